/- The contracts of world.New, World.Append, Crash and Peers (P72, P73, P75, P76). Conditions: at most 8 peers, and what holds of a peer. -/
import Derived.Test.YtgbccpfehcjhbaaGreatDoorWorld
import Derived.RegionTactic
import Derived.BigRegion
namespace Go.Proofs.YtgbccpfehcjhbaaGreatDoor
open Go Go.RowKit
set_option linter.unusedVariables false
set_option linter.unusedSimpArgs false

theorem world_Crash {w : World} {T : TypeId} {B g h : Nat} {rate unit i : Int} {n t : Nat} {L : List Peer} (k : WorldAt w T B g h rate unit n L t) (hn : n ≤ 8) {r : Int} (hr : crErr L i = r) {M : List Peer} (hM : crL L i = M) :
    Calls Tryz.prog 112 #[.pointer (some ⟨g, 0, none⟩), .int .i64 i] w fun e w' => e = .returned (.int .i64 r) ∧ WorldAt w' T B g h rate unit n M t ∧ Below B w w' ∧ Only w w' g h := by
  obtain ⟨c0, c1, c2, c3, f3, hg, hh, hB, hl⟩ := k.cells
  have HL := Lib.hid hl
  have HR := Lib.hid hr
  have HM := Lib.hid hM
  clear hl hr hM c0 c1 c3 f3
  by_cases h0 : i < 0
  · obtain rfl : r = 1 := by rw [← HR.out]; unfold crErr; rw [if_pos (.inl h0)]
    obtain rfl : M = L := by rw [← HM.out]; unfold crL; rw [if_pos (.inl h0)]
    go_enter Tryz.func112, Tryz.ntmps112
    go_wp2
    go_ret
    exact ⟨rfl, k, Below.refl _ _, Only.refl _ _ _⟩
  · obtain ⟨j, rfl⟩ := Int.eq_ofNat_of_zero_le (show 0 ≤ i by omega)
    by_cases h1 : j < n
    · obtain rfl : r = 0 := by rw [← HR.out]; unfold crErr; rw [if_neg (by rw [HL.out]; omega)]
      have HM2 : Hid (L.set j (pl L j, 0, pd L j) = M) := Lib.hid (by rw [← HM.out]; unfold crL; rw [if_neg (by rw [HL.out]; omega)]; rfl)
      obtain ⟨e0, e1, e2⟩ := cellsP k.own h1
      obtain ⟨f0, f1, f2⟩ := freeP k.own j
      have K := k.upd (f := 1) (x := (pl L j, 0, pd L j)) (v := .int .i64 0) h1 (by omega) rfl
      have hb := (Below.refl B w).setCell (p := ⟨h, j * 3 + 1, none⟩) hB (.int .i64 0)
      have hO := (Only.refl w g h).set (j := j * 3 + 1) (v := .int .i64 0) (.inr rfl)
      clear k
      go_enter Tryz.func112, Tryz.ntmps112
      go_wp2
      go_ret
      exact ⟨rfl, K.to HM2.out rfl, hb, hO⟩
    · obtain rfl : r = 1 := by rw [← HR.out]; unfold crErr; rw [if_pos (.inr (by rw [HL.out]; omega))]
      obtain rfl : M = L := by rw [← HM.out]; unfold crL; rw [if_pos (.inr (by rw [HL.out]; omega))]
      go_enter Tryz.func112, Tryz.ntmps112
      go_wp2
      go_ret
      exact ⟨rfl, k, Below.refl _ _, Only.refl _ _ _⟩

theorem world_Peers {w : World} {T : TypeId} {B g h : Nat} {rate unit : Int} {n t : Nat} {L : List Peer} (k : WorldAt w T B g h rate unit n L t) (hn : n ≤ 8) :
    Calls Tryz.prog 116 #[.pointer (some ⟨g, 0, none⟩)] w fun e w' => ∃ q d, e = .returned (.slice q n d) ∧ OwnR 67 encP 3 w' w.heap.size q n d L ∧ Below w.heap.size w w' := by
  obtain ⟨c0, c1, c2, c3, f3, hg, hh, hB, hl⟩ := k.cells
  have hS := k.own.sr encP_len
  go_enter Tryz.func116, Tryz.ntmps116
  go_wp2_with (at_builtin; refine wpL_append_R Tryz.tyPeers rfl (by omega) (by omega) encP_len encP_oneC rfl rfl (B := w.heap.size) (W0 := w) (by first | rfl | simp [Act.eval]) (by first | rfl | simp [Act.eval]) (OwnR.nil _ _) hS (Below.refl _ _) (by omega) (Nat.le_refl _) ?_; intro p' c' w3 ho1 hb3 hg1)
  rw [Nat.zero_add] at *
  go_ret
  exact ⟨_, _, rfl, (by simpa using ho1), hb3⟩

set_option maxRecDepth 100000 in
set_option maxHeartbeats 800000 in
theorem world_Append {w : World} {T : TypeId} {B g h : Nat} {rate unit a : Int} {n t : Nat} {L : List Peer} (k : WorldAt w T B g h rate unit n L t) (hn : n ≤ 8) (hG : GoodL L) (ha : -9223372036854775808 ≤ a ∧ a ≤ 9223372036854775807) (hBw : B ≤ w.heap.size) {r : Int} (hr : appErr L a = r) {M : List Peer} (hM : appL L a = M) :
    Calls Tryz.prog 110 #[.pointer (some ⟨g, 0, none⟩), .int .i64 a] w fun e w' => e = .returned (.int .i64 r) ∧ WorldAt w' T B g h rate unit n M t ∧ Below B w w' ∧ Only w w' g h := by
  obtain ⟨c0, c1, c2, c3, f3, hg, hh, hB, hl⟩ := k.cells
  have HL := Lib.hid hl
  have HR := Lib.hid hr
  have HM := Lib.hid hM
  have HG := Lib.hid hG
  clear hl hr hM c0 c1 c3 f3 hG
  by_cases h0 : a < 0
  · obtain rfl : r = 1 := by rw [← HR.out]; unfold appErr; rw [if_pos h0]
    obtain rfl : M = L := by rw [← HM.out]; unfold appL; rw [HR.out, if_neg (by omega)]
    go_enter Tryz.func110, Tryz.ntmps110
    go_wp2
    go_ret
    exact ⟨rfl, k, Below.refl _ _, Only.refl _ _ _⟩
  · go_enter Tryz.func110, Tryz.ntmps110
    go_wp2
    go_loopw [15] (fun i wr => ∃ j : Nat, j ≤ n ∧ i = .int .i64 j ∧ Hid (∀ x, x < j → ¬ 1000000 - pl L x < a) ∧ Below w.heap.size w wr) (fun i _ => n - (intOf i).toNat)
    case atStart => exact ⟨0, Nat.zero_le _, rfl, Lib.hid (fun x hx => by omega), Below.refl _ _⟩
    case round =>
      obtain ⟨j, hj, rfl, HJ, hb⟩ := hrel
      have K := k.below hb
      have hsz := hb.size
      by_cases hjn : j < n
      · obtain ⟨e0, e1, e2⟩ := cellsP K.own hjn
        obtain ⟨g1, g2, g3, g4⟩ := HG.out j (by rw [HL.out]; exact hjn)
        change 0 ≤ pp L j at g1
        change pp L j < pl L j ∨ (pl L j = 0 ∧ pp L j = 0) at g2
        change pl L j ≤ 1000000 at g4
        have g5 : 0 ≤ pl L j := by omega
        have hbA := hb.alloc hsz (.cells #[.int .i64 (pl L j), .int .i64 (pp L j), .bool (pd L j)] 67)
        have K2 := k.below hbA
        clear g2 g3
        by_cases hbig : 1000000 - pl L j < a
        · obtain rfl : r = 2 := by rw [← HR.out]; unfold appErr; rw [if_neg (by omega), if_pos ⟨j, by rw [HL.out]; exact hjn, hbig⟩]
          obtain rfl : M = L := by rw [← HM.out]; unfold appL; rw [HR.out, if_neg (by omega)]
          have hbB := hbA.mono hBw
          have hO := (Only.refl w g h).below hbA
          clear k K hb hbA
          go_wp2
          go_ret
          exact ⟨rfl, K2, hbB, hO⟩
        · clear K K2 hb
          go_wp2
          go_roundw
          case rel => exact ⟨j + 1, by omega, by go_num, Lib.hid (fun x hx => by rcases Nat.lt_succ_iff_lt_or_eq.1 hx with h | rfl; exact HJ.out x h; exact hbig), hbA⟩
          case measure => simp [intOf]; omega
      · obtain rfl : n = j := by omega
        have h00 : appErr L a = 0 := by
          unfold appErr
          rw [if_neg (by omega), if_neg (by rintro ⟨x, hx, hx2⟩; rw [HL.out] at hx; exact HJ.out x hx hx2)]
        obtain rfl : r = 0 := by rw [← HR.out]; exact h00
        have HM2 : Hid (M = tab n fun x => addP a (ge L x)) := Lib.hid (by rw [← HM.out]; unfold appL; rw [if_pos h00, HL.out])
        have hbB := hb.mono hBw
        have hO := (Only.refl w g h).below hb
        have hszB : B ≤ wr.heap.size := by omega
        obtain ⟨d0, d1, d2, d3, _, dg, dh, _, _⟩ := K.cells
        clear k hb hsz c2 h00 d0 d1 d3
        go_wp2
        go_loopw [30] (fun i wv => ∃ j : Nat, j ≤ n ∧ i = .int .i64 j ∧ WorldAt wv T B g h rate unit n (tab n fun x => if x < j then addP a (ge L x) else ge L x) t ∧ Below B w wv ∧ B ≤ wv.heap.size ∧ Only w wv g h) (fun i _ => n - (intOf i).toNat)
        case atStart => exact ⟨0, Nat.zero_le _, rfl, K.to (by simp only [Nat.not_lt_zero, if_false]; rw [← HL.out, tab_ge]) rfl, hbB, hszB, hO⟩
        case round =>
          rename_i wv
          clear K hbB hszB d2 dg dh hO
          obtain ⟨j, hj, rfl, K, hb, hsz, hO⟩ := hrel
          obtain ⟨d0, d1, d2, d3, _, dg, dh, _, _⟩ := K.cells
          by_cases hjn : j < n
          · obtain ⟨e0, e1, e2⟩ := cellsP K.own hjn
            obtain ⟨f0, f1, f2⟩ := freeP K.own j
            have hv : ge (tab n fun x => if x < j then addP a (ge L x) else ge L x) j = ge L j := by rw [ge_tab hjn, if_neg (Nat.lt_irrefl _)]
            rw [show pl (tab n fun x => if x < j then addP a (ge L x) else ge L x) j = pl L j by unfold pl; rw [hv]] at e0
            rw [show pp (tab n fun x => if x < j then addP a (ge L x) else ge L x) j = pp L j by unfold pp; rw [hv]] at e1
            rw [show pd (tab n fun x => if x < j then addP a (ge L x) else ge L x) j = pd L j by unfold pd; rw [hv]] at e2
            obtain ⟨g1, g2, g3, g4⟩ := HG.out j (by rw [HL.out]; exact hjn)
            change pl L j ≤ 1000000 at g4
            change 0 ≤ pp L j at g1
            change pp L j < pl L j ∨ (pl L j = 0 ∧ pp L j = 0) at g2
            have g5 : 0 ≤ pl L j := by omega
            have g6 : a ≤ 1000000 - pl L j := by have := HJ.out j hjn; omega
            have g7 : 0 ≤ a := by omega
            clear g2 g3
            have KN := fun s : Nat => (((K.upd (f := 0) (x := (pl L j + a, pp L j, pd L j)) (v := .int .i64 (pl L j + a)) hjn (by omega) (by rw [hv]; rfl)).drewN s).upd (f := 2) (x := addP a (ge L j)) (v := .bool (pl L j + a == 0)) hjn (by omega) (by rw [ge_set j (by rw [tab_length]; exact hjn), if_pos rfl]; rfl))
            have HT := Lib.hid (show ((tab n fun x => if x < j then addP a (ge L x) else ge L x).set j (pl L j + a, pp L j, pd L j)).set j (addP a (ge L j)) = tab n fun x => if x < j + 1 then addP a (ge L x) else ge L x by
              rw [List.set_set, tab_set]
              refine tab_congr fun x hx => ?_
              by_cases e : x = j
              · subst e; rw [if_pos rfl, if_pos (by omega)]
              · rw [if_neg e]; by_cases e2 : x < j
                · rw [if_pos e2, if_pos (by omega)]
                · rw [if_neg e2, if_neg (by omega)])
            have BN := fun s : Nat => (below_drewN (hb.setCell (p := ⟨h, j * 3, none⟩) hB (.int .i64 (pl L j + a))) s).setCell (p := ⟨h, j * 3 + 2, none⟩) hB (.bool (pl L j + a == 0))
            have ON := fun s : Nat => ((hO.set (j := j * 3) (v := .int .i64 (pl L j + a)) (.inr rfl)).drewN s).set (j := j * 3 + 2) (v := .bool (pl L j + a == 0)) (.inr rfl)
            clear K hv
            go_wp2
            go_region
            go_wp2
            go_roundw
            case rel => exact ⟨j + 1, by omega, by go_num, (KN _).to HT.out rfl, BN _, by simp; exact hsz, ON _⟩
            case measure => simp [intOf]; omega
          · obtain rfl : n = j := by omega
            have K2 := K.to (L' := M) (t' := t) (by rw [HM2.out]; exact tab_congr fun x hx => by rw [if_pos hx]) rfl
            clear K
            go_wp2
            go_ret
            exact ⟨rfl, K2, hb, hO⟩

theorem world_New_bad {w : World} {n rate unit : Int} (h : n < 1 ∨ (1 ≤ n ∧ 8 < n) ∨ (1 ≤ n ∧ n ≤ 8 ∧ rate < 0) ∨ (1 ≤ n ∧ n ≤ 8 ∧ 0 ≤ rate ∧ 1000 < rate) ∨ (1 ≤ n ∧ n ≤ 8 ∧ 0 ≤ rate ∧ rate ≤ 1000 ∧ unit < 1) ∨ (1 ≤ n ∧ n ≤ 8 ∧ 0 ≤ rate ∧ rate ≤ 1000 ∧ 1 ≤ unit ∧ 1000 < unit)) :
    Calls Tryz.prog 19 #[.int .i64 n, .int .i64 rate, .int .i64 unit] w fun e w' => e = .returned (.tuple #[.pointer none, .int .i64 1]) ∧ w' = w := by
  rcases h with h | ⟨h1, h2⟩ | ⟨h1, h2, h3⟩ | ⟨h1, h2, h3, h4⟩ | ⟨h1, h2, h3, h4, h5⟩ | ⟨h1, h2, h3, h4, h5, h6⟩
  all_goals
    go_enter Tryz.func19, Tryz.ntmps19
    go_wp2
    go_ret2
    exact ⟨rfl, rfl⟩
set_option maxRecDepth 100000 in
set_option maxHeartbeats 800000 in
theorem world_New {w : World} {n : Nat} {rate unit : Int} (h1 : 1 ≤ n) (h2 : n ≤ 8) (h3 : 0 ≤ rate) (h4 : rate ≤ 1000) (h5 : 1 ≤ unit) (h6 : unit ≤ 1000) :
    Calls Tryz.prog 19 #[.int .i64 (n : Int), .int .i64 rate, .int .i64 unit] w fun e w' => ∃ g h, e = .returned (.tuple #[.pointer (some ⟨g, 0, none⟩), .int .i64 0]) ∧ WorldAt w' 85 w.heap.size g h rate unit n (tab n fun _ => (0, 0, true)) 0 ∧ Below w.heap.size w w' := by
  go_enter Tryz.func19, Tryz.ntmps19
  go_wp2_with (refine wpL_make_R (z0 := ((0, 0, false) : Peer)) Tryz.tyPeers rfl encP_len (by omega) (by omega) (by omega) rfl rfl n (by first | rfl | simp [Act.eval]) (by first | rfl | simp [Act.eval]) rfl rfl (Below.refl w.heap.size w) (by omega) (Nat.le_refl _) ?_; intro h w1 hge ho hb1 hb0)
  have hX := blk_new w1 #[.int .i64 rate, .int .i64 unit, .slice (some ⟨h, 0, none⟩) n n, .int .i64 0] 85
  have hoA := ho.alloc (.cells #[.int .i64 rate, .int .i64 unit, .slice (some ⟨h, 0, none⟩) n n, .int .i64 0] 85)
  have hbA := hb1.alloc hb1.size (.cells #[.int .i64 rate, .int .i64 unit, .slice (some ⟨h, 0, none⟩) n n, .int .i64 0] 85)
  have K : WorldAt (w1.alloc (.cells #[.int .i64 rate, .int .i64 unit, .slice (some ⟨h, 0, none⟩) n n, .int .i64 0] 85)) 85 w.heap.size w1.heap.size h rate unit n (tab n fun x => (0, 0, decide (x < 0))) 0 :=
    ⟨hX, by simpa using hoA, hb1.size, fun e => by have := ho.blk.2; omega⟩
  have hszA := hbA.size
  clear hX hoA ho hb1 hb0
  go_wp2
  generalize w1.alloc (.cells #[.int .i64 rate, .int .i64 unit, .slice (some ⟨h, 0, none⟩) n n, .int .i64 0] 85) = WA at *
  generalize w1.heap.size = g at *
  go_loopw [43] (fun i wr => ∃ j : Nat, j ≤ n ∧ i = .int .i64 j ∧ WorldAt wr 85 w.heap.size g h rate unit n (tab n fun x => (0, 0, decide (x < j))) 0 ∧ Below w.heap.size w wr) (fun i _ => n - (intOf i).toNat)
  case atStart => exact ⟨0, Nat.zero_le _, rfl, K, hbA⟩
  case round =>
    clear K hbA hszA
    obtain ⟨j, hj, rfl, K, hb⟩ := hrel
    obtain ⟨d0, d1, d2, d3, _, dg, dh, dB, _⟩ := K.cells
    by_cases hjn : j < n
    · obtain ⟨e0, e1, e2⟩ := cellsP K.own hjn
      obtain ⟨f0, f1, f2⟩ := freeP K.own j
      have KN := K.upd (f := 2) (x := ((0, 0, true) : Peer)) (v := .bool true) hjn (by omega) (by rw [ge_tab hjn]; rfl)
      have HT := Lib.hid (show ((tab n fun x => ((0, 0, decide (x < j)) : Peer)).set j (0, 0, true)) = tab n fun x => (0, 0, decide (x < j + 1)) by
        rw [tab_set]
        refine tab_congr fun x hx => ?_
        by_cases e : x = j
        · subst e; rw [if_pos rfl, decide_eq_true (by omega)]
        · rw [if_neg e]; congr 2; simp only [decide_eq_decide]; omega)
      have BN := hb.setCell (p := ⟨h, j * 3 + 2, none⟩) dB (.bool true)
      clear K
      go_wp2
      go_roundw
      case rel => exact ⟨j + 1, by omega, by go_num, KN.to HT.out rfl, BN⟩
      case measure => simp [intOf]; omega
    · obtain rfl : n = j := by omega
      have K2 := K.to (L' := tab n fun _ => (0, 0, true)) (t' := 0) (tab_congr fun x hx => by rw [decide_eq_true hx]) rfl
      clear K
      go_wp2
      go_ret2
      exact ⟨g, h, rfl, K2, hb⟩
end Go.Proofs.YtgbccpfehcjhbaaGreatDoor
