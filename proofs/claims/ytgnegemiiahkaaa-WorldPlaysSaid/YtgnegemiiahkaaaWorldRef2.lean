/- The contracts of headref.World's Append, of slices.Equal at []api.Peer and of headlaw.at. Conditions: what each theorem says. -/
import Derived.Test.YtgnegemiiahkaaaWorldMore
namespace Go.Proofs.Ytgnegemiiahkaaa
open Go Go.RowKit
set_option linter.unusedVariables false
set_option linter.unusedSimpArgs false

theorem law_at {w : World} {p : Option Addr} {n c i : Nat} {xs : List Int} (h : SI w p n c xs) (hi : i ≤ 1) {v : Int} (hv : gi xs i = v) :
    Calls Try.prog 24 #[.slice p n c, .int .i64 i] w fun e w' => e = .returned (.int .i64 v) ∧ w = w' := by
  have hm := h.2.1
  have HV := Lib.hid hv
  clear hv
  by_cases hin : i < n
  · obtain ⟨b, off, rfl, hlt, hc⟩ := h.cells (by omega)
    have c0 := hc i hin
    rw [HV.out] at c0
    clear hc
    go_enter Try.func24, Try.ntmps24
    go_wp2
    go_ret
    exact ⟨rfl, rfl⟩
  · obtain rfl : v = 0 := by rw [← HV.out]; exact gi_out (by rw [h.len]; omega)
    go_enter Try.func24, Try.ntmps24
    go_wp2
    go_ret
    exact ⟨rfl, rfl⟩

theorem neq_Peer (a b : Int) (d : Bool) (w : World) : (binOp .neq 53 (.agg #[.int .i64 a, .int .i64 b, .bool d]) (.agg #[.int .i64 a, .int .i64 b, .bool d])).run Try.prog w = .ok (.bool false) w := by
  have u3 := Try.underlying3
  have a3 := Try.isAgg3
  have z3 := Try.sizeOf3
  have u4 := Try.underlying4
  have a4 := Try.isAgg4
  have z4 := Try.sizeOf4
  have hS : Try.prog.underlying 53 = some (.struct (Try.prog.fieldsOf 53)) := by kernel_rfl
  have hp : Try.prog.stoodInHeld 53 = false := by kernel_rfl
  rw [run_neq_struct, show (10000 : Nat) = 9999 + 1 from rfl, run_equalIn_agg w 9999 53 _ _ hS hp]
  simp only [Program.fieldsOf, Try.underlying53]
  go_simp
set_option maxHeartbeats 800000 in
theorem equal_Peer {w : World} {p q : Option Addr} {n c d : Nat} {L : List Peer} (h : SR encP 3 w p n c L) (g : SR encP 3 w q n d L) :
    Calls Try.prog 30 #[.slice p n c, .slice q n d] w fun e w' => e = .returned (.bool true) ∧ Below w.heap.size w w' := by
  have hm := h.2.1
  have gm := g.2.1
  have hq := neq_Peer
  go_enter Try.func30, Try.ntmps30
  go_wp2
  go_loopw [13] (fun i wr => ∃ k : Nat, k ≤ n ∧ i = .int .i64 k ∧ Below w.heap.size w wr) (fun i _ => n - (intOf i).toNat)
  case atStart => exact ⟨0, Nat.zero_le _, rfl, Below.refl _ _⟩
  case round =>
    obtain ⟨k, hk, rfl, hb⟩ := hrel
    by_cases hkn : k < n
    · obtain ⟨b, off, rfl, hlt, hc⟩ := h.cells (by omega)
      obtain ⟨b', off', rfl, hlt', hc'⟩ := g.cells (by omega)
      have c0 : wr.cell? ⟨b, off + k * 3, none⟩ = some (.int .i64 (pl L k)) := (bdeep hb hlt _).trans (hc k hkn 0 (by omega))
      have c1 : wr.cell? ⟨b, off + k * 3 + 1, none⟩ = some (.int .i64 (pp L k)) := (bdeep hb hlt _).trans (hc k hkn 1 (by omega))
      have c2 : wr.cell? ⟨b, off + k * 3 + 2, none⟩ = some (.bool (pd L k)) := (bdeep hb hlt _).trans (hc k hkn 2 (by omega))
      have d0 : wr.cell? ⟨b', off' + k * 3, none⟩ = some (.int .i64 (pl L k)) := (bdeep hb hlt' _).trans (hc' k hkn 0 (by omega))
      have d1 : wr.cell? ⟨b', off' + k * 3 + 1, none⟩ = some (.int .i64 (pp L k)) := (bdeep hb hlt' _).trans (hc' k hkn 1 (by omega))
      have d2 : wr.cell? ⟨b', off' + k * 3 + 2, none⟩ = some (.bool (pd L k)) := (bdeep hb hlt' _).trans (hc' k hkn 2 (by omega))
      have HB := Lib.hid hb
      clear hc hc' h g hb
      go_wp2
      go_quiet (fail)
      go_wp2
      go_roundw
      case rel => exact ⟨k + 1, by omega, by go_num, below_drewN HB.out _⟩
      case measure => simp [intOf]; omega
    · have hkk : n = k := by omega
      subst hkk
      go_wp2
      go_ret
      exact ⟨rfl, hb⟩

set_option maxRecDepth 100000 in
set_option maxHeartbeats 800000 in
theorem ref_Append {w : World} {T : TypeId} {B g h : Nat} {rate unit a : Int} {n t : Nat} {L : List Peer} (k : WorldAt w T B g h rate unit n L t) (hn : n ≤ 8) (hG : GoodL L) (ha : -9223372036854775808 ≤ a ∧ a ≤ 9223372036854775807) (hBw : B ≤ w.heap.size) {r : Int} (hr : appErr L a = r) {M : List Peer} (hM : appL L a = M) :
    Calls Try.prog 26 #[.pointer (some ⟨g, 0, none⟩), .int .i64 a] w fun e w' => e = .returned (.int .i64 r) ∧ WorldAt w' T B g h rate unit n M t ∧ Below B w w' ∧ Only w w' g h := by
  obtain ⟨c0, c1, c2, c3, f3, hg, hh, hB, hl⟩ := k.cells
  have HL := Lib.hid hl
  have HR := Lib.hid hr
  have HM := Lib.hid hM
  have HG := Lib.hid hG
  clear hl hr hM c0 c1 c3 f3 hG
  by_cases h0 : a < 0
  · obtain rfl : r = 1 := by rw [← HR.out]; unfold appErr; rw [if_pos h0]
    obtain rfl : M = L := by rw [← HM.out]; unfold appL; rw [HR.out, if_neg (by omega)]
    go_enter Try.func26, Try.ntmps26
    go_wp2
    go_ret
    exact ⟨rfl, k, Below.refl _ _, Only.refl _ _ _⟩
  · go_enter Try.func26, Try.ntmps26
    go_wp2
    go_loopw [15] (fun i wr => ∃ j : Nat, j ≤ n ∧ i = .int .i64 j ∧ Hid (∀ x, x < j → ¬ 1000000 - pl L x < a) ∧ Below w.heap.size w wr) (fun i _ => n - (intOf i).toNat)
    case atStart => exact ⟨0, Nat.zero_le _, rfl, Lib.hid (fun x hx => by omega), Below.refl _ _⟩
    case round =>
      obtain ⟨j, hj, rfl, HJ, hb⟩ := hrel
      have K := k.below hb
      have hsz := hb.size
      by_cases hjn : j < n
      · obtain ⟨e0, e1, e2⟩ := cellsP K.own hjn
        obtain ⟨g1, g2, g3, g4⟩ := HG.out j (by rw [HL.out]; exact hjn)
        change 0 ≤ pp L j at g1
        change pp L j < pl L j ∨ (pl L j = 0 ∧ pp L j = 0) at g2
        change pl L j ≤ 1000000 at g4
        have g5 : 0 ≤ pl L j := by omega
        have hbA := hb.alloc hsz (.cells #[.int .i64 (pl L j), .int .i64 (pp L j), .bool (pd L j)] 53)
        have K2 := k.below hbA
        clear g2 g3
        by_cases hbig : 1000000 - pl L j < a
        · obtain rfl : r = 2 := by rw [← HR.out]; unfold appErr; rw [if_neg (by omega), if_pos ⟨j, by rw [HL.out]; exact hjn, hbig⟩]
          obtain rfl : M = L := by rw [← HM.out]; unfold appL; rw [HR.out, if_neg (by omega)]
          have hbB := hbA.mono hBw
          have hO := (Only.refl w g h).below hbA
          clear k K hb hbA
          go_wp2
          all_goals
            go_ret
            exact ⟨rfl, K2, hbB, hO⟩
        · clear K K2 hb
          go_wp2
          go_roundw
          case rel => exact ⟨j + 1, by omega, by go_num, Lib.hid (fun x hx => by rcases Nat.lt_succ_iff_lt_or_eq.1 hx with h | rfl; exact HJ.out x h; exact hbig), hbA⟩
          case measure => simp [intOf]; omega
      · obtain rfl : n = j := by omega
        have h00 : appErr L a = 0 := by
          unfold appErr
          rw [if_neg (by omega), if_neg (by rintro ⟨x, hx, hx2⟩; rw [HL.out] at hx; exact HJ.out x hx hx2)]
        obtain rfl : r = 0 := by rw [← HR.out]; exact h00
        have HM2 : Hid (M = tab n fun x => addP a (ge L x)) := Lib.hid (by rw [← HM.out]; unfold appL; rw [if_pos h00, HL.out])
        have hbB := hb.mono hBw
        have hO := (Only.refl w g h).below hb
        have hszB : B ≤ wr.heap.size := by omega
        obtain ⟨d0, d1, d2, d3, _, dg, dh, _, _⟩ := K.cells
        clear k hb hsz c2 h00 d0 d1 d3
        go_wp2
        go_loopw [31] (fun i wv => ∃ j : Nat, j ≤ n ∧ i = .int .i64 j ∧ WorldAt wv T B g h rate unit n (tab n fun x => if x < j then addP a (ge L x) else ge L x) t ∧ Below B w wv ∧ B ≤ wv.heap.size ∧ Only w wv g h) (fun i _ => n - (intOf i).toNat)
        case atStart => exact ⟨0, Nat.zero_le _, rfl, K.to (by simp only [Nat.not_lt_zero, if_false]; rw [← HL.out, tab_ge]) rfl, hbB, hszB, hO⟩
        case round =>
          rename_i wv
          clear K hbB hszB d2 dg dh hO
          obtain ⟨j, hj, rfl, K, hb, hsz, hO⟩ := hrel
          obtain ⟨d0, d1, d2, d3, _, dg, dh, _, _⟩ := K.cells
          by_cases hjn : j < n
          · obtain ⟨e0, e1, e2⟩ := cellsP K.own hjn
            obtain ⟨f0, f1, f2⟩ := freeP K.own j
            have hv : ge (tab n fun x => if x < j then addP a (ge L x) else ge L x) j = ge L j := by rw [ge_tab hjn, if_neg (Nat.lt_irrefl _)]
            rw [show pl (tab n fun x => if x < j then addP a (ge L x) else ge L x) j = pl L j by unfold pl; rw [hv]] at e0
            rw [show pp (tab n fun x => if x < j then addP a (ge L x) else ge L x) j = pp L j by unfold pp; rw [hv]] at e1
            rw [show pd (tab n fun x => if x < j then addP a (ge L x) else ge L x) j = pd L j by unfold pd; rw [hv]] at e2
            obtain ⟨g1, g2, g3, g4⟩ := HG.out j (by rw [HL.out]; exact hjn)
            change pl L j ≤ 1000000 at g4
            change 0 ≤ pp L j at g1
            change pp L j < pl L j ∨ (pl L j = 0 ∧ pp L j = 0) at g2
            change pd L j = decide (pl L j = 0) at g3
            have g5 : 0 ≤ pl L j := by omega
            have g6 : a ≤ 1000000 - pl L j := by have := HJ.out j hjn; omega
            have g7 : 0 ≤ a := by omega
            have HG3 := Lib.hid g3
            clear g2 g3
            have HTT := Lib.hid (show ∀ x : Peer, x = addP a (ge L j) → (tab n fun x => if x < j then addP a (ge L x) else ge L x).set j x = tab n fun x => if x < j + 1 then addP a (ge L x) else ge L x by
              rintro x rfl
              rw [tab_set]
              refine tab_congr fun x hx => ?_
              by_cases e : x = j
              · subst e; rw [if_pos rfl, if_pos (by omega)]
              · rw [if_neg e]; by_cases e2 : x < j
                · rw [if_pos e2, if_pos (by omega)]
                · rw [if_neg e2, if_neg (by omega)])
            have K1 := K.upd (f := 0) (x := (pl L j + a, pp L j, pd L j)) (v := .int .i64 (pl L j + a)) hjn (by omega) (by rw [hv]; rfl)
            have b1 := hb.setCell (p := ⟨h, j * 3, none⟩) hB (.int .i64 (pl L j + a))
            have o1 := hO.set (j := j * 3) (v := .int .i64 (pl L j + a)) (.inr rfl)
            by_cases hz : 0 < pl L j + a
            · have K3 := K1.upd (f := 2) (x := addP a (ge L j)) (v := .bool false) hjn (by omega) (by rw [ge_set j (by rw [tab_length]; exact hjn), if_pos rfl]; unfold addP; rw [show decide ((ge L j).1 + a = 0) = false from decide_eq_false (by change ¬ pl L j + a = 0; omega)]; rfl)
              have HT := Lib.hid (show ((tab n fun x => if x < j then addP a (ge L x) else ge L x).set j (pl L j + a, pp L j, pd L j)).set j (addP a (ge L j)) = tab n fun x => if x < j + 1 then addP a (ge L x) else ge L x by rw [List.set_set]; exact HTT.out _ rfl)
              have b2 := b1.setCell (p := ⟨h, j * 3 + 2, none⟩) hB (.bool false)
              have o2 := o1.set (j := j * 3 + 2) (v := .bool false) (.inr rfl)
              clear K hv K1
              go_wp2
              go_roundw
              case rel => exact ⟨j + 1, by omega, by go_num, K3.to HT.out rfl, b2, by simp; exact hsz, o2⟩
              case measure => simp [intOf]; omega
            · have HT := Lib.hid (HTT.out (pl L j + a, pp L j, pd L j) (by unfold addP; rw [HG3.out]; show (pl L j + a, pp L j, decide (pl L j = 0)) = (pl L j + a, pp L j, decide (pl L j + a = 0)); rw [show pl L j = 0 by omega, show a = 0 by omega]; rfl))
              clear K hv
              go_wp2
              go_roundw
              case rel => exact ⟨j + 1, by omega, by go_num, K1.to HT.out rfl, b1, by simp; exact hsz, o1⟩
              case measure => simp [intOf]; omega
          · obtain rfl : n = j := by omega
            have K2 := K.to (L' := M) (t' := t) (by rw [HM2.out]; exact tab_congr fun x hx => by rw [if_pos hx]) rfl
            clear K
            go_wp2
            go_ret
            exact ⟨rfl, K2, hb, hO⟩
end Go.Proofs.Ytgnegemiiahkaaa
