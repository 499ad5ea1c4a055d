/- The contract of slices.SortStableFunc at []api.Task by the Dues (P49). Conditions: at most 12 elements. -/
import Derived.Test.YtgnegemiiahkaaaTaskRow
import Derived.Test.YtgnegemiiahkaaaEdfSort
import Derived.IntWalk
namespace Go.Proofs.Ytgnegemiiahkaaa
open Go Go.RowKit
set_option linter.unusedVariables false
set_option linter.unusedSimpArgs false

theorem ranks_cmp {W : World} {a b c x y z : Int} (h1 : 0 ≤ c ∧ c ≤ 100000) (h2 : 0 ≤ z ∧ z ≤ 100000) :
    Calls Try.prog 73 #[.agg #[.int .i64 a, .int .i64 b, .int .i64 c], .agg #[.int .i64 x, .int .i64 y, .int .i64 z]] W fun e w' => e = .returned (.int .i64 (c - z)) ∧ Below W.heap.size W w' := by
  have hb := ((Below.refl W.heap.size W).alloc (Nat.le_refl _) (.cells #[.int .i64 a, .int .i64 b, .int .i64 c] 66)).alloc (by simp) (.cells #[.int .i64 x, .int .i64 y, .int .i64 z] 66)
  go_enter Try.func73, Try.ntmps73
  go_wp2
  go_ret
  exact ⟨rfl, hb⟩
/-- the k-th of the order o -/
def elE (xs : List (Int × Int × Int)) (o : Nat → Nat) (n k : Nat) : Int × Int × Int := (t0 xs (o k), t1 xs (o k), t2 xs (o k))
theorem cells_el {w : World} {B g n d k : Nat} {xs : List (Int × Int × Int)} {f : Nat → Nat} (ho : OwnR 66 enc3 3 w B (some ⟨g, 0, none⟩) n d (tab n fun k => elE xs f n k)) (hk : k < n) :
    w.cell? ⟨g, k * 3, none⟩ = some (.int .i64 (t0 xs (f k))) ∧ w.cell? ⟨g, k * 3 + 1, none⟩ = some (.int .i64 (t1 xs (f k))) ∧ w.cell? ⟨g, k * 3 + 2, none⟩ = some (.int .i64 (t2 xs (f k))) := by
  have h0 := ho.at enc3_len hk (i := 0) (by omega)
  have h1 := ho.at enc3_len hk (i := 1) (by omega)
  have h2 := ho.at enc3_len hk (i := 2) (by omega)
  rw [ge_tab hk] at h0 h1 h2
  exact ⟨h0, h1, h2⟩
theorem OwnR.toT {w : World} {B n c : Nat} {p : Option Addr} {z z' : Nat → Int × Int × Int} (h : OwnR 66 enc3 3 w B p n c (tab n z)) (e : ∀ j, j < n → z j = z' j) : OwnR 66 enc3 3 w B p n c (tab n z') := by
  rw [tab_congr e] at h; exact h
theorem OwnR.putT {w : World} {B g n c : Nat} {z z' : Nat → Int × Int × Int} (h : OwnR 66 enc3 3 w B (some ⟨g, 0, none⟩) n c (tab n z)) (t : Nat) (ht : t < n) (x : Int × Int × Int) (e : ∀ j, j < n → (if j = t then x else z j) = z' j) : OwnR 66 enc3 3 (Go.Proofs.Ytgnegemiiahkaaa.setEl w g t x) B (some ⟨g, 0, none⟩) n c (tab n z') := by
  have := h.setEl ht x
  rw [tab_set, tab_congr e] at this
  exact this
theorem OwnR.drewR {w : World} {B n c : Nat} {p : Option Addr} {L : List (Int × Int × Int)} (h : OwnR 66 enc3 3 w B p n c L) : OwnR 66 enc3 3 w.drew B p n c L := ⟨h.1.drew, h.2⟩
theorem below_setEl {B g j : Nat} {w0 w : World} {x : Int × Int × Int} (h : Below B w0 w) (hg : B ≤ g) : Below B w0 (Go.Proofs.Ytgnegemiiahkaaa.setEl w g j x) :=
  ((h.setCell (p := ⟨g, j * 3, none⟩) hg _).setCell (p := ⟨g, j * 3 + 1, none⟩) hg _).setCell (p := ⟨g, j * 3 + 2, none⟩) hg _

theorem el_swap {xs : List (Int × Int × Int)} {o : Nat → Nat} {i j k n : Nat} (h0 : 0 < j) (hj : j ≤ i) : (if k = j - 1 then (t0 xs i, t1 xs i, t2 xs i) else if k = j then elE xs o n (j - 1) else elE xs (midE o i j) n k) = elE xs (midE o i (j - 1)) n k := by
  unfold elE
  rw [mid_swap h0 hj]
  by_cases h1 : k = j - 1
  · rw [if_pos h1, if_pos h1]
  · simp only [if_neg h1]
    by_cases h2 : k = j
    · simp only [if_pos h2]
    · simp only [if_neg h2]
set_option maxRecDepth 100000 in
set_option maxHeartbeats 6400000 in
theorem sort_insT {w : World} {B g n d : Nat} {xs : List (Int × Int × Int)} (hA : ∀ j, j < n → 0 ≤ t2 xs j ∧ t2 xs j ≤ 60) (hBw : B ≤ w.heap.size) (hn : n ≤ 12) (h0 : 0 < n)
    (ho : OwnR 66 enc3 3 w B (some ⟨g, 0, none⟩) n d (tab n fun k => elE xs (fun k => k) n k)) :
    Calls Try.prog 112 #[.slice (some ⟨g, 0, none⟩) n d, .int .i64 0, .int .i64 n, .func (.func 73) #[] #[]] w fun e w' => e = .returned (.tuple #[]) ∧
      ∃ o, OrderE (t2 xs) o n ∧ OwnR 66 enc3 3 w' B (some ⟨g, 0, none⟩) n d (tab n fun k => elE xs o n k) ∧ Below B w w' := by
  have hcap := (ho.sr enc3_len).2.1
  have HA := Lib.hid hA
  clear hA
  go_enter Try.func112, Try.ntmps112
  go_wp2
  go_loopw [8] (fun iv wr => ∃ (i : Nat) (o : Nat → Nat), iv = .int .i64 i ∧ 1 ≤ i ∧ i ≤ n ∧ Hid (OrderE (t2 xs) o i) ∧ OwnR 66 enc3 3 wr B (some ⟨g, 0, none⟩) n d (tab n fun k => elE xs (curE o i) n k) ∧ Below B w wr ∧ B ≤ wr.heap.size) (fun iv _ => n - (intOf iv).toNat)
  case atStart => exact ⟨1, fun k => k, rfl, by omega, by omega, Lib.hid (OrderE.one _ _ rfl), ho.toT (fun j hj => by unfold elE curE; simp only [ite_self]), Below.refl _ _, hBw⟩
  case round =>
    clear ho
    obtain ⟨i, o, rfl, hi1, hin, HO, ho, hb, hsz⟩ := hrel
    by_cases hlt : i < n
    · go_wp2
      go_loopw [9] (fun jv wr => ∃ (j : Nat), jv = .int .i64 j ∧ j ≤ i ∧ Hid (∀ k, j ≤ k → k < i → t2 xs i < t2 xs (o k)) ∧ OwnR 66 enc3 3 wr B (some ⟨g, 0, none⟩) n d (tab n fun k => elE xs (midE o i j) n k) ∧ Below B w wr ∧ B ≤ wr.heap.size) (fun jv _ => (intOf jv).toNat)
      case atStart => exact ⟨i, rfl, Nat.le_refl _, Lib.hid (fun k h1 h2 => by omega), ho.toT (fun j hj => by unfold elE; rw [mid_start_eq]), hb, hsz⟩
      case round =>
        clear ho hb hsz
        obtain ⟨j, rfl, hji, HJ, ho, hb, hsz⟩ := hrel
        have hgb := ho.blk
        by_cases hj0 : 0 < j
        · have e1 : midE o i j j = i := by unfold midE insE; rw [if_pos hji, if_neg (by omega), if_pos rfl]
          have e2 : midE o i j (j - 1) = o (j - 1) := by unfold midE insE; rw [if_pos (by omega), if_pos (by omega)]
          obtain ⟨c0, c1, c2⟩ := cells_el ho (k := j) (by omega)
          obtain ⟨d0, d1, d2⟩ := cells_el ho (k := j - 1) (by omega)
          rw [e1] at c0 c1 c2
          rw [e2] at d0 d1 d2
          have hoj := HO.out.lt (j - 1) (by omega)
          have a1 := HA.out i (by omega)
          have a2 := HA.out (o (j - 1)) (by omega)
          have bc0 := BelowOf.cell c0 hgb.2; have bc1 := BelowOf.cell c1 hgb.2; have bc2 := BelowOf.cell c2 hgb.2
          have bd0 := BelowOf.cell d0 hgb.2; have bd1 := BelowOf.cell d1 hgb.2; have bd2 := BelowOf.cell d2 hgb.2
          have q0 : decide ((0 : Int) < (j : Int)) = true := by simp; omega
          have q1 : (j : Int) < (n : Int) := by omega
          have q2 : IntKind.i64.wrap ((j : Int) - 1) = (j : Int) - 1 := IntWalk.i64_in _ (by omega)
          have q3 : 0 ≤ (j : Int) - 1 := by omega
          have q4 : (j : Int) - 1 < (n : Int) := by omega
          have q5 : ((j : Int) - 1).toNat = j - 1 := by omega
          have q6 : (1 : Int) ≤ (j : Int) := by omega
          have q7 : 1 ≤ j := by omega
          by_cases hd : t2 xs i < t2 xs (o (j - 1))
          · have q8 : decide (t2 xs i - t2 xs (o (j - 1)) < 0) = true := by simp; omega
            have HJ2 := Lib.hid (fun k (h1 : j - 1 ≤ k) (h2 : k < i) => (by
              by_cases e : k = j - 1
              · subst e; exact hd
              · exact HJ.out k (by omega) h2 : t2 xs i < t2 xs (o k)))
            clear hd
            go_wp2
            refine wp_region_quiet_below (by kernel_rfl) (by kernel_rfl) ?_
            repeat (quiet_step (exact calls_below (ranks_cmp (by omega) (by omega))))
            refine wpQuiet_nil ?_
            intro v hq
            have hcur : Below wr.heap.size wr v := by obtain ⟨q, hq2⟩ := hq; rw [hq2]; exact q.prop
            have hoV := ho.below hcur
            have hbV := hb.trans (hcur.mono hsz)
            have hszV : B ≤ v.heap.size := Nat.le_trans hsz hcur.size
            clear hq bc0 bc1 bc2 bd0 bd1 bd2 c0 c1 c2 d0 d1 d2 ho hb
            obtain ⟨c0, c1, c2⟩ := cells_el hoV (k := j) (by omega)
            obtain ⟨d0, d1, d2⟩ := cells_el hoV (k := j - 1) (by omega)
            rw [e1] at c0 c1 c2
            rw [e2] at d0 d1 d2
            have f0 := hoV.free (j * 3); have f1 := hoV.free (j * 3 + 1); have f2 := hoV.free (j * 3 + 2)
            have f3 := hoV.free ((j - 1) * 3); have f4 := hoV.free ((j - 1) * 3 + 1); have f5 := hoV.free ((j - 1) * 3 + 2)
            have g1 : j * 3 = (j - 1) * 3 + 3 := by omega
            have G1 := Lib.hid g1
            clear g1
            go_wp2
            go_region
            all_goals
              have P1 := hoV.putT j (by omega) (t0 xs (o (j - 1)), t1 xs (o (j - 1)), t2 xs (o (j - 1))) (z' := fun k => if k = j then elE xs o n (j - 1) else elE xs (midE o i j) n k) (fun _ _ => rfl)
              have P2 := P1.putT (j - 1) (by omega) (t0 xs i, t1 xs i, t2 xs i) (z' := fun k => elE xs (midE o i (j - 1)) n k) (fun k hk => el_swap hj0 hji)
              have PB := Below.drew (below_setEl (j := j - 1) (x := (t0 xs i, t1 xs i, t2 xs i)) (below_setEl (j := j) (x := (t0 xs (o (j - 1)), t1 xs (o (j - 1)), t2 xs (o (j - 1)))) hbV hgb.1) hgb.1)
              go_wp2
              go_roundw
              case rel => exact ⟨j - 1, by go_num, by omega, HJ2, P2.drewR, PB, by simp; omega⟩
              case measure => simp [intOf]; omega
          · have q8 : decide (t2 xs i - t2 xs (o (j - 1)) < 0) = false := by simp; omega
            have HN := Lib.hid (HO.out.ins hji HJ.out (.inr (by omega)))
            clear hd
            go_wp2
            refine wp_region_quiet_below (by kernel_rfl) (by kernel_rfl) ?_
            repeat (quiet_step (exact calls_below (ranks_cmp (by omega) (by omega))))
            refine wpQuiet_nil ?_
            intro v hq
            have hcur : Below wr.heap.size wr v := by obtain ⟨q, hq2⟩ := hq; rw [hq2]; exact q.prop
            have hoV := ho.below hcur
            have hbV := hb.trans (hcur.mono hsz)
            have hszV : B ≤ v.heap.size := Nat.le_trans hsz hcur.size
            clear hq bc0 bc1 bc2 bd0 bd1 bd2 c0 c1 c2 d0 d1 d2 ho hb
            go_wp2
            go_roundw
            case rel => exact ⟨i + 1, insE o i j, by go_num, by omega, by omega, HN, hoV.toT (fun k hk => by unfold elE; rw [mid_end_eq]), hbV, hszV⟩
            case measure => simp [intOf]; omega
        · obtain rfl : j = 0 := by omega
          have q0 : decide ((0 : Int) < ((0 : Nat) : Int)) = false := by simp
          have HN := Lib.hid (HO.out.ins hji HJ.out (.inl rfl))
          go_wp2
          go_quiet (fail)
          go_wp2
          go_roundw
          case rel => exact ⟨i + 1, insE o i 0, by go_num, by omega, by omega, HN, (show OwnR 66 enc3 3 _ B (some ⟨g, 0, none⟩) n d _ from ho.drewN _).toT (fun k hk => by unfold elE; rw [mid_end_eq]), below_drewN hb _, hsz⟩
          case measure => simp [intOf]; omega
    · obtain rfl : n = i := by omega
      go_wp2
      go_end0
      exact ⟨rfl, o, HO.out, ho.toT (fun j hj => by unfold elE curE; rw [if_pos hj]), hb⟩
set_option maxHeartbeats 1600000 in
theorem sort_stableT {w : World} {B g n d : Nat} {xs : List (Int × Int × Int)} (hA : ∀ j, j < n → 0 ≤ t2 xs j ∧ t2 xs j ≤ 60) (hBw : B ≤ w.heap.size) (hn : n ≤ 12) (h0 : 0 < n)
    (ho : OwnR 66 enc3 3 w B (some ⟨g, 0, none⟩) n d (tab n fun k => elE xs (fun k => k) n k)) :
    Calls Try.prog 72 #[.slice (some ⟨g, 0, none⟩) n d, .func (.func 73) #[] #[]] w fun e w' => e = .returned (.tuple #[]) ∧
      ∃ o, OrderE (t2 xs) o n ∧ OwnR 66 enc3 3 w' B (some ⟨g, 0, none⟩) n d (tab n fun k => elE xs o n k) ∧ Below B w w' := by
  have hc := Lib.hid (sort_insT hA hBw hn h0 ho)
  have hcap := (ho.sr enc3_len).2.1
  have q1 : ¬ ((20 : Int) ≤ (n : Int)) := by omega
  have q2 : ¬ ((20 : Int) < (n : Int)) := by omega
  clear hA ho
  have hst : Hid (Calls Try.prog 90 #[.slice (some ⟨g, 0, none⟩) n d, .int .i64 n, .func (.func 73) #[] #[]] w fun e w' => e = .returned (.tuple #[]) ∧
      ∃ o, OrderE (t2 xs) o n ∧ OwnR 66 enc3 3 w' B (some ⟨g, 0, none⟩) n d (tab n fun k => elE xs o n k) ∧ Below B w w') := by
    refine Lib.hid ?_
    go_enter Try.func90, Try.ntmps90
    go_wp2
    go_loopw [7, 8] (fun av bv wr => av = .int .i64 0 ∧ bv = .int .i64 20 ∧ wr = w) (fun _ _ _ => 0)
    case atStart => exact ⟨rfl, rfl, rfl⟩
    case round =>
      obtain ⟨rfl, rfl, rfl⟩ := hrel
      go_wp2_with fail
      refine (hc.out).mono ?_; rintro e w1 ⟨rfl, o, h1, h2, h3⟩
      have H1 := Lib.hid h1; clear h1
      go_wp2
      go_loopw [6] (fun bv wr => bv = .int .i64 20 ∧ wr = w1) (fun _ _ => 0)
      case atStart => exact ⟨rfl, rfl⟩
      case round =>
        obtain ⟨rfl, rfl⟩ := hrel
        go_wp2
        go_end0
        exact ⟨rfl, o, H1.out, h2, h3⟩
  go_enter Try.func72, Try.ntmps72
  go_wp2_with fail
  refine (hst.out).mono ?_; rintro e w1 ⟨rfl, h1⟩
  go_wp2
  go_end0
  exact ⟨rfl, h1⟩
set_option maxHeartbeats 1600000 in
theorem sort_stableT0 {w : World} {q : Option Addr} {d : Nat} (hd : d ≤ 9223372036854775807) :
    Calls Try.prog 72 #[.slice q 0 d, .func (.func 73) #[] #[]] w fun e w' => e = .returned (.tuple #[]) ∧ Below w.heap.size w w' := by
  have hins : ∀ W : World, Calls Try.prog 112 #[.slice q 0 d, .int .i64 0, .int .i64 0, .func (.func 73) #[] #[]] W fun e w' => e = .returned (.tuple #[]) ∧ Below W.heap.size W w' := by
    intro W
    go_enter Try.func112, Try.ntmps112
    go_wp2
    go_loopw [8] (fun iv wr => iv = .int .i64 1 ∧ Below W.heap.size W wr) (fun _ _ => 0)
    case atStart => exact ⟨rfl, Below.refl _ _⟩
    case round =>
      obtain ⟨rfl, hb⟩ := hrel
      go_wp2
      go_end0
      exact ⟨rfl, hb⟩
  have HI := Lib.hid hins
  clear hins
  have hst : ∀ W : World, Calls Try.prog 90 #[.slice q 0 d, .int .i64 0, .func (.func 73) #[] #[]] W fun e w' => e = .returned (.tuple #[]) ∧ Below W.heap.size W w' := by
    intro W
    go_enter Try.func90, Try.ntmps90
    go_wp2
    go_loopw [7, 8] (fun av bv wr => av = .int .i64 0 ∧ bv = .int .i64 20 ∧ Below W.heap.size W wr) (fun _ _ _ => 0)
    case atStart => exact ⟨rfl, rfl, Below.refl _ _⟩
    case round =>
      obtain ⟨rfl, rfl, hb⟩ := hrel
      go_wp2_with fail
      refine (HI.out _).mono ?_; rintro e w1 ⟨rfl, b1⟩
      have hb2 := hb.trans (b1.mono hb.size)
      clear hb b1
      go_wp2
      go_loopw [6] (fun bv wr => bv = .int .i64 20 ∧ Below W.heap.size W wr) (fun _ _ => 0)
      case atStart => exact ⟨rfl, hb2⟩
      case round =>
        clear hb2
        obtain ⟨rfl, hb⟩ := hrel
        go_wp2
        go_end0
        exact ⟨rfl, hb⟩
  have HS := Lib.hid hst
  clear hst
  go_enter Try.func72, Try.ntmps72
  go_wp2_with fail
  refine (HS.out _).mono ?_; rintro e w1 ⟨rfl, h1⟩
  go_wp2
  go_end0
  exact ⟨rfl, h1⟩
theorem tab_elE {xs : List (Int × Int × Int)} {n : Nat} (h : xs.length = n) : xs = tab n fun k => elE xs (fun k => k) n k := by
  subst h
  apply List.ext_getElem
  · simp [tab]
  · intro j h1 h2
    simp [tab, elE, t0, t1, t2, List.getD, h1]
theorem OrderE.zeroT (D : Nat → Int) (e : Nat → Nat) : OrderE D e 0 := ⟨fun k hk => by omega, fun x hx => by omega, fun k hk => by omega⟩
theorem sort_anyT {w : World} {q : Option Addr} {B n d : Nat} {xs : List (Int × Int × Int)} (hA : ∀ j, j < n → 0 ≤ t2 xs j ∧ t2 xs j ≤ 60) (hBw : B ≤ w.heap.size) (hn : n ≤ 12)
    (ho : OwnR 66 enc3 3 w B q n d xs) :
    Calls Try.prog 72 #[.slice q n d, .func (.func 73) #[] #[]] w fun e w' => e = .returned (.tuple #[]) ∧
      ∃ o, OrderE (t2 xs) o n ∧ OwnR 66 enc3 3 w' B q n d (tab n fun k => elE xs o n k) ∧ Below B w w' := by
  have ho' := ho.cast (tab_elE ho.len)
  by_cases h0 : 0 < n
  · obtain ⟨g, rfl⟩ := ho.addr h0
    exact sort_stableT hA hBw hn h0 ho'
  · obtain rfl : n = 0 := by omega
    refine (sort_stableT0 (ho.sr enc3_len).2.1.2).mono ?_
    rintro e w' ⟨he, hb⟩
    exact ⟨he, fun k => k, OrderE.zeroT _ _, ho'.below hb, hb.mono hBw⟩
end Go.Proofs.Ytgnegemiiahkaaa
