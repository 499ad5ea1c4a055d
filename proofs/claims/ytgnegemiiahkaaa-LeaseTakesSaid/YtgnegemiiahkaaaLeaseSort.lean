/- The contract of slices.SortFunc at []api.Lease by who leases. Conditions: all but the last are in order; at most 9 besides it. -/
import Derived.Test.YtgnegemiiahkaaaLeaseRow
import Derived.Test.YtgnegemiiahkaaaEdfSort
import Derived.Test.YtgnegemiiahkaaaBitsLen
import Derived.RegionTactic
import Derived.BigRegion
import Derived.IntWalk
namespace Go.Proofs.Ytgnegemiiahkaaa
open Go Go.RowKit
set_option linter.unusedVariables false
set_option linter.unusedSimpArgs false

theorem lease_cmp {W : World} {a b c x y z : Int} (h1 : 0 ≤ a ∧ a ≤ 7) (h2 : 0 ≤ x ∧ x ≤ 7) :
    Calls Try.prog 49 #[.agg #[.int .i64 a, .int .i64 b, .int .i64 c], .agg #[.int .i64 x, .int .i64 y, .int .i64 z]] W fun e w' => e = .returned (.int .i64 (a - x)) ∧ Below W.heap.size W w' := by
  have hb := ((Below.refl W.heap.size W).alloc (Nat.le_refl _) (.cells #[.int .i64 a, .int .i64 b, .int .i64 c] 33)).alloc (by simp) (.cells #[.int .i64 x, .int .i64 y, .int .i64 z] 33)
  go_enter Try.func49, Try.ntmps49
  go_wp2
  go_ret
  exact ⟨rfl, hb⟩

abbrev T3 := Int × Int × Int
/-- x stands at j, the others are moved up -/
def mvZ (a : Nat → T3) (x : T3) (j k : Nat) : T3 := if k < j then a k else if k = j then x else a (k - 1)
theorem mvZ_at (a : Nat → T3) (x : T3) (j : Nat) : mvZ a x j j = x := by unfold mvZ; rw [if_neg (by omega), if_pos rfl]
theorem mvZ_lt {a : Nat → T3} {x : T3} {j k : Nat} (h : k < j) : mvZ a x j k = a k := by unfold mvZ; rw [if_pos h]
theorem mvZ_swap {a : Nat → T3} {x : T3} {j k : Nat} (h0 : 0 < j) : (if k = j - 1 then x else if k = j then a (j - 1) else mvZ a x j k) = mvZ a x (j - 1) k := by
  unfold mvZ
  by_cases h1 : k = j - 1
  · subst h1; rw [if_pos rfl, if_neg (by omega), if_pos rfl]
  · rw [if_neg h1]
    by_cases h2 : k = j
    · subst h2; rw [if_pos rfl, if_neg (by omega), if_neg h1]
    · rw [if_neg h2, if_neg h2, if_neg h1]
      by_cases h3 : k < j - 1
      · rw [if_pos h3, if_pos (by omega)]
      · rw [if_neg h3, if_neg (by omega)]
def FinJ (a : Nat → T3) (x : T3) (n j : Nat) : Prop := (∀ k, k < j → (a k).1 < x.1) ∧ (∀ k, j ≤ k → k < n → x.1 < (a k).1)
def OutS (a : Nat → T3) (x : T3) (n i j : Nat) : Prop := (i ≤ n → j = n) ∧ (i = n + 1 → FinJ a x n j)
theorem cellsZ {w : World} {B g n d k : Nat} {z : Nat → T3} (ho : OwnR 33 enc3 3 w B (some ⟨g, 0, none⟩) n d (tab n z)) (hk : k < n) {y : T3} (e : z k = y) :
    w.cell? ⟨g, k * 3, none⟩ = some (.int .i64 y.1) ∧ w.cell? ⟨g, k * 3 + 1, none⟩ = some (.int .i64 y.2.1) ∧ w.cell? ⟨g, k * 3 + 2, none⟩ = some (.int .i64 y.2.2) := by
  have h0 := ho.at enc3_len hk (i := 0) (by omega)
  have h1 := ho.at enc3_len hk (i := 1) (by omega)
  have h2 := ho.at enc3_len hk (i := 2) (by omega)
  rw [ge_tab hk, e] at h0 h1 h2
  exact ⟨h0, h1, h2⟩
theorem OwnR.putZ {w : World} {B g n c : Nat} {z z' : Nat → T3} (h : OwnR 33 enc3 3 w B (some ⟨g, 0, none⟩) n c (tab n z)) (t : Nat) (ht : t < n) (x : T3) (e : ∀ j, j < n → (if j = t then x else z j) = z' j) : OwnR 33 enc3 3 (Go.Proofs.Ytgnegemiiahkaaa.setEl w g t x) B (some ⟨g, 0, none⟩) n c (tab n z') := by
  have := h.setEl ht x
  rw [tab_set, tab_congr e] at this
  exact this
theorem OwnR.drewL {w : World} {B n c : Nat} {p : Option Addr} {L : List T3} (h : OwnR 33 enc3 3 w B p n c L) : OwnR 33 enc3 3 w.drew B p n c L := ⟨h.1.drew, h.2⟩

set_option maxRecDepth 100000 in
set_option maxHeartbeats 6400000 in
theorem sortL_ins {w : World} {B g n N d : Nat} {a : Nat → T3} {x : T3} (hA : ∀ k, k < n → 0 ≤ (a k).1 ∧ (a k).1 ≤ 7) (hx : 0 ≤ x.1 ∧ x.1 ≤ 7) (hS : ∀ k j, k ≤ j → j < n → (a k).1 ≤ (a j).1) (hS1 : ∀ k, k + 1 < n → (a k).1 < (a (k + 1)).1) (hne : ∀ k, k < n → (a k).1 ≠ x.1) (hn : n ≤ 9) (hN : n + 1 ≤ N ∧ N ≤ n + 1) (hBw : B ≤ w.heap.size)
    (ho : OwnR 33 enc3 3 w B (some ⟨g, 0, none⟩) N d (tab N (mvZ a x n))) :
    Calls Try.prog 96 #[.slice (some ⟨g, 0, none⟩) N d, .int .i64 0, .int .i64 (N : Int), .func (.func 49) #[] #[]] w fun e w' => e = .returned (.tuple #[]) ∧
      ∃ j, j ≤ n ∧ FinJ a x n j ∧ OwnR 33 enc3 3 w' B (some ⟨g, 0, none⟩) N d (tab N (mvZ a x j)) ∧ Below B w w' := by
  have hcap := (ho.sr enc3_len).2.1
  have HA := Lib.hid hA; have HS := Lib.hid hS; have HS1 := Lib.hid hS1; have HNE := Lib.hid hne
  clear hA hS hS1 hne
  go_enter Try.func96, Try.ntmps96
  go_wp2
  go_loopw [8] (fun iv wr => ∃ (i j : Nat), iv = .int .i64 i ∧ 1 ≤ i ∧ i ≤ N ∧ j ≤ n ∧ Hid (OutS a x n i j) ∧ OwnR 33 enc3 3 wr B (some ⟨g, 0, none⟩) N d (tab N (mvZ a x j)) ∧ Below B w wr ∧ B ≤ wr.heap.size) (fun iv _ => N - (intOf iv).toNat)
  case atStart => exact ⟨1, n, rfl, by omega, by omega, by omega, Lib.hid ⟨fun _ => rfl, fun h => ⟨fun k hk => by omega, fun k h1 h2 => by omega⟩⟩, ho, Below.refl _ _, hBw⟩
  case round =>
    clear ho
    obtain ⟨i, j, rfl, hi1, hin, hjn, HF, ho, hb, hsz⟩ := hrel
    by_cases hlt : i < N
    · obtain rfl : j = n := HF.out.1 (by omega)
      clear HF
      by_cases hlast : i = j
      · subst hlast
        clear hin hjn
        go_wp2
        go_loopw [9] (fun jv wr => ∃ (j : Nat), jv = .int .i64 j ∧ j ≤ i ∧ Hid (∀ k, j ≤ k → k < i → x.1 < (a k).1) ∧ OwnR 33 enc3 3 wr B (some ⟨g, 0, none⟩) N d (tab N (mvZ a x j)) ∧ Below B w wr ∧ B ≤ wr.heap.size) (fun jv _ => (intOf jv).toNat)
        case atStart => exact ⟨i, rfl, Nat.le_refl _, Lib.hid (fun k h1 h2 => by omega), ho, hb, hsz⟩
        case round =>
          clear ho hb hsz
          obtain ⟨j, rfl, hji, HJ, ho, hb, hsz⟩ := hrel
          have hgb := ho.blk
          by_cases hj0 : 0 < j
          · obtain ⟨c0, c1, c2⟩ := cellsZ ho (k := j) (by omega) (mvZ_at a x j)
            obtain ⟨d0, d1, d2⟩ := cellsZ ho (k := j - 1) (by omega) (mvZ_lt (by omega))
            have a2 := HA.out (j - 1) (by omega)
            have bc0 := BelowOf.cell c0 hgb.2; have bc1 := BelowOf.cell c1 hgb.2; have bc2 := BelowOf.cell c2 hgb.2
            have bd0 := BelowOf.cell d0 hgb.2; have bd1 := BelowOf.cell d1 hgb.2; have bd2 := BelowOf.cell d2 hgb.2
            have q0 : decide ((0 : Int) < (j : Int)) = true := by simp; omega
            have q1 : (j : Int) < (N : Int) := by omega
            have q2 : IntKind.i64.wrap ((j : Int) - 1) = (j : Int) - 1 := IntWalk.i64_in _ (by omega)
            have q3 : 0 ≤ (j : Int) - 1 := by omega
            have q4 : (j : Int) - 1 < (N : Int) := by omega
            have q5 : ((j : Int) - 1).toNat = j - 1 := by omega
            have q6 : (1 : Int) ≤ (j : Int) := by omega
            have q7 : 1 ≤ j := by omega
            by_cases hd : x.1 < (a (j - 1)).1
            · have q8 : decide (x.1 - (a (j - 1)).1 < 0) = true := by simp; omega
              have HJ2 := Lib.hid (fun k (h1 : j - 1 ≤ k) (h2 : k < i) => (by
                by_cases e : k = j - 1
                · subst e; exact hd
                · exact HJ.out k (by omega) h2 : x.1 < (a k).1))
              clear hd
              go_wp2
              refine wp_region_quiet_below (by kernel_rfl) (by kernel_rfl) ?_
              repeat (quiet_step (exact calls_below (lease_cmp (by omega) (by omega))))
              refine wpQuiet_nil ?_
              intro v hq
              have hcur : Below wr.heap.size wr v := by obtain ⟨q, hq2⟩ := hq; rw [hq2]; exact q.prop
              have hoV := ho.below hcur
              have hbV := hb.trans (hcur.mono hsz)
              have hszV : B ≤ v.heap.size := Nat.le_trans hsz hcur.size
              clear hq bc0 bc1 bc2 bd0 bd1 bd2 c0 c1 c2 d0 d1 d2 ho hb
              obtain ⟨c0, c1, c2⟩ := cellsZ hoV (k := j) (by omega) (mvZ_at a x j)
              obtain ⟨d0, d1, d2⟩ := cellsZ hoV (k := j - 1) (by omega) (mvZ_lt (by omega))
              have f0 := hoV.free (j * 3); have f1 := hoV.free (j * 3 + 1); have f2 := hoV.free (j * 3 + 2)
              have f3 := hoV.free ((j - 1) * 3); have f4 := hoV.free ((j - 1) * 3 + 1); have f5 := hoV.free ((j - 1) * 3 + 2)
              have g1 : j * 3 = (j - 1) * 3 + 3 := by omega
              have G1 := Lib.hid g1
              clear g1
              go_wp2
              go_region
              all_goals
                have P1 := hoV.putZ j (by omega) (a (j - 1)) (z' := fun k => if k = j then a (j - 1) else mvZ a x j k) (fun _ _ => rfl)
                have P2 := P1.putZ (j - 1) (by omega) x (z' := mvZ a x (j - 1)) (fun k hk => mvZ_swap hj0)
                have PB := Below.drew (below_setEl3 (j := j - 1) (x := x) (below_setEl3 (j := j) (x := a (j - 1)) hbV hgb.1) hgb.1)
                go_wp2
                go_roundw
                case rel => exact ⟨j - 1, by go_num, by omega, HJ2, P2.drewL, PB, by simp; omega⟩
                case measure => simp [intOf]; omega
            · have q8 : decide (x.1 - (a (j - 1)).1 < 0) = false := by simp; omega
              have HN : Hid (FinJ a x i j) := Lib.hid ⟨fun k hk => by
                have e1 := HS.out k (j - 1) (by omega) (by omega)
                have e2 := HNE.out (j - 1) (by omega)
                omega, HJ.out⟩
              clear hd
              go_wp2
              refine wp_region_quiet_below (by kernel_rfl) (by kernel_rfl) ?_
              repeat (quiet_step (exact calls_below (lease_cmp (by omega) (by omega))))
              refine wpQuiet_nil ?_
              intro v hq
              have hcur : Below wr.heap.size wr v := by obtain ⟨q, hq2⟩ := hq; rw [hq2]; exact q.prop
              have hoV := ho.below hcur
              have hbV := hb.trans (hcur.mono hsz)
              have hszV : B ≤ v.heap.size := Nat.le_trans hsz hcur.size
              clear hq bc0 bc1 bc2 bd0 bd1 bd2 c0 c1 c2 d0 d1 d2 ho hb
              go_wp2
              go_roundw
              case rel => exact ⟨i + 1, j, by go_num, by omega, by omega, by omega, Lib.hid ⟨fun h => by omega, fun _ => HN.out⟩, hoV, hbV, hszV⟩
              case measure => simp [intOf]; omega
          · obtain rfl : j = 0 := by omega
            have q0 : decide ((0 : Int) < ((0 : Nat) : Int)) = false := by simp
            have HN : Hid (FinJ a x i 0) := Lib.hid ⟨fun k hk => by omega, HJ.out⟩
            go_wp2
            go_quiet (fail)
            go_wp2
            go_roundw
            case rel => exact ⟨i + 1, 0, by go_num, by omega, by omega, by omega, Lib.hid ⟨fun h => by omega, fun _ => HN.out⟩, ho.drewN _, below_drewN hb _, hsz⟩
            case measure => simp [intOf]; omega
      · have hij : i < j := by omega
        clear hlast hjn hin
        go_wp2
        go_loopw [9] (fun jv wr => jv = .int .i64 i ∧ OwnR 33 enc3 3 wr B (some ⟨g, 0, none⟩) N d (tab N (mvZ a x j)) ∧ Below B w wr ∧ B ≤ wr.heap.size) (fun jv _ => (intOf jv).toNat)
        case atStart => exact ⟨rfl, ho, hb, hsz⟩
        case round =>
          clear ho hb hsz
          obtain ⟨rfl, ho, hb, hsz⟩ := hrel
          have hgb := ho.blk
          obtain ⟨c0, c1, c2⟩ := cellsZ ho (k := i) (by omega) (mvZ_lt hij)
          obtain ⟨d0, d1, d2⟩ := cellsZ ho (k := i - 1) (by omega) (mvZ_lt (by omega))
          have hi0 : 0 < i := by omega
          have a1 := HA.out i hij
          have a2 := HA.out (i - 1) (by omega)
          have a3 := HS1.out (i - 1) (by omega)
          rw [show i - 1 + 1 = i by omega] at a3
          have bc0 := BelowOf.cell c0 hgb.2; have bc1 := BelowOf.cell c1 hgb.2; have bc2 := BelowOf.cell c2 hgb.2
          have bd0 := BelowOf.cell d0 hgb.2; have bd1 := BelowOf.cell d1 hgb.2; have bd2 := BelowOf.cell d2 hgb.2
          have q0 : decide ((0 : Int) < (i : Int)) = true := by simp; omega
          have q1 : (i : Int) < (N : Int) := by omega
          have q2 : IntKind.i64.wrap ((i : Int) - 1) = (i : Int) - 1 := IntWalk.i64_in _ (by omega)
          have q3 : 0 ≤ (i : Int) - 1 := by omega
          have q4 : (i : Int) - 1 < (N : Int) := by omega
          have q5 : ((i : Int) - 1).toNat = i - 1 := by omega
          have q6 : (1 : Int) ≤ (i : Int) := by omega
          have q8 : decide ((a i).1 - (a (i - 1)).1 < 0) = false := by simp; omega
          go_wp2
          refine wp_region_quiet_below (by kernel_rfl) (by kernel_rfl) ?_
          repeat (quiet_step (exact calls_below (lease_cmp (by omega) (by omega))))
          refine wpQuiet_nil ?_
          intro v hq
          have hcur : Below wr.heap.size wr v := by obtain ⟨q, hq2⟩ := hq; rw [hq2]; exact q.prop
          have hoV := ho.below hcur
          have hbV := hb.trans (hcur.mono hsz)
          have hszV : B ≤ v.heap.size := Nat.le_trans hsz hcur.size
          clear hq bc0 bc1 bc2 bd0 bd1 bd2 c0 c1 c2 d0 d1 d2 ho hb
          go_wp2
          go_roundw
          case rel => exact ⟨i + 1, j, by go_num, by omega, by omega, by omega, Lib.hid ⟨fun _ => rfl, fun h => by omega⟩, hoV, hbV, hszV⟩
          case measure => simp [intOf]; omega
    · have hiN : i = N := by omega
      have HN := Lib.hid (HF.out.2 (by omega))
      go_wp2
      go_end0
      exact ⟨rfl, j, hjn, HN.out, ho, hb⟩

set_option maxRecDepth 100000 in
set_option maxHeartbeats 1600000 in
theorem sort_Lease {w : World} {B g n N d : Nat} {a : Nat → T3} {x : T3} (hA : ∀ k, k < n → 0 ≤ (a k).1 ∧ (a k).1 ≤ 7) (hx : 0 ≤ x.1 ∧ x.1 ≤ 7) (hS : ∀ k j, k ≤ j → j < n → (a k).1 ≤ (a j).1) (hS1 : ∀ k, k + 1 < n → (a k).1 < (a (k + 1)).1) (hne : ∀ k, k < n → (a k).1 ≠ x.1) (hn : n ≤ 9) (hN : n + 1 ≤ N ∧ N ≤ n + 1) (hBw : B ≤ w.heap.size)
    (ho : OwnR 33 enc3 3 w B (some ⟨g, 0, none⟩) N d (tab N (mvZ a x n))) :
    Calls Try.prog 48 #[.slice (some ⟨g, 0, none⟩) N d, .func (.func 49) #[] #[]] w fun e w' => e = .returned (.tuple #[]) ∧
      ∃ j, j ≤ n ∧ FinJ a x n j ∧ OwnR 33 enc3 3 w' B (some ⟨g, 0, none⟩) N d (tab N (mvZ a x j)) ∧ Below B w w' := by
  have hcap := (ho.sr enc3_len).2.1
  have HC := Lib.hid (sortL_ins hA hx hS hS1 hne hn hN hBw ho)
  have h12 : (N : Int) ≤ 12 := by omega
  clear hA hS hS1 hne ho
  have hpd : Hid (∀ l : Int, Calls Try.prog 83 #[.slice (some ⟨g, 0, none⟩) N d, .int .i64 0, .int .i64 (N : Int), .int .i64 l, .func (.func 49) #[] #[]] w fun e w' => e = .returned (.tuple #[]) ∧
      ∃ j, j ≤ n ∧ FinJ a x n j ∧ OwnR 33 enc3 3 w' B (some ⟨g, 0, none⟩) N d (tab N (mvZ a x j)) ∧ Below B w w') := by
    refine Lib.hid (fun l => ?_)
    go_enter Try.func83, Try.ntmps83
    go_wp2
    go_loopw [1, 2] (fun av bv wr => av = .int .i64 0 ∧ bv = .int .i64 (N : Int) ∧ wr = w) (fun _ _ _ => 0)
    case atStart => exact ⟨rfl, rfl, rfl⟩
    case round =>
      obtain ⟨rfl, rfl, rfl⟩ := hrel
      go_wp2_with fail
      refine HC.out.mono ?_; rintro e w1 ⟨rfl, h1⟩
      go_wp2
      try simp only [Exit.inBlock, Exit.then]
      refine bodyPost_ret (results_none rfl _ _ _) rfl ?_
      exact ⟨rfl, h1⟩
  have HBL := Lib.hid (bits_Len (w := w) (n := N) (by omega))
  go_enter Try.func48, Try.ntmps48
  go_wp2_with fail
  refine HBL.out.mono ?_; rintro e w1 ⟨⟨l, rfl⟩, rfl⟩
  go_wp2_with fail
  refine (hpd.out l).mono ?_; rintro e w1 ⟨rfl, h1⟩
  go_wp2
  go_end0
  exact ⟨rfl, h1⟩
end Go.Proofs.Ytgnegemiiahkaaa
