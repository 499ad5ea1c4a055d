/- The contracts of headref.Done's order: slices.SortStableFunc at []int by the Dues (P44). Conditions: at most 12 elements, at first in order. -/
import Derived.Test.YtgnegemiiahkaaaEdfDoneLaw
import Derived.Test.YtgnegemiiahkaaaEdfPlay
import Derived.Deep.QuietTactic
import Derived.BigQuiet
namespace Go.Proofs.Ytgnegemiiahkaaa
open Go Go.RowKit
set_option linter.unusedVariables false
set_option linter.unusedSimpArgs false

/-- the closure that compares -/
theorem edf_cmp {W : World} {p : Option Addr} {n c bx x y : Nat} {xs : List (Int × Int × Int)} (h : S3 W p n c xs) (hA : ∀ j, j < n → 0 ≤ t2 xs j ∧ t2 xs j ≤ 200) (hbx : W.cell? ⟨bx, 0, none⟩ = some (.slice p n c)) (hx : x < n) (hy : y < n) :
    Calls Try.prog 79 #[.int .i64 x, .int .i64 y, .pointer (some ⟨bx, 0, none⟩)] W fun e w' => e = .returned (.int .i64 (t2 xs x - t2 xs y)) ∧ ∃ k, w' = W.drewN k := by
  have hm := h.2.1
  obtain ⟨b, off, rfl, hlt, hc⟩ := h.cells (by omega)
  have c1 := (hc x hx).2.2
  have c2 := (hc y hy).2.2
  have a1 := hA x hx
  have a2 := hA y hy
  have q1 : (x : Int) < (n : Int) := by omega
  have q2 : (y : Int) < (n : Int) := by omega
  clear hc h hA
  go_enter Try.func79, Try.ntmps79
  go_wp2
  go_quiet (fail)
  go_wp2
  go_ret
  exact ⟨rfl, _, rfl⟩
/-- place j holds i, the others are moved up -/
def midE (e : Nat → Nat) (i j k : Nat) : Nat := if k ≤ i then insE e i j k else k
def curE (e : Nat → Nat) (i k : Nat) : Nat := if k < i then e k else k
theorem mid_start_eq {e : Nat → Nat} {i k : Nat} : curE e i k = midE e i i k := by
  unfold curE midE insE
  by_cases h : k < i
  · rw [if_pos h, if_pos (by omega), if_pos h]
  · rw [if_neg h]
    by_cases h2 : k = i
    · subst h2; rw [if_pos (Nat.le_refl _), if_neg (by omega), if_pos rfl]
    · rw [if_neg (by omega)]
theorem mid_end_eq {e : Nat → Nat} {i j k : Nat} : midE e i j k = curE (insE e i j) (i + 1) k := by
  unfold curE midE
  by_cases h : k ≤ i
  · rw [if_pos h, if_pos (by omega)]
  · rw [if_neg h, if_neg (by omega)]

theorem mid_swap {o : Nat → Nat} {i j k : Nat} (h0 : 0 < j) (hj : j ≤ i) : midE o i (j - 1) k = if k = j - 1 then i else if k = j then o (j - 1) else midE o i j k := by
  unfold midE insE
  by_cases h1 : k = j - 1
  · subst h1; rw [if_pos rfl, if_pos (by omega), if_neg (by omega), if_pos rfl]
  · by_cases h2 : k = j
    · subst h2; rw [if_neg h1, if_pos rfl, if_pos hj, if_neg (by omega), if_neg h1]
    · simp only [if_neg h1, if_neg h2]
      by_cases h3 : k ≤ i
      · simp only [if_pos h3]
        by_cases h4 : k < j - 1
        · rw [if_pos h4, if_pos (show k < j by omega)]
        · rw [if_neg h4, if_neg (show ¬ k < j by omega)]
      · simp only [if_neg h3]
theorem mid_swap1 {o : Nat → Nat} {i j k : Nat} (h0 : 0 < j) (hj : j ≤ i) : (if k = j - 1 then (i : Int) else if k = j then (o (j - 1) : Int) else (midE o i j k : Int)) = (midE o i (j - 1) k : Int) := by
  rw [mid_swap h0 hj]
  split
  · rfl
  · split <;> rfl
theorem mid_swap2 {o : Nat → Nat} {i j k : Nat} (h0 : 0 < j) (hj : j ≤ i) : (if k = j then (o (j - 1) : Int) else if k = j - 1 then (i : Int) else (midE o i j k : Int)) = (midE o i (j - 1) k : Int) := by
  rw [mid_swap h0 hj]
  by_cases h1 : k = j
  · rw [if_pos h1, if_neg (by omega), if_pos h1]
  · simp only [if_neg h1]
    split <;> rfl
set_option maxRecDepth 100000 in
set_option maxHeartbeats 3200000 in
theorem sort_ins {w : World} {p : Option Addr} {B g n c d bx : Nat} {xs : List (Int × Int × Int)} (h : S3 w p n c xs) (hA : ∀ j, j < n → 0 ≤ t2 xs j ∧ t2 xs j ≤ 200) (hbx : w.cell? ⟨bx, 0, none⟩ = some (.slice p n c)) (hB : ∀ b, p = some b → b.block < B) (hB2 : bx < B) (hBw : B ≤ w.heap.size) (hn : n ≤ 12) (h0 : 0 < n)
    (ho : OwnI w B (some ⟨g, 0, none⟩) n d (tab n fun k => (k : Int))) :
    Calls Try.prog 114 #[.slice (some ⟨g, 0, none⟩) n d, .int .i64 0, .int .i64 n, .func (.func 79) #[] #[.pointer (some ⟨bx, 0, none⟩)]] w fun e w' => e = .returned (.tuple #[]) ∧
      ∃ o, OrderE (t2 xs) o n ∧ OwnI w' B (some ⟨g, 0, none⟩) n d (tab n fun k => (o k : Int)) ∧ Below B w w' := by
  have hm := h.2.1
  have hcap := ho.si.2.1
  have HH := Lib.hid h; have HA := Lib.hid hA; have HX := Lib.hid hbx; have HB := Lib.hid hB
  clear h hA hbx hB
  go_enter Try.func114, Try.ntmps114
  go_wp2
  go_loopw [8] (fun iv wr => ∃ (i : Nat) (o : Nat → Nat), iv = .int .i64 i ∧ 1 ≤ i ∧ i ≤ n ∧ Hid (OrderE (t2 xs) o i) ∧ OwnI wr B (some ⟨g, 0, none⟩) n d (tab n fun k => (curE o i k : Int)) ∧ Below B w wr) (fun iv _ => n - (intOf iv).toNat)
  case atStart => exact ⟨1, fun k => k, rfl, by omega, by omega, Lib.hid (OrderE.one _ _ rfl), ho.to (fun j hj => by unfold curE; split <;> rfl), Below.refl _ _⟩
  case round =>
    clear ho
    obtain ⟨i, o, rfl, hi1, hin, HO, ho, hb⟩ := hrel
    have hsz := hb.size
    by_cases hlt : i < n
    · go_wp2
      go_loopw [9] (fun jv wr => ∃ (j : Nat), jv = .int .i64 j ∧ j ≤ i ∧ Hid (∀ k, j ≤ k → k < i → t2 xs i < t2 xs (o k)) ∧ OwnI wr B (some ⟨g, 0, none⟩) n d (tab n fun k => (midE o i j k : Int)) ∧ Below B w wr) (fun jv _ => (intOf jv).toNat)
      case atStart => exact ⟨i, rfl, Nat.le_refl _, Lib.hid (fun k h1 h2 => by omega), ho.to (fun j hj => by rw [mid_start_eq]), hb⟩
      case round =>
        clear ho hb hsz
        obtain ⟨j, rfl, hji, HJ, ho, hb⟩ := hrel
        have hsz := hb.size
        by_cases hj0 : 0 < j
        · have c1 := ho.at (j := j) (by omega)
          have c2 := ho.at (j := j - 1) (by omega)
          rw [gi_tab (by omega)] at c1 c2
          have e1 : midE o i j j = i := by unfold midE insE; rw [if_pos hji, if_neg (by omega), if_pos rfl]
          have e2 : midE o i j (j - 1) = o (j - 1) := by unfold midE insE; rw [if_pos (by omega), if_pos (by omega)]
          rw [e1] at c1
          rw [e2] at c2
          have hoj := HO.out.lt (j - 1) (by omega)
          have hS : ∀ k, S3 (wr.drewN k) p n c xs := fun k => by
            have h1 := HH.out
            refine ⟨h1.1, h1.2.1, fun hn0 => ?_⟩
            obtain ⟨b, off, rfl, hlb, hc⟩ := h1.cells hn0
            have hbB := HB.out _ rfl
            exact ⟨b, off, rfl, by show b < wr.heap.size; have : b < B := hbB; omega, fun q hq => ⟨(bdeep hb hbB _).trans (hc q hq).1, (bdeep hb hbB _).trans (hc q hq).2.1, (bdeep hb hbB _).trans (hc q hq).2.2⟩⟩
          have hX : ∀ k, (wr.drewN k).cell? ⟨bx, 0, none⟩ = some (.slice p n c) := fun k => (bdeep hb hB2 _).trans HX.out
          have HS := Lib.hid hS; have HX2 := Lib.hid hX
          clear hS hX
          have q0 : decide ((0 : Int) < (j : Int)) = true := by simp; omega
          have q1 : (j : Int) < (n : Int) := by omega
          have q2 : IntKind.i64.wrap ((j : Int) - 1) = (j : Int) - 1 := IntWalk.i64_in _ (by omega)
          have q3 : 0 ≤ (j : Int) - 1 := by omega
          have q4 : (j : Int) - 1 < (n : Int) := by omega
          have q5 : ((j : Int) - 1).toNat = j - 1 := by omega
          have a1 := HA.out i (by omega)
          have a2 := HA.out (o (j - 1)) (by omega)
          by_cases hd : t2 xs i < t2 xs (o (j - 1))
          · have q6 : decide (t2 xs i - t2 xs (o (j - 1)) < 0) = true := by simp; omega
            have HJ2 := Lib.hid (fun k (h1 : j - 1 ≤ k) (h2 : k < i) => (by
              by_cases e : k = j - 1
              · subst e; exact hd
              · exact HJ.out k (by omega) h2 : t2 xs i < t2 xs (o k)))
            have f1 := ho.free j
            have f2 := ho.free (j - 1)
            have hgb := ho.blk
            clear hd
            go_wp2
            go_quiet ((refine (Calls.quiet_of (edf_cmp (HS.out _) HA.out (HX2.out _) (show i < n by omega) (show o (j - 1) < n by omega)))))
            go_wp2
            have hoD : OwnI (wr.drewN nq).drew B (some ⟨g, 0, none⟩) n d (tab n fun k => (midE o i j k : Int)) := ho
            have hbD : Below B w (wr.drewN nq).drew := Below.drew (below_drewN hb _)
            go_region
            all_goals
              go_wp2
              go_roundw
              case rel => exact ⟨j - 1, by go_num, by omega, HJ2, by first
                | exact (hoD.put j (o (j - 1) : Int) (z' := fun k => if k = j then (o (j - 1) : Int) else (midE o i j k : Int)) (fun _ _ => rfl)).put (j - 1) (i : Int) (z' := fun k => (midE o i (j - 1) k : Int)) (fun k hk => mid_swap1 hj0 hji)
                | exact (hoD.put (j - 1) (i : Int) (z' := fun k => if k = j - 1 then (i : Int) else (midE o i j k : Int)) (fun _ _ => rfl)).put j (o (j - 1) : Int) (z' := fun k => (midE o i (j - 1) k : Int)) (fun k hk => mid_swap2 hj0 hji), by first
                | exact (hbD.setCell (p := ⟨g, j, none⟩) hgb.1 _).setCell (p := ⟨g, j - 1, none⟩) hgb.1 _
                | exact (hbD.setCell (p := ⟨g, j - 1, none⟩) hgb.1 _).setCell (p := ⟨g, j, none⟩) hgb.1 _⟩
              case measure => simp [intOf]; omega
          · have q6 : decide (t2 xs i - t2 xs (o (j - 1)) < 0) = false := by simp; omega
            have HN := Lib.hid (HO.out.ins hji HJ.out (.inr (by omega)))
            clear hd
            go_wp2
            go_quiet ((refine (Calls.quiet_of (edf_cmp (HS.out _) HA.out (HX2.out _) (show i < n by omega) (show o (j - 1) < n by omega)))))
            go_wp2
            go_roundw
            case rel => exact ⟨i + 1, insE o i j, by go_num, by omega, by omega, HN, (show OwnI _ B (some ⟨g, 0, none⟩) n d _ from ho.drewN _).to (fun k hk => by rw [mid_end_eq]), below_drewN hb _⟩
            case measure => simp [intOf]; omega
        · obtain rfl : j = 0 := by omega
          have q0 : decide ((0 : Int) < ((0 : Nat) : Int)) = false := by simp
          have HN := Lib.hid (HO.out.ins hji HJ.out (.inl rfl))
          go_wp2
          go_quiet (fail)
          go_wp2
          go_roundw
          case rel => exact ⟨i + 1, insE o i 0, by go_num, by omega, by omega, HN, (show OwnI _ B (some ⟨g, 0, none⟩) n d _ from ho.drewN _).to (fun k hk => by rw [mid_end_eq]), below_drewN hb _⟩
          case measure => simp [intOf]; omega
    · obtain rfl : n = i := by omega
      go_wp2
      go_end0
      exact ⟨rfl, o, HO.out, ho.to (fun j hj => by unfold curE; rw [if_pos hj]), hb⟩
set_option maxHeartbeats 1600000 in
theorem sort_stable {w : World} {p : Option Addr} {B g n c d bx : Nat} {xs : List (Int × Int × Int)} (h : S3 w p n c xs) (hA : ∀ j, j < n → 0 ≤ t2 xs j ∧ t2 xs j ≤ 200) (hbx : w.cell? ⟨bx, 0, none⟩ = some (.slice p n c)) (hB : ∀ b, p = some b → b.block < B) (hB2 : bx < B) (hBw : B ≤ w.heap.size) (hn : n ≤ 12) (h0 : 0 < n)
    (ho : OwnI w B (some ⟨g, 0, none⟩) n d (tab n fun k => (k : Int))) :
    Calls Try.prog 78 #[.slice (some ⟨g, 0, none⟩) n d, .func (.func 79) #[] #[.pointer (some ⟨bx, 0, none⟩)]] w fun e w' => e = .returned (.tuple #[]) ∧
      ∃ o, OrderE (t2 xs) o n ∧ OwnI w' B (some ⟨g, 0, none⟩) n d (tab n fun k => (o k : Int)) ∧ Below B w w' := by
  have hc := Lib.hid (sort_ins h hA hbx hB hB2 hBw hn h0 ho)
  have hcap := ho.si.2.1
  have q1 : ¬ ((20 : Int) ≤ (n : Int)) := by omega
  have q2 : ¬ ((20 : Int) < (n : Int)) := by omega
  clear h hA hbx hB ho
  have hst : Hid (Calls Try.prog 93 #[.slice (some ⟨g, 0, none⟩) n d, .int .i64 n, .func (.func 79) #[] #[.pointer (some ⟨bx, 0, none⟩)]] w fun e w' => e = .returned (.tuple #[]) ∧
      ∃ o, OrderE (t2 xs) o n ∧ OwnI w' B (some ⟨g, 0, none⟩) n d (tab n fun k => (o k : Int)) ∧ Below B w w') := by
    refine Lib.hid ?_
    go_enter Try.func93, Try.ntmps93
    go_wp2
    go_loopw [7, 8] (fun av bv wr => av = .int .i64 0 ∧ bv = .int .i64 20 ∧ wr = w) (fun _ _ _ => 0)
    case atStart => exact ⟨rfl, rfl, rfl⟩
    case round =>
      obtain ⟨rfl, rfl, rfl⟩ := hrel
      go_wp2_with fail
      refine (hc.out).mono ?_; rintro e w1 ⟨rfl, o, h1, h2, h3⟩
      have H1 := Lib.hid h1; clear h1
      go_wp2
      go_loopw [6] (fun bv wr => bv = .int .i64 20 ∧ wr = w1) (fun _ _ => 0)
      case atStart => exact ⟨rfl, rfl⟩
      case round =>
        obtain ⟨rfl, rfl⟩ := hrel
        go_wp2
        go_end0
        exact ⟨rfl, o, H1.out, h2, h3⟩
  go_enter Try.func78, Try.ntmps78
  go_wp2_with fail
  refine (hst.out).mono ?_; rintro e w1 ⟨rfl, h1⟩
  go_wp2
  go_end0
  exact ⟨rfl, h1⟩
end Go.Proofs.Ytgnegemiiahkaaa
