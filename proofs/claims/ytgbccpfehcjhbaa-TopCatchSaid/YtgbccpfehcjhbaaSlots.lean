/- The contracts of trace.Sum and trace.Slots (P21, P22). No conditions beyond what each theorem says. -/
import Derived.Test.YtgbccpfehcjhbaaAdded
import Derived.Deep.QuietTactic
import Derived.BigQuiet
import Derived.Deep.RegionLaw
import Derived.BigRegion
import Derived.IntWalk
namespace Go.Proofs.Ytgbccpfehcjhbaa
open Go Go.RowKit

set_option maxHeartbeats 400000 in
theorem trace_Sum_bad {w : World} {p : Option Addr} {n c : Nat} {xs : List Int} (h : SI w p n c xs) {er : Int} (he : traceErr xs = er) (h0 : er ≠ 0) :
    Calls Try.prog 5 #[.slice p n c] w fun e w' => e = .returned (.tuple #[.slice none 0 0, .int .i64 er]) ∧ w = w' := by
  have hb := bne_false_of h0
  go_enter Try.func5, Try.ntmps5
  go_wp2_with fail
  refine (trace_Check h he).mono ?_; rintro e w' ⟨rfl, rfl⟩
  go_wp2
  go_ret2
  exact ⟨rfl, rfl⟩
set_option maxHeartbeats 400000 in
theorem trace_Sum_ok {w : World} {p : Option Addr} {n c : Nat} {xs : List Int} (h : SI w p n c xs) (he : traceErr xs = 0) :
    Calls Try.prog 5 #[.slice p n c] w (RetL w fun L er => er = 0 ∧ L = addL xs) := by
  obtain ⟨h60, hok⟩ := trace_ok he
  have hbd : ∀ j, j < n → 0 ≤ gi xs j ∧ gi xs j ≤ 1000000 := by rw [← h.1]; intro j hj; have := hok j hj; omega
  rw [h.1] at h60
  have HE := Lib.hid he; have HBD := Lib.hid hbd; clear he hok hbd
  go_enter Try.func5, Try.ntmps5
  go_wp2_with fail
  refine (trace_Check h HE.out).mono ?_; rintro e w' ⟨rfl, rfl⟩
  go_wp2_with fail
  refine (trace_Added h (by omega) HBD.out).mono ?_; rintro e w1 ⟨p1, n1, c1, rfl, ho1, hb1⟩
  go_wp2
  go_ret2
  exact ⟨_, _, _, _, _, rfl, ho1, hb1, rfl, rfl⟩

/-- too much in the k-th slot -/
def bigS (xs : List Int) (k : Nat) : Bool := decide (10000 < gi xs (k + 1) - gi xs k)
theorem bigS_true {xs : List Int} {k : Nat} : bigS xs k = true ↔ 10000 < gi xs (k + 1) - gi xs k := by simp [bigS]
theorem bigS_false {xs : List Int} {k : Nat} : bigS xs k = false ↔ ¬ 10000 < gi xs (k + 1) - gi xs k := by simp [bigS]
def slotsL (xs : List Int) : List Int := tab (xs.length - 1) fun k => gi xs (k + 1) - gi xs k

/-- what Slots answers of a right curve that begins at nought -/
def SlotsOf (xs : List Int) (n i : Nat) (L : List Int) (er : Int) : Prop := (i < n - 1 ∧ er = 2 ∧ L = []) ∨ (¬ i < n - 1 ∧ er = 0 ∧ L = slotsL xs)

end Go.Proofs.Ytgbccpfehcjhbaa
