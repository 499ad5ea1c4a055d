/- The contracts of trace.Env, trace.Fits and headref.Smooth (P23, P24). No conditions beyond what each theorem says. -/
import Derived.Test.YtgbccpfehcjhbaaGreatDoorDeconv
import Derived.Deep.QuietTactic
import Derived.BigQuiet
import Derived.IntWalk
namespace Go.Proofs.YtgbccpfehcjhbaaGreatDoor
open Go Go.RowKit

/-- P24 -/
def FitsC (xs ys : List Int) (n : Nat) : Prop := ∀ t s, s ≤ t → t < n → gi xs t - gi xs s ≤ gi ys (t - s)
theorem fitsC_bool (xs ys : List Int) (n : Nat) : ∃ q : Bool, q = true ↔ FitsC xs ys n := by
  by_cases h : FitsC xs ys n
  · exact ⟨true, by simp [h]⟩
  · exact ⟨false, by simp [h]⟩
theorem both_self {xs : List Int} : bothErr xs xs = curveErr xs := by
  unfold bothErr
  by_cases h : curveErr xs = 0
  · rw [if_neg (by simp [h]), if_neg (by simp [h]), if_pos rfl, h]
  · rw [if_pos h]

end Go.Proofs.YtgbccpfehcjhbaaGreatDoor
