/- The contracts of curve.Le, headref.Le, curve.Cut (P4, P5). No conditions. -/
import Derived.Test.YtgbccpfehcjhbaaGreatDoorCurveFacts
import Derived.Deep.QuietTactic
import Derived.BigQuiet
namespace Go.Proofs.YtgbccpfehcjhbaaGreatDoor
open Go Go.RowKit

/-- nowhere, of the first n, is the one above the other -/
def LeN (n : Nat) (xs ys : List Int) : Prop := ∀ j, j < n → gi xs j ≤ gi ys j

theorem SI.drewN {w : World} {p : Option Addr} {n c : Nat} {xs : List Int} (h : SI w p n c xs) (k : Nat) : SI (w.drewN k) p n c xs := h

theorem Tryz.tyIntsLe : SliceTy Tryz.prog 35 3 (.int .i64 0) 1 8 := ⟨Tryz.underlying35, by kernel_rfl⟩

def cutErr (xs : List Int) (k : Int) : Int := if curveErr xs ≠ 0 then curveErr xs else if k < 0 ∨ (xs.length : Int) ≤ k then 1 else 0

theorem cutErr_bad {xs : List Int} {k : Int} (h : curveErr xs ≠ 0) : cutErr xs k = curveErr xs := by unfold cutErr; rw [if_pos h]
theorem cutErr_arg {xs : List Int} {k : Int} (h : curveErr xs = 0) (hk : k < 0 ∨ (xs.length : Int) ≤ k) : cutErr xs k = 1 := by unfold cutErr; rw [if_neg (by simp [h]), if_pos hk]
end Go.Proofs.YtgbccpfehcjhbaaGreatDoor
