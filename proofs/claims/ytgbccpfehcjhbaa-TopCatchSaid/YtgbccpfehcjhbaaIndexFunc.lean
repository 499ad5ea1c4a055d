/- The contracts of slices.IndexFunc and slices.ContainsFunc at []int, over a function. Conditions: what that function answers. -/
import Derived.Test.YtgbccpfehcjhbaaRows
import Derived.Test.YtgbccpfehcjhbaaLib
namespace Go.Proofs.Ytgbccpfehcjhbaa
open Go Go.RowKit

/-- the first place where a test holds, or the end -/
def FirstP (pr : Nat → Bool) (n i : Nat) : Prop := i ≤ n ∧ (∀ j, j < i → pr j = false) ∧ (i < n → pr i = true)
theorem firstP_exists (pr : Nat → Bool) : ∀ n, ∃ i, FirstP pr n i
  | 0 => ⟨0, by omega, fun j hj => by omega, fun h => by omega⟩
  | n + 1 => by
    obtain ⟨i, h1, h2, h3⟩ := firstP_exists pr n
    by_cases h : i < n
    · exact ⟨i, by omega, h2, fun _ => h3 h⟩
    · obtain rfl : i = n := by omega
      cases e : pr i with
      | false => exact ⟨i + 1, by omega, fun j hj => by rcases Nat.lt_succ_iff_lt_or_eq.1 hj with h' | rfl; exact h2 j h'; exact e, fun h => by omega⟩
      | true => exact ⟨i, by omega, h2, fun _ => e⟩
theorem firstP_one {pr : Nat → Bool} {n i k : Nat} (h : FirstP pr n i) (g : FirstP pr n k) : i = k := by
  rcases Nat.lt_trichotomy i k with e | e | e
  · have := g.2.1 i e; rw [h.2.2 (by have := g.1; omega)] at this; cases this
  · exact e
  · have := h.2.1 k e; rw [g.2.2 (by have := h.1; omega)] at this; cases this

end Go.Proofs.Ytgbccpfehcjhbaa
