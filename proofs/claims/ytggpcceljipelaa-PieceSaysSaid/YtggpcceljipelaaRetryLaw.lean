/- Plain laws of waits (P57, P58). No program is in sight. No conditions. -/
import Derived.Test.YtggpcceljipelaaSums
namespace Go.Proofs.Ytggpcceljipelaa
open Go Go.RowKit

/-- the k-th wait -/
def wv (f m : Int) : Nat → Int
  | 0 => f
  | k + 1 => min m (2 * wv f m k)
theorem wv_bd {f m : Int} (hf : 1 ≤ f) (hm : f ≤ m) : ∀ k, 1 ≤ wv f m k ∧ wv f m k ≤ m
  | 0 => ⟨hf, hm⟩
  | k + 1 => by have := wv_bd hf hm k; simp only [wv]; omega
theorem wv_stay {f m : Int} (hf : 1 ≤ f) (hm : f ≤ m) {k : Nat} (h : m < 2 * wv f m k) : ∀ i, k < i → wv f m i = m
  | 0, hi => by omega
  | i + 1, hi => by
    have a := wv_bd hf hm i
    by_cases e : i = k
    · subst e; simp only [wv]; omega
    · have := wv_stay hf hm h i (by omega)
      simp only [wv]; omega
theorem wv_step {f m : Int} {k : Nat} (h : ¬ m < 2 * wv f m k) : wv f m (k + 1) = 2 * wv f m k := by simp only [wv]; omega
/-- the first that is false, or n -/
def FirstNo (p : Nat → Bool) (n i : Nat) : Prop := i ≤ n ∧ (∀ j, j < i → p j = true) ∧ (i < n → p i = false)
theorem firstNo_exists (p : Nat → Bool) : ∀ n, ∃ i, FirstNo p n i
  | 0 => ⟨0, by omega, fun j hj => by omega, fun h => by omega⟩
  | n + 1 => by
    obtain ⟨i, h1, h2, h3⟩ := firstNo_exists p n
    by_cases h : i < n
    · exact ⟨i, by omega, h2, fun _ => h3 h⟩
    · obtain rfl : i = n := by omega
      cases e : p i with
      | true => exact ⟨i + 1, by omega, fun j hj => by rcases Nat.lt_succ_iff_lt_or_eq.1 hj with h' | rfl; exact h2 j h'; exact e, fun h => by omega⟩
      | false => exact ⟨i, by omega, h2, fun _ => e⟩
theorem firstNo_one {p : Nat → Bool} {n i k : Nat} (h : FirstNo p n i) (g : FirstNo p n k) : i = k := by
  rcases Nat.lt_trichotomy i k with e | e | e
  · have := g.2.1 i e; rw [h.2.2 (by have := g.1; omega)] at this; cases this
  · exact e
  · have := h.2.1 k e; rw [g.2.2 (by have := h.1; omega)] at this; cases this
end Go.Proofs.Ytggpcceljipelaa
