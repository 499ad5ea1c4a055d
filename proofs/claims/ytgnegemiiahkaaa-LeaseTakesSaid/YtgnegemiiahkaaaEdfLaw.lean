/- The plain law of demand (P46): what is asked between all times is what is asked between the jobs' own times. No program is in sight. No conditions. -/
import Derived.Test.YtgnegemiiahkaaaSums
namespace Go.Proofs.Ytgnegemiiahkaaa
open Go Go.RowKit

/-- the work of the jobs that come at a or later and are due by b -/
def need (A W D : Nat → Int) (n : Nat) (a b : Int) : Int := sumT (fun j => if a ≤ A j ∧ D j ≤ b then W j else 0) n
theorem need_pos {A W D : Nat → Int} {a b : Int} : ∀ {n : Nat}, 0 < need A W D n a b → ∃ j, j < n ∧ a ≤ A j ∧ D j ≤ b
  | 0, h => by simp [need, sumT] at h
  | n + 1, h => by
    by_cases e : a ≤ A n ∧ D n ≤ b
    · exact ⟨n, by omega, e.1, e.2⟩
    · unfold need at h
      rw [sumT, if_neg e, Int.add_zero] at h
      obtain ⟨j, hj, h1⟩ := need_pos (n := n) h
      exact ⟨j, by omega, h1⟩
theorem least_of (f : Nat → Int) (P : Nat → Prop) : ∀ n : Nat, (∃ j, j < n ∧ P j) → ∃ j, j < n ∧ P j ∧ ∀ i, i < n → P i → f j ≤ f i
  | 0, ⟨j, hj, _⟩ => by omega
  | n + 1, ⟨j, hj, hp⟩ => by
    by_cases h : ∃ j, j < n ∧ P j
    · obtain ⟨i, hi, pi, hle⟩ := least_of f P n h
      by_cases hn : P n ∧ f n < f i
      · refine ⟨n, by omega, hn.1, fun k hk pk => ?_⟩
        rcases Nat.lt_succ_iff_lt_or_eq.1 hk with h' | rfl
        · have := hle k h' pk; omega
        · omega
      · refine ⟨i, by omega, pi, fun k hk pk => ?_⟩
        rcases Nat.lt_succ_iff_lt_or_eq.1 hk with h' | rfl
        · exact hle k h' pk
        · have : ¬ f k < f i := fun h' => hn ⟨pk, h'⟩
          omega
    · have hjn : j = n := by
        apply Classical.byContradiction
        intro hne
        exact h ⟨j, by omega, hp⟩
      subst hjn
      refine ⟨j, by omega, hp, fun k hk pk => ?_⟩
      rcases Nat.lt_succ_iff_lt_or_eq.1 hk with h' | rfl
      · exact absurd ⟨k, h', pk⟩ h
      · omega
/-- all fits, by the jobs' own times -/
def FitsJ (A W D : Nat → Int) (n : Nat) : Prop := ∀ i k, i < n → k < n → A i < D k → need A W D n (A i) (D k) ≤ D k - A i
/-- all fits, by all times -/
def FitsT (A W D : Nat → Int) (n : Nat) : Prop := ∀ a b : Nat, a < 200 → a ≤ b → b ≤ 200 → need A W D n a b ≤ (b : Int) - a
theorem fits_same {A W D : Nat → Int} {n : Nat} (h : ∀ j, j < n → 0 ≤ A j ∧ A j < D j ∧ D j ≤ 200 ∧ 1 ≤ W j) : FitsJ A W D n ↔ FitsT A W D n := by
  constructor
  · intro H a b ha hab hb
    by_cases h0 : 0 < need A W D n a b
    · obtain ⟨j, hj, j1, j2⟩ := need_pos h0
      obtain ⟨i, hi, pi, li⟩ := least_of A (fun j => (a : Int) ≤ A j ∧ D j ≤ b) n ⟨j, hj, j1, j2⟩
      obtain ⟨k, hk, pk, lk⟩ := least_of (fun j => - D j) (fun j => (a : Int) ≤ A j ∧ D j ≤ b) n ⟨j, hj, j1, j2⟩
      have hik := li k hk pk
      have hAD := (h k hk).2.1
      have h1 := H i k hi hk (by omega)
      have h2 : need A W D n a b ≤ need A W D n (A i) (D k) := by
        unfold need
        refine sumT_le fun u hu => ?_
        have hw := (h u hu).2.2.2
        by_cases e : (a : Int) ≤ A u ∧ D u ≤ b
        · have e1 := li u hu e
          have e2 := lk u hu e
          rw [if_pos e, if_pos ⟨e1, by omega⟩]; omega
        · rw [if_neg e]; split <;> omega
      omega
    · omega
  · intro H i k hi hk hlt
    obtain ⟨a1, a2, a3, _⟩ := h i hi
    obtain ⟨b1, b2, b3, _⟩ := h k hk
    have := H (A i).toNat (D k).toNat (by omega) (by omega) (by omega)
    rw [show ((A i).toNat : Int) = A i by omega, show ((D k).toNat : Int) = D k by omega] at this
    exact this
end Go.Proofs.Ytgnegemiiahkaaa
