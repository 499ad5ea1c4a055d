/- What edf.play plays, in plain Lean: the job of each time, what is left, when each is done. No program is in sight. No conditions. -/
import Derived.Test.YtgnegemiiahkaaaLib
namespace Go.Proofs.Ytgnegemiiahkaaa
open Go Go.RowKit

def cand (A L : Nat → Int) (t i : Nat) : Prop := A i ≤ (t : Int) ∧ 0 < L i
instance candDec (A L : Nat → Int) (t i : Nat) : Decidable (cand A L t i) := by unfold cand; exact inferInstance
/-- the best of the first k jobs -/
def bst (A D L : Nat → Int) (t : Nat) : Nat → Int
  | 0 => -1
  | k + 1 => if cand A L t k ∧ (bst A D L t k < 0 ∨ D k < D (bst A D L t k).toNat) then (k : Int) else bst A D L t k
theorem bst_spec (A D L : Nat → Int) (t : Nat) : ∀ k, (bst A D L t k = -1 ∧ ∀ j, j < k → ¬ cand A L t j) ∨ ∃ i : Nat, i < k ∧ bst A D L t k = (i : Int) ∧ cand A L t i ∧ ∀ j, j < k → cand A L t j → D i < D j ∨ (D i = D j ∧ i ≤ j)
  | 0 => .inl ⟨rfl, fun j hj => by omega⟩
  | k + 1 => by
    simp only [bst]
    rcases bst_spec A D L t k with ⟨h1, h2⟩ | ⟨i, hi, h1, h2, h3⟩
    · rw [h1]
      by_cases hc : cand A L t k
      · rw [if_pos ⟨hc, .inl (by omega)⟩]
        refine .inr ⟨k, by omega, rfl, hc, fun j hj hcj => ?_⟩
        by_cases e : j = k
        · subst e; exact .inr ⟨rfl, Nat.le_refl _⟩
        · exact absurd hcj (h2 j (by omega))
      · rw [if_neg (fun h => hc h.1)]
        refine .inl ⟨rfl, fun j hj => ?_⟩
        by_cases e : j = k
        · subst e; exact hc
        · exact h2 j (by omega)
    · rw [h1]
      by_cases hc : cand A L t k
      · by_cases hd : D k < D i
        · rw [if_pos ⟨hc, .inr (by simpa using hd)⟩]
          refine .inr ⟨k, by omega, rfl, hc, fun j hj hcj => ?_⟩
          by_cases e : j = k
          · subst e; exact .inr ⟨rfl, Nat.le_refl _⟩
          · rcases h3 j (by omega) hcj with h | h <;> exact .inl (by omega)
        · rw [if_neg (fun h => by rcases h.2 with h | h; omega; exact hd (by simpa using h))]
          refine .inr ⟨i, by omega, rfl, h2, fun j hj hcj => ?_⟩
          by_cases e : j = k
          · subst e
            by_cases e2 : D i = D j
            · exact .inr ⟨e2, by omega⟩
            · exact .inl (by omega)
          · exact h3 j (by omega) hcj
      · rw [if_neg (fun h => hc h.1)]
        refine .inr ⟨i, by omega, rfl, h2, fun j hj hcj => ?_⟩
        by_cases e : j = k
        · subst e; exact absurd hcj hc
        · exact h3 j (by omega) hcj
theorem bst_bd (A D L : Nat → Int) (t k : Nat) : -1 ≤ bst A D L t k ∧ bst A D L t k < (k : Int) ∨ (k = 0 ∧ bst A D L t k = -1) := by
  rcases bst_spec A D L t k with ⟨h1, _⟩ | ⟨i, hi, h1, _⟩
  · by_cases e : k = 0
    · exact .inr ⟨e, h1⟩
    · exact .inl (by omega)
  · exact .inl (by omega)
/-- what is left of each job behind t times -/
def lf (A W D : Nat → Int) (n : Nat) : Nat → Nat → Int
  | 0 => W
  | t + 1 => fun i => if bst A D (lf A W D n t) t n = (i : Int) then lf A W D n t i - 1 else lf A W D n t i
/-- the job of time t -/
def pk (A W D : Nat → Int) (n t : Nat) : Int := bst A D (lf A W D n t) t n
/-- when each is done, as known behind t times -/
def dn (A W D : Nat → Int) (n : Nat) : Nat → Nat → Int
  | 0 => fun _ => 0
  | t + 1 => fun i => if pk A W D n t = (i : Int) ∧ lf A W D n (t + 1) i = 0 then (t : Int) + 1 else dn A W D n t i
/-- behind the last time that had a job -/
def bz (A W D : Nat → Int) (n : Nat) : Nat → Nat
  | 0 => 0
  | t + 1 => if pk A W D n t < 0 then bz A W D n t else t + 1
theorem lf_succ (A W D : Nat → Int) (n t i : Nat) : lf A W D n (t + 1) i = if pk A W D n t = (i : Int) then lf A W D n t i - 1 else lf A W D n t i := rfl
theorem dn_succ (A W D : Nat → Int) (n t i : Nat) : dn A W D n (t + 1) i = if pk A W D n t = (i : Int) ∧ lf A W D n (t + 1) i = 0 then (t : Int) + 1 else dn A W D n t i := rfl
theorem pk_spec (A W D : Nat → Int) (n t : Nat) : (pk A W D n t = -1 ∧ ∀ j, j < n → ¬ cand A (lf A W D n t) t j) ∨ ∃ i : Nat, i < n ∧ pk A W D n t = (i : Int) ∧ cand A (lf A W D n t) t i ∧ ∀ j, j < n → cand A (lf A W D n t) t j → D i < D j ∨ (D i = D j ∧ i ≤ j) := bst_spec A D _ t n
theorem lf_bd {A W D : Nat → Int} {n : Nat} (h : ∀ i, i < n → 1 ≤ W i ∧ W i ≤ 200) : ∀ t i, i < n → 0 ≤ lf A W D n t i ∧ lf A W D n t i ≤ 200
  | 0, i, hi => by have := h i hi; simp only [lf]; omega
  | t + 1, i, hi => by
    have h1 := lf_bd (A := A) (D := D) h t i hi
    rw [lf_succ]
    split
    · rename_i e
      rcases pk_spec A W D n t with ⟨h2, _⟩ | ⟨k, hk, h2, h3, _⟩
      · omega
      · obtain rfl : k = i := by omega
        have := h3.2
        omega
    · exact h1
theorem bz_le (A W D : Nat → Int) (n : Nat) : ∀ t, bz A W D n t ≤ t
  | 0 => Nat.le_refl _
  | t + 1 => by
    have := bz_le A W D n t
    simp only [bz]
    split <;> omega
end Go.Proofs.Ytgnegemiiahkaaa
