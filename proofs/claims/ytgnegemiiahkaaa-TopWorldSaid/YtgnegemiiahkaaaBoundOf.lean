/- The contracts of bound.Back, bound.by, bound.Delay and headref.Delay (P25, P26). No conditions. -/
import Derived.Test.YtgnegemiiahkaaaLeOf
import Derived.RegionTactic
import Derived.BigRegion
import Derived.Deep.RegionLaw
namespace Go.Proofs.Ytgnegemiiahkaaa
open Go Go.RowKit

/-- P25: the greatest difference, at least 0 -/
def backV (xs ys : List Int) : Int := mxf 0 (fun t => gi xs t - gi ys t) xs.length

/-- is what comes there d later, as far as can be seen? -/
def ByP (n d : Nat) (xs ys : List Int) : Prop := ∀ t, t + d < n → gi xs t ≤ gi ys (t + d)

/-- what P26 answers: the first time from which it is so, or that there is none -/
def DelayOf (n : Nat) (xs ys : List Int) (k : Nat) : Prop := k ≤ n ∧ (∀ j, j < k → ¬ ByP n j xs ys) ∧ (k < n → ByP n k xs ys)

theorem exists_bool (P : Prop) : ∃ r : Bool, r = true ↔ P := by
  by_cases h : P
  · exact ⟨true, by simp [h]⟩
  · exact ⟨false, by simp [h]⟩
theorem delay_exists (n : Nat) (xs ys : List Int) : ∃ k, DelayOf n xs ys k := by
  suffices h : ∀ m, m ≤ n → (∃ k, DelayOf n xs ys k) ∨ ∀ j, j < m → ¬ ByP n j xs ys by
    rcases h n (Nat.le_refl _) with h | h
    · exact h
    · exact ⟨n, Nat.le_refl _, h, fun e => absurd e (Nat.lt_irrefl _)⟩
  intro m
  induction m with
  | zero => intro _; exact .inr fun j hj => by omega
  | succ m ih =>
    intro hm
    rcases ih (by omega) with h | h
    · exact .inl h
    · by_cases hb : ByP n m xs ys
      · exact .inl ⟨m, by omega, h, fun _ => hb⟩
      · exact .inr fun j hj => by rcases Nat.lt_succ_iff_lt_or_eq.1 hj with h' | rfl; exact h j h'; exact hb

theorem leN_by {n d : Nat} {xs ys : List Int} (hd : d ≤ n) : LeN (n - d) (xs.take (n - d)) (ys.drop d) ↔ ByP n d xs ys := by
  constructor
  · intro h t ht
    have := h t (by omega)
    rw [gi_take (by omega), gi_drop, Nat.add_comm d t] at this
    exact this
  · intro h t ht
    have := h t (by omega)
    rw [gi_take ht, gi_drop, Nat.add_comm d t]
    exact this

end Go.Proofs.Ytgnegemiiahkaaa
