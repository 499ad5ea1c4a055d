/- What ranks.Run plays, in plain Lean, and that task by task is the same (P50). No program is in sight. No conditions. -/
import Derived.Test.YtgnegemiiahkaaaLib
namespace Go.Proofs.Ytgnegemiiahkaaa
open Go Go.RowKit

/-- the first of k that has something left -/
def whf (H : Nat → Int) : Nat → Int
  | 0 => -1
  | k + 1 => if whf H k < 0 ∧ 0 < H k then (k : Int) else whf H k
theorem whf_spec (H : Nat → Int) : ∀ k, (whf H k = -1 ∧ ∀ j, j < k → ¬ 0 < H j) ∨ ∃ i : Nat, i < k ∧ whf H k = (i : Int) ∧ 0 < H i ∧ ∀ j, j < i → ¬ 0 < H j
  | 0 => .inl ⟨rfl, fun j hj => by omega⟩
  | k + 1 => by
    simp only [whf]
    rcases whf_spec H k with ⟨h1, h2⟩ | ⟨i, hi, h1, h2, h3⟩
    · rw [h1]
      by_cases hk : 0 < H k
      · rw [if_pos ⟨by omega, hk⟩]
        exact .inr ⟨k, by omega, rfl, hk, h2⟩
      · rw [if_neg (fun h => hk h.2)]
        refine .inl ⟨rfl, fun j hj => ?_⟩
        by_cases e : j = k
        · subst e; exact hk
        · exact h2 j (by omega)
    · rw [h1, if_neg (fun h => by omega)]
      exact .inr ⟨i, by omega, rfl, h2, h3⟩
/-- what task i gets at time t -/
def arr (P C : Nat → Int) (t i : Nat) : Int := if (t : Int) % P i = 0 then C i else 0
/-- what is left of each task behind t times -/
def lv (P C : Nat → Int) (n : Nat) : Nat → Nat → Int
  | 0 => fun _ => 0
  | t + 1 => fun i => if whf (fun j => lv P C n t j + arr P C t j) n = (i : Int) then lv P C n t i + arr P C t i - 1 else lv P C n t i + arr P C t i
def hv (P C : Nat → Int) (n t i : Nat) : Int := lv P C n t i + arr P C t i
def wh (P C : Nat → Int) (n t : Nat) : Int := whf (hv P C n t) n
theorem lv_succ (P C : Nat → Int) (n t i : Nat) : lv P C n (t + 1) i = if wh P C n t = (i : Int) then hv P C n t i - 1 else hv P C n t i := rfl
theorem wh_spec (P C : Nat → Int) (n t : Nat) : (wh P C n t = -1 ∧ ∀ j, j < n → ¬ 0 < hv P C n t j) ∨ ∃ i : Nat, i < n ∧ wh P C n t = (i : Int) ∧ 0 < hv P C n t i ∧ ∀ j, j < i → ¬ 0 < hv P C n t j := whf_spec _ n
theorem arr_bd {P C : Nat → Int} {n : Nat} (h : ∀ i, i < n → 1 ≤ C i ∧ C i ≤ 60) {t i : Nat} (hi : i < n) : 0 ≤ arr P C t i ∧ arr P C t i ≤ 60 := by
  have := h i hi
  unfold arr
  split <;> omega
theorem lv_bd {P C : Nat → Int} {n : Nat} (h : ∀ i, i < n → 1 ≤ C i ∧ C i ≤ 60) : ∀ t i, i < n → 0 ≤ lv P C n t i ∧ lv P C n t i ≤ 60 * (t : Int)
  | 0, i, hi => by simp [lv]
  | t + 1, i, hi => by
    have h1 := lv_bd (P := P) h t i hi
    have h2 := arr_bd (P := P) h (t := t) hi
    rw [lv_succ]
    unfold hv
    split
    · rename_i e
      rcases wh_spec P C n t with ⟨h3, _⟩ | ⟨k, hk, h3, h4, _⟩
      · omega
      · obtain rfl : k = i := by omega
        unfold hv at h4
        omega
    · omega
/-- the slots behind the first k tasks -/
def wrr (P C : Nat → Int) (n k s : Nat) : Int := if wh P C n s < (k : Int) then wh P C n s else -1
theorem wrr_zero {P C : Nat → Int} {n s : Nat} : wrr P C n 0 s = -1 := by
  unfold wrr
  rcases wh_spec P C n s with ⟨h, _⟩ | ⟨i, _, h, _⟩ <;> split <;> omega
theorem wrr_all {P C : Nat → Int} {n s : Nat} : wrr P C n n s = wh P C n s := by
  unfold wrr
  rcases wh_spec P C n s with ⟨h, _⟩ | ⟨i, hi, h, _⟩
  · rw [if_pos (by omega)]
  · rw [if_pos (by omega)]
theorem wrr_bd {P C : Nat → Int} {n k s : Nat} : -1 ≤ wrr P C n k s := by
  unfold wrr
  rcases wh_spec P C n s with ⟨h, _⟩ | ⟨i, hi, h, _⟩ <;> split <;> omega
theorem wrr_take {P C : Nat → Int} {n k s : Nat} (hk : k < n) (h1 : wrr P C n k s < 0) (h2 : 0 < hv P C n s k) : wh P C n s = (k : Int) := by
  rcases wh_spec P C n s with ⟨h, h3⟩ | ⟨i, hi, h, _, h3⟩
  · exact absurd h2 (h3 k hk)
  · rcases Nat.lt_trichotomy i k with e | e | e
    · unfold wrr at h1
      rw [if_pos (by omega)] at h1
      omega
    · rw [h, e]
    · exact absurd h2 (h3 k e)
theorem wrr_not {P C : Nat → Int} {n k s : Nat} (h : ¬ (wrr P C n k s < 0 ∧ 0 < hv P C n s k)) : wh P C n s ≠ (k : Int) := by
  intro e
  apply h
  rcases wh_spec P C n s with ⟨h1, _⟩ | ⟨i, hi, h1, h2, h3⟩
  · omega
  · obtain rfl : i = k := by omega
    refine ⟨?_, h2⟩
    unfold wrr
    rw [if_neg (by omega)]; omega
theorem wrr_hit {P C : Nat → Int} {n k s : Nat} (h : wh P C n s = (k : Int)) : wrr P C n (k + 1) s = (k : Int) := by
  unfold wrr
  rw [if_pos (by omega), h]
theorem wrr_same {P C : Nat → Int} {n k s : Nat} (h : wh P C n s ≠ (k : Int)) : wrr P C n (k + 1) s = wrr P C n k s := by
  unfold wrr
  by_cases e : wh P C n s < (k : Int)
  · rw [if_pos e, if_pos (by omega)]
  · rw [if_neg e, if_neg (by omega)]
/-- the slots, while task k is at time t -/
def wrm (P C : Nat → Int) (n k t s : Nat) : Int := if s < t then wrr P C n (k + 1) s else wrr P C n k s
end Go.Proofs.Ytgnegemiiahkaaa
