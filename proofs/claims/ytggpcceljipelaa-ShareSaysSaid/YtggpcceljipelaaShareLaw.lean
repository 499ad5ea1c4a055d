/- Plain laws of a shared line (P69): when each is done, by a sum and byte by byte. No program is in sight. No conditions. -/
import Derived.Test.YtggpcceljipelaaSums
namespace Go.Proofs.Ytggpcceljipelaa
open Go Go.RowKit

/-- what has gone when R rounds are over, and of the next the first i -/
def cc (m : Nat → Int) (n : Nat) (R : Int) (i : Nat) : Int := sumT (fun k => if k < i then min (m k) (R + 1) else min (m k) R) n
theorem cc_succ {m : Nat → Int} {n : Nat} {R : Int} {i : Nat} (h : i < n) : cc m n R (i + 1) = cc m n R i + (if R < m i then 1 else 0) := by
  unfold cc
  refine sumT_one h (fun j hj hne => ?_) ?_
  · by_cases e : j < i
    · rw [if_pos e, if_pos (by omega)]
    · rw [if_neg e, if_neg (by omega)]
  · rw [if_pos (by omega), if_neg (by omega)]
    split <;> omega
theorem cc_round {m : Nat → Int} {n : Nat} {R : Int} : cc m n R n = cc m n (R + 1) 0 := by
  unfold cc
  exact sumT_congr fun j hj => by rw [if_pos hj, if_neg (by omega)]
theorem cc_zero {m : Nat → Int} {n : Nat} (hm : ∀ j, j < n → 0 ≤ m j) : cc m n 0 0 = 0 := by
  unfold cc
  rw [sumT_congr (b := fun _ => 0) fun j hj => by have := hm j hj; rw [if_neg (by omega)]; omega]
  have : ∀ n, sumT (fun _ => (0 : Int)) n = 0 := by
    intro n; induction n with
    | zero => rfl
    | succ n ih => simp [sumT, ih]
  exact this n
theorem cc_bd {m : Nat → Int} {n : Nat} {R : Int} {i : Nat} (hm : ∀ j, j < n → 0 ≤ m j ∧ m j ≤ 1000) (hR : 0 ≤ R) : 0 ≤ cc m n R i ∧ cc m n R i ≤ 1000 * (n : Int) := by
  unfold cc
  refine sumT_bd (n := n) (fun j hj => ?_) n (Nat.le_refl n)
  have := hm j hj
  split <;> omega
/-- when i is done -/
def finS (m : Nat → Int) (n : Nat) (r : Int) (i : Nat) : Int := if m i = 0 then 0 else cc m n (m i - 1) i / r + 1
/-- as the program finds it: the terms -/
def termS (m : Nat → Int) (i k : Nat) : Int := if k < i then min (m k) (m i) else if i < k then min (m k) (max 0 (m i - 1)) else 0
theorem termS_bd {m : Nat → Int} {n : Nat} (hm : ∀ j, j < n → 0 ≤ m j ∧ m j ≤ 1000) {i : Nat} (hi : i < n) : ∀ k, k < n → 0 ≤ termS m i k ∧ termS m i k ≤ 1000 := by
  intro k hk
  have := hm i hi
  have := hm k hk
  unfold termS
  split
  · omega
  · split <;> omega
theorem sum_cc {m : Nat → Int} {n : Nat} {i : Nat} (hi : i < n) (h : 0 < m i) : m i + sumT (termS m i) n = cc m n (m i - 1) i + 1 := by
  have : cc m n (m i - 1) i = sumT (termS m i) n + (m i - 1) := by
    unfold cc
    refine sumT_one hi (fun j hj hne => ?_) ?_
    · unfold termS
      by_cases e : j < i
      · rw [if_pos e, if_pos e]; omega
      · rw [if_neg e, if_neg e, if_pos (by omega)]; omega
    · unfold termS
      rw [if_neg (by omega), if_neg (by omega), if_neg (by omega)]; omega
  omega
theorem sumT_none {m : Nat → Int} {i : Nat} (h : m i = 0) : ∀ {n : Nat}, (∀ j, j < n → 0 ≤ m j) → sumT (termS m i) n = 0
  | 0, _ => rfl
  | n + 1, hm => by
    have a := hm n (by omega)
    rw [sumT, sumT_none h fun j hj => hm j (by omega)]
    unfold termS
    rw [h]
    split
    · omega
    · split <;> omega
theorem finS_sum {m : Nat → Int} {n : Nat} {r : Int} {i : Nat} (hi : i < n) (hm : ∀ j, j < n → 0 ≤ m j) (hr : 1 ≤ r) : (m i + sumT (termS m i) n + r - 1) / r = finS m n r i := by
  unfold finS
  by_cases h : m i = 0
  · rw [if_pos h, sumT_none h hm, h]
    exact Int.ediv_eq_zero_of_lt (by omega) (by omega)
  · have := hm i hi
    rw [if_neg h, sum_cc hi (by omega)]
    rw [show cc m n (m i - 1) i + 1 + r - 1 = cc m n (m i - 1) i + r * 1 by omega, Int.add_mul_ediv_left _ _ (by omega)]
theorem finS_bd {m : Nat → Int} {n : Nat} {r : Int} {i : Nat} (hi : i < n) (hm : ∀ j, j < n → 0 ≤ m j ∧ m j ≤ 1000) (hr : 1 ≤ r) : 0 ≤ finS m n r i ∧ finS m n r i ≤ 1000 * (n : Int) + 1 := by
  unfold finS
  split
  · omega
  · have a := hm i hi
    have b := cc_bd (m := m) (n := n) (R := m i - 1) (i := i) hm (by omega)
    have c : cc m n (m i - 1) i / r ≤ cc m n (m i - 1) i := Int.ediv_le_self _ b.1
    have d := Int.ediv_nonneg b.1 (show 0 ≤ r by omega)
    omega
end Go.Proofs.Ytggpcceljipelaa
