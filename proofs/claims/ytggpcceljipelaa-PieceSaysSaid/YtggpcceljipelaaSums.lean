/- Plain laws of sums over the first numbers. No program is in sight. No conditions. -/
import Derived.Test.YtggpcceljipelaaLib
namespace Go.Proofs.Ytggpcceljipelaa
open Go Go.RowKit

/-- the sum of the first k -/
def sumT (a : Nat → Int) : Nat → Int
  | 0 => 0
  | k + 1 => sumT a k + a k
theorem sumT_succ (a : Nat → Int) (k : Nat) : sumT a (k + 1) = sumT a k + a k := rfl
theorem sumT_zero (a : Nat → Int) : sumT a 0 = 0 := rfl
theorem sumT_bd {a : Nat → Int} {n : Nat} {b : Int} (h : ∀ j, j < n → 0 ≤ a j ∧ a j ≤ b) : ∀ k, k ≤ n → 0 ≤ sumT a k ∧ sumT a k ≤ b * (k : Int)
  | 0, _ => by simp [sumT]
  | k + 1, hk => by
    have a1 := sumT_bd h k (by omega)
    have a2 := h k (by omega)
    have e : b * ((k + 1 : Nat) : Int) = b * (k : Int) + b := by rw [Int.natCast_succ, Int.mul_add, Int.mul_one]
    simp only [sumT]
    omega
theorem sumT_congr {a b : Nat → Int} : ∀ {n : Nat}, (∀ j, j < n → a j = b j) → sumT a n = sumT b n
  | 0, _ => rfl
  | n + 1, h => by rw [sumT, sumT, sumT_congr fun j hj => h j (by omega), h n (by omega)]
theorem sumT_le {a b : Nat → Int} : ∀ {n : Nat}, (∀ j, j < n → a j ≤ b j) → sumT a n ≤ sumT b n
  | 0, _ => by simp [sumT]
  | n + 1, h => by
    have := sumT_le (n := n) fun j hj => h j (by omega)
    have := h n (by omega)
    simp only [sumT]; omega
/-- two that differ at one place -/
theorem sumT_one {a b : Nat → Int} {d : Int} {i : Nat} : ∀ {n : Nat}, i < n → (∀ j, j < n → j ≠ i → a j = b j) → a i = b i + d → sumT a n = sumT b n + d
  | 0, h, _, _ => by omega
  | n + 1, h, h1, h2 => by
    simp only [sumT]
    by_cases e : i = n
    · subst e
      rw [sumT_congr (b := b) fun j hj => h1 j (by omega) (by omega), h2]; omega
    · rw [sumT_one (n := n) (by omega) (fun j hj => h1 j (by omega)) h2, h1 n (by omega) (by omega)]; omega
end Go.Proofs.Ytggpcceljipelaa
