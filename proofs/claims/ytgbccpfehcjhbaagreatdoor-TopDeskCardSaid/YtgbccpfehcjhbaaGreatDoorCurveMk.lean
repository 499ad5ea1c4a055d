/- A list that is bounded and goes up is a right curve (P3). No program is in sight. No conditions. -/
import Derived.Test.YtgbccpfehcjhbaaGreatDoorCurveFacts
namespace Go.Proofs.YtgbccpfehcjhbaaGreatDoor
open Go Go.RowKit

theorem scan_mk : ∀ (xs : List Int) (l : Int), (∀ j, j < xs.length → l ≤ gi xs j ∧ 0 ≤ gi xs j ∧ gi xs j ≤ 1000000) → (∀ i j, i ≤ j → j < xs.length → gi xs i ≤ gi xs j) → scan l xs = 0
  | [], _, _, _ => rfl
  | v :: r, l, h, m => by
    have h0 := h 0 (by simp)
    simp only [gi, List.getD_cons_zero] at h0
    unfold scan
    rw [if_neg (by omega), if_neg (by omega), if_neg (by omega)]
    refine scan_mk r v (fun j hj => ?_) (fun i j hij hj => ?_)
    · have a := h (j + 1) (by simpa using hj)
      have b := m 0 (j + 1) (by omega) (by simpa using hj)
      simp only [gi, List.getD_cons_succ, List.getD_cons_zero] at a b ⊢
      omega
    · have a := m (i + 1) (j + 1) (by omega) (by simpa using hj)
      simpa only [gi, List.getD_cons_succ] using a
theorem curve_mk {xs : List Int} (h0 : 0 < xs.length) (h1 : xs.length ≤ 61) (hb : ∀ j, j < xs.length → 0 ≤ gi xs j ∧ gi xs j ≤ 1000000) (hm : ∀ i j, i ≤ j → j < xs.length → gi xs i ≤ gi xs j) : curveErr xs = 0 := by
  unfold curveErr
  rw [if_neg (by omega), if_neg (by omega)]
  exact scan_mk xs 0 (fun j hj => by have := hb j hj; omega) hm
theorem both_mk {xs ys : List Int} (h : curveErr xs = 0) (g : curveErr ys = 0) (hl : xs.length = ys.length) : bothErr xs ys = 0 := by
  unfold bothErr
  rw [if_neg (by simp [h]), if_neg (by simp [g]), if_pos hl]
/-- what fits and goes up is a right curve -/
theorem curve_tab {n : Nat} {z : Nat → Int} (h0 : 0 < n) (h1 : n ≤ 61) (hb : ∀ j, j < n → 0 ≤ z j ∧ z j ≤ 1000000) (hm : ∀ i j, i ≤ j → j < n → z i ≤ z j) : curveErr (tab n z) = 0 := by
  refine curve_mk (by rw [tab_length]; exact h0) (by rw [tab_length]; exact h1) (fun j hj => ?_) (fun i j hij hj => ?_)
  · rw [tab_length] at hj; rw [gi_tab hj]; exact hb j hj
  · rw [tab_length] at hj; rw [gi_tab hj, gi_tab (show i < n by omega)]; exact hm i j hij hj
end Go.Proofs.YtgbccpfehcjhbaaGreatDoor
