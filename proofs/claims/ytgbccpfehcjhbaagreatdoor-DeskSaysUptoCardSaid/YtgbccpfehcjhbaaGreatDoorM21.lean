/- Plain laws of a thing in pieces that crashes interrupt (P70, P71), and of pieces (P51). No program is in sight. No conditions. -/
import Derived.Test.YtgbccpfehcjhbaaGreatDoorM01
import Derived.Test.YtgbccpfehcjhbaaGreatDoorM09
import Derived.Test.YtgbccpfehcjhbaaGreatDoorM14
import Derived.OwnWalk
namespace Go.Proofs.YtgbccpfehcjhbaaGreatDoor
open Go Go.RowKit

theorem emod_le {a b : Int} (h : 0 ≤ a) (hb : 1 ≤ b) : a % b ≤ a := by
  have h1 := Int.ediv_mul_add_emod a b
  have h2 := Int.mul_nonneg (Int.ediv_nonneg h (show 0 ≤ b by omega)) (show 0 ≤ b by omega)
  omega
def gsStep (s u r g : Int) (c : Bool) : Int := if c = true ∧ min s (g + r) < s then min s (g + r) - min s (g + r) % u else min s (g + r)
/-- what is there behind k times -/
def gs (s u r : Int) (cr : Nat → Bool) : Nat → Int
  | 0 => 0
  | k + 1 => gsStep s u r (gs s u r cr k) (cr k)
theorem gsStep_bd {s u r g : Int} {c : Bool} (hs : 0 ≤ s) (hu : 1 ≤ u) (hr : 0 ≤ r) (hg : 0 ≤ g ∧ g ≤ s) : 0 ≤ gsStep s u r g c ∧ gsStep s u r g c ≤ s := by
  unfold gsStep
  have h0 := Int.emod_nonneg (min s (g + r)) (show u ≠ 0 by omega)
  have h1 : min s (g + r) % u ≤ min s (g + r) := emod_le (by omega) hu
  split <;> omega
theorem gs_bd {s u r : Int} {cr : Nat → Bool} (hs : 0 ≤ s) (hu : 1 ≤ u) (hr : 0 ≤ r) : ∀ k, 0 ≤ gs s u r cr k ∧ gs s u r cr k ≤ s
  | 0 => by simp [gs, hs]
  | k + 1 => gsStep_bd hs hu hr (gs_bd hs hu hr k)
/-- what is whole, and the part under way: as the reference goes -/
def WP (s u g w p : Int) : Prop := w + p = g ∧ 0 ≤ p ∧ 0 ≤ w ∧ w + p ≤ s ∧ ∃ q, w = u * q
def part1 (s r w p : Int) : Int := min (p + r) (s - w)
theorem wp_sum {s u r g w p : Int} (h : WP s u g w p) : w + part1 s r w p = min s (g + r) := by
  obtain ⟨h1, _⟩ := h
  unfold part1; omega
theorem wp_keep {s u r g w p : Int} {c : Bool} (h : WP s u g w p) (hr : 0 ≤ r) (hc : ¬ (c = true ∧ min s (g + r) < s)) : WP s u (gsStep s u r g c) w (part1 s r w p) := by
  have e := wp_sum (r := r) h
  obtain ⟨h1, h2, h3, h4, h5⟩ := h
  unfold gsStep
  rw [if_neg hc]
  refine ⟨e, ?_, h3, by omega, h5⟩
  unfold part1; omega
theorem wp_crash {s u r g w p : Int} {c : Bool} (h : WP s u g w p) (hu : 1 ≤ u) (hr : 0 ≤ r) (hc : c = true ∧ min s (g + r) < s) : WP s u (gsStep s u r g c) w (part1 s r w p / u * u) := by
  have e := wp_sum (r := r) h
  obtain ⟨h1, h2, h3, h4, q, h5⟩ := h
  have hp : 0 ≤ part1 s r w p := by unfold part1; omega
  have hd := Int.ediv_mul_add_emod (part1 s r w p) u
  have hm := Int.emod_nonneg (part1 s r w p) (show u ≠ 0 by omega)
  have hq := Int.mul_nonneg (Int.ediv_nonneg hp (show 0 ≤ u by omega)) (show 0 ≤ u by omega)
  have em : min s (g + r) % u = part1 s r w p % u := by rw [← e, h5]; exact Int.mul_add_emod_self_left _ _ _
  unfold gsStep
  rw [if_pos hc, em]
  exact ⟨by omega, hq, h3, by omega, q, h5⟩
theorem wp_whole {s u g w p : Int} (h : WP s u g w p) (h0 : p % u = 0) : WP s u g (w + p) 0 := by
  obtain ⟨h1, h2, h3, h4, q, h5⟩ := h
  have hd := Int.mul_ediv_add_emod p u
  exact ⟨by omega, by omega, by omega, by omega, q + p / u, by rw [Int.mul_add]; omega⟩

/-- a divided by b, rounded up -/
theorem up_le {a b : Int} (hb : 1 ≤ b) : ((a + b - 1) / b - 1) * b < a ∧ a ≤ (a + b - 1) / b * b := by
  have hd := Int.ediv_mul_add_emod (a + b - 1) b
  have h0 := Int.emod_nonneg (a + b - 1) (show b ≠ 0 by omega)
  have h1 := Int.emod_lt_of_pos (a + b - 1) (show 0 < b by omega)
  rw [Int.sub_mul]
  omega
theorem up_lt {a b k : Int} (hb : 1 ≤ b) : k < (a + b - 1) / b ↔ 0 < a - k * b := by
  have e : k < (a + b - 1) / b ↔ k + 1 ≤ (a + b - 1) / b := by omega
  rw [e, Int.le_ediv_iff_mul_le (by omega), Int.add_mul]
  omega
theorem up_bd {a b : Int} (ha : 0 ≤ a) (hb : 1 ≤ b) : 0 ≤ (a + b - 1) / b ∧ (a + b - 1) / b ≤ a := by
  refine ⟨Int.ediv_nonneg (by omega) (by omega), ?_⟩
  have : ¬ a < (a + b - 1) / b := by
    rw [up_lt hb]
    have : a * 1 ≤ a * b := Int.mul_le_mul_of_nonneg_left hb ha
    omega
  omega
end Go.Proofs.YtgbccpfehcjhbaaGreatDoor

/- The contracts of trace.Check, headref.Trace (P21), and of slices.IndexFunc, slices.ContainsFunc over a function that only reckons. Conditions: what that function answers. -/
namespace Go.Proofs.YtgbccpfehcjhbaaGreatDoor
open Go Go.RowKit

def okT (xs : List Int) : Prop := ∀ j, j < xs.length → 0 ≤ gi xs j ∧ gi xs j ≤ 10000
instance (xs : List Int) : Decidable (okT xs) := by unfold okT; infer_instance
/-- P21 -/
def traceErr (xs : List Int) : Int := if xs.length > 60 then 2 else if okT xs then 0 else 1
theorem trace_ok {xs : List Int} (h : traceErr xs = 0) : xs.length ≤ 60 ∧ okT xs := by
  unfold traceErr at h
  by_cases h1 : xs.length > 60
  · rw [if_pos h1] at h; omega
  · rw [if_neg h1] at h
    by_cases h2 : okT xs
    · exact ⟨by omega, h2⟩
    · rw [if_neg h2] at h; omega
theorem trace_of {xs : List Int} (h : xs.length ≤ 60) (g : okT xs) : traceErr xs = 0 := by
  unfold traceErr; rw [if_neg (by omega), if_pos g]

def badT (v : Int) : Bool := !(decide (0 ≤ v) && decide (v ≤ 10000))
theorem badT_false {v : Int} : badT v = false ↔ 0 ≤ v ∧ v ≤ 10000 := by simp [badT]
theorem badT_true {v : Int} : badT v = true ↔ ¬ (0 ≤ v ∧ v ≤ 10000) := by
  rw [← badT_false]; cases badT v <;> simp

end Go.Proofs.YtgbccpfehcjhbaaGreatDoor
