/- What a flow has sent when its turns allow so much (P38 to P40), in plain Lean. No program is in sight. Conditions: what holds of a flow. -/
import Derived.Test.YtggpcceljipelaaLib
namespace Go.Proofs.Ytggpcceljipelaa
open Go Go.RowKit
set_option linter.unusedVariables false

/-- the first n sizes -/
def pre (xs : List Int) : Nat → Int
  | 0 => 0
  | n + 1 => pre xs n + gi xs n
/-- what holds of the sizes -/
def OkSz (xs : List Int) : Prop := xs.length ≤ 60 ∧ ∀ i, i < xs.length → 1 ≤ gi xs i ∧ gi xs i ≤ 1000
theorem pre_le {xs : List Int} (h : OkSz xs) : ∀ {i j : Nat}, i ≤ j → j ≤ xs.length → pre xs i + (j - i : Nat) ≤ pre xs j
  | i, 0, h1, _ => by
    have e : i = 0 := by omega
    rw [e]; simp
  | i, j + 1, h1, h2 => by
    rcases Nat.lt_or_eq_of_le h1 with h3 | rfl
    · have := pre_le h (i := i) (j := j) (by omega) (by omega)
      have h4 := (h.2 j (by omega)).1
      rw [pre]; omega
    · simp
theorem pre_bound {xs : List Int} (h : OkSz xs) {n : Nat} (hn : n ≤ xs.length) : 0 ≤ pre xs n ∧ pre xs n ≤ 1000 * n := by
  constructor
  · have := pre_le h (Nat.zero_le n) hn
    have e : pre xs 0 = 0 := rfl
    omega
  · induction n with
    | zero => simp [pre]
    | succ k ih => have := ih (by omega); have := (h.2 k (by omega)).2; rw [pre]; omega
/-- n is how many a budget of b allows -/
def IsC (b : Int) (xs : List Int) (n : Nat) : Prop := n ≤ xs.length ∧ pre xs n ≤ b ∧ (n < xs.length → b < pre xs (n + 1))
theorem isC_one {b : Int} {xs : List Int} {n m : Nat} (h : OkSz xs) (hn : IsC b xs n) (hm : IsC b xs m) : n = m := by
  obtain ⟨a1, a2, a3⟩ := hn
  obtain ⟨b1, b2, b3⟩ := hm
  rcases Nat.lt_trichotomy n m with e | e | e
  · have h1 := a3 (by omega)
    have h2 := pre_le h (i := n + 1) (j := m) (by omega) b1
    omega
  · exact e
  · have h1 := b3 (by omega)
    have h2 := pre_le h (i := m + 1) (j := n) (by omega) a1
    omega
theorem isC_ex (b : Int) (xs : List Int) (hb : 0 ≤ b) : ∃ n, IsC b xs n := by
  suffices ∀ k, k ≤ xs.length → ∃ n, n ≤ k ∧ pre xs n ≤ b ∧ (n < k → b < pre xs (n + 1)) by
    obtain ⟨n, h1, h2, h3⟩ := this xs.length (Nat.le_refl _)
    exact ⟨n, h1, h2, h3⟩
  intro k
  induction k with
  | zero => intro _; exact ⟨0, Nat.le_refl _, hb, fun h => absurd h (Nat.lt_irrefl _)⟩
  | succ k ih =>
    intro hk
    obtain ⟨n, h1, h2, h3⟩ := ih (by omega)
    by_cases e : n < k
    · exact ⟨n, by omega, h2, fun _ => h3 e⟩
    · obtain rfl : n = k := by omega
      by_cases e2 : pre xs (n + 1) ≤ b
      · exact ⟨n + 1, Nat.le_refl _, e2, fun h => absurd h (Nat.lt_irrefl _)⟩
      · exact ⟨n, by omega, h2, fun _ => by omega⟩
/-- a queue after turns that allow b -/
def QSt (b : Int) (xs : List Int) (at_ : Nat) (sh : Int) : Prop := IsC b xs at_ ∧ (at_ < xs.length → sh = b - pre xs at_)
theorem QSt.zero {xs : List Int} (h : OkSz xs) : QSt 0 xs 0 0 :=
  ⟨⟨Nat.zero_le _, Int.le_refl _, fun h0 => by have := (h.2 0 h0).1; show (0 : Int) < pre xs 0 + gi xs 0; show (0 : Int) < 0 + gi xs 0; omega⟩, fun _ => rfl⟩
theorem QSt.full {b q : Int} {xs : List Int} {sh : Int} (h : QSt b xs xs.length sh) (hq : 0 ≤ q) : QSt (b + q) xs xs.length sh :=
  ⟨⟨Nat.le_refl _, by have := h.1.2.1; omega, fun h0 => absurd h0 (Nat.lt_irrefl _)⟩, fun h0 => absurd h0 (Nat.lt_irrefl _)⟩
/-- within a turn -/
def InT (b : Int) (xs : List Int) (a n : Nat) (sh : Int) : Prop := a ≤ n ∧ n ≤ xs.length ∧ pre xs n ≤ b ∧ sh = b - pre xs n
theorem InT.start {b q : Int} {xs : List Int} {a : Nat} {sh : Int} (h : QSt b xs a sh) (ha : a < xs.length) (hq : 0 ≤ q) : InT (b + q) xs a a (sh + q) :=
  ⟨Nat.le_refl _, h.1.1, by have := h.1.2.1; omega, by rw [h.2 ha]; omega⟩
theorem InT.next {b : Int} {xs : List Int} {a n : Nat} {sh : Int} (h : InT b xs a n sh) (hn : n < xs.length) (hs : gi xs n ≤ sh) : InT b xs a (n + 1) (sh - gi xs n) := by
  obtain ⟨h1, h2, h3, h4⟩ := h
  refine ⟨by omega, by omega, ?_, ?_⟩
  · rw [pre]; omega
  · rw [pre]; omega
theorem InT.done {b : Int} {xs : List Int} {a n : Nat} {sh : Int} (h : InT b xs a n sh) (hs : n < xs.length → ¬ gi xs n ≤ sh) : IsC b xs n := by
  obtain ⟨h1, h2, h3, h4⟩ := h
  refine ⟨h2, h3, fun h5 => ?_⟩
  have := hs h5
  rw [pre]; omega
end Go.Proofs.Ytggpcceljipelaa
