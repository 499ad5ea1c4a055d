/- Plain facts on curves: what 'curveErr f = 0' says; running maxima and minima. No program is in sight. No conditions. -/
import Derived.Test.YtgbccpfehcjhbaaGreatDoorM06
namespace Go.Proofs.YtgbccpfehcjhbaaGreatDoor
open Go Go.RowKit

theorem scan_ok (xs : List Int) : ∀ l, scan l xs = 0 → (∀ j, j < xs.length → l ≤ gi xs j ∧ 0 ≤ gi xs j ∧ gi xs j ≤ 1000000) ∧ ∀ i j, i ≤ j → j < xs.length → gi xs i ≤ gi xs j := by
  induction xs with
  | nil => intro l _; exact ⟨fun j hj => by simp at hj, fun i j _ hj => by simp at hj⟩
  | cons v r ih =>
    intro l h
    unfold scan at h
    by_cases h1 : v < 0
    · simp [h1] at h
    by_cases h2 : v > 1000000
    · simp [h1, h2] at h
    by_cases h3 : v < l
    · simp [h1, h2, h3] at h
    rw [if_neg h1, if_neg h2, if_neg h3] at h
    obtain ⟨ih1, ih2⟩ := ih v h
    refine ⟨fun j hj => ?_, fun i j hij hj => ?_⟩
    · cases j with
      | zero => simp only [gi, List.getD_cons_zero]; omega
      | succ j =>
        have := ih1 j (by simpa using hj)
        simp only [gi, List.getD_cons_succ] at this ⊢
        omega
    · cases j with
      | zero => obtain rfl : i = 0 := by omega
                exact Int.le_refl _
      | succ j =>
        cases i with
        | zero =>
          have := ih1 j (by simpa using hj)
          simp only [gi, List.getD_cons_succ, List.getD_cons_zero] at this ⊢
          omega
        | succ i =>
          have := ih2 i j (by omega) (by simpa using hj)
          simpa only [gi, List.getD_cons_succ] using this

structure Curve (xs : List Int) (n : Nat) : Prop where
  len : xs.length = n
  pos : 0 < n
  le : n ≤ 61
  bd : ∀ j, j < n → 0 ≤ gi xs j ∧ gi xs j ≤ 1000000
  mono : ∀ i j, i ≤ j → j < n → gi xs i ≤ gi xs j

theorem curve_of {xs : List Int} {n : Nat} (h : curveErr xs = 0) (hn : xs.length = n) : Curve xs n := by
  subst hn
  unfold curveErr at h
  by_cases h0 : xs.length = 0
  · simp [h0] at h
  by_cases h1 : xs.length > 61
  · simp [h0, h1] at h
  rw [if_neg h0, if_neg h1] at h
  obtain ⟨a, b⟩ := scan_ok xs 0 h
  exact ⟨rfl, by omega, by omega, fun j hj => (a j hj).2, b⟩

/-- the running maximum of e 0 .. e (m-1), from s on -/
def mxf (s : Int) (e : Nat → Int) : Nat → Int
  | 0 => s
  | m + 1 => max (mxf s e m) (e m)
/-- the running minimum -/
def mnf (s : Int) (e : Nat → Int) : Nat → Int
  | 0 => s
  | m + 1 => min (mnf s e m) (e m)

theorem mxf_succ (s : Int) (e : Nat → Int) (m : Nat) : mxf s e (m + 1) = max (mxf s e m) (e m) := rfl
theorem mnf_succ (s : Int) (e : Nat → Int) (m : Nat) : mnf s e (m + 1) = min (mnf s e m) (e m) := rfl
theorem mxf_bd {s : Int} {e : Nat → Int} {m : Nat} {a b : Int} (hs : a ≤ s ∧ s ≤ b) (h : ∀ u, u < m → a ≤ e u ∧ e u ≤ b) : a ≤ mxf s e m ∧ mxf s e m ≤ b := by
  induction m with
  | zero => exact hs
  | succ m ih =>
    have := ih fun u hu => h u (by omega)
    have := h m (by omega)
    rw [mxf_succ]; omega
theorem mnf_bd {s : Int} {e : Nat → Int} {m : Nat} {a b : Int} (hs : a ≤ s ∧ s ≤ b) (h : ∀ u, u < m → a ≤ e u ∧ e u ≤ b) : a ≤ mnf s e m ∧ mnf s e m ≤ b := by
  induction m with
  | zero => exact hs
  | succ m ih =>
    have := ih fun u hu => h u (by omega)
    have := h m (by omega)
    rw [mnf_succ]; omega
theorem mxf_le {s : Int} {e : Nat → Int} {m : Nat} {b : Int} (hs : s ≤ b) (h : ∀ u, u < m → e u ≤ b) : mxf s e m ≤ b := by
  induction m with
  | zero => exact hs
  | succ m ih =>
    have := ih fun u hu => h u (by omega)
    have := h m (by omega)
    rw [mxf_succ]; omega
theorem le_mnf {s : Int} {e : Nat → Int} {m : Nat} {b : Int} (hs : b ≤ s) (h : ∀ u, u < m → b ≤ e u) : b ≤ mnf s e m := by
  induction m with
  | zero => exact hs
  | succ m ih =>
    have := ih fun u hu => h u (by omega)
    have := h m (by omega)
    rw [mnf_succ]; omega
theorem mxf_ge {s : Int} {e : Nat → Int} {m : Nat} : s ≤ mxf s e m ∧ ∀ u, u < m → e u ≤ mxf s e m := by
  induction m with
  | zero => exact ⟨Int.le_refl _, fun u hu => by omega⟩
  | succ m ih =>
    obtain ⟨a, b⟩ := ih
    refine ⟨by rw [mxf_succ]; omega, fun u hu => ?_⟩
    rcases Nat.lt_succ_iff_lt_or_eq.1 hu with h | rfl
    · have := b u h; rw [mxf_succ]; omega
    · rw [mxf_succ]; omega
theorem mnf_le {s : Int} {e : Nat → Int} {m : Nat} : mnf s e m ≤ s ∧ ∀ u, u < m → mnf s e m ≤ e u := by
  induction m with
  | zero => exact ⟨Int.le_refl _, fun u hu => by omega⟩
  | succ m ih =>
    obtain ⟨a, b⟩ := ih
    refine ⟨by rw [mnf_succ]; omega, fun u hu => ?_⟩
    rcases Nat.lt_succ_iff_lt_or_eq.1 hu with h | rfl
    · have := b u h; rw [mnf_succ]; omega
    · rw [mnf_succ]; omega
theorem mxf_at {s : Int} {e : Nat → Int} {m : Nat} : mxf s e m = s ∨ ∃ u, u < m ∧ mxf s e m = e u := by
  induction m with
  | zero => exact .inl rfl
  | succ m ih =>
    by_cases h : e m ≤ mxf s e m
    · have e1 : mxf s e (m + 1) = mxf s e m := by rw [mxf_succ]; omega
      rcases ih with h | ⟨u, hu, h⟩
      · exact .inl (by rw [e1, h])
      · exact .inr ⟨u, by omega, by rw [e1, h]⟩
    · exact .inr ⟨m, by omega, by rw [mxf_succ]; omega⟩
theorem mnf_at {s : Int} {e : Nat → Int} {m : Nat} : mnf s e m = s ∨ ∃ u, u < m ∧ mnf s e m = e u := by
  induction m with
  | zero => exact .inl rfl
  | succ m ih =>
    by_cases h : mnf s e m ≤ e m
    · have e1 : mnf s e (m + 1) = mnf s e m := by rw [mnf_succ]; omega
      rcases ih with h | ⟨u, hu, h⟩
      · exact .inl (by rw [e1, h])
      · exact .inr ⟨u, by omega, by rw [e1, h]⟩
    · exact .inr ⟨m, by omega, by rw [mnf_succ]; omega⟩
theorem mxf_congr {s : Int} {e e' : Nat → Int} {m : Nat} (h : ∀ u, u < m → e u = e' u) : mxf s e m = mxf s e' m := by
  induction m with
  | zero => rfl
  | succ m ih => rw [mxf_succ, mxf_succ]; rw [ih fun u hu => h u (by omega), h m (by omega)]
theorem mnf_congr {s : Int} {e e' : Nat → Int} {m : Nat} (h : ∀ u, u < m → e u = e' u) : mnf s e m = mnf s e' m := by
  induction m with
  | zero => rfl
  | succ m ih => rw [mnf_succ, mnf_succ]; rw [ih fun u hu => h u (by omega), h m (by omega)]
/-- a minimum that starts from its first term is the one that starts from anything that is no less -/
theorem mnf_start {s : Int} {e : Nat → Int} {m : Nat} (hm : 0 < m) (hs : e 0 ≤ s) : mnf (e 0) e m = mnf s e m := by
  have a := mnf_le (s := e 0) (e := e) (m := m)
  have b := mnf_le (s := s) (e := e) (m := m)
  have b0 := b.2 0 hm
  have a0 := a.2 0 hm
  rcases mnf_at (s := e 0) (e := e) (m := m) with h | ⟨u, hu, h⟩
  · rcases mnf_at (s := s) (e := e) (m := m) with h' | ⟨u', hu', h'⟩
    · omega
    · have := a.2 u' hu'; omega
  · have c := b.2 u hu
    rcases mnf_at (s := s) (e := e) (m := m) with h' | ⟨u', hu', h'⟩
    · omega
    · have := a.2 u' hu'; omega
end Go.Proofs.YtgbccpfehcjhbaaGreatDoor
