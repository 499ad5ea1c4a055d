/- The plain law of a planned rate (P66): the least that is enough. No program is in sight. No conditions. -/
import Derived.Test.YtgbccpfehcjhbaaResumeLaw
import Derived.Test.YtgbccpfehcjhbaaCatch
namespace Go.Proofs.Ytgbccpfehcjhbaa
open Go Go.RowKit

/-- what t asks, rounded up -/
def cst (L : Nat → Int) (l : Int) (t : Nat) : Int := (l + L t + (t : Int) - 1) / (t : Int)
/-- the least of the first k, as the program keeps it -/
def rb (L : Nat → Int) (l : Int) : Nat → Int
  | 0 => -1
  | k + 1 => if rb L l k < 0 ∨ cst L l (k + 1) < rb L l k then cst L l (k + 1) else rb L l k
theorem cst_bd {L : Nat → Int} {l : Int} {n t : Nat} (hl : 0 ≤ l ∧ l ≤ 1000000) (hL : ∀ j, j < n → 0 ≤ L j ∧ L j ≤ 1000000) (h1 : 1 ≤ t) (ht : t < n) : 0 ≤ cst L l t ∧ cst L l t ≤ 2000000 := by
  have a := hL t ht
  have b := up_bd (a := l + L t) (b := (t : Int)) (by omega) (by omega)
  unfold cst; omega
theorem rb_bd {L : Nat → Int} {l : Int} {n : Nat} (hl : 0 ≤ l ∧ l ≤ 1000000) (hL : ∀ j, j < n → 0 ≤ L j ∧ L j ≤ 1000000) : ∀ k, k < n → -1 ≤ rb L l k ∧ rb L l k ≤ 2000000 ∧ (0 < k → 0 ≤ rb L l k)
  | 0, _ => ⟨by simp [rb], by simp [rb], fun h => by omega⟩
  | k + 1, hk => by
    have a := rb_bd hl hL k (by omega)
    have b := cst_bd (t := k + 1) hl hL (by omega) hk
    simp only [rb]
    split <;> exact ⟨by omega, by omega, fun _ => by omega⟩
theorem rb_le {L : Nat → Int} {l : Int} {n : Nat} (hl : 0 ≤ l ∧ l ≤ 1000000) (hL : ∀ j, j < n → 0 ≤ L j ∧ L j ≤ 1000000) : ∀ k, k < n → ∀ t, 1 ≤ t → t ≤ k → rb L l k ≤ cst L l t
  | 0, _, t, h1, h2 => by omega
  | k + 1, hk, t, h1, h2 => by
    have a := rb_bd hl hL k (by omega)
    have b := cst_bd (t := k + 1) hl hL (by omega) hk
    simp only [rb]
    by_cases e : t = k + 1
    · subst e; split <;> omega
    · have c := rb_le hl hL k (by omega) t h1 (by omega)
      split
      · rename_i h; rcases h with h | h
        · have := a.2.2 (by omega); omega
        · omega
      · exact c
theorem rb_at {L : Nat → Int} {l : Int} : ∀ k, 0 < k → ∃ t, 1 ≤ t ∧ t ≤ k ∧ rb L l k = cst L l t
  | 0, h => by omega
  | k + 1, _ => by
    by_cases hh : rb L l k < 0 ∨ cst L l (k + 1) < rb L l k
    · exact ⟨k + 1, by omega, by omega, by simp only [rb]; rw [if_pos hh]⟩
    · by_cases h0 : k = 0
      · subst h0; exact absurd (.inl (by simp [rb])) hh
      · obtain ⟨t, h1, h2, h3⟩ := rb_at (L := L) (l := l) k (by omega)
        exact ⟨t, h1, by omega, by simp only [rb]; rw [if_neg hh]; exact h3⟩
theorem cst_le {L : Nat → Int} {l c : Int} {t : Nat} (h1 : 1 ≤ t) : cst L l t ≤ c ↔ l + L t ≤ c * (t : Int) := by
  have := up_lt (a := l + L t) (b := (t : Int)) (k := c) (by omega)
  unfold cst
  omega

/-- by d one is there, at rate c -/
def OkR (L : Nat → Int) (l : Int) (d : Nat) (c : Int) : Prop := ∃ t, t ≤ d ∧ l + L t ≤ c * (t : Int)
theorem okR_mono {L : Nat → Int} {l c c' : Int} {d : Nat} (h : OkR L l d c) (hc : c ≤ c') : OkR L l d c' := by
  obtain ⟨t, h1, h2⟩ := h
  have := Int.mul_le_mul_of_nonneg_right hc (show 0 ≤ (t : Int) by omega)
  exact ⟨t, h1, by omega⟩
theorem okR_zero {L : Nat → Int} {l c : Int} {d : Nat} (h : l + L 0 = 0) : OkR L l d c := ⟨0, by omega, by simp; omega⟩
theorem okR_rb {L : Nat → Int} {l c : Int} {n d : Nat} (hl : 0 ≤ l ∧ l ≤ 1000000) (hL : ∀ j, j < n → 0 ≤ L j ∧ L j ≤ 1000000) (hd : d < n) (h : l + L 0 ≠ 0) : OkR L l d c ↔ 0 < d ∧ rb L l d ≤ c := by
  have h0 := hL 0 (by omega)
  constructor
  · rintro ⟨t, h1, h2⟩
    have ht : t ≠ 0 := by rintro rfl; simp at h2; omega
    exact ⟨by omega, Int.le_trans (rb_le hl hL d hd t (by omega) h1) ((cst_le (by omega)).2 h2)⟩
  · rintro ⟨h1, h2⟩
    obtain ⟨t, h3, h4, h5⟩ := rb_at (L := L) (l := l) d h1
    exact ⟨t, h4, (cst_le h3).1 (by omega)⟩
/-- the border of what is enough, up to 10000 -/
def BorderR (L : Nat → Int) (l : Int) (d : Nat) (x : Int) : Prop := 0 ≤ x ∧ x ≤ 10001 ∧ (∀ c, 0 ≤ c → c < x → ¬ OkR L l d c) ∧ ∀ c, x ≤ c → c ≤ 10000 → OkR L l d c
/-- what the program answers -/
def RateOf (L : Nat → Int) (l : Int) (d : Nat) (v e : Int) : Prop :=
  (l + L 0 = 0 ∧ v = 0 ∧ e = 0) ∨ (l + L 0 ≠ 0 ∧ (rb L l d < 0 ∨ 10000 < rb L l d) ∧ v = 0 ∧ e = 5) ∨ (l + L 0 ≠ 0 ∧ 0 ≤ rb L l d ∧ rb L l d ≤ 10000 ∧ v = rb L l d ∧ e = 0)
theorem rateOf_exists (L : Nat → Int) (l : Int) (d : Nat) : ∃ v e, RateOf L l d v e := by
  by_cases h : l + L 0 = 0
  · exact ⟨0, 0, .inl ⟨h, rfl, rfl⟩⟩
  · by_cases h1 : rb L l d < 0 ∨ 10000 < rb L l d
    · exact ⟨0, 5, .inr (.inl ⟨h, h1, rfl, rfl⟩)⟩
    · exact ⟨_, 0, .inr (.inr ⟨h, by omega, by omega, rfl, rfl⟩)⟩
theorem border_rate {L : Nat → Int} {l x v e : Int} {n d : Nat} (hl : 0 ≤ l ∧ l ≤ 1000000) (hL : ∀ j, j < n → 0 ≤ L j ∧ L j ≤ 1000000) (hd : d < n) (hb : BorderR L l d x) (hr : RateOf L l d v e) :
    (10000 < x ∧ v = 0 ∧ e = 5) ∨ (x ≤ 10000 ∧ v = x ∧ e = 0) := by
  obtain ⟨h1, h2, h3, h4⟩ := hb
  rcases hr with ⟨g1, rfl, rfl⟩ | ⟨g1, g2, rfl, rfl⟩ | ⟨g1, g2, g3, rfl, rfl⟩
  · have : ¬ 0 < x := fun h => h3 0 (by omega) h (okR_zero g1)
    exact .inr ⟨by omega, by omega, rfl⟩
  · refine .inl ⟨?_, rfl, rfl⟩
    apply Int.not_le.1
    intro hx
    obtain ⟨a, b⟩ := (okR_rb hl hL hd g1).1 (h4 x (Int.le_refl x) hx)
    have := (rb_bd hl hL d hd).2.2 a
    omega
  · have hd0 : 0 < d := by
      apply Nat.pos_of_ne_zero
      rintro rfl
      simp [rb] at g2
    have a : ¬ rb L l d < x := fun h => h3 _ g2 h ((okR_rb hl hL hd g1).2 ⟨hd0, Int.le_refl _⟩)
    refine .inr ⟨by omega, ?_, rfl⟩
    have b := ((okR_rb hl hL hd g1).1 (h4 x (Int.le_refl x) (by omega))).2
    omega
theorem first_ok {xs : List Int} {l c : Int} {n d i : Nat} (hd : d < n) (hi : FirstP (byP xs c l) n i) : OkR (gi xs) l d c ↔ i ≤ d := by
  obtain ⟨h1, h2, h3⟩ := hi
  constructor
  · rintro ⟨t, g1, g2⟩
    apply Nat.not_lt.1
    intro hlt
    have := h2 t (by omega)
    rw [byP_false] at this
    exact this g2
  · intro h
    exact ⟨i, h, byP_true.1 (h3 (by omega))⟩
end Go.Proofs.Ytgbccpfehcjhbaa
