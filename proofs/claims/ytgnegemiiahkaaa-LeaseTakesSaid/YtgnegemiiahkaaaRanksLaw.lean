/- The plain law of a response (P48): the least that asks for itself, by going up and one by one. No program is in sight. No conditions. -/
import Derived.Test.YtgnegemiiahkaaaSums
namespace Go.Proofs.Ytgnegemiiahkaaa
open Go Go.RowKit

/-- r divided by p, rounded up -/
def upD (r p : Int) : Int := (r + p - 1) / p
theorem upD_mono {r s p : Int} (hp : 1 ≤ p) (h : r ≤ s) : upD r p ≤ upD s p := by
  unfold upD; exact Int.ediv_le_ediv (by omega) (by omega)
theorem upD_bd {r p : Int} (hp : 1 ≤ p) (h : 1 ≤ r) : 1 ≤ upD r p ∧ upD r p ≤ r := by
  unfold upD
  constructor
  · exact (Int.le_ediv_iff_mul_le (by omega)).2 (by omega)
  · have : (r + p - 1) / p < r + 1 := by
      rw [Int.ediv_lt_iff_lt_mul (by omega), Int.add_mul]
      have : r * 1 ≤ r * p := Int.mul_le_mul_of_nonneg_left hp (by omega)
      omega
    omega
/-- as the reference rounds up -/
theorem upD_ref {r p : Int} (hp : 1 ≤ p) (_ : 0 ≤ r) : (if r / p * p < r then r / p + 1 else r / p) = upD r p := by
  unfold upD
  have hd := Int.ediv_mul_add_emod r p
  have h0 := Int.emod_nonneg r (show p ≠ 0 by omega)
  have h1 := Int.emod_lt_of_pos r (show 0 < p by omega)
  split
  · rename_i hlt
    have e : r + p - 1 = (r % p - 1) + p * (r / p + 1) := by
      rw [Int.mul_add, Int.mul_one, Int.mul_comm p]; omega
    have z : (r % p - 1) / p = 0 := Int.ediv_eq_zero_of_lt (by omega) (by omega)
    rw [e, Int.add_mul_ediv_left _ _ (by omega), z]; omega
  · have e : r + p - 1 = (p - 1) + p * (r / p) := by
      rw [Int.mul_comm p]; omega
    have z : (p - 1) / p = 0 := Int.ediv_eq_zero_of_lt (by omega) (by omega)
    rw [e, Int.add_mul_ediv_left _ _ (by omega), z]; omega
/-- what is asked in r times, of the i-th and of those ahead -/
def ask (P C : Nat → Int) (i : Nat) (r : Int) : Int := C i + sumT (fun k => upD r (P k) * C k) i
theorem ask_mono {P C : Nat → Int} {i : Nat} {r s : Int} (h : ∀ j, j < i → 1 ≤ P j ∧ 1 ≤ C j) (hr : r ≤ s) : ask P C i r ≤ ask P C i s := by
  have := sumT_le (n := i) (a := fun k => upD r (P k) * C k) (b := fun k => upD s (P k) * C k) fun j hj => Int.mul_le_mul_of_nonneg_right (upD_mono (h j hj).1 hr) (by have := (h j hj).2; omega)
  unfold ask; omega
theorem askt_bd {P C : Nat → Int} {i : Nat} {r : Int} (h : ∀ j, j < i → 1 ≤ P j ∧ 1 ≤ C j ∧ C j ≤ 60) (h1 : 1 ≤ r) (h2 : r ≤ 60) : ∀ k, k < i → 0 ≤ upD r (P k) * C k ∧ upD r (P k) * C k ≤ 3600 := by
  intro k hk
  obtain ⟨a, b, c⟩ := h k hk
  have d := upD_bd (r := r) a h1
  refine ⟨Int.mul_nonneg (by omega) (by omega), ?_⟩
  have := Int.mul_le_mul (show upD r (P k) ≤ 60 by omega) c (by omega) (by omega)
  omega
theorem ask_bd {P C : Nat → Int} {i : Nat} {r : Int} (h : ∀ j, j < i → 1 ≤ P j ∧ 1 ≤ C j ∧ C j ≤ 60) (h1 : 1 ≤ r) (h2 : r ≤ 60) (k : Nat) (hk : k ≤ i) : 0 ≤ sumT (fun k => upD r (P k) * C k) k ∧ sumT (fun k => upD r (P k) * C k) k ≤ 3600 * (k : Int) :=
  sumT_bd (n := i) (askt_bd h h1 h2) k hk
/-- the answer: the least r from 1 up to D with ask r = r, or none -/
def RespOf (P C : Nat → Int) (i : Nat) (D : Int) (x : Option Int) : Prop :=
  match x with
  | some r => 1 ≤ r ∧ r ≤ D ∧ ask P C i r = r ∧ ∀ s, 1 ≤ s → s < r → ask P C i s ≠ s
  | none => ∀ s, 1 ≤ s → s ≤ D → ask P C i s ≠ s
/-- the way up stays below every answer -/
def Below1 (P C : Nat → Int) (i : Nat) (r : Int) : Prop := 1 ≤ r ∧ r ≤ ask P C i r ∧ ∀ s, 1 ≤ s → ask P C i s = s → r ≤ s
theorem below_start {P C : Nat → Int} {i : Nat} (h : ∀ j, j ≤ i → 1 ≤ P j ∧ 1 ≤ C j) : Below1 P C i (C i) := by
  have h0 := (h i (Nat.le_refl i)).2
  have hn : ∀ r, 1 ≤ r → C i ≤ ask P C i r := by
    intro r hr
    unfold ask
    have : ∀ k, k ≤ i → 0 ≤ sumT (fun k => upD r (P k) * C k) k := by
      intro k
      induction k with
      | zero => intro _; simp [sumT]
      | succ k ih =>
        intro hk
        have a := ih (by omega)
        obtain ⟨b, c⟩ := h k (by omega)
        have d := upD_bd (r := r) b hr
        have := Int.mul_nonneg (show 0 ≤ upD r (P k) by omega) (show 0 ≤ C k by omega)
        simp only [sumT]; omega
    have := this i (Nat.le_refl i)
    omega
  exact ⟨h0, hn _ h0, fun s hs e => by rw [← e]; exact hn s hs⟩
theorem below_step {P C : Nat → Int} {i : Nat} {r : Int} (h : ∀ j, j < i → 1 ≤ P j ∧ 1 ≤ C j) (hb : Below1 P C i r) : Below1 P C i (ask P C i r) := by
  obtain ⟨h1, h2, h3⟩ := hb
  exact ⟨by omega, ask_mono h h2, fun s hs e => by rw [← e]; exact ask_mono h (h3 s hs e)⟩
theorem below_end {P C : Nat → Int} {i : Nat} {r D : Int} (hb : Below1 P C i r) (hD : r ≤ D) (e : ask P C i r = r) : RespOf P C i D (some r) :=
  ⟨hb.1, hD, e, fun s hs hlt he => by have := hb.2.2 s hs he; omega⟩
theorem below_over {P C : Nat → Int} {i : Nat} {r D : Int} (hb : Below1 P C i r) (hD : D < r) : RespOf P C i D none :=
  fun s hs hlt he => by have := hb.2.2 s hs he; omega
theorem resp_one {P C : Nat → Int} {i : Nat} {D : Int} {x y : Option Int} (hx : RespOf P C i D x) (hy : RespOf P C i D y) : x = y := by
  cases x with
  | none => cases y with
    | none => rfl
    | some r => exact absurd hy.2.2.1 (hx r hy.1 hy.2.1)
  | some r => cases y with
    | none => exact absurd hx.2.2.1 (hy r hx.1 hx.2.1)
    | some s =>
      rcases Int.lt_trichotomy r s with h | h | h
      · exact absurd hx.2.2.1 (hy.2.2.2 r hx.1 h)
      · rw [h]
      · exact absurd hy.2.2.1 (hx.2.2.2 s hy.1 h)
end Go.Proofs.Ytgnegemiiahkaaa
