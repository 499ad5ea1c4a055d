/- Plain laws of the min-plus convolution (P9, P10): it is associative, monotone, and its powers go by halves. No program is in sight. No conditions. -/
import Derived.Test.YtgbccpfehcjhbaaGreatDoorConv
namespace Go.Proofs.YtgbccpfehcjhbaaGreatDoor
open Go Go.RowKit

/-- values from 0 to M at the first n times -/
def Bd (f : Nat → Int) (n : Nat) (M : Int) : Prop := ∀ j, j < n → 0 ≤ f j ∧ f j ≤ M
theorem Bd.up {f : Nat → Int} {n : Nat} {M M' : Int} (h : Bd f n M) (hM : M ≤ M') : Bd f n M' := fun j hj => by have := h j hj; omega

theorem cv_le {f g : Nat → Int} {t s : Nat} (h : s ≤ t) : convv f g t ≤ f s + g (t - s) := (mnf_le (s := 1099511627776) (e := conve f g t) (m := t + 1)).2 s (by omega)
theorem cv_at {f g : Nat → Int} {n t : Nat} {M : Int} (hM : M ≤ 500000000000) (hf : Bd f n M) (hg : Bd g n M) (ht : t < n) : ∃ s, s ≤ t ∧ convv f g t = f s + g (t - s) := by
  rcases mnf_at (s := 1099511627776) (e := conve f g t) (m := t + 1) with h | ⟨u, hu, h⟩
  · have := cv_le (f := f) (g := g) (t := t) (s := 0) (by omega)
    have a := hf 0 (by omega)
    have b := hg t ht
    have c : convv f g t = 1099511627776 := h
    rw [Nat.sub_zero] at this
    omega
  · exact ⟨u, by omega, h⟩
theorem cv_bd {f g : Nat → Int} {n : Nat} {M K : Int} (hM : M ≤ 500000000000) (hK : K ≤ 500000000000) (hf : Bd f n M) (hg : Bd g n K) : Bd (convv f g) n (M + K) := by
  intro t ht
  have a := cv_le (f := f) (g := g) (t := t) (s := 0) (by omega)
  have a1 := hf 0 (by omega)
  have a2 := hg t ht
  rw [Nat.sub_zero] at a
  refine ⟨?_, by omega⟩
  by_cases hMK : M ≤ K
  · obtain ⟨s, hs, e⟩ := cv_at hK (hf.up hMK) hg ht
    have b1 := hf s (by omega)
    have b2 := hg (t - s) (by omega)
    omega
  · obtain ⟨s, hs, e⟩ := cv_at hM hf (hg.up (by omega)) ht
    have b1 := hf s (by omega)
    have b2 := hg (t - s) (by omega)
    omega
theorem cv_congr {f g f' g' : Nat → Int} {n t : Nat} (hf : ∀ j, j < n → f j = f' j) (hg : ∀ j, j < n → g j = g' j) (ht : t < n) : convv f g t = convv f' g' t := by
  unfold convv
  refine mnf_congr fun u hu => ?_
  unfold conve
  rw [hf u (by omega), hg (t - u) (by omega)]
theorem cv_assoc {f g h : Nat → Int} {n t : Nat} {M : Int} (hM : M ≤ 200000000000) (hf : Bd f n M) (hg : Bd g n M) (hh : Bd h n M) (ht : t < n) :
    convv (convv f g) h t = convv f (convv g h) t := by
  have hfg : Bd (convv f g) n (M + M) := cv_bd (by omega) (by omega) hf hg
  have hgh : Bd (convv g h) n (M + M) := cv_bd (by omega) (by omega) hg hh
  have hM0 : 0 ≤ M := by have := hf t ht; omega
  apply Int.le_antisymm
  · obtain ⟨s, hs, e⟩ := cv_at (M := M + M) (by omega) (hf.up (by omega)) hgh ht
    obtain ⟨u, hu, e'⟩ := cv_at (M := M) (t := t - s) (by omega) hg hh (by omega)
    have a := cv_le (f := convv f g) (g := h) (t := t) (s := s + u) (by omega)
    have b := cv_le (f := f) (g := g) (t := s + u) (s := s) (by omega)
    rw [show s + u - s = u by omega] at b
    rw [show t - (s + u) = t - s - u by omega] at a
    omega
  · obtain ⟨s, hs, e⟩ := cv_at (M := M + M) (by omega) hfg (hh.up (by omega)) ht
    obtain ⟨u, hu, e'⟩ := cv_at (M := M) (t := s) (by omega) hf hg (by omega)
    have a := cv_le (f := f) (g := convv g h) (t := t) (s := u) (by omega)
    have b := cv_le (f := g) (g := h) (t := t - u) (s := s - u) (by omega)
    rw [show t - u - (s - u) = t - s by omega] at b
    omega
theorem cv_mono {f g : Nat → Int} {n : Nat} {M : Int} (hM : M ≤ 500000000000) (hf : Bd f n M) (hg : Bd g n M) (mf : ∀ i j, i ≤ j → j < n → f i ≤ f j) (mg : ∀ i j, i ≤ j → j < n → g i ≤ g j) :
    ∀ i j, i ≤ j → j < n → convv f g i ≤ convv f g j := by
  intro i j hij hj
  obtain ⟨s, hs, e⟩ := cv_at hM hf hg hj
  by_cases h : s ≤ i
  · have a := cv_le (f := f) (g := g) (t := i) (s := s) h
    have b := mg (i - s) (j - s) (by omega) (by omega)
    omega
  · have a := cv_le (f := f) (g := g) (t := i) (s := i) (by omega)
    have b := mf i s (by omega) (by omega)
    have c := mg (i - i) (j - s) (by omega) (by omega)
    omega

/-- f with itself, k + 1 times -/
def powV (f : Nat → Int) : Nat → Nat → Int
  | 0 => f
  | k + 1 => convv (powV f k) f
theorem pow_bd {f : Nat → Int} {n : Nat} (hf : Bd f n 1000000) : ∀ k, k ≤ 1000 → Bd (powV f k) n (1000000 * ((k : Int) + 1))
  | 0, _ => fun j hj => by have := hf j hj; simp only [powV]; omega
  | k + 1, hk => by
    have a := pow_bd hf k (by omega)
    have b := cv_bd (by omega) (by omega) a hf
    exact b.up (by omega)
theorem pow_add {f : Nat → Int} {n : Nat} (hf : Bd f n 1000000) (a : Nat) : ∀ b, a + b ≤ 900 → ∀ t, t < n → convv (powV f a) (powV f b) t = powV f (a + b + 1) t
  | 0, _ => fun t _ => rfl
  | b + 1, h => fun t ht => by
    have ih := pow_add hf a b (by omega)
    have ba := pow_bd hf a (by omega)
    have bb := pow_bd hf b (by omega)
    show convv (powV f a) (convv (powV f b) f) t = convv (powV f (a + b + 1)) f t
    rw [← cv_assoc (M := 1000000000) (by omega) (ba.up (by omega)) (bb.up (by omega)) (hf.up (by omega)) ht]
    exact cv_congr (n := n) ih (fun _ _ => rfl) ht

/-- lists -/
theorem convL_len (xs ys : List Int) : (convL xs ys).length = xs.length := by unfold convL; rw [tab_length]
theorem convL_gi {xs ys : List Int} {t : Nat} (h : t < xs.length) : gi (convL xs ys) t = convv (gi xs) (gi ys) t := by unfold convL; rw [gi_tab h]
def powL (xs : List Int) (k : Nat) : List Int := tab xs.length (powV (gi xs) k)
theorem powL_zero (xs : List Int) : powL xs 0 = xs := tab_gi xs
theorem powL_len (xs : List Int) (k : Nat) : (powL xs k).length = xs.length := tab_length _ _
theorem powL_bd {xs : List Int} {n : Nat} (hl : xs.length = n) (hf : Bd (gi xs) n 1000000) {k : Nat} (hk : k ≤ 900) : Bd (gi (powL xs k)) n (1000000 * ((k : Int) + 1)) := by
  intro j hj
  unfold powL
  rw [gi_tab (by omega)]
  exact pow_bd hf k (by omega) j hj
theorem powL_add {xs : List Int} {n : Nat} (hl : xs.length = n) (hf : Bd (gi xs) n 1000000) {a b : Nat} (h : a + b ≤ 900) : convL (powL xs a) (powL xs b) = powL xs (a + b + 1) := by
  unfold convL
  rw [powL_len, hl]
  unfold powL
  rw [hl]
  refine tab_congr fun t ht => ?_
  rw [← pow_add hf a b h t ht]
  exact cv_congr (n := n) (fun j hj => gi_tab hj) (fun j hj => gi_tab hj) ht
theorem powL_step {xs : List Int} {n : Nat} (hl : xs.length = n) (hf : Bd (gi xs) n 1000000) {a : Nat} (h : a ≤ 900) : convL (powL xs a) xs = powL xs (a + 1) := by
  have := powL_add hl hf (a := a) (b := 0) (by omega)
  rwa [powL_zero] at this
end Go.Proofs.YtgbccpfehcjhbaaGreatDoor
