/- In which order the flows' packets are sent (P39), in plain Lean. No program is in sight. Conditions: what holds of the flows. -/
import Derived.Test.YtggpcceljipelaaTurnsLaw
namespace Go.Proofs.Ytggpcceljipelaa
open Go Go.RowKit
set_option linter.unusedVariables false

noncomputable def cntC (b : Int) (xs : List Int) : Nat := if h : 0 ≤ b then Classical.choose (isC_ex b xs h) else 0
theorem cntC_is {b : Int} {xs : List Int} (h : 0 ≤ b) : IsC b xs (cntC b xs) := by
  unfold cntC
  rw [dif_pos h]
  exact Classical.choose_spec (isC_ex b xs h)
/-- the flow k's count after m turns -/
noncomputable def cnt (Q : Nat → Int) (X : Nat → List Int) (m k : Nat) : Nat := cntC ((m : Int) * Q k) (X k)
/-- what holds of all flows -/
def OkF (n : Nat) (Q : Nat → Int) (X : Nat → List Int) : Prop := ∀ k, k < n → (1 ≤ Q k ∧ Q k ≤ 1000) ∧ OkSz (X k)
theorem cnt_is {n : Nat} {Q : Nat → Int} {X : Nat → List Int} (h : OkF n Q X) {m k : Nat} (hk : k < n) : IsC ((m : Int) * Q k) (X k) (cnt Q X m k) :=
  cntC_is (Int.mul_nonneg (by omega) (by have := (h k hk).1.1; omega))
theorem cnt_zero {n : Nat} {Q : Nat → Int} {X : Nat → List Int} (h : OkF n Q X) {k : Nat} (hk : k < n) : cnt Q X 0 k = 0 :=
  isC_one (h k hk).2 (by have := cnt_is h (m := 0) hk; simpa using this) (QSt.zero (h k hk).2).1
theorem cnt_mono {n : Nat} {Q : Nat → Int} {X : Nat → List Int} (h : OkF n Q X) {m k : Nat} (hk : k < n) : cnt Q X m k ≤ cnt Q X (m + 1) k := by
  obtain ⟨a1, a2, a3⟩ := cnt_is h (m := m) hk
  obtain ⟨b1, b2, b3⟩ := cnt_is h (m := m + 1) hk
  apply Classical.byContradiction
  intro hlt
  have h1 := b3 (by omega)
  have h2 := pre_le (h k hk).2 (i := cnt Q X (m + 1) k + 1) (j := cnt Q X m k) (by omega) a1
  have h3 : ((m + 1 : Nat) : Int) * Q k = (m : Int) * Q k + Q k := by rw [Int.natCast_add, Int.add_mul]; simp
  have h4 := (h k hk).1.1
  omega
theorem cnt_all {n : Nat} {Q : Nat → Int} {X : Nat → List Int} (h : OkF n Q X) {m k : Nat} (hk : k < n) (hm : 60000 ≤ m) : cnt Q X m k = (X k).length := by
  obtain ⟨a1, a2, a3⟩ := cnt_is h (m := m) hk
  apply Classical.byContradiction
  intro hne
  have h1 := a3 (by omega)
  have h2 := pre_le (h k hk).2 (i := cnt Q X m k + 1) (j := (X k).length) (by omega) (Nat.le_refl _)
  have h3 := (pre_bound (h k hk).2 (Nat.le_refl _)).2
  have h4 := (h k hk).2.1
  have h5 := (h k hk).1.1
  have h6 : (m : Int) * 1 ≤ (m : Int) * Q k := Int.mul_le_mul_of_nonneg_left h5 (by omega)
  omega

abbrev T2 := Int × Int
def sents (k a : Nat) : Nat → List T2
  | 0 => []
  | b + 1 => if a ≤ b then sents k a b ++ [((k : Int), (b : Int))] else []
theorem sents_self (k a : Nat) : sents k a a = [] := by
  cases a with
  | zero => rfl
  | succ a => rw [sents, if_neg (by omega)]
theorem sents_next {k a b : Nat} (h : a ≤ b) : sents k a (b + 1) = sents k a b ++ [((k : Int), (b : Int))] := by rw [sents, if_pos h]
theorem sents_len (k a : Nat) : ∀ b, a ≤ b → (sents k a b).length = b - a
  | 0, h => by simp [sents]
  | b + 1, h => by
    by_cases h1 : a ≤ b
    · rw [sents_next h1, List.length_append, sents_len k a b h1]; simp; omega
    · obtain rfl : a = b + 1 := by omega
      rw [sents_self]; simp
def rndTo (c0 c1 : Nat → Nat) : Nat → List T2
  | 0 => []
  | k + 1 => rndTo c0 c1 k ++ sents k (c0 k) (c1 k)
def outTo (C : Nat → Nat → Nat) (n : Nat) : Nat → List T2
  | 0 => []
  | m + 1 => outTo C n m ++ rndTo (C m) (C (m + 1)) n
def smN (f : Nat → Nat) : Nat → Nat
  | 0 => 0
  | k + 1 => smN f k + f k
theorem smN_congr {f g : Nat → Nat} : ∀ {n : Nat}, (∀ k, k < n → f k = g k) → smN f n = smN g n
  | 0, _ => rfl
  | n + 1, h => by rw [smN, smN, smN_congr (fun k hk => h k (by omega)), h n (by omega)]
theorem smN_le {f : Nat → Nat} {b : Nat} : ∀ {n : Nat}, (∀ k, k < n → f k ≤ b) → smN f n ≤ b * n
  | 0, _ => by simp [smN]
  | n + 1, h => by
    have h1 := smN_le (n := n) (fun k hk => h k (by omega))
    have h2 := h n (by omega)
    rw [smN, Nat.mul_add]; omega
theorem smN_mono {f g : Nat → Nat} : ∀ {n : Nat}, (∀ k, k < n → f k ≤ g k) → smN f n ≤ smN g n
  | 0, _ => Nat.le_refl _
  | n + 1, h => by
    have h1 := smN_mono (n := n) (f := f) (g := g) (fun k hk => h k (by omega))
    have h2 := h n (by omega)
    rw [smN, smN]; omega
theorem rnd_len {c0 c1 : Nat → Nat} : ∀ {n : Nat}, (∀ k, k < n → c0 k ≤ c1 k) → (rndTo c0 c1 n).length + smN c0 n = smN c1 n
  | 0, _ => rfl
  | n + 1, h => by
    have h1 := rnd_len (n := n) (c0 := c0) (c1 := c1) (fun k hk => h k (by omega))
    have h2 := h n (by omega)
    rw [rndTo, List.length_append, sents_len _ _ _ h2, smN, smN]; omega
theorem out_len {n : Nat} {Q : Nat → Int} {X : Nat → List Int} (h : OkF n Q X) : ∀ m, (outTo (cnt Q X) n m).length = smN (cnt Q X m) n
  | 0 => by
    rw [outTo, smN_congr (g := fun _ => 0) (fun k hk => cnt_zero h hk)]
    have := smN_le (f := fun _ => 0) (b := 0) (n := n) (fun k hk => Nat.le_refl _)
    simp at this
    simp [this]
  | m + 1 => by
    have h1 := rnd_len (n := n) (c0 := cnt Q X m) (c1 := cnt Q X (m + 1)) (fun k hk => cnt_mono h hk)
    rw [outTo, List.length_append, out_len h m]; omega
/-- all that there is -/
def allN (n : Nat) (X : Nat → List Int) : Nat := smN (fun k => (X k).length) n
theorem out_le {n : Nat} {Q : Nat → Int} {X : Nat → List Int} (h : OkF n Q X) (m : Nat) : (outTo (cnt Q X) n m).length ≤ allN n X := by
  rw [out_len h]; exact smN_mono (fun k hk => (cnt_is h (m := m) hk).1)
theorem out_end {n : Nat} {Q : Nat → Int} {X : Nat → List Int} (h : OkF n Q X) {m : Nat} (hlt : (outTo (cnt Q X) n m).length < allN n X) : m < 60000 := by
  apply Classical.byContradiction
  intro hm
  rw [out_len h, smN_congr (fun k hk => cnt_all h hk (by omega))] at hlt
  exact absurd hlt (Nat.lt_irrefl _)
theorem all_le {n : Nat} {Q : Nat → Int} {X : Nat → List Int} (h : OkF n Q X) : allN n X ≤ 60 * n := smN_le (fun k hk => (h k hk).2.1)
/-- the last round -/
def LastM (C : Nat → Nat → Nat) (n tot M : Nat) : Prop := (∀ m, m < M → (outTo C n m).length < tot) ∧ ¬ (outTo C n M).length < tot
theorem lastM_one {C : Nat → Nat → Nat} {n tot M K : Nat} (h : LastM C n tot M) (g : LastM C n tot K) : M = K := by
  rcases Nat.lt_trichotomy M K with e | e | e
  · exact absurd (g.1 M e) h.2
  · exact e
  · exact absurd (h.1 K e) g.2
end Go.Proofs.Ytggpcceljipelaa
