/- The plain laws of TopTasks: jobs that fit between all times are done by their Dues, the one that is due first ahead; tasks that fit by their ranks fit as jobs. No program is in sight. -/
import Derived.Test.YtgnegemiiahkaaaEdfPlayLaw
import Derived.Test.YtgnegemiiahkaaaEdfLaw
import Derived.Test.YtgnegemiiahkaaaRanksLaw
namespace Go.Proofs.Ytgnegemiiahkaaa
open Go Go.RowKit

theorem lf_mono {A W D : Nat → Int} {n : Nat} (i : Nat) : ∀ {s t : Nat}, s ≤ t → lf A W D n t i ≤ lf A W D n s i := by
  intro s t h
  induction t with
  | zero => obtain rfl : s = 0 := by omega
            exact Int.le_refl _
  | succ t ih =>
    by_cases e : s = t + 1
    · subst e; exact Int.le_refl _
    · have h1 := ih (by omega)
      rw [lf_succ]
      split <;> omega
theorem lf_leW {A W D : Nat → Int} {n : Nat} (t i : Nat) : lf A W D n t i ≤ W i := lf_mono i (Nat.zero_le t)
theorem dn_done {A W D : Nat → Int} {n i : Nat} (hW : 1 ≤ W i) : ∀ t, lf A W D n t i = 0 → 1 ≤ dn A W D n t i ∧ dn A W D n t i ≤ (t : Int)
  | 0, h => by simp only [lf] at h; omega
  | t + 1, h => by
    rw [dn_succ]
    by_cases e : pk A W D n t = (i : Int)
    · rw [if_pos ⟨e, h⟩]; omega
    · rw [if_neg (fun h => e h.1)]
      rw [lf_succ, if_neg e] at h
      have := dn_done hW t h
      omega
theorem dn_stays {A W D : Nat → Int} {n i t : Nat} (hi : i < n) (h : lf A W D n t i = 0) : ∀ k, lf A W D n (t + k) i = 0 ∧ dn A W D n (t + k) i = dn A W D n t i
  | 0 => ⟨h, rfl⟩
  | k + 1 => by
    obtain ⟨h1, h2⟩ := dn_stays hi h k
    have e : pk A W D n (t + k) ≠ (i : Int) := by
      rcases pk_spec A W D n (t + k) with ⟨h3, _⟩ | ⟨j, hj, h3, h4, _⟩
      · omega
      · intro e
        obtain rfl : j = i := by omega
        have := h4.2
        omega
    rw [← Nat.add_assoc, lf_succ, dn_succ, if_neg e, if_neg (fun h => e h.1)]
    exact ⟨h1, h2⟩
/-- the slot s goes to a job that is due by b -/
def goodS (A W D : Nat → Int) (n : Nat) (b : Int) (s : Nat) : Prop := ∃ j, j < n ∧ pk A W D n s = (j : Int) ∧ D j ≤ b
theorem good_from (A W D : Nat → Int) (n : Nat) (bb : Int) (b : Nat) : ∀ k, k ≤ b → (∀ s, b - k ≤ s → s < b → goodS A W D n bb s) ∨ ∃ s0, s0 < b ∧ ¬ goodS A W D n bb s0 ∧ ∀ s, s0 < s → s < b → goodS A W D n bb s
  | 0, _ => .inl fun s h1 h2 => by omega
  | k + 1, hk => by
    rcases good_from A W D n bb b k (by omega) with h | h
    · by_cases hg : goodS A W D n bb (b - (k + 1))
      · refine .inl fun s h1 h2 => ?_
        by_cases e : s = b - (k + 1)
        · subst e; exact hg
        · exact h s (by omega) h2
      · exact .inr ⟨b - (k + 1), by omega, hg, fun s h1 h2 => h s (by omega) h2⟩
    · exact .inr h
/-- there is a time from which on all slots go to jobs that are due by b, and all that is left of those came from there on -/
theorem good_start {A W D : Nat → Int} {n : Nat} (hA : ∀ j, j < n → 0 ≤ A j) (b : Nat) : ∃ a0 : Nat, a0 ≤ b ∧ (∀ s, a0 ≤ s → s < b → goodS A W D n b s) ∧ ∀ j, j < n → D j ≤ (b : Int) → 0 < lf A W D n a0 j → (a0 : Int) ≤ A j := by
  rcases good_from A W D n (b : Int) b b (Nat.le_refl _) with h | ⟨s0, h0, h1, h2⟩
  · exact ⟨0, by omega, fun s _ hs => h s (by omega) hs, fun j hj _ _ => hA j hj⟩
  · refine ⟨s0 + 1, by omega, fun s hs1 hs2 => h2 s (by omega) hs2, fun j hj hD hl => ?_⟩
    apply Int.not_lt.1
    intro hlt
    have hl0 : 0 < lf A W D n s0 j := by
      have := lf_mono (A := A) (W := W) (D := D) (n := n) j (show s0 ≤ s0 + 1 by omega)
      omega
    have hc : cand A (lf A W D n s0) s0 j := ⟨by omega, hl0⟩
    rcases pk_spec A W D n s0 with ⟨_, h3⟩ | ⟨k, hk, h3, _, h4⟩
    · exact h3 j hj hc
    · rcases h4 j hj hc with h | h
      · exact h1 ⟨k, hk, h3, by omega⟩
      · exact h1 ⟨k, hk, h3, by omega⟩
def leftJ (A W D : Nat → Int) (n : Nat) (a b : Int) (t : Nat) : Int := sumT (fun j => if a ≤ A j ∧ D j ≤ b then lf A W D n t j else 0) n
theorem leftJ_step {A W D : Nat → Int} {n i t : Nat} {a b : Int} (hi : i < n) (hp : pk A W D n t = (i : Int)) (hj : a ≤ A i ∧ D i ≤ b) : leftJ A W D n a b t = leftJ A W D n a b (t + 1) + 1 := by
  unfold leftJ
  refine sumT_one (i := i) hi (fun j _ hne => ?_) ?_
  · by_cases e : a ≤ A j ∧ D j ≤ b
    · rw [if_pos e, if_pos e, lf_succ, if_neg (by rw [hp]; omega)]
    · rw [if_neg e, if_neg e]
  · rw [if_pos hj, if_pos hj, lf_succ, if_pos hp]; omega
/-- Dertouzos: what fits is never late -/
theorem never_late {A W D : Nat → Int} {n i : Nat} (h : ∀ j, j < n → 0 ≤ A j ∧ A j < D j ∧ D j ≤ 200 ∧ 1 ≤ W j ∧ W j ≤ 200) (hf : FitsT A W D n) (hi : i < n) : 1 ≤ dn A W D n 200 i ∧ dn A W D n 200 i ≤ D i := by
  have hW : ∀ j, j < n → 1 ≤ W j ∧ W j ≤ 200 := fun j hj => by have := h j hj; omega
  obtain ⟨hA, hAD, hD, hW1, _⟩ := h i hi
  obtain ⟨b, hb⟩ : ∃ b : Nat, D i = (b : Int) := ⟨(D i).toNat, by omega⟩
  have hl0 := lf_bd (A := A) (D := D) hW b i hi
  by_cases hz : lf A W D n b i = 0
  · have h1 := dn_done (A := A) (D := D) (n := n) hW1 b hz
    have h2 := (dn_stays hi hz (200 - b)).2
    rw [show b + (200 - b) = 200 by omega] at h2
    rw [h2]; omega
  · exfalso
    obtain ⟨a0, h1, h2, h3⟩ := good_start (A := A) (W := W) (D := D) (n := n) (fun j hj => (h j hj).1) b
    have hmem : ∀ t, a0 ≤ t → t ≤ b → leftJ A W D n a0 b a0 = leftJ A W D n a0 b t + ((t : Int) - a0) := by
      intro t
      induction t with
      | zero => intro h4 _; obtain rfl : a0 = 0 := by omega
                simp
      | succ t ih =>
        intro h4 h5
        by_cases e : a0 = t + 1
        · rw [e]; simp
        · have h6 := ih (by omega) (by omega)
          obtain ⟨j, hj, hp, hDj⟩ := h2 t (by omega) (by omega)
          have hlt : 0 < lf A W D n t j := by
            rcases pk_spec A W D n t with ⟨h7, _⟩ | ⟨k, hk, h7, h8, _⟩
            · omega
            · obtain rfl : k = j := by omega
              exact h8.2
          have hla : 0 < lf A W D n a0 j := by
            have := lf_mono (A := A) (W := W) (D := D) (n := n) j (show a0 ≤ t by omega)
            omega
          have := leftJ_step (a := (a0 : Int)) (b := (b : Int)) hj hp ⟨h3 j hj hDj hla, hDj⟩
          omega
    have hfin := hmem b h1 (Nat.le_refl _)
    have hai : (a0 : Int) ≤ A i := h3 i hi (by omega) (by have := lf_mono (A := A) (W := W) (D := D) (n := n) i h1; omega)
    have hone : 1 ≤ leftJ A W D n a0 b b := by
      unfold leftJ
      have hge : sumT (fun j => if j = i then (1 : Int) else 0) n ≤ sumT (fun j => if (a0 : Int) ≤ A j ∧ D j ≤ (b : Int) then lf A W D n b j else 0) n := sumT_le fun j hj => by
        by_cases e : j = i
        · subst e; rw [if_pos rfl, if_pos ⟨hai, by omega⟩]; omega
        · rw [if_neg e]
          split
          · exact (lf_bd (A := A) (D := D) hW b j hj).1
          · omega
      have hs : sumT (fun j => if j = i then (1 : Int) else 0) n = sumT (fun _ => (0 : Int)) n + 1 := sumT_one (i := i) hi (fun j _ hne => if_neg hne) (by simp)
      have hz0 : ∀ m, sumT (fun _ => (0 : Int)) m = 0 := fun m => by induction m with
        | zero => rfl
        | succ m ih => rw [sumT_succ, ih]; rfl
      rw [hz0] at hs
      omega
    have hneed : leftJ A W D n a0 b a0 ≤ need A W D n a0 b := by
      unfold leftJ need
      refine sumT_le fun j hj => ?_
      split
      · exact lf_leW a0 j
      · omega
    have := hf a0 b (by omega) h1 (by omega)
    omega

/-! tasks -/
/-- how many times a task comes, and is due, within L -/
def cntD (P D : Int) (L : Int) : Int := if D ≤ L then (L - D) / P + 1 else 0
theorem cntD_nonneg {P D L : Int} (hP : 1 ≤ P) : 0 ≤ cntD P D L := by
  unfold cntD
  split
  · have := Int.ediv_nonneg (a := L - D) (b := P) (by omega) (by omega)
    omega
  · omega
theorem cntD_step {P D L r : Int} (hP : 1 ≤ P) (hr : 1 ≤ r) : cntD P D L ≤ cntD P D (L - r) + upD r P := by
  have hu : 1 ≤ upD r P := (upD_bd hP hr).1
  have hu2 : upD r P = (r - 1) / P + 1 := by
    unfold upD
    rw [show r + P - 1 = (r - 1) + 1 * P by omega, Int.add_mul_ediv_right _ _ (by omega)]
  unfold cntD
  by_cases h1 : D ≤ L - r
  · rw [if_pos h1, if_pos (by omega)]
    have e1 := Int.emod_add_mul_ediv (L - r - D) P
    have e2 := Int.emod_lt_of_pos (L - r - D) (show 0 < P by omega)
    have e3 := Int.emod_add_mul_ediv (r - 1) P
    have e4 := Int.emod_lt_of_pos (r - 1) (show 0 < P by omega)
    have h5 : (L - D) / P < (L - r - D) / P + 1 + ((r - 1) / P + 1) := by
      rw [Int.ediv_lt_iff_lt_mul (by omega)]
      have e5 : ((L - r - D) / P + 1 + ((r - 1) / P + 1)) * P = P * ((L - r - D) / P) + P + (P * ((r - 1) / P) + P) := by
        rw [Int.add_mul, Int.add_mul, Int.add_mul, Int.one_mul, Int.mul_comm, Int.mul_comm ((r - 1) / P)]
      omega
    omega
  · rw [if_neg h1]
    by_cases h2 : D ≤ L
    · rw [if_pos h2]
      have : (L - D) / P ≤ (r - 1) / P := Int.ediv_le_ediv (by omega) (by omega)
      omega
    · rw [if_neg h2]; omega
def dbf (P C D : Nat → Int) (k : Nat) (L : Int) : Int := sumT (fun j => cntD (P j) (D j) L * C j) k
theorem dbf_le {P C D : Nat → Int} {n : Nat} (h : ∀ j, j < n → 1 ≤ P j ∧ 1 ≤ C j ∧ D j ≤ P j) (hr : ∀ j, j < n → ∃ r, 1 ≤ r ∧ r ≤ D j ∧ ask P C j r = r) : ∀ k, k ≤ n → ∀ L : Nat, dbf P C D k L ≤ (L : Int)
  | 0, _, L => by simp [dbf, sumT]
  | k + 1, hk, L => by
    have ih := dbf_le h hr k (by omega)
    obtain ⟨r, r1, r2, r3⟩ := hr k (by omega)
    have hk1 := h k (by omega)
    induction L using Nat.strongRecOn with
    | _ L ihL =>
      by_cases hl : (L : Int) < D k
      · have e : dbf P C D (k + 1) L = dbf P C D k L := by
          unfold dbf
          rw [sumT_succ]
          unfold cntD
          rw [if_neg (show ¬ D k ≤ (L : Int) by omega)]
          omega
        rw [e]; exact ih L
      · obtain ⟨rn, hrn⟩ : ∃ rn : Nat, r = (rn : Int) := ⟨r.toNat, by omega⟩
        subst hrn
        have h1 := ihL (L - rn) (by omega)
        have hcast : ((L - rn : Nat) : Int) = (L : Int) - rn := by omega
        rw [hcast] at h1
        have hk2 : upD (rn : Int) (P k) = 1 := by
          unfold upD
          rw [show (rn : Int) + P k - 1 = (rn - 1) + 1 * P k by omega, Int.add_mul_ediv_right _ _ (by omega), Int.ediv_eq_zero_of_lt (by omega) (by omega)]
          omega
        have hstep : dbf P C D (k + 1) L ≤ sumT (fun j => cntD (P j) (D j) ((L : Int) - rn) * C j + upD rn (P j) * C j) (k + 1) := by
          unfold dbf
          refine sumT_le fun j hj => ?_
          have hj1 := h j (by omega)
          rw [← Int.add_mul]
          exact Int.mul_le_mul_of_nonneg_right (cntD_step hj1.1 r1) (by omega)
        have hsplit : sumT (fun j => cntD (P j) (D j) ((L : Int) - rn) * C j + upD rn (P j) * C j) (k + 1) = dbf P C D (k + 1) ((L : Int) - rn) + sumT (fun j => upD rn (P j) * C j) (k + 1) := sumT_plus _ _ _
        have hask : sumT (fun j => upD rn (P j) * C j) (k + 1) = rn := by
          rw [sumT_succ, hk2]
          unfold ask at r3
          omega
        omega
where
  sumT_plus (a b : Nat → Int) : ∀ k, sumT (fun j => a j + b j) k = sumT a k + sumT b k
    | 0 => by simp [sumT]
    | k + 1 => by rw [sumT_succ, sumT_succ, sumT_succ, sumT_plus a b k]; omega
/-- how many of the first J jobs of a task lie within a and b -/
def cntJ (P D a b : Int) (J : Nat) : Int := sumT (fun j => if a ≤ (j : Int) * P ∧ (j : Int) * P + D ≤ b then 1 else 0) J
theorem cntJ_range {P D a b : Int} : ∀ J : Nat, cntJ P D a b J = 0 ∨ ∃ j1 j2 : Nat, j1 ≤ j2 ∧ j2 < J ∧ a ≤ (j1 : Int) * P ∧ (j2 : Int) * P + D ≤ b ∧ cntJ P D a b J ≤ (j2 : Int) - j1 + 1
  | 0 => .inl rfl
  | J + 1 => by
    have e : cntJ P D a b (J + 1) = cntJ P D a b J + if a ≤ (J : Int) * P ∧ (J : Int) * P + D ≤ b then 1 else 0 := rfl
    rw [e]
    by_cases h : a ≤ (J : Int) * P ∧ (J : Int) * P + D ≤ b
    · rw [if_pos h]
      rcases cntJ_range (P := P) (D := D) (a := a) (b := b) J with h1 | ⟨j1, j2, h1, h2, h3, h4, h5⟩
      · exact .inr ⟨J, J, Nat.le_refl _, by omega, h.1, h.2, by omega⟩
      · exact .inr ⟨j1, J, by omega, by omega, h3, h.2, by omega⟩
    · rw [if_neg h, Int.add_zero]
      rcases cntJ_range (P := P) (D := D) (a := a) (b := b) J with h1 | ⟨j1, j2, h1, h2, h3, h4, h5⟩
      · exact .inl h1
      · exact .inr ⟨j1, j2, h1, by omega, h3, h4, h5⟩
theorem cntJ_le {P D a b : Int} (hP : 1 ≤ P) (J : Nat) : cntJ P D a b J ≤ cntD P D (b - a) := by
  rcases cntJ_range (P := P) (D := D) (a := a) (b := b) J with h | ⟨j1, j2, h1, h2, h3, h4, h5⟩
  · rw [h]; exact cntD_nonneg hP
  · have hm : ((j2 : Int) - j1) * P ≤ b - a - D := by
      rw [Int.sub_mul]; omega
    have h0 : 0 ≤ ((j2 : Int) - j1) * P := Int.mul_nonneg (by omega) (by omega)
    have h6 : (j2 : Int) - j1 ≤ (b - a - D) / P := (Int.le_ediv_iff_mul_le (by omega)).2 hm
    unfold cntD
    rw [if_pos (by omega)]
    omega
end Go.Proofs.Ytgnegemiiahkaaa
