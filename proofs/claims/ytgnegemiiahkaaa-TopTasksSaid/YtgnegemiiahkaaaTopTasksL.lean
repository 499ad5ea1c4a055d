/- The plain law of the jobs that tasks make (TopTasks). No program is in sight. No conditions. -/
import Derived.Test.YtgnegemiiahkaaaTasksLaw
import Derived.Test.YtgnegemiiahkaaaEdf
import Derived.Test.YtgnegemiiahkaaaRanksFit
import Derived.Test.YtgnegemiiahkaaaEdfLate
import Derived.Test.YtgnegemiiahkaaaRow3
namespace Go.Proofs.Ytgnegemiiahkaaa
open Go Go.RowKit

/-- so far: the jobs L of the tasks xs, the first i of them J + 1 times, the others J times -/
structure JobsOf (xs L : List (Int × Int × Int)) (n i J : Nat) : Prop where
  len : L.length ≤ 12
  ok : ∀ k, k < L.length → okJob (t0 L k) (t1 L k) (t2 L k)
  need : ∀ a b : Int, need (t0 L) (t1 L) (t2 L) L.length a b ≤ sumT (fun t => cntJ (t0 xs t) (t2 xs t) a b (if t < i then J + 1 else J) * t1 xs t) n
theorem JobsOf.nil (xs : List (Int × Int × Int)) (n : Nat) : JobsOf xs [] n 0 0 := by
  refine ⟨by simp, fun k hk => by simp at hk, fun a b => ?_⟩
  have : ∀ m, sumT (fun t => cntJ (t0 xs t) (t2 xs t) a b (if t < 0 then 0 + 1 else 0) * t1 xs t) m = 0 := fun m => by
    induction m with
    | zero => rfl
    | succ m ih => rw [sumT_succ, ih, if_neg (by omega)]; simp [cntJ, sumT]
  rw [this]
  simp [Go.Proofs.Ytgnegemiiahkaaa.need, sumT]
theorem JobsOf.round {xs L : List (Int × Int × Int)} {n J : Nat} (h : JobsOf xs L n n J) : JobsOf xs L n 0 (J + 1) := by
  refine ⟨h.len, h.ok, fun a b => Int.le_trans (h.need a b) (Int.le_of_eq (sumT_congr fun j hj => ?_))⟩
  rw [if_pos hj, if_neg (by omega)]
theorem cntJ_mono {P D a b : Int} (J : Nat) : cntJ P D a b J ≤ cntJ P D a b (J + 1) := by
  have e : cntJ P D a b (J + 1) = cntJ P D a b J + if a ≤ (J : Int) * P ∧ (J : Int) * P + D ≤ b then 1 else 0 := rfl
  rw [e]
  split <;> omega
theorem JobsOf.skip {xs L : List (Int × Int × Int)} {n i J : Nat} (h : JobsOf xs L n i J) (hC : ∀ j, j < n → 1 ≤ t1 xs j) : JobsOf xs L n (i + 1) J := by
  refine ⟨h.len, h.ok, fun a b => Int.le_trans (h.need a b) (sumT_le fun j hj => ?_)⟩
  refine Int.mul_le_mul_of_nonneg_right ?_ (by have := hC j hj; omega)
  by_cases e : j < i
  · rw [if_pos e, if_pos (by omega)]; exact Int.le_refl _
  · rw [if_neg e]
    by_cases e2 : j < i + 1
    · rw [if_pos e2]; exact cntJ_mono J
    · rw [if_neg e2]; exact Int.le_refl _
theorem JobsOf.push {xs L : List (Int × Int × Int)} {n i J : Nat} (h : JobsOf xs L n i J) (hi : i < n) (hl : L.length < 12) {at_ : Int} (hat : at_ = (J : Int) * t0 xs i) (ho : okJob at_ (t1 xs i) (at_ + t2 xs i)) :
    JobsOf xs (L ++ [(at_, t1 xs i, at_ + t2 xs i)]) n (i + 1) J := by
  obtain ⟨p1, p2, p3, p4⟩ := t0_push (L := L) (x := (at_, t1 xs i, at_ + t2 xs i)) (j := L.length)
  have pj := fun j (hj : j < L.length) => (t0_push (L := L) (x := (at_, t1 xs i, at_ + t2 xs i)) (j := j)).1 hj
  refine ⟨by simp; omega, fun k hk => ?_, fun a b => ?_⟩
  · by_cases e : k < L.length
    · obtain ⟨q1, q2, q3⟩ := pj k e
      rw [q1, q2, q3]; exact h.ok k e
    · obtain rfl : k = L.length := by simp at hk; omega
      rw [p2, p3, p4]; exact ho
  · have hn := h.need a b
    have e1 : (L ++ [(at_, t1 xs i, at_ + t2 xs i)]).length = L.length + 1 := by simp
    rw [e1]
    unfold Go.Proofs.Ytgnegemiiahkaaa.need at hn ⊢
    rw [sumT_succ, p2, p3, p4]
    have e2 : sumT (fun j => if a ≤ t0 (L ++ [(at_, t1 xs i, at_ + t2 xs i)]) j ∧ t2 (L ++ [(at_, t1 xs i, at_ + t2 xs i)]) j ≤ b then t1 (L ++ [(at_, t1 xs i, at_ + t2 xs i)]) j else 0) L.length = sumT (fun j => if a ≤ t0 L j ∧ t2 L j ≤ b then t1 L j else 0) L.length := sumT_congr fun j hj => by
      obtain ⟨q1, q2, q3⟩ := pj j hj
      rw [q1, q2, q3]
    rw [e2]
    have e3 : sumT (fun t => cntJ (t0 xs t) (t2 xs t) a b (if t < i + 1 then J + 1 else J) * t1 xs t) n = sumT (fun t => cntJ (t0 xs t) (t2 xs t) a b (if t < i then J + 1 else J) * t1 xs t) n + (if a ≤ at_ ∧ at_ + t2 xs i ≤ b then t1 xs i else 0) := by
      refine sumT_one (i := i) hi (fun j _ hne => ?_) ?_
      · by_cases e : j < i
        · rw [if_pos e, if_pos (by omega)]
        · rw [if_neg e, if_neg (by omega)]
      · rw [if_pos (by omega), if_neg (by omega), hat]
        have e4 : cntJ (t0 xs i) (t2 xs i) a b (J + 1) = cntJ (t0 xs i) (t2 xs i) a b J + if a ≤ (J : Int) * t0 xs i ∧ (J : Int) * t0 xs i + t2 xs i ≤ b then 1 else 0 := rfl
        rw [e4]
        split
        · rw [Int.add_mul, Int.one_mul]
        · simp
    rw [e3]
    exact Int.add_le_add_right hn _
theorem JobsOf.jobs {xs L : List (Int × Int × Int)} {n i J : Nat} (h : JobsOf xs L n i J) : jobsErr L = 0 := jobs_end (by have := h.len; omega) h.ok
/-- tasks that fit by their ranks: their jobs fit -/
theorem JobsOf.fit {xs L : List (Int × Int × Int)} {n i J : Nat} (h : JobsOf xs L n i J) (hx : ∀ j, j < n → okTask (t0 xs j) (t1 xs j) (t2 xs j)) (hf : ∀ j, j < n → FitI xs j) : FitsT (t0 L) (t1 L) (t2 L) L.length := by
  intro a b ha hab hb
  have hk : ∀ j, j < n → 1 ≤ t0 xs j ∧ 1 ≤ t1 xs j ∧ t2 xs j ≤ t0 xs j := fun j hj => by have := hx j hj; unfold okTask at this; omega
  have h1 := h.need a b
  have h2 : sumT (fun t => cntJ (t0 xs t) (t2 xs t) a b (if t < i then J + 1 else J) * t1 xs t) n ≤ dbf (t0 xs) (t1 xs) (t2 xs) n ((b : Int) - a) := by
    unfold dbf
    refine sumT_le fun j hj => ?_
    exact Int.mul_le_mul_of_nonneg_right (cntJ_le (hk j hj).1 _) (by have := hk j hj; omega)
  have h3 := dbf_le hk (fun j hj => by
    obtain ⟨r, r1, r2, r3, _⟩ := hf j hj
    exact ⟨r, r1, r2, r3⟩) n (Nat.le_refl _) (b - a)
  have hc : ((b - a : Nat) : Int) = (b : Int) - a := by omega
  rw [hc] at h3
  omega
theorem JobsOf.law {xs L : List (Int × Int × Int)} {n i J : Nat} (h : JobsOf xs L n i J) : ∀ j, j < L.length → 0 ≤ t0 L j ∧ t0 L j < t2 L j ∧ t2 L j ≤ 200 ∧ 1 ≤ t1 L j ∧ t1 L j ≤ 200 := fun j hj => by
  have := h.ok j hj
  unfold okJob at this; omega
theorem JobsOf.fitJ {xs L : List (Int × Int × Int)} {n i J : Nat} (h : JobsOf xs L n i J) (hx : ∀ j, j < n → okTask (t0 xs j) (t1 xs j) (t2 xs j)) (hf : ∀ j, j < n → FitI xs j) : FitsJ (t0 L) (t1 L) (t2 L) L.length :=
  (fits_same fun j hj => by have := h.law j hj; omega).2 (h.fit hx hf)
theorem JobsOf.never {xs L : List (Int × Int × Int)} {n i J : Nat} (h : JobsOf xs L n i J) (hx : ∀ j, j < n → okTask (t0 xs j) (t1 xs j) (t2 xs j)) (hf : ∀ j, j < n → FitI xs j) : FirstP (lateP (t0 L) (t1 L) (t2 L) L.length) L.length L.length := by
  refine ⟨Nat.le_refl _, fun j hj => ?_, fun hlt => absurd hlt (Nat.lt_irrefl _)⟩
  have := never_late h.law (h.fit hx hf) hj
  unfold lateP
  simp only [decide_eq_false_iff_not]
  omega
end Go.Proofs.Ytgnegemiiahkaaa
