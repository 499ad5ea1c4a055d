/- Plain laws of a line that takes so much in a time (P32, P33, P63): Lindley, and the longest time without a rest. No program is in sight. No conditions. -/
import Derived.Test.YtgbccpfehcjhbaaCurveFacts
import Derived.Test.YtgbccpfehcjhbaaSums
namespace Go.Proofs.Ytgbccpfehcjhbaa
open Go Go.RowKit

theorem mxf_shift (s : Int) (e : Nat → Int) (m : Nat) : mxf s e (m + 1) = mxf (max s (e 0)) (fun u => e (u + 1)) m := by
  induction m with
  | zero => rfl
  | succ m ih => rw [mxf_succ, ih, mxf_succ]
theorem mxf_add (s d : Int) (e : Nat → Int) (m : Nat) : mxf (s + d) (fun u => e u + d) m = mxf s e m + d := by
  induction m with
  | zero => rfl
  | succ m ih => rw [mxf_succ, mxf_succ, ih]; omega
theorem mxf_max (s s' : Int) (e : Nat → Int) (m : Nat) : mxf (max s s') e m = max s (mxf s' e m) := by
  induction m with
  | zero => rfl
  | succ m ih => rw [mxf_succ, mxf_succ, ih]; omega

/-- the sums less what could have gone -/
def net (a : Nat → Int) (r : Int) (k : Nat) : Int := sumT a k - r * (k : Int)
theorem net_succ (a : Nat → Int) (r : Int) (k : Nat) : net a r (k + 1) = net a r k + (a k - r) := by
  unfold net
  have e : r * ((k + 1 : Nat) : Int) = r * (k : Int) + r := by rw [Int.natCast_succ, Int.mul_add, Int.mul_one]
  simp only [sumT]
  omega
/-- what waits behind k times, at first l -/
def lq (a : Nat → Int) (r l : Int) : Nat → Int
  | 0 => l
  | k + 1 => max 0 (lq a r l k + a k - r)
theorem lq_net (a : Nat → Int) (r l : Int) (hl : 0 ≤ l) : ∀ t, lq a r l t = mxf (l + net a r t) (fun s => net a r t - net a r (s + 1)) t ∧ 0 ≤ lq a r l t
  | 0 => ⟨by simp [lq, net, sumT, mxf], by simpa [lq] using hl⟩
  | t + 1 => by
    obtain ⟨h1, h2⟩ := lq_net a r l hl t
    refine ⟨?_, by simp only [lq]; omega⟩
    rw [mxf_succ]
    have e : mxf (l + net a r (t + 1)) (fun s => net a r (t + 1) - net a r (s + 1)) t = lq a r l t + (a t - r) := by
      rw [h1, ← mxf_add]
      rw [net_succ, ← Int.add_assoc]
      exact mxf_congr fun u _ => by omega
    rw [e]
    simp only [lq]
    omega
/-- as P63's reference finds it -/
theorem lq_lag (a : Nat → Int) (r l : Int) (hl : 0 ≤ l) (t : Nat) : mxf (max 0 (l + net a r t)) (fun s => net a r t - net a r (s + 1)) t = lq a r l t := by
  obtain ⟨h1, h2⟩ := lq_net a r l hl t
  rw [mxf_max, ← h1]; omega
/-- as P32's reference finds it -/
theorem lq_wait (a : Nat → Int) (r : Int) (t : Nat) : mxf 0 (fun s => net a r t - net a r s) (t + 1) = lq a r 0 t := by
  rw [mxf_shift, ← lq_lag a r 0 (by omega) t]
  have e : net a r 0 = 0 := by simp [net, sumT]
  rw [e, Int.sub_zero, Int.zero_add]
theorem lq_bd {a : Nat → Int} {r l : Int} {n : Nat} {b c : Int} (hr : 0 ≤ r) (hb : 0 ≤ b) (hl : 0 ≤ l ∧ l ≤ c) (h : ∀ j, j < n → 0 ≤ a j ∧ a j ≤ b) : ∀ k, k ≤ n → 0 ≤ lq a r l k ∧ lq a r l k ≤ c + b * (k : Int)
  | 0, _ => by simpa [lq] using hl
  | k + 1, hk => by
    have a1 := lq_bd hr hb hl h k (by omega)
    have a2 := h k (by omega)
    have e : b * ((k + 1 : Nat) : Int) = b * (k : Int) + b := by rw [Int.natCast_succ, Int.mul_add, Int.mul_one]
    have e0 : 0 ≤ b * (k : Int) := Int.mul_nonneg hb (by omega)
    simp only [lq]
    omega

/-- how long it has had something left, behind k times -/
def be (q : Nat → Int) : Nat → Nat
  | 0 => 0
  | k + 1 => if 0 < q k then be q k + 1 else 0
def bm (q : Nat → Int) : Nat → Nat
  | 0 => 0
  | k + 1 => max (bm q k) (be q (k + 1))
/-- how long from i on -/
def rl (q : Nat → Int) (i : Nat) : Nat → Nat
  | 0 => 0
  | m + 1 => if 0 < q i then rl q (i + 1) m + 1 else 0
theorem be_le (q : Nat → Int) : ∀ k, be q k ≤ k ∧ ∀ j, k - be q k ≤ j → j < k → 0 < q j
  | 0 => ⟨by simp [be], fun j _ hj => by omega⟩
  | k + 1 => by
    obtain ⟨h1, h2⟩ := be_le q k
    by_cases h : 0 < q k
    · simp only [be, if_pos h]
      refine ⟨by omega, fun j hj hk => ?_⟩
      rcases Nat.lt_succ_iff_lt_or_eq.1 hk with h' | rfl
      · exact h2 j (by omega) h'
      · exact h
    · simp only [be, if_neg h]
      exact ⟨by omega, fun j hj hk => by omega⟩
theorem rl_ge (q : Nat → Int) : ∀ (m i e : Nat), e ≤ m → (∀ j, i ≤ j → j < i + e → 0 < q j) → e ≤ rl q i m
  | m, i, 0, _, _ => by omega
  | 0, i, e + 1, h, _ => by omega
  | m + 1, i, e + 1, h, hq => by
    have := rl_ge q m (i + 1) e (by omega) fun j h1 h2 => hq j (by omega) (by omega)
    simp only [rl, if_pos (hq i (by omega) (by omega))]
    omega
theorem rl_le (q : Nat → Int) : ∀ (m i : Nat), rl q i m ≤ m ∧ ∀ j, i ≤ j → j < i + rl q i m → 0 < q j
  | 0, i => ⟨by simp [rl], fun j h1 h2 => by simp [rl] at h2; omega⟩
  | m + 1, i => by
    obtain ⟨h1, h2⟩ := rl_le q m (i + 1)
    by_cases h : 0 < q i
    · simp only [rl, if_pos h]
      refine ⟨by omega, fun j hj hk => ?_⟩
      by_cases e : j = i
      · subst e; exact h
      · exact h2 j (by omega) (by omega)
    · simp only [rl, if_neg h]
      exact ⟨by omega, fun j hj hk => by omega⟩
theorem be_ge (q : Nat → Int) (i : Nat) : ∀ e, (∀ j, i ≤ j → j < i + e → 0 < q j) → e ≤ be q (i + e)
  | 0, _ => by omega
  | e + 1, h => by
    have := be_ge q i e fun j h1 h2 => h j h1 (by omega)
    rw [← Nat.add_assoc]
    simp only [be, if_pos (h (i + e) (by omega) (by omega))]
    omega
theorem bm_ge (q : Nat → Int) : ∀ n k, k ≤ n → be q k ≤ bm q n
  | 0, k, h => by obtain rfl : k = 0 := by omega
                  simp [be]
  | n + 1, k, h => by
    rcases Nat.lt_succ_iff_lt_or_eq.1 (Nat.lt_succ_of_le h) with h' | rfl
    · have := bm_ge q n k (by omega); simp only [bm]; omega
    · simp only [bm]; omega
theorem bm_at (q : Nat → Int) : ∀ n, ∃ k, k ≤ n ∧ bm q n = be q k
  | 0 => ⟨0, by omega, rfl⟩
  | n + 1 => by
    obtain ⟨k, hk, h⟩ := bm_at q n
    by_cases hh : be q (n + 1) ≤ bm q n
    · exact ⟨k, by omega, by simp only [bm]; omega⟩
    · exact ⟨n + 1, by omega, by simp only [bm]; omega⟩
theorem bm_bd (q : Nat → Int) (n : Nat) : bm q n ≤ n := by
  obtain ⟨k, hk, h⟩ := bm_at q n
  have := (be_le q k).1
  omega
theorem busy_same (q : Nat → Int) (n : Nat) : mxf 0 (fun i => (rl q i (n - i) : Int)) n = (bm q n : Int) := by
  have hm := mxf_ge (s := 0) (e := fun i => (rl q i (n - i) : Int)) (m := n)
  apply Int.le_antisymm
  · refine mxf_le (by omega) fun i hi => ?_
    obtain ⟨h1, h2⟩ := rl_le q (n - i) i
    have a := be_ge q i _ h2
    have b := bm_ge q n (i + rl q i (n - i)) (by omega)
    exact Int.ofNat_le.2 (by omega)
  · obtain ⟨k, hk, h⟩ := bm_at q n
    obtain ⟨h1, h2⟩ := be_le q k
    by_cases h0 : be q k = 0
    · rw [h, h0]; exact hm.1
    · have a := hm.2 (k - be q k) (by omega)
      have b := rl_ge q (n - (k - be q k)) (k - be q k) (be q k) (by omega) fun j g1 g2 => h2 j g1 (by omega)
      have b' : (be q k : Int) ≤ (rl q (k - be q k) (n - (k - be q k)) : Int) := Int.ofNat_le.2 b
      rw [h]
      omega
end Go.Proofs.Ytgbccpfehcjhbaa
