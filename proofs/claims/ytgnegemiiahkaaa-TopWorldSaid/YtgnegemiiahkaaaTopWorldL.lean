/- The plain law of headtop.TopWorld: by when all is done, and each. No program is in sight. Conditions: what holds of a peer. -/
import Derived.Test.YtgnegemiiahkaaaWorldLaw
namespace Go.Proofs.Ytgnegemiiahkaaa
open Go Go.RowKit
set_option linter.unusedVariables false

/-- the bytes that a peer still wants -/
def nd (L : List Peer) (k : Nat) : Int := pl L k - pp L k
def sm (f : Nat → Int) : Nat → Int
  | 0 => 0
  | k + 1 => sm f k + f k
theorem sm_congr {f g : Nat → Int} : ∀ {n : Nat}, (∀ k, k < n → f k = g k) → sm f n = sm g n
  | 0, _ => rfl
  | n + 1, h => by rw [sm, sm, sm_congr (fun k hk => h k (by omega)), h n (by omega)]
theorem sm_nonneg {f : Nat → Int} : ∀ {n : Nat}, (∀ k, k < n → 0 ≤ f k) → 0 ≤ sm f n
  | 0, _ => Int.le_refl _
  | n + 1, h => by have := sm_nonneg (n := n) (fun k hk => h k (by omega)); have := h n (by omega); rw [sm]; omega
theorem sm_le {f : Nat → Int} {b : Int} : ∀ {n : Nat}, (∀ k, k < n → f k ≤ b) → sm f n ≤ b * n
  | 0, _ => by simp [sm]
  | n + 1, h => by
    have h1 := sm_le (n := n) (fun k hk => h k (by omega))
    have h2 := h n (by omega)
    have h3 : b * ((n + 1 : Nat) : Int) = b * (n : Int) + b := by rw [Int.natCast_add, Int.mul_add]; simp
    rw [sm, h3]; omega
theorem sm_zero {f : Nat → Int} : ∀ {n : Nat}, (∀ k, k < n → 0 ≤ f k) → sm f n ≤ 0 → ∀ k, k < n → f k = 0
  | n + 1, h, h0, k, hk => by
    have h1 := sm_nonneg (f := f) (n := n) (fun k hk => h k (by omega))
    have h2 := h n (by omega)
    rw [sm] at h0
    rcases Nat.lt_succ_iff_lt_or_eq.1 hk with h3 | rfl
    · exact sm_zero (n := n) (fun k hk => h k (by omega)) (by omega) k h3
    · omega
theorem sm_dec {f g : Nat → Int} {i : Nat} : ∀ {n : Nat}, i < n → (∀ k, k < n → g k = if k = i then f k - 1 else f k) → sm g n = sm f n - 1
  | n + 1, hi, h => by
    have h1 := h n (by omega)
    rw [sm, sm]
    rcases Nat.lt_succ_iff_lt_or_eq.1 hi with h3 | rfl
    · rw [sm_dec h3 (fun k hk => h k (by omega)), h1, if_neg (by omega)]; omega
    · rw [h1, if_pos rfl, sm_congr (f := g) (g := f) (n := i) (fun k hk => by rw [h k (by omega), if_neg (by omega)])]; omega

theorem good_nd {L : List Peer} (h : GoodL L) {k : Nat} (hk : k < L.length) : 0 ≤ nd L k ∧ nd L k ≤ 1000000 ∧ (pd L k = true ↔ nd L k = 0) := by
  obtain ⟨g1, g2, g3, g4⟩ := h k hk
  change 0 ≤ pp L k at g1
  change pp L k < pl L k ∨ (pl L k = 0 ∧ pp L k = 0) at g2
  change pd L k = decide (pl L k = 0) at g3
  change pl L k ≤ 1000000 at g4
  refine ⟨by unfold nd; omega, by unfold nd; omega, ?_⟩
  rw [g3, decide_eq_true_iff]
  unfold nd
  omega
theorem put_nd (u : Int) (x : Peer) : (putW u x).1 - (putW u x).2.1 = x.1 - x.2.1 - 1 := by
  unfold putW
  split
  · simp only; omega
  · simp only; omega
theorem mod2 {x n : Nat} (h : x < 2 * n) : x % n = if x < n then x else x - n := by
  by_cases hx : x < n
  · rw [if_pos hx, Nat.mod_eq_of_lt hx]
  · rw [if_neg hx, Nat.mod_eq_sub_mod (by omega), Nat.mod_eq_of_lt (by omega)]
/-- how far i is from the turn -/
def dst (n t i : Nat) : Nat := if t ≤ i then i - t else i + n - t
theorem dst_at {n t i : Nat} (ht : t < n) (hi : i < n) : dst n t i < n ∧ (t + dst n t i) % n = i := by
  have h1 : dst n t i < n := by unfold dst; split <;> omega
  refine ⟨h1, ?_⟩
  rw [mod2 (by omega)]
  unfold dst
  split <;> split <;> omega

theorem stuck_all {s : List Peer × Nat} (ht : s.2 < s.1.length) (h : stuckW s = true) {i : Nat} (hi : i < s.1.length) : pd s.1 i = true := by
  have h0 : nx s.1 s.2 = s.1.length := of_decide_eq_true h
  obtain ⟨h1, h2⟩ := dst_at ht hi
  have h3 := nx_before (L := s.1) (t := s.2) (k := dst s.1.length s.2 i) (by omega)
  rwa [h2] at h3
theorem not_stuck {s : List Peer × Nat} (h : stuckW s = false) : nx s.1 s.2 < s.1.length := by
  have h0 : ¬ nx s.1 s.2 = s.1.length := of_decide_eq_false h
  have := nx_le s.1 s.2
  omega
theorem step_nd {u : Int} {s : List Peer × Nat} (h : stuckW s = false) {k : Nat} (hk : k < s.1.length) : nd (stepW u s).1 k = if k = who s then nd s.1 k - 1 else nd s.1 k := by
  have h1 := not_stuck h
  unfold stepW
  rw [if_pos h1]
  unfold nd pl pp
  rw [ge_set k (who_lt (by omega))]
  by_cases e : k = who s
  · rw [if_pos e, if_pos e, put_nd, e]
  · rw [if_neg e, if_neg e]
theorem step_pd {u : Int} {s : List Peer × Nat} (h : stuckW s = false) {k : Nat} (hk : k < s.1.length) (hd : pd s.1 k = true) : pd (stepW u s).1 k = true := by
  have h1 := not_stuck h
  unfold stepW
  rw [if_pos h1]
  unfold pd
  rw [ge_set k (who_lt (by omega))]
  have e : ¬ k = who s := by
    intro e
    have := nx_at h1
    unfold who at e
    rw [← e, hd] at this
    cases this
  rw [if_neg e]; exact hd
/-- A: the bytes that all want -/
theorem run_sum {u : Int} {s : List Peer × Nat} (hG : GoodL s.1) (ht : s.2 < s.1.length) : ∀ m, stuckW (runW u s m) = true ∨ sm (nd (runW u s m).1) s.1.length = sm (nd s.1) s.1.length - m
  | 0 => .inr (by simp [runW])
  | m + 1 => by
    rcases run_sum (u := u) hG ht m with h | h
    · left
      show stuckW (stepW u (runW u s m)) = true
      rw [stepW_stuck h]; exact h
    · cases h0 : stuckW (runW u s m) with
      | true => left; show stuckW (stepW u (runW u s m)) = true; rw [stepW_stuck h0]; exact h0
      | false =>
        right
        have h1 := not_stuck h0
        have hl := runW_len (u := u) (s := s) m
        show sm (nd (stepW u (runW u s m)).1) s.1.length = _
        have hw : who (runW u s m) < s.1.length := by rw [← hl]; exact who_lt (by omega)
        rw [sm_dec (f := nd (runW u s m).1) hw (fun k hk => step_nd h0 (by rw [hl]; exact hk)), h]
        omega
theorem all_done {u : Int} {s : List Peer × Nat} (hG : GoodL s.1) (ht : s.2 < s.1.length) {m : Nat} (hm : sm (nd s.1) s.1.length ≤ m) {i : Nat} (hi : i < s.1.length) : pd (runW u s m).1 i = true := by
  have hl := runW_len (u := u) (s := s) m
  rcases run_sum (u := u) hG ht m with h | h
  · exact stuck_all (runW_turn ht m) h (by rw [hl]; exact hi)
  · have hg := runW_good (u := u) (s := s) hG m
    have hz := sm_zero (f := nd (runW u s m).1) (n := s.1.length) (fun k hk => (good_nd hg (by rw [hl]; exact hk)).1) (by omega) i hi
    exact ((good_nd hg (by rw [hl]; exact hi)).2.2).2 hz
/-- B: each by itself -/
def pot (s : List Peer × Nat) (i : Nat) : Int := (s.1.length : Int) * nd s.1 i + dst s.1.length s.2 i
theorem step_pot {u : Int} {s : List Peer × Nat} (ht : s.2 < s.1.length) {i : Nat} (hi : i < s.1.length) (hd : pd s.1 i = false) : stuckW s = false ∧ pot (stepW u s) i + 1 ≤ pot s i := by
  have hns : stuckW s = false := by
    cases h : stuckW s with
    | false => rfl
    | true => rw [stuck_all ht h hi] at hd; cases hd
  refine ⟨hns, ?_⟩
  have h1 := not_stuck hns
  obtain ⟨d1, d2⟩ := dst_at ht hi
  have hkd : nx s.1 s.2 ≤ dst s.1.length s.2 i := by
    apply Nat.le_of_not_lt
    intro h
    have := nx_before (L := s.1) (t := s.2) h
    rw [d2, hd] at this
    cases this
  have hw : who s < s.1.length := who_lt (by omega)
  have hwe : who s = (s.2 + nx s.1 s.2) % s.1.length := rfl
  have hl := stepW_len (u := u) (s := s)
  have hn := step_nd (u := u) hns hi
  have h2 : (stepW u s).2 = (who s + 1) % s.1.length := by unfold stepW; rw [if_pos h1]
  unfold pot
  rw [hl, hn, h2]
  rw [mod2 (by omega)] at hwe
  generalize nx s.1 s.2 = k at *
  generalize who s = j at *
  generalize s.2 = t at *
  have hN : s.1.length = s.1.length := rfl
  generalize s.1.length = n at *
  generalize hv : nd s.1 i = v
  rw [mod2 (show j + 1 < 2 * n by omega)]
  rw [mod2 (by omega)] at d2
  by_cases e : i = j
  · rw [if_pos e]
    have e1 : (n : Int) * (v - 1) = (n : Int) * v - n := by rw [Int.mul_sub]; simp
    rw [e1]
    generalize (n : Int) * v = q
    unfold dst
    split <;> split <;> split <;> omega
  · rw [if_neg e]
    generalize (n : Int) * v = q
    unfold dst at *
    split at hkd <;> split at hwe <;> split at d2 <;> split <;> split <;> omega
theorem run_pot {u : Int} {s : List Peer × Nat} (ht : s.2 < s.1.length) {i : Nat} (hi : i < s.1.length) : ∀ m, pd (runW u s m).1 i = false → pot (runW u s m) i + m ≤ pot s i
  | 0, _ => by simp [runW]
  | m + 1, hd => by
    have hl := runW_len (u := u) (s := s) m
    have hd0 : pd (runW u s m).1 i = false := by
      cases h : pd (runW u s m).1 i with
      | false => rfl
      | true =>
        cases h0 : stuckW (runW u s m) with
        | true =>
          have : pd (stepW u (runW u s m)).1 i = true := by rw [stepW_stuck h0]; exact h
          have hd' : pd (stepW u (runW u s m)).1 i = false := hd
          rw [this] at hd'; cases hd'
        | false =>
          have : pd (stepW u (runW u s m)).1 i = true := step_pd h0 (by rw [hl]; exact hi) h
          have hd' : pd (stepW u (runW u s m)).1 i = false := hd
          rw [this] at hd'; cases hd'
    have h1 := run_pot ht hi m hd0
    have h2 := (step_pot (u := u) (runW_turn ht m) (by rw [hl]; exact hi) hd0).2
    show pot (stepW u (runW u s m)) i + _ ≤ _
    omega
theorem each_soon {u : Int} {s : List Peer × Nat} (hG : GoodL s.1) (ht : s.2 < s.1.length) {i : Nat} (hi : i < s.1.length) {m : Nat} (hd : pd (runW u s m).1 i = false) : (m : Int) < (s.1.length : Int) * (nd s.1 i + 1) := by
  have h1 := run_pot (u := u) ht hi m hd
  have hl := runW_len (u := u) (s := s) m
  have hg := good_nd (runW_good (u := u) (s := s) hG m) (k := i) (by rw [hl]; exact hi)
  have h2 : 1 ≤ nd (runW u s m).1 i := by
    apply Classical.byContradiction
    intro h
    have := hg.2.2.2 (by omega)
    rw [hd] at this; cases this
  have h3 := (dst_at ht hi).1
  unfold pot at h1
  rw [hl] at h1
  have h4 : (s.1.length : Int) * 1 ≤ (s.1.length : Int) * nd (runW u s m).1 i := Int.mul_le_mul_of_nonneg_left h2 (by omega)
  rw [Int.mul_add]
  omega
theorem run_add {u : Int} {s : List Peer × Nat} (a : Nat) : ∀ b, runW u (runW u s a) b = runW u s (a + b)
  | 0 => rfl
  | b + 1 => by
    show stepW u (runW u (runW u s a) b) = stepW u (runW u s (a + b))
    rw [run_add a b]
end Go.Proofs.Ytgnegemiiahkaaa
