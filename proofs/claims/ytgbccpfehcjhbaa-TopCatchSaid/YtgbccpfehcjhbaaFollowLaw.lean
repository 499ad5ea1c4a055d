/- The plain laws of a follower that catches up by the planned time (TopCatch), and of who goes second on a line (TopFirst). No conditions beyond what each theorem says. -/
import Derived.Test.YtgbccpfehcjhbaaLags
import Derived.Test.YtgbccpfehcjhbaaPlan
import Derived.Test.YtgbccpfehcjhbaaPrio
import Derived.Test.YtgbccpfehcjhbaaChainLaw
import Derived.Test.YtgbccpfehcjhbaaShape
import Derived.Test.YtgbccpfehcjhbaaLess
namespace Go.Proofs.Ytgbccpfehcjhbaa
open Go Go.RowKit

theorem sumT_mono {a : Nat → Int} {n : Nat} (h : ∀ j, j < n → 0 ≤ a j) : ∀ j, j ≤ n → ∀ i, i ≤ j → sumT a i ≤ sumT a j
  | 0, _, i, hi => by obtain rfl : i = 0 := by omega
                      exact Int.le_refl _
  | j + 1, hj, i, hi => by
    by_cases e : i = j + 1
    · subst e; exact Int.le_refl _
    · have h1 := sumT_mono h j (by omega) i (by omega)
      have h2 := h j (by omega)
      rw [sumT_succ]; omega
theorem sumT_both (a b : Nat → Int) : ∀ k, sumT (fun j => a j + b j) k = sumT a k + sumT b k
  | 0 => by simp [sumT]
  | k + 1 => by rw [sumT_succ, sumT_succ, sumT_succ, sumT_both a b k]; omega
theorem addL_len {xs : List Int} : (addL xs).length = xs.length + 1 := by unfold addL; rw [tab_length]
theorem addL_gi {xs : List Int} {n t : Nat} (hn : xs.length = n) (ht : t < n + 1) : gi (addL xs) t = sumT (gi xs) t := by
  unfold addL; rw [hn, gi_tab ht]
theorem add_curve {xs : List Int} (h : traceErr xs = 0) : curveErr (addL xs) = 0 := by
  obtain ⟨h1, h2⟩ := trace_ok h
  unfold addL
  refine curve_tab (by omega) (by omega) (fun j hj => ?_) (fun i j hij hj => sumT_mono (fun j hj => (h2 j hj).1) j (by omega) i hij)
  have := sumT_bd (b := 10000) h2 j (by omega)
  omega
theorem catch_zero {a L : Nat → Int} {r l : Int} {t : Nat} (hl : 0 ≤ l) (hF : sumT a t ≤ L t) (h : l + L t ≤ r * (t : Int)) : ∃ i, i ≤ t ∧ lq a r l i = 0 := by
  apply Classical.byContradiction
  intro hne
  have hp : ∀ i, i ≤ t → 0 < lq a r l i := fun i hi => by
    have h1 := (lq_net a r l hl i).2
    have h2 : lq a r l i ≠ 0 := fun h => hne ⟨i, hi, h⟩
    omega
  have hk : ∀ k, k ≤ t → lq a r l k = l + net a r k := by
    intro k
    induction k with
    | zero => intro _; simp [lq, net, sumT]
    | succ k ih =>
      intro hk
      have h1 := ih (by omega)
      have h2 := hp (k + 1) hk
      simp only [lq] at h2 ⊢
      rw [net_succ]; omega
  have h1 := hk t (Nat.le_refl _)
  have h2 := hp t (Nat.le_refl _)
  unfold net at h1
  omega
/-- P67: there is room for what a rate suffices for -/
theorem room_ge {xs : List Int} {l c : Int} {d : Nat} (h : OkR (gi xs) l d c) : l ≤ roomV xs c d := by
  obtain ⟨t, ht, h1⟩ := h
  have := (mxf_ge (s := -1) (e := fun t => c * (t : Int) - gi xs t) (m := d + 1)).2 t (by omega)
  unfold roomV
  omega
theorem catch_by {xs ys : List Int} {l c : Int} {n d i : Nat} (hx : xs.length = n) (hd : d < n + 1) (hl : 0 ≤ l) (hf : FitsC (addL xs) ys (n + 1)) (h : OkR (gi ys) l d c) (hi : FirstP (zeroP xs c l) (n + 1) i) : i ≤ d := by
  obtain ⟨t, ht, h1⟩ := h
  have h2 := hf t 0 (by omega) (by omega)
  rw [addL_gi hx (by omega), addL_gi hx (by omega), sumT_zero] at h2
  obtain ⟨k, hk, h3⟩ := catch_zero (a := gi xs) (L := gi ys) hl (by simpa using h2) h1
  apply Nat.not_lt.1
  intro hlt
  have := hi.2.1 k (by omega)
  unfold zeroP at this
  rw [h3] at this
  simp at this
theorem rateOf_ok {L : Nat → Int} {l v : Int} {n d : Nat} (hl : 0 ≤ l ∧ l ≤ 1000000) (hL : ∀ j, j < n → 0 ≤ L j ∧ L j ≤ 1000000) (hd : d < n) (h : RateOf L l d v 0) : 0 ≤ v ∧ v ≤ 10000 ∧ OkR L l d v := by
  rcases h with ⟨a, b, _⟩ | ⟨_, _, _, b⟩ | ⟨a, b, c, e, _⟩
  · subst b; exact ⟨by omega, by omega, okR_zero a⟩
  · omega
  · subst e
    refine ⟨b, c, (okR_rb hl hL hd a).2 ⟨?_, Int.le_refl _⟩⟩
    cases d with
    | zero => simp [rb] at b
    | succ d => omega
theorem sev_sum (a b : Nat → Int) (r : Int) : ∀ t, sumT b t - sumT (sev a b r) t = pq a b r t
  | 0 => by simp [sumT, pq]
  | t + 1 => by
    have h := sev_sum a b r t
    have e : pq a b r (t + 1) = pq a b r t + b t - sev a b r t := rfl
    rw [sumT_succ, sumT_succ, e]; omega
theorem first_law {a b fa fb lf : Nat → Int} {r : Int} {n : Nat} (hr : 0 ≤ r) (ha : ∀ j, j < n → 0 ≤ a j ∧ a j ≤ 10000) (hb : ∀ j, j < n → 0 ≤ b j ∧ b j ≤ 10000)
    (hA : ∀ t s, s ≤ t → t < n + 1 → sumT a t - sumT a s ≤ fa (t - s)) (hB : ∀ t s, s ≤ t → t < n + 1 → sumT b t - sumT b s ≤ fb (t - s))
    (hlf : ∀ t, t < n + 1 → lf t = 0 ∨ ∃ v, v ≤ t ∧ lf t = r * (v : Int) - fa v) {t : Nat} (ht : t < n + 1) : pq a b r t ≤ mxf 0 (fun t => fb t - lf t) (n + 1) := by
  obtain ⟨p0, ps⟩ := pq_sum (M := 10000) hr (by omega) ha hb t (by omega)
  have e1 := lq_wait (fun j => a j + b j) r t
  have e2 := lq_wait a r t
  have l0 := (lq_net a r 0 (by omega) t).2
  have m0 := mxf_ge (s := 0) (e := fun t => fb t - lf t) (m := n + 1)
  rcases mxf_at (s := 0) (e := fun s => net (fun j => a j + b j) r t - net (fun j => a j + b j) r s) (m := t + 1) with h | ⟨s, hs, h⟩
  · rw [h] at e1
    have := m0.1
    omega
  · rw [h] at e1
    have g := (mxf_ge (s := 0) (e := fun s => net a r t - net a r s) (m := t + 1)).2
    rw [e2] at g
    have k : fb (t - s) - lf (t - s) ≤ _ := m0.2 (t - s) (by omega)
    have n1 : ∀ j, net (fun j => a j + b j) r j = net a r j + sumT b j := fun j => by unfold net; rw [sumT_both]; omega
    have hB1 := hB t s (by omega) ht
    have e1' : net (fun j => a j + b j) r t - net (fun j => a j + b j) r s = lq (fun j => a j + b j) r 0 t := e1
    rw [n1, n1] at e1'
    rcases hlf (t - s) (by omega) with l | ⟨v, hv, l⟩
    · have g1 : net a r t - net a r s ≤ _ := g s hs
      omega
    · have g1 : net a r t - net a r (s + v) ≤ _ := g (s + v) (by omega)
      have hA1 := hA (s + v) s (by omega) (by omega)
      rw [show s + v - s = v by omega] at hA1
      have e3 : net a r (s + v) - net a r s = sumT a (s + v) - sumT a s - r * (v : Int) := by
        unfold net
        rw [Int.natCast_add, Int.mul_add]; omega
      omega
theorem first_back {xs ys fa fb : List Int} {r : Int} {n : Nat} (hx : xs.length = n) (hy : ys.length = n) (tx : traceErr xs = 0) (ty : traceErr ys = 0) (r0 : 0 ≤ r)
    (la : fa.length = n + 1) (lb : fb.length = n + 1) (hA : FitsC (addL xs) fa (n + 1)) (hB : FitsC (addL ys) fb (n + 1)) :
    backV (addL ys) (addL (tab n (sev (gi xs) (gi ys) r))) ≤ backV fb (lessL (tab (n + 1) (lineV r 0)) fa) := by
  have ox := (trace_ok tx).2; have oy := (trace_ok ty).2
  have ox' : ∀ j, j < n → 0 ≤ gi xs j ∧ gi xs j ≤ 10000 := fun j hj => ox j (by omega)
  have oy' : ∀ j, j < n → 0 ≤ gi ys j ∧ gi ys j ≤ 10000 := fun j hj => oy j (by omega)
  unfold backV
  rw [addL_len, hy, lb]
  refine mxf_le mxf_ge.1 fun t ht => ?_
  rw [addL_gi hy ht, addL_gi (n := n) (tab_length _ _) ht, sumT_congr (a := gi (tab n (sev (gi xs) (gi ys) r))) (b := sev (gi xs) (gi ys) r) (fun j hj => gi_tab (by omega)), sev_sum]
  refine first_law (fa := gi fa) (fb := gi fb) (lf := gi (lessL (tab (n + 1) (lineV r 0)) fa)) r0 ox' oy' (fun t s hs ht => ?_) (fun t s hs ht => ?_) (fun t ht => ?_) ht
  · have := hA t s hs ht
    rwa [addL_gi hx ht, addL_gi hx (by omega)] at this
  · have := hB t s hs ht
    rwa [addL_gi hy ht, addL_gi hy (by omega)] at this
  · unfold lessL
    rw [tab_length, gi_tab ht]
    unfold lessV
    rcases mxf_at (s := 0) (e := fun s => gi (tab (n + 1) (lineV r 0)) s - gi fa s) (m := t + 1) with h | ⟨v, hv, h⟩
    · exact .inl h
    · refine .inr ⟨v, by omega, ?_⟩
      rw [h]
      show gi (tab (n + 1) (lineV r 0)) v - gi fa v = _
      rw [gi_tab (by omega)]
      unfold lineV
      rw [show max 0 ((v : Int) - 0) = (v : Int) by omega]
theorem sev_trace {xs ys : List Int} {r : Int} {n : Nat} (hx : xs.length = n) (hy : ys.length = n) (tx : traceErr xs = 0) (ty : traceErr ys = 0) (r0 : 0 ≤ r) (r1 : r ≤ 10000) : traceErr (tab n (sev (gi xs) (gi ys) r)) = 0 := by
  obtain ⟨l1, ox⟩ := trace_ok tx
  obtain ⟨l2, oy⟩ := trace_ok ty
  have ox' : ∀ j, j < n → 0 ≤ gi xs j ∧ gi xs j ≤ 10000 := fun j hj => ox j (by omega)
  have oy' : ∀ j, j < n → 0 ≤ gi ys j ∧ gi ys j ≤ 10000 := fun j hj => oy j (by omega)
  refine trace_of (by rw [tab_length]; omega) fun j hj => ?_
  rw [tab_length] at hj
  rw [gi_tab hj]
  have h1 := (pq_sum (M := 10000) r0 (by omega) ox' oy' j (by omega)).1
  have h2 := gov_bd r0 (by omega) ox' hj
  have h3 := oy' j hj
  unfold sev
  omega
theorem less_curve {r : Int} {n : Nat} {xs : List Int} (h0 : 0 < n) (h1 : n ≤ 61) (hf : fits (lessL (tab n (lineV r 0)) xs)) : curveErr (lessL (tab n (lineV r 0)) xs) = 0 := by
  unfold lessL at hf ⊢
  rw [tab_length] at hf ⊢
  refine curve_tab h0 h1 (fun j hj => ?_) (fun i j hij hj => ?_)
  · have := hf j (by rw [tab_length]; exact hj)
    rw [gi_tab hj] at this
    exact ⟨mxf_ge.1, this⟩
  · unfold lessV
    exact mxf_le mxf_ge.1 fun u hu => mxf_ge.2 u (by omega)
end Go.Proofs.Ytgbccpfehcjhbaa
