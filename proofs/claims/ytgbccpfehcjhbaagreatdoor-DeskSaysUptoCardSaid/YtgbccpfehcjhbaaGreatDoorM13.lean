/- The contract of slices.Equal at []int: it answers whether the two lists are one. No conditions. -/
import Derived.Test.YtgbccpfehcjhbaaGreatDoorRows
import Derived.Test.YtgbccpfehcjhbaaGreatDoorM01
import Derived.Deep.QuietTactic
import Derived.BigQuiet
import Derived.WalkSmall
import Derived.Test.YtgbccpfehcjhbaaGreatDoorM11
import Derived.Test.YtgbccpfehcjhbaaGreatDoorM12
namespace Go.Proofs.YtgbccpfehcjhbaaGreatDoor
open Go Go.RowKit

theorem gi_ne_of {xs ys : List Int} {k : Nat} (h : gi xs k ≠ gi ys k) : xs ≠ ys := fun e => h (by rw [e])
theorem eq_of_all {xs ys : List Int} {n : Nat} (h1 : xs.length = n) (h2 : ys.length = n) (h : ∀ j, j < n → gi xs j = gi ys j) : xs = ys :=
  list_ext_gi (by omega) (fun j hj => h j (by omega))

set_option maxHeartbeats 400000 in
theorem slices_Equal {w : World} {p q : Option Addr} {n c m d : Nat} {xs ys : List Int} (h : SI w p n c xs) (g : SI w q m d ys) {r : Bool} (he : decide (xs = ys) = r) :
    Calls Tryz.prog 31 #[.slice p n c, .slice q m d] w fun e w' => e = .returned (.bool r) ∧ Below w.heap.size w w' := by
  obtain ⟨hl, hm, hr⟩ := h
  obtain ⟨gl, gm, gr⟩ := g
  have HE := Lib.hid he; clear he
  have HL := Lib.hid hl; clear hl
  have GL := Lib.hid gl; clear gl
  by_cases h0 : n = m
  · subst h0
    go_enter Tryz.func31, Tryz.ntmps31
    go_wp2
    go_loopw [13] (fun i wr => ∃ k : Nat, k ≤ n ∧ i = .int .i64 k ∧ Below w.heap.size w wr ∧ ∀ j, j < k → gi xs j = gi ys j) (fun i _ => n - (intOf i).toNat)
    case atStart => exact ⟨0, Nat.zero_le _, rfl, Below.refl _ _, fun j hj => by omega⟩
    case round =>
      obtain ⟨k, hk, rfl, hb, H⟩ := hrel
      have HH := Lib.hid H; clear H
      by_cases hkn : k < n
      · obtain ⟨b, off, rfl, hlt, hc⟩ := hr (by omega)
        obtain ⟨b', off', rfl, hlt', hc'⟩ := gr (by omega)
        have hcell : wr.cell? ⟨b, off + k, none⟩ = some (.int .i64 (gi xs k)) := (bdeep hb hlt _).trans (hc k hkn)
        have hcell' : wr.cell? ⟨b', off' + k, none⟩ = some (.int .i64 (gi ys k)) := (bdeep hb hlt' _).trans (hc' k hkn)
        have HB := Lib.hid hb
        clear hc hc' hr gr hb
        by_cases heq : gi xs k = gi ys k
        · have hd : (gi xs k == gi ys k) = true := by simp [heq]
          have HQ := Lib.hid heq; clear heq
          go_wp2
          go_quiet (fail)
          go_wp2
          go_roundw
          case rel => exact ⟨k + 1, by omega, by go_num, below_drewN HB.out _, fun j hj => by rcases Nat.lt_succ_iff_lt_or_eq.1 hj with h | rfl; exact HH.out j h; exact HQ.out⟩
          case measure => simp [intOf]; omega
        · have hd : (gi xs k == gi ys k) = false := by simp [heq]
          go_wp2
          go_quiet (fail)
          go_wp2
          go_ret
          exact ⟨ret_bool (by rw [← HE.out]; simpa using gi_ne_of heq), below_drewN HB.out _⟩
      · have hkk : n = k := by omega
        subst hkk
        go_wp2
        go_ret
        exact ⟨ret_bool (by rw [← HE.out]; simpa using eq_of_all HL.out GL.out HH.out), hb⟩
  · have hb : ((n : Int) == (m : Int)) = false := by simp; omega
    go_enter Tryz.func31, Tryz.ntmps31
    go_wp2
    go_ret
    exact ⟨ret_bool (by rw [← HE.out]; simp; intro e; apply h0; rw [← HL.out, ← GL.out, e]), Below.refl _ _⟩
end Go.Proofs.YtgbccpfehcjhbaaGreatDoor

/- The contract of headtop.begun, and the plain laws of two servers in series (TopChain). No conditions beyond what each theorem says. -/
namespace Go.Proofs.YtgbccpfehcjhbaaGreatDoor
open Go Go.RowKit

theorem FitOf.zero {er : Int} {Y L : List Int} (h : FitOf er Y L 0) : er = 0 ∧ fits Y ∧ L = Y := by
  rcases h with ⟨a, b, _⟩ | ⟨_, _, a, _⟩ | ⟨a, b, _, c⟩
  · exact absurd b.symm a
  · omega
  · exact ⟨a, b, c⟩
theorem SI.lit2 (w : World) (a b : Int) : SI (w.alloc (.cells #[.int .i64 a, .int .i64 b] 3)) (some ⟨w.heap.size, 0, none⟩) 2 2 [a, b] := by
  have h : OwnI (w.alloc (.cells #[.int .i64 a, .int .i64 b] 3)) w.heap.size (some ⟨w.heap.size, 0, none⟩) 2 2 [a, b] := ⟨World.ownsRow_lit w #[.int .i64 a, .int .i64 b] 2 (Nat.le_refl _) (by unfold maxLen; omega) rfl, by omega⟩
  exact h.si
theorem begun_conv : convL [0, 4] [1, 2] = [1, 2] := by decide
theorem begun_both : bothErr [0, 4] [1, 2] = 0 := by decide

set_option maxHeartbeats 1000000 in
theorem top_begun {w : World} :
    Calls Tryz.prog 10 #[] w fun e w' => e = .returned (.bool true) ∧ Below w.heap.size w w' := by
  have h1 := SI.lit2 w 0 4
  have hb1 := (Below.refl w.heap.size w).alloc (Nat.le_refl _) (.cells #[.int .i64 0, .int .i64 4] 3)
  have h2 := SI.lit2 (w.alloc (.cells #[.int .i64 0, .int .i64 4] 3)) 1 2
  have hb2 := hb1.alloc hb1.size (.cells #[.int .i64 1, .int .i64 2] 3)
  have h1' := h1.below ((Below.refl _ (w.alloc (.cells #[.int .i64 0, .int .i64 4] 3))).alloc (Nat.le_refl _) (.cells #[.int .i64 1, .int .i64 2] 3))
  rw [show (w.alloc (.cells #[.int .i64 0, .int .i64 4] 3)).heap.size = w.heap.size + 1 by simp] at h2
  clear h1
  go_enter Tryz.func10, Tryz.ntmps10
  go_wp2_with fail
  generalize ((w.alloc (.cells #[.int .i64 0, .int .i64 4] 3)).alloc (.cells #[.int .i64 1, .int .i64 2] 3)) = W at *
  refine (conv_Of h1' h2 begun_both).mono ?_; rintro e w1 ⟨p1, n1, c1, L1, e1, rfl, ho1, hb3, hF⟩
  rw [begun_conv] at hF
  obtain ⟨rfl, rfl⟩ : e1 = 0 ∧ L1 = [1, 2] := by
    rcases hF with ⟨a, _⟩ | ⟨_, a, _⟩ | ⟨_, _, a, b⟩
    · exact absurd rfl a
    · exact absurd (fun j hj => by
        have hj : j < 2 := hj
        rcases (show j = 0 ∨ j = 1 by omega) with rfl | rfl <;> simp [gi]) a
    · exact ⟨a, b⟩
  have s1 := ho1.si.below ((Below.refl _ w1).alloc (Nat.le_refl _) (.cells #[.int .i64 1, .int .i64 2] 3))
  have hb4 := hb2.trans (hb3.mono hb2.size)
  have hb5 := hb4.alloc hb4.size (.cells #[.int .i64 1, .int .i64 2] 3)
  clear ho1 hF
  go_wp2_with fail
  refine (slices_Equal s1 (SI.lit2 w1 1 2) (r := true) (by simp)).mono ?_; rintro e w2 ⟨rfl, hb6⟩
  have hb7 := hb5.trans (hb6.mono hb5.size)
  go_wp2
  go_ret
  exact ⟨rfl, hb7⟩

/-! the plain laws of the chain -/
theorem chain_assoc {f b c : List Int} {n : Nat} (hf : Curve f n) (hb : Curve b n) (hc : Curve c n) : convL (convL f b) c = convL f (convL b c) := by
  unfold convL
  rw [tab_length, hf.len, hb.len]
  refine tab_congr fun t ht => ?_
  rw [cv_congr (n := n) (f' := convv (gi f) (gi b)) (g' := gi c) (fun j hj => gi_tab hj) (fun _ _ => rfl) ht,
    cv_congr (n := n) (f := gi f) (g := gi (tab n (convv (gi b) (gi c)))) (f' := gi f) (g' := convv (gi b) (gi c)) (fun _ _ => rfl) (fun j hj => gi_tab hj) ht]
  exact cv_assoc (M := 1000000) (by omega) hf.bd hb.bd hc.bd ht
theorem chain_curve {f b : List Int} {n : Nat} (hf : Curve f n) (hb : Curve b n) (hfit : fits (convL f b)) : curveErr (convL f b) = 0 := by
  have h0 := hfit
  unfold convL at h0 ⊢
  rw [hf.len] at h0 ⊢
  refine curve_tab hf.pos hf.le (fun j hj => ?_) (fun i j hij hj => cv_mono (M := 1000000) (by omega) hf.bd hb.bd hf.mono hb.mono i j hij hj)
  have h1 := h0 j (by rw [tab_length]; exact hj)
  rw [gi_tab hj] at h1
  exact ⟨(cv_bd (M := 1000000) (K := 1000000) (by omega) (by omega) hf.bd hb.bd j hj).1, h1⟩
theorem dcv_curve {l b : List Int} {n : Nat} (hl : Curve l n) (hb : Curve b n) : curveErr (dcvL l b) = 0 := by
  unfold dcvL
  rw [hl.len]
  refine curve_tab hl.pos hl.le (fun j hj => ⟨mxf_ge.1, mxf_le (by omega) fun u hu => ?_⟩) (fun i j hij hj => ?_)
  · have a := hl.bd (j + u) (by omega)
    have c := hb.bd u (by omega)
    unfold dce; omega
  · have hj2 := mxf_ge (s := 0) (e := dce l b j) (m := n - j)
    unfold dcv
    rcases mxf_at (s := 0) (e := dce l b i) (m := n - i) with h | ⟨u, hu, h⟩
    · rw [h]; exact hj2.1
    · rw [h]
      by_cases hd : j - i ≤ u
      · have a := hj2.2 (u - (j - i)) (by omega)
        have c := hb.mono (u - (j - i)) u (by omega) (by omega)
        have a2 : dce l b j (u - (j - i)) = gi l (j + (u - (j - i))) - gi b (u - (j - i)) := rfl
        have a3 : dce l b i u = gi l (i + u) - gi b u := rfl
        rw [show j + (u - (j - i)) = i + u by omega] at a2
        omega
      · have a := hj2.2 0 (by omega)
        have c := hb.mono 0 u (by omega) (by omega)
        have e := hl.mono (i + u) (j + 0) (by omega) (by omega)
        have a2 : dce l b j 0 = gi l (j + 0) - gi b 0 := rfl
        have a3 : dce l b i u = gi l (i + u) - gi b u := rfl
        omega
theorem conv_gi {f b : List Int} {n t : Nat} (hf : Curve f n) (ht : t < n) : gi (convL f b) t = convv (gi f) (gi b) t := convL_gi (by rw [hf.len]; exact ht)
theorem chain_fits {f l b : List Int} {n : Nat} (hf : Curve f n) (hl : Curve l n) (hb : Curve b n) (h : FitsC f l n) (h0 : gi b 0 = 0) : FitsC (convL f b) (dcvL l b) n := by
  intro t s hs ht
  rw [conv_gi hf ht, conv_gi hf (show s < n by omega)]
  obtain ⟨u, hu, e⟩ := cv_at (M := 1000000) (by omega) hf.bd hb.bd (show s < n by omega)
  have a := cv_le (f := gi f) (g := gi b) (t := t) (s := t - s + u) (by omega)
  rw [show t - (t - s + u) = s - u by omega] at a
  have c := h (t - s + u) u (by omega) (by omega)
  rw [show t - s + u - u = t - s by omega] at c
  have d := (mxf_ge (s := 0) (e := dce l b (t - s)) (m := n - (t - s))).2 0 (by omega)
  have e2 : gi (dcvL l b) (t - s) = mxf 0 (dce l b (t - s)) (n - (t - s)) := by unfold dcvL; rw [hl.len, gi_tab (by omega)]; rfl
  rw [e2]
  have d2 : dce l b (t - s) 0 = gi l (t - s) - gi b 0 := rfl
  omega
theorem chain_back {f l o : List Int} {n : Nat} (hf : Curve f n) (hl : Curve l n) (ho : Curve o n) (h : FitsC f l n) : backV f (convL f o) ≤ backV l o := by
  unfold backV
  rw [hf.len, hl.len]
  have hm := mxf_ge (s := 0) (e := fun t => gi l t - gi o t) (m := n)
  refine mxf_le hm.1 fun t ht => ?_
  obtain ⟨s, hs, e⟩ := cv_at (M := 1000000) (by omega) hf.bd ho.bd ht
  have a := h t s hs ht
  have c := hm.2 (t - s) (by omega)
  rw [conv_gi hf ht, e]
  omega
theorem chain_by {f l o : List Int} {n k : Nat} (hf : Curve f n) (ho : Curve o n) (h : FitsC f l n) (hb : ByP n k l o) : ByP n k f (convL f o) := by
  intro t ht
  rw [conv_gi hf ht]
  obtain ⟨s, hs, e⟩ := cv_at (M := 1000000) (by omega) hf.bd ho.bd ht
  rw [e]
  by_cases hst : s ≤ t
  · have a := h t s hst (by omega)
    have c := hb (t - s) (by omega)
    rw [show t - s + k = t + k - s by omega] at c
    omega
  · have a := hf.mono t s (by omega) (by omega)
    have c := ho.bd (t + k - s) (by omega)
    omega
theorem chain_delay {f l o : List Int} {n kl kx : Nat} (hf : Curve f n) (ho : Curve o n) (h : FitsC f l n) (hl : DelayOf n l o kl) (hx : DelayOf n f (convL f o) kx) (hk : kl < n) : kx ≤ kl := by
  apply Nat.not_lt.1
  intro hlt
  exact hx.2.1 kl hlt (chain_by hf ho h (hl.2.2 hk))
/-- what is known when all five calls went well -/
def Chain (f l b c D X O Y : List Int) (n : Nat) : Prop :=
  Curve f n ∧ Curve l n ∧ Curve b n ∧ Curve c n ∧ Curve O n ∧ Curve D n ∧ Curve X n ∧ D = convL f b ∧ O = convL b c ∧ X = convL f O ∧ Y = X
theorem chain_of {f l b c D X O Y : List Int} {n : Nat} (hn : f.length = n) (h0 : bothErr f l = 0) (h1 : FitOf (bothErr f b) (convL f b) D 0) (h2 : FitOf (bothErr D c) (convL D c) X 0) (h3 : FitOf (bothErr b c) (convL b c) O 0) (h4 : FitOf (bothErr f O) (convL f O) Y 0) : Chain f l b c D X O Y n := by
  obtain ⟨a1, f1, rfl⟩ := h1.zero
  obtain ⟨a2, f2, rfl⟩ := h2.zero
  obtain ⟨a3, f3, rfl⟩ := h3.zero
  obtain ⟨a4, f4, rfl⟩ := h4.zero
  obtain ⟨cf, cl, e0⟩ := bothErr_ok h0
  obtain ⟨_, cb, e1⟩ := bothErr_ok a1
  obtain ⟨cD, cc, _⟩ := bothErr_ok a2
  obtain ⟨_, _, e3⟩ := bothErr_ok a3
  obtain ⟨_, cO, _⟩ := bothErr_ok a4
  have hf := curve_of cf hn
  have hl := curve_of cl (show l.length = n by omega)
  have hb := curve_of cb (show b.length = n by omega)
  have hc := curve_of cc (show c.length = n by omega)
  have hO := curve_of cO (show (convL b c).length = n by rw [convL_len]; omega)
  have hD := curve_of cD (show (convL f b).length = n by rw [convL_len]; omega)
  have hX := curve_of (chain_curve hD hc f2) (show (convL (convL f b) c).length = n by rw [convL_len, convL_len]; omega)
  exact ⟨hf, hl, hb, hc, hO, hD, hX, rfl, rfl, chain_assoc hf hb hc, (chain_assoc hf hb hc).symm⟩
/-- the errors of the later calls -/
theorem chain_errs {f l b c D X O Y : List Int} {n : Nat} (h : Chain f l b c D X O Y n) (h0 : bothErr f l = 0) (h1 : FitOf (bothErr f b) (convL f b) D 0) (h2 : FitOf (bothErr D c) (convL D c) X 0) (h4 : FitOf (bothErr f O) (convL f O) Y 0) :
    bothErr l b = 0 ∧ bothErr l O = 0 ∧ bothErr f X = 0 ∧ bothErr D (dcvL l b) = 0 := by
  obtain ⟨g1, g2, g3, g4, g5, g6, g7, g8, g9, g10, g11⟩ := h
  obtain ⟨cf, cl, _⟩ := bothErr_ok h0
  obtain ⟨_, cb, _⟩ := bothErr_ok h1.zero.1
  obtain ⟨cD, cc, _⟩ := bothErr_ok h2.zero.1
  obtain ⟨_, cO, _⟩ := bothErr_ok h4.zero.1
  refine ⟨both_mk cl cb (by rw [g2.len, g3.len]), both_mk cl cO (by rw [g2.len, g5.len]), both_mk cf ?_ (by rw [g1.len, g7.len]), both_mk cD (dcv_curve g2 g3) (by unfold dcvL; rw [tab_length, g6.len, g2.len])⟩
  rw [g10]
  exact chain_curve g1 g5 h4.zero.2.1
end Go.Proofs.YtgbccpfehcjhbaaGreatDoor
