/- The contract of shaper.Of, and the walk of headlaw.ShaperSays (P27): it returns true and changes nothing that was there. No conditions. -/
import Derived.Test.YtjlfefaifeanmaaClosureOf
import Derived.Test.YtjlfefaifeanmaaConv
import Derived.Test.YtjlfefaifeanmaaCurveMk
import Derived.Test.YtjlfefaifeanmaaTold
namespace Go.Proofs.Ytjlfefaifeanmaa
open Go Go.RowKit

theorem cl_mono1 {f : Nat → Int} {n : Nat} (hb : ∀ j, j < n → 0 ≤ f j ∧ f j ≤ 1000000) (hm : ∀ i j, i ≤ j → j < n → f i ≤ f j) : ∀ t, t + 1 < n → cl f t ≤ cl f (t + 1) := by
  intro t
  induction t using Nat.strongRecOn with
  | _ t ih =>
    intro ht
    obtain ⟨s, hs, e⟩ := cl_last hb t ht
    have hf := hb (s + 1) (by omega)
    by_cases h0 : t = 0
    · subst h0
      rw [cl_zero]
      exact (cl_bd hb (0 + 1) ht).1
    · by_cases hst : s = t
      · subst hst
        rw [Nat.sub_self, cl_zero] at e
        have h1 := (cl_bd hb s (by omega)).2.2 (by omega)
        have h2 := hm s (s + 1) (by omega) (by omega)
        omega
      · obtain ⟨u, rfl⟩ : ∃ u, t = u + 1 := ⟨t - 1, by omega⟩
        have h1 := ih (u - s) (by omega) (by omega)
        have h2 := cl_le f u s (by omega)
        rw [show u + 1 - s = u - s + 1 by omega] at e
        omega
theorem cl_mono {f : Nat → Int} {n : Nat} (hb : ∀ j, j < n → 0 ≤ f j ∧ f j ≤ 1000000) (hm : ∀ i j, i ≤ j → j < n → f i ≤ f j) (i : Nat) : ∀ j, i ≤ j → j < n → cl f i ≤ cl f j
  | 0, h, _ => by obtain rfl : i = 0 := by omega
                  exact Int.le_refl _
  | j + 1, h, hj => by
    by_cases e : i = j + 1
    · subst e; exact Int.le_refl _
    · have a := cl_mono hb hm i j (by omega) (by omega)
      have b := cl_mono1 hb hm j hj
      omega
theorem cls_curve {xs : List Int} {n : Nat} (hx : Curve xs n) : curveErr (clsL xs) = 0 := by
  unfold clsL
  rw [hx.len]
  exact curve_tab hx.pos hx.le (fun j hj => by have := cl_bd hx.bd j hj; omega) (fun i j hij hj => cl_mono hx.bd hx.mono i j hij hj)

set_option maxHeartbeats 1000000 in
theorem shaper_Of_bad {w : World} {p q : Option Addr} {n m c d : Nat} {xs ys : List Int} (h : SI w p n c xs) (g : SI w q m d ys) {er : Int} (he : bothErr xs ys = er) (h0 : er ≠ 0) :
    Calls Try.prog 19 #[.slice p n c, .slice q m d] w fun e w' => e = .returned (.tuple #[.slice none 0 0, .int .i64 er]) ∧ w = w' := by
  have hb := bne_false_of h0
  go_enter Try.func19, Try.ntmps19
  go_wp2_with fail
  refine (curve_Both h g he).mono ?_; rintro e w' ⟨rfl, rfl⟩
  go_wp2
  go_ret2
  exact ⟨rfl, rfl⟩

set_option maxHeartbeats 1000000 in
theorem shaper_Of_ok {w : World} {p q : Option Addr} {n c d : Nat} {xs ys : List Int} (h : SI w p n c xs) (g : SI w q n d ys) (he : bothErr xs ys = 0) :
    Calls Try.prog 19 #[.slice p n c, .slice q n d] w (RetL w (FitOf 0 (convL xs (clsL ys)))) := by
  obtain ⟨h1, h2, h3⟩ := bothErr_ok he
  have hy := curve_of h2 g.1
  have HE := Lib.hid he; have H2 := Lib.hid h2
  have HB := Lib.hid (both_mk h1 (cls_curve hy) (show xs.length = (clsL ys).length by unfold clsL; rw [tab_length]; exact h3))
  have HFI := Lib.hid (closure_fits hy)
  clear he h1 h2 h3 hy
  go_enter Try.func19, Try.ntmps19
  go_wp2_with fail
  refine (curve_Both h g HE.out).mono ?_; rintro e w' ⟨rfl, rfl⟩
  go_wp2_with fail
  refine (closure_Of g H2.out).mono ?_; rintro e w1 ⟨p1, n1, c1, L1, e1, rfl, ho1, hb1, hF⟩
  obtain ⟨rfl, rfl⟩ : e1 = 0 ∧ L1 = clsL ys := by
    rcases hF with ⟨a, _⟩ | ⟨_, a, _⟩ | ⟨_, _, a, b⟩
    · exact absurd rfl a
    · exact absurd HFI.out a
    · exact ⟨a, b⟩
  have h1 := h.below hb1
  have s1 := ho1.si
  clear ho1 hF h g
  go_wp2_with fail
  refine (conv_Of h1 s1 HB.out).mono ?_; rintro e w2 ⟨p2, n2, c2, L2, e2, rfl, ho2, hb2, hF2⟩
  have HF := Lib.hid hF2
  have hb3 := hb1.trans (hb2.mono hb1.size)
  have ho3 := ho2.base hb1.size
  clear hF2
  go_wp2
  go_ret2
  exact ⟨_, _, _, _, _, rfl, ho3, hb3, HF.out⟩

set_option maxHeartbeats 1000000 in
theorem shaperSays_walk {w : World} {p q : Option Addr} {n m c d : Nat} {xs ys : List Int} (h : SI w p n c xs) (g : SI w q m d ys) :
    Calls Try.prog 4 #[.slice p n c, .slice q m d] w fun e w' => e = .returned (.bool true) ∧ Below w.heap.size w w' := by
  obtain ⟨er, he⟩ : ∃ er, bothErr xs ys = er := ⟨_, rfl⟩
  by_cases h0 : er = 0
  · subst h0
    obtain ⟨h1, h2, h3⟩ := bothErr_ok he
    obtain rfl : n = m := by rw [← h.1, ← g.1, h3]
    have hx := curve_of h1 h.1
    have hy := curve_of h2 g.1
    have hn := hx.le
    have hpos := hx.pos
    have HE := Lib.hid he; have HX := Lib.hid hx; have HY := Lib.hid hy
    have HC := Lib.hid (curve_of (cls_curve hy) (show (clsL ys).length = n by unfold clsL; rw [tab_length]; exact g.1))
    clear he h1 h2 h3 hx hy
    go_enter Try.func4, Try.ntmps4
    go_wp2_with fail
    refine (shaper_Of_ok h g HE.out).mono ?_; rintro e w1 ⟨p1, n1, c1, L, e1, rfl, ho, hb, hF⟩
    have HF := Lib.hid hF
    have s1 := ho.si
    have h1 := h.below hb; have g1 := g.below hb
    clear hF ho h g
    go_wp2_with fail
    refine (ref_Curves h1 g1 HE.out).mono ?_; rintro e w' ⟨rfl, rfl⟩
    go_wp2_with fail
    refine (ref_Closure g1 HY.out).mono ?_; rintro e w2 ⟨p2, n2, c2, rfl, ho2, hb12⟩
    have hn2 := ho2.len
    rw [HC.out.len] at hn2
    subst hn2
    have s2 := ho2.si
    have s1 := s1.below hb12
    have h2 := h1.below hb12
    have hb2 := hb.trans (hb12.mono hb.size)
    clear ho2 hb12 h1 g1
    go_wp2_with fail
    refine (ref_Conv h2 s2 hpos (by omega) (M := 1000000) (by omega) HX.out.bd HC.out.bd).mono ?_; rintro e w3 ⟨p3, n3, c3, rfl, ho3, hb23⟩
    have hb3 := hb2.trans (hb23.mono hb2.size)
    have s3 := ho3.si
    go_wp2_with fail
    refine (told_yes (s1.below hb23) s3 HF.out).mono ?_; rintro e w4 ⟨rfl, hb34⟩
    have hb4 := hb3.trans (hb34.mono hb3.size)
    go_wp2
    go_ret
    exact ⟨rfl, hb4⟩
  · have HE := Lib.hid he; clear he
    have hbf := bne_false_of h0
    go_enter Try.func4, Try.ntmps4
    go_wp2_with fail
    refine (shaper_Of_bad h g HE.out h0).mono ?_; rintro e w' ⟨rfl, rfl⟩
    go_wp2_with fail
    refine (ref_Curves h g HE.out).mono ?_; rintro e w' ⟨rfl, rfl⟩
    go_wp2_with fail
    refine (told_yes (SI.nil0 _) (SI.nil0 _) (.inl ⟨h0, rfl, rfl⟩)).mono ?_; rintro e w2 ⟨rfl, hb2⟩
    go_wp2
    go_ret
    exact ⟨rfl, hb2⟩
end Go.Proofs.Ytjlfefaifeanmaa
