/- The walk of headlaw.TraceTells: it returns true and changes nothing that was there. No conditions. -/
import Derived.Test.YtjlfefaifeanmaaTraceFits
import Derived.Test.YtjlfefaifeanmaaTold
namespace Go.Proofs.Ytjlfefaifeanmaa
open Go Go.RowKit

theorem FitOf.nilT {er : Int} {Y L : List Int} {e1 : Int} (h : FitOf er Y L e1) (h0 : er ≠ 0) : FitOf er [] L e1 := by
  rcases h with h | h | h
  · exact .inl h
  · exact absurd h.1 h0
  · exact absurd h.1 h0

set_option maxHeartbeats 1600000 in
theorem traceTells_walk {w : World} {p q : Option Addr} {n m c d : Nat} {xs ys : List Int} (h : SI w p n c xs) (g : SI w q m d ys) :
    Calls Try.prog 5 #[.slice p n c, .slice q m d] w fun e w' => e = .returned (.bool true) ∧ Below w.heap.size w w' := by
  obtain ⟨e1, h1⟩ : ∃ e1, curveErr xs = e1 := ⟨_, rfl⟩
  obtain ⟨e2, h2⟩ : ∃ e2, bothErr xs ys = e2 := ⟨_, rfl⟩
  by_cases z1 : e1 = 0
  · subst z1
    have HX := Lib.hid (curve_of h1 h.1)
    have H1 := Lib.hid h1; clear h1
    by_cases z2 : e2 = 0
    · subst z2
      obtain rfl : n = m := by rw [← h.1, ← g.1]; exact (bothErr_ok h2).2.2
      obtain ⟨r, hr⟩ := fitsC_bool xs ys n
      have H2 := Lib.hid h2; have HR := Lib.hid hr; clear h2 hr
      have hz : (r == r) = true := by simp
      go_enter Try.func5, Try.ntmps5
      go_wp2_with fail
      refine (trace_Env h H1.out).mono ?_; rintro e w1 ⟨p1, n1, c1, L1, ea, rfl, ho1, hb1, hF⟩
      have HF := Lib.hid hF
      have s1 := ho1.si
      have h1 := h.below hb1; have g1 := g.below hb1
      clear hF ho1 h g
      go_wp2_with fail
      refine (trace_Fits_ok h1 g1 H2.out HR.out).mono ?_; rintro e w2 ⟨rfl, hb12⟩
      have h2 := h1.below hb12; have g2 := g1.below hb12; have s1 := s1.below hb12
      have hb2 := hb1.trans (hb12.mono hb1.size)
      clear h1 g1 hb12 hb1
      go_wp2_with fail
      refine (ref_Curve h2 H1.out).mono ?_; rintro e w' ⟨rfl, rfl⟩
      go_wp2_with fail
      refine (ref_Curves h2 g2 H2.out).mono ?_; rintro e w' ⟨rfl, rfl⟩
      go_wp2_with fail
      refine (ref_Deconv h2 h2 HX.out HX.out).mono ?_; rintro e w3 ⟨p3, n3, c3, rfl, ho3, hb23⟩
      have h3 := h2.below hb23; have g3 := g2.below hb23; have s1 := s1.below hb23
      have hb3 := hb2.trans (hb23.mono hb2.size)
      have s3 := ho3.si
      clear h2 g2 hb23 hb2 ho3
      go_wp2_with fail
      refine (told_yes s1 s3 HF.out).mono ?_; rintro e w4 ⟨rfl, hb34⟩
      have h4 := h3.below hb34; have g4 := g3.below hb34
      have hb4 := hb3.trans (hb34.mono hb3.size)
      clear h3 g3 hb34 hb3 s1 s3
      go_wp2_with fail
      refine (ref_Smooth h4 g4 HX.out HR.out).mono ?_; rintro e w5 ⟨rfl, hb45⟩
      have hb5 := hb4.trans (hb45.mono hb4.size)
      go_wp2
      go_ret
      exact ⟨rfl, hb5⟩
    · have hbf := bne_false_of z2
      have H2 := Lib.hid h2; clear h2
      go_enter Try.func5, Try.ntmps5
      go_wp2_with fail
      refine (trace_Env h H1.out).mono ?_; rintro e w1 ⟨p1, n1, c1, L1, ea, rfl, ho1, hb1, hF⟩
      have HF := Lib.hid hF
      have s1 := ho1.si
      have h1 := h.below hb1; have g1 := g.below hb1
      clear hF ho1 h g
      go_wp2_with fail
      refine (trace_Fits_bad h1 g1 H2.out z2).mono ?_; rintro e w' ⟨rfl, rfl⟩
      go_wp2_with fail
      refine (ref_Curve h1 H1.out).mono ?_; rintro e w' ⟨rfl, rfl⟩
      go_wp2_with fail
      refine (ref_Curves h1 g1 H2.out).mono ?_; rintro e w' ⟨rfl, rfl⟩
      go_wp2_with fail
      refine (ref_Deconv h1 h1 HX.out HX.out).mono ?_; rintro e w3 ⟨p3, n3, c3, rfl, ho3, hb23⟩
      have hb3 := hb1.trans (hb23.mono hb1.size)
      have s3 := ho3.si
      have s1 := s1.below hb23
      go_wp2_with fail
      refine (told_yes s1 s3 HF.out).mono ?_; rintro e w4 ⟨rfl, hb34⟩
      have hb4 := hb3.trans (hb34.mono hb3.size)
      go_wp2
      go_ret
      exact ⟨rfl, hb4⟩
  · obtain rfl : e1 = e2 := by rw [← h2]; unfold bothErr; rw [if_pos (by rw [h1]; exact z1), h1]
    have hbf := bne_false_of z1
    have H1 := Lib.hid h1; have H2 := Lib.hid h2; clear h1 h2
    go_enter Try.func5, Try.ntmps5
    go_wp2_with fail
    refine (trace_Env h H1.out).mono ?_; rintro e w1 ⟨p1, n1, c1, L1, ea, rfl, ho1, hb1, hF⟩
    have HF := Lib.hid (hF.nilT z1)
    have s1 := ho1.si
    have h1 := h.below hb1; have g1 := g.below hb1
    clear hF ho1 h g
    go_wp2_with fail
    refine (trace_Fits_bad h1 g1 H2.out z1).mono ?_; rintro e w' ⟨rfl, rfl⟩
    go_wp2_with fail
    refine (ref_Curve h1 H1.out).mono ?_; rintro e w' ⟨rfl, rfl⟩
    go_wp2_with fail
    refine (ref_Curves h1 g1 H2.out).mono ?_; rintro e w' ⟨rfl, rfl⟩
    go_wp2_with fail
    refine (told_yes s1 (SI.nil0 _) HF.out).mono ?_; rintro e w4 ⟨rfl, hb34⟩
    have hb4 := hb1.trans (hb34.mono hb1.size)
    go_wp2
    go_ret
    exact ⟨rfl, hb4⟩
end Go.Proofs.Ytjlfefaifeanmaa
