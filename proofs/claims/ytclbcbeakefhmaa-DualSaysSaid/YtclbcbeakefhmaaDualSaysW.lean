/- The walk of headlaw.DualSays: it returns true and changes nothing that was there. No conditions. -/
import Derived.Test.YtclbcbeakefhmaaSuper
import Derived.Test.YtclbcbeakefhmaaTold
namespace Go.Proofs.Ytclbcbeakefhmaa
open Go Go.RowKit

theorem FitOf.nilD {er : Int} {Y L : List Int} {e1 : Int} (h : FitOf er Y L e1) (h0 : er ≠ 0) : FitOf er [] L e1 := by
  rcases h with h | h | h
  · exact .inl h
  · exact absurd h.1 h0
  · exact absurd h.1 h0

set_option maxHeartbeats 1000000 in
theorem dualSays_walk {w : World} {p q : Option Addr} {n m c d : Nat} {xs ys : List Int} (h : SI w p n c xs) (g : SI w q m d ys) :
    Calls Try.prog 13 #[.slice p n c, .slice q m d] w fun e w' => e = .returned (.bool true) ∧ Below w.heap.size w w' := by
  by_cases hb0 : bothErr xs ys = 0
  · obtain ⟨h1, h2, h3⟩ := bothErr_ok hb0
    obtain rfl : n = m := by rw [← h.1, ← g.1, h3]
    have hx := curve_of h1 h.1
    have hy := curve_of h2 g.1
    have HE := Lib.hid hb0; have HC := Lib.hid h1; have HX := Lib.hid hx; have HY := Lib.hid hy
    clear hb0 h1 h2 h3 hx hy
    go_enter Try.func13, Try.ntmps13
    go_wp2_with fail
    refine (dual_Of h g HE.out).mono ?_; rintro e w1 ⟨p1, n1, c1, L1, e1, rfl, ho1, hb1, hF1⟩
    go_wp2_with fail
    refine (dual_Super (h.below hb1) HC.out).mono ?_; rintro e w2 ⟨p2, n2, c2, L2, e2, rfl, ho2, hb12, hF2⟩
    have hb2 := hb1.trans (hb12.mono hb1.size)
    have o1 := ho1.si.below hb12
    have o2 := ho2.si
    have HF1 := Lib.hid hF1; have HF2 := Lib.hid hF2
    clear hF1 hF2 ho1 ho2 hb12
    go_wp2_with fail
    refine (ref_Curves (h.below hb2) (g.below hb2) HE.out).mono ?_; rintro e w' ⟨rfl, rfl⟩
    go_wp2_with fail
    refine (ref_Curve (h.below hb2) HC.out).mono ?_; rintro e w' ⟨rfl, rfl⟩
    go_wp2_with fail
    refine (ref_Dual (h.below hb2) (g.below hb2) HX.out HY.out).mono ?_; rintro e w3 ⟨p3, n3, c3, rfl, ho3, hb23⟩
    have hb3 := hb2.trans (hb23.mono hb2.size)
    go_wp2_with fail
    refine (ref_Super (h.below hb3) HX.out).mono ?_; rintro e w4 ⟨p4, n4, c4, rfl, ho4, hb34⟩
    have hb4 := hb3.trans (hb34.mono hb3.size)
    have o3 := ho3.si.below hb34
    have o4 := ho4.si
    have k1 := o1.below (hb23.trans (hb34.mono hb23.size))
    have k2 := o2.below (hb23.trans (hb34.mono hb23.size))
    clear o1 o2 ho3 ho4 hb23 hb34 hb2 hb3
    go_wp2_with fail
    refine (told_yes k1 o3 HF1.out).mono ?_; rintro e w5 ⟨rfl, hb45⟩
    have hb5 := hb4.trans (hb45.mono hb4.size)
    go_wp2_with fail
    refine (told_yes (k2.below hb45) (o4.below hb45) HF2.out).mono ?_; rintro e w6 ⟨rfl, hb56⟩
    have hb6 := hb5.trans (hb56.mono hb5.size)
    go_wp2
    go_ret
    exact ⟨rfl, hb6⟩
  · obtain ⟨er, he⟩ : ∃ er, bothErr xs ys = er := ⟨_, rfl⟩
    rw [he] at hb0
    have HE := Lib.hid he; clear he
    have hbf := bne_false_of hb0
    by_cases hc0 : curveErr xs = 0
    · have hx := curve_of hc0 h.1
      have HC := Lib.hid hc0; have HX := Lib.hid hx
      clear hc0 hx
      go_enter Try.func13, Try.ntmps13
      go_wp2_with fail
      refine (dual_Of h g HE.out).mono ?_; rintro e w1 ⟨p1, n1, c1, L1, e1, rfl, ho1, hb1, hF1⟩
      go_wp2_with fail
      refine (dual_Super (h.below hb1) HC.out).mono ?_; rintro e w2 ⟨p2, n2, c2, L2, e2, rfl, ho2, hb12, hF2⟩
      have hb2 := hb1.trans (hb12.mono hb1.size)
      have o1 := ho1.si.below hb12
      have o2 := ho2.si
      have HF1 := Lib.hid (hF1.nilD hb0); have HF2 := Lib.hid hF2
      clear hF1 hF2 ho1 ho2 hb12
      go_wp2_with fail
      refine (ref_Curves (h.below hb2) (g.below hb2) HE.out).mono ?_; rintro e w' ⟨rfl, rfl⟩
      go_wp2_with fail
      refine (ref_Curve (h.below hb2) HC.out).mono ?_; rintro e w' ⟨rfl, rfl⟩
      go_wp2_with fail
      refine (ref_Super (h.below hb2) HX.out).mono ?_; rintro e w4 ⟨p4, n4, c4, rfl, ho4, hb34⟩
      have hb4 := hb2.trans (hb34.mono hb2.size)
      have o4 := ho4.si
      have k1 := o1.below hb34
      have k2 := o2.below hb34
      clear o1 o2 ho4 hb34 hb2
      go_wp2_with fail
      refine (told_yes k1 (SI.nil0 _) HF1.out).mono ?_; rintro e w5 ⟨rfl, hb45⟩
      have hb5 := hb4.trans (hb45.mono hb4.size)
      go_wp2_with fail
      refine (told_yes (k2.below hb45) (o4.below hb45) HF2.out).mono ?_; rintro e w6 ⟨rfl, hb56⟩
      have hb6 := hb5.trans (hb56.mono hb5.size)
      go_wp2
      go_ret
      exact ⟨rfl, hb6⟩
    · obtain ⟨ec, hec⟩ : ∃ ec, curveErr xs = ec := ⟨_, rfl⟩
      rw [hec] at hc0
      have HC := Lib.hid hec; clear hec
      have hcf := bne_false_of hc0
      go_enter Try.func13, Try.ntmps13
      go_wp2_with fail
      refine (dual_Of h g HE.out).mono ?_; rintro e w1 ⟨p1, n1, c1, L1, e1, rfl, ho1, hb1, hF1⟩
      go_wp2_with fail
      refine (dual_Super (h.below hb1) HC.out).mono ?_; rintro e w2 ⟨p2, n2, c2, L2, e2, rfl, ho2, hb12, hF2⟩
      have hb2 := hb1.trans (hb12.mono hb1.size)
      have o1 := ho1.si.below hb12
      have o2 := ho2.si
      have HF1 := Lib.hid (hF1.nilD hb0); have HF2 := Lib.hid (hF2.nilD hc0)
      clear hF1 hF2 ho1 ho2 hb12
      go_wp2_with fail
      refine (ref_Curves (h.below hb2) (g.below hb2) HE.out).mono ?_; rintro e w' ⟨rfl, rfl⟩
      go_wp2_with fail
      refine (ref_Curve (h.below hb2) HC.out).mono ?_; rintro e w' ⟨rfl, rfl⟩
      go_wp2_with fail
      refine (told_yes o1 (SI.nil0 _) HF1.out).mono ?_; rintro e w5 ⟨rfl, hb45⟩
      have hb5 := hb2.trans (hb45.mono hb2.size)
      go_wp2_with fail
      refine (told_yes (o2.below hb45) (SI.nil0 _) HF2.out).mono ?_; rintro e w6 ⟨rfl, hb56⟩
      have hb6 := hb5.trans (hb56.mono hb5.size)
      go_wp2
      go_ret
      exact ⟨rfl, hb6⟩
end Go.Proofs.Ytclbcbeakefhmaa
