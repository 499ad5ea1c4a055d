/- The walk of headlaw.PointLess: it returns true and changes nothing that was there. No conditions. -/
import Derived.Test.YtclbcbeakefhmaaLess
import Derived.Test.YtclbcbeakefhmaaTold
namespace Go.Proofs.Ytclbcbeakefhmaa
open Go Go.RowKit

theorem FitOf.nilL {er : Int} {Y L : List Int} {e1 : Int} (h : FitOf er Y L e1) (h0 : er ≠ 0) : FitOf er [] L e1 := by
  rcases h with h | h | h
  · exact .inl h
  · exact absurd h.1 h0
  · exact absurd h.1 h0

set_option maxHeartbeats 400000 in
theorem pointLess_walk {w : World} {p q : Option Addr} {n m c d : Nat} {xs ys : List Int} (h : SI w p n c xs) (g : SI w q m d ys) :
    Calls Try.prog 11 #[.slice p n c, .slice q m d] w fun e w' => e = .returned (.bool true) ∧ Below w.heap.size w w' := by
  obtain ⟨er, he⟩ : ∃ er, bothErr xs ys = er := ⟨_, rfl⟩
  by_cases h0 : er = 0
  · subst h0
    obtain ⟨h1, h2, h3⟩ := bothErr_ok he
    obtain rfl : n = m := by rw [← h.1, ← g.1, h3]
    have hx := curve_of h1 h.1
    have hy := curve_of h2 g.1
    have HE := Lib.hid he; clear he
    have HX := Lib.hid hx; have HY := Lib.hid hy; clear h1 h2 h3 hx hy
    go_enter Try.func11, Try.ntmps11
    go_wp2_with fail
    refine (point_Less h g HE.out).mono ?_; rintro e w1 ⟨p1, n1, c1, L, e1, rfl, ho, hb, hF⟩
    have HF := Lib.hid hF; clear hF
    go_wp2_with fail
    refine (ref_Curves (h.below hb) (g.below hb) HE.out).mono ?_; rintro e w' ⟨rfl, rfl⟩
    go_wp2_with fail
    refine (ref_Less (h.below hb) (g.below hb) HX.out HY.out).mono ?_; rintro e w2 ⟨p2, n2, c2, rfl, ho2, hb2⟩
    go_wp2_with fail
    refine (told_yes (ho.si.below hb2) ho2.si HF.out).mono ?_; rintro e w3 ⟨rfl, hb3⟩
    go_wp2
    go_ret
    exact ⟨rfl, hb.trans ((hb2.mono hb.size).trans (hb3.mono (Nat.le_trans hb.size hb2.size)))⟩
  · have HE := Lib.hid he; clear he
    have hbf := bne_false_of h0
    go_enter Try.func11, Try.ntmps11
    go_wp2_with fail
    refine (point_Less h g HE.out).mono ?_; rintro e w1 ⟨p1, n1, c1, L, e1, rfl, ho, hb, hF⟩
    have HF := Lib.hid (hF.nilL h0); clear hF
    go_wp2_with fail
    refine (ref_Curves (h.below hb) (g.below hb) HE.out).mono ?_; rintro e w' ⟨rfl, rfl⟩
    go_wp2_with fail
    refine (told_yes ho.si (SI.nil0 _) HF.out).mono ?_; rintro e w3 ⟨rfl, hb3⟩
    go_wp2
    go_ret
    exact ⟨rfl, hb.trans (hb3.mono hb.size)⟩
end Go.Proofs.Ytclbcbeakefhmaa
