/- The walk of headlaw.ClosureSays: it returns true and changes nothing that was there. No conditions. -/
import Derived.Test.YtclbcbeakefhmaaClosure
import Derived.Test.YtclbcbeakefhmaaTold
namespace Go.Proofs.Ytclbcbeakefhmaa
open Go Go.RowKit

theorem FitOf.nil {er : Int} {Y L : List Int} {e1 : Int} (h : FitOf er Y L e1) (h0 : er ≠ 0) : FitOf er [] L e1 := by
  rcases h with h | h | h
  · exact .inl h
  · exact absurd h.1 h0
  · exact absurd h.1 h0

set_option maxHeartbeats 1000000 in
theorem closureSays_walk {w : World} {p : Option Addr} {n c : Nat} {xs : List Int} (h : SI w p n c xs) :
    Calls Try.prog 8 #[.slice p n c] w fun e w' => e = .returned (.bool true) ∧ Below w.heap.size w w' := by
  obtain ⟨er, he⟩ : ∃ er, curveErr xs = er := ⟨_, rfl⟩
  by_cases h0 : er = 0
  · subst h0
    have hx := curve_of he h.1
    have HE := Lib.hid he; clear he
    obtain ⟨r, hr⟩ : ∃ r : Bool, r = true ↔ SubAdd xs n := by
      by_cases hle : SubAdd xs n
      · exact ⟨true, by simp [hle]⟩
      · exact ⟨false, by simp [hle]⟩
    have HR := Lib.hid hr; have HX := Lib.hid hx; clear hr hx
    go_enter Try.func8, Try.ntmps8
    go_wp2_with fail
    refine (closure_Of h HE.out).mono ?_; rintro e w1 ⟨p1, n1, c1, L, e1, rfl, ho, hb, hF⟩
    go_wp2_with fail
    refine (closure_Is_ok (h.below hb) HX.out HE.out HR.out).mono ?_; rintro e w2 ⟨rfl, hb2⟩
    have hb02 := hb.trans (hb2.mono hb.size)
    go_wp2_with fail
    refine (ref_Curve (h.below hb02) HE.out).mono ?_; rintro e w' ⟨rfl, rfl⟩
    go_wp2_with fail
    refine (ref_Closure (h.below hb02) HX.out).mono ?_; rintro e w3 ⟨p3, n3, c3, rfl, ho3, hb3⟩
    have hb03 := hb02.trans (hb3.mono hb02.size)
    go_wp2_with fail
    refine (told_yes (ho.si.below (hb2.trans (hb3.mono hb2.size))) ho3.si hF).mono ?_; rintro e w4 ⟨rfl, hb4⟩
    have hb04 := hb03.trans (hb4.mono hb03.size)
    go_wp2_with fail
    refine (ref_Sub (h.below hb04) HX.out HR.out).mono ?_; rintro e w5 ⟨rfl, hb5⟩
    have hb05 := hb04.trans (hb5.mono hb04.size)
    go_wp2
    go_ret
    exact ⟨ret_bool (by simp), hb05⟩
  · have HE := Lib.hid he; clear he
    have hbf := bne_false_of h0
    go_enter Try.func8, Try.ntmps8
    go_wp2_with fail
    refine (closure_Of h HE.out).mono ?_; rintro e w1 ⟨p1, n1, c1, L, e1, rfl, ho, hb, hF⟩
    go_wp2_with fail
    refine (closure_Is_bad (h.below hb) HE.out h0).mono ?_; rintro e w2 ⟨rfl, hb2⟩
    have hb02 := hb.trans (hb2.mono hb.size)
    go_wp2_with fail
    refine (ref_Curve (h.below hb02) HE.out).mono ?_; rintro e w' ⟨rfl, rfl⟩
    go_wp2_with fail
    refine (told_yes (ho.si.below hb2) (SI.nil0 _) (hF.nil h0)).mono ?_; rintro e w3 ⟨rfl, hb3⟩
    go_wp2
    go_ret
    exact ⟨rfl, hb02.trans (hb3.mono hb02.size)⟩
end Go.Proofs.Ytclbcbeakefhmaa
