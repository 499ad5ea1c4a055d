/- The walk of headlaw.CurveChecks: it returns true and changes nothing that was there. No conditions. -/
import Derived.Test.YtclbcbeakefhmaaCurve
namespace Go.Proofs.Ytclbcbeakefhmaa
open Go Go.RowKit
set_option maxHeartbeats 400000 in
theorem curveChecks_walk {w : World} {p : Option Addr} {n c : Nat} {xs : List Int} (h : SI w p n xs) :
    Calls Try.prog 4 #[.slice p n c] w fun e w' => e = .returned (.bool true) ∧ Below w.heap.size w w' := by
  obtain ⟨er, he⟩ : ∃ er, curveErr xs = er := ⟨_, rfl⟩
  have HE := Lib.hid he; clear he
  have HN : Hid (curveErr [] = 1) := rfl
  go_enter Try.func4, Try.ntmps4
  go_wp2_with fail
  refine (curve_Check h HE.out).mono ?_; rintro e w' ⟨rfl, rfl⟩
  go_wp2_with fail
  refine (ref_Curve h HE.out).mono ?_; rintro e w' ⟨rfl, rfl⟩
  go_wp2_with fail
  refine (curve_Check (SI.nil _ _) HN.out).mono ?_; rintro e w' ⟨rfl, rfl⟩
  go_wp2
  go_ret
  exact ⟨rfl, Below.refl _ _⟩
end Go.Proofs.Ytclbcbeakefhmaa
