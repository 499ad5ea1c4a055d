/- The walk of headlaw.FairSays: it returns true and changes nothing that was there. No conditions. -/
import Derived.Test.YtgnegemiiahkaaaFairRun
import Derived.Test.YtgnegemiiahkaaaFairRef4
import Derived.Test.YtgnegemiiahkaaaEqual
namespace Go.Proofs.Ytgnegemiiahkaaa
open Go Go.RowKit
set_option linter.unusedVariables false
set_option linter.unusedSimpArgs false

set_option maxHeartbeats 800000 in
theorem fair_Run_err {w : World} {p q : Option Addr} {n c m d : Nat} {ws : List Int} {xs : List (Int × Int × Int)} (g : SI w p n c ws) (h : S3 w q m d xs) {er : Int} (he : fairErr ws xs = er) (h0 : ¬ er = 0) :
    Calls Try.prog 17 #[.slice p n c, .slice q m d] w fun e w' => e = .returned (.tuple #[.slice none 0 0, .int .i64 er]) ∧ Below w.heap.size w w' := by
  have HC := Lib.hid (fair_Check g h he)
  have q1 : (er == 0) = false := by simpa using h0
  have q2 : (er != 0) = true := by simpa using h0
  clear he
  go_enter Try.func17, Try.ntmps17
  go_wp2_with fail
  refine HC.out.mono ?_; rintro e w1 ⟨rfl, b1⟩
  go_wp2
  go_ret2
  exact ⟨rfl, b1⟩
theorem fairErr_nil : fairErr [] [] = 4 := by unfold fairErr; rw [if_pos (by simp)]
theorem s3_nil (w : World) : S3 w none 0 0 [] := ⟨rfl, ⟨Nat.le_refl _, by omega⟩, fun h => absurd h (Nat.lt_irrefl 0)⟩
set_option maxHeartbeats 1600000 in
theorem fairSays_walk {w : World} {p q : Option Addr} {n c m d : Nat} {ws : List Int} {xs : List (Int × Int × Int)} (g : SI w p n c ws) (h : S3 w q m d xs) (_ : ∀ j, j < m → (-9223372036854775808 ≤ t0 xs j ∧ t0 xs j ≤ 9223372036854775807) ∧ (-9223372036854775808 ≤ t1 xs j ∧ t1 xs j ≤ 9223372036854775807) ∧ (-9223372036854775808 ≤ t2 xs j ∧ t2 xs j ≤ 9223372036854775807)) :
    Calls Try.prog 4 #[.slice p n c, .slice q m d] w fun e w' => e = .returned (.bool true) ∧ Below w.heap.size w w' := by
  obtain ⟨er, he⟩ : ∃ er, fairErr ws xs = er := ⟨_, rfl⟩
  have HE := Lib.hid he
  clear he
  by_cases h0 : er = 0
  · subst h0
    have HRUN := Lib.hid (fair_Run_ok g h HE.out)
    go_enter Try.func4, Try.ntmps4
    go_wp2_with fail
    refine HRUN.out.mono ?_; rintro e w1 ⟨qo, dd, rfl, ho1, b1⟩
    have g1 := g.below b1
    have h1 := h.below b1
    clear HRUN
    go_wp2_with fail
    refine (ref_Weights g1 h1 HE.out).mono ?_; rintro e w2 ⟨rfl, b2⟩
    have g2 := g1.below b2
    have h2 := h1.below b2
    have b12 := b1.trans (b2.mono b1.size)
    go_wp2_with fail
    refine (fair_Check g2 h2 HE.out).mono ?_; rintro e w3 ⟨rfl, b3⟩
    have g3 := g2.below b3
    have h3 := h2.below b3
    have b13 := b12.trans (b3.mono b12.size)
    go_wp2_with fail
    refine (fair_Check (SI.nil0 w3) (s3_nil w3) fairErr_nil).mono ?_; rintro e w4 ⟨rfl, b4⟩
    have g4 := g3.below b4
    have h4 := h3.below b4
    have b14 := b13.trans (b4.mono b13.size)
    have HREF := Lib.hid (ref_Fair g4 h4 HE.out)
    have s4 := ((ho1.si.below b2).below b3).below b4
    clear g1 g2 g3 h1 h2 h3 b12 b13 ho1 b1 b2 b3 b4
    go_wp2_with fail
    refine HREF.out.mono ?_; rintro e w5 ⟨q5, d5, rfl, ho5, b5⟩
    have s5 := s4.below b5
    have b15 := b14.trans (b5.mono b14.size)
    clear HREF
    go_wp2_with fail
    refine (slices_Equal s5 ho5.si (r := true) (by simp)).mono ?_; rintro e w6 ⟨rfl, b6⟩
    have b16 := b15.trans (b6.mono b15.size)
    go_wp2
    go_ret
    exact ⟨rfl, b16⟩
  · have HRUN := Lib.hid (fair_Run_err g h HE.out h0)
    have q1 : (er == 0) = false := by simpa using h0
    have q2 : (er != 0) = true := by simpa using h0
    go_enter Try.func4, Try.ntmps4
    go_wp2_with fail
    refine HRUN.out.mono ?_; rintro e w1 ⟨rfl, b1⟩
    have g1 := g.below b1
    have h1 := h.below b1
    clear HRUN
    go_wp2_with fail
    refine (ref_Weights g1 h1 HE.out).mono ?_; rintro e w2 ⟨rfl, b2⟩
    have g2 := g1.below b2
    have h2 := h1.below b2
    have b12 := b1.trans (b2.mono b1.size)
    go_wp2_with fail
    refine (fair_Check g2 h2 HE.out).mono ?_; rintro e w3 ⟨rfl, b3⟩
    have b13 := b12.trans (b3.mono b12.size)
    go_wp2_with fail
    refine (fair_Check (SI.nil0 w3) (s3_nil w3) fairErr_nil).mono ?_; rintro e w4 ⟨rfl, b4⟩
    have b14 := b13.trans (b4.mono b13.size)
    go_wp2
    go_ret
    exact ⟨rfl, b14⟩
end Go.Proofs.Ytgnegemiiahkaaa
