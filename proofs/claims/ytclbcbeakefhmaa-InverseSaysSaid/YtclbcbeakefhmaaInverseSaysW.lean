/- The walk of headlaw.InverseSays: it returns true and changes nothing that was there. No conditions. -/
import Derived.Test.YtclbcbeakefhmaaInverse
namespace Go.Proofs.Ytclbcbeakefhmaa
open Go Go.RowKit

theorem invErr_bad {xs : List Int} {y : Int} (h : curveErr xs ≠ 0) : invErr xs y = curveErr xs := by unfold invErr; rw [if_pos h]
theorem invErr_arg {xs : List Int} {y : Int} (h : curveErr xs = 0) (hy : y < 0 ∨ 1000000 < y) : invErr xs y = 1 := by unfold invErr; rw [if_neg (by simp [h]), if_pos hy]
theorem invErr_ok {xs : List Int} {y : Int} (h : curveErr xs = 0) (hy : ¬ (y < 0 ∨ 1000000 < y)) : invErr xs y = 0 := by unfold invErr; rw [if_neg (by simp [h]), if_neg hy]

set_option maxHeartbeats 400000 in
theorem inverseSays_walk {w : World} {p : Option Addr} {n c : Nat} {xs : List Int} {y : Int} (h : SI w p n c xs) (_hy : -9223372036854775808 ≤ y ∧ y ≤ 9223372036854775807) :
    Calls Try.prog 6 #[.slice p n c, .int .i64 y] w fun e w' => e = .returned (.bool true) ∧ Below w.heap.size w w' := by
  by_cases h0 : curveErr xs = 0
  · have H0 := Lib.hid h0
    by_cases hy : y < 0 ∨ 1000000 < y
    · have HE := Lib.hid (invErr_arg h0 hy)
      clear h0
      by_cases hy1 : y < 0
      · have b1 : decide (y < 0) = true := by simp; omega
        clear hy
        go_enter Try.func6, Try.ntmps6
        go_wp2_with fail
        refine (inverse_Lower_bad h HE.out (by omega)).mono ?_; rintro e w1 ⟨rfl, hb⟩
        go_wp2_with fail
        refine (inverse_Upper_bad (h.below hb) HE.out (by omega)).mono ?_; rintro e w2 ⟨rfl, hb2⟩
        have hb3 := hb.trans (hb2.mono hb.size)
        clear hb hb2
        go_wp2_with fail
        refine (ref_Curve (h.below hb3) H0.out).mono ?_; rintro e w' ⟨rfl, rfl⟩
        go_wp2
        go_ret
        exact ⟨rfl, hb3⟩
      · have b1 : decide (y < 0) = false := by simp; omega
        have b2 : decide (1000000 < y) = true := by simp; omega
        clear hy
        go_enter Try.func6, Try.ntmps6
        go_wp2_with fail
        refine (inverse_Lower_bad h HE.out (by omega)).mono ?_; rintro e w1 ⟨rfl, hb⟩
        go_wp2_with fail
        refine (inverse_Upper_bad (h.below hb) HE.out (by omega)).mono ?_; rintro e w2 ⟨rfl, hb2⟩
        have hb3 := hb.trans (hb2.mono hb.size)
        clear hb hb2
        go_wp2_with fail
        refine (ref_Curve (h.below hb3) H0.out).mono ?_; rintro e w' ⟨rfl, rfl⟩
        go_wp2
        go_ret
        exact ⟨rfl, hb3⟩
    · have HE := Lib.hid (invErr_ok h0 hy)
      have hc := curve_of h0 h.1
      have hn := hc.le
      have hmono := Lib.hid hc.mono
      clear hc h0
      have b1 : decide (y < 0) = false := by simp; omega
      have b2 : decide (1000000 < y) = false := by simp; omega
      clear hy
      go_enter Try.func6, Try.ntmps6
      go_wp2_with fail
      refine (inverse_Lower h (by omega) HE.out).mono ?_; rintro e w1 ⟨i, rfl, hi, hb⟩
      have hin := hi.1
      have HI := Lib.hid hi; clear hi
      go_wp2_with fail
      refine (inverse_Upper (h.below hb) (by omega) HE.out).mono ?_; rintro e w2 ⟨j, rfl, hj, hb2⟩
      have hjn := hj.1
      have HJ := Lib.hid hj; clear hj
      have hb3 := hb.trans (hb2.mono hb.size)
      clear hb hb2
      go_wp2_with fail
      refine (ref_Curve (h.below hb3) H0.out).mono ?_; rintro e w' ⟨rfl, rfl⟩
      go_wp2_with fail
      refine (ref_First (h.below hb3) (i := i) ?_ ?_ hin).mono ?_
      · intro k hk
        have a := HI.out.2.1 (by omega)
        have m := hmono.out k (i - 1) (by omega) (by omega)
        simp only [lowP, decide_eq_false_iff_not] at a
        omega
      · intro hk
        have a := HI.out.2.2 hk
        simpa only [lowP, decide_eq_true_eq] using a
      rintro e w' ⟨rfl, rfl⟩
      go_wp2_with fail
      refine (ref_Last (h.below hb3) (i := j) ?_ ?_ hjn).mono ?_
      · intro k hk hkn
        have a := HJ.out.2.2 (by omega)
        have m := hmono.out j k (by omega) (by omega)
        simp only [upP, decide_eq_true_eq] at a
        omega
      · intro hk
        have a := HJ.out.2.1 hk
        simp only [upP, decide_eq_false_iff_not] at a
        omega
      rintro e w' ⟨rfl, rfl⟩
      go_wp2
      go_ret
      exact ⟨rfl, hb3⟩
  · have HE := Lib.hid (invErr_bad (y := y) h0)
    generalize hx : curveErr xs = ex at *
    have H1 := Lib.hid hx; clear hx
    have hbf := bne_false_of h0
    go_enter Try.func6, Try.ntmps6
    go_wp2_with fail
    refine (inverse_Lower_bad h HE.out h0).mono ?_; rintro e w1 ⟨rfl, hb⟩
    go_wp2_with fail
    refine (inverse_Upper_bad (h.below hb) HE.out h0).mono ?_; rintro e w2 ⟨rfl, hb2⟩
    have hb3 := hb.trans (hb2.mono hb.size)
    clear hb hb2
    go_wp2_with fail
    refine (ref_Curve (h.below hb3) H1.out).mono ?_; rintro e w' ⟨rfl, rfl⟩
    go_wp2
    go_ret
    exact ⟨rfl, hb3⟩
end Go.Proofs.Ytclbcbeakefhmaa
