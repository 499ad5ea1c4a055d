/- The walk of headtop.TopFirst: it returns true and changes nothing that was there. No conditions. -/
import Derived.Test.YtgbccpfehcjhbaaFollow
namespace Go.Proofs.Ytgbccpfehcjhbaa
open Go Go.RowKit

set_option maxRecDepth 100000 in
set_option maxHeartbeats 3200000 in
theorem topFirst_walk {w : World} {p1 p2 p3 p4 : Option Addr} {n1 n2 n3 n4 c1 c2 c3 c4 : Nat} {a b fa fb : List Int} {r : Int} (ha0 : SI w p1 n1 c1 a) (hb0 : SI w p2 n2 c2 b) (hg0 : SI w p3 n3 c3 fa) (hh0 : SI w p4 n4 c4 fb) (_ : -9223372036854775808 ≤ r ∧ r ≤ 9223372036854775807) :
    Calls Try.prog 4 #[.slice p1 n1 c1, .slice p2 n2 c2, .slice p3 n3 c3, .slice p4 n4 c4, .int .i64 r] w fun e w' => e = .returned (.bool true) ∧ Below w.heap.size w w' := by
  have m1 := ha0.2.1; have m2 := hb0.2.1; have m3 := hg0.2.1; have m4 := hh0.2.1
  have HA1 := Lib.hid ha0.1; have HB1 := Lib.hid hb0.1; have HG1 := Lib.hid hg0.1; have HH1 := Lib.hid hh0.1
  go_enter Try.func4, Try.ntmps4
  go_wp2_with fail
  refine (trace_Sum_any ha0).mono ?_; rintro e v1 ⟨pX, nX, cX, X, eX, rfl, oX, bb, hX1, hX2⟩
  have ha1 := ha0.below bb
  have hb1 := hb0.below bb
  have hg1 := hg0.below bb
  have hh1 := hh0.below bb
  have B1 := bb
  clear bb ha0 hb0 hg0 hh0
  have sX1 := oX.si; clear oX
  have HX1 := Lib.hid hX1; have HX2 := Lib.hid hX2; clear hX1 hX2
  have mX := sX1.2.1; have HXL := Lib.hid sX1.1
  go_wp2_with fail
  refine (trace_Sum_any hb1).mono ?_; rintro e v2 ⟨pY, nY, cY, Y, eY, rfl, oY, bb, hY1, hY2⟩
  have ha2 := ha1.below bb
  have hb2 := hb1.below bb
  have hg2 := hg1.below bb
  have hh2 := hh1.below bb
  have sX2 := sX1.below bb
  have B2 := B1.trans (bb.mono B1.size)
  clear bb ha1 hb1 hg1 hh1 sX1 B1
  have sY2 := oY.si; clear oY
  have HY1 := Lib.hid hY1; have HY2 := Lib.hid hY2; clear hY1 hY2
  have mY := sY2.2.1; have HYL := Lib.hid sY2.1
  go_wp2_with fail
  refine (prio_Run_any ha2 hb2 (r := r)).mono ?_; rintro e v3 ⟨pU, nU, cU, U, pO, nO, cO, O, eO, rfl, oU, oO, bb, hO1, hO2⟩
  have ha3 := ha2.below bb
  have hb3 := hb2.below bb
  have hg3 := hg2.below bb
  have hh3 := hh2.below bb
  have sX3 := sX2.below bb
  have sY3 := sY2.below bb
  have B3 := B2.trans (bb.mono B2.size)
  clear bb ha2 hb2 hg2 hh2 sX2 sY2 B2
  have sO3 := oO.si; clear oO
  have HO1 := Lib.hid hO1; have HO2 := Lib.hid hO2; clear hO1 hO2 oU
  have mO := sO3.2.1; have HOL := Lib.hid sO3.1
  go_wp2_with fail
  refine (top_begun).mono ?_; rintro e v4 ⟨rfl, bb⟩
  have ha4 := ha3.below bb
  have hb4 := hb3.below bb
  have hg4 := hg3.below bb
  have hh4 := hh3.below bb
  have sX4 := sX3.below bb
  have sY4 := sY3.below bb
  have sO4 := sO3.below bb
  have B4 := B3.trans (bb.mono B3.size)
  clear bb ha3 hb3 hg3 hh3 sX3 sY3 sO3 B3
  by_cases z1 : ¬ eX = 0
  · have hz := bne_false_of z1
    go_wp2_with fail
    refine (top_begun).mono ?_; rintro e vb ⟨rfl, bb⟩
    have BB := B4.trans (bb.mono B4.size)
    go_wp2
    go_ret
    exact ⟨rfl, BB⟩
  have y1 : eX = 0 := Classical.not_not.1 z1
  subst y1
  clear z1
  by_cases z2 : ¬ eY = 0
  · have hz := bne_false_of z2
    go_wp2_with fail
    refine (top_begun).mono ?_; rintro e vb ⟨rfl, bb⟩
    have BB := B4.trans (bb.mono B4.size)
    go_wp2
    go_ret
    exact ⟨rfl, BB⟩
  have y2 : eY = 0 := Classical.not_not.1 z2
  subst y2
  clear z2
  by_cases z3 : ¬ eO = 0
  · have hz := bne_false_of z3
    go_wp2_with fail
    refine (top_begun).mono ?_; rintro e vb ⟨rfl, bb⟩
    have BB := B4.trans (bb.mono B4.size)
    go_wp2
    go_ret
    exact ⟨rfl, BB⟩
  have y3 : eO = 0 := Classical.not_not.1 z3
  subst y3
  clear z3
  obtain ⟨hle, _, hab⟩ := prio_ok HO1.out
  obtain ⟨_, r0, r1⟩ := line_ok hle
  have HX : Hid (X = addL a) := Lib.hid (HX2.out (by first | rfl | trivial))
  have HY : Hid (Y = addL b) := Lib.hid (HY2.out (by first | rfl | trivial))
  have HO : Hid (O = tab n1 (sev (gi a) (gi b) r)) := Lib.hid (HO2.out (by first | rfl | trivial))
  have e12 : n1 = n2 := by have := HA1.out; have := HB1.out; omega
  have eX : nX = n1 + 1 := by have := HXL.out; rw [HX.out, addL_len, HA1.out] at this; omega
  have eY : nY = n1 + 1 := by have := HYL.out; rw [HY.out, addL_len, HB1.out] at this; omega
  have eO : n1 = nO := by have := HOL.out; rw [HO.out, tab_length] at this; omega
  subst e12 eX eY eO
  clear hle hab HX2 HY2 HO2
  go_wp2_with fail
  refine (trace_Fits_any sX4 hg4).mono ?_; rintro e v5 ⟨ra, eA, rfl, hA1, hA2, bb⟩
  have ha5 := ha4.below bb
  have hb5 := hb4.below bb
  have hg5 := hg4.below bb
  have hh5 := hh4.below bb
  have sX5 := sX4.below bb
  have sY5 := sY4.below bb
  have sO5 := sO4.below bb
  have B5 := B4.trans (bb.mono B4.size)
  clear bb ha4 hb4 hg4 hh4 sX4 sY4 sO4 B4
  have HFA1 := Lib.hid hA1; have HFA2 := Lib.hid hA2; clear hA1 hA2
  go_wp2_with fail
  refine (trace_Fits_any sY5 hh5).mono ?_; rintro e v6 ⟨rb, eB, rfl, hB1, hB2, bb⟩
  have ha6 := ha5.below bb
  have hb6 := hb5.below bb
  have hg6 := hg5.below bb
  have hh6 := hh5.below bb
  have sX6 := sX5.below bb
  have sY6 := sY5.below bb
  have sO6 := sO5.below bb
  have B6 := B5.trans (bb.mono B5.size)
  clear bb ha5 hb5 hg5 hh5 sX5 sY5 sO5 B5
  have HFB1 := Lib.hid hB1; have HFB2 := Lib.hid hB2; clear hB1 hB2
  go_wp2_with fail
  refine (prio_Left_any hg6 r0 r1).mono ?_; rintro e v7 ⟨pL, nL, cL, L, eL, rfl, oL, bb, hL⟩
  have ha7 := ha6.below bb
  have hb7 := hb6.below bb
  have hg7 := hg6.below bb
  have hh7 := hh6.below bb
  have sX7 := sX6.below bb
  have sY7 := sY6.below bb
  have sO7 := sO6.below bb
  have B7 := B6.trans (bb.mono B6.size)
  clear bb ha6 hb6 hg6 hh6 sX6 sY6 sO6 B6
  have sL7 := oL.si; clear oL
  have HL := Lib.hid hL; clear hL
  have mL := sL7.2.1; have HLL := Lib.hid sL7.1
  by_cases z1 : ¬ eA = 0
  · have hz := bne_false_of z1
    go_wp2
    go_ret
    exact ⟨rfl, B7⟩
  have y1 : eA = 0 := Classical.not_not.1 z1
  subst y1
  clear z1
  by_cases z2 : ¬ eB = 0
  · have hz := bne_false_of z2
    go_wp2
    go_ret
    exact ⟨rfl, B7⟩
  have y2 : eB = 0 := Classical.not_not.1 z2
  subst y2
  clear z2
  by_cases z3 : ¬ eL = 0
  · have hz := bne_false_of z3
    go_wp2
    go_ret
    exact ⟨rfl, B7⟩
  have y3 : eL = 0 := Classical.not_not.1 z3
  subst y3
  clear z3
  cases ra with
  | false =>
    go_wp2
    go_ret
    exact ⟨rfl, B7⟩
  | true =>
    cases rb with
    | false =>
      go_wp2
      go_ret
      exact ⟨rfl, B7⟩
    | true =>
      obtain ⟨ca1, ca2, ca3⟩ := bothErr_ok HFA1.out
      obtain ⟨cb1, cb2, cb3⟩ := bothErr_ok HFB1.out
      obtain ⟨_, hLf, hLe⟩ := HL.out rfl
      rw [HXL.out, HG1.out] at ca3
      rw [HYL.out, HH1.out] at cb3
      obtain rfl : n3 = n1 + 1 := by omega
      obtain rfl : n4 = n1 + 1 := by omega
      have hfa := HFA2.out rfl
      have hfb := HFB2.out rfl
      have h61 := (curve_of ca1 HXL.out).le
      have cL := less_curve (r := r) (xs := fa) (by omega) h61 hLf
      rw [← hLe] at cL
      have eL : nL = n1 + 1 := by have := HLL.out; rw [hLe] at this; unfold lessL at this; rw [tab_length, tab_length] at this; omega
      subst eL
      have hst := sev_trace HA1.out HB1.out HX1.out HY1.out r0 r1
      rw [← HO.out] at hst
      have hcd := add_curve hst
      have hlaw := first_back (r := r) HA1.out HB1.out HX1.out HY1.out r0 HG1.out HH1.out (by have := hfa.1 rfl; rwa [HX.out] at this) (by have := hfb.1 rfl; rwa [HY.out] at this)
      rw [← HO.out, ← hLe, ← HY.out] at hlaw
      have HCL := Lib.hid (curve_of cL HLL.out)
      have HCB := Lib.hid (curve_of cb2 HH1.out)
      have HCY := Lib.hid (curve_of cb1 HYL.out)
      have HB1' := Lib.hid (both_mk cb2 cL (by rw [HH1.out, HLL.out]))
      have HST := Lib.hid hst; have HCD := Lib.hid hcd
      obtain ⟨v1, hv1⟩ : ∃ v, backV fb L = v := ⟨_, rfl⟩
      obtain ⟨v2, hv2⟩ : ∃ v, backV Y (addL O) = v := ⟨_, rfl⟩
      rw [hv1, hv2] at hlaw
      have q1 : decide (v2 ≤ v1) = true := by simp; omega
      have HV1 := Lib.hid hv1; have HV2 := Lib.hid hv2
      clear ca1 ca2 ca3 cb1 cb2 cb3 hLf hLe hfa hfb cL hst hcd hv1 hv2
      go_wp2_with fail
      refine (trace_Sum_any sO7).mono ?_; rintro e v8 ⟨pD, nD, cD, D, eD, rfl, oD, bb, hD1, hD2⟩
      have ha8 := ha7.below bb
      have hb8 := hb7.below bb
      have hg8 := hg7.below bb
      have hh8 := hh7.below bb
      have sX8 := sX7.below bb
      have sY8 := sY7.below bb
      have sO8 := sO7.below bb
      have sL8 := sL7.below bb
      have B8 := B7.trans (bb.mono B7.size)
      clear bb ha7 hb7 hg7 hh7 sX7 sY7 sO7 sL7 B7
      have sD8 := oD.si; clear oD
      rw [HST.out] at hD1
      subst hD1
      have HD : Hid (D = addL O) := Lib.hid (hD2 rfl)
      clear hD2
      have HDL := Lib.hid sD8.1
      have eD : nD = n1 + 1 := by have := HDL.out; rw [HD.out, addL_len, HOL.out] at this; omega
      subst eD
      have HCD2 := Lib.hid (show curveErr D = 0 by rw [HD.out]; exact HCD.out)
      have HB2' := Lib.hid (both_mk (show curveErr Y = 0 by rw [HY.out]; exact add_curve HY1.out) HCD2.out (by rw [HYL.out, HDL.out]))
      go_wp2_with fail
      refine (bound_Back_ok hh8 sL8 HCB.out HCL.out HB1'.out).mono ?_; rintro e v9 ⟨rfl, bb⟩
      have ha9 := ha8.below bb
      have hb9 := hb8.below bb
      have hg9 := hg8.below bb
      have hh9 := hh8.below bb
      have sX9 := sX8.below bb
      have sY9 := sY8.below bb
      have sO9 := sO8.below bb
      have sL9 := sL8.below bb
      have sD9 := sD8.below bb
      have B9 := B8.trans (bb.mono B8.size)
      clear bb ha8 hb8 hg8 hh8 sX8 sY8 sO8 sL8 sD8 B8
      rw [HV1.out]
      go_wp2_with fail
      refine (bound_Back_ok sY9 sD9 HCY.out (curve_of HCD2.out HDL.out) HB2'.out).mono ?_; rintro e v10 ⟨rfl, bb⟩
      have ha10 := ha9.below bb
      have hb10 := hb9.below bb
      have hg10 := hg9.below bb
      have hh10 := hh9.below bb
      have sX10 := sX9.below bb
      have sY10 := sY9.below bb
      have sO10 := sO9.below bb
      have sL10 := sL9.below bb
      have sD10 := sD9.below bb
      have B10 := B9.trans (bb.mono B9.size)
      clear bb ha9 hb9 hg9 hh9 sX9 sY9 sO9 sL9 sD9 B9
      rw [HD.out, HV2.out]
      go_wp2
      go_ret
      exact ⟨rfl, B10⟩
end Go.Proofs.Ytgbccpfehcjhbaa
