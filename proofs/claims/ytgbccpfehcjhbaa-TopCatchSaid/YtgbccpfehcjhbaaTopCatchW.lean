/- The walk of headtop.TopCatch: it returns true and changes nothing that was there. No conditions. -/
import Derived.Test.YtgbccpfehcjhbaaFollow
namespace Go.Proofs.Ytgbccpfehcjhbaa
open Go Go.RowKit

set_option maxRecDepth 100000 in
set_option maxHeartbeats 3200000 in
theorem topCatch_walk {w : World} {p1 p2 : Option Addr} {n1 n2 c1 c2 : Nat} {a l : List Int} {lag d : Int} (ha0 : SI w p1 n1 c1 a) (hl0 : SI w p2 n2 c2 l) (_ : -9223372036854775808 ≤ lag ∧ lag ≤ 9223372036854775807) (_ : -9223372036854775808 ≤ d ∧ d ≤ 9223372036854775807) :
    Calls Try.prog 3 #[.slice p1 n1 c1, .slice p2 n2 c2, .int .i64 lag, .int .i64 d] w fun e w' => e = .returned (.bool true) ∧ Below w.heap.size w w' := by
  obtain ⟨el, hel⟩ : ∃ el, curveErr l = el := ⟨_, rfl⟩
  have HL := Lib.hid hel
  have m1 := ha0.2.1; have m2 := hl0.2.1
  have HA1 := Lib.hid ha0.1; have HL1 := Lib.hid hl0.1
  clear hel
  go_enter Try.func3, Try.ntmps3
  go_wp2_with fail
  refine (trace_Sum_any ha0).mono ?_; rintro e v1 ⟨pF, nF, cF, F, eF, rfl, oF, bb, hF1, hF2⟩
  have ha1 := ha0.below bb
  have hl1 := hl0.below bb
  have B1 := bb
  clear bb ha0 hl0
  have hf1 := oF.si; clear oF
  have HF1 := Lib.hid hF1; have HF2 := Lib.hid hF2; clear hF1 hF2
  have mF := hf1.2.1; have HFL := Lib.hid hf1.1
  go_wp2_with fail
  refine (top_begun).mono ?_; rintro e v2 ⟨rfl, bb⟩
  have ha2 := ha1.below bb
  have hl2 := hl1.below bb
  have hf2 := hf1.below bb
  have B2 := B1.trans (bb.mono B1.size)
  clear bb ha1 hl1 hf1 B1
  by_cases z1 : ¬ eF = 0
  · have hz := bne_false_of z1
    go_wp2_with fail
    refine (top_begun).mono ?_; rintro e vb ⟨rfl, bb⟩
    have BB := B2.trans (bb.mono B2.size)
    go_wp2
    go_ret
    exact ⟨rfl, BB⟩
  have y1 : eF = 0 := Classical.not_not.1 z1
  subst y1
  clear z1
  go_wp2_with fail
  refine (curve_Check hl2 HL.out).mono ?_; rintro e w' ⟨rfl, rfl⟩
  by_cases z2 : ¬ el = 0
  · have hz := bne_false_of z2
    go_wp2_with fail
    refine (top_begun).mono ?_; rintro e vb ⟨rfl, bb⟩
    have BB := B2.trans (bb.mono B2.size)
    go_wp2
    go_ret
    exact ⟨rfl, BB⟩
  have y2 : el = 0 := Classical.not_not.1 z2
  subst y2
  clear z2
  by_cases z3 : ¬ n2 = nF
  · have hz : ((n2 : Int) == (nF : Int)) = false := by simp; omega
    have hz2 : (n2 == nF) = false := by simp; omega
    have hz3 : ¬ (n2 : Int) = (nF : Int) := by omega
    go_wp2_with fail
    refine (top_begun).mono ?_; rintro e vb ⟨rfl, bb⟩
    have BB := B2.trans (bb.mono B2.size)
    go_wp2
    go_ret
    exact ⟨rfl, BB⟩
  have y3 : n2 = nF := Classical.not_not.1 z3
  subst y3
  clear z3
  have HF : Hid (F = addL a) := Lib.hid (HF2.out (by first | rfl | trivial))
  have hcv := add_curve HF1.out
  rw [← HF.out] at hcv
  have HBO := Lib.hid (both_mk hcv HL.out (by rw [HFL.out, HL1.out]))
  have E12 := Lib.hid (show n2 = n1 + 1 by have := HFL.out; rw [HF.out, addL_len, HA1.out] at this; omega)
  clear hcv HF2
  obtain ⟨r, hr⟩ := fitsC_bool F l n2
  have HR := Lib.hid hr
  clear hr
  go_wp2_with fail
  refine (trace_Fits_ok hf2 hl2 HBO.out HR.out).mono ?_; rintro e v3 ⟨rfl, bb⟩
  have ha3 := ha2.below bb
  have hl3 := hl2.below bb
  have hf3 := hf2.below bb
  have B3 := B2.trans (bb.mono B2.size)
  clear bb ha2 hl2 hf2 B2
  go_wp2_with fail
  refine (plan_Rate_any hl3).mono ?_; rintro e w' ⟨v, e0, rfl, rfl, hP⟩
  have HP := Lib.hid hP; clear hP
  cases r with
  | false =>
    go_wp2
    go_ret
    exact ⟨rfl, B3⟩
  | true =>
    by_cases z4 : ¬ e0 = 0
    · have hz := bne_false_of z4
      go_wp2
      go_ret
      exact ⟨rfl, B3⟩
    have y4 : e0 = 0 := Classical.not_not.1 z4
    subst y4
    clear z4
    obtain ⟨hpl, hl0', hl1', hd0, hd1, hv0, hv1, hok⟩ := HP.out rfl
    obtain ⟨k, rfl⟩ := Int.eq_ofNat_of_zero_le hd0
    rw [Int.toNat_natCast] at hok
    obtain ⟨i, hi⟩ := firstP_exists (zeroP a v lag) (n1 + 1)
    have hik : i ≤ k := by
      have hfc := HR.out.1 rfl
      rw [HF.out, E12.out] at hfc
      exact catch_by HA1.out (by have := E12.out; omega) hl0' hfc hok hi
    have hroom := room_ge hok
    obtain ⟨rm, hrm⟩ : ∃ rm, roomV l v k = rm := ⟨_, rfl⟩
    rw [hrm] at hroom
    have HRM := Lib.hid hrm; have HPL := Lib.hid hpl; have HI := Lib.hid hi
    have HLE := Lib.hid (show lagErr a v lag = 0 by unfold lagErr; rw [if_neg (by simp [HF1.out]), if_neg (by unfold badRL; omega)])
    clear hok hi hrm hpl HP HR
    have q1 : i < n1 + 1 := by have := E12.out; omega
    have q2 : ((i : Int) ≤ (k : Int)) := by omega
    have q3 : decide ((i : Int) ≤ (k : Int)) = true := by simp; omega
    have q4 : decide (i ≤ k) = true := by simp; omega
    have q5 : decide (lag ≤ rm) = true := by simp; omega
    have q6 : ¬ rm < 0 := by omega
    go_wp2_with fail
    refine (catch_Done_ok ha3 HLE.out HI.out).mono ?_; rintro e v4 ⟨rfl, bb⟩
    have ha4 := ha3.below bb
    have hl4 := hl3.below bb
    have hf4 := hf3.below bb
    have B4 := B3.trans (bb.mono B3.size)
    clear bb ha3 hl3 hf3 B3
    rw [if_pos (show i < n1 + 1 by have := E12.out; omega), if_pos (show i < n1 + 1 by have := E12.out; omega)]
    go_wp2_with fail
    refine (plan_Room_ok hl4 HPL.out hv0 hv1 HRM.out).mono ?_; rintro e w' ⟨rfl, rfl⟩
    rw [if_neg (show ¬ rm < 0 by omega), if_neg (show ¬ rm < 0 by omega)]
    go_wp2
    go_ret
    exact ⟨rfl, B4⟩
end Go.Proofs.Ytgbccpfehcjhbaa
