/- The walk of headlaw.PlanSays: it returns true and changes nothing that was there. No conditions. -/
import Derived.Test.YtjlfefaifeanmaaPlan
namespace Go.Proofs.Ytjlfefaifeanmaa
open Go Go.RowKit

set_option maxRecDepth 100000 in
set_option maxHeartbeats 1600000 in
theorem planSays_bad {w : World} {p : Option Addr} {n c : Nat} {xs : List Int} (h : SI w p n c xs) {l r d er : Int} (he : planErr xs d = er) (h0 : er ≠ 0) :
    Calls Try.prog 10 #[.slice p n c, .int .i64 l, .int .i64 r, .int .i64 d] w fun e w' => e = .returned (.bool true) ∧ Below w.heap.size w w' := by
  have hl := h.1
  have hm := h.2.1
  by_cases hc0 : curveErr xs = 0
  · have hd : d < 0 ∨ (n : Int) ≤ d := by
      apply Classical.byContradiction
      intro hb
      unfold planErr at he
      rw [if_neg (by simp [hc0]), hl, if_neg hb] at he
      exact h0 he.symm
    obtain rfl : 1 = er := by rw [← he]; unfold planErr; rw [if_neg (by simp [hc0]), hl, if_pos hd]
    have HE := Lib.hid he; have HC := Lib.hid hc0
    clear he hc0 hl h0
    rcases (show d < 0 ∨ (0 ≤ d ∧ (n : Int) ≤ d) by omega) with h1 | ⟨h1, h2⟩
    all_goals
      clear hd
      go_enter Try.func10, Try.ntmps10
      go_wp2_with fail
      refine (plan_Rate_bad h HE.out (by omega)).mono ?_; rintro e w' ⟨rfl, rfl⟩
      go_wp2_with fail
      refine (plan_Room_bad h HE.out (by omega)).mono ?_; rintro e w' ⟨rfl, rfl⟩
      go_wp2_with fail
      refine (ref_Curve h HC.out).mono ?_; rintro e w' ⟨rfl, rfl⟩
      go_wp2
      go_ret
      exact ⟨rfl, Below.refl _ _⟩
  · obtain ⟨ec, hec⟩ : ∃ ec, curveErr xs = ec := ⟨_, rfl⟩
    obtain rfl : ec = er := by rw [← he]; unfold planErr; rw [if_pos hc0, hec]
    have hb := bne_false_of h0
    have HE := Lib.hid he; have HC := Lib.hid hec
    clear he hc0 hl hec
    go_enter Try.func10, Try.ntmps10
    go_wp2_with fail
    refine (plan_Rate_bad h HE.out h0).mono ?_; rintro e w' ⟨rfl, rfl⟩
    go_wp2_with fail
    refine (plan_Room_bad h HE.out h0).mono ?_; rintro e w' ⟨rfl, rfl⟩
    go_wp2_with fail
    refine (ref_Curve h HC.out).mono ?_; rintro e w' ⟨rfl, rfl⟩
    go_wp2
    go_ret
    exact ⟨rfl, Below.refl _ _⟩

set_option maxRecDepth 100000 in
set_option maxHeartbeats 3200000 in
theorem planSays_bad_bad {w : World} {p : Option Addr} {n c : Nat} {xs : List Int} (h : SI w p n c xs) {l r : Int} {d : Nat} (he : planErr xs d = 0) (hl : l < 0 ∨ 1000000 < l) (hr : r < 0 ∨ 10000 < r) :
    Calls Try.prog 10 #[.slice p n c, .int .i64 l, .int .i64 r, .int .i64 d] w fun e w' => e = .returned (.bool true) ∧ Below w.heap.size w w' := by
  obtain ⟨hc0, _, hd⟩ := plan_ok he
  have hx := curve_of hc0 h.1
  have hn61 := hx.le
  have hpos := hx.pos
  have hm := h.2.1
  have hdn : d < n := by have := h.1; omega
  have hd1 : ¬ (n : Int) ≤ (d : Int) := by omega
  have hd2 : decide ((n : Int) ≤ (d : Int)) = false := by simp; omega
  have hd3 : decide (n ≤ d) = false := by simp; omega
  have HE := Lib.hid he; have HX := Lib.hid hx; have HC := Lib.hid hc0
  clear he hx hc0 hd
  obtain ⟨b, off, rfl, hlt, hc⟩ := h.cells hpos
  have HCW := Lib.hid hc; clear hc
  rcases (show l < 0 ∨ (0 ≤ l ∧ 1000000 < l) by omega) with l1 | ⟨l1, l2⟩
  all_goals
    rcases (show r < 0 ∨ (0 ≤ r ∧ 10000 < r) by omega) with r1 | ⟨r1, r2⟩
  all_goals
    clear hl
    clear hr
    go_enter Try.func10, Try.ntmps10
    go_wp2_with fail
    refine (plan_Rate_arg h HE.out (by omega)).mono ?_; rintro e w' ⟨rfl, rfl⟩
    go_wp2_with fail
    refine (plan_Room_arg h HE.out (by omega)).mono ?_; rintro e w' ⟨rfl, rfl⟩
    go_wp2_with fail
    refine (ref_Curve h HC.out).mono ?_; rintro e w' ⟨rfl, rfl⟩
    have HCL := HCW
    go_wp2
    go_ret
    exact ⟨rfl, Below.refl _ _⟩

set_option maxRecDepth 100000 in
set_option maxHeartbeats 3200000 in
theorem planSays_bad_ok {w : World} {p : Option Addr} {n c : Nat} {xs : List Int} (h : SI w p n c xs) {l r : Int} {d : Nat} (he : planErr xs d = 0) (hl : l < 0 ∨ 1000000 < l) (hr0 : 0 ≤ r) (hr1 : r ≤ 10000) :
    Calls Try.prog 10 #[.slice p n c, .int .i64 l, .int .i64 r, .int .i64 d] w fun e w' => e = .returned (.bool true) ∧ Below w.heap.size w w' := by
  obtain ⟨hc0, _, hd⟩ := plan_ok he
  have hx := curve_of hc0 h.1
  have hn61 := hx.le
  have hpos := hx.pos
  have hm := h.2.1
  have hdn : d < n := by have := h.1; omega
  have hd1 : ¬ (n : Int) ≤ (d : Int) := by omega
  have hd2 : decide ((n : Int) ≤ (d : Int)) = false := by simp; omega
  have hd3 : decide (n ≤ d) = false := by simp; omega
  have HE := Lib.hid he; have HX := Lib.hid hx; have HC := Lib.hid hc0
  clear he hx hc0 hd
  obtain ⟨b, off, rfl, hlt, hc⟩ := h.cells hpos
  have HCW := Lib.hid hc; clear hc
  obtain ⟨v, hv⟩ : ∃ v, roomV xs r d = v := ⟨_, rfl⟩
  have HV := Lib.hid hv; clear hv
  rcases (show l < 0 ∨ (0 ≤ l ∧ 1000000 < l) by omega) with l1 | ⟨l1, l2⟩
  all_goals
    by_cases hv0 : v < 0
  all_goals
    clear hl
    have r2 : decide (10000 < r) = false := by simp; omega
    go_enter Try.func10, Try.ntmps10
    go_wp2_with fail
    refine (plan_Rate_arg h HE.out (by omega)).mono ?_; rintro e w' ⟨rfl, rfl⟩
    go_wp2_with fail
    refine (plan_Room_ok h HE.out hr0 hr1 HV.out).mono ?_; rintro e w' ⟨rfl, rfl⟩
    first | rw [if_pos hv0, if_pos hv0] | rw [if_neg (by omega), if_neg (by omega)]
    go_wp2_with fail
    refine (ref_Curve h HC.out).mono ?_; rintro e w' ⟨rfl, rfl⟩
    have HCL := HCW
    go_wp2
    go_loop [17, 85] (fun s t => ∃ k : Nat, k ≤ d + 1 ∧ t = .int .i64 k ∧ s = .int .i64 (mxf (-1) (fun t => r * (t : Int) - gi xs t) k)) (fun _ t => d + 1 - (intOf t).toNat)
    case atStart => exact ⟨0, by omega, rfl, rfl⟩
    case round =>
      obtain ⟨k, hk, rfl, rfl⟩ := hrel
      have rbd := room_bd (k := k) HX.out hr0 hr1 (by omega)
      by_cases hkd : k ≤ d
      · have c1 := HCL.out k (by omega)
        have b1 := HX.out.bd k (by omega)
        have b2 := prod_bd (k := k) hr0 hr1 (by omega)
        rw [Int.mul_comm] at b2
        have HST := Lib.hid (show mxf (-1) (fun t => r * (t : Int) - gi xs t) (k + 1) = max (mxf (-1) (fun t => r * (t : Int) - gi xs t) k) ((k : Int) * r - gi xs k) by rw [mxf_succ, Int.mul_comm])
        generalize mxf (-1) (fun t => r * (t : Int) - gi xs t) k = mk at *
        have z3 : (k : Int) < (d : Int) + 1 := by omega
        go_wp2
        all_goals
          go_round
          case rel => exact ⟨k + 1, by omega, by go_num, by rw [HST.out]; try first | rfl | (congr 1; omega)⟩
          case measure => simp [intOf]; omega
      · obtain rfl : k = d + 1 := by omega
        have z3 : ¬ ((d + 1 : Nat) : Int) < (d : Int) + 1 := by omega
        have z4 : ¬ (d : Int) + 1 < (d : Int) + 1 := by omega
        have HVV : Hid (mxf (-1) (fun t => r * (t : Int) - gi xs t) (d + 1) = v) := Lib.hid HV.out
        rw [HVV.out] at rbd ⊢
        go_wp2
        go_ret
        exact ⟨rfl, Below.refl _ _⟩

set_option maxRecDepth 100000 in
set_option maxHeartbeats 3200000 in
theorem planSays_ok_bad {w : World} {p : Option Addr} {n c : Nat} {xs : List Int} (h : SI w p n c xs) {l r : Int} {d : Nat} (he : planErr xs d = 0) (hl0 : 0 ≤ l) (hl1 : l ≤ 1000000) (hr : r < 0 ∨ 10000 < r) :
    Calls Try.prog 10 #[.slice p n c, .int .i64 l, .int .i64 r, .int .i64 d] w fun e w' => e = .returned (.bool true) ∧ Below w.heap.size w w' := by
  obtain ⟨hc0, _, hd⟩ := plan_ok he
  have hx := curve_of hc0 h.1
  have hn61 := hx.le
  have hpos := hx.pos
  have hm := h.2.1
  have hdn : d < n := by have := h.1; omega
  have hd1 : ¬ (n : Int) ≤ (d : Int) := by omega
  have hd2 : decide ((n : Int) ≤ (d : Int)) = false := by simp; omega
  have hd3 : decide (n ≤ d) = false := by simp; omega
  have HE := Lib.hid he; have HX := Lib.hid hx; have HC := Lib.hid hc0
  clear he hx hc0 hd
  obtain ⟨b, off, rfl, hlt, hc⟩ := h.cells hpos
  have HCW := Lib.hid hc; clear hc
  obtain ⟨v1, e1, hro⟩ := rateOf_exists (gi xs) l d
  have HRO := Lib.hid hro; clear hro
  rcases (show r < 0 ∨ (0 ≤ r ∧ 10000 < r) by omega) with r1 | ⟨r1, r2⟩
  all_goals
    have l2 : decide (1000000 < l) = false := by simp; omega
    clear hr
    go_enter Try.func10, Try.ntmps10
    go_wp2_with fail
    refine (plan_Rate_ok h HE.out hl0 hl1 HRO.out).mono ?_; rintro e w' ⟨rfl, rfl⟩
    go_wp2_with fail
    refine (plan_Room_arg h HE.out (by omega)).mono ?_; rintro e w' ⟨rfl, rfl⟩
    go_wp2_with fail
    refine (ref_Curve h HC.out).mono ?_; rintro e w' ⟨rfl, rfl⟩
    go_wp2_with fail
    refine (ref_Rate h HX.out hdn ⟨hl0, hl1⟩).mono ?_; rintro e w1 ⟨x, rfl, hbx, hb1⟩
    have HCL := Lib.hid (fun j (hj : j < n) => (bdeep hb1 hlt (off + j)).trans (HCW.out j hj))
    have hx0 := hbx.1
    rcases border_rate ⟨hl0, hl1⟩ HX.out.bd hdn hbx HRO.out with ⟨g1, rfl, rfl⟩ | ⟨g1, rfl, rfl⟩
    all_goals
      clear hbx
      first | rw [if_pos g1] | rw [if_neg (by omega)]
      go_wp2
      go_ret
      exact ⟨rfl, hb1⟩

set_option maxRecDepth 100000 in
set_option maxHeartbeats 3200000 in
theorem planSays_ok_ok {w : World} {p : Option Addr} {n c : Nat} {xs : List Int} (h : SI w p n c xs) {l r : Int} {d : Nat} (he : planErr xs d = 0) (hl0 : 0 ≤ l) (hl1 : l ≤ 1000000) (hr0 : 0 ≤ r) (hr1 : r ≤ 10000) :
    Calls Try.prog 10 #[.slice p n c, .int .i64 l, .int .i64 r, .int .i64 d] w fun e w' => e = .returned (.bool true) ∧ Below w.heap.size w w' := by
  obtain ⟨hc0, _, hd⟩ := plan_ok he
  have hx := curve_of hc0 h.1
  have hn61 := hx.le
  have hpos := hx.pos
  have hm := h.2.1
  have hdn : d < n := by have := h.1; omega
  have hd1 : ¬ (n : Int) ≤ (d : Int) := by omega
  have hd2 : decide ((n : Int) ≤ (d : Int)) = false := by simp; omega
  have hd3 : decide (n ≤ d) = false := by simp; omega
  have HE := Lib.hid he; have HX := Lib.hid hx; have HC := Lib.hid hc0
  clear he hx hc0 hd
  obtain ⟨b, off, rfl, hlt, hc⟩ := h.cells hpos
  have HCW := Lib.hid hc; clear hc
  obtain ⟨v1, e1, hro⟩ := rateOf_exists (gi xs) l d
  have HRO := Lib.hid hro; clear hro
  obtain ⟨v, hv⟩ : ∃ v, roomV xs r d = v := ⟨_, rfl⟩
  have HV := Lib.hid hv; clear hv
  by_cases hv0 : v < 0
  all_goals
    have l2 : decide (1000000 < l) = false := by simp; omega
    have r2 : decide (10000 < r) = false := by simp; omega
    go_enter Try.func10, Try.ntmps10
    go_wp2_with fail
    refine (plan_Rate_ok h HE.out hl0 hl1 HRO.out).mono ?_; rintro e w' ⟨rfl, rfl⟩
    go_wp2_with fail
    refine (plan_Room_ok h HE.out hr0 hr1 HV.out).mono ?_; rintro e w' ⟨rfl, rfl⟩
    first | rw [if_pos hv0, if_pos hv0] | rw [if_neg (by omega), if_neg (by omega)]
    go_wp2_with fail
    refine (ref_Curve h HC.out).mono ?_; rintro e w' ⟨rfl, rfl⟩
    go_wp2_with fail
    refine (ref_Rate h HX.out hdn ⟨hl0, hl1⟩).mono ?_; rintro e w1 ⟨x, rfl, hbx, hb1⟩
    have HCL := Lib.hid (fun j (hj : j < n) => (bdeep hb1 hlt (off + j)).trans (HCW.out j hj))
    have hx0 := hbx.1
    rcases border_rate ⟨hl0, hl1⟩ HX.out.bd hdn hbx HRO.out with ⟨g1, rfl, rfl⟩ | ⟨g1, rfl, rfl⟩
    all_goals
      clear hbx
      first | rw [if_pos g1] | rw [if_neg (by omega)]
      go_wp2
      go_loop [17, 85] (fun s t => ∃ k : Nat, k ≤ d + 1 ∧ t = .int .i64 k ∧ s = .int .i64 (mxf (-1) (fun t => r * (t : Int) - gi xs t) k)) (fun _ t => d + 1 - (intOf t).toNat)
      case atStart => exact ⟨0, by omega, rfl, rfl⟩
      case round =>
        obtain ⟨k, hk, rfl, rfl⟩ := hrel
        have rbd := room_bd (k := k) HX.out hr0 hr1 (by omega)
        by_cases hkd : k ≤ d
        · have c1 := HCL.out k (by omega)
          have b1 := HX.out.bd k (by omega)
          have b2 := prod_bd (k := k) hr0 hr1 (by omega)
          rw [Int.mul_comm] at b2
          have HST := Lib.hid (show mxf (-1) (fun t => r * (t : Int) - gi xs t) (k + 1) = max (mxf (-1) (fun t => r * (t : Int) - gi xs t) k) ((k : Int) * r - gi xs k) by rw [mxf_succ, Int.mul_comm])
          generalize mxf (-1) (fun t => r * (t : Int) - gi xs t) k = mk at *
          have z3 : (k : Int) < (d : Int) + 1 := by omega
          go_wp2
          all_goals
            go_round
            case rel => exact ⟨k + 1, by omega, by go_num, by rw [HST.out]; try first | rfl | (congr 1; omega)⟩
            case measure => simp [intOf]; omega
        · obtain rfl : k = d + 1 := by omega
          have z3 : ¬ ((d + 1 : Nat) : Int) < (d : Int) + 1 := by omega
          have z4 : ¬ (d : Int) + 1 < (d : Int) + 1 := by omega
          have HVV : Hid (mxf (-1) (fun t => r * (t : Int) - gi xs t) (d + 1) = v) := Lib.hid HV.out
          rw [HVV.out] at rbd ⊢
          go_wp2
          go_ret
          exact ⟨rfl, hb1⟩

theorem planSays_walk {w : World} {p : Option Addr} {n c : Nat} {xs : List Int} (h : SI w p n c xs) {l r d : Int} (_ : -9223372036854775808 ≤ l ∧ l ≤ 9223372036854775807) (_ : -9223372036854775808 ≤ r ∧ r ≤ 9223372036854775807) (_ : -9223372036854775808 ≤ d ∧ d ≤ 9223372036854775807) :
    Calls Try.prog 10 #[.slice p n c, .int .i64 l, .int .i64 r, .int .i64 d] w fun e w' => e = .returned (.bool true) ∧ Below w.heap.size w w' := by
  by_cases he : planErr xs d = 0
  · obtain ⟨_, hd0, _⟩ := plan_ok he
    obtain ⟨d, rfl⟩ := Int.eq_ofNat_of_zero_le hd0
    by_cases hl : l < 0 ∨ 1000000 < l
    · by_cases hr : r < 0 ∨ 10000 < r
      · exact planSays_bad_bad h he hl hr
      · exact planSays_bad_ok h he hl (by omega) (by omega)
    · by_cases hr : r < 0 ∨ 10000 < r
      · exact planSays_ok_bad h he (by omega) (by omega) hr
      · exact planSays_ok_ok h he (by omega) (by omega) (by omega) (by omega)
  · exact planSays_bad h rfl he
end Go.Proofs.Ytjlfefaifeanmaa
