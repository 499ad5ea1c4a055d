/- The walk of headlaw.PointSays: it returns true and changes nothing that was there. No conditions. -/
import Derived.Test.YtclbcbeakefhmaaPoint
import Derived.Test.YtclbcbeakefhmaaTold
namespace Go.Proofs.Ytclbcbeakefhmaa
open Go Go.RowKit

theorem FitOf.nilP {er : Int} {Y L : List Int} {e1 : Int} (h : FitOf er Y L e1) (h0 : er ≠ 0) : FitOf er [] L e1 := by
  rcases h with h | h | h
  · exact .inl h
  · exact absurd h.1 h0
  · exact absurd h.1 h0

set_option maxHeartbeats 400000 in
theorem pointSays1 (a b : Int) (w : World) (ha : 0 ≤ a ∧ a ≤ 1000000) (hb : 0 ≤ b ∧ b ≤ 1000000) :
    Calls Try.prog 46 #[.int .i64 a, .int .i64 b] w fun e w' => e = .returned (.int .i64 (opMin a b)) ∧ w = w' := by
  obtain ⟨ha1, ha2⟩ := ha
  obtain ⟨hb1, hb2⟩ := hb
  go_enter Try.func46, Try.ntmps46
  go_wp2
  all_goals
    go_ret
    exact ⟨ret_int (by unfold opMin; omega), rfl⟩

set_option maxHeartbeats 400000 in
theorem pointSays2 (a b : Int) (w : World) (ha : 0 ≤ a ∧ a ≤ 1000000) (hb : 0 ≤ b ∧ b ≤ 1000000) :
    Calls Try.prog 47 #[.int .i64 a, .int .i64 b] w fun e w' => e = .returned (.int .i64 (opMax a b)) ∧ w = w' := by
  obtain ⟨ha1, ha2⟩ := ha
  obtain ⟨hb1, hb2⟩ := hb
  go_enter Try.func47, Try.ntmps47
  go_wp2
  all_goals
    go_ret
    exact ⟨ret_int (by unfold opMax; omega), rfl⟩

set_option maxHeartbeats 400000 in
theorem pointSays3 (a b : Int) (w : World) (ha : 0 ≤ a ∧ a ≤ 1000000) (hb : 0 ≤ b ∧ b ≤ 1000000) :
    Calls Try.prog 48 #[.int .i64 a, .int .i64 b] w fun e w' => e = .returned (.int .i64 (opSum a b)) ∧ w = w' := by
  obtain ⟨ha1, ha2⟩ := ha
  obtain ⟨hb1, hb2⟩ := hb
  go_enter Try.func48, Try.ntmps48
  go_wp2
  all_goals
    go_ret
    exact ⟨ret_int (by unfold opSum; omega), rfl⟩
/-- the worlds one behind another -/
theorem below_then {B : Nat} {a b c : World} (h : Below B a b) (hB : B ≤ b.heap.size) (h' : Below b.heap.size b c) : Below B a c := h.trans (h'.mono hB)

set_option maxHeartbeats 1000000 in
theorem pointSays_walk {w : World} {p q : Option Addr} {n m c d : Nat} {xs ys : List Int} (h : SI w p n c xs) (g : SI w q m d ys) :
    Calls Try.prog 12 #[.slice p n c, .slice q m d] w fun e w' => e = .returned (.bool true) ∧ Below w.heap.size w w' := by
  obtain ⟨er, he⟩ : ∃ er, bothErr xs ys = er := ⟨_, rfl⟩
  by_cases h0 : er = 0
  · subst h0
    obtain ⟨h1, h2, h3⟩ := bothErr_ok he
    obtain rfl : n = m := by rw [← h.1, ← g.1, h3]
    have hx := curve_of h1 h.1
    have hy := curve_of h2 g.1
    have hn := hx.le
    have hl := h.1
    have HE := Lib.hid he; have HX := Lib.hid hx; have HY := Lib.hid hy; have HL := Lib.hid hl
    clear he h1 h2 h3 hx hy hl
    go_enter Try.func12, Try.ntmps12
    go_wp2_with fail
    refine (point_Min h g HE.out).mono ?_; rintro e w1 ⟨p1, n1, c1, L1, e1, rfl, ho1, hb1, hF1⟩
    go_wp2_with fail
    refine (point_Max (h.below hb1) (g.below hb1) HE.out).mono ?_; rintro e w2 ⟨p2, n2, c2, L2, e2, rfl, ho2, hb12, hF2⟩
    have hb2 := hb1.trans (hb12.mono hb1.size)
    go_wp2_with fail
    refine (point_Sum (h.below hb2) (g.below hb2) HE.out).mono ?_; rintro e w3 ⟨p3, n3, c3, L3, e3, rfl, ho3, hb23, hF3⟩
    have hb3 := hb2.trans (hb23.mono hb2.size)
    have o1 := ho1.si.below (hb12.trans (hb23.mono hb12.size))
    have o2 := ho2.si.below hb23
    have o3 := ho3.si
    rw [HL.out] at hF1 hF2 hF3
    have HF1 := Lib.hid hF1; have HF2 := Lib.hid hF2; have HF3 := Lib.hid hF3
    clear hF1 hF2 hF3 ho1 ho2 ho3 hb12 hb23
    go_wp2_with fail
    refine (ref_Curves (h.below hb3) (g.below hb3) HE.out).mono ?_; rintro e w' ⟨rfl, rfl⟩
    go_wp2_with fail
    refine (ref_Zip (h.below hb3) (g.below hb3) (by omega) (op := opMin) (fun args w => by simp [callFunc, Try.func46, Try.f46, go_sem]) (fn_pure pointSays1 HX.out HY.out)).mono ?_
    rintro e w4 ⟨p4, n4, c4, rfl, ho4, hb34⟩
    have hb4 := hb3.trans (hb34.mono hb3.size)
    go_wp2_with fail
    refine (told_yes (o1.below hb34) ho4.si HF1.out).mono ?_; rintro e w5 ⟨rfl, hb45⟩
    have hb5 := hb4.trans (hb45.mono hb4.size)
    have k2 := o2.below (hb34.trans (hb45.mono hb34.size))
    have k3 := o3.below (hb34.trans (hb45.mono hb34.size))
    clear o1 o2 o3 hb34 hb45 ho4 hb3 hb4
    go_wp2_with fail
    refine (ref_Zip (h.below hb5) (g.below hb5) (by omega) (op := opMax) (fun args w => by simp [callFunc, Try.func47, Try.f47, go_sem]) (fn_pure pointSays2 HX.out HY.out)).mono ?_
    rintro e w6 ⟨p6, n6, c6, rfl, ho6, hb56⟩
    have hb6 := hb5.trans (hb56.mono hb5.size)
    go_wp2_with fail
    refine (told_yes (k2.below hb56) ho6.si HF2.out).mono ?_; rintro e w7 ⟨rfl, hb67⟩
    have hb7 := hb6.trans (hb67.mono hb6.size)
    have m3 := k3.below (hb56.trans (hb67.mono hb56.size))
    clear k2 k3 hb56 hb67 ho6 hb5 hb6
    go_wp2_with fail
    refine (ref_Zip (h.below hb7) (g.below hb7) (by omega) (op := opSum) (fun args w => by simp [callFunc, Try.func48, Try.f48, go_sem]) (fn_pure pointSays3 HX.out HY.out)).mono ?_
    rintro e w8 ⟨p8, n8, c8, rfl, ho8, hb78⟩
    have hb8 := hb7.trans (hb78.mono hb7.size)
    go_wp2_with fail
    refine (told_yes (m3.below hb78) ho8.si HF3.out).mono ?_; rintro e w9 ⟨rfl, hb89⟩
    have hb9 := hb8.trans (hb89.mono hb8.size)
    go_wp2
    go_ret
    exact ⟨rfl, hb9⟩
  · have HE := Lib.hid he; clear he
    have hbf := bne_false_of h0
    go_enter Try.func12, Try.ntmps12
    go_wp2_with fail
    refine (point_Min h g HE.out).mono ?_; rintro e w1 ⟨p1, n1, c1, L1, e1, rfl, ho1, hb1, hF1⟩
    go_wp2_with fail
    refine (point_Max (h.below hb1) (g.below hb1) HE.out).mono ?_; rintro e w2 ⟨p2, n2, c2, L2, e2, rfl, ho2, hb12, hF2⟩
    have hb2 := hb1.trans (hb12.mono hb1.size)
    go_wp2_with fail
    refine (point_Sum (h.below hb2) (g.below hb2) HE.out).mono ?_; rintro e w3 ⟨p3, n3, c3, L3, e3, rfl, ho3, hb23, hF3⟩
    have hb3 := hb2.trans (hb23.mono hb2.size)
    have o1 := ho1.si.below (hb12.trans (hb23.mono hb12.size))
    have o2 := ho2.si.below hb23
    have o3 := ho3.si
    have HF1 := Lib.hid (hF1.nilP h0); have HF2 := Lib.hid (hF2.nilP h0); have HF3 := Lib.hid (hF3.nilP h0)
    clear hF1 hF2 hF3 ho1 ho2 ho3 hb12 hb23
    go_wp2_with fail
    refine (ref_Curves (h.below hb3) (g.below hb3) HE.out).mono ?_; rintro e w' ⟨rfl, rfl⟩
    go_wp2_with fail
    refine (told_yes o1 (SI.nil0 _) HF1.out).mono ?_; rintro e w4 ⟨rfl, hb34⟩
    have hb4 := hb3.trans (hb34.mono hb3.size)
    go_wp2_with fail
    refine (told_yes (o2.below hb34) (SI.nil0 _) HF2.out).mono ?_; rintro e w5 ⟨rfl, hb45⟩
    have hb5 := hb4.trans (hb45.mono hb4.size)
    go_wp2_with fail
    refine (told_yes ((o3.below hb34).below hb45) (SI.nil0 _) HF3.out).mono ?_; rintro e w6 ⟨rfl, hb56⟩
    have hb6 := hb5.trans (hb56.mono hb5.size)
    go_wp2
    go_ret
    exact ⟨rfl, hb6⟩
end Go.Proofs.Ytclbcbeakefhmaa
