/- The contract of prio.Left (P37). No conditions beyond what each theorem says. -/
import Derived.Test.YtgbccpfehcjhbaaShape
import Derived.Test.YtgbccpfehcjhbaaCurveMk
import Derived.Test.YtgbccpfehcjhbaaLess
import Derived.Test.YtgbccpfehcjhbaaFit
namespace Go.Proofs.Ytgbccpfehcjhbaa
open Go Go.RowKit

theorem FitOf.none {er : Int} {Y L : List Int} {e1 : Int} (h : FitOf er Y L e1) (h0 : er ≠ 0) : L = [] ∧ e1 = er := by
  rcases h with h | h | h
  · exact ⟨h.2.2, h.2.1⟩
  · exact absurd h.1 h0
  · exact absurd h.1 h0
theorem lineV_zero (r : Int) (t : Nat) : lineV r 0 t = r * (t : Int) := by
  unfold lineV
  rw [show max 0 ((t : Int) - 0) = (t : Int) by omega]
theorem line_curve {r : Int} {n : Nat} (h0 : 0 < n) (h1 : n ≤ 61) (r0 : 0 ≤ r) (r1 : r ≤ 10000) : curveErr (tab n (lineV r 0)) = 0 := by
  refine curve_tab h0 h1 (fun j hj => ?_) (fun i j hij hj => ?_)
  · rw [lineV_zero]
    have := rt_bd r0 r1 (t := (j : Int)) (by omega) (by omega)
    omega
  · rw [lineV_zero, lineV_zero]
    exact Int.mul_le_mul_of_nonneg_left (by omega) r0

set_option maxHeartbeats 1000000 in
theorem prio_Left_bad {w : World} {p : Option Addr} {n c : Nat} {xs : List Int} {r : Int} (h : SI w p n c xs) {er : Int} (he : curveErr xs = er) (h0 : er ≠ 0) :
    Calls Try.prog 13 #[.slice p n c, .int .i64 r] w fun e w' => e = .returned (.tuple #[.slice none 0 0, .int .i64 er]) ∧ w = w' := by
  have hb := bne_false_of h0
  go_enter Try.func13, Try.ntmps13
  go_wp2_with fail
  refine (curve_Check h he).mono ?_; rintro e w' ⟨rfl, rfl⟩
  go_wp2
  go_ret2
  exact ⟨rfl, rfl⟩
set_option maxHeartbeats 1000000 in
theorem prio_Left_arg {w : World} {p : Option Addr} {n c : Nat} {xs : List Int} {r : Int} (h : SI w p n c xs) (he : curveErr xs = 0) (hr : r < 0 ∨ 10000 < r) :
    Calls Try.prog 13 #[.slice p n c, .int .i64 r] w fun e w' => e = .returned (.tuple #[.slice none 0 0, .int .i64 1]) ∧ Below w.heap.size w w' := by
  have hx := curve_of he h.1
  have hn := hx.le
  have hm := h.2.1
  have HE := Lib.hid he; clear he hx
  go_enter Try.func13, Try.ntmps13
  go_wp2_with fail
  refine (curve_Check h HE.out).mono ?_; rintro e w' ⟨rfl, rfl⟩
  go_wp2_with fail
  refine (shape_Line (n := 0)).mono ?_; rintro e w1 ⟨p1, n1, c1, L1, e1, rfl, ho1, hb1, hF⟩
  obtain ⟨rfl, rfl⟩ := hF.none (by rw [shErr_one (by omega)]; omega)
  rw [shErr_one (by omega)]
  clear hF
  go_wp2
  go_ret2
  exact ⟨rfl, hb1⟩

set_option maxHeartbeats 1000000 in
theorem prio_Left_ok {w : World} {p : Option Addr} {n c : Nat} {xs : List Int} {r : Int} (h : SI w p n c xs) (he : curveErr xs = 0) (r0 : 0 ≤ r) (r1 : r ≤ 10000) :
    Calls Try.prog 13 #[.slice p n c, .int .i64 r] w (RetL w (FitOf 0 (lessL (tab n (lineV r 0)) xs))) := by
  have hx := curve_of he h.1
  have hn := hx.le
  have hpos := hx.pos
  have hm := h.2.1
  have hl := h.1
  have HE := Lib.hid he; have HL := Lib.hid hl; clear he hx hl
  have HS := Lib.hid (show shErr ((n : Int) - 1) r ((0 : Int) < 0 ∨ (60 : Int) < 0) = 0 by unfold shErr; rw [if_neg (by omega)])
  have HN := Lib.hid (show ((n : Int) - 1).toNat + 1 = n by omega)
  have HC := Lib.hid (line_curve hpos hn r0 r1)
  go_enter Try.func13, Try.ntmps13
  go_wp2_with fail
  refine (curve_Check h HE.out).mono ?_; rintro e w' ⟨rfl, rfl⟩
  go_wp2_with fail
  refine (shape_Line (n := 0)).mono ?_; rintro e w1 ⟨p1, n1, c1, L1, e1, rfl, ho1, hb1, hF⟩
  rw [HS.out, HN.out] at hF
  have hfit : fits (tab n (lineV r 0)) := fun j hj => by
    rw [tab_length] at hj
    rw [gi_tab hj, lineV_zero]
    have := rt_bd r0 r1 (t := (j : Int)) (by omega) (by omega)
    omega
  obtain ⟨rfl, rfl⟩ : e1 = 0 ∧ L1 = tab n (lineV r 0) := by
    rcases hF with ⟨a, _⟩ | ⟨_, a, _⟩ | ⟨_, _, a, b⟩
    · exact absurd rfl a
    · exact absurd hfit a
    · exact ⟨a, b⟩
  clear hF hfit
  have h1 := h.below hb1
  have s1 := ho1.si
  clear ho1 h
  go_wp2_with fail
  refine (point_Less s1 h1 (er := 0) (both_mk HC.out HE.out (by rw [tab_length, HL.out]))).mono ?_; rintro e w2 ⟨p2, n2, c2, L2, e2, rfl, ho2, hb2, hF2⟩
  have HF := Lib.hid hF2
  have hb3 := hb1.trans (hb2.mono hb1.size)
  have ho3 := ho2.base hb1.size
  clear hF2
  go_wp2
  go_ret2
  exact ⟨_, _, _, _, _, rfl, ho3, hb3, HF.out⟩
end Go.Proofs.Ytgbccpfehcjhbaa
