/- The contracts of curve.Both and headref.Curves: each answers 'bothErr' of the two lists. No conditions. -/
import Derived.Test.YtgbccpfehcjhbaaGreatDoorCurve
namespace Go.Proofs.YtgbccpfehcjhbaaGreatDoor
open Go Go.RowKit

def bothErr (f g : List Int) : Int := if curveErr f ≠ 0 then curveErr f else if curveErr g ≠ 0 then curveErr g else if f.length = g.length then 0 else 4

theorem bothErr_ok {f g : List Int} (h : bothErr f g = 0) : curveErr f = 0 ∧ curveErr g = 0 ∧ f.length = g.length := by
  unfold bothErr at h
  by_cases h1 : curveErr f = 0
  · by_cases h2 : curveErr g = 0
    · by_cases h3 : f.length = g.length
      · exact ⟨h1, h2, h3⟩
      · simp [h1, h2, h3] at h
    · simp [h1, h2] at h
  · simp [h1] at h

theorem bne_false_of {a : Int} (h : ¬ a = 0) : (a == 0) = false := by simp [h]

set_option maxHeartbeats 400000 in
theorem curve_Both {w : World} {p q : Option Addr} {n c m d : Nat} {xs ys : List Int} (h : SI w p n c xs) (g : SI w q m d ys) {er : Int} (he : bothErr xs ys = er) :
    Calls Tryz.prog 32 #[.slice p n c, .slice q m d] w fun e w' => e = .returned (.int .i64 er) ∧ w = w' := by
  have HE := Lib.hid he; clear he
  by_cases h1 : curveErr xs = 0
  · by_cases h2 : curveErr ys = 0
    · by_cases h3 : n = m
      · obtain rfl : 0 = er := by rw [← HE.out]; unfold bothErr; rw [h1, h2, h.1, g.1, h3]; simp
        have H1 := Lib.hid h1; have H2 := Lib.hid h2; clear h1 h2
        subst h3
        go_enter Tryz.func32, Tryz.ntmps32
        go_wp2_with fail
        refine (curve_Check h H1.out).mono ?_; rintro e w' ⟨rfl, rfl⟩
        go_wp2_with fail
        refine (curve_Check g H2.out).mono ?_; rintro e w' ⟨rfl, rfl⟩
        go_wp2
        go_ret
        exact ⟨rfl, rfl⟩
      · obtain rfl : 4 = er := by rw [← HE.out]; unfold bothErr; rw [h1, h2, h.1, g.1]; simp [h3]
        have H1 := Lib.hid h1; have H2 := Lib.hid h2; clear h1 h2
        have hb : ((n : Int) == (m : Int)) = false := by simp; omega
        go_enter Tryz.func32, Tryz.ntmps32
        go_wp2_with fail
        refine (curve_Check h H1.out).mono ?_; rintro e w' ⟨rfl, rfl⟩
        go_wp2_with fail
        refine (curve_Check g H2.out).mono ?_; rintro e w' ⟨rfl, rfl⟩
        go_wp2
        go_ret
        exact ⟨rfl, rfl⟩
    · obtain rfl : curveErr ys = er := by rw [← HE.out]; unfold bothErr; rw [h1]; simp [h2]
      have H1 := Lib.hid h1; clear h1
      generalize hy : curveErr ys = ey at *
      have H2 := Lib.hid hy; clear hy
      have hb := bne_false_of h2
      go_enter Tryz.func32, Tryz.ntmps32
      go_wp2_with fail
      refine (curve_Check h H1.out).mono ?_; rintro e w' ⟨rfl, rfl⟩
      go_wp2_with fail
      refine (curve_Check g H2.out).mono ?_; rintro e w' ⟨rfl, rfl⟩
      go_wp2
      go_ret
      exact ⟨rfl, rfl⟩
  · obtain rfl : curveErr xs = er := by rw [← HE.out]; unfold bothErr; simp [h1]
    generalize hx : curveErr xs = ex at *
    have H1 := Lib.hid hx; clear hx
    have hb := bne_false_of h1
    go_enter Tryz.func32, Tryz.ntmps32
    go_wp2_with fail
    refine (curve_Check h H1.out).mono ?_; rintro e w' ⟨rfl, rfl⟩
    go_wp2
    go_ret
    exact ⟨rfl, rfl⟩

set_option maxHeartbeats 400000 in
theorem ref_Curves {w : World} {p q : Option Addr} {n c m d : Nat} {xs ys : List Int} (h : SI w p n c xs) (g : SI w q m d ys) {er : Int} (he : bothErr xs ys = er) :
    Calls Tryz.prog 81 #[.slice p n c, .slice q m d] w fun e w' => e = .returned (.int .i64 er) ∧ w = w' := by
  have HE := Lib.hid he; clear he
  by_cases h1 : curveErr xs = 0
  · by_cases h2 : curveErr ys = 0
    · by_cases h3 : n = m
      · obtain rfl : 0 = er := by rw [← HE.out]; unfold bothErr; rw [h1, h2, h.1, g.1, h3]; simp
        have H1 := Lib.hid h1; have H2 := Lib.hid h2; clear h1 h2
        subst h3
        go_enter Tryz.func81, Tryz.ntmps81
        go_wp2_with fail
        refine (ref_Curve h H1.out).mono ?_; rintro e w' ⟨rfl, rfl⟩
        go_wp2_with fail
        refine (ref_Curve g H2.out).mono ?_; rintro e w' ⟨rfl, rfl⟩
        go_wp2
        go_ret
        exact ⟨rfl, rfl⟩
      · obtain rfl : 4 = er := by rw [← HE.out]; unfold bothErr; rw [h1, h2, h.1, g.1]; simp [h3]
        have H1 := Lib.hid h1; have H2 := Lib.hid h2; clear h1 h2
        have hb : ((n : Int) == (m : Int)) = false := by simp; omega
        go_enter Tryz.func81, Tryz.ntmps81
        go_wp2_with fail
        refine (ref_Curve h H1.out).mono ?_; rintro e w' ⟨rfl, rfl⟩
        go_wp2_with fail
        refine (ref_Curve g H2.out).mono ?_; rintro e w' ⟨rfl, rfl⟩
        go_wp2
        go_ret
        exact ⟨rfl, rfl⟩
    · obtain rfl : curveErr ys = er := by rw [← HE.out]; unfold bothErr; rw [h1]; simp [h2]
      have H1 := Lib.hid h1; clear h1
      generalize hy : curveErr ys = ey at *
      have H2 := Lib.hid hy; clear hy
      have hb := bne_false_of h2
      go_enter Tryz.func81, Tryz.ntmps81
      go_wp2_with fail
      refine (ref_Curve h H1.out).mono ?_; rintro e w' ⟨rfl, rfl⟩
      go_wp2_with fail
      refine (ref_Curve g H2.out).mono ?_; rintro e w' ⟨rfl, rfl⟩
      go_wp2
      go_ret
      exact ⟨rfl, rfl⟩
  · obtain rfl : curveErr xs = er := by rw [← HE.out]; unfold bothErr; simp [h1]
    generalize hx : curveErr xs = ex at *
    have H1 := Lib.hid hx; clear hx
    have hb := bne_false_of h1
    go_enter Tryz.func81, Tryz.ntmps81
    go_wp2_with fail
    refine (ref_Curve h H1.out).mono ?_; rintro e w' ⟨rfl, rfl⟩
    go_wp2
    go_ret
    exact ⟨rfl, rfl⟩
end Go.Proofs.YtgbccpfehcjhbaaGreatDoor
