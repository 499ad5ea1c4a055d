/- The functions of two lists that the desk calls: conv.Of, deconv.Of, and the closure round bound.Back (P77). Conditions: what each theorem says. -/
import Derived.Test.YtgbccpfehcjhbaaGreatDoorDkTwo
import Derived.Test.YtgbccpfehcjhbaaGreatDoorChainLaw
import Derived.Test.YtgbccpfehcjhbaaGreatDoorDeconv
namespace Go.Proofs.YtgbccpfehcjhbaaGreatDoor
open Go Go.RowKit
set_option linter.unusedVariables false
set_option linter.unusedSimpArgs false

theorem tellable_curve {Y : List Int} (h : curveErr Y = 0) : tellable Y := by
  have hc := curve_of h rfl
  refine ⟨by have := hc.le; omega, fun x hx => ?_⟩
  obtain ⟨j, hj, rfl⟩ := List.getElem_of_mem hx
  have := hc.bd j hj
  rw [gi_get hj] at this
  omega
theorem tellable_conv {xs ys : List Int} (h : bothErr xs ys = 0) (hf : fits (convL xs ys)) : tellable (convL xs ys) := by
  obtain ⟨h1, h2, h3⟩ := bothErr_ok h
  exact tellable_curve (chain_curve (curve_of h1 rfl) (curve_of h2 h3.symm) hf)
theorem tellable_deconv {xs ys : List Int} (h : bothErr xs ys = 0) : tellable (dcvL xs ys) := by
  obtain ⟨h1, h2, h3⟩ := bothErr_ok h
  exact tellable_curve (dcv_curve (curve_of h1 rfl) (curve_of h2 h3.symm))
theorem back_bd {xs ys : List Int} (h : bothErr xs ys = 0) : 0 ≤ backV xs ys ∧ backV xs ys ≤ 1000000 := by
  obtain ⟨h1, h2, h3⟩ := bothErr_ok h
  have a := curve_of h1 rfl
  have b := curve_of h2 h3.symm
  unfold backV
  exact ⟨mxf_ge.1, mxf_le (by omega) fun u hu => by have := a.bd u hu; have := b.bd u hu; omega⟩
theorem fits_one {x : Int} (h : x ≤ 1000000) : fits [x] := fun j hj => by
  obtain rfl : j = 0 := by simpa using hj
  exact h
theorem tellable_one {x : Int} (h : -1000000000000 ≤ x ∧ x ≤ 1000000000000) : tellable [x] := ⟨by simp, fun y hy => by simp only [List.mem_singleton] at hy; subst hy; exact h⟩
theorem bound_Back_bad' {w : World} {p q : Option Addr} {n c m d : Nat} {xs ys : List Int} (h : SI w p n c xs) (g : SI w q m d ys) {er : Int} (he : bothErr xs ys = er) (h0 : er ≠ 0) :
    Calls Tryz.prog 16 #[.slice p n c, .slice q m d] w fun e w' => e = .returned (.tuple #[.int .i64 0, .int .i64 er]) ∧ Below w.heap.size w w' := by
  have hb := bne_false_of h0
  have HE := Lib.hid he; clear he
  go_enter Tryz.func16, Tryz.ntmps16
  go_wp2_with fail
  refine (curve_Both h g HE.out).mono ?_; rintro e w' ⟨rfl, rfl⟩
  go_wp2
  go_ret2
  exact ⟨rfl, Below.refl _ _⟩
theorem dk_Back {w : World} {p q : Option Addr} {n c m d : Nat} {xs ys : List Int} (h : SI w p n c xs) (g : SI w q m d ys) :
    Calls Tryz.prog 16 #[.slice p n c, .slice q m d] w fun e w' => (∃ x, e = .returned (.tuple #[.int .i64 x, .int .i64 (bothErr xs ys)]) ∧ (bothErr xs ys = 0 → x = backV xs ys)) ∧ Below w.heap.size w w' := by
  by_cases h0 : bothErr xs ys = 0
  · obtain ⟨h1, h2, h3⟩ := bothErr_ok h0
    have hx := curve_of h1 h.len
    have hy := curve_of h2 (by rw [← h3]; exact h.len : ys.length = n)
    obtain rfl : n = m := by rw [← h.len, ← g.len]; exact h3
    exact (bound_Back_ok h g hx hy h0).mono fun e w' ⟨he, hb⟩ => ⟨⟨_, by rw [h0]; exact he, fun _ => rfl⟩, hb⟩
  · exact (bound_Back_bad' h g rfl h0).mono fun e w' ⟨he, hb⟩ => ⟨⟨_, he, fun h => absurd h h0⟩, hb⟩theorem fun2_conv (xs ys : List Int) : Fun2 14 xs ys (bothErr xs ys) (convL xs ys) :=
  ⟨fun args w => by simp [callFunc, Tryz.func14, Tryz.f14, go_sem], fun w p q n c m d h g => (conv_Of h g rfl).mono fun e w' ⟨p', n', c', L, er, he, ho, hb, hF⟩ => ⟨p', n', c', L, er, he, ho, hb, TFit.of hF⟩⟩
theorem fun2_deconv (xs ys : List Int) : Fun2 15 xs ys (bothErr xs ys) (dcvL xs ys) :=
  ⟨fun args w => by simp [callFunc, Tryz.func15, Tryz.f15, go_sem], fun w p q n c m d h g => (deconv_Of h g rfl).mono fun e w' ⟨p', n', c', L, er, he, ho, hb, hF⟩ => ⟨p', n', c', L, er, he, ho, hb, TFit.of hF⟩⟩
set_option maxHeartbeats 800000 in
theorem fun2_back (xs ys : List Int) : Fun2 55 xs ys (bothErr xs ys) [backV xs ys] := by
  refine ⟨fun args w => by simp [callFunc, Tryz.func55, Tryz.f55, go_sem], fun w p q n c m d h g => ?_⟩
  have HC := Lib.hid (dk_Back h g)
  obtain ⟨er, he⟩ : ∃ er, bothErr xs ys = er := ⟨_, rfl⟩
  have HT : Hid (∀ x, (er = 0 → x = backV xs ys) → TFit er [backV xs ys] [x] er) := Lib.hid (fun x hx => by
    by_cases h0 : er = 0
    · subst h0
      rw [hx rfl]
      exact .inr (.inr ⟨rfl, fits_one (back_bd he).2, rfl, rfl⟩)
    · exact .inl ⟨h0, rfl⟩)
  rw [he] at HC ⊢
  clear h g he
  go_enter Tryz.func55, Tryz.ntmps55
  go_wp2_with fail
  refine HC.out.mono ?_; rintro e w1 ⟨⟨x, rfl, hx⟩, b1⟩
  have HX := Lib.hid hx
  clear hx
  go_wp2
  go_ret2
  exact ⟨_, _, _, [x], er, rfl, (OwnI.lit1 w1 (B := w.heap.size) b1.size x), b1.alloc b1.size _, HT.out x HX.out⟩
end Go.Proofs.YtgbccpfehcjhbaaGreatDoor
