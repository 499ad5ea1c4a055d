/- The walk of headlaw.CatchBounds: it returns true and changes nothing that was there. No conditions. -/
import Derived.Test.YtjlfefaifeanmaaCatch
namespace Go.Proofs.Ytjlfefaifeanmaa
open Go Go.RowKit

set_option maxHeartbeats 1000000 in
theorem catchBounds_walk {w : World} {p : Option Addr} {n c : Nat} {xs : List Int} (h : SI w p n c xs) {r l : Int} (_ : -9223372036854775808 ≤ r ∧ r ≤ 9223372036854775807) (_ : -9223372036854775808 ≤ l ∧ l ≤ 9223372036854775807) :
    Calls Try.prog 8 #[.slice p n c, .int .i64 r, .int .i64 l] w fun e w' => e = .returned (.bool true) ∧ Below w.heap.size w w' := by
  obtain ⟨er, he⟩ : ∃ er, curveErr xs = er := ⟨_, rfl⟩
  by_cases h0 : er = 0
  · subst h0
    by_cases hb : badRL r l
    · have HE := Lib.hid he
      have HB : Hid (boundErr xs r l = 1) := Lib.hid (by unfold boundErr; rw [if_neg (by simp [he]), if_pos hb])
      rcases badRL_ways hb with h1 | ⟨h1, h2⟩ | ⟨h1, h2, h3⟩ | ⟨h1, h2, h3, h4⟩
      all_goals
        clear he hb
        go_enter Try.func8, Try.ntmps8
        go_wp2_with fail
        refine (catch_Bound_bad h HB.out (by omega)).mono ?_; rintro e w' ⟨rfl, rfl⟩
        go_wp2_with fail
        refine (ref_Curve h HE.out).mono ?_; rintro e w' ⟨rfl, rfl⟩
        go_wp2
        go_ret
        exact ⟨rfl, Below.refl _ _⟩
    · obtain ⟨h1, h2, h3, h4⟩ := not_badRL hb
      obtain ⟨i, hi⟩ := firstP_exists (byP xs r l) n
      have hx := curve_of he h.1
      have hn61 := hx.le
      have HE := Lib.hid he; have HB := Lib.hid hb; have HI := Lib.hid hi; have HX := Lib.hid hx
      clear he hb hi hx
      by_cases hin : i < n
      all_goals
        go_enter Try.func8, Try.ntmps8
        go_wp2_with fail
        refine (catch_Bound_ok h HE.out HB.out HI.out).mono ?_; rintro e w' ⟨rfl, rfl⟩
        go_wp2_with fail
        refine (ref_Curve h HE.out).mono ?_; rintro e w' ⟨rfl, rfl⟩
        go_wp2_with fail
        refine (ref_By h (by omega) HX.out.bd ⟨h1, by omega⟩ ⟨h3, h4⟩ HI.out).mono ?_; rintro e w1 ⟨rfl, hb1⟩
        first | rw [if_pos hin] | rw [if_neg hin]
        go_wp2
        go_ret
        exact ⟨rfl, hb1⟩
  · have hb := bne_false_of h0
    have HE := Lib.hid he
    have HB : Hid (boundErr xs r l = er) := Lib.hid (by unfold boundErr; rw [if_pos (by rw [he]; exact h0), he])
    clear he
    go_enter Try.func8, Try.ntmps8
    go_wp2_with fail
    refine (catch_Bound_bad h HB.out h0).mono ?_; rintro e w' ⟨rfl, rfl⟩
    go_wp2_with fail
    refine (ref_Curve h HE.out).mono ?_; rintro e w' ⟨rfl, rfl⟩
    go_wp2
    go_ret
    exact ⟨rfl, Below.refl _ _⟩
end Go.Proofs.Ytjlfefaifeanmaa
