/- The walk of headlaw.CurveTells: it returns true and changes nothing that was there. No conditions. -/
import Derived.Test.YtclbcbeakefhmaaLe
import Derived.Test.YtclbcbeakefhmaaEqual
namespace Go.Proofs.Ytclbcbeakefhmaa
open Go Go.RowKit

theorem cut_cases (xs : List Int) (k : Int) : (curveErr xs ≠ 0) ∨ (curveErr xs = 0 ∧ k < 0) ∨ (curveErr xs = 0 ∧ 0 ≤ k ∧ (xs.length : Int) ≤ k) ∨ (curveErr xs = 0 ∧ ∃ j : Nat, k = j ∧ j < xs.length) := by
  by_cases h : curveErr xs = 0
  · by_cases h1 : k < 0
    · exact .inr (.inl ⟨h, h1⟩)
    · by_cases h2 : (xs.length : Int) ≤ k
      · exact .inr (.inr (.inl ⟨h, by omega, h2⟩))
      · exact .inr (.inr (.inr ⟨h, k.toNat, by omega, by omega⟩))
  · exact .inl h

/-- the law's second half, from the call of Cut on: the four ways that it goes -/
inductive CutWay (xs : List Int) (n : Nat) (k : Int) : Prop
  | bad (er : Int) (h : Hid (curveErr xs = er)) (h0 : (er == 0) = false) (h1 : er ≠ 0)
  | low (h : Hid (curveErr xs = 0)) (h1 : decide (k < 0) = true) (h2 : k < 0)
  | high (h : Hid (curveErr xs = 0)) (h1 : decide (k < 0) = false) (h2 : decide ((n : Int) ≤ k) = true) (h3 : (n : Int) ≤ k)
  | ok (j : Nat) (h : Hid (curveErr xs = 0)) (hk : Hid (k = j)) (hj : j < n) (hn : n ≤ 61)

theorem cut_way {xs : List Int} {n : Nat} {k : Int} (hl : xs.length = n) : CutWay xs n k := by
  rcases cut_cases xs k with h | ⟨h, h1⟩ | ⟨h, h1, h2⟩ | ⟨h, j, h1, h2⟩
  · exact .bad _ (Lib.hid rfl) (bne_false_of h) h
  · exact .low (Lib.hid h) (by simp; omega) h1
  · rw [hl] at h2; exact .high (Lib.hid h) (by simp; omega) (by simp; omega) h2
  · rw [hl] at h2; exact .ok j (Lib.hid h) (Lib.hid h1) h2 (curve_of h hl).le

set_option maxHeartbeats 1000000 in
theorem curveTells_walk {w : World} {p q : Option Addr} {n c m d : Nat} {xs ys : List Int} {k : Int} (h : SI w p n c xs) (g : SI w q m d ys) (_hk : -9223372036854775808 ≤ k ∧ k ≤ 9223372036854775807) :
    Calls Try.prog 5 #[.slice p n c, .slice q m d, .int .i64 k] w fun e w' => e = .returned (.bool true) ∧ Below w.heap.size w w' := by
  have hway := cut_way (k := k) h.1
  have hnc := h.2.1
  by_cases h0 : bothErr xs ys = 0
  · obtain ⟨h1, h2, h3⟩ := bothErr_ok h0
    obtain rfl : n = m := by rw [← h.1, ← g.1, h3]
    have HE := Lib.hid h0; clear h0 h1 h2 h3
    obtain ⟨r, hr⟩ : ∃ r : Bool, r = true ↔ LeN n xs ys := by
      by_cases hle : LeN n xs ys
      · exact ⟨true, by simp [hle]⟩
      · exact ⟨false, by simp [hle]⟩
    have HR := Lib.hid hr; clear hr
    rcases hway with ⟨er, HC, hf, hne⟩ | ⟨HC, b1, hk1⟩ | ⟨HC, b1, b2, hk1⟩ | ⟨j, HC, HJ, hj, hn61⟩
    · exact absurd ((bothErr_ok HE.out).1.symm.trans HC.out).symm hne
    · go_enter Try.func5, Try.ntmps5
      go_wp2_with fail
      refine (curve_Le h g HE.out HR.out).mono ?_; rintro e w1 ⟨rfl, hb⟩
      go_wp2_with fail
      refine (ref_Curves (h.below hb) (g.below hb) HE.out).mono ?_; rintro e w' ⟨rfl, rfl⟩
      go_wp2_with fail
      refine (ref_Le (h.below hb) (g.below hb) (Nat.le_refl _) HR.out).mono ?_; rintro e w2 ⟨rfl, s, rfl⟩
      go_wp2_with fail
      refine (curve_Cut_bad ((h.below hb).drewN s) (cutErr_arg HC.out (.inl hk1)) (by omega)).mono ?_; rintro e w' ⟨rfl, rfl⟩
      go_wp2_with fail
      refine (ref_Curve ((h.below hb).drewN s) HC.out).mono ?_; rintro e w' ⟨rfl, rfl⟩
      go_wp2
      go_ret
      exact ⟨rfl, below_drewN hb _⟩
    · go_enter Try.func5, Try.ntmps5
      go_wp2_with fail
      refine (curve_Le h g HE.out HR.out).mono ?_; rintro e w1 ⟨rfl, hb⟩
      go_wp2_with fail
      refine (ref_Curves (h.below hb) (g.below hb) HE.out).mono ?_; rintro e w' ⟨rfl, rfl⟩
      go_wp2_with fail
      refine (ref_Le (h.below hb) (g.below hb) (Nat.le_refl _) HR.out).mono ?_; rintro e w2 ⟨rfl, s, rfl⟩
      go_wp2_with fail
      refine (curve_Cut_bad ((h.below hb).drewN s) (cutErr_arg HC.out (.inr (by rw [h.1]; exact hk1))) (by omega)).mono ?_; rintro e w' ⟨rfl, rfl⟩
      go_wp2_with fail
      refine (ref_Curve ((h.below hb).drewN s) HC.out).mono ?_; rintro e w' ⟨rfl, rfl⟩
      go_wp2
      go_ret
      exact ⟨rfl, below_drewN hb _⟩
    · obtain rfl := HJ.out
      clear HJ _hk
      have b1 : decide ((j : Int) < 0) = false := by simp
      have b2 : decide ((n : Int) ≤ (j : Int)) = false := by simp; omega
      obtain ⟨b, off, rfl, _, _⟩ := h.cells (by omega)
      go_enter Try.func5, Try.ntmps5
      go_wp2_with fail
      refine (curve_Le h g HE.out HR.out).mono ?_; rintro e w1 ⟨rfl, hb⟩
      go_wp2_with fail
      refine (ref_Curves (h.below hb) (g.below hb) HE.out).mono ?_; rintro e w' ⟨rfl, rfl⟩
      go_wp2_with fail
      refine (ref_Le (h.below hb) (g.below hb) (Nat.le_refl _) HR.out).mono ?_; rintro e w2 ⟨rfl, s, rfl⟩
      go_wp2_with fail
      refine (curve_Cut_ok ((h.below hb).drewN s) HC.out hj hn61).mono ?_; rintro e w2 ⟨p2, n2, c2, L, er, rfl, ho, hb2, rfl, rfl⟩
      have hb3 : Below w.heap.size w w2 := (below_drewN hb s).trans (hb2.mono (below_drewN hb s).size)
      clear hb2
      go_wp2_with fail
      refine (ref_Curve (h.below hb3) HC.out).mono ?_; rintro e w' ⟨rfl, rfl⟩
      go_wp2_with fail
      refine (slices_Equal ho.si ((h.below hb3).take (by omega)) (r := true) (by simp)).mono ?_; rintro e w4 ⟨rfl, hb4⟩
      go_wp2
      go_ret
      exact ⟨rfl, hb3.trans (hb4.mono hb3.size)⟩
  · obtain ⟨eb, heb⟩ : ∃ eb, bothErr xs ys = eb := ⟨_, rfl⟩
    rw [heb] at h0
    have HE := Lib.hid heb; clear heb
    have hbf := bne_false_of h0
    rcases hway with ⟨er, HC, hf, hne⟩ | ⟨HC, b1, hk1⟩ | ⟨HC, b1, b2, hk1⟩ | ⟨j, HC, HJ, hj, hn61⟩
    · go_enter Try.func5, Try.ntmps5
      go_wp2_with fail
      refine (curve_Le_bad h g HE.out h0).mono ?_; rintro e w1 ⟨rfl, hb⟩
      go_wp2_with fail
      refine (ref_Curves (h.below hb) (g.below hb) HE.out).mono ?_; rintro e w' ⟨rfl, rfl⟩
      go_wp2_with fail
      refine (curve_Cut_bad (h.below hb) ((cutErr_bad (by rw [HC.out]; exact hne)).trans HC.out) hne).mono ?_; rintro e w' ⟨rfl, rfl⟩
      go_wp2_with fail
      refine (ref_Curve (h.below hb) HC.out).mono ?_; rintro e w' ⟨rfl, rfl⟩
      go_wp2
      go_ret
      exact ⟨rfl, hb⟩
    · go_enter Try.func5, Try.ntmps5
      go_wp2_with fail
      refine (curve_Le_bad h g HE.out h0).mono ?_; rintro e w1 ⟨rfl, hb⟩
      go_wp2_with fail
      refine (ref_Curves (h.below hb) (g.below hb) HE.out).mono ?_; rintro e w' ⟨rfl, rfl⟩
      go_wp2_with fail
      refine (curve_Cut_bad (h.below hb) (cutErr_arg HC.out (.inl hk1)) (by omega)).mono ?_; rintro e w' ⟨rfl, rfl⟩
      go_wp2_with fail
      refine (ref_Curve (h.below hb) HC.out).mono ?_; rintro e w' ⟨rfl, rfl⟩
      go_wp2
      go_ret
      exact ⟨rfl, hb⟩
    · go_enter Try.func5, Try.ntmps5
      go_wp2_with fail
      refine (curve_Le_bad h g HE.out h0).mono ?_; rintro e w1 ⟨rfl, hb⟩
      go_wp2_with fail
      refine (ref_Curves (h.below hb) (g.below hb) HE.out).mono ?_; rintro e w' ⟨rfl, rfl⟩
      go_wp2_with fail
      refine (curve_Cut_bad (h.below hb) (cutErr_arg HC.out (.inr (by rw [h.1]; exact hk1))) (by omega)).mono ?_; rintro e w' ⟨rfl, rfl⟩
      go_wp2_with fail
      refine (ref_Curve (h.below hb) HC.out).mono ?_; rintro e w' ⟨rfl, rfl⟩
      go_wp2
      go_ret
      exact ⟨rfl, hb⟩
    · obtain rfl := HJ.out
      clear HJ _hk
      have b1 : decide ((j : Int) < 0) = false := by simp
      have b2 : decide ((n : Int) ≤ (j : Int)) = false := by simp; omega
      obtain ⟨b, off, rfl, _, _⟩ := h.cells (by omega)
      go_enter Try.func5, Try.ntmps5
      go_wp2_with fail
      refine (curve_Le_bad h g HE.out h0).mono ?_; rintro e w1 ⟨rfl, hb⟩
      go_wp2_with fail
      refine (ref_Curves (h.below hb) (g.below hb) HE.out).mono ?_; rintro e w' ⟨rfl, rfl⟩
      go_wp2_with fail
      refine (curve_Cut_ok (h.below hb) HC.out hj hn61).mono ?_; rintro e w2 ⟨p2, n2, c2, L, er, rfl, ho, hb2, rfl, rfl⟩
      have hb3 : Below w.heap.size w w2 := hb.trans (hb2.mono hb.size)
      clear hb2
      go_wp2_with fail
      refine (ref_Curve (h.below hb3) HC.out).mono ?_; rintro e w' ⟨rfl, rfl⟩
      go_wp2_with fail
      refine (slices_Equal ho.si ((h.below hb3).take (by omega)) (r := true) (by simp)).mono ?_; rintro e w4 ⟨rfl, hb4⟩
      go_wp2
      go_ret
      exact ⟨rfl, hb3.trans (hb4.mono hb3.size)⟩
end Go.Proofs.Ytclbcbeakefhmaa
