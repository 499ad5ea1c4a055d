/- The walk of headlaw.CatchLags: it returns true and changes nothing that was there. No conditions. -/
import Derived.Test.YtjlfefaifeanmaaLags
import Derived.Test.YtjlfefaifeanmaaEqual
namespace Go.Proofs.Ytjlfefaifeanmaa
open Go Go.RowKit

theorem lag_line {xs : List Int} {r l er : Int} (he : lagErr xs r l = er) (h0 : er ≠ 0) : (lineErr xs r = er ∧ (er = 1 → r < 0 ∨ 10000 < r ∨ traceErr xs = 1)) ∨ (lineErr xs r = 0 ∧ er = 1 ∧ (l < 0 ∨ 1000000 < l)) := by
  unfold lagErr at he
  unfold lineErr
  by_cases h1 : traceErr xs = 0
  · rw [if_neg (by simp [h1])] at he
    rw [if_neg (by simp [h1])]
    by_cases hb : badRL r l
    · rw [if_pos hb] at he
      by_cases hr : r < 0 ∨ 10000 < r
      · rw [if_pos hr]; exact .inl ⟨he, fun _ => by omega⟩
      · rw [if_neg hr]; unfold badRL at hb; exact .inr ⟨rfl, he.symm, by omega⟩
    · rw [if_neg hb] at he; exact absurd he.symm h0
  · rw [if_pos h1] at he
    rw [if_pos h1]
    exact .inl ⟨he, fun e => .inr (.inr (by omega))⟩

theorem gi_zero {xs : List Int} {r l : Int} {n : Nat} (hl : xs.length = n) {i : Nat} (hi : FirstP (zeroP xs r l) (n + 1) i) : FirstP (fun k => gi (lagL xs r l) k == 0) (n + 1) i := by
  obtain ⟨h1, h2, h3⟩ := hi
  have hg : ∀ k, k < n + 1 → gi (lagL xs r l) k = lq (gi xs) r l k := fun k hk => by unfold lagL; rw [hl, gi_tab hk]
  refine ⟨h1, fun j hj => ?_, fun h => ?_⟩
  · show (gi (lagL xs r l) j == 0) = false
    rw [hg j (by omega)]; exact h2 j hj
  · show (gi (lagL xs r l) i == 0) = true
    rw [hg i h]; exact h3 h

set_option maxHeartbeats 1000000 in
theorem catchLags_walk {w : World} {p : Option Addr} {n c : Nat} {xs : List Int} (h : SI w p n c xs) {r l : Int} (_ : -9223372036854775808 ≤ r ∧ r ≤ 9223372036854775807) (_ : -9223372036854775808 ≤ l ∧ l ≤ 9223372036854775807) :
    Calls Try.prog 9 #[.slice p n c, .int .i64 r, .int .i64 l] w fun e w' => e = .returned (.bool true) ∧ Below w.heap.size w w' := by
  obtain ⟨er, he⟩ : ∃ er, lagErr xs r l = er := ⟨_, rfl⟩
  by_cases h0 : er = 0
  · subst h0
    obtain ⟨ht, hnb⟩ := lag_ok he
    obtain ⟨r0, r1, l0, l1⟩ := not_badRL hnb
    obtain ⟨h60, hok⟩ := trace_ok ht
    have hl := h.1
    have hbd : ∀ j, j < n → 0 ≤ gi xs j ∧ gi xs j ≤ 1000000 := by rw [← hl]; intro j hj; have := hok j hj; omega
    rw [hl] at h60
    obtain ⟨i, hi⟩ := firstP_exists (zeroP xs r l) (n + 1)
    have HZ := Lib.hid (gi_zero hl hi)
    have HLI := Lib.hid (show lineErr xs r = 0 by unfold lineErr; rw [if_neg (by simp [ht]), if_neg (by omega)])
    have HL := Lib.hid hl; have HE := Lib.hid he; have HI := Lib.hid hi; have HBD := Lib.hid hbd
    clear hl he hi hbd ht hnb hok
    by_cases hin : i < n + 1
    all_goals
      go_enter Try.func9, Try.ntmps9
      go_wp2_with fail
      refine (catch_Lag_ok h HE.out).mono ?_; rintro e w1 ⟨p1, n1, c1, L1, er, rfl, ho1, hb1, rfl, rfl⟩
      have s1 := ho1.si
      have h1 := h.below hb1
      clear ho1
      go_wp2_with fail
      refine (catch_Done_ok h1 HE.out HI.out).mono ?_; rintro e w2 ⟨rfl, hb12⟩
      first | rw [if_pos hin, if_pos hin] | rw [if_neg hin, if_neg hin]
      have h2 := h1.below hb12; have s2 := s1.below hb12
      have hb2 := hb1.trans (hb12.mono hb1.size)
      clear hb1 hb12 h1 s1
      go_wp2_with fail
      refine (law_rated h2 HLI.out).mono ?_; rintro e w3 ⟨rfl, hb23⟩
      have h3 := h2.below hb23; have s3 := s2.below hb23
      have hb3 := hb2.trans (hb23.mono hb2.size)
      clear hb2 hb23 h2 s2
      go_wp2_with fail
      refine (ref_Lag h3 (by omega) HBD.out r0 r1 l0 l1).mono ?_; rintro e w4 ⟨p4, n4, c4, rfl, ho4, hb34⟩
      have hn4 := ho4.len
      have s4 := ho4.si
      unfold lagL at hn4
      rw [tab_length, HL.out] at hn4
      subst hn4
      have s3 := s3.below hb34
      have hb4 := hb3.trans (hb34.mono hb3.size)
      clear hb3 hb34 h3 ho4
      go_wp2_with fail
      refine (slices_Equal s3 s4 (r := true) (by simp)).mono ?_; rintro e w5 ⟨rfl, hb45⟩
      have s5 := s4.below hb45
      have hb5 := hb4.trans (hb45.mono hb4.size)
      clear hb4 hb45 s4
      go_wp2_with fail
      refine (slices_Index s5 HZ.out).mono ?_; rintro e w6 ⟨rfl, hb56⟩
      first | rw [if_pos hin] | rw [if_neg hin]
      have hb6 := hb5.trans (hb56.mono hb5.size)
      go_wp2
      go_ret
      exact ⟨rfl, hb6⟩
  · have hb := bne_false_of h0
    rcases lag_line he h0 with ⟨h1, _⟩ | ⟨h1, rfl, h2⟩
    · have HE := Lib.hid he; have H1 := Lib.hid h1; clear he h1
      go_enter Try.func9, Try.ntmps9
      go_wp2_with fail
      refine (catch_Lag_bad h HE.out h0).mono ?_; rintro e w' ⟨rfl, rfl⟩
      go_wp2_with fail
      refine (catch_Done_bad h HE.out h0).mono ?_; rintro e w' ⟨rfl, rfl⟩
      go_wp2_with fail
      refine (law_rated h H1.out).mono ?_; rintro e w3 ⟨rfl, hb3⟩
      go_wp2
      go_ret
      exact ⟨rfl, hb3⟩
    · have HE := Lib.hid he; have H1 := Lib.hid h1; clear he h1
      rcases (show l < 0 ∨ (0 ≤ l ∧ 1000000 < l) by omega) with h3 | ⟨h3, h4⟩
      all_goals
        clear h2
        go_enter Try.func9, Try.ntmps9
        go_wp2_with fail
        refine (catch_Lag_bad h HE.out (by omega)).mono ?_; rintro e w' ⟨rfl, rfl⟩
        go_wp2_with fail
        refine (catch_Done_bad h HE.out (by omega)).mono ?_; rintro e w' ⟨rfl, rfl⟩
        go_wp2_with fail
        refine (law_rated h H1.out).mono ?_; rintro e w3 ⟨rfl, hb3⟩
        go_wp2
        go_ret
        exact ⟨rfl, hb3⟩
end Go.Proofs.Ytjlfefaifeanmaa
