/- The walk of headlaw.ShareSays: it returns true and changes nothing that was there. No conditions. -/
import Derived.Test.YtggpcceljipelaaShared
import Derived.Test.YtggpcceljipelaaEqual
namespace Go.Proofs.Ytggpcceljipelaa
open Go Go.RowKit

def badS (v : Int) : Bool := decide (v < 0) || decide (1000 < v)
theorem badS_false {v : Int} : badS v = false ↔ 0 ≤ v ∧ v ≤ 1000 := by simp [badS]
theorem badS_true {v : Int} : badS v = true ↔ v < 0 ∨ 1000 < v := by simp [badS]

set_option maxHeartbeats 400000 in
theorem shareSays1 {v : Int} {w : World} :
    Calls Try.prog 51 #[.int .i64 v] w fun e w' => e = .returned (.bool (badS v)) ∧ w = w' := by
  rcases (show v < 0 ∨ (0 ≤ v ∧ 1000 < v) ∨ (0 ≤ v ∧ v ≤ 1000) by omega) with h1 | ⟨h1, h2⟩ | ⟨h1, h2⟩
  · have HB := Lib.hid (badS_true.2 (show v < 0 ∨ 1000 < v by omega))
    go_enter Try.func51, Try.ntmps51
    go_wp2
    go_ret
    exact ⟨ret_bool (by rw [HB.out]; try (simp; omega)), rfl⟩
  · have HB := Lib.hid (badS_true.2 (show v < 0 ∨ 1000 < v by omega))
    have g2 : decide (1000 < v) = true := by simp; omega
    go_enter Try.func51, Try.ntmps51
    go_wp2
    go_ret
    exact ⟨ret_bool (by rw [HB.out]; try (simp; omega)), rfl⟩
  · have HB := Lib.hid (badS_false.2 (show (0 ≤ v ∧ v ≤ 1000) by omega))
    have g2 : decide (1000 < v) = false := by simp; omega
    go_enter Try.func51, Try.ntmps51
    go_wp2
    go_ret
    exact ⟨ret_bool (by rw [HB.out]; try (simp; omega)), rfl⟩

theorem share_nil : shareErr [] 0 = 1 := by decide

set_option maxHeartbeats 1000000 in
theorem shareSays_walk {w : World} {p : Option Addr} {n c : Nat} {xs : List Int} (h : SI w p n c xs) {r : Int} (_ : -9223372036854775808 ≤ r ∧ r ≤ 9223372036854775807) :
    Calls Try.prog 11 #[.slice p n c, .int .i64 r] w fun e w' => e = .returned (.bool true) ∧ Below w.heap.size w w' := by
  have hl := h.1
  have hm := h.2.1
  have HL := Lib.hid hl; clear hl
  by_cases h8 : 8 < n
  · have HE : Hid (shareErr xs r = 2) := Lib.hid (by unfold shareErr; rw [HL.out, if_pos h8])
    have hb1 : decide ((8 : Int) < (n : Int)) = true := by simp; omega
    go_enter Try.func11, Try.ntmps11
    go_wp2_with fail
    refine (share_Done_bad h HE.out (by omega)).mono ?_; rintro e w' ⟨rfl, rfl⟩
    go_wp2_with fail
    refine (share_Check h HE.out).mono ?_; rintro e w' ⟨rfl, rfl⟩
    go_wp2_with fail
    refine (share_Check (SI.nil0 _) share_nil).mono ?_; rintro e w' ⟨rfl, rfl⟩
    go_wp2
    go_ret
    exact ⟨rfl, Below.refl _ _⟩
  have hb1 : decide ((8 : Int) < (n : Int)) = false := by simp; omega
  obtain ⟨i, hi⟩ := firstP_exists (fun k => badS (gi xs k)) n
  have hcall : ∀ (w : World) (w' : World) (k : Nat), k < n → Below w.heap.size w w' → Calls Try.prog 51 (#[.int .i64 (gi xs k)] ++ #[]) w' fun e w'' => e = .returned (.bool (badS (gi xs k))) ∧ Below w.heap.size w w'' := by
    intro w w' k hk hb
    exact (shareSays1 (v := gi xs k) (w := w')).mono fun e w'' ⟨he, hw⟩ => ⟨he, by rw [← hw]; exact hb⟩
  have HCALL := Lib.hid hcall; clear hcall
  by_cases hin : i < n
  · have HE : Hid (shareErr xs r = 1) := Lib.hid (share_bad (j := i) (by rw [HL.out]; exact h8) (by rw [HL.out]; exact hin) (badS_true.1 (hi.2.2 hin)))
    have HI := Lib.hid hi; clear hi
    have HD := Lib.hid (show decide (i < n) = true by simp [hin])
    go_enter Try.func11, Try.ntmps11
    go_wp2_with fail
    refine (share_Done_bad h HE.out (by omega)).mono ?_; rintro e w' ⟨rfl, rfl⟩
    go_wp2_with fail
    refine (slices_ContainsFunc h HI.out (fun args w => by simp [callFunc, Try.func51, Try.f51, go_sem]) (HCALL.out w)).mono ?_; rintro e w1 ⟨rfl, hb1'⟩
    rw [HD.out]
    have h1 := h.below hb1'
    go_wp2_with fail
    refine (share_Check h1 HE.out).mono ?_; rintro e w' ⟨rfl, rfl⟩
    go_wp2_with fail
    refine (share_Check (SI.nil0 _) share_nil).mono ?_; rintro e w' ⟨rfl, rfl⟩
    go_wp2
    go_ret
    exact ⟨rfl, hb1'⟩
  have hok : okS xs := by
    intro j hj
    rw [HL.out] at hj
    exact badS_false.1 (hi.2.1 j (by have := hi.1; omega))
  have HI := Lib.hid hi; clear hi
  have HD := Lib.hid (show decide (i < n) = false by simp [hin])
  have HE := Lib.hid (share_end (r := r) (by rw [HL.out]; exact h8) hok)
  have HOK := Lib.hid hok; clear hok
  rcases (show r < 1 ∨ (1 ≤ r ∧ 10000 < r) ∨ (1 ≤ r ∧ r ≤ 10000) by omega) with h1 | ⟨h1, h2⟩ | ⟨h1, h2⟩
  · have HE1 : Hid (shareErr xs r = 1) := Lib.hid (by rw [HE.out, if_pos (by omega)])
    go_enter Try.func11, Try.ntmps11
    go_wp2_with fail
    refine (share_Done_bad h HE1.out (by omega)).mono ?_; rintro e w' ⟨rfl, rfl⟩
    go_wp2_with fail
    refine (slices_ContainsFunc h HI.out (fun args w => by simp [callFunc, Try.func51, Try.f51, go_sem]) (HCALL.out w)).mono ?_; rintro e w1 ⟨rfl, hb1'⟩
    rw [HD.out]
    have h1 := h.below hb1'
    go_wp2_with fail
    refine (share_Check h1 HE1.out).mono ?_; rintro e w' ⟨rfl, rfl⟩
    go_wp2_with fail
    refine (share_Check (SI.nil0 _) share_nil).mono ?_; rintro e w' ⟨rfl, rfl⟩
    go_wp2
    go_ret
    exact ⟨rfl, hb1'⟩
  · have HE1 : Hid (shareErr xs r = 1) := Lib.hid (by rw [HE.out, if_pos (by omega)])
    go_enter Try.func11, Try.ntmps11
    go_wp2_with fail
    refine (share_Done_bad h HE1.out (by omega)).mono ?_; rintro e w' ⟨rfl, rfl⟩
    go_wp2_with fail
    refine (slices_ContainsFunc h HI.out (fun args w => by simp [callFunc, Try.func51, Try.f51, go_sem]) (HCALL.out w)).mono ?_; rintro e w1 ⟨rfl, hb1'⟩
    rw [HD.out]
    have h1 := h.below hb1'
    go_wp2_with fail
    refine (share_Check h1 HE1.out).mono ?_; rintro e w' ⟨rfl, rfl⟩
    go_wp2_with fail
    refine (share_Check (SI.nil0 _) share_nil).mono ?_; rintro e w' ⟨rfl, rfl⟩
    go_wp2
    go_ret
    exact ⟨rfl, hb1'⟩
  · have HE1 : Hid (shareErr xs r = 0) := Lib.hid (by rw [HE.out, if_neg (by omega)])
    have HBD : Hid (∀ j, j < n → 0 ≤ gi xs j ∧ gi xs j ≤ 1000) := Lib.hid (by rw [← HL.out]; exact HOK.out)
    go_enter Try.func11, Try.ntmps11
    go_wp2_with fail
    refine (share_Done_ok h HE1.out).mono ?_; rintro e w1 ⟨p1, n1, c1, L1, er1, rfl, ho1, hb1', rfl, rfl⟩
    have hn1 := ho1.len
    rw [tab_length] at hn1
    subst hn1
    have s1 := ho1.si
    have h1 := h.below hb1'
    clear ho1
    go_wp2_with fail
    refine (slices_ContainsFunc h1 HI.out (fun args w => by simp [callFunc, Try.func51, Try.f51, go_sem]) (HCALL.out w1)).mono ?_; rintro e w2 ⟨rfl, hb12⟩
    rw [HD.out]
    have h2 := h1.below hb12
    have s2 := s1.below hb12
    have hb2 := hb1'.trans (hb12.mono hb1'.size)
    clear hb1' hb12 s1
    go_wp2_with fail
    refine (share_Check h2 HE1.out).mono ?_; rintro e w' ⟨rfl, rfl⟩
    go_wp2_with fail
    refine (share_Check (SI.nil0 _) share_nil).mono ?_; rintro e w' ⟨rfl, rfl⟩
    go_wp2_with fail
    refine (ref_Shared h2 (by omega) HBD.out (by omega) (by omega)).mono ?_; rintro e w3 ⟨p3, n3, c3, rfl, ho3, hb23⟩
    have hb3 := hb2.trans (hb23.mono hb2.size)
    have s3 := ho3.si
    clear ho3
    go_wp2_with fail
    refine (slices_Equal (s2.below hb23) s3 (r := true) (by simp)).mono ?_; rintro e w4 ⟨rfl, hb34⟩
    have hb4 := hb3.trans (hb34.mono hb3.size)
    go_wp2
    go_ret
    exact ⟨rfl, hb4⟩
end Go.Proofs.Ytggpcceljipelaa
