/- The walk of headlaw.WindowSays: it returns true and changes nothing that was there. No conditions. -/
import Derived.Test.YtggpcceljipelaaWindow
import Derived.Test.YtggpcceljipelaaEqual
namespace Go.Proofs.Ytggpcceljipelaa
open Go Go.RowKit

set_option maxHeartbeats 1000000 in
theorem windowSays_bad {W : World} {n w t : Int} (h : ¬ okWin n w t) :
    Calls Try.prog 4 #[.int .i64 n, .int .i64 w, .int .i64 t] W fun e w' => e = .returned (.bool true) ∧ Below W.heap.size W w' := by
  have H := Lib.hid h
  rcases not_win h with h1 | ⟨h1, h2⟩ | ⟨h1, h2, h3⟩ | ⟨h1, h2, h3, h4⟩ | ⟨h1, h2, h3, h4, h5⟩ | ⟨h1, h2, h3, h4, h5, h6⟩
  all_goals
    clear h
    go_enter Try.func4, Try.ntmps4
    go_wp2_with fail
    refine (window_Sent_bad H.out).mono ?_; rintro e w' ⟨rfl, rfl⟩
    go_wp2_with fail
    refine (window_Done_bad H.out).mono ?_; rintro e w' ⟨rfl, rfl⟩
    go_wp2
    go_ret
    exact ⟨rfl, Below.refl _ _⟩

set_option maxHeartbeats 1000000 in
theorem windowSays_ok {W : World} {n w t : Nat} (hn : n ≤ 200) (hw1 : 1 ≤ w) (hw : w ≤ 200) (ht1 : 1 ≤ t) (ht : t ≤ 200) :
    Calls Try.prog 4 #[.int .i64 n, .int .i64 w, .int .i64 t] W fun e w' => e = .returned (.bool true) ∧ Below W.heap.size W w' := by
  go_enter Try.func4, Try.ntmps4
  go_wp2_with fail
  refine (window_Sent_ok hn hw1 hw ht1 ht).mono ?_; rintro e w1 ⟨p1, m1, c1, L, er, rfl, ho1, hb1, rfl, rfl⟩
  go_wp2_with fail
  refine (window_Done_ok hn hw1 hw ht1 ht).mono ?_; rintro e w2 ⟨rfl, hb12⟩
  have o1 := ho1.si.below hb12
  have hb2 := hb1.trans (hb12.mono hb1.size)
  generalize hdv : doneAt n w t = dv
  have HDV := Lib.hid hdv
  clear hb1 hb12 ho1 hdv
  go_wp2
  go_loopw [11, 12, 66] (fun v l i wr => ∃ (k : Nat) (p : Option Addr) (c : Nat) (x : Int), k ≤ n ∧ i = .int .i64 k ∧ v = .slice p k c ∧ l = .int .i64 x ∧ Hid (x = doneAt k w t) ∧ OwnI wr w2.heap.size p k c (tab k (sentAt w t)) ∧ Below w2.heap.size w2 wr) (fun _ _ i _ => n - (intOf i).toNat)
  case atStart => exact ⟨0, _, _, _, by omega, rfl, rfl, rfl, Lib.hid rfl, OwnI.nil _ _, Below.refl _ _⟩
  case round =>
    obtain ⟨k, p, c, x, hk, rfl, rfl, rfl, HX, ho, hb⟩ := hrel
    have hsz := hb.size
    by_cases hkn : k < n
    · have hbd := sentAt_bd (w := w) (t := t) (i := k) ht (by omega)
      have hdn : Hid (sentAt w t k + (t : Int) = doneAt (k + 1) w t) := Lib.hid (by unfold doneAt; rw [if_neg (by omega), Nat.add_sub_cancel])
      have htab := Lib.hid (tab_succ k (sentAt w t))
      go_wp2_with fail
      refine (ref_Sent (i := k) (by omega) hw1 hw ht).mono ?_; rintro e w3 ⟨rfl, hb3⟩
      have ho3 := ho.below hb3
      have hb23 := hb.trans (hb3.mono hsz)
      have hsz3 := hb23.size
      clear ho hb hb3
      obtain ⟨a, ha⟩ : ∃ a, sentAt w t k = a := ⟨_, rfl⟩
      have HA := Lib.hid ha
      rw [ha] at htab hdn hbd
      rw [ha]
      clear ha
      go_wp2_with (at_builtin; refine wpL_push_int Try.tyInts rfl rfl (B := w2.heap.size) (W0 := w2) rfl rfl ho3 hb23 (by omega) hsz3 ?_; intro p' c' w4 ho4 hb4 _ _)
      have hsz4 := hb4.size
      refine (ref_Sent (i := k) (by omega) hw1 hw ht).mono ?_; rintro e w5 ⟨rfl, hb5⟩
      rw [HA.out]
      have ho5 := ho4.below hb5
      have hb25 := hb4.trans (hb5.mono hsz4)
      clear ho4 hb4 hb5 ho3 hb23
      go_wp2
      go_roundw
      case rel => exact ⟨k + 1, _, _, _, by omega, by go_num, rfl, rfl, hdn, by rw [htab.out]; exact ho5, hb25⟩
      case measure => simp [intOf]; omega
    · obtain rfl : n = k := by omega
      obtain rfl : dv = x := by rw [HX.out, HDV.out]
      have o2 := o1.below hb
      go_wp2_with fail
      refine (slices_Equal o2 ho.si (r := true) (by simp)).mono ?_; rintro e w6 ⟨rfl, hb6⟩
      have hb7 := hb2.trans ((hb.trans (hb6.mono hsz)).mono hb2.size)
      go_wp2
      go_ret
      exact ⟨rfl, hb7⟩

theorem windowSays_walk {W : World} {n w t : Int} (_hn : -9223372036854775808 ≤ n ∧ n ≤ 9223372036854775807) (_hw : -9223372036854775808 ≤ w ∧ w ≤ 9223372036854775807) (_ht : -9223372036854775808 ≤ t ∧ t ≤ 9223372036854775807) :
    Calls Try.prog 4 #[.int .i64 n, .int .i64 w, .int .i64 t] W fun e w' => e = .returned (.bool true) ∧ Below W.heap.size W w' := by
  by_cases h : okWin n w t
  · obtain ⟨h1, h2, h3, h4, h5, h6⟩ := h
    obtain ⟨n, rfl⟩ := Int.eq_ofNat_of_zero_le h1
    obtain ⟨w, rfl⟩ := Int.eq_ofNat_of_zero_le (show 0 ≤ w by omega)
    obtain ⟨t, rfl⟩ := Int.eq_ofNat_of_zero_le (show 0 ≤ t by omega)
    exact windowSays_ok (by omega) (by omega) (by omega) (by omega) (by omega)
  · exact windowSays_bad h
end Go.Proofs.Ytggpcceljipelaa
