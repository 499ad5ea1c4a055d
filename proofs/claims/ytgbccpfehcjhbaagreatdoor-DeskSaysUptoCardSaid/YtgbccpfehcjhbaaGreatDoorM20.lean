/- The contracts of window.Sent, window.Done and headref.Sent (P55, P56). No conditions. -/
import Derived.Test.YtgbccpfehcjhbaaGreatDoorRows
import Derived.Test.YtgbccpfehcjhbaaGreatDoorM01
import Derived.RegionTactic
import Derived.BigRegion
import Derived.Deep.QuietTactic
import Derived.BigQuiet
namespace Go.Proofs.YtgbccpfehcjhbaaGreatDoor
open Go Go.RowKit

theorem Tryz.tyIntsWin : SliceTy Tryz.prog 35 3 (.int .i64 0) 1 8 := ⟨Tryz.underlying35, by kernel_rfl⟩
/-- two results: a new list, and an error -/
def RetLWin (w : World) (F : List Int → Int → Prop) (e : Ending) (w' : World) : Prop :=
  ∃ p n c L er, e = .returned (.tuple #[.slice p n c, .int .i64 er]) ∧ OwnI w' w.heap.size p n c L ∧ Below w.heap.size w w' ∧ F L er

def okWin (n w t : Int) : Prop := 0 ≤ n ∧ n ≤ 200 ∧ 1 ≤ w ∧ w ≤ 200 ∧ 1 ≤ t ∧ t ≤ 200
theorem not_win {n w t : Int} (h : ¬ okWin n w t) : n < 0 ∨ (0 ≤ n ∧ 200 < n) ∨ (0 ≤ n ∧ n ≤ 200 ∧ w < 1) ∨ (0 ≤ n ∧ n ≤ 200 ∧ 1 ≤ w ∧ 200 < w) ∨
    (0 ≤ n ∧ n ≤ 200 ∧ 1 ≤ w ∧ w ≤ 200 ∧ t < 1) ∨ (0 ≤ n ∧ n ≤ 200 ∧ 1 ≤ w ∧ w ≤ 200 ∧ 1 ≤ t ∧ 200 < t) := by unfold okWin at h; omega

/-- when a piece is sent: as the reference says it -/
def sentAt (w t : Nat) (i : Nat) : Int := if t ≤ w then i else (i / w * t + i % w : Nat)
theorem sentAt_bd {w t i : Nat} (ht : t ≤ 200) (hi : i ≤ 200) : 0 ≤ sentAt w t i ∧ sentAt w t i ≤ 100000 := by
  unfold sentAt
  split
  · omega
  · have h1 : i / w ≤ 200 := Nat.le_trans (Nat.div_le_self _ _) hi
    have h2 : i / w * t ≤ 200 * 200 := Nat.mul_le_mul h1 ht
    have h3 : i % w ≤ 200 := Nat.le_trans (Nat.mod_le _ _) hi
    omega
/-- and as the program finds it -/
theorem sentAt_step {w t i : Nat} (hw : 1 ≤ w) : (if w ≤ i then max (if 0 < i then sentAt w t (i - 1) + 1 else 0) (sentAt w t (i - w) + t) else if 0 < i then sentAt w t (i - 1) + 1 else 0) = sentAt w t i := by
  by_cases h0 : i = 0
  · subst h0
    rw [if_neg (by omega), if_neg (by omega)]
    unfold sentAt; split <;> simp
  obtain ⟨i, rfl⟩ : ∃ j, i = j + 1 := ⟨i - 1, by omega⟩
  simp only [if_pos (show 0 < i + 1 by omega), Nat.add_sub_cancel]
  unfold sentAt
  by_cases hc : t ≤ w
  · simp only [if_pos hc]
    split <;> omega
  · simp only [if_neg hc]
    have hd := Nat.div_add_mod (i + 1) w
    have hm := Nat.mod_lt (i + 1) (show 0 < w by omega)
    by_cases hm0 : (i + 1) % w = 0
    · -- a new window
      have hq : 1 ≤ (i + 1) / w := by
        rcases Nat.eq_zero_or_pos ((i + 1) / w) with h | h
        · rw [h, Nat.mul_zero] at hd; omega
        · exact h
      obtain ⟨q, hq'⟩ : ∃ q, (i + 1) / w = q + 1 := ⟨(i + 1) / w - 1, by omega⟩
      rw [hq', Nat.mul_add, Nat.mul_one, hm0, Nat.add_zero] at hd
      have e1 : i = w * q + (w - 1) := by omega
      have d1 : i / w = q := by rw [e1, Nat.mul_add_div (by omega), Nat.div_eq_of_lt (by omega), Nat.add_zero]
      have m1 : i % w = w - 1 := by rw [e1, Nat.mul_add_mod, Nat.mod_eq_of_lt (by omega)]
      have e2 : i + 1 - w = w * q := by omega
      have d2 : (i + 1 - w) / w = q := by rw [e2, Nat.mul_div_cancel_left _ (by omega)]
      have m2 : (i + 1 - w) % w = 0 := by rw [e2, Nat.mul_mod_right]
      rw [if_pos (show w ≤ i + 1 by omega), d1, m1, d2, m2, hq', hm0, Nat.add_mul]
      omega
    · obtain ⟨q, hq'⟩ : ∃ q, (i + 1) / w = q := ⟨_, rfl⟩
      obtain ⟨r, hr'⟩ : ∃ r, (i + 1) % w = r := ⟨_, rfl⟩
      rw [hq', hr'] at hd
      rw [hr'] at hm hm0
      have e1 : i = w * q + (r - 1) := by omega
      have d1 : i / w = q := by rw [e1, Nat.mul_add_div (by omega), Nat.div_eq_of_lt (by omega), Nat.add_zero]
      have m1 : i % w = r - 1 := by rw [e1, Nat.mul_add_mod, Nat.mod_eq_of_lt (by omega)]
      rw [hq', hr', d1, m1]
      split
      · -- not the first window: the piece a window before is a trip earlier
        obtain ⟨q2, hq2⟩ : ∃ q2, q = q2 + 1 := ⟨q - 1, by
          have : 1 ≤ q := by
            rcases Nat.eq_zero_or_pos q with h | h
            · rw [h, Nat.mul_zero] at hd; omega
            · exact h
          omega⟩
        subst hq2
        rw [Nat.mul_add, Nat.mul_one] at hd
        have e2 : i + 1 - w = w * q2 + r := by omega
        have d2 : (i + 1 - w) / w = q2 := by rw [e2, Nat.mul_add_div (by omega), Nat.div_eq_of_lt (by omega), Nat.add_zero]
        have m2 : (i + 1 - w) % w = r := by rw [e2, Nat.mul_add_mod, Nat.mod_eq_of_lt (by omega)]
        rw [d2, m2, Nat.add_mul]
        omega
      · omega

set_option maxHeartbeats 1000000 in
theorem window_Sent_bad {W : World} {n w t : Int} (h : ¬ okWin n w t) :
    Calls Tryz.prog 104 #[.int .i64 n, .int .i64 w, .int .i64 t] W fun e w' => e = .returned (.tuple #[.slice none 0 0, .int .i64 1]) ∧ W = w' := by
  rcases not_win h with h1 | ⟨h1, h2⟩ | ⟨h1, h2, h3⟩ | ⟨h1, h2, h3, h4⟩ | ⟨h1, h2, h3, h4, h5⟩ | ⟨h1, h2, h3, h4, h5, h6⟩
  all_goals
    clear h
    go_enter Tryz.func104, Tryz.ntmps104
    go_wp2
    go_ret2
    exact ⟨rfl, rfl⟩

set_option maxHeartbeats 1000000 in
theorem window_Sent_ok {W : World} {n w t : Nat} (hn : n ≤ 200) (hw1 : 1 ≤ w) (hw : w ≤ 200) (ht1 : 1 ≤ t) (ht : t ≤ 200) :
    Calls Tryz.prog 104 #[.int .i64 n, .int .i64 w, .int .i64 t] W (RetLWin W fun L er => er = 0 ∧ L = tab n (sentAt w t)) := by
  go_enter Tryz.func104, Tryz.ntmps104
  go_wp2
  go_loopw [8, 34] (fun v i wr => ∃ (k : Nat) (p : Option Addr) (c : Nat), k ≤ n ∧ i = .int .i64 k ∧ v = .slice p k c ∧ OwnI wr W.heap.size p k c (tab k (sentAt w t)) ∧ Below W.heap.size W wr) (fun _ i _ => n - (intOf i).toNat)
  case atStart => exact ⟨0, _, _, by omega, rfl, rfl, OwnI.nil _ _, Below.refl _ _⟩
  case round =>
    obtain ⟨k, p, c, hk, rfl, rfl, ho, hb⟩ := hrel
    have hsz := hb.size
    by_cases hkn : k < n
    · have hst := sentAt_step (w := w) (t := t) (i := k) hw1
      have hbd := sentAt_bd (w := w) (t := t) (i := k) ht (by omega)
      by_cases h0 : k = 0
      · subst h0
        rw [if_neg (by omega), if_neg (by omega)] at hst
        have hlw : ¬ w ≤ 0 := by omega
        have HST := Lib.hid hst; clear hst
        go_wp2_with (at_builtin; refine wpL_push_int Tryz.tyIntsWin rfl rfl (B := W.heap.size) (W0 := W) rfl rfl ho hb (by omega) hsz ?_; intro p' c' w1 ho1 hb1 hg1 _)
        go_roundw
        case rel => exact ⟨1, _, _, by omega, rfl, rfl, by rw [tab_succ, ← HST.out]; exact ho1, hb1⟩
        case measure => simp [intOf]; omega
      · obtain ⟨g, rfl⟩ := ho.addr (by omega)
        have c1 := ho.at (j := k - 1) (by omega)
        rw [gi_tab (by omega)] at c1
        have bd1 := sentAt_bd (w := w) (t := t) (i := k - 1) ht (by omega)
        by_cases hwk : w ≤ k
        · have c2 := ho.at (j := k - w) (by omega)
          rw [gi_tab (by omega)] at c2
          have bd2 := sentAt_bd (w := w) (t := t) (i := k - w) ht (by omega)
          rw [if_pos hwk, if_pos (by omega)] at hst
          have HST := Lib.hid hst; clear hst
          generalize sentAt w t (k - 1) = a1 at *
          generalize sentAt w t (k - w) = a2 at *
          go_wp2_with (at_builtin; refine wpL_push_int Tryz.tyIntsWin rfl rfl (B := W.heap.size) (W0 := W) rfl rfl ho hb (by omega) hsz ?_; intro p' c' w1 ho1 hb1 hg1 _)
          all_goals
            go_roundw
            case rel => exact ⟨k + 1, _, _, by omega, by go_num, rfl, by rw [tab_succ, ← HST.out]; exact ho1.cast (congrArg (fun x => tab k (sentAt w t) ++ [x]) (show _ = max (a1 + 1) (a2 + (t : Int)) by omega)), hb1⟩
            case measure => simp [intOf]; omega
        · rw [if_neg hwk, if_pos (by omega)] at hst
          have HST := Lib.hid hst; clear hst
          generalize sentAt w t (k - 1) = a1 at *
          go_wp2_with (at_builtin; refine wpL_push_int Tryz.tyIntsWin rfl rfl (B := W.heap.size) (W0 := W) rfl rfl ho hb (by omega) hsz ?_; intro p' c' w1 ho1 hb1 hg1 _)
          go_roundw
          case rel => exact ⟨k + 1, _, _, by omega, by go_num, rfl, by rw [tab_succ, ← HST.out]; exact ho1, hb1⟩
          case measure => simp [intOf]; omega
    · obtain rfl : n = k := by omega
      go_wp2
      go_ret2
      exact ⟨_, _, _, _, _, rfl, ho, hb, rfl, rfl⟩

set_option maxHeartbeats 400000 in
theorem window_Done_bad {W : World} {n w t : Int} (h : ¬ okWin n w t) :
    Calls Tryz.prog 67 #[.int .i64 n, .int .i64 w, .int .i64 t] W fun e w' => e = .returned (.tuple #[.int .i64 0, .int .i64 1]) ∧ W = w' := by
  go_enter Tryz.func67, Tryz.ntmps67
  go_wp2_with fail
  refine (window_Sent_bad h).mono ?_; rintro e w' ⟨rfl, rfl⟩
  go_wp2
  go_ret2
  exact ⟨rfl, rfl⟩

/-- when all of it is there -/
def doneAt (n w t : Nat) : Int := if n = 0 then 0 else sentAt w t (n - 1) + t

set_option maxHeartbeats 400000 in
theorem window_Done_ok {W : World} {n w t : Nat} (hn : n ≤ 200) (hw1 : 1 ≤ w) (hw : w ≤ 200) (ht1 : 1 ≤ t) (ht : t ≤ 200) :
    Calls Tryz.prog 67 #[.int .i64 n, .int .i64 w, .int .i64 t] W fun e w' => e = .returned (.tuple #[.int .i64 (doneAt n w t), .int .i64 0]) ∧ Below W.heap.size W w' := by
  by_cases h0 : n = 0
  · subst h0
    have hz : ((0 : Int) == 0) = true := rfl
    go_enter Tryz.func67, Tryz.ntmps67
    go_wp2_with fail
    refine (window_Sent_ok hn hw1 hw ht1 ht).mono ?_; rintro e w1 ⟨p, m, c, L, er, rfl, ho, hb, rfl, rfl⟩
    go_wp2
    go_ret2
    exact ⟨rfl, hb⟩
  · have hz : ((n : Int) == 0) = false := by simp; omega
    have hbd := sentAt_bd (w := w) (t := t) (i := n - 1) ht (by omega)
    have hd : Hid (doneAt n w t = sentAt w t (n - 1) + t) := Lib.hid (if_neg h0)
    go_enter Tryz.func67, Tryz.ntmps67
    go_wp2_with fail
    refine (window_Sent_ok hn hw1 hw ht1 ht).mono ?_; rintro e w1 ⟨p, m, c, L, er, rfl, ho, hb, rfl, rfl⟩
    have hl := ho.len
    rw [tab_length] at hl
    subst hl
    obtain ⟨g, rfl⟩ := ho.addr (by omega)
    have c1 := ho.at (j := n - 1) (by omega)
    rw [gi_tab (by omega)] at c1
    go_wp2
    go_ret2
    exact ⟨ret2_int hd.out.symm, hb⟩

set_option maxHeartbeats 400000 in
theorem ref_Sent {W : World} {i w t : Nat} (hi : i ≤ 200) (hw1 : 1 ≤ w) (hw : w ≤ 200) (ht : t ≤ 200) :
    Calls Tryz.prog 77 #[.int .i64 i, .int .i64 w, .int .i64 t] W fun e w' => e = .returned (.int .i64 (sentAt w t i)) ∧ Below W.heap.size W w' := by
  by_cases h : t ≤ w
  · have hs : Hid (sentAt w t i = i) := Lib.hid (if_pos h)
    go_enter Tryz.func77, Tryz.ntmps77
    go_wp2
    go_ret
    exact ⟨ret_int hs.out.symm, Below.refl _ _⟩
  · have hs : Hid (sentAt w t i = (i / w * t + i % w : Nat)) := Lib.hid (if_neg h)
    have h1 : i / w ≤ 200 := Nat.le_trans (Nat.div_le_self _ _) hi
    have h2 : i / w * t ≤ 200 * 200 := Nat.mul_le_mul h1 ht
    have h3 : i % w ≤ 200 := Nat.le_trans (Nat.mod_le _ _) hi
    have h4 : (0 : Int) ≤ (i : Int) / (w : Int) * (t : Int) ∧ (i : Int) / (w : Int) * (t : Int) ≤ 40000 := by
      have : (i : Int) / (w : Int) * (t : Int) = ((i / w * t : Nat) : Int) := by simp
      rw [this]
      exact ⟨Int.natCast_nonneg _, Int.ofNat_le.2 (by omega)⟩
    have h5 : (0 : Int) ≤ (i : Int) % (w : Int) ∧ (i : Int) % (w : Int) ≤ 200 := by
      have : (i : Int) % (w : Int) = ((i % w : Nat) : Int) := by simp
      rw [this]
      exact ⟨Int.natCast_nonneg _, Int.ofNat_le.2 h3⟩
    have h6 : (0 : Int) ≤ (i : Int) / (w : Int) ∧ (i : Int) / (w : Int) ≤ 200 := by
      have : (i : Int) / (w : Int) = ((i / w : Nat) : Int) := by simp
      rw [this]
      exact ⟨Int.natCast_nonneg _, Int.ofNat_le.2 h1⟩
    have hw0 : ((w : Int) == 0) = false := by simp; omega
    go_enter Tryz.func77, Tryz.ntmps77
    go_wp2
    go_quiet (fail)
    go_wp2
    go_ret
    exact ⟨ret_int (by rw [hs.out]; simp), below_drewN (Below.refl _ _) _⟩
end Go.Proofs.YtgbccpfehcjhbaaGreatDoor
