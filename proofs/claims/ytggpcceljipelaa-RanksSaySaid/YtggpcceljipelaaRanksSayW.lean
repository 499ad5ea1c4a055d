/- The walk of headlaw.RanksSay: it returns true and changes nothing that was there. No conditions. -/
import Derived.Test.YtggpcceljipelaaRanksFit
namespace Go.Proofs.Ytggpcceljipelaa
open Go Go.RowKit

theorem S3.lit (w : World) (a b c : Int) (T : TypeId) : S3 (w.alloc (.cells #[.int .i64 a, .int .i64 b, .int .i64 c] T)) (some ⟨w.heap.size, 0, none⟩) 1 1 [(a, b, c)] := by
  refine ⟨rfl, ⟨Nat.le_refl _, by omega⟩, fun _ => ⟨w.heap.size, 0, rfl, by simp, fun j hj => ?_⟩⟩
  obtain rfl : j = 0 := by omega
  have h := blk3 (blk_new w #[.int .i64 a, .int .i64 b, .int .i64 c] T)
  exact ⟨h.1.1, h.1.2.1, h.1.2.2⟩
theorem task_lit : tasksErr [(0, 0, 0)] = 1 := by decide

set_option maxRecDepth 100000 in
set_option maxHeartbeats 1600000 in
theorem ranksSay_bad {w : World} {p : Option Addr} {n c : Nat} {xs : List (Int × Int × Int)} {i er : Int} (h : S3 w p n c xs) (he : tasksErr xs = er) (h0 : er ≠ 0) :
    Calls Try.prog 9 #[.slice p n c, .int .i64 i] w fun e w' => e = .returned (.bool true) ∧ Below w.heap.size w w' := by
  have hb : (er == 0) = false := by simp [h0]
  have HE := Lib.hid he; clear he
  go_enter Try.func9, Try.ntmps9
  go_wp2_with fail
  refine (ranks_Response_bad h HE.out h0).mono ?_; rintro e w1 ⟨rfl, hb1⟩
  go_wp2_with fail
  refine (ranks_Fits_bad (h.below hb1) HE.out h0).mono ?_; rintro e w2 ⟨rfl, hb12⟩
  have hb2 := hb1.trans (hb12.mono hb1.size)
  clear hb1 hb12
  go_wp2_with fail
  refine (ref_Tasks (h.below hb2) HE.out).mono ?_; rintro e w3 ⟨rfl, hb23⟩
  have hb3 := hb2.trans (hb23.mono hb2.size)
  clear hb2 hb23
  go_wp2_with fail
  refine (ranks_Check (h.below hb3) HE.out).mono ?_; rintro e w4 ⟨rfl, hb34⟩
  have hb4 := hb3.trans (hb34.mono hb3.size)
  have hba := hb4.alloc hb4.size (.cells #[.int .i64 0, .int .i64 0, .int .i64 0] 71)
  clear hb3 hb34
  go_wp2_with fail
  refine (ranks_Check (S3.lit _ 0 0 0 _) task_lit).mono ?_; rintro e w5 ⟨rfl, hb45⟩
  have hb5 := hba.trans (hb45.mono hba.size)
  go_wp2
  go_ret
  exact ⟨rfl, hb5⟩

set_option maxRecDepth 100000 in
set_option maxHeartbeats 3200000 in
theorem ranksSay_ok {w : World} {p : Option Addr} {n c : Nat} {xs : List (Int × Int × Int)} {i : Int} (h : S3 w p n c xs) (he : tasksErr xs = 0) :
    Calls Try.prog 9 #[.slice p n c, .int .i64 i] w fun e w' => e = .returned (.bool true) ∧ Below w.heap.size w w' := by
  have hm := h.2.1
  have hl := h.1
  obtain ⟨h5, hok⟩ := tasks_ok he
  have hok' : ∀ j, j < n → okTask (t0 xs j) (t1 xs j) (t2 xs j) := by rw [← hl]; exact hok
  rw [hl] at h5
  obtain ⟨fb, hfb⟩ := fb_exists xs
  have HE := Lib.hid he; have HOK := Lib.hid hok'; have HFB := Lib.hid hfb
  clear he hok hok' hl hfb
  rcases (show i < 0 ∨ (0 ≤ i ∧ (n : Int) ≤ i) ∨ (0 ≤ i ∧ i < n) by omega) with i1 | ⟨i1, i2⟩ | ⟨i1, i2⟩
  · go_enter Try.func9, Try.ntmps9
    go_wp2_with fail
    refine (ranks_Response_arg h HE.out (by omega)).mono ?_; rintro e w1 ⟨rfl, hb1⟩
    go_wp2_with fail
    refine (ranks_Fits_ok (h.below hb1) HE.out HFB.out).mono ?_; rintro e w2 ⟨rfl, hb12⟩
    have hb2 := hb1.trans (hb12.mono hb1.size)
    clear hb1 hb12
    go_wp2_with fail
    refine (ref_Tasks (h.below hb2) HE.out).mono ?_; rintro e w3 ⟨rfl, hb23⟩
    have hb3 := hb2.trans (hb23.mono hb2.size)
    clear hb2 hb23
    go_wp2_with fail
    refine (ranks_Check (h.below hb3) HE.out).mono ?_; rintro e w4 ⟨rfl, hb34⟩
    have hb4 := hb3.trans (hb34.mono hb3.size)
    have hba := hb4.alloc hb4.size (.cells #[.int .i64 0, .int .i64 0, .int .i64 0] 71)
    clear hb3 hb34
    go_wp2_with fail
    refine (ranks_Check (S3.lit _ 0 0 0 _) task_lit).mono ?_; rintro e w5 ⟨rfl, hb45⟩
    have hb5 := hba.trans (hb45.mono hba.size)
    have h5' := h.below hb5
    clear hba hb45 hb4 h
    go_wp2
    go_loopw [10, 56] (fun a j wr => ∃ k : Nat, k ≤ n ∧ j = .int .i64 k ∧ a = .bool (allF fb k) ∧ Below w5.heap.size w5 wr) (fun _ j _ => n - (intOf j).toNat)
    case atStart => exact ⟨0, by omega, rfl, rfl, Below.refl _ _⟩
    case round =>
      obtain ⟨k, hk, rfl, rfl, hb⟩ := hrel
      have hsz := hb.size
      by_cases hkn : k < n
      · have HAS := Lib.hid (show allF fb (k + 1) = (allF fb k && fb k) from rfl)
        cases hak : allF fb k with
        | false =>
          have HAN : Hid (allF fb (k + 1) = false) := Lib.hid (by rw [HAS.out, hak]; rfl)
          clear hak
          go_wp2
          go_roundw
          case rel => exact ⟨k + 1, by omega, by go_num, by rw [HAN.out], hb⟩
          case measure => simp [intOf]; omega
        | true =>
          have HAN : Hid (allF fb (k + 1) = fb k) := Lib.hid (by rw [HAS.out, hak]; rfl)
          clear hak
          go_wp2_with fail
          refine (ref_Response (h5'.below hb) HOK.out h5 hkn).mono ?_; rintro e w6 ⟨r, rfl, hR, hb6⟩
          have hb7 := hb.trans (hb6.mono hsz)
          clear hb6
          rcases hR with ⟨rfl, hN⟩ | hS
          · have HF : Hid (fb k = false) := Lib.hid (by
              cases hq : fb k with
              | false => rfl
              | true => obtain ⟨s, hs⟩ := (HFB.out k).1 hq; have := resp_one hN hs; cases this)
            clear hN
            go_wp2
            go_roundw
            case rel => exact ⟨k + 1, by omega, by go_num, by rw [HAN.out, HF.out], hb7⟩
            case measure => simp [intOf]; omega
          · have HF : Hid (fb k = true) := Lib.hid ((HFB.out k).2 ⟨r, hS⟩)
            have hr1 := hS.1
            have g1 : decide (0 < r) = true := by simp; omega
            clear hS
            go_wp2
            go_roundw
            case rel => exact ⟨k + 1, by omega, by go_num, by rw [HAN.out, HF.out], hb7⟩
            case measure => simp [intOf]; omega
      · obtain rfl : n = k := by omega
        have hb6 := hb5.trans (hb.mono hb5.size)
        have hz : (allF fb n == allF fb n) = true := by simp
        go_wp2
        go_ret
        exact ⟨rfl, hb6⟩
  · go_enter Try.func9, Try.ntmps9
    go_wp2_with fail
    refine (ranks_Response_arg h HE.out (by omega)).mono ?_; rintro e w1 ⟨rfl, hb1⟩
    go_wp2_with fail
    refine (ranks_Fits_ok (h.below hb1) HE.out HFB.out).mono ?_; rintro e w2 ⟨rfl, hb12⟩
    have hb2 := hb1.trans (hb12.mono hb1.size)
    clear hb1 hb12
    go_wp2_with fail
    refine (ref_Tasks (h.below hb2) HE.out).mono ?_; rintro e w3 ⟨rfl, hb23⟩
    have hb3 := hb2.trans (hb23.mono hb2.size)
    clear hb2 hb23
    go_wp2_with fail
    refine (ranks_Check (h.below hb3) HE.out).mono ?_; rintro e w4 ⟨rfl, hb34⟩
    have hb4 := hb3.trans (hb34.mono hb3.size)
    have hba := hb4.alloc hb4.size (.cells #[.int .i64 0, .int .i64 0, .int .i64 0] 71)
    clear hb3 hb34
    go_wp2_with fail
    refine (ranks_Check (S3.lit _ 0 0 0 _) task_lit).mono ?_; rintro e w5 ⟨rfl, hb45⟩
    have hb5 := hba.trans (hb45.mono hba.size)
    have h5' := h.below hb5
    clear hba hb45 hb4 h
    go_wp2
    go_loopw [10, 56] (fun a j wr => ∃ k : Nat, k ≤ n ∧ j = .int .i64 k ∧ a = .bool (allF fb k) ∧ Below w5.heap.size w5 wr) (fun _ j _ => n - (intOf j).toNat)
    case atStart => exact ⟨0, by omega, rfl, rfl, Below.refl _ _⟩
    case round =>
      obtain ⟨k, hk, rfl, rfl, hb⟩ := hrel
      have hsz := hb.size
      by_cases hkn : k < n
      · have HAS := Lib.hid (show allF fb (k + 1) = (allF fb k && fb k) from rfl)
        cases hak : allF fb k with
        | false =>
          have HAN : Hid (allF fb (k + 1) = false) := Lib.hid (by rw [HAS.out, hak]; rfl)
          clear hak
          go_wp2
          go_roundw
          case rel => exact ⟨k + 1, by omega, by go_num, by rw [HAN.out], hb⟩
          case measure => simp [intOf]; omega
        | true =>
          have HAN : Hid (allF fb (k + 1) = fb k) := Lib.hid (by rw [HAS.out, hak]; rfl)
          clear hak
          go_wp2_with fail
          refine (ref_Response (h5'.below hb) HOK.out h5 hkn).mono ?_; rintro e w6 ⟨r, rfl, hR, hb6⟩
          have hb7 := hb.trans (hb6.mono hsz)
          clear hb6
          rcases hR with ⟨rfl, hN⟩ | hS
          · have HF : Hid (fb k = false) := Lib.hid (by
              cases hq : fb k with
              | false => rfl
              | true => obtain ⟨s, hs⟩ := (HFB.out k).1 hq; have := resp_one hN hs; cases this)
            clear hN
            go_wp2
            go_roundw
            case rel => exact ⟨k + 1, by omega, by go_num, by rw [HAN.out, HF.out], hb7⟩
            case measure => simp [intOf]; omega
          · have HF : Hid (fb k = true) := Lib.hid ((HFB.out k).2 ⟨r, hS⟩)
            have hr1 := hS.1
            have g1 : decide (0 < r) = true := by simp; omega
            clear hS
            go_wp2
            go_roundw
            case rel => exact ⟨k + 1, by omega, by go_num, by rw [HAN.out, HF.out], hb7⟩
            case measure => simp [intOf]; omega
      · obtain rfl : n = k := by omega
        have hb6 := hb5.trans (hb.mono hb5.size)
        have hz : (allF fb n == allF fb n) = true := by simp
        go_wp2
        go_ret
        exact ⟨rfl, hb6⟩
  · obtain ⟨i, rfl⟩ := Int.eq_ofNat_of_zero_le i1
    have hi : i < n := by omega
    have d1 : ¬ (n : Int) ≤ (i : Int) := by omega
    have d2 : decide ((n : Int) ≤ (i : Int)) = false := by simp; omega
    have d3 : decide (n ≤ i) = false := by simp; omega
    clear i1 i2
    go_enter Try.func9, Try.ntmps9
    go_wp2_with fail
    refine (ranks_Response_ok h HE.out hi).mono ?_; rintro e w1 ⟨v, e0, rfl, hRA, hb1⟩
    have HRA := Lib.hid hRA; clear hRA
    go_wp2_with fail
    refine (ranks_Fits_ok (h.below hb1) HE.out HFB.out).mono ?_; rintro e w2 ⟨rfl, hb12⟩
    have hb2 := hb1.trans (hb12.mono hb1.size)
    clear hb1 hb12
    go_wp2_with fail
    refine (ref_Tasks (h.below hb2) HE.out).mono ?_; rintro e w3 ⟨rfl, hb23⟩
    have hb3 := hb2.trans (hb23.mono hb2.size)
    clear hb2 hb23
    go_wp2_with fail
    refine (ranks_Check (h.below hb3) HE.out).mono ?_; rintro e w4 ⟨rfl, hb34⟩
    have hb4 := hb3.trans (hb34.mono hb3.size)
    have hba := hb4.alloc hb4.size (.cells #[.int .i64 0, .int .i64 0, .int .i64 0] 71)
    clear hb3 hb34
    go_wp2_with fail
    refine (ranks_Check (S3.lit _ 0 0 0 _) task_lit).mono ?_; rintro e w5 ⟨rfl, hb45⟩
    have hb5 := hba.trans (hb45.mono hba.size)
    have h5' := h.below hb5
    clear hba hb45 hb4 h
    go_wp2
    go_loopw [10, 56] (fun a j wr => ∃ k : Nat, k ≤ n ∧ j = .int .i64 k ∧ a = .bool (allF fb k) ∧ Below w5.heap.size w5 wr) (fun _ j _ => n - (intOf j).toNat)
    case atStart => exact ⟨0, by omega, rfl, rfl, Below.refl _ _⟩
    case round =>
      obtain ⟨k, hk, rfl, rfl, hb⟩ := hrel
      have hsz := hb.size
      by_cases hkn : k < n
      · have HAS := Lib.hid (show allF fb (k + 1) = (allF fb k && fb k) from rfl)
        cases hak : allF fb k with
        | false =>
          have HAN : Hid (allF fb (k + 1) = false) := Lib.hid (by rw [HAS.out, hak]; rfl)
          clear hak
          go_wp2
          go_roundw
          case rel => exact ⟨k + 1, by omega, by go_num, by rw [HAN.out], hb⟩
          case measure => simp [intOf]; omega
        | true =>
          have HAN : Hid (allF fb (k + 1) = fb k) := Lib.hid (by rw [HAS.out, hak]; rfl)
          clear hak
          go_wp2_with fail
          refine (ref_Response (h5'.below hb) HOK.out h5 hkn).mono ?_; rintro e w6 ⟨r, rfl, hR, hb6⟩
          have hb7 := hb.trans (hb6.mono hsz)
          clear hb6
          rcases hR with ⟨rfl, hN⟩ | hS
          · have HF : Hid (fb k = false) := Lib.hid (by
              cases hq : fb k with
              | false => rfl
              | true => obtain ⟨s, hs⟩ := (HFB.out k).1 hq; have := resp_one hN hs; cases this)
            clear hN
            go_wp2
            go_roundw
            case rel => exact ⟨k + 1, by omega, by go_num, by rw [HAN.out, HF.out], hb7⟩
            case measure => simp [intOf]; omega
          · have HF : Hid (fb k = true) := Lib.hid ((HFB.out k).2 ⟨r, hS⟩)
            have hr1 := hS.1
            have g1 : decide (0 < r) = true := by simp; omega
            clear hS
            go_wp2
            go_roundw
            case rel => exact ⟨k + 1, by omega, by go_num, by rw [HAN.out, HF.out], hb7⟩
            case measure => simp [intOf]; omega
      · obtain rfl : n = k := by omega
        have hb6 := hb5.trans (hb.mono hb5.size)
        have hz : (allF fb n == allF fb n) = true := by simp
        go_wp2_with fail
        refine (ref_Response (h5'.below hb) HOK.out h5 hi).mono ?_; rintro e w7 ⟨r, rfl, hR, hb7⟩
        have hb8 := hb6.trans (hb7.mono hb6.size)
        rcases hR with ⟨rfl, hN⟩ | hS
        · obtain ⟨rfl, rfl⟩ : v = 0 ∧ e0 = 8 := by
            rcases HRA.out with ⟨_, a, b⟩ | ⟨a, _⟩
            · exact ⟨a, b⟩
            · have := resp_one hN a; cases this
          clear hN
          go_wp2
          go_ret
          exact ⟨rfl, hb8⟩
        · have hr1 := hS.1
          obtain ⟨rfl, rfl⟩ : v = r ∧ e0 = 0 := by
            rcases HRA.out with ⟨a, _⟩ | ⟨a, b⟩
            · have := resp_one hS a; cases this
            · have := resp_one a hS
              simp only [Option.some.injEq] at this
              exact ⟨this, b⟩
          clear hS
          go_wp2
          go_ret
          exact ⟨rfl, hb8⟩

theorem ranksSay_walk {w : World} {p : Option Addr} {n c : Nat} {xs : List (Int × Int × Int)} (h : S3 w p n c xs) (_ : ∀ j, j < n → (-9223372036854775808 ≤ t0 xs j ∧ t0 xs j ≤ 9223372036854775807) ∧ (-9223372036854775808 ≤ t1 xs j ∧ t1 xs j ≤ 9223372036854775807) ∧ (-9223372036854775808 ≤ t2 xs j ∧ t2 xs j ≤ 9223372036854775807))
    {i : Int} (_ : -9223372036854775808 ≤ i ∧ i ≤ 9223372036854775807) :
    Calls Try.prog 9 #[.slice p n c, .int .i64 i] w fun e w' => e = .returned (.bool true) ∧ Below w.heap.size w w' := by
  by_cases he : tasksErr xs = 0
  · exact ranksSay_ok h he
  · exact ranksSay_bad h rfl he
end Go.Proofs.Ytggpcceljipelaa
