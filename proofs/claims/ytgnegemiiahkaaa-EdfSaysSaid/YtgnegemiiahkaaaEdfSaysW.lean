/- The walk of headlaw.EdfSays: it returns true and changes nothing that was there. No conditions. -/
import Derived.Test.YtgnegemiiahkaaaEdfDone2
import Derived.Test.YtgnegemiiahkaaaEdfLate
import Derived.Test.YtgnegemiiahkaaaEqual
namespace Go.Proofs.Ytgnegemiiahkaaa
open Go Go.RowKit
set_option linter.unusedVariables false
set_option linter.unusedSimpArgs false

theorem S3.lit1j (w : World) (a b c : Int) (T : TypeId) : S3 (w.alloc (.cells #[.int .i64 a, .int .i64 b, .int .i64 c] T)) (some ⟨w.heap.size, 0, none⟩) 1 1 [(a, b, c)] := by
  refine ⟨rfl, by omega, fun _ => ⟨_, 0, rfl, by simp, fun j hj => ?_⟩⟩
  obtain rfl : j = 0 := by omega
  exact ⟨blk_cell (blk_new w _ T) 0, blk_cell (blk_new w _ T) 1, blk_cell (blk_new w _ T) 2⟩
theorem jobs_zero : jobsErr [(0, 0, 0)] = 1 := by decide

set_option maxHeartbeats 1600000 in
theorem edfSays_bad {w : World} {p : Option Addr} {n c : Nat} {xs : List (Int × Int × Int)} (h : S3 w p n c xs) (hw : Wide xs n) {er : Int} (he : jobsErr xs = er) (h0 : er ≠ 0) :
    Calls Try.prog 7 #[.slice p n c] w fun e w' => e = .returned (.bool true) ∧ Below w.heap.size w w' := by
  have hz : (er == 0) = false := by simp [h0]
  have hm := h.2.1
  have HE := Lib.hid he; have H0 := Lib.hid h0; have HW := Lib.hid hw
  clear he h0 hw
  go_enter Try.func7, Try.ntmps7
  go_wp2_with fail
  refine (edf_Run_bad h HE.out H0.out).mono ?_; rintro e w1 ⟨rfl, b1⟩
  have h1 := h.below b1
  go_wp2_with fail
  refine (edf_Late_bad h1 HE.out H0.out).mono ?_; rintro e w2 ⟨rfl, b2⟩
  have h2 := h1.below b2
  have B2 := b1.trans (b2.mono b1.size)
  clear h h1 b1 b2
  go_wp2_with fail
  refine (ref_Jobs h2 HW.out HE.out).mono ?_; rintro e w3 ⟨rfl, b3⟩
  have h3 := h2.below b3
  have B3 := B2.trans (b3.mono B2.size)
  clear h2 b3 B2
  go_wp2_with fail
  refine (edf_Check h3 HE.out).mono ?_; rintro e w4 ⟨rfl, b4⟩
  have B4 := B3.trans (b4.mono B3.size)
  have B4' := B4.alloc B4.size (.cells #[.int .i64 0, .int .i64 0, .int .i64 0] 75)
  clear h3 b4 B3
  go_wp2_with fail
  refine (edf_Check (S3.lit1j w4 0 0 0 75) jobs_zero).mono ?_; rintro e w5 ⟨rfl, b5⟩
  have B5 := B4'.trans (b5.mono B4'.size)
  go_wp2
  go_ret
  exact ⟨rfl, B5⟩

set_option maxRecDepth 100000 in
set_option maxHeartbeats 3200000 in
theorem edfSays_ok {w : World} {p : Option Addr} {n c : Nat} {xs : List (Int × Int × Int)} (h : S3 w p n c xs) (hw : Wide xs n) (he : jobsErr xs = 0) :
    Calls Try.prog 7 #[.slice p n c] w fun e w' => e = .returned (.bool true) ∧ Below w.heap.size w w' := by
  have hm := h.2.1
  obtain ⟨i, hi⟩ := firstP_exists (lateP (t0 xs) (t1 xs) (t2 xs) n) n
  obtain ⟨v, e0, hy, hno⟩ : ∃ v e0 : Int, (i < n → v = i ∧ e0 = 0) ∧ (¬ i < n → v = 0 ∧ e0 = 5) := by
    by_cases hin : i < n
    · exact ⟨i, 0, fun _ => ⟨rfl, rfl⟩, fun h => absurd hin h⟩
    · exact ⟨0, 5, fun h => absurd h hin, fun _ => ⟨rfl, rfl⟩⟩
  obtain ⟨h12, hok⟩ := jobs_ok he
  rw [h.1] at h12
  have HE := Lib.hid he; have HW := Lib.hid hw; have HI := Lib.hid hi; have HY := Lib.hid hy; have HN := Lib.hid hno
  have HOK : Hid (∀ j, j < n → okJob (t0 xs j) (t1 xs j) (t2 xs j)) := Lib.hid (by rw [← h.1]; exact hok)
  clear he hw hi hy hno hok
  go_enter Try.func7, Try.ntmps7
  go_wp2_with fail
  refine (edf_Run_ok h HE.out).mono ?_; rintro e w1 ⟨q, d, rfl, s1, b1⟩
  have h1 := h.below b1
  go_wp2_with fail
  refine (edf_Late_ok h1 HE.out HI.out HY.out HN.out).mono ?_; rintro e w2 ⟨rfl, b2⟩
  have h2 := h1.below b2; have s2 := s1.below b2
  have B2 := b1.trans (b2.mono b1.size)
  clear h h1 b1 b2 s1
  go_wp2_with fail
  refine (ref_Jobs h2 HW.out HE.out).mono ?_; rintro e w3 ⟨rfl, b3⟩
  have h3 := h2.below b3; have s3 := s2.below b3
  have B3 := B2.trans (b3.mono B2.size)
  clear h2 b3 B2 s2
  go_wp2_with fail
  refine (edf_Check h3 HE.out).mono ?_; rintro e w4 ⟨rfl, b4⟩
  have h4 := h3.below b4; have s4 := s3.below b4
  have B4 := B3.trans (b4.mono B3.size)
  have B4' := B4.alloc B4.size (.cells #[.int .i64 0, .int .i64 0, .int .i64 0] 75)
  have h4' := h4.below ((Below.refl _ w4).alloc (Nat.le_refl _) (.cells #[.int .i64 0, .int .i64 0, .int .i64 0] 75))
  have s4' := s4.below ((Below.refl _ w4).alloc (Nat.le_refl _) (.cells #[.int .i64 0, .int .i64 0, .int .i64 0] 75))
  clear h3 b4 B3 s3 h4 s4 B4
  go_wp2_with fail
  refine (edf_Check (S3.lit1j w4 0 0 0 75) jobs_zero).mono ?_; rintro e w5 ⟨rfl, b5⟩
  have B5 := B4'.trans (b5.mono B4'.size)
  have h5 := h4'.below b5; have s5 := s4'.below b5
  clear b5 h4' s4' B4'
  go_wp2_with fail
  refine (ref_Done h5 HE.out).mono ?_; rintro e w6 ⟨q6, d6, q7, d7, rfl, s6, sd6, b6⟩
  have B6 := B5.trans (b6.mono B5.size)
  have h6 := h5.below b6; have s5' := s5.below b6
  clear b6 h5 s5 B5
  go_wp2_with fail
  refine (slices_Equal s5' s6 (r := true) (by simp)).mono ?_; rintro e w7 ⟨rfl, b7⟩
  have B7 := B6.trans (b7.mono B6.size)
  have h7 := h6.below b7; have sd := sd6.below b7
  have sdm := sd.2.1
  clear b7 h6 s5' s6 sd6 B6
  go_wp2
  go_loopw [68] (fun kv wr => ∃ k : Nat, k ≤ n ∧ kv = .int .i64 k ∧ k ≤ i ∧ Below w7.heap.size w7 wr) (fun kv _ => n - (intOf kv).toNat)
  case atStart => exact ⟨0, by omega, rfl, by omega, Below.refl _ _⟩
  case round =>
    obtain ⟨k, hk, rfl, hki, hb⟩ := hrel
    have hsz := hb.size
    by_cases hkn : k < n
    · obtain ⟨b, off, rfl, hlt, hc⟩ := h7.cells (by omega)
      obtain ⟨b', off', rfl, hlt', hc'⟩ := sd.cells (by omega)
      have c0 : wr.cell? ⟨b, off + k * 3, none⟩ = some (.int .i64 (t0 xs k)) := (bdeep hb hlt _).trans (hc k hkn).1
      have c1 : wr.cell? ⟨b, off + k * 3 + 1, none⟩ = some (.int .i64 (t1 xs k)) := (bdeep hb hlt _).trans (hc k hkn).2.1
      have c2 : wr.cell? ⟨b, off + k * 3 + 2, none⟩ = some (.int .i64 (t2 xs k)) := (bdeep hb hlt _).trans (hc k hkn).2.2
      have c3 : wr.cell? ⟨b', off' + k, none⟩ = some (.int .i64 (dn (t0 xs) (t1 xs) (t2 xs) n 200 k)) := by rw [bdeep hb hlt' _, hc' k hkn, gi_tab hkn]
      have hlr : b < wr.heap.size := by omega
      have hlr' : b' < wr.heap.size := by omega
      have hdn := dn_bd (t0 xs) (t1 xs) (t2 xs) n 200 k
      have HB := Lib.hid (hb.alloc hsz (.cells #[.int .i64 (t0 xs k), .int .i64 (t1 xs k), .int .i64 (t2 xs k)] 75))
      have HLP : Hid (lateP (t0 xs) (t1 xs) (t2 xs) n k = decide (dn (t0 xs) (t1 xs) (t2 xs) n 200 k = 0 ∨ t2 xs k < dn (t0 xs) (t1 xs) (t2 xs) n 200 k)) := Lib.hid rfl
      generalize dn (t0 xs) (t1 xs) (t2 xs) n 200 k = dk at *
      clear hc hc' h7 sd hb
      by_cases hki2 : k = i
      · have hlp : lateP (t0 xs) (t1 xs) (t2 xs) n k = true := by rw [hki2]; exact HI.out.2.2 (by omega)
        rw [HLP.out] at hlp
        have hor : dk = 0 ∨ t2 xs k < dk := by simpa using hlp
        obtain ⟨rfl, rfl⟩ := HY.out (by rw [← hki2]; exact hkn)
        have hq : ((i : Int) == (k : Int)) = true := by simp; omega
        have hq2 : (i == k) = true := by simp; omega
        have hq3 : (i : Int) = (k : Int) := by omega
        have HQ := Lib.hid hq3
        clear hlp HLP hki2 hq3
        rw [HQ.out]
        by_cases hd0 : dk = 0
        · have q1 : (dk == 0) = true := by simp [hd0]
          clear hd0 hor
          go_wp2
          go_quiet (fail)
          go_wp2
          go_ret
          exact ⟨by first | rfl | simp, B7.trans ((below_drewN HB.out _).mono B7.size)⟩
        · have q1 : (dk == 0) = false := by simp [hd0]
          have q2 : decide (t2 xs k < dk) = true := by simp; omega
          clear hd0 hor
          go_wp2
          go_quiet (fail)
          go_wp2
          go_ret
          exact ⟨by first | rfl | simp, B7.trans ((below_drewN HB.out _).mono B7.size)⟩
      · have hlp : lateP (t0 xs) (t1 xs) (t2 xs) n k = false := HI.out.2.1 k (by omega)
        rw [HLP.out] at hlp
        have hor : ¬ (dk = 0 ∨ t2 xs k < dk) := by simpa using hlp
        have q1 : (dk == 0) = false := by simp; omega
        have q2 : decide (t2 xs k < dk) = false := by simp; omega
        clear hlp HLP hor
        go_wp2
        go_quiet (fail)
        go_wp2
        go_roundw
        case rel => exact ⟨k + 1, by omega, by go_num, by omega, below_drewN HB.out _⟩
        case measure => simp [intOf]; omega
    · obtain rfl : n = k := by omega
      have hin : ¬ i < n := by omega
      obtain ⟨rfl, rfl⟩ := HN.out hin
      go_wp2
      go_ret
      exact ⟨rfl, B7.trans (hb.mono B7.size)⟩

theorem edfSays_walk {w : World} {p : Option Addr} {n c : Nat} {xs : List (Int × Int × Int)} (h : S3 w p n c xs) (hw : ∀ j, j < n → (-9223372036854775808 ≤ t0 xs j ∧ t0 xs j ≤ 9223372036854775807) ∧ (-9223372036854775808 ≤ t1 xs j ∧ t1 xs j ≤ 9223372036854775807) ∧ (-9223372036854775808 ≤ t2 xs j ∧ t2 xs j ≤ 9223372036854775807)) :
    Calls Try.prog 7 #[.slice p n c] w fun e w' => e = .returned (.bool true) ∧ Below w.heap.size w w' := by
  by_cases h0 : jobsErr xs = 0
  · exact edfSays_ok h hw h0
  · exact edfSays_bad h hw rfl h0
end Go.Proofs.Ytgnegemiiahkaaa
