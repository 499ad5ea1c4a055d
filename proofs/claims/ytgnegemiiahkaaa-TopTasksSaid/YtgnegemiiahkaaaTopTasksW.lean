/- The walk of headtop.TopTasks: it returns true and changes nothing that was there. No conditions. -/
import Derived.Test.YtgnegemiiahkaaaTopTasksL
import Derived.Test.YtgnegemiiahkaaaEdfFitsW
import Derived.Test.YtgnegemiiahkaaaChainLaw
namespace Go.Proofs.Ytgnegemiiahkaaa
open Go Go.RowKit
set_option linter.unusedVariables false
set_option linter.unusedSimpArgs false

theorem Try.tyJobs : SliceTy Try.prog 70 75 (.agg #[.int .i64 0, .int .i64 0, .int .i64 0]) 3 24 := ⟨Try.underlying70, by kernel_rfl⟩
theorem allF_all {f : Nat → Bool} : ∀ {n : Nat}, allF f n = true → ∀ j, j < n → f j = true
  | 0, _, j, hj => by omega
  | n + 1, h, j, hj => by
    simp only [allF, Bool.and_eq_true] at h
    rcases Nat.lt_succ_iff_lt_or_eq.1 hj with h' | rfl
    · exact allF_all h.1 j h'
    · exact h.2

set_option maxRecDepth 100000 in
set_option maxHeartbeats 3200000 in
theorem topTasks_walk {w : World} {p : Option Addr} {n c : Nat} {xs : List (Int × Int × Int)} (h : S3 w p n c xs) (_ : ∀ j, j < n → (-9223372036854775808 ≤ t0 xs j ∧ t0 xs j ≤ 9223372036854775807) ∧ (-9223372036854775808 ≤ t1 xs j ∧ t1 xs j ≤ 9223372036854775807) ∧ (-9223372036854775808 ≤ t2 xs j ∧ t2 xs j ≤ 9223372036854775807)) :
    Calls Try.prog 10 #[.slice p n c] w fun e w' => e = .returned (.bool true) ∧ Below w.heap.size w w' := by
  obtain ⟨et, het⟩ : ∃ et, tasksErr xs = et := ⟨_, rfl⟩
  have HET := Lib.hid het
  have hm := h.2.1
  clear het
  by_cases h0 : et = 0
  · subst h0
    obtain ⟨h5, hok⟩ := tasks_ok HET.out
    rw [h.1] at h5
    have HOK : Hid (∀ j, j < n → okTask (t0 xs j) (t1 xs j) (t2 xs j)) := Lib.hid (by rw [← h.1]; exact hok)
    obtain ⟨fb, hfb⟩ := fb_exists xs
    have HFB := Lib.hid hfb
    obtain ⟨q, hq⟩ : ∃ q, allF fb n = q := ⟨_, rfl⟩
    have HQ := Lib.hid hq
    clear hok hfb hq
    cases q with
    | false =>
      go_enter Try.func10, Try.ntmps10
      go_wp2_with fail
      refine (ranks_Fits_ok h HET.out HFB.out).mono ?_; rintro e w1 ⟨rfl, b1⟩
      rw [HQ.out]
      go_wp2_with fail
      refine (top_begun).mono ?_; rintro e w2 ⟨rfl, b2⟩
      have B2 := b1.trans (b2.mono b1.size)
      go_wp2_with fail
      refine (top_begun).mono ?_; rintro e w3 ⟨rfl, b3⟩
      have B3 := B2.trans (b3.mono B2.size)
      go_wp2
      go_ret
      exact ⟨rfl, B3⟩
    | true =>
      have HFI : Hid (∀ j, j < n → FitI xs j) := Lib.hid (fun j hj => (HFB.out j).1 (allF_all HQ.out j hj))
      have HC : Hid (∀ j, j < n → 1 ≤ t1 xs j) := Lib.hid (fun j hj => by have := HOK.out j hj; unfold okTask at this; omega)
      go_enter Try.func10, Try.ntmps10
      go_wp2_with fail
      refine (ranks_Fits_ok h HET.out HFB.out).mono ?_; rintro e w1 ⟨rfl, b1⟩
      rw [HQ.out]
      have h1 := h.below b1
      clear h
      go_wp2_with fail
      refine (top_begun).mono ?_; rintro e w2 ⟨rfl, b2⟩
      have B2 := b1.trans (b2.mono b1.size)
      have h2 := h1.below b2
      clear h1 b1 b2
      go_wp2
      go_loopw [5, 6] (fun v jv wr => ∃ (J m : Nat) (q : Option Addr) (d : Nat) (L : List (Int × Int × Int)), v = .slice q m d ∧ jv = .int .i64 J ∧ J ≤ m ∧ OwnR 75 enc3 3 wr w2.heap.size q m d L ∧ Hid (JobsOf xs L n 0 J) ∧ Below w2.heap.size w2 wr) (fun v _ _ => match v with | .slice _ m _ => 12 - m | _ => 0)
      case atStart => exact ⟨0, 0, none, 0, [], rfl, rfl, Nat.le_refl _, OwnR.nil _ _, Lib.hid (JobsOf.nil xs n), Below.refl _ _⟩
      case round =>
        obtain ⟨J, m, q, d, L, rfl, rfl, hJm, ho, HJ, hb⟩ := hrel
        have hlen := ho.len
        have hm12 : m ≤ 12 := by have := HJ.out.len; omega
        have HLEN := Lib.hid hlen; clear hlen
        have hsz := hb.size
        by_cases h12 : m < 12
        · have hd12 : decide ((m : Int) < 12) = true := by simp; omega
          have hd12' : decide (m < 12) = true := by simp; omega
          go_wp2
          go_loopw [5, 7, 37] (fun v mv iv wr => ∃ (i m' : Nat) (mb : Bool) (q : Option Addr) (d : Nat) (L : List (Int × Int × Int)), i ≤ n ∧ iv = .int .i64 i ∧ v = .slice q m' d ∧ mv = .bool mb ∧ m ≤ m' ∧ (mb = true → m < m') ∧ (mb = false → m' = m) ∧ OwnR 75 enc3 3 wr w2.heap.size q m' d L ∧ Hid (JobsOf xs L n i J) ∧ Below w2.heap.size w2 wr) (fun _ _ iv _ => n - (intOf iv).toNat)
          case atStart => exact ⟨0, m, false, q, d, L, by omega, rfl, rfl, rfl, Nat.le_refl _, (fun h => Bool.noConfusion h), (fun _ => rfl), ho, HJ, hb⟩
          case round =>
            clear ho HJ hb hsz HLEN
            obtain ⟨i, m', mb, q, d, L, hi, rfl, rfl, rfl, hmm, hmt, hmf, ho, HJ, hb⟩ := hrel
            have hlen := ho.len
            have HLEN := Lib.hid hlen
            have hm12' : m' ≤ 12 := by have := HJ.out.len; omega
            clear hlen
            have hsz := hb.size
            have HMT := Lib.hid hmt; have HMF := Lib.hid hmf
            clear hmt hmf
            by_cases hin : i < n
            · obtain ⟨b, off, rfl, hlt, hc⟩ := h2.cells (by omega)
              have c0 : wr.cell? ⟨b, off + i * 3, none⟩ = some (.int .i64 (t0 xs i)) := (bdeep hb hlt _).trans (hc i hin).1
              have c1 : wr.cell? ⟨b, off + i * 3 + 1, none⟩ = some (.int .i64 (t1 xs i)) := (bdeep hb hlt _).trans (hc i hin).2.1
              have c2 : wr.cell? ⟨b, off + i * 3 + 2, none⟩ = some (.int .i64 (t2 xs i)) := (bdeep hb hlt _).trans (hc i hin).2.2
              have hti := HOK.out i hin
              unfold okTask at hti
              obtain ⟨at_, hat⟩ : ∃ at_, (J : Int) * t0 xs i = at_ := ⟨_, rfl⟩
              have hat0 : 0 ≤ at_ := by rw [← hat]; exact Int.mul_nonneg (by omega) (by omega)
              have hat1 : at_ ≤ 12 * 60 := by rw [← hat]; exact Int.mul_le_mul (by omega) (by omega) (by omega) (by omega)
              have hwr : IntKind.i64.wrap ((J : Int) * t0 xs i) = at_ := by rw [hat]; exact IntWalk.i64_in _ (by omega)
              have HAT := Lib.hid hat
              have hbA := hb.alloc hsz (.cells #[.int .i64 (t0 xs i), .int .i64 (t1 xs i), .int .i64 (t2 xs i)] 66)
              have hoA := ho.alloc (.cells #[.int .i64 (t0 xs i), .int .i64 (t1 xs i), .int .i64 (t2 xs i)] 66)
              clear hc
              by_cases hbig : 200 < at_ + t2 xs i
              · have HN := Lib.hid (HJ.out.skip HC.out)
                go_wp2
                go_roundw
                case rel => exact ⟨i + 1, m', mb, _, _, _, by omega, by go_num, rfl, rfl, hmm, HMT.out, HMF.out, hoA, HN, hbA⟩
                case measure => simp [intOf]; omega
              · by_cases hful : m' = 12
                · have HN := Lib.hid (HJ.out.skip HC.out)
                  have hd : ((m' : Int) == 12) = true := by simp; omega
                  have hd2 : (m' == 12) = true := by simp; omega
                  have HMN := Lib.hid hful
                  clear hful
                  go_wp2
                  go_roundw
                  case rel => exact ⟨i + 1, m', mb, _, _, _, by omega, by go_num, rfl, rfl, hmm, HMT.out, HMF.out, hoA, HN, hbA⟩
                  case measure => simp [intOf]; omega
                · have hd : ((m' : Int) == 12) = false := by simp; omega
                  have hd2 : (m' == 12) = false := by simp; omega
                  have hd3 : ¬ ((m' : Int) = 12) := by omega
                  have HN := Lib.hid (HJ.out.push (at_ := at_) hin (by have := HLEN.out; omega) HAT.out.symm (by unfold okJob; omega))
                  have hszA := hbA.size
                  have HMM := Lib.hid (show m < m' + 1 by omega)
                  go_wp2_with (at_builtin; refine wpL_push_R Try.tyJobs rfl (by omega) (by omega) enc3_len enc3_one rfl (B := w2.heap.size) (W0 := w2) rfl (at_, t1 xs i, at_ + t2 xs i) (by first | rfl | simp [Act.eval]) (by first | rfl | simp [Act.eval]) hoA hbA (by omega) hszA ?_; intro p8 c8 w8 ho8 hb8 hg8 hp8)
                  go_roundw
                  case rel => exact ⟨i + 1, m' + 1, true, _, _, _, by omega, by go_num, rfl, rfl, by omega, (fun _ => HMM.out), (fun h => Bool.noConfusion h), ho8, HN, hb8⟩
                  case measure => simp [intOf]; omega
            · obtain rfl : n = i := by omega
              cases mb with
              | true =>
                have hlt := HMT.out (by first | rfl | trivial)
                have HR := Lib.hid HJ.out.round
                go_wp2
                go_roundw
                case rel => exact ⟨J + 1, m', _, _, _, rfl, by go_num, by omega, ho, HR, hb⟩
                case measure => first | omega | (simp; omega)
              | false =>
                have HS3 := Lib.hid ((ho.sr enc3_len).s3)
                have HLN := Lib.hid ho.len
                have HJE := Lib.hid HJ.out.jobs
                have HFJ : Hid (FitsJ (t0 L) (t1 L) (t2 L) m') := Lib.hid (by have := HJ.out.fitJ HOK.out HFI.out; rwa [HLN.out] at this)
                have HNV : Hid (FirstP (lateP (t0 L) (t1 L) (t2 L) m') m' m') := Lib.hid (by have := HJ.out.never HOK.out HFI.out; rwa [HLN.out] at this)
                have B3 := B2.trans (hb.mono B2.size)
                clear ho HJ
                go_wp2_with fail
                refine (edf_Fits_ok (q := true) HS3.out HJE.out ⟨fun _ => HFJ.out, fun _ => rfl⟩).mono ?_; rintro e w5 ⟨rfl, b5⟩
                have HS4 := Lib.hid (S3.below HS3.out b5)
                have B5 := B3.trans (b5.mono B3.size)
                go_wp2_with fail
                refine (edf_Late_ok (i := m') (v := 0) (e0 := 5) HS4.out HJE.out HNV.out (fun h => absurd h (Nat.lt_irrefl _)) (fun _ => ⟨rfl, rfl⟩)).mono ?_; rintro e w6 ⟨rfl, b6⟩
                have B6 := B5.trans (b6.mono B5.size)
                go_wp2
                go_ret
                exact ⟨rfl, B6⟩
        · obtain rfl : m = 12 := by omega
          have HS3 := Lib.hid ((ho.sr enc3_len).s3)
          have HLN := Lib.hid ho.len
          have HJE := Lib.hid HJ.out.jobs
          have HFJ : Hid (FitsJ (t0 L) (t1 L) (t2 L) 12) := Lib.hid (by have := HJ.out.fitJ HOK.out HFI.out; rwa [HLN.out] at this)
          have HNV : Hid (FirstP (lateP (t0 L) (t1 L) (t2 L) 12) 12 12) := Lib.hid (by have := HJ.out.never HOK.out HFI.out; rwa [HLN.out] at this)
          have B3 := B2.trans (hb.mono B2.size)
          clear ho HJ
          go_wp2_with fail
          refine (edf_Fits_ok (q := true) HS3.out HJE.out ⟨fun _ => HFJ.out, fun _ => rfl⟩).mono ?_; rintro e w5 ⟨rfl, b5⟩
          have HS4 := Lib.hid (S3.below HS3.out b5)
          have B5 := B3.trans (b5.mono B3.size)
          go_wp2_with fail
          refine (edf_Late_ok (i := 12) (v := 0) (e0 := 5) HS4.out HJE.out HNV.out (fun h => absurd h (Nat.lt_irrefl _)) (fun _ => ⟨rfl, rfl⟩)).mono ?_; rintro e w6 ⟨rfl, b6⟩
          have B6 := B5.trans (b6.mono B5.size)
          go_wp2
          go_ret
          exact ⟨rfl, B6⟩
  · have hz : (et == 0) = false := by simp [h0]
    go_enter Try.func10, Try.ntmps10
    go_wp2_with fail
    refine (ranks_Fits_bad h HET.out h0).mono ?_; rintro e w1 ⟨rfl, b1⟩
    go_wp2_with fail
    refine (top_begun).mono ?_; rintro e w2 ⟨rfl, b2⟩
    have B2 := b1.trans (b2.mono b1.size)
    go_wp2_with fail
    refine (top_begun).mono ?_; rintro e w3 ⟨rfl, b3⟩
    have B3 := B2.trans (b3.mono B2.size)
    go_wp2
    go_ret
    exact ⟨rfl, B3⟩
end Go.Proofs.Ytgnegemiiahkaaa
