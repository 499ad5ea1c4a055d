/- The contracts of edf.Check, edf.Fits, headref.Jobs and headref.Demand (P43, P46). Conditions: that the jobs' numbers are numbers of 64 bits. -/
import Derived.Test.YtgnegemiiahkaaaRows
import Derived.Test.YtgnegemiiahkaaaS3
import Derived.Test.YtgnegemiiahkaaaEdfLaw
import Derived.Test.YtgnegemiiahkaaaIndexFunc
import Derived.Deep.QuietTactic
import Derived.BigQuiet
import Derived.RegionTactic
import Derived.BigRegion
namespace Go.Proofs.Ytgnegemiiahkaaa
open Go Go.RowKit

def okJob (a w d : Int) : Prop := 0 ≤ a ∧ a < d ∧ d ≤ 200 ∧ 1 ≤ w ∧ w ≤ 200
instance (a w d : Int) : Decidable (okJob a w d) := by unfold okJob; infer_instance
theorem not_job {a w d : Int} (h : ¬ okJob a w d) : a < 0 ∨ (0 ≤ a ∧ d ≤ a) ∨ (0 ≤ a ∧ a < d ∧ 200 < d) ∨ (0 ≤ a ∧ a < d ∧ d ≤ 200 ∧ w < 1) ∨ (0 ≤ a ∧ a < d ∧ d ≤ 200 ∧ 1 ≤ w ∧ 200 < w) := by unfold okJob at h; omega
def okJobs (xs : List (Int × Int × Int)) : Prop := ∀ j, j < xs.length → okJob (t0 xs j) (t1 xs j) (t2 xs j)
instance (xs : List (Int × Int × Int)) : Decidable (okJobs xs) := by unfold okJobs; infer_instance
/-- P43 -/
def jobsErr (xs : List (Int × Int × Int)) : Int := if xs.length > 12 then 2 else if okJobs xs then 0 else 1
theorem jobs_ok {xs : List (Int × Int × Int)} (h : jobsErr xs = 0) : xs.length ≤ 12 ∧ okJobs xs := by
  unfold jobsErr at h
  by_cases h1 : xs.length > 12
  · rw [if_pos h1] at h; omega
  · rw [if_neg h1] at h
    by_cases h2 : okJobs xs
    · exact ⟨by omega, h2⟩
    · rw [if_neg h2] at h; omega
theorem jobs_bad {xs : List (Int × Int × Int)} {j : Nat} (h5 : ¬ xs.length > 12) (hj : j < xs.length) (h : ¬ okJob (t0 xs j) (t1 xs j) (t2 xs j)) : jobsErr xs = 1 := by
  unfold jobsErr
  rw [if_neg h5, if_neg]
  intro hn
  exact h (hn j hj)
theorem jobs_end {xs : List (Int × Int × Int)} (h5 : ¬ xs.length > 12) (h : okJobs xs) : jobsErr xs = 0 := by
  unfold jobsErr
  rw [if_neg h5, if_pos h]

set_option maxHeartbeats 1600000 in
theorem edf_Check {w : World} {p : Option Addr} {n c : Nat} {xs : List (Int × Int × Int)} (h : S3 w p n c xs) {er : Int} (he : jobsErr xs = er) :
    Calls Try.prog 40 #[.slice p n c] w fun e w' => e = .returned (.int .i64 er) ∧ Below w.heap.size w w' := by
  have hl := h.1
  have hm := h.2.1
  have HE := Lib.hid he; clear he
  have HL := Lib.hid hl; clear hl
  by_cases h5 : 12 < n
  · have hb1 : decide ((12 : Int) < (n : Int)) = true := by simp; omega
    go_enter Try.func40, Try.ntmps40
    go_wp2
    go_ret
    exact ⟨ret_int (by rw [← HE.out]; unfold jobsErr; rw [HL.out, if_pos h5]), Below.refl _ _⟩
  have hb1 : decide ((12 : Int) < (n : Int)) = false := by simp; omega
  have H5 := Lib.hid (show ¬ xs.length > 12 by rw [HL.out]; exact h5)
  go_enter Try.func40, Try.ntmps40
  go_wp2
  go_loopw [10] (fun i wr => ∃ k : Nat, k ≤ n ∧ i = .int .i64 k ∧ Hid (∀ j, j < k → okJob (t0 xs j) (t1 xs j) (t2 xs j)) ∧ Below w.heap.size w wr) (fun i _ => n - (intOf i).toNat)
  case atStart => exact ⟨0, Nat.zero_le _, rfl, Lib.hid (fun j hj => by omega), Below.refl _ _⟩
  case round =>
    obtain ⟨k, hk, rfl, H, hb⟩ := hrel
    have hsz := hb.size
    by_cases hkn : k < n
    · obtain ⟨b, off, rfl, hlt, hc⟩ := h.cells (by omega)
      have hlr : b < wr.heap.size := by omega
      have c0 : wr.cell? ⟨b, off + k * 3, none⟩ = some (.int .i64 (t0 xs k)) := (bdeep hb hlt _).trans (hc k hkn).1
      have c1 : wr.cell? ⟨b, off + k * 3 + 1, none⟩ = some (.int .i64 (t1 xs k)) := (bdeep hb hlt _).trans (hc k hkn).2.1
      have c2 : wr.cell? ⟨b, off + k * 3 + 2, none⟩ = some (.int .i64 (t2 xs k)) := (bdeep hb hlt _).trans (hc k hkn).2.2
      have HBn := Lib.hid ((hb.alloc hsz (.cells #[.int .i64 (t0 xs k), .int .i64 (t1 xs k), .int .i64 (t2 xs k)] 75)))
      have HKL := Lib.hid (show k < xs.length by rw [HL.out]; exact hkn)
      by_cases hok : okJob (t0 xs k) (t1 xs k) (t2 xs k)
      · have hok' := Lib.hid hok
        obtain ⟨o1, o2, o3, o4, o5⟩ := hok
        have g8 : decide (200 < t1 xs k) = false := by simp; omega
        clear hc h hb
        go_wp2
        go_roundw
        case rel => exact ⟨k + 1, by omega, by go_num, Lib.hid (fun j hj => by rcases Nat.lt_succ_iff_lt_or_eq.1 hj with h | rfl; exact H.out j h; exact hok'.out), HBn.out⟩
        case measure => simp [intOf]; omega
      · have hno := Lib.hid (jobs_bad H5.out HKL.out hok)
        clear hc h hb
        rcases not_job hok with g1 | ⟨g1, g2⟩ | ⟨g1, g2, g3⟩ | ⟨g1, g2, g3, g4⟩ | ⟨g1, g2, g3, g4, g5⟩
        all_goals
          clear hok
          try have g8 : decide (200 < t1 xs k) = true := by simp; omega
          go_wp2
          go_ret
          exact ⟨ret_int (by rw [← HE.out, hno.out]), HBn.out⟩
    · obtain rfl : n = k := by omega
      go_wp2
      go_ret
      exact ⟨ret_int (by rw [← HE.out, jobs_end H5.out (fun j hj => H.out j (by rw [HL.out] at hj; exact hj))]), hb⟩

def badJ (a w d : Int) : Bool := !decide (okJob a w d)
theorem badJ_true {a w d : Int} : badJ a w d = true ↔ ¬ okJob a w d := by simp [badJ]
theorem badJ_false {a w d : Int} : badJ a w d = false ↔ okJob a w d := by simp [badJ]
def big : Int := 9223372036854775807
theorem wrap_big : IntKind.i64.wrap (big + 1) = -9223372036854775808 := by decide
theorem wrap64_big : wrap64 (big + 1) = -9223372036854775808 := (IntWalk.i64_left _).symm.trans wrap_big

set_option maxHeartbeats 1600000 in
theorem ref_Jobs1 {v : World} {a w d : Int} (ha : a ≤ 9223372036854775807) (hd : -9223372036854775808 ≤ d) (hd2 : d ≤ 9223372036854775807) :
    Calls Try.prog 77 #[.agg #[.int .i64 a, .int .i64 w, .int .i64 d]] v fun e w' => e = .returned (.bool (badJ a w d)) ∧ Below v.heap.size v w' := by
  have hbel := (Below.refl v.heap.size v).alloc (Nat.le_refl _) (.cells #[.int .i64 a, .int .i64 w, .int .i64 d] 75)
  by_cases hok : okJob a w d
  · have HB := Lib.hid (badJ_false.2 hok)
    obtain ⟨o1, o2, o3, o4, o5⟩ := hok
    have g1 : decide (d ≤ a) = false := by simp; omega
    clear ha hd
    go_enter Try.func77, Try.ntmps77
    go_wp2
    go_ret
    exact ⟨ret_bool (by rw [HB.out]; try (simp; omega)), hbel⟩
  · have HB := Lib.hid (badJ_true.2 hok)
    rcases not_job hok with g1 | ⟨g1, g2⟩ | ⟨g1, g2, g3⟩ | ⟨g1, g2, g3, g4⟩ | ⟨g1, g2, g3, g4, g5⟩
    · clear hok ha hd
      go_enter Try.func77, Try.ntmps77
      go_wp2
      go_ret
      exact ⟨ret_bool (by rw [HB.out]), hbel⟩
    · by_cases hbig : a = big
      · subst hbig
        have z0 : 0 ≤ big := by decide
        have z1 := wrap_big
        have z2 := wrap64_big
        have z3 : decide (d ≤ big) = true := by simp; exact g2
        clear hok ha
        go_enter Try.func77, Try.ntmps77
        go_wp2
        all_goals
          go_ret
          exact ⟨ret_bool (by rw [HB.out]; try (simp; omega)), hbel⟩
      · have ha2 : a ≤ 9223372036854775806 := by unfold big at hbig; omega
        clear hok hbig ha
        go_enter Try.func77, Try.ntmps77
        go_wp2
        all_goals
          go_ret
          exact ⟨ret_bool (by rw [HB.out]; try (simp; omega)), hbel⟩
    · have ha2 : a ≤ 9223372036854775806 := by omega
      have z3 : decide (d ≤ 200) = false := by simp; omega
      clear hok ha hd hd2
      go_enter Try.func77, Try.ntmps77
      go_wp2
      all_goals
        go_ret
        exact ⟨ret_bool (by rw [HB.out]; try (simp; omega)), hbel⟩
    · clear hok ha hd
      go_enter Try.func77, Try.ntmps77
      go_wp2
      all_goals
        go_ret
        exact ⟨ret_bool (by rw [HB.out]; try (simp; omega)), hbel⟩
    · have g8 : decide (w ≤ 200) = false := by simp; omega
      clear hok ha hd
      go_enter Try.func77, Try.ntmps77
      go_wp2
      all_goals
        go_ret
        exact ⟨ret_bool (by rw [HB.out]; try (simp; omega)), hbel⟩

/-- the numbers are numbers of 64 bits -/
def Wide (xs : List (Int × Int × Int)) (n : Nat) : Prop := ∀ j, j < n → (-9223372036854775808 ≤ t0 xs j ∧ t0 xs j ≤ 9223372036854775807) ∧ (-9223372036854775808 ≤ t1 xs j ∧ t1 xs j ≤ 9223372036854775807) ∧ (-9223372036854775808 ≤ t2 xs j ∧ t2 xs j ≤ 9223372036854775807)

set_option maxHeartbeats 1000000 in
theorem index_Job {w : World} {p : Option Addr} {n c : Nat} {xs : List (Int × Int × Int)} (h : S3 w p n c xs) (hw : Wide xs n) {i : Nat} (hi : FirstP (fun k => badJ (t0 xs k) (t1 xs k) (t2 xs k)) n i) :
    Calls Try.prog 92 #[.slice p n c, .func (.func 77) #[] #[]] w fun e w' => e = .returned (.int .i64 (if i < n then i else -1)) ∧ Below w.heap.size w w' := by
  have hm := h.2.1
  obtain ⟨h1, h2, h3⟩ := hi
  have H2 := Lib.hid h2; have H3 := Lib.hid h3; have HW := Lib.hid hw; clear h2 h3 hw
  go_enter Try.func92, Try.ntmps92
  go_wp2
  go_loopw [8] (fun v wr => ∃ k : Nat, k ≤ i ∧ v = .int .i64 k ∧ Below w.heap.size w wr) (fun v _ => n - (intOf v).toNat)
  case atStart => exact ⟨0, by omega, rfl, Below.refl _ _⟩
  case round =>
    obtain ⟨k, hk, rfl, hb⟩ := hrel
    have hsz := hb.size
    by_cases hkn : k < n
    · obtain ⟨b, off, rfl, hlt, hc⟩ := h.cells (by omega)
      have hlr : b < wr.heap.size := by omega
      have c0 : wr.cell? ⟨b, off + k * 3, none⟩ = some (.int .i64 (t0 xs k)) := (bdeep hb hlt _).trans (hc k hkn).1
      have c1 : wr.cell? ⟨b, off + k * 3 + 1, none⟩ = some (.int .i64 (t1 xs k)) := (bdeep hb hlt _).trans (hc k hkn).2.1
      have c2 : wr.cell? ⟨b, off + k * 3 + 2, none⟩ = some (.int .i64 (t2 xs k)) := (bdeep hb hlt _).trans (hc k hkn).2.2
      obtain ⟨⟨_, w2⟩, _, w5, w6⟩ := HW.out k hkn
      clear hc h
      by_cases hki : k < i
      · go_wp2_with fail
        refine (ref_Jobs1 w2 w5 w6).mono ?_; rintro e w1 ⟨rfl, hb1⟩
        rw [H2.out k hki]
        have hb2 := hb.trans (hb1.mono hsz)
        clear w2 w5 w6
        go_wp2
        go_roundw
        case rel => exact ⟨k + 1, by omega, by go_num, hb2⟩
        case measure => simp [intOf]; omega
      · obtain rfl : i = k := by omega
        go_wp2_with fail
        refine (ref_Jobs1 w2 w5 w6).mono ?_; rintro e w1 ⟨rfl, hb1⟩
        rw [H3.out hkn]
        have hb2 := hb.trans (hb1.mono hsz)
        clear w2 w5 w6
        go_wp2
        go_ret
        exact ⟨ret_int (by first | rfl | rw [if_pos hkn]), hb2⟩
    · obtain rfl : i = k := by omega
      go_wp2
      go_ret
      exact ⟨ret_int (by first | rfl | rw [if_neg hkn]), hb⟩

set_option maxHeartbeats 1000000 in
theorem ref_Jobs {w : World} {p : Option Addr} {n c : Nat} {xs : List (Int × Int × Int)} (h : S3 w p n c xs) (hw : Wide xs n) {er : Int} (he : jobsErr xs = er) :
    Calls Try.prog 39 #[.slice p n c] w fun e w' => e = .returned (.int .i64 er) ∧ Below w.heap.size w w' := by
  have hl := h.1
  have hm := h.2.1
  have HE := Lib.hid he; clear he
  have HL := Lib.hid hl; clear hl
  have HW := Lib.hid hw; clear hw
  by_cases h5 : 12 < n
  · have hb1 : decide ((12 : Int) < (n : Int)) = true := by simp; omega
    go_enter Try.func39, Try.ntmps39
    go_wp2
    go_ret
    exact ⟨ret_int (by rw [← HE.out]; unfold jobsErr; rw [HL.out, if_pos h5]), Below.refl _ _⟩
  have hb1 : decide ((12 : Int) < (n : Int)) = false := by simp; omega
  have H5 := Lib.hid (show ¬ xs.length > 12 by rw [HL.out]; exact h5)
  obtain ⟨i, hi⟩ := firstP_exists (fun k => badJ (t0 xs k) (t1 xs k) (t2 xs k)) n
  have HI := Lib.hid hi; clear hi
  by_cases hin : i < n
  · have HN := Lib.hid (jobs_bad H5.out (j := i) (by rw [HL.out]; exact hin) (badJ_true.1 (HI.out.2.2 hin)))
    go_enter Try.func39, Try.ntmps39
    go_wp2_with fail
    refine Calls.mono (R := fun e w' => e = .returned (.bool true) ∧ Below w.heap.size w w') ?_ ?_
    · go_enter Try.func76, Try.ntmps76
      go_wp2_with fail
      refine (index_Job h HW.out HI.out).mono ?_; rintro e w1 ⟨rfl, hb1⟩
      rw [if_pos hin]
      go_wp2
      go_ret
      exact ⟨rfl, hb1⟩
    rintro e w1 ⟨rfl, hb1⟩
    go_wp2
    go_ret
    exact ⟨ret_int (by rw [← HE.out, HN.out]), hb1⟩
  · have HN := Lib.hid (jobs_end H5.out (fun j hj => badJ_false.1 (HI.out.2.1 j (by have := HI.out.1; rw [HL.out] at hj; omega))))
    go_enter Try.func39, Try.ntmps39
    go_wp2_with fail
    refine Calls.mono (R := fun e w' => e = .returned (.bool false) ∧ Below w.heap.size w w') ?_ ?_
    · go_enter Try.func76, Try.ntmps76
      go_wp2_with fail
      refine (index_Job h HW.out HI.out).mono ?_; rintro e w1 ⟨rfl, hb1⟩
      rw [if_neg hin]
      go_wp2
      go_ret
      exact ⟨rfl, hb1⟩
    rintro e w1 ⟨rfl, hb1⟩
    go_wp2
    go_ret
    exact ⟨ret_int (by rw [← HE.out, HN.out]), hb1⟩
end Go.Proofs.Ytgnegemiiahkaaa
