/- The contracts of edf.Run and edf.Late (P44, P45). No conditions beyond what each theorem says. -/
import Derived.Test.YtgnegemiiahkaaaEdfPlay
namespace Go.Proofs.Ytgnegemiiahkaaa
open Go Go.RowKit
set_option linter.unusedVariables false
set_option linter.unusedSimpArgs false

theorem edf_Run_bad {w : World} {p : Option Addr} {n c : Nat} {xs : List (Int × Int × Int)} (h : S3 w p n c xs) {er : Int} (he : jobsErr xs = er) (h0 : er ≠ 0) :
    Calls Try.prog 37 #[.slice p n c] w fun e w' => e = .returned (.tuple #[.slice none 0 0, .int .i64 er]) ∧ Below w.heap.size w w' := by
  have hb : (er == 0) = false := by simp [h0]
  go_enter Try.func37, Try.ntmps37
  go_wp2_with fail
  refine (edf_Check h he).mono ?_; rintro e w' ⟨rfl, b1⟩
  go_wp2
  go_ret2
  exact ⟨rfl, b1⟩
theorem edf_Run_ok {w : World} {p : Option Addr} {n c : Nat} {xs : List (Int × Int × Int)} (h : S3 w p n c xs) (he : jobsErr xs = 0) :
    Calls Try.prog 37 #[.slice p n c] w fun e w' => ∃ q d, e = .returned (.tuple #[.slice q (bz (t0 xs) (t1 xs) (t2 xs) n 200) d, .int .i64 0]) ∧
      SI w' q (bz (t0 xs) (t1 xs) (t2 xs) n 200) d (tab (bz (t0 xs) (t1 xs) (t2 xs) n 200) (pk (t0 xs) (t1 xs) (t2 xs) n)) ∧ Below w.heap.size w w' := by
  have HE := Lib.hid he; clear he
  go_enter Try.func37, Try.ntmps37
  go_wp2_with fail
  refine (edf_Check h HE.out).mono ?_; rintro e w1 ⟨rfl, b1⟩
  go_wp2_with fail
  refine (edf_play (h.below b1) HE.out).mono ?_; rintro e w2 ⟨q, d, q2, d2, rfl, s1, s2, b2⟩
  have b3 := b1.trans (b2.mono b1.size)
  go_wp2
  go_ret2
  exact ⟨_, _, rfl, s1, b3⟩
/-- job i is late -/
def lateP (A W D : Nat → Int) (n i : Nat) : Bool := decide (dn A W D n 200 i = 0 ∨ D i < dn A W D n 200 i)
theorem dn_bd (A W D : Nat → Int) (n : Nat) : ∀ t i, 0 ≤ dn A W D n t i ∧ dn A W D n t i ≤ (t : Int)
  | 0, i => by simp [dn]
  | t + 1, i => by
    have := dn_bd A W D n t i
    rw [dn_succ]
    split <;> omega
theorem edf_Late_bad {w : World} {p : Option Addr} {n c : Nat} {xs : List (Int × Int × Int)} (h : S3 w p n c xs) {er : Int} (he : jobsErr xs = er) (h0 : er ≠ 0) :
    Calls Try.prog 38 #[.slice p n c] w fun e w' => e = .returned (.tuple #[.int .i64 0, .int .i64 er]) ∧ Below w.heap.size w w' := by
  have hb : (er == 0) = false := by simp [h0]
  go_enter Try.func38, Try.ntmps38
  go_wp2_with fail
  refine (edf_Check h he).mono ?_; rintro e w' ⟨rfl, b1⟩
  go_wp2
  go_ret2
  exact ⟨rfl, b1⟩
set_option maxHeartbeats 1600000 in
theorem edf_Late_ok {w : World} {p : Option Addr} {n c i : Nat} {xs : List (Int × Int × Int)} (h : S3 w p n c xs) (he : jobsErr xs = 0) (hi : FirstP (lateP (t0 xs) (t1 xs) (t2 xs) n) n i) {v e0 : Int} (hy : i < n → v = i ∧ e0 = 0) (hno : ¬ i < n → v = 0 ∧ e0 = 5) :
    Calls Try.prog 38 #[.slice p n c] w fun e w' => e = .returned (.tuple #[.int .i64 v, .int .i64 e0]) ∧ Below w.heap.size w w' := by
  have HE := Lib.hid he; have HI := Lib.hid hi; have HY := Lib.hid hy; have HN := Lib.hid hno
  clear hy hno
  have hm := h.2.1
  obtain ⟨h12, hok⟩ := jobs_ok he
  rw [h.1] at h12
  have HOK : Hid (∀ j, j < n → okJob (t0 xs j) (t1 xs j) (t2 xs j)) := Lib.hid (by rw [← h.1]; exact hok)
  clear he hi hok
  go_enter Try.func38, Try.ntmps38
  go_wp2_with fail
  refine (edf_Check h HE.out).mono ?_; rintro e w1 ⟨rfl, b1⟩
  have h1 := h.below b1
  go_wp2_with fail
  refine (edf_play h1 HE.out).mono ?_; rintro e w2 ⟨q, d, q2, d2, rfl, s1, s2, b2⟩
  have b3 := b1.trans (b2.mono b1.size)
  have h2 := h1.below b2
  have sm := s1.2.1
  have sm2 := s2.2.1
  have hbs := b3.size
  clear s1 h h1 b1 b2
  go_wp2
  go_loopw [21] (fun v wr => ∃ k : Nat, k ≤ n ∧ v = .int .i64 k ∧ k ≤ i ∧ Below w2.heap.size w2 wr) (fun v _ => n - (intOf v).toNat)
  case atStart => exact ⟨0, by omega, rfl, by omega, Below.refl _ _⟩
  case round =>
    obtain ⟨k, hk, rfl, hki, hb⟩ := hrel
    have hsz := hb.size
    by_cases hkn : k < n
    · obtain ⟨b, off, rfl, hlt, hc⟩ := h2.cells (by omega)
      obtain ⟨b', off', rfl, hlt', hc'⟩ := s2.cells (by omega)
      have c0 : wr.cell? ⟨b, off + k * 3, none⟩ = some (.int .i64 (t0 xs k)) := (bdeep hb hlt _).trans (hc k hkn).1
      have c1 : wr.cell? ⟨b, off + k * 3 + 1, none⟩ = some (.int .i64 (t1 xs k)) := (bdeep hb hlt _).trans (hc k hkn).2.1
      have c2 : wr.cell? ⟨b, off + k * 3 + 2, none⟩ = some (.int .i64 (t2 xs k)) := (bdeep hb hlt _).trans (hc k hkn).2.2
      have c3 : wr.cell? ⟨b', off' + k, none⟩ = some (.int .i64 (dn (t0 xs) (t1 xs) (t2 xs) n 200 k)) := by rw [bdeep hb hlt' _, hc' k hkn, gi_tab hkn]
      have hlr : b < wr.heap.size := by omega
      have hlr' : b' < wr.heap.size := by omega
      have hdn := dn_bd (t0 xs) (t1 xs) (t2 xs) n 200 k
      have HB := Lib.hid (hb.alloc hsz (.cells #[.int .i64 (t0 xs k), .int .i64 (t1 xs k), .int .i64 (t2 xs k)] 75))
      have HLP : Hid (lateP (t0 xs) (t1 xs) (t2 xs) n k = decide (dn (t0 xs) (t1 xs) (t2 xs) n 200 k = 0 ∨ t2 xs k < dn (t0 xs) (t1 xs) (t2 xs) n 200 k)) := Lib.hid rfl
      generalize dn (t0 xs) (t1 xs) (t2 xs) n 200 k = dk at *
      clear hc hc' h2 s2 hb
      by_cases hki2 : k = i
      · have hlp : lateP (t0 xs) (t1 xs) (t2 xs) n k = true := by rw [hki2]; exact HI.out.2.2 (by omega)
        rw [HLP.out] at hlp
        have hor : dk = 0 ∨ t2 xs k < dk := by simpa using hlp
        clear hlp HLP
        have HKI := Lib.hid hki2
        clear hki2
        by_cases hd0 : dk = 0
        · have q1 : (dk == 0) = true := by simp [hd0]
          clear hd0 hor
          go_wp2
          go_quiet (fail)
          go_wp2
          go_ret2
          exact ⟨by rw [(HY.out (by rw [← HKI.out]; exact hkn)).1, (HY.out (by rw [← HKI.out]; exact hkn)).2, ← HKI.out]; rfl, b3.trans ((below_drewN HB.out _).mono hbs)⟩
        · have q1 : (dk == 0) = false := by simp [hd0]
          have q2 : decide (t2 xs k < dk) = true := by simp; omega
          clear hd0 hor
          go_wp2
          go_quiet (fail)
          go_wp2
          go_ret2
          exact ⟨by rw [(HY.out (by rw [← HKI.out]; exact hkn)).1, (HY.out (by rw [← HKI.out]; exact hkn)).2, ← HKI.out]; rfl, b3.trans ((below_drewN HB.out _).mono hbs)⟩
      · have hlp : lateP (t0 xs) (t1 xs) (t2 xs) n k = false := HI.out.2.1 k (by omega)
        rw [HLP.out] at hlp
        have hor : ¬ (dk = 0 ∨ t2 xs k < dk) := by simpa using hlp
        have q1 : (dk == 0) = false := by simp; omega
        have q2 : decide (t2 xs k < dk) = false := by simp; omega
        clear hlp HLP hor
        go_wp2
        go_quiet (fail)
        go_wp2
        go_roundw
        case rel => exact ⟨k + 1, by omega, by go_num, by omega, below_drewN HB.out _⟩
        case measure => simp [intOf]; omega
    · obtain rfl : n = k := by omega
      have hin : ¬ i < n := by omega
      go_wp2
      go_ret2
      exact ⟨by rw [(HN.out hin).1, (HN.out hin).2]; rfl, b3.trans (hb.mono hbs)⟩
end Go.Proofs.Ytgnegemiiahkaaa
