/- The contracts of edf.Fits and headref.Demand, and the walk of headlaw.EdfFits (P46): it returns true and changes nothing that was there. Conditions: none beyond what each theorem says. -/
import Derived.Test.YtgnegemiiahkaaaEdf
namespace Go.Proofs.Ytgnegemiiahkaaa
open Go Go.RowKit

theorem need_step (A W D : Nat → Int) (u : Nat) (a b : Int) : need A W D (u + 1) a b = need A W D u a b + if a ≤ A u ∧ D u ≤ b then W u else 0 := rfl
theorem need_bd {A W D : Nat → Int} {n : Nat} {a b : Int} (h : ∀ j, j < n → okJob (A j) (W j) (D j)) {u : Nat} (hu : u ≤ n) : 0 ≤ need A W D u a b ∧ need A W D u a b ≤ 200 * (u : Int) := by
  unfold need
  refine sumT_bd (n := n) (fun j hj => ?_) u hu
  have := h j hj
  unfold okJob at this
  split <;> omega
theorem okJobs_law {xs : List (Int × Int × Int)} {n : Nat} (h : ∀ j, j < n → okJob (t0 xs j) (t1 xs j) (t2 xs j)) : ∀ j, j < n → 0 ≤ t0 xs j ∧ t0 xs j < t2 xs j ∧ t2 xs j ≤ 200 ∧ 1 ≤ t1 xs j := fun j hj => by
  have := h j hj
  unfold okJob at this; omega
/-- the three cells of a struct in a box -/
theorem S3.three {w : World} {p : Option Addr} {n c k : Nat} {xs : List (Int × Int × Int)} {b off : Nat} (h : S3 w p n c xs) (hp : p = some ⟨b, off, none⟩) (hk : k < n) :
    w.cell? ⟨b, off + k * 3, none⟩ = some (.int .i64 (t0 xs k)) ∧ w.cell? ⟨b, off + k * 3 + 1, none⟩ = some (.int .i64 (t1 xs k)) ∧ w.cell? ⟨b, off + k * 3 + 2, none⟩ = some (.int .i64 (t2 xs k)) := by
  obtain ⟨b', off', he, _, hc⟩ := h.cells (by omega)
  rw [hp] at he
  simp only [Option.some.injEq, Addr.mk.injEq, and_true] at he
  obtain ⟨rfl, rfl⟩ := he
  exact hc k hk

set_option maxHeartbeats 1000000 in
theorem edf_Fits_bad {w : World} {p : Option Addr} {n c : Nat} {xs : List (Int × Int × Int)} (h : S3 w p n c xs) {er : Int} (he : jobsErr xs = er) (h0 : er ≠ 0) :
    Calls Try.prog 55 #[.slice p n c] w fun e w' => e = .returned (.tuple #[.bool false, .int .i64 er]) ∧ Below w.heap.size w w' := by
  have hb : (er == 0) = false := by simp [h0]
  go_enter Try.func55, Try.ntmps55
  go_wp2_with fail
  refine (edf_Check h he).mono ?_; rintro e w1 ⟨rfl, hb1⟩
  go_wp2
  go_ret2
  exact ⟨rfl, hb1⟩

/-- the pair i, k fits -/
def pairP (xs : List (Int × Int × Int)) (n i k : Nat) : Prop := t0 xs i < t2 xs k → need (t0 xs) (t1 xs) (t2 xs) n (t0 xs i) (t2 xs k) ≤ t2 xs k - t0 xs i

set_option maxHeartbeats 3200000 in
theorem edf_Fits_ok {w : World} {p : Option Addr} {n c : Nat} {xs : List (Int × Int × Int)} (h : S3 w p n c xs) (he : jobsErr xs = 0) {q : Bool} (hq : q = true ↔ FitsJ (t0 xs) (t1 xs) (t2 xs) n) :
    Calls Try.prog 55 #[.slice p n c] w fun e w' => e = .returned (.tuple #[.bool q, .int .i64 0]) ∧ Below w.heap.size w w' := by
  have hm := h.2.1
  have hl := h.1
  obtain ⟨h5, hok⟩ := jobs_ok he
  have hok' : ∀ j, j < n → okJob (t0 xs j) (t1 xs j) (t2 xs j) := by rw [← hl]; exact hok
  rw [hl] at h5
  have HE := Lib.hid he; have HOK := Lib.hid hok'; have HQ := Lib.hid hq
  clear he hok hok' hl hq
  go_enter Try.func55, Try.ntmps55
  go_wp2_with fail
  refine (edf_Check h HE.out).mono ?_; rintro e w1 ⟨rfl, hb1⟩
  have h1 := h.below hb1
  clear h
  go_wp2
  go_loopw [19] (fun i wr => ∃ k : Nat, k ≤ n ∧ i = .int .i64 k ∧ Hid (∀ i, i < k → ∀ j, j < n → pairP xs n i j) ∧ Below w1.heap.size w1 wr) (fun i _ => n - (intOf i).toNat)
  case atStart => exact ⟨0, by omega, rfl, Lib.hid (fun j hj => by omega), Below.refl _ _⟩
  case round =>
    obtain ⟨i, hi, rfl, HI, hb⟩ := hrel
    have hsz := hb.size
    by_cases hin : i < n
    · obtain ⟨b, off, rfl, hlt, _⟩ := h1.cells (by omega)
      have H1 := Lib.hid h1; clear h1
      have hlr : b < wr.heap.size := by omega
      obtain ⟨c0, c1, c2⟩ := (H1.out.below hb).three rfl hin
      have ha := hb.alloc hsz (.cells #[.int .i64 (t0 xs i), .int .i64 (t1 xs i), .int .i64 (t2 xs i)] 75)
      obtain ⟨⟨x0, x1, x2⟩, _⟩ := blk3 (blk_new wr #[.int .i64 (t0 xs i), .int .i64 (t1 xs i), .int .i64 (t2 xs i)] 75)
      have hxa : wr.heap.size < (wr.alloc (.cells #[.int .i64 (t0 xs i), .int .i64 (t1 xs i), .int .i64 (t2 xs i)] 75)).heap.size := by simp
      go_wp2
      generalize wr.alloc (.cells #[.int .i64 (t0 xs i), .int .i64 (t1 xs i), .int .i64 (t2 xs i)] 75) = WA at *
      generalize hgA : wr.heap.size = gA at *
      have HGA := Lib.hid hgA; clear hgA
      have X0 := Lib.hid x0; have X2 := Lib.hid x2
      clear c0 c1 c2 x0 x1 x2
      go_loopw [25] (fun vi wr => ∃ k : Nat, k ≤ n ∧ vi = .int .i64 k ∧ Hid (∀ j, j < k → pairP xs n i j) ∧ Below WA.heap.size WA wr) (fun i _ => n - (intOf i).toNat)
      case atStart => exact ⟨0, by omega, rfl, Lib.hid (fun j hj => by omega), Below.refl _ _⟩
      case round =>
        clear hb
        obtain ⟨k, hk, rfl, HK, hb⟩ := hrel
        have hsz2 := hb.size
        by_cases hkn : k < n
        · have hlr2 : b < wr.heap.size := by omega
          obtain ⟨c0, c1, c2⟩ := ((H1.out.below ha).below hb).three rfl hkn
          have ha2 := hb.alloc hsz2 (.cells #[.int .i64 (t0 xs k), .int .i64 (t1 xs k), .int .i64 (t2 xs k)] 75)
          obtain ⟨⟨y0, y1, y2⟩, _⟩ := blk3 (blk_new wr #[.int .i64 (t0 xs k), .int .i64 (t1 xs k), .int .i64 (t2 xs k)] 75)
          have hxb : wr.heap.size < (wr.alloc (.cells #[.int .i64 (t0 xs k), .int .i64 (t1 xs k), .int .i64 (t2 xs k)] 75)).heap.size := by simp
          go_wp2
          generalize wr.alloc (.cells #[.int .i64 (t0 xs k), .int .i64 (t1 xs k), .int .i64 (t2 xs k)] 75) = WB at *
          generalize hgB : wr.heap.size = gB at *
          have HGB := Lib.hid hgB; clear hgB
          have Y2 := Lib.hid y2
          clear c0 c1 c2 y0 y1 y2
          go_loopw [9, 31] (fun s vi wr => ∃ u : Nat, u ≤ n ∧ vi = .int .i64 u ∧ s = .int .i64 (need (t0 xs) (t1 xs) (t2 xs) u (t0 xs i) (t2 xs k)) ∧ Below WB.heap.size WB wr) (fun _ i _ => n - (intOf i).toNat)
          case atStart => exact ⟨0, by omega, rfl, rfl, Below.refl _ _⟩
          case round =>
            clear hb
            obtain ⟨u, hu, rfl, rfl, hb⟩ := hrel
            have hsz3 := hb.size
            have hnb := need_bd (a := t0 xs i) (b := t2 xs k) HOK.out hu
            have hoi := HOK.out i hin
            have hok := HOK.out k hkn
            unfold okJob at hoi hok
            have hAB := ha2.trans (hb.mono ha2.size)
            have x0 : wr.cell? ⟨gA, 0, none⟩ = some (.int .i64 (t0 xs i)) := (bdeep hAB hxa _).trans X0.out
            have y2 : wr.cell? ⟨gB, 2, none⟩ = some (.int .i64 (t2 xs k)) := (bdeep hb hxb _).trans Y2.out
            by_cases hun : u < n
            · have hlr3 : b < wr.heap.size := by omega
              obtain ⟨c0, c1, c2⟩ := ((H1.out.below ha).below hAB).three rfl hun
              have HA3 := Lib.hid (hb.alloc hsz3 (.cells #[.int .i64 (t0 xs u), .int .i64 (t1 xs u), .int .i64 (t2 xs u)] 75))
              have HST := Lib.hid (need_step (t0 xs) (t1 xs) (t2 xs) u (t0 xs i) (t2 xs k))
              have hou := HOK.out u hun
              unfold okJob at hou
              have hgl1 : gA < wr.heap.size := by omega
              have hgl2 : gB < wr.heap.size := by omega
              generalize need (t0 xs) (t1 xs) (t2 xs) u (t0 xs i) (t2 xs k) = nu at *
              clear hAB hb ha ha2
              by_cases e1 : t0 xs i ≤ t0 xs u
              · by_cases e2 : t2 xs u ≤ t2 xs k
                · have d1 : decide (t2 xs u ≤ t2 xs k) = true := by simp; exact e2
                  go_wp2
                  go_roundw
                  case rel => exact ⟨u + 1, by omega, by go_num, by rw [HST.out, if_pos ⟨e1, e2⟩], HA3.out⟩
                  case measure => simp [intOf]; omega
                · have d1 : decide (t2 xs u ≤ t2 xs k) = false := by simp; omega
                  go_wp2
                  go_roundw
                  case rel => exact ⟨u + 1, by omega, by go_num, by rw [HST.out, if_neg (by omega)]; simp, HA3.out⟩
                  case measure => simp [intOf]; omega
              · go_wp2
                go_roundw
                case rel => exact ⟨u + 1, by omega, by go_num, by rw [HST.out, if_neg (by omega)]; simp, HA3.out⟩
                case measure => simp [intOf]; omega
            · obtain rfl : n = u := by omega
              have hb5 := hAB
              have hb6 := ha.trans (hb5.mono ha.size)
              have hb7 := hb1.trans (hb6.mono hb1.size)
              have HB5 := Lib.hid hb5; have HB7 := Lib.hid hb7
              clear hAB hb ha ha2 hb5 hb6 hb7
              by_cases e1 : t0 xs i < t2 xs k
              · by_cases e2 : t2 xs k - t0 xs i < need (t0 xs) (t1 xs) (t2 xs) n (t0 xs i) (t2 xs k)
                · have hqf : q = false := by
                    cases hh : q with
                    | false => rfl
                    | true => have := HQ.out.1 hh i k hin hkn e1; omega
                  subst hqf
                  have d1 : decide (t2 xs k - t0 xs i < need (t0 xs) (t1 xs) (t2 xs) n (t0 xs i) (t2 xs k)) = true := by simp; exact e2
                  go_wp2
                  go_ret2
                  exact ⟨rfl, HB7.out⟩
                · have d1 : decide (t2 xs k - t0 xs i < need (t0 xs) (t1 xs) (t2 xs) n (t0 xs i) (t2 xs k)) = false := by simp; omega
                  go_wp2
                  go_roundw
                  case rel => exact ⟨k + 1, by omega, by go_num, Lib.hid (fun j hj => by rcases Nat.lt_succ_iff_lt_or_eq.1 hj with h | rfl; exact HK.out j h; exact fun _ => by omega), HB5.out⟩
                  case measure => simp [intOf]; omega
              · go_wp2
                go_roundw
                case rel => exact ⟨k + 1, by omega, by go_num, Lib.hid (fun j hj => by rcases Nat.lt_succ_iff_lt_or_eq.1 hj with h | rfl; exact HK.out j h; exact fun h => absurd h e1), HB5.out⟩
                case measure => simp [intOf]; omega
        · obtain rfl : n = k := by omega
          have hb5 := ha.trans (hb.mono ha.size)
          go_wp2
          go_roundw
          case rel => exact ⟨i + 1, by omega, by go_num, Lib.hid (fun j hj => by rcases Nat.lt_succ_iff_lt_or_eq.1 hj with h | rfl; exact HI.out j h; exact HK.out), hb5⟩
          case measure => simp [intOf]; omega
    · obtain rfl : n = i := by omega
      have hb2 := hb1.trans (hb.mono hb1.size)
      have hqt : q = true := HQ.out.2 (fun a b ha hb hlt => HI.out a ha b hb hlt)
      subst hqt
      go_wp2
      go_ret2
      exact ⟨rfl, hb2⟩

end Go.Proofs.Ytgnegemiiahkaaa
