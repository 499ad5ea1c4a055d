/- The contracts of lease.Check, lease.Live, lease.Pin, lease.Cut and headref.Leases (P59, P61, P62). No conditions beyond what each theorem says. -/
import Derived.Test.YtgnegemiiahkaaaRows
import Derived.Test.YtgnegemiiahkaaaRow3
import Derived.Deep.QuietTactic
import Derived.BigQuiet
import Derived.IntWalk
namespace Go.Proofs.Ytgnegemiiahkaaa
open Go Go.RowKit
set_option linter.unusedVariables false
set_option linter.unusedSimpArgs false

def okLs (a u p : Int) : Prop := 0 ≤ a ∧ a ≤ 7 ∧ 0 ≤ u ∧ u ≤ 1000000 ∧ 0 ≤ p ∧ p ≤ 1000000
instance okLsDec (a u p : Int) : Decidable (okLs a u p) := by unfold okLs; infer_instance
theorem not_ls {a u p : Int} (h : ¬ okLs a u p) : a < 0 ∨ (0 ≤ a ∧ 7 < a) ∨ (0 ≤ a ∧ a ≤ 7 ∧ u < 0) ∨ (0 ≤ a ∧ a ≤ 7 ∧ 0 ≤ u ∧ 1000000 < u) ∨ (0 ≤ a ∧ a ≤ 7 ∧ 0 ≤ u ∧ u ≤ 1000000 ∧ p < 0) ∨ (0 ≤ a ∧ a ≤ 7 ∧ 0 ≤ u ∧ u ≤ 1000000 ∧ 0 ≤ p ∧ 1000000 < p) := by unfold okLs at h; omega
def lscan (last : Int) : List (Int × Int × Int) → Int
  | [] => 0
  | (a, u, p) :: r => if ¬ okLs a u p then 1 else if a ≤ last then 3 else lscan a r
/-- P59 -/
def leaseErr (xs : List (Int × Int × Int)) : Int := lscan (-1) xs
def llast (xs : List (Int × Int × Int)) (k : Nat) : Int := if k = 0 then -1 else t0 xs (k - 1)
theorem lscan_drop (xs : List (Int × Int × Int)) (k : Nat) (h : k < xs.length) (l : Int) :
    lscan l (xs.drop k) = if ¬ okLs (t0 xs k) (t1 xs k) (t2 xs k) then 1 else if t0 xs k ≤ l then 3 else lscan (t0 xs k) (xs.drop (k + 1)) := by
  rw [List.drop_eq_getElem_cons h]
  have e : xs[k] = (t0 xs k, t1 xs k, t2 xs k) := by simp [t0, t1, t2, h]
  rw [e]; rfl
theorem lscan_end (xs : List (Int × Int × Int)) (l : Int) : lscan l (xs.drop xs.length) = 0 := by simp [lscan]

abbrev boxL (a u p : Int) : Obj := .cells #[.int .i64 a, .int .i64 u, .int .i64 p] 33
abbrev aggL (a u p : Int) : Value := .agg #[.int .i64 a, .int .i64 u, .int .i64 p]
theorem lease_one_ok {w : World} {a u p : Int} (h : okLs a u p) :
    Calls Try.prog 80 #[aggL a u p] w fun e w' => e = .returned (.int .i64 0) ∧ Below w.heap.size w w' := by
  have hb := (Below.refl w.heap.size w).alloc (Nat.le_refl _) (boxL a u p)
  obtain ⟨h1, h2, h3, h4, h5, h6⟩ := h
  go_enter Try.func80, Try.ntmps80
  go_wp2
  go_ret
  exact ⟨rfl, hb⟩
theorem lease_one_bad {w : World} {a u p : Int} (h : ¬ okLs a u p) :
    Calls Try.prog 80 #[aggL a u p] w fun e w' => e = .returned (.int .i64 1) ∧ Below w.heap.size w w' := by
  have hb := (Below.refl w.heap.size w).alloc (Nat.le_refl _) (boxL a u p)
  rcases not_ls h with g1 | ⟨g1, g2⟩ | ⟨g1, g2, g3⟩ | ⟨g1, g2, g3, g4⟩ | ⟨g1, g2, g3, g4, g5⟩ | ⟨g1, g2, g3, g4, g5, g6⟩
  all_goals
    clear h
    go_enter Try.func80, Try.ntmps80
    go_wp2
    go_ret
    exact ⟨rfl, hb⟩
theorem ref_Lease_ok {w : World} {a u p : Int} (h : okLs a u p) :
    Calls Try.prog 44 #[aggL a u p] w fun e w' => e = .returned (.int .i64 0) ∧ Below w.heap.size w w' := by
  have hb := (Below.refl w.heap.size w).alloc (Nat.le_refl _) (boxL a u p)
  obtain ⟨h1, h2, h3, h4, h5, h6⟩ := h
  go_enter Try.func44, Try.ntmps44
  go_wp2
  go_ret
  exact ⟨rfl, hb⟩
theorem ref_Lease_bad {w : World} {a u p : Int} (h : ¬ okLs a u p) :
    Calls Try.prog 44 #[aggL a u p] w fun e w' => e = .returned (.int .i64 1) ∧ Below w.heap.size w w' := by
  have hb := (Below.refl w.heap.size w).alloc (Nat.le_refl _) (boxL a u p)
  rcases not_ls h with g1 | ⟨g1, g2⟩ | ⟨g1, g2, g3⟩ | ⟨g1, g2, g3, g4⟩ | ⟨g1, g2, g3, g4, g5⟩ | ⟨g1, g2, g3, g4, g5, g6⟩
  all_goals
    clear h
    try have g8 : decide (p ≤ 1000000) = false := by simp; omega
    try have g9 : decide (u ≤ 1000000) = false := by simp; omega
    try have g10 : decide (a ≤ 7) = false := by simp; omega
    go_enter Try.func44, Try.ntmps44
    go_wp2
    go_ret
    exact ⟨rfl, hb⟩

set_option maxHeartbeats 1600000 in
theorem ref_Leases {w : World} {p : Option Addr} {n c : Nat} {xs : List (Int × Int × Int)} (h : S3 w p n c xs) {er : Int} (he : leaseErr xs = er) :
    Calls Try.prog 14 #[.slice p n c] w fun e w' => e = .returned (.int .i64 er) ∧ Below w.heap.size w w' := by
  have hl := h.1
  have hm := h.2.1
  have HS : Hid (lscan (-1) xs = er) := Lib.hid he
  have HL := Lib.hid hl; clear hl he
  go_enter Try.func14, Try.ntmps14
  go_wp2
  go_loopw [3, 9] (fun l i wr => ∃ k : Nat, k ≤ n ∧ i = .int .i64 k ∧ l = .int .i64 (llast xs k) ∧ Hid (lscan (llast xs k) (xs.drop k) = er) ∧ Below w.heap.size w wr) (fun _ i _ => n - (intOf i).toNat)
  case atStart => exact ⟨0, Nat.zero_le _, rfl, rfl, Lib.hid (by simpa [llast] using HS.out), Below.refl _ _⟩
  case round =>
    obtain ⟨k, hk, rfl, rfl, H, hb⟩ := hrel
    have hsz := hb.size
    by_cases hkn : k < n
    · obtain ⟨b, off, rfl, hlt, hc⟩ := h.cells (by omega)
      have c0 : wr.cell? ⟨b, off + k * 3, none⟩ = some (.int .i64 (t0 xs k)) := (bdeep hb hlt _).trans (hc k hkn).1
      have c1 : wr.cell? ⟨b, off + k * 3 + 1, none⟩ = some (.int .i64 (t1 xs k)) := (bdeep hb hlt _).trans (hc k hkn).2.1
      have c2 : wr.cell? ⟨b, off + k * 3 + 2, none⟩ = some (.int .i64 (t2 xs k)) := (bdeep hb hlt _).trans (hc k hkn).2.2
      have hst := Lib.hid (lscan_drop xs k (by rw [HL.out]; exact hkn) (llast xs k))
      have hls := Lib.hid (show llast xs (k + 1) = t0 xs k by simp [llast])
      have hbn := hb.alloc hsz (boxL (t0 xs k) (t1 xs k) (t2 xs k))
      have HX := Lib.hid (blk_new wr #[.int .i64 (t0 xs k), .int .i64 (t1 xs k), .int .i64 (t2 xs k)] 33)
      generalize llast xs k = ll at *
      clear hc hb
      by_cases hok : okLs (t0 xs k) (t1 xs k) (t2 xs k)
      · have HOK := Lib.hid hok
        clear hok
        go_wp2_with fail
        generalize wr.alloc (boxL (t0 xs k) (t1 xs k) (t2 xs k)) = WA at *
        refine (ref_Lease_ok HOK.out).mono ?_; rintro e w2 ⟨rfl, b2⟩
        obtain ⟨⟨x0, x1, x2⟩, _⟩ := blk3 (blk_below HX.out b2)
        have hbn2 := hbn.trans (b2.mono hbn.size)
        clear b2 hbn
        by_cases hle : t0 xs k ≤ ll
        · go_wp2
          go_ret
          exact ⟨ret_int (by rw [← H.out, hst.out, if_neg (by simp [HOK.out]), if_pos (by omega)]), hbn2⟩
        · go_wp2
          go_roundw
          case rel => exact ⟨k + 1, by omega, by go_num, by rw [hls.out], Lib.hid (by rw [← H.out, hst.out, hls.out, if_neg (by simp [HOK.out]), if_neg (by omega)]), hbn2⟩
          case measure => simp [intOf]; omega
      · have hno := Lib.hid hok
        go_wp2_with fail
        refine (ref_Lease_bad hok).mono ?_; rintro e w2 ⟨rfl, b2⟩
        have hbn2 := hbn.trans (b2.mono hbn.size)
        clear b2 hbn hok
        go_wp2
        go_ret
        exact ⟨ret_int (by rw [← H.out, hst.out, if_pos hno.out]), hbn2⟩
    · obtain rfl : n = k := by omega
      go_wp2
      go_ret
      exact ⟨ret_int (by rw [← H.out, ← HL.out, lscan_end]), hb⟩

set_option maxHeartbeats 1600000 in
theorem lease_Check {w : World} {p : Option Addr} {n c : Nat} {xs : List (Int × Int × Int)} (h : S3 w p n c xs) {er : Int} (he : leaseErr xs = er) :
    Calls Try.prog 43 #[.slice p n c] w fun e w' => e = .returned (.int .i64 er) ∧ Below w.heap.size w w' := by
  have hl := h.1
  have hm := h.2.1
  have HS : Hid (lscan (-1) xs = er) := Lib.hid he
  have HL := Lib.hid hl; clear hl he
  go_enter Try.func43, Try.ntmps43
  go_wp2
  go_loopw [8] (fun i wr => ∃ k : Nat, k ≤ n ∧ i = .int .i64 k ∧ Hid (lscan (llast xs k) (xs.drop k) = er) ∧ Below w.heap.size w wr) (fun i _ => n - (intOf i).toNat)
  case atStart => exact ⟨0, Nat.zero_le _, rfl, Lib.hid (by simpa [llast] using HS.out), Below.refl _ _⟩
  case round =>
    obtain ⟨k, hk, rfl, H, hb⟩ := hrel
    have hsz := hb.size
    by_cases hkn : k < n
    · obtain ⟨b, off, rfl, hlt, hc⟩ := h.cells (by omega)
      have hlr : b < wr.heap.size := by omega
      have c0 : wr.cell? ⟨b, off + k * 3, none⟩ = some (.int .i64 (t0 xs k)) := (bdeep hb hlt _).trans (hc k hkn).1
      have c1 : wr.cell? ⟨b, off + k * 3 + 1, none⟩ = some (.int .i64 (t1 xs k)) := (bdeep hb hlt _).trans (hc k hkn).2.1
      have c2 : wr.cell? ⟨b, off + k * 3 + 2, none⟩ = some (.int .i64 (t2 xs k)) := (bdeep hb hlt _).trans (hc k hkn).2.2
      have hst := Lib.hid (lscan_drop xs k (by rw [HL.out]; exact hkn) (llast xs k))
      have hls := Lib.hid (show llast xs (k + 1) = t0 xs k by simp [llast])
      have hl0 := Lib.hid (show 0 < k → llast xs k = t0 xs (k - 1) by intro h; simp [llast]; omega)
      have hl1 := Lib.hid (show k = 0 → llast xs k = -1 by intro h; simp [llast, h])
      have hbn := hb.alloc hsz (boxL (t0 xs k) (t1 xs k) (t2 xs k))
      have HX := Lib.hid (blk_new wr #[.int .i64 (t0 xs k), .int .i64 (t1 xs k), .int .i64 (t2 xs k)] 33)
      have HC3 := Lib.hid (fun (h0 : 0 < k) => (hc (k - 1) (by omega)).1)
      clear hc hb
      by_cases hok : okLs (t0 xs k) (t1 xs k) (t2 xs k)
      · have HOK := Lib.hid hok
        have hok0 : 0 ≤ t0 xs k := hok.1
        clear hok
        go_wp2_with fail
        generalize wr.alloc (boxL (t0 xs k) (t1 xs k) (t2 xs k)) = WA at *
        refine (lease_one_ok HOK.out).mono ?_; rintro e w2 ⟨rfl, b2⟩
        obtain ⟨⟨x0, x1, x2⟩, _⟩ := blk3 (blk_below HX.out b2)
        have hbn2 := hbn.trans (b2.mono hbn.size)
        clear b2 hbn
        by_cases hk0 : k = 0
        · have hg : decide ((0 : Int) < (k : Int)) = false := by simp; omega
          have hg' : ¬ (0 : Int) < (k : Int) := by omega
          have hg2 : decide (0 < k) = false := by simp; omega
          have HK0 := Lib.hid hk0
          clear hk0
          go_wp2
          go_quiet (fail)
          go_wp2
          go_roundw
          case rel => exact ⟨k + 1, by omega, by go_num, Lib.hid (by rw [← H.out, hst.out, hls.out, if_neg (by simp [HOK.out]), hl1.out HK0.out, if_neg (by omega)]), below_drewN hbn2 _⟩
          case measure => simp [intOf]; omega
        · have c3 : w2.cell? ⟨b, off + (k - 1) * 3, none⟩ = some (.int .i64 (t0 xs (k - 1))) := (bdeep hbn2 hlt _).trans (HC3.out (by omega))
          have hg : decide ((0 : Int) < (k : Int)) = true := by simp; omega
          have hg' : (0 : Int) < (k : Int) := by omega
          have hg2 : decide (0 < k) = true := by simp; omega
          have hg3 : 0 < k := by omega
          have q2 : (0 : Int) ≤ (k : Int) - 1 := by omega
          have q4 : (k : Int) - 1 < (n : Int) := by omega
          have q3 : ((k : Int) - 1).toNat = k - 1 := by omega
          have q1 : IntKind.i64.wrap ((k : Int) - 1) = (k : Int) - 1 := IntWalk.i64_in _ (by omega)
          by_cases hle : t0 xs k ≤ t0 xs (k - 1)
          · have hd : decide (t0 xs k ≤ t0 xs (k - 1)) = true := by simp; omega
            go_wp2
            go_quiet (fail)
            clear q1 q2 q3 q4
            go_wp2
            go_ret
            exact ⟨ret_int (by rw [← H.out, hst.out, if_neg (by simp [HOK.out]), hl0.out (by omega), if_pos (by omega)]), below_drewN hbn2 _⟩
          · have hd : decide (t0 xs k ≤ t0 xs (k - 1)) = false := by simp; omega
            go_wp2
            go_quiet (fail)
            clear q1 q2 q3 q4
            go_wp2
            go_roundw
            case rel => exact ⟨k + 1, by omega, by go_num, Lib.hid (by rw [← H.out, hst.out, hls.out, if_neg (by simp [HOK.out]), hl0.out (by omega), if_neg (by omega)]), below_drewN hbn2 _⟩
            case measure => simp [intOf]; omega
      · have hno := Lib.hid hok
        go_wp2_with fail
        refine (lease_one_bad hok).mono ?_; rintro e w2 ⟨rfl, b2⟩
        have hbn2 := hbn.trans (b2.mono hbn.size)
        clear b2 hbn hok
        go_wp2
        go_ret
        exact ⟨ret_int (by rw [← H.out, hst.out, if_pos hno.out]), hbn2⟩
    · obtain rfl : n = k := by omega
      go_wp2
      go_ret
      exact ⟨ret_int (by rw [← H.out, ← HL.out, lscan_end]), hb⟩
end Go.Proofs.Ytgnegemiiahkaaa
