/- The contracts of curve.Check and headref.Curve: each answers 'curveErr' of the list that it reads. No conditions. -/
import Derived.Test.YtgbccpfehcjhbaaGreatDoorRows
import Derived.Test.YtgbccpfehcjhbaaGreatDoorM01
namespace Go.Proofs.YtgbccpfehcjhbaaGreatDoor
open Go Go.RowKit

def scan (last : Int) : List Int → Int
 | [] => 0
 | v :: r => if v < 0 then 1 else if v > 1000000 then 2 else if v < last then 3 else scan v r
/-- the error of a curve -/
def curveErr (f : List Int) : Int := if f.length = 0 then 1 else if f.length > 61 then 2 else scan 0 f
def lastOf (xs : List Int) (k : Nat) : Int := if k = 0 then 0 else gi xs (k-1)
theorem scan_drop (xs : List Int) (k : Nat) (h : k < xs.length) (l : Int) :
  scan l (xs.drop k) = if gi xs k < 0 then 1 else if gi xs k > 1000000 then 2 else if gi xs k < l then 3 else scan (gi xs k) (xs.drop (k+1)) := by
  rw [List.drop_eq_getElem_cons h]; simp [scan, gi, h]
theorem scan_end (xs : List Int) (l : Int) : scan l (xs.drop xs.length) = 0 := by simp [scan]

set_option maxHeartbeats 400000 in
theorem curve_Check {w : World} {p : Option Addr} {n c : Nat} {xs : List Int} (h : SI w p n c xs) {er : Int} (he : curveErr xs = er) :
    Calls Tryz.prog 11 #[.slice p n c] w fun e w' => e = .returned (.int .i64 er) ∧ w = w' := by
  obtain ⟨hl, hm, hr⟩ := h
  have HE := Lib.hid he; clear he
  have HL := Lib.hid hl; clear hl
  by_cases h0 : n = 0
  · subst h0
    go_enter Tryz.func11, Tryz.ntmps11
    go_wp2
    go_ret
    exact ⟨ret_int (by rw [← HE.out]; unfold curveErr; rw [HL.out]; simp), rfl⟩
  have hb0 : ((n : Int) == 0) = false := by simp; omega
  by_cases h61 : 61 < n
  · have hb1 : decide ((61 : Int) < (n : Int)) = true := by simp; omega
    go_enter Tryz.func11, Tryz.ntmps11
    go_wp2
    go_ret
    exact ⟨ret_int (by rw [← HE.out]; unfold curveErr; rw [HL.out]; simp [h0, h61]), rfl⟩
  have hb1 : decide ((61 : Int) < (n : Int)) = false := by simp; omega
  obtain ⟨b, off, rfl, hlt, hc⟩ := hr (by omega)
  have HS : Hid (scan 0 xs = er) := Lib.hid (by rw [← HE.out]; unfold curveErr; rw [HL.out]; simp [h0, h61])
  go_enter Tryz.func11, Tryz.ntmps11
  go_wp2
  go_loop [13] (fun i => ∃ k : Nat, k ≤ n ∧ i = .int .i64 k ∧ Hid (scan (lastOf xs k) (xs.drop k) = er)) (fun i => n - (intOf i).toNat)
  case atStart => exact ⟨0, Nat.zero_le _, rfl, Lib.hid (by simpa [lastOf] using HS.out)⟩
  case round =>
    obtain ⟨k, hk, rfl, H⟩ := hrel
    by_cases hkn : k < n
    · have hcell := hc k hkn
      have hcell2 : 0 < k → w.cell? ⟨b, off + (k-1), none⟩ = some (.int .i64 (gi xs (k-1))) := fun _ => hc (k-1) (by omega)
      have hstep := Lib.hid (scan_drop xs k (by rw [HL.out]; exact hkn) (lastOf xs k))
      have hls := Lib.hid (show lastOf xs (k+1) = gi xs k by simp [lastOf])
      have hl0 := Lib.hid (show 0 < k → lastOf xs k = gi xs (k-1) by intro h; simp [lastOf]; omega)
      have hl1 := Lib.hid (show ¬ 0 < k → lastOf xs k = 0 by intro h; simp [lastOf]; omega)
      clear hc hr
      go_wp2
      · go_ret
        exact ⟨ret_int (by rw [← H.out, hstep.out, if_pos ‹_›]), rfl⟩
      · go_ret
        exact ⟨ret_int (by rw [← H.out, hstep.out, if_neg (by omega), if_pos ‹_›]), rfl⟩
      · go_ret
        exact ⟨ret_int (by rw [← H.out, hstep.out, if_neg (by omega), if_neg (by omega), hl0.out ‹_›, if_pos ‹_›]), rfl⟩
      · go_round
        case rel => exact ⟨k + 1, by omega, by go_num, Lib.hid (by rw [← H.out, hstep.out, hls.out, if_neg (by omega), if_neg (by omega), hl0.out ‹_›, if_neg (by omega)])⟩
        case measure => simp [intOf]; omega
      · go_round
        case rel => exact ⟨k + 1, by omega, by go_num, Lib.hid (by rw [← H.out, hstep.out, hls.out, if_neg (by omega), if_neg (by omega), hl1.out ‹_›, if_neg (by omega)])⟩
        case measure => simp [intOf]; omega
    · have hkk : n = k := by omega
      subst hkk
      go_wp2
      go_ret
      exact ⟨ret_int (by rw [← H.out, ← HL.out, scan_end]), rfl⟩

set_option maxHeartbeats 400000 in
theorem ref_Curve {w : World} {p : Option Addr} {n c : Nat} {xs : List Int} (h : SI w p n c xs) {er : Int} (he : curveErr xs = er) :
    Calls Tryz.prog 78 #[.slice p n c] w fun e w' => e = .returned (.int .i64 er) ∧ w = w' := by
  obtain ⟨hl, hm, hr⟩ := h
  have HE := Lib.hid he; clear he
  have HL := Lib.hid hl; clear hl
  by_cases h0 : n = 0
  · subst h0
    go_enter Tryz.func78, Tryz.ntmps78
    go_wp2
    go_ret
    exact ⟨ret_int (by rw [← HE.out]; unfold curveErr; rw [HL.out]; simp), rfl⟩
  have hb0 : decide ((n : Int) < 1) = false := by simp; omega
  by_cases h61 : 61 < n
  · have hb1 : decide ((61 : Int) < (n : Int)) = true := by simp; omega
    go_enter Tryz.func78, Tryz.ntmps78
    go_wp2
    go_ret
    exact ⟨ret_int (by rw [← HE.out]; unfold curveErr; rw [HL.out]; simp [h0, h61]), rfl⟩
  have hb1 : decide ((61 : Int) < (n : Int)) = false := by simp; omega
  obtain ⟨b, off, rfl, hlt, hc⟩ := hr (by omega)
  have HS : Hid (scan 0 xs = er) := Lib.hid (by rw [← HE.out]; unfold curveErr; rw [HL.out]; simp [h0, h61])
  go_enter Tryz.func78, Tryz.ntmps78
  go_wp2
  go_loop [3, 16] (fun l i => ∃ k : Nat, k ≤ n ∧ i = .int .i64 k ∧ l = .int .i64 (lastOf xs k) ∧ Hid (scan (lastOf xs k) (xs.drop k) = er)) (fun _ i => n - (intOf i).toNat)
  case atStart => exact ⟨0, Nat.zero_le _, rfl, rfl, Lib.hid (by simpa [lastOf] using HS.out)⟩
  case round =>
    obtain ⟨k, hk, rfl, rfl, H⟩ := hrel
    by_cases hkn : k < n
    · have hcell := hc k hkn
      have hstep := Lib.hid (scan_drop xs k (by rw [HL.out]; exact hkn) (lastOf xs k))
      have hls := Lib.hid (show gi xs k = lastOf xs (k+1) by simp [lastOf])
      clear hc hr
      go_wp2
      · go_ret
        exact ⟨ret_int (by rw [← H.out, hstep.out, if_pos ‹_›]), rfl⟩
      · go_ret
        exact ⟨ret_int (by rw [← H.out, hstep.out, if_neg (by omega), if_pos ‹_›]), rfl⟩
      · go_ret
        exact ⟨ret_int (by rw [← H.out, hstep.out, if_neg (by omega), if_neg (by omega), if_pos ‹_›]), rfl⟩
      · go_round
        case rel => exact ⟨k + 1, by omega, by go_num, by rw [hls.out], Lib.hid (by rw [← H.out, hstep.out, ← hls.out, if_neg (by omega), if_neg (by omega), if_neg (by omega)])⟩
        case measure => simp [intOf]; omega
    · have hkk : n = k := by omega
      subst hkk
      go_wp2
      go_ret
      exact ⟨ret_int (by rw [← H.out, ← HL.out, scan_end]), rfl⟩
end Go.Proofs.YtgbccpfehcjhbaaGreatDoor

/- The contracts of curve.Both and headref.Curves: each answers 'bothErr' of the two lists. No conditions. -/
namespace Go.Proofs.YtgbccpfehcjhbaaGreatDoor
open Go Go.RowKit

def bothErr (f g : List Int) : Int := if curveErr f ≠ 0 then curveErr f else if curveErr g ≠ 0 then curveErr g else if f.length = g.length then 0 else 4

theorem bothErr_ok {f g : List Int} (h : bothErr f g = 0) : curveErr f = 0 ∧ curveErr g = 0 ∧ f.length = g.length := by
  unfold bothErr at h
  by_cases h1 : curveErr f = 0
  · by_cases h2 : curveErr g = 0
    · by_cases h3 : f.length = g.length
      · exact ⟨h1, h2, h3⟩
      · simp [h1, h2, h3] at h
    · simp [h1, h2] at h
  · simp [h1] at h

theorem bne_false_of {a : Int} (h : ¬ a = 0) : (a == 0) = false := by simp [h]

set_option maxHeartbeats 400000 in
theorem curve_Both {w : World} {p q : Option Addr} {n c m d : Nat} {xs ys : List Int} (h : SI w p n c xs) (g : SI w q m d ys) {er : Int} (he : bothErr xs ys = er) :
    Calls Tryz.prog 32 #[.slice p n c, .slice q m d] w fun e w' => e = .returned (.int .i64 er) ∧ w = w' := by
  have HE := Lib.hid he; clear he
  by_cases h1 : curveErr xs = 0
  · by_cases h2 : curveErr ys = 0
    · by_cases h3 : n = m
      · obtain rfl : 0 = er := by rw [← HE.out]; unfold bothErr; rw [h1, h2, h.1, g.1, h3]; simp
        have H1 := Lib.hid h1; have H2 := Lib.hid h2; clear h1 h2
        subst h3
        go_enter Tryz.func32, Tryz.ntmps32
        go_wp2_with fail
        refine (curve_Check h H1.out).mono ?_; rintro e w' ⟨rfl, rfl⟩
        go_wp2_with fail
        refine (curve_Check g H2.out).mono ?_; rintro e w' ⟨rfl, rfl⟩
        go_wp2
        go_ret
        exact ⟨rfl, rfl⟩
      · obtain rfl : 4 = er := by rw [← HE.out]; unfold bothErr; rw [h1, h2, h.1, g.1]; simp [h3]
        have H1 := Lib.hid h1; have H2 := Lib.hid h2; clear h1 h2
        have hb : ((n : Int) == (m : Int)) = false := by simp; omega
        go_enter Tryz.func32, Tryz.ntmps32
        go_wp2_with fail
        refine (curve_Check h H1.out).mono ?_; rintro e w' ⟨rfl, rfl⟩
        go_wp2_with fail
        refine (curve_Check g H2.out).mono ?_; rintro e w' ⟨rfl, rfl⟩
        go_wp2
        go_ret
        exact ⟨rfl, rfl⟩
    · obtain rfl : curveErr ys = er := by rw [← HE.out]; unfold bothErr; rw [h1]; simp [h2]
      have H1 := Lib.hid h1; clear h1
      generalize hy : curveErr ys = ey at *
      have H2 := Lib.hid hy; clear hy
      have hb := bne_false_of h2
      go_enter Tryz.func32, Tryz.ntmps32
      go_wp2_with fail
      refine (curve_Check h H1.out).mono ?_; rintro e w' ⟨rfl, rfl⟩
      go_wp2_with fail
      refine (curve_Check g H2.out).mono ?_; rintro e w' ⟨rfl, rfl⟩
      go_wp2
      go_ret
      exact ⟨rfl, rfl⟩
  · obtain rfl : curveErr xs = er := by rw [← HE.out]; unfold bothErr; simp [h1]
    generalize hx : curveErr xs = ex at *
    have H1 := Lib.hid hx; clear hx
    have hb := bne_false_of h1
    go_enter Tryz.func32, Tryz.ntmps32
    go_wp2_with fail
    refine (curve_Check h H1.out).mono ?_; rintro e w' ⟨rfl, rfl⟩
    go_wp2
    go_ret
    exact ⟨rfl, rfl⟩

set_option maxHeartbeats 400000 in
theorem ref_Curves {w : World} {p q : Option Addr} {n c m d : Nat} {xs ys : List Int} (h : SI w p n c xs) (g : SI w q m d ys) {er : Int} (he : bothErr xs ys = er) :
    Calls Tryz.prog 81 #[.slice p n c, .slice q m d] w fun e w' => e = .returned (.int .i64 er) ∧ w = w' := by
  have HE := Lib.hid he; clear he
  by_cases h1 : curveErr xs = 0
  · by_cases h2 : curveErr ys = 0
    · by_cases h3 : n = m
      · obtain rfl : 0 = er := by rw [← HE.out]; unfold bothErr; rw [h1, h2, h.1, g.1, h3]; simp
        have H1 := Lib.hid h1; have H2 := Lib.hid h2; clear h1 h2
        subst h3
        go_enter Tryz.func81, Tryz.ntmps81
        go_wp2_with fail
        refine (ref_Curve h H1.out).mono ?_; rintro e w' ⟨rfl, rfl⟩
        go_wp2_with fail
        refine (ref_Curve g H2.out).mono ?_; rintro e w' ⟨rfl, rfl⟩
        go_wp2
        go_ret
        exact ⟨rfl, rfl⟩
      · obtain rfl : 4 = er := by rw [← HE.out]; unfold bothErr; rw [h1, h2, h.1, g.1]; simp [h3]
        have H1 := Lib.hid h1; have H2 := Lib.hid h2; clear h1 h2
        have hb : ((n : Int) == (m : Int)) = false := by simp; omega
        go_enter Tryz.func81, Tryz.ntmps81
        go_wp2_with fail
        refine (ref_Curve h H1.out).mono ?_; rintro e w' ⟨rfl, rfl⟩
        go_wp2_with fail
        refine (ref_Curve g H2.out).mono ?_; rintro e w' ⟨rfl, rfl⟩
        go_wp2
        go_ret
        exact ⟨rfl, rfl⟩
    · obtain rfl : curveErr ys = er := by rw [← HE.out]; unfold bothErr; rw [h1]; simp [h2]
      have H1 := Lib.hid h1; clear h1
      generalize hy : curveErr ys = ey at *
      have H2 := Lib.hid hy; clear hy
      have hb := bne_false_of h2
      go_enter Tryz.func81, Tryz.ntmps81
      go_wp2_with fail
      refine (ref_Curve h H1.out).mono ?_; rintro e w' ⟨rfl, rfl⟩
      go_wp2_with fail
      refine (ref_Curve g H2.out).mono ?_; rintro e w' ⟨rfl, rfl⟩
      go_wp2
      go_ret
      exact ⟨rfl, rfl⟩
  · obtain rfl : curveErr xs = er := by rw [← HE.out]; unfold bothErr; simp [h1]
    generalize hx : curveErr xs = ex at *
    have H1 := Lib.hid hx; clear hx
    have hb := bne_false_of h1
    go_enter Tryz.func81, Tryz.ntmps81
    go_wp2_with fail
    refine (ref_Curve h H1.out).mono ?_; rintro e w' ⟨rfl, rfl⟩
    go_wp2
    go_ret
    exact ⟨rfl, rfl⟩
end Go.Proofs.YtgbccpfehcjhbaaGreatDoor

/- The contract of curve.Fit: the list itself, if no value is above 1000000; else nothing, and error 2. No conditions. -/
namespace Go.Proofs.YtgbccpfehcjhbaaGreatDoor
open Go Go.RowKit

def fits (xs : List Int) : Prop := ∀ j, j < xs.length → gi xs j ≤ 1000000

/-- what a curve that is answered comes to: its error, or that it does not fit, or the curve -/
def FitOf (want : Int) (Y : List Int) (L : List Int) (er : Int) : Prop :=
  (want ≠ 0 ∧ er = want ∧ L = []) ∨ (want = 0 ∧ ¬ fits Y ∧ er = 2 ∧ L = []) ∨ (want = 0 ∧ fits Y ∧ er = 0 ∧ L = Y)

/-- two results: a new list, and an error -/
def RetL (w : World) (F : List Int → Int → Prop) (e : Ending) (w' : World) : Prop :=
  ∃ p n c L er, e = .returned (.tuple #[.slice p n c, .int .i64 er]) ∧ OwnI w' w.heap.size p n c L ∧ Below w.heap.size w w' ∧ F L er

set_option maxHeartbeats 400000 in
theorem curve_Fit_ok {w : World} {p : Option Addr} {n c : Nat} {xs : List Int} (h : SI w p n c xs) (hf : fits xs) :
    Calls Tryz.prog 33 #[.slice p n c] w fun e w' => e = .returned (.tuple #[.slice p n c, .int .i64 0]) ∧ w = w' := by
  obtain ⟨hl, hm, hr⟩ := h
  have HF := Lib.hid hf; clear hf
  have HL := Lib.hid hl; clear hl
  go_enter Tryz.func33, Tryz.ntmps33
  go_wp2
  go_loop [8] (fun i => ∃ k : Nat, k ≤ n ∧ i = .int .i64 k) (fun i => n - (intOf i).toNat)
  case atStart => exact ⟨0, Nat.zero_le _, rfl⟩
  case round =>
    obtain ⟨k, hk, rfl⟩ := hrel
    by_cases hkn : k < n
    · obtain ⟨b, off, rfl, hlt, hc⟩ := hr (by omega)
      have hcell := hc k hkn
      have hle : gi xs k ≤ 1000000 := HF.out k (by rw [HL.out]; exact hkn)
      clear hc hr
      go_wp2
      go_round
      case rel => exact ⟨k + 1, by omega, by go_num⟩
      case measure => simp [intOf]; omega
    · go_wp2
      go_ret2
      exact ⟨rfl, rfl⟩

set_option maxHeartbeats 400000 in
theorem curve_Fit_big {w : World} {p : Option Addr} {n c : Nat} {xs : List Int} (h : SI w p n c xs) (hf : ¬ fits xs) :
    Calls Tryz.prog 33 #[.slice p n c] w fun e w' => e = .returned (.tuple #[.slice none 0 0, .int .i64 2]) ∧ w = w' := by
  obtain ⟨hl, hm, hr⟩ := h
  have HF := Lib.hid hf; clear hf
  have HL := Lib.hid hl; clear hl
  go_enter Tryz.func33, Tryz.ntmps33
  go_wp2
  go_loop [8] (fun i => ∃ k : Nat, k ≤ n ∧ i = .int .i64 k ∧ ∀ j, j < k → gi xs j ≤ 1000000) (fun i => n - (intOf i).toNat)
  case atStart => exact ⟨0, Nat.zero_le _, rfl, fun j hj => by omega⟩
  case round =>
    obtain ⟨k, hk, rfl, H⟩ := hrel
    have HH := Lib.hid H; clear H
    by_cases hkn : k < n
    · obtain ⟨b, off, rfl, hlt, hc⟩ := hr (by omega)
      have hcell := hc k hkn
      clear hc hr
      go_wp2
      · go_ret2
        exact ⟨rfl, rfl⟩
      · go_round
        case rel => exact ⟨k + 1, by omega, by go_num, fun j hj => by rcases Nat.lt_succ_iff_lt_or_eq.1 hj with h | rfl; exact HH.out j h; omega⟩
        case measure => simp [intOf]; omega
    · exact absurd (fun j hj => HH.out j (by rw [HL.out] at hj; omega)) HF.out
end Go.Proofs.YtgbccpfehcjhbaaGreatDoor
