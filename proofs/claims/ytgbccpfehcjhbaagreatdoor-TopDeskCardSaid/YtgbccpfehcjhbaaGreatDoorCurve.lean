/- The contracts of curve.Check and headref.Curve: each answers 'curveErr' of the list that it reads. No conditions. -/
import Derived.Test.YtgbccpfehcjhbaaGreatDoorRows
import Derived.Test.YtgbccpfehcjhbaaGreatDoorLib
namespace Go.Proofs.YtgbccpfehcjhbaaGreatDoor
open Go Go.RowKit

def scan (last : Int) : List Int → Int
 | [] => 0
 | v :: r => if v < 0 then 1 else if v > 1000000 then 2 else if v < last then 3 else scan v r
/-- the error of a curve -/
def curveErr (f : List Int) : Int := if f.length = 0 then 1 else if f.length > 61 then 2 else scan 0 f
def lastOf (xs : List Int) (k : Nat) : Int := if k = 0 then 0 else gi xs (k-1)
theorem scan_drop (xs : List Int) (k : Nat) (h : k < xs.length) (l : Int) :
  scan l (xs.drop k) = if gi xs k < 0 then 1 else if gi xs k > 1000000 then 2 else if gi xs k < l then 3 else scan (gi xs k) (xs.drop (k+1)) := by
  rw [List.drop_eq_getElem_cons h]; simp [scan, gi, h]
theorem scan_end (xs : List Int) (l : Int) : scan l (xs.drop xs.length) = 0 := by simp [scan]

set_option maxHeartbeats 400000 in
theorem curve_Check {w : World} {p : Option Addr} {n c : Nat} {xs : List Int} (h : SI w p n c xs) {er : Int} (he : curveErr xs = er) :
    Calls Tryz.prog 11 #[.slice p n c] w fun e w' => e = .returned (.int .i64 er) ∧ w = w' := by
  obtain ⟨hl, hm, hr⟩ := h
  have HE := Lib.hid he; clear he
  have HL := Lib.hid hl; clear hl
  by_cases h0 : n = 0
  · subst h0
    go_enter Tryz.func11, Tryz.ntmps11
    go_wp2
    go_ret
    exact ⟨ret_int (by rw [← HE.out]; unfold curveErr; rw [HL.out]; simp), rfl⟩
  have hb0 : ((n : Int) == 0) = false := by simp; omega
  by_cases h61 : 61 < n
  · have hb1 : decide ((61 : Int) < (n : Int)) = true := by simp; omega
    go_enter Tryz.func11, Tryz.ntmps11
    go_wp2
    go_ret
    exact ⟨ret_int (by rw [← HE.out]; unfold curveErr; rw [HL.out]; simp [h0, h61]), rfl⟩
  have hb1 : decide ((61 : Int) < (n : Int)) = false := by simp; omega
  obtain ⟨b, off, rfl, hlt, hc⟩ := hr (by omega)
  have HS : Hid (scan 0 xs = er) := Lib.hid (by rw [← HE.out]; unfold curveErr; rw [HL.out]; simp [h0, h61])
  go_enter Tryz.func11, Tryz.ntmps11
  go_wp2
  go_loop [13] (fun i => ∃ k : Nat, k ≤ n ∧ i = .int .i64 k ∧ Hid (scan (lastOf xs k) (xs.drop k) = er)) (fun i => n - (intOf i).toNat)
  case atStart => exact ⟨0, Nat.zero_le _, rfl, Lib.hid (by simpa [lastOf] using HS.out)⟩
  case round =>
    obtain ⟨k, hk, rfl, H⟩ := hrel
    by_cases hkn : k < n
    · have hcell := hc k hkn
      have hcell2 : 0 < k → w.cell? ⟨b, off + (k-1), none⟩ = some (.int .i64 (gi xs (k-1))) := fun _ => hc (k-1) (by omega)
      have hstep := Lib.hid (scan_drop xs k (by rw [HL.out]; exact hkn) (lastOf xs k))
      have hls := Lib.hid (show lastOf xs (k+1) = gi xs k by simp [lastOf])
      have hl0 := Lib.hid (show 0 < k → lastOf xs k = gi xs (k-1) by intro h; simp [lastOf]; omega)
      have hl1 := Lib.hid (show ¬ 0 < k → lastOf xs k = 0 by intro h; simp [lastOf]; omega)
      clear hc hr
      go_wp2
      · go_ret
        exact ⟨ret_int (by rw [← H.out, hstep.out, if_pos ‹_›]), rfl⟩
      · go_ret
        exact ⟨ret_int (by rw [← H.out, hstep.out, if_neg (by omega), if_pos ‹_›]), rfl⟩
      · go_ret
        exact ⟨ret_int (by rw [← H.out, hstep.out, if_neg (by omega), if_neg (by omega), hl0.out ‹_›, if_pos ‹_›]), rfl⟩
      · go_round
        case rel => exact ⟨k + 1, by omega, by go_num, Lib.hid (by rw [← H.out, hstep.out, hls.out, if_neg (by omega), if_neg (by omega), hl0.out ‹_›, if_neg (by omega)])⟩
        case measure => simp [intOf]; omega
      · go_round
        case rel => exact ⟨k + 1, by omega, by go_num, Lib.hid (by rw [← H.out, hstep.out, hls.out, if_neg (by omega), if_neg (by omega), hl1.out ‹_›, if_neg (by omega)])⟩
        case measure => simp [intOf]; omega
    · have hkk : n = k := by omega
      subst hkk
      go_wp2
      go_ret
      exact ⟨ret_int (by rw [← H.out, ← HL.out, scan_end]), rfl⟩

set_option maxHeartbeats 400000 in
theorem ref_Curve {w : World} {p : Option Addr} {n c : Nat} {xs : List Int} (h : SI w p n c xs) {er : Int} (he : curveErr xs = er) :
    Calls Tryz.prog 78 #[.slice p n c] w fun e w' => e = .returned (.int .i64 er) ∧ w = w' := by
  obtain ⟨hl, hm, hr⟩ := h
  have HE := Lib.hid he; clear he
  have HL := Lib.hid hl; clear hl
  by_cases h0 : n = 0
  · subst h0
    go_enter Tryz.func78, Tryz.ntmps78
    go_wp2
    go_ret
    exact ⟨ret_int (by rw [← HE.out]; unfold curveErr; rw [HL.out]; simp), rfl⟩
  have hb0 : decide ((n : Int) < 1) = false := by simp; omega
  by_cases h61 : 61 < n
  · have hb1 : decide ((61 : Int) < (n : Int)) = true := by simp; omega
    go_enter Tryz.func78, Tryz.ntmps78
    go_wp2
    go_ret
    exact ⟨ret_int (by rw [← HE.out]; unfold curveErr; rw [HL.out]; simp [h0, h61]), rfl⟩
  have hb1 : decide ((61 : Int) < (n : Int)) = false := by simp; omega
  obtain ⟨b, off, rfl, hlt, hc⟩ := hr (by omega)
  have HS : Hid (scan 0 xs = er) := Lib.hid (by rw [← HE.out]; unfold curveErr; rw [HL.out]; simp [h0, h61])
  go_enter Tryz.func78, Tryz.ntmps78
  go_wp2
  go_loop [3, 16] (fun l i => ∃ k : Nat, k ≤ n ∧ i = .int .i64 k ∧ l = .int .i64 (lastOf xs k) ∧ Hid (scan (lastOf xs k) (xs.drop k) = er)) (fun _ i => n - (intOf i).toNat)
  case atStart => exact ⟨0, Nat.zero_le _, rfl, rfl, Lib.hid (by simpa [lastOf] using HS.out)⟩
  case round =>
    obtain ⟨k, hk, rfl, rfl, H⟩ := hrel
    by_cases hkn : k < n
    · have hcell := hc k hkn
      have hstep := Lib.hid (scan_drop xs k (by rw [HL.out]; exact hkn) (lastOf xs k))
      have hls := Lib.hid (show gi xs k = lastOf xs (k+1) by simp [lastOf])
      clear hc hr
      go_wp2
      · go_ret
        exact ⟨ret_int (by rw [← H.out, hstep.out, if_pos ‹_›]), rfl⟩
      · go_ret
        exact ⟨ret_int (by rw [← H.out, hstep.out, if_neg (by omega), if_pos ‹_›]), rfl⟩
      · go_ret
        exact ⟨ret_int (by rw [← H.out, hstep.out, if_neg (by omega), if_neg (by omega), if_pos ‹_›]), rfl⟩
      · go_round
        case rel => exact ⟨k + 1, by omega, by go_num, by rw [hls.out], Lib.hid (by rw [← H.out, hstep.out, ← hls.out, if_neg (by omega), if_neg (by omega), if_neg (by omega)])⟩
        case measure => simp [intOf]; omega
    · have hkk : n = k := by omega
      subst hkk
      go_wp2
      go_ret
      exact ⟨ret_int (by rw [← H.out, ← HL.out, scan_end]), rfl⟩
end Go.Proofs.YtgbccpfehcjhbaaGreatDoor
