/- The contracts of bucket.Packets and headref.Queue (P30): each answers 'packErr' of the queue. No conditions. -/
import Derived.Test.YtgnegemiiahkaaaRows
import Derived.Test.YtgnegemiiahkaaaS3
import Derived.Deep.QuietTactic
import Derived.BigQuiet
import Derived.RegionTactic
import Derived.BigRegion
namespace Go.Proofs.Ytgnegemiiahkaaa
open Go Go.RowKit

def okPkt (a s f : Int) : Prop := 0 ≤ a ∧ a ≤ 200 ∧ 1 ≤ s ∧ s ≤ 1000 ∧ 0 ≤ f ∧ f ≤ 7
instance (a s f : Int) : Decidable (okPkt a s f) := by unfold okPkt; infer_instance
theorem not_pkt {a s f : Int} (h : ¬ okPkt a s f) : a < 0 ∨ (0 ≤ a ∧ 200 < a) ∨ (0 ≤ a ∧ a ≤ 200 ∧ s < 1) ∨ (0 ≤ a ∧ a ≤ 200 ∧ 1 ≤ s ∧ 1000 < s) ∨
    (0 ≤ a ∧ a ≤ 200 ∧ 1 ≤ s ∧ s ≤ 1000 ∧ f < 0) ∨ (0 ≤ a ∧ a ≤ 200 ∧ 1 ≤ s ∧ s ≤ 1000 ∧ 0 ≤ f ∧ 8 ≤ f) := by unfold okPkt at h; omega
def pscan (last : Int) : List (Int × Int × Int) → Int
  | [] => 0
  | (a, s, f) :: r => if ¬ okPkt a s f then 1 else if a < last then 3 else pscan a r
/-- P30 -/
def packErr (xs : List (Int × Int × Int)) : Int := if xs.length > 60 then 2 else pscan 0 xs
def plast (xs : List (Int × Int × Int)) (k : Nat) : Int := if k = 0 then 0 else t0 xs (k - 1)
theorem pscan_drop (xs : List (Int × Int × Int)) (k : Nat) (h : k < xs.length) (l : Int) :
    pscan l (xs.drop k) = if ¬ okPkt (t0 xs k) (t1 xs k) (t2 xs k) then 1 else if t0 xs k < l then 3 else pscan (t0 xs k) (xs.drop (k + 1)) := by
  rw [List.drop_eq_getElem_cons h]
  have e : xs[k] = (t0 xs k, t1 xs k, t2 xs k) := by simp [t0, t1, t2, h]
  rw [e]; rfl
theorem pscan_end (xs : List (Int × Int × Int)) (l : Int) : pscan l (xs.drop xs.length) = 0 := by simp [pscan]

set_option maxHeartbeats 1600000 in
theorem bucket_Packets {w : World} {p : Option Addr} {n c : Nat} {xs : List (Int × Int × Int)} (h : S3 w p n c xs) {er : Int} (he : packErr xs = er) :
    Calls Try.prog 62 #[.slice p n c] w fun e w' => e = .returned (.int .i64 er) ∧ Below w.heap.size w w' := by
  have hl := h.1
  have hm := h.2.1
  have HE := Lib.hid he; clear he
  have HL := Lib.hid hl; clear hl
  by_cases h60 : 60 < n
  · have hb1 : decide ((60 : Int) < (n : Int)) = true := by simp; omega
    go_enter Try.func62, Try.ntmps62
    go_wp2
    go_ret
    exact ⟨ret_int (by rw [← HE.out]; unfold packErr; rw [HL.out, if_pos h60]), Below.refl _ _⟩
  have hb1 : decide ((60 : Int) < (n : Int)) = false := by simp; omega
  have HS : Hid (pscan 0 xs = er) := Lib.hid (by rw [← HE.out]; unfold packErr; rw [HL.out, if_neg h60])
  go_enter Try.func62, Try.ntmps62
  go_wp2
  go_loopw [10] (fun i wr => ∃ k : Nat, k ≤ n ∧ i = .int .i64 k ∧ Hid (pscan (plast xs k) (xs.drop k) = er) ∧ Below w.heap.size w wr) (fun i _ => n - (intOf i).toNat)
  case atStart => exact ⟨0, Nat.zero_le _, rfl, Lib.hid (by simpa [plast] using HS.out), Below.refl _ _⟩
  case round =>
    obtain ⟨k, hk, rfl, H, hb⟩ := hrel
    have hsz := hb.size
    by_cases hkn : k < n
    · obtain ⟨b, off, rfl, hlt, hc⟩ := h.cells (by omega)
      have hlr : b < wr.heap.size := by omega
      have c0 : wr.cell? ⟨b, off + k * 3, none⟩ = some (.int .i64 (t0 xs k)) := (bdeep hb hlt _).trans (hc k hkn).1
      have c1 : wr.cell? ⟨b, off + k * 3 + 1, none⟩ = some (.int .i64 (t1 xs k)) := (bdeep hb hlt _).trans (hc k hkn).2.1
      have c2 : wr.cell? ⟨b, off + k * 3 + 2, none⟩ = some (.int .i64 (t2 xs k)) := (bdeep hb hlt _).trans (hc k hkn).2.2
      have c3 : 0 < k → wr.cell? ⟨b, off + (k - 1) * 3, none⟩ = some (.int .i64 (t0 xs (k - 1))) := fun _ => (bdeep hb hlt _).trans (hc (k - 1) (by omega)).1
      have hst := Lib.hid (pscan_drop xs k (by rw [HL.out]; exact hkn) (plast xs k))
      have hls := Lib.hid (show plast xs (k + 1) = t0 xs k by simp [plast])
      have hl0 := Lib.hid (show 0 < k → plast xs k = t0 xs (k - 1) by intro h; simp [plast]; omega)
      have hl1 := Lib.hid (show k = 0 → plast xs k = 0 by intro h; simp [plast, h])
      have HBn := Lib.hid ((hb.alloc hsz (.cells #[.int .i64 (t0 xs k), .int .i64 (t1 xs k), .int .i64 (t2 xs k)] 98)))
      by_cases hok : okPkt (t0 xs k) (t1 xs k) (t2 xs k)
      · have hok' := Lib.hid hok
        obtain ⟨o1, o2, o3, o4, o5, o6⟩ := hok
        clear hc h hb
        by_cases hk0 : k = 0
        · have hg : decide ((0 : Int) < (k : Int)) = false := by simp; omega
          have hg' : ¬ (0 : Int) < (k : Int) := by omega
          have hg2 : decide (0 < k) = false := by simp; omega
          have HK0 := Lib.hid hk0
          clear c3 hk0
          go_wp2
          go_quiet (fail)
          go_wp2
          go_roundw
          case rel => exact ⟨k + 1, by omega, by go_num, Lib.hid (by rw [← H.out, hst.out, hls.out, if_neg (by simp [hok'.out]), hl1.out HK0.out, if_neg (by omega)]), below_drewN HBn.out _⟩
          case measure => simp [intOf]; omega
        · have c3' := c3 (by omega)
          clear c3
          by_cases hlt2 : t0 xs k < t0 xs (k - 1)
          · have hd : decide (t0 xs k < t0 xs (k - 1)) = true := by simp; omega
            have hg : decide ((0 : Int) < (k : Int)) = true := by simp; omega
            have hg' : (0 : Int) < (k : Int) := by omega
            have hg2 : decide (0 < k) = true := by simp; omega
            have hg3 : 0 < k := by omega
            have q2 : (0 : Int) ≤ (k : Int) - 1 := by omega
            have q4 : (k : Int) - 1 < (n : Int) := by omega
            have q3 : ((k : Int) - 1).toNat = k - 1 := by omega
            have q1 : IntKind.i64.wrap ((k : Int) - 1) = (k : Int) - 1 := IntWalk.i64_in _ (by omega)
            go_wp2
            go_quiet (fail)
            clear q1 q2 q3 q4
            go_wp2
            go_ret
            exact ⟨ret_int (by rw [← H.out, hst.out, if_neg (by simp [hok'.out]), hl0.out (by omega), if_pos hlt2]), below_drewN HBn.out _⟩
          · have hd : decide (t0 xs k < t0 xs (k - 1)) = false := by simp; omega
            have hg : decide ((0 : Int) < (k : Int)) = true := by simp; omega
            have hg' : (0 : Int) < (k : Int) := by omega
            have hg2 : decide (0 < k) = true := by simp; omega
            have hg3 : 0 < k := by omega
            have q2 : (0 : Int) ≤ (k : Int) - 1 := by omega
            have q4 : (k : Int) - 1 < (n : Int) := by omega
            have q3 : ((k : Int) - 1).toNat = k - 1 := by omega
            have q1 : IntKind.i64.wrap ((k : Int) - 1) = (k : Int) - 1 := IntWalk.i64_in _ (by omega)
            go_wp2
            go_quiet (fail)
            clear q1 q2 q3 q4
            go_wp2
            go_roundw
            case rel => exact ⟨k + 1, by omega, by go_num, Lib.hid (by rw [← H.out, hst.out, hls.out, if_neg (by simp [hok'.out]), hl0.out (by omega), if_neg (by omega)]), below_drewN HBn.out _⟩
            case measure => simp [intOf]; omega
      · have hno := Lib.hid hok
        clear hc h hb c3
        rcases not_pkt hok with g1 | ⟨g1, g2⟩ | ⟨g1, g2, g3⟩ | ⟨g1, g2, g3, g4⟩ | ⟨g1, g2, g3, g4, g5⟩ | ⟨g1, g2, g3, g4, g5, g6⟩
        all_goals
          clear hok
          go_wp2
          go_ret
          exact ⟨ret_int (by rw [← H.out, hst.out, if_pos hno.out]), HBn.out⟩
    · obtain rfl : n = k := by omega
      go_wp2
      go_ret
      exact ⟨ret_int (by rw [← H.out, ← HL.out, pscan_end]), hb⟩

set_option maxHeartbeats 1600000 in
theorem ref_Queue {w : World} {p : Option Addr} {n c : Nat} {xs : List (Int × Int × Int)} (h : S3 w p n c xs) {er : Int} (he : packErr xs = er) :
    Calls Try.prog 61 #[.slice p n c] w fun e w' => e = .returned (.int .i64 er) ∧ Below w.heap.size w w' := by
  have hl := h.1
  have hm := h.2.1
  have HE := Lib.hid he; clear he
  have HL := Lib.hid hl; clear hl
  by_cases h60 : 60 < n
  · have hb1 : decide ((60 : Int) < (n : Int)) = true := by simp; omega
    go_enter Try.func61, Try.ntmps61
    go_wp2
    go_ret
    exact ⟨ret_int (by rw [← HE.out]; unfold packErr; rw [HL.out, if_pos h60]), Below.refl _ _⟩
  have hb1 : decide ((60 : Int) < (n : Int)) = false := by simp; omega
  have HS : Hid (pscan 0 xs = er) := Lib.hid (by rw [← HE.out]; unfold packErr; rw [HL.out, if_neg h60])
  go_enter Try.func61, Try.ntmps61
  go_wp2
  go_loopw [3, 11] (fun l i wr => ∃ k : Nat, k ≤ n ∧ i = .int .i64 k ∧ l = .int .i64 (plast xs k) ∧ Hid (pscan (plast xs k) (xs.drop k) = er) ∧ Below w.heap.size w wr) (fun _ i _ => n - (intOf i).toNat)
  case atStart => exact ⟨0, Nat.zero_le _, rfl, rfl, Lib.hid (by simpa [plast] using HS.out), Below.refl _ _⟩
  case round =>
    obtain ⟨k, hk, rfl, rfl, H, hb⟩ := hrel
    have hsz := hb.size
    by_cases hkn : k < n
    · obtain ⟨b, off, rfl, hlt, hc⟩ := h.cells (by omega)
      have hlr : b < wr.heap.size := by omega
      have c0 : wr.cell? ⟨b, off + k * 3, none⟩ = some (.int .i64 (t0 xs k)) := (bdeep hb hlt _).trans (hc k hkn).1
      have c1 : wr.cell? ⟨b, off + k * 3 + 1, none⟩ = some (.int .i64 (t1 xs k)) := (bdeep hb hlt _).trans (hc k hkn).2.1
      have c2 : wr.cell? ⟨b, off + k * 3 + 2, none⟩ = some (.int .i64 (t2 xs k)) := (bdeep hb hlt _).trans (hc k hkn).2.2
      have c3 : 0 < k → wr.cell? ⟨b, off + (k - 1) * 3, none⟩ = some (.int .i64 (t0 xs (k - 1))) := fun _ => (bdeep hb hlt _).trans (hc (k - 1) (by omega)).1
      have hst := Lib.hid (pscan_drop xs k (by rw [HL.out]; exact hkn) (plast xs k))
      have hls := Lib.hid (show plast xs (k + 1) = t0 xs k by simp [plast])
      have hl0 := Lib.hid (show 0 < k → plast xs k = t0 xs (k - 1) by intro h; simp [plast]; omega)
      have hl1 := Lib.hid (show k = 0 → plast xs k = 0 by intro h; simp [plast, h])
      have HBn := Lib.hid ((hb.alloc hsz (.cells #[.int .i64 (t0 xs k), .int .i64 (t1 xs k), .int .i64 (t2 xs k)] 98)))
      by_cases hok : okPkt (t0 xs k) (t1 xs k) (t2 xs k)
      · have hok' := Lib.hid hok
        obtain ⟨o1, o2, o3, o4, o5, o6⟩ := hok
        clear hc h hb c3
        by_cases hk0 : k = 0
        · have hg : decide ((0 : Int) < (k : Int)) = false := by simp; omega
          have hg' : ¬ (0 : Int) < (k : Int) := by omega
          have hg2 : decide (0 < k) = false := by simp; omega
          have hg2' : ¬ 0 < k := by omega
          have HK0 := Lib.hid hk0
          clear hk0
          go_wp2
          go_roundw
          case rel => exact ⟨k + 1, by omega, by go_num, by rw [hls.out], Lib.hid (by rw [← H.out, hst.out, hls.out, if_neg (by simp [hok'.out]), hl1.out HK0.out, if_neg (by omega)]), HBn.out⟩
          case measure => simp [intOf]; omega
        · have hg : decide ((0 : Int) < (k : Int)) = true := by simp; omega
          have hg' : (0 : Int) < (k : Int) := by omega
          have hg2 : decide (0 < k) = true := by simp; omega
          have hg3 : 0 < k := by omega
          by_cases hlt2 : t0 xs k < plast xs k
          · go_wp2
            go_ret
            exact ⟨ret_int (by rw [← H.out, hst.out, if_neg (by simp [hok'.out]), if_pos hlt2]), HBn.out⟩
          · go_wp2
            go_roundw
            case rel => exact ⟨k + 1, by omega, by go_num, by rw [hls.out], Lib.hid (by rw [← H.out, hst.out, hls.out, if_neg (by simp [hok'.out]), if_neg (by omega)]), HBn.out⟩
            case measure => simp [intOf]; omega
      · have hno := Lib.hid hok
        clear hc h hb c3
        rcases not_pkt hok with g1 | ⟨g1, g2⟩ | ⟨g1, g2, g3⟩ | ⟨g1, g2, g3, g4⟩ | ⟨g1, g2, g3, g4, g5⟩ | ⟨g1, g2, g3, g4, g5, g6⟩
        all_goals
          clear hok
          try have g8 : decide (t2 xs k ≤ 7) = false := by simp; omega
          go_wp2
          go_ret
          exact ⟨ret_int (by rw [← H.out, hst.out, if_pos hno.out]), HBn.out⟩
    · obtain rfl : n = k := by omega
      go_wp2
      go_ret
      exact ⟨ret_int (by rw [← H.out, ← HL.out, pscan_end]), hb⟩
end Go.Proofs.Ytgnegemiiahkaaa
