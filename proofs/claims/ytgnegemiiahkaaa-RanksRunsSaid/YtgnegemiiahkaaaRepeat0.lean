/- The contract of slices.Repeat at []int, whatever the count up to 1000. No conditions beyond what each theorem says. -/
import Derived.Test.YtgnegemiiahkaaaRepeat
namespace Go.Proofs.Ytgnegemiiahkaaa
open Go Go.RowKit

set_option maxRecDepth 100000 in
set_option maxHeartbeats 1000000 in
theorem slices_Repeat0 {w : World} {v : Int} :
    Calls Try.prog 74 #[.slice (some ⟨w.heap.size, 0, none⟩) 1 1, .int .i64 0] (w.alloc (.cells #[.int .i64 v] 3)) (RetRep w v 0) := by
  have hsz : (Try.prog.info? 3).map (·.size) = some 1 := by kernel_rfl
  have hb0 := (Below.refl w.heap.size w).alloc (Nat.le_refl _) (.cells #[.int .i64 v] 3)
  have hv0 : (w.alloc (.cells #[.int .i64 v] 3)).heap[w.heap.size]? = some (.cells #[.int .i64 v] 3 (0, 0)) := blk_new _ _ _
  have hs0 : w.heap.size < (w.alloc (.cells #[.int .i64 v] 3)).heap.size := by simp
  generalize w.alloc (.cells #[.int .i64 v] 3) = W at *
  generalize hB : w.heap.size = B at *
  have HB := Lib.hid hB; clear hB
  have HV := Lib.hid hv0; clear hv0
  have HSZ := Lib.hid hsz; clear hsz
  go_enter Try.func74, Try.ntmps74
  go_wp2_with fail
  refine (bits_Mul1 (n := 0) (by omega)).mono ?_; rintro e w' ⟨rfl, rfl⟩
  have HMIN := Lib.hid (rep_min v 0 1 0 (by omega))
  have HFIT := Lib.hid (rep_fit v 0 0 0 (by omega))
  have HONE := Lib.hid (ints_oneCell .i64 (List.replicate 0 v))
  go_wp2_with (first | (at_make; refine wpL_make_int Try.tyInts rfl rfl (B := W.heap.size) (W0 := W) 0 rfl rfl rfl rfl (Below.refl _ _) (by omega) (Nat.le_refl _) ?_; intro g w1 hg hown hbel hb1; have HW0 := Lib.hid (rep_start v hown); have HVC := Lib.hid (blk_cell (blk_below HV.out hb1) 0); clear hown hb1) | (with_reducible refine wpList_copy_splice rfl (.tmp 31) (.tmp 32) 35 35 rfl 3 Try.underlying35 HSZ.out (some ⟨g, 0, none⟩) (some ⟨B, 0, none⟩) 0 0 1 1 rfl rfl g 0 ((rep v 0 0).map (Value.int .i64)) 3 HW0.out ((List.replicate 0 v).map (Value.int .i64)) HMIN.out (src_cells fun j hj => absurd hj (Nat.not_lt_zero j)) HFIT.out HONE.out W.heap.size W hbel hg ?_; intro w2 hh2 hb2))
  have hw2 : w2.heap[g]? = some (.cells ((rep v 0 0).map (Value.int .i64)).toArray 3 (0, 0)) := by
    have := hh2.out
    rwa [rep_splice v 0 0 0 (by omega)] at this
  have HW2 := Lib.hid hw2
  clear hh2 hw2 hbel
  go_loopw [8] (fun i wr => i = .int .i64 0 ∧ Hid (wr.heap[g]? = some (.cells ((rep v 0 0).map (Value.int .i64)).toArray 3 (0, 0))) ∧ Below W.heap.size W wr) (fun _ _ => 0)
  case atStart => exact ⟨rfl, HW2, hb2⟩
  case round =>
    clear hb2 HW2
    obtain ⟨rfl, HR, hb⟩ := hrel
    go_wp2
    go_ret
    have hr := HR.out
    rw [show rep v 0 0 = tab 0 fun _ => v from tab_congr fun j hj => if_pos hj] at hr
    have hbw := hb0.trans (hb.mono (by omega))
    rw [← HB.out] at hbw
    refine ⟨g, rfl, by rw [HB.out]; omega, OwnI.of_whole hr (by rw [HB.out]; omega) (tab_length _ _) (by omega), hbw⟩
theorem slices_RepeatN {w : World} {v : Int} {n : Nat} (hn : n ≤ 1000) :
    Calls Try.prog 74 #[.slice (some ⟨w.heap.size, 0, none⟩) 1 1, .int .i64 n] (w.alloc (.cells #[.int .i64 v] 3)) (RetRep w v n) := by
  by_cases h : 0 < n
  · exact slices_Repeat1 h hn
  · obtain rfl : n = 0 := by omega
    exact slices_Repeat0
end Go.Proofs.Ytgnegemiiahkaaa
