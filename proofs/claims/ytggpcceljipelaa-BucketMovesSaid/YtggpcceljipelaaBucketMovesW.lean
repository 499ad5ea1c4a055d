/- The walk of headlaw.BucketMoves: it returns true and changes nothing that was there. No conditions. -/
import Derived.Test.YtggpcceljipelaaBucket
namespace Go.Proofs.Ytggpcceljipelaa
open Go Go.RowKit
set_option linter.unusedSimpArgs false

abbrev boxB (r b f : Int) : Obj := .cells #[.int .i64 r, .int .i64 b, .int .i64 f] 23

set_option maxHeartbeats 1000000 in
theorem bucketMoves_bad {w : World} {r b f n : Int} (h : ¬ okBucket r b f) :
    Calls Try.prog 3 #[aggB r b f, .int .i64 n] w fun e w' => e = .returned (.bool true) ∧ Below w.heap.size w w' := by
  go_enter Try.func3, Try.ntmps3
  go_wp2_with fail
  refine (bucket_Tick_bad h).mono ?_; rintro e w1 ⟨rfl, hb1⟩
  have hs1 : w.heap.size < w1.heap.size := by have := hb1.size; simp at this; omega
  have A1 : w1.heap[w.heap.size]? = some (boxB r b f) := blk_below (blk_new w _ _) hb1
  have T1 : Below w.heap.size w w1 := ((Below.refl _ _).alloc (Nat.le_refl _) _).trans (hb1.mono (by simp))
  obtain ⟨⟨k0, k1, k2⟩, _⟩ := blk3 A1
  have HA1 := Lib.hid A1; have HT1 := Lib.hid T1
  clear hb1 A1 T1
  go_wp2_with fail
  refine (bucket_Take_bad h).mono ?_; rintro e w2 ⟨rfl, hb2⟩
  have hs2 : w1.heap.size < w2.heap.size := by have := hb2.size; simp at this; omega
  have hs02 : w.heap.size < w2.heap.size := by omega
  have A2 : w2.heap[w.heap.size]? = some (boxB r b f) := blk_below (blk_alloc HA1.out) hb2
  have C2 : w2.heap[w1.heap.size]? = some (boxB 0 0 0) := blk_below (blk_new w1 _ _) hb2
  have T2 : Below w.heap.size w w2 := (HT1.out.alloc (by omega) _).trans (hb2.mono (by simp; omega))
  clear k0 k1 k2
  obtain ⟨⟨k0, k1, k2⟩, _⟩ := blk3 A2
  have HA2 := Lib.hid A2; have HC2 := Lib.hid C2; have HT2 := Lib.hid T2
  clear hb2 A2 C2 T2
  go_wp2_with fail
  refine (ref_Bucket_bad h).mono ?_; rintro e w3 ⟨rfl, hb3⟩
  have hs3 : w2.heap.size < w3.heap.size := by have := hb3.size; simp at this; omega
  have hs03 : w.heap.size < w3.heap.size := by omega
  have hs13 : w1.heap.size < w3.heap.size := by omega
  have A3 : w3.heap[w.heap.size]? = some (boxB r b f) := blk_below (blk_alloc HA2.out) hb3
  have C3 : w3.heap[w1.heap.size]? = some (boxB 0 0 0) := blk_below (blk_alloc HC2.out) hb3
  have D3 : w3.heap[w2.heap.size]? = some (boxB 0 0 0) := blk_below (blk_new w2 _ _) hb3
  have T3 : Below w.heap.size w w3 := (HT2.out.alloc (by omega) _).trans (hb3.mono (by simp; omega))
  clear k0 k1 k2
  obtain ⟨⟨k0, k1, k2⟩, _⟩ := blk3 A3
  have HA3 := Lib.hid A3; have HC3 := Lib.hid C3; have HD3 := Lib.hid D3; have HT3 := Lib.hid T3
  clear hb3 A3 C3 D3 T3
  go_wp2_with fail
  refine (bucket_Check_bad h).mono ?_; rintro e w4 ⟨rfl, hb4⟩
  have hs4 : w3.heap.size ≤ w4.heap.size := hb4.size
  have hs04 : w.heap.size < w4.heap.size := by omega
  have hs14 : w1.heap.size < w4.heap.size := by omega
  have hs24 : w2.heap.size < w4.heap.size := by omega
  have C4 : w4.heap[w1.heap.size]? = some (boxB 0 0 0) := blk_below HC3.out hb4
  have D4 : w4.heap[w2.heap.size]? = some (boxB 0 0 0) := blk_below HD3.out hb4
  have T4 : Below w.heap.size w w4 := HT3.out.trans (hb4.mono (by omega))
  clear k0 k1 k2
  obtain ⟨⟨c0, c1, c2⟩, _⟩ := blk3 C4
  obtain ⟨⟨d0, d1, d2⟩, _⟩ := blk3 D4
  have HT4 := Lib.hid T4
  clear hb4 C4 D4 T4
  go_wp2
  go_ret
  exact ⟨rfl, (HT4.out.alloc (by omega) _).alloc (by simp; omega) _⟩

set_option maxHeartbeats 1600000 in
theorem bucketMoves_low {w : World} {r b f n : Int} (h : okBucket r b f) (hn : n < 0) :
    Calls Try.prog 3 #[aggB r b f, .int .i64 n] w fun e w' => e = .returned (.bool true) ∧ Below w.heap.size w w' := by
  have HOK := Lib.hid h
  obtain ⟨h1, h2, h3, h4, h5, h6⟩ := h
  go_enter Try.func3, Try.ntmps3
  go_wp2_with fail
  refine (bucket_Tick_low HOK.out hn).mono ?_; rintro e w1 ⟨rfl, hb1⟩
  have hs1 : w.heap.size < w1.heap.size := by have := hb1.size; simp at this; omega
  have A1 : w1.heap[w.heap.size]? = some (boxB r b f) := blk_below (blk_new w _ _) hb1
  have T1 : Below w.heap.size w w1 := ((Below.refl _ _).alloc (Nat.le_refl _) _).trans (hb1.mono (by simp))
  obtain ⟨⟨k0, k1, k2⟩, _⟩ := blk3 A1
  have HA1 := Lib.hid A1; have HT1 := Lib.hid T1
  clear hb1 A1 T1
  go_wp2_with fail
  refine (bucket_Take_low HOK.out hn).mono ?_; rintro e w2 ⟨rfl, hb2⟩
  have hs2 : w1.heap.size < w2.heap.size := by have := hb2.size; simp at this; omega
  have hs02 : w.heap.size < w2.heap.size := by omega
  have A2 : w2.heap[w.heap.size]? = some (boxB r b f) := blk_below (blk_alloc HA1.out) hb2
  have C2 : w2.heap[w1.heap.size]? = some (boxB 0 0 0) := blk_below (blk_new w1 _ _) hb2
  have T2 : Below w.heap.size w w2 := (HT1.out.alloc (by omega) _).trans (hb2.mono (by simp; omega))
  clear k0 k1 k2
  obtain ⟨⟨k0, k1, k2⟩, _⟩ := blk3 A2
  have HA2 := Lib.hid A2; have HC2 := Lib.hid C2; have HT2 := Lib.hid T2
  clear hb2 A2 C2 T2
  go_wp2_with fail
  refine (ref_Bucket_ok HOK.out).mono ?_; rintro e w3 ⟨rfl, hb3⟩
  have hs3 : w2.heap.size < w3.heap.size := by have := hb3.size; simp at this; omega
  have hs03 : w.heap.size < w3.heap.size := by omega
  have hs13 : w1.heap.size < w3.heap.size := by omega
  have A3 : w3.heap[w.heap.size]? = some (boxB r b f) := blk_below (blk_alloc HA2.out) hb3
  have C3 : w3.heap[w1.heap.size]? = some (boxB 0 0 0) := blk_below (blk_alloc HC2.out) hb3
  have D3 : w3.heap[w2.heap.size]? = some (boxB 0 0 0) := blk_below (blk_new w2 _ _) hb3
  have T3 : Below w.heap.size w w3 := (HT2.out.alloc (by omega) _).trans (hb3.mono (by simp; omega))
  clear k0 k1 k2
  obtain ⟨⟨k0, k1, k2⟩, _⟩ := blk3 A3
  have HA3 := Lib.hid A3; have HC3 := Lib.hid C3; have HD3 := Lib.hid D3; have HT3 := Lib.hid T3
  clear hb3 A3 C3 D3 T3
  go_wp2_with fail
  refine (bucket_Check_ok HOK.out).mono ?_; rintro e w4 ⟨rfl, hb4⟩
  have hs4 : w3.heap.size ≤ w4.heap.size := hb4.size
  have hs04 : w.heap.size < w4.heap.size := by omega
  have hs14 : w1.heap.size < w4.heap.size := by omega
  have hs24 : w2.heap.size < w4.heap.size := by omega
  have A4 : w4.heap[w.heap.size]? = some (boxB r b f) := blk_below HA3.out hb4
  have C4 : w4.heap[w1.heap.size]? = some (boxB 0 0 0) := blk_below HC3.out hb4
  have D4 : w4.heap[w2.heap.size]? = some (boxB 0 0 0) := blk_below HD3.out hb4
  have T4 : Below w.heap.size w w4 := HT3.out.trans (hb4.mono (by omega))
  clear k0 k1 k2
  obtain ⟨⟨k0, k1, k2⟩, _⟩ := blk3 A4
  obtain ⟨⟨c0, c1, c2⟩, _⟩ := blk3 C4
  obtain ⟨⟨d0, d1, d2⟩, _⟩ := blk3 D4
  have HA4 := Lib.hid A4; have HC4 := Lib.hid C4; have HD4 := Lib.hid D4; have HT4 := Lib.hid T4
  clear hb4 A4 C4 D4 T4
  go_wp2
  go_ret
  exact ⟨rfl, (HT4.out.alloc (by omega) _).alloc (by simp; omega) _⟩

set_option maxHeartbeats 1600000 in
theorem bucketMoves_high_full {w : World} {r b f n : Int} (h : okBucket r b f) (hn : 200 < n) (hf : f < n) :
    Calls Try.prog 3 #[aggB r b f, .int .i64 n] w fun e w' => e = .returned (.bool true) ∧ Below w.heap.size w w' := by
  have HOK := Lib.hid h
  obtain ⟨h1, h2, h3, h4, h5, h6⟩ := h
  go_enter Try.func3, Try.ntmps3
  go_wp2_with fail
  refine (bucket_Tick_high HOK.out hn).mono ?_; rintro e w1 ⟨rfl, hb1⟩
  have hs1 : w.heap.size < w1.heap.size := by have := hb1.size; simp at this; omega
  have A1 : w1.heap[w.heap.size]? = some (boxB r b f) := blk_below (blk_new w _ _) hb1
  have T1 : Below w.heap.size w w1 := ((Below.refl _ _).alloc (Nat.le_refl _) _).trans (hb1.mono (by simp))
  obtain ⟨⟨k0, k1, k2⟩, _⟩ := blk3 A1
  have HA1 := Lib.hid A1; have HT1 := Lib.hid T1
  clear hb1 A1 T1
  go_wp2_with fail
  refine (bucket_Take_full HOK.out (by omega) hf).mono ?_; rintro e w2 ⟨rfl, hb2⟩
  have hs2 : w1.heap.size < w2.heap.size := by have := hb2.size; simp at this; omega
  have hs02 : w.heap.size < w2.heap.size := by omega
  have A2 : w2.heap[w.heap.size]? = some (boxB r b f) := blk_below (blk_alloc HA1.out) hb2
  have C2 : w2.heap[w1.heap.size]? = some (boxB 0 0 0) := blk_below (blk_new w1 _ _) hb2
  have T2 : Below w.heap.size w w2 := (HT1.out.alloc (by omega) _).trans (hb2.mono (by simp; omega))
  clear k0 k1 k2
  obtain ⟨⟨k0, k1, k2⟩, _⟩ := blk3 A2
  have HA2 := Lib.hid A2; have HC2 := Lib.hid C2; have HT2 := Lib.hid T2
  clear hb2 A2 C2 T2
  go_wp2_with fail
  refine (ref_Bucket_ok HOK.out).mono ?_; rintro e w3 ⟨rfl, hb3⟩
  have hs3 : w2.heap.size < w3.heap.size := by have := hb3.size; simp at this; omega
  have hs03 : w.heap.size < w3.heap.size := by omega
  have hs13 : w1.heap.size < w3.heap.size := by omega
  have A3 : w3.heap[w.heap.size]? = some (boxB r b f) := blk_below (blk_alloc HA2.out) hb3
  have C3 : w3.heap[w1.heap.size]? = some (boxB 0 0 0) := blk_below (blk_alloc HC2.out) hb3
  have D3 : w3.heap[w2.heap.size]? = some (boxB 0 0 0) := blk_below (blk_new w2 _ _) hb3
  have T3 : Below w.heap.size w w3 := (HT2.out.alloc (by omega) _).trans (hb3.mono (by simp; omega))
  clear k0 k1 k2
  obtain ⟨⟨k0, k1, k2⟩, _⟩ := blk3 A3
  have HA3 := Lib.hid A3; have HC3 := Lib.hid C3; have HD3 := Lib.hid D3; have HT3 := Lib.hid T3
  clear hb3 A3 C3 D3 T3
  go_wp2_with fail
  refine (bucket_Check_ok HOK.out).mono ?_; rintro e w4 ⟨rfl, hb4⟩
  have hs4 : w3.heap.size ≤ w4.heap.size := hb4.size
  have hs04 : w.heap.size < w4.heap.size := by omega
  have hs14 : w1.heap.size < w4.heap.size := by omega
  have hs24 : w2.heap.size < w4.heap.size := by omega
  have A4 : w4.heap[w.heap.size]? = some (boxB r b f) := blk_below HA3.out hb4
  have C4 : w4.heap[w1.heap.size]? = some (boxB 0 0 0) := blk_below HC3.out hb4
  have D4 : w4.heap[w2.heap.size]? = some (boxB 0 0 0) := blk_below HD3.out hb4
  have T4 : Below w.heap.size w w4 := HT3.out.trans (hb4.mono (by omega))
  clear k0 k1 k2
  obtain ⟨⟨k0, k1, k2⟩, _⟩ := blk3 A4
  obtain ⟨⟨c0, c1, c2⟩, _⟩ := blk3 C4
  obtain ⟨⟨d0, d1, d2⟩, _⟩ := blk3 D4
  have HA4 := Lib.hid A4; have HC4 := Lib.hid C4; have HD4 := Lib.hid D4; have HT4 := Lib.hid T4
  clear hb4 A4 C4 D4 T4
  go_wp2
  go_ret
  exact ⟨rfl, (HT4.out.alloc (by omega) _).alloc (by simp; omega) _⟩

set_option maxHeartbeats 1600000 in
theorem bucketMoves_high_ok {w : World} {r b f n : Int} (h : okBucket r b f) (hn : 200 < n) (hf : n ≤ f) :
    Calls Try.prog 3 #[aggB r b f, .int .i64 n] w fun e w' => e = .returned (.bool true) ∧ Below w.heap.size w w' := by
  have HOK := Lib.hid h
  obtain ⟨h1, h2, h3, h4, h5, h6⟩ := h
  go_enter Try.func3, Try.ntmps3
  go_wp2_with fail
  refine (bucket_Tick_high HOK.out hn).mono ?_; rintro e w1 ⟨rfl, hb1⟩
  have hs1 : w.heap.size < w1.heap.size := by have := hb1.size; simp at this; omega
  have A1 : w1.heap[w.heap.size]? = some (boxB r b f) := blk_below (blk_new w _ _) hb1
  have T1 : Below w.heap.size w w1 := ((Below.refl _ _).alloc (Nat.le_refl _) _).trans (hb1.mono (by simp))
  obtain ⟨⟨k0, k1, k2⟩, _⟩ := blk3 A1
  have HA1 := Lib.hid A1; have HT1 := Lib.hid T1
  clear hb1 A1 T1
  go_wp2_with fail
  refine (bucket_Take_ok HOK.out (by omega) hf).mono ?_; rintro e w2 ⟨rfl, hb2⟩
  have hs2 : w1.heap.size < w2.heap.size := by have := hb2.size; simp at this; omega
  have hs02 : w.heap.size < w2.heap.size := by omega
  have A2 : w2.heap[w.heap.size]? = some (boxB r b f) := blk_below (blk_alloc HA1.out) hb2
  have C2 : w2.heap[w1.heap.size]? = some (boxB 0 0 0) := blk_below (blk_new w1 _ _) hb2
  have T2 : Below w.heap.size w w2 := (HT1.out.alloc (by omega) _).trans (hb2.mono (by simp; omega))
  clear k0 k1 k2
  obtain ⟨⟨k0, k1, k2⟩, _⟩ := blk3 A2
  have HA2 := Lib.hid A2; have HC2 := Lib.hid C2; have HT2 := Lib.hid T2
  clear hb2 A2 C2 T2
  go_wp2_with fail
  refine (ref_Bucket_ok HOK.out).mono ?_; rintro e w3 ⟨rfl, hb3⟩
  have hs3 : w2.heap.size < w3.heap.size := by have := hb3.size; simp at this; omega
  have hs03 : w.heap.size < w3.heap.size := by omega
  have hs13 : w1.heap.size < w3.heap.size := by omega
  have A3 : w3.heap[w.heap.size]? = some (boxB r b f) := blk_below (blk_alloc HA2.out) hb3
  have C3 : w3.heap[w1.heap.size]? = some (boxB 0 0 0) := blk_below (blk_alloc HC2.out) hb3
  have D3 : w3.heap[w2.heap.size]? = some (boxB r b (f - n)) := blk_below (blk_new w2 _ _) hb3
  have T3 : Below w.heap.size w w3 := (HT2.out.alloc (by omega) _).trans (hb3.mono (by simp; omega))
  clear k0 k1 k2
  obtain ⟨⟨k0, k1, k2⟩, _⟩ := blk3 A3
  have HA3 := Lib.hid A3; have HC3 := Lib.hid C3; have HD3 := Lib.hid D3; have HT3 := Lib.hid T3
  clear hb3 A3 C3 D3 T3
  go_wp2_with fail
  refine (bucket_Check_ok HOK.out).mono ?_; rintro e w4 ⟨rfl, hb4⟩
  have hs4 : w3.heap.size ≤ w4.heap.size := hb4.size
  have hs04 : w.heap.size < w4.heap.size := by omega
  have hs14 : w1.heap.size < w4.heap.size := by omega
  have hs24 : w2.heap.size < w4.heap.size := by omega
  have A4 : w4.heap[w.heap.size]? = some (boxB r b f) := blk_below HA3.out hb4
  have C4 : w4.heap[w1.heap.size]? = some (boxB 0 0 0) := blk_below HC3.out hb4
  have D4 : w4.heap[w2.heap.size]? = some (boxB r b (f - n)) := blk_below HD3.out hb4
  have T4 : Below w.heap.size w w4 := HT3.out.trans (hb4.mono (by omega))
  clear k0 k1 k2
  obtain ⟨⟨k0, k1, k2⟩, _⟩ := blk3 A4
  obtain ⟨⟨c0, c1, c2⟩, _⟩ := blk3 C4
  obtain ⟨⟨d0, d1, d2⟩, _⟩ := blk3 D4
  have HA4 := Lib.hid A4; have HC4 := Lib.hid C4; have HD4 := Lib.hid D4; have HT4 := Lib.hid T4
  clear hb4 A4 C4 D4 T4
  go_wp2
  go_ret
  exact ⟨rfl, (HT4.out.alloc (by omega) _).alloc (by simp; omega) _⟩

set_option maxHeartbeats 1600000 in
theorem bucketMoves_in_full {w : World} {r b f n : Int} (h : okBucket r b f) (hn : 0 ≤ n ∧ n ≤ 200) (hf : f < n) :
    Calls Try.prog 3 #[aggB r b f, .int .i64 n] w fun e w' => e = .returned (.bool true) ∧ Below w.heap.size w w' := by
  have HOK := Lib.hid h
  obtain ⟨h1, h2, h3, h4, h5, h6⟩ := h
  obtain ⟨v, hv⟩ : ∃ v, min b (f + n * r) = v := ⟨_, rfl⟩
  have HV := Lib.hid hv; clear hv
  go_enter Try.func3, Try.ntmps3
  go_wp2_with fail
  refine (bucket_Tick_v HOK.out hn HV.out).mono ?_; rintro e w1 ⟨rfl, hb1⟩
  have hs1 : w.heap.size < w1.heap.size := by have := hb1.size; simp at this; omega
  have A1 : w1.heap[w.heap.size]? = some (boxB r b f) := blk_below (blk_new w _ _) hb1
  have T1 : Below w.heap.size w w1 := ((Below.refl _ _).alloc (Nat.le_refl _) _).trans (hb1.mono (by simp))
  obtain ⟨⟨k0, k1, k2⟩, _⟩ := blk3 A1
  have HA1 := Lib.hid A1; have HT1 := Lib.hid T1
  clear hb1 A1 T1
  go_wp2_with fail
  refine (bucket_Take_full HOK.out hn.1 hf).mono ?_; rintro e w2 ⟨rfl, hb2⟩
  have hs2 : w1.heap.size < w2.heap.size := by have := hb2.size; simp at this; omega
  have hs02 : w.heap.size < w2.heap.size := by omega
  have A2 : w2.heap[w.heap.size]? = some (boxB r b f) := blk_below (blk_alloc HA1.out) hb2
  have C2 : w2.heap[w1.heap.size]? = some (boxB r b v) := blk_below (blk_new w1 _ _) hb2
  have T2 : Below w.heap.size w w2 := (HT1.out.alloc (by omega) _).trans (hb2.mono (by simp; omega))
  clear k0 k1 k2
  obtain ⟨⟨k0, k1, k2⟩, _⟩ := blk3 A2
  have HA2 := Lib.hid A2; have HC2 := Lib.hid C2; have HT2 := Lib.hid T2
  clear hb2 A2 C2 T2
  go_wp2_with fail
  refine (ref_Bucket_ok HOK.out).mono ?_; rintro e w3 ⟨rfl, hb3⟩
  have hs3 : w2.heap.size < w3.heap.size := by have := hb3.size; simp at this; omega
  have hs03 : w.heap.size < w3.heap.size := by omega
  have hs13 : w1.heap.size < w3.heap.size := by omega
  have A3 : w3.heap[w.heap.size]? = some (boxB r b f) := blk_below (blk_alloc HA2.out) hb3
  have C3 : w3.heap[w1.heap.size]? = some (boxB r b v) := blk_below (blk_alloc HC2.out) hb3
  have D3 : w3.heap[w2.heap.size]? = some (boxB 0 0 0) := blk_below (blk_new w2 _ _) hb3
  have T3 : Below w.heap.size w w3 := (HT2.out.alloc (by omega) _).trans (hb3.mono (by simp; omega))
  clear k0 k1 k2
  obtain ⟨⟨k0, k1, k2⟩, _⟩ := blk3 A3
  have HA3 := Lib.hid A3; have HC3 := Lib.hid C3; have HD3 := Lib.hid D3; have HT3 := Lib.hid T3
  clear hb3 A3 C3 D3 T3
  go_wp2_with fail
  refine (bucket_Check_ok HOK.out).mono ?_; rintro e w4 ⟨rfl, hb4⟩
  have hs4 : w3.heap.size ≤ w4.heap.size := hb4.size
  have hs04 : w.heap.size < w4.heap.size := by omega
  have hs14 : w1.heap.size < w4.heap.size := by omega
  have hs24 : w2.heap.size < w4.heap.size := by omega
  have A4 : w4.heap[w.heap.size]? = some (boxB r b f) := blk_below HA3.out hb4
  have C4 : w4.heap[w1.heap.size]? = some (boxB r b v) := blk_below HC3.out hb4
  have D4 : w4.heap[w2.heap.size]? = some (boxB 0 0 0) := blk_below HD3.out hb4
  have T4 : Below w.heap.size w w4 := HT3.out.trans (hb4.mono (by omega))
  clear k0 k1 k2
  obtain ⟨⟨k0, k1, k2⟩, _⟩ := blk3 A4
  obtain ⟨⟨c0, c1, c2⟩, _⟩ := blk3 C4
  obtain ⟨⟨d0, d1, d2⟩, _⟩ := blk3 D4
  have HA4 := Lib.hid A4; have HC4 := Lib.hid C4; have HD4 := Lib.hid D4; have HT4 := Lib.hid T4
  clear hb4 A4 C4 D4 T4
  obtain ⟨N, rfl⟩ := Int.eq_ofNat_of_zero_le hn.1
  have hN : N ≤ 200 := by omega
  clear hn
  go_wp2
  go_loopw [62] (fun i wr => ∃ (k : Nat) (u : Int), k ≤ N ∧ i = .int .i64 k ∧ Hid (u = min b (f + (k : Int) * r)) ∧ wr.heap[w4.heap.size]? = some (boxB r b u) ∧ wr.heap[w4.heap.size + 1]? = some (boxB 0 0 0) ∧ Below w4.heap.size w4 wr) (fun i _ => N - (intOf i).toNat)
  case atStart =>
    refine ⟨0, f, Nat.zero_le _, rfl, Lib.hid (by simp; omega), blk_alloc (blk_new w4 _ _), ?_, two_allocs w4 _ _ _ _⟩
    have := blk_new (w4.alloc (boxB r b f)) #[.int .i64 0, .int .i64 0, .int .i64 0] 23
    simpa using this
  case round =>
    obtain ⟨k, u, hk, rfl, HU, E1, E2, hb⟩ := hrel
    have hub : u ≤ b := by have := HU.out; omega
    have hu0 : 0 ≤ u := by have := HU.out; have : 0 ≤ (k : Int) * r := Int.mul_nonneg (by omega) h1; omega
    have hsr := hb.size
    by_cases hkn : k < N
    · obtain ⟨⟨e0, e1, e2⟩, g0, g1, g2⟩ := blk3 E1
      have HE1 := Lib.hid E1; have HE2 := Lib.hid E2; have HB := Lib.hid hb
      clear E1 E2 hb k0 k1 k2 c0 c1 c2 d0 d1 d2
      go_wp2
      all_goals
        go_roundw
        case rel =>
          refine ⟨k + 1, _, by omega, by go_num, Lib.hid ?_, by simpa using blk_set (j := 2) HE1.out, blk_other HE2.out (by omega), HB.out.setCell (Nat.le_refl _) _⟩
          have hs : ((k + 1 : Nat) : Int) * r = (k : Int) * r + r := by rw [Int.natCast_add, Int.add_mul]; simp
          rw [hs]
          have := HU.out
          omega
        case measure => simp [intOf]; omega
    · obtain rfl : N = k := by omega
      obtain rfl : v = u := by rw [HU.out, ← HV.out]
      have A5 := blk_below HA4.out hb
      have C5 := blk_below HC4.out hb
      have D5 := blk_below HD4.out hb
      have T5 : Below w.heap.size w wr := HT4.out.trans (hb.mono (by omega))
      have q1 : w.heap.size < wr.heap.size := by omega
      have q2 : w1.heap.size < w4.heap.size := by omega
      clear k0 k1 k2 c0 c1 c2 d0 d1 d2
      obtain ⟨⟨k0, k1, k2⟩, _⟩ := blk3 A5
      obtain ⟨⟨c0, c1, c2⟩, _⟩ := blk3 C5
      obtain ⟨⟨d0, d1, d2⟩, _⟩ := blk3 D5
      obtain ⟨⟨e0, e1, e2⟩, _⟩ := blk3 E1
      obtain ⟨⟨l0, l1, l2⟩, m0, m1, m2⟩ := blk3 E2
      have HT5 := Lib.hid T5
      have q3 := hs04
      clear A5 C5 D5 E1 E2 T5 hb HA4 HC4 HD4 HA3 HC3 HD3 HA2 HC2 HA1
      go_wp2
      go_ret
      exact ⟨rfl, HT5.out⟩

set_option maxHeartbeats 1600000 in
theorem bucketMoves_in_ok {w : World} {r b f n : Int} (h : okBucket r b f) (hn : 0 ≤ n ∧ n ≤ 200) (hf : n ≤ f) :
    Calls Try.prog 3 #[aggB r b f, .int .i64 n] w fun e w' => e = .returned (.bool true) ∧ Below w.heap.size w w' := by
  have HOK := Lib.hid h
  obtain ⟨h1, h2, h3, h4, h5, h6⟩ := h
  obtain ⟨v, hv⟩ : ∃ v, min b (f + n * r) = v := ⟨_, rfl⟩
  have HV := Lib.hid hv; clear hv
  go_enter Try.func3, Try.ntmps3
  go_wp2_with fail
  refine (bucket_Tick_v HOK.out hn HV.out).mono ?_; rintro e w1 ⟨rfl, hb1⟩
  have hs1 : w.heap.size < w1.heap.size := by have := hb1.size; simp at this; omega
  have A1 : w1.heap[w.heap.size]? = some (boxB r b f) := blk_below (blk_new w _ _) hb1
  have T1 : Below w.heap.size w w1 := ((Below.refl _ _).alloc (Nat.le_refl _) _).trans (hb1.mono (by simp))
  obtain ⟨⟨k0, k1, k2⟩, _⟩ := blk3 A1
  have HA1 := Lib.hid A1; have HT1 := Lib.hid T1
  clear hb1 A1 T1
  go_wp2_with fail
  refine (bucket_Take_ok HOK.out hn.1 hf).mono ?_; rintro e w2 ⟨rfl, hb2⟩
  have hs2 : w1.heap.size < w2.heap.size := by have := hb2.size; simp at this; omega
  have hs02 : w.heap.size < w2.heap.size := by omega
  have A2 : w2.heap[w.heap.size]? = some (boxB r b f) := blk_below (blk_alloc HA1.out) hb2
  have C2 : w2.heap[w1.heap.size]? = some (boxB r b v) := blk_below (blk_new w1 _ _) hb2
  have T2 : Below w.heap.size w w2 := (HT1.out.alloc (by omega) _).trans (hb2.mono (by simp; omega))
  clear k0 k1 k2
  obtain ⟨⟨k0, k1, k2⟩, _⟩ := blk3 A2
  have HA2 := Lib.hid A2; have HC2 := Lib.hid C2; have HT2 := Lib.hid T2
  clear hb2 A2 C2 T2
  go_wp2_with fail
  refine (ref_Bucket_ok HOK.out).mono ?_; rintro e w3 ⟨rfl, hb3⟩
  have hs3 : w2.heap.size < w3.heap.size := by have := hb3.size; simp at this; omega
  have hs03 : w.heap.size < w3.heap.size := by omega
  have hs13 : w1.heap.size < w3.heap.size := by omega
  have A3 : w3.heap[w.heap.size]? = some (boxB r b f) := blk_below (blk_alloc HA2.out) hb3
  have C3 : w3.heap[w1.heap.size]? = some (boxB r b v) := blk_below (blk_alloc HC2.out) hb3
  have D3 : w3.heap[w2.heap.size]? = some (boxB r b (f - n)) := blk_below (blk_new w2 _ _) hb3
  have T3 : Below w.heap.size w w3 := (HT2.out.alloc (by omega) _).trans (hb3.mono (by simp; omega))
  clear k0 k1 k2
  obtain ⟨⟨k0, k1, k2⟩, _⟩ := blk3 A3
  have HA3 := Lib.hid A3; have HC3 := Lib.hid C3; have HD3 := Lib.hid D3; have HT3 := Lib.hid T3
  clear hb3 A3 C3 D3 T3
  go_wp2_with fail
  refine (bucket_Check_ok HOK.out).mono ?_; rintro e w4 ⟨rfl, hb4⟩
  have hs4 : w3.heap.size ≤ w4.heap.size := hb4.size
  have hs04 : w.heap.size < w4.heap.size := by omega
  have hs14 : w1.heap.size < w4.heap.size := by omega
  have hs24 : w2.heap.size < w4.heap.size := by omega
  have A4 : w4.heap[w.heap.size]? = some (boxB r b f) := blk_below HA3.out hb4
  have C4 : w4.heap[w1.heap.size]? = some (boxB r b v) := blk_below HC3.out hb4
  have D4 : w4.heap[w2.heap.size]? = some (boxB r b (f - n)) := blk_below HD3.out hb4
  have T4 : Below w.heap.size w w4 := HT3.out.trans (hb4.mono (by omega))
  clear k0 k1 k2
  obtain ⟨⟨k0, k1, k2⟩, _⟩ := blk3 A4
  obtain ⟨⟨c0, c1, c2⟩, _⟩ := blk3 C4
  obtain ⟨⟨d0, d1, d2⟩, _⟩ := blk3 D4
  have HA4 := Lib.hid A4; have HC4 := Lib.hid C4; have HD4 := Lib.hid D4; have HT4 := Lib.hid T4
  clear hb4 A4 C4 D4 T4
  obtain ⟨N, rfl⟩ := Int.eq_ofNat_of_zero_le hn.1
  have hN : N ≤ 200 := by omega
  clear hn
  go_wp2
  go_loopw [62] (fun i wr => ∃ (k : Nat) (u : Int), k ≤ N ∧ i = .int .i64 k ∧ Hid (u = min b (f + (k : Int) * r)) ∧ wr.heap[w4.heap.size]? = some (boxB r b u) ∧ wr.heap[w4.heap.size + 1]? = some (boxB 0 0 0) ∧ Below w4.heap.size w4 wr) (fun i _ => N - (intOf i).toNat)
  case atStart =>
    refine ⟨0, f, Nat.zero_le _, rfl, Lib.hid (by simp; omega), blk_alloc (blk_new w4 _ _), ?_, two_allocs w4 _ _ _ _⟩
    have := blk_new (w4.alloc (boxB r b f)) #[.int .i64 0, .int .i64 0, .int .i64 0] 23
    simpa using this
  case round =>
    obtain ⟨k, u, hk, rfl, HU, E1, E2, hb⟩ := hrel
    have hub : u ≤ b := by have := HU.out; omega
    have hu0 : 0 ≤ u := by have := HU.out; have : 0 ≤ (k : Int) * r := Int.mul_nonneg (by omega) h1; omega
    have hsr := hb.size
    by_cases hkn : k < N
    · obtain ⟨⟨e0, e1, e2⟩, g0, g1, g2⟩ := blk3 E1
      have HE1 := Lib.hid E1; have HE2 := Lib.hid E2; have HB := Lib.hid hb
      clear E1 E2 hb k0 k1 k2 c0 c1 c2 d0 d1 d2
      go_wp2
      all_goals
        go_roundw
        case rel =>
          refine ⟨k + 1, _, by omega, by go_num, Lib.hid ?_, by simpa using blk_set (j := 2) HE1.out, blk_other HE2.out (by omega), HB.out.setCell (Nat.le_refl _) _⟩
          have hs : ((k + 1 : Nat) : Int) * r = (k : Int) * r + r := by rw [Int.natCast_add, Int.add_mul]; simp
          rw [hs]
          have := HU.out
          omega
        case measure => simp [intOf]; omega
    · obtain rfl : N = k := by omega
      obtain rfl : v = u := by rw [HU.out, ← HV.out]
      have A5 := blk_below HA4.out hb
      have C5 := blk_below HC4.out hb
      have D5 := blk_below HD4.out hb
      have T5 : Below w.heap.size w wr := HT4.out.trans (hb.mono (by omega))
      have q1 : w.heap.size < wr.heap.size := by omega
      have q2 : w1.heap.size < w4.heap.size := by omega
      clear k0 k1 k2 c0 c1 c2 d0 d1 d2
      obtain ⟨⟨k0, k1, k2⟩, _⟩ := blk3 A5
      obtain ⟨⟨c0, c1, c2⟩, _⟩ := blk3 C5
      obtain ⟨⟨d0, d1, d2⟩, _⟩ := blk3 D5
      obtain ⟨⟨e0, e1, e2⟩, _⟩ := blk3 E1
      obtain ⟨⟨l0, l1, l2⟩, m0, m1, m2⟩ := blk3 E2
      have HT5 := Lib.hid T5
      have q3 := hs04
      clear A5 C5 D5 E1 E2 T5 hb HA4 HC4 HD4 HA3 HC3 HD3 HA2 HC2 HA1
      go_wp2
      go_ret
      exact ⟨rfl, ((HT5.out.setCell (by simp; omega) _).setCell (by simp; omega) _).setCell (by simp; omega) _⟩

theorem bucketMoves_walk {w : World} {r b f n : Int} (_hr : -9223372036854775808 ≤ r ∧ r ≤ 9223372036854775807) (_hb : -9223372036854775808 ≤ b ∧ b ≤ 9223372036854775807) (_hf : -9223372036854775808 ≤ f ∧ f ≤ 9223372036854775807) (_hn : -9223372036854775808 ≤ n ∧ n ≤ 9223372036854775807) :
    Calls Try.prog 3 #[.agg #[.int .i64 r, .int .i64 b, .int .i64 f], .int .i64 n] w fun e w' => e = .returned (.bool true) ∧ Below w.heap.size w w' := by
  by_cases h : okBucket r b f
  · by_cases h1 : n < 0
    · exact bucketMoves_low h h1
    · by_cases h2 : 200 < n
      · by_cases h3 : n ≤ f
        · exact bucketMoves_high_ok h h2 h3
        · exact bucketMoves_high_full h h2 (by omega)
      · by_cases h3 : n ≤ f
        · exact bucketMoves_in_ok h (by omega) h3
        · exact bucketMoves_in_full h (by omega) (by omega)
  · exact bucketMoves_bad h
end Go.Proofs.Ytggpcceljipelaa
