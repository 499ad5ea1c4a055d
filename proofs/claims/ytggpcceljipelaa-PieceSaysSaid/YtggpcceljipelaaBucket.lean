/- The contracts of bucket.Check, Tick, Take and headref.Bucket (P28, P29). No conditions. -/
import Derived.Test.YtggpcceljipelaaRows
import Derived.Test.YtggpcceljipelaaLib
import Derived.Laws.StructEq
namespace Go.Proofs.Ytggpcceljipelaa
open Go Go.RowKit
set_option linter.unusedSimpArgs false

def okBucket (r b f : Int) : Prop := 0 ≤ r ∧ r ≤ 10000 ∧ 0 ≤ b ∧ b ≤ 1000000 ∧ 0 ≤ f ∧ f ≤ b
abbrev aggB (r b f : Int) : Value := .agg #[.int .i64 r, .int .i64 b, .int .i64 f]

theorem not_bucket {r b f : Int} (h : ¬ okBucket r b f) : r < 0 ∨ (0 ≤ r ∧ 10000 < r) ∨ (0 ≤ r ∧ r ≤ 10000 ∧ b < 0) ∨ (0 ≤ r ∧ r ≤ 10000 ∧ 0 ≤ b ∧ 1000000 < b) ∨
    (0 ≤ r ∧ r ≤ 10000 ∧ 0 ≤ b ∧ b ≤ 1000000 ∧ f < 0) ∨ (0 ≤ r ∧ r ≤ 10000 ∧ 0 ≤ b ∧ b ≤ 1000000 ∧ 0 ≤ f ∧ b < f) := by unfold okBucket at h; omega

set_option maxHeartbeats 400000 in
theorem bucket_Check_ok {w : World} {r b f : Int} (h : okBucket r b f) :
    Calls Try.prog 18 #[aggB r b f] w fun e w' => e = .returned (.int .i64 0) ∧ Below w.heap.size w w' := by
  obtain ⟨h1, h2, h3, h4, h5, h6⟩ := h
  go_enter Try.func18, Try.ntmps18
  go_wp2
  go_ret
  exact ⟨rfl, (Below.refl _ _).alloc (Nat.le_refl _) _⟩

set_option maxHeartbeats 1000000 in
theorem bucket_Check_bad {w : World} {r b f : Int} (h : ¬ okBucket r b f) :
    Calls Try.prog 18 #[aggB r b f] w fun e w' => e = .returned (.int .i64 1) ∧ Below w.heap.size w w' := by
  rcases not_bucket h with h1 | ⟨h1, h2⟩ | ⟨h1, h2, h3⟩ | ⟨h1, h2, h3, h4⟩ | ⟨h1, h2, h3, h4, h5⟩ | ⟨h1, h2, h3, h4, h5, h6⟩
  all_goals
    clear h
    go_enter Try.func18, Try.ntmps18
    go_wp2
    go_ret
    exact ⟨rfl, (Below.refl _ _).alloc (Nat.le_refl _) _⟩

set_option maxHeartbeats 400000 in
theorem ref_Bucket_ok {w : World} {r b f : Int} (h : okBucket r b f) :
    Calls Try.prog 17 #[aggB r b f] w fun e w' => e = .returned (.int .i64 0) ∧ Below w.heap.size w w' := by
  obtain ⟨h1, h2, h3, h4, h5, h6⟩ := h
  go_enter Try.func17, Try.ntmps17
  go_wp2
  go_ret
  exact ⟨rfl, (Below.refl _ _).alloc (Nat.le_refl _) _⟩

set_option maxHeartbeats 1000000 in
theorem ref_Bucket_bad {w : World} {r b f : Int} (h : ¬ okBucket r b f) :
    Calls Try.prog 17 #[aggB r b f] w fun e w' => e = .returned (.int .i64 1) ∧ Below w.heap.size w w' := by
  rcases not_bucket h with h1 | ⟨h1, h2⟩ | ⟨h1, h2, h3⟩ | ⟨h1, h2, h3, h4⟩ | ⟨h1, h2, h3, h4, h5⟩ | ⟨h1, h2, h3, h4, h5, h6⟩
  all_goals
    clear h
    go_enter Try.func17, Try.ntmps17
    go_wp2
    go_ret
    exact ⟨rfl, (Below.refl _ _).alloc (Nat.le_refl _) _⟩

theorem two_allocs (w : World) (v u : Array Value) (t1 t2 : TypeId) : Below w.heap.size w ((w.alloc (.cells v t1)).alloc (.cells u t2)) :=
  ((Below.refl _ _).alloc (Nat.le_refl _) _).alloc (by simp) _

set_option maxHeartbeats 1000000 in
theorem bucket_Tick_ok {w : World} {r b f n : Int} (h : okBucket r b f) (hn : 0 ≤ n ∧ n ≤ 200) :
    Calls Try.prog 15 #[aggB r b f, .int .i64 n] w fun e w' => e = .returned (.tuple #[aggB r b (min b (f + n * r)), .int .i64 0]) ∧ Below w.heap.size w w' := by
  have h' := Lib.hid h
  obtain ⟨h1, h2, h3, h4, h5, h6⟩ := h
  have hm0 : 0 ≤ n * r := Int.mul_nonneg hn.1 h1
  have hm1 : n * r ≤ 200 * 10000 := Int.mul_le_mul hn.2 h2 h1 (by omega)
  obtain ⟨hn1, hn2⟩ := hn
  go_enter Try.func15, Try.ntmps15
  go_wp2_with fail
  refine (bucket_Check_ok h'.out).mono ?_; rintro e w1 ⟨rfl, hb⟩
  have B1 := blk_below (blk_alloc (o' := .cells #[.int .i64 0, .int .i64 0, .int .i64 0] 23) (blk_new w #[.int .i64 r, .int .i64 b, .int .i64 f] 23)) hb
  have B2 := blk_below (blk_new (w.alloc (.cells #[.int .i64 r, .int .i64 b, .int .i64 f] 23)) #[.int .i64 0, .int .i64 0, .int .i64 0] 23) hb
  rw [show (w.alloc (.cells #[.int .i64 r, .int .i64 b, .int .i64 f] 23)).heap.size = w.heap.size + 1 by simp] at B2
  obtain ⟨⟨k0, k1, k2⟩, f0, f1, f2⟩ := blk3 B1
  obtain ⟨⟨l0, l1, l2⟩, m0, m1, m2⟩ := blk3 B2
  have HB := Lib.hid ((two_allocs w _ _ _ _).trans (hb.mono (by simp; omega)))
  clear hb B1 B2
  go_wp2
  · have hmin : min b (f + n * r) = f + n * r := by omega
    rw [hmin]
    refine bodyPost_ret (v := .tuple #[aggB r b (f + n * r), .int .i64 0]) (by simp [results, Try.results15, go_sem, k0, k1, l0, l1, l2]) rfl ⟨rfl, ?_⟩
    exact (((HB.out.setCell (Nat.le_refl _) _).setCell (by simp) _).setCell (by simp) _).setCell (by simp) _
  · have hmin : min b (f + n * r) = b := by omega
    rw [hmin]
    refine bodyPost_ret (v := .tuple #[aggB r b b, .int .i64 0]) (by simp [results, Try.results15, go_sem, k0, k1, l0, l1, l2]) rfl ⟨rfl, ?_⟩
    exact (((HB.out.setCell (Nat.le_refl _) _).setCell (by simp) _).setCell (by simp) _).setCell (by simp) _

theorem bucket_Tick_v {w : World} {r b f n v : Int} (h : okBucket r b f) (hn : 0 ≤ n ∧ n ≤ 200) (hv : min b (f + n * r) = v) :
    Calls Try.prog 15 #[aggB r b f, .int .i64 n] w fun e w' => e = .returned (.tuple #[aggB r b v, .int .i64 0]) ∧ Below w.heap.size w w' := by
  subst hv
  exact bucket_Tick_ok h hn

set_option maxHeartbeats 1000000 in
theorem bucket_Tick_bad {w : World} {r b f n : Int} (h : ¬ okBucket r b f) :
    Calls Try.prog 15 #[aggB r b f, .int .i64 n] w fun e w' => e = .returned (.tuple #[aggB 0 0 0, .int .i64 1]) ∧ Below w.heap.size w w' := by
  go_enter Try.func15, Try.ntmps15
  go_wp2_with fail
  refine (bucket_Check_bad h).mono ?_; rintro e w1 ⟨rfl, hb⟩
  have B1 := blk_below (blk_alloc (o' := .cells #[.int .i64 0, .int .i64 0, .int .i64 0] 23) (blk_new w #[.int .i64 r, .int .i64 b, .int .i64 f] 23)) hb
  have B2 := blk_below (blk_new (w.alloc (.cells #[.int .i64 r, .int .i64 b, .int .i64 f] 23)) #[.int .i64 0, .int .i64 0, .int .i64 0] 23) hb
  rw [show (w.alloc (.cells #[.int .i64 r, .int .i64 b, .int .i64 f] 23)).heap.size = w.heap.size + 1 by simp] at B2
  obtain ⟨⟨k0, k1, k2⟩, f0, f1, f2⟩ := blk3 B1
  obtain ⟨⟨l0, l1, l2⟩, m0, m1, m2⟩ := blk3 B2
  have HB := Lib.hid ((two_allocs w _ _ _ _).trans (hb.mono (by simp; omega)))
  clear hb B1 B2
  go_wp2
  refine bodyPost_ret (v := .tuple #[aggB 0 0 0, .int .i64 1]) (by simp [results, Try.results15, go_sem, k0, k1, l0, l1, l2]) rfl ⟨rfl, ?_⟩
  exact ((HB.out.setCell (by simp) _).setCell (by simp) _).setCell (by simp) _

set_option maxHeartbeats 1000000 in
theorem bucket_Tick_low {w : World} {r b f n : Int} (h : okBucket r b f) (hn : n < 0) :
    Calls Try.prog 15 #[aggB r b f, .int .i64 n] w fun e w' => e = .returned (.tuple #[aggB 0 0 0, .int .i64 1]) ∧ Below w.heap.size w w' := by
  have h' := Lib.hid h
  obtain ⟨h1, h2, h3, h4, h5, h6⟩ := h
  go_enter Try.func15, Try.ntmps15
  go_wp2_with fail
  refine (bucket_Check_ok h'.out).mono ?_; rintro e w1 ⟨rfl, hb⟩
  have B1 := blk_below (blk_alloc (o' := .cells #[.int .i64 0, .int .i64 0, .int .i64 0] 23) (blk_new w #[.int .i64 r, .int .i64 b, .int .i64 f] 23)) hb
  have B2 := blk_below (blk_new (w.alloc (.cells #[.int .i64 r, .int .i64 b, .int .i64 f] 23)) #[.int .i64 0, .int .i64 0, .int .i64 0] 23) hb
  rw [show (w.alloc (.cells #[.int .i64 r, .int .i64 b, .int .i64 f] 23)).heap.size = w.heap.size + 1 by simp] at B2
  obtain ⟨⟨k0, k1, k2⟩, f0, f1, f2⟩ := blk3 B1
  obtain ⟨⟨l0, l1, l2⟩, m0, m1, m2⟩ := blk3 B2
  have HB := Lib.hid ((two_allocs w _ _ _ _).trans (hb.mono (by simp; omega)))
  clear hb B1 B2
  go_wp2
  refine bodyPost_ret (v := .tuple #[aggB 0 0 0, .int .i64 1]) (by simp [results, Try.results15, go_sem, k0, k1, l0, l1, l2]) rfl ⟨rfl, ?_⟩
  exact ((HB.out.setCell (by simp) _).setCell (by simp) _).setCell (by simp) _

set_option maxHeartbeats 1000000 in
theorem bucket_Tick_high {w : World} {r b f n : Int} (h : okBucket r b f) (hn : 200 < n) :
    Calls Try.prog 15 #[aggB r b f, .int .i64 n] w fun e w' => e = .returned (.tuple #[aggB 0 0 0, .int .i64 1]) ∧ Below w.heap.size w w' := by
  have h' := Lib.hid h
  obtain ⟨h1, h2, h3, h4, h5, h6⟩ := h
  go_enter Try.func15, Try.ntmps15
  go_wp2_with fail
  refine (bucket_Check_ok h'.out).mono ?_; rintro e w1 ⟨rfl, hb⟩
  have B1 := blk_below (blk_alloc (o' := .cells #[.int .i64 0, .int .i64 0, .int .i64 0] 23) (blk_new w #[.int .i64 r, .int .i64 b, .int .i64 f] 23)) hb
  have B2 := blk_below (blk_new (w.alloc (.cells #[.int .i64 r, .int .i64 b, .int .i64 f] 23)) #[.int .i64 0, .int .i64 0, .int .i64 0] 23) hb
  rw [show (w.alloc (.cells #[.int .i64 r, .int .i64 b, .int .i64 f] 23)).heap.size = w.heap.size + 1 by simp] at B2
  obtain ⟨⟨k0, k1, k2⟩, f0, f1, f2⟩ := blk3 B1
  obtain ⟨⟨l0, l1, l2⟩, m0, m1, m2⟩ := blk3 B2
  have HB := Lib.hid ((two_allocs w _ _ _ _).trans (hb.mono (by simp; omega)))
  clear hb B1 B2
  go_wp2
  refine bodyPost_ret (v := .tuple #[aggB 0 0 0, .int .i64 1]) (by simp [results, Try.results15, go_sem, k0, k1, l0, l1, l2]) rfl ⟨rfl, ?_⟩
  exact ((HB.out.setCell (by simp) _).setCell (by simp) _).setCell (by simp) _

set_option maxHeartbeats 1000000 in
theorem bucket_Take_bad {w : World} {r b f n : Int} (h : ¬ okBucket r b f) :
    Calls Try.prog 16 #[aggB r b f, .int .i64 n] w fun e w' => e = .returned (.tuple #[aggB 0 0 0, .int .i64 1]) ∧ Below w.heap.size w w' := by
  go_enter Try.func16, Try.ntmps16
  go_wp2_with fail
  refine (bucket_Check_bad h).mono ?_; rintro e w1 ⟨rfl, hb⟩
  have B1 := blk_below (blk_alloc (o' := .cells #[.int .i64 0, .int .i64 0, .int .i64 0] 23) (blk_new w #[.int .i64 r, .int .i64 b, .int .i64 f] 23)) hb
  have B2 := blk_below (blk_new (w.alloc (.cells #[.int .i64 r, .int .i64 b, .int .i64 f] 23)) #[.int .i64 0, .int .i64 0, .int .i64 0] 23) hb
  rw [show (w.alloc (.cells #[.int .i64 r, .int .i64 b, .int .i64 f] 23)).heap.size = w.heap.size + 1 by simp] at B2
  obtain ⟨⟨k0, k1, k2⟩, f0, f1, f2⟩ := blk3 B1
  obtain ⟨⟨l0, l1, l2⟩, m0, m1, m2⟩ := blk3 B2
  have HB := Lib.hid ((two_allocs w _ _ _ _).trans (hb.mono (by simp; omega)))
  clear hb B1 B2
  go_wp2
  refine bodyPost_ret (v := .tuple #[aggB 0 0 0, .int .i64 1]) (by simp [results, Try.results16, go_sem, k0, k1, l0, l1, l2]) rfl ⟨rfl, ?_⟩
  exact ((HB.out.setCell (by simp) _).setCell (by simp) _).setCell (by simp) _

set_option maxHeartbeats 1000000 in
theorem bucket_Take_low {w : World} {r b f n : Int} (h : okBucket r b f) (hn : n < 0) :
    Calls Try.prog 16 #[aggB r b f, .int .i64 n] w fun e w' => e = .returned (.tuple #[aggB 0 0 0, .int .i64 1]) ∧ Below w.heap.size w w' := by
  have h' := Lib.hid h
  obtain ⟨h1, h2, h3, h4, h5, h6⟩ := h
  go_enter Try.func16, Try.ntmps16
  go_wp2_with fail
  refine (bucket_Check_ok h'.out).mono ?_; rintro e w1 ⟨rfl, hb⟩
  have B1 := blk_below (blk_alloc (o' := .cells #[.int .i64 0, .int .i64 0, .int .i64 0] 23) (blk_new w #[.int .i64 r, .int .i64 b, .int .i64 f] 23)) hb
  have B2 := blk_below (blk_new (w.alloc (.cells #[.int .i64 r, .int .i64 b, .int .i64 f] 23)) #[.int .i64 0, .int .i64 0, .int .i64 0] 23) hb
  rw [show (w.alloc (.cells #[.int .i64 r, .int .i64 b, .int .i64 f] 23)).heap.size = w.heap.size + 1 by simp] at B2
  obtain ⟨⟨k0, k1, k2⟩, f0, f1, f2⟩ := blk3 B1
  obtain ⟨⟨l0, l1, l2⟩, m0, m1, m2⟩ := blk3 B2
  have HB := Lib.hid ((two_allocs w _ _ _ _).trans (hb.mono (by simp; omega)))
  clear hb B1 B2
  go_wp2
  refine bodyPost_ret (v := .tuple #[aggB 0 0 0, .int .i64 1]) (by simp [results, Try.results16, go_sem, k0, k1, l0, l1, l2]) rfl ⟨rfl, ?_⟩
  exact ((HB.out.setCell (by simp) _).setCell (by simp) _).setCell (by simp) _

set_option maxHeartbeats 1000000 in
theorem bucket_Take_full {w : World} {r b f n : Int} (h : okBucket r b f) (hn : 0 ≤ n) (hf : f < n) :
    Calls Try.prog 16 #[aggB r b f, .int .i64 n] w fun e w' => e = .returned (.tuple #[aggB 0 0 0, .int .i64 6]) ∧ Below w.heap.size w w' := by
  have h' := Lib.hid h
  obtain ⟨h1, h2, h3, h4, h5, h6⟩ := h
  go_enter Try.func16, Try.ntmps16
  go_wp2_with fail
  refine (bucket_Check_ok h'.out).mono ?_; rintro e w1 ⟨rfl, hb⟩
  have B1 := blk_below (blk_alloc (o' := .cells #[.int .i64 0, .int .i64 0, .int .i64 0] 23) (blk_new w #[.int .i64 r, .int .i64 b, .int .i64 f] 23)) hb
  have B2 := blk_below (blk_new (w.alloc (.cells #[.int .i64 r, .int .i64 b, .int .i64 f] 23)) #[.int .i64 0, .int .i64 0, .int .i64 0] 23) hb
  rw [show (w.alloc (.cells #[.int .i64 r, .int .i64 b, .int .i64 f] 23)).heap.size = w.heap.size + 1 by simp] at B2
  obtain ⟨⟨k0, k1, k2⟩, f0, f1, f2⟩ := blk3 B1
  obtain ⟨⟨l0, l1, l2⟩, m0, m1, m2⟩ := blk3 B2
  have HB := Lib.hid ((two_allocs w _ _ _ _).trans (hb.mono (by simp; omega)))
  clear hb B1 B2
  go_wp2
  refine bodyPost_ret (v := .tuple #[aggB 0 0 0, .int .i64 6]) (by simp [results, Try.results16, go_sem, k0, k1, l0, l1, l2]) rfl ⟨rfl, ?_⟩
  exact ((HB.out.setCell (by simp) _).setCell (by simp) _).setCell (by simp) _

set_option maxHeartbeats 1000000 in
theorem bucket_Take_ok {w : World} {r b f n : Int} (h : okBucket r b f) (hn : 0 ≤ n) (hf : n ≤ f) :
    Calls Try.prog 16 #[aggB r b f, .int .i64 n] w fun e w' => e = .returned (.tuple #[aggB r b (f - n), .int .i64 0]) ∧ Below w.heap.size w w' := by
  have h' := Lib.hid h
  obtain ⟨h1, h2, h3, h4, h5, h6⟩ := h
  go_enter Try.func16, Try.ntmps16
  go_wp2_with fail
  refine (bucket_Check_ok h'.out).mono ?_; rintro e w1 ⟨rfl, hb⟩
  have B1 := blk_below (blk_alloc (o' := .cells #[.int .i64 0, .int .i64 0, .int .i64 0] 23) (blk_new w #[.int .i64 r, .int .i64 b, .int .i64 f] 23)) hb
  have B2 := blk_below (blk_new (w.alloc (.cells #[.int .i64 r, .int .i64 b, .int .i64 f] 23)) #[.int .i64 0, .int .i64 0, .int .i64 0] 23) hb
  rw [show (w.alloc (.cells #[.int .i64 r, .int .i64 b, .int .i64 f] 23)).heap.size = w.heap.size + 1 by simp] at B2
  obtain ⟨⟨k0, k1, k2⟩, f0, f1, f2⟩ := blk3 B1
  obtain ⟨⟨l0, l1, l2⟩, m0, m1, m2⟩ := blk3 B2
  have HB := Lib.hid ((two_allocs w _ _ _ _).trans (hb.mono (by simp; omega)))
  clear hb B1 B2
  go_wp2
  refine bodyPost_ret (v := .tuple #[aggB r b (f - n), .int .i64 0]) (by simp [results, Try.results16, go_sem, k0, k1, l0, l1, l2]) rfl ⟨rfl, ?_⟩
  exact (((HB.out.setCell (Nat.le_refl _) _).setCell (by simp) _).setCell (by simp) _).setCell (by simp) _
end Go.Proofs.Ytggpcceljipelaa
