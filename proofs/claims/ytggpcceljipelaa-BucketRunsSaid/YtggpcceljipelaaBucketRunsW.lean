/- The walk of headlaw.BucketRuns: it returns true and changes nothing that was there. No conditions. -/
import Derived.Test.YtggpcceljipelaaTaken
namespace Go.Proofs.Ytggpcceljipelaa
open Go Go.RowKit
set_option linter.unusedSimpArgs false

theorem S3.lit1 (w : World) (a b c : Int) (T : TypeId) : S3 (w.alloc (.cells #[.int .i64 a, .int .i64 b, .int .i64 c] T)) (some ⟨w.heap.size, 0, none⟩) 1 1 [(a, b, c)] := by
  refine ⟨rfl, by omega, fun _ => ⟨_, 0, rfl, by simp, fun j hj => ?_⟩⟩
  obtain rfl : j = 0 := by omega
  exact ⟨blk_cell (blk_new w _ T) 0, blk_cell (blk_new w _ T) 1, blk_cell (blk_new w _ T) 2⟩
theorem pack_zero : packErr [(0, 0, 0)] = 1 := by decide

set_option maxHeartbeats 1600000 in
theorem bucketRuns_walk {w : World} {r B f : Int} {p : Option Addr} {n c : Nat} {xs : List (Int × Int × Int)} (_ : -9223372036854775808 ≤ r ∧ r ≤ 9223372036854775807) (_ : -9223372036854775808 ≤ B ∧ B ≤ 9223372036854775807) (_ : -9223372036854775808 ≤ f ∧ f ≤ 9223372036854775807) (h : S3 w p n c xs) (_ : ∀ j, j < n → (-9223372036854775808 ≤ t0 xs j ∧ t0 xs j ≤ 9223372036854775807) ∧ (-9223372036854775808 ≤ t1 xs j ∧ t1 xs j ≤ 9223372036854775807) ∧ (-9223372036854775808 ≤ t2 xs j ∧ t2 xs j ≤ 9223372036854775807)) :
    Calls Try.prog 12 #[aggB r B f, .slice p n c] w fun e w' => e = .returned (.bool true) ∧ Below w.heap.size w w' := by
  obtain ⟨er, her⟩ : ∃ er, packErr xs = er := ⟨_, rfl⟩
  have HER := Lib.hid her
  have hm := h.2.1
  clear her
  have A0 := blk_new w #[.int .i64 r, .int .i64 B, .int .i64 f] 23
  have T0 := (Below.refl w.heap.size w).alloc (Nat.le_refl _) (.cells #[.int .i64 r, .int .i64 B, .int .i64 f] 23)
  have hs0 : w.heap.size < (w.alloc (.cells #[.int .i64 r, .int .i64 B, .int .i64 f] 23)).heap.size := by simp
  have h1 := h.below T0
  by_cases hb : okBucket r B f
  · have HOK := Lib.hid hb; clear hb
    by_cases h0 : er = 0
    · subst h0
      go_enter Try.func12, Try.ntmps12
      go_wp2_with fail
      generalize w.alloc (.cells #[.int .i64 r, .int .i64 B, .int .i64 f] 23) = W at *
      refine (bucket_Run_ok h1 HOK.out HER.out).mono ?_; rintro e w1 ⟨q, m, d, L, e1, rfl, ho1, b1, rfl, rfl⟩
      have h2 := h1.below b1
      have T1 := T0.trans (b1.mono T0.size)
      have A1 := blk_below A0 b1
      have hs1 : w.heap.size < w1.heap.size := by have := b1.size; omega
      have HL1 := Lib.hid ho1.len
      have s1 := ho1.sb
      clear T0 A0 h1 h b1 ho1 hs0
      obtain ⟨⟨k0, k1, k2⟩, _⟩ := blk3 A1
      have HA1 := Lib.hid A1; clear A1
      go_wp2_with fail
      refine (bucket_Packets h2 HER.out).mono ?_; rintro e w2 ⟨rfl, b2⟩
      have h3 := h2.below b2; have s2 := s1.below b2
      have T2 := T1.trans (b2.mono T1.size)
      have A2 := blk_below HA1.out b2
      have hs2 : w.heap.size < w2.heap.size := by have := b2.size; omega
      clear h2 s1 b2 T1 HA1 k0 k1 k2
      obtain ⟨⟨k0, k1, k2⟩, _⟩ := blk3 A2
      have HA2 := Lib.hid A2; clear A2
      go_wp2_with fail
      refine (ref_Queue h3 HER.out).mono ?_; rintro e w3 ⟨rfl, b2⟩
      have h4 := h3.below b2; have s3 := s2.below b2
      have T3 := T2.trans (b2.mono T2.size)
      have A3 := blk_below HA2.out b2
      have hs3 : w.heap.size < w3.heap.size := by have := b2.size; omega
      clear h3 s2 b2 T2 HA2 k0 k1 k2
      obtain ⟨⟨k0, k1, k2⟩, _⟩ := blk3 A3
      have HA3 := Lib.hid A3; clear A3
      go_wp2_with fail
      refine (ref_Bucket_ok HOK.out).mono ?_; rintro e w4 ⟨rfl, b2⟩
      have h5 := h4.below b2; have s4 := s3.below b2
      have T4 := T3.trans (b2.mono T3.size)
      have A4 := blk_below HA3.out b2
      have hs4 : w.heap.size < w4.heap.size := by have := b2.size; omega
      clear h4 s3 b2 T3 HA3 k0 k1 k2
      obtain ⟨⟨k0, k1, k2⟩, _⟩ := blk3 A4
      have HA4 := Lib.hid A4; clear A4
      go_wp2_with fail
      refine (ref_Queue h5 HER.out).mono ?_; rintro e w5 ⟨rfl, b2⟩
      have h6 := h5.below b2; have s5 := s4.below b2
      have T5 := T4.trans (b2.mono T4.size)
      have A5 := blk_below HA4.out b2
      have hs5 : w.heap.size < w5.heap.size := by have := b2.size; omega
      clear h5 s4 b2 T4 HA4 k0 k1 k2
      obtain ⟨⟨k0, k1, k2⟩, _⟩ := blk3 A5
      go_wp2_with fail
      refine (ref_Taken h6 HOK.out HER.out).mono ?_; rintro e w6 ⟨q2, d2, rfl, ho2, b2⟩
      have s6 := s5.below b2; have T6 := T5.trans (b2.mono T5.size)
      have s6' := ho2.sb
      clear h6 s5 b2 T5 k0 k1 k2 ho2
      go_wp2_with fail
      refine (slices_EqualB s6 s6' (r := true) (by simp)).mono ?_; rintro e w7 ⟨rfl, b2⟩
      have T7 := T6.trans (b2.mono T6.size)
      have T8 := T7.alloc T7.size (.cells #[.int .i64 0, .int .i64 0, .int .i64 0] 64)
      clear s6 s6' b2 T6
      go_wp2_with fail
      refine (bucket_Packets (S3.lit1 w7 0 0 0 64) pack_zero).mono ?_; rintro e w8 ⟨rfl, b2⟩
      have T9 := T8.trans (b2.mono T8.size)
      go_wp2
      go_ret
      exact ⟨rfl, T9⟩
    · have hz : (er == 0) = false := by simp [h0]
      have hz2 : (er == er) = true := by simp
      go_enter Try.func12, Try.ntmps12
      go_wp2_with fail
      generalize w.alloc (.cells #[.int .i64 r, .int .i64 B, .int .i64 f] 23) = W at *
      refine (bucket_Run_q h1 HOK.out HER.out h0).mono ?_; rintro e w1 ⟨rfl, b1⟩
      have h2 := h1.below b1
      have T1 := T0.trans (b1.mono T0.size)
      have A1 := blk_below A0 b1
      have hs1 : w.heap.size < w1.heap.size := by have := b1.size; omega
      clear T0 A0 h1 h b1 hs0
      obtain ⟨⟨k0, k1, k2⟩, _⟩ := blk3 A1
      have HA1 := Lib.hid A1; clear A1
      go_wp2_with fail
      refine (bucket_Packets h2 HER.out).mono ?_; rintro e w2 ⟨rfl, b2⟩
      have h3 := h2.below b2
      have T2 := T1.trans (b2.mono T1.size)
      have A2 := blk_below HA1.out b2
      have hs2 : w.heap.size < w2.heap.size := by have := b2.size; omega
      clear h2 b2 T1 HA1 k0 k1 k2
      obtain ⟨⟨k0, k1, k2⟩, _⟩ := blk3 A2
      have HA2 := Lib.hid A2; clear A2
      go_wp2_with fail
      refine (ref_Queue h3 HER.out).mono ?_; rintro e w3 ⟨rfl, b2⟩
      have h4 := h3.below b2
      have T3 := T2.trans (b2.mono T2.size)
      have A3 := blk_below HA2.out b2
      have hs3 : w.heap.size < w3.heap.size := by have := b2.size; omega
      clear h3 b2 T2 HA2 k0 k1 k2
      obtain ⟨⟨k0, k1, k2⟩, _⟩ := blk3 A3
      go_wp2_with fail
      refine (ref_Bucket_ok HOK.out).mono ?_; rintro e w4 ⟨rfl, b2⟩
      have h5 := h4.below b2
      have T4 := T3.trans (b2.mono T3.size)
      clear h4 b2 T3 k0 k1 k2
      go_wp2_with fail
      refine (ref_Queue h5 HER.out).mono ?_; rintro e w5 ⟨rfl, b2⟩
      have T5 := T4.trans (b2.mono T4.size)
      go_wp2
      go_ret
      exact ⟨rfl, T5⟩
  · have hz2 : (er == er) = true := by simp
    go_enter Try.func12, Try.ntmps12
    go_wp2_with fail
    generalize w.alloc (.cells #[.int .i64 r, .int .i64 B, .int .i64 f] 23) = W at *
    refine (bucket_Run_b hb).mono ?_; rintro e w1 ⟨rfl, b1⟩
    have h2 := h1.below b1
    have T1 := T0.trans (b1.mono T0.size)
    have A1 := blk_below A0 b1
    have hs1 : w.heap.size < w1.heap.size := by have := b1.size; omega
    clear T0 A0 h1 h b1 hs0
    obtain ⟨⟨k0, k1, k2⟩, _⟩ := blk3 A1
    have HA1 := Lib.hid A1; clear A1
    go_wp2_with fail
    refine (bucket_Packets h2 HER.out).mono ?_; rintro e w2 ⟨rfl, b2⟩
    have h3 := h2.below b2
    have T2 := T1.trans (b2.mono T1.size)
    have A2 := blk_below HA1.out b2
    have hs2 : w.heap.size < w2.heap.size := by have := b2.size; omega
    clear h2 b2 T1 HA1 k0 k1 k2
    obtain ⟨⟨k0, k1, k2⟩, _⟩ := blk3 A2
    have HA2 := Lib.hid A2; clear A2
    go_wp2_with fail
    refine (ref_Queue h3 HER.out).mono ?_; rintro e w3 ⟨rfl, b2⟩
    have T3 := T2.trans (b2.mono T2.size)
    have A3 := blk_below HA2.out b2
    have hs3 : w.heap.size < w3.heap.size := by have := b2.size; omega
    clear h3 b2 T2 HA2 k0 k1 k2
    obtain ⟨⟨k0, k1, k2⟩, _⟩ := blk3 A3
    go_wp2_with fail
    refine (ref_Bucket_bad hb).mono ?_; rintro e w4 ⟨rfl, b2⟩
    have T4 := T3.trans (b2.mono T3.size)
    go_wp2
    go_ret
    exact ⟨rfl, T4⟩
end Go.Proofs.Ytggpcceljipelaa
