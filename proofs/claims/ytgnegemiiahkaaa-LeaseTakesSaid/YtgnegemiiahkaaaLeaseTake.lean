/- The contract of lease.Take (P60). No conditions beyond what each theorem says. -/
import Derived.Test.YtgnegemiiahkaaaLeaseRow
import Derived.Test.YtgnegemiiahkaaaLeaseInsert
namespace Go.Proofs.Ytgnegemiiahkaaa
open Go Go.RowKit
set_option linter.unusedVariables false
set_option linter.unusedSimpArgs false

theorem below_drewN2 {B : Nat} {w w' : World} (s : Nat) (h : Below B (w.drewN s) w') : Below B w w' := (below_drewN (Below.refl B w) s).trans h
def takeL (xs : List (Int × Int × Int)) (x : Int × Int × Int) (i : Nat) : List (Int × Int × Int) := if i < xs.length ∧ t0 xs i = x.1 then xs.set i x else xs.take i ++ x :: xs.drop i

theorem lease_Take_bad1 {w : World} {p : Option Addr} {n c : Nat} {xs : List (Int × Int × Int)} (h : S3 w p n c xs) {er a u v : Int} (he : leaseErr xs = er) (h0 : er ≠ 0) :
    Calls Try.prog 42 #[.slice p n c, aggL a u v] w fun e w' => e = .returned (.tuple #[.slice none 0 0, .int .i64 er]) ∧ Below w.heap.size w w' := by
  have hb := (Below.refl w.heap.size w).alloc (Nat.le_refl _) (boxL a u v)
  have h1 := h.below hb
  have hz : (er == 0) = false := by simp [h0]
  go_enter Try.func42, Try.ntmps42
  go_wp2_with fail
  refine (lease_Check h1 he).mono ?_; rintro e w1 ⟨rfl, b1⟩
  have hb2 := hb.trans (b1.mono hb.size)
  go_wp2
  go_ret2
  exact ⟨rfl, hb2⟩
theorem lease_Take_bad2 {w : World} {p : Option Addr} {n c : Nat} {xs : List (Int × Int × Int)} (h : S3 w p n c xs) {a u v : Int} (he : leaseErr xs = 0) (h0 : ¬ okLs a u v) :
    Calls Try.prog 42 #[.slice p n c, aggL a u v] w fun e w' => e = .returned (.tuple #[.slice none 0 0, .int .i64 1]) ∧ Below w.heap.size w w' := by
  have hb := (Below.refl w.heap.size w).alloc (Nat.le_refl _) (boxL a u v)
  have HX := Lib.hid (blk_new w #[.int .i64 a, .int .i64 u, .int .i64 v] 33)
  have h1 := h.below hb
  have H0 := Lib.hid h0
  clear h0
  go_enter Try.func42, Try.ntmps42
  go_wp2_with fail
  generalize w.alloc (boxL a u v) = W at *
  refine (lease_Check h1 he).mono ?_; rintro e w1 ⟨rfl, b1⟩
  have hb2 := hb.trans (b1.mono hb.size)
  obtain ⟨⟨x0, x1, x2⟩, _⟩ := blk3 (blk_below HX.out b1)
  go_wp2_with fail
  refine (lease_one_bad H0.out).mono ?_; rintro e w2 ⟨rfl, b2⟩
  have hb3 := hb2.trans (b2.mono hb2.size)
  go_wp2
  go_ret2
  exact ⟨rfl, hb3⟩

set_option maxHeartbeats 1600000 in
set_option maxRecDepth 100000 in
theorem lease_Take_ok {w : World} {p : Option Addr} {n c : Nat} {xs : List (Int × Int × Int)} (h : S3 w p n c xs) {a u v : Int} (he : leaseErr xs = 0) (hx : okLs a u v) {i : Nat} (hi : FirstP (fun k => !decide (t0 xs k < a)) n i) {R : List (Int × Int × Int)} (hR : takeL xs (a, u, v) i = R) :
    Calls Try.prog 42 #[.slice p n c, aggL a u v] w fun e w' => ∃ q m d, e = .returned (.tuple #[.slice q m d, .int .i64 0]) ∧ S3 w' q m d R ∧ Below w.heap.size w w' := by
  have hl := h.1
  have h8 := (lease_ok he).2
  rw [hl] at h8
  have hm := h.2.1
  have hb := (Below.refl w.heap.size w).alloc (Nat.le_refl _) (boxL a u v)
  have HX := Lib.hid (blk_new w #[.int .i64 a, .int .i64 u, .int .i64 v] 33)
  have h1 := h.below hb
  have H0 := Lib.hid hx
  have hs0 : w.heap.size < (w.alloc (boxL a u v)).heap.size := by simp
  have HL := Lib.hid hl
  have HR := Lib.hid hR
  obtain ⟨g1, g2, g3⟩ := hi
  have H2 := Lib.hid (fun j (hj : j < i) => show t0 xs j < a by have := g2 j hj; simpa using this)
  have H3 := Lib.hid (fun (hj : i < n) => show ¬ t0 xs i < a by have := g3 hj; simpa using this)
  clear hx hl hR h g2 g3
  go_enter Try.func42, Try.ntmps42
  go_wp2_with fail
  generalize w.alloc (boxL a u v) = W at *
  refine (lease_Check h1 he).mono ?_; rintro e w1 ⟨rfl, b1⟩
  have hb1 := hb.trans (b1.mono hb.size)
  have h2 := h1.below b1
  have hX1 := blk_below HX.out b1
  obtain ⟨⟨x0, x1, x2⟩, _⟩ := blk3 hX1
  clear h1 hb
  go_wp2_with fail
  refine (lease_one_ok H0.out).mono ?_; rintro e w2 ⟨rfl, b2⟩
  have hb2 := hb1.trans (b2.mono hb1.size)
  have h3 := h2.below b2
  have hX2 := blk_below hX1 b2
  clear h2 hb1 x0 x1 x2 hX1 b1
  go_wp2_with fail
  refine (clone_Lease h3 (by omega)).mono ?_; rintro e w3 ⟨q, d, rfl, ho, b3⟩
  have hb3 := hb2.trans (b3.mono hb2.size)
  have hX3 := blk_below hX2 b3
  obtain ⟨⟨x0, x1, x2⟩, _⟩ := blk3 hX3
  have HX3 := Lib.hid hX3
  have hcap := (ho.sr enc3_len).2.1
  have hs3 : w.heap.size < w2.heap.size := (Array.getElem?_eq_some_iff.1 hX2).1
  have hs33 := b3.size
  clear h3 hb2 hX2 hX3 b2 b3
  go_wp2
  go_loopw [9] (fun iv wr => ∃ k : Nat, k ≤ i ∧ iv = .int .i64 k ∧ ∃ s, wr = w3.drewN s) (fun iv _ => n - (intOf iv).toNat)
  case atStart => exact ⟨0, Nat.zero_le _, rfl, 0, rfl⟩
  case round =>
    obtain ⟨k, hk, rfl, s, rfl⟩ := hrel
    by_cases hkn : k < n
    · obtain ⟨g, rfl⟩ := ho.addr (by omega)
      obtain ⟨c0, c1, c2⟩ := cells_L (M := xs) ho hkn rfl
      by_cases hki : k < i
      · have hlt := H2.out k hki
        go_wp2
        go_quiet (fail)
        go_wp2
        go_roundw
        case rel => exact ⟨k + 1, by omega, by go_num, ⟨_, rfl⟩⟩
        case measure => simp [intOf]; omega
      · obtain rfl : i = k := by omega
        have hnl := H3.out hkn
        by_cases heq : t0 xs i = a
        · have hbq : (t0 xs i == a) = true := by simp [heq]
          have HRS := Lib.hid (show xs.set i (a, u, v) = R by rw [← HR.out]; unfold takeL; rw [if_pos ⟨by rw [HL.out]; exact hkn, heq⟩])
          have f0 := ho.free (i * 3); have f1 := ho.free (i * 3 + 1); have f2 := ho.free (i * 3 + 2)
          have hgb := ho.blk
          have hO := fun s : Nat => (show OwnR 33 enc3 3 (w3.drewN s) w2.heap.size (some ⟨g, 0, none⟩) n d xs from ho.drewN s).setEl hkn (a, u, v)
          have hB := fun s : Nat => below_setEl3 (j := i) (x := (a, u, v)) (below_drewN hb3 s) (show w.heap.size ≤ g by omega)
          have HE := Lib.hid heq
          clear heq
          go_wp2
          go_quiet (fail)
          go_wp2
          go_quiet (fail)
          go_wp2
          go_ret2
          exact ⟨_, _, _, rfl, by rw [← HRS.out]; exact ((hO _).sr enc3_len).s3, hB _⟩
        · have hbq : (t0 xs i == a) = false := by simp [heq]
          have HRS := Lib.hid (show xs.take i ++ (a, u, v) :: xs.drop i = R by rw [← HR.out]; unfold takeL; rw [if_neg (fun h => heq h.2)])
          have HIN := fun s : Nat => insert_Lease (w := w3.drewN s) (B := w2.heap.size) (x := (a, u, v)) (i := i) (ho.drewN s) hs33 h8 (by omega)
          have HE := Lib.hid heq
          clear heq
          go_wp2
          go_quiet (fail)
          go_wp2
          go_quiet (fail)
          go_wp2_with fail
          refine (HIN _).mono ?_; rintro e w5 ⟨q', d', rfl, ho5, b5⟩
          have hb5 := hb3.trans ((below_drewN2 _ b5).mono (Nat.le_of_lt hs3))
          have hS5 := (ho5.sr enc3_len).s3
          clear ho5 b5
          go_wp2
          go_ret2
          exact ⟨_, _, _, rfl, by rw [← HRS.out]; exact hS5, hb5⟩
    · obtain rfl : n = i := by omega
      obtain rfl : n = k := by omega
      have HRS := Lib.hid (show xs.take n ++ (a, u, v) :: xs.drop n = R by rw [← HR.out]; unfold takeL; rw [if_neg (fun h => by have := h.1; rw [HL.out] at this; omega)])
      have HIN := fun s : Nat => insert_Lease (w := w3.drewN s) (B := w2.heap.size) (x := (a, u, v)) (i := n) (ho.drewN s) hs33 h8 (Nat.le_refl _)
      go_wp2
      go_quiet (fail)
      go_wp2
      go_quiet (fail)
      go_wp2_with fail
      refine (HIN _).mono ?_; rintro e w5 ⟨q', d', rfl, ho5, b5⟩
      have hb5 := hb3.trans ((below_drewN2 _ b5).mono (Nat.le_of_lt hs3))
      have hS5 := (ho5.sr enc3_len).s3
      clear ho5 b5
      go_wp2
      go_ret2
      exact ⟨_, _, _, rfl, by rw [← HRS.out]; exact hS5, hb5⟩
end Go.Proofs.Ytgnegemiiahkaaa
