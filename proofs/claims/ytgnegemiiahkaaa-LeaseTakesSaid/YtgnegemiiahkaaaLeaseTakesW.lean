/- The walk of headlaw.LeaseTakes: it returns true and changes nothing that was there. No conditions. -/
import Derived.Test.YtgnegemiiahkaaaLeaseTakesL
namespace Go.Proofs.Ytgnegemiiahkaaa
open Go Go.RowKit
set_option linter.unusedVariables false
set_option linter.unusedSimpArgs false

theorem lease_del {W : World} {a u p x : Int} {b : Nat} (hc : W.cell? ⟨b, 0, none⟩ = some (.int .i64 x)) (hb : b < W.heap.size) :
    Calls Try.prog 47 #[aggL a u p, .pointer (some ⟨b, 0, none⟩)] W fun e w' => e = .returned (.bool (a == x)) ∧ Below W.heap.size W w' := by
  have hb1 := (Below.refl W.heap.size W).alloc (Nat.le_refl _) (boxL a u p)
  have hc1 : (W.alloc (boxL a u p)).cell? ⟨b, 0, none⟩ = some (.int .i64 x) := (bdeep hb1 hb _).trans hc
  have hne : ¬ b = W.heap.size := by omega
  have hne2 : ¬ W.heap.size = b := by omega
  go_enter Try.func47, Try.ntmps47
  go_wp2
  go_ret
  exact ⟨rfl, hb1⟩
theorem lit_S3 (W : World) (a u p : Int) : S3 (W.alloc (boxL a u p)) (some ⟨W.heap.size, 0, none⟩) 1 1 [(a, u, p)] := by
  have ho : OwnR 33 enc3 3 (W.alloc (boxL a u p)) W.heap.size (some ⟨W.heap.size, 0, none⟩) 1 1 [(a, u, p)] := ⟨World.ownsRow_lit W #[.int .i64 a, .int .i64 u, .int .i64 p] 1 (Nat.le_refl _) (by unfold maxLen; omega) rfl, rfl⟩
  exact (ho.sr enc3_len).s3
theorem FirstP.cast {f : Nat → Bool} {n m i : Nat} (h : FirstP f n i) (e : n = m) : FirstP f m i := e ▸ h

set_option maxRecDepth 100000 in
set_option maxHeartbeats 1600000 in
theorem leaseTakes_bad1 {w : World} {p : Option Addr} {n c : Nat} {xs : List T3} {a u v er : Int} (h : S3 w p n c xs) (he : leaseErr xs = er) (h0 : er ≠ 0) :
    Calls Try.prog 8 #[.slice p n c, aggL a u v] w fun e w' => e = .returned (.bool true) ∧ Below w.heap.size w w' := by
  have hb := (Below.refl w.heap.size w).alloc (Nat.le_refl _) (boxL a u v)
  have h1 := h.below hb
  have hz : (er == 0) = false := by simp [h0]
  have HE := Lib.hid he
  clear he h
  go_enter Try.func8, Try.ntmps8
  go_wp2_with fail
  generalize w.alloc (boxL a u v) = W at *
  refine (lease_Take_bad1 h1 HE.out h0).mono ?_; rintro e w1 ⟨rfl, b1⟩
  have h2 := h1.below b1
  have hb1 := hb.trans (b1.mono hb.size)
  go_wp2_with fail
  refine (ref_Leases h2 HE.out).mono ?_; rintro e w2 ⟨rfl, b2⟩
  have h3 := h2.below b2
  have hb2 := hb1.trans (b2.mono hb1.size)
  go_wp2_with fail
  refine (lease_Check h3 HE.out).mono ?_; rintro e w3 ⟨rfl, b3⟩
  have hb3 := hb2.trans (b3.mono hb2.size)
  have hb3A := hb3.alloc hb3.size (boxL 8 0 0)
  clear h1 h2 h3 b1 b2 b3 hb hb1 hb2
  go_wp2_with fail
  refine (lease_Check (lit_S3 w3 8 0 0) bad_lit).mono ?_; rintro e w4 ⟨rfl, b4⟩
  have hb4 := hb3A.trans (b4.mono hb3A.size)
  go_wp2
  go_ret
  exact ⟨rfl, hb4⟩

set_option maxRecDepth 100000 in
set_option maxHeartbeats 1600000 in
theorem leaseTakes_bad2 {w : World} {p : Option Addr} {n c : Nat} {xs : List T3} {a u v : Int} (h : S3 w p n c xs) (he : leaseErr xs = 0) (h0 : ¬ okLs a u v) :
    Calls Try.prog 8 #[.slice p n c, aggL a u v] w fun e w' => e = .returned (.bool true) ∧ Below w.heap.size w w' := by
  have hb := (Below.refl w.heap.size w).alloc (Nat.le_refl _) (boxL a u v)
  have HX := Lib.hid (blk_new w #[.int .i64 a, .int .i64 u, .int .i64 v] 33)
  have h1 := h.below hb
  have HE := Lib.hid he
  have H0 := Lib.hid h0
  clear he h h0
  go_enter Try.func8, Try.ntmps8
  go_wp2_with fail
  generalize w.alloc (boxL a u v) = W at *
  refine (lease_Take_bad2 h1 HE.out H0.out).mono ?_; rintro e w1 ⟨rfl, b1⟩
  have h2 := h1.below b1
  have hb1 := hb.trans (b1.mono hb.size)
  have HX1 := Lib.hid (blk_below HX.out b1)
  go_wp2_with fail
  refine (ref_Leases h2 HE.out).mono ?_; rintro e w2 ⟨rfl, b2⟩
  have h3 := h2.below b2
  have hb2 := hb1.trans (b2.mono hb1.size)
  have HX2 := Lib.hid (blk_below HX1.out b2)
  go_wp2_with fail
  refine (lease_Check h3 HE.out).mono ?_; rintro e w3 ⟨rfl, b3⟩
  have hb3 := hb2.trans (b3.mono hb2.size)
  have HX3 := Lib.hid (blk_alloc (o' := boxL 8 0 0) (blk_below HX2.out b3))
  have hb3A := hb3.alloc hb3.size (boxL 8 0 0)
  clear h1 h2 h3 b1 b2 b3 hb hb1 hb2 HX HX1 HX2
  go_wp2_with fail
  refine (lease_Check (lit_S3 w3 8 0 0) bad_lit).mono ?_; rintro e w4 ⟨rfl, b4⟩
  have hb4 := hb3A.trans (b4.mono hb3A.size)
  obtain ⟨⟨x0, x1, x2⟩, _⟩ := blk3 (blk_below HX3.out b4)
  go_wp2_with fail
  refine (ref_Lease_bad H0.out).mono ?_; rintro e w5 ⟨rfl, b5⟩
  have hb5 := hb4.trans (b5.mono hb4.size)
  go_wp2
  go_ret
  exact ⟨rfl, hb5⟩

set_option maxRecDepth 100000 in
set_option maxHeartbeats 3200000 in
theorem leaseTakes_ok {w : World} {p : Option Addr} {n c : Nat} {xs : List T3} {a u v : Int} (h : S3 w p n c xs) (he : leaseErr xs = 0) (h0 : okLs a u v) :
    Calls Try.prog 8 #[.slice p n c, aggL a u v] w fun e w' => e = .returned (.bool true) ∧ Below w.heap.size w w' := by
  have hl := h.1
  have hb := (Below.refl w.heap.size w).alloc (Nat.le_refl _) (boxL a u v)
  have HX := Lib.hid (blk_new w #[.int .i64 a, .int .i64 u, .int .i64 v] 33)
  have h1 := h.below hb
  have h8 := (lease_ok he).2
  rw [hl] at h8
  obtain ⟨i, hi⟩ := firstP_exists (fun k => !decide (t0 xs k < a)) n
  obtain ⟨P, S, hcut⟩ := takes_cuts (x := (a, u, v)) he (hi.cast hl.symm)
  obtain ⟨A, hA⟩ : ∃ A, (xs.filter fun y => !(y.1 == a)) = A := ⟨_, rfl⟩
  obtain ⟨f1, f2, f3, f4, f5⟩ := filt_facts (x := (a, u, v)) he hA
  obtain ⟨R, hR⟩ : ∃ R, takeL xs (a, u, v) i = R := ⟨_, rfl⟩
  rw [hA, hR] at hcut
  have hx7 : 0 ≤ a ∧ a ≤ 7 := by unfold okLs at h0; omega
  have HI := Lib.hid hi
  have HE := Lib.hid he; have H0 := Lib.hid h0; have HA := Lib.hid hA; have HR := Lib.hid hR; have HC := Lib.hid hcut
  have F1 := Lib.hid f1; have F2 := Lib.hid f2; have F3 := Lib.hid f3; have F4 := Lib.hid f4
  clear he h h0 hl hi hA hR hcut f1 f2 f3 f4
  go_enter Try.func8, Try.ntmps8
  go_wp2_with fail
  generalize w.alloc (boxL a u v) = W at *
  refine (lease_Take_ok h1 HE.out H0.out HI.out HR.out).mono ?_; rintro e w1 ⟨qy, my, dy, rfl, sy1, b1⟩
  have h2 := h1.below b1
  have hb1 := hb.trans (b1.mono hb.size)
  have HX1 := Lib.hid (blk_below HX.out b1)
  go_wp2_with fail
  refine (ref_Leases h2 HE.out).mono ?_; rintro e w2 ⟨rfl, b2⟩
  have h3 := h2.below b2
  have hb2 := hb1.trans (b2.mono hb1.size)
  have HX2 := Lib.hid (blk_below HX1.out b2)
  have sy2 := sy1.below b2
  clear h1 h2 b1 b2 hb hb1 HX HX1 sy1
  go_wp2_with fail
  refine (lease_Check h3 HE.out).mono ?_; rintro e w3 ⟨rfl, b3⟩
  have hb3 := hb2.trans (b3.mono hb2.size)
  have HX3 := Lib.hid (blk_alloc (o' := boxL 8 0 0) (blk_below HX2.out b3))
  have hb3A := hb3.alloc hb3.size (boxL 8 0 0)
  have bA := (Below.refl w3.heap.size w3).alloc (Nat.le_refl _) (boxL 8 0 0)
  have h4 := (h3.below b3).below bA
  have sy3 := (sy2.below b3).below bA
  clear h3 b3 hb2 HX2 sy2 bA hb3
  go_wp2_with fail
  refine (lease_Check (lit_S3 w3 8 0 0) bad_lit).mono ?_; rintro e w4 ⟨rfl, b4⟩
  have hb4 := hb3A.trans (b4.mono hb3A.size)
  have h5 := h4.below b4
  have sy4 := sy3.below b4
  have HX4 := Lib.hid (blk_below HX3.out b4)
  obtain ⟨⟨x0, x1, x2⟩, _⟩ := blk3 HX4.out
  clear h4 b4 hb3A sy3 HX3
  go_wp2_with fail
  refine (ref_Lease_ok H0.out).mono ?_; rintro e w5 ⟨rfl, b5⟩
  have hb5 := hb4.trans (b5.mono hb4.size)
  have h6 := h5.below b5
  have sy5 := sy4.below b5
  have HX5 := Lib.hid (blk_below HX4.out b5)
  clear h5 b5 hb4 sy4 HX4 x0 x1 x2
  go_wp2_with fail
  refine (clone_Lease h6 (by omega)).mono ?_; rintro e w6 ⟨q, d, rfl, ho, b6⟩
  have HX6 := Lib.hid (blk_below HX5.out b6)
  have hs6 := b6.size
  have hlt5 : w.heap.size < w5.heap.size := (Array.getElem?_eq_some_iff.1 HX5.out).1
  clear h6
  go_wp2_with fail
  refine (delete_LeaseR (del := fun y => y.1 == a) ho hs6 (by omega) (fun args w => by simp [callFunc, Try.func47, Try.f47, go_sem]) fun w' y hb => ?_).mono ?_
  · have hz := hb.size
    obtain ⟨⟨x0, _, _⟩, _⟩ := blk3 HX6.out
    exact lease_del ((bdeep hb hlt5 _).trans x0) (by omega)
  · rintro e w7 ⟨m, rfl, ho7, b7⟩
    rw [HA.out] at ho7
    have B57 := b6.trans b7
    have HM5 : Hid (m = A.length) := Lib.hid ho7.len.symm
    have hs7 := B57.size
    obtain ⟨⟨x0, x1, x2⟩, _⟩ := blk3 (blk_below HX5.out B57)
    have hm8 : m < 1000000 := by have := HM5.out; omega
    clear b6 b7 HX6 ho hs6
    go_wp2_with (at_builtin; refine wpL_push_R Try.tyLeases rfl (by omega) (by omega) enc3_len enc3_one rfl (B := w5.heap.size) (W0 := w5) rfl (a, u, v) (by first | rfl | simp [Act.eval]) (by first | rfl | simp [Act.eval]) ho7 B57 (by omega) hs7 ?_; intro q8 d8 w8 ho8 hb8 hg8 ha8)
    obtain ⟨g8, rfl, _⟩ := ha8
    have hm5 := HM5.out
    have hpt := push_tab A (a, u, v)
    rw [← hm5] at hpt
    rw [hpt] at ho8
    have HS := Lib.hid (sort_Lease (n := m) (N := m + 1) (x := (a, u, v)) (fun k hk => F1.out k (by omega)) hx7 (fun k j h1 h2 => F2.out k j h1 (by omega)) (fun k hk => F3.out k (by omega)) (fun k hk => F4.out k (by omega)) (by omega) ⟨Nat.le_refl _, Nat.le_refl _⟩ hb8.size ho8)
    clear ho7 ho8 hg8 hpt hm5
    go_wp2_with fail
    refine HS.out.mono ?_; rintro e w9 ⟨rfl, j, hj, hF, ho9, b9⟩
    have B59 := hb8.trans b9
    have hm5 := HM5.out
    have hRA := cuts_place HC.out (j := j) (by rw [← hm5]; exact hj) (by rw [← hm5]; exact hF)
    rw [← hm5] at hRA
    rw [hRA] at ho9
    have sA := (ho9.sr enc3_len).s3
    have sy9 := sy5.below B59
    have hmy : my = m + 1 := by rw [← sy9.1]; exact sA.1
    subst hmy
    have HEQ := Lib.hid (equal_Lease sy9 sA)
    have hb9 := hb5.trans (B59.mono hb5.size)
    clear sy9 sA ho9 hRA HS b9 hm5
    go_wp2_with fail
    refine HEQ.out.mono ?_; rintro e w10 ⟨rfl, b10⟩
    have hb10 := hb9.trans (b10.mono hb9.size)
    go_wp2
    go_ret
    exact ⟨rfl, hb10⟩

theorem leaseTakes_walk {w : World} {p : Option Addr} {n c : Nat} {xs : List T3} {a u v : Int} (h : S3 w p n c xs) (_ : ∀ j, j < n → (-9223372036854775808 ≤ t0 xs j ∧ t0 xs j ≤ 9223372036854775807) ∧ (-9223372036854775808 ≤ t1 xs j ∧ t1 xs j ≤ 9223372036854775807) ∧ (-9223372036854775808 ≤ t2 xs j ∧ t2 xs j ≤ 9223372036854775807)) (_ : -9223372036854775808 ≤ a ∧ a ≤ 9223372036854775807) (_ : -9223372036854775808 ≤ u ∧ u ≤ 9223372036854775807) (_ : -9223372036854775808 ≤ v ∧ v ≤ 9223372036854775807) :
    Calls Try.prog 8 #[.slice p n c, aggL a u v] w fun e w' => e = .returned (.bool true) ∧ Below w.heap.size w w' := by
  by_cases h0 : leaseErr xs = 0
  · by_cases h1 : okLs a u v
    · exact leaseTakes_ok h h0 h1
    · exact leaseTakes_bad2 h h0 h1
  · exact leaseTakes_bad1 h rfl h0
end Go.Proofs.Ytgnegemiiahkaaa
