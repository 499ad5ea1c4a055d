/- The walk of headlaw.LeaseTells: it returns true and changes nothing that was there. No conditions. -/
import Derived.Test.YtgnegemiiahkaaaLeaseRow
namespace Go.Proofs.Ytgnegemiiahkaaa
open Go Go.RowKit
set_option linter.unusedVariables false
set_option linter.unusedSimpArgs false

theorem alive_del {W : World} {a u p now : Int} {b : Nat} (hc : W.cell? ⟨b, 0, none⟩ = some (.int .i64 now)) (hb : b < W.heap.size) :
    Calls Try.prog 56 #[aggL a u p, .pointer (some ⟨b, 0, none⟩)] W fun e w' => e = .returned (.bool (decide (u ≤ now))) ∧ Below W.heap.size W w' := by
  have hb1 := (Below.refl W.heap.size W).alloc (Nat.le_refl _) (boxL a u p)
  have hc1 : (W.alloc (boxL a u p)).cell? ⟨b, 0, none⟩ = some (.int .i64 now) := (bdeep hb1 hb _).trans hc
  have hne : ¬ b = W.heap.size := by omega
  have hne2 : ¬ W.heap.size = b := by omega
  go_enter Try.func56, Try.ntmps56
  go_wp2
  go_ret
  exact ⟨rfl, hb1⟩
set_option maxHeartbeats 800000 in
theorem ref_Alive {w : World} {p : Option Addr} {n c : Nat} {xs : List (Int × Int × Int)} (h : S3 w p n c xs) (hn : n ≤ 8) {now : Int} :
    Calls Try.prog 15 #[.slice p n c, .int .i64 now] w fun e w' => ∃ q m d, e = .returned (.slice q m d) ∧ S3 w' q m d (alive now xs) ∧ Below w.heap.size w w' := by
  have hm := h.2.1
  have hbA := (Below.refl w.heap.size w).alloc (Nat.le_refl _) (.cells #[.int .i64 now] 3)
  have hX := blk_new w #[.int .i64 now] 3
  have hA := h.below hbA
  have hszA : w.heap.size < (w.alloc (.cells #[.int .i64 now] 3)).heap.size := by simp
  have hcA : (w.alloc (.cells #[.int .i64 now] 3)).cell? ⟨w.heap.size, 0, none⟩ = some (.int .i64 now) := by simp only [World.cell?, hX]; rfl
  have HE := Lib.hid (show (xs.filter fun x => !decide (x.2.1 ≤ now)) = alive now xs by
    unfold alive; congr 1; funext x; by_cases h : x.2.1 ≤ now
    · have h2 : ¬ now < x.2.1 := by omega
      simp [h, h2]
    · have h2 : now < x.2.1 := by omega
      simp [h, h2])
  have HCA := Lib.hid hcA
  clear h hX hcA
  go_enter Try.func15, Try.ntmps15
  go_wp2_with fail
  generalize w.alloc (.cells #[.int .i64 now] 3) = W at *
  refine (clone_Lease hA (by omega)).mono ?_; rintro e w1 ⟨q, d, rfl, ho, b1⟩
  have hs1 := b1.size
  go_wp2_with fail
  refine (delete_Lease (del := fun x => decide (x.2.1 ≤ now)) ho hs1 (by omega) (fun args w => by simp [callFunc, Try.func56, Try.f56, go_sem]) fun w' x hb => ?_).mono ?_
  · have hz := hb.size
    exact alive_del ((bdeep (b1.trans hb) hszA _).trans HCA.out) (by omega)
  · rintro e w2 ⟨m, rfl, hS, b2⟩
    have hS2 : S3 w2 q m d (alive now xs) := by rw [← HE.out]; exact hS
    have hbF := hbA.trans ((b1.trans b2).mono (by omega))
    clear hS
    go_wp2
    go_ret
    exact ⟨_, _, _, rfl, hS2, hbF⟩

def PinIs (L : List (Int × Int × Int)) (pv pe : Int) : Prop := (L.length = 0 ∧ pv = 0 ∧ pe = 5) ∨ (0 < L.length ∧ pv = pm 1099511627776 L L.length ∧ pe = 0)
def CutIs (L : List (Int × Int × Int)) (to ce : Int) (y : List (Int × Int × Int)) : Prop :=
  (to < 0 ∧ ce = 1 ∧ y = []) ∨ (0 ≤ to ∧ 1000000 < to ∧ ce = 1 ∧ y = []) ∨ (0 ≤ to ∧ to ≤ 1000000 ∧ pm 1099511627776 L L.length < to ∧ ce = 7 ∧ y = []) ∨ (0 ≤ to ∧ to ≤ 1000000 ∧ to ≤ pm 1099511627776 L L.length ∧ ce = 0 ∧ y = L)
theorem pin_any {w : World} {p : Option Addr} {n c : Nat} {xs : List (Int × Int × Int)} (h : S3 w p n c xs) {now : Int} (he : leaseErr xs = 0) :
    Calls Try.prog 12 #[.slice p n c, .int .i64 now] w fun e w' => ∃ pv pe, e = .returned (.tuple #[.int .i64 pv, .int .i64 pe]) ∧ Hid (PinIs (alive now xs) pv pe) ∧ Below w.heap.size w w' := by
  by_cases h0 : (alive now xs).length = 0
  · refine (lease_Pin_none h he h0).mono ?_; rintro e w' ⟨rfl, b⟩
    exact ⟨_, _, rfl, Lib.hid (.inl ⟨h0, rfl, rfl⟩), b⟩
  · refine (lease_Pin_ok h he h0 rfl).mono ?_; rintro e w' ⟨rfl, b⟩
    exact ⟨_, _, rfl, Lib.hid (.inr ⟨by omega, rfl, rfl⟩), b⟩
theorem cut_any {w : World} {p : Option Addr} {n c : Nat} {xs : List (Int × Int × Int)} (h : S3 w p n c xs) {now to : Int} (he : leaseErr xs = 0) :
    Calls Try.prog 13 #[.slice p n c, .int .i64 now, .int .i64 to] w fun e w' => ∃ q k d ce y, e = .returned (.tuple #[.slice q k d, .int .i64 ce]) ∧ S3 w' q k d y ∧ Hid (CutIs (alive now xs) to ce y) ∧ Below w.heap.size w w' := by
  by_cases h1 : to < 0
  · refine (lease_Cut_arg h he (.inl h1)).mono ?_; rintro e w' ⟨rfl, b⟩
    exact ⟨_, _, _, _, _, rfl, S3.nil0 _, Lib.hid (.inl ⟨h1, rfl, rfl⟩), b⟩
  · by_cases h2 : 1000000 < to
    · refine (lease_Cut_arg h he (.inr h2)).mono ?_; rintro e w' ⟨rfl, b⟩
      exact ⟨_, _, _, _, _, rfl, S3.nil0 _, Lib.hid (.inr (.inl ⟨by omega, h2, rfl, rfl⟩)), b⟩
    · refine (lease_Cut_ok h he (by omega) (by omega)).mono ?_; rintro e w' ⟨g1, g2, b⟩
      by_cases h3 : pm 1099511627776 (alive now xs) (alive now xs).length < to
      · exact ⟨_, _, _, _, _, g1 h3, S3.nil0 _, Lib.hid (.inr (.inr (.inl ⟨by omega, by omega, h3, rfl, rfl⟩))), b⟩
      · obtain ⟨q, m, d, rfl, g⟩ := g2 (by omega)
        exact ⟨_, _, _, _, _, rfl, g, Lib.hid (.inr (.inr (.inr ⟨by omega, by omega, by omega, rfl, rfl⟩))), b⟩

set_option maxHeartbeats 1600000 in
theorem leaseTells_bad {w : World} {p : Option Addr} {n c : Nat} {xs : List (Int × Int × Int)} {now to er : Int} (h : S3 w p n c xs) (he : leaseErr xs = er) (h0 : er ≠ 0) :
    Calls Try.prog 3 #[.slice p n c, .int .i64 now, .int .i64 to] w fun e w' => e = .returned (.bool true) ∧ Below w.heap.size w w' := by
  have hb0 : (er == 0) = false := by simp [h0]
  go_enter Try.func3, Try.ntmps3
  go_wp2_with fail
  refine (lease_Live_bad h he h0).mono ?_; rintro e w1 ⟨rfl, b1⟩
  have B1 := h.below b1
  go_wp2_with fail
  refine (lease_Pin_bad B1 he h0).mono ?_; rintro e w2 ⟨rfl, b2⟩
  have b12 := b1.trans (b2.mono b1.size)
  have B2 := h.below b12
  clear B1 b1 b2
  go_wp2_with fail
  refine (lease_Cut_bad B2 he h0).mono ?_; rintro e w3 ⟨rfl, b3⟩
  have b13 := b12.trans (b3.mono b12.size)
  have B3 := h.below b13
  clear B2 b12 b3
  go_wp2_with fail
  refine (ref_Leases B3 he).mono ?_; rintro e w4 ⟨rfl, b4⟩
  have b14 := b13.trans (b4.mono b13.size)
  clear B3 b13 b4 h
  go_wp2
  go_ret
  exact ⟨rfl, b14⟩

set_option maxHeartbeats 3200000 in
theorem leaseTells_ok {w : World} {p : Option Addr} {n c : Nat} {xs : List (Int × Int × Int)} {now to : Int} (h : S3 w p n c xs) (he : leaseErr xs = 0) :
    Calls Try.prog 3 #[.slice p n c, .int .i64 now, .int .i64 to] w fun e w' => e = .returned (.bool true) ∧ Below w.heap.size w w' := by
  have h8 := (lease_ok he).2
  have hl := h.1
  have ha8 := alive_len now xs
  have LV := fun w' (h : S3 w' p n c xs) => lease_Live_ok (now := now) h he
  have PV := fun w' (h : S3 w' p n c xs) => pin_any (now := now) h he
  have CV := fun w' (h : S3 w' p n c xs) => cut_any (now := now) (to := to) h he
  have AV := fun w' (h : S3 w' p n c xs) => ref_Alive (now := now) h (by omega)
  have HE := Lib.hid he
  obtain ⟨L, hL⟩ : ∃ L, L = alive now xs := ⟨_, rfl⟩
  simp only [← hL] at LV PV CV AV ha8
  have ha : L.length ≤ 8 := by omega
  clear he hL ha8 h8 hl
  go_enter Try.func3, Try.ntmps3
  go_wp2_with fail
  refine (LV _ h).mono ?_; rintro e w1 ⟨q1, m1, d1, rfl, hX, b1⟩
  have B1 := h.below b1
  go_wp2_with fail
  refine (PV _ B1).mono ?_; rintro e w2 ⟨pv, pe, rfl, HP, b2⟩
  have b12 := b1.trans (b2.mono b1.size)
  have hX2 := hX.below b2
  have B2 := h.below b12
  clear B1 b1 b2 hX
  go_wp2_with fail
  refine (CV _ B2).mono ?_; rintro e w3 ⟨q3, m3, d3, ce, y, rfl, hY, HC, b3⟩
  have b13 := b12.trans (b3.mono b12.size)
  have hX3 := hX2.below b3
  have B3 := h.below b13
  clear B2 b12 b3 hX2
  go_wp2_with fail
  refine (ref_Leases B3 HE.out).mono ?_; rintro e w4 ⟨rfl, b4⟩
  have b14 := b13.trans (b4.mono b13.size)
  have hX4 := hX3.below b4
  have hY4 := hY.below b4
  have B4 := h.below b14
  clear B3 b13 b4 h hX3 hY
  go_wp2_with fail
  refine (AV _ B4).mono ?_; rintro e w5 ⟨q5, m5, d5, rfl, hA, b5⟩
  have b15 := b14.trans (b5.mono b14.size)
  have hX5 := hX4.below b5
  have hY5 := hY4.below b5
  clear B4 b14 b5 hX4 hY4
  obtain rfl : L.length = m1 := hX5.1
  obtain rfl : L.length = m5 := hA.1
  go_wp2_with fail
  refine (equal_Lease hX5 hA).mono ?_; rintro e w6 ⟨rfl, b6⟩
  have b16 := b15.trans (b6.mono b15.size)
  have hA6 := hA.below b6
  have hY6 := hY5.below b6
  have hm6 := hA6.2.1
  clear b15 b6 hX5 hA hY5
  go_wp2
  go_loopw [15, 81] (fun v i wr => ∃ k : Nat, k ≤ L.length ∧ i = .int .i64 k ∧ v = .int .i64 (pm 1099511627776 L k) ∧ Below w6.heap.size w6 wr) (fun _ i _ => L.length - (intOf i).toNat)
  case atStart => exact ⟨0, Nat.zero_le _, rfl, rfl, Below.refl _ _⟩
  case round =>
    obtain ⟨k, hk, rfl, rfl, hb⟩ := hrel
    have hsz := hb.size
    by_cases hkn : k < L.length
    · obtain ⟨b, off, rfl, hlt, hc⟩ := hA6.cells (by omega)
      have c0 : wr.cell? ⟨b, off + k * 3, none⟩ = some (.int .i64 (t0 L k)) := (bdeep hb hlt _).trans (hc k hkn).1
      have c1 : wr.cell? ⟨b, off + k * 3 + 1, none⟩ = some (.int .i64 (t1 L k)) := (bdeep hb hlt _).trans (hc k hkn).2.1
      have c2 : wr.cell? ⟨b, off + k * 3 + 2, none⟩ = some (.int .i64 (t2 L k)) := (bdeep hb hlt _).trans (hc k hkn).2.2
      have hbA := hb.alloc hsz (boxL (t0 L k) (t1 L k) (t2 L k))
      have HM := Lib.hid (show pm 1099511627776 L (k + 1) = min (pm 1099511627776 L k) (t2 L k) from rfl)
      generalize hpk : pm 1099511627776 L k = u at *
      clear hpk hb hc
      go_wp2
      all_goals
        go_roundw
        case rel => exact ⟨k + 1, by omega, by go_num, by rw [HM.out]; first | (congr 1; omega) | rfl, hbA⟩
        case measure => simp [intOf]; omega
    · obtain rfl : L.length = k := by omega
      have bF := b16.trans (hb.mono b16.size)
      have hAF := hA6.below hb
      have hYF := hY6.below hb
      clear hA6 hY6 hb b16
      have hp := HP.out
      have hcu := HC.out
      clear HP HC
      unfold PinIs at hp
      unfold CutIs at hcu
      obtain ⟨v, hv⟩ : ∃ v, pm 1099511627776 L L.length = v := ⟨_, rfl⟩
      simp only [hv] at hp hcu ⊢
      have HV := Lib.hid hv
      clear hv
      rcases hp with ⟨hp1, rfl, rfl⟩ | ⟨hp1, rfl, rfl⟩
      · obtain rfl : L = [] := List.eq_nil_of_length_eq_zero hp1
        obtain rfl : v = 1099511627776 := HV.out.symm
        rcases hcu with ⟨hc1, rfl, rfl⟩ | ⟨hc0, hc1, rfl, rfl⟩ | ⟨hc0, hc1, hc2, rfl, rfl⟩ | ⟨hc0, hc1, hc2, rfl, rfl⟩
        · obtain rfl : m3 = 0 := hYF.1.symm
          go_wp2
          go_ret
          exact ⟨rfl, bF⟩
        · obtain rfl : m3 = 0 := hYF.1.symm
          go_wp2
          go_ret
          exact ⟨rfl, bF⟩
        · omega
        · obtain rfl : m3 = 0 := hYF.1.symm
          go_wp2_with fail
          refine (equal_Lease hYF hAF).mono ?_; rintro e w7 ⟨rfl, b7⟩
          have bG := bF.trans (b7.mono bF.size)
          clear hYF hAF
          go_wp2
          go_ret
          exact ⟨rfl, bG⟩
      · have hne : (L.length : Int) ≠ 0 := by omega
        have hne2 : ((L.length : Int) == 0) = false := beq_eq_false_iff_ne.2 hne
        rcases hcu with ⟨hc1, rfl, rfl⟩ | ⟨hc0, hc1, rfl, rfl⟩ | ⟨hc0, hc1, hc2, rfl, rfl⟩ | ⟨hc0, hc1, hc2, rfl, rfl⟩
        · obtain rfl : m3 = 0 := hYF.1.symm
          go_wp2
          go_ret
          exact ⟨rfl, bF⟩
        · obtain rfl : m3 = 0 := hYF.1.symm
          go_wp2
          go_ret
          exact ⟨rfl, bF⟩
        · obtain rfl : m3 = 0 := hYF.1.symm
          go_wp2
          go_ret
          exact ⟨rfl, bF⟩
        · obtain rfl : y.length = m3 := hYF.1
          go_wp2_with fail
          refine (equal_Lease hYF hAF).mono ?_; rintro e w7 ⟨rfl, b7⟩
          have bG := bF.trans (b7.mono bF.size)
          clear hYF hAF
          go_wp2
          go_ret
          exact ⟨rfl, bG⟩
theorem leaseTells_walk {w : World} {p : Option Addr} {n c : Nat} {xs : List (Int × Int × Int)} {now to : Int} (h : S3 w p n c xs) (_ : ∀ j, j < n → (-9223372036854775808 ≤ t0 xs j ∧ t0 xs j ≤ 9223372036854775807) ∧ (-9223372036854775808 ≤ t1 xs j ∧ t1 xs j ≤ 9223372036854775807) ∧ (-9223372036854775808 ≤ t2 xs j ∧ t2 xs j ≤ 9223372036854775807)) (_ : -9223372036854775808 ≤ now ∧ now ≤ 9223372036854775807) (_ : -9223372036854775808 ≤ to ∧ to ≤ 9223372036854775807) :
    Calls Try.prog 3 #[.slice p n c, .int .i64 now, .int .i64 to] w fun e w' => e = .returned (.bool true) ∧ Below w.heap.size w w' := by
  by_cases h0 : leaseErr xs = 0
  · exact leaseTells_ok h h0
  · exact leaseTells_bad h rfl h0
end Go.Proofs.Ytgnegemiiahkaaa
