/- The walk of headlaw.LineSays: it returns true and changes nothing that was there. No conditions. -/
import Derived.Test.YtjlfefaifeanmaaGoes
import Derived.Test.YtjlfefaifeanmaaEqual
namespace Go.Proofs.Ytjlfefaifeanmaa
open Go Go.RowKit

set_option maxHeartbeats 400000 in
theorem lineSays_bad {w : World} {p : Option Addr} {n c : Nat} {xs : List Int} {r er : Int} (h : SI w p n c xs) (he : lineErr xs r = er) (h0 : er ≠ 0) :
    Calls Try.prog 11 #[.slice p n c, .int .i64 r] w fun e w' => e = .returned (.bool true) ∧ Below w.heap.size w w' := by
  have hb := bne_false_of h0
  have HE := Lib.hid he; clear he
  go_enter Try.func11, Try.ntmps11
  go_wp2_with fail
  refine (line_Run_bad h HE.out h0).mono ?_; rintro e w' ⟨rfl, rfl⟩
  go_wp2_with fail
  refine (line_Busy_bad h HE.out h0).mono ?_; rintro e w' ⟨rfl, rfl⟩
  go_wp2_with fail
  refine (law_rated h HE.out).mono ?_; rintro e w1 ⟨rfl, hb1⟩
  go_wp2
  go_ret
  exact ⟨rfl, hb1⟩

set_option maxHeartbeats 1600000 in
theorem lineSays_ok {w : World} {p : Option Addr} {n c : Nat} {xs : List Int} {r : Int} (h : SI w p n c xs) (he : lineErr xs r = 0) :
    Calls Try.prog 11 #[.slice p n c, .int .i64 r] w fun e w' => e = .returned (.bool true) ∧ Below w.heap.size w w' := by
  have hl := h.1
  obtain ⟨ht, hr0, hr1⟩ := line_ok he
  obtain ⟨h60, hok⟩ := trace_ok ht
  have hbd : ∀ j, j < n → 0 ≤ gi xs j ∧ gi xs j ≤ 1000000 := by rw [← hl]; intro j hj; have := hok j hj; omega
  rw [hl] at h60
  have HL := Lib.hid hl; have HE := Lib.hid he; have HBD := Lib.hid hbd
  clear hl ht hok he hbd
  go_enter Try.func11, Try.ntmps11
  go_wp2_with fail
  refine (line_Run_ok h HE.out).mono ?_; rintro e w1 ⟨p1, n1, c1, L1, p2, n2, c2, L2, er, rfl, ho1, ho2, hb1, rfl, rfl, rfl⟩
  have hn1 := ho1.len; have hn2 := ho2.len
  unfold goesL at hn1; unfold waitL at hn2
  rw [tab_length, HL.out] at hn1 hn2
  subst hn1; subst hn2
  have s1 := ho1.si; have s2 := ho2.si
  clear ho1 ho2
  have h1 := h.below hb1
  go_wp2_with fail
  refine (line_Busy_ok h1 HE.out).mono ?_; rintro e w2 ⟨rfl, hb12⟩
  have h2 := h1.below hb12; have s1 := s1.below hb12; have s2 := s2.below hb12
  have hb2 := hb1.trans (hb12.mono hb1.size)
  clear hb1 hb12 h1 h
  go_wp2_with fail
  refine (law_rated h2 HE.out).mono ?_; rintro e w3 ⟨rfl, hb23⟩
  have h3 := h2.below hb23; have s1 := s1.below hb23; have s2 := s2.below hb23
  have hb3 := hb2.trans (hb23.mono hb2.size)
  clear hb2 hb23 h2
  go_wp2_with fail
  refine (ref_Waits h3 (by omega) HBD.out hr0 hr1).mono ?_; rintro e w4 ⟨p4, n4, c4, rfl, ho4, hb34⟩
  have h4 := h3.below hb34; have s1 := s1.below hb34; have s2 := s2.below hb34
  have hb4 := hb3.trans (hb34.mono hb3.size)
  have hn4 := ho4.len
  have hw4 := ho4.si
  unfold waitL at hn4
  rw [tab_length, HL.out] at hn4
  subst hn4
  clear hb3 hb34 h3 ho4
  have hws := hw4
  unfold waitL at hws
  rw [HL.out] at hws
  obtain ⟨bv, hbv⟩ : ∃ bv, busyV xs r = bv := ⟨_, rfl⟩
  have HBV := Lib.hid hbv
  rw [hbv]
  clear hbv
  go_wp2
  go_loop [12, 60] (fun a i => ∃ k : Nat, k ≤ n ∧ i = .int .i64 k ∧ a = .int .i64 (mxf 0 (fun i => (rl (fun k => lq (gi xs) r 0 (k + 1)) i (n - i) : Int)) k)) (fun _ i => n - (intOf i).toNat)
  case atStart => exact ⟨0, by omega, rfl, rfl⟩
  case round =>
    obtain ⟨k, hk, rfl, rfl⟩ := hrel
    by_cases hkn : k < n
    · have HST := Lib.hid (mxf_succ 0 (fun i => (rl (fun k => lq (gi xs) r 0 (k + 1)) i (n - i) : Int)) k)
      have hmx : 0 ≤ mxf 0 (fun i => (rl (fun k => lq (gi xs) r 0 (k + 1)) i (n - i) : Int)) k ∧ mxf 0 (fun i => (rl (fun k => lq (gi xs) r 0 (k + 1)) i (n - i) : Int)) k ≤ 1000 := by
        refine ⟨mxf_ge.1, mxf_le (by omega) fun u hu => ?_⟩
        have := (rl_le (fun k => lq (gi xs) r 0 (k + 1)) (n - u) u).1
        exact Int.ofNat_le.2 (show _ ≤ 1000 by omega)
      generalize mxf 0 (fun i => (rl (fun k => lq (gi xs) r 0 (k + 1)) i (n - i) : Int)) k = mv at *
      go_wp2
      go_loop [14] (fun v => ∃ m : Nat, k + m ≤ n ∧ v = .int .i64 ((k : Int) + m) ∧ Hid (rl (fun k => lq (gi xs) r 0 (k + 1)) k (n - k) = rl (fun k => lq (gi xs) r 0 (k + 1)) (k + m) (n - (k + m)) + m)) (fun v => n - (intOf v).toNat)
      case atStart => exact ⟨0, by omega, by simp, Lib.hid (by simp)⟩
      case round =>
        obtain ⟨m, hm, rfl, HM⟩ := hrel
        by_cases hkm : k + m < n
        · obtain ⟨b', off', rfl, hlt', hc'⟩ := hws.cells (by omega)
          have c2 : w4.cell? ⟨b', off' + (k + m), none⟩ = some (.int .i64 (lq (gi xs) r 0 (k + m + 1))) := (hc' _ hkm).trans (by rw [gi_tab hkm])
          have HR := Lib.hid (show rl (fun k => lq (gi xs) r 0 (k + 1)) (k + m) (n - (k + m)) = if 0 < lq (gi xs) r 0 (k + m + 1) then rl (fun k => lq (gi xs) r 0 (k + 1)) (k + m + 1) (n - (k + m) - 1) + 1 else 0 by
            obtain ⟨t, ht⟩ : ∃ t, n - (k + m) = t + 1 := ⟨n - (k + m) - 1, by omega⟩
            rw [ht]; rfl)
          have g1 : decide ((k : Int) + (m : Int) < (n : Int)) = true := by simp; omega
          have g2 : (k : Int) + (m : Int) < (n : Int) := by omega
          have g3 : 0 ≤ (k : Int) + (m : Int) := by omega
          have g4 : ((k : Int) + (m : Int)).toNat = k + m := by omega
          clear hc' hws hw4
          by_cases hq : 0 < lq (gi xs) r 0 (k + m + 1)
          · go_wp2
            go_round
            case rel => exact ⟨m + 1, by omega, by go_num, Lib.hid (by rw [HM.out, HR.out, if_pos hq]; rw [show n - (k + m) - 1 = n - (k + (m + 1)) by omega, show k + m + 1 = k + (m + 1) by omega]; omega)⟩
            case measure => simp [intOf]; omega
          · have HMM : Hid (rl (fun k => lq (gi xs) r 0 (k + 1)) k (n - k) = m) := Lib.hid (by rw [HM.out, HR.out, if_neg hq, Nat.zero_add])
            go_wp2
            all_goals
              go_round
              case rel => exact ⟨k + 1, by omega, by go_num, by rw [HST.out, HMM.out]; congr 1; omega⟩
              case measure => simp [intOf]; omega
        · obtain rfl : n = k + m := by omega
          have HMM : Hid (rl (fun k => lq (gi xs) r 0 (k + 1)) k (k + m - k) = m) := Lib.hid (by rw [HM.out, Nat.sub_self]; simp [rl])
          have g1 : decide ((k : Int) + (m : Int) < ((k + m : Nat) : Int)) = false := by simp
          have g2 : ¬ (k : Int) + (m : Int) < ((k + m : Nat) : Int) := by omega
          go_wp2
          all_goals
            go_round
            case rel => exact ⟨k + 1, by omega, by go_num, by rw [HST.out, HMM.out]; congr 1; omega⟩
            case measure => simp [intOf]; omega
    · obtain rfl : n = k := by omega
      have HBB := Lib.hid (show mxf 0 (fun i => (rl (fun k => lq (gi xs) r 0 (k + 1)) i (n - i) : Int)) n = (bv : Int) by rw [busy_same, ← HBV.out]; unfold busyV; rw [HL.out])
      rw [HBB.out]
      go_wp2_with fail
      refine (ref_Goes h4 (by omega) HBD.out hr0 hr1).mono ?_; rintro e w5 ⟨p5, n5, c5, rfl, ho5, hb45⟩
      have s1 := s1.below hb45; have s2 := s2.below hb45; have s5 := hw4.below hb45
      have hb5 := hb4.trans (hb45.mono hb4.size)
      have s6 := ho5.si
      clear hb4 hb45 ho5 hws hw4
      go_wp2_with fail
      refine (slices_Equal s1 s6 (r := true) (by simp)).mono ?_; rintro e w6 ⟨rfl, hb56⟩
      have s2 := s2.below hb56; have s5 := s5.below hb56
      have hb6 := hb5.trans (hb56.mono hb5.size)
      clear hb5 hb56
      go_wp2_with fail
      refine (slices_Equal s2 s5 (r := true) (by simp)).mono ?_; rintro e w7 ⟨rfl, hb67⟩
      have hb7 := hb6.trans (hb67.mono hb6.size)
      go_wp2
      go_ret
      exact ⟨rfl, hb7⟩

theorem lineSays_walk {w : World} {p : Option Addr} {n c : Nat} {xs : List Int} (h : SI w p n c xs) {r : Int} (_ : -9223372036854775808 ≤ r ∧ r ≤ 9223372036854775807) :
    Calls Try.prog 11 #[.slice p n c, .int .i64 r] w fun e w' => e = .returned (.bool true) ∧ Below w.heap.size w w' := by
  by_cases he : lineErr xs r = 0
  · exact lineSays_ok h he
  · exact lineSays_bad h rfl he
end Go.Proofs.Ytjlfefaifeanmaa
