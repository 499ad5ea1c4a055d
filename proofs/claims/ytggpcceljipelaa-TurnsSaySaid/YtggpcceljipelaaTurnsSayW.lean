/- The walk of headlaw.TurnsSay: it returns true and changes nothing that was there. No conditions. -/
import Derived.Test.YtggpcceljipelaaTurnsSayC
import Derived.Test.YtggpcceljipelaaEqual
import Derived.Test.YtggpcceljipelaaQuietB
namespace Go.Proofs.Ytggpcceljipelaa
open Go Go.RowKit
set_option linter.unusedVariables false
set_option linter.unusedSimpArgs false

set_option maxRecDepth 100000 in
set_option maxHeartbeats 1600000 in
theorem turnsSay_bad {w : World} {p : Option Addr} {n c : Nat} {r er : Int} {Q : Nat → Int} {F : Nat → Sl} (h : SF w p n c Q F) (he : flowsErr n Q F = er) (h0 : er ≠ 0) :
    Calls Try.prog 14 #[.slice p n c, .int .i64 r] w fun e w' => e = .returned (.bool true) ∧ Below w.heap.size w w' := by
  have hz : (er == 0) = false := by simp [h0]
  have HE := Lib.hid he
  clear he
  go_enter Try.func14, Try.ntmps14
  go_wp2_with fail
  refine (turns_Run_bad h HE.out h0).mono ?_; rintro e w1 ⟨rfl, b1⟩
  go_wp2_with fail
  refine (turns_After_bad (h.below b1) HE.out h0).mono ?_; rintro e w2 ⟨rfl, b2⟩
  have hb2 := b1.trans (b2.mono b1.size)
  go_wp2_with fail
  refine (ref_Flows (h.below hb2) HE.out).mono ?_; rintro e w3 ⟨rfl, b3⟩
  have hb3 := hb2.trans (b3.mono hb2.size)
  go_wp2_with fail
  refine (turns_Check (h.below hb3) HE.out).mono ?_; rintro e w4 ⟨rfl, b4⟩
  have hb4 := hb3.trans (b4.mono hb3.size)
  clear b1 b2 b3 b4 hb2 hb3
  go_wp2
  go_ret
  exact ⟨rfl, hb4⟩

set_option maxRecDepth 100000 in
set_option maxHeartbeats 1600000 in
theorem turnsSay_arg {w : World} {p : Option Addr} {n c : Nat} {r : Int} {Q : Nat → Int} {F : Nat → Sl} (h : SF w p n c Q F) (he : flowsErr n Q F = 0) (h0 : r < 0 ∨ (0 ≤ r ∧ 1000 < r)) :
    Calls Try.prog 14 #[.slice p n c, .int .i64 r] w fun e w' => e = .returned (.bool true) ∧ Below w.heap.size w w' := by
  have HE := Lib.hid he
  have HF := Lib.hid (flows_ok he)
  have H0 := Lib.hid h0
  clear he
  rcases h0 with h0 | ⟨h0, h1⟩
  all_goals
    go_enter Try.func14, Try.ntmps14
    go_wp2_with fail
    refine (turns_Run_ok h HE.out).mono ?_; rintro e w1 ⟨M, q1, m1, d1, hM, rfl, o1, b1⟩
    have HM := Lib.hid hM
    go_wp2_with fail
    refine (turns_After_arg (h.below b1) HE.out H0.out).mono ?_; rintro e w2 ⟨rfl, b2⟩
    have hb2 := b1.trans (b2.mono b1.size)
    have o2 := o1.below b2
    go_wp2_with fail
    refine (ref_Flows (h.below hb2) HE.out).mono ?_; rintro e w3 ⟨rfl, b3⟩
    have hb3 := hb2.trans (b3.mono hb2.size)
    have o3 := o2.below b3
    go_wp2_with fail
    refine (turns_Check (h.below hb3) HE.out).mono ?_; rintro e w4 ⟨rfl, b4⟩
    have hb4 := hb3.trans (b4.mono hb3.size)
    have o4 := o3.below b4
    clear b1 b2 b3 b4 hb2 hb3 hM o1 o2 o3
    go_wp2_with fail
    refine (ref_Order (h.below hb4) HF.out.1 HF.out.2).mono ?_; rintro e w5 ⟨K, q5, m5, d5, hK, rfl, o5, b5⟩
    have hMK := lastM_one hK HM.out
    subst hMK
    have hb5 := hb4.trans (b5.mono hb4.size)
    have s1 := (o4.below b5).sr enc2_len
    have s5 := o5.sr enc2_len
    have hm5 : m5 = m1 := by rw [← s5.1, ← s1.1]
    subst hm5
    have HEQ := Lib.hid (equal_Sent s1 s5)
    clear o4 o5 b5 hb4 s1 s5 hK
    go_wp2_with fail
    refine HEQ.out.mono ?_; rintro e w6 ⟨rfl, b6⟩
    have hb6 := hb5.trans (b6.mono hb5.size)
    go_wp2
    go_ret
    exact ⟨rfl, hb6⟩

set_option maxRecDepth 100000 in
set_option maxHeartbeats 3200000 in
theorem turnsSay_ok {w : World} {p : Option Addr} {n c r : Nat} {Q : Nat → Int} {F : Nat → Sl} (hSL : SF w p n c Q F) (he : flowsErr n Q F = 0) (hr : r ≤ 1000) :
    Calls Try.prog 14 #[.slice p n c, .int .i64 (r : Int)] w fun e w' => e = .returned (.bool true) ∧ Below w.heap.size w w' := by
  have hm := hSL.cap
  have HE := Lib.hid he
  have HF := Lib.hid (flows_ok he)
  have HOK : Hid (OkF n Q (szs F)) := Lib.hid HF.out.2
  have h8 := HF.out.1
  clear he
  go_enter Try.func14, Try.ntmps14
  go_wp2_with fail
  refine (turns_Run_ok hSL HE.out).mono ?_; rintro e w1 ⟨M, q1, m1, d1, hM, rfl, o1, b1⟩
  have HM := Lib.hid hM
  go_wp2_with fail
  refine (turns_After_ok (hSL.below b1) HE.out hr (cf := fun k => cnt Q (szs F) r k) (fun k hk => cnt_is HOK.out hk)).mono ?_; rintro e w2 ⟨q2, d2, rfl, y2, b2⟩
  have hb2 := b1.trans (b2.mono b1.size)
  have o2 := o1.below b2
  have z2 := y2.si
  go_wp2_with fail
  refine (ref_Flows (hSL.below hb2) HE.out).mono ?_; rintro e w3 ⟨rfl, b3⟩
  have hb3 := hb2.trans (b3.mono hb2.size)
  have o3 := o2.below b3
  have z3 := z2.below b3
  go_wp2_with fail
  refine (turns_Check (hSL.below hb3) HE.out).mono ?_; rintro e w4 ⟨rfl, b4⟩
  have hb4 := hb3.trans (b4.mono hb3.size)
  have o4 := o3.below b4
  have z4 := z3.below b4
  clear b1 b2 b3 b4 hb2 hb3 hM o1 o2 o3 y2 z2 z3
  go_wp2_with fail
  refine (ref_Order (hSL.below hb4) HF.out.1 HF.out.2).mono ?_; rintro e w5 ⟨K, q5, m5, d5, hK, rfl, o5, b5⟩
  have hMK := lastM_one hK HM.out
  subst hMK
  have hb5 := hb4.trans (b5.mono hb4.size)
  have s1 := (o4.below b5).sr enc2_len
  have s5 := o5.sr enc2_len
  have z5 := z4.below b5
  have hm5 : m5 = m1 := by rw [← s5.1, ← s1.1]
  subst hm5
  have HEQ := Lib.hid (equal_Sent s1 s5)
  clear o4 o5 b5 hb4 s1 s5 hK z4
  go_wp2_with fail
  refine HEQ.out.mono ?_; rintro e w6 ⟨rfl, b6⟩
  have hb6 := hb5.trans (b6.mono hb5.size)
  have z6 := z5.below b6
  have hs6 := hb6.size
  clear HEQ b6 hb5 z5
  go_wp2
  go_loopw [10, 77] (fun v iv wr => ∃ (k : Nat) (q : Option Addr) (d : Nat), k ≤ n ∧ iv = .int .i64 k ∧ v = .slice q k d ∧ OwnI wr w6.heap.size q k d (tab k fun k => pre (F k).2.2.2 (cnt Q (szs F) r k)) ∧ Below w6.heap.size w6 wr) (fun _ iv _ => n - (intOf iv).toNat)
  case atStart => exact ⟨0, none, 0, Nat.zero_le _, rfl, rfl, OwnI.nil _ _, Below.refl _ _⟩
  case round =>
    obtain ⟨k, q, d, hk, rfl, rfl, ho, hb⟩ := hrel
    have hsz := hb.size
    have hbw := hb6.trans (hb.mono hb6.size)
    by_cases hkn : k < n
    · obtain ⟨lb, lo, rfl, hlt, hc⟩ := (hSL.below hbw).cells (by omega)
      obtain ⟨c0, c1⟩ := hc k hkn
      have hsi := (hSL.below hbw).si k hkn
      obtain ⟨hq, hsz2⟩ := HOK.out k hkn
      have hck := cnt_is HOK.out (m := r) hkn
      have HT := Lib.hid (tab_succ k fun k => pre (F k).2.2.2 (cnt Q (szs F) r k))
      obtain ⟨a, ha⟩ : ∃ a, cnt Q (szs F) r k = a := ⟨_, rfl⟩
      rw [ha] at hck
      simp only [ha] at HT
      unfold szs at hsz2 hck
      obtain ⟨⟨pa, la, ca, xs⟩, hF⟩ : ∃ f, F k = f := ⟨_, rfl⟩
      rw [hF] at c1 hsi hsz2 hck HT
      simp only at c1 hsi hsz2 hck HT
      obtain ⟨qk, hqk⟩ : ∃ qk, Q k = qk := ⟨_, rfl⟩
      rw [hqk] at c0 hq hck
      have hl60 := hsz2.1
      rw [hsi.len] at hl60
      have hal : a ≤ la := by rw [← hsi.len]; exact hck.1
      have hmx := hsi.2.1
      have HBX := Lib.hid (blk_new wr #[.int .i64 qk, .slice pa la ca] 103)
      have hA := (Below.refl wr.heap.size wr).alloc (Nat.le_refl _) (.cells #[.int .i64 qk, .slice pa la ca] 103)
      have hoA := ho.below hA
      have hbA := hb.trans (hA.mono hsz)
      have HSI := Lib.hid (hsi.below hA)
      have hltA : wr.heap.size < (wr.alloc (.cells #[.int .i64 qk, .slice pa la ca] 103)).heap.size := by simp
      have HSZ := Lib.hid hsz2; have HCK := Lib.hid hck
      clear hc hF hqk hsz2 hck hsi ho hb hA ha
      go_wp2
      generalize wr.alloc (.cells #[.int .i64 qk, .slice pa la ca] 103) = W at *
      have bx0 := BelowOf.cell (show W.cell? ⟨wr.heap.size, 0, none⟩ = some (.int .i64 qk) from blk_cell HBX.out 0) hltA
      have bx1 := BelowOf.cell (show W.cell? ⟨wr.heap.size, 1, none⟩ = some (.slice pa la ca) from blk_cell HBX.out 1) hltA
      have hac : (a : Int) ≤ (ca : Int) := by omega
      have hac2 : a ≤ ca := by omega
      have hpn : pa = none → la = 0 := fun e => by
        apply Classical.byContradiction
        intro h0
        obtain ⟨b, off, hp, _⟩ := HSI.out.cells (by omega)
        rw [e] at hp; cases hp
      have HPN := Lib.hid hpn
      clear hpn
      cases pa
      all_goals
        refine wp_region_quiet_below (by kernel_rfl) (by kernel_rfl) ?_
        repeat (quiet_step (exact calls_below (ref_Count (r := r) (HSI.out.below (BelowOf.prop _)) HSZ.out hq (by omega) rfl HCK.out)))
        refine wpQuiet_nil ?_
        intro v hqv
        have hcur : Below W.heap.size W v := by obtain ⟨q, hq2⟩ := hqv; rw [hq2]; exact q.prop
        have hbV := hbA.trans (hcur.mono hbA.size)
        have hoV := hoA.below hcur
        have HSV := Lib.hid (HSI.out.below hcur)
        have hsV := hbV.size
        clear hqv bx0 bx1 hcur hbA hoA
        go_wp2
        go_loopw [13, 88] (fun sv iv wv => ∃ i : Nat, i ≤ a ∧ iv = .int .i64 i ∧ sv = .int .i64 (pre xs i) ∧ wv = v) (fun _ iv _ => a - (intOf iv).toNat)
        case atStart => exact ⟨0, Nat.zero_le _, rfl, rfl, rfl⟩
        case round =>
          obtain ⟨i, hi, rfl, rfl, rfl⟩ := hrel
          have hp := pre_bound HSZ.out (n := i) (by rw [HSV.out.len]; omega)
          by_cases hia : i < a
          · obtain ⟨xb, xo, hpa, hxl, hxc⟩ := HSV.out.cells (by omega)
            have y0 := hxc i (by omega)
            have hz := HSZ.out.2 i (by rw [HSV.out.len]; omega)
            have HP1 : Hid (pre xs (i + 1) = pre xs i + gi xs i) := Lib.hid rfl
            first
              | (cases hpa; done)
              | (obtain rfl := Option.some.inj hpa
                 clear hxc
                 generalize pre xs i = pi at *
                 generalize gi xs i = gv at *
                 go_wp2
                 go_roundw
                 case rel => exact ⟨i + 1, by omega, by go_num, by rw [HP1.out], trivial⟩
                 case measure => simp [intOf]; omega)
          · obtain rfl : a = i := by omega
            generalize pre xs a = pv at *
            go_wp2_with (at_builtin; refine wpL_push_int Try.tyIntsTu rfl rfl (B := w6.heap.size) (W0 := w6) (by first | rfl | simp [Act.eval]) (by first | rfl | simp [Act.eval]) hoV hbV (by omega) hsV ?_; intro p' c' w7 ho7 hb7 hg7 _)
            go_wp2
            go_roundw
            case rel => exact ⟨k + 1, _, _, by omega, by go_num, rfl, by rw [HT.out]; exact ho7, hb7⟩
            case measure => simp [intOf]; omega
    · obtain rfl : n = k := by omega
      have HEQ := Lib.hid (slices_Equal (r := true) (z6.below hb) ho.si (by simp))
      clear ho hb hsz
      go_wp2_with fail
      refine HEQ.out.mono ?_; rintro e w7 ⟨rfl, b7⟩
      have hb7 := hbw.trans (b7.mono hbw.size)
      go_wp2
      go_ret
      exact ⟨rfl, hb7⟩

theorem turnsSay_walk {w : World} {p : Option Addr} {n c : Nat} {r : Int} {Q : Nat → Int} {F : Nat → Sl} (h : SF w p n c Q F) (_ : -9223372036854775808 ≤ r ∧ r ≤ 9223372036854775807) :
    Calls Try.prog 14 #[.slice p n c, .int .i64 r] w fun e w' => e = .returned (.bool true) ∧ Below w.heap.size w w' := by
  by_cases he : flowsErr n Q F = 0
  · by_cases hr : r < 0 ∨ (0 ≤ r ∧ 1000 < r)
    · exact turnsSay_arg h he hr
    · obtain ⟨R, rfl⟩ := Int.eq_ofNat_of_zero_le (show 0 ≤ r by omega)
      exact turnsSay_ok h he (by omega)
  · exact turnsSay_bad h rfl he
end Go.Proofs.Ytggpcceljipelaa
