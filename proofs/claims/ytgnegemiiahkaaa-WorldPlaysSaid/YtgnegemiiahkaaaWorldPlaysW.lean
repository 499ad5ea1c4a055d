/- The walk of headlaw.WorldPlays: it returns true and changes nothing that was there. No conditions. -/
import Derived.Test.YtgnegemiiahkaaaWorldRef
import Derived.Test.YtgnegemiiahkaaaWorldRef2
import Derived.Test.YtgnegemiiahkaaaRepeatP
import Derived.Test.YtgnegemiiahkaaaOpen2
import Derived.Deep.RegionLaw
namespace Go.Proofs.Ytgnegemiiahkaaa
open Go Go.RowKit
set_option linter.unusedVariables false
set_option linter.unusedSimpArgs false

theorem WorldAt.base {w : World} {T : TypeId} {B B' g h : Nat} {rate unit : Int} {n : Nat} {L : List Peer} {turn : Nat} (k : WorldAt w T B g h rate unit n L turn) (hB : B' ≤ B) : WorldAt w T B' g h rate unit n L turn :=
  ⟨k.box, k.own.base hB, Nat.le_trans hB k.bg, k.ne⟩
theorem play_good (n : Nat) : GoodL (tab n fun _ => (0, 0, true)) := by
  intro k hk
  rw [tab_length] at hk
  rw [ge_tab hk]
  exact ⟨Int.le_refl _, .inr ⟨rfl, rfl⟩, rfl, by omega⟩

set_option maxRecDepth 100000 in
set_option maxHeartbeats 3200000 in
theorem worldPlays_bad {w : World} {n rate unit : Int} {p : Option Addr} {m k : Nat} (h : n < 1 ∨ (1 ≤ n ∧ 8 < n) ∨ (1 ≤ n ∧ n ≤ 8 ∧ rate < 0) ∨ (1 ≤ n ∧ n ≤ 8 ∧ 0 ≤ rate ∧ 1000 < rate) ∨ (1 ≤ n ∧ n ≤ 8 ∧ 0 ≤ rate ∧ rate ≤ 1000 ∧ unit < 1) ∨ (1 ≤ n ∧ n ≤ 8 ∧ 0 ≤ rate ∧ rate ≤ 1000 ∧ 1 ≤ unit ∧ 1000 < unit)) :
    Calls Try.prog 5 #[.int .i64 n, .int .i64 rate, .int .i64 unit, .slice p m k] w fun e w' => e = .returned (.bool true) ∧ Below w.heap.size w w' := by
  have HH := Lib.hid h
  clear h
  go_enter Try.func5, Try.ntmps5
  go_wp2_with fail
  refine (world_New_bad HH.out).mono ?_; rintro e w1 ⟨rfl, rfl⟩
  rcases HH.out with h | ⟨h1, h2⟩ | ⟨h1, h2, h3⟩ | ⟨h1, h2, h3, h4⟩ | ⟨h1, h2, h3, h4, h5⟩ | ⟨h1, h2, h3, h4, h5, h6⟩
  all_goals
    go_wp2
    go_ret
    exact ⟨rfl, Below.refl _ _⟩

set_option maxRecDepth 100000 in
set_option maxHeartbeats 3200000 in
theorem worldPlays_ok {w : World} {N R : Nat} {unit : Int} {p : Option Addr} {m k : Nat} {F : Nat → Sl} (hN : 1 ≤ N ∧ N ≤ 8) (hR : R ≤ 1000) (hU : 1 ≤ unit ∧ unit ≤ 1000) (hLL : SLL w p m k F) :
    Calls Try.prog 5 #[.int .i64 (N : Int), .int .i64 (R : Int), .int .i64 unit, .slice p m k] w fun e w' => e = .returned (.bool true) ∧ Below w.heap.size w w' := by
  have hm := hLL.cap
  go_enter Try.func5, Try.ntmps5
  go_wp2_with fail
  refine (world_New hN.1 hN.2 (by omega) (by omega) (by omega) (by omega)).mono ?_; rintro e w1 ⟨g, h, rfl, K1, b1⟩
  go_wp2_with fail
  refine (ref_NewWorld hN.1 hN.2).mono ?_; rintro e w2 ⟨g2, h2, rfl, K2, b2⟩
  have hg1 : g < w1.heap.size := (Array.getElem?_eq_some_iff.1 K1.box).1
  have hh1 : h < w1.heap.size := K1.own.blk.2
  have hg2 : w1.heap.size ≤ g2 := K2.bg
  have hh2 : w1.heap.size ≤ h2 := K2.own.blk.1
  have q1 : g ≠ g2 := by omega
  have q2 : g ≠ h2 := by omega
  have q3 : h ≠ g2 := by omega
  have q4 : h ≠ h2 := by omega
  have r1 : g2 ≠ g := by omega
  have r2 : g2 ≠ h := by omega
  have r3 : h2 ≠ g := by omega
  have r4 : h2 ≠ h := by omega
  have J1 := K1.below b2
  have J2 := K2.base b1.size
  have hb := b1.trans (b2.mono b1.size)
  have hsz := hb.size
  have HG := Lib.hid (play_good N)
  clear K1 K2 b1 b2 hg1 hh1 hg2 hh2
  obtain ⟨L0, hL0⟩ : ∃ L0, (tab N fun _ => ((0, 0, true) : Peer)) = L0 := ⟨_, rfl⟩
  rw [hL0] at J1 J2 HG
  clear hL0
  go_wp2
  go_loopw [63] (fun iv wr => ∃ (i : Nat) (L : List Peer) (t : Nat), i ≤ m ∧ iv = .int .i64 i ∧ WorldAt wr 110 w.heap.size g h R unit N L t ∧ WorldAt wr 56 w.heap.size g2 h2 R unit N L t ∧ Hid (GoodL L) ∧ t < N ∧ Below w.heap.size w wr ∧ w.heap.size ≤ wr.heap.size) (fun iv _ => m - (intOf iv).toNat)
  case atStart => exact ⟨0, L0, 0, Nat.zero_le _, rfl, J1, J2, HG, by omega, hb, hsz⟩
  case round =>
    clear J1 J2 HG hb hsz
    obtain ⟨i, L, t, hi, rfl, J1, J2, HG, ht, hb, hsz⟩ := hrel
    by_cases him : i < m
    · obtain ⟨lb, lo, hp, hlt, hc⟩ := (hLL.below hb).cells (by omega)
      have e0 := hc i him
      have hsi := (hLL.below hb).si i him
      have hbd := hLL.bd i him
      obtain ⟨⟨pa, la, ca, xs⟩, hF⟩ : ∃ f, F i = f := ⟨_, rfl⟩
      rw [hF] at e0 hsi hbd
      simp only at e0 hsi hbd
      subst hp
      obtain ⟨v, hv⟩ : ∃ v, gi xs 1 = v := ⟨_, rfl⟩
      obtain ⟨x, hx⟩ : ∃ x, gi xs 0 = x := ⟨_, rfl⟩
      have hvb : -9223372036854775808 ≤ v ∧ v ≤ 9223372036854775807 := by
        by_cases h1 : 1 < la
        · rw [← hv]; exact hbd 1 h1
        · rw [← hv, gi_out (by rw [hsi.len]; omega)]; omega
      have HA1 := Lib.hid (law_at (i := 1) hsi (by omega) hv)
      have HA0 := Lib.hid (law_at (i := 0) hsi (by omega) hx)
      clear hc hF hlt hbd hsi hv hx
      go_wp2_with fail
      refine HA1.out.mono ?_; rintro e w3 ⟨rfl, rfl⟩
      go_wp2_with fail
      refine HA0.out.mono ?_; rintro e w3 ⟨rfl, rfl⟩
      clear HA1 HA0
      by_cases h1 : x = 1
      · subst h1
        go_wp2_with fail
        refine (world_Append J1 hN.2 HG.out hvb hsz rfl rfl).mono ?_; rintro e w3 ⟨rfl, K1, b3, o3⟩
        have K2 := J2.only o3 r1 r2 r3 r4
        have B3 := hb.trans b3
        have s3 := B3.size
        go_wp2_with fail
        refine (ref_Append K2 hN.2 HG.out hvb s3 rfl rfl).mono ?_; rintro e w4 ⟨rfl, I2, b4, o4⟩
        have I1 := K1.only o4 q1 q2 q3 q4
        have B4 := B3.trans b4
        have HG4 := Lib.hid (appL_good (a := v) HG.out)
        have s4 := B4.size
        clear J1 J2 HG hb hsz K1 K2 b3 o3 b4 o4 B3 s3
        generalize appL L v = L' at *
        generalize appErr L v = er at *
        have HK1 := Lib.hid I1
        have HK2 := Lib.hid I2
        have D2 := Lib.hid I2.cells.2.2.1
        have HG2 := Lib.hid I2.cells.2.2.2.2.2.1
        have d2v := D2.out
        clear I1 I2
        go_wp2
        go_region_law (first | (go_simp; go_at_call 31; refine (world_Peers (by first | exact HK1.out.drew | exact HK1.out) hN.2).mono ?_; rintro e v1 ⟨pq, dq, rfl, hP, bP⟩; have HP := Lib.hid hP; have HBV := Lib.hid (show Below w4.heap.size w4 v1 from (Below.drew (Below.refl _ w4)).trans bP); have d2w := (bdeep HBV.out HG2.out 2).trans D2.out; clear hP bP) | (go_simp; go_at_call 30; refine (equal_Peer (HP.out.sr encP_len) ((HK2.out.below HBV.out).own.sr encP_len)).mono ?_; rintro e v2 ⟨rfl, bE⟩))
        all_goals
          have bV := HBV.out.trans (bE.mono HBV.out.size)
          have B5 := B4.trans (bV.mono s4)
          have I1 := HK1.out.below bV
          have I2 := HK2.out.below bV
          have s5 := B5.size
          go_wp2
          go_roundw
          case rel => exact ⟨i + 1, L', t, by omega, by go_num, I1, I2, HG4, ht, B5, s5⟩
          case measure => simp [intOf]; omega
      · by_cases hx2 : x = 2
        · subst hx2
          go_wp2_with fail
          refine (world_Tick J1 hN ht HG.out hR hU hsz).mono ?_; rintro e w3 ⟨rfl, K1, b3, o3⟩
          have K2 := J2.only o3 r1 r2 r3 r4
          have B3 := hb.trans b3
          have s3 := B3.size
          go_wp2_with fail
          refine (ref_Tick K2 hN ht HG.out hR hU s3).mono ?_; rintro e w4 ⟨rfl, I2, b4, o4⟩
          have I1 := K1.only o4 q1 q2 q3 q4
          have B4 := B3.trans b4
          have s4 := B4.size
          have HG4 := Lib.hid (runW_good (u := unit) (s := (L, t)) HG.out R)
          have ht4 : (runW unit (L, t) R).2 < N := by
            have e1 := runW_turn (u := unit) (s := (L, t)) (by show t < L.length; rw [J1.own.len]; exact ht) R
            rwa [runW_len, show (L, t).1.length = N from J1.own.len] at e1
          clear J1 J2 HG hb hsz K1 K2 b3 o3 b4 o4 B3 s3
          generalize tickR unit (L, t) R = er at *
          generalize runW unit (L, t) R = s' at *
          obtain ⟨L', t'⟩ := s'
          have HK1 := Lib.hid I1
          have HK2 := Lib.hid I2
          have D2 := Lib.hid I2.cells.2.2.1
          have HG2 := Lib.hid I2.cells.2.2.2.2.2.1
          have d2v := D2.out
          clear I1 I2
          go_wp2
          go_region_law (first | (go_simp; go_at_call 31; refine (world_Peers (by first | exact HK1.out.drew | exact HK1.out) hN.2).mono ?_; rintro e v1 ⟨pq, dq, rfl, hP, bP⟩; have HP := Lib.hid hP; have HBV := Lib.hid (show Below w4.heap.size w4 v1 from (Below.drew (Below.refl _ w4)).trans bP); have d2w := (bdeep HBV.out HG2.out 2).trans D2.out; clear hP bP) | (go_simp; go_at_call 30; refine (equal_Peer (HP.out.sr encP_len) ((HK2.out.below HBV.out).own.sr encP_len)).mono ?_; rintro e v2 ⟨rfl, bE⟩))
          all_goals
            have bV := HBV.out.trans (bE.mono HBV.out.size)
            have B5 := B4.trans (bV.mono s4)
            have I1 := HK1.out.below bV
            have I2 := HK2.out.below bV
            have s5 := B5.size
            go_wp2
            go_roundw
            case rel => exact ⟨i + 1, L', t', by omega, by go_num, I1, I2, HG4, ht4, B5, s5⟩
            case measure => simp [intOf]; omega
        · by_cases hx3 : x = 3
          · subst hx3
            by_cases hv : v < 0 ∨ (N : Int) ≤ v
            · have hce : crErr L v = 1 := by unfold crErr; rw [if_pos (by rw [J1.own.len]; exact hv)]
              have hcl : crL L v = L := by unfold crL; rw [if_pos (by rw [J1.own.len]; exact hv)]
              have HCR := Lib.hid (world_Crash J1 hN.2 hce hcl)
              clear hce hcl
              rcases (show v < 0 ∨ (0 ≤ v ∧ (N : Int) ≤ v) by omega) with hv0 | ⟨hv0, hv1⟩
              all_goals
                clear hv
                go_wp2_with fail
                refine HCR.out.mono ?_; rintro e w4 ⟨rfl, I1, b4, o4⟩
                have I2 := J2.only o4 r1 r2 r3 r4
                have B4 := hb.trans b4
                have s4 := B4.size
                have HG4 := HG
                clear J1 J2 hb hsz b4 o4 HCR
                have HK1 := Lib.hid I1
                have HK2 := Lib.hid I2
                have D2 := Lib.hid I2.cells.2.2.1
                have HG2 := Lib.hid I2.cells.2.2.2.2.2.1
                have d2v := D2.out
                clear I1 I2
                go_wp2
                go_region_law (first | (go_simp; go_at_call 31; refine (world_Peers (by first | exact HK1.out.drew | exact HK1.out) hN.2).mono ?_; rintro e v1 ⟨pq, dq, rfl, hP, bP⟩; have HP := Lib.hid hP; have HBV := Lib.hid (show Below w4.heap.size w4 v1 from (Below.drew (Below.refl _ w4)).trans bP); have d2w := (bdeep HBV.out HG2.out 2).trans D2.out; clear hP bP) | (go_simp; go_at_call 30; refine (equal_Peer (HP.out.sr encP_len) ((HK2.out.below HBV.out).own.sr encP_len)).mono ?_; rintro e v2 ⟨rfl, bE⟩))
                all_goals
                  have bV := HBV.out.trans (bE.mono HBV.out.size)
                  have B5 := B4.trans (bV.mono s4)
                  have I1 := HK1.out.below bV
                  have I2 := HK2.out.below bV
                  have s5 := B5.size
                  go_wp2
                  go_roundw
                  case rel => exact ⟨i + 1, L, t, by omega, by go_num, I1, I2, HG4, ht, B5, s5⟩
                  case measure => simp [intOf]; omega
            · obtain ⟨j, rfl⟩ := Int.eq_ofNat_of_zero_le (show 0 ≤ v by omega)
              have hjN : j < N := by omega
              clear hv
              obtain ⟨_, _, c2, _, _, hg2, hh2, hB2, _⟩ := J2.cells
              obtain ⟨x0, x1, x2⟩ := cellsP J2.own hjN
              obtain ⟨f0, f1, f2⟩ := freeP J2.own j
              have K2 := J2.upd (f := 1) (x := (pl L j, 0, pd L j)) (v := .int .i64 0) hjN (by omega) rfl
              have o3 := (Only.refl wr g2 h2).set (j := j * 3 + 1) (v := .int .i64 0) (.inr rfl)
              have K1 := J1.only o3 q1 q2 q3 q4
              have B3 := hb.setCell (p := ⟨h2, j * 3 + 1, none⟩) hB2 (.int .i64 0)
              have s3 := B3.size
              have hce : crErr L (j : Int) = 0 := by unfold crErr; rw [if_neg (by rw [J1.own.len]; omega)]
              have hcl : crL L (j : Int) = L.set j (pl L j, 0, pd L j) := by unfold crL; rw [if_neg (by rw [J1.own.len]; omega)]; rfl
              have HG4 := Lib.hid (hcl ▸ crL_good (i := (j : Int)) HG.out)
              have HCR := Lib.hid (world_Crash K1 hN.2 hce hcl)
              clear hce hcl hb hsz J1 J2 K1 o3 HG
              go_wp2_with fail
              refine HCR.out.mono ?_; rintro e w4 ⟨rfl, I1, b4, o4⟩
              have I2 := K2.only o4 r1 r2 r3 r4
              have B4 := B3.trans b4
              have s4 := B4.size
              clear K2 B3 s3 b4 o4 HCR c2 x0 x1 x2 f0 f1 f2
              generalize L.set j (pl L j, 0, pd L j) = L' at *
              have HK1 := Lib.hid I1
              have HK2 := Lib.hid I2
              have D2 := Lib.hid I2.cells.2.2.1
              have HG2 := Lib.hid I2.cells.2.2.2.2.2.1
              have d2v := D2.out
              clear I1 I2
              go_wp2
              go_region_law (first | (go_simp; go_at_call 31; refine (world_Peers (by first | exact HK1.out.drew | exact HK1.out) hN.2).mono ?_; rintro e v1 ⟨pq, dq, rfl, hP, bP⟩; have HP := Lib.hid hP; have HBV := Lib.hid (show Below w4.heap.size w4 v1 from (Below.drew (Below.refl _ w4)).trans bP); have d2w := (bdeep HBV.out HG2.out 2).trans D2.out; clear hP bP) | (go_simp; go_at_call 30; refine (equal_Peer (HP.out.sr encP_len) ((HK2.out.below HBV.out).own.sr encP_len)).mono ?_; rintro e v2 ⟨rfl, bE⟩))
              all_goals
                have bV := HBV.out.trans (bE.mono HBV.out.size)
                have B5 := B4.trans (bV.mono s4)
                have I1 := HK1.out.below bV
                have I2 := HK2.out.below bV
                have s5 := B5.size
                go_wp2
                go_roundw
                case rel => exact ⟨i + 1, L', t, by omega, by go_num, I1, I2, HG4, ht, B5, s5⟩
                case measure => simp [intOf]; omega
          · have I1 := J1
            have I2 := J2
            have B4 := hb
            have s4 := hsz
            have HG4 := HG
            clear J1 J2 hb hsz HG
            have HK1 := Lib.hid I1
            have HK2 := Lib.hid I2
            have D2 := Lib.hid I2.cells.2.2.1
            have HG2 := Lib.hid I2.cells.2.2.2.2.2.1
            have d2v := D2.out
            clear I1 I2
            go_wp2
            go_region_law (first | (go_simp; go_at_call 31; refine (world_Peers (by first | exact HK1.out.drew | exact HK1.out) hN.2).mono ?_; rintro e v1 ⟨pq, dq, rfl, hP, bP⟩; have HP := Lib.hid hP; have HBV := Lib.hid (show Below wr.heap.size wr v1 from (Below.drew (Below.refl _ wr)).trans bP); have d2w := (bdeep HBV.out HG2.out 2).trans D2.out; clear hP bP) | (go_simp; go_at_call 30; refine (equal_Peer (HP.out.sr encP_len) ((HK2.out.below HBV.out).own.sr encP_len)).mono ?_; rintro e v2 ⟨rfl, bE⟩))
            all_goals
              have bV := HBV.out.trans (bE.mono HBV.out.size)
              have B5 := B4.trans (bV.mono s4)
              have I1 := HK1.out.below bV
              have I2 := HK2.out.below bV
              have s5 := B5.size
              go_wp2
              go_roundw
              case rel => exact ⟨i + 1, L, t, by omega, by go_num, I1, I2, HG4, ht, B5, s5⟩
              case measure => simp [intOf]; omega
    · have I1 := J1
      have I2 := J2
      have B4 := hb
      have s4 := hsz
      clear J1 J2 hb hsz HG
      have HK1 := Lib.hid I1
      have HK2 := Lib.hid I2
      have D2 := Lib.hid I2.cells.2.2.1
      have HG2 := Lib.hid I2.cells.2.2.2.2.2.1
      have d2v := D2.out
      clear I1 I2
      go_wp2
      go_region_law (first | (go_simp; go_at_call 31; refine (world_Peers (by first | exact HK1.out.drew | exact HK1.out) hN.2).mono ?_; rintro e v1 ⟨pq, dq, rfl, hP, bP⟩; have HP := Lib.hid hP; have HBV := Lib.hid (show Below wr.heap.size wr v1 from (Below.drew (Below.refl _ wr)).trans bP); have d2w := (bdeep HBV.out HG2.out 2).trans D2.out; clear hP bP) | (go_simp; go_at_call 30; refine (equal_Peer (HP.out.sr encP_len) ((HK2.out.below HBV.out).own.sr encP_len)).mono ?_; rintro e v2 ⟨rfl, bE⟩))
      all_goals
        have bV := HBV.out.trans (bE.mono HBV.out.size)
        have B5 := B4.trans (bV.mono s4)
        go_wp2
        go_ret
        exact ⟨rfl, B5⟩

theorem worldPlays_walk {w : World} {n rate unit : Int} {p : Option Addr} {m k : Nat} {F : Nat → Sl} (_ : -9223372036854775808 ≤ n ∧ n ≤ 9223372036854775807) (_ : -9223372036854775808 ≤ rate ∧ rate ≤ 9223372036854775807) (_ : -9223372036854775808 ≤ unit ∧ unit ≤ 9223372036854775807) (hLL : SLL w p m k F) :
    Calls Try.prog 5 #[.int .i64 n, .int .i64 rate, .int .i64 unit, .slice p m k] w fun e w' => e = .returned (.bool true) ∧ Below w.heap.size w w' := by
  by_cases h : n < 1 ∨ (1 ≤ n ∧ 8 < n) ∨ (1 ≤ n ∧ n ≤ 8 ∧ rate < 0) ∨ (1 ≤ n ∧ n ≤ 8 ∧ 0 ≤ rate ∧ 1000 < rate) ∨ (1 ≤ n ∧ n ≤ 8 ∧ 0 ≤ rate ∧ rate ≤ 1000 ∧ unit < 1) ∨ (1 ≤ n ∧ n ≤ 8 ∧ 0 ≤ rate ∧ rate ≤ 1000 ∧ 1 ≤ unit ∧ 1000 < unit)
  · exact worldPlays_bad h
  · obtain ⟨N, rfl⟩ := Int.eq_ofNat_of_zero_le (show 0 ≤ n by omega)
    obtain ⟨R, rfl⟩ := Int.eq_ofNat_of_zero_le (show 0 ≤ rate by omega)
    exact worldPlays_ok (by omega) (by omega) (by omega) hLL
end Go.Proofs.Ytgnegemiiahkaaa
