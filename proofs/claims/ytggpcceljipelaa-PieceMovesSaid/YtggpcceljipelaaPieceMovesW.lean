/- The walk of headlaw.PieceMoves: it returns true and changes nothing that was there. No conditions. -/
import Derived.Test.YtggpcceljipelaaPieceMv
namespace Go.Proofs.Ytggpcceljipelaa
open Go Go.RowKit
set_option linter.unusedSimpArgs false
set_option linter.unusedVariables false

theorem sErr_m {s u : Int} {n : Nat} (h : sErr s u n = 0) : okPc s u ∧ mny s u ≤ 200 ∧ mN s u = n ∧ n ≤ 200 := by
  obtain ⟨h1, h2⟩ := sErr_ok h
  obtain ⟨h3, h4⟩ := wErr_zero h1
  have := mN_cast h3
  exact ⟨h3, h4, by omega, by omega⟩
set_option maxRecDepth 100000 in
set_option maxHeartbeats 6400000 in
theorem pieceMoves_bad {w : World} {s u i : Int} {p : Option Addr} {n c : Nat} {xs : List Bool} (hbs : -9223372036854775808 ≤ s ∧ s ≤ 9223372036854775807) (hbu : -9223372036854775808 ≤ u ∧ u ≤ 9223372036854775807) (h : SB w p n c xs) {er : Int} (he : sErr s u n = er) (hz0 : er ≠ 0) :
    Calls Try.prog 13 #[aggG s u p n c, .int .i64 i] w fun e w' => e = .returned (.bool true) ∧ Below w.heap.size w w' := by
  have hz : (er == 0) = false := by simp [hz0]
  have HE := Lib.hid he; have HZ := Lib.hid hz0
  clear he hz0
  have hm := h.2.1
  have T0 := (Below.refl w.heap.size w).alloc (Nat.le_refl _) (boxG s u p n c)
  have hblk := Lib.hid (blk_new w #[.int .i64 s, .int .i64 u, .slice p n c] 44)
  have h0 := h.below T0
  clear h
  go_enter Try.func13, Try.ntmps13
  go_wp2_with fail
  generalize w.alloc (boxG s u p n c) = W0 at *
  refine (piece_Put_bad hm HE.out HZ.out).mono ?_; rintro e w1 ⟨rfl, b1⟩
  have T1 := (T0.trans (b1.mono T0.size)).alloc (Nat.le_trans T0.size b1.size) (boxG 0 0 none 0 0)
  have hbl1 := Lib.hid (blk_alloc (o' := boxG 0 0 none 0 0) (blk_below hblk.out b1))
  have hbl2 := Lib.hid (blk_new w1 #[.int .i64 0, .int .i64 0, .slice none 0 0] 44)
  have hsy : w.heap.size < w1.heap.size := by
    have h1 := (Array.getElem?_eq_some_iff.1 hblk.out).1
    have := b1.size
    omega
  have hsx : w1.heap.size < (w1.alloc (boxG 0 0 none 0 0)).heap.size := by simp
  clear b1 hblk T0 h0
  obtain ⟨⟨k0, k1, k2⟩, _⟩ := boxG_cells hbl1.out
  go_wp2_with fail
  generalize w1.alloc (boxG 0 0 none 0 0) = W1 at *
  refine (piece_Next_bad hm HE.out HZ.out).mono ?_; rintro e vN ⟨rfl, b1⟩
  have T2 := T1.trans (b1.mono T1.size)
  have hbN := Lib.hid (blk_below hbl1.out b1)
  have hcN := Lib.hid (blk_below hbl2.out b1)
  clear b1 k0 k1 k2
  obtain ⟨⟨k0, k1, k2⟩, _⟩ := boxG_cells hbN.out
  obtain ⟨⟨l0, l1, l2⟩, _⟩ := boxG_cells hcN.out
  go_wp2_with fail
  refine (piece_Got_bad hm HE.out HZ.out).mono ?_; rintro e vG ⟨rfl, b1⟩
  have T3 := T2.trans (b1.mono T2.size)
  have hbG := Lib.hid (blk_below hbN.out b1)
  have hcG := Lib.hid (blk_below hcN.out b1)
  clear b1 k0 k1 k2
  obtain ⟨⟨k0, k1, k2⟩, _⟩ := boxG_cells hbG.out
  obtain ⟨⟨l0, l1, l2⟩, _⟩ := boxG_cells hcG.out
  go_wp2_with fail
  refine (ref_Stage hm hbs hbu HE.out).mono ?_; rintro e vS ⟨rfl, b1⟩
  have T4 := T3.trans (b1.mono T3.size)
  have hbS := Lib.hid (blk_below hbG.out b1)
  have hcS := Lib.hid (blk_below hcG.out b1)
  clear b1 k0 k1 k2
  obtain ⟨⟨k0, k1, k2⟩, _⟩ := boxG_cells hbS.out
  obtain ⟨⟨l0, l1, l2⟩, _⟩ := boxG_cells hcS.out
  go_wp2_with fail
  refine (ref_SameStage (SB.nil0 _) (SB.nil0 _) (r := true) (by simp)).mono ?_; rintro e v5 ⟨rfl, b5⟩
  have T5 := T4.trans (b5.mono T4.size)
  go_wp2
  go_ret
  exact ⟨rfl, T5⟩

set_option maxRecDepth 100000 in
set_option maxHeartbeats 6400000 in
theorem pieceMoves_out_a {w : World} {s u i : Int} {p : Option Addr} {n c : Nat} {xs : List Bool} (hbs : -9223372036854775808 ≤ s ∧ s ≤ 9223372036854775807) (hbu : -9223372036854775808 ≤ u ∧ u ≤ 9223372036854775807) (h : SB w p n c xs) (he : sErr s u n = 0) (hi : i < 0 ∨ (n : Int) ≤ i) {fi : Nat} (hfi : FirstNo (gb xs) n fi) (hfn : fi < n) :
    Calls Try.prog 13 #[aggG s u p n c, .int .i64 i] w fun e w' => e = .returned (.bool true) ∧ Below w.heap.size w w' := by
  obtain ⟨ho, h200, hmn, hn200⟩ := sErr_m he
  have HE := Lib.hid he; have HO := Lib.hid ho; have H2 := Lib.hid h200; have HM := Lib.hid hmn
  have HI := Lib.hid hfi
  have hfin := hfi.1
  have HBD : Hid (∀ j, j < n → 0 ≤ gotV s u xs j ∧ gotV s u xs j ≤ 1000000) := Lib.hid (fun j hj => by
    have h1 := pc_lt ho (i := j) (by omega)
    have h2 := iu_bd ho (i := j) (by omega)
    obtain ⟨a, b, c, d⟩ := ho
    unfold gotV pcV
    split <;> omega)
  clear he ho h200 hmn hfi
  have hm := h.2.1
  have T0 := (Below.refl w.heap.size w).alloc (Nat.le_refl _) (boxG s u p n c)
  have hblk := Lib.hid (blk_new w #[.int .i64 s, .int .i64 u, .slice p n c] 44)
  have h0 := h.below T0
  clear h
  go_enter Try.func13, Try.ntmps13
  go_wp2_with fail
  generalize w.alloc (boxG s u p n c) = W0 at *
  refine (piece_Put_arg hm HE.out hi).mono ?_; rintro e w1 ⟨rfl, b1⟩
  have T1 := (T0.trans (b1.mono T0.size)).alloc (Nat.le_trans T0.size b1.size) (boxG 0 0 none 0 0)
  have hbl1 := Lib.hid (blk_alloc (o' := boxG 0 0 none 0 0) (blk_below hblk.out b1))
  have hbl2 := Lib.hid (blk_new w1 #[.int .i64 0, .int .i64 0, .slice none 0 0] 44)
  have h1 := (h0.below b1).below ((Below.refl _ w1).alloc (Nat.le_refl _) (boxG 0 0 none 0 0))
  have hsx : w1.heap.size < (w1.alloc (boxG 0 0 none 0 0)).heap.size := by simp
  have hsy : w.heap.size < w1.heap.size := by
    have h1 := (Array.getElem?_eq_some_iff.1 hblk.out).1
    have := b1.size
    omega
  clear b1 hblk T0 h0
  obtain ⟨⟨k0, k1, k2⟩, _⟩ := boxG_cells hbl1.out
  go_wp2_with fail
  generalize w1.alloc (boxG 0 0 none 0 0) = W1 at *
  refine (piece_Next_ok h1 HE.out HI.out).mono ?_; rintro e vN ⟨rfl, b1⟩
  rw [if_pos hfn, if_pos hfn]
  have T2 := T1.trans (b1.mono T1.size)
  have hbN := Lib.hid (blk_below hbl1.out b1)
  have hcN := Lib.hid (blk_below hbl2.out b1)
  have hNx := h1.below b1
  clear b1 k0 k1 k2
  obtain ⟨⟨k0, k1, k2⟩, _⟩ := boxG_cells hbN.out
  obtain ⟨⟨l0, l1, l2⟩, _⟩ := boxG_cells hcN.out
  go_wp2_with fail
  refine (piece_Got_ok hNx HE.out).mono ?_; rintro e vG ⟨rfl, b1⟩
  have T3 := T2.trans (b1.mono T2.size)
  have hbG := Lib.hid (blk_below hbN.out b1)
  have hcG := Lib.hid (blk_below hcN.out b1)
  have hGx := hNx.below b1
  clear b1 k0 k1 k2
  obtain ⟨⟨k0, k1, k2⟩, _⟩ := boxG_cells hbG.out
  obtain ⟨⟨l0, l1, l2⟩, _⟩ := boxG_cells hcG.out
  go_wp2_with fail
  refine (ref_Stage hm hbs hbu HE.out).mono ?_; rintro e vS ⟨rfl, b1⟩
  have T4 := T3.trans (b1.mono T3.size)
  have hbS := Lib.hid (blk_below hbG.out b1)
  have hcS := Lib.hid (blk_below hcG.out b1)
  have hSx := hGx.below b1
  clear b1 k0 k1 k2
  obtain ⟨⟨k0, k1, k2⟩, _⟩ := boxG_cells hbS.out
  obtain ⟨⟨l0, l1, l2⟩, _⟩ := boxG_cells hcS.out
  go_wp2_with fail
  refine (ref_Pieces HO.out H2.out HM.out).mono ?_; rintro e vP ⟨pp, cp, rfl, op, b1⟩
  have sp := op.si
  clear op
  have T5 := T4.trans (b1.mono T4.size)
  have hbP := Lib.hid (blk_below hbS.out b1)
  have hcP := Lib.hid (blk_below hcS.out b1)
  have hPx := hSx.below b1
  clear b1 k0 k1 k2
  obtain ⟨⟨k0, k1, k2⟩, _⟩ := boxG_cells hbP.out
  obtain ⟨⟨l0, l1, l2⟩, _⟩ := boxG_cells hcP.out
  go_wp2
  go_loopw [12, 69] (fun sv v wr => ∃ k : Nat, k ≤ n ∧ v = .int .i64 k ∧ sv = .int .i64 (sumT (gotV s u xs) k) ∧ wr = vP) (fun _ v _ => n - (intOf v).toNat)
  case atStart => exact ⟨0, by omega, rfl, rfl, rfl⟩
  case round =>
    obtain ⟨k, hk, rfl, rfl, rfl⟩ := hrel
    by_cases hkn : k < n
    · obtain ⟨b, off, rfl, hlt, hc⟩ := hPx.cells (by omega)
      obtain ⟨b', off', rfl, hlt', hc'⟩ := sp.cells (by omega)
      have c1 := hc k hkn
      have c2 := hc' k hkn
      rw [gi_tab hkn] at c2
      have hsb := sumT_bd HBD.out k (by omega)
      have hb1 := HBD.out k hkn
      have HS := Lib.hid (sumT_succ (gotV s u xs) k)
      clear hc hc'
      cases hv : gb xs k with
      | false =>
        rw [hv] at c1
        have HG := Lib.hid (show gotV s u xs k = 0 by unfold gotV; rw [if_neg (by simp [hv])])
        clear hv
        go_wp2
        go_roundw
        case rel => exact ⟨k + 1, by omega, by go_num, by rw [HS.out, HG.out, Int.add_zero], by trivial⟩
        case measure => simp [intOf]; omega
      | true =>
        rw [hv] at c1
        have HG : Hid (gotV s u xs k = pcV s u k) := Lib.hid (by unfold gotV; rw [if_pos hv])
        rw [HG.out] at hb1
        clear hv
        generalize sumT (gotV s u xs) k = sm at *
        generalize pcV s u k = pv at *
        go_wp2
        go_roundw
        case rel => exact ⟨k + 1, by omega, by go_num, by rw [HS.out, HG.out], by trivial⟩
        case measure => simp [intOf]; omega
    · obtain rfl : n = k := by omega
      have hsb := sumT_bd HBD.out n (by omega)
      generalize sumT (gotV s u xs) n = sm at *
      have q1 : ¬ ((fi : Int) < 0) := by omega
      go_wp2_with fail
      refine (index_no hPx HI.out).mono ?_; rintro e w' ⟨rfl, rfl⟩
      rw [if_pos hfn]
      rcases (show i < 0 ∨ (0 ≤ i ∧ (n : Int) ≤ i) by omega) with h8 | ⟨h8, h9⟩
      all_goals
        go_wp2_with fail
        refine (ref_SameStage (SB.nil0 _) (SB.nil0 _) (r := true) (by simp)).mono ?_; rintro e v5 ⟨rfl, b5⟩
        have T9 := T5.trans (b5.mono T5.size)
        go_wp2
        go_ret
        exact ⟨rfl, T9⟩

set_option maxRecDepth 100000 in
set_option maxHeartbeats 6400000 in
theorem pieceMoves_out_b {w : World} {s u i : Int} {p : Option Addr} {n c : Nat} {xs : List Bool} (hbs : -9223372036854775808 ≤ s ∧ s ≤ 9223372036854775807) (hbu : -9223372036854775808 ≤ u ∧ u ≤ 9223372036854775807) (h : SB w p n c xs) (he : sErr s u n = 0) (hi : i < 0 ∨ (n : Int) ≤ i) {fi : Nat} (hfi : FirstNo (gb xs) n fi) (hfn : ¬ fi < n) :
    Calls Try.prog 13 #[aggG s u p n c, .int .i64 i] w fun e w' => e = .returned (.bool true) ∧ Below w.heap.size w w' := by
  obtain ⟨ho, h200, hmn, hn200⟩ := sErr_m he
  have HE := Lib.hid he; have HO := Lib.hid ho; have H2 := Lib.hid h200; have HM := Lib.hid hmn
  have HI := Lib.hid hfi
  have hfin := hfi.1
  have HBD : Hid (∀ j, j < n → 0 ≤ gotV s u xs j ∧ gotV s u xs j ≤ 1000000) := Lib.hid (fun j hj => by
    have h1 := pc_lt ho (i := j) (by omega)
    have h2 := iu_bd ho (i := j) (by omega)
    obtain ⟨a, b, c, d⟩ := ho
    unfold gotV pcV
    split <;> omega)
  clear he ho h200 hmn hfi
  have hm := h.2.1
  have T0 := (Below.refl w.heap.size w).alloc (Nat.le_refl _) (boxG s u p n c)
  have hblk := Lib.hid (blk_new w #[.int .i64 s, .int .i64 u, .slice p n c] 44)
  have h0 := h.below T0
  clear h
  go_enter Try.func13, Try.ntmps13
  go_wp2_with fail
  generalize w.alloc (boxG s u p n c) = W0 at *
  refine (piece_Put_arg hm HE.out hi).mono ?_; rintro e w1 ⟨rfl, b1⟩
  have T1 := (T0.trans (b1.mono T0.size)).alloc (Nat.le_trans T0.size b1.size) (boxG 0 0 none 0 0)
  have hbl1 := Lib.hid (blk_alloc (o' := boxG 0 0 none 0 0) (blk_below hblk.out b1))
  have hbl2 := Lib.hid (blk_new w1 #[.int .i64 0, .int .i64 0, .slice none 0 0] 44)
  have h1 := (h0.below b1).below ((Below.refl _ w1).alloc (Nat.le_refl _) (boxG 0 0 none 0 0))
  have hsx : w1.heap.size < (w1.alloc (boxG 0 0 none 0 0)).heap.size := by simp
  have hsy : w.heap.size < w1.heap.size := by
    have h1 := (Array.getElem?_eq_some_iff.1 hblk.out).1
    have := b1.size
    omega
  clear b1 hblk T0 h0
  obtain ⟨⟨k0, k1, k2⟩, _⟩ := boxG_cells hbl1.out
  go_wp2_with fail
  generalize w1.alloc (boxG 0 0 none 0 0) = W1 at *
  refine (piece_Next_ok h1 HE.out HI.out).mono ?_; rintro e vN ⟨rfl, b1⟩
  rw [if_neg hfn, if_neg hfn]
  have T2 := T1.trans (b1.mono T1.size)
  have hbN := Lib.hid (blk_below hbl1.out b1)
  have hcN := Lib.hid (blk_below hbl2.out b1)
  have hNx := h1.below b1
  clear b1 k0 k1 k2
  obtain ⟨⟨k0, k1, k2⟩, _⟩ := boxG_cells hbN.out
  obtain ⟨⟨l0, l1, l2⟩, _⟩ := boxG_cells hcN.out
  go_wp2_with fail
  refine (piece_Got_ok hNx HE.out).mono ?_; rintro e vG ⟨rfl, b1⟩
  have T3 := T2.trans (b1.mono T2.size)
  have hbG := Lib.hid (blk_below hbN.out b1)
  have hcG := Lib.hid (blk_below hcN.out b1)
  have hGx := hNx.below b1
  clear b1 k0 k1 k2
  obtain ⟨⟨k0, k1, k2⟩, _⟩ := boxG_cells hbG.out
  obtain ⟨⟨l0, l1, l2⟩, _⟩ := boxG_cells hcG.out
  go_wp2_with fail
  refine (ref_Stage hm hbs hbu HE.out).mono ?_; rintro e vS ⟨rfl, b1⟩
  have T4 := T3.trans (b1.mono T3.size)
  have hbS := Lib.hid (blk_below hbG.out b1)
  have hcS := Lib.hid (blk_below hcG.out b1)
  have hSx := hGx.below b1
  clear b1 k0 k1 k2
  obtain ⟨⟨k0, k1, k2⟩, _⟩ := boxG_cells hbS.out
  obtain ⟨⟨l0, l1, l2⟩, _⟩ := boxG_cells hcS.out
  go_wp2_with fail
  refine (ref_Pieces HO.out H2.out HM.out).mono ?_; rintro e vP ⟨pp, cp, rfl, op, b1⟩
  have sp := op.si
  clear op
  have T5 := T4.trans (b1.mono T4.size)
  have hbP := Lib.hid (blk_below hbS.out b1)
  have hcP := Lib.hid (blk_below hcS.out b1)
  have hPx := hSx.below b1
  clear b1 k0 k1 k2
  obtain ⟨⟨k0, k1, k2⟩, _⟩ := boxG_cells hbP.out
  obtain ⟨⟨l0, l1, l2⟩, _⟩ := boxG_cells hcP.out
  go_wp2
  go_loopw [12, 69] (fun sv v wr => ∃ k : Nat, k ≤ n ∧ v = .int .i64 k ∧ sv = .int .i64 (sumT (gotV s u xs) k) ∧ wr = vP) (fun _ v _ => n - (intOf v).toNat)
  case atStart => exact ⟨0, by omega, rfl, rfl, rfl⟩
  case round =>
    obtain ⟨k, hk, rfl, rfl, rfl⟩ := hrel
    by_cases hkn : k < n
    · obtain ⟨b, off, rfl, hlt, hc⟩ := hPx.cells (by omega)
      obtain ⟨b', off', rfl, hlt', hc'⟩ := sp.cells (by omega)
      have c1 := hc k hkn
      have c2 := hc' k hkn
      rw [gi_tab hkn] at c2
      have hsb := sumT_bd HBD.out k (by omega)
      have hb1 := HBD.out k hkn
      have HS := Lib.hid (sumT_succ (gotV s u xs) k)
      clear hc hc'
      cases hv : gb xs k with
      | false =>
        rw [hv] at c1
        have HG := Lib.hid (show gotV s u xs k = 0 by unfold gotV; rw [if_neg (by simp [hv])])
        clear hv
        go_wp2
        go_roundw
        case rel => exact ⟨k + 1, by omega, by go_num, by rw [HS.out, HG.out, Int.add_zero], by trivial⟩
        case measure => simp [intOf]; omega
      | true =>
        rw [hv] at c1
        have HG : Hid (gotV s u xs k = pcV s u k) := Lib.hid (by unfold gotV; rw [if_pos hv])
        rw [HG.out] at hb1
        clear hv
        generalize sumT (gotV s u xs) k = sm at *
        generalize pcV s u k = pv at *
        go_wp2
        go_roundw
        case rel => exact ⟨k + 1, by omega, by go_num, by rw [HS.out, HG.out], by trivial⟩
        case measure => simp [intOf]; omega
    · obtain rfl : n = k := by omega
      have hsb := sumT_bd HBD.out n (by omega)
      generalize sumT (gotV s u xs) n = sm at *
      go_wp2_with fail
      refine (index_no hPx HI.out).mono ?_; rintro e w' ⟨rfl, rfl⟩
      rw [if_neg hfn]
      rcases (show i < 0 ∨ (0 ≤ i ∧ (n : Int) ≤ i) by omega) with h8 | ⟨h8, h9⟩
      all_goals
        go_wp2_with fail
        refine (ref_SameStage (SB.nil0 _) (SB.nil0 _) (r := true) (by simp)).mono ?_; rintro e v5 ⟨rfl, b5⟩
        have T9 := T5.trans (b5.mono T5.size)
        go_wp2
        go_ret
        exact ⟨rfl, T9⟩

set_option maxRecDepth 100000 in
set_option maxHeartbeats 6400000 in
theorem pieceMoves_in_a {w : World} {s u : Int} {p : Option Addr} {n c i : Nat} {xs : List Bool} (hbs : -9223372036854775808 ≤ s ∧ s ≤ 9223372036854775807) (hbu : -9223372036854775808 ≤ u ∧ u ≤ 9223372036854775807) (h : SB w p n c xs) (he : sErr s u n = 0) (hi : i < n) {fi : Nat} (hfi : FirstNo (gb xs) n fi) (hfn : fi < n) :
    Calls Try.prog 13 #[aggG s u p n c, .int .i64 i] w fun e w' => e = .returned (.bool true) ∧ Below w.heap.size w w' := by
  obtain ⟨ho, h200, hmn, hn200⟩ := sErr_m he
  have HE := Lib.hid he; have HO := Lib.hid ho; have H2 := Lib.hid h200; have HM := Lib.hid hmn
  have HI := Lib.hid hfi
  have hfin := hfi.1
  have HBD : Hid (∀ j, j < n → 0 ≤ gotV s u xs j ∧ gotV s u xs j ≤ 1000000) := Lib.hid (fun j hj => by
    have h1 := pc_lt ho (i := j) (by omega)
    have h2 := iu_bd ho (i := j) (by omega)
    obtain ⟨a, b, c, d⟩ := ho
    unfold gotV pcV
    split <;> omega)
  clear he ho h200 hmn hfi
  have hm := h.2.1
  have T0 := (Below.refl w.heap.size w).alloc (Nat.le_refl _) (boxG s u p n c)
  have hblk := Lib.hid (blk_new w #[.int .i64 s, .int .i64 u, .slice p n c] 44)
  have h0 := h.below T0
  clear h
  go_enter Try.func13, Try.ntmps13
  go_wp2_with fail
  generalize w.alloc (boxG s u p n c) = W0 at *
  refine (piece_Put_ok h0 HE.out hi hn200).mono ?_; rintro e w1 ⟨q, d, rfl, sy, b1⟩
  have T1 := (T0.trans (b1.mono T0.size)).alloc (Nat.le_trans T0.size b1.size) (boxG s u q n d)
  have hbl1 := Lib.hid (blk_alloc (o' := boxG s u q n d) (blk_below hblk.out b1))
  have hbl2 := Lib.hid (blk_new w1 #[.int .i64 s, .int .i64 u, .slice q n d] 44)
  have h1 := (h0.below b1).below ((Below.refl _ w1).alloc (Nat.le_refl _) (boxG s u q n d))
  have y1 := sy.below ((Below.refl _ w1).alloc (Nat.le_refl _) (boxG s u q n d))
  have hsx : w1.heap.size < (w1.alloc (boxG s u q n d)).heap.size := by simp
  have hsy : w.heap.size < w1.heap.size := by
    have h1 := (Array.getElem?_eq_some_iff.1 hblk.out).1
    have := b1.size
    omega
  clear b1 hblk T0 h0 sy
  obtain ⟨⟨k0, k1, k2⟩, _⟩ := boxG_cells hbl1.out
  go_wp2_with fail
  generalize w1.alloc (boxG s u q n d) = W1 at *
  refine (piece_Next_ok h1 HE.out HI.out).mono ?_; rintro e vN ⟨rfl, b1⟩
  rw [if_pos hfn, if_pos hfn]
  have T2 := T1.trans (b1.mono T1.size)
  have hbN := Lib.hid (blk_below hbl1.out b1)
  have hcN := Lib.hid (blk_below hbl2.out b1)
  have hNx := h1.below b1
  have yNx := y1.below b1
  clear b1 k0 k1 k2
  obtain ⟨⟨k0, k1, k2⟩, _⟩ := boxG_cells hbN.out
  obtain ⟨⟨l0, l1, l2⟩, _⟩ := boxG_cells hcN.out
  go_wp2_with fail
  refine (piece_Got_ok hNx HE.out).mono ?_; rintro e vG ⟨rfl, b1⟩
  have T3 := T2.trans (b1.mono T2.size)
  have hbG := Lib.hid (blk_below hbN.out b1)
  have hcG := Lib.hid (blk_below hcN.out b1)
  have hGx := hNx.below b1
  have yGx := yNx.below b1
  clear b1 k0 k1 k2
  obtain ⟨⟨k0, k1, k2⟩, _⟩ := boxG_cells hbG.out
  obtain ⟨⟨l0, l1, l2⟩, _⟩ := boxG_cells hcG.out
  go_wp2_with fail
  refine (ref_Stage hm hbs hbu HE.out).mono ?_; rintro e vS ⟨rfl, b1⟩
  have T4 := T3.trans (b1.mono T3.size)
  have hbS := Lib.hid (blk_below hbG.out b1)
  have hcS := Lib.hid (blk_below hcG.out b1)
  have hSx := hGx.below b1
  have ySx := yGx.below b1
  clear b1 k0 k1 k2
  obtain ⟨⟨k0, k1, k2⟩, _⟩ := boxG_cells hbS.out
  obtain ⟨⟨l0, l1, l2⟩, _⟩ := boxG_cells hcS.out
  go_wp2_with fail
  refine (ref_Pieces HO.out H2.out HM.out).mono ?_; rintro e vP ⟨pp, cp, rfl, op, b1⟩
  have sp := op.si
  clear op
  have T5 := T4.trans (b1.mono T4.size)
  have hbP := Lib.hid (blk_below hbS.out b1)
  have hcP := Lib.hid (blk_below hcS.out b1)
  have hPx := hSx.below b1
  have yPx := ySx.below b1
  clear b1 k0 k1 k2
  obtain ⟨⟨k0, k1, k2⟩, _⟩ := boxG_cells hbP.out
  obtain ⟨⟨l0, l1, l2⟩, _⟩ := boxG_cells hcP.out
  go_wp2
  go_loopw [12, 69] (fun sv v wr => ∃ k : Nat, k ≤ n ∧ v = .int .i64 k ∧ sv = .int .i64 (sumT (gotV s u xs) k) ∧ wr = vP) (fun _ v _ => n - (intOf v).toNat)
  case atStart => exact ⟨0, by omega, rfl, rfl, rfl⟩
  case round =>
    obtain ⟨k, hk, rfl, rfl, rfl⟩ := hrel
    by_cases hkn : k < n
    · obtain ⟨b, off, rfl, hlt, hc⟩ := hPx.cells (by omega)
      obtain ⟨b', off', rfl, hlt', hc'⟩ := sp.cells (by omega)
      have c1 := hc k hkn
      have c2 := hc' k hkn
      rw [gi_tab hkn] at c2
      have hsb := sumT_bd HBD.out k (by omega)
      have hb1 := HBD.out k hkn
      have HS := Lib.hid (sumT_succ (gotV s u xs) k)
      clear hc hc'
      cases hv : gb xs k with
      | false =>
        rw [hv] at c1
        have HG := Lib.hid (show gotV s u xs k = 0 by unfold gotV; rw [if_neg (by simp [hv])])
        clear hv
        go_wp2
        go_roundw
        case rel => exact ⟨k + 1, by omega, by go_num, by rw [HS.out, HG.out, Int.add_zero], by trivial⟩
        case measure => simp [intOf]; omega
      | true =>
        rw [hv] at c1
        have HG : Hid (gotV s u xs k = pcV s u k) := Lib.hid (by unfold gotV; rw [if_pos hv])
        rw [HG.out] at hb1
        clear hv
        generalize sumT (gotV s u xs) k = sm at *
        generalize pcV s u k = pv at *
        go_wp2
        go_roundw
        case rel => exact ⟨k + 1, by omega, by go_num, by rw [HS.out, HG.out], by trivial⟩
        case measure => simp [intOf]; omega
    · obtain rfl : n = k := by omega
      have hsb := sumT_bd HBD.out n (by omega)
      generalize sumT (gotV s u xs) n = sm at *
      have q1 : ¬ ((fi : Int) < 0) := by omega
      go_wp2_with fail
      refine (index_no hPx HI.out).mono ?_; rintro e w' ⟨rfl, rfl⟩
      rw [if_pos hfn]
      go_wp2_with fail
      refine (slices_CloneB hPx (by omega) (by omega)).mono ?_; rintro e wC ⟨qc, dc, rfl, oc, bC⟩
      have TC := T5.trans (bC.mono T5.size)
      have yC := yPx.below bC
      have hbC := blk_below hbP.out bC
      have hcC := blk_below hcP.out bC
      clear k0 k1 k2 l0 l1 l2
      obtain ⟨gc, rfl⟩ := oc.addr (by omega)
      have hgb := oc.blk
      have hat := oc.at (j := i) hi
      have hfr := oc.free i
      have hlP : w.heap.size < wr.heap.size := (Array.getElem?_eq_some_iff.1 hbP.out).1
      have hlQ : w1.heap.size < wr.heap.size := (Array.getElem?_eq_some_iff.1 hcP.out).1
      have hne1 : ¬ gc = w.heap.size := by omega
      have hne2 : ¬ w.heap.size = gc := by omega
      have hne3 : ¬ gc = w1.heap.size := by omega
      have hne4 : ¬ w1.heap.size = gc := by omega
      obtain ⟨⟨k0, k1, k2⟩, _⟩ := boxG_cells (blk_other (j := i) (v := .bool true) hbC hne2)
      obtain ⟨⟨l0, l1, l2⟩, _⟩ := boxG_cells (blk_other (j := i) (v := .bool true) hcC hne4)
      have oc2 := (oc.set i true).sb
      have hset : Below wr.heap.size wr (wC.setCell ⟨gc, i, none⟩ (.bool true)) := bC.setCell (p := ⟨gc, i, none⟩) hgb.1 _
      have yC2 := yPx.below hset
      have TC2 := T5.trans (hset.mono T5.size)
      clear bC TC yC hbC hcC
      go_wp2_with fail
      refine (ref_SameStage (r := true) yC2 oc2 (by simp)).mono ?_; rintro e v5 ⟨rfl, b5⟩
      have T9 := TC2.trans (b5.mono TC2.size)
      go_wp2
      go_ret
      exact ⟨rfl, T9⟩

set_option maxRecDepth 100000 in
set_option maxHeartbeats 6400000 in
theorem pieceMoves_in_b {w : World} {s u : Int} {p : Option Addr} {n c i : Nat} {xs : List Bool} (hbs : -9223372036854775808 ≤ s ∧ s ≤ 9223372036854775807) (hbu : -9223372036854775808 ≤ u ∧ u ≤ 9223372036854775807) (h : SB w p n c xs) (he : sErr s u n = 0) (hi : i < n) {fi : Nat} (hfi : FirstNo (gb xs) n fi) (hfn : ¬ fi < n) :
    Calls Try.prog 13 #[aggG s u p n c, .int .i64 i] w fun e w' => e = .returned (.bool true) ∧ Below w.heap.size w w' := by
  obtain ⟨ho, h200, hmn, hn200⟩ := sErr_m he
  have HE := Lib.hid he; have HO := Lib.hid ho; have H2 := Lib.hid h200; have HM := Lib.hid hmn
  have HI := Lib.hid hfi
  have hfin := hfi.1
  have HBD : Hid (∀ j, j < n → 0 ≤ gotV s u xs j ∧ gotV s u xs j ≤ 1000000) := Lib.hid (fun j hj => by
    have h1 := pc_lt ho (i := j) (by omega)
    have h2 := iu_bd ho (i := j) (by omega)
    obtain ⟨a, b, c, d⟩ := ho
    unfold gotV pcV
    split <;> omega)
  clear he ho h200 hmn hfi
  have hm := h.2.1
  have T0 := (Below.refl w.heap.size w).alloc (Nat.le_refl _) (boxG s u p n c)
  have hblk := Lib.hid (blk_new w #[.int .i64 s, .int .i64 u, .slice p n c] 44)
  have h0 := h.below T0
  clear h
  go_enter Try.func13, Try.ntmps13
  go_wp2_with fail
  generalize w.alloc (boxG s u p n c) = W0 at *
  refine (piece_Put_ok h0 HE.out hi hn200).mono ?_; rintro e w1 ⟨q, d, rfl, sy, b1⟩
  have T1 := (T0.trans (b1.mono T0.size)).alloc (Nat.le_trans T0.size b1.size) (boxG s u q n d)
  have hbl1 := Lib.hid (blk_alloc (o' := boxG s u q n d) (blk_below hblk.out b1))
  have hbl2 := Lib.hid (blk_new w1 #[.int .i64 s, .int .i64 u, .slice q n d] 44)
  have h1 := (h0.below b1).below ((Below.refl _ w1).alloc (Nat.le_refl _) (boxG s u q n d))
  have y1 := sy.below ((Below.refl _ w1).alloc (Nat.le_refl _) (boxG s u q n d))
  have hsx : w1.heap.size < (w1.alloc (boxG s u q n d)).heap.size := by simp
  have hsy : w.heap.size < w1.heap.size := by
    have h1 := (Array.getElem?_eq_some_iff.1 hblk.out).1
    have := b1.size
    omega
  clear b1 hblk T0 h0 sy
  obtain ⟨⟨k0, k1, k2⟩, _⟩ := boxG_cells hbl1.out
  go_wp2_with fail
  generalize w1.alloc (boxG s u q n d) = W1 at *
  refine (piece_Next_ok h1 HE.out HI.out).mono ?_; rintro e vN ⟨rfl, b1⟩
  rw [if_neg hfn, if_neg hfn]
  have T2 := T1.trans (b1.mono T1.size)
  have hbN := Lib.hid (blk_below hbl1.out b1)
  have hcN := Lib.hid (blk_below hbl2.out b1)
  have hNx := h1.below b1
  have yNx := y1.below b1
  clear b1 k0 k1 k2
  obtain ⟨⟨k0, k1, k2⟩, _⟩ := boxG_cells hbN.out
  obtain ⟨⟨l0, l1, l2⟩, _⟩ := boxG_cells hcN.out
  go_wp2_with fail
  refine (piece_Got_ok hNx HE.out).mono ?_; rintro e vG ⟨rfl, b1⟩
  have T3 := T2.trans (b1.mono T2.size)
  have hbG := Lib.hid (blk_below hbN.out b1)
  have hcG := Lib.hid (blk_below hcN.out b1)
  have hGx := hNx.below b1
  have yGx := yNx.below b1
  clear b1 k0 k1 k2
  obtain ⟨⟨k0, k1, k2⟩, _⟩ := boxG_cells hbG.out
  obtain ⟨⟨l0, l1, l2⟩, _⟩ := boxG_cells hcG.out
  go_wp2_with fail
  refine (ref_Stage hm hbs hbu HE.out).mono ?_; rintro e vS ⟨rfl, b1⟩
  have T4 := T3.trans (b1.mono T3.size)
  have hbS := Lib.hid (blk_below hbG.out b1)
  have hcS := Lib.hid (blk_below hcG.out b1)
  have hSx := hGx.below b1
  have ySx := yGx.below b1
  clear b1 k0 k1 k2
  obtain ⟨⟨k0, k1, k2⟩, _⟩ := boxG_cells hbS.out
  obtain ⟨⟨l0, l1, l2⟩, _⟩ := boxG_cells hcS.out
  go_wp2_with fail
  refine (ref_Pieces HO.out H2.out HM.out).mono ?_; rintro e vP ⟨pp, cp, rfl, op, b1⟩
  have sp := op.si
  clear op
  have T5 := T4.trans (b1.mono T4.size)
  have hbP := Lib.hid (blk_below hbS.out b1)
  have hcP := Lib.hid (blk_below hcS.out b1)
  have hPx := hSx.below b1
  have yPx := ySx.below b1
  clear b1 k0 k1 k2
  obtain ⟨⟨k0, k1, k2⟩, _⟩ := boxG_cells hbP.out
  obtain ⟨⟨l0, l1, l2⟩, _⟩ := boxG_cells hcP.out
  go_wp2
  go_loopw [12, 69] (fun sv v wr => ∃ k : Nat, k ≤ n ∧ v = .int .i64 k ∧ sv = .int .i64 (sumT (gotV s u xs) k) ∧ wr = vP) (fun _ v _ => n - (intOf v).toNat)
  case atStart => exact ⟨0, by omega, rfl, rfl, rfl⟩
  case round =>
    obtain ⟨k, hk, rfl, rfl, rfl⟩ := hrel
    by_cases hkn : k < n
    · obtain ⟨b, off, rfl, hlt, hc⟩ := hPx.cells (by omega)
      obtain ⟨b', off', rfl, hlt', hc'⟩ := sp.cells (by omega)
      have c1 := hc k hkn
      have c2 := hc' k hkn
      rw [gi_tab hkn] at c2
      have hsb := sumT_bd HBD.out k (by omega)
      have hb1 := HBD.out k hkn
      have HS := Lib.hid (sumT_succ (gotV s u xs) k)
      clear hc hc'
      cases hv : gb xs k with
      | false =>
        rw [hv] at c1
        have HG := Lib.hid (show gotV s u xs k = 0 by unfold gotV; rw [if_neg (by simp [hv])])
        clear hv
        go_wp2
        go_roundw
        case rel => exact ⟨k + 1, by omega, by go_num, by rw [HS.out, HG.out, Int.add_zero], by trivial⟩
        case measure => simp [intOf]; omega
      | true =>
        rw [hv] at c1
        have HG : Hid (gotV s u xs k = pcV s u k) := Lib.hid (by unfold gotV; rw [if_pos hv])
        rw [HG.out] at hb1
        clear hv
        generalize sumT (gotV s u xs) k = sm at *
        generalize pcV s u k = pv at *
        go_wp2
        go_roundw
        case rel => exact ⟨k + 1, by omega, by go_num, by rw [HS.out, HG.out], by trivial⟩
        case measure => simp [intOf]; omega
    · obtain rfl : n = k := by omega
      have hsb := sumT_bd HBD.out n (by omega)
      generalize sumT (gotV s u xs) n = sm at *
      go_wp2_with fail
      refine (index_no hPx HI.out).mono ?_; rintro e w' ⟨rfl, rfl⟩
      rw [if_neg hfn]
      go_wp2_with fail
      refine (slices_CloneB hPx (by omega) (by omega)).mono ?_; rintro e wC ⟨qc, dc, rfl, oc, bC⟩
      have TC := T5.trans (bC.mono T5.size)
      have yC := yPx.below bC
      have hbC := blk_below hbP.out bC
      have hcC := blk_below hcP.out bC
      clear k0 k1 k2 l0 l1 l2
      obtain ⟨gc, rfl⟩ := oc.addr (by omega)
      have hgb := oc.blk
      have hat := oc.at (j := i) hi
      have hfr := oc.free i
      have hlP : w.heap.size < wr.heap.size := (Array.getElem?_eq_some_iff.1 hbP.out).1
      have hlQ : w1.heap.size < wr.heap.size := (Array.getElem?_eq_some_iff.1 hcP.out).1
      have hne1 : ¬ gc = w.heap.size := by omega
      have hne2 : ¬ w.heap.size = gc := by omega
      have hne3 : ¬ gc = w1.heap.size := by omega
      have hne4 : ¬ w1.heap.size = gc := by omega
      obtain ⟨⟨k0, k1, k2⟩, _⟩ := boxG_cells (blk_other (j := i) (v := .bool true) hbC hne2)
      obtain ⟨⟨l0, l1, l2⟩, _⟩ := boxG_cells (blk_other (j := i) (v := .bool true) hcC hne4)
      have oc2 := (oc.set i true).sb
      have hset : Below wr.heap.size wr (wC.setCell ⟨gc, i, none⟩ (.bool true)) := bC.setCell (p := ⟨gc, i, none⟩) hgb.1 _
      have yC2 := yPx.below hset
      have TC2 := T5.trans (hset.mono T5.size)
      clear bC TC yC hbC hcC
      go_wp2_with fail
      refine (ref_SameStage (r := true) yC2 oc2 (by simp)).mono ?_; rintro e v5 ⟨rfl, b5⟩
      have T9 := TC2.trans (b5.mono TC2.size)
      go_wp2
      go_ret
      exact ⟨rfl, T9⟩

theorem pieceMoves_walk {w : World} {s u i : Int} {p : Option Addr} {n c : Nat} {xs : List Bool} (hbs : -9223372036854775808 ≤ s ∧ s ≤ 9223372036854775807) (hbu : -9223372036854775808 ≤ u ∧ u ≤ 9223372036854775807) (h : SB w p n c xs) (_ : -9223372036854775808 ≤ i ∧ i ≤ 9223372036854775807) :
    Calls Try.prog 13 #[aggG s u p n c, .int .i64 i] w fun e w' => e = .returned (.bool true) ∧ Below w.heap.size w w' := by
  by_cases h0 : sErr s u n = 0
  · by_cases hi : i < 0 ∨ (n : Int) ≤ i
    · obtain ⟨fi, hfi⟩ := firstNo_exists (gb xs) n
      by_cases hfn : fi < n
      · exact pieceMoves_out_a hbs hbu h h0 hi hfi hfn
      · exact pieceMoves_out_b hbs hbu h h0 hi hfi hfn
    · obtain ⟨k, rfl⟩ := Int.eq_ofNat_of_zero_le (show 0 ≤ i by omega)
      obtain ⟨fi, hfi⟩ := firstNo_exists (gb xs) n
      by_cases hfn : fi < n
      · exact pieceMoves_in_a hbs hbu h h0 (by omega) hfi hfn
      · exact pieceMoves_in_b hbs hbu h h0 (by omega) hfi hfn
  · exact pieceMoves_bad hbs hbu h rfl h0
end Go.Proofs.Ytggpcceljipelaa
