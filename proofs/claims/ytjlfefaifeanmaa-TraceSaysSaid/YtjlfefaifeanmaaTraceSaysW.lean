/- The walk of headlaw.TraceSays: it returns true and changes nothing that was there. No conditions. -/
import Derived.Test.YtjlfefaifeanmaaSlots
import Derived.Test.YtjlfefaifeanmaaEqual
namespace Go.Proofs.Ytjlfefaifeanmaa
open Go Go.RowKit

set_option maxRecDepth 100000 in
set_option maxHeartbeats 3200000 in
theorem traceSays_bad_err {w : World} {p q : Option Addr} {n m c d : Nat} {xs ys : List Int} {ea : Int} {eb : Int} (h : SI w p n c xs) (g : SI w q m d ys) (ht : traceErr xs = ea) (h0 : ea ≠ 0) (hc : curveErr ys = eb) (g0 : eb ≠ 0) :
    Calls Try.prog 6 #[.slice p n c, .slice q m d] w fun e w' => e = .returned (.bool true) ∧ Below w.heap.size w w' := by
  have hm := h.2.1
  have gm := g.2.1
  have HT := Lib.hid ht; have HC := Lib.hid hc
  have hz := bne_false_of h0
  have gz := bne_false_of g0
  clear ht hc
  go_enter Try.func6, Try.ntmps6
  go_wp2_with fail
  refine (trace_Sum_bad h HT.out h0).mono ?_; rintro e w' ⟨rfl, rfl⟩
  go_wp2_with fail
  refine (ref_Trace h HT.out).mono ?_; rintro e w1 ⟨rfl, hb1⟩
  have g1 := g.below hb1
  go_wp2_with fail
  refine (trace_Check (h.below hb1) HT.out).mono ?_; rintro e w' ⟨rfl, rfl⟩
  clear h g
  go_wp2_with fail
  refine (trace_Slots_bad g1 HC.out g0).mono ?_; rintro e w' ⟨rfl, rfl⟩
  go_wp2_with fail
  refine (ref_Curve g1 HC.out).mono ?_; rintro e w' ⟨rfl, rfl⟩
  go_wp2
  go_ret
  exact ⟨rfl, hb1⟩

set_option maxRecDepth 100000 in
set_option maxHeartbeats 3200000 in
theorem traceSays_bad_form {w : World} {p q : Option Addr} {n m c d : Nat} {xs ys : List Int} {ea : Int} (h : SI w p n c xs) (g : SI w q m d ys) (ht : traceErr xs = ea) (h0 : ea ≠ 0) (hc : curveErr ys = 0) (g0 : gi ys 0 ≠ 0) :
    Calls Try.prog 6 #[.slice p n c, .slice q m d] w fun e w' => e = .returned (.bool true) ∧ Below w.heap.size w w' := by
  have hm := h.2.1
  have gm := g.2.1
  have HT := Lib.hid ht; have HC := Lib.hid hc
  have hz := bne_false_of h0
  have hx := curve_of hc g.1
  have hpos := hx.pos
  have hn61 := hx.le
  have HX := Lib.hid hx; clear hx
  have b0 := HX.out.bd 0 hpos
  have gp : 0 < gi ys 0 := by omega
  clear ht hc
  go_enter Try.func6, Try.ntmps6
  go_wp2_with fail
  refine (trace_Sum_bad h HT.out h0).mono ?_; rintro e w' ⟨rfl, rfl⟩
  go_wp2_with fail
  refine (ref_Trace h HT.out).mono ?_; rintro e w1 ⟨rfl, hb1⟩
  have g1 := g.below hb1
  go_wp2_with fail
  refine (trace_Check (h.below hb1) HT.out).mono ?_; rintro e w' ⟨rfl, rfl⟩
  clear h g
  go_wp2_with fail
  refine (trace_Slots_form g1 HC.out g0).mono ?_; rintro e w' ⟨rfl, rfl⟩
  go_wp2_with fail
  refine (ref_Curve g1 HC.out).mono ?_; rintro e w' ⟨rfl, rfl⟩
  obtain ⟨ab, ob, rfl, hlb, hcb⟩ := g1.cells hpos
  have c0 : w1.cell? ⟨ab, ob, none⟩ = some (.int .i64 (gi ys 0)) := hcb 0 hpos
  clear hcb g0
  go_wp2
  go_ret
  exact ⟨rfl, hb1⟩

set_option maxRecDepth 100000 in
set_option maxHeartbeats 3200000 in
theorem traceSays_bad_ok {w : World} {p q : Option Addr} {n m c d : Nat} {xs ys : List Int} {ea : Int} (h : SI w p n c xs) (g : SI w q m d ys) (ht : traceErr xs = ea) (h0 : ea ≠ 0) (hc : curveErr ys = 0) (g0 : gi ys 0 = 0) :
    Calls Try.prog 6 #[.slice p n c, .slice q m d] w fun e w' => e = .returned (.bool true) ∧ Below w.heap.size w w' := by
  have hm := h.2.1
  have gm := g.2.1
  have HT := Lib.hid ht; have HC := Lib.hid hc
  have hz := bne_false_of h0
  have hx := curve_of hc g.1
  have hpos := hx.pos
  have hn61 := hx.le
  have HX := Lib.hid hx; clear hx
  have b0 := HX.out.bd 0 hpos
  have gp : ¬ 0 < gi ys 0 := by omega
  have gp2 : decide (0 < gi ys 0) = false := by simp; omega
  obtain ⟨i, hi⟩ := firstP_exists (bigS ys) (m - 1)
  have hi0 := hi.1
  have HI := Lib.hid hi; clear hi
  have G0 := Lib.hid g0; clear g0
  clear ht hc
  go_enter Try.func6, Try.ntmps6
  go_wp2_with fail
  refine (trace_Sum_bad h HT.out h0).mono ?_; rintro e w' ⟨rfl, rfl⟩
  go_wp2_with fail
  refine (ref_Trace h HT.out).mono ?_; rintro e w1 ⟨rfl, hb1⟩
  have g1 := g.below hb1
  go_wp2_with fail
  refine (trace_Check (h.below hb1) HT.out).mono ?_; rintro e w' ⟨rfl, rfl⟩
  clear h g
  go_wp2_with fail
  refine (trace_Slots_ok g1 HC.out G0.out HI.out).mono ?_; rintro e w2 ⟨p2, n2, c2, L2, e2, rfl, o2, b2, hS⟩
  have HS := Lib.hid hS
  have s2 := o2.si
  have g2 := g1.below b2
  have hb2 := hb1.trans (b2.mono hb1.size)
  clear o2 g1 hb1 b2 hS
  go_wp2_with fail
  refine (ref_Curve g2 HC.out).mono ?_; rintro e w' ⟨rfl, rfl⟩
  obtain ⟨ab, ob, rfl, hlb, hcb⟩ := g2.cells hpos
  have HCB := Lib.hid hcb
  have c0 : w2.cell? ⟨ab, ob, none⟩ = some (.int .i64 (gi ys 0)) := hcb 0 hpos
  clear hcb g2
  go_wp2
  clear c0
  go_loopw [7, 9, 61] (fun u v t wr => ∃ (k : Nat) (q : Option Addr) (d : Nat) (x : Int), k ≤ m - 1 ∧ t = .int .i64 k ∧ u = .int .i64 x ∧ Hid (x = if i < k then 2 else 0) ∧ v = .slice q k d ∧ OwnI wr w2.heap.size q k d (tab k fun k => gi ys (k + 1) - gi ys k) ∧ Below w2.heap.size w2 wr) (fun _ _ t _ => m - (intOf t).toNat)
  case atStart => exact ⟨0, none, 0, 0, by omega, rfl, rfl, Lib.hid (by rw [if_neg (by omega)]), rfl, OwnI.nil _ _, Below.refl _ _⟩
  case round =>
    obtain ⟨k, q, d, x, hk, rfl, rfl, HW, rfl, ho, hb⟩ := hrel
    have hsz := hb.size
    by_cases hkn : k < m - 1
    · have c1 : wr.cell? ⟨ab, ob + (k + 1), none⟩ = some (.int .i64 (gi ys (k + 1))) := (bdeep hb hlb _).trans (HCB.out (k + 1) (by omega))
      have c2 : wr.cell? ⟨ab, ob + k, none⟩ = some (.int .i64 (gi ys k)) := (bdeep hb hlb _).trans (HCB.out k (by omega))
      have b1 := HX.out.bd (k + 1) (by omega)
      have b2 := HX.out.bd k (by omega)
      have q1 : IntKind.i64.wrap (gi ys (k + 1) - gi ys k) = gi ys (k + 1) - gi ys k := IntWalk.i64_in _ (by omega)
      have q2 : IntKind.i64.wrap ((k : Int) + 1) = (k : Int) + 1 := IntWalk.i64_in _ (by omega)
      have q3 : ((k : Int) + 1).toNat = k + 1 := by omega
      have q4 : 0 ≤ (k : Int) + 1 := by omega
      have q5 : (k : Int) + 1 < (m : Int) := by omega
      have q6 : (k : Int) < (m : Int) - 1 := by omega
      have q7 : k < m := by omega
      have q8 : k + 1 < m := by omega
      have HO := Lib.hid ho; have HB := Lib.hid hb; clear ho hb
      have HT2 := Lib.hid (tab_succ k fun k => gi ys (k + 1) - gi ys k)
      go_wp2
      go_region_law (refine step_push_int Try.tyInts rfl rfl (B := w2.heap.size) (W0 := w2) rfl rfl (by exact HO.out.1.alloc _) (by exact (HB.out.alloc HB.out.size _).drew) (by exact blk_new _ _ _) (by omega) (by simp; exact Nat.le_succ_of_le HB.out.size) ?_; intro p3 c3 w3 ho3 hb3)
      all_goals
        have d1 : w3.cell? ⟨ab, ob + (k + 1), none⟩ = some (.int .i64 (gi ys (k + 1))) := (bdeep hb3 hlb _).trans (HCB.out (k + 1) (by omega))
        have d2 : w3.cell? ⟨ab, ob + k, none⟩ = some (.int .i64 (gi ys k)) := (bdeep hb3 hlb _).trans (HCB.out k (by omega))
        have HO3 := Lib.hid ho3; have HB3 := Lib.hid hb3
        clear c1 c2 ho3 hb3
        by_cases hbig : 10000 < gi ys (k + 1) - gi ys k
        · have z1 : decide (10000 < gi ys (k + 1) - gi ys k) = true := by simp; exact hbig
          have hki : i ≤ k := by
            apply Nat.not_lt.1
            intro hlt
            have := HI.out.2.1 k hlt
            rw [bigS_false] at this
            exact this hbig
          go_wp2
          go_region
          all_goals
            clear q1 q2 q3 q4
            go_wp2
            go_roundw
            case rel => exact ⟨k + 1, _, _, 2, by omega, by go_num, rfl, Lib.hid (by rw [if_pos (by omega)]), rfl, by rw [HT2.out]; exact OwnI.drew HO3.out, Below.drew HB3.out⟩
            case measure => simp [intOf]; omega
        · have z1 : decide (10000 < gi ys (k + 1) - gi ys k) = false := by simp; omega
          have hki : i ≠ k := by
            rintro rfl
            have := HI.out.2.2 hkn
            rw [bigS_true] at this
            exact hbig this
          go_wp2
          go_region
          all_goals
            clear q1 q2 q3 q4
            go_wp2
            go_roundw
            case rel => exact ⟨k + 1, _, _, x, by omega, by go_num, rfl, Lib.hid (by rw [HW.out]; by_cases hh : i < k; rw [if_pos hh, if_pos (by omega)]; rw [if_neg hh, if_neg (by omega)]), rfl, by rw [HT2.out]; exact OwnI.drew HO3.out, Below.drew HB3.out⟩
            case measure => simp [intOf]; omega
    · obtain rfl : k = m - 1 := by omega
      have q6 : ¬ ((m - 1 : Nat) : Int) < (m : Int) - 1 := by omega
      have hb3 := hb2.trans (hb.mono hb2.size)
      rcases HS.out with ⟨hin, rfl, rfl⟩ | ⟨hin, rfl, rfl⟩
      · obtain rfl : x = 2 := by rw [HW.out, if_pos hin]
        obtain rfl : 0 = n2 := s2.1
        go_wp2
        go_ret
        exact ⟨rfl, hb3⟩
      · obtain rfl : x = 0 := by rw [HW.out, if_neg hin]
        have HQ := Lib.hid (show slotsL ys = tab (m - 1) (fun k => gi ys (k + 1) - gi ys k) by unfold slotsL; rw [HX.out.len])
        go_wp2_with fail
        refine (slices_Equal (s2.below hb) ho.si (r := true) (by simp [HQ.out])).mono ?_; rintro e w4 ⟨rfl, hb4⟩
        go_wp2
        go_ret
        exact ⟨rfl, hb3.trans (hb4.mono hb3.size)⟩

set_option maxRecDepth 100000 in
set_option maxHeartbeats 3200000 in
theorem traceSays_ok_err {w : World} {p q : Option Addr} {n m c d : Nat} {xs ys : List Int} {eb : Int} (h : SI w p n c xs) (g : SI w q m d ys) (ht : traceErr xs = 0) (hc : curveErr ys = eb) (g0 : eb ≠ 0) :
    Calls Try.prog 6 #[.slice p n c, .slice q m d] w fun e w' => e = .returned (.bool true) ∧ Below w.heap.size w w' := by
  have hm := h.2.1
  have gm := g.2.1
  have HT := Lib.hid ht; have HC := Lib.hid hc
  obtain ⟨h60, hokx⟩ := trace_ok ht
  rw [h.1] at h60
  have HBD := Lib.hid (show ∀ j, j < n → 0 ≤ gi xs j ∧ gi xs j ≤ 1000000 by rw [← h.1]; intro j hj; have := hokx j hj; omega)
  clear hokx
  have gz := bne_false_of g0
  clear ht hc
  go_enter Try.func6, Try.ntmps6
  go_wp2_with fail
  refine (trace_Sum_ok h HT.out).mono ?_; rintro e wa ⟨pa, na, ca, La, ea, rfl, oa, ba, rfl, rfl⟩
  have sa := oa.si
  have ha := h.below ba; have ga := g.below ba
  clear oa h g
  go_wp2_with fail
  refine (ref_Trace ha HT.out).mono ?_; rintro e wb ⟨rfl, bb⟩
  have hb := ha.below bb; have gb := ga.below bb; have sb := sa.below bb
  have bb2 := ba.trans (bb.mono ba.size)
  clear ha ga sa ba bb
  go_wp2_with fail
  refine (trace_Check hb HT.out).mono ?_; rintro e w' ⟨rfl, rfl⟩
  go_wp2_with fail
  refine (ref_Added hb (by omega) HBD.out).mono ?_; rintro e wc ⟨pc, nc, cc, rfl, oc, bc⟩
  have sc := oc.si
  have sb2 := sb.below bc; have gc := gb.below bc
  have bc2 := bb2.trans (bc.mono bb2.size)
  clear oc hb gb sb bb2 bc
  go_wp2_with fail
  refine (slices_Equal sb2 sc (r := true) (by simp)).mono ?_; rintro e w1 ⟨rfl, bd⟩
  have g1 := gc.below bd
  have hb1 := bc2.trans (bd.mono bc2.size)
  clear sb2 sc gc bc2 bd
  go_wp2_with fail
  refine (trace_Slots_bad g1 HC.out g0).mono ?_; rintro e w' ⟨rfl, rfl⟩
  go_wp2_with fail
  refine (ref_Curve g1 HC.out).mono ?_; rintro e w' ⟨rfl, rfl⟩
  go_wp2
  go_ret
  exact ⟨rfl, hb1⟩

set_option maxRecDepth 100000 in
set_option maxHeartbeats 3200000 in
theorem traceSays_ok_form {w : World} {p q : Option Addr} {n m c d : Nat} {xs ys : List Int} (h : SI w p n c xs) (g : SI w q m d ys) (ht : traceErr xs = 0) (hc : curveErr ys = 0) (g0 : gi ys 0 ≠ 0) :
    Calls Try.prog 6 #[.slice p n c, .slice q m d] w fun e w' => e = .returned (.bool true) ∧ Below w.heap.size w w' := by
  have hm := h.2.1
  have gm := g.2.1
  have HT := Lib.hid ht; have HC := Lib.hid hc
  obtain ⟨h60, hokx⟩ := trace_ok ht
  rw [h.1] at h60
  have HBD := Lib.hid (show ∀ j, j < n → 0 ≤ gi xs j ∧ gi xs j ≤ 1000000 by rw [← h.1]; intro j hj; have := hokx j hj; omega)
  clear hokx
  have hx := curve_of hc g.1
  have hpos := hx.pos
  have hn61 := hx.le
  have HX := Lib.hid hx; clear hx
  have b0 := HX.out.bd 0 hpos
  have gp : 0 < gi ys 0 := by omega
  clear ht hc
  go_enter Try.func6, Try.ntmps6
  go_wp2_with fail
  refine (trace_Sum_ok h HT.out).mono ?_; rintro e wa ⟨pa, na, ca, La, ea, rfl, oa, ba, rfl, rfl⟩
  have sa := oa.si
  have ha := h.below ba; have ga := g.below ba
  clear oa h g
  go_wp2_with fail
  refine (ref_Trace ha HT.out).mono ?_; rintro e wb ⟨rfl, bb⟩
  have hb := ha.below bb; have gb := ga.below bb; have sb := sa.below bb
  have bb2 := ba.trans (bb.mono ba.size)
  clear ha ga sa ba bb
  go_wp2_with fail
  refine (trace_Check hb HT.out).mono ?_; rintro e w' ⟨rfl, rfl⟩
  go_wp2_with fail
  refine (ref_Added hb (by omega) HBD.out).mono ?_; rintro e wc ⟨pc, nc, cc, rfl, oc, bc⟩
  have sc := oc.si
  have sb2 := sb.below bc; have gc := gb.below bc
  have bc2 := bb2.trans (bc.mono bb2.size)
  clear oc hb gb sb bb2 bc
  go_wp2_with fail
  refine (slices_Equal sb2 sc (r := true) (by simp)).mono ?_; rintro e w1 ⟨rfl, bd⟩
  have g1 := gc.below bd
  have hb1 := bc2.trans (bd.mono bc2.size)
  clear sb2 sc gc bc2 bd
  go_wp2_with fail
  refine (trace_Slots_form g1 HC.out g0).mono ?_; rintro e w' ⟨rfl, rfl⟩
  go_wp2_with fail
  refine (ref_Curve g1 HC.out).mono ?_; rintro e w' ⟨rfl, rfl⟩
  obtain ⟨ab, ob, rfl, hlb, hcb⟩ := g1.cells hpos
  have c0 : w1.cell? ⟨ab, ob, none⟩ = some (.int .i64 (gi ys 0)) := hcb 0 hpos
  clear hcb g0
  go_wp2
  go_ret
  exact ⟨rfl, hb1⟩

set_option maxRecDepth 100000 in
set_option maxHeartbeats 3200000 in
theorem traceSays_ok_ok {w : World} {p q : Option Addr} {n m c d : Nat} {xs ys : List Int} (h : SI w p n c xs) (g : SI w q m d ys) (ht : traceErr xs = 0) (hc : curveErr ys = 0) (g0 : gi ys 0 = 0) :
    Calls Try.prog 6 #[.slice p n c, .slice q m d] w fun e w' => e = .returned (.bool true) ∧ Below w.heap.size w w' := by
  have hm := h.2.1
  have gm := g.2.1
  have HT := Lib.hid ht; have HC := Lib.hid hc
  obtain ⟨h60, hokx⟩ := trace_ok ht
  rw [h.1] at h60
  have HBD := Lib.hid (show ∀ j, j < n → 0 ≤ gi xs j ∧ gi xs j ≤ 1000000 by rw [← h.1]; intro j hj; have := hokx j hj; omega)
  clear hokx
  have hx := curve_of hc g.1
  have hpos := hx.pos
  have hn61 := hx.le
  have HX := Lib.hid hx; clear hx
  have b0 := HX.out.bd 0 hpos
  have gp : ¬ 0 < gi ys 0 := by omega
  have gp2 : decide (0 < gi ys 0) = false := by simp; omega
  obtain ⟨i, hi⟩ := firstP_exists (bigS ys) (m - 1)
  have hi0 := hi.1
  have HI := Lib.hid hi; clear hi
  have G0 := Lib.hid g0; clear g0
  clear ht hc
  go_enter Try.func6, Try.ntmps6
  go_wp2_with fail
  refine (trace_Sum_ok h HT.out).mono ?_; rintro e wa ⟨pa, na, ca, La, ea, rfl, oa, ba, rfl, rfl⟩
  have sa := oa.si
  have ha := h.below ba; have ga := g.below ba
  clear oa h g
  go_wp2_with fail
  refine (ref_Trace ha HT.out).mono ?_; rintro e wb ⟨rfl, bb⟩
  have hb := ha.below bb; have gb := ga.below bb; have sb := sa.below bb
  have bb2 := ba.trans (bb.mono ba.size)
  clear ha ga sa ba bb
  go_wp2_with fail
  refine (trace_Check hb HT.out).mono ?_; rintro e w' ⟨rfl, rfl⟩
  go_wp2_with fail
  refine (ref_Added hb (by omega) HBD.out).mono ?_; rintro e wc ⟨pc, nc, cc, rfl, oc, bc⟩
  have sc := oc.si
  have sb2 := sb.below bc; have gc := gb.below bc
  have bc2 := bb2.trans (bc.mono bb2.size)
  clear oc hb gb sb bb2 bc
  go_wp2_with fail
  refine (slices_Equal sb2 sc (r := true) (by simp)).mono ?_; rintro e w1 ⟨rfl, bd⟩
  have g1 := gc.below bd
  have hb1 := bc2.trans (bd.mono bc2.size)
  clear sb2 sc gc bc2 bd
  go_wp2_with fail
  refine (trace_Slots_ok g1 HC.out G0.out HI.out).mono ?_; rintro e w2 ⟨p2, n2, c2, L2, e2, rfl, o2, b2, hS⟩
  have HS := Lib.hid hS
  have s2 := o2.si
  have g2 := g1.below b2
  have hb2 := hb1.trans (b2.mono hb1.size)
  clear o2 g1 hb1 b2 hS
  go_wp2_with fail
  refine (ref_Curve g2 HC.out).mono ?_; rintro e w' ⟨rfl, rfl⟩
  obtain ⟨ab, ob, rfl, hlb, hcb⟩ := g2.cells hpos
  have HCB := Lib.hid hcb
  have c0 : w2.cell? ⟨ab, ob, none⟩ = some (.int .i64 (gi ys 0)) := hcb 0 hpos
  clear hcb g2
  go_wp2
  clear c0
  go_loopw [7, 9, 61] (fun u v t wr => ∃ (k : Nat) (q : Option Addr) (d : Nat) (x : Int), k ≤ m - 1 ∧ t = .int .i64 k ∧ u = .int .i64 x ∧ Hid (x = if i < k then 2 else 0) ∧ v = .slice q k d ∧ OwnI wr w2.heap.size q k d (tab k fun k => gi ys (k + 1) - gi ys k) ∧ Below w2.heap.size w2 wr) (fun _ _ t _ => m - (intOf t).toNat)
  case atStart => exact ⟨0, none, 0, 0, by omega, rfl, rfl, Lib.hid (by rw [if_neg (by omega)]), rfl, OwnI.nil _ _, Below.refl _ _⟩
  case round =>
    obtain ⟨k, q, d, x, hk, rfl, rfl, HW, rfl, ho, hb⟩ := hrel
    have hsz := hb.size
    by_cases hkn : k < m - 1
    · have c1 : wr.cell? ⟨ab, ob + (k + 1), none⟩ = some (.int .i64 (gi ys (k + 1))) := (bdeep hb hlb _).trans (HCB.out (k + 1) (by omega))
      have c2 : wr.cell? ⟨ab, ob + k, none⟩ = some (.int .i64 (gi ys k)) := (bdeep hb hlb _).trans (HCB.out k (by omega))
      have b1 := HX.out.bd (k + 1) (by omega)
      have b2 := HX.out.bd k (by omega)
      have q1 : IntKind.i64.wrap (gi ys (k + 1) - gi ys k) = gi ys (k + 1) - gi ys k := IntWalk.i64_in _ (by omega)
      have q2 : IntKind.i64.wrap ((k : Int) + 1) = (k : Int) + 1 := IntWalk.i64_in _ (by omega)
      have q3 : ((k : Int) + 1).toNat = k + 1 := by omega
      have q4 : 0 ≤ (k : Int) + 1 := by omega
      have q5 : (k : Int) + 1 < (m : Int) := by omega
      have q6 : (k : Int) < (m : Int) - 1 := by omega
      have q7 : k < m := by omega
      have q8 : k + 1 < m := by omega
      have HO := Lib.hid ho; have HB := Lib.hid hb; clear ho hb
      have HT2 := Lib.hid (tab_succ k fun k => gi ys (k + 1) - gi ys k)
      go_wp2
      go_region_law (refine step_push_int Try.tyInts rfl rfl (B := w2.heap.size) (W0 := w2) rfl rfl (by exact HO.out.1.alloc _) (by exact (HB.out.alloc HB.out.size _).drew) (by exact blk_new _ _ _) (by omega) (by simp; exact Nat.le_succ_of_le HB.out.size) ?_; intro p3 c3 w3 ho3 hb3)
      all_goals
        have d1 : w3.cell? ⟨ab, ob + (k + 1), none⟩ = some (.int .i64 (gi ys (k + 1))) := (bdeep hb3 hlb _).trans (HCB.out (k + 1) (by omega))
        have d2 : w3.cell? ⟨ab, ob + k, none⟩ = some (.int .i64 (gi ys k)) := (bdeep hb3 hlb _).trans (HCB.out k (by omega))
        have HO3 := Lib.hid ho3; have HB3 := Lib.hid hb3
        clear c1 c2 ho3 hb3
        by_cases hbig : 10000 < gi ys (k + 1) - gi ys k
        · have z1 : decide (10000 < gi ys (k + 1) - gi ys k) = true := by simp; exact hbig
          have hki : i ≤ k := by
            apply Nat.not_lt.1
            intro hlt
            have := HI.out.2.1 k hlt
            rw [bigS_false] at this
            exact this hbig
          go_wp2
          go_region
          all_goals
            clear q1 q2 q3 q4
            go_wp2
            go_roundw
            case rel => exact ⟨k + 1, _, _, 2, by omega, by go_num, rfl, Lib.hid (by rw [if_pos (by omega)]), rfl, by rw [HT2.out]; exact OwnI.drew HO3.out, Below.drew HB3.out⟩
            case measure => simp [intOf]; omega
        · have z1 : decide (10000 < gi ys (k + 1) - gi ys k) = false := by simp; omega
          have hki : i ≠ k := by
            rintro rfl
            have := HI.out.2.2 hkn
            rw [bigS_true] at this
            exact hbig this
          go_wp2
          go_region
          all_goals
            clear q1 q2 q3 q4
            go_wp2
            go_roundw
            case rel => exact ⟨k + 1, _, _, x, by omega, by go_num, rfl, Lib.hid (by rw [HW.out]; by_cases hh : i < k; rw [if_pos hh, if_pos (by omega)]; rw [if_neg hh, if_neg (by omega)]), rfl, by rw [HT2.out]; exact OwnI.drew HO3.out, Below.drew HB3.out⟩
            case measure => simp [intOf]; omega
    · obtain rfl : k = m - 1 := by omega
      have q6 : ¬ ((m - 1 : Nat) : Int) < (m : Int) - 1 := by omega
      have hb3 := hb2.trans (hb.mono hb2.size)
      rcases HS.out with ⟨hin, rfl, rfl⟩ | ⟨hin, rfl, rfl⟩
      · obtain rfl : x = 2 := by rw [HW.out, if_pos hin]
        obtain rfl : 0 = n2 := s2.1
        go_wp2
        go_ret
        exact ⟨rfl, hb3⟩
      · obtain rfl : x = 0 := by rw [HW.out, if_neg hin]
        have HQ := Lib.hid (show slotsL ys = tab (m - 1) (fun k => gi ys (k + 1) - gi ys k) by unfold slotsL; rw [HX.out.len])
        go_wp2_with fail
        refine (slices_Equal (s2.below hb) ho.si (r := true) (by simp [HQ.out])).mono ?_; rintro e w4 ⟨rfl, hb4⟩
        go_wp2
        go_ret
        exact ⟨rfl, hb3.trans (hb4.mono hb3.size)⟩

theorem traceSays_walk {w : World} {p q : Option Addr} {n m c d : Nat} {xs ys : List Int} (h : SI w p n c xs) (g : SI w q m d ys) :
    Calls Try.prog 6 #[.slice p n c, .slice q m d] w fun e w' => e = .returned (.bool true) ∧ Below w.heap.size w w' := by
  by_cases h1 : traceErr xs = 0
  · by_cases h2 : curveErr ys = 0
    · by_cases h3 : gi ys 0 = 0
      · exact traceSays_ok_ok h g h1 h2 h3
      · exact traceSays_ok_form h g h1 h2 h3
    · exact traceSays_ok_err h g h1 rfl h2
  · by_cases h2 : curveErr ys = 0
    · by_cases h3 : gi ys 0 = 0
      · exact traceSays_bad_ok h g rfl h1 h2 h3
      · exact traceSays_bad_form h g rfl h1 h2 h3
    · exact traceSays_bad_err h g rfl h1 rfl h2
end Go.Proofs.Ytjlfefaifeanmaa
