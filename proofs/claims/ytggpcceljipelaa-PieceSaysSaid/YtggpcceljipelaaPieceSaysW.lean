/- The walk of headlaw.PieceSays: it returns true and changes nothing that was there. No conditions. -/
import Derived.Test.YtggpcceljipelaaPiece
import Derived.Test.YtggpcceljipelaaQuietB
namespace Go.Proofs.Ytggpcceljipelaa
open Go Go.RowKit
set_option linter.unusedSimpArgs false
set_option linter.unusedVariables false

theorem step_make_bool {P : Program} {ops : Array Oper} {w : World} {o : Oper} {a : Act} {K : Act → World → Prop} {Q : Exit → Act → World → Prop} {R : Prop} {t : TypeId}
    (hT : SliceTy P t 4 (.bool false) 1 1) (hw : Region.wanted o (yielded ops a.tmps) = true) {l c : Operand} (hop : o.op = Op.makeSlice t l c) {kl kc : IntKind} {L C : Int} (n : Nat)
    (hl : a.eval l = .int kl L) (hc : a.eval c = .int kc C) (hL : L = (n : Int)) (hC : C = (n : Int)) (hn : n ≤ 17592186044416)
    (hK : ∀ g w', OwnB w' w.heap.size (.some ⟨g, 0, none⟩) n n (tab n fun _ => false) → Below w.heap.size w w' → K (a.put o.dst (.slice (.some ⟨g, 0, none⟩) n n)) w') : if Region.wanted o (yielded ops a.tmps) = true then Oper.wp P o a w K Q else R := by
  rw [if_pos hw]
  obtain ⟨i, hi, hz0, hz1, hz2⟩ := info_parts hT.info
  obtain ⟨w', hrun, h1, h2⟩ := run_make_full (P := P) w w.heap.size t 4 i (.bool false) 1 hT.under hi hz0 hz1 kl kc n (by rw [hz2]; omega) (by unfold maxLen; omega) (Nat.le_refl _)
  subst hL; subst hC
  unfold Oper.wp
  simp [execOp, hop, hl, hc, hrun, Result.andThen]
  have e : (madeCells (Value.bool false).cells (n * 1)).toList = (tab n fun _ => false).map Value.bool := by
    rw [tab_const, Nat.mul_one]; simpa [Value.cells] using toList_madeCells_one (.bool false) n
  rw [e] at h1
  exact hK _ w' ⟨h1, by omega⟩ ((Below.refl _ _).grown h2 (Nat.le_refl _) fun k hk => by cases hk)

set_option maxRecDepth 100000 in
set_option maxHeartbeats 6400000 in
theorem pieceSays_bad {w : World} {s u s2 u2 er : Int} {p : Option Addr} {n c : Nat} {hs : List Bool} (hbs : -9223372036854775808 ≤ s ∧ s ≤ 9223372036854775807) (hbu : -9223372036854775808 ≤ u ∧ u ≤ 9223372036854775807) (hb1 : -9223372036854775808 ≤ s2 ∧ s2 ≤ 9223372036854775807) (hb2 : -9223372036854775808 ≤ u2 ∧ u2 ≤ 9223372036854775807) (h : SB w p n c hs) (he : wErr s u = er) (h0 : er ≠ 0) :
    Calls Try.prog 6 #[.int .i64 s, .int .i64 u, aggG s2 u2 p n c] w fun e w' => e = .returned (.bool true) ∧ Below w.heap.size w w' := by
  have hm := h.2.1
  have hz : (er == 0) = false := by simp [h0]
  obtain ⟨e2, he2⟩ : ∃ e2, sErr s2 u2 n = e2 := ⟨_, rfl⟩
  have HE := Lib.hid he; have HE2 := Lib.hid he2; have H0 := Lib.hid h0
  clear he he2 h0
  have T0 := (Below.refl w.heap.size w).alloc (Nat.le_refl _) (boxG s2 u2 p n c)
  have hblk := Lib.hid (blk_new w #[.int .i64 s2, .int .i64 u2, .slice p n c] 44)
  go_enter Try.func6, Try.ntmps6
  go_wp2_with fail
  generalize w.alloc (boxG s2 u2 p n c) = W0 at *
  refine (piece_Sizes_bad HE.out H0.out).mono ?_; rintro e w' ⟨rfl, rfl⟩
  go_wp2_with fail
  refine (piece_New_bad HE.out H0.out).mono ?_; rintro e w1 ⟨rfl, b1⟩
  have hs1 := b1.size
  have T1 := (T0.trans (b1.mono T0.size)).alloc (Nat.le_trans T0.size hs1) (boxG 0 0 none 0 0)
  have hbl1 := Lib.hid (blk_alloc (o' := boxG 0 0 none 0 0) (blk_below hblk.out b1))
  have hbl2 := Lib.hid (blk_new w1 #[.int .i64 0, .int .i64 0, .slice none 0 0] 44)
  obtain ⟨⟨k0, k1, k2⟩, _⟩ := boxG_cells hbl1.out
  obtain ⟨⟨l0, l1, l2⟩, _⟩ := boxG_cells hbl2.out
  have hsx : w1.heap.size < (w1.alloc (boxG 0 0 none 0 0)).heap.size := by simp
  have hsy : w.heap.size < w1.heap.size := by
    have h1 := (Array.getElem?_eq_some_iff.1 hblk.out).1
    omega
  clear b1 hblk T0
  go_wp2
  generalize w1.alloc (boxG 0 0 none 0 0) = W at *
  have hcur := Below.refl W.heap.size W
  go_region_law (go_simp; first
    | (refine (piece_Check (n := n) hm HE2.out).mono ?_; rintro e v ⟨rfl, hv⟩; have hnew : Below W.heap.size W v := (by first | exact hcur.trans (hv.mono hcur.size) | exact (Below.drew hcur).trans (hv.mono hcur.size)); have hcur := hnew; obtain ⟨⟨k0, k1, k2⟩, _⟩ := boxG_cells (blk_below hbl1.out hcur))
    | (refine (ref_Stage (n := n) hm hb1 hb2 HE2.out).mono ?_; rintro e v ⟨rfl, hv⟩; have hnew : Below W.heap.size W v := (by first | exact hcur.trans (hv.mono hcur.size) | exact (Below.drew hcur).trans (hv.mono hcur.size)); have hcur := hnew; obtain ⟨⟨k0, k1, k2⟩, _⟩ := boxG_cells (blk_below hbl1.out hcur)))
  all_goals
    have T2 := T1.trans (hcur.mono T1.size)
    obtain ⟨⟨l0, l1, l2⟩, _⟩ := boxG_cells (blk_below hbl2.out hcur)
    go_wp2_with fail
    refine (ref_Whole hbs hbu HE.out).mono ?_; rintro e w' ⟨rfl, rfl⟩
    go_wp2_with fail
    refine (ref_SameStage (SB.nil0 _) (SB.nil0 _) (r := true) (by simp)).mono ?_; rintro e w5 ⟨rfl, b5⟩
    have T5 := T2.trans (b5.mono T2.size)
    go_wp2
    go_ret
    exact ⟨rfl, T5⟩
section
variable {P : Program} {ops : Array Oper} {Q : Exit → Act → World → Prop} {md : Region.Mode}
theorem wpAny_one {fuel : Nat} {listed : Array Bool} {a : Act} {w : World} {i : Nat} {o : Oper} (hr : Region.ready md ops listed = [i]) (ho : ops[i]? = some o)
    (h : ∀ K' : Act → World → Prop, (∀ a w, wpAny P md ops Q fuel (listed.setIfInBounds i true) a w → K' a w) → if Region.wanted o (yielded ops a.tmps) = true then Oper.wp P o a w K' Q else K' (a.put o.dst undef) w) : wpAny P md ops Q (fuel + 1) listed a w :=
  wpAny_ready hr (by simp) (AllReady.cons ho h AllReady.nil)
theorem wpAny_two {fuel : Nat} {listed : Array Bool} {a : Act} {w : World} {i j : Nat} {o p : Oper} (hr : Region.ready md ops listed = [i, j]) (ho : ops[i]? = some o) (hp : ops[j]? = some p)
    (h : ∀ K' : Act → World → Prop, (∀ a w, wpAny P md ops Q fuel (listed.setIfInBounds i true) a w → K' a w) → if Region.wanted o (yielded ops a.tmps) = true then Oper.wp P o a w K' Q else K' (a.put o.dst undef) w)
    (g : ∀ K' : Act → World → Prop, (∀ a w, wpAny P md ops Q fuel (listed.setIfInBounds j true) a w → K' a w) → if Region.wanted p (yielded ops a.tmps) = true then Oper.wp P p a w K' Q else K' (a.put p.dst undef) w) : wpAny P md ops Q (fuel + 1) listed a w :=
  wpAny_ready hr (by simp) (AllReady.cons ho h (AllReady.cons hp g AllReady.nil))
end
set_option maxRecDepth 100000 in
set_option maxHeartbeats 1600000 in
theorem pieceSays_ok {w : World} {s u s2 u2 : Int} {p : Option Addr} {n c m : Nat} {hs : List Bool} (hbs : -9223372036854775808 ≤ s ∧ s ≤ 9223372036854775807) (hbu : -9223372036854775808 ≤ u ∧ u ≤ 9223372036854775807) (hb1 : -9223372036854775808 ≤ s2 ∧ s2 ≤ 9223372036854775807) (hb2 : -9223372036854775808 ≤ u2 ∧ u2 ≤ 9223372036854775807) (h : SB w p n c hs) (he : wErr s u = 0) (hmn : mN s u = m) :
    Calls Try.prog 6 #[.int .i64 s, .int .i64 u, aggG s2 u2 p n c] w fun e w' => e = .returned (.bool true) ∧ Below w.heap.size w w' := by
  have hm := h.2.1
  obtain ⟨e2, he2⟩ : ∃ e2, sErr s2 u2 n = e2 := ⟨_, rfl⟩
  have HE := Lib.hid he; have HE2 := Lib.hid he2; have HM := Lib.hid hmn
  obtain ⟨ho, h200⟩ := wErr_zero he
  have hmc := mN_cast ho
  have hm200 : m ≤ 200 := by omega
  have HO := Lib.hid ho; have H2 := Lib.hid h200
  clear he he2 hmn ho h200 hmc
  have T0 := (Below.refl w.heap.size w).alloc (Nat.le_refl _) (boxG s2 u2 p n c)
  have hblk := Lib.hid (blk_new w #[.int .i64 s2, .int .i64 u2, .slice p n c] 44)
  go_enter Try.func6, Try.ntmps6
  go_wp2_with fail
  generalize w.alloc (boxG s2 u2 p n c) = W0 at *
  refine (piece_Sizes_ok HE.out HM.out).mono ?_; rintro e w0 ⟨p1, n1, c1, L1, e1, rfl, o1, b1, rfl, rfl⟩
  have hn1 := o1.len
  rw [tab_length] at hn1
  subst hn1
  have s1 := o1.si
  clear o1
  have T1 := T0.trans (b1.mono T0.size)
  have hbl0 := Lib.hid (blk_below hblk.out b1)
  clear b1 hblk T0
  go_wp2_with fail
  refine (piece_New_ok HE.out HM.out).mono ?_; rintro e w1 ⟨p3, c3, rfl, sy, b1⟩
  have hs1 := b1.size
  have s2' := s1.below b1
  have T2 := (T1.trans (b1.mono T1.size)).alloc (Nat.le_trans T1.size hs1) (boxG s u p3 m c3)
  have hbl1 := Lib.hid (blk_alloc (o' := boxG s u p3 m c3) (blk_below hbl0.out b1))
  have hbl2 := Lib.hid (blk_new w1 #[.int .i64 s, .int .i64 u, .slice p3 m c3] 44)
  obtain ⟨⟨k0, k1, k2⟩, _⟩ := boxG_cells hbl1.out
  obtain ⟨⟨l0, l1, l2⟩, _⟩ := boxG_cells hbl2.out
  have hsx : w1.heap.size < (w1.alloc (boxG s u p3 m c3)).heap.size := by simp
  have hsy : w.heap.size < w1.heap.size := by
    have h1 := (Array.getElem?_eq_some_iff.1 hbl0.out).1
    omega
  have s3 := s2'.below ((Below.refl _ w1).alloc (Nat.le_refl _) (boxG s u p3 m c3))
  have sy3 := sy.below ((Below.refl _ w1).alloc (Nat.le_refl _) (boxG s u p3 m c3))
  clear b1 hbl0 T1 s1 s2' sy
  go_wp2
  generalize w1.alloc (boxG s u p3 m c3) = W at *
  have cc0 := BelowOf.cell k0 (by omega); have cc1 := BelowOf.cell k1 (by omega); have cc2 := BelowOf.cell k2 (by omega)
  refine wp_region_quiet_below (by kernel_rfl) (by kernel_rfl) ?_
  repeat (quiet_step (first
    | exact calls_below (piece_Check (n := n) hm HE2.out)
    | exact calls_below (ref_Stage (n := n) hm hb1 hb2 HE2.out)))
  refine wpQuiet_nil ?_
  intro v hq
  have hcur : Below W.heap.size W v := by obtain ⟨q, hq2⟩ := hq; rw [hq2]; exact q.prop
  clear hq cc0 cc1 cc2
  all_goals
    have T3 := T2.trans (hcur.mono T2.size)
    have hbl3 := Lib.hid (blk_below hbl2.out hcur)
    have s4 := s3.below hcur
    have sy4 := sy3.below hcur
    clear k0 k1 k2 l0 l1 l2 hbl1 hbl2 s3 sy3 T2
    obtain ⟨⟨l0, l1, l2⟩, _⟩ := boxG_cells hbl3.out
    go_wp2_with fail
    refine (ref_Whole hbs hbu HE.out).mono ?_; rintro e w' ⟨rfl, rfl⟩
    go_wp2_with fail
    refine (ref_Pieces HO.out H2.out HM.out).mono ?_; rintro e w5 ⟨p5, c5, rfl, o5, b5⟩
    have T5 := T3.trans (b5.mono T3.size)
    have s5 := s4.below b5
    have sy5 := sy4.below b5
    have hbl5 := Lib.hid (blk_below hbl3.out b5)
    have s6 := o5.si
    have hlt5 := (Array.getElem?_eq_some_iff.1 hbl5.out).1
    clear o5 l0 l1 l2 hbl3 s4 sy4 b5 T3
    obtain ⟨⟨l0, l1, l2⟩, _⟩ := boxG_cells hbl5.out
    have hcur := Below.refl w5.heap.size w5
    go_wp2
    -- region 9
    refine wp_region_any (by kernel_rfl) ?_
    try (change wpAny _ _ _ _ _ _ _ (World.drew _))
    refine wpAny_take (i := 0) (v := ?_) rfl (by kernel_rfl) (by kernel_rfl) (by kernel_rfl) (fun _ _ _ h => h) (Or.inl ⟨by rfl, ?_⟩) ?_
    rotate_left
    · intro w; go_simp; try with_reducible rfl
    simp only [Act.put, List.getElem_toArray, List.getElem_cons_succ, List.getElem_cons_zero, List.setIfInBounds_toArray, List.set_cons_succ, List.set_cons_zero]
    refine wpAny_take (i := 1) (v := ?_) rfl (by kernel_rfl) (by kernel_rfl) (by kernel_rfl) (fun _ _ _ h => h) (Or.inl ⟨by rfl, ?_⟩) ?_
    rotate_left
    · intro w; go_simp; try with_reducible rfl
    simp only [Act.put, List.getElem_toArray, List.getElem_cons_succ, List.getElem_cons_zero, List.setIfInBounds_toArray, List.set_cons_succ, List.set_cons_zero]
    refine wpAny_take (i := 2) (v := ?_) rfl (by kernel_rfl) (by kernel_rfl) (by kernel_rfl) (fun _ _ _ h => h) (Or.inl ⟨by rfl, ?_⟩) ?_
    rotate_left
    · intro w; go_simp; try with_reducible rfl
    simp only [Act.put, List.getElem_toArray, List.getElem_cons_succ, List.getElem_cons_zero, List.setIfInBounds_toArray, List.set_cons_succ, List.set_cons_zero]
    refine wpAny_take (i := 3) (v := ?_) rfl (by kernel_rfl) (by kernel_rfl) (by kernel_rfl) (fun _ _ _ h => h) (Or.inl ⟨by rfl, ?_⟩) ?_
    rotate_left
    · intro w; go_simp; try with_reducible rfl
    simp only [Act.put, List.getElem_toArray, List.getElem_cons_succ, List.getElem_cons_zero, List.setIfInBounds_toArray, List.set_cons_succ, List.set_cons_zero]
    refine wpAny_take (i := 4) (v := ?_) rfl (by kernel_rfl) (by kernel_rfl) (by kernel_rfl) (fun _ _ _ h => h) (Or.inl ⟨by rfl, ?_⟩) ?_
    rotate_left
    · intro w; go_simp; try with_reducible rfl
    simp only [Act.put, List.getElem_toArray, List.getElem_cons_succ, List.getElem_cons_zero, List.setIfInBounds_toArray, List.set_cons_succ, List.set_cons_zero]
    refine wpAny_take (i := 5) (v := ?_) rfl (by kernel_rfl) (by kernel_rfl) (by kernel_rfl) (fun _ _ _ h => h) (Or.inl ⟨by rfl, ?_⟩) ?_
    rotate_left
    · intro w; go_simp; try with_reducible rfl
    simp only [Act.put, List.getElem_toArray, List.getElem_cons_succ, List.getElem_cons_zero, List.setIfInBounds_toArray, List.set_cons_succ, List.set_cons_zero]
    refine wpAny_take (i := 6) (v := ?_) rfl (by kernel_rfl) (by kernel_rfl) (by kernel_rfl) (fun _ _ _ h => h) (Or.inl ⟨by rfl, ?_⟩) ?_
    rotate_left
    · intro w; go_simp; try with_reducible rfl
    simp only [Act.put, List.getElem_toArray, List.getElem_cons_succ, List.getElem_cons_zero, List.setIfInBounds_toArray, List.set_cons_succ, List.set_cons_zero]
    refine wpAny_take (i := 7) (v := ?_) rfl (by kernel_rfl) (by kernel_rfl) (by kernel_rfl) (fun _ _ _ h => h) (Or.inl ⟨by rfl, ?_⟩) ?_
    rotate_left
    · intro w; go_simp; try with_reducible rfl
    simp only [Act.put, List.getElem_toArray, List.getElem_cons_succ, List.getElem_cons_zero, List.setIfInBounds_toArray, List.set_cons_succ, List.set_cons_zero]
    refine wpAny_take (i := 8) (v := ?_) rfl (by kernel_rfl) (by kernel_rfl) (by kernel_rfl) (fun _ _ _ h => h) (Or.inl ⟨by rfl, ?_⟩) ?_
    rotate_left
    · intro w; go_simp; try with_reducible rfl
    simp only [Act.put, List.getElem_toArray, List.getElem_cons_succ, List.getElem_cons_zero, List.setIfInBounds_toArray, List.set_cons_succ, List.set_cons_zero]
    refine wpAny_one (i := 9) (by kernel_rfl) rfl (fun K hK => ?_)
    go_simp
    refine (slices_Equal (r := true) (s5.below (Below.drew hcur)) (s6.below (Below.drew hcur)) (by simp)).mono ?_; rintro e v ⟨rfl, hv⟩
    refine hK _ _ ?_
    clear hK K
    have hcur2 : Below w5.heap.size w5 v := (Below.drew hcur).trans (hv.mono hcur.size)
    refine wpAny_take (i := 10) (v := ?_) rfl (by kernel_rfl) (by kernel_rfl) (by kernel_rfl) (fun _ _ _ h => h) (Or.inl ⟨by rfl, ?_⟩) ?_
    rotate_left
    · intro w; go_simp; try with_reducible rfl
    simp only [Act.put, List.getElem_toArray, List.getElem_cons_succ, List.getElem_cons_zero, List.setIfInBounds_toArray, List.set_cons_succ, List.set_cons_zero]
    refine wpAny_take (i := 11) (v := ?_) rfl (by kernel_rfl) (by kernel_rfl) (by kernel_rfl) (fun _ _ _ h => h) (Or.inl ⟨by rfl, ?_⟩) ?_
    rotate_left
    · intro w; go_simp; try with_reducible rfl
    simp only [Act.put, List.getElem_toArray, List.getElem_cons_succ, List.getElem_cons_zero, List.setIfInBounds_toArray, List.set_cons_succ, List.set_cons_zero]
    refine wpAny_take (i := 13) (v := ?_) rfl (by kernel_rfl) (by kernel_rfl) (by kernel_rfl) (fun _ _ _ h => h) (Or.inl ⟨by rfl, ?_⟩) ?_
    rotate_left
    · intro w; go_simp; try with_reducible rfl
    simp only [Act.put, List.getElem_toArray, List.getElem_cons_succ, List.getElem_cons_zero, List.setIfInBounds_toArray, List.set_cons_succ, List.set_cons_zero]
    refine wpAny_take (i := 14) (v := ?_) rfl (by kernel_rfl) (by kernel_rfl) (by kernel_rfl) (fun _ _ _ h => h) (Or.inl ⟨by rfl, ?_⟩) ?_
    rotate_left
    · intro w; go_simp; try with_reducible rfl
    simp only [Act.put, List.getElem_toArray, List.getElem_cons_succ, List.getElem_cons_zero, List.setIfInBounds_toArray, List.set_cons_succ, List.set_cons_zero]
    refine wpAny_take (i := 15) (v := ?_) rfl (by kernel_rfl) (by kernel_rfl) (by kernel_rfl) (fun _ _ _ h => h) (Or.inl ⟨by rfl, ?_⟩) ?_
    rotate_left
    · intro w; go_simp; try with_reducible rfl
    simp only [Act.put, List.getElem_toArray, List.getElem_cons_succ, List.getElem_cons_zero, List.setIfInBounds_toArray, List.set_cons_succ, List.set_cons_zero]
    refine wpAny_take (i := 16) (v := ?_) rfl (by kernel_rfl) (by kernel_rfl) (by kernel_rfl) (fun _ _ _ h => h) (Or.inl ⟨by rfl, ?_⟩) ?_
    rotate_left
    · intro w; go_simp; try with_reducible rfl
    simp only [Act.put, List.getElem_toArray, List.getElem_cons_succ, List.getElem_cons_zero, List.setIfInBounds_toArray, List.set_cons_succ, List.set_cons_zero]
    obtain ⟨⟨l0, l1, l2⟩, _⟩ := boxG_cells (blk_below hbl5.out hcur2)
    refine wpAny_two (i := 12) (j := 17) (by kernel_rfl) rfl rfl (fun K hK => ?_) (fun K hK => ?_)
    · go_simp
      refine hK _ _ ?_
      clear hK K
      try simp only [Act.put, List.getElem_toArray, List.getElem_cons_succ, List.getElem_cons_zero, List.setIfInBounds_toArray, List.set_cons_succ, List.set_cons_zero]
      refine wpAny_one (i := 17) (by kernel_rfl) rfl (fun K hK => ?_)
      refine step_make_bool (kl := .i64) (kc := .i64) (L := (m : Int)) (C := (m : Int)) Try.tyBoolsPc (by rfl) rfl m (by first | rfl | simp [Act.eval, Act.put]) (by first | rfl | simp [Act.eval, Act.put]) rfl rfl (by omega) ?_
      intro g6 v2 hmk hv2
      refine hK _ _ ?_
      clear hK K
      try simp only [Act.put, List.getElem_toArray, List.getElem_cons_succ, List.getElem_cons_zero, List.setIfInBounds_toArray, List.set_cons_succ, List.set_cons_zero]
      have hcur3 : Below w5.heap.size w5 v2 := hcur2.trans (hv2.mono hcur2.size)
      have smk := hmk.sb
      refine wpAny_take (i := 18) (v := ?_) rfl (by kernel_rfl) (by kernel_rfl) (by kernel_rfl) (fun _ _ _ h => h) (Or.inl ⟨by rfl, ?_⟩) ?_
      rotate_left
      · intro w; go_simp; try with_reducible rfl
      simp only [Act.put, List.getElem_toArray, List.getElem_cons_succ, List.getElem_cons_zero, List.setIfInBounds_toArray, List.set_cons_succ, List.set_cons_zero]
      refine wpAny_one (i := 19) (by kernel_rfl) rfl (fun K hK => ?_)
      go_simp
      refine (ref_SameStage (r := true) (sy5.below hcur3) smk (by simp)).mono ?_; rintro e v3 ⟨rfl, hv3⟩
      refine hK _ _ ?_
      clear hK K
      have hcur4 : Below w5.heap.size w5 v3 := hcur3.trans (hv3.mono hcur3.size)
      refine wpAny_take (i := 20) (v := ?_) rfl (by kernel_rfl) (by kernel_rfl) (by kernel_rfl) (fun _ _ _ h => h) (Or.inl ⟨by rfl, ?_⟩) ?_
      rotate_left
      · intro w; go_simp; try with_reducible rfl
      simp only [Act.put, List.getElem_toArray, List.getElem_cons_succ, List.getElem_cons_zero, List.setIfInBounds_toArray, List.set_cons_succ, List.set_cons_zero]
      refine wpAny_take (i := 21) (v := ?_) rfl (by kernel_rfl) (by kernel_rfl) (by kernel_rfl) (fun _ _ _ h => h) (Or.inl ⟨by rfl, ?_⟩) ?_
      rotate_left
      · intro w; go_simp; try with_reducible rfl
      simp only [Act.put, List.getElem_toArray, List.getElem_cons_succ, List.getElem_cons_zero, List.setIfInBounds_toArray, List.set_cons_succ, List.set_cons_zero]
      refine wpAny_done (by kernel_rfl) ?_ _
      have T6 := T5.trans (hcur4.mono T5.size)
      go_wp2
      go_ret
      exact ⟨rfl, T6⟩
    · refine step_make_bool (kl := .i64) (kc := .i64) (L := (m : Int)) (C := (m : Int)) Try.tyBoolsPc (by rfl) rfl m (by first | rfl | simp [Act.eval, Act.put]) (by first | rfl | simp [Act.eval, Act.put]) rfl rfl (by omega) ?_
      intro g6 v2 hmk hv2
      refine hK _ _ ?_
      clear hK K
      try simp only [Act.put, List.getElem_toArray, List.getElem_cons_succ, List.getElem_cons_zero, List.setIfInBounds_toArray, List.set_cons_succ, List.set_cons_zero]
      have hcur3 : Below w5.heap.size w5 v2 := hcur2.trans (hv2.mono hcur2.size)
      have smk := hmk.sb
      refine wpAny_take (i := 18) (v := ?_) rfl (by kernel_rfl) (by kernel_rfl) (by kernel_rfl) (fun _ _ _ h => h) (Or.inl ⟨by rfl, ?_⟩) ?_
      rotate_left
      · intro w; go_simp; try with_reducible rfl
      simp only [Act.put, List.getElem_toArray, List.getElem_cons_succ, List.getElem_cons_zero, List.setIfInBounds_toArray, List.set_cons_succ, List.set_cons_zero]
      obtain ⟨⟨l0, l1, l2⟩, _⟩ := boxG_cells (blk_below hbl5.out hcur3)
      refine wpAny_one (i := 12) (by kernel_rfl) rfl (fun K hK => ?_)
      go_simp
      refine hK _ _ ?_
      clear hK K
      try simp only [Act.put, List.getElem_toArray, List.getElem_cons_succ, List.getElem_cons_zero, List.setIfInBounds_toArray, List.set_cons_succ, List.set_cons_zero]
      refine wpAny_one (i := 19) (by kernel_rfl) rfl (fun K hK => ?_)
      go_simp
      refine (ref_SameStage (r := true) (sy5.below hcur3) smk (by simp)).mono ?_; rintro e v3 ⟨rfl, hv3⟩
      refine hK _ _ ?_
      clear hK K
      have hcur4 : Below w5.heap.size w5 v3 := hcur3.trans (hv3.mono hcur3.size)
      refine wpAny_take (i := 20) (v := ?_) rfl (by kernel_rfl) (by kernel_rfl) (by kernel_rfl) (fun _ _ _ h => h) (Or.inl ⟨by rfl, ?_⟩) ?_
      rotate_left
      · intro w; go_simp; try with_reducible rfl
      simp only [Act.put, List.getElem_toArray, List.getElem_cons_succ, List.getElem_cons_zero, List.setIfInBounds_toArray, List.set_cons_succ, List.set_cons_zero]
      refine wpAny_take (i := 21) (v := ?_) rfl (by kernel_rfl) (by kernel_rfl) (by kernel_rfl) (fun _ _ _ h => h) (Or.inl ⟨by rfl, ?_⟩) ?_
      rotate_left
      · intro w; go_simp; try with_reducible rfl
      simp only [Act.put, List.getElem_toArray, List.getElem_cons_succ, List.getElem_cons_zero, List.setIfInBounds_toArray, List.set_cons_succ, List.set_cons_zero]
      refine wpAny_done (by kernel_rfl) ?_ _
      have T6 := T5.trans (hcur4.mono T5.size)
      go_wp2
      go_ret
      exact ⟨rfl, T6⟩

theorem pieceSays_walk {w : World} {s u s2 u2 : Int} {p : Option Addr} {n c : Nat} {hs : List Bool} (hbs : -9223372036854775808 ≤ s ∧ s ≤ 9223372036854775807) (hbu : -9223372036854775808 ≤ u ∧ u ≤ 9223372036854775807) (hb1 : -9223372036854775808 ≤ s2 ∧ s2 ≤ 9223372036854775807) (hb2 : -9223372036854775808 ≤ u2 ∧ u2 ≤ 9223372036854775807) (h : SB w p n c hs) :
    Calls Try.prog 6 #[.int .i64 s, .int .i64 u, aggG s2 u2 p n c] w fun e w' => e = .returned (.bool true) ∧ Below w.heap.size w w' := by
  by_cases h0 : wErr s u = 0
  · exact pieceSays_ok hbs hbu hb1 hb2 h h0 rfl
  · exact pieceSays_bad hbs hbu hb1 hb2 h rfl h0
end Go.Proofs.Ytggpcceljipelaa
