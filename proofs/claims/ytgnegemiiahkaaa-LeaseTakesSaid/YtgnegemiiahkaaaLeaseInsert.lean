/- The contract of slices.Insert at []api.Lease, one element into a row that the call owns. Conditions: at most 8 elements. -/
import Derived.Test.YtgnegemiiahkaaaInsertLaw
import Derived.Test.YtgnegemiiahkaaaLeaseLive
import Derived.Test.YtgnegemiiahkaaaTaskRow
import Derived.RegionTactic
import Derived.BigRegion
import Derived.Deep.RegionLaw
import Derived.IntWalk
import Derived.Laws.Externs
namespace Go.Proofs.Ytgnegemiiahkaaa
open Go Go.RowKit
set_option linter.unusedVariables false
set_option linter.unusedSimpArgs false

def InsPost (w : World) (B n : Nat) (R : List (Int × Int × Int)) (e : Ending) (w' : World) : Prop :=
  ∃ q' d', e = .returned (.slice q' (n + 1) d') ∧ OwnR 33 enc3 3 w' B q' (n + 1) d' R ∧ Below B w w'
theorem enc3_one' (x : Int × Int × Int) : ∀ v ∈ enc3 x, v.oneCell' = true := enc3_one x

set_option maxHeartbeats 800000 in
set_option maxRecDepth 100000 in
theorem insert_end {w : World} {B n d : Nat} {q : Option Addr} {L : List (Int × Int × Int)} {x : Int × Int × Int} (ho : OwnR 33 enc3 3 w B q n d L) (hB : B ≤ w.heap.size) (hn : n ≤ 8) :
    Calls Try.prog 81 #[.slice q n d, .int .i64 (n : Int), .slice (some ⟨w.heap.size, 0, none⟩) 1 1] (w.alloc (.cells (enc3 x).toArray 33)) (InsPost w B n (L ++ [x])) := by
  have hm := (ho.sr enc3_len).2.1
  go_enter Try.func81, Try.ntmps81
  cases q with
  | none =>
    obtain rfl : n = 0 := by
      apply Classical.byContradiction
      intro h0
      obtain ⟨g, hg⟩ := ho.addr (by omega)
      cases hg
    go_wp2_with (at_builtin; refine wpL_push_R Try.tyLeases rfl (by omega) (by omega) enc3_len enc3_one rfl (B := B) (W0 := w) rfl x rfl rfl ho (Below.refl _ _) (by omega) hB ?_; intro p' c' w3 ho1 hb3 hg1 ha1)
    go_ret
    exact ⟨_, _, rfl, ho1, hb3⟩
  | some a =>
    have hd63 : d ≤ 9223372036854775807 := hm.2
    go_wp2_with (at_builtin; refine wpL_push_R Try.tyLeases rfl (by omega) (by omega) enc3_len enc3_one rfl (B := B) (W0 := w) rfl x rfl rfl ho (Below.refl _ _) (by omega) hB ?_; intro p' c' w3 ho1 hb3 hg1 ha1)
    all_goals
      go_ret
      exact ⟨_, _, rfl, ho1, hb3⟩

theorem srcL {w : World} {B g n d i : Nat} {L : List (Int × Int × Int)} (ho : OwnR 33 enc3 3 w B (some ⟨g, 0, none⟩) n d L) (hi : i ≤ n) : ∀ j v, ((L.drop i).flatMap enc3)[j]? = some v → w.cell? ⟨g, i * 3 + j, none⟩ = some v := by
  intro j v hj
  have hl := ho.len
  rw [← fm_drop enc3_len, List.getElem?_drop] at hj
  have hlt : i * 3 + j < n * 3 := by
    have := (List.getElem?_eq_some_iff.1 hj).1
    rw [fm_len enc3_len, hl] at this
    exact this
  rw [ho.1.cellAt (i * 3 + j) hlt, hj]
theorem lenD {n i : Nat} {L : List (Int × Int × Int)} (hl : L.length = n) : ((L.drop i).flatMap enc3).length = (n - i) * 3 := by rw [fm_len enc3_len, List.length_drop, hl]
theorem oneD (L : List (Int × Int × Int)) : ∀ v ∈ L.flatMap enc3, v.oneCell' = true := fun v hv => by
  obtain ⟨y, _, hy⟩ := List.mem_flatMap.1 hv
  exact enc3_one y v hy
theorem joinL (L : List (Int × Int × Int)) (i : Nat) (x : Int × Int × Int) : (L.take i).flatMap enc3 ++ enc3 x ++ (L.drop i).flatMap enc3 = (L.take i ++ x :: L.drop i).flatMap enc3 := by
  rw [List.flatMap_append, List.flatMap_cons, List.append_assoc]
theorem boxSrc {w : World} {b : Nat} {x : Int × Int × Int} {T : TypeId} (h : w.heap[b]? = some (.cells (enc3 x).toArray T (0, 0))) : ∀ j v, (enc3 x)[j]? = some v → w.cell? ⟨b, 0 + j, none⟩ = some v := by
  intro j v hj
  rw [Nat.zero_add, blk_cell h j, List.getElem?_toArray]
  exact hj

theorem zrow {w : World} {B g n i : Nat} {L : List (Int × Int × Int)} {x : Int × Int × Int} (ho : OwnR 33 enc3 3 w B (some ⟨g, 0, none⟩) n n L) (hn : n ≤ 8) (hi : i < n) :
    ∃ (G : Nat) (cur : List Value), (∀ ty, (Builtin.append_ #[22, 3] ty #[.slice (some ⟨g, 0, none⟩) i n, .int .i64 ((n : Int) + 1 - (i : Int))]).run Try.prog (w.alloc (.cells (enc3 x).toArray 33)) = .ok (.slice (some ⟨w.heap.size + 1, 0, none⟩) (n + 1) G) (((w.alloc (.cells (enc3 x).toArray 33)).drew).alloc (.cells cur.toArray 33))) ∧ n + 1 ≤ G ∧ G ≤ maxLen ∧ cur.length = G * 3 ∧ cur.take (i * 3) = (L.take i).flatMap enc3 := by
  obtain ⟨i0, hi0, hz0, hzs, hzb⟩ := info_parts (Try.tyLeases).info
  have hl := ho.len
  have hgb := ho.blk
  have hlen : ((L.take i).flatMap enc3).length = i * 3 := by rw [fm_len enc3_len, List.length_take, hl, Nat.min_eq_left (by omega)]
  have hold : (Builtin.firstCells i0.size i (.slice (some ⟨g, 0, none⟩) i n)).run Try.prog (w.alloc (.cells (enc3 x).toArray 33)).drew = .ok ((L.take i).flatMap enc3).toArray (w.alloc (.cells (enc3 x).toArray 33)).drew := by
    rw [hzs]
    refine run_firstCells_some _ 3 i ⟨g, 0, none⟩ i n _ hlen (fun j v hj => ?_)
    have e : (⟨g, 0, none⟩ : Addr).add j = ⟨g, j, none⟩ := by unfold Addr.add; split <;> simp_all
    have hji : j < i * 3 := by
      have := (List.getElem?_eq_some_iff.1 hj).1
      omega
    rw [← fm_take enc3_len, List.getElem?_take_of_lt hji] at hj
    have h1 := ho.1.cellAt j (by omega)
    rw [e, ← hj, ← h1]
    exact bdeep ((Below.refl w.heap.size w).alloc (Nat.le_refl _) _) hgb.2 j
  have hz : i0.zero = some (.agg #[.int .i64 0, .int .i64 0, .int .i64 0]) := hz0
  have hr := fun ty => Lib.run_append_grow_zeros (P := Try.prog) (w.alloc (.cells (enc3 x).toArray 33)) 22 3 ty 33 i0 _ .i64 .i64 Try.underlying22 Try.underlying3 hi0 hz (some ⟨g, 0, none⟩) i n _ hold (n + 1 - i) (by omega) (by omega) (by omega) (by omega) (by rw [hzb]; omega) (by rw [hzb]; exact growslice_fits (by omega) (by omega))
  have e1 : i + (n + 1 - i) = n + 1 := by omega
  have e2 : ((n + 1 - i : Nat) : Int) = (n : Int) + 1 - (i : Int) := by omega
  rw [e1] at hr
  simp only [e2] at hr
  obtain ⟨G, hG⟩ : ∃ G, grownCap (w.alloc (.cells (enc3 x).toArray 33)) (n + 1) n 33 = G := ⟨_, rfl⟩
  have hG1 : n + 1 ≤ G := by rw [← hG]; exact grownCap_ge _ _ _ _
  have hG2 : G ≤ maxLen := by rw [← hG]; exact grownCap_le_maxLen _ _ _ _ (by unfold maxLen; omega)
  rw [hG] at hr
  have hs : (w.alloc (.cells (enc3 x).toArray 33)).heap.size = w.heap.size + 1 := by simp
  rw [hs] at hr
  obtain ⟨A, hA⟩ : ∃ A, ((L.take i).flatMap enc3).toArray ++ Builtin.zeroCells (Value.agg #[.int .i64 0, .int .i64 0, .int .i64 0]).cells (n + 1 - i) ++ Builtin.zeroCells (Value.agg #[.int .i64 0, .int .i64 0, .int .i64 0]).cells (G - (n + 1)) = A := ⟨_, rfl⟩
  rw [hA] at hr
  have hz3 : ∀ m, (Builtin.zeroCells (Value.agg #[.int .i64 0, .int .i64 0, .int .i64 0]).cells m).size = m * 3 := by
    intro m; simp [Builtin.zeroCells, Value.cells, Nat.mul_comm]
  refine ⟨G, A.toList, fun ty => by rw [hr ty, Array.toArray_toList], hG1, hG2, ?_, ?_⟩
  · rw [← hA]
    simp only [Array.length_toList, Array.size_append, List.size_toArray, hlen, hz3]
    omega
  · rw [← hA]
    simp only [Array.toList_append, List.append_assoc]
    rw [List.take_append_of_le_length (by simp only [hlen]; omega), List.take_of_length_le (by simp only [hlen]; omega)]

set_option maxHeartbeats 1600000 in
set_option maxRecDepth 100000 in
theorem insert_grow {w : World} {B g n i : Nat} {L : List (Int × Int × Int)} {x : Int × Int × Int} (ho : OwnR 33 enc3 3 w B (some ⟨g, 0, none⟩) n n L) (hB : B ≤ w.heap.size) (hn : n ≤ 8) (hi : i < n) :
    Calls Try.prog 81 #[.slice (some ⟨g, 0, none⟩) n n, .int .i64 (i : Int), .slice (some ⟨w.heap.size, 0, none⟩) 1 1] (w.alloc (.cells (enc3 x).toArray 33)) (InsPost w B n (L.take i ++ x :: L.drop i)) := by
  have hsz : (Try.prog.info? 33).map (·.size) = some 3 := by kernel_rfl
  have HSZ := Lib.hid hsz
  have hl := ho.len
  have hgb := ho.blk
  obtain ⟨G, cur, hrz, hG1, hG2, hc1, hc2⟩ := zrow (x := x) ho hn hi
  have HRZ := Lib.hid hrz
  have HC2 := Lib.hid hc2
  have HB1 := Lib.hid ((Below.refl w.heap.size w).alloc (Nat.le_refl _) (.cells (enc3 x).toArray 33))
  have HBX := Lib.hid (blk_new w (enc3 x).toArray 33)
  have HS1 : Hid ((w.alloc (.cells (enc3 x).toArray 33)).heap.size = w.heap.size + 1) := Lib.hid (by simp)
  clear hsz hrz hc2
  generalize w.alloc (.cells (enc3 x).toArray 33) = W at *
  have HBZ := Lib.hid ((Below.refl W.heap.size W).drew.alloc (Nat.le_refl _) (.cells cur.toArray 33))
  have HBN := Lib.hid (show (W.drew.alloc (.cells cur.toArray 33)).heap[w.heap.size + 1]? = some (.cells cur.toArray 33 (0, 0)) by rw [← HS1.out]; exact blk_new W.drew cur.toArray 33)
  have HBT := Lib.hid (HB1.out.trans (HBZ.out.mono (by rw [HS1.out]; omega)))
  have HBX2 := Lib.hid (blk_below HBX.out HBZ.out)
  have hGm : G ≤ 9223372036854775807 := by have := hG2; unfold maxLen at this; omega
  go_enter Try.func81, Try.ntmps81
  go_wp2_with (first | (at_builtin; refine Lib.wpList_append_run _ rfl _ _ _ _ rfl _ _ rfl rfl _ _ (HRZ.out _) ?_) | (refine wpList_copy_W rfl _ _ 22 22 33 rfl Try.underlying22 HSZ.out (g := w.heap.size + 1) (o' := i * 3) (b := w.heap.size) (off := 0) (sLen := 1) (sCap := 1) (dLen := n + 1 - i) (dCap := G - i) (m := 1) (cs := enc3 x) rfl rfl HBN.out (by show 1 = min 1 (n + 1 - i); omega) rfl (by show i * 3 + 3 ≤ _; omega) (boxSrc HBX2.out) (enc3_one x) (B := w.heap.size) (w0 := w) HBT.out (by omega) ?_; intro w5 hh5 hb5 _))
  have HSRC := Lib.hid (srcL (ho.below hb5) (Nat.le_of_lt hi))
  have hw1 : IntKind.i64.wrap ((i : Int) + 1) = (i : Int) + 1 := IntWalk.i64_in _ (by omega)
  have hq1 : (0 : Int) ≤ (i : Int) + 1 := by omega
  have hq2 : (i : Int) + 1 ≤ (n : Int) + 1 := by omega
  have hq3 : ((i : Int) + 1).toNat = i + 1 := by omega
  have hq4 : ¬ G = i + 1 := by omega
  have hq5 : ¬ n = i := by omega
  have hq6 : i ≤ n := by omega
  simp only [Act.put, List.getElem_toArray, List.getElem_cons_succ, List.getElem_cons_zero, List.setIfInBounds_toArray, List.set_cons_succ, List.set_cons_zero]
  go_region_law (refine step_copy_W rfl _ _ 22 22 33 rfl Try.underlying22 HSZ.out (g := w.heap.size + 1) (o' := (i + 1) * 3) (b := g) (off := i * 3) (sLen := n - i) (sCap := n - i) (dLen := n + 1 - (i + 1)) (dCap := G - (i + 1)) (m := n - i) (cs := (L.drop i).flatMap enc3) (by simp [Act.eval, Act.put]) (by simp [Act.eval, Act.put]) (by exact hh5.out) (by show n - i = min (n - i) (n + 1 - (i + 1)); omega) (lenD hl) (by rw [lenD hl]; simp; omega) (by exact HSRC.out) (oneD _) (B := w.heap.size) (w0 := w) (by exact hb5.drew) (by omega) ?_; intro w6 hh6 hb6 _)
  have hh7 := hh6.out
  rw [show (i + 1) * 3 = i * 3 + 3 by omega] at hh7
  obtain ⟨R1, R2⟩ := rowB (cur := cur) (X := enc3 x) (C := (L.drop i).flatMap enc3) (a := i * 3) (b := 3) (c := (n - i) * 3) (by omega) rfl (lenD hl)
  rw [show i * 3 + 3 + (n - i) * 3 = (n + 1) * 3 by omega] at R1
  have HO := Lib.hid (OwnR.make (B := B) (n := n + 1) enc3_len (by omega) hh7 hG1 hG2 (by rw [R2, hc1]) (R1.trans (by rw [HC2.out]; exact joinL L i x)) (by rw [List.length_append, List.length_take, List.length_cons, List.length_drop, hl]; omega))
  have HBB := Lib.hid (hb6.mono hB)
  clear R1 R2 hh7 hh6 hb6
  go_wp2
  go_ret
  exact ⟨_, _, rfl, HO.out, HBB.out⟩

set_option maxHeartbeats 1600000 in
set_option maxRecDepth 100000 in
theorem insert_room {w : World} {B g n d i : Nat} {L : List (Int × Int × Int)} {x : Int × Int × Int} (ho : OwnR 33 enc3 3 w B (some ⟨g, 0, none⟩) n d L) (hB : B ≤ w.heap.size) (hn : n ≤ 8) (hi : i < n) (hd : n + 1 ≤ d) :
    Calls Try.prog 81 #[.slice (some ⟨g, 0, none⟩) n d, .int .i64 (i : Int), .slice (some ⟨w.heap.size, 0, none⟩) 1 1] (w.alloc (.cells (enc3 x).toArray 33)) (InsPost w B n (L.take i ++ x :: L.drop i)) := by
  have hsz : (Try.prog.info? 33).map (·.size) = some 3 := by kernel_rfl
  have HSZ := Lib.hid hsz
  have hl := ho.len
  have hgb := ho.blk
  obtain ⟨cur, hcur, hc0, hc1, hc2, hc3⟩ := ho.open
  have hd63 : d ≤ 9223372036854775807 := by have := hc1; unfold maxLen at this; omega
  have HC3 := Lib.hid hc3
  have HBX := Lib.hid (blk_new w (enc3 x).toArray 33)
  have HB1 := Lib.hid ((Below.refl w.heap.size w).alloc (Nat.le_refl _) (.cells (enc3 x).toArray 33))
  have HOA := Lib.hid (ho.alloc (.cells (enc3 x).toArray 33))
  have HBB := Lib.hid ((Below.refl B w).alloc hB (.cells (enc3 x).toArray 33))
  have HCU := Lib.hid (blk_alloc (o' := .cells (enc3 x).toArray 33) hcur)
  clear hsz hc3 hcur
  have hgw : g ≠ w.heap.size := by omega
  have hov : ∀ lb cb, (Extern.SlicesOverlaps.overlaps #[22, 22] #[4] #[.slice (some ⟨w.heap.size, 0, none⟩) 1 1, .slice (some ⟨g, (i + 1) * 3, none⟩) lb cb]).run Try.prog (w.alloc (.cells (enc3 x).toArray 33)) = .ok (.bool false) (w.alloc (.cells (enc3 x).toArray 33)) := fun lb cb =>
    Lib.run_overlaps_apart _ 22 4 33 Try.underlying22 3 (fun w => Try.sizeOf33 w) ⟨w.heap.size, 0, none⟩ ⟨g, (i + 1) * 3, none⟩ 1 1 lb cb (fun e => hgw e.symm) 33 33 3 cur.length (by unfold World.shape?; rw [HBX.out]; rfl) (by unfold World.shape?; rw [HCU.out]; rfl) (by omega) (blk_free HBX.out 0) (blk_free HBX.out 3)
  have HOV : Hid (∀ lb cb, (callFunc 94 #[.slice (some ⟨w.heap.size, 0, none⟩) 1 1, .slice (some ⟨g, (i + 1) * 3, none⟩) lb cb]).run Try.prog (w.alloc (.cells (enc3 x).toArray 33)) = .ok (.value (.bool false)) (w.alloc (.cells (enc3 x).toArray 33))) := Lib.hid (fun lb cb => by
    rw [run_callFunc_extern Try.func94 (by kernel_rfl) (by kernel_rfl) (by kernel_rfl) (e := Extern.SlicesOverlaps.overlaps #[22, 22] #[4]) (by kernel_rfl), hov]
    rfl)
  clear hov
  have hov := HOV.out
  generalize w.alloc (.cells (enc3 x).toArray 33) = W at *
  have hw1 : IntKind.i64.wrap ((i : Int) + 1) = (i : Int) + 1 := IntWalk.i64_in _ (by omega)
  have hq1 : (0 : Int) ≤ (i : Int) + 1 := by omega
  have hq2 : (i : Int) + 1 ≤ (n : Int) + 1 := by omega
  have hq3 : ((i : Int) + 1).toNat = i + 1 := by omega
  have hq4 : ¬ d = i + 1 := by omega
  have hq7 : (i : Int) ≤ (n : Int) + 1 := by omega
  have hq5 : ¬ d = i := by omega
  have hq6 : i ≤ n := by omega
  go_enter Try.func81, Try.ntmps81
  go_wp2
  have HSRC := Lib.hid (srcL HOA.out hq6)
  go_region_law (refine step_copy_W rfl _ _ 22 22 33 rfl Try.underlying22 HSZ.out (g := g) (o' := (i + 1) * 3) (b := g) (off := i * 3) (sLen := n + 1 - i) (sCap := d - i) (dLen := n + 1 - (i + 1)) (dCap := d - (i + 1)) (m := n - i) (cs := (L.drop i).flatMap enc3) (by simp [Act.eval, Act.put]) (by simp [Act.eval, Act.put]) (by exact HCU.out) (by show n - i = min (n + 1 - i) (n + 1 - (i + 1)); omega) (lenD hl) (by rw [lenD hl, hc2]; omega) (by exact HSRC.out) (oneD _) (B := B) (w0 := w) (by exact HBB.out.drew) (by omega) ?_; intro w5 hh5 hb5 hs5)
  have HBX5 := Lib.hid ((hs5 w.heap.size (fun e => hgw e.symm)).trans HBX.out)
  clear hs5
  obtain ⟨cur2, hcur2⟩ : ∃ c, cur.take ((i + 1) * 3) ++ (L.drop i).flatMap enc3 ++ cur.drop ((i + 1) * 3 + ((L.drop i).flatMap enc3).length) = c := ⟨_, rfl⟩
  have HC := Lib.hid hcur2
  rw [hcur2] at hh5
  have hlen2 : cur2.length = d * 3 := by
    rw [← hcur2, List.length_append, List.length_append, List.length_take, List.length_drop, lenD hl, hc2]; omega
  clear hcur2
  go_wp2_with (refine wpList_copy_W rfl _ _ 22 22 33 rfl Try.underlying22 HSZ.out (g := g) (o' := i * 3) (b := w.heap.size) (off := 0) (sLen := 1) (sCap := 1) (dLen := n + 1 - i) (dCap := d - i) (m := 1) (cs := enc3 x) rfl rfl hh5.out (by show 1 = min 1 (n + 1 - i); omega) rfl (by show i * 3 + 3 ≤ _; omega) (boxSrc HBX5.out) (enc3_one x) (B := B) (w0 := w) hb5 (by omega) ?_; intro w6 hh6 hb6 _)
  have hh7 := hh6.out
  obtain ⟨R1, R2⟩ := rowC (cur := cur) (X := enc3 x) (C := (L.drop i).flatMap enc3) (a := i * 3) (b := 3) (c := (n - i) * 3) (by omega) rfl (lenD hl)
  rw [show i * 3 + 3 = (i + 1) * 3 by omega, HC.out] at R1 R2
  rw [show (i + 1) * 3 + (n - i) * 3 = (n + 1) * 3 by omega] at R1
  have HO := Lib.hid (OwnR.make (B := B) (n := n + 1) enc3_len (by omega) hh7 hd hc1 (by rw [R2, hc2]) (R1.trans (by rw [← joinL, ← fm_take enc3_len L i, ← HC3.out, List.take_take, Nat.min_eq_left (by omega)])) (by rw [List.length_append, List.length_take, List.length_cons, List.length_drop, hl]; omega))
  have HB6 := Lib.hid hb6
  clear R1 R2 hh7 hh6 hb6
  go_wp2
  go_ret
  exact ⟨_, _, rfl, HO.out, HB6.out⟩

theorem insert_Lease {w : World} {B n d i : Nat} {q : Option Addr} {L : List (Int × Int × Int)} {x : Int × Int × Int} (ho : OwnR 33 enc3 3 w B q n d L) (hB : B ≤ w.heap.size) (hn : n ≤ 8) (hi : i ≤ n) :
    Calls Try.prog 81 #[.slice q n d, .int .i64 (i : Int), .slice (some ⟨w.heap.size, 0, none⟩) 1 1] (w.alloc (.cells (enc3 x).toArray 33)) (InsPost w B n (L.take i ++ x :: L.drop i)) := by
  by_cases h : i < n
  · obtain ⟨g, rfl⟩ := ho.addr (by omega)
    by_cases h2 : n + 1 ≤ d
    · exact insert_room ho hB hn h h2
    · have := (ho.sr enc3_len).2.1.1
      obtain rfl : d = n := by omega
      exact insert_grow ho hB hn h
  · obtain rfl : i = n := by omega
    have hl := ho.len
    rw [List.take_of_length_le (by omega), List.drop_of_length_le (by omega)]
    exact insert_end ho hB hn
end Go.Proofs.Ytgnegemiiahkaaa
