/- copy at rows of elements of k cells each. No program is in sight. Conditions: something is copied. -/
import Derived.Test.YtgbccpfehcjhbaaGreatDoorM14
import Derived.Laws.CopyOwn
import Derived.Test.YtgbccpfehcjhbaaGreatDoorM10
import Derived.Test.YtgbccpfehcjhbaaGreatDoorM15
namespace Go.Proofs.YtgbccpfehcjhbaaGreatDoor
open Go Go.RowKit
set_option linter.unusedSectionVars false
set_option linter.unusedVariables false

section
variable {α : Type} {enc : α → List Value} {k : Nat}
theorem fm_take (hk : ∀ x, (enc x).length = k) : ∀ (L : List α) (j : Nat), (L.flatMap enc).take (j * k) = (L.take j).flatMap enc
  | [], j => by simp
  | x :: r, 0 => by simp
  | x :: r, j + 1 => by
    rw [List.flatMap_cons, List.take_succ_cons, List.flatMap_cons, List.take_append, hk, Nat.add_mul, Nat.one_mul, Nat.add_sub_cancel, fm_take hk r j, List.take_of_length_le (by rw [hk]; omega)]
theorem fm_drop (hk : ∀ x, (enc x).length = k) : ∀ (L : List α) (j : Nat), (L.flatMap enc).drop (j * k) = (L.drop j).flatMap enc
  | [], j => by simp
  | x :: r, 0 => by simp
  | x :: r, j + 1 => by
    rw [List.flatMap_cons, List.drop_succ_cons, List.drop_append, hk, Nat.add_mul, Nat.one_mul, Nat.add_sub_cancel, fm_drop hk r j, List.drop_of_length_le (by rw [hk]; omega)]
    simp
variable [Inhabited α]
theorem run_copy_R {P : Program} (hk : ∀ x, (enc x).length = k) (hk0 : 0 < k) (h1 : ∀ x, ∀ u ∈ enc x, u.oneCell' = true) (w : World) (dT sT ty elem : TypeId) (hu : P.underlying dT = some (.slice elem)) (hs : (P.info? elem).map (·.size) = some k)
    {g o dLen dCap b off sLen sCap : Nat} {L xs : List α} {t : TypeId} (hg : w.heap[g]? = some (.cells (L.flatMap enc).toArray t (0, 0))) (hn : xs.length = Nat.min sLen dLen) (hfit : o + xs.length ≤ L.length)
    (hsrc : ∀ j, j < xs.length → ∀ i, i < k → w.cell? ⟨b, off + j * k + i, none⟩ = (enc (ge xs j))[i]?) :
    (Builtin.copy_ #[dT, sT] ty #[.slice (some ⟨g, o * k, none⟩) dLen dCap, .slice (some ⟨b, off, none⟩) sLen sCap]).run P w = .ok (goInt xs.length) (w.setRow g ((L.take o ++ xs ++ L.drop (o + xs.length)).flatMap enc).toArray) := by
  have hlen : (xs.flatMap enc).length = xs.length * k := fm_len hk xs
  have hl := run_loadCells_list (P := P) w ⟨b, off, none⟩ (xs.flatMap enc) (fun j v hv => by
    have hj : j < xs.length * k := by
      have := (List.getElem?_eq_some_iff.1 hv).1
      omega
    have hjm : j / k < xs.length := (Nat.div_lt_iff_lt_mul hk0).2 hj
    have hji : j % k < k := Nat.mod_lt _ hk0
    have e : (⟨b, off, none⟩ : Addr).add j = ⟨b, off + j, none⟩ := by unfold Addr.add; split <;> simp_all
    have ej : j / k * k + j % k = j := by rw [Nat.mul_comm]; exact Nat.div_add_mod j k
    have h2 := hsrc (j / k) hjm (j % k) hji
    have h3 := fm_get hk xs (j / k) (j % k) hjm hji
    rw [Nat.add_assoc, ej] at h2
    rw [ej] at h3
    rw [e, h2, ← hv, h3, ge_get hjm])
  have hst := run_storeCells_at P g (o * k) t (xs.flatMap enc) 0 (L.flatMap enc).toArray w hg (by
    have h4 : (o + xs.length) * k ≤ L.length * k := Nat.mul_le_mul_right k hfit
    rw [hlen]; simp only [List.size_toArray, fm_len hk]; rw [Nat.add_mul] at h4; omega) (fun v hv => by
      obtain ⟨y, _, hy2⟩ := List.mem_flatMap.1 hv
      exact h1 y v hy2)
  have he : (L.flatMap enc).take (o * k + 0) ++ xs.flatMap enc ++ (L.flatMap enc).drop (o * k + 0 + (xs.flatMap enc).length) = (L.take o ++ xs ++ L.drop (o + xs.length)).flatMap enc := by
    rw [Nat.add_zero, hlen, ← Nat.add_mul, fm_take hk, fm_drop hk, List.flatMap_append, List.flatMap_append]
  cases hq : P.info? elem with
  | none => simp [hq] at hs
  | some i =>
    have hi : i.size = k := by simpa [hq] using hs
    rw [hlen] at hl
    have hst2 := hst
    rw [he] at hst2
    simp [Builtin.copy_, run_underlying hu, Builtin.lenOf, Builtin.firstCells, sizeOf, typeInfo, hq, hi, ← hn, hl, hst2]
theorem wpList_copy_R {P : Program} {w : World} {ops : Array Oper} {rest : List Oper} {o : Oper} {a : Act} {Q : Exit → Act → World → Prop} (hgd : o.guard = none) (d s : Operand) (dT sT elem : TypeId)
    (ho : o.op = .call { callee := .builtin .copy, args := #[d, s], argTypes := #[dT, sT] }) (hk : ∀ x, (enc x).length = k) (hk0 : 0 < k) (h1 : ∀ x, ∀ u ∈ enc x, u.oneCell' = true) (hu : P.underlying dT = some (.slice elem)) (hs : (P.info? elem).map (·.size) = some k)
    {g o1 o' dLen dCap b off sLen sCap : Nat} {L xs : List α} {t : TypeId} (ho' : o' = o1 * k) (hd : a.eval d = .slice (some ⟨g, o', none⟩) dLen dCap) (hs' : a.eval s = .slice (some ⟨b, off, none⟩) sLen sCap) (hg : w.heap[g]? = some (.cells (L.flatMap enc).toArray t (0, 0))) (hn : xs.length = Nat.min sLen dLen) (hfit : o1 + xs.length ≤ L.length)
    (hsrc : ∀ j, j < xs.length → ∀ i, i < k → w.cell? ⟨b, off + j * k + i, none⟩ = (enc (ge xs j))[i]?) {B : Nat} {w0 : World} (hb : Below B w0 w) (hBg : B ≤ g)
    (h : ∀ w', Hid (w'.heap[g]? = some (.cells ((L.take o1 ++ xs ++ L.drop (o1 + xs.length)).flatMap enc).toArray t (0, 0))) → Below B w0 w' → wpList P ops Q rest (a.put o.dst (goInt xs.length)) w') :
    wpList P ops Q (o :: rest) a w := by
  subst ho'
  have hr := run_copy_R (P := P) hk hk0 h1 w dT sT o.type elem hu hs (sCap := sCap) (dCap := dCap) hg hn hfit hsrc
  refine wpList_plain hgd fun K hK => ?_
  unfold Oper.wp execOp
  simp only [ho, resolve, invoke, builtin, Sem.run_bind, Sem.run_pure, Result.andThen_ok, List.map_toArray, List.map_cons, List.map_nil, hd, hs', hr]
  exact hK _ _ (h _ (Lib.hid (setRow_heap w g _ _ t _ hg)) (below_setRow hb hBg _))
theorem step_copy_R {P : Program} {w : World} {ops : Array Oper} {o : Oper} {a : Act} {K : Act → World → Prop} {Q : Exit → Act → World → Prop} {E : Prop} (hgd : o.guard = none) (d s : Operand) (dT sT elem : TypeId)
    (ho : o.op = .call { callee := .builtin .copy, args := #[d, s], argTypes := #[dT, sT] }) (hk : ∀ x, (enc x).length = k) (hk0 : 0 < k) (h1 : ∀ x, ∀ u ∈ enc x, u.oneCell' = true) (hu : P.underlying dT = some (.slice elem)) (hs : (P.info? elem).map (·.size) = some k)
    {g o1 o' dLen dCap b off sLen sCap : Nat} {L xs : List α} {t : TypeId} (ho' : o' = o1 * k) (hd : a.eval d = .slice (some ⟨g, o', none⟩) dLen dCap) (hs' : a.eval s = .slice (some ⟨b, off, none⟩) sLen sCap) (hg : w.heap[g]? = some (.cells (L.flatMap enc).toArray t (0, 0))) (hn : xs.length = Nat.min sLen dLen) (hfit : o1 + xs.length ≤ L.length)
    (hsrc : ∀ j, j < xs.length → ∀ i, i < k → w.cell? ⟨b, off + j * k + i, none⟩ = (enc (ge xs j))[i]?) {B : Nat} {w0 : World} (hb : Below B w0 w) (hBg : B ≤ g)
    (h : ∀ w', Hid (w'.heap[g]? = some (.cells ((L.take o1 ++ xs ++ L.drop (o1 + xs.length)).flatMap enc).toArray t (0, 0))) → Below B w0 w' → K (a.put o.dst (goInt xs.length)) w') :
    if Region.wanted o (yielded ops a.tmps) = true then Oper.wp P o a w K Q else E := by
  subst ho'
  have hw : Region.wanted o (yielded ops a.tmps) = true := by simp [Region.wanted, hgd]
  rw [if_pos hw]
  have hr := run_copy_R (P := P) hk hk0 h1 w dT sT o.type elem hu hs (sCap := sCap) (dCap := dCap) hg hn hfit hsrc
  unfold Oper.wp execOp
  simp only [ho, resolve, invoke, builtin, Sem.run_bind, Sem.run_pure, Result.andThen_ok, List.map_toArray, List.map_cons, List.map_nil, hd, hs', hr]
  exact h _ (Lib.hid (setRow_heap w g _ _ t _ hg)) (below_setRow hb hBg _)
theorem OwnR.wholeR {w : World} {B g n : Nat} {L : List α} {E : TypeId} (h : OwnR E enc k w B (some ⟨g, 0, none⟩) n n L) : w.heap[g]? = some (.cells (L.flatMap enc).toArray E (0, 0)) := by
  rcases h.1.2 with ⟨h', _⟩ | ⟨g', cap', cur, h', _, hg, _, _, hs, htake⟩
  · simp at h'
  · simp only [Value.slice.injEq, Option.some.injEq, Addr.mk.injEq, and_true, true_and] at h'
    obtain ⟨rfl, rfl⟩ := h'
    rw [hg, ← htake, List.take_of_length_le (by simp [hs])]
theorem OwnR.of_wholeR {w : World} {B g n : Nat} {L : List α} {E : TypeId} (h : w.heap[g]? = some (.cells (L.flatMap enc).toArray E (0, 0))) (hk : ∀ x, (enc x).length = k) (hB : B ≤ g) (hl : L.length = n) (hn : n ≤ 1000000) : OwnR E enc k w B (some ⟨g, 0, none⟩) n n L :=
  ⟨⟨by rw [fm_len hk, hl], .inr ⟨g, n, _, rfl, hB, h, Nat.le_refl _, by unfold maxLen; omega, by simp [fm_len hk, hl], by simp [List.take_of_length_le, fm_len hk, hl]⟩⟩, hl⟩
end
end Go.Proofs.YtgbccpfehcjhbaaGreatDoor

/- The contract of slices.Repeat at a list of one peer, and headref.NewWorld. Conditions: the count is from 1 to 8. -/
namespace Go.Proofs.YtgbccpfehcjhbaaGreatDoor
open Go Go.RowKit
set_option linter.unusedVariables false
set_option linter.unusedSimpArgs false

/-- the first m are x -/
def repP (x : Peer) (n m : Nat) : List Peer := tab n fun j => if j < m then x else (0, 0, false)
theorem repP_len (x : Peer) (n m : Nat) : (repP x n m).length = n := tab_length _ _
theorem repP_copy (x : Peer) (n m k : Nat) (h : m + k ≤ n) : (repP x n m).take m ++ List.replicate k x ++ (repP x n m).drop (m + k) = repP x n (m + k) := by
  unfold repP
  apply List.ext_getElem
  · simp [tab]; omega
  · intro j h1 h2
    simp only [tab_length] at h2
    simp only [tab, List.getElem_append, List.length_append, List.length_take, List.length_map, List.length_range, List.length_replicate, List.getElem_take, List.getElem_map, List.getElem_range, List.getElem_replicate, List.getElem_drop]
    split
    · split
      · rw [if_pos (by omega), if_pos (by omega)]
      · rw [if_pos (by omega)]
    · rw [if_neg (by omega), if_neg (by omega)]
theorem rep_one {x : Peer} {n : Nat} (h : 1 ≤ n) : encP x ++ (repP x n 0).tail.flatMap encP = (repP x n 1).flatMap encP := by
  have e := repP_copy x n 0 1 (by omega)
  rw [Nat.zero_add] at e
  rw [← e]
  simp
theorem rep_src {w : World} {b n m k : Nat} {x : Peer} {T : TypeId} (h : w.heap[b]? = some (.cells ((repP x n m).flatMap encP).toArray T (0, 0))) (hk : k ≤ m) (hm : m ≤ n) :
    ∀ j, j < (List.replicate k x).length → ∀ i, i < 3 → w.cell? ⟨b, 0 + j * 3 + i, none⟩ = (encP (ge (List.replicate k x) j))[i]? := by
  intro j hj i hi
  rw [List.length_replicate] at hj
  have h1 := blk_cell h (j * 3 + i)
  have h2 := fm_get encP_len (repP x n m) j i (by rw [repP_len]; omega) hi
  have e1 : ge (List.replicate k x) j = x := by rw [ge_get (by simpa using hj)]; simp
  have e2 : (repP x n m)[j]'(by rw [repP_len]; omega) = x := by simp [repP, tab]; omega
  rw [e2] at h2
  rw [Nat.zero_add, h1, e1, ← h2]
  simp
theorem one_src {w : World} {b : Nat} {x : Peer} {T : TypeId} (h : w.heap[b]? = some (.cells (encP x).toArray T (0, 0))) :
    ∀ j, j < (List.replicate 1 x).length → ∀ i, i < 3 → w.cell? ⟨b, 0 + j * 3 + i, none⟩ = (encP (ge (List.replicate 1 x) j))[i]? := by
  intro j hj i hi
  obtain rfl : j = 0 := by simp at hj; exact hj
  rw [Nat.zero_add, blk_cell h i]
  have e1 : ge (List.replicate 1 x) 0 = x := by rw [ge_get (by simp)]; simp
  rw [e1]; simp
theorem rep_minP (x : Peer) (k a b : Nat) (h : k = min a b) : (List.replicate k x).length = Nat.min a b := by simp; exact h
theorem rep_fitP (x : Peer) (n m k : Nat) (h : m + k ≤ n) : m + (List.replicate k x).length ≤ (repP x n m).length := by rw [repP_len]; simpa using h

set_option maxRecDepth 100000 in
set_option maxHeartbeats 1000000 in
theorem slices_RepeatP {w : World} {x : Peer} {n : Nat} (hpos : 1 ≤ n) (hn : n ≤ 8) :
    Calls Tryz.prog 24 #[.slice (some ⟨w.heap.size, 0, none⟩) 1 1, .int .i64 n] (w.alloc (.cells (encP x).toArray 67)) fun e w' => ∃ g, e = .returned (.slice (some ⟨g, 0, none⟩) n n) ∧ OwnR 67 encP 3 w' w.heap.size (some ⟨g, 0, none⟩) n n (tab n fun _ => x) ∧ Below w.heap.size w w' := by
  have hsz : (Tryz.prog.info? 67).map (·.size) = some 3 := by kernel_rfl
  have hb0 := (Below.refl w.heap.size w).alloc (Nat.le_refl _) (.cells (encP x).toArray 67)
  have hv0 : (w.alloc (.cells (encP x).toArray 67)).heap[w.heap.size]? = some (.cells (encP x).toArray 67 (0, 0)) := blk_new _ _ _
  have hs0 : w.heap.size < (w.alloc (.cells (encP x).toArray 67)).heap.size := by simp
  generalize w.alloc (.cells (encP x).toArray 67) = W at *
  generalize hB : w.heap.size = B at *
  have HB := Lib.hid hB; clear hB
  have HV := Lib.hid hv0; clear hv0
  have HSZ := Lib.hid hsz; clear hsz
  go_enter Tryz.func24, Tryz.ntmps24
  go_wp2_with fail
  refine (bits_Mul1 (by omega)).mono ?_; rintro e w' ⟨rfl, rfl⟩
  go_wp2_with (first | (refine wpL_make_R (z0 := ((0, 0, false) : Peer)) Tryz.tyPeers rfl encP_len (by omega) (by omega) (by omega) rfl rfl (B := W.heap.size) (W0 := W) n (by first | rfl | simp [Act.eval]) (by first | rfl | simp [Act.eval]) rfl rfl (Below.refl _ _) (by omega) (Nat.le_refl _) ?_; intro g w1 hg hown hbel hb1; have HW0 := Lib.hid (show w1.heap[g]? = some (.cells ((repP x n 0).flatMap encP).toArray 67 (0, 0)) by (have := hown.wholeR; rwa [show (tab n fun _ => ((0, 0, false) : Peer)) = repP x n 0 from tab_congr fun j _ => by rw [if_neg (by omega)]] at this)); have HVC := Lib.hid (blk_below HV.out hb1); clear hown hb1) | (refine wpList_copy_R rfl (.tmp 31) (.tmp 32) 64 64 67 rfl encP_len (by omega) encP_oneC Tryz.underlying64 HSZ.out (o1 := 0) (xs := List.replicate 1 x) (L := repP x n 0) (b := B) (off := 0) (g := g) (dLen := n) (dCap := n) (sLen := 1) (sCap := 1) (by rfl) rfl rfl HW0.out (rep_minP x 1 1 n (by omega)) (rep_fitP x n 0 1 (by omega)) (one_src HVC.out) (B := W.heap.size) (w0 := W) hbel hg ?_))
  intro w2 hh2 hb2
  have hw2 : w2.heap[g]? = some (.cells ((repP x n 1).flatMap encP).toArray 67 (0, 0)) := by
    have := hh2.out
    rw [← rep_one hpos]
    exact this
  have HW2 := Lib.hid hw2
  clear hh2 hw2 hbel
  go_wp2
  go_loopw [8] (fun i wr => ∃ m : Nat, 1 ≤ m ∧ m ≤ n ∧ i = .int .i64 m ∧ Hid (wr.heap[g]? = some (.cells ((repP x n m).flatMap encP).toArray 67 (0, 0))) ∧ Below W.heap.size W wr) (fun i _ => n - (intOf i).toNat)
  case atStart => exact ⟨1, by omega, by omega, rfl, HW2, hb2⟩
  case round =>
    obtain ⟨m, hm1, hm, rfl, HR, hb⟩ := hrel
    clear hb2 HW0
    by_cases hmn : m < n
    · have hne : ¬ n = m := by omega
      obtain ⟨k, hk⟩ : ∃ k, k = min m (n - m) := ⟨_, rfl⟩
      have hk1 : 1 ≤ k := by omega
      have hk2 : m + k ≤ n := by omega
      have hk3 : k ≤ m := by omega
      have hwr : IntKind.i64.wrap ((m : Int) + (k : Int)) = (m : Int) + (k : Int) := IntWalk.i64_in _ (by omega)
      have HMIN := Lib.hid (rep_minP x k m (n - m) hk)
      have HSRC := Lib.hid (rep_src HR.out hk3 hm)
      clear hk
      go_wp2
      go_region_law (refine step_copy_R rfl (.tmp 41) (.tmp 44) 64 64 67 rfl encP_len (by omega) encP_oneC Tryz.underlying64 HSZ.out (o1 := m) (o' := m * 3) (xs := List.replicate k x) (L := repP x n m) (b := g) (off := 0) (g := g) (dLen := n - m) (dCap := n - m) (sLen := m) (sCap := n) rfl (by simp [Act.eval, Act.put]) (by simp [Act.eval, Act.put]) (by exact HR.out) HMIN.out (rep_fitP x n m k hk2) (by exact HSRC.out) (B := W.heap.size) (w0 := W) (by exact hb.drew) hg ?_; intro w3 hh3 hb3)
      simp only [Act.put, List.getElem_toArray, List.getElem_cons_succ, List.getElem_cons_zero, List.setIfInBounds_toArray, List.set_cons_succ, List.set_cons_zero]
      rw [List.length_replicate] at *
      go_wp2
      go_roundw
      case rel =>
        refine ⟨m + k, by omega, by omega, by go_num, ?_, hb3⟩
        have := hh3.out
        rw [repP_copy x n m k (by omega)] at this
        exact Lib.hid this
      case measure => simp [intOf]; omega
    · obtain rfl : n = m := by omega
      go_wp2
      go_ret
      have hr := HR.out
      rw [show repP x n n = tab n fun _ => x from tab_congr fun j hj => if_pos hj] at hr
      have hbw := hb0.trans (hb.mono (by omega))
      rw [← HB.out] at hbw
      refine ⟨g, rfl, OwnR.of_wholeR hr encP_len (by omega) (tab_length _ _) (by omega), by rw [HB.out] at hbw; exact hbw⟩

set_option maxHeartbeats 800000 in
theorem ref_NewWorld {w : World} {n : Nat} {rate unit : Int} (h1 : 1 ≤ n) (h2 : n ≤ 8) :
    Calls Tryz.prog 7 #[.int .i64 (n : Int), .int .i64 rate, .int .i64 unit] w fun e w' => ∃ g h, e = .returned (.pointer (some ⟨g, 0, none⟩)) ∧ WorldAt w' 69 w.heap.size g h rate unit n (tab n fun _ => (0, 0, true)) 0 ∧ Below w.heap.size w w' := by
  have HC := Lib.hid (slices_RepeatP (w := w) (x := (0, 0, true)) h1 h2)
  go_enter Tryz.func7, Tryz.ntmps7
  go_wp2_with fail
  refine HC.out.mono ?_; rintro e w1 ⟨h, rfl, ho, hb1⟩
  have hX := blk_new w1 #[.int .i64 rate, .int .i64 unit, .slice (some ⟨h, 0, none⟩) n n, .int .i64 0] 69
  have hoA := ho.alloc (.cells #[.int .i64 rate, .int .i64 unit, .slice (some ⟨h, 0, none⟩) n n, .int .i64 0] 69)
  have hbA := hb1.alloc hb1.size (.cells #[.int .i64 rate, .int .i64 unit, .slice (some ⟨h, 0, none⟩) n n, .int .i64 0] 69)
  have K : WorldAt (w1.alloc (.cells #[.int .i64 rate, .int .i64 unit, .slice (some ⟨h, 0, none⟩) n n, .int .i64 0] 69)) 69 w.heap.size w1.heap.size h rate unit n (tab n fun _ => (0, 0, true)) 0 :=
    ⟨hX, by simpa using hoA, hb1.size, fun e => by have := ho.blk.2; omega⟩
  clear hX hoA ho hb1
  go_wp2
  go_ret
  exact ⟨_, h, rfl, K, hbA⟩
end Go.Proofs.YtgbccpfehcjhbaaGreatDoor
