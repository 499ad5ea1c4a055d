/- copy at rows of elements of k cells each. No program is in sight. Conditions: something is copied. -/
import Derived.Test.YtgnegemiiahkaaaRowMore
import Derived.Laws.CopyOwn
namespace Go.Proofs.Ytgnegemiiahkaaa
open Go Go.RowKit
set_option linter.unusedSectionVars false
set_option linter.unusedVariables false

section
variable {α : Type} {enc : α → List Value} {k : Nat}
theorem fm_take (hk : ∀ x, (enc x).length = k) : ∀ (L : List α) (j : Nat), (L.flatMap enc).take (j * k) = (L.take j).flatMap enc
  | [], j => by simp
  | x :: r, 0 => by simp
  | x :: r, j + 1 => by
    rw [List.flatMap_cons, List.take_succ_cons, List.flatMap_cons, List.take_append, hk, Nat.add_mul, Nat.one_mul, Nat.add_sub_cancel, fm_take hk r j, List.take_of_length_le (by rw [hk]; omega)]
theorem fm_drop (hk : ∀ x, (enc x).length = k) : ∀ (L : List α) (j : Nat), (L.flatMap enc).drop (j * k) = (L.drop j).flatMap enc
  | [], j => by simp
  | x :: r, 0 => by simp
  | x :: r, j + 1 => by
    rw [List.flatMap_cons, List.drop_succ_cons, List.drop_append, hk, Nat.add_mul, Nat.one_mul, Nat.add_sub_cancel, fm_drop hk r j, List.drop_of_length_le (by rw [hk]; omega)]
    simp
variable [Inhabited α]
theorem run_copy_R {P : Program} (hk : ∀ x, (enc x).length = k) (hk0 : 0 < k) (h1 : ∀ x, ∀ u ∈ enc x, u.oneCell' = true) (w : World) (dT sT ty elem : TypeId) (hu : P.underlying dT = some (.slice elem)) (hs : (P.info? elem).map (·.size) = some k)
    {g o dLen dCap b off sLen sCap : Nat} {L xs : List α} {t : TypeId} (hg : w.heap[g]? = some (.cells (L.flatMap enc).toArray t (0, 0))) (hn : xs.length = Nat.min sLen dLen) (hfit : o + xs.length ≤ L.length)
    (hsrc : ∀ j, j < xs.length → ∀ i, i < k → w.cell? ⟨b, off + j * k + i, none⟩ = (enc (ge xs j))[i]?) :
    (Builtin.copy_ #[dT, sT] ty #[.slice (some ⟨g, o * k, none⟩) dLen dCap, .slice (some ⟨b, off, none⟩) sLen sCap]).run P w = .ok (goInt xs.length) (w.setRow g ((L.take o ++ xs ++ L.drop (o + xs.length)).flatMap enc).toArray) := by
  have hlen : (xs.flatMap enc).length = xs.length * k := fm_len hk xs
  have hl := run_loadCells_list (P := P) w ⟨b, off, none⟩ (xs.flatMap enc) (fun j v hv => by
    have hj : j < xs.length * k := by
      have := (List.getElem?_eq_some_iff.1 hv).1
      omega
    have hjm : j / k < xs.length := (Nat.div_lt_iff_lt_mul hk0).2 hj
    have hji : j % k < k := Nat.mod_lt _ hk0
    have e : (⟨b, off, none⟩ : Addr).add j = ⟨b, off + j, none⟩ := by unfold Addr.add; split <;> simp_all
    have ej : j / k * k + j % k = j := by rw [Nat.mul_comm]; exact Nat.div_add_mod j k
    have h2 := hsrc (j / k) hjm (j % k) hji
    have h3 := fm_get hk xs (j / k) (j % k) hjm hji
    rw [Nat.add_assoc, ej] at h2
    rw [ej] at h3
    rw [e, h2, ← hv, h3, ge_get hjm])
  have hst := run_storeCells_at P g (o * k) t (xs.flatMap enc) 0 (L.flatMap enc).toArray w hg (by
    have h4 : (o + xs.length) * k ≤ L.length * k := Nat.mul_le_mul_right k hfit
    rw [hlen]; simp only [List.size_toArray, fm_len hk]; rw [Nat.add_mul] at h4; omega) (fun v hv => by
      obtain ⟨y, _, hy2⟩ := List.mem_flatMap.1 hv
      exact h1 y v hy2)
  have he : (L.flatMap enc).take (o * k + 0) ++ xs.flatMap enc ++ (L.flatMap enc).drop (o * k + 0 + (xs.flatMap enc).length) = (L.take o ++ xs ++ L.drop (o + xs.length)).flatMap enc := by
    rw [Nat.add_zero, hlen, ← Nat.add_mul, fm_take hk, fm_drop hk, List.flatMap_append, List.flatMap_append]
  cases hq : P.info? elem with
  | none => simp [hq] at hs
  | some i =>
    have hi : i.size = k := by simpa [hq] using hs
    rw [hlen] at hl
    have hst2 := hst
    rw [he] at hst2
    simp [Builtin.copy_, run_underlying hu, Builtin.lenOf, Builtin.firstCells, sizeOf, typeInfo, hq, hi, ← hn, hl, hst2]
theorem wpList_copy_R {P : Program} {w : World} {ops : Array Oper} {rest : List Oper} {o : Oper} {a : Act} {Q : Exit → Act → World → Prop} (hgd : o.guard = none) (d s : Operand) (dT sT elem : TypeId)
    (ho : o.op = .call { callee := .builtin .copy, args := #[d, s], argTypes := #[dT, sT] }) (hk : ∀ x, (enc x).length = k) (hk0 : 0 < k) (h1 : ∀ x, ∀ u ∈ enc x, u.oneCell' = true) (hu : P.underlying dT = some (.slice elem)) (hs : (P.info? elem).map (·.size) = some k)
    {g o1 o' dLen dCap b off sLen sCap : Nat} {L xs : List α} {t : TypeId} (ho' : o' = o1 * k) (hd : a.eval d = .slice (some ⟨g, o', none⟩) dLen dCap) (hs' : a.eval s = .slice (some ⟨b, off, none⟩) sLen sCap) (hg : w.heap[g]? = some (.cells (L.flatMap enc).toArray t (0, 0))) (hn : xs.length = Nat.min sLen dLen) (hfit : o1 + xs.length ≤ L.length)
    (hsrc : ∀ j, j < xs.length → ∀ i, i < k → w.cell? ⟨b, off + j * k + i, none⟩ = (enc (ge xs j))[i]?) {B : Nat} {w0 : World} (hb : Below B w0 w) (hBg : B ≤ g)
    (h : ∀ w', Hid (w'.heap[g]? = some (.cells ((L.take o1 ++ xs ++ L.drop (o1 + xs.length)).flatMap enc).toArray t (0, 0))) → Below B w0 w' → wpList P ops Q rest (a.put o.dst (goInt xs.length)) w') :
    wpList P ops Q (o :: rest) a w := by
  subst ho'
  have hr := run_copy_R (P := P) hk hk0 h1 w dT sT o.type elem hu hs (sCap := sCap) (dCap := dCap) hg hn hfit hsrc
  refine wpList_plain hgd fun K hK => ?_
  unfold Oper.wp execOp
  simp only [ho, resolve, invoke, builtin, Sem.run_bind, Sem.run_pure, Result.andThen_ok, List.map_toArray, List.map_cons, List.map_nil, hd, hs', hr]
  exact hK _ _ (h _ (Lib.hid (setRow_heap w g _ _ t _ hg)) (below_setRow hb hBg _))
theorem step_copy_R {P : Program} {w : World} {ops : Array Oper} {o : Oper} {a : Act} {K : Act → World → Prop} {Q : Exit → Act → World → Prop} {E : Prop} (hgd : o.guard = none) (d s : Operand) (dT sT elem : TypeId)
    (ho : o.op = .call { callee := .builtin .copy, args := #[d, s], argTypes := #[dT, sT] }) (hk : ∀ x, (enc x).length = k) (hk0 : 0 < k) (h1 : ∀ x, ∀ u ∈ enc x, u.oneCell' = true) (hu : P.underlying dT = some (.slice elem)) (hs : (P.info? elem).map (·.size) = some k)
    {g o1 o' dLen dCap b off sLen sCap : Nat} {L xs : List α} {t : TypeId} (ho' : o' = o1 * k) (hd : a.eval d = .slice (some ⟨g, o', none⟩) dLen dCap) (hs' : a.eval s = .slice (some ⟨b, off, none⟩) sLen sCap) (hg : w.heap[g]? = some (.cells (L.flatMap enc).toArray t (0, 0))) (hn : xs.length = Nat.min sLen dLen) (hfit : o1 + xs.length ≤ L.length)
    (hsrc : ∀ j, j < xs.length → ∀ i, i < k → w.cell? ⟨b, off + j * k + i, none⟩ = (enc (ge xs j))[i]?) {B : Nat} {w0 : World} (hb : Below B w0 w) (hBg : B ≤ g)
    (h : ∀ w', Hid (w'.heap[g]? = some (.cells ((L.take o1 ++ xs ++ L.drop (o1 + xs.length)).flatMap enc).toArray t (0, 0))) → Below B w0 w' → K (a.put o.dst (goInt xs.length)) w') :
    if Region.wanted o (yielded ops a.tmps) = true then Oper.wp P o a w K Q else E := by
  subst ho'
  have hw : Region.wanted o (yielded ops a.tmps) = true := by simp [Region.wanted, hgd]
  rw [if_pos hw]
  have hr := run_copy_R (P := P) hk hk0 h1 w dT sT o.type elem hu hs (sCap := sCap) (dCap := dCap) hg hn hfit hsrc
  unfold Oper.wp execOp
  simp only [ho, resolve, invoke, builtin, Sem.run_bind, Sem.run_pure, Result.andThen_ok, List.map_toArray, List.map_cons, List.map_nil, hd, hs', hr]
  exact h _ (Lib.hid (setRow_heap w g _ _ t _ hg)) (below_setRow hb hBg _)
theorem OwnR.wholeR {w : World} {B g n : Nat} {L : List α} {E : TypeId} (h : OwnR E enc k w B (some ⟨g, 0, none⟩) n n L) : w.heap[g]? = some (.cells (L.flatMap enc).toArray E (0, 0)) := by
  rcases h.1.2 with ⟨h', _⟩ | ⟨g', cap', cur, h', _, hg, _, _, hs, htake⟩
  · simp at h'
  · simp only [Value.slice.injEq, Option.some.injEq, Addr.mk.injEq, and_true, true_and] at h'
    obtain ⟨rfl, rfl⟩ := h'
    rw [hg, ← htake, List.take_of_length_le (by simp [hs])]
theorem OwnR.of_wholeR {w : World} {B g n : Nat} {L : List α} {E : TypeId} (h : w.heap[g]? = some (.cells (L.flatMap enc).toArray E (0, 0))) (hk : ∀ x, (enc x).length = k) (hB : B ≤ g) (hl : L.length = n) (hn : n ≤ 1000000) : OwnR E enc k w B (some ⟨g, 0, none⟩) n n L :=
  ⟨⟨by rw [fm_len hk, hl], .inr ⟨g, n, _, rfl, hB, h, Nat.le_refl _, by unfold maxLen; omega, by simp [fm_len hk, hl], by simp [List.take_of_length_le, fm_len hk, hl]⟩⟩, hl⟩
end
end Go.Proofs.Ytgnegemiiahkaaa
