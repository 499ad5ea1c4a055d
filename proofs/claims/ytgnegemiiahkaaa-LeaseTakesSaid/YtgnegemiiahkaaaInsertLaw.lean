/- copy at rows by their cells, and how three parts make a row. No program is in sight. Conditions: something is copied. -/
import Derived.Test.YtgnegemiiahkaaaRowMore
import Derived.Test.YtgnegemiiahkaaaCopyR
import Derived.Laws.CopyOwn
import Derived.Lib.AppendZerosOnto
import Derived.Lib.AppendZeros
import Derived.Lib.Overlaps
namespace Go.Proofs.Ytgnegemiiahkaaa
open Go Go.RowKit
set_option linter.unusedVariables false

theorem run_copy_W {P : Program} {k : Nat} (w : World) (dT sT ty elem : TypeId) (hu : P.underlying dT = some (.slice elem)) (hs : (P.info? elem).map (·.size) = some k)
    {g o' dLen dCap b off sLen sCap m : Nat} {cur cs : List Value} {t : TypeId} (hg : w.heap[g]? = some (.cells cur.toArray t (0, 0))) (hm : m = Nat.min sLen dLen) (hlen : cs.length = m * k) (hfit : o' + cs.length ≤ cur.length)
    (hsrc : ∀ j v, cs[j]? = some v → w.cell? ⟨b, off + j, none⟩ = some v) (h1 : ∀ v ∈ cs, v.oneCell' = true) :
    (Builtin.copy_ #[dT, sT] ty #[.slice (some ⟨g, o', none⟩) dLen dCap, .slice (some ⟨b, off, none⟩) sLen sCap]).run P w = .ok (goInt m) (w.setRow g (cur.take o' ++ cs ++ cur.drop (o' + cs.length)).toArray) := by
  have hl := run_loadCells_list (P := P) w ⟨b, off, none⟩ cs (fun j v hv => by
    have e : (⟨b, off, none⟩ : Addr).add j = ⟨b, off + j, none⟩ := by unfold Addr.add; split <;> simp_all
    rw [e]; exact hsrc j v hv)
  have hst := run_storeCells_at P g o' t cs 0 cur.toArray w hg (by simpa using hfit) h1
  simp only [Nat.add_zero] at hst
  cases hq : P.info? elem with
  | none => simp [hq] at hs
  | some i =>
    have hi : i.size = k := by simpa [hq] using hs
    rw [hlen] at hl
    simp [Builtin.copy_, run_underlying hu, Builtin.lenOf, Builtin.firstCells, sizeOf, typeInfo, hq, hi, ← hm, hl, hst]

theorem wp_copy_W {P : Program} {w : World} {o : Oper} {a : Act} {K : Act → World → Prop} {Q : Exit → Act → World → Prop} {k : Nat} (d s : Operand) (dT sT elem : TypeId)
    (ho : o.op = .call { callee := .builtin .copy, args := #[d, s], argTypes := #[dT, sT] }) (hu : P.underlying dT = some (.slice elem)) (hs : (P.info? elem).map (·.size) = some k)
    {g o' dLen dCap b off sLen sCap m : Nat} {cur cs : List Value} {t : TypeId} (hd : a.eval d = .slice (some ⟨g, o', none⟩) dLen dCap) (hs' : a.eval s = .slice (some ⟨b, off, none⟩) sLen sCap) (hg : w.heap[g]? = some (.cells cur.toArray t (0, 0))) (hm : m = Nat.min sLen dLen) (hlen : cs.length = m * k) (hfit : o' + cs.length ≤ cur.length)
    (hsrc : ∀ j v, cs[j]? = some v → w.cell? ⟨b, off + j, none⟩ = some v) (h1 : ∀ v ∈ cs, v.oneCell' = true) {B : Nat} {w0 : World} (hb : Below B w0 w) (hBg : B ≤ g)
    (h : ∀ w', Hid (w'.heap[g]? = some (.cells (cur.take o' ++ cs ++ cur.drop (o' + cs.length)).toArray t (0, 0))) → Below B w0 w' → (∀ b', b' ≠ g → w'.heap[b']? = w.heap[b']?) → K (a.put o.dst (goInt m)) w') : o.wp P a w K Q := by
  have hr := run_copy_W (P := P) w dT sT o.type elem hu hs (sCap := sCap) (dCap := dCap) hg hm hlen hfit hsrc h1
  unfold Oper.wp execOp
  simp only [ho, resolve, invoke, builtin, Sem.run_bind, Sem.run_pure, Result.andThen_ok, List.map_toArray, List.map_cons, List.map_nil, hd, hs', hr]
  exact h _ (Lib.hid (setRow_heap w g _ _ t _ hg)) (below_setRow hb hBg _) (fun b' hb' => setRow_other w g b' _ hb')
theorem wpList_copy_W {P : Program} {w : World} {ops : Array Oper} {rest : List Oper} {o : Oper} {a : Act} {Q : Exit → Act → World → Prop} {k : Nat} (hgd : o.guard = none) (d s : Operand) (dT sT elem : TypeId)
    (ho : o.op = .call { callee := .builtin .copy, args := #[d, s], argTypes := #[dT, sT] }) (hu : P.underlying dT = some (.slice elem)) (hs : (P.info? elem).map (·.size) = some k)
    {g o' dLen dCap b off sLen sCap m : Nat} {cur cs : List Value} {t : TypeId} (hd : a.eval d = .slice (some ⟨g, o', none⟩) dLen dCap) (hs' : a.eval s = .slice (some ⟨b, off, none⟩) sLen sCap) (hg : w.heap[g]? = some (.cells cur.toArray t (0, 0))) (hm : m = Nat.min sLen dLen) (hlen : cs.length = m * k) (hfit : o' + cs.length ≤ cur.length)
    (hsrc : ∀ j v, cs[j]? = some v → w.cell? ⟨b, off + j, none⟩ = some v) (h1 : ∀ v ∈ cs, v.oneCell' = true) {B : Nat} {w0 : World} (hb : Below B w0 w) (hBg : B ≤ g)
    (h : ∀ w', Hid (w'.heap[g]? = some (.cells (cur.take o' ++ cs ++ cur.drop (o' + cs.length)).toArray t (0, 0))) → Below B w0 w' → (∀ b', b' ≠ g → w'.heap[b']? = w.heap[b']?) → wpList P ops Q rest (a.put o.dst (goInt m)) w') : wpList P ops Q (o :: rest) a w :=
  wpList_plain hgd fun K hK => wp_copy_W d s dT sT elem ho hu hs hd hs' hg hm hlen hfit hsrc h1 hb hBg (fun w' x y z => hK _ _ (h w' x y z))
theorem step_copy_W {P : Program} {w : World} {ops : Array Oper} {o : Oper} {a : Act} {K : Act → World → Prop} {Q : Exit → Act → World → Prop} {E : Prop} {k : Nat} (hgd : o.guard = none) (d s : Operand) (dT sT elem : TypeId)
    (ho : o.op = .call { callee := .builtin .copy, args := #[d, s], argTypes := #[dT, sT] }) (hu : P.underlying dT = some (.slice elem)) (hs : (P.info? elem).map (·.size) = some k)
    {g o' dLen dCap b off sLen sCap m : Nat} {cur cs : List Value} {t : TypeId} (hd : a.eval d = .slice (some ⟨g, o', none⟩) dLen dCap) (hs' : a.eval s = .slice (some ⟨b, off, none⟩) sLen sCap) (hg : w.heap[g]? = some (.cells cur.toArray t (0, 0))) (hm : m = Nat.min sLen dLen) (hlen : cs.length = m * k) (hfit : o' + cs.length ≤ cur.length)
    (hsrc : ∀ j v, cs[j]? = some v → w.cell? ⟨b, off + j, none⟩ = some v) (h1 : ∀ v ∈ cs, v.oneCell' = true) {B : Nat} {w0 : World} (hb : Below B w0 w) (hBg : B ≤ g)
    (h : ∀ w', Hid (w'.heap[g]? = some (.cells (cur.take o' ++ cs ++ cur.drop (o' + cs.length)).toArray t (0, 0))) → Below B w0 w' → (∀ b', b' ≠ g → w'.heap[b']? = w.heap[b']?) → K (a.put o.dst (goInt m)) w') :
    if Region.wanted o (yielded ops a.tmps) = true then Oper.wp P o a w K Q else E := by
  have hw : Region.wanted o (yielded ops a.tmps) = true := by simp [Region.wanted, hgd]
  rw [if_pos hw]
  exact wp_copy_W d s dT sT elem ho hu hs hd hs' hg hm hlen hfit hsrc h1 hb hBg h

section
variable {v : Type}
/-- first what is put in, then what stood behind -/
theorem rowB {cur X C : List v} {a b c : Nat} (ha : a + b + c ≤ cur.length) (hX : X.length = b) (hC : C.length = c) :
    (((cur.take a ++ X ++ cur.drop (a + X.length)).take (a + b) ++ C ++ (cur.take a ++ X ++ cur.drop (a + X.length)).drop (a + b + C.length)).take (a + b + c) = cur.take a ++ X ++ C) ∧
    ((cur.take a ++ X ++ cur.drop (a + X.length)).take (a + b) ++ C ++ (cur.take a ++ X ++ cur.drop (a + X.length)).drop (a + b + C.length)).length = cur.length := by
  have h1 : (cur.take a ++ X ++ cur.drop (a + X.length)).take (a + b) = cur.take a ++ X := by
    rw [List.take_append_of_le_length (by simp; omega), List.take_of_length_le (by simp; omega)]
  rw [h1]
  constructor
  · rw [List.take_append_of_le_length (by simp; omega), List.take_of_length_le (by simp; omega)]
  · simp; omega
/-- first what stood behind is moved, then what is put in -/
theorem rowC {cur X C : List v} {a b c : Nat} (ha : a + b + c ≤ cur.length) (hX : X.length = b) (hC : C.length = c) :
    (((cur.take (a + b) ++ C ++ cur.drop (a + b + C.length)).take a ++ X ++ (cur.take (a + b) ++ C ++ cur.drop (a + b + C.length)).drop (a + X.length)).take (a + b + c) = cur.take a ++ X ++ C) ∧
    ((cur.take (a + b) ++ C ++ cur.drop (a + b + C.length)).take a ++ X ++ (cur.take (a + b) ++ C ++ cur.drop (a + b + C.length)).drop (a + X.length)).length = cur.length := by
  have h1 : (cur.take (a + b) ++ C ++ cur.drop (a + b + C.length)).take a = cur.take a := by
    rw [List.append_assoc, List.take_append_of_le_length (by simp; omega), List.take_take]; congr 1; omega
  have h2 : (cur.take (a + b) ++ C ++ cur.drop (a + b + C.length)).drop (a + X.length) = C ++ cur.drop (a + b + C.length) := by
    rw [List.append_assoc, hX, List.drop_append_of_le_length (by simp; omega), List.drop_of_length_le (by simp; omega), List.nil_append]
  rw [h1, h2]
  constructor
  · rw [← List.append_assoc, List.take_append_of_le_length (by simp; omega), List.take_of_length_le (by simp; omega)]
  · simp; omega
end
/-- a row in its block -/
theorem OwnR.open {w : World} {B g n c k : Nat} {α : Type} {enc : α → List Value} {L : List α} {E : TypeId} (h : OwnR E enc k w B (some ⟨g, 0, none⟩) n c L) :
    ∃ cur : List Value, w.heap[g]? = some (.cells cur.toArray E (0, 0)) ∧ n ≤ c ∧ c ≤ maxLen ∧ cur.length = c * k ∧ cur.take (n * k) = L.flatMap enc := by
  rcases h.1.2 with ⟨h', h0⟩ | ⟨g', cap', cur, h', hB, hg, h1, h2, hs, htake⟩
  · simp at h'
  · simp only [Value.slice.injEq, Option.some.injEq, Addr.mk.injEq, and_true, true_and] at h'
    obtain ⟨rfl, rfl⟩ := h'
    exact ⟨cur.toList, by simpa using hg, h1, h2, by simpa using hs, htake⟩
theorem OwnR.make {w : World} {B g n c k : Nat} {α : Type} {enc : α → List Value} {L : List α} {E : TypeId} {cur : List Value} (hk : ∀ x, (enc x).length = k) (hB : B ≤ g) (hg : w.heap[g]? = some (.cells cur.toArray E (0, 0))) (h1 : n ≤ c) (h2 : c ≤ maxLen) (hs : cur.length = c * k) (ht : cur.take (n * k) = L.flatMap enc) (hl : L.length = n) : OwnR E enc k w B (some ⟨g, 0, none⟩) n c L :=
  ⟨⟨by rw [fm_len hk, hl], .inr ⟨g, c, cur.toArray, rfl, hB, hg, h1, h2, by simpa using hs, by simpa using ht⟩⟩, hl⟩
end Go.Proofs.Ytgnegemiiahkaaa
