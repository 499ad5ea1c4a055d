/- Rows of elements of k cells each: how they are read, owned, appended to. No program is in sight. No conditions. -/
import Derived.Test.YtgbccpfehcjhbaaGreatDoorM01
namespace Go.Proofs.YtgbccpfehcjhbaaGreatDoor
open Go Go.RowKit

section
variable {α : Type}
theorem fm_len {enc : α → List Value} {k : Nat} (hk : ∀ x, (enc x).length = k) (L : List α) : (L.flatMap enc).length = L.length * k := by
  induction L with
  | nil => simp
  | cons x r ih => rw [List.flatMap_cons, List.length_append, hk, ih, List.length_cons, Nat.add_mul]; omega
theorem fm_get {enc : α → List Value} {k : Nat} (hk : ∀ x, (enc x).length = k) : ∀ (L : List α) (j i : Nat) (hj : j < L.length), i < k → (L.flatMap enc)[j * k + i]? = (enc L[j])[i]?
  | [], j, i, hj, _ => by simp at hj
  | x :: r, 0, i, hj, hi => by
    rw [List.flatMap_cons, Nat.zero_mul, Nat.zero_add, List.getElem?_append_left (by rw [hk]; exact hi)]; rfl
  | x :: r, j + 1, i, hj, hi => by
    have hj' : j < r.length := by simpa using hj
    rw [List.flatMap_cons, List.getElem?_append_right (by rw [hk, Nat.add_mul]; omega), hk, show (j + 1) * k + i - k = j * k + i by rw [Nat.add_mul]; omega, fm_get hk r j i hj' hi]
    rfl
/-- the element at j -/
def ge [Inhabited α] (L : List α) (j : Nat) : α := L.getD j default
theorem ge_get [Inhabited α] {L : List α} {j : Nat} (h : j < L.length) : ge L j = L[j] := by simp [ge, List.getD, h]
theorem ge_tab [Inhabited α] {n j : Nat} {z : Nat → α} (h : j < n) : ge (tab n z) j = z j := by simp [ge, tab, List.getD, h]
theorem ge_set [Inhabited α] {L : List α} {t : Nat} {x : α} (j : Nat) (ht : t < L.length) : ge (L.set t x) j = if j = t then x else ge L j := by
  by_cases h : j = t
  · subst h; simp [ge, List.getD, ht]
  · rw [if_neg h]; unfold ge; rw [List.getD, List.getElem?_set, if_neg (fun e => h e.symm)]; rfl
theorem ge_push_left [Inhabited α] {L M : List α} {j : Nat} (h : j < L.length) : ge (L ++ M) j = ge L j := by simp [ge, List.getD, List.getElem?_append_left h]
theorem ge_push_one [Inhabited α] {L : List α} {x : α} : ge (L ++ [x]) L.length = x := by simp [ge, List.getD]
theorem list_ext_ge [Inhabited α] {L M : List α} (hl : L.length = M.length) (h : ∀ j, j < L.length → ge L j = ge M j) : L = M := by
  apply List.ext_getElem hl
  intro j h1 h2
  have := h j h1
  rwa [ge_get h1, ge_get h2] at this
theorem tab_ge [Inhabited α] (L : List α) : tab L.length (ge L) = L := by
  apply List.ext_getElem
  · simp [tab]
  · intro j h1 h2; simp [tab, ge, h2]

/-- a row that is read -/
def SR [Inhabited α] (enc : α → List Value) (k : Nat) (w : World) (p : Option Addr) (n c : Nat) (L : List α) : Prop :=
  L.length = n ∧ (n ≤ c ∧ c ≤ 9223372036854775807) ∧ (0 < n → ∃ b off, p = some ⟨b, off, none⟩ ∧ b < w.heap.size ∧ ∀ j, j < n → ∀ i, i < k → w.cell? ⟨b, off + j * k + i, none⟩ = (enc (ge L j))[i]?)
variable {enc : α → List Value} {k : Nat}
theorem SR.below [Inhabited α] {w w' : World} {p : Option Addr} {n c : Nat} {L : List α} (h : SR enc k w p n c L) (hb : Below w.heap.size w w') : SR enc k w' p n c L := by
  refine ⟨h.1, h.2.1, fun h0 => ?_⟩
  obtain ⟨b, off, rfl, hlt, hc⟩ := h.2.2 h0
  exact ⟨b, off, rfl, Nat.lt_of_lt_of_le hlt hb.size, fun j hj i hi => by rw [bdeep hb hlt]; exact hc j hj i hi⟩
theorem SR.nil [Inhabited α] (w : World) (p : Option Addr) {c : Nat} (hc : c ≤ 9223372036854775807) : SR enc k w p 0 c [] := ⟨rfl, ⟨Nat.zero_le _, hc⟩, fun h => absurd h (Nat.lt_irrefl 0)⟩
theorem SR.drewN [Inhabited α] {w : World} {p : Option Addr} {n c : Nat} {L : List α} (h : SR enc k w p n c L) (s : Nat) : SR enc k (w.drewN s) p n c L := h
theorem SR.cells [Inhabited α] {w : World} {p : Option Addr} {n c : Nat} {L : List α} (h : SR enc k w p n c L) (hn : 0 < n) :
    ∃ b off, p = some ⟨b, off, none⟩ ∧ b < w.heap.size ∧ ∀ j, j < n → ∀ i, i < k → w.cell? ⟨b, off + j * k + i, none⟩ = (enc (ge L j))[i]? := h.2.2 hn

/-- a row that the call owns -/
def OwnR (E : TypeId) (enc : α → List Value) (k : Nat) (w : World) (B : Nat) (p : Option Addr) (n c : Nat) (L : List α) : Prop := w.ownsRow B E k (.slice p n c) n (L.flatMap enc) ∧ L.length = n
variable {E : TypeId}
theorem OwnR.below {w w' : World} {B n c : Nat} {p : Option Addr} {L : List α} (h : OwnR E enc k w B p n c L) (hb : Below w.heap.size w w') : OwnR E enc k w' B p n c L := ⟨Own.below h.1 hb, h.2⟩
theorem OwnR.base {w : World} {B B' n c : Nat} {p : Option Addr} {L : List α} (h : OwnR E enc k w B p n c L) (hB : B' ≤ B) : OwnR E enc k w B' p n c L := ⟨Own.base h.1 hB, h.2⟩
theorem OwnR.nil (w : World) (B : Nat) : OwnR E enc k w B none 0 0 ([] : List α) := ⟨World.ownsRow_nil w B E k, rfl⟩
theorem OwnR.len {w : World} {B n c : Nat} {p : Option Addr} {L : List α} (h : OwnR E enc k w B p n c L) : L.length = n := h.2
theorem OwnR.drewN {w : World} {B n c : Nat} {p : Option Addr} {L : List α} (h : OwnR E enc k w B p n c L) (s : Nat) : OwnR E enc k (w.drewN s) B p n c L := ⟨Own.drewN h.1 s, h.2⟩
theorem OwnR.cast {w : World} {B n c : Nat} {p : Option Addr} {L L' : List α} (h : OwnR E enc k w B p n c L) (e : L = L') : OwnR E enc k w B p n c L' := e ▸ h
theorem OwnR.at [Inhabited α] {w : World} {B g n c : Nat} {L : List α} (hk : ∀ x, (enc x).length = k) (h : OwnR E enc k w B (some ⟨g, 0, none⟩) n c L) {j : Nat} (hj : j < n) {i : Nat} (hi : i < k) : w.cell? ⟨g, j * k + i, none⟩ = (enc (ge L j))[i]? := by
  have hl : j < L.length := by rw [h.2]; exact hj
  have e := fm_get hk L j i hl hi
  have hlt : j * k + i < n * k := by
    have : j * k + k ≤ n * k := by rw [← Nat.succ_mul]; exact Nat.mul_le_mul_right k hj
    omega
  rw [h.1.cellAt (j * k + i) hlt, e, ge_get hl]
theorem OwnR.free {w : World} {B g n c : Nat} {L : List α} (h : OwnR E enc k w B (some ⟨g, 0, none⟩) n c L) (j : Nat) : w.frozen? ⟨g, j, none⟩ = false := h.1.frozenAt j
theorem OwnR.blk {w : World} {B g n c : Nat} {L : List α} (h : OwnR E enc k w B (some ⟨g, 0, none⟩) n c L) : B ≤ g ∧ g < w.heap.size := h.1.lt g rfl
theorem OwnR.addr {w : World} {B n c : Nat} {p : Option Addr} {L : List α} (h : OwnR E enc k w B p n c L) (hn : 0 < n) : ∃ g, p = some ⟨g, 0, none⟩ := by
  rcases h.1.2 with ⟨h2, h3⟩ | ⟨g, cap, cur, hv, hg, hh, r⟩
  · omega
  · simp only [Value.slice.injEq, true_and] at hv
    exact ⟨g, hv.1⟩
theorem OwnR.sr [Inhabited α] {w : World} {B n c : Nat} {p : Option Addr} {L : List α} (hk : ∀ x, (enc x).length = k) (h : OwnR E enc k w B p n c L) : SR enc k w p n c L := by
  refine ⟨h.2, Own.cap h.1, fun hn => ?_⟩
  obtain ⟨g, rfl⟩ := h.addr hn
  refine ⟨g, 0, rfl, h.blk.2, fun j hj i hi => ?_⟩
  rw [Nat.zero_add]
  exact h.at hk hj hi
theorem OwnR.apart {w : World} {B g' j n c : Nat} {p : Option Addr} {L : List α} {v : Value} (h : OwnR E enc k w B p n c L) (hne : ∀ g, p = some ⟨g, 0, none⟩ → g ≠ g') : OwnR E enc k (w.setCell ⟨g', j, none⟩ v) B p n c L := by
  refine ⟨⟨h.1.1, ?_⟩, h.2⟩
  rcases h.1.2 with h2 | ⟨g2, cap, cur, hv, hg, hh, r⟩
  · exact .inl h2
  · simp only [Value.slice.injEq, true_and] at hv
    exact .inr ⟨g2, cap, cur, by simp [hv], hg, blk_other hh (hne g2 hv.1), r⟩
theorem OwnR.alloc {w : World} {B n c : Nat} {p : Option Addr} {L : List α} (h : OwnR E enc k w B p n c L) (o : Obj) : OwnR E enc k (w.alloc o) B p n c L := ⟨h.1.alloc o, h.2⟩

/-- 'append(x, v)' -/
theorem wpL_push_R {P : Program} {w : World} {ops : Array Oper} {rest : List Oper} {o : Oper} {a : Act} {Q : Exit → Act → World → Prop} {t : TypeId} {z : Value} {by_ : Nat}
    (hT : SliceTy P t E z k by_) (hz : z.cells.size = k) (hk0 : 0 < k) (hby : by_ ≤ 100) (hk : ∀ x, (enc x).length = k) (h1 : ∀ x, ∀ u ∈ enc x, u.oneCell' = true) (hgd : o.guard = none) {s x : Operand}
    (ho : o.op = .call { callee := .builtin .append, args := #[s, x], argTypes := #[t, t] })
    {B : Nat} {W0 : World} {p : Option Addr} {n c : Nat} {L : List α} (v : α) (hs : a.eval s = .slice p n c) (hx : a.eval x = .slice (.some ⟨w.heap.size, 0, none⟩) 1 1)
    (hown : OwnR E enc k w B p n c L) (hbel : Below B W0 w) (hn : n < 1000000) (hB : B ≤ w.heap.size)
    (h : ∀ p' c' w', OwnR E enc k w' B p' (n + 1) c' (L ++ [v]) → Below B W0 w' → (w.alloc (.cells (enc v).toArray E)).grownBy w' (Value.slice p n c).ownBlock → (∃ g, p' = .some ⟨g, 0, none⟩ ∧ (p = .some ⟨g, 0, none⟩ ∨ g = w.heap.size + 1)) → wpList P ops Q rest (a.put o.dst (.slice p' (n + 1) c')) w') :
    wpList P ops Q (o :: rest) a (w.alloc (.cells (enc v).toArray E)) := by
  have hm : (n + 1) * by_ ≤ 1000000 * 100 := Nat.mul_le_mul (by omega) hby
  refine wpL_push hT hgd ho (B := B) (W0 := W0) (news := enc v) (bx := w.heap.size) hz hk0 hs (hown.1.alloc _) (hbel.alloc hB _) hx (heap_alloc_new w _) (hk v) (h1 v) (by omega) (by omega) (by simp; omega) ?_
  intro p' c' w' h1 h2 h3 h4
  refine h p' c' w' ⟨by simpa [List.flatMap_append] using h1, by simp [hown.2]⟩ h2 h3 ?_
  obtain ⟨g, rfl, hg⟩ := h4
  exact ⟨g, rfl, by simpa using hg⟩

/-- 'append(x, y...)', x owned, y read (it may be nil or empty) -/
theorem wpL_append_R [Inhabited α] {P : Program} {w : World} {ops : Array Oper} {rest : List Oper} {o : Oper} {a : Act} {Q : Exit → Act → World → Prop} {t : TypeId} {z : Value} {by_ : Nat}
    (hT : SliceTy P t E z k by_) (hz : z.cells.size = k) (hk0 : 0 < k) (hby : by_ ≤ 100) (hk : ∀ x, (enc x).length = k) (ho1 : ∀ x, ∀ u ∈ enc x, u.oneCell' = true) (hgd : o.guard = none) {s x : Operand}
    (ho : o.op = .call { callee := .builtin .append, args := #[s, x], argTypes := #[t, t] })
    {B : Nat} {W0 : World} {p q : Option Addr} {n c m d : Nat} {L ys : List α} (hs : a.eval s = .slice p n c) (hx : a.eval x = .slice q m d)
    (hown : OwnR E enc k w B p n c L) (hy : SR enc k w q m d ys) (hbel : Below B W0 w) (hn : n + m < 1000000) (hB : B ≤ w.heap.size)
    (h : ∀ p' c' w', OwnR E enc k w' B p' (n + m) c' (L ++ ys) → Below B W0 w' → w.grownBy w' (Value.slice p n c).ownBlock → wpList P ops Q rest (a.put o.dst (.slice p' (n + m) c')) w') :
    wpList P ops Q (o :: rest) a w := by
  obtain ⟨i, hi, hz0, hz1, hz2⟩ := info_parts hT.info
  have hmul : (n + m) * by_ ≤ 1000000 * 100 := Nat.mul_le_mul (by omega) hby
  by_cases hm : m = 0
  · subst hm
    obtain rfl : ys = [] := List.eq_nil_of_length_eq_zero hy.1
    refine wpList_plain hgd fun K hK => ?_
    have hrun : (Builtin.append_ #[t, t] o.type #[.slice p n c, .slice q 0 d]).run P w = .ok (.slice p n c) w := by
      have hnc := Own.cap hown.1
      rcases hown.1.2 with ⟨hv, hn0⟩ | ⟨g, cap, cur, hv, _⟩
      · simp only [Value.slice.injEq] at hv
        obtain ⟨rfl, rfl, rfl⟩ := hv
        cases q <;> simp [Builtin.append_, run_underlying hT.under, sizeOf, typeInfo, hi, Builtin.lenOf, Builtin.firstCells, loadCells, loadCellsFrom]
      · simp only [Value.slice.injEq, true_and] at hv
        obtain ⟨rfl, rfl⟩ := hv
        cases q <;> simp [Builtin.append_, run_underlying hT.under, sizeOf, typeInfo, hi, Builtin.lenOf, Builtin.firstCells, hnc.1, storeCells, loadCells, loadCellsFrom]
    unfold Oper.wp
    simp [execOp, ho, resolve, invoke, builtin, hs, hx, hrun, Result.andThen]
    exact hK _ _ (h p c w (by simpa using hown) hbel (World.grownBy.refl _ _))
  · obtain ⟨b, off, rfl, hlt, hc⟩ := hy.cells (by omega)
    have hlen : (ys.flatMap enc).length = m * k := by rw [fm_len hk, hy.1]
    refine wpList_append_own w hgd s x t ho B E i z k by_ hT.under hi hz0 hz1 hz2 hz hk0 (.slice p n c) n (L.flatMap enc) hs hown.1 ⟨b, off, none⟩ m d (ys.flatMap enc) hx hlen ?_ ?_ (by unfold maxLen; omega) (by omega) hB ?_
    · intro j u hu
      have hj : j < m * k := by
        have := (List.getElem?_eq_some_iff.1 hu).1
        omega
      have hjm : j / k < m := (Nat.div_lt_iff_lt_mul hk0).2 hj
      have hji : j % k < k := Nat.mod_lt _ hk0
      have e : (⟨b, off, none⟩ : Addr).add j = ⟨b, off + j, none⟩ := by unfold Addr.add; split <;> simp_all
      have ej : j / k * k + j % k = j := by rw [Nat.mul_comm]; exact Nat.div_add_mod j k
      have h2 := hc (j / k) hjm (j % k) hji
      have h3 := fm_get hk ys (j / k) (j % k) (by rw [hy.1]; exact hjm) hji
      rw [Nat.add_assoc, ej] at h2
      rw [ej] at h3
      rw [e, h2, ← hu, h3, ge_get (by rw [hy.1]; exact hjm)]
    · intro u hu
      obtain ⟨y, _, hy2⟩ := List.mem_flatMap.1 hu
      exact ho1 y u hy2
    · intro v' w' h1 h2 h3
      have hcase := h1.2
      rcases hcase with ⟨hv, hn0⟩ | ⟨g, cap, cur, rfl, _⟩
      · omega
      · exact h _ _ w' ⟨by simpa [List.flatMap_append] using h1, by simp [hown.2, hy.1]⟩ (hbel.grown h2 hB fun k hk => (hown.1.lt k hk).1) h2
end
end Go.Proofs.YtgbccpfehcjhbaaGreatDoor
