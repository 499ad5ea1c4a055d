/- Rows of elements of k cells: one cell of an element is stored; make. No program is in sight. No conditions. -/
import Derived.Test.YtgbccpfehcjhbaaGreatDoorRow
namespace Go.Proofs.YtgbccpfehcjhbaaGreatDoor
open Go Go.RowKit

section
variable {α : Type} {enc : α → List Value} {k : Nat} {E : TypeId}
theorem fm_upd (hk : ∀ x, (enc x).length = k) {f : Nat} (hf : f < k) {v : Value} {x' : α} : ∀ (L : List α) (j : Nat) (hj : j < L.length), enc x' = (enc L[j]).set f v → (L.set j x').flatMap enc = (L.flatMap enc).set (j * k + f) v
  | [], j, hj, _ => by simp at hj
  | y :: r, 0, _, e => by
    simp only [List.getElem_cons_zero] at e
    rw [List.set_cons_zero, List.flatMap_cons, List.flatMap_cons, e, List.set_append_left _ _ (by rw [hk]; omega), Nat.zero_mul, Nat.zero_add]
  | y :: r, j + 1, hj, e => by
    have ih := fm_upd hk hf r j (by simpa using hj) (by simpa using e)
    have e2 : (j + 1) * k + f = k + (j * k + f) := by rw [Nat.add_mul]; omega
    rw [List.set_cons_succ, List.flatMap_cons, List.flatMap_cons, ih, List.set_append_right _ _ (by rw [hk, e2]; omega), hk, e2, Nat.add_sub_cancel_left]
theorem OwnR.upd [Inhabited α] {w : World} {B g n c j f : Nat} {L : List α} {v : Value} {x' : α} (hk : ∀ x, (enc x).length = k) (h : OwnR E enc k w B (some ⟨g, 0, none⟩) n c L) (hj : j < n) (hf : f < k) (e : enc x' = (enc (ge L j)).set f v) : OwnR E enc k (w.setCell ⟨g, j * k + f, none⟩ v) B (some ⟨g, 0, none⟩) n c (L.set j x') := by
  have hl : j < L.length := by rw [h.2]; exact hj
  refine ⟨?_, by simpa using h.2⟩
  rw [fm_upd hk hf L j hl (by rw [e, ge_get hl])]
  exact (h.1.stored (j * k + f) v).1
/-- 'make([]T, n)' -/
theorem wpL_make_R [Inhabited α] {P : Program} {w : World} {ops : Array Oper} {rest : List Oper} {o : Oper} {a : Act} {Q : Exit → Act → World → Prop} {t : TypeId} {z : Value} {by_ : Nat}
    (hT : SliceTy P t E z k by_) {z0 : α} (hz : z.cells = (enc z0).toArray) (hk : ∀ x, (enc x).length = k) (hk0 : 0 < k) (hk9 : k ≤ 100) (hby : by_ ≤ 100) (hg : o.guard = none) {l c : Operand} (hop : o.op = Op.makeSlice t l c) {B : Nat} {W0 : World} {kl kc : IntKind} {L C : Int} (n : Nat)
    (hl : a.eval l = .int kl L) (hc : a.eval c = .int kc C) (hL : L = (n : Int)) (hC : C = (n : Int)) (hbel : Below B W0 w) (hn : n ≤ 1000000) (hB : B ≤ w.heap.size)
    (hK : ∀ g w', w.heap.size ≤ g → OwnR E enc k w' B (.some ⟨g, 0, none⟩) n n (tab n fun _ => z0) → Below B W0 w' → Below w.heap.size w w' → wpList P ops Q rest (a.put o.dst (.slice (.some ⟨g, 0, none⟩) n n)) w') :
    wpList P ops Q (o :: rest) a w := by
  obtain ⟨i, hi, hz0, hz1, hz2⟩ := info_parts hT.info
  have h1 : n * by_ ≤ 1000000 * 100 := Nat.mul_le_mul hn hby
  have h2 : n * k ≤ 1000000 * 100 := Nat.mul_le_mul hn hk9
  refine wpList_make_full w hg l c t hop B E i z k hT.under hi hz0 hz1 kl kc L C n hl hc hL hC (by rw [hz2]; first | omega | (rw [Nat.mul_comm]; omega)) (by unfold maxLen; first | omega | (rw [Nat.mul_comm]; omega)) hB ?_
  intro w' h1 h2
  have e : (madeCells z.cells (n * k)).toList = (tab n fun _ => z0).flatMap enc := by
    have hlen : (enc z0).length = k := hk z0
    apply List.ext_getElem?
    intro q
    by_cases hq : q < n * k
    · have hqk : q / k < n := (Nat.div_lt_iff_lt_mul hk0).2 hq
      have hqm : q % k < k := Nat.mod_lt _ hk0
      have eq : q / k * k + q % k = q := by rw [Nat.mul_comm]; exact Nat.div_add_mod q k
      have h3 := fm_get hk (tab n fun _ => z0) (q / k) (q % k) (by rw [tab_length]; exact hqk) hqm
      rw [eq] at h3
      rw [h3, hz]
      have h4 : (tab n fun _ => z0)[q / k]'(by rw [tab_length]; exact hqk) = z0 := by simp [tab]
      rw [h4]
      simp [madeCells, hq, hlen, hqm]
    · rw [List.getElem?_eq_none (by simp [madeCells]; omega), List.getElem?_eq_none (by rw [fm_len hk, tab_length]; omega)]
  rw [e] at h1
  exact hK _ w' (Nat.le_refl _) ⟨h1, by rw [tab_length]⟩ (hbel.grown h2 hB fun k hk => by cases hk) ((Below.refl _ _).grown h2 (Nat.le_refl _) fun k hk => by cases hk)
end
end Go.Proofs.YtgbccpfehcjhbaaGreatDoor
