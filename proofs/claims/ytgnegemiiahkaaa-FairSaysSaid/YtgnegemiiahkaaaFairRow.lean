/- Rows from which one element is cut out in place. No program is in sight. Conditions: what each theorem says. -/
import Derived.Test.YtgnegemiiahkaaaRow
import Derived.Test.YtgnegemiiahkaaaCopyR
import Derived.Laws.CopyRow
namespace Go.Proofs.Ytgnegemiiahkaaa
open Go Go.RowKit
set_option linter.unusedVariables false

theorem setCells_heap {g : Nat} {T : TypeId} : ∀ (vs : List Value) (o : Nat) {w : World} {cur : List Value}, w.heap[g]? = some (.cells cur.toArray T (0, 0)) → o + vs.length ≤ cur.length →
    (w.setCells g o vs).heap[g]? = some (.cells (cur.take o ++ vs ++ cur.drop (o + vs.length)).toArray T (0, 0))
  | [], o, w, cur, h, _ => by simpa [World.setCells] using h
  | v :: r, o, w, cur, h, hl => by
    have h1 := blk_set (j := o) (v := v) h
    have h2 : (w.setCell ⟨g, o, none⟩ v).heap[g]? = some (.cells (cur.set o v).toArray T (0, 0)) := by rw [h1]; simp
    have h3 := setCells_heap r (o + 1) h2 (by simp at hl ⊢; omega)
    have h4 := list_seg_step cur o v r (by simpa using hl)
    rw [h4] at h3
    exact h3
theorem erase_eq {α : Type} (L : List α) (i : Nat) : L.eraseIdx i = L.take i ++ L.drop (i + 1) := List.eraseIdx_eq_take_drop_succ L i
theorem OwnR.erase {α : Type} [Inhabited α] {enc : α → List Value} {k : Nat} {E : TypeId} {w : World} {B g n d i : Nat} {L : List α} (hk : ∀ x, (enc x).length = k) (ho : OwnR E enc k w B (some ⟨g, 0, none⟩) n d L) (hi : i < n) :
    OwnR E enc k (w.setCells g (i * k) ((L.drop (i + 1)).flatMap enc)) B (some ⟨g, 0, none⟩) (n - 1) d (L.eraseIdx i) := by
  have hl := ho.len
  have hgb := ho.blk
  rcases ho.1.2 with ⟨h', h0⟩ | ⟨g', cap', cur, h', hB, hg, h1, h2, hs, ht⟩
  · simp at h'
  · simp only [Value.slice.injEq, Option.some.injEq, Addr.mk.injEq, and_true, true_and] at h'
    obtain ⟨rfl, rfl⟩ := h'
    have hlen : ((L.drop (i + 1)).flatMap enc).length = (n - (i + 1)) * k := by rw [fm_len hk, List.length_drop, hl]
    have e0 : i * k + (n - (i + 1)) * k = (n - 1) * k := by rw [← Nat.add_mul]; congr 1; omega
    have e1 : (n - 1) * k ≤ d * k := Nat.mul_le_mul_right k (by omega)
    have hcur : cur.toList.length = d * k := by simpa using hs
    have hh := setCells_heap (g := g) (T := E) (w := w) (cur := cur.toList) ((L.drop (i + 1)).flatMap enc) (i * k) (by simpa using hg) (by rw [hlen, hcur]; omega)
    have hle : (L.eraseIdx i).length = n - 1 := by rw [List.length_eraseIdx, if_pos (by omega), hl]
    refine ⟨⟨by rw [fm_len hk, hle], .inr ⟨g, d, _, rfl, hB, hh, by omega, h2, ?_, ?_⟩⟩, hle⟩
    · simp only [List.size_toArray, List.length_append, List.length_take, List.length_drop, hlen, hcur]
      omega
    · have ik : i * k ≤ n * k := Nat.mul_le_mul_right k (by omega)
      have h3 : cur.toList.take (i * k) = (L.take i).flatMap enc := by rw [← fm_take hk, ← ht, List.take_take, Nat.min_eq_left ik]
      rw [List.take_append_of_le_length (by simp only [List.length_append, List.length_take, hlen, hcur]; omega), List.take_of_length_le (by simp only [List.length_append, List.length_take, hlen, hcur]; omega), h3, erase_eq, List.flatMap_append]
end Go.Proofs.Ytgnegemiiahkaaa
