/- The contract of slices.Clone at []int. Conditions: how long the list is. -/
import Derived.Test.YtjlfefaifeanmaaIndexFunc
import Derived.Lib.SliceRun
namespace Go.Proofs.Ytjlfefaifeanmaa
open Go Go.RowKit

theorem Try.tyIntsClone : SliceTy Try.prog 22 3 (.int .i64 0) 1 8 := ⟨Try.underlying22, by kernel_rfl⟩
theorem OwnI.lit0 (w : World) {B : Nat} (hB : B ≤ w.heap.size) : OwnI (w.alloc (.cells #[] 3)) B (some ⟨w.heap.size, 0, none⟩) 0 0 [] :=
  ⟨World.ownsRow_lit w #[] 0 hB (by unfold maxLen; omega) rfl, by omega⟩
theorem OwnI.apart {w : World} {B g g' j n c : Nat} {L : List Int} {v : Value} (h : OwnI w B (some ⟨g, 0, none⟩) n c L) (hne : g ≠ g') : OwnI (w.setCell ⟨g', j, none⟩ v) B (some ⟨g, 0, none⟩) n c L := by
  refine ⟨⟨h.1.1, ?_⟩, h.2⟩
  rcases h.1.2 with h2 | ⟨g2, cap, cur, hv, hg, hh, r⟩
  · exact .inl h2
  · refine .inr ⟨g2, cap, cur, hv, hg, ?_, r⟩
    simp only [Value.slice.injEq, Option.some.injEq, Addr.mk.injEq, and_true, true_and] at hv
    obtain ⟨rfl, _⟩ := hv
    exact blk_other hh hne

/-- one result: a new list, not as 'RetS' of another text -/
def RetC (w : World) (L : List Int) (e : Ending) (w' : World) : Prop :=
  ∃ p n c, e = .returned (.slice p n c) ∧ OwnI w' w.heap.size p n c L ∧ Below w.heap.size w w'

set_option maxHeartbeats 400000 in
set_option maxRecDepth 100000 in
theorem slices_Clone {w : World} {p : Option Addr} {n c : Nat} {xs : List Int} (h : SI w p n c xs) (hn : n < 1000000) :
    Calls Try.prog 69 #[.slice p n c] w (RetC w xs) := by
  have hm := h.2.1
  have hl := h.1
  have HL := Lib.hid hl; clear hl
  have qT : ∀ (w : World) (a : Option Addr) (n c n' c' : Nat), (binOp .eql 22 (.slice a n c) (.slice none n' c')).run Try.prog w = .ok (.bool a.isNone) w := fun w a n c n' c' => Lib.run_eql_slice_nil w _ _ a n c n' c' Try.underlying22
  cases p with
  | none =>
    have h0 : n = 0 := by
      apply Classical.byContradiction
      intro h0
      obtain ⟨b, off, hp, _⟩ := h.cells (by omega)
      cases hp
    subst h0
    obtain rfl : xs = [] := List.eq_nil_of_length_eq_zero HL.out
    go_enter Try.func69, Try.ntmps69
    go_wp2
    go_ret
    exact ⟨_, _, _, rfl, OwnI.nil _ _, Below.refl _ _⟩
  | some a =>
    have ho := OwnI.lit0 w (Nat.le_refl _)
    have hb := (Below.refl w.heap.size w).alloc (Nat.le_refl _) (.cells #[] 3)
    have h1 := h.below hb
    go_enter Try.func69, Try.ntmps69
    go_wp2_with (at_builtin; refine wpL_append_int Try.tyIntsClone rfl rfl (B := w.heap.size) (W0 := w) (by first | rfl | simp [Act.eval]) (by first | rfl | simp [Act.eval]) ho h1 hb (by omega) (by simp) ?_; intro p' c' w3 ho1 hb3 hg1)
    go_ret
    exact ⟨_, _, _, rfl, by simpa using ho1, hb3⟩
end Go.Proofs.Ytjlfefaifeanmaa
