/- A map from numbers to numbers, as a function. No program's function is in sight. Conditions: what each theorem says. -/
import Derived.Test.YtgnegemiiahkaaaRows
import Derived.Test.YtgnegemiiahkaaaLib
import Derived.Test.YtgnegemiiahkaaaFairLaw
import Derived.Maps.OwnSet
namespace Go.Proofs.Ytgnegemiiahkaaa
open Go Go.RowKit
set_option linter.unusedVariables false

theorem Try.keyI : Maps.Keyed Try.prog 3 := Maps.int_keyed Try.underlying3
theorem Try.zeroI (w : World) : (zeroValue 3).run Try.prog w = .ok (.int .i64 0) w := by kernel_rfl
theorem key_nat {i : Nat} (h : i < 1000000000) : keyOf Try.prog 3 (.int .i64 (i : Int)) = some (.int .i64 (i : Int)) :=
  Maps.keyOf_int_mk Try.underlying3 (WalkArith.wf_i64 (n := (i : Int)) ⟨by omega, by omega⟩)
/-- block b is a map that bears f at all numbers -/
def MapI (w : World) (b n : Nat) (f : Nat → Int) : Prop :=
  ∃ D : DataW Unit, w.ownsMap Try.prog 3 (plainElem Try.prog 3) b n D ∧ ∀ i : Nat, D.atKey (.int .i64 (i : Int)) (.lit (.int .i64 0)) = .lit (.int .i64 (f i))
theorem MapI.made (w : World) : MapI (w.alloc (.map #[] 0)) w.heap.size 0 (fun _ => 0) := ⟨.map [], World.ownsMap_made _ _ _ _, fun i => rfl⟩
theorem MapI.block {w w' : World} {b n : Nat} {f : Nat → Int} (h : MapI w b n f) (e : w'.heap[b]? = w.heap[b]?) : MapI w' b n f := by
  obtain ⟨D, ⟨es, clock, hb, F, hs, hD⟩, h2⟩ := h
  exact ⟨D, ⟨es, clock, e.trans hb, F, hs, hD⟩, h2⟩
theorem MapI.mono {w : World} {b n n' : Nat} {f : Nat → Int} (h : MapI w b n f) (hn : n ≤ n') : MapI w b n' f := by
  obtain ⟨D, h1, h2⟩ := h
  exact ⟨D, h1.mono hn, h2⟩
theorem MapI.look {w : World} {b n : Nat} {f : Nat → Int} (h : MapI w b n f) {i : Nat} (hi : i < 1000000000) : (Instr.lookup 106 (.map (some b)) (.int .i64 (i : Int)) false).run Try.prog w = .ok (.int .i64 (f i)) w := by
  obtain ⟨D, h1, h2⟩ := h
  obtain ⟨c, hr, hat, _⟩ := h1.lookup_int Try.keyI Try.underlying106 Try.underlying3 (Try.zeroI _) (key_nat hi)
  rw [h2 i] at hat
  simp at hat
  rw [hr, hat]
theorem MapI.put {w : World} {b n : Nat} {f : Nat → Int} (h : MapI w b n f) (hn : n < 1000000) {i : Nat} (hi : i < 1000000000) {v : Int} (hv : 0 ≤ v ∧ v ≤ 1000000000) :
    ∃ w', (Instr.mapUpdate 106 (.map (some b)) (.int .i64 (i : Int)) (.int .i64 v)).run Try.prog w = .ok () w' ∧ MapI w' b (n + 1) (upN f i v) ∧ w.grownBy w' (some b) := by
  obtain ⟨D, h1, h2⟩ := h
  obtain ⟨w', hr, ho, hg⟩ := h1.update Try.keyI Try.underlying106 (by show n < maxLen; unfold maxLen; omega) (key_nat hi) (plainElem_int Try.underlying3 (WalkArith.wf_i64 (n := v) ⟨by omega, by omega⟩))
  refine ⟨w', hr, ⟨_, ho, fun j => ?_⟩, hg⟩
  by_cases e : j = i
  · subst e
    rw [upN_at, Maps.atKey_put_same h1.isMap (Try.keyI.key (key_nat hi))]
  · rw [upN_ne e, Maps.atKey_put_other (by intro h; apply e; simp at h; omega)]
    exact h2 j
end Go.Proofs.Ytgnegemiiahkaaa
