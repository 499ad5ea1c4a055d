/- A region that draws its order, whose operations only read and whose callees leave what was there: walked once. No program is in sight. No conditions. -/
import Derived.Test.YtgbccpfehcjhbaaGreatDoorLib
import Derived.Deep.QuietTactic
import Derived.BigQuiet
namespace Go.Proofs.YtgbccpfehcjhbaaGreatDoor
open Go Go.RowKit

/-- a world in which all that lies in W lies unturned -/
structure BelowOf (W : World) where
  val : World
  prop : Below W.heap.size W val
instance belowOfInhabited (W : World) : Inhabited (BelowOf W) := ⟨⟨W, Below.refl _ _⟩⟩
theorem BelowOf.cell {W : World} {g o : Nat} {v : Value} (h : W.cell? ⟨g, o, none⟩ = some v) (hg : g < W.heap.size) (p : BelowOf W) : p.val.cell? ⟨g, o, none⟩ = some v := (bdeep p.prop hg o).trans h
theorem wp_region_quiet_below {P : Program} {id : Nat} {Q : Exit → Act → World → Prop} {a : Act} {w : World} {l : List Oper} (hm : P.follows .mixedOrders = true) (hB : Region.lexB .any l.toArray = true)
    (h : wpQuiet P l.toArray (fun w' => ∃ p : BelowOf w, w' = p.val) (fun a' => ∀ w', (∃ p : BelowOf w, w' = p.val) → Q .normal a' w') l a) : (Code.region id l.toArray true).wp P Q a w :=
  wp_region_quiet (C := fun w' => ∃ p : BelowOf w, w' = p.val) hm hB ⟨⟨{ w with drawn := w.drawn + 1 }, ⟨rfl, rfl, rfl, Nat.le_refl _, fun _ _ => rfl⟩⟩, rfl⟩ (by simpa using h)
/-- a callee's contract, met in a world of the class -/
theorem calls_below {P : Program} {f : FuncId} {args : Array Value} {W : World} {p : BelowOf W} {v : Value}
    (h : Calls P f args p.val fun e w' => e = .returned v ∧ Below p.val.heap.size p.val w') : Calls P f args p.val fun e w'' => e = .returned v ∧ ∃ q : BelowOf W, w'' = q.val :=
  h.mono fun _ _ ⟨he, hb⟩ => ⟨he, ⟨_, p.prop.trans (hb.mono p.prop.size)⟩, rfl⟩
end Go.Proofs.YtgbccpfehcjhbaaGreatDoor
