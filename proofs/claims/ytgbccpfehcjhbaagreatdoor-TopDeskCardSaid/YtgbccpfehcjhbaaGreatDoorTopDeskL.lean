/- What the rows' listed variables give: the library's variables are laid; a world that holds them all. Conditions: what each theorem says. -/
import Derived.Test.YtgbccpfehcjhbaaGreatDoorRows
import Derived.Test.YtgbccpfehcjhbaaGreatDoorDkLib
import Derived.Stop.LaidErr
import Derived.Lib.LaidTab
import Derived.Lib.LaidU8
import Derived.Deep.DeepHandedRow
import Derived.Deep.DeepLaidRun
import Derived.LaidLaws
import Derived.KernelRfl
namespace Go.Proofs.YtgbccpfehcjhbaaGreatDoor
open Go Go.RowKit
set_option linter.unusedVariables false
set_option maxRecDepth 100000

theorem dkT_name : "*" ++ "errors.errorString" = "*errors.errorString" := by decide
theorem dkT_row (u : TypeId) (h : Tryz.prog.typeName? 3 u = some "*errors.errorString") : u = 174 :=
  typeName_ptr_named (nm := "errors.errorString") (by rw [dkT_name]; kernel_rfl) (by kernel_rfl) (by decide) u (by rw [dkT_name]; exact h)
theorem dkT_pow : (Rows.laid_internal_strconv_uint64pow10 : DataW Unit) = Lib.tabData .u64 Lib.pow10Tab := by rfl
abbrev dkLaid : List (String × DataW Unit) := [("math/bits.deBruijn32tab", Rows.laid_math_bits_deBruijn32tab), ("math/bits.deBruijn64tab", Rows.laid_math_bits_deBruijn64tab), ("internal/strconv.uint64pow10", Rows.laid_internal_strconv_uint64pow10), ("unicode/utf8.acceptRanges", Rows.laid_unicode_utf8_acceptRanges), ("strconv.ErrRange", Rows.laid_strconv_ErrRange), ("strconv.ErrSyntax", Rows.laid_strconv_ErrSyntax), ("unicode/utf8.first", Rows.laid_unicode_utf8_first)]
theorem dkLaid_H {W : World} (hL : laidMetH Tryz.prog dkLaid W) : laidMet Tryz.prog dkLaid W := by
  have e : (dkLaid.filter fun x => x.2.handleName?.isSome) = [] := by kernel_rfl
  unfold laidMetH at hL
  rw [e] at hL
  exact hL
theorem laid_of {W : World} (hL0 : laidMetH Tryz.prog dkLaid W) (hsh : W.ShapedOpen Tryz.prog) : Laid W := by
  have hL := dkLaid_H hL0
  have h3 := hL.tail.tail
  rw [dkT_pow] at h3
  have h5 := hL.tail.tail.tail.tail
  have h6 := h5.tail
  unfold Rows.laid_strconv_ErrRange at h5
  unfold Rows.laid_strconv_ErrSyntax at h6
  have g6 : Tryz.prog.globalNamed "strconv.ErrSyntax" = some 6 := by kernel_rfl
  have g7 : Tryz.prog.globalNamed "strconv.ErrRange" = some 7 := by kernel_rfl
  obtain ⟨a5, s5, hv5, _⟩ := laid_sentinel h5 g7 (ti := 59) (te := 176) (by kernel_rfl) Tryz.underlying59 dkT_row Tryz.underlying174 Tryz.underlying176 rfl rfl Tryz.underlying9 (by kernel_rfl) (by kernel_rfl)
  obtain ⟨a6, s6, hv6, _⟩ := laid_sentinel h6 g6 (ti := 59) (te := 176) (by kernel_rfl) Tryz.underlying59 dkT_row Tryz.underlying174 Tryz.underlying176 rfl rfl Tryz.underlying9 (by kernel_rfl) (by kernel_rfl)
  have c7 := World.var?_cell g7 hv5 0
  have c6 := World.var?_cell g6 hv6 0
  refine ⟨Tryz.laysM146.s1_3 W hsh, Lib.tabIs_of_head (g := 3) (by kernel_rfl) (by kernel_rfl) Tryz.underlying154 Tryz.underlying79 (by kernel_rfl) (by kernel_rfl) h3, ⟨_, _, by simpa using c6⟩, ⟨_, _, by simpa using c7⟩, ?_⟩
  rcases Nat.lt_or_ge 7 W.heap.size with h | h
  · exact h
  · exfalso
    have hn : W.heap[7]? = none := Array.getElem?_eq_none h
    simp [World.cell?, hn] at c7

/-- the cells that a datum of numbers spells -/
def spelt1 : DataW Unit → List Value
  | .lit (.int k z) => [.int k z]
  | _ => []
def spelt2 : DataW Unit → List Value
  | .agg l => l.flatMap spelt1
  | d => spelt1 d
def spelt : DataW Unit → List Value
  | .agg l => l.flatMap spelt2
  | d => spelt1 d
def layC (cs : Array Value) : Obj → Obj
  | .cells _ t frozen => .cells cs t frozen
  | o => o
abbrev rangeS : ByteArray := ⟨#[118, 97, 108, 117, 101, 32, 111, 117, 116, 32, 111, 102, 32, 114, 97, 110, 103, 101]⟩
abbrev syntaxS : ByteArray := ⟨#[105, 110, 118, 97, 108, 105, 100, 32, 115, 121, 110, 116, 97, 120]⟩
noncomputable def dkLow : Nat := (World.holding Tryz.prog default ⟨#[], #[], []⟩).heap.size
/-- the settled world, the listed variables holding what start-up lays -/
noncomputable def laidWorld (os : Os) : World :=
  let w0 := World.holding Tryz.prog os ⟨#[.cells #[.string rangeS] 176, .cells #[.string syntaxS] 176], #[], []⟩
  { w0 with heap := ((((((w0.heap.modify 1 (layC (spelt Rows.laid_unicode_utf8_first).toArray)).modify 2 (layC (spelt Rows.laid_unicode_utf8_acceptRanges).toArray)).modify 3 (layC (spelt Rows.laid_internal_strconv_uint64pow10).toArray)).modify 4 (layC (spelt Rows.laid_math_bits_deBruijn32tab).toArray)).modify 5 (layC (spelt Rows.laid_math_bits_deBruijn64tab).toArray)).modify 6 (layC #[.iface 174 (.pointer (some ⟨dkLow + 1, 0, none⟩))])).modify 7 (layC #[.iface 174 (.pointer (some ⟨dkLow, 0, none⟩))]) }
theorem laid_met (os : Os) (args : Array Value) : laidMet Tryz.prog dkLaid ((laidWorld os).forCall (fun _ _ => 0) ⟨#[], args, []⟩).memory :=
  laidMet_of_run3 8 (by kernel_rfl) (by kernel_rfl) (by kernel_rfl)
end Go.Proofs.YtgbccpfehcjhbaaGreatDoor
