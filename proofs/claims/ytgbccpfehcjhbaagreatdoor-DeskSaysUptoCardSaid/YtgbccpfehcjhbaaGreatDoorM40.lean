/- What the rows' listed variables give: the library's variables are laid; a world that holds them all. Conditions: what each theorem says. -/
import Derived.Test.YtgbccpfehcjhbaaGreatDoorRows
import Derived.Test.YtgbccpfehcjhbaaGreatDoorM03
import Derived.Stop.LaidErr
import Derived.Lib.LaidTab
import Derived.Lib.LaidU8
import Derived.Deep.DeepHandedRow
import Derived.Deep.DeepLaidRun
import Derived.LaidLaws
import Derived.KernelRfl
import Derived.Test.YtgbccpfehcjhbaaGreatDoorCards
import Derived.Test.YtgbccpfehcjhbaaGreatDoorTie
import Derived.Test.YtgbccpfehcjhbaaGreatDoorM39
import Derived.WalkKit
import Derived.ProofKit
import Derived.OpenShut
import Derived.ChangeOld
import Derived.Below
namespace Go.Proofs.YtgbccpfehcjhbaaGreatDoor
open Go Go.RowKit
set_option linter.unusedVariables false
set_option maxRecDepth 100000

theorem dkT_name : "*" ++ "errors.errorString" = "*errors.errorString" := by decide
theorem dkT_row (u : TypeId) (h : Tryz.prog.typeName? 3 u = some "*errors.errorString") : u = 174 :=
  typeName_ptr_named (nm := "errors.errorString") (by rw [dkT_name]; kernel_rfl) (by kernel_rfl) (by decide) u (by rw [dkT_name]; exact h)
theorem dkT_pow : (Rows.laid_internal_strconv_uint64pow10 : DataW Unit) = Lib.tabData .u64 Lib.pow10Tab := by rfl
abbrev dkLaid : List (String × DataW Unit) := [("math/bits.deBruijn32tab", Rows.laid_math_bits_deBruijn32tab), ("math/bits.deBruijn64tab", Rows.laid_math_bits_deBruijn64tab), ("internal/strconv.uint64pow10", Rows.laid_internal_strconv_uint64pow10), ("unicode/utf8.acceptRanges", Rows.laid_unicode_utf8_acceptRanges), ("strconv.ErrRange", Rows.laid_strconv_ErrRange), ("strconv.ErrSyntax", Rows.laid_strconv_ErrSyntax), ("unicode/utf8.first", Rows.laid_unicode_utf8_first)]
theorem dkLaid_H {W : World} (hL : laidMetH Tryz.prog dkLaid W) : laidMet Tryz.prog dkLaid W := by
  have e : (dkLaid.filter fun x => x.2.handleName?.isSome) = [] := by kernel_rfl
  unfold laidMetH at hL
  rw [e] at hL
  exact hL
theorem laid_of {W : World} (hL0 : laidMetH Tryz.prog dkLaid W) (hsh : W.ShapedOpen Tryz.prog) : Laid W := by
  have hL := dkLaid_H hL0
  have h3 := hL.tail.tail
  rw [dkT_pow] at h3
  have h5 := hL.tail.tail.tail.tail
  have h6 := h5.tail
  unfold Rows.laid_strconv_ErrRange at h5
  unfold Rows.laid_strconv_ErrSyntax at h6
  have g6 : Tryz.prog.globalNamed "strconv.ErrSyntax" = some 6 := by kernel_rfl
  have g7 : Tryz.prog.globalNamed "strconv.ErrRange" = some 7 := by kernel_rfl
  obtain ⟨a5, s5, hv5, _⟩ := laid_sentinel h5 g7 (ti := 59) (te := 176) (by kernel_rfl) Tryz.underlying59 dkT_row Tryz.underlying174 Tryz.underlying176 rfl rfl Tryz.underlying9 (by kernel_rfl) (by kernel_rfl)
  obtain ⟨a6, s6, hv6, _⟩ := laid_sentinel h6 g6 (ti := 59) (te := 176) (by kernel_rfl) Tryz.underlying59 dkT_row Tryz.underlying174 Tryz.underlying176 rfl rfl Tryz.underlying9 (by kernel_rfl) (by kernel_rfl)
  have c7 := World.var?_cell g7 hv5 0
  have c6 := World.var?_cell g6 hv6 0
  refine ⟨Tryz.laysM146.s1_3 W hsh, Lib.tabIs_of_head (g := 3) (by kernel_rfl) (by kernel_rfl) Tryz.underlying154 Tryz.underlying79 (by kernel_rfl) (by kernel_rfl) h3, ⟨_, _, by simpa using c6⟩, ⟨_, _, by simpa using c7⟩, ?_⟩
  rcases Nat.lt_or_ge 7 W.heap.size with h | h
  · exact h
  · exfalso
    have hn : W.heap[7]? = none := Array.getElem?_eq_none h
    simp [World.cell?, hn] at c7

/-- the cells that a datum of numbers spells -/
def spelt1 : DataW Unit → List Value
  | .lit (.int k z) => [.int k z]
  | _ => []
def spelt2 : DataW Unit → List Value
  | .agg l => l.flatMap spelt1
  | d => spelt1 d
def spelt : DataW Unit → List Value
  | .agg l => l.flatMap spelt2
  | d => spelt1 d
def layC (cs : Array Value) : Obj → Obj
  | .cells _ t frozen => .cells cs t frozen
  | o => o
abbrev rangeS : ByteArray := ⟨#[118, 97, 108, 117, 101, 32, 111, 117, 116, 32, 111, 102, 32, 114, 97, 110, 103, 101]⟩
abbrev syntaxS : ByteArray := ⟨#[105, 110, 118, 97, 108, 105, 100, 32, 115, 121, 110, 116, 97, 120]⟩
noncomputable def dkLow : Nat := (World.holding Tryz.prog default ⟨#[], #[], []⟩).heap.size
/-- the settled world, the listed variables holding what start-up lays -/
noncomputable def laidWorld (os : Os) : World :=
  let w0 := World.holding Tryz.prog os ⟨#[.cells #[.string rangeS] 176, .cells #[.string syntaxS] 176], #[], []⟩
  { w0 with heap := ((((((w0.heap.modify 1 (layC (spelt Rows.laid_unicode_utf8_first).toArray)).modify 2 (layC (spelt Rows.laid_unicode_utf8_acceptRanges).toArray)).modify 3 (layC (spelt Rows.laid_internal_strconv_uint64pow10).toArray)).modify 4 (layC (spelt Rows.laid_math_bits_deBruijn32tab).toArray)).modify 5 (layC (spelt Rows.laid_math_bits_deBruijn64tab).toArray)).modify 6 (layC #[.iface 174 (.pointer (some ⟨dkLow + 1, 0, none⟩))])).modify 7 (layC #[.iface 174 (.pointer (some ⟨dkLow, 0, none⟩))]) }
theorem laid_met (os : Os) (args : Array Value) : laidMet Tryz.prog dkLaid ((laidWorld os).forCall (fun _ _ => 0) ⟨#[], args, []⟩).memory :=
  laidMet_of_run3 8 (by kernel_rfl) (by kernel_rfl) (by kernel_rfl)
end Go.Proofs.YtgbccpfehcjhbaaGreatDoor

/- The statement DeskSaysUptoCardSaid: 'headway/headlaw.DeskSays' returns true for every input of bulk at most 1048576, and the argument reads behind the call as it read before; its card. The walk is in the text before; this text is the row round it. -/
namespace Go.Proofs.YtgbccpfehcjhbaaGreatDoor.lawDeskSays
open Go Go.ChangeShapes Go.WideShapes Go.ChangeAt Go.RowKit
open Go.ChangeMaps (open_string shut_string)
set_option linter.unusedVariables false

theorem own_ : ownKnob Tryz.prog.godebug = none := by kernel_rfl
/-- what the bound gives: the script's length -/
theorem short {H : Type} {s : ByteArray} (hk : Rows.uptoSmall H [.lit (.string s.data.toList)] = true) : s.size ≤ 1048576 := by
  have h : Rows.uptoBulkAll [DataW.lit (H := H) (.string s.data.toList)] ≤ 1048576 := of_decide_eq_true hk
  simp only [Rows.uptoBulkAll, Rows.uptoBulk] at h
  have e : s.data.toList.length = s.size := by rw [Array.length_toList]; rfl
  omega
theorem reads (os : Os) {H : Type} (enc : TypeId × Value → H) : ∃ places, DataW.whole enc Tryz.prog ((laidWorld os).forCall (fun _ _ => 0) ⟨#[], #[.string .empty], []⟩).memory Tryz.f3.params.toList Rows.deskSaysSpec.vars false #[Value.string .empty].toList 8 = some ([.lit (.string [])], [], places) :=
  ⟨[], by kernel_rfl⟩

set_option maxRecDepth 100000 in
theorem lifted (os : Os) (started : os.Started) (H : Type) (enc : TypeId × Value → H) (F : Stop.Interp) :
    ReturnsInHanded {} Tryz.checked os 3 .any ((Rows.OpenSpec.upto Rows.deskSaysSpec).preRow enc Tryz.prog Tryz.f3 Rows.deskSaysUptoRow.domain false Rows.deskSaysUptoRow.laid) (((Rows.OpenSpec.upto Rows.deskSaysSpec).at F).post enc Tryz.prog Tryz.f3 false true false false) := by
  obtain ⟨places, hx⟩ := reads os enc
  refine returnsInHanded_of_row (C := Tryz.checked) (s := Rows.OpenSpec.upto Rows.deskSaysSpec) own_ started (by kernel_rfl) Tryz.func3
    (witness_row_at (enc := enc) (C := Tryz.checked) false (laidWorld os) #[.string .empty] rfl (by kernel_rfl) (by kernel_rfl) (by kernel_rfl)
      (OpenSpec.preRow_of_cond 8 hx (by kernel_rfl) (fun k hk => by cases hk; kernel_rfl) (by kernel_rfl) (laid_met os _))) ?_
  intro W base args ds gs before hval0 hW h1 hcond h3 hL hsh h5
  have LD : Laid W := laid_of hL hsh
  have hval : ∀ (j : Nat) t v, Tryz.f3.params[j]? = some t → args[j]? = some v → Value.okWide Tryz.prog W .any base t v := hval0
  have hk : Rows.uptoSmall H (ds ++ gs) = true := hcond _ rfl
  have hW' := hW
  obtain ⟨p, q, hA0, hV, rfl, hfz, hnd⟩ := hW
  have hA : DataW.TrodAll enc Tryz.prog W 0 (fun _ => true) true Tryz.f3.params.toList args.toList ds p := hA0
  rw [Tryz.params3] at hA hval
  obtain ⟨v0, vs0, d0, ds0, p0, q0, hargs, rfl, rfl, h0, r0⟩ := trodAll_cons hA
  obtain ⟨rfl, rfl, rfl⟩ := trodAll_nil r0
  obtain rfl : args = #[v0] := by cases args; simp_all
  obtain ⟨rfl, rfl⟩ := trodVars_none hV
  obtain ⟨s, rfl, rfl, rfl, hmax⟩ := open_string Tryz.underlying9 (hval 0 9 v0 rfl rfl) h0
  clear hA0 hval0
  simp only [List.append_nil] at hW' hk
  refine (deskSays_walk LD (short hk)).mono fun e W' ⟨he, bel⟩ => ?_
  subst he
  exact ⟨_, rfl, _, _, _, [], _, [], hW', trodAll_mk1 (shut_bool Tryz.underlying4 _), (trodAll_cons_mk (shut_string Tryz.underlying9 hmax) trodAll_mk0), rfl, bel.frame _, fun h => by cases h⟩

theorem said : Rows.DeskSaysUptoSaid :=
  OpenClaim.holds_of_cond 3 Tryz.f3 rfl rfl rfl rfl rfl rfl rfl ⟨rfl, rfl, rfl, rfl, rfl⟩ rfl rfl rfl rfl rfl (by kernel_rfl) Tryz.func3 (by kernel_rfl)
    (of_decide_eq_true (by kernel_rfl)) (by unfold Func.isWrapper; first | (rw [if_pos (by decide +kernel)]; kernel_rfl) | (rw [if_neg (by decide +kernel)]; exact ⟨rfl, rfl⟩))
    (fun os started H enc _ F => by rw [OpenClaim.pre_eq_preRow]; exact lifted os started H enc F)
theorem plain (f : FuncId) (fn : Func) (hf : Tryz.pinned.checked.prog.funcNamed "headway/headlaw.DeskSays" = some f) (hfn : Tryz.pinned.checked.prog.funcs[f]? = some fn) :
    true = Tryz.pinned.checked.prog.looks [] ∧ ∀ (j : Nat) t, fn.params[j]? = some t → Tryz.pinned.checked.prog.wantsStandIn t = false := by
  obtain rfl : f = 3 := Option.some.inj ((show Tryz.prog.funcNamed "headway/headlaw.DeskSays" = some 3 by kernel_rfl).symm.trans hf) |>.symm
  obtain rfl : fn = Tryz.f3 := (Option.some.inj (Tryz.func3.symm.trans hfn)).symm
  refine ⟨by kernel_rfl, fun j t ht => ?_⟩
  rw [Tryz.params3] at ht
  obtain rfl : t = 9 := by simpa using Array.mem_of_getElem? ht
  exact (show Tryz.prog.wantsStandIn 9 = false by kernel_rfl)
/-- the card -/
theorem proved : Rows.DeskSaysUptoCardSaid :=
  Claim7.holds_tied_plain_at .later [] _ _ _ _ said (fun _ h => by cases h) (by kernel_rfl) (fun _ h => by cases h) deskSaysUpto_row_tie rfl ⟨rfl, rfl⟩ (by kernel_rfl) rfl plain (by kernel_rfl)
end Go.Proofs.YtgbccpfehcjhbaaGreatDoor.lawDeskSays
