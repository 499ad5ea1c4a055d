/-
  No cell of these rows narrows 'for every input' (looked for: loops, veiled, ifaces, maps, wideKeys, modest, calm, conditions, laid).
  DERIVED. THE GIVEN ROWS OF THIS SEAT. 12 by the template 'for every input the law returns true; each argument reads behind the call as it read before'; 0 by the template 'total and deterministic' (their statements: YtjlfefaifeanmaaTotals.lean).
  GIVEN WITH THE SEED: the statements are not yours to turn. If you find one false, say at which input.
  Laid BY PROGRAM, IN A SANDBOX (cutbox-rows.mjs): the forced cells as the released guide's own fill.sh prints them over the translation 2f1dba3b15d205e6… (all of the seat's roots in one cut). By AI agents, Wed Nov 11 2026. No macro, syntax, notation, axiom, sorry.
-/
import Derived.Test.YtjlfefaifeanmaaChecked
import GoSem.Claim
import GoSem.ClaimJoined
import GoSem.ClaimMapViews
import Derived.JoinedTies
import Derived.KernelRfl
namespace Go.Proofs.Ytjlfefaifeanmaa
/- THE CELL 'sum', in the pinned program and in every row, IS THE sha256 OF THE DUMP (.gsa) THAT YtjlfefaifeanmaaProg.lean LOADS. Nothing in Lean hashes anything: it is a label: what it is worth is what the hold of that sum in a sandbox is worth. -/
noncomputable def Try.pinned : Pinned := { name := "ytjlfefaifeanmaa", sum := "2f1dba3b15d205e6cdfe04898dad6cf0423acc5a783f43635311ea26619cd11c", checked := Try.checked }
namespace Rows
def none {H : Type} : Left H := { results := [], args := [] }

/-- 'headlaw.ConvTimes': WHATEVER THE INPUT: true; the input reads as it did. -/
def convTimesSpec : ChangeSpec := { name := "convTimes", fn := fun _ => fun
  | [d1, d2] => { results := [.lit (.bool true)], args := [d1, d2] }
  | _ => none }
def convTimesRow : OpenClaim := { program := "ytjlfefaifeanmaa", sum := "2f1dba3b15d205e6cdfe04898dad6cf0423acc5a783f43635311ea26619cd11c", func := "headway/headlaw.ConvTimes", spec := "convTimes", recurses := true, apart := false }
def ConvTimesSaid : Prop := convTimesRow.holds Try.pinned (OpenSpec.ofChange convTimesSpec)

/-- ITS FALSE NEIGHBOUR: 'it returns false'. Refute it at one input. -/
def convTimesWrong : ChangeSpec := { name := "convTimes", fn := fun _ => fun
  | [d1, d2] => { results := [.lit (.bool false)], args := [d1, d2] }
  | _ => none }
def ConvTimesWrongFalsely : Prop := convTimesRow.holds Try.pinned (OpenSpec.ofChange convTimesWrong)

/-- 'headlaw.ShaperSays': WHATEVER THE INPUT: true; the input reads as it did. -/
def shaperSaysSpec : ChangeSpec := { name := "shaperSays", fn := fun _ => fun
  | [d1, d2] => { results := [.lit (.bool true)], args := [d1, d2] }
  | _ => none }
def shaperSaysRow : OpenClaim := { program := "ytjlfefaifeanmaa", sum := "2f1dba3b15d205e6cdfe04898dad6cf0423acc5a783f43635311ea26619cd11c", func := "headway/headlaw.ShaperSays", spec := "shaperSays", apart := false }
def ShaperSaysSaid : Prop := shaperSaysRow.holds Try.pinned (OpenSpec.ofChange shaperSaysSpec)

/-- ITS FALSE NEIGHBOUR: 'it returns false'. Refute it at one input. -/
def shaperSaysWrong : ChangeSpec := { name := "shaperSays", fn := fun _ => fun
  | [d1, d2] => { results := [.lit (.bool false)], args := [d1, d2] }
  | _ => none }
def ShaperSaysWrongFalsely : Prop := shaperSaysRow.holds Try.pinned (OpenSpec.ofChange shaperSaysWrong)

/-- 'headlaw.TraceTells': WHATEVER THE INPUT: true; the input reads as it did. -/
def traceTellsSpec : ChangeSpec := { name := "traceTells", fn := fun _ => fun
  | [d1, d2] => { results := [.lit (.bool true)], args := [d1, d2] }
  | _ => none }
def traceTellsRow : OpenClaim := { program := "ytjlfefaifeanmaa", sum := "2f1dba3b15d205e6cdfe04898dad6cf0423acc5a783f43635311ea26619cd11c", func := "headway/headlaw.TraceTells", spec := "traceTells", apart := false }
def TraceTellsSaid : Prop := traceTellsRow.holds Try.pinned (OpenSpec.ofChange traceTellsSpec)

/-- ITS FALSE NEIGHBOUR: 'it returns false'. Refute it at one input. -/
def traceTellsWrong : ChangeSpec := { name := "traceTells", fn := fun _ => fun
  | [d1, d2] => { results := [.lit (.bool false)], args := [d1, d2] }
  | _ => none }
def TraceTellsWrongFalsely : Prop := traceTellsRow.holds Try.pinned (OpenSpec.ofChange traceTellsWrong)

/-- 'headlaw.TraceSays': WHATEVER THE INPUT: true; the input reads as it did. -/
def traceSaysSpec : ChangeSpec := { name := "traceSays", fn := fun _ => fun
  | [d1, d2] => { results := [.lit (.bool true)], args := [d1, d2] }
  | _ => none }
def traceSaysRow : OpenClaim := { program := "ytjlfefaifeanmaa", sum := "2f1dba3b15d205e6cdfe04898dad6cf0423acc5a783f43635311ea26619cd11c", func := "headway/headlaw.TraceSays", spec := "traceSays", unfollowed := true, recurses := true, apart := false }
def TraceSaysSaid : Prop := traceSaysRow.holds Try.pinned (OpenSpec.ofChange traceSaysSpec)

/-- ITS FALSE NEIGHBOUR: 'it returns false'. Refute it at one input. -/
def traceSaysWrong : ChangeSpec := { name := "traceSays", fn := fun _ => fun
  | [d1, d2] => { results := [.lit (.bool false)], args := [d1, d2] }
  | _ => none }
def TraceSaysWrongFalsely : Prop := traceSaysRow.holds Try.pinned (OpenSpec.ofChange traceSaysWrong)

/-- 'headlaw.ShapeSays': WHATEVER THE INPUT: true; the input reads as it did. -/
def shapeSaysSpec : ChangeSpec := { name := "shapeSays", fn := fun _ => fun
  | [d1, d2, d3] => { results := [.lit (.bool true)], args := [d1, d2, d3] }
  | _ => none }
def shapeSaysRow : OpenClaim := { program := "ytjlfefaifeanmaa", sum := "2f1dba3b15d205e6cdfe04898dad6cf0423acc5a783f43635311ea26619cd11c", func := "headway/headlaw.ShapeSays", spec := "shapeSays", unfollowed := true, recurses := true, apart := false }
def ShapeSaysSaid : Prop := shapeSaysRow.holds Try.pinned (OpenSpec.ofChange shapeSaysSpec)

/-- ITS FALSE NEIGHBOUR: 'it returns false'. Refute it at one input. -/
def shapeSaysWrong : ChangeSpec := { name := "shapeSays", fn := fun _ => fun
  | [d1, d2, d3] => { results := [.lit (.bool false)], args := [d1, d2, d3] }
  | _ => none }
def ShapeSaysWrongFalsely : Prop := shapeSaysRow.holds Try.pinned (OpenSpec.ofChange shapeSaysWrong)

/-- 'headlaw.CatchBounds': WHATEVER THE INPUT: true; the input reads as it did. -/
def catchBoundsSpec : ChangeSpec := { name := "catchBounds", fn := fun _ => fun
  | [d1, d2, d3] => { results := [.lit (.bool true)], args := [d1, d2, d3] }
  | _ => none }
def catchBoundsRow : OpenClaim := { program := "ytjlfefaifeanmaa", sum := "2f1dba3b15d205e6cdfe04898dad6cf0423acc5a783f43635311ea26619cd11c", func := "headway/headlaw.CatchBounds", spec := "catchBounds", unfollowed := true, recurses := true, apart := false }
def CatchBoundsSaid : Prop := catchBoundsRow.holds Try.pinned (OpenSpec.ofChange catchBoundsSpec)

/-- ITS FALSE NEIGHBOUR: 'it returns false'. Refute it at one input. -/
def catchBoundsWrong : ChangeSpec := { name := "catchBounds", fn := fun _ => fun
  | [d1, d2, d3] => { results := [.lit (.bool false)], args := [d1, d2, d3] }
  | _ => none }
def CatchBoundsWrongFalsely : Prop := catchBoundsRow.holds Try.pinned (OpenSpec.ofChange catchBoundsWrong)

/-- 'headlaw.CatchLags': WHATEVER THE INPUT: true; the input reads as it did. -/
def catchLagsSpec : ChangeSpec := { name := "catchLags", fn := fun _ => fun
  | [d1, d2, d3] => { results := [.lit (.bool true)], args := [d1, d2, d3] }
  | _ => none }
def catchLagsRow : OpenClaim := { program := "ytjlfefaifeanmaa", sum := "2f1dba3b15d205e6cdfe04898dad6cf0423acc5a783f43635311ea26619cd11c", func := "headway/headlaw.CatchLags", spec := "catchLags", unfollowed := true, recurses := true, apart := false }
def CatchLagsSaid : Prop := catchLagsRow.holds Try.pinned (OpenSpec.ofChange catchLagsSpec)

/-- ITS FALSE NEIGHBOUR: 'it returns false'. Refute it at one input. -/
def catchLagsWrong : ChangeSpec := { name := "catchLags", fn := fun _ => fun
  | [d1, d2, d3] => { results := [.lit (.bool false)], args := [d1, d2, d3] }
  | _ => none }
def CatchLagsWrongFalsely : Prop := catchLagsRow.holds Try.pinned (OpenSpec.ofChange catchLagsWrong)

/-- 'headlaw.PlanSays': WHATEVER THE INPUT: true; the input reads as it did. -/
def planSaysSpec : ChangeSpec := { name := "planSays", fn := fun _ => fun
  | [d1, d2, d3, d4] => { results := [.lit (.bool true)], args := [d1, d2, d3, d4] }
  | _ => none }
def planSaysRow : OpenClaim := { program := "ytjlfefaifeanmaa", sum := "2f1dba3b15d205e6cdfe04898dad6cf0423acc5a783f43635311ea26619cd11c", func := "headway/headlaw.PlanSays", spec := "planSays", unfollowed := true, recurses := true, apart := false }
def PlanSaysSaid : Prop := planSaysRow.holds Try.pinned (OpenSpec.ofChange planSaysSpec)

/-- ITS FALSE NEIGHBOUR: 'it returns false'. Refute it at one input. -/
def planSaysWrong : ChangeSpec := { name := "planSays", fn := fun _ => fun
  | [d1, d2, d3, d4] => { results := [.lit (.bool false)], args := [d1, d2, d3, d4] }
  | _ => none }
def PlanSaysWrongFalsely : Prop := planSaysRow.holds Try.pinned (OpenSpec.ofChange planSaysWrong)

/-- 'headlaw.LineSays': WHATEVER THE INPUT: true; the input reads as it did. -/
def lineSaysSpec : ChangeSpec := { name := "lineSays", fn := fun _ => fun
  | [d1, d2] => { results := [.lit (.bool true)], args := [d1, d2] }
  | _ => none }
def lineSaysRow : OpenClaim := { program := "ytjlfefaifeanmaa", sum := "2f1dba3b15d205e6cdfe04898dad6cf0423acc5a783f43635311ea26619cd11c", func := "headway/headlaw.LineSays", spec := "lineSays", unfollowed := true, recurses := true, apart := false }
def LineSaysSaid : Prop := lineSaysRow.holds Try.pinned (OpenSpec.ofChange lineSaysSpec)

/-- ITS FALSE NEIGHBOUR: 'it returns false'. Refute it at one input. -/
def lineSaysWrong : ChangeSpec := { name := "lineSays", fn := fun _ => fun
  | [d1, d2] => { results := [.lit (.bool false)], args := [d1, d2] }
  | _ => none }
def LineSaysWrongFalsely : Prop := lineSaysRow.holds Try.pinned (OpenSpec.ofChange lineSaysWrong)

/-- 'headlaw.PrioSays': WHATEVER THE INPUT: true; the input reads as it did. -/
def prioSaysSpec : ChangeSpec := { name := "prioSays", fn := fun _ => fun
  | [d1, d2, d3] => { results := [.lit (.bool true)], args := [d1, d2, d3] }
  | _ => none }
def prioSaysRow : OpenClaim := { program := "ytjlfefaifeanmaa", sum := "2f1dba3b15d205e6cdfe04898dad6cf0423acc5a783f43635311ea26619cd11c", func := "headway/headlaw.PrioSays", spec := "prioSays", unfollowed := true, recurses := true, apart := false }
def PrioSaysSaid : Prop := prioSaysRow.holds Try.pinned (OpenSpec.ofChange prioSaysSpec)

/-- ITS FALSE NEIGHBOUR: 'it returns false'. Refute it at one input. -/
def prioSaysWrong : ChangeSpec := { name := "prioSays", fn := fun _ => fun
  | [d1, d2, d3] => { results := [.lit (.bool false)], args := [d1, d2, d3] }
  | _ => none }
def PrioSaysWrongFalsely : Prop := prioSaysRow.holds Try.pinned (OpenSpec.ofChange prioSaysWrong)

/-- 'headlaw.PrioLeft': WHATEVER THE INPUT: true; the input reads as it did. -/
def prioLeftSpec : ChangeSpec := { name := "prioLeft", fn := fun _ => fun
  | [d1, d2] => { results := [.lit (.bool true)], args := [d1, d2] }
  | _ => none }
def prioLeftRow : OpenClaim := { program := "ytjlfefaifeanmaa", sum := "2f1dba3b15d205e6cdfe04898dad6cf0423acc5a783f43635311ea26619cd11c", func := "headway/headlaw.PrioLeft", spec := "prioLeft", unfollowed := true, recurses := true, apart := false }
def PrioLeftSaid : Prop := prioLeftRow.holds Try.pinned (OpenSpec.ofChange prioLeftSpec)

/-- ITS FALSE NEIGHBOUR: 'it returns false'. Refute it at one input. -/
def prioLeftWrong : ChangeSpec := { name := "prioLeft", fn := fun _ => fun
  | [d1, d2] => { results := [.lit (.bool false)], args := [d1, d2] }
  | _ => none }
def PrioLeftWrongFalsely : Prop := prioLeftRow.holds Try.pinned (OpenSpec.ofChange prioLeftWrong)

/-- 'headtop.TopChain': WHATEVER THE INPUT: true; the input reads as it did. -/
def topChainSpec : ChangeSpec := { name := "topChain", fn := fun _ => fun
  | [d1, d2, d3, d4] => { results := [.lit (.bool true)], args := [d1, d2, d3, d4] }
  | _ => none }
def topChainRow : OpenClaim := { program := "ytjlfefaifeanmaa", sum := "2f1dba3b15d205e6cdfe04898dad6cf0423acc5a783f43635311ea26619cd11c", func := "headway/headtop.TopChain", spec := "topChain", apart := false }
def TopChainSaid : Prop := topChainRow.holds Try.pinned (OpenSpec.ofChange topChainSpec)

/-- ITS FALSE NEIGHBOUR: 'it returns false'. Refute it at one input. -/
def topChainWrong : ChangeSpec := { name := "topChain", fn := fun _ => fun
  | [d1, d2, d3, d4] => { results := [.lit (.bool false)], args := [d1, d2, d3, d4] }
  | _ => none }
def TopChainWrongFalsely : Prop := topChainRow.holds Try.pinned (OpenSpec.ofChange topChainWrong)

/- THE SECOND FORM. 'bulk': how many values and letters a reading holds, each counted each time it is reached (what is shared counts as often as it is met; a slice's spare places count too). A statement '..UptoSaid' is the law's where the arguments, and the package variables that the reading takes, are together of bulk at most 1048576: NARROWER than '..Said'. Prove '..Said' where nothing that the law and all that it calls make is longer than what came in: it says more and counts as full. Else prove '..UptoSaid'. A law counts once. -/
mutual
def uptoBulk {H : Type} : DataW H → Nat
  | .lit (.string bytes) => bytes.length + 1
  | .lit _ => 1
  | .nil => 1
  | .ptr d => uptoBulk d + 1
  | .slice elems spare => uptoBulkAll elems + uptoBulkAll spare + 1
  | .agg parts => uptoBulkAll parts + 1
  | .iface _ d => uptoBulk d + 1
  | .map entries => uptoBulkEntries entries + 1
  | .held _ => 1
def uptoBulkAll {H : Type} : List (DataW H) → Nat
  | [] => 0
  | d :: r => uptoBulk d + uptoBulkAll r
def uptoBulkEntries {H : Type} : List (Lit × DataW H) → Nat
  | [] => 0
  | x :: r => uptoBulkEntry x + uptoBulkEntries r
def uptoBulkEntry {H : Type} : Lit × DataW H → Nat
  | (.string bytes, d) => bytes.length + uptoBulk d + 1
  | (_, d) => uptoBulk d + 1
 end
def uptoSmall : (H : Type) → List (DataW H) → Bool := fun _ ds => decide (uptoBulkAll ds ≤ 1048576)
def OpenSpec.upto (s : _root_.Go.ChangeSpec) : _root_.Go.OpenSpec := { _root_.Go.OpenSpec.ofChange s with cond := some uptoSmall }

/-- 'headlaw.ConvTimes', WHERE WHAT IT READS IS OF BULK AT MOST 1048576: true; the input reads as it did. -/
def convTimesUptoRow : OpenClaim := { program := "ytjlfefaifeanmaa", sum := "2f1dba3b15d205e6cdfe04898dad6cf0423acc5a783f43635311ea26619cd11c", func := "headway/headlaw.ConvTimes", spec := "convTimes", recurses := true, apart := false, narrowed := true }
def ConvTimesUptoSaid : Prop := convTimesUptoRow.holds Try.pinned (OpenSpec.upto convTimesSpec)

/-- 'headlaw.ShaperSays', WHERE WHAT IT READS IS OF BULK AT MOST 1048576: true; the input reads as it did. -/
def shaperSaysUptoRow : OpenClaim := { program := "ytjlfefaifeanmaa", sum := "2f1dba3b15d205e6cdfe04898dad6cf0423acc5a783f43635311ea26619cd11c", func := "headway/headlaw.ShaperSays", spec := "shaperSays", apart := false, narrowed := true }
def ShaperSaysUptoSaid : Prop := shaperSaysUptoRow.holds Try.pinned (OpenSpec.upto shaperSaysSpec)

/-- 'headlaw.TraceTells', WHERE WHAT IT READS IS OF BULK AT MOST 1048576: true; the input reads as it did. -/
def traceTellsUptoRow : OpenClaim := { program := "ytjlfefaifeanmaa", sum := "2f1dba3b15d205e6cdfe04898dad6cf0423acc5a783f43635311ea26619cd11c", func := "headway/headlaw.TraceTells", spec := "traceTells", apart := false, narrowed := true }
def TraceTellsUptoSaid : Prop := traceTellsUptoRow.holds Try.pinned (OpenSpec.upto traceTellsSpec)

/-- 'headlaw.TraceSays', WHERE WHAT IT READS IS OF BULK AT MOST 1048576: true; the input reads as it did. -/
def traceSaysUptoRow : OpenClaim := { program := "ytjlfefaifeanmaa", sum := "2f1dba3b15d205e6cdfe04898dad6cf0423acc5a783f43635311ea26619cd11c", func := "headway/headlaw.TraceSays", spec := "traceSays", unfollowed := true, recurses := true, apart := false, narrowed := true }
def TraceSaysUptoSaid : Prop := traceSaysUptoRow.holds Try.pinned (OpenSpec.upto traceSaysSpec)

/-- 'headlaw.ShapeSays', WHERE WHAT IT READS IS OF BULK AT MOST 1048576: true; the input reads as it did. -/
def shapeSaysUptoRow : OpenClaim := { program := "ytjlfefaifeanmaa", sum := "2f1dba3b15d205e6cdfe04898dad6cf0423acc5a783f43635311ea26619cd11c", func := "headway/headlaw.ShapeSays", spec := "shapeSays", unfollowed := true, recurses := true, apart := false, narrowed := true }
def ShapeSaysUptoSaid : Prop := shapeSaysUptoRow.holds Try.pinned (OpenSpec.upto shapeSaysSpec)

/-- 'headlaw.CatchBounds', WHERE WHAT IT READS IS OF BULK AT MOST 1048576: true; the input reads as it did. -/
def catchBoundsUptoRow : OpenClaim := { program := "ytjlfefaifeanmaa", sum := "2f1dba3b15d205e6cdfe04898dad6cf0423acc5a783f43635311ea26619cd11c", func := "headway/headlaw.CatchBounds", spec := "catchBounds", unfollowed := true, recurses := true, apart := false, narrowed := true }
def CatchBoundsUptoSaid : Prop := catchBoundsUptoRow.holds Try.pinned (OpenSpec.upto catchBoundsSpec)

/-- 'headlaw.CatchLags', WHERE WHAT IT READS IS OF BULK AT MOST 1048576: true; the input reads as it did. -/
def catchLagsUptoRow : OpenClaim := { program := "ytjlfefaifeanmaa", sum := "2f1dba3b15d205e6cdfe04898dad6cf0423acc5a783f43635311ea26619cd11c", func := "headway/headlaw.CatchLags", spec := "catchLags", unfollowed := true, recurses := true, apart := false, narrowed := true }
def CatchLagsUptoSaid : Prop := catchLagsUptoRow.holds Try.pinned (OpenSpec.upto catchLagsSpec)

/-- 'headlaw.PlanSays', WHERE WHAT IT READS IS OF BULK AT MOST 1048576: true; the input reads as it did. -/
def planSaysUptoRow : OpenClaim := { program := "ytjlfefaifeanmaa", sum := "2f1dba3b15d205e6cdfe04898dad6cf0423acc5a783f43635311ea26619cd11c", func := "headway/headlaw.PlanSays", spec := "planSays", unfollowed := true, recurses := true, apart := false, narrowed := true }
def PlanSaysUptoSaid : Prop := planSaysUptoRow.holds Try.pinned (OpenSpec.upto planSaysSpec)

/-- 'headlaw.LineSays', WHERE WHAT IT READS IS OF BULK AT MOST 1048576: true; the input reads as it did. -/
def lineSaysUptoRow : OpenClaim := { program := "ytjlfefaifeanmaa", sum := "2f1dba3b15d205e6cdfe04898dad6cf0423acc5a783f43635311ea26619cd11c", func := "headway/headlaw.LineSays", spec := "lineSays", unfollowed := true, recurses := true, apart := false, narrowed := true }
def LineSaysUptoSaid : Prop := lineSaysUptoRow.holds Try.pinned (OpenSpec.upto lineSaysSpec)

/-- 'headlaw.PrioSays', WHERE WHAT IT READS IS OF BULK AT MOST 1048576: true; the input reads as it did. -/
def prioSaysUptoRow : OpenClaim := { program := "ytjlfefaifeanmaa", sum := "2f1dba3b15d205e6cdfe04898dad6cf0423acc5a783f43635311ea26619cd11c", func := "headway/headlaw.PrioSays", spec := "prioSays", unfollowed := true, recurses := true, apart := false, narrowed := true }
def PrioSaysUptoSaid : Prop := prioSaysUptoRow.holds Try.pinned (OpenSpec.upto prioSaysSpec)

/-- 'headlaw.PrioLeft', WHERE WHAT IT READS IS OF BULK AT MOST 1048576: true; the input reads as it did. -/
def prioLeftUptoRow : OpenClaim := { program := "ytjlfefaifeanmaa", sum := "2f1dba3b15d205e6cdfe04898dad6cf0423acc5a783f43635311ea26619cd11c", func := "headway/headlaw.PrioLeft", spec := "prioLeft", unfollowed := true, recurses := true, apart := false, narrowed := true }
def PrioLeftUptoSaid : Prop := prioLeftUptoRow.holds Try.pinned (OpenSpec.upto prioLeftSpec)

/-- 'headtop.TopChain', WHERE WHAT IT READS IS OF BULK AT MOST 1048576: true; the input reads as it did. -/
def topChainUptoRow : OpenClaim := { program := "ytjlfefaifeanmaa", sum := "2f1dba3b15d205e6cdfe04898dad6cf0423acc5a783f43635311ea26619cd11c", func := "headway/headtop.TopChain", spec := "topChain", apart := false, narrowed := true }
def TopChainUptoSaid : Prop := topChainUptoRow.holds Try.pinned (OpenSpec.upto topChainSpec)

end Rows
end Go.Proofs.Ytjlfefaifeanmaa
