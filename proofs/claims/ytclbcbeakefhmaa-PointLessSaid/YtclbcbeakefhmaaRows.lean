/-
  No cell of these rows narrows 'for every input' (looked for: loops, veiled, ifaces, maps, wideKeys, modest, calm, conditions, laid).
  DERIVED. THE GIVEN ROWS OF THIS SEAT. 12 by the template 'for every input the law returns true; each argument reads behind the call as it read before'; 0 by the template 'total and deterministic' (their statements: YtclbcbeakefhmaaTotals.lean).
  GIVEN WITH THE SEED: the statements are not yours to turn. If you find one false, say at which input.
  Laid BY PROGRAM, IN A SANDBOX (cutbox-rows.mjs): the forced cells as the released guide's own fill.sh prints them over the translation d0150eb8aea94266… (all of the seat's roots in one cut). By AI agents, Wed Nov 11 2026. No macro, syntax, notation, axiom, sorry.
-/
import Derived.Test.YtclbcbeakefhmaaChecked
import GoSem.Claim
import GoSem.ClaimJoined
import GoSem.ClaimMapViews
import Derived.JoinedTies
import Derived.KernelRfl
namespace Go.Proofs.Ytclbcbeakefhmaa
/- THE CELL 'sum', in the pinned program and in every row, IS THE sha256 OF THE DUMP (.gsa) THAT YtclbcbeakefhmaaProg.lean LOADS. Nothing in Lean hashes anything: it is a label: what it is worth is what the hold of that sum in a sandbox is worth. -/
noncomputable def Try.pinned : Pinned := { name := "ytclbcbeakefhmaa", sum := "d0150eb8aea942662487a6ee5e1589d65f986803a555f1debb3732e5c687a9fb", checked := Try.checked }
namespace Rows
def none {H : Type} : Left H := { results := [], args := [] }

/-- 'headlaw.Names': WHATEVER THE INPUT: true; the input reads as it did. -/
def namesSpec : ChangeSpec := { name := "names", fn := fun _ => fun
  | [] => { results := [.lit (.bool true)], args := [] }
  | _ => none }
def namesRow : OpenClaim := { program := "ytclbcbeakefhmaa", sum := "d0150eb8aea942662487a6ee5e1589d65f986803a555f1debb3732e5c687a9fb", func := "headway/headlaw.Names", spec := "names", apart := false }
def NamesSaid : Prop := namesRow.holds Try.pinned (OpenSpec.ofChange namesSpec)

/-- ITS FALSE NEIGHBOUR: 'it returns false'. Refute it at one input. -/
def namesWrong : ChangeSpec := { name := "names", fn := fun _ => fun
  | [] => { results := [.lit (.bool false)], args := [] }
  | _ => none }
def NamesWrongFalsely : Prop := namesRow.holds Try.pinned (OpenSpec.ofChange namesWrong)

/-- 'headlaw.CurveChecks': WHATEVER THE INPUT: true; the input reads as it did. -/
def curveChecksSpec : ChangeSpec := { name := "curveChecks", fn := fun _ => fun
  | [d] => { results := [.lit (.bool true)], args := [d] }
  | _ => none }
def curveChecksRow : OpenClaim := { program := "ytclbcbeakefhmaa", sum := "d0150eb8aea942662487a6ee5e1589d65f986803a555f1debb3732e5c687a9fb", func := "headway/headlaw.CurveChecks", spec := "curveChecks", apart := false }
def CurveChecksSaid : Prop := curveChecksRow.holds Try.pinned (OpenSpec.ofChange curveChecksSpec)

/-- ITS FALSE NEIGHBOUR: 'it returns false'. Refute it at one input. -/
def curveChecksWrong : ChangeSpec := { name := "curveChecks", fn := fun _ => fun
  | [d] => { results := [.lit (.bool false)], args := [d] }
  | _ => none }
def CurveChecksWrongFalsely : Prop := curveChecksRow.holds Try.pinned (OpenSpec.ofChange curveChecksWrong)

/-- 'headlaw.CurveTells': WHATEVER THE INPUT: true; the input reads as it did. -/
def curveTellsSpec : ChangeSpec := { name := "curveTells", fn := fun _ => fun
  | [d1, d2, d3] => { results := [.lit (.bool true)], args := [d1, d2, d3] }
  | _ => none }
def curveTellsRow : OpenClaim := { program := "ytclbcbeakefhmaa", sum := "d0150eb8aea942662487a6ee5e1589d65f986803a555f1debb3732e5c687a9fb", func := "headway/headlaw.CurveTells", spec := "curveTells", apart := false }
def CurveTellsSaid : Prop := curveTellsRow.holds Try.pinned (OpenSpec.ofChange curveTellsSpec)

/-- ITS FALSE NEIGHBOUR: 'it returns false'. Refute it at one input. -/
def curveTellsWrong : ChangeSpec := { name := "curveTells", fn := fun _ => fun
  | [d1, d2, d3] => { results := [.lit (.bool false)], args := [d1, d2, d3] }
  | _ => none }
def CurveTellsWrongFalsely : Prop := curveTellsRow.holds Try.pinned (OpenSpec.ofChange curveTellsWrong)

/-- 'headlaw.InverseSays': WHATEVER THE INPUT: true; the input reads as it did. -/
def inverseSaysSpec : ChangeSpec := { name := "inverseSays", fn := fun _ => fun
  | [d1, d2] => { results := [.lit (.bool true)], args := [d1, d2] }
  | _ => none }
def inverseSaysRow : OpenClaim := { program := "ytclbcbeakefhmaa", sum := "d0150eb8aea942662487a6ee5e1589d65f986803a555f1debb3732e5c687a9fb", func := "headway/headlaw.InverseSays", spec := "inverseSays", unfollowed := true, recurses := true, apart := false }
def InverseSaysSaid : Prop := inverseSaysRow.holds Try.pinned (OpenSpec.ofChange inverseSaysSpec)

/-- ITS FALSE NEIGHBOUR: 'it returns false'. Refute it at one input. -/
def inverseSaysWrong : ChangeSpec := { name := "inverseSays", fn := fun _ => fun
  | [d1, d2] => { results := [.lit (.bool false)], args := [d1, d2] }
  | _ => none }
def InverseSaysWrongFalsely : Prop := inverseSaysRow.holds Try.pinned (OpenSpec.ofChange inverseSaysWrong)

/-- 'headlaw.DeconvSays': WHATEVER THE INPUT: true; the input reads as it did. -/
def deconvSaysSpec : ChangeSpec := { name := "deconvSays", fn := fun _ => fun
  | [d1, d2] => { results := [.lit (.bool true)], args := [d1, d2] }
  | _ => none }
def deconvSaysRow : OpenClaim := { program := "ytclbcbeakefhmaa", sum := "d0150eb8aea942662487a6ee5e1589d65f986803a555f1debb3732e5c687a9fb", func := "headway/headlaw.DeconvSays", spec := "deconvSays", apart := false }
def DeconvSaysSaid : Prop := deconvSaysRow.holds Try.pinned (OpenSpec.ofChange deconvSaysSpec)

/-- ITS FALSE NEIGHBOUR: 'it returns false'. Refute it at one input. -/
def deconvSaysWrong : ChangeSpec := { name := "deconvSays", fn := fun _ => fun
  | [d1, d2] => { results := [.lit (.bool false)], args := [d1, d2] }
  | _ => none }
def DeconvSaysWrongFalsely : Prop := deconvSaysRow.holds Try.pinned (OpenSpec.ofChange deconvSaysWrong)

/-- 'headlaw.ClosureSays': WHATEVER THE INPUT: true; the input reads as it did. -/
def closureSaysSpec : ChangeSpec := { name := "closureSays", fn := fun _ => fun
  | [d] => { results := [.lit (.bool true)], args := [d] }
  | _ => none }
def closureSaysRow : OpenClaim := { program := "ytclbcbeakefhmaa", sum := "d0150eb8aea942662487a6ee5e1589d65f986803a555f1debb3732e5c687a9fb", func := "headway/headlaw.ClosureSays", spec := "closureSays", apart := false }
def ClosureSaysSaid : Prop := closureSaysRow.holds Try.pinned (OpenSpec.ofChange closureSaysSpec)

/-- ITS FALSE NEIGHBOUR: 'it returns false'. Refute it at one input. -/
def closureSaysWrong : ChangeSpec := { name := "closureSays", fn := fun _ => fun
  | [d] => { results := [.lit (.bool false)], args := [d] }
  | _ => none }
def ClosureSaysWrongFalsely : Prop := closureSaysRow.holds Try.pinned (OpenSpec.ofChange closureSaysWrong)

/-- 'headlaw.BoundSays': WHATEVER THE INPUT: true; the input reads as it did. -/
def boundSaysSpec : ChangeSpec := { name := "boundSays", fn := fun _ => fun
  | [d1, d2] => { results := [.lit (.bool true)], args := [d1, d2] }
  | _ => none }
def boundSaysRow : OpenClaim := { program := "ytclbcbeakefhmaa", sum := "d0150eb8aea942662487a6ee5e1589d65f986803a555f1debb3732e5c687a9fb", func := "headway/headlaw.BoundSays", spec := "boundSays", unfollowed := true, recurses := true, apart := false }
def BoundSaysSaid : Prop := boundSaysRow.holds Try.pinned (OpenSpec.ofChange boundSaysSpec)

/-- ITS FALSE NEIGHBOUR: 'it returns false'. Refute it at one input. -/
def boundSaysWrong : ChangeSpec := { name := "boundSays", fn := fun _ => fun
  | [d1, d2] => { results := [.lit (.bool false)], args := [d1, d2] }
  | _ => none }
def BoundSaysWrongFalsely : Prop := boundSaysRow.holds Try.pinned (OpenSpec.ofChange boundSaysWrong)

/-- 'headlaw.PointMoves': WHATEVER THE INPUT: true; the input reads as it did. -/
def pointMovesSpec : ChangeSpec := { name := "pointMoves", fn := fun _ => fun
  | [d1, d2, d3] => { results := [.lit (.bool true)], args := [d1, d2, d3] }
  | _ => none }
def pointMovesRow : OpenClaim := { program := "ytclbcbeakefhmaa", sum := "d0150eb8aea942662487a6ee5e1589d65f986803a555f1debb3732e5c687a9fb", func := "headway/headlaw.PointMoves", spec := "pointMoves", apart := false }
def PointMovesSaid : Prop := pointMovesRow.holds Try.pinned (OpenSpec.ofChange pointMovesSpec)

/-- ITS FALSE NEIGHBOUR: 'it returns false'. Refute it at one input. -/
def pointMovesWrong : ChangeSpec := { name := "pointMoves", fn := fun _ => fun
  | [d1, d2, d3] => { results := [.lit (.bool false)], args := [d1, d2, d3] }
  | _ => none }
def PointMovesWrongFalsely : Prop := pointMovesRow.holds Try.pinned (OpenSpec.ofChange pointMovesWrong)

/-- 'headlaw.PointLess': WHATEVER THE INPUT: true; the input reads as it did. -/
def pointLessSpec : ChangeSpec := { name := "pointLess", fn := fun _ => fun
  | [d1, d2] => { results := [.lit (.bool true)], args := [d1, d2] }
  | _ => none }
def pointLessRow : OpenClaim := { program := "ytclbcbeakefhmaa", sum := "d0150eb8aea942662487a6ee5e1589d65f986803a555f1debb3732e5c687a9fb", func := "headway/headlaw.PointLess", spec := "pointLess", unfollowed := true, recurses := true, apart := false }
def PointLessSaid : Prop := pointLessRow.holds Try.pinned (OpenSpec.ofChange pointLessSpec)

/-- ITS FALSE NEIGHBOUR: 'it returns false'. Refute it at one input. -/
def pointLessWrong : ChangeSpec := { name := "pointLess", fn := fun _ => fun
  | [d1, d2] => { results := [.lit (.bool false)], args := [d1, d2] }
  | _ => none }
def PointLessWrongFalsely : Prop := pointLessRow.holds Try.pinned (OpenSpec.ofChange pointLessWrong)

/-- 'headlaw.PointSays': WHATEVER THE INPUT: true; the input reads as it did. -/
def pointSaysSpec : ChangeSpec := { name := "pointSays", fn := fun _ => fun
  | [d1, d2] => { results := [.lit (.bool true)], args := [d1, d2] }
  | _ => none }
def pointSaysRow : OpenClaim := { program := "ytclbcbeakefhmaa", sum := "d0150eb8aea942662487a6ee5e1589d65f986803a555f1debb3732e5c687a9fb", func := "headway/headlaw.PointSays", spec := "pointSays", unfollowed := true, recurses := true, apart := false }
def PointSaysSaid : Prop := pointSaysRow.holds Try.pinned (OpenSpec.ofChange pointSaysSpec)

/-- ITS FALSE NEIGHBOUR: 'it returns false'. Refute it at one input. -/
def pointSaysWrong : ChangeSpec := { name := "pointSays", fn := fun _ => fun
  | [d1, d2] => { results := [.lit (.bool false)], args := [d1, d2] }
  | _ => none }
def PointSaysWrongFalsely : Prop := pointSaysRow.holds Try.pinned (OpenSpec.ofChange pointSaysWrong)

/-- 'headlaw.DualSays': WHATEVER THE INPUT: true; the input reads as it did. -/
def dualSaysSpec : ChangeSpec := { name := "dualSays", fn := fun _ => fun
  | [d1, d2] => { results := [.lit (.bool true)], args := [d1, d2] }
  | _ => none }
def dualSaysRow : OpenClaim := { program := "ytclbcbeakefhmaa", sum := "d0150eb8aea942662487a6ee5e1589d65f986803a555f1debb3732e5c687a9fb", func := "headway/headlaw.DualSays", spec := "dualSays", apart := false }
def DualSaysSaid : Prop := dualSaysRow.holds Try.pinned (OpenSpec.ofChange dualSaysSpec)

/-- ITS FALSE NEIGHBOUR: 'it returns false'. Refute it at one input. -/
def dualSaysWrong : ChangeSpec := { name := "dualSays", fn := fun _ => fun
  | [d1, d2] => { results := [.lit (.bool false)], args := [d1, d2] }
  | _ => none }
def DualSaysWrongFalsely : Prop := dualSaysRow.holds Try.pinned (OpenSpec.ofChange dualSaysWrong)

/-- 'headlaw.ConvSays': WHATEVER THE INPUT: true; the input reads as it did. -/
def convSaysSpec : ChangeSpec := { name := "convSays", fn := fun _ => fun
  | [d1, d2] => { results := [.lit (.bool true)], args := [d1, d2] }
  | _ => none }
def convSaysRow : OpenClaim := { program := "ytclbcbeakefhmaa", sum := "d0150eb8aea942662487a6ee5e1589d65f986803a555f1debb3732e5c687a9fb", func := "headway/headlaw.ConvSays", spec := "convSays", apart := false }
def ConvSaysSaid : Prop := convSaysRow.holds Try.pinned (OpenSpec.ofChange convSaysSpec)

/-- ITS FALSE NEIGHBOUR: 'it returns false'. Refute it at one input. -/
def convSaysWrong : ChangeSpec := { name := "convSays", fn := fun _ => fun
  | [d1, d2] => { results := [.lit (.bool false)], args := [d1, d2] }
  | _ => none }
def ConvSaysWrongFalsely : Prop := convSaysRow.holds Try.pinned (OpenSpec.ofChange convSaysWrong)

/- THE SECOND FORM. 'bulk': how many values and letters a reading holds, each counted each time it is reached (what is shared counts as often as it is met; a slice's spare places count too). A statement '..UptoSaid' is the law's where the arguments, and the package variables that the reading takes, are together of bulk at most 1048576: NARROWER than '..Said'. Prove '..Said' where nothing that the law and all that it calls make is longer than what came in: it says more and counts as full. Else prove '..UptoSaid'. A law counts once. -/
mutual
def uptoBulk {H : Type} : DataW H → Nat
  | .lit (.string bytes) => bytes.length + 1
  | .lit _ => 1
  | .nil => 1
  | .ptr d => uptoBulk d + 1
  | .slice elems spare => uptoBulkAll elems + uptoBulkAll spare + 1
  | .agg parts => uptoBulkAll parts + 1
  | .iface _ d => uptoBulk d + 1
  | .map entries => uptoBulkEntries entries + 1
  | .held _ => 1
def uptoBulkAll {H : Type} : List (DataW H) → Nat
  | [] => 0
  | d :: r => uptoBulk d + uptoBulkAll r
def uptoBulkEntries {H : Type} : List (Lit × DataW H) → Nat
  | [] => 0
  | x :: r => uptoBulkEntry x + uptoBulkEntries r
def uptoBulkEntry {H : Type} : Lit × DataW H → Nat
  | (.string bytes, d) => bytes.length + uptoBulk d + 1
  | (_, d) => uptoBulk d + 1
 end
def uptoSmall : (H : Type) → List (DataW H) → Bool := fun _ ds => decide (uptoBulkAll ds ≤ 1048576)
def OpenSpec.upto (s : _root_.Go.ChangeSpec) : _root_.Go.OpenSpec := { _root_.Go.OpenSpec.ofChange s with cond := some uptoSmall }

/-- 'headlaw.Names', WHERE WHAT IT READS IS OF BULK AT MOST 1048576: true; the input reads as it did. -/
def namesUptoRow : OpenClaim := { program := "ytclbcbeakefhmaa", sum := "d0150eb8aea942662487a6ee5e1589d65f986803a555f1debb3732e5c687a9fb", func := "headway/headlaw.Names", spec := "names", apart := false, narrowed := true }
def NamesUptoSaid : Prop := namesUptoRow.holds Try.pinned (OpenSpec.upto namesSpec)

/-- 'headlaw.CurveChecks', WHERE WHAT IT READS IS OF BULK AT MOST 1048576: true; the input reads as it did. -/
def curveChecksUptoRow : OpenClaim := { program := "ytclbcbeakefhmaa", sum := "d0150eb8aea942662487a6ee5e1589d65f986803a555f1debb3732e5c687a9fb", func := "headway/headlaw.CurveChecks", spec := "curveChecks", apart := false, narrowed := true }
def CurveChecksUptoSaid : Prop := curveChecksUptoRow.holds Try.pinned (OpenSpec.upto curveChecksSpec)

/-- 'headlaw.CurveTells', WHERE WHAT IT READS IS OF BULK AT MOST 1048576: true; the input reads as it did. -/
def curveTellsUptoRow : OpenClaim := { program := "ytclbcbeakefhmaa", sum := "d0150eb8aea942662487a6ee5e1589d65f986803a555f1debb3732e5c687a9fb", func := "headway/headlaw.CurveTells", spec := "curveTells", apart := false, narrowed := true }
def CurveTellsUptoSaid : Prop := curveTellsUptoRow.holds Try.pinned (OpenSpec.upto curveTellsSpec)

/-- 'headlaw.InverseSays', WHERE WHAT IT READS IS OF BULK AT MOST 1048576: true; the input reads as it did. -/
def inverseSaysUptoRow : OpenClaim := { program := "ytclbcbeakefhmaa", sum := "d0150eb8aea942662487a6ee5e1589d65f986803a555f1debb3732e5c687a9fb", func := "headway/headlaw.InverseSays", spec := "inverseSays", unfollowed := true, recurses := true, apart := false, narrowed := true }
def InverseSaysUptoSaid : Prop := inverseSaysUptoRow.holds Try.pinned (OpenSpec.upto inverseSaysSpec)

/-- 'headlaw.DeconvSays', WHERE WHAT IT READS IS OF BULK AT MOST 1048576: true; the input reads as it did. -/
def deconvSaysUptoRow : OpenClaim := { program := "ytclbcbeakefhmaa", sum := "d0150eb8aea942662487a6ee5e1589d65f986803a555f1debb3732e5c687a9fb", func := "headway/headlaw.DeconvSays", spec := "deconvSays", apart := false, narrowed := true }
def DeconvSaysUptoSaid : Prop := deconvSaysUptoRow.holds Try.pinned (OpenSpec.upto deconvSaysSpec)

/-- 'headlaw.ClosureSays', WHERE WHAT IT READS IS OF BULK AT MOST 1048576: true; the input reads as it did. -/
def closureSaysUptoRow : OpenClaim := { program := "ytclbcbeakefhmaa", sum := "d0150eb8aea942662487a6ee5e1589d65f986803a555f1debb3732e5c687a9fb", func := "headway/headlaw.ClosureSays", spec := "closureSays", apart := false, narrowed := true }
def ClosureSaysUptoSaid : Prop := closureSaysUptoRow.holds Try.pinned (OpenSpec.upto closureSaysSpec)

/-- 'headlaw.BoundSays', WHERE WHAT IT READS IS OF BULK AT MOST 1048576: true; the input reads as it did. -/
def boundSaysUptoRow : OpenClaim := { program := "ytclbcbeakefhmaa", sum := "d0150eb8aea942662487a6ee5e1589d65f986803a555f1debb3732e5c687a9fb", func := "headway/headlaw.BoundSays", spec := "boundSays", unfollowed := true, recurses := true, apart := false, narrowed := true }
def BoundSaysUptoSaid : Prop := boundSaysUptoRow.holds Try.pinned (OpenSpec.upto boundSaysSpec)

/-- 'headlaw.PointMoves', WHERE WHAT IT READS IS OF BULK AT MOST 1048576: true; the input reads as it did. -/
def pointMovesUptoRow : OpenClaim := { program := "ytclbcbeakefhmaa", sum := "d0150eb8aea942662487a6ee5e1589d65f986803a555f1debb3732e5c687a9fb", func := "headway/headlaw.PointMoves", spec := "pointMoves", apart := false, narrowed := true }
def PointMovesUptoSaid : Prop := pointMovesUptoRow.holds Try.pinned (OpenSpec.upto pointMovesSpec)

/-- 'headlaw.PointLess', WHERE WHAT IT READS IS OF BULK AT MOST 1048576: true; the input reads as it did. -/
def pointLessUptoRow : OpenClaim := { program := "ytclbcbeakefhmaa", sum := "d0150eb8aea942662487a6ee5e1589d65f986803a555f1debb3732e5c687a9fb", func := "headway/headlaw.PointLess", spec := "pointLess", unfollowed := true, recurses := true, apart := false, narrowed := true }
def PointLessUptoSaid : Prop := pointLessUptoRow.holds Try.pinned (OpenSpec.upto pointLessSpec)

/-- 'headlaw.PointSays', WHERE WHAT IT READS IS OF BULK AT MOST 1048576: true; the input reads as it did. -/
def pointSaysUptoRow : OpenClaim := { program := "ytclbcbeakefhmaa", sum := "d0150eb8aea942662487a6ee5e1589d65f986803a555f1debb3732e5c687a9fb", func := "headway/headlaw.PointSays", spec := "pointSays", unfollowed := true, recurses := true, apart := false, narrowed := true }
def PointSaysUptoSaid : Prop := pointSaysUptoRow.holds Try.pinned (OpenSpec.upto pointSaysSpec)

/-- 'headlaw.DualSays', WHERE WHAT IT READS IS OF BULK AT MOST 1048576: true; the input reads as it did. -/
def dualSaysUptoRow : OpenClaim := { program := "ytclbcbeakefhmaa", sum := "d0150eb8aea942662487a6ee5e1589d65f986803a555f1debb3732e5c687a9fb", func := "headway/headlaw.DualSays", spec := "dualSays", apart := false, narrowed := true }
def DualSaysUptoSaid : Prop := dualSaysUptoRow.holds Try.pinned (OpenSpec.upto dualSaysSpec)

/-- 'headlaw.ConvSays', WHERE WHAT IT READS IS OF BULK AT MOST 1048576: true; the input reads as it did. -/
def convSaysUptoRow : OpenClaim := { program := "ytclbcbeakefhmaa", sum := "d0150eb8aea942662487a6ee5e1589d65f986803a555f1debb3732e5c687a9fb", func := "headway/headlaw.ConvSays", spec := "convSays", apart := false, narrowed := true }
def ConvSaysUptoSaid : Prop := convSaysUptoRow.holds Try.pinned (OpenSpec.upto convSaysSpec)

end Rows
end Go.Proofs.Ytclbcbeakefhmaa
