/-
  No cell of these rows narrows 'for every input' (looked for: loops, veiled, ifaces, maps, wideKeys, modest, calm, conditions, laid).
  DERIVED. THE GIVEN ROWS OF THIS SEAT. 12 by the template 'for every input the law returns true; each argument reads behind the call as it read before'; 0 by the template 'total and deterministic' (their statements: YtggpcceljipelaaTotals.lean).
  GIVEN WITH THE SEED: the statements are not yours to turn. If you find one false, say at which input.
  Laid BY PROGRAM, IN A SANDBOX (cutbox-rows.mjs): the forced cells as the released guide's own fill.sh prints them over the translation 3c50701b372e4909… (all of the seat's roots in one cut). By AI agents, Wed Nov 11 2026. No macro, syntax, notation, axiom, sorry.
-/
import Derived.Test.YtggpcceljipelaaChecked
import GoSem.Claim
import GoSem.ClaimJoined
import GoSem.ClaimMapViews
import Derived.JoinedTies
import Derived.KernelRfl
namespace Go.Proofs.Ytggpcceljipelaa
/- THE CELL 'sum', in the pinned program and in every row, IS THE sha256 OF THE DUMP (.gsa) THAT YtggpcceljipelaaProg.lean LOADS. Nothing in Lean hashes anything: it is a label: what it is worth is what the hold of that sum in a sandbox is worth. -/
noncomputable def Try.pinned : Pinned := { name := "ytggpcceljipelaa", sum := "3c50701b372e4909fffbac630f7e2c19f1b446609ba326b7ce0b036f999939b9", checked := Try.checked }
namespace Rows
def none {H : Type} : Left H := { results := [], args := [] }

/-- 'headlaw.BucketMoves': WHATEVER THE INPUT: true; the input reads as it did. -/
def bucketMovesSpec : ChangeSpec := { name := "bucketMoves", fn := fun _ => fun
  | [d1, d2] => { results := [.lit (.bool true)], args := [d1, d2] }
  | _ => none }
def bucketMovesRow : OpenClaim := { program := "ytggpcceljipelaa", sum := "3c50701b372e4909fffbac630f7e2c19f1b446609ba326b7ce0b036f999939b9", func := "headway/headlaw.BucketMoves", spec := "bucketMoves", apart := false }
def BucketMovesSaid : Prop := bucketMovesRow.holds Try.pinned (OpenSpec.ofChange bucketMovesSpec)

/-- ITS FALSE NEIGHBOUR: 'it returns false'. Refute it at one input. -/
def bucketMovesWrong : ChangeSpec := { name := "bucketMoves", fn := fun _ => fun
  | [d1, d2] => { results := [.lit (.bool false)], args := [d1, d2] }
  | _ => none }
def BucketMovesWrongFalsely : Prop := bucketMovesRow.holds Try.pinned (OpenSpec.ofChange bucketMovesWrong)

/-- 'headlaw.WindowSays': WHATEVER THE INPUT: true; the input reads as it did. -/
def windowSaysSpec : ChangeSpec := { name := "windowSays", fn := fun _ => fun
  | [d1, d2, d3] => { results := [.lit (.bool true)], args := [d1, d2, d3] }
  | _ => none }
def windowSaysRow : OpenClaim := { program := "ytggpcceljipelaa", sum := "3c50701b372e4909fffbac630f7e2c19f1b446609ba326b7ce0b036f999939b9", func := "headway/headlaw.WindowSays", spec := "windowSays", apart := false }
def WindowSaysSaid : Prop := windowSaysRow.holds Try.pinned (OpenSpec.ofChange windowSaysSpec)

/-- ITS FALSE NEIGHBOUR: 'it returns false'. Refute it at one input. -/
def windowSaysWrong : ChangeSpec := { name := "windowSays", fn := fun _ => fun
  | [d1, d2, d3] => { results := [.lit (.bool false)], args := [d1, d2, d3] }
  | _ => none }
def WindowSaysWrongFalsely : Prop := windowSaysRow.holds Try.pinned (OpenSpec.ofChange windowSaysWrong)

/-- 'headlaw.EdfFits': WHATEVER THE INPUT: true; the input reads as it did. -/
def edfFitsSpec : ChangeSpec := { name := "edfFits", fn := fun _ => fun
  | [d] => { results := [.lit (.bool true)], args := [d] }
  | _ => none }
def edfFitsRow : OpenClaim := { program := "ytggpcceljipelaa", sum := "3c50701b372e4909fffbac630f7e2c19f1b446609ba326b7ce0b036f999939b9", func := "headway/headlaw.EdfFits", spec := "edfFits", unfollowed := true, recurses := true, apart := false }
def EdfFitsSaid : Prop := edfFitsRow.holds Try.pinned (OpenSpec.ofChange edfFitsSpec)

/-- ITS FALSE NEIGHBOUR: 'it returns false'. Refute it at one input. -/
def edfFitsWrong : ChangeSpec := { name := "edfFits", fn := fun _ => fun
  | [d] => { results := [.lit (.bool false)], args := [d] }
  | _ => none }
def EdfFitsWrongFalsely : Prop := edfFitsRow.holds Try.pinned (OpenSpec.ofChange edfFitsWrong)

/-- 'headlaw.PieceSays': WHATEVER THE INPUT: true; the input reads as it did. -/
def pieceSaysSpec : ChangeSpec := { name := "pieceSays", fn := fun _ => fun
  | [d1, d2, d3] => { results := [.lit (.bool true)], args := [d1, d2, d3] }
  | _ => none }
def pieceSaysRow : OpenClaim := { program := "ytggpcceljipelaa", sum := "3c50701b372e4909fffbac630f7e2c19f1b446609ba326b7ce0b036f999939b9", func := "headway/headlaw.PieceSays", spec := "pieceSays", apart := false }
def PieceSaysSaid : Prop := pieceSaysRow.holds Try.pinned (OpenSpec.ofChange pieceSaysSpec)

/-- ITS FALSE NEIGHBOUR: 'it returns false'. Refute it at one input. -/
def pieceSaysWrong : ChangeSpec := { name := "pieceSays", fn := fun _ => fun
  | [d1, d2, d3] => { results := [.lit (.bool false)], args := [d1, d2, d3] }
  | _ => none }
def PieceSaysWrongFalsely : Prop := pieceSaysRow.holds Try.pinned (OpenSpec.ofChange pieceSaysWrong)

/-- 'headlaw.RetrySays': WHATEVER THE INPUT: true; the input reads as it did. -/
def retrySaysSpec : ChangeSpec := { name := "retrySays", fn := fun _ => fun
  | [d1, d2, d3, d4] => { results := [.lit (.bool true)], args := [d1, d2, d3, d4] }
  | _ => none }
def retrySaysRow : OpenClaim := { program := "ytggpcceljipelaa", sum := "3c50701b372e4909fffbac630f7e2c19f1b446609ba326b7ce0b036f999939b9", func := "headway/headlaw.RetrySays", spec := "retrySays", unfollowed := true, recurses := true, apart := false }
def RetrySaysSaid : Prop := retrySaysRow.holds Try.pinned (OpenSpec.ofChange retrySaysSpec)

/-- ITS FALSE NEIGHBOUR: 'it returns false'. Refute it at one input. -/
def retrySaysWrong : ChangeSpec := { name := "retrySays", fn := fun _ => fun
  | [d1, d2, d3, d4] => { results := [.lit (.bool false)], args := [d1, d2, d3, d4] }
  | _ => none }
def RetrySaysWrongFalsely : Prop := retrySaysRow.holds Try.pinned (OpenSpec.ofChange retrySaysWrong)

/-- 'headlaw.FifoSays': WHATEVER THE INPUT: true; the input reads as it did. -/
def fifoSaysSpec : ChangeSpec := { name := "fifoSays", fn := fun _ => fun
  | [d1, d2] => { results := [.lit (.bool true)], args := [d1, d2] }
  | _ => none }
def fifoSaysRow : OpenClaim := { program := "ytggpcceljipelaa", sum := "3c50701b372e4909fffbac630f7e2c19f1b446609ba326b7ce0b036f999939b9", func := "headway/headlaw.FifoSays", spec := "fifoSays", apart := false }
def FifoSaysSaid : Prop := fifoSaysRow.holds Try.pinned (OpenSpec.ofChange fifoSaysSpec)

/-- ITS FALSE NEIGHBOUR: 'it returns false'. Refute it at one input. -/
def fifoSaysWrong : ChangeSpec := { name := "fifoSays", fn := fun _ => fun
  | [d1, d2] => { results := [.lit (.bool false)], args := [d1, d2] }
  | _ => none }
def FifoSaysWrongFalsely : Prop := fifoSaysRow.holds Try.pinned (OpenSpec.ofChange fifoSaysWrong)

/-- 'headlaw.RanksSay': WHATEVER THE INPUT: true; the input reads as it did. -/
def ranksSaySpec : ChangeSpec := { name := "ranksSay", fn := fun _ => fun
  | [d1, d2] => { results := [.lit (.bool true)], args := [d1, d2] }
  | _ => none }
def ranksSayRow : OpenClaim := { program := "ytggpcceljipelaa", sum := "3c50701b372e4909fffbac630f7e2c19f1b446609ba326b7ce0b036f999939b9", func := "headway/headlaw.RanksSay", spec := "ranksSay", apart := false }
def RanksSaySaid : Prop := ranksSayRow.holds Try.pinned (OpenSpec.ofChange ranksSaySpec)

/-- ITS FALSE NEIGHBOUR: 'it returns false'. Refute it at one input. -/
def ranksSayWrong : ChangeSpec := { name := "ranksSay", fn := fun _ => fun
  | [d1, d2] => { results := [.lit (.bool false)], args := [d1, d2] }
  | _ => none }
def RanksSayWrongFalsely : Prop := ranksSayRow.holds Try.pinned (OpenSpec.ofChange ranksSayWrong)

/-- 'headlaw.ResumeSays': WHATEVER THE INPUT: true; the input reads as it did. -/
def resumeSaysSpec : ChangeSpec := { name := "resumeSays", fn := fun _ => fun
  | [d1, d2, d3, d4, d5] => { results := [.lit (.bool true)], args := [d1, d2, d3, d4, d5] }
  | _ => none }
def resumeSaysRow : OpenClaim := { program := "ytggpcceljipelaa", sum := "3c50701b372e4909fffbac630f7e2c19f1b446609ba326b7ce0b036f999939b9", func := "headway/headlaw.ResumeSays", spec := "resumeSays", apart := false }
def ResumeSaysSaid : Prop := resumeSaysRow.holds Try.pinned (OpenSpec.ofChange resumeSaysSpec)

/-- ITS FALSE NEIGHBOUR: 'it returns false'. Refute it at one input. -/
def resumeSaysWrong : ChangeSpec := { name := "resumeSays", fn := fun _ => fun
  | [d1, d2, d3, d4, d5] => { results := [.lit (.bool false)], args := [d1, d2, d3, d4, d5] }
  | _ => none }
def ResumeSaysWrongFalsely : Prop := resumeSaysRow.holds Try.pinned (OpenSpec.ofChange resumeSaysWrong)

/-- 'headlaw.ShareSays': WHATEVER THE INPUT: true; the input reads as it did. -/
def shareSaysSpec : ChangeSpec := { name := "shareSays", fn := fun _ => fun
  | [d1, d2] => { results := [.lit (.bool true)], args := [d1, d2] }
  | _ => none }
def shareSaysRow : OpenClaim := { program := "ytggpcceljipelaa", sum := "3c50701b372e4909fffbac630f7e2c19f1b446609ba326b7ce0b036f999939b9", func := "headway/headlaw.ShareSays", spec := "shareSays", unfollowed := true, recurses := true, apart := false }
def ShareSaysSaid : Prop := shareSaysRow.holds Try.pinned (OpenSpec.ofChange shareSaysSpec)

/-- ITS FALSE NEIGHBOUR: 'it returns false'. Refute it at one input. -/
def shareSaysWrong : ChangeSpec := { name := "shareSays", fn := fun _ => fun
  | [d1, d2] => { results := [.lit (.bool false)], args := [d1, d2] }
  | _ => none }
def ShareSaysWrongFalsely : Prop := shareSaysRow.holds Try.pinned (OpenSpec.ofChange shareSaysWrong)

/-- 'headlaw.BucketRuns': WHATEVER THE INPUT: true; the input reads as it did. -/
def bucketRunsSpec : ChangeSpec := { name := "bucketRuns", fn := fun _ => fun
  | [d1, d2] => { results := [.lit (.bool true)], args := [d1, d2] }
  | _ => none }
def bucketRunsRow : OpenClaim := { program := "ytggpcceljipelaa", sum := "3c50701b372e4909fffbac630f7e2c19f1b446609ba326b7ce0b036f999939b9", func := "headway/headlaw.BucketRuns", spec := "bucketRuns", apart := false }
def BucketRunsSaid : Prop := bucketRunsRow.holds Try.pinned (OpenSpec.ofChange bucketRunsSpec)

/-- ITS FALSE NEIGHBOUR: 'it returns false'. Refute it at one input. -/
def bucketRunsWrong : ChangeSpec := { name := "bucketRuns", fn := fun _ => fun
  | [d1, d2] => { results := [.lit (.bool false)], args := [d1, d2] }
  | _ => none }
def BucketRunsWrongFalsely : Prop := bucketRunsRow.holds Try.pinned (OpenSpec.ofChange bucketRunsWrong)

/-- 'headlaw.PieceMoves': WHATEVER THE INPUT: true; the input reads as it did. -/
def pieceMovesSpec : ChangeSpec := { name := "pieceMoves", fn := fun _ => fun
  | [d1, d2] => { results := [.lit (.bool true)], args := [d1, d2] }
  | _ => none }
def pieceMovesRow : OpenClaim := { program := "ytggpcceljipelaa", sum := "3c50701b372e4909fffbac630f7e2c19f1b446609ba326b7ce0b036f999939b9", func := "headway/headlaw.PieceMoves", spec := "pieceMoves", apart := false }
def PieceMovesSaid : Prop := pieceMovesRow.holds Try.pinned (OpenSpec.ofChange pieceMovesSpec)

/-- ITS FALSE NEIGHBOUR: 'it returns false'. Refute it at one input. -/
def pieceMovesWrong : ChangeSpec := { name := "pieceMoves", fn := fun _ => fun
  | [d1, d2] => { results := [.lit (.bool false)], args := [d1, d2] }
  | _ => none }
def PieceMovesWrongFalsely : Prop := pieceMovesRow.holds Try.pinned (OpenSpec.ofChange pieceMovesWrong)

/-- 'headlaw.TurnsSay': WHATEVER THE INPUT: true; the input reads as it did. -/
def turnsSaySpec : ChangeSpec := { name := "turnsSay", fn := fun _ => fun
  | [d1, d2] => { results := [.lit (.bool true)], args := [d1, d2] }
  | _ => none }
def turnsSayRow : OpenClaim := { program := "ytggpcceljipelaa", sum := "3c50701b372e4909fffbac630f7e2c19f1b446609ba326b7ce0b036f999939b9", func := "headway/headlaw.TurnsSay", spec := "turnsSay", unfollowed := true, recurses := true, apart := false }
def TurnsSaySaid : Prop := turnsSayRow.holds Try.pinned (OpenSpec.ofChange turnsSaySpec)

/-- ITS FALSE NEIGHBOUR: 'it returns false'. Refute it at one input. -/
def turnsSayWrong : ChangeSpec := { name := "turnsSay", fn := fun _ => fun
  | [d1, d2] => { results := [.lit (.bool false)], args := [d1, d2] }
  | _ => none }
def TurnsSayWrongFalsely : Prop := turnsSayRow.holds Try.pinned (OpenSpec.ofChange turnsSayWrong)

/- THE SECOND FORM. 'bulk': how many values and letters a reading holds, each counted each time it is reached (what is shared counts as often as it is met; a slice's spare places count too). A statement '..UptoSaid' is the law's where the arguments, and the package variables that the reading takes, are together of bulk at most 1048576: NARROWER than '..Said'. Prove '..Said' where nothing that the law and all that it calls make is longer than what came in: it says more and counts as full. Else prove '..UptoSaid'. A law counts once. -/
mutual
def uptoBulk {H : Type} : DataW H → Nat
  | .lit (.string bytes) => bytes.length + 1
  | .lit _ => 1
  | .nil => 1
  | .ptr d => uptoBulk d + 1
  | .slice elems spare => uptoBulkAll elems + uptoBulkAll spare + 1
  | .agg parts => uptoBulkAll parts + 1
  | .iface _ d => uptoBulk d + 1
  | .map entries => uptoBulkEntries entries + 1
  | .held _ => 1
def uptoBulkAll {H : Type} : List (DataW H) → Nat
  | [] => 0
  | d :: r => uptoBulk d + uptoBulkAll r
def uptoBulkEntries {H : Type} : List (Lit × DataW H) → Nat
  | [] => 0
  | x :: r => uptoBulkEntry x + uptoBulkEntries r
def uptoBulkEntry {H : Type} : Lit × DataW H → Nat
  | (.string bytes, d) => bytes.length + uptoBulk d + 1
  | (_, d) => uptoBulk d + 1
 end
def uptoSmall : (H : Type) → List (DataW H) → Bool := fun _ ds => decide (uptoBulkAll ds ≤ 1048576)
def OpenSpec.upto (s : _root_.Go.ChangeSpec) : _root_.Go.OpenSpec := { _root_.Go.OpenSpec.ofChange s with cond := some uptoSmall }

/-- 'headlaw.BucketMoves', WHERE WHAT IT READS IS OF BULK AT MOST 1048576: true; the input reads as it did. -/
def bucketMovesUptoRow : OpenClaim := { program := "ytggpcceljipelaa", sum := "3c50701b372e4909fffbac630f7e2c19f1b446609ba326b7ce0b036f999939b9", func := "headway/headlaw.BucketMoves", spec := "bucketMoves", apart := false, narrowed := true }
def BucketMovesUptoSaid : Prop := bucketMovesUptoRow.holds Try.pinned (OpenSpec.upto bucketMovesSpec)

/-- 'headlaw.WindowSays', WHERE WHAT IT READS IS OF BULK AT MOST 1048576: true; the input reads as it did. -/
def windowSaysUptoRow : OpenClaim := { program := "ytggpcceljipelaa", sum := "3c50701b372e4909fffbac630f7e2c19f1b446609ba326b7ce0b036f999939b9", func := "headway/headlaw.WindowSays", spec := "windowSays", apart := false, narrowed := true }
def WindowSaysUptoSaid : Prop := windowSaysUptoRow.holds Try.pinned (OpenSpec.upto windowSaysSpec)

/-- 'headlaw.EdfFits', WHERE WHAT IT READS IS OF BULK AT MOST 1048576: true; the input reads as it did. -/
def edfFitsUptoRow : OpenClaim := { program := "ytggpcceljipelaa", sum := "3c50701b372e4909fffbac630f7e2c19f1b446609ba326b7ce0b036f999939b9", func := "headway/headlaw.EdfFits", spec := "edfFits", unfollowed := true, recurses := true, apart := false, narrowed := true }
def EdfFitsUptoSaid : Prop := edfFitsUptoRow.holds Try.pinned (OpenSpec.upto edfFitsSpec)

/-- 'headlaw.PieceSays', WHERE WHAT IT READS IS OF BULK AT MOST 1048576: true; the input reads as it did. -/
def pieceSaysUptoRow : OpenClaim := { program := "ytggpcceljipelaa", sum := "3c50701b372e4909fffbac630f7e2c19f1b446609ba326b7ce0b036f999939b9", func := "headway/headlaw.PieceSays", spec := "pieceSays", apart := false, narrowed := true }
def PieceSaysUptoSaid : Prop := pieceSaysUptoRow.holds Try.pinned (OpenSpec.upto pieceSaysSpec)

/-- 'headlaw.RetrySays', WHERE WHAT IT READS IS OF BULK AT MOST 1048576: true; the input reads as it did. -/
def retrySaysUptoRow : OpenClaim := { program := "ytggpcceljipelaa", sum := "3c50701b372e4909fffbac630f7e2c19f1b446609ba326b7ce0b036f999939b9", func := "headway/headlaw.RetrySays", spec := "retrySays", unfollowed := true, recurses := true, apart := false, narrowed := true }
def RetrySaysUptoSaid : Prop := retrySaysUptoRow.holds Try.pinned (OpenSpec.upto retrySaysSpec)

/-- 'headlaw.FifoSays', WHERE WHAT IT READS IS OF BULK AT MOST 1048576: true; the input reads as it did. -/
def fifoSaysUptoRow : OpenClaim := { program := "ytggpcceljipelaa", sum := "3c50701b372e4909fffbac630f7e2c19f1b446609ba326b7ce0b036f999939b9", func := "headway/headlaw.FifoSays", spec := "fifoSays", apart := false, narrowed := true }
def FifoSaysUptoSaid : Prop := fifoSaysUptoRow.holds Try.pinned (OpenSpec.upto fifoSaysSpec)

/-- 'headlaw.RanksSay', WHERE WHAT IT READS IS OF BULK AT MOST 1048576: true; the input reads as it did. -/
def ranksSayUptoRow : OpenClaim := { program := "ytggpcceljipelaa", sum := "3c50701b372e4909fffbac630f7e2c19f1b446609ba326b7ce0b036f999939b9", func := "headway/headlaw.RanksSay", spec := "ranksSay", apart := false, narrowed := true }
def RanksSayUptoSaid : Prop := ranksSayUptoRow.holds Try.pinned (OpenSpec.upto ranksSaySpec)

/-- 'headlaw.ResumeSays', WHERE WHAT IT READS IS OF BULK AT MOST 1048576: true; the input reads as it did. -/
def resumeSaysUptoRow : OpenClaim := { program := "ytggpcceljipelaa", sum := "3c50701b372e4909fffbac630f7e2c19f1b446609ba326b7ce0b036f999939b9", func := "headway/headlaw.ResumeSays", spec := "resumeSays", apart := false, narrowed := true }
def ResumeSaysUptoSaid : Prop := resumeSaysUptoRow.holds Try.pinned (OpenSpec.upto resumeSaysSpec)

/-- 'headlaw.ShareSays', WHERE WHAT IT READS IS OF BULK AT MOST 1048576: true; the input reads as it did. -/
def shareSaysUptoRow : OpenClaim := { program := "ytggpcceljipelaa", sum := "3c50701b372e4909fffbac630f7e2c19f1b446609ba326b7ce0b036f999939b9", func := "headway/headlaw.ShareSays", spec := "shareSays", unfollowed := true, recurses := true, apart := false, narrowed := true }
def ShareSaysUptoSaid : Prop := shareSaysUptoRow.holds Try.pinned (OpenSpec.upto shareSaysSpec)

/-- 'headlaw.BucketRuns', WHERE WHAT IT READS IS OF BULK AT MOST 1048576: true; the input reads as it did. -/
def bucketRunsUptoRow : OpenClaim := { program := "ytggpcceljipelaa", sum := "3c50701b372e4909fffbac630f7e2c19f1b446609ba326b7ce0b036f999939b9", func := "headway/headlaw.BucketRuns", spec := "bucketRuns", apart := false, narrowed := true }
def BucketRunsUptoSaid : Prop := bucketRunsUptoRow.holds Try.pinned (OpenSpec.upto bucketRunsSpec)

/-- 'headlaw.PieceMoves', WHERE WHAT IT READS IS OF BULK AT MOST 1048576: true; the input reads as it did. -/
def pieceMovesUptoRow : OpenClaim := { program := "ytggpcceljipelaa", sum := "3c50701b372e4909fffbac630f7e2c19f1b446609ba326b7ce0b036f999939b9", func := "headway/headlaw.PieceMoves", spec := "pieceMoves", apart := false, narrowed := true }
def PieceMovesUptoSaid : Prop := pieceMovesUptoRow.holds Try.pinned (OpenSpec.upto pieceMovesSpec)

/-- 'headlaw.TurnsSay', WHERE WHAT IT READS IS OF BULK AT MOST 1048576: true; the input reads as it did. -/
def turnsSayUptoRow : OpenClaim := { program := "ytggpcceljipelaa", sum := "3c50701b372e4909fffbac630f7e2c19f1b446609ba326b7ce0b036f999939b9", func := "headway/headlaw.TurnsSay", spec := "turnsSay", unfollowed := true, recurses := true, apart := false, narrowed := true }
def TurnsSayUptoSaid : Prop := turnsSayUptoRow.holds Try.pinned (OpenSpec.upto turnsSaySpec)

end Rows
end Go.Proofs.Ytggpcceljipelaa
