/-
  No cell of these rows narrows 'for every input' (looked for: loops, veiled, ifaces, maps, wideKeys, modest, calm, conditions, laid).
  DERIVED. THE GIVEN ROWS OF THIS SEAT. 8 by the template 'for every input the law returns true; each argument reads behind the call as it read before'; 0 by the template 'total and deterministic' (their statements: YtgnegemiiahkaaaTotals.lean).
  GIVEN WITH THE SEED: the statements are not yours to turn. If you find one false, say at which input.
  Laid BY PROGRAM, IN A SANDBOX (cutbox-rows.mjs): the forced cells as the released guide's own fill.sh prints them over the translation be59efd81cf2b297… (all of the seat's roots in one cut). By AI agents, Wed Nov 11 2026. No macro, syntax, notation, axiom, sorry.
-/
import Derived.Test.YtgnegemiiahkaaaChecked
import GoSem.Claim
import GoSem.ClaimJoined
import GoSem.ClaimMapViews
import Derived.JoinedTies
import Derived.KernelRfl
namespace Go.Proofs.Ytgnegemiiahkaaa
/- THE CELL 'sum', in the pinned program and in every row, IS THE sha256 OF THE DUMP (.gsa) THAT YtgnegemiiahkaaaProg.lean LOADS. Nothing in Lean hashes anything: it is a label: what it is worth is what the hold of that sum in a sandbox is worth. -/
noncomputable def Try.pinned : Pinned := { name := "ytgnegemiiahkaaa", sum := "be59efd81cf2b297ce946ca69352bddfc8564d5a1b1a51df292ba07e795a28c9", checked := Try.checked }
namespace Rows
def none {H : Type} : Left H := { results := [], args := [] }

/-- 'headlaw.LeaseTells': WHATEVER THE INPUT: true; the input reads as it did. -/
def leaseTellsSpec : ChangeSpec := { name := "leaseTells", fn := fun _ => fun
  | [d1, d2, d3] => { results := [.lit (.bool true)], args := [d1, d2, d3] }
  | _ => none }
def leaseTellsRow : OpenClaim := { program := "ytgnegemiiahkaaa", sum := "be59efd81cf2b297ce946ca69352bddfc8564d5a1b1a51df292ba07e795a28c9", func := "headway/headlaw.LeaseTells", spec := "leaseTells", unfollowed := true, recurses := true, apart := false }
def LeaseTellsSaid : Prop := leaseTellsRow.holds Try.pinned (OpenSpec.ofChange leaseTellsSpec)

/-- ITS FALSE NEIGHBOUR: 'it returns false'. Refute it at one input. -/
def leaseTellsWrong : ChangeSpec := { name := "leaseTells", fn := fun _ => fun
  | [d1, d2, d3] => { results := [.lit (.bool false)], args := [d1, d2, d3] }
  | _ => none }
def LeaseTellsWrongFalsely : Prop := leaseTellsRow.holds Try.pinned (OpenSpec.ofChange leaseTellsWrong)

/-- 'headlaw.FairSays': WHATEVER THE INPUT: true; the input reads as it did. -/
def fairSaysSpec : ChangeSpec := { name := "fairSays", fn := fun _ => fun
  | [d1, d2] => { results := [.lit (.bool true)], args := [d1, d2] }
  | _ => none }
def fairSaysRow : OpenClaim := { program := "ytgnegemiiahkaaa", sum := "be59efd81cf2b297ce946ca69352bddfc8564d5a1b1a51df292ba07e795a28c9", func := "headway/headlaw.FairSays", spec := "fairSays", unfollowed := true, recurses := true, apart := false }
def FairSaysSaid : Prop := fairSaysRow.holds Try.pinned (OpenSpec.ofChange fairSaysSpec)

/-- ITS FALSE NEIGHBOUR: 'it returns false'. Refute it at one input. -/
def fairSaysWrong : ChangeSpec := { name := "fairSays", fn := fun _ => fun
  | [d1, d2] => { results := [.lit (.bool false)], args := [d1, d2] }
  | _ => none }
def FairSaysWrongFalsely : Prop := fairSaysRow.holds Try.pinned (OpenSpec.ofChange fairSaysWrong)

/-- 'headlaw.WorldPlays': WHATEVER THE INPUT: true; the input reads as it did. -/
def worldPlaysSpec : ChangeSpec := { name := "worldPlays", fn := fun _ => fun
  | [d1, d2, d3, d4] => { results := [.lit (.bool true)], args := [d1, d2, d3, d4] }
  | _ => none }
def worldPlaysRow : OpenClaim := { program := "ytgnegemiiahkaaa", sum := "be59efd81cf2b297ce946ca69352bddfc8564d5a1b1a51df292ba07e795a28c9", func := "headway/headlaw.WorldPlays", spec := "worldPlays", apart := false }
def WorldPlaysSaid : Prop := worldPlaysRow.holds Try.pinned (OpenSpec.ofChange worldPlaysSpec)

/-- ITS FALSE NEIGHBOUR: 'it returns false'. Refute it at one input. -/
def worldPlaysWrong : ChangeSpec := { name := "worldPlays", fn := fun _ => fun
  | [d1, d2, d3, d4] => { results := [.lit (.bool false)], args := [d1, d2, d3, d4] }
  | _ => none }
def WorldPlaysWrongFalsely : Prop := worldPlaysRow.holds Try.pinned (OpenSpec.ofChange worldPlaysWrong)

/-- 'headlaw.RanksRuns': WHATEVER THE INPUT: true; the input reads as it did. -/
def ranksRunsSpec : ChangeSpec := { name := "ranksRuns", fn := fun _ => fun
  | [d1, d2] => { results := [.lit (.bool true)], args := [d1, d2] }
  | _ => none }
def ranksRunsRow : OpenClaim := { program := "ytgnegemiiahkaaa", sum := "be59efd81cf2b297ce946ca69352bddfc8564d5a1b1a51df292ba07e795a28c9", func := "headway/headlaw.RanksRuns", spec := "ranksRuns", unfollowed := true, recurses := true, apart := false }
def RanksRunsSaid : Prop := ranksRunsRow.holds Try.pinned (OpenSpec.ofChange ranksRunsSpec)

/-- ITS FALSE NEIGHBOUR: 'it returns false'. Refute it at one input. -/
def ranksRunsWrong : ChangeSpec := { name := "ranksRuns", fn := fun _ => fun
  | [d1, d2] => { results := [.lit (.bool false)], args := [d1, d2] }
  | _ => none }
def RanksRunsWrongFalsely : Prop := ranksRunsRow.holds Try.pinned (OpenSpec.ofChange ranksRunsWrong)

/-- 'headlaw.EdfSays': WHATEVER THE INPUT: true; the input reads as it did. -/
def edfSaysSpec : ChangeSpec := { name := "edfSays", fn := fun _ => fun
  | [d] => { results := [.lit (.bool true)], args := [d] }
  | _ => none }
def edfSaysRow : OpenClaim := { program := "ytgnegemiiahkaaa", sum := "be59efd81cf2b297ce946ca69352bddfc8564d5a1b1a51df292ba07e795a28c9", func := "headway/headlaw.EdfSays", spec := "edfSays", unfollowed := true, recurses := true, apart := false }
def EdfSaysSaid : Prop := edfSaysRow.holds Try.pinned (OpenSpec.ofChange edfSaysSpec)

/-- ITS FALSE NEIGHBOUR: 'it returns false'. Refute it at one input. -/
def edfSaysWrong : ChangeSpec := { name := "edfSays", fn := fun _ => fun
  | [d] => { results := [.lit (.bool false)], args := [d] }
  | _ => none }
def EdfSaysWrongFalsely : Prop := edfSaysRow.holds Try.pinned (OpenSpec.ofChange edfSaysWrong)

/-- 'headlaw.LeaseTakes': WHATEVER THE INPUT: true; the input reads as it did. -/
def leaseTakesSpec : ChangeSpec := { name := "leaseTakes", fn := fun _ => fun
  | [d1, d2] => { results := [.lit (.bool true)], args := [d1, d2] }
  | _ => none }
def leaseTakesRow : OpenClaim := { program := "ytgnegemiiahkaaa", sum := "be59efd81cf2b297ce946ca69352bddfc8564d5a1b1a51df292ba07e795a28c9", func := "headway/headlaw.LeaseTakes", spec := "leaseTakes", inPlace := ["slices.overlaps[headway/api.Lease]"], unfollowed := true, recurses := true, apart := false }
def LeaseTakesSaid : Prop := leaseTakesRow.holds Try.pinned (OpenSpec.ofChange leaseTakesSpec)

/-- ITS FALSE NEIGHBOUR: 'it returns false'. Refute it at one input. -/
def leaseTakesWrong : ChangeSpec := { name := "leaseTakes", fn := fun _ => fun
  | [d1, d2] => { results := [.lit (.bool false)], args := [d1, d2] }
  | _ => none }
def LeaseTakesWrongFalsely : Prop := leaseTakesRow.holds Try.pinned (OpenSpec.ofChange leaseTakesWrong)

/-- 'headtop.TopWorld': WHATEVER THE INPUT: true; the input reads as it did. -/
def topWorldSpec : ChangeSpec := { name := "topWorld", fn := fun _ => fun
  | [d1, d2, d3, d4] => { results := [.lit (.bool true)], args := [d1, d2, d3, d4] }
  | _ => none }
def topWorldRow : OpenClaim := { program := "ytgnegemiiahkaaa", sum := "be59efd81cf2b297ce946ca69352bddfc8564d5a1b1a51df292ba07e795a28c9", func := "headway/headtop.TopWorld", spec := "topWorld", unfollowed := true, recurses := true, apart := false }
def TopWorldSaid : Prop := topWorldRow.holds Try.pinned (OpenSpec.ofChange topWorldSpec)

/-- ITS FALSE NEIGHBOUR: 'it returns false'. Refute it at one input. -/
def topWorldWrong : ChangeSpec := { name := "topWorld", fn := fun _ => fun
  | [d1, d2, d3, d4] => { results := [.lit (.bool false)], args := [d1, d2, d3, d4] }
  | _ => none }
def TopWorldWrongFalsely : Prop := topWorldRow.holds Try.pinned (OpenSpec.ofChange topWorldWrong)

/-- 'headtop.TopTasks': WHATEVER THE INPUT: true; the input reads as it did. -/
def topTasksSpec : ChangeSpec := { name := "topTasks", fn := fun _ => fun
  | [d] => { results := [.lit (.bool true)], args := [d] }
  | _ => none }
def topTasksRow : OpenClaim := { program := "ytgnegemiiahkaaa", sum := "be59efd81cf2b297ce946ca69352bddfc8564d5a1b1a51df292ba07e795a28c9", func := "headway/headtop.TopTasks", spec := "topTasks", apart := false }
def TopTasksSaid : Prop := topTasksRow.holds Try.pinned (OpenSpec.ofChange topTasksSpec)

/-- ITS FALSE NEIGHBOUR: 'it returns false'. Refute it at one input. -/
def topTasksWrong : ChangeSpec := { name := "topTasks", fn := fun _ => fun
  | [d] => { results := [.lit (.bool false)], args := [d] }
  | _ => none }
def TopTasksWrongFalsely : Prop := topTasksRow.holds Try.pinned (OpenSpec.ofChange topTasksWrong)

/- THE SECOND FORM. 'bulk': how many values and letters a reading holds, each counted each time it is reached (what is shared counts as often as it is met; a slice's spare places count too). A statement '..UptoSaid' is the law's where the arguments, and the package variables that the reading takes, are together of bulk at most 1048576: NARROWER than '..Said'. Prove '..Said' where nothing that the law and all that it calls make is longer than what came in: it says more and counts as full. Else prove '..UptoSaid'. A law counts once. -/
mutual
def uptoBulk {H : Type} : DataW H → Nat
  | .lit (.string bytes) => bytes.length + 1
  | .lit _ => 1
  | .nil => 1
  | .ptr d => uptoBulk d + 1
  | .slice elems spare => uptoBulkAll elems + uptoBulkAll spare + 1
  | .agg parts => uptoBulkAll parts + 1
  | .iface _ d => uptoBulk d + 1
  | .map entries => uptoBulkEntries entries + 1
  | .held _ => 1
def uptoBulkAll {H : Type} : List (DataW H) → Nat
  | [] => 0
  | d :: r => uptoBulk d + uptoBulkAll r
def uptoBulkEntries {H : Type} : List (Lit × DataW H) → Nat
  | [] => 0
  | x :: r => uptoBulkEntry x + uptoBulkEntries r
def uptoBulkEntry {H : Type} : Lit × DataW H → Nat
  | (.string bytes, d) => bytes.length + uptoBulk d + 1
  | (_, d) => uptoBulk d + 1
 end
def uptoSmall : (H : Type) → List (DataW H) → Bool := fun _ ds => decide (uptoBulkAll ds ≤ 1048576)
def OpenSpec.upto (s : _root_.Go.ChangeSpec) : _root_.Go.OpenSpec := { _root_.Go.OpenSpec.ofChange s with cond := some uptoSmall }

/-- 'headlaw.LeaseTells', WHERE WHAT IT READS IS OF BULK AT MOST 1048576: true; the input reads as it did. -/
def leaseTellsUptoRow : OpenClaim := { program := "ytgnegemiiahkaaa", sum := "be59efd81cf2b297ce946ca69352bddfc8564d5a1b1a51df292ba07e795a28c9", func := "headway/headlaw.LeaseTells", spec := "leaseTells", unfollowed := true, recurses := true, apart := false, narrowed := true }
def LeaseTellsUptoSaid : Prop := leaseTellsUptoRow.holds Try.pinned (OpenSpec.upto leaseTellsSpec)

/-- 'headlaw.FairSays', WHERE WHAT IT READS IS OF BULK AT MOST 1048576: true; the input reads as it did. -/
def fairSaysUptoRow : OpenClaim := { program := "ytgnegemiiahkaaa", sum := "be59efd81cf2b297ce946ca69352bddfc8564d5a1b1a51df292ba07e795a28c9", func := "headway/headlaw.FairSays", spec := "fairSays", unfollowed := true, recurses := true, apart := false, narrowed := true }
def FairSaysUptoSaid : Prop := fairSaysUptoRow.holds Try.pinned (OpenSpec.upto fairSaysSpec)

/-- 'headlaw.WorldPlays', WHERE WHAT IT READS IS OF BULK AT MOST 1048576: true; the input reads as it did. -/
def worldPlaysUptoRow : OpenClaim := { program := "ytgnegemiiahkaaa", sum := "be59efd81cf2b297ce946ca69352bddfc8564d5a1b1a51df292ba07e795a28c9", func := "headway/headlaw.WorldPlays", spec := "worldPlays", apart := false, narrowed := true }
def WorldPlaysUptoSaid : Prop := worldPlaysUptoRow.holds Try.pinned (OpenSpec.upto worldPlaysSpec)

/-- 'headlaw.RanksRuns', WHERE WHAT IT READS IS OF BULK AT MOST 1048576: true; the input reads as it did. -/
def ranksRunsUptoRow : OpenClaim := { program := "ytgnegemiiahkaaa", sum := "be59efd81cf2b297ce946ca69352bddfc8564d5a1b1a51df292ba07e795a28c9", func := "headway/headlaw.RanksRuns", spec := "ranksRuns", unfollowed := true, recurses := true, apart := false, narrowed := true }
def RanksRunsUptoSaid : Prop := ranksRunsUptoRow.holds Try.pinned (OpenSpec.upto ranksRunsSpec)

/-- 'headlaw.EdfSays', WHERE WHAT IT READS IS OF BULK AT MOST 1048576: true; the input reads as it did. -/
def edfSaysUptoRow : OpenClaim := { program := "ytgnegemiiahkaaa", sum := "be59efd81cf2b297ce946ca69352bddfc8564d5a1b1a51df292ba07e795a28c9", func := "headway/headlaw.EdfSays", spec := "edfSays", unfollowed := true, recurses := true, apart := false, narrowed := true }
def EdfSaysUptoSaid : Prop := edfSaysUptoRow.holds Try.pinned (OpenSpec.upto edfSaysSpec)

/-- 'headlaw.LeaseTakes', WHERE WHAT IT READS IS OF BULK AT MOST 1048576: true; the input reads as it did. -/
def leaseTakesUptoRow : OpenClaim := { program := "ytgnegemiiahkaaa", sum := "be59efd81cf2b297ce946ca69352bddfc8564d5a1b1a51df292ba07e795a28c9", func := "headway/headlaw.LeaseTakes", spec := "leaseTakes", inPlace := ["slices.overlaps[headway/api.Lease]"], unfollowed := true, recurses := true, apart := false, narrowed := true }
def LeaseTakesUptoSaid : Prop := leaseTakesUptoRow.holds Try.pinned (OpenSpec.upto leaseTakesSpec)

/-- 'headtop.TopWorld', WHERE WHAT IT READS IS OF BULK AT MOST 1048576: true; the input reads as it did. -/
def topWorldUptoRow : OpenClaim := { program := "ytgnegemiiahkaaa", sum := "be59efd81cf2b297ce946ca69352bddfc8564d5a1b1a51df292ba07e795a28c9", func := "headway/headtop.TopWorld", spec := "topWorld", unfollowed := true, recurses := true, apart := false, narrowed := true }
def TopWorldUptoSaid : Prop := topWorldUptoRow.holds Try.pinned (OpenSpec.upto topWorldSpec)

/-- 'headtop.TopTasks', WHERE WHAT IT READS IS OF BULK AT MOST 1048576: true; the input reads as it did. -/
def topTasksUptoRow : OpenClaim := { program := "ytgnegemiiahkaaa", sum := "be59efd81cf2b297ce946ca69352bddfc8564d5a1b1a51df292ba07e795a28c9", func := "headway/headtop.TopTasks", spec := "topTasks", apart := false, narrowed := true }
def TopTasksUptoSaid : Prop := topTasksUptoRow.holds Try.pinned (OpenSpec.upto topTasksSpec)

end Rows
end Go.Proofs.Ytgnegemiiahkaaa
