/- The contract of math/bits.Len at small numbers: it returns. Conditions: at most 12. -/
import Derived.Test.YtgnegemiiahkaaaLib
import Derived.Test.YtgnegemiiahkaaaRows
namespace Go.Proofs.Ytgnegemiiahkaaa
open Go Go.RowKit
set_option linter.unusedVariables false
set_option linter.unusedSimpArgs false

set_option maxRecDepth 100000 in
set_option maxHeartbeats 1600000 in
theorem bits_Len64 {w : World} {n : Nat} (hn : n ≤ 12) :
    Calls Try.prog 105 #[.int .u64 (n : Int)] w fun e w' => (∃ r : Int, e = .returned (.int .i64 r)) ∧ w = w' := by
  have h1 : ¬ (4294967296 ≤ (n : Int)) := by omega
  have h2 : ¬ (65536 ≤ (n : Int)) := by omega
  have h3 : ¬ (256 ≤ (n : Int)) := by omega
  go_enter Try.func105, Try.ntmps105
  go_wp2
  go_ret
  exact ⟨⟨_, rfl⟩, rfl⟩
theorem bits_Len {w : World} {n : Nat} (hn : n ≤ 12) :
    Calls Try.prog 84 #[.int .u64 (n : Int)] w fun e w' => (∃ r : Int, e = .returned (.int .i64 r)) ∧ w = w' := by
  have h := Lib.hid (bits_Len64 (w := w) hn)
  go_enter Try.func84, Try.ntmps84
  go_wp2_with fail
  refine h.out.mono ?_; rintro e w' ⟨⟨r, rfl⟩, rfl⟩
  go_wp2
  go_ret
  exact ⟨⟨_, rfl⟩, rfl⟩
end Go.Proofs.Ytgnegemiiahkaaa
