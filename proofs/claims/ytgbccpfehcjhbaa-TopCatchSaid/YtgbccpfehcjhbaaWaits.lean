/- The contracts of headref.Waits, headref.Goes and line.Busy (P32, P33). Conditions: how long the lists are, and how large their numbers. -/
import Derived.Test.YtgbccpfehcjhbaaLine
namespace Go.Proofs.Ytgbccpfehcjhbaa
open Go Go.RowKit

theorem net_diff (a : Nat → Int) (r : Int) (k u : Nat) : net a r (k + 1) - net a r u = sumT a (k + 1) - sumT a u - r * ((k : Int) + 1 - (u : Int)) := by
  unfold net
  rw [Int.mul_sub, Int.natCast_succ]; omega

end Go.Proofs.Ytgbccpfehcjhbaa
