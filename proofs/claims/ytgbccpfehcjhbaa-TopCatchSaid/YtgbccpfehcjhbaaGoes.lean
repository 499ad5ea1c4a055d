/- The contracts of headref.Goes and line.Busy (P32, P33). Conditions: how long the lists are, and how large their numbers. -/
import Derived.Test.YtgbccpfehcjhbaaWaits
namespace Go.Proofs.Ytgbccpfehcjhbaa
open Go Go.RowKit

/-- the longest time with something left -/
def busyV (xs : List Int) (r : Int) : Nat := bm (fun k => lq (gi xs) r 0 (k + 1)) xs.length

end Go.Proofs.Ytgbccpfehcjhbaa
