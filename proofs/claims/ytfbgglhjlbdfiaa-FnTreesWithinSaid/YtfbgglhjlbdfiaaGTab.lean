/-
  Copies, comparisons and marks of lists and tables of numbers. No condition.
-/
import Derived.Test.YtfbgglhjlbdfiaaGPlain
import Derived.Test.YtfbgglhjlbdfiaaOpen
import Derived.Deep.RegionHeld3
namespace Go.Proofs.Ytfbgglhjlbdfiaa
open Go.RowKit
set_option maxHeartbeats 400000

def szv (left : Int) (n : Nat) : Int := if left < n then -1 else left - n
end Go.Proofs.Ytfbgglhjlbdfiaa
