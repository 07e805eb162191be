/-
  Tariffs: copies and comparisons. No condition.
-/
import Derived.Test.YtngfhpklakhehaaGreatDoorTariff
namespace Go.Proofs.YtngfhpklakhehaaGreatDoor
open Go.RowKit
set_option maxHeartbeats 400000

end Go.Proofs.YtngfhpklakhehaaGreatDoor
