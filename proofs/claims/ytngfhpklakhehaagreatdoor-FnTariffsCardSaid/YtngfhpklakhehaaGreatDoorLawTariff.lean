/-
  A tariff that comes in as an argument; the statement on ValidTariff, walked. No condition.
-/
import Derived.Test.YtngfhpklakhehaaGreatDoorTariff2
import Derived.Lib.SmallJoins
namespace Go.Proofs.YtngfhpklakhehaaGreatDoor
open Go.RowKit Go.ChangeShapes Go.WideShapes Go.ChangeAt Go.Deep Go.Joins
set_option maxHeartbeats 400000

end Go.Proofs.YtngfhpklakhehaaGreatDoor
