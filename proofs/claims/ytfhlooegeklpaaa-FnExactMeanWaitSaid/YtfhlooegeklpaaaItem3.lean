/-
  Items are marked, one number a field. No condition.
-/
import Derived.Test.YtfhlooegeklpaaaItem2
import Derived.Test.YtfhlooegeklpaaaInt
namespace Go.Proofs.Ytfhlooegeklpaaa
open Go.RowKit
set_option maxHeartbeats 400000

end Go.Proofs.Ytfhlooegeklpaaa
