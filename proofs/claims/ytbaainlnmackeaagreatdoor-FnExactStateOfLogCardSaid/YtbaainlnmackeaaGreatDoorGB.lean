/- Typed functions and the calls that do what they say. -/
import Derived.Test.YtbaainlnmackeaaGreatDoorSE
import Derived.Test.YtbaainlnmackeaaGreatDoorKA
import Derived.Test.YtbaainlnmackeaaGreatDoorKO
import Derived.Test.YtbaainlnmackeaaGreatDoorKS
import Derived.Test.YtbaainlnmackeaaGreatDoorH1
import Derived.Test.YtbaainlnmackeaaGreatDoorGA
namespace Go.Proofs.YtbaainlnmackeaaGreatDoor.Sh
open Go.RowKit
set_option maxRecDepth 100000
set_option maxHeartbeats 4000000
end Go.Proofs.YtbaainlnmackeaaGreatDoor.Sh
