/- Typed functions and the calls that do what they say. -/
import Derived.Test.YtepmfngpdimkhaaGreatDoorGAp1
import Derived.Test.YtepmfngpdimkhaaGreatDoorKA
import Derived.Test.YtepmfngpdimkhaaGreatDoorKC
import Derived.Test.YtepmfngpdimkhaaGreatDoorKS
import Derived.Test.YtepmfngpdimkhaaGreatDoorSN
import Derived.Test.YtepmfngpdimkhaaGreatDoorH1
namespace Go.Proofs.YtepmfngpdimkhaaGreatDoor.Sh
open Go.RowKit
set_option maxRecDepth 100000
set_option maxHeartbeats 4000000
end Go.Proofs.YtepmfngpdimkhaaGreatDoor.Sh
