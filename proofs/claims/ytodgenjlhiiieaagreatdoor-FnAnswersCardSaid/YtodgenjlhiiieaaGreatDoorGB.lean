/- Typed functions and the calls that do what they say. -/
import Derived.Test.YtodgenjlhiiieaaGreatDoorGBp2
import Derived.Test.YtodgenjlhiiieaaGreatDoorKA
import Derived.Test.YtodgenjlhiiieaaGreatDoorKC
import Derived.Test.YtodgenjlhiiieaaGreatDoorKF
import Derived.Test.YtodgenjlhiiieaaGreatDoorKS
import Derived.Test.YtodgenjlhiiieaaGreatDoorSN
import Derived.Test.YtodgenjlhiiieaaGreatDoorH1
namespace Go.Proofs.YtodgenjlhiiieaaGreatDoor.Sh
open Go.RowKit
set_option maxRecDepth 100000
set_option maxHeartbeats 4000000
end Go.Proofs.YtodgenjlhiiieaaGreatDoor.Sh
