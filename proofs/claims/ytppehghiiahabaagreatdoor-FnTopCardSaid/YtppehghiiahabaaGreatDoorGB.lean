/- Typed functions and the calls that do what they say. -/
import Derived.Test.YtppehghiiahabaaGreatDoorGBp0
import Derived.Test.YtppehghiiahabaaGreatDoorFB
import Derived.Test.YtppehghiiahabaaGreatDoorKA
import Derived.Test.YtppehghiiahabaaGreatDoorKO
import Derived.Test.YtppehghiiahabaaGreatDoorKQ
import Derived.Test.YtppehghiiahabaaGreatDoorKS
import Derived.Test.YtppehghiiahabaaGreatDoorSF
import Derived.Test.YtppehghiiahabaaGreatDoorH1
import Derived.Test.YtppehghiiahabaaGreatDoorGA
namespace Go.Proofs.YtppehghiiahabaaGreatDoor.Sh
open Go.RowKit
set_option maxRecDepth 100000
set_option maxHeartbeats 4000000
end Go.Proofs.YtppehghiiahabaaGreatDoor.Sh
