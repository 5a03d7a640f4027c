/- Typed functions and the calls that do what they say. -/
import Derived.Test.YtpohkmbkohjahaaGreatDoorGAp0
import Derived.Test.YtpohkmbkohjahaaGreatDoorKA
import Derived.Test.YtpohkmbkohjahaaGreatDoorKC
import Derived.Test.YtpohkmbkohjahaaGreatDoorKJ
import Derived.Test.YtpohkmbkohjahaaGreatDoorKM
import Derived.Test.YtpohkmbkohjahaaGreatDoorKS
import Derived.Test.YtpohkmbkohjahaaGreatDoorH1
namespace Go.Proofs.YtpohkmbkohjahaaGreatDoor.Sh
open Go.RowKit
set_option maxRecDepth 100000
set_option maxHeartbeats 4000000
end Go.Proofs.YtpohkmbkohjahaaGreatDoor.Sh
