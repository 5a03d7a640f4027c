/- The bounds of the laws' parameters; no condition. -/
import Derived.Test.YtpohkmbkohjahaaGreatDoorR1
import Derived.Test.YtpohkmbkohjahaaGreatDoorGA
namespace Go.Proofs.YtpohkmbkohjahaaGreatDoor.Sh
open Go.RowKit
end Go.Proofs.YtpohkmbkohjahaaGreatDoor.Sh
