/- The bounds of the laws' parameters; no condition. -/
import Derived.Test.YtbaainlnmackeaaGreatDoorR1
import Derived.Test.YtbaainlnmackeaaGreatDoorGA
namespace Go.Proofs.YtbaainlnmackeaaGreatDoor.Sh
open Go.RowKit
end Go.Proofs.YtbaainlnmackeaaGreatDoor.Sh
