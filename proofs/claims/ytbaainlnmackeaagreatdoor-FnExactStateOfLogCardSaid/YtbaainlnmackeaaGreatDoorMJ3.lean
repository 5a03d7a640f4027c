/- Plain laws of logs: VectorOf, MissingFor, MakeOp, MergeLogs of both; bounds on lengths alone. -/
import Derived.Test.YtbaainlnmackeaaGreatDoorMJ2
import Derived.Test.YtbaainlnmackeaaGreatDoorGA
import Derived.Test.YtbaainlnmackeaaGreatDoorGB
namespace Go.Proofs.YtbaainlnmackeaaGreatDoor.Sh
open Go.RowKit Go.Lib
end Go.Proofs.YtbaainlnmackeaaGreatDoor.Sh
