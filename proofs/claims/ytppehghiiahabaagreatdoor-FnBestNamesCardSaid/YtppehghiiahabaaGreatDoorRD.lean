/- The bounds of the laws' parameters; no condition. -/
import Derived.Test.YtppehghiiahabaaGreatDoorR1
import Derived.Test.YtppehghiiahabaaGreatDoorGA
namespace Go.Proofs.YtppehghiiahabaaGreatDoor.Sh
open Go.RowKit
end Go.Proofs.YtppehghiiahabaaGreatDoor.Sh
