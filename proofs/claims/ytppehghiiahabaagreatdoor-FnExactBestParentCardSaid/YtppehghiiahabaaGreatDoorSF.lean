/- A slice made of given values, as a value from its making on. -/
import Derived.Test.YtppehghiiahabaaGreatDoorSB
namespace Go.Proofs.YtppehghiiahabaaGreatDoor.Sh
open Go.RowKit
end Go.Proofs.YtppehghiiahabaaGreatDoor.Sh
