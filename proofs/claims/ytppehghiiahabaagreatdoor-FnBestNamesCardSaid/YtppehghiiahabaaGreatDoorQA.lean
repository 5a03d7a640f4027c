/- Copies, comparisons, sizes and marks of lists of structs: the loops of the laws; bounds on lengths alone. -/
import Derived.Test.YtppehghiiahabaaGreatDoorL0
namespace Go.Proofs.YtppehghiiahabaaGreatDoor.Sh
open Go.RowKit Go.Lib
end Go.Proofs.YtppehghiiahabaaGreatDoor.Sh
