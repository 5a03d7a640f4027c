/- Copies, comparisons, sizes and marks of lists of structs: the loops of the laws; bounds on lengths alone. -/
import Derived.Test.YtdejeagdkfokfaaGreatDoorL0
namespace Go.Proofs.YtdejeagdkfokfaaGreatDoor.Sh
open Go.RowKit Go.Lib
end Go.Proofs.YtdejeagdkfokfaaGreatDoor.Sh
