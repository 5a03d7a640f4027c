/- The bounds of the laws' parameters; no condition. -/
import Derived.Test.YtdejeagdkfokfaaGreatDoorR1
import Derived.Test.YtdejeagdkfokfaaGreatDoorGA
namespace Go.Proofs.YtdejeagdkfokfaaGreatDoor.Sh
open Go.RowKit
end Go.Proofs.YtdejeagdkfokfaaGreatDoor.Sh
