/- A slice made of given values, as a value from its making on. -/
import Derived.Test.YtdejeagdkfokfaaGreatDoorSB
namespace Go.Proofs.YtdejeagdkfokfaaGreatDoor.Sh
open Go.RowKit
end Go.Proofs.YtdejeagdkfokfaaGreatDoor.Sh
