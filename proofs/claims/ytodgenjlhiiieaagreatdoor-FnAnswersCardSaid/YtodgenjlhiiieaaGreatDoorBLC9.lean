/- Plain laws: texts of descriptions, EvidenceFor, of both; bounds on lengths alone. -/
import Derived.Test.YtodgenjlhiiieaaGreatDoorBLC8
namespace Go.Proofs.YtodgenjlhiiieaaGreatDoor.Sh
open Go.RowKit Go.Lib
end Go.Proofs.YtodgenjlhiiieaaGreatDoor.Sh
