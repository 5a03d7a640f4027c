/- Sizes of what is drawn or handed in. -/
import Derived.Test.YtodgenjlhiiieaaGreatDoorGB
import Derived.Test.YtodgenjlhiiieaaGreatDoorL0
namespace Go.Proofs.YtodgenjlhiiieaaGreatDoor.Sh
open Go.RowKit
structure smCandidate (x : Candidate) : Prop where
  s0 : x.Code.size ≤ 1048576
  s1 : x.Text.size ≤ 1048576
structure smSite (x : Site) : Prop where
  s0 : x.Code.size ≤ 1048576
end Go.Proofs.YtodgenjlhiiieaaGreatDoor.Sh
