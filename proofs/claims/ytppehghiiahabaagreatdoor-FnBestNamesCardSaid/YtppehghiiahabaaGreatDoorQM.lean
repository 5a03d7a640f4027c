/- Sizes, copies, comparisons and marks of the laws' types; bounds on lengths alone. -/
import Derived.Test.YtppehghiiahabaaGreatDoorQA
import Derived.Test.YtppehghiiahabaaGreatDoorRD
import Derived.Test.YtppehghiiahabaaGreatDoorGA
namespace Go.Proofs.YtppehghiiahabaaGreatDoor.Sh
open Go.RowKit Go.Lib
structure smClaim (x : Claim) : Prop where
  s0 : x.Source.size ≤ 1048576
  s2 : x.Place.size ≤ 1048576
  s3 : x.Value.size ≤ 1048576
end Go.Proofs.YtppehghiiahabaaGreatDoor.Sh
