/- Sizes of what is drawn or handed in. -/
import Derived.Test.YtfllgbokdhhedaaGreatDoorGB
import Derived.Test.YtfllgbokdhhedaaGreatDoorL0
namespace Go.Proofs.YtfllgbokdhhedaaGreatDoor.Sh
open Go.RowKit
structure smClaim (x : Claim) : Prop where
  s0 : x.Source.size ≤ 1048576
  s2 : x.Place.size ≤ 1048576
  s3 : x.Value.size ≤ 1048576
end Go.Proofs.YtfllgbokdhhedaaGreatDoor.Sh
