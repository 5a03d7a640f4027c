/- The bounds of the laws' parameters; no condition. -/
import Derived.Test.YtodgenjlhiiieaaGreatDoorR1
import Derived.Test.YtodgenjlhiiieaaGreatDoorGA
namespace Go.Proofs.YtodgenjlhiiieaaGreatDoor.Sh
open Go.RowKit
structure okPoint (x : Point) : Prop where
  X : okI x.X
  Y : okI x.Y
structure okCandidate (x : Candidate) : Prop where
  Code : (fun s : ByteArray => s.size ≤ maxLen) x.Code
  Text : (fun s : ByteArray => s.size ≤ maxLen) x.Text
  At : okPoint x.At
structure okSite (x : Site) : Prop where
  Code : (fun s : ByteArray => s.size ≤ maxLen) x.Code
  At : okPoint x.At
structure okDescription (x : Description) : Prop where
  Kind : okI x.Kind
  Count : okI x.Count
  Unit : (fun s : ByteArray => s.size ≤ maxLen) x.Unit
  Direction : okI x.Direction
  A : (fun s : ByteArray => s.size ≤ maxLen) x.A
  B : (fun s : ByteArray => s.size ≤ maxLen) x.B
end Go.Proofs.YtodgenjlhiiieaaGreatDoor.Sh
