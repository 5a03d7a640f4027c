/- The bounds of the laws' parameters; no condition. -/
import Derived.Test.YtojhgfkohbfhhaaDoorR1
import Derived.Test.YtojhgfkohbfhhaaDoorGA
namespace Go.Proofs.YtojhgfkohbfhhaaDoor.Sh
open Go.RowKit
structure okTie (x : Tie) : Prop where
  A : okI x.A
  B : okI x.B
  Same : (fun _ : Bool => True) x.Same
  Reason : (fun s : ByteArray => s.size ≤ maxLen) x.Reason
structure okPoint (x : Point) : Prop where
  X : okI x.X
  Y : okI x.Y
structure okCandidate (x : Candidate) : Prop where
  Code : (fun s : ByteArray => s.size ≤ maxLen) x.Code
  Text : (fun s : ByteArray => s.size ≤ maxLen) x.Text
  At : okPoint x.At
end Go.Proofs.YtojhgfkohbfhhaaDoor.Sh
