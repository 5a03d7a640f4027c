/- The bounds that the types of ties give; no condition. -/
import Derived.Test.YtojhgfkohbfhhaaDoorR1
import Derived.Test.YtojhgfkohbfhhaaDoorGA
namespace Go.Proofs.YtojhgfkohbfhhaaDoor.Sh
open Go.RowKit
structure okTie (x : Tie) : Prop where
  A : okI x.A
  B : okI x.B
  Same : (fun _ : Bool => True) x.Same
  Reason : (fun s : ByteArray => s.size ≤ maxLen) x.Reason
end Go.Proofs.YtojhgfkohbfhhaaDoor.Sh
