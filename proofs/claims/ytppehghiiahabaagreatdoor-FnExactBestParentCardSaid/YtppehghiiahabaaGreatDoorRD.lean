/- The bounds of the laws' parameters; no condition. -/
import Derived.Test.YtppehghiiahabaaGreatDoorR1
import Derived.Test.YtppehghiiahabaaGreatDoorGA
namespace Go.Proofs.YtppehghiiahabaaGreatDoor.Sh
open Go.RowKit
structure okSpan (x : Span) : Prop where
  From : okI x.From
  To : okI x.To
structure okClaim (x : Claim) : Prop where
  Source : (fun s : ByteArray => s.size ≤ maxLen) x.Source
  Kind : okI x.Kind
  Place : (fun s : ByteArray => s.size ≤ maxLen) x.Place
  Value : (fun s : ByteArray => s.size ≤ maxLen) x.Value
  Years : okSpan x.Years
  Weight : okI x.Weight
end Go.Proofs.YtppehghiiahabaaGreatDoor.Sh
