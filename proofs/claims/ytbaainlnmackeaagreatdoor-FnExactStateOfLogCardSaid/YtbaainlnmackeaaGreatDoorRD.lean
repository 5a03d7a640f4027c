/- The bounds of the laws' parameters; no condition. -/
import Derived.Test.YtbaainlnmackeaaGreatDoorR1
import Derived.Test.YtbaainlnmackeaaGreatDoorGA
namespace Go.Proofs.YtbaainlnmackeaaGreatDoor.Sh
open Go.RowKit
structure okOp (x : Op) : Prop where
  Office : okI x.Office
  Number : okI x.Number
  Key : (fun s : ByteArray => s.size ≤ maxLen) x.Key
  Text : (fun s : ByteArray => s.size ≤ maxLen) x.Text
  Seen : (fun L : (List Int) => L.length ≤ maxLen ∧ ∀ x ∈ L, okI x) x.Seen
end Go.Proofs.YtbaainlnmackeaaGreatDoor.Sh
