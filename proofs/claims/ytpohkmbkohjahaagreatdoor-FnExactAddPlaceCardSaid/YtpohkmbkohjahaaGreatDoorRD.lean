/- The bounds of the laws' parameters; no condition. -/
import Derived.Test.YtpohkmbkohjahaaGreatDoorR1
import Derived.Test.YtpohkmbkohjahaaGreatDoorGA
namespace Go.Proofs.YtpohkmbkohjahaaGreatDoor.Sh
open Go.RowKit
structure okSpan (x : Span) : Prop where
  From : okI x.From
  To : okI x.To
structure okName (x : Name) : Prop where
  Text : (fun s : ByteArray => s.size ≤ maxLen) x.Text
  Language : (fun s : ByteArray => s.size ≤ maxLen) x.Language
  Status : okI x.Status
  Years : okSpan x.Years
structure okPlace (x : Place) : Prop where
  Code : (fun s : ByteArray => s.size ≤ maxLen) x.Code
  Class : okI x.Class
  Years : okSpan x.Years
  Names : (fun L : (List Name) => L.length ≤ maxLen ∧ ∀ x ∈ L, okName x) x.Names
end Go.Proofs.YtpohkmbkohjahaaGreatDoor.Sh
