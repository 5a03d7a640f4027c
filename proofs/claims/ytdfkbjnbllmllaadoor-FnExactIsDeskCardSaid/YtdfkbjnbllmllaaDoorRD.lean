/- The bounds of the laws' parameters; no condition. -/
import Derived.Test.YtdfkbjnbllmllaaDoorR1
import Derived.Test.YtdfkbjnbllmllaaDoorGA
namespace Go.Proofs.YtdfkbjnbllmllaaDoor.Sh
open Go.RowKit
structure okSpan (x : Span) : Prop where
  From : okI x.From
  To : okI x.To
structure okClaim (x : Claim) : Prop where
  Source : (fun s : ByteArray => s.size ≤ maxLen) x.Source
  Kind : okI x.Kind
  Place : (fun s : ByteArray => s.size ≤ maxLen) x.Place
  Value : (fun s : ByteArray => s.size ≤ maxLen) x.Value
  Years : okSpan x.Years
  Weight : okI x.Weight
structure okPoint (x : Point) : Prop where
  X : okI x.X
  Y : okI x.Y
structure okSite (x : Site) : Prop where
  Code : (fun s : ByteArray => s.size ≤ maxLen) x.Code
  At : okPoint x.At
structure okDesk (x : Desk) : Prop where
  Claims : (fun L : (List Claim) => L.length ≤ maxLen ∧ ∀ x ∈ L, okClaim x) x.Claims
  Sites : (fun L : (List Site) => L.length ≤ maxLen ∧ ∀ x ∈ L, okSite x) x.Sites
end Go.Proofs.YtdfkbjnbllmllaaDoor.Sh
