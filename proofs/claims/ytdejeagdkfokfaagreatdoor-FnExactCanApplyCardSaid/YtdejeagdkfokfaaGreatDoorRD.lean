/- The bounds of the laws' parameters; no condition. -/
import Derived.Test.YtdejeagdkfokfaaGreatDoorR1
import Derived.Test.YtdejeagdkfokfaaGreatDoorGA
namespace Go.Proofs.YtdejeagdkfokfaaGreatDoor.Sh
open Go.RowKit
structure rZ (x:Span):Prop where
 From:okI x.From
 To:okI x.To
structure rY (x:Name):Prop where
 Text:(fun s:ByteArray=>s.size≤maxLen) x.Text
 Language:(fun s:ByteArray=>s.size≤maxLen) x.Language
 Status:okI x.Status
 Years:rZ x.Years
structure pt (x:Place):Prop where
 Code:(fun s:ByteArray=>s.size≤maxLen) x.Code
 Class:okI x.Class
 Years:rZ x.Years
 Names:(fun L:(List Name)=>L.length≤maxLen∧ ∀x∈L,rY x) x.Names
structure rX (x:au):Prop where
 Child:(fun s:ByteArray=>s.size≤maxLen) x.Child
 Parent:(fun s:ByteArray=>s.size≤maxLen) x.Parent
 Years:rZ x.Years
structure r6 (x:World):Prop where
 Places:(fun L:(List Place)=>L.length≤maxLen∧ ∀x∈L,pt x) x.Places
 Links:(fun L:(List au)=>L.length≤maxLen∧ ∀x∈L,rX x) x.Links
structure p8 (x:Change):Prop where
 Year:okI x.Year
 Kind:okI x.Kind
 Code:(fun s:ByteArray=>s.size≤maxLen) x.Code
 Other:(fun s:ByteArray=>s.size≤maxLen) x.Other
 Language:(fun s:ByteArray=>s.size≤maxLen) x.Language
 Text:(fun s:ByteArray=>s.size≤maxLen) x.Text
end Go.Proofs.YtdejeagdkfokfaaGreatDoor.Sh
