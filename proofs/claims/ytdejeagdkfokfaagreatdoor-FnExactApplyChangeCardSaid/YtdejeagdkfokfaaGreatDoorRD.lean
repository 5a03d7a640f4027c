/- The bounds of the laws' parameters; no condition. -/
import Derived.Test.YtdejeagdkfokfaaGreatDoorR1
import Derived.Test.YtdejeagdkfokfaaGreatDoorGA
namespace Go.Proofs.YtdejeagdkfokfaaGreatDoor.Sh
open Go.RowKit
structure tF (x:Span):Prop where
 From:okI x.From
 To:okI x.To
structure tE (x:Name):Prop where
 Text:(fun s:ByteArray=>s.size≤maxLen) x.Text
 Language:(fun s:ByteArray=>s.size≤maxLen) x.Language
 Status:okI x.Status
 Years:tF x.Years
structure qc (x:Place):Prop where
 Code:(fun s:ByteArray=>s.size≤maxLen) x.Code
 Class:okI x.Class
 Years:tF x.Years
 Names:(fun L:(List Name)=>L.length≤maxLen∧ ∀x∈L,tE x) x.Names
structure tD (x:aw):Prop where
 Child:(fun s:ByteArray=>s.size≤maxLen) x.Child
 Parent:(fun s:ByteArray=>s.size≤maxLen) x.Parent
 Years:tF x.Years
structure tG (x:World):Prop where
 Places:(fun L:(List Place)=>L.length≤maxLen∧ ∀x∈L,qc x) x.Places
 Links:(fun L:(List aw)=>L.length≤maxLen∧ ∀x∈L,tD x) x.Links
structure qT (x:Change):Prop where
 Year:okI x.Year
 Kind:okI x.Kind
 Code:(fun s:ByteArray=>s.size≤maxLen) x.Code
 Other:(fun s:ByteArray=>s.size≤maxLen) x.Other
 Language:(fun s:ByteArray=>s.size≤maxLen) x.Language
 Text:(fun s:ByteArray=>s.size≤maxLen) x.Text
end Go.Proofs.YtdejeagdkfokfaaGreatDoor.Sh
