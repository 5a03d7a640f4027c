/- The bounds of the laws' parameters; no condition. -/
import Derived.Test.YtdejeagdkfokfaaGreatDoorR1
import Derived.Test.YtdejeagdkfokfaaGreatDoorGA
namespace Go.Proofs.YtdejeagdkfokfaaGreatDoor.Sh
open Go.RowKit
structure ur (x:Span):Prop where
 From:okI x.From
 To:okI x.To
structure uq (x:Name):Prop where
 Text:(fun s:ByteArray=>s.size≤maxLen) x.Text
 Language:(fun s:ByteArray=>s.size≤maxLen) x.Language
 Status:okI x.Status
 Years:ur x.Years
structure qH (x:Place):Prop where
 Code:(fun s:ByteArray=>s.size≤maxLen) x.Code
 Class:okI x.Class
 Years:ur x.Years
 Names:(fun L:(List Name)=>L.length≤maxLen∧ ∀x∈L,uq x) x.Names
structure uo (x:ax):Prop where
 Child:(fun s:ByteArray=>s.size≤maxLen) x.Child
 Parent:(fun s:ByteArray=>s.size≤maxLen) x.Parent
 Years:ur x.Years
structure uu (x:World):Prop where
 Places:(fun L:(List Place)=>L.length≤maxLen∧ ∀x∈L,qH x) x.Places
 Links:(fun L:(List ax)=>L.length≤maxLen∧ ∀x∈L,uo x) x.Links
structure oC (x:Change):Prop where
 Year:okI x.Year
 Kind:okI x.Kind
 Code:(fun s:ByteArray=>s.size≤maxLen) x.Code
 Other:(fun s:ByteArray=>s.size≤maxLen) x.Other
 Language:(fun s:ByteArray=>s.size≤maxLen) x.Language
 Text:(fun s:ByteArray=>s.size≤maxLen) x.Text
end Go.Proofs.YtdejeagdkfokfaaGreatDoor.Sh
