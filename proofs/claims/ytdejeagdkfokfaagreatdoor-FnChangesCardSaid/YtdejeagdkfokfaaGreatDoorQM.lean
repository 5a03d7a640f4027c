/- Sizes, copies, comparisons and marks of the laws' types; bounds on lengths alone. -/
import Derived.Test.YtdejeagdkfokfaaGreatDoorQA
import Derived.Test.YtdejeagdkfokfaaGreatDoorRD
import Derived.Test.YtdejeagdkfokfaaGreatDoorGE
namespace Go.Proofs.YtdejeagdkfokfaaGreatDoor.Sh
open Go.RowKit Go.Lib
structure EJ (x:Name):Prop where
 s0:x.Text.size≤1048576
 s1:x.Language.size≤1048576
structure uZ (x:Place):Prop where
 s0:x.Code.size≤1048576
 s4:x.Names.length≤1048576
 i4: ∀y∈x.Names,EJ y
structure EI (x:ay):Prop where
 s0:x.Child.size≤1048576
 s1:x.Parent.size≤1048576
structure rJ (x:World):Prop where
 s0:x.Places.length≤1048576
 s1:x.Links.length≤1048576
 i0: ∀y∈x.Places,uZ y
 i1: ∀y∈x.Links,EI y
structure Bo (x:Change):Prop where
 s2:x.Code.size≤1048576
 s3:x.Other.size≤1048576
 s4:x.Language.size≤1048576
 s5:x.Text.size≤1048576
end Go.Proofs.YtdejeagdkfokfaaGreatDoor.Sh
