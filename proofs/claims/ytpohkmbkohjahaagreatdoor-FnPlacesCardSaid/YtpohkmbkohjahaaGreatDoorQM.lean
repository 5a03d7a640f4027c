/- Sizes, copies, comparisons and marks of the laws' types; bounds on lengths alone. -/
import Derived.Test.YtpohkmbkohjahaaGreatDoorQA
import Derived.Test.YtpohkmbkohjahaaGreatDoorRD
namespace Go.Proofs.YtpohkmbkohjahaaGreatDoor.Sh
open Go.RowKit Go.Lib
structure smName (x : Name) : Prop where
  s0 : x.Text.size ≤ 1048576
  s1 : x.Language.size ≤ 1048576
structure smPlace (x : Place) : Prop where
  s0 : x.Code.size ≤ 1048576
  s4 : x.Names.length ≤ 1048576
  i4 : ∀ y ∈ x.Names, smName y
end Go.Proofs.YtpohkmbkohjahaaGreatDoor.Sh
