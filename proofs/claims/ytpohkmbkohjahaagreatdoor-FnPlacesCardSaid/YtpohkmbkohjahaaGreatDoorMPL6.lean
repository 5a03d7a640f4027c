/- Places: the laws' bounds and those of the plain laws. -/
import Derived.Test.YtpohkmbkohjahaaGreatDoorMPL5
import Derived.Test.YtpohkmbkohjahaaGreatDoorQM
namespace Go.Proofs.YtpohkmbkohjahaaGreatDoor.Sh
open Go.RowKit Go.Lib
theorem PlR.of {p : Place} (h : smPlace p) : PlR p := ⟨h.s0, h.s4, fun x hx => ⟨(h.i4 x hx).s0, (h.i4 x hx).s1⟩⟩
end Go.Proofs.YtpohkmbkohjahaaGreatDoor.Sh
