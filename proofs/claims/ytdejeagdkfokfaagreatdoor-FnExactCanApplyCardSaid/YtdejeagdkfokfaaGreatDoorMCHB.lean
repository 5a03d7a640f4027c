/- Changes: the laws' bounds and those of the plain laws. -/
import Derived.Test.YtdejeagdkfokfaaGreatDoorMCHA
import Derived.Test.YtdejeagdkfokfaaGreatDoorQM
namespace Go.Proofs.YtdejeagdkfokfaaGreatDoor.Sh
open Go.RowKit Go.Lib
theorem PlR.of{p:Place}(h:jd p):PlR p:=⟨h.s0,h.s4,fun x hx=>⟨(h.i4 x hx).s0,(h.i4 x hx).s1⟩⟩
theorem WlR.of{W:World}(h:px W):WlR W:=⟨h.s0,fun x hx=>PlR.of (h.i0 x hx),h.s1,fun x hx=>⟨(h.i1 x hx).s0,(h.i1 x hx).s1⟩⟩
theorem ChR.of{x:Change}(h:tI x):ChR x:=⟨h.s2,h.s3,h.s4,h.s5⟩
theorem wW{W:World}:gX W=ez W:=rfl
end Go.Proofs.YtdejeagdkfokfaaGreatDoor.Sh
