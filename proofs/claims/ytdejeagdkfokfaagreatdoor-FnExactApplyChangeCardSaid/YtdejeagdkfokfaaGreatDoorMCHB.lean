/- Changes: the laws' bounds and those of the plain laws. -/
import Derived.Test.YtdejeagdkfokfaaGreatDoorMCHA
import Derived.Test.YtdejeagdkfokfaaGreatDoorQM
namespace Go.Proofs.YtdejeagdkfokfaaGreatDoor.Sh
open Go.RowKit Go.Lib
theorem PlR.of{p:Place}(h:iE p):PlR p:=⟨h.s0,h.s4,fun x hx=>⟨(h.i4 x hx).s0,(h.i4 x hx).s1⟩⟩
theorem PlR.sm{p:Place}(h:PlR p):iE p:=⟨h.c,h.l,fun x hx=>⟨(h.n x hx).t,(h.n x hx).l⟩⟩
theorem WlR.of{W:World}(h:lB W):WlR W:=⟨h.s0,fun x hx=>PlR.of (h.i0 x hx),h.s1,fun x hx=>⟨(h.i1 x hx).s0,(h.i1 x hx).s1⟩⟩
theorem WlR.sm{W:World}(h:WlR W):lB W:=⟨h.pl,h.ll,fun x hx=>(h.p x hx).sm,fun x hx=>⟨(h.l x hx).c,(h.l x hx).p⟩⟩
theorem ChR.of{x:Change}(h:vj x):ChR x:=⟨h.s2,h.s3,h.s4,h.s5⟩
theorem yx{W:World}:iC W=ea W:=rfl
end Go.Proofs.YtdejeagdkfokfaaGreatDoor.Sh
