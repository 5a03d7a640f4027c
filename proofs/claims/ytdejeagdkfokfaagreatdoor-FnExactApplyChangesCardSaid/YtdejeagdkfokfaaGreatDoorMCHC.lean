/- Changes: the laws' marks of worlds, ApplyChange of both. -/
import Derived.Test.YtdejeagdkfokfaaGreatDoorMCHB
namespace Go.Proofs.YtdejeagdkfokfaaGreatDoor.Sh
open Go.RowKit Go.Lib
theorem Cq{W:World}(h:lN W): ∃m Z,eG W 1=some (m,Z)∧eD Z 1=some m∧decide (m<0)=false∧1≤m∧m≤100000000000000:=by
 have h1:=rY W.Places h.s0 h.i0
 have h2:=sL W.Links h.s1 h.i1
 have l1:=h.s0
 have l2:=h.s1
 refine⟨1+dg je W.Places+dg lQ W.Links,World.mk (er oY je 1 W.Places) (er sS lQ (1+dg je W.Places) W.Links),?_,?_,decide_eq_false (by omega),by omega,by omega⟩
 ·unfold eG
  rw[sB W.Places 1 (by omega) (by omega) (by omega),Option.bind_some]
  dsimp only
  rw[uh W.Links _ (by omega) (by omega) (by omega),Option.bind_some]
 ·unfold eD
  dsimp only
  rw[su W.Places 1 (by omega) (by omega) (by omega),Option.bind_some,decide_eq_false (by omega),cond_false,ua W.Links _ (by omega) (by omega) (by omega),Option.bind_some,decide_eq_false (by omega),cond_false]
theorem ya{W:World}(h:WlR W):dM W=some W:=by
 have:=h.ll
 unfold dM
 rw[Ad h.pl h.p,Option.bind_some,dj (by rw[List.length_nil];omega)]
 rfl
theorem Cr:WlR (World.mk [] []):=⟨by show([]:List Place).length≤_;simp,fun x hx=>absurd hx (by simp),by show([]:List ax).length≤_;simp,fun x hx=>absurd hx (by simp)⟩
theorem AW{W:World}{x:Change}:o3 W x=bC W x:=rfl
end Go.Proofs.YtdejeagdkfokfaaGreatDoor.Sh
