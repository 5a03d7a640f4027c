/- Changes: the laws' marks of worlds, ApplyChange of both. -/
import Derived.Test.YtdejeagdkfokfaaGreatDoorMCHB
namespace Go.Proofs.YtdejeagdkfokfaaGreatDoor.Sh
open Go.RowKit Go.Lib
theorem BT{W:World}(h:lB W): ∃m Z,eD W 1=some (m,Z)∧eB Z 1=some m∧decide (m<0)=false∧1≤m∧m≤100000000000000:=by
 have h1:=rl W.Places h.s0 h.i0
 have h2:=rW W.Links h.s1 h.i1
 have l1:=h.s0
 have l2:=h.s1
 refine⟨1+du iW W.Places+du lE W.Links,World.mk (eE ov iW 1 W.Places) (eE r8 lE (1+du iW W.Places) W.Links),?_,?_,decide_eq_false (by omega),by omega,by omega⟩
 ·unfold eD
  rw[rM W.Places 1 (by omega) (by omega) (by omega),Option.bind_some]
  dsimp only
  rw[tx W.Links _ (by omega) (by omega) (by omega),Option.bind_some]
 ·unfold eB
  dsimp only
  rw[rH W.Places 1 (by omega) (by omega) (by omega),Option.bind_some,decide_eq_false (by omega),cond_false,tg W.Links _ (by omega) (by omega) (by omega),Option.bind_some,decide_eq_false (by omega),cond_false]
theorem BC{W:World}(h:WlR W):js W=some W:=by
 have:=h.ll
 unfold js
 rw[zz h.pl h.p,Option.bind_some,da (by rw[List.length_nil];omega)]
 rfl
theorem De:WlR (World.mk [] []):=⟨by show([]:List Place).length≤_;simp,fun x hx=>absurd hx (by simp),by show([]:List aw).length≤_;simp,fun x hx=>absurd hx (by simp)⟩
theorem yI{W:World}{x:Change}(hW:WlR W)(hx:ChR x): ∃r,cj W x=some r∧eJ W x=some r∧lB r.1:=by
 obtain⟨V,Z,e,e1,e2,e3,e4,e5⟩:=vP hW hx
 unfold eJ
 rw[e1,e2,Option.bind_some]
 cases he:e==0
 ·exact⟨_,rfl,by rw[bne,he];rfl,De.sm⟩
 ·obtain⟨h1,h2,h3⟩:=e4 (by simpa using he)
  refine⟨_,rfl,?_,h2.sm⟩
  rw[bne,he,Bool.not_true,cond_false,h1,BC h2,show e=0 by simpa using he]
  rfl
theorem Am{W:World}{x:Change}:ga W x=cj W x:=rfl
end Go.Proofs.YtdejeagdkfokfaaGreatDoor.Sh
