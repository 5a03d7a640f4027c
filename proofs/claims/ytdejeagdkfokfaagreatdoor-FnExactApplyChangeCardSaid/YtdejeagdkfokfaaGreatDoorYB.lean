/- The law FnExactApplyChange answers true; no condition but the bounds of its arguments' types. -/
import Derived.Test.YtdejeagdkfokfaaGreatDoorMCHC
import Derived.Test.YtdejeagdkfokfaaGreatDoorQM
import Derived.Test.YtdejeagdkfokfaaGreatDoorGD
namespace Go.Proofs.YtdejeagdkfokfaaGreatDoor.Sh
open Go.RowKit Go.Lib
theorem kS(p0:World)(p1:Change)(k0:tG p0)(k1:qT p1):df p0 p1=some true:=by
 unfold df
 obtain⟨v0,e0,h0⟩:=wH p0 k0 1048576 (by omega) (by omega)
 rw[e0,Option.bind_some]
 by_cases c0:v0<0
 ·rw[decide_eq_true c0]
  rfl
 rw[decide_eq_false c0,cond_false]
 replace h0:=h0.resolve_left c0
 obtain⟨v1,e1,h1⟩:=vt p1 k1 v0 (by omega) (by omega)
 rw[e1,Option.bind_some]
 by_cases c1:v1<0
 ·rw[decide_eq_true c1]
  rfl
 rw[decide_eq_false c1,cond_false]
 replace h1:=h1.resolve_left c1
 have t0:=wN p0 h0.2.2
 have q0:=nG p0 h0.2.2
 have t1:=vA p1
 obtain⟨r,r1,r2,r3⟩:=yI (WlR.of h0.2.2) (ChR.of h1.2.2)
 have qr:=nG r.1 r3
 obtain⟨k0,Z0,m0,w0,d0,_,_⟩:=BT h0.2.2
 obtain⟨k1,Z1,m1,w1,d1,_,_⟩:=BT r3
 simp only[r1,r2,Option.bind_some,t0,q0,t1,yx,Am,qr,m0,w0,d0,m1,w1,d1]
 simp
end Go.Proofs.YtdejeagdkfokfaaGreatDoor.Sh
