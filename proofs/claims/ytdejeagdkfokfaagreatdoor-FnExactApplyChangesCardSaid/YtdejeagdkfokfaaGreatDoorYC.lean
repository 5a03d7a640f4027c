/- The law FnExactApplyChanges answers true; no condition but the bounds of its arguments' types. -/
import Derived.Test.YtdejeagdkfokfaaGreatDoorMCHD
import Derived.Test.YtdejeagdkfokfaaGreatDoorQM
import Derived.Test.YtdejeagdkfokfaaGreatDoorGE
namespace Go.Proofs.YtdejeagdkfokfaaGreatDoor.Sh
open Go.RowKit Go.Lib
theorem kP(p0:World)(p1:(List Change))(k0:uu p0)(k1:p1.length≤maxLen∧ ∀x∈p1,oC x):df p0 p1=some true:=by
 unfold df
 obtain⟨v0,e0,h0⟩:=xi p0 k0 1048576 (by omega) (by omega)
 rw[e0,Option.bind_some]
 by_cases c0:v0<0
 ·rw[decide_eq_true c0]
  rfl
 rw[decide_eq_false c0,cond_false]
 replace h0:=h0.resolve_left c0
 obtain⟨v1,e1,h1⟩:=uH p1 k1 v0 (by omega) (by omega)
 rw[e1,Option.bind_some]
 by_cases c1:v1<0
 ·rw[decide_eq_true c1]
  rfl
 rw[decide_eq_false c1,cond_false]
 replace h1:=h1.resolve_left c1
 have t0:=xo p0 h0.2.2
 have q0:=n9 p0 h0.2.2
 have l1:p1.length≤1048576:=by have:=h1.2.2.1;omega
 have t1:=uI p1 l1
 have q1:=q9 p1 (by omega)
 obtain⟨r,r1,r2,r3⟩:=wI (WlR.of h0.2.2) l1 (fun x hx=>ChR.of (h1.2.2.2 x hx))
 have qr:=n9 r.1 r3
 obtain⟨k0,Z0,m0,w0,d0,b0,b1⟩:=Cq h0.2.2
 obtain⟨k1,Z1,m1,w1,d1,_,_⟩:=Cq r3
 have bc:=qz p1 l1 h1.2.2.2
 have mc:=rB p1 k0 b0 (by omega) (by omega)
 have dc:decide (k0+((dg lA p1:Nat):Int)<0)=false:=decide_eq_false (by omega)
 simp only[r1,r2,Option.bind_some,t0,q0,t1,q1,y6,AW,qr,m0,w0,d0,m1,w1,d1,mc,dc]
 simp
end Go.Proofs.YtdejeagdkfokfaaGreatDoor.Sh
