/- The law FnExactCanApply answers true; no condition but the bounds of its arguments' types. -/
import Derived.Test.YtdejeagdkfokfaaGreatDoorMCHB
import Derived.Test.YtdejeagdkfokfaaGreatDoorQM
import Derived.Test.YtdejeagdkfokfaaGreatDoorGA
namespace Go.Proofs.YtdejeagdkfokfaaGreatDoor.Sh
open Go.RowKit Go.Lib
theorem kY(p0:World)(p1:Change)(k0:r6 p0)(k1:p8 p1):dK p0 p1=some true:=by
 unfold dK
 obtain⟨v0,e0,h0⟩:=u6 p0 k0 1048576 (by omega) (by omega)
 rw[e0,Option.bind_some]
 by_cases c0:v0<0
 ·rw[decide_eq_true c0]
  rfl
 rw[decide_eq_false c0,cond_false]
 replace h0:=h0.resolve_left c0
 obtain⟨v1,e1,h1⟩:=tQ p1 k1 v0 (by omega) (by omega)
 rw[e1,Option.bind_some]
 by_cases c1:v1<0
 ·rw[decide_eq_true c1]
  rfl
 rw[decide_eq_false c1,cond_false]
 replace h1:=h1.resolve_left c1
 have t0:=ve p0 h0.2.2
 have q0:=rK p0 h0.2.2
 have t1:=tW p1
 obtain⟨r,r1,r2⟩:=xe (WlR.of h0.2.2) (ChR.of h1.2.2)
 simp only[r1,r2,Option.bind_some,t0,q0,t1,wW]
 simp
end Go.Proofs.YtdejeagdkfokfaaGreatDoor.Sh
