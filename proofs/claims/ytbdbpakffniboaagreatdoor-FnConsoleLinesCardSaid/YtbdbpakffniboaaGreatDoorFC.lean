/- A part of the proof. -/
import Derived.Test.YtbdbpakffniboaaGreatDoorFC1
import Derived.Test.YtbdbpakffniboaaGreatDoorFC2
import Derived.Test.YtbdbpakffniboaaGreatDoorFC3
import Derived.Test.YtbdbpakffniboaaGreatDoorFC4
namespace Go.Proofs.YtbdbpakffniboaaGreatDoor
theorem dn{a b:Bool}(h:a=true)(k:b=true):(a&&b)=true:=by rw[h,k];rfl
set_option maxRecDepth 100000 in
theorem sU:joinedFacts Tryz.prog 4 Tryz.f4 Rows.fnConsoleLinesSpec Rows.fnConsoleLinesRow=true:=by
 unfold joinedFacts;exact(dn (dn (dn (dn (dn (dn (dn (dn (dn (dn (dn (dn (dn (dn (dn (dn (dn (dn (dn (dn (dn (dn (dn (dn (dn (dn (dn (dn (dn (dn (dn xi xj) xk) xm) xn) xo) xp) xq) xr) xt) vQ) vR) vS) vT) vU) vV) vW) vX) vY) vZ) wa) wc) we) wg) wh) wi) wj) wk) wl) wm) wo) wq)
end Go.Proofs.YtbdbpakffniboaaGreatDoor
