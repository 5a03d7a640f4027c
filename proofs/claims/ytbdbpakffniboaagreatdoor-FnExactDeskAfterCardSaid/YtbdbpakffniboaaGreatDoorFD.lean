/- A part of the proof. -/
import Derived.Test.YtbdbpakffniboaaGreatDoorFD1
import Derived.Test.YtbdbpakffniboaaGreatDoorFD2
import Derived.Test.YtbdbpakffniboaaGreatDoorFD3
import Derived.Test.YtbdbpakffniboaaGreatDoorFD4
namespace Go.Proofs.YtbdbpakffniboaaGreatDoor
theorem bw{a b:Bool}(h:a=true)(k:b=true):(a&&b)=true:=by rw[h,k];rfl
set_option maxRecDepth 100000 in
theorem rS:joinedFacts Tryz.prog 5 Tryz.f5 Rows.fnExactDeskAfterSpec Rows.fnExactDeskAfterRow=true:=by
 unfold joinedFacts;exact(bw (bw (bw (bw (bw (bw (bw (bw (bw (bw (bw (bw (bw (bw (bw (bw (bw (bw (bw (bw (bw (bw (bw (bw (bw (bw (bw (bw (bw (bw (bw wc we) wg) wh) wi) wj) wk) wl) wm) wo) tR) tS) tT) tU) tV) tW) tX) tY) tZ) ua) ub) uc) ud) ue) uf) ug) uh) ui) uj) uk) um) uo)
end Go.Proofs.YtbdbpakffniboaaGreatDoor
