/- A part of the proof. -/
import Derived.Test.YtbdbpakffniboaaGreatDoorFA1
import Derived.Test.YtbdbpakffniboaaGreatDoorFA2
import Derived.Test.YtbdbpakffniboaaGreatDoorFA3
import Derived.Test.YtbdbpakffniboaaGreatDoorFA4
namespace Go.Proofs.YtbdbpakffniboaaGreatDoor
theorem db{a b:Bool}(h:a=true)(k:b=true):(a&&b)=true:=by rw[h,k];rfl
set_option maxRecDepth 100000 in
theorem p4:joinedFacts Tryz.prog 3 Tryz.f3 Rows.fnExactRunConsoleSpec Rows.fnExactRunConsoleRow=true:=by
 unfold joinedFacts;exact(db (db (db (db (db (db (db (db (db (db (db (db (db (db (db (db (db (db (db (db (db (db (db (db (db (db (db (db (db (db (db sO sP) sQ) sR) sS) sT) sU) sV) sW) sX) rG) rH) rI) rK) rL) rM) rN) rO) rP) rQ) rR) rS) rT) rU) rV) rW) rX) rY) rZ) r6) r7) r8)
end Go.Proofs.YtbdbpakffniboaaGreatDoor
