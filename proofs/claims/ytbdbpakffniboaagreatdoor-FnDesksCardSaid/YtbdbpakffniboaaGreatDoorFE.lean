/- A part of the proof. -/
import Derived.Test.YtbdbpakffniboaaGreatDoorFE1
import Derived.Test.YtbdbpakffniboaaGreatDoorFE2
import Derived.Test.YtbdbpakffniboaaGreatDoorFE3
import Derived.Test.YtbdbpakffniboaaGreatDoorFE4
namespace Go.Proofs.YtbdbpakffniboaaGreatDoor
theorem bw{a b:Bool}(h:a=true)(k:b=true):(a&&b)=true:=by rw[h,k];rfl
set_option maxRecDepth 100000 in
theorem Ez:joinedFacts Tryz.prog 6 Tryz.f6 Rows.fnDesksSpec Rows.fnDesksRow=true:=by
 unfold joinedFacts;exact(bw (bw (bw (bw (bw (bw (bw (bw (bw (bw (bw (bw (bw (bw (bw (bw (bw (bw (bw (bw (bw (bw (bw (bw (bw (bw (bw (bw (bw (bw (bw Kk Kl) Km) Kn) Ko) Kp) Kq) Kr) Ks) Kt) H6) H7) H8) H9) Ia) Ib) Ic) Ie) Ig) Ih) Ii) Ij) Ik) Il) Im) Io) Ip) Iq) Ir) Is) It) Iu)
end Go.Proofs.YtbdbpakffniboaaGreatDoor
