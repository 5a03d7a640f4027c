/- A part of the proof. -/
import Derived.Test.YtbdbpakffniboaaGreatDoorRows
import Derived.JoinedOf
namespace Go.Proofs.YtbdbpakffniboaaGreatDoor
theorem wo:(Rows.fnExactDeskAfterRow.inPlace==Tryz.prog.inPlace 5)=true:=by kernel_rfl
theorem tR:(Rows.fnExactDeskAfterRow.unfollowed==Tryz.prog.unfollowed 5)=true:=by kernel_rfl
end Go.Proofs.YtbdbpakffniboaaGreatDoor
