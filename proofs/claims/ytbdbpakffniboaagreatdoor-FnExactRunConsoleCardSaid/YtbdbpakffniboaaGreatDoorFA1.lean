/- A part of the proof. -/
import Derived.Test.YtbdbpakffniboaaGreatDoorRows
import Derived.JoinedOf
namespace Go.Proofs.YtbdbpakffniboaaGreatDoor
theorem sX:(Rows.fnExactRunConsoleRow.inPlace==Tryz.prog.inPlace 3)=true:=by kernel_rfl
theorem rG:(Rows.fnExactRunConsoleRow.unfollowed==Tryz.prog.unfollowed 3)=true:=by kernel_rfl
end Go.Proofs.YtbdbpakffniboaaGreatDoor
