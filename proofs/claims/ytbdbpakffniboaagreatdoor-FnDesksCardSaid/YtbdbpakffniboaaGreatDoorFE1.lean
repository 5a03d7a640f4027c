/- A part of the proof. -/
import Derived.Test.YtbdbpakffniboaaGreatDoorRows
import Derived.JoinedOf
namespace Go.Proofs.YtbdbpakffniboaaGreatDoor
theorem Kt:(Rows.fnDesksRow.inPlace==Tryz.prog.inPlace 6)=true:=by kernel_rfl
theorem H6:(Rows.fnDesksRow.unfollowed==Tryz.prog.unfollowed 6)=true:=by kernel_rfl
end Go.Proofs.YtbdbpakffniboaaGreatDoor
