/- A part of the proof. -/
import Derived.Test.YtbdbpakffniboaaGreatDoorRows
import Derived.JoinedOf
namespace Go.Proofs.YtbdbpakffniboaaGreatDoor
theorem H7:(Rows.fnDesksRow.recurses==Tryz.prog.recurses 6)=true:=by kernel_rfl
theorem H8:(Rows.fnDesksRow.named==Tryz.prog.varsNamed 6)=true:=by kernel_rfl
end Go.Proofs.YtbdbpakffniboaaGreatDoor
