/- A part of the proof. -/
import Derived.Test.YtbdbpakffniboaaGreatDoorRows
import Derived.JoinedOf
namespace Go.Proofs.YtbdbpakffniboaaGreatDoor
theorem rH:(Rows.fnExactRunConsoleRow.recurses==Tryz.prog.recurses 3)=true:=by kernel_rfl
theorem rI:(Rows.fnExactRunConsoleRow.named==Tryz.prog.varsNamed 3)=true:=by kernel_rfl
end Go.Proofs.YtbdbpakffniboaaGreatDoor
