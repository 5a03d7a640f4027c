/- A part of the proof. -/
import Derived.Test.YtbdbpakffniboaaGreatDoorRows
import Derived.JoinedOf
namespace Go.Proofs.YtbdbpakffniboaaGreatDoor
theorem tS:(Rows.fnExactDeskAfterRow.recurses==Tryz.prog.recurses 5)=true:=by kernel_rfl
theorem tT:(Rows.fnExactDeskAfterRow.named==Tryz.prog.varsNamed 5)=true:=by kernel_rfl
end Go.Proofs.YtbdbpakffniboaaGreatDoor
