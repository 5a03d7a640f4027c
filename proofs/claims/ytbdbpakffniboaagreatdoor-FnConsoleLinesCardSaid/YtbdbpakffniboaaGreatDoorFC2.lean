/- A part of the proof. -/
import Derived.Test.YtbdbpakffniboaaGreatDoorRows
import Derived.JoinedOf
namespace Go.Proofs.YtbdbpakffniboaaGreatDoor
theorem vR:(Rows.fnConsoleLinesRow.recurses==Tryz.prog.recurses 4)=true:=by kernel_rfl
theorem vS:(Rows.fnConsoleLinesRow.named==Tryz.prog.varsNamed 4)=true:=by kernel_rfl
end Go.Proofs.YtbdbpakffniboaaGreatDoor
