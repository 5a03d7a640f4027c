/- A part of the proof. -/
import Derived.Test.YtbdbpakffniboaaGreatDoorRows
import Derived.JoinedOf
namespace Go.Proofs.YtbdbpakffniboaaGreatDoor
theorem xt:(Rows.fnConsoleLinesRow.inPlace==Tryz.prog.inPlace 4)=true:=by kernel_rfl
theorem vQ:(Rows.fnConsoleLinesRow.unfollowed==Tryz.prog.unfollowed 4)=true:=by kernel_rfl
end Go.Proofs.YtbdbpakffniboaaGreatDoor
