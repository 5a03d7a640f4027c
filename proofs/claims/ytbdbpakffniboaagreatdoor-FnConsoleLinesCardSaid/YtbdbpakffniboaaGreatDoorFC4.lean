/- A part of the proof. -/
import Derived.Test.YtbdbpakffniboaaGreatDoorRows
import Derived.Test.YtbdbpakffniboaaGreatDoorCards
import Derived.JoinedOf
import Derived.SevenTiedAt
namespace Go.Proofs.YtbdbpakffniboaaGreatDoor
theorem y8:Rows.fnConsoleLinesRow.wfByText (OpenSpec.ofChange Rows.fnConsoleLinesSpec)=true:=by kernel_rfl
theorem y6:Tryz.prog.mainIs=some ((true,"091a07222f247127fa6201f17a1402a0581727de39e7a0e2031df4a0a1668998").1,(true,"091a07222f247127fa6201f17a1402a0581727de39e7a0e2031df4a0a1668998").2.toList):=by kernel_rfl
theorem qz:Tryz.prog.funcNamed Rows.fnConsoleLinesRow.func=some 4:=by kernel_rfl
theorem y5:true=Tryz.prog.looks []:=by kernel_rfl
theorem y7:([28].all fun u=> !Tryz.prog.wantsStandIn u)=true:=by kernel_rfl
theorem y4:false=Rows.fnConsoleLinesRow.goesBy Tryz.prog:=by kernel_rfl
end Go.Proofs.YtbdbpakffniboaaGreatDoor
