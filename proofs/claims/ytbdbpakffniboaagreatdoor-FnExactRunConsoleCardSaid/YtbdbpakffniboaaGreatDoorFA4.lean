/- A part of the proof. -/
import Derived.Test.YtbdbpakffniboaaGreatDoorRows
import Derived.Test.YtbdbpakffniboaaGreatDoorCards
import Derived.JoinedOf
import Derived.SevenTiedAt
namespace Go.Proofs.YtbdbpakffniboaaGreatDoor
theorem uY:Rows.fnExactRunConsoleRow.wfByText (OpenSpec.ofChange Rows.fnExactRunConsoleSpec)=true:=by kernel_rfl
theorem uW:Tryz.prog.mainIs=some ((true,"091a07222f247127fa6201f17a1402a0581727de39e7a0e2031df4a0a1668998").1,(true,"091a07222f247127fa6201f17a1402a0581727de39e7a0e2031df4a0a1668998").2.toList):=by kernel_rfl
theorem nr:Tryz.prog.funcNamed Rows.fnExactRunConsoleRow.func=some 3:=by kernel_rfl
theorem uV:true=Tryz.prog.looks []:=by kernel_rfl
theorem uX:([9].all fun u=> !Tryz.prog.wantsStandIn u)=true:=by kernel_rfl
theorem uU:false=Rows.fnExactRunConsoleRow.goesBy Tryz.prog:=by kernel_rfl
end Go.Proofs.YtbdbpakffniboaaGreatDoor
