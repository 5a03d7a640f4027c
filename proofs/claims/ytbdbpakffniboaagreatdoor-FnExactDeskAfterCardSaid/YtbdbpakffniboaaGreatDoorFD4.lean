/- A part of the proof. -/
import Derived.Test.YtbdbpakffniboaaGreatDoorRows
import Derived.Test.YtbdbpakffniboaaGreatDoorCards
import Derived.JoinedOf
import Derived.SevenTiedAt
namespace Go.Proofs.YtbdbpakffniboaaGreatDoor
theorem xh:Rows.fnExactDeskAfterRow.wfByText (OpenSpec.ofChange Rows.fnExactDeskAfterSpec)=true:=by kernel_rfl
theorem xf:Tryz.prog.mainIs=some ((true,"091a07222f247127fa6201f17a1402a0581727de39e7a0e2031df4a0a1668998").1,(true,"091a07222f247127fa6201f17a1402a0581727de39e7a0e2031df4a0a1668998").2.toList):=by kernel_rfl
theorem pw:Tryz.prog.funcNamed Rows.fnExactDeskAfterRow.func=some 5:=by kernel_rfl
theorem xd:true=Tryz.prog.looks []:=by kernel_rfl
theorem xg:([9].all fun u=> !Tryz.prog.wantsStandIn u)=true:=by kernel_rfl
theorem xb:false=Rows.fnExactDeskAfterRow.goesBy Tryz.prog:=by kernel_rfl
end Go.Proofs.YtbdbpakffniboaaGreatDoor
