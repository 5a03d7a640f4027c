/- A part of the proof. -/
import Derived.Test.YtbdbpakffniboaaGreatDoorRows
import Derived.Test.YtbdbpakffniboaaGreatDoorCards
import Derived.JoinedOf
import Derived.SevenTiedAt
namespace Go.Proofs.YtbdbpakffniboaaGreatDoor
theorem MB:Rows.fnDesksRow.wfByText (OpenSpec.ofChange Rows.fnDesksSpec)=true:=by kernel_rfl
theorem Mz:Tryz.prog.mainIs=some ((true,"091a07222f247127fa6201f17a1402a0581727de39e7a0e2031df4a0a1668998").1,(true,"091a07222f247127fa6201f17a1402a0581727de39e7a0e2031df4a0a1668998").2.toList):=by kernel_rfl
theorem FB:Tryz.prog.funcNamed Rows.fnDesksRow.func=some 6:=by kernel_rfl
theorem My:true=Tryz.prog.looks []:=by kernel_rfl
theorem MA:([28].all fun u=> !Tryz.prog.wantsStandIn u)=true:=by kernel_rfl
theorem Mx:false=Rows.fnDesksRow.goesBy Tryz.prog:=by kernel_rfl
end Go.Proofs.YtbdbpakffniboaaGreatDoor
