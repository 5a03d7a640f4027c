/- A part of the proof. -/
import Derived.Test.YtbdbpakffniboaaGreatDoorRows
import Derived.JoinedOf
namespace Go.Proofs.YtbdbpakffniboaaGreatDoor
theorem sO:(Rows.fnExactRunConsoleRow.wf (OpenSpec.ofChange Rows.fnExactRunConsoleSpec))=true:=by kernel_rfl
theorem sP:(laidOutB Tryz.prog)=true:=by kernel_rfl
theorem sQ:(mapsRowed Tryz.prog)=true:=by kernel_rfl
theorem sR:(Tryz.f3.params.all (Tryz.prog.readableRec ·))=true:=by kernel_rfl
theorem sS:(namedTie Tryz.prog Rows.fnExactRunConsoleRow.named Rows.fnExactRunConsoleSpec.vars)=true:=by kernel_rfl
theorem sT:(Rows.fnExactRunConsoleRow.stops==[])=true:=by kernel_rfl
theorem sU:(Tryz.prog.stops==[])=true:=by kernel_rfl
theorem sV:(Rows.fnExactRunConsoleRow.knobs==[])=true:=by kernel_rfl
theorem sW:(Tryz.prog.stopKnobs==[])=true:=by kernel_rfl
theorem rK:(Rows.fnExactRunConsoleRow.maps==(Tryz.f3.params.toList++Rows.fnExactRunConsoleSpec.plain.varTypes Tryz.prog).any (Tryz.prog.mapsRec ·))=true:=by kernel_rfl
theorem rL:(Rows.fnExactRunConsoleRow.ifaces==(Tryz.f3.params.toList++Rows.fnExactRunConsoleSpec.plain.varTypes Tryz.prog).any (Tryz.prog.ifacesRec ·))=true:=by kernel_rfl
theorem rM:(Rows.fnExactRunConsoleRow.mapsOut==Tryz.prog.mapsAmong Tryz.f3.resultTypes.toList)=true:=by kernel_rfl
theorem rN:(Rows.fnExactRunConsoleRow.loops==(Tryz.f3.params.toList++Rows.fnExactRunConsoleSpec.plain.varTypes Tryz.prog).any (Tryz.prog.loopsFrom ·))=true:=by kernel_rfl
theorem rO:(Rows.fnExactRunConsoleRow.wideKeys==(Tryz.f3.params.toList++Rows.fnExactRunConsoleSpec.plain.varTypes Tryz.prog++Tryz.f3.resultTypes.toList).any (Tryz.prog.wideKeysFrom ·))=true:=by kernel_rfl
theorem rP:(Rows.fnExactRunConsoleSpec.vars.all (Tryz.prog.varReadable ·))=true:=by kernel_rfl
theorem rQ:(Tryz.f3.resultTypes.all (fun t=>Tryz.prog.readableRec t&&decide (t<Tryz.prog.types.size)))=true:=by kernel_rfl
theorem rR:(Rows.fnExactRunConsoleRow.ifacesOut==Tryz.f3.resultTypes.toList.any (Tryz.prog.ifacesRec ·))=true:=by kernel_rfl
theorem rS:(Rows.fnExactRunConsoleRow.loopsOut==Tryz.f3.resultTypes.toList.any (Tryz.prog.loopsFrom ·))=true:=by kernel_rfl
theorem rT:(Rows.fnExactRunConsoleRow.plainKeys==Tryz.prog.plainKeys)=true:=by kernel_rfl
theorem rU:(Rows.fnExactRunConsoleRow.shortTexts.isNone)=true:=by kernel_rfl
theorem rV:(Tryz.prog.stopsHeard)=true:=by kernel_rfl
theorem rW:(Tryz.prog.mayEnter)=true:=by kernel_rfl
theorem rX:(Rows.fnExactRunConsoleRow.lifted==Tryz.prog.liftsFinal)=true:=by kernel_rfl
theorem rY:(Tryz.prog.make==some Rows.fnExactRunConsoleRow.make)=true:=by kernel_rfl
theorem rZ:(Rows.fnExactRunConsoleRow.kinds==(if Rows.fnExactRunConsoleRow.domain.isEmpty then[]else Tryz.f3.params.toList.map fun t=>match Tryz.prog.underlying t with | some (.int k)=>some k | _=>none))=true:=by kernel_rfl
theorem r6:(Rows.fnExactRunConsoleRow.pinned==Rows.fnExactRunConsoleRow.pinnedBy)=true:=by kernel_rfl
theorem r7:(Rows.fnExactRunConsoleRow.veiled==(Tryz.f3.params.toList++Rows.fnExactRunConsoleSpec.plain.varTypes Tryz.prog++Tryz.f3.resultTypes.toList).any (Tryz.prog.veiledRec ·))=true:=by kernel_rfl
theorem r8:(Rows.fnExactRunConsoleRow.veiledFits Tryz.prog Tryz.f3.params.toList (Tryz.f3.params.toList++Rows.fnExactRunConsoleSpec.plain.varTypes Tryz.prog++Tryz.f3.resultTypes.toList))=true:=by kernel_rfl
end Go.Proofs.YtbdbpakffniboaaGreatDoor
