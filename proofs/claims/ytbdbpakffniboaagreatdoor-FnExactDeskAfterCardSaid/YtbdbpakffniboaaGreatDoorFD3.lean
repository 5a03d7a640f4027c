/- A part of the proof. -/
import Derived.Test.YtbdbpakffniboaaGreatDoorRows
import Derived.JoinedOf
namespace Go.Proofs.YtbdbpakffniboaaGreatDoor
theorem wc:(Rows.fnExactDeskAfterRow.wf (OpenSpec.ofChange Rows.fnExactDeskAfterSpec))=true:=by kernel_rfl
theorem we:(laidOutB Tryz.prog)=true:=by kernel_rfl
theorem wg:(mapsRowed Tryz.prog)=true:=by kernel_rfl
theorem wh:(Tryz.f5.params.all (Tryz.prog.readableRec ·))=true:=by kernel_rfl
theorem wi:(namedTie Tryz.prog Rows.fnExactDeskAfterRow.named Rows.fnExactDeskAfterSpec.vars)=true:=by kernel_rfl
theorem wj:(Rows.fnExactDeskAfterRow.stops==[])=true:=by kernel_rfl
theorem wk:(Tryz.prog.stops==[])=true:=by kernel_rfl
theorem wl:(Rows.fnExactDeskAfterRow.knobs==[])=true:=by kernel_rfl
theorem wm:(Tryz.prog.stopKnobs==[])=true:=by kernel_rfl
theorem tU:(Rows.fnExactDeskAfterRow.maps==(Tryz.f5.params.toList++Rows.fnExactDeskAfterSpec.plain.varTypes Tryz.prog).any (Tryz.prog.mapsRec ·))=true:=by kernel_rfl
theorem tV:(Rows.fnExactDeskAfterRow.ifaces==(Tryz.f5.params.toList++Rows.fnExactDeskAfterSpec.plain.varTypes Tryz.prog).any (Tryz.prog.ifacesRec ·))=true:=by kernel_rfl
theorem tW:(Rows.fnExactDeskAfterRow.mapsOut==Tryz.prog.mapsAmong Tryz.f5.resultTypes.toList)=true:=by kernel_rfl
theorem tX:(Rows.fnExactDeskAfterRow.loops==(Tryz.f5.params.toList++Rows.fnExactDeskAfterSpec.plain.varTypes Tryz.prog).any (Tryz.prog.loopsFrom ·))=true:=by kernel_rfl
theorem tY:(Rows.fnExactDeskAfterRow.wideKeys==(Tryz.f5.params.toList++Rows.fnExactDeskAfterSpec.plain.varTypes Tryz.prog++Tryz.f5.resultTypes.toList).any (Tryz.prog.wideKeysFrom ·))=true:=by kernel_rfl
theorem tZ:(Rows.fnExactDeskAfterSpec.vars.all (Tryz.prog.varReadable ·))=true:=by kernel_rfl
theorem ua:(Tryz.f5.resultTypes.all (fun t=>Tryz.prog.readableRec t&&decide (t<Tryz.prog.types.size)))=true:=by kernel_rfl
theorem ub:(Rows.fnExactDeskAfterRow.ifacesOut==Tryz.f5.resultTypes.toList.any (Tryz.prog.ifacesRec ·))=true:=by kernel_rfl
theorem uc:(Rows.fnExactDeskAfterRow.loopsOut==Tryz.f5.resultTypes.toList.any (Tryz.prog.loopsFrom ·))=true:=by kernel_rfl
theorem ud:(Rows.fnExactDeskAfterRow.plainKeys==Tryz.prog.plainKeys)=true:=by kernel_rfl
theorem ue:(Rows.fnExactDeskAfterRow.shortTexts.isNone)=true:=by kernel_rfl
theorem uf:(Tryz.prog.stopsHeard)=true:=by kernel_rfl
theorem ug:(Tryz.prog.mayEnter)=true:=by kernel_rfl
theorem uh:(Rows.fnExactDeskAfterRow.lifted==Tryz.prog.liftsFinal)=true:=by kernel_rfl
theorem ui:(Tryz.prog.make==some Rows.fnExactDeskAfterRow.make)=true:=by kernel_rfl
theorem uj:(Rows.fnExactDeskAfterRow.kinds==(if Rows.fnExactDeskAfterRow.domain.isEmpty then[]else Tryz.f5.params.toList.map fun t=>match Tryz.prog.underlying t with | some (.int k)=>some k | _=>none))=true:=by kernel_rfl
theorem uk:(Rows.fnExactDeskAfterRow.pinned==Rows.fnExactDeskAfterRow.pinnedBy)=true:=by kernel_rfl
theorem um:(Rows.fnExactDeskAfterRow.veiled==(Tryz.f5.params.toList++Rows.fnExactDeskAfterSpec.plain.varTypes Tryz.prog++Tryz.f5.resultTypes.toList).any (Tryz.prog.veiledRec ·))=true:=by kernel_rfl
theorem uo:(Rows.fnExactDeskAfterRow.veiledFits Tryz.prog Tryz.f5.params.toList (Tryz.f5.params.toList++Rows.fnExactDeskAfterSpec.plain.varTypes Tryz.prog++Tryz.f5.resultTypes.toList))=true:=by kernel_rfl
end Go.Proofs.YtbdbpakffniboaaGreatDoor
