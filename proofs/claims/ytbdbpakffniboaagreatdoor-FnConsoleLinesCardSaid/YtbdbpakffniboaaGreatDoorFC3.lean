/- A part of the proof. -/
import Derived.Test.YtbdbpakffniboaaGreatDoorRows
import Derived.JoinedOf
namespace Go.Proofs.YtbdbpakffniboaaGreatDoor
theorem xi:(Rows.fnConsoleLinesRow.wf (OpenSpec.ofChange Rows.fnConsoleLinesSpec))=true:=by kernel_rfl
theorem xj:(laidOutB Tryz.prog)=true:=by kernel_rfl
theorem xk:(mapsRowed Tryz.prog)=true:=by kernel_rfl
theorem xm:(Tryz.f4.params.all (Tryz.prog.readableRec ·))=true:=by kernel_rfl
theorem xn:(namedTie Tryz.prog Rows.fnConsoleLinesRow.named Rows.fnConsoleLinesSpec.vars)=true:=by kernel_rfl
theorem xo:(Rows.fnConsoleLinesRow.stops==[])=true:=by kernel_rfl
theorem xp:(Tryz.prog.stops==[])=true:=by kernel_rfl
theorem xq:(Rows.fnConsoleLinesRow.knobs==[])=true:=by kernel_rfl
theorem xr:(Tryz.prog.stopKnobs==[])=true:=by kernel_rfl
theorem vT:(Rows.fnConsoleLinesRow.maps==(Tryz.f4.params.toList++Rows.fnConsoleLinesSpec.plain.varTypes Tryz.prog).any (Tryz.prog.mapsRec ·))=true:=by kernel_rfl
theorem vU:(Rows.fnConsoleLinesRow.ifaces==(Tryz.f4.params.toList++Rows.fnConsoleLinesSpec.plain.varTypes Tryz.prog).any (Tryz.prog.ifacesRec ·))=true:=by kernel_rfl
theorem vV:(Rows.fnConsoleLinesRow.mapsOut==Tryz.prog.mapsAmong Tryz.f4.resultTypes.toList)=true:=by kernel_rfl
theorem vW:(Rows.fnConsoleLinesRow.loops==(Tryz.f4.params.toList++Rows.fnConsoleLinesSpec.plain.varTypes Tryz.prog).any (Tryz.prog.loopsFrom ·))=true:=by kernel_rfl
theorem vX:(Rows.fnConsoleLinesRow.wideKeys==(Tryz.f4.params.toList++Rows.fnConsoleLinesSpec.plain.varTypes Tryz.prog++Tryz.f4.resultTypes.toList).any (Tryz.prog.wideKeysFrom ·))=true:=by kernel_rfl
theorem vY:(Rows.fnConsoleLinesSpec.vars.all (Tryz.prog.varReadable ·))=true:=by kernel_rfl
theorem vZ:(Tryz.f4.resultTypes.all (fun t=>Tryz.prog.readableRec t&&decide (t<Tryz.prog.types.size)))=true:=by kernel_rfl
theorem wa:(Rows.fnConsoleLinesRow.ifacesOut==Tryz.f4.resultTypes.toList.any (Tryz.prog.ifacesRec ·))=true:=by kernel_rfl
theorem wc:(Rows.fnConsoleLinesRow.loopsOut==Tryz.f4.resultTypes.toList.any (Tryz.prog.loopsFrom ·))=true:=by kernel_rfl
theorem we:(Rows.fnConsoleLinesRow.plainKeys==Tryz.prog.plainKeys)=true:=by kernel_rfl
theorem wg:(Rows.fnConsoleLinesRow.shortTexts.isNone)=true:=by kernel_rfl
theorem wh:(Tryz.prog.stopsHeard)=true:=by kernel_rfl
theorem wi:(Tryz.prog.mayEnter)=true:=by kernel_rfl
theorem wj:(Rows.fnConsoleLinesRow.lifted==Tryz.prog.liftsFinal)=true:=by kernel_rfl
theorem wk:(Tryz.prog.make==some Rows.fnConsoleLinesRow.make)=true:=by kernel_rfl
theorem wl:(Rows.fnConsoleLinesRow.kinds==(if Rows.fnConsoleLinesRow.domain.isEmpty then[]else Tryz.f4.params.toList.map fun t=>match Tryz.prog.underlying t with | some (.int k)=>some k | _=>none))=true:=by kernel_rfl
theorem wm:(Rows.fnConsoleLinesRow.pinned==Rows.fnConsoleLinesRow.pinnedBy)=true:=by kernel_rfl
theorem wo:(Rows.fnConsoleLinesRow.veiled==(Tryz.f4.params.toList++Rows.fnConsoleLinesSpec.plain.varTypes Tryz.prog++Tryz.f4.resultTypes.toList).any (Tryz.prog.veiledRec ·))=true:=by kernel_rfl
theorem wq:(Rows.fnConsoleLinesRow.veiledFits Tryz.prog Tryz.f4.params.toList (Tryz.f4.params.toList++Rows.fnConsoleLinesSpec.plain.varTypes Tryz.prog++Tryz.f4.resultTypes.toList))=true:=by kernel_rfl
end Go.Proofs.YtbdbpakffniboaaGreatDoor
