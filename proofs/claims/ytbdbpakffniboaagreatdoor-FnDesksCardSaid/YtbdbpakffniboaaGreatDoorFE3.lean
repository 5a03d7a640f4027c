/- A part of the proof. -/
import Derived.Test.YtbdbpakffniboaaGreatDoorRows
import Derived.JoinedOf
namespace Go.Proofs.YtbdbpakffniboaaGreatDoor
theorem Kk:(Rows.fnDesksRow.wf (OpenSpec.ofChange Rows.fnDesksSpec))=true:=by kernel_rfl
theorem Kl:(laidOutB Tryz.prog)=true:=by kernel_rfl
theorem Km:(mapsRowed Tryz.prog)=true:=by kernel_rfl
theorem Kn:(Tryz.f6.params.all (Tryz.prog.readableRec ·))=true:=by kernel_rfl
theorem Ko:(namedTie Tryz.prog Rows.fnDesksRow.named Rows.fnDesksSpec.vars)=true:=by kernel_rfl
theorem Kp:(Rows.fnDesksRow.stops==[])=true:=by kernel_rfl
theorem Kq:(Tryz.prog.stops==[])=true:=by kernel_rfl
theorem Kr:(Rows.fnDesksRow.knobs==[])=true:=by kernel_rfl
theorem Ks:(Tryz.prog.stopKnobs==[])=true:=by kernel_rfl
theorem H9:(Rows.fnDesksRow.maps==(Tryz.f6.params.toList++Rows.fnDesksSpec.plain.varTypes Tryz.prog).any (Tryz.prog.mapsRec ·))=true:=by kernel_rfl
theorem Ia:(Rows.fnDesksRow.ifaces==(Tryz.f6.params.toList++Rows.fnDesksSpec.plain.varTypes Tryz.prog).any (Tryz.prog.ifacesRec ·))=true:=by kernel_rfl
theorem Ib:(Rows.fnDesksRow.mapsOut==Tryz.prog.mapsAmong Tryz.f6.resultTypes.toList)=true:=by kernel_rfl
theorem Ic:(Rows.fnDesksRow.loops==(Tryz.f6.params.toList++Rows.fnDesksSpec.plain.varTypes Tryz.prog).any (Tryz.prog.loopsFrom ·))=true:=by kernel_rfl
theorem Ie:(Rows.fnDesksRow.wideKeys==(Tryz.f6.params.toList++Rows.fnDesksSpec.plain.varTypes Tryz.prog++Tryz.f6.resultTypes.toList).any (Tryz.prog.wideKeysFrom ·))=true:=by kernel_rfl
theorem Ig:(Rows.fnDesksSpec.vars.all (Tryz.prog.varReadable ·))=true:=by kernel_rfl
theorem Ih:(Tryz.f6.resultTypes.all (fun t=>Tryz.prog.readableRec t&&decide (t<Tryz.prog.types.size)))=true:=by kernel_rfl
theorem Ii:(Rows.fnDesksRow.ifacesOut==Tryz.f6.resultTypes.toList.any (Tryz.prog.ifacesRec ·))=true:=by kernel_rfl
theorem Ij:(Rows.fnDesksRow.loopsOut==Tryz.f6.resultTypes.toList.any (Tryz.prog.loopsFrom ·))=true:=by kernel_rfl
theorem Ik:(Rows.fnDesksRow.plainKeys==Tryz.prog.plainKeys)=true:=by kernel_rfl
theorem Il:(Rows.fnDesksRow.shortTexts.isNone)=true:=by kernel_rfl
theorem Im:(Tryz.prog.stopsHeard)=true:=by kernel_rfl
theorem Io:(Tryz.prog.mayEnter)=true:=by kernel_rfl
theorem Ip:(Rows.fnDesksRow.lifted==Tryz.prog.liftsFinal)=true:=by kernel_rfl
theorem Iq:(Tryz.prog.make==some Rows.fnDesksRow.make)=true:=by kernel_rfl
theorem Ir:(Rows.fnDesksRow.kinds==(if Rows.fnDesksRow.domain.isEmpty then[]else Tryz.f6.params.toList.map fun t=>match Tryz.prog.underlying t with | some (.int k)=>some k | _=>none))=true:=by kernel_rfl
theorem Is:(Rows.fnDesksRow.pinned==Rows.fnDesksRow.pinnedBy)=true:=by kernel_rfl
theorem It:(Rows.fnDesksRow.veiled==(Tryz.f6.params.toList++Rows.fnDesksSpec.plain.varTypes Tryz.prog++Tryz.f6.resultTypes.toList).any (Tryz.prog.veiledRec ·))=true:=by kernel_rfl
theorem Iu:(Rows.fnDesksRow.veiledFits Tryz.prog Tryz.f6.params.toList (Tryz.f6.params.toList++Rows.fnDesksSpec.plain.varTypes Tryz.prog++Tryz.f6.resultTypes.toList))=true:=by kernel_rfl
end Go.Proofs.YtbdbpakffniboaaGreatDoor
