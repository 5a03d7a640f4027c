/- FnChanges returns true and leaves its arguments as they were, for every input of its parameter types; no condition. -/
import Derived.Test.YtdejeagdkfokfaaGreatDoorR1
import Derived.Test.YtdejeagdkfokfaaGreatDoorMJ0
import Derived.Test.YtdejeagdkfokfaaGreatDoorCards
import Derived.Test.YtdejeagdkfokfaaGreatDoorTie
import Derived.ChangeMaps5
import Derived.SevenTiedAt
import Derived.Lay
namespace Go.Proofs.YtdejeagdkfokfaaGreatDoor
open Go.RowKit Go.ChangeShapes Go.WideShapes Go.ChangeAt Go.Deep Go.ChangeMaps
namespace Sh
set_option maxRecDepth 100000 in
theorem p5(os:Os)(started:os.Started)(H:Type)(enc:TypeId×Value→H):
  ReturnsInHanded {} Tryz.checked os 5 .any (fun w args=>(Rows.fnChangesSpec.pre enc Tryz.prog Tryz.f5 [] false w args∧laidMetH Tryz.prog Rows.fnChangesRow.laid w)∧sizedMet enc Tryz.prog Tryz.f5 (OpenSpec.ofChange Rows.fnChangesSpec) false w args) (Rows.fnChangesSpec.post enc Tryz.prog Tryz.f5 false true false false):=by
 refine returnsInHanded_of_change_and (C:=Tryz.checked) (X:=fun w _=>laidMetH Tryz.prog Rows.fnChangesRow.laid w) (fun _ _ _ hh h=>h.of_heap hh) own started (by kernel_rfl) Tryz.func5
  (ChangeSpec.witness_shaped (enc:=enc) (C:=Tryz.checked) (os:=os) (X:=fun w _=>laidMetH Tryz.prog Rows.fnChangesRow.laid w) false (World.laidAll Tryz.prog os Rows.fnChangesRow.laid) #[.slice none 0 0] 8 (World.laidAll_os _ _ _)
   (World.shaped_of_ZipB (by kernel_rfl) (by kernel_rfl)) (by kernel_rfl) (by kernel_rfl) (by kernel_rfl)
   (by rw[MakeChecks.laidMetH_plain _ _ _ (by kernel_rfl)];exact laidMet_laidAll _ (by kernel_rfl) (by kernel_rfl))) ?_
 intro W base args ds gs before hval0 hW _ _ _ _
 have hval: ∀(j:Nat) t v,Tryz.f5.params[j]? =some t→args[j]? =some v→Value.okWide Tryz.prog W .any base t v:=hval0
 have hW':=hW
 obtain⟨p,q,hA0,hV,hbef,hfz,hnd⟩:=hW
 have hA:DataW.TrodAll enc Tryz.prog W 0 (fun _=>true) true Tryz.f5.params.toList args.toList ds p:=hA0
 have hA1:=hA
 rw[Tryz.params5]at hA1 hval
 clear hA0 hval0
 have hts: ∀t∈Tryz.f5.params.toList,Tryz.prog.readableRec t=true∧t<Tryz.prog.types.size:=by
  rw[Tryz.params5]
  intro t ht
  have h:(#[44]:Array TypeId).toList.all (fun t=>Tryz.prog.readableRec t&&decide (t<Tryz.prog.types.size))=true:=by kernel_rfl
  have h2:=List.all_eq_true.1 h t ht
  simpa using h2
 obtain⟨v0,vs0,d0,ds0,p0,q0,hargs,rfl,rfl,h0,r0⟩:=trodAll_cons hA1
 obtain⟨rfl,rfl,rfl⟩:=trodAll_nil r0
 obtain rfl:args= #[v0]:=by cases args;simp_all
 obtain⟨rfl,rfl⟩:=trodVars_none hV
 obtain⟨A0,n0,c0,rfl⟩:=okWide_slice Tryz.underlying44 (hval 0 44 v0 rfl rfl)
 obtain⟨fuel0,g0⟩:=h0
 obtain⟨a0,k0,_,s0⟩:=(wu (m:=1) Tryz.underlying44 (by kernel_rfl) (by decide) (fun _=>rfl) (Bc Tryz.underlying5)) H enc W fuel0 _ _ g0
 replace s0:=s0 0 _ _ rfl rfl
 refine(zI (ins:=[.tr (.sl a0.length (a0.map (eI .u8)))]) (vs:=[.slice A0 n0 c0]) (oL a0 true (rM a0 k0)) rfl (zK (.tr _ _ s0) Bn)).mono fun e W' ⟨he,hb⟩=> ?_
 subst he
 exact⟨_,rfl,AW hW' laidOut hts hA rfl hbef hb rfl Tryz.underlying4 rfl rfl rfl (fun _ _=>rfl)⟩
end Sh
theorem qW:Rows.FnChangesSaid:=
 OpenClaim.holds_of_wide 5 Tryz.f5 rfl rfl rfl rfl rfl rfl rfl ⟨rfl,rfl,rfl,rfl,rfl⟩ rfl rfl rfl rfl rfl (by kernel_rfl) Tryz.func5 (by kernel_rfl)
  (of_decide_eq_true (by kernel_rfl)) (by unfold Func.isWrapper;rw[if_neg (of_decide_eq_false (by kernel_rfl))];exact⟨rfl,rfl⟩)
  (fun os started H enc _=>Sh.p5 os started H enc)
theorem fnChanges_card:Rows.FnChangesCardSaid:=
 Claim7.holds_tied_plain_at .later [] [.data,.pinned] true (true,"c127e06505f4effcc2a10753bab3c882dc9f6caef53b34b2e926115e1925ceb2") false qW (fun _ h=>by cases h) (by kernel_rfl) (fun _ h=>by cases h) fnChanges_row_tie rfl ⟨rfl,rfl⟩ (by kernel_rfl) rfl
  (fun f fn hf hfn=>by
   obtain rfl:f=5:=Option.some.inj ((show Tryz.prog.funcNamed Rows.fnChangesRow.func=some 5 by kernel_rfl).symm.trans hf) |>.symm
   obtain rfl:fn=Tryz.f5:=(Option.some.inj (Tryz.func5.symm.trans hfn)).symm
   exact⟨by kernel_rfl,fun j t ht=>by
    rw[Tryz.params5]at ht
    have hm:t∈[44]:=by simpa using Array.mem_of_getElem? ht
    have hall:([44].all fun u=> !Tryz.prog.wantsStandIn u)=true:=by kernel_rfl
    exact(show Tryz.prog.wantsStandIn t=false by simpa using List.all_eq_true.1 hall t hm)⟩)
  (by kernel_rfl)
end Go.Proofs.YtdejeagdkfokfaaGreatDoor
