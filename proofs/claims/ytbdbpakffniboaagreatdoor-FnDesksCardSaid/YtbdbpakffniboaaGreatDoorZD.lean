/- A part of the proof. -/
import Derived.Test.YtbdbpakffniboaaGreatDoorJ0
import Derived.Test.YtbdbpakffniboaaGreatDoorJ3
import Derived.Test.YtbdbpakffniboaaGreatDoorCards
import Derived.Test.YtbdbpakffniboaaGreatDoorTie
import Derived.Test.YtbdbpakffniboaaGreatDoorFE
import Derived.ChangeMaps5
import Derived.SevenTiedAt
import Derived.Lay
import Derived.OpenVars
namespace Go.Proofs.YtbdbpakffniboaaGreatDoor
open Go.RowKit Go.ChangeShapes Go.WideShapes Go.ChangeAt Go.Deep Go.ChangeMaps
namespace Sh
set_option maxRecDepth 100000 in
theorem C8(os:Os)(started:os.Started)(H:Type)(enc:TypeId×Value->H):
  ReturnsInHanded {} Tryz.checked os 6 .any (fun w args=>(Rows.fnDesksSpec.pre enc Tryz.prog Tryz.f6 [] false w args/\laidMetH Tryz.prog Rows.fnDesksRow.laid w)/\sizedMet enc Tryz.prog Tryz.f6 (OpenSpec.ofChange Rows.fnDesksSpec) false w args) (Rows.fnDesksSpec.post enc Tryz.prog Tryz.f6 false true false false):=by
 refine Bf (C:=Tryz.checked) (X:=fun w _=>laidMetH Tryz.prog Rows.fnDesksRow.laid w) (fun _ _ _ hh h=>h.of_heap hh) own started (by kernel_rfl) Tryz.func6
  (ChangeSpec.witness_shaped (enc:=enc) (C:=Tryz.checked) (os:=os) (X:=fun w _=>laidMetH Tryz.prog Rows.fnDesksRow.laid w) false (World.laidAll Tryz.prog os Rows.fnDesksRow.laid) #[.slice none 0 0] 8 (World.laidAll_os _ _ _)
   (World.shaped_of_ZipB (by kernel_rfl) (by kernel_rfl)) (by kernel_rfl) (by kernel_rfl) (by kernel_rfl)
   (by rw[MakeChecks.laidMetH_plain _ _ _ (by kernel_rfl)];exact laidMet_laidAll _ (by kernel_rfl) (by kernel_rfl))) ?_
 intro W base args ds gs before hval0 hW x3 xs;have hval: ∀(j:Nat) t v,Tryz.f6.params[j]? =some t->args[j]? =some v->Value.okWide Tryz.prog W .any base t v:=hval0;have hW':=hW;obtain⟨p,q,hA0,hV,hbef,hfz,hnd⟩:=hW;have hA:DataW.TrodAll enc Tryz.prog W 0 (fun _=>true) true Tryz.f6.params.toList args.toList ds p:=hA0;have hA1:=hA;rw[Tryz.params6]at hA1 hval;clear hA0 hval0;have hts: ∀t∈Tryz.f6.params.toList,Tryz.prog.readableRec t=true/\t<Tryz.prog.types.size:=by
  rw[Tryz.params6];intro t ht;have h:(#[28]:Array TypeId).toList.all (fun t=>Tryz.prog.readableRec t&&decide (t<Tryz.prog.types.size))=true:=by kernel_rfl
  have h2:=List.all_eq_true.1 h t ht;simpa using h2
 obtain⟨v0,vs0,d0,ds0,p0,q0,hargs,rfl,rfl,h0,r0⟩:=trodAll_cons hA1;obtain⟨rfl,rfl,rfl⟩:=trodAll_nil r0;obtain rfl:args= #[v0]:=by cases args;simp_all
 obtain⟨g1,rfl⟩: ∃g1,gs=[g1]:=by
  cases gs with
  | nil=>exact hV.elim
  | cons g r=>
   cases r with
   | nil=>exact⟨g,rfl⟩
   | cons g2 r2=>
    obtain⟨_,_,_,_,_,_,_,_,_,_,hs,_⟩:=hV;exact hs.elim
 obtain⟨A0,n0,c0,rfl⟩:=okWide_slice Tryz.underlying28 (hval 0 28 v0 rfl rfl);obtain⟨fuel0,g0⟩:=h0;obtain⟨a0,k0,_,s0⟩:=(Ja (m:=1) Tryz.underlying28 (by kernel_rfl) (by decide) (fun _=>rfl) (ON Tryz.underlying5)) H enc W fuel0 _ _ g0;replace s0:=s0 0 _ _ rfl rfl;refine(F0 (ins:=[.tr (.sl a0.length (a0.map (eI .u8)))]) (vs:=[.slice A0 n0 c0]) (Ao a0 true (Gd a0 k0)) rfl (F2 (.tr _ _ s0) Jp) (Es x3 xs)).mono fun e W' ⟨he,hb⟩=> ?_;subst he;exact⟨_,rfl,FK hW' laidOut hts hA hbef hb rfl Tryz.underlying4 rfl rfl rfl rfl (Go.RowKit.Below.trodVars laidOut hb (by kernel_rfl) hV)⟩
end Sh
theorem EA:Rows.FnDesksSaid:=
 OpenClaim.holds_of_wide 6 Tryz.f6 rfl rfl rfl rfl rfl rfl rfl ⟨rfl,rfl,rfl,rfl,rfl⟩ rfl rfl rfl rfl rfl FB Tryz.func6 Ez
  (of_decide_eq_true (by kernel_rfl)) (by unfold Func.isWrapper;rw[if_neg (of_decide_eq_false (by kernel_rfl))];exact⟨rfl,rfl⟩)
  (fun os started H enc _=>Sh.C8 os started H enc)
theorem fnDesks_card:Rows.FnDesksCardSaid:=
 Claim7.holds_tied_plain_at .later [] [.data,.data,.data,.data,.sentinel,.sentinel,.widerDeep,.pinned] true (true,"091a07222f247127fa6201f17a1402a0581727de39e7a0e2031df4a0a1668998") true EA (fun _ h=>by cases h) MB (fun _ h=>by cases h) fnDesks_row_tie rfl ⟨rfl,rfl⟩ Mz rfl
  (fun f fn hf hfn=>by
   obtain rfl:f=6:=Option.some.inj ((show Tryz.prog.funcNamed Rows.fnDesksRow.func=some 6 from FB).symm.trans hf) |>.symm;obtain rfl:fn=Tryz.f6:=(Option.some.inj (Tryz.func6.symm.trans hfn)).symm;exact⟨My,fun j t ht=>by
    rw[Tryz.params6]at ht;have hm:t∈[28]:=by simpa using Array.mem_of_getElem? ht
    have hall:([28].all fun u=> !Tryz.prog.wantsStandIn u)=true:=MA;exact(show Tryz.prog.wantsStandIn t=false by simpa using List.all_eq_true.1 hall t hm)⟩)
  Mx
end Go.Proofs.YtbdbpakffniboaaGreatDoor
