/- FnExactApplyChange returns true and leaves its arguments as they were, for every input of its parameter types; no condition. -/
import Derived.Test.YtdejeagdkfokfaaGreatDoorR1
import Derived.Test.YtdejeagdkfokfaaGreatDoorYB
import Derived.Test.YtdejeagdkfokfaaGreatDoorCards
import Derived.Test.YtdejeagdkfokfaaGreatDoorTie
import Derived.ChangeMaps5
import Derived.SevenTiedAt
import Derived.Lay
namespace Go.Proofs.YtdejeagdkfokfaaGreatDoor
open Go.RowKit Go.ChangeShapes Go.WideShapes Go.ChangeAt Go.Deep Go.ChangeMaps
namespace Sh
theorem kP:mN Tryz.prog 97 gp tF:=by
 intro H enc w fuel cs x h
 obtain⟨xs,m,_,_,hl,hxl,hf⟩:=DataW.trod_struct Tryz.underlying97 h
 have hc:Tryz.prog.cellsOf 97=2:=by kernel_rfl
 rw[hc]at hl
 have q0:Tryz.prog.cellsOf 2=1:=by kernel_rfl
 have f0:DataW.trod enc Tryz.prog w 0 (fun _=>true) true m 2 ((cs.drop 0).take (Tryz.prog.cellsOf 2))=xs[0]? :=hf 0 _ rfl
 rw[q0]at f0
 obtain⟨a0,k0,_,r0⟩:=(jV Tryz.underlying2) H enc w m _ _ (f0.trans (List.getElem?_eq_getElem (by rw[hxl];decide)))
 have q1:Tryz.prog.cellsOf 2=1:=by kernel_rfl
 have f1:DataW.trod enc Tryz.prog w 0 (fun _=>true) true m 2 ((cs.drop 1).take (Tryz.prog.cellsOf 2))=xs[1]? :=hf 1 _ rfl
 rw[q1]at f1
 obtain⟨a1,k1,_,r1⟩:=(jV Tryz.underlying2) H enc w m _ _ (f1.trans (List.getElem?_eq_getElem (by rw[hxl];decide)))
 exact⟨⟨a0,a1⟩,⟨k0,k1⟩,by rw[hl];rfl,(bB (off:=0) 1 rfl r0 (bB 1 rfl r1 iX))⟩
theorem qV:mN Tryz.prog 190 ar tE:=by
 intro H enc w fuel cs x h
 obtain⟨xs,m,_,_,hl,hxl,hf⟩:=DataW.trod_struct Tryz.underlying190 h
 have hc:Tryz.prog.cellsOf 190=5:=by kernel_rfl
 rw[hc]at hl
 have q0:Tryz.prog.cellsOf 9=1:=by kernel_rfl
 have f0:DataW.trod enc Tryz.prog w 0 (fun _=>true) true m 9 ((cs.drop 0).take (Tryz.prog.cellsOf 9))=xs[0]? :=hf 0 _ rfl
 rw[q0]at f0
 obtain⟨a0,k0,_,r0⟩:=(gm Tryz.underlying9) H enc w m _ _ (f0.trans (List.getElem?_eq_getElem (by rw[hxl];decide)))
 have q1:Tryz.prog.cellsOf 9=1:=by kernel_rfl
 have f1:DataW.trod enc Tryz.prog w 0 (fun _=>true) true m 9 ((cs.drop 1).take (Tryz.prog.cellsOf 9))=xs[1]? :=hf 1 _ rfl
 rw[q1]at f1
 obtain⟨a1,k1,_,r1⟩:=(gm Tryz.underlying9) H enc w m _ _ (f1.trans (List.getElem?_eq_getElem (by rw[hxl];decide)))
 have q2:Tryz.prog.cellsOf 2=1:=by kernel_rfl
 have f2:DataW.trod enc Tryz.prog w 0 (fun _=>true) true m 2 ((cs.drop 2).take (Tryz.prog.cellsOf 2))=xs[2]? :=hf 2 _ rfl
 rw[q2]at f2
 obtain⟨a2,k2,_,r2⟩:=(jV Tryz.underlying2) H enc w m _ _ (f2.trans (List.getElem?_eq_getElem (by rw[hxl];decide)))
 have q3:Tryz.prog.cellsOf 97=2:=by kernel_rfl
 have f3:DataW.trod enc Tryz.prog w 0 (fun _=>true) true m 97 ((cs.drop 3).take (Tryz.prog.cellsOf 97))=xs[3]? :=hf 3 _ rfl
 rw[q3]at f3
 obtain⟨a3,k3,_,r3⟩:=kP H enc w m _ _ (f3.trans (List.getElem?_eq_getElem (by rw[hxl];decide)))
 exact⟨⟨a0,a1,a2,a3⟩,⟨k0,k1,k2,k3⟩,by rw[hl];rfl,(bB (off:=0) 1 rfl r0 (bB 1 rfl r1 (bB 1 rfl r2 (bB 2 rfl r3 iX))))⟩
theorem pR:mN Tryz.prog 100 ad qc:=by
 intro H enc w fuel cs x h
 obtain⟨xs,m,_,_,hl,hxl,hf⟩:=DataW.trod_struct Tryz.underlying100 h
 have hc:Tryz.prog.cellsOf 100=5:=by kernel_rfl
 rw[hc]at hl
 have q0:Tryz.prog.cellsOf 9=1:=by kernel_rfl
 have f0:DataW.trod enc Tryz.prog w 0 (fun _=>true) true m 9 ((cs.drop 0).take (Tryz.prog.cellsOf 9))=xs[0]? :=hf 0 _ rfl
 rw[q0]at f0
 obtain⟨a0,k0,_,r0⟩:=(gm Tryz.underlying9) H enc w m _ _ (f0.trans (List.getElem?_eq_getElem (by rw[hxl];decide)))
 have q1:Tryz.prog.cellsOf 2=1:=by kernel_rfl
 have f1:DataW.trod enc Tryz.prog w 0 (fun _=>true) true m 2 ((cs.drop 1).take (Tryz.prog.cellsOf 2))=xs[1]? :=hf 1 _ rfl
 rw[q1]at f1
 obtain⟨a1,k1,_,r1⟩:=(jV Tryz.underlying2) H enc w m _ _ (f1.trans (List.getElem?_eq_getElem (by rw[hxl];decide)))
 have q2:Tryz.prog.cellsOf 97=2:=by kernel_rfl
 have f2:DataW.trod enc Tryz.prog w 0 (fun _=>true) true m 97 ((cs.drop 2).take (Tryz.prog.cellsOf 97))=xs[2]? :=hf 2 _ rfl
 rw[q2]at f2
 obtain⟨a2,k2,_,r2⟩:=kP H enc w m _ _ (f2.trans (List.getElem?_eq_getElem (by rw[hxl];decide)))
 have q3:Tryz.prog.cellsOf 98=1:=by kernel_rfl
 have f3:DataW.trod enc Tryz.prog w 0 (fun _=>true) true m 98 ((cs.drop 4).take (Tryz.prog.cellsOf 98))=xs[3]? :=hf 3 _ rfl
 rw[q3]at f3
 obtain⟨a3,k3,_,r3⟩:=(l9 (m:=5) Tryz.underlying98 (by kernel_rfl) (by decide) (fun _=>rfl) qV) H enc w m _ _ (f3.trans (List.getElem?_eq_getElem (by rw[hxl];decide)))
 exact⟨⟨a0,a1,a2,a3⟩,⟨k0,k1,k2,k3⟩,by rw[hl];rfl,(bB (off:=0) 1 rfl r0 (bB 1 rfl r1 (bB 2 rfl r2 (bB 1 rfl r3 iX))))⟩
theorem qU:mN Tryz.prog 103 ae tD:=by
 intro H enc w fuel cs x h
 obtain⟨xs,m,_,_,hl,hxl,hf⟩:=DataW.trod_struct Tryz.underlying103 h
 have hc:Tryz.prog.cellsOf 103=4:=by kernel_rfl
 rw[hc]at hl
 have q0:Tryz.prog.cellsOf 9=1:=by kernel_rfl
 have f0:DataW.trod enc Tryz.prog w 0 (fun _=>true) true m 9 ((cs.drop 0).take (Tryz.prog.cellsOf 9))=xs[0]? :=hf 0 _ rfl
 rw[q0]at f0
 obtain⟨a0,k0,_,r0⟩:=(gm Tryz.underlying9) H enc w m _ _ (f0.trans (List.getElem?_eq_getElem (by rw[hxl];decide)))
 have q1:Tryz.prog.cellsOf 9=1:=by kernel_rfl
 have f1:DataW.trod enc Tryz.prog w 0 (fun _=>true) true m 9 ((cs.drop 1).take (Tryz.prog.cellsOf 9))=xs[1]? :=hf 1 _ rfl
 rw[q1]at f1
 obtain⟨a1,k1,_,r1⟩:=(gm Tryz.underlying9) H enc w m _ _ (f1.trans (List.getElem?_eq_getElem (by rw[hxl];decide)))
 have q2:Tryz.prog.cellsOf 97=2:=by kernel_rfl
 have f2:DataW.trod enc Tryz.prog w 0 (fun _=>true) true m 97 ((cs.drop 2).take (Tryz.prog.cellsOf 97))=xs[2]? :=hf 2 _ rfl
 rw[q2]at f2
 obtain⟨a2,k2,_,r2⟩:=kP H enc w m _ _ (f2.trans (List.getElem?_eq_getElem (by rw[hxl];decide)))
 exact⟨⟨a0,a1,a2⟩,⟨k0,k1,k2⟩,by rw[hl];rfl,(bB (off:=0) 1 rfl r0 (bB 1 rfl r1 (bB 2 rfl r2 iX)))⟩
theorem qW:mN Tryz.prog 25 ak tG:=by
 intro H enc w fuel cs x h
 obtain⟨xs,m,_,_,hl,hxl,hf⟩:=DataW.trod_struct Tryz.underlying25 h
 have hc:Tryz.prog.cellsOf 25=2:=by kernel_rfl
 rw[hc]at hl
 have q0:Tryz.prog.cellsOf 22=1:=by kernel_rfl
 have f0:DataW.trod enc Tryz.prog w 0 (fun _=>true) true m 22 ((cs.drop 0).take (Tryz.prog.cellsOf 22))=xs[0]? :=hf 0 _ rfl
 rw[q0]at f0
 obtain⟨a0,k0,_,r0⟩:=(l9 (m:=5) Tryz.underlying22 (by kernel_rfl) (by decide) (fun _=>rfl) pR) H enc w m _ _ (f0.trans (List.getElem?_eq_getElem (by rw[hxl];decide)))
 have q1:Tryz.prog.cellsOf 23=1:=by kernel_rfl
 have f1:DataW.trod enc Tryz.prog w 0 (fun _=>true) true m 23 ((cs.drop 1).take (Tryz.prog.cellsOf 23))=xs[1]? :=hf 1 _ rfl
 rw[q1]at f1
 obtain⟨a1,k1,_,r1⟩:=(l9 (m:=4) Tryz.underlying23 (by kernel_rfl) (by decide) (fun _=>rfl) qU) H enc w m _ _ (f1.trans (List.getElem?_eq_getElem (by rw[hxl];decide)))
 exact⟨⟨a0,a1⟩,⟨k0,k1⟩,by rw[hl];rfl,(bB (off:=0) 1 rfl r0 (bB 1 rfl r1 iX))⟩
theorem pQ:mN Tryz.prog 27 ap qT:=by
 intro H enc w fuel cs x h
 obtain⟨xs,m,_,_,hl,hxl,hf⟩:=DataW.trod_struct Tryz.underlying27 h
 have hc:Tryz.prog.cellsOf 27=6:=by kernel_rfl
 rw[hc]at hl
 have q0:Tryz.prog.cellsOf 2=1:=by kernel_rfl
 have f0:DataW.trod enc Tryz.prog w 0 (fun _=>true) true m 2 ((cs.drop 0).take (Tryz.prog.cellsOf 2))=xs[0]? :=hf 0 _ rfl
 rw[q0]at f0
 obtain⟨a0,k0,_,r0⟩:=(jV Tryz.underlying2) H enc w m _ _ (f0.trans (List.getElem?_eq_getElem (by rw[hxl];decide)))
 have q1:Tryz.prog.cellsOf 2=1:=by kernel_rfl
 have f1:DataW.trod enc Tryz.prog w 0 (fun _=>true) true m 2 ((cs.drop 1).take (Tryz.prog.cellsOf 2))=xs[1]? :=hf 1 _ rfl
 rw[q1]at f1
 obtain⟨a1,k1,_,r1⟩:=(jV Tryz.underlying2) H enc w m _ _ (f1.trans (List.getElem?_eq_getElem (by rw[hxl];decide)))
 have q2:Tryz.prog.cellsOf 9=1:=by kernel_rfl
 have f2:DataW.trod enc Tryz.prog w 0 (fun _=>true) true m 9 ((cs.drop 2).take (Tryz.prog.cellsOf 9))=xs[2]? :=hf 2 _ rfl
 rw[q2]at f2
 obtain⟨a2,k2,_,r2⟩:=(gm Tryz.underlying9) H enc w m _ _ (f2.trans (List.getElem?_eq_getElem (by rw[hxl];decide)))
 have q3:Tryz.prog.cellsOf 9=1:=by kernel_rfl
 have f3:DataW.trod enc Tryz.prog w 0 (fun _=>true) true m 9 ((cs.drop 3).take (Tryz.prog.cellsOf 9))=xs[3]? :=hf 3 _ rfl
 rw[q3]at f3
 obtain⟨a3,k3,_,r3⟩:=(gm Tryz.underlying9) H enc w m _ _ (f3.trans (List.getElem?_eq_getElem (by rw[hxl];decide)))
 have q4:Tryz.prog.cellsOf 9=1:=by kernel_rfl
 have f4:DataW.trod enc Tryz.prog w 0 (fun _=>true) true m 9 ((cs.drop 4).take (Tryz.prog.cellsOf 9))=xs[4]? :=hf 4 _ rfl
 rw[q4]at f4
 obtain⟨a4,k4,_,r4⟩:=(gm Tryz.underlying9) H enc w m _ _ (f4.trans (List.getElem?_eq_getElem (by rw[hxl];decide)))
 have q5:Tryz.prog.cellsOf 9=1:=by kernel_rfl
 have f5:DataW.trod enc Tryz.prog w 0 (fun _=>true) true m 9 ((cs.drop 5).take (Tryz.prog.cellsOf 9))=xs[5]? :=hf 5 _ rfl
 rw[q5]at f5
 obtain⟨a5,k5,_,r5⟩:=(gm Tryz.underlying9) H enc w m _ _ (f5.trans (List.getElem?_eq_getElem (by rw[hxl];decide)))
 exact⟨⟨a0,a1,a2,a3,a4,a5⟩,⟨k0,k1,k2,k3,k4,k5⟩,by rw[hl];rfl,(bB (off:=0) 1 rfl r0 (bB 1 rfl r1 (bB 1 rfl r2 (bB 1 rfl r3 (bB 1 rfl r4 (bB 1 rfl r5 iX))))))⟩
set_option maxRecDepth 100000 in
theorem kv(os:Os)(started:os.Started)(H:Type)(enc:TypeId×Value→H):
  ReturnsInHanded {} Tryz.checked os 4 .any (fun w args=>(Rows.fnExactApplyChangeSpec.pre enc Tryz.prog Tryz.f4 [] false w args∧laidMetH Tryz.prog Rows.fnExactApplyChangeRow.laid w)∧sizedMet enc Tryz.prog Tryz.f4 (OpenSpec.ofChange Rows.fnExactApplyChangeSpec) false w args) (Rows.fnExactApplyChangeSpec.post enc Tryz.prog Tryz.f4 false true false false):=by
 refine returnsInHanded_of_change_and (C:=Tryz.checked) (X:=fun w _=>laidMetH Tryz.prog Rows.fnExactApplyChangeRow.laid w) (fun _ _ _ hh h=>h.of_heap hh) own started (by kernel_rfl) Tryz.func4
  (ChangeSpec.witness_shaped (enc:=enc) (C:=Tryz.checked) (os:=os) (X:=fun w _=>laidMetH Tryz.prog Rows.fnExactApplyChangeRow.laid w) false (World.laidAll Tryz.prog os Rows.fnExactApplyChangeRow.laid) #[.agg #[.slice none 0 0,.slice none 0 0],.agg #[.int .i64 0,.int .i64 0,.string ⟨#[]⟩,.string ⟨#[]⟩,.string ⟨#[]⟩,.string ⟨#[]⟩]] 8 (World.laidAll_os _ _ _)
   (World.shaped_of_ZipB (by kernel_rfl) (by kernel_rfl)) (by kernel_rfl) (by kernel_rfl) (by kernel_rfl)
   (by rw[MakeChecks.laidMetH_plain _ _ _ (by kernel_rfl)];exact laidMet_laidAll _ (by kernel_rfl) (by kernel_rfl))) ?_
 intro W base args ds gs before hval0 hW _ _ _ _
 have hval: ∀(j:Nat) t v,Tryz.f4.params[j]? =some t→args[j]? =some v→Value.okWide Tryz.prog W .any base t v:=hval0
 have hW':=hW
 obtain⟨p,q,hA0,hV,hbef,hfz,hnd⟩:=hW
 have hA:DataW.TrodAll enc Tryz.prog W 0 (fun _=>true) true Tryz.f4.params.toList args.toList ds p:=hA0
 have hA1:=hA
 rw[Tryz.params4]at hA1 hval
 clear hA0 hval0
 have hts: ∀t∈Tryz.f4.params.toList,Tryz.prog.readableRec t=true∧t<Tryz.prog.types.size:=by
  rw[Tryz.params4]
  intro t ht
  have h:(#[25,27]:Array TypeId).toList.all (fun t=>Tryz.prog.readableRec t&&decide (t<Tryz.prog.types.size))=true:=by kernel_rfl
  have h2:=List.all_eq_true.1 h t ht
  simpa using h2
 obtain⟨v0,vs0,d0,ds0,p0,q0,hargs,rfl,rfl,h0,r0⟩:=trodAll_cons hA1
 obtain⟨v1,vs1,d1,ds1,p1,q1,rfl,rfl,rfl,h1,r1⟩:=trodAll_cons r0
 obtain⟨rfl,rfl,rfl⟩:=trodAll_nil r1
 obtain rfl:args= #[v0,v1]:=by cases args;simp_all
 obtain⟨rfl,rfl⟩:=trodVars_none hV
 obtain⟨b0,rfl,_⟩:=okWide_struct Tryz.underlying25 (hval 0 25 v0 rfl rfl)
 obtain⟨fuel0,g0⟩:=h0
 obtain⟨a0,k0,l0,s0⟩:=qW H enc W fuel0 _ _ g0
 obtain⟨b1,rfl,_⟩:=okWide_struct Tryz.underlying27 (hval 1 27 v1 rfl rfl)
 obtain⟨fuel1,g1⟩:=h1
 obtain⟨a1,k1,l1,s1⟩:=pQ H enc W fuel1 _ _ g1
 refine(yg (ins:=[.agg ((ak a0).map .tr),.agg ((ap a1).map .tr)]) (vs:=[.agg b0,.agg b1]) (jN a0 a1 true (kS a0 a1 k0 k1)) rfl (sk (xz l0 s0) (sk (xz l1 s1) zH))).mono fun e W' ⟨he,hb⟩=> ?_
 subst he
 exact⟨_,rfl,zo hW' laidOut hts hA rfl hbef hb rfl Tryz.underlying4 rfl rfl rfl (fun _ _=>rfl)⟩
end Sh
theorem kL:Rows.FnExactApplyChangeSaid:=
 OpenClaim.holds_of_wide 4 Tryz.f4 rfl rfl rfl rfl rfl rfl rfl ⟨rfl,rfl,rfl,rfl,rfl⟩ rfl rfl rfl rfl rfl (by kernel_rfl) Tryz.func4 (by kernel_rfl)
  (of_decide_eq_true (by kernel_rfl)) (by unfold Func.isWrapper;rw[if_neg (of_decide_eq_false (by kernel_rfl))];exact⟨rfl,rfl⟩)
  (fun os started H enc _=>Sh.kv os started H enc)
theorem fnExactApplyChange_card:Rows.FnExactApplyChangeCardSaid:=
 Claim7.holds_tied_plain_at .later [] [.data,.pinned] true (true,"c127e06505f4effcc2a10753bab3c882dc9f6caef53b34b2e926115e1925ceb2") false kL (fun _ h=>by cases h) (by kernel_rfl) (fun _ h=>by cases h) fnExactApplyChange_row_tie rfl ⟨rfl,rfl⟩ (by kernel_rfl) rfl
  (fun f fn hf hfn=>by
   obtain rfl:f=4:=Option.some.inj ((show Tryz.prog.funcNamed Rows.fnExactApplyChangeRow.func=some 4 by kernel_rfl).symm.trans hf) |>.symm
   obtain rfl:fn=Tryz.f4:=(Option.some.inj (Tryz.func4.symm.trans hfn)).symm
   exact⟨by kernel_rfl,fun j t ht=>by
    rw[Tryz.params4]at ht
    have hm:t∈[25,27]:=by simpa using Array.mem_of_getElem? ht
    have hall:([25,27].all fun u=> !Tryz.prog.wantsStandIn u)=true:=by kernel_rfl
    exact(show Tryz.prog.wantsStandIn t=false by simpa using List.all_eq_true.1 hall t hm)⟩)
  (by kernel_rfl)
end Go.Proofs.YtdejeagdkfokfaaGreatDoor
