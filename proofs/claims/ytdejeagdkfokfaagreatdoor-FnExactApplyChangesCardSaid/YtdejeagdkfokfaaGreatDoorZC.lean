/- FnExactApplyChanges returns true and leaves its arguments as they were, for every input of its parameter types; no condition. -/
import Derived.Test.YtdejeagdkfokfaaGreatDoorR1
import Derived.Test.YtdejeagdkfokfaaGreatDoorYC
import Derived.Test.YtdejeagdkfokfaaGreatDoorCards
import Derived.Test.YtdejeagdkfokfaaGreatDoorTie
import Derived.ChangeMaps5
import Derived.SevenTiedAt
import Derived.Lay
namespace Go.Proofs.YtdejeagdkfokfaaGreatDoor
open Go.RowKit Go.ChangeShapes Go.WideShapes Go.ChangeAt Go.Deep Go.ChangeMaps
namespace Sh
theorem kU:nc Tryz.prog 97 gE ur:=by
 intro H enc w fuel cs x h
 obtain⟨xs,m,_,_,hl,hxl,hf⟩:=DataW.trod_struct Tryz.underlying97 h
 have hc:Tryz.prog.cellsOf 97=2:=by kernel_rfl
 rw[hc]at hl
 have q0:Tryz.prog.cellsOf 2=1:=by kernel_rfl
 have f0:DataW.trod enc Tryz.prog w 0 (fun _=>true) true m 2 ((cs.drop 0).take (Tryz.prog.cellsOf 2))=xs[0]? :=hf 0 _ rfl
 rw[q0]at f0
 obtain⟨a0,k0,_,r0⟩:=(jZ Tryz.underlying2) H enc w m _ _ (f0.trans (List.getElem?_eq_getElem (by rw[hxl];decide)))
 have q1:Tryz.prog.cellsOf 2=1:=by kernel_rfl
 have f1:DataW.trod enc Tryz.prog w 0 (fun _=>true) true m 2 ((cs.drop 1).take (Tryz.prog.cellsOf 2))=xs[1]? :=hf 1 _ rfl
 rw[q1]at f1
 obtain⟨a1,k1,_,r1⟩:=(jZ Tryz.underlying2) H enc w m _ _ (f1.trans (List.getElem?_eq_getElem (by rw[hxl];decide)))
 exact⟨⟨a0,a1⟩,⟨k0,k1⟩,by rw[hl];rfl,(bG (off:=0) 1 rfl r0 (bG 1 rfl r1 jf))⟩
theorem rG:nc Tryz.prog 190 ar uq:=by
 intro H enc w fuel cs x h
 obtain⟨xs,m,_,_,hl,hxl,hf⟩:=DataW.trod_struct Tryz.underlying190 h
 have hc:Tryz.prog.cellsOf 190=5:=by kernel_rfl
 rw[hc]at hl
 have q0:Tryz.prog.cellsOf 9=1:=by kernel_rfl
 have f0:DataW.trod enc Tryz.prog w 0 (fun _=>true) true m 9 ((cs.drop 0).take (Tryz.prog.cellsOf 9))=xs[0]? :=hf 0 _ rfl
 rw[q0]at f0
 obtain⟨a0,k0,_,r0⟩:=(gB Tryz.underlying9) H enc w m _ _ (f0.trans (List.getElem?_eq_getElem (by rw[hxl];decide)))
 have q1:Tryz.prog.cellsOf 9=1:=by kernel_rfl
 have f1:DataW.trod enc Tryz.prog w 0 (fun _=>true) true m 9 ((cs.drop 1).take (Tryz.prog.cellsOf 9))=xs[1]? :=hf 1 _ rfl
 rw[q1]at f1
 obtain⟨a1,k1,_,r1⟩:=(gB Tryz.underlying9) H enc w m _ _ (f1.trans (List.getElem?_eq_getElem (by rw[hxl];decide)))
 have q2:Tryz.prog.cellsOf 2=1:=by kernel_rfl
 have f2:DataW.trod enc Tryz.prog w 0 (fun _=>true) true m 2 ((cs.drop 2).take (Tryz.prog.cellsOf 2))=xs[2]? :=hf 2 _ rfl
 rw[q2]at f2
 obtain⟨a2,k2,_,r2⟩:=(jZ Tryz.underlying2) H enc w m _ _ (f2.trans (List.getElem?_eq_getElem (by rw[hxl];decide)))
 have q3:Tryz.prog.cellsOf 97=2:=by kernel_rfl
 have f3:DataW.trod enc Tryz.prog w 0 (fun _=>true) true m 97 ((cs.drop 3).take (Tryz.prog.cellsOf 97))=xs[3]? :=hf 3 _ rfl
 rw[q3]at f3
 obtain⟨a3,k3,_,r3⟩:=kU H enc w m _ _ (f3.trans (List.getElem?_eq_getElem (by rw[hxl];decide)))
 exact⟨⟨a0,a1,a2,a3⟩,⟨k0,k1,k2,k3⟩,by rw[hl];rfl,(bG (off:=0) 1 rfl r0 (bG 1 rfl r1 (bG 1 rfl r2 (bG 2 rfl r3 jf))))⟩
theorem ql:nc Tryz.prog 100 af qH:=by
 intro H enc w fuel cs x h
 obtain⟨xs,m,_,_,hl,hxl,hf⟩:=DataW.trod_struct Tryz.underlying100 h
 have hc:Tryz.prog.cellsOf 100=5:=by kernel_rfl
 rw[hc]at hl
 have q0:Tryz.prog.cellsOf 9=1:=by kernel_rfl
 have f0:DataW.trod enc Tryz.prog w 0 (fun _=>true) true m 9 ((cs.drop 0).take (Tryz.prog.cellsOf 9))=xs[0]? :=hf 0 _ rfl
 rw[q0]at f0
 obtain⟨a0,k0,_,r0⟩:=(gB Tryz.underlying9) H enc w m _ _ (f0.trans (List.getElem?_eq_getElem (by rw[hxl];decide)))
 have q1:Tryz.prog.cellsOf 2=1:=by kernel_rfl
 have f1:DataW.trod enc Tryz.prog w 0 (fun _=>true) true m 2 ((cs.drop 1).take (Tryz.prog.cellsOf 2))=xs[1]? :=hf 1 _ rfl
 rw[q1]at f1
 obtain⟨a1,k1,_,r1⟩:=(jZ Tryz.underlying2) H enc w m _ _ (f1.trans (List.getElem?_eq_getElem (by rw[hxl];decide)))
 have q2:Tryz.prog.cellsOf 97=2:=by kernel_rfl
 have f2:DataW.trod enc Tryz.prog w 0 (fun _=>true) true m 97 ((cs.drop 2).take (Tryz.prog.cellsOf 97))=xs[2]? :=hf 2 _ rfl
 rw[q2]at f2
 obtain⟨a2,k2,_,r2⟩:=kU H enc w m _ _ (f2.trans (List.getElem?_eq_getElem (by rw[hxl];decide)))
 have q3:Tryz.prog.cellsOf 98=1:=by kernel_rfl
 have f3:DataW.trod enc Tryz.prog w 0 (fun _=>true) true m 98 ((cs.drop 4).take (Tryz.prog.cellsOf 98))=xs[3]? :=hf 3 _ rfl
 rw[q3]at f3
 obtain⟨a3,k3,_,r3⟩:=(kJ (m:=5) Tryz.underlying98 (by kernel_rfl) (by decide) (fun _=>rfl) rG) H enc w m _ _ (f3.trans (List.getElem?_eq_getElem (by rw[hxl];decide)))
 exact⟨⟨a0,a1,a2,a3⟩,⟨k0,k1,k2,k3⟩,by rw[hl];rfl,(bG (off:=0) 1 rfl r0 (bG 1 rfl r1 (bG 2 rfl r2 (bG 1 rfl r3 jf))))⟩
theorem rF:nc Tryz.prog 103 ah uo:=by
 intro H enc w fuel cs x h
 obtain⟨xs,m,_,_,hl,hxl,hf⟩:=DataW.trod_struct Tryz.underlying103 h
 have hc:Tryz.prog.cellsOf 103=4:=by kernel_rfl
 rw[hc]at hl
 have q0:Tryz.prog.cellsOf 9=1:=by kernel_rfl
 have f0:DataW.trod enc Tryz.prog w 0 (fun _=>true) true m 9 ((cs.drop 0).take (Tryz.prog.cellsOf 9))=xs[0]? :=hf 0 _ rfl
 rw[q0]at f0
 obtain⟨a0,k0,_,r0⟩:=(gB Tryz.underlying9) H enc w m _ _ (f0.trans (List.getElem?_eq_getElem (by rw[hxl];decide)))
 have q1:Tryz.prog.cellsOf 9=1:=by kernel_rfl
 have f1:DataW.trod enc Tryz.prog w 0 (fun _=>true) true m 9 ((cs.drop 1).take (Tryz.prog.cellsOf 9))=xs[1]? :=hf 1 _ rfl
 rw[q1]at f1
 obtain⟨a1,k1,_,r1⟩:=(gB Tryz.underlying9) H enc w m _ _ (f1.trans (List.getElem?_eq_getElem (by rw[hxl];decide)))
 have q2:Tryz.prog.cellsOf 97=2:=by kernel_rfl
 have f2:DataW.trod enc Tryz.prog w 0 (fun _=>true) true m 97 ((cs.drop 2).take (Tryz.prog.cellsOf 97))=xs[2]? :=hf 2 _ rfl
 rw[q2]at f2
 obtain⟨a2,k2,_,r2⟩:=kU H enc w m _ _ (f2.trans (List.getElem?_eq_getElem (by rw[hxl];decide)))
 exact⟨⟨a0,a1,a2⟩,⟨k0,k1,k2⟩,by rw[hl];rfl,(bG (off:=0) 1 rfl r0 (bG 1 rfl r1 (bG 2 rfl r2 jf)))⟩
theorem rH:nc Tryz.prog 25 aH uu:=by
 intro H enc w fuel cs x h
 obtain⟨xs,m,_,_,hl,hxl,hf⟩:=DataW.trod_struct Tryz.underlying25 h
 have hc:Tryz.prog.cellsOf 25=2:=by kernel_rfl
 rw[hc]at hl
 have q0:Tryz.prog.cellsOf 22=1:=by kernel_rfl
 have f0:DataW.trod enc Tryz.prog w 0 (fun _=>true) true m 22 ((cs.drop 0).take (Tryz.prog.cellsOf 22))=xs[0]? :=hf 0 _ rfl
 rw[q0]at f0
 obtain⟨a0,k0,_,r0⟩:=(kJ (m:=5) Tryz.underlying22 (by kernel_rfl) (by decide) (fun _=>rfl) ql) H enc w m _ _ (f0.trans (List.getElem?_eq_getElem (by rw[hxl];decide)))
 have q1:Tryz.prog.cellsOf 23=1:=by kernel_rfl
 have f1:DataW.trod enc Tryz.prog w 0 (fun _=>true) true m 23 ((cs.drop 1).take (Tryz.prog.cellsOf 23))=xs[1]? :=hf 1 _ rfl
 rw[q1]at f1
 obtain⟨a1,k1,_,r1⟩:=(kJ (m:=4) Tryz.underlying23 (by kernel_rfl) (by decide) (fun _=>rfl) rF) H enc w m _ _ (f1.trans (List.getElem?_eq_getElem (by rw[hxl];decide)))
 exact⟨⟨a0,a1⟩,⟨k0,k1⟩,by rw[hl];rfl,(bG (off:=0) 1 rfl r0 (bG 1 rfl r1 jf))⟩
theorem qk:nc Tryz.prog 27 ak oC:=by
 intro H enc w fuel cs x h
 obtain⟨xs,m,_,_,hl,hxl,hf⟩:=DataW.trod_struct Tryz.underlying27 h
 have hc:Tryz.prog.cellsOf 27=6:=by kernel_rfl
 rw[hc]at hl
 have q0:Tryz.prog.cellsOf 2=1:=by kernel_rfl
 have f0:DataW.trod enc Tryz.prog w 0 (fun _=>true) true m 2 ((cs.drop 0).take (Tryz.prog.cellsOf 2))=xs[0]? :=hf 0 _ rfl
 rw[q0]at f0
 obtain⟨a0,k0,_,r0⟩:=(jZ Tryz.underlying2) H enc w m _ _ (f0.trans (List.getElem?_eq_getElem (by rw[hxl];decide)))
 have q1:Tryz.prog.cellsOf 2=1:=by kernel_rfl
 have f1:DataW.trod enc Tryz.prog w 0 (fun _=>true) true m 2 ((cs.drop 1).take (Tryz.prog.cellsOf 2))=xs[1]? :=hf 1 _ rfl
 rw[q1]at f1
 obtain⟨a1,k1,_,r1⟩:=(jZ Tryz.underlying2) H enc w m _ _ (f1.trans (List.getElem?_eq_getElem (by rw[hxl];decide)))
 have q2:Tryz.prog.cellsOf 9=1:=by kernel_rfl
 have f2:DataW.trod enc Tryz.prog w 0 (fun _=>true) true m 9 ((cs.drop 2).take (Tryz.prog.cellsOf 9))=xs[2]? :=hf 2 _ rfl
 rw[q2]at f2
 obtain⟨a2,k2,_,r2⟩:=(gB Tryz.underlying9) H enc w m _ _ (f2.trans (List.getElem?_eq_getElem (by rw[hxl];decide)))
 have q3:Tryz.prog.cellsOf 9=1:=by kernel_rfl
 have f3:DataW.trod enc Tryz.prog w 0 (fun _=>true) true m 9 ((cs.drop 3).take (Tryz.prog.cellsOf 9))=xs[3]? :=hf 3 _ rfl
 rw[q3]at f3
 obtain⟨a3,k3,_,r3⟩:=(gB Tryz.underlying9) H enc w m _ _ (f3.trans (List.getElem?_eq_getElem (by rw[hxl];decide)))
 have q4:Tryz.prog.cellsOf 9=1:=by kernel_rfl
 have f4:DataW.trod enc Tryz.prog w 0 (fun _=>true) true m 9 ((cs.drop 4).take (Tryz.prog.cellsOf 9))=xs[4]? :=hf 4 _ rfl
 rw[q4]at f4
 obtain⟨a4,k4,_,r4⟩:=(gB Tryz.underlying9) H enc w m _ _ (f4.trans (List.getElem?_eq_getElem (by rw[hxl];decide)))
 have q5:Tryz.prog.cellsOf 9=1:=by kernel_rfl
 have f5:DataW.trod enc Tryz.prog w 0 (fun _=>true) true m 9 ((cs.drop 5).take (Tryz.prog.cellsOf 9))=xs[5]? :=hf 5 _ rfl
 rw[q5]at f5
 obtain⟨a5,k5,_,r5⟩:=(gB Tryz.underlying9) H enc w m _ _ (f5.trans (List.getElem?_eq_getElem (by rw[hxl];decide)))
 exact⟨⟨a0,a1,a2,a3,a4,a5⟩,⟨k0,k1,k2,k3,k4,k5⟩,by rw[hl];rfl,(bG (off:=0) 1 rfl r0 (bG 1 rfl r1 (bG 1 rfl r2 (bG 1 rfl r3 (bG 1 rfl r4 (bG 1 rfl r5 jf))))))⟩
set_option maxRecDepth 100000 in
theorem kg(os:Os)(started:os.Started)(H:Type)(enc:TypeId×Value→H):
  ReturnsInHanded {} Tryz.checked os 6 .any (fun w args=>(Rows.fnExactApplyChangesSpec.pre enc Tryz.prog Tryz.f6 [] false w args∧laidMetH Tryz.prog Rows.fnExactApplyChangesRow.laid w)∧sizedMet enc Tryz.prog Tryz.f6 (OpenSpec.ofChange Rows.fnExactApplyChangesSpec) false w args) (Rows.fnExactApplyChangesSpec.post enc Tryz.prog Tryz.f6 false true false false):=by
 refine returnsInHanded_of_change_and (C:=Tryz.checked) (X:=fun w _=>laidMetH Tryz.prog Rows.fnExactApplyChangesRow.laid w) (fun _ _ _ hh h=>h.of_heap hh) own started (by kernel_rfl) Tryz.func6
  (ChangeSpec.witness_shaped (enc:=enc) (C:=Tryz.checked) (os:=os) (X:=fun w _=>laidMetH Tryz.prog Rows.fnExactApplyChangesRow.laid w) false (World.laidAll Tryz.prog os Rows.fnExactApplyChangesRow.laid) #[.agg #[.slice none 0 0,.slice none 0 0],.slice none 0 0] 8 (World.laidAll_os _ _ _)
   (World.shaped_of_ZipB (by kernel_rfl) (by kernel_rfl)) (by kernel_rfl) (by kernel_rfl) (by kernel_rfl)
   (by rw[MakeChecks.laidMetH_plain _ _ _ (by kernel_rfl)];exact laidMet_laidAll _ (by kernel_rfl) (by kernel_rfl))) ?_
 intro W base args ds gs before hval0 hW _ _ _ _
 have hval: ∀(j:Nat) t v,Tryz.f6.params[j]? =some t→args[j]? =some v→Value.okWide Tryz.prog W .any base t v:=hval0
 have hW':=hW
 obtain⟨p,q,hA0,hV,hbef,hfz,hnd⟩:=hW
 have hA:DataW.TrodAll enc Tryz.prog W 0 (fun _=>true) true Tryz.f6.params.toList args.toList ds p:=hA0
 have hA1:=hA
 rw[Tryz.params6]at hA1 hval
 clear hA0 hval0
 have hts: ∀t∈Tryz.f6.params.toList,Tryz.prog.readableRec t=true∧t<Tryz.prog.types.size:=by
  rw[Tryz.params6]
  intro t ht
  have h:(#[25,55]:Array TypeId).toList.all (fun t=>Tryz.prog.readableRec t&&decide (t<Tryz.prog.types.size))=true:=by kernel_rfl
  have h2:=List.all_eq_true.1 h t ht
  simpa using h2
 obtain⟨v0,vs0,d0,ds0,p0,q0,hargs,rfl,rfl,h0,r0⟩:=trodAll_cons hA1
 obtain⟨v1,vs1,d1,ds1,p1,q1,rfl,rfl,rfl,h1,r1⟩:=trodAll_cons r0
 obtain⟨rfl,rfl,rfl⟩:=trodAll_nil r1
 obtain rfl:args= #[v0,v1]:=by cases args;simp_all
 obtain⟨rfl,rfl⟩:=trodVars_none hV
 obtain⟨b0,rfl,_⟩:=okWide_struct Tryz.underlying25 (hval 0 25 v0 rfl rfl)
 obtain⟨fuel0,g0⟩:=h0
 obtain⟨a0,k0,l0,s0⟩:=rH H enc W fuel0 _ _ g0
 obtain⟨A1,n1,c1,rfl⟩:=okWide_slice Tryz.underlying55 (hval 1 55 v1 rfl rfl)
 obtain⟨fuel1,g1⟩:=h1
 obtain⟨a1,k1,_,s1⟩:=(kJ (m:=6) Tryz.underlying55 (by kernel_rfl) (by decide) (fun _=>rfl) qk) H enc W fuel1 _ _ g1
 replace s1:=s1 0 _ _ rfl rfl
 refine(yP (ins:=[.agg ((aH a0).map .tr),.tr (.sl a1.length (a1.map ak))]) (vs:=[.agg b0,.slice A1 n1 c1]) (jH a0 a1 true (kP a0 a1 k0 k1)) rfl (td (Cj l0 s0) (td (.tr _ _ s1) Ak))).mono fun e W' ⟨he,hb⟩=> ?_
 subst he
 exact⟨_,rfl,zW hW' laidOut hts hA rfl hbef hb rfl Tryz.underlying4 rfl rfl rfl (fun _ _=>rfl)⟩
end Sh
theorem kA:Rows.FnExactApplyChangesSaid:=
 OpenClaim.holds_of_wide 6 Tryz.f6 rfl rfl rfl rfl rfl rfl rfl ⟨rfl,rfl,rfl,rfl,rfl⟩ rfl rfl rfl rfl rfl (by kernel_rfl) Tryz.func6 (by kernel_rfl)
  (of_decide_eq_true (by kernel_rfl)) (by unfold Func.isWrapper;rw[if_neg (of_decide_eq_false (by kernel_rfl))];exact⟨rfl,rfl⟩)
  (fun os started H enc _=>Sh.kg os started H enc)
theorem fnExactApplyChanges_card:Rows.FnExactApplyChangesCardSaid:=
 Claim7.holds_tied_plain_at .later [] [.data,.pinned] true (true,"c127e06505f4effcc2a10753bab3c882dc9f6caef53b34b2e926115e1925ceb2") false kA (fun _ h=>by cases h) (by kernel_rfl) (fun _ h=>by cases h) fnExactApplyChanges_row_tie rfl ⟨rfl,rfl⟩ (by kernel_rfl) rfl
  (fun f fn hf hfn=>by
   obtain rfl:f=6:=Option.some.inj ((show Tryz.prog.funcNamed Rows.fnExactApplyChangesRow.func=some 6 by kernel_rfl).symm.trans hf) |>.symm
   obtain rfl:fn=Tryz.f6:=(Option.some.inj (Tryz.func6.symm.trans hfn)).symm
   exact⟨by kernel_rfl,fun j t ht=>by
    rw[Tryz.params6]at ht
    have hm:t∈[25,55]:=by simpa using Array.mem_of_getElem? ht
    have hall:([25,55].all fun u=> !Tryz.prog.wantsStandIn u)=true:=by kernel_rfl
    exact(show Tryz.prog.wantsStandIn t=false by simpa using List.all_eq_true.1 hall t hm)⟩)
  (by kernel_rfl)
end Go.Proofs.YtdejeagdkfokfaaGreatDoor
