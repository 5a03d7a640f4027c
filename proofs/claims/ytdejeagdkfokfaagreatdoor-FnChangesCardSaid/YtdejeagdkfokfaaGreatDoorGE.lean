/- Typed functions and the calls that do what they say. -/
import Derived.Test.YtdejeagdkfokfaaGreatDoorSE
import Derived.Test.YtdejeagdkfokfaaGreatDoorKA
import Derived.Test.YtdejeagdkfokfaaGreatDoorKC
import Derived.Test.YtdejeagdkfokfaaGreatDoorKD
import Derived.Test.YtdejeagdkfokfaaGreatDoorKO
import Derived.Test.YtdejeagdkfokfaaGreatDoorKS
import Derived.Test.YtdejeagdkfokfaaGreatDoorSN
import Derived.Test.YtdejeagdkfokfaaGreatDoorSW
import Derived.Test.YtdejeagdkfokfaaGreatDoorSX
import Derived.Test.YtdejeagdkfokfaaGreatDoorH1
import Derived.Test.YtdejeagdkfokfaaGreatDoorGA
import Derived.Test.YtdejeagdkfokfaaGreatDoorGD
namespace Go.Proofs.YtdejeagdkfokfaaGreatDoor.Sh
open Go.RowKit
set_option maxRecDepth 100000
set_option maxHeartbeats 4000000
def zT:TI:=⟨1,24,.slice 37,[.sl ([]:List Change).length (([]:List Change).map aF)]⟩
def FK:TI:=⟨1,24,.slice 27,[.sl ([]:List Change).length (([]:List Change).map aF)]⟩
def Fv:Tb:=[(2,ti2),(3,ti3),(4,ti4),(9,et),(22,EN),(23,EO),(25,EP),(27,EQ),(32,bR),(33,eo),(35,iE),(37,va),(48,zT),(55,FK),(83,DB),(85,ew),(89,eb),(91,bG),(97,ER),(98,ES),(100,BB),(103,BC),(169,dg),(190,BD)]
theorem bK:ba Tryz.prog Fv:=ba.cons ⟨by kernel_rfl,show Tryz.prog.underlying 2=some (.int .i64)from by kernel_rfl⟩ (ba.cons ⟨by kernel_rfl,show Tryz.prog.underlying 3=some (.int .i64)from by kernel_rfl⟩ (ba.cons ⟨by kernel_rfl,show Tryz.prog.underlying 4=some (.bool)from by kernel_rfl⟩ (ba.cons ⟨by kernel_rfl,show Tryz.prog.underlying 9=some (.string)from by kernel_rfl⟩ (ba.cons ⟨by kernel_rfl,show Tryz.prog.underlying 22=some (.slice 100)from by kernel_rfl⟩ (ba.cons ⟨by kernel_rfl,show Tryz.prog.underlying 23=some (.slice 103)from by kernel_rfl⟩ (ba.cons ⟨by kernel_rfl,show structOf Tryz.prog 25=some [(0,22),(1,23)]from by kernel_rfl⟩ (ba.cons ⟨by kernel_rfl,show structOf Tryz.prog 27=some [(0,2),(1,2),(2,9),(3,9),(4,9),(5,9)]from by kernel_rfl⟩ (ba.cons ⟨by kernel_rfl,show Tryz.prog.underlying 32=some (.slice 91)from by kernel_rfl⟩ (ba.cons ⟨by kernel_rfl,show Tryz.prog.underlying 33=some (.slice 85)from by kernel_rfl⟩ (ba.cons ⟨by kernel_rfl,show structOf Tryz.prog 35=some [(0,32),(1,33)]from by kernel_rfl⟩ (ba.cons ⟨by kernel_rfl,show structOf Tryz.prog 37=some [(0,2),(1,2),(2,9),(3,9),(4,9),(5,9)]from by kernel_rfl⟩ (ba.cons ⟨by kernel_rfl,show Tryz.prog.underlying 48=some (.slice 37)from by kernel_rfl⟩ (ba.cons ⟨by kernel_rfl,show Tryz.prog.underlying 55=some (.slice 27)from by kernel_rfl⟩ (ba.cons ⟨by kernel_rfl,show structOf Tryz.prog 83=some [(0,2),(1,2)]from by kernel_rfl⟩ (ba.cons ⟨by kernel_rfl,show structOf Tryz.prog 85=some [(0,9),(1,9),(2,83)]from by kernel_rfl⟩ (ba.cons ⟨by kernel_rfl,show Tryz.prog.underlying 89=some (.slice 169)from by kernel_rfl⟩ (ba.cons ⟨by kernel_rfl,show structOf Tryz.prog 91=some [(0,9),(1,2),(2,83),(4,89)]from by kernel_rfl⟩ (ba.cons ⟨by kernel_rfl,show structOf Tryz.prog 97=some [(0,2),(1,2)]from by kernel_rfl⟩ (ba.cons ⟨by kernel_rfl,show Tryz.prog.underlying 98=some (.slice 190)from by kernel_rfl⟩ (ba.cons ⟨by kernel_rfl,show structOf Tryz.prog 100=some [(0,9),(1,2),(2,97),(4,98)]from by kernel_rfl⟩ (ba.cons ⟨by kernel_rfl,show structOf Tryz.prog 103=some [(0,9),(1,9),(2,97)]from by kernel_rfl⟩ (ba.cons ⟨by kernel_rfl,show structOf Tryz.prog 169=some [(0,9),(1,9),(2,2),(3,83)]from by kernel_rfl⟩ (ba.cons ⟨by kernel_rfl,show structOf Tryz.prog 190=some [(0,9),(1,9),(2,2),(3,97)]from by kernel_rfl⟩ (ba.nil _))))))))))))))))))))))))
noncomputable def eT(aW:World)(af:(List Change)):Option (World×Int×Int):=
 ((fT aW).bind fun x1=>(bif(!x1)then some ((World.mk ([]:List Place) ([]:List ay)),0,1)else(bif(decide ((af.length:Int)>12))then some ((World.mk ([]:List Place) ([]:List ay)),0,3)else(((dt (af.length:Int) (fun(i4:Int) (s4:World×World)=>((at' af i4).bind fun x8=>((cz s4.1 x8).bind fun x9=>(bif(x9.2 !=0)then((dS s4.1).bind fun x10=>some (.inr (.inr (x10,i4,x9.2))))else some (.inl (x9.1,s4.2)))))) (fun(s4:World×World)=>(.inl (s4.1,s4.2))) 0 (aW,(World.mk ([]:List Place) ([]:List ay))))).bind (Sum.elim (fun(j2:World×World)=>((dS j2.1).bind fun x11=>some (x11,(af.length:Int),0))) some)))))
theorem m7(aW:World)(af:(List Change))(r:World×Int×Int)(h:eT aW af=some r):aR Tryz.prog 22 [.v (.agg (tc aQ aW)),.v (vl aF af)] ⟨[.v (.agg (tc aQ r.1)),.v (vi r.2.1),.v (vi r.2.2)],[],true⟩:=by
 refine au Tryz.func22 rfl [(.cell 4 35),(.tmp 5),(.tmp 6)] rfl (fun r=>⟨[.v (.agg (tc aQ r.1)),.v (vi r.2.1),.v (vi r.2.2)],[],true⟩) (r:=r) ?_
 unfold eT at h
 refine aJ bK [1,2,4] [2,4] ?_
 refine ae ?_
 refine sr ?_
 refine aa.cl bK 1 [1,2,4,10] [2,4] ?_
 obtain⟨x1,hx1,h⟩:=bind_some h
 refine aa.ls (xc w7 (jR aW _ hx1)) ?_
 refine bO bK 1 [1,2,4,12] [2,4] ?_
 refine aq h (fun h=> ?_) fun h=> ?_
 refine sr ?_
 refine aa.ls (aZ (v:= .agg [vl ad ([]:List Place),vl aj ([]:List ay)]) bK rfl) ?_
 refine bO bK 3 [4,5,6] [4] ?_
 refine ah ?_
 obtain rfl:=inj h
 exact cY (aO (C7 (by kernel_rfl) (kq rfl (cA bK (d:=4) (cs:=[vl ad ([]:List Place),vl aj ([]:List ay)]) (ti:=iE) (by kernel_rfl) (by kernel_rfl) (by kernel_rfl) (by kernel_rfl))) ft ft))
 refine ai ?_
 refine bq ?_
 refine ae ?_
 refine aJ bK [1,2,4,16] [2,4] ?_
 refine aq h (fun h=> ?_) fun h=> ?_
 refine sr ?_
 refine aa.ls (aZ (v:= .agg [vl ad ([]:List Place),vl aj ([]:List ay)]) bK rfl) ?_
 refine bO bK 3 [4,5,6] [4] ?_
 refine ah ?_
 obtain rfl:=inj h
 exact cY (aO (C7 (by kernel_rfl) (kq rfl (cA bK (d:=4) (cs:=[vl ad ([]:List Place),vl aj ([]:List ay)]) (ti:=iE) (by kernel_rfl) (by kernel_rfl) (by kernel_rfl) (by kernel_rfl))) ft ft))
 refine ai ?_
 refine bq ?_
 refine ae ?_
 refine aJ bK [1,2,4,7] [2,4] ?_
 refine bp (r:=r) h (fun j2=>⟨44,[(1,vl aF af),(2,.ref 2 0),(4,.ref 4 0)],[(2,.box (tc aQ j2.1)),(4,.box (tc aQ j2.2))]⟩) (fun v3 h=> ?_) (fun j2 h=> ?_)
 refine ax (a:=v3) ?_
 refine bc (r:=v3) (s:=(0,aW,(World.mk ([]:List Place) ([]:List ay)))) _ (fun s4=>⟨44,[(1,vl aF af),(2,.ref 2 0),(4,.ref 4 0),(7,vi s4.1)],[(2,.box (tc aQ s4.2.1)),(4,.box (tc aQ s4.2.2))]⟩) _ (Le.an) h (fun s4 v5 h=> ?_)
 refine ae ?_
 refine aJ bK [1,2,4,7,21] [2,4] ?_
 refine aq h (fun h=> ?_) fun h=> ?_
 refine ai ?_
 refine bq ?_
 refine ae ?_
 refine bD (r:=v5) h (fun j6=>⟨44,[(1,vl aF af),(2,.ref 2 0),(4,.ref 4 0),(7,vi s4.1)],[(2,.box (tc aQ j6.1)),(4,.box (tc aQ j6.2))]⟩) (fun v7 h=> ?_) (fun j6 h=> ?_)
 refine ax (a:=v7) ?_
 refine ae ?_
 refine cV mixed ?_
 refine aH.cl bK false 3 [1,2,4,7,25,26,27] [2,4] ?_
 obtain⟨x8,hx8,h⟩:=bind_some h
 refine aH.step (aY (L:=af) (f:=aF) (ti:=zT) (tj:=va) (e:=37) (k:= .i64) bK rfl hx8) ?_
 refine aH.cl bK false 1 [1,2,4,7,25,29] [2,4] ?_
 obtain⟨x9,hx9,h⟩:=bind_some h
 refine aH.step (xc w8 (jD s4.2.1 x8 _ hx9)) ?_
 refine aH.cl bK false 4 [1,2,4,7,8,31,32] [2,4,8] ?_
 refine aH.vh [8] (pT (d:=8) (k:=0) (ti:=iE) (cs:=[vl ad ([]:List Place),vl aj ([]:List ay)]) (vs:=[vl ad x9.1.Places,vl aj x9.1.Links]) (v:= .agg (tc aQ x9.1)) bK rfl rfl) ?_
 refine aH.cl bK false 1 [1,2,4,7,8,9] [2,4,8] ?_
 refine aH.nx ?_
 refine ae ?_
 refine aJ bK [1,2,4,7,8,9,34] [2,4,8] ?_
 refine aq h (fun h=> ?_) fun h=> ?_
 refine sr ?_
 refine aa.cl bK 1 [4,7,9,35] [4] ?_
 obtain⟨x10,hx10,h⟩:=bind_some h
 refine aa.ls (xc w9 (ky s4.2.1 _ hx10)) ?_
 refine bO bK 5 [4,5,6] [4] ?_
 refine ah ?_
 obtain rfl:=inj h
 exact cY (bE (bo (bo (bE (bo (aO (C7 (by kernel_rfl) (kq rfl (cA bK (d:=4) (cs:=[vl ad x10.Places,vl aj x10.Links]) (ti:=iE) (by kernel_rfl) (by kernel_rfl) (by kernel_rfl) (by kernel_rfl))) ft ft)))))))
 refine ai ?_
 refine bq ?_
 refine aD ?_
 refine aa.cl bK 2 [1,2,4,7] [2,4] ?_
 refine aa.nil ?_
 obtain rfl:=inj h
 exact bt (cn (Le.an))
 refine aD ?_
 refine aa.ck bK 3 ⟨44,[(1,vl aF af),(2,.ref 2 0),(4,.ref 4 0),(7,vi (bF (s4.1+1)))],[(2,.box (tc aQ j6.1)),(4,.box (tc aQ j6.2))]⟩ ?_
 refine aa.nil ?_
 obtain rfl:=inj h
 exact cn (Le.an)
 refine a6 ?_
 obtain rfl:=inj h
 exact cE (cG (cF (cn (Le.an))))
 refine sr ?_
 refine aa.cl bK 1 [1,4,40] [4] ?_
 obtain⟨x11,hx11,h⟩:=bind_some h
 refine aa.ls (xc w9 (ky j2.1 _ hx11)) ?_
 refine bO bK 5 [4,5,6] [4] ?_
 refine ah ?_
 obtain rfl:=inj h
 exact aO (C7 (by kernel_rfl) (kq rfl (cA bK (d:=4) (cs:=[vl ad x11.Places,vl aj x11.Links]) (ti:=iE) (by kernel_rfl) (by kernel_rfl) (by kernel_rfl) (by kernel_rfl))) ft ft)
theorem Eb:bg Tryz.prog 22:=az Tryz.func22 (by kernel_rfl) rfl
noncomputable def fR(af:(List Change)):Option (Int):=
 some (af.length:Int)
theorem mG(af:(List Change))(r:Int)(h:fR af=some r):aR Tryz.prog 51 [.v (vl aF af)] ⟨[.v (vi r)],[],false⟩:=by
 refine au Tryz.func51 rfl [(.tmp 2)] rfl (fun r=>⟨[.v (vi r)],[],false⟩) (r:=r) ?_
 unfold fR at h
 refine aJ bK [0] [] ?_
 refine aJ bK [2] [] ?_
 refine ah ?_
 obtain rfl:=inj h
 exact aO (f1 fv)
theorem Ef:bg Tryz.prog 51:=az Tryz.func51 (by kernel_rfl) rfl
noncomputable def ee(aW:World)(af:(List Change)):Option (World×Int×Int):=
 ((((dk aW).bind fun x3=>(bif(!x3)then some (.inr ((World.mk ([]:List Place) ([]:List ay)),0,1))else(bif(decide ((af.length:Int)>12))then some (.inr ((World.mk ([]:List Place) ([]:List ay)),0,3))else some (.inl (World.mk ([]:List Place) ([]:List ay))))))).bind (Sum.elim (fun(j1:World)=>((eK aW).bind fun x4=>(((dt (af.length:Int) (fun(i7:Int) (s7:World×(List ay)×(List Place))=>((at' af i7).bind fun x11=>((bs (World.mk s7.2.2 s7.2.1) x11).bind fun x12=>(bif(x12.2 !=0)then some (.inr (.inr ((World.mk s7.2.2 s7.2.1),i7,x12.2)))else some (.inl (s7.1,x12.1.Links,x12.1.Places)))))) (fun(s7:World×(List ay)×(List Place))=>(.inl (s7.1,s7.2.1,s7.2.2))) 0 (j1,x4.Links,x4.Places))).bind (Sum.elim (fun(j5:World×(List ay)×(List Place))=>((fR af).bind fun x13=>some ((World.mk j5.2.2 j5.2.1),x13,0))) some)))) some))
theorem l5(aW:World)(af:(List Change))(r:World×Int×Int)(h:ee aW af=some r):kQ Tryz.prog 21 [.agg (tc aQ aW),vl aF af] [] [(3000000,.deep 91 5 r.1.Places.length [.flat,.flat,.flat,.flat,(.sl 169 5 [.flat,.flat,.flat,.flat,.flat])] (r.1.Places.map ad)),(3000001,oa 85 4 aj r.1.Links)] [.agg [.own 3000000,.own 3000001],vi r.2.1,vi r.2.2]:=by
 refine kk Tryz.func21 rfl [(.cell 4 35),(.tmp 5),(.tmp 6)] rfl (fun r=>[(3000000,.deep 91 5 r.1.Places.length [.flat,.flat,.flat,.flat,(.sl 169 5 [.flat,.flat,.flat,.flat,.flat])] (r.1.Places.map ad)),(3000001,oa 85 4 aj r.1.Links)]) (fun r=>[.agg [.own 3000000,.own 3000001],vi r.2.1,vi r.2.2]) (r:=r) (c5 trivial (c5 (cN dj _) lx)) ?_
 unfold ee at h
 refine aJ bK [1,2,4] [2,4] ?_
 refine ae ?_
 refine bp (r:=r) h (fun j1=>⟨47,[(1,vl aF af),(2,.ref 2 0),(4,.ref 4 0)],[(2,.box (tc aQ aW)),(4,.box (tc aQ j1))]⟩) (fun v2 h=> ?_) (fun j1 h=> ?_)
 refine ax (a:=v2) ?_
 refine sr ?_
 refine aa.cl bK 1 [1,2,4,13] [2,4] ?_
 obtain⟨x3,hx3,h⟩:=bind_some h
 refine aa.ls (xc oC (dD aW _ hx3)) ?_
 refine bO bK 2 [1,2,4,12] [2,4] ?_
 refine aq h (fun h=> ?_) fun h=> ?_
 refine sr ?_
 refine aa.ls (lK (ti:=iE) (fs:=[(0,32),(1,33)]) (pl:=[(0,1),(1,1)]) (zs:=[.slice none 0 0,.slice none 0 0]) bK rfl) ?_
 refine ckn bK 3 ⟨47,[(4,.ref 4 0),(5,vi 0),(6,vi 1)],[(4,.box [.tr .nil,.tr .nil])]⟩ ?_
 refine cH (Le.nv (cs:=[.tr .nil,.tr .nil]) 4 0 3000000 (.deep 91 5 ([]:List Place).length [.flat,.flat,.flat,.flat,(.sl 169 5 [.flat,.flat,.flat,.flat,.flat])] (([]:List Place).map ad)) (.inr ⟨rfl,rfl⟩) rfl) ?_
 refine cH (Le.nv (ss:=[]) (cs:=[.own 3000000,.tr .nil]) 4 1 3000001 (oa 85 4 aj ([]:List ay)) (.inl rfl) rfl) ?_
 refine ah ?_
 obtain rfl:=inj h
 exact bE (bo (mO (fw bK)))
 refine aJ bK [1,2,4,17] [2,4] ?_
 refine aq h (fun h=> ?_) fun h=> ?_
 refine sr ?_
 refine aa.ls (lK (ti:=iE) (fs:=[(0,32),(1,33)]) (pl:=[(0,1),(1,1)]) (zs:=[.slice none 0 0,.slice none 0 0]) bK rfl) ?_
 refine ckn bK 3 ⟨47,[(4,.ref 4 0),(5,vi 0),(6,vi 3)],[(4,.box [.tr .nil,.tr .nil])]⟩ ?_
 refine cH (Le.nv (cs:=[.tr .nil,.tr .nil]) 4 0 3000000 (.deep 91 5 ([]:List Place).length [.flat,.flat,.flat,.flat,(.sl 169 5 [.flat,.flat,.flat,.flat,.flat])] (([]:List Place).map ad)) (.inr ⟨rfl,rfl⟩) rfl) ?_
 refine cH (Le.nv (ss:=[]) (cs:=[.own 3000000,.tr .nil]) 4 1 3000001 (oa 85 4 aj ([]:List ay)) (.inl rfl) rfl) ?_
 refine ah ?_
 obtain rfl:=inj h
 exact bE (bo (mO (fw bK)))
 refine ai ?_
 obtain rfl:=inj h
 exact bt (cn (Le.an))
 refine sr ?_
 refine aa.ck bK 1 ⟨47,[(1,vl aF af),(4,.ref 4 0),(22,.agg (tc aQ aW))],[(4,.box (tc aQ j1))]⟩ ?_
 obtain⟨x4,hx4,h⟩:=bind_some h
 refine aa.a7 (x_w [(3000000,45),(3000001,44)] [true] Az (kC aW _ hx4)) ?_
 refine bO bK 2 [1,4,7] [4,7,44,45] ?_
 refine ae ?_
 refine aJ bK [1,4,7,24,25,26] [4,7,44,45] ?_
 refine bp (r:=r) h (fun j5=>⟨47,[(1,vl aF af),(4,.ref 4 0),(7,.ref 7 0)],[(4,.box (tc aQ j5.1)),(7,.box [.own 45,.own 44]),(44,oa 85 4 aj j5.2.1),(45,.deep 91 5 j5.2.2.length [.flat,.flat,.flat,.flat,(.sl 169 5 [.flat,.flat,.flat,.flat,.flat])] (j5.2.2.map ad))]⟩) (fun v6 h=> ?_) (fun j5 h=> ?_)
 refine ax (a:=v6) ?_
 refine bc (r:=v6) (s:=(0,j1,x4.Links,x4.Places)) _ (fun s7=>⟨47,[(1,vl aF af),(4,.ref 4 0),(7,.ref 7 0),(24,vl aF af),(25,vi (af.length:Int)),(26,vi s7.1)],[(4,.box (tc aQ s7.2.1)),(7,.box [.own 45,.own 44]),(44,oa 85 4 aj s7.2.2.1),(45,.deep 91 5 s7.2.2.2.length [.flat,.flat,.flat,.flat,(.sl 169 5 [.flat,.flat,.flat,.flat,.flat])] (s7.2.2.2.map ad))]⟩) _ (Le.an) h (fun s7 v8 h=> ?_)
 refine aJ bK [1,4,7,24,25,26,27] [4,7,44,45] ?_
 refine ae ?_
 refine aq h (fun h=> ?_) fun h=> ?_
 refine ai ?_
 refine bq ?_
 refine ae ?_
 refine bD (r:=v8) h (fun j9=>⟨47,[(1,vl aF af),(4,.ref 4 0),(7,.ref 7 0),(24,vl aF af),(25,vi (af.length:Int)),(26,vi s7.1)],[(4,.box (tc aQ j9.1)),(7,.box [.own 45,.own 44]),(44,oa 85 4 aj j9.2.1),(45,.deep 91 5 j9.2.2.length [.flat,.flat,.flat,.flat,(.sl 169 5 [.flat,.flat,.flat,.flat,.flat])] (j9.2.2.map ad))]⟩) (fun v10 h=> ?_) (fun j9 h=> ?_)
 refine ax (a:=v10) ?_
 refine sr ?_
 refine aa.cl bK 1 [1,4,7,24,25,26,28] [4,7,44,45] ?_
 obtain⟨x11,hx11,h⟩:=bind_some h
 refine aa.ls (aY (L:=af) (f:=aF) (ti:=zT) (tj:=va) (e:=37) (k:= .i64) bK rfl hx11) ?_
 refine bO bK 4 [1,4,7,8,9,24,25,26] [4,7,9,44,45] ?_
 refine sr ?_
 refine aa.ck bK 2 ⟨47,[(1,vl aF af),(4,.ref 4 0),(7,.ref 7 0),(8,vi s7.1),(24,vl aF af),(25,vi (af.length:Int)),(26,vi s7.1),(32,.agg [.own 45,.own 44]),(33,.agg (tc aF x11))],[(4,.box (tc aQ s7.2.1)),(7,.box [.own 45,.own 44]),(44,oa 85 4 aj s7.2.2.1),(45,.deep 91 5 s7.2.2.2.length [.flat,.flat,.flat,.flat,(.sl 169 5 [.flat,.flat,.flat,.flat,.flat])] (s7.2.2.2.map ad))]⟩ ?_
 obtain⟨x12,hx12,h⟩:=bind_some h
 refine aa.a7 (x_w [(3000000,43),(3000001,42)] [true,true] w6 (fQ (World.mk s7.2.2.2 s7.2.2.1) x11 _ hx12)) ?_
 refine bO bK 6 [1,4,7,8,10,11,24,25,26] [4,7,10,42,43,44,45] ?_
 refine ae ?_
 refine aJ bK [1,4,7,8,10,11,24,25,26,38] [4,7,10,42,43,44,45] ?_
 refine aq h (fun h=> ?_) fun h=> ?_
 refine kM bK ⟨47,[(4,.ref 4 0),(5,vi s7.1),(6,vi x12.2)],[(4,.box [.own 45,.own 44]),(44,oa 85 4 aj s7.2.2.1),(45,.deep 91 5 s7.2.2.2.length [.flat,.flat,.flat,.flat,(.sl 169 5 [.flat,.flat,.flat,.flat,.flat])] (s7.2.2.2.map ad))]⟩ ?_
 refine cH (Le.tp 45 3000000) ?_
 refine cH (Le.tp 44 3000001) ?_
 refine ah ?_
 obtain rfl:=inj h
 exact cY (bE (bo (bo (bE (bo (mO (fw bK)))))))
 refine ai ?_
 refine bq ?_
 refine aD ?_
 refine aa.cl bK 2 [1,4,7,24,25,26] [4,7,42,43] ?_
 refine aa.nil ?_
 obtain rfl:=inj h
 exact bt (cn (Le.rr [4,7,42,43] [(43,45),(42,44)]))
 refine aD ?_
 refine aa.cl bK 2 [1,4,7,24,25,26] [4,7,44,45] ?_
 refine aa.nil ?_
 obtain rfl:=inj h
 exact cn (Le.an)
 refine a6 ?_
 obtain rfl:=inj h
 exact cE (cG (cF (cn (Le.an))))
 refine ae ?_
 refine cV mixed ?_
 refine aH.cl bK false 2 [4,44,45] [4,44,45] ?_
 obtain⟨x13,hx13,h⟩:=bind_some h
 refine aH.step (xc Ef (mG af _ hx13)) ?_
 refine aH.seq (by kernel_rfl) (by kernel_rfl) ?_
 refine ckn bK 3 ⟨47,[(4,.ref 4 0),(5,vi x13),(6,vi 0)],[(4,.box [.own 45,.own 44]),(44,oa 85 4 aj j5.2.1),(45,.deep 91 5 j5.2.2.length [.flat,.flat,.flat,.flat,(.sl 169 5 [.flat,.flat,.flat,.flat,.flat])] (j5.2.2.map ad))]⟩ ?_
 refine cH (Le.tp 45 3000000) ?_
 refine cH (Le.tp 44 3000001) ?_
 refine ah ?_
 obtain rfl:=inj h
 exact mO (fw bK)
theorem Ea:bg Tryz.prog 21:=az Tryz.func21 (by kernel_rfl) rfl
end Go.Proofs.YtdejeagdkfokfaaGreatDoor.Sh
