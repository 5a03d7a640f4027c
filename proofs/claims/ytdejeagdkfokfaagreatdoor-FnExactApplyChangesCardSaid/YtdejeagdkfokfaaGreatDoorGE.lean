/- Typed functions and the calls that do what they say. -/
import Derived.Test.YtdejeagdkfokfaaGreatDoorSE
import Derived.Test.YtdejeagdkfokfaaGreatDoorKA
import Derived.Test.YtdejeagdkfokfaaGreatDoorKC
import Derived.Test.YtdejeagdkfokfaaGreatDoorKD
import Derived.Test.YtdejeagdkfokfaaGreatDoorKO
import Derived.Test.YtdejeagdkfokfaaGreatDoorKS
import Derived.Test.YtdejeagdkfokfaaGreatDoorSN
import Derived.Test.YtdejeagdkfokfaaGreatDoorSW
import Derived.Test.YtdejeagdkfokfaaGreatDoorSX
import Derived.Test.YtdejeagdkfokfaaGreatDoorH1
import Derived.Test.YtdejeagdkfokfaaGreatDoorGA
import Derived.Test.YtdejeagdkfokfaaGreatDoorGD
namespace Go.Proofs.YtdejeagdkfokfaaGreatDoor.Sh
open Go.RowKit
set_option maxRecDepth 100000
set_option maxHeartbeats 4000000
def pD:TI:=⟨1,24,.slice 37,[.sl ([]:List Change).length (([]:List Change).map ak)]⟩
def DA:TI:=⟨1,24,.slice 27,[.sl ([]:List Change).length (([]:List Change).map ak)]⟩
def Ec:Tb:=[(2,ti2),(3,ti3),(4,ti4),(9,gl),(22,Ay),(23,Az),(25,Dz),(27,AA),(32,cP),(33,dq),(35,jA),(37,nb),(48,pD),(55,DA),(83,DB),(85,dr),(89,dh),(91,cm),(97,DC),(98,AB),(100,wj),(103,wk),(169,cK),(190,wl)]
theorem ao:a8 Tryz.prog Ec:=a8.cons ⟨by kernel_rfl,show Tryz.prog.underlying 2=some (.int .i64)from by kernel_rfl⟩ (a8.cons ⟨by kernel_rfl,show Tryz.prog.underlying 3=some (.int .i64)from by kernel_rfl⟩ (a8.cons ⟨by kernel_rfl,show Tryz.prog.underlying 4=some (.bool)from by kernel_rfl⟩ (a8.cons ⟨by kernel_rfl,show Tryz.prog.underlying 9=some (.string)from by kernel_rfl⟩ (a8.cons ⟨by kernel_rfl,show Tryz.prog.underlying 22=some (.slice 100)from by kernel_rfl⟩ (a8.cons ⟨by kernel_rfl,show Tryz.prog.underlying 23=some (.slice 103)from by kernel_rfl⟩ (a8.cons ⟨by kernel_rfl,show structOf Tryz.prog 25=some [(0,22),(1,23)]from by kernel_rfl⟩ (a8.cons ⟨by kernel_rfl,show structOf Tryz.prog 27=some [(0,2),(1,2),(2,9),(3,9),(4,9),(5,9)]from by kernel_rfl⟩ (a8.cons ⟨by kernel_rfl,show Tryz.prog.underlying 32=some (.slice 91)from by kernel_rfl⟩ (a8.cons ⟨by kernel_rfl,show Tryz.prog.underlying 33=some (.slice 85)from by kernel_rfl⟩ (a8.cons ⟨by kernel_rfl,show structOf Tryz.prog 35=some [(0,32),(1,33)]from by kernel_rfl⟩ (a8.cons ⟨by kernel_rfl,show structOf Tryz.prog 37=some [(0,2),(1,2),(2,9),(3,9),(4,9),(5,9)]from by kernel_rfl⟩ (a8.cons ⟨by kernel_rfl,show Tryz.prog.underlying 48=some (.slice 37)from by kernel_rfl⟩ (a8.cons ⟨by kernel_rfl,show Tryz.prog.underlying 55=some (.slice 27)from by kernel_rfl⟩ (a8.cons ⟨by kernel_rfl,show structOf Tryz.prog 83=some [(0,2),(1,2)]from by kernel_rfl⟩ (a8.cons ⟨by kernel_rfl,show structOf Tryz.prog 85=some [(0,9),(1,9),(2,83)]from by kernel_rfl⟩ (a8.cons ⟨by kernel_rfl,show Tryz.prog.underlying 89=some (.slice 169)from by kernel_rfl⟩ (a8.cons ⟨by kernel_rfl,show structOf Tryz.prog 91=some [(0,9),(1,2),(2,83),(4,89)]from by kernel_rfl⟩ (a8.cons ⟨by kernel_rfl,show structOf Tryz.prog 97=some [(0,2),(1,2)]from by kernel_rfl⟩ (a8.cons ⟨by kernel_rfl,show Tryz.prog.underlying 98=some (.slice 190)from by kernel_rfl⟩ (a8.cons ⟨by kernel_rfl,show structOf Tryz.prog 100=some [(0,9),(1,2),(2,97),(4,98)]from by kernel_rfl⟩ (a8.cons ⟨by kernel_rfl,show structOf Tryz.prog 103=some [(0,9),(1,9),(2,97)]from by kernel_rfl⟩ (a8.cons ⟨by kernel_rfl,show structOf Tryz.prog 169=some [(0,9),(1,9),(2,2),(3,83)]from by kernel_rfl⟩ (a8.cons ⟨by kernel_rfl,show structOf Tryz.prog 190=some [(0,9),(1,9),(2,2),(3,97)]from by kernel_rfl⟩ (a8.nil _))))))))))))))))))))))))
noncomputable def fX(aA:(List Change))(bF:Int):Option (Int):=
 (bif(decide ((aO (bF -(aA.length:Int)))<0))then some (-1)else(((cQ (aA.length:Int) (fun(i3:Int) (s3:Int)=>((at' aA i3).bind fun x7=>((fD x7 s3).bind fun x8=>(bif(decide (x8<0))then some (.inr (.inr (-1)))else some (.inl x8))))) (fun(s3:Int)=> .inl s3) 0 (aO (bF -(aA.length:Int))))).bind (Sum.elim (fun(j1:Int)=>some j1) some)))
theorem nG(aA:(List Change))(bF:Int)(r:Int)(h:fX aA bF=some r):aJ Tryz.prog 27 [.v (vl ak aA),.v (vi bF)] ⟨[.v (vi r)],[],false⟩:=by
 refine ap Tryz.func27 rfl [(.tmp 4)] rfl (fun r=>⟨[.v (vi r)],[],false⟩) (r:=r) ?_
 unfold fX at h
 refine az ao [0,1] [] ?_
 refine az ao [0,1] [] ?_
 refine ac ?_
 refine az ao [0,1,11] [] ?_
 refine ai h (fun h=> ?_) fun h=> ?_
 refine az ao [4] [] ?_
 refine ae ?_
 obtain rfl:=inj h
 exact bt (aD (f1 fv))
 refine ag ?_
 refine aZ ?_
 refine ac ?_
 refine az ao [0,1,5] [] ?_
 refine bi (r:=r) h (fun j1=>⟨27,[(1,vi j1)],[]⟩) (fun v2 h=> ?_) (fun j1 h=> ?_)
 refine aw (a:=v2) ?_
 refine a7 (r:=v2) (s:=(0,(aO (bF -(aA.length:Int))))) _ (fun s3=>⟨27,[(0,vl ak aA),(1,vi s3.2),(5,vi s3.1)],[]⟩) _ (Le.an) h (fun s3 v4 h=> ?_)
 refine ac ?_
 refine az ao [0,1,5,15] [] ?_
 refine ai h (fun h=> ?_) fun h=> ?_
 refine ag ?_
 refine aZ ?_
 refine ac ?_
 refine bp (r:=v4) h (fun j5=>⟨27,[(0,vl ak aA),(1,vi j5),(5,vi s3.1)],[]⟩) (fun v6 h=> ?_) (fun j5 h=> ?_)
 refine aw (a:=v6) ?_
 refine sr ?_
 refine ab.cl ao 2 [0,1,5,18,19] [] ?_
 obtain⟨x7,hx7,h⟩:=bind_some h
 refine ab.ls (aG (L:=aA) (f:=ak) (ti:=DA) (tj:=AA) (e:=27) (k:= .i64) ao rfl hx7) ?_
 refine ab.cl ao 2 [0,5,21,22] [] ?_
 obtain⟨x8,hx8,h⟩:=bind_some h
 refine ab.ls (xc DT (ox x7 s3.2 _ hx8)) ?_
 refine bQ ao 1 [0,1,5] [] ?_
 refine az ao [0,1,5,25] [] ?_
 refine ai h (fun h=> ?_) fun h=> ?_
 refine az ao [4] [] ?_
 refine ae ?_
 obtain rfl:=inj h
 exact bn (aU (aU (bn (aU (aD (f1 fv))))))
 refine ag ?_
 obtain rfl:=inj h
 exact bP (bZ (Le.an))
 refine aE ?_
 refine ab.cl ao 3 [0,1,5] [] ?_
 refine ab.nil ?_
 obtain rfl:=inj h
 exact bZ (Le.an)
 refine aQ ?_
 obtain rfl:=inj h
 exact cn (cr (cq (bZ (Le.an))))
 refine az ao [4] [] ?_
 refine ae ?_
 obtain rfl:=inj h
 exact aD (f1 fv)
theorem CM:bg Tryz.prog 27:=au Tryz.func27 (by kernel_rfl) rfl
noncomputable def dk(aA:(List Change)):Option ((List Change)):=
 ((lR (Change.mk 0 0 (ByteArray.mk #[]) (ByteArray.mk #[]) (ByteArray.mk #[]) (ByteArray.mk #[])) (aA.length:Int)).bind fun x1=>(((jq (aA.length:Int) (fun(i4:Int) (s4:(List Change))=>((at' aA i4).bind fun x8=>((fE x8).bind fun x9=>((at' s4 i4).bind fun _=>some (List.set s4 (Int.toNat i4) x9))))) (fun(s4:(List Change))=>s4) 0 x1)).bind fun(j2:(List Change))=>some j2))
theorem e9(aA:(List Change))(r:(List Change))(h:dk aA=some r):aJ Tryz.prog 28 [.v (vl ak aA)] ⟨[.own 37 6 r.length (r.map ak)],[],false⟩:=by
 refine ap Tryz.func28 rfl [(.tmp 2)] rfl (fun r=>⟨[.own 37 6 r.length (r.map ak)],[],false⟩) (r:=r) ?_
 unfold dk at h
 refine az ao [0] [] ?_
 refine sr ?_
 refine ab.cl ao 2 [0,6] [] ?_
 obtain⟨x1,hx1,h⟩:=bind_some h
 refine ab.ls (xy (z:=(Change.mk 0 0 (ByteArray.mk #[]) (ByteArray.mk #[]) (ByteArray.mk #[]) (ByteArray.mk #[]))) (f:=ak) (ti:=pD) (tj:=nb) (e:=37) (m:=6) (k:= .i64) (k':= .i64) hx1 ao rfl rfl (zs:=[.int .i64 0,.int .i64 0,.string (ByteArray.mk #[]),.string (ByteArray.mk #[]),.string (ByteArray.mk #[]),.string (ByteArray.mk #[])])) ?_
 refine bQ ao 1 [0,3] [7] ?_
 refine ac ?_
 refine az ao [0,3,4] [7] ?_
 refine ba h (fun j2=>⟨23,[(3,.own 3)],[(3,oa 37 6 ak j2)]⟩) (fun v3 h=> ?_) (fun j2 h=> ?_)
 refine aw (a:=v3) ?_
 refine a7 (r:=v3) (s:=(0,x1)) _ (fun s4=>⟨23,[(0,vl ak aA),(3,.own 3),(4,vi s4.1)],[(3,oa 37 6 ak s4.2)]⟩) _ (Le.rr [7] [(7,3)]) h (fun s4 v5 h=> ?_)
 refine ac ?_
 refine az ao [0,3,4,11] [3] ?_
 refine ai h (fun h=> ?_) fun h=> ?_
 refine ag ?_
 refine aZ ?_
 refine ac ?_
 refine ba h (fun j6=>⟨23,[(0,vl ak aA),(3,.own 3),(4,vi s4.1)],[(3,oa 37 6 ak j6)]⟩) (fun v7 h=> ?_) (fun j6 h=> ?_)
 refine aw (a:=v7) ?_
 refine aE ?_
 refine ab.cl ao 4 [0,3,4,14,15,16,17] [3] ?_
 obtain⟨x8,hx8,h⟩:=bind_some h
 refine ab.ls (aG (L:=aA) (f:=ak) (ti:=DA) (tj:=AA) (e:=27) (k:= .i64) ao rfl hx8) ?_
 refine ab.cl ao 1 [0,3,4,14,15,19] [3] ?_
 obtain⟨x9,hx9,h⟩:=bind_some h
 refine ab.ls (xc CJ (oz x8 _ hx9)) ?_
 obtain⟨x10,hx10,h⟩:=bind_some h
 refine ab.ls (bm (d:=3) (L:=s4.2) (f:=ak) (ti:=pD) (tj:=nb) (e:=37) (e':=37) (m:=6) (k:= .i64) ao rfl hx10) ?_
 refine ab.bs (bH (d:=3) (m:=6) (j:=0) (L:=s4.2) (f:=ak) (x:=x9) (z:=x10) (ti:=nb) (e:=37) (ts:=[.int .i64 x9.Year,.int .i64 x9.Kind,.str x9.Code,.str x9.Other,.str x9.Language,.str x9.Text]) (vs:=[vi x9.Year,vi x9.Kind,vs x9.Code,vs x9.Other,vs x9.Language,vs x9.Text]) (v:= .agg (tc ak x9)) ao rfl rfl hx10) ?_
 refine ab.nil ?_
 obtain rfl:=inj h
 exact bP (eW (Le.an))
 refine aE ?_
 refine ab.cl ao 3 [0,3,4] [3] ?_
 refine ab.nil ?_
 obtain rfl:=inj h
 exact bZ (Le.an)
 refine aQ ?_
 obtain rfl:=inj h
 exact cn (cr (cq (eW (Le.an))))
 refine az ao [2] [3] ?_
 refine ae ?_
 obtain rfl:=inj h
 exact aD (f1 (fo tz))
theorem tM:bg Tryz.prog 28:=au Tryz.func28 (by kernel_rfl) rfl
noncomputable def ed(aW:World)(ad:(List Change)):Option (World×Int×Int):=
 ((gC aW).bind fun x1=>(bif(!x1)then some ((World.mk ([]:List Place) ([]:List ax)),0,1)else(bif(decide ((ad.length:Int)>12))then some ((World.mk ([]:List Place) ([]:List ax)),0,3)else(((cQ (ad.length:Int) (fun(i4:Int) (s4:World×World)=>((at' ad i4).bind fun x8=>((cy s4.1 x8).bind fun x9=>(bif(x9.2 !=0)then((dM s4.1).bind fun x10=>some (.inr (.inr (x10,i4,x9.2))))else some (.inl (x9.1,s4.2)))))) (fun(s4:World×World)=>(.inl (s4.1,s4.2))) 0 (aW,(World.mk ([]:List Place) ([]:List ax))))).bind (Sum.elim (fun(j2:World×World)=>((dM j2.1).bind fun x11=>some (x11,(ad.length:Int),0))) some)))))
theorem l6(aW:World)(ad:(List Change))(r:World×Int×Int)(h:ed aW ad=some r):aJ Tryz.prog 22 [.v (.agg (tc aH aW)),.v (vl ak ad)] ⟨[.v (.agg (tc aH r.1)),.v (vi r.2.1),.v (vi r.2.2)],[],true⟩:=by
 refine ap Tryz.func22 rfl [(.cell 4 35),(.tmp 5),(.tmp 6)] rfl (fun r=>⟨[.v (.agg (tc aH r.1)),.v (vi r.2.1),.v (vi r.2.2)],[],true⟩) (r:=r) ?_
 unfold ed at h
 refine az ao [1,2,4] [2,4] ?_
 refine ac ?_
 refine sr ?_
 refine ab.cl ao 1 [1,2,4,10] [2,4] ?_
 obtain⟨x1,hx1,h⟩:=bind_some h
 refine ab.ls (xc zB (ln aW _ hx1)) ?_
 refine bQ ao 1 [1,2,4,12] [2,4] ?_
 refine ai h (fun h=> ?_) fun h=> ?_
 refine sr ?_
 refine ab.ls (br (v:= .agg [vl af ([]:List Place),vl ah ([]:List ax)]) ao rfl) ?_
 refine bQ ao 3 [4,5,6] [4] ?_
 refine ae ?_
 obtain rfl:=inj h
 exact bt (aD (BV (by kernel_rfl) (lC rfl (cT ao (d:=4) (cs:=[vl af ([]:List Place),vl ah ([]:List ax)]) (ti:=jA) (by kernel_rfl) (by kernel_rfl) (by kernel_rfl) (by kernel_rfl))) ft ft))
 refine ag ?_
 refine aZ ?_
 refine ac ?_
 refine az ao [1,2,4,16] [2,4] ?_
 refine ai h (fun h=> ?_) fun h=> ?_
 refine sr ?_
 refine ab.ls (br (v:= .agg [vl af ([]:List Place),vl ah ([]:List ax)]) ao rfl) ?_
 refine bQ ao 3 [4,5,6] [4] ?_
 refine ae ?_
 obtain rfl:=inj h
 exact bt (aD (BV (by kernel_rfl) (lC rfl (cT ao (d:=4) (cs:=[vl af ([]:List Place),vl ah ([]:List ax)]) (ti:=jA) (by kernel_rfl) (by kernel_rfl) (by kernel_rfl) (by kernel_rfl))) ft ft))
 refine ag ?_
 refine aZ ?_
 refine ac ?_
 refine az ao [1,2,4,7] [2,4] ?_
 refine bi (r:=r) h (fun j2=>⟨44,[(1,vl ak ad),(2,.ref 2 0),(4,.ref 4 0)],[(2,.box (tc aH j2.1)),(4,.box (tc aH j2.2))]⟩) (fun v3 h=> ?_) (fun j2 h=> ?_)
 refine aw (a:=v3) ?_
 refine a7 (r:=v3) (s:=(0,aW,(World.mk ([]:List Place) ([]:List ax)))) _ (fun s4=>⟨44,[(1,vl ak ad),(2,.ref 2 0),(4,.ref 4 0),(7,vi s4.1)],[(2,.box (tc aH s4.2.1)),(4,.box (tc aH s4.2.2))]⟩) _ (Le.an) h (fun s4 v5 h=> ?_)
 refine ac ?_
 refine az ao [1,2,4,7,21] [2,4] ?_
 refine ai h (fun h=> ?_) fun h=> ?_
 refine ag ?_
 refine aZ ?_
 refine ac ?_
 refine bp (r:=v5) h (fun j6=>⟨44,[(1,vl ak ad),(2,.ref 2 0),(4,.ref 4 0),(7,vi s4.1)],[(2,.box (tc aH j6.1)),(4,.box (tc aH j6.2))]⟩) (fun v7 h=> ?_) (fun j6 h=> ?_)
 refine aw (a:=v7) ?_
 refine ac ?_
 refine cO mixed ?_
 refine aY.cl ao false 3 [1,2,4,7,25,26,27] [2,4] ?_
 obtain⟨x8,hx8,h⟩:=bind_some h
 refine aY.step (aG (L:=ad) (f:=ak) (ti:=pD) (tj:=nb) (e:=37) (k:= .i64) ao rfl hx8) ?_
 refine aY.cl ao false 1 [1,2,4,7,25,29] [2,4] ?_
 obtain⟨x9,hx9,h⟩:=bind_some h
 refine aY.step (xc CR (oM s4.2.1 x8 _ hx9)) ?_
 refine aY.cl ao false 4 [1,2,4,7,8,31,32] [2,4,8] ?_
 refine aY.xu [8] (se (d:=8) (k:=0) (ti:=jA) (cs:=[vl af ([]:List Place),vl ah ([]:List ax)]) (vs:=[vl af x9.1.Places,vl ah x9.1.Links]) (v:= .agg (tc aH x9.1)) ao rfl rfl) ?_
 refine aY.cl ao false 1 [1,2,4,7,8,9] [2,4,8] ?_
 refine aY.nx ?_
 refine ac ?_
 refine az ao [1,2,4,7,8,9,34] [2,4,8] ?_
 refine ai h (fun h=> ?_) fun h=> ?_
 refine sr ?_
 refine ab.cl ao 1 [4,7,9,35] [4] ?_
 obtain⟨x10,hx10,h⟩:=bind_some h
 refine ab.ls (xc zF (lT s4.2.1 _ hx10)) ?_
 refine bQ ao 5 [4,5,6] [4] ?_
 refine ae ?_
 obtain rfl:=inj h
 exact bt (bn (aU (aU (bn (aU (aD (BV (by kernel_rfl) (lC rfl (cT ao (d:=4) (cs:=[vl af x10.Places,vl ah x10.Links]) (ti:=jA) (by kernel_rfl) (by kernel_rfl) (by kernel_rfl) (by kernel_rfl))) ft ft)))))))
 refine ag ?_
 refine aZ ?_
 refine aE ?_
 refine ab.cl ao 2 [1,2,4,7] [2,4] ?_
 refine ab.nil ?_
 obtain rfl:=inj h
 exact bP (bZ (Le.an))
 refine aE ?_
 refine ab.ck ao 3 ⟨44,[(1,vl ak ad),(2,.ref 2 0),(4,.ref 4 0),(7,vi (aO (s4.1+1)))],[(2,.box (tc aH j6.1)),(4,.box (tc aH j6.2))]⟩ ?_
 refine ab.nil ?_
 obtain rfl:=inj h
 exact bZ (Le.an)
 refine aQ ?_
 obtain rfl:=inj h
 exact cn (cr (cq (bZ (Le.an))))
 refine sr ?_
 refine ab.cl ao 1 [1,4,40] [4] ?_
 obtain⟨x11,hx11,h⟩:=bind_some h
 refine ab.ls (xc zF (lT j2.1 _ hx11)) ?_
 refine bQ ao 5 [4,5,6] [4] ?_
 refine ae ?_
 obtain rfl:=inj h
 exact aD (BV (by kernel_rfl) (lC rfl (cT ao (d:=4) (cs:=[vl af x11.Places,vl ah x11.Links]) (ti:=jA) (by kernel_rfl) (by kernel_rfl) (by kernel_rfl) (by kernel_rfl))) ft ft)
theorem CL:bg Tryz.prog 22:=au Tryz.func22 (by kernel_rfl) rfl
noncomputable def fC(aA:Change)(aB:Change):Option (Bool):=
 (bif(aA.Year !=aB.Year)then some false else(bif(aA.Kind !=aB.Kind)then some false else(bif(!(aA.Code.toList==aB.Code.toList))then some false else(bif(!(aA.Other.toList==aB.Other.toList))then some false else(bif(!(aA.Language.toList==aB.Language.toList))then some false else(bif(!(aA.Text.toList==aB.Text.toList))then some false else some true))))))
theorem ov(aA:Change)(aB:Change)(r:Bool)(h:fC aA aB=some r):aJ Tryz.prog 64 [.v (.agg (tc ak aA)),.v (.agg (tc ak aB))] ⟨[.v (vb r)],[],false⟩:=by
 refine ap Tryz.func64 rfl [(.tmp 4)] rfl (fun r=>⟨[.v (vb r)],[],false⟩) (r:=r) ?_
 unfold fC at h
 refine az ao [2,3] [2,3] ?_
 refine ac ?_
 refine az ao [2,3,9] [2,3] ?_
 refine ai h (fun h=> ?_) fun h=> ?_
 refine az ao [4] [] ?_
 refine ae ?_
 obtain rfl:=inj h
 exact bt (aD (f1 fv))
 refine ag ?_
 refine aZ ?_
 refine ac ?_
 refine az ao [2,3,14] [2,3] ?_
 refine ai h (fun h=> ?_) fun h=> ?_
 refine az ao [4] [] ?_
 refine ae ?_
 obtain rfl:=inj h
 exact bt (aD (f1 fv))
 refine ag ?_
 refine aZ ?_
 refine ac ?_
 refine az ao [2,3,19] [2,3] ?_
 refine ai h (fun h=> ?_) fun h=> ?_
 refine az ao [4] [] ?_
 refine ae ?_
 obtain rfl:=inj h
 exact bt (aD (f1 fv))
 refine ag ?_
 refine aZ ?_
 refine ac ?_
 refine az ao [2,3,24] [2,3] ?_
 refine ai h (fun h=> ?_) fun h=> ?_
 refine iy ao ⟨35,[(4,vb false)],[]⟩ ?_
 refine ae ?_
 obtain rfl:=inj h
 exact bt (aD (f1 fv))
 refine ag ?_
 refine aZ ?_
 refine ac ?_
 refine az ao [2,3,29] [2,3] ?_
 refine ai h (fun h=> ?_) fun h=> ?_
 refine az ao [4] [] ?_
 refine ae ?_
 obtain rfl:=inj h
 exact bt (aD (f1 fv))
 refine ag ?_
 refine aZ ?_
 refine ac ?_
 refine az ao [34] [] ?_
 refine ai h (fun h=> ?_) fun h=> ?_
 refine az ao [4] [] ?_
 refine ae ?_
 obtain rfl:=inj h
 exact bt (aD (f1 fv))
 refine ag ?_
 refine aZ ?_
 refine az ao [4] [] ?_
 refine ae ?_
 obtain rfl:=inj h
 exact aD (f1 fv)
theorem C4:bg Tryz.prog 64:=au Tryz.func64 (by kernel_rfl) rfl
noncomputable def fT(aA:(List Change))(aB:(List Change)):Option (Bool):=
 (bif((aA.length:Int) !=(aB.length:Int))then some false else(((cQ (aA.length:Int) (fun(i3:Int) (_:Unit)=>((at' aA i3).bind fun x7=>((at' aB i3).bind fun x8=>((fC x7 x8).bind fun x9=>(bif(!x9)then some (.inr (.inr false))else some (.inl ())))))) (fun(_:Unit)=> .inl ()) 0 ())).bind (Sum.elim (fun(_:Unit)=>some true) some)))
theorem nB(aA:(List Change))(aB:(List Change))(r:Bool)(h:fT aA aB=some r):aJ Tryz.prog 29 [.v (vl ak aA),.v (vl ak aB)] ⟨[.v (vb r)],[],false⟩:=by
 refine ap Tryz.func29 rfl [(.tmp 4)] rfl (fun r=>⟨[.v (vb r)],[],false⟩) (r:=r) ?_
 unfold fT at h
 refine az ao [0,1] [] ?_
 refine ac ?_
 refine az ao [0,1,10] [] ?_
 refine ai h (fun h=> ?_) fun h=> ?_
 refine az ao [4] [] ?_
 refine ae ?_
 obtain rfl:=inj h
 exact bt (aD (f1 fv))
 refine ag ?_
 refine aZ ?_
 refine ac ?_
 refine az ao [0,1,5] [] ?_
 refine bi (r:=r) h (fun j1=>⟨27,[],[]⟩) (fun v2 h=> ?_) (fun j1 h=> ?_)
 refine aw (a:=v2) ?_
 refine a7 (r:=v2) (s:=(0,())) _ (fun s3=>⟨27,[(0,vl ak aA),(1,vl ak aB),(5,vi s3.1)],[]⟩) _ (Le.an) h (fun s3 v4 h=> ?_)
 refine ac ?_
 refine az ao [0,1,5,14] [] ?_
 refine ai h (fun h=> ?_) fun h=> ?_
 refine ag ?_
 refine aZ ?_
 refine ac ?_
 refine bp (r:=v4) h (fun j5=>⟨27,[(0,vl ak aA),(1,vl ak aB),(5,vi s3.1)],[]⟩) (fun v6 h=> ?_) (fun j5 h=> ?_)
 refine aw (a:=v6) ?_
 refine ac ?_
 refine cO mixed ?_
 refine aY.cl ao false 2 [0,1,5,17,18] [] ?_
 obtain⟨x7,hx7,h⟩:=bind_some h
 refine aY.step (aG (L:=aA) (f:=ak) (ti:=pD) (tj:=nb) (e:=37) (k:= .i64) ao rfl hx7) ?_
 refine aY.cl ao false 3 [0,1,5,20,21,22] [] ?_
 obtain⟨x8,hx8,h⟩:=bind_some h
 refine aY.step (aG (L:=aB) (f:=ak) (ti:=pD) (tj:=nb) (e:=37) (k:= .i64) ao rfl hx8) ?_
 refine aY.cl ao false 1 [0,1,5,20,24] [] ?_
 obtain⟨x9,hx9,h⟩:=bind_some h
 refine aY.step (xc C4 (ov x7 x8 _ hx9)) ?_
 refine aY.cl ao false 1 [0,1,5,26] [] ?_
 refine aY.nx ?_
 refine ai h (fun h=> ?_) fun h=> ?_
 refine az ao [4] [] ?_
 refine ae ?_
 obtain rfl:=inj h
 exact bn (aU (aU (bn (aU (aD (f1 fv))))))
 refine ag ?_
 obtain rfl:=inj h
 exact bP (bZ (Le.an))
 refine aE ?_
 refine ab.cl ao 3 [0,1,5] [] ?_
 refine ab.nil ?_
 obtain rfl:=inj h
 exact bZ (Le.an)
 refine aQ ?_
 obtain rfl:=inj h
 exact cn (cr (cq (bZ (Le.an))))
 refine az ao [4] [] ?_
 refine ae ?_
 obtain rfl:=inj h
 exact aD (f1 fv)
theorem CN:bg Tryz.prog 29:=au Tryz.func29 (by kernel_rfl) rfl
noncomputable def eE(aA:(List Change))(aK:Int):Option (Int×(List Change)):=
 (((ny (fun(i3:Int) (s3:Int×(List Change))=>(decide (i3<(s3.2.length:Int)))) (fun(i3:Int) (s3:Int×(List Change))=>((at' s3.2 i3).bind fun x7=>((at' (List.set s3.2 (Int.toNat i3) (Change.mk s3.1 x7.Kind x7.Code x7.Other x7.Language x7.Text)) i3).bind fun x8=>((a6 (aO ((aO (s3.1+1))+1))).bind fun x9=>((at' (List.set (List.set s3.2 (Int.toNat i3) (Change.mk s3.1 x7.Kind x7.Code x7.Other x7.Language x7.Text)) (Int.toNat i3) (Change.mk x8.Year (aO (s3.1+1)) x8.Code x8.Other x8.Language x8.Text)) i3).bind fun x10=>((a6 (aO ((aO ((aO (s3.1+1))+1))+1))).bind fun x11=>((at' (List.set (List.set (List.set s3.2 (Int.toNat i3) (Change.mk s3.1 x7.Kind x7.Code x7.Other x7.Language x7.Text)) (Int.toNat i3) (Change.mk x8.Year (aO (s3.1+1)) x8.Code x8.Other x8.Language x8.Text)) (Int.toNat i3) (Change.mk x10.Year x10.Kind x9 x10.Other x10.Language x10.Text)) i3).bind fun x12=>((a6 (aO ((aO ((aO ((aO (s3.1+1))+1))+1))+1))).bind fun x13=>((at' (List.set (List.set (List.set (List.set s3.2 (Int.toNat i3) (Change.mk s3.1 x7.Kind x7.Code x7.Other x7.Language x7.Text)) (Int.toNat i3) (Change.mk x8.Year (aO (s3.1+1)) x8.Code x8.Other x8.Language x8.Text)) (Int.toNat i3) (Change.mk x10.Year x10.Kind x9 x10.Other x10.Language x10.Text)) (Int.toNat i3) (Change.mk x12.Year x12.Kind x12.Code x11 x12.Language x12.Text)) i3).bind fun x14=>((a6 (aO ((aO ((aO ((aO ((aO (s3.1+1))+1))+1))+1))+1))).bind fun x15=>((at' (List.set (List.set (List.set (List.set (List.set s3.2 (Int.toNat i3) (Change.mk s3.1 x7.Kind x7.Code x7.Other x7.Language x7.Text)) (Int.toNat i3) (Change.mk x8.Year (aO (s3.1+1)) x8.Code x8.Other x8.Language x8.Text)) (Int.toNat i3) (Change.mk x10.Year x10.Kind x9 x10.Other x10.Language x10.Text)) (Int.toNat i3) (Change.mk x12.Year x12.Kind x12.Code x11 x12.Language x12.Text)) (Int.toNat i3) (Change.mk x14.Year x14.Kind x14.Code x14.Other x13 x14.Text)) i3).bind fun x16=>some ((aO ((aO ((aO ((aO ((aO ((aO (s3.1+1))+1))+1))+1))+1))+1)),(List.set (List.set (List.set (List.set (List.set (List.set s3.2 (Int.toNat i3) (Change.mk s3.1 x7.Kind x7.Code x7.Other x7.Language x7.Text)) (Int.toNat i3) (Change.mk x8.Year (aO (s3.1+1)) x8.Code x8.Other x8.Language x8.Text)) (Int.toNat i3) (Change.mk x10.Year x10.Kind x9 x10.Other x10.Language x10.Text)) (Int.toNat i3) (Change.mk x12.Year x12.Kind x12.Code x11 x12.Language x12.Text)) (Int.toNat i3) (Change.mk x14.Year x14.Kind x14.Code x14.Other x13 x14.Text)) (Int.toNat i3) (Change.mk x16.Year x16.Kind x16.Code x16.Other x16.Language x15)))))))))))))) (fun(s3:Int×(List Change))=>(s3.1,s3.2)) 0 (aK,aA))).bind fun(j1:Int×(List Change))=>some (j1.1,j1.2))
theorem mu(aA:(List Change))(aK:Int)(r:Int×(List Change))(h:eE aA aK=some r):aJ Tryz.prog 30 [.o (oa 37 6 ak aA),.v (vi aK)] ⟨[.v (vi r.1)],[(0,oa 37 6 ak r.2)],false⟩:=by
 refine ap Tryz.func30 rfl [(.tmp 4)] rfl (fun r=>⟨[.v (vi r.1)],[(0,oa 37 6 ak r.2)],false⟩) (r:=r) ?_
 unfold eE at h
 refine az ao [0,1] [1000000] ?_
 refine ac ?_
 refine az ao [0,1,5] [1000000] ?_
 refine ba h (fun j1=>⟨59,[(1,vi j1.1)],[(1000000,oa 37 6 ak j1.2)]⟩) (fun v2 h=> ?_) (fun j1 h=> ?_)
 refine aw (a:=v2) ?_
 refine a7 (r:=v2) (s:=(0,aK,aA)) _ (fun s3=>⟨59,[(0,.own 1000000),(1,vi s3.2.1),(5,vi s3.1)],[(1000000,oa 37 6 ak s3.2.2)]⟩) _ (Le.an) h (fun s3 v4 h=> ?_)
 refine ac ?_
 refine az ao [0,1,5,9] [1000000] ?_
 refine ai h (fun h=> ?_) fun h=> ?_
 refine ag ?_
 refine aZ ?_
 refine ac ?_
 refine ba h (fun j5=>⟨59,[(0,.own 1000000),(1,vi j5.1),(5,vi s3.1)],[(1000000,oa 37 6 ak j5.2)]⟩) (fun v6 h=> ?_) (fun j5 h=> ?_)
 refine aw (a:=v6) ?_
 refine sr ?_
 refine ab.cl ao 3 [0,1,5,12,13,14] [1000000] ?_
 obtain⟨x7,hx7,h⟩:=bind_some h
 refine ab.ls (bm (d:=1000000) (L:=s3.2.2) (f:=ak) (ti:=pD) (tj:=nb) (e:=37) (e':=37) (m:=6) (k:= .i64) ao rfl hx7) ?_
 refine ab.cl ao 1 [0,1,5,14,16] [1000000] ?_
 refine ab.bs (bH (d:=1000000) (m:=6) (j:=0) (L:=s3.2.2) (f:=ak) (x:=(Change.mk s3.2.1 x7.Kind x7.Code x7.Other x7.Language x7.Text)) (z:=x7) (ti:=ti2) (e:=37) (ts:=[.int .i64 s3.2.1]) (vs:=[vi s3.2.1]) (v:=vi s3.2.1) ao rfl rfl hx7) ?_
 refine ab.nx ?_
 refine az ao [0,1,5] [1000000] ?_
 refine sr ?_
 refine ab.cl ao 3 [0,1,5,19,20,21] [1000000] ?_
 obtain⟨x8,hx8,h⟩:=bind_some h
 refine ab.ls (bm (d:=1000000) (L:=(List.set s3.2.2 (Int.toNat s3.1) (Change.mk s3.2.1 x7.Kind x7.Code x7.Other x7.Language x7.Text))) (f:=ak) (ti:=pD) (tj:=nb) (e:=37) (e':=37) (m:=6) (k:= .i64) ao rfl hx8) ?_
 refine ab.cl ao 1 [0,1,5,21,23] [1000000] ?_
 refine ab.bs (bH (d:=1000000) (m:=6) (j:=1) (L:=(List.set s3.2.2 (Int.toNat s3.1) (Change.mk s3.2.1 x7.Kind x7.Code x7.Other x7.Language x7.Text))) (f:=ak) (x:=(Change.mk x8.Year (aO (s3.2.1+1)) x8.Code x8.Other x8.Language x8.Text)) (z:=x8) (ti:=ti2) (e:=37) (ts:=[.int .i64 (aO (s3.2.1+1))]) (vs:=[vi (aO (s3.2.1+1))]) (v:=vi (aO (s3.2.1+1))) ao rfl rfl hx8) ?_
 refine ab.nx ?_
 refine az ao [0,1,5] [1000000] ?_
 refine sr ?_
 refine ab.cl ao 3 [0,1,5,26,27,28] [1000000] ?_
 obtain⟨x9,hx9,h⟩:=bind_some h
 refine ab.ls (xc iz (bx (aO ((aO (s3.2.1+1))+1)) _ hx9)) ?_
 obtain⟨x10,hx10,h⟩:=bind_some h
 refine ab.ls (bm (d:=1000000) (L:=(List.set (List.set s3.2.2 (Int.toNat s3.1) (Change.mk s3.2.1 x7.Kind x7.Code x7.Other x7.Language x7.Text)) (Int.toNat s3.1) (Change.mk x8.Year (aO (s3.2.1+1)) x8.Code x8.Other x8.Language x8.Text))) (f:=ak) (ti:=pD) (tj:=nb) (e:=37) (e':=37) (m:=6) (k:= .i64) ao rfl hx10) ?_
 refine ab.cl ao 1 [0,1,5,29,31] [1000000] ?_
 refine ab.bs (bH (d:=1000000) (m:=6) (j:=2) (L:=(List.set (List.set s3.2.2 (Int.toNat s3.1) (Change.mk s3.2.1 x7.Kind x7.Code x7.Other x7.Language x7.Text)) (Int.toNat s3.1) (Change.mk x8.Year (aO (s3.2.1+1)) x8.Code x8.Other x8.Language x8.Text))) (f:=ak) (x:=(Change.mk x10.Year x10.Kind x9 x10.Other x10.Language x10.Text)) (z:=x10) (ti:=gl) (e:=37) (ts:=[.str x9]) (vs:=[vs x9]) (v:=vs x9) ao rfl rfl hx10) ?_
 refine ab.nx ?_
 refine iy ao ⟨59,[(0,.own 1000000),(1,vi (aO ((aO ((aO (s3.2.1+1))+1))+1))),(5,vi s3.1)],[(1000000,oa 37 6 ak (List.set (List.set (List.set s3.2.2 (Int.toNat s3.1) (Change.mk s3.2.1 x7.Kind x7.Code x7.Other x7.Language x7.Text)) (Int.toNat s3.1) (Change.mk x8.Year (aO (s3.2.1+1)) x8.Code x8.Other x8.Language x8.Text)) (Int.toNat s3.1) (Change.mk x10.Year x10.Kind x9 x10.Other x10.Language x10.Text)))]⟩ ?_
 refine sr ?_
 refine ab.cl ao 3 [0,1,5,34,35,36] [1000000] ?_
 obtain⟨x11,hx11,h⟩:=bind_some h
 refine ab.ls (xc iz (bx (aO ((aO ((aO (s3.2.1+1))+1))+1)) _ hx11)) ?_
 obtain⟨x12,hx12,h⟩:=bind_some h
 refine ab.ls (bm (d:=1000000) (L:=(List.set (List.set (List.set s3.2.2 (Int.toNat s3.1) (Change.mk s3.2.1 x7.Kind x7.Code x7.Other x7.Language x7.Text)) (Int.toNat s3.1) (Change.mk x8.Year (aO (s3.2.1+1)) x8.Code x8.Other x8.Language x8.Text)) (Int.toNat s3.1) (Change.mk x10.Year x10.Kind x9 x10.Other x10.Language x10.Text))) (f:=ak) (ti:=pD) (tj:=nb) (e:=37) (e':=37) (m:=6) (k:= .i64) ao rfl hx12) ?_
 refine ab.cl ao 1 [0,1,5,37,39] [1000000] ?_
 refine ab.bs (bH (d:=1000000) (m:=6) (j:=3) (L:=(List.set (List.set (List.set s3.2.2 (Int.toNat s3.1) (Change.mk s3.2.1 x7.Kind x7.Code x7.Other x7.Language x7.Text)) (Int.toNat s3.1) (Change.mk x8.Year (aO (s3.2.1+1)) x8.Code x8.Other x8.Language x8.Text)) (Int.toNat s3.1) (Change.mk x10.Year x10.Kind x9 x10.Other x10.Language x10.Text))) (f:=ak) (x:=(Change.mk x12.Year x12.Kind x12.Code x11 x12.Language x12.Text)) (z:=x12) (ti:=gl) (e:=37) (ts:=[.str x11]) (vs:=[vs x11]) (v:=vs x11) ao rfl rfl hx12) ?_
 refine ab.nx ?_
 refine az ao [0,1,5] [1000000] ?_
 refine sr ?_
 refine ab.cl ao 3 [0,1,5,42,43,44] [1000000] ?_
 obtain⟨x13,hx13,h⟩:=bind_some h
 refine ab.ls (xc iz (bx (aO ((aO ((aO ((aO (s3.2.1+1))+1))+1))+1)) _ hx13)) ?_
 obtain⟨x14,hx14,h⟩:=bind_some h
 refine ab.ls (bm (d:=1000000) (L:=(List.set (List.set (List.set (List.set s3.2.2 (Int.toNat s3.1) (Change.mk s3.2.1 x7.Kind x7.Code x7.Other x7.Language x7.Text)) (Int.toNat s3.1) (Change.mk x8.Year (aO (s3.2.1+1)) x8.Code x8.Other x8.Language x8.Text)) (Int.toNat s3.1) (Change.mk x10.Year x10.Kind x9 x10.Other x10.Language x10.Text)) (Int.toNat s3.1) (Change.mk x12.Year x12.Kind x12.Code x11 x12.Language x12.Text))) (f:=ak) (ti:=pD) (tj:=nb) (e:=37) (e':=37) (m:=6) (k:= .i64) ao rfl hx14) ?_
 refine ab.cl ao 1 [0,1,5,45,47] [1000000] ?_
 refine ab.bs (bH (d:=1000000) (m:=6) (j:=4) (L:=(List.set (List.set (List.set (List.set s3.2.2 (Int.toNat s3.1) (Change.mk s3.2.1 x7.Kind x7.Code x7.Other x7.Language x7.Text)) (Int.toNat s3.1) (Change.mk x8.Year (aO (s3.2.1+1)) x8.Code x8.Other x8.Language x8.Text)) (Int.toNat s3.1) (Change.mk x10.Year x10.Kind x9 x10.Other x10.Language x10.Text)) (Int.toNat s3.1) (Change.mk x12.Year x12.Kind x12.Code x11 x12.Language x12.Text))) (f:=ak) (x:=(Change.mk x14.Year x14.Kind x14.Code x14.Other x13 x14.Text)) (z:=x14) (ti:=gl) (e:=37) (ts:=[.str x13]) (vs:=[vs x13]) (v:=vs x13) ao rfl rfl hx14) ?_
 refine ab.nx ?_
 refine az ao [0,1,5] [1000000] ?_
 refine sr ?_
 refine ab.cl ao 3 [0,1,5,50,51,52] [1000000] ?_
 obtain⟨x15,hx15,h⟩:=bind_some h
 refine ab.ls (xc iz (bx (aO ((aO ((aO ((aO ((aO (s3.2.1+1))+1))+1))+1))+1)) _ hx15)) ?_
 obtain⟨x16,hx16,h⟩:=bind_some h
 refine ab.ls (bm (d:=1000000) (L:=(List.set (List.set (List.set (List.set (List.set s3.2.2 (Int.toNat s3.1) (Change.mk s3.2.1 x7.Kind x7.Code x7.Other x7.Language x7.Text)) (Int.toNat s3.1) (Change.mk x8.Year (aO (s3.2.1+1)) x8.Code x8.Other x8.Language x8.Text)) (Int.toNat s3.1) (Change.mk x10.Year x10.Kind x9 x10.Other x10.Language x10.Text)) (Int.toNat s3.1) (Change.mk x12.Year x12.Kind x12.Code x11 x12.Language x12.Text)) (Int.toNat s3.1) (Change.mk x14.Year x14.Kind x14.Code x14.Other x13 x14.Text))) (f:=ak) (ti:=pD) (tj:=nb) (e:=37) (e':=37) (m:=6) (k:= .i64) ao rfl hx16) ?_
 refine ab.cl ao 1 [0,1,5,53,55] [1000000] ?_
 refine ab.bs (bH (d:=1000000) (m:=6) (j:=5) (L:=(List.set (List.set (List.set (List.set (List.set s3.2.2 (Int.toNat s3.1) (Change.mk s3.2.1 x7.Kind x7.Code x7.Other x7.Language x7.Text)) (Int.toNat s3.1) (Change.mk x8.Year (aO (s3.2.1+1)) x8.Code x8.Other x8.Language x8.Text)) (Int.toNat s3.1) (Change.mk x10.Year x10.Kind x9 x10.Other x10.Language x10.Text)) (Int.toNat s3.1) (Change.mk x12.Year x12.Kind x12.Code x11 x12.Language x12.Text)) (Int.toNat s3.1) (Change.mk x14.Year x14.Kind x14.Code x14.Other x13 x14.Text))) (f:=ak) (x:=(Change.mk x16.Year x16.Kind x16.Code x16.Other x16.Language x15)) (z:=x16) (ti:=gl) (e:=37) (ts:=[.str x15]) (vs:=[vs x15]) (v:=vs x15) ao rfl rfl hx16) ?_
 refine ab.nx ?_
 refine aE ?_
 refine ab.ck ao 3 ⟨59,[(0,.own 1000000),(1,vi (aO ((aO ((aO ((aO ((aO ((aO (s3.2.1+1))+1))+1))+1))+1))+1))),(5,vi s3.1)],[(1000000,oa 37 6 ak (List.set (List.set (List.set (List.set (List.set (List.set s3.2.2 (Int.toNat s3.1) (Change.mk s3.2.1 x7.Kind x7.Code x7.Other x7.Language x7.Text)) (Int.toNat s3.1) (Change.mk x8.Year (aO (s3.2.1+1)) x8.Code x8.Other x8.Language x8.Text)) (Int.toNat s3.1) (Change.mk x10.Year x10.Kind x9 x10.Other x10.Language x10.Text)) (Int.toNat s3.1) (Change.mk x12.Year x12.Kind x12.Code x11 x12.Language x12.Text)) (Int.toNat s3.1) (Change.mk x14.Year x14.Kind x14.Code x14.Other x13 x14.Text)) (Int.toNat s3.1) (Change.mk x16.Year x16.Kind x16.Code x16.Other x16.Language x15)))]⟩ ?_
 refine ab.nil ?_
 obtain rfl:=inj h
 exact bP (eW (Le.an))
 refine aE ?_
 refine ab.cl ao 3 [0,1,5] [1000000] ?_
 refine ab.nil ?_
 obtain rfl:=inj h
 exact bZ (Le.an)
 refine aQ ?_
 obtain rfl:=inj h
 exact cn (cr (cq (eW (Le.an))))
 refine az ao [4] [1000000] ?_
 refine ae ?_
 obtain rfl:=inj h
 exact aD (tW (f1 fv) (y:=oa 37 6 ak j1.2) (by kernel_rfl) rfl (by kernel_rfl) (by kernel_rfl))
theorem CO:bg Tryz.prog 30:=au Tryz.func30 (by kernel_rfl) rfl
noncomputable def e7(ad:(List Change)):Option (Int):=
 some (ad.length:Int)
theorem lJ(ad:(List Change))(r:Int)(h:e7 ad=some r):aJ Tryz.prog 51 [.v (vl ak ad)] ⟨[.v (vi r)],[],false⟩:=by
 refine ap Tryz.func51 rfl [(.tmp 2)] rfl (fun r=>⟨[.v (vi r)],[],false⟩) (r:=r) ?_
 unfold e7 at h
 refine az ao [0] [] ?_
 refine az ao [2] [] ?_
 refine ae ?_
 obtain rfl:=inj h
 exact aD (f1 fv)
theorem C1:bg Tryz.prog 51:=au Tryz.func51 (by kernel_rfl) rfl
noncomputable def c4(aW:World)(ad:(List Change)):Option (World×Int×Int):=
 ((((gp aW).bind fun x3=>(bif(!x3)then some (.inr ((World.mk ([]:List Place) ([]:List ax)),0,1))else(bif(decide ((ad.length:Int)>12))then some (.inr ((World.mk ([]:List Place) ([]:List ax)),0,3))else some (.inl (World.mk ([]:List Place) ([]:List ax))))))).bind (Sum.elim (fun(j1:World)=>((dw aW).bind fun x4=>(((cQ (ad.length:Int) (fun(i7:Int) (s7:World×(List ax)×(List Place))=>((at' ad i7).bind fun x11=>((bC (World.mk s7.2.2 s7.2.1) x11).bind fun x12=>(bif(x12.2 !=0)then some (.inr (.inr ((World.mk s7.2.2 s7.2.1),i7,x12.2)))else some (.inl (s7.1,x12.1.Links,x12.1.Places)))))) (fun(s7:World×(List ax)×(List Place))=>(.inl (s7.1,s7.2.1,s7.2.2))) 0 (j1,x4.Links,x4.Places))).bind (Sum.elim (fun(j5:World×(List ax)×(List Place))=>((e7 ad).bind fun x13=>some ((World.mk j5.2.2 j5.2.1),x13,0))) some)))) some))
theorem ig(aW:World)(ad:(List Change))(r:World×Int×Int)(h:c4 aW ad=some r):jm Tryz.prog 21 [.agg (tc aH aW),vl ak ad] [] [(3000000,.deep 91 5 r.1.Places.length [.flat,.flat,.flat,.flat,(.sl 169 5 [.flat,.flat,.flat,.flat,.flat])] (r.1.Places.map af)),(3000001,oa 85 4 ah r.1.Links)] [.agg [.own 3000000,.own 3000001],vi r.2.1,vi r.2.2]:=by
 refine gT Tryz.func21 rfl [(.cell 4 35),(.tmp 5),(.tmp 6)] rfl (fun r=>[(3000000,.deep 91 5 r.1.Places.length [.flat,.flat,.flat,.flat,(.sl 169 5 [.flat,.flat,.flat,.flat,.flat])] (r.1.Places.map af)),(3000001,oa 85 4 ah r.1.Links)]) (fun r=>[.agg [.own 3000000,.own 3000001],vi r.2.1,vi r.2.2]) (r:=r) (cf trivial (cf (cd c8 _) jj)) ?_
 unfold c4 at h
 refine az ao [1,2,4] [2,4] ?_
 refine ac ?_
 refine bi (r:=r) h (fun j1=>⟨47,[(1,vl ak ad),(2,.ref 2 0),(4,.ref 4 0)],[(2,.box (tc aH aW)),(4,.box (tc aH j1))]⟩) (fun v2 h=> ?_) (fun j1 h=> ?_)
 refine aw (a:=v2) ?_
 refine sr ?_
 refine ab.cl ao 1 [1,2,4,13] [2,4] ?_
 obtain⟨x3,hx3,h⟩:=bind_some h
 refine ab.ls (xc zA (la aW _ hx3)) ?_
 refine bQ ao 2 [1,2,4,12] [2,4] ?_
 refine ai h (fun h=> ?_) fun h=> ?_
 refine sr ?_
 refine ab.ls (kO (ti:=jA) (fs:=[(0,32),(1,33)]) (pl:=[(0,1),(1,1)]) (zs:=[.slice none 0 0,.slice none 0 0]) ao rfl) ?_
 refine ckn ao 3 ⟨47,[(4,.ref 4 0),(5,vi 0),(6,vi 1)],[(4,.box [.tr .nil,.tr .nil])]⟩ ?_
 refine cj (Le.mw (cs:=[.tr .nil,.tr .nil]) 4 0 3000000 (.deep 91 5 ([]:List Place).length [.flat,.flat,.flat,.flat,(.sl 169 5 [.flat,.flat,.flat,.flat,.flat])] (([]:List Place).map af)) (.inr ⟨rfl,rfl⟩) rfl) ?_
 refine cj (Le.mw (ss:=[]) (cs:=[.own 3000000,.tr .nil]) 4 1 3000001 (oa 85 4 ah ([]:List ax)) (.inl rfl) rfl) ?_
 refine ae ?_
 obtain rfl:=inj h
 exact bn (aU (kV (fw ao)))
 refine az ao [1,2,4,17] [2,4] ?_
 refine ai h (fun h=> ?_) fun h=> ?_
 refine sr ?_
 refine ab.ls (kO (ti:=jA) (fs:=[(0,32),(1,33)]) (pl:=[(0,1),(1,1)]) (zs:=[.slice none 0 0,.slice none 0 0]) ao rfl) ?_
 refine ckn ao 3 ⟨47,[(4,.ref 4 0),(5,vi 0),(6,vi 3)],[(4,.box [.tr .nil,.tr .nil])]⟩ ?_
 refine cj (Le.mw (cs:=[.tr .nil,.tr .nil]) 4 0 3000000 (.deep 91 5 ([]:List Place).length [.flat,.flat,.flat,.flat,(.sl 169 5 [.flat,.flat,.flat,.flat,.flat])] (([]:List Place).map af)) (.inr ⟨rfl,rfl⟩) rfl) ?_
 refine cj (Le.mw (ss:=[]) (cs:=[.own 3000000,.tr .nil]) 4 1 3000001 (oa 85 4 ah ([]:List ax)) (.inl rfl) rfl) ?_
 refine ae ?_
 obtain rfl:=inj h
 exact bn (aU (kV (fw ao)))
 refine ag ?_
 obtain rfl:=inj h
 exact bP (bZ (Le.an))
 refine sr ?_
 refine ab.ck ao 1 ⟨47,[(1,vl ak ad),(4,.ref 4 0),(22,.agg (tc aH aW))],[(4,.box (tc aH j1))]⟩ ?_
 obtain⟨x4,hx4,h⟩:=bind_some h
 refine ab.bs (x_w [(3000000,45),(3000001,44)] [true] zG (jO aW _ hx4)) ?_
 refine bQ ao 2 [1,4,7] [4,7,44,45] ?_
 refine ac ?_
 refine az ao [1,4,7,24,25,26] [4,7,44,45] ?_
 refine bi (r:=r) h (fun j5=>⟨47,[(1,vl ak ad),(4,.ref 4 0),(7,.ref 7 0)],[(4,.box (tc aH j5.1)),(7,.box [.own 45,.own 44]),(44,oa 85 4 ah j5.2.1),(45,.deep 91 5 j5.2.2.length [.flat,.flat,.flat,.flat,(.sl 169 5 [.flat,.flat,.flat,.flat,.flat])] (j5.2.2.map af))]⟩) (fun v6 h=> ?_) (fun j5 h=> ?_)
 refine aw (a:=v6) ?_
 refine a7 (r:=v6) (s:=(0,j1,x4.Links,x4.Places)) _ (fun s7=>⟨47,[(1,vl ak ad),(4,.ref 4 0),(7,.ref 7 0),(24,vl ak ad),(25,vi (ad.length:Int)),(26,vi s7.1)],[(4,.box (tc aH s7.2.1)),(7,.box [.own 45,.own 44]),(44,oa 85 4 ah s7.2.2.1),(45,.deep 91 5 s7.2.2.2.length [.flat,.flat,.flat,.flat,(.sl 169 5 [.flat,.flat,.flat,.flat,.flat])] (s7.2.2.2.map af))]⟩) _ (Le.an) h (fun s7 v8 h=> ?_)
 refine az ao [1,4,7,24,25,26,27] [4,7,44,45] ?_
 refine ac ?_
 refine ai h (fun h=> ?_) fun h=> ?_
 refine ag ?_
 refine aZ ?_
 refine ac ?_
 refine bp (r:=v8) h (fun j9=>⟨47,[(1,vl ak ad),(4,.ref 4 0),(7,.ref 7 0),(24,vl ak ad),(25,vi (ad.length:Int)),(26,vi s7.1)],[(4,.box (tc aH j9.1)),(7,.box [.own 45,.own 44]),(44,oa 85 4 ah j9.2.1),(45,.deep 91 5 j9.2.2.length [.flat,.flat,.flat,.flat,(.sl 169 5 [.flat,.flat,.flat,.flat,.flat])] (j9.2.2.map af))]⟩) (fun v10 h=> ?_) (fun j9 h=> ?_)
 refine aw (a:=v10) ?_
 refine sr ?_
 refine ab.cl ao 1 [1,4,7,24,25,26,28] [4,7,44,45] ?_
 obtain⟨x11,hx11,h⟩:=bind_some h
 refine ab.ls (aG (L:=ad) (f:=ak) (ti:=pD) (tj:=nb) (e:=37) (k:= .i64) ao rfl hx11) ?_
 refine bQ ao 4 [1,4,7,8,9,24,25,26] [4,7,9,44,45] ?_
 refine sr ?_
 refine ab.ck ao 2 ⟨47,[(1,vl ak ad),(4,.ref 4 0),(7,.ref 7 0),(8,vi s7.1),(24,vl ak ad),(25,vi (ad.length:Int)),(26,vi s7.1),(32,.agg [.own 45,.own 44]),(33,.agg (tc ak x11))],[(4,.box (tc aH s7.2.1)),(7,.box [.own 45,.own 44]),(44,oa 85 4 ah s7.2.2.1),(45,.deep 91 5 s7.2.2.2.length [.flat,.flat,.flat,.flat,(.sl 169 5 [.flat,.flat,.flat,.flat,.flat])] (s7.2.2.2.map af))]⟩ ?_
 obtain⟨x12,hx12,h⟩:=bind_some h
 refine ab.bs (x_w [(3000000,43),(3000001,42)] [true,true] CK (lG (World.mk s7.2.2.2 s7.2.2.1) x11 _ hx12)) ?_
 refine bQ ao 6 [1,4,7,8,10,11,24,25,26] [4,7,10,42,43,44,45] ?_
 refine ac ?_
 refine az ao [1,4,7,8,10,11,24,25,26,38] [4,7,10,42,43,44,45] ?_
 refine ai h (fun h=> ?_) fun h=> ?_
 refine iy ao ⟨47,[(4,.ref 4 0),(5,vi s7.1),(6,vi x12.2)],[(4,.box [.own 45,.own 44]),(44,oa 85 4 ah s7.2.2.1),(45,.deep 91 5 s7.2.2.2.length [.flat,.flat,.flat,.flat,(.sl 169 5 [.flat,.flat,.flat,.flat,.flat])] (s7.2.2.2.map af))]⟩ ?_
 refine cj (Le.qn 45 3000000) ?_
 refine cj (Le.qn 44 3000001) ?_
 refine ae ?_
 obtain rfl:=inj h
 exact bt (bn (aU (aU (bn (aU (kV (fw ao)))))))
 refine ag ?_
 refine aZ ?_
 refine aE ?_
 refine ab.cl ao 2 [1,4,7,24,25,26] [4,7,42,43] ?_
 refine ab.nil ?_
 obtain rfl:=inj h
 exact bP (bZ (Le.rr [4,7,42,43] [(43,45),(42,44)]))
 refine aE ?_
 refine ab.cl ao 2 [1,4,7,24,25,26] [4,7,44,45] ?_
 refine ab.nil ?_
 obtain rfl:=inj h
 exact bZ (Le.an)
 refine aQ ?_
 obtain rfl:=inj h
 exact cn (cr (cq (bZ (Le.an))))
 refine ac ?_
 refine cO mixed ?_
 refine aY.cl ao false 2 [4,44,45] [4,44,45] ?_
 obtain⟨x13,hx13,h⟩:=bind_some h
 refine aY.step (xc C1 (lJ ad _ hx13)) ?_
 refine aY.seq (by kernel_rfl) (by kernel_rfl) ?_
 refine ckn ao 3 ⟨47,[(4,.ref 4 0),(5,vi x13),(6,vi 0)],[(4,.box [.own 45,.own 44]),(44,oa 85 4 ah j5.2.1),(45,.deep 91 5 j5.2.2.length [.flat,.flat,.flat,.flat,(.sl 169 5 [.flat,.flat,.flat,.flat,.flat])] (j5.2.2.map af))]⟩ ?_
 refine cj (Le.qn 45 3000000) ?_
 refine cj (Le.qn 44 3000001) ?_
 refine ae ?_
 obtain rfl:=inj h
 exact kV (fw ao)
theorem zz:bg Tryz.prog 21:=au Tryz.func21 (by kernel_rfl) rfl
noncomputable def df(aAW:World)(cH:(List Change)):Option (Bool):=
 ((iO aAW 1048576).bind fun x1=>(bif(decide (x1<0))then some true else((fX cH x1).bind fun x2=>(bif(decide (x2<0))then some true else((eH aAW).bind fun x3=>((dk cH).bind fun x4=>((ed x3 x4).bind fun x5=>((eH aAW).bind fun x6=>((dk cH).bind fun x7=>((c4 x6 x7).bind fun x8=>((((ec x8.1 x5.1).bind fun x9=>(bif(!x9)then some true else(bif(x8.2.1 !=x5.2.1)then some true else some (x8.2.2 !=x5.2.2))))).bind fun(j10:Bool)=>(bif j10 then some false else((gA aAW).bind fun x12=>((ec x6 x12).bind fun x13=>(bif(!x13)then some false else((dk cH).bind fun x14=>((fT x7 x14).bind fun x15=>(bif(!x15)then some false else((eG x6 1).bind fun x16=>((eE x7 x16.1).bind fun x17=>(((bif(decide (x17.1<0))then some true else((ec x8.1 x5.1).bind fun x18=>(bif(!x18)then some true else(bif(x8.2.1 !=x5.2.1)then some true else some (x8.2.2 !=x5.2.2)))))).bind fun(j19:Bool)=>(bif j19 then some false else((eG x8.1 1).bind fun x21=>((eD x21.2 1).bind fun x22=>(bif(decide (x22<0))then some false else(bif(x22 !=x21.1)then some false else((eH aAW).bind fun x23=>((dk cH).bind fun x24=>((c4 x23 x24).bind fun x25=>((((ec x25.1 x5.1).bind fun x26=>(bif(!x26)then some true else(bif(x25.2.1 !=x5.2.1)then some true else some (x25.2.2 !=x5.2.2))))).bind fun(j27:Bool)=>(bif j27 then some false else((eD x21.2 1).bind fun x29=>(bif(decide (x29<0))then some false else(bif(x29 !=x21.1)then some false else some true))))))))))))))))))))))))))))))))))
theorem jH(aAW:World)(cH:(List Change))(r:Bool)(h:df aAW cH=some r):aJ Tryz.prog 6 [.v (.agg (tc aH aAW)),.v (vl ak cH)] ⟨[.v (vb r)],[],false⟩:=by
 refine ap Tryz.func6 rfl [(.tmp 4)] rfl (fun r=>⟨[.v (vb r)],[],false⟩) (r:=r) ?_
 unfold df at h
 refine az ao [1,2] [2] ?_
 refine az ao [1,2,5] [2] ?_
 refine sr ?_
 refine ab.cl ao 2 [1,2,20,21] [2] ?_
 obtain⟨x1,hx1,h⟩:=bind_some h
 refine ab.ls (xc DS (pe aAW 1048576 _ hx1)) ?_
 refine bQ ao 1 [1,2,5] [2] ?_
 refine ac ?_
 refine az ao [1,2,5,24] [2] ?_
 refine ai h (fun h=> ?_) fun h=> ?_
 refine az ao [4] [] ?_
 refine ae ?_
 obtain rfl:=inj h
 exact bt (aD (f1 fv))
 refine ag ?_
 refine aZ ?_
 refine sr ?_
 refine ab.cl ao 2 [1,2,25,26] [2] ?_
 obtain⟨x2,hx2,h⟩:=bind_some h
 refine ab.ls (xc CM (nG cH x1 _ hx2)) ?_
 refine bQ ao 1 [1,2,5] [2] ?_
 refine ac ?_
 refine iy ao ⟨140,[(1,vl ak cH),(2,.ref 2 0),(29,vb (decide (x2<0)))],[(2,.box (tc aH aAW))]⟩ ?_
 refine ai h (fun h=> ?_) fun h=> ?_
 refine az ao [4] [] ?_
 refine ae ?_
 obtain rfl:=inj h
 exact bt (aD (f1 fv))
 refine ag ?_
 refine aZ ?_
 refine sr ?_
 refine ab.ck ao 1 ⟨140,[(1,vl ak cH),(2,.ref 2 0),(31,.agg (tc aH aAW))],[(2,.box (tc aH aAW))]⟩ ?_
 obtain⟨x3,hx3,h⟩:=bind_some h
 refine ab.bs (x_w [(3000000,139),(3000001,138)] [true] q8 (hU aAW _ hx3)) ?_
 refine ab.cl ao 1 [1,2,32,33] [2,138,139] ?_
 obtain⟨x4,hx4,h⟩:=bind_some h
 refine ab.ls (xc tM (e9 cH _ hx4)) ?_
 refine ab.le (Le.rj (d:=34) (e:=37) (m:=6) (n:=x4.length) (es:=x4.map ak) (by kernel_rfl) (by kernel_rfl)) ?_
 refine ab.le (Le.xV (d:=139) (e:=91) (m:=5) (n:=x3.Places.length) (ss:=[.flat,.flat,.flat,.flat,(.sl 169 5 [.flat,.flat,.flat,.flat,.flat])]) (es:=x3.Places.map af) (by kernel_rfl) (by kernel_rfl)) ?_
 refine ab.le (Le.rj (d:=138) (e:=85) (m:=4) (n:=x3.Links.length) (es:=x3.Links.map ah) (by kernel_rfl) (by kernel_rfl)) ?_
 obtain⟨x5,hx5,h⟩:=bind_some h
 refine ab.ls (xc CL (l6 x3 x4 _ hx5)) ?_
 refine bQ ao 8 [1,2,6,7,8] [2,6] ?_
 refine sr ?_
 refine ab.ck ao 1 ⟨140,[(1,vl ak cH),(2,.ref 2 0),(6,.ref 6 0),(7,vi x5.2.1),(8,vi x5.2.2),(39,.agg (tc aH aAW))],[(2,.box (tc aH aAW)),(6,.box (tc aH x5.1))]⟩ ?_
 obtain⟨x6,hx6,h⟩:=bind_some h
 refine ab.bs (x_w [(3000000,139),(3000001,138)] [true] q8 (hU aAW _ hx6)) ?_
 refine bQ ao 2 [1,2,6,7,8,9] [2,6,9,138,139] ?_
 refine sr ?_
 refine ab.cl ao 1 [1,2,6,7,8,9,41] [2,6,9,138,139] ?_
 obtain⟨x7,hx7,h⟩:=bind_some h
 refine ab.ls (xc tM (e9 cH _ hx7)) ?_
 refine bQ ao 1 [1,2,6,7,8,9,10] [2,6,9,42,138,139] ?_
 refine sr ?_
 refine ab.ck ao 2 ⟨140,[(1,vl ak cH),(2,.ref 2 0),(6,.ref 6 0),(7,vi x5.2.1),(8,vi x5.2.2),(9,.ref 9 0),(10,.own 42),(44,.agg [.own 139,.own 138]),(45,.own 42)],[(2,.box (tc aH aAW)),(6,.box (tc aH x5.1)),(9,.box [.own 139,.own 138]),(42,oa 37 6 ak x7),(138,oa 85 4 ah x6.Links),(139,.deep 91 5 x6.Places.length [.flat,.flat,.flat,.flat,(.sl 169 5 [.flat,.flat,.flat,.flat,.flat])] (x6.Places.map af))]⟩ ?_
 obtain⟨x8,hx8,h⟩:=bind_some h
 refine ab.bs (x_w [(3000000,137),(3000001,136)] [true,true] zz (ig x6 x7 _ hx8)) ?_
 refine bQ ao 8 [1,2,6,7,8,9,10,11,12,13] [2,6,9,11,42,136,137,138,139] ?_
 refine ac ?_
 refine ac ?_
 refine bo h (fun j10=>⟨140,[(1,vl ak cH),(2,.ref 2 0),(6,.ref 6 0),(7,vi x5.2.1),(8,vi x5.2.2),(9,.ref 9 0),(10,.own 10),(11,.ref 11 0),(12,vi x8.2.1),(13,vi x8.2.2),(63,vb j10)],[(2,.box (tc aH aAW)),(6,.box (tc aH x5.1)),(9,.box [.own 139,.own 138]),(11,.box [.own 137,.own 136]),(10,oa 37 6 ak x7),(136,oa 85 4 ah x8.1.Links),(137,.deep 91 5 x8.1.Places.length [.flat,.flat,.flat,.flat,(.sl 169 5 [.flat,.flat,.flat,.flat,.flat])] (x8.1.Places.map af)),(138,oa 85 4 ah x6.Links),(139,.deep 91 5 x6.Places.length [.flat,.flat,.flat,.flat,(.sl 169 5 [.flat,.flat,.flat,.flat,.flat])] (x6.Places.map af))]⟩) (fun v11 h=> ?_) (fun j10 h=> ?_)
 refine ab.cl ao 2 [1,2,6,7,8,9,10,11,12,13,50,51] [2,6,9,11,42,136,137,138,139] ?_
 obtain⟨x9,hx9,h⟩:=bind_some h
 refine ab.ls (xc tC (gw x8.1 x5.1 _ hx9)) ?_
 refine ab.cl ao 2 [1,2,6,7,8,9,10,11,12,13,54] [2,6,9,11,42,136,137,138,139] ?_
 refine ab.cu [(54,fun b=>b)] h (fun h=> ?_) fun h=> ?_
 refine ab.cl ao 9 [1,2,6,7,8,9,10,11,12,13,63] [2,6,9,11,42,136,137,138,139] ?_
 refine ab.nil ?_
 obtain rfl:=inj h
 exact Le.rr [2,6,9,11,42,136,137,138,139] [(42,10)]
 refine ab.cl ao 5 [1,2,6,7,8,9,10,11,12,13,59] [2,6,9,11,42,136,137,138,139] ?_
 refine ab.cu [(59,fun b=>b)] h (fun h=> ?_) fun h=> ?_
 refine ab.cl ao 4 [1,2,6,7,8,9,10,11,12,13,63] [2,6,9,11,42,136,137,138,139] ?_
 refine ab.nil ?_
 obtain rfl:=inj h
 exact Le.rr [2,6,9,11,42,136,137,138,139] [(42,10)]
 refine ab.cl ao 4 [1,2,6,7,8,9,10,11,12,13,63] [2,6,9,11,42,136,137,138,139] ?_
 refine ab.nil ?_
 obtain rfl:=inj h
 exact Le.rr [2,6,9,11,42,136,137,138,139] [(42,10)]
 refine ai h (fun h=> ?_) fun h=> ?_
 refine az ao [4] [] ?_
 refine ae ?_
 obtain rfl:=inj h
 exact bt (aD (f1 fv))
 refine ag ?_
 refine aZ ?_
 refine ac ?_
 refine ac ?_
 obtain⟨x12,hx12,h⟩:=bind_some h
 obtain⟨x13,hx13,h⟩:=bind_some h
 refine cO mixed ?_
 refine aY.BT (σE:=⟨140,[(1,vl ak cH),(2,.ref 2 0),(6,.ref 6 0),(7,vi x5.2.1),(8,vi x5.2.2),(9,.ref 9 0),(10,.own 10),(11,.ref 11 0),(12,vi x8.2.1),(13,vi x8.2.2),(68,vb (!x13))],[(2,.box (tc aH aAW)),(6,.box (tc aH x5.1)),(9,.box [.own 139,.own 138]),(10,oa 37 6 ak x7),(11,.box [.own 137,.own 136]),(136,oa 85 4 ah x8.1.Links),(137,.deep 91 5 x8.1.Places.length [.flat,.flat,.flat,.flat,(.sl 169 5 [.flat,.flat,.flat,.flat,.flat])] (x8.1.Places.map af)),(138,oa 85 4 ah x6.Links),(139,.deep 91 5 x6.Places.length [.flat,.flat,.flat,.flat,(.sl 169 5 [.flat,.flat,.flat,.flat,.flat])] (x6.Places.map af))]⟩) (n:=5) (L0:=(bA 5 0)) (by kernel_rfl) (by kernel_rfl) (fun K hk=> ?_) ?_
 refine DE.sh 0 (bA 5 31) ⟨140,[(1,vl ak cH),(2,.ref 2 0),(6,.ref 6 0),(7,vi x5.2.1),(8,vi x5.2.2),(9,.ref 9 0),(10,.own 10),(11,.ref 11 0),(12,vi x8.2.1),(13,vi x8.2.2),(68,vb (!x13))],[(2,.box (tc aH aAW)),(6,.box (tc aH x5.1)),(9,.box [.own 139,.own 138]),(10,oa 37 6 ak x7),(11,.box [.own 137,.own 136]),(136,oa 85 4 ah x8.1.Links),(137,.deep 91 5 x8.1.Places.length [.flat,.flat,.flat,.flat,(.sl 169 5 [.flat,.flat,.flat,.flat,.flat])] (x8.1.Places.map af)),(138,oa 85 4 ah x6.Links),(139,.deep 91 5 x6.Places.length [.flat,.flat,.flat,.flat,(.sl 169 5 [.flat,.flat,.flat,.flat,.flat])] (x6.Places.map af))]⟩ ?_ fun d7=> ?_
 exact DE.done (by kernel_rfl) hk
 refine DE.sh 1 (bA 5 15) ⟨140,[(1,vl ak cH),(2,.ref 2 0),(6,.ref 6 0),(7,vi x5.2.1),(8,vi x5.2.2),(9,.ref 9 0),(10,.own 10),(11,.ref 11 0),(12,vi x8.2.1),(13,vi x8.2.2),(67,vb x13)],[(2,.box (tc aH aAW)),(6,.box (tc aH x5.1)),(9,.box [.own 139,.own 138]),(10,oa 37 6 ak x7),(11,.box [.own 137,.own 136]),(136,oa 85 4 ah x8.1.Links),(137,.deep 91 5 x8.1.Places.length [.flat,.flat,.flat,.flat,(.sl 169 5 [.flat,.flat,.flat,.flat,.flat])] (x8.1.Places.map af)),(138,oa 85 4 ah x6.Links),(139,.deep 91 5 x6.Places.length [.flat,.flat,.flat,.flat,(.sl 169 5 [.flat,.flat,.flat,.flat,.flat])] (x6.Places.map af))]⟩ ?_ fun d6=> ?_
 exact DE.a1 4 d7 rfl (ay.n ao)
 refine DE.sh 2 (bA 5 7) ⟨140,[(1,vl ak cH),(2,.ref 2 0),(6,.ref 6 0),(7,vi x5.2.1),(8,vi x5.2.2),(9,.ref 9 0),(10,.own 10),(11,.ref 11 0),(12,vi x8.2.1),(13,vi x8.2.2),(64,.agg [.own 139,.own 138]),(66,.agg (tc aH x12))],[(2,.box (tc aH aAW)),(6,.box (tc aH x5.1)),(9,.box [.own 139,.own 138]),(10,oa 37 6 ak x7),(11,.box [.own 137,.own 136]),(136,oa 85 4 ah x8.1.Links),(137,.deep 91 5 x8.1.Places.length [.flat,.flat,.flat,.flat,(.sl 169 5 [.flat,.flat,.flat,.flat,.flat])] (x8.1.Places.map af)),(138,oa 85 4 ah x6.Links),(139,.deep 91 5 x6.Places.length [.flat,.flat,.flat,.flat,(.sl 169 5 [.flat,.flat,.flat,.flat,.flat])] (x6.Places.map af))]⟩ ?_ fun d5=> ?_
 exact DE.a1 3 d6 rfl (ay.l (xc tC (gw x6 x12 _ hx13)))
 refine DE.sh 3 (bA 5 6) ⟨140,[(1,vl ak cH),(2,.ref 2 0),(6,.ref 6 0),(7,vi x5.2.1),(8,vi x5.2.2),(9,.ref 9 0),(10,.own 10),(11,.ref 11 0),(12,vi x8.2.1),(13,vi x8.2.2),(66,.agg (tc aH x12))],[(2,.box (tc aH aAW)),(6,.box (tc aH x5.1)),(9,.box [.own 139,.own 138]),(10,oa 37 6 ak x7),(11,.box [.own 137,.own 136]),(136,oa 85 4 ah x8.1.Links),(137,.deep 91 5 x8.1.Places.length [.flat,.flat,.flat,.flat,(.sl 169 5 [.flat,.flat,.flat,.flat,.flat])] (x8.1.Places.map af)),(138,oa 85 4 ah x6.Links),(139,.deep 91 5 x6.Places.length [.flat,.flat,.flat,.flat,(.sl 169 5 [.flat,.flat,.flat,.flat,.flat])] (x6.Places.map af))]⟩ ?_ fun d4=> ?_
 exact DE.a1 0 d5 rfl (ay.n ao)
 refine DE.sh 3 (bA 5 3) ⟨140,[(1,vl ak cH),(2,.ref 2 0),(6,.ref 6 0),(7,vi x5.2.1),(8,vi x5.2.2),(9,.ref 9 0),(10,.own 10),(11,.ref 11 0),(12,vi x8.2.1),(13,vi x8.2.2),(64,.agg [.own 139,.own 138]),(65,.agg (tc aH aAW))],[(2,.box (tc aH aAW)),(6,.box (tc aH x5.1)),(9,.box [.own 139,.own 138]),(10,oa 37 6 ak x7),(11,.box [.own 137,.own 136]),(136,oa 85 4 ah x8.1.Links),(137,.deep 91 5 x8.1.Places.length [.flat,.flat,.flat,.flat,(.sl 169 5 [.flat,.flat,.flat,.flat,.flat])] (x8.1.Places.map af)),(138,oa 85 4 ah x6.Links),(139,.deep 91 5 x6.Places.length [.flat,.flat,.flat,.flat,(.sl 169 5 [.flat,.flat,.flat,.flat,.flat])] (x6.Places.map af))]⟩ ?_ fun d3=> ?_
 exact DE.a1 2 d5 rfl (ay.l (xc q8 (lj aAW _ hx12)))
 refine DE.sh 4 (bA 5 2) ⟨140,[(1,vl ak cH),(2,.ref 2 0),(6,.ref 6 0),(7,vi x5.2.1),(8,vi x5.2.2),(9,.ref 9 0),(10,.own 10),(11,.ref 11 0),(12,vi x8.2.1),(13,vi x8.2.2),(65,.agg (tc aH aAW))],[(2,.box (tc aH aAW)),(6,.box (tc aH x5.1)),(9,.box [.own 139,.own 138]),(10,oa 37 6 ak x7),(11,.box [.own 137,.own 136]),(136,oa 85 4 ah x8.1.Links),(137,.deep 91 5 x8.1.Places.length [.flat,.flat,.flat,.flat,(.sl 169 5 [.flat,.flat,.flat,.flat,.flat])] (x8.1.Places.map af)),(138,oa 85 4 ah x6.Links),(139,.deep 91 5 x6.Places.length [.flat,.flat,.flat,.flat,(.sl 169 5 [.flat,.flat,.flat,.flat,.flat])] (x6.Places.map af))]⟩ ?_ fun d2=> ?_
 exact DE.al (.c 0 d3 rfl (ay.n ao) (.c 2 d4 rfl (ay.l (xc q8 (lj aAW _ hx12))) .n))
 refine DE.sh 4 (bA 5 1) ⟨140,[(1,vl ak cH),(2,.ref 2 0),(6,.ref 6 0),(7,vi x5.2.1),(8,vi x5.2.2),(9,.ref 9 0),(10,.own 10),(11,.ref 11 0),(12,vi x8.2.1),(13,vi x8.2.2),(64,.agg [.own 139,.own 138])],[(2,.box (tc aH aAW)),(6,.box (tc aH x5.1)),(9,.box [.own 139,.own 138]),(10,oa 37 6 ak x7),(11,.box [.own 137,.own 136]),(136,oa 85 4 ah x8.1.Links),(137,.deep 91 5 x8.1.Places.length [.flat,.flat,.flat,.flat,(.sl 169 5 [.flat,.flat,.flat,.flat,.flat])] (x8.1.Places.map af)),(138,oa 85 4 ah x6.Links),(139,.deep 91 5 x6.Places.length [.flat,.flat,.flat,.flat,(.sl 169 5 [.flat,.flat,.flat,.flat,.flat])] (x6.Places.map af))]⟩ ?_ fun d1=> ?_
 exact DE.a1 1 d3 rfl (ay.n ao)
 exact DE.al (.c 0 d1 rfl (ay.n ao) (.c 1 d2 rfl (ay.n ao) .n))
 refine aZ ?_
 refine ai h (fun h=> ?_) fun h=> ?_
 refine az ao [4] [] ?_
 refine ae ?_
 obtain rfl:=inj h
 exact bt (aD (f1 fv))
 refine ag ?_
 refine aZ ?_
 refine ac ?_
 refine sr ?_
 refine ab.ck ao 2 ⟨140,[(1,vl ak cH),(2,.ref 2 0),(6,.ref 6 0),(7,vi x5.2.1),(8,vi x5.2.2),(9,.ref 9 0),(10,.own 10),(11,.ref 11 0),(12,vi x8.2.1),(13,vi x8.2.2),(69,.own 10),(70,vl ak cH)],[(2,.box (tc aH aAW)),(6,.box (tc aH x5.1)),(9,.box [.own 139,.own 138]),(10,oa 37 6 ak x7),(11,.box [.own 137,.own 136]),(136,oa 85 4 ah x8.1.Links),(137,.deep 91 5 x8.1.Places.length [.flat,.flat,.flat,.flat,(.sl 169 5 [.flat,.flat,.flat,.flat,.flat])] (x8.1.Places.map af)),(138,oa 85 4 ah x6.Links),(139,.deep 91 5 x6.Places.length [.flat,.flat,.flat,.flat,(.sl 169 5 [.flat,.flat,.flat,.flat,.flat])] (x6.Places.map af))]⟩ ?_
 obtain⟨x14,hx14,h⟩:=bind_some h
 refine ab.ls (xc tM (e9 cH _ hx14)) ?_
 obtain⟨x15,hx15,h⟩:=bind_some h
 refine ab.ls (xc CN (nB x7 x14 _ hx15)) ?_
 refine bQ ao 1 [1,2,6,7,8,9,10,11,12,13,73] [2,6,9,10,11,136,137,138,139] ?_
 refine ai h (fun h=> ?_) fun h=> ?_
 refine az ao [4] [] ?_
 refine ae ?_
 obtain rfl:=inj h
 exact bt (aD (f1 fv))
 refine ag ?_
 refine aZ ?_
 refine az ao [1,2,6,7,8,9,10,11,12,13,14] [2,6,9,10,11,136,137,138,139] ?_
 refine sr ?_
 refine ab.ck ao 2 ⟨140,[(1,vl ak cH),(2,.ref 2 0),(6,.ref 6 0),(7,vi x5.2.1),(8,vi x5.2.2),(10,.own 10),(11,.ref 11 0),(12,vi x8.2.1),(13,vi x8.2.2),(74,.agg [.own 139,.own 138]),(75,vi 1)],[(2,.box (tc aH aAW)),(6,.box (tc aH x5.1)),(10,oa 37 6 ak x7),(11,.box [.own 137,.own 136]),(136,oa 85 4 ah x8.1.Links),(137,.deep 91 5 x8.1.Places.length [.flat,.flat,.flat,.flat,(.sl 169 5 [.flat,.flat,.flat,.flat,.flat])] (x8.1.Places.map af)),(138,oa 85 4 ah x6.Links),(139,.deep 91 5 x6.Places.length [.flat,.flat,.flat,.flat,(.sl 169 5 [.flat,.flat,.flat,.flat,.flat])] (x6.Places.map af))]⟩ ?_
 obtain⟨x16,hx16,h⟩:=bind_some h
 refine ab.bs (x_w [(1000100,139),(1000101,138)] [false,true] zx (kn x6 1 _ hx16)) ?_
 refine bQ ao 1 [1,2,6,7,8,10,11,12,13,14] [2,6,10,11,136,137] ?_
 refine sr ?_
 refine ab.cl ao 2 [1,2,6,7,8,11,12,13,77,78] [2,6,10,11,136,137] ?_
 obtain⟨x17,hx17,h⟩:=bind_some h
 refine ab.bs (xe CO (mu x7 x16.1 _ hx17)) ?_
 refine bQ ao 1 [1,2,6,7,8,11,12,13,14] [2,6,11,136,137] ?_
 refine ac ?_
 refine ac ?_
 refine bo h (fun j19=>⟨140,[(1,vl ak cH),(2,.ref 2 0),(6,.ref 6 0),(7,vi x5.2.1),(8,vi x5.2.2),(11,.ref 11 0),(97,vb j19)],[(2,.box (tc aH aAW)),(6,.box (tc aH x5.1)),(11,.box [.own 137,.own 136]),(136,oa 85 4 ah x8.1.Links),(137,.deep 91 5 x8.1.Places.length [.flat,.flat,.flat,.flat,(.sl 169 5 [.flat,.flat,.flat,.flat,.flat])] (x8.1.Places.map af))]⟩) (fun v20 h=> ?_) (fun j19 h=> ?_)
 refine ab.cl ao 3 [1,2,6,7,8,11,12,13,82] [2,6,11,136,137] ?_
 refine ab.cu [(82,fun b=>b)] h (fun h=> ?_) fun h=> ?_
 refine ab.cl ao 15 [1,2,6,7,8,11,97] [2,6,11,136,137] ?_
 refine ab.nil ?_
 obtain rfl:=inj h
 exact Le.an
 refine ab.cl ao 2 [1,2,6,7,8,11,12,13,82,83,84] [2,6,11,136,137] ?_
 obtain⟨x18,hx18,h⟩:=bind_some h
 refine ab.ls (xc tC (gw x8.1 x5.1 _ hx18)) ?_
 refine ab.cl ao 3 [1,2,6,7,8,11,12,13,88] [2,6,11,136,137] ?_
 refine ab.cu [(88,fun b=>b)] h (fun h=> ?_) fun h=> ?_
 refine ab.cl ao 9 [1,2,6,7,8,11,97] [2,6,11,136,137] ?_
 refine ab.nil ?_
 obtain rfl:=inj h
 exact Le.an
 refine ab.cl ao 5 [1,2,6,7,8,11,13,93] [2,6,11,136,137] ?_
 refine ab.cu [(93,fun b=>b)] h (fun h=> ?_) fun h=> ?_
 refine ab.cl ao 4 [1,2,6,7,8,11,97] [2,6,11,136,137] ?_
 refine ab.nil ?_
 obtain rfl:=inj h
 exact Le.an
 refine ab.cl ao 4 [1,2,6,7,8,11,97] [2,6,11,136,137] ?_
 refine ab.nil ?_
 obtain rfl:=inj h
 exact Le.an
 refine ai h (fun h=> ?_) fun h=> ?_
 refine iy ao ⟨140,[(4,vb false)],[]⟩ ?_
 refine ae ?_
 obtain rfl:=inj h
 exact bt (aD (f1 fv))
 refine ag ?_
 refine aZ ?_
 refine az ao [1,2,6,7,8,11,15] [2,6,11,136,137] ?_
 refine sr ?_
 refine ab.ck ao 2 ⟨140,[(1,vl ak cH),(2,.ref 2 0),(6,.ref 6 0),(7,vi x5.2.1),(8,vi x5.2.2),(11,.ref 11 0),(98,.agg [.own 137,.own 136]),(99,vi 1)],[(2,.box (tc aH aAW)),(6,.box (tc aH x5.1)),(11,.box [.own 137,.own 136]),(136,oa 85 4 ah x8.1.Links),(137,.deep 91 5 x8.1.Places.length [.flat,.flat,.flat,.flat,(.sl 169 5 [.flat,.flat,.flat,.flat,.flat])] (x8.1.Places.map af))]⟩ ?_
 obtain⟨x21,hx21,h⟩:=bind_some h
 refine ab.bs (x_w [(1000100,137),(1000101,136)] [false,true] zx (kn x8.1 1 _ hx21)) ?_
 refine bQ ao 1 [1,2,6,7,8,11,15] [2,6,11,136,137] ?_
 refine az ao [1,2,6,7,8,11,15,16] [2,6,11,136,137] ?_
 refine sr ?_
 refine ab.cl ao 2 [1,2,6,7,8,11,15,101,102] [2,6,11,136,137] ?_
 obtain⟨x22,hx22,h⟩:=bind_some h
 refine ab.ls (xc zy (km x21.2 1 _ hx22)) ?_
 refine bQ ao 1 [1,2,6,7,8,11,15,16] [2,6,11,136,137] ?_
 refine ac ?_
 refine az ao [1,2,6,7,8,11,15,16,105] [2,6,11,136,137] ?_
 refine ai h (fun h=> ?_) fun h=> ?_
 refine az ao [4] [] ?_
 refine ae ?_
 obtain rfl:=inj h
 exact bt (aD (f1 fv))
 refine ag ?_
 refine aZ ?_
 refine ac ?_
 refine az ao [1,2,6,7,8,11,15,108] [2,6,11,136,137] ?_
 refine ai h (fun h=> ?_) fun h=> ?_
 refine az ao [4] [] ?_
 refine ae ?_
 obtain rfl:=inj h
 exact bt (aD (f1 fv))
 refine ag ?_
 refine aZ ?_
 refine sr ?_
 refine ab.ck ao 1 ⟨140,[(1,vl ak cH),(6,.ref 6 0),(7,vi x5.2.1),(8,vi x5.2.2),(11,.ref 11 0),(15,vi x21.1),(110,.agg (tc aH aAW))],[(6,.box (tc aH x5.1)),(11,.box [.own 137,.own 136]),(136,oa 85 4 ah x21.2.Links),(137,.deep 91 5 x21.2.Places.length [.flat,.flat,.flat,.flat,(.sl 169 5 [.flat,.flat,.flat,.flat,.flat])] (x21.2.Places.map af))]⟩ ?_
 obtain⟨x23,hx23,h⟩:=bind_some h
 refine ab.bs (x_w [(3000000,139),(3000001,138)] [true] q8 (hU aAW _ hx23)) ?_
 refine ab.ck ao 1 ⟨140,[(6,.ref 6 0),(7,vi x5.2.1),(8,vi x5.2.2),(11,.ref 11 0),(15,vi x21.1),(111,.agg [.own 139,.own 138]),(112,vl ak cH)],[(6,.box (tc aH x5.1)),(11,.box [.own 137,.own 136]),(136,oa 85 4 ah x21.2.Links),(137,.deep 91 5 x21.2.Places.length [.flat,.flat,.flat,.flat,(.sl 169 5 [.flat,.flat,.flat,.flat,.flat])] (x21.2.Places.map af)),(138,oa 85 4 ah x23.Links),(139,.deep 91 5 x23.Places.length [.flat,.flat,.flat,.flat,(.sl 169 5 [.flat,.flat,.flat,.flat,.flat])] (x23.Places.map af))]⟩ ?_
 obtain⟨x24,hx24,h⟩:=bind_some h
 refine ab.ls (xc tM (e9 cH _ hx24)) ?_
 obtain⟨x25,hx25,h⟩:=bind_some h
 refine ab.bs (x_w [(3000000,135),(3000001,133)] [true,true] zz (ig x23 x24 _ hx25)) ?_
 refine bQ ao 8 [6,7,8,11,15,17,18,19] [6,11,17,133,135,136,137] ?_
 refine ac ?_
 refine ac ?_
 refine bo h (fun j27=>⟨140,[(11,.ref 11 0),(15,vi x21.1),(131,vb j27)],[(11,.box [.own 137,.own 136]),(136,oa 85 4 ah x21.2.Links),(137,.deep 91 5 x21.2.Places.length [.flat,.flat,.flat,.flat,(.sl 169 5 [.flat,.flat,.flat,.flat,.flat])] (x21.2.Places.map af))]⟩) (fun v28 h=> ?_) (fun j27 h=> ?_)
 refine ab.cl ao 2 [7,8,11,15,18,19,118,119] [11,133,135,136,137] ?_
 obtain⟨x26,hx26,h⟩:=bind_some h
 refine ab.ls (xc tC (gw x25.1 x5.1 _ hx26)) ?_
 refine ab.cl ao 2 [7,8,11,15,18,19,122] [11,136,137] ?_
 refine ab.cu [(122,fun b=>b)] h (fun h=> ?_) fun h=> ?_
 refine ab.cl ao 9 [11,15,131] [11,136,137] ?_
 refine ab.nil ?_
 obtain rfl:=inj h
 exact Le.an
 refine ab.cl ao 5 [8,11,15,19,127] [11,136,137] ?_
 refine ab.cu [(127,fun b=>b)] h (fun h=> ?_) fun h=> ?_
 refine ab.cl ao 4 [11,15,131] [11,136,137] ?_
 refine ab.nil ?_
 obtain rfl:=inj h
 exact Le.an
 refine ab.cl ao 4 [11,15,131] [11,136,137] ?_
 refine ab.nil ?_
 obtain rfl:=inj h
 exact Le.an
 refine ai h (fun h=> ?_) fun h=> ?_
 refine az ao [4] [] ?_
 refine ae ?_
 obtain rfl:=inj h
 exact bt (aD (f1 fv))
 refine ag ?_
 refine aZ ?_
 refine az ao [11,15,16] [11,136,137] ?_
 refine sr ?_
 refine ab.ck ao 2 ⟨140,[(15,vi x21.1),(132,.agg [.own 137,.own 136]),(133,vi 1)],[(136,oa 85 4 ah x21.2.Links),(137,.deep 91 5 x21.2.Places.length [.flat,.flat,.flat,.flat,(.sl 169 5 [.flat,.flat,.flat,.flat,.flat])] (x21.2.Places.map af))]⟩ ?_
 obtain⟨x29,hx29,h⟩:=bind_some h
 refine ab.ls (xc zy (km x21.2 1 _ hx29)) ?_
 refine bQ ao 1 [15,16] [] ?_
 refine ac ?_
 refine az ao [15,16,136] [] ?_
 refine ai h (fun h=> ?_) fun h=> ?_
 refine az ao [4] [] ?_
 refine ae ?_
 obtain rfl:=inj h
 exact bt (aD (f1 fv))
 refine ag ?_
 refine aZ ?_
 refine ac ?_
 refine az ao [139] [] ?_
 refine ai h (fun h=> ?_) fun h=> ?_
 refine az ao [4] [] ?_
 refine ae ?_
 obtain rfl:=inj h
 exact bt (aD (f1 fv))
 refine ag ?_
 refine aZ ?_
 refine az ao [4] [] ?_
 refine ae ?_
 obtain rfl:=inj h
 exact aD (f1 fv)
end Go.Proofs.YtdejeagdkfokfaaGreatDoor.Sh
