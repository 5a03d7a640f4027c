/- Typed functions and the calls that do what they say. -/
import Derived.Test.YtdejeagdkfokfaaGreatDoorGAp0
import Derived.Test.YtdejeagdkfokfaaGreatDoorKA
import Derived.Test.YtdejeagdkfokfaaGreatDoorKC
import Derived.Test.YtdejeagdkfokfaaGreatDoorKD
import Derived.Test.YtdejeagdkfokfaaGreatDoorKO
import Derived.Test.YtdejeagdkfokfaaGreatDoorKS
import Derived.Test.YtdejeagdkfokfaaGreatDoorSN
import Derived.Test.YtdejeagdkfokfaaGreatDoorSW
import Derived.Test.YtdejeagdkfokfaaGreatDoorSX
import Derived.Test.YtdejeagdkfokfaaGreatDoorH1
namespace Go.Proofs.YtdejeagdkfokfaaGreatDoor.Sh
open Go.RowKit
set_option maxRecDepth 100000
set_option maxHeartbeats 4000000
noncomputable def eh(ad:(List ax)):Option (Bool):=
 (((cQ (ad.length:Int) (fun(i3:Int) (_:Unit)=>((at' ad i3).bind fun x7=>((((ju x7).bind fun x8=>(bif(!x8)then some true else((ni ad 0 i3).bind fun x9=>((bJ x9 x7).bind fun x10=>some x10))))).bind fun(j11:Bool)=>(bif j11 then some (.inr (.inr false))else some (.inl ()))))) (fun(_:Unit)=> .inl ()) 0 ())).bind (Sum.elim (fun(_:Unit)=>(((cQ (ad.length:Int) (fun(i15:Int) (_:Unit)=>((at' ad i15).bind fun x19=>(cQ (ad.length:Int) (fun(i20:Int) (_:Unit)=>((at' ad i20).bind fun x24=>((((bN x24.Years x19.Years.From).bind fun x25=>(bif x25 then((dJ ad x24.Child x19.Years.From).bind fun x26=>some x26)else some false))).bind fun(j27:Bool)=>(bif j27 then some (.inr (.inr (.inr false)))else some (.inl ()))))) (fun(_:Unit)=> .inl ()) 0 ()))) (fun(_:Unit)=> .inl ()) 0 ())).bind (Sum.elim (fun(_:Unit)=>some (decide ((ad.length:Int)≤20))) some))) some))
theorem iB(ad:(List ax))(r:Bool)(h:eh ad=some r):aJ Tryz.prog 55 [.v (vl ah ad)] ⟨[.v (vb r)],[],false⟩:=by
 refine ap Tryz.func55 rfl [(.tmp 2)] rfl (fun r=>⟨[.v (vb r)],[],false⟩) (r:=r) ?_
 unfold eh at h
 refine az aa [0] [] ?_
 refine ac ?_
 refine az aa [0,9,10,11] [] ?_
 refine bi (r:=r) h (fun j1=>⟨59,[(0,vl ah ad)],[]⟩) (fun v2 h=> ?_) (fun j1 h=> ?_)
 refine aw (a:=v2) ?_
 refine a7 (r:=v2) (s:=(0,())) _ (fun s3=>⟨59,[(0,vl ah ad),(9,vl ah ad),(10,vi (ad.length:Int)),(11,vi s3.1)],[]⟩) _ (Le.an) h (fun s3 v4 h=> ?_)
 refine az aa [0,9,10,11,12] [] ?_
 refine ac ?_
 refine ai h (fun h=> ?_) fun h=> ?_
 refine ag ?_
 refine aZ ?_
 refine ac ?_
 refine bp (r:=v4) h (fun j5=>⟨59,[(0,vl ah ad),(9,vl ah ad),(10,vi (ad.length:Int)),(11,vi s3.1)],[]⟩) (fun v6 h=> ?_) (fun j5 h=> ?_)
 refine aw (a:=v6) ?_
 refine sr ?_
 refine ab.cl aa 1 [0,9,10,11,13] [] ?_
 obtain⟨x7,hx7,h⟩:=bind_some h
 refine ab.ls (aG (L:=ad) (f:=ah) (ti:=dq) (tj:=dr) (e:=85) (k:= .i64) aa rfl hx7) ?_
 refine bQ aa 4 [0,3,4,9,10,11] [4] ?_
 refine ac ?_
 refine bo h (fun j11=>⟨59,[(0,vl ah ad),(9,vl ah ad),(10,vi (ad.length:Int)),(11,vi s3.1),(25,vb j11)],[]⟩) (fun v12 h=> ?_) (fun j11 h=> ?_)
 refine ab.cl aa 1 [0,3,4,9,10,11,16] [4] ?_
 obtain⟨x8,hx8,h⟩:=bind_some h
 refine ab.ls (xc A3 (p3 x7 _ hx8)) ?_
 refine ab.cl aa 2 [0,3,4,9,10,11,19] [4] ?_
 refine ab.cu [(19,fun b=>b)] h (fun h=> ?_) fun h=> ?_
 refine ab.cl aa 6 [0,9,10,11,25] [] ?_
 refine ab.nil ?_
 obtain rfl:=inj h
 exact Le.an
 refine ab.cl aa 2 [0,4,9,10,11,19,20,21] [4] ?_
 obtain⟨x9,hx9,h⟩:=bind_some h
 refine ab.ls (di (m:=4) (f:=ah) (ti:=dq) (tj:=dr) (e:=85) hx9 (fun _=>rfl) aa rfl) ?_
 refine ab.cl aa 1 [0,9,10,11,19,22,23] [4] ?_
 obtain⟨x10,hx10,h⟩:=bind_some h
 refine ab.ls (xc zH (eK x9 x7 _ hx10)) ?_
 refine ab.cl aa 1 [0,9,10,11,25] [] ?_
 refine ab.nil ?_
 obtain rfl:=inj h
 exact Le.an
 refine ai h (fun h=> ?_) fun h=> ?_
 refine az aa [2] [] ?_
 refine ae ?_
 obtain rfl:=inj h
 exact bn (aU (aU (bn (aU (aD (f1 fv))))))
 refine ag ?_
 obtain rfl:=inj h
 exact bP (bZ (Le.an))
 refine aE ?_
 refine ab.cl aa 2 [0,9,10,11] [] ?_
 refine ab.nil ?_
 obtain rfl:=inj h
 exact bZ (Le.an)
 refine aQ ?_
 obtain rfl:=inj h
 exact cn (cr (cq (bZ (Le.an))))
 refine ac ?_
 refine iy aa ⟨59,[(0,vl ah ad),(27,vl ah ad),(28,vi (ad.length:Int)),(29,vi 0)],[]⟩ ?_
 refine bi (r:=r) h (fun j13=>⟨59,[(0,vl ah ad)],[]⟩) (fun v14 h=> ?_) (fun j13 h=> ?_)
 refine aw (a:=v14) ?_
 refine a7 (r:=v14) (s:=(0,())) _ (fun s15=>⟨59,[(0,vl ah ad),(27,vl ah ad),(28,vi (ad.length:Int)),(29,vi s15.1)],[]⟩) _ (Le.an) h (fun s15 v16 h=> ?_)
 refine az aa [0,27,28,29,30] [] ?_
 refine ac ?_
 refine ai h (fun h=> ?_) fun h=> ?_
 refine ag ?_
 refine aZ ?_
 refine ac ?_
 refine bp (r:=v16) h (fun j17=>⟨59,[(0,vl ah ad),(27,vl ah ad),(28,vi (ad.length:Int)),(29,vi s15.1)],[]⟩) (fun v18 h=> ?_) (fun j17 h=> ?_)
 refine aw (a:=v18) ?_
 refine sr ?_
 obtain⟨x19,hx19,h⟩:=bind_some h
 refine ab.ls (aG (L:=ad) (f:=ah) (ti:=dq) (tj:=dr) (e:=85) (k:= .i64) aa rfl hx19) ?_
 refine bQ aa 3 [0,6,27,28,29] [6] ?_
 refine az aa [0,6,27,28,29,33,34,35] [6] ?_
 refine aw (a:=v18) ?_
 refine a7 (r:=v18) (s:=(0,())) _ (fun s20=>⟨59,[(0,vl ah ad),(6,.ref 6 0),(27,vl ah ad),(28,vi (ad.length:Int)),(29,vi s15.1),(33,vl ah ad),(34,vi (ad.length:Int)),(35,vi s20.1)],[(6,.box (tc ah x19))]⟩) _ (Le.an) h (fun s20 v21 h=> ?_)
 refine az aa [0,6,27,28,29,33,34,35,36] [6] ?_
 refine ac ?_
 refine ai h (fun h=> ?_) fun h=> ?_
 refine ag ?_
 refine aZ ?_
 refine ac ?_
 refine bp (r:=v21) h (fun j22=>⟨59,[(0,vl ah ad),(6,.ref 6 0),(27,vl ah ad),(28,vi (ad.length:Int)),(29,vi s15.1),(33,vl ah ad),(34,vi (ad.length:Int)),(35,vi s20.1)],[(6,.box (tc ah x19))]⟩) (fun v23 h=> ?_) (fun j22 h=> ?_)
 refine aw (a:=v23) ?_
 refine sr ?_
 obtain⟨x24,hx24,h⟩:=bind_some h
 refine ab.ls (aG (L:=ad) (f:=ah) (ti:=dq) (tj:=dr) (e:=85) (k:= .i64) aa rfl hx24) ?_
 refine bQ aa 3 [0,6,8,27,28,29,33,34,35] [6,8] ?_
 refine ac ?_
 refine bo h (fun j27=>⟨59,[(0,vl ah ad),(6,.ref 6 0),(27,vl ah ad),(28,vi (ad.length:Int)),(29,vi s15.1),(33,vl ah ad),(34,vi (ad.length:Int)),(35,vi s20.1),(53,vb j27)],[(6,.box (tc ah x19))]⟩) (fun v28 h=> ?_) (fun j27 h=> ?_)
 refine ab.cl aa 5 [0,6,8,27,28,29,33,34,35,40,43] [6,8] ?_
 obtain⟨x25,hx25,h⟩:=bind_some h
 refine ab.ls (xc mf (cI x24.Years x19.Years.From _ hx25)) ?_
 refine ab.cl aa 1 [0,6,8,27,28,29,33,34,35,45] [6,8] ?_
 refine ab.cu [(45,fun b=>b)] h (fun h=> ?_) fun h=> ?_
 refine ab.cl aa 6 [0,6,27,28,29,33,34,35,45,46,48,51] [6] ?_
 obtain⟨x26,hx26,h⟩:=bind_some h
 refine ab.ls (xc A5 (om ad x24.Child x19.Years.From _ hx26)) ?_
 refine ab.cl aa 1 [0,6,27,28,29,33,34,35,53] [6] ?_
 refine ab.nil ?_
 obtain rfl:=inj h
 exact Le.an
 refine ab.cl aa 8 [0,6,27,28,29,33,34,35,53] [6] ?_
 refine ab.nil ?_
 obtain rfl:=inj h
 exact Le.an
 refine ai h (fun h=> ?_) fun h=> ?_
 refine az aa [2] [] ?_
 refine ae ?_
 obtain rfl:=inj h
 exact bn (aU (aU (bn (bn (aU (aU (bn (aU (aD (f1 fv))))))))))
 refine ag ?_
 obtain rfl:=inj h
 exact bP (bZ (Le.an))
 refine aE ?_
 refine ab.cl aa 2 [0,6,27,28,29,33,34,35] [6] ?_
 refine ab.nil ?_
 obtain rfl:=inj h
 exact bZ (Le.an)
 refine aQ ?_
 obtain rfl:=inj h
 exact cn (cr (cq (bP (bZ (Le.an)))))
 refine aE ?_
 refine ab.cl aa 2 [0,27,28,29] [] ?_
 refine ab.nil ?_
 obtain rfl:=inj h
 exact bZ (Le.an)
 refine aQ ?_
 obtain rfl:=inj h
 exact cn (cr (cq (bZ (Le.an))))
 refine iy aa ⟨59,[(2,vb (decide ((ad.length:Int)≤20)))],[]⟩ ?_
 refine ae ?_
 obtain rfl:=inj h
 exact aD (f1 fv)
theorem wP:bg Tryz.prog 55:=au Tryz.func55 (by kernel_rfl) rfl
theorem na(s c:ByteArray)(r:Int)(h:strings_Compare s c=some r):aJ Tryz.prog 164 [.v (.tr (.str s)),.v (.tr (.str c))] ⟨[.v (.tr (.int .i64 r))],[],false⟩:=vh Tryz.B0 164 rfl s c r h
theorem Br:bg Tryz.prog 164:=au Tryz.func164 (by kernel_rfl) rfl
noncomputable def c9(aP:Place)(aF:ByteArray):Option (Int):=
 ((strings_Compare aP.Code aF).bind fun x1=>some x1)
theorem jt(aP:Place)(aF:ByteArray)(r:Int)(h:c9 aP aF=some r):aJ Tryz.prog 163 [.v (.agg (tc af aP)),.v (vs aF)] ⟨[.v (vi r)],[],false⟩:=by
 refine ap Tryz.func163 rfl [(.tmp 4)] rfl (fun r=>⟨[.v (vi r)],[],false⟩) (r:=r) ?_
 unfold c9 at h
 refine az aa [1,2] [2] ?_
 refine sr ?_
 refine ab.cl aa 3 [6,7] [] ?_
 obtain⟨x1,hx1,h⟩:=bind_some h
 refine ab.ls (xc Br (na aP.Code aF _ hx1)) ?_
 refine ckn aa 1 ⟨9,[(4,vi x1)],[]⟩ ?_
 refine ae ?_
 obtain rfl:=inj h
 exact aD (f1 fv)
theorem xJ:bg Tryz.prog 163:=au Tryz.func163 (by kernel_rfl) rfl
noncomputable def bB(aX:(List Place))(jR:ByteArray):Option (Int×Bool):=
 (((loop (fun(s3:Int×Int)=>(bif(decide (s3.1<s3.2))then((at' aX (aO (Int.fdiv (IntKind.wrap .u64 (aO (s3.1+s3.2))) (2^1)))).bind fun x5=>((c9 x5 jR).bind fun x6=>(bif(decide (x6<0))then some (.inl ((aO ((aO (Int.fdiv (IntKind.wrap .u64 (aO (s3.1+s3.2))) (2^1)))+1)),s3.2))else some (.inl (s3.1,(aO (Int.fdiv (IntKind.wrap .u64 (aO (s3.1+s3.2))) (2^1))))))))else some (.inr s3.1))) (0,(aX.length:Int)))).bind fun(j1:Int)=>(((bif(decide (j1<(aX.length:Int)))then((at' aX j1).bind fun x7=>((c9 x7 jR).bind fun x8=>some (x8==0)))else some false)).bind fun(j9:Bool)=>some (j1,j9)))
theorem dO(aX:(List Place))(jR:ByteArray)(r:Int×Bool)(h:bB aX jR=some r):aJ Tryz.prog 162 [.v (vl af aX),.v (vs jR),.v (.clo 163 [])] ⟨[.v (vi r.1),.v (vb r.2)],[],false⟩:=by
 refine ap Tryz.func162 rfl [(.tmp 6),(.tmp 7)] rfl (fun r=>⟨[.v (vi r.1),.v (vb r.2)],[],false⟩) (r:=r) ?_
 unfold bB at h
 refine az aa [0,1,2] [] ?_
 refine az aa [0,1,2,8] [] ?_
 refine az aa [0,1,2,8,9,10] [] ?_
 refine ac ?_
 refine ba h (fun j1=>⟨49,[(0,vl af aX),(1,vs jR),(2,.clo 163 []),(8,vi (aX.length:Int)),(9,vi j1)],[]⟩) (fun v2 h=> ?_) (fun j1 h=> ?_)
 refine aw (a:=v2) ?_
 refine a7 (r:=v2) (s:=(0,(aX.length:Int))) _ (fun s3=>⟨49,[(0,vl af aX),(1,vs jR),(2,.clo 163 []),(8,vi (aX.length:Int)),(9,vi s3.1),(10,vi s3.2)],[]⟩) _ (Le.an) h (fun s3 v4 h=> ?_)
 refine ac ?_
 refine az aa [0,1,2,8,9,10,17] [] ?_
 refine ai h (fun h=> ?_) fun h=> ?_
 refine ag ?_
 refine aZ ?_
 refine aw (a:=v4) ?_
 refine az aa [0,1,2,8,9,10,11] [] ?_
 refine sr ?_
 refine ab.cl aa 3 [0,1,2,8,9,10,11,24,25,26] [] ?_
 obtain⟨x5,hx5,h⟩:=bind_some h
 refine ab.ls (aG (L:=aX) (f:=af) (ti:=cP) (tj:=cm) (e:=91) (k:= .i64) aa rfl hx5) ?_
 refine ab.cl aa 2 [0,1,2,8,9,10,11,24,28,29] [] ?_
 obtain⟨x6,hx6,h⟩:=bind_some h
 refine ab.ls (xc xJ (jt x5 jR _ hx6)) ?_
 refine bQ aa 1 [0,1,2,8,9,10,11,31] [] ?_
 refine ai h (fun h=> ?_) fun h=> ?_
 refine aE ?_
 refine ab.cl aa 3 [0,1,2,8,9,10] [] ?_
 refine ab.nil ?_
 obtain rfl:=inj h
 exact bP (bZ (Le.an))
 refine aE ?_
 refine ab.cl aa 2 [0,1,2,8,9,10] [] ?_
 refine ab.nil ?_
 obtain rfl:=inj h
 exact bP (bZ (Le.an))
 refine aQ ?_
 obtain rfl:=inj h
 exact cn (cr (cq (eW (Le.an))))
 refine ac ?_
 refine bo h (fun j9=>⟨49,[(6,vi j1),(7,vb j9)],[]⟩) (fun v10 h=> ?_) (fun j9 h=> ?_)
 refine ab.cl aa 5 [0,1,2,9,35,39] [] ?_
 refine ab.cu [(39,fun b=>b)] h (fun h=> ?_) fun h=> ?_
 refine ab.cl aa 3 [1,35,39,40,41,42] [] ?_
 obtain⟨x7,hx7,h⟩:=bind_some h
 refine ab.ls (aG (L:=aX) (f:=af) (ti:=cP) (tj:=cm) (e:=91) (k:= .i64) aa rfl hx7) ?_
 refine ab.cl aa 2 [35,39,40,44,45] [] ?_
 obtain⟨x8,hx8,h⟩:=bind_some h
 refine ab.ls (xc xJ (jt x7 jR _ hx8)) ?_
 refine ab.cl aa 4 [6,7] [] ?_
 refine ab.nil ?_
 obtain rfl:=inj h
 exact Le.an
 refine ab.cl aa 11 [6,7] [] ?_
 refine ab.nil ?_
 obtain rfl:=inj h
 exact Le.an
 refine ae ?_
 obtain rfl:=inj h
 exact aD (f2 fv fv)
theorem Bq:bg Tryz.prog 162:=au Tryz.func162 (by kernel_rfl) rfl
noncomputable def cg(ad:(List Place))(aF:ByteArray):Option (Int×Bool):=
 ((bB ad aF).bind fun x1=>some (x1.1,x1.2))
theorem dR(ad:(List Place))(aF:ByteArray)(r:Int×Bool)(h:cg ad aF=some r):aJ Tryz.prog 110 [.v (vl af ad),.v (vs aF)] ⟨[.v (vi r.1),.v (vb r.2)],[],false⟩:=by
 refine ap Tryz.func110 rfl [(.tmp 4),(.tmp 5)] rfl (fun r=>⟨[.v (vi r.1),.v (vb r.2)],[],false⟩) (r:=r) ?_
 unfold cg at h
 refine az aa [0,1] [] ?_
 refine sr ?_
 refine ab.cl aa 2 [6,7] [] ?_
 obtain⟨x1,hx1,h⟩:=bind_some h
 refine ab.ls (xc Bq (dO ad aF _ hx1)) ?_
 refine bQ aa 4 [4,5] [] ?_
 refine ae ?_
 obtain rfl:=inj h
 exact aD (f2 fv fv)
theorem n6:bg Tryz.prog 110:=au Tryz.func110 (by kernel_rfl) rfl
noncomputable def dt(aW:World)(aF:ByteArray)(aS:Span):Option (Bool):=
 ((cg aW.Places aF).bind fun x1=>(((bif x1.2 then((at' aW.Places x1.1).bind fun x2=>((eA aS x2.Years).bind fun x3=>some x3))else some false)).bind fun(j4:Bool)=>some j4))
theorem ja(aW:World)(aF:ByteArray)(aS:Span)(r:Bool)(h:dt aW aF aS=some r):aJ Tryz.prog 58 [.v (.agg (tc aH aW)),.v (vs aF),.v (.agg (tc gE aS))] ⟨[.v (vb r)],[],false⟩:=by
 refine ap Tryz.func58 rfl [(.tmp 6)] rfl (fun r=>⟨[.v (vb r)],[],false⟩) (r:=r) ?_
 unfold dt at h
 refine az aa [1,3,5] [3,5] ?_
 refine sr ?_
 refine ab.cl aa 3 [3,5,11,12] [3,5] ?_
 obtain⟨x1,hx1,h⟩:=bind_some h
 refine ab.ls (xc n6 (dR aW.Places aF _ hx1)) ?_
 refine bQ aa 5 [3,5,7,8] [3,5] ?_
 refine ac ?_
 refine jV mixed h (fun j4=>⟨27,[(6,vb j4)],[]⟩) (fun v5 h=> ?_) (fun j4 h=> ?_)
 refine aY.cl aa false 2 [3,5,7,17] [3,5] ?_
 refine aY.cu [(17,fun b=>b)] h (fun h=> ?_) fun h=> ?_
 refine aY.cl aa false 4 [17,18,20,21] [] ?_
 obtain⟨x2,hx2,h⟩:=bind_some h
 refine aY.step (aG (L:=aW.Places) (f:=af) (ti:=cP) (tj:=cm) (e:=91) (k:= .i64) aa rfl hx2) ?_
 refine aY.cl aa false 2 [17,18,24] [] ?_
 obtain⟨x3,hx3,h⟩:=bind_some h
 refine aY.step (xc xC (kj aS x2.Years _ hx3)) ?_
 refine aY.cl aa false 2 [6] [] ?_
 refine aY.nil (by kernel_rfl) ?_
 obtain rfl:=inj h
 exact Le.an
 refine aY.cl aa false 10 [6] [] ?_
 refine aY.nil (by kernel_rfl) ?_
 obtain rfl:=inj h
 exact Le.an
 refine ae ?_
 obtain rfl:=inj h
 exact aD (f1 fv)
theorem zI:bg Tryz.prog 58:=au Tryz.func58 (by kernel_rfl) rfl
noncomputable def iF(aL:ax)(c0:World):Option (Bool):=
 ((((dt c0 aL.Child aL.Years).bind fun x1=>(bif(!x1)then some true else((dt c0 aL.Parent aL.Years).bind fun x2=>some (!x2))))).bind fun(j3:Bool)=>some j3)
theorem nA(aL:ax)(c0:World)(r:Bool)(h:iF aL c0=some r):aJ Tryz.prog 57 [.v (.agg (tc ah aL)),.v (.ptr [vl af c0.Places,vl ah c0.Links] 0)] ⟨[.v (vb r)],[],false⟩:=by
 refine ap Tryz.func57 rfl [(.tmp 3)] rfl (fun r=>⟨[.v (vb r)],[],false⟩) (r:=r) ?_
 unfold iF at h
 refine az aa [1,2] [2] ?_
 refine ac ?_
 refine bo h (fun j3=>⟨20,[(3,vb j3)],[]⟩) (fun v4 h=> ?_) (fun j3 h=> ?_)
 refine ab.cl aa 5 [1,2,4,6,8] [2] ?_
 obtain⟨x1,hx1,h⟩:=bind_some h
 refine ab.ls (xc zI (ja c0 aL.Child aL.Years _ hx1)) ?_
 refine ab.cl aa 2 [1,2,11] [2] ?_
 refine ab.cu [(11,fun b=>b)] h (fun h=> ?_) fun h=> ?_
 refine ab.cl aa 9 [3] [] ?_
 refine ab.nil ?_
 obtain rfl:=inj h
 exact Le.an
 refine ab.cl aa 5 [11,12,14,16] [] ?_
 obtain⟨x2,hx2,h⟩:=bind_some h
 refine ab.ls (xc zI (ja c0 aL.Parent aL.Years _ hx2)) ?_
 refine ab.cl aa 3 [3] [] ?_
 refine ab.nil ?_
 obtain rfl:=inj h
 exact Le.an
 refine ae ?_
 obtain rfl:=inj h
 exact aD (f1 fv)
theorem C3:bg Tryz.prog 57:=au Tryz.func57 (by kernel_rfl) rfl
noncomputable def b5(aS:(List ax))(cX:World):Option (Int):=
 (((cQ (aS.length:Int) (fun(i3:Int) (_:Unit)=>((at' aS i3).bind fun x7=>((iF x7 cX).bind fun x8=>(bif x8 then some (.inr (.inr i3))else some (.inl ()))))) (fun(_:Unit)=> .inl ()) 0 ())).bind (Sum.elim (fun(_:Unit)=>some (-1)) some))
theorem fI(aS:(List ax))(cX:World)(r:Int)(h:b5 aS cX=some r):aJ Tryz.prog 109 [.v (vl ah aS),.v (.clo 57 [.ptr [vl af cX.Places,vl ah cX.Links] 0])] ⟨[.v (vi r)],[],false⟩:=by
 refine ap Tryz.func109 rfl [(.tmp 4)] rfl (fun r=>⟨[.v (vi r)],[],false⟩) (r:=r) ?_
 unfold b5 at h
 refine az aa [0,1] [] ?_
 refine ac ?_
 refine az aa [0,1,7,8] [] ?_
 refine bi (r:=r) h (fun j1=>⟨19,[],[]⟩) (fun v2 h=> ?_) (fun j1 h=> ?_)
 refine aw (a:=v2) ?_
 refine a7 (r:=v2) (s:=(0,())) _ (fun s3=>⟨19,[(0,vl ah aS),(1,.clo 57 [.ptr [vl af cX.Places,vl ah cX.Links] 0]),(7,vi (aS.length:Int)),(8,vi s3.1)],[]⟩) _ (Le.an) h (fun s3 v4 h=> ?_)
 refine az aa [0,1,7,8,9] [] ?_
 refine ac ?_
 refine ai h (fun h=> ?_) fun h=> ?_
 refine ag ?_
 refine aZ ?_
 refine ac ?_
 refine bp (r:=v4) h (fun j5=>⟨19,[(0,vl ah aS),(1,.clo 57 [.ptr [vl af cX.Places,vl ah cX.Links] 0]),(7,vi (aS.length:Int)),(8,vi s3.1)],[]⟩) (fun v6 h=> ?_) (fun j5 h=> ?_)
 refine aw (a:=v6) ?_
 refine az aa [0,1,5,7,8] [] ?_
 refine sr ?_
 refine ab.cl aa 3 [0,1,5,7,8,11,12,13] [] ?_
 obtain⟨x7,hx7,h⟩:=bind_some h
 refine ab.ls (aG (L:=aS) (f:=ah) (ti:=dq) (tj:=dr) (e:=85) (k:= .i64) aa rfl hx7) ?_
 refine ab.cl aa 1 [0,1,5,7,8,11,15] [] ?_
 obtain⟨x8,hx8,h⟩:=bind_some h
 refine ab.ls (xc C3 (nA x7 cX _ hx8)) ?_
 refine ab.nx ?_
 refine ai h (fun h=> ?_) fun h=> ?_
 refine az aa [4] [] ?_
 refine ae ?_
 obtain rfl:=inj h
 exact bn (aU (aU (bn (aU (aD (f1 fv))))))
 refine ag ?_
 obtain rfl:=inj h
 exact bP (bZ (Le.an))
 refine aE ?_
 refine ab.cl aa 2 [0,1,7,8] [] ?_
 refine ab.nil ?_
 obtain rfl:=inj h
 exact bZ (Le.an)
 refine aQ ?_
 obtain rfl:=inj h
 exact cn (cr (cq (bZ (Le.an))))
 refine az aa [4] [] ?_
 refine ae ?_
 obtain rfl:=inj h
 exact aD (f1 fv)
noncomputable def bR(aS:(List ax))(cX:World):Option (Bool):=
 ((b5 aS cX).bind fun x1=>some (decide (x1≥0)))
theorem eR(aS:(List ax))(cX:World)(r:Bool)(h:bR aS cX=some r):aJ Tryz.prog 56 [.v (vl ah aS),.v (.clo 57 [.ptr [vl af cX.Places,vl ah cX.Links] 0])] ⟨[.v (vb r)],[],false⟩:=by
 refine ap Tryz.func56 rfl [(.tmp 4)] rfl (fun r=>⟨[.v (vb r)],[],false⟩) (r:=r) ?_
 unfold bR at h
 refine az aa [0,1] [] ?_
 refine sr ?_
 refine ab.cl aa 2 [5,6] [] ?_
 obtain⟨x1,hx1,h⟩:=bind_some h
 refine ab.ls (xc tB (fI aS cX _ hx1)) ?_
 refine bQ aa 2 [4] [] ?_
 refine ae ?_
 obtain rfl:=inj h
 exact aD (f1 fv)
noncomputable def gp(aW:World):Option (Bool):=
 ((((fh aW.Places).bind fun x1=>(bif x1 then((eh aW.Links).bind fun x2=>(bif x2 then((bR aW.Links aW).bind fun x3=>some (!x3))else some false))else some false))).bind fun(j4:Bool)=>some j4)
theorem la(aW:World)(r:Bool)(h:gp aW=some r):aJ Tryz.prog 24 [.v (.agg (tc aH aW))] ⟨[.v (vb r)],[],false⟩:=by
 refine ap Tryz.func24 rfl [(.tmp 2)] rfl (fun r=>⟨[.v (vb r)],[],false⟩) (r:=r) ?_
 unfold gp at h
 refine az aa [1] [1] ?_
 refine ac ?_
 refine bo h (fun j4=>⟨18,[(2,vb j4)],[]⟩) (fun v5 h=> ?_) (fun j4 h=> ?_)
 refine ab.cl aa 2 [1,4] [1] ?_
 obtain⟨x1,hx1,h⟩:=bind_some h
 refine ab.ls (xc C2 (mX aW.Places _ hx1)) ?_
 refine ab.cl aa 1 [1,6] [1] ?_
 refine ab.cu [(6,fun b=>b)] h (fun h=> ?_) fun h=> ?_
 refine ab.cl aa 2 [1,6,8] [1] ?_
 obtain⟨x2,hx2,h⟩:=bind_some h
 refine ab.ls (xc wP (iB aW.Links _ hx2)) ?_
 refine ab.cl aa 2 [1,11] [1] ?_
 refine ab.cu [(11,fun b=>b)] h (fun h=> ?_) fun h=> ?_
 refine ab.cl aa 3 [11,13,14] [1] ?_
 obtain⟨x3,hx3,h⟩:=bind_some h
 refine ab.ls (xc zH (eR aW.Links aW _ hx3)) ?_
 refine ab.cl aa 3 [2] [] ?_
 refine ab.nil ?_
 obtain rfl:=inj h
 exact Le.an
 refine ab.cl aa 7 [2] [] ?_
 refine ab.nil ?_
 obtain rfl:=inj h
 exact Le.an
 refine ab.cl aa 12 [2] [] ?_
 refine ab.nil ?_
 obtain rfl:=inj h
 exact Le.an
 refine ae ?_
 obtain rfl:=inj h
 exact aD (f1 fv)
theorem zA:bg Tryz.prog 24:=au Tryz.func24 (by kernel_rfl) rfl
noncomputable def cw(aC:Change):Option (Bool):=
 some ((aC.Kind==2) || (aC.Kind==3))
theorem ei(aC:Change)(r:Bool)(h:cw aC=some r):aJ Tryz.prog 79 [.v (.agg (tc ak aC))] ⟨[.v (vb r)],[],false⟩:=by
 refine ap Tryz.func79 rfl [(.tmp 2)] rfl (fun r=>⟨[.v (vb r)],[],false⟩) (r:=r) ?_
 unfold cw at h
 refine az aa [1] [1] ?_
 refine ac ?_
 refine dp ⟨11,[(2,vb ((aC.Kind==2) || (aC.Kind==3)))],[]⟩ ?_ ?_
 refine ab.ck aa 4 ⟨11,[(1,.ref 1 0),(6,vb (aC.Kind==2))],[(1,.box (tc ak aC))]⟩ ?_
 generalize (aC.Kind==2)=bb
 cases bb
 refine ab.cl aa 5 [2] [] ?_
 exact ab.nil (Le.an)
 refine ab.cl aa 5 [2] [] ?_
 exact ab.nil (Le.an)
 refine ae ?_
 obtain rfl:=inj h
 exact aD (f1 fv)
theorem wR:bg Tryz.prog 79:=au Tryz.func79 (by kernel_rfl) rfl
noncomputable def gI(aC:Change):Option (Bool):=
 ((((dK aC.Year (-2999) 3000).bind fun x1=>(bif(!x1)then some true else((dK aC.Kind 0 3).bind fun x2=>(bif(!x2)then some true else((eV aC.Code).bind fun x3=>some (!x3))))))).bind fun(j4:Bool)=>(bif j4 then some false else((cw aC).bind fun x6=>(((bif x6 then((eV aC.Other).bind fun x9=>(bif x9 then some (!(aC.Other.toList==aC.Code.toList))else some false))else some (aC.Other.toList==(ByteArray.mk #[]).toList))).bind fun(j7:Bool)=>(((bif(aC.Kind==0)then((dy aC.Language).bind fun x12=>(bif x12 then((ej aC.Text).bind fun x13=>some x13)else some false))else some ((aC.Language.toList==(ByteArray.mk #[]).toList)&&(aC.Text.toList==(ByteArray.mk #[]).toList)))).bind fun(j10:Bool)=>some (j7&&j10))))))
theorem oh(aC:Change)(r:Bool)(h:gI aC=some r):aJ Tryz.prog 36 [.v (.agg (tc ak aC))] ⟨[.v (vb r)],[],false⟩:=by
 refine ap Tryz.func36 rfl [(.tmp 2)] rfl (fun r=>⟨[.v (vb r)],[],false⟩) (r:=r) ?_
 unfold gI at h
 refine az aa [1] [1] ?_
 refine ac ?_
 refine ac ?_
 refine bo h (fun j4=>⟨59,[(1,.ref 1 0),(20,vb j4)],[(1,.box (tc ak aC))]⟩) (fun v5 h=> ?_) (fun j4 h=> ?_)
 refine ab.cl aa 2 [1,6] [1] ?_
 obtain⟨x1,hx1,h⟩:=bind_some h
 refine ab.ls (xc nu (dz aC.Year (-2999) 3000 _ hx1)) ?_
 refine ab.cl aa 2 [1,9] [1] ?_
 refine ab.cu [(9,fun b=>b)] h (fun h=> ?_) fun h=> ?_
 refine ab.cl aa 11 [1,20] [1] ?_
 refine ab.nil ?_
 obtain rfl:=inj h
 exact Le.an
 refine ab.cl aa 2 [1,9,11] [1] ?_
 obtain⟨x2,hx2,h⟩:=bind_some h
 refine ab.ls (xc nu (dz aC.Kind 0 3 _ hx2)) ?_
 refine ab.cl aa 3 [1,15] [1] ?_
 refine ab.cu [(15,fun b=>b)] h (fun h=> ?_) fun h=> ?_
 refine ab.cl aa 5 [1,20] [1] ?_
 refine ab.nil ?_
 obtain rfl:=inj h
 exact Le.an
 refine ab.cl aa 2 [1,15,17] [1] ?_
 obtain⟨x3,hx3,h⟩:=bind_some h
 refine ab.ls (xc tN (gW aC.Code _ hx3)) ?_
 refine ab.cl aa 2 [1,20] [1] ?_
 refine ab.nil ?_
 obtain rfl:=inj h
 exact Le.an
 refine ai h (fun h=> ?_) fun h=> ?_
 refine iy aa ⟨59,[(2,vb false)],[]⟩ ?_
 refine ae ?_
 obtain rfl:=inj h
 exact bt (aD (f1 fv))
 refine ag ?_
 refine aZ ?_
 refine az aa [1,3] [1] ?_
 refine ac ?_
 refine sr ?_
 refine ab.cl aa 1 [1,3,24] [1] ?_
 obtain⟨x6,hx6,h⟩:=bind_some h
 refine ab.ls (xc wR (ei aC _ hx6)) ?_
 refine ab.nx ?_
 refine ba h (fun j7=>⟨59,[(1,.ref 1 0),(3,vb j7)],[(1,.box (tc ak aC))]⟩) (fun v8 h=> ?_) (fun j7 h=> ?_)
 refine ai h (fun h=> ?_) fun h=> ?_
 refine aE ?_
 refine ab.cl aa 2 [1,27] [1] ?_
 obtain⟨x9,hx9,h⟩:=bind_some h
 refine ab.ls (xc tN (gW aC.Other _ hx9)) ?_
 refine ab.cl aa 1 [1,29] [1] ?_
 refine ab.cu [(29,fun b=>b)] h (fun h=> ?_) fun h=> ?_
 refine ab.cl aa 7 [1,3] [1] ?_
 refine ab.nil ?_
 obtain rfl:=inj h
 exact eW (Le.an)
 refine ab.cl aa 7 [1,3] [1] ?_
 refine ab.nil ?_
 obtain rfl:=inj h
 exact eW (Le.an)
 refine ag ?_
 obtain rfl:=inj h
 exact eW (Le.an)
 refine ac ?_
 refine dp ⟨59,[(1,.ref 1 0),(3,vb j7),(4,vb ((aC.Language.toList==(ByteArray.mk #[]).toList)&&(aC.Text.toList==(ByteArray.mk #[]).toList)))],[(1,.box (tc ak aC))]⟩ ?_ ?_
 refine ab.ck aa 4 ⟨59,[(1,.ref 1 0),(3,vb j7),(39,vb (aC.Language.toList==(ByteArray.mk #[]).toList))],[(1,.box (tc ak aC))]⟩ ?_
 generalize (aC.Language.toList==(ByteArray.mk #[]).toList)=bb
 cases bb
 refine ab.cl aa 5 [1,3,4] [1] ?_
 exact ab.nil (Le.an)
 refine ab.cl aa 5 [1,3,4] [1] ?_
 exact ab.nil (Le.an)
 refine ac ?_
 refine az aa [1,3,4,46] [1] ?_
 refine ba h (fun j10=>⟨59,[(3,vb j7),(4,vb j10)],[]⟩) (fun v11 h=> ?_) (fun j10 h=> ?_)
 refine ai h (fun h=> ?_) fun h=> ?_
 refine aE ?_
 refine ab.cl aa 2 [1,3,48] [1] ?_
 obtain⟨x12,hx12,h⟩:=bind_some h
 refine ab.ls (xc wS (gF aC.Language _ hx12)) ?_
 refine ab.cl aa 1 [1,3,50] [1] ?_
 refine ab.cu [(50,fun b=>b)] h (fun h=> ?_) fun h=> ?_
 refine ab.cl aa 2 [3,50,52] [] ?_
 obtain⟨x13,hx13,h⟩:=bind_some h
 refine ab.ls (xc wT (iC aC.Text _ hx13)) ?_
 refine ab.cl aa 2 [3,4] [] ?_
 refine ab.nil ?_
 obtain rfl:=inj h
 exact eW (Le.an)
 refine ab.cl aa 5 [3,4] [] ?_
 refine ab.nil ?_
 obtain rfl:=inj h
 exact eW (Le.an)
 refine ag ?_
 obtain rfl:=inj h
 exact eW (Le.an)
 refine ac ?_
 refine dp ⟨59,[(2,vb (j7&&j10))],[]⟩ ?_ ?_
 refine ab.ck aa 2 ⟨59,[(4,vb j10),(56,vb j7)],[]⟩ ?_
 generalize j7=bb
 cases bb
 refine ab.cl aa 3 [2] [] ?_
 exact ab.nil (Le.an)
 refine ab.cl aa 3 [2] [] ?_
 exact ab.nil (Le.an)
 refine ae ?_
 obtain rfl:=inj h
 exact aD (f1 fv)
theorem CS:bg Tryz.prog 36:=au Tryz.func36 (by kernel_rfl) rfl
noncomputable def dC(aW:World)(aF:ByteArray):Option (Bool):=
 ((cg aW.Places aF).bind fun x1=>some x1.2)
theorem ii(aW:World)(aF:ByteArray)(r:Bool)(h:dC aW aF=some r):aJ Tryz.prog 85 [.v (.agg (tc aH aW)),.v (vs aF)] ⟨[.v (vb r)],[],false⟩:=by
 refine ap Tryz.func85 rfl [(.tmp 4)] rfl (fun r=>⟨[.v (vb r)],[],false⟩) (r:=r) ?_
 unfold dC at h
 refine az aa [1,2] [2] ?_
 refine sr ?_
 refine ab.cl aa 3 [9,10] [] ?_
 obtain⟨x1,hx1,h⟩:=bind_some h
 refine ab.ls (xc n6 (dR aW.Places aF _ hx1)) ?_
 refine bQ aa 5 [6] [] ?_
 refine az aa [4] [] ?_
 refine ae ?_
 obtain rfl:=inj h
 exact aD (f1 fv)
theorem zN:bg Tryz.prog 85:=au Tryz.func85 (by kernel_rfl) rfl
noncomputable def cS(aW:World)(aF:ByteArray):Option (Place):=
 ((cg aW.Places aF).bind fun x1=>((at' aW.Places x1.1).bind fun x2=>some x2))
theorem dY(aW:World)(aF:ByteArray)(r:Place)(h:cS aW aF=some r):aJ Tryz.prog 86 [.v (.agg (tc aH aW)),.v (vs aF)] ⟨[.v (.agg (tc af r))],[],true⟩:=by
 refine ap Tryz.func86 rfl [(.cell 4 91)] rfl (fun r=>⟨[.v (.agg (tc af r))],[],true⟩) (r:=r) ?_
 unfold cS at h
 refine az aa [1,2,4] [2,4] ?_
 refine sr ?_
 refine ab.cl aa 3 [2,4,9,10] [2,4] ?_
 obtain⟨x1,hx1,h⟩:=bind_some h
 refine ab.ls (xc n6 (dR aW.Places aF _ hx1)) ?_
 refine bQ aa 5 [2,4,5] [2,4] ?_
 refine sr ?_
 refine ab.cl aa 3 [4,15,16] [4] ?_
 obtain⟨x2,hx2,h⟩:=bind_some h
 refine ab.ls (aG (L:=aW.Places) (f:=af) (ti:=cP) (tj:=cm) (e:=91) (k:= .i64) aa rfl hx2) ?_
 refine bQ aa 2 [4] [4] ?_
 refine ae ?_
 obtain rfl:=inj h
 exact aD (f1 (lC rfl (cT aa (d:=4) (cs:=[vs x2.Code,vi x2.Class,vi x2.Years.From,vi x2.Years.To,vl ar x2.Names]) (ti:=cm) (by kernel_rfl) (by kernel_rfl) (by kernel_rfl) (by kernel_rfl))))
theorem tO:bg Tryz.prog 86:=au Tryz.func86 (by kernel_rfl) rfl
noncomputable def dW(aW:World)(aC:Change):Option (Int):=
 ((((((gp aW).bind fun x3=>(bif(!x3)then some true else((gI aC).bind fun x4=>some (!x4))))).bind fun(j5:Bool)=>(bif j5 then some (.inr 1)else((((dC aW aC.Code).bind fun x7=>(bif(!x7)then some true else((cw aC).bind fun x8=>(bif x8 then((dC aW aC.Other).bind fun x9=>some (!x9))else some false))))).bind fun(j10:Bool)=>(bif j10 then some (.inr 4)else some (.inl ())))))).bind (Sum.elim (fun(_:Unit)=>((cS aW aC.Code).bind fun x12=>((((((bN x12.Years (aO (aC.Year - 1))).bind fun x15=>(bif(!x15)then some true else(bif(aC.Kind !=1)then((bN x12.Years aC.Year).bind fun x16=>some (!x16))else some false)))).bind fun(j17:Bool)=>(bif j17 then some (.inr 5)else((((cw aC).bind fun x19=>(bif x19 then((cS aW aC.Other).bind fun x20=>((bN x20.Years aC.Year).bind fun x21=>some (!x21)))else some false))).bind fun(j22:Bool)=>(bif j22 then some (.inr 5)else some (.inl ())))))).bind (Sum.elim (fun(_:Unit)=>some 0) some)))) some))
theorem mY(aW:World)(aC:Change)(r:Int)(h:dW aW aC=some r):aJ Tryz.prog 40 [.v (.agg (tc aH aW)),.v (.agg (tc ak aC))] ⟨[.v (vi r)],[],false⟩:=by
 refine ap Tryz.func40 rfl [(.tmp 4)] rfl (fun r=>⟨[.v (vi r)],[],false⟩) (r:=r) ?_
 unfold dW at h
 refine az aa [2,3] [2,3] ?_
 refine ac ?_
 refine bi (r:=r) h (fun j1=>⟨70,[(2,.ref 2 0),(3,.ref 3 0)],[(2,.box (tc aH aW)),(3,.box (tc ak aC))]⟩) (fun v2 h=> ?_) (fun j1 h=> ?_)
 refine aw (a:=v2) ?_
 refine ac ?_
 refine bo h (fun j5=>⟨70,[(2,.ref 2 0),(3,.ref 3 0),(6,vb j5)],[(2,.box (tc aH aW)),(3,.box (tc ak aC))]⟩) (fun v6 h=> ?_) (fun j5 h=> ?_)
 refine ab.cl aa 1 [2,3,7] [2,3] ?_
 obtain⟨x3,hx3,h⟩:=bind_some h
 refine ab.ls (xc zA (la aW _ hx3)) ?_
 refine ab.cl aa 2 [2,3,10] [2,3] ?_
 refine ab.cu [(10,fun b=>b)] h (fun h=> ?_) fun h=> ?_
 refine ab.cl aa 5 [2,3,6] [2,3] ?_
 refine ab.nil ?_
 obtain rfl:=inj h
 exact Le.an
 refine ab.cl aa 1 [2,3,10,11] [2,3] ?_
 obtain⟨x4,hx4,h⟩:=bind_some h
 refine ab.ls (xc CS (oh aC _ hx4)) ?_
 refine ab.cl aa 3 [2,3,6] [2,3] ?_
 refine ab.nil ?_
 obtain rfl:=inj h
 exact Le.an
 refine ai h (fun h=> ?_) fun h=> ?_
 refine iy aa ⟨70,[(4,vi 1)],[]⟩ ?_
 refine ae ?_
 obtain rfl:=inj h
 exact bn (aU (aD (f1 fv)))
 refine ac ?_
 refine bo h (fun j10=>⟨70,[(2,.ref 2 0),(3,.ref 3 0),(15,vb j10)],[(2,.box (tc aH aW)),(3,.box (tc ak aC))]⟩) (fun v11 h=> ?_) (fun j10 h=> ?_)
 refine ab.cl aa 3 [2,3,16,18] [2,3] ?_
 obtain⟨x7,hx7,h⟩:=bind_some h
 refine ab.ls (xc zN (ii aW aC.Code _ hx7)) ?_
 refine ab.cl aa 2 [2,3,21] [2,3] ?_
 refine ab.cu [(21,fun b=>b)] h (fun h=> ?_) fun h=> ?_
 refine ab.cl aa 11 [2,3,15] [2,3] ?_
 refine ab.nil ?_
 obtain rfl:=inj h
 exact Le.an
 refine ab.cl aa 1 [2,3,21,22] [2,3] ?_
 obtain⟨x8,hx8,h⟩:=bind_some h
 refine ab.ls (xc wR (ei aC _ hx8)) ?_
 refine ab.cl aa 1 [2,3,21,24] [2,3] ?_
 refine ab.cu [(24,fun b=>b)] h (fun h=> ?_) fun h=> ?_
 refine ab.cl aa 3 [2,3,21,24,25,27] [2,3] ?_
 obtain⟨x9,hx9,h⟩:=bind_some h
 refine ab.ls (xc zN (ii aW aC.Other _ hx9)) ?_
 refine ab.cl aa 4 [2,3,15] [2,3] ?_
 refine ab.nil ?_
 obtain rfl:=inj h
 exact Le.an
 refine ab.cl aa 8 [2,3,15] [2,3] ?_
 refine ab.nil ?_
 obtain rfl:=inj h
 exact Le.an
 refine ai h (fun h=> ?_) fun h=> ?_
 refine iy aa ⟨70,[(4,vi 4)],[]⟩ ?_
 refine ae ?_
 obtain rfl:=inj h
 exact bn (aU (aD (f1 fv)))
 refine ag ?_
 obtain rfl:=inj h
 exact bP (bZ (Le.an))
 refine sr ?_
 refine ab.cl aa 3 [2,3,32,34] [2,3] ?_
 obtain⟨x12,hx12,h⟩:=bind_some h
 refine ab.ls (xc tO (dY aW aC.Code _ hx12)) ?_
 refine bQ aa 3 [2,3,5] [2,3,5] ?_
 refine ac ?_
 refine bi (r:=r) h (fun j13=>⟨70,[],[]⟩) (fun v14 h=> ?_) (fun j13 h=> ?_)
 refine aw (a:=v14) ?_
 refine ac ?_
 refine bo h (fun j17=>⟨70,[(2,.ref 2 0),(3,.ref 3 0),(37,vb j17)],[(2,.box (tc aH aW)),(3,.box (tc ak aC))]⟩) (fun v18 h=> ?_) (fun j17 h=> ?_)
 refine ab.cl aa 4 [2,3,5,38,41] [2,3,5] ?_
 obtain⟨x15,hx15,h⟩:=bind_some h
 refine ab.ls (xc mf (cI x12.Years (aO (aC.Year - 1)) _ hx15)) ?_
 refine ab.cl aa 2 [2,3,5,44] [2,3,5] ?_
 refine ab.cu [(44,fun b=>b)] h (fun h=> ?_) fun h=> ?_
 refine ab.cl aa 12 [2,3,37] [2,3] ?_
 refine ab.nil ?_
 obtain rfl:=inj h
 exact Le.an
 refine ab.cl aa 4 [2,3,5,44,48] [2,3,5] ?_
 refine ab.cu [(48,fun b=>b)] h (fun h=> ?_) fun h=> ?_
 refine ab.cl aa 3 [2,3,44,48,49,51] [2,3] ?_
 obtain⟨x16,hx16,h⟩:=bind_some h
 refine ab.ls (xc mf (cI x12.Years aC.Year _ hx16)) ?_
 refine ab.cl aa 4 [2,3,37] [2,3] ?_
 refine ab.nil ?_
 obtain rfl:=inj h
 exact Le.an
 refine ab.cl aa 8 [2,3,37] [2,3] ?_
 refine ab.nil ?_
 obtain rfl:=inj h
 exact Le.an
 refine ai h (fun h=> ?_) fun h=> ?_
 refine iy aa ⟨70,[(4,vi 5)],[]⟩ ?_
 refine ae ?_
 obtain rfl:=inj h
 exact bn (aU (aD (f1 fv)))
 refine ac ?_
 refine jV mixed h (fun j22=>⟨70,[(56,vb j22)],[]⟩) (fun v23 h=> ?_) (fun j22 h=> ?_)
 refine aY.cl aa false 1 [2,3,57] [2,3] ?_
 obtain⟨x19,hx19,h⟩:=bind_some h
 refine aY.step (xc wR (ei aC _ hx19)) ?_
 refine aY.cl aa false 1 [2,3,59] [2,3] ?_
 refine aY.cu [(59,fun b=>b)] h (fun h=> ?_) fun h=> ?_
 refine aY.cl aa false 3 [3,59,60,62] [3] ?_
 obtain⟨x20,hx20,h⟩:=bind_some h
 refine aY.step (xc tO (dY aW aC.Other _ hx20)) ?_
 refine aY.cl aa false 3 [59,64,66] [] ?_
 obtain⟨x21,hx21,h⟩:=bind_some h
 refine aY.step (xc mf (cI x20.Years aC.Year _ hx21)) ?_
 refine aY.cl aa false 3 [56] [] ?_
 refine aY.nil (by kernel_rfl) ?_
 obtain rfl:=inj h
 exact Le.an
 refine aY.cl aa false 11 [56] [] ?_
 refine aY.nil (by kernel_rfl) ?_
 obtain rfl:=inj h
 exact Le.an
 refine ai h (fun h=> ?_) fun h=> ?_
 refine iy aa ⟨70,[(4,vi 5)],[]⟩ ?_
 refine ae ?_
 obtain rfl:=inj h
 exact bn (aU (aD (f1 fv)))
 refine ag ?_
 obtain rfl:=inj h
 exact bP (bZ (Le.an))
 refine iy aa ⟨70,[(4,vi 0)],[]⟩ ?_
 refine ae ?_
 obtain rfl:=inj h
 exact aD (f1 fv)
theorem CV:bg Tryz.prog 40:=au Tryz.func40 (by kernel_rfl) rfl
def du(L:List Name):Option (List Name):=if L.length≤68719476736 then some L else none
set_option maxRecDepth 100000 in
theorem jd(L r:List Name)(h:du L=some r):aJ Tryz.prog 183 [.v (.tr (.sl L.length (L.map ar)))] ⟨[.own 169 5 r.length (r.map ar)],[],true⟩:=by
 unfold du at h
 split at h
 ·rename_i hh
  injection h with h
  subst h
  refine pG ar Tryz.yv 183 169 rfl rfl _ _ 5 56 rfl rfl (by kernel_rfl) (by kernel_rfl) (by kernel_rfl) (by decide) (fun _=>rfl) (fun _=>rfl) L (by omega)
 ·cases h
theorem xM:bg Tryz.prog 183:=au Tryz.func183 (by kernel_rfl) rfl
noncomputable def ey(aP:Place):Option (Place):=
 ((du aP.Names).bind fun x1=>some (Place.mk aP.Code aP.Class aP.Years x1))
theorem mj(aP:Place)(r:Place)(h:ey aP=some r):aJ Tryz.prog 140 [.v (.agg (tc af aP))] ⟨[.part [vs r.Code,vi r.Class,vi r.Years.From,vi r.Years.To] [] (oa 169 5 ar r.Names)],[],false⟩:=by
 refine ap Tryz.func140 rfl [(.cell 2 91)] rfl (fun r=>⟨[.part [vs r.Code,vi r.Class,vi r.Years.From,vi r.Years.To] [] (oa 169 5 ar r.Names)],[],false⟩) (r:=r) ?_
 unfold ey at h
 refine az aa [1,2] [1,2] ?_
 refine sr ?_
 refine ab.cl aa 2 [1,2,4] [1,2] ?_
 obtain⟨x1,hx1,h⟩:=bind_some h
 refine ab.ls (xc xM (jd aP.Names _ hx1)) ?_
 refine bQ aa 2 [1,2] [1,2,5] ?_
 refine az aa [2] [2,5] ?_
 refine ae ?_
 obtain rfl:=inj h
 exact aD (f1 (BW (d:=5) [vs aP.Code,vi aP.Class,vi aP.Years.From,vi aP.Years.To] [] (cT aa (d:=2) (cs:=[vs aP.Code,vi aP.Class,vi aP.Years.From,vi aP.Years.To,.own 5]) (ti:=cm) (by kernel_rfl) (by kernel_rfl) (by kernel_rfl) (by kernel_rfl)) (by kernel_rfl) (cd bE _) rfl rfl SV.ew SV.ew (by kernel_rfl)))
theorem Bj:bg Tryz.prog 140:=au Tryz.func140 (by kernel_rfl) rfl
noncomputable def dQ(ad:(List Place)):Option ((List Place)):=
 (((jq (ad.length:Int) (fun(i3:Int) (s3:(List Place))=>((at' ad i3).bind fun x7=>((ey x7).bind fun x8=>((eg s3 ([x8]:List Place)).bind fun x9=>some x9)))) (fun(s3:(List Place))=>s3) 0 ([]:List Place))).bind fun(j1:(List Place))=>some j1)
theorem lI(ad:(List Place))(r:(List Place))(h:dQ ad=some r):aJ Tryz.prog 88 [.v (vl af ad)] ⟨[.deep 91 5 r.length [.flat,.flat,.flat,.flat,(.sl 169 5 [.flat,.flat,.flat,.flat,.flat])] (r.map af)],[],false⟩:=by
 refine ap Tryz.func88 rfl [(.tmp 2)] rfl (fun r=>⟨[.deep 91 5 r.length [.flat,.flat,.flat,.flat,(.sl 169 5 [.flat,.flat,.flat,.flat,.flat])] (r.map af)],[],false⟩) (r:=r) ?_
 unfold dQ at h
 refine sr ?_
 refine ab.cl aa 1 [2,0] [2] ?_
 refine ab.le (Le.q6 (d:=2) (e:=91) (m:=5) (ss:=[.flat,.flat,.flat,.flat,(.sl 169 5 [.flat,.flat,.flat,.flat,.flat])]) (by kernel_rfl) (by kernel_rfl)) ?_
 refine ab.nx ?_
 refine sr ?_
 refine ab.cl aa 1 [3,2,0] [3,2] ?_
 refine ab.le (Le.q6 (d:=3) (e:=91) (m:=5) (ss:=[.flat,.flat,.flat,.flat,(.sl 169 5 [.flat,.flat,.flat,.flat,.flat])]) (by kernel_rfl) (by kernel_rfl)) ?_
 refine ab.nx ?_
 refine ac ?_
 refine az aa [3,6,7,8] [3] ?_
 refine ba h (fun j1=>⟨19,[(3,.own 3)],[(3,.deep 91 5 j1.length [.flat,.flat,.flat,.flat,(.sl 169 5 [.flat,.flat,.flat,.flat,.flat])] (j1.map af))]⟩) (fun v2 h=> ?_) (fun j1 h=> ?_)
 refine aw (a:=v2) ?_
 refine a7 (r:=v2) (s:=(0,([]:List Place))) _ (fun s3=>⟨19,[(3,.own 3),(6,vl af ad),(7,vi (ad.length:Int)),(8,vi s3.1)],[(3,.deep 91 5 s3.2.length [.flat,.flat,.flat,.flat,(.sl 169 5 [.flat,.flat,.flat,.flat,.flat])] (s3.2.map af))]⟩) _ (Le.an) h (fun s3 v4 h=> ?_)
 refine az aa [3,6,7,8,9] [3] ?_
 refine ac ?_
 refine ai h (fun h=> ?_) fun h=> ?_
 refine ag ?_
 refine aZ ?_
 refine ac ?_
 refine ba h (fun j5=>⟨19,[(3,.own 3),(6,vl af ad),(7,vi (ad.length:Int)),(8,vi s3.1)],[(3,.deep 91 5 j5.length [.flat,.flat,.flat,.flat,(.sl 169 5 [.flat,.flat,.flat,.flat,.flat])] (j5.map af))]⟩) (fun v6 h=> ?_) (fun j5 h=> ?_)
 refine aw (a:=v6) ?_
 refine sr ?_
 obtain⟨x7,hx7,h⟩:=bind_some h
 refine ab.ls (aG (L:=ad) (f:=af) (ti:=cP) (tj:=cm) (e:=91) (k:= .i64) aa rfl hx7) ?_
 refine bQ aa 3 [3,5,6,7,8] [3,5] ?_
 refine aE ?_
 refine ab.cl aa 2 [6,7,8,12,13] [3] ?_
 obtain⟨x8,hx8,h⟩:=bind_some h
 refine ab.ls (xc Bj (mj x7 _ hx8)) ?_
 refine ab.bs (oT (ti:=cP) (tj:=cm) (e:=91) (m:=5) (zs:=[.string (ByteArray.mk #[]),.int .i64 0,.int .i64 0,.int .i64 0,.slice none 0 0]) (v:= .agg [vs x8.Code,vi x8.Class,vi x8.Years.From,vi x8.Years.To,.own 14]) (cs:=[vs x8.Code,vi x8.Class,vi x8.Years.From,vi x8.Years.To,.own 14]) (ss:=[.flat,.flat,.flat,.flat,(.sl 169 5 [.flat,.flat,.flat,.flat,.flat])]) (ts:=[.str x8.Code,.int .i64 x8.Class,.int .i64 x8.Years.From,.int .i64 x8.Years.To,.sl x8.Names.length (x8.Names.map ar)]) (ds:=[14]) aa rfl rfl rfl (.cons _ _ _ [] _ _ _ _ (.flat (.str x8.Code) rfl) (.cons _ _ _ [] _ _ _ _ (.flat (.int .i64 x8.Class) rfl) (.cons _ _ _ [] _ _ _ _ (.flat (.int .i64 x8.Years.From) rfl) (.cons _ _ _ [] _ _ _ _ (.flat (.int .i64 x8.Years.To) rfl) (.cons _ _ _ [14] _ _ _ _ (qV (d:=14) (e:=169) (m:=5) (n:=x8.Names.length) (es:=x8.Names.map ar) (ss:=[.flat,.flat,.flat,.flat,.flat]) (cd bE _)) .nil (by decide)) (by decide)) (by decide)) (by decide)) (by decide))) ?_
 obtain⟨x9,hx9,h⟩:=bind_some h
 refine ab.bs (nr (f:=af) (L:=s3.2) (M:=([x8]:List Place)) (t:=32) (ti:=cP) (tj:=cm) (zs:=[.string (ByteArray.mk #[]),.int .i64 0,.int .i64 0,.int .i64 0,.slice none 0 0]) (e:=91) (m:=5) (d:=3) (dx:=15) (ss:=[.flat,.flat,.flat,.flat,(.sl 169 5 [.flat,.flat,.flat,.flat,.flat])]) hx9 aa rfl rfl rfl rfl) ?_
 refine ab.cl aa 1 [3,6,7,8] [16] ?_
 refine ab.nil ?_
 obtain rfl:=inj h
 exact bP (eW (Le.rr [16] [(16,3)]))
 refine aE ?_
 refine ab.cl aa 2 [3,6,7,8] [3] ?_
 refine ab.nil ?_
 obtain rfl:=inj h
 exact bZ (Le.an)
 refine aQ ?_
 obtain rfl:=inj h
 exact cn (cr (cq (eW (Le.an))))
 refine az aa [2] [3] ?_
 refine ae ?_
 obtain rfl:=inj h
 exact aD (f1 (yy (d:=3) (jk (by kernel_rfl)) (by kernel_rfl) (by kernel_rfl)))
theorem Dg:bg Tryz.prog 88:=au Tryz.func88 (by kernel_rfl) rfl
def fN(L:List ax):Option (List ax):=if L.length≤68719476736 then some L else none
set_option maxRecDepth 100000 in
theorem l5(L r:List ax)(h:fN L=some r):aJ Tryz.prog 89 [.v (.tr (.sl L.length (L.map ah)))] ⟨[.own 85 4 r.length (r.map ah)],[],true⟩:=by
 unfold fN at h
 split at h
 ·rename_i hh
  injection h with h
  subst h
  refine pG ah Tryz.yu 89 85 rfl rfl _ _ 4 48 rfl rfl (by kernel_rfl) (by kernel_rfl) (by kernel_rfl) (by decide) (fun _=>rfl) (fun _=>rfl) L (by omega)
 ·cases h
theorem Dh:bg Tryz.prog 89:=au Tryz.func89 (by kernel_rfl) rfl
noncomputable def dw(aW:World):Option (World):=
 ((dQ aW.Places).bind fun x1=>((fN aW.Links).bind fun x2=>some (World.mk x1 x2)))
theorem jO(aW:World)(r:World)(h:dw aW=some r):jm Tryz.prog 41 [.agg (tc aH aW)] [] [(3000000,.deep 91 5 r.Places.length [.flat,.flat,.flat,.flat,(.sl 169 5 [.flat,.flat,.flat,.flat,.flat])] (r.Places.map af)),(3000001,oa 85 4 ah r.Links)] [.agg [.own 3000000,.own 3000001]]:=by
 refine gT Tryz.func41 rfl [(.cell 2 35)] rfl (fun r=>[(3000000,.deep 91 5 r.Places.length [.flat,.flat,.flat,.flat,(.sl 169 5 [.flat,.flat,.flat,.flat,.flat])] (r.Places.map af)),(3000001,oa 85 4 ah r.Links)]) (fun r=>[.agg [.own 3000000,.own 3000001]]) (r:=r) (cf trivial (cf (cd c8 _) jj)) ?_
 unfold dw at h
 refine az aa [1,2] [1,2] ?_
 refine ac ?_
 refine cO mixed ?_
 refine aY.cl aa false 2 [1,2,4] [1,2] ?_
 obtain⟨x1,hx1,h⟩:=bind_some h
 refine aY.step (xc Dg (lI aW.Places _ hx1)) ?_
 refine aY.cl aa false 2 [2,5,7] [2,5] ?_
 obtain⟨x2,hx2,h⟩:=bind_some h
 refine aY.step (xc Dh (l5 aW.Links _ hx2)) ?_
 refine aY.Ap false [5,8] (br (v:= .agg [.own 5,.own 8]) aa rfl) ?_
 refine aY.seq (by kernel_rfl) (by kernel_rfl) ?_
 refine ckn aa 1 ⟨10,[(2,.ref 2 0)],[(2,.box [.own 5,.own 8]),(5,.deep 91 5 x1.length [.flat,.flat,.flat,.flat,(.sl 169 5 [.flat,.flat,.flat,.flat,.flat])] (x1.map af)),(8,oa 85 4 ah x2)]⟩ ?_
 refine cj (Le.qn 5 3000000) ?_
 refine cj (Le.qn 8 3000001) ?_
 refine ae ?_
 obtain rfl:=inj h
 exact kV (fw aa)
theorem zG:bg Tryz.prog 41:=au Tryz.func41 (by kernel_rfl) rfl
noncomputable def fM(aN:Name)(c0:ByteArray)(c1:Int):Option (Bool):=
 ((((cR aN c0).bind fun x1=>(bif x1 then((bN aN.Years c1).bind fun x2=>some x2)else some false))).bind fun(j3:Bool)=>some j3)
theorem l3(aN:Name)(c0:ByteArray)(c1:Int)(r:Bool)(h:fM aN c0 c1=some r):aJ Tryz.prog 213 [.v (.agg (tc ar aN)),.v (.ptr [vs c0] 0),.v (.ptr [vi c1] 0)] ⟨[.v (vb r)],[],false⟩:=by
 refine ap Tryz.func213 rfl [(.tmp 4)] rfl (fun r=>⟨[.v (vb r)],[],false⟩) (r:=r) ?_
 unfold fM at h
 refine az aa [1,2,3] [3] ?_
 refine ac ?_
 refine bo h (fun j3=>⟨14,[(4,vb j3)],[]⟩) (fun v4 h=> ?_) (fun j3 h=> ?_)
 refine ab.cl aa 2 [2,3,5,6] [3] ?_
 obtain⟨x1,hx1,h⟩:=bind_some h
 refine ab.ls (xc xN (gJ aN c0 _ hx1)) ?_
 refine ab.cl aa 1 [2,3,8] [3] ?_
 refine ab.cu [(8,fun b=>b)] h (fun h=> ?_) fun h=> ?_
 refine ab.cl aa 3 [8,10,11] [] ?_
 obtain⟨x2,hx2,h⟩:=bind_some h
 refine ab.ls (xc mf (cI aN.Years c1 _ hx2)) ?_
 refine ab.cl aa 2 [4] [] ?_
 refine ab.nil ?_
 obtain rfl:=inj h
 exact Le.an
 refine ab.cl aa 6 [4] [] ?_
 refine ab.nil ?_
 obtain rfl:=inj h
 exact Le.an
 refine ae ?_
 obtain rfl:=inj h
 exact aD (f1 fv)
theorem BO:bg Tryz.prog 213:=au Tryz.func213 (by kernel_rfl) rfl
noncomputable def bT(aS:(List Name))(cX:ByteArray)(aF1:Int):Option (Int):=
 (((cQ (aS.length:Int) (fun(i3:Int) (_:Unit)=>((at' aS i3).bind fun x7=>((fM x7 cX aF1).bind fun x8=>(bif x8 then some (.inr (.inr i3))else some (.inl ()))))) (fun(_:Unit)=> .inl ()) 0 ())).bind (Sum.elim (fun(_:Unit)=>some (-1)) some))
theorem eU(aS:(List Name))(cX:ByteArray)(aF1:Int)(r:Int)(h:bT aS cX aF1=some r):aJ Tryz.prog 197 [.v (vl ar aS),.v (.clo 213 [.ptr [vs cX] 0,.ptr [vi aF1] 0])] ⟨[.v (vi r)],[],false⟩:=by
 refine ap Tryz.func197 rfl [(.tmp 4)] rfl (fun r=>⟨[.v (vi r)],[],false⟩) (r:=r) ?_
 unfold bT at h
 refine az aa [0,1] [] ?_
 refine ac ?_
 refine az aa [0,1,7,8] [] ?_
 refine bi (r:=r) h (fun j1=>⟨19,[],[]⟩) (fun v2 h=> ?_) (fun j1 h=> ?_)
 refine aw (a:=v2) ?_
 refine a7 (r:=v2) (s:=(0,())) _ (fun s3=>⟨19,[(0,vl ar aS),(1,.clo 213 [.ptr [vs cX] 0,.ptr [vi aF1] 0]),(7,vi (aS.length:Int)),(8,vi s3.1)],[]⟩) _ (Le.an) h (fun s3 v4 h=> ?_)
 refine az aa [0,1,7,8,9] [] ?_
 refine ac ?_
 refine ai h (fun h=> ?_) fun h=> ?_
 refine ag ?_
 refine aZ ?_
 refine ac ?_
 refine bp (r:=v4) h (fun j5=>⟨19,[(0,vl ar aS),(1,.clo 213 [.ptr [vs cX] 0,.ptr [vi aF1] 0]),(7,vi (aS.length:Int)),(8,vi s3.1)],[]⟩) (fun v6 h=> ?_) (fun j5 h=> ?_)
 refine aw (a:=v6) ?_
 refine az aa [0,1,5,7,8] [] ?_
 refine sr ?_
 refine ab.cl aa 3 [0,1,5,7,8,11,12,13] [] ?_
 obtain⟨x7,hx7,h⟩:=bind_some h
 refine ab.ls (aG (L:=aS) (f:=ar) (ti:=dh) (tj:=cK) (e:=169) (k:= .i64) aa rfl hx7) ?_
 refine ab.cl aa 1 [0,1,5,7,8,11,15] [] ?_
 obtain⟨x8,hx8,h⟩:=bind_some h
 refine ab.ls (xc BO (l3 x7 cX aF1 _ hx8)) ?_
 refine ab.nx ?_
 refine ai h (fun h=> ?_) fun h=> ?_
 refine az aa [4] [] ?_
 refine ae ?_
 obtain rfl:=inj h
 exact bn (aU (aU (bn (aU (aD (f1 fv))))))
 refine ag ?_
 obtain rfl:=inj h
 exact bP (bZ (Le.an))
 refine aE ?_
 refine ab.cl aa 2 [0,1,7,8] [] ?_
 refine ab.nil ?_
 obtain rfl:=inj h
 exact bZ (Le.an)
 refine aQ ?_
 obtain rfl:=inj h
 exact cn (cr (cq (bZ (Le.an))))
 refine az aa [4] [] ?_
 refine ae ?_
 obtain rfl:=inj h
 exact aD (f1 fv)
noncomputable def fi(ad:(List Name))(bf:ByteArray)(aj:Int):Option (Int×Int):=
 ((((((fA ad).bind fun x3=>(bif(!x3)then some true else((dy bf).bind fun x4=>some (!x4))))).bind fun(j5:Bool)=>(bif j5 then some (.inr (0,1))else((ea aj).bind fun x7=>(bif(!x7)then some (.inr (0,2))else some (.inl ())))))).bind (Sum.elim (fun(_:Unit)=>((bT ad bf aj).bind fun x8=>(bif(decide (x8<0))then some (0,4)else some (x8,0)))) some))
theorem mZ(ad:(List Name))(bf:ByteArray)(aj:Int)(r:Int×Int)(h:fi ad bf aj=some r):aJ Tryz.prog 184 [.v (vl ar ad),.v (vs bf),.v (vi aj)] ⟨[.v (vi r.1),.v (vi r.2)],[],false⟩:=by
 refine ap Tryz.func184 rfl [(.tmp 6),(.tmp 7)] rfl (fun r=>⟨[.v (vi r.1),.v (vi r.2)],[],false⟩) (r:=r) ?_
 unfold fi at h
 refine az aa [0,4,5] [4,5] ?_
 refine ac ?_
 refine bi (r:=r) h (fun j1=>⟨28,[(0,vl ar ad),(4,.ref 4 0),(5,.ref 5 0)],[(4,.box [vs bf]),(5,.box [vi aj])]⟩) (fun v2 h=> ?_) (fun j1 h=> ?_)
 refine aw (a:=v2) ?_
 refine ac ?_
 refine bo h (fun j5=>⟨28,[(0,vl ar ad),(4,.ref 4 0),(5,.ref 5 0),(9,vb j5)],[(4,.box [vs bf]),(5,.box [vi aj])]⟩) (fun v6 h=> ?_) (fun j5 h=> ?_)
 refine ab.cl aa 1 [0,4,5,10] [4,5] ?_
 obtain⟨x3,hx3,h⟩:=bind_some h
 refine ab.ls (xc xH (kD ad _ hx3)) ?_
 refine ab.cl aa 2 [0,4,5,13] [4,5] ?_
 refine ab.cu [(13,fun b=>b)] h (fun h=> ?_) fun h=> ?_
 refine ab.cl aa 5 [0,4,5,9] [4,5] ?_
 refine ab.nil ?_
 obtain rfl:=inj h
 exact Le.an
 refine ab.cl aa 1 [0,4,5,13,14] [4,5] ?_
 obtain⟨x4,hx4,h⟩:=bind_some h
 refine ab.ls (xc wS (gF bf _ hx4)) ?_
 refine ab.cl aa 3 [0,4,5,9] [4,5] ?_
 refine ab.nil ?_
 obtain rfl:=inj h
 exact Le.an
 refine ai h (fun h=> ?_) fun h=> ?_
 refine az aa [6,7] [] ?_
 refine ae ?_
 obtain rfl:=inj h
 exact bn (aU (aD (f2 fv fv)))
 refine sr ?_
 refine ab.cl aa 1 [0,4,5,19] [4,5] ?_
 obtain⟨x7,hx7,h⟩:=bind_some h
 refine ab.ls (xc qB (gX aj _ hx7)) ?_
 refine bQ aa 2 [0,4,5,18] [4,5] ?_
 refine ai h (fun h=> ?_) fun h=> ?_
 refine iy aa ⟨28,[(6,vi 0),(7,vi 2)],[]⟩ ?_
 refine ae ?_
 obtain rfl:=inj h
 exact bn (aU (aD (f2 fv fv)))
 refine ag ?_
 obtain rfl:=inj h
 exact bP (bZ (Le.an))
 refine sr ?_
 refine ab.cl aa 2 [22,23] [4,5] ?_
 obtain⟨x8,hx8,h⟩:=bind_some h
 refine ab.ls (xc tL (eU ad bf aj _ hx8)) ?_
 refine bQ aa 1 [8] [] ?_
 refine ac ?_
 refine az aa [8,26] [] ?_
 refine ai h (fun h=> ?_) fun h=> ?_
 refine az aa [6,7] [] ?_
 refine ae ?_
 obtain rfl:=inj h
 exact bt (aD (f2 fv fv))
 refine ag ?_
 refine aZ ?_
 refine az aa [6,7] [] ?_
 refine ae ?_
 obtain rfl:=inj h
 exact aD (f2 fv fv)
theorem BB:bg Tryz.prog 184:=au Tryz.func184 (by kernel_rfl) rfl
theorem lM(L:List Name)(i j:Int)(r:List Name)(h:dS L i j=some r):jm Tryz.prog 214 [.own 3000000,vi i,vi j] [(3000000,oa 169 5 ar L)] [(3000000,oa 169 5 ar r)] [.own 3000000]:=zq bE L i j r h
theorem BP:bg Tryz.prog 214:=au Tryz.func214 (by kernel_rfl) rfl
noncomputable def iI(ad:(List Name))(aI:Int)(aj:Int)(de:ByteArray):Option ((List Name)):=
 ((du ad).bind fun x1=>((at' x1 aI).bind fun x2=>((at' x1 aI).bind fun x3=>((at' x1 aI).bind fun x4=>((at' (List.set x1 (Int.toNat aI) (Name.mk x4.Text x4.Language x4.Status (Span.mk x4.Years.From (aO (aj - 1))))) aI).bind fun x5=>(((bif(x5.Years.From==aj)then((dS (List.set x1 (Int.toNat aI) (Name.mk x4.Text x4.Language x4.Status (Span.mk x4.Years.From (aO (aj - 1))))) aI (aO (aI+1))).bind fun x8=>some x8)else some (List.set x1 (Int.toNat aI) (Name.mk x4.Text x4.Language x4.Status (Span.mk x4.Years.From (aO (aj - 1))))))).bind fun(j6:(List Name))=>((eg j6 ([(Name.mk de x2.Language 0 (Span.mk aj x3.Years.To))]:List Name)).bind fun x9=>some x9)))))))
theorem o6(ad:(List Name))(aI:Int)(aj:Int)(de:ByteArray)(r:(List Name))(h:iI ad aI aj de=some r):aJ Tryz.prog 185 [.v (vl ar ad),.v (vi aI),.v (vi aj),.v (vs de)] ⟨[.own 169 5 r.length (r.map ar)],[],false⟩:=by
 refine ap Tryz.func185 rfl [(.tmp 8)] rfl (fun r=>⟨[.own 169 5 r.length (r.map ar)],[],false⟩) (r:=r) ?_
 unfold iI at h
 refine az aa [0,1,2,3] [] ?_
 refine sr ?_
 refine ab.cl aa 1 [1,2,3,11] [] ?_
 obtain⟨x1,hx1,h⟩:=bind_some h
 refine ab.ls (xc xM (jd ad _ hx1)) ?_
 refine bQ aa 1 [1,2,3,9] [12] ?_
 refine ac ?_
 refine cO mixed ?_
 refine aY.cl aa false 3 [1,2,9,13,14,15] [12] ?_
 obtain⟨x2,hx2,h⟩:=bind_some h
 refine aY.step (bm (d:=12) (L:=x1) (f:=ar) (ti:=dh) (tj:=cK) (e:=169) (e':=169) (m:=5) (k:= .i64) aa rfl hx2) ?_
 refine aY.cl aa false 1 [1,2,9,13,17] [12] ?_
 refine aY.step (dB (d:=12) (m:=5) (j:=1) (L:=x1) (f:=ar) (ti:=gl) (e:=169) (v:=vs x2.Language) aa rfl hx2) ?_
 refine aY.cl aa false 3 [1,2,9,13,18,19,20,21] [12] ?_
 obtain⟨x3,hx3,h⟩:=bind_some h
 refine aY.step (bm (d:=12) (L:=x1) (f:=ar) (ti:=dh) (tj:=cK) (e:=169) (e':=169) (m:=5) (k:= .i64) aa rfl hx3) ?_
 refine aY.cl aa false 2 [1,2,9,13,18,19,24] [12] ?_
 refine aY.step (dB (d:=12) (m:=5) (j:=4) (L:=x1) (f:=ar) (ti:=ti2) (e:=169) (v:=vi x3.Years.To) aa rfl hx3) ?_
 refine aY.step (br (v:= .agg [vi aj,vi x3.Years.To]) aa rfl) ?_
 refine aY.step (br (v:= .agg [vs de,vs x2.Language,vi 0,vi aj,vi x3.Years.To]) aa rfl) ?_
 refine aY.cl aa false 1 [1,2,9,10,27] [10,12] ?_
 refine aY.seq (by kernel_rfl) (by kernel_rfl) ?_
 refine ckn aa 1 ⟨52,[(1,vi aI),(2,vi aj),(9,.own 12),(10,.ref 10 0)],[(10,.box [vs de,vs x2.Language,vi 0,vi aj,vi x3.Years.To]),(12,oa 169 5 ar x1)]⟩ ?_
 refine sr ?_
 refine ab.cl aa 4 [1,2,9,10,28,29,31] [10,12] ?_
 obtain⟨x4,hx4,h⟩:=bind_some h
 refine ab.ls (bm (d:=12) (L:=x1) (f:=ar) (ti:=dh) (tj:=cK) (e:=169) (e':=169) (m:=5) (k:= .i64) aa rfl hx4) ?_
 refine ab.cl aa 2 [1,2,9,10,31,34] [10,12] ?_
 refine ab.bs (bH (d:=12) (m:=5) (j:=4) (L:=x1) (f:=ar) (x:=(Name.mk x4.Text x4.Language x4.Status (Span.mk x4.Years.From (aO (aj - 1))))) (z:=x4) (ti:=ti2) (e:=169) (ts:=[.int .i64 (aO (aj - 1))]) (vs:=[vi (aO (aj - 1))]) (v:=vi (aO (aj - 1))) aa rfl rfl hx4) ?_
 refine ab.nx ?_
 refine ac ?_
 refine sr ?_
 refine ab.cl aa 2 [1,2,9,10,35,36] [10,12] ?_
 obtain⟨x5,hx5,h⟩:=bind_some h
 refine ab.ls (bm (d:=12) (L:=(List.set x1 (Int.toNat aI) (Name.mk x4.Text x4.Language x4.Status (Span.mk x4.Years.From (aO (aj - 1)))))) (f:=ar) (ti:=dh) (tj:=cK) (e:=169) (e':=169) (m:=5) (k:= .i64) aa rfl hx5) ?_
 refine ab.cl aa 2 [1,2,9,10,39] [10,12] ?_
 refine ab.ls (dB (d:=12) (m:=5) (j:=3) (L:=(List.set x1 (Int.toNat aI) (Name.mk x4.Text x4.Language x4.Status (Span.mk x4.Years.From (aO (aj - 1)))))) (f:=ar) (ti:=ti2) (e:=169) (v:=vi x5.Years.From) aa rfl hx5) ?_
 refine bQ aa 2 [1,9,10,42] [10,12] ?_
 refine ba h (fun j6=>⟨52,[(9,.own 9),(10,.ref 10 0)],[(10,.box [vs de,vs x2.Language,vi 0,vi aj,vi x3.Years.To]),(9,oa 169 5 ar j6)]⟩) (fun v7 h=> ?_) (fun j6 h=> ?_)
 refine ai h (fun h=> ?_) fun h=> ?_
 refine aE ?_
 refine ab.ck aa 4 ⟨52,[(10,.ref 10 0),(43,.own 12),(44,vi aI),(46,vi (aO (aI+1)))],[(10,.box [vs de,vs x2.Language,vi 0,vi aj,vi x3.Years.To]),(12,oa 169 5 ar (List.set x1 (Int.toNat aI) (Name.mk x4.Text x4.Language x4.Status (Span.mk x4.Years.From (aO (aj - 1))))))]⟩ ?_
 obtain⟨x8,hx8,h⟩:=bind_some h
 refine ab.bs (x_w [(3000000,12)] [false,true,true] BP (lM (List.set x1 (Int.toNat aI) (Name.mk x4.Text x4.Language x4.Status (Span.mk x4.Years.From (aO (aj - 1))))) aI (aO (aI+1)) _ hx8)) ?_
 refine ab.cl aa 1 [9,10] [10,12] ?_
 refine ab.nil ?_
 obtain rfl:=inj h
 exact eW (Le.rr [10,12] [(12,9)])
 refine ag ?_
 obtain rfl:=inj h
 exact eW (Le.rr [10,12] [(12,9)])
 refine sr ?_
 refine ab.cl aa 3 [48,50] [9,50] ?_
 obtain⟨x9,hx9,h⟩:=bind_some h
 refine ab.bs (bY (f:=ar) (t:=89) (ti:=dh) (tj:=cK) (zs:=[.string (ByteArray.mk #[]),.string (ByteArray.mk #[]),.int .i64 0,.int .i64 0,.int .i64 0]) (e:=169) (m:=5) (d:=9) (xv:= .own 50) hx9 aa rfl rfl rfl rfl (dI (e:=169))) ?_
 refine bQ aa 1 [8] [51] ?_
 refine ae ?_
 obtain rfl:=inj h
 exact aD (f1 (fo bE))
theorem BC:bg Tryz.prog 185:=au Tryz.func185 (by kernel_rfl) rfl
noncomputable def gK(ad:(List Name))(bf:ByteArray)(aj:Int)(de:ByteArray):Option ((List Name)×Int):=
 ((ej de).bind fun x1=>(bif(!x1)then some (([]:List Name),1)else((fi ad bf aj).bind fun x2=>(bif(x2.2 !=0)then some (([]:List Name),x2.2)else((iI ad x2.1 aj de).bind fun x3=>(bif(decide ((x3.length:Int)>12))then some (([]:List Name),3)else some (x3,0)))))))
theorem oi(ad:(List Name))(bf:ByteArray)(aj:Int)(de:ByteArray)(r:(List Name)×Int)(h:gK ad bf aj de=some r):aJ Tryz.prog 141 [.v (vl ar ad),.v (vs bf),.v (vi aj),.v (vs de)] ⟨[.own 169 5 r.1.length (r.1.map ar),.v (vi r.2)],[],false⟩:=by
 refine ap Tryz.func141 rfl [(.tmp 8),(.tmp 9)] rfl (fun r=>⟨[.own 169 5 r.1.length (r.1.map ar),.v (vi r.2)],[],false⟩) (r:=r) ?_
 unfold gK at h
 refine az aa [0,1,2,3] [] ?_
 refine ac ?_
 refine sr ?_
 refine ab.cl aa 1 [0,1,2,3,13] [] ?_
 obtain⟨x1,hx1,h⟩:=bind_some h
 refine ab.ls (xc wT (iC de _ hx1)) ?_
 refine bQ aa 1 [0,1,2,3,15] [] ?_
 refine ai h (fun h=> ?_) fun h=> ?_
 refine az aa [8,9] [8] ?_
 refine ae ?_
 obtain rfl:=inj h
 exact bt (aD (f2 (fo bE) fv))
 refine ag ?_
 refine aZ ?_
 refine sr ?_
 refine ab.cl aa 3 [0,2,3,17,18,19] [] ?_
 obtain⟨x2,hx2,h⟩:=bind_some h
 refine ab.ls (xc BB (mZ ad bf aj _ hx2)) ?_
 refine bQ aa 5 [0,2,3,10,11] [] ?_
 refine ac ?_
 refine az aa [0,2,3,10,11,24] [] ?_
 refine ai h (fun h=> ?_) fun h=> ?_
 refine az aa [8,9] [8] ?_
 refine ae ?_
 obtain rfl:=inj h
 exact bt (aD (f2 (fo bE) fv))
 refine ag ?_
 refine aZ ?_
 refine sr ?_
 refine ab.ck aa 4 ⟨35,[(26,vl ar ad),(27,vi x2.1),(28,vi aj),(29,vs de)],[]⟩ ?_
 obtain⟨x3,hx3,h⟩:=bind_some h
 refine ab.ls (xc BC (o6 ad x2.1 aj de _ hx3)) ?_
 refine bQ aa 1 [12] [30] ?_
 refine ac ?_
 refine az aa [12,33] [30] ?_
 refine ai h (fun h=> ?_) fun h=> ?_
 refine az aa [8,9] [8] ?_
 refine ae ?_
 obtain rfl:=inj h
 exact bt (aD (f2 (fo bE) fv))
 refine ag ?_
 refine aZ ?_
 refine az aa [8,9] [30] ?_
 refine ae ?_
 obtain rfl:=inj h
 exact aD (f2 (fo bE) fv)
theorem Bk:bg Tryz.prog 141:=au Tryz.func141 (by kernel_rfl) rfl
noncomputable def dZ(aW:World)(aC:Change):Option (Int×World):=
 ((cg aW.Places aC.Code).bind fun x1=>((at' aW.Places x1.1).bind fun x2=>((gK x2.Names aC.Language aC.Year aC.Text).bind fun x3=>(((bif(x3.2==0)then((at' aW.Places x1.1).bind fun x6=>some ((List.set aW.Places (Int.toNat x1.1) (Place.mk x6.Code x6.Class x6.Years x3.1)),aW.Links))else some (aW.Places,aW.Links))).bind fun(j4:(List Place)×(List ax))=>some (x3.2,(World.mk j4.1 j4.2))))))
theorem lZ(aW:World)(aC:Change)(r:Int×World)(h:dZ aW aC=some r):jm Tryz.prog 90 [.ref 1000000 0,.agg (tc ak aC)] [(1000000,.box [.own 3000000,.own 3000001]),(3000000,.deep 91 5 aW.Places.length [.flat,.flat,.flat,.flat,(.sl 169 5 [.flat,.flat,.flat,.flat,.flat])] (aW.Places.map af)),(3000001,oa 85 4 ah aW.Links)] [(1000000,.box [.own 3000000,.own 3000001]),(3000000,.deep 91 5 r.2.Places.length [.flat,.flat,.flat,.flat,(.sl 169 5 [.flat,.flat,.flat,.flat,.flat])] (r.2.Places.map af)),(3000001,oa 85 4 ah r.2.Links)] [vi r.1]:=by
 refine gT Tryz.func90 rfl [(.tmp 4)] rfl (fun r=>[(1000000,.box [.own 3000000,.own 3000001]),(3000000,.deep 91 5 r.2.Places.length [.flat,.flat,.flat,.flat,(.sl 169 5 [.flat,.flat,.flat,.flat,.flat])] (r.2.Places.map af)),(3000001,oa 85 4 ah r.2.Links)]) (fun r=>[vi r.1]) (r:=r) (cf SV.ew (cf trivial (cf (cd c8 _) jj))) ?_
 unfold dZ at h
 refine az aa [0,3] [3,1000000,3000000,3000001] ?_
 refine ac ?_
 refine cO mixed ?_
 refine aY.cl aa false 6 [0,3,13,15] [3,1000000,3000000,3000001] ?_
 obtain⟨x1,hx1,h⟩:=bind_some h
 refine aY.step (xc n6 (dR aW.Places aC.Code _ hx1)) ?_
 refine aY.cl aa false 5 [0,3,5] [3,1000000,3000000,3000001] ?_
 refine aY.nx ?_
 refine ac ?_
 obtain⟨x2,hx2,h⟩:=bind_some h
 obtain⟨x3,hx3,h⟩:=bind_some h
 refine cO mixed ?_
 refine aY.BT (σE:=⟨48,[(0,.ref 1000000 0),(5,vi x1.1),(7,.own 34),(8,vi x3.2)],[(34,oa 169 5 ar x3.1),(1000000,.box [.own 3000000,.own 3000001]),(3000000,.deep 91 5 aW.Places.length [.flat,.flat,.flat,.flat,(.sl 169 5 [.flat,.flat,.flat,.flat,.flat])] (aW.Places.map af)),(3000001,oa 85 4 ah aW.Links)]⟩) (n:=20) (L0:=(bA 20 0)) (by kernel_rfl) (by kernel_rfl) (fun K hk=> ?_) ?_
 refine DE.sh 0 (bA 20 1048575) ⟨48,[(0,.ref 1000000 0),(5,vi x1.1),(7,.own 34),(8,vi x3.2)],[(34,oa 169 5 ar x3.1),(1000000,.box [.own 3000000,.own 3000001]),(3000000,.deep 91 5 aW.Places.length [.flat,.flat,.flat,.flat,(.sl 169 5 [.flat,.flat,.flat,.flat,.flat])] (aW.Places.map af)),(3000001,oa 85 4 ah aW.Links)]⟩ ?_ fun d54=> ?_
 exact DE.done (by kernel_rfl) hk
 refine DE.sh 1 (bA 20 524287) ⟨48,[(0,.ref 1000000 0),(5,vi x1.1),(7,.own 34),(36,vi x3.2)],[(34,oa 169 5 ar x3.1),(1000000,.box [.own 3000000,.own 3000001]),(3000000,.deep 91 5 aW.Places.length [.flat,.flat,.flat,.flat,(.sl 169 5 [.flat,.flat,.flat,.flat,.flat])] (aW.Places.map af)),(3000001,oa 85 4 ah aW.Links)]⟩ ?_ fun d53=> ?_
 exact DE.tk 19 d54 rfl (.inr rfl) (ay.n aa)
 refine DE.sh 2 (bA 20 262143) ⟨48,[(0,.ref 1000000 0),(5,vi x1.1),(35,.own 34),(36,vi x3.2)],[(34,oa 169 5 ar x3.1),(1000000,.box [.own 3000000,.own 3000001]),(3000000,.deep 91 5 aW.Places.length [.flat,.flat,.flat,.flat,(.sl 169 5 [.flat,.flat,.flat,.flat,.flat])] (aW.Places.map af)),(3000001,oa 85 4 ah aW.Links)]⟩ ?_ fun d52=> ?_
 exact DE.tk 18 d53 rfl (.inr rfl) (ay.n aa)
 refine DE.sh 2 (bA 20 393215) ⟨48,[(0,.ref 1000000 0),(5,vi x1.1),(7,.own 34),(19,.tup [.own 34,vi x3.2])],[(34,oa 169 5 ar x3.1),(1000000,.box [.own 3000000,.own 3000001]),(3000000,.deep 91 5 aW.Places.length [.flat,.flat,.flat,.flat,(.sl 169 5 [.flat,.flat,.flat,.flat,.flat])] (aW.Places.map af)),(3000001,oa 85 4 ah aW.Links)]⟩ ?_ fun d51=> ?_
 exact DE.a1 17 d53 rfl (ay.n aa)
 refine DE.sh 3 (bA 20 196607) ⟨48,[(0,.ref 1000000 0),(5,vi x1.1),(19,.tup [.own 34,vi x3.2]),(36,vi x3.2)],[(34,oa 169 5 ar x3.1),(1000000,.box [.own 3000000,.own 3000001]),(3000000,.deep 91 5 aW.Places.length [.flat,.flat,.flat,.flat,(.sl 169 5 [.flat,.flat,.flat,.flat,.flat])] (aW.Places.map af)),(3000001,oa 85 4 ah aW.Links)]⟩ ?_ fun d50=> ?_
 exact DE.a1 16 d52 rfl (ay.n aa)
 refine DE.sh 3 (bA 20 131071) ⟨48,[(0,.ref 1000000 0),(5,vi x1.1),(19,.tup [.own 34,vi x3.2]),(35,.own 34)],[(34,oa 169 5 ar x3.1),(1000000,.box [.own 3000000,.own 3000001]),(3000000,.deep 91 5 aW.Places.length [.flat,.flat,.flat,.flat,(.sl 169 5 [.flat,.flat,.flat,.flat,.flat])] (aW.Places.map af)),(3000001,oa 85 4 ah aW.Links)]⟩ ?_ fun d49=> ?_
 exact DE.tk 18 d51 rfl (.inr rfl) (ay.n aa)
 refine DE.sh 4 (bA 20 65535) ⟨48,[(0,.ref 1000000 0),(5,vi x1.1),(19,.tup [.own 34,vi x3.2])],[(34,oa 169 5 ar x3.1),(1000000,.box [.own 3000000,.own 3000001]),(3000000,.deep 91 5 aW.Places.length [.flat,.flat,.flat,.flat,(.sl 169 5 [.flat,.flat,.flat,.flat,.flat])] (aW.Places.map af)),(3000001,oa 85 4 ah aW.Links)]⟩ ?_ fun d48=> ?_
 exact DE.al (.c 16 d49 rfl (ay.n aa) (.c 17 d50 rfl (ay.n aa) .n))
 refine DE.sh 5 (bA 20 32767) ⟨48,[(0,.ref 1000000 0),(5,vi x1.1),(34,.tup [.own 34,vi x3.2])],[(34,oa 169 5 ar x3.1),(1000000,.box [.own 3000000,.own 3000001]),(3000000,.deep 91 5 aW.Places.length [.flat,.flat,.flat,.flat,(.sl 169 5 [.flat,.flat,.flat,.flat,.flat])] (aW.Places.map af)),(3000001,oa 85 4 ah aW.Links)]⟩ ?_ fun d47=> ?_
 exact DE.tk 15 d48 rfl (.inl rfl) (ay.n aa)
 refine DE.sh 6 (bA 20 16383) ⟨48,[(0,.ref 1000000 0),(5,vi x1.1),(27,.own 3001027),(29,vs aC.Language),(31,vi aC.Year),(33,vs aC.Text)],[(1000000,.box [.own 3000000,.own 3000001]),(3000000,.hol 91 5 aW.Places.length [.flat,.flat,.flat,.flat,(.sl 169 5 [.flat,.flat,.flat,.flat,.flat])] (aW.Places.map af) (Int.toNat x1.1) 4 3001027),(3000001,oa 85 4 ah aW.Links),(3001027,oa 169 5 ar x2.Names)]⟩ ?_ fun d46=> ?_
 exact DE.a1 14 d47 rfl (ay.le (ay.le (ay.ofL (xc Bk (oi x2.Names aC.Language aC.Year aC.Text _ hx3)) (by kernel_rfl)) (sd (L:=aW.Places) (f:=af) (x:=x2) (d:=3000000) (k:=3001027) (e:=91) (m:=5) (j:=4) (e':=169) (m':=5) (n':=x2.Names.length) (ss:=[.flat,.flat,.flat,.flat,(.sl 169 5 [.flat,.flat,.flat,.flat,.flat])]) (ss':=[.flat,.flat,.flat,.flat,.flat]) (es':=x2.Names.map ar) hx2 (cd bE _))) Le.an)
 refine DE.sh 7 (bA 20 16255) ⟨48,[(0,.ref 1000000 0),(5,vi x1.1),(26,.eref 3000000 5 (Int.toNat x1.1) 4),(29,vs aC.Language),(31,vi aC.Year),(33,vs aC.Text)],[(1000000,.box [.own 3000000,.own 3000001]),(3000000,.deep 91 5 aW.Places.length [.flat,.flat,.flat,.flat,(.sl 169 5 [.flat,.flat,.flat,.flat,.flat])] (aW.Places.map af)),(3000001,oa 85 4 ah aW.Links)]⟩ ?_ fun d45=> ?_
 exact DE.a1 7 d46 rfl (ay.le (jX (L:=aW.Places) (f:=af) (d:=3000000) (k:=3001027) (e:=91) (m:=5) (j:=4) (e':=169) (m':=5) (n':=x2.Names.length) (ss:=[.flat,.flat,.flat,.flat,(.sl 169 5 [.flat,.flat,.flat,.flat,.flat])]) (ss':=[.flat,.flat,.flat,.flat,.flat]) (es':=x2.Names.map ar) (ti:=dh) (y:=oa 169 5 ar x2.Names) hx2 aa rfl rfl (.inr ⟨rfl,rfl⟩)) Le.an)
 refine DE.sh 7 (bA 20 15871) ⟨48,[(0,.ref 1000000 0),(5,vi x1.1),(27,.own 3001027),(28,.ref 3 4),(31,vi aC.Year),(33,vs aC.Text)],[(3,.box (tc ak aC)),(1000000,.box [.own 3000000,.own 3000001]),(3000000,.hol 91 5 aW.Places.length [.flat,.flat,.flat,.flat,(.sl 169 5 [.flat,.flat,.flat,.flat,.flat])] (aW.Places.map af) (Int.toNat x1.1) 4 3001027),(3000001,oa 85 4 ah aW.Links),(3001027,oa 169 5 ar x2.Names)]⟩ ?_ fun d44=> ?_
 exact DE.a1 9 d46 rfl (ay.n aa)
 refine DE.sh 7 (bA 20 14335) ⟨48,[(0,.ref 1000000 0),(5,vi x1.1),(27,.own 3001027),(29,vs aC.Language),(30,.ref 3 0),(33,vs aC.Text)],[(3,.box (tc ak aC)),(1000000,.box [.own 3000000,.own 3000001]),(3000000,.hol 91 5 aW.Places.length [.flat,.flat,.flat,.flat,(.sl 169 5 [.flat,.flat,.flat,.flat,.flat])] (aW.Places.map af) (Int.toNat x1.1) 4 3001027),(3000001,oa 85 4 ah aW.Links),(3001027,oa 169 5 ar x2.Names)]⟩ ?_ fun d43=> ?_
 exact DE.a1 11 d46 rfl (ay.n aa)
 refine DE.sh 7 (bA 20 8191) ⟨48,[(0,.ref 1000000 0),(5,vi x1.1),(27,.own 3001027),(29,vs aC.Language),(31,vi aC.Year),(32,.ref 3 5)],[(3,.box (tc ak aC)),(1000000,.box [.own 3000000,.own 3000001]),(3000000,.hol 91 5 aW.Places.length [.flat,.flat,.flat,.flat,(.sl 169 5 [.flat,.flat,.flat,.flat,.flat])] (aW.Places.map af) (Int.toNat x1.1) 4 3001027),(3000001,oa 85 4 ah aW.Links),(3001027,oa 169 5 ar x2.Names)]⟩ ?_ fun d42=> ?_
 exact DE.a1 13 d46 rfl (ay.n aa)
 refine DE.sh 8 (bA 20 16191) ⟨48,[(0,.ref 1000000 0),(5,vi x1.1),(25,.eref 3000000 5 (Int.toNat x1.1) 0),(29,vs aC.Language),(31,vi aC.Year),(33,vs aC.Text)],[(1000000,.box [.own 3000000,.own 3000001]),(3000000,.deep 91 5 aW.Places.length [.flat,.flat,.flat,.flat,(.sl 169 5 [.flat,.flat,.flat,.flat,.flat])] (aW.Places.map af)),(3000001,oa 85 4 ah aW.Links)]⟩ ?_ fun d41=> ?_
 exact DE.tw aa 6 d45 rfl (ay.n aa)
 refine DE.sh 8 (bA 20 15743) ⟨48,[(0,.ref 1000000 0),(5,vi x1.1),(26,.eref 3000000 5 (Int.toNat x1.1) 4),(28,.ref 3 4),(31,vi aC.Year),(33,vs aC.Text)],[(3,.box (tc ak aC)),(1000000,.box [.own 3000000,.own 3000001]),(3000000,.deep 91 5 aW.Places.length [.flat,.flat,.flat,.flat,(.sl 169 5 [.flat,.flat,.flat,.flat,.flat])] (aW.Places.map af)),(3000001,oa 85 4 ah aW.Links)]⟩ ?_ fun d40=> ?_
 exact DE.al (.c 7 d44 rfl (ay.le (jX (L:=aW.Places) (f:=af) (d:=3000000) (k:=3001027) (e:=91) (m:=5) (j:=4) (e':=169) (m':=5) (n':=x2.Names.length) (ss:=[.flat,.flat,.flat,.flat,(.sl 169 5 [.flat,.flat,.flat,.flat,.flat])]) (ss':=[.flat,.flat,.flat,.flat,.flat]) (es':=x2.Names.map ar) (ti:=dh) (y:=oa 169 5 ar x2.Names) hx2 aa rfl rfl (.inr ⟨rfl,rfl⟩)) Le.an) (.c 9 d45 rfl (ay.n aa) .n))
 refine DE.sh 8 (bA 20 14207) ⟨48,[(0,.ref 1000000 0),(5,vi x1.1),(26,.eref 3000000 5 (Int.toNat x1.1) 4),(29,vs aC.Language),(30,.ref 3 0),(33,vs aC.Text)],[(3,.box (tc ak aC)),(1000000,.box [.own 3000000,.own 3000001]),(3000000,.deep 91 5 aW.Places.length [.flat,.flat,.flat,.flat,(.sl 169 5 [.flat,.flat,.flat,.flat,.flat])] (aW.Places.map af)),(3000001,oa 85 4 ah aW.Links)]⟩ ?_ fun d39=> ?_
 exact DE.al (.c 7 d43 rfl (ay.le (jX (L:=aW.Places) (f:=af) (d:=3000000) (k:=3001027) (e:=91) (m:=5) (j:=4) (e':=169) (m':=5) (n':=x2.Names.length) (ss:=[.flat,.flat,.flat,.flat,(.sl 169 5 [.flat,.flat,.flat,.flat,.flat])]) (ss':=[.flat,.flat,.flat,.flat,.flat]) (es':=x2.Names.map ar) (ti:=dh) (y:=oa 169 5 ar x2.Names) hx2 aa rfl rfl (.inr ⟨rfl,rfl⟩)) Le.an) (.c 11 d45 rfl (ay.n aa) .n))
 refine DE.sh 8 (bA 20 8063) ⟨48,[(0,.ref 1000000 0),(5,vi x1.1),(26,.eref 3000000 5 (Int.toNat x1.1) 4),(29,vs aC.Language),(31,vi aC.Year),(32,.ref 3 5)],[(3,.box (tc ak aC)),(1000000,.box [.own 3000000,.own 3000001]),(3000000,.deep 91 5 aW.Places.length [.flat,.flat,.flat,.flat,(.sl 169 5 [.flat,.flat,.flat,.flat,.flat])] (aW.Places.map af)),(3000001,oa 85 4 ah aW.Links)]⟩ ?_ fun d38=> ?_
 exact DE.al (.c 7 d42 rfl (ay.le (jX (L:=aW.Places) (f:=af) (d:=3000000) (k:=3001027) (e:=91) (m:=5) (j:=4) (e':=169) (m':=5) (n':=x2.Names.length) (ss:=[.flat,.flat,.flat,.flat,(.sl 169 5 [.flat,.flat,.flat,.flat,.flat])]) (ss':=[.flat,.flat,.flat,.flat,.flat]) (es':=x2.Names.map ar) (ti:=dh) (y:=oa 169 5 ar x2.Names) hx2 aa rfl rfl (.inr ⟨rfl,rfl⟩)) Le.an) (.c 13 d45 rfl (ay.n aa) .n))
 refine DE.sh 8 (bA 20 13823) ⟨48,[(0,.ref 1000000 0),(5,vi x1.1),(27,.own 3001027),(28,.ref 3 4),(30,.ref 3 0),(33,vs aC.Text)],[(3,.box (tc ak aC)),(1000000,.box [.own 3000000,.own 3000001]),(3000000,.hol 91 5 aW.Places.length [.flat,.flat,.flat,.flat,(.sl 169 5 [.flat,.flat,.flat,.flat,.flat])] (aW.Places.map af) (Int.toNat x1.1) 4 3001027),(3000001,oa 85 4 ah aW.Links),(3001027,oa 169 5 ar x2.Names)]⟩ ?_ fun d37=> ?_
 exact DE.al (.c 9 d43 rfl (ay.n aa) (.c 11 d44 rfl (ay.n aa) .n))
 refine DE.sh 8 (bA 20 7679) ⟨48,[(0,.ref 1000000 0),(5,vi x1.1),(27,.own 3001027),(28,.ref 3 4),(31,vi aC.Year),(32,.ref 3 5)],[(3,.box (tc ak aC)),(1000000,.box [.own 3000000,.own 3000001]),(3000000,.hol 91 5 aW.Places.length [.flat,.flat,.flat,.flat,(.sl 169 5 [.flat,.flat,.flat,.flat,.flat])] (aW.Places.map af) (Int.toNat x1.1) 4 3001027),(3000001,oa 85 4 ah aW.Links),(3001027,oa 169 5 ar x2.Names)]⟩ ?_ fun d36=> ?_
 exact DE.al (.c 9 d42 rfl (ay.n aa) (.c 13 d44 rfl (ay.n aa) .n))
 refine DE.sh 8 (bA 20 6143) ⟨48,[(0,.ref 1000000 0),(5,vi x1.1),(27,.own 3001027),(29,vs aC.Language),(30,.ref 3 0),(32,.ref 3 5)],[(3,.box (tc ak aC)),(1000000,.box [.own 3000000,.own 3000001]),(3000000,.hol 91 5 aW.Places.length [.flat,.flat,.flat,.flat,(.sl 169 5 [.flat,.flat,.flat,.flat,.flat])] (aW.Places.map af) (Int.toNat x1.1) 4 3001027),(3000001,oa 85 4 ah aW.Links),(3001027,oa 169 5 ar x2.Names)]⟩ ?_ fun d35=> ?_
 exact DE.al (.c 11 d42 rfl (ay.n aa) (.c 13 d43 rfl (ay.n aa) .n))
 refine DE.sh 9 (bA 20 15679) ⟨48,[(0,.ref 1000000 0),(5,vi x1.1),(25,.eref 3000000 5 (Int.toNat x1.1) 0),(28,.ref 3 4),(31,vi aC.Year),(33,vs aC.Text)],[(3,.box (tc ak aC)),(1000000,.box [.own 3000000,.own 3000001]),(3000000,.deep 91 5 aW.Places.length [.flat,.flat,.flat,.flat,(.sl 169 5 [.flat,.flat,.flat,.flat,.flat])] (aW.Places.map af)),(3000001,oa 85 4 ah aW.Links)]⟩ ?_ fun d34=> ?_
 exact DE.tw aa 6 d40 rfl (ay.n aa)
 refine DE.sh 9 (bA 20 14143) ⟨48,[(0,.ref 1000000 0),(5,vi x1.1),(25,.eref 3000000 5 (Int.toNat x1.1) 0),(29,vs aC.Language),(30,.ref 3 0),(33,vs aC.Text)],[(3,.box (tc ak aC)),(1000000,.box [.own 3000000,.own 3000001]),(3000000,.deep 91 5 aW.Places.length [.flat,.flat,.flat,.flat,(.sl 169 5 [.flat,.flat,.flat,.flat,.flat])] (aW.Places.map af)),(3000001,oa 85 4 ah aW.Links)]⟩ ?_ fun d33=> ?_
 exact DE.tw aa 6 d39 rfl (ay.n aa)
 refine DE.sh 9 (bA 20 16159) ⟨48,[(0,.ref 1000000 0),(5,vi x1.1),(23,.own 3000000),(24,vi x1.1),(29,vs aC.Language),(31,vi aC.Year),(33,vs aC.Text)],[(1000000,.box [.own 3000000,.own 3000001]),(3000000,.deep 91 5 aW.Places.length [.flat,.flat,.flat,.flat,(.sl 169 5 [.flat,.flat,.flat,.flat,.flat])] (aW.Places.map af)),(3000001,oa 85 4 ah aW.Links)]⟩ ?_ fun d32=> ?_
 exact DE.a1 5 d41 rfl (ay.l (bL (d:=3000000) (L:=aW.Places) (f:=af) (ti:=cP) (tj:=cm) (e:=91) (e':=91) (m:=5) (k:= .i64) (ss:=[.flat,.flat,.flat,.flat,(.sl 169 5 [.flat,.flat,.flat,.flat,.flat])]) aa rfl hx2))
 refine DE.sh 9 (bA 20 7999) ⟨48,[(0,.ref 1000000 0),(5,vi x1.1),(25,.eref 3000000 5 (Int.toNat x1.1) 0),(29,vs aC.Language),(31,vi aC.Year),(32,.ref 3 5)],[(3,.box (tc ak aC)),(1000000,.box [.own 3000000,.own 3000001]),(3000000,.deep 91 5 aW.Places.length [.flat,.flat,.flat,.flat,(.sl 169 5 [.flat,.flat,.flat,.flat,.flat])] (aW.Places.map af)),(3000001,oa 85 4 ah aW.Links)]⟩ ?_ fun d31=> ?_
 exact DE.tw aa 6 d38 rfl (ay.n aa)
 refine DE.sh 9 (bA 20 13695) ⟨48,[(0,.ref 1000000 0),(5,vi x1.1),(26,.eref 3000000 5 (Int.toNat x1.1) 4),(28,.ref 3 4),(30,.ref 3 0),(33,vs aC.Text)],[(3,.box (tc ak aC)),(1000000,.box [.own 3000000,.own 3000001]),(3000000,.deep 91 5 aW.Places.length [.flat,.flat,.flat,.flat,(.sl 169 5 [.flat,.flat,.flat,.flat,.flat])] (aW.Places.map af)),(3000001,oa 85 4 ah aW.Links)]⟩ ?_ fun d30=> ?_
 exact DE.al (.c 7 d37 rfl (ay.le (jX (L:=aW.Places) (f:=af) (d:=3000000) (k:=3001027) (e:=91) (m:=5) (j:=4) (e':=169) (m':=5) (n':=x2.Names.length) (ss:=[.flat,.flat,.flat,.flat,(.sl 169 5 [.flat,.flat,.flat,.flat,.flat])]) (ss':=[.flat,.flat,.flat,.flat,.flat]) (es':=x2.Names.map ar) (ti:=dh) (y:=oa 169 5 ar x2.Names) hx2 aa rfl rfl (.inr ⟨rfl,rfl⟩)) Le.an) (.c 9 d39 rfl (ay.n aa) (.c 11 d40 rfl (ay.n aa) .n)))
 refine DE.sh 9 (bA 20 7551) ⟨48,[(0,.ref 1000000 0),(5,vi x1.1),(26,.eref 3000000 5 (Int.toNat x1.1) 4),(28,.ref 3 4),(31,vi aC.Year),(32,.ref 3 5)],[(3,.box (tc ak aC)),(1000000,.box [.own 3000000,.own 3000001]),(3000000,.deep 91 5 aW.Places.length [.flat,.flat,.flat,.flat,(.sl 169 5 [.flat,.flat,.flat,.flat,.flat])] (aW.Places.map af)),(3000001,oa 85 4 ah aW.Links)]⟩ ?_ fun d29=> ?_
 exact DE.al (.c 7 d36 rfl (ay.le (jX (L:=aW.Places) (f:=af) (d:=3000000) (k:=3001027) (e:=91) (m:=5) (j:=4) (e':=169) (m':=5) (n':=x2.Names.length) (ss:=[.flat,.flat,.flat,.flat,(.sl 169 5 [.flat,.flat,.flat,.flat,.flat])]) (ss':=[.flat,.flat,.flat,.flat,.flat]) (es':=x2.Names.map ar) (ti:=dh) (y:=oa 169 5 ar x2.Names) hx2 aa rfl rfl (.inr ⟨rfl,rfl⟩)) Le.an) (.c 9 d38 rfl (ay.n aa) (.c 13 d40 rfl (ay.n aa) .n)))
 refine DE.sh 9 (bA 20 6015) ⟨48,[(0,.ref 1000000 0),(5,vi x1.1),(26,.eref 3000000 5 (Int.toNat x1.1) 4),(29,vs aC.Language),(30,.ref 3 0),(32,.ref 3 5)],[(3,.box (tc ak aC)),(1000000,.box [.own 3000000,.own 3000001]),(3000000,.deep 91 5 aW.Places.length [.flat,.flat,.flat,.flat,(.sl 169 5 [.flat,.flat,.flat,.flat,.flat])] (aW.Places.map af)),(3000001,oa 85 4 ah aW.Links)]⟩ ?_ fun d28=> ?_
 exact DE.al (.c 7 d35 rfl (ay.le (jX (L:=aW.Places) (f:=af) (d:=3000000) (k:=3001027) (e:=91) (m:=5) (j:=4) (e':=169) (m':=5) (n':=x2.Names.length) (ss:=[.flat,.flat,.flat,.flat,(.sl 169 5 [.flat,.flat,.flat,.flat,.flat])]) (ss':=[.flat,.flat,.flat,.flat,.flat]) (es':=x2.Names.map ar) (ti:=dh) (y:=oa 169 5 ar x2.Names) hx2 aa rfl rfl (.inr ⟨rfl,rfl⟩)) Le.an) (.c 11 d38 rfl (ay.n aa) (.c 13 d39 rfl (ay.n aa) .n)))
 refine DE.sh 9 (bA 20 5631) ⟨48,[(0,.ref 1000000 0),(5,vi x1.1),(27,.own 3001027),(28,.ref 3 4),(30,.ref 3 0),(32,.ref 3 5)],[(3,.box (tc ak aC)),(1000000,.box [.own 3000000,.own 3000001]),(3000000,.hol 91 5 aW.Places.length [.flat,.flat,.flat,.flat,(.sl 169 5 [.flat,.flat,.flat,.flat,.flat])] (aW.Places.map af) (Int.toNat x1.1) 4 3001027),(3000001,oa 85 4 ah aW.Links),(3001027,oa 169 5 ar x2.Names)]⟩ ?_ fun d27=> ?_
 exact DE.al (.c 9 d35 rfl (ay.n aa) (.c 11 d36 rfl (ay.n aa) (.c 13 d37 rfl (ay.n aa) .n)))
 refine DE.sh 10 (bA 20 16151) ⟨48,[(0,.ref 1000000 0),(5,vi x1.1),(22,.ref 1000000 0),(24,vi x1.1),(29,vs aC.Language),(31,vi aC.Year),(33,vs aC.Text)],[(1000000,.box [.own 3000000,.own 3000001]),(3000000,.deep 91 5 aW.Places.length [.flat,.flat,.flat,.flat,(.sl 169 5 [.flat,.flat,.flat,.flat,.flat])] (aW.Places.map af)),(3000001,oa 85 4 ah aW.Links)]⟩ ?_ fun d26=> ?_
 exact DE.a1 3 d32 rfl (ay.n aa)
 refine DE.sh 10 (bA 20 13631) ⟨48,[(0,.ref 1000000 0),(5,vi x1.1),(25,.eref 3000000 5 (Int.toNat x1.1) 0),(28,.ref 3 4),(30,.ref 3 0),(33,vs aC.Text)],[(3,.box (tc ak aC)),(1000000,.box [.own 3000000,.own 3000001]),(3000000,.deep 91 5 aW.Places.length [.flat,.flat,.flat,.flat,(.sl 169 5 [.flat,.flat,.flat,.flat,.flat])] (aW.Places.map af)),(3000001,oa 85 4 ah aW.Links)]⟩ ?_ fun d25=> ?_
 exact DE.tw aa 6 d30 rfl (ay.n aa)
 refine DE.sh 10 (bA 20 15647) ⟨48,[(0,.ref 1000000 0),(5,vi x1.1),(23,.own 3000000),(24,vi x1.1),(28,.ref 3 4),(31,vi aC.Year),(33,vs aC.Text)],[(3,.box (tc ak aC)),(1000000,.box [.own 3000000,.own 3000001]),(3000000,.deep 91 5 aW.Places.length [.flat,.flat,.flat,.flat,(.sl 169 5 [.flat,.flat,.flat,.flat,.flat])] (aW.Places.map af)),(3000001,oa 85 4 ah aW.Links)]⟩ ?_ fun d24=> ?_
 exact DE.al (.c 5 d34 rfl (ay.l (bL (d:=3000000) (L:=aW.Places) (f:=af) (ti:=cP) (tj:=cm) (e:=91) (e':=91) (m:=5) (k:= .i64) (ss:=[.flat,.flat,.flat,.flat,(.sl 169 5 [.flat,.flat,.flat,.flat,.flat])]) aa rfl hx2)) (.c 9 d32 rfl (ay.n aa) .n))
 refine DE.sh 10 (bA 20 7487) ⟨48,[(0,.ref 1000000 0),(5,vi x1.1),(25,.eref 3000000 5 (Int.toNat x1.1) 0),(28,.ref 3 4),(31,vi aC.Year),(32,.ref 3 5)],[(3,.box (tc ak aC)),(1000000,.box [.own 3000000,.own 3000001]),(3000000,.deep 91 5 aW.Places.length [.flat,.flat,.flat,.flat,(.sl 169 5 [.flat,.flat,.flat,.flat,.flat])] (aW.Places.map af)),(3000001,oa 85 4 ah aW.Links)]⟩ ?_ fun d23=> ?_
 exact DE.tw aa 6 d29 rfl (ay.n aa)
 refine DE.sh 10 (bA 20 14111) ⟨48,[(0,.ref 1000000 0),(5,vi x1.1),(23,.own 3000000),(24,vi x1.1),(29,vs aC.Language),(30,.ref 3 0),(33,vs aC.Text)],[(3,.box (tc ak aC)),(1000000,.box [.own 3000000,.own 3000001]),(3000000,.deep 91 5 aW.Places.length [.flat,.flat,.flat,.flat,(.sl 169 5 [.flat,.flat,.flat,.flat,.flat])] (aW.Places.map af)),(3000001,oa 85 4 ah aW.Links)]⟩ ?_ fun d22=> ?_
 exact DE.al (.c 5 d33 rfl (ay.l (bL (d:=3000000) (L:=aW.Places) (f:=af) (ti:=cP) (tj:=cm) (e:=91) (e':=91) (m:=5) (k:= .i64) (ss:=[.flat,.flat,.flat,.flat,(.sl 169 5 [.flat,.flat,.flat,.flat,.flat])]) aa rfl hx2)) (.c 11 d32 rfl (ay.n aa) .n))
 refine DE.sh 10 (bA 20 7967) ⟨48,[(0,.ref 1000000 0),(5,vi x1.1),(23,.own 3000000),(24,vi x1.1),(29,vs aC.Language),(31,vi aC.Year),(32,.ref 3 5)],[(3,.box (tc ak aC)),(1000000,.box [.own 3000000,.own 3000001]),(3000000,.deep 91 5 aW.Places.length [.flat,.flat,.flat,.flat,(.sl 169 5 [.flat,.flat,.flat,.flat,.flat])] (aW.Places.map af)),(3000001,oa 85 4 ah aW.Links)]⟩ ?_ fun d21=> ?_
 exact DE.al (.c 5 d31 rfl (ay.l (bL (d:=3000000) (L:=aW.Places) (f:=af) (ti:=cP) (tj:=cm) (e:=91) (e':=91) (m:=5) (k:= .i64) (ss:=[.flat,.flat,.flat,.flat,(.sl 169 5 [.flat,.flat,.flat,.flat,.flat])]) aa rfl hx2)) (.c 13 d32 rfl (ay.n aa) .n))
 refine DE.sh 10 (bA 20 5951) ⟨48,[(0,.ref 1000000 0),(5,vi x1.1),(25,.eref 3000000 5 (Int.toNat x1.1) 0),(29,vs aC.Language),(30,.ref 3 0),(32,.ref 3 5)],[(3,.box (tc ak aC)),(1000000,.box [.own 3000000,.own 3000001]),(3000000,.deep 91 5 aW.Places.length [.flat,.flat,.flat,.flat,(.sl 169 5 [.flat,.flat,.flat,.flat,.flat])] (aW.Places.map af)),(3000001,oa 85 4 ah aW.Links)]⟩ ?_ fun d20=> ?_
 exact DE.tw aa 6 d28 rfl (ay.n aa)
 refine DE.sh 10 (bA 20 5503) ⟨48,[(0,.ref 1000000 0),(5,vi x1.1),(26,.eref 3000000 5 (Int.toNat x1.1) 4),(28,.ref 3 4),(30,.ref 3 0),(32,.ref 3 5)],[(3,.box (tc ak aC)),(1000000,.box [.own 3000000,.own 3000001]),(3000000,.deep 91 5 aW.Places.length [.flat,.flat,.flat,.flat,(.sl 169 5 [.flat,.flat,.flat,.flat,.flat])] (aW.Places.map af)),(3000001,oa 85 4 ah aW.Links)]⟩ ?_ fun d19=> ?_
 exact DE.al (.c 7 d27 rfl (ay.le (jX (L:=aW.Places) (f:=af) (d:=3000000) (k:=3001027) (e:=91) (m:=5) (j:=4) (e':=169) (m':=5) (n':=x2.Names.length) (ss:=[.flat,.flat,.flat,.flat,(.sl 169 5 [.flat,.flat,.flat,.flat,.flat])]) (ss':=[.flat,.flat,.flat,.flat,.flat]) (es':=x2.Names.map ar) (ti:=dh) (y:=oa 169 5 ar x2.Names) hx2 aa rfl rfl (.inr ⟨rfl,rfl⟩)) Le.an) (.c 9 d28 rfl (ay.n aa) (.c 11 d29 rfl (ay.n aa) (.c 13 d30 rfl (ay.n aa) .n))))
 refine DE.sh 11 (bA 20 15639) ⟨48,[(0,.ref 1000000 0),(5,vi x1.1),(22,.ref 1000000 0),(24,vi x1.1),(28,.ref 3 4),(31,vi aC.Year),(33,vs aC.Text)],[(3,.box (tc ak aC)),(1000000,.box [.own 3000000,.own 3000001]),(3000000,.deep 91 5 aW.Places.length [.flat,.flat,.flat,.flat,(.sl 169 5 [.flat,.flat,.flat,.flat,.flat])] (aW.Places.map af)),(3000001,oa 85 4 ah aW.Links)]⟩ ?_ fun d18=> ?_
 exact DE.al (.c 3 d24 rfl (ay.n aa) (.c 9 d26 rfl (ay.n aa) .n))
 refine DE.sh 11 (bA 20 14103) ⟨48,[(0,.ref 1000000 0),(5,vi x1.1),(22,.ref 1000000 0),(24,vi x1.1),(29,vs aC.Language),(30,.ref 3 0),(33,vs aC.Text)],[(3,.box (tc ak aC)),(1000000,.box [.own 3000000,.own 3000001]),(3000000,.deep 91 5 aW.Places.length [.flat,.flat,.flat,.flat,(.sl 169 5 [.flat,.flat,.flat,.flat,.flat])] (aW.Places.map af)),(3000001,oa 85 4 ah aW.Links)]⟩ ?_ fun d17=> ?_
 exact DE.al (.c 3 d22 rfl (ay.n aa) (.c 11 d26 rfl (ay.n aa) .n))
 refine DE.sh 11 (bA 20 7959) ⟨48,[(0,.ref 1000000 0),(5,vi x1.1),(22,.ref 1000000 0),(24,vi x1.1),(29,vs aC.Language),(31,vi aC.Year),(32,.ref 3 5)],[(3,.box (tc ak aC)),(1000000,.box [.own 3000000,.own 3000001]),(3000000,.deep 91 5 aW.Places.length [.flat,.flat,.flat,.flat,(.sl 169 5 [.flat,.flat,.flat,.flat,.flat])] (aW.Places.map af)),(3000001,oa 85 4 ah aW.Links)]⟩ ?_ fun d16=> ?_
 exact DE.al (.c 3 d21 rfl (ay.n aa) (.c 13 d26 rfl (ay.n aa) .n))
 refine DE.sh 11 (bA 20 13599) ⟨48,[(0,.ref 1000000 0),(5,vi x1.1),(23,.own 3000000),(24,vi x1.1),(28,.ref 3 4),(30,.ref 3 0),(33,vs aC.Text)],[(3,.box (tc ak aC)),(1000000,.box [.own 3000000,.own 3000001]),(3000000,.deep 91 5 aW.Places.length [.flat,.flat,.flat,.flat,(.sl 169 5 [.flat,.flat,.flat,.flat,.flat])] (aW.Places.map af)),(3000001,oa 85 4 ah aW.Links)]⟩ ?_ fun d15=> ?_
 exact DE.al (.c 5 d25 rfl (ay.l (bL (d:=3000000) (L:=aW.Places) (f:=af) (ti:=cP) (tj:=cm) (e:=91) (e':=91) (m:=5) (k:= .i64) (ss:=[.flat,.flat,.flat,.flat,(.sl 169 5 [.flat,.flat,.flat,.flat,.flat])]) aa rfl hx2)) (.c 9 d22 rfl (ay.n aa) (.c 11 d24 rfl (ay.n aa) .n)))
 refine DE.sh 11 (bA 20 7455) ⟨48,[(0,.ref 1000000 0),(5,vi x1.1),(23,.own 3000000),(24,vi x1.1),(28,.ref 3 4),(31,vi aC.Year),(32,.ref 3 5)],[(3,.box (tc ak aC)),(1000000,.box [.own 3000000,.own 3000001]),(3000000,.deep 91 5 aW.Places.length [.flat,.flat,.flat,.flat,(.sl 169 5 [.flat,.flat,.flat,.flat,.flat])] (aW.Places.map af)),(3000001,oa 85 4 ah aW.Links)]⟩ ?_ fun d14=> ?_
 exact DE.al (.c 5 d23 rfl (ay.l (bL (d:=3000000) (L:=aW.Places) (f:=af) (ti:=cP) (tj:=cm) (e:=91) (e':=91) (m:=5) (k:= .i64) (ss:=[.flat,.flat,.flat,.flat,(.sl 169 5 [.flat,.flat,.flat,.flat,.flat])]) aa rfl hx2)) (.c 9 d21 rfl (ay.n aa) (.c 13 d24 rfl (ay.n aa) .n)))
 refine DE.sh 11 (bA 20 5919) ⟨48,[(0,.ref 1000000 0),(5,vi x1.1),(23,.own 3000000),(24,vi x1.1),(29,vs aC.Language),(30,.ref 3 0),(32,.ref 3 5)],[(3,.box (tc ak aC)),(1000000,.box [.own 3000000,.own 3000001]),(3000000,.deep 91 5 aW.Places.length [.flat,.flat,.flat,.flat,(.sl 169 5 [.flat,.flat,.flat,.flat,.flat])] (aW.Places.map af)),(3000001,oa 85 4 ah aW.Links)]⟩ ?_ fun d13=> ?_
 exact DE.al (.c 5 d20 rfl (ay.l (bL (d:=3000000) (L:=aW.Places) (f:=af) (ti:=cP) (tj:=cm) (e:=91) (e':=91) (m:=5) (k:= .i64) (ss:=[.flat,.flat,.flat,.flat,(.sl 169 5 [.flat,.flat,.flat,.flat,.flat])]) aa rfl hx2)) (.c 11 d21 rfl (ay.n aa) (.c 13 d22 rfl (ay.n aa) .n)))
 refine DE.sh 11 (bA 20 5439) ⟨48,[(0,.ref 1000000 0),(5,vi x1.1),(25,.eref 3000000 5 (Int.toNat x1.1) 0),(28,.ref 3 4),(30,.ref 3 0),(32,.ref 3 5)],[(3,.box (tc ak aC)),(1000000,.box [.own 3000000,.own 3000001]),(3000000,.deep 91 5 aW.Places.length [.flat,.flat,.flat,.flat,(.sl 169 5 [.flat,.flat,.flat,.flat,.flat])] (aW.Places.map af)),(3000001,oa 85 4 ah aW.Links)]⟩ ?_ fun d12=> ?_
 exact DE.tw aa 6 d19 rfl (ay.n aa)
 refine DE.sh 12 (bA 20 13591) ⟨48,[(0,.ref 1000000 0),(5,vi x1.1),(22,.ref 1000000 0),(24,vi x1.1),(28,.ref 3 4),(30,.ref 3 0),(33,vs aC.Text)],[(3,.box (tc ak aC)),(1000000,.box [.own 3000000,.own 3000001]),(3000000,.deep 91 5 aW.Places.length [.flat,.flat,.flat,.flat,(.sl 169 5 [.flat,.flat,.flat,.flat,.flat])] (aW.Places.map af)),(3000001,oa 85 4 ah aW.Links)]⟩ ?_ fun d11=> ?_
 exact DE.al (.c 3 d15 rfl (ay.n aa) (.c 9 d17 rfl (ay.n aa) (.c 11 d18 rfl (ay.n aa) .n)))
 refine DE.sh 12 (bA 20 7447) ⟨48,[(0,.ref 1000000 0),(5,vi x1.1),(22,.ref 1000000 0),(24,vi x1.1),(28,.ref 3 4),(31,vi aC.Year),(32,.ref 3 5)],[(3,.box (tc ak aC)),(1000000,.box [.own 3000000,.own 3000001]),(3000000,.deep 91 5 aW.Places.length [.flat,.flat,.flat,.flat,(.sl 169 5 [.flat,.flat,.flat,.flat,.flat])] (aW.Places.map af)),(3000001,oa 85 4 ah aW.Links)]⟩ ?_ fun d10=> ?_
 exact DE.al (.c 3 d14 rfl (ay.n aa) (.c 9 d16 rfl (ay.n aa) (.c 13 d18 rfl (ay.n aa) .n)))
 refine DE.sh 12 (bA 20 5911) ⟨48,[(0,.ref 1000000 0),(5,vi x1.1),(22,.ref 1000000 0),(24,vi x1.1),(29,vs aC.Language),(30,.ref 3 0),(32,.ref 3 5)],[(3,.box (tc ak aC)),(1000000,.box [.own 3000000,.own 3000001]),(3000000,.deep 91 5 aW.Places.length [.flat,.flat,.flat,.flat,(.sl 169 5 [.flat,.flat,.flat,.flat,.flat])] (aW.Places.map af)),(3000001,oa 85 4 ah aW.Links)]⟩ ?_ fun d9=> ?_
 exact DE.al (.c 3 d13 rfl (ay.n aa) (.c 11 d16 rfl (ay.n aa) (.c 13 d17 rfl (ay.n aa) .n)))
 refine DE.sh 12 (bA 20 5407) ⟨48,[(0,.ref 1000000 0),(5,vi x1.1),(23,.own 3000000),(24,vi x1.1),(28,.ref 3 4),(30,.ref 3 0),(32,.ref 3 5)],[(3,.box (tc ak aC)),(1000000,.box [.own 3000000,.own 3000001]),(3000000,.deep 91 5 aW.Places.length [.flat,.flat,.flat,.flat,(.sl 169 5 [.flat,.flat,.flat,.flat,.flat])] (aW.Places.map af)),(3000001,oa 85 4 ah aW.Links)]⟩ ?_ fun d8=> ?_
 exact DE.al (.c 5 d12 rfl (ay.l (bL (d:=3000000) (L:=aW.Places) (f:=af) (ti:=cP) (tj:=cm) (e:=91) (e':=91) (m:=5) (k:= .i64) (ss:=[.flat,.flat,.flat,.flat,(.sl 169 5 [.flat,.flat,.flat,.flat,.flat])]) aa rfl hx2)) (.c 9 d13 rfl (ay.n aa) (.c 11 d14 rfl (ay.n aa) (.c 13 d15 rfl (ay.n aa) .n))))
 refine DE.sh 13 (bA 20 5399) ⟨48,[(0,.ref 1000000 0),(5,vi x1.1),(22,.ref 1000000 0),(24,vi x1.1),(28,.ref 3 4),(30,.ref 3 0),(32,.ref 3 5)],[(3,.box (tc ak aC)),(1000000,.box [.own 3000000,.own 3000001]),(3000000,.deep 91 5 aW.Places.length [.flat,.flat,.flat,.flat,(.sl 169 5 [.flat,.flat,.flat,.flat,.flat])] (aW.Places.map af)),(3000001,oa 85 4 ah aW.Links)]⟩ ?_ fun d7=> ?_
 exact DE.al (.c 3 d8 rfl (ay.n aa) (.c 9 d9 rfl (ay.n aa) (.c 11 d10 rfl (ay.n aa) (.c 13 d11 rfl (ay.n aa) .n))))
 refine DE.sh 14 (bA 20 1303) ⟨48,[(0,.ref 1000000 0),(3,.ref 3 0),(5,vi x1.1),(22,.ref 1000000 0),(24,vi x1.1),(28,.ref 3 4),(30,.ref 3 0)],[(3,.box (tc ak aC)),(1000000,.box [.own 3000000,.own 3000001]),(3000000,.deep 91 5 aW.Places.length [.flat,.flat,.flat,.flat,(.sl 169 5 [.flat,.flat,.flat,.flat,.flat])] (aW.Places.map af)),(3000001,oa 85 4 ah aW.Links)]⟩ ?_ fun d6=> ?_
 exact DE.tw aa 12 d7 rfl (ay.n aa)
 refine DE.sh 15 (bA 20 279) ⟨48,[(0,.ref 1000000 0),(3,.ref 3 0),(5,vi x1.1),(22,.ref 1000000 0),(24,vi x1.1),(28,.ref 3 4)],[(3,.box (tc ak aC)),(1000000,.box [.own 3000000,.own 3000001]),(3000000,.deep 91 5 aW.Places.length [.flat,.flat,.flat,.flat,(.sl 169 5 [.flat,.flat,.flat,.flat,.flat])] (aW.Places.map af)),(3000001,oa 85 4 ah aW.Links)]⟩ ?_ fun d5=> ?_
 exact DE.tw aa 10 d6 rfl (ay.n aa)
 refine DE.sh 16 (bA 20 23) ⟨48,[(0,.ref 1000000 0),(3,.ref 3 0),(5,vi x1.1),(22,.ref 1000000 0),(24,vi x1.1)],[(3,.box (tc ak aC)),(1000000,.box [.own 3000000,.own 3000001]),(3000000,.deep 91 5 aW.Places.length [.flat,.flat,.flat,.flat,(.sl 169 5 [.flat,.flat,.flat,.flat,.flat])] (aW.Places.map af)),(3000001,oa 85 4 ah aW.Links)]⟩ ?_ fun d4=> ?_
 exact DE.tw aa 8 d5 rfl (ay.n aa)
 refine DE.sh 17 (bA 20 7) ⟨48,[(0,.ref 1000000 0),(3,.ref 3 0),(5,vi x1.1),(22,.ref 1000000 0)],[(3,.box (tc ak aC)),(1000000,.box [.own 3000000,.own 3000001]),(3000000,.deep 91 5 aW.Places.length [.flat,.flat,.flat,.flat,(.sl 169 5 [.flat,.flat,.flat,.flat,.flat])] (aW.Places.map af)),(3000001,oa 85 4 ah aW.Links)]⟩ ?_ fun d3=> ?_
 exact DE.tk 4 d4 rfl (.inl rfl) (ay.n aa)
 refine DE.sh 18 (bA 20 3) ⟨48,[(0,.ref 1000000 0),(3,.ref 3 0),(5,vi x1.1),(21,.ref 1000000 0)],[(3,.box (tc ak aC)),(1000000,.box [.own 3000000,.own 3000001]),(3000000,.deep 91 5 aW.Places.length [.flat,.flat,.flat,.flat,(.sl 169 5 [.flat,.flat,.flat,.flat,.flat])] (aW.Places.map af)),(3000001,oa 85 4 ah aW.Links)]⟩ ?_ fun d2=> ?_
 exact DE.tw aa 2 d3 rfl (ay.n aa)
 refine DE.sh 19 (bA 20 1) ⟨48,[(0,.ref 1000000 0),(3,.ref 3 0),(5,vi x1.1),(20,.ref 1000000 0)],[(3,.box (tc ak aC)),(1000000,.box [.own 3000000,.own 3000001]),(3000000,.deep 91 5 aW.Places.length [.flat,.flat,.flat,.flat,(.sl 169 5 [.flat,.flat,.flat,.flat,.flat])] (aW.Places.map af)),(3000001,oa 85 4 ah aW.Links)]⟩ ?_ fun d1=> ?_
 exact DE.tw aa 1 d2 rfl (ay.n aa)
 exact DE.tk 0 d1 rfl (.inl rfl) (ay.n aa)
 refine aZ ?_
 refine ac ?_
 refine az aa [0,5,7,8,38] [34,1000000,3000000,3000001] ?_
 refine ba h (fun j4=>⟨48,[(8,vi x3.2)],[(1000000,.box [.own 3000000,.own 3000001]),(3000000,.deep 91 5 j4.1.length [.flat,.flat,.flat,.flat,(.sl 169 5 [.flat,.flat,.flat,.flat,.flat])] (j4.1.map af)),(3000001,oa 85 4 ah j4.2)]⟩) (fun v5 h=> ?_) (fun j4 h=> ?_)
 refine ai h (fun h=> ?_) fun h=> ?_
 refine aE ?_
 refine ab.cl aa 6 [8,42,43,44] [34,1000000,3000000,3000001] ?_
 obtain⟨x6,hx6,h⟩:=bind_some h
 refine ab.ls (bL (d:=3000000) (L:=aW.Places) (f:=af) (ti:=cP) (tj:=cm) (e:=91) (e':=91) (m:=5) (k:= .i64) (ss:=[.flat,.flat,.flat,.flat,(.sl 169 5 [.flat,.flat,.flat,.flat,.flat])]) aa rfl hx6) ?_
 refine ab.cl aa 1 [8,44,46] [34,1000000,3000000,3000001] ?_
 refine ab.bs (ff (d:=3000000) (m:=5) (j:=4) (L:=aW.Places) (f:=af) (x:=(Place.mk x6.Code x6.Class x6.Years x3.1)) (z:=x6) (ti:=dh) (e:=91) (ss:=[.flat,.flat,.flat,.flat,(.sl 169 5 [.flat,.flat,.flat,.flat,.flat])]) (ss2:=[(.sl 169 5 [.flat,.flat,.flat,.flat,.flat])]) (ts:=[.sl x3.1.length (x3.1.map ar)]) (vs:=[.own 34]) (v:= .own 34) (ds:=[34]) aa rfl rfl hx6 (.cons _ _ _ [34] _ _ _ _ (qV (d:=34) (e:=169) (m:=5) (n:=x3.1.length) (es:=x3.1.map ar) (ss:=[.flat,.flat,.flat,.flat,.flat]) (cd bE _)) .nil (by decide))) ?_
 refine ab.nil ?_
 obtain rfl:=inj h
 exact eW (Le.an)
 refine ag ?_
 obtain rfl:=inj h
 exact eW (Le.an)
 refine az aa [4] [1000000,3000000,3000001] ?_
 refine ae ?_
 obtain rfl:=inj h
 exact kV (fw aa)
theorem Di:bg Tryz.prog 90:=au Tryz.func90 (by kernel_rfl) rfl
noncomputable def dP(aW:World)(cA:ByteArray)(dG:ByteArray)(aj:Int):Option (ax):=
 ((cS aW cA).bind fun x1=>((cS aW dG).bind fun x2=>(((jq (aW.Links.length:Int) (fun(i5:Int) (s5:Int)=>((at' aW.Links i5).bind fun x9=>(bif((x9.Child.toList==cA.toList)&&(decide (x9.Years.From>aj)))then some (cE s5 (aO (x9.Years.From - 1)))else some s5))) (fun(s5:Int)=>s5) 0 (cE x1.Years.To x2.Years.To))).bind fun(j3:Int)=>some (ax.mk cA dG (Span.mk aj j3)))))
theorem lH(aW:World)(cA:ByteArray)(dG:ByteArray)(aj:Int)(r:ax)(h:dP aW cA dG aj=some r):aJ Tryz.prog 142 [.v (.agg (tc aH aW)),.v (vs cA),.v (vs dG),.v (vi aj)] ⟨[.v (.agg (tc ah r))],[],false⟩:=by
 refine ap Tryz.func142 rfl [(.cell 8 85)] rfl (fun r=>⟨[.v (.agg (tc ah r))],[],false⟩) (r:=r) ?_
 unfold dP at h
 refine az aa [1,2,3,4,8] [4,8] ?_
 refine ac ?_
 refine cO mixed ?_
 refine aY.cl aa false 2 [1,2,3,4,8,12,13] [4,8] ?_
 obtain⟨x1,hx1,h⟩:=bind_some h
 refine aY.step (xc tO (dY aW cA _ hx1)) ?_
 refine aY.cl aa false 4 [1,2,3,4,8,16,17,18] [4,8] ?_
 obtain⟨x2,hx2,h⟩:=bind_some h
 refine aY.step (xc tO (dY aW dG _ hx2)) ?_
 refine aY.cl aa false 4 [1,2,3,4,8,9] [4,8] ?_
 refine aY.nx ?_
 refine ac ?_
 refine az aa [1,2,3,8,9,24,25,26] [8] ?_
 refine ba h (fun j3=>⟨54,[(1,vs cA),(2,vs dG),(3,vi aj),(8,.ref 8 0),(9,vi j3)],[(8,.box [vs (ByteArray.mk #[]),vs (ByteArray.mk #[]),vi 0,vi 0])]⟩) (fun v4 h=> ?_) (fun j3 h=> ?_)
 refine aw (a:=v4) ?_
 refine a7 (r:=v4) (s:=(0,(cE x1.Years.To x2.Years.To))) _ (fun s5=>⟨54,[(1,vs cA),(2,vs dG),(3,vi aj),(8,.ref 8 0),(9,vi s5.2),(24,vl ah aW.Links),(25,vi (aW.Links.length:Int)),(26,vi s5.1)],[(8,.box [vs (ByteArray.mk #[]),vs (ByteArray.mk #[]),vi 0,vi 0])]⟩) _ (Le.an) h (fun s5 v6 h=> ?_)
 refine az aa [1,2,3,8,9,24,25,26,27] [8] ?_
 refine ac ?_
 refine ai h (fun h=> ?_) fun h=> ?_
 refine ag ?_
 refine aZ ?_
 refine ac ?_
 refine ba h (fun j7=>⟨54,[(1,vs cA),(2,vs dG),(3,vi aj),(8,.ref 8 0),(9,vi j7),(24,vl ah aW.Links),(25,vi (aW.Links.length:Int)),(26,vi s5.1)],[(8,.box [vs (ByteArray.mk #[]),vs (ByteArray.mk #[]),vi 0,vi 0])]⟩) (fun v8 h=> ?_) (fun j7 h=> ?_)
 refine aw (a:=v8) ?_
 refine sr ?_
 obtain⟨x9,hx9,h⟩:=bind_some h
 refine ab.ls (aG (L:=aW.Links) (f:=ah) (ti:=dq) (tj:=dr) (e:=85) (k:= .i64) aa rfl hx9) ?_
 refine bQ aa 3 [1,2,3,8,9,11,24,25,26] [8,11] ?_
 refine ac ?_
 refine dp ⟨54,[(1,vs cA),(2,vs dG),(3,vi aj),(8,.ref 8 0),(9,vi s5.2),(11,.ref 11 0),(24,vl ah aW.Links),(25,vi (aW.Links.length:Int)),(26,vi s5.1),(40,vb ((x9.Child.toList==cA.toList)&&(decide (x9.Years.From>aj))))],[(8,.box [vs (ByteArray.mk #[]),vs (ByteArray.mk #[]),vi 0,vi 0]),(11,.box (tc ah x9))]⟩ ?_ ?_
 refine ab.ck aa 5 ⟨54,[(1,vs cA),(2,vs dG),(3,vi aj),(8,.ref 8 0),(9,vi s5.2),(11,.ref 11 0),(24,vl ah aW.Links),(25,vi (aW.Links.length:Int)),(26,vi s5.1),(34,vb (x9.Child.toList==cA.toList))],[(8,.box [vs (ByteArray.mk #[]),vs (ByteArray.mk #[]),vi 0,vi 0]),(11,.box (tc ah x9))]⟩ ?_
 generalize (x9.Child.toList==cA.toList)=bb
 cases bb
 refine ab.cl aa 6 [1,2,3,8,9,11,24,25,26,40] [8,11] ?_
 exact ab.nil (Le.an)
 refine ab.cl aa 6 [1,2,3,8,9,11,24,25,26,40] [8,11] ?_
 exact ab.nil (Le.an)
 refine ai h (fun h=> ?_) fun h=> ?_
 refine aE ?_
 refine ab.cl aa 7 [1,2,3,8,9,24,25,26] [8] ?_
 refine ab.nil ?_
 obtain rfl:=inj h
 exact bP (eW (Le.an))
 refine ag ?_
 obtain rfl:=inj h
 exact bP (eW (Le.an))
 refine aE ?_
 refine ab.cl aa 2 [1,2,3,8,9,24,25,26] [8] ?_
 refine ab.nil ?_
 obtain rfl:=inj h
 exact bZ (Le.an)
 refine aQ ?_
 obtain rfl:=inj h
 exact cn (cr (cq (eW (Le.an))))
 refine sr ?_
 refine ab.cl aa 4 [8,48,49,50,51] [8] ?_
 refine ab.ls (br (v:= .agg [vi aj,vi j3]) aa rfl) ?_
 refine ab.ls (br (v:= .agg [vs cA,vs dG,vi aj,vi j3]) aa rfl) ?_
 refine bQ aa 1 [8] [8] ?_
 refine ae ?_
 obtain rfl:=inj h
 exact aD (f1 (fc aa))
theorem Bl:bg Tryz.prog 142:=au Tryz.func142 (by kernel_rfl) rfl
noncomputable def cM(aW:World)(cA:ByteArray)(dG:ByteArray)(aj:Int):Option (Int×World):=
 (bif(cA.toList==dG.toList)then some (5,aW)else((dP aW cA dG aj).bind fun x1=>(((jq (aW.Links.length:Int) (fun(i4:Int) (s4:(List ax))=>((at' aW.Links i4).bind fun x8=>(((bif(x8.Child.toList==cA.toList)then((bN x8.Years aj).bind fun x9=>some x9)else some false)).bind fun(j10:Bool)=>(((bif j10 then some (ax.mk x8.Child x8.Parent (Span.mk x8.Years.From (aO (aj - 1))))else some x8)).bind fun(j12:ax)=>(bif(decide (j12.Years.From≤j12.Years.To))then((eg s4 ([j12]:List ax)).bind fun x14=>some x14)else some s4))))) (fun(s4:(List ax))=>s4) 0 ([]:List ax))).bind fun(j2:(List ax))=>((eg j2 ([x1]:List ax)).bind fun x15=>(((bif(decide ((x15.length:Int)>20))then some (.inr (3,aW))else((eh x15).bind fun x18=>(bif(!x18)then some (.inr (5,aW))else some (.inl ()))))).bind (Sum.elim (fun(_:Unit)=>some (0,(World.mk aW.Places x15))) some))))))
theorem jN(aW:World)(cA:ByteArray)(dG:ByteArray)(aj:Int)(r:Int×World)(h:cM aW cA dG aj=some r):jm Tryz.prog 91 [.ref 1000000 0,vs cA,vs dG,vi aj] [(1000000,.box [.own 3000000,.own 3000001]),(3000000,.deep 91 5 aW.Places.length [.flat,.flat,.flat,.flat,(.sl 169 5 [.flat,.flat,.flat,.flat,.flat])] (aW.Places.map af)),(3000001,oa 85 4 ah aW.Links)] [(1000000,.box [.own 3000000,.own 3000001]),(3000000,.deep 91 5 r.2.Places.length [.flat,.flat,.flat,.flat,(.sl 169 5 [.flat,.flat,.flat,.flat,.flat])] (r.2.Places.map af)),(3000001,oa 85 4 ah r.2.Links)] [vi r.1]:=by
 refine gT Tryz.func91 rfl [(.tmp 8)] rfl (fun r=>[(1000000,.box [.own 3000000,.own 3000001]),(3000000,.deep 91 5 r.2.Places.length [.flat,.flat,.flat,.flat,(.sl 169 5 [.flat,.flat,.flat,.flat,.flat])] (r.2.Places.map af)),(3000001,oa 85 4 ah r.2.Links)]) (fun r=>[vi r.1]) (r:=r) (cf SV.ew (cf trivial (cf (cd c8 _) jj))) ?_
 unfold cM at h
 refine az aa [0,1,2,3] [1000000,3000000,3000001] ?_
 refine ac ?_
 refine az aa [0,1,2,3,15] [1000000,3000000,3000001] ?_
 refine ai h (fun h=> ?_) fun h=> ?_
 refine az aa [8] [1000000,3000000,3000001] ?_
 refine ae ?_
 obtain rfl:=inj h
 exact bt (kV (fw aa))
 refine ag ?_
 refine aZ ?_
 refine sr ?_
 refine ab.cl aa 6 [0,1,3,18,19,20,21] [1000000,3000000,3000001] ?_
 obtain⟨x1,hx1,h⟩:=bind_some h
 refine ab.ls (xc Bl (lH aW cA dG aj _ hx1)) ?_
 refine bQ aa 2 [0,1,3,9] [9,1000000,3000000,3000001] ?_
 refine az aa [0,1,3,9,10] [9,10,1000000,3000000,3000001] ?_
 refine ac ?_
 refine az aa [0,1,3,9,10,26,27,28] [9,10,1000000,3000000,3000001] ?_
 refine ba h (fun j2=>⟨74,[(0,.ref 1000000 0),(9,.ref 9 0),(10,.own 10)],[(9,.box (tc ah x1)),(10,oa 85 4 ah j2),(1000000,.box [.own 3000000,.own 3000001]),(3000000,.deep 91 5 aW.Places.length [.flat,.flat,.flat,.flat,(.sl 169 5 [.flat,.flat,.flat,.flat,.flat])] (aW.Places.map af)),(3000001,oa 85 4 ah aW.Links)]⟩) (fun v3 h=> ?_) (fun j2 h=> ?_)
 refine aw (a:=v3) ?_
 refine a7 (r:=v3) (s:=(0,([]:List ax))) _ (fun s4=>⟨74,[(0,.ref 1000000 0),(1,vs cA),(3,vi aj),(9,.ref 9 0),(10,.own 10),(26,.own 3000001),(27,vi (aW.Links.length:Int)),(28,vi s4.1)],[(9,.box (tc ah x1)),(10,oa 85 4 ah s4.2),(1000000,.box [.own 3000000,.own 3000001]),(3000000,.deep 91 5 aW.Places.length [.flat,.flat,.flat,.flat,(.sl 169 5 [.flat,.flat,.flat,.flat,.flat])] (aW.Places.map af)),(3000001,oa 85 4 ah aW.Links)]⟩) _ (Le.an) h (fun s4 v5 h=> ?_)
 refine az aa [0,1,3,9,10,26,27,28,29] [9,10,1000000,3000000,3000001] ?_
 refine ac ?_
 refine ai h (fun h=> ?_) fun h=> ?_
 refine ag ?_
 refine aZ ?_
 refine ac ?_
 refine ba h (fun j6=>⟨74,[(0,.ref 1000000 0),(1,vs cA),(3,vi aj),(9,.ref 9 0),(10,.own 10),(26,.own 3000001),(27,vi (aW.Links.length:Int)),(28,vi s4.1)],[(9,.box (tc ah x1)),(10,oa 85 4 ah j6),(1000000,.box [.own 3000000,.own 3000001]),(3000000,.deep 91 5 aW.Places.length [.flat,.flat,.flat,.flat,(.sl 169 5 [.flat,.flat,.flat,.flat,.flat])] (aW.Places.map af)),(3000001,oa 85 4 ah aW.Links)]⟩) (fun v7 h=> ?_) (fun j6 h=> ?_)
 refine aw (a:=v7) ?_
 refine sr ?_
 obtain⟨x8,hx8,h⟩:=bind_some h
 refine ab.ls (bm (d:=3000001) (L:=aW.Links) (f:=ah) (ti:=dq) (tj:=dr) (e:=85) (e':=85) (m:=4) (k:= .i64) aa rfl hx8) ?_
 refine ab.ls (dB (d:=3000001) (m:=4) (j:=0) (L:=aW.Links) (f:=ah) (ti:=dr) (e:=85) (v:= .agg (tc ah x8)) aa rfl hx8) ?_
 refine bQ aa 2 [0,1,3,9,10,12,26,27,28] [9,10,12,1000000,3000000,3000001] ?_
 refine ac ?_
 refine ac ?_
 refine bo h (fun j10=>⟨74,[(0,.ref 1000000 0),(1,vs cA),(3,vi aj),(9,.ref 9 0),(10,.own 10),(12,.ref 12 0),(26,.own 3000001),(27,vi (aW.Links.length:Int)),(28,vi s4.1),(41,vb j10)],[(9,.box (tc ah x1)),(10,oa 85 4 ah s4.2),(12,.box (tc ah x8)),(1000000,.box [.own 3000000,.own 3000001]),(3000000,.deep 91 5 aW.Places.length [.flat,.flat,.flat,.flat,(.sl 169 5 [.flat,.flat,.flat,.flat,.flat])] (aW.Places.map af)),(3000001,oa 85 4 ah aW.Links)]⟩) (fun v11 h=> ?_) (fun j10 h=> ?_)
 refine ab.cl aa 5 [0,1,3,9,10,12,26,27,28,36] [9,10,12,1000000,3000000,3000001] ?_
 refine ab.cu [(36,fun b=>b)] h (fun h=> ?_) fun h=> ?_
 refine ab.cl aa 3 [0,1,3,9,10,12,26,27,28,36,38,39] [9,10,12,1000000,3000000,3000001] ?_
 obtain⟨x9,hx9,h⟩:=bind_some h
 refine ab.ls (xc mf (cI x8.Years aj _ hx9)) ?_
 refine ab.cl aa 1 [0,1,3,9,10,12,26,27,28,41] [9,10,12,1000000,3000000,3000001] ?_
 refine ab.nil ?_
 obtain rfl:=inj h
 exact Le.an
 refine ab.cl aa 5 [0,1,3,9,10,12,26,27,28,41] [9,10,12,1000000,3000000,3000001] ?_
 refine ab.nil ?_
 obtain rfl:=inj h
 exact Le.an
 refine ba h (fun j12=>⟨74,[(0,.ref 1000000 0),(1,vs cA),(3,vi aj),(9,.ref 9 0),(10,.own 10),(12,.ref 12 0),(26,.own 3000001),(27,vi (aW.Links.length:Int)),(28,vi s4.1)],[(9,.box (tc ah x1)),(10,oa 85 4 ah s4.2),(12,.box (tc ah j12)),(1000000,.box [.own 3000000,.own 3000001]),(3000000,.deep 91 5 aW.Places.length [.flat,.flat,.flat,.flat,(.sl 169 5 [.flat,.flat,.flat,.flat,.flat])] (aW.Places.map af)),(3000001,oa 85 4 ah aW.Links)]⟩) (fun v13 h=> ?_) (fun j12 h=> ?_)
 refine ai h (fun h=> ?_) fun h=> ?_
 refine aE ?_
 refine ab.cl aa 5 [0,1,3,9,10,12,26,27,28] [9,10,12,1000000,3000000,3000001] ?_
 refine ab.nil ?_
 obtain rfl:=inj h
 exact eW (Le.an)
 refine ag ?_
 obtain rfl:=inj h
 exact eW (Le.an)
 refine az aa [0,1,3,9,10,12,26,27,28,52] [9,10,12,1000000,3000000,3000001] ?_
 refine ai h (fun h=> ?_) fun h=> ?_
 refine aE ?_
 refine ab.cl aa 3 [0,1,3,9,26,27,28,53,55] [9,10,55,1000000,3000000,3000001] ?_
 obtain⟨x14,hx14,h⟩:=bind_some h
 refine ab.bs (bY (f:=ah) (t:=33) (ti:=dq) (tj:=dr) (zs:=[.string (ByteArray.mk #[]),.string (ByteArray.mk #[]),.int .i64 0,.int .i64 0]) (e:=85) (m:=4) (d:=10) (xv:= .own 55) hx14 aa rfl rfl rfl rfl (dI (e:=85))) ?_
 refine ab.cl aa 1 [0,1,3,9,10,26,27,28] [9,56,1000000,3000000,3000001] ?_
 refine ab.nil ?_
 obtain rfl:=inj h
 exact bP (eW (Le.rr [9,56,1000000,3000000,3000001] [(56,10)]))
 refine ag ?_
 obtain rfl:=inj h
 exact bP (eW (Le.an))
 refine aE ?_
 refine ab.cl aa 2 [0,1,3,9,10,26,27,28] [9,10,1000000,3000000,3000001] ?_
 refine ab.nil ?_
 obtain rfl:=inj h
 exact bZ (Le.an)
 refine aQ ?_
 obtain rfl:=inj h
 exact cn (cr (cq (eW (Le.an))))
 refine sr ?_
 refine ab.cl aa 3 [0,58,60] [10,60,1000000,3000000,3000001] ?_
 obtain⟨x15,hx15,h⟩:=bind_some h
 refine ab.bs (bY (f:=ah) (t:=33) (ti:=dq) (tj:=dr) (zs:=[.string (ByteArray.mk #[]),.string (ByteArray.mk #[]),.int .i64 0,.int .i64 0]) (e:=85) (m:=4) (d:=10) (xv:= .own 60) hx15 aa rfl rfl rfl rfl (dI (e:=85))) ?_
 refine bQ aa 1 [0,10] [61,1000000,3000000,3000001] ?_
 refine ac ?_
 refine bi (r:=r) h (fun j16=>⟨74,[(0,.ref 1000000 0),(10,.own 10)],[(10,oa 85 4 ah x15),(1000000,.box [.own 3000000,.own 3000001]),(3000000,.deep 91 5 aW.Places.length [.flat,.flat,.flat,.flat,(.sl 169 5 [.flat,.flat,.flat,.flat,.flat])] (aW.Places.map af)),(3000001,oa 85 4 ah aW.Links)]⟩) (fun v17 h=> ?_) (fun j16 h=> ?_)
 refine aw (a:=v17) ?_
 refine az aa [0,10,62] [61,1000000,3000000,3000001] ?_
 refine ai h (fun h=> ?_) fun h=> ?_
 refine az aa [8] [1000000,3000000,3000001] ?_
 refine ae ?_
 obtain rfl:=inj h
 exact bn (aU (kV (fw aa)))
 refine sr ?_
 refine ab.cl aa 1 [0,10,67] [61,1000000,3000000,3000001] ?_
 obtain⟨x18,hx18,h⟩:=bind_some h
 refine ab.ls (xc wP (iB x15 _ hx18)) ?_
 refine bQ aa 2 [0,10,66] [61,1000000,3000000,3000001] ?_
 refine ai h (fun h=> ?_) fun h=> ?_
 refine az aa [8] [1000000,3000000,3000001] ?_
 refine ae ?_
 obtain rfl:=inj h
 exact bn (aU (kV (fw aa)))
 refine ag ?_
 obtain rfl:=inj h
 exact bP (bZ (Le.rr [61,1000000,3000000,3000001] [(61,10)]))
 refine sr ?_
 refine ab.ck aa 4 ⟨74,[(71,.own 10),(73,.ref 1000000 1)],[(10,oa 85 4 ah x15),(1000000,.box [.own 3000000,.own 3000001]),(3000000,.deep 91 5 aW.Places.length [.flat,.flat,.flat,.flat,(.sl 169 5 [.flat,.flat,.flat,.flat,.flat])] (aW.Places.map af)),(3000001,oa 85 4 ah aW.Links)]⟩ ?_
 refine ab.bs (ns (d:=1000000) (k:=1) (ti:=dq) (cs:=[.own 3000000,.own 3000001]) (vs:=[.own 10]) (v:= .own 10) aa rfl rfl) ?_
 refine ab.le (Le.less _ [3000001]) ?_
 refine ab.le (Le.qn 10 3000001) ?_
 refine ab.nx ?_
 refine az aa [8] [1000000,3000000,3000001] ?_
 refine ae ?_
 obtain rfl:=inj h
 exact kV (fw aa)
theorem zO:bg Tryz.prog 91:=au Tryz.func91 (by kernel_rfl) rfl
noncomputable def gM(ad:(List ax))(aj:Int)(qO:(List ByteArray)):Option (Int):=
 ((((((eh ad).bind fun x3=>(bif(!x3)then some true else((ek qO).bind fun x4=>some (!x4))))).bind fun(j5:Bool)=>(bif j5 then some (.inr 1)else((ea aj).bind fun x7=>(bif(!x7)then some (.inr 2)else some (.inl ())))))).bind (Sum.elim (fun(_:Unit)=>some 0) some))
theorem oq(ad:(List ax))(aj:Int)(qO:(List ByteArray))(r:Int)(h:gM ad aj qO=some r):aJ Tryz.prog 186 [.v (vl ah ad),.v (vi aj),.v (vl eS qO)] ⟨[.v (vi r)],[],false⟩:=by
 refine ap Tryz.func186 rfl [(.tmp 6)] rfl (fun r=>⟨[.v (vi r)],[],false⟩) (r:=r) ?_
 unfold gM at h
 refine az aa [0,1,2] [] ?_
 refine ac ?_
 refine bi (r:=r) h (fun j1=>⟨20,[],[]⟩) (fun v2 h=> ?_) (fun j1 h=> ?_)
 refine aw (a:=v2) ?_
 refine ac ?_
 refine bo h (fun j5=>⟨20,[(1,vi aj),(7,vb j5)],[]⟩) (fun v6 h=> ?_) (fun j5 h=> ?_)
 refine ab.cl aa 1 [1,2,8] [] ?_
 obtain⟨x3,hx3,h⟩:=bind_some h
 refine ab.ls (xc wP (iB ad _ hx3)) ?_
 refine ab.cl aa 2 [1,2,11] [] ?_
 refine ab.cu [(11,fun b=>b)] h (fun h=> ?_) fun h=> ?_
 refine ab.cl aa 5 [1,7] [] ?_
 refine ab.nil ?_
 obtain rfl:=inj h
 exact Le.an
 refine ab.cl aa 1 [1,11,12] [] ?_
 obtain⟨x4,hx4,h⟩:=bind_some h
 refine ab.ls (xc tE (iG qO _ hx4)) ?_
 refine ab.cl aa 3 [1,7] [] ?_
 refine ab.nil ?_
 obtain rfl:=inj h
 exact Le.an
 refine ai h (fun h=> ?_) fun h=> ?_
 refine iy aa ⟨20,[(6,vi 1)],[]⟩ ?_
 refine ae ?_
 obtain rfl:=inj h
 exact bn (aU (aD (f1 fv)))
 refine sr ?_
 refine ab.cl aa 1 [17] [] ?_
 obtain⟨x7,hx7,h⟩:=bind_some h
 refine ab.ls (xc qB (gX aj _ hx7)) ?_
 refine bQ aa 2 [16] [] ?_
 refine ai h (fun h=> ?_) fun h=> ?_
 refine iy aa ⟨20,[(6,vi 2)],[]⟩ ?_
 refine ae ?_
 obtain rfl:=inj h
 exact bn (aU (aD (f1 fv)))
 refine ag ?_
 obtain rfl:=inj h
 exact bP (bZ (Le.an))
 refine iy aa ⟨20,[(6,vi 0)],[]⟩ ?_
 refine ae ?_
 obtain rfl:=inj h
 exact aD (f1 fv)
theorem BD:bg Tryz.prog 186:=au Tryz.func186 (by kernel_rfl) rfl
noncomputable def fL(cA:ByteArray)(c0:(List ax))(c1:Int)(c2:ByteArray):Option (Bool):=
 ((cW c0 cA c1).bind fun x1=>some (x1.1.toList==c2.toList))
theorem lY(cA:ByteArray)(c0:(List ax))(c1:Int)(c2:ByteArray)(r:Bool)(h:fL cA c0 c1 c2=some r):aJ Tryz.prog 188 [.v (vs cA),.v (.ptr [vl ah c0] 0),.v (.ptr [vi c1] 0),.v (.ptr [vs c2] 0)] ⟨[.v (vb r)],[],false⟩:=by
 refine ap Tryz.func188 rfl [(.tmp 5)] rfl (fun r=>⟨[.v (vb r)],[],false⟩) (r:=r) ?_
 unfold fL at h
 refine az aa [0,1,2,3] [] ?_
 refine sr ?_
 refine ab.cl aa 3 [3,9,10,11] [] ?_
 obtain⟨x1,hx1,h⟩:=bind_some h
 refine ab.ls (xc tH (iH c0 cA c1 _ hx1)) ?_
 refine bQ aa 5 [3,6] [] ?_
 refine az aa [5] [] ?_
 refine ae ?_
 obtain rfl:=inj h
 exact aD (f1 fv)
theorem BF:bg Tryz.prog 188:=au Tryz.func188 (by kernel_rfl) rfl
theorem p6(L r:List ByteArray)(h:jv L=some r):to Tryz.prog 215 9 1 (L.map eS) (r.map eS):=w9 Tryz.B3 rfl Tryz.B4 rfl 9 L r h
theorem BQ:bg Tryz.prog 215:=au Tryz.func215 (by kernel_rfl) rfl
noncomputable def bO(ad:(List ax))(aj:Int)(uT:(List ax))(uU:Int)(uV:ByteArray):Option ((List ByteArray)):=
 (((jq (ad.length:Int) (fun(i3:Int) (s3:(List ByteArray))=>((at' ad i3).bind fun x7=>((((bN x7.Years aj).bind fun x8=>(bif x8 then((fL x7.Child uT uU uV).bind fun x9=>some x9)else some false))).bind fun(j10:Bool)=>(bif j10 then((eg s3 ([x7.Child]:List ByteArray)).bind fun x12=>some x12)else some s3)))) (fun(s3:(List ByteArray))=>s3) 0 ([]:List ByteArray))).bind fun(j1:(List ByteArray))=>((jv j1).bind fun x13=>some x13))
theorem gr(ad:(List ax))(aj:Int)(uT:(List ax))(uU:Int)(uV:ByteArray)(r:(List ByteArray))(h:bO ad aj uT uU uV=some r):aJ Tryz.prog 187 [.v (vl ah ad),.v (vi aj),.v (.clo 188 [.ptr [vl ah uT] 0,.ptr [vi uU] 0,.ptr [vs uV] 0])] ⟨[.own 9 1 r.length (r.map eS)],[],false⟩:=by
 refine ap Tryz.func187 rfl [(.tmp 6)] rfl (fun r=>⟨[.own 9 1 r.length (r.map eS)],[],false⟩) (r:=r) ?_
 unfold bO at h
 refine az aa [0,1,2] [] ?_
 refine az aa [0,1,2,7] [7] ?_
 refine ac ?_
 refine az aa [1,2,7,10,11,12] [7] ?_
 refine ba h (fun j1=>⟨34,[(7,.own 7)],[(7,oa 9 1 eS j1)]⟩) (fun v2 h=> ?_) (fun j1 h=> ?_)
 refine aw (a:=v2) ?_
 refine a7 (r:=v2) (s:=(0,([]:List ByteArray))) _ (fun s3=>⟨34,[(1,vi aj),(2,.clo 188 [.ptr [vl ah uT] 0,.ptr [vi uU] 0,.ptr [vs uV] 0]),(7,.own 7),(10,vl ah ad),(11,vi (ad.length:Int)),(12,vi s3.1)],[(7,oa 9 1 eS s3.2)]⟩) _ (Le.an) h (fun s3 v4 h=> ?_)
 refine az aa [1,2,7,10,11,12,13] [7] ?_
 refine ac ?_
 refine ai h (fun h=> ?_) fun h=> ?_
 refine ag ?_
 refine aZ ?_
 refine ac ?_
 refine ba h (fun j5=>⟨34,[(1,vi aj),(2,.clo 188 [.ptr [vl ah uT] 0,.ptr [vi uU] 0,.ptr [vs uV] 0]),(7,.own 7),(10,vl ah ad),(11,vi (ad.length:Int)),(12,vi s3.1)],[(7,oa 9 1 eS j5)]⟩) (fun v6 h=> ?_) (fun j5 h=> ?_)
 refine aw (a:=v6) ?_
 refine sr ?_
 obtain⟨x7,hx7,h⟩:=bind_some h
 refine ab.ls (aG (L:=ad) (f:=ah) (ti:=dq) (tj:=dr) (e:=85) (k:= .i64) aa rfl hx7) ?_
 refine bQ aa 3 [1,2,7,9,10,11,12] [7,9] ?_
 refine ac ?_
 refine bo h (fun j10=>⟨34,[(1,vi aj),(2,.clo 188 [.ptr [vl ah uT] 0,.ptr [vi uU] 0,.ptr [vs uV] 0]),(7,.own 7),(9,.ref 9 0),(10,vl ah ad),(11,vi (ad.length:Int)),(12,vi s3.1),(25,vb j10)],[(7,oa 9 1 eS s3.2),(9,.box (tc ah x7))]⟩) (fun v11 h=> ?_) (fun j10 h=> ?_)
 refine ab.cl aa 3 [1,2,7,9,10,11,12,17,18] [7,9] ?_
 obtain⟨x8,hx8,h⟩:=bind_some h
 refine ab.ls (xc mf (cI x7.Years aj _ hx8)) ?_
 refine ab.cl aa 1 [1,2,7,9,10,11,12,20] [7,9] ?_
 refine ab.cu [(20,fun b=>b)] h (fun h=> ?_) fun h=> ?_
 refine ab.cl aa 3 [1,2,7,9,10,11,12,20,21,23] [7,9] ?_
 obtain⟨x9,hx9,h⟩:=bind_some h
 refine ab.ls (xc BF (lY x7.Child uT uU uV _ hx9)) ?_
 refine ab.cl aa 1 [1,2,7,9,10,11,12,25] [7,9] ?_
 refine ab.nil ?_
 obtain rfl:=inj h
 exact Le.an
 refine ab.cl aa 5 [1,2,7,9,10,11,12,25] [7,9] ?_
 refine ab.nil ?_
 obtain rfl:=inj h
 exact Le.an
 refine ai h (fun h=> ?_) fun h=> ?_
 refine aE ?_
 refine ab.cl aa 4 [1,2,10,11,12,26,29] [7,29] ?_
 obtain⟨x12,hx12,h⟩:=bind_some h
 refine ab.bs (bY (f:=eS) (t:=106) (ti:=cF) (tj:=gl) (zs:=[.string (ByteArray.mk #[])]) (e:=9) (m:=1) (d:=7) (xv:= .own 29) hx12 aa rfl rfl rfl rfl (dI (e:=9))) ?_
 refine ab.cl aa 1 [1,2,7,10,11,12] [30] ?_
 refine ab.nil ?_
 obtain rfl:=inj h
 exact bP (eW (Le.rr [30] [(30,7)]))
 refine ag ?_
 obtain rfl:=inj h
 exact bP (eW (Le.an))
 refine aE ?_
 refine ab.cl aa 2 [1,2,7,10,11,12] [7] ?_
 refine ab.nil ?_
 obtain rfl:=inj h
 exact bZ (Le.an)
 refine aQ ?_
 obtain rfl:=inj h
 exact cn (cr (cq (eW (Le.an))))
 refine sr ?_
 refine ab.ck aa 1 ⟨34,[(32,.own 7)],[(7,oa 9 1 eS j1)]⟩ ?_
 obtain⟨x13,hx13,h⟩:=bind_some h
 refine ab.bs (Ei (d:=7) (d0:=33) (n:=j1.length) (n':=x13.length) (es:=j1.map eS) BQ (p6 j1 _ hx13) (cd fK _) (cd fK _) rfl rfl rfl (List.length_map _) (List.length_map _)) ?_
 refine bQ aa 1 [6] [33] ?_
 refine ae ?_
 obtain rfl:=inj h
 exact aD (f1 (fo fK))
theorem BE:bg Tryz.prog 187:=au Tryz.func187 (by kernel_rfl) rfl
noncomputable def fg(ad:(List ax))(aF:ByteArray)(aj:Int):Option ((List ByteArray)×Int):=
 ((gM ad aj ([aF]:List ByteArray)).bind fun x1=>(bif(x1 !=0)then some (([]:List ByteArray),x1)else((bO ad aj ad aj aF).bind fun x2=>some (x2,0))))
theorem mW(ad:(List ax))(aF:ByteArray)(aj:Int)(r:(List ByteArray)×Int)(h:fg ad aF aj=some r):aJ Tryz.prog 143 [.v (vl ah ad),.v (vs aF),.v (vi aj)] ⟨[.own 9 1 r.1.length (r.1.map eS),.v (vi r.2)],[],false⟩:=by
 refine ap Tryz.func143 rfl [(.tmp 6),(.tmp 7)] rfl (fun r=>⟨[.own 9 1 r.1.length (r.1.map eS),.v (vi r.2)],[],false⟩) (r:=r) ?_
 unfold fg at h
 refine az aa [3,4,5] [3,4,5] ?_
 refine ac ?_
 refine sr ?_
 refine ab.cl aa 4 [3,4,5,9,10,12] [3,4,5,12] ?_
 obtain⟨x1,hx1,h⟩:=bind_some h
 refine ab.ls (xc BD (oq ad aj ([aF]:List ByteArray) _ hx1)) ?_
 refine bQ aa 1 [3,4,5,8] [3,4,5] ?_
 refine az aa [3,4,5,8,15] [3,4,5] ?_
 refine ai h (fun h=> ?_) fun h=> ?_
 refine az aa [6,7] [6] ?_
 refine ae ?_
 obtain rfl:=inj h
 exact bt (aD (f2 (fo fK) fv))
 refine ag ?_
 refine aZ ?_
 refine sr ?_
 refine ab.cl aa 3 [17,18,19] [3,4,5] ?_
 obtain⟨x2,hx2,h⟩:=bind_some h
 refine ab.ls (xc BE (gr ad aj ad aj aF _ hx2)) ?_
 refine bQ aa 2 [6,7] [20] ?_
 refine ae ?_
 obtain rfl:=inj h
 exact aD (f2 (fo fK) fv)
theorem Bm:bg Tryz.prog 143:=au Tryz.func143 (by kernel_rfl) rfl
noncomputable def ez(aP:Place)(aj:Int):Option (Place):=
 (((jq (aP.Names.length:Int) (fun(i3:Int) (s3:ByteArray×Int×Int×Int×(List Name))=>((at' aP.Names i3).bind fun x7=>(bif(decide (x7.Years.From<aj))then((eg s3.2.2.2.2 ([(Name.mk x7.Text x7.Language x7.Status (Span.mk x7.Years.From (cE x7.Years.To (aO (aj - 1)))))]:List Name)).bind fun x8=>some (s3.1,s3.2.1,s3.2.2.1,s3.2.2.2.1,x8))else some (s3.1,s3.2.1,s3.2.2.1,s3.2.2.2.1,s3.2.2.2.2)))) (fun(s3:ByteArray×Int×Int×Int×(List Name))=>(s3.1,s3.2.1,s3.2.2.1,s3.2.2.2.1,s3.2.2.2.2)) 0 (aP.Code,aP.Class,aP.Years.From,(aO (aj - 1)),([]:List Name)))).bind fun(j1:ByteArray×Int×Int×Int×(List Name))=>some (Place.mk j1.1 j1.2.1 (Span.mk j1.2.2.1 j1.2.2.2.1) j1.2.2.2.2))
theorem js(aP:Place)(aj:Int)(r:Place)(h:ez aP aj=some r):aJ Tryz.prog 144 [.v (.agg (tc af aP)),.v (vi aj)] ⟨[.part [vs r.Code,vi r.Class,vi r.Years.From,vi r.Years.To] [] (oa 169 5 ar r.Names)],[],false⟩:=by
 refine ap Tryz.func144 rfl [(.cell 4 91)] rfl (fun r=>⟨[.part [vs r.Code,vi r.Class,vi r.Years.From,vi r.Years.To] [] (oa 169 5 ar r.Names)],[],false⟩) (r:=r) ?_
 unfold ez at h
 refine az aa [1,2,4] [2,4] ?_
 refine sr ?_
 refine ab.cl aa 9 [1,2,4,9,11,14,16] [2,4] ?_
 refine ab.ls (br (v:= .agg [vi aP.Years.From,vi (aO (aj - 1))]) aa rfl) ?_
 refine ab.ls (qf (d:=18) (e:=169) (m:=5) (v:= .agg [vs aP.Code,vi aP.Class,vi aP.Years.From,vi (aO (aj - 1)),.own 18]) aa rfl (by kernel_rfl) rfl (by kernel_rfl) (by kernel_rfl)) ?_
 refine bQ aa 2 [1,2,4,5] [2,4,5,18] ?_
 refine ac ?_
 refine az aa [1,4,5,20,21,22] [4,5,18] ?_
 refine ba h (fun j1=>⟨47,[(4,.ref 4 0),(5,.ref 5 0)],[(4,.box [vs (ByteArray.mk #[]),vi 0,vi 0,vi 0,vl ar ([]:List Name)]),(5,.box [vs j1.1,vi j1.2.1,vi j1.2.2.1,vi j1.2.2.2.1,.own 18]),(18,oa 169 5 ar j1.2.2.2.2)]⟩) (fun v2 h=> ?_) (fun j1 h=> ?_)
 refine aw (a:=v2) ?_
 refine a7 (r:=v2) (s:=(0,aP.Code,aP.Class,aP.Years.From,(aO (aj - 1)),([]:List Name))) _ (fun s3=>⟨47,[(1,vi aj),(4,.ref 4 0),(5,.ref 5 0),(20,vl ar aP.Names),(21,vi (aP.Names.length:Int)),(22,vi s3.1)],[(4,.box [vs (ByteArray.mk #[]),vi 0,vi 0,vi 0,vl ar ([]:List Name)]),(5,.box [vs s3.2.1,vi s3.2.2.1,vi s3.2.2.2.1,vi s3.2.2.2.2.1,.own 18]),(18,oa 169 5 ar s3.2.2.2.2.2)]⟩) _ (Le.an) h (fun s3 v4 h=> ?_)
 refine az aa [1,4,5,20,21,22,23] [4,5,18] ?_
 refine ac ?_
 refine ai h (fun h=> ?_) fun h=> ?_
 refine ag ?_
 refine aZ ?_
 refine ac ?_
 refine ba h (fun j5=>⟨47,[(1,vi aj),(4,.ref 4 0),(5,.ref 5 0),(20,vl ar aP.Names),(21,vi (aP.Names.length:Int)),(22,vi s3.1)],[(4,.box [vs (ByteArray.mk #[]),vi 0,vi 0,vi 0,vl ar ([]:List Name)]),(5,.box [vs j5.1,vi j5.2.1,vi j5.2.2.1,vi j5.2.2.2.1,.own 18]),(18,oa 169 5 ar j5.2.2.2.2)]⟩) (fun v6 h=> ?_) (fun j5 h=> ?_)
 refine aw (a:=v6) ?_
 refine sr ?_
 obtain⟨x7,hx7,h⟩:=bind_some h
 refine ab.ls (aG (L:=aP.Names) (f:=ar) (ti:=dh) (tj:=cK) (e:=169) (k:= .i64) aa rfl hx7) ?_
 refine bQ aa 3 [1,4,5,7,20,21,22] [4,5,7,18] ?_
 refine az aa [1,4,5,7,20,21,22,30] [4,5,7,18] ?_
 refine ai h (fun h=> ?_) fun h=> ?_
 refine az aa [1,4,5,7,20,21,22] [4,5,7,18] ?_
 refine aE ?_
 refine ab.cl aa 4 [1,4,5,20,21,22,40,42] [4,5,18,42] ?_
 refine ab.le (Le.AS (d:=5) (j:=4) (k:=18) (cs:=[vs s3.2.1,vi s3.2.2.1,vi s3.2.2.2.1,vi s3.2.2.2.2.1,.own 18]) (by kernel_rfl) rfl) ?_
 obtain⟨x8,hx8,h⟩:=bind_some h
 refine ab.bs (bY (f:=ar) (t:=89) (ti:=dh) (tj:=cK) (zs:=[.string (ByteArray.mk #[]),.string (ByteArray.mk #[]),.int .i64 0,.int .i64 0,.int .i64 0]) (e:=169) (m:=5) (d:=18) (xv:= .own 42) hx8 aa rfl rfl rfl rfl (dI (e:=169))) ?_
 refine ab.cl aa 2 [1,4,5,20,21,22] [4,5,43] ?_
 refine ab.nil ?_
 obtain rfl:=inj h
 exact bP (eW (Le.rr [4,5,43] [(43,18)]))
 refine ag ?_
 obtain rfl:=inj h
 exact bP (eW (Le.an))
 refine aE ?_
 refine ab.cl aa 2 [1,4,5,20,21,22] [4,5,18] ?_
 refine ab.nil ?_
 obtain rfl:=inj h
 exact bZ (Le.an)
 refine aQ ?_
 obtain rfl:=inj h
 exact cn (cr (cq (eW (Le.an))))
 refine az aa [4] [4,18] ?_
 refine ae ?_
 obtain rfl:=inj h
 exact aD (f1 (BW (d:=18) [vs j1.1,vi j1.2.1,vi j1.2.2.1,vi j1.2.2.2.1] [] (cT aa (d:=4) (cs:=[vs j1.1,vi j1.2.1,vi j1.2.2.1,vi j1.2.2.2.1,.own 18]) (ti:=cm) (by kernel_rfl) (by kernel_rfl) (by kernel_rfl) (by kernel_rfl)) (by kernel_rfl) (cd bE _) rfl rfl SV.ew SV.ew (by kernel_rfl)))
theorem xG:bg Tryz.prog 144:=au Tryz.func144 (by kernel_rfl) rfl
noncomputable def gL(ad:(List ax))(aF:ByteArray)(aj:Int):Option ((List ax)):=
 (((jq (ad.length:Int) (fun(i3:Int) (s3:(List ax))=>((at' ad i3).bind fun x7=>(((bif((x7.Child.toList==aF.toList) || (x7.Parent.toList==aF.toList))then some (ax.mk x7.Child x7.Parent (Span.mk x7.Years.From (cE x7.Years.To (aO (aj - 1)))))else some x7)).bind fun(j8:ax)=>(bif(decide (j8.Years.From≤j8.Years.To))then((eg s3 ([j8]:List ax)).bind fun x10=>some x10)else some s3)))) (fun(s3:(List ax))=>s3) 0 ([]:List ax))).bind fun(j1:(List ax))=>some j1)
theorem oj(ad:(List ax))(aF:ByteArray)(aj:Int)(r:(List ax))(h:gL ad aF aj=some r):aJ Tryz.prog 145 [.v (vl ah ad),.v (vs aF),.v (vi aj)] ⟨[.own 85 4 r.length (r.map ah)],[],false⟩:=by
 refine ap Tryz.func145 rfl [(.tmp 6)] rfl (fun r=>⟨[.own 85 4 r.length (r.map ah)],[],false⟩) (r:=r) ?_
 unfold gL at h
 refine az aa [0,1,2] [] ?_
 refine az aa [0,1,2,7] [7] ?_
 refine ac ?_
 refine az aa [1,2,7,10,11,12] [7] ?_
 refine ba h (fun j1=>⟨47,[(7,.own 7)],[(7,oa 85 4 ah j1)]⟩) (fun v2 h=> ?_) (fun j1 h=> ?_)
 refine aw (a:=v2) ?_
 refine a7 (r:=v2) (s:=(0,([]:List ax))) _ (fun s3=>⟨47,[(1,vs aF),(2,vi aj),(7,.own 7),(10,vl ah ad),(11,vi (ad.length:Int)),(12,vi s3.1)],[(7,oa 85 4 ah s3.2)]⟩) _ (Le.an) h (fun s3 v4 h=> ?_)
 refine az aa [1,2,7,10,11,12,13] [7] ?_
 refine ac ?_
 refine ai h (fun h=> ?_) fun h=> ?_
 refine ag ?_
 refine aZ ?_
 refine ac ?_
 refine ba h (fun j5=>⟨47,[(1,vs aF),(2,vi aj),(7,.own 7),(10,vl ah ad),(11,vi (ad.length:Int)),(12,vi s3.1)],[(7,oa 85 4 ah j5)]⟩) (fun v6 h=> ?_) (fun j5 h=> ?_)
 refine aw (a:=v6) ?_
 refine sr ?_
 obtain⟨x7,hx7,h⟩:=bind_some h
 refine ab.ls (aG (L:=ad) (f:=ah) (ti:=dq) (tj:=dr) (e:=85) (k:= .i64) aa rfl hx7) ?_
 refine bQ aa 3 [1,2,7,9,10,11,12] [7,9] ?_
 refine ac ?_
 refine ac ?_
 refine dp ⟨47,[(1,vs aF),(2,vi aj),(7,.own 7),(9,.ref 9 0),(10,vl ah ad),(11,vi (ad.length:Int)),(12,vi s3.1),(25,vb ((x7.Child.toList==aF.toList) || (x7.Parent.toList==aF.toList)))],[(7,oa 85 4 ah s3.2),(9,.box (tc ah x7))]⟩ ?_ ?_
 refine ab.ck aa 5 ⟨47,[(1,vs aF),(2,vi aj),(7,.own 7),(9,.ref 9 0),(10,vl ah ad),(11,vi (ad.length:Int)),(12,vi s3.1),(20,vb (x7.Child.toList==aF.toList))],[(7,oa 85 4 ah s3.2),(9,.box (tc ah x7))]⟩ ?_
 generalize (x7.Child.toList==aF.toList)=bb
 cases bb
 refine ab.cl aa 5 [1,2,7,9,10,11,12,25] [7,9] ?_
 exact ab.nil (Le.an)
 refine ab.cl aa 5 [1,2,7,9,10,11,12,25] [7,9] ?_
 exact ab.nil (Le.an)
 refine ba h (fun j8=>⟨47,[(1,vs aF),(2,vi aj),(7,.own 7),(9,.ref 9 0),(10,vl ah ad),(11,vi (ad.length:Int)),(12,vi s3.1)],[(7,oa 85 4 ah s3.2),(9,.box (tc ah j8))]⟩) (fun v9 h=> ?_) (fun j8 h=> ?_)
 refine ai h (fun h=> ?_) fun h=> ?_
 refine aE ?_
 refine ab.cl aa 9 [1,2,7,9,10,11,12] [7,9] ?_
 refine ab.nil ?_
 obtain rfl:=inj h
 exact eW (Le.an)
 refine ag ?_
 obtain rfl:=inj h
 exact eW (Le.an)
 refine az aa [1,2,7,9,10,11,12,40] [7,9] ?_
 refine ai h (fun h=> ?_) fun h=> ?_
 refine aE ?_
 refine ab.cl aa 3 [1,2,10,11,12,41,43] [7,43] ?_
 obtain⟨x10,hx10,h⟩:=bind_some h
 refine ab.bs (bY (f:=ah) (t:=33) (ti:=dq) (tj:=dr) (zs:=[.string (ByteArray.mk #[]),.string (ByteArray.mk #[]),.int .i64 0,.int .i64 0]) (e:=85) (m:=4) (d:=7) (xv:= .own 43) hx10 aa rfl rfl rfl rfl (dI (e:=85))) ?_
 refine ab.cl aa 1 [1,2,7,10,11,12] [44] ?_
 refine ab.nil ?_
 obtain rfl:=inj h
 exact bP (eW (Le.rr [44] [(44,7)]))
 refine ag ?_
 obtain rfl:=inj h
 exact bP (eW (Le.an))
 refine aE ?_
 refine ab.cl aa 2 [1,2,7,10,11,12] [7] ?_
 refine ab.nil ?_
 obtain rfl:=inj h
 exact bZ (Le.an)
 refine aQ ?_
 obtain rfl:=inj h
 exact cn (cr (cq (eW (Le.an))))
 refine az aa [6] [7] ?_
 refine ae ?_
 obtain rfl:=inj h
 exact aD (f1 (fo c8))
theorem Bn:bg Tryz.prog 145:=au Tryz.func145 (by kernel_rfl) rfl
noncomputable def eB(aW:World)(aF:ByteArray)(aj:Int):Option (World):=
 ((cg aW.Places aF).bind fun x1=>((at' aW.Places x1.1).bind fun x2=>((ez x2 aj).bind fun x3=>((at' aW.Places x1.1).bind fun _=>((gL aW.Links aF aj).bind fun x5=>some (World.mk (List.set aW.Places (Int.toNat x1.1) x3) x5))))))
theorem kk(aW:World)(aF:ByteArray)(aj:Int)(r:World)(h:eB aW aF aj=some r):jm Tryz.prog 93 [.ref 1000000 0,vs aF,vi aj] [(1000000,.box [.own 3000000,.own 3000001]),(3000000,.deep 91 5 aW.Places.length [.flat,.flat,.flat,.flat,(.sl 169 5 [.flat,.flat,.flat,.flat,.flat])] (aW.Places.map af)),(3000001,oa 85 4 ah aW.Links)] [(1000000,.box [.own 3000000,.own 3000001]),(3000000,.deep 91 5 r.Places.length [.flat,.flat,.flat,.flat,(.sl 169 5 [.flat,.flat,.flat,.flat,.flat])] (r.Places.map af)),(3000001,oa 85 4 ah r.Links)] []:=by
 refine gT Tryz.func93 rfl [] rfl (fun r=>[(1000000,.box [.own 3000000,.own 3000001]),(3000000,.deep 91 5 r.Places.length [.flat,.flat,.flat,.flat,(.sl 169 5 [.flat,.flat,.flat,.flat,.flat])] (r.Places.map af)),(3000001,oa 85 4 ah r.Links)]) (fun r=>[]) (r:=r) (cf SV.ew (cf trivial (cf (cd c8 _) jj))) ?_
 unfold eB at h
 refine sr ?_
 refine ab.cl aa 5 [0,1,2,12,13] [1000000,3000000,3000001] ?_
 obtain⟨x1,hx1,h⟩:=bind_some h
 refine ab.ls (xc n6 (dR aW.Places aF _ hx1)) ?_
 refine bQ aa 5 [0,1,2,6] [1000000,3000000,3000001] ?_
 refine ac ?_
 obtain⟨x2,hx2,h⟩:=bind_some h
 obtain⟨x3,hx3,h⟩:=bind_some h
 obtain⟨x4,hx4,h⟩:=bind_some h
 refine cO mixed ?_
 refine aY.BT (σE:=⟨42,[(0,.ref 1000000 0),(1,vs aF),(2,vi aj)],[(1000000,.box [.own 3000000,.own 3000001]),(3000000,.deep 91 5 (List.set aW.Places (Int.toNat x1.1) x3).length [.flat,.flat,.flat,.flat,(.sl 169 5 [.flat,.flat,.flat,.flat,.flat])] ((List.set aW.Places (Int.toNat x1.1) x3).map af)),(3000001,oa 85 4 ah aW.Links)]⟩) (n:=16) (L0:=(bA 16 0)) (by kernel_rfl) (by kernel_rfl) (fun K hk=> ?_) ?_
 refine DE.sh 0 (bA 16 65535) ⟨42,[(0,.ref 1000000 0),(1,vs aF),(2,vi aj)],[(1000000,.box [.own 3000000,.own 3000001]),(3000000,.deep 91 5 (List.set aW.Places (Int.toNat x1.1) x3).length [.flat,.flat,.flat,.flat,(.sl 169 5 [.flat,.flat,.flat,.flat,.flat])] ((List.set aW.Places (Int.toNat x1.1) x3).map af)),(3000001,oa 85 4 ah aW.Links)]⟩ ?_ fun d20=> ?_
 exact DE.done (by kernel_rfl) hk
 refine DE.sh 1 (bA 16 32767) ⟨42,[(0,.ref 1000000 0),(1,vs aF),(2,vi aj),(30,.agg [vs x3.Code,vi x3.Class,vi x3.Years.From,vi x3.Years.To,.own 30]),(31,.eref 3000000 5 (Int.toNat x1.1) 0)],[(30,oa 169 5 ar x3.Names),(1000000,.box [.own 3000000,.own 3000001]),(3000000,.deep 91 5 aW.Places.length [.flat,.flat,.flat,.flat,(.sl 169 5 [.flat,.flat,.flat,.flat,.flat])] (aW.Places.map af)),(3000001,oa 85 4 ah aW.Links)]⟩ ?_ fun d19=> ?_
 exact DE.a1 15 d20 rfl (ay.le (ff (d:=3000000) (m:=5) (j:=0) (L:=aW.Places) (f:=af) (x:=x3) (z:=x4) (ti:=cm) (e:=91) (ss:=[.flat,.flat,.flat,.flat,(.sl 169 5 [.flat,.flat,.flat,.flat,.flat])]) (ss2:=[.flat,.flat,.flat,.flat,(.sl 169 5 [.flat,.flat,.flat,.flat,.flat])]) (ts:=[.str x3.Code,.int .i64 x3.Class,.int .i64 x3.Years.From,.int .i64 x3.Years.To,.sl x3.Names.length (x3.Names.map ar)]) (vs:=[vs x3.Code,vi x3.Class,vi x3.Years.From,vi x3.Years.To,.own 30]) (v:= .agg [vs x3.Code,vi x3.Class,vi x3.Years.From,vi x3.Years.To,.own 30]) (ds:=[30]) aa rfl rfl hx4 (.cons _ _ _ [] _ _ _ _ (.flat (.str x3.Code) rfl) (.cons _ _ _ [] _ _ _ _ (.flat (.int .i64 x3.Class) rfl) (.cons _ _ _ [] _ _ _ _ (.flat (.int .i64 x3.Years.From) rfl) (.cons _ _ _ [] _ _ _ _ (.flat (.int .i64 x3.Years.To) rfl) (.cons _ _ _ [30] _ _ _ _ (qV (d:=30) (e:=169) (m:=5) (n:=x3.Names.length) (es:=x3.Names.map ar) (ss:=[.flat,.flat,.flat,.flat,.flat]) (cd bE _)) .nil (by decide)) (by decide)) (by decide)) (by decide)) (by decide))) Le.an)
 refine DE.sh 2 (bA 16 16383) ⟨42,[(0,.ref 1000000 0),(1,vs aF),(2,vi aj),(20,.own 3000000),(21,vi x1.1),(30,.agg [vs x3.Code,vi x3.Class,vi x3.Years.From,vi x3.Years.To,.own 30])],[(30,oa 169 5 ar x3.Names),(1000000,.box [.own 3000000,.own 3000001]),(3000000,.deep 91 5 aW.Places.length [.flat,.flat,.flat,.flat,(.sl 169 5 [.flat,.flat,.flat,.flat,.flat])] (aW.Places.map af)),(3000001,oa 85 4 ah aW.Links)]⟩ ?_ fun d18=> ?_
 exact DE.a1 14 d19 rfl (ay.l (bL (d:=3000000) (L:=aW.Places) (f:=af) (ti:=cP) (tj:=cm) (e:=91) (e':=91) (m:=5) (k:= .i64) (ss:=[.flat,.flat,.flat,.flat,(.sl 169 5 [.flat,.flat,.flat,.flat,.flat])]) aa rfl hx4))
 refine DE.sh 3 (bA 16 16375) ⟨42,[(0,.ref 1000000 0),(1,vs aF),(2,vi aj),(19,.ref 1000000 0),(21,vi x1.1),(30,.agg [vs x3.Code,vi x3.Class,vi x3.Years.From,vi x3.Years.To,.own 30])],[(30,oa 169 5 ar x3.Names),(1000000,.box [.own 3000000,.own 3000001]),(3000000,.deep 91 5 aW.Places.length [.flat,.flat,.flat,.flat,(.sl 169 5 [.flat,.flat,.flat,.flat,.flat])] (aW.Places.map af)),(3000001,oa 85 4 ah aW.Links)]⟩ ?_ fun d17=> ?_
 exact DE.a1 3 d18 rfl (ay.n aa)
 refine DE.sh 3 (bA 16 8191) ⟨42,[(0,.ref 1000000 0),(1,vs aF),(2,vi aj),(20,.own 3000000),(21,vi x1.1),(28,.agg [vs x2.Code,vi x2.Class,vi x2.Years.From,vi x2.Years.To,.own 3001028]),(29,vi aj)],[(1000000,.box [.own 3000000,.own 3000001]),(3000000,.hol 91 5 aW.Places.length [.flat,.flat,.flat,.flat,(.sl 169 5 [.flat,.flat,.flat,.flat,.flat])] (aW.Places.map af) (Int.toNat x1.1) 4 3001028),(3000001,oa 85 4 ah aW.Links),(3001028,oa 169 5 ar x2.Names)]⟩ ?_ fun d16=> ?_
 exact DE.a1 13 d18 rfl (ay.le (ay.le (ay.ofL (xc xG (js x2 aj _ hx3)) (by kernel_rfl)) (sd (L:=aW.Places) (f:=af) (x:=x2) (d:=3000000) (k:=3001028) (e:=91) (m:=5) (j:=4) (e':=169) (m':=5) (n':=x2.Names.length) (ss:=[.flat,.flat,.flat,.flat,(.sl 169 5 [.flat,.flat,.flat,.flat,.flat])]) (ss':=[.flat,.flat,.flat,.flat,.flat]) (es':=x2.Names.map ar) hx2 (cd bE _))) Le.an)
 refine DE.sh 4 (bA 16 8183) ⟨42,[(0,.ref 1000000 0),(1,vs aF),(2,vi aj),(19,.ref 1000000 0),(21,vi x1.1),(28,.agg [vs x2.Code,vi x2.Class,vi x2.Years.From,vi x2.Years.To,.own 3001028]),(29,vi aj)],[(1000000,.box [.own 3000000,.own 3000001]),(3000000,.hol 91 5 aW.Places.length [.flat,.flat,.flat,.flat,(.sl 169 5 [.flat,.flat,.flat,.flat,.flat])] (aW.Places.map af) (Int.toNat x1.1) 4 3001028),(3000001,oa 85 4 ah aW.Links),(3001028,oa 169 5 ar x2.Names)]⟩ ?_ fun d15=> ?_
 exact DE.al (.c 3 d16 rfl (ay.n aa) (.c 13 d17 rfl (ay.le (ay.le (ay.ofL (xc xG (js x2 aj _ hx3)) (by kernel_rfl)) (sd (L:=aW.Places) (f:=af) (x:=x2) (d:=3000000) (k:=3001028) (e:=91) (m:=5) (j:=4) (e':=169) (m':=5) (n':=x2.Names.length) (ss:=[.flat,.flat,.flat,.flat,(.sl 169 5 [.flat,.flat,.flat,.flat,.flat])]) (ss':=[.flat,.flat,.flat,.flat,.flat]) (es':=x2.Names.map ar) hx2 (cd bE _))) Le.an) .n))
 refine DE.sh 4 (bA 16 6143) ⟨42,[(0,.ref 1000000 0),(1,vs aF),(2,vi aj),(20,.own 3000000),(21,vi x1.1),(27,.eref 3000000 5 (Int.toNat x1.1) 0),(29,vi aj)],[(1000000,.box [.own 3000000,.own 3000001]),(3000000,.deep 91 5 aW.Places.length [.flat,.flat,.flat,.flat,(.sl 169 5 [.flat,.flat,.flat,.flat,.flat])] (aW.Places.map af)),(3000001,oa 85 4 ah aW.Links)]⟩ ?_ fun d14=> ?_
 exact DE.a1 11 d16 rfl (ay.le (wC (L:=aW.Places) (f:=af) (d:=3000000) (k:=3001028) (e:=91) (m:=5) (j:=4) (e':=169) (m':=5) (n':=x2.Names.length) (ss:=[.flat,.flat,.flat,.flat,(.sl 169 5 [.flat,.flat,.flat,.flat,.flat])]) (ss':=[.flat,.flat,.flat,.flat,.flat]) (es':=x2.Names.map ar) (ti:=cm) (y:=oa 169 5 ar x2.Names) hx2 aa rfl rfl (.inr ⟨rfl,rfl⟩)) Le.an)
 refine DE.sh 5 (bA 16 6135) ⟨42,[(0,.ref 1000000 0),(1,vs aF),(2,vi aj),(19,.ref 1000000 0),(21,vi x1.1),(27,.eref 3000000 5 (Int.toNat x1.1) 0),(29,vi aj)],[(1000000,.box [.own 3000000,.own 3000001]),(3000000,.deep 91 5 aW.Places.length [.flat,.flat,.flat,.flat,(.sl 169 5 [.flat,.flat,.flat,.flat,.flat])] (aW.Places.map af)),(3000001,oa 85 4 ah aW.Links)]⟩ ?_ fun d13=> ?_
 exact DE.al (.c 3 d14 rfl (ay.n aa) (.c 11 d15 rfl (ay.le (wC (L:=aW.Places) (f:=af) (d:=3000000) (k:=3001028) (e:=91) (m:=5) (j:=4) (e':=169) (m':=5) (n':=x2.Names.length) (ss:=[.flat,.flat,.flat,.flat,(.sl 169 5 [.flat,.flat,.flat,.flat,.flat])]) (ss':=[.flat,.flat,.flat,.flat,.flat]) (es':=x2.Names.map ar) (ti:=cm) (y:=oa 169 5 ar x2.Names) hx2 aa rfl rfl (.inr ⟨rfl,rfl⟩)) Le.an) .n))
 refine DE.sh 5 (bA 16 5119) ⟨42,[(0,.ref 1000000 0),(1,vs aF),(2,vi aj),(20,.own 3000000),(21,vi x1.1),(25,.own 3000000),(26,vi x1.1),(29,vi aj)],[(1000000,.box [.own 3000000,.own 3000001]),(3000000,.deep 91 5 aW.Places.length [.flat,.flat,.flat,.flat,(.sl 169 5 [.flat,.flat,.flat,.flat,.flat])] (aW.Places.map af)),(3000001,oa 85 4 ah aW.Links)]⟩ ?_ fun d12=> ?_
 exact DE.a1 10 d14 rfl (ay.l (bL (d:=3000000) (L:=aW.Places) (f:=af) (ti:=cP) (tj:=cm) (e:=91) (e':=91) (m:=5) (k:= .i64) (ss:=[.flat,.flat,.flat,.flat,(.sl 169 5 [.flat,.flat,.flat,.flat,.flat])]) aa rfl hx2))
 refine DE.sh 6 (bA 16 5111) ⟨42,[(0,.ref 1000000 0),(1,vs aF),(2,vi aj),(19,.ref 1000000 0),(21,vi x1.1),(25,.own 3000000),(26,vi x1.1),(29,vi aj)],[(1000000,.box [.own 3000000,.own 3000001]),(3000000,.deep 91 5 aW.Places.length [.flat,.flat,.flat,.flat,(.sl 169 5 [.flat,.flat,.flat,.flat,.flat])] (aW.Places.map af)),(3000001,oa 85 4 ah aW.Links)]⟩ ?_ fun d11=> ?_
 exact DE.al (.c 3 d12 rfl (ay.n aa) (.c 10 d13 rfl (ay.l (bL (d:=3000000) (L:=aW.Places) (f:=af) (ti:=cP) (tj:=cm) (e:=91) (e':=91) (m:=5) (k:= .i64) (ss:=[.flat,.flat,.flat,.flat,(.sl 169 5 [.flat,.flat,.flat,.flat,.flat])]) aa rfl hx2)) .n))
 refine DE.sh 6 (bA 16 4863) ⟨42,[(0,.ref 1000000 0),(1,vs aF),(2,vi aj),(20,.own 3000000),(21,vi x1.1),(24,.ref 1000000 0),(26,vi x1.1),(29,vi aj)],[(1000000,.box [.own 3000000,.own 3000001]),(3000000,.deep 91 5 aW.Places.length [.flat,.flat,.flat,.flat,(.sl 169 5 [.flat,.flat,.flat,.flat,.flat])] (aW.Places.map af)),(3000001,oa 85 4 ah aW.Links)]⟩ ?_ fun d10=> ?_
 exact DE.a1 8 d12 rfl (ay.n aa)
 refine DE.sh 7 (bA 16 4855) ⟨42,[(0,.ref 1000000 0),(1,vs aF),(2,vi aj),(19,.ref 1000000 0),(21,vi x1.1),(24,.ref 1000000 0),(26,vi x1.1),(29,vi aj)],[(1000000,.box [.own 3000000,.own 3000001]),(3000000,.deep 91 5 aW.Places.length [.flat,.flat,.flat,.flat,(.sl 169 5 [.flat,.flat,.flat,.flat,.flat])] (aW.Places.map af)),(3000001,oa 85 4 ah aW.Links)]⟩ ?_ fun d9=> ?_
 exact DE.al (.c 3 d10 rfl (ay.n aa) (.c 8 d11 rfl (ay.n aa) .n))
 refine DE.sh 8 (bA 16 759) ⟨42,[(0,.ref 1000000 0),(1,vs aF),(2,vi aj),(19,.ref 1000000 0),(21,vi x1.1),(24,.ref 1000000 0),(26,vi x1.1)],[(1000000,.box [.own 3000000,.own 3000001]),(3000000,.deep 91 5 aW.Places.length [.flat,.flat,.flat,.flat,(.sl 169 5 [.flat,.flat,.flat,.flat,.flat])] (aW.Places.map af)),(3000001,oa 85 4 ah aW.Links)]⟩ ?_ fun d8=> ?_
 exact DE.tk 12 d9 rfl (.inl rfl) (ay.n aa)
 refine DE.sh 9 (bA 16 247) ⟨42,[(0,.ref 1000000 0),(1,vs aF),(2,vi aj),(6,vi x1.1),(19,.ref 1000000 0),(21,vi x1.1),(24,.ref 1000000 0)],[(1000000,.box [.own 3000000,.own 3000001]),(3000000,.deep 91 5 aW.Places.length [.flat,.flat,.flat,.flat,(.sl 169 5 [.flat,.flat,.flat,.flat,.flat])] (aW.Places.map af)),(3000001,oa 85 4 ah aW.Links)]⟩ ?_ fun d7=> ?_
 exact DE.tk 9 d8 rfl (.inl rfl) (ay.n aa)
 refine DE.sh 10 (bA 16 119) ⟨42,[(0,.ref 1000000 0),(1,vs aF),(2,vi aj),(6,vi x1.1),(19,.ref 1000000 0),(21,vi x1.1),(23,.ref 1000000 0)],[(1000000,.box [.own 3000000,.own 3000001]),(3000000,.deep 91 5 aW.Places.length [.flat,.flat,.flat,.flat,(.sl 169 5 [.flat,.flat,.flat,.flat,.flat])] (aW.Places.map af)),(3000001,oa 85 4 ah aW.Links)]⟩ ?_ fun d6=> ?_
 exact DE.tw aa 7 d7 rfl (ay.n aa)
 refine DE.sh 11 (bA 16 55) ⟨42,[(0,.ref 1000000 0),(1,vs aF),(2,vi aj),(6,vi x1.1),(19,.ref 1000000 0),(21,vi x1.1),(22,.ref 1000000 0)],[(1000000,.box [.own 3000000,.own 3000001]),(3000000,.deep 91 5 aW.Places.length [.flat,.flat,.flat,.flat,(.sl 169 5 [.flat,.flat,.flat,.flat,.flat])] (aW.Places.map af)),(3000001,oa 85 4 ah aW.Links)]⟩ ?_ fun d5=> ?_
 exact DE.tw aa 6 d6 rfl (ay.n aa)
 refine DE.sh 12 (bA 16 23) ⟨42,[(0,.ref 1000000 0),(1,vs aF),(2,vi aj),(6,vi x1.1),(19,.ref 1000000 0),(21,vi x1.1)],[(1000000,.box [.own 3000000,.own 3000001]),(3000000,.deep 91 5 aW.Places.length [.flat,.flat,.flat,.flat,(.sl 169 5 [.flat,.flat,.flat,.flat,.flat])] (aW.Places.map af)),(3000001,oa 85 4 ah aW.Links)]⟩ ?_ fun d4=> ?_
 exact DE.tk 5 d5 rfl (.inl rfl) (ay.n aa)
 refine DE.sh 13 (bA 16 7) ⟨42,[(0,.ref 1000000 0),(1,vs aF),(2,vi aj),(6,vi x1.1),(19,.ref 1000000 0)],[(1000000,.box [.own 3000000,.own 3000001]),(3000000,.deep 91 5 aW.Places.length [.flat,.flat,.flat,.flat,(.sl 169 5 [.flat,.flat,.flat,.flat,.flat])] (aW.Places.map af)),(3000001,oa 85 4 ah aW.Links)]⟩ ?_ fun d3=> ?_
 exact DE.tk 4 d4 rfl (.inl rfl) (ay.n aa)
 refine DE.sh 14 (bA 16 3) ⟨42,[(0,.ref 1000000 0),(1,vs aF),(2,vi aj),(6,vi x1.1),(18,.ref 1000000 0)],[(1000000,.box [.own 3000000,.own 3000001]),(3000000,.deep 91 5 aW.Places.length [.flat,.flat,.flat,.flat,(.sl 169 5 [.flat,.flat,.flat,.flat,.flat])] (aW.Places.map af)),(3000001,oa 85 4 ah aW.Links)]⟩ ?_ fun d2=> ?_
 exact DE.tw aa 2 d3 rfl (ay.n aa)
 refine DE.sh 15 (bA 16 1) ⟨42,[(0,.ref 1000000 0),(1,vs aF),(2,vi aj),(6,vi x1.1),(17,.ref 1000000 0)],[(1000000,.box [.own 3000000,.own 3000001]),(3000000,.deep 91 5 aW.Places.length [.flat,.flat,.flat,.flat,(.sl 169 5 [.flat,.flat,.flat,.flat,.flat])] (aW.Places.map af)),(3000001,oa 85 4 ah aW.Links)]⟩ ?_ fun d1=> ?_
 exact DE.tw aa 1 d2 rfl (ay.n aa)
 exact DE.tk 0 d1 rfl (.inl rfl) (ay.n aa)
 refine aZ ?_
 refine aE ?_
 refine ab.cl aa 7 [32,36,37,38] [1000000,3000000,3000001] ?_
 obtain⟨x5,hx5,h⟩:=bind_some h
 refine ab.ls (xc Bn (oj aW.Links aF aj _ hx5)) ?_
 refine ab.ck aa 2 ⟨42,[(39,.own 39),(41,.ref 1000000 1)],[(39,oa 85 4 ah x5),(1000000,.box [.own 3000000,.own 3000001]),(3000000,.deep 91 5 (List.set aW.Places (Int.toNat x1.1) x3).length [.flat,.flat,.flat,.flat,(.sl 169 5 [.flat,.flat,.flat,.flat,.flat])] ((List.set aW.Places (Int.toNat x1.1) x3).map af)),(3000001,oa 85 4 ah aW.Links)]⟩ ?_
 refine ab.bs (ns (d:=1000000) (k:=1) (ti:=dq) (cs:=[.own 3000000,.own 3000001]) (vs:=[.own 39]) (v:= .own 39) aa rfl rfl) ?_
 refine ab.le (Le.less _ [3000001]) ?_
 refine ab.le (Le.qn 39 3000001) ?_
 refine ab.nil ?_
 obtain rfl:=inj h
 exact Eo (fw aa)
theorem zP:bg Tryz.prog 93:=au Tryz.func93 (by kernel_rfl) rfl
noncomputable def gq(aW:World)(aC:Change):Option (Int×World):=
 ((fg aW.Links aC.Code aC.Year).bind fun x1=>(((cQ (x1.1.length:Int) (fun(i4:Int) (s4:(List Place)×(List ax))=>((at' x1.1 i4).bind fun x8=>((cM (World.mk s4.1 s4.2) x8 aC.Other aC.Year).bind fun x9=>(bif(x9.1 !=0)then some (.inr (.inr (x9.1,x9.2)))else some (.inl (x9.2.Places,x9.2.Links)))))) (fun(s4:(List Place)×(List ax))=>(.inl (s4.1,s4.2))) 0 (aW.Places,aW.Links))).bind (Sum.elim (fun(j2:(List Place)×(List ax))=>((eB (World.mk j2.1 j2.2) aC.Code aC.Year).bind fun x10=>some (0,x10))) some)))
theorem mn(aW:World)(aC:Change)(r:Int×World)(h:gq aW aC=some r):jm Tryz.prog 92 [.ref 1000000 0,.agg (tc ak aC)] [(1000000,.box [.own 3000000,.own 3000001]),(3000000,.deep 91 5 aW.Places.length [.flat,.flat,.flat,.flat,(.sl 169 5 [.flat,.flat,.flat,.flat,.flat])] (aW.Places.map af)),(3000001,oa 85 4 ah aW.Links)] [(1000000,.box [.own 3000000,.own 3000001]),(3000000,.deep 91 5 r.2.Places.length [.flat,.flat,.flat,.flat,(.sl 169 5 [.flat,.flat,.flat,.flat,.flat])] (r.2.Places.map af)),(3000001,oa 85 4 ah r.2.Links)] [vi r.1]:=by
 refine gT Tryz.func92 rfl [(.tmp 4)] rfl (fun r=>[(1000000,.box [.own 3000000,.own 3000001]),(3000000,.deep 91 5 r.2.Places.length [.flat,.flat,.flat,.flat,(.sl 169 5 [.flat,.flat,.flat,.flat,.flat])] (r.2.Places.map af)),(3000001,oa 85 4 ah r.2.Links)]) (fun r=>[vi r.1]) (r:=r) (cf SV.ew (cf trivial (cf (cd c8 _) jj))) ?_
 unfold gq at h
 refine az aa [0,3] [3,1000000,3000000,3000001] ?_
 refine ac ?_
 refine cO mixed ?_
 refine aY.cl aa false 8 [0,3,14,16,18] [3,1000000,3000000,3000001] ?_
 obtain⟨x1,hx1,h⟩:=bind_some h
 refine aY.step (xc Bm (mW aW.Links aC.Code aC.Year _ hx1)) ?_
 refine aY.cl aa false 5 [0,3,5] [3,19,1000000,3000000,3000001] ?_
 refine aY.nx ?_
 refine ac ?_
 refine az aa [0,3,22,23,24] [3,19,1000000,3000000,3000001] ?_
 refine bi (r:=r) h (fun j2=>⟨45,[(0,.ref 1000000 0),(3,.ref 3 0)],[(3,.box (tc ak aC)),(1000000,.box [.own 3000000,.own 3000001]),(3000000,.deep 91 5 j2.1.length [.flat,.flat,.flat,.flat,(.sl 169 5 [.flat,.flat,.flat,.flat,.flat])] (j2.1.map af)),(3000001,oa 85 4 ah j2.2)]⟩) (fun v3 h=> ?_) (fun j2 h=> ?_)
 refine aw (a:=v3) ?_
 refine a7 (r:=v3) (s:=(0,aW.Places,aW.Links)) _ (fun s4=>⟨45,[(0,.ref 1000000 0),(3,.ref 3 0),(22,.own 22),(23,vi (x1.1.length:Int)),(24,vi s4.1)],[(3,.box (tc ak aC)),(22,oa 9 1 eS x1.1),(1000000,.box [.own 3000000,.own 3000001]),(3000000,.deep 91 5 s4.2.1.length [.flat,.flat,.flat,.flat,(.sl 169 5 [.flat,.flat,.flat,.flat,.flat])] (s4.2.1.map af)),(3000001,oa 85 4 ah s4.2.2)]⟩) _ (Le.rr [3,19,1000000,3000000,3000001] [(19,22)]) h (fun s4 v5 h=> ?_)
 refine az aa [0,3,22,23,24,25] [3,22,1000000,3000000,3000001] ?_
 refine ac ?_
 refine ai h (fun h=> ?_) fun h=> ?_
 refine ag ?_
 refine aZ ?_
 refine ac ?_
 refine bp (r:=v5) h (fun j6=>⟨45,[(0,.ref 1000000 0),(3,.ref 3 0),(22,.own 22),(23,vi (x1.1.length:Int)),(24,vi s4.1)],[(3,.box (tc ak aC)),(22,oa 9 1 eS x1.1),(1000000,.box [.own 3000000,.own 3000001]),(3000000,.deep 91 5 j6.1.length [.flat,.flat,.flat,.flat,(.sl 169 5 [.flat,.flat,.flat,.flat,.flat])] (j6.1.map af)),(3000001,oa 85 4 ah j6.2)]⟩) (fun v7 h=> ?_) (fun j6 h=> ?_)
 refine aw (a:=v7) ?_
 refine sr ?_
 obtain⟨x8,hx8,h⟩:=bind_some h
 refine ab.ls (bm (d:=22) (L:=x1.1) (f:=eS) (ti:=cF) (tj:=gl) (e:=9) (e':=9) (m:=1) (k:= .i64) aa rfl hx8) ?_
 refine ab.ls (dB (d:=22) (m:=1) (j:=0) (L:=x1.1) (f:=eS) (ti:=gl) (e:=9) (v:=vs x8) aa rfl hx8) ?_
 refine bQ aa 1 [0,3,8,22,23,24] [3,22,1000000,3000000,3000001] ?_
 refine sr ?_
 refine ab.ck aa 6 ⟨45,[(0,.ref 1000000 0),(3,.ref 3 0),(22,.own 22),(23,vi (x1.1.length:Int)),(24,vi s4.1),(28,.ref 1000000 0),(29,vs x8),(31,vs aC.Other),(33,vi aC.Year)],[(3,.box (tc ak aC)),(22,oa 9 1 eS x1.1),(1000000,.box [.own 3000000,.own 3000001]),(3000000,.deep 91 5 s4.2.1.length [.flat,.flat,.flat,.flat,(.sl 169 5 [.flat,.flat,.flat,.flat,.flat])] (s4.2.1.map af)),(3000001,oa 85 4 ah s4.2.2)]⟩ ?_
 obtain⟨x9,hx9,h⟩:=bind_some h
 refine ab.bs (x_w [(1000000,1000000),(3000000,3000000),(3000001,3000001)] [false,true,true,true] zO (jN (World.mk s4.2.1 s4.2.2) x8 aC.Other aC.Year _ hx9)) ?_
 refine bQ aa 1 [0,3,9,22,23,24] [3,22,1000000,3000000,3000001] ?_
 refine az aa [0,3,9,22,23,24,36] [3,22,1000000,3000000,3000001] ?_
 refine ai h (fun h=> ?_) fun h=> ?_
 refine az aa [4] [1000000,3000000,3000001] ?_
 refine ae ?_
 obtain rfl:=inj h
 exact bn (aU (aU (bn (aU (kV (fw aa))))))
 refine ag ?_
 obtain rfl:=inj h
 exact bP (bZ (Le.an))
 refine aE ?_
 refine ab.cl aa 2 [0,3,22,23,24] [3,22,1000000,3000000,3000001] ?_
 refine ab.nil ?_
 obtain rfl:=inj h
 exact bZ (Le.an)
 refine aQ ?_
 obtain rfl:=inj h
 exact cn (cr (cq (bZ (Le.an))))
 refine sr ?_
 refine ab.ck aa 5 ⟨45,[(39,.ref 1000000 0),(41,vs aC.Code),(43,vi aC.Year)],[(1000000,.box [.own 3000000,.own 3000001]),(3000000,.deep 91 5 j2.1.length [.flat,.flat,.flat,.flat,(.sl 169 5 [.flat,.flat,.flat,.flat,.flat])] (j2.1.map af)),(3000001,oa 85 4 ah j2.2)]⟩ ?_
 obtain⟨x10,hx10,h⟩:=bind_some h
 refine ab.bs (x_w [(1000000,1000000),(3000000,3000000),(3000001,3000001)] [false,true,true] zP (kk (World.mk j2.1 j2.2) aC.Code aC.Year _ hx10)) ?_
 refine ab.nx ?_
 refine az aa [4] [1000000,3000000,3000001] ?_
 refine ae ?_
 obtain rfl:=inj h
 exact kV (fw aa)
theorem Dj:bg Tryz.prog 92:=au Tryz.func92 (by kernel_rfl) rfl
noncomputable def dN(aW:World)(aC:Change):Option (Int×World):=
 (((bif(aC.Kind==0)then((dZ aW aC).bind fun x3=>some (.inr (x3.1,x3.2)))else(bif(aC.Kind==2)then((cM aW aC.Code aC.Other aC.Year).bind fun x4=>some (.inr (x4.1,x4.2)))else(bif(aC.Kind==3)then((gq aW aC).bind fun x5=>some (.inr (x5.1,x5.2)))else some (.inl (aW.Places,aW.Links)))))).bind (Sum.elim (fun(j1:(List Place)×(List ax))=>((eB (World.mk j1.1 j1.2) aC.Code aC.Year).bind fun x6=>some (0,x6))) some))
theorem ml(aW:World)(aC:Change)(r:Int×World)(h:dN aW aC=some r):jm Tryz.prog 42 [.ref 1000000 0,.agg (tc ak aC)] [(1000000,.box [.own 3000000,.own 3000001]),(3000000,.deep 91 5 aW.Places.length [.flat,.flat,.flat,.flat,(.sl 169 5 [.flat,.flat,.flat,.flat,.flat])] (aW.Places.map af)),(3000001,oa 85 4 ah aW.Links)] [(1000000,.box [.own 3000000,.own 3000001]),(3000000,.deep 91 5 r.2.Places.length [.flat,.flat,.flat,.flat,(.sl 169 5 [.flat,.flat,.flat,.flat,.flat])] (r.2.Places.map af)),(3000001,oa 85 4 ah r.2.Links)] [vi r.1]:=by
 refine gT Tryz.func42 rfl [(.tmp 4)] rfl (fun r=>[(1000000,.box [.own 3000000,.own 3000001]),(3000000,.deep 91 5 r.2.Places.length [.flat,.flat,.flat,.flat,(.sl 169 5 [.flat,.flat,.flat,.flat,.flat])] (r.2.Places.map af)),(3000001,oa 85 4 ah r.2.Links)]) (fun r=>[vi r.1]) (r:=r) (cf SV.ew (cf trivial (cf (cd c8 _) jj))) ?_
 unfold dN at h
 refine az aa [0,3] [3,1000000,3000000,3000001] ?_
 refine ac ?_
 refine az aa [0,3,6] [3,1000000,3000000,3000001] ?_
 refine bi (r:=r) h (fun j1=>⟨33,[(0,.ref 1000000 0),(3,.ref 3 0)],[(3,.box (tc ak aC)),(1000000,.box [.own 3000000,.own 3000001]),(3000000,.deep 91 5 j1.1.length [.flat,.flat,.flat,.flat,(.sl 169 5 [.flat,.flat,.flat,.flat,.flat])] (j1.1.map af)),(3000001,oa 85 4 ah j1.2)]⟩) (fun v2 h=> ?_) (fun j1 h=> ?_)
 refine aw (a:=v2) ?_
 refine az aa [0,3,6,7] [3,1000000,3000000,3000001] ?_
 refine ai h (fun h=> ?_) fun h=> ?_
 refine sr ?_
 refine ab.ck aa 2 ⟨33,[(9,.ref 1000000 0),(10,.agg (tc ak aC))],[(1000000,.box [.own 3000000,.own 3000001]),(3000000,.deep 91 5 aW.Places.length [.flat,.flat,.flat,.flat,(.sl 169 5 [.flat,.flat,.flat,.flat,.flat])] (aW.Places.map af)),(3000001,oa 85 4 ah aW.Links)]⟩ ?_
 obtain⟨x3,hx3,h⟩:=bind_some h
 refine ab.bs (x_w [(1000000,1000000),(3000000,3000000),(3000001,3000001)] [false,true] Di (lZ aW aC _ hx3)) ?_
 refine bQ aa 1 [4] [1000000,3000000,3000001] ?_
 refine ae ?_
 obtain rfl:=inj h
 exact bn (aU (kV (fw aa)))
 refine az aa [0,3,6,12] [3,1000000,3000000,3000001] ?_
 refine ai h (fun h=> ?_) fun h=> ?_
 refine sr ?_
 refine ab.ck aa 7 ⟨33,[(14,.ref 1000000 0),(16,vs aC.Code),(18,vs aC.Other),(20,vi aC.Year)],[(1000000,.box [.own 3000000,.own 3000001]),(3000000,.deep 91 5 aW.Places.length [.flat,.flat,.flat,.flat,(.sl 169 5 [.flat,.flat,.flat,.flat,.flat])] (aW.Places.map af)),(3000001,oa 85 4 ah aW.Links)]⟩ ?_
 obtain⟨x4,hx4,h⟩:=bind_some h
 refine ab.bs (x_w [(1000000,1000000),(3000000,3000000),(3000001,3000001)] [false,true,true,true] zO (jN aW aC.Code aC.Other aC.Year _ hx4)) ?_
 refine bQ aa 1 [4] [1000000,3000000,3000001] ?_
 refine ae ?_
 obtain rfl:=inj h
 exact bn (aU (kV (fw aa)))
 refine az aa [0,3,22] [3,1000000,3000000,3000001] ?_
 refine ai h (fun h=> ?_) fun h=> ?_
 refine sr ?_
 refine ab.ck aa 2 ⟨33,[(24,.ref 1000000 0),(25,.agg (tc ak aC))],[(1000000,.box [.own 3000000,.own 3000001]),(3000000,.deep 91 5 aW.Places.length [.flat,.flat,.flat,.flat,(.sl 169 5 [.flat,.flat,.flat,.flat,.flat])] (aW.Places.map af)),(3000001,oa 85 4 ah aW.Links)]⟩ ?_
 obtain⟨x5,hx5,h⟩:=bind_some h
 refine ab.bs (x_w [(1000000,1000000),(3000000,3000000),(3000001,3000001)] [false,true] Dj (mn aW aC _ hx5)) ?_
 refine bQ aa 1 [4] [1000000,3000000,3000001] ?_
 refine ae ?_
 obtain rfl:=inj h
 exact bn (aU (kV (fw aa)))
 refine ag ?_
 obtain rfl:=inj h
 exact bP (bZ (Le.an))
 refine sr ?_
 refine ab.ck aa 5 ⟨33,[(27,.ref 1000000 0),(29,vs aC.Code),(31,vi aC.Year)],[(1000000,.box [.own 3000000,.own 3000001]),(3000000,.deep 91 5 j1.1.length [.flat,.flat,.flat,.flat,(.sl 169 5 [.flat,.flat,.flat,.flat,.flat])] (j1.1.map af)),(3000001,oa 85 4 ah j1.2)]⟩ ?_
 obtain⟨x6,hx6,h⟩:=bind_some h
 refine ab.bs (x_w [(1000000,1000000),(3000000,3000000),(3000001,3000001)] [false,true,true] zP (kk (World.mk j1.1 j1.2) aC.Code aC.Year _ hx6)) ?_
 refine ab.nx ?_
 refine az aa [4] [1000000,3000000,3000001] ?_
 refine ae ?_
 obtain rfl:=inj h
 exact kV (fw aa)
theorem CW:bg Tryz.prog 42:=au Tryz.func42 (by kernel_rfl) rfl
noncomputable def bC(aW:World)(aC:Change):Option (World×Int):=
 ((dW aW aC).bind fun x1=>(bif(x1 !=0)then some ((World.mk ([]:List Place) ([]:List ax)),x1)else((dw aW).bind fun x2=>((dN x2 aC).bind fun x3=>(bif(x3.1 !=0)then some ((World.mk ([]:List Place) ([]:List ax)),x3.1)else some (x3.2,0))))))
theorem lG(aW:World)(aC:Change)(r:World×Int)(h:bC aW aC=some r):jm Tryz.prog 15 [.agg (tc aH aW),.agg (tc ak aC)] [] [(3000000,.deep 91 5 r.1.Places.length [.flat,.flat,.flat,.flat,(.sl 169 5 [.flat,.flat,.flat,.flat,.flat])] (r.1.Places.map af)),(3000001,oa 85 4 ah r.1.Links)] [.agg [.own 3000000,.own 3000001],vi r.2]:=by
 refine gT Tryz.func15 rfl [(.cell 4 35),(.tmp 5)] rfl (fun r=>[(3000000,.deep 91 5 r.1.Places.length [.flat,.flat,.flat,.flat,(.sl 169 5 [.flat,.flat,.flat,.flat,.flat])] (r.1.Places.map af)),(3000001,oa 85 4 ah r.1.Links)]) (fun r=>[.agg [.own 3000000,.own 3000001],vi r.2]) (r:=r) (cf trivial (cf (cd c8 _) jj)) ?_
 unfold bC at h
 refine az aa [2,3,4] [2,3,4] ?_
 refine ac ?_
 refine sr ?_
 refine ab.cl aa 2 [2,3,4,9,10] [2,3,4] ?_
 obtain⟨x1,hx1,h⟩:=bind_some h
 refine ab.ls (xc CV (mY aW aC _ hx1)) ?_
 refine bQ aa 1 [2,3,4,6] [2,3,4] ?_
 refine az aa [2,3,4,6,13] [2,3,4] ?_
 refine ai h (fun h=> ?_) fun h=> ?_
 refine sr ?_
 refine ab.ls (kO (ti:=jA) (fs:=[(0,32),(1,33)]) (pl:=[(0,1),(1,1)]) (zs:=[.slice none 0 0,.slice none 0 0]) aa rfl) ?_
 refine ckn aa 3 ⟨25,[(4,.ref 4 0),(5,vi x1)],[(4,.box [.tr .nil,.tr .nil])]⟩ ?_
 refine cj (Le.mw (cs:=[.tr .nil,.tr .nil]) 4 0 3000000 (.deep 91 5 ([]:List Place).length [.flat,.flat,.flat,.flat,(.sl 169 5 [.flat,.flat,.flat,.flat,.flat])] (([]:List Place).map af)) (.inr ⟨rfl,rfl⟩) rfl) ?_
 refine cj (Le.mw (ss:=[]) (cs:=[.own 3000000,.tr .nil]) 4 1 3000001 (oa 85 4 ah ([]:List ax)) (.inl rfl) rfl) ?_
 refine ae ?_
 obtain rfl:=inj h
 exact bt (kV (fw aa))
 refine ag ?_
 refine aZ ?_
 refine sr ?_
 refine ab.ck aa 1 ⟨25,[(3,.ref 3 0),(4,.ref 4 0),(16,.agg (tc aH aW))],[(3,.box (tc ak aC)),(4,.box [vl af ([]:List Place),vl ah ([]:List ax)])]⟩ ?_
 obtain⟨x2,hx2,h⟩:=bind_some h
 refine ab.bs (x_w [(3000000,24),(3000001,23)] [true] zG (jO aW _ hx2)) ?_
 refine bQ aa 2 [3,4,7] [3,4,7,23,24] ?_
 refine ac ?_
 refine sr ?_
 refine ab.ck aa 1 ⟨25,[(4,.ref 4 0),(7,.ref 7 0),(18,.agg (tc ak aC))],[(4,.box [vl af ([]:List Place),vl ah ([]:List ax)]),(7,.box [.own 24,.own 23]),(23,oa 85 4 ah x2.Links),(24,.deep 91 5 x2.Places.length [.flat,.flat,.flat,.flat,(.sl 169 5 [.flat,.flat,.flat,.flat,.flat])] (x2.Places.map af))]⟩ ?_
 obtain⟨x3,hx3,h⟩:=bind_some h
 refine ab.bs (x_w [(1000000,7),(3000000,24),(3000001,23)] [false,true] CW (ml x2 aC _ hx3)) ?_
 refine bQ aa 1 [4,7,8] [4,7,23,24] ?_
 refine az aa [4,7,8,21] [4,7,23,24] ?_
 refine ai h (fun h=> ?_) fun h=> ?_
 refine sr ?_
 refine ab.ls (kO (ti:=jA) (fs:=[(0,32),(1,33)]) (pl:=[(0,1),(1,1)]) (zs:=[.slice none 0 0,.slice none 0 0]) aa rfl) ?_
 refine ckn aa 3 ⟨25,[(4,.ref 4 0),(5,vi x3.1)],[(4,.box [.tr .nil,.tr .nil])]⟩ ?_
 refine cj (Le.mw (cs:=[.tr .nil,.tr .nil]) 4 0 3000000 (.deep 91 5 ([]:List Place).length [.flat,.flat,.flat,.flat,(.sl 169 5 [.flat,.flat,.flat,.flat,.flat])] (([]:List Place).map af)) (.inr ⟨rfl,rfl⟩) rfl) ?_
 refine cj (Le.mw (ss:=[]) (cs:=[.own 3000000,.tr .nil]) 4 1 3000001 (oa 85 4 ah ([]:List ax)) (.inl rfl) rfl) ?_
 refine ae ?_
 obtain rfl:=inj h
 exact bt (kV (fw aa))
 refine ag ?_
 refine aZ ?_
 refine iy aa ⟨25,[(4,.ref 4 0),(5,vi 0)],[(4,.box [.own 24,.own 23]),(23,oa 85 4 ah x3.2.Links),(24,.deep 91 5 x3.2.Places.length [.flat,.flat,.flat,.flat,(.sl 169 5 [.flat,.flat,.flat,.flat,.flat])] (x3.2.Places.map af))]⟩ ?_
 refine cj (Le.qn 24 3000000) ?_
 refine cj (Le.qn 23 3000001) ?_
 refine ae ?_
 obtain rfl:=inj h
 exact kV (fw aa)
theorem CK:bg Tryz.prog 15:=au Tryz.func15 (by kernel_rfl) rfl
noncomputable def fU(aA:Span)(aB:Span):Option (Bool):=
 (bif(aA.From !=aB.From)then some false else(bif(aA.To !=aB.To)then some false else some true))
theorem jI(aA:Span)(aB:Span)(r:Bool)(h:fU aA aB=some r):aJ Tryz.prog 138 [.v (.agg (tc gE aA)),.v (.agg (tc gE aB))] ⟨[.v (vb r)],[],false⟩:=by
 refine ap Tryz.func138 rfl [(.tmp 4)] rfl (fun r=>⟨[.v (vb r)],[],false⟩) (r:=r) ?_
 unfold fU at h
 refine az aa [2,3] [2,3] ?_
 refine ac ?_
 refine az aa [2,3,9] [2,3] ?_
 refine ai h (fun h=> ?_) fun h=> ?_
 refine az aa [4] [] ?_
 refine ae ?_
 obtain rfl:=inj h
 exact bt (aD (f1 fv))
 refine ag ?_
 refine aZ ?_
 refine ac ?_
 refine az aa [14] [] ?_
 refine ai h (fun h=> ?_) fun h=> ?_
 refine az aa [4] [] ?_
 refine ae ?_
 obtain rfl:=inj h
 exact bt (aD (f1 fv))
 refine ag ?_
 refine aZ ?_
 refine az aa [4] [] ?_
 refine ae ?_
 obtain rfl:=inj h
 exact aD (f1 fv)
theorem tF:bg Tryz.prog 138:=au Tryz.func138 (by kernel_rfl) rfl
noncomputable def il(aA:Name)(aB:Name):Option (Bool):=
 (bif(!(aA.Text.toList==aB.Text.toList))then some false else(bif(!(aA.Language.toList==aB.Language.toList))then some false else(bif(aA.Status !=aB.Status)then some false else((fU aA.Years aB.Years).bind fun x1=>(bif(!x1)then some false else some true)))))
theorem p9(aA:Name)(aB:Name)(r:Bool)(h:il aA aB=some r):aJ Tryz.prog 182 [.v (.agg (tc ar aA)),.v (.agg (tc ar aB))] ⟨[.v (vb r)],[],false⟩:=by
 refine ap Tryz.func182 rfl [(.tmp 4)] rfl (fun r=>⟨[.v (vb r)],[],false⟩) (r:=r) ?_
 unfold il at h
 refine az aa [2,3] [2,3] ?_
 refine ac ?_
 refine az aa [2,3,9] [2,3] ?_
 refine ai h (fun h=> ?_) fun h=> ?_
 refine az aa [4] [] ?_
 refine ae ?_
 obtain rfl:=inj h
 exact bt (aD (f1 fv))
 refine ag ?_
 refine aZ ?_
 refine ac ?_
 refine az aa [2,3,14] [2,3] ?_
 refine ai h (fun h=> ?_) fun h=> ?_
 refine az aa [4] [] ?_
 refine ae ?_
 obtain rfl:=inj h
 exact bt (aD (f1 fv))
 refine ag ?_
 refine aZ ?_
 refine ac ?_
 refine az aa [2,3,19] [2,3] ?_
 refine ai h (fun h=> ?_) fun h=> ?_
 refine az aa [4] [] ?_
 refine ae ?_
 obtain rfl:=inj h
 exact bt (aD (f1 fv))
 refine ag ?_
 refine aZ ?_
 refine ac ?_
 refine sr ?_
 refine ab.cl aa 4 [21,23] [] ?_
 obtain⟨x1,hx1,h⟩:=bind_some h
 refine ab.ls (xc tF (jI aA.Years aB.Years _ hx1)) ?_
 refine ckn aa 1 ⟨26,[(25,vb (!x1))],[]⟩ ?_
 refine ai h (fun h=> ?_) fun h=> ?_
 refine az aa [4] [] ?_
 refine ae ?_
 obtain rfl:=inj h
 exact bt (aD (f1 fv))
 refine ag ?_
 refine aZ ?_
 refine az aa [4] [] ?_
 refine ae ?_
 obtain rfl:=inj h
 exact aD (f1 fv)
theorem BA:bg Tryz.prog 182:=au Tryz.func182 (by kernel_rfl) rfl
noncomputable def iL(aA:(List Name))(aB:(List Name)):Option (Bool):=
 (bif((aA.length:Int) !=(aB.length:Int))then some false else(((cQ (aA.length:Int) (fun(i3:Int) (_:Unit)=>((at' aA i3).bind fun x7=>((at' aB i3).bind fun x8=>((il x7 x8).bind fun x9=>(bif(!x9)then some (.inr (.inr false))else some (.inl ())))))) (fun(_:Unit)=> .inl ()) 0 ())).bind (Sum.elim (fun(_:Unit)=>some true) some)))
theorem o9(aA:(List Name))(aB:(List Name))(r:Bool)(h:iL aA aB=some r):aJ Tryz.prog 139 [.v (vl ar aA),.v (vl ar aB)] ⟨[.v (vb r)],[],false⟩:=by
 refine ap Tryz.func139 rfl [(.tmp 4)] rfl (fun r=>⟨[.v (vb r)],[],false⟩) (r:=r) ?_
 unfold iL at h
 refine az aa [0,1] [] ?_
 refine ac ?_
 refine az aa [0,1,10] [] ?_
 refine ai h (fun h=> ?_) fun h=> ?_
 refine az aa [4] [] ?_
 refine ae ?_
 obtain rfl:=inj h
 exact bt (aD (f1 fv))
 refine ag ?_
 refine aZ ?_
 refine ac ?_
 refine az aa [0,1,5] [] ?_
 refine bi (r:=r) h (fun j1=>⟨27,[],[]⟩) (fun v2 h=> ?_) (fun j1 h=> ?_)
 refine aw (a:=v2) ?_
 refine a7 (r:=v2) (s:=(0,())) _ (fun s3=>⟨27,[(0,vl ar aA),(1,vl ar aB),(5,vi s3.1)],[]⟩) _ (Le.an) h (fun s3 v4 h=> ?_)
 refine ac ?_
 refine az aa [0,1,5,14] [] ?_
 refine ai h (fun h=> ?_) fun h=> ?_
 refine ag ?_
 refine aZ ?_
 refine ac ?_
 refine bp (r:=v4) h (fun j5=>⟨27,[(0,vl ar aA),(1,vl ar aB),(5,vi s3.1)],[]⟩) (fun v6 h=> ?_) (fun j5 h=> ?_)
 refine aw (a:=v6) ?_
 refine ac ?_
 refine cO mixed ?_
 refine aY.cl aa false 2 [0,1,5,17,18] [] ?_
 obtain⟨x7,hx7,h⟩:=bind_some h
 refine aY.step (aG (L:=aA) (f:=ar) (ti:=dh) (tj:=cK) (e:=169) (k:= .i64) aa rfl hx7) ?_
 refine aY.cl aa false 3 [0,1,5,20,21,22] [] ?_
 obtain⟨x8,hx8,h⟩:=bind_some h
 refine aY.step (aG (L:=aB) (f:=ar) (ti:=dh) (tj:=cK) (e:=169) (k:= .i64) aa rfl hx8) ?_
 refine aY.cl aa false 1 [0,1,5,20,24] [] ?_
 obtain⟨x9,hx9,h⟩:=bind_some h
 refine aY.step (xc BA (p9 x7 x8 _ hx9)) ?_
 refine aY.cl aa false 1 [0,1,5,26] [] ?_
 refine aY.nx ?_
 refine ai h (fun h=> ?_) fun h=> ?_
 refine az aa [4] [] ?_
 refine ae ?_
 obtain rfl:=inj h
 exact bn (aU (aU (bn (aU (aD (f1 fv))))))
 refine ag ?_
 obtain rfl:=inj h
 exact bP (bZ (Le.an))
 refine aE ?_
 refine ab.cl aa 3 [0,1,5] [] ?_
 refine ab.nil ?_
 obtain rfl:=inj h
 exact bZ (Le.an)
 refine aQ ?_
 obtain rfl:=inj h
 exact cn (cr (cq (bZ (Le.an))))
 refine az aa [4] [] ?_
 refine ae ?_
 obtain rfl:=inj h
 exact aD (f1 fv)
theorem Bi:bg Tryz.prog 139:=au Tryz.func139 (by kernel_rfl) rfl
noncomputable def gv(aA:Place)(aB:Place):Option (Bool):=
 (bif(!(aA.Code.toList==aB.Code.toList))then some false else(bif(aA.Class !=aB.Class)then some false else((fU aA.Years aB.Years).bind fun x1=>(bif(!x1)then some false else((iL aA.Names aB.Names).bind fun x2=>(bif(!x2)then some false else some true))))))
theorem pa(aA:Place)(aB:Place)(r:Bool)(h:gv aA aB=some r):aJ Tryz.prog 82 [.v (.agg (tc af aA)),.v (.agg (tc af aB))] ⟨[.v (vb r)],[],false⟩:=by
 refine ap Tryz.func82 rfl [(.tmp 4)] rfl (fun r=>⟨[.v (vb r)],[],false⟩) (r:=r) ?_
 unfold gv at h
 refine az aa [2,3] [2,3] ?_
 refine ac ?_
 refine az aa [2,3,9] [2,3] ?_
 refine ai h (fun h=> ?_) fun h=> ?_
 refine az aa [4] [] ?_
 refine ae ?_
 obtain rfl:=inj h
 exact bt (aD (f1 fv))
 refine ag ?_
 refine aZ ?_
 refine ac ?_
 refine az aa [2,3,14] [2,3] ?_
 refine ai h (fun h=> ?_) fun h=> ?_
 refine az aa [4] [] ?_
 refine ae ?_
 obtain rfl:=inj h
 exact bt (aD (f1 fv))
 refine ag ?_
 refine aZ ?_
 refine ac ?_
 refine sr ?_
 refine ab.cl aa 4 [2,3,16,18] [2,3] ?_
 obtain⟨x1,hx1,h⟩:=bind_some h
 refine ab.ls (xc tF (jI aA.Years aB.Years _ hx1)) ?_
 refine bQ aa 1 [2,3,20] [2,3] ?_
 refine ai h (fun h=> ?_) fun h=> ?_
 refine az aa [4] [] ?_
 refine ae ?_
 obtain rfl:=inj h
 exact bt (aD (f1 fv))
 refine ag ?_
 refine aZ ?_
 refine ac ?_
 refine sr ?_
 refine ab.ck aa 4 ⟨27,[(22,vl ar aA.Names),(24,vl ar aB.Names)],[]⟩ ?_
 obtain⟨x2,hx2,h⟩:=bind_some h
 refine ab.ls (xc Bi (o9 aA.Names aB.Names _ hx2)) ?_
 refine bQ aa 1 [26] [] ?_
 refine ai h (fun h=> ?_) fun h=> ?_
 refine az aa [4] [] ?_
 refine ae ?_
 obtain rfl:=inj h
 exact bt (aD (f1 fv))
 refine ag ?_
 refine aZ ?_
 refine az aa [4] [] ?_
 refine ae ?_
 obtain rfl:=inj h
 exact aD (f1 fv)
theorem De:bg Tryz.prog 82:=au Tryz.func82 (by kernel_rfl) rfl
noncomputable def gN(aA:(List Place))(aB:(List Place)):Option (Bool):=
 (bif((aA.length:Int) !=(aB.length:Int))then some false else(((cQ (aA.length:Int) (fun(i3:Int) (_:Unit)=>((at' aA i3).bind fun x7=>((at' aB i3).bind fun x8=>((gv x7 x8).bind fun x9=>(bif(!x9)then some (.inr (.inr false))else some (.inl ())))))) (fun(_:Unit)=> .inl ()) 0 ())).bind (Sum.elim (fun(_:Unit)=>some true) some)))
theorem ow(aA:(List Place))(aB:(List Place))(r:Bool)(h:gN aA aB=some r):aJ Tryz.prog 37 [.v (vl af aA),.v (vl af aB)] ⟨[.v (vb r)],[],false⟩:=by
 refine ap Tryz.func37 rfl [(.tmp 4)] rfl (fun r=>⟨[.v (vb r)],[],false⟩) (r:=r) ?_
 unfold gN at h
 refine az aa [0,1] [] ?_
 refine ac ?_
 refine az aa [0,1,10] [] ?_
 refine ai h (fun h=> ?_) fun h=> ?_
 refine az aa [4] [] ?_
 refine ae ?_
 obtain rfl:=inj h
 exact bt (aD (f1 fv))
 refine ag ?_
 refine aZ ?_
 refine ac ?_
 refine az aa [0,1,5] [] ?_
 refine bi (r:=r) h (fun j1=>⟨27,[],[]⟩) (fun v2 h=> ?_) (fun j1 h=> ?_)
 refine aw (a:=v2) ?_
 refine a7 (r:=v2) (s:=(0,())) _ (fun s3=>⟨27,[(0,vl af aA),(1,vl af aB),(5,vi s3.1)],[]⟩) _ (Le.an) h (fun s3 v4 h=> ?_)
 refine ac ?_
 refine az aa [0,1,5,14] [] ?_
 refine ai h (fun h=> ?_) fun h=> ?_
 refine ag ?_
 refine aZ ?_
 refine ac ?_
 refine bp (r:=v4) h (fun j5=>⟨27,[(0,vl af aA),(1,vl af aB),(5,vi s3.1)],[]⟩) (fun v6 h=> ?_) (fun j5 h=> ?_)
 refine aw (a:=v6) ?_
 refine ac ?_
 refine cO mixed ?_
 refine aY.cl aa false 2 [0,1,5,17,18] [] ?_
 obtain⟨x7,hx7,h⟩:=bind_some h
 refine aY.step (aG (L:=aA) (f:=af) (ti:=cP) (tj:=cm) (e:=91) (k:= .i64) aa rfl hx7) ?_
 refine aY.cl aa false 3 [0,1,5,20,21,22] [] ?_
 obtain⟨x8,hx8,h⟩:=bind_some h
 refine aY.step (aG (L:=aB) (f:=af) (ti:=cP) (tj:=cm) (e:=91) (k:= .i64) aa rfl hx8) ?_
 refine aY.cl aa false 1 [0,1,5,20,24] [] ?_
 obtain⟨x9,hx9,h⟩:=bind_some h
 refine aY.step (xc De (pa x7 x8 _ hx9)) ?_
 refine aY.cl aa false 1 [0,1,5,26] [] ?_
 refine aY.nx ?_
 refine ai h (fun h=> ?_) fun h=> ?_
 refine az aa [4] [] ?_
 refine ae ?_
 obtain rfl:=inj h
 exact bn (aU (aU (bn (aU (aD (f1 fv))))))
 refine ag ?_
 obtain rfl:=inj h
 exact bP (bZ (Le.an))
 refine aE ?_
 refine ab.cl aa 3 [0,1,5] [] ?_
 refine ab.nil ?_
 obtain rfl:=inj h
 exact bZ (Le.an)
 refine aQ ?_
 obtain rfl:=inj h
 exact cn (cr (cq (bZ (Le.an))))
 refine az aa [4] [] ?_
 refine ae ?_
 obtain rfl:=inj h
 exact aD (f1 fv)
theorem CT:bg Tryz.prog 37:=au Tryz.func37 (by kernel_rfl) rfl
noncomputable def ik(aA:ax)(aB:ax):Option (Bool):=
 (bif(!(aA.Child.toList==aB.Child.toList))then some false else(bif(!(aA.Parent.toList==aB.Parent.toList))then some false else((fU aA.Years aB.Years).bind fun x1=>(bif(!x1)then some false else some true))))
theorem p8(aA:ax)(aB:ax)(r:Bool)(h:ik aA aB=some r):aJ Tryz.prog 83 [.v (.agg (tc ah aA)),.v (.agg (tc ah aB))] ⟨[.v (vb r)],[],false⟩:=by
 refine ap Tryz.func83 rfl [(.tmp 4)] rfl (fun r=>⟨[.v (vb r)],[],false⟩) (r:=r) ?_
 unfold ik at h
 refine az aa [2,3] [2,3] ?_
 refine ac ?_
 refine az aa [2,3,9] [2,3] ?_
 refine ai h (fun h=> ?_) fun h=> ?_
 refine az aa [4] [] ?_
 refine ae ?_
 obtain rfl:=inj h
 exact bt (aD (f1 fv))
 refine ag ?_
 refine aZ ?_
 refine ac ?_
 refine az aa [2,3,14] [2,3] ?_
 refine ai h (fun h=> ?_) fun h=> ?_
 refine az aa [4] [] ?_
 refine ae ?_
 obtain rfl:=inj h
 exact bt (aD (f1 fv))
 refine ag ?_
 refine aZ ?_
 refine ac ?_
 refine sr ?_
 refine ab.cl aa 4 [16,18] [] ?_
 obtain⟨x1,hx1,h⟩:=bind_some h
 refine ab.ls (xc tF (jI aA.Years aB.Years _ hx1)) ?_
 refine bQ aa 1 [20] [] ?_
 refine ai h (fun h=> ?_) fun h=> ?_
 refine az aa [4] [] ?_
 refine ae ?_
 obtain rfl:=inj h
 exact bt (aD (f1 fv))
 refine ag ?_
 refine aZ ?_
 refine iy aa ⟨21,[(4,vb true)],[]⟩ ?_
 refine ae ?_
 obtain rfl:=inj h
 exact aD (f1 fv)
theorem Df:bg Tryz.prog 83:=au Tryz.func83 (by kernel_rfl) rfl
noncomputable def iK(aA:(List ax))(aB:(List ax)):Option (Bool):=
 (bif((aA.length:Int) !=(aB.length:Int))then some false else(((cQ (aA.length:Int) (fun(i3:Int) (_:Unit)=>((at' aA i3).bind fun x7=>((at' aB i3).bind fun x8=>((ik x7 x8).bind fun x9=>(bif(!x9)then some (.inr (.inr false))else some (.inl ())))))) (fun(_:Unit)=> .inl ()) 0 ())).bind (Sum.elim (fun(_:Unit)=>some true) some)))
theorem o8(aA:(List ax))(aB:(List ax))(r:Bool)(h:iK aA aB=some r):aJ Tryz.prog 38 [.v (vl ah aA),.v (vl ah aB)] ⟨[.v (vb r)],[],false⟩:=by
 refine ap Tryz.func38 rfl [(.tmp 4)] rfl (fun r=>⟨[.v (vb r)],[],false⟩) (r:=r) ?_
 unfold iK at h
 refine az aa [0,1] [] ?_
 refine ac ?_
 refine az aa [0,1,10] [] ?_
 refine ai h (fun h=> ?_) fun h=> ?_
 refine az aa [4] [] ?_
 refine ae ?_
 obtain rfl:=inj h
 exact bt (aD (f1 fv))
 refine ag ?_
 refine aZ ?_
 refine ac ?_
 refine az aa [0,1,5] [] ?_
 refine bi (r:=r) h (fun j1=>⟨27,[],[]⟩) (fun v2 h=> ?_) (fun j1 h=> ?_)
 refine aw (a:=v2) ?_
 refine a7 (r:=v2) (s:=(0,())) _ (fun s3=>⟨27,[(0,vl ah aA),(1,vl ah aB),(5,vi s3.1)],[]⟩) _ (Le.an) h (fun s3 v4 h=> ?_)
 refine ac ?_
 refine az aa [0,1,5,14] [] ?_
 refine ai h (fun h=> ?_) fun h=> ?_
 refine ag ?_
 refine aZ ?_
 refine ac ?_
 refine bp (r:=v4) h (fun j5=>⟨27,[(0,vl ah aA),(1,vl ah aB),(5,vi s3.1)],[]⟩) (fun v6 h=> ?_) (fun j5 h=> ?_)
 refine aw (a:=v6) ?_
 refine ac ?_
 refine cO mixed ?_
 refine aY.cl aa false 2 [0,1,5,17,18] [] ?_
 obtain⟨x7,hx7,h⟩:=bind_some h
 refine aY.step (aG (L:=aA) (f:=ah) (ti:=dq) (tj:=dr) (e:=85) (k:= .i64) aa rfl hx7) ?_
 refine aY.cl aa false 3 [0,1,5,20,21,22] [] ?_
 obtain⟨x8,hx8,h⟩:=bind_some h
 refine aY.step (aG (L:=aB) (f:=ah) (ti:=dq) (tj:=dr) (e:=85) (k:= .i64) aa rfl hx8) ?_
 refine aY.cl aa false 1 [0,1,5,20,24] [] ?_
 obtain⟨x9,hx9,h⟩:=bind_some h
 refine aY.step (xc Df (p8 x7 x8 _ hx9)) ?_
 refine aY.cl aa false 1 [0,1,5,26] [] ?_
 refine aY.nx ?_
 refine ai h (fun h=> ?_) fun h=> ?_
 refine az aa [4] [] ?_
 refine ae ?_
 obtain rfl:=inj h
 exact bn (aU (aU (bn (aU (aD (f1 fv))))))
 refine ag ?_
 obtain rfl:=inj h
 exact bP (bZ (Le.an))
 refine aE ?_
 refine ab.cl aa 3 [0,1,5] [] ?_
 refine ab.nil ?_
 obtain rfl:=inj h
 exact bZ (Le.an)
 refine aQ ?_
 obtain rfl:=inj h
 exact cn (cr (cq (bZ (Le.an))))
 refine az aa [4] [] ?_
 refine ae ?_
 obtain rfl:=inj h
 exact aD (f1 fv)
theorem CU:bg Tryz.prog 38:=au Tryz.func38 (by kernel_rfl) rfl
noncomputable def ec(aA:World)(aB:World):Option (Bool):=
 ((gN aA.Places aB.Places).bind fun x1=>(bif(!x1)then some false else((iK aA.Links aB.Links).bind fun x2=>(bif(!x2)then some false else some true))))
theorem gw(aA:World)(aB:World)(r:Bool)(h:ec aA aB=some r):aJ Tryz.prog 13 [.v (.agg (tc aH aA)),.v (.agg (tc aH aB))] ⟨[.v (vb r)],[],false⟩:=by
 refine ap Tryz.func13 rfl [(.tmp 4)] rfl (fun r=>⟨[.v (vb r)],[],false⟩) (r:=r) ?_
 unfold ec at h
 refine az aa [2,3] [2,3] ?_
 refine ac ?_
 refine sr ?_
 refine ab.cl aa 4 [2,3,6,8] [2,3] ?_
 obtain⟨x1,hx1,h⟩:=bind_some h
 refine ab.ls (xc CT (ow aA.Places aB.Places _ hx1)) ?_
 refine bQ aa 1 [2,3,10] [2,3] ?_
 refine ai h (fun h=> ?_) fun h=> ?_
 refine az aa [4] [] ?_
 refine ae ?_
 obtain rfl:=inj h
 exact bt (aD (f1 fv))
 refine ag ?_
 refine aZ ?_
 refine ac ?_
 refine sr ?_
 refine ab.cl aa 4 [12,14] [] ?_
 obtain⟨x2,hx2,h⟩:=bind_some h
 refine ab.ls (xc CU (o8 aA.Links aB.Links _ hx2)) ?_
 refine bQ aa 1 [16] [] ?_
 refine ai h (fun h=> ?_) fun h=> ?_
 refine az aa [4] [] ?_
 refine ae ?_
 obtain rfl:=inj h
 exact bt (aD (f1 fv))
 refine ag ?_
 refine aZ ?_
 refine az aa [4] [] ?_
 refine ae ?_
 obtain rfl:=inj h
 exact aD (f1 fv)
theorem tC:bg Tryz.prog 13:=au Tryz.func13 (by kernel_rfl) rfl
noncomputable def fY(aA:Span):Option (Span):=
 some aA
theorem jJ(aA:Span)(r:Span)(h:fY aA=some r):aJ Tryz.prog 133 [.v (.agg (tc gE aA))] ⟨[.v (.agg (tc gE r))],[],false⟩:=by
 refine ap Tryz.func133 rfl [(.cell 2 83)] rfl (fun r=>⟨[.v (.agg (tc gE r))],[],false⟩) (r:=r) ?_
 unfold fY at h
 refine az aa [1,2] [1,2] ?_
 refine az aa [1,2,3] [1,2,3] ?_
 refine az aa [1,2,3] [1,2,3] ?_
 refine az aa [2,3] [2,3] ?_
 refine az aa [2] [2] ?_
 refine ae ?_
 obtain rfl:=inj h
 exact aD (f1 (fc aa))
theorem tD:bg Tryz.prog 133:=au Tryz.func133 (by kernel_rfl) rfl
noncomputable def ir(aA:Name):Option (Name):=
 ((fY aA.Years).bind fun x1=>some (Name.mk aA.Text aA.Language aA.Status x1))
theorem qd(aA:Name)(r:Name)(h:ir aA=some r):aJ Tryz.prog 179 [.v (.agg (tc ar aA))] ⟨[.v (.agg (tc ar r))],[],false⟩:=by
 refine ap Tryz.func179 rfl [(.cell 2 169)] rfl (fun r=>⟨[.v (.agg (tc ar r))],[],false⟩) (r:=r) ?_
 unfold ir at h
 refine az aa [1,2] [1,2] ?_
 refine az aa [1,2,3] [1,2,3] ?_
 refine az aa [1,2,3] [1,2,3] ?_
 refine az aa [1,2,3] [1,2,3] ?_
 refine az aa [1,2,3] [1,2,3] ?_
 refine sr ?_
 refine ab.cl aa 2 [2,3,14] [2,3] ?_
 obtain⟨x1,hx1,h⟩:=bind_some h
 refine ab.ls (xc tD (jJ aA.Years _ hx1)) ?_
 refine bQ aa 2 [2,3] [2,3] ?_
 refine az aa [2] [2] ?_
 refine ae ?_
 obtain rfl:=inj h
 exact aD (f1 (fc aa))
theorem Bx:bg Tryz.prog 179:=au Tryz.func179 (by kernel_rfl) rfl
noncomputable def iP(aA:(List Name)):Option ((List Name)):=
 ((lR (Name.mk (ByteArray.mk #[]) (ByteArray.mk #[]) 0 (Span.mk 0 0)) (aA.length:Int)).bind fun x1=>(((jq (aA.length:Int) (fun(i4:Int) (s4:(List Name))=>((at' aA i4).bind fun x8=>((ir x8).bind fun x9=>((at' s4 i4).bind fun _=>some (List.set s4 (Int.toNat i4) x9))))) (fun(s4:(List Name))=>s4) 0 x1)).bind fun(j2:(List Name))=>some j2))
theorem pf(aA:(List Name))(r:(List Name))(h:iP aA=some r):aJ Tryz.prog 134 [.v (vl ar aA)] ⟨[.own 169 5 r.length (r.map ar)],[],false⟩:=by
 refine ap Tryz.func134 rfl [(.tmp 2)] rfl (fun r=>⟨[.own 169 5 r.length (r.map ar)],[],false⟩) (r:=r) ?_
 unfold iP at h
 refine az aa [0] [] ?_
 refine sr ?_
 refine ab.cl aa 2 [0,6] [] ?_
 obtain⟨x1,hx1,h⟩:=bind_some h
 refine ab.ls (xy (z:=(Name.mk (ByteArray.mk #[]) (ByteArray.mk #[]) 0 (Span.mk 0 0))) (f:=ar) (ti:=dh) (tj:=cK) (e:=169) (m:=5) (k:= .i64) (k':= .i64) hx1 aa rfl rfl (zs:=[.string (ByteArray.mk #[]),.string (ByteArray.mk #[]),.int .i64 0,.int .i64 0,.int .i64 0])) ?_
 refine bQ aa 1 [0,3] [7] ?_
 refine ac ?_
 refine az aa [0,3,4] [7] ?_
 refine ba h (fun j2=>⟨23,[(3,.own 3)],[(3,oa 169 5 ar j2)]⟩) (fun v3 h=> ?_) (fun j2 h=> ?_)
 refine aw (a:=v3) ?_
 refine a7 (r:=v3) (s:=(0,x1)) _ (fun s4=>⟨23,[(0,vl ar aA),(3,.own 3),(4,vi s4.1)],[(3,oa 169 5 ar s4.2)]⟩) _ (Le.rr [7] [(7,3)]) h (fun s4 v5 h=> ?_)
 refine ac ?_
 refine az aa [0,3,4,11] [3] ?_
 refine ai h (fun h=> ?_) fun h=> ?_
 refine ag ?_
 refine aZ ?_
 refine ac ?_
 refine ba h (fun j6=>⟨23,[(0,vl ar aA),(3,.own 3),(4,vi s4.1)],[(3,oa 169 5 ar j6)]⟩) (fun v7 h=> ?_) (fun j6 h=> ?_)
 refine aw (a:=v7) ?_
 refine aE ?_
 refine ab.cl aa 4 [0,3,4,14,15,16,17] [3] ?_
 obtain⟨x8,hx8,h⟩:=bind_some h
 refine ab.ls (aG (L:=aA) (f:=ar) (ti:=AB) (tj:=wl) (e:=190) (k:= .i64) aa rfl hx8) ?_
 refine ab.cl aa 1 [0,3,4,14,15,19] [3] ?_
 obtain⟨x9,hx9,h⟩:=bind_some h
 refine ab.ls (xc Bx (qd x8 _ hx9)) ?_
 obtain⟨x10,hx10,h⟩:=bind_some h
 refine ab.ls (bm (d:=3) (L:=s4.2) (f:=ar) (ti:=dh) (tj:=cK) (e:=169) (e':=169) (m:=5) (k:= .i64) aa rfl hx10) ?_
 refine ab.bs (bH (d:=3) (m:=5) (j:=0) (L:=s4.2) (f:=ar) (x:=x9) (z:=x10) (ti:=cK) (e:=169) (ts:=[.str x9.Text,.str x9.Language,.int .i64 x9.Status,.int .i64 x9.Years.From,.int .i64 x9.Years.To]) (vs:=[vs x9.Text,vs x9.Language,vi x9.Status,vi x9.Years.From,vi x9.Years.To]) (v:= .agg (tc ar x9)) aa rfl rfl hx10) ?_
 refine ab.nil ?_
 obtain rfl:=inj h
 exact bP (eW (Le.an))
 refine aE ?_
 refine ab.cl aa 3 [0,3,4] [3] ?_
 refine ab.nil ?_
 obtain rfl:=inj h
 exact bZ (Le.an)
 refine aQ ?_
 obtain rfl:=inj h
 exact cn (cr (cq (eW (Le.an))))
 refine az aa [2] [3] ?_
 refine ae ?_
 obtain rfl:=inj h
 exact aD (f1 (fo bE))
theorem Bg:bg Tryz.prog 134:=au Tryz.func134 (by kernel_rfl) rfl
noncomputable def gz(aA:Place):Option (Place):=
 ((fY aA.Years).bind fun x1=>((iP aA.Names).bind fun x2=>some (Place.mk aA.Code aA.Class x1 x2)))
theorem pg(aA:Place)(r:Place)(h:gz aA=some r):aJ Tryz.prog 75 [.v (.agg (tc af aA))] ⟨[.part [vs r.Code,vi r.Class,vi r.Years.From,vi r.Years.To] [] (oa 169 5 ar r.Names)],[],false⟩:=by
 refine ap Tryz.func75 rfl [(.cell 2 91)] rfl (fun r=>⟨[.part [vs r.Code,vi r.Class,vi r.Years.From,vi r.Years.To] [] (oa 169 5 ar r.Names)],[],false⟩) (r:=r) ?_
 unfold gz at h
 refine az aa [1,2] [1,2] ?_
 refine az aa [1,2,3] [1,2,3] ?_
 refine az aa [1,2,3] [1,2,3] ?_
 refine az aa [1,2,3] [1,2,3] ?_
 refine sr ?_
 refine ab.cl aa 2 [1,2,3,11] [1,2,3] ?_
 obtain⟨x1,hx1,h⟩:=bind_some h
 refine ab.ls (xc tD (jJ aA.Years _ hx1)) ?_
 refine bQ aa 2 [1,2,3] [1,2,3] ?_
 refine sr ?_
 refine ab.cl aa 2 [2,3,15] [2,3] ?_
 obtain⟨x2,hx2,h⟩:=bind_some h
 refine ab.ls (xc Bg (pf aA.Names _ hx2)) ?_
 refine bQ aa 2 [2,3] [2,3,16] ?_
 refine iy aa ⟨19,[(2,.ref 2 0)],[(2,.box [vs aA.Code,vi aA.Class,vi x1.From,vi x1.To,.own 16]),(16,oa 169 5 ar x2)]⟩ ?_
 refine ae ?_
 obtain rfl:=inj h
 exact aD (f1 (BW (d:=16) [vs aA.Code,vi aA.Class,vi x1.From,vi x1.To] [] (cT aa (d:=2) (cs:=[vs aA.Code,vi aA.Class,vi x1.From,vi x1.To,.own 16]) (ti:=cm) (by kernel_rfl) (by kernel_rfl) (by kernel_rfl) (by kernel_rfl)) (by kernel_rfl) (cd bE _) rfl rfl SV.ew SV.ew (by kernel_rfl)))
theorem Dc:bg Tryz.prog 75:=au Tryz.func75 (by kernel_rfl) rfl
noncomputable def fF(aA:(List Place)):Option ((List Place)):=
 ((lR (Place.mk (ByteArray.mk #[]) 0 (Span.mk 0 0) ([]:List Name)) (aA.length:Int)).bind fun x1=>(((jq (aA.length:Int) (fun(i4:Int) (s4:(List Place))=>((at' aA i4).bind fun x8=>((gz x8).bind fun x9=>((at' s4 i4).bind fun _=>some (List.set s4 (Int.toNat i4) x9))))) (fun(s4:(List Place))=>s4) 0 x1)).bind fun(j2:(List Place))=>some j2))
theorem kG(aA:(List Place))(r:(List Place))(h:fF aA=some r):aJ Tryz.prog 34 [.v (vl af aA)] ⟨[.deep 91 5 r.length [.flat,.flat,.flat,.flat,(.sl 169 5 [.flat,.flat,.flat,.flat,.flat])] (r.map af)],[],false⟩:=by
 refine ap Tryz.func34 rfl [(.tmp 2)] rfl (fun r=>⟨[.deep 91 5 r.length [.flat,.flat,.flat,.flat,(.sl 169 5 [.flat,.flat,.flat,.flat,.flat])] (r.map af)],[],false⟩) (r:=r) ?_
 unfold fF at h
 refine sr ?_
 refine ab.cl aa 1 [2,0] [2] ?_
 refine ab.le (Le.q6 (d:=2) (e:=91) (m:=5) (ss:=[.flat,.flat,.flat,.flat,(.sl 169 5 [.flat,.flat,.flat,.flat,.flat])]) (by kernel_rfl) (by kernel_rfl)) ?_
 refine ab.nx ?_
 refine sr ?_
 refine ab.cl aa 2 [0,6] [] ?_
 obtain⟨x1,hx1,h⟩:=bind_some h
 refine ab.ls (wA (z:=(Place.mk (ByteArray.mk #[]) 0 (Span.mk 0 0) ([]:List Name))) (f:=af) (ti:=cP) (tj:=cm) (e:=91) (m:=5) (k:= .i64) (k':= .i64) (ss:=[.flat,.flat,.flat,.flat,(.sl 169 5 [.flat,.flat,.flat,.flat,.flat])]) (zs:=[.string (ByteArray.mk #[]),.int .i64 0,.int .i64 0,.int .i64 0,.slice none 0 0]) hx1 aa rfl rfl) ?_
 refine bQ aa 1 [0,3] [7] ?_
 refine ac ?_
 refine az aa [0,3,4] [7] ?_
 refine ba h (fun j2=>⟨23,[(3,.own 3)],[(3,.deep 91 5 j2.length [.flat,.flat,.flat,.flat,(.sl 169 5 [.flat,.flat,.flat,.flat,.flat])] (j2.map af))]⟩) (fun v3 h=> ?_) (fun j2 h=> ?_)
 refine aw (a:=v3) ?_
 refine a7 (r:=v3) (s:=(0,x1)) _ (fun s4=>⟨23,[(0,vl af aA),(3,.own 3),(4,vi s4.1)],[(3,.deep 91 5 s4.2.length [.flat,.flat,.flat,.flat,(.sl 169 5 [.flat,.flat,.flat,.flat,.flat])] (s4.2.map af))]⟩) _ (Le.rr [7] [(7,3)]) h (fun s4 v5 h=> ?_)
 refine ac ?_
 refine az aa [0,3,4,11] [3] ?_
 refine ai h (fun h=> ?_) fun h=> ?_
 refine ag ?_
 refine aZ ?_
 refine ac ?_
 refine ba h (fun j6=>⟨23,[(0,vl af aA),(3,.own 3),(4,vi s4.1)],[(3,.deep 91 5 j6.length [.flat,.flat,.flat,.flat,(.sl 169 5 [.flat,.flat,.flat,.flat,.flat])] (j6.map af))]⟩) (fun v7 h=> ?_) (fun j6 h=> ?_)
 refine aw (a:=v7) ?_
 refine aE ?_
 refine ab.cl aa 4 [0,3,4,14,15,16,17] [3] ?_
 obtain⟨x8,hx8,h⟩:=bind_some h
 refine ab.ls (aG (L:=aA) (f:=af) (ti:=Ay) (tj:=wj) (e:=100) (k:= .i64) aa rfl hx8) ?_
 refine ab.cl aa 1 [0,3,4,14,15,19] [3] ?_
 obtain⟨x9,hx9,h⟩:=bind_some h
 refine ab.ls (xc Dc (pg x8 _ hx9)) ?_
 obtain⟨x10,hx10,h⟩:=bind_some h
 refine ab.ls (bL (d:=3) (L:=s4.2) (f:=af) (ti:=cP) (tj:=cm) (e:=91) (e':=91) (m:=5) (k:= .i64) (ss:=[.flat,.flat,.flat,.flat,(.sl 169 5 [.flat,.flat,.flat,.flat,.flat])]) aa rfl hx10) ?_
 refine ab.bs (ff (d:=3) (m:=5) (j:=0) (L:=s4.2) (f:=af) (x:=x9) (z:=x10) (ti:=cm) (e:=91) (ss:=[.flat,.flat,.flat,.flat,(.sl 169 5 [.flat,.flat,.flat,.flat,.flat])]) (ss2:=[.flat,.flat,.flat,.flat,(.sl 169 5 [.flat,.flat,.flat,.flat,.flat])]) (ts:=[.str x9.Code,.int .i64 x9.Class,.int .i64 x9.Years.From,.int .i64 x9.Years.To,.sl x9.Names.length (x9.Names.map ar)]) (vs:=[vs x9.Code,vi x9.Class,vi x9.Years.From,vi x9.Years.To,.own 20]) (v:= .agg [vs x9.Code,vi x9.Class,vi x9.Years.From,vi x9.Years.To,.own 20]) (ds:=[20]) aa rfl rfl hx10 (.cons _ _ _ [] _ _ _ _ (.flat (.str x9.Code) rfl) (.cons _ _ _ [] _ _ _ _ (.flat (.int .i64 x9.Class) rfl) (.cons _ _ _ [] _ _ _ _ (.flat (.int .i64 x9.Years.From) rfl) (.cons _ _ _ [] _ _ _ _ (.flat (.int .i64 x9.Years.To) rfl) (.cons _ _ _ [20] _ _ _ _ (qV (d:=20) (e:=169) (m:=5) (n:=x9.Names.length) (es:=x9.Names.map ar) (ss:=[.flat,.flat,.flat,.flat,.flat]) (cd bE _)) .nil (by decide)) (by decide)) (by decide)) (by decide)) (by decide))) ?_
 refine ab.nil ?_
 obtain rfl:=inj h
 exact bP (eW (Le.an))
 refine aE ?_
 refine ab.cl aa 3 [0,3,4] [3] ?_
 refine ab.nil ?_
 obtain rfl:=inj h
 exact bZ (Le.an)
 refine aQ ?_
 obtain rfl:=inj h
 exact cn (cr (cq (eW (Le.an))))
 refine az aa [2] [3] ?_
 refine ae ?_
 obtain rfl:=inj h
 exact aD (f1 (yy (d:=3) (jk (by kernel_rfl)) (by kernel_rfl) (by kernel_rfl)))
theorem zC:bg Tryz.prog 34:=au Tryz.func34 (by kernel_rfl) rfl
noncomputable def iq(aA:ax):Option (ax):=
 ((fY aA.Years).bind fun x1=>some (ax.mk aA.Child aA.Parent x1))
theorem qc(aA:ax)(r:ax)(h:iq aA=some r):aJ Tryz.prog 76 [.v (.agg (tc ah aA))] ⟨[.v (.agg (tc ah r))],[],false⟩:=by
 refine ap Tryz.func76 rfl [(.cell 2 85)] rfl (fun r=>⟨[.v (.agg (tc ah r))],[],false⟩) (r:=r) ?_
 unfold iq at h
 refine az aa [1,2] [1,2] ?_
 refine az aa [1,2,3] [1,2,3] ?_
 refine az aa [1,2,3] [1,2,3] ?_
 refine az aa [1,2,3] [1,2,3] ?_
 refine sr ?_
 refine ab.cl aa 2 [2,3,11] [2,3] ?_
 obtain⟨x1,hx1,h⟩:=bind_some h
 refine ab.ls (xc tD (jJ aA.Years _ hx1)) ?_
 refine bQ aa 2 [2,3] [2,3] ?_
 refine az aa [2] [2] ?_
 refine ae ?_
 obtain rfl:=inj h
 exact aD (f1 (fc aa))
theorem Dd:bg Tryz.prog 76:=au Tryz.func76 (by kernel_rfl) rfl
noncomputable def gy(aA:(List ax)):Option ((List ax)):=
 ((lR (ax.mk (ByteArray.mk #[]) (ByteArray.mk #[]) (Span.mk 0 0)) (aA.length:Int)).bind fun x1=>(((jq (aA.length:Int) (fun(i4:Int) (s4:(List ax))=>((at' aA i4).bind fun x8=>((iq x8).bind fun x9=>((at' s4 i4).bind fun _=>some (List.set s4 (Int.toNat i4) x9))))) (fun(s4:(List ax))=>s4) 0 x1)).bind fun(j2:(List ax))=>some j2))
theorem lh(aA:(List ax))(r:(List ax))(h:gy aA=some r):aJ Tryz.prog 35 [.v (vl ah aA)] ⟨[.own 85 4 r.length (r.map ah)],[],false⟩:=by
 refine ap Tryz.func35 rfl [(.tmp 2)] rfl (fun r=>⟨[.own 85 4 r.length (r.map ah)],[],false⟩) (r:=r) ?_
 unfold gy at h
 refine az aa [0] [] ?_
 refine sr ?_
 refine ab.cl aa 2 [0,6] [] ?_
 obtain⟨x1,hx1,h⟩:=bind_some h
 refine ab.ls (xy (z:=(ax.mk (ByteArray.mk #[]) (ByteArray.mk #[]) (Span.mk 0 0))) (f:=ah) (ti:=dq) (tj:=dr) (e:=85) (m:=4) (k:= .i64) (k':= .i64) hx1 aa rfl rfl (zs:=[.string (ByteArray.mk #[]),.string (ByteArray.mk #[]),.int .i64 0,.int .i64 0])) ?_
 refine bQ aa 1 [0,3] [7] ?_
 refine ac ?_
 refine az aa [0,3,4] [7] ?_
 refine ba h (fun j2=>⟨23,[(3,.own 3)],[(3,oa 85 4 ah j2)]⟩) (fun v3 h=> ?_) (fun j2 h=> ?_)
 refine aw (a:=v3) ?_
 refine a7 (r:=v3) (s:=(0,x1)) _ (fun s4=>⟨23,[(0,vl ah aA),(3,.own 3),(4,vi s4.1)],[(3,oa 85 4 ah s4.2)]⟩) _ (Le.rr [7] [(7,3)]) h (fun s4 v5 h=> ?_)
 refine ac ?_
 refine az aa [0,3,4,11] [3] ?_
 refine ai h (fun h=> ?_) fun h=> ?_
 refine ag ?_
 refine aZ ?_
 refine ac ?_
 refine ba h (fun j6=>⟨23,[(0,vl ah aA),(3,.own 3),(4,vi s4.1)],[(3,oa 85 4 ah j6)]⟩) (fun v7 h=> ?_) (fun j6 h=> ?_)
 refine aw (a:=v7) ?_
 refine aE ?_
 refine ab.cl aa 4 [0,3,4,14,15,16,17] [3] ?_
 obtain⟨x8,hx8,h⟩:=bind_some h
 refine ab.ls (aG (L:=aA) (f:=ah) (ti:=Az) (tj:=wk) (e:=103) (k:= .i64) aa rfl hx8) ?_
 refine ab.cl aa 1 [0,3,4,14,15,19] [3] ?_
 obtain⟨x9,hx9,h⟩:=bind_some h
 refine ab.ls (xc Dd (qc x8 _ hx9)) ?_
 obtain⟨x10,hx10,h⟩:=bind_some h
 refine ab.ls (bm (d:=3) (L:=s4.2) (f:=ah) (ti:=dq) (tj:=dr) (e:=85) (e':=85) (m:=4) (k:= .i64) aa rfl hx10) ?_
 refine ab.bs (bH (d:=3) (m:=4) (j:=0) (L:=s4.2) (f:=ah) (x:=x9) (z:=x10) (ti:=dr) (e:=85) (ts:=[.str x9.Child,.str x9.Parent,.int .i64 x9.Years.From,.int .i64 x9.Years.To]) (vs:=[vs x9.Child,vs x9.Parent,vi x9.Years.From,vi x9.Years.To]) (v:= .agg (tc ah x9)) aa rfl rfl hx10) ?_
 refine ab.nil ?_
 obtain rfl:=inj h
 exact bP (eW (Le.an))
 refine aE ?_
 refine ab.cl aa 3 [0,3,4] [3] ?_
 refine ab.nil ?_
 obtain rfl:=inj h
 exact bZ (Le.an)
 refine aQ ?_
 obtain rfl:=inj h
 exact cn (cr (cq (eW (Le.an))))
 refine az aa [2] [3] ?_
 refine ae ?_
 obtain rfl:=inj h
 exact aD (f1 (fo c8))
theorem zD:bg Tryz.prog 35:=au Tryz.func35 (by kernel_rfl) rfl
noncomputable def eH(aA:World):Option (World):=
 ((fF aA.Places).bind fun x1=>((gy aA.Links).bind fun x2=>some (World.mk x1 x2)))
theorem hU(aA:World)(r:World)(h:eH aA=some r):jm Tryz.prog 10 [.agg (tc aH aA)] [] [(3000000,.deep 91 5 r.Places.length [.flat,.flat,.flat,.flat,(.sl 169 5 [.flat,.flat,.flat,.flat,.flat])] (r.Places.map af)),(3000001,oa 85 4 ah r.Links)] [.agg [.own 3000000,.own 3000001]]:=by
 refine gT Tryz.func10 rfl [(.cell 2 35)] rfl (fun r=>[(3000000,.deep 91 5 r.Places.length [.flat,.flat,.flat,.flat,(.sl 169 5 [.flat,.flat,.flat,.flat,.flat])] (r.Places.map af)),(3000001,oa 85 4 ah r.Links)]) (fun r=>[.agg [.own 3000000,.own 3000001]]) (r:=r) (cf trivial (cf (cd c8 _) jj)) ?_
 unfold eH at h
 refine az aa [1,2] [1,2] ?_
 refine az aa [1,2,3] [1,2,3] ?_
 refine sr ?_
 refine ab.cl aa 2 [1,2,3,5] [1,2,3] ?_
 obtain⟨x1,hx1,h⟩:=bind_some h
 refine ab.ls (xc zC (kG aA.Places _ hx1)) ?_
 refine bQ aa 2 [1,2,3] [1,2,3,6] ?_
 refine sr ?_
 refine ab.cl aa 2 [2,3,9] [2,3,6] ?_
 obtain⟨x2,hx2,h⟩:=bind_some h
 refine ab.ls (xc zD (lh aA.Links _ hx2)) ?_
 refine bQ aa 2 [2,3] [2,3,6,10] ?_
 refine iy aa ⟨13,[(2,.ref 2 0)],[(2,.box [.own 6,.own 10]),(6,.deep 91 5 x1.length [.flat,.flat,.flat,.flat,(.sl 169 5 [.flat,.flat,.flat,.flat,.flat])] (x1.map af)),(10,oa 85 4 ah x2)]⟩ ?_
 refine cj (Le.qn 6 3000000) ?_
 refine cj (Le.qn 10 3000001) ?_
 refine ae ?_
 obtain rfl:=inj h
 exact kV (fw aa)
theorem q8:bg Tryz.prog 10:=au Tryz.func10 (by kernel_rfl) rfl
noncomputable def gA(aA:World):Option (World):=
 ((fF aA.Places).bind fun x1=>((gy aA.Links).bind fun x2=>some (World.mk x1 x2)))
theorem lj(aA:World)(r:World)(h:gA aA=some r):aJ Tryz.prog 10 [.v (.agg (tc aH aA))] ⟨[.v (.agg (tc aH r))],[],true⟩:=by
 refine ap Tryz.func10 rfl [(.cell 2 35)] rfl (fun r=>⟨[.v (.agg (tc aH r))],[],true⟩) (r:=r) ?_
 unfold gA at h
 refine az aa [1,2] [1,2] ?_
 refine az aa [1,2,3] [1,2,3] ?_
 refine sr ?_
 refine ab.cl aa 2 [1,2,3,5] [1,2,3] ?_
 obtain⟨x1,hx1,h⟩:=bind_some h
 refine ab.ls (xc zC (kG aA.Places _ hx1)) ?_
 refine bQ aa 2 [1,2,3] [1,2,3,6] ?_
 refine sr ?_
 refine ab.cl aa 2 [2,3,9] [2,3,6] ?_
 obtain⟨x2,hx2,h⟩:=bind_some h
 refine ab.ls (xc zD (lh aA.Links _ hx2)) ?_
 refine bQ aa 2 [2,3] [2,3,6,10] ?_
 refine az aa [2] [2,6,10] ?_
 refine cj (Le.xV (d:=6) (e:=91) (m:=5) (n:=x1.length) (ss:=[.flat,.flat,.flat,.flat,(.sl 169 5 [.flat,.flat,.flat,.flat,.flat])]) (es:=x1.map af) (by kernel_rfl) (by kernel_rfl)) ?_
 refine cj (Le.rj (d:=10) (e:=85) (m:=4) (n:=x2.length) (es:=x2.map ah) (by kernel_rfl) (by kernel_rfl)) ?_
 refine ae ?_
 obtain rfl:=inj h
 exact aD (f1 (lC rfl (cT aa (d:=2) (cs:=[vl af x1,vl ah x2]) (ti:=jA) (by kernel_rfl) (by kernel_rfl) (by kernel_rfl) (by kernel_rfl))))
end Go.Proofs.YtdejeagdkfokfaaGreatDoor.Sh
