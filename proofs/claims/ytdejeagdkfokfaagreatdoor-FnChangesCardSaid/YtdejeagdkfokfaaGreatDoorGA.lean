/- Typed functions and the calls that do what they say. -/
import Derived.Test.YtdejeagdkfokfaaGreatDoorGAp0
import Derived.Test.YtdejeagdkfokfaaGreatDoorKA
import Derived.Test.YtdejeagdkfokfaaGreatDoorKC
import Derived.Test.YtdejeagdkfokfaaGreatDoorKD
import Derived.Test.YtdejeagdkfokfaaGreatDoorKO
import Derived.Test.YtdejeagdkfokfaaGreatDoorKS
import Derived.Test.YtdejeagdkfokfaaGreatDoorSN
import Derived.Test.YtdejeagdkfokfaaGreatDoorSW
import Derived.Test.YtdejeagdkfokfaaGreatDoorSX
import Derived.Test.YtdejeagdkfokfaaGreatDoorH1
namespace Go.Proofs.YtdejeagdkfokfaaGreatDoor.Sh
open Go.RowKit
set_option maxRecDepth 100000
set_option maxHeartbeats 4000000
noncomputable def eZ(af:(List ay)):Option (Bool):=
 (((dt (af.length:Int) (fun(i3:Int) (_:Unit)=>((at' af i3).bind fun x7=>((((kd x7).bind fun x8=>(bif(!x8)then some true else((mW af 0 i3).bind fun x9=>((bX x9 x7).bind fun x10=>some x10))))).bind fun(j11:Bool)=>(bif j11 then some (.inr (.inr false))else some (.inl ()))))) (fun(_:Unit)=> .inl ()) 0 ())).bind (Sum.elim (fun(_:Unit)=>(((dt (af.length:Int) (fun(i15:Int) (_:Unit)=>((at' af i15).bind fun x19=>(dt (af.length:Int) (fun(i20:Int) (_:Unit)=>((at' af i20).bind fun x24=>((((bI x24.Years x19.Years.From).bind fun x25=>(bif x25 then((dL af x24.Child x19.Years.From).bind fun x26=>some x26)else some false))).bind fun(j27:Bool)=>(bif j27 then some (.inr (.inr (.inr false)))else some (.inl ()))))) (fun(_:Unit)=> .inl ()) 0 ()))) (fun(_:Unit)=> .inl ()) 0 ())).bind (Sum.elim (fun(_:Unit)=>some (decide ((af.length:Int)≤20))) some))) some))
theorem jb(af:(List ay))(r:Bool)(h:eZ af=some r):aR Tryz.prog 55 [.v (vl aj af)] ⟨[.v (vb r)],[],false⟩:=by
 refine au Tryz.func55 rfl [(.tmp 2)] rfl (fun r=>⟨[.v (vb r)],[],false⟩) (r:=r) ?_
 unfold eZ at h
 refine aJ ac [0] [] ?_
 refine ae ?_
 refine aJ ac [0,9,10,11] [] ?_
 refine bp (r:=r) h (fun j1=>⟨59,[(0,vl aj af)],[]⟩) (fun v2 h=> ?_) (fun j1 h=> ?_)
 refine ax (a:=v2) ?_
 refine bc (r:=v2) (s:=(0,())) _ (fun s3=>⟨59,[(0,vl aj af),(9,vl aj af),(10,vi (af.length:Int)),(11,vi s3.1)],[]⟩) _ (Le.an) h (fun s3 v4 h=> ?_)
 refine aJ ac [0,9,10,11,12] [] ?_
 refine ae ?_
 refine aq h (fun h=> ?_) fun h=> ?_
 refine ai ?_
 refine bq ?_
 refine ae ?_
 refine bD (r:=v4) h (fun j5=>⟨59,[(0,vl aj af),(9,vl aj af),(10,vi (af.length:Int)),(11,vi s3.1)],[]⟩) (fun v6 h=> ?_) (fun j5 h=> ?_)
 refine ax (a:=v6) ?_
 refine sr ?_
 refine aa.cl ac 1 [0,9,10,11,13] [] ?_
 obtain⟨x7,hx7,h⟩:=bind_some h
 refine aa.ls (aY (L:=af) (f:=aj) (ti:=eo) (tj:=ew) (e:=85) (k:= .i64) ac rfl hx7) ?_
 refine bO ac 4 [0,3,4,9,10,11] [4] ?_
 refine ae ?_
 refine bn h (fun j11=>⟨59,[(0,vl aj af),(9,vl aj af),(10,vi (af.length:Int)),(11,vi s3.1),(25,vb j11)],[]⟩) (fun v12 h=> ?_) (fun j11 h=> ?_)
 refine aa.cl ac 1 [0,3,4,9,10,11,16] [4] ?_
 obtain⟨x8,hx8,h⟩:=bind_some h
 refine aa.ls (xc Ca (qZ x7 _ hx8)) ?_
 refine aa.cl ac 2 [0,3,4,9,10,11,19] [4] ?_
 refine aa.cu [(19,fun b=>b)] h (fun h=> ?_) fun h=> ?_
 refine aa.cl ac 6 [0,9,10,11,25] [] ?_
 refine aa.nil ?_
 obtain rfl:=inj h
 exact Le.an
 refine aa.cl ac 2 [0,4,9,10,11,19,20,21] [4] ?_
 obtain⟨x9,hx9,h⟩:=bind_some h
 refine aa.ls (bC (m:=4) (f:=aj) (ti:=eo) (tj:=ew) (e:=85) hx9 (fun _=>rfl) ac rfl) ?_
 refine aa.cl ac 1 [0,9,10,11,19,22,23] [4] ?_
 obtain⟨x10,hx10,h⟩:=bind_some h
 refine aa.ls (xc AD (fz x9 x7 _ hx10)) ?_
 refine aa.cl ac 1 [0,9,10,11,25] [] ?_
 refine aa.nil ?_
 obtain rfl:=inj h
 exact Le.an
 refine aq h (fun h=> ?_) fun h=> ?_
 refine aJ ac [2] [] ?_
 refine ah ?_
 obtain rfl:=inj h
 exact bE (bo (bo (bE (bo (aO (f1 fv))))))
 refine ai ?_
 obtain rfl:=inj h
 exact bt (cn (Le.an))
 refine aD ?_
 refine aa.cl ac 2 [0,9,10,11] [] ?_
 refine aa.nil ?_
 obtain rfl:=inj h
 exact cn (Le.an)
 refine a6 ?_
 obtain rfl:=inj h
 exact cE (cG (cF (cn (Le.an))))
 refine ae ?_
 refine kM ac ⟨59,[(0,vl aj af),(27,vl aj af),(28,vi (af.length:Int)),(29,vi 0)],[]⟩ ?_
 refine bp (r:=r) h (fun j13=>⟨59,[(0,vl aj af)],[]⟩) (fun v14 h=> ?_) (fun j13 h=> ?_)
 refine ax (a:=v14) ?_
 refine bc (r:=v14) (s:=(0,())) _ (fun s15=>⟨59,[(0,vl aj af),(27,vl aj af),(28,vi (af.length:Int)),(29,vi s15.1)],[]⟩) _ (Le.an) h (fun s15 v16 h=> ?_)
 refine aJ ac [0,27,28,29,30] [] ?_
 refine ae ?_
 refine aq h (fun h=> ?_) fun h=> ?_
 refine ai ?_
 refine bq ?_
 refine ae ?_
 refine bD (r:=v16) h (fun j17=>⟨59,[(0,vl aj af),(27,vl aj af),(28,vi (af.length:Int)),(29,vi s15.1)],[]⟩) (fun v18 h=> ?_) (fun j17 h=> ?_)
 refine ax (a:=v18) ?_
 refine sr ?_
 obtain⟨x19,hx19,h⟩:=bind_some h
 refine aa.ls (aY (L:=af) (f:=aj) (ti:=eo) (tj:=ew) (e:=85) (k:= .i64) ac rfl hx19) ?_
 refine bO ac 3 [0,6,27,28,29] [6] ?_
 refine aJ ac [0,6,27,28,29,33,34,35] [6] ?_
 refine ax (a:=v18) ?_
 refine bc (r:=v18) (s:=(0,())) _ (fun s20=>⟨59,[(0,vl aj af),(6,.ref 6 0),(27,vl aj af),(28,vi (af.length:Int)),(29,vi s15.1),(33,vl aj af),(34,vi (af.length:Int)),(35,vi s20.1)],[(6,.box (tc aj x19))]⟩) _ (Le.an) h (fun s20 v21 h=> ?_)
 refine aJ ac [0,6,27,28,29,33,34,35,36] [6] ?_
 refine ae ?_
 refine aq h (fun h=> ?_) fun h=> ?_
 refine ai ?_
 refine bq ?_
 refine ae ?_
 refine bD (r:=v21) h (fun j22=>⟨59,[(0,vl aj af),(6,.ref 6 0),(27,vl aj af),(28,vi (af.length:Int)),(29,vi s15.1),(33,vl aj af),(34,vi (af.length:Int)),(35,vi s20.1)],[(6,.box (tc aj x19))]⟩) (fun v23 h=> ?_) (fun j22 h=> ?_)
 refine ax (a:=v23) ?_
 refine sr ?_
 obtain⟨x24,hx24,h⟩:=bind_some h
 refine aa.ls (aY (L:=af) (f:=aj) (ti:=eo) (tj:=ew) (e:=85) (k:= .i64) ac rfl hx24) ?_
 refine bO ac 3 [0,6,8,27,28,29,33,34,35] [6,8] ?_
 refine ae ?_
 refine bn h (fun j27=>⟨59,[(0,vl aj af),(6,.ref 6 0),(27,vl aj af),(28,vi (af.length:Int)),(29,vi s15.1),(33,vl aj af),(34,vi (af.length:Int)),(35,vi s20.1),(53,vb j27)],[(6,.box (tc aj x19))]⟩) (fun v28 h=> ?_) (fun j27 h=> ?_)
 refine aa.cl ac 5 [0,6,8,27,28,29,33,34,35,40,43] [6,8] ?_
 obtain⟨x25,hx25,h⟩:=bind_some h
 refine aa.ls (xc lO (cw x24.Years x19.Years.From _ hx25)) ?_
 refine aa.cl ac 1 [0,6,8,27,28,29,33,34,35,45] [6,8] ?_
 refine aa.cu [(45,fun b=>b)] h (fun h=> ?_) fun h=> ?_
 refine aa.cl ac 6 [0,6,27,28,29,33,34,35,45,46,48,51] [6] ?_
 obtain⟨x26,hx26,h⟩:=bind_some h
 refine aa.ls (xc Cc (pk af x24.Child x19.Years.From _ hx26)) ?_
 refine aa.cl ac 1 [0,6,27,28,29,33,34,35,53] [6] ?_
 refine aa.nil ?_
 obtain rfl:=inj h
 exact Le.an
 refine aa.cl ac 8 [0,6,27,28,29,33,34,35,53] [6] ?_
 refine aa.nil ?_
 obtain rfl:=inj h
 exact Le.an
 refine aq h (fun h=> ?_) fun h=> ?_
 refine aJ ac [2] [] ?_
 refine ah ?_
 obtain rfl:=inj h
 exact bE (bo (bo (bE (bE (bo (bo (bE (bo (aO (f1 fv))))))))))
 refine ai ?_
 obtain rfl:=inj h
 exact bt (cn (Le.an))
 refine aD ?_
 refine aa.cl ac 2 [0,6,27,28,29,33,34,35] [6] ?_
 refine aa.nil ?_
 obtain rfl:=inj h
 exact cn (Le.an)
 refine a6 ?_
 obtain rfl:=inj h
 exact cE (cG (cF (bt (cn (Le.an)))))
 refine aD ?_
 refine aa.cl ac 2 [0,27,28,29] [] ?_
 refine aa.nil ?_
 obtain rfl:=inj h
 exact cn (Le.an)
 refine a6 ?_
 obtain rfl:=inj h
 exact cE (cG (cF (cn (Le.an))))
 refine kM ac ⟨59,[(2,vb (decide ((af.length:Int)≤20)))],[]⟩ ?_
 refine ah ?_
 obtain rfl:=inj h
 exact aO (f1 fv)
theorem xb:bg Tryz.prog 55:=az Tryz.func55 (by kernel_rfl) rfl
theorem oj(s c:ByteArray)(r:Int)(h:strings_Compare s c=some r):aR Tryz.prog 164 [.v (.tr (.str s)),.v (.tr (.str c))] ⟨[.v (.tr (.int .i64 r))],[],false⟩:=vH Tryz.Dc 164 rfl s c r h
theorem CE:bg Tryz.prog 164:=az Tryz.func164 (by kernel_rfl) rfl
noncomputable def dG(aP:Place)(aE:ByteArray):Option (Int):=
 ((strings_Compare aP.Code aE).bind fun x1=>some x1)
theorem kc(aP:Place)(aE:ByteArray)(r:Int)(h:dG aP aE=some r):aR Tryz.prog 163 [.v (.agg (tc ad aP)),.v (vs aE)] ⟨[.v (vi r)],[],false⟩:=by
 refine au Tryz.func163 rfl [(.tmp 4)] rfl (fun r=>⟨[.v (vi r)],[],false⟩) (r:=r) ?_
 unfold dG at h
 refine aJ ac [1,2] [2] ?_
 refine sr ?_
 refine aa.cl ac 3 [6,7] [] ?_
 obtain⟨x1,hx1,h⟩:=bind_some h
 refine aa.ls (xc CE (oj aP.Code aE _ hx1)) ?_
 refine ckn ac 1 ⟨9,[(4,vi x1)],[]⟩ ?_
 refine ah ?_
 obtain rfl:=inj h
 exact aO (f1 fv)
theorem ym:bg Tryz.prog 163:=az Tryz.func163 (by kernel_rfl) rfl
noncomputable def bL(aX:(List Place))(kG:ByteArray):Option (Int×Bool):=
 (((loop (fun(s3:Int×Int)=>(bif(decide (s3.1<s3.2))then((at' aX (bF (Int.fdiv (IntKind.wrap .u64 (bF (s3.1+s3.2))) (2^1)))).bind fun x5=>((dG x5 kG).bind fun x6=>(bif(decide (x6<0))then some (.inl ((bF ((bF (Int.fdiv (IntKind.wrap .u64 (bF (s3.1+s3.2))) (2^1)))+1)),s3.2))else some (.inl (s3.1,(bF (Int.fdiv (IntKind.wrap .u64 (bF (s3.1+s3.2))) (2^1))))))))else some (.inr s3.1))) (0,(aX.length:Int)))).bind fun(j1:Int)=>(((bif(decide (j1<(aX.length:Int)))then((at' aX j1).bind fun x7=>((dG x7 kG).bind fun x8=>some (x8==0)))else some false)).bind fun(j9:Bool)=>some (j1,j9)))
theorem eu(aX:(List Place))(kG:ByteArray)(r:Int×Bool)(h:bL aX kG=some r):aR Tryz.prog 162 [.v (vl ad aX),.v (vs kG),.v (.clo 163 [])] ⟨[.v (vi r.1),.v (vb r.2)],[],false⟩:=by
 refine au Tryz.func162 rfl [(.tmp 6),(.tmp 7)] rfl (fun r=>⟨[.v (vi r.1),.v (vb r.2)],[],false⟩) (r:=r) ?_
 unfold bL at h
 refine aJ ac [0,1,2] [] ?_
 refine aJ ac [0,1,2,8] [] ?_
 refine aJ ac [0,1,2,8,9,10] [] ?_
 refine ae ?_
 refine aU h (fun j1=>⟨49,[(0,vl ad aX),(1,vs kG),(2,.clo 163 []),(8,vi (aX.length:Int)),(9,vi j1)],[]⟩) (fun v2 h=> ?_) (fun j1 h=> ?_)
 refine ax (a:=v2) ?_
 refine bc (r:=v2) (s:=(0,(aX.length:Int))) _ (fun s3=>⟨49,[(0,vl ad aX),(1,vs kG),(2,.clo 163 []),(8,vi (aX.length:Int)),(9,vi s3.1),(10,vi s3.2)],[]⟩) _ (Le.an) h (fun s3 v4 h=> ?_)
 refine ae ?_
 refine aJ ac [0,1,2,8,9,10,17] [] ?_
 refine aq h (fun h=> ?_) fun h=> ?_
 refine ai ?_
 refine bq ?_
 refine ax (a:=v4) ?_
 refine aJ ac [0,1,2,8,9,10,11] [] ?_
 refine sr ?_
 refine aa.cl ac 3 [0,1,2,8,9,10,11,24,25,26] [] ?_
 obtain⟨x5,hx5,h⟩:=bind_some h
 refine aa.ls (aY (L:=aX) (f:=ad) (ti:=bR) (tj:=bG) (e:=91) (k:= .i64) ac rfl hx5) ?_
 refine aa.cl ac 2 [0,1,2,8,9,10,11,24,28,29] [] ?_
 obtain⟨x6,hx6,h⟩:=bind_some h
 refine aa.ls (xc ym (kc x5 kG _ hx6)) ?_
 refine bO ac 1 [0,1,2,8,9,10,11,31] [] ?_
 refine aq h (fun h=> ?_) fun h=> ?_
 refine aD ?_
 refine aa.cl ac 3 [0,1,2,8,9,10] [] ?_
 refine aa.nil ?_
 obtain rfl:=inj h
 exact bt (cn (Le.an))
 refine aD ?_
 refine aa.cl ac 2 [0,1,2,8,9,10] [] ?_
 refine aa.nil ?_
 obtain rfl:=inj h
 exact bt (cn (Le.an))
 refine a6 ?_
 obtain rfl:=inj h
 exact cE (cG (cF (cI (Le.an))))
 refine ae ?_
 refine bn h (fun j9=>⟨49,[(6,vi j1),(7,vb j9)],[]⟩) (fun v10 h=> ?_) (fun j9 h=> ?_)
 refine aa.cl ac 5 [0,1,2,9,35,39] [] ?_
 refine aa.cu [(39,fun b=>b)] h (fun h=> ?_) fun h=> ?_
 refine aa.cl ac 3 [1,35,39,40,41,42] [] ?_
 obtain⟨x7,hx7,h⟩:=bind_some h
 refine aa.ls (aY (L:=aX) (f:=ad) (ti:=bR) (tj:=bG) (e:=91) (k:= .i64) ac rfl hx7) ?_
 refine aa.cl ac 2 [35,39,40,44,45] [] ?_
 obtain⟨x8,hx8,h⟩:=bind_some h
 refine aa.ls (xc ym (kc x7 kG _ hx8)) ?_
 refine aa.cl ac 4 [6,7] [] ?_
 refine aa.nil ?_
 obtain rfl:=inj h
 exact Le.an
 refine aa.cl ac 11 [6,7] [] ?_
 refine aa.nil ?_
 obtain rfl:=inj h
 exact Le.an
 refine ah ?_
 obtain rfl:=inj h
 exact aO (f2 fv fv)
theorem CD:bg Tryz.prog 162:=az Tryz.func162 (by kernel_rfl) rfl
noncomputable def cD(af:(List Place))(aE:ByteArray):Option (Int×Bool):=
 ((bL af aE).bind fun x1=>some (x1.1,x1.2))
theorem eC(af:(List Place))(aE:ByteArray)(r:Int×Bool)(h:cD af aE=some r):aR Tryz.prog 110 [.v (vl ad af),.v (vs aE)] ⟨[.v (vi r.1),.v (vb r.2)],[],false⟩:=by
 refine au Tryz.func110 rfl [(.tmp 4),(.tmp 5)] rfl (fun r=>⟨[.v (vi r.1),.v (vb r.2)],[],false⟩) (r:=r) ?_
 unfold cD at h
 refine aJ ac [0,1] [] ?_
 refine sr ?_
 refine aa.cl ac 2 [6,7] [] ?_
 obtain⟨x1,hx1,h⟩:=bind_some h
 refine aa.ls (xc CD (eu af aE _ hx1)) ?_
 refine bO ac 4 [4,5] [] ?_
 refine ah ?_
 obtain rfl:=inj h
 exact aO (f2 fv fv)
theorem o7:bg Tryz.prog 110:=az Tryz.func110 (by kernel_rfl) rfl
noncomputable def dU(aW:World)(aE:ByteArray)(aS:Span):Option (Bool):=
 ((cD aW.Places aE).bind fun x1=>(((bif x1.2 then((at' aW.Places x1.1).bind fun x2=>((fq aS x2.Years).bind fun x3=>some x3))else some false)).bind fun(j4:Bool)=>some j4))
theorem jI(aW:World)(aE:ByteArray)(aS:Span)(r:Bool)(h:dU aW aE aS=some r):aR Tryz.prog 58 [.v (.agg (tc aQ aW)),.v (vs aE),.v (.agg (tc ig aS))] ⟨[.v (vb r)],[],false⟩:=by
 refine au Tryz.func58 rfl [(.tmp 6)] rfl (fun r=>⟨[.v (vb r)],[],false⟩) (r:=r) ?_
 unfold dU at h
 refine aJ ac [1,3,5] [3,5] ?_
 refine sr ?_
 refine aa.cl ac 3 [3,5,11,12] [3,5] ?_
 obtain⟨x1,hx1,h⟩:=bind_some h
 refine aa.ls (xc o7 (eC aW.Places aE _ hx1)) ?_
 refine bO ac 5 [3,5,7,8] [3,5] ?_
 refine ae ?_
 refine ie mixed h (fun j4=>⟨27,[(6,vb j4)],[]⟩) (fun v5 h=> ?_) (fun j4 h=> ?_)
 refine aH.cl ac false 2 [3,5,7,17] [3,5] ?_
 refine aH.cu [(17,fun b=>b)] h (fun h=> ?_) fun h=> ?_
 refine aH.cl ac false 4 [17,18,20,21] [] ?_
 obtain⟨x2,hx2,h⟩:=bind_some h
 refine aH.step (aY (L:=aW.Places) (f:=ad) (ti:=bR) (tj:=bG) (e:=91) (k:= .i64) ac rfl hx2) ?_
 refine aH.cl ac false 2 [17,18,24] [] ?_
 obtain⟨x3,hx3,h⟩:=bind_some h
 refine aH.step (xc xV (k7 aS x2.Years _ hx3)) ?_
 refine aH.cl ac false 2 [6] [] ?_
 refine aH.nil (by kernel_rfl) ?_
 obtain rfl:=inj h
 exact Le.an
 refine aH.cl ac false 10 [6] [] ?_
 refine aH.nil (by kernel_rfl) ?_
 obtain rfl:=inj h
 exact Le.an
 refine ah ?_
 obtain rfl:=inj h
 exact aO (f1 fv)
theorem AE:bg Tryz.prog 58:=az Tryz.func58 (by kernel_rfl) rfl
noncomputable def jf(aL:ay)(c0:World):Option (Bool):=
 ((((dU c0 aL.Child aL.Years).bind fun x1=>(bif(!x1)then some true else((dU c0 aL.Parent aL.Years).bind fun x2=>some (!x2))))).bind fun(j3:Bool)=>some j3)
theorem oH(aL:ay)(c0:World)(r:Bool)(h:jf aL c0=some r):aR Tryz.prog 57 [.v (.agg (tc aj aL)),.v (.ptr [vl ad c0.Places,vl aj c0.Links] 0)] ⟨[.v (vb r)],[],false⟩:=by
 refine au Tryz.func57 rfl [(.tmp 3)] rfl (fun r=>⟨[.v (vb r)],[],false⟩) (r:=r) ?_
 unfold jf at h
 refine aJ ac [1,2] [2] ?_
 refine ae ?_
 refine bn h (fun j3=>⟨20,[(3,vb j3)],[]⟩) (fun v4 h=> ?_) (fun j3 h=> ?_)
 refine aa.cl ac 5 [1,2,4,6,8] [2] ?_
 obtain⟨x1,hx1,h⟩:=bind_some h
 refine aa.ls (xc AE (jI c0 aL.Child aL.Years _ hx1)) ?_
 refine aa.cl ac 2 [1,2,11] [2] ?_
 refine aa.cu [(11,fun b=>b)] h (fun h=> ?_) fun h=> ?_
 refine aa.cl ac 9 [3] [] ?_
 refine aa.nil ?_
 obtain rfl:=inj h
 exact Le.an
 refine aa.cl ac 5 [11,12,14,16] [] ?_
 obtain⟨x2,hx2,h⟩:=bind_some h
 refine aa.ls (xc AE (jI c0 aL.Parent aL.Years _ hx2)) ?_
 refine aa.cl ac 3 [3] [] ?_
 refine aa.nil ?_
 obtain rfl:=inj h
 exact Le.an
 refine ah ?_
 obtain rfl:=inj h
 exact aO (f1 fv)
theorem Ej:bg Tryz.prog 57:=az Tryz.func57 (by kernel_rfl) rfl
noncomputable def cq(aS:(List ay))(cW:World):Option (Int):=
 (((dt (aS.length:Int) (fun(i3:Int) (_:Unit)=>((at' aS i3).bind fun x7=>((jf x7 cW).bind fun x8=>(bif x8 then some (.inr (.inr i3))else some (.inl ()))))) (fun(_:Unit)=> .inl ()) 0 ())).bind (Sum.elim (fun(_:Unit)=>some (-1)) some))
theorem gw(aS:(List ay))(cW:World)(r:Int)(h:cq aS cW=some r):aR Tryz.prog 109 [.v (vl aj aS),.v (.clo 57 [.ptr [vl ad cW.Places,vl aj cW.Links] 0])] ⟨[.v (vi r)],[],false⟩:=by
 refine au Tryz.func109 rfl [(.tmp 4)] rfl (fun r=>⟨[.v (vi r)],[],false⟩) (r:=r) ?_
 unfold cq at h
 refine aJ ac [0,1] [] ?_
 refine ae ?_
 refine aJ ac [0,1,7,8] [] ?_
 refine bp (r:=r) h (fun j1=>⟨19,[],[]⟩) (fun v2 h=> ?_) (fun j1 h=> ?_)
 refine ax (a:=v2) ?_
 refine bc (r:=v2) (s:=(0,())) _ (fun s3=>⟨19,[(0,vl aj aS),(1,.clo 57 [.ptr [vl ad cW.Places,vl aj cW.Links] 0]),(7,vi (aS.length:Int)),(8,vi s3.1)],[]⟩) _ (Le.an) h (fun s3 v4 h=> ?_)
 refine aJ ac [0,1,7,8,9] [] ?_
 refine ae ?_
 refine aq h (fun h=> ?_) fun h=> ?_
 refine ai ?_
 refine bq ?_
 refine ae ?_
 refine bD (r:=v4) h (fun j5=>⟨19,[(0,vl aj aS),(1,.clo 57 [.ptr [vl ad cW.Places,vl aj cW.Links] 0]),(7,vi (aS.length:Int)),(8,vi s3.1)],[]⟩) (fun v6 h=> ?_) (fun j5 h=> ?_)
 refine ax (a:=v6) ?_
 refine aJ ac [0,1,5,7,8] [] ?_
 refine sr ?_
 refine aa.cl ac 3 [0,1,5,7,8,11,12,13] [] ?_
 obtain⟨x7,hx7,h⟩:=bind_some h
 refine aa.ls (aY (L:=aS) (f:=aj) (ti:=eo) (tj:=ew) (e:=85) (k:= .i64) ac rfl hx7) ?_
 refine aa.cl ac 1 [0,1,5,7,8,11,15] [] ?_
 obtain⟨x8,hx8,h⟩:=bind_some h
 refine aa.ls (xc Ej (oH x7 cW _ hx8)) ?_
 refine aa.nx ?_
 refine aq h (fun h=> ?_) fun h=> ?_
 refine aJ ac [4] [] ?_
 refine ah ?_
 obtain rfl:=inj h
 exact bE (bo (bo (bE (bo (aO (f1 fv))))))
 refine ai ?_
 obtain rfl:=inj h
 exact bt (cn (Le.an))
 refine aD ?_
 refine aa.cl ac 2 [0,1,7,8] [] ?_
 refine aa.nil ?_
 obtain rfl:=inj h
 exact cn (Le.an)
 refine a6 ?_
 obtain rfl:=inj h
 exact cE (cG (cF (cn (Le.an))))
 refine aJ ac [4] [] ?_
 refine ah ?_
 obtain rfl:=inj h
 exact aO (f1 fv)
noncomputable def b9(aS:(List ay))(cW:World):Option (Bool):=
 ((cq aS cW).bind fun x1=>some (decide (x1≥0)))
theorem fH(aS:(List ay))(cW:World)(r:Bool)(h:b9 aS cW=some r):aR Tryz.prog 56 [.v (vl aj aS),.v (.clo 57 [.ptr [vl ad cW.Places,vl aj cW.Links] 0])] ⟨[.v (vb r)],[],false⟩:=by
 refine au Tryz.func56 rfl [(.tmp 4)] rfl (fun r=>⟨[.v (vb r)],[],false⟩) (r:=r) ?_
 unfold b9 at h
 refine aJ ac [0,1] [] ?_
 refine sr ?_
 refine aa.cl ac 2 [5,6] [] ?_
 obtain⟨x1,hx1,h⟩:=bind_some h
 refine aa.ls (xc uk (gw aS cW _ hx1)) ?_
 refine bO ac 2 [4] [] ?_
 refine ah ?_
 obtain rfl:=inj h
 exact aO (f1 fv)
noncomputable def dk(aW:World):Option (Bool):=
 ((((ga aW.Places).bind fun x1=>(bif x1 then((eZ aW.Links).bind fun x2=>(bif x2 then((b9 aW.Links aW).bind fun x3=>some (!x3))else some false))else some false))).bind fun(j4:Bool)=>some j4)
theorem dD(aW:World)(r:Bool)(h:dk aW=some r):aR Tryz.prog 24 [.v (.agg (tc aQ aW))] ⟨[.v (vb r)],[],false⟩:=by
 refine au Tryz.func24 rfl [(.tmp 2)] rfl (fun r=>⟨[.v (vb r)],[],false⟩) (r:=r) ?_
 unfold dk at h
 refine aJ ac [1] [1] ?_
 refine ae ?_
 refine bn h (fun j4=>⟨18,[(2,vb j4)],[]⟩) (fun v5 h=> ?_) (fun j4 h=> ?_)
 refine aa.cl ac 2 [1,4] [1] ?_
 obtain⟨x1,hx1,h⟩:=bind_some h
 refine aa.ls (xc Ei (n9 aW.Places _ hx1)) ?_
 refine aa.cl ac 1 [1,6] [1] ?_
 refine aa.cu [(6,fun b=>b)] h (fun h=> ?_) fun h=> ?_
 refine aa.cl ac 2 [1,6,8] [1] ?_
 obtain⟨x2,hx2,h⟩:=bind_some h
 refine aa.ls (xc xb (jb aW.Links _ hx2)) ?_
 refine aa.cl ac 2 [1,11] [1] ?_
 refine aa.cu [(11,fun b=>b)] h (fun h=> ?_) fun h=> ?_
 refine aa.cl ac 3 [11,13,14] [1] ?_
 obtain⟨x3,hx3,h⟩:=bind_some h
 refine aa.ls (xc AD (fH aW.Links aW _ hx3)) ?_
 refine aa.cl ac 3 [2] [] ?_
 refine aa.nil ?_
 obtain rfl:=inj h
 exact Le.an
 refine aa.cl ac 7 [2] [] ?_
 refine aa.nil ?_
 obtain rfl:=inj h
 exact Le.an
 refine aa.cl ac 12 [2] [] ?_
 refine aa.nil ?_
 obtain rfl:=inj h
 exact Le.an
 refine ah ?_
 obtain rfl:=inj h
 exact aO (f1 fv)
theorem oC:bg Tryz.prog 24:=az Tryz.func24 (by kernel_rfl) rfl
noncomputable def cO(aC:Change):Option (Bool):=
 some ((aC.Kind==2) || (aC.Kind==3))
theorem e9(aC:Change)(r:Bool)(h:cO aC=some r):aR Tryz.prog 79 [.v (.agg (tc aF aC))] ⟨[.v (vb r)],[],false⟩:=by
 refine au Tryz.func79 rfl [(.tmp 2)] rfl (fun r=>⟨[.v (vb r)],[],false⟩) (r:=r) ?_
 unfold cO at h
 refine aJ ac [1] [1] ?_
 refine ae ?_
 refine c7 ⟨11,[(2,vb ((aC.Kind==2) || (aC.Kind==3)))],[]⟩ ?_ ?_
 refine aa.ck ac 4 ⟨11,[(1,.ref 1 0),(6,vb (aC.Kind==2))],[(1,.box (tc aF aC))]⟩ ?_
 generalize (aC.Kind==2)=bb
 cases bb
 refine aa.cl ac 5 [2] [] ?_
 exact aa.nil (Le.an)
 refine aa.cl ac 5 [2] [] ?_
 exact aa.nil (Le.an)
 refine ah ?_
 obtain rfl:=inj h
 exact aO (f1 fv)
theorem xd:bg Tryz.prog 79:=az Tryz.func79 (by kernel_rfl) rfl
noncomputable def gq(aC:Change):Option (Bool):=
 ((((dO aC.Year (-2999) 3000).bind fun x1=>(bif(!x1)then some true else((dO aC.Kind 0 3).bind fun x2=>(bif(!x2)then some true else((fL aC.Code).bind fun x3=>some (!x3))))))).bind fun(j4:Bool)=>(bif j4 then some false else((cO aC).bind fun x6=>(((bif x6 then((fL aC.Other).bind fun x9=>(bif x9 then some (!(aC.Other.toList==aC.Code.toList))else some false))else some (aC.Other.toList==(ByteArray.mk #[]).toList))).bind fun(j7:Bool)=>(((bif(aC.Kind==0)then((dY aC.Language).bind fun x12=>(bif x12 then((fa aC.Text).bind fun x13=>some x13)else some false))else some ((aC.Language.toList==(ByteArray.mk #[]).toList)&&(aC.Text.toList==(ByteArray.mk #[]).toList)))).bind fun(j10:Bool)=>some (j7&&j10))))))
theorem lB(aC:Change)(r:Bool)(h:gq aC=some r):aR Tryz.prog 36 [.v (.agg (tc aF aC))] ⟨[.v (vb r)],[],false⟩:=by
 refine au Tryz.func36 rfl [(.tmp 2)] rfl (fun r=>⟨[.v (vb r)],[],false⟩) (r:=r) ?_
 unfold gq at h
 refine aJ ac [1] [1] ?_
 refine ae ?_
 refine ae ?_
 refine bn h (fun j4=>⟨59,[(1,.ref 1 0),(20,vb j4)],[(1,.box (tc aF aC))]⟩) (fun v5 h=> ?_) (fun j4 h=> ?_)
 refine aa.cl ac 2 [1,6] [1] ?_
 obtain⟨x1,hx1,h⟩:=bind_some h
 refine aa.ls (xc nf (du aC.Year (-2999) 3000 _ hx1)) ?_
 refine aa.cl ac 2 [1,9] [1] ?_
 refine aa.cu [(9,fun b=>b)] h (fun h=> ?_) fun h=> ?_
 refine aa.cl ac 11 [1,20] [1] ?_
 refine aa.nil ?_
 obtain rfl:=inj h
 exact Le.an
 refine aa.cl ac 2 [1,9,11] [1] ?_
 obtain⟨x2,hx2,h⟩:=bind_some h
 refine aa.ls (xc nf (du aC.Kind 0 3 _ hx2)) ?_
 refine aa.cl ac 3 [1,15] [1] ?_
 refine aa.cu [(15,fun b=>b)] h (fun h=> ?_) fun h=> ?_
 refine aa.cl ac 5 [1,20] [1] ?_
 refine aa.nil ?_
 obtain rfl:=inj h
 exact Le.an
 refine aa.cl ac 2 [1,15,17] [1] ?_
 obtain⟨x3,hx3,h⟩:=bind_some h
 refine aa.ls (xc uA (iI aC.Code _ hx3)) ?_
 refine aa.cl ac 2 [1,20] [1] ?_
 refine aa.nil ?_
 obtain rfl:=inj h
 exact Le.an
 refine aq h (fun h=> ?_) fun h=> ?_
 refine kM ac ⟨59,[(2,vb false)],[]⟩ ?_
 refine ah ?_
 obtain rfl:=inj h
 exact cY (aO (f1 fv))
 refine ai ?_
 refine bq ?_
 refine aJ ac [1,3] [1] ?_
 refine ae ?_
 refine sr ?_
 refine aa.cl ac 1 [1,3,24] [1] ?_
 obtain⟨x6,hx6,h⟩:=bind_some h
 refine aa.ls (xc xd (e9 aC _ hx6)) ?_
 refine aa.nx ?_
 refine aU h (fun j7=>⟨59,[(1,.ref 1 0),(3,vb j7)],[(1,.box (tc aF aC))]⟩) (fun v8 h=> ?_) (fun j7 h=> ?_)
 refine aq h (fun h=> ?_) fun h=> ?_
 refine aD ?_
 refine aa.cl ac 2 [1,27] [1] ?_
 obtain⟨x9,hx9,h⟩:=bind_some h
 refine aa.ls (xc uA (iI aC.Other _ hx9)) ?_
 refine aa.cl ac 1 [1,29] [1] ?_
 refine aa.cu [(29,fun b=>b)] h (fun h=> ?_) fun h=> ?_
 refine aa.cl ac 7 [1,3] [1] ?_
 refine aa.nil ?_
 obtain rfl:=inj h
 exact cI (Le.an)
 refine aa.cl ac 7 [1,3] [1] ?_
 refine aa.nil ?_
 obtain rfl:=inj h
 exact cI (Le.an)
 refine ai ?_
 obtain rfl:=inj h
 exact cI (Le.an)
 refine ae ?_
 refine c7 ⟨59,[(1,.ref 1 0),(3,vb j7),(4,vb ((aC.Language.toList==(ByteArray.mk #[]).toList)&&(aC.Text.toList==(ByteArray.mk #[]).toList)))],[(1,.box (tc aF aC))]⟩ ?_ ?_
 refine aa.ck ac 4 ⟨59,[(1,.ref 1 0),(3,vb j7),(39,vb (aC.Language.toList==(ByteArray.mk #[]).toList))],[(1,.box (tc aF aC))]⟩ ?_
 generalize (aC.Language.toList==(ByteArray.mk #[]).toList)=bb
 cases bb
 refine aa.cl ac 5 [1,3,4] [1] ?_
 exact aa.nil (Le.an)
 refine aa.cl ac 5 [1,3,4] [1] ?_
 exact aa.nil (Le.an)
 refine ae ?_
 refine aJ ac [1,3,4,46] [1] ?_
 refine aU h (fun j10=>⟨59,[(3,vb j7),(4,vb j10)],[]⟩) (fun v11 h=> ?_) (fun j10 h=> ?_)
 refine aq h (fun h=> ?_) fun h=> ?_
 refine aD ?_
 refine aa.cl ac 2 [1,3,48] [1] ?_
 obtain⟨x12,hx12,h⟩:=bind_some h
 refine aa.ls (xc xf (il aC.Language _ hx12)) ?_
 refine aa.cl ac 1 [1,3,50] [1] ?_
 refine aa.cu [(50,fun b=>b)] h (fun h=> ?_) fun h=> ?_
 refine aa.cl ac 2 [3,50,52] [] ?_
 obtain⟨x13,hx13,h⟩:=bind_some h
 refine aa.ls (xc xg (jc aC.Text _ hx13)) ?_
 refine aa.cl ac 2 [3,4] [] ?_
 refine aa.nil ?_
 obtain rfl:=inj h
 exact cI (Le.an)
 refine aa.cl ac 5 [3,4] [] ?_
 refine aa.nil ?_
 obtain rfl:=inj h
 exact cI (Le.an)
 refine ai ?_
 obtain rfl:=inj h
 exact cI (Le.an)
 refine ae ?_
 refine c7 ⟨59,[(2,vb (j7&&j10))],[]⟩ ?_ ?_
 refine aa.ck ac 2 ⟨59,[(4,vb j10),(56,vb j7)],[]⟩ ?_
 generalize j7=bb
 cases bb
 refine aa.cl ac 3 [2] [] ?_
 exact aa.nil (Le.an)
 refine aa.cl ac 3 [2] [] ?_
 exact aa.nil (Le.an)
 refine ah ?_
 obtain rfl:=inj h
 exact aO (f1 fv)
theorem Ay:bg Tryz.prog 36:=az Tryz.func36 (by kernel_rfl) rfl
noncomputable def ef(aW:World)(aE:ByteArray):Option (Bool):=
 ((cD aW.Places aE).bind fun x1=>some x1.2)
theorem iU(aW:World)(aE:ByteArray)(r:Bool)(h:ef aW aE=some r):aR Tryz.prog 85 [.v (.agg (tc aQ aW)),.v (vs aE)] ⟨[.v (vb r)],[],false⟩:=by
 refine au Tryz.func85 rfl [(.tmp 4)] rfl (fun r=>⟨[.v (vb r)],[],false⟩) (r:=r) ?_
 unfold ef at h
 refine aJ ac [1,2] [2] ?_
 refine sr ?_
 refine aa.cl ac 3 [9,10] [] ?_
 obtain⟨x1,hx1,h⟩:=bind_some h
 refine aa.ls (xc o7 (eC aW.Places aE _ hx1)) ?_
 refine bO ac 5 [6] [] ?_
 refine aJ ac [4] [] ?_
 refine ah ?_
 obtain rfl:=inj h
 exact aO (f1 fv)
theorem AH:bg Tryz.prog 85:=az Tryz.func85 (by kernel_rfl) rfl
noncomputable def cv(aW:World)(aE:ByteArray):Option (Place):=
 ((cD aW.Places aE).bind fun x1=>((at' aW.Places x1.1).bind fun x2=>some x2))
theorem de(aW:World)(aE:ByteArray)(r:Place)(h:cv aW aE=some r):aR Tryz.prog 86 [.v (.agg (tc aQ aW)),.v (vs aE)] ⟨[.v (.agg (tc ad r))],[],true⟩:=by
 refine au Tryz.func86 rfl [(.cell 4 91)] rfl (fun r=>⟨[.v (.agg (tc ad r))],[],true⟩) (r:=r) ?_
 unfold cv at h
 refine aJ ac [1,2,4] [2,4] ?_
 refine sr ?_
 refine aa.cl ac 3 [2,4,9,10] [2,4] ?_
 obtain⟨x1,hx1,h⟩:=bind_some h
 refine aa.ls (xc o7 (eC aW.Places aE _ hx1)) ?_
 refine bO ac 5 [2,4,5] [2,4] ?_
 refine sr ?_
 refine aa.cl ac 3 [4,15,16] [4] ?_
 obtain⟨x2,hx2,h⟩:=bind_some h
 refine aa.ls (aY (L:=aW.Places) (f:=ad) (ti:=bR) (tj:=bG) (e:=91) (k:= .i64) ac rfl hx2) ?_
 refine bO ac 2 [4] [4] ?_
 refine ah ?_
 obtain rfl:=inj h
 exact aO (f1 (kq rfl (cA ac (d:=4) (cs:=[vs x2.Code,vi x2.Class,vi x2.Years.From,vi x2.Years.To,vl ao x2.Names]) (ti:=bG) (by kernel_rfl) (by kernel_rfl) (by kernel_rfl) (by kernel_rfl))))
theorem pY:bg Tryz.prog 86:=az Tryz.func86 (by kernel_rfl) rfl
noncomputable def gb(aW:World)(aC:Change):Option (Int):=
 ((((((dk aW).bind fun x3=>(bif(!x3)then some true else((gq aC).bind fun x4=>some (!x4))))).bind fun(j5:Bool)=>(bif j5 then some (.inr 1)else((((ef aW aC.Code).bind fun x7=>(bif(!x7)then some true else((cO aC).bind fun x8=>(bif x8 then((ef aW aC.Other).bind fun x9=>some (!x9))else some false))))).bind fun(j10:Bool)=>(bif j10 then some (.inr 4)else some (.inl ())))))).bind (Sum.elim (fun(_:Unit)=>((cv aW aC.Code).bind fun x12=>((((((bI x12.Years (bF (aC.Year - 1))).bind fun x15=>(bif(!x15)then some true else(bif(aC.Kind !=1)then((bI x12.Years aC.Year).bind fun x16=>some (!x16))else some false)))).bind fun(j17:Bool)=>(bif j17 then some (.inr 5)else((((cO aC).bind fun x19=>(bif x19 then((cv aW aC.Other).bind fun x20=>((bI x20.Years aC.Year).bind fun x21=>some (!x21)))else some false))).bind fun(j22:Bool)=>(bif j22 then some (.inr 5)else some (.inl ())))))).bind (Sum.elim (fun(_:Unit)=>some 0) some)))) some))
theorem ob(aW:World)(aC:Change)(r:Int)(h:gb aW aC=some r):aR Tryz.prog 40 [.v (.agg (tc aQ aW)),.v (.agg (tc aF aC))] ⟨[.v (vi r)],[],false⟩:=by
 refine au Tryz.func40 rfl [(.tmp 4)] rfl (fun r=>⟨[.v (vi r)],[],false⟩) (r:=r) ?_
 unfold gb at h
 refine aJ ac [2,3] [2,3] ?_
 refine ae ?_
 refine bp (r:=r) h (fun j1=>⟨70,[(2,.ref 2 0),(3,.ref 3 0)],[(2,.box (tc aQ aW)),(3,.box (tc aF aC))]⟩) (fun v2 h=> ?_) (fun j1 h=> ?_)
 refine ax (a:=v2) ?_
 refine ae ?_
 refine bn h (fun j5=>⟨70,[(2,.ref 2 0),(3,.ref 3 0),(6,vb j5)],[(2,.box (tc aQ aW)),(3,.box (tc aF aC))]⟩) (fun v6 h=> ?_) (fun j5 h=> ?_)
 refine aa.cl ac 1 [2,3,7] [2,3] ?_
 obtain⟨x3,hx3,h⟩:=bind_some h
 refine aa.ls (xc oC (dD aW _ hx3)) ?_
 refine aa.cl ac 2 [2,3,10] [2,3] ?_
 refine aa.cu [(10,fun b=>b)] h (fun h=> ?_) fun h=> ?_
 refine aa.cl ac 5 [2,3,6] [2,3] ?_
 refine aa.nil ?_
 obtain rfl:=inj h
 exact Le.an
 refine aa.cl ac 1 [2,3,10,11] [2,3] ?_
 obtain⟨x4,hx4,h⟩:=bind_some h
 refine aa.ls (xc Ay (lB aC _ hx4)) ?_
 refine aa.cl ac 3 [2,3,6] [2,3] ?_
 refine aa.nil ?_
 obtain rfl:=inj h
 exact Le.an
 refine aq h (fun h=> ?_) fun h=> ?_
 refine kM ac ⟨70,[(4,vi 1)],[]⟩ ?_
 refine ah ?_
 obtain rfl:=inj h
 exact bE (bo (aO (f1 fv)))
 refine ae ?_
 refine bn h (fun j10=>⟨70,[(2,.ref 2 0),(3,.ref 3 0),(15,vb j10)],[(2,.box (tc aQ aW)),(3,.box (tc aF aC))]⟩) (fun v11 h=> ?_) (fun j10 h=> ?_)
 refine aa.cl ac 3 [2,3,16,18] [2,3] ?_
 obtain⟨x7,hx7,h⟩:=bind_some h
 refine aa.ls (xc AH (iU aW aC.Code _ hx7)) ?_
 refine aa.cl ac 2 [2,3,21] [2,3] ?_
 refine aa.cu [(21,fun b=>b)] h (fun h=> ?_) fun h=> ?_
 refine aa.cl ac 11 [2,3,15] [2,3] ?_
 refine aa.nil ?_
 obtain rfl:=inj h
 exact Le.an
 refine aa.cl ac 1 [2,3,21,22] [2,3] ?_
 obtain⟨x8,hx8,h⟩:=bind_some h
 refine aa.ls (xc xd (e9 aC _ hx8)) ?_
 refine aa.cl ac 1 [2,3,21,24] [2,3] ?_
 refine aa.cu [(24,fun b=>b)] h (fun h=> ?_) fun h=> ?_
 refine aa.cl ac 3 [2,3,21,24,25,27] [2,3] ?_
 obtain⟨x9,hx9,h⟩:=bind_some h
 refine aa.ls (xc AH (iU aW aC.Other _ hx9)) ?_
 refine aa.cl ac 4 [2,3,15] [2,3] ?_
 refine aa.nil ?_
 obtain rfl:=inj h
 exact Le.an
 refine aa.cl ac 8 [2,3,15] [2,3] ?_
 refine aa.nil ?_
 obtain rfl:=inj h
 exact Le.an
 refine aq h (fun h=> ?_) fun h=> ?_
 refine kM ac ⟨70,[(4,vi 4)],[]⟩ ?_
 refine ah ?_
 obtain rfl:=inj h
 exact bE (bo (aO (f1 fv)))
 refine ai ?_
 obtain rfl:=inj h
 exact bt (cn (Le.an))
 refine sr ?_
 refine aa.cl ac 3 [2,3,32,34] [2,3] ?_
 obtain⟨x12,hx12,h⟩:=bind_some h
 refine aa.ls (xc pY (de aW aC.Code _ hx12)) ?_
 refine bO ac 3 [2,3,5] [2,3,5] ?_
 refine ae ?_
 refine bp (r:=r) h (fun j13=>⟨70,[],[]⟩) (fun v14 h=> ?_) (fun j13 h=> ?_)
 refine ax (a:=v14) ?_
 refine ae ?_
 refine bn h (fun j17=>⟨70,[(2,.ref 2 0),(3,.ref 3 0),(37,vb j17)],[(2,.box (tc aQ aW)),(3,.box (tc aF aC))]⟩) (fun v18 h=> ?_) (fun j17 h=> ?_)
 refine aa.cl ac 4 [2,3,5,38,41] [2,3,5] ?_
 obtain⟨x15,hx15,h⟩:=bind_some h
 refine aa.ls (xc lO (cw x12.Years (bF (aC.Year - 1)) _ hx15)) ?_
 refine aa.cl ac 2 [2,3,5,44] [2,3,5] ?_
 refine aa.cu [(44,fun b=>b)] h (fun h=> ?_) fun h=> ?_
 refine aa.cl ac 12 [2,3,37] [2,3] ?_
 refine aa.nil ?_
 obtain rfl:=inj h
 exact Le.an
 refine aa.cl ac 4 [2,3,5,44,48] [2,3,5] ?_
 refine aa.cu [(48,fun b=>b)] h (fun h=> ?_) fun h=> ?_
 refine aa.cl ac 3 [2,3,44,48,49,51] [2,3] ?_
 obtain⟨x16,hx16,h⟩:=bind_some h
 refine aa.ls (xc lO (cw x12.Years aC.Year _ hx16)) ?_
 refine aa.cl ac 4 [2,3,37] [2,3] ?_
 refine aa.nil ?_
 obtain rfl:=inj h
 exact Le.an
 refine aa.cl ac 8 [2,3,37] [2,3] ?_
 refine aa.nil ?_
 obtain rfl:=inj h
 exact Le.an
 refine aq h (fun h=> ?_) fun h=> ?_
 refine kM ac ⟨70,[(4,vi 5)],[]⟩ ?_
 refine ah ?_
 obtain rfl:=inj h
 exact bE (bo (aO (f1 fv)))
 refine ae ?_
 refine ie mixed h (fun j22=>⟨70,[(56,vb j22)],[]⟩) (fun v23 h=> ?_) (fun j22 h=> ?_)
 refine aH.cl ac false 1 [2,3,57] [2,3] ?_
 obtain⟨x19,hx19,h⟩:=bind_some h
 refine aH.step (xc xd (e9 aC _ hx19)) ?_
 refine aH.cl ac false 1 [2,3,59] [2,3] ?_
 refine aH.cu [(59,fun b=>b)] h (fun h=> ?_) fun h=> ?_
 refine aH.cl ac false 3 [3,59,60,62] [3] ?_
 obtain⟨x20,hx20,h⟩:=bind_some h
 refine aH.step (xc pY (de aW aC.Other _ hx20)) ?_
 refine aH.cl ac false 3 [59,64,66] [] ?_
 obtain⟨x21,hx21,h⟩:=bind_some h
 refine aH.step (xc lO (cw x20.Years aC.Year _ hx21)) ?_
 refine aH.cl ac false 3 [56] [] ?_
 refine aH.nil (by kernel_rfl) ?_
 obtain rfl:=inj h
 exact Le.an
 refine aH.cl ac false 11 [56] [] ?_
 refine aH.nil (by kernel_rfl) ?_
 obtain rfl:=inj h
 exact Le.an
 refine aq h (fun h=> ?_) fun h=> ?_
 refine kM ac ⟨70,[(4,vi 5)],[]⟩ ?_
 refine ah ?_
 obtain rfl:=inj h
 exact bE (bo (aO (f1 fv)))
 refine ai ?_
 obtain rfl:=inj h
 exact bt (cn (Le.an))
 refine kM ac ⟨70,[(4,vi 0)],[]⟩ ?_
 refine ah ?_
 obtain rfl:=inj h
 exact aO (f1 fv)
theorem Ed:bg Tryz.prog 40:=az Tryz.func40 (by kernel_rfl) rfl
def dW(L:List Name):Option (List Name):=if L.length≤68719476736 then some L else none
set_option maxRecDepth 100000 in
theorem jM(L r:List Name)(h:dW L=some r):aR Tryz.prog 183 [.v (.tr (.sl L.length (L.map ao)))] ⟨[.own 169 5 r.length (r.map ao)],[],true⟩:=by
 unfold dW at h
 split at h
 ·rename_i hh
  injection h with h
  subst h
  refine qD ao Tryz.y4 183 169 rfl rfl _ _ 5 56 rfl rfl (by kernel_rfl) (by kernel_rfl) (by kernel_rfl) (by decide) (fun _=>rfl) (fun _=>rfl) L (by omega)
 ·cases h
theorem yq:bg Tryz.prog 183:=az Tryz.func183 (by kernel_rfl) rfl
noncomputable def fk(aP:Place):Option (Place):=
 ((dW aP.Names).bind fun x1=>some (Place.mk aP.Code aP.Class aP.Years x1))
theorem nh(aP:Place)(r:Place)(h:fk aP=some r):aR Tryz.prog 140 [.v (.agg (tc ad aP))] ⟨[.part [vs r.Code,vi r.Class,vi r.Years.From,vi r.Years.To] [] (oa 169 5 ao r.Names)],[],false⟩:=by
 refine au Tryz.func140 rfl [(.cell 2 91)] rfl (fun r=>⟨[.part [vs r.Code,vi r.Class,vi r.Years.From,vi r.Years.To] [] (oa 169 5 ao r.Names)],[],false⟩) (r:=r) ?_
 unfold fk at h
 refine aJ ac [1,2] [1,2] ?_
 refine sr ?_
 refine aa.cl ac 2 [1,2,4] [1,2] ?_
 obtain⟨x1,hx1,h⟩:=bind_some h
 refine aa.ls (xc yq (jM aP.Names _ hx1)) ?_
 refine bO ac 2 [1,2] [1,2,5] ?_
 refine aJ ac [2] [2,5] ?_
 refine ah ?_
 obtain rfl:=inj h
 exact aO (f1 (AP (d:=5) [vs aP.Code,vi aP.Class,vi aP.Years.From,vi aP.Years.To] [] (cA ac (d:=2) (cs:=[vs aP.Code,vi aP.Class,vi aP.Years.From,vi aP.Years.To,.own 5]) (ti:=bG) (by kernel_rfl) (by kernel_rfl) (by kernel_rfl) (by kernel_rfl)) (by kernel_rfl) (cN bQ _) rfl rfl SV.ez SV.ez (by kernel_rfl)))
theorem Cq:bg Tryz.prog 140:=az Tryz.func140 (by kernel_rfl) rfl
noncomputable def eB(af:(List Place)):Option ((List Place)):=
 (((jH (af.length:Int) (fun(i3:Int) (s3:(List Place))=>((at' af i3).bind fun x7=>((fk x7).bind fun x8=>((c4 s3 ([x8]:List Place)).bind fun x9=>some x9)))) (fun(s3:(List Place))=>s3) 0 ([]:List Place))).bind fun(j1:(List Place))=>some j1)
theorem mF(af:(List Place))(r:(List Place))(h:eB af=some r):aR Tryz.prog 88 [.v (vl ad af)] ⟨[.deep 91 5 r.length [.flat,.flat,.flat,.flat,(.sl 169 5 [.flat,.flat,.flat,.flat,.flat])] (r.map ad)],[],false⟩:=by
 refine au Tryz.func88 rfl [(.tmp 2)] rfl (fun r=>⟨[.deep 91 5 r.length [.flat,.flat,.flat,.flat,(.sl 169 5 [.flat,.flat,.flat,.flat,.flat])] (r.map ad)],[],false⟩) (r:=r) ?_
 unfold eB at h
 refine sr ?_
 refine aa.cl ac 1 [2,0] [2] ?_
 refine aa.le (Le.qG (d:=2) (e:=91) (m:=5) (ss:=[.flat,.flat,.flat,.flat,(.sl 169 5 [.flat,.flat,.flat,.flat,.flat])]) (by kernel_rfl) (by kernel_rfl)) ?_
 refine aa.nx ?_
 refine sr ?_
 refine aa.cl ac 1 [3,2,0] [3,2] ?_
 refine aa.le (Le.qG (d:=3) (e:=91) (m:=5) (ss:=[.flat,.flat,.flat,.flat,(.sl 169 5 [.flat,.flat,.flat,.flat,.flat])]) (by kernel_rfl) (by kernel_rfl)) ?_
 refine aa.nx ?_
 refine ae ?_
 refine aJ ac [3,6,7,8] [3] ?_
 refine aU h (fun j1=>⟨19,[(3,.own 3)],[(3,.deep 91 5 j1.length [.flat,.flat,.flat,.flat,(.sl 169 5 [.flat,.flat,.flat,.flat,.flat])] (j1.map ad))]⟩) (fun v2 h=> ?_) (fun j1 h=> ?_)
 refine ax (a:=v2) ?_
 refine bc (r:=v2) (s:=(0,([]:List Place))) _ (fun s3=>⟨19,[(3,.own 3),(6,vl ad af),(7,vi (af.length:Int)),(8,vi s3.1)],[(3,.deep 91 5 s3.2.length [.flat,.flat,.flat,.flat,(.sl 169 5 [.flat,.flat,.flat,.flat,.flat])] (s3.2.map ad))]⟩) _ (Le.an) h (fun s3 v4 h=> ?_)
 refine aJ ac [3,6,7,8,9] [3] ?_
 refine ae ?_
 refine aq h (fun h=> ?_) fun h=> ?_
 refine ai ?_
 refine bq ?_
 refine ae ?_
 refine aU h (fun j5=>⟨19,[(3,.own 3),(6,vl ad af),(7,vi (af.length:Int)),(8,vi s3.1)],[(3,.deep 91 5 j5.length [.flat,.flat,.flat,.flat,(.sl 169 5 [.flat,.flat,.flat,.flat,.flat])] (j5.map ad))]⟩) (fun v6 h=> ?_) (fun j5 h=> ?_)
 refine ax (a:=v6) ?_
 refine sr ?_
 obtain⟨x7,hx7,h⟩:=bind_some h
 refine aa.ls (aY (L:=af) (f:=ad) (ti:=bR) (tj:=bG) (e:=91) (k:= .i64) ac rfl hx7) ?_
 refine bO ac 3 [3,5,6,7,8] [3,5] ?_
 refine aD ?_
 refine aa.cl ac 2 [6,7,8,12,13] [3] ?_
 obtain⟨x8,hx8,h⟩:=bind_some h
 refine aa.ls (xc Cq (nh x7 _ hx8)) ?_
 refine aa.a7 (pR (ti:=bR) (tj:=bG) (e:=91) (m:=5) (zs:=[.string (ByteArray.mk #[]),.int .i64 0,.int .i64 0,.int .i64 0,.slice none 0 0]) (v:= .agg [vs x8.Code,vi x8.Class,vi x8.Years.From,vi x8.Years.To,.own 14]) (cs:=[vs x8.Code,vi x8.Class,vi x8.Years.From,vi x8.Years.To,.own 14]) (ss:=[.flat,.flat,.flat,.flat,(.sl 169 5 [.flat,.flat,.flat,.flat,.flat])]) (ts:=[.str x8.Code,.int .i64 x8.Class,.int .i64 x8.Years.From,.int .i64 x8.Years.To,.sl x8.Names.length (x8.Names.map ao)]) (ds:=[14]) ac rfl rfl rfl (.cons _ _ _ [] _ _ _ _ (.flat (.str x8.Code) rfl) (.cons _ _ _ [] _ _ _ _ (.flat (.int .i64 x8.Class) rfl) (.cons _ _ _ [] _ _ _ _ (.flat (.int .i64 x8.Years.From) rfl) (.cons _ _ _ [] _ _ _ _ (.flat (.int .i64 x8.Years.To) rfl) (.cons _ _ _ [14] _ _ _ _ (ug (d:=14) (e:=169) (m:=5) (n:=x8.Names.length) (es:=x8.Names.map ao) (ss:=[.flat,.flat,.flat,.flat,.flat]) (cN bQ _)) .nil (by decide)) (by decide)) (by decide)) (by decide)) (by decide))) ?_
 obtain⟨x9,hx9,h⟩:=bind_some h
 refine aa.a7 (oz (f:=ad) (L:=s3.2) (M:=([x8]:List Place)) (t:=32) (ti:=bR) (tj:=bG) (zs:=[.string (ByteArray.mk #[]),.int .i64 0,.int .i64 0,.int .i64 0,.slice none 0 0]) (e:=91) (m:=5) (d:=3) (dx:=15) (ss:=[.flat,.flat,.flat,.flat,(.sl 169 5 [.flat,.flat,.flat,.flat,.flat])]) hx9 ac rfl rfl rfl rfl) ?_
 refine aa.cl ac 1 [3,6,7,8] [16] ?_
 refine aa.nil ?_
 obtain rfl:=inj h
 exact bt (cI (Le.rr [16] [(16,3)]))
 refine aD ?_
 refine aa.cl ac 2 [3,6,7,8] [3] ?_
 refine aa.nil ?_
 obtain rfl:=inj h
 exact cn (Le.an)
 refine a6 ?_
 obtain rfl:=inj h
 exact cE (cG (cF (cI (Le.an))))
 refine aJ ac [2] [3] ?_
 refine ah ?_
 obtain rfl:=inj h
 exact aO (f1 (vQ (d:=3) (fP (by kernel_rfl)) (by kernel_rfl) (by kernel_rfl)))
theorem Es:bg Tryz.prog 88:=az Tryz.func88 (by kernel_rfl) rfl
def gB(L:List ay):Option (List ay):=if L.length≤68719476736 then some L else none
set_option maxRecDepth 100000 in
theorem m6(L r:List ay)(h:gB L=some r):aR Tryz.prog 89 [.v (.tr (.sl L.length (L.map aj)))] ⟨[.own 85 4 r.length (r.map aj)],[],true⟩:=by
 unfold gB at h
 split at h
 ·rename_i hh
  injection h with h
  subst h
  refine qD aj Tryz.y3 89 85 rfl rfl _ _ 4 48 rfl rfl (by kernel_rfl) (by kernel_rfl) (by kernel_rfl) (by decide) (fun _=>rfl) (fun _=>rfl) L (by omega)
 ·cases h
theorem Et:bg Tryz.prog 89:=az Tryz.func89 (by kernel_rfl) rfl
noncomputable def eK(aW:World):Option (World):=
 ((eB aW.Places).bind fun x1=>((gB aW.Links).bind fun x2=>some (World.mk x1 x2)))
theorem kC(aW:World)(r:World)(h:eK aW=some r):kQ Tryz.prog 41 [.agg (tc aQ aW)] [] [(3000000,.deep 91 5 r.Places.length [.flat,.flat,.flat,.flat,(.sl 169 5 [.flat,.flat,.flat,.flat,.flat])] (r.Places.map ad)),(3000001,oa 85 4 aj r.Links)] [.agg [.own 3000000,.own 3000001]]:=by
 refine kk Tryz.func41 rfl [(.cell 2 35)] rfl (fun r=>[(3000000,.deep 91 5 r.Places.length [.flat,.flat,.flat,.flat,(.sl 169 5 [.flat,.flat,.flat,.flat,.flat])] (r.Places.map ad)),(3000001,oa 85 4 aj r.Links)]) (fun r=>[.agg [.own 3000000,.own 3000001]]) (r:=r) (c5 trivial (c5 (cN dj _) lx)) ?_
 unfold eK at h
 refine aJ ac [1,2] [1,2] ?_
 refine ae ?_
 refine cV mixed ?_
 refine aH.cl ac false 2 [1,2,4] [1,2] ?_
 obtain⟨x1,hx1,h⟩:=bind_some h
 refine aH.step (xc Es (mF aW.Places _ hx1)) ?_
 refine aH.cl ac false 2 [2,5,7] [2,5] ?_
 obtain⟨x2,hx2,h⟩:=bind_some h
 refine aH.step (xc Et (m6 aW.Links _ hx2)) ?_
 refine aH.mX false [5,8] (aZ (v:= .agg [.own 5,.own 8]) ac rfl) ?_
 refine aH.seq (by kernel_rfl) (by kernel_rfl) ?_
 refine ckn ac 1 ⟨10,[(2,.ref 2 0)],[(2,.box [.own 5,.own 8]),(5,.deep 91 5 x1.length [.flat,.flat,.flat,.flat,(.sl 169 5 [.flat,.flat,.flat,.flat,.flat])] (x1.map ad)),(8,oa 85 4 aj x2)]⟩ ?_
 refine cH (Le.tp 5 3000000) ?_
 refine cH (Le.tp 8 3000001) ?_
 refine ah ?_
 obtain rfl:=inj h
 exact mO (fw ac)
theorem Az:bg Tryz.prog 41:=az Tryz.func41 (by kernel_rfl) rfl
noncomputable def gz(aN:Name)(c0:ByteArray)(c1:Int):Option (Bool):=
 ((((dd aN c0).bind fun x1=>(bif x1 then((bI aN.Years c1).bind fun x2=>some x2)else some false))).bind fun(j3:Bool)=>some j3)
theorem m4(aN:Name)(c0:ByteArray)(c1:Int)(r:Bool)(h:gz aN c0 c1=some r):aR Tryz.prog 213 [.v (.agg (tc ao aN)),.v (.ptr [vs c0] 0),.v (.ptr [vi c1] 0)] ⟨[.v (vb r)],[],false⟩:=by
 refine au Tryz.func213 rfl [(.tmp 4)] rfl (fun r=>⟨[.v (vb r)],[],false⟩) (r:=r) ?_
 unfold gz at h
 refine aJ ac [1,2,3] [3] ?_
 refine ae ?_
 refine bn h (fun j3=>⟨14,[(4,vb j3)],[]⟩) (fun v4 h=> ?_) (fun j3 h=> ?_)
 refine aa.cl ac 2 [2,3,5,6] [3] ?_
 obtain⟨x1,hx1,h⟩:=bind_some h
 refine aa.ls (xc yt (iq aN c0 _ hx1)) ?_
 refine aa.cl ac 1 [2,3,8] [3] ?_
 refine aa.cu [(8,fun b=>b)] h (fun h=> ?_) fun h=> ?_
 refine aa.cl ac 3 [8,10,11] [] ?_
 obtain⟨x2,hx2,h⟩:=bind_some h
 refine aa.ls (xc lO (cw aN.Years c1 _ hx2)) ?_
 refine aa.cl ac 2 [4] [] ?_
 refine aa.nil ?_
 obtain rfl:=inj h
 exact Le.an
 refine aa.cl ac 6 [4] [] ?_
 refine aa.nil ?_
 obtain rfl:=inj h
 exact Le.an
 refine ah ?_
 obtain rfl:=inj h
 exact aO (f1 fv)
theorem C0:bg Tryz.prog 213:=az Tryz.func213 (by kernel_rfl) rfl
noncomputable def cb(aS:(List Name))(cW:ByteArray)(aF1:Int):Option (Int):=
 (((dt (aS.length:Int) (fun(i3:Int) (_:Unit)=>((at' aS i3).bind fun x7=>((gz x7 cW aF1).bind fun x8=>(bif x8 then some (.inr (.inr i3))else some (.inl ()))))) (fun(_:Unit)=> .inl ()) 0 ())).bind (Sum.elim (fun(_:Unit)=>some (-1)) some))
theorem fJ(aS:(List Name))(cW:ByteArray)(aF1:Int)(r:Int)(h:cb aS cW aF1=some r):aR Tryz.prog 197 [.v (vl ao aS),.v (.clo 213 [.ptr [vs cW] 0,.ptr [vi aF1] 0])] ⟨[.v (vi r)],[],false⟩:=by
 refine au Tryz.func197 rfl [(.tmp 4)] rfl (fun r=>⟨[.v (vi r)],[],false⟩) (r:=r) ?_
 unfold cb at h
 refine aJ ac [0,1] [] ?_
 refine ae ?_
 refine aJ ac [0,1,7,8] [] ?_
 refine bp (r:=r) h (fun j1=>⟨19,[],[]⟩) (fun v2 h=> ?_) (fun j1 h=> ?_)
 refine ax (a:=v2) ?_
 refine bc (r:=v2) (s:=(0,())) _ (fun s3=>⟨19,[(0,vl ao aS),(1,.clo 213 [.ptr [vs cW] 0,.ptr [vi aF1] 0]),(7,vi (aS.length:Int)),(8,vi s3.1)],[]⟩) _ (Le.an) h (fun s3 v4 h=> ?_)
 refine aJ ac [0,1,7,8,9] [] ?_
 refine ae ?_
 refine aq h (fun h=> ?_) fun h=> ?_
 refine ai ?_
 refine bq ?_
 refine ae ?_
 refine bD (r:=v4) h (fun j5=>⟨19,[(0,vl ao aS),(1,.clo 213 [.ptr [vs cW] 0,.ptr [vi aF1] 0]),(7,vi (aS.length:Int)),(8,vi s3.1)],[]⟩) (fun v6 h=> ?_) (fun j5 h=> ?_)
 refine ax (a:=v6) ?_
 refine aJ ac [0,1,5,7,8] [] ?_
 refine sr ?_
 refine aa.cl ac 3 [0,1,5,7,8,11,12,13] [] ?_
 obtain⟨x7,hx7,h⟩:=bind_some h
 refine aa.ls (aY (L:=aS) (f:=ao) (ti:=eb) (tj:=dg) (e:=169) (k:= .i64) ac rfl hx7) ?_
 refine aa.cl ac 1 [0,1,5,7,8,11,15] [] ?_
 obtain⟨x8,hx8,h⟩:=bind_some h
 refine aa.ls (xc C0 (m4 x7 cW aF1 _ hx8)) ?_
 refine aa.nx ?_
 refine aq h (fun h=> ?_) fun h=> ?_
 refine aJ ac [4] [] ?_
 refine ah ?_
 obtain rfl:=inj h
 exact bE (bo (bo (bE (bo (aO (f1 fv))))))
 refine ai ?_
 obtain rfl:=inj h
 exact bt (cn (Le.an))
 refine aD ?_
 refine aa.cl ac 2 [0,1,7,8] [] ?_
 refine aa.nil ?_
 obtain rfl:=inj h
 exact cn (Le.an)
 refine a6 ?_
 obtain rfl:=inj h
 exact cE (cG (cF (cn (Le.an))))
 refine aJ ac [4] [] ?_
 refine ah ?_
 obtain rfl:=inj h
 exact aO (f1 fv)
noncomputable def gf(af:(List Name))(bj:ByteArray)(ap:Int):Option (Int×Int):=
 ((((((gp af).bind fun x3=>(bif(!x3)then some true else((dY bj).bind fun x4=>some (!x4))))).bind fun(j5:Bool)=>(bif j5 then some (.inr (0,1))else((eQ ap).bind fun x7=>(bif(!x7)then some (.inr (0,2))else some (.inl ())))))).bind (Sum.elim (fun(_:Unit)=>((cb af bj ap).bind fun x8=>(bif(decide (x8<0))then some (0,4)else some (x8,0)))) some))
theorem oe(af:(List Name))(bj:ByteArray)(ap:Int)(r:Int×Int)(h:gf af bj ap=some r):aR Tryz.prog 184 [.v (vl ao af),.v (vs bj),.v (vi ap)] ⟨[.v (vi r.1),.v (vi r.2)],[],false⟩:=by
 refine au Tryz.func184 rfl [(.tmp 6),(.tmp 7)] rfl (fun r=>⟨[.v (vi r.1),.v (vi r.2)],[],false⟩) (r:=r) ?_
 unfold gf at h
 refine aJ ac [0,4,5] [4,5] ?_
 refine ae ?_
 refine bp (r:=r) h (fun j1=>⟨28,[(0,vl ao af),(4,.ref 4 0),(5,.ref 5 0)],[(4,.box [vs bj]),(5,.box [vi ap])]⟩) (fun v2 h=> ?_) (fun j1 h=> ?_)
 refine ax (a:=v2) ?_
 refine ae ?_
 refine bn h (fun j5=>⟨28,[(0,vl ao af),(4,.ref 4 0),(5,.ref 5 0),(9,vb j5)],[(4,.box [vs bj]),(5,.box [vi ap])]⟩) (fun v6 h=> ?_) (fun j5 h=> ?_)
 refine aa.cl ac 1 [0,4,5,10] [4,5] ?_
 obtain⟨x3,hx3,h⟩:=bind_some h
 refine aa.ls (xc yk (lA af _ hx3)) ?_
 refine aa.cl ac 2 [0,4,5,13] [4,5] ?_
 refine aa.cu [(13,fun b=>b)] h (fun h=> ?_) fun h=> ?_
 refine aa.cl ac 5 [0,4,5,9] [4,5] ?_
 refine aa.nil ?_
 obtain rfl:=inj h
 exact Le.an
 refine aa.cl ac 1 [0,4,5,13,14] [4,5] ?_
 obtain⟨x4,hx4,h⟩:=bind_some h
 refine aa.ls (xc xf (il bj _ hx4)) ?_
 refine aa.cl ac 3 [0,4,5,9] [4,5] ?_
 refine aa.nil ?_
 obtain rfl:=inj h
 exact Le.an
 refine aq h (fun h=> ?_) fun h=> ?_
 refine aJ ac [6,7] [] ?_
 refine ah ?_
 obtain rfl:=inj h
 exact bE (bo (aO (f2 fv fv)))
 refine sr ?_
 refine aa.cl ac 1 [0,4,5,19] [4,5] ?_
 obtain⟨x7,hx7,h⟩:=bind_some h
 refine aa.ls (xc ry (iL ap _ hx7)) ?_
 refine bO ac 2 [0,4,5,18] [4,5] ?_
 refine aq h (fun h=> ?_) fun h=> ?_
 refine kM ac ⟨28,[(6,vi 0),(7,vi 2)],[]⟩ ?_
 refine ah ?_
 obtain rfl:=inj h
 exact bE (bo (aO (f2 fv fv)))
 refine ai ?_
 obtain rfl:=inj h
 exact bt (cn (Le.an))
 refine sr ?_
 refine aa.cl ac 2 [22,23] [4,5] ?_
 obtain⟨x8,hx8,h⟩:=bind_some h
 refine aa.ls (xc uy (fJ af bj ap _ hx8)) ?_
 refine bO ac 1 [8] [] ?_
 refine ae ?_
 refine aJ ac [8,26] [] ?_
 refine aq h (fun h=> ?_) fun h=> ?_
 refine aJ ac [6,7] [] ?_
 refine ah ?_
 obtain rfl:=inj h
 exact cY (aO (f2 fv fv))
 refine ai ?_
 refine bq ?_
 refine aJ ac [6,7] [] ?_
 refine ah ?_
 obtain rfl:=inj h
 exact aO (f2 fv fv)
theorem CM:bg Tryz.prog 184:=az Tryz.func184 (by kernel_rfl) rfl
theorem mP(L:List Name)(i j:Int)(r:List Name)(h:eD L i j=some r):kQ Tryz.prog 214 [.own 3000000,vi i,vi j] [(3000000,oa 169 5 ao L)] [(3000000,oa 169 5 ao r)] [.own 3000000]:=Ap bQ L i j r h
theorem C1:bg Tryz.prog 214:=az Tryz.func214 (by kernel_rfl) rfl
noncomputable def jj(af:(List Name))(aI:Int)(ap:Int)(dK:ByteArray):Option ((List Name)):=
 ((dW af).bind fun x1=>((at' x1 aI).bind fun x2=>((at' x1 aI).bind fun x3=>((at' x1 aI).bind fun x4=>((at' (List.set x1 (Int.toNat aI) (Name.mk x4.Text x4.Language x4.Status (Span.mk x4.Years.From (bF (ap - 1))))) aI).bind fun x5=>(((bif(x5.Years.From==ap)then((eD (List.set x1 (Int.toNat aI) (Name.mk x4.Text x4.Language x4.Status (Span.mk x4.Years.From (bF (ap - 1))))) aI (bF (aI+1))).bind fun x8=>some x8)else some (List.set x1 (Int.toNat aI) (Name.mk x4.Text x4.Language x4.Status (Span.mk x4.Years.From (bF (ap - 1))))))).bind fun(j6:(List Name))=>((c4 j6 ([(Name.mk dK x2.Language 0 (Span.mk ap x3.Years.To))]:List Name)).bind fun x9=>some x9)))))))
theorem p8(af:(List Name))(aI:Int)(ap:Int)(dK:ByteArray)(r:(List Name))(h:jj af aI ap dK=some r):aR Tryz.prog 185 [.v (vl ao af),.v (vi aI),.v (vi ap),.v (vs dK)] ⟨[.own 169 5 r.length (r.map ao)],[],false⟩:=by
 refine au Tryz.func185 rfl [(.tmp 8)] rfl (fun r=>⟨[.own 169 5 r.length (r.map ao)],[],false⟩) (r:=r) ?_
 unfold jj at h
 refine aJ ac [0,1,2,3] [] ?_
 refine sr ?_
 refine aa.cl ac 1 [1,2,3,11] [] ?_
 obtain⟨x1,hx1,h⟩:=bind_some h
 refine aa.ls (xc yq (jM af _ hx1)) ?_
 refine bO ac 1 [1,2,3,9] [12] ?_
 refine ae ?_
 refine cV mixed ?_
 refine aH.cl ac false 3 [1,2,9,13,14,15] [12] ?_
 obtain⟨x2,hx2,h⟩:=bind_some h
 refine aH.step (bw (d:=12) (L:=x1) (f:=ao) (ti:=eb) (tj:=dg) (e:=169) (e':=169) (m:=5) (k:= .i64) ac rfl hx2) ?_
 refine aH.cl ac false 1 [1,2,9,13,17] [12] ?_
 refine aH.step (bN (d:=12) (m:=5) (j:=1) (L:=x1) (f:=ao) (ti:=et) (e:=169) (v:=vs x2.Language) ac rfl hx2) ?_
 refine aH.cl ac false 3 [1,2,9,13,18,19,20,21] [12] ?_
 obtain⟨x3,hx3,h⟩:=bind_some h
 refine aH.step (bw (d:=12) (L:=x1) (f:=ao) (ti:=eb) (tj:=dg) (e:=169) (e':=169) (m:=5) (k:= .i64) ac rfl hx3) ?_
 refine aH.cl ac false 2 [1,2,9,13,18,19,24] [12] ?_
 refine aH.step (bN (d:=12) (m:=5) (j:=4) (L:=x1) (f:=ao) (ti:=ti2) (e:=169) (v:=vi x3.Years.To) ac rfl hx3) ?_
 refine aH.step (aZ (v:= .agg [vi ap,vi x3.Years.To]) ac rfl) ?_
 refine aH.step (aZ (v:= .agg [vs dK,vs x2.Language,vi 0,vi ap,vi x3.Years.To]) ac rfl) ?_
 refine aH.cl ac false 1 [1,2,9,10,27] [10,12] ?_
 refine aH.seq (by kernel_rfl) (by kernel_rfl) ?_
 refine ckn ac 1 ⟨52,[(1,vi aI),(2,vi ap),(9,.own 12),(10,.ref 10 0)],[(10,.box [vs dK,vs x2.Language,vi 0,vi ap,vi x3.Years.To]),(12,oa 169 5 ao x1)]⟩ ?_
 refine sr ?_
 refine aa.cl ac 4 [1,2,9,10,28,29,31] [10,12] ?_
 obtain⟨x4,hx4,h⟩:=bind_some h
 refine aa.ls (bw (d:=12) (L:=x1) (f:=ao) (ti:=eb) (tj:=dg) (e:=169) (e':=169) (m:=5) (k:= .i64) ac rfl hx4) ?_
 refine aa.cl ac 2 [1,2,9,10,31,34] [10,12] ?_
 refine aa.a7 (nK (d:=12) (m:=5) (j:=4) (L:=x1) (f:=ao) (x:=(Name.mk x4.Text x4.Language x4.Status (Span.mk x4.Years.From (bF (ap - 1))))) (z:=x4) (ti:=ti2) (e:=169) (ts:=[.int .i64 (bF (ap - 1))]) (vs:=[vi (bF (ap - 1))]) (v:=vi (bF (ap - 1))) ac rfl rfl hx4) ?_
 refine aa.nx ?_
 refine ae ?_
 refine sr ?_
 refine aa.cl ac 2 [1,2,9,10,35,36] [10,12] ?_
 obtain⟨x5,hx5,h⟩:=bind_some h
 refine aa.ls (bw (d:=12) (L:=(List.set x1 (Int.toNat aI) (Name.mk x4.Text x4.Language x4.Status (Span.mk x4.Years.From (bF (ap - 1)))))) (f:=ao) (ti:=eb) (tj:=dg) (e:=169) (e':=169) (m:=5) (k:= .i64) ac rfl hx5) ?_
 refine aa.cl ac 2 [1,2,9,10,39] [10,12] ?_
 refine aa.ls (bN (d:=12) (m:=5) (j:=3) (L:=(List.set x1 (Int.toNat aI) (Name.mk x4.Text x4.Language x4.Status (Span.mk x4.Years.From (bF (ap - 1)))))) (f:=ao) (ti:=ti2) (e:=169) (v:=vi x5.Years.From) ac rfl hx5) ?_
 refine bO ac 2 [1,9,10,42] [10,12] ?_
 refine aU h (fun j6=>⟨52,[(9,.own 9),(10,.ref 10 0)],[(10,.box [vs dK,vs x2.Language,vi 0,vi ap,vi x3.Years.To]),(9,oa 169 5 ao j6)]⟩) (fun v7 h=> ?_) (fun j6 h=> ?_)
 refine aq h (fun h=> ?_) fun h=> ?_
 refine aD ?_
 refine aa.ck ac 4 ⟨52,[(10,.ref 10 0),(43,.own 12),(44,vi aI),(46,vi (bF (aI+1)))],[(10,.box [vs dK,vs x2.Language,vi 0,vi ap,vi x3.Years.To]),(12,oa 169 5 ao (List.set x1 (Int.toNat aI) (Name.mk x4.Text x4.Language x4.Status (Span.mk x4.Years.From (bF (ap - 1))))))]⟩ ?_
 obtain⟨x8,hx8,h⟩:=bind_some h
 refine aa.a7 (x_w [(3000000,12)] [false,true,true] C1 (mP (List.set x1 (Int.toNat aI) (Name.mk x4.Text x4.Language x4.Status (Span.mk x4.Years.From (bF (ap - 1))))) aI (bF (aI+1)) _ hx8)) ?_
 refine aa.cl ac 1 [9,10] [10,12] ?_
 refine aa.nil ?_
 obtain rfl:=inj h
 exact cI (Le.rr [10,12] [(12,9)])
 refine ai ?_
 obtain rfl:=inj h
 exact cI (Le.rr [10,12] [(12,9)])
 refine sr ?_
 refine aa.cl ac 3 [48,50] [9,50] ?_
 obtain⟨x9,hx9,h⟩:=bind_some h
 refine aa.a7 (bh (f:=ao) (t:=89) (ti:=eb) (tj:=dg) (zs:=[.string (ByteArray.mk #[]),.string (ByteArray.mk #[]),.int .i64 0,.int .i64 0,.int .i64 0]) (e:=169) (m:=5) (d:=9) (xv:= .own 50) hx9 ac rfl rfl rfl rfl (bT (e:=169))) ?_
 refine bO ac 1 [8] [51] ?_
 refine ah ?_
 obtain rfl:=inj h
 exact aO (f1 (fo bQ))
theorem CN:bg Tryz.prog 185:=az Tryz.func185 (by kernel_rfl) rfl
noncomputable def ir(af:(List Name))(bj:ByteArray)(ap:Int)(dK:ByteArray):Option ((List Name)×Int):=
 ((fa dK).bind fun x1=>(bif(!x1)then some (([]:List Name),1)else((gf af bj ap).bind fun x2=>(bif(x2.2 !=0)then some (([]:List Name),x2.2)else((jj af x2.1 ap dK).bind fun x3=>(bif(decide ((x3.length:Int)>12))then some (([]:List Name),3)else some (x3,0)))))))
theorem pg(af:(List Name))(bj:ByteArray)(ap:Int)(dK:ByteArray)(r:(List Name)×Int)(h:ir af bj ap dK=some r):aR Tryz.prog 141 [.v (vl ao af),.v (vs bj),.v (vi ap),.v (vs dK)] ⟨[.own 169 5 r.1.length (r.1.map ao),.v (vi r.2)],[],false⟩:=by
 refine au Tryz.func141 rfl [(.tmp 8),(.tmp 9)] rfl (fun r=>⟨[.own 169 5 r.1.length (r.1.map ao),.v (vi r.2)],[],false⟩) (r:=r) ?_
 unfold ir at h
 refine aJ ac [0,1,2,3] [] ?_
 refine ae ?_
 refine sr ?_
 refine aa.cl ac 1 [0,1,2,3,13] [] ?_
 obtain⟨x1,hx1,h⟩:=bind_some h
 refine aa.ls (xc xg (jc dK _ hx1)) ?_
 refine bO ac 1 [0,1,2,3,15] [] ?_
 refine aq h (fun h=> ?_) fun h=> ?_
 refine aJ ac [8,9] [8] ?_
 refine ah ?_
 obtain rfl:=inj h
 exact cY (aO (f2 (fo bQ) fv))
 refine ai ?_
 refine bq ?_
 refine sr ?_
 refine aa.cl ac 3 [0,2,3,17,18,19] [] ?_
 obtain⟨x2,hx2,h⟩:=bind_some h
 refine aa.ls (xc CM (oe af bj ap _ hx2)) ?_
 refine bO ac 5 [0,2,3,10,11] [] ?_
 refine ae ?_
 refine aJ ac [0,2,3,10,11,24] [] ?_
 refine aq h (fun h=> ?_) fun h=> ?_
 refine aJ ac [8,9] [8] ?_
 refine ah ?_
 obtain rfl:=inj h
 exact cY (aO (f2 (fo bQ) fv))
 refine ai ?_
 refine bq ?_
 refine sr ?_
 refine aa.ck ac 4 ⟨35,[(26,vl ao af),(27,vi x2.1),(28,vi ap),(29,vs dK)],[]⟩ ?_
 obtain⟨x3,hx3,h⟩:=bind_some h
 refine aa.ls (xc CN (p8 af x2.1 ap dK _ hx3)) ?_
 refine bO ac 1 [12] [30] ?_
 refine ae ?_
 refine aJ ac [12,33] [30] ?_
 refine aq h (fun h=> ?_) fun h=> ?_
 refine aJ ac [8,9] [8] ?_
 refine ah ?_
 obtain rfl:=inj h
 exact cY (aO (f2 (fo bQ) fv))
 refine ai ?_
 refine bq ?_
 refine aJ ac [8,9] [30] ?_
 refine ah ?_
 obtain rfl:=inj h
 exact aO (f2 (fo bQ) fv)
theorem Cr:bg Tryz.prog 141:=az Tryz.func141 (by kernel_rfl) rfl
noncomputable def dV(aW:World)(aC:Change):Option (Int×World):=
 ((cD aW.Places aC.Code).bind fun x1=>((at' aW.Places x1.1).bind fun x2=>((ir x2.Names aC.Language aC.Year aC.Text).bind fun x3=>(((bif(x3.2==0)then((at' aW.Places x1.1).bind fun x6=>some ((List.set aW.Places (Int.toNat x1.1) (Place.mk x6.Code x6.Class x6.Years x3.1)),aW.Links))else some (aW.Places,aW.Links))).bind fun(j4:(List Place)×(List ay))=>some (x3.2,(World.mk j4.1 j4.2))))))
theorem m0(aW:World)(aC:Change)(r:Int×World)(h:dV aW aC=some r):kQ Tryz.prog 90 [.ref 1000000 0,.agg (tc aF aC)] [(1000000,.box [.own 3000000,.own 3000001]),(3000000,.deep 91 5 aW.Places.length [.flat,.flat,.flat,.flat,(.sl 169 5 [.flat,.flat,.flat,.flat,.flat])] (aW.Places.map ad)),(3000001,oa 85 4 aj aW.Links)] [(1000000,.box [.own 3000000,.own 3000001]),(3000000,.deep 91 5 r.2.Places.length [.flat,.flat,.flat,.flat,(.sl 169 5 [.flat,.flat,.flat,.flat,.flat])] (r.2.Places.map ad)),(3000001,oa 85 4 aj r.2.Links)] [vi r.1]:=by
 refine kk Tryz.func90 rfl [(.tmp 4)] rfl (fun r=>[(1000000,.box [.own 3000000,.own 3000001]),(3000000,.deep 91 5 r.2.Places.length [.flat,.flat,.flat,.flat,(.sl 169 5 [.flat,.flat,.flat,.flat,.flat])] (r.2.Places.map ad)),(3000001,oa 85 4 aj r.2.Links)]) (fun r=>[vi r.1]) (r:=r) (c5 SV.ez (c5 trivial (c5 (cN dj _) lx))) ?_
 unfold dV at h
 refine aJ ac [0,3] [3,1000000,3000000,3000001] ?_
 refine ae ?_
 refine cV mixed ?_
 refine aH.cl ac false 6 [0,3,13,15] [3,1000000,3000000,3000001] ?_
 obtain⟨x1,hx1,h⟩:=bind_some h
 refine aH.step (xc o7 (eC aW.Places aC.Code _ hx1)) ?_
 refine aH.cl ac false 5 [0,3,5] [3,1000000,3000000,3000001] ?_
 refine aH.nx ?_
 refine ae ?_
 obtain⟨x2,hx2,h⟩:=bind_some h
 obtain⟨x3,hx3,h⟩:=bind_some h
 refine cV mixed ?_
 refine aH.za (σE:=⟨48,[(0,.ref 1000000 0),(5,vi x1.1),(7,.own 34),(8,vi x3.2)],[(34,oa 169 5 ao x3.1),(1000000,.box [.own 3000000,.own 3000001]),(3000000,.deep 91 5 aW.Places.length [.flat,.flat,.flat,.flat,(.sl 169 5 [.flat,.flat,.flat,.flat,.flat])] (aW.Places.map ad)),(3000001,oa 85 4 aj aW.Links)]⟩) (n:=20) (L0:=(bA 20 0)) (by kernel_rfl) (by kernel_rfl) (fun K hk=> ?_) ?_
 refine DE.sh 0 (bA 20 1048575) ⟨48,[(0,.ref 1000000 0),(5,vi x1.1),(7,.own 34),(8,vi x3.2)],[(34,oa 169 5 ao x3.1),(1000000,.box [.own 3000000,.own 3000001]),(3000000,.deep 91 5 aW.Places.length [.flat,.flat,.flat,.flat,(.sl 169 5 [.flat,.flat,.flat,.flat,.flat])] (aW.Places.map ad)),(3000001,oa 85 4 aj aW.Links)]⟩ ?_ fun d54=> ?_
 exact DE.done (by kernel_rfl) hk
 refine DE.sh 1 (bA 20 524287) ⟨48,[(0,.ref 1000000 0),(5,vi x1.1),(7,.own 34),(36,vi x3.2)],[(34,oa 169 5 ao x3.1),(1000000,.box [.own 3000000,.own 3000001]),(3000000,.deep 91 5 aW.Places.length [.flat,.flat,.flat,.flat,(.sl 169 5 [.flat,.flat,.flat,.flat,.flat])] (aW.Places.map ad)),(3000001,oa 85 4 aj aW.Links)]⟩ ?_ fun d53=> ?_
 exact DE.tk 19 d54 rfl (.inr rfl) (ar.n ac)
 refine DE.sh 2 (bA 20 262143) ⟨48,[(0,.ref 1000000 0),(5,vi x1.1),(35,.own 34),(36,vi x3.2)],[(34,oa 169 5 ao x3.1),(1000000,.box [.own 3000000,.own 3000001]),(3000000,.deep 91 5 aW.Places.length [.flat,.flat,.flat,.flat,(.sl 169 5 [.flat,.flat,.flat,.flat,.flat])] (aW.Places.map ad)),(3000001,oa 85 4 aj aW.Links)]⟩ ?_ fun d52=> ?_
 exact DE.tk 18 d53 rfl (.inr rfl) (ar.n ac)
 refine DE.sh 2 (bA 20 393215) ⟨48,[(0,.ref 1000000 0),(5,vi x1.1),(7,.own 34),(19,.tup [.own 34,vi x3.2])],[(34,oa 169 5 ao x3.1),(1000000,.box [.own 3000000,.own 3000001]),(3000000,.deep 91 5 aW.Places.length [.flat,.flat,.flat,.flat,(.sl 169 5 [.flat,.flat,.flat,.flat,.flat])] (aW.Places.map ad)),(3000001,oa 85 4 aj aW.Links)]⟩ ?_ fun d51=> ?_
 exact DE.a1 17 d53 rfl (ar.n ac)
 refine DE.sh 3 (bA 20 196607) ⟨48,[(0,.ref 1000000 0),(5,vi x1.1),(19,.tup [.own 34,vi x3.2]),(36,vi x3.2)],[(34,oa 169 5 ao x3.1),(1000000,.box [.own 3000000,.own 3000001]),(3000000,.deep 91 5 aW.Places.length [.flat,.flat,.flat,.flat,(.sl 169 5 [.flat,.flat,.flat,.flat,.flat])] (aW.Places.map ad)),(3000001,oa 85 4 aj aW.Links)]⟩ ?_ fun d50=> ?_
 exact DE.a1 16 d52 rfl (ar.n ac)
 refine DE.sh 3 (bA 20 131071) ⟨48,[(0,.ref 1000000 0),(5,vi x1.1),(19,.tup [.own 34,vi x3.2]),(35,.own 34)],[(34,oa 169 5 ao x3.1),(1000000,.box [.own 3000000,.own 3000001]),(3000000,.deep 91 5 aW.Places.length [.flat,.flat,.flat,.flat,(.sl 169 5 [.flat,.flat,.flat,.flat,.flat])] (aW.Places.map ad)),(3000001,oa 85 4 aj aW.Links)]⟩ ?_ fun d49=> ?_
 exact DE.tk 18 d51 rfl (.inr rfl) (ar.n ac)
 refine DE.sh 4 (bA 20 65535) ⟨48,[(0,.ref 1000000 0),(5,vi x1.1),(19,.tup [.own 34,vi x3.2])],[(34,oa 169 5 ao x3.1),(1000000,.box [.own 3000000,.own 3000001]),(3000000,.deep 91 5 aW.Places.length [.flat,.flat,.flat,.flat,(.sl 169 5 [.flat,.flat,.flat,.flat,.flat])] (aW.Places.map ad)),(3000001,oa 85 4 aj aW.Links)]⟩ ?_ fun d48=> ?_
 exact DE.al (.c 16 d49 rfl (ar.n ac) (.c 17 d50 rfl (ar.n ac) .n))
 refine DE.sh 5 (bA 20 32767) ⟨48,[(0,.ref 1000000 0),(5,vi x1.1),(34,.tup [.own 34,vi x3.2])],[(34,oa 169 5 ao x3.1),(1000000,.box [.own 3000000,.own 3000001]),(3000000,.deep 91 5 aW.Places.length [.flat,.flat,.flat,.flat,(.sl 169 5 [.flat,.flat,.flat,.flat,.flat])] (aW.Places.map ad)),(3000001,oa 85 4 aj aW.Links)]⟩ ?_ fun d47=> ?_
 exact DE.tk 15 d48 rfl (.inl rfl) (ar.n ac)
 refine DE.sh 6 (bA 20 16383) ⟨48,[(0,.ref 1000000 0),(5,vi x1.1),(27,.own 3001027),(29,vs aC.Language),(31,vi aC.Year),(33,vs aC.Text)],[(1000000,.box [.own 3000000,.own 3000001]),(3000000,.hol 91 5 aW.Places.length [.flat,.flat,.flat,.flat,(.sl 169 5 [.flat,.flat,.flat,.flat,.flat])] (aW.Places.map ad) (Int.toNat x1.1) 4 3001027),(3000001,oa 85 4 aj aW.Links),(3001027,oa 169 5 ao x2.Names)]⟩ ?_ fun d46=> ?_
 exact DE.a1 14 d47 rfl (ar.le (ar.le (ar.ofL (xc Cr (pg x2.Names aC.Language aC.Year aC.Text _ hx3)) (by kernel_rfl)) (sY (L:=aW.Places) (f:=ad) (x:=x2) (d:=3000000) (k:=3001027) (e:=91) (m:=5) (j:=4) (e':=169) (m':=5) (n':=x2.Names.length) (ss:=[.flat,.flat,.flat,.flat,(.sl 169 5 [.flat,.flat,.flat,.flat,.flat])]) (ss':=[.flat,.flat,.flat,.flat,.flat]) (es':=x2.Names.map ao) hx2 (cN bQ _))) Le.an)
 refine DE.sh 7 (bA 20 16255) ⟨48,[(0,.ref 1000000 0),(5,vi x1.1),(26,.eref 3000000 5 (Int.toNat x1.1) 4),(29,vs aC.Language),(31,vi aC.Year),(33,vs aC.Text)],[(1000000,.box [.own 3000000,.own 3000001]),(3000000,.deep 91 5 aW.Places.length [.flat,.flat,.flat,.flat,(.sl 169 5 [.flat,.flat,.flat,.flat,.flat])] (aW.Places.map ad)),(3000001,oa 85 4 aj aW.Links)]⟩ ?_ fun d45=> ?_
 exact DE.a1 7 d46 rfl (ar.le (lL (L:=aW.Places) (f:=ad) (d:=3000000) (k:=3001027) (e:=91) (m:=5) (j:=4) (e':=169) (m':=5) (n':=x2.Names.length) (ss:=[.flat,.flat,.flat,.flat,(.sl 169 5 [.flat,.flat,.flat,.flat,.flat])]) (ss':=[.flat,.flat,.flat,.flat,.flat]) (es':=x2.Names.map ao) (ti:=eb) (y:=oa 169 5 ao x2.Names) hx2 ac rfl rfl (.inr ⟨rfl,rfl⟩)) Le.an)
 refine DE.sh 7 (bA 20 15871) ⟨48,[(0,.ref 1000000 0),(5,vi x1.1),(27,.own 3001027),(28,.ref 3 4),(31,vi aC.Year),(33,vs aC.Text)],[(3,.box (tc aF aC)),(1000000,.box [.own 3000000,.own 3000001]),(3000000,.hol 91 5 aW.Places.length [.flat,.flat,.flat,.flat,(.sl 169 5 [.flat,.flat,.flat,.flat,.flat])] (aW.Places.map ad) (Int.toNat x1.1) 4 3001027),(3000001,oa 85 4 aj aW.Links),(3001027,oa 169 5 ao x2.Names)]⟩ ?_ fun d44=> ?_
 exact DE.a1 9 d46 rfl (ar.n ac)
 refine DE.sh 7 (bA 20 14335) ⟨48,[(0,.ref 1000000 0),(5,vi x1.1),(27,.own 3001027),(29,vs aC.Language),(30,.ref 3 0),(33,vs aC.Text)],[(3,.box (tc aF aC)),(1000000,.box [.own 3000000,.own 3000001]),(3000000,.hol 91 5 aW.Places.length [.flat,.flat,.flat,.flat,(.sl 169 5 [.flat,.flat,.flat,.flat,.flat])] (aW.Places.map ad) (Int.toNat x1.1) 4 3001027),(3000001,oa 85 4 aj aW.Links),(3001027,oa 169 5 ao x2.Names)]⟩ ?_ fun d43=> ?_
 exact DE.a1 11 d46 rfl (ar.n ac)
 refine DE.sh 7 (bA 20 8191) ⟨48,[(0,.ref 1000000 0),(5,vi x1.1),(27,.own 3001027),(29,vs aC.Language),(31,vi aC.Year),(32,.ref 3 5)],[(3,.box (tc aF aC)),(1000000,.box [.own 3000000,.own 3000001]),(3000000,.hol 91 5 aW.Places.length [.flat,.flat,.flat,.flat,(.sl 169 5 [.flat,.flat,.flat,.flat,.flat])] (aW.Places.map ad) (Int.toNat x1.1) 4 3001027),(3000001,oa 85 4 aj aW.Links),(3001027,oa 169 5 ao x2.Names)]⟩ ?_ fun d42=> ?_
 exact DE.a1 13 d46 rfl (ar.n ac)
 refine DE.sh 8 (bA 20 16191) ⟨48,[(0,.ref 1000000 0),(5,vi x1.1),(25,.eref 3000000 5 (Int.toNat x1.1) 0),(29,vs aC.Language),(31,vi aC.Year),(33,vs aC.Text)],[(1000000,.box [.own 3000000,.own 3000001]),(3000000,.deep 91 5 aW.Places.length [.flat,.flat,.flat,.flat,(.sl 169 5 [.flat,.flat,.flat,.flat,.flat])] (aW.Places.map ad)),(3000001,oa 85 4 aj aW.Links)]⟩ ?_ fun d41=> ?_
 exact DE.tw ac 6 d45 rfl (ar.n ac)
 refine DE.sh 8 (bA 20 15743) ⟨48,[(0,.ref 1000000 0),(5,vi x1.1),(26,.eref 3000000 5 (Int.toNat x1.1) 4),(28,.ref 3 4),(31,vi aC.Year),(33,vs aC.Text)],[(3,.box (tc aF aC)),(1000000,.box [.own 3000000,.own 3000001]),(3000000,.deep 91 5 aW.Places.length [.flat,.flat,.flat,.flat,(.sl 169 5 [.flat,.flat,.flat,.flat,.flat])] (aW.Places.map ad)),(3000001,oa 85 4 aj aW.Links)]⟩ ?_ fun d40=> ?_
 exact DE.al (.c 7 d44 rfl (ar.le (lL (L:=aW.Places) (f:=ad) (d:=3000000) (k:=3001027) (e:=91) (m:=5) (j:=4) (e':=169) (m':=5) (n':=x2.Names.length) (ss:=[.flat,.flat,.flat,.flat,(.sl 169 5 [.flat,.flat,.flat,.flat,.flat])]) (ss':=[.flat,.flat,.flat,.flat,.flat]) (es':=x2.Names.map ao) (ti:=eb) (y:=oa 169 5 ao x2.Names) hx2 ac rfl rfl (.inr ⟨rfl,rfl⟩)) Le.an) (.c 9 d45 rfl (ar.n ac) .n))
 refine DE.sh 8 (bA 20 14207) ⟨48,[(0,.ref 1000000 0),(5,vi x1.1),(26,.eref 3000000 5 (Int.toNat x1.1) 4),(29,vs aC.Language),(30,.ref 3 0),(33,vs aC.Text)],[(3,.box (tc aF aC)),(1000000,.box [.own 3000000,.own 3000001]),(3000000,.deep 91 5 aW.Places.length [.flat,.flat,.flat,.flat,(.sl 169 5 [.flat,.flat,.flat,.flat,.flat])] (aW.Places.map ad)),(3000001,oa 85 4 aj aW.Links)]⟩ ?_ fun d39=> ?_
 exact DE.al (.c 7 d43 rfl (ar.le (lL (L:=aW.Places) (f:=ad) (d:=3000000) (k:=3001027) (e:=91) (m:=5) (j:=4) (e':=169) (m':=5) (n':=x2.Names.length) (ss:=[.flat,.flat,.flat,.flat,(.sl 169 5 [.flat,.flat,.flat,.flat,.flat])]) (ss':=[.flat,.flat,.flat,.flat,.flat]) (es':=x2.Names.map ao) (ti:=eb) (y:=oa 169 5 ao x2.Names) hx2 ac rfl rfl (.inr ⟨rfl,rfl⟩)) Le.an) (.c 11 d45 rfl (ar.n ac) .n))
 refine DE.sh 8 (bA 20 8063) ⟨48,[(0,.ref 1000000 0),(5,vi x1.1),(26,.eref 3000000 5 (Int.toNat x1.1) 4),(29,vs aC.Language),(31,vi aC.Year),(32,.ref 3 5)],[(3,.box (tc aF aC)),(1000000,.box [.own 3000000,.own 3000001]),(3000000,.deep 91 5 aW.Places.length [.flat,.flat,.flat,.flat,(.sl 169 5 [.flat,.flat,.flat,.flat,.flat])] (aW.Places.map ad)),(3000001,oa 85 4 aj aW.Links)]⟩ ?_ fun d38=> ?_
 exact DE.al (.c 7 d42 rfl (ar.le (lL (L:=aW.Places) (f:=ad) (d:=3000000) (k:=3001027) (e:=91) (m:=5) (j:=4) (e':=169) (m':=5) (n':=x2.Names.length) (ss:=[.flat,.flat,.flat,.flat,(.sl 169 5 [.flat,.flat,.flat,.flat,.flat])]) (ss':=[.flat,.flat,.flat,.flat,.flat]) (es':=x2.Names.map ao) (ti:=eb) (y:=oa 169 5 ao x2.Names) hx2 ac rfl rfl (.inr ⟨rfl,rfl⟩)) Le.an) (.c 13 d45 rfl (ar.n ac) .n))
 refine DE.sh 8 (bA 20 13823) ⟨48,[(0,.ref 1000000 0),(5,vi x1.1),(27,.own 3001027),(28,.ref 3 4),(30,.ref 3 0),(33,vs aC.Text)],[(3,.box (tc aF aC)),(1000000,.box [.own 3000000,.own 3000001]),(3000000,.hol 91 5 aW.Places.length [.flat,.flat,.flat,.flat,(.sl 169 5 [.flat,.flat,.flat,.flat,.flat])] (aW.Places.map ad) (Int.toNat x1.1) 4 3001027),(3000001,oa 85 4 aj aW.Links),(3001027,oa 169 5 ao x2.Names)]⟩ ?_ fun d37=> ?_
 exact DE.al (.c 9 d43 rfl (ar.n ac) (.c 11 d44 rfl (ar.n ac) .n))
 refine DE.sh 8 (bA 20 7679) ⟨48,[(0,.ref 1000000 0),(5,vi x1.1),(27,.own 3001027),(28,.ref 3 4),(31,vi aC.Year),(32,.ref 3 5)],[(3,.box (tc aF aC)),(1000000,.box [.own 3000000,.own 3000001]),(3000000,.hol 91 5 aW.Places.length [.flat,.flat,.flat,.flat,(.sl 169 5 [.flat,.flat,.flat,.flat,.flat])] (aW.Places.map ad) (Int.toNat x1.1) 4 3001027),(3000001,oa 85 4 aj aW.Links),(3001027,oa 169 5 ao x2.Names)]⟩ ?_ fun d36=> ?_
 exact DE.al (.c 9 d42 rfl (ar.n ac) (.c 13 d44 rfl (ar.n ac) .n))
 refine DE.sh 8 (bA 20 6143) ⟨48,[(0,.ref 1000000 0),(5,vi x1.1),(27,.own 3001027),(29,vs aC.Language),(30,.ref 3 0),(32,.ref 3 5)],[(3,.box (tc aF aC)),(1000000,.box [.own 3000000,.own 3000001]),(3000000,.hol 91 5 aW.Places.length [.flat,.flat,.flat,.flat,(.sl 169 5 [.flat,.flat,.flat,.flat,.flat])] (aW.Places.map ad) (Int.toNat x1.1) 4 3001027),(3000001,oa 85 4 aj aW.Links),(3001027,oa 169 5 ao x2.Names)]⟩ ?_ fun d35=> ?_
 exact DE.al (.c 11 d42 rfl (ar.n ac) (.c 13 d43 rfl (ar.n ac) .n))
 refine DE.sh 9 (bA 20 15679) ⟨48,[(0,.ref 1000000 0),(5,vi x1.1),(25,.eref 3000000 5 (Int.toNat x1.1) 0),(28,.ref 3 4),(31,vi aC.Year),(33,vs aC.Text)],[(3,.box (tc aF aC)),(1000000,.box [.own 3000000,.own 3000001]),(3000000,.deep 91 5 aW.Places.length [.flat,.flat,.flat,.flat,(.sl 169 5 [.flat,.flat,.flat,.flat,.flat])] (aW.Places.map ad)),(3000001,oa 85 4 aj aW.Links)]⟩ ?_ fun d34=> ?_
 exact DE.tw ac 6 d40 rfl (ar.n ac)
 refine DE.sh 9 (bA 20 14143) ⟨48,[(0,.ref 1000000 0),(5,vi x1.1),(25,.eref 3000000 5 (Int.toNat x1.1) 0),(29,vs aC.Language),(30,.ref 3 0),(33,vs aC.Text)],[(3,.box (tc aF aC)),(1000000,.box [.own 3000000,.own 3000001]),(3000000,.deep 91 5 aW.Places.length [.flat,.flat,.flat,.flat,(.sl 169 5 [.flat,.flat,.flat,.flat,.flat])] (aW.Places.map ad)),(3000001,oa 85 4 aj aW.Links)]⟩ ?_ fun d33=> ?_
 exact DE.tw ac 6 d39 rfl (ar.n ac)
 refine DE.sh 9 (bA 20 16159) ⟨48,[(0,.ref 1000000 0),(5,vi x1.1),(23,.own 3000000),(24,vi x1.1),(29,vs aC.Language),(31,vi aC.Year),(33,vs aC.Text)],[(1000000,.box [.own 3000000,.own 3000001]),(3000000,.deep 91 5 aW.Places.length [.flat,.flat,.flat,.flat,(.sl 169 5 [.flat,.flat,.flat,.flat,.flat])] (aW.Places.map ad)),(3000001,oa 85 4 aj aW.Links)]⟩ ?_ fun d32=> ?_
 exact DE.a1 5 d41 rfl (ar.l (da (d:=3000000) (L:=aW.Places) (f:=ad) (ti:=bR) (tj:=bG) (e:=91) (e':=91) (m:=5) (k:= .i64) (ss:=[.flat,.flat,.flat,.flat,(.sl 169 5 [.flat,.flat,.flat,.flat,.flat])]) ac rfl hx2))
 refine DE.sh 9 (bA 20 7999) ⟨48,[(0,.ref 1000000 0),(5,vi x1.1),(25,.eref 3000000 5 (Int.toNat x1.1) 0),(29,vs aC.Language),(31,vi aC.Year),(32,.ref 3 5)],[(3,.box (tc aF aC)),(1000000,.box [.own 3000000,.own 3000001]),(3000000,.deep 91 5 aW.Places.length [.flat,.flat,.flat,.flat,(.sl 169 5 [.flat,.flat,.flat,.flat,.flat])] (aW.Places.map ad)),(3000001,oa 85 4 aj aW.Links)]⟩ ?_ fun d31=> ?_
 exact DE.tw ac 6 d38 rfl (ar.n ac)
 refine DE.sh 9 (bA 20 13695) ⟨48,[(0,.ref 1000000 0),(5,vi x1.1),(26,.eref 3000000 5 (Int.toNat x1.1) 4),(28,.ref 3 4),(30,.ref 3 0),(33,vs aC.Text)],[(3,.box (tc aF aC)),(1000000,.box [.own 3000000,.own 3000001]),(3000000,.deep 91 5 aW.Places.length [.flat,.flat,.flat,.flat,(.sl 169 5 [.flat,.flat,.flat,.flat,.flat])] (aW.Places.map ad)),(3000001,oa 85 4 aj aW.Links)]⟩ ?_ fun d30=> ?_
 exact DE.al (.c 7 d37 rfl (ar.le (lL (L:=aW.Places) (f:=ad) (d:=3000000) (k:=3001027) (e:=91) (m:=5) (j:=4) (e':=169) (m':=5) (n':=x2.Names.length) (ss:=[.flat,.flat,.flat,.flat,(.sl 169 5 [.flat,.flat,.flat,.flat,.flat])]) (ss':=[.flat,.flat,.flat,.flat,.flat]) (es':=x2.Names.map ao) (ti:=eb) (y:=oa 169 5 ao x2.Names) hx2 ac rfl rfl (.inr ⟨rfl,rfl⟩)) Le.an) (.c 9 d39 rfl (ar.n ac) (.c 11 d40 rfl (ar.n ac) .n)))
 refine DE.sh 9 (bA 20 7551) ⟨48,[(0,.ref 1000000 0),(5,vi x1.1),(26,.eref 3000000 5 (Int.toNat x1.1) 4),(28,.ref 3 4),(31,vi aC.Year),(32,.ref 3 5)],[(3,.box (tc aF aC)),(1000000,.box [.own 3000000,.own 3000001]),(3000000,.deep 91 5 aW.Places.length [.flat,.flat,.flat,.flat,(.sl 169 5 [.flat,.flat,.flat,.flat,.flat])] (aW.Places.map ad)),(3000001,oa 85 4 aj aW.Links)]⟩ ?_ fun d29=> ?_
 exact DE.al (.c 7 d36 rfl (ar.le (lL (L:=aW.Places) (f:=ad) (d:=3000000) (k:=3001027) (e:=91) (m:=5) (j:=4) (e':=169) (m':=5) (n':=x2.Names.length) (ss:=[.flat,.flat,.flat,.flat,(.sl 169 5 [.flat,.flat,.flat,.flat,.flat])]) (ss':=[.flat,.flat,.flat,.flat,.flat]) (es':=x2.Names.map ao) (ti:=eb) (y:=oa 169 5 ao x2.Names) hx2 ac rfl rfl (.inr ⟨rfl,rfl⟩)) Le.an) (.c 9 d38 rfl (ar.n ac) (.c 13 d40 rfl (ar.n ac) .n)))
 refine DE.sh 9 (bA 20 6015) ⟨48,[(0,.ref 1000000 0),(5,vi x1.1),(26,.eref 3000000 5 (Int.toNat x1.1) 4),(29,vs aC.Language),(30,.ref 3 0),(32,.ref 3 5)],[(3,.box (tc aF aC)),(1000000,.box [.own 3000000,.own 3000001]),(3000000,.deep 91 5 aW.Places.length [.flat,.flat,.flat,.flat,(.sl 169 5 [.flat,.flat,.flat,.flat,.flat])] (aW.Places.map ad)),(3000001,oa 85 4 aj aW.Links)]⟩ ?_ fun d28=> ?_
 exact DE.al (.c 7 d35 rfl (ar.le (lL (L:=aW.Places) (f:=ad) (d:=3000000) (k:=3001027) (e:=91) (m:=5) (j:=4) (e':=169) (m':=5) (n':=x2.Names.length) (ss:=[.flat,.flat,.flat,.flat,(.sl 169 5 [.flat,.flat,.flat,.flat,.flat])]) (ss':=[.flat,.flat,.flat,.flat,.flat]) (es':=x2.Names.map ao) (ti:=eb) (y:=oa 169 5 ao x2.Names) hx2 ac rfl rfl (.inr ⟨rfl,rfl⟩)) Le.an) (.c 11 d38 rfl (ar.n ac) (.c 13 d39 rfl (ar.n ac) .n)))
 refine DE.sh 9 (bA 20 5631) ⟨48,[(0,.ref 1000000 0),(5,vi x1.1),(27,.own 3001027),(28,.ref 3 4),(30,.ref 3 0),(32,.ref 3 5)],[(3,.box (tc aF aC)),(1000000,.box [.own 3000000,.own 3000001]),(3000000,.hol 91 5 aW.Places.length [.flat,.flat,.flat,.flat,(.sl 169 5 [.flat,.flat,.flat,.flat,.flat])] (aW.Places.map ad) (Int.toNat x1.1) 4 3001027),(3000001,oa 85 4 aj aW.Links),(3001027,oa 169 5 ao x2.Names)]⟩ ?_ fun d27=> ?_
 exact DE.al (.c 9 d35 rfl (ar.n ac) (.c 11 d36 rfl (ar.n ac) (.c 13 d37 rfl (ar.n ac) .n)))
 refine DE.sh 10 (bA 20 16151) ⟨48,[(0,.ref 1000000 0),(5,vi x1.1),(22,.ref 1000000 0),(24,vi x1.1),(29,vs aC.Language),(31,vi aC.Year),(33,vs aC.Text)],[(1000000,.box [.own 3000000,.own 3000001]),(3000000,.deep 91 5 aW.Places.length [.flat,.flat,.flat,.flat,(.sl 169 5 [.flat,.flat,.flat,.flat,.flat])] (aW.Places.map ad)),(3000001,oa 85 4 aj aW.Links)]⟩ ?_ fun d26=> ?_
 exact DE.a1 3 d32 rfl (ar.n ac)
 refine DE.sh 10 (bA 20 13631) ⟨48,[(0,.ref 1000000 0),(5,vi x1.1),(25,.eref 3000000 5 (Int.toNat x1.1) 0),(28,.ref 3 4),(30,.ref 3 0),(33,vs aC.Text)],[(3,.box (tc aF aC)),(1000000,.box [.own 3000000,.own 3000001]),(3000000,.deep 91 5 aW.Places.length [.flat,.flat,.flat,.flat,(.sl 169 5 [.flat,.flat,.flat,.flat,.flat])] (aW.Places.map ad)),(3000001,oa 85 4 aj aW.Links)]⟩ ?_ fun d25=> ?_
 exact DE.tw ac 6 d30 rfl (ar.n ac)
 refine DE.sh 10 (bA 20 15647) ⟨48,[(0,.ref 1000000 0),(5,vi x1.1),(23,.own 3000000),(24,vi x1.1),(28,.ref 3 4),(31,vi aC.Year),(33,vs aC.Text)],[(3,.box (tc aF aC)),(1000000,.box [.own 3000000,.own 3000001]),(3000000,.deep 91 5 aW.Places.length [.flat,.flat,.flat,.flat,(.sl 169 5 [.flat,.flat,.flat,.flat,.flat])] (aW.Places.map ad)),(3000001,oa 85 4 aj aW.Links)]⟩ ?_ fun d24=> ?_
 exact DE.al (.c 5 d34 rfl (ar.l (da (d:=3000000) (L:=aW.Places) (f:=ad) (ti:=bR) (tj:=bG) (e:=91) (e':=91) (m:=5) (k:= .i64) (ss:=[.flat,.flat,.flat,.flat,(.sl 169 5 [.flat,.flat,.flat,.flat,.flat])]) ac rfl hx2)) (.c 9 d32 rfl (ar.n ac) .n))
 refine DE.sh 10 (bA 20 7487) ⟨48,[(0,.ref 1000000 0),(5,vi x1.1),(25,.eref 3000000 5 (Int.toNat x1.1) 0),(28,.ref 3 4),(31,vi aC.Year),(32,.ref 3 5)],[(3,.box (tc aF aC)),(1000000,.box [.own 3000000,.own 3000001]),(3000000,.deep 91 5 aW.Places.length [.flat,.flat,.flat,.flat,(.sl 169 5 [.flat,.flat,.flat,.flat,.flat])] (aW.Places.map ad)),(3000001,oa 85 4 aj aW.Links)]⟩ ?_ fun d23=> ?_
 exact DE.tw ac 6 d29 rfl (ar.n ac)
 refine DE.sh 10 (bA 20 14111) ⟨48,[(0,.ref 1000000 0),(5,vi x1.1),(23,.own 3000000),(24,vi x1.1),(29,vs aC.Language),(30,.ref 3 0),(33,vs aC.Text)],[(3,.box (tc aF aC)),(1000000,.box [.own 3000000,.own 3000001]),(3000000,.deep 91 5 aW.Places.length [.flat,.flat,.flat,.flat,(.sl 169 5 [.flat,.flat,.flat,.flat,.flat])] (aW.Places.map ad)),(3000001,oa 85 4 aj aW.Links)]⟩ ?_ fun d22=> ?_
 exact DE.al (.c 5 d33 rfl (ar.l (da (d:=3000000) (L:=aW.Places) (f:=ad) (ti:=bR) (tj:=bG) (e:=91) (e':=91) (m:=5) (k:= .i64) (ss:=[.flat,.flat,.flat,.flat,(.sl 169 5 [.flat,.flat,.flat,.flat,.flat])]) ac rfl hx2)) (.c 11 d32 rfl (ar.n ac) .n))
 refine DE.sh 10 (bA 20 7967) ⟨48,[(0,.ref 1000000 0),(5,vi x1.1),(23,.own 3000000),(24,vi x1.1),(29,vs aC.Language),(31,vi aC.Year),(32,.ref 3 5)],[(3,.box (tc aF aC)),(1000000,.box [.own 3000000,.own 3000001]),(3000000,.deep 91 5 aW.Places.length [.flat,.flat,.flat,.flat,(.sl 169 5 [.flat,.flat,.flat,.flat,.flat])] (aW.Places.map ad)),(3000001,oa 85 4 aj aW.Links)]⟩ ?_ fun d21=> ?_
 exact DE.al (.c 5 d31 rfl (ar.l (da (d:=3000000) (L:=aW.Places) (f:=ad) (ti:=bR) (tj:=bG) (e:=91) (e':=91) (m:=5) (k:= .i64) (ss:=[.flat,.flat,.flat,.flat,(.sl 169 5 [.flat,.flat,.flat,.flat,.flat])]) ac rfl hx2)) (.c 13 d32 rfl (ar.n ac) .n))
 refine DE.sh 10 (bA 20 5951) ⟨48,[(0,.ref 1000000 0),(5,vi x1.1),(25,.eref 3000000 5 (Int.toNat x1.1) 0),(29,vs aC.Language),(30,.ref 3 0),(32,.ref 3 5)],[(3,.box (tc aF aC)),(1000000,.box [.own 3000000,.own 3000001]),(3000000,.deep 91 5 aW.Places.length [.flat,.flat,.flat,.flat,(.sl 169 5 [.flat,.flat,.flat,.flat,.flat])] (aW.Places.map ad)),(3000001,oa 85 4 aj aW.Links)]⟩ ?_ fun d20=> ?_
 exact DE.tw ac 6 d28 rfl (ar.n ac)
 refine DE.sh 10 (bA 20 5503) ⟨48,[(0,.ref 1000000 0),(5,vi x1.1),(26,.eref 3000000 5 (Int.toNat x1.1) 4),(28,.ref 3 4),(30,.ref 3 0),(32,.ref 3 5)],[(3,.box (tc aF aC)),(1000000,.box [.own 3000000,.own 3000001]),(3000000,.deep 91 5 aW.Places.length [.flat,.flat,.flat,.flat,(.sl 169 5 [.flat,.flat,.flat,.flat,.flat])] (aW.Places.map ad)),(3000001,oa 85 4 aj aW.Links)]⟩ ?_ fun d19=> ?_
 exact DE.al (.c 7 d27 rfl (ar.le (lL (L:=aW.Places) (f:=ad) (d:=3000000) (k:=3001027) (e:=91) (m:=5) (j:=4) (e':=169) (m':=5) (n':=x2.Names.length) (ss:=[.flat,.flat,.flat,.flat,(.sl 169 5 [.flat,.flat,.flat,.flat,.flat])]) (ss':=[.flat,.flat,.flat,.flat,.flat]) (es':=x2.Names.map ao) (ti:=eb) (y:=oa 169 5 ao x2.Names) hx2 ac rfl rfl (.inr ⟨rfl,rfl⟩)) Le.an) (.c 9 d28 rfl (ar.n ac) (.c 11 d29 rfl (ar.n ac) (.c 13 d30 rfl (ar.n ac) .n))))
 refine DE.sh 11 (bA 20 15639) ⟨48,[(0,.ref 1000000 0),(5,vi x1.1),(22,.ref 1000000 0),(24,vi x1.1),(28,.ref 3 4),(31,vi aC.Year),(33,vs aC.Text)],[(3,.box (tc aF aC)),(1000000,.box [.own 3000000,.own 3000001]),(3000000,.deep 91 5 aW.Places.length [.flat,.flat,.flat,.flat,(.sl 169 5 [.flat,.flat,.flat,.flat,.flat])] (aW.Places.map ad)),(3000001,oa 85 4 aj aW.Links)]⟩ ?_ fun d18=> ?_
 exact DE.al (.c 3 d24 rfl (ar.n ac) (.c 9 d26 rfl (ar.n ac) .n))
 refine DE.sh 11 (bA 20 14103) ⟨48,[(0,.ref 1000000 0),(5,vi x1.1),(22,.ref 1000000 0),(24,vi x1.1),(29,vs aC.Language),(30,.ref 3 0),(33,vs aC.Text)],[(3,.box (tc aF aC)),(1000000,.box [.own 3000000,.own 3000001]),(3000000,.deep 91 5 aW.Places.length [.flat,.flat,.flat,.flat,(.sl 169 5 [.flat,.flat,.flat,.flat,.flat])] (aW.Places.map ad)),(3000001,oa 85 4 aj aW.Links)]⟩ ?_ fun d17=> ?_
 exact DE.al (.c 3 d22 rfl (ar.n ac) (.c 11 d26 rfl (ar.n ac) .n))
 refine DE.sh 11 (bA 20 7959) ⟨48,[(0,.ref 1000000 0),(5,vi x1.1),(22,.ref 1000000 0),(24,vi x1.1),(29,vs aC.Language),(31,vi aC.Year),(32,.ref 3 5)],[(3,.box (tc aF aC)),(1000000,.box [.own 3000000,.own 3000001]),(3000000,.deep 91 5 aW.Places.length [.flat,.flat,.flat,.flat,(.sl 169 5 [.flat,.flat,.flat,.flat,.flat])] (aW.Places.map ad)),(3000001,oa 85 4 aj aW.Links)]⟩ ?_ fun d16=> ?_
 exact DE.al (.c 3 d21 rfl (ar.n ac) (.c 13 d26 rfl (ar.n ac) .n))
 refine DE.sh 11 (bA 20 13599) ⟨48,[(0,.ref 1000000 0),(5,vi x1.1),(23,.own 3000000),(24,vi x1.1),(28,.ref 3 4),(30,.ref 3 0),(33,vs aC.Text)],[(3,.box (tc aF aC)),(1000000,.box [.own 3000000,.own 3000001]),(3000000,.deep 91 5 aW.Places.length [.flat,.flat,.flat,.flat,(.sl 169 5 [.flat,.flat,.flat,.flat,.flat])] (aW.Places.map ad)),(3000001,oa 85 4 aj aW.Links)]⟩ ?_ fun d15=> ?_
 exact DE.al (.c 5 d25 rfl (ar.l (da (d:=3000000) (L:=aW.Places) (f:=ad) (ti:=bR) (tj:=bG) (e:=91) (e':=91) (m:=5) (k:= .i64) (ss:=[.flat,.flat,.flat,.flat,(.sl 169 5 [.flat,.flat,.flat,.flat,.flat])]) ac rfl hx2)) (.c 9 d22 rfl (ar.n ac) (.c 11 d24 rfl (ar.n ac) .n)))
 refine DE.sh 11 (bA 20 7455) ⟨48,[(0,.ref 1000000 0),(5,vi x1.1),(23,.own 3000000),(24,vi x1.1),(28,.ref 3 4),(31,vi aC.Year),(32,.ref 3 5)],[(3,.box (tc aF aC)),(1000000,.box [.own 3000000,.own 3000001]),(3000000,.deep 91 5 aW.Places.length [.flat,.flat,.flat,.flat,(.sl 169 5 [.flat,.flat,.flat,.flat,.flat])] (aW.Places.map ad)),(3000001,oa 85 4 aj aW.Links)]⟩ ?_ fun d14=> ?_
 exact DE.al (.c 5 d23 rfl (ar.l (da (d:=3000000) (L:=aW.Places) (f:=ad) (ti:=bR) (tj:=bG) (e:=91) (e':=91) (m:=5) (k:= .i64) (ss:=[.flat,.flat,.flat,.flat,(.sl 169 5 [.flat,.flat,.flat,.flat,.flat])]) ac rfl hx2)) (.c 9 d21 rfl (ar.n ac) (.c 13 d24 rfl (ar.n ac) .n)))
 refine DE.sh 11 (bA 20 5919) ⟨48,[(0,.ref 1000000 0),(5,vi x1.1),(23,.own 3000000),(24,vi x1.1),(29,vs aC.Language),(30,.ref 3 0),(32,.ref 3 5)],[(3,.box (tc aF aC)),(1000000,.box [.own 3000000,.own 3000001]),(3000000,.deep 91 5 aW.Places.length [.flat,.flat,.flat,.flat,(.sl 169 5 [.flat,.flat,.flat,.flat,.flat])] (aW.Places.map ad)),(3000001,oa 85 4 aj aW.Links)]⟩ ?_ fun d13=> ?_
 exact DE.al (.c 5 d20 rfl (ar.l (da (d:=3000000) (L:=aW.Places) (f:=ad) (ti:=bR) (tj:=bG) (e:=91) (e':=91) (m:=5) (k:= .i64) (ss:=[.flat,.flat,.flat,.flat,(.sl 169 5 [.flat,.flat,.flat,.flat,.flat])]) ac rfl hx2)) (.c 11 d21 rfl (ar.n ac) (.c 13 d22 rfl (ar.n ac) .n)))
 refine DE.sh 11 (bA 20 5439) ⟨48,[(0,.ref 1000000 0),(5,vi x1.1),(25,.eref 3000000 5 (Int.toNat x1.1) 0),(28,.ref 3 4),(30,.ref 3 0),(32,.ref 3 5)],[(3,.box (tc aF aC)),(1000000,.box [.own 3000000,.own 3000001]),(3000000,.deep 91 5 aW.Places.length [.flat,.flat,.flat,.flat,(.sl 169 5 [.flat,.flat,.flat,.flat,.flat])] (aW.Places.map ad)),(3000001,oa 85 4 aj aW.Links)]⟩ ?_ fun d12=> ?_
 exact DE.tw ac 6 d19 rfl (ar.n ac)
 refine DE.sh 12 (bA 20 13591) ⟨48,[(0,.ref 1000000 0),(5,vi x1.1),(22,.ref 1000000 0),(24,vi x1.1),(28,.ref 3 4),(30,.ref 3 0),(33,vs aC.Text)],[(3,.box (tc aF aC)),(1000000,.box [.own 3000000,.own 3000001]),(3000000,.deep 91 5 aW.Places.length [.flat,.flat,.flat,.flat,(.sl 169 5 [.flat,.flat,.flat,.flat,.flat])] (aW.Places.map ad)),(3000001,oa 85 4 aj aW.Links)]⟩ ?_ fun d11=> ?_
 exact DE.al (.c 3 d15 rfl (ar.n ac) (.c 9 d17 rfl (ar.n ac) (.c 11 d18 rfl (ar.n ac) .n)))
 refine DE.sh 12 (bA 20 7447) ⟨48,[(0,.ref 1000000 0),(5,vi x1.1),(22,.ref 1000000 0),(24,vi x1.1),(28,.ref 3 4),(31,vi aC.Year),(32,.ref 3 5)],[(3,.box (tc aF aC)),(1000000,.box [.own 3000000,.own 3000001]),(3000000,.deep 91 5 aW.Places.length [.flat,.flat,.flat,.flat,(.sl 169 5 [.flat,.flat,.flat,.flat,.flat])] (aW.Places.map ad)),(3000001,oa 85 4 aj aW.Links)]⟩ ?_ fun d10=> ?_
 exact DE.al (.c 3 d14 rfl (ar.n ac) (.c 9 d16 rfl (ar.n ac) (.c 13 d18 rfl (ar.n ac) .n)))
 refine DE.sh 12 (bA 20 5911) ⟨48,[(0,.ref 1000000 0),(5,vi x1.1),(22,.ref 1000000 0),(24,vi x1.1),(29,vs aC.Language),(30,.ref 3 0),(32,.ref 3 5)],[(3,.box (tc aF aC)),(1000000,.box [.own 3000000,.own 3000001]),(3000000,.deep 91 5 aW.Places.length [.flat,.flat,.flat,.flat,(.sl 169 5 [.flat,.flat,.flat,.flat,.flat])] (aW.Places.map ad)),(3000001,oa 85 4 aj aW.Links)]⟩ ?_ fun d9=> ?_
 exact DE.al (.c 3 d13 rfl (ar.n ac) (.c 11 d16 rfl (ar.n ac) (.c 13 d17 rfl (ar.n ac) .n)))
 refine DE.sh 12 (bA 20 5407) ⟨48,[(0,.ref 1000000 0),(5,vi x1.1),(23,.own 3000000),(24,vi x1.1),(28,.ref 3 4),(30,.ref 3 0),(32,.ref 3 5)],[(3,.box (tc aF aC)),(1000000,.box [.own 3000000,.own 3000001]),(3000000,.deep 91 5 aW.Places.length [.flat,.flat,.flat,.flat,(.sl 169 5 [.flat,.flat,.flat,.flat,.flat])] (aW.Places.map ad)),(3000001,oa 85 4 aj aW.Links)]⟩ ?_ fun d8=> ?_
 exact DE.al (.c 5 d12 rfl (ar.l (da (d:=3000000) (L:=aW.Places) (f:=ad) (ti:=bR) (tj:=bG) (e:=91) (e':=91) (m:=5) (k:= .i64) (ss:=[.flat,.flat,.flat,.flat,(.sl 169 5 [.flat,.flat,.flat,.flat,.flat])]) ac rfl hx2)) (.c 9 d13 rfl (ar.n ac) (.c 11 d14 rfl (ar.n ac) (.c 13 d15 rfl (ar.n ac) .n))))
 refine DE.sh 13 (bA 20 5399) ⟨48,[(0,.ref 1000000 0),(5,vi x1.1),(22,.ref 1000000 0),(24,vi x1.1),(28,.ref 3 4),(30,.ref 3 0),(32,.ref 3 5)],[(3,.box (tc aF aC)),(1000000,.box [.own 3000000,.own 3000001]),(3000000,.deep 91 5 aW.Places.length [.flat,.flat,.flat,.flat,(.sl 169 5 [.flat,.flat,.flat,.flat,.flat])] (aW.Places.map ad)),(3000001,oa 85 4 aj aW.Links)]⟩ ?_ fun d7=> ?_
 exact DE.al (.c 3 d8 rfl (ar.n ac) (.c 9 d9 rfl (ar.n ac) (.c 11 d10 rfl (ar.n ac) (.c 13 d11 rfl (ar.n ac) .n))))
 refine DE.sh 14 (bA 20 1303) ⟨48,[(0,.ref 1000000 0),(3,.ref 3 0),(5,vi x1.1),(22,.ref 1000000 0),(24,vi x1.1),(28,.ref 3 4),(30,.ref 3 0)],[(3,.box (tc aF aC)),(1000000,.box [.own 3000000,.own 3000001]),(3000000,.deep 91 5 aW.Places.length [.flat,.flat,.flat,.flat,(.sl 169 5 [.flat,.flat,.flat,.flat,.flat])] (aW.Places.map ad)),(3000001,oa 85 4 aj aW.Links)]⟩ ?_ fun d6=> ?_
 exact DE.tw ac 12 d7 rfl (ar.n ac)
 refine DE.sh 15 (bA 20 279) ⟨48,[(0,.ref 1000000 0),(3,.ref 3 0),(5,vi x1.1),(22,.ref 1000000 0),(24,vi x1.1),(28,.ref 3 4)],[(3,.box (tc aF aC)),(1000000,.box [.own 3000000,.own 3000001]),(3000000,.deep 91 5 aW.Places.length [.flat,.flat,.flat,.flat,(.sl 169 5 [.flat,.flat,.flat,.flat,.flat])] (aW.Places.map ad)),(3000001,oa 85 4 aj aW.Links)]⟩ ?_ fun d5=> ?_
 exact DE.tw ac 10 d6 rfl (ar.n ac)
 refine DE.sh 16 (bA 20 23) ⟨48,[(0,.ref 1000000 0),(3,.ref 3 0),(5,vi x1.1),(22,.ref 1000000 0),(24,vi x1.1)],[(3,.box (tc aF aC)),(1000000,.box [.own 3000000,.own 3000001]),(3000000,.deep 91 5 aW.Places.length [.flat,.flat,.flat,.flat,(.sl 169 5 [.flat,.flat,.flat,.flat,.flat])] (aW.Places.map ad)),(3000001,oa 85 4 aj aW.Links)]⟩ ?_ fun d4=> ?_
 exact DE.tw ac 8 d5 rfl (ar.n ac)
 refine DE.sh 17 (bA 20 7) ⟨48,[(0,.ref 1000000 0),(3,.ref 3 0),(5,vi x1.1),(22,.ref 1000000 0)],[(3,.box (tc aF aC)),(1000000,.box [.own 3000000,.own 3000001]),(3000000,.deep 91 5 aW.Places.length [.flat,.flat,.flat,.flat,(.sl 169 5 [.flat,.flat,.flat,.flat,.flat])] (aW.Places.map ad)),(3000001,oa 85 4 aj aW.Links)]⟩ ?_ fun d3=> ?_
 exact DE.tk 4 d4 rfl (.inl rfl) (ar.n ac)
 refine DE.sh 18 (bA 20 3) ⟨48,[(0,.ref 1000000 0),(3,.ref 3 0),(5,vi x1.1),(21,.ref 1000000 0)],[(3,.box (tc aF aC)),(1000000,.box [.own 3000000,.own 3000001]),(3000000,.deep 91 5 aW.Places.length [.flat,.flat,.flat,.flat,(.sl 169 5 [.flat,.flat,.flat,.flat,.flat])] (aW.Places.map ad)),(3000001,oa 85 4 aj aW.Links)]⟩ ?_ fun d2=> ?_
 exact DE.tw ac 2 d3 rfl (ar.n ac)
 refine DE.sh 19 (bA 20 1) ⟨48,[(0,.ref 1000000 0),(3,.ref 3 0),(5,vi x1.1),(20,.ref 1000000 0)],[(3,.box (tc aF aC)),(1000000,.box [.own 3000000,.own 3000001]),(3000000,.deep 91 5 aW.Places.length [.flat,.flat,.flat,.flat,(.sl 169 5 [.flat,.flat,.flat,.flat,.flat])] (aW.Places.map ad)),(3000001,oa 85 4 aj aW.Links)]⟩ ?_ fun d1=> ?_
 exact DE.tw ac 1 d2 rfl (ar.n ac)
 exact DE.tk 0 d1 rfl (.inl rfl) (ar.n ac)
 refine bq ?_
 refine ae ?_
 refine aJ ac [0,5,7,8,38] [34,1000000,3000000,3000001] ?_
 refine aU h (fun j4=>⟨48,[(8,vi x3.2)],[(1000000,.box [.own 3000000,.own 3000001]),(3000000,.deep 91 5 j4.1.length [.flat,.flat,.flat,.flat,(.sl 169 5 [.flat,.flat,.flat,.flat,.flat])] (j4.1.map ad)),(3000001,oa 85 4 aj j4.2)]⟩) (fun v5 h=> ?_) (fun j4 h=> ?_)
 refine aq h (fun h=> ?_) fun h=> ?_
 refine aD ?_
 refine aa.cl ac 6 [8,42,43,44] [34,1000000,3000000,3000001] ?_
 obtain⟨x6,hx6,h⟩:=bind_some h
 refine aa.ls (da (d:=3000000) (L:=aW.Places) (f:=ad) (ti:=bR) (tj:=bG) (e:=91) (e':=91) (m:=5) (k:= .i64) (ss:=[.flat,.flat,.flat,.flat,(.sl 169 5 [.flat,.flat,.flat,.flat,.flat])]) ac rfl hx6) ?_
 refine aa.cl ac 1 [8,44,46] [34,1000000,3000000,3000001] ?_
 refine aa.a7 (pS (d:=3000000) (m:=5) (j:=4) (L:=aW.Places) (f:=ad) (x:=(Place.mk x6.Code x6.Class x6.Years x3.1)) (z:=x6) (ti:=eb) (e:=91) (ss:=[.flat,.flat,.flat,.flat,(.sl 169 5 [.flat,.flat,.flat,.flat,.flat])]) (ss2:=[(.sl 169 5 [.flat,.flat,.flat,.flat,.flat])]) (ts:=[.sl x3.1.length (x3.1.map ao)]) (vs:=[.own 34]) (v:= .own 34) (ds:=[34]) ac rfl rfl hx6 (.cons _ _ _ [34] _ _ _ _ (ug (d:=34) (e:=169) (m:=5) (n:=x3.1.length) (es:=x3.1.map ao) (ss:=[.flat,.flat,.flat,.flat,.flat]) (cN bQ _)) .nil (by decide))) ?_
 refine aa.nil ?_
 obtain rfl:=inj h
 exact cI (Le.an)
 refine ai ?_
 obtain rfl:=inj h
 exact cI (Le.an)
 refine aJ ac [4] [1000000,3000000,3000001] ?_
 refine ah ?_
 obtain rfl:=inj h
 exact mO (fw ac)
theorem Eu:bg Tryz.prog 90:=az Tryz.func90 (by kernel_rfl) rfl
noncomputable def eA(aW:World)(cQ:ByteArray)(ei:ByteArray)(ap:Int):Option (ay):=
 ((cv aW cQ).bind fun x1=>((cv aW ei).bind fun x2=>(((jH (aW.Links.length:Int) (fun(i5:Int) (s5:Int)=>((at' aW.Links i5).bind fun x9=>(bif((x9.Child.toList==cQ.toList)&&(decide (x9.Years.From>ap)))then some (bM s5 (bF (x9.Years.From - 1)))else some s5))) (fun(s5:Int)=>s5) 0 (bM x1.Years.To x2.Years.To))).bind fun(j3:Int)=>some (ay.mk cQ ei (Span.mk ap j3)))))
theorem mE(aW:World)(cQ:ByteArray)(ei:ByteArray)(ap:Int)(r:ay)(h:eA aW cQ ei ap=some r):aR Tryz.prog 142 [.v (.agg (tc aQ aW)),.v (vs cQ),.v (vs ei),.v (vi ap)] ⟨[.v (.agg (tc aj r))],[],false⟩:=by
 refine au Tryz.func142 rfl [(.cell 8 85)] rfl (fun r=>⟨[.v (.agg (tc aj r))],[],false⟩) (r:=r) ?_
 unfold eA at h
 refine aJ ac [1,2,3,4,8] [4,8] ?_
 refine ae ?_
 refine cV mixed ?_
 refine aH.cl ac false 2 [1,2,3,4,8,12,13] [4,8] ?_
 obtain⟨x1,hx1,h⟩:=bind_some h
 refine aH.step (xc pY (de aW cQ _ hx1)) ?_
 refine aH.cl ac false 4 [1,2,3,4,8,16,17,18] [4,8] ?_
 obtain⟨x2,hx2,h⟩:=bind_some h
 refine aH.step (xc pY (de aW ei _ hx2)) ?_
 refine aH.cl ac false 4 [1,2,3,4,8,9] [4,8] ?_
 refine aH.nx ?_
 refine ae ?_
 refine aJ ac [1,2,3,8,9,24,25,26] [8] ?_
 refine aU h (fun j3=>⟨54,[(1,vs cQ),(2,vs ei),(3,vi ap),(8,.ref 8 0),(9,vi j3)],[(8,.box [vs (ByteArray.mk #[]),vs (ByteArray.mk #[]),vi 0,vi 0])]⟩) (fun v4 h=> ?_) (fun j3 h=> ?_)
 refine ax (a:=v4) ?_
 refine bc (r:=v4) (s:=(0,(bM x1.Years.To x2.Years.To))) _ (fun s5=>⟨54,[(1,vs cQ),(2,vs ei),(3,vi ap),(8,.ref 8 0),(9,vi s5.2),(24,vl aj aW.Links),(25,vi (aW.Links.length:Int)),(26,vi s5.1)],[(8,.box [vs (ByteArray.mk #[]),vs (ByteArray.mk #[]),vi 0,vi 0])]⟩) _ (Le.an) h (fun s5 v6 h=> ?_)
 refine aJ ac [1,2,3,8,9,24,25,26,27] [8] ?_
 refine ae ?_
 refine aq h (fun h=> ?_) fun h=> ?_
 refine ai ?_
 refine bq ?_
 refine ae ?_
 refine aU h (fun j7=>⟨54,[(1,vs cQ),(2,vs ei),(3,vi ap),(8,.ref 8 0),(9,vi j7),(24,vl aj aW.Links),(25,vi (aW.Links.length:Int)),(26,vi s5.1)],[(8,.box [vs (ByteArray.mk #[]),vs (ByteArray.mk #[]),vi 0,vi 0])]⟩) (fun v8 h=> ?_) (fun j7 h=> ?_)
 refine ax (a:=v8) ?_
 refine sr ?_
 obtain⟨x9,hx9,h⟩:=bind_some h
 refine aa.ls (aY (L:=aW.Links) (f:=aj) (ti:=eo) (tj:=ew) (e:=85) (k:= .i64) ac rfl hx9) ?_
 refine bO ac 3 [1,2,3,8,9,11,24,25,26] [8,11] ?_
 refine ae ?_
 refine c7 ⟨54,[(1,vs cQ),(2,vs ei),(3,vi ap),(8,.ref 8 0),(9,vi s5.2),(11,.ref 11 0),(24,vl aj aW.Links),(25,vi (aW.Links.length:Int)),(26,vi s5.1),(40,vb ((x9.Child.toList==cQ.toList)&&(decide (x9.Years.From>ap))))],[(8,.box [vs (ByteArray.mk #[]),vs (ByteArray.mk #[]),vi 0,vi 0]),(11,.box (tc aj x9))]⟩ ?_ ?_
 refine aa.ck ac 5 ⟨54,[(1,vs cQ),(2,vs ei),(3,vi ap),(8,.ref 8 0),(9,vi s5.2),(11,.ref 11 0),(24,vl aj aW.Links),(25,vi (aW.Links.length:Int)),(26,vi s5.1),(34,vb (x9.Child.toList==cQ.toList))],[(8,.box [vs (ByteArray.mk #[]),vs (ByteArray.mk #[]),vi 0,vi 0]),(11,.box (tc aj x9))]⟩ ?_
 generalize (x9.Child.toList==cQ.toList)=bb
 cases bb
 refine aa.cl ac 6 [1,2,3,8,9,11,24,25,26,40] [8,11] ?_
 exact aa.nil (Le.an)
 refine aa.cl ac 6 [1,2,3,8,9,11,24,25,26,40] [8,11] ?_
 exact aa.nil (Le.an)
 refine aq h (fun h=> ?_) fun h=> ?_
 refine aD ?_
 refine aa.cl ac 7 [1,2,3,8,9,24,25,26] [8] ?_
 refine aa.nil ?_
 obtain rfl:=inj h
 exact bt (cI (Le.an))
 refine ai ?_
 obtain rfl:=inj h
 exact bt (cI (Le.an))
 refine aD ?_
 refine aa.cl ac 2 [1,2,3,8,9,24,25,26] [8] ?_
 refine aa.nil ?_
 obtain rfl:=inj h
 exact cn (Le.an)
 refine a6 ?_
 obtain rfl:=inj h
 exact cE (cG (cF (cI (Le.an))))
 refine sr ?_
 refine aa.cl ac 4 [8,48,49,50,51] [8] ?_
 refine aa.ls (aZ (v:= .agg [vi ap,vi j3]) ac rfl) ?_
 refine aa.ls (aZ (v:= .agg [vs cQ,vs ei,vi ap,vi j3]) ac rfl) ?_
 refine bO ac 1 [8] [8] ?_
 refine ah ?_
 obtain rfl:=inj h
 exact aO (f1 (fc ac))
theorem Cs:bg Tryz.prog 142:=az Tryz.func142 (by kernel_rfl) rfl
noncomputable def c8(aW:World)(cQ:ByteArray)(ei:ByteArray)(ap:Int):Option (Int×World):=
 (bif(cQ.toList==ei.toList)then some (5,aW)else((eA aW cQ ei ap).bind fun x1=>(((jH (aW.Links.length:Int) (fun(i4:Int) (s4:(List ay))=>((at' aW.Links i4).bind fun x8=>(((bif(x8.Child.toList==cQ.toList)then((bI x8.Years ap).bind fun x9=>some x9)else some false)).bind fun(j10:Bool)=>(((bif j10 then some (ay.mk x8.Child x8.Parent (Span.mk x8.Years.From (bF (ap - 1))))else some x8)).bind fun(j12:ay)=>(bif(decide (j12.Years.From≤j12.Years.To))then((c4 s4 ([j12]:List ay)).bind fun x14=>some x14)else some s4))))) (fun(s4:(List ay))=>s4) 0 ([]:List ay))).bind fun(j2:(List ay))=>((c4 j2 ([x1]:List ay)).bind fun x15=>(((bif(decide ((x15.length:Int)>20))then some (.inr (3,aW))else((eZ x15).bind fun x18=>(bif(!x18)then some (.inr (5,aW))else some (.inl ()))))).bind (Sum.elim (fun(_:Unit)=>some (0,(World.mk aW.Places x15))) some))))))
theorem kB(aW:World)(cQ:ByteArray)(ei:ByteArray)(ap:Int)(r:Int×World)(h:c8 aW cQ ei ap=some r):kQ Tryz.prog 91 [.ref 1000000 0,vs cQ,vs ei,vi ap] [(1000000,.box [.own 3000000,.own 3000001]),(3000000,.deep 91 5 aW.Places.length [.flat,.flat,.flat,.flat,(.sl 169 5 [.flat,.flat,.flat,.flat,.flat])] (aW.Places.map ad)),(3000001,oa 85 4 aj aW.Links)] [(1000000,.box [.own 3000000,.own 3000001]),(3000000,.deep 91 5 r.2.Places.length [.flat,.flat,.flat,.flat,(.sl 169 5 [.flat,.flat,.flat,.flat,.flat])] (r.2.Places.map ad)),(3000001,oa 85 4 aj r.2.Links)] [vi r.1]:=by
 refine kk Tryz.func91 rfl [(.tmp 8)] rfl (fun r=>[(1000000,.box [.own 3000000,.own 3000001]),(3000000,.deep 91 5 r.2.Places.length [.flat,.flat,.flat,.flat,(.sl 169 5 [.flat,.flat,.flat,.flat,.flat])] (r.2.Places.map ad)),(3000001,oa 85 4 aj r.2.Links)]) (fun r=>[vi r.1]) (r:=r) (c5 SV.ez (c5 trivial (c5 (cN dj _) lx))) ?_
 unfold c8 at h
 refine aJ ac [0,1,2,3] [1000000,3000000,3000001] ?_
 refine ae ?_
 refine aJ ac [0,1,2,3,15] [1000000,3000000,3000001] ?_
 refine aq h (fun h=> ?_) fun h=> ?_
 refine aJ ac [8] [1000000,3000000,3000001] ?_
 refine ah ?_
 obtain rfl:=inj h
 exact cY (mO (fw ac))
 refine ai ?_
 refine bq ?_
 refine sr ?_
 refine aa.cl ac 6 [0,1,3,18,19,20,21] [1000000,3000000,3000001] ?_
 obtain⟨x1,hx1,h⟩:=bind_some h
 refine aa.ls (xc Cs (mE aW cQ ei ap _ hx1)) ?_
 refine bO ac 2 [0,1,3,9] [9,1000000,3000000,3000001] ?_
 refine aJ ac [0,1,3,9,10] [9,10,1000000,3000000,3000001] ?_
 refine ae ?_
 refine aJ ac [0,1,3,9,10,26,27,28] [9,10,1000000,3000000,3000001] ?_
 refine aU h (fun j2=>⟨74,[(0,.ref 1000000 0),(9,.ref 9 0),(10,.own 10)],[(9,.box (tc aj x1)),(10,oa 85 4 aj j2),(1000000,.box [.own 3000000,.own 3000001]),(3000000,.deep 91 5 aW.Places.length [.flat,.flat,.flat,.flat,(.sl 169 5 [.flat,.flat,.flat,.flat,.flat])] (aW.Places.map ad)),(3000001,oa 85 4 aj aW.Links)]⟩) (fun v3 h=> ?_) (fun j2 h=> ?_)
 refine ax (a:=v3) ?_
 refine bc (r:=v3) (s:=(0,([]:List ay))) _ (fun s4=>⟨74,[(0,.ref 1000000 0),(1,vs cQ),(3,vi ap),(9,.ref 9 0),(10,.own 10),(26,.own 3000001),(27,vi (aW.Links.length:Int)),(28,vi s4.1)],[(9,.box (tc aj x1)),(10,oa 85 4 aj s4.2),(1000000,.box [.own 3000000,.own 3000001]),(3000000,.deep 91 5 aW.Places.length [.flat,.flat,.flat,.flat,(.sl 169 5 [.flat,.flat,.flat,.flat,.flat])] (aW.Places.map ad)),(3000001,oa 85 4 aj aW.Links)]⟩) _ (Le.an) h (fun s4 v5 h=> ?_)
 refine aJ ac [0,1,3,9,10,26,27,28,29] [9,10,1000000,3000000,3000001] ?_
 refine ae ?_
 refine aq h (fun h=> ?_) fun h=> ?_
 refine ai ?_
 refine bq ?_
 refine ae ?_
 refine aU h (fun j6=>⟨74,[(0,.ref 1000000 0),(1,vs cQ),(3,vi ap),(9,.ref 9 0),(10,.own 10),(26,.own 3000001),(27,vi (aW.Links.length:Int)),(28,vi s4.1)],[(9,.box (tc aj x1)),(10,oa 85 4 aj j6),(1000000,.box [.own 3000000,.own 3000001]),(3000000,.deep 91 5 aW.Places.length [.flat,.flat,.flat,.flat,(.sl 169 5 [.flat,.flat,.flat,.flat,.flat])] (aW.Places.map ad)),(3000001,oa 85 4 aj aW.Links)]⟩) (fun v7 h=> ?_) (fun j6 h=> ?_)
 refine ax (a:=v7) ?_
 refine sr ?_
 obtain⟨x8,hx8,h⟩:=bind_some h
 refine aa.ls (bw (d:=3000001) (L:=aW.Links) (f:=aj) (ti:=eo) (tj:=ew) (e:=85) (e':=85) (m:=4) (k:= .i64) ac rfl hx8) ?_
 refine aa.ls (bN (d:=3000001) (m:=4) (j:=0) (L:=aW.Links) (f:=aj) (ti:=ew) (e:=85) (v:= .agg (tc aj x8)) ac rfl hx8) ?_
 refine bO ac 2 [0,1,3,9,10,12,26,27,28] [9,10,12,1000000,3000000,3000001] ?_
 refine ae ?_
 refine ae ?_
 refine bn h (fun j10=>⟨74,[(0,.ref 1000000 0),(1,vs cQ),(3,vi ap),(9,.ref 9 0),(10,.own 10),(12,.ref 12 0),(26,.own 3000001),(27,vi (aW.Links.length:Int)),(28,vi s4.1),(41,vb j10)],[(9,.box (tc aj x1)),(10,oa 85 4 aj s4.2),(12,.box (tc aj x8)),(1000000,.box [.own 3000000,.own 3000001]),(3000000,.deep 91 5 aW.Places.length [.flat,.flat,.flat,.flat,(.sl 169 5 [.flat,.flat,.flat,.flat,.flat])] (aW.Places.map ad)),(3000001,oa 85 4 aj aW.Links)]⟩) (fun v11 h=> ?_) (fun j10 h=> ?_)
 refine aa.cl ac 5 [0,1,3,9,10,12,26,27,28,36] [9,10,12,1000000,3000000,3000001] ?_
 refine aa.cu [(36,fun b=>b)] h (fun h=> ?_) fun h=> ?_
 refine aa.cl ac 3 [0,1,3,9,10,12,26,27,28,36,38,39] [9,10,12,1000000,3000000,3000001] ?_
 obtain⟨x9,hx9,h⟩:=bind_some h
 refine aa.ls (xc lO (cw x8.Years ap _ hx9)) ?_
 refine aa.cl ac 1 [0,1,3,9,10,12,26,27,28,41] [9,10,12,1000000,3000000,3000001] ?_
 refine aa.nil ?_
 obtain rfl:=inj h
 exact Le.an
 refine aa.cl ac 5 [0,1,3,9,10,12,26,27,28,41] [9,10,12,1000000,3000000,3000001] ?_
 refine aa.nil ?_
 obtain rfl:=inj h
 exact Le.an
 refine aU h (fun j12=>⟨74,[(0,.ref 1000000 0),(1,vs cQ),(3,vi ap),(9,.ref 9 0),(10,.own 10),(12,.ref 12 0),(26,.own 3000001),(27,vi (aW.Links.length:Int)),(28,vi s4.1)],[(9,.box (tc aj x1)),(10,oa 85 4 aj s4.2),(12,.box (tc aj j12)),(1000000,.box [.own 3000000,.own 3000001]),(3000000,.deep 91 5 aW.Places.length [.flat,.flat,.flat,.flat,(.sl 169 5 [.flat,.flat,.flat,.flat,.flat])] (aW.Places.map ad)),(3000001,oa 85 4 aj aW.Links)]⟩) (fun v13 h=> ?_) (fun j12 h=> ?_)
 refine aq h (fun h=> ?_) fun h=> ?_
 refine aD ?_
 refine aa.cl ac 5 [0,1,3,9,10,12,26,27,28] [9,10,12,1000000,3000000,3000001] ?_
 refine aa.nil ?_
 obtain rfl:=inj h
 exact cI (Le.an)
 refine ai ?_
 obtain rfl:=inj h
 exact cI (Le.an)
 refine aJ ac [0,1,3,9,10,12,26,27,28,52] [9,10,12,1000000,3000000,3000001] ?_
 refine aq h (fun h=> ?_) fun h=> ?_
 refine aD ?_
 refine aa.cl ac 3 [0,1,3,9,26,27,28,53,55] [9,10,55,1000000,3000000,3000001] ?_
 obtain⟨x14,hx14,h⟩:=bind_some h
 refine aa.a7 (bh (f:=aj) (t:=33) (ti:=eo) (tj:=ew) (zs:=[.string (ByteArray.mk #[]),.string (ByteArray.mk #[]),.int .i64 0,.int .i64 0]) (e:=85) (m:=4) (d:=10) (xv:= .own 55) hx14 ac rfl rfl rfl rfl (bT (e:=85))) ?_
 refine aa.cl ac 1 [0,1,3,9,10,26,27,28] [9,56,1000000,3000000,3000001] ?_
 refine aa.nil ?_
 obtain rfl:=inj h
 exact bt (cI (Le.rr [9,56,1000000,3000000,3000001] [(56,10)]))
 refine ai ?_
 obtain rfl:=inj h
 exact bt (cI (Le.an))
 refine aD ?_
 refine aa.cl ac 2 [0,1,3,9,10,26,27,28] [9,10,1000000,3000000,3000001] ?_
 refine aa.nil ?_
 obtain rfl:=inj h
 exact cn (Le.an)
 refine a6 ?_
 obtain rfl:=inj h
 exact cE (cG (cF (cI (Le.an))))
 refine sr ?_
 refine aa.cl ac 3 [0,58,60] [10,60,1000000,3000000,3000001] ?_
 obtain⟨x15,hx15,h⟩:=bind_some h
 refine aa.a7 (bh (f:=aj) (t:=33) (ti:=eo) (tj:=ew) (zs:=[.string (ByteArray.mk #[]),.string (ByteArray.mk #[]),.int .i64 0,.int .i64 0]) (e:=85) (m:=4) (d:=10) (xv:= .own 60) hx15 ac rfl rfl rfl rfl (bT (e:=85))) ?_
 refine bO ac 1 [0,10] [61,1000000,3000000,3000001] ?_
 refine ae ?_
 refine bp (r:=r) h (fun j16=>⟨74,[(0,.ref 1000000 0),(10,.own 10)],[(10,oa 85 4 aj x15),(1000000,.box [.own 3000000,.own 3000001]),(3000000,.deep 91 5 aW.Places.length [.flat,.flat,.flat,.flat,(.sl 169 5 [.flat,.flat,.flat,.flat,.flat])] (aW.Places.map ad)),(3000001,oa 85 4 aj aW.Links)]⟩) (fun v17 h=> ?_) (fun j16 h=> ?_)
 refine ax (a:=v17) ?_
 refine aJ ac [0,10,62] [61,1000000,3000000,3000001] ?_
 refine aq h (fun h=> ?_) fun h=> ?_
 refine aJ ac [8] [1000000,3000000,3000001] ?_
 refine ah ?_
 obtain rfl:=inj h
 exact bE (bo (mO (fw ac)))
 refine sr ?_
 refine aa.cl ac 1 [0,10,67] [61,1000000,3000000,3000001] ?_
 obtain⟨x18,hx18,h⟩:=bind_some h
 refine aa.ls (xc xb (jb x15 _ hx18)) ?_
 refine bO ac 2 [0,10,66] [61,1000000,3000000,3000001] ?_
 refine aq h (fun h=> ?_) fun h=> ?_
 refine aJ ac [8] [1000000,3000000,3000001] ?_
 refine ah ?_
 obtain rfl:=inj h
 exact bE (bo (mO (fw ac)))
 refine ai ?_
 obtain rfl:=inj h
 exact bt (cn (Le.rr [61,1000000,3000000,3000001] [(61,10)]))
 refine sr ?_
 refine aa.ck ac 4 ⟨74,[(71,.own 10),(73,.ref 1000000 1)],[(10,oa 85 4 aj x15),(1000000,.box [.own 3000000,.own 3000001]),(3000000,.deep 91 5 aW.Places.length [.flat,.flat,.flat,.flat,(.sl 169 5 [.flat,.flat,.flat,.flat,.flat])] (aW.Places.map ad)),(3000001,oa 85 4 aj aW.Links)]⟩ ?_
 refine aa.a7 (oA (d:=1000000) (k:=1) (ti:=eo) (cs:=[.own 3000000,.own 3000001]) (vs:=[.own 10]) (v:= .own 10) ac rfl rfl) ?_
 refine aa.le (Le.less _ [3000001]) ?_
 refine aa.le (Le.tp 10 3000001) ?_
 refine aa.nx ?_
 refine aJ ac [8] [1000000,3000000,3000001] ?_
 refine ah ?_
 obtain rfl:=inj h
 exact mO (fw ac)
theorem AI:bg Tryz.prog 91:=az Tryz.func91 (by kernel_rfl) rfl
noncomputable def iw(af:(List ay))(ap:Int)(rO:(List ByteArray)):Option (Int):=
 ((((((eZ af).bind fun x3=>(bif(!x3)then some true else((fb rO).bind fun x4=>some (!x4))))).bind fun(j5:Bool)=>(bif j5 then some (.inr 1)else((eQ ap).bind fun x7=>(bif(!x7)then some (.inr 2)else some (.inl ())))))).bind (Sum.elim (fun(_:Unit)=>some 0) some))
theorem pn(af:(List ay))(ap:Int)(rO:(List ByteArray))(r:Int)(h:iw af ap rO=some r):aR Tryz.prog 186 [.v (vl aj af),.v (vi ap),.v (vl eS rO)] ⟨[.v (vi r)],[],false⟩:=by
 refine au Tryz.func186 rfl [(.tmp 6)] rfl (fun r=>⟨[.v (vi r)],[],false⟩) (r:=r) ?_
 unfold iw at h
 refine aJ ac [0,1,2] [] ?_
 refine ae ?_
 refine bp (r:=r) h (fun j1=>⟨20,[],[]⟩) (fun v2 h=> ?_) (fun j1 h=> ?_)
 refine ax (a:=v2) ?_
 refine ae ?_
 refine bn h (fun j5=>⟨20,[(1,vi ap),(7,vb j5)],[]⟩) (fun v6 h=> ?_) (fun j5 h=> ?_)
 refine aa.cl ac 1 [1,2,8] [] ?_
 obtain⟨x3,hx3,h⟩:=bind_some h
 refine aa.ls (xc xb (jb af _ hx3)) ?_
 refine aa.cl ac 2 [1,2,11] [] ?_
 refine aa.cu [(11,fun b=>b)] h (fun h=> ?_) fun h=> ?_
 refine aa.cl ac 5 [1,7] [] ?_
 refine aa.nil ?_
 obtain rfl:=inj h
 exact Le.an
 refine aa.cl ac 1 [1,11,12] [] ?_
 obtain⟨x4,hx4,h⟩:=bind_some h
 refine aa.ls (xc um (jh rO _ hx4)) ?_
 refine aa.cl ac 3 [1,7] [] ?_
 refine aa.nil ?_
 obtain rfl:=inj h
 exact Le.an
 refine aq h (fun h=> ?_) fun h=> ?_
 refine kM ac ⟨20,[(6,vi 1)],[]⟩ ?_
 refine ah ?_
 obtain rfl:=inj h
 exact bE (bo (aO (f1 fv)))
 refine sr ?_
 refine aa.cl ac 1 [17] [] ?_
 obtain⟨x7,hx7,h⟩:=bind_some h
 refine aa.ls (xc ry (iL ap _ hx7)) ?_
 refine bO ac 2 [16] [] ?_
 refine aq h (fun h=> ?_) fun h=> ?_
 refine kM ac ⟨20,[(6,vi 2)],[]⟩ ?_
 refine ah ?_
 obtain rfl:=inj h
 exact bE (bo (aO (f1 fv)))
 refine ai ?_
 obtain rfl:=inj h
 exact bt (cn (Le.an))
 refine kM ac ⟨20,[(6,vi 0)],[]⟩ ?_
 refine ah ?_
 obtain rfl:=inj h
 exact aO (f1 fv)
theorem CO:bg Tryz.prog 186:=az Tryz.func186 (by kernel_rfl) rfl
noncomputable def gy(cQ:ByteArray)(c0:(List ay))(c1:Int)(c2:ByteArray):Option (Bool):=
 ((cy c0 cQ c1).bind fun x1=>some (x1.1.toList==c2.toList))
theorem mY(cQ:ByteArray)(c0:(List ay))(c1:Int)(c2:ByteArray)(r:Bool)(h:gy cQ c0 c1 c2=some r):aR Tryz.prog 188 [.v (vs cQ),.v (.ptr [vl aj c0] 0),.v (.ptr [vi c1] 0),.v (.ptr [vs c2] 0)] ⟨[.v (vb r)],[],false⟩:=by
 refine au Tryz.func188 rfl [(.tmp 5)] rfl (fun r=>⟨[.v (vb r)],[],false⟩) (r:=r) ?_
 unfold gy at h
 refine aJ ac [0,1,2,3] [] ?_
 refine sr ?_
 refine aa.cl ac 3 [3,9,10,11] [] ?_
 obtain⟨x1,hx1,h⟩:=bind_some h
 refine aa.ls (xc rq (gA c0 cQ c1 _ hx1)) ?_
 refine bO ac 5 [3,6] [] ?_
 refine aJ ac [5] [] ?_
 refine ah ?_
 obtain rfl:=inj h
 exact aO (f1 fv)
theorem CQ:bg Tryz.prog 188:=az Tryz.func188 (by kernel_rfl) rfl
theorem q8(L r:List ByteArray)(h:ke L=some r):ue Tryz.prog 215 9 1 (L.map eS) (r.map eS):=xD Tryz.Df rfl Tryz.Dg rfl 9 L r h
theorem C2:bg Tryz.prog 215:=az Tryz.func215 (by kernel_rfl) rfl
noncomputable def b5(af:(List ay))(ap:Int)(n5:(List ay))(vq:Int)(vr:ByteArray):Option ((List ByteArray)):=
 (((jH (af.length:Int) (fun(i3:Int) (s3:(List ByteArray))=>((at' af i3).bind fun x7=>((((bI x7.Years ap).bind fun x8=>(bif x8 then((gy x7.Child n5 vq vr).bind fun x9=>some x9)else some false))).bind fun(j10:Bool)=>(bif j10 then((c4 s3 ([x7.Child]:List ByteArray)).bind fun x12=>some x12)else some s3)))) (fun(s3:(List ByteArray))=>s3) 0 ([]:List ByteArray))).bind fun(j1:(List ByteArray))=>((ke j1).bind fun x13=>some x13))
theorem gX(af:(List ay))(ap:Int)(n5:(List ay))(vq:Int)(vr:ByteArray)(r:(List ByteArray))(h:b5 af ap n5 vq vr=some r):aR Tryz.prog 187 [.v (vl aj af),.v (vi ap),.v (.clo 188 [.ptr [vl aj n5] 0,.ptr [vi vq] 0,.ptr [vs vr] 0])] ⟨[.own 9 1 r.length (r.map eS)],[],false⟩:=by
 refine au Tryz.func187 rfl [(.tmp 6)] rfl (fun r=>⟨[.own 9 1 r.length (r.map eS)],[],false⟩) (r:=r) ?_
 unfold b5 at h
 refine aJ ac [0,1,2] [] ?_
 refine aJ ac [0,1,2,7] [7] ?_
 refine ae ?_
 refine aJ ac [1,2,7,10,11,12] [7] ?_
 refine aU h (fun j1=>⟨34,[(7,.own 7)],[(7,oa 9 1 eS j1)]⟩) (fun v2 h=> ?_) (fun j1 h=> ?_)
 refine ax (a:=v2) ?_
 refine bc (r:=v2) (s:=(0,([]:List ByteArray))) _ (fun s3=>⟨34,[(1,vi ap),(2,.clo 188 [.ptr [vl aj n5] 0,.ptr [vi vq] 0,.ptr [vs vr] 0]),(7,.own 7),(10,vl aj af),(11,vi (af.length:Int)),(12,vi s3.1)],[(7,oa 9 1 eS s3.2)]⟩) _ (Le.an) h (fun s3 v4 h=> ?_)
 refine aJ ac [1,2,7,10,11,12,13] [7] ?_
 refine ae ?_
 refine aq h (fun h=> ?_) fun h=> ?_
 refine ai ?_
 refine bq ?_
 refine ae ?_
 refine aU h (fun j5=>⟨34,[(1,vi ap),(2,.clo 188 [.ptr [vl aj n5] 0,.ptr [vi vq] 0,.ptr [vs vr] 0]),(7,.own 7),(10,vl aj af),(11,vi (af.length:Int)),(12,vi s3.1)],[(7,oa 9 1 eS j5)]⟩) (fun v6 h=> ?_) (fun j5 h=> ?_)
 refine ax (a:=v6) ?_
 refine sr ?_
 obtain⟨x7,hx7,h⟩:=bind_some h
 refine aa.ls (aY (L:=af) (f:=aj) (ti:=eo) (tj:=ew) (e:=85) (k:= .i64) ac rfl hx7) ?_
 refine bO ac 3 [1,2,7,9,10,11,12] [7,9] ?_
 refine ae ?_
 refine bn h (fun j10=>⟨34,[(1,vi ap),(2,.clo 188 [.ptr [vl aj n5] 0,.ptr [vi vq] 0,.ptr [vs vr] 0]),(7,.own 7),(9,.ref 9 0),(10,vl aj af),(11,vi (af.length:Int)),(12,vi s3.1),(25,vb j10)],[(7,oa 9 1 eS s3.2),(9,.box (tc aj x7))]⟩) (fun v11 h=> ?_) (fun j10 h=> ?_)
 refine aa.cl ac 3 [1,2,7,9,10,11,12,17,18] [7,9] ?_
 obtain⟨x8,hx8,h⟩:=bind_some h
 refine aa.ls (xc lO (cw x7.Years ap _ hx8)) ?_
 refine aa.cl ac 1 [1,2,7,9,10,11,12,20] [7,9] ?_
 refine aa.cu [(20,fun b=>b)] h (fun h=> ?_) fun h=> ?_
 refine aa.cl ac 3 [1,2,7,9,10,11,12,20,21,23] [7,9] ?_
 obtain⟨x9,hx9,h⟩:=bind_some h
 refine aa.ls (xc CQ (mY x7.Child n5 vq vr _ hx9)) ?_
 refine aa.cl ac 1 [1,2,7,9,10,11,12,25] [7,9] ?_
 refine aa.nil ?_
 obtain rfl:=inj h
 exact Le.an
 refine aa.cl ac 5 [1,2,7,9,10,11,12,25] [7,9] ?_
 refine aa.nil ?_
 obtain rfl:=inj h
 exact Le.an
 refine aq h (fun h=> ?_) fun h=> ?_
 refine aD ?_
 refine aa.cl ac 4 [1,2,10,11,12,26,29] [7,29] ?_
 obtain⟨x12,hx12,h⟩:=bind_some h
 refine aa.a7 (bh (f:=eS) (t:=106) (ti:=bU) (tj:=et) (zs:=[.string (ByteArray.mk #[])]) (e:=9) (m:=1) (d:=7) (xv:= .own 29) hx12 ac rfl rfl rfl rfl (bT (e:=9))) ?_
 refine aa.cl ac 1 [1,2,7,10,11,12] [30] ?_
 refine aa.nil ?_
 obtain rfl:=inj h
 exact bt (cI (Le.rr [30] [(30,7)]))
 refine ai ?_
 obtain rfl:=inj h
 exact bt (cI (Le.an))
 refine aD ?_
 refine aa.cl ac 2 [1,2,7,10,11,12] [7] ?_
 refine aa.nil ?_
 obtain rfl:=inj h
 exact cn (Le.an)
 refine a6 ?_
 obtain rfl:=inj h
 exact cE (cG (cF (cI (Le.an))))
 refine sr ?_
 refine aa.ck ac 1 ⟨34,[(32,.own 7)],[(7,oa 9 1 eS j1)]⟩ ?_
 obtain⟨x13,hx13,h⟩:=bind_some h
 refine aa.a7 (FA (d:=7) (d0:=33) (n:=j1.length) (n':=x13.length) (es:=j1.map eS) C2 (q8 j1 _ hx13) (cN fh _) (cN fh _) rfl rfl rfl (List.length_map _) (List.length_map _)) ?_
 refine bO ac 1 [6] [33] ?_
 refine ah ?_
 obtain rfl:=inj h
 exact aO (f1 (fo fh))
theorem CP:bg Tryz.prog 187:=az Tryz.func187 (by kernel_rfl) rfl
noncomputable def fZ(af:(List ay))(aE:ByteArray)(ap:Int):Option ((List ByteArray)×Int):=
 ((iw af ap ([aE]:List ByteArray)).bind fun x1=>(bif(x1 !=0)then some (([]:List ByteArray),x1)else((b5 af ap af ap aE).bind fun x2=>some (x2,0))))
theorem n8(af:(List ay))(aE:ByteArray)(ap:Int)(r:(List ByteArray)×Int)(h:fZ af aE ap=some r):aR Tryz.prog 143 [.v (vl aj af),.v (vs aE),.v (vi ap)] ⟨[.own 9 1 r.1.length (r.1.map eS),.v (vi r.2)],[],false⟩:=by
 refine au Tryz.func143 rfl [(.tmp 6),(.tmp 7)] rfl (fun r=>⟨[.own 9 1 r.1.length (r.1.map eS),.v (vi r.2)],[],false⟩) (r:=r) ?_
 unfold fZ at h
 refine aJ ac [3,4,5] [3,4,5] ?_
 refine ae ?_
 refine sr ?_
 refine aa.cl ac 4 [3,4,5,9,10,12] [3,4,5,12] ?_
 obtain⟨x1,hx1,h⟩:=bind_some h
 refine aa.ls (xc CO (pn af ap ([aE]:List ByteArray) _ hx1)) ?_
 refine bO ac 1 [3,4,5,8] [3,4,5] ?_
 refine aJ ac [3,4,5,8,15] [3,4,5] ?_
 refine aq h (fun h=> ?_) fun h=> ?_
 refine aJ ac [6,7] [6] ?_
 refine ah ?_
 obtain rfl:=inj h
 exact cY (aO (f2 (fo fh) fv))
 refine ai ?_
 refine bq ?_
 refine sr ?_
 refine aa.cl ac 3 [17,18,19] [3,4,5] ?_
 obtain⟨x2,hx2,h⟩:=bind_some h
 refine aa.ls (xc CP (gX af ap af ap aE _ hx2)) ?_
 refine bO ac 2 [6,7] [20] ?_
 refine ah ?_
 obtain rfl:=inj h
 exact aO (f2 (fo fh) fv)
theorem Ct:bg Tryz.prog 143:=az Tryz.func143 (by kernel_rfl) rfl
noncomputable def fm(aP:Place)(ap:Int):Option (Place):=
 (((jH (aP.Names.length:Int) (fun(i3:Int) (s3:ByteArray×Int×Int×Int×(List Name))=>((at' aP.Names i3).bind fun x7=>(bif(decide (x7.Years.From<ap))then((c4 s3.2.2.2.2 ([(Name.mk x7.Text x7.Language x7.Status (Span.mk x7.Years.From (bM x7.Years.To (bF (ap - 1)))))]:List Name)).bind fun x8=>some (s3.1,s3.2.1,s3.2.2.1,s3.2.2.2.1,x8))else some (s3.1,s3.2.1,s3.2.2.1,s3.2.2.2.1,s3.2.2.2.2)))) (fun(s3:ByteArray×Int×Int×Int×(List Name))=>(s3.1,s3.2.1,s3.2.2.1,s3.2.2.2.1,s3.2.2.2.2)) 0 (aP.Code,aP.Class,aP.Years.From,(bF (ap - 1)),([]:List Name)))).bind fun(j1:ByteArray×Int×Int×Int×(List Name))=>some (Place.mk j1.1 j1.2.1 (Span.mk j1.2.2.1 j1.2.2.2.1) j1.2.2.2.2))
theorem kb(aP:Place)(ap:Int)(r:Place)(h:fm aP ap=some r):aR Tryz.prog 144 [.v (.agg (tc ad aP)),.v (vi ap)] ⟨[.part [vs r.Code,vi r.Class,vi r.Years.From,vi r.Years.To] [] (oa 169 5 ao r.Names)],[],false⟩:=by
 refine au Tryz.func144 rfl [(.cell 4 91)] rfl (fun r=>⟨[.part [vs r.Code,vi r.Class,vi r.Years.From,vi r.Years.To] [] (oa 169 5 ao r.Names)],[],false⟩) (r:=r) ?_
 unfold fm at h
 refine aJ ac [1,2,4] [2,4] ?_
 refine sr ?_
 refine aa.cl ac 9 [1,2,4,9,11,14,16] [2,4] ?_
 refine aa.ls (aZ (v:= .agg [vi aP.Years.From,vi (bF (ap - 1))]) ac rfl) ?_
 refine aa.ls (ra (d:=18) (e:=169) (m:=5) (v:= .agg [vs aP.Code,vi aP.Class,vi aP.Years.From,vi (bF (ap - 1)),.own 18]) ac rfl (by kernel_rfl) rfl (by kernel_rfl) (by kernel_rfl)) ?_
 refine bO ac 2 [1,2,4,5] [2,4,5,18] ?_
 refine ae ?_
 refine aJ ac [1,4,5,20,21,22] [4,5,18] ?_
 refine aU h (fun j1=>⟨47,[(4,.ref 4 0),(5,.ref 5 0)],[(4,.box [vs (ByteArray.mk #[]),vi 0,vi 0,vi 0,vl ao ([]:List Name)]),(5,.box [vs j1.1,vi j1.2.1,vi j1.2.2.1,vi j1.2.2.2.1,.own 18]),(18,oa 169 5 ao j1.2.2.2.2)]⟩) (fun v2 h=> ?_) (fun j1 h=> ?_)
 refine ax (a:=v2) ?_
 refine bc (r:=v2) (s:=(0,aP.Code,aP.Class,aP.Years.From,(bF (ap - 1)),([]:List Name))) _ (fun s3=>⟨47,[(1,vi ap),(4,.ref 4 0),(5,.ref 5 0),(20,vl ao aP.Names),(21,vi (aP.Names.length:Int)),(22,vi s3.1)],[(4,.box [vs (ByteArray.mk #[]),vi 0,vi 0,vi 0,vl ao ([]:List Name)]),(5,.box [vs s3.2.1,vi s3.2.2.1,vi s3.2.2.2.1,vi s3.2.2.2.2.1,.own 18]),(18,oa 169 5 ao s3.2.2.2.2.2)]⟩) _ (Le.an) h (fun s3 v4 h=> ?_)
 refine aJ ac [1,4,5,20,21,22,23] [4,5,18] ?_
 refine ae ?_
 refine aq h (fun h=> ?_) fun h=> ?_
 refine ai ?_
 refine bq ?_
 refine ae ?_
 refine aU h (fun j5=>⟨47,[(1,vi ap),(4,.ref 4 0),(5,.ref 5 0),(20,vl ao aP.Names),(21,vi (aP.Names.length:Int)),(22,vi s3.1)],[(4,.box [vs (ByteArray.mk #[]),vi 0,vi 0,vi 0,vl ao ([]:List Name)]),(5,.box [vs j5.1,vi j5.2.1,vi j5.2.2.1,vi j5.2.2.2.1,.own 18]),(18,oa 169 5 ao j5.2.2.2.2)]⟩) (fun v6 h=> ?_) (fun j5 h=> ?_)
 refine ax (a:=v6) ?_
 refine sr ?_
 obtain⟨x7,hx7,h⟩:=bind_some h
 refine aa.ls (aY (L:=aP.Names) (f:=ao) (ti:=eb) (tj:=dg) (e:=169) (k:= .i64) ac rfl hx7) ?_
 refine bO ac 3 [1,4,5,7,20,21,22] [4,5,7,18] ?_
 refine aJ ac [1,4,5,7,20,21,22,30] [4,5,7,18] ?_
 refine aq h (fun h=> ?_) fun h=> ?_
 refine aJ ac [1,4,5,7,20,21,22] [4,5,7,18] ?_
 refine aD ?_
 refine aa.cl ac 4 [1,4,5,20,21,22,40,42] [4,5,18,42] ?_
 refine aa.le (Le.BX (d:=5) (j:=4) (k:=18) (cs:=[vs s3.2.1,vi s3.2.2.1,vi s3.2.2.2.1,vi s3.2.2.2.2.1,.own 18]) (by kernel_rfl) rfl) ?_
 obtain⟨x8,hx8,h⟩:=bind_some h
 refine aa.a7 (bh (f:=ao) (t:=89) (ti:=eb) (tj:=dg) (zs:=[.string (ByteArray.mk #[]),.string (ByteArray.mk #[]),.int .i64 0,.int .i64 0,.int .i64 0]) (e:=169) (m:=5) (d:=18) (xv:= .own 42) hx8 ac rfl rfl rfl rfl (bT (e:=169))) ?_
 refine aa.cl ac 2 [1,4,5,20,21,22] [4,5,43] ?_
 refine aa.nil ?_
 obtain rfl:=inj h
 exact bt (cI (Le.rr [4,5,43] [(43,18)]))
 refine ai ?_
 obtain rfl:=inj h
 exact bt (cI (Le.an))
 refine aD ?_
 refine aa.cl ac 2 [1,4,5,20,21,22] [4,5,18] ?_
 refine aa.nil ?_
 obtain rfl:=inj h
 exact cn (Le.an)
 refine a6 ?_
 obtain rfl:=inj h
 exact cE (cG (cF (cI (Le.an))))
 refine aJ ac [4] [4,18] ?_
 refine ah ?_
 obtain rfl:=inj h
 exact aO (f1 (AP (d:=18) [vs j1.1,vi j1.2.1,vi j1.2.2.1,vi j1.2.2.2.1] [] (cA ac (d:=4) (cs:=[vs j1.1,vi j1.2.1,vi j1.2.2.1,vi j1.2.2.2.1,.own 18]) (ti:=bG) (by kernel_rfl) (by kernel_rfl) (by kernel_rfl) (by kernel_rfl)) (by kernel_rfl) (cN bQ _) rfl rfl SV.ez SV.ez (by kernel_rfl)))
theorem yf:bg Tryz.prog 144:=az Tryz.func144 (by kernel_rfl) rfl
noncomputable def iv(af:(List ay))(aE:ByteArray)(ap:Int):Option ((List ay)):=
 (((jH (af.length:Int) (fun(i3:Int) (s3:(List ay))=>((at' af i3).bind fun x7=>(((bif((x7.Child.toList==aE.toList) || (x7.Parent.toList==aE.toList))then some (ay.mk x7.Child x7.Parent (Span.mk x7.Years.From (bM x7.Years.To (bF (ap - 1)))))else some x7)).bind fun(j8:ay)=>(bif(decide (j8.Years.From≤j8.Years.To))then((c4 s3 ([j8]:List ay)).bind fun x10=>some x10)else some s3)))) (fun(s3:(List ay))=>s3) 0 ([]:List ay))).bind fun(j1:(List ay))=>some j1)
theorem pj(af:(List ay))(aE:ByteArray)(ap:Int)(r:(List ay))(h:iv af aE ap=some r):aR Tryz.prog 145 [.v (vl aj af),.v (vs aE),.v (vi ap)] ⟨[.own 85 4 r.length (r.map aj)],[],false⟩:=by
 refine au Tryz.func145 rfl [(.tmp 6)] rfl (fun r=>⟨[.own 85 4 r.length (r.map aj)],[],false⟩) (r:=r) ?_
 unfold iv at h
 refine aJ ac [0,1,2] [] ?_
 refine aJ ac [0,1,2,7] [7] ?_
 refine ae ?_
 refine aJ ac [1,2,7,10,11,12] [7] ?_
 refine aU h (fun j1=>⟨47,[(7,.own 7)],[(7,oa 85 4 aj j1)]⟩) (fun v2 h=> ?_) (fun j1 h=> ?_)
 refine ax (a:=v2) ?_
 refine bc (r:=v2) (s:=(0,([]:List ay))) _ (fun s3=>⟨47,[(1,vs aE),(2,vi ap),(7,.own 7),(10,vl aj af),(11,vi (af.length:Int)),(12,vi s3.1)],[(7,oa 85 4 aj s3.2)]⟩) _ (Le.an) h (fun s3 v4 h=> ?_)
 refine aJ ac [1,2,7,10,11,12,13] [7] ?_
 refine ae ?_
 refine aq h (fun h=> ?_) fun h=> ?_
 refine ai ?_
 refine bq ?_
 refine ae ?_
 refine aU h (fun j5=>⟨47,[(1,vs aE),(2,vi ap),(7,.own 7),(10,vl aj af),(11,vi (af.length:Int)),(12,vi s3.1)],[(7,oa 85 4 aj j5)]⟩) (fun v6 h=> ?_) (fun j5 h=> ?_)
 refine ax (a:=v6) ?_
 refine sr ?_
 obtain⟨x7,hx7,h⟩:=bind_some h
 refine aa.ls (aY (L:=af) (f:=aj) (ti:=eo) (tj:=ew) (e:=85) (k:= .i64) ac rfl hx7) ?_
 refine bO ac 3 [1,2,7,9,10,11,12] [7,9] ?_
 refine ae ?_
 refine ae ?_
 refine c7 ⟨47,[(1,vs aE),(2,vi ap),(7,.own 7),(9,.ref 9 0),(10,vl aj af),(11,vi (af.length:Int)),(12,vi s3.1),(25,vb ((x7.Child.toList==aE.toList) || (x7.Parent.toList==aE.toList)))],[(7,oa 85 4 aj s3.2),(9,.box (tc aj x7))]⟩ ?_ ?_
 refine aa.ck ac 5 ⟨47,[(1,vs aE),(2,vi ap),(7,.own 7),(9,.ref 9 0),(10,vl aj af),(11,vi (af.length:Int)),(12,vi s3.1),(20,vb (x7.Child.toList==aE.toList))],[(7,oa 85 4 aj s3.2),(9,.box (tc aj x7))]⟩ ?_
 generalize (x7.Child.toList==aE.toList)=bb
 cases bb
 refine aa.cl ac 5 [1,2,7,9,10,11,12,25] [7,9] ?_
 exact aa.nil (Le.an)
 refine aa.cl ac 5 [1,2,7,9,10,11,12,25] [7,9] ?_
 exact aa.nil (Le.an)
 refine aU h (fun j8=>⟨47,[(1,vs aE),(2,vi ap),(7,.own 7),(9,.ref 9 0),(10,vl aj af),(11,vi (af.length:Int)),(12,vi s3.1)],[(7,oa 85 4 aj s3.2),(9,.box (tc aj j8))]⟩) (fun v9 h=> ?_) (fun j8 h=> ?_)
 refine aq h (fun h=> ?_) fun h=> ?_
 refine aD ?_
 refine aa.cl ac 9 [1,2,7,9,10,11,12] [7,9] ?_
 refine aa.nil ?_
 obtain rfl:=inj h
 exact cI (Le.an)
 refine ai ?_
 obtain rfl:=inj h
 exact cI (Le.an)
 refine aJ ac [1,2,7,9,10,11,12,40] [7,9] ?_
 refine aq h (fun h=> ?_) fun h=> ?_
 refine aD ?_
 refine aa.cl ac 3 [1,2,10,11,12,41,43] [7,43] ?_
 obtain⟨x10,hx10,h⟩:=bind_some h
 refine aa.a7 (bh (f:=aj) (t:=33) (ti:=eo) (tj:=ew) (zs:=[.string (ByteArray.mk #[]),.string (ByteArray.mk #[]),.int .i64 0,.int .i64 0]) (e:=85) (m:=4) (d:=7) (xv:= .own 43) hx10 ac rfl rfl rfl rfl (bT (e:=85))) ?_
 refine aa.cl ac 1 [1,2,7,10,11,12] [44] ?_
 refine aa.nil ?_
 obtain rfl:=inj h
 exact bt (cI (Le.rr [44] [(44,7)]))
 refine ai ?_
 obtain rfl:=inj h
 exact bt (cI (Le.an))
 refine aD ?_
 refine aa.cl ac 2 [1,2,7,10,11,12] [7] ?_
 refine aa.nil ?_
 obtain rfl:=inj h
 exact cn (Le.an)
 refine a6 ?_
 obtain rfl:=inj h
 exact cE (cG (cF (cI (Le.an))))
 refine aJ ac [6] [7] ?_
 refine ah ?_
 obtain rfl:=inj h
 exact aO (f1 (fo dj))
theorem Cu:bg Tryz.prog 145:=az Tryz.func145 (by kernel_rfl) rfl
noncomputable def dN(aW:World)(aE:ByteArray)(ap:Int):Option (World):=
 ((cD aW.Places aE).bind fun x1=>((at' aW.Places x1.1).bind fun x2=>((fm x2 ap).bind fun x3=>((at' aW.Places x1.1).bind fun _=>((iv aW.Links aE ap).bind fun x5=>some (World.mk (List.set aW.Places (Int.toNat x1.1) x3) x5))))))
theorem k8(aW:World)(aE:ByteArray)(ap:Int)(r:World)(h:dN aW aE ap=some r):kQ Tryz.prog 93 [.ref 1000000 0,vs aE,vi ap] [(1000000,.box [.own 3000000,.own 3000001]),(3000000,.deep 91 5 aW.Places.length [.flat,.flat,.flat,.flat,(.sl 169 5 [.flat,.flat,.flat,.flat,.flat])] (aW.Places.map ad)),(3000001,oa 85 4 aj aW.Links)] [(1000000,.box [.own 3000000,.own 3000001]),(3000000,.deep 91 5 r.Places.length [.flat,.flat,.flat,.flat,(.sl 169 5 [.flat,.flat,.flat,.flat,.flat])] (r.Places.map ad)),(3000001,oa 85 4 aj r.Links)] []:=by
 refine kk Tryz.func93 rfl [] rfl (fun r=>[(1000000,.box [.own 3000000,.own 3000001]),(3000000,.deep 91 5 r.Places.length [.flat,.flat,.flat,.flat,(.sl 169 5 [.flat,.flat,.flat,.flat,.flat])] (r.Places.map ad)),(3000001,oa 85 4 aj r.Links)]) (fun r=>[]) (r:=r) (c5 SV.ez (c5 trivial (c5 (cN dj _) lx))) ?_
 unfold dN at h
 refine sr ?_
 refine aa.cl ac 5 [0,1,2,12,13] [1000000,3000000,3000001] ?_
 obtain⟨x1,hx1,h⟩:=bind_some h
 refine aa.ls (xc o7 (eC aW.Places aE _ hx1)) ?_
 refine bO ac 5 [0,1,2,6] [1000000,3000000,3000001] ?_
 refine ae ?_
 obtain⟨x2,hx2,h⟩:=bind_some h
 obtain⟨x3,hx3,h⟩:=bind_some h
 obtain⟨x4,hx4,h⟩:=bind_some h
 refine cV mixed ?_
 refine aH.za (σE:=⟨42,[(0,.ref 1000000 0),(1,vs aE),(2,vi ap)],[(1000000,.box [.own 3000000,.own 3000001]),(3000000,.deep 91 5 (List.set aW.Places (Int.toNat x1.1) x3).length [.flat,.flat,.flat,.flat,(.sl 169 5 [.flat,.flat,.flat,.flat,.flat])] ((List.set aW.Places (Int.toNat x1.1) x3).map ad)),(3000001,oa 85 4 aj aW.Links)]⟩) (n:=16) (L0:=(bA 16 0)) (by kernel_rfl) (by kernel_rfl) (fun K hk=> ?_) ?_
 refine DE.sh 0 (bA 16 65535) ⟨42,[(0,.ref 1000000 0),(1,vs aE),(2,vi ap)],[(1000000,.box [.own 3000000,.own 3000001]),(3000000,.deep 91 5 (List.set aW.Places (Int.toNat x1.1) x3).length [.flat,.flat,.flat,.flat,(.sl 169 5 [.flat,.flat,.flat,.flat,.flat])] ((List.set aW.Places (Int.toNat x1.1) x3).map ad)),(3000001,oa 85 4 aj aW.Links)]⟩ ?_ fun d20=> ?_
 exact DE.done (by kernel_rfl) hk
 refine DE.sh 1 (bA 16 32767) ⟨42,[(0,.ref 1000000 0),(1,vs aE),(2,vi ap),(30,.agg [vs x3.Code,vi x3.Class,vi x3.Years.From,vi x3.Years.To,.own 30]),(31,.eref 3000000 5 (Int.toNat x1.1) 0)],[(30,oa 169 5 ao x3.Names),(1000000,.box [.own 3000000,.own 3000001]),(3000000,.deep 91 5 aW.Places.length [.flat,.flat,.flat,.flat,(.sl 169 5 [.flat,.flat,.flat,.flat,.flat])] (aW.Places.map ad)),(3000001,oa 85 4 aj aW.Links)]⟩ ?_ fun d19=> ?_
 exact DE.a1 15 d20 rfl (ar.le (pS (d:=3000000) (m:=5) (j:=0) (L:=aW.Places) (f:=ad) (x:=x3) (z:=x4) (ti:=bG) (e:=91) (ss:=[.flat,.flat,.flat,.flat,(.sl 169 5 [.flat,.flat,.flat,.flat,.flat])]) (ss2:=[.flat,.flat,.flat,.flat,(.sl 169 5 [.flat,.flat,.flat,.flat,.flat])]) (ts:=[.str x3.Code,.int .i64 x3.Class,.int .i64 x3.Years.From,.int .i64 x3.Years.To,.sl x3.Names.length (x3.Names.map ao)]) (vs:=[vs x3.Code,vi x3.Class,vi x3.Years.From,vi x3.Years.To,.own 30]) (v:= .agg [vs x3.Code,vi x3.Class,vi x3.Years.From,vi x3.Years.To,.own 30]) (ds:=[30]) ac rfl rfl hx4 (.cons _ _ _ [] _ _ _ _ (.flat (.str x3.Code) rfl) (.cons _ _ _ [] _ _ _ _ (.flat (.int .i64 x3.Class) rfl) (.cons _ _ _ [] _ _ _ _ (.flat (.int .i64 x3.Years.From) rfl) (.cons _ _ _ [] _ _ _ _ (.flat (.int .i64 x3.Years.To) rfl) (.cons _ _ _ [30] _ _ _ _ (ug (d:=30) (e:=169) (m:=5) (n:=x3.Names.length) (es:=x3.Names.map ao) (ss:=[.flat,.flat,.flat,.flat,.flat]) (cN bQ _)) .nil (by decide)) (by decide)) (by decide)) (by decide)) (by decide))) Le.an)
 refine DE.sh 2 (bA 16 16383) ⟨42,[(0,.ref 1000000 0),(1,vs aE),(2,vi ap),(20,.own 3000000),(21,vi x1.1),(30,.agg [vs x3.Code,vi x3.Class,vi x3.Years.From,vi x3.Years.To,.own 30])],[(30,oa 169 5 ao x3.Names),(1000000,.box [.own 3000000,.own 3000001]),(3000000,.deep 91 5 aW.Places.length [.flat,.flat,.flat,.flat,(.sl 169 5 [.flat,.flat,.flat,.flat,.flat])] (aW.Places.map ad)),(3000001,oa 85 4 aj aW.Links)]⟩ ?_ fun d18=> ?_
 exact DE.a1 14 d19 rfl (ar.l (da (d:=3000000) (L:=aW.Places) (f:=ad) (ti:=bR) (tj:=bG) (e:=91) (e':=91) (m:=5) (k:= .i64) (ss:=[.flat,.flat,.flat,.flat,(.sl 169 5 [.flat,.flat,.flat,.flat,.flat])]) ac rfl hx4))
 refine DE.sh 3 (bA 16 16375) ⟨42,[(0,.ref 1000000 0),(1,vs aE),(2,vi ap),(19,.ref 1000000 0),(21,vi x1.1),(30,.agg [vs x3.Code,vi x3.Class,vi x3.Years.From,vi x3.Years.To,.own 30])],[(30,oa 169 5 ao x3.Names),(1000000,.box [.own 3000000,.own 3000001]),(3000000,.deep 91 5 aW.Places.length [.flat,.flat,.flat,.flat,(.sl 169 5 [.flat,.flat,.flat,.flat,.flat])] (aW.Places.map ad)),(3000001,oa 85 4 aj aW.Links)]⟩ ?_ fun d17=> ?_
 exact DE.a1 3 d18 rfl (ar.n ac)
 refine DE.sh 3 (bA 16 8191) ⟨42,[(0,.ref 1000000 0),(1,vs aE),(2,vi ap),(20,.own 3000000),(21,vi x1.1),(28,.agg [vs x2.Code,vi x2.Class,vi x2.Years.From,vi x2.Years.To,.own 3001028]),(29,vi ap)],[(1000000,.box [.own 3000000,.own 3000001]),(3000000,.hol 91 5 aW.Places.length [.flat,.flat,.flat,.flat,(.sl 169 5 [.flat,.flat,.flat,.flat,.flat])] (aW.Places.map ad) (Int.toNat x1.1) 4 3001028),(3000001,oa 85 4 aj aW.Links),(3001028,oa 169 5 ao x2.Names)]⟩ ?_ fun d16=> ?_
 exact DE.a1 13 d18 rfl (ar.le (ar.le (ar.ofL (xc yf (kb x2 ap _ hx3)) (by kernel_rfl)) (sY (L:=aW.Places) (f:=ad) (x:=x2) (d:=3000000) (k:=3001028) (e:=91) (m:=5) (j:=4) (e':=169) (m':=5) (n':=x2.Names.length) (ss:=[.flat,.flat,.flat,.flat,(.sl 169 5 [.flat,.flat,.flat,.flat,.flat])]) (ss':=[.flat,.flat,.flat,.flat,.flat]) (es':=x2.Names.map ao) hx2 (cN bQ _))) Le.an)
 refine DE.sh 4 (bA 16 8183) ⟨42,[(0,.ref 1000000 0),(1,vs aE),(2,vi ap),(19,.ref 1000000 0),(21,vi x1.1),(28,.agg [vs x2.Code,vi x2.Class,vi x2.Years.From,vi x2.Years.To,.own 3001028]),(29,vi ap)],[(1000000,.box [.own 3000000,.own 3000001]),(3000000,.hol 91 5 aW.Places.length [.flat,.flat,.flat,.flat,(.sl 169 5 [.flat,.flat,.flat,.flat,.flat])] (aW.Places.map ad) (Int.toNat x1.1) 4 3001028),(3000001,oa 85 4 aj aW.Links),(3001028,oa 169 5 ao x2.Names)]⟩ ?_ fun d15=> ?_
 exact DE.al (.c 3 d16 rfl (ar.n ac) (.c 13 d17 rfl (ar.le (ar.le (ar.ofL (xc yf (kb x2 ap _ hx3)) (by kernel_rfl)) (sY (L:=aW.Places) (f:=ad) (x:=x2) (d:=3000000) (k:=3001028) (e:=91) (m:=5) (j:=4) (e':=169) (m':=5) (n':=x2.Names.length) (ss:=[.flat,.flat,.flat,.flat,(.sl 169 5 [.flat,.flat,.flat,.flat,.flat])]) (ss':=[.flat,.flat,.flat,.flat,.flat]) (es':=x2.Names.map ao) hx2 (cN bQ _))) Le.an) .n))
 refine DE.sh 4 (bA 16 6143) ⟨42,[(0,.ref 1000000 0),(1,vs aE),(2,vi ap),(20,.own 3000000),(21,vi x1.1),(27,.eref 3000000 5 (Int.toNat x1.1) 0),(29,vi ap)],[(1000000,.box [.own 3000000,.own 3000001]),(3000000,.deep 91 5 aW.Places.length [.flat,.flat,.flat,.flat,(.sl 169 5 [.flat,.flat,.flat,.flat,.flat])] (aW.Places.map ad)),(3000001,oa 85 4 aj aW.Links)]⟩ ?_ fun d14=> ?_
 exact DE.a1 11 d16 rfl (ar.le (wT (L:=aW.Places) (f:=ad) (d:=3000000) (k:=3001028) (e:=91) (m:=5) (j:=4) (e':=169) (m':=5) (n':=x2.Names.length) (ss:=[.flat,.flat,.flat,.flat,(.sl 169 5 [.flat,.flat,.flat,.flat,.flat])]) (ss':=[.flat,.flat,.flat,.flat,.flat]) (es':=x2.Names.map ao) (ti:=bG) (y:=oa 169 5 ao x2.Names) hx2 ac rfl rfl (.inr ⟨rfl,rfl⟩)) Le.an)
 refine DE.sh 5 (bA 16 6135) ⟨42,[(0,.ref 1000000 0),(1,vs aE),(2,vi ap),(19,.ref 1000000 0),(21,vi x1.1),(27,.eref 3000000 5 (Int.toNat x1.1) 0),(29,vi ap)],[(1000000,.box [.own 3000000,.own 3000001]),(3000000,.deep 91 5 aW.Places.length [.flat,.flat,.flat,.flat,(.sl 169 5 [.flat,.flat,.flat,.flat,.flat])] (aW.Places.map ad)),(3000001,oa 85 4 aj aW.Links)]⟩ ?_ fun d13=> ?_
 exact DE.al (.c 3 d14 rfl (ar.n ac) (.c 11 d15 rfl (ar.le (wT (L:=aW.Places) (f:=ad) (d:=3000000) (k:=3001028) (e:=91) (m:=5) (j:=4) (e':=169) (m':=5) (n':=x2.Names.length) (ss:=[.flat,.flat,.flat,.flat,(.sl 169 5 [.flat,.flat,.flat,.flat,.flat])]) (ss':=[.flat,.flat,.flat,.flat,.flat]) (es':=x2.Names.map ao) (ti:=bG) (y:=oa 169 5 ao x2.Names) hx2 ac rfl rfl (.inr ⟨rfl,rfl⟩)) Le.an) .n))
 refine DE.sh 5 (bA 16 5119) ⟨42,[(0,.ref 1000000 0),(1,vs aE),(2,vi ap),(20,.own 3000000),(21,vi x1.1),(25,.own 3000000),(26,vi x1.1),(29,vi ap)],[(1000000,.box [.own 3000000,.own 3000001]),(3000000,.deep 91 5 aW.Places.length [.flat,.flat,.flat,.flat,(.sl 169 5 [.flat,.flat,.flat,.flat,.flat])] (aW.Places.map ad)),(3000001,oa 85 4 aj aW.Links)]⟩ ?_ fun d12=> ?_
 exact DE.a1 10 d14 rfl (ar.l (da (d:=3000000) (L:=aW.Places) (f:=ad) (ti:=bR) (tj:=bG) (e:=91) (e':=91) (m:=5) (k:= .i64) (ss:=[.flat,.flat,.flat,.flat,(.sl 169 5 [.flat,.flat,.flat,.flat,.flat])]) ac rfl hx2))
 refine DE.sh 6 (bA 16 5111) ⟨42,[(0,.ref 1000000 0),(1,vs aE),(2,vi ap),(19,.ref 1000000 0),(21,vi x1.1),(25,.own 3000000),(26,vi x1.1),(29,vi ap)],[(1000000,.box [.own 3000000,.own 3000001]),(3000000,.deep 91 5 aW.Places.length [.flat,.flat,.flat,.flat,(.sl 169 5 [.flat,.flat,.flat,.flat,.flat])] (aW.Places.map ad)),(3000001,oa 85 4 aj aW.Links)]⟩ ?_ fun d11=> ?_
 exact DE.al (.c 3 d12 rfl (ar.n ac) (.c 10 d13 rfl (ar.l (da (d:=3000000) (L:=aW.Places) (f:=ad) (ti:=bR) (tj:=bG) (e:=91) (e':=91) (m:=5) (k:= .i64) (ss:=[.flat,.flat,.flat,.flat,(.sl 169 5 [.flat,.flat,.flat,.flat,.flat])]) ac rfl hx2)) .n))
 refine DE.sh 6 (bA 16 4863) ⟨42,[(0,.ref 1000000 0),(1,vs aE),(2,vi ap),(20,.own 3000000),(21,vi x1.1),(24,.ref 1000000 0),(26,vi x1.1),(29,vi ap)],[(1000000,.box [.own 3000000,.own 3000001]),(3000000,.deep 91 5 aW.Places.length [.flat,.flat,.flat,.flat,(.sl 169 5 [.flat,.flat,.flat,.flat,.flat])] (aW.Places.map ad)),(3000001,oa 85 4 aj aW.Links)]⟩ ?_ fun d10=> ?_
 exact DE.a1 8 d12 rfl (ar.n ac)
 refine DE.sh 7 (bA 16 4855) ⟨42,[(0,.ref 1000000 0),(1,vs aE),(2,vi ap),(19,.ref 1000000 0),(21,vi x1.1),(24,.ref 1000000 0),(26,vi x1.1),(29,vi ap)],[(1000000,.box [.own 3000000,.own 3000001]),(3000000,.deep 91 5 aW.Places.length [.flat,.flat,.flat,.flat,(.sl 169 5 [.flat,.flat,.flat,.flat,.flat])] (aW.Places.map ad)),(3000001,oa 85 4 aj aW.Links)]⟩ ?_ fun d9=> ?_
 exact DE.al (.c 3 d10 rfl (ar.n ac) (.c 8 d11 rfl (ar.n ac) .n))
 refine DE.sh 8 (bA 16 759) ⟨42,[(0,.ref 1000000 0),(1,vs aE),(2,vi ap),(19,.ref 1000000 0),(21,vi x1.1),(24,.ref 1000000 0),(26,vi x1.1)],[(1000000,.box [.own 3000000,.own 3000001]),(3000000,.deep 91 5 aW.Places.length [.flat,.flat,.flat,.flat,(.sl 169 5 [.flat,.flat,.flat,.flat,.flat])] (aW.Places.map ad)),(3000001,oa 85 4 aj aW.Links)]⟩ ?_ fun d8=> ?_
 exact DE.tk 12 d9 rfl (.inl rfl) (ar.n ac)
 refine DE.sh 9 (bA 16 247) ⟨42,[(0,.ref 1000000 0),(1,vs aE),(2,vi ap),(6,vi x1.1),(19,.ref 1000000 0),(21,vi x1.1),(24,.ref 1000000 0)],[(1000000,.box [.own 3000000,.own 3000001]),(3000000,.deep 91 5 aW.Places.length [.flat,.flat,.flat,.flat,(.sl 169 5 [.flat,.flat,.flat,.flat,.flat])] (aW.Places.map ad)),(3000001,oa 85 4 aj aW.Links)]⟩ ?_ fun d7=> ?_
 exact DE.tk 9 d8 rfl (.inl rfl) (ar.n ac)
 refine DE.sh 10 (bA 16 119) ⟨42,[(0,.ref 1000000 0),(1,vs aE),(2,vi ap),(6,vi x1.1),(19,.ref 1000000 0),(21,vi x1.1),(23,.ref 1000000 0)],[(1000000,.box [.own 3000000,.own 3000001]),(3000000,.deep 91 5 aW.Places.length [.flat,.flat,.flat,.flat,(.sl 169 5 [.flat,.flat,.flat,.flat,.flat])] (aW.Places.map ad)),(3000001,oa 85 4 aj aW.Links)]⟩ ?_ fun d6=> ?_
 exact DE.tw ac 7 d7 rfl (ar.n ac)
 refine DE.sh 11 (bA 16 55) ⟨42,[(0,.ref 1000000 0),(1,vs aE),(2,vi ap),(6,vi x1.1),(19,.ref 1000000 0),(21,vi x1.1),(22,.ref 1000000 0)],[(1000000,.box [.own 3000000,.own 3000001]),(3000000,.deep 91 5 aW.Places.length [.flat,.flat,.flat,.flat,(.sl 169 5 [.flat,.flat,.flat,.flat,.flat])] (aW.Places.map ad)),(3000001,oa 85 4 aj aW.Links)]⟩ ?_ fun d5=> ?_
 exact DE.tw ac 6 d6 rfl (ar.n ac)
 refine DE.sh 12 (bA 16 23) ⟨42,[(0,.ref 1000000 0),(1,vs aE),(2,vi ap),(6,vi x1.1),(19,.ref 1000000 0),(21,vi x1.1)],[(1000000,.box [.own 3000000,.own 3000001]),(3000000,.deep 91 5 aW.Places.length [.flat,.flat,.flat,.flat,(.sl 169 5 [.flat,.flat,.flat,.flat,.flat])] (aW.Places.map ad)),(3000001,oa 85 4 aj aW.Links)]⟩ ?_ fun d4=> ?_
 exact DE.tk 5 d5 rfl (.inl rfl) (ar.n ac)
 refine DE.sh 13 (bA 16 7) ⟨42,[(0,.ref 1000000 0),(1,vs aE),(2,vi ap),(6,vi x1.1),(19,.ref 1000000 0)],[(1000000,.box [.own 3000000,.own 3000001]),(3000000,.deep 91 5 aW.Places.length [.flat,.flat,.flat,.flat,(.sl 169 5 [.flat,.flat,.flat,.flat,.flat])] (aW.Places.map ad)),(3000001,oa 85 4 aj aW.Links)]⟩ ?_ fun d3=> ?_
 exact DE.tk 4 d4 rfl (.inl rfl) (ar.n ac)
 refine DE.sh 14 (bA 16 3) ⟨42,[(0,.ref 1000000 0),(1,vs aE),(2,vi ap),(6,vi x1.1),(18,.ref 1000000 0)],[(1000000,.box [.own 3000000,.own 3000001]),(3000000,.deep 91 5 aW.Places.length [.flat,.flat,.flat,.flat,(.sl 169 5 [.flat,.flat,.flat,.flat,.flat])] (aW.Places.map ad)),(3000001,oa 85 4 aj aW.Links)]⟩ ?_ fun d2=> ?_
 exact DE.tw ac 2 d3 rfl (ar.n ac)
 refine DE.sh 15 (bA 16 1) ⟨42,[(0,.ref 1000000 0),(1,vs aE),(2,vi ap),(6,vi x1.1),(17,.ref 1000000 0)],[(1000000,.box [.own 3000000,.own 3000001]),(3000000,.deep 91 5 aW.Places.length [.flat,.flat,.flat,.flat,(.sl 169 5 [.flat,.flat,.flat,.flat,.flat])] (aW.Places.map ad)),(3000001,oa 85 4 aj aW.Links)]⟩ ?_ fun d1=> ?_
 exact DE.tw ac 1 d2 rfl (ar.n ac)
 exact DE.tk 0 d1 rfl (.inl rfl) (ar.n ac)
 refine bq ?_
 refine aD ?_
 refine aa.cl ac 7 [32,36,37,38] [1000000,3000000,3000001] ?_
 obtain⟨x5,hx5,h⟩:=bind_some h
 refine aa.ls (xc Cu (pj aW.Links aE ap _ hx5)) ?_
 refine aa.ck ac 2 ⟨42,[(39,.own 39),(41,.ref 1000000 1)],[(39,oa 85 4 aj x5),(1000000,.box [.own 3000000,.own 3000001]),(3000000,.deep 91 5 (List.set aW.Places (Int.toNat x1.1) x3).length [.flat,.flat,.flat,.flat,(.sl 169 5 [.flat,.flat,.flat,.flat,.flat])] ((List.set aW.Places (Int.toNat x1.1) x3).map ad)),(3000001,oa 85 4 aj aW.Links)]⟩ ?_
 refine aa.a7 (oA (d:=1000000) (k:=1) (ti:=eo) (cs:=[.own 3000000,.own 3000001]) (vs:=[.own 39]) (v:= .own 39) ac rfl rfl) ?_
 refine aa.le (Le.less _ [3000001]) ?_
 refine aa.le (Le.tp 39 3000001) ?_
 refine aa.nil ?_
 obtain rfl:=inj h
 exact FI (fw ac)
theorem AJ:bg Tryz.prog 93:=az Tryz.func93 (by kernel_rfl) rfl
noncomputable def fr(aW:World)(aC:Change):Option (Int×World):=
 ((fZ aW.Links aC.Code aC.Year).bind fun x1=>(((dt (x1.1.length:Int) (fun(i4:Int) (s4:(List Place)×(List ay))=>((at' x1.1 i4).bind fun x8=>((c8 (World.mk s4.1 s4.2) x8 aC.Other aC.Year).bind fun x9=>(bif(x9.1 !=0)then some (.inr (.inr (x9.1,x9.2)))else some (.inl (x9.2.Places,x9.2.Links)))))) (fun(s4:(List Place)×(List ay))=>(.inl (s4.1,s4.2))) 0 (aW.Places,aW.Links))).bind (Sum.elim (fun(j2:(List Place)×(List ay))=>((dN (World.mk j2.1 j2.2) aC.Code aC.Year).bind fun x10=>some (0,x10))) some)))
theorem nj(aW:World)(aC:Change)(r:Int×World)(h:fr aW aC=some r):kQ Tryz.prog 92 [.ref 1000000 0,.agg (tc aF aC)] [(1000000,.box [.own 3000000,.own 3000001]),(3000000,.deep 91 5 aW.Places.length [.flat,.flat,.flat,.flat,(.sl 169 5 [.flat,.flat,.flat,.flat,.flat])] (aW.Places.map ad)),(3000001,oa 85 4 aj aW.Links)] [(1000000,.box [.own 3000000,.own 3000001]),(3000000,.deep 91 5 r.2.Places.length [.flat,.flat,.flat,.flat,(.sl 169 5 [.flat,.flat,.flat,.flat,.flat])] (r.2.Places.map ad)),(3000001,oa 85 4 aj r.2.Links)] [vi r.1]:=by
 refine kk Tryz.func92 rfl [(.tmp 4)] rfl (fun r=>[(1000000,.box [.own 3000000,.own 3000001]),(3000000,.deep 91 5 r.2.Places.length [.flat,.flat,.flat,.flat,(.sl 169 5 [.flat,.flat,.flat,.flat,.flat])] (r.2.Places.map ad)),(3000001,oa 85 4 aj r.2.Links)]) (fun r=>[vi r.1]) (r:=r) (c5 SV.ez (c5 trivial (c5 (cN dj _) lx))) ?_
 unfold fr at h
 refine aJ ac [0,3] [3,1000000,3000000,3000001] ?_
 refine ae ?_
 refine cV mixed ?_
 refine aH.cl ac false 8 [0,3,14,16,18] [3,1000000,3000000,3000001] ?_
 obtain⟨x1,hx1,h⟩:=bind_some h
 refine aH.step (xc Ct (n8 aW.Links aC.Code aC.Year _ hx1)) ?_
 refine aH.cl ac false 5 [0,3,5] [3,19,1000000,3000000,3000001] ?_
 refine aH.nx ?_
 refine ae ?_
 refine aJ ac [0,3,22,23,24] [3,19,1000000,3000000,3000001] ?_
 refine bp (r:=r) h (fun j2=>⟨45,[(0,.ref 1000000 0),(3,.ref 3 0)],[(3,.box (tc aF aC)),(1000000,.box [.own 3000000,.own 3000001]),(3000000,.deep 91 5 j2.1.length [.flat,.flat,.flat,.flat,(.sl 169 5 [.flat,.flat,.flat,.flat,.flat])] (j2.1.map ad)),(3000001,oa 85 4 aj j2.2)]⟩) (fun v3 h=> ?_) (fun j2 h=> ?_)
 refine ax (a:=v3) ?_
 refine bc (r:=v3) (s:=(0,aW.Places,aW.Links)) _ (fun s4=>⟨45,[(0,.ref 1000000 0),(3,.ref 3 0),(22,.own 22),(23,vi (x1.1.length:Int)),(24,vi s4.1)],[(3,.box (tc aF aC)),(22,oa 9 1 eS x1.1),(1000000,.box [.own 3000000,.own 3000001]),(3000000,.deep 91 5 s4.2.1.length [.flat,.flat,.flat,.flat,(.sl 169 5 [.flat,.flat,.flat,.flat,.flat])] (s4.2.1.map ad)),(3000001,oa 85 4 aj s4.2.2)]⟩) _ (Le.rr [3,19,1000000,3000000,3000001] [(19,22)]) h (fun s4 v5 h=> ?_)
 refine aJ ac [0,3,22,23,24,25] [3,22,1000000,3000000,3000001] ?_
 refine ae ?_
 refine aq h (fun h=> ?_) fun h=> ?_
 refine ai ?_
 refine bq ?_
 refine ae ?_
 refine bD (r:=v5) h (fun j6=>⟨45,[(0,.ref 1000000 0),(3,.ref 3 0),(22,.own 22),(23,vi (x1.1.length:Int)),(24,vi s4.1)],[(3,.box (tc aF aC)),(22,oa 9 1 eS x1.1),(1000000,.box [.own 3000000,.own 3000001]),(3000000,.deep 91 5 j6.1.length [.flat,.flat,.flat,.flat,(.sl 169 5 [.flat,.flat,.flat,.flat,.flat])] (j6.1.map ad)),(3000001,oa 85 4 aj j6.2)]⟩) (fun v7 h=> ?_) (fun j6 h=> ?_)
 refine ax (a:=v7) ?_
 refine sr ?_
 obtain⟨x8,hx8,h⟩:=bind_some h
 refine aa.ls (bw (d:=22) (L:=x1.1) (f:=eS) (ti:=bU) (tj:=et) (e:=9) (e':=9) (m:=1) (k:= .i64) ac rfl hx8) ?_
 refine aa.ls (bN (d:=22) (m:=1) (j:=0) (L:=x1.1) (f:=eS) (ti:=et) (e:=9) (v:=vs x8) ac rfl hx8) ?_
 refine bO ac 1 [0,3,8,22,23,24] [3,22,1000000,3000000,3000001] ?_
 refine sr ?_
 refine aa.ck ac 6 ⟨45,[(0,.ref 1000000 0),(3,.ref 3 0),(22,.own 22),(23,vi (x1.1.length:Int)),(24,vi s4.1),(28,.ref 1000000 0),(29,vs x8),(31,vs aC.Other),(33,vi aC.Year)],[(3,.box (tc aF aC)),(22,oa 9 1 eS x1.1),(1000000,.box [.own 3000000,.own 3000001]),(3000000,.deep 91 5 s4.2.1.length [.flat,.flat,.flat,.flat,(.sl 169 5 [.flat,.flat,.flat,.flat,.flat])] (s4.2.1.map ad)),(3000001,oa 85 4 aj s4.2.2)]⟩ ?_
 obtain⟨x9,hx9,h⟩:=bind_some h
 refine aa.a7 (x_w [(1000000,1000000),(3000000,3000000),(3000001,3000001)] [false,true,true,true] AI (kB (World.mk s4.2.1 s4.2.2) x8 aC.Other aC.Year _ hx9)) ?_
 refine bO ac 1 [0,3,9,22,23,24] [3,22,1000000,3000000,3000001] ?_
 refine aJ ac [0,3,9,22,23,24,36] [3,22,1000000,3000000,3000001] ?_
 refine aq h (fun h=> ?_) fun h=> ?_
 refine aJ ac [4] [1000000,3000000,3000001] ?_
 refine ah ?_
 obtain rfl:=inj h
 exact bE (bo (bo (bE (bo (mO (fw ac))))))
 refine ai ?_
 obtain rfl:=inj h
 exact bt (cn (Le.an))
 refine aD ?_
 refine aa.cl ac 2 [0,3,22,23,24] [3,22,1000000,3000000,3000001] ?_
 refine aa.nil ?_
 obtain rfl:=inj h
 exact cn (Le.an)
 refine a6 ?_
 obtain rfl:=inj h
 exact cE (cG (cF (cn (Le.an))))
 refine sr ?_
 refine aa.ck ac 5 ⟨45,[(39,.ref 1000000 0),(41,vs aC.Code),(43,vi aC.Year)],[(1000000,.box [.own 3000000,.own 3000001]),(3000000,.deep 91 5 j2.1.length [.flat,.flat,.flat,.flat,(.sl 169 5 [.flat,.flat,.flat,.flat,.flat])] (j2.1.map ad)),(3000001,oa 85 4 aj j2.2)]⟩ ?_
 obtain⟨x10,hx10,h⟩:=bind_some h
 refine aa.a7 (x_w [(1000000,1000000),(3000000,3000000),(3000001,3000001)] [false,true,true] AJ (k8 (World.mk j2.1 j2.2) aC.Code aC.Year _ hx10)) ?_
 refine aa.nx ?_
 refine aJ ac [4] [1000000,3000000,3000001] ?_
 refine ah ?_
 obtain rfl:=inj h
 exact mO (fw ac)
theorem Ev:bg Tryz.prog 92:=az Tryz.func92 (by kernel_rfl) rfl
noncomputable def cR(aW:World)(aC:Change):Option (Int×World):=
 (((bif(aC.Kind==0)then((dV aW aC).bind fun x3=>some (.inr (x3.1,x3.2)))else(bif(aC.Kind==2)then((c8 aW aC.Code aC.Other aC.Year).bind fun x4=>some (.inr (x4.1,x4.2)))else(bif(aC.Kind==3)then((fr aW aC).bind fun x5=>some (.inr (x5.1,x5.2)))else some (.inl (aW.Places,aW.Links)))))).bind (Sum.elim (fun(j1:(List Place)×(List ay))=>((dN (World.mk j1.1 j1.2) aC.Code aC.Year).bind fun x6=>some (0,x6))) some))
theorem ni(aW:World)(aC:Change)(r:Int×World)(h:cR aW aC=some r):kQ Tryz.prog 42 [.ref 1000000 0,.agg (tc aF aC)] [(1000000,.box [.own 3000000,.own 3000001]),(3000000,.deep 91 5 aW.Places.length [.flat,.flat,.flat,.flat,(.sl 169 5 [.flat,.flat,.flat,.flat,.flat])] (aW.Places.map ad)),(3000001,oa 85 4 aj aW.Links)] [(1000000,.box [.own 3000000,.own 3000001]),(3000000,.deep 91 5 r.2.Places.length [.flat,.flat,.flat,.flat,(.sl 169 5 [.flat,.flat,.flat,.flat,.flat])] (r.2.Places.map ad)),(3000001,oa 85 4 aj r.2.Links)] [vi r.1]:=by
 refine kk Tryz.func42 rfl [(.tmp 4)] rfl (fun r=>[(1000000,.box [.own 3000000,.own 3000001]),(3000000,.deep 91 5 r.2.Places.length [.flat,.flat,.flat,.flat,(.sl 169 5 [.flat,.flat,.flat,.flat,.flat])] (r.2.Places.map ad)),(3000001,oa 85 4 aj r.2.Links)]) (fun r=>[vi r.1]) (r:=r) (c5 SV.ez (c5 trivial (c5 (cN dj _) lx))) ?_
 unfold cR at h
 refine aJ ac [0,3] [3,1000000,3000000,3000001] ?_
 refine ae ?_
 refine aJ ac [0,3,6] [3,1000000,3000000,3000001] ?_
 refine bp (r:=r) h (fun j1=>⟨33,[(0,.ref 1000000 0),(3,.ref 3 0)],[(3,.box (tc aF aC)),(1000000,.box [.own 3000000,.own 3000001]),(3000000,.deep 91 5 j1.1.length [.flat,.flat,.flat,.flat,(.sl 169 5 [.flat,.flat,.flat,.flat,.flat])] (j1.1.map ad)),(3000001,oa 85 4 aj j1.2)]⟩) (fun v2 h=> ?_) (fun j1 h=> ?_)
 refine ax (a:=v2) ?_
 refine aJ ac [0,3,6,7] [3,1000000,3000000,3000001] ?_
 refine aq h (fun h=> ?_) fun h=> ?_
 refine sr ?_
 refine aa.ck ac 2 ⟨33,[(9,.ref 1000000 0),(10,.agg (tc aF aC))],[(1000000,.box [.own 3000000,.own 3000001]),(3000000,.deep 91 5 aW.Places.length [.flat,.flat,.flat,.flat,(.sl 169 5 [.flat,.flat,.flat,.flat,.flat])] (aW.Places.map ad)),(3000001,oa 85 4 aj aW.Links)]⟩ ?_
 obtain⟨x3,hx3,h⟩:=bind_some h
 refine aa.a7 (x_w [(1000000,1000000),(3000000,3000000),(3000001,3000001)] [false,true] Eu (m0 aW aC _ hx3)) ?_
 refine bO ac 1 [4] [1000000,3000000,3000001] ?_
 refine ah ?_
 obtain rfl:=inj h
 exact bE (bo (mO (fw ac)))
 refine aJ ac [0,3,6,12] [3,1000000,3000000,3000001] ?_
 refine aq h (fun h=> ?_) fun h=> ?_
 refine sr ?_
 refine aa.ck ac 7 ⟨33,[(14,.ref 1000000 0),(16,vs aC.Code),(18,vs aC.Other),(20,vi aC.Year)],[(1000000,.box [.own 3000000,.own 3000001]),(3000000,.deep 91 5 aW.Places.length [.flat,.flat,.flat,.flat,(.sl 169 5 [.flat,.flat,.flat,.flat,.flat])] (aW.Places.map ad)),(3000001,oa 85 4 aj aW.Links)]⟩ ?_
 obtain⟨x4,hx4,h⟩:=bind_some h
 refine aa.a7 (x_w [(1000000,1000000),(3000000,3000000),(3000001,3000001)] [false,true,true,true] AI (kB aW aC.Code aC.Other aC.Year _ hx4)) ?_
 refine bO ac 1 [4] [1000000,3000000,3000001] ?_
 refine ah ?_
 obtain rfl:=inj h
 exact bE (bo (mO (fw ac)))
 refine aJ ac [0,3,22] [3,1000000,3000000,3000001] ?_
 refine aq h (fun h=> ?_) fun h=> ?_
 refine sr ?_
 refine aa.ck ac 2 ⟨33,[(24,.ref 1000000 0),(25,.agg (tc aF aC))],[(1000000,.box [.own 3000000,.own 3000001]),(3000000,.deep 91 5 aW.Places.length [.flat,.flat,.flat,.flat,(.sl 169 5 [.flat,.flat,.flat,.flat,.flat])] (aW.Places.map ad)),(3000001,oa 85 4 aj aW.Links)]⟩ ?_
 obtain⟨x5,hx5,h⟩:=bind_some h
 refine aa.a7 (x_w [(1000000,1000000),(3000000,3000000),(3000001,3000001)] [false,true] Ev (nj aW aC _ hx5)) ?_
 refine bO ac 1 [4] [1000000,3000000,3000001] ?_
 refine ah ?_
 obtain rfl:=inj h
 exact bE (bo (mO (fw ac)))
 refine ai ?_
 obtain rfl:=inj h
 exact bt (cn (Le.an))
 refine sr ?_
 refine aa.ck ac 5 ⟨33,[(27,.ref 1000000 0),(29,vs aC.Code),(31,vi aC.Year)],[(1000000,.box [.own 3000000,.own 3000001]),(3000000,.deep 91 5 j1.1.length [.flat,.flat,.flat,.flat,(.sl 169 5 [.flat,.flat,.flat,.flat,.flat])] (j1.1.map ad)),(3000001,oa 85 4 aj j1.2)]⟩ ?_
 obtain⟨x6,hx6,h⟩:=bind_some h
 refine aa.a7 (x_w [(1000000,1000000),(3000000,3000000),(3000001,3000001)] [false,true,true] AJ (k8 (World.mk j1.1 j1.2) aC.Code aC.Year _ hx6)) ?_
 refine aa.nx ?_
 refine aJ ac [4] [1000000,3000000,3000001] ?_
 refine ah ?_
 obtain rfl:=inj h
 exact mO (fw ac)
theorem Ee:bg Tryz.prog 42:=az Tryz.func42 (by kernel_rfl) rfl
noncomputable def bs(aW:World)(aC:Change):Option (World×Int):=
 ((gb aW aC).bind fun x1=>(bif(x1 !=0)then some ((World.mk ([]:List Place) ([]:List ay)),x1)else((eK aW).bind fun x2=>((cR x2 aC).bind fun x3=>(bif(x3.1 !=0)then some ((World.mk ([]:List Place) ([]:List ay)),x3.1)else some (x3.2,0))))))
theorem fQ(aW:World)(aC:Change)(r:World×Int)(h:bs aW aC=some r):kQ Tryz.prog 15 [.agg (tc aQ aW),.agg (tc aF aC)] [] [(3000000,.deep 91 5 r.1.Places.length [.flat,.flat,.flat,.flat,(.sl 169 5 [.flat,.flat,.flat,.flat,.flat])] (r.1.Places.map ad)),(3000001,oa 85 4 aj r.1.Links)] [.agg [.own 3000000,.own 3000001],vi r.2]:=by
 refine kk Tryz.func15 rfl [(.cell 4 35),(.tmp 5)] rfl (fun r=>[(3000000,.deep 91 5 r.1.Places.length [.flat,.flat,.flat,.flat,(.sl 169 5 [.flat,.flat,.flat,.flat,.flat])] (r.1.Places.map ad)),(3000001,oa 85 4 aj r.1.Links)]) (fun r=>[.agg [.own 3000000,.own 3000001],vi r.2]) (r:=r) (c5 trivial (c5 (cN dj _) lx)) ?_
 unfold bs at h
 refine aJ ac [2,3,4] [2,3,4] ?_
 refine ae ?_
 refine sr ?_
 refine aa.cl ac 2 [2,3,4,9,10] [2,3,4] ?_
 obtain⟨x1,hx1,h⟩:=bind_some h
 refine aa.ls (xc Ed (ob aW aC _ hx1)) ?_
 refine bO ac 1 [2,3,4,6] [2,3,4] ?_
 refine aJ ac [2,3,4,6,13] [2,3,4] ?_
 refine aq h (fun h=> ?_) fun h=> ?_
 refine sr ?_
 refine aa.ls (lK (ti:=iE) (fs:=[(0,32),(1,33)]) (pl:=[(0,1),(1,1)]) (zs:=[.slice none 0 0,.slice none 0 0]) ac rfl) ?_
 refine ckn ac 3 ⟨25,[(4,.ref 4 0),(5,vi x1)],[(4,.box [.tr .nil,.tr .nil])]⟩ ?_
 refine cH (Le.nv (cs:=[.tr .nil,.tr .nil]) 4 0 3000000 (.deep 91 5 ([]:List Place).length [.flat,.flat,.flat,.flat,(.sl 169 5 [.flat,.flat,.flat,.flat,.flat])] (([]:List Place).map ad)) (.inr ⟨rfl,rfl⟩) rfl) ?_
 refine cH (Le.nv (ss:=[]) (cs:=[.own 3000000,.tr .nil]) 4 1 3000001 (oa 85 4 aj ([]:List ay)) (.inl rfl) rfl) ?_
 refine ah ?_
 obtain rfl:=inj h
 exact cY (mO (fw ac))
 refine ai ?_
 refine bq ?_
 refine sr ?_
 refine aa.ck ac 1 ⟨25,[(3,.ref 3 0),(4,.ref 4 0),(16,.agg (tc aQ aW))],[(3,.box (tc aF aC)),(4,.box [vl ad ([]:List Place),vl aj ([]:List ay)])]⟩ ?_
 obtain⟨x2,hx2,h⟩:=bind_some h
 refine aa.a7 (x_w [(3000000,24),(3000001,23)] [true] Az (kC aW _ hx2)) ?_
 refine bO ac 2 [3,4,7] [3,4,7,23,24] ?_
 refine ae ?_
 refine sr ?_
 refine aa.ck ac 1 ⟨25,[(4,.ref 4 0),(7,.ref 7 0),(18,.agg (tc aF aC))],[(4,.box [vl ad ([]:List Place),vl aj ([]:List ay)]),(7,.box [.own 24,.own 23]),(23,oa 85 4 aj x2.Links),(24,.deep 91 5 x2.Places.length [.flat,.flat,.flat,.flat,(.sl 169 5 [.flat,.flat,.flat,.flat,.flat])] (x2.Places.map ad))]⟩ ?_
 obtain⟨x3,hx3,h⟩:=bind_some h
 refine aa.a7 (x_w [(1000000,7),(3000000,24),(3000001,23)] [false,true] Ee (ni x2 aC _ hx3)) ?_
 refine bO ac 1 [4,7,8] [4,7,23,24] ?_
 refine aJ ac [4,7,8,21] [4,7,23,24] ?_
 refine aq h (fun h=> ?_) fun h=> ?_
 refine sr ?_
 refine aa.ls (lK (ti:=iE) (fs:=[(0,32),(1,33)]) (pl:=[(0,1),(1,1)]) (zs:=[.slice none 0 0,.slice none 0 0]) ac rfl) ?_
 refine ckn ac 3 ⟨25,[(4,.ref 4 0),(5,vi x3.1)],[(4,.box [.tr .nil,.tr .nil])]⟩ ?_
 refine cH (Le.nv (cs:=[.tr .nil,.tr .nil]) 4 0 3000000 (.deep 91 5 ([]:List Place).length [.flat,.flat,.flat,.flat,(.sl 169 5 [.flat,.flat,.flat,.flat,.flat])] (([]:List Place).map ad)) (.inr ⟨rfl,rfl⟩) rfl) ?_
 refine cH (Le.nv (ss:=[]) (cs:=[.own 3000000,.tr .nil]) 4 1 3000001 (oa 85 4 aj ([]:List ay)) (.inl rfl) rfl) ?_
 refine ah ?_
 obtain rfl:=inj h
 exact cY (mO (fw ac))
 refine ai ?_
 refine bq ?_
 refine kM ac ⟨25,[(4,.ref 4 0),(5,vi 0)],[(4,.box [.own 24,.own 23]),(23,oa 85 4 aj x3.2.Links),(24,.deep 91 5 x3.2.Places.length [.flat,.flat,.flat,.flat,(.sl 169 5 [.flat,.flat,.flat,.flat,.flat])] (x3.2.Places.map ad))]⟩ ?_
 refine cH (Le.tp 24 3000000) ?_
 refine cH (Le.tp 23 3000001) ?_
 refine ah ?_
 obtain rfl:=inj h
 exact mO (fw ac)
theorem w6:bg Tryz.prog 15:=az Tryz.func15 (by kernel_rfl) rfl
noncomputable def e8(aW:World)(aC:Change):Option (Bool×Int):=
 ((((dk aW).bind fun x1=>(bif(!x1)then some true else((gq aC).bind fun x2=>some (!x2))))).bind fun(j3:Bool)=>(bif j3 then some (false,1)else((bs aW aC).bind fun x5=>some ((x5.2==0),0))))
theorem pf(aW:World)(aC:Change)(r:Bool×Int)(h:e8 aW aC=some r):aR Tryz.prog 12 [.v (.agg (tc aQ aW)),.v (.agg (tc aF aC))] ⟨[.v (vb r.1),.v (vi r.2)],[],false⟩:=by
 refine au Tryz.func12 rfl [(.tmp 4),(.tmp 5)] rfl (fun r=>⟨[.v (vb r.1),.v (vi r.2)],[],false⟩) (r:=r) ?_
 unfold e8 at h
 refine aJ ac [2,3] [2,3] ?_
 refine ae ?_
 refine ae ?_
 refine bn h (fun j3=>⟨24,[(2,.ref 2 0),(3,.ref 3 0),(15,vb j3)],[(2,.box (tc aQ aW)),(3,.box (tc aF aC))]⟩) (fun v4 h=> ?_) (fun j3 h=> ?_)
 refine aa.cl ac 1 [2,3,8] [2,3] ?_
 obtain⟨x1,hx1,h⟩:=bind_some h
 refine aa.ls (xc oC (dD aW _ hx1)) ?_
 refine aa.cl ac 2 [2,3,11] [2,3] ?_
 refine aa.cu [(11,fun b=>b)] h (fun h=> ?_) fun h=> ?_
 refine aa.cl ac 4 [2,3,15] [2,3] ?_
 refine aa.nil ?_
 obtain rfl:=inj h
 exact Le.an
 refine aa.cl ac 1 [2,3,11,12] [2,3] ?_
 obtain⟨x2,hx2,h⟩:=bind_some h
 refine aa.ls (xc Ay (lB aC _ hx2)) ?_
 refine aa.cl ac 2 [2,3,15] [2,3] ?_
 refine aa.nil ?_
 obtain rfl:=inj h
 exact Le.an
 refine aq h (fun h=> ?_) fun h=> ?_
 refine aJ ac [4,5] [] ?_
 refine ah ?_
 obtain rfl:=inj h
 exact cY (aO (f2 fv fv))
 refine ai ?_
 refine bq ?_
 refine sr ?_
 refine aa.ck ac 2 ⟨24,[(17,.agg (tc aQ aW)),(18,.agg (tc aF aC))],[]⟩ ?_
 obtain⟨x5,hx5,h⟩:=bind_some h
 refine aa.a7 (x_w [(3000000,23),(3000001,22)] [true,true] w6 (fQ aW aC _ hx5)) ?_
 refine bO ac 6 [7] [] ?_
 refine aJ ac [4,5] [] ?_
 refine ah ?_
 obtain rfl:=inj h
 exact aO (f2 fv fv)
theorem D5:bg Tryz.prog 12:=az Tryz.func12 (by kernel_rfl) rfl
end Go.Proofs.YtdejeagdkfokfaaGreatDoor.Sh
