/- Typed functions and the calls that do what they say. -/
import Derived.Test.YtdejeagdkfokfaaGreatDoorGAp0
import Derived.Test.YtdejeagdkfokfaaGreatDoorKA
import Derived.Test.YtdejeagdkfokfaaGreatDoorKC
import Derived.Test.YtdejeagdkfokfaaGreatDoorKD
import Derived.Test.YtdejeagdkfokfaaGreatDoorKO
import Derived.Test.YtdejeagdkfokfaaGreatDoorKS
import Derived.Test.YtdejeagdkfokfaaGreatDoorSN
import Derived.Test.YtdejeagdkfokfaaGreatDoorSW
import Derived.Test.YtdejeagdkfokfaaGreatDoorSX
import Derived.Test.YtdejeagdkfokfaaGreatDoorH1
namespace Go.Proofs.YtdejeagdkfokfaaGreatDoor.Sh
open Go.RowKit
set_option maxRecDepth 100000
set_option maxHeartbeats 4000000
noncomputable def ee(ah:(List aw)):Option (Bool):=
 (((cW (ah.length:Int) (fun(i3:Int) (_:Unit)=>((at' ah i3).bind fun x7=>((((jk x7).bind fun x8=>(bif(!x8)then some true else((mS ah 0 i3).bind fun x9=>((bD x9 x7).bind fun x10=>some x10))))).bind fun(j11:Bool)=>(bif j11 then some (.inr (.inr false))else some (.inl ()))))) (fun(_:Unit)=> .inl ()) 0 ())).bind (Sum.elim (fun(_:Unit)=>(((cW (ah.length:Int) (fun(i15:Int) (_:Unit)=>((at' ah i15).bind fun x19=>(cW (ah.length:Int) (fun(i20:Int) (_:Unit)=>((at' ah i20).bind fun x24=>((((bH x24.Years x19.Years.From).bind fun x25=>(bif x25 then((dD ah x24.Child x19.Years.From).bind fun x26=>some x26)else some false))).bind fun(j27:Bool)=>(bif j27 then some (.inr (.inr (.inr false)))else some (.inl ()))))) (fun(_:Unit)=> .inl ()) 0 ()))) (fun(_:Unit)=> .inl ()) 0 ())).bind (Sum.elim (fun(_:Unit)=>some (decide ((ah.length:Int)≤20))) some))) some))
theorem ii(ah:(List aw))(r:Bool)(h:ee ah=some r):aH Tryz.prog 55 [.v (vl ae ah)] ⟨[.v (vb r)],[],false⟩:=by
 refine au Tryz.func55 rfl [(.tmp 2)] rfl (fun r=>⟨[.v (vb r)],[],false⟩) (r:=r) ?_
 unfold ee at h
 refine az aa [0] [] ?_
 refine ac ?_
 refine az aa [0,9,10,11] [] ?_
 refine bi (r:=r) h (fun j1=>⟨59,[(0,vl ae ah)],[]⟩) (fun v2 h=> ?_) (fun j1 h=> ?_)
 refine ay (a:=v2) ?_
 refine a6 (r:=v2) (s:=(0,())) _ (fun s3=>⟨59,[(0,vl ae ah),(9,vl ae ah),(10,vi (ah.length:Int)),(11,vi s3.1)],[]⟩) _ (Le.aq) h (fun s3 v4 h=> ?_)
 refine az aa [0,9,10,11,12] [] ?_
 refine ac ?_
 refine ao h (fun h=> ?_) fun h=> ?_
 refine ai ?_
 refine aY ?_
 refine ac ?_
 refine bn (r:=v4) h (fun j5=>⟨59,[(0,vl ae ah),(9,vl ae ah),(10,vi (ah.length:Int)),(11,vi s3.1)],[]⟩) (fun v6 h=> ?_) (fun j5 h=> ?_)
 refine ay (a:=v6) ?_
 refine sr ?_
 refine ab.cl aa 1 [0,9,10,11,13] [] ?_
 obtain⟨x7,hx7,h⟩:=bind_some h
 refine ab.ls (aG (L:=ah) (f:=ae) (ti:=dp) (tj:=dq) (e:=85) (k:= .i64) aa rfl hx7) ?_
 refine bO aa 4 [0,3,4,9,10,11] [4] ?_
 refine ac ?_
 refine bj h (fun j11=>⟨59,[(0,vl ae ah),(9,vl ae ah),(10,vi (ah.length:Int)),(11,vi s3.1),(25,vb j11)],[]⟩) (fun v12 h=> ?_) (fun j11 h=> ?_)
 refine ab.cl aa 1 [0,3,4,9,10,11,16] [4] ?_
 obtain⟨x8,hx8,h⟩:=bind_some h
 refine ab.ls (xc As (pz x7 _ hx8)) ?_
 refine ab.cl aa 2 [0,3,4,9,10,11,19] [4] ?_
 refine ab.cu [(19,fun b=>b)] h (fun h=> ?_) fun h=> ?_
 refine ab.cl aa 6 [0,9,10,11,25] [] ?_
 refine ab.nil ?_
 obtain rfl:=inj h
 exact Le.aq
 refine ab.cl aa 2 [0,4,9,10,11,19,20,21] [4] ?_
 obtain⟨x9,hx9,h⟩:=bind_some h
 refine ab.ls (c9 (m:=4) (f:=ae) (ti:=dp) (tj:=dq) (e:=85) hx9 (fun _=>rfl) aa rfl) ?_
 refine ab.cl aa 1 [0,9,10,11,19,22,23] [4] ?_
 obtain⟨x10,hx10,h⟩:=bind_some h
 refine ab.ls (xc y9 (eG x9 x7 _ hx10)) ?_
 refine ab.cl aa 1 [0,9,10,11,25] [] ?_
 refine ab.nil ?_
 obtain rfl:=inj h
 exact Le.aq
 refine ao h (fun h=> ?_) fun h=> ?_
 refine az aa [2] [] ?_
 refine ag ?_
 obtain rfl:=inj h
 exact bm (aU (aU (bm (aU (aD (f1 fv))))))
 refine ai ?_
 obtain rfl:=inj h
 exact bT (bZ (Le.aq))
 refine aF ?_
 refine ab.cl aa 2 [0,9,10,11] [] ?_
 refine ab.nil ?_
 obtain rfl:=inj h
 exact bZ (Le.aq)
 refine aQ ?_
 obtain rfl:=inj h
 exact cD (cF (cE (bZ (Le.aq))))
 refine ac ?_
 refine iR aa ⟨59,[(0,vl ae ah),(27,vl ae ah),(28,vi (ah.length:Int)),(29,vi 0)],[]⟩ ?_
 refine bi (r:=r) h (fun j13=>⟨59,[(0,vl ae ah)],[]⟩) (fun v14 h=> ?_) (fun j13 h=> ?_)
 refine ay (a:=v14) ?_
 refine a6 (r:=v14) (s:=(0,())) _ (fun s15=>⟨59,[(0,vl ae ah),(27,vl ae ah),(28,vi (ah.length:Int)),(29,vi s15.1)],[]⟩) _ (Le.aq) h (fun s15 v16 h=> ?_)
 refine az aa [0,27,28,29,30] [] ?_
 refine ac ?_
 refine ao h (fun h=> ?_) fun h=> ?_
 refine ai ?_
 refine aY ?_
 refine ac ?_
 refine bn (r:=v16) h (fun j17=>⟨59,[(0,vl ae ah),(27,vl ae ah),(28,vi (ah.length:Int)),(29,vi s15.1)],[]⟩) (fun v18 h=> ?_) (fun j17 h=> ?_)
 refine ay (a:=v18) ?_
 refine sr ?_
 obtain⟨x19,hx19,h⟩:=bind_some h
 refine ab.ls (aG (L:=ah) (f:=ae) (ti:=dp) (tj:=dq) (e:=85) (k:= .i64) aa rfl hx19) ?_
 refine bO aa 3 [0,6,27,28,29] [6] ?_
 refine az aa [0,6,27,28,29,33,34,35] [6] ?_
 refine ay (a:=v18) ?_
 refine a6 (r:=v18) (s:=(0,())) _ (fun s20=>⟨59,[(0,vl ae ah),(6,.ref 6 0),(27,vl ae ah),(28,vi (ah.length:Int)),(29,vi s15.1),(33,vl ae ah),(34,vi (ah.length:Int)),(35,vi s20.1)],[(6,.box (tc ae x19))]⟩) _ (Le.aq) h (fun s20 v21 h=> ?_)
 refine az aa [0,6,27,28,29,33,34,35,36] [6] ?_
 refine ac ?_
 refine ao h (fun h=> ?_) fun h=> ?_
 refine ai ?_
 refine aY ?_
 refine ac ?_
 refine bn (r:=v21) h (fun j22=>⟨59,[(0,vl ae ah),(6,.ref 6 0),(27,vl ae ah),(28,vi (ah.length:Int)),(29,vi s15.1),(33,vl ae ah),(34,vi (ah.length:Int)),(35,vi s20.1)],[(6,.box (tc ae x19))]⟩) (fun v23 h=> ?_) (fun j22 h=> ?_)
 refine ay (a:=v23) ?_
 refine sr ?_
 obtain⟨x24,hx24,h⟩:=bind_some h
 refine ab.ls (aG (L:=ah) (f:=ae) (ti:=dp) (tj:=dq) (e:=85) (k:= .i64) aa rfl hx24) ?_
 refine bO aa 3 [0,6,8,27,28,29,33,34,35] [6,8] ?_
 refine ac ?_
 refine bj h (fun j27=>⟨59,[(0,vl ae ah),(6,.ref 6 0),(27,vl ae ah),(28,vi (ah.length:Int)),(29,vi s15.1),(33,vl ae ah),(34,vi (ah.length:Int)),(35,vi s20.1),(53,vb j27)],[(6,.box (tc ae x19))]⟩) (fun v28 h=> ?_) (fun j27 h=> ?_)
 refine ab.cl aa 5 [0,6,8,27,28,29,33,34,35,40,43] [6,8] ?_
 obtain⟨x25,hx25,h⟩:=bind_some h
 refine ab.ls (xc lV (cA x24.Years x19.Years.From _ hx25)) ?_
 refine ab.cl aa 1 [0,6,8,27,28,29,33,34,35,45] [6,8] ?_
 refine ab.cu [(45,fun b=>b)] h (fun h=> ?_) fun h=> ?_
 refine ab.cl aa 6 [0,6,27,28,29,33,34,35,45,46,48,51] [6] ?_
 obtain⟨x26,hx26,h⟩:=bind_some h
 refine ab.ls (xc Av (nQ ah x24.Child x19.Years.From _ hx26)) ?_
 refine ab.cl aa 1 [0,6,27,28,29,33,34,35,53] [6] ?_
 refine ab.nil ?_
 obtain rfl:=inj h
 exact Le.aq
 refine ab.cl aa 8 [0,6,27,28,29,33,34,35,53] [6] ?_
 refine ab.nil ?_
 obtain rfl:=inj h
 exact Le.aq
 refine ao h (fun h=> ?_) fun h=> ?_
 refine az aa [2] [] ?_
 refine ag ?_
 obtain rfl:=inj h
 exact bm (aU (aU (bm (bm (aU (aU (bm (aU (aD (f1 fv))))))))))
 refine ai ?_
 obtain rfl:=inj h
 exact bT (bZ (Le.aq))
 refine aF ?_
 refine ab.cl aa 2 [0,6,27,28,29,33,34,35] [6] ?_
 refine ab.nil ?_
 obtain rfl:=inj h
 exact bZ (Le.aq)
 refine aQ ?_
 obtain rfl:=inj h
 exact cD (cF (cE (bT (bZ (Le.aq)))))
 refine aF ?_
 refine ab.cl aa 2 [0,27,28,29] [] ?_
 refine ab.nil ?_
 obtain rfl:=inj h
 exact bZ (Le.aq)
 refine aQ ?_
 obtain rfl:=inj h
 exact cD (cF (cE (bZ (Le.aq))))
 refine iR aa ⟨59,[(2,vb (decide ((ah.length:Int)≤20)))],[]⟩ ?_
 refine ag ?_
 obtain rfl:=inj h
 exact aD (f1 fv)
theorem vX:a8 Tryz.prog 55:=ax Tryz.func55 (by kernel_rfl) rfl
theorem mM(s c:ByteArray)(r:Int)(h:strings_Compare s c=some r):aH Tryz.prog 164 [.v (.tr (.str s)),.v (.tr (.str c))] ⟨[.v (.tr (.int .i64 r))],[],false⟩:=uC Tryz.Bq 164 rfl s c r h
theorem AS:a8 Tryz.prog 164:=ax Tryz.func164 (by kernel_rfl) rfl
noncomputable def c4(aP:Place)(aE:ByteArray):Option (Int):=
 ((strings_Compare aP.Code aE).bind fun x1=>some x1)
theorem jj(aP:Place)(aE:ByteArray)(r:Int)(h:c4 aP aE=some r):aH Tryz.prog 163 [.v (.agg (tc ad aP)),.v (vs aE)] ⟨[.v (vi r)],[],false⟩:=by
 refine au Tryz.func163 rfl [(.tmp 4)] rfl (fun r=>⟨[.v (vi r)],[],false⟩) (r:=r) ?_
 unfold c4 at h
 refine az aa [1,2] [2] ?_
 refine sr ?_
 refine ab.cl aa 3 [6,7] [] ?_
 obtain⟨x1,hx1,h⟩:=bind_some h
 refine ab.ls (xc AS (mM aP.Code aE _ hx1)) ?_
 refine ckn aa 1 ⟨9,[(4,vi x1)],[]⟩ ?_
 refine ag ?_
 obtain rfl:=inj h
 exact aD (f1 fv)
theorem w6:a8 Tryz.prog 163:=ax Tryz.func163 (by kernel_rfl) rfl
noncomputable def bs(aX:(List Place))(jL:ByteArray):Option (Int×Bool):=
 (((loop (fun(s3:Int×Int)=>(bif(decide (s3.1<s3.2))then((at' aX (aJ (Int.fdiv (IntKind.wrap .u64 (aJ (s3.1+s3.2))) (2^1)))).bind fun x5=>((c4 x5 jL).bind fun x6=>(bif(decide (x6<0))then some (.inl ((aJ ((aJ (Int.fdiv (IntKind.wrap .u64 (aJ (s3.1+s3.2))) (2^1)))+1)),s3.2))else some (.inl (s3.1,(aJ (Int.fdiv (IntKind.wrap .u64 (aJ (s3.1+s3.2))) (2^1))))))))else some (.inr s3.1))) (0,(aX.length:Int)))).bind fun(j1:Int)=>(((bif(decide (j1<(aX.length:Int)))then((at' aX j1).bind fun x7=>((c4 x7 jL).bind fun x8=>some (x8==0)))else some false)).bind fun(j9:Bool)=>some (j1,j9)))
theorem dK(aX:(List Place))(jL:ByteArray)(r:Int×Bool)(h:bs aX jL=some r):aH Tryz.prog 162 [.v (vl ad aX),.v (vs jL),.v (.clo 163 [])] ⟨[.v (vi r.1),.v (vb r.2)],[],false⟩:=by
 refine au Tryz.func162 rfl [(.tmp 6),(.tmp 7)] rfl (fun r=>⟨[.v (vi r.1),.v (vb r.2)],[],false⟩) (r:=r) ?_
 unfold bs at h
 refine az aa [0,1,2] [] ?_
 refine az aa [0,1,2,8] [] ?_
 refine az aa [0,1,2,8,9,10] [] ?_
 refine ac ?_
 refine a7 h (fun j1=>⟨49,[(0,vl ad aX),(1,vs jL),(2,.clo 163 []),(8,vi (aX.length:Int)),(9,vi j1)],[]⟩) (fun v2 h=> ?_) (fun j1 h=> ?_)
 refine ay (a:=v2) ?_
 refine a6 (r:=v2) (s:=(0,(aX.length:Int))) _ (fun s3=>⟨49,[(0,vl ad aX),(1,vs jL),(2,.clo 163 []),(8,vi (aX.length:Int)),(9,vi s3.1),(10,vi s3.2)],[]⟩) _ (Le.aq) h (fun s3 v4 h=> ?_)
 refine ac ?_
 refine az aa [0,1,2,8,9,10,17] [] ?_
 refine ao h (fun h=> ?_) fun h=> ?_
 refine ai ?_
 refine aY ?_
 refine ay (a:=v4) ?_
 refine az aa [0,1,2,8,9,10,11] [] ?_
 refine sr ?_
 refine ab.cl aa 3 [0,1,2,8,9,10,11,24,25,26] [] ?_
 obtain⟨x5,hx5,h⟩:=bind_some h
 refine ab.ls (aG (L:=aX) (f:=ad) (ti:=cP) (tj:=cd) (e:=91) (k:= .i64) aa rfl hx5) ?_
 refine ab.cl aa 2 [0,1,2,8,9,10,11,24,28,29] [] ?_
 obtain⟨x6,hx6,h⟩:=bind_some h
 refine ab.ls (xc w6 (jj x5 jL _ hx6)) ?_
 refine bO aa 1 [0,1,2,8,9,10,11,31] [] ?_
 refine ao h (fun h=> ?_) fun h=> ?_
 refine aF ?_
 refine ab.cl aa 3 [0,1,2,8,9,10] [] ?_
 refine ab.nil ?_
 obtain rfl:=inj h
 exact bT (bZ (Le.aq))
 refine aF ?_
 refine ab.cl aa 2 [0,1,2,8,9,10] [] ?_
 refine ab.nil ?_
 obtain rfl:=inj h
 exact bT (bZ (Le.aq))
 refine aQ ?_
 obtain rfl:=inj h
 exact cD (cF (cE (fu (Le.aq))))
 refine ac ?_
 refine bj h (fun j9=>⟨49,[(6,vi j1),(7,vb j9)],[]⟩) (fun v10 h=> ?_) (fun j9 h=> ?_)
 refine ab.cl aa 5 [0,1,2,9,35,39] [] ?_
 refine ab.cu [(39,fun b=>b)] h (fun h=> ?_) fun h=> ?_
 refine ab.cl aa 3 [1,35,39,40,41,42] [] ?_
 obtain⟨x7,hx7,h⟩:=bind_some h
 refine ab.ls (aG (L:=aX) (f:=ad) (ti:=cP) (tj:=cd) (e:=91) (k:= .i64) aa rfl hx7) ?_
 refine ab.cl aa 2 [35,39,40,44,45] [] ?_
 obtain⟨x8,hx8,h⟩:=bind_some h
 refine ab.ls (xc w6 (jj x7 jL _ hx8)) ?_
 refine ab.cl aa 4 [6,7] [] ?_
 refine ab.nil ?_
 obtain rfl:=inj h
 exact Le.aq
 refine ab.cl aa 11 [6,7] [] ?_
 refine ab.nil ?_
 obtain rfl:=inj h
 exact Le.aq
 refine ag ?_
 obtain rfl:=inj h
 exact aD (f2 fv fv)
theorem AR:a8 Tryz.prog 162:=ax Tryz.func162 (by kernel_rfl) rfl
noncomputable def b9(ah:(List Place))(aE:ByteArray):Option (Int×Bool):=
 ((bs ah aE).bind fun x1=>some (x1.1,x1.2))
theorem dN(ah:(List Place))(aE:ByteArray)(r:Int×Bool)(h:b9 ah aE=some r):aH Tryz.prog 110 [.v (vl ad ah),.v (vs aE)] ⟨[.v (vi r.1),.v (vb r.2)],[],false⟩:=by
 refine au Tryz.func110 rfl [(.tmp 4),(.tmp 5)] rfl (fun r=>⟨[.v (vi r.1),.v (vb r.2)],[],false⟩) (r:=r) ?_
 unfold b9 at h
 refine az aa [0,1] [] ?_
 refine sr ?_
 refine ab.cl aa 2 [6,7] [] ?_
 obtain⟨x1,hx1,h⟩:=bind_some h
 refine ab.ls (xc AR (dK ah aE _ hx1)) ?_
 refine bO aa 4 [4,5] [] ?_
 refine ag ?_
 obtain rfl:=inj h
 exact aD (f2 fv fv)
theorem nD:a8 Tryz.prog 110:=ax Tryz.func110 (by kernel_rfl) rfl
noncomputable def de(aW:World)(aE:ByteArray)(aS:Span):Option (Bool):=
 ((b9 aW.Places aE).bind fun x1=>(((bif x1.2 then((at' aW.Places x1.1).bind fun x2=>((ey aS x2.Years).bind fun x3=>some x3))else some false)).bind fun(j4:Bool)=>some j4))
theorem iS(aW:World)(aE:ByteArray)(aS:Span)(r:Bool)(h:de aW aE aS=some r):aH Tryz.prog 58 [.v (.agg (tc ak aW)),.v (vs aE),.v (.agg (tc gp aS))] ⟨[.v (vb r)],[],false⟩:=by
 refine au Tryz.func58 rfl [(.tmp 6)] rfl (fun r=>⟨[.v (vb r)],[],false⟩) (r:=r) ?_
 unfold de at h
 refine az aa [1,3,5] [3,5] ?_
 refine sr ?_
 refine ab.cl aa 3 [3,5,11,12] [3,5] ?_
 obtain⟨x1,hx1,h⟩:=bind_some h
 refine ab.ls (xc nD (dN aW.Places aE _ hx1)) ?_
 refine bO aa 5 [3,5,7,8] [3,5] ?_
 refine ac ?_
 refine jR mixed h (fun j4=>⟨27,[(6,vb j4)],[]⟩) (fun v5 h=> ?_) (fun j4 h=> ?_)
 refine aR.cl aa false 2 [3,5,7,17] [3,5] ?_
 refine aR.cu [(17,fun b=>b)] h (fun h=> ?_) fun h=> ?_
 refine aR.cl aa false 4 [17,18,20,21] [] ?_
 obtain⟨x2,hx2,h⟩:=bind_some h
 refine aR.step (aG (L:=aW.Places) (f:=ad) (ti:=cP) (tj:=cd) (e:=91) (k:= .i64) aa rfl hx2) ?_
 refine aR.cl aa false 2 [17,18,24] [] ?_
 obtain⟨x3,hx3,h⟩:=bind_some h
 refine aR.step (xc wX (kf aS x2.Years _ hx3)) ?_
 refine aR.cl aa false 2 [6] [] ?_
 refine aR.nil (by kernel_rfl) ?_
 obtain rfl:=inj h
 exact Le.aq
 refine aR.cl aa false 10 [6] [] ?_
 refine aR.nil (by kernel_rfl) ?_
 obtain rfl:=inj h
 exact Le.aq
 refine ag ?_
 obtain rfl:=inj h
 exact aD (f1 fv)
theorem za:a8 Tryz.prog 58:=ax Tryz.func58 (by kernel_rfl) rfl
noncomputable def io(aL:aw)(c0:World):Option (Bool):=
 ((((de c0 aL.Child aL.Years).bind fun x1=>(bif(!x1)then some true else((de c0 aL.Parent aL.Years).bind fun x2=>some (!x2))))).bind fun(j3:Bool)=>some j3)
theorem m6(aL:aw)(c0:World)(r:Bool)(h:io aL c0=some r):aH Tryz.prog 57 [.v (.agg (tc ae aL)),.v (.ptr [vl ad c0.Places,vl ae c0.Links] 0)] ⟨[.v (vb r)],[],false⟩:=by
 refine au Tryz.func57 rfl [(.tmp 3)] rfl (fun r=>⟨[.v (vb r)],[],false⟩) (r:=r) ?_
 unfold io at h
 refine az aa [1,2] [2] ?_
 refine ac ?_
 refine bj h (fun j3=>⟨20,[(3,vb j3)],[]⟩) (fun v4 h=> ?_) (fun j3 h=> ?_)
 refine ab.cl aa 5 [1,2,4,6,8] [2] ?_
 obtain⟨x1,hx1,h⟩:=bind_some h
 refine ab.ls (xc za (iS c0 aL.Child aL.Years _ hx1)) ?_
 refine ab.cl aa 2 [1,2,11] [2] ?_
 refine ab.cu [(11,fun b=>b)] h (fun h=> ?_) fun h=> ?_
 refine ab.cl aa 9 [3] [] ?_
 refine ab.nil ?_
 obtain rfl:=inj h
 exact Le.aq
 refine ab.cl aa 5 [11,12,14,16] [] ?_
 obtain⟨x2,hx2,h⟩:=bind_some h
 refine ab.ls (xc za (iS c0 aL.Parent aL.Years _ hx2)) ?_
 refine ab.cl aa 3 [3] [] ?_
 refine ab.nil ?_
 obtain rfl:=inj h
 exact Le.aq
 refine ag ?_
 obtain rfl:=inj h
 exact aD (f1 fv)
theorem Co:a8 Tryz.prog 57:=ax Tryz.func57 (by kernel_rfl) rfl
noncomputable def bU(aS:(List aw))(cT:World):Option (Int):=
 (((cW (aS.length:Int) (fun(i3:Int) (_:Unit)=>((at' aS i3).bind fun x7=>((io x7 cT).bind fun x8=>(bif x8 then some (.inr (.inr i3))else some (.inl ()))))) (fun(_:Unit)=> .inl ()) 0 ())).bind (Sum.elim (fun(_:Unit)=>some (-1)) some))
theorem fz(aS:(List aw))(cT:World)(r:Int)(h:bU aS cT=some r):aH Tryz.prog 109 [.v (vl ae aS),.v (.clo 57 [.ptr [vl ad cT.Places,vl ae cT.Links] 0])] ⟨[.v (vi r)],[],false⟩:=by
 refine au Tryz.func109 rfl [(.tmp 4)] rfl (fun r=>⟨[.v (vi r)],[],false⟩) (r:=r) ?_
 unfold bU at h
 refine az aa [0,1] [] ?_
 refine ac ?_
 refine az aa [0,1,7,8] [] ?_
 refine bi (r:=r) h (fun j1=>⟨19,[],[]⟩) (fun v2 h=> ?_) (fun j1 h=> ?_)
 refine ay (a:=v2) ?_
 refine a6 (r:=v2) (s:=(0,())) _ (fun s3=>⟨19,[(0,vl ae aS),(1,.clo 57 [.ptr [vl ad cT.Places,vl ae cT.Links] 0]),(7,vi (aS.length:Int)),(8,vi s3.1)],[]⟩) _ (Le.aq) h (fun s3 v4 h=> ?_)
 refine az aa [0,1,7,8,9] [] ?_
 refine ac ?_
 refine ao h (fun h=> ?_) fun h=> ?_
 refine ai ?_
 refine aY ?_
 refine ac ?_
 refine bn (r:=v4) h (fun j5=>⟨19,[(0,vl ae aS),(1,.clo 57 [.ptr [vl ad cT.Places,vl ae cT.Links] 0]),(7,vi (aS.length:Int)),(8,vi s3.1)],[]⟩) (fun v6 h=> ?_) (fun j5 h=> ?_)
 refine ay (a:=v6) ?_
 refine az aa [0,1,5,7,8] [] ?_
 refine sr ?_
 refine ab.cl aa 3 [0,1,5,7,8,11,12,13] [] ?_
 obtain⟨x7,hx7,h⟩:=bind_some h
 refine ab.ls (aG (L:=aS) (f:=ae) (ti:=dp) (tj:=dq) (e:=85) (k:= .i64) aa rfl hx7) ?_
 refine ab.cl aa 1 [0,1,5,7,8,11,15] [] ?_
 obtain⟨x8,hx8,h⟩:=bind_some h
 refine ab.ls (xc Co (m6 x7 cT _ hx8)) ?_
 refine ab.nx ?_
 refine ao h (fun h=> ?_) fun h=> ?_
 refine az aa [4] [] ?_
 refine ag ?_
 obtain rfl:=inj h
 exact bm (aU (aU (bm (aU (aD (f1 fv))))))
 refine ai ?_
 obtain rfl:=inj h
 exact bT (bZ (Le.aq))
 refine aF ?_
 refine ab.cl aa 2 [0,1,7,8] [] ?_
 refine ab.nil ?_
 obtain rfl:=inj h
 exact bZ (Le.aq)
 refine aQ ?_
 obtain rfl:=inj h
 exact cD (cF (cE (bZ (Le.aq))))
 refine az aa [4] [] ?_
 refine ag ?_
 obtain rfl:=inj h
 exact aD (f1 fv)
noncomputable def bJ(aS:(List aw))(cT:World):Option (Bool):=
 ((bU aS cT).bind fun x1=>some (decide (x1≥0)))
theorem eP(aS:(List aw))(cT:World)(r:Bool)(h:bJ aS cT=some r):aH Tryz.prog 56 [.v (vl ae aS),.v (.clo 57 [.ptr [vl ad cT.Places,vl ae cT.Links] 0])] ⟨[.v (vb r)],[],false⟩:=by
 refine au Tryz.func56 rfl [(.tmp 4)] rfl (fun r=>⟨[.v (vb r)],[],false⟩) (r:=r) ?_
 unfold bJ at h
 refine az aa [0,1] [] ?_
 refine sr ?_
 refine ab.cl aa 2 [5,6] [] ?_
 obtain⟨x1,hx1,h⟩:=bind_some h
 refine ab.ls (xc sI (fz aS cT _ hx1)) ?_
 refine bO aa 2 [4] [] ?_
 refine ag ?_
 obtain rfl:=inj h
 exact aD (f1 fv)
noncomputable def im(aW:World):Option (Bool):=
 ((((fa aW.Places).bind fun x1=>(bif x1 then((ee aW.Links).bind fun x2=>(bif x2 then((bJ aW.Links aW).bind fun x3=>some (!x3))else some false))else some false))).bind fun(j4:Bool)=>some j4)
theorem oA(aW:World)(r:Bool)(h:im aW=some r):aH Tryz.prog 24 [.v (.agg (tc ak aW))] ⟨[.v (vb r)],[],false⟩:=by
 refine au Tryz.func24 rfl [(.tmp 2)] rfl (fun r=>⟨[.v (vb r)],[],false⟩) (r:=r) ?_
 unfold im at h
 refine az aa [1] [1] ?_
 refine ac ?_
 refine bj h (fun j4=>⟨18,[(2,vb j4)],[]⟩) (fun v5 h=> ?_) (fun j4 h=> ?_)
 refine ab.cl aa 2 [1,4] [1] ?_
 obtain⟨x1,hx1,h⟩:=bind_some h
 refine ab.ls (xc Cn (mG aW.Places _ hx1)) ?_
 refine ab.cl aa 1 [1,6] [1] ?_
 refine ab.cu [(6,fun b=>b)] h (fun h=> ?_) fun h=> ?_
 refine ab.cl aa 2 [1,6,8] [1] ?_
 obtain⟨x2,hx2,h⟩:=bind_some h
 refine ab.ls (xc vX (ii aW.Links _ hx2)) ?_
 refine ab.cl aa 2 [1,11] [1] ?_
 refine ab.cu [(11,fun b=>b)] h (fun h=> ?_) fun h=> ?_
 refine ab.cl aa 3 [11,13,14] [1] ?_
 obtain⟨x3,hx3,h⟩:=bind_some h
 refine ab.ls (xc y9 (eP aW.Links aW _ hx3)) ?_
 refine ab.cl aa 3 [2] [] ?_
 refine ab.nil ?_
 obtain rfl:=inj h
 exact Le.aq
 refine ab.cl aa 7 [2] [] ?_
 refine ab.nil ?_
 obtain rfl:=inj h
 exact Le.aq
 refine ab.cl aa 12 [2] [] ?_
 refine ab.nil ?_
 obtain rfl:=inj h
 exact Le.aq
 refine ag ?_
 obtain rfl:=inj h
 exact aD (f1 fv)
theorem Ca:a8 Tryz.prog 24:=ax Tryz.func24 (by kernel_rfl) rfl
noncomputable def cm(aC:Change):Option (Bool):=
 some ((aC.Kind==2) || (aC.Kind==3))
theorem ef(aC:Change)(r:Bool)(h:cm aC=some r):aH Tryz.prog 79 [.v (.agg (tc ap aC))] ⟨[.v (vb r)],[],false⟩:=by
 refine au Tryz.func79 rfl [(.tmp 2)] rfl (fun r=>⟨[.v (vb r)],[],false⟩) (r:=r) ?_
 unfold cm at h
 refine az aa [1] [1] ?_
 refine ac ?_
 refine dc ⟨11,[(2,vb ((aC.Kind==2) || (aC.Kind==3)))],[]⟩ ?_ ?_
 refine ab.ck aa 4 ⟨11,[(1,.ref 1 0),(6,vb (aC.Kind==2))],[(1,.box (tc ap aC))]⟩ ?_
 generalize (aC.Kind==2)=bb
 cases bb
 refine ab.cl aa 5 [2] [] ?_
 exact ab.nil (Le.aq)
 refine ab.cl aa 5 [2] [] ?_
 exact ab.nil (Le.aq)
 refine ag ?_
 obtain rfl:=inj h
 exact aD (f1 fv)
theorem vZ:a8 Tryz.prog 79:=ax Tryz.func79 (by kernel_rfl) rfl
noncomputable def gv(aC:Change):Option (Bool):=
 ((((dF aC.Year (-2999) 3000).bind fun x1=>(bif(!x1)then some true else((dF aC.Kind 0 3).bind fun x2=>(bif(!x2)then some true else((eT aC.Code).bind fun x3=>some (!x3))))))).bind fun(j4:Bool)=>(bif j4 then some false else((cm aC).bind fun x6=>(((bif x6 then((eT aC.Other).bind fun x9=>(bif x9 then some (!(aC.Other.toList==aC.Code.toList))else some false))else some (aC.Other.toList==(ByteArray.mk #[]).toList))).bind fun(j7:Bool)=>(((bif(aC.Kind==0)then((dj aC.Language).bind fun x12=>(bif x12 then((eg aC.Text).bind fun x13=>some x13)else some false))else some ((aC.Language.toList==(ByteArray.mk #[]).toList)&&(aC.Text.toList==(ByteArray.mk #[]).toList)))).bind fun(j10:Bool)=>some (j7&&j10))))))
theorem nN(aC:Change)(r:Bool)(h:gv aC=some r):aH Tryz.prog 36 [.v (.agg (tc ap aC))] ⟨[.v (vb r)],[],false⟩:=by
 refine au Tryz.func36 rfl [(.tmp 2)] rfl (fun r=>⟨[.v (vb r)],[],false⟩) (r:=r) ?_
 unfold gv at h
 refine az aa [1] [1] ?_
 refine ac ?_
 refine ac ?_
 refine bj h (fun j4=>⟨59,[(1,.ref 1 0),(20,vb j4)],[(1,.box (tc ap aC))]⟩) (fun v5 h=> ?_) (fun j4 h=> ?_)
 refine ab.cl aa 2 [1,6] [1] ?_
 obtain⟨x1,hx1,h⟩:=bind_some h
 refine ab.ls (xc m3 (dk aC.Year (-2999) 3000 _ hx1)) ?_
 refine ab.cl aa 2 [1,9] [1] ?_
 refine ab.cu [(9,fun b=>b)] h (fun h=> ?_) fun h=> ?_
 refine ab.cl aa 11 [1,20] [1] ?_
 refine ab.nil ?_
 obtain rfl:=inj h
 exact Le.aq
 refine ab.cl aa 2 [1,9,11] [1] ?_
 obtain⟨x2,hx2,h⟩:=bind_some h
 refine ab.ls (xc m3 (dk aC.Kind 0 3 _ hx2)) ?_
 refine ab.cl aa 3 [1,15] [1] ?_
 refine ab.cu [(15,fun b=>b)] h (fun h=> ?_) fun h=> ?_
 refine ab.cl aa 5 [1,20] [1] ?_
 refine ab.nil ?_
 obtain rfl:=inj h
 exact Le.aq
 refine ab.cl aa 2 [1,15,17] [1] ?_
 obtain⟨x3,hx3,h⟩:=bind_some h
 refine ab.ls (xc sU (gK aC.Code _ hx3)) ?_
 refine ab.cl aa 2 [1,20] [1] ?_
 refine ab.nil ?_
 obtain rfl:=inj h
 exact Le.aq
 refine ao h (fun h=> ?_) fun h=> ?_
 refine iR aa ⟨59,[(2,vb false)],[]⟩ ?_
 refine ag ?_
 obtain rfl:=inj h
 exact bw (aD (f1 fv))
 refine ai ?_
 refine aY ?_
 refine az aa [1,3] [1] ?_
 refine ac ?_
 refine sr ?_
 refine ab.cl aa 1 [1,3,24] [1] ?_
 obtain⟨x6,hx6,h⟩:=bind_some h
 refine ab.ls (xc vZ (ef aC _ hx6)) ?_
 refine ab.nx ?_
 refine a7 h (fun j7=>⟨59,[(1,.ref 1 0),(3,vb j7)],[(1,.box (tc ap aC))]⟩) (fun v8 h=> ?_) (fun j7 h=> ?_)
 refine ao h (fun h=> ?_) fun h=> ?_
 refine aF ?_
 refine ab.cl aa 2 [1,27] [1] ?_
 obtain⟨x9,hx9,h⟩:=bind_some h
 refine ab.ls (xc sU (gK aC.Other _ hx9)) ?_
 refine ab.cl aa 1 [1,29] [1] ?_
 refine ab.cu [(29,fun b=>b)] h (fun h=> ?_) fun h=> ?_
 refine ab.cl aa 7 [1,3] [1] ?_
 refine ab.nil ?_
 obtain rfl:=inj h
 exact fu (Le.aq)
 refine ab.cl aa 7 [1,3] [1] ?_
 refine ab.nil ?_
 obtain rfl:=inj h
 exact fu (Le.aq)
 refine ai ?_
 obtain rfl:=inj h
 exact fu (Le.aq)
 refine ac ?_
 refine dc ⟨59,[(1,.ref 1 0),(3,vb j7),(4,vb ((aC.Language.toList==(ByteArray.mk #[]).toList)&&(aC.Text.toList==(ByteArray.mk #[]).toList)))],[(1,.box (tc ap aC))]⟩ ?_ ?_
 refine ab.ck aa 4 ⟨59,[(1,.ref 1 0),(3,vb j7),(39,vb (aC.Language.toList==(ByteArray.mk #[]).toList))],[(1,.box (tc ap aC))]⟩ ?_
 generalize (aC.Language.toList==(ByteArray.mk #[]).toList)=bb
 cases bb
 refine ab.cl aa 5 [1,3,4] [1] ?_
 exact ab.nil (Le.aq)
 refine ab.cl aa 5 [1,3,4] [1] ?_
 exact ab.nil (Le.aq)
 refine ac ?_
 refine az aa [1,3,4,46] [1] ?_
 refine a7 h (fun j10=>⟨59,[(3,vb j7),(4,vb j10)],[]⟩) (fun v11 h=> ?_) (fun j10 h=> ?_)
 refine ao h (fun h=> ?_) fun h=> ?_
 refine aF ?_
 refine ab.cl aa 2 [1,3,48] [1] ?_
 obtain⟨x12,hx12,h⟩:=bind_some h
 refine ab.ls (xc wa (gq aC.Language _ hx12)) ?_
 refine ab.cl aa 1 [1,3,50] [1] ?_
 refine ab.cu [(50,fun b=>b)] h (fun h=> ?_) fun h=> ?_
 refine ab.cl aa 2 [3,50,52] [] ?_
 obtain⟨x13,hx13,h⟩:=bind_some h
 refine ab.ls (xc wb (ij aC.Text _ hx13)) ?_
 refine ab.cl aa 2 [3,4] [] ?_
 refine ab.nil ?_
 obtain rfl:=inj h
 exact fu (Le.aq)
 refine ab.cl aa 5 [3,4] [] ?_
 refine ab.nil ?_
 obtain rfl:=inj h
 exact fu (Le.aq)
 refine ai ?_
 obtain rfl:=inj h
 exact fu (Le.aq)
 refine ac ?_
 refine dc ⟨59,[(2,vb (j7&&j10))],[]⟩ ?_ ?_
 refine ab.ck aa 2 ⟨59,[(4,vb j10),(56,vb j7)],[]⟩ ?_
 generalize j7=bb
 cases bb
 refine ab.cl aa 3 [2] [] ?_
 exact ab.nil (Le.aq)
 refine ab.cl aa 3 [2] [] ?_
 exact ab.nil (Le.aq)
 refine ag ?_
 obtain rfl:=inj h
 exact aD (f1 fv)
theorem Cf:a8 Tryz.prog 36:=ax Tryz.func36 (by kernel_rfl) rfl
noncomputable def dt(aW:World)(aE:ByteArray):Option (Bool):=
 ((b9 aW.Places aE).bind fun x1=>some x1.2)
theorem gT(aW:World)(aE:ByteArray)(r:Bool)(h:dt aW aE=some r):aH Tryz.prog 85 [.v (.agg (tc ak aW)),.v (vs aE)] ⟨[.v (vb r)],[],false⟩:=by
 refine au Tryz.func85 rfl [(.tmp 4)] rfl (fun r=>⟨[.v (vb r)],[],false⟩) (r:=r) ?_
 unfold dt at h
 refine az aa [1,2] [2] ?_
 refine sr ?_
 refine ab.cl aa 3 [9,10] [] ?_
 obtain⟨x1,hx1,h⟩:=bind_some h
 refine ab.ls (xc nD (dN aW.Places aE _ hx1)) ?_
 refine bO aa 5 [6] [] ?_
 refine az aa [4] [] ?_
 refine ag ?_
 obtain rfl:=inj h
 exact aD (f1 fv)
theorem zf:a8 Tryz.prog 85:=ax Tryz.func85 (by kernel_rfl) rfl
noncomputable def cO(aW:World)(aE:ByteArray):Option (Place):=
 ((b9 aW.Places aE).bind fun x1=>((at' aW.Places x1.1).bind fun x2=>some x2))
theorem dV(aW:World)(aE:ByteArray)(r:Place)(h:cO aW aE=some r):aH Tryz.prog 86 [.v (.agg (tc ak aW)),.v (vs aE)] ⟨[.v (.agg (tc ad r))],[],true⟩:=by
 refine au Tryz.func86 rfl [(.cell 4 91)] rfl (fun r=>⟨[.v (.agg (tc ad r))],[],true⟩) (r:=r) ?_
 unfold cO at h
 refine az aa [1,2,4] [2,4] ?_
 refine sr ?_
 refine ab.cl aa 3 [2,4,9,10] [2,4] ?_
 obtain⟨x1,hx1,h⟩:=bind_some h
 refine ab.ls (xc nD (dN aW.Places aE _ hx1)) ?_
 refine bO aa 5 [2,4,5] [2,4] ?_
 refine sr ?_
 refine ab.cl aa 3 [4,15,16] [4] ?_
 obtain⟨x2,hx2,h⟩:=bind_some h
 refine ab.ls (aG (L:=aW.Places) (f:=ad) (ti:=cP) (tj:=cd) (e:=91) (k:= .i64) aa rfl hx2) ?_
 refine bO aa 2 [4] [4] ?_
 refine ag ?_
 obtain rfl:=inj h
 exact aD (f1 (kV rfl (cI aa (d:=4) (cs:=[vs x2.Code,vi x2.Class,vi x2.Years.From,vi x2.Years.To,vl ar x2.Names]) (ti:=cd) (by kernel_rfl) (by kernel_rfl) (by kernel_rfl) (by kernel_rfl))))
theorem sV:a8 Tryz.prog 86:=ax Tryz.func86 (by kernel_rfl) rfl
noncomputable def dS(aW:World)(aC:Change):Option (Int):=
 ((((((im aW).bind fun x3=>(bif(!x3)then some true else((gv aC).bind fun x4=>some (!x4))))).bind fun(j5:Bool)=>(bif j5 then some (.inr 1)else((((dt aW aC.Code).bind fun x7=>(bif(!x7)then some true else((cm aC).bind fun x8=>(bif x8 then((dt aW aC.Other).bind fun x9=>some (!x9))else some false))))).bind fun(j10:Bool)=>(bif j10 then some (.inr 4)else some (.inl ())))))).bind (Sum.elim (fun(_:Unit)=>((cO aW aC.Code).bind fun x12=>((((((bH x12.Years (aJ (aC.Year - 1))).bind fun x15=>(bif(!x15)then some true else(bif(aC.Kind !=1)then((bH x12.Years aC.Year).bind fun x16=>some (!x16))else some false)))).bind fun(j17:Bool)=>(bif j17 then some (.inr 5)else((((cm aC).bind fun x19=>(bif x19 then((cO aW aC.Other).bind fun x20=>((bH x20.Years aC.Year).bind fun x21=>some (!x21)))else some false))).bind fun(j22:Bool)=>(bif j22 then some (.inr 5)else some (.inl ())))))).bind (Sum.elim (fun(_:Unit)=>some 0) some)))) some))
theorem jH(aW:World)(aC:Change)(r:Int)(h:dS aW aC=some r):aH Tryz.prog 40 [.v (.agg (tc ak aW)),.v (.agg (tc ap aC))] ⟨[.v (vi r)],[],false⟩:=by
 refine au Tryz.func40 rfl [(.tmp 4)] rfl (fun r=>⟨[.v (vi r)],[],false⟩) (r:=r) ?_
 unfold dS at h
 refine az aa [2,3] [2,3] ?_
 refine ac ?_
 refine bi (r:=r) h (fun j1=>⟨70,[(2,.ref 2 0),(3,.ref 3 0)],[(2,.box (tc ak aW)),(3,.box (tc ap aC))]⟩) (fun v2 h=> ?_) (fun j1 h=> ?_)
 refine ay (a:=v2) ?_
 refine ac ?_
 refine bj h (fun j5=>⟨70,[(2,.ref 2 0),(3,.ref 3 0),(6,vb j5)],[(2,.box (tc ak aW)),(3,.box (tc ap aC))]⟩) (fun v6 h=> ?_) (fun j5 h=> ?_)
 refine ab.cl aa 1 [2,3,7] [2,3] ?_
 obtain⟨x3,hx3,h⟩:=bind_some h
 refine ab.ls (xc Ca (oA aW _ hx3)) ?_
 refine ab.cl aa 2 [2,3,10] [2,3] ?_
 refine ab.cu [(10,fun b=>b)] h (fun h=> ?_) fun h=> ?_
 refine ab.cl aa 5 [2,3,6] [2,3] ?_
 refine ab.nil ?_
 obtain rfl:=inj h
 exact Le.aq
 refine ab.cl aa 1 [2,3,10,11] [2,3] ?_
 obtain⟨x4,hx4,h⟩:=bind_some h
 refine ab.ls (xc Cf (nN aC _ hx4)) ?_
 refine ab.cl aa 3 [2,3,6] [2,3] ?_
 refine ab.nil ?_
 obtain rfl:=inj h
 exact Le.aq
 refine ao h (fun h=> ?_) fun h=> ?_
 refine iR aa ⟨70,[(4,vi 1)],[]⟩ ?_
 refine ag ?_
 obtain rfl:=inj h
 exact bm (aU (aD (f1 fv)))
 refine ac ?_
 refine bj h (fun j10=>⟨70,[(2,.ref 2 0),(3,.ref 3 0),(15,vb j10)],[(2,.box (tc ak aW)),(3,.box (tc ap aC))]⟩) (fun v11 h=> ?_) (fun j10 h=> ?_)
 refine ab.cl aa 3 [2,3,16,18] [2,3] ?_
 obtain⟨x7,hx7,h⟩:=bind_some h
 refine ab.ls (xc zf (gT aW aC.Code _ hx7)) ?_
 refine ab.cl aa 2 [2,3,21] [2,3] ?_
 refine ab.cu [(21,fun b=>b)] h (fun h=> ?_) fun h=> ?_
 refine ab.cl aa 11 [2,3,15] [2,3] ?_
 refine ab.nil ?_
 obtain rfl:=inj h
 exact Le.aq
 refine ab.cl aa 1 [2,3,21,22] [2,3] ?_
 obtain⟨x8,hx8,h⟩:=bind_some h
 refine ab.ls (xc vZ (ef aC _ hx8)) ?_
 refine ab.cl aa 1 [2,3,21,24] [2,3] ?_
 refine ab.cu [(24,fun b=>b)] h (fun h=> ?_) fun h=> ?_
 refine ab.cl aa 3 [2,3,21,24,25,27] [2,3] ?_
 obtain⟨x9,hx9,h⟩:=bind_some h
 refine ab.ls (xc zf (gT aW aC.Other _ hx9)) ?_
 refine ab.cl aa 4 [2,3,15] [2,3] ?_
 refine ab.nil ?_
 obtain rfl:=inj h
 exact Le.aq
 refine ab.cl aa 8 [2,3,15] [2,3] ?_
 refine ab.nil ?_
 obtain rfl:=inj h
 exact Le.aq
 refine ao h (fun h=> ?_) fun h=> ?_
 refine iR aa ⟨70,[(4,vi 4)],[]⟩ ?_
 refine ag ?_
 obtain rfl:=inj h
 exact bm (aU (aD (f1 fv)))
 refine ai ?_
 obtain rfl:=inj h
 exact bT (bZ (Le.aq))
 refine sr ?_
 refine ab.cl aa 3 [2,3,32,34] [2,3] ?_
 obtain⟨x12,hx12,h⟩:=bind_some h
 refine ab.ls (xc sV (dV aW aC.Code _ hx12)) ?_
 refine bO aa 3 [2,3,5] [2,3,5] ?_
 refine ac ?_
 refine bi (r:=r) h (fun j13=>⟨70,[],[]⟩) (fun v14 h=> ?_) (fun j13 h=> ?_)
 refine ay (a:=v14) ?_
 refine ac ?_
 refine bj h (fun j17=>⟨70,[(2,.ref 2 0),(3,.ref 3 0),(37,vb j17)],[(2,.box (tc ak aW)),(3,.box (tc ap aC))]⟩) (fun v18 h=> ?_) (fun j17 h=> ?_)
 refine ab.cl aa 4 [2,3,5,38,41] [2,3,5] ?_
 obtain⟨x15,hx15,h⟩:=bind_some h
 refine ab.ls (xc lV (cA x12.Years (aJ (aC.Year - 1)) _ hx15)) ?_
 refine ab.cl aa 2 [2,3,5,44] [2,3,5] ?_
 refine ab.cu [(44,fun b=>b)] h (fun h=> ?_) fun h=> ?_
 refine ab.cl aa 12 [2,3,37] [2,3] ?_
 refine ab.nil ?_
 obtain rfl:=inj h
 exact Le.aq
 refine ab.cl aa 4 [2,3,5,44,48] [2,3,5] ?_
 refine ab.cu [(48,fun b=>b)] h (fun h=> ?_) fun h=> ?_
 refine ab.cl aa 3 [2,3,44,48,49,51] [2,3] ?_
 obtain⟨x16,hx16,h⟩:=bind_some h
 refine ab.ls (xc lV (cA x12.Years aC.Year _ hx16)) ?_
 refine ab.cl aa 4 [2,3,37] [2,3] ?_
 refine ab.nil ?_
 obtain rfl:=inj h
 exact Le.aq
 refine ab.cl aa 8 [2,3,37] [2,3] ?_
 refine ab.nil ?_
 obtain rfl:=inj h
 exact Le.aq
 refine ao h (fun h=> ?_) fun h=> ?_
 refine iR aa ⟨70,[(4,vi 5)],[]⟩ ?_
 refine ag ?_
 obtain rfl:=inj h
 exact bm (aU (aD (f1 fv)))
 refine ac ?_
 refine jR mixed h (fun j22=>⟨70,[(56,vb j22)],[]⟩) (fun v23 h=> ?_) (fun j22 h=> ?_)
 refine aR.cl aa false 1 [2,3,57] [2,3] ?_
 obtain⟨x19,hx19,h⟩:=bind_some h
 refine aR.step (xc vZ (ef aC _ hx19)) ?_
 refine aR.cl aa false 1 [2,3,59] [2,3] ?_
 refine aR.cu [(59,fun b=>b)] h (fun h=> ?_) fun h=> ?_
 refine aR.cl aa false 3 [3,59,60,62] [3] ?_
 obtain⟨x20,hx20,h⟩:=bind_some h
 refine aR.step (xc sV (dV aW aC.Other _ hx20)) ?_
 refine aR.cl aa false 3 [59,64,66] [] ?_
 obtain⟨x21,hx21,h⟩:=bind_some h
 refine aR.step (xc lV (cA x20.Years aC.Year _ hx21)) ?_
 refine aR.cl aa false 3 [56] [] ?_
 refine aR.nil (by kernel_rfl) ?_
 obtain rfl:=inj h
 exact Le.aq
 refine aR.cl aa false 11 [56] [] ?_
 refine aR.nil (by kernel_rfl) ?_
 obtain rfl:=inj h
 exact Le.aq
 refine ao h (fun h=> ?_) fun h=> ?_
 refine iR aa ⟨70,[(4,vi 5)],[]⟩ ?_
 refine ag ?_
 obtain rfl:=inj h
 exact bm (aU (aD (f1 fv)))
 refine ai ?_
 obtain rfl:=inj h
 exact bT (bZ (Le.aq))
 refine iR aa ⟨70,[(4,vi 0)],[]⟩ ?_
 refine ag ?_
 obtain rfl:=inj h
 exact aD (f1 fv)
theorem y6:a8 Tryz.prog 40:=ax Tryz.func40 (by kernel_rfl) rfl
def dg(L:List Name):Option (List Name):=if L.length≤68719476736 then some L else none
set_option maxRecDepth 100000 in
theorem iV(L r:List Name)(h:dg L=some r):aH Tryz.prog 183 [.v (.tr (.sl L.length (L.map ar)))] ⟨[.own 169 5 r.length (r.map ar)],[],true⟩:=by
 unfold dg at h
 split at h
 ·rename_i hh
  injection h with h
  subst h
  refine o9 ar Tryz.xL 183 169 rfl rfl _ _ 5 56 rfl rfl (by kernel_rfl) (by kernel_rfl) (by kernel_rfl) (by decide) (fun _=>rfl) (fun _=>rfl) L (by omega)
 ·cases h
theorem w9:a8 Tryz.prog 183:=ax Tryz.func183 (by kernel_rfl) rfl
noncomputable def eu(aP:Place):Option (Place):=
 ((dg aP.Names).bind fun x1=>some (Place.mk aP.Code aP.Class aP.Years x1))
theorem lZ(aP:Place)(r:Place)(h:eu aP=some r):aH Tryz.prog 140 [.v (.agg (tc ad aP))] ⟨[.part [vs r.Code,vi r.Class,vi r.Years.From,vi r.Years.To] [] (oa 169 5 ar r.Names)],[],false⟩:=by
 refine au Tryz.func140 rfl [(.cell 2 91)] rfl (fun r=>⟨[.part [vs r.Code,vi r.Class,vi r.Years.From,vi r.Years.To] [] (oa 169 5 ar r.Names)],[],false⟩) (r:=r) ?_
 unfold eu at h
 refine az aa [1,2] [1,2] ?_
 refine sr ?_
 refine ab.cl aa 2 [1,2,4] [1,2] ?_
 obtain⟨x1,hx1,h⟩:=bind_some h
 refine ab.ls (xc w9 (iV aP.Names _ hx1)) ?_
 refine bO aa 2 [1,2] [1,2,5] ?_
 refine az aa [2] [2,5] ?_
 refine ag ?_
 obtain rfl:=inj h
 exact aD (f1 (Bl (d:=5) [vs aP.Code,vi aP.Class,vi aP.Years.From,vi aP.Years.To] [] (cI aa (d:=2) (cs:=[vs aP.Code,vi aP.Class,vi aP.Years.From,vi aP.Years.To,.own 5]) (ti:=cd) (by kernel_rfl) (by kernel_rfl) (by kernel_rfl) (by kernel_rfl)) (by kernel_rfl) (b5 bu _) rfl rfl SV.et SV.et (by kernel_rfl)))
theorem AK:a8 Tryz.prog 140:=ax Tryz.func140 (by kernel_rfl) rfl
noncomputable def dM(ah:(List Place)):Option ((List Place)):=
 (((jx (ah.length:Int) (fun(i3:Int) (s3:(List Place))=>((at' ah i3).bind fun x7=>((eu x7).bind fun x8=>((ed s3 ([x8]:List Place)).bind fun x9=>some x9)))) (fun(s3:(List Place))=>s3) 0 ([]:List Place))).bind fun(j1:(List Place))=>some j1)
theorem lx(ah:(List Place))(r:(List Place))(h:dM ah=some r):aH Tryz.prog 88 [.v (vl ad ah)] ⟨[.deep 91 5 r.length [.flat,.flat,.flat,.flat,(.sl 169 5 [.flat,.flat,.flat,.flat,.flat])] (r.map ad)],[],false⟩:=by
 refine au Tryz.func88 rfl [(.tmp 2)] rfl (fun r=>⟨[.deep 91 5 r.length [.flat,.flat,.flat,.flat,(.sl 169 5 [.flat,.flat,.flat,.flat,.flat])] (r.map ad)],[],false⟩) (r:=r) ?_
 unfold dM at h
 refine sr ?_
 refine ab.cl aa 1 [2,0] [2] ?_
 refine ab.le (Le.qx (d:=2) (e:=91) (m:=5) (ss:=[.flat,.flat,.flat,.flat,(.sl 169 5 [.flat,.flat,.flat,.flat,.flat])]) (by kernel_rfl) (by kernel_rfl)) ?_
 refine ab.nx ?_
 refine sr ?_
 refine ab.cl aa 1 [3,2,0] [3,2] ?_
 refine ab.le (Le.qx (d:=3) (e:=91) (m:=5) (ss:=[.flat,.flat,.flat,.flat,(.sl 169 5 [.flat,.flat,.flat,.flat,.flat])]) (by kernel_rfl) (by kernel_rfl)) ?_
 refine ab.nx ?_
 refine ac ?_
 refine az aa [3,6,7,8] [3] ?_
 refine a7 h (fun j1=>⟨19,[(3,.own 3)],[(3,.deep 91 5 j1.length [.flat,.flat,.flat,.flat,(.sl 169 5 [.flat,.flat,.flat,.flat,.flat])] (j1.map ad))]⟩) (fun v2 h=> ?_) (fun j1 h=> ?_)
 refine ay (a:=v2) ?_
 refine a6 (r:=v2) (s:=(0,([]:List Place))) _ (fun s3=>⟨19,[(3,.own 3),(6,vl ad ah),(7,vi (ah.length:Int)),(8,vi s3.1)],[(3,.deep 91 5 s3.2.length [.flat,.flat,.flat,.flat,(.sl 169 5 [.flat,.flat,.flat,.flat,.flat])] (s3.2.map ad))]⟩) _ (Le.aq) h (fun s3 v4 h=> ?_)
 refine az aa [3,6,7,8,9] [3] ?_
 refine ac ?_
 refine ao h (fun h=> ?_) fun h=> ?_
 refine ai ?_
 refine aY ?_
 refine ac ?_
 refine a7 h (fun j5=>⟨19,[(3,.own 3),(6,vl ad ah),(7,vi (ah.length:Int)),(8,vi s3.1)],[(3,.deep 91 5 j5.length [.flat,.flat,.flat,.flat,(.sl 169 5 [.flat,.flat,.flat,.flat,.flat])] (j5.map ad))]⟩) (fun v6 h=> ?_) (fun j5 h=> ?_)
 refine ay (a:=v6) ?_
 refine sr ?_
 obtain⟨x7,hx7,h⟩:=bind_some h
 refine ab.ls (aG (L:=ah) (f:=ad) (ti:=cP) (tj:=cd) (e:=91) (k:= .i64) aa rfl hx7) ?_
 refine bO aa 3 [3,5,6,7,8] [3,5] ?_
 refine aF ?_
 refine ab.cl aa 2 [6,7,8,12,13] [3] ?_
 obtain⟨x8,hx8,h⟩:=bind_some h
 refine ab.ls (xc AK (lZ x7 _ hx8)) ?_
 refine ab.bx (oj (ti:=cP) (tj:=cd) (e:=91) (m:=5) (zs:=[.string (ByteArray.mk #[]),.int .i64 0,.int .i64 0,.int .i64 0,.slice none 0 0]) (v:= .agg [vs x8.Code,vi x8.Class,vi x8.Years.From,vi x8.Years.To,.own 14]) (cs:=[vs x8.Code,vi x8.Class,vi x8.Years.From,vi x8.Years.To,.own 14]) (ss:=[.flat,.flat,.flat,.flat,(.sl 169 5 [.flat,.flat,.flat,.flat,.flat])]) (ts:=[.str x8.Code,.int .i64 x8.Class,.int .i64 x8.Years.From,.int .i64 x8.Years.To,.sl x8.Names.length (x8.Names.map ar)]) (ds:=[14]) aa rfl rfl rfl (.cons _ _ _ [] _ _ _ _ (.flat (.str x8.Code) rfl) (.cons _ _ _ [] _ _ _ _ (.flat (.int .i64 x8.Class) rfl) (.cons _ _ _ [] _ _ _ _ (.flat (.int .i64 x8.Years.From) rfl) (.cons _ _ _ [] _ _ _ _ (.flat (.int .i64 x8.Years.To) rfl) (.cons _ _ _ [14] _ _ _ _ (qq (d:=14) (e:=169) (m:=5) (n:=x8.Names.length) (es:=x8.Names.map ar) (ss:=[.flat,.flat,.flat,.flat,.flat]) (b5 bu _)) .nil (by decide)) (by decide)) (by decide)) (by decide)) (by decide))) ?_
 obtain⟨x9,hx9,h⟩:=bind_some h
 refine ab.bx (mY (f:=ad) (L:=s3.2) (M:=([x8]:List Place)) (t:=32) (ti:=cP) (tj:=cd) (zs:=[.string (ByteArray.mk #[]),.int .i64 0,.int .i64 0,.int .i64 0,.slice none 0 0]) (e:=91) (m:=5) (d:=3) (dx:=15) (ss:=[.flat,.flat,.flat,.flat,(.sl 169 5 [.flat,.flat,.flat,.flat,.flat])]) hx9 aa rfl rfl rfl rfl) ?_
 refine ab.cl aa 1 [3,6,7,8] [16] ?_
 refine ab.nil ?_
 obtain rfl:=inj h
 exact bT (fu (Le.rr [16] [(16,3)]))
 refine aF ?_
 refine ab.cl aa 2 [3,6,7,8] [3] ?_
 refine ab.nil ?_
 obtain rfl:=inj h
 exact bZ (Le.aq)
 refine aQ ?_
 obtain rfl:=inj h
 exact cD (cF (cE (fu (Le.aq))))
 refine az aa [2] [3] ?_
 refine ag ?_
 obtain rfl:=inj h
 exact aD (f1 (xP (d:=3) (jb (by kernel_rfl)) (by kernel_rfl) (by kernel_rfl)))
theorem CB:a8 Tryz.prog 88:=ax Tryz.func88 (by kernel_rfl) rfl
def fF(L:List aw):Option (List aw):=if L.length≤68719476736 then some L else none
set_option maxRecDepth 100000 in
theorem lO(L r:List aw)(h:fF L=some r):aH Tryz.prog 89 [.v (.tr (.sl L.length (L.map ae)))] ⟨[.own 85 4 r.length (r.map ae)],[],true⟩:=by
 unfold fF at h
 split at h
 ·rename_i hh
  injection h with h
  subst h
  refine o9 ae Tryz.xK 89 85 rfl rfl _ _ 4 48 rfl rfl (by kernel_rfl) (by kernel_rfl) (by kernel_rfl) (by decide) (fun _=>rfl) (fun _=>rfl) L (by omega)
 ·cases h
theorem CC:a8 Tryz.prog 89:=ax Tryz.func89 (by kernel_rfl) rfl
noncomputable def dT(aW:World):Option (World):=
 ((dM aW.Places).bind fun x1=>((fF aW.Links).bind fun x2=>some (World.mk x1 x2)))
theorem jI(aW:World)(r:World)(h:dT aW=some r):jE Tryz.prog 41 [.agg (tc ak aW)] [] [(3000000,.deep 91 5 r.Places.length [.flat,.flat,.flat,.flat,(.sl 169 5 [.flat,.flat,.flat,.flat,.flat])] (r.Places.map ad)),(3000001,oa 85 4 ae r.Links)] [.agg [.own 3000000,.own 3000001]]:=by
 refine iO Tryz.func41 rfl [(.cell 2 35)] rfl (fun r=>[(3000000,.deep 91 5 r.Places.length [.flat,.flat,.flat,.flat,(.sl 169 5 [.flat,.flat,.flat,.flat,.flat])] (r.Places.map ad)),(3000001,oa 85 4 ae r.Links)]) (fun r=>[.agg [.own 3000000,.own 3000001]]) (r:=r) (ci trivial (ci (b5 di _) jM)) ?_
 unfold dT at h
 refine az aa [1,2] [1,2] ?_
 refine ac ?_
 refine cL mixed ?_
 refine aR.cl aa false 2 [1,2,4] [1,2] ?_
 obtain⟨x1,hx1,h⟩:=bind_some h
 refine aR.step (xc CB (lx aW.Places _ hx1)) ?_
 refine aR.cl aa false 2 [2,5,7] [2,5] ?_
 obtain⟨x2,hx2,h⟩:=bind_some h
 refine aR.step (xc CC (lO aW.Links _ hx2)) ?_
 refine aR.zM false [5,8] (bk (v:= .agg [.own 5,.own 8]) aa rfl) ?_
 refine aR.seq (by kernel_rfl) (by kernel_rfl) ?_
 refine ckn aa 1 ⟨10,[(2,.ref 2 0)],[(2,.box [.own 5,.own 8]),(5,.deep 91 5 x1.length [.flat,.flat,.flat,.flat,(.sl 169 5 [.flat,.flat,.flat,.flat,.flat])] (x1.map ad)),(8,oa 85 4 ae x2)]⟩ ?_
 refine cM (Le.ve 5 3000000) ?_
 refine cM (Le.ve 8 3000001) ?_
 refine ag ?_
 obtain rfl:=inj h
 exact mb (fw aa)
theorem y7:a8 Tryz.prog 41:=ax Tryz.func41 (by kernel_rfl) rfl
noncomputable def fE(aN:Name)(c0:ByteArray)(c1:Int):Option (Bool):=
 ((((cN aN c0).bind fun x1=>(bif x1 then((bH aN.Years c1).bind fun x2=>some x2)else some false))).bind fun(j3:Bool)=>some j3)
theorem lM(aN:Name)(c0:ByteArray)(c1:Int)(r:Bool)(h:fE aN c0 c1=some r):aH Tryz.prog 213 [.v (.agg (tc ar aN)),.v (.ptr [vs c0] 0),.v (.ptr [vi c1] 0)] ⟨[.v (vb r)],[],false⟩:=by
 refine au Tryz.func213 rfl [(.tmp 4)] rfl (fun r=>⟨[.v (vb r)],[],false⟩) (r:=r) ?_
 unfold fE at h
 refine az aa [1,2,3] [3] ?_
 refine ac ?_
 refine bj h (fun j3=>⟨14,[(4,vb j3)],[]⟩) (fun v4 h=> ?_) (fun j3 h=> ?_)
 refine ab.cl aa 2 [2,3,5,6] [3] ?_
 obtain⟨x1,hx1,h⟩:=bind_some h
 refine ab.ls (xc xa (gw aN c0 _ hx1)) ?_
 refine ab.cl aa 1 [2,3,8] [3] ?_
 refine ab.cu [(8,fun b=>b)] h (fun h=> ?_) fun h=> ?_
 refine ab.cl aa 3 [8,10,11] [] ?_
 obtain⟨x2,hx2,h⟩:=bind_some h
 refine ab.ls (xc lV (cA aN.Years c1 _ hx2)) ?_
 refine ab.cl aa 2 [4] [] ?_
 refine ab.nil ?_
 obtain rfl:=inj h
 exact Le.aq
 refine ab.cl aa 6 [4] [] ?_
 refine ab.nil ?_
 obtain rfl:=inj h
 exact Le.aq
 refine ag ?_
 obtain rfl:=inj h
 exact aD (f1 fv)
theorem Bf:a8 Tryz.prog 213:=ax Tryz.func213 (by kernel_rfl) rfl
noncomputable def bL(aS:(List Name))(cT:ByteArray)(aF1:Int):Option (Int):=
 (((cW (aS.length:Int) (fun(i3:Int) (_:Unit)=>((at' aS i3).bind fun x7=>((fE x7 cT aF1).bind fun x8=>(bif x8 then some (.inr (.inr i3))else some (.inl ()))))) (fun(_:Unit)=> .inl ()) 0 ())).bind (Sum.elim (fun(_:Unit)=>some (-1)) some))
theorem eR(aS:(List Name))(cT:ByteArray)(aF1:Int)(r:Int)(h:bL aS cT aF1=some r):aH Tryz.prog 197 [.v (vl ar aS),.v (.clo 213 [.ptr [vs cT] 0,.ptr [vi aF1] 0])] ⟨[.v (vi r)],[],false⟩:=by
 refine au Tryz.func197 rfl [(.tmp 4)] rfl (fun r=>⟨[.v (vi r)],[],false⟩) (r:=r) ?_
 unfold bL at h
 refine az aa [0,1] [] ?_
 refine ac ?_
 refine az aa [0,1,7,8] [] ?_
 refine bi (r:=r) h (fun j1=>⟨19,[],[]⟩) (fun v2 h=> ?_) (fun j1 h=> ?_)
 refine ay (a:=v2) ?_
 refine a6 (r:=v2) (s:=(0,())) _ (fun s3=>⟨19,[(0,vl ar aS),(1,.clo 213 [.ptr [vs cT] 0,.ptr [vi aF1] 0]),(7,vi (aS.length:Int)),(8,vi s3.1)],[]⟩) _ (Le.aq) h (fun s3 v4 h=> ?_)
 refine az aa [0,1,7,8,9] [] ?_
 refine ac ?_
 refine ao h (fun h=> ?_) fun h=> ?_
 refine ai ?_
 refine aY ?_
 refine ac ?_
 refine bn (r:=v4) h (fun j5=>⟨19,[(0,vl ar aS),(1,.clo 213 [.ptr [vs cT] 0,.ptr [vi aF1] 0]),(7,vi (aS.length:Int)),(8,vi s3.1)],[]⟩) (fun v6 h=> ?_) (fun j5 h=> ?_)
 refine ay (a:=v6) ?_
 refine az aa [0,1,5,7,8] [] ?_
 refine sr ?_
 refine ab.cl aa 3 [0,1,5,7,8,11,12,13] [] ?_
 obtain⟨x7,hx7,h⟩:=bind_some h
 refine ab.ls (aG (L:=aS) (f:=ar) (ti:=dd) (tj:=cH) (e:=169) (k:= .i64) aa rfl hx7) ?_
 refine ab.cl aa 1 [0,1,5,7,8,11,15] [] ?_
 obtain⟨x8,hx8,h⟩:=bind_some h
 refine ab.ls (xc Bf (lM x7 cT aF1 _ hx8)) ?_
 refine ab.nx ?_
 refine ao h (fun h=> ?_) fun h=> ?_
 refine az aa [4] [] ?_
 refine ag ?_
 obtain rfl:=inj h
 exact bm (aU (aU (bm (aU (aD (f1 fv))))))
 refine ai ?_
 obtain rfl:=inj h
 exact bT (bZ (Le.aq))
 refine aF ?_
 refine ab.cl aa 2 [0,1,7,8] [] ?_
 refine ab.nil ?_
 obtain rfl:=inj h
 exact bZ (Le.aq)
 refine aQ ?_
 obtain rfl:=inj h
 exact cD (cF (cE (bZ (Le.aq))))
 refine az aa [4] [] ?_
 refine ag ?_
 obtain rfl:=inj h
 exact aD (f1 fv)
noncomputable def fb(ah:(List Name))(aZ:ByteArray)(an:Int):Option (Int×Int):=
 ((((((fq ah).bind fun x3=>(bif(!x3)then some true else((dj aZ).bind fun x4=>some (!x4))))).bind fun(j5:Bool)=>(bif j5 then some (.inr (0,1))else((dX an).bind fun x7=>(bif(!x7)then some (.inr (0,2))else some (.inl ())))))).bind (Sum.elim (fun(_:Unit)=>((bL ah aZ an).bind fun x8=>(bif(decide (x8<0))then some (0,4)else some (x8,0)))) some))
theorem mH(ah:(List Name))(aZ:ByteArray)(an:Int)(r:Int×Int)(h:fb ah aZ an=some r):aH Tryz.prog 184 [.v (vl ar ah),.v (vs aZ),.v (vi an)] ⟨[.v (vi r.1),.v (vi r.2)],[],false⟩:=by
 refine au Tryz.func184 rfl [(.tmp 6),(.tmp 7)] rfl (fun r=>⟨[.v (vi r.1),.v (vi r.2)],[],false⟩) (r:=r) ?_
 unfold fb at h
 refine az aa [0,4,5] [4,5] ?_
 refine ac ?_
 refine bi (r:=r) h (fun j1=>⟨28,[(0,vl ar ah),(4,.ref 4 0),(5,.ref 5 0)],[(4,.box [vs aZ]),(5,.box [vi an])]⟩) (fun v2 h=> ?_) (fun j1 h=> ?_)
 refine ay (a:=v2) ?_
 refine ac ?_
 refine bj h (fun j5=>⟨28,[(0,vl ar ah),(4,.ref 4 0),(5,.ref 5 0),(9,vb j5)],[(4,.box [vs aZ]),(5,.box [vi an])]⟩) (fun v6 h=> ?_) (fun j5 h=> ?_)
 refine ab.cl aa 1 [0,4,5,10] [4,5] ?_
 obtain⟨x3,hx3,h⟩:=bind_some h
 refine ab.ls (xc w4 (kz ah _ hx3)) ?_
 refine ab.cl aa 2 [0,4,5,13] [4,5] ?_
 refine ab.cu [(13,fun b=>b)] h (fun h=> ?_) fun h=> ?_
 refine ab.cl aa 5 [0,4,5,9] [4,5] ?_
 refine ab.nil ?_
 obtain rfl:=inj h
 exact Le.aq
 refine ab.cl aa 1 [0,4,5,13,14] [4,5] ?_
 obtain⟨x4,hx4,h⟩:=bind_some h
 refine ab.ls (xc wa (gq aZ _ hx4)) ?_
 refine ab.cl aa 3 [0,4,5,9] [4,5] ?_
 refine ab.nil ?_
 obtain rfl:=inj h
 exact Le.aq
 refine ao h (fun h=> ?_) fun h=> ?_
 refine az aa [6,7] [] ?_
 refine ag ?_
 obtain rfl:=inj h
 exact bm (aU (aD (f2 fv fv)))
 refine sr ?_
 refine ab.cl aa 1 [0,4,5,19] [4,5] ?_
 obtain⟨x7,hx7,h⟩:=bind_some h
 refine ab.ls (xc p7 (gL an _ hx7)) ?_
 refine bO aa 2 [0,4,5,18] [4,5] ?_
 refine ao h (fun h=> ?_) fun h=> ?_
 refine iR aa ⟨28,[(6,vi 0),(7,vi 2)],[]⟩ ?_
 refine ag ?_
 obtain rfl:=inj h
 exact bm (aU (aD (f2 fv fv)))
 refine ai ?_
 obtain rfl:=inj h
 exact bT (bZ (Le.aq))
 refine sr ?_
 refine ab.cl aa 2 [22,23] [4,5] ?_
 obtain⟨x8,hx8,h⟩:=bind_some h
 refine ab.ls (xc sT (eR ah aZ an _ hx8)) ?_
 refine bO aa 1 [8] [] ?_
 refine ac ?_
 refine az aa [8,26] [] ?_
 refine ao h (fun h=> ?_) fun h=> ?_
 refine az aa [6,7] [] ?_
 refine ag ?_
 obtain rfl:=inj h
 exact bw (aD (f2 fv fv))
 refine ai ?_
 refine aY ?_
 refine az aa [6,7] [] ?_
 refine ag ?_
 obtain rfl:=inj h
 exact aD (f2 fv fv)
theorem A2:a8 Tryz.prog 184:=ax Tryz.func184 (by kernel_rfl) rfl
theorem lA(L:List Name)(i j:Int)(r:List Name)(h:dO L i j=some r):jE Tryz.prog 214 [.own 3000000,vi i,vi j] [(3000000,oa 169 5 ar L)] [(3000000,oa 169 5 ar r)] [.own 3000000]:=yS bu L i j r h
theorem Bg:a8 Tryz.prog 214:=ax Tryz.func214 (by kernel_rfl) rfl
noncomputable def iu(ah:(List Name))(aI:Int)(an:Int)(c8:ByteArray):Option ((List Name)):=
 ((dg ah).bind fun x1=>((at' x1 aI).bind fun x2=>((at' x1 aI).bind fun x3=>((at' x1 aI).bind fun x4=>((at' (List.set x1 (Int.toNat aI) (Name.mk x4.Text x4.Language x4.Status (Span.mk x4.Years.From (aJ (an - 1))))) aI).bind fun x5=>(((bif(x5.Years.From==an)then((dO (List.set x1 (Int.toNat aI) (Name.mk x4.Text x4.Language x4.Status (Span.mk x4.Years.From (aJ (an - 1))))) aI (aJ (aI+1))).bind fun x8=>some x8)else some (List.set x1 (Int.toNat aI) (Name.mk x4.Text x4.Language x4.Status (Span.mk x4.Years.From (aJ (an - 1))))))).bind fun(j6:(List Name))=>((ed j6 ([(Name.mk c8 x2.Language 0 (Span.mk an x3.Years.To))]:List Name)).bind fun x9=>some x9)))))))
theorem oC(ah:(List Name))(aI:Int)(an:Int)(c8:ByteArray)(r:(List Name))(h:iu ah aI an c8=some r):aH Tryz.prog 185 [.v (vl ar ah),.v (vi aI),.v (vi an),.v (vs c8)] ⟨[.own 169 5 r.length (r.map ar)],[],false⟩:=by
 refine au Tryz.func185 rfl [(.tmp 8)] rfl (fun r=>⟨[.own 169 5 r.length (r.map ar)],[],false⟩) (r:=r) ?_
 unfold iu at h
 refine az aa [0,1,2,3] [] ?_
 refine sr ?_
 refine ab.cl aa 1 [1,2,3,11] [] ?_
 obtain⟨x1,hx1,h⟩:=bind_some h
 refine ab.ls (xc w9 (iV ah _ hx1)) ?_
 refine bO aa 1 [1,2,3,9] [12] ?_
 refine ac ?_
 refine cL mixed ?_
 refine aR.cl aa false 3 [1,2,9,13,14,15] [12] ?_
 obtain⟨x2,hx2,h⟩:=bind_some h
 refine aR.step (bo (d:=12) (L:=x1) (f:=ar) (ti:=dd) (tj:=cH) (e:=169) (e':=169) (m:=5) (k:= .i64) aa rfl hx2) ?_
 refine aR.cl aa false 1 [1,2,9,13,17] [12] ?_
 refine aR.step (dr (d:=12) (m:=5) (j:=1) (L:=x1) (f:=ar) (ti:=gH) (e:=169) (v:=vs x2.Language) aa rfl hx2) ?_
 refine aR.cl aa false 3 [1,2,9,13,18,19,20,21] [12] ?_
 obtain⟨x3,hx3,h⟩:=bind_some h
 refine aR.step (bo (d:=12) (L:=x1) (f:=ar) (ti:=dd) (tj:=cH) (e:=169) (e':=169) (m:=5) (k:= .i64) aa rfl hx3) ?_
 refine aR.cl aa false 2 [1,2,9,13,18,19,24] [12] ?_
 refine aR.step (dr (d:=12) (m:=5) (j:=4) (L:=x1) (f:=ar) (ti:=ti2) (e:=169) (v:=vi x3.Years.To) aa rfl hx3) ?_
 refine aR.step (bk (v:= .agg [vi an,vi x3.Years.To]) aa rfl) ?_
 refine aR.step (bk (v:= .agg [vs c8,vs x2.Language,vi 0,vi an,vi x3.Years.To]) aa rfl) ?_
 refine aR.cl aa false 1 [1,2,9,10,27] [10,12] ?_
 refine aR.seq (by kernel_rfl) (by kernel_rfl) ?_
 refine ckn aa 1 ⟨52,[(1,vi aI),(2,vi an),(9,.own 12),(10,.ref 10 0)],[(10,.box [vs c8,vs x2.Language,vi 0,vi an,vi x3.Years.To]),(12,oa 169 5 ar x1)]⟩ ?_
 refine sr ?_
 refine ab.cl aa 4 [1,2,9,10,28,29,31] [10,12] ?_
 obtain⟨x4,hx4,h⟩:=bind_some h
 refine ab.ls (bo (d:=12) (L:=x1) (f:=ar) (ti:=dd) (tj:=cH) (e:=169) (e':=169) (m:=5) (k:= .i64) aa rfl hx4) ?_
 refine ab.cl aa 2 [1,2,9,10,31,34] [10,12] ?_
 refine ab.bx (cC (d:=12) (m:=5) (j:=4) (L:=x1) (f:=ar) (x:=(Name.mk x4.Text x4.Language x4.Status (Span.mk x4.Years.From (aJ (an - 1))))) (z:=x4) (ti:=ti2) (e:=169) (ts:=[.int .i64 (aJ (an - 1))]) (vs:=[vi (aJ (an - 1))]) (v:=vi (aJ (an - 1))) aa rfl rfl hx4) ?_
 refine ab.nx ?_
 refine ac ?_
 refine sr ?_
 refine ab.cl aa 2 [1,2,9,10,35,36] [10,12] ?_
 obtain⟨x5,hx5,h⟩:=bind_some h
 refine ab.ls (bo (d:=12) (L:=(List.set x1 (Int.toNat aI) (Name.mk x4.Text x4.Language x4.Status (Span.mk x4.Years.From (aJ (an - 1)))))) (f:=ar) (ti:=dd) (tj:=cH) (e:=169) (e':=169) (m:=5) (k:= .i64) aa rfl hx5) ?_
 refine ab.cl aa 2 [1,2,9,10,39] [10,12] ?_
 refine ab.ls (dr (d:=12) (m:=5) (j:=3) (L:=(List.set x1 (Int.toNat aI) (Name.mk x4.Text x4.Language x4.Status (Span.mk x4.Years.From (aJ (an - 1)))))) (f:=ar) (ti:=ti2) (e:=169) (v:=vi x5.Years.From) aa rfl hx5) ?_
 refine bO aa 2 [1,9,10,42] [10,12] ?_
 refine a7 h (fun j6=>⟨52,[(9,.own 9),(10,.ref 10 0)],[(10,.box [vs c8,vs x2.Language,vi 0,vi an,vi x3.Years.To]),(9,oa 169 5 ar j6)]⟩) (fun v7 h=> ?_) (fun j6 h=> ?_)
 refine ao h (fun h=> ?_) fun h=> ?_
 refine aF ?_
 refine ab.ck aa 4 ⟨52,[(10,.ref 10 0),(43,.own 12),(44,vi aI),(46,vi (aJ (aI+1)))],[(10,.box [vs c8,vs x2.Language,vi 0,vi an,vi x3.Years.To]),(12,oa 169 5 ar (List.set x1 (Int.toNat aI) (Name.mk x4.Text x4.Language x4.Status (Span.mk x4.Years.From (aJ (an - 1))))))]⟩ ?_
 obtain⟨x8,hx8,h⟩:=bind_some h
 refine ab.bx (x_w [(3000000,12)] [false,true,true] Bg (lA (List.set x1 (Int.toNat aI) (Name.mk x4.Text x4.Language x4.Status (Span.mk x4.Years.From (aJ (an - 1))))) aI (aJ (aI+1)) _ hx8)) ?_
 refine ab.cl aa 1 [9,10] [10,12] ?_
 refine ab.nil ?_
 obtain rfl:=inj h
 exact fu (Le.rr [10,12] [(12,9)])
 refine ai ?_
 obtain rfl:=inj h
 exact fu (Le.rr [10,12] [(12,9)])
 refine sr ?_
 refine ab.cl aa 3 [48,50] [9,50] ?_
 obtain⟨x9,hx9,h⟩:=bind_some h
 refine ab.bx (bS (f:=ar) (t:=89) (ti:=dd) (tj:=cH) (zs:=[.string (ByteArray.mk #[]),.string (ByteArray.mk #[]),.int .i64 0,.int .i64 0,.int .i64 0]) (e:=169) (m:=5) (d:=9) (xv:= .own 50) hx9 aa rfl rfl rfl rfl (dC (e:=169))) ?_
 refine bO aa 1 [8] [51] ?_
 refine ag ?_
 obtain rfl:=inj h
 exact aD (f1 (fo bu))
theorem A3:a8 Tryz.prog 185:=ax Tryz.func185 (by kernel_rfl) rfl
noncomputable def gx(ah:(List Name))(aZ:ByteArray)(an:Int)(c8:ByteArray):Option ((List Name)×Int):=
 ((eg c8).bind fun x1=>(bif(!x1)then some (([]:List Name),1)else((fb ah aZ an).bind fun x2=>(bif(x2.2 !=0)then some (([]:List Name),x2.2)else((iu ah x2.1 an c8).bind fun x3=>(bif(decide ((x3.length:Int)>12))then some (([]:List Name),3)else some (x3,0)))))))
theorem nO(ah:(List Name))(aZ:ByteArray)(an:Int)(c8:ByteArray)(r:(List Name)×Int)(h:gx ah aZ an c8=some r):aH Tryz.prog 141 [.v (vl ar ah),.v (vs aZ),.v (vi an),.v (vs c8)] ⟨[.own 169 5 r.1.length (r.1.map ar),.v (vi r.2)],[],false⟩:=by
 refine au Tryz.func141 rfl [(.tmp 8),(.tmp 9)] rfl (fun r=>⟨[.own 169 5 r.1.length (r.1.map ar),.v (vi r.2)],[],false⟩) (r:=r) ?_
 unfold gx at h
 refine az aa [0,1,2,3] [] ?_
 refine ac ?_
 refine sr ?_
 refine ab.cl aa 1 [0,1,2,3,13] [] ?_
 obtain⟨x1,hx1,h⟩:=bind_some h
 refine ab.ls (xc wb (ij c8 _ hx1)) ?_
 refine bO aa 1 [0,1,2,3,15] [] ?_
 refine ao h (fun h=> ?_) fun h=> ?_
 refine az aa [8,9] [8] ?_
 refine ag ?_
 obtain rfl:=inj h
 exact bw (aD (f2 (fo bu) fv))
 refine ai ?_
 refine aY ?_
 refine sr ?_
 refine ab.cl aa 3 [0,2,3,17,18,19] [] ?_
 obtain⟨x2,hx2,h⟩:=bind_some h
 refine ab.ls (xc A2 (mH ah aZ an _ hx2)) ?_
 refine bO aa 5 [0,2,3,10,11] [] ?_
 refine ac ?_
 refine az aa [0,2,3,10,11,24] [] ?_
 refine ao h (fun h=> ?_) fun h=> ?_
 refine az aa [8,9] [8] ?_
 refine ag ?_
 obtain rfl:=inj h
 exact bw (aD (f2 (fo bu) fv))
 refine ai ?_
 refine aY ?_
 refine sr ?_
 refine ab.ck aa 4 ⟨35,[(26,vl ar ah),(27,vi x2.1),(28,vi an),(29,vs c8)],[]⟩ ?_
 obtain⟨x3,hx3,h⟩:=bind_some h
 refine ab.ls (xc A3 (oC ah x2.1 an c8 _ hx3)) ?_
 refine bO aa 1 [12] [30] ?_
 refine ac ?_
 refine az aa [12,33] [30] ?_
 refine ao h (fun h=> ?_) fun h=> ?_
 refine az aa [8,9] [8] ?_
 refine ag ?_
 obtain rfl:=inj h
 exact bw (aD (f2 (fo bu) fv))
 refine ai ?_
 refine aY ?_
 refine az aa [8,9] [30] ?_
 refine ag ?_
 obtain rfl:=inj h
 exact aD (f2 (fo bu) fv)
theorem AL:a8 Tryz.prog 141:=ax Tryz.func141 (by kernel_rfl) rfl
noncomputable def dW(aW:World)(aC:Change):Option (Int×World):=
 ((b9 aW.Places aC.Code).bind fun x1=>((at' aW.Places x1.1).bind fun x2=>((gx x2.Names aC.Language aC.Year aC.Text).bind fun x3=>(((bif(x3.2==0)then((at' aW.Places x1.1).bind fun x6=>some ((List.set aW.Places (Int.toNat x1.1) (Place.mk x6.Code x6.Class x6.Years x3.1)),aW.Links))else some (aW.Places,aW.Links))).bind fun(j4:(List Place)×(List aw))=>some (x3.2,(World.mk j4.1 j4.2))))))
theorem lL(aW:World)(aC:Change)(r:Int×World)(h:dW aW aC=some r):jE Tryz.prog 90 [.ref 1000000 0,.agg (tc ap aC)] [(1000000,.box [.own 3000000,.own 3000001]),(3000000,.deep 91 5 aW.Places.length [.flat,.flat,.flat,.flat,(.sl 169 5 [.flat,.flat,.flat,.flat,.flat])] (aW.Places.map ad)),(3000001,oa 85 4 ae aW.Links)] [(1000000,.box [.own 3000000,.own 3000001]),(3000000,.deep 91 5 r.2.Places.length [.flat,.flat,.flat,.flat,(.sl 169 5 [.flat,.flat,.flat,.flat,.flat])] (r.2.Places.map ad)),(3000001,oa 85 4 ae r.2.Links)] [vi r.1]:=by
 refine iO Tryz.func90 rfl [(.tmp 4)] rfl (fun r=>[(1000000,.box [.own 3000000,.own 3000001]),(3000000,.deep 91 5 r.2.Places.length [.flat,.flat,.flat,.flat,(.sl 169 5 [.flat,.flat,.flat,.flat,.flat])] (r.2.Places.map ad)),(3000001,oa 85 4 ae r.2.Links)]) (fun r=>[vi r.1]) (r:=r) (ci SV.et (ci trivial (ci (b5 di _) jM))) ?_
 unfold dW at h
 refine az aa [0,3] [3,1000000,3000000,3000001] ?_
 refine ac ?_
 refine cL mixed ?_
 refine aR.cl aa false 6 [0,3,13,15] [3,1000000,3000000,3000001] ?_
 obtain⟨x1,hx1,h⟩:=bind_some h
 refine aR.step (xc nD (dN aW.Places aC.Code _ hx1)) ?_
 refine aR.cl aa false 5 [0,3,5] [3,1000000,3000000,3000001] ?_
 refine aR.nx ?_
 refine ac ?_
 obtain⟨x2,hx2,h⟩:=bind_some h
 obtain⟨x3,hx3,h⟩:=bind_some h
 refine cL mixed ?_
 refine aR.wc (σE:=⟨48,[(0,.ref 1000000 0),(5,vi x1.1),(7,.own 34),(8,vi x3.2)],[(34,oa 169 5 ar x3.1),(1000000,.box [.own 3000000,.own 3000001]),(3000000,.deep 91 5 aW.Places.length [.flat,.flat,.flat,.flat,(.sl 169 5 [.flat,.flat,.flat,.flat,.flat])] (aW.Places.map ad)),(3000001,oa 85 4 ae aW.Links)]⟩) (n:=20) (L0:=(bA 20 0)) (by kernel_rfl) (by kernel_rfl) (fun K hk=> ?_) ?_
 refine DE.sh 0 (bA 20 1048575) ⟨48,[(0,.ref 1000000 0),(5,vi x1.1),(7,.own 34),(8,vi x3.2)],[(34,oa 169 5 ar x3.1),(1000000,.box [.own 3000000,.own 3000001]),(3000000,.deep 91 5 aW.Places.length [.flat,.flat,.flat,.flat,(.sl 169 5 [.flat,.flat,.flat,.flat,.flat])] (aW.Places.map ad)),(3000001,oa 85 4 ae aW.Links)]⟩ ?_ fun d54=> ?_
 exact DE.done (by kernel_rfl) hk
 refine DE.sh 1 (bA 20 524287) ⟨48,[(0,.ref 1000000 0),(5,vi x1.1),(7,.own 34),(36,vi x3.2)],[(34,oa 169 5 ar x3.1),(1000000,.box [.own 3000000,.own 3000001]),(3000000,.deep 91 5 aW.Places.length [.flat,.flat,.flat,.flat,(.sl 169 5 [.flat,.flat,.flat,.flat,.flat])] (aW.Places.map ad)),(3000001,oa 85 4 ae aW.Links)]⟩ ?_ fun d53=> ?_
 exact DE.tk 19 d54 rfl (.inr rfl) (aj.n aa)
 refine DE.sh 2 (bA 20 262143) ⟨48,[(0,.ref 1000000 0),(5,vi x1.1),(35,.own 34),(36,vi x3.2)],[(34,oa 169 5 ar x3.1),(1000000,.box [.own 3000000,.own 3000001]),(3000000,.deep 91 5 aW.Places.length [.flat,.flat,.flat,.flat,(.sl 169 5 [.flat,.flat,.flat,.flat,.flat])] (aW.Places.map ad)),(3000001,oa 85 4 ae aW.Links)]⟩ ?_ fun d52=> ?_
 exact DE.tk 18 d53 rfl (.inr rfl) (aj.n aa)
 refine DE.sh 2 (bA 20 393215) ⟨48,[(0,.ref 1000000 0),(5,vi x1.1),(7,.own 34),(19,.tup [.own 34,vi x3.2])],[(34,oa 169 5 ar x3.1),(1000000,.box [.own 3000000,.own 3000001]),(3000000,.deep 91 5 aW.Places.length [.flat,.flat,.flat,.flat,(.sl 169 5 [.flat,.flat,.flat,.flat,.flat])] (aW.Places.map ad)),(3000001,oa 85 4 ae aW.Links)]⟩ ?_ fun d51=> ?_
 exact DE.a1 17 d53 rfl (aj.n aa)
 refine DE.sh 3 (bA 20 196607) ⟨48,[(0,.ref 1000000 0),(5,vi x1.1),(19,.tup [.own 34,vi x3.2]),(36,vi x3.2)],[(34,oa 169 5 ar x3.1),(1000000,.box [.own 3000000,.own 3000001]),(3000000,.deep 91 5 aW.Places.length [.flat,.flat,.flat,.flat,(.sl 169 5 [.flat,.flat,.flat,.flat,.flat])] (aW.Places.map ad)),(3000001,oa 85 4 ae aW.Links)]⟩ ?_ fun d50=> ?_
 exact DE.a1 16 d52 rfl (aj.n aa)
 refine DE.sh 3 (bA 20 131071) ⟨48,[(0,.ref 1000000 0),(5,vi x1.1),(19,.tup [.own 34,vi x3.2]),(35,.own 34)],[(34,oa 169 5 ar x3.1),(1000000,.box [.own 3000000,.own 3000001]),(3000000,.deep 91 5 aW.Places.length [.flat,.flat,.flat,.flat,(.sl 169 5 [.flat,.flat,.flat,.flat,.flat])] (aW.Places.map ad)),(3000001,oa 85 4 ae aW.Links)]⟩ ?_ fun d49=> ?_
 exact DE.tk 18 d51 rfl (.inr rfl) (aj.n aa)
 refine DE.sh 4 (bA 20 65535) ⟨48,[(0,.ref 1000000 0),(5,vi x1.1),(19,.tup [.own 34,vi x3.2])],[(34,oa 169 5 ar x3.1),(1000000,.box [.own 3000000,.own 3000001]),(3000000,.deep 91 5 aW.Places.length [.flat,.flat,.flat,.flat,(.sl 169 5 [.flat,.flat,.flat,.flat,.flat])] (aW.Places.map ad)),(3000001,oa 85 4 ae aW.Links)]⟩ ?_ fun d48=> ?_
 exact DE.al (.c 16 d49 rfl (aj.n aa) (.c 17 d50 rfl (aj.n aa) .n))
 refine DE.sh 5 (bA 20 32767) ⟨48,[(0,.ref 1000000 0),(5,vi x1.1),(34,.tup [.own 34,vi x3.2])],[(34,oa 169 5 ar x3.1),(1000000,.box [.own 3000000,.own 3000001]),(3000000,.deep 91 5 aW.Places.length [.flat,.flat,.flat,.flat,(.sl 169 5 [.flat,.flat,.flat,.flat,.flat])] (aW.Places.map ad)),(3000001,oa 85 4 ae aW.Links)]⟩ ?_ fun d47=> ?_
 exact DE.tk 15 d48 rfl (.inl rfl) (aj.n aa)
 refine DE.sh 6 (bA 20 16383) ⟨48,[(0,.ref 1000000 0),(5,vi x1.1),(27,.own 3001027),(29,vs aC.Language),(31,vi aC.Year),(33,vs aC.Text)],[(1000000,.box [.own 3000000,.own 3000001]),(3000000,.hol 91 5 aW.Places.length [.flat,.flat,.flat,.flat,(.sl 169 5 [.flat,.flat,.flat,.flat,.flat])] (aW.Places.map ad) (Int.toNat x1.1) 4 3001027),(3000001,oa 85 4 ae aW.Links),(3001027,oa 169 5 ar x2.Names)]⟩ ?_ fun d46=> ?_
 exact DE.a1 14 d47 rfl (aj.le (aj.le (aj.ofL (xc AL (nO x2.Names aC.Language aC.Year aC.Text _ hx3)) (by kernel_rfl)) (rB (L:=aW.Places) (f:=ad) (x:=x2) (d:=3000000) (k:=3001027) (e:=91) (m:=5) (j:=4) (e':=169) (m':=5) (n':=x2.Names.length) (ss:=[.flat,.flat,.flat,.flat,(.sl 169 5 [.flat,.flat,.flat,.flat,.flat])]) (ss':=[.flat,.flat,.flat,.flat,.flat]) (es':=x2.Names.map ar) hx2 (b5 bu _))) Le.aq)
 refine DE.sh 7 (bA 20 16255) ⟨48,[(0,.ref 1000000 0),(5,vi x1.1),(26,.eref 3000000 5 (Int.toNat x1.1) 4),(29,vs aC.Language),(31,vi aC.Year),(33,vs aC.Text)],[(1000000,.box [.own 3000000,.own 3000001]),(3000000,.deep 91 5 aW.Places.length [.flat,.flat,.flat,.flat,(.sl 169 5 [.flat,.flat,.flat,.flat,.flat])] (aW.Places.map ad)),(3000001,oa 85 4 ae aW.Links)]⟩ ?_ fun d45=> ?_
 exact DE.a1 7 d46 rfl (aj.le (jT (L:=aW.Places) (f:=ad) (d:=3000000) (k:=3001027) (e:=91) (m:=5) (j:=4) (e':=169) (m':=5) (n':=x2.Names.length) (ss:=[.flat,.flat,.flat,.flat,(.sl 169 5 [.flat,.flat,.flat,.flat,.flat])]) (ss':=[.flat,.flat,.flat,.flat,.flat]) (es':=x2.Names.map ar) (ti:=dd) (y:=oa 169 5 ar x2.Names) hx2 aa rfl rfl (.inr ⟨rfl,rfl⟩)) Le.aq)
 refine DE.sh 7 (bA 20 15871) ⟨48,[(0,.ref 1000000 0),(5,vi x1.1),(27,.own 3001027),(28,.ref 3 4),(31,vi aC.Year),(33,vs aC.Text)],[(3,.box (tc ap aC)),(1000000,.box [.own 3000000,.own 3000001]),(3000000,.hol 91 5 aW.Places.length [.flat,.flat,.flat,.flat,(.sl 169 5 [.flat,.flat,.flat,.flat,.flat])] (aW.Places.map ad) (Int.toNat x1.1) 4 3001027),(3000001,oa 85 4 ae aW.Links),(3001027,oa 169 5 ar x2.Names)]⟩ ?_ fun d44=> ?_
 exact DE.a1 9 d46 rfl (aj.n aa)
 refine DE.sh 7 (bA 20 14335) ⟨48,[(0,.ref 1000000 0),(5,vi x1.1),(27,.own 3001027),(29,vs aC.Language),(30,.ref 3 0),(33,vs aC.Text)],[(3,.box (tc ap aC)),(1000000,.box [.own 3000000,.own 3000001]),(3000000,.hol 91 5 aW.Places.length [.flat,.flat,.flat,.flat,(.sl 169 5 [.flat,.flat,.flat,.flat,.flat])] (aW.Places.map ad) (Int.toNat x1.1) 4 3001027),(3000001,oa 85 4 ae aW.Links),(3001027,oa 169 5 ar x2.Names)]⟩ ?_ fun d43=> ?_
 exact DE.a1 11 d46 rfl (aj.n aa)
 refine DE.sh 7 (bA 20 8191) ⟨48,[(0,.ref 1000000 0),(5,vi x1.1),(27,.own 3001027),(29,vs aC.Language),(31,vi aC.Year),(32,.ref 3 5)],[(3,.box (tc ap aC)),(1000000,.box [.own 3000000,.own 3000001]),(3000000,.hol 91 5 aW.Places.length [.flat,.flat,.flat,.flat,(.sl 169 5 [.flat,.flat,.flat,.flat,.flat])] (aW.Places.map ad) (Int.toNat x1.1) 4 3001027),(3000001,oa 85 4 ae aW.Links),(3001027,oa 169 5 ar x2.Names)]⟩ ?_ fun d42=> ?_
 exact DE.a1 13 d46 rfl (aj.n aa)
 refine DE.sh 8 (bA 20 16191) ⟨48,[(0,.ref 1000000 0),(5,vi x1.1),(25,.eref 3000000 5 (Int.toNat x1.1) 0),(29,vs aC.Language),(31,vi aC.Year),(33,vs aC.Text)],[(1000000,.box [.own 3000000,.own 3000001]),(3000000,.deep 91 5 aW.Places.length [.flat,.flat,.flat,.flat,(.sl 169 5 [.flat,.flat,.flat,.flat,.flat])] (aW.Places.map ad)),(3000001,oa 85 4 ae aW.Links)]⟩ ?_ fun d41=> ?_
 exact DE.tw aa 6 d45 rfl (aj.n aa)
 refine DE.sh 8 (bA 20 15743) ⟨48,[(0,.ref 1000000 0),(5,vi x1.1),(26,.eref 3000000 5 (Int.toNat x1.1) 4),(28,.ref 3 4),(31,vi aC.Year),(33,vs aC.Text)],[(3,.box (tc ap aC)),(1000000,.box [.own 3000000,.own 3000001]),(3000000,.deep 91 5 aW.Places.length [.flat,.flat,.flat,.flat,(.sl 169 5 [.flat,.flat,.flat,.flat,.flat])] (aW.Places.map ad)),(3000001,oa 85 4 ae aW.Links)]⟩ ?_ fun d40=> ?_
 exact DE.al (.c 7 d44 rfl (aj.le (jT (L:=aW.Places) (f:=ad) (d:=3000000) (k:=3001027) (e:=91) (m:=5) (j:=4) (e':=169) (m':=5) (n':=x2.Names.length) (ss:=[.flat,.flat,.flat,.flat,(.sl 169 5 [.flat,.flat,.flat,.flat,.flat])]) (ss':=[.flat,.flat,.flat,.flat,.flat]) (es':=x2.Names.map ar) (ti:=dd) (y:=oa 169 5 ar x2.Names) hx2 aa rfl rfl (.inr ⟨rfl,rfl⟩)) Le.aq) (.c 9 d45 rfl (aj.n aa) .n))
 refine DE.sh 8 (bA 20 14207) ⟨48,[(0,.ref 1000000 0),(5,vi x1.1),(26,.eref 3000000 5 (Int.toNat x1.1) 4),(29,vs aC.Language),(30,.ref 3 0),(33,vs aC.Text)],[(3,.box (tc ap aC)),(1000000,.box [.own 3000000,.own 3000001]),(3000000,.deep 91 5 aW.Places.length [.flat,.flat,.flat,.flat,(.sl 169 5 [.flat,.flat,.flat,.flat,.flat])] (aW.Places.map ad)),(3000001,oa 85 4 ae aW.Links)]⟩ ?_ fun d39=> ?_
 exact DE.al (.c 7 d43 rfl (aj.le (jT (L:=aW.Places) (f:=ad) (d:=3000000) (k:=3001027) (e:=91) (m:=5) (j:=4) (e':=169) (m':=5) (n':=x2.Names.length) (ss:=[.flat,.flat,.flat,.flat,(.sl 169 5 [.flat,.flat,.flat,.flat,.flat])]) (ss':=[.flat,.flat,.flat,.flat,.flat]) (es':=x2.Names.map ar) (ti:=dd) (y:=oa 169 5 ar x2.Names) hx2 aa rfl rfl (.inr ⟨rfl,rfl⟩)) Le.aq) (.c 11 d45 rfl (aj.n aa) .n))
 refine DE.sh 8 (bA 20 8063) ⟨48,[(0,.ref 1000000 0),(5,vi x1.1),(26,.eref 3000000 5 (Int.toNat x1.1) 4),(29,vs aC.Language),(31,vi aC.Year),(32,.ref 3 5)],[(3,.box (tc ap aC)),(1000000,.box [.own 3000000,.own 3000001]),(3000000,.deep 91 5 aW.Places.length [.flat,.flat,.flat,.flat,(.sl 169 5 [.flat,.flat,.flat,.flat,.flat])] (aW.Places.map ad)),(3000001,oa 85 4 ae aW.Links)]⟩ ?_ fun d38=> ?_
 exact DE.al (.c 7 d42 rfl (aj.le (jT (L:=aW.Places) (f:=ad) (d:=3000000) (k:=3001027) (e:=91) (m:=5) (j:=4) (e':=169) (m':=5) (n':=x2.Names.length) (ss:=[.flat,.flat,.flat,.flat,(.sl 169 5 [.flat,.flat,.flat,.flat,.flat])]) (ss':=[.flat,.flat,.flat,.flat,.flat]) (es':=x2.Names.map ar) (ti:=dd) (y:=oa 169 5 ar x2.Names) hx2 aa rfl rfl (.inr ⟨rfl,rfl⟩)) Le.aq) (.c 13 d45 rfl (aj.n aa) .n))
 refine DE.sh 8 (bA 20 13823) ⟨48,[(0,.ref 1000000 0),(5,vi x1.1),(27,.own 3001027),(28,.ref 3 4),(30,.ref 3 0),(33,vs aC.Text)],[(3,.box (tc ap aC)),(1000000,.box [.own 3000000,.own 3000001]),(3000000,.hol 91 5 aW.Places.length [.flat,.flat,.flat,.flat,(.sl 169 5 [.flat,.flat,.flat,.flat,.flat])] (aW.Places.map ad) (Int.toNat x1.1) 4 3001027),(3000001,oa 85 4 ae aW.Links),(3001027,oa 169 5 ar x2.Names)]⟩ ?_ fun d37=> ?_
 exact DE.al (.c 9 d43 rfl (aj.n aa) (.c 11 d44 rfl (aj.n aa) .n))
 refine DE.sh 8 (bA 20 7679) ⟨48,[(0,.ref 1000000 0),(5,vi x1.1),(27,.own 3001027),(28,.ref 3 4),(31,vi aC.Year),(32,.ref 3 5)],[(3,.box (tc ap aC)),(1000000,.box [.own 3000000,.own 3000001]),(3000000,.hol 91 5 aW.Places.length [.flat,.flat,.flat,.flat,(.sl 169 5 [.flat,.flat,.flat,.flat,.flat])] (aW.Places.map ad) (Int.toNat x1.1) 4 3001027),(3000001,oa 85 4 ae aW.Links),(3001027,oa 169 5 ar x2.Names)]⟩ ?_ fun d36=> ?_
 exact DE.al (.c 9 d42 rfl (aj.n aa) (.c 13 d44 rfl (aj.n aa) .n))
 refine DE.sh 8 (bA 20 6143) ⟨48,[(0,.ref 1000000 0),(5,vi x1.1),(27,.own 3001027),(29,vs aC.Language),(30,.ref 3 0),(32,.ref 3 5)],[(3,.box (tc ap aC)),(1000000,.box [.own 3000000,.own 3000001]),(3000000,.hol 91 5 aW.Places.length [.flat,.flat,.flat,.flat,(.sl 169 5 [.flat,.flat,.flat,.flat,.flat])] (aW.Places.map ad) (Int.toNat x1.1) 4 3001027),(3000001,oa 85 4 ae aW.Links),(3001027,oa 169 5 ar x2.Names)]⟩ ?_ fun d35=> ?_
 exact DE.al (.c 11 d42 rfl (aj.n aa) (.c 13 d43 rfl (aj.n aa) .n))
 refine DE.sh 9 (bA 20 15679) ⟨48,[(0,.ref 1000000 0),(5,vi x1.1),(25,.eref 3000000 5 (Int.toNat x1.1) 0),(28,.ref 3 4),(31,vi aC.Year),(33,vs aC.Text)],[(3,.box (tc ap aC)),(1000000,.box [.own 3000000,.own 3000001]),(3000000,.deep 91 5 aW.Places.length [.flat,.flat,.flat,.flat,(.sl 169 5 [.flat,.flat,.flat,.flat,.flat])] (aW.Places.map ad)),(3000001,oa 85 4 ae aW.Links)]⟩ ?_ fun d34=> ?_
 exact DE.tw aa 6 d40 rfl (aj.n aa)
 refine DE.sh 9 (bA 20 14143) ⟨48,[(0,.ref 1000000 0),(5,vi x1.1),(25,.eref 3000000 5 (Int.toNat x1.1) 0),(29,vs aC.Language),(30,.ref 3 0),(33,vs aC.Text)],[(3,.box (tc ap aC)),(1000000,.box [.own 3000000,.own 3000001]),(3000000,.deep 91 5 aW.Places.length [.flat,.flat,.flat,.flat,(.sl 169 5 [.flat,.flat,.flat,.flat,.flat])] (aW.Places.map ad)),(3000001,oa 85 4 ae aW.Links)]⟩ ?_ fun d33=> ?_
 exact DE.tw aa 6 d39 rfl (aj.n aa)
 refine DE.sh 9 (bA 20 16159) ⟨48,[(0,.ref 1000000 0),(5,vi x1.1),(23,.own 3000000),(24,vi x1.1),(29,vs aC.Language),(31,vi aC.Year),(33,vs aC.Text)],[(1000000,.box [.own 3000000,.own 3000001]),(3000000,.deep 91 5 aW.Places.length [.flat,.flat,.flat,.flat,(.sl 169 5 [.flat,.flat,.flat,.flat,.flat])] (aW.Places.map ad)),(3000001,oa 85 4 ae aW.Links)]⟩ ?_ fun d32=> ?_
 exact DE.a1 5 d41 rfl (aj.l (bF (d:=3000000) (L:=aW.Places) (f:=ad) (ti:=cP) (tj:=cd) (e:=91) (e':=91) (m:=5) (k:= .i64) (ss:=[.flat,.flat,.flat,.flat,(.sl 169 5 [.flat,.flat,.flat,.flat,.flat])]) aa rfl hx2))
 refine DE.sh 9 (bA 20 7999) ⟨48,[(0,.ref 1000000 0),(5,vi x1.1),(25,.eref 3000000 5 (Int.toNat x1.1) 0),(29,vs aC.Language),(31,vi aC.Year),(32,.ref 3 5)],[(3,.box (tc ap aC)),(1000000,.box [.own 3000000,.own 3000001]),(3000000,.deep 91 5 aW.Places.length [.flat,.flat,.flat,.flat,(.sl 169 5 [.flat,.flat,.flat,.flat,.flat])] (aW.Places.map ad)),(3000001,oa 85 4 ae aW.Links)]⟩ ?_ fun d31=> ?_
 exact DE.tw aa 6 d38 rfl (aj.n aa)
 refine DE.sh 9 (bA 20 13695) ⟨48,[(0,.ref 1000000 0),(5,vi x1.1),(26,.eref 3000000 5 (Int.toNat x1.1) 4),(28,.ref 3 4),(30,.ref 3 0),(33,vs aC.Text)],[(3,.box (tc ap aC)),(1000000,.box [.own 3000000,.own 3000001]),(3000000,.deep 91 5 aW.Places.length [.flat,.flat,.flat,.flat,(.sl 169 5 [.flat,.flat,.flat,.flat,.flat])] (aW.Places.map ad)),(3000001,oa 85 4 ae aW.Links)]⟩ ?_ fun d30=> ?_
 exact DE.al (.c 7 d37 rfl (aj.le (jT (L:=aW.Places) (f:=ad) (d:=3000000) (k:=3001027) (e:=91) (m:=5) (j:=4) (e':=169) (m':=5) (n':=x2.Names.length) (ss:=[.flat,.flat,.flat,.flat,(.sl 169 5 [.flat,.flat,.flat,.flat,.flat])]) (ss':=[.flat,.flat,.flat,.flat,.flat]) (es':=x2.Names.map ar) (ti:=dd) (y:=oa 169 5 ar x2.Names) hx2 aa rfl rfl (.inr ⟨rfl,rfl⟩)) Le.aq) (.c 9 d39 rfl (aj.n aa) (.c 11 d40 rfl (aj.n aa) .n)))
 refine DE.sh 9 (bA 20 7551) ⟨48,[(0,.ref 1000000 0),(5,vi x1.1),(26,.eref 3000000 5 (Int.toNat x1.1) 4),(28,.ref 3 4),(31,vi aC.Year),(32,.ref 3 5)],[(3,.box (tc ap aC)),(1000000,.box [.own 3000000,.own 3000001]),(3000000,.deep 91 5 aW.Places.length [.flat,.flat,.flat,.flat,(.sl 169 5 [.flat,.flat,.flat,.flat,.flat])] (aW.Places.map ad)),(3000001,oa 85 4 ae aW.Links)]⟩ ?_ fun d29=> ?_
 exact DE.al (.c 7 d36 rfl (aj.le (jT (L:=aW.Places) (f:=ad) (d:=3000000) (k:=3001027) (e:=91) (m:=5) (j:=4) (e':=169) (m':=5) (n':=x2.Names.length) (ss:=[.flat,.flat,.flat,.flat,(.sl 169 5 [.flat,.flat,.flat,.flat,.flat])]) (ss':=[.flat,.flat,.flat,.flat,.flat]) (es':=x2.Names.map ar) (ti:=dd) (y:=oa 169 5 ar x2.Names) hx2 aa rfl rfl (.inr ⟨rfl,rfl⟩)) Le.aq) (.c 9 d38 rfl (aj.n aa) (.c 13 d40 rfl (aj.n aa) .n)))
 refine DE.sh 9 (bA 20 6015) ⟨48,[(0,.ref 1000000 0),(5,vi x1.1),(26,.eref 3000000 5 (Int.toNat x1.1) 4),(29,vs aC.Language),(30,.ref 3 0),(32,.ref 3 5)],[(3,.box (tc ap aC)),(1000000,.box [.own 3000000,.own 3000001]),(3000000,.deep 91 5 aW.Places.length [.flat,.flat,.flat,.flat,(.sl 169 5 [.flat,.flat,.flat,.flat,.flat])] (aW.Places.map ad)),(3000001,oa 85 4 ae aW.Links)]⟩ ?_ fun d28=> ?_
 exact DE.al (.c 7 d35 rfl (aj.le (jT (L:=aW.Places) (f:=ad) (d:=3000000) (k:=3001027) (e:=91) (m:=5) (j:=4) (e':=169) (m':=5) (n':=x2.Names.length) (ss:=[.flat,.flat,.flat,.flat,(.sl 169 5 [.flat,.flat,.flat,.flat,.flat])]) (ss':=[.flat,.flat,.flat,.flat,.flat]) (es':=x2.Names.map ar) (ti:=dd) (y:=oa 169 5 ar x2.Names) hx2 aa rfl rfl (.inr ⟨rfl,rfl⟩)) Le.aq) (.c 11 d38 rfl (aj.n aa) (.c 13 d39 rfl (aj.n aa) .n)))
 refine DE.sh 9 (bA 20 5631) ⟨48,[(0,.ref 1000000 0),(5,vi x1.1),(27,.own 3001027),(28,.ref 3 4),(30,.ref 3 0),(32,.ref 3 5)],[(3,.box (tc ap aC)),(1000000,.box [.own 3000000,.own 3000001]),(3000000,.hol 91 5 aW.Places.length [.flat,.flat,.flat,.flat,(.sl 169 5 [.flat,.flat,.flat,.flat,.flat])] (aW.Places.map ad) (Int.toNat x1.1) 4 3001027),(3000001,oa 85 4 ae aW.Links),(3001027,oa 169 5 ar x2.Names)]⟩ ?_ fun d27=> ?_
 exact DE.al (.c 9 d35 rfl (aj.n aa) (.c 11 d36 rfl (aj.n aa) (.c 13 d37 rfl (aj.n aa) .n)))
 refine DE.sh 10 (bA 20 16151) ⟨48,[(0,.ref 1000000 0),(5,vi x1.1),(22,.ref 1000000 0),(24,vi x1.1),(29,vs aC.Language),(31,vi aC.Year),(33,vs aC.Text)],[(1000000,.box [.own 3000000,.own 3000001]),(3000000,.deep 91 5 aW.Places.length [.flat,.flat,.flat,.flat,(.sl 169 5 [.flat,.flat,.flat,.flat,.flat])] (aW.Places.map ad)),(3000001,oa 85 4 ae aW.Links)]⟩ ?_ fun d26=> ?_
 exact DE.a1 3 d32 rfl (aj.n aa)
 refine DE.sh 10 (bA 20 13631) ⟨48,[(0,.ref 1000000 0),(5,vi x1.1),(25,.eref 3000000 5 (Int.toNat x1.1) 0),(28,.ref 3 4),(30,.ref 3 0),(33,vs aC.Text)],[(3,.box (tc ap aC)),(1000000,.box [.own 3000000,.own 3000001]),(3000000,.deep 91 5 aW.Places.length [.flat,.flat,.flat,.flat,(.sl 169 5 [.flat,.flat,.flat,.flat,.flat])] (aW.Places.map ad)),(3000001,oa 85 4 ae aW.Links)]⟩ ?_ fun d25=> ?_
 exact DE.tw aa 6 d30 rfl (aj.n aa)
 refine DE.sh 10 (bA 20 15647) ⟨48,[(0,.ref 1000000 0),(5,vi x1.1),(23,.own 3000000),(24,vi x1.1),(28,.ref 3 4),(31,vi aC.Year),(33,vs aC.Text)],[(3,.box (tc ap aC)),(1000000,.box [.own 3000000,.own 3000001]),(3000000,.deep 91 5 aW.Places.length [.flat,.flat,.flat,.flat,(.sl 169 5 [.flat,.flat,.flat,.flat,.flat])] (aW.Places.map ad)),(3000001,oa 85 4 ae aW.Links)]⟩ ?_ fun d24=> ?_
 exact DE.al (.c 5 d34 rfl (aj.l (bF (d:=3000000) (L:=aW.Places) (f:=ad) (ti:=cP) (tj:=cd) (e:=91) (e':=91) (m:=5) (k:= .i64) (ss:=[.flat,.flat,.flat,.flat,(.sl 169 5 [.flat,.flat,.flat,.flat,.flat])]) aa rfl hx2)) (.c 9 d32 rfl (aj.n aa) .n))
 refine DE.sh 10 (bA 20 7487) ⟨48,[(0,.ref 1000000 0),(5,vi x1.1),(25,.eref 3000000 5 (Int.toNat x1.1) 0),(28,.ref 3 4),(31,vi aC.Year),(32,.ref 3 5)],[(3,.box (tc ap aC)),(1000000,.box [.own 3000000,.own 3000001]),(3000000,.deep 91 5 aW.Places.length [.flat,.flat,.flat,.flat,(.sl 169 5 [.flat,.flat,.flat,.flat,.flat])] (aW.Places.map ad)),(3000001,oa 85 4 ae aW.Links)]⟩ ?_ fun d23=> ?_
 exact DE.tw aa 6 d29 rfl (aj.n aa)
 refine DE.sh 10 (bA 20 14111) ⟨48,[(0,.ref 1000000 0),(5,vi x1.1),(23,.own 3000000),(24,vi x1.1),(29,vs aC.Language),(30,.ref 3 0),(33,vs aC.Text)],[(3,.box (tc ap aC)),(1000000,.box [.own 3000000,.own 3000001]),(3000000,.deep 91 5 aW.Places.length [.flat,.flat,.flat,.flat,(.sl 169 5 [.flat,.flat,.flat,.flat,.flat])] (aW.Places.map ad)),(3000001,oa 85 4 ae aW.Links)]⟩ ?_ fun d22=> ?_
 exact DE.al (.c 5 d33 rfl (aj.l (bF (d:=3000000) (L:=aW.Places) (f:=ad) (ti:=cP) (tj:=cd) (e:=91) (e':=91) (m:=5) (k:= .i64) (ss:=[.flat,.flat,.flat,.flat,(.sl 169 5 [.flat,.flat,.flat,.flat,.flat])]) aa rfl hx2)) (.c 11 d32 rfl (aj.n aa) .n))
 refine DE.sh 10 (bA 20 7967) ⟨48,[(0,.ref 1000000 0),(5,vi x1.1),(23,.own 3000000),(24,vi x1.1),(29,vs aC.Language),(31,vi aC.Year),(32,.ref 3 5)],[(3,.box (tc ap aC)),(1000000,.box [.own 3000000,.own 3000001]),(3000000,.deep 91 5 aW.Places.length [.flat,.flat,.flat,.flat,(.sl 169 5 [.flat,.flat,.flat,.flat,.flat])] (aW.Places.map ad)),(3000001,oa 85 4 ae aW.Links)]⟩ ?_ fun d21=> ?_
 exact DE.al (.c 5 d31 rfl (aj.l (bF (d:=3000000) (L:=aW.Places) (f:=ad) (ti:=cP) (tj:=cd) (e:=91) (e':=91) (m:=5) (k:= .i64) (ss:=[.flat,.flat,.flat,.flat,(.sl 169 5 [.flat,.flat,.flat,.flat,.flat])]) aa rfl hx2)) (.c 13 d32 rfl (aj.n aa) .n))
 refine DE.sh 10 (bA 20 5951) ⟨48,[(0,.ref 1000000 0),(5,vi x1.1),(25,.eref 3000000 5 (Int.toNat x1.1) 0),(29,vs aC.Language),(30,.ref 3 0),(32,.ref 3 5)],[(3,.box (tc ap aC)),(1000000,.box [.own 3000000,.own 3000001]),(3000000,.deep 91 5 aW.Places.length [.flat,.flat,.flat,.flat,(.sl 169 5 [.flat,.flat,.flat,.flat,.flat])] (aW.Places.map ad)),(3000001,oa 85 4 ae aW.Links)]⟩ ?_ fun d20=> ?_
 exact DE.tw aa 6 d28 rfl (aj.n aa)
 refine DE.sh 10 (bA 20 5503) ⟨48,[(0,.ref 1000000 0),(5,vi x1.1),(26,.eref 3000000 5 (Int.toNat x1.1) 4),(28,.ref 3 4),(30,.ref 3 0),(32,.ref 3 5)],[(3,.box (tc ap aC)),(1000000,.box [.own 3000000,.own 3000001]),(3000000,.deep 91 5 aW.Places.length [.flat,.flat,.flat,.flat,(.sl 169 5 [.flat,.flat,.flat,.flat,.flat])] (aW.Places.map ad)),(3000001,oa 85 4 ae aW.Links)]⟩ ?_ fun d19=> ?_
 exact DE.al (.c 7 d27 rfl (aj.le (jT (L:=aW.Places) (f:=ad) (d:=3000000) (k:=3001027) (e:=91) (m:=5) (j:=4) (e':=169) (m':=5) (n':=x2.Names.length) (ss:=[.flat,.flat,.flat,.flat,(.sl 169 5 [.flat,.flat,.flat,.flat,.flat])]) (ss':=[.flat,.flat,.flat,.flat,.flat]) (es':=x2.Names.map ar) (ti:=dd) (y:=oa 169 5 ar x2.Names) hx2 aa rfl rfl (.inr ⟨rfl,rfl⟩)) Le.aq) (.c 9 d28 rfl (aj.n aa) (.c 11 d29 rfl (aj.n aa) (.c 13 d30 rfl (aj.n aa) .n))))
 refine DE.sh 11 (bA 20 15639) ⟨48,[(0,.ref 1000000 0),(5,vi x1.1),(22,.ref 1000000 0),(24,vi x1.1),(28,.ref 3 4),(31,vi aC.Year),(33,vs aC.Text)],[(3,.box (tc ap aC)),(1000000,.box [.own 3000000,.own 3000001]),(3000000,.deep 91 5 aW.Places.length [.flat,.flat,.flat,.flat,(.sl 169 5 [.flat,.flat,.flat,.flat,.flat])] (aW.Places.map ad)),(3000001,oa 85 4 ae aW.Links)]⟩ ?_ fun d18=> ?_
 exact DE.al (.c 3 d24 rfl (aj.n aa) (.c 9 d26 rfl (aj.n aa) .n))
 refine DE.sh 11 (bA 20 14103) ⟨48,[(0,.ref 1000000 0),(5,vi x1.1),(22,.ref 1000000 0),(24,vi x1.1),(29,vs aC.Language),(30,.ref 3 0),(33,vs aC.Text)],[(3,.box (tc ap aC)),(1000000,.box [.own 3000000,.own 3000001]),(3000000,.deep 91 5 aW.Places.length [.flat,.flat,.flat,.flat,(.sl 169 5 [.flat,.flat,.flat,.flat,.flat])] (aW.Places.map ad)),(3000001,oa 85 4 ae aW.Links)]⟩ ?_ fun d17=> ?_
 exact DE.al (.c 3 d22 rfl (aj.n aa) (.c 11 d26 rfl (aj.n aa) .n))
 refine DE.sh 11 (bA 20 7959) ⟨48,[(0,.ref 1000000 0),(5,vi x1.1),(22,.ref 1000000 0),(24,vi x1.1),(29,vs aC.Language),(31,vi aC.Year),(32,.ref 3 5)],[(3,.box (tc ap aC)),(1000000,.box [.own 3000000,.own 3000001]),(3000000,.deep 91 5 aW.Places.length [.flat,.flat,.flat,.flat,(.sl 169 5 [.flat,.flat,.flat,.flat,.flat])] (aW.Places.map ad)),(3000001,oa 85 4 ae aW.Links)]⟩ ?_ fun d16=> ?_
 exact DE.al (.c 3 d21 rfl (aj.n aa) (.c 13 d26 rfl (aj.n aa) .n))
 refine DE.sh 11 (bA 20 13599) ⟨48,[(0,.ref 1000000 0),(5,vi x1.1),(23,.own 3000000),(24,vi x1.1),(28,.ref 3 4),(30,.ref 3 0),(33,vs aC.Text)],[(3,.box (tc ap aC)),(1000000,.box [.own 3000000,.own 3000001]),(3000000,.deep 91 5 aW.Places.length [.flat,.flat,.flat,.flat,(.sl 169 5 [.flat,.flat,.flat,.flat,.flat])] (aW.Places.map ad)),(3000001,oa 85 4 ae aW.Links)]⟩ ?_ fun d15=> ?_
 exact DE.al (.c 5 d25 rfl (aj.l (bF (d:=3000000) (L:=aW.Places) (f:=ad) (ti:=cP) (tj:=cd) (e:=91) (e':=91) (m:=5) (k:= .i64) (ss:=[.flat,.flat,.flat,.flat,(.sl 169 5 [.flat,.flat,.flat,.flat,.flat])]) aa rfl hx2)) (.c 9 d22 rfl (aj.n aa) (.c 11 d24 rfl (aj.n aa) .n)))
 refine DE.sh 11 (bA 20 7455) ⟨48,[(0,.ref 1000000 0),(5,vi x1.1),(23,.own 3000000),(24,vi x1.1),(28,.ref 3 4),(31,vi aC.Year),(32,.ref 3 5)],[(3,.box (tc ap aC)),(1000000,.box [.own 3000000,.own 3000001]),(3000000,.deep 91 5 aW.Places.length [.flat,.flat,.flat,.flat,(.sl 169 5 [.flat,.flat,.flat,.flat,.flat])] (aW.Places.map ad)),(3000001,oa 85 4 ae aW.Links)]⟩ ?_ fun d14=> ?_
 exact DE.al (.c 5 d23 rfl (aj.l (bF (d:=3000000) (L:=aW.Places) (f:=ad) (ti:=cP) (tj:=cd) (e:=91) (e':=91) (m:=5) (k:= .i64) (ss:=[.flat,.flat,.flat,.flat,(.sl 169 5 [.flat,.flat,.flat,.flat,.flat])]) aa rfl hx2)) (.c 9 d21 rfl (aj.n aa) (.c 13 d24 rfl (aj.n aa) .n)))
 refine DE.sh 11 (bA 20 5919) ⟨48,[(0,.ref 1000000 0),(5,vi x1.1),(23,.own 3000000),(24,vi x1.1),(29,vs aC.Language),(30,.ref 3 0),(32,.ref 3 5)],[(3,.box (tc ap aC)),(1000000,.box [.own 3000000,.own 3000001]),(3000000,.deep 91 5 aW.Places.length [.flat,.flat,.flat,.flat,(.sl 169 5 [.flat,.flat,.flat,.flat,.flat])] (aW.Places.map ad)),(3000001,oa 85 4 ae aW.Links)]⟩ ?_ fun d13=> ?_
 exact DE.al (.c 5 d20 rfl (aj.l (bF (d:=3000000) (L:=aW.Places) (f:=ad) (ti:=cP) (tj:=cd) (e:=91) (e':=91) (m:=5) (k:= .i64) (ss:=[.flat,.flat,.flat,.flat,(.sl 169 5 [.flat,.flat,.flat,.flat,.flat])]) aa rfl hx2)) (.c 11 d21 rfl (aj.n aa) (.c 13 d22 rfl (aj.n aa) .n)))
 refine DE.sh 11 (bA 20 5439) ⟨48,[(0,.ref 1000000 0),(5,vi x1.1),(25,.eref 3000000 5 (Int.toNat x1.1) 0),(28,.ref 3 4),(30,.ref 3 0),(32,.ref 3 5)],[(3,.box (tc ap aC)),(1000000,.box [.own 3000000,.own 3000001]),(3000000,.deep 91 5 aW.Places.length [.flat,.flat,.flat,.flat,(.sl 169 5 [.flat,.flat,.flat,.flat,.flat])] (aW.Places.map ad)),(3000001,oa 85 4 ae aW.Links)]⟩ ?_ fun d12=> ?_
 exact DE.tw aa 6 d19 rfl (aj.n aa)
 refine DE.sh 12 (bA 20 13591) ⟨48,[(0,.ref 1000000 0),(5,vi x1.1),(22,.ref 1000000 0),(24,vi x1.1),(28,.ref 3 4),(30,.ref 3 0),(33,vs aC.Text)],[(3,.box (tc ap aC)),(1000000,.box [.own 3000000,.own 3000001]),(3000000,.deep 91 5 aW.Places.length [.flat,.flat,.flat,.flat,(.sl 169 5 [.flat,.flat,.flat,.flat,.flat])] (aW.Places.map ad)),(3000001,oa 85 4 ae aW.Links)]⟩ ?_ fun d11=> ?_
 exact DE.al (.c 3 d15 rfl (aj.n aa) (.c 9 d17 rfl (aj.n aa) (.c 11 d18 rfl (aj.n aa) .n)))
 refine DE.sh 12 (bA 20 7447) ⟨48,[(0,.ref 1000000 0),(5,vi x1.1),(22,.ref 1000000 0),(24,vi x1.1),(28,.ref 3 4),(31,vi aC.Year),(32,.ref 3 5)],[(3,.box (tc ap aC)),(1000000,.box [.own 3000000,.own 3000001]),(3000000,.deep 91 5 aW.Places.length [.flat,.flat,.flat,.flat,(.sl 169 5 [.flat,.flat,.flat,.flat,.flat])] (aW.Places.map ad)),(3000001,oa 85 4 ae aW.Links)]⟩ ?_ fun d10=> ?_
 exact DE.al (.c 3 d14 rfl (aj.n aa) (.c 9 d16 rfl (aj.n aa) (.c 13 d18 rfl (aj.n aa) .n)))
 refine DE.sh 12 (bA 20 5911) ⟨48,[(0,.ref 1000000 0),(5,vi x1.1),(22,.ref 1000000 0),(24,vi x1.1),(29,vs aC.Language),(30,.ref 3 0),(32,.ref 3 5)],[(3,.box (tc ap aC)),(1000000,.box [.own 3000000,.own 3000001]),(3000000,.deep 91 5 aW.Places.length [.flat,.flat,.flat,.flat,(.sl 169 5 [.flat,.flat,.flat,.flat,.flat])] (aW.Places.map ad)),(3000001,oa 85 4 ae aW.Links)]⟩ ?_ fun d9=> ?_
 exact DE.al (.c 3 d13 rfl (aj.n aa) (.c 11 d16 rfl (aj.n aa) (.c 13 d17 rfl (aj.n aa) .n)))
 refine DE.sh 12 (bA 20 5407) ⟨48,[(0,.ref 1000000 0),(5,vi x1.1),(23,.own 3000000),(24,vi x1.1),(28,.ref 3 4),(30,.ref 3 0),(32,.ref 3 5)],[(3,.box (tc ap aC)),(1000000,.box [.own 3000000,.own 3000001]),(3000000,.deep 91 5 aW.Places.length [.flat,.flat,.flat,.flat,(.sl 169 5 [.flat,.flat,.flat,.flat,.flat])] (aW.Places.map ad)),(3000001,oa 85 4 ae aW.Links)]⟩ ?_ fun d8=> ?_
 exact DE.al (.c 5 d12 rfl (aj.l (bF (d:=3000000) (L:=aW.Places) (f:=ad) (ti:=cP) (tj:=cd) (e:=91) (e':=91) (m:=5) (k:= .i64) (ss:=[.flat,.flat,.flat,.flat,(.sl 169 5 [.flat,.flat,.flat,.flat,.flat])]) aa rfl hx2)) (.c 9 d13 rfl (aj.n aa) (.c 11 d14 rfl (aj.n aa) (.c 13 d15 rfl (aj.n aa) .n))))
 refine DE.sh 13 (bA 20 5399) ⟨48,[(0,.ref 1000000 0),(5,vi x1.1),(22,.ref 1000000 0),(24,vi x1.1),(28,.ref 3 4),(30,.ref 3 0),(32,.ref 3 5)],[(3,.box (tc ap aC)),(1000000,.box [.own 3000000,.own 3000001]),(3000000,.deep 91 5 aW.Places.length [.flat,.flat,.flat,.flat,(.sl 169 5 [.flat,.flat,.flat,.flat,.flat])] (aW.Places.map ad)),(3000001,oa 85 4 ae aW.Links)]⟩ ?_ fun d7=> ?_
 exact DE.al (.c 3 d8 rfl (aj.n aa) (.c 9 d9 rfl (aj.n aa) (.c 11 d10 rfl (aj.n aa) (.c 13 d11 rfl (aj.n aa) .n))))
 refine DE.sh 14 (bA 20 1303) ⟨48,[(0,.ref 1000000 0),(3,.ref 3 0),(5,vi x1.1),(22,.ref 1000000 0),(24,vi x1.1),(28,.ref 3 4),(30,.ref 3 0)],[(3,.box (tc ap aC)),(1000000,.box [.own 3000000,.own 3000001]),(3000000,.deep 91 5 aW.Places.length [.flat,.flat,.flat,.flat,(.sl 169 5 [.flat,.flat,.flat,.flat,.flat])] (aW.Places.map ad)),(3000001,oa 85 4 ae aW.Links)]⟩ ?_ fun d6=> ?_
 exact DE.tw aa 12 d7 rfl (aj.n aa)
 refine DE.sh 15 (bA 20 279) ⟨48,[(0,.ref 1000000 0),(3,.ref 3 0),(5,vi x1.1),(22,.ref 1000000 0),(24,vi x1.1),(28,.ref 3 4)],[(3,.box (tc ap aC)),(1000000,.box [.own 3000000,.own 3000001]),(3000000,.deep 91 5 aW.Places.length [.flat,.flat,.flat,.flat,(.sl 169 5 [.flat,.flat,.flat,.flat,.flat])] (aW.Places.map ad)),(3000001,oa 85 4 ae aW.Links)]⟩ ?_ fun d5=> ?_
 exact DE.tw aa 10 d6 rfl (aj.n aa)
 refine DE.sh 16 (bA 20 23) ⟨48,[(0,.ref 1000000 0),(3,.ref 3 0),(5,vi x1.1),(22,.ref 1000000 0),(24,vi x1.1)],[(3,.box (tc ap aC)),(1000000,.box [.own 3000000,.own 3000001]),(3000000,.deep 91 5 aW.Places.length [.flat,.flat,.flat,.flat,(.sl 169 5 [.flat,.flat,.flat,.flat,.flat])] (aW.Places.map ad)),(3000001,oa 85 4 ae aW.Links)]⟩ ?_ fun d4=> ?_
 exact DE.tw aa 8 d5 rfl (aj.n aa)
 refine DE.sh 17 (bA 20 7) ⟨48,[(0,.ref 1000000 0),(3,.ref 3 0),(5,vi x1.1),(22,.ref 1000000 0)],[(3,.box (tc ap aC)),(1000000,.box [.own 3000000,.own 3000001]),(3000000,.deep 91 5 aW.Places.length [.flat,.flat,.flat,.flat,(.sl 169 5 [.flat,.flat,.flat,.flat,.flat])] (aW.Places.map ad)),(3000001,oa 85 4 ae aW.Links)]⟩ ?_ fun d3=> ?_
 exact DE.tk 4 d4 rfl (.inl rfl) (aj.n aa)
 refine DE.sh 18 (bA 20 3) ⟨48,[(0,.ref 1000000 0),(3,.ref 3 0),(5,vi x1.1),(21,.ref 1000000 0)],[(3,.box (tc ap aC)),(1000000,.box [.own 3000000,.own 3000001]),(3000000,.deep 91 5 aW.Places.length [.flat,.flat,.flat,.flat,(.sl 169 5 [.flat,.flat,.flat,.flat,.flat])] (aW.Places.map ad)),(3000001,oa 85 4 ae aW.Links)]⟩ ?_ fun d2=> ?_
 exact DE.tw aa 2 d3 rfl (aj.n aa)
 refine DE.sh 19 (bA 20 1) ⟨48,[(0,.ref 1000000 0),(3,.ref 3 0),(5,vi x1.1),(20,.ref 1000000 0)],[(3,.box (tc ap aC)),(1000000,.box [.own 3000000,.own 3000001]),(3000000,.deep 91 5 aW.Places.length [.flat,.flat,.flat,.flat,(.sl 169 5 [.flat,.flat,.flat,.flat,.flat])] (aW.Places.map ad)),(3000001,oa 85 4 ae aW.Links)]⟩ ?_ fun d1=> ?_
 exact DE.tw aa 1 d2 rfl (aj.n aa)
 exact DE.tk 0 d1 rfl (.inl rfl) (aj.n aa)
 refine aY ?_
 refine ac ?_
 refine az aa [0,5,7,8,38] [34,1000000,3000000,3000001] ?_
 refine a7 h (fun j4=>⟨48,[(8,vi x3.2)],[(1000000,.box [.own 3000000,.own 3000001]),(3000000,.deep 91 5 j4.1.length [.flat,.flat,.flat,.flat,(.sl 169 5 [.flat,.flat,.flat,.flat,.flat])] (j4.1.map ad)),(3000001,oa 85 4 ae j4.2)]⟩) (fun v5 h=> ?_) (fun j4 h=> ?_)
 refine ao h (fun h=> ?_) fun h=> ?_
 refine aF ?_
 refine ab.cl aa 6 [8,42,43,44] [34,1000000,3000000,3000001] ?_
 obtain⟨x6,hx6,h⟩:=bind_some h
 refine ab.ls (bF (d:=3000000) (L:=aW.Places) (f:=ad) (ti:=cP) (tj:=cd) (e:=91) (e':=91) (m:=5) (k:= .i64) (ss:=[.flat,.flat,.flat,.flat,(.sl 169 5 [.flat,.flat,.flat,.flat,.flat])]) aa rfl hx6) ?_
 refine ab.cl aa 1 [8,44,46] [34,1000000,3000000,3000001] ?_
 refine ab.bx (e8 (d:=3000000) (m:=5) (j:=4) (L:=aW.Places) (f:=ad) (x:=(Place.mk x6.Code x6.Class x6.Years x3.1)) (z:=x6) (ti:=dd) (e:=91) (ss:=[.flat,.flat,.flat,.flat,(.sl 169 5 [.flat,.flat,.flat,.flat,.flat])]) (ss2:=[(.sl 169 5 [.flat,.flat,.flat,.flat,.flat])]) (ts:=[.sl x3.1.length (x3.1.map ar)]) (vs:=[.own 34]) (v:= .own 34) (ds:=[34]) aa rfl rfl hx6 (.cons _ _ _ [34] _ _ _ _ (qq (d:=34) (e:=169) (m:=5) (n:=x3.1.length) (es:=x3.1.map ar) (ss:=[.flat,.flat,.flat,.flat,.flat]) (b5 bu _)) .nil (by decide))) ?_
 refine ab.nil ?_
 obtain rfl:=inj h
 exact fu (Le.aq)
 refine ai ?_
 obtain rfl:=inj h
 exact fu (Le.aq)
 refine az aa [4] [1000000,3000000,3000001] ?_
 refine ag ?_
 obtain rfl:=inj h
 exact mb (fw aa)
theorem CD:a8 Tryz.prog 90:=ax Tryz.func90 (by kernel_rfl) rfl
noncomputable def dL(aW:World)(cq:ByteArray)(dA:ByteArray)(an:Int):Option (aw):=
 ((cO aW cq).bind fun x1=>((cO aW dA).bind fun x2=>(((jx (aW.Links.length:Int) (fun(i5:Int) (s5:Int)=>((at' aW.Links i5).bind fun x9=>(bif((x9.Child.toList==cq.toList)&&(decide (x9.Years.From>an)))then some (cw s5 (aJ (x9.Years.From - 1)))else some s5))) (fun(s5:Int)=>s5) 0 (cw x1.Years.To x2.Years.To))).bind fun(j3:Int)=>some (aw.mk cq dA (Span.mk an j3)))))
theorem lv(aW:World)(cq:ByteArray)(dA:ByteArray)(an:Int)(r:aw)(h:dL aW cq dA an=some r):aH Tryz.prog 142 [.v (.agg (tc ak aW)),.v (vs cq),.v (vs dA),.v (vi an)] ⟨[.v (.agg (tc ae r))],[],false⟩:=by
 refine au Tryz.func142 rfl [(.cell 8 85)] rfl (fun r=>⟨[.v (.agg (tc ae r))],[],false⟩) (r:=r) ?_
 unfold dL at h
 refine az aa [1,2,3,4,8] [4,8] ?_
 refine ac ?_
 refine cL mixed ?_
 refine aR.cl aa false 2 [1,2,3,4,8,12,13] [4,8] ?_
 obtain⟨x1,hx1,h⟩:=bind_some h
 refine aR.step (xc sV (dV aW cq _ hx1)) ?_
 refine aR.cl aa false 4 [1,2,3,4,8,16,17,18] [4,8] ?_
 obtain⟨x2,hx2,h⟩:=bind_some h
 refine aR.step (xc sV (dV aW dA _ hx2)) ?_
 refine aR.cl aa false 4 [1,2,3,4,8,9] [4,8] ?_
 refine aR.nx ?_
 refine ac ?_
 refine az aa [1,2,3,8,9,24,25,26] [8] ?_
 refine a7 h (fun j3=>⟨54,[(1,vs cq),(2,vs dA),(3,vi an),(8,.ref 8 0),(9,vi j3)],[(8,.box [vs (ByteArray.mk #[]),vs (ByteArray.mk #[]),vi 0,vi 0])]⟩) (fun v4 h=> ?_) (fun j3 h=> ?_)
 refine ay (a:=v4) ?_
 refine a6 (r:=v4) (s:=(0,(cw x1.Years.To x2.Years.To))) _ (fun s5=>⟨54,[(1,vs cq),(2,vs dA),(3,vi an),(8,.ref 8 0),(9,vi s5.2),(24,vl ae aW.Links),(25,vi (aW.Links.length:Int)),(26,vi s5.1)],[(8,.box [vs (ByteArray.mk #[]),vs (ByteArray.mk #[]),vi 0,vi 0])]⟩) _ (Le.aq) h (fun s5 v6 h=> ?_)
 refine az aa [1,2,3,8,9,24,25,26,27] [8] ?_
 refine ac ?_
 refine ao h (fun h=> ?_) fun h=> ?_
 refine ai ?_
 refine aY ?_
 refine ac ?_
 refine a7 h (fun j7=>⟨54,[(1,vs cq),(2,vs dA),(3,vi an),(8,.ref 8 0),(9,vi j7),(24,vl ae aW.Links),(25,vi (aW.Links.length:Int)),(26,vi s5.1)],[(8,.box [vs (ByteArray.mk #[]),vs (ByteArray.mk #[]),vi 0,vi 0])]⟩) (fun v8 h=> ?_) (fun j7 h=> ?_)
 refine ay (a:=v8) ?_
 refine sr ?_
 obtain⟨x9,hx9,h⟩:=bind_some h
 refine ab.ls (aG (L:=aW.Links) (f:=ae) (ti:=dp) (tj:=dq) (e:=85) (k:= .i64) aa rfl hx9) ?_
 refine bO aa 3 [1,2,3,8,9,11,24,25,26] [8,11] ?_
 refine ac ?_
 refine dc ⟨54,[(1,vs cq),(2,vs dA),(3,vi an),(8,.ref 8 0),(9,vi s5.2),(11,.ref 11 0),(24,vl ae aW.Links),(25,vi (aW.Links.length:Int)),(26,vi s5.1),(40,vb ((x9.Child.toList==cq.toList)&&(decide (x9.Years.From>an))))],[(8,.box [vs (ByteArray.mk #[]),vs (ByteArray.mk #[]),vi 0,vi 0]),(11,.box (tc ae x9))]⟩ ?_ ?_
 refine ab.ck aa 5 ⟨54,[(1,vs cq),(2,vs dA),(3,vi an),(8,.ref 8 0),(9,vi s5.2),(11,.ref 11 0),(24,vl ae aW.Links),(25,vi (aW.Links.length:Int)),(26,vi s5.1),(34,vb (x9.Child.toList==cq.toList))],[(8,.box [vs (ByteArray.mk #[]),vs (ByteArray.mk #[]),vi 0,vi 0]),(11,.box (tc ae x9))]⟩ ?_
 generalize (x9.Child.toList==cq.toList)=bb
 cases bb
 refine ab.cl aa 6 [1,2,3,8,9,11,24,25,26,40] [8,11] ?_
 exact ab.nil (Le.aq)
 refine ab.cl aa 6 [1,2,3,8,9,11,24,25,26,40] [8,11] ?_
 exact ab.nil (Le.aq)
 refine ao h (fun h=> ?_) fun h=> ?_
 refine aF ?_
 refine ab.cl aa 7 [1,2,3,8,9,24,25,26] [8] ?_
 refine ab.nil ?_
 obtain rfl:=inj h
 exact bT (fu (Le.aq))
 refine ai ?_
 obtain rfl:=inj h
 exact bT (fu (Le.aq))
 refine aF ?_
 refine ab.cl aa 2 [1,2,3,8,9,24,25,26] [8] ?_
 refine ab.nil ?_
 obtain rfl:=inj h
 exact bZ (Le.aq)
 refine aQ ?_
 obtain rfl:=inj h
 exact cD (cF (cE (fu (Le.aq))))
 refine sr ?_
 refine ab.cl aa 4 [8,48,49,50,51] [8] ?_
 refine ab.ls (bk (v:= .agg [vi an,vi j3]) aa rfl) ?_
 refine ab.ls (bk (v:= .agg [vs cq,vs dA,vi an,vi j3]) aa rfl) ?_
 refine bO aa 1 [8] [8] ?_
 refine ag ?_
 obtain rfl:=inj h
 exact aD (f1 (fc aa))
theorem AM:a8 Tryz.prog 142:=ax Tryz.func142 (by kernel_rfl) rfl
noncomputable def cJ(aW:World)(cq:ByteArray)(dA:ByteArray)(an:Int):Option (Int×World):=
 (bif(cq.toList==dA.toList)then some (5,aW)else((dL aW cq dA an).bind fun x1=>(((jx (aW.Links.length:Int) (fun(i4:Int) (s4:(List aw))=>((at' aW.Links i4).bind fun x8=>(((bif(x8.Child.toList==cq.toList)then((bH x8.Years an).bind fun x9=>some x9)else some false)).bind fun(j10:Bool)=>(((bif j10 then some (aw.mk x8.Child x8.Parent (Span.mk x8.Years.From (aJ (an - 1))))else some x8)).bind fun(j12:aw)=>(bif(decide (j12.Years.From≤j12.Years.To))then((ed s4 ([j12]:List aw)).bind fun x14=>some x14)else some s4))))) (fun(s4:(List aw))=>s4) 0 ([]:List aw))).bind fun(j2:(List aw))=>((ed j2 ([x1]:List aw)).bind fun x15=>(((bif(decide ((x15.length:Int)>20))then some (.inr (3,aW))else((ee x15).bind fun x18=>(bif(!x18)then some (.inr (5,aW))else some (.inl ()))))).bind (Sum.elim (fun(_:Unit)=>some (0,(World.mk aW.Places x15))) some))))))
theorem jG(aW:World)(cq:ByteArray)(dA:ByteArray)(an:Int)(r:Int×World)(h:cJ aW cq dA an=some r):jE Tryz.prog 91 [.ref 1000000 0,vs cq,vs dA,vi an] [(1000000,.box [.own 3000000,.own 3000001]),(3000000,.deep 91 5 aW.Places.length [.flat,.flat,.flat,.flat,(.sl 169 5 [.flat,.flat,.flat,.flat,.flat])] (aW.Places.map ad)),(3000001,oa 85 4 ae aW.Links)] [(1000000,.box [.own 3000000,.own 3000001]),(3000000,.deep 91 5 r.2.Places.length [.flat,.flat,.flat,.flat,(.sl 169 5 [.flat,.flat,.flat,.flat,.flat])] (r.2.Places.map ad)),(3000001,oa 85 4 ae r.2.Links)] [vi r.1]:=by
 refine iO Tryz.func91 rfl [(.tmp 8)] rfl (fun r=>[(1000000,.box [.own 3000000,.own 3000001]),(3000000,.deep 91 5 r.2.Places.length [.flat,.flat,.flat,.flat,(.sl 169 5 [.flat,.flat,.flat,.flat,.flat])] (r.2.Places.map ad)),(3000001,oa 85 4 ae r.2.Links)]) (fun r=>[vi r.1]) (r:=r) (ci SV.et (ci trivial (ci (b5 di _) jM))) ?_
 unfold cJ at h
 refine az aa [0,1,2,3] [1000000,3000000,3000001] ?_
 refine ac ?_
 refine az aa [0,1,2,3,15] [1000000,3000000,3000001] ?_
 refine ao h (fun h=> ?_) fun h=> ?_
 refine az aa [8] [1000000,3000000,3000001] ?_
 refine ag ?_
 obtain rfl:=inj h
 exact bw (mb (fw aa))
 refine ai ?_
 refine aY ?_
 refine sr ?_
 refine ab.cl aa 6 [0,1,3,18,19,20,21] [1000000,3000000,3000001] ?_
 obtain⟨x1,hx1,h⟩:=bind_some h
 refine ab.ls (xc AM (lv aW cq dA an _ hx1)) ?_
 refine bO aa 2 [0,1,3,9] [9,1000000,3000000,3000001] ?_
 refine az aa [0,1,3,9,10] [9,10,1000000,3000000,3000001] ?_
 refine ac ?_
 refine az aa [0,1,3,9,10,26,27,28] [9,10,1000000,3000000,3000001] ?_
 refine a7 h (fun j2=>⟨74,[(0,.ref 1000000 0),(9,.ref 9 0),(10,.own 10)],[(9,.box (tc ae x1)),(10,oa 85 4 ae j2),(1000000,.box [.own 3000000,.own 3000001]),(3000000,.deep 91 5 aW.Places.length [.flat,.flat,.flat,.flat,(.sl 169 5 [.flat,.flat,.flat,.flat,.flat])] (aW.Places.map ad)),(3000001,oa 85 4 ae aW.Links)]⟩) (fun v3 h=> ?_) (fun j2 h=> ?_)
 refine ay (a:=v3) ?_
 refine a6 (r:=v3) (s:=(0,([]:List aw))) _ (fun s4=>⟨74,[(0,.ref 1000000 0),(1,vs cq),(3,vi an),(9,.ref 9 0),(10,.own 10),(26,.own 3000001),(27,vi (aW.Links.length:Int)),(28,vi s4.1)],[(9,.box (tc ae x1)),(10,oa 85 4 ae s4.2),(1000000,.box [.own 3000000,.own 3000001]),(3000000,.deep 91 5 aW.Places.length [.flat,.flat,.flat,.flat,(.sl 169 5 [.flat,.flat,.flat,.flat,.flat])] (aW.Places.map ad)),(3000001,oa 85 4 ae aW.Links)]⟩) _ (Le.aq) h (fun s4 v5 h=> ?_)
 refine az aa [0,1,3,9,10,26,27,28,29] [9,10,1000000,3000000,3000001] ?_
 refine ac ?_
 refine ao h (fun h=> ?_) fun h=> ?_
 refine ai ?_
 refine aY ?_
 refine ac ?_
 refine a7 h (fun j6=>⟨74,[(0,.ref 1000000 0),(1,vs cq),(3,vi an),(9,.ref 9 0),(10,.own 10),(26,.own 3000001),(27,vi (aW.Links.length:Int)),(28,vi s4.1)],[(9,.box (tc ae x1)),(10,oa 85 4 ae j6),(1000000,.box [.own 3000000,.own 3000001]),(3000000,.deep 91 5 aW.Places.length [.flat,.flat,.flat,.flat,(.sl 169 5 [.flat,.flat,.flat,.flat,.flat])] (aW.Places.map ad)),(3000001,oa 85 4 ae aW.Links)]⟩) (fun v7 h=> ?_) (fun j6 h=> ?_)
 refine ay (a:=v7) ?_
 refine sr ?_
 obtain⟨x8,hx8,h⟩:=bind_some h
 refine ab.ls (bo (d:=3000001) (L:=aW.Links) (f:=ae) (ti:=dp) (tj:=dq) (e:=85) (e':=85) (m:=4) (k:= .i64) aa rfl hx8) ?_
 refine ab.ls (dr (d:=3000001) (m:=4) (j:=0) (L:=aW.Links) (f:=ae) (ti:=dq) (e:=85) (v:= .agg (tc ae x8)) aa rfl hx8) ?_
 refine bO aa 2 [0,1,3,9,10,12,26,27,28] [9,10,12,1000000,3000000,3000001] ?_
 refine ac ?_
 refine ac ?_
 refine bj h (fun j10=>⟨74,[(0,.ref 1000000 0),(1,vs cq),(3,vi an),(9,.ref 9 0),(10,.own 10),(12,.ref 12 0),(26,.own 3000001),(27,vi (aW.Links.length:Int)),(28,vi s4.1),(41,vb j10)],[(9,.box (tc ae x1)),(10,oa 85 4 ae s4.2),(12,.box (tc ae x8)),(1000000,.box [.own 3000000,.own 3000001]),(3000000,.deep 91 5 aW.Places.length [.flat,.flat,.flat,.flat,(.sl 169 5 [.flat,.flat,.flat,.flat,.flat])] (aW.Places.map ad)),(3000001,oa 85 4 ae aW.Links)]⟩) (fun v11 h=> ?_) (fun j10 h=> ?_)
 refine ab.cl aa 5 [0,1,3,9,10,12,26,27,28,36] [9,10,12,1000000,3000000,3000001] ?_
 refine ab.cu [(36,fun b=>b)] h (fun h=> ?_) fun h=> ?_
 refine ab.cl aa 3 [0,1,3,9,10,12,26,27,28,36,38,39] [9,10,12,1000000,3000000,3000001] ?_
 obtain⟨x9,hx9,h⟩:=bind_some h
 refine ab.ls (xc lV (cA x8.Years an _ hx9)) ?_
 refine ab.cl aa 1 [0,1,3,9,10,12,26,27,28,41] [9,10,12,1000000,3000000,3000001] ?_
 refine ab.nil ?_
 obtain rfl:=inj h
 exact Le.aq
 refine ab.cl aa 5 [0,1,3,9,10,12,26,27,28,41] [9,10,12,1000000,3000000,3000001] ?_
 refine ab.nil ?_
 obtain rfl:=inj h
 exact Le.aq
 refine a7 h (fun j12=>⟨74,[(0,.ref 1000000 0),(1,vs cq),(3,vi an),(9,.ref 9 0),(10,.own 10),(12,.ref 12 0),(26,.own 3000001),(27,vi (aW.Links.length:Int)),(28,vi s4.1)],[(9,.box (tc ae x1)),(10,oa 85 4 ae s4.2),(12,.box (tc ae j12)),(1000000,.box [.own 3000000,.own 3000001]),(3000000,.deep 91 5 aW.Places.length [.flat,.flat,.flat,.flat,(.sl 169 5 [.flat,.flat,.flat,.flat,.flat])] (aW.Places.map ad)),(3000001,oa 85 4 ae aW.Links)]⟩) (fun v13 h=> ?_) (fun j12 h=> ?_)
 refine ao h (fun h=> ?_) fun h=> ?_
 refine aF ?_
 refine ab.cl aa 5 [0,1,3,9,10,12,26,27,28] [9,10,12,1000000,3000000,3000001] ?_
 refine ab.nil ?_
 obtain rfl:=inj h
 exact fu (Le.aq)
 refine ai ?_
 obtain rfl:=inj h
 exact fu (Le.aq)
 refine az aa [0,1,3,9,10,12,26,27,28,52] [9,10,12,1000000,3000000,3000001] ?_
 refine ao h (fun h=> ?_) fun h=> ?_
 refine aF ?_
 refine ab.cl aa 3 [0,1,3,9,26,27,28,53,55] [9,10,55,1000000,3000000,3000001] ?_
 obtain⟨x14,hx14,h⟩:=bind_some h
 refine ab.bx (bS (f:=ae) (t:=33) (ti:=dp) (tj:=dq) (zs:=[.string (ByteArray.mk #[]),.string (ByteArray.mk #[]),.int .i64 0,.int .i64 0]) (e:=85) (m:=4) (d:=10) (xv:= .own 55) hx14 aa rfl rfl rfl rfl (dC (e:=85))) ?_
 refine ab.cl aa 1 [0,1,3,9,10,26,27,28] [9,56,1000000,3000000,3000001] ?_
 refine ab.nil ?_
 obtain rfl:=inj h
 exact bT (fu (Le.rr [9,56,1000000,3000000,3000001] [(56,10)]))
 refine ai ?_
 obtain rfl:=inj h
 exact bT (fu (Le.aq))
 refine aF ?_
 refine ab.cl aa 2 [0,1,3,9,10,26,27,28] [9,10,1000000,3000000,3000001] ?_
 refine ab.nil ?_
 obtain rfl:=inj h
 exact bZ (Le.aq)
 refine aQ ?_
 obtain rfl:=inj h
 exact cD (cF (cE (fu (Le.aq))))
 refine sr ?_
 refine ab.cl aa 3 [0,58,60] [10,60,1000000,3000000,3000001] ?_
 obtain⟨x15,hx15,h⟩:=bind_some h
 refine ab.bx (bS (f:=ae) (t:=33) (ti:=dp) (tj:=dq) (zs:=[.string (ByteArray.mk #[]),.string (ByteArray.mk #[]),.int .i64 0,.int .i64 0]) (e:=85) (m:=4) (d:=10) (xv:= .own 60) hx15 aa rfl rfl rfl rfl (dC (e:=85))) ?_
 refine bO aa 1 [0,10] [61,1000000,3000000,3000001] ?_
 refine ac ?_
 refine bi (r:=r) h (fun j16=>⟨74,[(0,.ref 1000000 0),(10,.own 10)],[(10,oa 85 4 ae x15),(1000000,.box [.own 3000000,.own 3000001]),(3000000,.deep 91 5 aW.Places.length [.flat,.flat,.flat,.flat,(.sl 169 5 [.flat,.flat,.flat,.flat,.flat])] (aW.Places.map ad)),(3000001,oa 85 4 ae aW.Links)]⟩) (fun v17 h=> ?_) (fun j16 h=> ?_)
 refine ay (a:=v17) ?_
 refine az aa [0,10,62] [61,1000000,3000000,3000001] ?_
 refine ao h (fun h=> ?_) fun h=> ?_
 refine az aa [8] [1000000,3000000,3000001] ?_
 refine ag ?_
 obtain rfl:=inj h
 exact bm (aU (mb (fw aa)))
 refine sr ?_
 refine ab.cl aa 1 [0,10,67] [61,1000000,3000000,3000001] ?_
 obtain⟨x18,hx18,h⟩:=bind_some h
 refine ab.ls (xc vX (ii x15 _ hx18)) ?_
 refine bO aa 2 [0,10,66] [61,1000000,3000000,3000001] ?_
 refine ao h (fun h=> ?_) fun h=> ?_
 refine az aa [8] [1000000,3000000,3000001] ?_
 refine ag ?_
 obtain rfl:=inj h
 exact bm (aU (mb (fw aa)))
 refine ai ?_
 obtain rfl:=inj h
 exact bT (bZ (Le.rr [61,1000000,3000000,3000001] [(61,10)]))
 refine sr ?_
 refine ab.ck aa 4 ⟨74,[(71,.own 10),(73,.ref 1000000 1)],[(10,oa 85 4 ae x15),(1000000,.box [.own 3000000,.own 3000001]),(3000000,.deep 91 5 aW.Places.length [.flat,.flat,.flat,.flat,(.sl 169 5 [.flat,.flat,.flat,.flat,.flat])] (aW.Places.map ad)),(3000001,oa 85 4 ae aW.Links)]⟩ ?_
 refine ab.bx (dI (d:=1000000) (k:=1) (ti:=dp) (cs:=[.own 3000000,.own 3000001]) (vs:=[.own 10]) (v:= .own 10) aa rfl rfl) ?_
 refine ab.le (Le.less _ [3000001]) ?_
 refine ab.le (Le.ve 10 3000001) ?_
 refine ab.nx ?_
 refine az aa [8] [1000000,3000000,3000001] ?_
 refine ag ?_
 obtain rfl:=inj h
 exact mb (fw aa)
theorem zg:a8 Tryz.prog 91:=ax Tryz.func91 (by kernel_rfl) rfl
noncomputable def gz(ah:(List aw))(an:Int)(qj:(List ByteArray)):Option (Int):=
 ((((((ee ah).bind fun x3=>(bif(!x3)then some true else((eh qj).bind fun x4=>some (!x4))))).bind fun(j5:Bool)=>(bif j5 then some (.inr 1)else((dX an).bind fun x7=>(bif(!x7)then some (.inr 2)else some (.inl ())))))).bind (Sum.elim (fun(_:Unit)=>some 0) some))
theorem nR(ah:(List aw))(an:Int)(qj:(List ByteArray))(r:Int)(h:gz ah an qj=some r):aH Tryz.prog 186 [.v (vl ae ah),.v (vi an),.v (vl eS qj)] ⟨[.v (vi r)],[],false⟩:=by
 refine au Tryz.func186 rfl [(.tmp 6)] rfl (fun r=>⟨[.v (vi r)],[],false⟩) (r:=r) ?_
 unfold gz at h
 refine az aa [0,1,2] [] ?_
 refine ac ?_
 refine bi (r:=r) h (fun j1=>⟨20,[],[]⟩) (fun v2 h=> ?_) (fun j1 h=> ?_)
 refine ay (a:=v2) ?_
 refine ac ?_
 refine bj h (fun j5=>⟨20,[(1,vi an),(7,vb j5)],[]⟩) (fun v6 h=> ?_) (fun j5 h=> ?_)
 refine ab.cl aa 1 [1,2,8] [] ?_
 obtain⟨x3,hx3,h⟩:=bind_some h
 refine ab.ls (xc vX (ii ah _ hx3)) ?_
 refine ab.cl aa 2 [1,2,11] [] ?_
 refine ab.cu [(11,fun b=>b)] h (fun h=> ?_) fun h=> ?_
 refine ab.cl aa 5 [1,7] [] ?_
 refine ab.nil ?_
 obtain rfl:=inj h
 exact Le.aq
 refine ab.cl aa 1 [1,11,12] [] ?_
 obtain⟨x4,hx4,h⟩:=bind_some h
 refine ab.ls (xc sL (iq qj _ hx4)) ?_
 refine ab.cl aa 3 [1,7] [] ?_
 refine ab.nil ?_
 obtain rfl:=inj h
 exact Le.aq
 refine ao h (fun h=> ?_) fun h=> ?_
 refine iR aa ⟨20,[(6,vi 1)],[]⟩ ?_
 refine ag ?_
 obtain rfl:=inj h
 exact bm (aU (aD (f1 fv)))
 refine sr ?_
 refine ab.cl aa 1 [17] [] ?_
 obtain⟨x7,hx7,h⟩:=bind_some h
 refine ab.ls (xc p7 (gL an _ hx7)) ?_
 refine bO aa 2 [16] [] ?_
 refine ao h (fun h=> ?_) fun h=> ?_
 refine iR aa ⟨20,[(6,vi 2)],[]⟩ ?_
 refine ag ?_
 obtain rfl:=inj h
 exact bm (aU (aD (f1 fv)))
 refine ai ?_
 obtain rfl:=inj h
 exact bT (bZ (Le.aq))
 refine iR aa ⟨20,[(6,vi 0)],[]⟩ ?_
 refine ag ?_
 obtain rfl:=inj h
 exact aD (f1 fv)
theorem A4:a8 Tryz.prog 186:=ax Tryz.func186 (by kernel_rfl) rfl
noncomputable def fD(cq:ByteArray)(c0:(List aw))(c1:Int)(c2:ByteArray):Option (Bool):=
 ((cS c0 cq c1).bind fun x1=>some (x1.1.toList==c2.toList))
theorem lK(cq:ByteArray)(c0:(List aw))(c1:Int)(c2:ByteArray)(r:Bool)(h:fD cq c0 c1 c2=some r):aH Tryz.prog 188 [.v (vs cq),.v (.ptr [vl ae c0] 0),.v (.ptr [vi c1] 0),.v (.ptr [vs c2] 0)] ⟨[.v (vb r)],[],false⟩:=by
 refine au Tryz.func188 rfl [(.tmp 5)] rfl (fun r=>⟨[.v (vb r)],[],false⟩) (r:=r) ?_
 unfold fD at h
 refine az aa [0,1,2,3] [] ?_
 refine sr ?_
 refine ab.cl aa 3 [3,9,10,11] [] ?_
 obtain⟨x1,hx1,h⟩:=bind_some h
 refine ab.ls (xc sP (ir c0 cq c1 _ hx1)) ?_
 refine bO aa 5 [3,6] [] ?_
 refine az aa [5] [] ?_
 refine ag ?_
 obtain rfl:=inj h
 exact aD (f1 fv)
theorem A6:a8 Tryz.prog 188:=ax Tryz.func188 (by kernel_rfl) rfl
theorem pC(L r:List ByteArray)(h:jl L=some r):sB Tryz.prog 215 9 1 (L.map eS) (r.map eS):=wz Tryz.Bt rfl Tryz.Bu rfl 9 L r h
theorem Bh:a8 Tryz.prog 215:=ax Tryz.func215 (by kernel_rfl) rfl
noncomputable def bI(ah:(List aw))(an:Int)(uf:(List aw))(ug:Int)(uh:ByteArray):Option ((List ByteArray)):=
 (((jx (ah.length:Int) (fun(i3:Int) (s3:(List ByteArray))=>((at' ah i3).bind fun x7=>((((bH x7.Years an).bind fun x8=>(bif x8 then((fD x7.Child uf ug uh).bind fun x9=>some x9)else some false))).bind fun(j10:Bool)=>(bif j10 then((ed s3 ([x7.Child]:List ByteArray)).bind fun x12=>some x12)else some s3)))) (fun(s3:(List ByteArray))=>s3) 0 ([]:List ByteArray))).bind fun(j1:(List ByteArray))=>((jl j1).bind fun x13=>some x13))
theorem gf(ah:(List aw))(an:Int)(uf:(List aw))(ug:Int)(uh:ByteArray)(r:(List ByteArray))(h:bI ah an uf ug uh=some r):aH Tryz.prog 187 [.v (vl ae ah),.v (vi an),.v (.clo 188 [.ptr [vl ae uf] 0,.ptr [vi ug] 0,.ptr [vs uh] 0])] ⟨[.own 9 1 r.length (r.map eS)],[],false⟩:=by
 refine au Tryz.func187 rfl [(.tmp 6)] rfl (fun r=>⟨[.own 9 1 r.length (r.map eS)],[],false⟩) (r:=r) ?_
 unfold bI at h
 refine az aa [0,1,2] [] ?_
 refine az aa [0,1,2,7] [7] ?_
 refine ac ?_
 refine az aa [1,2,7,10,11,12] [7] ?_
 refine a7 h (fun j1=>⟨34,[(7,.own 7)],[(7,oa 9 1 eS j1)]⟩) (fun v2 h=> ?_) (fun j1 h=> ?_)
 refine ay (a:=v2) ?_
 refine a6 (r:=v2) (s:=(0,([]:List ByteArray))) _ (fun s3=>⟨34,[(1,vi an),(2,.clo 188 [.ptr [vl ae uf] 0,.ptr [vi ug] 0,.ptr [vs uh] 0]),(7,.own 7),(10,vl ae ah),(11,vi (ah.length:Int)),(12,vi s3.1)],[(7,oa 9 1 eS s3.2)]⟩) _ (Le.aq) h (fun s3 v4 h=> ?_)
 refine az aa [1,2,7,10,11,12,13] [7] ?_
 refine ac ?_
 refine ao h (fun h=> ?_) fun h=> ?_
 refine ai ?_
 refine aY ?_
 refine ac ?_
 refine a7 h (fun j5=>⟨34,[(1,vi an),(2,.clo 188 [.ptr [vl ae uf] 0,.ptr [vi ug] 0,.ptr [vs uh] 0]),(7,.own 7),(10,vl ae ah),(11,vi (ah.length:Int)),(12,vi s3.1)],[(7,oa 9 1 eS j5)]⟩) (fun v6 h=> ?_) (fun j5 h=> ?_)
 refine ay (a:=v6) ?_
 refine sr ?_
 obtain⟨x7,hx7,h⟩:=bind_some h
 refine ab.ls (aG (L:=ah) (f:=ae) (ti:=dp) (tj:=dq) (e:=85) (k:= .i64) aa rfl hx7) ?_
 refine bO aa 3 [1,2,7,9,10,11,12] [7,9] ?_
 refine ac ?_
 refine bj h (fun j10=>⟨34,[(1,vi an),(2,.clo 188 [.ptr [vl ae uf] 0,.ptr [vi ug] 0,.ptr [vs uh] 0]),(7,.own 7),(9,.ref 9 0),(10,vl ae ah),(11,vi (ah.length:Int)),(12,vi s3.1),(25,vb j10)],[(7,oa 9 1 eS s3.2),(9,.box (tc ae x7))]⟩) (fun v11 h=> ?_) (fun j10 h=> ?_)
 refine ab.cl aa 3 [1,2,7,9,10,11,12,17,18] [7,9] ?_
 obtain⟨x8,hx8,h⟩:=bind_some h
 refine ab.ls (xc lV (cA x7.Years an _ hx8)) ?_
 refine ab.cl aa 1 [1,2,7,9,10,11,12,20] [7,9] ?_
 refine ab.cu [(20,fun b=>b)] h (fun h=> ?_) fun h=> ?_
 refine ab.cl aa 3 [1,2,7,9,10,11,12,20,21,23] [7,9] ?_
 obtain⟨x9,hx9,h⟩:=bind_some h
 refine ab.ls (xc A6 (lK x7.Child uf ug uh _ hx9)) ?_
 refine ab.cl aa 1 [1,2,7,9,10,11,12,25] [7,9] ?_
 refine ab.nil ?_
 obtain rfl:=inj h
 exact Le.aq
 refine ab.cl aa 5 [1,2,7,9,10,11,12,25] [7,9] ?_
 refine ab.nil ?_
 obtain rfl:=inj h
 exact Le.aq
 refine ao h (fun h=> ?_) fun h=> ?_
 refine aF ?_
 refine ab.cl aa 4 [1,2,10,11,12,26,29] [7,29] ?_
 obtain⟨x12,hx12,h⟩:=bind_some h
 refine ab.bx (bS (f:=eS) (t:=106) (ti:=cy) (tj:=gH) (zs:=[.string (ByteArray.mk #[])]) (e:=9) (m:=1) (d:=7) (xv:= .own 29) hx12 aa rfl rfl rfl rfl (dC (e:=9))) ?_
 refine ab.cl aa 1 [1,2,7,10,11,12] [30] ?_
 refine ab.nil ?_
 obtain rfl:=inj h
 exact bT (fu (Le.rr [30] [(30,7)]))
 refine ai ?_
 obtain rfl:=inj h
 exact bT (fu (Le.aq))
 refine aF ?_
 refine ab.cl aa 2 [1,2,7,10,11,12] [7] ?_
 refine ab.nil ?_
 obtain rfl:=inj h
 exact bZ (Le.aq)
 refine aQ ?_
 obtain rfl:=inj h
 exact cD (cF (cE (fu (Le.aq))))
 refine sr ?_
 refine ab.ck aa 1 ⟨34,[(32,.own 7)],[(7,oa 9 1 eS j1)]⟩ ?_
 obtain⟨x13,hx13,h⟩:=bind_some h
 refine ab.bx (DB (d:=7) (d0:=33) (n:=j1.length) (n':=x13.length) (es:=j1.map eS) Bh (pC j1 _ hx13) (b5 fC _) (b5 fC _) rfl rfl rfl (List.length_map _) (List.length_map _)) ?_
 refine bO aa 1 [6] [33] ?_
 refine ag ?_
 obtain rfl:=inj h
 exact aD (f1 (fo fC))
theorem A5:a8 Tryz.prog 187:=ax Tryz.func187 (by kernel_rfl) rfl
noncomputable def e9(ah:(List aw))(aE:ByteArray)(an:Int):Option ((List ByteArray)×Int):=
 ((gz ah an ([aE]:List ByteArray)).bind fun x1=>(bif(x1 !=0)then some (([]:List ByteArray),x1)else((bI ah an ah an aE).bind fun x2=>some (x2,0))))
theorem mF(ah:(List aw))(aE:ByteArray)(an:Int)(r:(List ByteArray)×Int)(h:e9 ah aE an=some r):aH Tryz.prog 143 [.v (vl ae ah),.v (vs aE),.v (vi an)] ⟨[.own 9 1 r.1.length (r.1.map eS),.v (vi r.2)],[],false⟩:=by
 refine au Tryz.func143 rfl [(.tmp 6),(.tmp 7)] rfl (fun r=>⟨[.own 9 1 r.1.length (r.1.map eS),.v (vi r.2)],[],false⟩) (r:=r) ?_
 unfold e9 at h
 refine az aa [3,4,5] [3,4,5] ?_
 refine ac ?_
 refine sr ?_
 refine ab.cl aa 4 [3,4,5,9,10,12] [3,4,5,12] ?_
 obtain⟨x1,hx1,h⟩:=bind_some h
 refine ab.ls (xc A4 (nR ah an ([aE]:List ByteArray) _ hx1)) ?_
 refine bO aa 1 [3,4,5,8] [3,4,5] ?_
 refine az aa [3,4,5,8,15] [3,4,5] ?_
 refine ao h (fun h=> ?_) fun h=> ?_
 refine az aa [6,7] [6] ?_
 refine ag ?_
 obtain rfl:=inj h
 exact bw (aD (f2 (fo fC) fv))
 refine ai ?_
 refine aY ?_
 refine sr ?_
 refine ab.cl aa 3 [17,18,19] [3,4,5] ?_
 obtain⟨x2,hx2,h⟩:=bind_some h
 refine ab.ls (xc A5 (gf ah an ah an aE _ hx2)) ?_
 refine bO aa 2 [6,7] [20] ?_
 refine ag ?_
 obtain rfl:=inj h
 exact aD (f2 (fo fC) fv)
theorem AN:a8 Tryz.prog 143:=ax Tryz.func143 (by kernel_rfl) rfl
noncomputable def ew(aP:Place)(an:Int):Option (Place):=
 (((jx (aP.Names.length:Int) (fun(i3:Int) (s3:ByteArray×Int×Int×Int×(List Name))=>((at' aP.Names i3).bind fun x7=>(bif(decide (x7.Years.From<an))then((ed s3.2.2.2.2 ([(Name.mk x7.Text x7.Language x7.Status (Span.mk x7.Years.From (cw x7.Years.To (aJ (an - 1)))))]:List Name)).bind fun x8=>some (s3.1,s3.2.1,s3.2.2.1,s3.2.2.2.1,x8))else some (s3.1,s3.2.1,s3.2.2.1,s3.2.2.2.1,s3.2.2.2.2)))) (fun(s3:ByteArray×Int×Int×Int×(List Name))=>(s3.1,s3.2.1,s3.2.2.1,s3.2.2.2.1,s3.2.2.2.2)) 0 (aP.Code,aP.Class,aP.Years.From,(aJ (an - 1)),([]:List Name)))).bind fun(j1:ByteArray×Int×Int×Int×(List Name))=>some (Place.mk j1.1 j1.2.1 (Span.mk j1.2.2.1 j1.2.2.2.1) j1.2.2.2.2))
theorem jh(aP:Place)(an:Int)(r:Place)(h:ew aP an=some r):aH Tryz.prog 144 [.v (.agg (tc ad aP)),.v (vi an)] ⟨[.part [vs r.Code,vi r.Class,vi r.Years.From,vi r.Years.To] [] (oa 169 5 ar r.Names)],[],false⟩:=by
 refine au Tryz.func144 rfl [(.cell 4 91)] rfl (fun r=>⟨[.part [vs r.Code,vi r.Class,vi r.Years.From,vi r.Years.To] [] (oa 169 5 ar r.Names)],[],false⟩) (r:=r) ?_
 unfold ew at h
 refine az aa [1,2,4] [2,4] ?_
 refine sr ?_
 refine ab.cl aa 9 [1,2,4,9,11,14,16] [2,4] ?_
 refine ab.ls (bk (v:= .agg [vi aP.Years.From,vi (aJ (an - 1))]) aa rfl) ?_
 refine ab.ls (pL (d:=18) (e:=169) (m:=5) (v:= .agg [vs aP.Code,vi aP.Class,vi aP.Years.From,vi (aJ (an - 1)),.own 18]) aa rfl (by kernel_rfl) rfl (by kernel_rfl) (by kernel_rfl)) ?_
 refine bO aa 2 [1,2,4,5] [2,4,5,18] ?_
 refine ac ?_
 refine az aa [1,4,5,20,21,22] [4,5,18] ?_
 refine a7 h (fun j1=>⟨47,[(4,.ref 4 0),(5,.ref 5 0)],[(4,.box [vs (ByteArray.mk #[]),vi 0,vi 0,vi 0,vl ar ([]:List Name)]),(5,.box [vs j1.1,vi j1.2.1,vi j1.2.2.1,vi j1.2.2.2.1,.own 18]),(18,oa 169 5 ar j1.2.2.2.2)]⟩) (fun v2 h=> ?_) (fun j1 h=> ?_)
 refine ay (a:=v2) ?_
 refine a6 (r:=v2) (s:=(0,aP.Code,aP.Class,aP.Years.From,(aJ (an - 1)),([]:List Name))) _ (fun s3=>⟨47,[(1,vi an),(4,.ref 4 0),(5,.ref 5 0),(20,vl ar aP.Names),(21,vi (aP.Names.length:Int)),(22,vi s3.1)],[(4,.box [vs (ByteArray.mk #[]),vi 0,vi 0,vi 0,vl ar ([]:List Name)]),(5,.box [vs s3.2.1,vi s3.2.2.1,vi s3.2.2.2.1,vi s3.2.2.2.2.1,.own 18]),(18,oa 169 5 ar s3.2.2.2.2.2)]⟩) _ (Le.aq) h (fun s3 v4 h=> ?_)
 refine az aa [1,4,5,20,21,22,23] [4,5,18] ?_
 refine ac ?_
 refine ao h (fun h=> ?_) fun h=> ?_
 refine ai ?_
 refine aY ?_
 refine ac ?_
 refine a7 h (fun j5=>⟨47,[(1,vi an),(4,.ref 4 0),(5,.ref 5 0),(20,vl ar aP.Names),(21,vi (aP.Names.length:Int)),(22,vi s3.1)],[(4,.box [vs (ByteArray.mk #[]),vi 0,vi 0,vi 0,vl ar ([]:List Name)]),(5,.box [vs j5.1,vi j5.2.1,vi j5.2.2.1,vi j5.2.2.2.1,.own 18]),(18,oa 169 5 ar j5.2.2.2.2)]⟩) (fun v6 h=> ?_) (fun j5 h=> ?_)
 refine ay (a:=v6) ?_
 refine sr ?_
 obtain⟨x7,hx7,h⟩:=bind_some h
 refine ab.ls (aG (L:=aP.Names) (f:=ar) (ti:=dd) (tj:=cH) (e:=169) (k:= .i64) aa rfl hx7) ?_
 refine bO aa 3 [1,4,5,7,20,21,22] [4,5,7,18] ?_
 refine az aa [1,4,5,7,20,21,22,30] [4,5,7,18] ?_
 refine ao h (fun h=> ?_) fun h=> ?_
 refine az aa [1,4,5,7,20,21,22] [4,5,7,18] ?_
 refine aF ?_
 refine ab.cl aa 4 [1,4,5,20,21,22,40,42] [4,5,18,42] ?_
 refine ab.le (Le.Ai (d:=5) (j:=4) (k:=18) (cs:=[vs s3.2.1,vi s3.2.2.1,vi s3.2.2.2.1,vi s3.2.2.2.2.1,.own 18]) (by kernel_rfl) rfl) ?_
 obtain⟨x8,hx8,h⟩:=bind_some h
 refine ab.bx (bS (f:=ar) (t:=89) (ti:=dd) (tj:=cH) (zs:=[.string (ByteArray.mk #[]),.string (ByteArray.mk #[]),.int .i64 0,.int .i64 0,.int .i64 0]) (e:=169) (m:=5) (d:=18) (xv:= .own 42) hx8 aa rfl rfl rfl rfl (dC (e:=169))) ?_
 refine ab.cl aa 2 [1,4,5,20,21,22] [4,5,43] ?_
 refine ab.nil ?_
 obtain rfl:=inj h
 exact bT (fu (Le.rr [4,5,43] [(43,18)]))
 refine ai ?_
 obtain rfl:=inj h
 exact bT (fu (Le.aq))
 refine aF ?_
 refine ab.cl aa 2 [1,4,5,20,21,22] [4,5,18] ?_
 refine ab.nil ?_
 obtain rfl:=inj h
 exact bZ (Le.aq)
 refine aQ ?_
 obtain rfl:=inj h
 exact cD (cF (cE (fu (Le.aq))))
 refine az aa [4] [4,18] ?_
 refine ag ?_
 obtain rfl:=inj h
 exact aD (f1 (Bl (d:=18) [vs j1.1,vi j1.2.1,vi j1.2.2.1,vi j1.2.2.2.1] [] (cI aa (d:=4) (cs:=[vs j1.1,vi j1.2.1,vi j1.2.2.1,vi j1.2.2.2.1,.own 18]) (ti:=cd) (by kernel_rfl) (by kernel_rfl) (by kernel_rfl) (by kernel_rfl)) (by kernel_rfl) (b5 bu _) rfl rfl SV.et SV.et (by kernel_rfl)))
theorem w3:a8 Tryz.prog 144:=ax Tryz.func144 (by kernel_rfl) rfl
noncomputable def gy(ah:(List aw))(aE:ByteArray)(an:Int):Option ((List aw)):=
 (((jx (ah.length:Int) (fun(i3:Int) (s3:(List aw))=>((at' ah i3).bind fun x7=>(((bif((x7.Child.toList==aE.toList) || (x7.Parent.toList==aE.toList))then some (aw.mk x7.Child x7.Parent (Span.mk x7.Years.From (cw x7.Years.To (aJ (an - 1)))))else some x7)).bind fun(j8:aw)=>(bif(decide (j8.Years.From≤j8.Years.To))then((ed s3 ([j8]:List aw)).bind fun x10=>some x10)else some s3)))) (fun(s3:(List aw))=>s3) 0 ([]:List aw))).bind fun(j1:(List aw))=>some j1)
theorem nP(ah:(List aw))(aE:ByteArray)(an:Int)(r:(List aw))(h:gy ah aE an=some r):aH Tryz.prog 145 [.v (vl ae ah),.v (vs aE),.v (vi an)] ⟨[.own 85 4 r.length (r.map ae)],[],false⟩:=by
 refine au Tryz.func145 rfl [(.tmp 6)] rfl (fun r=>⟨[.own 85 4 r.length (r.map ae)],[],false⟩) (r:=r) ?_
 unfold gy at h
 refine az aa [0,1,2] [] ?_
 refine az aa [0,1,2,7] [7] ?_
 refine ac ?_
 refine az aa [1,2,7,10,11,12] [7] ?_
 refine a7 h (fun j1=>⟨47,[(7,.own 7)],[(7,oa 85 4 ae j1)]⟩) (fun v2 h=> ?_) (fun j1 h=> ?_)
 refine ay (a:=v2) ?_
 refine a6 (r:=v2) (s:=(0,([]:List aw))) _ (fun s3=>⟨47,[(1,vs aE),(2,vi an),(7,.own 7),(10,vl ae ah),(11,vi (ah.length:Int)),(12,vi s3.1)],[(7,oa 85 4 ae s3.2)]⟩) _ (Le.aq) h (fun s3 v4 h=> ?_)
 refine az aa [1,2,7,10,11,12,13] [7] ?_
 refine ac ?_
 refine ao h (fun h=> ?_) fun h=> ?_
 refine ai ?_
 refine aY ?_
 refine ac ?_
 refine a7 h (fun j5=>⟨47,[(1,vs aE),(2,vi an),(7,.own 7),(10,vl ae ah),(11,vi (ah.length:Int)),(12,vi s3.1)],[(7,oa 85 4 ae j5)]⟩) (fun v6 h=> ?_) (fun j5 h=> ?_)
 refine ay (a:=v6) ?_
 refine sr ?_
 obtain⟨x7,hx7,h⟩:=bind_some h
 refine ab.ls (aG (L:=ah) (f:=ae) (ti:=dp) (tj:=dq) (e:=85) (k:= .i64) aa rfl hx7) ?_
 refine bO aa 3 [1,2,7,9,10,11,12] [7,9] ?_
 refine ac ?_
 refine ac ?_
 refine dc ⟨47,[(1,vs aE),(2,vi an),(7,.own 7),(9,.ref 9 0),(10,vl ae ah),(11,vi (ah.length:Int)),(12,vi s3.1),(25,vb ((x7.Child.toList==aE.toList) || (x7.Parent.toList==aE.toList)))],[(7,oa 85 4 ae s3.2),(9,.box (tc ae x7))]⟩ ?_ ?_
 refine ab.ck aa 5 ⟨47,[(1,vs aE),(2,vi an),(7,.own 7),(9,.ref 9 0),(10,vl ae ah),(11,vi (ah.length:Int)),(12,vi s3.1),(20,vb (x7.Child.toList==aE.toList))],[(7,oa 85 4 ae s3.2),(9,.box (tc ae x7))]⟩ ?_
 generalize (x7.Child.toList==aE.toList)=bb
 cases bb
 refine ab.cl aa 5 [1,2,7,9,10,11,12,25] [7,9] ?_
 exact ab.nil (Le.aq)
 refine ab.cl aa 5 [1,2,7,9,10,11,12,25] [7,9] ?_
 exact ab.nil (Le.aq)
 refine a7 h (fun j8=>⟨47,[(1,vs aE),(2,vi an),(7,.own 7),(9,.ref 9 0),(10,vl ae ah),(11,vi (ah.length:Int)),(12,vi s3.1)],[(7,oa 85 4 ae s3.2),(9,.box (tc ae j8))]⟩) (fun v9 h=> ?_) (fun j8 h=> ?_)
 refine ao h (fun h=> ?_) fun h=> ?_
 refine aF ?_
 refine ab.cl aa 9 [1,2,7,9,10,11,12] [7,9] ?_
 refine ab.nil ?_
 obtain rfl:=inj h
 exact fu (Le.aq)
 refine ai ?_
 obtain rfl:=inj h
 exact fu (Le.aq)
 refine az aa [1,2,7,9,10,11,12,40] [7,9] ?_
 refine ao h (fun h=> ?_) fun h=> ?_
 refine aF ?_
 refine ab.cl aa 3 [1,2,10,11,12,41,43] [7,43] ?_
 obtain⟨x10,hx10,h⟩:=bind_some h
 refine ab.bx (bS (f:=ae) (t:=33) (ti:=dp) (tj:=dq) (zs:=[.string (ByteArray.mk #[]),.string (ByteArray.mk #[]),.int .i64 0,.int .i64 0]) (e:=85) (m:=4) (d:=7) (xv:= .own 43) hx10 aa rfl rfl rfl rfl (dC (e:=85))) ?_
 refine ab.cl aa 1 [1,2,7,10,11,12] [44] ?_
 refine ab.nil ?_
 obtain rfl:=inj h
 exact bT (fu (Le.rr [44] [(44,7)]))
 refine ai ?_
 obtain rfl:=inj h
 exact bT (fu (Le.aq))
 refine aF ?_
 refine ab.cl aa 2 [1,2,7,10,11,12] [7] ?_
 refine ab.nil ?_
 obtain rfl:=inj h
 exact bZ (Le.aq)
 refine aQ ?_
 obtain rfl:=inj h
 exact cD (cF (cE (fu (Le.aq))))
 refine az aa [6] [7] ?_
 refine ag ?_
 obtain rfl:=inj h
 exact aD (f1 (fo di))
theorem AO:a8 Tryz.prog 145:=ax Tryz.func145 (by kernel_rfl) rfl
noncomputable def ez(aW:World)(aE:ByteArray)(an:Int):Option (World):=
 ((b9 aW.Places aE).bind fun x1=>((at' aW.Places x1.1).bind fun x2=>((ew x2 an).bind fun x3=>((at' aW.Places x1.1).bind fun _=>((gy aW.Links aE an).bind fun x5=>some (World.mk (List.set aW.Places (Int.toNat x1.1) x3) x5))))))
theorem kg(aW:World)(aE:ByteArray)(an:Int)(r:World)(h:ez aW aE an=some r):jE Tryz.prog 93 [.ref 1000000 0,vs aE,vi an] [(1000000,.box [.own 3000000,.own 3000001]),(3000000,.deep 91 5 aW.Places.length [.flat,.flat,.flat,.flat,(.sl 169 5 [.flat,.flat,.flat,.flat,.flat])] (aW.Places.map ad)),(3000001,oa 85 4 ae aW.Links)] [(1000000,.box [.own 3000000,.own 3000001]),(3000000,.deep 91 5 r.Places.length [.flat,.flat,.flat,.flat,(.sl 169 5 [.flat,.flat,.flat,.flat,.flat])] (r.Places.map ad)),(3000001,oa 85 4 ae r.Links)] []:=by
 refine iO Tryz.func93 rfl [] rfl (fun r=>[(1000000,.box [.own 3000000,.own 3000001]),(3000000,.deep 91 5 r.Places.length [.flat,.flat,.flat,.flat,(.sl 169 5 [.flat,.flat,.flat,.flat,.flat])] (r.Places.map ad)),(3000001,oa 85 4 ae r.Links)]) (fun r=>[]) (r:=r) (ci SV.et (ci trivial (ci (b5 di _) jM))) ?_
 unfold ez at h
 refine sr ?_
 refine ab.cl aa 5 [0,1,2,12,13] [1000000,3000000,3000001] ?_
 obtain⟨x1,hx1,h⟩:=bind_some h
 refine ab.ls (xc nD (dN aW.Places aE _ hx1)) ?_
 refine bO aa 5 [0,1,2,6] [1000000,3000000,3000001] ?_
 refine ac ?_
 obtain⟨x2,hx2,h⟩:=bind_some h
 obtain⟨x3,hx3,h⟩:=bind_some h
 obtain⟨x4,hx4,h⟩:=bind_some h
 refine cL mixed ?_
 refine aR.wc (σE:=⟨42,[(0,.ref 1000000 0),(1,vs aE),(2,vi an)],[(1000000,.box [.own 3000000,.own 3000001]),(3000000,.deep 91 5 (List.set aW.Places (Int.toNat x1.1) x3).length [.flat,.flat,.flat,.flat,(.sl 169 5 [.flat,.flat,.flat,.flat,.flat])] ((List.set aW.Places (Int.toNat x1.1) x3).map ad)),(3000001,oa 85 4 ae aW.Links)]⟩) (n:=16) (L0:=(bA 16 0)) (by kernel_rfl) (by kernel_rfl) (fun K hk=> ?_) ?_
 refine DE.sh 0 (bA 16 65535) ⟨42,[(0,.ref 1000000 0),(1,vs aE),(2,vi an)],[(1000000,.box [.own 3000000,.own 3000001]),(3000000,.deep 91 5 (List.set aW.Places (Int.toNat x1.1) x3).length [.flat,.flat,.flat,.flat,(.sl 169 5 [.flat,.flat,.flat,.flat,.flat])] ((List.set aW.Places (Int.toNat x1.1) x3).map ad)),(3000001,oa 85 4 ae aW.Links)]⟩ ?_ fun d20=> ?_
 exact DE.done (by kernel_rfl) hk
 refine DE.sh 1 (bA 16 32767) ⟨42,[(0,.ref 1000000 0),(1,vs aE),(2,vi an),(30,.agg [vs x3.Code,vi x3.Class,vi x3.Years.From,vi x3.Years.To,.own 30]),(31,.eref 3000000 5 (Int.toNat x1.1) 0)],[(30,oa 169 5 ar x3.Names),(1000000,.box [.own 3000000,.own 3000001]),(3000000,.deep 91 5 aW.Places.length [.flat,.flat,.flat,.flat,(.sl 169 5 [.flat,.flat,.flat,.flat,.flat])] (aW.Places.map ad)),(3000001,oa 85 4 ae aW.Links)]⟩ ?_ fun d19=> ?_
 exact DE.a1 15 d20 rfl (aj.le (e8 (d:=3000000) (m:=5) (j:=0) (L:=aW.Places) (f:=ad) (x:=x3) (z:=x4) (ti:=cd) (e:=91) (ss:=[.flat,.flat,.flat,.flat,(.sl 169 5 [.flat,.flat,.flat,.flat,.flat])]) (ss2:=[.flat,.flat,.flat,.flat,(.sl 169 5 [.flat,.flat,.flat,.flat,.flat])]) (ts:=[.str x3.Code,.int .i64 x3.Class,.int .i64 x3.Years.From,.int .i64 x3.Years.To,.sl x3.Names.length (x3.Names.map ar)]) (vs:=[vs x3.Code,vi x3.Class,vi x3.Years.From,vi x3.Years.To,.own 30]) (v:= .agg [vs x3.Code,vi x3.Class,vi x3.Years.From,vi x3.Years.To,.own 30]) (ds:=[30]) aa rfl rfl hx4 (.cons _ _ _ [] _ _ _ _ (.flat (.str x3.Code) rfl) (.cons _ _ _ [] _ _ _ _ (.flat (.int .i64 x3.Class) rfl) (.cons _ _ _ [] _ _ _ _ (.flat (.int .i64 x3.Years.From) rfl) (.cons _ _ _ [] _ _ _ _ (.flat (.int .i64 x3.Years.To) rfl) (.cons _ _ _ [30] _ _ _ _ (qq (d:=30) (e:=169) (m:=5) (n:=x3.Names.length) (es:=x3.Names.map ar) (ss:=[.flat,.flat,.flat,.flat,.flat]) (b5 bu _)) .nil (by decide)) (by decide)) (by decide)) (by decide)) (by decide))) Le.aq)
 refine DE.sh 2 (bA 16 16383) ⟨42,[(0,.ref 1000000 0),(1,vs aE),(2,vi an),(20,.own 3000000),(21,vi x1.1),(30,.agg [vs x3.Code,vi x3.Class,vi x3.Years.From,vi x3.Years.To,.own 30])],[(30,oa 169 5 ar x3.Names),(1000000,.box [.own 3000000,.own 3000001]),(3000000,.deep 91 5 aW.Places.length [.flat,.flat,.flat,.flat,(.sl 169 5 [.flat,.flat,.flat,.flat,.flat])] (aW.Places.map ad)),(3000001,oa 85 4 ae aW.Links)]⟩ ?_ fun d18=> ?_
 exact DE.a1 14 d19 rfl (aj.l (bF (d:=3000000) (L:=aW.Places) (f:=ad) (ti:=cP) (tj:=cd) (e:=91) (e':=91) (m:=5) (k:= .i64) (ss:=[.flat,.flat,.flat,.flat,(.sl 169 5 [.flat,.flat,.flat,.flat,.flat])]) aa rfl hx4))
 refine DE.sh 3 (bA 16 16375) ⟨42,[(0,.ref 1000000 0),(1,vs aE),(2,vi an),(19,.ref 1000000 0),(21,vi x1.1),(30,.agg [vs x3.Code,vi x3.Class,vi x3.Years.From,vi x3.Years.To,.own 30])],[(30,oa 169 5 ar x3.Names),(1000000,.box [.own 3000000,.own 3000001]),(3000000,.deep 91 5 aW.Places.length [.flat,.flat,.flat,.flat,(.sl 169 5 [.flat,.flat,.flat,.flat,.flat])] (aW.Places.map ad)),(3000001,oa 85 4 ae aW.Links)]⟩ ?_ fun d17=> ?_
 exact DE.a1 3 d18 rfl (aj.n aa)
 refine DE.sh 3 (bA 16 8191) ⟨42,[(0,.ref 1000000 0),(1,vs aE),(2,vi an),(20,.own 3000000),(21,vi x1.1),(28,.agg [vs x2.Code,vi x2.Class,vi x2.Years.From,vi x2.Years.To,.own 3001028]),(29,vi an)],[(1000000,.box [.own 3000000,.own 3000001]),(3000000,.hol 91 5 aW.Places.length [.flat,.flat,.flat,.flat,(.sl 169 5 [.flat,.flat,.flat,.flat,.flat])] (aW.Places.map ad) (Int.toNat x1.1) 4 3001028),(3000001,oa 85 4 ae aW.Links),(3001028,oa 169 5 ar x2.Names)]⟩ ?_ fun d16=> ?_
 exact DE.a1 13 d18 rfl (aj.le (aj.le (aj.ofL (xc w3 (jh x2 an _ hx3)) (by kernel_rfl)) (rB (L:=aW.Places) (f:=ad) (x:=x2) (d:=3000000) (k:=3001028) (e:=91) (m:=5) (j:=4) (e':=169) (m':=5) (n':=x2.Names.length) (ss:=[.flat,.flat,.flat,.flat,(.sl 169 5 [.flat,.flat,.flat,.flat,.flat])]) (ss':=[.flat,.flat,.flat,.flat,.flat]) (es':=x2.Names.map ar) hx2 (b5 bu _))) Le.aq)
 refine DE.sh 4 (bA 16 8183) ⟨42,[(0,.ref 1000000 0),(1,vs aE),(2,vi an),(19,.ref 1000000 0),(21,vi x1.1),(28,.agg [vs x2.Code,vi x2.Class,vi x2.Years.From,vi x2.Years.To,.own 3001028]),(29,vi an)],[(1000000,.box [.own 3000000,.own 3000001]),(3000000,.hol 91 5 aW.Places.length [.flat,.flat,.flat,.flat,(.sl 169 5 [.flat,.flat,.flat,.flat,.flat])] (aW.Places.map ad) (Int.toNat x1.1) 4 3001028),(3000001,oa 85 4 ae aW.Links),(3001028,oa 169 5 ar x2.Names)]⟩ ?_ fun d15=> ?_
 exact DE.al (.c 3 d16 rfl (aj.n aa) (.c 13 d17 rfl (aj.le (aj.le (aj.ofL (xc w3 (jh x2 an _ hx3)) (by kernel_rfl)) (rB (L:=aW.Places) (f:=ad) (x:=x2) (d:=3000000) (k:=3001028) (e:=91) (m:=5) (j:=4) (e':=169) (m':=5) (n':=x2.Names.length) (ss:=[.flat,.flat,.flat,.flat,(.sl 169 5 [.flat,.flat,.flat,.flat,.flat])]) (ss':=[.flat,.flat,.flat,.flat,.flat]) (es':=x2.Names.map ar) hx2 (b5 bu _))) Le.aq) .n))
 refine DE.sh 4 (bA 16 6143) ⟨42,[(0,.ref 1000000 0),(1,vs aE),(2,vi an),(20,.own 3000000),(21,vi x1.1),(27,.eref 3000000 5 (Int.toNat x1.1) 0),(29,vi an)],[(1000000,.box [.own 3000000,.own 3000001]),(3000000,.deep 91 5 aW.Places.length [.flat,.flat,.flat,.flat,(.sl 169 5 [.flat,.flat,.flat,.flat,.flat])] (aW.Places.map ad)),(3000001,oa 85 4 ae aW.Links)]⟩ ?_ fun d14=> ?_
 exact DE.a1 11 d16 rfl (aj.le (vK (L:=aW.Places) (f:=ad) (d:=3000000) (k:=3001028) (e:=91) (m:=5) (j:=4) (e':=169) (m':=5) (n':=x2.Names.length) (ss:=[.flat,.flat,.flat,.flat,(.sl 169 5 [.flat,.flat,.flat,.flat,.flat])]) (ss':=[.flat,.flat,.flat,.flat,.flat]) (es':=x2.Names.map ar) (ti:=cd) (y:=oa 169 5 ar x2.Names) hx2 aa rfl rfl (.inr ⟨rfl,rfl⟩)) Le.aq)
 refine DE.sh 5 (bA 16 6135) ⟨42,[(0,.ref 1000000 0),(1,vs aE),(2,vi an),(19,.ref 1000000 0),(21,vi x1.1),(27,.eref 3000000 5 (Int.toNat x1.1) 0),(29,vi an)],[(1000000,.box [.own 3000000,.own 3000001]),(3000000,.deep 91 5 aW.Places.length [.flat,.flat,.flat,.flat,(.sl 169 5 [.flat,.flat,.flat,.flat,.flat])] (aW.Places.map ad)),(3000001,oa 85 4 ae aW.Links)]⟩ ?_ fun d13=> ?_
 exact DE.al (.c 3 d14 rfl (aj.n aa) (.c 11 d15 rfl (aj.le (vK (L:=aW.Places) (f:=ad) (d:=3000000) (k:=3001028) (e:=91) (m:=5) (j:=4) (e':=169) (m':=5) (n':=x2.Names.length) (ss:=[.flat,.flat,.flat,.flat,(.sl 169 5 [.flat,.flat,.flat,.flat,.flat])]) (ss':=[.flat,.flat,.flat,.flat,.flat]) (es':=x2.Names.map ar) (ti:=cd) (y:=oa 169 5 ar x2.Names) hx2 aa rfl rfl (.inr ⟨rfl,rfl⟩)) Le.aq) .n))
 refine DE.sh 5 (bA 16 5119) ⟨42,[(0,.ref 1000000 0),(1,vs aE),(2,vi an),(20,.own 3000000),(21,vi x1.1),(25,.own 3000000),(26,vi x1.1),(29,vi an)],[(1000000,.box [.own 3000000,.own 3000001]),(3000000,.deep 91 5 aW.Places.length [.flat,.flat,.flat,.flat,(.sl 169 5 [.flat,.flat,.flat,.flat,.flat])] (aW.Places.map ad)),(3000001,oa 85 4 ae aW.Links)]⟩ ?_ fun d12=> ?_
 exact DE.a1 10 d14 rfl (aj.l (bF (d:=3000000) (L:=aW.Places) (f:=ad) (ti:=cP) (tj:=cd) (e:=91) (e':=91) (m:=5) (k:= .i64) (ss:=[.flat,.flat,.flat,.flat,(.sl 169 5 [.flat,.flat,.flat,.flat,.flat])]) aa rfl hx2))
 refine DE.sh 6 (bA 16 5111) ⟨42,[(0,.ref 1000000 0),(1,vs aE),(2,vi an),(19,.ref 1000000 0),(21,vi x1.1),(25,.own 3000000),(26,vi x1.1),(29,vi an)],[(1000000,.box [.own 3000000,.own 3000001]),(3000000,.deep 91 5 aW.Places.length [.flat,.flat,.flat,.flat,(.sl 169 5 [.flat,.flat,.flat,.flat,.flat])] (aW.Places.map ad)),(3000001,oa 85 4 ae aW.Links)]⟩ ?_ fun d11=> ?_
 exact DE.al (.c 3 d12 rfl (aj.n aa) (.c 10 d13 rfl (aj.l (bF (d:=3000000) (L:=aW.Places) (f:=ad) (ti:=cP) (tj:=cd) (e:=91) (e':=91) (m:=5) (k:= .i64) (ss:=[.flat,.flat,.flat,.flat,(.sl 169 5 [.flat,.flat,.flat,.flat,.flat])]) aa rfl hx2)) .n))
 refine DE.sh 6 (bA 16 4863) ⟨42,[(0,.ref 1000000 0),(1,vs aE),(2,vi an),(20,.own 3000000),(21,vi x1.1),(24,.ref 1000000 0),(26,vi x1.1),(29,vi an)],[(1000000,.box [.own 3000000,.own 3000001]),(3000000,.deep 91 5 aW.Places.length [.flat,.flat,.flat,.flat,(.sl 169 5 [.flat,.flat,.flat,.flat,.flat])] (aW.Places.map ad)),(3000001,oa 85 4 ae aW.Links)]⟩ ?_ fun d10=> ?_
 exact DE.a1 8 d12 rfl (aj.n aa)
 refine DE.sh 7 (bA 16 4855) ⟨42,[(0,.ref 1000000 0),(1,vs aE),(2,vi an),(19,.ref 1000000 0),(21,vi x1.1),(24,.ref 1000000 0),(26,vi x1.1),(29,vi an)],[(1000000,.box [.own 3000000,.own 3000001]),(3000000,.deep 91 5 aW.Places.length [.flat,.flat,.flat,.flat,(.sl 169 5 [.flat,.flat,.flat,.flat,.flat])] (aW.Places.map ad)),(3000001,oa 85 4 ae aW.Links)]⟩ ?_ fun d9=> ?_
 exact DE.al (.c 3 d10 rfl (aj.n aa) (.c 8 d11 rfl (aj.n aa) .n))
 refine DE.sh 8 (bA 16 759) ⟨42,[(0,.ref 1000000 0),(1,vs aE),(2,vi an),(19,.ref 1000000 0),(21,vi x1.1),(24,.ref 1000000 0),(26,vi x1.1)],[(1000000,.box [.own 3000000,.own 3000001]),(3000000,.deep 91 5 aW.Places.length [.flat,.flat,.flat,.flat,(.sl 169 5 [.flat,.flat,.flat,.flat,.flat])] (aW.Places.map ad)),(3000001,oa 85 4 ae aW.Links)]⟩ ?_ fun d8=> ?_
 exact DE.tk 12 d9 rfl (.inl rfl) (aj.n aa)
 refine DE.sh 9 (bA 16 247) ⟨42,[(0,.ref 1000000 0),(1,vs aE),(2,vi an),(6,vi x1.1),(19,.ref 1000000 0),(21,vi x1.1),(24,.ref 1000000 0)],[(1000000,.box [.own 3000000,.own 3000001]),(3000000,.deep 91 5 aW.Places.length [.flat,.flat,.flat,.flat,(.sl 169 5 [.flat,.flat,.flat,.flat,.flat])] (aW.Places.map ad)),(3000001,oa 85 4 ae aW.Links)]⟩ ?_ fun d7=> ?_
 exact DE.tk 9 d8 rfl (.inl rfl) (aj.n aa)
 refine DE.sh 10 (bA 16 119) ⟨42,[(0,.ref 1000000 0),(1,vs aE),(2,vi an),(6,vi x1.1),(19,.ref 1000000 0),(21,vi x1.1),(23,.ref 1000000 0)],[(1000000,.box [.own 3000000,.own 3000001]),(3000000,.deep 91 5 aW.Places.length [.flat,.flat,.flat,.flat,(.sl 169 5 [.flat,.flat,.flat,.flat,.flat])] (aW.Places.map ad)),(3000001,oa 85 4 ae aW.Links)]⟩ ?_ fun d6=> ?_
 exact DE.tw aa 7 d7 rfl (aj.n aa)
 refine DE.sh 11 (bA 16 55) ⟨42,[(0,.ref 1000000 0),(1,vs aE),(2,vi an),(6,vi x1.1),(19,.ref 1000000 0),(21,vi x1.1),(22,.ref 1000000 0)],[(1000000,.box [.own 3000000,.own 3000001]),(3000000,.deep 91 5 aW.Places.length [.flat,.flat,.flat,.flat,(.sl 169 5 [.flat,.flat,.flat,.flat,.flat])] (aW.Places.map ad)),(3000001,oa 85 4 ae aW.Links)]⟩ ?_ fun d5=> ?_
 exact DE.tw aa 6 d6 rfl (aj.n aa)
 refine DE.sh 12 (bA 16 23) ⟨42,[(0,.ref 1000000 0),(1,vs aE),(2,vi an),(6,vi x1.1),(19,.ref 1000000 0),(21,vi x1.1)],[(1000000,.box [.own 3000000,.own 3000001]),(3000000,.deep 91 5 aW.Places.length [.flat,.flat,.flat,.flat,(.sl 169 5 [.flat,.flat,.flat,.flat,.flat])] (aW.Places.map ad)),(3000001,oa 85 4 ae aW.Links)]⟩ ?_ fun d4=> ?_
 exact DE.tk 5 d5 rfl (.inl rfl) (aj.n aa)
 refine DE.sh 13 (bA 16 7) ⟨42,[(0,.ref 1000000 0),(1,vs aE),(2,vi an),(6,vi x1.1),(19,.ref 1000000 0)],[(1000000,.box [.own 3000000,.own 3000001]),(3000000,.deep 91 5 aW.Places.length [.flat,.flat,.flat,.flat,(.sl 169 5 [.flat,.flat,.flat,.flat,.flat])] (aW.Places.map ad)),(3000001,oa 85 4 ae aW.Links)]⟩ ?_ fun d3=> ?_
 exact DE.tk 4 d4 rfl (.inl rfl) (aj.n aa)
 refine DE.sh 14 (bA 16 3) ⟨42,[(0,.ref 1000000 0),(1,vs aE),(2,vi an),(6,vi x1.1),(18,.ref 1000000 0)],[(1000000,.box [.own 3000000,.own 3000001]),(3000000,.deep 91 5 aW.Places.length [.flat,.flat,.flat,.flat,(.sl 169 5 [.flat,.flat,.flat,.flat,.flat])] (aW.Places.map ad)),(3000001,oa 85 4 ae aW.Links)]⟩ ?_ fun d2=> ?_
 exact DE.tw aa 2 d3 rfl (aj.n aa)
 refine DE.sh 15 (bA 16 1) ⟨42,[(0,.ref 1000000 0),(1,vs aE),(2,vi an),(6,vi x1.1),(17,.ref 1000000 0)],[(1000000,.box [.own 3000000,.own 3000001]),(3000000,.deep 91 5 aW.Places.length [.flat,.flat,.flat,.flat,(.sl 169 5 [.flat,.flat,.flat,.flat,.flat])] (aW.Places.map ad)),(3000001,oa 85 4 ae aW.Links)]⟩ ?_ fun d1=> ?_
 exact DE.tw aa 1 d2 rfl (aj.n aa)
 exact DE.tk 0 d1 rfl (.inl rfl) (aj.n aa)
 refine aY ?_
 refine aF ?_
 refine ab.cl aa 7 [32,36,37,38] [1000000,3000000,3000001] ?_
 obtain⟨x5,hx5,h⟩:=bind_some h
 refine ab.ls (xc AO (nP aW.Links aE an _ hx5)) ?_
 refine ab.ck aa 2 ⟨42,[(39,.own 39),(41,.ref 1000000 1)],[(39,oa 85 4 ae x5),(1000000,.box [.own 3000000,.own 3000001]),(3000000,.deep 91 5 (List.set aW.Places (Int.toNat x1.1) x3).length [.flat,.flat,.flat,.flat,(.sl 169 5 [.flat,.flat,.flat,.flat,.flat])] ((List.set aW.Places (Int.toNat x1.1) x3).map ad)),(3000001,oa 85 4 ae aW.Links)]⟩ ?_
 refine ab.bx (dI (d:=1000000) (k:=1) (ti:=dp) (cs:=[.own 3000000,.own 3000001]) (vs:=[.own 39]) (v:= .own 39) aa rfl rfl) ?_
 refine ab.le (Le.less _ [3000001]) ?_
 refine ab.le (Le.ve 39 3000001) ?_
 refine ab.nil ?_
 obtain rfl:=inj h
 exact DI (fw aa)
theorem zh:a8 Tryz.prog 93:=ax Tryz.func93 (by kernel_rfl) rfl
noncomputable def gb(aW:World)(aC:Change):Option (Int×World):=
 ((e9 aW.Links aC.Code aC.Year).bind fun x1=>(((cW (x1.1.length:Int) (fun(i4:Int) (s4:(List Place)×(List aw))=>((at' x1.1 i4).bind fun x8=>((cJ (World.mk s4.1 s4.2) x8 aC.Other aC.Year).bind fun x9=>(bif(x9.1 !=0)then some (.inr (.inr (x9.1,x9.2)))else some (.inl (x9.2.Places,x9.2.Links)))))) (fun(s4:(List Place)×(List aw))=>(.inl (s4.1,s4.2))) 0 (aW.Places,aW.Links))).bind (Sum.elim (fun(j2:(List Place)×(List aw))=>((ez (World.mk j2.1 j2.2) aC.Code aC.Year).bind fun x10=>some (0,x10))) some)))
theorem l3(aW:World)(aC:Change)(r:Int×World)(h:gb aW aC=some r):jE Tryz.prog 92 [.ref 1000000 0,.agg (tc ap aC)] [(1000000,.box [.own 3000000,.own 3000001]),(3000000,.deep 91 5 aW.Places.length [.flat,.flat,.flat,.flat,(.sl 169 5 [.flat,.flat,.flat,.flat,.flat])] (aW.Places.map ad)),(3000001,oa 85 4 ae aW.Links)] [(1000000,.box [.own 3000000,.own 3000001]),(3000000,.deep 91 5 r.2.Places.length [.flat,.flat,.flat,.flat,(.sl 169 5 [.flat,.flat,.flat,.flat,.flat])] (r.2.Places.map ad)),(3000001,oa 85 4 ae r.2.Links)] [vi r.1]:=by
 refine iO Tryz.func92 rfl [(.tmp 4)] rfl (fun r=>[(1000000,.box [.own 3000000,.own 3000001]),(3000000,.deep 91 5 r.2.Places.length [.flat,.flat,.flat,.flat,(.sl 169 5 [.flat,.flat,.flat,.flat,.flat])] (r.2.Places.map ad)),(3000001,oa 85 4 ae r.2.Links)]) (fun r=>[vi r.1]) (r:=r) (ci SV.et (ci trivial (ci (b5 di _) jM))) ?_
 unfold gb at h
 refine az aa [0,3] [3,1000000,3000000,3000001] ?_
 refine ac ?_
 refine cL mixed ?_
 refine aR.cl aa false 8 [0,3,14,16,18] [3,1000000,3000000,3000001] ?_
 obtain⟨x1,hx1,h⟩:=bind_some h
 refine aR.step (xc AN (mF aW.Links aC.Code aC.Year _ hx1)) ?_
 refine aR.cl aa false 5 [0,3,5] [3,19,1000000,3000000,3000001] ?_
 refine aR.nx ?_
 refine ac ?_
 refine az aa [0,3,22,23,24] [3,19,1000000,3000000,3000001] ?_
 refine bi (r:=r) h (fun j2=>⟨45,[(0,.ref 1000000 0),(3,.ref 3 0)],[(3,.box (tc ap aC)),(1000000,.box [.own 3000000,.own 3000001]),(3000000,.deep 91 5 j2.1.length [.flat,.flat,.flat,.flat,(.sl 169 5 [.flat,.flat,.flat,.flat,.flat])] (j2.1.map ad)),(3000001,oa 85 4 ae j2.2)]⟩) (fun v3 h=> ?_) (fun j2 h=> ?_)
 refine ay (a:=v3) ?_
 refine a6 (r:=v3) (s:=(0,aW.Places,aW.Links)) _ (fun s4=>⟨45,[(0,.ref 1000000 0),(3,.ref 3 0),(22,.own 22),(23,vi (x1.1.length:Int)),(24,vi s4.1)],[(3,.box (tc ap aC)),(22,oa 9 1 eS x1.1),(1000000,.box [.own 3000000,.own 3000001]),(3000000,.deep 91 5 s4.2.1.length [.flat,.flat,.flat,.flat,(.sl 169 5 [.flat,.flat,.flat,.flat,.flat])] (s4.2.1.map ad)),(3000001,oa 85 4 ae s4.2.2)]⟩) _ (Le.rr [3,19,1000000,3000000,3000001] [(19,22)]) h (fun s4 v5 h=> ?_)
 refine az aa [0,3,22,23,24,25] [3,22,1000000,3000000,3000001] ?_
 refine ac ?_
 refine ao h (fun h=> ?_) fun h=> ?_
 refine ai ?_
 refine aY ?_
 refine ac ?_
 refine bn (r:=v5) h (fun j6=>⟨45,[(0,.ref 1000000 0),(3,.ref 3 0),(22,.own 22),(23,vi (x1.1.length:Int)),(24,vi s4.1)],[(3,.box (tc ap aC)),(22,oa 9 1 eS x1.1),(1000000,.box [.own 3000000,.own 3000001]),(3000000,.deep 91 5 j6.1.length [.flat,.flat,.flat,.flat,(.sl 169 5 [.flat,.flat,.flat,.flat,.flat])] (j6.1.map ad)),(3000001,oa 85 4 ae j6.2)]⟩) (fun v7 h=> ?_) (fun j6 h=> ?_)
 refine ay (a:=v7) ?_
 refine sr ?_
 obtain⟨x8,hx8,h⟩:=bind_some h
 refine ab.ls (bo (d:=22) (L:=x1.1) (f:=eS) (ti:=cy) (tj:=gH) (e:=9) (e':=9) (m:=1) (k:= .i64) aa rfl hx8) ?_
 refine ab.ls (dr (d:=22) (m:=1) (j:=0) (L:=x1.1) (f:=eS) (ti:=gH) (e:=9) (v:=vs x8) aa rfl hx8) ?_
 refine bO aa 1 [0,3,8,22,23,24] [3,22,1000000,3000000,3000001] ?_
 refine sr ?_
 refine ab.ck aa 6 ⟨45,[(0,.ref 1000000 0),(3,.ref 3 0),(22,.own 22),(23,vi (x1.1.length:Int)),(24,vi s4.1),(28,.ref 1000000 0),(29,vs x8),(31,vs aC.Other),(33,vi aC.Year)],[(3,.box (tc ap aC)),(22,oa 9 1 eS x1.1),(1000000,.box [.own 3000000,.own 3000001]),(3000000,.deep 91 5 s4.2.1.length [.flat,.flat,.flat,.flat,(.sl 169 5 [.flat,.flat,.flat,.flat,.flat])] (s4.2.1.map ad)),(3000001,oa 85 4 ae s4.2.2)]⟩ ?_
 obtain⟨x9,hx9,h⟩:=bind_some h
 refine ab.bx (x_w [(1000000,1000000),(3000000,3000000),(3000001,3000001)] [false,true,true,true] zg (jG (World.mk s4.2.1 s4.2.2) x8 aC.Other aC.Year _ hx9)) ?_
 refine bO aa 1 [0,3,9,22,23,24] [3,22,1000000,3000000,3000001] ?_
 refine az aa [0,3,9,22,23,24,36] [3,22,1000000,3000000,3000001] ?_
 refine ao h (fun h=> ?_) fun h=> ?_
 refine az aa [4] [1000000,3000000,3000001] ?_
 refine ag ?_
 obtain rfl:=inj h
 exact bm (aU (aU (bm (aU (mb (fw aa))))))
 refine ai ?_
 obtain rfl:=inj h
 exact bT (bZ (Le.aq))
 refine aF ?_
 refine ab.cl aa 2 [0,3,22,23,24] [3,22,1000000,3000000,3000001] ?_
 refine ab.nil ?_
 obtain rfl:=inj h
 exact bZ (Le.aq)
 refine aQ ?_
 obtain rfl:=inj h
 exact cD (cF (cE (bZ (Le.aq))))
 refine sr ?_
 refine ab.ck aa 5 ⟨45,[(39,.ref 1000000 0),(41,vs aC.Code),(43,vi aC.Year)],[(1000000,.box [.own 3000000,.own 3000001]),(3000000,.deep 91 5 j2.1.length [.flat,.flat,.flat,.flat,(.sl 169 5 [.flat,.flat,.flat,.flat,.flat])] (j2.1.map ad)),(3000001,oa 85 4 ae j2.2)]⟩ ?_
 obtain⟨x10,hx10,h⟩:=bind_some h
 refine ab.bx (x_w [(1000000,1000000),(3000000,3000000),(3000001,3000001)] [false,true,true] zh (kg (World.mk j2.1 j2.2) aC.Code aC.Year _ hx10)) ?_
 refine ab.nx ?_
 refine az aa [4] [1000000,3000000,3000001] ?_
 refine ag ?_
 obtain rfl:=inj h
 exact mb (fw aa)
theorem CE:a8 Tryz.prog 92:=ax Tryz.func92 (by kernel_rfl) rfl
noncomputable def dJ(aW:World)(aC:Change):Option (Int×World):=
 (((bif(aC.Kind==0)then((dW aW aC).bind fun x3=>some (.inr (x3.1,x3.2)))else(bif(aC.Kind==2)then((cJ aW aC.Code aC.Other aC.Year).bind fun x4=>some (.inr (x4.1,x4.2)))else(bif(aC.Kind==3)then((gb aW aC).bind fun x5=>some (.inr (x5.1,x5.2)))else some (.inl (aW.Places,aW.Links)))))).bind (Sum.elim (fun(j1:(List Place)×(List aw))=>((ez (World.mk j1.1 j1.2) aC.Code aC.Year).bind fun x6=>some (0,x6))) some))
theorem ji(aW:World)(aC:Change)(r:Int×World)(h:dJ aW aC=some r):jE Tryz.prog 42 [.ref 1000000 0,.agg (tc ap aC)] [(1000000,.box [.own 3000000,.own 3000001]),(3000000,.deep 91 5 aW.Places.length [.flat,.flat,.flat,.flat,(.sl 169 5 [.flat,.flat,.flat,.flat,.flat])] (aW.Places.map ad)),(3000001,oa 85 4 ae aW.Links)] [(1000000,.box [.own 3000000,.own 3000001]),(3000000,.deep 91 5 r.2.Places.length [.flat,.flat,.flat,.flat,(.sl 169 5 [.flat,.flat,.flat,.flat,.flat])] (r.2.Places.map ad)),(3000001,oa 85 4 ae r.2.Links)] [vi r.1]:=by
 refine iO Tryz.func42 rfl [(.tmp 4)] rfl (fun r=>[(1000000,.box [.own 3000000,.own 3000001]),(3000000,.deep 91 5 r.2.Places.length [.flat,.flat,.flat,.flat,(.sl 169 5 [.flat,.flat,.flat,.flat,.flat])] (r.2.Places.map ad)),(3000001,oa 85 4 ae r.2.Links)]) (fun r=>[vi r.1]) (r:=r) (ci SV.et (ci trivial (ci (b5 di _) jM))) ?_
 unfold dJ at h
 refine az aa [0,3] [3,1000000,3000000,3000001] ?_
 refine ac ?_
 refine az aa [0,3,6] [3,1000000,3000000,3000001] ?_
 refine bi (r:=r) h (fun j1=>⟨33,[(0,.ref 1000000 0),(3,.ref 3 0)],[(3,.box (tc ap aC)),(1000000,.box [.own 3000000,.own 3000001]),(3000000,.deep 91 5 j1.1.length [.flat,.flat,.flat,.flat,(.sl 169 5 [.flat,.flat,.flat,.flat,.flat])] (j1.1.map ad)),(3000001,oa 85 4 ae j1.2)]⟩) (fun v2 h=> ?_) (fun j1 h=> ?_)
 refine ay (a:=v2) ?_
 refine az aa [0,3,6,7] [3,1000000,3000000,3000001] ?_
 refine ao h (fun h=> ?_) fun h=> ?_
 refine sr ?_
 refine ab.ck aa 2 ⟨33,[(9,.ref 1000000 0),(10,.agg (tc ap aC))],[(1000000,.box [.own 3000000,.own 3000001]),(3000000,.deep 91 5 aW.Places.length [.flat,.flat,.flat,.flat,(.sl 169 5 [.flat,.flat,.flat,.flat,.flat])] (aW.Places.map ad)),(3000001,oa 85 4 ae aW.Links)]⟩ ?_
 obtain⟨x3,hx3,h⟩:=bind_some h
 refine ab.bx (x_w [(1000000,1000000),(3000000,3000000),(3000001,3000001)] [false,true] CD (lL aW aC _ hx3)) ?_
 refine bO aa 1 [4] [1000000,3000000,3000001] ?_
 refine ag ?_
 obtain rfl:=inj h
 exact bm (aU (mb (fw aa)))
 refine az aa [0,3,6,12] [3,1000000,3000000,3000001] ?_
 refine ao h (fun h=> ?_) fun h=> ?_
 refine sr ?_
 refine ab.ck aa 7 ⟨33,[(14,.ref 1000000 0),(16,vs aC.Code),(18,vs aC.Other),(20,vi aC.Year)],[(1000000,.box [.own 3000000,.own 3000001]),(3000000,.deep 91 5 aW.Places.length [.flat,.flat,.flat,.flat,(.sl 169 5 [.flat,.flat,.flat,.flat,.flat])] (aW.Places.map ad)),(3000001,oa 85 4 ae aW.Links)]⟩ ?_
 obtain⟨x4,hx4,h⟩:=bind_some h
 refine ab.bx (x_w [(1000000,1000000),(3000000,3000000),(3000001,3000001)] [false,true,true,true] zg (jG aW aC.Code aC.Other aC.Year _ hx4)) ?_
 refine bO aa 1 [4] [1000000,3000000,3000001] ?_
 refine ag ?_
 obtain rfl:=inj h
 exact bm (aU (mb (fw aa)))
 refine az aa [0,3,22] [3,1000000,3000000,3000001] ?_
 refine ao h (fun h=> ?_) fun h=> ?_
 refine sr ?_
 refine ab.ck aa 2 ⟨33,[(24,.ref 1000000 0),(25,.agg (tc ap aC))],[(1000000,.box [.own 3000000,.own 3000001]),(3000000,.deep 91 5 aW.Places.length [.flat,.flat,.flat,.flat,(.sl 169 5 [.flat,.flat,.flat,.flat,.flat])] (aW.Places.map ad)),(3000001,oa 85 4 ae aW.Links)]⟩ ?_
 obtain⟨x5,hx5,h⟩:=bind_some h
 refine ab.bx (x_w [(1000000,1000000),(3000000,3000000),(3000001,3000001)] [false,true] CE (l3 aW aC _ hx5)) ?_
 refine bO aa 1 [4] [1000000,3000000,3000001] ?_
 refine ag ?_
 obtain rfl:=inj h
 exact bm (aU (mb (fw aa)))
 refine ai ?_
 obtain rfl:=inj h
 exact bT (bZ (Le.aq))
 refine sr ?_
 refine ab.ck aa 5 ⟨33,[(27,.ref 1000000 0),(29,vs aC.Code),(31,vi aC.Year)],[(1000000,.box [.own 3000000,.own 3000001]),(3000000,.deep 91 5 j1.1.length [.flat,.flat,.flat,.flat,(.sl 169 5 [.flat,.flat,.flat,.flat,.flat])] (j1.1.map ad)),(3000001,oa 85 4 ae j1.2)]⟩ ?_
 obtain⟨x6,hx6,h⟩:=bind_some h
 refine ab.bx (x_w [(1000000,1000000),(3000000,3000000),(3000001,3000001)] [false,true,true] zh (kg (World.mk j1.1 j1.2) aC.Code aC.Year _ hx6)) ?_
 refine ab.nx ?_
 refine az aa [4] [1000000,3000000,3000001] ?_
 refine ag ?_
 obtain rfl:=inj h
 exact mb (fw aa)
theorem y8:a8 Tryz.prog 42:=ax Tryz.func42 (by kernel_rfl) rfl
noncomputable def cj(aW:World)(aC:Change):Option (World×Int):=
 ((dS aW aC).bind fun x1=>(bif(x1 !=0)then some ((World.mk ([]:List Place) ([]:List aw)),x1)else((dT aW).bind fun x2=>((dJ x2 aC).bind fun x3=>(bif(x3.1 !=0)then some ((World.mk ([]:List Place) ([]:List aw)),x3.1)else some (x3.2,0))))))
theorem ig(aW:World)(aC:Change)(r:World×Int)(h:cj aW aC=some r):jE Tryz.prog 15 [.agg (tc ak aW),.agg (tc ap aC)] [] [(3000000,.deep 91 5 r.1.Places.length [.flat,.flat,.flat,.flat,(.sl 169 5 [.flat,.flat,.flat,.flat,.flat])] (r.1.Places.map ad)),(3000001,oa 85 4 ae r.1.Links)] [.agg [.own 3000000,.own 3000001],vi r.2]:=by
 refine iO Tryz.func15 rfl [(.cell 4 35),(.tmp 5)] rfl (fun r=>[(3000000,.deep 91 5 r.1.Places.length [.flat,.flat,.flat,.flat,(.sl 169 5 [.flat,.flat,.flat,.flat,.flat])] (r.1.Places.map ad)),(3000001,oa 85 4 ae r.1.Links)]) (fun r=>[.agg [.own 3000000,.own 3000001],vi r.2]) (r:=r) (ci trivial (ci (b5 di _) jM)) ?_
 unfold cj at h
 refine az aa [2,3,4] [2,3,4] ?_
 refine ac ?_
 refine sr ?_
 refine ab.cl aa 2 [2,3,4,9,10] [2,3,4] ?_
 obtain⟨x1,hx1,h⟩:=bind_some h
 refine ab.ls (xc y6 (jH aW aC _ hx1)) ?_
 refine bO aa 1 [2,3,4,6] [2,3,4] ?_
 refine az aa [2,3,4,6,13] [2,3,4] ?_
 refine ao h (fun h=> ?_) fun h=> ?_
 refine sr ?_
 refine ab.ls (pt (ti:=iN) (fs:=[(0,32),(1,33)]) (pl:=[(0,1),(1,1)]) (zs:=[.slice none 0 0,.slice none 0 0]) aa rfl) ?_
 refine ckn aa 3 ⟨25,[(4,.ref 4 0),(5,vi x1)],[(4,.box [.tr .nil,.tr .nil])]⟩ ?_
 refine cM (Le.tB (cs:=[.tr .nil,.tr .nil]) 4 0 3000000 (.deep 91 5 ([]:List Place).length [.flat,.flat,.flat,.flat,(.sl 169 5 [.flat,.flat,.flat,.flat,.flat])] (([]:List Place).map ad)) (.inr ⟨rfl,rfl⟩) rfl) ?_
 refine cM (Le.tB (ss:=[]) (cs:=[.own 3000000,.tr .nil]) 4 1 3000001 (oa 85 4 ae ([]:List aw)) (.inl rfl) rfl) ?_
 refine ag ?_
 obtain rfl:=inj h
 exact bw (mb (fw aa))
 refine ai ?_
 refine aY ?_
 refine sr ?_
 refine ab.ck aa 1 ⟨25,[(3,.ref 3 0),(4,.ref 4 0),(16,.agg (tc ak aW))],[(3,.box (tc ap aC)),(4,.box [vl ad ([]:List Place),vl ae ([]:List aw)])]⟩ ?_
 obtain⟨x2,hx2,h⟩:=bind_some h
 refine ab.bx (x_w [(3000000,24),(3000001,23)] [true] y7 (jI aW _ hx2)) ?_
 refine bO aa 2 [3,4,7] [3,4,7,23,24] ?_
 refine ac ?_
 refine sr ?_
 refine ab.ck aa 1 ⟨25,[(4,.ref 4 0),(7,.ref 7 0),(18,.agg (tc ap aC))],[(4,.box [vl ad ([]:List Place),vl ae ([]:List aw)]),(7,.box [.own 24,.own 23]),(23,oa 85 4 ae x2.Links),(24,.deep 91 5 x2.Places.length [.flat,.flat,.flat,.flat,(.sl 169 5 [.flat,.flat,.flat,.flat,.flat])] (x2.Places.map ad))]⟩ ?_
 obtain⟨x3,hx3,h⟩:=bind_some h
 refine ab.bx (x_w [(1000000,7),(3000000,24),(3000001,23)] [false,true] y8 (ji x2 aC _ hx3)) ?_
 refine bO aa 1 [4,7,8] [4,7,23,24] ?_
 refine az aa [4,7,8,21] [4,7,23,24] ?_
 refine ao h (fun h=> ?_) fun h=> ?_
 refine sr ?_
 refine ab.ls (pt (ti:=iN) (fs:=[(0,32),(1,33)]) (pl:=[(0,1),(1,1)]) (zs:=[.slice none 0 0,.slice none 0 0]) aa rfl) ?_
 refine ckn aa 3 ⟨25,[(4,.ref 4 0),(5,vi x3.1)],[(4,.box [.tr .nil,.tr .nil])]⟩ ?_
 refine cM (Le.tB (cs:=[.tr .nil,.tr .nil]) 4 0 3000000 (.deep 91 5 ([]:List Place).length [.flat,.flat,.flat,.flat,(.sl 169 5 [.flat,.flat,.flat,.flat,.flat])] (([]:List Place).map ad)) (.inr ⟨rfl,rfl⟩) rfl) ?_
 refine cM (Le.tB (ss:=[]) (cs:=[.own 3000000,.tr .nil]) 4 1 3000001 (oa 85 4 ae ([]:List aw)) (.inl rfl) rfl) ?_
 refine ag ?_
 obtain rfl:=inj h
 exact bw (mb (fw aa))
 refine ai ?_
 refine aY ?_
 refine iR aa ⟨25,[(4,.ref 4 0),(5,vi 0)],[(4,.box [.own 24,.own 23]),(23,oa 85 4 ae x3.2.Links),(24,.deep 91 5 x3.2.Places.length [.flat,.flat,.flat,.flat,(.sl 169 5 [.flat,.flat,.flat,.flat,.flat])] (x3.2.Places.map ad))]⟩ ?_
 refine cM (Le.ve 24 3000000) ?_
 refine cM (Le.ve 23 3000001) ?_
 refine ag ?_
 obtain rfl:=inj h
 exact mb (fw aa)
theorem sN:a8 Tryz.prog 15:=ax Tryz.func15 (by kernel_rfl) rfl
noncomputable def fK(aA:Span)(aB:Span):Option (Bool):=
 (bif(aA.From !=aB.From)then some false else(bif(aA.To !=aB.To)then some false else some true))
theorem jA(aA:Span)(aB:Span)(r:Bool)(h:fK aA aB=some r):aH Tryz.prog 138 [.v (.agg (tc gp aA)),.v (.agg (tc gp aB))] ⟨[.v (vb r)],[],false⟩:=by
 refine au Tryz.func138 rfl [(.tmp 4)] rfl (fun r=>⟨[.v (vb r)],[],false⟩) (r:=r) ?_
 unfold fK at h
 refine az aa [2,3] [2,3] ?_
 refine ac ?_
 refine az aa [2,3,9] [2,3] ?_
 refine ao h (fun h=> ?_) fun h=> ?_
 refine az aa [4] [] ?_
 refine ag ?_
 obtain rfl:=inj h
 exact bw (aD (f1 fv))
 refine ai ?_
 refine aY ?_
 refine ac ?_
 refine az aa [14] [] ?_
 refine ao h (fun h=> ?_) fun h=> ?_
 refine az aa [4] [] ?_
 refine ag ?_
 obtain rfl:=inj h
 exact bw (aD (f1 fv))
 refine ai ?_
 refine aY ?_
 refine az aa [4] [] ?_
 refine ag ?_
 obtain rfl:=inj h
 exact aD (f1 fv)
theorem sM:a8 Tryz.prog 138:=ax Tryz.func138 (by kernel_rfl) rfl
noncomputable def gW(aA:Name)(aB:Name):Option (Bool):=
 (bif(!(aA.Text.toList==aB.Text.toList))then some false else(bif(!(aA.Language.toList==aB.Language.toList))then some false else(bif(aA.Status !=aB.Status)then some false else((fK aA.Years aB.Years).bind fun x1=>(bif(!x1)then some false else some true)))))
theorem pF(aA:Name)(aB:Name)(r:Bool)(h:gW aA aB=some r):aH Tryz.prog 182 [.v (.agg (tc ar aA)),.v (.agg (tc ar aB))] ⟨[.v (vb r)],[],false⟩:=by
 refine au Tryz.func182 rfl [(.tmp 4)] rfl (fun r=>⟨[.v (vb r)],[],false⟩) (r:=r) ?_
 unfold gW at h
 refine az aa [2,3] [2,3] ?_
 refine ac ?_
 refine az aa [2,3,9] [2,3] ?_
 refine ao h (fun h=> ?_) fun h=> ?_
 refine az aa [4] [] ?_
 refine ag ?_
 obtain rfl:=inj h
 exact bw (aD (f1 fv))
 refine ai ?_
 refine aY ?_
 refine ac ?_
 refine az aa [2,3,14] [2,3] ?_
 refine ao h (fun h=> ?_) fun h=> ?_
 refine az aa [4] [] ?_
 refine ag ?_
 obtain rfl:=inj h
 exact bw (aD (f1 fv))
 refine ai ?_
 refine aY ?_
 refine ac ?_
 refine az aa [2,3,19] [2,3] ?_
 refine ao h (fun h=> ?_) fun h=> ?_
 refine az aa [4] [] ?_
 refine ag ?_
 obtain rfl:=inj h
 exact bw (aD (f1 fv))
 refine ai ?_
 refine aY ?_
 refine ac ?_
 refine sr ?_
 refine ab.cl aa 4 [21,23] [] ?_
 obtain⟨x1,hx1,h⟩:=bind_some h
 refine ab.ls (xc sM (jA aA.Years aB.Years _ hx1)) ?_
 refine ckn aa 1 ⟨26,[(25,vb (!x1))],[]⟩ ?_
 refine ao h (fun h=> ?_) fun h=> ?_
 refine az aa [4] [] ?_
 refine ag ?_
 obtain rfl:=inj h
 exact bw (aD (f1 fv))
 refine ai ?_
 refine aY ?_
 refine az aa [4] [] ?_
 refine ag ?_
 obtain rfl:=inj h
 exact aD (f1 fv)
theorem A1:a8 Tryz.prog 182:=ax Tryz.func182 (by kernel_rfl) rfl
noncomputable def ix(aA:(List Name))(aB:(List Name)):Option (Bool):=
 (bif((aA.length:Int) !=(aB.length:Int))then some false else(((cW (aA.length:Int) (fun(i3:Int) (_:Unit)=>((at' aA i3).bind fun x7=>((at' aB i3).bind fun x8=>((gW x7 x8).bind fun x9=>(bif(!x9)then some (.inr (.inr false))else some (.inl ())))))) (fun(_:Unit)=> .inl ()) 0 ())).bind (Sum.elim (fun(_:Unit)=>some true) some)))
theorem oF(aA:(List Name))(aB:(List Name))(r:Bool)(h:ix aA aB=some r):aH Tryz.prog 139 [.v (vl ar aA),.v (vl ar aB)] ⟨[.v (vb r)],[],false⟩:=by
 refine au Tryz.func139 rfl [(.tmp 4)] rfl (fun r=>⟨[.v (vb r)],[],false⟩) (r:=r) ?_
 unfold ix at h
 refine az aa [0,1] [] ?_
 refine ac ?_
 refine az aa [0,1,10] [] ?_
 refine ao h (fun h=> ?_) fun h=> ?_
 refine az aa [4] [] ?_
 refine ag ?_
 obtain rfl:=inj h
 exact bw (aD (f1 fv))
 refine ai ?_
 refine aY ?_
 refine ac ?_
 refine az aa [0,1,5] [] ?_
 refine bi (r:=r) h (fun j1=>⟨27,[],[]⟩) (fun v2 h=> ?_) (fun j1 h=> ?_)
 refine ay (a:=v2) ?_
 refine a6 (r:=v2) (s:=(0,())) _ (fun s3=>⟨27,[(0,vl ar aA),(1,vl ar aB),(5,vi s3.1)],[]⟩) _ (Le.aq) h (fun s3 v4 h=> ?_)
 refine ac ?_
 refine az aa [0,1,5,14] [] ?_
 refine ao h (fun h=> ?_) fun h=> ?_
 refine ai ?_
 refine aY ?_
 refine ac ?_
 refine bn (r:=v4) h (fun j5=>⟨27,[(0,vl ar aA),(1,vl ar aB),(5,vi s3.1)],[]⟩) (fun v6 h=> ?_) (fun j5 h=> ?_)
 refine ay (a:=v6) ?_
 refine ac ?_
 refine cL mixed ?_
 refine aR.cl aa false 2 [0,1,5,17,18] [] ?_
 obtain⟨x7,hx7,h⟩:=bind_some h
 refine aR.step (aG (L:=aA) (f:=ar) (ti:=dd) (tj:=cH) (e:=169) (k:= .i64) aa rfl hx7) ?_
 refine aR.cl aa false 3 [0,1,5,20,21,22] [] ?_
 obtain⟨x8,hx8,h⟩:=bind_some h
 refine aR.step (aG (L:=aB) (f:=ar) (ti:=dd) (tj:=cH) (e:=169) (k:= .i64) aa rfl hx8) ?_
 refine aR.cl aa false 1 [0,1,5,20,24] [] ?_
 obtain⟨x9,hx9,h⟩:=bind_some h
 refine aR.step (xc A1 (pF x7 x8 _ hx9)) ?_
 refine aR.cl aa false 1 [0,1,5,26] [] ?_
 refine aR.nx ?_
 refine ao h (fun h=> ?_) fun h=> ?_
 refine az aa [4] [] ?_
 refine ag ?_
 obtain rfl:=inj h
 exact bm (aU (aU (bm (aU (aD (f1 fv))))))
 refine ai ?_
 obtain rfl:=inj h
 exact bT (bZ (Le.aq))
 refine aF ?_
 refine ab.cl aa 3 [0,1,5] [] ?_
 refine ab.nil ?_
 obtain rfl:=inj h
 exact bZ (Le.aq)
 refine aQ ?_
 obtain rfl:=inj h
 exact cD (cF (cE (bZ (Le.aq))))
 refine az aa [4] [] ?_
 refine ag ?_
 obtain rfl:=inj h
 exact aD (f1 fv)
theorem AJ:a8 Tryz.prog 139:=ax Tryz.func139 (by kernel_rfl) rfl
noncomputable def gh(aA:Place)(aB:Place):Option (Bool):=
 (bif(!(aA.Code.toList==aB.Code.toList))then some false else(bif(aA.Class !=aB.Class)then some false else((fK aA.Years aB.Years).bind fun x1=>(bif(!x1)then some false else((ix aA.Names aB.Names).bind fun x2=>(bif(!x2)then some false else some true))))))
theorem oG(aA:Place)(aB:Place)(r:Bool)(h:gh aA aB=some r):aH Tryz.prog 82 [.v (.agg (tc ad aA)),.v (.agg (tc ad aB))] ⟨[.v (vb r)],[],false⟩:=by
 refine au Tryz.func82 rfl [(.tmp 4)] rfl (fun r=>⟨[.v (vb r)],[],false⟩) (r:=r) ?_
 unfold gh at h
 refine az aa [2,3] [2,3] ?_
 refine ac ?_
 refine az aa [2,3,9] [2,3] ?_
 refine ao h (fun h=> ?_) fun h=> ?_
 refine az aa [4] [] ?_
 refine ag ?_
 obtain rfl:=inj h
 exact bw (aD (f1 fv))
 refine ai ?_
 refine aY ?_
 refine ac ?_
 refine az aa [2,3,14] [2,3] ?_
 refine ao h (fun h=> ?_) fun h=> ?_
 refine az aa [4] [] ?_
 refine ag ?_
 obtain rfl:=inj h
 exact bw (aD (f1 fv))
 refine ai ?_
 refine aY ?_
 refine ac ?_
 refine sr ?_
 refine ab.cl aa 4 [2,3,16,18] [2,3] ?_
 obtain⟨x1,hx1,h⟩:=bind_some h
 refine ab.ls (xc sM (jA aA.Years aB.Years _ hx1)) ?_
 refine bO aa 1 [2,3,20] [2,3] ?_
 refine ao h (fun h=> ?_) fun h=> ?_
 refine az aa [4] [] ?_
 refine ag ?_
 obtain rfl:=inj h
 exact bw (aD (f1 fv))
 refine ai ?_
 refine aY ?_
 refine ac ?_
 refine sr ?_
 refine ab.ck aa 4 ⟨27,[(22,vl ar aA.Names),(24,vl ar aB.Names)],[]⟩ ?_
 obtain⟨x2,hx2,h⟩:=bind_some h
 refine ab.ls (xc AJ (oF aA.Names aB.Names _ hx2)) ?_
 refine bO aa 1 [26] [] ?_
 refine ao h (fun h=> ?_) fun h=> ?_
 refine az aa [4] [] ?_
 refine ag ?_
 obtain rfl:=inj h
 exact bw (aD (f1 fv))
 refine ai ?_
 refine aY ?_
 refine az aa [4] [] ?_
 refine ag ?_
 obtain rfl:=inj h
 exact aD (f1 fv)
theorem Cz:a8 Tryz.prog 82:=ax Tryz.func82 (by kernel_rfl) rfl
noncomputable def gA(aA:(List Place))(aB:(List Place)):Option (Bool):=
 (bif((aA.length:Int) !=(aB.length:Int))then some false else(((cW (aA.length:Int) (fun(i3:Int) (_:Unit)=>((at' aA i3).bind fun x7=>((at' aB i3).bind fun x8=>((gh x7 x8).bind fun x9=>(bif(!x9)then some (.inr (.inr false))else some (.inl ())))))) (fun(_:Unit)=> .inl ()) 0 ())).bind (Sum.elim (fun(_:Unit)=>some true) some)))
theorem nU(aA:(List Place))(aB:(List Place))(r:Bool)(h:gA aA aB=some r):aH Tryz.prog 37 [.v (vl ad aA),.v (vl ad aB)] ⟨[.v (vb r)],[],false⟩:=by
 refine au Tryz.func37 rfl [(.tmp 4)] rfl (fun r=>⟨[.v (vb r)],[],false⟩) (r:=r) ?_
 unfold gA at h
 refine az aa [0,1] [] ?_
 refine ac ?_
 refine az aa [0,1,10] [] ?_
 refine ao h (fun h=> ?_) fun h=> ?_
 refine az aa [4] [] ?_
 refine ag ?_
 obtain rfl:=inj h
 exact bw (aD (f1 fv))
 refine ai ?_
 refine aY ?_
 refine ac ?_
 refine az aa [0,1,5] [] ?_
 refine bi (r:=r) h (fun j1=>⟨27,[],[]⟩) (fun v2 h=> ?_) (fun j1 h=> ?_)
 refine ay (a:=v2) ?_
 refine a6 (r:=v2) (s:=(0,())) _ (fun s3=>⟨27,[(0,vl ad aA),(1,vl ad aB),(5,vi s3.1)],[]⟩) _ (Le.aq) h (fun s3 v4 h=> ?_)
 refine ac ?_
 refine az aa [0,1,5,14] [] ?_
 refine ao h (fun h=> ?_) fun h=> ?_
 refine ai ?_
 refine aY ?_
 refine ac ?_
 refine bn (r:=v4) h (fun j5=>⟨27,[(0,vl ad aA),(1,vl ad aB),(5,vi s3.1)],[]⟩) (fun v6 h=> ?_) (fun j5 h=> ?_)
 refine ay (a:=v6) ?_
 refine ac ?_
 refine cL mixed ?_
 refine aR.cl aa false 2 [0,1,5,17,18] [] ?_
 obtain⟨x7,hx7,h⟩:=bind_some h
 refine aR.step (aG (L:=aA) (f:=ad) (ti:=cP) (tj:=cd) (e:=91) (k:= .i64) aa rfl hx7) ?_
 refine aR.cl aa false 3 [0,1,5,20,21,22] [] ?_
 obtain⟨x8,hx8,h⟩:=bind_some h
 refine aR.step (aG (L:=aB) (f:=ad) (ti:=cP) (tj:=cd) (e:=91) (k:= .i64) aa rfl hx8) ?_
 refine aR.cl aa false 1 [0,1,5,20,24] [] ?_
 obtain⟨x9,hx9,h⟩:=bind_some h
 refine aR.step (xc Cz (oG x7 x8 _ hx9)) ?_
 refine aR.cl aa false 1 [0,1,5,26] [] ?_
 refine aR.nx ?_
 refine ao h (fun h=> ?_) fun h=> ?_
 refine az aa [4] [] ?_
 refine ag ?_
 obtain rfl:=inj h
 exact bm (aU (aU (bm (aU (aD (f1 fv))))))
 refine ai ?_
 obtain rfl:=inj h
 exact bT (bZ (Le.aq))
 refine aF ?_
 refine ab.cl aa 3 [0,1,5] [] ?_
 refine ab.nil ?_
 obtain rfl:=inj h
 exact bZ (Le.aq)
 refine aQ ?_
 obtain rfl:=inj h
 exact cD (cF (cE (bZ (Le.aq))))
 refine az aa [4] [] ?_
 refine ag ?_
 obtain rfl:=inj h
 exact aD (f1 fv)
theorem Cg:a8 Tryz.prog 37:=ax Tryz.func37 (by kernel_rfl) rfl
noncomputable def gV(aA:aw)(aB:aw):Option (Bool):=
 (bif(!(aA.Child.toList==aB.Child.toList))then some false else(bif(!(aA.Parent.toList==aB.Parent.toList))then some false else((fK aA.Years aB.Years).bind fun x1=>(bif(!x1)then some false else some true))))
theorem pE(aA:aw)(aB:aw)(r:Bool)(h:gV aA aB=some r):aH Tryz.prog 83 [.v (.agg (tc ae aA)),.v (.agg (tc ae aB))] ⟨[.v (vb r)],[],false⟩:=by
 refine au Tryz.func83 rfl [(.tmp 4)] rfl (fun r=>⟨[.v (vb r)],[],false⟩) (r:=r) ?_
 unfold gV at h
 refine az aa [2,3] [2,3] ?_
 refine ac ?_
 refine az aa [2,3,9] [2,3] ?_
 refine ao h (fun h=> ?_) fun h=> ?_
 refine az aa [4] [] ?_
 refine ag ?_
 obtain rfl:=inj h
 exact bw (aD (f1 fv))
 refine ai ?_
 refine aY ?_
 refine ac ?_
 refine az aa [2,3,14] [2,3] ?_
 refine ao h (fun h=> ?_) fun h=> ?_
 refine az aa [4] [] ?_
 refine ag ?_
 obtain rfl:=inj h
 exact bw (aD (f1 fv))
 refine ai ?_
 refine aY ?_
 refine ac ?_
 refine sr ?_
 refine ab.cl aa 4 [16,18] [] ?_
 obtain⟨x1,hx1,h⟩:=bind_some h
 refine ab.ls (xc sM (jA aA.Years aB.Years _ hx1)) ?_
 refine bO aa 1 [20] [] ?_
 refine ao h (fun h=> ?_) fun h=> ?_
 refine az aa [4] [] ?_
 refine ag ?_
 obtain rfl:=inj h
 exact bw (aD (f1 fv))
 refine ai ?_
 refine aY ?_
 refine iR aa ⟨21,[(4,vb true)],[]⟩ ?_
 refine ag ?_
 obtain rfl:=inj h
 exact aD (f1 fv)
theorem CA:a8 Tryz.prog 83:=ax Tryz.func83 (by kernel_rfl) rfl
noncomputable def iw(aA:(List aw))(aB:(List aw)):Option (Bool):=
 (bif((aA.length:Int) !=(aB.length:Int))then some false else(((cW (aA.length:Int) (fun(i3:Int) (_:Unit)=>((at' aA i3).bind fun x7=>((at' aB i3).bind fun x8=>((gV x7 x8).bind fun x9=>(bif(!x9)then some (.inr (.inr false))else some (.inl ())))))) (fun(_:Unit)=> .inl ()) 0 ())).bind (Sum.elim (fun(_:Unit)=>some true) some)))
theorem oE(aA:(List aw))(aB:(List aw))(r:Bool)(h:iw aA aB=some r):aH Tryz.prog 38 [.v (vl ae aA),.v (vl ae aB)] ⟨[.v (vb r)],[],false⟩:=by
 refine au Tryz.func38 rfl [(.tmp 4)] rfl (fun r=>⟨[.v (vb r)],[],false⟩) (r:=r) ?_
 unfold iw at h
 refine az aa [0,1] [] ?_
 refine ac ?_
 refine az aa [0,1,10] [] ?_
 refine ao h (fun h=> ?_) fun h=> ?_
 refine az aa [4] [] ?_
 refine ag ?_
 obtain rfl:=inj h
 exact bw (aD (f1 fv))
 refine ai ?_
 refine aY ?_
 refine ac ?_
 refine az aa [0,1,5] [] ?_
 refine bi (r:=r) h (fun j1=>⟨27,[],[]⟩) (fun v2 h=> ?_) (fun j1 h=> ?_)
 refine ay (a:=v2) ?_
 refine a6 (r:=v2) (s:=(0,())) _ (fun s3=>⟨27,[(0,vl ae aA),(1,vl ae aB),(5,vi s3.1)],[]⟩) _ (Le.aq) h (fun s3 v4 h=> ?_)
 refine ac ?_
 refine az aa [0,1,5,14] [] ?_
 refine ao h (fun h=> ?_) fun h=> ?_
 refine ai ?_
 refine aY ?_
 refine ac ?_
 refine bn (r:=v4) h (fun j5=>⟨27,[(0,vl ae aA),(1,vl ae aB),(5,vi s3.1)],[]⟩) (fun v6 h=> ?_) (fun j5 h=> ?_)
 refine ay (a:=v6) ?_
 refine ac ?_
 refine cL mixed ?_
 refine aR.cl aa false 2 [0,1,5,17,18] [] ?_
 obtain⟨x7,hx7,h⟩:=bind_some h
 refine aR.step (aG (L:=aA) (f:=ae) (ti:=dp) (tj:=dq) (e:=85) (k:= .i64) aa rfl hx7) ?_
 refine aR.cl aa false 3 [0,1,5,20,21,22] [] ?_
 obtain⟨x8,hx8,h⟩:=bind_some h
 refine aR.step (aG (L:=aB) (f:=ae) (ti:=dp) (tj:=dq) (e:=85) (k:= .i64) aa rfl hx8) ?_
 refine aR.cl aa false 1 [0,1,5,20,24] [] ?_
 obtain⟨x9,hx9,h⟩:=bind_some h
 refine aR.step (xc CA (pE x7 x8 _ hx9)) ?_
 refine aR.cl aa false 1 [0,1,5,26] [] ?_
 refine aR.nx ?_
 refine ao h (fun h=> ?_) fun h=> ?_
 refine az aa [4] [] ?_
 refine ag ?_
 obtain rfl:=inj h
 exact bm (aU (aU (bm (aU (aD (f1 fv))))))
 refine ai ?_
 obtain rfl:=inj h
 exact bT (bZ (Le.aq))
 refine aF ?_
 refine ab.cl aa 3 [0,1,5] [] ?_
 refine ab.nil ?_
 obtain rfl:=inj h
 exact bZ (Le.aq)
 refine aQ ?_
 obtain rfl:=inj h
 exact cD (cF (cE (bZ (Le.aq))))
 refine az aa [4] [] ?_
 refine ag ?_
 obtain rfl:=inj h
 exact aD (f1 fv)
theorem Ch:a8 Tryz.prog 38:=ax Tryz.func38 (by kernel_rfl) rfl
noncomputable def dZ(aA:World)(aB:World):Option (Bool):=
 ((gA aA.Places aB.Places).bind fun x1=>(bif(!x1)then some false else((iw aA.Links aB.Links).bind fun x2=>(bif(!x2)then some false else some true))))
theorem gi(aA:World)(aB:World)(r:Bool)(h:dZ aA aB=some r):aH Tryz.prog 13 [.v (.agg (tc ak aA)),.v (.agg (tc ak aB))] ⟨[.v (vb r)],[],false⟩:=by
 refine au Tryz.func13 rfl [(.tmp 4)] rfl (fun r=>⟨[.v (vb r)],[],false⟩) (r:=r) ?_
 unfold dZ at h
 refine az aa [2,3] [2,3] ?_
 refine ac ?_
 refine sr ?_
 refine ab.cl aa 4 [2,3,6,8] [2,3] ?_
 obtain⟨x1,hx1,h⟩:=bind_some h
 refine ab.ls (xc Cg (nU aA.Places aB.Places _ hx1)) ?_
 refine bO aa 1 [2,3,10] [2,3] ?_
 refine ao h (fun h=> ?_) fun h=> ?_
 refine az aa [4] [] ?_
 refine ag ?_
 obtain rfl:=inj h
 exact bw (aD (f1 fv))
 refine ai ?_
 refine aY ?_
 refine ac ?_
 refine sr ?_
 refine ab.cl aa 4 [12,14] [] ?_
 obtain⟨x2,hx2,h⟩:=bind_some h
 refine ab.ls (xc Ch (oE aA.Links aB.Links _ hx2)) ?_
 refine bO aa 1 [16] [] ?_
 refine ao h (fun h=> ?_) fun h=> ?_
 refine az aa [4] [] ?_
 refine ag ?_
 obtain rfl:=inj h
 exact bw (aD (f1 fv))
 refine ai ?_
 refine aY ?_
 refine az aa [4] [] ?_
 refine ag ?_
 obtain rfl:=inj h
 exact aD (f1 fv)
theorem sJ:a8 Tryz.prog 13:=ax Tryz.func13 (by kernel_rfl) rfl
noncomputable def fN(aA:Span):Option (Span):=
 some aA
theorem jB(aA:Span)(r:Span)(h:fN aA=some r):aH Tryz.prog 133 [.v (.agg (tc gp aA))] ⟨[.v (.agg (tc gp r))],[],false⟩:=by
 refine au Tryz.func133 rfl [(.cell 2 83)] rfl (fun r=>⟨[.v (.agg (tc gp r))],[],false⟩) (r:=r) ?_
 unfold fN at h
 refine az aa [1,2] [1,2] ?_
 refine az aa [1,2,3] [1,2,3] ?_
 refine az aa [1,2,3] [1,2,3] ?_
 refine az aa [2,3] [2,3] ?_
 refine az aa [2] [2] ?_
 refine ag ?_
 obtain rfl:=inj h
 exact aD (f1 (fc aa))
theorem sK:a8 Tryz.prog 133:=ax Tryz.func133 (by kernel_rfl) rfl
noncomputable def hG(aA:Name):Option (Name):=
 ((fN aA.Years).bind fun x1=>some (Name.mk aA.Text aA.Language aA.Status x1))
theorem pJ(aA:Name)(r:Name)(h:hG aA=some r):aH Tryz.prog 179 [.v (.agg (tc ar aA))] ⟨[.v (.agg (tc ar r))],[],false⟩:=by
 refine au Tryz.func179 rfl [(.cell 2 169)] rfl (fun r=>⟨[.v (.agg (tc ar r))],[],false⟩) (r:=r) ?_
 unfold hG at h
 refine az aa [1,2] [1,2] ?_
 refine az aa [1,2,3] [1,2,3] ?_
 refine az aa [1,2,3] [1,2,3] ?_
 refine az aa [1,2,3] [1,2,3] ?_
 refine az aa [1,2,3] [1,2,3] ?_
 refine sr ?_
 refine ab.cl aa 2 [2,3,14] [2,3] ?_
 obtain⟨x1,hx1,h⟩:=bind_some h
 refine ab.ls (xc sK (jB aA.Years _ hx1)) ?_
 refine bO aa 2 [2,3] [2,3] ?_
 refine az aa [2] [2] ?_
 refine ag ?_
 obtain rfl:=inj h
 exact aD (f1 (fc aa))
theorem AY:a8 Tryz.prog 179:=ax Tryz.func179 (by kernel_rfl) rfl
noncomputable def iB(aA:(List Name)):Option ((List Name)):=
 ((l8 (Name.mk (ByteArray.mk #[]) (ByteArray.mk #[]) 0 (Span.mk 0 0)) (aA.length:Int)).bind fun x1=>(((jx (aA.length:Int) (fun(i4:Int) (s4:(List Name))=>((at' aA i4).bind fun x8=>((hG x8).bind fun x9=>((at' s4 i4).bind fun _=>some (List.set s4 (Int.toNat i4) x9))))) (fun(s4:(List Name))=>s4) 0 x1)).bind fun(j2:(List Name))=>some j2))
theorem oL(aA:(List Name))(r:(List Name))(h:iB aA=some r):aH Tryz.prog 134 [.v (vl ar aA)] ⟨[.own 169 5 r.length (r.map ar)],[],false⟩:=by
 refine au Tryz.func134 rfl [(.tmp 2)] rfl (fun r=>⟨[.own 169 5 r.length (r.map ar)],[],false⟩) (r:=r) ?_
 unfold iB at h
 refine az aa [0] [] ?_
 refine sr ?_
 refine ab.cl aa 2 [0,6] [] ?_
 obtain⟨x1,hx1,h⟩:=bind_some h
 refine ab.ls (Ae (z:=(Name.mk (ByteArray.mk #[]) (ByteArray.mk #[]) 0 (Span.mk 0 0))) (f:=ar) (ti:=dd) (tj:=cH) (e:=169) (m:=5) (k:= .i64) (k':= .i64) hx1 aa rfl rfl (zs:=[.string (ByteArray.mk #[]),.string (ByteArray.mk #[]),.int .i64 0,.int .i64 0,.int .i64 0])) ?_
 refine bO aa 1 [0,3] [7] ?_
 refine ac ?_
 refine az aa [0,3,4] [7] ?_
 refine a7 h (fun j2=>⟨23,[(3,.own 3)],[(3,oa 169 5 ar j2)]⟩) (fun v3 h=> ?_) (fun j2 h=> ?_)
 refine ay (a:=v3) ?_
 refine a6 (r:=v3) (s:=(0,x1)) _ (fun s4=>⟨23,[(0,vl ar aA),(3,.own 3),(4,vi s4.1)],[(3,oa 169 5 ar s4.2)]⟩) _ (Le.rr [7] [(7,3)]) h (fun s4 v5 h=> ?_)
 refine ac ?_
 refine az aa [0,3,4,11] [3] ?_
 refine ao h (fun h=> ?_) fun h=> ?_
 refine ai ?_
 refine aY ?_
 refine ac ?_
 refine a7 h (fun j6=>⟨23,[(0,vl ar aA),(3,.own 3),(4,vi s4.1)],[(3,oa 169 5 ar j6)]⟩) (fun v7 h=> ?_) (fun j6 h=> ?_)
 refine ay (a:=v7) ?_
 refine aF ?_
 refine ab.cl aa 4 [0,3,4,14,15,16,17] [3] ?_
 obtain⟨x8,hx8,h⟩:=bind_some h
 refine ab.ls (aG (L:=aA) (f:=ar) (ti:=BO) (tj:=xE) (e:=190) (k:= .i64) aa rfl hx8) ?_
 refine ab.cl aa 1 [0,3,4,14,15,19] [3] ?_
 obtain⟨x9,hx9,h⟩:=bind_some h
 refine ab.ls (xc AY (pJ x8 _ hx9)) ?_
 obtain⟨x10,hx10,h⟩:=bind_some h
 refine ab.ls (bo (d:=3) (L:=s4.2) (f:=ar) (ti:=dd) (tj:=cH) (e:=169) (e':=169) (m:=5) (k:= .i64) aa rfl hx10) ?_
 refine ab.bx (cC (d:=3) (m:=5) (j:=0) (L:=s4.2) (f:=ar) (x:=x9) (z:=x10) (ti:=cH) (e:=169) (ts:=[.str x9.Text,.str x9.Language,.int .i64 x9.Status,.int .i64 x9.Years.From,.int .i64 x9.Years.To]) (vs:=[vs x9.Text,vs x9.Language,vi x9.Status,vi x9.Years.From,vi x9.Years.To]) (v:= .agg (tc ar x9)) aa rfl rfl hx10) ?_
 refine ab.nil ?_
 obtain rfl:=inj h
 exact bT (fu (Le.aq))
 refine aF ?_
 refine ab.cl aa 3 [0,3,4] [3] ?_
 refine ab.nil ?_
 obtain rfl:=inj h
 exact bZ (Le.aq)
 refine aQ ?_
 obtain rfl:=inj h
 exact cD (cF (cE (fu (Le.aq))))
 refine az aa [2] [3] ?_
 refine ag ?_
 obtain rfl:=inj h
 exact aD (f1 (fo bu))
theorem AH:a8 Tryz.prog 134:=ax Tryz.func134 (by kernel_rfl) rfl
noncomputable def gl(aA:Place):Option (Place):=
 ((fN aA.Years).bind fun x1=>((iB aA.Names).bind fun x2=>some (Place.mk aA.Code aA.Class x1 x2)))
theorem oM(aA:Place)(r:Place)(h:gl aA=some r):aH Tryz.prog 75 [.v (.agg (tc ad aA))] ⟨[.part [vs r.Code,vi r.Class,vi r.Years.From,vi r.Years.To] [] (oa 169 5 ar r.Names)],[],false⟩:=by
 refine au Tryz.func75 rfl [(.cell 2 91)] rfl (fun r=>⟨[.part [vs r.Code,vi r.Class,vi r.Years.From,vi r.Years.To] [] (oa 169 5 ar r.Names)],[],false⟩) (r:=r) ?_
 unfold gl at h
 refine az aa [1,2] [1,2] ?_
 refine az aa [1,2,3] [1,2,3] ?_
 refine az aa [1,2,3] [1,2,3] ?_
 refine az aa [1,2,3] [1,2,3] ?_
 refine sr ?_
 refine ab.cl aa 2 [1,2,3,11] [1,2,3] ?_
 obtain⟨x1,hx1,h⟩:=bind_some h
 refine ab.ls (xc sK (jB aA.Years _ hx1)) ?_
 refine bO aa 2 [1,2,3] [1,2,3] ?_
 refine sr ?_
 refine ab.cl aa 2 [2,3,15] [2,3] ?_
 obtain⟨x2,hx2,h⟩:=bind_some h
 refine ab.ls (xc AH (oL aA.Names _ hx2)) ?_
 refine bO aa 2 [2,3] [2,3,16] ?_
 refine iR aa ⟨19,[(2,.ref 2 0)],[(2,.box [vs aA.Code,vi aA.Class,vi x1.From,vi x1.To,.own 16]),(16,oa 169 5 ar x2)]⟩ ?_
 refine ag ?_
 obtain rfl:=inj h
 exact aD (f1 (Bl (d:=16) [vs aA.Code,vi aA.Class,vi x1.From,vi x1.To] [] (cI aa (d:=2) (cs:=[vs aA.Code,vi aA.Class,vi x1.From,vi x1.To,.own 16]) (ti:=cd) (by kernel_rfl) (by kernel_rfl) (by kernel_rfl) (by kernel_rfl)) (by kernel_rfl) (b5 bu _) rfl rfl SV.et SV.et (by kernel_rfl)))
theorem Cw:a8 Tryz.prog 75:=ax Tryz.func75 (by kernel_rfl) rfl
noncomputable def fr(aA:(List Place)):Option ((List Place)):=
 ((l8 (Place.mk (ByteArray.mk #[]) 0 (Span.mk 0 0) ([]:List Name)) (aA.length:Int)).bind fun x1=>(((jx (aA.length:Int) (fun(i4:Int) (s4:(List Place))=>((at' aA i4).bind fun x8=>((gl x8).bind fun x9=>((at' s4 i4).bind fun _=>some (List.set s4 (Int.toNat i4) x9))))) (fun(s4:(List Place))=>s4) 0 x1)).bind fun(j2:(List Place))=>some j2))
theorem kC(aA:(List Place))(r:(List Place))(h:fr aA=some r):aH Tryz.prog 34 [.v (vl ad aA)] ⟨[.deep 91 5 r.length [.flat,.flat,.flat,.flat,(.sl 169 5 [.flat,.flat,.flat,.flat,.flat])] (r.map ad)],[],false⟩:=by
 refine au Tryz.func34 rfl [(.tmp 2)] rfl (fun r=>⟨[.deep 91 5 r.length [.flat,.flat,.flat,.flat,(.sl 169 5 [.flat,.flat,.flat,.flat,.flat])] (r.map ad)],[],false⟩) (r:=r) ?_
 unfold fr at h
 refine sr ?_
 refine ab.cl aa 1 [2,0] [2] ?_
 refine ab.le (Le.qx (d:=2) (e:=91) (m:=5) (ss:=[.flat,.flat,.flat,.flat,(.sl 169 5 [.flat,.flat,.flat,.flat,.flat])]) (by kernel_rfl) (by kernel_rfl)) ?_
 refine ab.nx ?_
 refine sr ?_
 refine ab.cl aa 2 [0,6] [] ?_
 obtain⟨x1,hx1,h⟩:=bind_some h
 refine ab.ls (vJ (z:=(Place.mk (ByteArray.mk #[]) 0 (Span.mk 0 0) ([]:List Name))) (f:=ad) (ti:=cP) (tj:=cd) (e:=91) (m:=5) (k:= .i64) (k':= .i64) (ss:=[.flat,.flat,.flat,.flat,(.sl 169 5 [.flat,.flat,.flat,.flat,.flat])]) (zs:=[.string (ByteArray.mk #[]),.int .i64 0,.int .i64 0,.int .i64 0,.slice none 0 0]) hx1 aa rfl rfl) ?_
 refine bO aa 1 [0,3] [7] ?_
 refine ac ?_
 refine az aa [0,3,4] [7] ?_
 refine a7 h (fun j2=>⟨23,[(3,.own 3)],[(3,.deep 91 5 j2.length [.flat,.flat,.flat,.flat,(.sl 169 5 [.flat,.flat,.flat,.flat,.flat])] (j2.map ad))]⟩) (fun v3 h=> ?_) (fun j2 h=> ?_)
 refine ay (a:=v3) ?_
 refine a6 (r:=v3) (s:=(0,x1)) _ (fun s4=>⟨23,[(0,vl ad aA),(3,.own 3),(4,vi s4.1)],[(3,.deep 91 5 s4.2.length [.flat,.flat,.flat,.flat,(.sl 169 5 [.flat,.flat,.flat,.flat,.flat])] (s4.2.map ad))]⟩) _ (Le.rr [7] [(7,3)]) h (fun s4 v5 h=> ?_)
 refine ac ?_
 refine az aa [0,3,4,11] [3] ?_
 refine ao h (fun h=> ?_) fun h=> ?_
 refine ai ?_
 refine aY ?_
 refine ac ?_
 refine a7 h (fun j6=>⟨23,[(0,vl ad aA),(3,.own 3),(4,vi s4.1)],[(3,.deep 91 5 j6.length [.flat,.flat,.flat,.flat,(.sl 169 5 [.flat,.flat,.flat,.flat,.flat])] (j6.map ad))]⟩) (fun v7 h=> ?_) (fun j6 h=> ?_)
 refine ay (a:=v7) ?_
 refine aF ?_
 refine ab.cl aa 4 [0,3,4,14,15,16,17] [3] ?_
 obtain⟨x8,hx8,h⟩:=bind_some h
 refine ab.ls (aG (L:=aA) (f:=ad) (ti:=BM) (tj:=xB) (e:=100) (k:= .i64) aa rfl hx8) ?_
 refine ab.cl aa 1 [0,3,4,14,15,19] [3] ?_
 obtain⟨x9,hx9,h⟩:=bind_some h
 refine ab.ls (xc Cw (oM x8 _ hx9)) ?_
 obtain⟨x10,hx10,h⟩:=bind_some h
 refine ab.ls (bF (d:=3) (L:=s4.2) (f:=ad) (ti:=cP) (tj:=cd) (e:=91) (e':=91) (m:=5) (k:= .i64) (ss:=[.flat,.flat,.flat,.flat,(.sl 169 5 [.flat,.flat,.flat,.flat,.flat])]) aa rfl hx10) ?_
 refine ab.bx (e8 (d:=3) (m:=5) (j:=0) (L:=s4.2) (f:=ad) (x:=x9) (z:=x10) (ti:=cd) (e:=91) (ss:=[.flat,.flat,.flat,.flat,(.sl 169 5 [.flat,.flat,.flat,.flat,.flat])]) (ss2:=[.flat,.flat,.flat,.flat,(.sl 169 5 [.flat,.flat,.flat,.flat,.flat])]) (ts:=[.str x9.Code,.int .i64 x9.Class,.int .i64 x9.Years.From,.int .i64 x9.Years.To,.sl x9.Names.length (x9.Names.map ar)]) (vs:=[vs x9.Code,vi x9.Class,vi x9.Years.From,vi x9.Years.To,.own 20]) (v:= .agg [vs x9.Code,vi x9.Class,vi x9.Years.From,vi x9.Years.To,.own 20]) (ds:=[20]) aa rfl rfl hx10 (.cons _ _ _ [] _ _ _ _ (.flat (.str x9.Code) rfl) (.cons _ _ _ [] _ _ _ _ (.flat (.int .i64 x9.Class) rfl) (.cons _ _ _ [] _ _ _ _ (.flat (.int .i64 x9.Years.From) rfl) (.cons _ _ _ [] _ _ _ _ (.flat (.int .i64 x9.Years.To) rfl) (.cons _ _ _ [20] _ _ _ _ (qq (d:=20) (e:=169) (m:=5) (n:=x9.Names.length) (es:=x9.Names.map ar) (ss:=[.flat,.flat,.flat,.flat,.flat]) (b5 bu _)) .nil (by decide)) (by decide)) (by decide)) (by decide)) (by decide))) ?_
 refine ab.nil ?_
 obtain rfl:=inj h
 exact bT (fu (Le.aq))
 refine aF ?_
 refine ab.cl aa 3 [0,3,4] [3] ?_
 refine ab.nil ?_
 obtain rfl:=inj h
 exact bZ (Le.aq)
 refine aQ ?_
 obtain rfl:=inj h
 exact cD (cF (cE (fu (Le.aq))))
 refine az aa [2] [3] ?_
 refine ag ?_
 obtain rfl:=inj h
 exact aD (f1 (xP (d:=3) (jb (by kernel_rfl)) (by kernel_rfl) (by kernel_rfl)))
theorem y4:a8 Tryz.prog 34:=ax Tryz.func34 (by kernel_rfl) rfl
noncomputable def gZ(aA:aw):Option (aw):=
 ((fN aA.Years).bind fun x1=>some (aw.mk aA.Child aA.Parent x1))
theorem pI(aA:aw)(r:aw)(h:gZ aA=some r):aH Tryz.prog 76 [.v (.agg (tc ae aA))] ⟨[.v (.agg (tc ae r))],[],false⟩:=by
 refine au Tryz.func76 rfl [(.cell 2 85)] rfl (fun r=>⟨[.v (.agg (tc ae r))],[],false⟩) (r:=r) ?_
 unfold gZ at h
 refine az aa [1,2] [1,2] ?_
 refine az aa [1,2,3] [1,2,3] ?_
 refine az aa [1,2,3] [1,2,3] ?_
 refine az aa [1,2,3] [1,2,3] ?_
 refine sr ?_
 refine ab.cl aa 2 [2,3,11] [2,3] ?_
 obtain⟨x1,hx1,h⟩:=bind_some h
 refine ab.ls (xc sK (jB aA.Years _ hx1)) ?_
 refine bO aa 2 [2,3] [2,3] ?_
 refine az aa [2] [2] ?_
 refine ag ?_
 obtain rfl:=inj h
 exact aD (f1 (fc aa))
theorem Cy:a8 Tryz.prog 76:=ax Tryz.func76 (by kernel_rfl) rfl
noncomputable def gk(aA:(List aw)):Option ((List aw)):=
 ((l8 (aw.mk (ByteArray.mk #[]) (ByteArray.mk #[]) (Span.mk 0 0)) (aA.length:Int)).bind fun x1=>(((jx (aA.length:Int) (fun(i4:Int) (s4:(List aw))=>((at' aA i4).bind fun x8=>((gZ x8).bind fun x9=>((at' s4 i4).bind fun _=>some (List.set s4 (Int.toNat i4) x9))))) (fun(s4:(List aw))=>s4) 0 x1)).bind fun(j2:(List aw))=>some j2))
theorem la(aA:(List aw))(r:(List aw))(h:gk aA=some r):aH Tryz.prog 35 [.v (vl ae aA)] ⟨[.own 85 4 r.length (r.map ae)],[],false⟩:=by
 refine au Tryz.func35 rfl [(.tmp 2)] rfl (fun r=>⟨[.own 85 4 r.length (r.map ae)],[],false⟩) (r:=r) ?_
 unfold gk at h
 refine az aa [0] [] ?_
 refine sr ?_
 refine ab.cl aa 2 [0,6] [] ?_
 obtain⟨x1,hx1,h⟩:=bind_some h
 refine ab.ls (Ae (z:=(aw.mk (ByteArray.mk #[]) (ByteArray.mk #[]) (Span.mk 0 0))) (f:=ae) (ti:=dp) (tj:=dq) (e:=85) (m:=4) (k:= .i64) (k':= .i64) hx1 aa rfl rfl (zs:=[.string (ByteArray.mk #[]),.string (ByteArray.mk #[]),.int .i64 0,.int .i64 0])) ?_
 refine bO aa 1 [0,3] [7] ?_
 refine ac ?_
 refine az aa [0,3,4] [7] ?_
 refine a7 h (fun j2=>⟨23,[(3,.own 3)],[(3,oa 85 4 ae j2)]⟩) (fun v3 h=> ?_) (fun j2 h=> ?_)
 refine ay (a:=v3) ?_
 refine a6 (r:=v3) (s:=(0,x1)) _ (fun s4=>⟨23,[(0,vl ae aA),(3,.own 3),(4,vi s4.1)],[(3,oa 85 4 ae s4.2)]⟩) _ (Le.rr [7] [(7,3)]) h (fun s4 v5 h=> ?_)
 refine ac ?_
 refine az aa [0,3,4,11] [3] ?_
 refine ao h (fun h=> ?_) fun h=> ?_
 refine ai ?_
 refine aY ?_
 refine ac ?_
 refine a7 h (fun j6=>⟨23,[(0,vl ae aA),(3,.own 3),(4,vi s4.1)],[(3,oa 85 4 ae j6)]⟩) (fun v7 h=> ?_) (fun j6 h=> ?_)
 refine ay (a:=v7) ?_
 refine aF ?_
 refine ab.cl aa 4 [0,3,4,14,15,16,17] [3] ?_
 obtain⟨x8,hx8,h⟩:=bind_some h
 refine ab.ls (aG (L:=aA) (f:=ae) (ti:=BN) (tj:=xC) (e:=103) (k:= .i64) aa rfl hx8) ?_
 refine ab.cl aa 1 [0,3,4,14,15,19] [3] ?_
 obtain⟨x9,hx9,h⟩:=bind_some h
 refine ab.ls (xc Cy (pI x8 _ hx9)) ?_
 obtain⟨x10,hx10,h⟩:=bind_some h
 refine ab.ls (bo (d:=3) (L:=s4.2) (f:=ae) (ti:=dp) (tj:=dq) (e:=85) (e':=85) (m:=4) (k:= .i64) aa rfl hx10) ?_
 refine ab.bx (cC (d:=3) (m:=4) (j:=0) (L:=s4.2) (f:=ae) (x:=x9) (z:=x10) (ti:=dq) (e:=85) (ts:=[.str x9.Child,.str x9.Parent,.int .i64 x9.Years.From,.int .i64 x9.Years.To]) (vs:=[vs x9.Child,vs x9.Parent,vi x9.Years.From,vi x9.Years.To]) (v:= .agg (tc ae x9)) aa rfl rfl hx10) ?_
 refine ab.nil ?_
 obtain rfl:=inj h
 exact bT (fu (Le.aq))
 refine aF ?_
 refine ab.cl aa 3 [0,3,4] [3] ?_
 refine ab.nil ?_
 obtain rfl:=inj h
 exact bZ (Le.aq)
 refine aQ ?_
 obtain rfl:=inj h
 exact cD (cF (cE (fu (Le.aq))))
 refine az aa [2] [3] ?_
 refine ag ?_
 obtain rfl:=inj h
 exact aD (f1 (fo di))
theorem y5:a8 Tryz.prog 35:=ax Tryz.func35 (by kernel_rfl) rfl
noncomputable def iC(aA:World):Option (World):=
 ((fr aA.Places).bind fun x1=>((gk aA.Links).bind fun x2=>some (World.mk x1 x2)))
theorem nb(aA:World)(r:World)(h:iC aA=some r):jE Tryz.prog 10 [.agg (tc ak aA)] [] [(3000000,.deep 91 5 r.Places.length [.flat,.flat,.flat,.flat,(.sl 169 5 [.flat,.flat,.flat,.flat,.flat])] (r.Places.map ad)),(3000001,oa 85 4 ae r.Links)] [.agg [.own 3000000,.own 3000001]]:=by
 refine iO Tryz.func10 rfl [(.cell 2 35)] rfl (fun r=>[(3000000,.deep 91 5 r.Places.length [.flat,.flat,.flat,.flat,(.sl 169 5 [.flat,.flat,.flat,.flat,.flat])] (r.Places.map ad)),(3000001,oa 85 4 ae r.Links)]) (fun r=>[.agg [.own 3000000,.own 3000001]]) (r:=r) (ci trivial (ci (b5 di _) jM)) ?_
 unfold iC at h
 refine az aa [1,2] [1,2] ?_
 refine az aa [1,2,3] [1,2,3] ?_
 refine sr ?_
 refine ab.cl aa 2 [1,2,3,5] [1,2,3] ?_
 obtain⟨x1,hx1,h⟩:=bind_some h
 refine ab.ls (xc y4 (kC aA.Places _ hx1)) ?_
 refine bO aa 2 [1,2,3] [1,2,3,6] ?_
 refine sr ?_
 refine ab.cl aa 2 [2,3,9] [2,3,6] ?_
 obtain⟨x2,hx2,h⟩:=bind_some h
 refine ab.ls (xc y5 (la aA.Links _ hx2)) ?_
 refine bO aa 2 [2,3] [2,3,6,10] ?_
 refine iR aa ⟨13,[(2,.ref 2 0)],[(2,.box [.own 6,.own 10]),(6,.deep 91 5 x1.length [.flat,.flat,.flat,.flat,(.sl 169 5 [.flat,.flat,.flat,.flat,.flat])] (x1.map ad)),(10,oa 85 4 ae x2)]⟩ ?_
 refine cM (Le.ve 6 3000000) ?_
 refine cM (Le.ve 10 3000001) ?_
 refine ag ?_
 obtain rfl:=inj h
 exact mb (fw aa)
theorem kb:a8 Tryz.prog 10:=ax Tryz.func10 (by kernel_rfl) rfl
noncomputable def ea(aA:World):Option (World):=
 ((fr aA.Places).bind fun x1=>((gk aA.Links).bind fun x2=>some (World.mk x1 x2)))
theorem ca(aA:World)(r:World)(h:ea aA=some r):aH Tryz.prog 10 [.v (.agg (tc ak aA))] ⟨[.v (.agg (tc ak r))],[],true⟩:=by
 refine au Tryz.func10 rfl [(.cell 2 35)] rfl (fun r=>⟨[.v (.agg (tc ak r))],[],true⟩) (r:=r) ?_
 unfold ea at h
 refine az aa [1,2] [1,2] ?_
 refine az aa [1,2,3] [1,2,3] ?_
 refine sr ?_
 refine ab.cl aa 2 [1,2,3,5] [1,2,3] ?_
 obtain⟨x1,hx1,h⟩:=bind_some h
 refine ab.ls (xc y4 (kC aA.Places _ hx1)) ?_
 refine bO aa 2 [1,2,3] [1,2,3,6] ?_
 refine sr ?_
 refine ab.cl aa 2 [2,3,9] [2,3,6] ?_
 obtain⟨x2,hx2,h⟩:=bind_some h
 refine ab.ls (xc y5 (la aA.Links _ hx2)) ?_
 refine bO aa 2 [2,3] [2,3,6,10] ?_
 refine az aa [2] [2,6,10] ?_
 refine cM (Le.xj (d:=6) (e:=91) (m:=5) (n:=x1.length) (ss:=[.flat,.flat,.flat,.flat,(.sl 169 5 [.flat,.flat,.flat,.flat,.flat])]) (es:=x1.map ad) (by kernel_rfl) (by kernel_rfl)) ?_
 refine cM (Le.rG (d:=10) (e:=85) (m:=4) (n:=x2.length) (es:=x2.map ae) (by kernel_rfl) (by kernel_rfl)) ?_
 refine ag ?_
 obtain rfl:=inj h
 exact aD (f1 (kV rfl (cI aa (d:=2) (cs:=[vl ad x1,vl ae x2]) (ti:=iN) (by kernel_rfl) (by kernel_rfl) (by kernel_rfl) (by kernel_rfl))))
end Go.Proofs.YtdejeagdkfokfaaGreatDoor.Sh
