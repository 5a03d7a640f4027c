/- Typed functions and the calls that do what they say. -/
import Derived.Test.YtdejeagdkfokfaaGreatDoorSE
import Derived.Test.YtdejeagdkfokfaaGreatDoorKA
import Derived.Test.YtdejeagdkfokfaaGreatDoorKC
import Derived.Test.YtdejeagdkfokfaaGreatDoorKD
import Derived.Test.YtdejeagdkfokfaaGreatDoorKO
import Derived.Test.YtdejeagdkfokfaaGreatDoorKS
import Derived.Test.YtdejeagdkfokfaaGreatDoorSN
import Derived.Test.YtdejeagdkfokfaaGreatDoorSW
import Derived.Test.YtdejeagdkfokfaaGreatDoorSX
import Derived.Test.YtdejeagdkfokfaaGreatDoorH1
import Derived.Test.YtdejeagdkfokfaaGreatDoorGA
namespace Go.Proofs.YtdejeagdkfokfaaGreatDoor.Sh
open Go.RowKit
set_option maxRecDepth 100000
set_option maxHeartbeats 4000000
def Dv:TI:=⟨1,24,.slice 5,[.sl ([]:List Int).length (([]:List Int).map (eI .u8))]⟩
def Dq:Tb:=[(2,ti2),(3,ti3),(4,ti4),(5,ti5),(9,gH),(22,BM),(23,BN),(25,Ds),(27,Dt),(32,cP),(33,dp),(35,iN),(37,Du),(44,Dv),(83,Dw),(85,dq),(89,dd),(91,cd),(97,Dx),(98,BO),(100,xB),(103,xC),(169,cH),(190,xE)]
theorem af:bf Tryz.prog Dq:=bf.cons ⟨by kernel_rfl,show Tryz.prog.underlying 2=some (.int .i64)from by kernel_rfl⟩ (bf.cons ⟨by kernel_rfl,show Tryz.prog.underlying 3=some (.int .i64)from by kernel_rfl⟩ (bf.cons ⟨by kernel_rfl,show Tryz.prog.underlying 4=some (.bool)from by kernel_rfl⟩ (bf.cons ⟨by kernel_rfl,show Tryz.prog.underlying 5=some (.int .u8)from by kernel_rfl⟩ (bf.cons ⟨by kernel_rfl,show Tryz.prog.underlying 9=some (.string)from by kernel_rfl⟩ (bf.cons ⟨by kernel_rfl,show Tryz.prog.underlying 22=some (.slice 100)from by kernel_rfl⟩ (bf.cons ⟨by kernel_rfl,show Tryz.prog.underlying 23=some (.slice 103)from by kernel_rfl⟩ (bf.cons ⟨by kernel_rfl,show structOf Tryz.prog 25=some [(0,22),(1,23)]from by kernel_rfl⟩ (bf.cons ⟨by kernel_rfl,show structOf Tryz.prog 27=some [(0,2),(1,2),(2,9),(3,9),(4,9),(5,9)]from by kernel_rfl⟩ (bf.cons ⟨by kernel_rfl,show Tryz.prog.underlying 32=some (.slice 91)from by kernel_rfl⟩ (bf.cons ⟨by kernel_rfl,show Tryz.prog.underlying 33=some (.slice 85)from by kernel_rfl⟩ (bf.cons ⟨by kernel_rfl,show structOf Tryz.prog 35=some [(0,32),(1,33)]from by kernel_rfl⟩ (bf.cons ⟨by kernel_rfl,show structOf Tryz.prog 37=some [(0,2),(1,2),(2,9),(3,9),(4,9),(5,9)]from by kernel_rfl⟩ (bf.cons ⟨by kernel_rfl,show Tryz.prog.underlying 44=some (.slice 5)from by kernel_rfl⟩ (bf.cons ⟨by kernel_rfl,show structOf Tryz.prog 83=some [(0,2),(1,2)]from by kernel_rfl⟩ (bf.cons ⟨by kernel_rfl,show structOf Tryz.prog 85=some [(0,9),(1,9),(2,83)]from by kernel_rfl⟩ (bf.cons ⟨by kernel_rfl,show Tryz.prog.underlying 89=some (.slice 169)from by kernel_rfl⟩ (bf.cons ⟨by kernel_rfl,show structOf Tryz.prog 91=some [(0,9),(1,2),(2,83),(4,89)]from by kernel_rfl⟩ (bf.cons ⟨by kernel_rfl,show structOf Tryz.prog 97=some [(0,2),(1,2)]from by kernel_rfl⟩ (bf.cons ⟨by kernel_rfl,show Tryz.prog.underlying 98=some (.slice 190)from by kernel_rfl⟩ (bf.cons ⟨by kernel_rfl,show structOf Tryz.prog 100=some [(0,9),(1,2),(2,97),(4,98)]from by kernel_rfl⟩ (bf.cons ⟨by kernel_rfl,show structOf Tryz.prog 103=some [(0,9),(1,9),(2,97)]from by kernel_rfl⟩ (bf.cons ⟨by kernel_rfl,show structOf Tryz.prog 169=some [(0,9),(1,9),(2,2),(3,83)]from by kernel_rfl⟩ (bf.cons ⟨by kernel_rfl,show structOf Tryz.prog 190=some [(0,9),(1,9),(2,2),(3,97)]from by kernel_rfl⟩ (bf.nil _))))))))))))))))))))))))
noncomputable def js(aW:World):Option (World):=
 ((hU aW.Places).bind fun x1=>((ed ([]:List aw) aW.Links).bind fun x3=>some (World.mk x1 x3)))
theorem p4(aW:World)(r:World)(h:js aW=some r):aH Tryz.prog 39 [.v (.agg (tc ak aW))] ⟨[.v (.agg (tc ak r))],[],true⟩:=by
 refine au Tryz.func39 rfl [(.cell 2 35)] rfl (fun r=>⟨[.v (.agg (tc ak r))],[],true⟩) (r:=r) ?_
 unfold js at h
 refine az af [1,2] [1,2] ?_
 refine ac ?_
 refine cL mixed ?_
 refine aR.cl af false 2 [1,2,4] [1,2] ?_
 obtain⟨x1,hx1,h⟩:=bind_some h
 refine aR.step (xc ze (lF aW.Places _ hx1)) ?_
 refine aR.cl af false 3 [2,5,6,8] [2,5,6] ?_
 refine aR.seq (by kernel_rfl) (by kernel_rfl) ?_
 obtain⟨x3,hx3,h⟩:=bind_some h
 refine ab.bx (bS (f:=ae) (t:=33) (ti:=dp) (tj:=dq) (zs:=[.string (ByteArray.mk #[]),.string (ByteArray.mk #[]),.int .i64 0,.int .i64 0]) (e:=85) (m:=4) (d:=6) (xv:=vl ae aW.Links) hx3 af rfl rfl rfl rfl (oe (fun _=>rfl))) ?_
 refine ab.ls (bk (v:= .agg [.own 5,.own 9]) af rfl) ?_
 refine bO af 1 [2] [2,5,9] ?_
 refine cM (Le.xj (d:=5) (e:=91) (m:=5) (n:=x1.length) (ss:=[.flat,.flat,.flat,.flat,(.sl 169 5 [.flat,.flat,.flat,.flat,.flat])]) (es:=x1.map ad) (by kernel_rfl) (by kernel_rfl)) ?_
 refine cM (Le.rG (d:=9) (e:=85) (m:=4) (n:=x3.length) (es:=x3.map ae) (by kernel_rfl) (by kernel_rfl)) ?_
 refine ag ?_
 obtain rfl:=inj h
 exact aD (f1 (kV rfl (cI af (d:=2) (cs:=[vl ad x1,vl ae x3]) (ti:=iN) (by kernel_rfl) (by kernel_rfl) (by kernel_rfl) (by kernel_rfl))))
theorem Ci:a8 Tryz.prog 39:=ax Tryz.func39 (by kernel_rfl) rfl
noncomputable def eJ(aW:World)(aC:Change):Option (World×Int):=
 ((eo aW aC).bind fun x1=>(bif(x1.2 !=0)then some ((World.mk ([]:List Place) ([]:List aw)),x1.2)else((js x1.1).bind fun x2=>some (x2,0))))
theorem jn(aW:World)(aC:Change)(r:World×Int)(h:eJ aW aC=some r):aH Tryz.prog 14 [.v (.agg (tc ak aW)),.v (.agg (tc ap aC))] ⟨[.v (.agg (tc ak r.1)),.v (vi r.2)],[],true⟩:=by
 refine au Tryz.func14 rfl [(.cell 4 35),(.tmp 5)] rfl (fun r=>⟨[.v (.agg (tc ak r.1)),.v (vi r.2)],[],true⟩) (r:=r) ?_
 unfold eJ at h
 refine az af [2,3,4] [2,3,4] ?_
 refine sr ?_
 refine ab.cl af 2 [4,9,10] [4] ?_
 obtain⟨x1,hx1,h⟩:=bind_some h
 refine ab.ls (xc Ce (oc aW aC _ hx1)) ?_
 refine bO af 6 [4,6,7] [4,6] ?_
 refine ac ?_
 refine az af [4,6,7,15] [4,6] ?_
 refine ao h (fun h=> ?_) fun h=> ?_
 refine sr ?_
 refine ab.ls (bk (v:= .agg [vl ad ([]:List Place),vl ae ([]:List aw)]) af rfl) ?_
 refine bO af 3 [4,5] [4] ?_
 refine ag ?_
 obtain rfl:=inj h
 exact bw (aD (f2 (kV rfl (cI af (d:=4) (cs:=[vl ad ([]:List Place),vl ae ([]:List aw)]) (ti:=iN) (by kernel_rfl) (by kernel_rfl) (by kernel_rfl) (by kernel_rfl))) ft))
 refine ai ?_
 refine aY ?_
 refine sr ?_
 refine ab.cl af 1 [4,18] [4] ?_
 obtain⟨x2,hx2,h⟩:=bind_some h
 refine ab.ls (xc Ci (p4 x1.1 _ hx2)) ?_
 refine bO af 2 [4,5] [4] ?_
 refine ag ?_
 obtain rfl:=inj h
 exact aD (f2 (kV rfl (cI af (d:=4) (cs:=[vl ad x2.Places,vl ae x2.Links]) (ti:=iN) (by kernel_rfl) (by kernel_rfl) (by kernel_rfl) (by kernel_rfl))) ft)
theorem yY:a8 Tryz.prog 14:=ax Tryz.func14 (by kernel_rfl) rfl
noncomputable def bh(aK:Int):Option (ByteArray):=
 (bif(decide (aK≤0))then some (ByteArray.mk #[109,48])else(((loop (fun(s3:Int×ByteArray)=>(bif(decide (s3.1>0))then((sE (strOfNums ([(IntKind.wrap .u8 (aJ (48+(Int.tmod s3.1 10))))]:List Int)) s3.2).bind fun x5=>some (.inl ((aJ (Int.tdiv s3.1 10)),x5)))else some (.inr s3.2))) (aK,(ByteArray.mk #[])))).bind fun(j1:ByteArray)=>((sE (ByteArray.mk #[109]) j1).bind fun x6=>some x6)))
theorem bX(aK:Int)(r:ByteArray)(h:bh aK=some r):aH Tryz.prog 65 [.v (vi aK)] ⟨[.v (vs r)],[],false⟩:=by
 refine au Tryz.func65 rfl [(.tmp 2)] rfl (fun r=>⟨[.v (vs r)],[],false⟩) (r:=r) ?_
 unfold bh at h
 refine az af [0] [] ?_
 refine ac ?_
 refine az af [0,5] [] ?_
 refine ao h (fun h=> ?_) fun h=> ?_
 refine az af [2] [] ?_
 refine ag ?_
 obtain rfl:=inj h
 exact bw (aD (f1 fv))
 refine ai ?_
 refine aY ?_
 refine az af [0,3] [] ?_
 refine ac ?_
 refine a7 h (fun j1=>⟨20,[(3,vs j1)],[]⟩) (fun v2 h=> ?_) (fun j1 h=> ?_)
 refine ay (a:=v2) ?_
 refine a6 (r:=v2) (s:=(aK,(ByteArray.mk #[]))) _ (fun s3=>⟨20,[(0,vi s3.1),(3,vs s3.2)],[]⟩) _ (Le.aq) h (fun s3 v4 h=> ?_)
 refine ac ?_
 refine az af [0,3,7] [] ?_
 refine ao h (fun h=> ?_) fun h=> ?_
 refine ai ?_
 refine aY ?_
 refine ay (a:=v4) ?_
 refine sr ?_
 refine ab.cl af 5 [0,3,12] [12] ?_
 refine ab.ls (vI (L:=([(IntKind.wrap .u8 (aJ (48+(Int.tmod s3.1 10))))]:List Int)) (d:=12) (e':=5) af rfl (e:=5) (ti:=Dv) (tj:=ti5) (tk:=gH)) ?_
 refine ab.cl af 1 [0,13,14] [] ?_
 obtain⟨x5,hx5,h⟩:=bind_some h
 refine ab.ls (B0 hx5 rfl) ?_
 refine bO af 1 [0,3] [] ?_
 refine aF ?_
 refine ab.cl af 3 [0,3] [] ?_
 refine ab.nil ?_
 obtain rfl:=inj h
 exact bT (bZ (Le.aq))
 refine aQ ?_
 obtain rfl:=inj h
 exact cD (cF (cE (fu (Le.aq))))
 refine sr ?_
 refine ab.cl af 1 [18] [] ?_
 obtain⟨x6,hx6,h⟩:=bind_some h
 refine ab.ls (B0 hx6 rfl) ?_
 refine bO af 1 [2] [] ?_
 refine ag ?_
 obtain rfl:=inj h
 exact aD (f1 fv)
theorem kK:a8 Tryz.prog 65:=ax Tryz.func65 (by kernel_rfl) rfl
noncomputable def eA(aA:(List Name))(aK:Int):Option (Int):=
 (((cW (aA.length:Int) (fun(i3:Int) (s3:Int)=>((at' aA i3).bind fun x7=>((bh s3).bind fun x8=>(bif(!(x7.Text.toList==x8.toList))then some (.inr (.inr (-1)))else((at' aA i3).bind fun x9=>((bh (aJ (s3+1))).bind fun x10=>(bif(!(x9.Language.toList==x10.toList))then some (.inr (.inr (-1)))else((at' aA i3).bind fun x11=>(bif(x11.Status !=(aJ ((aJ (s3+1))+1)))then some (.inr (.inr (-1)))else((at' aA i3).bind fun x12=>(bif(x12.Years.From !=(aJ ((aJ ((aJ (s3+1))+1))+1)))then some (.inr (.inr (-1)))else((at' aA i3).bind fun x13=>(bif(x13.Years.To !=(aJ ((aJ ((aJ ((aJ (s3+1))+1))+1))+1)))then some (.inr (.inr (-1)))else some (.inl (aJ ((aJ ((aJ ((aJ ((aJ (s3+1))+1))+1))+1))+1)))))))))))))))) (fun(s3:Int)=> .inl s3) 0 aK)).bind (Sum.elim (fun(j1:Int)=>some j1) some))
theorem m8(aA:(List Name))(aK:Int)(r:Int)(h:eA aA aK=some r):aH Tryz.prog 95 [.v (vl ar aA),.v (vi aK)] ⟨[.v (vi r)],[],false⟩:=by
 refine au Tryz.func95 rfl [(.tmp 4)] rfl (fun r=>⟨[.v (vi r)],[],false⟩) (r:=r) ?_
 unfold eA at h
 refine az af [0,1] [] ?_
 refine ac ?_
 refine az af [0,1,5] [] ?_
 refine bi (r:=r) h (fun j1=>⟨62,[(1,vi j1)],[]⟩) (fun v2 h=> ?_) (fun j1 h=> ?_)
 refine ay (a:=v2) ?_
 refine a6 (r:=v2) (s:=(0,aK)) _ (fun s3=>⟨62,[(0,vl ar aA),(1,vi s3.2),(5,vi s3.1)],[]⟩) _ (Le.aq) h (fun s3 v4 h=> ?_)
 refine ac ?_
 refine az af [0,1,5,9] [] ?_
 refine ao h (fun h=> ?_) fun h=> ?_
 refine ai ?_
 refine aY ?_
 refine ac ?_
 refine bn (r:=v4) h (fun j5=>⟨62,[(0,vl ar aA),(1,vi j5),(5,vi s3.1)],[]⟩) (fun v6 h=> ?_) (fun j5 h=> ?_)
 refine ay (a:=v6) ?_
 refine ac ?_
 refine ac ?_
 refine cL mixed ?_
 refine aR.cl af false 2 [0,1,5,12,13] [] ?_
 obtain⟨x7,hx7,h⟩:=bind_some h
 refine aR.step (aG (L:=aA) (f:=ar) (ti:=dd) (tj:=cH) (e:=169) (k:= .i64) af rfl hx7) ?_
 refine aR.cl af false 3 [0,1,5,16,17] [] ?_
 obtain⟨x8,hx8,h⟩:=bind_some h
 refine aR.step (xc kK (bX s3.2 _ hx8)) ?_
 refine aR.cl af false 1 [0,1,5,19] [] ?_
 refine aR.nx ?_
 refine ao h (fun h=> ?_) fun h=> ?_
 refine az af [4] [] ?_
 refine ag ?_
 obtain rfl:=inj h
 exact bw (bm (aU (aU (bm (aU (aD (f1 fv)))))))
 refine ai ?_
 refine aY ?_
 refine az af [0,1,5] [] ?_
 refine ac ?_
 refine ac ?_
 refine cL mixed ?_
 refine aR.cl af false 2 [0,1,5,22,23] [] ?_
 obtain⟨x9,hx9,h⟩:=bind_some h
 refine aR.step (aG (L:=aA) (f:=ar) (ti:=dd) (tj:=cH) (e:=169) (k:= .i64) af rfl hx9) ?_
 refine aR.cl af false 3 [0,1,5,26,27] [] ?_
 obtain⟨x10,hx10,h⟩:=bind_some h
 refine aR.step (xc kK (bX (aJ (s3.2+1)) _ hx10)) ?_
 refine aR.cl af false 1 [0,1,5,29] [] ?_
 refine aR.nx ?_
 refine ao h (fun h=> ?_) fun h=> ?_
 refine iR af ⟨62,[(4,vi (-1))],[]⟩ ?_
 refine ag ?_
 obtain rfl:=inj h
 exact bw (bm (aU (aU (bm (aU (aD (f1 fv)))))))
 refine ai ?_
 refine aY ?_
 refine az af [0,1,5] [] ?_
 refine ac ?_
 refine sr ?_
 refine ab.cl af 2 [0,1,5,32,33] [] ?_
 obtain⟨x11,hx11,h⟩:=bind_some h
 refine ab.ls (aG (L:=aA) (f:=ar) (ti:=dd) (tj:=cH) (e:=169) (k:= .i64) af rfl hx11) ?_
 refine bO af 4 [0,1,5,38] [] ?_
 refine ao h (fun h=> ?_) fun h=> ?_
 refine az af [4] [] ?_
 refine ag ?_
 obtain rfl:=inj h
 exact bw (bm (aU (aU (bm (aU (aD (f1 fv)))))))
 refine ai ?_
 refine aY ?_
 refine az af [0,1,5] [] ?_
 refine ac ?_
 refine sr ?_
 refine ab.cl af 2 [0,1,5,41,42] [] ?_
 obtain⟨x12,hx12,h⟩:=bind_some h
 refine ab.ls (aG (L:=aA) (f:=ar) (ti:=dd) (tj:=cH) (e:=169) (k:= .i64) af rfl hx12) ?_
 refine bO af 5 [0,1,5,48] [] ?_
 refine ao h (fun h=> ?_) fun h=> ?_
 refine az af [4] [] ?_
 refine ag ?_
 obtain rfl:=inj h
 exact bw (bm (aU (aU (bm (aU (aD (f1 fv)))))))
 refine ai ?_
 refine aY ?_
 refine iR af ⟨62,[(0,vl ar aA),(1,vi (aJ ((aJ ((aJ ((aJ (s3.2+1))+1))+1))+1))),(5,vi s3.1)],[]⟩ ?_
 refine ac ?_
 refine sr ?_
 refine ab.cl af 2 [0,1,5,51,52] [] ?_
 obtain⟨x13,hx13,h⟩:=bind_some h
 refine ab.ls (aG (L:=aA) (f:=ar) (ti:=dd) (tj:=cH) (e:=169) (k:= .i64) af rfl hx13) ?_
 refine bO af 5 [0,1,5,58] [] ?_
 refine ao h (fun h=> ?_) fun h=> ?_
 refine az af [4] [] ?_
 refine ag ?_
 obtain rfl:=inj h
 exact bw (bm (aU (aU (bm (aU (aD (f1 fv)))))))
 refine ai ?_
 refine aY ?_
 refine aF ?_
 refine ab.cl af 3 [0,1,5] [] ?_
 refine ab.nil ?_
 obtain rfl:=inj h
 exact bT (bZ (Le.aq))
 refine aF ?_
 refine ab.cl af 3 [0,1,5] [] ?_
 refine ab.nil ?_
 obtain rfl:=inj h
 exact bZ (Le.aq)
 refine aQ ?_
 obtain rfl:=inj h
 exact cD (cF (cE (bZ (Le.aq))))
 refine az af [4] [] ?_
 refine ag ?_
 obtain rfl:=inj h
 exact aD (f1 fv)
theorem CG:a8 Tryz.prog 95:=ax Tryz.func95 (by kernel_rfl) rfl
noncomputable def fe(aA:(List Place))(aK:Int):Option (Int):=
 (((cW (aA.length:Int) (fun(i3:Int) (s3:Int)=>((at' aA i3).bind fun x7=>((bh s3).bind fun x8=>(bif(!(x7.Code.toList==x8.toList))then some (.inr (.inr (-1)))else((at' aA i3).bind fun x9=>(bif(x9.Class !=(aJ (s3+1)))then some (.inr (.inr (-1)))else((at' aA i3).bind fun x10=>(bif(x10.Years.From !=(aJ ((aJ (s3+1))+1)))then some (.inr (.inr (-1)))else((at' aA i3).bind fun x11=>(bif(x11.Years.To !=(aJ ((aJ ((aJ (s3+1))+1))+1)))then some (.inr (.inr (-1)))else((at' aA i3).bind fun x12=>((eA x12.Names (aJ ((aJ ((aJ ((aJ (s3+1))+1))+1))+1))).bind fun x13=>(bif(decide (x13<0))then some (.inr (.inr (-1)))else some (.inl x13)))))))))))))) (fun(s3:Int)=> .inl s3) 0 aK)).bind (Sum.elim (fun(j1:Int)=>some j1) some))
theorem mJ(aA:(List Place))(aK:Int)(r:Int)(h:fe aA aK=some r):aH Tryz.prog 45 [.v (vl ad aA),.v (vi aK)] ⟨[.v (vi r)],[],false⟩:=by
 refine au Tryz.func45 rfl [(.tmp 4)] rfl (fun r=>⟨[.v (vi r)],[],false⟩) (r:=r) ?_
 unfold fe at h
 refine az af [0,1] [] ?_
 refine ac ?_
 refine az af [0,1,5] [] ?_
 refine bi (r:=r) h (fun j1=>⟨61,[(1,vi j1)],[]⟩) (fun v2 h=> ?_) (fun j1 h=> ?_)
 refine ay (a:=v2) ?_
 refine a6 (r:=v2) (s:=(0,aK)) _ (fun s3=>⟨61,[(0,vl ad aA),(1,vi s3.2),(5,vi s3.1)],[]⟩) _ (Le.aq) h (fun s3 v4 h=> ?_)
 refine ac ?_
 refine az af [0,1,5,9] [] ?_
 refine ao h (fun h=> ?_) fun h=> ?_
 refine ai ?_
 refine aY ?_
 refine ac ?_
 refine bn (r:=v4) h (fun j5=>⟨61,[(0,vl ad aA),(1,vi j5),(5,vi s3.1)],[]⟩) (fun v6 h=> ?_) (fun j5 h=> ?_)
 refine ay (a:=v6) ?_
 refine ac ?_
 refine ac ?_
 refine cL mixed ?_
 refine aR.cl af false 2 [0,1,5,12,13] [] ?_
 obtain⟨x7,hx7,h⟩:=bind_some h
 refine aR.step (aG (L:=aA) (f:=ad) (ti:=cP) (tj:=cd) (e:=91) (k:= .i64) af rfl hx7) ?_
 refine aR.cl af false 3 [0,1,5,16,17] [] ?_
 obtain⟨x8,hx8,h⟩:=bind_some h
 refine aR.step (xc kK (bX s3.2 _ hx8)) ?_
 refine aR.cl af false 1 [0,1,5,19] [] ?_
 refine aR.nx ?_
 refine ao h (fun h=> ?_) fun h=> ?_
 refine az af [4] [] ?_
 refine ag ?_
 obtain rfl:=inj h
 exact bw (bm (aU (aU (bm (aU (aD (f1 fv)))))))
 refine ai ?_
 refine aY ?_
 refine az af [0,1,5] [] ?_
 refine ac ?_
 refine sr ?_
 refine ab.cl af 2 [0,1,5,22,23] [] ?_
 obtain⟨x9,hx9,h⟩:=bind_some h
 refine ab.ls (aG (L:=aA) (f:=ad) (ti:=cP) (tj:=cd) (e:=91) (k:= .i64) af rfl hx9) ?_
 refine bO af 4 [0,1,5,28] [] ?_
 refine ao h (fun h=> ?_) fun h=> ?_
 refine az af [4] [] ?_
 refine ag ?_
 obtain rfl:=inj h
 exact bw (bm (aU (aU (bm (aU (aD (f1 fv)))))))
 refine ai ?_
 refine aY ?_
 refine iR af ⟨61,[(0,vl ad aA),(1,vi (aJ ((aJ (s3.2+1))+1))),(5,vi s3.1)],[]⟩ ?_
 refine ac ?_
 refine sr ?_
 refine ab.cl af 2 [0,1,5,31,32] [] ?_
 obtain⟨x10,hx10,h⟩:=bind_some h
 refine ab.ls (aG (L:=aA) (f:=ad) (ti:=cP) (tj:=cd) (e:=91) (k:= .i64) af rfl hx10) ?_
 refine bO af 5 [0,1,5,38] [] ?_
 refine ao h (fun h=> ?_) fun h=> ?_
 refine az af [4] [] ?_
 refine ag ?_
 obtain rfl:=inj h
 exact bw (bm (aU (aU (bm (aU (aD (f1 fv)))))))
 refine ai ?_
 refine aY ?_
 refine az af [0,1,5] [] ?_
 refine ac ?_
 refine sr ?_
 refine ab.cl af 2 [0,1,5,41,42] [] ?_
 obtain⟨x11,hx11,h⟩:=bind_some h
 refine ab.ls (aG (L:=aA) (f:=ad) (ti:=cP) (tj:=cd) (e:=91) (k:= .i64) af rfl hx11) ?_
 refine bO af 5 [0,1,5,48] [] ?_
 refine ao h (fun h=> ?_) fun h=> ?_
 refine az af [4] [] ?_
 refine ag ?_
 obtain rfl:=inj h
 exact bw (bm (aU (aU (bm (aU (aD (f1 fv)))))))
 refine ai ?_
 refine aY ?_
 refine az af [0,1,5] [] ?_
 refine sr ?_
 refine ab.ck af 2 ⟨61,[(0,vl ad aA),(1,vi (aJ ((aJ ((aJ ((aJ (s3.2+1))+1))+1))+1))),(5,vi s3.1),(51,vl ad aA),(52,vi s3.1)],[]⟩ ?_
 obtain⟨x12,hx12,h⟩:=bind_some h
 refine ab.ls (aG (L:=aA) (f:=ad) (ti:=cP) (tj:=cd) (e:=91) (k:= .i64) af rfl hx12) ?_
 refine ab.cl af 3 [0,5,55,56] [] ?_
 obtain⟨x13,hx13,h⟩:=bind_some h
 refine ab.ls (xc CG (m8 x12.Names (aJ ((aJ ((aJ ((aJ (s3.2+1))+1))+1))+1)) _ hx13)) ?_
 refine bO af 1 [0,1,5] [] ?_
 refine az af [0,1,5,59] [] ?_
 refine ao h (fun h=> ?_) fun h=> ?_
 refine az af [4] [] ?_
 refine ag ?_
 obtain rfl:=inj h
 exact bm (aU (aU (bm (aU (aD (f1 fv))))))
 refine ai ?_
 obtain rfl:=inj h
 exact bT (bZ (Le.aq))
 refine aF ?_
 refine ab.cl af 3 [0,1,5] [] ?_
 refine ab.nil ?_
 obtain rfl:=inj h
 exact bZ (Le.aq)
 refine aQ ?_
 obtain rfl:=inj h
 exact cD (cF (cE (bZ (Le.aq))))
 refine az af [4] [] ?_
 refine ag ?_
 obtain rfl:=inj h
 exact aD (f1 fv)
theorem Cl:a8 Tryz.prog 45:=ax Tryz.func45 (by kernel_rfl) rfl
noncomputable def fL(aA:(List aw))(aK:Int):Option (Int):=
 (((cW (aA.length:Int) (fun(i3:Int) (s3:Int)=>((at' aA i3).bind fun x7=>((bh s3).bind fun x8=>(bif(!(x7.Child.toList==x8.toList))then some (.inr (.inr (-1)))else((at' aA i3).bind fun x9=>((bh (aJ (s3+1))).bind fun x10=>(bif(!(x9.Parent.toList==x10.toList))then some (.inr (.inr (-1)))else((at' aA i3).bind fun x11=>(bif(x11.Years.From !=(aJ ((aJ (s3+1))+1)))then some (.inr (.inr (-1)))else((at' aA i3).bind fun x12=>(bif(x12.Years.To !=(aJ ((aJ ((aJ (s3+1))+1))+1)))then some (.inr (.inr (-1)))else some (.inl (aJ ((aJ ((aJ ((aJ (s3+1))+1))+1))+1)))))))))))))) (fun(s3:Int)=> .inl s3) 0 aK)).bind (Sum.elim (fun(j1:Int)=>some j1) some))
theorem m7(aA:(List aw))(aK:Int)(r:Int)(h:fL aA aK=some r):aH Tryz.prog 46 [.v (vl ae aA),.v (vi aK)] ⟨[.v (vi r)],[],false⟩:=by
 refine au Tryz.func46 rfl [(.tmp 4)] rfl (fun r=>⟨[.v (vi r)],[],false⟩) (r:=r) ?_
 unfold fL at h
 refine az af [0,1] [] ?_
 refine ac ?_
 refine az af [0,1,5] [] ?_
 refine bi (r:=r) h (fun j1=>⟨53,[(1,vi j1)],[]⟩) (fun v2 h=> ?_) (fun j1 h=> ?_)
 refine ay (a:=v2) ?_
 refine a6 (r:=v2) (s:=(0,aK)) _ (fun s3=>⟨53,[(0,vl ae aA),(1,vi s3.2),(5,vi s3.1)],[]⟩) _ (Le.aq) h (fun s3 v4 h=> ?_)
 refine ac ?_
 refine az af [0,1,5,9] [] ?_
 refine ao h (fun h=> ?_) fun h=> ?_
 refine ai ?_
 refine aY ?_
 refine ac ?_
 refine bn (r:=v4) h (fun j5=>⟨53,[(0,vl ae aA),(1,vi j5),(5,vi s3.1)],[]⟩) (fun v6 h=> ?_) (fun j5 h=> ?_)
 refine ay (a:=v6) ?_
 refine ac ?_
 refine ac ?_
 refine cL mixed ?_
 refine aR.cl af false 2 [0,1,5,12,13] [] ?_
 obtain⟨x7,hx7,h⟩:=bind_some h
 refine aR.step (aG (L:=aA) (f:=ae) (ti:=dp) (tj:=dq) (e:=85) (k:= .i64) af rfl hx7) ?_
 refine aR.cl af false 3 [0,1,5,16,17] [] ?_
 obtain⟨x8,hx8,h⟩:=bind_some h
 refine aR.step (xc kK (bX s3.2 _ hx8)) ?_
 refine aR.cl af false 1 [0,1,5,19] [] ?_
 refine aR.nx ?_
 refine ao h (fun h=> ?_) fun h=> ?_
 refine az af [4] [] ?_
 refine ag ?_
 obtain rfl:=inj h
 exact bw (bm (aU (aU (bm (aU (aD (f1 fv)))))))
 refine ai ?_
 refine aY ?_
 refine az af [0,1,5] [] ?_
 refine ac ?_
 refine ac ?_
 refine cL mixed ?_
 refine aR.cl af false 2 [0,1,5,22,23] [] ?_
 obtain⟨x9,hx9,h⟩:=bind_some h
 refine aR.step (aG (L:=aA) (f:=ae) (ti:=dp) (tj:=dq) (e:=85) (k:= .i64) af rfl hx9) ?_
 refine aR.cl af false 3 [0,1,5,26,27] [] ?_
 obtain⟨x10,hx10,h⟩:=bind_some h
 refine aR.step (xc kK (bX (aJ (s3.2+1)) _ hx10)) ?_
 refine aR.cl af false 1 [0,1,5,29] [] ?_
 refine aR.nx ?_
 refine ao h (fun h=> ?_) fun h=> ?_
 refine iR af ⟨53,[(4,vi (-1))],[]⟩ ?_
 refine ag ?_
 obtain rfl:=inj h
 exact bw (bm (aU (aU (bm (aU (aD (f1 fv)))))))
 refine ai ?_
 refine aY ?_
 refine az af [0,1,5] [] ?_
 refine ac ?_
 refine sr ?_
 refine ab.cl af 2 [0,1,5,32,33] [] ?_
 obtain⟨x11,hx11,h⟩:=bind_some h
 refine ab.ls (aG (L:=aA) (f:=ae) (ti:=dp) (tj:=dq) (e:=85) (k:= .i64) af rfl hx11) ?_
 refine bO af 5 [0,1,5,39] [] ?_
 refine ao h (fun h=> ?_) fun h=> ?_
 refine az af [4] [] ?_
 refine ag ?_
 obtain rfl:=inj h
 exact bw (bm (aU (aU (bm (aU (aD (f1 fv)))))))
 refine ai ?_
 refine aY ?_
 refine az af [0,1,5] [] ?_
 refine ac ?_
 refine sr ?_
 refine ab.cl af 2 [0,1,5,42,43] [] ?_
 obtain⟨x12,hx12,h⟩:=bind_some h
 refine ab.ls (aG (L:=aA) (f:=ae) (ti:=dp) (tj:=dq) (e:=85) (k:= .i64) af rfl hx12) ?_
 refine bO af 5 [0,1,5,49] [] ?_
 refine ao h (fun h=> ?_) fun h=> ?_
 refine az af [4] [] ?_
 refine ag ?_
 obtain rfl:=inj h
 exact bw (bm (aU (aU (bm (aU (aD (f1 fv)))))))
 refine ai ?_
 refine aY ?_
 refine aF ?_
 refine ab.ck af 3 ⟨53,[(0,vl ae aA),(1,vi (aJ ((aJ ((aJ ((aJ (s3.2+1))+1))+1))+1))),(5,vi s3.1)],[]⟩ ?_
 refine ab.nil ?_
 obtain rfl:=inj h
 exact bT (bZ (Le.aq))
 refine aF ?_
 refine ab.cl af 3 [0,1,5] [] ?_
 refine ab.nil ?_
 obtain rfl:=inj h
 exact bZ (Le.aq)
 refine aQ ?_
 obtain rfl:=inj h
 exact cD (cF (cE (bZ (Le.aq))))
 refine az af [4] [] ?_
 refine ag ?_
 obtain rfl:=inj h
 exact aD (f1 fv)
theorem Cm:a8 Tryz.prog 46:=ax Tryz.func46 (by kernel_rfl) rfl
noncomputable def eB(aA:World)(aK:Int):Option (Int):=
 ((fe aA.Places aK).bind fun x1=>(bif(decide (x1<0))then some (-1)else((fL aA.Links x1).bind fun x2=>(bif(decide (x2<0))then some (-1)else some x2))))
theorem ki(aA:World)(aK:Int)(r:Int)(h:eB aA aK=some r):aH Tryz.prog 17 [.v (.agg (tc ak aA)),.v (vi aK)] ⟨[.v (vi r)],[],false⟩:=by
 refine au Tryz.func17 rfl [(.tmp 4)] rfl (fun r=>⟨[.v (vi r)],[],false⟩) (r:=r) ?_
 unfold eB at h
 refine az af [1,2] [2] ?_
 refine sr ?_
 refine ab.cl af 3 [2,6,7] [2] ?_
 obtain⟨x1,hx1,h⟩:=bind_some h
 refine ab.ls (xc Cl (mJ aA.Places aK _ hx1)) ?_
 refine bO af 1 [1,2] [2] ?_
 refine ac ?_
 refine az af [1,2,10] [2] ?_
 refine ao h (fun h=> ?_) fun h=> ?_
 refine az af [4] [] ?_
 refine ag ?_
 obtain rfl:=inj h
 exact bw (aD (f1 fv))
 refine ai ?_
 refine aY ?_
 refine sr ?_
 refine ab.cl af 3 [12,13] [] ?_
 obtain⟨x2,hx2,h⟩:=bind_some h
 refine ab.ls (xc Cm (m7 aA.Links x1 _ hx2)) ?_
 refine bO af 1 [1] [] ?_
 refine ac ?_
 refine az af [1,16] [] ?_
 refine ao h (fun h=> ?_) fun h=> ?_
 refine iR af ⟨18,[(4,vi (-1))],[]⟩ ?_
 refine ag ?_
 obtain rfl:=inj h
 exact bw (aD (f1 fv))
 refine ai ?_
 refine aY ?_
 refine az af [4] [] ?_
 refine ag ?_
 obtain rfl:=inj h
 exact aD (f1 fv)
theorem y3:a8 Tryz.prog 17:=ax Tryz.func17 (by kernel_rfl) rfl
noncomputable def eC(aA:(List Name))(aK:Int):Option (Int×(List Name)):=
 (((nM (fun(i3:Int) (s3:Int×(List Name))=>(decide (i3<(s3.2.length:Int)))) (fun(i3:Int) (s3:Int×(List Name))=>((bh s3.1).bind fun x7=>((at' s3.2 i3).bind fun x8=>((bh (aJ (s3.1+1))).bind fun x9=>((at' (List.set s3.2 (Int.toNat i3) (Name.mk x7 x8.Language x8.Status x8.Years)) i3).bind fun x10=>((at' (List.set (List.set s3.2 (Int.toNat i3) (Name.mk x7 x8.Language x8.Status x8.Years)) (Int.toNat i3) (Name.mk x10.Text x9 x10.Status x10.Years)) i3).bind fun x11=>((at' (List.set (List.set (List.set s3.2 (Int.toNat i3) (Name.mk x7 x8.Language x8.Status x8.Years)) (Int.toNat i3) (Name.mk x10.Text x9 x10.Status x10.Years)) (Int.toNat i3) (Name.mk x11.Text x11.Language (aJ ((aJ (s3.1+1))+1)) x11.Years)) i3).bind fun x12=>((at' (List.set (List.set (List.set (List.set s3.2 (Int.toNat i3) (Name.mk x7 x8.Language x8.Status x8.Years)) (Int.toNat i3) (Name.mk x10.Text x9 x10.Status x10.Years)) (Int.toNat i3) (Name.mk x11.Text x11.Language (aJ ((aJ (s3.1+1))+1)) x11.Years)) (Int.toNat i3) (Name.mk x12.Text x12.Language x12.Status (Span.mk (aJ ((aJ ((aJ (s3.1+1))+1))+1)) x12.Years.To))) i3).bind fun x13=>some ((aJ ((aJ ((aJ ((aJ ((aJ (s3.1+1))+1))+1))+1))+1)),(List.set (List.set (List.set (List.set (List.set s3.2 (Int.toNat i3) (Name.mk x7 x8.Language x8.Status x8.Years)) (Int.toNat i3) (Name.mk x10.Text x9 x10.Status x10.Years)) (Int.toNat i3) (Name.mk x11.Text x11.Language (aJ ((aJ (s3.1+1))+1)) x11.Years)) (Int.toNat i3) (Name.mk x12.Text x12.Language x12.Status (Span.mk (aJ ((aJ ((aJ (s3.1+1))+1))+1)) x12.Years.To))) (Int.toNat i3) (Name.mk x13.Text x13.Language x13.Status (Span.mk x13.Years.From (aJ ((aJ ((aJ ((aJ (s3.1+1))+1))+1))+1)))))))))))))) (fun(s3:Int×(List Name))=>(s3.1,s3.2)) 0 (aK,aA))).bind fun(j1:Int×(List Name))=>some (j1.1,j1.2))
theorem na(aA:(List Name))(aK:Int)(r:Int×(List Name))(h:eC aA aK=some r):aH Tryz.prog 94 [.o (oa 169 5 ar aA),.v (vi aK)] ⟨[.v (vi r.1)],[(0,oa 169 5 ar r.2)],false⟩:=by
 refine au Tryz.func94 rfl [(.tmp 4)] rfl (fun r=>⟨[.v (vi r.1)],[(0,oa 169 5 ar r.2)],false⟩) (r:=r) ?_
 unfold eC at h
 refine az af [0,1] [1000000] ?_
 refine ac ?_
 refine az af [0,1,5] [1000000] ?_
 refine a7 h (fun j1=>⟨52,[(1,vi j1.1)],[(1000000,oa 169 5 ar j1.2)]⟩) (fun v2 h=> ?_) (fun j1 h=> ?_)
 refine ay (a:=v2) ?_
 refine a6 (r:=v2) (s:=(0,aK,aA)) _ (fun s3=>⟨52,[(0,.own 1000000),(1,vi s3.2.1),(5,vi s3.1)],[(1000000,oa 169 5 ar s3.2.2)]⟩) _ (Le.aq) h (fun s3 v4 h=> ?_)
 refine ac ?_
 refine az af [0,1,5,9] [1000000] ?_
 refine ao h (fun h=> ?_) fun h=> ?_
 refine ai ?_
 refine aY ?_
 refine ac ?_
 refine a7 h (fun j5=>⟨52,[(0,.own 1000000),(1,vi j5.1),(5,vi s3.1)],[(1000000,oa 169 5 ar j5.2)]⟩) (fun v6 h=> ?_) (fun j5 h=> ?_)
 refine ay (a:=v6) ?_
 refine sr ?_
 refine ab.cl af 3 [0,1,5,12,13,14] [1000000] ?_
 obtain⟨x7,hx7,h⟩:=bind_some h
 refine ab.ls (xc kK (bX s3.2.1 _ hx7)) ?_
 obtain⟨x8,hx8,h⟩:=bind_some h
 refine ab.ls (bo (d:=1000000) (L:=s3.2.2) (f:=ar) (ti:=dd) (tj:=cH) (e:=169) (e':=169) (m:=5) (k:= .i64) af rfl hx8) ?_
 refine ab.cl af 1 [0,1,5,15,17] [1000000] ?_
 refine ab.bx (cC (d:=1000000) (m:=5) (j:=0) (L:=s3.2.2) (f:=ar) (x:=(Name.mk x7 x8.Language x8.Status x8.Years)) (z:=x8) (ti:=gH) (e:=169) (ts:=[.str x7]) (vs:=[vs x7]) (v:=vs x7) af rfl rfl hx8) ?_
 refine ab.nx ?_
 refine az af [0,1,5] [1000000] ?_
 refine sr ?_
 refine ab.cl af 3 [0,1,5,20,21,22] [1000000] ?_
 obtain⟨x9,hx9,h⟩:=bind_some h
 refine ab.ls (xc kK (bX (aJ (s3.2.1+1)) _ hx9)) ?_
 obtain⟨x10,hx10,h⟩:=bind_some h
 refine ab.ls (bo (d:=1000000) (L:=(List.set s3.2.2 (Int.toNat s3.1) (Name.mk x7 x8.Language x8.Status x8.Years))) (f:=ar) (ti:=dd) (tj:=cH) (e:=169) (e':=169) (m:=5) (k:= .i64) af rfl hx10) ?_
 refine ab.cl af 1 [0,1,5,23,25] [1000000] ?_
 refine ab.bx (cC (d:=1000000) (m:=5) (j:=1) (L:=(List.set s3.2.2 (Int.toNat s3.1) (Name.mk x7 x8.Language x8.Status x8.Years))) (f:=ar) (x:=(Name.mk x10.Text x9 x10.Status x10.Years)) (z:=x10) (ti:=gH) (e:=169) (ts:=[.str x9]) (vs:=[vs x9]) (v:=vs x9) af rfl rfl hx10) ?_
 refine ab.nx ?_
 refine az af [0,1,5] [1000000] ?_
 refine sr ?_
 refine ab.cl af 3 [0,1,5,28,29,30] [1000000] ?_
 obtain⟨x11,hx11,h⟩:=bind_some h
 refine ab.ls (bo (d:=1000000) (L:=(List.set (List.set s3.2.2 (Int.toNat s3.1) (Name.mk x7 x8.Language x8.Status x8.Years)) (Int.toNat s3.1) (Name.mk x10.Text x9 x10.Status x10.Years))) (f:=ar) (ti:=dd) (tj:=cH) (e:=169) (e':=169) (m:=5) (k:= .i64) af rfl hx11) ?_
 refine ab.cl af 1 [0,1,5,30,32] [1000000] ?_
 refine ab.bx (cC (d:=1000000) (m:=5) (j:=2) (L:=(List.set (List.set s3.2.2 (Int.toNat s3.1) (Name.mk x7 x8.Language x8.Status x8.Years)) (Int.toNat s3.1) (Name.mk x10.Text x9 x10.Status x10.Years))) (f:=ar) (x:=(Name.mk x11.Text x11.Language (aJ ((aJ (s3.2.1+1))+1)) x11.Years)) (z:=x11) (ti:=ti2) (e:=169) (ts:=[.int .i64 (aJ ((aJ (s3.2.1+1))+1))]) (vs:=[vi (aJ ((aJ (s3.2.1+1))+1))]) (v:=vi (aJ ((aJ (s3.2.1+1))+1))) af rfl rfl hx11) ?_
 refine ab.nx ?_
 refine iR af ⟨52,[(0,.own 1000000),(1,vi (aJ ((aJ ((aJ (s3.2.1+1))+1))+1))),(5,vi s3.1)],[(1000000,oa 169 5 ar (List.set (List.set (List.set s3.2.2 (Int.toNat s3.1) (Name.mk x7 x8.Language x8.Status x8.Years)) (Int.toNat s3.1) (Name.mk x10.Text x9 x10.Status x10.Years)) (Int.toNat s3.1) (Name.mk x11.Text x11.Language (aJ ((aJ (s3.2.1+1))+1)) x11.Years)))]⟩ ?_
 refine sr ?_
 refine ab.cl af 3 [0,1,5,35,36,37] [1000000] ?_
 obtain⟨x12,hx12,h⟩:=bind_some h
 refine ab.ls (bo (d:=1000000) (L:=(List.set (List.set (List.set s3.2.2 (Int.toNat s3.1) (Name.mk x7 x8.Language x8.Status x8.Years)) (Int.toNat s3.1) (Name.mk x10.Text x9 x10.Status x10.Years)) (Int.toNat s3.1) (Name.mk x11.Text x11.Language (aJ ((aJ (s3.2.1+1))+1)) x11.Years))) (f:=ar) (ti:=dd) (tj:=cH) (e:=169) (e':=169) (m:=5) (k:= .i64) af rfl hx12) ?_
 refine ab.cl af 2 [0,1,5,37,40] [1000000] ?_
 refine ab.bx (cC (d:=1000000) (m:=5) (j:=3) (L:=(List.set (List.set (List.set s3.2.2 (Int.toNat s3.1) (Name.mk x7 x8.Language x8.Status x8.Years)) (Int.toNat s3.1) (Name.mk x10.Text x9 x10.Status x10.Years)) (Int.toNat s3.1) (Name.mk x11.Text x11.Language (aJ ((aJ (s3.2.1+1))+1)) x11.Years))) (f:=ar) (x:=(Name.mk x12.Text x12.Language x12.Status (Span.mk (aJ ((aJ ((aJ (s3.2.1+1))+1))+1)) x12.Years.To))) (z:=x12) (ti:=ti2) (e:=169) (ts:=[.int .i64 (aJ ((aJ ((aJ (s3.2.1+1))+1))+1))]) (vs:=[vi (aJ ((aJ ((aJ (s3.2.1+1))+1))+1))]) (v:=vi (aJ ((aJ ((aJ (s3.2.1+1))+1))+1))) af rfl rfl hx12) ?_
 refine ab.nx ?_
 refine az af [0,1,5] [1000000] ?_
 refine sr ?_
 refine ab.cl af 3 [0,1,5,43,44,45] [1000000] ?_
 obtain⟨x13,hx13,h⟩:=bind_some h
 refine ab.ls (bo (d:=1000000) (L:=(List.set (List.set (List.set (List.set s3.2.2 (Int.toNat s3.1) (Name.mk x7 x8.Language x8.Status x8.Years)) (Int.toNat s3.1) (Name.mk x10.Text x9 x10.Status x10.Years)) (Int.toNat s3.1) (Name.mk x11.Text x11.Language (aJ ((aJ (s3.2.1+1))+1)) x11.Years)) (Int.toNat s3.1) (Name.mk x12.Text x12.Language x12.Status (Span.mk (aJ ((aJ ((aJ (s3.2.1+1))+1))+1)) x12.Years.To)))) (f:=ar) (ti:=dd) (tj:=cH) (e:=169) (e':=169) (m:=5) (k:= .i64) af rfl hx13) ?_
 refine ab.cl af 2 [0,1,5,45,48] [1000000] ?_
 refine ab.bx (cC (d:=1000000) (m:=5) (j:=4) (L:=(List.set (List.set (List.set (List.set s3.2.2 (Int.toNat s3.1) (Name.mk x7 x8.Language x8.Status x8.Years)) (Int.toNat s3.1) (Name.mk x10.Text x9 x10.Status x10.Years)) (Int.toNat s3.1) (Name.mk x11.Text x11.Language (aJ ((aJ (s3.2.1+1))+1)) x11.Years)) (Int.toNat s3.1) (Name.mk x12.Text x12.Language x12.Status (Span.mk (aJ ((aJ ((aJ (s3.2.1+1))+1))+1)) x12.Years.To)))) (f:=ar) (x:=(Name.mk x13.Text x13.Language x13.Status (Span.mk x13.Years.From (aJ ((aJ ((aJ ((aJ (s3.2.1+1))+1))+1))+1))))) (z:=x13) (ti:=ti2) (e:=169) (ts:=[.int .i64 (aJ ((aJ ((aJ ((aJ (s3.2.1+1))+1))+1))+1))]) (vs:=[vi (aJ ((aJ ((aJ ((aJ (s3.2.1+1))+1))+1))+1))]) (v:=vi (aJ ((aJ ((aJ ((aJ (s3.2.1+1))+1))+1))+1))) af rfl rfl hx13) ?_
 refine ab.nx ?_
 refine aF ?_
 refine ab.cl af 3 [0,1,5] [1000000] ?_
 refine ab.nil ?_
 obtain rfl:=inj h
 exact bT (fu (Le.aq))
 refine aF ?_
 refine ab.cl af 3 [0,1,5] [1000000] ?_
 refine ab.nil ?_
 obtain rfl:=inj h
 exact bZ (Le.aq)
 refine aQ ?_
 obtain rfl:=inj h
 exact cD (cF (cE (fu (Le.aq))))
 refine az af [4] [1000000] ?_
 refine ag ?_
 obtain rfl:=inj h
 exact aD (we (f1 fv) (y:=oa 169 5 ar j1.2) (by kernel_rfl) rfl (by kernel_rfl) (by kernel_rfl))
theorem CF:a8 Tryz.prog 94:=ax Tryz.func94 (by kernel_rfl) rfl
noncomputable def ff(aA:(List Place))(aK:Int):Option (Int×(List Place)):=
 (((nM (fun(i3:Int) (s3:Int×(List Place))=>(decide (i3<(s3.2.length:Int)))) (fun(i3:Int) (s3:Int×(List Place))=>((bh s3.1).bind fun x7=>((at' s3.2 i3).bind fun x8=>((at' (List.set s3.2 (Int.toNat i3) (Place.mk x7 x8.Class x8.Years x8.Names)) i3).bind fun x9=>((at' (List.set (List.set s3.2 (Int.toNat i3) (Place.mk x7 x8.Class x8.Years x8.Names)) (Int.toNat i3) (Place.mk x9.Code (aJ (s3.1+1)) x9.Years x9.Names)) i3).bind fun x10=>((at' (List.set (List.set (List.set s3.2 (Int.toNat i3) (Place.mk x7 x8.Class x8.Years x8.Names)) (Int.toNat i3) (Place.mk x9.Code (aJ (s3.1+1)) x9.Years x9.Names)) (Int.toNat i3) (Place.mk x10.Code x10.Class (Span.mk (aJ ((aJ (s3.1+1))+1)) x10.Years.To) x10.Names)) i3).bind fun x11=>((at' (List.set (List.set (List.set (List.set s3.2 (Int.toNat i3) (Place.mk x7 x8.Class x8.Years x8.Names)) (Int.toNat i3) (Place.mk x9.Code (aJ (s3.1+1)) x9.Years x9.Names)) (Int.toNat i3) (Place.mk x10.Code x10.Class (Span.mk (aJ ((aJ (s3.1+1))+1)) x10.Years.To) x10.Names)) (Int.toNat i3) (Place.mk x11.Code x11.Class (Span.mk x11.Years.From (aJ ((aJ ((aJ (s3.1+1))+1))+1))) x11.Names)) i3).bind fun x12=>((eC x12.Names (aJ ((aJ ((aJ ((aJ (s3.1+1))+1))+1))+1))).bind fun x13=>some (x13.1,(List.set (List.set (List.set (List.set (List.set s3.2 (Int.toNat i3) (Place.mk x7 x8.Class x8.Years x8.Names)) (Int.toNat i3) (Place.mk x9.Code (aJ (s3.1+1)) x9.Years x9.Names)) (Int.toNat i3) (Place.mk x10.Code x10.Class (Span.mk (aJ ((aJ (s3.1+1))+1)) x10.Years.To) x10.Names)) (Int.toNat i3) (Place.mk x11.Code x11.Class (Span.mk x11.Years.From (aJ ((aJ ((aJ (s3.1+1))+1))+1))) x11.Names)) (Int.toNat i3) (Place.mk x12.Code x12.Class x12.Years x13.2))))))))))) (fun(s3:Int×(List Place))=>(s3.1,s3.2)) 0 (aK,aA))).bind fun(j1:Int×(List Place))=>some (j1.1,j1.2))
theorem mK(aA:(List Place))(aK:Int)(r:Int×(List Place))(h:ff aA aK=some r):aH Tryz.prog 43 [.o (.deep 91 5 aA.length [.flat,.flat,.flat,.flat,(.sl 169 5 [.flat,.flat,.flat,.flat,.flat])] (aA.map ad)),.v (vi aK)] ⟨[.v (vi r.1)],[(0,.deep 91 5 r.2.length [.flat,.flat,.flat,.flat,(.sl 169 5 [.flat,.flat,.flat,.flat,.flat])] (r.2.map ad))],false⟩:=by
 refine au Tryz.func43 rfl [(.tmp 4)] rfl (fun r=>⟨[.v (vi r.1)],[(0,.deep 91 5 r.2.length [.flat,.flat,.flat,.flat,(.sl 169 5 [.flat,.flat,.flat,.flat,.flat])] (r.2.map ad))],false⟩) (r:=r) ?_
 unfold ff at h
 refine az af [0,1] [1000000] ?_
 refine ac ?_
 refine az af [0,1,5] [1000000] ?_
 refine a7 h (fun j1=>⟨51,[(1,vi j1.1)],[(1000000,.deep 91 5 j1.2.length [.flat,.flat,.flat,.flat,(.sl 169 5 [.flat,.flat,.flat,.flat,.flat])] (j1.2.map ad))]⟩) (fun v2 h=> ?_) (fun j1 h=> ?_)
 refine ay (a:=v2) ?_
 refine a6 (r:=v2) (s:=(0,aK,aA)) _ (fun s3=>⟨51,[(0,.own 1000000),(1,vi s3.2.1),(5,vi s3.1)],[(1000000,.deep 91 5 s3.2.2.length [.flat,.flat,.flat,.flat,(.sl 169 5 [.flat,.flat,.flat,.flat,.flat])] (s3.2.2.map ad))]⟩) _ (Le.aq) h (fun s3 v4 h=> ?_)
 refine ac ?_
 refine sr ?_
 refine ab.cl af 2 [0,1,5,6,7] [1000000] ?_
 refine ab.ls (wT (d:=1000000) (e:=91) (e':=91) (m:=5) (n:=s3.2.2.length) (ss:=[.flat,.flat,.flat,.flat,(.sl 169 5 [.flat,.flat,.flat,.flat,.flat])]) (es:=s3.2.2.map ad) (ti:=cP) af rfl rfl rfl) ?_
 refine bO af 1 [0,1,5,9] [1000000] ?_
 refine ao h (fun h=> ?_) fun h=> ?_
 refine ai ?_
 refine aY ?_
 refine ac ?_
 refine a7 h (fun j5=>⟨51,[(0,.own 1000000),(1,vi j5.1),(5,vi s3.1)],[(1000000,.deep 91 5 j5.2.length [.flat,.flat,.flat,.flat,(.sl 169 5 [.flat,.flat,.flat,.flat,.flat])] (j5.2.map ad))]⟩) (fun v6 h=> ?_) (fun j5 h=> ?_)
 refine ay (a:=v6) ?_
 refine sr ?_
 refine ab.cl af 3 [0,1,5,12,13,14] [1000000] ?_
 obtain⟨x7,hx7,h⟩:=bind_some h
 refine ab.ls (xc kK (bX s3.2.1 _ hx7)) ?_
 obtain⟨x8,hx8,h⟩:=bind_some h
 refine ab.ls (bF (d:=1000000) (L:=s3.2.2) (f:=ad) (ti:=cP) (tj:=cd) (e:=91) (e':=91) (m:=5) (k:= .i64) (ss:=[.flat,.flat,.flat,.flat,(.sl 169 5 [.flat,.flat,.flat,.flat,.flat])]) af rfl hx8) ?_
 refine ab.cl af 1 [0,1,5,15,17] [1000000] ?_
 refine ab.bx (e8 (d:=1000000) (m:=5) (j:=0) (L:=s3.2.2) (f:=ad) (x:=(Place.mk x7 x8.Class x8.Years x8.Names)) (z:=x8) (ti:=gH) (e:=91) (ss:=[.flat,.flat,.flat,.flat,(.sl 169 5 [.flat,.flat,.flat,.flat,.flat])]) (ss2:=[.flat]) (ts:=[.str x7]) (vs:=[vs x7]) (v:=vs x7) (ds:=[]) af rfl rfl hx8 (.cons _ _ _ [] _ _ _ _ (.flat (.str x7) rfl) .nil (by decide))) ?_
 refine ab.nx ?_
 refine az af [0,1,5] [1000000] ?_
 refine sr ?_
 refine ab.cl af 3 [0,1,5,20,21,22] [1000000] ?_
 obtain⟨x9,hx9,h⟩:=bind_some h
 refine ab.ls (bF (d:=1000000) (L:=(List.set s3.2.2 (Int.toNat s3.1) (Place.mk x7 x8.Class x8.Years x8.Names))) (f:=ad) (ti:=cP) (tj:=cd) (e:=91) (e':=91) (m:=5) (k:= .i64) (ss:=[.flat,.flat,.flat,.flat,(.sl 169 5 [.flat,.flat,.flat,.flat,.flat])]) af rfl hx9) ?_
 refine ab.cl af 1 [0,1,5,22,24] [1000000] ?_
 refine ab.bx (e8 (d:=1000000) (m:=5) (j:=1) (L:=(List.set s3.2.2 (Int.toNat s3.1) (Place.mk x7 x8.Class x8.Years x8.Names))) (f:=ad) (x:=(Place.mk x9.Code (aJ (s3.2.1+1)) x9.Years x9.Names)) (z:=x9) (ti:=ti2) (e:=91) (ss:=[.flat,.flat,.flat,.flat,(.sl 169 5 [.flat,.flat,.flat,.flat,.flat])]) (ss2:=[.flat]) (ts:=[.int .i64 (aJ (s3.2.1+1))]) (vs:=[vi (aJ (s3.2.1+1))]) (v:=vi (aJ (s3.2.1+1))) (ds:=[]) af rfl rfl hx9 (.cons _ _ _ [] _ _ _ _ (.flat (.int .i64 (aJ (s3.2.1+1))) rfl) .nil (by decide))) ?_
 refine ab.nx ?_
 refine az af [0,1,5] [1000000] ?_
 refine sr ?_
 refine ab.cl af 3 [0,1,5,27,28,29] [1000000] ?_
 obtain⟨x10,hx10,h⟩:=bind_some h
 refine ab.ls (bF (d:=1000000) (L:=(List.set (List.set s3.2.2 (Int.toNat s3.1) (Place.mk x7 x8.Class x8.Years x8.Names)) (Int.toNat s3.1) (Place.mk x9.Code (aJ (s3.2.1+1)) x9.Years x9.Names))) (f:=ad) (ti:=cP) (tj:=cd) (e:=91) (e':=91) (m:=5) (k:= .i64) (ss:=[.flat,.flat,.flat,.flat,(.sl 169 5 [.flat,.flat,.flat,.flat,.flat])]) af rfl hx10) ?_
 refine ab.cl af 2 [0,1,5,29,32] [1000000] ?_
 refine ab.bx (e8 (d:=1000000) (m:=5) (j:=2) (L:=(List.set (List.set s3.2.2 (Int.toNat s3.1) (Place.mk x7 x8.Class x8.Years x8.Names)) (Int.toNat s3.1) (Place.mk x9.Code (aJ (s3.2.1+1)) x9.Years x9.Names))) (f:=ad) (x:=(Place.mk x10.Code x10.Class (Span.mk (aJ ((aJ (s3.2.1+1))+1)) x10.Years.To) x10.Names)) (z:=x10) (ti:=ti2) (e:=91) (ss:=[.flat,.flat,.flat,.flat,(.sl 169 5 [.flat,.flat,.flat,.flat,.flat])]) (ss2:=[.flat]) (ts:=[.int .i64 (aJ ((aJ (s3.2.1+1))+1))]) (vs:=[vi (aJ ((aJ (s3.2.1+1))+1))]) (v:=vi (aJ ((aJ (s3.2.1+1))+1))) (ds:=[]) af rfl rfl hx10 (.cons _ _ _ [] _ _ _ _ (.flat (.int .i64 (aJ ((aJ (s3.2.1+1))+1))) rfl) .nil (by decide))) ?_
 refine ab.nx ?_
 refine iR af ⟨51,[(0,.own 1000000),(1,vi (aJ ((aJ ((aJ (s3.2.1+1))+1))+1))),(5,vi s3.1)],[(1000000,.deep 91 5 (List.set (List.set (List.set s3.2.2 (Int.toNat s3.1) (Place.mk x7 x8.Class x8.Years x8.Names)) (Int.toNat s3.1) (Place.mk x9.Code (aJ (s3.2.1+1)) x9.Years x9.Names)) (Int.toNat s3.1) (Place.mk x10.Code x10.Class (Span.mk (aJ ((aJ (s3.2.1+1))+1)) x10.Years.To) x10.Names)).length [.flat,.flat,.flat,.flat,(.sl 169 5 [.flat,.flat,.flat,.flat,.flat])] ((List.set (List.set (List.set s3.2.2 (Int.toNat s3.1) (Place.mk x7 x8.Class x8.Years x8.Names)) (Int.toNat s3.1) (Place.mk x9.Code (aJ (s3.2.1+1)) x9.Years x9.Names)) (Int.toNat s3.1) (Place.mk x10.Code x10.Class (Span.mk (aJ ((aJ (s3.2.1+1))+1)) x10.Years.To) x10.Names)).map ad))]⟩ ?_
 refine sr ?_
 refine ab.cl af 3 [0,1,5,35,36,37] [1000000] ?_
 obtain⟨x11,hx11,h⟩:=bind_some h
 refine ab.ls (bF (d:=1000000) (L:=(List.set (List.set (List.set s3.2.2 (Int.toNat s3.1) (Place.mk x7 x8.Class x8.Years x8.Names)) (Int.toNat s3.1) (Place.mk x9.Code (aJ (s3.2.1+1)) x9.Years x9.Names)) (Int.toNat s3.1) (Place.mk x10.Code x10.Class (Span.mk (aJ ((aJ (s3.2.1+1))+1)) x10.Years.To) x10.Names))) (f:=ad) (ti:=cP) (tj:=cd) (e:=91) (e':=91) (m:=5) (k:= .i64) (ss:=[.flat,.flat,.flat,.flat,(.sl 169 5 [.flat,.flat,.flat,.flat,.flat])]) af rfl hx11) ?_
 refine ab.cl af 2 [0,1,5,37,40] [1000000] ?_
 refine ab.bx (e8 (d:=1000000) (m:=5) (j:=3) (L:=(List.set (List.set (List.set s3.2.2 (Int.toNat s3.1) (Place.mk x7 x8.Class x8.Years x8.Names)) (Int.toNat s3.1) (Place.mk x9.Code (aJ (s3.2.1+1)) x9.Years x9.Names)) (Int.toNat s3.1) (Place.mk x10.Code x10.Class (Span.mk (aJ ((aJ (s3.2.1+1))+1)) x10.Years.To) x10.Names))) (f:=ad) (x:=(Place.mk x11.Code x11.Class (Span.mk x11.Years.From (aJ ((aJ ((aJ (s3.2.1+1))+1))+1))) x11.Names)) (z:=x11) (ti:=ti2) (e:=91) (ss:=[.flat,.flat,.flat,.flat,(.sl 169 5 [.flat,.flat,.flat,.flat,.flat])]) (ss2:=[.flat]) (ts:=[.int .i64 (aJ ((aJ ((aJ (s3.2.1+1))+1))+1))]) (vs:=[vi (aJ ((aJ ((aJ (s3.2.1+1))+1))+1))]) (v:=vi (aJ ((aJ ((aJ (s3.2.1+1))+1))+1))) (ds:=[]) af rfl rfl hx11 (.cons _ _ _ [] _ _ _ _ (.flat (.int .i64 (aJ ((aJ ((aJ (s3.2.1+1))+1))+1))) rfl) .nil (by decide))) ?_
 refine ab.nx ?_
 refine az af [0,1,5] [1000000] ?_
 refine aF ?_
 refine ab.cl af 2 [0,1,5,43,44] [1000000] ?_
 obtain⟨x12,hx12,h⟩:=bind_some h
 refine ab.ls (bF (d:=1000000) (L:=(List.set (List.set (List.set (List.set s3.2.2 (Int.toNat s3.1) (Place.mk x7 x8.Class x8.Years x8.Names)) (Int.toNat s3.1) (Place.mk x9.Code (aJ (s3.2.1+1)) x9.Years x9.Names)) (Int.toNat s3.1) (Place.mk x10.Code x10.Class (Span.mk (aJ ((aJ (s3.2.1+1))+1)) x10.Years.To) x10.Names)) (Int.toNat s3.1) (Place.mk x11.Code x11.Class (Span.mk x11.Years.From (aJ ((aJ ((aJ (s3.2.1+1))+1))+1))) x11.Names))) (f:=ad) (ti:=cP) (tj:=cd) (e:=91) (e':=91) (m:=5) (k:= .i64) (ss:=[.flat,.flat,.flat,.flat,(.sl 169 5 [.flat,.flat,.flat,.flat,.flat])]) af rfl hx12) ?_
 refine ab.cl af 1 [0,1,5,46] [1000000] ?_
 refine ab.bx (jT (L:=(List.set (List.set (List.set (List.set s3.2.2 (Int.toNat s3.1) (Place.mk x7 x8.Class x8.Years x8.Names)) (Int.toNat s3.1) (Place.mk x9.Code (aJ (s3.2.1+1)) x9.Years x9.Names)) (Int.toNat s3.1) (Place.mk x10.Code x10.Class (Span.mk (aJ ((aJ (s3.2.1+1))+1)) x10.Years.To) x10.Names)) (Int.toNat s3.1) (Place.mk x11.Code x11.Class (Span.mk x11.Years.From (aJ ((aJ ((aJ (s3.2.1+1))+1))+1))) x11.Names))) (f:=ad) (d:=1000000) (k:=2000047) (e:=91) (m:=5) (j:=4) (e':=169) (m':=5) (n':=x12.Names.length) (ss:=[.flat,.flat,.flat,.flat,(.sl 169 5 [.flat,.flat,.flat,.flat,.flat])]) (ss':=[.flat,.flat,.flat,.flat,.flat]) (es':=x12.Names.map ar) (ti:=dd) (y:=oa 169 5 ar x12.Names) hx12 af rfl rfl (.inr ⟨rfl,rfl⟩)) ?_
 refine ab.cl af 1 [0,5,47,48] [1000000,2000047] ?_
 obtain⟨x13,hx13,h⟩:=bind_some h
 refine ab.bx (xe CF (na x12.Names (aJ ((aJ ((aJ ((aJ (s3.2.1+1))+1))+1))+1)) _ hx13)) ?_
 refine ab.le (Ad (L:=(List.set (List.set (List.set (List.set s3.2.2 (Int.toNat s3.1) (Place.mk x7 x8.Class x8.Years x8.Names)) (Int.toNat s3.1) (Place.mk x9.Code (aJ (s3.2.1+1)) x9.Years x9.Names)) (Int.toNat s3.1) (Place.mk x10.Code x10.Class (Span.mk (aJ ((aJ (s3.2.1+1))+1)) x10.Years.To) x10.Names)) (Int.toNat s3.1) (Place.mk x11.Code x11.Class (Span.mk x11.Years.From (aJ ((aJ ((aJ (s3.2.1+1))+1))+1))) x11.Names))) (f:=ad) (x':=(Place.mk x12.Code x12.Class x12.Years x13.2)) (d:=1000000) (k:=2000047) (e:=91) (m:=5) (j:=4) (e':=169) (m':=5) (n':=x13.2.length) (ss:=[.flat,.flat,.flat,.flat,(.sl 169 5 [.flat,.flat,.flat,.flat,.flat])]) (ss':=[.flat,.flat,.flat,.flat,.flat]) (es':=x13.2.map ar) hx12 (b5 bu _)) ?_
 refine ab.cl af 1 [0,1,5] [1000000] ?_
 refine ab.nil ?_
 obtain rfl:=inj h
 exact bT (fu (Le.aq))
 refine aF ?_
 refine ab.cl af 3 [0,1,5] [1000000] ?_
 refine ab.nil ?_
 obtain rfl:=inj h
 exact bZ (Le.aq)
 refine aQ ?_
 obtain rfl:=inj h
 exact cD (cF (cE (fu (Le.aq))))
 refine iR af ⟨51,[(4,vi j1.1)],[(1000000,.deep 91 5 j1.2.length [.flat,.flat,.flat,.flat,(.sl 169 5 [.flat,.flat,.flat,.flat,.flat])] (j1.2.map ad))]⟩ ?_
 refine ag ?_
 obtain rfl:=inj h
 exact aD (we (f1 fv) (y:= .deep 91 5 j1.2.length [.flat,.flat,.flat,.flat,(.sl 169 5 [.flat,.flat,.flat,.flat,.flat])] (j1.2.map ad)) (by kernel_rfl) rfl (by kernel_rfl) (by kernel_rfl))
theorem Cj:a8 Tryz.prog 43:=ax Tryz.func43 (by kernel_rfl) rfl
noncomputable def fM(aA:(List aw))(aK:Int):Option (Int×(List aw)):=
 (((nM (fun(i3:Int) (s3:Int×(List aw))=>(decide (i3<(s3.2.length:Int)))) (fun(i3:Int) (s3:Int×(List aw))=>((bh s3.1).bind fun x7=>((at' s3.2 i3).bind fun x8=>((bh (aJ (s3.1+1))).bind fun x9=>((at' (List.set s3.2 (Int.toNat i3) (aw.mk x7 x8.Parent x8.Years)) i3).bind fun x10=>((at' (List.set (List.set s3.2 (Int.toNat i3) (aw.mk x7 x8.Parent x8.Years)) (Int.toNat i3) (aw.mk x10.Child x9 x10.Years)) i3).bind fun x11=>((at' (List.set (List.set (List.set s3.2 (Int.toNat i3) (aw.mk x7 x8.Parent x8.Years)) (Int.toNat i3) (aw.mk x10.Child x9 x10.Years)) (Int.toNat i3) (aw.mk x11.Child x11.Parent (Span.mk (aJ ((aJ (s3.1+1))+1)) x11.Years.To))) i3).bind fun x12=>some ((aJ ((aJ ((aJ ((aJ (s3.1+1))+1))+1))+1)),(List.set (List.set (List.set (List.set s3.2 (Int.toNat i3) (aw.mk x7 x8.Parent x8.Years)) (Int.toNat i3) (aw.mk x10.Child x9 x10.Years)) (Int.toNat i3) (aw.mk x11.Child x11.Parent (Span.mk (aJ ((aJ (s3.1+1))+1)) x11.Years.To))) (Int.toNat i3) (aw.mk x12.Child x12.Parent (Span.mk x12.Years.From (aJ ((aJ ((aJ (s3.1+1))+1))+1))))))))))))) (fun(s3:Int×(List aw))=>(s3.1,s3.2)) 0 (aK,aA))).bind fun(j1:Int×(List aw))=>some (j1.1,j1.2))
theorem m9(aA:(List aw))(aK:Int)(r:Int×(List aw))(h:fM aA aK=some r):aH Tryz.prog 44 [.o (oa 85 4 ae aA),.v (vi aK)] ⟨[.v (vi r.1)],[(0,oa 85 4 ae r.2)],false⟩:=by
 refine au Tryz.func44 rfl [(.tmp 4)] rfl (fun r=>⟨[.v (vi r.1)],[(0,oa 85 4 ae r.2)],false⟩) (r:=r) ?_
 unfold fM at h
 refine az af [0,1] [1000000] ?_
 refine ac ?_
 refine az af [0,1,5] [1000000] ?_
 refine a7 h (fun j1=>⟨45,[(1,vi j1.1)],[(1000000,oa 85 4 ae j1.2)]⟩) (fun v2 h=> ?_) (fun j1 h=> ?_)
 refine ay (a:=v2) ?_
 refine a6 (r:=v2) (s:=(0,aK,aA)) _ (fun s3=>⟨45,[(0,.own 1000000),(1,vi s3.2.1),(5,vi s3.1)],[(1000000,oa 85 4 ae s3.2.2)]⟩) _ (Le.aq) h (fun s3 v4 h=> ?_)
 refine ac ?_
 refine az af [0,1,5,9] [1000000] ?_
 refine ao h (fun h=> ?_) fun h=> ?_
 refine ai ?_
 refine aY ?_
 refine ac ?_
 refine a7 h (fun j5=>⟨45,[(0,.own 1000000),(1,vi j5.1),(5,vi s3.1)],[(1000000,oa 85 4 ae j5.2)]⟩) (fun v6 h=> ?_) (fun j5 h=> ?_)
 refine ay (a:=v6) ?_
 refine sr ?_
 refine ab.cl af 3 [0,1,5,12,13,14] [1000000] ?_
 obtain⟨x7,hx7,h⟩:=bind_some h
 refine ab.ls (xc kK (bX s3.2.1 _ hx7)) ?_
 obtain⟨x8,hx8,h⟩:=bind_some h
 refine ab.ls (bo (d:=1000000) (L:=s3.2.2) (f:=ae) (ti:=dp) (tj:=dq) (e:=85) (e':=85) (m:=4) (k:= .i64) af rfl hx8) ?_
 refine ab.cl af 1 [0,1,5,15,17] [1000000] ?_
 refine ab.bx (cC (d:=1000000) (m:=4) (j:=0) (L:=s3.2.2) (f:=ae) (x:=(aw.mk x7 x8.Parent x8.Years)) (z:=x8) (ti:=gH) (e:=85) (ts:=[.str x7]) (vs:=[vs x7]) (v:=vs x7) af rfl rfl hx8) ?_
 refine ab.nx ?_
 refine az af [0,1,5] [1000000] ?_
 refine sr ?_
 refine ab.cl af 3 [0,1,5,20,21,22] [1000000] ?_
 obtain⟨x9,hx9,h⟩:=bind_some h
 refine ab.ls (xc kK (bX (aJ (s3.2.1+1)) _ hx9)) ?_
 obtain⟨x10,hx10,h⟩:=bind_some h
 refine ab.ls (bo (d:=1000000) (L:=(List.set s3.2.2 (Int.toNat s3.1) (aw.mk x7 x8.Parent x8.Years))) (f:=ae) (ti:=dp) (tj:=dq) (e:=85) (e':=85) (m:=4) (k:= .i64) af rfl hx10) ?_
 refine ab.cl af 1 [0,1,5,23,25] [1000000] ?_
 refine ab.bx (cC (d:=1000000) (m:=4) (j:=1) (L:=(List.set s3.2.2 (Int.toNat s3.1) (aw.mk x7 x8.Parent x8.Years))) (f:=ae) (x:=(aw.mk x10.Child x9 x10.Years)) (z:=x10) (ti:=gH) (e:=85) (ts:=[.str x9]) (vs:=[vs x9]) (v:=vs x9) af rfl rfl hx10) ?_
 refine ab.nx ?_
 refine az af [0,1,5] [1000000] ?_
 refine sr ?_
 refine ab.cl af 3 [0,1,5,28,29,30] [1000000] ?_
 obtain⟨x11,hx11,h⟩:=bind_some h
 refine ab.ls (bo (d:=1000000) (L:=(List.set (List.set s3.2.2 (Int.toNat s3.1) (aw.mk x7 x8.Parent x8.Years)) (Int.toNat s3.1) (aw.mk x10.Child x9 x10.Years))) (f:=ae) (ti:=dp) (tj:=dq) (e:=85) (e':=85) (m:=4) (k:= .i64) af rfl hx11) ?_
 refine ab.cl af 2 [0,1,5,30,33] [1000000] ?_
 refine ab.bx (cC (d:=1000000) (m:=4) (j:=2) (L:=(List.set (List.set s3.2.2 (Int.toNat s3.1) (aw.mk x7 x8.Parent x8.Years)) (Int.toNat s3.1) (aw.mk x10.Child x9 x10.Years))) (f:=ae) (x:=(aw.mk x11.Child x11.Parent (Span.mk (aJ ((aJ (s3.2.1+1))+1)) x11.Years.To))) (z:=x11) (ti:=ti2) (e:=85) (ts:=[.int .i64 (aJ ((aJ (s3.2.1+1))+1))]) (vs:=[vi (aJ ((aJ (s3.2.1+1))+1))]) (v:=vi (aJ ((aJ (s3.2.1+1))+1))) af rfl rfl hx11) ?_
 refine ab.nx ?_
 refine iR af ⟨45,[(0,.own 1000000),(1,vi (aJ ((aJ ((aJ (s3.2.1+1))+1))+1))),(5,vi s3.1)],[(1000000,oa 85 4 ae (List.set (List.set (List.set s3.2.2 (Int.toNat s3.1) (aw.mk x7 x8.Parent x8.Years)) (Int.toNat s3.1) (aw.mk x10.Child x9 x10.Years)) (Int.toNat s3.1) (aw.mk x11.Child x11.Parent (Span.mk (aJ ((aJ (s3.2.1+1))+1)) x11.Years.To))))]⟩ ?_
 refine sr ?_
 refine ab.cl af 3 [0,1,5,36,37,38] [1000000] ?_
 obtain⟨x12,hx12,h⟩:=bind_some h
 refine ab.ls (bo (d:=1000000) (L:=(List.set (List.set (List.set s3.2.2 (Int.toNat s3.1) (aw.mk x7 x8.Parent x8.Years)) (Int.toNat s3.1) (aw.mk x10.Child x9 x10.Years)) (Int.toNat s3.1) (aw.mk x11.Child x11.Parent (Span.mk (aJ ((aJ (s3.2.1+1))+1)) x11.Years.To)))) (f:=ae) (ti:=dp) (tj:=dq) (e:=85) (e':=85) (m:=4) (k:= .i64) af rfl hx12) ?_
 refine ab.cl af 2 [0,1,5,38,41] [1000000] ?_
 refine ab.bx (cC (d:=1000000) (m:=4) (j:=3) (L:=(List.set (List.set (List.set s3.2.2 (Int.toNat s3.1) (aw.mk x7 x8.Parent x8.Years)) (Int.toNat s3.1) (aw.mk x10.Child x9 x10.Years)) (Int.toNat s3.1) (aw.mk x11.Child x11.Parent (Span.mk (aJ ((aJ (s3.2.1+1))+1)) x11.Years.To)))) (f:=ae) (x:=(aw.mk x12.Child x12.Parent (Span.mk x12.Years.From (aJ ((aJ ((aJ (s3.2.1+1))+1))+1))))) (z:=x12) (ti:=ti2) (e:=85) (ts:=[.int .i64 (aJ ((aJ ((aJ (s3.2.1+1))+1))+1))]) (vs:=[vi (aJ ((aJ ((aJ (s3.2.1+1))+1))+1))]) (v:=vi (aJ ((aJ ((aJ (s3.2.1+1))+1))+1))) af rfl rfl hx12) ?_
 refine ab.nx ?_
 refine aF ?_
 refine ab.cl af 3 [0,1,5] [1000000] ?_
 refine ab.nil ?_
 obtain rfl:=inj h
 exact bT (fu (Le.aq))
 refine aF ?_
 refine ab.cl af 3 [0,1,5] [1000000] ?_
 refine ab.nil ?_
 obtain rfl:=inj h
 exact bZ (Le.aq)
 refine aQ ?_
 obtain rfl:=inj h
 exact cD (cF (cE (fu (Le.aq))))
 refine az af [4] [1000000] ?_
 refine ag ?_
 obtain rfl:=inj h
 exact aD (we (f1 fv) (y:=oa 85 4 ae j1.2) (by kernel_rfl) rfl (by kernel_rfl) (by kernel_rfl))
theorem Ck:a8 Tryz.prog 44:=ax Tryz.func44 (by kernel_rfl) rfl
noncomputable def eD(aA:World)(aK:Int):Option (Int×World):=
 ((ff aA.Places aK).bind fun x1=>((fM aA.Links x1.1).bind fun x2=>some (x2.1,(World.mk x1.2 x2.2))))
theorem kj(aA:World)(aK:Int)(r:Int×World)(h:eD aA aK=some r):jE Tryz.prog 16 [.agg [.own 1000100,.own 1000101],vi aK] [(1000100,.deep 91 5 aA.Places.length [.flat,.flat,.flat,.flat,(.sl 169 5 [.flat,.flat,.flat,.flat,.flat])] (aA.Places.map ad)),(1000101,oa 85 4 ae aA.Links)] [(1000100,.deep 91 5 r.2.Places.length [.flat,.flat,.flat,.flat,(.sl 169 5 [.flat,.flat,.flat,.flat,.flat])] (r.2.Places.map ad)),(1000101,oa 85 4 ae r.2.Links)] [vi r.1]:=by
 refine iO Tryz.func16 rfl [(.tmp 4)] rfl (fun r=>[(1000100,.deep 91 5 r.2.Places.length [.flat,.flat,.flat,.flat,(.sl 169 5 [.flat,.flat,.flat,.flat,.flat])] (r.2.Places.map ad)),(1000101,oa 85 4 ae r.2.Links)]) (fun r=>[vi r.1]) (r:=r) (ci trivial (ci (b5 di _) jM)) ?_
 unfold eD at h
 refine az af [1,2] [2,1000100,1000101] ?_
 refine sr ?_
 refine ab.cl af 3 [2,6,7] [2,1000100,1000101] ?_
 obtain⟨x1,hx1,h⟩:=bind_some h
 refine ab.bx (xe Cj (mK aA.Places aK _ hx1)) ?_
 refine bO af 1 [1,2] [2,1000100,1000101] ?_
 refine sr ?_
 refine ab.cl af 3 [10,11] [1000100,1000101] ?_
 obtain⟨x2,hx2,h⟩:=bind_some h
 refine ab.bx (xe Ck (m9 aA.Links x1.1 _ hx2)) ?_
 refine bO af 1 [1] [1000100,1000101] ?_
 refine az af [4] [1000100,1000101] ?_
 refine ag ?_
 obtain rfl:=inj h
 exact mb (fw af)
theorem yZ:a8 Tryz.prog 16:=ax Tryz.func16 (by kernel_rfl) rfl
noncomputable def ga(aW:World)(aC:Change):Option (World×Int):=
 ((dS aW aC).bind fun x1=>(bif(x1 !=0)then some ((World.mk ([]:List Place) ([]:List aw)),x1)else((dT aW).bind fun x2=>((dJ x2 aC).bind fun x3=>(bif(x3.1 !=0)then some ((World.mk ([]:List Place) ([]:List aw)),x3.1)else some (x3.2,0))))))
theorem jf(aW:World)(aC:Change)(r:World×Int)(h:ga aW aC=some r):aH Tryz.prog 15 [.v (.agg (tc ak aW)),.v (.agg (tc ap aC))] ⟨[.v (.agg (tc ak r.1)),.v (vi r.2)],[],true⟩:=by
 refine au Tryz.func15 rfl [(.cell 4 35),(.tmp 5)] rfl (fun r=>⟨[.v (.agg (tc ak r.1)),.v (vi r.2)],[],true⟩) (r:=r) ?_
 unfold ga at h
 refine az af [2,3,4] [2,3,4] ?_
 refine ac ?_
 refine sr ?_
 refine ab.cl af 2 [2,3,4,9,10] [2,3,4] ?_
 obtain⟨x1,hx1,h⟩:=bind_some h
 refine ab.ls (xc y6 (jH aW aC _ hx1)) ?_
 refine bO af 1 [2,3,4,6] [2,3,4] ?_
 refine az af [2,3,4,6,13] [2,3,4] ?_
 refine ao h (fun h=> ?_) fun h=> ?_
 refine sr ?_
 refine ab.ls (bk (v:= .agg [vl ad ([]:List Place),vl ae ([]:List aw)]) af rfl) ?_
 refine bO af 3 [4,5] [4] ?_
 refine ag ?_
 obtain rfl:=inj h
 exact bw (aD (f2 (kV rfl (cI af (d:=4) (cs:=[vl ad ([]:List Place),vl ae ([]:List aw)]) (ti:=iN) (by kernel_rfl) (by kernel_rfl) (by kernel_rfl) (by kernel_rfl))) ft))
 refine ai ?_
 refine aY ?_
 refine sr ?_
 refine ab.ck af 1 ⟨25,[(3,.ref 3 0),(4,.ref 4 0),(16,.agg (tc ak aW))],[(3,.box (tc ap aC)),(4,.box [vl ad ([]:List Place),vl ae ([]:List aw)])]⟩ ?_
 obtain⟨x2,hx2,h⟩:=bind_some h
 refine ab.bx (x_w [(3000000,24),(3000001,23)] [true] y7 (jI aW _ hx2)) ?_
 refine bO af 2 [3,4,7] [3,4,7,23,24] ?_
 refine ac ?_
 refine sr ?_
 refine ab.ck af 1 ⟨25,[(4,.ref 4 0),(7,.ref 7 0),(18,.agg (tc ap aC))],[(4,.box [vl ad ([]:List Place),vl ae ([]:List aw)]),(7,.box [.own 24,.own 23]),(23,oa 85 4 ae x2.Links),(24,.deep 91 5 x2.Places.length [.flat,.flat,.flat,.flat,(.sl 169 5 [.flat,.flat,.flat,.flat,.flat])] (x2.Places.map ad))]⟩ ?_
 obtain⟨x3,hx3,h⟩:=bind_some h
 refine ab.bx (x_w [(1000000,7),(3000000,24),(3000001,23)] [false,true] y8 (ji x2 aC _ hx3)) ?_
 refine bO af 1 [4,7,8] [4,7,23,24] ?_
 refine az af [4,7,8,21] [4,7,23,24] ?_
 refine ao h (fun h=> ?_) fun h=> ?_
 refine sr ?_
 refine ab.ls (bk (v:= .agg [vl ad ([]:List Place),vl ae ([]:List aw)]) af rfl) ?_
 refine bO af 3 [4,5] [4] ?_
 refine ag ?_
 obtain rfl:=inj h
 exact bw (aD (f2 (kV rfl (cI af (d:=4) (cs:=[vl ad ([]:List Place),vl ae ([]:List aw)]) (ti:=iN) (by kernel_rfl) (by kernel_rfl) (by kernel_rfl) (by kernel_rfl))) ft))
 refine ai ?_
 refine aY ?_
 refine az af [4,5] [4,23,24] ?_
 refine cM (Le.xj (d:=24) (e:=91) (m:=5) (n:=x3.2.Places.length) (ss:=[.flat,.flat,.flat,.flat,(.sl 169 5 [.flat,.flat,.flat,.flat,.flat])]) (es:=x3.2.Places.map ad) (by kernel_rfl) (by kernel_rfl)) ?_
 refine cM (Le.rG (d:=23) (e:=85) (m:=4) (n:=x3.2.Links.length) (es:=x3.2.Links.map ae) (by kernel_rfl) (by kernel_rfl)) ?_
 refine ag ?_
 obtain rfl:=inj h
 exact aD (f2 (kV rfl (cI af (d:=4) (cs:=[vl ad x3.2.Places,vl ae x3.2.Links]) (ti:=iN) (by kernel_rfl) (by kernel_rfl) (by kernel_rfl) (by kernel_rfl))) ft)
noncomputable def df(dw:World)(dh:Change):Option (Bool):=
 ((iA dw 1048576).bind fun x1=>(bif(decide (x1<0))then some true else((gB dh x1).bind fun x2=>(bif(decide (x2<0))then some true else((ea dw).bind fun x3=>((ei dh).bind fun x4=>((eJ x3 x4).bind fun x5=>((iC dw).bind fun x6=>((ei dh).bind fun x7=>((cj x6 x7).bind fun x8=>((((dZ x8.1 x5.1).bind fun x9=>(bif(!x9)then some true else some (x8.2 !=x5.2)))).bind fun(j10:Bool)=>(bif j10 then some false else((ea dw).bind fun x12=>((dZ x6 x12).bind fun x13=>(bif(!x13)then some false else((eD x6 1).bind fun x14=>(((bif(decide (x14.1<0))then some true else((dZ x8.1 x5.1).bind fun x15=>(bif(!x15)then some true else some (x8.2 !=x5.2))))).bind fun(j16:Bool)=>(bif j16 then some false else((eD x8.1 1).bind fun x18=>((eB x18.2 1).bind fun x19=>(bif(decide (x19<0))then some false else(bif(x19 !=x18.1)then some false else((ea dw).bind fun x20=>((ei dh).bind fun x21=>((ga x20 x21).bind fun x22=>((((dZ x22.1 x5.1).bind fun x23=>(bif(!x23)then some true else some (x22.2 !=x5.2)))).bind fun(j24:Bool)=>(bif j24 then some false else((eB x18.2 1).bind fun x26=>(bif(decide (x26<0))then some false else(bif(x26 !=x18.1)then some false else some true))))))))))))))))))))))))))))))
theorem jN(dw:World)(dh:Change)(r:Bool)(h:df dw dh=some r):aH Tryz.prog 4 [.v (.agg (tc ak dw)),.v (.agg (tc ap dh))] ⟨[.v (vb r)],[],false⟩:=by
 refine au Tryz.func4 rfl [(.tmp 4)] rfl (fun r=>⟨[.v (vb r)],[],false⟩) (r:=r) ?_
 unfold df at h
 refine az af [2,3] [2,3] ?_
 refine az af [2,3,5] [2,3] ?_
 refine sr ?_
 refine ab.cl af 2 [2,3,16,17] [2,3] ?_
 obtain⟨x1,hx1,h⟩:=bind_some h
 refine ab.ls (xc C7 (oK dw 1048576 _ hx1)) ?_
 refine bO af 1 [2,3,5] [2,3] ?_
 refine ac ?_
 refine az af [2,3,5,20] [2,3] ?_
 refine ao h (fun h=> ?_) fun h=> ?_
 refine az af [4] [] ?_
 refine ag ?_
 obtain rfl:=inj h
 exact bw (aD (f1 fv))
 refine ai ?_
 refine aY ?_
 refine sr ?_
 refine ab.cl af 2 [2,3,21,22] [2,3] ?_
 obtain⟨x2,hx2,h⟩:=bind_some h
 refine ab.ls (xc C8 (nV dh x1 _ hx2)) ?_
 refine bO af 1 [2,3,5] [2,3] ?_
 refine ac ?_
 refine iR af ⟨109,[(2,.ref 2 0),(3,.ref 3 0),(25,vb (decide (x2<0)))],[(2,.box (tc ak dw)),(3,.box (tc ap dh))]⟩ ?_
 refine ao h (fun h=> ?_) fun h=> ?_
 refine az af [4] [] ?_
 refine ag ?_
 obtain rfl:=inj h
 exact bw (aD (f1 fv))
 refine ai ?_
 refine aY ?_
 refine ac ?_
 obtain⟨x3,hx3,h⟩:=bind_some h
 obtain⟨x4,hx4,h⟩:=bind_some h
 obtain⟨x5,hx5,h⟩:=bind_some h
 refine cL mixed ?_
 refine aR.wc (σE:=⟨109,[(2,.ref 2 0),(3,.ref 3 0),(6,.ref 6 0),(7,vi x5.2)],[(2,.box (tc ak dw)),(3,.box (tc ap dh)),(6,.box (tc ak x5.1))]⟩) (n:=11) (L0:=(bA 11 0)) (by kernel_rfl) (by kernel_rfl) (fun K hk=> ?_) ?_
 refine DE.sh 0 (bA 11 2047) ⟨109,[(2,.ref 2 0),(3,.ref 3 0),(6,.ref 6 0),(7,vi x5.2)],[(2,.box (tc ak dw)),(3,.box (tc ap dh)),(6,.box (tc ak x5.1))]⟩ ?_ fun d26=> ?_
 exact DE.done (by kernel_rfl) hk
 refine DE.sh 1 (bA 11 1023) ⟨109,[(2,.ref 2 0),(3,.ref 3 0),(6,.ref 6 0),(33,vi x5.2)],[(2,.box (tc ak dw)),(3,.box (tc ap dh)),(6,.box (tc ak x5.1))]⟩ ?_ fun d25=> ?_
 exact DE.tk 10 d26 rfl (.inr rfl) (aj.n af)
 refine DE.sh 2 (bA 11 895) ⟨109,[(2,.ref 2 0),(3,.ref 3 0),(6,.ref 6 0),(26,.tup [.agg (tc ak x5.1),vi x5.2])],[(2,.box (tc ak dw)),(3,.box (tc ap dh)),(6,.box (tc ak x5.1))]⟩ ?_ fun d24=> ?_
 exact DE.a1 7 d25 rfl (aj.n af)
 refine DE.sh 2 (bA 11 511) ⟨109,[(2,.ref 2 0),(3,.ref 3 0),(6,.ref 6 0),(32,.agg (tc ak x5.1)),(33,vi x5.2)],[(2,.box (tc ak dw)),(3,.box (tc ap dh)),(6,.box [vl ad ([]:List Place),vl ae ([]:List aw)])]⟩ ?_ fun d23=> ?_
 exact DE.a1 9 d25 rfl (aj.le (dI (d:=6) (k:=0) (ti:=iN) (cs:=[vl ad ([]:List Place),vl ae ([]:List aw)]) (vs:=[vl ad x5.1.Places,vl ae x5.1.Links]) (v:= .agg (tc ak x5.1)) af rfl rfl) Le.aq)
 refine DE.sh 3 (bA 11 447) ⟨109,[(2,.ref 2 0),(3,.ref 3 0),(6,.ref 6 0),(26,.tup [.agg (tc ak x5.1),vi x5.2]),(33,vi x5.2)],[(2,.box (tc ak dw)),(3,.box (tc ap dh)),(6,.box [vl ad ([]:List Place),vl ae ([]:List aw)])]⟩ ?_ fun d22=> ?_
 exact DE.a1 6 d23 rfl (aj.n af)
 refine DE.sh 3 (bA 11 383) ⟨109,[(2,.ref 2 0),(3,.ref 3 0),(6,.ref 6 0),(26,.tup [.agg (tc ak x5.1),vi x5.2]),(32,.agg (tc ak x5.1))],[(2,.box (tc ak dw)),(3,.box (tc ap dh)),(6,.box [vl ad ([]:List Place),vl ae ([]:List aw)])]⟩ ?_ fun d21=> ?_
 exact DE.al (.c 7 d23 rfl (aj.n af) (.c 9 d24 rfl (aj.le (dI (d:=6) (k:=0) (ti:=iN) (cs:=[vl ad ([]:List Place),vl ae ([]:List aw)]) (vs:=[vl ad x5.1.Places,vl ae x5.1.Links]) (v:= .agg (tc ak x5.1)) af rfl rfl) Le.aq) .n))
 refine DE.sh 3 (bA 11 255) ⟨109,[(2,.ref 2 0),(3,.ref 3 0),(32,.agg (tc ak x5.1)),(33,vi x5.2)],[(2,.box (tc ak dw)),(3,.box (tc ap dh))]⟩ ?_ fun d20=> ?_
 exact DE.a1 8 d23 rfl (aj.n af)
 refine DE.sh 4 (bA 11 319) ⟨109,[(2,.ref 2 0),(3,.ref 3 0),(6,.ref 6 0),(26,.tup [.agg (tc ak x5.1),vi x5.2])],[(2,.box (tc ak dw)),(3,.box (tc ap dh)),(6,.box [vl ad ([]:List Place),vl ae ([]:List aw)])]⟩ ?_ fun d19=> ?_
 exact DE.al (.c 6 d21 rfl (aj.n af) (.c 7 d22 rfl (aj.n af) .n))
 refine DE.sh 4 (bA 11 191) ⟨109,[(2,.ref 2 0),(3,.ref 3 0),(26,.tup [.agg (tc ak x5.1),vi x5.2]),(33,vi x5.2)],[(2,.box (tc ak dw)),(3,.box (tc ap dh))]⟩ ?_ fun d18=> ?_
 exact DE.al (.c 6 d20 rfl (aj.n af) (.c 8 d22 rfl (aj.n af) .n))
 refine DE.sh 4 (bA 11 127) ⟨109,[(2,.ref 2 0),(3,.ref 3 0),(26,.tup [.agg (tc ak x5.1),vi x5.2]),(32,.agg (tc ak x5.1))],[(2,.box (tc ak dw)),(3,.box (tc ap dh))]⟩ ?_ fun d17=> ?_
 exact DE.al (.c 7 d20 rfl (aj.n af) (.c 8 d21 rfl (aj.n af) .n))
 refine DE.sh 5 (bA 11 287) ⟨109,[(2,.ref 2 0),(3,.ref 3 0),(6,.ref 6 0),(31,.tup [.agg (tc ak x5.1),vi x5.2])],[(2,.box (tc ak dw)),(3,.box (tc ap dh)),(6,.box [vl ad ([]:List Place),vl ae ([]:List aw)])]⟩ ?_ fun d16=> ?_
 exact DE.tk 5 d19 rfl (.inl rfl) (aj.n af)
 refine DE.sh 5 (bA 11 63) ⟨109,[(2,.ref 2 0),(3,.ref 3 0),(26,.tup [.agg (tc ak x5.1),vi x5.2])],[(2,.box (tc ak dw)),(3,.box (tc ap dh))]⟩ ?_ fun d15=> ?_
 exact DE.al (.c 6 d17 rfl (aj.n af) (.c 7 d18 rfl (aj.n af) (.c 8 d19 rfl (aj.n af) .n)))
 refine DE.sh 6 (bA 11 271) ⟨109,[(2,.ref 2 0),(3,.ref 3 0),(6,.ref 6 0),(28,.agg (tc ak x3)),(30,.agg (tc ap x4))],[(2,.box (tc ak dw)),(3,.box (tc ap dh)),(6,.box [vl ad ([]:List Place),vl ae ([]:List aw)])]⟩ ?_ fun d14=> ?_
 exact DE.a1 4 d16 rfl (aj.l (xc yY (jn x3 x4 _ hx5)))
 refine DE.sh 6 (bA 11 31) ⟨109,[(2,.ref 2 0),(3,.ref 3 0),(31,.tup [.agg (tc ak x5.1),vi x5.2])],[(2,.box (tc ak dw)),(3,.box (tc ap dh))]⟩ ?_ fun d13=> ?_
 exact DE.tk 5 d15 rfl (.inl rfl) (aj.n af)
 refine DE.sh 7 (bA 11 263) ⟨109,[(2,.ref 2 0),(3,.ref 3 0),(6,.ref 6 0),(28,.agg (tc ak x3)),(29,.agg (tc ap dh))],[(2,.box (tc ak dw)),(3,.box (tc ap dh)),(6,.box [vl ad ([]:List Place),vl ae ([]:List aw)])]⟩ ?_ fun d12=> ?_
 exact DE.a1 3 d14 rfl (aj.l (xc lU (cB dh _ hx4)))
 refine DE.sh 7 (bA 11 15) ⟨109,[(2,.ref 2 0),(3,.ref 3 0),(28,.agg (tc ak x3)),(30,.agg (tc ap x4))],[(2,.box (tc ak dw)),(3,.box (tc ap dh))]⟩ ?_ fun d11=> ?_
 exact DE.al (.c 4 d13 rfl (aj.l (xc yY (jn x3 x4 _ hx5))) (.c 8 d14 rfl (aj.n af) .n))
 refine DE.sh 8 (bA 11 261) ⟨109,[(2,.ref 2 0),(3,.ref 3 0),(6,.ref 6 0),(27,.agg (tc ak dw)),(29,.agg (tc ap dh))],[(2,.box (tc ak dw)),(3,.box (tc ap dh)),(6,.box [vl ad ([]:List Place),vl ae ([]:List aw)])]⟩ ?_ fun d10=> ?_
 exact DE.a1 1 d12 rfl (aj.l (xc kb (ca dw _ hx3)))
 refine DE.sh 8 (bA 11 259) ⟨109,[(2,.ref 2 0),(3,.ref 3 0),(6,.ref 6 0),(28,.agg (tc ak x3))],[(2,.box (tc ak dw)),(3,.box (tc ap dh)),(6,.box [vl ad ([]:List Place),vl ae ([]:List aw)])]⟩ ?_ fun d9=> ?_
 exact DE.a1 2 d12 rfl (aj.n af)
 refine DE.sh 8 (bA 11 7) ⟨109,[(2,.ref 2 0),(3,.ref 3 0),(28,.agg (tc ak x3)),(29,.agg (tc ap dh))],[(2,.box (tc ak dw)),(3,.box (tc ap dh))]⟩ ?_ fun d8=> ?_
 exact DE.al (.c 3 d11 rfl (aj.l (xc lU (cB dh _ hx4))) (.c 8 d12 rfl (aj.n af) .n))
 refine DE.sh 9 (bA 11 260) ⟨109,[(2,.ref 2 0),(3,.ref 3 0),(6,.ref 6 0),(29,.agg (tc ap dh))],[(2,.box (tc ak dw)),(3,.box (tc ap dh)),(6,.box [vl ad ([]:List Place),vl ae ([]:List aw)])]⟩ ?_ fun d7=> ?_
 exact DE.a1 0 d10 rfl (aj.n af)
 refine DE.sh 9 (bA 11 257) ⟨109,[(2,.ref 2 0),(3,.ref 3 0),(6,.ref 6 0),(27,.agg (tc ak dw))],[(2,.box (tc ak dw)),(3,.box (tc ap dh)),(6,.box [vl ad ([]:List Place),vl ae ([]:List aw)])]⟩ ?_ fun d6=> ?_
 exact DE.al (.c 1 d9 rfl (aj.l (xc kb (ca dw _ hx3))) (.c 2 d10 rfl (aj.n af) .n))
 refine DE.sh 9 (bA 11 5) ⟨109,[(2,.ref 2 0),(3,.ref 3 0),(27,.agg (tc ak dw)),(29,.agg (tc ap dh))],[(2,.box (tc ak dw)),(3,.box (tc ap dh))]⟩ ?_ fun d5=> ?_
 exact DE.al (.c 1 d8 rfl (aj.l (xc kb (ca dw _ hx3))) (.c 8 d10 rfl (aj.n af) .n))
 refine DE.sh 9 (bA 11 3) ⟨109,[(2,.ref 2 0),(3,.ref 3 0),(28,.agg (tc ak x3))],[(2,.box (tc ak dw)),(3,.box (tc ap dh))]⟩ ?_ fun d4=> ?_
 exact DE.al (.c 2 d8 rfl (aj.n af) (.c 8 d9 rfl (aj.n af) .n))
 refine DE.sh 10 (bA 11 256) ⟨109,[(2,.ref 2 0),(3,.ref 3 0),(6,.ref 6 0)],[(2,.box (tc ak dw)),(3,.box (tc ap dh)),(6,.box [vl ad ([]:List Place),vl ae ([]:List aw)])]⟩ ?_ fun d3=> ?_
 exact DE.al (.c 0 d6 rfl (aj.n af) (.c 2 d7 rfl (aj.n af) .n))
 refine DE.sh 10 (bA 11 4) ⟨109,[(2,.ref 2 0),(3,.ref 3 0),(29,.agg (tc ap dh))],[(2,.box (tc ak dw)),(3,.box (tc ap dh))]⟩ ?_ fun d2=> ?_
 exact DE.al (.c 0 d5 rfl (aj.n af) (.c 8 d7 rfl (aj.n af) .n))
 refine DE.sh 10 (bA 11 1) ⟨109,[(2,.ref 2 0),(3,.ref 3 0),(27,.agg (tc ak dw))],[(2,.box (tc ak dw)),(3,.box (tc ap dh))]⟩ ?_ fun d1=> ?_
 exact DE.al (.c 1 d4 rfl (aj.l (xc kb (ca dw _ hx3))) (.c 2 d5 rfl (aj.n af) (.c 8 d6 rfl (aj.n af) .n)))
 exact DE.al (.c 0 d1 rfl (aj.n af) (.c 2 d2 rfl (aj.n af) (.c 8 d3 rfl (aj.n af) .n)))
 refine aY ?_
 refine sr ?_
 refine ab.ck af 1 ⟨109,[(2,.ref 2 0),(3,.ref 3 0),(6,.ref 6 0),(7,vi x5.2),(34,.agg (tc ak dw))],[(2,.box (tc ak dw)),(3,.box (tc ap dh)),(6,.box (tc ak x5.1))]⟩ ?_
 obtain⟨x6,hx6,h⟩:=bind_some h
 refine ab.bx (x_w [(3000000,108),(3000001,107)] [true] kb (nb dw _ hx6)) ?_
 refine bO af 2 [2,3,6,7,8] [2,3,6,8,107,108] ?_
 refine ac ?_
 obtain⟨x7,hx7,h⟩:=bind_some h
 obtain⟨x8,hx8,h⟩:=bind_some h
 refine cL mixed ?_
 refine aR.wc (σE:=⟨109,[(2,.ref 2 0),(3,.ref 3 0),(6,.ref 6 0),(7,vi x5.2),(8,.ref 8 0),(9,.ref 9 0),(10,vi x8.2)],[(2,.box (tc ak dw)),(3,.box (tc ap dh)),(6,.box (tc ak x5.1)),(8,.box [.own 108,.own 107]),(9,.box [.own 106,.own 105]),(105,oa 85 4 ae x8.1.Links),(106,.deep 91 5 x8.1.Places.length [.flat,.flat,.flat,.flat,(.sl 169 5 [.flat,.flat,.flat,.flat,.flat])] (x8.1.Places.map ad)),(107,oa 85 4 ae x6.Links),(108,.deep 91 5 x6.Places.length [.flat,.flat,.flat,.flat,(.sl 169 5 [.flat,.flat,.flat,.flat,.flat])] (x6.Places.map ad))]⟩) (n:=10) (L0:=(bA 10 0)) (by kernel_rfl) (by kernel_rfl) (fun K hk=> ?_) ?_
 refine DE.sh 0 (bA 10 1023) ⟨109,[(2,.ref 2 0),(3,.ref 3 0),(6,.ref 6 0),(7,vi x5.2),(8,.ref 8 0),(9,.ref 9 0),(10,vi x8.2)],[(2,.box (tc ak dw)),(3,.box (tc ap dh)),(6,.box (tc ak x5.1)),(8,.box [.own 108,.own 107]),(9,.box [.own 106,.own 105]),(105,oa 85 4 ae x8.1.Links),(106,.deep 91 5 x8.1.Places.length [.flat,.flat,.flat,.flat,(.sl 169 5 [.flat,.flat,.flat,.flat,.flat])] (x8.1.Places.map ad)),(107,oa 85 4 ae x6.Links),(108,.deep 91 5 x6.Places.length [.flat,.flat,.flat,.flat,(.sl 169 5 [.flat,.flat,.flat,.flat,.flat])] (x6.Places.map ad))]⟩ ?_ fun d24=> ?_
 exact DE.done (by kernel_rfl) hk
 refine DE.sh 1 (bA 10 511) ⟨109,[(2,.ref 2 0),(3,.ref 3 0),(6,.ref 6 0),(7,vi x5.2),(8,.ref 8 0),(9,.ref 9 0),(42,vi x8.2)],[(2,.box (tc ak dw)),(3,.box (tc ap dh)),(6,.box (tc ak x5.1)),(8,.box [.own 108,.own 107]),(9,.box [.own 106,.own 105]),(105,oa 85 4 ae x8.1.Links),(106,.deep 91 5 x8.1.Places.length [.flat,.flat,.flat,.flat,(.sl 169 5 [.flat,.flat,.flat,.flat,.flat])] (x8.1.Places.map ad)),(107,oa 85 4 ae x6.Links),(108,.deep 91 5 x6.Places.length [.flat,.flat,.flat,.flat,(.sl 169 5 [.flat,.flat,.flat,.flat,.flat])] (x6.Places.map ad))]⟩ ?_ fun d23=> ?_
 exact DE.tk 9 d24 rfl (.inr rfl) (aj.n af)
 refine DE.sh 2 (bA 10 447) ⟨109,[(2,.ref 2 0),(3,.ref 3 0),(6,.ref 6 0),(7,vi x5.2),(8,.ref 8 0),(9,.ref 9 0),(36,.tup [.agg [.own 106,.own 105],vi x8.2])],[(2,.box (tc ak dw)),(3,.box (tc ap dh)),(6,.box (tc ak x5.1)),(8,.box [.own 108,.own 107]),(9,.box [.own 106,.own 105]),(105,oa 85 4 ae x8.1.Links),(106,.deep 91 5 x8.1.Places.length [.flat,.flat,.flat,.flat,(.sl 169 5 [.flat,.flat,.flat,.flat,.flat])] (x8.1.Places.map ad)),(107,oa 85 4 ae x6.Links),(108,.deep 91 5 x6.Places.length [.flat,.flat,.flat,.flat,(.sl 169 5 [.flat,.flat,.flat,.flat,.flat])] (x6.Places.map ad))]⟩ ?_ fun d22=> ?_
 exact DE.a1 6 d23 rfl (aj.n af)
 refine DE.sh 2 (bA 10 255) ⟨109,[(2,.ref 2 0),(3,.ref 3 0),(6,.ref 6 0),(7,vi x5.2),(8,.ref 8 0),(9,.ref 9 0),(41,.agg [.own 106,.own 105]),(42,vi x8.2)],[(2,.box (tc ak dw)),(3,.box (tc ap dh)),(6,.box (tc ak x5.1)),(8,.box [.own 108,.own 107]),(9,.box [vl ad ([]:List Place),vl ae ([]:List aw)]),(105,oa 85 4 ae x8.1.Links),(106,.deep 91 5 x8.1.Places.length [.flat,.flat,.flat,.flat,(.sl 169 5 [.flat,.flat,.flat,.flat,.flat])] (x8.1.Places.map ad)),(107,oa 85 4 ae x6.Links),(108,.deep 91 5 x6.Places.length [.flat,.flat,.flat,.flat,(.sl 169 5 [.flat,.flat,.flat,.flat,.flat])] (x6.Places.map ad))]⟩ ?_ fun d21=> ?_
 exact DE.a1 8 d23 rfl (aj.le (dI (d:=9) (k:=0) (ti:=iN) (cs:=[vl ad ([]:List Place),vl ae ([]:List aw)]) (vs:=[.own 106,.own 105]) (v:= .agg [.own 106,.own 105]) af rfl rfl) Le.aq)
 refine DE.sh 3 (bA 10 223) ⟨109,[(2,.ref 2 0),(3,.ref 3 0),(6,.ref 6 0),(7,vi x5.2),(8,.ref 8 0),(9,.ref 9 0),(36,.tup [.agg [.own 106,.own 105],vi x8.2]),(42,vi x8.2)],[(2,.box (tc ak dw)),(3,.box (tc ap dh)),(6,.box (tc ak x5.1)),(8,.box [.own 108,.own 107]),(9,.box [vl ad ([]:List Place),vl ae ([]:List aw)]),(105,oa 85 4 ae x8.1.Links),(106,.deep 91 5 x8.1.Places.length [.flat,.flat,.flat,.flat,(.sl 169 5 [.flat,.flat,.flat,.flat,.flat])] (x8.1.Places.map ad)),(107,oa 85 4 ae x6.Links),(108,.deep 91 5 x6.Places.length [.flat,.flat,.flat,.flat,(.sl 169 5 [.flat,.flat,.flat,.flat,.flat])] (x6.Places.map ad))]⟩ ?_ fun d20=> ?_
 exact DE.a1 5 d21 rfl (aj.n af)
 refine DE.sh 3 (bA 10 191) ⟨109,[(2,.ref 2 0),(3,.ref 3 0),(6,.ref 6 0),(7,vi x5.2),(8,.ref 8 0),(9,.ref 9 0),(36,.tup [.agg [.own 106,.own 105],vi x8.2]),(41,.agg [.own 106,.own 105])],[(2,.box (tc ak dw)),(3,.box (tc ap dh)),(6,.box (tc ak x5.1)),(8,.box [.own 108,.own 107]),(9,.box [vl ad ([]:List Place),vl ae ([]:List aw)]),(105,oa 85 4 ae x8.1.Links),(106,.deep 91 5 x8.1.Places.length [.flat,.flat,.flat,.flat,(.sl 169 5 [.flat,.flat,.flat,.flat,.flat])] (x8.1.Places.map ad)),(107,oa 85 4 ae x6.Links),(108,.deep 91 5 x6.Places.length [.flat,.flat,.flat,.flat,(.sl 169 5 [.flat,.flat,.flat,.flat,.flat])] (x6.Places.map ad))]⟩ ?_ fun d19=> ?_
 exact DE.al (.c 6 d21 rfl (aj.n af) (.c 8 d22 rfl (aj.le (dI (d:=9) (k:=0) (ti:=iN) (cs:=[vl ad ([]:List Place),vl ae ([]:List aw)]) (vs:=[.own 106,.own 105]) (v:= .agg [.own 106,.own 105]) af rfl rfl) Le.aq) .n))
 refine DE.sh 3 (bA 10 127) ⟨109,[(2,.ref 2 0),(3,.ref 3 0),(6,.ref 6 0),(7,vi x5.2),(8,.ref 8 0),(41,.agg [.own 106,.own 105]),(42,vi x8.2)],[(2,.box (tc ak dw)),(3,.box (tc ap dh)),(6,.box (tc ak x5.1)),(8,.box [.own 108,.own 107]),(105,oa 85 4 ae x8.1.Links),(106,.deep 91 5 x8.1.Places.length [.flat,.flat,.flat,.flat,(.sl 169 5 [.flat,.flat,.flat,.flat,.flat])] (x8.1.Places.map ad)),(107,oa 85 4 ae x6.Links),(108,.deep 91 5 x6.Places.length [.flat,.flat,.flat,.flat,(.sl 169 5 [.flat,.flat,.flat,.flat,.flat])] (x6.Places.map ad))]⟩ ?_ fun d18=> ?_
 exact DE.a1 7 d21 rfl (aj.n af)
 refine DE.sh 4 (bA 10 159) ⟨109,[(2,.ref 2 0),(3,.ref 3 0),(6,.ref 6 0),(7,vi x5.2),(8,.ref 8 0),(9,.ref 9 0),(36,.tup [.agg [.own 106,.own 105],vi x8.2])],[(2,.box (tc ak dw)),(3,.box (tc ap dh)),(6,.box (tc ak x5.1)),(8,.box [.own 108,.own 107]),(9,.box [vl ad ([]:List Place),vl ae ([]:List aw)]),(105,oa 85 4 ae x8.1.Links),(106,.deep 91 5 x8.1.Places.length [.flat,.flat,.flat,.flat,(.sl 169 5 [.flat,.flat,.flat,.flat,.flat])] (x8.1.Places.map ad)),(107,oa 85 4 ae x6.Links),(108,.deep 91 5 x6.Places.length [.flat,.flat,.flat,.flat,(.sl 169 5 [.flat,.flat,.flat,.flat,.flat])] (x6.Places.map ad))]⟩ ?_ fun d17=> ?_
 exact DE.al (.c 5 d19 rfl (aj.n af) (.c 6 d20 rfl (aj.n af) .n))
 refine DE.sh 4 (bA 10 95) ⟨109,[(2,.ref 2 0),(3,.ref 3 0),(6,.ref 6 0),(7,vi x5.2),(8,.ref 8 0),(36,.tup [.agg [.own 106,.own 105],vi x8.2]),(42,vi x8.2)],[(2,.box (tc ak dw)),(3,.box (tc ap dh)),(6,.box (tc ak x5.1)),(8,.box [.own 108,.own 107]),(105,oa 85 4 ae x8.1.Links),(106,.deep 91 5 x8.1.Places.length [.flat,.flat,.flat,.flat,(.sl 169 5 [.flat,.flat,.flat,.flat,.flat])] (x8.1.Places.map ad)),(107,oa 85 4 ae x6.Links),(108,.deep 91 5 x6.Places.length [.flat,.flat,.flat,.flat,(.sl 169 5 [.flat,.flat,.flat,.flat,.flat])] (x6.Places.map ad))]⟩ ?_ fun d16=> ?_
 exact DE.al (.c 5 d18 rfl (aj.n af) (.c 7 d20 rfl (aj.n af) .n))
 refine DE.sh 4 (bA 10 63) ⟨109,[(2,.ref 2 0),(3,.ref 3 0),(6,.ref 6 0),(7,vi x5.2),(8,.ref 8 0),(36,.tup [.agg [.own 106,.own 105],vi x8.2]),(41,.agg [.own 106,.own 105])],[(2,.box (tc ak dw)),(3,.box (tc ap dh)),(6,.box (tc ak x5.1)),(8,.box [.own 108,.own 107]),(105,oa 85 4 ae x8.1.Links),(106,.deep 91 5 x8.1.Places.length [.flat,.flat,.flat,.flat,(.sl 169 5 [.flat,.flat,.flat,.flat,.flat])] (x8.1.Places.map ad)),(107,oa 85 4 ae x6.Links),(108,.deep 91 5 x6.Places.length [.flat,.flat,.flat,.flat,(.sl 169 5 [.flat,.flat,.flat,.flat,.flat])] (x6.Places.map ad))]⟩ ?_ fun d15=> ?_
 exact DE.al (.c 6 d18 rfl (aj.n af) (.c 7 d19 rfl (aj.n af) .n))
 refine DE.sh 5 (bA 10 143) ⟨109,[(2,.ref 2 0),(3,.ref 3 0),(6,.ref 6 0),(7,vi x5.2),(8,.ref 8 0),(9,.ref 9 0),(40,.tup [.agg [.own 106,.own 105],vi x8.2])],[(2,.box (tc ak dw)),(3,.box (tc ap dh)),(6,.box (tc ak x5.1)),(8,.box [.own 108,.own 107]),(9,.box [vl ad ([]:List Place),vl ae ([]:List aw)]),(105,oa 85 4 ae x8.1.Links),(106,.deep 91 5 x8.1.Places.length [.flat,.flat,.flat,.flat,(.sl 169 5 [.flat,.flat,.flat,.flat,.flat])] (x8.1.Places.map ad)),(107,oa 85 4 ae x6.Links),(108,.deep 91 5 x6.Places.length [.flat,.flat,.flat,.flat,(.sl 169 5 [.flat,.flat,.flat,.flat,.flat])] (x6.Places.map ad))]⟩ ?_ fun d14=> ?_
 exact DE.tk 4 d17 rfl (.inl rfl) (aj.n af)
 refine DE.sh 5 (bA 10 31) ⟨109,[(2,.ref 2 0),(3,.ref 3 0),(6,.ref 6 0),(7,vi x5.2),(8,.ref 8 0),(36,.tup [.agg [.own 106,.own 105],vi x8.2])],[(2,.box (tc ak dw)),(3,.box (tc ap dh)),(6,.box (tc ak x5.1)),(8,.box [.own 108,.own 107]),(105,oa 85 4 ae x8.1.Links),(106,.deep 91 5 x8.1.Places.length [.flat,.flat,.flat,.flat,(.sl 169 5 [.flat,.flat,.flat,.flat,.flat])] (x8.1.Places.map ad)),(107,oa 85 4 ae x6.Links),(108,.deep 91 5 x6.Places.length [.flat,.flat,.flat,.flat,(.sl 169 5 [.flat,.flat,.flat,.flat,.flat])] (x6.Places.map ad))]⟩ ?_ fun d13=> ?_
 exact DE.al (.c 5 d15 rfl (aj.n af) (.c 6 d16 rfl (aj.n af) (.c 7 d17 rfl (aj.n af) .n)))
 refine DE.sh 6 (bA 10 135) ⟨109,[(2,.ref 2 0),(3,.ref 3 0),(6,.ref 6 0),(7,vi x5.2),(8,.ref 8 0),(9,.ref 9 0),(37,.agg [.own 108,.own 107]),(39,.agg (tc ap x7))],[(2,.box (tc ak dw)),(3,.box (tc ap dh)),(6,.box (tc ak x5.1)),(8,.box [.own 108,.own 107]),(9,.box [vl ad ([]:List Place),vl ae ([]:List aw)]),(107,oa 85 4 ae x6.Links),(108,.deep 91 5 x6.Places.length [.flat,.flat,.flat,.flat,(.sl 169 5 [.flat,.flat,.flat,.flat,.flat])] (x6.Places.map ad))]⟩ ?_ fun d12=> ?_
 exact DE.a1 3 d14 rfl (aj.le (x_w [(3000000,106),(3000001,105)] [true,true] sN (ig x6 x7 _ hx8)) Le.aq)
 refine DE.sh 6 (bA 10 15) ⟨109,[(2,.ref 2 0),(3,.ref 3 0),(6,.ref 6 0),(7,vi x5.2),(8,.ref 8 0),(40,.tup [.agg [.own 106,.own 105],vi x8.2])],[(2,.box (tc ak dw)),(3,.box (tc ap dh)),(6,.box (tc ak x5.1)),(8,.box [.own 108,.own 107]),(105,oa 85 4 ae x8.1.Links),(106,.deep 91 5 x8.1.Places.length [.flat,.flat,.flat,.flat,(.sl 169 5 [.flat,.flat,.flat,.flat,.flat])] (x8.1.Places.map ad)),(107,oa 85 4 ae x6.Links),(108,.deep 91 5 x6.Places.length [.flat,.flat,.flat,.flat,(.sl 169 5 [.flat,.flat,.flat,.flat,.flat])] (x6.Places.map ad))]⟩ ?_ fun d11=> ?_
 exact DE.tk 4 d13 rfl (.inl rfl) (aj.n af)
 refine DE.sh 7 (bA 10 134) ⟨109,[(2,.ref 2 0),(3,.ref 3 0),(6,.ref 6 0),(7,vi x5.2),(8,.ref 8 0),(9,.ref 9 0),(39,.agg (tc ap x7))],[(2,.box (tc ak dw)),(3,.box (tc ap dh)),(6,.box (tc ak x5.1)),(8,.box [.own 108,.own 107]),(9,.box [vl ad ([]:List Place),vl ae ([]:List aw)]),(107,oa 85 4 ae x6.Links),(108,.deep 91 5 x6.Places.length [.flat,.flat,.flat,.flat,(.sl 169 5 [.flat,.flat,.flat,.flat,.flat])] (x6.Places.map ad))]⟩ ?_ fun d10=> ?_
 exact DE.a1 0 d12 rfl (aj.n af)
 refine DE.sh 7 (bA 10 131) ⟨109,[(2,.ref 2 0),(3,.ref 3 0),(6,.ref 6 0),(7,vi x5.2),(8,.ref 8 0),(9,.ref 9 0),(37,.agg [.own 108,.own 107]),(38,.agg (tc ap dh))],[(2,.box (tc ak dw)),(3,.box (tc ap dh)),(6,.box (tc ak x5.1)),(8,.box [.own 108,.own 107]),(9,.box [vl ad ([]:List Place),vl ae ([]:List aw)]),(107,oa 85 4 ae x6.Links),(108,.deep 91 5 x6.Places.length [.flat,.flat,.flat,.flat,(.sl 169 5 [.flat,.flat,.flat,.flat,.flat])] (x6.Places.map ad))]⟩ ?_ fun d9=> ?_
 exact DE.a1 2 d12 rfl (aj.l (xc lU (cB dh _ hx7)))
 refine DE.sh 7 (bA 10 7) ⟨109,[(2,.ref 2 0),(3,.ref 3 0),(6,.ref 6 0),(7,vi x5.2),(8,.ref 8 0),(37,.agg [.own 108,.own 107]),(39,.agg (tc ap x7))],[(2,.box (tc ak dw)),(3,.box (tc ap dh)),(6,.box (tc ak x5.1)),(8,.box [.own 108,.own 107]),(107,oa 85 4 ae x6.Links),(108,.deep 91 5 x6.Places.length [.flat,.flat,.flat,.flat,(.sl 169 5 [.flat,.flat,.flat,.flat,.flat])] (x6.Places.map ad))]⟩ ?_ fun d8=> ?_
 exact DE.al (.c 3 d11 rfl (aj.le (x_w [(3000000,106),(3000001,105)] [true,true] sN (ig x6 x7 _ hx8)) Le.aq) (.c 7 d12 rfl (aj.n af) .n))
 refine DE.sh 8 (bA 10 130) ⟨109,[(2,.ref 2 0),(3,.ref 3 0),(6,.ref 6 0),(7,vi x5.2),(8,.ref 8 0),(9,.ref 9 0),(38,.agg (tc ap dh))],[(2,.box (tc ak dw)),(3,.box (tc ap dh)),(6,.box (tc ak x5.1)),(8,.box [.own 108,.own 107]),(9,.box [vl ad ([]:List Place),vl ae ([]:List aw)]),(107,oa 85 4 ae x6.Links),(108,.deep 91 5 x6.Places.length [.flat,.flat,.flat,.flat,(.sl 169 5 [.flat,.flat,.flat,.flat,.flat])] (x6.Places.map ad))]⟩ ?_ fun d7=> ?_
 exact DE.al (.c 0 d9 rfl (aj.n af) (.c 2 d10 rfl (aj.l (xc lU (cB dh _ hx7))) .n))
 refine DE.sh 8 (bA 10 6) ⟨109,[(2,.ref 2 0),(3,.ref 3 0),(6,.ref 6 0),(7,vi x5.2),(8,.ref 8 0),(39,.agg (tc ap x7))],[(2,.box (tc ak dw)),(3,.box (tc ap dh)),(6,.box (tc ak x5.1)),(8,.box [.own 108,.own 107]),(107,oa 85 4 ae x6.Links),(108,.deep 91 5 x6.Places.length [.flat,.flat,.flat,.flat,(.sl 169 5 [.flat,.flat,.flat,.flat,.flat])] (x6.Places.map ad))]⟩ ?_ fun d6=> ?_
 exact DE.al (.c 0 d8 rfl (aj.n af) (.c 7 d10 rfl (aj.n af) .n))
 refine DE.sh 8 (bA 10 129) ⟨109,[(2,.ref 2 0),(3,.ref 3 0),(6,.ref 6 0),(7,vi x5.2),(8,.ref 8 0),(9,.ref 9 0),(37,.agg [.own 108,.own 107])],[(2,.box (tc ak dw)),(3,.box (tc ap dh)),(6,.box (tc ak x5.1)),(8,.box [.own 108,.own 107]),(9,.box [vl ad ([]:List Place),vl ae ([]:List aw)]),(107,oa 85 4 ae x6.Links),(108,.deep 91 5 x6.Places.length [.flat,.flat,.flat,.flat,(.sl 169 5 [.flat,.flat,.flat,.flat,.flat])] (x6.Places.map ad))]⟩ ?_ fun d5=> ?_
 exact DE.a1 1 d9 rfl (aj.n af)
 refine DE.sh 8 (bA 10 3) ⟨109,[(2,.ref 2 0),(3,.ref 3 0),(6,.ref 6 0),(7,vi x5.2),(8,.ref 8 0),(37,.agg [.own 108,.own 107]),(38,.agg (tc ap dh))],[(2,.box (tc ak dw)),(3,.box (tc ap dh)),(6,.box (tc ak x5.1)),(8,.box [.own 108,.own 107]),(107,oa 85 4 ae x6.Links),(108,.deep 91 5 x6.Places.length [.flat,.flat,.flat,.flat,(.sl 169 5 [.flat,.flat,.flat,.flat,.flat])] (x6.Places.map ad))]⟩ ?_ fun d4=> ?_
 exact DE.al (.c 2 d8 rfl (aj.l (xc lU (cB dh _ hx7))) (.c 7 d9 rfl (aj.n af) .n))
 refine DE.sh 9 (bA 10 128) ⟨109,[(2,.ref 2 0),(3,.ref 3 0),(6,.ref 6 0),(7,vi x5.2),(8,.ref 8 0),(9,.ref 9 0)],[(2,.box (tc ak dw)),(3,.box (tc ap dh)),(6,.box (tc ak x5.1)),(8,.box [.own 108,.own 107]),(9,.box [vl ad ([]:List Place),vl ae ([]:List aw)]),(107,oa 85 4 ae x6.Links),(108,.deep 91 5 x6.Places.length [.flat,.flat,.flat,.flat,(.sl 169 5 [.flat,.flat,.flat,.flat,.flat])] (x6.Places.map ad))]⟩ ?_ fun d3=> ?_
 exact DE.al (.c 0 d5 rfl (aj.n af) (.c 1 d7 rfl (aj.n af) .n))
 refine DE.sh 9 (bA 10 2) ⟨109,[(2,.ref 2 0),(3,.ref 3 0),(6,.ref 6 0),(7,vi x5.2),(8,.ref 8 0),(38,.agg (tc ap dh))],[(2,.box (tc ak dw)),(3,.box (tc ap dh)),(6,.box (tc ak x5.1)),(8,.box [.own 108,.own 107]),(107,oa 85 4 ae x6.Links),(108,.deep 91 5 x6.Places.length [.flat,.flat,.flat,.flat,(.sl 169 5 [.flat,.flat,.flat,.flat,.flat])] (x6.Places.map ad))]⟩ ?_ fun d2=> ?_
 exact DE.al (.c 0 d4 rfl (aj.n af) (.c 2 d6 rfl (aj.l (xc lU (cB dh _ hx7))) (.c 7 d7 rfl (aj.n af) .n)))
 refine DE.sh 9 (bA 10 1) ⟨109,[(2,.ref 2 0),(3,.ref 3 0),(6,.ref 6 0),(7,vi x5.2),(8,.ref 8 0),(37,.agg [.own 108,.own 107])],[(2,.box (tc ak dw)),(3,.box (tc ap dh)),(6,.box (tc ak x5.1)),(8,.box [.own 108,.own 107]),(107,oa 85 4 ae x6.Links),(108,.deep 91 5 x6.Places.length [.flat,.flat,.flat,.flat,(.sl 169 5 [.flat,.flat,.flat,.flat,.flat])] (x6.Places.map ad))]⟩ ?_ fun d1=> ?_
 exact DE.al (.c 1 d4 rfl (aj.n af) (.c 7 d5 rfl (aj.n af) .n))
 exact DE.al (.c 0 d1 rfl (aj.n af) (.c 1 d2 rfl (aj.n af) (.c 7 d3 rfl (aj.n af) .n)))
 refine aY ?_
 refine ac ?_
 refine ac ?_
 refine bj h (fun j10=>⟨109,[(2,.ref 2 0),(3,.ref 3 0),(6,.ref 6 0),(7,vi x5.2),(8,.ref 8 0),(9,.ref 9 0),(10,vi x8.2),(51,vb j10)],[(2,.box (tc ak dw)),(3,.box (tc ap dh)),(6,.box (tc ak x5.1)),(8,.box [.own 108,.own 107]),(9,.box [.own 106,.own 105]),(105,oa 85 4 ae x8.1.Links),(106,.deep 91 5 x8.1.Places.length [.flat,.flat,.flat,.flat,(.sl 169 5 [.flat,.flat,.flat,.flat,.flat])] (x8.1.Places.map ad)),(107,oa 85 4 ae x6.Links),(108,.deep 91 5 x6.Places.length [.flat,.flat,.flat,.flat,(.sl 169 5 [.flat,.flat,.flat,.flat,.flat])] (x6.Places.map ad))]⟩) (fun v11 h=> ?_) (fun j10 h=> ?_)
 refine ab.cl af 2 [2,3,6,7,8,9,10,43,44] [2,3,6,8,9,105,106,107,108] ?_
 obtain⟨x9,hx9,h⟩:=bind_some h
 refine ab.ls (xc sJ (gi x8.1 x5.1 _ hx9)) ?_
 refine ab.cl af 2 [2,3,6,7,8,9,10,47] [2,3,6,8,9,105,106,107,108] ?_
 refine ab.cu [(47,fun b=>b)] h (fun h=> ?_) fun h=> ?_
 refine ab.cl af 4 [2,3,6,7,8,9,10,51] [2,3,6,8,9,105,106,107,108] ?_
 refine ab.nil ?_
 obtain rfl:=inj h
 exact Le.aq
 refine ab.cl af 4 [2,3,6,7,8,9,10,51] [2,3,6,8,9,105,106,107,108] ?_
 refine ab.nil ?_
 obtain rfl:=inj h
 exact Le.aq
 refine ao h (fun h=> ?_) fun h=> ?_
 refine az af [4] [] ?_
 refine ag ?_
 obtain rfl:=inj h
 exact bw (aD (f1 fv))
 refine ai ?_
 refine aY ?_
 refine ac ?_
 refine ac ?_
 obtain⟨x12,hx12,h⟩:=bind_some h
 obtain⟨x13,hx13,h⟩:=bind_some h
 refine cL mixed ?_
 refine aR.wc (σE:=⟨109,[(2,.ref 2 0),(3,.ref 3 0),(6,.ref 6 0),(7,vi x5.2),(8,.ref 8 0),(9,.ref 9 0),(10,vi x8.2),(56,vb (!x13))],[(2,.box (tc ak dw)),(3,.box (tc ap dh)),(6,.box (tc ak x5.1)),(8,.box [.own 108,.own 107]),(9,.box [.own 106,.own 105]),(105,oa 85 4 ae x8.1.Links),(106,.deep 91 5 x8.1.Places.length [.flat,.flat,.flat,.flat,(.sl 169 5 [.flat,.flat,.flat,.flat,.flat])] (x8.1.Places.map ad)),(107,oa 85 4 ae x6.Links),(108,.deep 91 5 x6.Places.length [.flat,.flat,.flat,.flat,(.sl 169 5 [.flat,.flat,.flat,.flat,.flat])] (x6.Places.map ad))]⟩) (n:=5) (L0:=(bA 5 0)) (by kernel_rfl) (by kernel_rfl) (fun K hk=> ?_) ?_
 refine DE.sh 0 (bA 5 31) ⟨109,[(2,.ref 2 0),(3,.ref 3 0),(6,.ref 6 0),(7,vi x5.2),(8,.ref 8 0),(9,.ref 9 0),(10,vi x8.2),(56,vb (!x13))],[(2,.box (tc ak dw)),(3,.box (tc ap dh)),(6,.box (tc ak x5.1)),(8,.box [.own 108,.own 107]),(9,.box [.own 106,.own 105]),(105,oa 85 4 ae x8.1.Links),(106,.deep 91 5 x8.1.Places.length [.flat,.flat,.flat,.flat,(.sl 169 5 [.flat,.flat,.flat,.flat,.flat])] (x8.1.Places.map ad)),(107,oa 85 4 ae x6.Links),(108,.deep 91 5 x6.Places.length [.flat,.flat,.flat,.flat,(.sl 169 5 [.flat,.flat,.flat,.flat,.flat])] (x6.Places.map ad))]⟩ ?_ fun d7=> ?_
 exact DE.done (by kernel_rfl) hk
 refine DE.sh 1 (bA 5 15) ⟨109,[(2,.ref 2 0),(3,.ref 3 0),(6,.ref 6 0),(7,vi x5.2),(8,.ref 8 0),(9,.ref 9 0),(10,vi x8.2),(55,vb x13)],[(2,.box (tc ak dw)),(3,.box (tc ap dh)),(6,.box (tc ak x5.1)),(8,.box [.own 108,.own 107]),(9,.box [.own 106,.own 105]),(105,oa 85 4 ae x8.1.Links),(106,.deep 91 5 x8.1.Places.length [.flat,.flat,.flat,.flat,(.sl 169 5 [.flat,.flat,.flat,.flat,.flat])] (x8.1.Places.map ad)),(107,oa 85 4 ae x6.Links),(108,.deep 91 5 x6.Places.length [.flat,.flat,.flat,.flat,(.sl 169 5 [.flat,.flat,.flat,.flat,.flat])] (x6.Places.map ad))]⟩ ?_ fun d6=> ?_
 exact DE.a1 4 d7 rfl (aj.n af)
 refine DE.sh 2 (bA 5 7) ⟨109,[(2,.ref 2 0),(3,.ref 3 0),(6,.ref 6 0),(7,vi x5.2),(8,.ref 8 0),(9,.ref 9 0),(10,vi x8.2),(52,.agg [.own 108,.own 107]),(54,.agg (tc ak x12))],[(2,.box (tc ak dw)),(3,.box (tc ap dh)),(6,.box (tc ak x5.1)),(8,.box [.own 108,.own 107]),(9,.box [.own 106,.own 105]),(105,oa 85 4 ae x8.1.Links),(106,.deep 91 5 x8.1.Places.length [.flat,.flat,.flat,.flat,(.sl 169 5 [.flat,.flat,.flat,.flat,.flat])] (x8.1.Places.map ad)),(107,oa 85 4 ae x6.Links),(108,.deep 91 5 x6.Places.length [.flat,.flat,.flat,.flat,(.sl 169 5 [.flat,.flat,.flat,.flat,.flat])] (x6.Places.map ad))]⟩ ?_ fun d5=> ?_
 exact DE.a1 3 d6 rfl (aj.l (xc sJ (gi x6 x12 _ hx13)))
 refine DE.sh 3 (bA 5 6) ⟨109,[(2,.ref 2 0),(3,.ref 3 0),(6,.ref 6 0),(7,vi x5.2),(8,.ref 8 0),(9,.ref 9 0),(10,vi x8.2),(54,.agg (tc ak x12))],[(2,.box (tc ak dw)),(3,.box (tc ap dh)),(6,.box (tc ak x5.1)),(8,.box [.own 108,.own 107]),(9,.box [.own 106,.own 105]),(105,oa 85 4 ae x8.1.Links),(106,.deep 91 5 x8.1.Places.length [.flat,.flat,.flat,.flat,(.sl 169 5 [.flat,.flat,.flat,.flat,.flat])] (x8.1.Places.map ad)),(107,oa 85 4 ae x6.Links),(108,.deep 91 5 x6.Places.length [.flat,.flat,.flat,.flat,(.sl 169 5 [.flat,.flat,.flat,.flat,.flat])] (x6.Places.map ad))]⟩ ?_ fun d4=> ?_
 exact DE.a1 0 d5 rfl (aj.n af)
 refine DE.sh 3 (bA 5 3) ⟨109,[(2,.ref 2 0),(3,.ref 3 0),(6,.ref 6 0),(7,vi x5.2),(8,.ref 8 0),(9,.ref 9 0),(10,vi x8.2),(52,.agg [.own 108,.own 107]),(53,.agg (tc ak dw))],[(2,.box (tc ak dw)),(3,.box (tc ap dh)),(6,.box (tc ak x5.1)),(8,.box [.own 108,.own 107]),(9,.box [.own 106,.own 105]),(105,oa 85 4 ae x8.1.Links),(106,.deep 91 5 x8.1.Places.length [.flat,.flat,.flat,.flat,(.sl 169 5 [.flat,.flat,.flat,.flat,.flat])] (x8.1.Places.map ad)),(107,oa 85 4 ae x6.Links),(108,.deep 91 5 x6.Places.length [.flat,.flat,.flat,.flat,(.sl 169 5 [.flat,.flat,.flat,.flat,.flat])] (x6.Places.map ad))]⟩ ?_ fun d3=> ?_
 exact DE.a1 2 d5 rfl (aj.l (xc kb (ca dw _ hx12)))
 refine DE.sh 4 (bA 5 2) ⟨109,[(2,.ref 2 0),(3,.ref 3 0),(6,.ref 6 0),(7,vi x5.2),(8,.ref 8 0),(9,.ref 9 0),(10,vi x8.2),(53,.agg (tc ak dw))],[(2,.box (tc ak dw)),(3,.box (tc ap dh)),(6,.box (tc ak x5.1)),(8,.box [.own 108,.own 107]),(9,.box [.own 106,.own 105]),(105,oa 85 4 ae x8.1.Links),(106,.deep 91 5 x8.1.Places.length [.flat,.flat,.flat,.flat,(.sl 169 5 [.flat,.flat,.flat,.flat,.flat])] (x8.1.Places.map ad)),(107,oa 85 4 ae x6.Links),(108,.deep 91 5 x6.Places.length [.flat,.flat,.flat,.flat,(.sl 169 5 [.flat,.flat,.flat,.flat,.flat])] (x6.Places.map ad))]⟩ ?_ fun d2=> ?_
 exact DE.al (.c 0 d3 rfl (aj.n af) (.c 2 d4 rfl (aj.l (xc kb (ca dw _ hx12))) .n))
 refine DE.sh 4 (bA 5 1) ⟨109,[(2,.ref 2 0),(3,.ref 3 0),(6,.ref 6 0),(7,vi x5.2),(8,.ref 8 0),(9,.ref 9 0),(10,vi x8.2),(52,.agg [.own 108,.own 107])],[(2,.box (tc ak dw)),(3,.box (tc ap dh)),(6,.box (tc ak x5.1)),(8,.box [.own 108,.own 107]),(9,.box [.own 106,.own 105]),(105,oa 85 4 ae x8.1.Links),(106,.deep 91 5 x8.1.Places.length [.flat,.flat,.flat,.flat,(.sl 169 5 [.flat,.flat,.flat,.flat,.flat])] (x8.1.Places.map ad)),(107,oa 85 4 ae x6.Links),(108,.deep 91 5 x6.Places.length [.flat,.flat,.flat,.flat,(.sl 169 5 [.flat,.flat,.flat,.flat,.flat])] (x6.Places.map ad))]⟩ ?_ fun d1=> ?_
 exact DE.a1 1 d3 rfl (aj.n af)
 exact DE.al (.c 0 d1 rfl (aj.n af) (.c 1 d2 rfl (aj.n af) .n))
 refine aY ?_
 refine ao h (fun h=> ?_) fun h=> ?_
 refine az af [4] [] ?_
 refine ag ?_
 obtain rfl:=inj h
 exact bw (aD (f1 fv))
 refine ai ?_
 refine aY ?_
 refine az af [2,3,6,7,8,9,10,11] [2,3,6,8,9,105,106,107,108] ?_
 refine sr ?_
 refine ab.ck af 2 ⟨109,[(2,.ref 2 0),(3,.ref 3 0),(6,.ref 6 0),(7,vi x5.2),(9,.ref 9 0),(10,vi x8.2),(57,.agg [.own 108,.own 107]),(58,vi 1)],[(2,.box (tc ak dw)),(3,.box (tc ap dh)),(6,.box (tc ak x5.1)),(9,.box [.own 106,.own 105]),(105,oa 85 4 ae x8.1.Links),(106,.deep 91 5 x8.1.Places.length [.flat,.flat,.flat,.flat,(.sl 169 5 [.flat,.flat,.flat,.flat,.flat])] (x8.1.Places.map ad)),(107,oa 85 4 ae x6.Links),(108,.deep 91 5 x6.Places.length [.flat,.flat,.flat,.flat,(.sl 169 5 [.flat,.flat,.flat,.flat,.flat])] (x6.Places.map ad))]⟩ ?_
 obtain⟨x14,hx14,h⟩:=bind_some h
 refine ab.bx (x_w [(1000100,108),(1000101,107)] [false,true] yZ (kj x6 1 _ hx14)) ?_
 refine bO af 1 [2,3,6,7,9,10,11] [2,3,6,9,105,106] ?_
 refine ac ?_
 refine ac ?_
 refine bj h (fun j16=>⟨109,[(2,.ref 2 0),(3,.ref 3 0),(6,.ref 6 0),(7,vi x5.2),(9,.ref 9 0),(72,vb j16)],[(2,.box (tc ak dw)),(3,.box (tc ap dh)),(6,.box (tc ak x5.1)),(9,.box [.own 106,.own 105]),(105,oa 85 4 ae x8.1.Links),(106,.deep 91 5 x8.1.Places.length [.flat,.flat,.flat,.flat,(.sl 169 5 [.flat,.flat,.flat,.flat,.flat])] (x8.1.Places.map ad))]⟩) (fun v17 h=> ?_) (fun j16 h=> ?_)
 refine ab.cl af 3 [2,3,6,7,9,10,62] [2,3,6,9,105,106] ?_
 refine ab.cu [(62,fun b=>b)] h (fun h=> ?_) fun h=> ?_
 refine ab.cl af 10 [2,3,6,7,9,72] [2,3,6,9,105,106] ?_
 refine ab.nil ?_
 obtain rfl:=inj h
 exact Le.aq
 refine ab.cl af 2 [2,3,6,7,9,10,62,63,64] [2,3,6,9,105,106] ?_
 obtain⟨x15,hx15,h⟩:=bind_some h
 refine ab.ls (xc sJ (gi x8.1 x5.1 _ hx15)) ?_
 refine ab.cl af 3 [2,3,6,7,9,10,68] [2,3,6,9,105,106] ?_
 refine ab.cu [(68,fun b=>b)] h (fun h=> ?_) fun h=> ?_
 refine ab.cl af 4 [2,3,6,7,9,72] [2,3,6,9,105,106] ?_
 refine ab.nil ?_
 obtain rfl:=inj h
 exact Le.aq
 refine ab.cl af 4 [2,3,6,7,9,72] [2,3,6,9,105,106] ?_
 refine ab.nil ?_
 obtain rfl:=inj h
 exact Le.aq
 refine ao h (fun h=> ?_) fun h=> ?_
 refine az af [4] [] ?_
 refine ag ?_
 obtain rfl:=inj h
 exact bw (aD (f1 fv))
 refine ai ?_
 refine aY ?_
 refine az af [2,3,6,7,9,12] [2,3,6,9,105,106] ?_
 refine sr ?_
 refine ab.ck af 2 ⟨109,[(2,.ref 2 0),(3,.ref 3 0),(6,.ref 6 0),(7,vi x5.2),(9,.ref 9 0),(73,.agg [.own 106,.own 105]),(74,vi 1)],[(2,.box (tc ak dw)),(3,.box (tc ap dh)),(6,.box (tc ak x5.1)),(9,.box [.own 106,.own 105]),(105,oa 85 4 ae x8.1.Links),(106,.deep 91 5 x8.1.Places.length [.flat,.flat,.flat,.flat,(.sl 169 5 [.flat,.flat,.flat,.flat,.flat])] (x8.1.Places.map ad))]⟩ ?_
 obtain⟨x18,hx18,h⟩:=bind_some h
 refine ab.bx (x_w [(1000100,106),(1000101,105)] [false,true] yZ (kj x8.1 1 _ hx18)) ?_
 refine bO af 1 [2,3,6,7,9,12] [2,3,6,9,105,106] ?_
 refine az af [2,3,6,7,9,12,13] [2,3,6,9,105,106] ?_
 refine sr ?_
 refine ab.cl af 2 [2,3,6,7,9,12,76,77] [2,3,6,9,105,106] ?_
 obtain⟨x19,hx19,h⟩:=bind_some h
 refine ab.ls (xc y3 (ki x18.2 1 _ hx19)) ?_
 refine bO af 1 [2,3,6,7,9,12,13] [2,3,6,9,105,106] ?_
 refine ac ?_
 refine az af [2,3,6,7,9,12,13,80] [2,3,6,9,105,106] ?_
 refine ao h (fun h=> ?_) fun h=> ?_
 refine az af [4] [] ?_
 refine ag ?_
 obtain rfl:=inj h
 exact bw (aD (f1 fv))
 refine ai ?_
 refine aY ?_
 refine ac ?_
 refine az af [2,3,6,7,9,12,83] [2,3,6,9,105,106] ?_
 refine ao h (fun h=> ?_) fun h=> ?_
 refine az af [4] [] ?_
 refine ag ?_
 obtain rfl:=inj h
 exact bw (aD (f1 fv))
 refine ai ?_
 refine aY ?_
 refine ac ?_
 obtain⟨x20,hx20,h⟩:=bind_some h
 obtain⟨x21,hx21,h⟩:=bind_some h
 obtain⟨x22,hx22,h⟩:=bind_some h
 refine cL mixed ?_
 refine aR.wc (σE:=⟨109,[(6,.ref 6 0),(7,vi x5.2),(9,.ref 9 0),(12,vi x18.1),(14,.ref 14 0),(15,vi x22.2)],[(6,.box (tc ak x5.1)),(9,.box [.own 106,.own 105]),(14,.box (tc ak x22.1)),(105,oa 85 4 ae x18.2.Links),(106,.deep 91 5 x18.2.Places.length [.flat,.flat,.flat,.flat,(.sl 169 5 [.flat,.flat,.flat,.flat,.flat])] (x18.2.Places.map ad))]⟩) (n:=11) (L0:=(bA 11 0)) (by kernel_rfl) (by kernel_rfl) (fun K hk=> ?_) ?_
 refine DE.sh 0 (bA 11 2047) ⟨109,[(6,.ref 6 0),(7,vi x5.2),(9,.ref 9 0),(12,vi x18.1),(14,.ref 14 0),(15,vi x22.2)],[(6,.box (tc ak x5.1)),(9,.box [.own 106,.own 105]),(14,.box (tc ak x22.1)),(105,oa 85 4 ae x18.2.Links),(106,.deep 91 5 x18.2.Places.length [.flat,.flat,.flat,.flat,(.sl 169 5 [.flat,.flat,.flat,.flat,.flat])] (x18.2.Places.map ad))]⟩ ?_ fun d26=> ?_
 exact DE.done (by kernel_rfl) hk
 refine DE.sh 1 (bA 11 1023) ⟨109,[(6,.ref 6 0),(7,vi x5.2),(9,.ref 9 0),(12,vi x18.1),(14,.ref 14 0),(91,vi x22.2)],[(6,.box (tc ak x5.1)),(9,.box [.own 106,.own 105]),(14,.box (tc ak x22.1)),(105,oa 85 4 ae x18.2.Links),(106,.deep 91 5 x18.2.Places.length [.flat,.flat,.flat,.flat,(.sl 169 5 [.flat,.flat,.flat,.flat,.flat])] (x18.2.Places.map ad))]⟩ ?_ fun d25=> ?_
 exact DE.tk 10 d26 rfl (.inr rfl) (aj.n af)
 refine DE.sh 2 (bA 11 895) ⟨109,[(6,.ref 6 0),(7,vi x5.2),(9,.ref 9 0),(12,vi x18.1),(14,.ref 14 0),(84,.tup [.agg (tc ak x22.1),vi x22.2])],[(6,.box (tc ak x5.1)),(9,.box [.own 106,.own 105]),(14,.box (tc ak x22.1)),(105,oa 85 4 ae x18.2.Links),(106,.deep 91 5 x18.2.Places.length [.flat,.flat,.flat,.flat,(.sl 169 5 [.flat,.flat,.flat,.flat,.flat])] (x18.2.Places.map ad))]⟩ ?_ fun d24=> ?_
 exact DE.a1 7 d25 rfl (aj.n af)
 refine DE.sh 2 (bA 11 511) ⟨109,[(6,.ref 6 0),(7,vi x5.2),(9,.ref 9 0),(12,vi x18.1),(14,.ref 14 0),(90,.agg (tc ak x22.1)),(91,vi x22.2)],[(6,.box (tc ak x5.1)),(9,.box [.own 106,.own 105]),(14,.box [vl ad ([]:List Place),vl ae ([]:List aw)]),(105,oa 85 4 ae x18.2.Links),(106,.deep 91 5 x18.2.Places.length [.flat,.flat,.flat,.flat,(.sl 169 5 [.flat,.flat,.flat,.flat,.flat])] (x18.2.Places.map ad))]⟩ ?_ fun d23=> ?_
 exact DE.a1 9 d25 rfl (aj.le (dI (d:=14) (k:=0) (ti:=iN) (cs:=[vl ad ([]:List Place),vl ae ([]:List aw)]) (vs:=[vl ad x22.1.Places,vl ae x22.1.Links]) (v:= .agg (tc ak x22.1)) af rfl rfl) Le.aq)
 refine DE.sh 3 (bA 11 447) ⟨109,[(6,.ref 6 0),(7,vi x5.2),(9,.ref 9 0),(12,vi x18.1),(14,.ref 14 0),(84,.tup [.agg (tc ak x22.1),vi x22.2]),(91,vi x22.2)],[(6,.box (tc ak x5.1)),(9,.box [.own 106,.own 105]),(14,.box [vl ad ([]:List Place),vl ae ([]:List aw)]),(105,oa 85 4 ae x18.2.Links),(106,.deep 91 5 x18.2.Places.length [.flat,.flat,.flat,.flat,(.sl 169 5 [.flat,.flat,.flat,.flat,.flat])] (x18.2.Places.map ad))]⟩ ?_ fun d22=> ?_
 exact DE.a1 6 d23 rfl (aj.n af)
 refine DE.sh 3 (bA 11 383) ⟨109,[(6,.ref 6 0),(7,vi x5.2),(9,.ref 9 0),(12,vi x18.1),(14,.ref 14 0),(84,.tup [.agg (tc ak x22.1),vi x22.2]),(90,.agg (tc ak x22.1))],[(6,.box (tc ak x5.1)),(9,.box [.own 106,.own 105]),(14,.box [vl ad ([]:List Place),vl ae ([]:List aw)]),(105,oa 85 4 ae x18.2.Links),(106,.deep 91 5 x18.2.Places.length [.flat,.flat,.flat,.flat,(.sl 169 5 [.flat,.flat,.flat,.flat,.flat])] (x18.2.Places.map ad))]⟩ ?_ fun d21=> ?_
 exact DE.al (.c 7 d23 rfl (aj.n af) (.c 9 d24 rfl (aj.le (dI (d:=14) (k:=0) (ti:=iN) (cs:=[vl ad ([]:List Place),vl ae ([]:List aw)]) (vs:=[vl ad x22.1.Places,vl ae x22.1.Links]) (v:= .agg (tc ak x22.1)) af rfl rfl) Le.aq) .n))
 refine DE.sh 3 (bA 11 255) ⟨109,[(6,.ref 6 0),(7,vi x5.2),(9,.ref 9 0),(12,vi x18.1),(90,.agg (tc ak x22.1)),(91,vi x22.2)],[(6,.box (tc ak x5.1)),(9,.box [.own 106,.own 105]),(105,oa 85 4 ae x18.2.Links),(106,.deep 91 5 x18.2.Places.length [.flat,.flat,.flat,.flat,(.sl 169 5 [.flat,.flat,.flat,.flat,.flat])] (x18.2.Places.map ad))]⟩ ?_ fun d20=> ?_
 exact DE.a1 8 d23 rfl (aj.n af)
 refine DE.sh 4 (bA 11 319) ⟨109,[(6,.ref 6 0),(7,vi x5.2),(9,.ref 9 0),(12,vi x18.1),(14,.ref 14 0),(84,.tup [.agg (tc ak x22.1),vi x22.2])],[(6,.box (tc ak x5.1)),(9,.box [.own 106,.own 105]),(14,.box [vl ad ([]:List Place),vl ae ([]:List aw)]),(105,oa 85 4 ae x18.2.Links),(106,.deep 91 5 x18.2.Places.length [.flat,.flat,.flat,.flat,(.sl 169 5 [.flat,.flat,.flat,.flat,.flat])] (x18.2.Places.map ad))]⟩ ?_ fun d19=> ?_
 exact DE.al (.c 6 d21 rfl (aj.n af) (.c 7 d22 rfl (aj.n af) .n))
 refine DE.sh 4 (bA 11 191) ⟨109,[(6,.ref 6 0),(7,vi x5.2),(9,.ref 9 0),(12,vi x18.1),(84,.tup [.agg (tc ak x22.1),vi x22.2]),(91,vi x22.2)],[(6,.box (tc ak x5.1)),(9,.box [.own 106,.own 105]),(105,oa 85 4 ae x18.2.Links),(106,.deep 91 5 x18.2.Places.length [.flat,.flat,.flat,.flat,(.sl 169 5 [.flat,.flat,.flat,.flat,.flat])] (x18.2.Places.map ad))]⟩ ?_ fun d18=> ?_
 exact DE.al (.c 6 d20 rfl (aj.n af) (.c 8 d22 rfl (aj.n af) .n))
 refine DE.sh 4 (bA 11 127) ⟨109,[(6,.ref 6 0),(7,vi x5.2),(9,.ref 9 0),(12,vi x18.1),(84,.tup [.agg (tc ak x22.1),vi x22.2]),(90,.agg (tc ak x22.1))],[(6,.box (tc ak x5.1)),(9,.box [.own 106,.own 105]),(105,oa 85 4 ae x18.2.Links),(106,.deep 91 5 x18.2.Places.length [.flat,.flat,.flat,.flat,(.sl 169 5 [.flat,.flat,.flat,.flat,.flat])] (x18.2.Places.map ad))]⟩ ?_ fun d17=> ?_
 exact DE.al (.c 7 d20 rfl (aj.n af) (.c 8 d21 rfl (aj.n af) .n))
 refine DE.sh 5 (bA 11 287) ⟨109,[(6,.ref 6 0),(7,vi x5.2),(9,.ref 9 0),(12,vi x18.1),(14,.ref 14 0),(89,.tup [.agg (tc ak x22.1),vi x22.2])],[(6,.box (tc ak x5.1)),(9,.box [.own 106,.own 105]),(14,.box [vl ad ([]:List Place),vl ae ([]:List aw)]),(105,oa 85 4 ae x18.2.Links),(106,.deep 91 5 x18.2.Places.length [.flat,.flat,.flat,.flat,(.sl 169 5 [.flat,.flat,.flat,.flat,.flat])] (x18.2.Places.map ad))]⟩ ?_ fun d16=> ?_
 exact DE.tk 5 d19 rfl (.inl rfl) (aj.n af)
 refine DE.sh 5 (bA 11 63) ⟨109,[(6,.ref 6 0),(7,vi x5.2),(9,.ref 9 0),(12,vi x18.1),(84,.tup [.agg (tc ak x22.1),vi x22.2])],[(6,.box (tc ak x5.1)),(9,.box [.own 106,.own 105]),(105,oa 85 4 ae x18.2.Links),(106,.deep 91 5 x18.2.Places.length [.flat,.flat,.flat,.flat,(.sl 169 5 [.flat,.flat,.flat,.flat,.flat])] (x18.2.Places.map ad))]⟩ ?_ fun d15=> ?_
 exact DE.al (.c 6 d17 rfl (aj.n af) (.c 7 d18 rfl (aj.n af) (.c 8 d19 rfl (aj.n af) .n)))
 refine DE.sh 6 (bA 11 271) ⟨109,[(6,.ref 6 0),(7,vi x5.2),(9,.ref 9 0),(12,vi x18.1),(14,.ref 14 0),(86,.agg (tc ak x20)),(88,.agg (tc ap x21))],[(6,.box (tc ak x5.1)),(9,.box [.own 106,.own 105]),(14,.box [vl ad ([]:List Place),vl ae ([]:List aw)]),(105,oa 85 4 ae x18.2.Links),(106,.deep 91 5 x18.2.Places.length [.flat,.flat,.flat,.flat,(.sl 169 5 [.flat,.flat,.flat,.flat,.flat])] (x18.2.Places.map ad))]⟩ ?_ fun d14=> ?_
 exact DE.a1 4 d16 rfl (aj.l (xc sN (jf x20 x21 _ hx22)))
 refine DE.sh 6 (bA 11 31) ⟨109,[(6,.ref 6 0),(7,vi x5.2),(9,.ref 9 0),(12,vi x18.1),(89,.tup [.agg (tc ak x22.1),vi x22.2])],[(6,.box (tc ak x5.1)),(9,.box [.own 106,.own 105]),(105,oa 85 4 ae x18.2.Links),(106,.deep 91 5 x18.2.Places.length [.flat,.flat,.flat,.flat,(.sl 169 5 [.flat,.flat,.flat,.flat,.flat])] (x18.2.Places.map ad))]⟩ ?_ fun d13=> ?_
 exact DE.tk 5 d15 rfl (.inl rfl) (aj.n af)
 refine DE.sh 7 (bA 11 263) ⟨109,[(6,.ref 6 0),(7,vi x5.2),(9,.ref 9 0),(12,vi x18.1),(14,.ref 14 0),(86,.agg (tc ak x20)),(87,.agg (tc ap dh))],[(6,.box (tc ak x5.1)),(9,.box [.own 106,.own 105]),(14,.box [vl ad ([]:List Place),vl ae ([]:List aw)]),(105,oa 85 4 ae x18.2.Links),(106,.deep 91 5 x18.2.Places.length [.flat,.flat,.flat,.flat,(.sl 169 5 [.flat,.flat,.flat,.flat,.flat])] (x18.2.Places.map ad))]⟩ ?_ fun d12=> ?_
 exact DE.a1 3 d14 rfl (aj.l (xc lU (cB dh _ hx21)))
 refine DE.sh 7 (bA 11 15) ⟨109,[(6,.ref 6 0),(7,vi x5.2),(9,.ref 9 0),(12,vi x18.1),(86,.agg (tc ak x20)),(88,.agg (tc ap x21))],[(6,.box (tc ak x5.1)),(9,.box [.own 106,.own 105]),(105,oa 85 4 ae x18.2.Links),(106,.deep 91 5 x18.2.Places.length [.flat,.flat,.flat,.flat,(.sl 169 5 [.flat,.flat,.flat,.flat,.flat])] (x18.2.Places.map ad))]⟩ ?_ fun d11=> ?_
 exact DE.al (.c 4 d13 rfl (aj.l (xc sN (jf x20 x21 _ hx22))) (.c 8 d14 rfl (aj.n af) .n))
 refine DE.sh 8 (bA 11 261) ⟨109,[(6,.ref 6 0),(7,vi x5.2),(9,.ref 9 0),(12,vi x18.1),(14,.ref 14 0),(85,.agg (tc ak dw)),(87,.agg (tc ap dh))],[(6,.box (tc ak x5.1)),(9,.box [.own 106,.own 105]),(14,.box [vl ad ([]:List Place),vl ae ([]:List aw)]),(105,oa 85 4 ae x18.2.Links),(106,.deep 91 5 x18.2.Places.length [.flat,.flat,.flat,.flat,(.sl 169 5 [.flat,.flat,.flat,.flat,.flat])] (x18.2.Places.map ad))]⟩ ?_ fun d10=> ?_
 exact DE.a1 1 d12 rfl (aj.l (xc kb (ca dw _ hx20)))
 refine DE.sh 8 (bA 11 259) ⟨109,[(3,.ref 3 0),(6,.ref 6 0),(7,vi x5.2),(9,.ref 9 0),(12,vi x18.1),(14,.ref 14 0),(86,.agg (tc ak x20))],[(3,.box (tc ap dh)),(6,.box (tc ak x5.1)),(9,.box [.own 106,.own 105]),(14,.box [vl ad ([]:List Place),vl ae ([]:List aw)]),(105,oa 85 4 ae x18.2.Links),(106,.deep 91 5 x18.2.Places.length [.flat,.flat,.flat,.flat,(.sl 169 5 [.flat,.flat,.flat,.flat,.flat])] (x18.2.Places.map ad))]⟩ ?_ fun d9=> ?_
 exact DE.a1 2 d12 rfl (aj.n af)
 refine DE.sh 8 (bA 11 7) ⟨109,[(6,.ref 6 0),(7,vi x5.2),(9,.ref 9 0),(12,vi x18.1),(86,.agg (tc ak x20)),(87,.agg (tc ap dh))],[(6,.box (tc ak x5.1)),(9,.box [.own 106,.own 105]),(105,oa 85 4 ae x18.2.Links),(106,.deep 91 5 x18.2.Places.length [.flat,.flat,.flat,.flat,(.sl 169 5 [.flat,.flat,.flat,.flat,.flat])] (x18.2.Places.map ad))]⟩ ?_ fun d8=> ?_
 exact DE.al (.c 3 d11 rfl (aj.l (xc lU (cB dh _ hx21))) (.c 8 d12 rfl (aj.n af) .n))
 refine DE.sh 9 (bA 11 260) ⟨109,[(2,.ref 2 0),(6,.ref 6 0),(7,vi x5.2),(9,.ref 9 0),(12,vi x18.1),(14,.ref 14 0),(87,.agg (tc ap dh))],[(2,.box (tc ak dw)),(6,.box (tc ak x5.1)),(9,.box [.own 106,.own 105]),(14,.box [vl ad ([]:List Place),vl ae ([]:List aw)]),(105,oa 85 4 ae x18.2.Links),(106,.deep 91 5 x18.2.Places.length [.flat,.flat,.flat,.flat,(.sl 169 5 [.flat,.flat,.flat,.flat,.flat])] (x18.2.Places.map ad))]⟩ ?_ fun d7=> ?_
 exact DE.a1 0 d10 rfl (aj.n af)
 refine DE.sh 9 (bA 11 257) ⟨109,[(3,.ref 3 0),(6,.ref 6 0),(7,vi x5.2),(9,.ref 9 0),(12,vi x18.1),(14,.ref 14 0),(85,.agg (tc ak dw))],[(3,.box (tc ap dh)),(6,.box (tc ak x5.1)),(9,.box [.own 106,.own 105]),(14,.box [vl ad ([]:List Place),vl ae ([]:List aw)]),(105,oa 85 4 ae x18.2.Links),(106,.deep 91 5 x18.2.Places.length [.flat,.flat,.flat,.flat,(.sl 169 5 [.flat,.flat,.flat,.flat,.flat])] (x18.2.Places.map ad))]⟩ ?_ fun d6=> ?_
 exact DE.al (.c 1 d9 rfl (aj.l (xc kb (ca dw _ hx20))) (.c 2 d10 rfl (aj.n af) .n))
 refine DE.sh 9 (bA 11 5) ⟨109,[(6,.ref 6 0),(7,vi x5.2),(9,.ref 9 0),(12,vi x18.1),(85,.agg (tc ak dw)),(87,.agg (tc ap dh))],[(6,.box (tc ak x5.1)),(9,.box [.own 106,.own 105]),(105,oa 85 4 ae x18.2.Links),(106,.deep 91 5 x18.2.Places.length [.flat,.flat,.flat,.flat,(.sl 169 5 [.flat,.flat,.flat,.flat,.flat])] (x18.2.Places.map ad))]⟩ ?_ fun d5=> ?_
 exact DE.al (.c 1 d8 rfl (aj.l (xc kb (ca dw _ hx20))) (.c 8 d10 rfl (aj.n af) .n))
 refine DE.sh 9 (bA 11 3) ⟨109,[(3,.ref 3 0),(6,.ref 6 0),(7,vi x5.2),(9,.ref 9 0),(12,vi x18.1),(86,.agg (tc ak x20))],[(3,.box (tc ap dh)),(6,.box (tc ak x5.1)),(9,.box [.own 106,.own 105]),(105,oa 85 4 ae x18.2.Links),(106,.deep 91 5 x18.2.Places.length [.flat,.flat,.flat,.flat,(.sl 169 5 [.flat,.flat,.flat,.flat,.flat])] (x18.2.Places.map ad))]⟩ ?_ fun d4=> ?_
 exact DE.al (.c 2 d8 rfl (aj.n af) (.c 8 d9 rfl (aj.n af) .n))
 refine DE.sh 10 (bA 11 256) ⟨109,[(2,.ref 2 0),(3,.ref 3 0),(6,.ref 6 0),(7,vi x5.2),(9,.ref 9 0),(12,vi x18.1),(14,.ref 14 0)],[(2,.box (tc ak dw)),(3,.box (tc ap dh)),(6,.box (tc ak x5.1)),(9,.box [.own 106,.own 105]),(14,.box [vl ad ([]:List Place),vl ae ([]:List aw)]),(105,oa 85 4 ae x18.2.Links),(106,.deep 91 5 x18.2.Places.length [.flat,.flat,.flat,.flat,(.sl 169 5 [.flat,.flat,.flat,.flat,.flat])] (x18.2.Places.map ad))]⟩ ?_ fun d3=> ?_
 exact DE.al (.c 0 d6 rfl (aj.n af) (.c 2 d7 rfl (aj.n af) .n))
 refine DE.sh 10 (bA 11 4) ⟨109,[(2,.ref 2 0),(6,.ref 6 0),(7,vi x5.2),(9,.ref 9 0),(12,vi x18.1),(87,.agg (tc ap dh))],[(2,.box (tc ak dw)),(6,.box (tc ak x5.1)),(9,.box [.own 106,.own 105]),(105,oa 85 4 ae x18.2.Links),(106,.deep 91 5 x18.2.Places.length [.flat,.flat,.flat,.flat,(.sl 169 5 [.flat,.flat,.flat,.flat,.flat])] (x18.2.Places.map ad))]⟩ ?_ fun d2=> ?_
 exact DE.al (.c 0 d5 rfl (aj.n af) (.c 8 d7 rfl (aj.n af) .n))
 refine DE.sh 10 (bA 11 1) ⟨109,[(3,.ref 3 0),(6,.ref 6 0),(7,vi x5.2),(9,.ref 9 0),(12,vi x18.1),(85,.agg (tc ak dw))],[(3,.box (tc ap dh)),(6,.box (tc ak x5.1)),(9,.box [.own 106,.own 105]),(105,oa 85 4 ae x18.2.Links),(106,.deep 91 5 x18.2.Places.length [.flat,.flat,.flat,.flat,(.sl 169 5 [.flat,.flat,.flat,.flat,.flat])] (x18.2.Places.map ad))]⟩ ?_ fun d1=> ?_
 exact DE.al (.c 1 d4 rfl (aj.l (xc kb (ca dw _ hx20))) (.c 2 d5 rfl (aj.n af) (.c 8 d6 rfl (aj.n af) .n)))
 exact DE.al (.c 0 d1 rfl (aj.n af) (.c 2 d2 rfl (aj.n af) (.c 8 d3 rfl (aj.n af) .n)))
 refine aY ?_
 refine ac ?_
 refine ac ?_
 refine bj h (fun j24=>⟨109,[(9,.ref 9 0),(12,vi x18.1),(100,vb j24)],[(9,.box [.own 106,.own 105]),(105,oa 85 4 ae x18.2.Links),(106,.deep 91 5 x18.2.Places.length [.flat,.flat,.flat,.flat,(.sl 169 5 [.flat,.flat,.flat,.flat,.flat])] (x18.2.Places.map ad))]⟩) (fun v25 h=> ?_) (fun j24 h=> ?_)
 refine ab.cl af 2 [7,9,12,15,92,93] [9,105,106] ?_
 obtain⟨x23,hx23,h⟩:=bind_some h
 refine ab.ls (xc sJ (gi x22.1 x5.1 _ hx23)) ?_
 refine ab.cl af 2 [7,9,12,15,96] [9,105,106] ?_
 refine ab.cu [(96,fun b=>b)] h (fun h=> ?_) fun h=> ?_
 refine ab.cl af 4 [9,12,100] [9,105,106] ?_
 refine ab.nil ?_
 obtain rfl:=inj h
 exact Le.aq
 refine ab.cl af 4 [9,12,100] [9,105,106] ?_
 refine ab.nil ?_
 obtain rfl:=inj h
 exact Le.aq
 refine ao h (fun h=> ?_) fun h=> ?_
 refine az af [4] [] ?_
 refine ag ?_
 obtain rfl:=inj h
 exact bw (aD (f1 fv))
 refine ai ?_
 refine aY ?_
 refine az af [9,12,13] [9,105,106] ?_
 refine sr ?_
 refine ab.cl af 2 [12,101,102] [105,106] ?_
 obtain⟨x26,hx26,h⟩:=bind_some h
 refine ab.ls (xc y3 (ki x18.2 1 _ hx26)) ?_
 refine bO af 1 [12,13] [] ?_
 refine ac ?_
 refine iR af ⟨109,[(12,vi x18.1),(13,vi x26),(105,vb (decide (x26<0)))],[]⟩ ?_
 refine ao h (fun h=> ?_) fun h=> ?_
 refine az af [4] [] ?_
 refine ag ?_
 obtain rfl:=inj h
 exact bw (aD (f1 fv))
 refine ai ?_
 refine aY ?_
 refine ac ?_
 refine az af [108] [] ?_
 refine ao h (fun h=> ?_) fun h=> ?_
 refine az af [4] [] ?_
 refine ag ?_
 obtain rfl:=inj h
 exact bw (aD (f1 fv))
 refine ai ?_
 refine aY ?_
 refine az af [4] [] ?_
 refine ag ?_
 obtain rfl:=inj h
 exact aD (f1 fv)
end Go.Proofs.YtdejeagdkfokfaaGreatDoor.Sh
