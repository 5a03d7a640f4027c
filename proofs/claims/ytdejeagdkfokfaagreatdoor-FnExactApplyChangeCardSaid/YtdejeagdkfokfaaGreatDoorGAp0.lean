/- Typed functions and the calls that do what they say. -/
import Derived.Test.YtdejeagdkfokfaaGreatDoorSE
import Derived.Test.YtdejeagdkfokfaaGreatDoorKA
import Derived.Test.YtdejeagdkfokfaaGreatDoorKC
import Derived.Test.YtdejeagdkfokfaaGreatDoorKD
import Derived.Test.YtdejeagdkfokfaaGreatDoorKO
import Derived.Test.YtdejeagdkfokfaaGreatDoorKS
import Derived.Test.YtdejeagdkfokfaaGreatDoorSN
import Derived.Test.YtdejeagdkfokfaaGreatDoorSW
import Derived.Test.YtdejeagdkfokfaaGreatDoorSX
import Derived.Test.YtdejeagdkfokfaaGreatDoorH1
namespace Go.Proofs.YtdejeagdkfokfaaGreatDoor.Sh
open Go.RowKit
set_option maxRecDepth 100000
set_option maxHeartbeats 4000000
structure Span where
 From:Int
 To:Int
def gp(x:Span):List Tr:=[.int .i64 x.From,.int .i64 x.To]
structure Name where
 Text:ByteArray
 Language:ByteArray
 Status:Int
 Years:Span
def ar(x:Name):List Tr:=[.str x.Text,.str x.Language,.int .i64 x.Status,.int .i64 x.Years.From,.int .i64 x.Years.To]
theorem bu(x:Name): ∀t∈ar x,t.flat=true:=by simp[ar,Tr.flat]
structure Place where
 Code:ByteArray
 Class:Int
 Years:Span
 Names:(List Name)
def ad(x:Place):List Tr:=[.str x.Code,.int .i64 x.Class,.int .i64 x.Years.From,.int .i64 x.Years.To,.sl x.Names.length (x.Names.map ar)]
structure aw where
 Child:ByteArray
 Parent:ByteArray
 Years:Span
def ae(x:aw):List Tr:=[.str x.Child,.str x.Parent,.int .i64 x.Years.From,.int .i64 x.Years.To]
theorem di(x:aw): ∀t∈ae x,t.flat=true:=by simp[ae,Tr.flat]
structure World where
 Places:(List Place)
 Links:(List aw)
def ak(x:World):List Tr:=[.sl x.Places.length (x.Places.map ad),.sl x.Links.length (x.Links.map ae)]
structure Change where
 Year:Int
 Kind:Int
 Code:ByteArray
 Other:ByteArray
 Language:ByteArray
 Text:ByteArray
def ap(x:Change):List Tr:=[.int .i64 x.Year,.int .i64 x.Kind,.str x.Code,.str x.Other,.str x.Language,.str x.Text]
def ti2:TI:=⟨1,8,.int .i64,[.int .i64 0]⟩
def ti3:TI:=⟨1,8,.int .i64,[.int .i64 0]⟩
def ti4:TI:=⟨1,1,.bool,[.bool false]⟩
def ti5:TI:=⟨1,1,.int .u8,[.int .u8 0]⟩
def gH:TI:=⟨1,16,.str,[.str (ByteArray.mk #[])]⟩
def BM:TI:=⟨1,24,.slice 100,[.sl ([]:List Place).length (([]:List Place).map ad)]⟩
def BN:TI:=⟨1,24,.slice 103,[.sl ([]:List aw).length (([]:List aw).map ae)]⟩
def Ds:TI:=⟨2,48,.struct [(0,22),(1,23)],[.sl ([]:List Place).length (([]:List Place).map ad),.sl ([]:List aw).length (([]:List aw).map ae)]⟩
def Dt:TI:=⟨6,80,.struct [(0,2),(1,2),(2,9),(3,9),(4,9),(5,9)],[.int .i64 0,.int .i64 0,.str (ByteArray.mk #[]),.str (ByteArray.mk #[]),.str (ByteArray.mk #[]),.str (ByteArray.mk #[])]⟩
def cP:TI:=⟨1,24,.slice 91,[.sl ([]:List Place).length (([]:List Place).map ad)]⟩
def dp:TI:=⟨1,24,.slice 85,[.sl ([]:List aw).length (([]:List aw).map ae)]⟩
def iN:TI:=⟨2,48,.struct [(0,32),(1,33)],[.sl ([]:List Place).length (([]:List Place).map ad),.sl ([]:List aw).length (([]:List aw).map ae)]⟩
def Du:TI:=⟨6,80,.struct [(0,2),(1,2),(2,9),(3,9),(4,9),(5,9)],[.int .i64 0,.int .i64 0,.str (ByteArray.mk #[]),.str (ByteArray.mk #[]),.str (ByteArray.mk #[]),.str (ByteArray.mk #[])]⟩
def Dw:TI:=⟨2,16,.struct [(0,2),(1,2)],[.int .i64 0,.int .i64 0]⟩
def dq:TI:=⟨4,48,.struct [(0,9),(1,9),(2,83)],[.str (ByteArray.mk #[]),.str (ByteArray.mk #[]),.int .i64 0,.int .i64 0]⟩
def dd:TI:=⟨1,24,.slice 169,[.sl ([]:List Name).length (([]:List Name).map ar)]⟩
def cd:TI:=⟨5,64,.struct [(0,9),(1,2),(2,83),(4,89)],[.str (ByteArray.mk #[]),.int .i64 0,.int .i64 0,.int .i64 0,.sl ([]:List Name).length (([]:List Name).map ar)]⟩
def Dx:TI:=⟨2,16,.struct [(0,2),(1,2)],[.int .i64 0,.int .i64 0]⟩
def BO:TI:=⟨1,24,.slice 190,[.sl ([]:List Name).length (([]:List Name).map ar)]⟩
def xB:TI:=⟨5,64,.struct [(0,9),(1,2),(2,97),(4,98)],[.str (ByteArray.mk #[]),.int .i64 0,.int .i64 0,.int .i64 0,.sl ([]:List Name).length (([]:List Name).map ar)]⟩
def xC:TI:=⟨4,48,.struct [(0,9),(1,9),(2,97)],[.str (ByteArray.mk #[]),.str (ByteArray.mk #[]),.int .i64 0,.int .i64 0]⟩
def cy:TI:=⟨1,24,.slice 9,[.sl ([]:List ByteArray).length (([]:List ByteArray).map eS)]⟩
def xD:TI:=⟨1,24,.slice 2,[.sl ([]:List Int).length (([]:List Int).map (eI .i64))]⟩
def cH:TI:=⟨5,56,.struct [(0,9),(1,9),(2,2),(3,83)],[.str (ByteArray.mk #[]),.str (ByteArray.mk #[]),.int .i64 0,.int .i64 0,.int .i64 0]⟩
def xE:TI:=⟨5,56,.struct [(0,9),(1,9),(2,2),(3,97)],[.str (ByteArray.mk #[]),.str (ByteArray.mk #[]),.int .i64 0,.int .i64 0,.int .i64 0]⟩
def Dr:TI:=⟨1,8,.int .u64,[.int .u64 0]⟩
def tbl:Tb:=[(2,ti2),(3,ti3),(4,ti4),(5,ti5),(9,gH),(22,BM),(23,BN),(25,Ds),(27,Dt),(32,cP),(33,dp),(35,iN),(37,Du),(83,Dw),(85,dq),(89,dd),(91,cd),(97,Dx),(98,BO),(100,xB),(103,xC),(106,cy),(144,xD),(169,cH),(190,xE),(209,Dr)]
theorem aa:bf Tryz.prog tbl:=bf.cons ⟨by kernel_rfl,show Tryz.prog.underlying 2=some (.int .i64)from by kernel_rfl⟩ (bf.cons ⟨by kernel_rfl,show Tryz.prog.underlying 3=some (.int .i64)from by kernel_rfl⟩ (bf.cons ⟨by kernel_rfl,show Tryz.prog.underlying 4=some (.bool)from by kernel_rfl⟩ (bf.cons ⟨by kernel_rfl,show Tryz.prog.underlying 5=some (.int .u8)from by kernel_rfl⟩ (bf.cons ⟨by kernel_rfl,show Tryz.prog.underlying 9=some (.string)from by kernel_rfl⟩ (bf.cons ⟨by kernel_rfl,show Tryz.prog.underlying 22=some (.slice 100)from by kernel_rfl⟩ (bf.cons ⟨by kernel_rfl,show Tryz.prog.underlying 23=some (.slice 103)from by kernel_rfl⟩ (bf.cons ⟨by kernel_rfl,show structOf Tryz.prog 25=some [(0,22),(1,23)]from by kernel_rfl⟩ (bf.cons ⟨by kernel_rfl,show structOf Tryz.prog 27=some [(0,2),(1,2),(2,9),(3,9),(4,9),(5,9)]from by kernel_rfl⟩ (bf.cons ⟨by kernel_rfl,show Tryz.prog.underlying 32=some (.slice 91)from by kernel_rfl⟩ (bf.cons ⟨by kernel_rfl,show Tryz.prog.underlying 33=some (.slice 85)from by kernel_rfl⟩ (bf.cons ⟨by kernel_rfl,show structOf Tryz.prog 35=some [(0,32),(1,33)]from by kernel_rfl⟩ (bf.cons ⟨by kernel_rfl,show structOf Tryz.prog 37=some [(0,2),(1,2),(2,9),(3,9),(4,9),(5,9)]from by kernel_rfl⟩ (bf.cons ⟨by kernel_rfl,show structOf Tryz.prog 83=some [(0,2),(1,2)]from by kernel_rfl⟩ (bf.cons ⟨by kernel_rfl,show structOf Tryz.prog 85=some [(0,9),(1,9),(2,83)]from by kernel_rfl⟩ (bf.cons ⟨by kernel_rfl,show Tryz.prog.underlying 89=some (.slice 169)from by kernel_rfl⟩ (bf.cons ⟨by kernel_rfl,show structOf Tryz.prog 91=some [(0,9),(1,2),(2,83),(4,89)]from by kernel_rfl⟩ (bf.cons ⟨by kernel_rfl,show structOf Tryz.prog 97=some [(0,2),(1,2)]from by kernel_rfl⟩ (bf.cons ⟨by kernel_rfl,show Tryz.prog.underlying 98=some (.slice 190)from by kernel_rfl⟩ (bf.cons ⟨by kernel_rfl,show structOf Tryz.prog 100=some [(0,9),(1,2),(2,97),(4,98)]from by kernel_rfl⟩ (bf.cons ⟨by kernel_rfl,show structOf Tryz.prog 103=some [(0,9),(1,9),(2,97)]from by kernel_rfl⟩ (bf.cons ⟨by kernel_rfl,show Tryz.prog.underlying 106=some (.slice 9)from by kernel_rfl⟩ (bf.cons ⟨by kernel_rfl,show Tryz.prog.underlying 144=some (.slice 2)from by kernel_rfl⟩ (bf.cons ⟨by kernel_rfl,show structOf Tryz.prog 169=some [(0,9),(1,9),(2,2),(3,83)]from by kernel_rfl⟩ (bf.cons ⟨by kernel_rfl,show structOf Tryz.prog 190=some [(0,9),(1,9),(2,2),(3,97)]from by kernel_rfl⟩ (bf.cons ⟨by kernel_rfl,show Tryz.prog.underlying 209=some (.int .u64)from by kernel_rfl⟩ (bf.nil _))))))))))))))))))))))))))
theorem mixed:Tryz.prog.follows .mixedOrders=true:=by kernel_rfl
noncomputable def gY(aA:Name)(bM:Int):Option (Int):=
 (bif(decide ((aJ (bM -(aA.Text.size:Int)))<0))then some (-1)else(bif(decide ((aJ ((aJ (bM -(aA.Text.size:Int)))-(aA.Language.size:Int)))<0))then some (-1)else some (aJ ((aJ (bM -(aA.Text.size:Int)))-(aA.Language.size:Int)))))
theorem pH(aA:Name)(bM:Int)(r:Int)(h:gY aA bM=some r):aH Tryz.prog 171 [.v (.agg (tc ar aA)),.v (vi bM)] ⟨[.v (vi r)],[],false⟩:=by
 refine au Tryz.func171 rfl [(.tmp 4)] rfl (fun r=>⟨[.v (vi r)],[],false⟩) (r:=r) ?_
 unfold gY at h
 refine az aa [1,2] [2] ?_
 refine az aa [1,2] [2] ?_
 refine ac ?_
 refine az aa [1,2,11] [2] ?_
 refine ao h (fun h=> ?_) fun h=> ?_
 refine az aa [4] [] ?_
 refine ag ?_
 obtain rfl:=inj h
 exact bw (aD (f1 fv))
 refine ai ?_
 refine aY ?_
 refine az aa [1] [] ?_
 refine ac ?_
 refine az aa [1,18] [] ?_
 refine ao h (fun h=> ?_) fun h=> ?_
 refine az aa [4] [] ?_
 refine ag ?_
 obtain rfl:=inj h
 exact bw (aD (f1 fv))
 refine ai ?_
 refine aY ?_
 refine az aa [4] [] ?_
 refine ag ?_
 obtain rfl:=inj h
 exact aD (f1 fv)
theorem AU:a8 Tryz.prog 171:=ax Tryz.func171 (by kernel_rfl) rfl
noncomputable def iz(aA:(List Name))(bM:Int):Option (Int):=
 (bif(decide ((aJ (bM -(aA.length:Int)))<0))then some (-1)else(((cW (aA.length:Int) (fun(i3:Int) (s3:Int)=>((at' aA i3).bind fun x7=>((gY x7 s3).bind fun x8=>(bif(decide (x8<0))then some (.inr (.inr (-1)))else some (.inl x8))))) (fun(s3:Int)=> .inl s3) 0 (aJ (bM -(aA.length:Int))))).bind (Sum.elim (fun(j1:Int)=>some j1) some)))
theorem oI(aA:(List Name))(bM:Int)(r:Int)(h:iz aA bM=some r):aH Tryz.prog 124 [.v (vl ar aA),.v (vi bM)] ⟨[.v (vi r)],[],false⟩:=by
 refine au Tryz.func124 rfl [(.tmp 4)] rfl (fun r=>⟨[.v (vi r)],[],false⟩) (r:=r) ?_
 unfold iz at h
 refine az aa [0,1] [] ?_
 refine az aa [0,1] [] ?_
 refine ac ?_
 refine az aa [0,1,11] [] ?_
 refine ao h (fun h=> ?_) fun h=> ?_
 refine az aa [4] [] ?_
 refine ag ?_
 obtain rfl:=inj h
 exact bw (aD (f1 fv))
 refine ai ?_
 refine aY ?_
 refine ac ?_
 refine az aa [0,1,5] [] ?_
 refine bi (r:=r) h (fun j1=>⟨27,[(1,vi j1)],[]⟩) (fun v2 h=> ?_) (fun j1 h=> ?_)
 refine ay (a:=v2) ?_
 refine a6 (r:=v2) (s:=(0,(aJ (bM -(aA.length:Int))))) _ (fun s3=>⟨27,[(0,vl ar aA),(1,vi s3.2),(5,vi s3.1)],[]⟩) _ (Le.aq) h (fun s3 v4 h=> ?_)
 refine ac ?_
 refine az aa [0,1,5,15] [] ?_
 refine ao h (fun h=> ?_) fun h=> ?_
 refine ai ?_
 refine aY ?_
 refine ac ?_
 refine bn (r:=v4) h (fun j5=>⟨27,[(0,vl ar aA),(1,vi j5),(5,vi s3.1)],[]⟩) (fun v6 h=> ?_) (fun j5 h=> ?_)
 refine ay (a:=v6) ?_
 refine sr ?_
 refine ab.cl aa 2 [0,1,5,18,19] [] ?_
 obtain⟨x7,hx7,h⟩:=bind_some h
 refine ab.ls (aG (L:=aA) (f:=ar) (ti:=BO) (tj:=xE) (e:=190) (k:= .i64) aa rfl hx7) ?_
 refine ab.cl aa 2 [0,5,21,22] [] ?_
 obtain⟨x8,hx8,h⟩:=bind_some h
 refine ab.ls (xc AU (pH x7 s3.2 _ hx8)) ?_
 refine bO aa 1 [0,1,5] [] ?_
 refine az aa [0,1,5,25] [] ?_
 refine ao h (fun h=> ?_) fun h=> ?_
 refine az aa [4] [] ?_
 refine ag ?_
 obtain rfl:=inj h
 exact bm (aU (aU (bm (aU (aD (f1 fv))))))
 refine ai ?_
 obtain rfl:=inj h
 exact bT (bZ (Le.aq))
 refine aF ?_
 refine ab.cl aa 3 [0,1,5] [] ?_
 refine ab.nil ?_
 obtain rfl:=inj h
 exact bZ (Le.aq)
 refine aQ ?_
 obtain rfl:=inj h
 exact cD (cF (cE (bZ (Le.aq))))
 refine az aa [4] [] ?_
 refine ag ?_
 obtain rfl:=inj h
 exact aD (f1 fv)
theorem Az:a8 Tryz.prog 124:=ax Tryz.func124 (by kernel_rfl) rfl
noncomputable def gj(aA:Place)(bM:Int):Option (Int):=
 (bif(decide ((aJ (bM -(aA.Code.size:Int)))<0))then some (-1)else((iz aA.Names (aJ (bM -(aA.Code.size:Int)))).bind fun x1=>(bif(decide (x1<0))then some (-1)else some x1)))
theorem oJ(aA:Place)(bM:Int)(r:Int)(h:gj aA bM=some r):aH Tryz.prog 66 [.v (.agg (tc ad aA)),.v (vi bM)] ⟨[.v (vi r)],[],false⟩:=by
 refine au Tryz.func66 rfl [(.tmp 4)] rfl (fun r=>⟨[.v (vi r)],[],false⟩) (r:=r) ?_
 unfold gj at h
 refine az aa [1,2] [2] ?_
 refine az aa [1,2] [2] ?_
 refine ac ?_
 refine az aa [1,2,11] [2] ?_
 refine ao h (fun h=> ?_) fun h=> ?_
 refine az aa [4] [] ?_
 refine ag ?_
 obtain rfl:=inj h
 exact bw (aD (f1 fv))
 refine ai ?_
 refine aY ?_
 refine sr ?_
 refine ab.cl aa 3 [13,14] [] ?_
 obtain⟨x1,hx1,h⟩:=bind_some h
 refine ab.ls (xc Az (oI aA.Names (aJ (bM -(aA.Code.size:Int))) _ hx1)) ?_
 refine bO aa 1 [1] [] ?_
 refine ac ?_
 refine az aa [1,17] [] ?_
 refine ao h (fun h=> ?_) fun h=> ?_
 refine az aa [4] [] ?_
 refine ag ?_
 obtain rfl:=inj h
 exact bw (aD (f1 fv))
 refine ai ?_
 refine aY ?_
 refine iR aa ⟨19,[(4,vi x1)],[]⟩ ?_
 refine ag ?_
 obtain rfl:=inj h
 exact aD (f1 fv)
theorem Cp:a8 Tryz.prog 66:=ax Tryz.func66 (by kernel_rfl) rfl
noncomputable def gC(aA:(List Place))(bM:Int):Option (Int):=
 (bif(decide ((aJ (bM -(aA.length:Int)))<0))then some (-1)else(((cW (aA.length:Int) (fun(i3:Int) (s3:Int)=>((at' aA i3).bind fun x7=>((gj x7 s3).bind fun x8=>(bif(decide (x8<0))then some (.inr (.inr (-1)))else some (.inl x8))))) (fun(s3:Int)=> .inl s3) 0 (aJ (bM -(aA.length:Int))))).bind (Sum.elim (fun(j1:Int)=>some j1) some)))
theorem nW(aA:(List Place))(bM:Int)(r:Int)(h:gC aA bM=some r):aH Tryz.prog 31 [.v (vl ad aA),.v (vi bM)] ⟨[.v (vi r)],[],false⟩:=by
 refine au Tryz.func31 rfl [(.tmp 4)] rfl (fun r=>⟨[.v (vi r)],[],false⟩) (r:=r) ?_
 unfold gC at h
 refine az aa [0,1] [] ?_
 refine az aa [0,1] [] ?_
 refine ac ?_
 refine az aa [0,1,11] [] ?_
 refine ao h (fun h=> ?_) fun h=> ?_
 refine az aa [4] [] ?_
 refine ag ?_
 obtain rfl:=inj h
 exact bw (aD (f1 fv))
 refine ai ?_
 refine aY ?_
 refine ac ?_
 refine az aa [0,1,5] [] ?_
 refine bi (r:=r) h (fun j1=>⟨27,[(1,vi j1)],[]⟩) (fun v2 h=> ?_) (fun j1 h=> ?_)
 refine ay (a:=v2) ?_
 refine a6 (r:=v2) (s:=(0,(aJ (bM -(aA.length:Int))))) _ (fun s3=>⟨27,[(0,vl ad aA),(1,vi s3.2),(5,vi s3.1)],[]⟩) _ (Le.aq) h (fun s3 v4 h=> ?_)
 refine ac ?_
 refine az aa [0,1,5,15] [] ?_
 refine ao h (fun h=> ?_) fun h=> ?_
 refine ai ?_
 refine aY ?_
 refine ac ?_
 refine bn (r:=v4) h (fun j5=>⟨27,[(0,vl ad aA),(1,vi j5),(5,vi s3.1)],[]⟩) (fun v6 h=> ?_) (fun j5 h=> ?_)
 refine ay (a:=v6) ?_
 refine sr ?_
 refine ab.cl aa 2 [0,1,5,18,19] [] ?_
 obtain⟨x7,hx7,h⟩:=bind_some h
 refine ab.ls (aG (L:=aA) (f:=ad) (ti:=BM) (tj:=xB) (e:=100) (k:= .i64) aa rfl hx7) ?_
 refine ab.cl aa 2 [0,5,21,22] [] ?_
 obtain⟨x8,hx8,h⟩:=bind_some h
 refine ab.ls (xc Cp (oJ x7 s3.2 _ hx8)) ?_
 refine bO aa 1 [0,1,5] [] ?_
 refine az aa [0,1,5,25] [] ?_
 refine ao h (fun h=> ?_) fun h=> ?_
 refine az aa [4] [] ?_
 refine ag ?_
 obtain rfl:=inj h
 exact bm (aU (aU (bm (aU (aD (f1 fv))))))
 refine ai ?_
 obtain rfl:=inj h
 exact bT (bZ (Le.aq))
 refine aF ?_
 refine ab.cl aa 3 [0,1,5] [] ?_
 refine ab.nil ?_
 obtain rfl:=inj h
 exact bZ (Le.aq)
 refine aQ ?_
 obtain rfl:=inj h
 exact cD (cF (cE (bZ (Le.aq))))
 refine az aa [4] [] ?_
 refine ag ?_
 obtain rfl:=inj h
 exact aD (f1 fv)
theorem Cc:a8 Tryz.prog 31:=ax Tryz.func31 (by kernel_rfl) rfl
noncomputable def gX(aA:aw)(bM:Int):Option (Int):=
 (bif(decide ((aJ (bM -(aA.Child.size:Int)))<0))then some (-1)else(bif(decide ((aJ ((aJ (bM -(aA.Child.size:Int)))-(aA.Parent.size:Int)))<0))then some (-1)else some (aJ ((aJ (bM -(aA.Child.size:Int)))-(aA.Parent.size:Int)))))
theorem pG(aA:aw)(bM:Int)(r:Int)(h:gX aA bM=some r):aH Tryz.prog 67 [.v (.agg (tc ae aA)),.v (vi bM)] ⟨[.v (vi r)],[],false⟩:=by
 refine au Tryz.func67 rfl [(.tmp 4)] rfl (fun r=>⟨[.v (vi r)],[],false⟩) (r:=r) ?_
 unfold gX at h
 refine az aa [1,2] [2] ?_
 refine az aa [1,2] [2] ?_
 refine ac ?_
 refine az aa [1,2,11] [2] ?_
 refine ao h (fun h=> ?_) fun h=> ?_
 refine az aa [4] [] ?_
 refine ag ?_
 obtain rfl:=inj h
 exact bw (aD (f1 fv))
 refine ai ?_
 refine aY ?_
 refine az aa [1] [] ?_
 refine ac ?_
 refine az aa [1,18] [] ?_
 refine ao h (fun h=> ?_) fun h=> ?_
 refine az aa [4] [] ?_
 refine ag ?_
 obtain rfl:=inj h
 exact bw (aD (f1 fv))
 refine ai ?_
 refine aY ?_
 refine az aa [4] [] ?_
 refine ag ?_
 obtain rfl:=inj h
 exact aD (f1 fv)
theorem Cq:a8 Tryz.prog 67:=ax Tryz.func67 (by kernel_rfl) rfl
noncomputable def iy(aA:(List aw))(bM:Int):Option (Int):=
 (bif(decide ((aJ (bM -(aA.length:Int)))<0))then some (-1)else(((cW (aA.length:Int) (fun(i3:Int) (s3:Int)=>((at' aA i3).bind fun x7=>((gX x7 s3).bind fun x8=>(bif(decide (x8<0))then some (.inr (.inr (-1)))else some (.inl x8))))) (fun(s3:Int)=> .inl s3) 0 (aJ (bM -(aA.length:Int))))).bind (Sum.elim (fun(j1:Int)=>some j1) some)))
theorem oH(aA:(List aw))(bM:Int)(r:Int)(h:iy aA bM=some r):aH Tryz.prog 32 [.v (vl ae aA),.v (vi bM)] ⟨[.v (vi r)],[],false⟩:=by
 refine au Tryz.func32 rfl [(.tmp 4)] rfl (fun r=>⟨[.v (vi r)],[],false⟩) (r:=r) ?_
 unfold iy at h
 refine az aa [0,1] [] ?_
 refine az aa [0,1] [] ?_
 refine ac ?_
 refine az aa [0,1,11] [] ?_
 refine ao h (fun h=> ?_) fun h=> ?_
 refine az aa [4] [] ?_
 refine ag ?_
 obtain rfl:=inj h
 exact bw (aD (f1 fv))
 refine ai ?_
 refine aY ?_
 refine ac ?_
 refine az aa [0,1,5] [] ?_
 refine bi (r:=r) h (fun j1=>⟨27,[(1,vi j1)],[]⟩) (fun v2 h=> ?_) (fun j1 h=> ?_)
 refine ay (a:=v2) ?_
 refine a6 (r:=v2) (s:=(0,(aJ (bM -(aA.length:Int))))) _ (fun s3=>⟨27,[(0,vl ae aA),(1,vi s3.2),(5,vi s3.1)],[]⟩) _ (Le.aq) h (fun s3 v4 h=> ?_)
 refine ac ?_
 refine az aa [0,1,5,15] [] ?_
 refine ao h (fun h=> ?_) fun h=> ?_
 refine ai ?_
 refine aY ?_
 refine ac ?_
 refine bn (r:=v4) h (fun j5=>⟨27,[(0,vl ae aA),(1,vi j5),(5,vi s3.1)],[]⟩) (fun v6 h=> ?_) (fun j5 h=> ?_)
 refine ay (a:=v6) ?_
 refine sr ?_
 refine ab.cl aa 2 [0,1,5,18,19] [] ?_
 obtain⟨x7,hx7,h⟩:=bind_some h
 refine ab.ls (aG (L:=aA) (f:=ae) (ti:=BN) (tj:=xC) (e:=103) (k:= .i64) aa rfl hx7) ?_
 refine ab.cl aa 2 [0,5,21,22] [] ?_
 obtain⟨x8,hx8,h⟩:=bind_some h
 refine ab.ls (xc Cq (pG x7 s3.2 _ hx8)) ?_
 refine bO aa 1 [0,1,5] [] ?_
 refine az aa [0,1,5,25] [] ?_
 refine ao h (fun h=> ?_) fun h=> ?_
 refine az aa [4] [] ?_
 refine ag ?_
 obtain rfl:=inj h
 exact bm (aU (aU (bm (aU (aD (f1 fv))))))
 refine ai ?_
 obtain rfl:=inj h
 exact bT (bZ (Le.aq))
 refine aF ?_
 refine ab.cl aa 3 [0,1,5] [] ?_
 refine ab.nil ?_
 obtain rfl:=inj h
 exact bZ (Le.aq)
 refine aQ ?_
 obtain rfl:=inj h
 exact cD (cF (cE (bZ (Le.aq))))
 refine az aa [4] [] ?_
 refine ag ?_
 obtain rfl:=inj h
 exact aD (f1 fv)
theorem Cd:a8 Tryz.prog 32:=ax Tryz.func32 (by kernel_rfl) rfl
noncomputable def iA(aA:World)(bM:Int):Option (Int):=
 ((gC aA.Places bM).bind fun x1=>(bif(decide (x1<0))then some (-1)else((iy aA.Links x1).bind fun x2=>(bif(decide (x2<0))then some (-1)else some x2))))
theorem oK(aA:World)(bM:Int)(r:Int)(h:iA aA bM=some r):aH Tryz.prog 7 [.v (.agg (tc ak aA)),.v (vi bM)] ⟨[.v (vi r)],[],false⟩:=by
 refine au Tryz.func7 rfl [(.tmp 4)] rfl (fun r=>⟨[.v (vi r)],[],false⟩) (r:=r) ?_
 unfold iA at h
 refine az aa [1,2] [2] ?_
 refine sr ?_
 refine ab.cl aa 3 [2,6,7] [2] ?_
 obtain⟨x1,hx1,h⟩:=bind_some h
 refine ab.ls (xc Cc (nW aA.Places bM _ hx1)) ?_
 refine bO aa 1 [1,2] [2] ?_
 refine ac ?_
 refine az aa [1,2,10] [2] ?_
 refine ao h (fun h=> ?_) fun h=> ?_
 refine az aa [4] [] ?_
 refine ag ?_
 obtain rfl:=inj h
 exact bw (aD (f1 fv))
 refine ai ?_
 refine aY ?_
 refine sr ?_
 refine ab.cl aa 3 [12,13] [] ?_
 obtain⟨x2,hx2,h⟩:=bind_some h
 refine ab.ls (xc Cd (oH aA.Links x1 _ hx2)) ?_
 refine bO aa 1 [1] [] ?_
 refine ac ?_
 refine az aa [1,16] [] ?_
 refine ao h (fun h=> ?_) fun h=> ?_
 refine iR aa ⟨18,[(4,vi (-1))],[]⟩ ?_
 refine ag ?_
 obtain rfl:=inj h
 exact bw (aD (f1 fv))
 refine ai ?_
 refine aY ?_
 refine az aa [4] [] ?_
 refine ag ?_
 obtain rfl:=inj h
 exact aD (f1 fv)
theorem C7:a8 Tryz.prog 7:=ax Tryz.func7 (by kernel_rfl) rfl
noncomputable def gB(aA:Change)(bM:Int):Option (Int):=
 (bif(decide ((aJ (bM -(aA.Code.size:Int)))<0))then some (-1)else(bif(decide ((aJ ((aJ (bM -(aA.Code.size:Int)))-(aA.Other.size:Int)))<0))then some (-1)else(bif(decide ((aJ ((aJ ((aJ (bM -(aA.Code.size:Int)))-(aA.Other.size:Int)))-(aA.Language.size:Int)))<0))then some (-1)else(bif(decide ((aJ ((aJ ((aJ ((aJ (bM -(aA.Code.size:Int)))-(aA.Other.size:Int)))-(aA.Language.size:Int)))-(aA.Text.size:Int)))<0))then some (-1)else some (aJ ((aJ ((aJ ((aJ (bM -(aA.Code.size:Int)))-(aA.Other.size:Int)))-(aA.Language.size:Int)))-(aA.Text.size:Int)))))))
theorem nV(aA:Change)(bM:Int)(r:Int)(h:gB aA bM=some r):aH Tryz.prog 8 [.v (.agg (tc ap aA)),.v (vi bM)] ⟨[.v (vi r)],[],false⟩:=by
 refine au Tryz.func8 rfl [(.tmp 4)] rfl (fun r=>⟨[.v (vi r)],[],false⟩) (r:=r) ?_
 unfold gB at h
 refine az aa [1,2] [2] ?_
 refine az aa [1,2] [2] ?_
 refine ac ?_
 refine az aa [1,2,11] [2] ?_
 refine ao h (fun h=> ?_) fun h=> ?_
 refine az aa [4] [] ?_
 refine ag ?_
 obtain rfl:=inj h
 exact bw (aD (f1 fv))
 refine ai ?_
 refine aY ?_
 refine az aa [1,2] [2] ?_
 refine ac ?_
 refine az aa [1,2,18] [2] ?_
 refine ao h (fun h=> ?_) fun h=> ?_
 refine az aa [4] [] ?_
 refine ag ?_
 obtain rfl:=inj h
 exact bw (aD (f1 fv))
 refine ai ?_
 refine aY ?_
 refine az aa [1,2] [2] ?_
 refine ac ?_
 refine iR aa ⟨34,[(1,vi (aJ ((aJ ((aJ (bM -(aA.Code.size:Int)))-(aA.Other.size:Int)))-(aA.Language.size:Int)))),(2,.ref 2 0),(25,vb (decide ((aJ ((aJ ((aJ (bM -(aA.Code.size:Int)))-(aA.Other.size:Int)))-(aA.Language.size:Int)))<0)))],[(2,.box (tc ap aA))]⟩ ?_
 refine ao h (fun h=> ?_) fun h=> ?_
 refine az aa [4] [] ?_
 refine ag ?_
 obtain rfl:=inj h
 exact bw (aD (f1 fv))
 refine ai ?_
 refine aY ?_
 refine az aa [1] [] ?_
 refine ac ?_
 refine az aa [1,32] [] ?_
 refine ao h (fun h=> ?_) fun h=> ?_
 refine az aa [4] [] ?_
 refine ag ?_
 obtain rfl:=inj h
 exact bw (aD (f1 fv))
 refine ai ?_
 refine aY ?_
 refine az aa [4] [] ?_
 refine ag ?_
 obtain rfl:=inj h
 exact aD (f1 fv)
theorem C8:a8 Tryz.prog 8:=ax Tryz.func8 (by kernel_rfl) rfl
noncomputable def ei(aA:Change):Option (Change):=
 some aA
theorem cB(aA:Change)(r:Change)(h:ei aA=some r):aH Tryz.prog 11 [.v (.agg (tc ap aA))] ⟨[.v (.agg (tc ap r))],[],false⟩:=by
 refine au Tryz.func11 rfl [(.cell 2 37)] rfl (fun r=>⟨[.v (.agg (tc ap r))],[],false⟩) (r:=r) ?_
 unfold ei at h
 refine az aa [1,2] [1,2] ?_
 refine az aa [1,2,3] [1,2,3] ?_
 refine az aa [1,2,3] [1,2,3] ?_
 refine az aa [1,2,3] [1,2,3] ?_
 refine az aa [1,2,3] [1,2,3] ?_
 refine az aa [1,2,3] [1,2,3] ?_
 refine az aa [1,2,3] [1,2,3] ?_
 refine az aa [2,3] [2,3] ?_
 refine iR aa ⟨23,[(2,.ref 2 0)],[(2,.box (tc ap aA))]⟩ ?_
 refine ag ?_
 obtain rfl:=inj h
 exact aD (f1 (fc aa))
theorem lU:a8 Tryz.prog 11:=ax Tryz.func11 (by kernel_rfl) rfl
noncomputable def c5(aN:Int)(jv:Int)(fG:Int):Option (Bool):=
 some ((decide (aN≥jv))&&(decide (aN≤fG)))
theorem cG(aN:Int)(jv:Int)(fG:Int)(r:Bool)(h:c5 aN jv fG=some r):aH Tryz.prog 166 [.v (vi aN),.v (vi jv),.v (vi fG)] ⟨[.v (vb r)],[],false⟩:=by
 refine au Tryz.func166 rfl [(.tmp 6)] rfl (fun r=>⟨[.v (vb r)],[],false⟩) (r:=r) ?_
 unfold c5 at h
 refine az aa [0,1,2] [] ?_
 refine ac ?_
 refine dc ⟨15,[(6,vb ((decide (aN≥jv))&&(decide (aN≤fG))))],[]⟩ ?_ ?_
 refine ab.ck aa 4 ⟨15,[(0,vi aN),(2,vi fG),(10,vb (decide (aN≥jv)))],[]⟩ ?_
 generalize (decide (aN≥jv))=bb
 cases bb
 refine ab.cl aa 5 [6] [] ?_
 exact ab.nil (Le.aq)
 refine ab.cl aa 5 [6] [] ?_
 exact ab.nil (Le.aq)
 refine ag ?_
 obtain rfl:=inj h
 exact aD (f1 fv)
theorem ja:a8 Tryz.prog 166:=ax Tryz.func166 (by kernel_rfl) rfl
noncomputable def cX(aS:ByteArray):Option (Bool):=
 (((cW (aS.size:Int) (fun(i3:Int) (_:Unit)=>((((lD aS i3).bind fun x7=>(bif(decide (x7<97))then some true else((lD aS i3).bind fun x8=>some (decide (x8>122)))))).bind fun(j9:Bool)=>(bif j9 then some (.inr (.inr false))else some (.inl ())))) (fun(_:Unit)=> .inl ()) 0 ())).bind (Sum.elim (fun(_:Unit)=>((c5 (aS.size:Int) 1 16).bind fun x11=>some x11)) some))
theorem cY(aS:ByteArray)(r:Bool)(h:cX aS=some r):aH Tryz.prog 165 [.v (vs aS)] ⟨[.v (vb r)],[],false⟩:=by
 refine au Tryz.func165 rfl [(.tmp 2)] rfl (fun r=>⟨[.v (vb r)],[],false⟩) (r:=r) ?_
 unfold cX at h
 refine az aa [0] [] ?_
 refine ac ?_
 refine az aa [0,3] [] ?_
 refine bi (r:=r) h (fun j1=>⟨23,[(0,vs aS)],[]⟩) (fun v2 h=> ?_) (fun j1 h=> ?_)
 refine ay (a:=v2) ?_
 refine a6 (r:=v2) (s:=(0,())) _ (fun s3=>⟨23,[(0,vs aS),(3,vi s3.1)],[]⟩) _ (Le.aq) h (fun s3 v4 h=> ?_)
 refine ac ?_
 refine az aa [0,3,7] [] ?_
 refine ao h (fun h=> ?_) fun h=> ?_
 refine ai ?_
 refine aY ?_
 refine ac ?_
 refine bn (r:=v4) h (fun j5=>⟨23,[(0,vs aS),(3,vi s3.1)],[]⟩) (fun v6 h=> ?_) (fun j5 h=> ?_)
 refine ay (a:=v6) ?_
 refine ac ?_
 refine bj h (fun j9=>⟨23,[(0,vs aS),(3,vi s3.1),(19,vb j9)],[]⟩) (fun v10 h=> ?_) (fun j9 h=> ?_)
 refine ab.cl aa 2 [0,3,10,11] [] ?_
 obtain⟨x7,hx7,h⟩:=bind_some h
 refine ab.ls (rA (ti:=gH) (k:= .i64) hx7 aa rfl) ?_
 refine ab.cl aa 2 [0,3,14] [] ?_
 refine ab.cu [(14,fun b=>b)] h (fun h=> ?_) fun h=> ?_
 refine ab.cl aa 5 [0,3,19] [] ?_
 refine ab.nil ?_
 obtain rfl:=inj h
 exact Le.aq
 refine ab.cl aa 2 [0,3,14,15,16] [] ?_
 obtain⟨x8,hx8,h⟩:=bind_some h
 refine ab.ls (rA (ti:=gH) (k:= .i64) hx8 aa rfl) ?_
 refine ab.cl aa 2 [0,3,19] [] ?_
 refine ab.nil ?_
 obtain rfl:=inj h
 exact Le.aq
 refine ao h (fun h=> ?_) fun h=> ?_
 refine az aa [2] [] ?_
 refine ag ?_
 obtain rfl:=inj h
 exact bm (aU (aU (bm (aU (aD (f1 fv))))))
 refine ai ?_
 obtain rfl:=inj h
 exact bT (bZ (Le.aq))
 refine aF ?_
 refine ab.cl aa 3 [0,3] [] ?_
 refine ab.nil ?_
 obtain rfl:=inj h
 exact bZ (Le.aq)
 refine aQ ?_
 obtain rfl:=inj h
 exact cD (cF (cE (bZ (Le.aq))))
 refine sr ?_
 refine ab.cl aa 2 [21] [] ?_
 obtain⟨x11,hx11,h⟩:=bind_some h
 refine ab.ls (xc ja (cG (aS.size:Int) 1 16 _ hx11)) ?_
 refine ckn aa 1 ⟨23,[(2,vb x11)],[]⟩ ?_
 refine ag ?_
 obtain rfl:=inj h
 exact aD (f1 fv)
theorem ky:a8 Tryz.prog 165:=ax Tryz.func165 (by kernel_rfl) rfl
noncomputable def cU(aN:Int):Option (Bool):=
 ((c5 aN (-3000) 3000).bind fun x1=>some x1)
theorem eK(aN:Int)(r:Bool)(h:cU aN=some r):aH Tryz.prog 177 [.v (vi aN)] ⟨[.v (vb r)],[],false⟩:=by
 refine au Tryz.func177 rfl [(.tmp 2)] rfl (fun r=>⟨[.v (vb r)],[],false⟩) (r:=r) ?_
 unfold cU at h
 refine iR aa ⟨5,[(0,vi aN)],[]⟩ ?_
 refine sr ?_
 refine ab.ck aa 1 ⟨5,[(3,vi aN)],[]⟩ ?_
 obtain⟨x1,hx1,h⟩:=bind_some h
 refine ab.ls (xc ja (cG aN (-3000) 3000 _ hx1)) ?_
 refine ckn aa 1 ⟨5,[(2,vb x1)],[]⟩ ?_
 refine ag ?_
 obtain rfl:=inj h
 exact aD (f1 fv)
theorem nF:a8 Tryz.prog 177:=ax Tryz.func177 (by kernel_rfl) rfl
noncomputable def fP(aS:Span):Option (Bool):=
 ((((cU aS.From).bind fun x1=>(bif x1 then((cU aS.To).bind fun x2=>(bif x2 then some (decide (aS.From≤aS.To))else some false))else some false))).bind fun(j3:Bool)=>some j3)
theorem jC(aS:Span)(r:Bool)(h:fP aS=some r):aH Tryz.prog 167 [.v (.agg (tc gp aS))] ⟨[.v (vb r)],[],false⟩:=by
 refine au Tryz.func167 rfl [(.tmp 2)] rfl (fun r=>⟨[.v (vb r)],[],false⟩) (r:=r) ?_
 unfold fP at h
 refine az aa [1] [1] ?_
 refine ac ?_
 refine bj h (fun j3=>⟨18,[(2,vb j3)],[]⟩) (fun v4 h=> ?_) (fun j3 h=> ?_)
 refine ab.cl aa 2 [1,4] [1] ?_
 obtain⟨x1,hx1,h⟩:=bind_some h
 refine ab.ls (xc nF (eK aS.From _ hx1)) ?_
 refine ab.cl aa 1 [1,6] [1] ?_
 refine ab.cu [(6,fun b=>b)] h (fun h=> ?_) fun h=> ?_
 refine ab.cl aa 2 [1,6,8] [1] ?_
 obtain⟨x2,hx2,h⟩:=bind_some h
 refine ab.ls (xc nF (eK aS.To _ hx2)) ?_
 refine ab.cl aa 2 [1,11] [1] ?_
 refine ab.cu [(11,fun b=>b)] h (fun h=> ?_) fun h=> ?_
 refine ab.cl aa 7 [2] [] ?_
 refine ab.nil ?_
 obtain rfl:=inj h
 exact Le.aq
 refine ab.cl aa 7 [2] [] ?_
 refine ab.nil ?_
 obtain rfl:=inj h
 exact Le.aq
 refine ab.cl aa 12 [2] [] ?_
 refine ab.nil ?_
 obtain rfl:=inj h
 exact Le.aq
 refine ag ?_
 obtain rfl:=inj h
 exact aD (f1 fv)
theorem sQ:a8 Tryz.prog 167:=ax Tryz.func167 (by kernel_rfl) rfl
noncomputable def gG(aS:ByteArray)(aBy:Int):Option ((List ByteArray)):=
 (((nM (fun(i3:Int) (_:Int×(List ByteArray))=>(decide (i3≤(aS.size:Int)))) (fun(i3:Int) (s3:Int×(List ByteArray))=>(((bif(i3==(aS.size:Int))then some true else((lD aS i3).bind fun x7=>some (x7==aBy)))).bind fun(j8:Bool)=>(bif j8 then((rk aS s3.1 i3).bind fun x10=>((ed s3.2 ([x10]:List ByteArray)).bind fun x11=>some ((aJ (i3+1)),x11)))else some (s3.1,s3.2)))) (fun(s3:Int×(List ByteArray))=>s3.2) 0 (0,([]:List ByteArray)))).bind fun(j1:(List ByteArray))=>some j1)
theorem n9(aS:ByteArray)(aBy:Int)(r:(List ByteArray))(h:gG aS aBy=some r):aH Tryz.prog 219 [.v (vs aS),.v (.tr (.int .u8 aBy))] ⟨[.own 9 1 r.length (r.map eS)],[],false⟩:=by
 refine au Tryz.func219 rfl [(.tmp 4)] rfl (fun r=>⟨[.own 9 1 r.length (r.map eS)],[],false⟩) (r:=r) ?_
 unfold gG at h
 refine az aa [0,1] [] ?_
 refine az aa [0,1,5] [8] ?_
 refine az aa [0,1,5,6] [8] ?_
 refine ac ?_
 refine az aa [0,1,5,6,7] [8] ?_
 refine a7 h (fun j1=>⟨36,[(5,.own 5)],[(5,oa 9 1 eS j1)]⟩) (fun v2 h=> ?_) (fun j1 h=> ?_)
 refine ay (a:=v2) ?_
 refine a6 (r:=v2) (s:=(0,0,([]:List ByteArray))) _ (fun s3=>⟨36,[(0,vs aS),(1,.tr (.int .u8 aBy)),(5,.own 5),(6,vi s3.2.1),(7,vi s3.1)],[(5,oa 9 1 eS s3.2.2)]⟩) _ (Le.rr [8] [(8,5)]) h (fun s3 v4 h=> ?_)
 refine ac ?_
 refine az aa [0,1,5,6,7,12] [5] ?_
 refine ao h (fun h=> ?_) fun h=> ?_
 refine ai ?_
 refine aY ?_
 refine ac ?_
 refine a7 h (fun j5=>⟨36,[(0,vs aS),(1,.tr (.int .u8 aBy)),(5,.own 5),(6,vi j5.1),(7,vi s3.1)],[(5,oa 9 1 eS j5.2)]⟩) (fun v6 h=> ?_) (fun j5 h=> ?_)
 refine ay (a:=v6) ?_
 refine ac ?_
 refine bj h (fun j8=>⟨36,[(0,vs aS),(1,.tr (.int .u8 aBy)),(5,.own 5),(6,vi s3.2.1),(7,vi s3.1),(25,vb j8)],[(5,oa 9 1 eS s3.2.2)]⟩) (fun v9 h=> ?_) (fun j8 h=> ?_)
 refine ab.cl aa 5 [0,1,5,6,7,19] [5] ?_
 refine ab.cu [(19,fun b=>b)] h (fun h=> ?_) fun h=> ?_
 refine ab.cl aa 6 [0,1,5,6,7,25] [5] ?_
 refine ab.nil ?_
 obtain rfl:=inj h
 exact Le.aq
 refine ab.cl aa 2 [0,1,5,6,7,19,20,21] [5] ?_
 obtain⟨x7,hx7,h⟩:=bind_some h
 refine ab.ls (rA (ti:=gH) (k:= .i64) hx7 aa rfl) ?_
 refine ab.cl aa 3 [0,1,5,6,7,25] [5] ?_
 refine ab.nil ?_
 obtain rfl:=inj h
 exact Le.aq
 refine ao h (fun h=> ?_) fun h=> ?_
 refine sr ?_
 refine ab.cl aa 4 [0,1,7,26,27,28,29] [5] ?_
 obtain⟨x10,hx10,h⟩:=bind_some h
 refine ab.ls (Dz (ti:=gH) hx10 aa rfl) ?_
 refine ab.cl aa 1 [0,1,7,26,31] [5,31] ?_
 obtain⟨x11,hx11,h⟩:=bind_some h
 refine ab.bx (bS (f:=eS) (t:=106) (ti:=cy) (tj:=gH) (zs:=[.string (ByteArray.mk #[])]) (e:=9) (m:=1) (d:=5) (xv:= .own 31) hx11 aa rfl rfl rfl rfl (dC (e:=9))) ?_
 refine bO aa 1 [0,1,5,7] [32] ?_
 refine aF ?_
 refine ab.cl aa 3 [0,1,5,6,7] [32] ?_
 refine ab.nil ?_
 obtain rfl:=inj h
 exact bT (fu (Le.rr [32] [(32,5)]))
 refine ai ?_
 obtain rfl:=inj h
 exact bT (fu (Le.aq))
 refine aF ?_
 refine ab.ck aa 3 ⟨36,[(0,vs aS),(1,.tr (.int .u8 aBy)),(5,.own 5),(6,vi j5.1),(7,vi (aJ (s3.1+1)))],[(5,oa 9 1 eS j5.2)]⟩ ?_
 refine ab.nil ?_
 obtain rfl:=inj h
 exact bZ (Le.aq)
 refine aQ ?_
 obtain rfl:=inj h
 exact cD (cF (cE (fu (Le.aq))))
 refine az aa [4] [5] ?_
 refine ag ?_
 obtain rfl:=inj h
 exact aD (f1 (fo fC))
theorem Bj:a8 Tryz.prog 219:=ax Tryz.func219 (by kernel_rfl) rfl
noncomputable def fQ(aS:ByteArray):Option ((List ByteArray)×Bool):=
 ((gG aS 32).bind fun x1=>(((cW (x1.length:Int) (fun(i4:Int) (_:Unit)=>((at' x1 i4).bind fun x8=>((cX x8).bind fun x9=>(bif(!x9)then some (.inr (.inr (([]:List ByteArray),false)))else some (.inl ()))))) (fun(_:Unit)=> .inl ()) 0 ())).bind (Sum.elim (fun(_:Unit)=>some (x1,(decide ((x1.length:Int)≤8)))) some)))
theorem ng(aS:ByteArray)(r:(List ByteArray)×Bool)(h:fQ aS=some r):aH Tryz.prog 203 [.v (vs aS)] ⟨[.own 9 1 r.1.length (r.1.map eS),.v (vb r.2)],[],false⟩:=by
 refine au Tryz.func203 rfl [(.tmp 2),(.tmp 3)] rfl (fun r=>⟨[.own 9 1 r.1.length (r.1.map eS),.v (vb r.2)],[],false⟩) (r:=r) ?_
 unfold fQ at h
 refine az aa [0] [] ?_
 refine sr ?_
 refine ab.cl aa 1 [6] [] ?_
 obtain⟨x1,hx1,h⟩:=bind_some h
 refine ab.ls (xc Bj (n9 aS 32 _ hx1)) ?_
 refine bO aa 1 [4] [7] ?_
 refine ac ?_
 refine az aa [4,5] [7] ?_
 refine bi (r:=r) h (fun j2=>⟨24,[(4,.own 4)],[(4,oa 9 1 eS x1)]⟩) (fun v3 h=> ?_) (fun j2 h=> ?_)
 refine ay (a:=v3) ?_
 refine a6 (r:=v3) (s:=(0,())) _ (fun s4=>⟨24,[(4,.own 4),(5,vi s4.1)],[(4,oa 9 1 eS x1)]⟩) _ (Le.rr [7] [(7,4)]) h (fun s4 v5 h=> ?_)
 refine ac ?_
 refine az aa [4,5,11] [4] ?_
 refine ao h (fun h=> ?_) fun h=> ?_
 refine ai ?_
 refine aY ?_
 refine ac ?_
 refine bn (r:=v5) h (fun j6=>⟨24,[(4,.own 4),(5,vi s4.1)],[(4,oa 9 1 eS x1)]⟩) (fun v7 h=> ?_) (fun j6 h=> ?_)
 refine ay (a:=v7) ?_
 refine sr ?_
 refine ab.cl aa 2 [4,5,14,15] [4] ?_
 obtain⟨x8,hx8,h⟩:=bind_some h
 refine ab.ls (bo (d:=4) (L:=x1) (f:=eS) (ti:=cy) (tj:=gH) (e:=9) (e':=9) (m:=1) (k:= .i64) aa rfl hx8) ?_
 refine ab.ls (dr (d:=4) (m:=1) (j:=0) (L:=x1) (f:=eS) (ti:=gH) (e:=9) (v:=vs x8) aa rfl hx8) ?_
 obtain⟨x9,hx9,h⟩:=bind_some h
 refine ab.ls (xc ky (cY x8 _ hx9)) ?_
 refine bO aa 1 [4,5,19] [4] ?_
 refine ao h (fun h=> ?_) fun h=> ?_
 refine az aa [2,3] [2] ?_
 refine ag ?_
 obtain rfl:=inj h
 exact bm (aU (aU (bm (aU (aD (f2 (fo fC) fv))))))
 refine ai ?_
 obtain rfl:=inj h
 exact bT (bZ (Le.aq))
 refine aF ?_
 refine ab.cl aa 3 [4,5] [4] ?_
 refine ab.nil ?_
 obtain rfl:=inj h
 exact bZ (Le.aq)
 refine aQ ?_
 obtain rfl:=inj h
 exact cD (cF (cE (bZ (Le.aq))))
 refine az aa [2,3] [4] ?_
 refine ag ?_
 obtain rfl:=inj h
 exact aD (f2 (fo fC) fv)
theorem Bd:a8 Tryz.prog 203:=ax Tryz.func203 (by kernel_rfl) rfl
noncomputable def ek(aS:ByteArray):Option (Bool):=
 ((fQ aS).bind fun x1=>some x1.2)
theorem iG(aS:ByteArray)(r:Bool)(h:ek aS=some r):aH Tryz.prog 173 [.v (vs aS)] ⟨[.v (vb r)],[],false⟩:=by
 refine au Tryz.func173 rfl [(.tmp 2)] rfl (fun r=>⟨[.v (vb r)],[],false⟩) (r:=r) ?_
 unfold ek at h
 refine az aa [0] [] ?_
 refine sr ?_
 refine ab.cl aa 1 [6] [] ?_
 obtain⟨x1,hx1,h⟩:=bind_some h
 refine ab.ls (xc Bd (ng aS _ hx1)) ?_
 refine bO aa 5 [4] [] ?_
 refine az aa [2] [] ?_
 refine ag ?_
 obtain rfl:=inj h
 exact aD (f1 fv)
theorem sS:a8 Tryz.prog 173:=ax Tryz.func173 (by kernel_rfl) rfl
noncomputable def jc(aS:ByteArray)(jv:Int)(fG:Int):Option (Bool):=
 (((cW (aS.size:Int) (fun(i3:Int) (_:Unit)=>((((lD aS i3).bind fun x7=>(bif(decide (x7<97))then some true else((lD aS i3).bind fun x8=>some (decide (x8>122)))))).bind fun(j9:Bool)=>(bif j9 then some (.inr (.inr false))else some (.inl ())))) (fun(_:Unit)=> .inl ()) 0 ())).bind (Sum.elim (fun(_:Unit)=>((c5 (aS.size:Int) jv fG).bind fun x11=>some x11)) some))
theorem ob(aS:ByteArray)(jv:Int)(fG:Int)(r:Bool)(h:jc aS jv fG=some r):aH Tryz.prog 202 [.v (vs aS),.v (vi jv),.v (vi fG)] ⟨[.v (vb r)],[],false⟩:=by
 refine au Tryz.func202 rfl [(.tmp 6)] rfl (fun r=>⟨[.v (vb r)],[],false⟩) (r:=r) ?_
 unfold jc at h
 refine az aa [0,1,2] [] ?_
 refine ac ?_
 refine az aa [0,1,2,7] [] ?_
 refine bi (r:=r) h (fun j1=>⟨29,[(0,vs aS),(1,vi jv),(2,vi fG)],[]⟩) (fun v2 h=> ?_) (fun j1 h=> ?_)
 refine ay (a:=v2) ?_
 refine a6 (r:=v2) (s:=(0,())) _ (fun s3=>⟨29,[(0,vs aS),(1,vi jv),(2,vi fG),(7,vi s3.1)],[]⟩) _ (Le.aq) h (fun s3 v4 h=> ?_)
 refine ac ?_
 refine az aa [0,1,2,7,11] [] ?_
 refine ao h (fun h=> ?_) fun h=> ?_
 refine ai ?_
 refine aY ?_
 refine ac ?_
 refine bn (r:=v4) h (fun j5=>⟨29,[(0,vs aS),(1,vi jv),(2,vi fG),(7,vi s3.1)],[]⟩) (fun v6 h=> ?_) (fun j5 h=> ?_)
 refine ay (a:=v6) ?_
 refine ac ?_
 refine bj h (fun j9=>⟨29,[(0,vs aS),(1,vi jv),(2,vi fG),(7,vi s3.1),(23,vb j9)],[]⟩) (fun v10 h=> ?_) (fun j9 h=> ?_)
 refine ab.cl aa 2 [0,1,2,7,14,15] [] ?_
 obtain⟨x7,hx7,h⟩:=bind_some h
 refine ab.ls (rA (ti:=gH) (k:= .i64) hx7 aa rfl) ?_
 refine ab.cl aa 2 [0,1,2,7,18] [] ?_
 refine ab.cu [(18,fun b=>b)] h (fun h=> ?_) fun h=> ?_
 refine ab.cl aa 5 [0,1,2,7,23] [] ?_
 refine ab.nil ?_
 obtain rfl:=inj h
 exact Le.aq
 refine ab.cl aa 2 [0,1,2,7,18,19,20] [] ?_
 obtain⟨x8,hx8,h⟩:=bind_some h
 refine ab.ls (rA (ti:=gH) (k:= .i64) hx8 aa rfl) ?_
 refine ab.cl aa 2 [0,1,2,7,23] [] ?_
 refine ab.nil ?_
 obtain rfl:=inj h
 exact Le.aq
 refine ao h (fun h=> ?_) fun h=> ?_
 refine az aa [6] [] ?_
 refine ag ?_
 obtain rfl:=inj h
 exact bm (aU (aU (bm (aU (aD (f1 fv))))))
 refine ai ?_
 obtain rfl:=inj h
 exact bT (bZ (Le.aq))
 refine aF ?_
 refine ab.cl aa 3 [0,1,2,7] [] ?_
 refine ab.nil ?_
 obtain rfl:=inj h
 exact bZ (Le.aq)
 refine aQ ?_
 obtain rfl:=inj h
 exact cD (cF (cE (bZ (Le.aq))))
 refine sr ?_
 refine ab.cl aa 4 [25,26,27] [] ?_
 obtain⟨x11,hx11,h⟩:=bind_some h
 refine ab.ls (xc ja (cG (aS.size:Int) jv fG _ hx11)) ?_
 refine ckn aa 1 ⟨29,[(6,vb x11)],[]⟩ ?_
 refine ag ?_
 obtain rfl:=inj h
 exact aD (f1 fv)
theorem Bc:a8 Tryz.prog 202:=ax Tryz.func202 (by kernel_rfl) rfl
noncomputable def c6(aS:ByteArray):Option (Bool):=
 ((jc aS 2 3).bind fun x1=>some x1)
theorem fR(aS:ByteArray)(r:Bool)(h:c6 aS=some r):aH Tryz.prog 172 [.v (vs aS)] ⟨[.v (vb r)],[],false⟩:=by
 refine au Tryz.func172 rfl [(.tmp 2)] rfl (fun r=>⟨[.v (vb r)],[],false⟩) (r:=r) ?_
 unfold c6 at h
 refine iR aa ⟨5,[(0,vs aS)],[]⟩ ?_
 refine sr ?_
 refine ab.ck aa 1 ⟨5,[(3,vs aS)],[]⟩ ?_
 obtain⟨x1,hx1,h⟩:=bind_some h
 refine ab.ls (xc Bc (ob aS 2 3 _ hx1)) ?_
 refine ckn aa 1 ⟨5,[(2,vb x1)],[]⟩ ?_
 refine ag ?_
 obtain rfl:=inj h
 exact aD (f1 fv)
theorem sR:a8 Tryz.prog 172:=ax Tryz.func172 (by kernel_rfl) rfl
noncomputable def jo(aN:Name):Option (Bool):=
 ((((ek aN.Text).bind fun x1=>(bif x1 then((c6 aN.Language).bind fun x2=>(bif x2 then((c5 aN.Status 0 2).bind fun x3=>(bif x3 then((fP aN.Years).bind fun x4=>some x4)else some false))else some false))else some false))).bind fun(j5:Bool)=>some j5)
theorem pW(aN:Name)(r:Bool)(h:jo aN=some r):aH Tryz.prog 201 [.v (.agg (tc ar aN))] ⟨[.v (vb r)],[],false⟩:=by
 refine au Tryz.func201 rfl [(.tmp 2)] rfl (fun r=>⟨[.v (vb r)],[],false⟩) (r:=r) ?_
 unfold jo at h
 refine az aa [1] [1] ?_
 refine ac ?_
 refine bj h (fun j5=>⟨21,[(2,vb j5)],[]⟩) (fun v6 h=> ?_) (fun j5 h=> ?_)
 refine ab.cl aa 2 [1,4] [1] ?_
 obtain⟨x1,hx1,h⟩:=bind_some h
 refine ab.ls (xc sS (iG aN.Text _ hx1)) ?_
 refine ab.cl aa 1 [1,6] [1] ?_
 refine ab.cu [(6,fun b=>b)] h (fun h=> ?_) fun h=> ?_
 refine ab.cl aa 2 [1,6,8] [1] ?_
 obtain⟨x2,hx2,h⟩:=bind_some h
 refine ab.ls (xc sR (fR aN.Language _ hx2)) ?_
 refine ab.cl aa 2 [1,11] [1] ?_
 refine ab.cu [(11,fun b=>b)] h (fun h=> ?_) fun h=> ?_
 refine ab.cl aa 2 [1,11,13] [1] ?_
 obtain⟨x3,hx3,h⟩:=bind_some h
 refine ab.ls (xc ja (cG aN.Status 0 2 _ hx3)) ?_
 refine ab.cl aa 2 [1,16] [1] ?_
 refine ab.cu [(16,fun b=>b)] h (fun h=> ?_) fun h=> ?_
 refine ab.cl aa 2 [16,18] [] ?_
 obtain⟨x4,hx4,h⟩:=bind_some h
 refine ab.ls (xc sQ (jC aN.Years _ hx4)) ?_
 refine ab.cl aa 2 [2] [] ?_
 refine ab.nil ?_
 obtain rfl:=inj h
 exact Le.aq
 refine ab.ck aa 5 ⟨21,[(2,vb false)],[]⟩ ?_
 refine ab.nil ?_
 obtain rfl:=inj h
 exact Le.aq
 refine ab.cl aa 10 [2] [] ?_
 refine ab.nil ?_
 obtain rfl:=inj h
 exact Le.aq
 refine ab.cl aa 15 [2] [] ?_
 refine ab.nil ?_
 obtain rfl:=inj h
 exact Le.aq
 refine ag ?_
 obtain rfl:=inj h
 exact aD (f1 fv)
theorem Bb:a8 Tryz.prog 201:=ax Tryz.func201 (by kernel_rfl) rfl
noncomputable def dB(aA:Span)(aB:Span):Option (Bool):=
 some ((decide (aA.From≤aB.To))&&(decide (aB.From≤aA.To)))
theorem lf(aA:Span)(aB:Span)(r:Bool)(h:dB aA aB=some r):aH Tryz.prog 114 [.v (.agg (tc gp aA)),.v (.agg (tc gp aB))] ⟨[.v (vb r)],[],false⟩:=by
 refine au Tryz.func114 rfl [(.tmp 4)] rfl (fun r=>⟨[.v (vb r)],[],false⟩) (r:=r) ?_
 unfold dB at h
 refine az aa [2,3] [2,3] ?_
 refine ac ?_
 refine dc ⟨17,[(4,vb ((decide (aA.From≤aB.To))&&(decide (aB.From≤aA.To))))],[]⟩ ?_ ?_
 refine ab.ck aa 6 ⟨17,[(2,.ref 2 0),(3,.ref 3 0),(10,vb (decide (aA.From≤aB.To)))],[(2,.box (tc gp aA)),(3,.box (tc gp aB))]⟩ ?_
 generalize (decide (aA.From≤aB.To))=bb
 cases bb
 refine ab.cl aa 7 [4] [] ?_
 exact ab.nil (Le.aq)
 refine ab.cl aa 7 [4] [] ?_
 exact ab.nil (Le.aq)
 refine ag ?_
 obtain rfl:=inj h
 exact aD (f1 fv)
theorem wY:a8 Tryz.prog 114:=ax Tryz.func114 (by kernel_rfl) rfl
noncomputable def fx(ah:(List Name)):Option (Bool):=
 (((cW (ah.length:Int) (fun(i3:Int) (_:Unit)=>((at' ah i3).bind fun x7=>((jo x7).bind fun x8=>(bif(!x8)then some (.inr (.inr false))else(cW i3 (fun(i9:Int) (_:Unit)=>((at' ah i9).bind fun x13=>(((bif(x7.Status==0)then(bif(x13.Status==0)then(bif(x7.Language.toList==x13.Language.toList)then((dB x7.Years x13.Years).bind fun x14=>some x14)else some false)else some false)else some false)).bind fun(j15:Bool)=>(bif j15 then some (.inr (.inr (.inr false)))else some (.inl ()))))) (fun(_:Unit)=> .inl ()) 0 ()))))) (fun(_:Unit)=> .inl ()) 0 ())).bind (Sum.elim (fun(_:Unit)=>some (decide ((ah.length:Int)≤12))) some))
theorem kH(ah:(List Name))(r:Bool)(h:fx ah=some r):aH Tryz.prog 168 [.v (vl ar ah)] ⟨[.v (vb r)],[],false⟩:=by
 refine au Tryz.func168 rfl [(.tmp 2)] rfl (fun r=>⟨[.v (vb r)],[],false⟩) (r:=r) ?_
 unfold fx at h
 refine az aa [0] [] ?_
 refine ac ?_
 refine az aa [0,3] [] ?_
 refine bi (r:=r) h (fun j1=>⟨54,[(0,vl ar ah)],[]⟩) (fun v2 h=> ?_) (fun j1 h=> ?_)
 refine ay (a:=v2) ?_
 refine a6 (r:=v2) (s:=(0,())) _ (fun s3=>⟨54,[(0,vl ar ah),(3,vi s3.1)],[]⟩) _ (Le.aq) h (fun s3 v4 h=> ?_)
 refine ac ?_
 refine az aa [0,3,10] [] ?_
 refine ao h (fun h=> ?_) fun h=> ?_
 refine ai ?_
 refine aY ?_
 refine ac ?_
 refine bn (r:=v4) h (fun j5=>⟨54,[(0,vl ar ah),(3,vi s3.1)],[]⟩) (fun v6 h=> ?_) (fun j5 h=> ?_)
 refine ay (a:=v6) ?_
 refine sr ?_
 refine ab.cl aa 2 [0,3,13,14] [] ?_
 obtain⟨x7,hx7,h⟩:=bind_some h
 refine ab.ls (aG (L:=ah) (f:=ar) (ti:=dd) (tj:=cH) (e:=169) (k:= .i64) aa rfl hx7) ?_
 refine bO aa 3 [0,3,4] [4] ?_
 refine ac ?_
 refine sr ?_
 refine ab.cl aa 1 [0,3,4,17] [4] ?_
 obtain⟨x8,hx8,h⟩:=bind_some h
 refine ab.ls (xc Bb (pW x7 _ hx8)) ?_
 refine bO aa 1 [0,3,4,19] [4] ?_
 refine ao h (fun h=> ?_) fun h=> ?_
 refine az aa [2] [] ?_
 refine ag ?_
 obtain rfl:=inj h
 exact bw (bm (aU (aU (bm (aU (aD (f1 fv)))))))
 refine ai ?_
 refine aY ?_
 refine az aa [0,3,4,5] [4] ?_
 refine ay (a:=v6) ?_
 refine a6 (r:=v6) (s:=(0,())) _ (fun s9=>⟨54,[(0,vl ar ah),(3,vi s3.1),(4,.ref 4 0),(5,vi s9.1)],[(4,.box (tc ar x7))]⟩) _ (Le.aq) h (fun s9 v10 h=> ?_)
 refine ac ?_
 refine az aa [0,3,4,5,22] [4] ?_
 refine ao h (fun h=> ?_) fun h=> ?_
 refine ai ?_
 refine aY ?_
 refine ac ?_
 refine bn (r:=v10) h (fun j11=>⟨54,[(0,vl ar ah),(3,vi s3.1),(4,.ref 4 0),(5,vi s9.1)],[(4,.box (tc ar x7))]⟩) (fun v12 h=> ?_) (fun j11 h=> ?_)
 refine ay (a:=v12) ?_
 refine sr ?_
 refine ab.cl aa 2 [0,3,4,5,25,26] [4] ?_
 obtain⟨x13,hx13,h⟩:=bind_some h
 refine ab.ls (aG (L:=ah) (f:=ar) (ti:=dd) (tj:=cH) (e:=169) (k:= .i64) aa rfl hx13) ?_
 refine bO aa 3 [0,3,4,5,6] [4,6] ?_
 refine ac ?_
 refine bj h (fun j15=>⟨54,[(0,vl ar ah),(3,vi s3.1),(4,.ref 4 0),(5,vi s9.1),(50,vb j15)],[(4,.box (tc ar x7))]⟩) (fun v16 h=> ?_) (fun j15 h=> ?_)
 refine ab.cl aa 4 [0,3,4,5,6,32] [4,6] ?_
 refine ab.cu [(32,fun b=>b)] h (fun h=> ?_) fun h=> ?_
 refine ab.cl aa 5 [0,3,4,5,6,37] [4,6] ?_
 refine ab.cu [(37,fun b=>b)] h (fun h=> ?_) fun h=> ?_
 refine ab.cl aa 7 [0,3,4,5,6,44] [4,6] ?_
 refine ab.cu [(44,fun b=>b)] h (fun h=> ?_) fun h=> ?_
 refine ab.cl aa 4 [0,3,4,5,44,46,48] [4] ?_
 obtain⟨x14,hx14,h⟩:=bind_some h
 refine ab.ls (xc wY (lf x7.Years x13.Years _ hx14)) ?_
 refine ab.cl aa 1 [0,3,4,5,50] [4] ?_
 refine ab.nil ?_
 obtain rfl:=inj h
 exact Le.aq
 refine ab.cl aa 6 [0,3,4,5,50] [4] ?_
 refine ab.nil ?_
 obtain rfl:=inj h
 exact Le.aq
 refine ab.cl aa 13 [0,3,4,5,50] [4] ?_
 refine ab.nil ?_
 obtain rfl:=inj h
 exact Le.aq
 refine ab.cl aa 18 [0,3,4,5,50] [4] ?_
 refine ab.nil ?_
 obtain rfl:=inj h
 exact Le.aq
 refine ao h (fun h=> ?_) fun h=> ?_
 refine iR aa ⟨54,[(2,vb false)],[]⟩ ?_
 refine ag ?_
 obtain rfl:=inj h
 exact bm (aU (aU (bm (bm (aU (aU (bm (aU (aD (f1 fv))))))))))
 refine ai ?_
 obtain rfl:=inj h
 exact bT (bZ (Le.aq))
 refine aF ?_
 refine ab.cl aa 3 [0,3,4,5] [4] ?_
 refine ab.nil ?_
 obtain rfl:=inj h
 exact bZ (Le.aq)
 refine aQ ?_
 obtain rfl:=inj h
 exact cD (cF (cE (bT (bZ (Le.aq)))))
 refine aF ?_
 refine ab.cl aa 3 [0,3] [] ?_
 refine ab.nil ?_
 obtain rfl:=inj h
 exact bZ (Le.aq)
 refine aQ ?_
 obtain rfl:=inj h
 exact cD (cF (cE (bZ (Le.aq))))
 refine az aa [2] [] ?_
 refine ag ?_
 obtain rfl:=inj h
 exact aD (f1 fv)
theorem w7:a8 Tryz.prog 168:=ax Tryz.func168 (by kernel_rfl) rfl
noncomputable def iH(aP:Place):Option (Bool):=
 ((((cX aP.Code).bind fun x1=>(bif(!x1)then some true else((c5 aP.Class 0 19).bind fun x2=>(bif(!x2)then some true else((fP aP.Years).bind fun x3=>(bif(!x3)then some true else((fx aP.Names).bind fun x4=>some (!x4))))))))).bind fun(j5:Bool)=>(bif j5 then some false else(((cW (aP.Names.length:Int) (fun(i9:Int) (_:Unit)=>((((at' aP.Names i9).bind fun x13=>(bif(decide (x13.Years.From<aP.Years.From))then some true else((at' aP.Names i9).bind fun x14=>some (decide (x14.Years.To>aP.Years.To)))))).bind fun(j15:Bool)=>(bif j15 then some (.inr (.inr false))else some (.inl ())))) (fun(_:Unit)=> .inl ()) 0 ())).bind (Sum.elim (fun(_:Unit)=>some true) some))))
theorem oV(aP:Place)(r:Bool)(h:iH aP=some r):aH Tryz.prog 112 [.v (.agg (tc ad aP))] ⟨[.v (vb r)],[],false⟩:=by
 refine au Tryz.func112 rfl [(.tmp 2)] rfl (fun r=>⟨[.v (vb r)],[],false⟩) (r:=r) ?_
 unfold iH at h
 refine az aa [1] [1] ?_
 refine ac ?_
 refine ac ?_
 refine bj h (fun j5=>⟨57,[(1,.ref 1 0),(25,vb j5)],[(1,.box (tc ad aP))]⟩) (fun v6 h=> ?_) (fun j5 h=> ?_)
 refine ab.cl aa 2 [1,5] [1] ?_
 obtain⟨x1,hx1,h⟩:=bind_some h
 refine ab.ls (xc ky (cY aP.Code _ hx1)) ?_
 refine ab.cl aa 2 [1,8] [1] ?_
 refine ab.cu [(8,fun b=>b)] h (fun h=> ?_) fun h=> ?_
 refine ab.cl aa 17 [1,25] [1] ?_
 refine ab.nil ?_
 obtain rfl:=inj h
 exact Le.aq
 refine ab.cl aa 2 [1,8,10] [1] ?_
 obtain⟨x2,hx2,h⟩:=bind_some h
 refine ab.ls (xc ja (cG aP.Class 0 19 _ hx2)) ?_
 refine ab.cl aa 3 [1,14] [1] ?_
 refine ab.cu [(14,fun b=>b)] h (fun h=> ?_) fun h=> ?_
 refine ab.cl aa 11 [1,25] [1] ?_
 refine ab.nil ?_
 obtain rfl:=inj h
 exact Le.aq
 refine ab.cl aa 2 [1,14,16] [1] ?_
 obtain⟨x3,hx3,h⟩:=bind_some h
 refine ab.ls (xc sQ (jC aP.Years _ hx3)) ?_
 refine ab.cl aa 3 [1,20] [1] ?_
 refine ab.cu [(20,fun b=>b)] h (fun h=> ?_) fun h=> ?_
 refine ab.ck aa 5 ⟨57,[(1,.ref 1 0),(25,vb true)],[(1,.box (tc ad aP))]⟩ ?_
 refine ab.nil ?_
 obtain rfl:=inj h
 exact Le.aq
 refine ab.cl aa 2 [1,20,22] [1] ?_
 obtain⟨x4,hx4,h⟩:=bind_some h
 refine ab.ls (xc w7 (kH aP.Names _ hx4)) ?_
 refine ab.cl aa 2 [1,25] [1] ?_
 refine ab.nil ?_
 obtain rfl:=inj h
 exact Le.aq
 refine ao h (fun h=> ?_) fun h=> ?_
 refine az aa [2] [] ?_
 refine ag ?_
 obtain rfl:=inj h
 exact bw (aD (f1 fv))
 refine ai ?_
 refine aY ?_
 refine ac ?_
 refine az aa [1,3] [1] ?_
 refine bi (r:=r) h (fun j7=>⟨57,[],[]⟩) (fun v8 h=> ?_) (fun j7 h=> ?_)
 refine ay (a:=v8) ?_
 refine a6 (r:=v8) (s:=(0,())) _ (fun s9=>⟨57,[(1,.ref 1 0),(3,vi s9.1)],[(1,.box (tc ad aP))]⟩) _ (Le.aq) h (fun s9 v10 h=> ?_)
 refine ac ?_
 refine az aa [1,3,30] [1] ?_
 refine ao h (fun h=> ?_) fun h=> ?_
 refine ai ?_
 refine aY ?_
 refine ac ?_
 refine bn (r:=v10) h (fun j11=>⟨57,[(1,.ref 1 0),(3,vi s9.1)],[(1,.box (tc ad aP))]⟩) (fun v12 h=> ?_) (fun j11 h=> ?_)
 refine ay (a:=v12) ?_
 refine ac ?_
 refine jR mixed h (fun j15=>⟨57,[(1,.ref 1 0),(3,vi s9.1),(56,vb j15)],[(1,.box (tc ad aP))]⟩) (fun v16 h=> ?_) (fun j15 h=> ?_)
 refine aR.cl aa false 3 [1,3,34,35] [1] ?_
 obtain⟨x13,hx13,h⟩:=bind_some h
 refine aR.step (aG (L:=aP.Names) (f:=ar) (ti:=dd) (tj:=cH) (e:=169) (k:= .i64) aa rfl hx13) ?_
 refine aR.cl aa false 8 [1,3,44] [1] ?_
 refine aR.cu [(44,fun b=>b)] h (fun h=> ?_) fun h=> ?_
 refine aR.cl aa false 12 [1,3,56] [1] ?_
 refine aR.nil (by kernel_rfl) ?_
 obtain rfl:=inj h
 exact Le.aq
 refine aR.cl aa false 3 [1,3,44,46,47] [1] ?_
 obtain⟨x14,hx14,h⟩:=bind_some h
 refine aR.step (aG (L:=aP.Names) (f:=ar) (ti:=dd) (tj:=cH) (e:=169) (k:= .i64) aa rfl hx14) ?_
 refine aR.cl aa false 8 [1,3,56] [1] ?_
 refine aR.nil (by kernel_rfl) ?_
 obtain rfl:=inj h
 exact Le.aq
 refine ao h (fun h=> ?_) fun h=> ?_
 refine az aa [2] [] ?_
 refine ag ?_
 obtain rfl:=inj h
 exact bm (aU (aU (bm (aU (aD (f1 fv))))))
 refine ai ?_
 obtain rfl:=inj h
 exact bT (bZ (Le.aq))
 refine aF ?_
 refine ab.cl aa 3 [1,3] [1] ?_
 refine ab.nil ?_
 obtain rfl:=inj h
 exact bZ (Le.aq)
 refine aQ ?_
 obtain rfl:=inj h
 exact cD (cF (cE (bZ (Le.aq))))
 refine az aa [2] [] ?_
 refine ag ?_
 obtain rfl:=inj h
 exact aD (f1 fv)
theorem Aw:a8 Tryz.prog 112:=ax Tryz.func112 (by kernel_rfl) rfl
noncomputable def dU(ah:(List Place)):Option (Bool):=
 (((cW (ah.length:Int) (fun(i3:Int) (_:Unit)=>((((at' ah i3).bind fun x7=>((iH x7).bind fun x8=>(bif(!x8)then some true else(bif(decide (i3>0))then((at' ah (aJ (i3 - 1))).bind fun x9=>((at' ah i3).bind fun x10=>some (!(Op.bytesLess x9.Code.toList x10.Code.toList))))else some false))))).bind fun(j11:Bool)=>(bif j11 then some (.inr (.inr false))else some (.inl ())))) (fun(_:Unit)=> .inl ()) 0 ())).bind (Sum.elim (fun(_:Unit)=>some (decide ((ah.length:Int)≤10))) some))
theorem jJ(ah:(List Place))(r:Bool)(h:dU ah=some r):aH Tryz.prog 59 [.v (vl ad ah)] ⟨[.v (vb r)],[],false⟩:=by
 refine au Tryz.func59 rfl [(.tmp 2)] rfl (fun r=>⟨[.v (vb r)],[],false⟩) (r:=r) ?_
 unfold dU at h
 refine az aa [0] [] ?_
 refine ac ?_
 refine az aa [0,3] [] ?_
 refine bi (r:=r) h (fun j1=>⟨37,[(0,vl ad ah)],[]⟩) (fun v2 h=> ?_) (fun j1 h=> ?_)
 refine ay (a:=v2) ?_
 refine a6 (r:=v2) (s:=(0,())) _ (fun s3=>⟨37,[(0,vl ad ah),(3,vi s3.1)],[]⟩) _ (Le.aq) h (fun s3 v4 h=> ?_)
 refine ac ?_
 refine az aa [0,3,7] [] ?_
 refine ao h (fun h=> ?_) fun h=> ?_
 refine ai ?_
 refine aY ?_
 refine ac ?_
 refine bn (r:=v4) h (fun j5=>⟨37,[(0,vl ad ah),(3,vi s3.1)],[]⟩) (fun v6 h=> ?_) (fun j5 h=> ?_)
 refine ay (a:=v6) ?_
 refine ac ?_
 refine jR mixed h (fun j11=>⟨37,[(0,vl ad ah),(3,vi s3.1),(33,vb j11)],[]⟩) (fun v12 h=> ?_) (fun j11 h=> ?_)
 refine aR.cl aa false 2 [0,3,10,11] [] ?_
 obtain⟨x7,hx7,h⟩:=bind_some h
 refine aR.step (aG (L:=ah) (f:=ad) (ti:=cP) (tj:=cd) (e:=91) (k:= .i64) aa rfl hx7) ?_
 refine aR.cl aa false 1 [0,3,13] [] ?_
 obtain⟨x8,hx8,h⟩:=bind_some h
 refine aR.step (xc Aw (oV x7 _ hx8)) ?_
 refine aR.cl aa false 2 [0,3,16] [] ?_
 refine aR.cu [(16,fun b=>b)] h (fun h=> ?_) fun h=> ?_
 refine aR.cl aa false 17 [0,3,33] [] ?_
 refine aR.nil (by kernel_rfl) ?_
 obtain rfl:=inj h
 exact Le.aq
 refine aR.cl aa false 3 [0,3,16,19] [] ?_
 refine aR.cu [(19,fun b=>b)] h (fun h=> ?_) fun h=> ?_
 refine aR.cl aa false 3 [0,3,16,19,20,22] [] ?_
 obtain⟨x9,hx9,h⟩:=bind_some h
 refine aR.step (aG (L:=ah) (f:=ad) (ti:=cP) (tj:=cd) (e:=91) (k:= .i64) aa rfl hx9) ?_
 refine aR.cl aa false 4 [0,3,16,19,25,26,27] [] ?_
 obtain⟨x10,hx10,h⟩:=bind_some h
 refine aR.step (aG (L:=ah) (f:=ad) (ti:=cP) (tj:=cd) (e:=91) (k:= .i64) aa rfl hx10) ?_
 refine aR.cl aa false 5 [0,3,33] [] ?_
 refine aR.nil (by kernel_rfl) ?_
 obtain rfl:=inj h
 exact Le.aq
 refine aR.ck aa false 14 ⟨37,[(0,vl ad ah),(3,vi s3.1),(33,vb false)],[]⟩ ?_
 refine aR.nil (by kernel_rfl) ?_
 obtain rfl:=inj h
 exact Le.aq
 refine ao h (fun h=> ?_) fun h=> ?_
 refine az aa [2] [] ?_
 refine ag ?_
 obtain rfl:=inj h
 exact bm (aU (aU (bm (aU (aD (f1 fv))))))
 refine ai ?_
 obtain rfl:=inj h
 exact bT (bZ (Le.aq))
 refine aF ?_
 refine ab.cl aa 3 [0,3] [] ?_
 refine ab.nil ?_
 obtain rfl:=inj h
 exact bZ (Le.aq)
 refine aQ ?_
 obtain rfl:=inj h
 exact cD (cF (cE (bZ (Le.aq))))
 refine az aa [2] [] ?_
 refine ag ?_
 obtain rfl:=inj h
 exact aD (f1 fv)
theorem zb:a8 Tryz.prog 59:=ax Tryz.func59 (by kernel_rfl) rfl
noncomputable def kt(aL:aw):Option (Bool):=
 ((((cX aL.Child).bind fun x1=>(bif x1 then((cX aL.Parent).bind fun x2=>(bif x2 then(bif(!(aL.Child.toList==aL.Parent.toList))then((fP aL.Years).bind fun x3=>some x3)else some false)else some false))else some false))).bind fun(j4:Bool)=>some j4)
theorem rb(aL:aw)(r:Bool)(h:kt aL=some r):aH Tryz.prog 113 [.v (.agg (tc ae aL))] ⟨[.v (vb r)],[],false⟩:=by
 refine au Tryz.func113 rfl [(.tmp 2)] rfl (fun r=>⟨[.v (vb r)],[],false⟩) (r:=r) ?_
 unfold kt at h
 refine az aa [1] [1] ?_
 refine ac ?_
 refine bj h (fun j4=>⟨23,[(2,vb j4)],[]⟩) (fun v5 h=> ?_) (fun j4 h=> ?_)
 refine ab.cl aa 2 [1,4] [1] ?_
 obtain⟨x1,hx1,h⟩:=bind_some h
 refine ab.ls (xc ky (cY aL.Child _ hx1)) ?_
 refine ab.cl aa 1 [1,6] [1] ?_
 refine ab.cu [(6,fun b=>b)] h (fun h=> ?_) fun h=> ?_
 refine ab.cl aa 2 [1,6,8] [1] ?_
 obtain⟨x2,hx2,h⟩:=bind_some h
 refine ab.ls (xc ky (cY aL.Parent _ hx2)) ?_
 refine ab.cl aa 2 [1,11] [1] ?_
 refine ab.cu [(11,fun b=>b)] h (fun h=> ?_) fun h=> ?_
 refine ab.cl aa 7 [1,18] [1] ?_
 refine ab.cu [(18,fun b=>b)] h (fun h=> ?_) fun h=> ?_
 refine ab.cl aa 2 [18,20] [] ?_
 obtain⟨x3,hx3,h⟩:=bind_some h
 refine ab.ls (xc sQ (jC aL.Years _ hx3)) ?_
 refine ab.cl aa 2 [2] [] ?_
 refine ab.nil ?_
 obtain rfl:=inj h
 exact Le.aq
 refine ab.cl aa 5 [2] [] ?_
 refine ab.nil ?_
 obtain rfl:=inj h
 exact Le.aq
 refine ab.ck aa 12 ⟨23,[(2,vb false)],[]⟩ ?_
 refine ab.nil ?_
 obtain rfl:=inj h
 exact Le.aq
 refine ab.cl aa 17 [2] [] ?_
 refine ab.nil ?_
 obtain rfl:=inj h
 exact Le.aq
 refine ag ?_
 obtain rfl:=inj h
 exact aD (f1 fv)
theorem Ax:a8 Tryz.prog 113:=ax Tryz.func113 (by kernel_rfl) rfl
noncomputable def gn(ah:(List ByteArray))(aS:ByteArray):Option (Int):=
 (((cW (ah.length:Int) (fun(i3:Int) (_:Unit)=>((at' ah i3).bind fun x7=>(bif(x7.toList==aS.toList)then some (.inr (.inr i3))else some (.inl ())))) (fun(_:Unit)=> .inl ()) 0 ())).bind (Sum.elim (fun(_:Unit)=>some (-1)) some))
theorem oX(ah:(List ByteArray))(aS:ByteArray)(r:Int)(h:gn ah aS=some r):aH Tryz.prog 169 [.v (vl eS ah),.v (vs aS)] ⟨[.v (vi r)],[],false⟩:=by
 refine au Tryz.func169 rfl [(.tmp 4)] rfl (fun r=>⟨[.v (vi r)],[],false⟩) (r:=r) ?_
 unfold gn at h
 refine az aa [0,1] [] ?_
 refine ac ?_
 refine az aa [0,1,5] [] ?_
 refine bi (r:=r) h (fun j1=>⟨19,[],[]⟩) (fun v2 h=> ?_) (fun j1 h=> ?_)
 refine ay (a:=v2) ?_
 refine a6 (r:=v2) (s:=(0,())) _ (fun s3=>⟨19,[(0,vl eS ah),(1,vs aS),(5,vi s3.1)],[]⟩) _ (Le.aq) h (fun s3 v4 h=> ?_)
 refine ac ?_
 refine az aa [0,1,5,9] [] ?_
 refine ao h (fun h=> ?_) fun h=> ?_
 refine ai ?_
 refine aY ?_
 refine ac ?_
 refine bn (r:=v4) h (fun j5=>⟨19,[(0,vl eS ah),(1,vs aS),(5,vi s3.1)],[]⟩) (fun v6 h=> ?_) (fun j5 h=> ?_)
 refine ay (a:=v6) ?_
 refine sr ?_
 refine ab.cl aa 2 [0,1,5,12,13] [] ?_
 obtain⟨x7,hx7,h⟩:=bind_some h
 refine ab.ls (aG (L:=ah) (f:=eS) (ti:=cy) (tj:=gH) (e:=9) (k:= .i64) aa rfl hx7) ?_
 refine bO aa 3 [0,1,5,17] [] ?_
 refine ao h (fun h=> ?_) fun h=> ?_
 refine az aa [4] [] ?_
 refine ag ?_
 obtain rfl:=inj h
 exact bm (aU (aU (bm (aU (aD (f1 fv))))))
 refine ai ?_
 obtain rfl:=inj h
 exact bT (bZ (Le.aq))
 refine aF ?_
 refine ab.cl aa 3 [0,1,5] [] ?_
 refine ab.nil ?_
 obtain rfl:=inj h
 exact bZ (Le.aq)
 refine aQ ?_
 obtain rfl:=inj h
 exact cD (cF (cE (bZ (Le.aq))))
 refine az aa [4] [] ?_
 refine ag ?_
 obtain rfl:=inj h
 exact aD (f1 fv)
theorem AT:a8 Tryz.prog 169:=ax Tryz.func169 (by kernel_rfl) rfl
noncomputable def dQ(ah:(List aw))(aE:ByteArray)(an:Int):Option (ByteArray):=
 (((cW (ah.length:Int) (fun(i3:Int) (_:Unit)=>((((at' ah i3).bind fun x7=>(bif(x7.Child.toList==aE.toList)then((at' ah i3).bind fun x8=>((at' ah i3).bind fun x9=>((c5 an x8.Years.From x9.Years.To).bind fun x10=>some x10)))else some false))).bind fun(j11:Bool)=>(bif j11 then((at' ah i3).bind fun x13=>some (.inr (.inr x13.Parent)))else some (.inl ())))) (fun(_:Unit)=> .inl ()) 0 ())).bind (Sum.elim (fun(_:Unit)=>some (ByteArray.mk #[])) some))
theorem ku(ah:(List aw))(aE:ByteArray)(an:Int)(r:ByteArray)(h:dQ ah aE an=some r):aH Tryz.prog 130 [.v (vl ae ah),.v (vs aE),.v (vi an)] ⟨[.v (vs r)],[],false⟩:=by
 refine au Tryz.func130 rfl [(.tmp 6)] rfl (fun r=>⟨[.v (vs r)],[],false⟩) (r:=r) ?_
 unfold dQ at h
 refine az aa [0,1,2] [] ?_
 refine ac ?_
 refine az aa [0,1,2,7] [] ?_
 refine bi (r:=r) h (fun j1=>⟨42,[],[]⟩) (fun v2 h=> ?_) (fun j1 h=> ?_)
 refine ay (a:=v2) ?_
 refine a6 (r:=v2) (s:=(0,())) _ (fun s3=>⟨42,[(0,vl ae ah),(1,vs aE),(2,vi an),(7,vi s3.1)],[]⟩) _ (Le.aq) h (fun s3 v4 h=> ?_)
 refine ac ?_
 refine az aa [0,1,2,7,11] [] ?_
 refine ao h (fun h=> ?_) fun h=> ?_
 refine ai ?_
 refine aY ?_
 refine ac ?_
 refine bn (r:=v4) h (fun j5=>⟨42,[(0,vl ae ah),(1,vs aE),(2,vi an),(7,vi s3.1)],[]⟩) (fun v6 h=> ?_) (fun j5 h=> ?_)
 refine ay (a:=v6) ?_
 refine ac ?_
 refine jR mixed h (fun j11=>⟨42,[(0,vl ae ah),(1,vs aE),(2,vi an),(7,vi s3.1),(36,vb j11)],[]⟩) (fun v12 h=> ?_) (fun j11 h=> ?_)
 refine aR.cl aa false 2 [0,1,2,7,14,15] [] ?_
 obtain⟨x7,hx7,h⟩:=bind_some h
 refine aR.step (aG (L:=ah) (f:=ae) (ti:=dp) (tj:=dq) (e:=85) (k:= .i64) aa rfl hx7) ?_
 refine aR.cl aa false 5 [0,1,2,7,21] [] ?_
 refine aR.cu [(21,fun b=>b)] h (fun h=> ?_) fun h=> ?_
 refine aR.cl aa false 3 [0,1,2,7,21,22,23,24] [] ?_
 obtain⟨x8,hx8,h⟩:=bind_some h
 refine aR.step (aG (L:=ah) (f:=ae) (ti:=dp) (tj:=dq) (e:=85) (k:= .i64) aa rfl hx8) ?_
 refine aR.cl aa false 5 [0,1,2,7,21,22,28,29,30] [] ?_
 obtain⟨x9,hx9,h⟩:=bind_some h
 refine aR.step (aG (L:=ah) (f:=ae) (ti:=dp) (tj:=dq) (e:=85) (k:= .i64) aa rfl hx9) ?_
 refine aR.cl aa false 3 [0,1,2,7,21,22,28,34] [] ?_
 obtain⟨x10,hx10,h⟩:=bind_some h
 refine aR.step (xc ja (cG an x8.Years.From x9.Years.To _ hx10)) ?_
 refine aR.cl aa false 1 [0,1,2,7,36] [] ?_
 refine aR.nil (by kernel_rfl) ?_
 obtain rfl:=inj h
 exact Le.aq
 refine aR.cl aa false 15 [0,1,2,7,36] [] ?_
 refine aR.nil (by kernel_rfl) ?_
 obtain rfl:=inj h
 exact Le.aq
 refine ao h (fun h=> ?_) fun h=> ?_
 refine sr ?_
 refine ab.cl aa 2 [37,38] [] ?_
 obtain⟨x13,hx13,h⟩:=bind_some h
 refine ab.ls (aG (L:=ah) (f:=ae) (ti:=dp) (tj:=dq) (e:=85) (k:= .i64) aa rfl hx13) ?_
 refine ckn aa 3 ⟨42,[(6,vs x13.Parent)],[]⟩ ?_
 refine ag ?_
 obtain rfl:=inj h
 exact bm (aU (aU (bm (aU (aD (f1 fv))))))
 refine ai ?_
 obtain rfl:=inj h
 exact bT (bZ (Le.aq))
 refine aF ?_
 refine ab.cl aa 3 [0,1,2,7] [] ?_
 refine ab.nil ?_
 obtain rfl:=inj h
 exact bZ (Le.aq)
 refine aQ ?_
 obtain rfl:=inj h
 exact cD (cF (cE (bZ (Le.aq))))
 refine az aa [6] [] ?_
 refine ag ?_
 obtain rfl:=inj h
 exact aD (f1 fv)
theorem wZ:a8 Tryz.prog 130:=ax Tryz.func130 (by kernel_rfl) rfl
noncomputable def jr(ah:(List aw))(aE:ByteArray)(an:Int):Option ((List ByteArray)×Bool):=
 (((loop (fun(s3:ByteArray×(List ByteArray))=>(bif(!(s3.1.toList==(ByteArray.mk #[]).toList))then((gn s3.2 s3.1).bind fun x5=>(bif(decide (x5≥0))then some (.inr (.inr (([]:List ByteArray),false)))else((ed s3.2 ([s3.1]:List ByteArray)).bind fun x6=>((dQ ah s3.1 an).bind fun x7=>some (.inl (x7,x6))))))else some (.inr (.inl s3.2)))) (aE,([]:List ByteArray)))).bind (Sum.elim (fun(j1:(List ByteArray))=>some (j1,true)) some))
theorem p3(ah:(List aw))(aE:ByteArray)(an:Int)(r:(List ByteArray)×Bool)(h:jr ah aE an=some r):aH Tryz.prog 115 [.v (vl ae ah),.v (vs aE),.v (vi an)] ⟨[.own 9 1 r.1.length (r.1.map eS),.v (vb r.2)],[],false⟩:=by
 refine au Tryz.func115 rfl [(.tmp 6),(.tmp 7)] rfl (fun r=>⟨[.own 9 1 r.1.length (r.1.map eS),.v (vb r.2)],[],false⟩) (r:=r) ?_
 unfold jr at h
 refine az aa [0,1,2] [] ?_
 refine az aa [0,1,2,8] [9] ?_
 refine ac ?_
 refine bi (r:=r) h (fun j1=>⟨25,[(8,.own 8)],[(8,oa 9 1 eS j1)]⟩) (fun v2 h=> ?_) (fun j1 h=> ?_)
 refine ay (a:=v2) ?_
 refine a6 (r:=v2) (s:=(aE,([]:List ByteArray))) _ (fun s3=>⟨25,[(0,vl ae ah),(1,vs s3.1),(2,vi an),(8,.own 8)],[(8,oa 9 1 eS s3.2)]⟩) _ (Le.rr [9] [(9,8)]) h (fun s3 v4 h=> ?_)
 refine ac ?_
 refine az aa [0,1,2,8,11] [8] ?_
 refine ao h (fun h=> ?_) fun h=> ?_
 refine ai ?_
 refine aY ?_
 refine ay (a:=v4) ?_
 refine ac ?_
 refine sr ?_
 refine ab.cl aa 2 [0,1,2,8,12,13] [8] ?_
 obtain⟨x5,hx5,h⟩:=bind_some h
 refine ab.ls (xc AT (oX s3.2 s3.1 _ hx5)) ?_
 refine bO aa 1 [0,1,2,8,15] [8] ?_
 refine ao h (fun h=> ?_) fun h=> ?_
 refine az aa [6,7] [6] ?_
 refine ag ?_
 obtain rfl:=inj h
 exact bw (bm (aU (bm (aU (aD (f2 (fo fC) fv))))))
 refine ai ?_
 refine aY ?_
 refine sr ?_
 refine ab.cl aa 3 [0,1,2,16,18] [8,18] ?_
 obtain⟨x6,hx6,h⟩:=bind_some h
 refine ab.bx (bS (f:=eS) (t:=106) (ti:=cy) (tj:=gH) (zs:=[.string (ByteArray.mk #[])]) (e:=9) (m:=1) (d:=8) (xv:= .own 18) hx6 aa rfl rfl rfl rfl (dC (e:=9))) ?_
 refine bO aa 1 [0,1,2,8] [19] ?_
 refine aF ?_
 refine ab.cl aa 3 [0,2,8,20,21,22] [19] ?_
 obtain⟨x7,hx7,h⟩:=bind_some h
 refine ab.ls (xc wZ (ku ah s3.1 an _ hx7)) ?_
 refine ab.cl aa 1 [0,1,2,8] [19] ?_
 refine ab.nil ?_
 obtain rfl:=inj h
 exact bT (bZ (Le.rr [19] [(19,8)]))
 refine aQ ?_
 obtain rfl:=inj h
 exact cD (cF (cE (bZ (Le.aq))))
 refine iR aa ⟨25,[(6,.own 8),(7,vb true)],[(8,oa 9 1 eS j1)]⟩ ?_
 refine ag ?_
 obtain rfl:=inj h
 exact aD (f2 (fo fC) fv)
theorem Ay:a8 Tryz.prog 115:=ax Tryz.func115 (by kernel_rfl) rfl
noncomputable def ej(ah:(List aw)):Option (Bool):=
 (((cW (ah.length:Int) (fun(i3:Int) (_:Unit)=>((at' ah i3).bind fun x7=>((kt x7).bind fun x8=>(bif(!x8)then some (.inr (.inr false))else(cW i3 (fun(i9:Int) (_:Unit)=>((((at' ah i9).bind fun x13=>((at' ah i3).bind fun x14=>(bif(x13.Child.toList==x14.Child.toList)then((at' ah i9).bind fun x15=>((at' ah i3).bind fun x16=>((dB x15.Years x16.Years).bind fun x17=>some x17)))else some false)))).bind fun(j18:Bool)=>(bif j18 then some (.inr (.inr (.inr false)))else some (.inl ())))) (fun(_:Unit)=> .inl ()) 0 ()))))) (fun(_:Unit)=> .inl ()) 0 ())).bind (Sum.elim (fun(_:Unit)=>(bif(decide ((ah.length:Int)>20))then some false else(((cW (ah.length:Int) (fun(i22:Int) (_:Unit)=>(cW (ah.length:Int) (fun(i26:Int) (_:Unit)=>((at' ah i26).bind fun x30=>((at' ah i22).bind fun x31=>((jr ah x30.Child x31.Years.From).bind fun x32=>(bif(!x32.2)then some (.inr (.inr (.inr false)))else some (.inl ())))))) (fun(_:Unit)=> .inl ()) 0 ())) (fun(_:Unit)=> .inl ()) 0 ())).bind (Sum.elim (fun(_:Unit)=>some true) some)))) some))
theorem iF(ah:(List aw))(r:Bool)(h:ej ah=some r):aH Tryz.prog 60 [.v (vl ae ah)] ⟨[.v (vb r)],[],false⟩:=by
 refine au Tryz.func60 rfl [(.tmp 2)] rfl (fun r=>⟨[.v (vb r)],[],false⟩) (r:=r) ?_
 unfold ej at h
 refine az aa [0] [] ?_
 refine ac ?_
 refine az aa [0,3] [] ?_
 refine bi (r:=r) h (fun j1=>⟨83,[(0,vl ae ah)],[]⟩) (fun v2 h=> ?_) (fun j1 h=> ?_)
 refine ay (a:=v2) ?_
 refine a6 (r:=v2) (s:=(0,())) _ (fun s3=>⟨83,[(0,vl ae ah),(3,vi s3.1)],[]⟩) _ (Le.aq) h (fun s3 v4 h=> ?_)
 refine ac ?_
 refine az aa [0,3,12] [] ?_
 refine ao h (fun h=> ?_) fun h=> ?_
 refine ai ?_
 refine aY ?_
 refine ac ?_
 refine bn (r:=v4) h (fun j5=>⟨83,[(0,vl ae ah),(3,vi s3.1)],[]⟩) (fun v6 h=> ?_) (fun j5 h=> ?_)
 refine ay (a:=v6) ?_
 refine ac ?_
 refine sr ?_
 refine ab.cl aa 2 [0,3,15,16] [] ?_
 obtain⟨x7,hx7,h⟩:=bind_some h
 refine ab.ls (aG (L:=ah) (f:=ae) (ti:=dp) (tj:=dq) (e:=85) (k:= .i64) aa rfl hx7) ?_
 refine ab.cl aa 1 [0,3,18] [] ?_
 obtain⟨x8,hx8,h⟩:=bind_some h
 refine ab.ls (xc Ax (rb x7 _ hx8)) ?_
 refine bO aa 1 [0,3,20] [] ?_
 refine ao h (fun h=> ?_) fun h=> ?_
 refine az aa [2] [] ?_
 refine ag ?_
 obtain rfl:=inj h
 exact bw (bm (aU (aU (bm (aU (aD (f1 fv)))))))
 refine ai ?_
 refine aY ?_
 refine az aa [0,3,4] [] ?_
 refine ay (a:=v6) ?_
 refine a6 (r:=v6) (s:=(0,())) _ (fun s9=>⟨83,[(0,vl ae ah),(3,vi s3.1),(4,vi s9.1)],[]⟩) _ (Le.aq) h (fun s9 v10 h=> ?_)
 refine ac ?_
 refine az aa [0,3,4,23] [] ?_
 refine ao h (fun h=> ?_) fun h=> ?_
 refine ai ?_
 refine aY ?_
 refine ac ?_
 refine bn (r:=v10) h (fun j11=>⟨83,[(0,vl ae ah),(3,vi s3.1),(4,vi s9.1)],[]⟩) (fun v12 h=> ?_) (fun j11 h=> ?_)
 refine ay (a:=v12) ?_
 refine ac ?_
 refine jR mixed h (fun j18=>⟨83,[(0,vl ae ah),(3,vi s3.1),(4,vi s9.1),(49,vb j18)],[]⟩) (fun v19 h=> ?_) (fun j18 h=> ?_)
 refine aR.cl aa false 2 [0,3,4,26,27] [] ?_
 obtain⟨x13,hx13,h⟩:=bind_some h
 refine aR.step (aG (L:=ah) (f:=ae) (ti:=dp) (tj:=dq) (e:=85) (k:= .i64) aa rfl hx13) ?_
 refine aR.cl aa false 4 [0,3,4,30,31,32] [] ?_
 obtain⟨x14,hx14,h⟩:=bind_some h
 refine aR.step (aG (L:=ah) (f:=ae) (ti:=dp) (tj:=dq) (e:=85) (k:= .i64) aa rfl hx14) ?_
 refine aR.cl aa false 4 [0,3,4,37] [] ?_
 refine aR.cu [(37,fun b=>b)] h (fun h=> ?_) fun h=> ?_
 refine aR.cl aa false 2 [0,3,4,37,38,39] [] ?_
 obtain⟨x15,hx15,h⟩:=bind_some h
 refine aR.step (aG (L:=ah) (f:=ae) (ti:=dp) (tj:=dq) (e:=85) (k:= .i64) aa rfl hx15) ?_
 refine aR.cl aa false 4 [0,3,4,37,42,43,44] [] ?_
 obtain⟨x16,hx16,h⟩:=bind_some h
 refine aR.step (aG (L:=ah) (f:=ae) (ti:=dp) (tj:=dq) (e:=85) (k:= .i64) aa rfl hx16) ?_
 refine aR.cl aa false 2 [0,3,4,37,42,47] [] ?_
 obtain⟨x17,hx17,h⟩:=bind_some h
 refine aR.step (xc wY (lf x15.Years x16.Years _ hx17)) ?_
 refine aR.cl aa false 1 [0,3,4,49] [] ?_
 refine aR.nil (by kernel_rfl) ?_
 obtain rfl:=inj h
 exact Le.aq
 refine aR.cl aa false 12 [0,3,4,49] [] ?_
 refine aR.nil (by kernel_rfl) ?_
 obtain rfl:=inj h
 exact Le.aq
 refine ao h (fun h=> ?_) fun h=> ?_
 refine iR aa ⟨83,[(2,vb false)],[]⟩ ?_
 refine ag ?_
 obtain rfl:=inj h
 exact bm (aU (aU (bm (bm (aU (aU (bm (aU (aD (f1 fv))))))))))
 refine ai ?_
 obtain rfl:=inj h
 exact bT (bZ (Le.aq))
 refine aF ?_
 refine ab.cl aa 3 [0,3,4] [] ?_
 refine ab.nil ?_
 obtain rfl:=inj h
 exact bZ (Le.aq)
 refine aQ ?_
 obtain rfl:=inj h
 exact cD (cF (cE (bT (bZ (Le.aq)))))
 refine aF ?_
 refine ab.cl aa 3 [0,3] [] ?_
 refine ab.nil ?_
 obtain rfl:=inj h
 exact bZ (Le.aq)
 refine aQ ?_
 obtain rfl:=inj h
 exact cD (cF (cE (bZ (Le.aq))))
 refine ac ?_
 refine az aa [0,52] [] ?_
 refine ao h (fun h=> ?_) fun h=> ?_
 refine az aa [2] [] ?_
 refine ag ?_
 obtain rfl:=inj h
 exact bw (aD (f1 fv))
 refine ai ?_
 refine aY ?_
 refine ac ?_
 refine az aa [0,5] [] ?_
 refine bi (r:=r) h (fun j20=>⟨83,[],[]⟩) (fun v21 h=> ?_) (fun j20 h=> ?_)
 refine ay (a:=v21) ?_
 refine a6 (r:=v21) (s:=(0,())) _ (fun s22=>⟨83,[(0,vl ae ah),(5,vi s22.1)],[]⟩) _ (Le.aq) h (fun s22 v23 h=> ?_)
 refine ac ?_
 refine az aa [0,5,56] [] ?_
 refine ao h (fun h=> ?_) fun h=> ?_
 refine ai ?_
 refine aY ?_
 refine ac ?_
 refine bn (r:=v23) h (fun j24=>⟨83,[(0,vl ae ah),(5,vi s22.1)],[]⟩) (fun v25 h=> ?_) (fun j24 h=> ?_)
 refine ay (a:=v25) ?_
 refine az aa [0,5,6] [] ?_
 refine ay (a:=v25) ?_
 refine a6 (r:=v25) (s:=(0,())) _ (fun s26=>⟨83,[(0,vl ae ah),(5,vi s22.1),(6,vi s26.1)],[]⟩) _ (Le.aq) h (fun s26 v27 h=> ?_)
 refine ac ?_
 refine az aa [0,5,6,62] [] ?_
 refine ao h (fun h=> ?_) fun h=> ?_
 refine ai ?_
 refine aY ?_
 refine ac ?_
 refine bn (r:=v27) h (fun j28=>⟨83,[(0,vl ae ah),(5,vi s22.1),(6,vi s26.1)],[]⟩) (fun v29 h=> ?_) (fun j28 h=> ?_)
 refine ay (a:=v29) ?_
 refine ac ?_
 refine cL mixed ?_
 refine aR.cl aa false 3 [0,5,6,66,67,68] [] ?_
 obtain⟨x30,hx30,h⟩:=bind_some h
 refine aR.step (aG (L:=ah) (f:=ae) (ti:=dp) (tj:=dq) (e:=85) (k:= .i64) aa rfl hx30) ?_
 refine aR.cl aa false 4 [0,5,6,66,71,72,73] [] ?_
 obtain⟨x31,hx31,h⟩:=bind_some h
 refine aR.step (aG (L:=ah) (f:=ae) (ti:=dp) (tj:=dq) (e:=85) (k:= .i64) aa rfl hx31) ?_
 refine aR.cl aa false 3 [0,5,6,66,71,77] [] ?_
 obtain⟨x32,hx32,h⟩:=bind_some h
 refine aR.step (xc Ay (p3 ah x30.Child x31.Years.From _ hx32)) ?_
 refine aR.cl aa false 5 [0,5,6,8] [] ?_
 refine aR.nx ?_
 refine az aa [0,5,6,82] [] ?_
 refine ao h (fun h=> ?_) fun h=> ?_
 refine az aa [2] [] ?_
 refine ag ?_
 obtain rfl:=inj h
 exact bm (aU (aU (bm (bm (aU (aU (bm (aU (aD (f1 fv))))))))))
 refine ai ?_
 obtain rfl:=inj h
 exact bT (bZ (Le.aq))
 refine aF ?_
 refine ab.cl aa 3 [0,5,6] [] ?_
 refine ab.nil ?_
 obtain rfl:=inj h
 exact bZ (Le.aq)
 refine aQ ?_
 obtain rfl:=inj h
 exact cD (cF (cE (bT (bZ (Le.aq)))))
 refine aF ?_
 refine ab.cl aa 3 [0,5] [] ?_
 refine ab.nil ?_
 obtain rfl:=inj h
 exact bZ (Le.aq)
 refine aQ ?_
 obtain rfl:=inj h
 exact cD (cF (cE (bZ (Le.aq))))
 refine iR aa ⟨83,[(2,vb true)],[]⟩ ?_
 refine ag ?_
 obtain rfl:=inj h
 exact aD (f1 fv)
theorem vY:a8 Tryz.prog 60:=ax Tryz.func60 (by kernel_rfl) rfl
noncomputable def bW(ah:(List Place))(aE:ByteArray):Option (Int):=
 (((cW (ah.length:Int) (fun(i3:Int) (_:Unit)=>((at' ah i3).bind fun x7=>(bif(x7.Code.toList==aE.toList)then some (.inr (.inr i3))else some (.inl ())))) (fun(_:Unit)=> .inl ()) 0 ())).bind (Sum.elim (fun(_:Unit)=>some (-1)) some))
theorem cv(ah:(List Place))(aE:ByteArray)(r:Int)(h:bW ah aE=some r):aH Tryz.prog 61 [.v (vl ad ah),.v (vs aE)] ⟨[.v (vi r)],[],false⟩:=by
 refine au Tryz.func61 rfl [(.tmp 4)] rfl (fun r=>⟨[.v (vi r)],[],false⟩) (r:=r) ?_
 unfold bW at h
 refine az aa [0,1] [] ?_
 refine ac ?_
 refine az aa [0,1,5] [] ?_
 refine bi (r:=r) h (fun j1=>⟨20,[],[]⟩) (fun v2 h=> ?_) (fun j1 h=> ?_)
 refine ay (a:=v2) ?_
 refine a6 (r:=v2) (s:=(0,())) _ (fun s3=>⟨20,[(0,vl ad ah),(1,vs aE),(5,vi s3.1)],[]⟩) _ (Le.aq) h (fun s3 v4 h=> ?_)
 refine ac ?_
 refine az aa [0,1,5,9] [] ?_
 refine ao h (fun h=> ?_) fun h=> ?_
 refine ai ?_
 refine aY ?_
 refine ac ?_
 refine bn (r:=v4) h (fun j5=>⟨20,[(0,vl ad ah),(1,vs aE),(5,vi s3.1)],[]⟩) (fun v6 h=> ?_) (fun j5 h=> ?_)
 refine ay (a:=v6) ?_
 refine sr ?_
 refine ab.cl aa 2 [0,1,5,12,13] [] ?_
 obtain⟨x7,hx7,h⟩:=bind_some h
 refine ab.ls (aG (L:=ah) (f:=ad) (ti:=cP) (tj:=cd) (e:=91) (k:= .i64) aa rfl hx7) ?_
 refine bO aa 4 [0,1,5,18] [] ?_
 refine ao h (fun h=> ?_) fun h=> ?_
 refine az aa [4] [] ?_
 refine ag ?_
 obtain rfl:=inj h
 exact bm (aU (aU (bm (aU (aD (f1 fv))))))
 refine ai ?_
 obtain rfl:=inj h
 exact bT (bZ (Le.aq))
 refine aF ?_
 refine ab.cl aa 3 [0,1,5] [] ?_
 refine ab.nil ?_
 obtain rfl:=inj h
 exact bZ (Le.aq)
 refine aQ ?_
 obtain rfl:=inj h
 exact cD (cF (cE (bZ (Le.aq))))
 refine az aa [4] [] ?_
 refine ag ?_
 obtain rfl:=inj h
 exact aD (f1 fv)
theorem lp:a8 Tryz.prog 61:=ax Tryz.func61 (by kernel_rfl) rfl
noncomputable def iI(aW:World):Option (Bool):=
 ((((dU aW.Places).bind fun x1=>(bif(!x1)then some true else((ej aW.Links).bind fun x2=>some (!x2))))).bind fun(j3:Bool)=>(bif j3 then some false else(((cW (aW.Links.length:Int) (fun(i7:Int) (_:Unit)=>((at' aW.Links i7).bind fun x11=>((bW aW.Places x11.Child).bind fun x12=>((bW aW.Places x11.Parent).bind fun x13=>(((bif(decide (x12<0))then some true else(bif(decide (x13<0))then some true else((at' aW.Places x12).bind fun x14=>((at' aW.Places x13).bind fun x15=>(bif(decide (x11.Years.From<(CI x14.Years.From x15.Years.From)))then some true else((at' aW.Places x12).bind fun x16=>((at' aW.Places x13).bind fun x17=>some (decide (x11.Years.To>(cw x16.Years.To x17.Years.To))))))))))).bind fun(j18:Bool)=>(bif j18 then some (.inr (.inr false))else some (.inl ()))))))) (fun(_:Unit)=> .inl ()) 0 ())).bind (Sum.elim (fun(_:Unit)=>some true) some))))
theorem oW(aW:World)(r:Bool)(h:iI aW=some r):aH Tryz.prog 25 [.v (.agg (tc ak aW))] ⟨[.v (vb r)],[],false⟩:=by
 refine au Tryz.func25 rfl [(.tmp 2)] rfl (fun r=>⟨[.v (vb r)],[],false⟩) (r:=r) ?_
 unfold iI at h
 refine az aa [1] [1] ?_
 refine ac ?_
 refine ac ?_
 refine bj h (fun j3=>⟨87,[(1,.ref 1 0),(16,vb j3)],[(1,.box (tc ak aW))]⟩) (fun v4 h=> ?_) (fun j3 h=> ?_)
 refine ab.cl aa 2 [1,8] [1] ?_
 obtain⟨x1,hx1,h⟩:=bind_some h
 refine ab.ls (xc zb (jJ aW.Places _ hx1)) ?_
 refine ab.cl aa 2 [1,11] [1] ?_
 refine ab.cu [(11,fun b=>b)] h (fun h=> ?_) fun h=> ?_
 refine ab.cl aa 5 [1,16] [1] ?_
 refine ab.nil ?_
 obtain rfl:=inj h
 exact Le.aq
 refine ab.cl aa 2 [1,11,13] [1] ?_
 obtain⟨x2,hx2,h⟩:=bind_some h
 refine ab.ls (xc vY (iF aW.Links _ hx2)) ?_
 refine ab.cl aa 2 [1,16] [1] ?_
 refine ab.nil ?_
 obtain rfl:=inj h
 exact Le.aq
 refine ao h (fun h=> ?_) fun h=> ?_
 refine az aa [2] [] ?_
 refine ag ?_
 obtain rfl:=inj h
 exact bw (aD (f1 fv))
 refine ai ?_
 refine aY ?_
 refine ac ?_
 refine az aa [1,3] [1] ?_
 refine bi (r:=r) h (fun j5=>⟨87,[],[]⟩) (fun v6 h=> ?_) (fun j5 h=> ?_)
 refine ay (a:=v6) ?_
 refine a6 (r:=v6) (s:=(0,())) _ (fun s7=>⟨87,[(1,.ref 1 0),(3,vi s7.1)],[(1,.box (tc ak aW))]⟩) _ (Le.aq) h (fun s7 v8 h=> ?_)
 refine ac ?_
 refine az aa [1,3,21] [1] ?_
 refine ao h (fun h=> ?_) fun h=> ?_
 refine ai ?_
 refine aY ?_
 refine ac ?_
 refine bn (r:=v8) h (fun j9=>⟨87,[(1,.ref 1 0),(3,vi s7.1)],[(1,.box (tc ak aW))]⟩) (fun v10 h=> ?_) (fun j9 h=> ?_)
 refine ay (a:=v10) ?_
 refine sr ?_
 refine ab.cl aa 3 [1,3,25,26] [1] ?_
 obtain⟨x11,hx11,h⟩:=bind_some h
 refine ab.ls (aG (L:=aW.Links) (f:=ae) (ti:=dp) (tj:=dq) (e:=85) (k:= .i64) aa rfl hx11) ?_
 refine bO aa 3 [1,3,4] [1,4] ?_
 refine ac ?_
 refine cL mixed ?_
 refine aR.cl aa false 4 [1,3,4,30,32] [1,4] ?_
 obtain⟨x12,hx12,h⟩:=bind_some h
 refine aR.step (xc lp (cv aW.Places x11.Child _ hx12)) ?_
 refine aR.cl aa false 4 [1,3,4,33,35,37] [1,4] ?_
 obtain⟨x13,hx13,h⟩:=bind_some h
 refine aR.step (xc lp (cv aW.Places x11.Parent _ hx13)) ?_
 refine aR.cl aa false 2 [1,3,4,5,6] [1,4] ?_
 refine aR.nx ?_
 refine ac ?_
 refine jR mixed h (fun j18=>⟨87,[(1,.ref 1 0),(3,vi s7.1),(86,vb j18)],[(1,.box (tc ak aW))]⟩) (fun v19 h=> ?_) (fun j18 h=> ?_)
 refine aR.cl aa false 3 [1,3,4,5,6,41] [1,4] ?_
 refine aR.cu [(41,fun b=>b)] h (fun h=> ?_) fun h=> ?_
 refine aR.cl aa false 45 [1,3,86] [1] ?_
 refine aR.nil (by kernel_rfl) ?_
 obtain rfl:=inj h
 exact Le.aq
 refine aR.cl aa false 4 [1,3,4,5,6,45] [1,4] ?_
 refine aR.cu [(45,fun b=>b)] h (fun h=> ?_) fun h=> ?_
 refine aR.cl aa false 41 [1,3,86] [1] ?_
 refine aR.nil (by kernel_rfl) ?_
 obtain rfl:=inj h
 exact Le.aq
 refine aR.cl aa false 6 [1,3,4,5,6,45,48,50,51] [1,4] ?_
 obtain⟨x14,hx14,h⟩:=bind_some h
 refine aR.step (aG (L:=aW.Places) (f:=ad) (ti:=cP) (tj:=cd) (e:=91) (k:= .i64) aa rfl hx14) ?_
 refine aR.cl aa false 6 [1,3,4,5,6,45,48,55,57,58] [1,4] ?_
 obtain⟨x15,hx15,h⟩:=bind_some h
 refine aR.step (aG (L:=aW.Places) (f:=ad) (ti:=cP) (tj:=cd) (e:=91) (k:= .i64) aa rfl hx15) ?_
 refine aR.cl aa false 7 [1,3,4,5,6,66] [1,4] ?_
 refine aR.cu [(66,fun b=>b)] h (fun h=> ?_) fun h=> ?_
 refine aR.cl aa false 20 [1,3,86] [1] ?_
 refine aR.nil (by kernel_rfl) ?_
 obtain rfl:=inj h
 exact Le.aq
 refine aR.ck aa false 6 ⟨87,[(1,.ref 1 0),(3,vi s7.1),(6,vi x13),(66,vb false),(69,vi x11.Years.To),(71,vl ad aW.Places),(72,vi x12)],[(1,.box (tc ak aW))]⟩ ?_
 obtain⟨x16,hx16,h⟩:=bind_some h
 refine aR.step (aG (L:=aW.Places) (f:=ad) (ti:=cP) (tj:=cd) (e:=91) (k:= .i64) aa rfl hx16) ?_
 refine aR.cl aa false 6 [1,3,66,69,76,78,79] [1] ?_
 obtain⟨x17,hx17,h⟩:=bind_some h
 refine aR.step (aG (L:=aW.Places) (f:=ad) (ti:=cP) (tj:=cd) (e:=91) (k:= .i64) aa rfl hx17) ?_
 refine aR.cl aa false 6 [1,3,86] [1] ?_
 refine aR.nil (by kernel_rfl) ?_
 obtain rfl:=inj h
 exact Le.aq
 refine ao h (fun h=> ?_) fun h=> ?_
 refine az aa [2] [] ?_
 refine ag ?_
 obtain rfl:=inj h
 exact bm (aU (aU (bm (aU (aD (f1 fv))))))
 refine ai ?_
 obtain rfl:=inj h
 exact bT (bZ (Le.aq))
 refine aF ?_
 refine ab.cl aa 3 [1,3] [1] ?_
 refine ab.nil ?_
 obtain rfl:=inj h
 exact bZ (Le.aq)
 refine aQ ?_
 obtain rfl:=inj h
 exact cD (cF (cE (bZ (Le.aq))))
 refine az aa [2] [] ?_
 refine ag ?_
 obtain rfl:=inj h
 exact aD (f1 fv)
theorem Cb:a8 Tryz.prog 25:=ax Tryz.func25 (by kernel_rfl) rfl
noncomputable def gE(aC:Change):Option (Bool):=
 ((((c5 aC.Year (-2999) 3000).bind fun x1=>(bif(!x1)then some true else((c5 aC.Kind 0 3).bind fun x2=>(bif(!x2)then some true else((cX aC.Code).bind fun x3=>some (!x3))))))).bind fun(j4:Bool)=>(bif j4 then some false else(((bif(aC.Kind==0)then((((c6 aC.Language).bind fun x8=>(bif(!x8)then some true else((ek aC.Text).bind fun x9=>some (!x9))))).bind fun(j10:Bool)=>(bif j10 then some (.inr false)else some (.inl ())))else(bif((!(aC.Language.toList==(ByteArray.mk #[]).toList)) || (!(aC.Text.toList==(ByteArray.mk #[]).toList)))then some (.inr false)else some (.inl ())))).bind (Sum.elim (fun(_:Unit)=>(bif((aC.Kind==2) || (aC.Kind==3))then((((cX aC.Other).bind fun x12=>(bif x12 then some (!(aC.Other.toList==aC.Code.toList))else some false))).bind fun(j13:Bool)=>some j13)else some (aC.Other.toList==(ByteArray.mk #[]).toList))) some))))
theorem n6(aC:Change)(r:Bool)(h:gE aC=some r):aH Tryz.prog 125 [.v (.agg (tc ap aC))] ⟨[.v (vb r)],[],false⟩:=by
 refine au Tryz.func125 rfl [(.tmp 2)] rfl (fun r=>⟨[.v (vb r)],[],false⟩) (r:=r) ?_
 unfold gE at h
 refine az aa [1] [1] ?_
 refine ac ?_
 refine ac ?_
 refine bj h (fun j4=>⟨61,[(1,.ref 1 0),(18,vb j4)],[(1,.box (tc ap aC))]⟩) (fun v5 h=> ?_) (fun j4 h=> ?_)
 refine ab.cl aa 2 [1,4] [1] ?_
 obtain⟨x1,hx1,h⟩:=bind_some h
 refine ab.ls (xc ja (cG aC.Year (-2999) 3000 _ hx1)) ?_
 refine ab.cl aa 2 [1,7] [1] ?_
 refine ab.cu [(7,fun b=>b)] h (fun h=> ?_) fun h=> ?_
 refine ab.cl aa 11 [1,18] [1] ?_
 refine ab.nil ?_
 obtain rfl:=inj h
 exact Le.aq
 refine ab.cl aa 2 [1,7,9] [1] ?_
 obtain⟨x2,hx2,h⟩:=bind_some h
 refine ab.ls (xc ja (cG aC.Kind 0 3 _ hx2)) ?_
 refine ab.cl aa 3 [1,13] [1] ?_
 refine ab.cu [(13,fun b=>b)] h (fun h=> ?_) fun h=> ?_
 refine ab.cl aa 5 [1,18] [1] ?_
 refine ab.nil ?_
 obtain rfl:=inj h
 exact Le.aq
 refine ab.cl aa 2 [1,13,15] [1] ?_
 obtain⟨x3,hx3,h⟩:=bind_some h
 refine ab.ls (xc ky (cY aC.Code _ hx3)) ?_
 refine ab.cl aa 2 [1,18] [1] ?_
 refine ab.nil ?_
 obtain rfl:=inj h
 exact Le.aq
 refine ao h (fun h=> ?_) fun h=> ?_
 refine iR aa ⟨61,[(2,vb false)],[]⟩ ?_
 refine ag ?_
 obtain rfl:=inj h
 exact bw (aD (f1 fv))
 refine ai ?_
 refine aY ?_
 refine ac ?_
 refine az aa [1,21] [1] ?_
 refine bi (r:=r) h (fun j6=>⟨61,[(1,.ref 1 0)],[(1,.box (tc ap aC))]⟩) (fun v7 h=> ?_) (fun j6 h=> ?_)
 refine ao h (fun h=> ?_) fun h=> ?_
 refine ac ?_
 refine bj h (fun j10=>⟨61,[(1,.ref 1 0),(31,vb j10)],[(1,.box (tc ap aC))]⟩) (fun v11 h=> ?_) (fun j10 h=> ?_)
 refine ab.cl aa 2 [1,23] [1] ?_
 obtain⟨x8,hx8,h⟩:=bind_some h
 refine ab.ls (xc sR (fR aC.Language _ hx8)) ?_
 refine ab.cl aa 2 [1,26] [1] ?_
 refine ab.cu [(26,fun b=>b)] h (fun h=> ?_) fun h=> ?_
 refine ab.cl aa 5 [1,31] [1] ?_
 refine ab.nil ?_
 obtain rfl:=inj h
 exact Le.aq
 refine ab.cl aa 2 [1,26,28] [1] ?_
 obtain⟨x9,hx9,h⟩:=bind_some h
 refine ab.ls (xc sS (iG aC.Text _ hx9)) ?_
 refine ab.cl aa 2 [1,31] [1] ?_
 refine ab.nil ?_
 obtain rfl:=inj h
 exact Le.aq
 refine ao h (fun h=> ?_) fun h=> ?_
 refine az aa [2] [] ?_
 refine ag ?_
 obtain rfl:=inj h
 exact aU (aD (f1 fv))
 refine ai ?_
 obtain rfl:=inj h
 exact bZ (Le.aq)
 refine ac ?_
 refine dc ⟨61,[(1,.ref 1 0),(39,vb ((!(aC.Language.toList==(ByteArray.mk #[]).toList)) || (!(aC.Text.toList==(ByteArray.mk #[]).toList))))],[(1,.box (tc ap aC))]⟩ ?_ ?_
 refine ab.ck aa 4 ⟨61,[(1,.ref 1 0),(35,vb (!(aC.Language.toList==(ByteArray.mk #[]).toList)))],[(1,.box (tc ap aC))]⟩ ?_
 generalize (!(aC.Language.toList==(ByteArray.mk #[]).toList))=bb
 cases bb
 refine ab.cl aa 4 [1,39] [1] ?_
 exact ab.nil (Le.aq)
 refine ab.cl aa 4 [1,39] [1] ?_
 exact ab.nil (Le.aq)
 refine ao h (fun h=> ?_) fun h=> ?_
 refine az aa [2] [] ?_
 refine ag ?_
 obtain rfl:=inj h
 exact aU (aD (f1 fv))
 refine ai ?_
 obtain rfl:=inj h
 exact bZ (Le.aq)
 refine ac ?_
 refine ac ?_
 refine dc ⟨61,[(1,.ref 1 0),(47,vb ((aC.Kind==2) || (aC.Kind==3)))],[(1,.box (tc ap aC))]⟩ ?_ ?_
 refine ab.ck aa 4 ⟨61,[(1,.ref 1 0),(43,vb (aC.Kind==2))],[(1,.box (tc ap aC))]⟩ ?_
 generalize (aC.Kind==2)=bb
 cases bb
 refine ab.cl aa 4 [1,47] [1] ?_
 exact ab.nil (Le.aq)
 refine ab.cl aa 4 [1,47] [1] ?_
 exact ab.nil (Le.aq)
 refine ao h (fun h=> ?_) fun h=> ?_
 refine ac ?_
 refine bj h (fun j13=>⟨61,[(2,vb j13)],[]⟩) (fun v14 h=> ?_) (fun j13 h=> ?_)
 refine ab.cl aa 2 [1,49] [1] ?_
 obtain⟨x12,hx12,h⟩:=bind_some h
 refine ab.ls (xc ky (cY aC.Other _ hx12)) ?_
 refine ab.cl aa 1 [1,51] [1] ?_
 refine ab.cu [(51,fun b=>b)] h (fun h=> ?_) fun h=> ?_
 refine ab.cl aa 7 [2] [] ?_
 refine ab.nil ?_
 obtain rfl:=inj h
 exact Le.aq
 refine ab.cl aa 7 [2] [] ?_
 refine ab.nil ?_
 obtain rfl:=inj h
 exact Le.aq
 refine ag ?_
 obtain rfl:=inj h
 exact bw (aD (f1 fv))
 refine ai ?_
 refine aY ?_
 refine az aa [2] [] ?_
 refine ag ?_
 obtain rfl:=inj h
 exact aD (f1 fv)
theorem AA:a8 Tryz.prog 125:=ax Tryz.func125 (by kernel_rfl) rfl
noncomputable def cV(aP:Place)(an:Int):Option (Bool):=
 ((c5 an aP.Years.From aP.Years.To).bind fun x1=>some x1)
theorem dP(aP:Place)(an:Int)(r:Bool)(h:cV aP an=some r):aH Tryz.prog 126 [.v (.agg (tc ad aP)),.v (vi an)] ⟨[.v (vb r)],[],false⟩:=by
 refine au Tryz.func126 rfl [(.tmp 4)] rfl (fun r=>⟨[.v (vb r)],[],false⟩) (r:=r) ?_
 unfold cV at h
 refine az aa [1,2] [2] ?_
 refine sr ?_
 refine ab.cl aa 7 [5,8,11] [] ?_
 obtain⟨x1,hx1,h⟩:=bind_some h
 refine ab.ls (xc ja (cG an aP.Years.From aP.Years.To _ hx1)) ?_
 refine bO aa 1 [4] [] ?_
 refine ag ?_
 obtain rfl:=inj h
 exact aD (f1 fv)
theorem nE:a8 Tryz.prog 126:=ax Tryz.func126 (by kernel_rfl) rfl
noncomputable def iM(aW:World)(aC:Change):Option (Int):=
 ((((iI aW).bind fun x1=>(bif(!x1)then some true else((gE aC).bind fun x2=>some (!x2))))).bind fun(j3:Bool)=>(bif j3 then some 1 else((bW aW.Places aC.Code).bind fun x5=>((bW aW.Places aC.Other).bind fun x6=>(bif((decide (x5<0)) || ((!(aC.Other.toList==(ByteArray.mk #[]).toList))&&(decide (x6<0))))then some 4 else((((at' aW.Places x5).bind fun x7=>((cV x7 (aJ (aC.Year - 1))).bind fun x8=>(bif(!x8)then some true else(bif(aC.Kind !=1)then((at' aW.Places x5).bind fun x9=>((cV x9 aC.Year).bind fun x10=>(bif(!x10)then some true else(bif(!(aC.Other.toList==(ByteArray.mk #[]).toList))then((at' aW.Places x6).bind fun x11=>((cV x11 aC.Year).bind fun x12=>some (!x12)))else some false))))else(bif(!(aC.Other.toList==(ByteArray.mk #[]).toList))then((at' aW.Places x6).bind fun x13=>((cV x13 aC.Year).bind fun x14=>some (!x14)))else some false)))))).bind fun(j15:Bool)=>(bif j15 then some 5 else some 0)))))))
theorem o3(aW:World)(aC:Change)(r:Int)(h:iM aW aC=some r):aH Tryz.prog 68 [.v (.agg (tc ak aW)),.v (.agg (tc ap aC))] ⟨[.v (vi r)],[],false⟩:=by
 refine au Tryz.func68 rfl [(.tmp 4)] rfl (fun r=>⟨[.v (vi r)],[],false⟩) (r:=r) ?_
 unfold iM at h
 refine az aa [2,3] [2,3] ?_
 refine ac ?_
 refine ac ?_
 refine bj h (fun j3=>⟨78,[(2,.ref 2 0),(3,.ref 3 0),(14,vb j3)],[(2,.box (tc ak aW)),(3,.box (tc ap aC))]⟩) (fun v4 h=> ?_) (fun j3 h=> ?_)
 refine ab.cl aa 1 [2,3,7] [2,3] ?_
 obtain⟨x1,hx1,h⟩:=bind_some h
 refine ab.ls (xc Cb (oW aW _ hx1)) ?_
 refine ab.cl aa 2 [2,3,10] [2,3] ?_
 refine ab.cu [(10,fun b=>b)] h (fun h=> ?_) fun h=> ?_
 refine ab.cl aa 4 [2,3,14] [2,3] ?_
 refine ab.nil ?_
 obtain rfl:=inj h
 exact Le.aq
 refine ab.cl aa 1 [2,3,10,11] [2,3] ?_
 obtain⟨x2,hx2,h⟩:=bind_some h
 refine ab.ls (xc AA (n6 aC _ hx2)) ?_
 refine ab.cl aa 2 [2,3,14] [2,3] ?_
 refine ab.nil ?_
 obtain rfl:=inj h
 exact Le.aq
 refine ao h (fun h=> ?_) fun h=> ?_
 refine iR aa ⟨78,[(4,vi 1)],[]⟩ ?_
 refine ag ?_
 obtain rfl:=inj h
 exact bw (aD (f1 fv))
 refine ai ?_
 refine aY ?_
 refine ac ?_
 refine cL mixed ?_
 refine aR.cl aa false 4 [2,3,16,18] [2,3] ?_
 obtain⟨x5,hx5,h⟩:=bind_some h
 refine aR.step (xc lp (cv aW.Places aC.Code _ hx5)) ?_
 refine aR.cl aa false 4 [2,3,19,21,23] [2,3] ?_
 obtain⟨x6,hx6,h⟩:=bind_some h
 refine aR.step (xc lp (cv aW.Places aC.Other _ hx6)) ?_
 refine aR.cl aa false 2 [2,3,5,6] [2,3] ?_
 refine aR.nx ?_
 refine ac ?_
 refine ac ?_
 refine dc ⟨78,[(2,.ref 2 0),(3,.ref 3 0),(5,vi x5),(6,vi x6),(35,vb ((decide (x5<0)) || ((!(aC.Other.toList==(ByteArray.mk #[]).toList))&&(decide (x6<0)))))],[(2,.box (tc ak aW)),(3,.box (tc ap aC))]⟩ ?_ ?_
 refine ab.ck aa 3 ⟨78,[(2,.ref 2 0),(3,.ref 3 0),(5,vi x5),(6,vi x6),(27,vb (decide (x5<0)))],[(2,.box (tc ak aW)),(3,.box (tc ap aC))]⟩ ?_
 generalize (decide (x5<0))=bb
 cases bb
 refine ab.ck aa 4 ⟨78,[(2,.ref 2 0),(3,.ref 3 0),(5,vi x5),(6,vi x6),(27,vb false),(31,vb (!(aC.Other.toList==(ByteArray.mk #[]).toList)))],[(2,.box (tc ak aW)),(3,.box (tc ap aC))]⟩ ?_
 generalize (!(aC.Other.toList==(ByteArray.mk #[]).toList))=bb
 cases bb
 refine ab.cl aa 4 [2,3,5,6,35] [2,3] ?_
 exact ab.nil (Le.aq)
 refine ab.cl aa 4 [2,3,5,6,35] [2,3] ?_
 exact ab.nil (Le.aq)
 refine ab.cl aa 8 [2,3,5,6,35] [2,3] ?_
 exact ab.nil (Le.aq)
 refine ao h (fun h=> ?_) fun h=> ?_
 refine iR aa ⟨78,[(4,vi 4)],[]⟩ ?_
 refine ag ?_
 obtain rfl:=inj h
 exact bw (aD (f1 fv))
 refine ai ?_
 refine aY ?_
 refine ac ?_
 refine ac ?_
 refine jR mixed h (fun j15=>⟨78,[(77,vb j15)],[]⟩) (fun v16 h=> ?_) (fun j15 h=> ?_)
 refine aR.cl aa false 3 [2,3,5,6,37,38] [2,3] ?_
 obtain⟨x7,hx7,h⟩:=bind_some h
 refine aR.step (aG (L:=aW.Places) (f:=ad) (ti:=cP) (tj:=cd) (e:=91) (k:= .i64) aa rfl hx7) ?_
 refine aR.cl aa false 4 [2,3,5,6,40,43] [2,3] ?_
 obtain⟨x8,hx8,h⟩:=bind_some h
 refine aR.step (xc nE (dP x7 (aJ (aC.Year - 1)) _ hx8)) ?_
 refine aR.cl aa false 2 [2,3,5,6,46] [2,3] ?_
 refine aR.cu [(46,fun b=>b)] h (fun h=> ?_) fun h=> ?_
 refine aR.cl aa false 31 [77] [] ?_
 refine aR.nil (by kernel_rfl) ?_
 obtain rfl:=inj h
 exact Le.aq
 refine aR.cl aa false 4 [2,3,5,6,46,50] [2,3] ?_
 refine aR.cu [(50,fun b=>b)] h (fun h=> ?_) fun h=> ?_
 refine aR.cl aa false 3 [2,3,6,46,50,52,53] [2,3] ?_
 obtain⟨x9,hx9,h⟩:=bind_some h
 refine aR.step (aG (L:=aW.Places) (f:=ad) (ti:=cP) (tj:=cd) (e:=91) (k:= .i64) aa rfl hx9) ?_
 refine aR.cl aa false 3 [2,3,6,46,50,55,57] [2,3] ?_
 obtain⟨x10,hx10,h⟩:=bind_some h
 refine aR.step (xc nE (dP x9 aC.Year _ hx10)) ?_
 refine aR.cl aa false 4 [2,3,6,62] [2,3] ?_
 refine aR.cu [(62,fun b=>b)] h (fun h=> ?_) fun h=> ?_
 refine aR.ck aa false 15 ⟨78,[(77,vb true)],[]⟩ ?_
 refine aR.nil (by kernel_rfl) ?_
 obtain rfl:=inj h
 exact Le.aq
 refine aR.cl aa false 4 [2,3,6,62,66] [2,3] ?_
 refine aR.cu [(66,fun b=>b)] h (fun h=> ?_) fun h=> ?_
 refine aR.cl aa false 3 [3,62,66,68,69] [3] ?_
 obtain⟨x11,hx11,h⟩:=bind_some h
 refine aR.step (aG (L:=aW.Places) (f:=ad) (ti:=cP) (tj:=cd) (e:=91) (k:= .i64) aa rfl hx11) ?_
 refine aR.cl aa false 3 [62,66,71,73] [] ?_
 obtain⟨x12,hx12,h⟩:=bind_some h
 refine aR.step (xc nE (dP x11 aC.Year _ hx12)) ?_
 refine aR.cl aa false 3 [77] [] ?_
 refine aR.nil (by kernel_rfl) ?_
 obtain rfl:=inj h
 exact Le.aq
 refine aR.cl aa false 11 [77] [] ?_
 refine aR.nil (by kernel_rfl) ?_
 obtain rfl:=inj h
 exact Le.aq
 refine aR.cl aa false 16 [2,3,6,62,66] [2,3] ?_
 refine aR.cu [(66,fun b=>b)] h (fun h=> ?_) fun h=> ?_
 refine aR.cl aa false 3 [3,62,66,68,69] [3] ?_
 obtain⟨x13,hx13,h⟩:=bind_some h
 refine aR.step (aG (L:=aW.Places) (f:=ad) (ti:=cP) (tj:=cd) (e:=91) (k:= .i64) aa rfl hx13) ?_
 refine aR.cl aa false 3 [62,66,71,73] [] ?_
 obtain⟨x14,hx14,h⟩:=bind_some h
 refine aR.step (xc nE (dP x13 aC.Year _ hx14)) ?_
 refine aR.ck aa false 3 ⟨78,[(77,vb (!x14))],[]⟩ ?_
 refine aR.nil (by kernel_rfl) ?_
 obtain rfl:=inj h
 exact Le.aq
 refine aR.cl aa false 11 [77] [] ?_
 refine aR.nil (by kernel_rfl) ?_
 obtain rfl:=inj h
 exact Le.aq
 refine ao h (fun h=> ?_) fun h=> ?_
 refine iR aa ⟨78,[(4,vi 5)],[]⟩ ?_
 refine ag ?_
 obtain rfl:=inj h
 exact bw (aD (f1 fv))
 refine ai ?_
 refine aY ?_
 refine iR aa ⟨78,[(4,vi 0)],[]⟩ ?_
 refine ag ?_
 obtain rfl:=inj h
 exact aD (f1 fv)
theorem Cr:a8 Tryz.prog 68:=ax Tryz.func68 (by kernel_rfl) rfl
noncomputable def iJ(ah:(List Name))(aZ:ByteArray)(an:Int):Option (Int):=
 ((((fx ah).bind fun x1=>(bif(!x1)then some true else((c6 aZ).bind fun x2=>some (!x2))))).bind fun(j3:Bool)=>(bif j3 then some 1 else((cU an).bind fun x5=>(bif(!x5)then some 2 else some 0))))
theorem oY(ah:(List Name))(aZ:ByteArray)(an:Int)(r:Int)(h:iJ ah aZ an=some r):aH Tryz.prog 174 [.v (vl ar ah),.v (vs aZ),.v (vi an)] ⟨[.v (vi r)],[],false⟩:=by
 refine au Tryz.func174 rfl [(.tmp 6)] rfl (fun r=>⟨[.v (vi r)],[],false⟩) (r:=r) ?_
 unfold iJ at h
 refine az aa [0,1,2] [] ?_
 refine ac ?_
 refine ac ?_
 refine bj h (fun j3=>⟨18,[(2,vi an),(14,vb j3)],[]⟩) (fun v4 h=> ?_) (fun j3 h=> ?_)
 refine ab.cl aa 1 [1,2,7] [] ?_
 obtain⟨x1,hx1,h⟩:=bind_some h
 refine ab.ls (xc w7 (kH ah _ hx1)) ?_
 refine ab.cl aa 2 [1,2,10] [] ?_
 refine ab.cu [(10,fun b=>b)] h (fun h=> ?_) fun h=> ?_
 refine ab.cl aa 4 [2,14] [] ?_
 refine ab.nil ?_
 obtain rfl:=inj h
 exact Le.aq
 refine ab.cl aa 1 [2,10,11] [] ?_
 obtain⟨x2,hx2,h⟩:=bind_some h
 refine ab.ls (xc sR (fR aZ _ hx2)) ?_
 refine ab.cl aa 2 [2,14] [] ?_
 refine ab.nil ?_
 obtain rfl:=inj h
 exact Le.aq
 refine ao h (fun h=> ?_) fun h=> ?_
 refine iR aa ⟨18,[(6,vi 1)],[]⟩ ?_
 refine ag ?_
 obtain rfl:=inj h
 exact bw (aD (f1 fv))
 refine ai ?_
 refine aY ?_
 refine ac ?_
 refine sr ?_
 refine ab.cl aa 1 [15] [] ?_
 obtain⟨x5,hx5,h⟩:=bind_some h
 refine ab.ls (xc nF (eK an _ hx5)) ?_
 refine bO aa 1 [17] [] ?_
 refine ao h (fun h=> ?_) fun h=> ?_
 refine iR aa ⟨18,[(6,vi 2)],[]⟩ ?_
 refine ag ?_
 obtain rfl:=inj h
 exact bw (aD (f1 fv))
 refine ai ?_
 refine aY ?_
 refine iR aa ⟨18,[(6,vi 0)],[]⟩ ?_
 refine ag ?_
 obtain rfl:=inj h
 exact aD (f1 fv)
theorem AV:a8 Tryz.prog 174:=ax Tryz.func174 (by kernel_rfl) rfl
noncomputable def jQ(ah:(List Name))(an:Int):Option ((List Int)):=
 (((jx (ah.length:Int) (fun(i3:Int) (s3:(List Int))=>((at' ah i3).bind fun x7=>((at' ah i3).bind fun x8=>((c5 an x7.Years.From x8.Years.To).bind fun x9=>(bif x9 then((ed s3 ([i3]:List Int)).bind fun x10=>some x10)else some s3))))) (fun(s3:(List Int))=>s3) 0 ([]:List Int))).bind fun(j1:(List Int))=>some j1)
theorem oZ(ah:(List Name))(an:Int)(r:(List Int))(h:jQ ah an=some r):aH Tryz.prog 204 [.v (vl ar ah),.v (vi an)] ⟨[.own 2 1 r.length (r.map (eI .i64))],[],false⟩:=by
 refine au Tryz.func204 rfl [(.tmp 4)] rfl (fun r=>⟨[.own 2 1 r.length (r.map (eI .i64))],[],false⟩) (r:=r) ?_
 unfold jQ at h
 refine az aa [0,1] [] ?_
 refine az aa [0,1,5] [7] ?_
 refine ac ?_
 refine az aa [0,1,5,6] [7] ?_
 refine a7 h (fun j1=>⟨33,[(5,.own 5)],[(5,oa 2 1 (eI .i64) j1)]⟩) (fun v2 h=> ?_) (fun j1 h=> ?_)
 refine ay (a:=v2) ?_
 refine a6 (r:=v2) (s:=(0,([]:List Int))) _ (fun s3=>⟨33,[(0,vl ar ah),(1,vi an),(5,.own 5),(6,vi s3.1)],[(5,oa 2 1 (eI .i64) s3.2)]⟩) _ (Le.rr [7] [(7,5)]) h (fun s3 v4 h=> ?_)
 refine ac ?_
 refine az aa [0,1,5,6,11] [5] ?_
 refine ao h (fun h=> ?_) fun h=> ?_
 refine ai ?_
 refine aY ?_
 refine ac ?_
 refine a7 h (fun j5=>⟨33,[(0,vl ar ah),(1,vi an),(5,.own 5),(6,vi s3.1)],[(5,oa 2 1 (eI .i64) j5)]⟩) (fun v6 h=> ?_) (fun j5 h=> ?_)
 refine ay (a:=v6) ?_
 refine ac ?_
 refine cL mixed ?_
 refine aR.cl aa false 3 [0,1,5,6,14,15,16] [5] ?_
 obtain⟨x7,hx7,h⟩:=bind_some h
 refine aR.step (aG (L:=ah) (f:=ar) (ti:=dd) (tj:=cH) (e:=169) (k:= .i64) aa rfl hx7) ?_
 refine aR.cl aa false 5 [0,1,5,6,14,20,21,22] [5] ?_
 obtain⟨x8,hx8,h⟩:=bind_some h
 refine aR.step (aG (L:=ah) (f:=ar) (ti:=dd) (tj:=cH) (e:=169) (k:= .i64) aa rfl hx8) ?_
 refine aR.cl aa false 3 [0,1,5,6,14,20,26] [5] ?_
 obtain⟨x9,hx9,h⟩:=bind_some h
 refine aR.step (xc ja (cG an x7.Years.From x8.Years.To _ hx9)) ?_
 refine aR.nx ?_
 refine ao h (fun h=> ?_) fun h=> ?_
 refine aF ?_
 refine ab.cl aa 3 [0,1,6,28,30] [5,30] ?_
 obtain⟨x10,hx10,h⟩:=bind_some h
 refine ab.bx (bS (f:=(eI .i64)) (t:=144) (ti:=xD) (tj:=ti2) (zs:=[.int .i64 0]) (e:=2) (m:=1) (d:=5) (xv:= .own 30) hx10 aa rfl rfl rfl rfl (dC (e:=2))) ?_
 refine ab.cl aa 1 [0,1,5,6] [31] ?_
 refine ab.nil ?_
 obtain rfl:=inj h
 exact bT (fu (Le.rr [31] [(31,5)]))
 refine ai ?_
 obtain rfl:=inj h
 exact bT (fu (Le.aq))
 refine aF ?_
 refine ab.cl aa 3 [0,1,5,6] [5] ?_
 refine ab.nil ?_
 obtain rfl:=inj h
 exact bZ (Le.aq)
 refine aQ ?_
 obtain rfl:=inj h
 exact cD (cF (cE (fu (Le.aq))))
 refine az aa [4] [5] ?_
 refine ag ?_
 obtain rfl:=inj h
 exact aD (f1 (fo (Aq .i64)))
theorem Be:a8 Tryz.prog 204:=ax Tryz.func204 (by kernel_rfl) rfl
noncomputable def eN(ah:(List Name))(aZ:ByteArray)(an:Int):Option (Int):=
 ((jQ ah an).bind fun x1=>(((cW (x1.length:Int) (fun(i4:Int) (_:Unit)=>((at' x1 i4).bind fun x8=>((at' ah x8).bind fun x9=>(bif((x9.Status==0)&&(x9.Language.toList==aZ.toList))then((at' x1 i4).bind fun x10=>some (.inr (.inr x10)))else some (.inl ()))))) (fun(_:Unit)=> .inl ()) 0 ())).bind (Sum.elim (fun(_:Unit)=>some (-1)) some)))
theorem mf(ah:(List Name))(aZ:ByteArray)(an:Int)(r:Int)(h:eN ah aZ an=some r):aH Tryz.prog 175 [.v (vl ar ah),.v (vs aZ),.v (vi an)] ⟨[.v (vi r)],[],false⟩:=by
 refine au Tryz.func175 rfl [(.tmp 6)] rfl (fun r=>⟨[.v (vi r)],[],false⟩) (r:=r) ?_
 unfold eN at h
 refine az aa [0,1,2] [] ?_
 refine sr ?_
 refine ab.cl aa 2 [0,1,10,11] [] ?_
 obtain⟨x1,hx1,h⟩:=bind_some h
 refine ab.ls (xc Be (oZ ah an _ hx1)) ?_
 refine bO aa 1 [0,1,7] [12] ?_
 refine ac ?_
 refine az aa [0,1,7,8] [12] ?_
 refine bi (r:=r) h (fun j2=>⟨39,[],[]⟩) (fun v3 h=> ?_) (fun j2 h=> ?_)
 refine ay (a:=v3) ?_
 refine a6 (r:=v3) (s:=(0,())) _ (fun s4=>⟨39,[(0,vl ar ah),(1,vs aZ),(7,.own 7),(8,vi s4.1)],[(7,oa 2 1 (eI .i64) x1)]⟩) _ (Le.rr [12] [(12,7)]) h (fun s4 v5 h=> ?_)
 refine ac ?_
 refine az aa [0,1,7,8,16] [7] ?_
 refine ao h (fun h=> ?_) fun h=> ?_
 refine ai ?_
 refine aY ?_
 refine ac ?_
 refine bn (r:=v5) h (fun j6=>⟨39,[(0,vl ar ah),(1,vs aZ),(7,.own 7),(8,vi s4.1)],[(7,oa 2 1 (eI .i64) x1)]⟩) (fun v7 h=> ?_) (fun j6 h=> ?_)
 refine ay (a:=v7) ?_
 refine sr ?_
 refine ab.cl aa 3 [0,1,7,8,19,20,21] [7] ?_
 obtain⟨x8,hx8,h⟩:=bind_some h
 refine ab.ls (bo (d:=7) (L:=x1) (f:=(eI .i64)) (ti:=xD) (tj:=ti2) (e:=2) (e':=2) (m:=1) (k:= .i64) aa rfl hx8) ?_
 refine ab.ls (dr (d:=7) (m:=1) (j:=0) (L:=x1) (f:=(eI .i64)) (ti:=ti2) (e:=2) (v:=vi x8) aa rfl hx8) ?_
 obtain⟨x9,hx9,h⟩:=bind_some h
 refine ab.ls (aG (L:=ah) (f:=ar) (ti:=dd) (tj:=cH) (e:=169) (k:= .i64) aa rfl hx9) ?_
 refine bO aa 3 [0,1,7,8,9] [7,9] ?_
 refine ac ?_
 refine dc ⟨39,[(0,vl ar ah),(1,vs aZ),(7,.own 7),(8,vi s4.1),(34,vb ((x9.Status==0)&&(x9.Language.toList==aZ.toList)))],[(7,oa 2 1 (eI .i64) x1)]⟩ ?_ ?_
 refine ab.ck aa 4 ⟨39,[(0,vl ar ah),(1,vs aZ),(7,.own 7),(8,vi s4.1),(9,.ref 9 0),(29,vb (x9.Status==0))],[(7,oa 2 1 (eI .i64) x1),(9,.box (tc ar x9))]⟩ ?_
 generalize (x9.Status==0)=bb
 cases bb
 refine ab.cl aa 5 [0,1,7,8,34] [7] ?_
 exact ab.nil (Le.aq)
 refine ab.cl aa 5 [0,1,7,8,34] [7] ?_
 exact ab.nil (Le.aq)
 refine ao h (fun h=> ?_) fun h=> ?_
 refine sr ?_
 refine ab.cl aa 2 [35,36] [7] ?_
 obtain⟨x10,hx10,h⟩:=bind_some h
 refine ab.ls (bo (d:=7) (L:=x1) (f:=(eI .i64)) (ti:=xD) (tj:=ti2) (e:=2) (e':=2) (m:=1) (k:= .i64) aa rfl hx10) ?_
 refine ab.ls (dr (d:=7) (m:=1) (j:=0) (L:=x1) (f:=(eI .i64)) (ti:=ti2) (e:=2) (v:=vi x10) aa rfl hx10) ?_
 refine bO aa 1 [6] [] ?_
 refine ag ?_
 obtain rfl:=inj h
 exact bm (aU (aU (bm (aU (aD (f1 fv))))))
 refine ai ?_
 obtain rfl:=inj h
 exact bT (bZ (Le.aq))
 refine aF ?_
 refine ab.cl aa 3 [0,1,7,8] [7] ?_
 refine ab.nil ?_
 obtain rfl:=inj h
 exact bZ (Le.aq)
 refine aQ ?_
 obtain rfl:=inj h
 exact cD (cF (cE (bZ (Le.aq))))
 refine az aa [6] [] ?_
 refine ag ?_
 obtain rfl:=inj h
 exact aD (f1 fv)
theorem AW:a8 Tryz.prog 175:=ax Tryz.func175 (by kernel_rfl) rfl
noncomputable def fS(ah:(List Name))(aK:Int)(an:Int)(c8:ByteArray):Option ((List Name)):=
 ((at' ah aK).bind fun x1=>(((jx (ah.length:Int) (fun(i4:Int) (s4:(List Name))=>((at' ah i4).bind fun x8=>(((bif(i4==aK)then(bif(x1.Years.From==an)then some (.inr s4)else some (.inl (Name.mk x8.Text x8.Language x8.Status (Span.mk x1.Years.From (aJ (an - 1))))))else some (.inl x8))).bind (Sum.elim (fun(j9:Name)=>((ed s4 ([j9]:List Name)).bind fun x11=>some x11)) some)))) (fun(s4:(List Name))=>s4) 0 ([]:List Name))).bind fun(j2:(List Name))=>((ed j2 ([(Name.mk c8 x1.Language 0 (Span.mk an x1.Years.To))]:List Name)).bind fun x12=>some x12)))
theorem nh(ah:(List Name))(aK:Int)(an:Int)(c8:ByteArray)(r:(List Name))(h:fS ah aK an c8=some r):aH Tryz.prog 176 [.v (vl ar ah),.v (vi aK),.v (vi an),.v (vs c8)] ⟨[.own 169 5 r.length (r.map ar)],[],false⟩:=by
 refine au Tryz.func176 rfl [(.tmp 8)] rfl (fun r=>⟨[.own 169 5 r.length (r.map ar)],[],false⟩) (r:=r) ?_
 unfold fS at h
 refine az aa [0,1,2,3] [] ?_
 refine sr ?_
 refine ab.cl aa 2 [0,1,2,3,13,14] [] ?_
 obtain⟨x1,hx1,h⟩:=bind_some h
 refine ab.ls (aG (L:=ah) (f:=ar) (ti:=dd) (tj:=cH) (e:=169) (k:= .i64) aa rfl hx1) ?_
 refine bO aa 3 [0,1,2,3,9] [9] ?_
 refine az aa [0,1,2,3,9,10] [9,17] ?_
 refine ac ?_
 refine az aa [0,1,2,3,9,10,11] [9,17] ?_
 refine a7 h (fun j2=>⟨59,[(2,vi an),(3,vs c8),(9,.ref 9 0),(10,.own 10)],[(9,.box (tc ar x1)),(10,oa 169 5 ar j2)]⟩) (fun v3 h=> ?_) (fun j2 h=> ?_)
 refine ay (a:=v3) ?_
 refine a6 (r:=v3) (s:=(0,([]:List Name))) _ (fun s4=>⟨59,[(0,vl ar ah),(1,vi aK),(2,vi an),(3,vs c8),(9,.ref 9 0),(10,.own 10),(11,vi s4.1)],[(9,.box (tc ar x1)),(10,oa 169 5 ar s4.2)]⟩) _ (Le.rr [9,17] [(17,10)]) h (fun s4 v5 h=> ?_)
 refine ac ?_
 refine az aa [0,1,2,3,9,10,11,21] [9,10] ?_
 refine ao h (fun h=> ?_) fun h=> ?_
 refine ai ?_
 refine aY ?_
 refine ac ?_
 refine a7 h (fun j6=>⟨59,[(0,vl ar ah),(1,vi aK),(2,vi an),(3,vs c8),(9,.ref 9 0),(10,.own 10),(11,vi s4.1)],[(9,.box (tc ar x1)),(10,oa 169 5 ar j6)]⟩) (fun v7 h=> ?_) (fun j6 h=> ?_)
 refine ay (a:=v7) ?_
 refine sr ?_
 refine ab.cl aa 2 [0,1,2,3,9,10,11,24,25] [9,10] ?_
 obtain⟨x8,hx8,h⟩:=bind_some h
 refine ab.ls (aG (L:=ah) (f:=ar) (ti:=dd) (tj:=cH) (e:=169) (k:= .i64) aa rfl hx8) ?_
 refine bO aa 3 [0,1,2,3,9,10,11,12] [9,10,12] ?_
 refine ac ?_
 refine az aa [0,1,2,3,9,10,11,12,30] [9,10,12] ?_
 refine bi (r:=v7) h (fun j9=>⟨59,[(0,vl ar ah),(1,vi aK),(2,vi an),(3,vs c8),(9,.ref 9 0),(10,.own 10),(11,vi s4.1),(12,.ref 12 0)],[(9,.box (tc ar x1)),(10,oa 169 5 ar s4.2),(12,.box (tc ar j9))]⟩) (fun v10 h=> ?_) (fun j9 h=> ?_)
 refine ao h (fun h=> ?_) fun h=> ?_
 refine ac ?_
 refine az aa [0,1,2,3,9,10,11,12,35] [9,10,12] ?_
 refine ao h (fun h=> ?_) fun h=> ?_
 refine aQ ?_
 obtain rfl:=inj h
 exact cD (cF (cE (fu (Le.aq))))
 refine ai ?_
 refine aY ?_
 refine aF ?_
 refine ab.cl aa 5 [0,1,2,3,9,10,11,12,38,40] [9,10,12] ?_
 refine ab.ls (bk (v:= .agg [vi x1.Years.From,vi (aJ (an - 1))]) aa rfl) ?_
 refine ab.cl aa 2 [0,1,2,3,9,10,11,12] [9,10,12] ?_
 refine ab.nil ?_
 obtain rfl:=inj h
 exact bZ (Le.aq)
 refine ai ?_
 obtain rfl:=inj h
 exact bZ (Le.aq)
 refine aF ?_
 refine ab.cl aa 3 [0,1,2,3,9,11,43,45] [9,10,45] ?_
 obtain⟨x11,hx11,h⟩:=bind_some h
 refine ab.bx (bS (f:=ar) (t:=89) (ti:=dd) (tj:=cH) (zs:=[.string (ByteArray.mk #[]),.string (ByteArray.mk #[]),.int .i64 0,.int .i64 0,.int .i64 0]) (e:=169) (m:=5) (d:=10) (xv:= .own 45) hx11 aa rfl rfl rfl rfl (dC (e:=169))) ?_
 refine ab.cl aa 1 [0,1,2,3,9,10,11] [9,46] ?_
 refine ab.nil ?_
 obtain rfl:=inj h
 exact bT (fu (Le.rr [9,46] [(46,10)]))
 refine aF ?_
 refine ab.cl aa 3 [0,1,2,3,9,10,11] [9,10] ?_
 refine ab.nil ?_
 obtain rfl:=inj h
 exact bZ (Le.aq)
 refine aQ ?_
 obtain rfl:=inj h
 exact cD (cF (cE (fu (Le.aq))))
 refine sr ?_
 refine ab.cl aa 8 [47,48,50,51,54] [10] ?_
 refine ab.ls (bk (v:= .agg [vi an,vi x1.Years.To]) aa rfl) ?_
 refine ab.ls (bk (v:= .agg [vs c8,vs x1.Language,vi 0,vi an,vi x1.Years.To]) aa rfl) ?_
 refine ab.cl aa 1 [47,57] [10,57] ?_
 obtain⟨x12,hx12,h⟩:=bind_some h
 refine ab.bx (bS (f:=ar) (t:=89) (ti:=dd) (tj:=cH) (zs:=[.string (ByteArray.mk #[]),.string (ByteArray.mk #[]),.int .i64 0,.int .i64 0,.int .i64 0]) (e:=169) (m:=5) (d:=10) (xv:= .own 57) hx12 aa rfl rfl rfl rfl (dC (e:=169))) ?_
 refine ckn aa 1 ⟨59,[(8,.own 58)],[(58,oa 169 5 ar x12)]⟩ ?_
 refine ag ?_
 obtain rfl:=inj h
 exact aD (f1 (fo bu))
theorem AX:a8 Tryz.prog 176:=ax Tryz.func176 (by kernel_rfl) rfl
noncomputable def gF(ah:(List Name))(aZ:ByteArray)(an:Int)(c8:ByteArray):Option ((List Name)×Int):=
 ((ek c8).bind fun x1=>(bif(!x1)then some (([]:List Name),1)else((iJ ah aZ an).bind fun x2=>(bif(x2 !=0)then some (([]:List Name),x2)else((eN ah aZ an).bind fun x3=>(bif(decide (x3<0))then some (([]:List Name),4)else((fS ah x3 an c8).bind fun x4=>(bif(decide ((x4.length:Int)>12))then some (([]:List Name),3)else some (x4,0)))))))))
theorem n7(ah:(List Name))(aZ:ByteArray)(an:Int)(c8:ByteArray)(r:(List Name)×Int)(h:gF ah aZ an c8=some r):aH Tryz.prog 127 [.v (vl ar ah),.v (vs aZ),.v (vi an),.v (vs c8)] ⟨[.own 169 5 r.1.length (r.1.map ar),.v (vi r.2)],[],false⟩:=by
 refine au Tryz.func127 rfl [(.tmp 8),(.tmp 9)] rfl (fun r=>⟨[.own 169 5 r.1.length (r.1.map ar),.v (vi r.2)],[],false⟩) (r:=r) ?_
 unfold gF at h
 refine az aa [0,1,2,3] [] ?_
 refine ac ?_
 refine sr ?_
 refine ab.cl aa 1 [0,1,2,3,13] [] ?_
 obtain⟨x1,hx1,h⟩:=bind_some h
 refine ab.ls (xc sS (iG c8 _ hx1)) ?_
 refine bO aa 1 [0,1,2,3,15] [] ?_
 refine ao h (fun h=> ?_) fun h=> ?_
 refine az aa [8,9] [8] ?_
 refine ag ?_
 obtain rfl:=inj h
 exact bw (aD (f2 (fo bu) fv))
 refine ai ?_
 refine aY ?_
 refine sr ?_
 refine ab.cl aa 3 [0,1,2,3,16,17,18] [] ?_
 obtain⟨x2,hx2,h⟩:=bind_some h
 refine ab.ls (xc AV (oY ah aZ an _ hx2)) ?_
 refine bO aa 1 [0,1,2,3,10] [] ?_
 refine ac ?_
 refine az aa [0,1,2,3,10,21] [] ?_
 refine ao h (fun h=> ?_) fun h=> ?_
 refine az aa [8,9] [8] ?_
 refine ag ?_
 obtain rfl:=inj h
 exact bw (aD (f2 (fo bu) fv))
 refine ai ?_
 refine aY ?_
 refine sr ?_
 refine ab.ck aa 3 ⟨38,[(0,vl ar ah),(2,vi an),(3,vs c8),(23,vl ar ah),(24,vs aZ),(25,vi an)],[]⟩ ?_
 obtain⟨x3,hx3,h⟩:=bind_some h
 refine ab.ls (xc AW (mf ah aZ an _ hx3)) ?_
 refine bO aa 1 [0,2,3,11] [] ?_
 refine ac ?_
 refine az aa [0,2,3,11,28] [] ?_
 refine ao h (fun h=> ?_) fun h=> ?_
 refine az aa [8,9] [8] ?_
 refine ag ?_
 obtain rfl:=inj h
 exact bw (aD (f2 (fo bu) fv))
 refine ai ?_
 refine aY ?_
 refine sr ?_
 refine ab.cl aa 4 [29,30,31,32] [] ?_
 obtain⟨x4,hx4,h⟩:=bind_some h
 refine ab.ls (xc AX (nh ah x3 an c8 _ hx4)) ?_
 refine bO aa 1 [12] [33] ?_
 refine ac ?_
 refine az aa [12,36] [33] ?_
 refine ao h (fun h=> ?_) fun h=> ?_
 refine az aa [8,9] [8] ?_
 refine ag ?_
 obtain rfl:=inj h
 exact bw (aD (f2 (fo bu) fv))
 refine ai ?_
 refine aY ?_
 refine az aa [8,9] [33] ?_
 refine ag ?_
 obtain rfl:=inj h
 exact aD (f2 (fo bu) fv)
theorem AB:a8 Tryz.prog 127:=ax Tryz.func127 (by kernel_rfl) rfl
noncomputable def fU(aW:World)(aC:Change):Option (World×Int):=
 ((bW aW.Places aC.Code).bind fun x1=>((at' aW.Places x1).bind fun x2=>((gF x2.Names aC.Language aC.Year aC.Text).bind fun x3=>(bif(x3.2 !=0)then some (aW,x3.2)else((ed ([]:List Place) aW.Places).bind fun x4=>((at' x4 x1).bind fun x5=>some ((World.mk (List.set x4 (Int.toNat x1) (Place.mk x5.Code x5.Class x5.Years x3.1)) aW.Links),0)))))))
theorem nj(aW:World)(aC:Change)(r:World×Int)(h:fU aW aC=some r):aH Tryz.prog 69 [.v (.agg (tc ak aW)),.v (.agg (tc ap aC))] ⟨[.v (.agg (tc ak r.1)),.v (vi r.2)],[],true⟩:=by
 refine au Tryz.func69 rfl [(.cell 4 35),(.tmp 5)] rfl (fun r=>⟨[.v (.agg (tc ak r.1)),.v (vi r.2)],[],true⟩) (r:=r) ?_
 unfold fU at h
 refine az aa [2,3,4] [2,3,4] ?_
 refine sr ?_
 refine ab.cl aa 4 [2,3,4,11,13] [2,3,4] ?_
 obtain⟨x1,hx1,h⟩:=bind_some h
 refine ab.ls (xc lp (cv aW.Places aC.Code _ hx1)) ?_
 refine bO aa 1 [2,3,4,6] [2,3,4] ?_
 refine ac ?_
 refine cL mixed ?_
 refine aR.cl aa false 3 [2,3,4,6,17,18] [2,3,4] ?_
 obtain⟨x2,hx2,h⟩:=bind_some h
 refine aR.step (aG (L:=aW.Places) (f:=ad) (ti:=cP) (tj:=cd) (e:=91) (k:= .i64) aa rfl hx2) ?_
 refine aR.cl aa false 8 [2,4,6,21,23,25,27] [2,4] ?_
 obtain⟨x3,hx3,h⟩:=bind_some h
 refine aR.step (xc AB (n7 x2.Names aC.Language aC.Year aC.Text _ hx3)) ?_
 refine aR.cl aa false 5 [2,4,6,7,8] [2,4,28] ?_
 refine aR.nx ?_
 refine ac ?_
 refine az aa [2,4,6,7,8,32] [2,4,28] ?_
 refine ao h (fun h=> ?_) fun h=> ?_
 refine az aa [4,5] [4] ?_
 refine ag ?_
 obtain rfl:=inj h
 exact bw (aD (f2 (kV rfl (cI aa (d:=4) (cs:=[vl ad aW.Places,vl ae aW.Links]) (ti:=iN) (by kernel_rfl) (by kernel_rfl) (by kernel_rfl) (by kernel_rfl))) ft))
 refine ai ?_
 refine aY ?_
 refine sr ?_
 refine ab.ck aa 3 ⟨48,[(2,.ref 2 0),(4,.ref 4 0),(6,vi x1),(7,.own 28),(35,.own 35),(37,vl ad aW.Places)],[(2,.box (tc ak aW)),(4,.box [vl ad ([]:List Place),vl ae ([]:List aw)]),(28,oa 169 5 ar x3.1),(35,oa 91 5 ad ([]:List Place))]⟩ ?_
 obtain⟨x4,hx4,h⟩:=bind_some h
 refine ab.bx (bS (f:=ad) (t:=32) (ti:=cP) (tj:=cd) (zs:=[.string (ByteArray.mk #[]),.int .i64 0,.int .i64 0,.int .i64 0,.slice none 0 0]) (e:=91) (m:=5) (d:=35) (xv:=vl ad aW.Places) hx4 aa rfl rfl rfl rfl (oe (fun _=>rfl))) ?_
 refine bO aa 1 [2,4,6,7,9] [2,4,28,38] ?_
 refine sr ?_
 refine ab.cl aa 3 [2,4,9,39,40,41] [2,4,28,38] ?_
 obtain⟨x5,hx5,h⟩:=bind_some h
 refine ab.ls (bo (d:=38) (L:=x4) (f:=ad) (ti:=cP) (tj:=cd) (e:=91) (e':=91) (m:=5) (k:= .i64) aa rfl hx5) ?_
 refine ab.cl aa 1 [2,4,9,41,43] [2,4,28,38] ?_
 refine ab.le (Le.rG (d:=28) (e:=169) (m:=5) (n:=x3.1.length) (es:=x3.1.map ar) (by kernel_rfl) (by kernel_rfl)) ?_
 refine ab.bx (cC (d:=38) (m:=5) (j:=4) (L:=x4) (f:=ad) (x:=(Place.mk x5.Code x5.Class x5.Years x3.1)) (z:=x5) (ti:=dd) (e:=91) (ts:=[.sl x3.1.length (x3.1.map ar)]) (vs:=[vl ar x3.1]) (v:=vl ar x3.1) aa rfl rfl hx5) ?_
 refine ab.nx ?_
 refine sr ?_
 refine ab.cl aa 3 [4,44,46] [4,38] ?_
 refine ab.ls (bk (v:= .agg [.own 38,vl ae aW.Links]) aa rfl) ?_
 refine bO aa 2 [4,5] [4,38] ?_
 refine cM (Le.rG (d:=38) (e:=91) (m:=5) (n:=(List.set x4 (Int.toNat x1) (Place.mk x5.Code x5.Class x5.Years x3.1)).length) (es:=(List.set x4 (Int.toNat x1) (Place.mk x5.Code x5.Class x5.Years x3.1)).map ad) (by kernel_rfl) (by kernel_rfl)) ?_
 refine ag ?_
 obtain rfl:=inj h
 exact aD (f2 (kV rfl (cI aa (d:=4) (cs:=[vl ad (List.set x4 (Int.toNat x1) (Place.mk x5.Code x5.Class x5.Years x3.1)),vl ae aW.Links]) (ti:=iN) (by kernel_rfl) (by kernel_rfl) (by kernel_rfl) (by kernel_rfl))) ft)
theorem Cs:a8 Tryz.prog 69:=ax Tryz.func69 (by kernel_rfl) rfl
noncomputable def eb(aW:World)(aE:ByteArray)(jw:ByteArray)(an:Int):Option ((List aw)):=
 ((bW aW.Places aE).bind fun x1=>((at' aW.Places x1).bind fun x2=>((bW aW.Places jw).bind fun x3=>((at' aW.Places x3).bind fun x4=>(((jx (aW.Links.length:Int) (fun(i7:Int) (s7:Int×(List aw))=>((at' aW.Links i7).bind fun x11=>(((bif(x11.Child.toList==aE.toList)then(bif(decide (x11.Years.From>an))then some ((cw s7.1 (aJ (x11.Years.From - 1))),x11)else some (s7.1,(aw.mk x11.Child x11.Parent (Span.mk x11.Years.From (cw x11.Years.To (aJ (an - 1)))))))else some (s7.1,x11))).bind fun(j12:Int×aw)=>(bif(decide (j12.2.Years.From≤j12.2.Years.To))then((ed s7.2 ([j12.2]:List aw)).bind fun x14=>some (j12.1,x14))else some (j12.1,s7.2))))) (fun(s7:Int×(List aw))=>(s7.1,s7.2)) 0 ((cw x2.Years.To x4.Years.To),([]:List aw)))).bind fun(j5:Int×(List aw))=>((ed j5.2 ([(aw.mk aE jw (Span.mk an j5.1))]:List aw)).bind fun x15=>some x15))))))
theorem lg(aW:World)(aE:ByteArray)(jw:ByteArray)(an:Int)(r:(List aw))(h:eb aW aE jw an=some r):aH Tryz.prog 71 [.v (.agg (tc ak aW)),.v (vs aE),.v (vs jw),.v (vi an)] ⟨[.v (vl ae r)],[],true⟩:=by
 refine au Tryz.func71 rfl [(.tmp 8)] rfl (fun r=>⟨[.v (vl ae r)],[],true⟩) (r:=r) ?_
 unfold eb at h
 refine az aa [1,2,3,4] [4] ?_
 refine ac ?_
 refine cL mixed ?_
 refine aR.cl aa false 5 [1,2,3,4,16,18,19] [4] ?_
 obtain⟨x1,hx1,h⟩:=bind_some h
 refine aR.step (xc lp (cv aW.Places aE _ hx1)) ?_
 obtain⟨x2,hx2,h⟩:=bind_some h
 refine aR.step (aG (L:=aW.Places) (f:=ad) (ti:=cP) (tj:=cd) (e:=91) (k:= .i64) aa rfl hx2) ?_
 refine aR.cl aa false 6 [1,2,3,4,22,24,26,27] [4] ?_
 obtain⟨x3,hx3,h⟩:=bind_some h
 refine aR.step (xc lp (cv aW.Places jw _ hx3)) ?_
 obtain⟨x4,hx4,h⟩:=bind_some h
 refine aR.step (aG (L:=aW.Places) (f:=ad) (ti:=cP) (tj:=cd) (e:=91) (k:= .i64) aa rfl hx4) ?_
 refine aR.cl aa false 3 [1,2,3,4,9,10,22,30] [4,9,10] ?_
 refine aR.Ac [9] (vL (d:=9) (k:=0) (ti:=cd) (cs:=[vs (ByteArray.mk #[]),vi 0,vi 0,vi 0,vl ar ([]:List Name)]) (vs:=[vs x2.Code,vi x2.Class,vi x2.Years.From,vi x2.Years.To,vl ar x2.Names]) (v:= .agg (tc ad x2)) aa rfl rfl) ?_
 refine aR.seq (by kernel_rfl) (by kernel_rfl) ?_
 refine bO aa 1 [1,2,3,4,9,10] [4,9,10] ?_
 refine az aa [1,2,3,4,11] [4] ?_
 refine az aa [1,2,3,4,11,12] [4,38] ?_
 refine ac ?_
 refine az aa [1,2,3,4,11,12,13] [4,38] ?_
 refine a7 h (fun j5=>⟨97,[(1,vs aE),(2,vs jw),(3,vi an),(11,vi j5.1),(12,.own 12)],[(12,oa 85 4 ae j5.2)]⟩) (fun v6 h=> ?_) (fun j5 h=> ?_)
 refine ay (a:=v6) ?_
 refine a6 (r:=v6) (s:=(0,(cw x2.Years.To x4.Years.To),([]:List aw))) _ (fun s7=>⟨97,[(1,vs aE),(2,vs jw),(3,vi an),(4,.ref 4 0),(11,vi s7.2.1),(12,.own 12),(13,vi s7.1)],[(4,.box (tc ak aW)),(12,oa 85 4 ae s7.2.2)]⟩) _ (Le.rr [4,38] [(38,12)]) h (fun s7 v8 h=> ?_)
 refine ac ?_
 refine az aa [1,2,3,4,11,12,13,43] [4,12] ?_
 refine ao h (fun h=> ?_) fun h=> ?_
 refine ai ?_
 refine aY ?_
 refine ac ?_
 refine a7 h (fun j9=>⟨97,[(1,vs aE),(2,vs jw),(3,vi an),(4,.ref 4 0),(11,vi j9.1),(12,.own 12),(13,vi s7.1)],[(4,.box (tc ak aW)),(12,oa 85 4 ae j9.2)]⟩) (fun v10 h=> ?_) (fun j9 h=> ?_)
 refine ay (a:=v10) ?_
 refine sr ?_
 refine ab.cl aa 3 [1,2,3,4,11,12,13,47,48] [4,12] ?_
 obtain⟨x11,hx11,h⟩:=bind_some h
 refine ab.ls (aG (L:=aW.Links) (f:=ae) (ti:=dp) (tj:=dq) (e:=85) (k:= .i64) aa rfl hx11) ?_
 refine bO aa 3 [1,2,3,4,11,12,13,14] [4,12,14] ?_
 refine ac ?_
 refine az aa [1,2,3,4,11,12,13,14,54] [4,12,14] ?_
 refine a7 h (fun j12=>⟨97,[(1,vs aE),(2,vs jw),(3,vi an),(4,.ref 4 0),(11,vi j12.1),(12,.own 12),(13,vi s7.1),(14,.ref 14 0)],[(4,.box (tc ak aW)),(12,oa 85 4 ae s7.2.2),(14,.box (tc ae j12.2))]⟩) (fun v13 h=> ?_) (fun j12 h=> ?_)
 refine ao h (fun h=> ?_) fun h=> ?_
 refine az aa [1,2,3,4,11,12,13,14,59] [4,12,14] ?_
 refine ao h (fun h=> ?_) fun h=> ?_
 refine aF ?_
 refine ab.cl aa 7 [1,2,3,4,11,12,13,14] [4,12,14] ?_
 refine ab.nil ?_
 obtain rfl:=inj h
 exact fu (Le.aq)
 refine aF ?_
 refine ab.cl aa 9 [1,2,3,4,11,12,13,14,68,74] [4,12,14] ?_
 refine ab.ls (bk (v:= .agg [vi x11.Years.From,vi (cw x11.Years.To (aJ (an - 1)))]) aa rfl) ?_
 refine ab.cl aa 2 [1,2,3,4,11,12,13,14] [4,12,14] ?_
 refine ab.nil ?_
 obtain rfl:=inj h
 exact fu (Le.aq)
 refine ai ?_
 obtain rfl:=inj h
 exact fu (Le.aq)
 refine az aa [1,2,3,4,11,12,13,14,83] [4,12,14] ?_
 refine ao h (fun h=> ?_) fun h=> ?_
 refine aF ?_
 refine ab.cl aa 3 [1,2,3,4,11,13,84,86] [4,12,86] ?_
 obtain⟨x14,hx14,h⟩:=bind_some h
 refine ab.bx (bS (f:=ae) (t:=33) (ti:=dp) (tj:=dq) (zs:=[.string (ByteArray.mk #[]),.string (ByteArray.mk #[]),.int .i64 0,.int .i64 0]) (e:=85) (m:=4) (d:=12) (xv:= .own 86) hx14 aa rfl rfl rfl rfl (dC (e:=85))) ?_
 refine ab.cl aa 1 [1,2,3,4,11,12,13] [4,87] ?_
 refine ab.nil ?_
 obtain rfl:=inj h
 exact bT (fu (Le.rr [4,87] [(87,12)]))
 refine ai ?_
 obtain rfl:=inj h
 exact bT (fu (Le.aq))
 refine aF ?_
 refine ab.cl aa 3 [1,2,3,4,11,12,13] [4,12] ?_
 refine ab.nil ?_
 obtain rfl:=inj h
 exact bZ (Le.aq)
 refine aQ ?_
 obtain rfl:=inj h
 exact cD (cF (cE (fu (Le.aq))))
 refine sr ?_
 refine ab.ck aa 5 ⟨97,[(88,.own 12),(89,vs aE),(90,vs jw),(91,vi an),(92,vi j5.1)],[(12,oa 85 4 ae j5.2)]⟩ ?_
 refine ab.ls (bk (v:= .agg [vi an,vi j5.1]) aa rfl) ?_
 refine ab.ls (bk (v:= .agg [vs aE,vs jw,vi an,vi j5.1]) aa rfl) ?_
 refine ab.cl aa 1 [88,95] [12,95] ?_
 obtain⟨x15,hx15,h⟩:=bind_some h
 refine ab.bx (bS (f:=ae) (t:=33) (ti:=dp) (tj:=dq) (zs:=[.string (ByteArray.mk #[]),.string (ByteArray.mk #[]),.int .i64 0,.int .i64 0]) (e:=85) (m:=4) (d:=12) (xv:= .own 95) hx15 aa rfl rfl rfl rfl (dC (e:=85))) ?_
 refine bO aa 1 [8] [96] ?_
 refine cM (Le.rG (d:=96) (e:=85) (m:=4) (n:=x15.length) (es:=x15.map ae) (by kernel_rfl) (by kernel_rfl)) ?_
 refine ag ?_
 obtain rfl:=inj h
 exact aD (f1 ft)
theorem zd:a8 Tryz.prog 71:=ax Tryz.func71 (by kernel_rfl) rfl
noncomputable def dH(aW:World)(ln:(List aw)):Option (World×Int):=
 (bif(decide ((ln.length:Int)>20))then some (aW,3)else((ej ln).bind fun x1=>(bif(!x1)then some (aW,5)else some ((World.mk aW.Places ln),0))))
theorem kI(aW:World)(ln:(List aw))(r:World×Int)(h:dH aW ln=some r):aH Tryz.prog 70 [.v (.agg (tc ak aW)),.v (vl ae ln)] ⟨[.v (.agg (tc ak r.1)),.v (vi r.2)],[],true⟩:=by
 refine au Tryz.func70 rfl [(.cell 4 35),(.tmp 5)] rfl (fun r=>⟨[.v (.agg (tc ak r.1)),.v (vi r.2)],[],true⟩) (r:=r) ?_
 unfold dH at h
 refine az aa [1,2,4] [2,4] ?_
 refine ac ?_
 refine az aa [1,2,4,8] [2,4] ?_
 refine ao h (fun h=> ?_) fun h=> ?_
 refine az aa [4,5] [4] ?_
 refine ag ?_
 obtain rfl:=inj h
 exact bw (aD (f2 (kV rfl (cI aa (d:=4) (cs:=[vl ad aW.Places,vl ae aW.Links]) (ti:=iN) (by kernel_rfl) (by kernel_rfl) (by kernel_rfl) (by kernel_rfl))) ft))
 refine ai ?_
 refine aY ?_
 refine ac ?_
 refine sr ?_
 refine ab.cl aa 1 [1,2,4,10] [2,4] ?_
 obtain⟨x1,hx1,h⟩:=bind_some h
 refine ab.ls (xc vY (iF ln _ hx1)) ?_
 refine bO aa 1 [1,2,4,12] [2,4] ?_
 refine ao h (fun h=> ?_) fun h=> ?_
 refine az aa [4,5] [4] ?_
 refine ag ?_
 obtain rfl:=inj h
 exact bw (aD (f2 (kV rfl (cI aa (d:=4) (cs:=[vl ad aW.Places,vl ae aW.Links]) (ti:=iN) (by kernel_rfl) (by kernel_rfl) (by kernel_rfl) (by kernel_rfl))) ft))
 refine ai ?_
 refine aY ?_
 refine sr ?_
 refine ab.cl aa 3 [4,15,16] [4] ?_
 refine ab.ls (bk (v:= .agg [vl ad aW.Places,vl ae ln]) aa rfl) ?_
 refine bO aa 2 [4,5] [4] ?_
 refine ag ?_
 obtain rfl:=inj h
 exact aD (f2 (kV rfl (cI aa (d:=4) (cs:=[vl ad aW.Places,vl ae ln]) (ti:=iN) (by kernel_rfl) (by kernel_rfl) (by kernel_rfl) (by kernel_rfl))) ft)
theorem zc:a8 Tryz.prog 70:=ax Tryz.func70 (by kernel_rfl) rfl
noncomputable def iL(ah:(List aw))(aE:ByteArray)(an:Int):Option (Int):=
 ((((ej ah).bind fun x1=>(bif(!x1)then some true else((cX aE).bind fun x2=>some (!x2))))).bind fun(j3:Bool)=>(bif j3 then some 1 else((cU an).bind fun x5=>(bif(!x5)then some 2 else some 0))))
theorem o2(ah:(List aw))(aE:ByteArray)(an:Int)(r:Int)(h:iL ah aE an=some r):aH Tryz.prog 128 [.v (vl ae ah),.v (vs aE),.v (vi an)] ⟨[.v (vi r)],[],false⟩:=by
 refine au Tryz.func128 rfl [(.tmp 6)] rfl (fun r=>⟨[.v (vi r)],[],false⟩) (r:=r) ?_
 unfold iL at h
 refine az aa [0,1,2] [] ?_
 refine ac ?_
 refine ac ?_
 refine bj h (fun j3=>⟨18,[(2,vi an),(14,vb j3)],[]⟩) (fun v4 h=> ?_) (fun j3 h=> ?_)
 refine ab.cl aa 1 [1,2,7] [] ?_
 obtain⟨x1,hx1,h⟩:=bind_some h
 refine ab.ls (xc vY (iF ah _ hx1)) ?_
 refine ab.cl aa 2 [1,2,10] [] ?_
 refine ab.cu [(10,fun b=>b)] h (fun h=> ?_) fun h=> ?_
 refine ab.cl aa 4 [2,14] [] ?_
 refine ab.nil ?_
 obtain rfl:=inj h
 exact Le.aq
 refine ab.cl aa 1 [2,10,11] [] ?_
 obtain⟨x2,hx2,h⟩:=bind_some h
 refine ab.ls (xc ky (cY aE _ hx2)) ?_
 refine ab.cl aa 2 [2,14] [] ?_
 refine ab.nil ?_
 obtain rfl:=inj h
 exact Le.aq
 refine ao h (fun h=> ?_) fun h=> ?_
 refine iR aa ⟨18,[(6,vi 1)],[]⟩ ?_
 refine ag ?_
 obtain rfl:=inj h
 exact bw (aD (f1 fv))
 refine ai ?_
 refine aY ?_
 refine ac ?_
 refine sr ?_
 refine ab.cl aa 1 [15] [] ?_
 obtain⟨x5,hx5,h⟩:=bind_some h
 refine ab.ls (xc nF (eK an _ hx5)) ?_
 refine bO aa 1 [17] [] ?_
 refine ao h (fun h=> ?_) fun h=> ?_
 refine iR aa ⟨18,[(6,vi 2)],[]⟩ ?_
 refine ag ?_
 obtain rfl:=inj h
 exact bw (aD (f1 fv))
 refine ai ?_
 refine aY ?_
 refine iR aa ⟨18,[(6,vi 0)],[]⟩ ?_
 refine ag ?_
 obtain rfl:=inj h
 exact aD (f1 fv)
theorem AD:a8 Tryz.prog 128:=ax Tryz.func128 (by kernel_rfl) rfl
noncomputable def db(ah:(List ByteArray))(aS:ByteArray):Option ((List ByteArray)):=
 (((loop (fun(s3:Int)=>(((bif(decide (s3<(ah.length:Int)))then((at' ah s3).bind fun x5=>some (Op.bytesLess x5.toList aS.toList))else some false)).bind fun(j6:Bool)=>(bif j6 then some (.inl (aJ (s3+1)))else some (.inr s3)))) 0)).bind fun(j1:Int)=>(((bif(decide (j1<(ah.length:Int)))then((at' ah j1).bind fun x8=>some (x8.toList==aS.toList))else some false)).bind fun(j9:Bool)=>(bif j9 then some ah else((mS ah 0 j1).bind fun x11=>((ed ([]:List ByteArray) x11).bind fun x12=>((ed x12 ([aS]:List ByteArray)).bind fun x13=>((mS ah j1 (ah.length:Int)).bind fun x14=>((ed x13 x14).bind fun x15=>some x15))))))))
theorem kr(ah:(List ByteArray))(aS:ByteArray)(r:(List ByteArray))(h:db ah aS=some r):aH Tryz.prog 178 [.v (vl eS ah),.v (vs aS)] ⟨[.v (vl eS r)],[],true⟩:=by
 refine au Tryz.func178 rfl [(.tmp 4)] rfl (fun r=>⟨[.v (vl eS r)],[],true⟩) (r:=r) ?_
 unfold db at h
 refine az aa [0,1] [] ?_
 refine az aa [0,1,5] [] ?_
 refine ac ?_
 refine a7 h (fun j1=>⟨45,[(0,vl eS ah),(1,vs aS),(5,vi j1)],[]⟩) (fun v2 h=> ?_) (fun j1 h=> ?_)
 refine ay (a:=v2) ?_
 refine a6 (r:=v2) (s:=0) _ (fun s3=>⟨45,[(0,vl eS ah),(1,vs aS),(5,vi s3)],[]⟩) _ (Le.aq) h (fun s3 v4 h=> ?_)
 refine ac ?_
 refine ac ?_
 refine bj h (fun j6=>⟨45,[(0,vl eS ah),(1,vs aS),(5,vi s3),(17,vb j6)],[]⟩) (fun v7 h=> ?_) (fun j6 h=> ?_)
 refine ab.cl aa 5 [0,1,5,10] [] ?_
 refine ab.cu [(10,fun b=>b)] h (fun h=> ?_) fun h=> ?_
 refine ab.cl aa 2 [0,1,5,10,11,12] [] ?_
 obtain⟨x5,hx5,h⟩:=bind_some h
 refine ab.ls (aG (L:=ah) (f:=eS) (ti:=cy) (tj:=gH) (e:=9) (k:= .i64) aa rfl hx5) ?_
 refine ab.cl aa 4 [0,1,5,17] [] ?_
 refine ab.nil ?_
 obtain rfl:=inj h
 exact Le.aq
 refine ab.cl aa 7 [0,1,5,17] [] ?_
 refine ab.nil ?_
 obtain rfl:=inj h
 exact Le.aq
 refine ao h (fun h=> ?_) fun h=> ?_
 refine ai ?_
 refine aY ?_
 refine ay (a:=v4) ?_
 refine aF ?_
 refine ab.cl aa 3 [0,1,5] [] ?_
 refine ab.nil ?_
 obtain rfl:=inj h
 exact bT (bZ (Le.aq))
 refine aQ ?_
 obtain rfl:=inj h
 exact cD (cF (cE (fu (Le.aq))))
 refine ac ?_
 refine ac ?_
 refine bj h (fun j9=>⟨45,[(0,vl eS ah),(1,vs aS),(5,vi j1),(31,vb j9)],[]⟩) (fun v10 h=> ?_) (fun j9 h=> ?_)
 refine ab.cl aa 5 [0,1,5,24] [] ?_
 refine ab.cu [(24,fun b=>b)] h (fun h=> ?_) fun h=> ?_
 refine ab.cl aa 2 [0,1,5,24,25,26] [] ?_
 obtain⟨x8,hx8,h⟩:=bind_some h
 refine ab.ls (aG (L:=ah) (f:=eS) (ti:=cy) (tj:=gH) (e:=9) (k:= .i64) aa rfl hx8) ?_
 refine ab.cl aa 4 [0,1,5,31] [] ?_
 refine ab.nil ?_
 obtain rfl:=inj h
 exact Le.aq
 refine ab.cl aa 7 [0,1,5,31] [] ?_
 refine ab.nil ?_
 obtain rfl:=inj h
 exact Le.aq
 refine ao h (fun h=> ?_) fun h=> ?_
 refine az aa [4] [] ?_
 refine ag ?_
 obtain rfl:=inj h
 exact bw (aD (f1 ft))
 refine ai ?_
 refine aY ?_
 refine ac ?_
 obtain⟨x11,hx11,h⟩:=bind_some h
 obtain⟨x12,hx12,h⟩:=bind_some h
 obtain⟨x13,hx13,h⟩:=bind_some h
 obtain⟨x14,hx14,h⟩:=bind_some h
 obtain⟨x15,hx15,h⟩:=bind_some h
 refine cL mixed ?_
 refine aR.wc (σE:=⟨45,[(4,.own 44)],[(44,oa 9 1 eS x15)]⟩) (n:=13) (L0:=(bA 13 0)) (by kernel_rfl) (by kernel_rfl) (fun K hk=> ?_) ?_
 refine DE.sh 0 (bA 13 8191) ⟨45,[(4,.own 44)],[(44,oa 9 1 eS x15)]⟩ ?_ fun d28=> ?_
 exact DE.done (by kernel_rfl) hk
 refine DE.sh 1 (bA 13 4095) ⟨45,[(44,.own 44)],[(44,oa 9 1 eS x15)]⟩ ?_ fun d27=> ?_
 exact DE.tk 12 d28 rfl (.inr rfl) (aj.n aa)
 refine DE.sh 2 (bA 13 2047) ⟨45,[(40,.own 40),(43,vl eS x14)],[(40,oa 9 1 eS x13)]⟩ ?_ fun d26=> ?_
 exact DE.a1 11 d27 rfl (aj.le (bS (f:=eS) (t:=106) (ti:=cy) (tj:=gH) (zs:=[.string (ByteArray.mk #[])]) (e:=9) (m:=1) (d:=40) (xv:=vl eS x14) hx15 aa rfl rfl rfl rfl (oe (fun _=>rfl))) Le.aq)
 refine DE.sh 3 (bA 13 1919) ⟨45,[(37,.own 37),(39,.own 39),(43,vl eS x14)],[(37,oa 9 1 eS x12),(39,oa 9 1 eS ([aS]:List ByteArray))]⟩ ?_ fun d25=> ?_
 exact DE.a1 7 d26 rfl (aj.le (bS (f:=eS) (t:=106) (ti:=cy) (tj:=gH) (zs:=[.string (ByteArray.mk #[])]) (e:=9) (m:=1) (d:=37) (xv:= .own 39) hx13 aa rfl rfl rfl rfl (dC (e:=9))) Le.aq)
 refine DE.sh 3 (bA 13 1023) ⟨45,[(40,.own 40),(41,vl eS ah),(42,vi j1)],[(40,oa 9 1 eS x13)]⟩ ?_ fun d24=> ?_
 exact DE.a1 10 d26 rfl (aj.l (c9 (m:=1) (f:=eS) (ti:=cy) (tj:=gH) (e:=9) hx14 (fun _=>rfl) aa rfl))
 refine DE.sh 4 (bA 13 1903) ⟨45,[(33,.own 33),(36,vl eS x11),(39,.own 39),(43,vl eS x14)],[(33,oa 9 1 eS ([]:List ByteArray)),(39,oa 9 1 eS ([aS]:List ByteArray))]⟩ ?_ fun d23=> ?_
 exact DE.a1 4 d25 rfl (aj.le (bS (f:=eS) (t:=106) (ti:=cy) (tj:=gH) (zs:=[.string (ByteArray.mk #[])]) (e:=9) (m:=1) (d:=33) (xv:=vl eS x11) hx12 aa rfl rfl rfl rfl (oe (fun _=>rfl))) Le.aq)
 refine DE.sh 4 (bA 13 1855) ⟨45,[(37,.own 37),(38,vs aS),(43,vl eS x14)],[(37,oa 9 1 eS x12)]⟩ ?_ fun d22=> ?_
 exact DE.a1 6 d25 rfl (aj.n aa)
 refine DE.sh 4 (bA 13 895) ⟨45,[(37,.own 37),(39,.own 39),(41,vl eS ah),(42,vi j1)],[(37,oa 9 1 eS x12),(39,oa 9 1 eS ([aS]:List ByteArray))]⟩ ?_ fun d21=> ?_
 exact DE.al (.c 7 d24 rfl (aj.le (bS (f:=eS) (t:=106) (ti:=cy) (tj:=gH) (zs:=[.string (ByteArray.mk #[])]) (e:=9) (m:=1) (d:=37) (xv:= .own 39) hx13 aa rfl rfl rfl rfl (dC (e:=9))) Le.aq) (.c 10 d25 rfl (aj.l (c9 (m:=1) (f:=eS) (ti:=cy) (tj:=gH) (e:=9) hx14 (fun _=>rfl) aa rfl)) .n))
 refine DE.sh 5 (bA 13 1902) ⟨45,[(36,vl eS x11),(39,.own 39),(43,vl eS x14)],[(39,oa 9 1 eS ([aS]:List ByteArray))]⟩ ?_ fun d20=> ?_
 exact DE.a1 0 d23 rfl (aj.n aa)
 refine DE.sh 5 (bA 13 1895) ⟨45,[(33,.own 33),(34,vl eS ah),(35,vi j1),(39,.own 39),(43,vl eS x14)],[(33,oa 9 1 eS ([]:List ByteArray)),(39,oa 9 1 eS ([aS]:List ByteArray))]⟩ ?_ fun d19=> ?_
 exact DE.a1 3 d23 rfl (aj.l (c9 (m:=1) (f:=eS) (ti:=cy) (tj:=gH) (e:=9) hx11 (fun _=>rfl) aa rfl))
 refine DE.sh 5 (bA 13 1839) ⟨45,[(33,.own 33),(36,vl eS x11),(38,vs aS),(43,vl eS x14)],[(33,oa 9 1 eS ([]:List ByteArray))]⟩ ?_ fun d18=> ?_
 exact DE.al (.c 4 d22 rfl (aj.le (bS (f:=eS) (t:=106) (ti:=cy) (tj:=gH) (zs:=[.string (ByteArray.mk #[])]) (e:=9) (m:=1) (d:=33) (xv:=vl eS x11) hx12 aa rfl rfl rfl rfl (oe (fun _=>rfl))) Le.aq) (.c 6 d23 rfl (aj.n aa) .n))
 refine DE.sh 5 (bA 13 879) ⟨45,[(33,.own 33),(36,vl eS x11),(39,.own 39),(41,vl eS ah),(42,vi j1)],[(33,oa 9 1 eS ([]:List ByteArray)),(39,oa 9 1 eS ([aS]:List ByteArray))]⟩ ?_ fun d17=> ?_
 exact DE.al (.c 4 d21 rfl (aj.le (bS (f:=eS) (t:=106) (ti:=cy) (tj:=gH) (zs:=[.string (ByteArray.mk #[])]) (e:=9) (m:=1) (d:=33) (xv:=vl eS x11) hx12 aa rfl rfl rfl rfl (oe (fun _=>rfl))) Le.aq) (.c 10 d23 rfl (aj.l (c9 (m:=1) (f:=eS) (ti:=cy) (tj:=gH) (e:=9) hx14 (fun _=>rfl) aa rfl)) .n))
 refine DE.sh 5 (bA 13 831) ⟨45,[(37,.own 37),(38,vs aS),(41,vl eS ah),(42,vi j1)],[(37,oa 9 1 eS x12)]⟩ ?_ fun d16=> ?_
 exact DE.al (.c 6 d21 rfl (aj.n aa) (.c 10 d22 rfl (aj.l (c9 (m:=1) (f:=eS) (ti:=cy) (tj:=gH) (e:=9) hx14 (fun _=>rfl) aa rfl)) .n))
 refine DE.sh 6 (bA 13 1894) ⟨45,[(34,vl eS ah),(35,vi j1),(39,.own 39),(43,vl eS x14)],[(39,oa 9 1 eS ([aS]:List ByteArray))]⟩ ?_ fun d15=> ?_
 exact DE.al (.c 0 d19 rfl (aj.n aa) (.c 3 d20 rfl (aj.l (c9 (m:=1) (f:=eS) (ti:=cy) (tj:=gH) (e:=9) hx11 (fun _=>rfl) aa rfl)) .n))
 refine DE.sh 6 (bA 13 1838) ⟨45,[(36,vl eS x11),(38,vs aS),(43,vl eS x14)],[]⟩ ?_ fun d14=> ?_
 exact DE.al (.c 0 d18 rfl (aj.n aa) (.c 6 d20 rfl (aj.n aa) .n))
 refine DE.sh 6 (bA 13 878) ⟨45,[(36,vl eS x11),(39,.own 39),(41,vl eS ah),(42,vi j1)],[(39,oa 9 1 eS ([aS]:List ByteArray))]⟩ ?_ fun d13=> ?_
 exact DE.al (.c 0 d17 rfl (aj.n aa) (.c 10 d20 rfl (aj.l (c9 (m:=1) (f:=eS) (ti:=cy) (tj:=gH) (e:=9) hx14 (fun _=>rfl) aa rfl)) .n))
 refine DE.sh 6 (bA 13 1831) ⟨45,[(33,.own 33),(34,vl eS ah),(35,vi j1),(38,vs aS),(43,vl eS x14)],[(33,oa 9 1 eS ([]:List ByteArray))]⟩ ?_ fun d12=> ?_
 exact DE.al (.c 3 d18 rfl (aj.l (c9 (m:=1) (f:=eS) (ti:=cy) (tj:=gH) (e:=9) hx11 (fun _=>rfl) aa rfl)) (.c 6 d19 rfl (aj.n aa) .n))
 refine DE.sh 6 (bA 13 871) ⟨45,[(33,.own 33),(34,vl eS ah),(35,vi j1),(39,.own 39),(41,vl eS ah),(42,vi j1)],[(33,oa 9 1 eS ([]:List ByteArray)),(39,oa 9 1 eS ([aS]:List ByteArray))]⟩ ?_ fun d11=> ?_
 exact DE.al (.c 3 d17 rfl (aj.l (c9 (m:=1) (f:=eS) (ti:=cy) (tj:=gH) (e:=9) hx11 (fun _=>rfl) aa rfl)) (.c 10 d19 rfl (aj.l (c9 (m:=1) (f:=eS) (ti:=cy) (tj:=gH) (e:=9) hx14 (fun _=>rfl) aa rfl)) .n))
 refine DE.sh 6 (bA 13 815) ⟨45,[(33,.own 33),(36,vl eS x11),(38,vs aS),(41,vl eS ah),(42,vi j1)],[(33,oa 9 1 eS ([]:List ByteArray))]⟩ ?_ fun d10=> ?_
 exact DE.al (.c 4 d16 rfl (aj.le (bS (f:=eS) (t:=106) (ti:=cy) (tj:=gH) (zs:=[.string (ByteArray.mk #[])]) (e:=9) (m:=1) (d:=33) (xv:=vl eS x11) hx12 aa rfl rfl rfl rfl (oe (fun _=>rfl))) Le.aq) (.c 6 d17 rfl (aj.n aa) (.c 10 d18 rfl (aj.l (c9 (m:=1) (f:=eS) (ti:=cy) (tj:=gH) (e:=9) hx14 (fun _=>rfl) aa rfl)) .n)))
 refine DE.sh 7 (bA 13 1830) ⟨45,[(34,vl eS ah),(35,vi j1),(38,vs aS),(43,vl eS x14)],[]⟩ ?_ fun d9=> ?_
 exact DE.al (.c 0 d12 rfl (aj.n aa) (.c 3 d14 rfl (aj.l (c9 (m:=1) (f:=eS) (ti:=cy) (tj:=gH) (e:=9) hx11 (fun _=>rfl) aa rfl)) (.c 6 d15 rfl (aj.n aa) .n)))
 refine DE.sh 7 (bA 13 870) ⟨45,[(34,vl eS ah),(35,vi j1),(39,.own 39),(41,vl eS ah),(42,vi j1)],[(39,oa 9 1 eS ([aS]:List ByteArray))]⟩ ?_ fun d8=> ?_
 exact DE.al (.c 0 d11 rfl (aj.n aa) (.c 3 d13 rfl (aj.l (c9 (m:=1) (f:=eS) (ti:=cy) (tj:=gH) (e:=9) hx11 (fun _=>rfl) aa rfl)) (.c 10 d15 rfl (aj.l (c9 (m:=1) (f:=eS) (ti:=cy) (tj:=gH) (e:=9) hx14 (fun _=>rfl) aa rfl)) .n)))
 refine DE.sh 7 (bA 13 814) ⟨45,[(36,vl eS x11),(38,vs aS),(41,vl eS ah),(42,vi j1)],[]⟩ ?_ fun d7=> ?_
 exact DE.al (.c 0 d10 rfl (aj.n aa) (.c 6 d13 rfl (aj.n aa) (.c 10 d14 rfl (aj.l (c9 (m:=1) (f:=eS) (ti:=cy) (tj:=gH) (e:=9) hx14 (fun _=>rfl) aa rfl)) .n)))
 refine DE.sh 7 (bA 13 807) ⟨45,[(33,.own 33),(34,vl eS ah),(35,vi j1),(38,vs aS),(41,vl eS ah),(42,vi j1)],[(33,oa 9 1 eS ([]:List ByteArray))]⟩ ?_ fun d6=> ?_
 exact DE.al (.c 3 d10 rfl (aj.l (c9 (m:=1) (f:=eS) (ti:=cy) (tj:=gH) (e:=9) hx11 (fun _=>rfl) aa rfl)) (.c 6 d11 rfl (aj.n aa) (.c 10 d12 rfl (aj.l (c9 (m:=1) (f:=eS) (ti:=cy) (tj:=gH) (e:=9) hx14 (fun _=>rfl) aa rfl)) .n)))
 refine DE.sh 8 (bA 13 806) ⟨45,[(34,vl eS ah),(35,vi j1),(38,vs aS),(41,vl eS ah),(42,vi j1)],[]⟩ ?_ fun d5=> ?_
 exact DE.al (.c 0 d6 rfl (aj.n aa) (.c 3 d7 rfl (aj.l (c9 (m:=1) (f:=eS) (ti:=cy) (tj:=gH) (e:=9) hx11 (fun _=>rfl) aa rfl)) (.c 6 d8 rfl (aj.n aa) (.c 10 d9 rfl (aj.l (c9 (m:=1) (f:=eS) (ti:=cy) (tj:=gH) (e:=9) hx14 (fun _=>rfl) aa rfl)) .n))))
 refine DE.sh 9 (bA 13 294) ⟨45,[(5,vi j1),(34,vl eS ah),(35,vi j1),(38,vs aS),(41,vl eS ah)],[]⟩ ?_ fun d4=> ?_
 exact DE.tk 9 d5 rfl (.inl rfl) (aj.n aa)
 refine DE.sh 10 (bA 13 38) ⟨45,[(0,vl eS ah),(5,vi j1),(34,vl eS ah),(35,vi j1),(38,vs aS)],[]⟩ ?_ fun d3=> ?_
 exact DE.tk 8 d4 rfl (.inl rfl) (aj.n aa)
 refine DE.sh 11 (bA 13 6) ⟨45,[(0,vl eS ah),(1,vs aS),(5,vi j1),(34,vl eS ah),(35,vi j1)],[]⟩ ?_ fun d2=> ?_
 exact DE.tk 5 d3 rfl (.inl rfl) (aj.n aa)
 refine DE.sh 12 (bA 13 2) ⟨45,[(0,vl eS ah),(1,vs aS),(5,vi j1),(34,vl eS ah)],[]⟩ ?_ fun d1=> ?_
 exact DE.tk 2 d2 rfl (.inl rfl) (aj.n aa)
 exact DE.tk 1 d1 rfl (.inl rfl) (aj.n aa)
 refine aY ?_
 refine cM (Le.rG (d:=44) (e:=9) (m:=1) (n:=x15.length) (es:=x15.map eS) (by kernel_rfl) (by kernel_rfl)) ?_
 refine ag ?_
 obtain rfl:=inj h
 exact aD (f1 ft)
theorem w8:a8 Tryz.prog 178:=ax Tryz.func178 (by kernel_rfl) rfl
noncomputable def fT(ah:(List aw)):Option ((List ByteArray)):=
 (((jx (ah.length:Int) (fun(i3:Int) (s3:(List ByteArray))=>((at' ah i3).bind fun x7=>((db s3 x7.Child).bind fun x8=>((at' ah i3).bind fun x9=>((db x8 x9.Parent).bind fun x10=>some x10))))) (fun(s3:(List ByteArray))=>s3) 0 ([]:List ByteArray))).bind fun(j1:(List ByteArray))=>some j1)
theorem ni(ah:(List aw))(r:(List ByteArray))(h:fT ah=some r):aH Tryz.prog 129 [.v (vl ae ah)] ⟨[.v (vl eS r)],[],true⟩:=by
 refine au Tryz.func129 rfl [(.tmp 2)] rfl (fun r=>⟨[.v (vl eS r)],[],true⟩) (r:=r) ?_
 unfold fT at h
 refine az aa [0] [] ?_
 refine az aa [0,3] [5] ?_
 refine ac ?_
 refine az aa [0,3,4] [5] ?_
 refine a7 h (fun j1=>⟨26,[(3,vl eS j1)],[]⟩) (fun v2 h=> ?_) (fun j1 h=> ?_)
 refine ay (a:=v2) ?_
 refine cM (Le.rG (d:=5) (e:=9) (m:=1) (n:=([]:List ByteArray).length) (es:=([]:List ByteArray).map eS) (by kernel_rfl) (by kernel_rfl)) ?_
 refine a6 (r:=v2) (s:=(0,([]:List ByteArray))) _ (fun s3=>⟨26,[(0,vl ae ah),(3,vl eS s3.2),(4,vi s3.1)],[]⟩) _ (Le.aq) h (fun s3 v4 h=> ?_)
 refine ac ?_
 refine az aa [0,3,4,9] [] ?_
 refine ao h (fun h=> ?_) fun h=> ?_
 refine ai ?_
 refine aY ?_
 refine ac ?_
 refine a7 h (fun j5=>⟨26,[(0,vl ae ah),(3,vl eS j5),(4,vi s3.1)],[]⟩) (fun v6 h=> ?_) (fun j5 h=> ?_)
 refine ay (a:=v6) ?_
 refine cL mixed ?_
 refine aR.cl aa false 3 [0,4,12,13,14] [] ?_
 obtain⟨x7,hx7,h⟩:=bind_some h
 refine aR.step (aG (L:=ah) (f:=ae) (ti:=dp) (tj:=dq) (e:=85) (k:= .i64) aa rfl hx7) ?_
 refine aR.cl aa false 2 [0,4,12,17] [] ?_
 obtain⟨x8,hx8,h⟩:=bind_some h
 refine aR.step (xc w8 (kr s3.2 x7.Child _ hx8)) ?_
 refine aR.cl aa false 2 [0,4,18,19,20] [] ?_
 obtain⟨x9,hx9,h⟩:=bind_some h
 refine aR.step (aG (L:=ah) (f:=ae) (ti:=dp) (tj:=dq) (e:=85) (k:= .i64) aa rfl hx9) ?_
 refine aR.cl aa false 2 [0,4,18,23] [] ?_
 obtain⟨x10,hx10,h⟩:=bind_some h
 refine aR.step (xc w8 (kr x8 x9.Parent _ hx10)) ?_
 refine aR.cl aa false 1 [0,3,4] [] ?_
 refine aR.nil (by kernel_rfl) ?_
 obtain rfl:=inj h
 exact bT (fu (Le.aq))
 refine aF ?_
 refine ab.cl aa 3 [0,3,4] [] ?_
 refine ab.nil ?_
 obtain rfl:=inj h
 exact bZ (Le.aq)
 refine aQ ?_
 obtain rfl:=inj h
 exact cD (cF (cE (fu (Le.aq))))
 refine az aa [2] [] ?_
 refine ag ?_
 obtain rfl:=inj h
 exact aD (f1 ft)
theorem AE:a8 Tryz.prog 129:=ax Tryz.func129 (by kernel_rfl) rfl
noncomputable def fj(ah:(List aw))(aE:ByteArray)(an:Int):Option ((List ByteArray)×Int):=
 ((iL ah aE an).bind fun x1=>(bif(x1 !=0)then some (([]:List ByteArray),x1)else((fT ah).bind fun x2=>(((jx (x2.length:Int) (fun(i5:Int) (s5:(List ByteArray))=>((at' x2 i5).bind fun x9=>((dQ ah x9 an).bind fun x10=>(bif(x10.toList==aE.toList)then((at' x2 i5).bind fun x11=>((ed s5 ([x11]:List ByteArray)).bind fun x12=>some x12))else some s5)))) (fun(s5:(List ByteArray))=>s5) 0 ([]:List ByteArray))).bind fun(j3:(List ByteArray))=>some (j3,0)))))
theorem mL(ah:(List aw))(aE:ByteArray)(an:Int)(r:(List ByteArray)×Int)(h:fj ah aE an=some r):aH Tryz.prog 72 [.v (vl ae ah),.v (vs aE),.v (vi an)] ⟨[.own 9 1 r.1.length (r.1.map eS),.v (vi r.2)],[],false⟩:=by
 refine au Tryz.func72 rfl [(.tmp 6),(.tmp 7)] rfl (fun r=>⟨[.own 9 1 r.1.length (r.1.map eS),.v (vi r.2)],[],false⟩) (r:=r) ?_
 unfold fj at h
 refine az aa [0,1,2] [] ?_
 refine sr ?_
 refine ab.cl aa 3 [0,1,2,12,13,14] [] ?_
 obtain⟨x1,hx1,h⟩:=bind_some h
 refine ab.ls (xc AD (o2 ah aE an _ hx1)) ?_
 refine bO aa 1 [0,1,2,8] [] ?_
 refine ac ?_
 refine az aa [0,1,2,8,17] [] ?_
 refine ao h (fun h=> ?_) fun h=> ?_
 refine az aa [6,7] [6] ?_
 refine ag ?_
 obtain rfl:=inj h
 exact bw (aD (f2 (fo fC) fv))
 refine ai ?_
 refine aY ?_
 refine az aa [0,1,2,9] [19] ?_
 refine sr ?_
 refine ab.cl aa 1 [0,1,2,9,20] [19] ?_
 obtain⟨x2,hx2,h⟩:=bind_some h
 refine ab.ls (xc AE (ni ah _ hx2)) ?_
 refine bO aa 1 [0,1,2,9,10] [19] ?_
 refine ac ?_
 refine iR aa ⟨45,[(0,vl ae ah),(1,vs aE),(2,vi an),(9,.own 19),(10,vl eS x2),(11,vi 0)],[(19,oa 9 1 eS ([]:List ByteArray))]⟩ ?_
 refine a7 h (fun j3=>⟨45,[(9,.own 9)],[(9,oa 9 1 eS j3)]⟩) (fun v4 h=> ?_) (fun j3 h=> ?_)
 refine ay (a:=v4) ?_
 refine a6 (r:=v4) (s:=(0,([]:List ByteArray))) _ (fun s5=>⟨45,[(0,vl ae ah),(1,vs aE),(2,vi an),(9,.own 9),(10,vl eS x2),(11,vi s5.1)],[(9,oa 9 1 eS s5.2)]⟩) _ (Le.rr [19] [(19,9)]) h (fun s5 v6 h=> ?_)
 refine ac ?_
 refine az aa [0,1,2,9,10,11,25] [9] ?_
 refine ao h (fun h=> ?_) fun h=> ?_
 refine ai ?_
 refine aY ?_
 refine ac ?_
 refine a7 h (fun j7=>⟨45,[(0,vl ae ah),(1,vs aE),(2,vi an),(9,.own 9),(10,vl eS x2),(11,vi s5.1)],[(9,oa 9 1 eS j7)]⟩) (fun v8 h=> ?_) (fun j7 h=> ?_)
 refine ay (a:=v8) ?_
 refine sr ?_
 refine ab.cl aa 3 [0,1,2,9,10,11,28,29,30] [9] ?_
 obtain⟨x9,hx9,h⟩:=bind_some h
 refine ab.ls (aG (L:=x2) (f:=eS) (ti:=cy) (tj:=gH) (e:=9) (k:= .i64) aa rfl hx9) ?_
 refine ab.cl aa 2 [0,1,2,9,10,11,28,32,33] [9] ?_
 obtain⟨x10,hx10,h⟩:=bind_some h
 refine ab.ls (xc wZ (ku ah x9 an _ hx10)) ?_
 refine bO aa 2 [0,1,2,9,10,11,36] [9] ?_
 refine ao h (fun h=> ?_) fun h=> ?_
 refine aF ?_
 refine ab.cl aa 3 [0,1,2,10,11,37,38,39] [9] ?_
 obtain⟨x11,hx11,h⟩:=bind_some h
 refine ab.ls (aG (L:=x2) (f:=eS) (ti:=cy) (tj:=gH) (e:=9) (k:= .i64) aa rfl hx11) ?_
 refine ab.cl aa 2 [0,1,2,10,11,37,42] [9,42] ?_
 obtain⟨x12,hx12,h⟩:=bind_some h
 refine ab.bx (bS (f:=eS) (t:=106) (ti:=cy) (tj:=gH) (zs:=[.string (ByteArray.mk #[])]) (e:=9) (m:=1) (d:=9) (xv:= .own 42) hx12 aa rfl rfl rfl rfl (dC (e:=9))) ?_
 refine ab.cl aa 1 [0,1,2,9,10,11] [43] ?_
 refine ab.nil ?_
 obtain rfl:=inj h
 exact bT (fu (Le.rr [43] [(43,9)]))
 refine ai ?_
 obtain rfl:=inj h
 exact bT (fu (Le.aq))
 refine aF ?_
 refine ab.cl aa 3 [0,1,2,9,10,11] [9] ?_
 refine ab.nil ?_
 obtain rfl:=inj h
 exact bZ (Le.aq)
 refine aQ ?_
 obtain rfl:=inj h
 exact cD (cF (cE (fu (Le.aq))))
 refine az aa [6,7] [9] ?_
 refine ag ?_
 obtain rfl:=inj h
 exact aD (f2 (fo fC) fv)
theorem Ct:a8 Tryz.prog 72:=ax Tryz.func72 (by kernel_rfl) rfl
noncomputable def iK(ah:(List Place))(aE:ByteArray)(an:Int):Option (Int):=
 ((((dU ah).bind fun x1=>(bif(!x1)then some true else((cX aE).bind fun x2=>some (!x2))))).bind fun(j3:Bool)=>(bif j3 then some 1 else((cU an).bind fun x5=>(bif(!x5)then some 2 else((bW ah aE).bind fun x6=>(bif(decide (x6<0))then some 4 else some 0))))))
theorem o0(ah:(List Place))(aE:ByteArray)(an:Int)(r:Int)(h:iK ah aE an=some r):aH Tryz.prog 131 [.v (vl ad ah),.v (vs aE),.v (vi an)] ⟨[.v (vi r)],[],false⟩:=by
 refine au Tryz.func131 rfl [(.tmp 6)] rfl (fun r=>⟨[.v (vi r)],[],false⟩) (r:=r) ?_
 unfold iK at h
 refine az aa [0,1,2] [] ?_
 refine ac ?_
 refine ac ?_
 refine bj h (fun j3=>⟨22,[(0,vl ad ah),(1,vs aE),(2,vi an),(14,vb j3)],[]⟩) (fun v4 h=> ?_) (fun j3 h=> ?_)
 refine ab.cl aa 1 [0,1,2,7] [] ?_
 obtain⟨x1,hx1,h⟩:=bind_some h
 refine ab.ls (xc zb (jJ ah _ hx1)) ?_
 refine ab.cl aa 2 [0,1,2,10] [] ?_
 refine ab.cu [(10,fun b=>b)] h (fun h=> ?_) fun h=> ?_
 refine ab.cl aa 4 [0,1,2,14] [] ?_
 refine ab.nil ?_
 obtain rfl:=inj h
 exact Le.aq
 refine ab.cl aa 1 [0,1,2,10,11] [] ?_
 obtain⟨x2,hx2,h⟩:=bind_some h
 refine ab.ls (xc ky (cY aE _ hx2)) ?_
 refine ab.cl aa 2 [0,1,2,14] [] ?_
 refine ab.nil ?_
 obtain rfl:=inj h
 exact Le.aq
 refine ao h (fun h=> ?_) fun h=> ?_
 refine iR aa ⟨22,[(6,vi 1)],[]⟩ ?_
 refine ag ?_
 obtain rfl:=inj h
 exact bw (aD (f1 fv))
 refine ai ?_
 refine aY ?_
 refine ac ?_
 refine sr ?_
 refine ab.cl aa 1 [0,1,15] [] ?_
 obtain⟨x5,hx5,h⟩:=bind_some h
 refine ab.ls (xc nF (eK an _ hx5)) ?_
 refine bO aa 1 [0,1,17] [] ?_
 refine ao h (fun h=> ?_) fun h=> ?_
 refine iR aa ⟨22,[(6,vi 2)],[]⟩ ?_
 refine ag ?_
 obtain rfl:=inj h
 exact bw (aD (f1 fv))
 refine ai ?_
 refine aY ?_
 refine ac ?_
 refine sr ?_
 refine ab.cl aa 2 [18,19] [] ?_
 obtain⟨x6,hx6,h⟩:=bind_some h
 refine ab.ls (xc lp (cv ah aE _ hx6)) ?_
 refine bO aa 1 [21] [] ?_
 refine ao h (fun h=> ?_) fun h=> ?_
 refine iR aa ⟨22,[(6,vi 4)],[]⟩ ?_
 refine ag ?_
 obtain rfl:=inj h
 exact bw (aD (f1 fv))
 refine ai ?_
 refine aY ?_
 refine iR aa ⟨22,[(6,vi 0)],[]⟩ ?_
 refine ag ?_
 obtain rfl:=inj h
 exact aD (f1 fv)
theorem AF:a8 Tryz.prog 131:=ax Tryz.func131 (by kernel_rfl) rfl
noncomputable def jq(aP:Place)(an:Int):Option (Place):=
 (((jx (aP.Names.length:Int) (fun(i3:Int) (s3:(List Name))=>((at' aP.Names i3).bind fun x7=>(bif(decide (x7.Years.From≤(cw x7.Years.To (aJ (an - 1)))))then((ed s3 ([(Name.mk x7.Text x7.Language x7.Status (Span.mk x7.Years.From (cw x7.Years.To (aJ (an - 1)))))]:List Name)).bind fun x8=>some x8)else some s3))) (fun(s3:(List Name))=>s3) 0 ([]:List Name))).bind fun(j1:(List Name))=>some (Place.mk aP.Code aP.Class (Span.mk aP.Years.From (cw aP.Years.To (aJ (an - 1)))) j1))
theorem pY(aP:Place)(an:Int)(r:Place)(h:jq aP an=some r):aH Tryz.prog 132 [.v (.agg (tc ad aP)),.v (vi an)] ⟨[.part [vs r.Code,vi r.Class,vi r.Years.From,vi r.Years.To] [] (oa 169 5 ar r.Names)],[],false⟩:=by
 refine au Tryz.func132 rfl [(.cell 4 91)] rfl (fun r=>⟨[.part [vs r.Code,vi r.Class,vi r.Years.From,vi r.Years.To] [] (oa 169 5 ar r.Names)],[],false⟩) (r:=r) ?_
 unfold jq at h
 refine az aa [1,2,4] [2,4] ?_
 refine az aa [1,2,4,5] [2,4,8] ?_
 refine ac ?_
 refine az aa [1,2,4,5,6] [2,4,8] ?_
 refine a7 h (fun j1=>⟨59,[(1,vi an),(2,.ref 2 0),(4,.ref 4 0),(5,.own 5)],[(2,.box (tc ad aP)),(4,.box [vs (ByteArray.mk #[]),vi 0,vi 0,vi 0,vl ar ([]:List Name)]),(5,oa 169 5 ar j1)]⟩) (fun v2 h=> ?_) (fun j1 h=> ?_)
 refine ay (a:=v2) ?_
 refine a6 (r:=v2) (s:=(0,([]:List Name))) _ (fun s3=>⟨59,[(1,vi an),(2,.ref 2 0),(4,.ref 4 0),(5,.own 5),(6,vi s3.1)],[(2,.box (tc ad aP)),(4,.box [vs (ByteArray.mk #[]),vi 0,vi 0,vi 0,vl ar ([]:List Name)]),(5,oa 169 5 ar s3.2)]⟩) _ (Le.rr [2,4,8] [(8,5)]) h (fun s3 v4 h=> ?_)
 refine ac ?_
 refine az aa [1,2,4,5,6,13] [2,4,5] ?_
 refine ao h (fun h=> ?_) fun h=> ?_
 refine ai ?_
 refine aY ?_
 refine ac ?_
 refine a7 h (fun j5=>⟨59,[(1,vi an),(2,.ref 2 0),(4,.ref 4 0),(5,.own 5),(6,vi s3.1)],[(2,.box (tc ad aP)),(4,.box [vs (ByteArray.mk #[]),vi 0,vi 0,vi 0,vl ar ([]:List Name)]),(5,oa 169 5 ar j5)]⟩) (fun v6 h=> ?_) (fun j5 h=> ?_)
 refine ay (a:=v6) ?_
 refine sr ?_
 refine ab.cl aa 3 [1,2,4,5,6,17,18] [2,4,5] ?_
 obtain⟨x7,hx7,h⟩:=bind_some h
 refine ab.ls (aG (L:=aP.Names) (f:=ar) (ti:=dd) (tj:=cH) (e:=169) (k:= .i64) aa rfl hx7) ?_
 refine bO aa 3 [1,2,4,5,6,7] [2,4,5,7] ?_
 refine sr ?_
 refine ab.cl aa 9 [1,2,4,5,6,7,23,29] [2,4,5,7] ?_
 refine ab.ls (bk (v:= .agg [vi x7.Years.From,vi (cw x7.Years.To (aJ (an - 1)))]) aa rfl) ?_
 refine bO aa 2 [1,2,4,5,6,7] [2,4,5,7] ?_
 refine az aa [1,2,4,5,6,7,38] [2,4,5,7] ?_
 refine ao h (fun h=> ?_) fun h=> ?_
 refine aF ?_
 refine ab.cl aa 3 [1,2,4,6,39,41] [2,4,5,41] ?_
 obtain⟨x8,hx8,h⟩:=bind_some h
 refine ab.bx (bS (f:=ar) (t:=89) (ti:=dd) (tj:=cH) (zs:=[.string (ByteArray.mk #[]),.string (ByteArray.mk #[]),.int .i64 0,.int .i64 0,.int .i64 0]) (e:=169) (m:=5) (d:=5) (xv:= .own 41) hx8 aa rfl rfl rfl rfl (dC (e:=169))) ?_
 refine ab.cl aa 1 [1,2,4,5,6] [2,4,42] ?_
 refine ab.nil ?_
 obtain rfl:=inj h
 exact bT (fu (Le.rr [2,4,42] [(42,5)]))
 refine ai ?_
 obtain rfl:=inj h
 exact bT (fu (Le.aq))
 refine aF ?_
 refine ab.cl aa 3 [1,2,4,5,6] [2,4,5] ?_
 refine ab.nil ?_
 obtain rfl:=inj h
 exact bZ (Le.aq)
 refine aQ ?_
 obtain rfl:=inj h
 exact cD (cF (cE (fu (Le.aq))))
 refine sr ?_
 refine ab.ck aa 13 ⟨59,[(4,.ref 4 0),(5,.own 5),(44,vs aP.Code),(46,vi aP.Class),(49,vi aP.Years.From),(55,vi (cw aP.Years.To (aJ (an - 1))))],[(4,.box [vs (ByteArray.mk #[]),vi 0,vi 0,vi 0,vl ar ([]:List Name)]),(5,oa 169 5 ar j1)]⟩ ?_
 refine ab.ls (bk (v:= .agg [vi aP.Years.From,vi (cw aP.Years.To (aJ (an - 1)))]) aa rfl) ?_
 refine ab.cl aa 1 [4,44,46,56,57] [4,5] ?_
 refine ab.ls (bk (v:= .agg [vs aP.Code,vi aP.Class,vi aP.Years.From,vi (cw aP.Years.To (aJ (an - 1))),.own 5]) aa rfl) ?_
 refine bO aa 1 [4] [4,5] ?_
 refine ag ?_
 obtain rfl:=inj h
 exact aD (f1 (Bl (d:=5) [vs aP.Code,vi aP.Class,vi aP.Years.From,vi (cw aP.Years.To (aJ (an - 1)))] [] (cI aa (d:=4) (cs:=[vs aP.Code,vi aP.Class,vi aP.Years.From,vi (cw aP.Years.To (aJ (an - 1))),.own 5]) (ti:=cd) (by kernel_rfl) (by kernel_rfl) (by kernel_rfl) (by kernel_rfl)) (by kernel_rfl) (b5 bu _) rfl rfl SV.et SV.et (by kernel_rfl)))
theorem AG:a8 Tryz.prog 132:=ax Tryz.func132 (by kernel_rfl) rfl
noncomputable def hU(ah:(List Place)):Option ((List Place)):=
 (((jx (ah.length:Int) (fun(i3:Int) (s3:(List Place))=>((at' ah i3).bind fun x7=>((ed ([]:List Name) x7.Names).bind fun x8=>((ed s3 ([(Place.mk x7.Code x7.Class x7.Years x8)]:List Place)).bind fun x9=>some x9)))) (fun(s3:(List Place))=>s3) 0 ([]:List Place))).bind fun(j1:(List Place))=>some j1)
theorem lF(ah:(List Place))(r:(List Place))(h:hU ah=some r):aH Tryz.prog 84 [.v (vl ad ah)] ⟨[.deep 91 5 r.length [.flat,.flat,.flat,.flat,(.sl 169 5 [.flat,.flat,.flat,.flat,.flat])] (r.map ad)],[],false⟩:=by
 refine au Tryz.func84 rfl [(.tmp 2)] rfl (fun r=>⟨[.deep 91 5 r.length [.flat,.flat,.flat,.flat,(.sl 169 5 [.flat,.flat,.flat,.flat,.flat])] (r.map ad)],[],false⟩) (r:=r) ?_
 unfold hU at h
 refine sr ?_
 refine ab.cl aa 1 [2,0] [2] ?_
 refine ab.le (Le.qx (d:=2) (e:=91) (m:=5) (ss:=[.flat,.flat,.flat,.flat,(.sl 169 5 [.flat,.flat,.flat,.flat,.flat])]) (by kernel_rfl) (by kernel_rfl)) ?_
 refine ab.nx ?_
 refine sr ?_
 refine ab.cl aa 1 [6,2,0] [6,2] ?_
 refine ab.le (Le.qx (d:=6) (e:=91) (m:=5) (ss:=[.flat,.flat,.flat,.flat,(.sl 169 5 [.flat,.flat,.flat,.flat,.flat])]) (by kernel_rfl) (by kernel_rfl)) ?_
 refine bO aa 1 [0,3] [6] ?_
 refine ac ?_
 refine az aa [0,3,4] [6] ?_
 refine a7 h (fun j1=>⟨27,[(3,.own 3)],[(3,.deep 91 5 j1.length [.flat,.flat,.flat,.flat,(.sl 169 5 [.flat,.flat,.flat,.flat,.flat])] (j1.map ad))]⟩) (fun v2 h=> ?_) (fun j1 h=> ?_)
 refine ay (a:=v2) ?_
 refine a6 (r:=v2) (s:=(0,([]:List Place))) _ (fun s3=>⟨27,[(0,vl ad ah),(3,.own 3),(4,vi s3.1)],[(3,.deep 91 5 s3.2.length [.flat,.flat,.flat,.flat,(.sl 169 5 [.flat,.flat,.flat,.flat,.flat])] (s3.2.map ad))]⟩) _ (Le.rr [6] [(6,3)]) h (fun s3 v4 h=> ?_)
 refine ac ?_
 refine az aa [0,3,4,10] [3] ?_
 refine ao h (fun h=> ?_) fun h=> ?_
 refine ai ?_
 refine aY ?_
 refine ac ?_
 refine a7 h (fun j5=>⟨27,[(0,vl ad ah),(3,.own 3),(4,vi s3.1)],[(3,.deep 91 5 j5.length [.flat,.flat,.flat,.flat,(.sl 169 5 [.flat,.flat,.flat,.flat,.flat])] (j5.map ad))]⟩) (fun v6 h=> ?_) (fun j5 h=> ?_)
 refine ay (a:=v6) ?_
 refine sr ?_
 refine ab.cl aa 2 [0,3,4,13,14] [3] ?_
 obtain⟨x7,hx7,h⟩:=bind_some h
 refine ab.ls (aG (L:=ah) (f:=ad) (ti:=cP) (tj:=cd) (e:=91) (k:= .i64) aa rfl hx7) ?_
 refine bO aa 3 [0,3,4,5] [3,5] ?_
 refine sr ?_
 refine ab.cl aa 3 [0,3,4,5,17,19] [3,5,17] ?_
 obtain⟨x8,hx8,h⟩:=bind_some h
 refine ab.bx (bS (f:=ar) (t:=89) (ti:=dd) (tj:=cH) (zs:=[.string (ByteArray.mk #[]),.string (ByteArray.mk #[]),.int .i64 0,.int .i64 0,.int .i64 0]) (e:=169) (m:=5) (d:=17) (xv:=vl ar x7.Names) hx8 aa rfl rfl rfl rfl (oe (fun _=>rfl))) ?_
 refine bO aa 2 [0,3,4,5] [3,5,20] ?_
 refine aF ?_
 refine ab.cl aa 2 [0,4,22,23] [3,20] ?_
 refine ab.bx (oj (ti:=cP) (tj:=cd) (e:=91) (m:=5) (zs:=[.string (ByteArray.mk #[]),.int .i64 0,.int .i64 0,.int .i64 0,.slice none 0 0]) (v:= .agg [vs x7.Code,vi x7.Class,vi x7.Years.From,vi x7.Years.To,.own 20]) (cs:=[vs x7.Code,vi x7.Class,vi x7.Years.From,vi x7.Years.To,.own 20]) (ss:=[.flat,.flat,.flat,.flat,(.sl 169 5 [.flat,.flat,.flat,.flat,.flat])]) (ts:=[.str x7.Code,.int .i64 x7.Class,.int .i64 x7.Years.From,.int .i64 x7.Years.To,.sl x8.length (x8.map ar)]) (ds:=[20]) aa rfl rfl rfl (.cons _ _ _ [] _ _ _ _ (.flat (.str x7.Code) rfl) (.cons _ _ _ [] _ _ _ _ (.flat (.int .i64 x7.Class) rfl) (.cons _ _ _ [] _ _ _ _ (.flat (.int .i64 x7.Years.From) rfl) (.cons _ _ _ [] _ _ _ _ (.flat (.int .i64 x7.Years.To) rfl) (.cons _ _ _ [20] _ _ _ _ (qq (d:=20) (e:=169) (m:=5) (n:=x8.length) (es:=x8.map ar) (ss:=[.flat,.flat,.flat,.flat,.flat]) (b5 bu _)) .nil (by decide)) (by decide)) (by decide)) (by decide)) (by decide))) ?_
 obtain⟨x9,hx9,h⟩:=bind_some h
 refine ab.bx (mY (f:=ad) (L:=s3.2) (M:=([(Place.mk x7.Code x7.Class x7.Years x8)]:List Place)) (t:=32) (ti:=cP) (tj:=cd) (zs:=[.string (ByteArray.mk #[]),.int .i64 0,.int .i64 0,.int .i64 0,.slice none 0 0]) (e:=91) (m:=5) (d:=3) (dx:=24) (ss:=[.flat,.flat,.flat,.flat,(.sl 169 5 [.flat,.flat,.flat,.flat,.flat])]) hx9 aa rfl rfl rfl rfl) ?_
 refine ab.cl aa 1 [0,3,4] [25] ?_
 refine ab.nil ?_
 obtain rfl:=inj h
 exact bT (fu (Le.rr [25] [(25,3)]))
 refine aF ?_
 refine ab.cl aa 3 [0,3,4] [3] ?_
 refine ab.nil ?_
 obtain rfl:=inj h
 exact bZ (Le.aq)
 refine aQ ?_
 obtain rfl:=inj h
 exact cD (cF (cE (fu (Le.aq))))
 refine az aa [2] [3] ?_
 refine ag ?_
 obtain rfl:=inj h
 exact aD (f1 (xP (d:=3) (jb (by kernel_rfl)) (by kernel_rfl) (by kernel_rfl)))
theorem ze:a8 Tryz.prog 84:=ax Tryz.func84 (by kernel_rfl) rfl
noncomputable def fy(ah:(List Place))(aE:ByteArray)(an:Int):Option ((List Place)×Int):=
 ((iK ah aE an).bind fun x1=>(bif(x1 !=0)then some (([]:List Place),x1)else((bW ah aE).bind fun x2=>((at' ah x2).bind fun x3=>((cV x3 (aJ (an - 1))).bind fun x4=>(bif(!x4)then some (([]:List Place),5)else((ed ([]:List Place) ah).bind fun x5=>((at' ah x2).bind fun x6=>((jq x6 an).bind fun x7=>((at' x5 x2).bind fun _=>((hU (List.set x5 (Int.toNat x2) x7)).bind fun x9=>some (x9,0))))))))))))
theorem n5(ah:(List Place))(aE:ByteArray)(an:Int)(r:(List Place)×Int)(h:fy ah aE an=some r):aH Tryz.prog 73 [.v (vl ad ah),.v (vs aE),.v (vi an)] ⟨[.deep 91 5 r.1.length [.flat,.flat,.flat,.flat,(.sl 169 5 [.flat,.flat,.flat,.flat,.flat])] (r.1.map ad),.v (vi r.2)],[],false⟩:=by
 refine au Tryz.func73 rfl [(.tmp 6),(.tmp 7)] rfl (fun r=>⟨[.deep 91 5 r.1.length [.flat,.flat,.flat,.flat,(.sl 169 5 [.flat,.flat,.flat,.flat,.flat])] (r.1.map ad),.v (vi r.2)],[],false⟩) (r:=r) ?_
 unfold fy at h
 refine az aa [0,1,2] [] ?_
 refine sr ?_
 refine ab.cl aa 3 [0,1,2,11,12,13] [] ?_
 obtain⟨x1,hx1,h⟩:=bind_some h
 refine ab.ls (xc AF (o0 ah aE an _ hx1)) ?_
 refine bO aa 1 [0,1,2,8] [] ?_
 refine ac ?_
 refine az aa [0,1,2,8,16] [] ?_
 refine ao h (fun h=> ?_) fun h=> ?_
 refine az aa [6,7] [6] ?_
 refine cM (Le.qx (d:=6) (e:=91) (m:=5) (ss:=[.flat,.flat,.flat,.flat,(.sl 169 5 [.flat,.flat,.flat,.flat,.flat])]) (by kernel_rfl) (by kernel_rfl)) ?_
 refine ag ?_
 obtain rfl:=inj h
 exact bw (aD (f2 (xP (d:=6) (jb (by kernel_rfl)) (by kernel_rfl) (by kernel_rfl)) fv))
 refine ai ?_
 refine aY ?_
 refine sr ?_
 refine ab.cl aa 2 [0,2,18,19] [] ?_
 obtain⟨x2,hx2,h⟩:=bind_some h
 refine ab.ls (xc lp (cv ah aE _ hx2)) ?_
 refine bO aa 1 [0,2,9] [] ?_
 refine ac ?_
 refine sr ?_
 refine ab.cl aa 2 [0,2,9,21,22] [] ?_
 obtain⟨x3,hx3,h⟩:=bind_some h
 refine ab.ls (aG (L:=ah) (f:=ad) (ti:=cP) (tj:=cd) (e:=91) (k:= .i64) aa rfl hx3) ?_
 refine ab.ck aa 3 ⟨43,[(0,vl ad ah),(2,vi an),(9,vi x2),(24,.agg (tc ad x3)),(26,vi (aJ (an - 1)))],[]⟩ ?_
 obtain⟨x4,hx4,h⟩:=bind_some h
 refine ab.ls (xc nE (dP x3 (aJ (an - 1)) _ hx4)) ?_
 refine bO aa 1 [0,2,9,28] [] ?_
 refine ao h (fun h=> ?_) fun h=> ?_
 refine az aa [6,7] [6] ?_
 refine cM (Le.qx (d:=6) (e:=91) (m:=5) (ss:=[.flat,.flat,.flat,.flat,(.sl 169 5 [.flat,.flat,.flat,.flat,.flat])]) (by kernel_rfl) (by kernel_rfl)) ?_
 refine ag ?_
 obtain rfl:=inj h
 exact bw (aD (f2 (xP (d:=6) (jb (by kernel_rfl)) (by kernel_rfl) (by kernel_rfl)) fv))
 refine ai ?_
 refine aY ?_
 refine sr ?_
 refine ab.cl aa 2 [0,2,9,29,30] [29] ?_
 obtain⟨x5,hx5,h⟩:=bind_some h
 refine ab.bx (bS (f:=ad) (t:=32) (ti:=cP) (tj:=cd) (zs:=[.string (ByteArray.mk #[]),.int .i64 0,.int .i64 0,.int .i64 0,.slice none 0 0]) (e:=91) (m:=5) (d:=29) (xv:=vl ad ah) hx5 aa rfl rfl rfl rfl (oe (fun _=>rfl))) ?_
 refine bO aa 1 [0,2,9,10] [31] ?_
 refine sr ?_
 refine ab.cl aa 4 [2,10,32,33,34,35] [31] ?_
 obtain⟨x6,hx6,h⟩:=bind_some h
 refine ab.ls (aG (L:=ah) (f:=ad) (ti:=cP) (tj:=cd) (e:=91) (k:= .i64) aa rfl hx6) ?_
 refine ab.cl aa 2 [10,32,33,37,38] [31] ?_
 obtain⟨x7,hx7,h⟩:=bind_some h
 refine ab.ls (xc AG (pY x6 an _ hx7)) ?_
 obtain⟨x8,hx8,h⟩:=bind_some h
 refine ab.ls (bo (d:=31) (L:=x5) (f:=ad) (ti:=cP) (tj:=cd) (e:=91) (e':=91) (m:=5) (k:= .i64) aa rfl hx8) ?_
 refine ab.le (Le.rG (d:=39) (e:=169) (m:=5) (n:=x7.Names.length) (es:=x7.Names.map ar) (by kernel_rfl) (by kernel_rfl)) ?_
 refine ab.bx (cC (d:=31) (m:=5) (j:=0) (L:=x5) (f:=ad) (x:=x7) (z:=x8) (ti:=cd) (e:=91) (ts:=[.str x7.Code,.int .i64 x7.Class,.int .i64 x7.Years.From,.int .i64 x7.Years.To,.sl x7.Names.length (x7.Names.map ar)]) (vs:=[vs x7.Code,vi x7.Class,vi x7.Years.From,vi x7.Years.To,vl ar x7.Names]) (v:= .agg (tc ad x7)) aa rfl rfl hx8) ?_
 refine ab.nx ?_
 refine sr ?_
 refine ab.cl aa 1 [41] [31] ?_
 obtain⟨x9,hx9,h⟩:=bind_some h
 refine ab.ls (xc ze (lF (List.set x5 (Int.toNat x2) x7) _ hx9)) ?_
 refine bO aa 2 [6,7] [42] ?_
 refine ag ?_
 obtain rfl:=inj h
 exact aD (f2 (xP (d:=42) (jb (by kernel_rfl)) (by kernel_rfl) (by kernel_rfl)) fv)
theorem Cu:a8 Tryz.prog 73:=ax Tryz.func73 (by kernel_rfl) rfl
noncomputable def ia(ah:(List aw))(aE:ByteArray)(an:Int):Option ((List aw)):=
 (((jx (ah.length:Int) (fun(i3:Int) (s3:(List aw))=>((at' ah i3).bind fun x7=>(((bif((x7.Child.toList==aE.toList) || (x7.Parent.toList==aE.toList))then some (aw.mk x7.Child x7.Parent (Span.mk x7.Years.From (cw x7.Years.To (aJ (an - 1)))))else some x7)).bind fun(j8:aw)=>(bif(decide (j8.Years.From≤j8.Years.To))then((ed s3 ([j8]:List aw)).bind fun x10=>some x10)else some s3)))) (fun(s3:(List aw))=>s3) 0 ([]:List aw))).bind fun(j1:(List aw))=>some j1)
theorem pZ(ah:(List aw))(aE:ByteArray)(an:Int)(r:(List aw))(h:ia ah aE an=some r):aH Tryz.prog 74 [.v (vl ae ah),.v (vs aE),.v (vi an)] ⟨[.own 85 4 r.length (r.map ae)],[],false⟩:=by
 refine au Tryz.func74 rfl [(.tmp 6)] rfl (fun r=>⟨[.own 85 4 r.length (r.map ae)],[],false⟩) (r:=r) ?_
 unfold ia at h
 refine az aa [0,1,2] [] ?_
 refine az aa [0,1,2,7] [10] ?_
 refine ac ?_
 refine az aa [0,1,2,7,8] [10] ?_
 refine a7 h (fun j1=>⟨54,[(7,.own 7)],[(7,oa 85 4 ae j1)]⟩) (fun v2 h=> ?_) (fun j1 h=> ?_)
 refine ay (a:=v2) ?_
 refine a6 (r:=v2) (s:=(0,([]:List aw))) _ (fun s3=>⟨54,[(0,vl ae ah),(1,vs aE),(2,vi an),(7,.own 7),(8,vi s3.1)],[(7,oa 85 4 ae s3.2)]⟩) _ (Le.rr [10] [(10,7)]) h (fun s3 v4 h=> ?_)
 refine ac ?_
 refine az aa [0,1,2,7,8,14] [7] ?_
 refine ao h (fun h=> ?_) fun h=> ?_
 refine ai ?_
 refine aY ?_
 refine ac ?_
 refine a7 h (fun j5=>⟨54,[(0,vl ae ah),(1,vs aE),(2,vi an),(7,.own 7),(8,vi s3.1)],[(7,oa 85 4 ae j5)]⟩) (fun v6 h=> ?_) (fun j5 h=> ?_)
 refine ay (a:=v6) ?_
 refine sr ?_
 refine ab.cl aa 2 [0,1,2,7,8,17,18] [7] ?_
 obtain⟨x7,hx7,h⟩:=bind_some h
 refine ab.ls (aG (L:=ah) (f:=ae) (ti:=dp) (tj:=dq) (e:=85) (k:= .i64) aa rfl hx7) ?_
 refine bO aa 3 [0,1,2,7,8,9] [7,9] ?_
 refine ac ?_
 refine ac ?_
 refine dc ⟨54,[(0,vl ae ah),(1,vs aE),(2,vi an),(7,.own 7),(8,vi s3.1),(9,.ref 9 0),(30,vb ((x7.Child.toList==aE.toList) || (x7.Parent.toList==aE.toList)))],[(7,oa 85 4 ae s3.2),(9,.box (tc ae x7))]⟩ ?_ ?_
 refine ab.ck aa 5 ⟨54,[(0,vl ae ah),(1,vs aE),(2,vi an),(7,.own 7),(8,vi s3.1),(9,.ref 9 0),(25,vb (x7.Child.toList==aE.toList))],[(7,oa 85 4 ae s3.2),(9,.box (tc ae x7))]⟩ ?_
 generalize (x7.Child.toList==aE.toList)=bb
 cases bb
 refine ab.cl aa 5 [0,1,2,7,8,9,30] [7,9] ?_
 exact ab.nil (Le.aq)
 refine ab.cl aa 5 [0,1,2,7,8,9,30] [7,9] ?_
 exact ab.nil (Le.aq)
 refine a7 h (fun j8=>⟨54,[(0,vl ae ah),(1,vs aE),(2,vi an),(7,.own 7),(8,vi s3.1),(9,.ref 9 0)],[(7,oa 85 4 ae s3.2),(9,.box (tc ae j8))]⟩) (fun v9 h=> ?_) (fun j8 h=> ?_)
 refine ao h (fun h=> ?_) fun h=> ?_
 refine aF ?_
 refine ab.cl aa 9 [0,1,2,7,8,9,33,39] [7,9] ?_
 refine ab.ls (bk (v:= .agg [vi x7.Years.From,vi (cw x7.Years.To (aJ (an - 1)))]) aa rfl) ?_
 refine ab.cl aa 2 [0,1,2,7,8,9] [7,9] ?_
 refine ab.nil ?_
 obtain rfl:=inj h
 exact fu (Le.aq)
 refine ai ?_
 obtain rfl:=inj h
 exact fu (Le.aq)
 refine az aa [0,1,2,7,8,9,48] [7,9] ?_
 refine ao h (fun h=> ?_) fun h=> ?_
 refine aF ?_
 refine ab.cl aa 3 [0,1,2,8,49,51] [7,51] ?_
 obtain⟨x10,hx10,h⟩:=bind_some h
 refine ab.bx (bS (f:=ae) (t:=33) (ti:=dp) (tj:=dq) (zs:=[.string (ByteArray.mk #[]),.string (ByteArray.mk #[]),.int .i64 0,.int .i64 0]) (e:=85) (m:=4) (d:=7) (xv:= .own 51) hx10 aa rfl rfl rfl rfl (dC (e:=85))) ?_
 refine ab.cl aa 1 [0,1,2,7,8] [52] ?_
 refine ab.nil ?_
 obtain rfl:=inj h
 exact bT (fu (Le.rr [52] [(52,7)]))
 refine ai ?_
 obtain rfl:=inj h
 exact bT (fu (Le.aq))
 refine aF ?_
 refine ab.cl aa 3 [0,1,2,7,8] [7] ?_
 refine ab.nil ?_
 obtain rfl:=inj h
 exact bZ (Le.aq)
 refine aQ ?_
 obtain rfl:=inj h
 exact cD (cF (cE (fu (Le.aq))))
 refine az aa [6] [7] ?_
 refine ag ?_
 obtain rfl:=inj h
 exact aD (f1 (fo di))
theorem Cv:a8 Tryz.prog 74:=ax Tryz.func74 (by kernel_rfl) rfl
noncomputable def eo(aW:World)(aC:Change):Option (World×Int):=
 ((iM aW aC).bind fun x1=>(bif(x1 !=0)then some (aW,x1)else(((bif(aC.Kind==0)then((fU aW aC).bind fun x4=>some (.inr (x4.1,x4.2)))else(bif(aC.Kind==2)then((eb aW aC.Code aC.Other aC.Year).bind fun x5=>((dH aW x5).bind fun x6=>some (.inr (x6.1,x6.2))))else some (.inl (World.mk ([]:List Place) ([]:List aw)))))).bind (Sum.elim (fun(j2:World)=>(((bif(aC.Kind==3)then((fj aW.Links aC.Code aC.Year).bind fun x9=>(cW (x9.1.length:Int) (fun(i10:Int) (s10:World×World)=>((at' x9.1 i10).bind fun x14=>(bif(x14.toList==aC.Other.toList)then some (.inr (.inr (aW,5)))else((at' x9.1 i10).bind fun x15=>((eb s10.2 x15 aC.Other aC.Year).bind fun x16=>((dH s10.2 x16).bind fun x17=>(bif(x17.2 !=0)then some (.inr (.inr (aW,x17.2)))else some (.inl (s10.1,x17.1))))))))) (fun(s10:World×World)=>(.inl (s10.1,s10.2))) 0 (j2,aW)))else some (.inl (j2,aW)))).bind (Sum.elim (fun(j7:World×World)=>((fy j7.2.Places aC.Code aC.Year).bind fun x18=>((ia j7.2.Links aC.Code aC.Year).bind fun x19=>some ((World.mk x18.1 x19),0)))) some))) some))))
theorem oc(aW:World)(aC:Change)(r:World×Int)(h:eo aW aC=some r):aH Tryz.prog 33 [.v (.agg (tc ak aW)),.v (.agg (tc ap aC))] ⟨[.v (.agg (tc ak r.1)),.v (vi r.2)],[],true⟩:=by
 refine au Tryz.func33 rfl [(.cell 4 35),(.tmp 5)] rfl (fun r=>⟨[.v (.agg (tc ak r.1)),.v (vi r.2)],[],true⟩) (r:=r) ?_
 unfold eo at h
 refine az aa [2,3,4] [2,3,4] ?_
 refine sr ?_
 refine ab.cl aa 2 [2,3,4,15,16] [2,3,4] ?_
 obtain⟨x1,hx1,h⟩:=bind_some h
 refine ab.ls (xc Cr (o3 aW aC _ hx1)) ?_
 refine bO aa 1 [2,3,4,6] [2,3,4] ?_
 refine ac ?_
 refine az aa [2,3,4,6,19] [2,3,4] ?_
 refine ao h (fun h=> ?_) fun h=> ?_
 refine az aa [4,5] [4] ?_
 refine ag ?_
 obtain rfl:=inj h
 exact bw (aD (f2 (kV rfl (cI aa (d:=4) (cs:=[vl ad aW.Places,vl ae aW.Links]) (ti:=iN) (by kernel_rfl) (by kernel_rfl) (by kernel_rfl) (by kernel_rfl))) ft))
 refine ai ?_
 refine aY ?_
 refine ac ?_
 refine az aa [2,3,4,23] [2,3,4] ?_
 refine bi (r:=r) h (fun j2=>⟨112,[(2,.ref 2 0),(3,.ref 3 0),(4,.ref 4 0)],[(2,.box (tc ak aW)),(3,.box (tc ap aC)),(4,.box (tc ak j2))]⟩) (fun v3 h=> ?_) (fun j2 h=> ?_)
 refine ay (a:=v3) ?_
 refine az aa [2,3,4,23,24] [2,3,4] ?_
 refine ao h (fun h=> ?_) fun h=> ?_
 refine sr ?_
 refine ab.cl aa 2 [4,26,27] [4] ?_
 obtain⟨x4,hx4,h⟩:=bind_some h
 refine ab.ls (xc Cs (nj aW aC _ hx4)) ?_
 refine bO aa 4 [4,5] [4] ?_
 refine ag ?_
 obtain rfl:=inj h
 exact bm (aU (aD (f2 (kV rfl (cI aa (d:=4) (cs:=[vl ad x4.1.Places,vl ae x4.1.Links]) (ti:=iN) (by kernel_rfl) (by kernel_rfl) (by kernel_rfl) (by kernel_rfl))) ft)))
 refine az aa [2,3,4,31] [2,3,4] ?_
 refine ao h (fun h=> ?_) fun h=> ?_
 refine ac ?_
 refine cL mixed ?_
 refine aR.cl aa false 8 [4,33,34,36,38,40] [4] ?_
 obtain⟨x5,hx5,h⟩:=bind_some h
 refine aR.step (xc zd (lg aW aC.Code aC.Other aC.Year _ hx5)) ?_
 obtain⟨x6,hx6,h⟩:=bind_some h
 refine aR.step (xc zc (kI aW x5 _ hx6)) ?_
 refine aR.cl aa false 2 [4,43,44] [4] ?_
 refine aR.seq (by kernel_rfl) (by kernel_rfl) ?_
 refine bO aa 2 [4,5] [4] ?_
 refine ag ?_
 obtain rfl:=inj h
 exact bm (aU (aD (f2 (kV rfl (cI aa (d:=4) (cs:=[vl ad x6.1.Places,vl ae x6.1.Links]) (ti:=iN) (by kernel_rfl) (by kernel_rfl) (by kernel_rfl) (by kernel_rfl))) ft)))
 refine ai ?_
 obtain rfl:=inj h
 exact bT (bZ (Le.aq))
 refine az aa [2,3,4,7] [2,3,4,7] ?_
 refine ac ?_
 refine iR aa ⟨112,[(2,.ref 2 0),(3,.ref 3 0),(4,.ref 4 0),(7,.ref 7 0),(48,vb (aC.Kind==3))],[(2,.box (tc ak aW)),(3,.box (tc ap aC)),(4,.box (tc ak j2)),(7,.box (tc ak aW))]⟩ ?_
 refine bi (r:=r) h (fun j7=>⟨112,[(3,.ref 3 0),(4,.ref 4 0),(7,.ref 7 0)],[(3,.box (tc ap aC)),(4,.box (tc ak j7.1)),(7,.box (tc ak j7.2))]⟩) (fun v8 h=> ?_) (fun j7 h=> ?_)
 refine ao h (fun h=> ?_) fun h=> ?_
 refine sr ?_
 refine ab.cl aa 6 [2,3,4,7,51,53,55] [2,3,4,7] ?_
 obtain⟨x9,hx9,h⟩:=bind_some h
 refine ab.ls (xc Ct (mL aW.Links aC.Code aC.Year _ hx9)) ?_
 refine bO aa 5 [2,3,4,7,8] [2,3,4,7,56] ?_
 refine az aa [2,3,4,7,8,10] [2,3,4,7,56] ?_
 refine ay (a:=v8) ?_
 refine a6 (r:=v8) (s:=(0,j2,aW)) _ (fun s10=>⟨112,[(2,.ref 2 0),(3,.ref 3 0),(4,.ref 4 0),(7,.ref 7 0),(8,.own 8),(10,vi s10.1)],[(2,.box (tc ak aW)),(3,.box (tc ap aC)),(4,.box (tc ak s10.2.1)),(7,.box (tc ak s10.2.2)),(8,oa 9 1 eS x9.1)]⟩) _ (Le.rr [2,3,4,7,56] [(56,8)]) h (fun s10 v11 h=> ?_)
 refine ac ?_
 refine az aa [2,3,4,7,8,10,62] [2,3,4,7,8] ?_
 refine ao h (fun h=> ?_) fun h=> ?_
 refine ai ?_
 refine aY ?_
 refine ac ?_
 refine bn (r:=v11) h (fun j12=>⟨112,[(2,.ref 2 0),(3,.ref 3 0),(4,.ref 4 0),(7,.ref 7 0),(8,.own 8),(10,vi s10.1)],[(2,.box (tc ak aW)),(3,.box (tc ap aC)),(4,.box (tc ak j12.1)),(7,.box (tc ak j12.2)),(8,oa 9 1 eS x9.1)]⟩) (fun v13 h=> ?_) (fun j12 h=> ?_)
 refine ay (a:=v13) ?_
 refine ac ?_
 refine ac ?_
 refine cL mixed ?_
 refine aR.cl aa false 2 [2,3,4,7,8,10,65,66] [2,3,4,7,8] ?_
 obtain⟨x14,hx14,h⟩:=bind_some h
 refine aR.step (bo (d:=8) (L:=x9.1) (f:=eS) (ti:=cy) (tj:=gH) (e:=9) (e':=9) (m:=1) (k:= .i64) aa rfl hx14) ?_
 refine aR.step (dr (d:=8) (m:=1) (j:=0) (L:=x9.1) (f:=eS) (ti:=gH) (e:=9) (v:=vs x14) aa rfl hx14) ?_
 refine aR.cl aa false 3 [2,3,4,7,8,10,71] [2,3,4,7,8] ?_
 refine aR.nx ?_
 refine ao h (fun h=> ?_) fun h=> ?_
 refine az aa [4,5] [4] ?_
 refine ag ?_
 obtain rfl:=inj h
 exact bw (bm (aU (aU (bm (aU (aD (f2 (kV rfl (cI aa (d:=4) (cs:=[vl ad aW.Places,vl ae aW.Links]) (ti:=iN) (by kernel_rfl) (by kernel_rfl) (by kernel_rfl) (by kernel_rfl))) ft)))))))
 refine ai ?_
 refine aY ?_
 refine ac ?_
 refine cL mixed ?_
 refine aR.cl aa false 4 [2,3,4,7,8,10,74,75,76,77] [2,3,4,7,8] ?_
 obtain⟨x15,hx15,h⟩:=bind_some h
 refine aR.step (bo (d:=8) (L:=x9.1) (f:=eS) (ti:=cy) (tj:=gH) (e:=9) (e':=9) (m:=1) (k:= .i64) aa rfl hx15) ?_
 refine aR.step (dr (d:=8) (m:=1) (j:=0) (L:=x9.1) (f:=eS) (ti:=gH) (e:=9) (v:=vs x15) aa rfl hx15) ?_
 refine aR.cl aa false 4 [2,3,4,7,8,10,74,75,79,81,83] [2,3,4,7,8] ?_
 obtain⟨x16,hx16,h⟩:=bind_some h
 refine aR.step (xc zd (lg s10.2.2 x15 aC.Other aC.Year _ hx16)) ?_
 obtain⟨x17,hx17,h⟩:=bind_some h
 refine aR.step (xc zc (kI s10.2.2 x16 _ hx17)) ?_
 refine aR.cl aa false 4 [2,3,4,7,8,10,11,86,87] [2,3,4,7,8,11] ?_
 refine aR.Ac [11] (vL (d:=11) (k:=0) (ti:=iN) (cs:=[vl ad ([]:List Place),vl ae ([]:List aw)]) (vs:=[vl ad x17.1.Places,vl ae x17.1.Links]) (v:= .agg (tc ak x17.1)) aa rfl rfl) ?_
 refine aR.cl aa false 1 [2,3,4,7,8,10,11,12] [2,3,4,7,8,11] ?_
 refine aR.nx ?_
 refine ac ?_
 refine az aa [2,3,4,7,8,10,11,12,89] [2,3,4,7,8,11] ?_
 refine ao h (fun h=> ?_) fun h=> ?_
 refine iR aa ⟨112,[(4,.ref 4 0),(5,vi x17.2)],[(4,.box (tc ak aW))]⟩ ?_
 refine ag ?_
 obtain rfl:=inj h
 exact bw (bm (aU (aU (bm (aU (aD (f2 (kV rfl (cI aa (d:=4) (cs:=[vl ad aW.Places,vl ae aW.Links]) (ti:=iN) (by kernel_rfl) (by kernel_rfl) (by kernel_rfl) (by kernel_rfl))) ft)))))))
 refine ai ?_
 refine aY ?_
 refine aF ?_
 refine ab.cl aa 2 [2,3,4,7,8,10] [2,3,4,7,8] ?_
 refine ab.nil ?_
 obtain rfl:=inj h
 exact bT (bZ (Le.aq))
 refine aF ?_
 refine ab.cl aa 3 [2,3,4,7,8,10] [2,3,4,7,8] ?_
 refine ab.nil ?_
 obtain rfl:=inj h
 exact bZ (Le.aq)
 refine aQ ?_
 obtain rfl:=inj h
 exact cD (cF (cE (bZ (Le.aq))))
 refine ai ?_
 obtain rfl:=inj h
 exact bZ (Le.aq)
 refine sr ?_
 refine ab.cl aa 6 [3,4,7,95,97,99] [3,4,7] ?_
 obtain⟨x18,hx18,h⟩:=bind_some h
 refine ab.ls (xc Cu (n5 j7.2.Places aC.Code aC.Year _ hx18)) ?_
 refine bO aa 5 [3,4,7,13] [3,4,7,100] ?_
 refine sr ?_
 refine ab.cl aa 7 [4,103,105,107,109] [4,100] ?_
 obtain⟨x19,hx19,h⟩:=bind_some h
 refine ab.ls (xc Cv (pZ j7.2.Links aC.Code aC.Year _ hx19)) ?_
 refine ab.ls (bk (v:= .agg [.own 100,.own 110]) aa rfl) ?_
 refine bO aa 2 [4,5] [4,100,110] ?_
 refine cM (Le.xj (d:=100) (e:=91) (m:=5) (n:=x18.1.length) (ss:=[.flat,.flat,.flat,.flat,(.sl 169 5 [.flat,.flat,.flat,.flat,.flat])]) (es:=x18.1.map ad) (by kernel_rfl) (by kernel_rfl)) ?_
 refine cM (Le.rG (d:=110) (e:=85) (m:=4) (n:=x19.length) (es:=x19.map ae) (by kernel_rfl) (by kernel_rfl)) ?_
 refine ag ?_
 obtain rfl:=inj h
 exact aD (f2 (kV rfl (cI aa (d:=4) (cs:=[vl ad x18.1,vl ae x19]) (ti:=iN) (by kernel_rfl) (by kernel_rfl) (by kernel_rfl) (by kernel_rfl))) ft)
theorem Ce:a8 Tryz.prog 33:=ax Tryz.func33 (by kernel_rfl) rfl
noncomputable def dF(aX:Int)(jv:Int)(fG:Int):Option (Bool):=
 some ((decide (aX≥jv))&&(decide (aX≤fG)))
theorem dk(aX:Int)(jv:Int)(fG:Int)(r:Bool)(h:dF aX jv fG=some r):aH Tryz.prog 77 [.v (vi aX),.v (vi jv),.v (vi fG)] ⟨[.v (vb r)],[],false⟩:=by
 refine au Tryz.func77 rfl [(.tmp 6)] rfl (fun r=>⟨[.v (vb r)],[],false⟩) (r:=r) ?_
 unfold dF at h
 refine az aa [0,1,2] [] ?_
 refine ac ?_
 refine dc ⟨15,[(6,vb ((decide (aX≥jv))&&(decide (aX≤fG))))],[]⟩ ?_ ?_
 refine ab.ck aa 4 ⟨15,[(0,vi aX),(2,vi fG),(10,vb (decide (aX≥jv)))],[]⟩ ?_
 generalize (decide (aX≥jv))=bb
 cases bb
 refine ab.cl aa 5 [6] [] ?_
 exact ab.nil (Le.aq)
 refine ab.cl aa 5 [6] [] ?_
 exact ab.nil (Le.aq)
 refine ag ?_
 obtain rfl:=inj h
 exact aD (f1 fv)
theorem m3:a8 Tryz.prog 77:=ax Tryz.func77 (by kernel_rfl) rfl
theorem o6(s c r:ByteArray)(h:ec s c=some r):aH Tryz.prog 180 [.v (.tr (.str s)),.v (.tr (.str c))] ⟨[.v (.tr (.str r))],[],false⟩:=zV Tryz.Bs (by kernel_rfl) 180 rfl s c r h
theorem AZ:a8 Tryz.prog 180:=ax Tryz.func180 (by kernel_rfl) rfl
noncomputable def gg(aS:ByteArray)(qk:Int)(ui:Int):Option (Bool):=
 ((((dF (aS.size:Int) qk ui).bind fun x1=>(bif x1 then((ec aS (ByteArray.mk #[97,98,99,100,101,102,103,104,105,106,107,108,109,110,111,112,113,114,115,116,117,118,119,120,121,122])).bind fun x2=>some (x2.toList==(ByteArray.mk #[]).toList))else some false))).bind fun(j3:Bool)=>some j3)
theorem kZ(aS:ByteArray)(qk:Int)(ui:Int)(r:Bool)(h:gg aS qk ui=some r):aH Tryz.prog 135 [.v (vs aS),.v (vi qk),.v (vi ui)] ⟨[.v (vb r)],[],false⟩:=by
 refine au Tryz.func135 rfl [(.tmp 6)] rfl (fun r=>⟨[.v (vb r)],[],false⟩) (r:=r) ?_
 unfold gg at h
 refine az aa [0,1,2] [] ?_
 refine ac ?_
 refine bj h (fun j3=>⟨17,[(6,vb j3)],[]⟩) (fun v4 h=> ?_) (fun j3 h=> ?_)
 refine ab.cl aa 4 [0,8,9,10] [] ?_
 obtain⟨x1,hx1,h⟩:=bind_some h
 refine ab.ls (xc m3 (dk (aS.size:Int) qk ui _ hx1)) ?_
 refine ab.cl aa 1 [0,12] [] ?_
 refine ab.cu [(12,fun b=>b)] h (fun h=> ?_) fun h=> ?_
 refine ab.cl aa 1 [12,13] [] ?_
 obtain⟨x2,hx2,h⟩:=bind_some h
 refine ab.ls (xc AZ (o6 aS (ByteArray.mk #[97,98,99,100,101,102,103,104,105,106,107,108,109,110,111,112,113,114,115,116,117,118,119,120,121,122]) _ hx2)) ?_
 refine ab.cl aa 3 [6] [] ?_
 refine ab.nil ?_
 obtain rfl:=inj h
 exact Le.aq
 refine ab.cl aa 5 [6] [] ?_
 refine ab.nil ?_
 obtain rfl:=inj h
 exact Le.aq
 refine ag ?_
 obtain rfl:=inj h
 exact aD (f1 fv)
theorem w2:a8 Tryz.prog 135:=ax Tryz.func135 (by kernel_rfl) rfl
noncomputable def eT(aS:ByteArray):Option (Bool):=
 ((gg aS 1 16).bind fun x1=>some x1)
theorem gK(aS:ByteArray)(r:Bool)(h:eT aS=some r):aH Tryz.prog 78 [.v (vs aS)] ⟨[.v (vb r)],[],false⟩:=by
 refine au Tryz.func78 rfl [(.tmp 2)] rfl (fun r=>⟨[.v (vb r)],[],false⟩) (r:=r) ?_
 unfold eT at h
 refine iR aa ⟨5,[(0,vs aS)],[]⟩ ?_
 refine sr ?_
 refine ab.ck aa 1 ⟨5,[(3,vs aS)],[]⟩ ?_
 obtain⟨x1,hx1,h⟩:=bind_some h
 refine ab.ls (xc w2 (kZ aS 1 16 _ hx1)) ?_
 refine ckn aa 1 ⟨5,[(2,vb x1)],[]⟩ ?_
 refine ag ?_
 obtain rfl:=inj h
 exact aD (f1 fv)
theorem sU:a8 Tryz.prog 78:=ax Tryz.func78 (by kernel_rfl) rfl
noncomputable def dX(an:Int):Option (Bool):=
 ((dF an (-3000) 3000).bind fun x1=>some x1)
theorem gL(an:Int)(r:Bool)(h:dX an=some r):aH Tryz.prog 193 [.v (vi an)] ⟨[.v (vb r)],[],false⟩:=by
 refine au Tryz.func193 rfl [(.tmp 2)] rfl (fun r=>⟨[.v (vb r)],[],false⟩) (r:=r) ?_
 unfold dX at h
 refine az aa [0] [] ?_
 refine sr ?_
 refine ab.cl aa 1 [3] [] ?_
 obtain⟨x1,hx1,h⟩:=bind_some h
 refine ab.ls (xc m3 (dk an (-3000) 3000 _ hx1)) ?_
 refine ckn aa 1 ⟨5,[(2,vb x1)],[]⟩ ?_
 refine ag ?_
 obtain rfl:=inj h
 exact aD (f1 fv)
theorem p7:a8 Tryz.prog 193:=ax Tryz.func193 (by kernel_rfl) rfl
noncomputable def fJ(aS:Span):Option (Bool):=
 ((((dX aS.From).bind fun x1=>(bif x1 then((dX aS.To).bind fun x2=>(bif x2 then some (decide (aS.From≤aS.To))else some false))else some false))).bind fun(j3:Bool)=>some j3)
theorem jz(aS:Span)(r:Bool)(h:fJ aS=some r):aH Tryz.prog 156 [.v (.agg (tc gp aS))] ⟨[.v (vb r)],[],false⟩:=by
 refine au Tryz.func156 rfl [(.tmp 2)] rfl (fun r=>⟨[.v (vb r)],[],false⟩) (r:=r) ?_
 unfold fJ at h
 refine az aa [1] [1] ?_
 refine ac ?_
 refine bj h (fun j3=>⟨18,[(2,vb j3)],[]⟩) (fun v4 h=> ?_) (fun j3 h=> ?_)
 refine ab.cl aa 2 [1,4] [1] ?_
 obtain⟨x1,hx1,h⟩:=bind_some h
 refine ab.ls (xc p7 (gL aS.From _ hx1)) ?_
 refine ab.cl aa 1 [1,6] [1] ?_
 refine ab.cu [(6,fun b=>b)] h (fun h=> ?_) fun h=> ?_
 refine ab.cl aa 2 [1,6,8] [1] ?_
 obtain⟨x2,hx2,h⟩:=bind_some h
 refine ab.ls (xc p7 (gL aS.To _ hx2)) ?_
 refine ab.cl aa 2 [1,11] [1] ?_
 refine ab.cu [(11,fun b=>b)] h (fun h=> ?_) fun h=> ?_
 refine ab.cl aa 7 [2] [] ?_
 refine ab.nil ?_
 obtain rfl:=inj h
 exact Le.aq
 refine ab.cl aa 7 [2] [] ?_
 refine ab.nil ?_
 obtain rfl:=inj h
 exact Le.aq
 refine ab.cl aa 12 [2] [] ?_
 refine ab.nil ?_
 obtain rfl:=inj h
 exact Le.aq
 refine ag ?_
 obtain rfl:=inj h
 exact aD (f1 fv)
theorem sO:a8 Tryz.prog 156:=ax Tryz.func156 (by kernel_rfl) rfl
theorem oi(s c:ByteArray)(r:List ByteArray)(h:strings_Split s c=some r):aH Tryz.prog 181 [.v (.tr (.str s)),.v (.tr (.str c))] ⟨[.own 9 1 r.length (r.map eS)],[],false⟩:=yp Tryz.Br (by kernel_rfl) 181 9 rfl rfl s c r h
theorem A0:a8 Tryz.prog 181:=ax Tryz.func181 (by kernel_rfl) rfl
noncomputable def iv(aS:ByteArray):Option ((List ByteArray)):=
 ((strings_Split aS (ByteArray.mk #[32])).bind fun x1=>some x1)
theorem oD(aS:ByteArray)(r:(List ByteArray))(h:iv aS=some r):aH Tryz.prog 136 [.v (vs aS)] ⟨[.own 9 1 r.length (r.map eS)],[],false⟩:=by
 refine au Tryz.func136 rfl [(.tmp 2)] rfl (fun r=>⟨[.own 9 1 r.length (r.map eS)],[],false⟩) (r:=r) ?_
 unfold iv at h
 refine iR aa ⟨5,[(0,vs aS)],[]⟩ ?_
 refine sr ?_
 refine ab.ck aa 1 ⟨5,[(3,vs aS)],[]⟩ ?_
 obtain⟨x1,hx1,h⟩:=bind_some h
 refine ab.ls (xc A0 (oi aS (ByteArray.mk #[32]) _ hx1)) ?_
 refine bO aa 1 [2] [4] ?_
 refine ag ?_
 obtain rfl:=inj h
 exact aD (f1 (fo fC))
theorem AI:a8 Tryz.prog 136:=ax Tryz.func136 (by kernel_rfl) rfl
noncomputable def eh(ah:(List ByteArray)):Option (Bool):=
 (((cW (ah.length:Int) (fun(i3:Int) (_:Unit)=>((at' ah i3).bind fun x7=>((eT x7).bind fun x8=>(bif(!x8)then some (.inr (.inr false))else some (.inl ()))))) (fun(_:Unit)=> .inl ()) 0 ())).bind (Sum.elim (fun(_:Unit)=>some true) some))
theorem iq(ah:(List ByteArray))(r:Bool)(h:eh ah=some r):aH Tryz.prog 137 [.v (vl eS ah)] ⟨[.v (vb r)],[],false⟩:=by
 refine au Tryz.func137 rfl [(.tmp 2)] rfl (fun r=>⟨[.v (vb r)],[],false⟩) (r:=r) ?_
 unfold eh at h
 refine az aa [0] [] ?_
 refine ac ?_
 refine az aa [5,6,7] [] ?_
 refine bi (r:=r) h (fun j1=>⟨15,[],[]⟩) (fun v2 h=> ?_) (fun j1 h=> ?_)
 refine ay (a:=v2) ?_
 refine a6 (r:=v2) (s:=(0,())) _ (fun s3=>⟨15,[(5,vl eS ah),(6,vi (ah.length:Int)),(7,vi s3.1)],[]⟩) _ (Le.aq) h (fun s3 v4 h=> ?_)
 refine az aa [5,6,7,8] [] ?_
 refine ac ?_
 refine ao h (fun h=> ?_) fun h=> ?_
 refine ai ?_
 refine aY ?_
 refine ac ?_
 refine bn (r:=v4) h (fun j5=>⟨15,[(5,vl eS ah),(6,vi (ah.length:Int)),(7,vi s3.1)],[]⟩) (fun v6 h=> ?_) (fun j5 h=> ?_)
 refine ay (a:=v6) ?_
 refine sr ?_
 obtain⟨x7,hx7,h⟩:=bind_some h
 refine ab.ls (aG (L:=ah) (f:=eS) (ti:=cy) (tj:=gH) (e:=9) (k:= .i64) aa rfl hx7) ?_
 refine bO aa 2 [4,5,6,7] [] ?_
 refine sr ?_
 refine ab.cl aa 1 [5,6,7,11] [] ?_
 obtain⟨x8,hx8,h⟩:=bind_some h
 refine ab.ls (xc sU (gK x7 _ hx8)) ?_
 refine bO aa 1 [5,6,7,13] [] ?_
 refine ao h (fun h=> ?_) fun h=> ?_
 refine az aa [2] [] ?_
 refine ag ?_
 obtain rfl:=inj h
 exact bm (aU (aU (bm (aU (aD (f1 fv))))))
 refine ai ?_
 obtain rfl:=inj h
 exact bT (bZ (Le.aq))
 refine aF ?_
 refine ab.cl aa 2 [5,6,7] [] ?_
 refine ab.nil ?_
 obtain rfl:=inj h
 exact bZ (Le.aq)
 refine aQ ?_
 obtain rfl:=inj h
 exact cD (cF (cE (bZ (Le.aq))))
 refine az aa [2] [] ?_
 refine ag ?_
 obtain rfl:=inj h
 exact aD (f1 fv)
theorem sL:a8 Tryz.prog 137:=ax Tryz.func137 (by kernel_rfl) rfl
noncomputable def eg(aS:ByteArray):Option (Bool):=
 ((iv aS).bind fun x1=>(((bif(decide ((x1.length:Int)≤8))then((eh x1).bind fun x2=>some x2)else some false)).bind fun(j3:Bool)=>some j3))
theorem ij(aS:ByteArray)(r:Bool)(h:eg aS=some r):aH Tryz.prog 81 [.v (vs aS)] ⟨[.v (vb r)],[],false⟩:=by
 refine au Tryz.func81 rfl [(.tmp 2)] rfl (fun r=>⟨[.v (vb r)],[],false⟩) (r:=r) ?_
 unfold eg at h
 refine az aa [0] [] ?_
 refine sr ?_
 refine ab.cl aa 1 [4] [] ?_
 obtain⟨x1,hx1,h⟩:=bind_some h
 refine ab.ls (xc AI (oD aS _ hx1)) ?_
 refine bO aa 1 [3] [5] ?_
 refine ac ?_
 refine bj h (fun j3=>⟨13,[(2,vb j3)],[]⟩) (fun v4 h=> ?_) (fun j3 h=> ?_)
 refine ab.cl aa 4 [3,9] [5] ?_
 refine ab.cu [(9,fun b=>b)] h (fun h=> ?_) fun h=> ?_
 refine ab.cl aa 1 [9,10] [5] ?_
 obtain⟨x2,hx2,h⟩:=bind_some h
 refine ab.ls (xc sL (iq x1 _ hx2)) ?_
 refine ab.cl aa 2 [2] [] ?_
 refine ab.nil ?_
 obtain rfl:=inj h
 exact Le.aq
 refine ab.cl aa 4 [2] [] ?_
 refine ab.nil ?_
 obtain rfl:=inj h
 exact Le.aq
 refine ag ?_
 obtain rfl:=inj h
 exact aD (f1 fv)
theorem wb:a8 Tryz.prog 81:=ax Tryz.func81 (by kernel_rfl) rfl
noncomputable def dj(aS:ByteArray):Option (Bool):=
 ((gg aS 2 3).bind fun x1=>some x1)
theorem gq(aS:ByteArray)(r:Bool)(h:dj aS=some r):aH Tryz.prog 80 [.v (vs aS)] ⟨[.v (vb r)],[],false⟩:=by
 refine au Tryz.func80 rfl [(.tmp 2)] rfl (fun r=>⟨[.v (vb r)],[],false⟩) (r:=r) ?_
 unfold dj at h
 refine iR aa ⟨5,[(0,vs aS)],[]⟩ ?_
 refine sr ?_
 refine ab.ck aa 1 ⟨5,[(3,vs aS)],[]⟩ ?_
 obtain⟨x1,hx1,h⟩:=bind_some h
 refine ab.ls (xc w2 (kZ aS 2 3 _ hx1)) ?_
 refine ckn aa 1 ⟨5,[(2,vb x1)],[]⟩ ?_
 refine ag ?_
 obtain rfl:=inj h
 exact aD (f1 fv)
theorem wa:a8 Tryz.prog 80:=ax Tryz.func80 (by kernel_rfl) rfl
noncomputable def jg(aN:Name):Option (Bool):=
 ((((eg aN.Text).bind fun x1=>(bif x1 then((dj aN.Language).bind fun x2=>(bif x2 then((dF aN.Status 0 2).bind fun x3=>(bif x3 then((fJ aN.Years).bind fun x4=>some x4)else some false))else some false))else some false))).bind fun(j5:Bool)=>some j5)
theorem py(aN:Name)(r:Bool)(h:jg aN=some r):aH Tryz.prog 194 [.v (.agg (tc ar aN))] ⟨[.v (vb r)],[],false⟩:=by
 refine au Tryz.func194 rfl [(.tmp 2)] rfl (fun r=>⟨[.v (vb r)],[],false⟩) (r:=r) ?_
 unfold jg at h
 refine az aa [1] [1] ?_
 refine ac ?_
 refine bj h (fun j5=>⟨21,[(2,vb j5)],[]⟩) (fun v6 h=> ?_) (fun j5 h=> ?_)
 refine ab.cl aa 2 [1,4] [1] ?_
 obtain⟨x1,hx1,h⟩:=bind_some h
 refine ab.ls (xc wb (ij aN.Text _ hx1)) ?_
 refine ab.cl aa 1 [1,6] [1] ?_
 refine ab.cu [(6,fun b=>b)] h (fun h=> ?_) fun h=> ?_
 refine ab.cl aa 2 [1,6,8] [1] ?_
 obtain⟨x2,hx2,h⟩:=bind_some h
 refine ab.ls (xc wa (gq aN.Language _ hx2)) ?_
 refine ab.cl aa 2 [1,11] [1] ?_
 refine ab.cu [(11,fun b=>b)] h (fun h=> ?_) fun h=> ?_
 refine ab.cl aa 2 [1,11,13] [1] ?_
 obtain⟨x3,hx3,h⟩:=bind_some h
 refine ab.ls (xc m3 (dk aN.Status 0 2 _ hx3)) ?_
 refine ab.cl aa 2 [1,16] [1] ?_
 refine ab.cu [(16,fun b=>b)] h (fun h=> ?_) fun h=> ?_
 refine ab.cl aa 2 [16,18] [] ?_
 obtain⟨x4,hx4,h⟩:=bind_some h
 refine ab.ls (xc sO (jz aN.Years _ hx4)) ?_
 refine ab.cl aa 2 [2] [] ?_
 refine ab.nil ?_
 obtain rfl:=inj h
 exact Le.aq
 refine ab.ck aa 5 ⟨21,[(2,vb false)],[]⟩ ?_
 refine ab.nil ?_
 obtain rfl:=inj h
 exact Le.aq
 refine ab.cl aa 10 [2] [] ?_
 refine ab.nil ?_
 obtain rfl:=inj h
 exact Le.aq
 refine ab.cl aa 15 [2] [] ?_
 refine ab.nil ?_
 obtain rfl:=inj h
 exact Le.aq
 refine ag ?_
 obtain rfl:=inj h
 exact aD (f1 fv)
theorem A7:a8 Tryz.prog 194:=ax Tryz.func194 (by kernel_rfl) rfl
noncomputable def cN(aN:Name)(aZ:ByteArray):Option (Bool):=
 some ((aN.Status==0)&&(aN.Language.toList==aZ.toList))
theorem gw(aN:Name)(aZ:ByteArray)(r:Bool)(h:cN aN aZ=some r):aH Tryz.prog 196 [.v (.agg (tc ar aN)),.v (vs aZ)] ⟨[.v (vb r)],[],false⟩:=by
 refine au Tryz.func196 rfl [(.tmp 4)] rfl (fun r=>⟨[.v (vb r)],[],false⟩) (r:=r) ?_
 unfold cN at h
 refine az aa [1,2] [2] ?_
 refine ac ?_
 refine dc ⟨14,[(4,vb ((aN.Status==0)&&(aN.Language.toList==aZ.toList)))],[]⟩ ?_ ?_
 refine ab.ck aa 4 ⟨14,[(1,vs aZ),(2,.ref 2 0),(8,vb (aN.Status==0))],[(2,.box (tc ar aN))]⟩ ?_
 generalize (aN.Status==0)=bb
 cases bb
 refine ab.cl aa 6 [4] [] ?_
 exact ab.nil (Le.aq)
 refine ab.cl aa 6 [4] [] ?_
 exact ab.nil (Le.aq)
 refine ag ?_
 obtain rfl:=inj h
 exact aD (f1 fv)
theorem xa:a8 Tryz.prog 196:=ax Tryz.func196 (by kernel_rfl) rfl
noncomputable def dR(aS:Span)(aT:Span):Option (Bool):=
 some ((decide (aS.From≤aT.To))&&(decide (aT.From≤aS.To)))
theorem jF(aS:Span)(aT:Span)(r:Bool)(h:dR aS aT=some r):aH Tryz.prog 107 [.v (.agg (tc gp aS)),.v (.agg (tc gp aT))] ⟨[.v (vb r)],[],false⟩:=by
 refine au Tryz.func107 rfl [(.tmp 4)] rfl (fun r=>⟨[.v (vb r)],[],false⟩) (r:=r) ?_
 unfold dR at h
 refine az aa [2,3] [2,3] ?_
 refine ac ?_
 refine dc ⟨17,[(4,vb ((decide (aS.From≤aT.To))&&(decide (aT.From≤aS.To))))],[]⟩ ?_ ?_
 refine ab.ck aa 6 ⟨17,[(2,.ref 2 0),(3,.ref 3 0),(10,vb (decide (aS.From≤aT.To)))],[(2,.box (tc gp aS)),(3,.box (tc gp aT))]⟩ ?_
 generalize (decide (aS.From≤aT.To))=bb
 cases bb
 refine ab.cl aa 7 [4] [] ?_
 exact ab.nil (Le.aq)
 refine ab.cl aa 7 [4] [] ?_
 exact ab.nil (Le.aq)
 refine ag ?_
 obtain rfl:=inj h
 exact aD (f1 fv)
theorem wW:a8 Tryz.prog 107:=ax Tryz.func107 (by kernel_rfl) rfl
noncomputable def gJ(aM:Name)(c0:Name):Option (Bool):=
 ((((cN aM c0.Language).bind fun x1=>(bif x1 then((dR aM.Years c0.Years).bind fun x2=>some x2)else some false))).bind fun(j3:Bool)=>some j3)
theorem mE(aM:Name)(c0:Name)(r:Bool)(h:gJ aM c0=some r):aH Tryz.prog 195 [.v (.agg (tc ar aM)),.v (.ptr [vs c0.Text,vs c0.Language,vi c0.Status,vi c0.Years.From,vi c0.Years.To] 0)] ⟨[.v (vb r)],[],false⟩:=by
 refine au Tryz.func195 rfl [(.tmp 3)] rfl (fun r=>⟨[.v (vb r)],[],false⟩) (r:=r) ?_
 unfold gJ at h
 refine az aa [1,2] [2] ?_
 refine ac ?_
 refine bj h (fun j3=>⟨15,[(3,vb j3)],[]⟩) (fun v4 h=> ?_) (fun j3 h=> ?_)
 refine ab.cl aa 3 [1,2,4,6] [2] ?_
 obtain⟨x1,hx1,h⟩:=bind_some h
 refine ab.ls (xc xa (gw aM c0.Language _ hx1)) ?_
 refine ab.cl aa 1 [1,2,8] [2] ?_
 refine ab.cu [(8,fun b=>b)] h (fun h=> ?_) fun h=> ?_
 refine ab.cl aa 4 [8,10,12] [] ?_
 obtain⟨x2,hx2,h⟩:=bind_some h
 refine ab.ls (xc wW (jF aM.Years c0.Years _ hx2)) ?_
 refine ab.cl aa 2 [3] [] ?_
 refine ab.nil ?_
 obtain rfl:=inj h
 exact Le.aq
 refine ab.cl aa 7 [3] [] ?_
 refine ab.nil ?_
 obtain rfl:=inj h
 exact Le.aq
 refine ag ?_
 obtain rfl:=inj h
 exact aD (f1 fv)
theorem A8:a8 Tryz.prog 195:=ax Tryz.func195 (by kernel_rfl) rfl
noncomputable def bR(aS:(List Name))(cT:Name):Option (Int):=
 (((cW (aS.length:Int) (fun(i3:Int) (_:Unit)=>((at' aS i3).bind fun x7=>((gJ x7 cT).bind fun x8=>(bif x8 then some (.inr (.inr i3))else some (.inl ()))))) (fun(_:Unit)=> .inl ()) 0 ())).bind (Sum.elim (fun(_:Unit)=>some (-1)) some))
theorem fi(aS:(List Name))(cT:Name)(r:Int)(h:bR aS cT=some r):aH Tryz.prog 197 [.v (vl ar aS),.v (.clo 195 [.ptr [vs cT.Text,vs cT.Language,vi cT.Status,vi cT.Years.From,vi cT.Years.To] 0])] ⟨[.v (vi r)],[],false⟩:=by
 refine au Tryz.func197 rfl [(.tmp 4)] rfl (fun r=>⟨[.v (vi r)],[],false⟩) (r:=r) ?_
 unfold bR at h
 refine az aa [0,1] [] ?_
 refine ac ?_
 refine az aa [0,1,7,8] [] ?_
 refine bi (r:=r) h (fun j1=>⟨19,[],[]⟩) (fun v2 h=> ?_) (fun j1 h=> ?_)
 refine ay (a:=v2) ?_
 refine a6 (r:=v2) (s:=(0,())) _ (fun s3=>⟨19,[(0,vl ar aS),(1,.clo 195 [.ptr [vs cT.Text,vs cT.Language,vi cT.Status,vi cT.Years.From,vi cT.Years.To] 0]),(7,vi (aS.length:Int)),(8,vi s3.1)],[]⟩) _ (Le.aq) h (fun s3 v4 h=> ?_)
 refine az aa [0,1,7,8,9] [] ?_
 refine ac ?_
 refine ao h (fun h=> ?_) fun h=> ?_
 refine ai ?_
 refine aY ?_
 refine ac ?_
 refine bn (r:=v4) h (fun j5=>⟨19,[(0,vl ar aS),(1,.clo 195 [.ptr [vs cT.Text,vs cT.Language,vi cT.Status,vi cT.Years.From,vi cT.Years.To] 0]),(7,vi (aS.length:Int)),(8,vi s3.1)],[]⟩) (fun v6 h=> ?_) (fun j5 h=> ?_)
 refine ay (a:=v6) ?_
 refine az aa [0,1,5,7,8] [] ?_
 refine sr ?_
 refine ab.cl aa 3 [0,1,5,7,8,11,12,13] [] ?_
 obtain⟨x7,hx7,h⟩:=bind_some h
 refine ab.ls (aG (L:=aS) (f:=ar) (ti:=dd) (tj:=cH) (e:=169) (k:= .i64) aa rfl hx7) ?_
 refine ab.cl aa 1 [0,1,5,7,8,11,15] [] ?_
 obtain⟨x8,hx8,h⟩:=bind_some h
 refine ab.ls (xc A8 (mE x7 cT _ hx8)) ?_
 refine ab.nx ?_
 refine ao h (fun h=> ?_) fun h=> ?_
 refine az aa [4] [] ?_
 refine ag ?_
 obtain rfl:=inj h
 exact bm (aU (aU (bm (aU (aD (f1 fv))))))
 refine ai ?_
 obtain rfl:=inj h
 exact bT (bZ (Le.aq))
 refine aF ?_
 refine ab.cl aa 2 [0,1,7,8] [] ?_
 refine ab.nil ?_
 obtain rfl:=inj h
 exact bZ (Le.aq)
 refine aQ ?_
 obtain rfl:=inj h
 exact cD (cF (cE (bZ (Le.aq))))
 refine az aa [4] [] ?_
 refine ag ?_
 obtain rfl:=inj h
 exact aD (f1 fv)
theorem sT:a8 Tryz.prog 197:=ax Tryz.func197 (by kernel_rfl) rfl
noncomputable def bE(aS:(List Name))(cT:Name):Option (Bool):=
 ((bR aS cT).bind fun x1=>some (decide (x1≥0)))
theorem eH(aS:(List Name))(cT:Name)(r:Bool)(h:bE aS cT=some r):aH Tryz.prog 158 [.v (vl ar aS),.v (.clo 195 [.ptr [vs cT.Text,vs cT.Language,vi cT.Status,vi cT.Years.From,vi cT.Years.To] 0])] ⟨[.v (vb r)],[],false⟩:=by
 refine au Tryz.func158 rfl [(.tmp 4)] rfl (fun r=>⟨[.v (vb r)],[],false⟩) (r:=r) ?_
 unfold bE at h
 refine az aa [0,1] [] ?_
 refine sr ?_
 refine ab.cl aa 2 [5,6] [] ?_
 obtain⟨x1,hx1,h⟩:=bind_some h
 refine ab.ls (xc sT (fi aS cT _ hx1)) ?_
 refine bO aa 2 [4] [] ?_
 refine ag ?_
 obtain rfl:=inj h
 exact aD (f1 fv)
theorem w5:a8 Tryz.prog 158:=ax Tryz.func158 (by kernel_rfl) rfl
noncomputable def fq(ah:(List Name)):Option (Bool):=
 (((cW (ah.length:Int) (fun(i3:Int) (_:Unit)=>((at' ah i3).bind fun x7=>((jg x7).bind fun x8=>(bif(!x8)then some (.inr (.inr false))else((mS ah 0 i3).bind fun x9=>((bE x9 x7).bind fun x10=>(bif((x7.Status==0)&&x10)then some (.inr (.inr false))else some (.inl ())))))))) (fun(_:Unit)=> .inl ()) 0 ())).bind (Sum.elim (fun(_:Unit)=>some (decide ((ah.length:Int)≤12))) some))
theorem kz(ah:(List Name))(r:Bool)(h:fq ah=some r):aH Tryz.prog 157 [.v (vl ar ah)] ⟨[.v (vb r)],[],false⟩:=by
 refine au Tryz.func157 rfl [(.tmp 2)] rfl (fun r=>⟨[.v (vb r)],[],false⟩) (r:=r) ?_
 unfold fq at h
 refine az aa [0] [] ?_
 refine ac ?_
 refine az aa [0,6,7,8] [] ?_
 refine bi (r:=r) h (fun j1=>⟨31,[(0,vl ar ah)],[]⟩) (fun v2 h=> ?_) (fun j1 h=> ?_)
 refine ay (a:=v2) ?_
 refine a6 (r:=v2) (s:=(0,())) _ (fun s3=>⟨31,[(0,vl ar ah),(6,vl ar ah),(7,vi (ah.length:Int)),(8,vi s3.1)],[]⟩) _ (Le.aq) h (fun s3 v4 h=> ?_)
 refine az aa [0,6,7,8,9] [] ?_
 refine ac ?_
 refine ao h (fun h=> ?_) fun h=> ?_
 refine ai ?_
 refine aY ?_
 refine ac ?_
 refine bn (r:=v4) h (fun j5=>⟨31,[(0,vl ar ah),(6,vl ar ah),(7,vi (ah.length:Int)),(8,vi s3.1)],[]⟩) (fun v6 h=> ?_) (fun j5 h=> ?_)
 refine ay (a:=v6) ?_
 refine sr ?_
 refine ab.cl aa 1 [0,6,7,8,10] [] ?_
 obtain⟨x7,hx7,h⟩:=bind_some h
 refine ab.ls (aG (L:=ah) (f:=ar) (ti:=dd) (tj:=cH) (e:=169) (k:= .i64) aa rfl hx7) ?_
 refine bO aa 4 [0,3,4,6,7,8] [4] ?_
 refine ac ?_
 refine sr ?_
 refine ab.cl aa 1 [0,3,4,6,7,8,13] [4] ?_
 obtain⟨x8,hx8,h⟩:=bind_some h
 refine ab.ls (xc A7 (py x7 _ hx8)) ?_
 refine bO aa 1 [0,3,4,6,7,8,15] [4] ?_
 refine ao h (fun h=> ?_) fun h=> ?_
 refine az aa [2] [] ?_
 refine ag ?_
 obtain rfl:=inj h
 exact bw (bm (aU (aU (bm (aU (aD (f1 fv)))))))
 refine ai ?_
 refine aY ?_
 refine sr ?_
 refine ab.cl aa 2 [0,4,6,7,8,16,17] [4] ?_
 obtain⟨x9,hx9,h⟩:=bind_some h
 refine ab.ls (c9 (m:=5) (f:=ar) (ti:=dd) (tj:=cH) (e:=169) hx9 (fun _=>rfl) aa rfl) ?_
 refine ab.cl aa 1 [0,4,6,7,8,18,19] [4] ?_
 obtain⟨x10,hx10,h⟩:=bind_some h
 refine ab.ls (xc w5 (eH x9 x7 _ hx10)) ?_
 refine bO aa 1 [0,4,5,6,7,8] [4] ?_
 refine ac ?_
 refine dc ⟨31,[(0,vl ar ah),(6,vl ar ah),(7,vi (ah.length:Int)),(8,vi s3.1),(26,vb ((x7.Status==0)&&x10))],[]⟩ ?_ ?_
 refine ab.ck aa 4 ⟨31,[(0,vl ar ah),(5,vb x10),(6,vl ar ah),(7,vi (ah.length:Int)),(8,vi s3.1),(24,vb (x7.Status==0))],[]⟩ ?_
 generalize (x7.Status==0)=bb
 cases bb
 refine ab.cl aa 2 [0,6,7,8,26] [] ?_
 exact ab.nil (Le.aq)
 refine ab.cl aa 2 [0,6,7,8,26] [] ?_
 exact ab.nil (Le.aq)
 refine ao h (fun h=> ?_) fun h=> ?_
 refine az aa [2] [] ?_
 refine ag ?_
 obtain rfl:=inj h
 exact bm (aU (aU (bm (aU (aD (f1 fv))))))
 refine ai ?_
 obtain rfl:=inj h
 exact bT (bZ (Le.aq))
 refine aF ?_
 refine ab.cl aa 2 [0,6,7,8] [] ?_
 refine ab.nil ?_
 obtain rfl:=inj h
 exact bZ (Le.aq)
 refine aQ ?_
 obtain rfl:=inj h
 exact cD (cF (cE (bZ (Le.aq))))
 refine az aa [2] [] ?_
 refine ag ?_
 obtain rfl:=inj h
 exact aD (f1 fv)
theorem w4:a8 Tryz.prog 157:=ax Tryz.func157 (by kernel_rfl) rfl
noncomputable def ey(aS:Span)(aT:Span):Option (Bool):=
 some ((decide (aT.From≤aS.From))&&(decide (aS.To≤aT.To)))
theorem kf(aS:Span)(aT:Span)(r:Bool)(h:ey aS aT=some r):aH Tryz.prog 111 [.v (.agg (tc gp aS)),.v (.agg (tc gp aT))] ⟨[.v (vb r)],[],false⟩:=by
 refine au Tryz.func111 rfl [(.tmp 4)] rfl (fun r=>⟨[.v (vb r)],[],false⟩) (r:=r) ?_
 unfold ey at h
 refine az aa [2,3] [2,3] ?_
 refine ac ?_
 refine dc ⟨17,[(4,vb ((decide (aT.From≤aS.From))&&(decide (aS.To≤aT.To))))],[]⟩ ?_ ?_
 refine ab.ck aa 6 ⟨17,[(2,.ref 2 0),(3,.ref 3 0),(10,vb (decide (aT.From≤aS.From)))],[(2,.box (tc gp aS)),(3,.box (tc gp aT))]⟩ ?_
 generalize (decide (aT.From≤aS.From))=bb
 cases bb
 refine ab.cl aa 7 [4] [] ?_
 exact ab.nil (Le.aq)
 refine ab.cl aa 7 [4] [] ?_
 exact ab.nil (Le.aq)
 refine ag ?_
 obtain rfl:=inj h
 exact aD (f1 fv)
theorem wX:a8 Tryz.prog 111:=ax Tryz.func111 (by kernel_rfl) rfl
noncomputable def il(aN:Name)(c0:Place):Option (Bool):=
 ((ey aN.Years c0.Years).bind fun x1=>some (!x1))
theorem m5(aN:Name)(c0:Place)(r:Bool)(h:il aN c0=some r):aH Tryz.prog 159 [.v (.agg (tc ar aN)),.v (.ptr [vs c0.Code,vi c0.Class,vi c0.Years.From,vi c0.Years.To,vl ar c0.Names] 0)] ⟨[.v (vb r)],[],false⟩:=by
 refine au Tryz.func159 rfl [(.tmp 3)] rfl (fun r=>⟨[.v (vb r)],[],false⟩) (r:=r) ?_
 unfold il at h
 refine az aa [1,2] [2] ?_
 refine sr ?_
 refine ab.cl aa 4 [5,7] [] ?_
 obtain⟨x1,hx1,h⟩:=bind_some h
 refine ab.ls (xc wX (kf aN.Years c0.Years _ hx1)) ?_
 refine bO aa 2 [3] [] ?_
 refine ag ?_
 obtain rfl:=inj h
 exact aD (f1 fv)
theorem AP:a8 Tryz.prog 159:=ax Tryz.func159 (by kernel_rfl) rfl
noncomputable def bV(aS:(List Name))(cT:Place):Option (Int):=
 (((cW (aS.length:Int) (fun(i3:Int) (_:Unit)=>((at' aS i3).bind fun x7=>((il x7 cT).bind fun x8=>(bif x8 then some (.inr (.inr i3))else some (.inl ()))))) (fun(_:Unit)=> .inl ()) 0 ())).bind (Sum.elim (fun(_:Unit)=>some (-1)) some))
theorem fA(aS:(List Name))(cT:Place)(r:Int)(h:bV aS cT=some r):aH Tryz.prog 197 [.v (vl ar aS),.v (.clo 159 [.ptr [vs cT.Code,vi cT.Class,vi cT.Years.From,vi cT.Years.To,vl ar cT.Names] 0])] ⟨[.v (vi r)],[],false⟩:=by
 refine au Tryz.func197 rfl [(.tmp 4)] rfl (fun r=>⟨[.v (vi r)],[],false⟩) (r:=r) ?_
 unfold bV at h
 refine az aa [0,1] [] ?_
 refine ac ?_
 refine az aa [0,1,7,8] [] ?_
 refine bi (r:=r) h (fun j1=>⟨19,[],[]⟩) (fun v2 h=> ?_) (fun j1 h=> ?_)
 refine ay (a:=v2) ?_
 refine a6 (r:=v2) (s:=(0,())) _ (fun s3=>⟨19,[(0,vl ar aS),(1,.clo 159 [.ptr [vs cT.Code,vi cT.Class,vi cT.Years.From,vi cT.Years.To,vl ar cT.Names] 0]),(7,vi (aS.length:Int)),(8,vi s3.1)],[]⟩) _ (Le.aq) h (fun s3 v4 h=> ?_)
 refine az aa [0,1,7,8,9] [] ?_
 refine ac ?_
 refine ao h (fun h=> ?_) fun h=> ?_
 refine ai ?_
 refine aY ?_
 refine ac ?_
 refine bn (r:=v4) h (fun j5=>⟨19,[(0,vl ar aS),(1,.clo 159 [.ptr [vs cT.Code,vi cT.Class,vi cT.Years.From,vi cT.Years.To,vl ar cT.Names] 0]),(7,vi (aS.length:Int)),(8,vi s3.1)],[]⟩) (fun v6 h=> ?_) (fun j5 h=> ?_)
 refine ay (a:=v6) ?_
 refine az aa [0,1,5,7,8] [] ?_
 refine sr ?_
 refine ab.cl aa 3 [0,1,5,7,8,11,12,13] [] ?_
 obtain⟨x7,hx7,h⟩:=bind_some h
 refine ab.ls (aG (L:=aS) (f:=ar) (ti:=dd) (tj:=cH) (e:=169) (k:= .i64) aa rfl hx7) ?_
 refine ab.cl aa 1 [0,1,5,7,8,11,15] [] ?_
 obtain⟨x8,hx8,h⟩:=bind_some h
 refine ab.ls (xc AP (m5 x7 cT _ hx8)) ?_
 refine ab.nx ?_
 refine ao h (fun h=> ?_) fun h=> ?_
 refine az aa [4] [] ?_
 refine ag ?_
 obtain rfl:=inj h
 exact bm (aU (aU (bm (aU (aD (f1 fv))))))
 refine ai ?_
 obtain rfl:=inj h
 exact bT (bZ (Le.aq))
 refine aF ?_
 refine ab.cl aa 2 [0,1,7,8] [] ?_
 refine ab.nil ?_
 obtain rfl:=inj h
 exact bZ (Le.aq)
 refine aQ ?_
 obtain rfl:=inj h
 exact cD (cF (cE (bZ (Le.aq))))
 refine az aa [4] [] ?_
 refine ag ?_
 obtain rfl:=inj h
 exact aD (f1 fv)
noncomputable def bK(aS:(List Name))(cT:Place):Option (Bool):=
 ((bV aS cT).bind fun x1=>some (decide (x1≥0)))
theorem eQ(aS:(List Name))(cT:Place)(r:Bool)(h:bK aS cT=some r):aH Tryz.prog 158 [.v (vl ar aS),.v (.clo 159 [.ptr [vs cT.Code,vi cT.Class,vi cT.Years.From,vi cT.Years.To,vl ar cT.Names] 0])] ⟨[.v (vb r)],[],false⟩:=by
 refine au Tryz.func158 rfl [(.tmp 4)] rfl (fun r=>⟨[.v (vb r)],[],false⟩) (r:=r) ?_
 unfold bK at h
 refine az aa [0,1] [] ?_
 refine sr ?_
 refine ab.cl aa 2 [5,6] [] ?_
 obtain⟨x1,hx1,h⟩:=bind_some h
 refine ab.ls (xc sT (fA aS cT _ hx1)) ?_
 refine bO aa 2 [4] [] ?_
 refine ag ?_
 obtain rfl:=inj h
 exact aD (f1 fv)
noncomputable def ik(aP:Place):Option (Bool):=
 ((((eT aP.Code).bind fun x1=>(bif x1 then((dF aP.Class 0 19).bind fun x2=>(bif x2 then((fJ aP.Years).bind fun x3=>(bif x3 then((fq aP.Names).bind fun x4=>(bif x4 then((bK aP.Names aP).bind fun x5=>some (!x5))else some false))else some false))else some false))else some false))).bind fun(j6:Bool)=>some j6)
theorem oz(aP:Place)(r:Bool)(h:ik aP=some r):aH Tryz.prog 104 [.v (.agg (tc ad aP))] ⟨[.v (vb r)],[],false⟩:=by
 refine au Tryz.func104 rfl [(.tmp 2)] rfl (fun r=>⟨[.v (vb r)],[],false⟩) (r:=r) ?_
 unfold ik at h
 refine az aa [1] [1] ?_
 refine ac ?_
 refine bj h (fun j6=>⟨28,[(2,vb j6)],[]⟩) (fun v7 h=> ?_) (fun j6 h=> ?_)
 refine ab.cl aa 2 [1,4] [1] ?_
 obtain⟨x1,hx1,h⟩:=bind_some h
 refine ab.ls (xc sU (gK aP.Code _ hx1)) ?_
 refine ab.cl aa 1 [1,6] [1] ?_
 refine ab.cu [(6,fun b=>b)] h (fun h=> ?_) fun h=> ?_
 refine ab.cl aa 2 [1,6,8] [1] ?_
 obtain⟨x2,hx2,h⟩:=bind_some h
 refine ab.ls (xc m3 (dk aP.Class 0 19 _ hx2)) ?_
 refine ab.cl aa 2 [1,11] [1] ?_
 refine ab.cu [(11,fun b=>b)] h (fun h=> ?_) fun h=> ?_
 refine ab.cl aa 2 [1,11,13] [1] ?_
 obtain⟨x3,hx3,h⟩:=bind_some h
 refine ab.ls (xc sO (jz aP.Years _ hx3)) ?_
 refine ab.cl aa 2 [1,16] [1] ?_
 refine ab.cu [(16,fun b=>b)] h (fun h=> ?_) fun h=> ?_
 refine ab.cl aa 2 [1,16,18] [1] ?_
 obtain⟨x4,hx4,h⟩:=bind_some h
 refine ab.ls (xc w4 (kz aP.Names _ hx4)) ?_
 refine ab.cl aa 2 [1,21] [1] ?_
 refine ab.cu [(21,fun b=>b)] h (fun h=> ?_) fun h=> ?_
 refine ab.ck aa 3 ⟨28,[(21,vb true),(23,vl ar aP.Names),(24,.clo 159 [.ref 1 0])],[(1,.box (tc ad aP))]⟩ ?_
 obtain⟨x5,hx5,h⟩:=bind_some h
 refine ab.ls (xc w5 (eQ aP.Names aP _ hx5)) ?_
 refine ab.cl aa 3 [2] [] ?_
 refine ab.nil ?_
 obtain rfl:=inj h
 exact Le.aq
 refine ab.cl aa 7 [2] [] ?_
 refine ab.nil ?_
 obtain rfl:=inj h
 exact Le.aq
 refine ab.cl aa 12 [2] [] ?_
 refine ab.nil ?_
 obtain rfl:=inj h
 exact Le.aq
 refine ab.cl aa 17 [2] [] ?_
 refine ab.nil ?_
 obtain rfl:=inj h
 exact Le.aq
 refine ab.cl aa 22 [2] [] ?_
 refine ab.nil ?_
 obtain rfl:=inj h
 exact Le.aq
 refine ag ?_
 obtain rfl:=inj h
 exact aD (f1 fv)
theorem Ar:a8 Tryz.prog 104:=ax Tryz.func104 (by kernel_rfl) rfl
noncomputable def fa(ah:(List Place)):Option (Bool):=
 (((cW (ah.length:Int) (fun(i3:Int) (_:Unit)=>((at' ah i3).bind fun x7=>((((ik x7).bind fun x8=>(bif(!x8)then some true else(bif(decide (i3>0))then((at' ah (aJ (i3 - 1))).bind fun x9=>some (!(Op.bytesLess x9.Code.toList x7.Code.toList)))else some false)))).bind fun(j10:Bool)=>(bif j10 then some (.inr (.inr false))else some (.inl ()))))) (fun(_:Unit)=> .inl ()) 0 ())).bind (Sum.elim (fun(_:Unit)=>some (decide ((ah.length:Int)≤10))) some))
theorem mG(ah:(List Place))(r:Bool)(h:fa ah=some r):aH Tryz.prog 54 [.v (vl ad ah)] ⟨[.v (vb r)],[],false⟩:=by
 refine au Tryz.func54 rfl [(.tmp 2)] rfl (fun r=>⟨[.v (vb r)],[],false⟩) (r:=r) ?_
 unfold fa at h
 refine az aa [0] [] ?_
 refine ac ?_
 refine az aa [0,5,6,7] [] ?_
 refine bi (r:=r) h (fun j1=>⟨34,[(0,vl ad ah)],[]⟩) (fun v2 h=> ?_) (fun j1 h=> ?_)
 refine ay (a:=v2) ?_
 refine a6 (r:=v2) (s:=(0,())) _ (fun s3=>⟨34,[(0,vl ad ah),(5,vl ad ah),(6,vi (ah.length:Int)),(7,vi s3.1)],[]⟩) _ (Le.aq) h (fun s3 v4 h=> ?_)
 refine az aa [0,5,6,7,8] [] ?_
 refine ac ?_
 refine ao h (fun h=> ?_) fun h=> ?_
 refine ai ?_
 refine aY ?_
 refine ac ?_
 refine bn (r:=v4) h (fun j5=>⟨34,[(0,vl ad ah),(5,vl ad ah),(6,vi (ah.length:Int)),(7,vi s3.1)],[]⟩) (fun v6 h=> ?_) (fun j5 h=> ?_)
 refine ay (a:=v6) ?_
 refine sr ?_
 refine ab.cl aa 1 [0,5,6,7,9] [] ?_
 obtain⟨x7,hx7,h⟩:=bind_some h
 refine ab.ls (aG (L:=ah) (f:=ad) (ti:=cP) (tj:=cd) (e:=91) (k:= .i64) aa rfl hx7) ?_
 refine bO aa 4 [0,3,4,5,6,7] [4] ?_
 refine ac ?_
 refine jR mixed h (fun j10=>⟨34,[(0,vl ad ah),(5,vl ad ah),(6,vi (ah.length:Int)),(7,vi s3.1),(29,vb j10)],[]⟩) (fun v11 h=> ?_) (fun j10 h=> ?_)
 refine aR.cl aa false 1 [0,3,4,5,6,7,12] [4] ?_
 obtain⟨x8,hx8,h⟩:=bind_some h
 refine aR.step (xc Ar (oz x7 _ hx8)) ?_
 refine aR.cl aa false 2 [0,3,4,5,6,7,15] [4] ?_
 refine aR.cu [(15,fun b=>b)] h (fun h=> ?_) fun h=> ?_
 refine aR.cl aa false 14 [0,5,6,7,29] [] ?_
 refine aR.nil (by kernel_rfl) ?_
 obtain rfl:=inj h
 exact Le.aq
 refine aR.cl aa false 3 [0,3,4,5,6,7,15,18] [4] ?_
 refine aR.cu [(18,fun b=>b)] h (fun h=> ?_) fun h=> ?_
 refine aR.cl aa false 3 [0,4,5,6,7,15,18,19,21] [4] ?_
 obtain⟨x9,hx9,h⟩:=bind_some h
 refine aR.step (aG (L:=ah) (f:=ad) (ti:=cP) (tj:=cd) (e:=91) (k:= .i64) aa rfl hx9) ?_
 refine aR.cl aa false 7 [0,5,6,7,29] [] ?_
 refine aR.nil (by kernel_rfl) ?_
 obtain rfl:=inj h
 exact Le.aq
 refine aR.cl aa false 11 [0,5,6,7,29] [] ?_
 refine aR.nil (by kernel_rfl) ?_
 obtain rfl:=inj h
 exact Le.aq
 refine ao h (fun h=> ?_) fun h=> ?_
 refine az aa [2] [] ?_
 refine ag ?_
 obtain rfl:=inj h
 exact bm (aU (aU (bm (aU (aD (f1 fv))))))
 refine ai ?_
 obtain rfl:=inj h
 exact bT (bZ (Le.aq))
 refine aF ?_
 refine ab.ck aa 2 ⟨34,[(0,vl ad ah),(5,vl ad ah),(6,vi (ah.length:Int)),(7,vi (aJ (s3.1+1)))],[]⟩ ?_
 refine ab.nil ?_
 obtain rfl:=inj h
 exact bZ (Le.aq)
 refine aQ ?_
 obtain rfl:=inj h
 exact cD (cF (cE (bZ (Le.aq))))
 refine az aa [2] [] ?_
 refine ag ?_
 obtain rfl:=inj h
 exact aD (f1 fv)
theorem Cn:a8 Tryz.prog 54:=ax Tryz.func54 (by kernel_rfl) rfl
noncomputable def jk(aL:aw):Option (Bool):=
 ((((eh ([aL.Child,aL.Parent]:List ByteArray)).bind fun x1=>(bif x1 then(bif(!(aL.Child.toList==aL.Parent.toList))then((fJ aL.Years).bind fun x2=>some x2)else some false)else some false))).bind fun(j3:Bool)=>some j3)
theorem pz(aL:aw)(r:Bool)(h:jk aL=some r):aH Tryz.prog 105 [.v (.agg (tc ae aL))] ⟨[.v (vb r)],[],false⟩:=by
 refine au Tryz.func105 rfl [(.tmp 2)] rfl (fun r=>⟨[.v (vb r)],[],false⟩) (r:=r) ?_
 unfold jk at h
 refine az aa [1] [1] ?_
 refine ac ?_
 refine bj h (fun j3=>⟨21,[(2,vb j3)],[]⟩) (fun v4 h=> ?_) (fun j3 h=> ?_)
 refine ab.cl aa 5 [1,7] [1,7] ?_
 obtain⟨x1,hx1,h⟩:=bind_some h
 refine ab.ls (xc sL (iq ([aL.Child,aL.Parent]:List ByteArray) _ hx1)) ?_
 refine ab.cl aa 1 [1,9] [1] ?_
 refine ab.cu [(9,fun b=>b)] h (fun h=> ?_) fun h=> ?_
 refine ab.cl aa 7 [1,16] [1] ?_
 refine ab.cu [(16,fun b=>b)] h (fun h=> ?_) fun h=> ?_
 refine ab.cl aa 2 [16,18] [] ?_
 obtain⟨x2,hx2,h⟩:=bind_some h
 refine ab.ls (xc sO (jz aL.Years _ hx2)) ?_
 refine ab.cl aa 2 [2] [] ?_
 refine ab.nil ?_
 obtain rfl:=inj h
 exact Le.aq
 refine ab.cl aa 5 [2] [] ?_
 refine ab.nil ?_
 obtain rfl:=inj h
 exact Le.aq
 refine ab.cl aa 12 [2] [] ?_
 refine ab.nil ?_
 obtain rfl:=inj h
 exact Le.aq
 refine ag ?_
 obtain rfl:=inj h
 exact aD (f1 fv)
theorem As:a8 Tryz.prog 105:=ax Tryz.func105 (by kernel_rfl) rfl
noncomputable def gI(aM:aw)(c0:aw):Option (Bool):=
 (((bif(aM.Child.toList==c0.Child.toList)then((dR aM.Years c0.Years).bind fun x1=>some x1)else some false)).bind fun(j2:Bool)=>some j2)
theorem mD(aM:aw)(c0:aw)(r:Bool)(h:gI aM c0=some r):aH Tryz.prog 106 [.v (.agg (tc ae aM)),.v (.ptr [vs c0.Child,vs c0.Parent,vi c0.Years.From,vi c0.Years.To] 0)] ⟨[.v (vb r)],[],false⟩:=by
 refine au Tryz.func106 rfl [(.tmp 3)] rfl (fun r=>⟨[.v (vb r)],[],false⟩) (r:=r) ?_
 unfold gI at h
 refine az aa [1,2] [2] ?_
 refine ac ?_
 refine bj h (fun j2=>⟨16,[(3,vb j2)],[]⟩) (fun v3 h=> ?_) (fun j2 h=> ?_)
 refine ab.cl aa 6 [1,2,9] [2] ?_
 refine ab.cu [(9,fun b=>b)] h (fun h=> ?_) fun h=> ?_
 refine ab.cl aa 4 [9,11,13] [] ?_
 obtain⟨x1,hx1,h⟩:=bind_some h
 refine ab.ls (xc wW (jF aM.Years c0.Years _ hx1)) ?_
 refine ab.cl aa 2 [3] [] ?_
 refine ab.nil ?_
 obtain rfl:=inj h
 exact Le.aq
 refine ab.cl aa 7 [3] [] ?_
 refine ab.nil ?_
 obtain rfl:=inj h
 exact Le.aq
 refine ag ?_
 obtain rfl:=inj h
 exact aD (f1 fv)
theorem Au:a8 Tryz.prog 106:=ax Tryz.func106 (by kernel_rfl) rfl
noncomputable def bP(aS:(List aw))(cT:aw):Option (Int):=
 (((cW (aS.length:Int) (fun(i3:Int) (_:Unit)=>((at' aS i3).bind fun x7=>((gI x7 cT).bind fun x8=>(bif x8 then some (.inr (.inr i3))else some (.inl ()))))) (fun(_:Unit)=> .inl ()) 0 ())).bind (Sum.elim (fun(_:Unit)=>some (-1)) some))
theorem fg(aS:(List aw))(cT:aw)(r:Int)(h:bP aS cT=some r):aH Tryz.prog 109 [.v (vl ae aS),.v (.clo 106 [.ptr [vs cT.Child,vs cT.Parent,vi cT.Years.From,vi cT.Years.To] 0])] ⟨[.v (vi r)],[],false⟩:=by
 refine au Tryz.func109 rfl [(.tmp 4)] rfl (fun r=>⟨[.v (vi r)],[],false⟩) (r:=r) ?_
 unfold bP at h
 refine az aa [0,1] [] ?_
 refine ac ?_
 refine az aa [0,1,7,8] [] ?_
 refine bi (r:=r) h (fun j1=>⟨19,[],[]⟩) (fun v2 h=> ?_) (fun j1 h=> ?_)
 refine ay (a:=v2) ?_
 refine a6 (r:=v2) (s:=(0,())) _ (fun s3=>⟨19,[(0,vl ae aS),(1,.clo 106 [.ptr [vs cT.Child,vs cT.Parent,vi cT.Years.From,vi cT.Years.To] 0]),(7,vi (aS.length:Int)),(8,vi s3.1)],[]⟩) _ (Le.aq) h (fun s3 v4 h=> ?_)
 refine az aa [0,1,7,8,9] [] ?_
 refine ac ?_
 refine ao h (fun h=> ?_) fun h=> ?_
 refine ai ?_
 refine aY ?_
 refine ac ?_
 refine bn (r:=v4) h (fun j5=>⟨19,[(0,vl ae aS),(1,.clo 106 [.ptr [vs cT.Child,vs cT.Parent,vi cT.Years.From,vi cT.Years.To] 0]),(7,vi (aS.length:Int)),(8,vi s3.1)],[]⟩) (fun v6 h=> ?_) (fun j5 h=> ?_)
 refine ay (a:=v6) ?_
 refine az aa [0,1,5,7,8] [] ?_
 refine sr ?_
 refine ab.cl aa 3 [0,1,5,7,8,11,12,13] [] ?_
 obtain⟨x7,hx7,h⟩:=bind_some h
 refine ab.ls (aG (L:=aS) (f:=ae) (ti:=dp) (tj:=dq) (e:=85) (k:= .i64) aa rfl hx7) ?_
 refine ab.cl aa 1 [0,1,5,7,8,11,15] [] ?_
 obtain⟨x8,hx8,h⟩:=bind_some h
 refine ab.ls (xc Au (mD x7 cT _ hx8)) ?_
 refine ab.nx ?_
 refine ao h (fun h=> ?_) fun h=> ?_
 refine az aa [4] [] ?_
 refine ag ?_
 obtain rfl:=inj h
 exact bm (aU (aU (bm (aU (aD (f1 fv))))))
 refine ai ?_
 obtain rfl:=inj h
 exact bT (bZ (Le.aq))
 refine aF ?_
 refine ab.cl aa 2 [0,1,7,8] [] ?_
 refine ab.nil ?_
 obtain rfl:=inj h
 exact bZ (Le.aq)
 refine aQ ?_
 obtain rfl:=inj h
 exact cD (cF (cE (bZ (Le.aq))))
 refine az aa [4] [] ?_
 refine ag ?_
 obtain rfl:=inj h
 exact aD (f1 fv)
theorem sI:a8 Tryz.prog 109:=ax Tryz.func109 (by kernel_rfl) rfl
noncomputable def bD(aS:(List aw))(cT:aw):Option (Bool):=
 ((bP aS cT).bind fun x1=>some (decide (x1≥0)))
theorem eG(aS:(List aw))(cT:aw)(r:Bool)(h:bD aS cT=some r):aH Tryz.prog 56 [.v (vl ae aS),.v (.clo 106 [.ptr [vs cT.Child,vs cT.Parent,vi cT.Years.From,vi cT.Years.To] 0])] ⟨[.v (vb r)],[],false⟩:=by
 refine au Tryz.func56 rfl [(.tmp 4)] rfl (fun r=>⟨[.v (vb r)],[],false⟩) (r:=r) ?_
 unfold bD at h
 refine az aa [0,1] [] ?_
 refine sr ?_
 refine ab.cl aa 2 [5,6] [] ?_
 obtain⟨x1,hx1,h⟩:=bind_some h
 refine ab.ls (xc sI (fg aS cT _ hx1)) ?_
 refine bO aa 2 [4] [] ?_
 refine ag ?_
 obtain rfl:=inj h
 exact aD (f1 fv)
theorem y9:a8 Tryz.prog 56:=ax Tryz.func56 (by kernel_rfl) rfl
noncomputable def bH(aS:Span)(an:Int):Option (Bool):=
 ((dF an aS.From aS.To).bind fun x1=>some x1)
theorem cA(aS:Span)(an:Int)(r:Bool)(h:bH aS an=some r):aH Tryz.prog 87 [.v (.agg (tc gp aS)),.v (vi an)] ⟨[.v (vb r)],[],false⟩:=by
 refine au Tryz.func87 rfl [(.tmp 4)] rfl (fun r=>⟨[.v (vb r)],[],false⟩) (r:=r) ?_
 unfold bH at h
 refine az aa [1,2] [2] ?_
 refine sr ?_
 refine ab.cl aa 5 [5,7,9] [] ?_
 obtain⟨x1,hx1,h⟩:=bind_some h
 refine ab.ls (xc m3 (dk an aS.From aS.To _ hx1)) ?_
 refine bO aa 1 [4] [] ?_
 refine ag ?_
 obtain rfl:=inj h
 exact aD (f1 fv)
theorem lV:a8 Tryz.prog 87:=ax Tryz.func87 (by kernel_rfl) rfl
noncomputable def gM(aL:aw)(c0:ByteArray)(c1:Int):Option (Bool):=
 (((bif(aL.Child.toList==c0.toList)then((bH aL.Years c1).bind fun x1=>some x1)else some false)).bind fun(j2:Bool)=>some j2)
theorem mI(aL:aw)(c0:ByteArray)(c1:Int)(r:Bool)(h:gM aL c0 c1=some r):aH Tryz.prog 199 [.v (.agg (tc ae aL)),.v (.ptr [vs c0] 0),.v (.ptr [vi c1] 0)] ⟨[.v (vb r)],[],false⟩:=by
 refine au Tryz.func199 rfl [(.tmp 4)] rfl (fun r=>⟨[.v (vb r)],[],false⟩) (r:=r) ?_
 unfold gM at h
 refine az aa [1,2,3] [3] ?_
 refine ac ?_
 refine bj h (fun j2=>⟨15,[(4,vb j2)],[]⟩) (fun v3 h=> ?_) (fun j2 h=> ?_)
 refine ab.cl aa 5 [2,3,9] [3] ?_
 refine ab.cu [(9,fun b=>b)] h (fun h=> ?_) fun h=> ?_
 refine ab.cl aa 3 [9,11,12] [] ?_
 obtain⟨x1,hx1,h⟩:=bind_some h
 refine ab.ls (xc lV (cA aL.Years c1 _ hx1)) ?_
 refine ab.cl aa 2 [4] [] ?_
 refine ab.nil ?_
 obtain rfl:=inj h
 exact Le.aq
 refine ab.cl aa 6 [4] [] ?_
 refine ab.nil ?_
 obtain rfl:=inj h
 exact Le.aq
 refine ag ?_
 obtain rfl:=inj h
 exact aD (f1 fv)
theorem Ba:a8 Tryz.prog 199:=ax Tryz.func199 (by kernel_rfl) rfl
noncomputable def bQ(aS:(List aw))(cT:ByteArray)(aF1:Int):Option (Int):=
 (((cW (aS.length:Int) (fun(i3:Int) (_:Unit)=>((at' aS i3).bind fun x7=>((gM x7 cT aF1).bind fun x8=>(bif x8 then some (.inr (.inr i3))else some (.inl ()))))) (fun(_:Unit)=> .inl ()) 0 ())).bind (Sum.elim (fun(_:Unit)=>some (-1)) some))
theorem fh(aS:(List aw))(cT:ByteArray)(aF1:Int)(r:Int)(h:bQ aS cT aF1=some r):aH Tryz.prog 109 [.v (vl ae aS),.v (.clo 199 [.ptr [vs cT] 0,.ptr [vi aF1] 0])] ⟨[.v (vi r)],[],false⟩:=by
 refine au Tryz.func109 rfl [(.tmp 4)] rfl (fun r=>⟨[.v (vi r)],[],false⟩) (r:=r) ?_
 unfold bQ at h
 refine az aa [0,1] [] ?_
 refine ac ?_
 refine az aa [0,1,7,8] [] ?_
 refine bi (r:=r) h (fun j1=>⟨19,[],[]⟩) (fun v2 h=> ?_) (fun j1 h=> ?_)
 refine ay (a:=v2) ?_
 refine a6 (r:=v2) (s:=(0,())) _ (fun s3=>⟨19,[(0,vl ae aS),(1,.clo 199 [.ptr [vs cT] 0,.ptr [vi aF1] 0]),(7,vi (aS.length:Int)),(8,vi s3.1)],[]⟩) _ (Le.aq) h (fun s3 v4 h=> ?_)
 refine az aa [0,1,7,8,9] [] ?_
 refine ac ?_
 refine ao h (fun h=> ?_) fun h=> ?_
 refine ai ?_
 refine aY ?_
 refine ac ?_
 refine bn (r:=v4) h (fun j5=>⟨19,[(0,vl ae aS),(1,.clo 199 [.ptr [vs cT] 0,.ptr [vi aF1] 0]),(7,vi (aS.length:Int)),(8,vi s3.1)],[]⟩) (fun v6 h=> ?_) (fun j5 h=> ?_)
 refine ay (a:=v6) ?_
 refine az aa [0,1,5,7,8] [] ?_
 refine sr ?_
 refine ab.cl aa 3 [0,1,5,7,8,11,12,13] [] ?_
 obtain⟨x7,hx7,h⟩:=bind_some h
 refine ab.ls (aG (L:=aS) (f:=ae) (ti:=dp) (tj:=dq) (e:=85) (k:= .i64) aa rfl hx7) ?_
 refine ab.cl aa 1 [0,1,5,7,8,11,15] [] ?_
 obtain⟨x8,hx8,h⟩:=bind_some h
 refine ab.ls (xc Ba (mI x7 cT aF1 _ hx8)) ?_
 refine ab.nx ?_
 refine ao h (fun h=> ?_) fun h=> ?_
 refine az aa [4] [] ?_
 refine ag ?_
 obtain rfl:=inj h
 exact bm (aU (aU (bm (aU (aD (f1 fv))))))
 refine ai ?_
 obtain rfl:=inj h
 exact bT (bZ (Le.aq))
 refine aF ?_
 refine ab.cl aa 2 [0,1,7,8] [] ?_
 refine ab.nil ?_
 obtain rfl:=inj h
 exact bZ (Le.aq)
 refine aQ ?_
 obtain rfl:=inj h
 exact cD (cF (cE (bZ (Le.aq))))
 refine az aa [4] [] ?_
 refine ag ?_
 obtain rfl:=inj h
 exact aD (f1 fv)
noncomputable def cS(ah:(List aw))(aE:ByteArray)(an:Int):Option (ByteArray×Bool):=
 ((bQ ah aE an).bind fun x1=>(bif(decide (x1<0))then some ((ByteArray.mk #[]),false)else((at' ah x1).bind fun x2=>some (x2.Parent,true))))
theorem ir(ah:(List aw))(aE:ByteArray)(an:Int)(r:ByteArray×Bool)(h:cS ah aE an=some r):aH Tryz.prog 161 [.v (vl ae ah),.v (vs aE),.v (vi an)] ⟨[.v (vs r.1),.v (vb r.2)],[],false⟩:=by
 refine au Tryz.func161 rfl [(.tmp 6),(.tmp 7)] rfl (fun r=>⟨[.v (vs r.1),.v (vb r.2)],[],false⟩) (r:=r) ?_
 unfold cS at h
 refine az aa [0,4,5] [4,5] ?_
 refine sr ?_
 refine ab.cl aa 2 [0,9,10] [4,5] ?_
 obtain⟨x1,hx1,h⟩:=bind_some h
 refine ab.ls (xc sI (fh ah aE an _ hx1)) ?_
 refine bO aa 1 [0,8] [] ?_
 refine ac ?_
 refine az aa [0,8,13] [] ?_
 refine ao h (fun h=> ?_) fun h=> ?_
 refine az aa [6,7] [] ?_
 refine ag ?_
 obtain rfl:=inj h
 exact bw (aD (f2 fv fv))
 refine ai ?_
 refine aY ?_
 refine sr ?_
 refine ab.cl aa 2 [14,15] [] ?_
 obtain⟨x2,hx2,h⟩:=bind_some h
 refine ab.ls (aG (L:=ah) (f:=ae) (ti:=dp) (tj:=dq) (e:=85) (k:= .i64) aa rfl hx2) ?_
 refine bO aa 4 [6,7] [] ?_
 refine ag ?_
 obtain rfl:=inj h
 exact aD (f2 fv fv)
theorem sP:a8 Tryz.prog 161:=ax Tryz.func161 (by kernel_rfl) rfl
noncomputable def er(aS:(List ByteArray))(aV:ByteArray):Option (Int):=
 (((cW (aS.length:Int) (fun(i3:Int) (_:Unit)=>((at' aS i3).bind fun x7=>(bif(aV.toList==x7.toList)then some (.inr (.inr i3))else some (.inl ())))) (fun(_:Unit)=> .inl ()) 0 ())).bind (Sum.elim (fun(_:Unit)=>some (-1)) some))
theorem lc(aS:(List ByteArray))(aV:ByteArray)(r:Int)(h:er aS aV=some r):aH Tryz.prog 217 [.v (vl eS aS),.v (vs aV)] ⟨[.v (vi r)],[],false⟩:=by
 refine au Tryz.func217 rfl [(.tmp 4)] rfl (fun r=>⟨[.v (vi r)],[],false⟩) (r:=r) ?_
 unfold er at h
 refine az aa [0,1] [] ?_
 refine ac ?_
 refine az aa [0,1,7,8] [] ?_
 refine bi (r:=r) h (fun j1=>⟨19,[],[]⟩) (fun v2 h=> ?_) (fun j1 h=> ?_)
 refine ay (a:=v2) ?_
 refine a6 (r:=v2) (s:=(0,())) _ (fun s3=>⟨19,[(0,vl eS aS),(1,vs aV),(7,vi (aS.length:Int)),(8,vi s3.1)],[]⟩) _ (Le.aq) h (fun s3 v4 h=> ?_)
 refine az aa [0,1,7,8,9] [] ?_
 refine ac ?_
 refine ao h (fun h=> ?_) fun h=> ?_
 refine ai ?_
 refine aY ?_
 refine ac ?_
 refine bn (r:=v4) h (fun j5=>⟨19,[(0,vl eS aS),(1,vs aV),(7,vi (aS.length:Int)),(8,vi s3.1)],[]⟩) (fun v6 h=> ?_) (fun j5 h=> ?_)
 refine ay (a:=v6) ?_
 refine az aa [0,1,5,7,8] [] ?_
 refine sr ?_
 refine ab.cl aa 3 [0,1,5,7,8,11,12,13] [] ?_
 obtain⟨x7,hx7,h⟩:=bind_some h
 refine ab.ls (aG (L:=aS) (f:=eS) (ti:=cy) (tj:=gH) (e:=9) (k:= .i64) aa rfl hx7) ?_
 refine bO aa 2 [0,1,5,7,8,16] [] ?_
 refine ao h (fun h=> ?_) fun h=> ?_
 refine az aa [4] [] ?_
 refine ag ?_
 obtain rfl:=inj h
 exact bm (aU (aU (bm (aU (aD (f1 fv))))))
 refine ai ?_
 obtain rfl:=inj h
 exact bT (bZ (Le.aq))
 refine aF ?_
 refine ab.cl aa 2 [0,1,7,8] [] ?_
 refine ab.nil ?_
 obtain rfl:=inj h
 exact bZ (Le.aq)
 refine aQ ?_
 obtain rfl:=inj h
 exact cD (cF (cE (bZ (Le.aq))))
 refine az aa [4] [] ?_
 refine ag ?_
 obtain rfl:=inj h
 exact aD (f1 fv)
theorem Bi:a8 Tryz.prog 217:=ax Tryz.func217 (by kernel_rfl) rfl
noncomputable def ct(aS:(List ByteArray))(aV:ByteArray):Option (Bool):=
 ((er aS aV).bind fun x1=>some (decide (x1≥0)))
theorem kn(aS:(List ByteArray))(aV:ByteArray)(r:Bool)(h:ct aS aV=some r):aH Tryz.prog 198 [.v (vl eS aS),.v (vs aV)] ⟨[.v (vb r)],[],false⟩:=by
 refine au Tryz.func198 rfl [(.tmp 4)] rfl (fun r=>⟨[.v (vb r)],[],false⟩) (r:=r) ?_
 unfold ct at h
 refine az aa [0,1] [] ?_
 refine sr ?_
 refine ab.cl aa 2 [5,6] [] ?_
 obtain⟨x1,hx1,h⟩:=bind_some h
 refine ab.ls (xc Bi (lc aS aV _ hx1)) ?_
 refine bO aa 2 [4] [] ?_
 refine ag ?_
 obtain rfl:=inj h
 exact aD (f1 fv)
theorem A9:a8 Tryz.prog 198:=ax Tryz.func198 (by kernel_rfl) rfl
noncomputable def kh(ah:(List aw))(aE:ByteArray)(an:Int):Option ((List ByteArray)):=
 (loop (fun(s1:(List ByteArray))=>((at' s1 (aJ ((s1.length:Int)- 1))).bind fun x3=>((cS ah x3 an).bind fun x4=>(((bif(!x4.2)then some true else((ct s1 x4.1).bind fun x5=>some x5))).bind fun(j6:Bool)=>(bif j6 then some (.inr s1)else((ed s1 ([x4.1]:List ByteArray)).bind fun x8=>some (.inl x8))))))) ([aE]:List ByteArray))
theorem qJ(ah:(List aw))(aE:ByteArray)(an:Int)(r:(List ByteArray))(h:kh ah aE an=some r):aH Tryz.prog 160 [.v (vl ae ah),.v (vs aE),.v (vi an)] ⟨[.own 9 1 r.length (r.map eS)],[],false⟩:=by
 refine au Tryz.func160 rfl [(.tmp 6)] rfl (fun r=>⟨[.own 9 1 r.length (r.map eS)],[],false⟩) (r:=r) ?_
 unfold kh at h
 refine az aa [0,1,2] [] ?_
 refine az aa [0,2,7] [11] ?_
 refine ay (a:=r) ?_
 refine a6 (r:=r) (s:=([aE]:List ByteArray)) _ (fun s1=>⟨36,[(0,vl ae ah),(2,vi an),(7,.own 7)],[(7,oa 9 1 eS s1)]⟩) _ (Le.rr [11] [(11,7)]) h (fun s1 v2 h=> ?_)
 refine ay (a:=v2) ?_
 refine sr ?_
 refine ab.cl aa 5 [0,2,7,13,14,17] [7] ?_
 obtain⟨x3,hx3,h⟩:=bind_some h
 refine ab.ls (bo (d:=7) (L:=s1) (f:=eS) (ti:=cy) (tj:=gH) (e:=9) (e':=9) (m:=1) (k:= .i64) aa rfl hx3) ?_
 refine ab.ls (dr (d:=7) (m:=1) (j:=0) (L:=s1) (f:=eS) (ti:=gH) (e:=9) (v:=vs x3) aa rfl hx3) ?_
 refine ab.cl aa 1 [0,2,7,13,19,20] [7] ?_
 obtain⟨x4,hx4,h⟩:=bind_some h
 refine ab.ls (xc sP (ir ah x3 an _ hx4)) ?_
 refine bO aa 5 [0,2,7,8,9] [7] ?_
 refine ac ?_
 refine ac ?_
 refine bj h (fun j6=>⟨36,[(0,vl ae ah),(2,vi an),(7,.own 7),(8,vs x4.1),(30,vb j6)],[(7,oa 9 1 eS s1)]⟩) (fun v7 h=> ?_) (fun j6 h=> ?_)
 refine ab.cl aa 3 [0,2,7,8,26] [7] ?_
 refine ab.cu [(26,fun b=>b)] h (fun h=> ?_) fun h=> ?_
 refine ab.cl aa 4 [0,2,7,8,30] [7] ?_
 refine ab.nil ?_
 obtain rfl:=inj h
 exact Le.aq
 refine ab.cl aa 2 [0,2,7,8,26,27,28] [7] ?_
 obtain⟨x5,hx5,h⟩:=bind_some h
 refine ab.ls (xc A9 (kn s1 x4.1 _ hx5)) ?_
 refine ab.cl aa 1 [0,2,7,8,30] [7] ?_
 refine ab.nil ?_
 obtain rfl:=inj h
 exact Le.aq
 refine ao h (fun h=> ?_) fun h=> ?_
 refine az aa [6] [7] ?_
 refine ag ?_
 obtain rfl:=inj h
 exact bw (bm (aU (bm (aD (f1 (fo fC))))))
 refine ai ?_
 refine aY ?_
 refine aF ?_
 refine ab.cl aa 3 [0,2,32,34] [7,34] ?_
 obtain⟨x8,hx8,h⟩:=bind_some h
 refine ab.bx (bS (f:=eS) (t:=106) (ti:=cy) (tj:=gH) (zs:=[.string (ByteArray.mk #[])]) (e:=9) (m:=1) (d:=7) (xv:= .own 34) hx8 aa rfl rfl rfl rfl (dC (e:=9))) ?_
 refine ab.cl aa 1 [0,2,7] [35] ?_
 refine ab.nil ?_
 obtain rfl:=inj h
 exact bT (bZ (Le.rr [35] [(35,7)]))
theorem AQ:a8 Tryz.prog 160:=ax Tryz.func160 (by kernel_rfl) rfl
noncomputable def dD(ah:(List aw))(aE:ByteArray)(an:Int):Option (Bool):=
 ((kh ah aE an).bind fun x1=>((at' x1 (aJ ((x1.length:Int)- 1))).bind fun x2=>((cS ah x2 an).bind fun x3=>some x3.2)))
theorem nQ(ah:(List aw))(aE:ByteArray)(an:Int)(r:Bool)(h:dD ah aE an=some r):aH Tryz.prog 108 [.v (vl ae ah),.v (vs aE),.v (vi an)] ⟨[.v (vb r)],[],false⟩:=by
 refine au Tryz.func108 rfl [(.tmp 6)] rfl (fun r=>⟨[.v (vb r)],[],false⟩) (r:=r) ?_
 unfold dD at h
 refine az aa [0,1,2] [] ?_
 refine sr ?_
 refine ab.cl aa 3 [0,2,10,11,12] [] ?_
 obtain⟨x1,hx1,h⟩:=bind_some h
 refine ab.ls (xc AQ (qJ ah aE an _ hx1)) ?_
 refine bO aa 1 [0,2,7] [13] ?_
 refine sr ?_
 refine ab.cl aa 5 [2,15,16,19] [13] ?_
 obtain⟨x2,hx2,h⟩:=bind_some h
 refine ab.ls (bo (d:=13) (L:=x1) (f:=eS) (ti:=cy) (tj:=gH) (e:=9) (e':=9) (m:=1) (k:= .i64) aa rfl hx2) ?_
 refine ab.ls (dr (d:=13) (m:=1) (j:=0) (L:=x1) (f:=eS) (ti:=gH) (e:=9) (v:=vs x2) aa rfl hx2) ?_
 refine ab.cl aa 1 [15,21,22] [] ?_
 obtain⟨x3,hx3,h⟩:=bind_some h
 refine ab.ls (xc sP (ir ah x2 an _ hx3)) ?_
 refine bO aa 5 [9] [] ?_
 refine az aa [6] [] ?_
 refine ag ?_
 obtain rfl:=inj h
 exact aD (f1 fv)
theorem Av:a8 Tryz.prog 108:=ax Tryz.func108 (by kernel_rfl) rfl
end Go.Proofs.YtdejeagdkfokfaaGreatDoor.Sh
