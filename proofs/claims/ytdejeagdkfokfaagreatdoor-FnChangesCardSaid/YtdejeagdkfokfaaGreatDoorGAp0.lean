/- Typed functions and the calls that do what they say. -/
import Derived.Test.YtdejeagdkfokfaaGreatDoorSE
import Derived.Test.YtdejeagdkfokfaaGreatDoorKA
import Derived.Test.YtdejeagdkfokfaaGreatDoorKC
import Derived.Test.YtdejeagdkfokfaaGreatDoorKD
import Derived.Test.YtdejeagdkfokfaaGreatDoorKO
import Derived.Test.YtdejeagdkfokfaaGreatDoorKS
import Derived.Test.YtdejeagdkfokfaaGreatDoorSN
import Derived.Test.YtdejeagdkfokfaaGreatDoorSW
import Derived.Test.YtdejeagdkfokfaaGreatDoorSX
import Derived.Test.YtdejeagdkfokfaaGreatDoorH1
namespace Go.Proofs.YtdejeagdkfokfaaGreatDoor.Sh
open Go.RowKit
set_option maxRecDepth 100000
set_option maxHeartbeats 4000000
structure Span where
 From:Int
 To:Int
def ig(x:Span):List Tr:=[.int .i64 x.From,.int .i64 x.To]
structure Name where
 Text:ByteArray
 Language:ByteArray
 Status:Int
 Years:Span
def ao(x:Name):List Tr:=[.str x.Text,.str x.Language,.int .i64 x.Status,.int .i64 x.Years.From,.int .i64 x.Years.To]
theorem bQ(x:Name): ∀t∈ao x,t.flat=true:=by simp[ao,Tr.flat]
structure Place where
 Code:ByteArray
 Class:Int
 Years:Span
 Names:(List Name)
def ad(x:Place):List Tr:=[.str x.Code,.int .i64 x.Class,.int .i64 x.Years.From,.int .i64 x.Years.To,.sl x.Names.length (x.Names.map ao)]
structure ay where
 Child:ByteArray
 Parent:ByteArray
 Years:Span
def aj(x:ay):List Tr:=[.str x.Child,.str x.Parent,.int .i64 x.Years.From,.int .i64 x.Years.To]
theorem dj(x:ay): ∀t∈aj x,t.flat=true:=by simp[aj,Tr.flat]
structure World where
 Places:(List Place)
 Links:(List ay)
def aQ(x:World):List Tr:=[.sl x.Places.length (x.Places.map ad),.sl x.Links.length (x.Links.map aj)]
structure Change where
 Year:Int
 Kind:Int
 Code:ByteArray
 Other:ByteArray
 Language:ByteArray
 Text:ByteArray
def aF(x:Change):List Tr:=[.int .i64 x.Year,.int .i64 x.Kind,.str x.Code,.str x.Other,.str x.Language,.str x.Text]
def ti2:TI:=⟨1,8,.int .i64,[.int .i64 0]⟩
def ti3:TI:=⟨1,8,.int .i64,[.int .i64 0]⟩
def ti4:TI:=⟨1,1,.bool,[.bool false]⟩
def ti5:TI:=⟨1,1,.int .u8,[.int .u8 0]⟩
def et:TI:=⟨1,16,.str,[.str (ByteArray.mk #[])]⟩
def EN:TI:=⟨1,24,.slice 100,[.sl ([]:List Place).length (([]:List Place).map ad)]⟩
def EO:TI:=⟨1,24,.slice 103,[.sl ([]:List ay).length (([]:List ay).map aj)]⟩
def EP:TI:=⟨2,48,.struct [(0,22),(1,23)],[.sl ([]:List Place).length (([]:List Place).map ad),.sl ([]:List ay).length (([]:List ay).map aj)]⟩
def EQ:TI:=⟨6,80,.struct [(0,2),(1,2),(2,9),(3,9),(4,9),(5,9)],[.int .i64 0,.int .i64 0,.str (ByteArray.mk #[]),.str (ByteArray.mk #[]),.str (ByteArray.mk #[]),.str (ByteArray.mk #[])]⟩
def bR:TI:=⟨1,24,.slice 91,[.sl ([]:List Place).length (([]:List Place).map ad)]⟩
def eo:TI:=⟨1,24,.slice 85,[.sl ([]:List ay).length (([]:List ay).map aj)]⟩
def iE:TI:=⟨2,48,.struct [(0,32),(1,33)],[.sl ([]:List Place).length (([]:List Place).map ad),.sl ([]:List ay).length (([]:List ay).map aj)]⟩
def va:TI:=⟨6,80,.struct [(0,2),(1,2),(2,9),(3,9),(4,9),(5,9)],[.int .i64 0,.int .i64 0,.str (ByteArray.mk #[]),.str (ByteArray.mk #[]),.str (ByteArray.mk #[]),.str (ByteArray.mk #[])]⟩
def DB:TI:=⟨2,16,.struct [(0,2),(1,2)],[.int .i64 0,.int .i64 0]⟩
def ew:TI:=⟨4,48,.struct [(0,9),(1,9),(2,83)],[.str (ByteArray.mk #[]),.str (ByteArray.mk #[]),.int .i64 0,.int .i64 0]⟩
def eb:TI:=⟨1,24,.slice 169,[.sl ([]:List Name).length (([]:List Name).map ao)]⟩
def bG:TI:=⟨5,64,.struct [(0,9),(1,2),(2,83),(4,89)],[.str (ByteArray.mk #[]),.int .i64 0,.int .i64 0,.int .i64 0,.sl ([]:List Name).length (([]:List Name).map ao)]⟩
def ER:TI:=⟨2,16,.struct [(0,2),(1,2)],[.int .i64 0,.int .i64 0]⟩
def ES:TI:=⟨1,24,.slice 190,[.sl ([]:List Name).length (([]:List Name).map ao)]⟩
def BB:TI:=⟨5,64,.struct [(0,9),(1,2),(2,97),(4,98)],[.str (ByteArray.mk #[]),.int .i64 0,.int .i64 0,.int .i64 0,.sl ([]:List Name).length (([]:List Name).map ao)]⟩
def BC:TI:=⟨4,48,.struct [(0,9),(1,9),(2,97)],[.str (ByteArray.mk #[]),.str (ByteArray.mk #[]),.int .i64 0,.int .i64 0]⟩
def bU:TI:=⟨1,24,.slice 9,[.sl ([]:List ByteArray).length (([]:List ByteArray).map eS)]⟩
def sR:TI:=⟨1,24,.slice 2,[.sl ([]:List Int).length (([]:List Int).map (eI .i64))]⟩
def dg:TI:=⟨5,56,.struct [(0,9),(1,9),(2,2),(3,83)],[.str (ByteArray.mk #[]),.str (ByteArray.mk #[]),.int .i64 0,.int .i64 0,.int .i64 0]⟩
def BD:TI:=⟨5,56,.struct [(0,9),(1,9),(2,2),(3,97)],[.str (ByteArray.mk #[]),.str (ByteArray.mk #[]),.int .i64 0,.int .i64 0,.int .i64 0]⟩
def Fy:TI:=⟨1,8,.int .u64,[.int .u64 0]⟩
def tbl:Tb:=[(2,ti2),(3,ti3),(4,ti4),(5,ti5),(9,et),(22,EN),(23,EO),(25,EP),(27,EQ),(32,bR),(33,eo),(35,iE),(37,va),(83,DB),(85,ew),(89,eb),(91,bG),(97,ER),(98,ES),(100,BB),(103,BC),(106,bU),(144,sR),(169,dg),(190,BD),(209,Fy)]
theorem ac:ba Tryz.prog tbl:=ba.cons ⟨by kernel_rfl,show Tryz.prog.underlying 2=some (.int .i64)from by kernel_rfl⟩ (ba.cons ⟨by kernel_rfl,show Tryz.prog.underlying 3=some (.int .i64)from by kernel_rfl⟩ (ba.cons ⟨by kernel_rfl,show Tryz.prog.underlying 4=some (.bool)from by kernel_rfl⟩ (ba.cons ⟨by kernel_rfl,show Tryz.prog.underlying 5=some (.int .u8)from by kernel_rfl⟩ (ba.cons ⟨by kernel_rfl,show Tryz.prog.underlying 9=some (.string)from by kernel_rfl⟩ (ba.cons ⟨by kernel_rfl,show Tryz.prog.underlying 22=some (.slice 100)from by kernel_rfl⟩ (ba.cons ⟨by kernel_rfl,show Tryz.prog.underlying 23=some (.slice 103)from by kernel_rfl⟩ (ba.cons ⟨by kernel_rfl,show structOf Tryz.prog 25=some [(0,22),(1,23)]from by kernel_rfl⟩ (ba.cons ⟨by kernel_rfl,show structOf Tryz.prog 27=some [(0,2),(1,2),(2,9),(3,9),(4,9),(5,9)]from by kernel_rfl⟩ (ba.cons ⟨by kernel_rfl,show Tryz.prog.underlying 32=some (.slice 91)from by kernel_rfl⟩ (ba.cons ⟨by kernel_rfl,show Tryz.prog.underlying 33=some (.slice 85)from by kernel_rfl⟩ (ba.cons ⟨by kernel_rfl,show structOf Tryz.prog 35=some [(0,32),(1,33)]from by kernel_rfl⟩ (ba.cons ⟨by kernel_rfl,show structOf Tryz.prog 37=some [(0,2),(1,2),(2,9),(3,9),(4,9),(5,9)]from by kernel_rfl⟩ (ba.cons ⟨by kernel_rfl,show structOf Tryz.prog 83=some [(0,2),(1,2)]from by kernel_rfl⟩ (ba.cons ⟨by kernel_rfl,show structOf Tryz.prog 85=some [(0,9),(1,9),(2,83)]from by kernel_rfl⟩ (ba.cons ⟨by kernel_rfl,show Tryz.prog.underlying 89=some (.slice 169)from by kernel_rfl⟩ (ba.cons ⟨by kernel_rfl,show structOf Tryz.prog 91=some [(0,9),(1,2),(2,83),(4,89)]from by kernel_rfl⟩ (ba.cons ⟨by kernel_rfl,show structOf Tryz.prog 97=some [(0,2),(1,2)]from by kernel_rfl⟩ (ba.cons ⟨by kernel_rfl,show Tryz.prog.underlying 98=some (.slice 190)from by kernel_rfl⟩ (ba.cons ⟨by kernel_rfl,show structOf Tryz.prog 100=some [(0,9),(1,2),(2,97),(4,98)]from by kernel_rfl⟩ (ba.cons ⟨by kernel_rfl,show structOf Tryz.prog 103=some [(0,9),(1,9),(2,97)]from by kernel_rfl⟩ (ba.cons ⟨by kernel_rfl,show Tryz.prog.underlying 106=some (.slice 9)from by kernel_rfl⟩ (ba.cons ⟨by kernel_rfl,show Tryz.prog.underlying 144=some (.slice 2)from by kernel_rfl⟩ (ba.cons ⟨by kernel_rfl,show structOf Tryz.prog 169=some [(0,9),(1,9),(2,2),(3,83)]from by kernel_rfl⟩ (ba.cons ⟨by kernel_rfl,show structOf Tryz.prog 190=some [(0,9),(1,9),(2,2),(3,97)]from by kernel_rfl⟩ (ba.cons ⟨by kernel_rfl,show Tryz.prog.underlying 209=some (.int .u64)from by kernel_rfl⟩ (ba.nil _))))))))))))))))))))))))))
theorem mixed:Tryz.prog.follows .mixedOrders=true:=by kernel_rfl
noncomputable def dI(aN:Int)(ik:Int)(ey:Int):Option (Bool):=
 some ((decide (aN≥ik))&&(decide (aN≤ey)))
theorem c6(aN:Int)(ik:Int)(ey:Int)(r:Bool)(h:dI aN ik ey=some r):aR Tryz.prog 166 [.v (vi aN),.v (vi ik),.v (vi ey)] ⟨[.v (vb r)],[],false⟩:=by
 refine au Tryz.func166 rfl [(.tmp 6)] rfl (fun r=>⟨[.v (vb r)],[],false⟩) (r:=r) ?_
 unfold dI at h
 refine aJ ac [0,1,2] [] ?_
 refine ae ?_
 refine c7 ⟨15,[(6,vb ((decide (aN≥ik))&&(decide (aN≤ey))))],[]⟩ ?_ ?_
 refine aa.ck ac 4 ⟨15,[(0,vi aN),(2,vi ey),(10,vb (decide (aN≥ik)))],[]⟩ ?_
 generalize (decide (aN≥ik))=bb
 cases bb
 refine aa.cl ac 5 [6] [] ?_
 exact aa.nil (Le.an)
 refine aa.cl ac 5 [6] [] ?_
 exact aa.nil (Le.an)
 refine ah ?_
 obtain rfl:=inj h
 exact aO (f1 fv)
theorem jW:bg Tryz.prog 166:=az Tryz.func166 (by kernel_rfl) rfl
noncomputable def dw(aS:ByteArray):Option (Bool):=
 (((dt (aS.size:Int) (fun(i3:Int) (_:Unit)=>((((mU aS i3).bind fun x7=>(bif(decide (x7<97))then some true else((mU aS i3).bind fun x8=>some (decide (x8>122)))))).bind fun(j9:Bool)=>(bif j9 then some (.inr (.inr false))else some (.inl ())))) (fun(_:Unit)=> .inl ()) 0 ())).bind (Sum.elim (fun(_:Unit)=>((dI (aS.size:Int) 1 16).bind fun x11=>some x11)) some))
theorem dy(aS:ByteArray)(r:Bool)(h:dw aS=some r):aR Tryz.prog 165 [.v (vs aS)] ⟨[.v (vb r)],[],false⟩:=by
 refine au Tryz.func165 rfl [(.tmp 2)] rfl (fun r=>⟨[.v (vb r)],[],false⟩) (r:=r) ?_
 unfold dw at h
 refine aJ ac [0] [] ?_
 refine ae ?_
 refine aJ ac [0,3] [] ?_
 refine bp (r:=r) h (fun j1=>⟨23,[(0,vs aS)],[]⟩) (fun v2 h=> ?_) (fun j1 h=> ?_)
 refine ax (a:=v2) ?_
 refine bc (r:=v2) (s:=(0,())) _ (fun s3=>⟨23,[(0,vs aS),(3,vi s3.1)],[]⟩) _ (Le.an) h (fun s3 v4 h=> ?_)
 refine ae ?_
 refine aJ ac [0,3,7] [] ?_
 refine aq h (fun h=> ?_) fun h=> ?_
 refine ai ?_
 refine bq ?_
 refine ae ?_
 refine bD (r:=v4) h (fun j5=>⟨23,[(0,vs aS),(3,vi s3.1)],[]⟩) (fun v6 h=> ?_) (fun j5 h=> ?_)
 refine ax (a:=v6) ?_
 refine ae ?_
 refine bn h (fun j9=>⟨23,[(0,vs aS),(3,vi s3.1),(19,vb j9)],[]⟩) (fun v10 h=> ?_) (fun j9 h=> ?_)
 refine aa.cl ac 2 [0,3,10,11] [] ?_
 obtain⟨x7,hx7,h⟩:=bind_some h
 refine aa.ls (sW (ti:=et) (k:= .i64) hx7 ac rfl) ?_
 refine aa.cl ac 2 [0,3,14] [] ?_
 refine aa.cu [(14,fun b=>b)] h (fun h=> ?_) fun h=> ?_
 refine aa.cl ac 5 [0,3,19] [] ?_
 refine aa.nil ?_
 obtain rfl:=inj h
 exact Le.an
 refine aa.cl ac 2 [0,3,14,15,16] [] ?_
 obtain⟨x8,hx8,h⟩:=bind_some h
 refine aa.ls (sW (ti:=et) (k:= .i64) hx8 ac rfl) ?_
 refine aa.cl ac 2 [0,3,19] [] ?_
 refine aa.nil ?_
 obtain rfl:=inj h
 exact Le.an
 refine aq h (fun h=> ?_) fun h=> ?_
 refine aJ ac [2] [] ?_
 refine ah ?_
 obtain rfl:=inj h
 exact bE (bo (bo (bE (bo (aO (f1 fv))))))
 refine ai ?_
 obtain rfl:=inj h
 exact bt (cn (Le.an))
 refine aD ?_
 refine aa.cl ac 3 [0,3] [] ?_
 refine aa.nil ?_
 obtain rfl:=inj h
 exact cn (Le.an)
 refine a6 ?_
 obtain rfl:=inj h
 exact cE (cG (cF (cn (Le.an))))
 refine sr ?_
 refine aa.cl ac 2 [21] [] ?_
 obtain⟨x11,hx11,h⟩:=bind_some h
 refine aa.ls (xc jW (c6 (aS.size:Int) 1 16 _ hx11)) ?_
 refine ckn ac 1 ⟨23,[(2,vb x11)],[]⟩ ?_
 refine ah ?_
 obtain rfl:=inj h
 exact aO (f1 fv)
theorem lv:bg Tryz.prog 165:=az Tryz.func165 (by kernel_rfl) rfl
noncomputable def dm(aN:Int):Option (Bool):=
 ((dI aN (-3000) 3000).bind fun x1=>some x1)
theorem fD(aN:Int)(r:Bool)(h:dm aN=some r):aR Tryz.prog 177 [.v (vi aN)] ⟨[.v (vb r)],[],false⟩:=by
 refine au Tryz.func177 rfl [(.tmp 2)] rfl (fun r=>⟨[.v (vb r)],[],false⟩) (r:=r) ?_
 unfold dm at h
 refine kM ac ⟨5,[(0,vi aN)],[]⟩ ?_
 refine sr ?_
 refine aa.ck ac 1 ⟨5,[(3,vi aN)],[]⟩ ?_
 obtain⟨x1,hx1,h⟩:=bind_some h
 refine aa.ls (xc jW (c6 aN (-3000) 3000 _ hx1)) ?_
 refine ckn ac 1 ⟨5,[(2,vb x1)],[]⟩ ?_
 refine ah ?_
 obtain rfl:=inj h
 exact aO (f1 fv)
theorem o9:bg Tryz.prog 177:=az Tryz.func177 (by kernel_rfl) rfl
noncomputable def gM(aS:Span):Option (Bool):=
 ((((dm aS.From).bind fun x1=>(bif x1 then((dm aS.To).bind fun x2=>(bif x2 then some (decide (aS.From≤aS.To))else some false))else some false))).bind fun(j3:Bool)=>some j3)
theorem kv(aS:Span)(r:Bool)(h:gM aS=some r):aR Tryz.prog 167 [.v (.agg (tc ig aS))] ⟨[.v (vb r)],[],false⟩:=by
 refine au Tryz.func167 rfl [(.tmp 2)] rfl (fun r=>⟨[.v (vb r)],[],false⟩) (r:=r) ?_
 unfold gM at h
 refine aJ ac [1] [1] ?_
 refine ae ?_
 refine bn h (fun j3=>⟨18,[(2,vb j3)],[]⟩) (fun v4 h=> ?_) (fun j3 h=> ?_)
 refine aa.cl ac 2 [1,4] [1] ?_
 obtain⟨x1,hx1,h⟩:=bind_some h
 refine aa.ls (xc o9 (fD aS.From _ hx1)) ?_
 refine aa.cl ac 1 [1,6] [1] ?_
 refine aa.cu [(6,fun b=>b)] h (fun h=> ?_) fun h=> ?_
 refine aa.cl ac 2 [1,6,8] [1] ?_
 obtain⟨x2,hx2,h⟩:=bind_some h
 refine aa.ls (xc o9 (fD aS.To _ hx2)) ?_
 refine aa.cl ac 2 [1,11] [1] ?_
 refine aa.cu [(11,fun b=>b)] h (fun h=> ?_) fun h=> ?_
 refine aa.cl ac 7 [2] [] ?_
 refine aa.nil ?_
 obtain rfl:=inj h
 exact Le.an
 refine aa.cl ac 7 [2] [] ?_
 refine aa.nil ?_
 obtain rfl:=inj h
 exact Le.an
 refine aa.cl ac 12 [2] [] ?_
 refine aa.nil ?_
 obtain rfl:=inj h
 exact Le.an
 refine ah ?_
 obtain rfl:=inj h
 exact aO (f1 fv)
theorem ur:bg Tryz.prog 167:=az Tryz.func167 (by kernel_rfl) rfl
noncomputable def iD(aS:ByteArray)(aBy:Int):Option ((List ByteArray)):=
 (((vT (fun(i3:Int) (_:Int×(List ByteArray))=>(decide (i3≤(aS.size:Int)))) (fun(i3:Int) (s3:Int×(List ByteArray))=>(((bif(i3==(aS.size:Int))then some true else((mU aS i3).bind fun x7=>some (x7==aBy)))).bind fun(j8:Bool)=>(bif j8 then((lW aS s3.1 i3).bind fun x10=>((c4 s3.2 ([x10]:List ByteArray)).bind fun x11=>some ((bF (i3+1)),x11)))else some (s3.1,s3.2)))) (fun(s3:Int×(List ByteArray))=>s3.2) 0 (0,([]:List ByteArray)))).bind fun(j1:(List ByteArray))=>some j1)
theorem pJ(aS:ByteArray)(aBy:Int)(r:(List ByteArray))(h:iD aS aBy=some r):aR Tryz.prog 219 [.v (vs aS),.v (.tr (.int .u8 aBy))] ⟨[.own 9 1 r.length (r.map eS)],[],false⟩:=by
 refine au Tryz.func219 rfl [(.tmp 4)] rfl (fun r=>⟨[.own 9 1 r.length (r.map eS)],[],false⟩) (r:=r) ?_
 unfold iD at h
 refine aJ ac [0,1] [] ?_
 refine aJ ac [0,1,5] [8] ?_
 refine aJ ac [0,1,5,6] [8] ?_
 refine ae ?_
 refine aJ ac [0,1,5,6,7] [8] ?_
 refine aU h (fun j1=>⟨36,[(5,.own 5)],[(5,oa 9 1 eS j1)]⟩) (fun v2 h=> ?_) (fun j1 h=> ?_)
 refine ax (a:=v2) ?_
 refine bc (r:=v2) (s:=(0,0,([]:List ByteArray))) _ (fun s3=>⟨36,[(0,vs aS),(1,.tr (.int .u8 aBy)),(5,.own 5),(6,vi s3.2.1),(7,vi s3.1)],[(5,oa 9 1 eS s3.2.2)]⟩) _ (Le.rr [8] [(8,5)]) h (fun s3 v4 h=> ?_)
 refine ae ?_
 refine aJ ac [0,1,5,6,7,12] [5] ?_
 refine aq h (fun h=> ?_) fun h=> ?_
 refine ai ?_
 refine bq ?_
 refine ae ?_
 refine aU h (fun j5=>⟨36,[(0,vs aS),(1,.tr (.int .u8 aBy)),(5,.own 5),(6,vi j5.1),(7,vi s3.1)],[(5,oa 9 1 eS j5.2)]⟩) (fun v6 h=> ?_) (fun j5 h=> ?_)
 refine ax (a:=v6) ?_
 refine ae ?_
 refine bn h (fun j8=>⟨36,[(0,vs aS),(1,.tr (.int .u8 aBy)),(5,.own 5),(6,vi s3.2.1),(7,vi s3.1),(25,vb j8)],[(5,oa 9 1 eS s3.2.2)]⟩) (fun v9 h=> ?_) (fun j8 h=> ?_)
 refine aa.cl ac 5 [0,1,5,6,7,19] [5] ?_
 refine aa.cu [(19,fun b=>b)] h (fun h=> ?_) fun h=> ?_
 refine aa.cl ac 6 [0,1,5,6,7,25] [5] ?_
 refine aa.nil ?_
 obtain rfl:=inj h
 exact Le.an
 refine aa.cl ac 2 [0,1,5,6,7,19,20,21] [5] ?_
 obtain⟨x7,hx7,h⟩:=bind_some h
 refine aa.ls (sW (ti:=et) (k:= .i64) hx7 ac rfl) ?_
 refine aa.cl ac 3 [0,1,5,6,7,25] [5] ?_
 refine aa.nil ?_
 obtain rfl:=inj h
 exact Le.an
 refine aq h (fun h=> ?_) fun h=> ?_
 refine sr ?_
 refine aa.cl ac 4 [0,1,7,26,27,28,29] [5] ?_
 obtain⟨x10,hx10,h⟩:=bind_some h
 refine aa.ls (sZ (ti:=et) hx10 ac rfl) ?_
 refine aa.cl ac 1 [0,1,7,26,31] [5,31] ?_
 obtain⟨x11,hx11,h⟩:=bind_some h
 refine aa.a7 (bh (f:=eS) (t:=106) (ti:=bU) (tj:=et) (zs:=[.string (ByteArray.mk #[])]) (e:=9) (m:=1) (d:=5) (xv:= .own 31) hx11 ac rfl rfl rfl rfl (bT (e:=9))) ?_
 refine bO ac 1 [0,1,5,7] [32] ?_
 refine aD ?_
 refine aa.cl ac 3 [0,1,5,6,7] [32] ?_
 refine aa.nil ?_
 obtain rfl:=inj h
 exact bt (cI (Le.rr [32] [(32,5)]))
 refine ai ?_
 obtain rfl:=inj h
 exact bt (cI (Le.an))
 refine aD ?_
 refine aa.ck ac 3 ⟨36,[(0,vs aS),(1,.tr (.int .u8 aBy)),(5,.own 5),(6,vi j5.1),(7,vi (bF (s3.1+1)))],[(5,oa 9 1 eS j5.2)]⟩ ?_
 refine aa.nil ?_
 obtain rfl:=inj h
 exact cn (Le.an)
 refine a6 ?_
 obtain rfl:=inj h
 exact cE (cG (cF (cI (Le.an))))
 refine aJ ac [4] [5] ?_
 refine ah ?_
 obtain rfl:=inj h
 exact aO (f1 (fo fh))
theorem C4:bg Tryz.prog 219:=az Tryz.func219 (by kernel_rfl) rfl
noncomputable def gO(aS:ByteArray):Option ((List ByteArray)×Bool):=
 ((iD aS 32).bind fun x1=>(((dt (x1.length:Int) (fun(i4:Int) (_:Unit)=>((at' x1 i4).bind fun x8=>((dw x8).bind fun x9=>(bif(!x9)then some (.inr (.inr (([]:List ByteArray),false)))else some (.inl ()))))) (fun(_:Unit)=> .inl ()) 0 ())).bind (Sum.elim (fun(_:Unit)=>some (x1,(decide ((x1.length:Int)≤8)))) some)))
theorem oR(aS:ByteArray)(r:(List ByteArray)×Bool)(h:gO aS=some r):aR Tryz.prog 203 [.v (vs aS)] ⟨[.own 9 1 r.1.length (r.1.map eS),.v (vb r.2)],[],false⟩:=by
 refine au Tryz.func203 rfl [(.tmp 2),(.tmp 3)] rfl (fun r=>⟨[.own 9 1 r.1.length (r.1.map eS),.v (vb r.2)],[],false⟩) (r:=r) ?_
 unfold gO at h
 refine aJ ac [0] [] ?_
 refine sr ?_
 refine aa.cl ac 1 [6] [] ?_
 obtain⟨x1,hx1,h⟩:=bind_some h
 refine aa.ls (xc C4 (pJ aS 32 _ hx1)) ?_
 refine bO ac 1 [4] [7] ?_
 refine ae ?_
 refine aJ ac [4,5] [7] ?_
 refine bp (r:=r) h (fun j2=>⟨24,[(4,.own 4)],[(4,oa 9 1 eS x1)]⟩) (fun v3 h=> ?_) (fun j2 h=> ?_)
 refine ax (a:=v3) ?_
 refine bc (r:=v3) (s:=(0,())) _ (fun s4=>⟨24,[(4,.own 4),(5,vi s4.1)],[(4,oa 9 1 eS x1)]⟩) _ (Le.rr [7] [(7,4)]) h (fun s4 v5 h=> ?_)
 refine ae ?_
 refine aJ ac [4,5,11] [4] ?_
 refine aq h (fun h=> ?_) fun h=> ?_
 refine ai ?_
 refine bq ?_
 refine ae ?_
 refine bD (r:=v5) h (fun j6=>⟨24,[(4,.own 4),(5,vi s4.1)],[(4,oa 9 1 eS x1)]⟩) (fun v7 h=> ?_) (fun j6 h=> ?_)
 refine ax (a:=v7) ?_
 refine sr ?_
 refine aa.cl ac 2 [4,5,14,15] [4] ?_
 obtain⟨x8,hx8,h⟩:=bind_some h
 refine aa.ls (bw (d:=4) (L:=x1) (f:=eS) (ti:=bU) (tj:=et) (e:=9) (e':=9) (m:=1) (k:= .i64) ac rfl hx8) ?_
 refine aa.ls (bN (d:=4) (m:=1) (j:=0) (L:=x1) (f:=eS) (ti:=et) (e:=9) (v:=vs x8) ac rfl hx8) ?_
 obtain⟨x9,hx9,h⟩:=bind_some h
 refine aa.ls (xc lv (dy x8 _ hx9)) ?_
 refine bO ac 1 [4,5,19] [4] ?_
 refine aq h (fun h=> ?_) fun h=> ?_
 refine aJ ac [2,3] [2] ?_
 refine ah ?_
 obtain rfl:=inj h
 exact bE (bo (bo (bE (bo (aO (f2 (fo fh) fv))))))
 refine ai ?_
 obtain rfl:=inj h
 exact bt (cn (Le.an))
 refine aD ?_
 refine aa.cl ac 3 [4,5] [4] ?_
 refine aa.nil ?_
 obtain rfl:=inj h
 exact cn (Le.an)
 refine a6 ?_
 obtain rfl:=inj h
 exact cE (cG (cF (cn (Le.an))))
 refine aJ ac [2,3] [4] ?_
 refine ah ?_
 obtain rfl:=inj h
 exact aO (f2 (fo fh) fv)
theorem CY:bg Tryz.prog 203:=az Tryz.func203 (by kernel_rfl) rfl
noncomputable def ff(aS:ByteArray):Option (Bool):=
 ((gO aS).bind fun x1=>some x1.2)
theorem jt(aS:ByteArray)(r:Bool)(h:ff aS=some r):aR Tryz.prog 173 [.v (vs aS)] ⟨[.v (vb r)],[],false⟩:=by
 refine au Tryz.func173 rfl [(.tmp 2)] rfl (fun r=>⟨[.v (vb r)],[],false⟩) (r:=r) ?_
 unfold ff at h
 refine aJ ac [0] [] ?_
 refine sr ?_
 refine aa.cl ac 1 [6] [] ?_
 obtain⟨x1,hx1,h⟩:=bind_some h
 refine aa.ls (xc CY (oR aS _ hx1)) ?_
 refine bO ac 5 [4] [] ?_
 refine aJ ac [2] [] ?_
 refine ah ?_
 obtain rfl:=inj h
 exact aO (f1 fv)
theorem uv:bg Tryz.prog 173:=az Tryz.func173 (by kernel_rfl) rfl
noncomputable def jY(aS:ByteArray)(ik:Int)(ey:Int):Option (Bool):=
 (((dt (aS.size:Int) (fun(i3:Int) (_:Unit)=>((((mU aS i3).bind fun x7=>(bif(decide (x7<97))then some true else((mU aS i3).bind fun x8=>some (decide (x8>122)))))).bind fun(j9:Bool)=>(bif j9 then some (.inr (.inr false))else some (.inl ())))) (fun(_:Unit)=> .inl ()) 0 ())).bind (Sum.elim (fun(_:Unit)=>((dI (aS.size:Int) ik ey).bind fun x11=>some x11)) some))
theorem pL(aS:ByteArray)(ik:Int)(ey:Int)(r:Bool)(h:jY aS ik ey=some r):aR Tryz.prog 202 [.v (vs aS),.v (vi ik),.v (vi ey)] ⟨[.v (vb r)],[],false⟩:=by
 refine au Tryz.func202 rfl [(.tmp 6)] rfl (fun r=>⟨[.v (vb r)],[],false⟩) (r:=r) ?_
 unfold jY at h
 refine aJ ac [0,1,2] [] ?_
 refine ae ?_
 refine aJ ac [0,1,2,7] [] ?_
 refine bp (r:=r) h (fun j1=>⟨29,[(0,vs aS),(1,vi ik),(2,vi ey)],[]⟩) (fun v2 h=> ?_) (fun j1 h=> ?_)
 refine ax (a:=v2) ?_
 refine bc (r:=v2) (s:=(0,())) _ (fun s3=>⟨29,[(0,vs aS),(1,vi ik),(2,vi ey),(7,vi s3.1)],[]⟩) _ (Le.an) h (fun s3 v4 h=> ?_)
 refine ae ?_
 refine aJ ac [0,1,2,7,11] [] ?_
 refine aq h (fun h=> ?_) fun h=> ?_
 refine ai ?_
 refine bq ?_
 refine ae ?_
 refine bD (r:=v4) h (fun j5=>⟨29,[(0,vs aS),(1,vi ik),(2,vi ey),(7,vi s3.1)],[]⟩) (fun v6 h=> ?_) (fun j5 h=> ?_)
 refine ax (a:=v6) ?_
 refine ae ?_
 refine bn h (fun j9=>⟨29,[(0,vs aS),(1,vi ik),(2,vi ey),(7,vi s3.1),(23,vb j9)],[]⟩) (fun v10 h=> ?_) (fun j9 h=> ?_)
 refine aa.cl ac 2 [0,1,2,7,14,15] [] ?_
 obtain⟨x7,hx7,h⟩:=bind_some h
 refine aa.ls (sW (ti:=et) (k:= .i64) hx7 ac rfl) ?_
 refine aa.cl ac 2 [0,1,2,7,18] [] ?_
 refine aa.cu [(18,fun b=>b)] h (fun h=> ?_) fun h=> ?_
 refine aa.cl ac 5 [0,1,2,7,23] [] ?_
 refine aa.nil ?_
 obtain rfl:=inj h
 exact Le.an
 refine aa.cl ac 2 [0,1,2,7,18,19,20] [] ?_
 obtain⟨x8,hx8,h⟩:=bind_some h
 refine aa.ls (sW (ti:=et) (k:= .i64) hx8 ac rfl) ?_
 refine aa.cl ac 2 [0,1,2,7,23] [] ?_
 refine aa.nil ?_
 obtain rfl:=inj h
 exact Le.an
 refine aq h (fun h=> ?_) fun h=> ?_
 refine aJ ac [6] [] ?_
 refine ah ?_
 obtain rfl:=inj h
 exact bE (bo (bo (bE (bo (aO (f1 fv))))))
 refine ai ?_
 obtain rfl:=inj h
 exact bt (cn (Le.an))
 refine aD ?_
 refine aa.cl ac 3 [0,1,2,7] [] ?_
 refine aa.nil ?_
 obtain rfl:=inj h
 exact cn (Le.an)
 refine a6 ?_
 obtain rfl:=inj h
 exact cE (cG (cF (cn (Le.an))))
 refine sr ?_
 refine aa.cl ac 4 [25,26,27] [] ?_
 obtain⟨x11,hx11,h⟩:=bind_some h
 refine aa.ls (xc jW (c6 (aS.size:Int) ik ey _ hx11)) ?_
 refine ckn ac 1 ⟨29,[(6,vb x11)],[]⟩ ?_
 refine ah ?_
 obtain rfl:=inj h
 exact aO (f1 fv)
theorem CX:bg Tryz.prog 202:=az Tryz.func202 (by kernel_rfl) rfl
noncomputable def dJ(aS:ByteArray):Option (Bool):=
 ((jY aS 2 3).bind fun x1=>some x1)
theorem gP(aS:ByteArray)(r:Bool)(h:dJ aS=some r):aR Tryz.prog 172 [.v (vs aS)] ⟨[.v (vb r)],[],false⟩:=by
 refine au Tryz.func172 rfl [(.tmp 2)] rfl (fun r=>⟨[.v (vb r)],[],false⟩) (r:=r) ?_
 unfold dJ at h
 refine kM ac ⟨5,[(0,vs aS)],[]⟩ ?_
 refine sr ?_
 refine aa.ck ac 1 ⟨5,[(3,vs aS)],[]⟩ ?_
 obtain⟨x1,hx1,h⟩:=bind_some h
 refine aa.ls (xc CX (pL aS 2 3 _ hx1)) ?_
 refine ckn ac 1 ⟨5,[(2,vb x1)],[]⟩ ?_
 refine ah ?_
 obtain rfl:=inj h
 exact aO (f1 fv)
theorem uu:bg Tryz.prog 172:=az Tryz.func172 (by kernel_rfl) rfl
noncomputable def kg(aN:Name):Option (Bool):=
 ((((ff aN.Text).bind fun x1=>(bif x1 then((dJ aN.Language).bind fun x2=>(bif x2 then((dI aN.Status 0 2).bind fun x3=>(bif x3 then((gM aN.Years).bind fun x4=>some x4)else some false))else some false))else some false))).bind fun(j5:Bool)=>some j5)
theorem ri(aN:Name)(r:Bool)(h:kg aN=some r):aR Tryz.prog 201 [.v (.agg (tc ao aN))] ⟨[.v (vb r)],[],false⟩:=by
 refine au Tryz.func201 rfl [(.tmp 2)] rfl (fun r=>⟨[.v (vb r)],[],false⟩) (r:=r) ?_
 unfold kg at h
 refine aJ ac [1] [1] ?_
 refine ae ?_
 refine bn h (fun j5=>⟨21,[(2,vb j5)],[]⟩) (fun v6 h=> ?_) (fun j5 h=> ?_)
 refine aa.cl ac 2 [1,4] [1] ?_
 obtain⟨x1,hx1,h⟩:=bind_some h
 refine aa.ls (xc uv (jt aN.Text _ hx1)) ?_
 refine aa.cl ac 1 [1,6] [1] ?_
 refine aa.cu [(6,fun b=>b)] h (fun h=> ?_) fun h=> ?_
 refine aa.cl ac 2 [1,6,8] [1] ?_
 obtain⟨x2,hx2,h⟩:=bind_some h
 refine aa.ls (xc uu (gP aN.Language _ hx2)) ?_
 refine aa.cl ac 2 [1,11] [1] ?_
 refine aa.cu [(11,fun b=>b)] h (fun h=> ?_) fun h=> ?_
 refine aa.cl ac 2 [1,11,13] [1] ?_
 obtain⟨x3,hx3,h⟩:=bind_some h
 refine aa.ls (xc jW (c6 aN.Status 0 2 _ hx3)) ?_
 refine aa.cl ac 2 [1,16] [1] ?_
 refine aa.cu [(16,fun b=>b)] h (fun h=> ?_) fun h=> ?_
 refine aa.cl ac 2 [16,18] [] ?_
 obtain⟨x4,hx4,h⟩:=bind_some h
 refine aa.ls (xc ur (kv aN.Years _ hx4)) ?_
 refine aa.cl ac 2 [2] [] ?_
 refine aa.nil ?_
 obtain rfl:=inj h
 exact Le.an
 refine aa.ck ac 5 ⟨21,[(2,vb false)],[]⟩ ?_
 refine aa.nil ?_
 obtain rfl:=inj h
 exact Le.an
 refine aa.cl ac 10 [2] [] ?_
 refine aa.nil ?_
 obtain rfl:=inj h
 exact Le.an
 refine aa.cl ac 15 [2] [] ?_
 refine aa.nil ?_
 obtain rfl:=inj h
 exact Le.an
 refine ah ?_
 obtain rfl:=inj h
 exact aO (f1 fv)
theorem CW:bg Tryz.prog 201:=az Tryz.func201 (by kernel_rfl) rfl
noncomputable def ek(aA:Span)(aB:Span):Option (Bool):=
 some ((decide (aA.From≤aB.To))&&(decide (aB.From≤aA.To)))
theorem mh(aA:Span)(aB:Span)(r:Bool)(h:ek aA aB=some r):aR Tryz.prog 114 [.v (.agg (tc ig aA)),.v (.agg (tc ig aB))] ⟨[.v (vb r)],[],false⟩:=by
 refine au Tryz.func114 rfl [(.tmp 4)] rfl (fun r=>⟨[.v (vb r)],[],false⟩) (r:=r) ?_
 unfold ek at h
 refine aJ ac [2,3] [2,3] ?_
 refine ae ?_
 refine c7 ⟨17,[(4,vb ((decide (aA.From≤aB.To))&&(decide (aB.From≤aA.To))))],[]⟩ ?_ ?_
 refine aa.ck ac 6 ⟨17,[(2,.ref 2 0),(3,.ref 3 0),(10,vb (decide (aA.From≤aB.To)))],[(2,.box (tc ig aA)),(3,.box (tc ig aB))]⟩ ?_
 generalize (decide (aA.From≤aB.To))=bb
 cases bb
 refine aa.cl ac 7 [4] [] ?_
 exact aa.nil (Le.an)
 refine aa.cl ac 7 [4] [] ?_
 exact aa.nil (Le.an)
 refine ah ?_
 obtain rfl:=inj h
 exact aO (f1 fv)
theorem xY:bg Tryz.prog 114:=az Tryz.func114 (by kernel_rfl) rfl
noncomputable def ep(af:(List Name)):Option (Bool):=
 (((dt (af.length:Int) (fun(i3:Int) (_:Unit)=>((at' af i3).bind fun x7=>((kg x7).bind fun x8=>(bif(!x8)then some (.inr (.inr false))else(dt i3 (fun(i9:Int) (_:Unit)=>((at' af i9).bind fun x13=>(((bif(x7.Status==0)then(bif(x13.Status==0)then(bif(x7.Language.toList==x13.Language.toList)then((ek x7.Years x13.Years).bind fun x14=>some x14)else some false)else some false)else some false)).bind fun(j15:Bool)=>(bif j15 then some (.inr (.inr (.inr false)))else some (.inl ()))))) (fun(_:Unit)=> .inl ()) 0 ()))))) (fun(_:Unit)=> .inl ()) 0 ())).bind (Sum.elim (fun(_:Unit)=>some (decide ((af.length:Int)≤12))) some))
theorem gC(af:(List Name))(r:Bool)(h:ep af=some r):aR Tryz.prog 168 [.v (vl ao af)] ⟨[.v (vb r)],[],false⟩:=by
 refine au Tryz.func168 rfl [(.tmp 2)] rfl (fun r=>⟨[.v (vb r)],[],false⟩) (r:=r) ?_
 unfold ep at h
 refine aJ ac [0] [] ?_
 refine ae ?_
 refine aJ ac [0,3] [] ?_
 refine bp (r:=r) h (fun j1=>⟨54,[(0,vl ao af)],[]⟩) (fun v2 h=> ?_) (fun j1 h=> ?_)
 refine ax (a:=v2) ?_
 refine bc (r:=v2) (s:=(0,())) _ (fun s3=>⟨54,[(0,vl ao af),(3,vi s3.1)],[]⟩) _ (Le.an) h (fun s3 v4 h=> ?_)
 refine ae ?_
 refine aJ ac [0,3,10] [] ?_
 refine aq h (fun h=> ?_) fun h=> ?_
 refine ai ?_
 refine bq ?_
 refine ae ?_
 refine bD (r:=v4) h (fun j5=>⟨54,[(0,vl ao af),(3,vi s3.1)],[]⟩) (fun v6 h=> ?_) (fun j5 h=> ?_)
 refine ax (a:=v6) ?_
 refine sr ?_
 refine aa.cl ac 2 [0,3,13,14] [] ?_
 obtain⟨x7,hx7,h⟩:=bind_some h
 refine aa.ls (aY (L:=af) (f:=ao) (ti:=eb) (tj:=dg) (e:=169) (k:= .i64) ac rfl hx7) ?_
 refine bO ac 3 [0,3,4] [4] ?_
 refine ae ?_
 refine sr ?_
 refine aa.cl ac 1 [0,3,4,17] [4] ?_
 obtain⟨x8,hx8,h⟩:=bind_some h
 refine aa.ls (xc CW (ri x7 _ hx8)) ?_
 refine bO ac 1 [0,3,4,19] [4] ?_
 refine aq h (fun h=> ?_) fun h=> ?_
 refine aJ ac [2] [] ?_
 refine ah ?_
 obtain rfl:=inj h
 exact cY (bE (bo (bo (bE (bo (aO (f1 fv)))))))
 refine ai ?_
 refine bq ?_
 refine aJ ac [0,3,4,5] [4] ?_
 refine ax (a:=v6) ?_
 refine bc (r:=v6) (s:=(0,())) _ (fun s9=>⟨54,[(0,vl ao af),(3,vi s3.1),(4,.ref 4 0),(5,vi s9.1)],[(4,.box (tc ao x7))]⟩) _ (Le.an) h (fun s9 v10 h=> ?_)
 refine ae ?_
 refine aJ ac [0,3,4,5,22] [4] ?_
 refine aq h (fun h=> ?_) fun h=> ?_
 refine ai ?_
 refine bq ?_
 refine ae ?_
 refine bD (r:=v10) h (fun j11=>⟨54,[(0,vl ao af),(3,vi s3.1),(4,.ref 4 0),(5,vi s9.1)],[(4,.box (tc ao x7))]⟩) (fun v12 h=> ?_) (fun j11 h=> ?_)
 refine ax (a:=v12) ?_
 refine sr ?_
 refine aa.cl ac 2 [0,3,4,5,25,26] [4] ?_
 obtain⟨x13,hx13,h⟩:=bind_some h
 refine aa.ls (aY (L:=af) (f:=ao) (ti:=eb) (tj:=dg) (e:=169) (k:= .i64) ac rfl hx13) ?_
 refine bO ac 3 [0,3,4,5,6] [4,6] ?_
 refine ae ?_
 refine bn h (fun j15=>⟨54,[(0,vl ao af),(3,vi s3.1),(4,.ref 4 0),(5,vi s9.1),(50,vb j15)],[(4,.box (tc ao x7))]⟩) (fun v16 h=> ?_) (fun j15 h=> ?_)
 refine aa.cl ac 4 [0,3,4,5,6,32] [4,6] ?_
 refine aa.cu [(32,fun b=>b)] h (fun h=> ?_) fun h=> ?_
 refine aa.cl ac 5 [0,3,4,5,6,37] [4,6] ?_
 refine aa.cu [(37,fun b=>b)] h (fun h=> ?_) fun h=> ?_
 refine aa.cl ac 7 [0,3,4,5,6,44] [4,6] ?_
 refine aa.cu [(44,fun b=>b)] h (fun h=> ?_) fun h=> ?_
 refine aa.cl ac 4 [0,3,4,5,44,46,48] [4] ?_
 obtain⟨x14,hx14,h⟩:=bind_some h
 refine aa.ls (xc xY (mh x7.Years x13.Years _ hx14)) ?_
 refine aa.cl ac 1 [0,3,4,5,50] [4] ?_
 refine aa.nil ?_
 obtain rfl:=inj h
 exact Le.an
 refine aa.cl ac 6 [0,3,4,5,50] [4] ?_
 refine aa.nil ?_
 obtain rfl:=inj h
 exact Le.an
 refine aa.cl ac 13 [0,3,4,5,50] [4] ?_
 refine aa.nil ?_
 obtain rfl:=inj h
 exact Le.an
 refine aa.cl ac 18 [0,3,4,5,50] [4] ?_
 refine aa.nil ?_
 obtain rfl:=inj h
 exact Le.an
 refine aq h (fun h=> ?_) fun h=> ?_
 refine kM ac ⟨54,[(2,vb false)],[]⟩ ?_
 refine ah ?_
 obtain rfl:=inj h
 exact bE (bo (bo (bE (bE (bo (bo (bE (bo (aO (f1 fv))))))))))
 refine ai ?_
 obtain rfl:=inj h
 exact bt (cn (Le.an))
 refine aD ?_
 refine aa.cl ac 3 [0,3,4,5] [4] ?_
 refine aa.nil ?_
 obtain rfl:=inj h
 exact cn (Le.an)
 refine a6 ?_
 obtain rfl:=inj h
 exact cE (cG (cF (bt (cn (Le.an)))))
 refine aD ?_
 refine aa.cl ac 3 [0,3] [] ?_
 refine aa.nil ?_
 obtain rfl:=inj h
 exact cn (Le.an)
 refine a6 ?_
 obtain rfl:=inj h
 exact cE (cG (cF (cn (Le.an))))
 refine aJ ac [2] [] ?_
 refine ah ?_
 obtain rfl:=inj h
 exact aO (f1 fv)
theorem ru:bg Tryz.prog 168:=az Tryz.func168 (by kernel_rfl) rfl
noncomputable def hN(aP:Place):Option (Bool):=
 ((((dw aP.Code).bind fun x1=>(bif(!x1)then some true else((dI aP.Class 0 19).bind fun x2=>(bif(!x2)then some true else((gM aP.Years).bind fun x3=>(bif(!x3)then some true else((ep aP.Names).bind fun x4=>some (!x4))))))))).bind fun(j5:Bool)=>(bif j5 then some false else(((dt (aP.Names.length:Int) (fun(i9:Int) (_:Unit)=>((((at' aP.Names i9).bind fun x13=>(bif(decide (x13.Years.From<aP.Years.From))then some true else((at' aP.Names i9).bind fun x14=>some (decide (x14.Years.To>aP.Years.To)))))).bind fun(j15:Bool)=>(bif j15 then some (.inr (.inr false))else some (.inl ())))) (fun(_:Unit)=> .inl ()) 0 ())).bind (Sum.elim (fun(_:Unit)=>some true) some))))
theorem mb(aP:Place)(r:Bool)(h:hN aP=some r):aR Tryz.prog 112 [.v (.agg (tc ad aP))] ⟨[.v (vb r)],[],false⟩:=by
 refine au Tryz.func112 rfl [(.tmp 2)] rfl (fun r=>⟨[.v (vb r)],[],false⟩) (r:=r) ?_
 unfold hN at h
 refine aJ ac [1] [1] ?_
 refine ae ?_
 refine ae ?_
 refine bn h (fun j5=>⟨57,[(1,.ref 1 0),(25,vb j5)],[(1,.box (tc ad aP))]⟩) (fun v6 h=> ?_) (fun j5 h=> ?_)
 refine aa.cl ac 2 [1,5] [1] ?_
 obtain⟨x1,hx1,h⟩:=bind_some h
 refine aa.ls (xc lv (dy aP.Code _ hx1)) ?_
 refine aa.cl ac 2 [1,8] [1] ?_
 refine aa.cu [(8,fun b=>b)] h (fun h=> ?_) fun h=> ?_
 refine aa.cl ac 17 [1,25] [1] ?_
 refine aa.nil ?_
 obtain rfl:=inj h
 exact Le.an
 refine aa.cl ac 2 [1,8,10] [1] ?_
 obtain⟨x2,hx2,h⟩:=bind_some h
 refine aa.ls (xc jW (c6 aP.Class 0 19 _ hx2)) ?_
 refine aa.cl ac 3 [1,14] [1] ?_
 refine aa.cu [(14,fun b=>b)] h (fun h=> ?_) fun h=> ?_
 refine aa.cl ac 11 [1,25] [1] ?_
 refine aa.nil ?_
 obtain rfl:=inj h
 exact Le.an
 refine aa.cl ac 2 [1,14,16] [1] ?_
 obtain⟨x3,hx3,h⟩:=bind_some h
 refine aa.ls (xc ur (kv aP.Years _ hx3)) ?_
 refine aa.cl ac 3 [1,20] [1] ?_
 refine aa.cu [(20,fun b=>b)] h (fun h=> ?_) fun h=> ?_
 refine aa.ck ac 5 ⟨57,[(1,.ref 1 0),(25,vb true)],[(1,.box (tc ad aP))]⟩ ?_
 refine aa.nil ?_
 obtain rfl:=inj h
 exact Le.an
 refine aa.cl ac 2 [1,20,22] [1] ?_
 obtain⟨x4,hx4,h⟩:=bind_some h
 refine aa.ls (xc ru (gC aP.Names _ hx4)) ?_
 refine aa.cl ac 2 [1,25] [1] ?_
 refine aa.nil ?_
 obtain rfl:=inj h
 exact Le.an
 refine aq h (fun h=> ?_) fun h=> ?_
 refine aJ ac [2] [] ?_
 refine ah ?_
 obtain rfl:=inj h
 exact cY (aO (f1 fv))
 refine ai ?_
 refine bq ?_
 refine ae ?_
 refine aJ ac [1,3] [1] ?_
 refine bp (r:=r) h (fun j7=>⟨57,[],[]⟩) (fun v8 h=> ?_) (fun j7 h=> ?_)
 refine ax (a:=v8) ?_
 refine bc (r:=v8) (s:=(0,())) _ (fun s9=>⟨57,[(1,.ref 1 0),(3,vi s9.1)],[(1,.box (tc ad aP))]⟩) _ (Le.an) h (fun s9 v10 h=> ?_)
 refine ae ?_
 refine aJ ac [1,3,30] [1] ?_
 refine aq h (fun h=> ?_) fun h=> ?_
 refine ai ?_
 refine bq ?_
 refine ae ?_
 refine bD (r:=v10) h (fun j11=>⟨57,[(1,.ref 1 0),(3,vi s9.1)],[(1,.box (tc ad aP))]⟩) (fun v12 h=> ?_) (fun j11 h=> ?_)
 refine ax (a:=v12) ?_
 refine ae ?_
 refine ie mixed h (fun j15=>⟨57,[(1,.ref 1 0),(3,vi s9.1),(56,vb j15)],[(1,.box (tc ad aP))]⟩) (fun v16 h=> ?_) (fun j15 h=> ?_)
 refine aH.cl ac false 3 [1,3,34,35] [1] ?_
 obtain⟨x13,hx13,h⟩:=bind_some h
 refine aH.step (aY (L:=aP.Names) (f:=ao) (ti:=eb) (tj:=dg) (e:=169) (k:= .i64) ac rfl hx13) ?_
 refine aH.cl ac false 8 [1,3,44] [1] ?_
 refine aH.cu [(44,fun b=>b)] h (fun h=> ?_) fun h=> ?_
 refine aH.cl ac false 12 [1,3,56] [1] ?_
 refine aH.nil (by kernel_rfl) ?_
 obtain rfl:=inj h
 exact Le.an
 refine aH.cl ac false 3 [1,3,44,46,47] [1] ?_
 obtain⟨x14,hx14,h⟩:=bind_some h
 refine aH.step (aY (L:=aP.Names) (f:=ao) (ti:=eb) (tj:=dg) (e:=169) (k:= .i64) ac rfl hx14) ?_
 refine aH.cl ac false 8 [1,3,56] [1] ?_
 refine aH.nil (by kernel_rfl) ?_
 obtain rfl:=inj h
 exact Le.an
 refine aq h (fun h=> ?_) fun h=> ?_
 refine aJ ac [2] [] ?_
 refine ah ?_
 obtain rfl:=inj h
 exact bE (bo (bo (bE (bo (aO (f1 fv))))))
 refine ai ?_
 obtain rfl:=inj h
 exact bt (cn (Le.an))
 refine aD ?_
 refine aa.cl ac 3 [1,3] [1] ?_
 refine aa.nil ?_
 obtain rfl:=inj h
 exact cn (Le.an)
 refine a6 ?_
 obtain rfl:=inj h
 exact cE (cG (cF (cn (Le.an))))
 refine aJ ac [2] [] ?_
 refine ah ?_
 obtain rfl:=inj h
 exact aO (f1 fv)
theorem xW:bg Tryz.prog 112:=az Tryz.func112 (by kernel_rfl) rfl
noncomputable def c9(af:(List Place)):Option (Bool):=
 (((dt (af.length:Int) (fun(i3:Int) (_:Unit)=>((((at' af i3).bind fun x7=>((hN x7).bind fun x8=>(bif(!x8)then some true else(bif(decide (i3>0))then((at' af (bF (i3 - 1))).bind fun x9=>((at' af i3).bind fun x10=>some (!(Op.bytesLess x9.Code.toList x10.Code.toList))))else some false))))).bind fun(j11:Bool)=>(bif j11 then some (.inr (.inr false))else some (.inl ())))) (fun(_:Unit)=> .inl ()) 0 ())).bind (Sum.elim (fun(_:Unit)=>some (decide ((af.length:Int)≤10))) some))
theorem fj(af:(List Place))(r:Bool)(h:c9 af=some r):aR Tryz.prog 59 [.v (vl ad af)] ⟨[.v (vb r)],[],false⟩:=by
 refine au Tryz.func59 rfl [(.tmp 2)] rfl (fun r=>⟨[.v (vb r)],[],false⟩) (r:=r) ?_
 unfold c9 at h
 refine aJ ac [0] [] ?_
 refine ae ?_
 refine aJ ac [0,3] [] ?_
 refine bp (r:=r) h (fun j1=>⟨37,[(0,vl ad af)],[]⟩) (fun v2 h=> ?_) (fun j1 h=> ?_)
 refine ax (a:=v2) ?_
 refine bc (r:=v2) (s:=(0,())) _ (fun s3=>⟨37,[(0,vl ad af),(3,vi s3.1)],[]⟩) _ (Le.an) h (fun s3 v4 h=> ?_)
 refine ae ?_
 refine aJ ac [0,3,7] [] ?_
 refine aq h (fun h=> ?_) fun h=> ?_
 refine ai ?_
 refine bq ?_
 refine ae ?_
 refine bD (r:=v4) h (fun j5=>⟨37,[(0,vl ad af),(3,vi s3.1)],[]⟩) (fun v6 h=> ?_) (fun j5 h=> ?_)
 refine ax (a:=v6) ?_
 refine ae ?_
 refine ie mixed h (fun j11=>⟨37,[(0,vl ad af),(3,vi s3.1),(33,vb j11)],[]⟩) (fun v12 h=> ?_) (fun j11 h=> ?_)
 refine aH.cl ac false 2 [0,3,10,11] [] ?_
 obtain⟨x7,hx7,h⟩:=bind_some h
 refine aH.step (aY (L:=af) (f:=ad) (ti:=bR) (tj:=bG) (e:=91) (k:= .i64) ac rfl hx7) ?_
 refine aH.cl ac false 1 [0,3,13] [] ?_
 obtain⟨x8,hx8,h⟩:=bind_some h
 refine aH.step (xc xW (mb x7 _ hx8)) ?_
 refine aH.cl ac false 2 [0,3,16] [] ?_
 refine aH.cu [(16,fun b=>b)] h (fun h=> ?_) fun h=> ?_
 refine aH.cl ac false 17 [0,3,33] [] ?_
 refine aH.nil (by kernel_rfl) ?_
 obtain rfl:=inj h
 exact Le.an
 refine aH.cl ac false 3 [0,3,16,19] [] ?_
 refine aH.cu [(19,fun b=>b)] h (fun h=> ?_) fun h=> ?_
 refine aH.cl ac false 3 [0,3,16,19,20,22] [] ?_
 obtain⟨x9,hx9,h⟩:=bind_some h
 refine aH.step (aY (L:=af) (f:=ad) (ti:=bR) (tj:=bG) (e:=91) (k:= .i64) ac rfl hx9) ?_
 refine aH.cl ac false 4 [0,3,16,19,25,26,27] [] ?_
 obtain⟨x10,hx10,h⟩:=bind_some h
 refine aH.step (aY (L:=af) (f:=ad) (ti:=bR) (tj:=bG) (e:=91) (k:= .i64) ac rfl hx10) ?_
 refine aH.cl ac false 5 [0,3,33] [] ?_
 refine aH.nil (by kernel_rfl) ?_
 obtain rfl:=inj h
 exact Le.an
 refine aH.ck ac false 14 ⟨37,[(0,vl ad af),(3,vi s3.1),(33,vb false)],[]⟩ ?_
 refine aH.nil (by kernel_rfl) ?_
 obtain rfl:=inj h
 exact Le.an
 refine aq h (fun h=> ?_) fun h=> ?_
 refine aJ ac [2] [] ?_
 refine ah ?_
 obtain rfl:=inj h
 exact bE (bo (bo (bE (bo (aO (f1 fv))))))
 refine ai ?_
 obtain rfl:=inj h
 exact bt (cn (Le.an))
 refine aD ?_
 refine aa.cl ac 3 [0,3] [] ?_
 refine aa.nil ?_
 obtain rfl:=inj h
 exact cn (Le.an)
 refine a6 ?_
 obtain rfl:=inj h
 exact cE (cG (cF (cn (Le.an))))
 refine aJ ac [2] [] ?_
 refine ah ?_
 obtain rfl:=inj h
 exact aO (f1 fv)
theorem uz:bg Tryz.prog 59:=az Tryz.func59 (by kernel_rfl) rfl
noncomputable def jV(aL:ay):Option (Bool):=
 ((((dw aL.Child).bind fun x1=>(bif x1 then((dw aL.Parent).bind fun x2=>(bif x2 then(bif(!(aL.Child.toList==aL.Parent.toList))then((gM aL.Years).bind fun x3=>some x3)else some false)else some false))else some false))).bind fun(j4:Bool)=>some j4)
theorem nF(aL:ay)(r:Bool)(h:jV aL=some r):aR Tryz.prog 113 [.v (.agg (tc aj aL))] ⟨[.v (vb r)],[],false⟩:=by
 refine au Tryz.func113 rfl [(.tmp 2)] rfl (fun r=>⟨[.v (vb r)],[],false⟩) (r:=r) ?_
 unfold jV at h
 refine aJ ac [1] [1] ?_
 refine ae ?_
 refine bn h (fun j4=>⟨23,[(2,vb j4)],[]⟩) (fun v5 h=> ?_) (fun j4 h=> ?_)
 refine aa.cl ac 2 [1,4] [1] ?_
 obtain⟨x1,hx1,h⟩:=bind_some h
 refine aa.ls (xc lv (dy aL.Child _ hx1)) ?_
 refine aa.cl ac 1 [1,6] [1] ?_
 refine aa.cu [(6,fun b=>b)] h (fun h=> ?_) fun h=> ?_
 refine aa.cl ac 2 [1,6,8] [1] ?_
 obtain⟨x2,hx2,h⟩:=bind_some h
 refine aa.ls (xc lv (dy aL.Parent _ hx2)) ?_
 refine aa.cl ac 2 [1,11] [1] ?_
 refine aa.cu [(11,fun b=>b)] h (fun h=> ?_) fun h=> ?_
 refine aa.cl ac 7 [1,18] [1] ?_
 refine aa.cu [(18,fun b=>b)] h (fun h=> ?_) fun h=> ?_
 refine aa.cl ac 2 [18,20] [] ?_
 obtain⟨x3,hx3,h⟩:=bind_some h
 refine aa.ls (xc ur (kv aL.Years _ hx3)) ?_
 refine aa.cl ac 2 [2] [] ?_
 refine aa.nil ?_
 obtain rfl:=inj h
 exact Le.an
 refine aa.cl ac 5 [2] [] ?_
 refine aa.nil ?_
 obtain rfl:=inj h
 exact Le.an
 refine aa.ck ac 12 ⟨23,[(2,vb false)],[]⟩ ?_
 refine aa.nil ?_
 obtain rfl:=inj h
 exact Le.an
 refine aa.cl ac 17 [2] [] ?_
 refine aa.nil ?_
 obtain rfl:=inj h
 exact Le.an
 refine ah ?_
 obtain rfl:=inj h
 exact aO (f1 fv)
theorem xX:bg Tryz.prog 113:=az Tryz.func113 (by kernel_rfl) rfl
noncomputable def hZ(af:(List ByteArray))(aS:ByteArray):Option (Int):=
 (((dt (af.length:Int) (fun(i3:Int) (_:Unit)=>((at' af i3).bind fun x7=>(bif(x7.toList==aS.toList)then some (.inr (.inr i3))else some (.inl ())))) (fun(_:Unit)=> .inl ()) 0 ())).bind (Sum.elim (fun(_:Unit)=>some (-1)) some))
theorem qk(af:(List ByteArray))(aS:ByteArray)(r:Int)(h:hZ af aS=some r):aR Tryz.prog 169 [.v (vl eS af),.v (vs aS)] ⟨[.v (vi r)],[],false⟩:=by
 refine au Tryz.func169 rfl [(.tmp 4)] rfl (fun r=>⟨[.v (vi r)],[],false⟩) (r:=r) ?_
 unfold hZ at h
 refine aJ ac [0,1] [] ?_
 refine ae ?_
 refine aJ ac [0,1,5] [] ?_
 refine bp (r:=r) h (fun j1=>⟨19,[],[]⟩) (fun v2 h=> ?_) (fun j1 h=> ?_)
 refine ax (a:=v2) ?_
 refine bc (r:=v2) (s:=(0,())) _ (fun s3=>⟨19,[(0,vl eS af),(1,vs aS),(5,vi s3.1)],[]⟩) _ (Le.an) h (fun s3 v4 h=> ?_)
 refine ae ?_
 refine aJ ac [0,1,5,9] [] ?_
 refine aq h (fun h=> ?_) fun h=> ?_
 refine ai ?_
 refine bq ?_
 refine ae ?_
 refine bD (r:=v4) h (fun j5=>⟨19,[(0,vl eS af),(1,vs aS),(5,vi s3.1)],[]⟩) (fun v6 h=> ?_) (fun j5 h=> ?_)
 refine ax (a:=v6) ?_
 refine sr ?_
 refine aa.cl ac 2 [0,1,5,12,13] [] ?_
 obtain⟨x7,hx7,h⟩:=bind_some h
 refine aa.ls (aY (L:=af) (f:=eS) (ti:=bU) (tj:=et) (e:=9) (k:= .i64) ac rfl hx7) ?_
 refine bO ac 3 [0,1,5,17] [] ?_
 refine aq h (fun h=> ?_) fun h=> ?_
 refine aJ ac [4] [] ?_
 refine ah ?_
 obtain rfl:=inj h
 exact bE (bo (bo (bE (bo (aO (f1 fv))))))
 refine ai ?_
 obtain rfl:=inj h
 exact bt (cn (Le.an))
 refine aD ?_
 refine aa.cl ac 3 [0,1,5] [] ?_
 refine aa.nil ?_
 obtain rfl:=inj h
 exact cn (Le.an)
 refine a6 ?_
 obtain rfl:=inj h
 exact cE (cG (cF (cn (Le.an))))
 refine aJ ac [4] [] ?_
 refine ah ?_
 obtain rfl:=inj h
 exact aO (f1 fv)
theorem CF:bg Tryz.prog 169:=az Tryz.func169 (by kernel_rfl) rfl
noncomputable def eF(af:(List ay))(aE:ByteArray)(ap:Int):Option (ByteArray):=
 (((dt (af.length:Int) (fun(i3:Int) (_:Unit)=>((((at' af i3).bind fun x7=>(bif(x7.Child.toList==aE.toList)then((at' af i3).bind fun x8=>((at' af i3).bind fun x9=>((dI ap x8.Years.From x9.Years.To).bind fun x10=>some x10)))else some false))).bind fun(j11:Bool)=>(bif j11 then((at' af i3).bind fun x13=>some (.inr (.inr x13.Parent)))else some (.inl ())))) (fun(_:Unit)=> .inl ()) 0 ())).bind (Sum.elim (fun(_:Unit)=>some (ByteArray.mk #[])) some))
theorem lj(af:(List ay))(aE:ByteArray)(ap:Int)(r:ByteArray)(h:eF af aE ap=some r):aR Tryz.prog 130 [.v (vl aj af),.v (vs aE),.v (vi ap)] ⟨[.v (vs r)],[],false⟩:=by
 refine au Tryz.func130 rfl [(.tmp 6)] rfl (fun r=>⟨[.v (vs r)],[],false⟩) (r:=r) ?_
 unfold eF at h
 refine aJ ac [0,1,2] [] ?_
 refine ae ?_
 refine aJ ac [0,1,2,7] [] ?_
 refine bp (r:=r) h (fun j1=>⟨42,[],[]⟩) (fun v2 h=> ?_) (fun j1 h=> ?_)
 refine ax (a:=v2) ?_
 refine bc (r:=v2) (s:=(0,())) _ (fun s3=>⟨42,[(0,vl aj af),(1,vs aE),(2,vi ap),(7,vi s3.1)],[]⟩) _ (Le.an) h (fun s3 v4 h=> ?_)
 refine ae ?_
 refine aJ ac [0,1,2,7,11] [] ?_
 refine aq h (fun h=> ?_) fun h=> ?_
 refine ai ?_
 refine bq ?_
 refine ae ?_
 refine bD (r:=v4) h (fun j5=>⟨42,[(0,vl aj af),(1,vs aE),(2,vi ap),(7,vi s3.1)],[]⟩) (fun v6 h=> ?_) (fun j5 h=> ?_)
 refine ax (a:=v6) ?_
 refine ae ?_
 refine ie mixed h (fun j11=>⟨42,[(0,vl aj af),(1,vs aE),(2,vi ap),(7,vi s3.1),(36,vb j11)],[]⟩) (fun v12 h=> ?_) (fun j11 h=> ?_)
 refine aH.cl ac false 2 [0,1,2,7,14,15] [] ?_
 obtain⟨x7,hx7,h⟩:=bind_some h
 refine aH.step (aY (L:=af) (f:=aj) (ti:=eo) (tj:=ew) (e:=85) (k:= .i64) ac rfl hx7) ?_
 refine aH.cl ac false 5 [0,1,2,7,21] [] ?_
 refine aH.cu [(21,fun b=>b)] h (fun h=> ?_) fun h=> ?_
 refine aH.cl ac false 3 [0,1,2,7,21,22,23,24] [] ?_
 obtain⟨x8,hx8,h⟩:=bind_some h
 refine aH.step (aY (L:=af) (f:=aj) (ti:=eo) (tj:=ew) (e:=85) (k:= .i64) ac rfl hx8) ?_
 refine aH.cl ac false 5 [0,1,2,7,21,22,28,29,30] [] ?_
 obtain⟨x9,hx9,h⟩:=bind_some h
 refine aH.step (aY (L:=af) (f:=aj) (ti:=eo) (tj:=ew) (e:=85) (k:= .i64) ac rfl hx9) ?_
 refine aH.cl ac false 3 [0,1,2,7,21,22,28,34] [] ?_
 obtain⟨x10,hx10,h⟩:=bind_some h
 refine aH.step (xc jW (c6 ap x8.Years.From x9.Years.To _ hx10)) ?_
 refine aH.cl ac false 1 [0,1,2,7,36] [] ?_
 refine aH.nil (by kernel_rfl) ?_
 obtain rfl:=inj h
 exact Le.an
 refine aH.cl ac false 15 [0,1,2,7,36] [] ?_
 refine aH.nil (by kernel_rfl) ?_
 obtain rfl:=inj h
 exact Le.an
 refine aq h (fun h=> ?_) fun h=> ?_
 refine sr ?_
 refine aa.cl ac 2 [37,38] [] ?_
 obtain⟨x13,hx13,h⟩:=bind_some h
 refine aa.ls (aY (L:=af) (f:=aj) (ti:=eo) (tj:=ew) (e:=85) (k:= .i64) ac rfl hx13) ?_
 refine ckn ac 3 ⟨42,[(6,vs x13.Parent)],[]⟩ ?_
 refine ah ?_
 obtain rfl:=inj h
 exact bE (bo (bo (bE (bo (aO (f1 fv))))))
 refine ai ?_
 obtain rfl:=inj h
 exact bt (cn (Le.an))
 refine aD ?_
 refine aa.cl ac 3 [0,1,2,7] [] ?_
 refine aa.nil ?_
 obtain rfl:=inj h
 exact cn (Le.an)
 refine a6 ?_
 obtain rfl:=inj h
 exact cE (cG (cF (cn (Le.an))))
 refine aJ ac [6] [] ?_
 refine ah ?_
 obtain rfl:=inj h
 exact aO (f1 fv)
theorem yd:bg Tryz.prog 130:=az Tryz.func130 (by kernel_rfl) rfl
noncomputable def kj(af:(List ay))(aE:ByteArray)(ap:Int):Option ((List ByteArray)×Bool):=
 (((loop (fun(s3:ByteArray×(List ByteArray))=>(bif(!(s3.1.toList==(ByteArray.mk #[]).toList))then((hZ s3.2 s3.1).bind fun x5=>(bif(decide (x5≥0))then some (.inr (.inr (([]:List ByteArray),false)))else((c4 s3.2 ([s3.1]:List ByteArray)).bind fun x6=>((eF af s3.1 ap).bind fun x7=>some (.inl (x7,x6))))))else some (.inr (.inl s3.2)))) (aE,([]:List ByteArray)))).bind (Sum.elim (fun(j1:(List ByteArray))=>some (j1,true)) some))
theorem rm(af:(List ay))(aE:ByteArray)(ap:Int)(r:(List ByteArray)×Bool)(h:kj af aE ap=some r):aR Tryz.prog 115 [.v (vl aj af),.v (vs aE),.v (vi ap)] ⟨[.own 9 1 r.1.length (r.1.map eS),.v (vb r.2)],[],false⟩:=by
 refine au Tryz.func115 rfl [(.tmp 6),(.tmp 7)] rfl (fun r=>⟨[.own 9 1 r.1.length (r.1.map eS),.v (vb r.2)],[],false⟩) (r:=r) ?_
 unfold kj at h
 refine aJ ac [0,1,2] [] ?_
 refine aJ ac [0,1,2,8] [9] ?_
 refine ae ?_
 refine bp (r:=r) h (fun j1=>⟨25,[(8,.own 8)],[(8,oa 9 1 eS j1)]⟩) (fun v2 h=> ?_) (fun j1 h=> ?_)
 refine ax (a:=v2) ?_
 refine bc (r:=v2) (s:=(aE,([]:List ByteArray))) _ (fun s3=>⟨25,[(0,vl aj af),(1,vs s3.1),(2,vi ap),(8,.own 8)],[(8,oa 9 1 eS s3.2)]⟩) _ (Le.rr [9] [(9,8)]) h (fun s3 v4 h=> ?_)
 refine ae ?_
 refine aJ ac [0,1,2,8,11] [8] ?_
 refine aq h (fun h=> ?_) fun h=> ?_
 refine ai ?_
 refine bq ?_
 refine ax (a:=v4) ?_
 refine ae ?_
 refine sr ?_
 refine aa.cl ac 2 [0,1,2,8,12,13] [8] ?_
 obtain⟨x5,hx5,h⟩:=bind_some h
 refine aa.ls (xc CF (qk s3.2 s3.1 _ hx5)) ?_
 refine bO ac 1 [0,1,2,8,15] [8] ?_
 refine aq h (fun h=> ?_) fun h=> ?_
 refine aJ ac [6,7] [6] ?_
 refine ah ?_
 obtain rfl:=inj h
 exact cY (bE (bo (bE (bo (aO (f2 (fo fh) fv))))))
 refine ai ?_
 refine bq ?_
 refine sr ?_
 refine aa.cl ac 3 [0,1,2,16,18] [8,18] ?_
 obtain⟨x6,hx6,h⟩:=bind_some h
 refine aa.a7 (bh (f:=eS) (t:=106) (ti:=bU) (tj:=et) (zs:=[.string (ByteArray.mk #[])]) (e:=9) (m:=1) (d:=8) (xv:= .own 18) hx6 ac rfl rfl rfl rfl (bT (e:=9))) ?_
 refine bO ac 1 [0,1,2,8] [19] ?_
 refine aD ?_
 refine aa.cl ac 3 [0,2,8,20,21,22] [19] ?_
 obtain⟨x7,hx7,h⟩:=bind_some h
 refine aa.ls (xc yd (lj af s3.1 ap _ hx7)) ?_
 refine aa.cl ac 1 [0,1,2,8] [19] ?_
 refine aa.nil ?_
 obtain rfl:=inj h
 exact bt (cn (Le.rr [19] [(19,8)]))
 refine a6 ?_
 obtain rfl:=inj h
 exact cE (cG (cF (cn (Le.an))))
 refine kM ac ⟨25,[(6,.own 8),(7,vb true)],[(8,oa 9 1 eS j1)]⟩ ?_
 refine ah ?_
 obtain rfl:=inj h
 exact aO (f2 (fo fh) fv)
theorem Cd:bg Tryz.prog 115:=az Tryz.func115 (by kernel_rfl) rfl
noncomputable def dM(af:(List ay)):Option (Bool):=
 (((dt (af.length:Int) (fun(i3:Int) (_:Unit)=>((at' af i3).bind fun x7=>((jV x7).bind fun x8=>(bif(!x8)then some (.inr (.inr false))else(dt i3 (fun(i9:Int) (_:Unit)=>((((at' af i9).bind fun x13=>((at' af i3).bind fun x14=>(bif(x13.Child.toList==x14.Child.toList)then((at' af i9).bind fun x15=>((at' af i3).bind fun x16=>((ek x15.Years x16.Years).bind fun x17=>some x17)))else some false)))).bind fun(j18:Bool)=>(bif j18 then some (.inr (.inr (.inr false)))else some (.inl ())))) (fun(_:Unit)=> .inl ()) 0 ()))))) (fun(_:Unit)=> .inl ()) 0 ())).bind (Sum.elim (fun(_:Unit)=>(bif(decide ((af.length:Int)>20))then some false else(((dt (af.length:Int) (fun(i22:Int) (_:Unit)=>(dt (af.length:Int) (fun(i26:Int) (_:Unit)=>((at' af i26).bind fun x30=>((at' af i22).bind fun x31=>((kj af x30.Child x31.Years.From).bind fun x32=>(bif(!x32.2)then some (.inr (.inr (.inr false)))else some (.inl ())))))) (fun(_:Unit)=> .inl ()) 0 ())) (fun(_:Unit)=> .inl ()) 0 ())).bind (Sum.elim (fun(_:Unit)=>some true) some)))) some))
theorem eU(af:(List ay))(r:Bool)(h:dM af=some r):aR Tryz.prog 60 [.v (vl aj af)] ⟨[.v (vb r)],[],false⟩:=by
 refine au Tryz.func60 rfl [(.tmp 2)] rfl (fun r=>⟨[.v (vb r)],[],false⟩) (r:=r) ?_
 unfold dM at h
 refine aJ ac [0] [] ?_
 refine ae ?_
 refine aJ ac [0,3] [] ?_
 refine bp (r:=r) h (fun j1=>⟨83,[(0,vl aj af)],[]⟩) (fun v2 h=> ?_) (fun j1 h=> ?_)
 refine ax (a:=v2) ?_
 refine bc (r:=v2) (s:=(0,())) _ (fun s3=>⟨83,[(0,vl aj af),(3,vi s3.1)],[]⟩) _ (Le.an) h (fun s3 v4 h=> ?_)
 refine ae ?_
 refine aJ ac [0,3,12] [] ?_
 refine aq h (fun h=> ?_) fun h=> ?_
 refine ai ?_
 refine bq ?_
 refine ae ?_
 refine bD (r:=v4) h (fun j5=>⟨83,[(0,vl aj af),(3,vi s3.1)],[]⟩) (fun v6 h=> ?_) (fun j5 h=> ?_)
 refine ax (a:=v6) ?_
 refine ae ?_
 refine sr ?_
 refine aa.cl ac 2 [0,3,15,16] [] ?_
 obtain⟨x7,hx7,h⟩:=bind_some h
 refine aa.ls (aY (L:=af) (f:=aj) (ti:=eo) (tj:=ew) (e:=85) (k:= .i64) ac rfl hx7) ?_
 refine aa.cl ac 1 [0,3,18] [] ?_
 obtain⟨x8,hx8,h⟩:=bind_some h
 refine aa.ls (xc xX (nF x7 _ hx8)) ?_
 refine bO ac 1 [0,3,20] [] ?_
 refine aq h (fun h=> ?_) fun h=> ?_
 refine aJ ac [2] [] ?_
 refine ah ?_
 obtain rfl:=inj h
 exact cY (bE (bo (bo (bE (bo (aO (f1 fv)))))))
 refine ai ?_
 refine bq ?_
 refine aJ ac [0,3,4] [] ?_
 refine ax (a:=v6) ?_
 refine bc (r:=v6) (s:=(0,())) _ (fun s9=>⟨83,[(0,vl aj af),(3,vi s3.1),(4,vi s9.1)],[]⟩) _ (Le.an) h (fun s9 v10 h=> ?_)
 refine ae ?_
 refine aJ ac [0,3,4,23] [] ?_
 refine aq h (fun h=> ?_) fun h=> ?_
 refine ai ?_
 refine bq ?_
 refine ae ?_
 refine bD (r:=v10) h (fun j11=>⟨83,[(0,vl aj af),(3,vi s3.1),(4,vi s9.1)],[]⟩) (fun v12 h=> ?_) (fun j11 h=> ?_)
 refine ax (a:=v12) ?_
 refine ae ?_
 refine ie mixed h (fun j18=>⟨83,[(0,vl aj af),(3,vi s3.1),(4,vi s9.1),(49,vb j18)],[]⟩) (fun v19 h=> ?_) (fun j18 h=> ?_)
 refine aH.cl ac false 2 [0,3,4,26,27] [] ?_
 obtain⟨x13,hx13,h⟩:=bind_some h
 refine aH.step (aY (L:=af) (f:=aj) (ti:=eo) (tj:=ew) (e:=85) (k:= .i64) ac rfl hx13) ?_
 refine aH.cl ac false 4 [0,3,4,30,31,32] [] ?_
 obtain⟨x14,hx14,h⟩:=bind_some h
 refine aH.step (aY (L:=af) (f:=aj) (ti:=eo) (tj:=ew) (e:=85) (k:= .i64) ac rfl hx14) ?_
 refine aH.cl ac false 4 [0,3,4,37] [] ?_
 refine aH.cu [(37,fun b=>b)] h (fun h=> ?_) fun h=> ?_
 refine aH.cl ac false 2 [0,3,4,37,38,39] [] ?_
 obtain⟨x15,hx15,h⟩:=bind_some h
 refine aH.step (aY (L:=af) (f:=aj) (ti:=eo) (tj:=ew) (e:=85) (k:= .i64) ac rfl hx15) ?_
 refine aH.cl ac false 4 [0,3,4,37,42,43,44] [] ?_
 obtain⟨x16,hx16,h⟩:=bind_some h
 refine aH.step (aY (L:=af) (f:=aj) (ti:=eo) (tj:=ew) (e:=85) (k:= .i64) ac rfl hx16) ?_
 refine aH.cl ac false 2 [0,3,4,37,42,47] [] ?_
 obtain⟨x17,hx17,h⟩:=bind_some h
 refine aH.step (xc xY (mh x15.Years x16.Years _ hx17)) ?_
 refine aH.cl ac false 1 [0,3,4,49] [] ?_
 refine aH.nil (by kernel_rfl) ?_
 obtain rfl:=inj h
 exact Le.an
 refine aH.cl ac false 12 [0,3,4,49] [] ?_
 refine aH.nil (by kernel_rfl) ?_
 obtain rfl:=inj h
 exact Le.an
 refine aq h (fun h=> ?_) fun h=> ?_
 refine kM ac ⟨83,[(2,vb false)],[]⟩ ?_
 refine ah ?_
 obtain rfl:=inj h
 exact bE (bo (bo (bE (bE (bo (bo (bE (bo (aO (f1 fv))))))))))
 refine ai ?_
 obtain rfl:=inj h
 exact bt (cn (Le.an))
 refine aD ?_
 refine aa.cl ac 3 [0,3,4] [] ?_
 refine aa.nil ?_
 obtain rfl:=inj h
 exact cn (Le.an)
 refine a6 ?_
 obtain rfl:=inj h
 exact cE (cG (cF (bt (cn (Le.an)))))
 refine aD ?_
 refine aa.cl ac 3 [0,3] [] ?_
 refine aa.nil ?_
 obtain rfl:=inj h
 exact cn (Le.an)
 refine a6 ?_
 obtain rfl:=inj h
 exact cE (cG (cF (cn (Le.an))))
 refine ae ?_
 refine aJ ac [0,52] [] ?_
 refine aq h (fun h=> ?_) fun h=> ?_
 refine aJ ac [2] [] ?_
 refine ah ?_
 obtain rfl:=inj h
 exact cY (aO (f1 fv))
 refine ai ?_
 refine bq ?_
 refine ae ?_
 refine aJ ac [0,5] [] ?_
 refine bp (r:=r) h (fun j20=>⟨83,[],[]⟩) (fun v21 h=> ?_) (fun j20 h=> ?_)
 refine ax (a:=v21) ?_
 refine bc (r:=v21) (s:=(0,())) _ (fun s22=>⟨83,[(0,vl aj af),(5,vi s22.1)],[]⟩) _ (Le.an) h (fun s22 v23 h=> ?_)
 refine ae ?_
 refine aJ ac [0,5,56] [] ?_
 refine aq h (fun h=> ?_) fun h=> ?_
 refine ai ?_
 refine bq ?_
 refine ae ?_
 refine bD (r:=v23) h (fun j24=>⟨83,[(0,vl aj af),(5,vi s22.1)],[]⟩) (fun v25 h=> ?_) (fun j24 h=> ?_)
 refine ax (a:=v25) ?_
 refine aJ ac [0,5,6] [] ?_
 refine ax (a:=v25) ?_
 refine bc (r:=v25) (s:=(0,())) _ (fun s26=>⟨83,[(0,vl aj af),(5,vi s22.1),(6,vi s26.1)],[]⟩) _ (Le.an) h (fun s26 v27 h=> ?_)
 refine ae ?_
 refine aJ ac [0,5,6,62] [] ?_
 refine aq h (fun h=> ?_) fun h=> ?_
 refine ai ?_
 refine bq ?_
 refine ae ?_
 refine bD (r:=v27) h (fun j28=>⟨83,[(0,vl aj af),(5,vi s22.1),(6,vi s26.1)],[]⟩) (fun v29 h=> ?_) (fun j28 h=> ?_)
 refine ax (a:=v29) ?_
 refine ae ?_
 refine cV mixed ?_
 refine aH.cl ac false 3 [0,5,6,66,67,68] [] ?_
 obtain⟨x30,hx30,h⟩:=bind_some h
 refine aH.step (aY (L:=af) (f:=aj) (ti:=eo) (tj:=ew) (e:=85) (k:= .i64) ac rfl hx30) ?_
 refine aH.cl ac false 4 [0,5,6,66,71,72,73] [] ?_
 obtain⟨x31,hx31,h⟩:=bind_some h
 refine aH.step (aY (L:=af) (f:=aj) (ti:=eo) (tj:=ew) (e:=85) (k:= .i64) ac rfl hx31) ?_
 refine aH.cl ac false 3 [0,5,6,66,71,77] [] ?_
 obtain⟨x32,hx32,h⟩:=bind_some h
 refine aH.step (xc Cd (rm af x30.Child x31.Years.From _ hx32)) ?_
 refine aH.cl ac false 5 [0,5,6,8] [] ?_
 refine aH.nx ?_
 refine aJ ac [0,5,6,82] [] ?_
 refine aq h (fun h=> ?_) fun h=> ?_
 refine aJ ac [2] [] ?_
 refine ah ?_
 obtain rfl:=inj h
 exact bE (bo (bo (bE (bE (bo (bo (bE (bo (aO (f1 fv))))))))))
 refine ai ?_
 obtain rfl:=inj h
 exact bt (cn (Le.an))
 refine aD ?_
 refine aa.cl ac 3 [0,5,6] [] ?_
 refine aa.nil ?_
 obtain rfl:=inj h
 exact cn (Le.an)
 refine a6 ?_
 obtain rfl:=inj h
 exact cE (cG (cF (bt (cn (Le.an)))))
 refine aD ?_
 refine aa.cl ac 3 [0,5] [] ?_
 refine aa.nil ?_
 obtain rfl:=inj h
 exact cn (Le.an)
 refine a6 ?_
 obtain rfl:=inj h
 exact cE (cG (cF (cn (Le.an))))
 refine kM ac ⟨83,[(2,vb true)],[]⟩ ?_
 refine ah ?_
 obtain rfl:=inj h
 exact aO (f1 fv)
theorem r5:bg Tryz.prog 60:=az Tryz.func60 (by kernel_rfl) rfl
noncomputable def ct(af:(List Place))(aE:ByteArray):Option (Int):=
 (((dt (af.length:Int) (fun(i3:Int) (_:Unit)=>((at' af i3).bind fun x7=>(bif(x7.Code.toList==aE.toList)then some (.inr (.inr i3))else some (.inl ())))) (fun(_:Unit)=> .inl ()) 0 ())).bind (Sum.elim (fun(_:Unit)=>some (-1)) some))
theorem cU(af:(List Place))(aE:ByteArray)(r:Int)(h:ct af aE=some r):aR Tryz.prog 61 [.v (vl ad af),.v (vs aE)] ⟨[.v (vi r)],[],false⟩:=by
 refine au Tryz.func61 rfl [(.tmp 4)] rfl (fun r=>⟨[.v (vi r)],[],false⟩) (r:=r) ?_
 unfold ct at h
 refine aJ ac [0,1] [] ?_
 refine ae ?_
 refine aJ ac [0,1,5] [] ?_
 refine bp (r:=r) h (fun j1=>⟨20,[],[]⟩) (fun v2 h=> ?_) (fun j1 h=> ?_)
 refine ax (a:=v2) ?_
 refine bc (r:=v2) (s:=(0,())) _ (fun s3=>⟨20,[(0,vl ad af),(1,vs aE),(5,vi s3.1)],[]⟩) _ (Le.an) h (fun s3 v4 h=> ?_)
 refine ae ?_
 refine aJ ac [0,1,5,9] [] ?_
 refine aq h (fun h=> ?_) fun h=> ?_
 refine ai ?_
 refine bq ?_
 refine ae ?_
 refine bD (r:=v4) h (fun j5=>⟨20,[(0,vl ad af),(1,vs aE),(5,vi s3.1)],[]⟩) (fun v6 h=> ?_) (fun j5 h=> ?_)
 refine ax (a:=v6) ?_
 refine sr ?_
 refine aa.cl ac 2 [0,1,5,12,13] [] ?_
 obtain⟨x7,hx7,h⟩:=bind_some h
 refine aa.ls (aY (L:=af) (f:=ad) (ti:=bR) (tj:=bG) (e:=91) (k:= .i64) ac rfl hx7) ?_
 refine bO ac 4 [0,1,5,18] [] ?_
 refine aq h (fun h=> ?_) fun h=> ?_
 refine aJ ac [4] [] ?_
 refine ah ?_
 obtain rfl:=inj h
 exact bE (bo (bo (bE (bo (aO (f1 fv))))))
 refine ai ?_
 obtain rfl:=inj h
 exact bt (cn (Le.an))
 refine aD ?_
 refine aa.cl ac 3 [0,1,5] [] ?_
 refine aa.nil ?_
 obtain rfl:=inj h
 exact cn (Le.an)
 refine a6 ?_
 obtain rfl:=inj h
 exact cE (cG (cF (cn (Le.an))))
 refine aJ ac [4] [] ?_
 refine ah ?_
 obtain rfl:=inj h
 exact aO (f1 fv)
theorem mB:bg Tryz.prog 61:=az Tryz.func61 (by kernel_rfl) rfl
noncomputable def fT(aW:World):Option (Bool):=
 ((((c9 aW.Places).bind fun x1=>(bif(!x1)then some true else((dM aW.Links).bind fun x2=>some (!x2))))).bind fun(j3:Bool)=>(bif j3 then some false else(((dt (aW.Links.length:Int) (fun(i7:Int) (_:Unit)=>((at' aW.Links i7).bind fun x11=>((ct aW.Places x11.Child).bind fun x12=>((ct aW.Places x11.Parent).bind fun x13=>(((bif(decide (x12<0))then some true else(bif(decide (x13<0))then some true else((at' aW.Places x12).bind fun x14=>((at' aW.Places x13).bind fun x15=>(bif(decide (x11.Years.From<(uM x14.Years.From x15.Years.From)))then some true else((at' aW.Places x12).bind fun x16=>((at' aW.Places x13).bind fun x17=>some (decide (x11.Years.To>(bM x16.Years.To x17.Years.To))))))))))).bind fun(j18:Bool)=>(bif j18 then some (.inr (.inr false))else some (.inl ()))))))) (fun(_:Unit)=> .inl ()) 0 ())).bind (Sum.elim (fun(_:Unit)=>some true) some))))
theorem jR(aW:World)(r:Bool)(h:fT aW=some r):aR Tryz.prog 25 [.v (.agg (tc aQ aW))] ⟨[.v (vb r)],[],false⟩:=by
 refine au Tryz.func25 rfl [(.tmp 2)] rfl (fun r=>⟨[.v (vb r)],[],false⟩) (r:=r) ?_
 unfold fT at h
 refine aJ ac [1] [1] ?_
 refine ae ?_
 refine ae ?_
 refine bn h (fun j3=>⟨87,[(1,.ref 1 0),(16,vb j3)],[(1,.box (tc aQ aW))]⟩) (fun v4 h=> ?_) (fun j3 h=> ?_)
 refine aa.cl ac 2 [1,8] [1] ?_
 obtain⟨x1,hx1,h⟩:=bind_some h
 refine aa.ls (xc uz (fj aW.Places _ hx1)) ?_
 refine aa.cl ac 2 [1,11] [1] ?_
 refine aa.cu [(11,fun b=>b)] h (fun h=> ?_) fun h=> ?_
 refine aa.cl ac 5 [1,16] [1] ?_
 refine aa.nil ?_
 obtain rfl:=inj h
 exact Le.an
 refine aa.cl ac 2 [1,11,13] [1] ?_
 obtain⟨x2,hx2,h⟩:=bind_some h
 refine aa.ls (xc r5 (eU aW.Links _ hx2)) ?_
 refine aa.cl ac 2 [1,16] [1] ?_
 refine aa.nil ?_
 obtain rfl:=inj h
 exact Le.an
 refine aq h (fun h=> ?_) fun h=> ?_
 refine aJ ac [2] [] ?_
 refine ah ?_
 obtain rfl:=inj h
 exact cY (aO (f1 fv))
 refine ai ?_
 refine bq ?_
 refine ae ?_
 refine aJ ac [1,3] [1] ?_
 refine bp (r:=r) h (fun j5=>⟨87,[],[]⟩) (fun v6 h=> ?_) (fun j5 h=> ?_)
 refine ax (a:=v6) ?_
 refine bc (r:=v6) (s:=(0,())) _ (fun s7=>⟨87,[(1,.ref 1 0),(3,vi s7.1)],[(1,.box (tc aQ aW))]⟩) _ (Le.an) h (fun s7 v8 h=> ?_)
 refine ae ?_
 refine aJ ac [1,3,21] [1] ?_
 refine aq h (fun h=> ?_) fun h=> ?_
 refine ai ?_
 refine bq ?_
 refine ae ?_
 refine bD (r:=v8) h (fun j9=>⟨87,[(1,.ref 1 0),(3,vi s7.1)],[(1,.box (tc aQ aW))]⟩) (fun v10 h=> ?_) (fun j9 h=> ?_)
 refine ax (a:=v10) ?_
 refine sr ?_
 refine aa.cl ac 3 [1,3,25,26] [1] ?_
 obtain⟨x11,hx11,h⟩:=bind_some h
 refine aa.ls (aY (L:=aW.Links) (f:=aj) (ti:=eo) (tj:=ew) (e:=85) (k:= .i64) ac rfl hx11) ?_
 refine bO ac 3 [1,3,4] [1,4] ?_
 refine ae ?_
 refine cV mixed ?_
 refine aH.cl ac false 4 [1,3,4,30,32] [1,4] ?_
 obtain⟨x12,hx12,h⟩:=bind_some h
 refine aH.step (xc mB (cU aW.Places x11.Child _ hx12)) ?_
 refine aH.cl ac false 4 [1,3,4,33,35,37] [1,4] ?_
 obtain⟨x13,hx13,h⟩:=bind_some h
 refine aH.step (xc mB (cU aW.Places x11.Parent _ hx13)) ?_
 refine aH.cl ac false 2 [1,3,4,5,6] [1,4] ?_
 refine aH.nx ?_
 refine ae ?_
 refine ie mixed h (fun j18=>⟨87,[(1,.ref 1 0),(3,vi s7.1),(86,vb j18)],[(1,.box (tc aQ aW))]⟩) (fun v19 h=> ?_) (fun j18 h=> ?_)
 refine aH.cl ac false 3 [1,3,4,5,6,41] [1,4] ?_
 refine aH.cu [(41,fun b=>b)] h (fun h=> ?_) fun h=> ?_
 refine aH.cl ac false 45 [1,3,86] [1] ?_
 refine aH.nil (by kernel_rfl) ?_
 obtain rfl:=inj h
 exact Le.an
 refine aH.cl ac false 4 [1,3,4,5,6,45] [1,4] ?_
 refine aH.cu [(45,fun b=>b)] h (fun h=> ?_) fun h=> ?_
 refine aH.cl ac false 41 [1,3,86] [1] ?_
 refine aH.nil (by kernel_rfl) ?_
 obtain rfl:=inj h
 exact Le.an
 refine aH.cl ac false 6 [1,3,4,5,6,45,48,50,51] [1,4] ?_
 obtain⟨x14,hx14,h⟩:=bind_some h
 refine aH.step (aY (L:=aW.Places) (f:=ad) (ti:=bR) (tj:=bG) (e:=91) (k:= .i64) ac rfl hx14) ?_
 refine aH.cl ac false 6 [1,3,4,5,6,45,48,55,57,58] [1,4] ?_
 obtain⟨x15,hx15,h⟩:=bind_some h
 refine aH.step (aY (L:=aW.Places) (f:=ad) (ti:=bR) (tj:=bG) (e:=91) (k:= .i64) ac rfl hx15) ?_
 refine aH.cl ac false 7 [1,3,4,5,6,66] [1,4] ?_
 refine aH.cu [(66,fun b=>b)] h (fun h=> ?_) fun h=> ?_
 refine aH.cl ac false 20 [1,3,86] [1] ?_
 refine aH.nil (by kernel_rfl) ?_
 obtain rfl:=inj h
 exact Le.an
 refine aH.ck ac false 6 ⟨87,[(1,.ref 1 0),(3,vi s7.1),(6,vi x13),(66,vb false),(69,vi x11.Years.To),(71,vl ad aW.Places),(72,vi x12)],[(1,.box (tc aQ aW))]⟩ ?_
 obtain⟨x16,hx16,h⟩:=bind_some h
 refine aH.step (aY (L:=aW.Places) (f:=ad) (ti:=bR) (tj:=bG) (e:=91) (k:= .i64) ac rfl hx16) ?_
 refine aH.cl ac false 6 [1,3,66,69,76,78,79] [1] ?_
 obtain⟨x17,hx17,h⟩:=bind_some h
 refine aH.step (aY (L:=aW.Places) (f:=ad) (ti:=bR) (tj:=bG) (e:=91) (k:= .i64) ac rfl hx17) ?_
 refine aH.cl ac false 6 [1,3,86] [1] ?_
 refine aH.nil (by kernel_rfl) ?_
 obtain rfl:=inj h
 exact Le.an
 refine aq h (fun h=> ?_) fun h=> ?_
 refine aJ ac [2] [] ?_
 refine ah ?_
 obtain rfl:=inj h
 exact bE (bo (bo (bE (bo (aO (f1 fv))))))
 refine ai ?_
 obtain rfl:=inj h
 exact bt (cn (Le.an))
 refine aD ?_
 refine aa.cl ac 3 [1,3] [1] ?_
 refine aa.nil ?_
 obtain rfl:=inj h
 exact cn (Le.an)
 refine a6 ?_
 obtain rfl:=inj h
 exact cE (cG (cF (cn (Le.an))))
 refine aJ ac [2] [] ?_
 refine ah ?_
 obtain rfl:=inj h
 exact aO (f1 fv)
theorem w7:bg Tryz.prog 25:=az Tryz.func25 (by kernel_rfl) rfl
noncomputable def iA(aC:Change):Option (Bool):=
 ((((dI aC.Year (-2999) 3000).bind fun x1=>(bif(!x1)then some true else((dI aC.Kind 0 3).bind fun x2=>(bif(!x2)then some true else((dw aC.Code).bind fun x3=>some (!x3))))))).bind fun(j4:Bool)=>(bif j4 then some false else(((bif(aC.Kind==0)then((((dJ aC.Language).bind fun x8=>(bif(!x8)then some true else((ff aC.Text).bind fun x9=>some (!x9))))).bind fun(j10:Bool)=>(bif j10 then some (.inr false)else some (.inl ())))else(bif((!(aC.Language.toList==(ByteArray.mk #[]).toList)) || (!(aC.Text.toList==(ByteArray.mk #[]).toList)))then some (.inr false)else some (.inl ())))).bind (Sum.elim (fun(_:Unit)=>(bif((aC.Kind==2) || (aC.Kind==3))then((((dw aC.Other).bind fun x12=>(bif x12 then some (!(aC.Other.toList==aC.Code.toList))else some false))).bind fun(j13:Bool)=>some j13)else some (aC.Other.toList==(ByteArray.mk #[]).toList))) some))))
theorem pF(aC:Change)(r:Bool)(h:iA aC=some r):aR Tryz.prog 125 [.v (.agg (tc aF aC))] ⟨[.v (vb r)],[],false⟩:=by
 refine au Tryz.func125 rfl [(.tmp 2)] rfl (fun r=>⟨[.v (vb r)],[],false⟩) (r:=r) ?_
 unfold iA at h
 refine aJ ac [1] [1] ?_
 refine ae ?_
 refine ae ?_
 refine bn h (fun j4=>⟨61,[(1,.ref 1 0),(18,vb j4)],[(1,.box (tc aF aC))]⟩) (fun v5 h=> ?_) (fun j4 h=> ?_)
 refine aa.cl ac 2 [1,4] [1] ?_
 obtain⟨x1,hx1,h⟩:=bind_some h
 refine aa.ls (xc jW (c6 aC.Year (-2999) 3000 _ hx1)) ?_
 refine aa.cl ac 2 [1,7] [1] ?_
 refine aa.cu [(7,fun b=>b)] h (fun h=> ?_) fun h=> ?_
 refine aa.cl ac 11 [1,18] [1] ?_
 refine aa.nil ?_
 obtain rfl:=inj h
 exact Le.an
 refine aa.cl ac 2 [1,7,9] [1] ?_
 obtain⟨x2,hx2,h⟩:=bind_some h
 refine aa.ls (xc jW (c6 aC.Kind 0 3 _ hx2)) ?_
 refine aa.cl ac 3 [1,13] [1] ?_
 refine aa.cu [(13,fun b=>b)] h (fun h=> ?_) fun h=> ?_
 refine aa.cl ac 5 [1,18] [1] ?_
 refine aa.nil ?_
 obtain rfl:=inj h
 exact Le.an
 refine aa.cl ac 2 [1,13,15] [1] ?_
 obtain⟨x3,hx3,h⟩:=bind_some h
 refine aa.ls (xc lv (dy aC.Code _ hx3)) ?_
 refine aa.cl ac 2 [1,18] [1] ?_
 refine aa.nil ?_
 obtain rfl:=inj h
 exact Le.an
 refine aq h (fun h=> ?_) fun h=> ?_
 refine kM ac ⟨61,[(2,vb false)],[]⟩ ?_
 refine ah ?_
 obtain rfl:=inj h
 exact cY (aO (f1 fv))
 refine ai ?_
 refine bq ?_
 refine ae ?_
 refine aJ ac [1,21] [1] ?_
 refine bp (r:=r) h (fun j6=>⟨61,[(1,.ref 1 0)],[(1,.box (tc aF aC))]⟩) (fun v7 h=> ?_) (fun j6 h=> ?_)
 refine aq h (fun h=> ?_) fun h=> ?_
 refine ae ?_
 refine bn h (fun j10=>⟨61,[(1,.ref 1 0),(31,vb j10)],[(1,.box (tc aF aC))]⟩) (fun v11 h=> ?_) (fun j10 h=> ?_)
 refine aa.cl ac 2 [1,23] [1] ?_
 obtain⟨x8,hx8,h⟩:=bind_some h
 refine aa.ls (xc uu (gP aC.Language _ hx8)) ?_
 refine aa.cl ac 2 [1,26] [1] ?_
 refine aa.cu [(26,fun b=>b)] h (fun h=> ?_) fun h=> ?_
 refine aa.cl ac 5 [1,31] [1] ?_
 refine aa.nil ?_
 obtain rfl:=inj h
 exact Le.an
 refine aa.cl ac 2 [1,26,28] [1] ?_
 obtain⟨x9,hx9,h⟩:=bind_some h
 refine aa.ls (xc uv (jt aC.Text _ hx9)) ?_
 refine aa.cl ac 2 [1,31] [1] ?_
 refine aa.nil ?_
 obtain rfl:=inj h
 exact Le.an
 refine aq h (fun h=> ?_) fun h=> ?_
 refine aJ ac [2] [] ?_
 refine ah ?_
 obtain rfl:=inj h
 exact bo (aO (f1 fv))
 refine ai ?_
 obtain rfl:=inj h
 exact cn (Le.an)
 refine ae ?_
 refine c7 ⟨61,[(1,.ref 1 0),(39,vb ((!(aC.Language.toList==(ByteArray.mk #[]).toList)) || (!(aC.Text.toList==(ByteArray.mk #[]).toList))))],[(1,.box (tc aF aC))]⟩ ?_ ?_
 refine aa.ck ac 4 ⟨61,[(1,.ref 1 0),(35,vb (!(aC.Language.toList==(ByteArray.mk #[]).toList)))],[(1,.box (tc aF aC))]⟩ ?_
 generalize (!(aC.Language.toList==(ByteArray.mk #[]).toList))=bb
 cases bb
 refine aa.cl ac 4 [1,39] [1] ?_
 exact aa.nil (Le.an)
 refine aa.cl ac 4 [1,39] [1] ?_
 exact aa.nil (Le.an)
 refine aq h (fun h=> ?_) fun h=> ?_
 refine aJ ac [2] [] ?_
 refine ah ?_
 obtain rfl:=inj h
 exact bo (aO (f1 fv))
 refine ai ?_
 obtain rfl:=inj h
 exact cn (Le.an)
 refine ae ?_
 refine ae ?_
 refine c7 ⟨61,[(1,.ref 1 0),(47,vb ((aC.Kind==2) || (aC.Kind==3)))],[(1,.box (tc aF aC))]⟩ ?_ ?_
 refine aa.ck ac 4 ⟨61,[(1,.ref 1 0),(43,vb (aC.Kind==2))],[(1,.box (tc aF aC))]⟩ ?_
 generalize (aC.Kind==2)=bb
 cases bb
 refine aa.cl ac 4 [1,47] [1] ?_
 exact aa.nil (Le.an)
 refine aa.cl ac 4 [1,47] [1] ?_
 exact aa.nil (Le.an)
 refine aq h (fun h=> ?_) fun h=> ?_
 refine ae ?_
 refine bn h (fun j13=>⟨61,[(2,vb j13)],[]⟩) (fun v14 h=> ?_) (fun j13 h=> ?_)
 refine aa.cl ac 2 [1,49] [1] ?_
 obtain⟨x12,hx12,h⟩:=bind_some h
 refine aa.ls (xc lv (dy aC.Other _ hx12)) ?_
 refine aa.cl ac 1 [1,51] [1] ?_
 refine aa.cu [(51,fun b=>b)] h (fun h=> ?_) fun h=> ?_
 refine aa.cl ac 7 [2] [] ?_
 refine aa.nil ?_
 obtain rfl:=inj h
 exact Le.an
 refine aa.cl ac 7 [2] [] ?_
 refine aa.nil ?_
 obtain rfl:=inj h
 exact Le.an
 refine ah ?_
 obtain rfl:=inj h
 exact cY (aO (f1 fv))
 refine ai ?_
 refine bq ?_
 refine aJ ac [2] [] ?_
 refine ah ?_
 obtain rfl:=inj h
 exact aO (f1 fv)
theorem Ci:bg Tryz.prog 125:=az Tryz.func125 (by kernel_rfl) rfl
noncomputable def dp(aP:Place)(ap:Int):Option (Bool):=
 ((dI ap aP.Years.From aP.Years.To).bind fun x1=>some x1)
theorem eE(aP:Place)(ap:Int)(r:Bool)(h:dp aP ap=some r):aR Tryz.prog 126 [.v (.agg (tc ad aP)),.v (vi ap)] ⟨[.v (vb r)],[],false⟩:=by
 refine au Tryz.func126 rfl [(.tmp 4)] rfl (fun r=>⟨[.v (vb r)],[],false⟩) (r:=r) ?_
 unfold dp at h
 refine aJ ac [1,2] [2] ?_
 refine sr ?_
 refine aa.cl ac 7 [5,8,11] [] ?_
 obtain⟨x1,hx1,h⟩:=bind_some h
 refine aa.ls (xc jW (c6 ap aP.Years.From aP.Years.To _ hx1)) ?_
 refine bO ac 1 [4] [] ?_
 refine ah ?_
 obtain rfl:=inj h
 exact aO (f1 fv)
theorem o8:bg Tryz.prog 126:=az Tryz.func126 (by kernel_rfl) rfl
noncomputable def jE(aW:World)(aC:Change):Option (Int):=
 ((((fT aW).bind fun x1=>(bif(!x1)then some true else((iA aC).bind fun x2=>some (!x2))))).bind fun(j3:Bool)=>(bif j3 then some 1 else((ct aW.Places aC.Code).bind fun x5=>((ct aW.Places aC.Other).bind fun x6=>(bif((decide (x5<0)) || ((!(aC.Other.toList==(ByteArray.mk #[]).toList))&&(decide (x6<0))))then some 4 else((((at' aW.Places x5).bind fun x7=>((dp x7 (bF (aC.Year - 1))).bind fun x8=>(bif(!x8)then some true else(bif(aC.Kind !=1)then((at' aW.Places x5).bind fun x9=>((dp x9 aC.Year).bind fun x10=>(bif(!x10)then some true else(bif(!(aC.Other.toList==(ByteArray.mk #[]).toList))then((at' aW.Places x6).bind fun x11=>((dp x11 aC.Year).bind fun x12=>some (!x12)))else some false))))else(bif(!(aC.Other.toList==(ByteArray.mk #[]).toList))then((at' aW.Places x6).bind fun x13=>((dp x13 aC.Year).bind fun x14=>some (!x14)))else some false)))))).bind fun(j15:Bool)=>(bif j15 then some 5 else some 0)))))))
theorem qw(aW:World)(aC:Change)(r:Int)(h:jE aW aC=some r):aR Tryz.prog 68 [.v (.agg (tc aQ aW)),.v (.agg (tc aF aC))] ⟨[.v (vi r)],[],false⟩:=by
 refine au Tryz.func68 rfl [(.tmp 4)] rfl (fun r=>⟨[.v (vi r)],[],false⟩) (r:=r) ?_
 unfold jE at h
 refine aJ ac [2,3] [2,3] ?_
 refine ae ?_
 refine ae ?_
 refine bn h (fun j3=>⟨78,[(2,.ref 2 0),(3,.ref 3 0),(14,vb j3)],[(2,.box (tc aQ aW)),(3,.box (tc aF aC))]⟩) (fun v4 h=> ?_) (fun j3 h=> ?_)
 refine aa.cl ac 1 [2,3,7] [2,3] ?_
 obtain⟨x1,hx1,h⟩:=bind_some h
 refine aa.ls (xc w7 (jR aW _ hx1)) ?_
 refine aa.cl ac 2 [2,3,10] [2,3] ?_
 refine aa.cu [(10,fun b=>b)] h (fun h=> ?_) fun h=> ?_
 refine aa.cl ac 4 [2,3,14] [2,3] ?_
 refine aa.nil ?_
 obtain rfl:=inj h
 exact Le.an
 refine aa.cl ac 1 [2,3,10,11] [2,3] ?_
 obtain⟨x2,hx2,h⟩:=bind_some h
 refine aa.ls (xc Ci (pF aC _ hx2)) ?_
 refine aa.cl ac 2 [2,3,14] [2,3] ?_
 refine aa.nil ?_
 obtain rfl:=inj h
 exact Le.an
 refine aq h (fun h=> ?_) fun h=> ?_
 refine kM ac ⟨78,[(4,vi 1)],[]⟩ ?_
 refine ah ?_
 obtain rfl:=inj h
 exact cY (aO (f1 fv))
 refine ai ?_
 refine bq ?_
 refine ae ?_
 refine cV mixed ?_
 refine aH.cl ac false 4 [2,3,16,18] [2,3] ?_
 obtain⟨x5,hx5,h⟩:=bind_some h
 refine aH.step (xc mB (cU aW.Places aC.Code _ hx5)) ?_
 refine aH.cl ac false 4 [2,3,19,21,23] [2,3] ?_
 obtain⟨x6,hx6,h⟩:=bind_some h
 refine aH.step (xc mB (cU aW.Places aC.Other _ hx6)) ?_
 refine aH.cl ac false 2 [2,3,5,6] [2,3] ?_
 refine aH.nx ?_
 refine ae ?_
 refine ae ?_
 refine c7 ⟨78,[(2,.ref 2 0),(3,.ref 3 0),(5,vi x5),(6,vi x6),(35,vb ((decide (x5<0)) || ((!(aC.Other.toList==(ByteArray.mk #[]).toList))&&(decide (x6<0)))))],[(2,.box (tc aQ aW)),(3,.box (tc aF aC))]⟩ ?_ ?_
 refine aa.ck ac 3 ⟨78,[(2,.ref 2 0),(3,.ref 3 0),(5,vi x5),(6,vi x6),(27,vb (decide (x5<0)))],[(2,.box (tc aQ aW)),(3,.box (tc aF aC))]⟩ ?_
 generalize (decide (x5<0))=bb
 cases bb
 refine aa.ck ac 4 ⟨78,[(2,.ref 2 0),(3,.ref 3 0),(5,vi x5),(6,vi x6),(27,vb false),(31,vb (!(aC.Other.toList==(ByteArray.mk #[]).toList)))],[(2,.box (tc aQ aW)),(3,.box (tc aF aC))]⟩ ?_
 generalize (!(aC.Other.toList==(ByteArray.mk #[]).toList))=bb
 cases bb
 refine aa.cl ac 4 [2,3,5,6,35] [2,3] ?_
 exact aa.nil (Le.an)
 refine aa.cl ac 4 [2,3,5,6,35] [2,3] ?_
 exact aa.nil (Le.an)
 refine aa.cl ac 8 [2,3,5,6,35] [2,3] ?_
 exact aa.nil (Le.an)
 refine aq h (fun h=> ?_) fun h=> ?_
 refine kM ac ⟨78,[(4,vi 4)],[]⟩ ?_
 refine ah ?_
 obtain rfl:=inj h
 exact cY (aO (f1 fv))
 refine ai ?_
 refine bq ?_
 refine ae ?_
 refine ae ?_
 refine ie mixed h (fun j15=>⟨78,[(77,vb j15)],[]⟩) (fun v16 h=> ?_) (fun j15 h=> ?_)
 refine aH.cl ac false 3 [2,3,5,6,37,38] [2,3] ?_
 obtain⟨x7,hx7,h⟩:=bind_some h
 refine aH.step (aY (L:=aW.Places) (f:=ad) (ti:=bR) (tj:=bG) (e:=91) (k:= .i64) ac rfl hx7) ?_
 refine aH.cl ac false 4 [2,3,5,6,40,43] [2,3] ?_
 obtain⟨x8,hx8,h⟩:=bind_some h
 refine aH.step (xc o8 (eE x7 (bF (aC.Year - 1)) _ hx8)) ?_
 refine aH.cl ac false 2 [2,3,5,6,46] [2,3] ?_
 refine aH.cu [(46,fun b=>b)] h (fun h=> ?_) fun h=> ?_
 refine aH.cl ac false 31 [77] [] ?_
 refine aH.nil (by kernel_rfl) ?_
 obtain rfl:=inj h
 exact Le.an
 refine aH.cl ac false 4 [2,3,5,6,46,50] [2,3] ?_
 refine aH.cu [(50,fun b=>b)] h (fun h=> ?_) fun h=> ?_
 refine aH.cl ac false 3 [2,3,6,46,50,52,53] [2,3] ?_
 obtain⟨x9,hx9,h⟩:=bind_some h
 refine aH.step (aY (L:=aW.Places) (f:=ad) (ti:=bR) (tj:=bG) (e:=91) (k:= .i64) ac rfl hx9) ?_
 refine aH.cl ac false 3 [2,3,6,46,50,55,57] [2,3] ?_
 obtain⟨x10,hx10,h⟩:=bind_some h
 refine aH.step (xc o8 (eE x9 aC.Year _ hx10)) ?_
 refine aH.cl ac false 4 [2,3,6,62] [2,3] ?_
 refine aH.cu [(62,fun b=>b)] h (fun h=> ?_) fun h=> ?_
 refine aH.ck ac false 15 ⟨78,[(77,vb true)],[]⟩ ?_
 refine aH.nil (by kernel_rfl) ?_
 obtain rfl:=inj h
 exact Le.an
 refine aH.cl ac false 4 [2,3,6,62,66] [2,3] ?_
 refine aH.cu [(66,fun b=>b)] h (fun h=> ?_) fun h=> ?_
 refine aH.cl ac false 3 [3,62,66,68,69] [3] ?_
 obtain⟨x11,hx11,h⟩:=bind_some h
 refine aH.step (aY (L:=aW.Places) (f:=ad) (ti:=bR) (tj:=bG) (e:=91) (k:= .i64) ac rfl hx11) ?_
 refine aH.cl ac false 3 [62,66,71,73] [] ?_
 obtain⟨x12,hx12,h⟩:=bind_some h
 refine aH.step (xc o8 (eE x11 aC.Year _ hx12)) ?_
 refine aH.cl ac false 3 [77] [] ?_
 refine aH.nil (by kernel_rfl) ?_
 obtain rfl:=inj h
 exact Le.an
 refine aH.cl ac false 11 [77] [] ?_
 refine aH.nil (by kernel_rfl) ?_
 obtain rfl:=inj h
 exact Le.an
 refine aH.cl ac false 16 [2,3,6,62,66] [2,3] ?_
 refine aH.cu [(66,fun b=>b)] h (fun h=> ?_) fun h=> ?_
 refine aH.cl ac false 3 [3,62,66,68,69] [3] ?_
 obtain⟨x13,hx13,h⟩:=bind_some h
 refine aH.step (aY (L:=aW.Places) (f:=ad) (ti:=bR) (tj:=bG) (e:=91) (k:= .i64) ac rfl hx13) ?_
 refine aH.cl ac false 3 [62,66,71,73] [] ?_
 obtain⟨x14,hx14,h⟩:=bind_some h
 refine aH.step (xc o8 (eE x13 aC.Year _ hx14)) ?_
 refine aH.ck ac false 3 ⟨78,[(77,vb (!x14))],[]⟩ ?_
 refine aH.nil (by kernel_rfl) ?_
 obtain rfl:=inj h
 exact Le.an
 refine aH.cl ac false 11 [77] [] ?_
 refine aH.nil (by kernel_rfl) ?_
 obtain rfl:=inj h
 exact Le.an
 refine aq h (fun h=> ?_) fun h=> ?_
 refine kM ac ⟨78,[(4,vi 5)],[]⟩ ?_
 refine ah ?_
 obtain rfl:=inj h
 exact cY (aO (f1 fv))
 refine ai ?_
 refine bq ?_
 refine kM ac ⟨78,[(4,vi 0)],[]⟩ ?_
 refine ah ?_
 obtain rfl:=inj h
 exact aO (f1 fv)
theorem Em:bg Tryz.prog 68:=az Tryz.func68 (by kernel_rfl) rfl
noncomputable def jv(af:(List Name))(bj:ByteArray)(ap:Int):Option (Int):=
 ((((ep af).bind fun x1=>(bif(!x1)then some true else((dJ bj).bind fun x2=>some (!x2))))).bind fun(j3:Bool)=>(bif j3 then some 1 else((dm ap).bind fun x5=>(bif(!x5)then some 2 else some 0))))
theorem ql(af:(List Name))(bj:ByteArray)(ap:Int)(r:Int)(h:jv af bj ap=some r):aR Tryz.prog 174 [.v (vl ao af),.v (vs bj),.v (vi ap)] ⟨[.v (vi r)],[],false⟩:=by
 refine au Tryz.func174 rfl [(.tmp 6)] rfl (fun r=>⟨[.v (vi r)],[],false⟩) (r:=r) ?_
 unfold jv at h
 refine aJ ac [0,1,2] [] ?_
 refine ae ?_
 refine ae ?_
 refine bn h (fun j3=>⟨18,[(2,vi ap),(14,vb j3)],[]⟩) (fun v4 h=> ?_) (fun j3 h=> ?_)
 refine aa.cl ac 1 [1,2,7] [] ?_
 obtain⟨x1,hx1,h⟩:=bind_some h
 refine aa.ls (xc ru (gC af _ hx1)) ?_
 refine aa.cl ac 2 [1,2,10] [] ?_
 refine aa.cu [(10,fun b=>b)] h (fun h=> ?_) fun h=> ?_
 refine aa.cl ac 4 [2,14] [] ?_
 refine aa.nil ?_
 obtain rfl:=inj h
 exact Le.an
 refine aa.cl ac 1 [2,10,11] [] ?_
 obtain⟨x2,hx2,h⟩:=bind_some h
 refine aa.ls (xc uu (gP bj _ hx2)) ?_
 refine aa.cl ac 2 [2,14] [] ?_
 refine aa.nil ?_
 obtain rfl:=inj h
 exact Le.an
 refine aq h (fun h=> ?_) fun h=> ?_
 refine kM ac ⟨18,[(6,vi 1)],[]⟩ ?_
 refine ah ?_
 obtain rfl:=inj h
 exact cY (aO (f1 fv))
 refine ai ?_
 refine bq ?_
 refine ae ?_
 refine sr ?_
 refine aa.cl ac 1 [15] [] ?_
 obtain⟨x5,hx5,h⟩:=bind_some h
 refine aa.ls (xc o9 (fD ap _ hx5)) ?_
 refine bO ac 1 [17] [] ?_
 refine aq h (fun h=> ?_) fun h=> ?_
 refine kM ac ⟨18,[(6,vi 2)],[]⟩ ?_
 refine ah ?_
 obtain rfl:=inj h
 exact cY (aO (f1 fv))
 refine ai ?_
 refine bq ?_
 refine kM ac ⟨18,[(6,vi 0)],[]⟩ ?_
 refine ah ?_
 obtain rfl:=inj h
 exact aO (f1 fv)
theorem CH:bg Tryz.prog 174:=az Tryz.func174 (by kernel_rfl) rfl
noncomputable def kJ(af:(List Name))(ap:Int):Option ((List Int)):=
 (((jH (af.length:Int) (fun(i3:Int) (s3:(List Int))=>((at' af i3).bind fun x7=>((at' af i3).bind fun x8=>((dI ap x7.Years.From x8.Years.To).bind fun x9=>(bif x9 then((c4 s3 ([i3]:List Int)).bind fun x10=>some x10)else some s3))))) (fun(s3:(List Int))=>s3) 0 ([]:List Int))).bind fun(j1:(List Int))=>some j1)
theorem qn(af:(List Name))(ap:Int)(r:(List Int))(h:kJ af ap=some r):aR Tryz.prog 204 [.v (vl ao af),.v (vi ap)] ⟨[.own 2 1 r.length (r.map (eI .i64))],[],false⟩:=by
 refine au Tryz.func204 rfl [(.tmp 4)] rfl (fun r=>⟨[.own 2 1 r.length (r.map (eI .i64))],[],false⟩) (r:=r) ?_
 unfold kJ at h
 refine aJ ac [0,1] [] ?_
 refine aJ ac [0,1,5] [7] ?_
 refine ae ?_
 refine aJ ac [0,1,5,6] [7] ?_
 refine aU h (fun j1=>⟨33,[(5,.own 5)],[(5,oa 2 1 (eI .i64) j1)]⟩) (fun v2 h=> ?_) (fun j1 h=> ?_)
 refine ax (a:=v2) ?_
 refine bc (r:=v2) (s:=(0,([]:List Int))) _ (fun s3=>⟨33,[(0,vl ao af),(1,vi ap),(5,.own 5),(6,vi s3.1)],[(5,oa 2 1 (eI .i64) s3.2)]⟩) _ (Le.rr [7] [(7,5)]) h (fun s3 v4 h=> ?_)
 refine ae ?_
 refine aJ ac [0,1,5,6,11] [5] ?_
 refine aq h (fun h=> ?_) fun h=> ?_
 refine ai ?_
 refine bq ?_
 refine ae ?_
 refine aU h (fun j5=>⟨33,[(0,vl ao af),(1,vi ap),(5,.own 5),(6,vi s3.1)],[(5,oa 2 1 (eI .i64) j5)]⟩) (fun v6 h=> ?_) (fun j5 h=> ?_)
 refine ax (a:=v6) ?_
 refine ae ?_
 refine cV mixed ?_
 refine aH.cl ac false 3 [0,1,5,6,14,15,16] [5] ?_
 obtain⟨x7,hx7,h⟩:=bind_some h
 refine aH.step (aY (L:=af) (f:=ao) (ti:=eb) (tj:=dg) (e:=169) (k:= .i64) ac rfl hx7) ?_
 refine aH.cl ac false 5 [0,1,5,6,14,20,21,22] [5] ?_
 obtain⟨x8,hx8,h⟩:=bind_some h
 refine aH.step (aY (L:=af) (f:=ao) (ti:=eb) (tj:=dg) (e:=169) (k:= .i64) ac rfl hx8) ?_
 refine aH.cl ac false 3 [0,1,5,6,14,20,26] [5] ?_
 obtain⟨x9,hx9,h⟩:=bind_some h
 refine aH.step (xc jW (c6 ap x7.Years.From x8.Years.To _ hx9)) ?_
 refine aH.nx ?_
 refine aq h (fun h=> ?_) fun h=> ?_
 refine aD ?_
 refine aa.cl ac 3 [0,1,6,28,30] [5,30] ?_
 obtain⟨x10,hx10,h⟩:=bind_some h
 refine aa.a7 (bh (f:=(eI .i64)) (t:=144) (ti:=sR) (tj:=ti2) (zs:=[.int .i64 0]) (e:=2) (m:=1) (d:=5) (xv:= .own 30) hx10 ac rfl rfl rfl rfl (bT (e:=2))) ?_
 refine aa.cl ac 1 [0,1,5,6] [31] ?_
 refine aa.nil ?_
 obtain rfl:=inj h
 exact bt (cI (Le.rr [31] [(31,5)]))
 refine ai ?_
 obtain rfl:=inj h
 exact bt (cI (Le.an))
 refine aD ?_
 refine aa.cl ac 3 [0,1,5,6] [5] ?_
 refine aa.nil ?_
 obtain rfl:=inj h
 exact cn (Le.an)
 refine a6 ?_
 obtain rfl:=inj h
 exact cE (cG (cF (cI (Le.an))))
 refine aJ ac [4] [5] ?_
 refine ah ?_
 obtain rfl:=inj h
 exact aO (f1 (fo (B7 .i64)))
theorem CZ:bg Tryz.prog 204:=az Tryz.func204 (by kernel_rfl) rfl
noncomputable def fE(af:(List Name))(bj:ByteArray)(ap:Int):Option (Int):=
 ((kJ af ap).bind fun x1=>(((dt (x1.length:Int) (fun(i4:Int) (_:Unit)=>((at' x1 i4).bind fun x8=>((at' af x8).bind fun x9=>(bif((x9.Status==0)&&(x9.Language.toList==bj.toList))then((at' x1 i4).bind fun x10=>some (.inr (.inr x10)))else some (.inl ()))))) (fun(_:Unit)=> .inl ()) 0 ())).bind (Sum.elim (fun(_:Unit)=>some (-1)) some)))
theorem nD(af:(List Name))(bj:ByteArray)(ap:Int)(r:Int)(h:fE af bj ap=some r):aR Tryz.prog 175 [.v (vl ao af),.v (vs bj),.v (vi ap)] ⟨[.v (vi r)],[],false⟩:=by
 refine au Tryz.func175 rfl [(.tmp 6)] rfl (fun r=>⟨[.v (vi r)],[],false⟩) (r:=r) ?_
 unfold fE at h
 refine aJ ac [0,1,2] [] ?_
 refine sr ?_
 refine aa.cl ac 2 [0,1,10,11] [] ?_
 obtain⟨x1,hx1,h⟩:=bind_some h
 refine aa.ls (xc CZ (qn af ap _ hx1)) ?_
 refine bO ac 1 [0,1,7] [12] ?_
 refine ae ?_
 refine aJ ac [0,1,7,8] [12] ?_
 refine bp (r:=r) h (fun j2=>⟨39,[],[]⟩) (fun v3 h=> ?_) (fun j2 h=> ?_)
 refine ax (a:=v3) ?_
 refine bc (r:=v3) (s:=(0,())) _ (fun s4=>⟨39,[(0,vl ao af),(1,vs bj),(7,.own 7),(8,vi s4.1)],[(7,oa 2 1 (eI .i64) x1)]⟩) _ (Le.rr [12] [(12,7)]) h (fun s4 v5 h=> ?_)
 refine ae ?_
 refine aJ ac [0,1,7,8,16] [7] ?_
 refine aq h (fun h=> ?_) fun h=> ?_
 refine ai ?_
 refine bq ?_
 refine ae ?_
 refine bD (r:=v5) h (fun j6=>⟨39,[(0,vl ao af),(1,vs bj),(7,.own 7),(8,vi s4.1)],[(7,oa 2 1 (eI .i64) x1)]⟩) (fun v7 h=> ?_) (fun j6 h=> ?_)
 refine ax (a:=v7) ?_
 refine sr ?_
 refine aa.cl ac 3 [0,1,7,8,19,20,21] [7] ?_
 obtain⟨x8,hx8,h⟩:=bind_some h
 refine aa.ls (bw (d:=7) (L:=x1) (f:=(eI .i64)) (ti:=sR) (tj:=ti2) (e:=2) (e':=2) (m:=1) (k:= .i64) ac rfl hx8) ?_
 refine aa.ls (bN (d:=7) (m:=1) (j:=0) (L:=x1) (f:=(eI .i64)) (ti:=ti2) (e:=2) (v:=vi x8) ac rfl hx8) ?_
 obtain⟨x9,hx9,h⟩:=bind_some h
 refine aa.ls (aY (L:=af) (f:=ao) (ti:=eb) (tj:=dg) (e:=169) (k:= .i64) ac rfl hx9) ?_
 refine bO ac 3 [0,1,7,8,9] [7,9] ?_
 refine ae ?_
 refine c7 ⟨39,[(0,vl ao af),(1,vs bj),(7,.own 7),(8,vi s4.1),(34,vb ((x9.Status==0)&&(x9.Language.toList==bj.toList)))],[(7,oa 2 1 (eI .i64) x1)]⟩ ?_ ?_
 refine aa.ck ac 4 ⟨39,[(0,vl ao af),(1,vs bj),(7,.own 7),(8,vi s4.1),(9,.ref 9 0),(29,vb (x9.Status==0))],[(7,oa 2 1 (eI .i64) x1),(9,.box (tc ao x9))]⟩ ?_
 generalize (x9.Status==0)=bb
 cases bb
 refine aa.cl ac 5 [0,1,7,8,34] [7] ?_
 exact aa.nil (Le.an)
 refine aa.cl ac 5 [0,1,7,8,34] [7] ?_
 exact aa.nil (Le.an)
 refine aq h (fun h=> ?_) fun h=> ?_
 refine sr ?_
 refine aa.cl ac 2 [35,36] [7] ?_
 obtain⟨x10,hx10,h⟩:=bind_some h
 refine aa.ls (bw (d:=7) (L:=x1) (f:=(eI .i64)) (ti:=sR) (tj:=ti2) (e:=2) (e':=2) (m:=1) (k:= .i64) ac rfl hx10) ?_
 refine aa.ls (bN (d:=7) (m:=1) (j:=0) (L:=x1) (f:=(eI .i64)) (ti:=ti2) (e:=2) (v:=vi x10) ac rfl hx10) ?_
 refine bO ac 1 [6] [] ?_
 refine ah ?_
 obtain rfl:=inj h
 exact bE (bo (bo (bE (bo (aO (f1 fv))))))
 refine ai ?_
 obtain rfl:=inj h
 exact bt (cn (Le.an))
 refine aD ?_
 refine aa.cl ac 3 [0,1,7,8] [7] ?_
 refine aa.nil ?_
 obtain rfl:=inj h
 exact cn (Le.an)
 refine a6 ?_
 obtain rfl:=inj h
 exact cE (cG (cF (cn (Le.an))))
 refine aJ ac [6] [] ?_
 refine ah ?_
 obtain rfl:=inj h
 exact aO (f1 fv)
theorem CI:bg Tryz.prog 175:=az Tryz.func175 (by kernel_rfl) rfl
noncomputable def gQ(af:(List Name))(aK:Int)(ap:Int)(dK:ByteArray):Option ((List Name)):=
 ((at' af aK).bind fun x1=>(((jH (af.length:Int) (fun(i4:Int) (s4:(List Name))=>((at' af i4).bind fun x8=>(((bif(i4==aK)then(bif(x1.Years.From==ap)then some (.inr s4)else some (.inl (Name.mk x8.Text x8.Language x8.Status (Span.mk x1.Years.From (bF (ap - 1))))))else some (.inl x8))).bind (Sum.elim (fun(j9:Name)=>((c4 s4 ([j9]:List Name)).bind fun x11=>some x11)) some)))) (fun(s4:(List Name))=>s4) 0 ([]:List Name))).bind fun(j2:(List Name))=>((c4 j2 ([(Name.mk dK x1.Language 0 (Span.mk ap x1.Years.To))]:List Name)).bind fun x12=>some x12)))
theorem oS(af:(List Name))(aK:Int)(ap:Int)(dK:ByteArray)(r:(List Name))(h:gQ af aK ap dK=some r):aR Tryz.prog 176 [.v (vl ao af),.v (vi aK),.v (vi ap),.v (vs dK)] ⟨[.own 169 5 r.length (r.map ao)],[],false⟩:=by
 refine au Tryz.func176 rfl [(.tmp 8)] rfl (fun r=>⟨[.own 169 5 r.length (r.map ao)],[],false⟩) (r:=r) ?_
 unfold gQ at h
 refine aJ ac [0,1,2,3] [] ?_
 refine sr ?_
 refine aa.cl ac 2 [0,1,2,3,13,14] [] ?_
 obtain⟨x1,hx1,h⟩:=bind_some h
 refine aa.ls (aY (L:=af) (f:=ao) (ti:=eb) (tj:=dg) (e:=169) (k:= .i64) ac rfl hx1) ?_
 refine bO ac 3 [0,1,2,3,9] [9] ?_
 refine aJ ac [0,1,2,3,9,10] [9,17] ?_
 refine ae ?_
 refine aJ ac [0,1,2,3,9,10,11] [9,17] ?_
 refine aU h (fun j2=>⟨59,[(2,vi ap),(3,vs dK),(9,.ref 9 0),(10,.own 10)],[(9,.box (tc ao x1)),(10,oa 169 5 ao j2)]⟩) (fun v3 h=> ?_) (fun j2 h=> ?_)
 refine ax (a:=v3) ?_
 refine bc (r:=v3) (s:=(0,([]:List Name))) _ (fun s4=>⟨59,[(0,vl ao af),(1,vi aK),(2,vi ap),(3,vs dK),(9,.ref 9 0),(10,.own 10),(11,vi s4.1)],[(9,.box (tc ao x1)),(10,oa 169 5 ao s4.2)]⟩) _ (Le.rr [9,17] [(17,10)]) h (fun s4 v5 h=> ?_)
 refine ae ?_
 refine aJ ac [0,1,2,3,9,10,11,21] [9,10] ?_
 refine aq h (fun h=> ?_) fun h=> ?_
 refine ai ?_
 refine bq ?_
 refine ae ?_
 refine aU h (fun j6=>⟨59,[(0,vl ao af),(1,vi aK),(2,vi ap),(3,vs dK),(9,.ref 9 0),(10,.own 10),(11,vi s4.1)],[(9,.box (tc ao x1)),(10,oa 169 5 ao j6)]⟩) (fun v7 h=> ?_) (fun j6 h=> ?_)
 refine ax (a:=v7) ?_
 refine sr ?_
 refine aa.cl ac 2 [0,1,2,3,9,10,11,24,25] [9,10] ?_
 obtain⟨x8,hx8,h⟩:=bind_some h
 refine aa.ls (aY (L:=af) (f:=ao) (ti:=eb) (tj:=dg) (e:=169) (k:= .i64) ac rfl hx8) ?_
 refine bO ac 3 [0,1,2,3,9,10,11,12] [9,10,12] ?_
 refine ae ?_
 refine aJ ac [0,1,2,3,9,10,11,12,30] [9,10,12] ?_
 refine bp (r:=v7) h (fun j9=>⟨59,[(0,vl ao af),(1,vi aK),(2,vi ap),(3,vs dK),(9,.ref 9 0),(10,.own 10),(11,vi s4.1),(12,.ref 12 0)],[(9,.box (tc ao x1)),(10,oa 169 5 ao s4.2),(12,.box (tc ao j9))]⟩) (fun v10 h=> ?_) (fun j9 h=> ?_)
 refine aq h (fun h=> ?_) fun h=> ?_
 refine ae ?_
 refine aJ ac [0,1,2,3,9,10,11,12,35] [9,10,12] ?_
 refine aq h (fun h=> ?_) fun h=> ?_
 refine a6 ?_
 obtain rfl:=inj h
 exact cE (cG (cF (cI (Le.an))))
 refine ai ?_
 refine bq ?_
 refine aD ?_
 refine aa.cl ac 5 [0,1,2,3,9,10,11,12,38,40] [9,10,12] ?_
 refine aa.ls (aZ (v:= .agg [vi x1.Years.From,vi (bF (ap - 1))]) ac rfl) ?_
 refine aa.cl ac 2 [0,1,2,3,9,10,11,12] [9,10,12] ?_
 refine aa.nil ?_
 obtain rfl:=inj h
 exact cn (Le.an)
 refine ai ?_
 obtain rfl:=inj h
 exact cn (Le.an)
 refine aD ?_
 refine aa.cl ac 3 [0,1,2,3,9,11,43,45] [9,10,45] ?_
 obtain⟨x11,hx11,h⟩:=bind_some h
 refine aa.a7 (bh (f:=ao) (t:=89) (ti:=eb) (tj:=dg) (zs:=[.string (ByteArray.mk #[]),.string (ByteArray.mk #[]),.int .i64 0,.int .i64 0,.int .i64 0]) (e:=169) (m:=5) (d:=10) (xv:= .own 45) hx11 ac rfl rfl rfl rfl (bT (e:=169))) ?_
 refine aa.cl ac 1 [0,1,2,3,9,10,11] [9,46] ?_
 refine aa.nil ?_
 obtain rfl:=inj h
 exact bt (cI (Le.rr [9,46] [(46,10)]))
 refine aD ?_
 refine aa.cl ac 3 [0,1,2,3,9,10,11] [9,10] ?_
 refine aa.nil ?_
 obtain rfl:=inj h
 exact cn (Le.an)
 refine a6 ?_
 obtain rfl:=inj h
 exact cE (cG (cF (cI (Le.an))))
 refine sr ?_
 refine aa.cl ac 8 [47,48,50,51,54] [10] ?_
 refine aa.ls (aZ (v:= .agg [vi ap,vi x1.Years.To]) ac rfl) ?_
 refine aa.ls (aZ (v:= .agg [vs dK,vs x1.Language,vi 0,vi ap,vi x1.Years.To]) ac rfl) ?_
 refine aa.cl ac 1 [47,57] [10,57] ?_
 obtain⟨x12,hx12,h⟩:=bind_some h
 refine aa.a7 (bh (f:=ao) (t:=89) (ti:=eb) (tj:=dg) (zs:=[.string (ByteArray.mk #[]),.string (ByteArray.mk #[]),.int .i64 0,.int .i64 0,.int .i64 0]) (e:=169) (m:=5) (d:=10) (xv:= .own 57) hx12 ac rfl rfl rfl rfl (bT (e:=169))) ?_
 refine ckn ac 1 ⟨59,[(8,.own 58)],[(58,oa 169 5 ao x12)]⟩ ?_
 refine ah ?_
 obtain rfl:=inj h
 exact aO (f1 (fo bQ))
theorem CJ:bg Tryz.prog 176:=az Tryz.func176 (by kernel_rfl) rfl
noncomputable def iB(af:(List Name))(bj:ByteArray)(ap:Int)(dK:ByteArray):Option ((List Name)×Int):=
 ((ff dK).bind fun x1=>(bif(!x1)then some (([]:List Name),1)else((jv af bj ap).bind fun x2=>(bif(x2 !=0)then some (([]:List Name),x2)else((fE af bj ap).bind fun x3=>(bif(decide (x3<0))then some (([]:List Name),4)else((gQ af x3 ap dK).bind fun x4=>(bif(decide ((x4.length:Int)>12))then some (([]:List Name),3)else some (x4,0)))))))))
theorem pG(af:(List Name))(bj:ByteArray)(ap:Int)(dK:ByteArray)(r:(List Name)×Int)(h:iB af bj ap dK=some r):aR Tryz.prog 127 [.v (vl ao af),.v (vs bj),.v (vi ap),.v (vs dK)] ⟨[.own 169 5 r.1.length (r.1.map ao),.v (vi r.2)],[],false⟩:=by
 refine au Tryz.func127 rfl [(.tmp 8),(.tmp 9)] rfl (fun r=>⟨[.own 169 5 r.1.length (r.1.map ao),.v (vi r.2)],[],false⟩) (r:=r) ?_
 unfold iB at h
 refine aJ ac [0,1,2,3] [] ?_
 refine ae ?_
 refine sr ?_
 refine aa.cl ac 1 [0,1,2,3,13] [] ?_
 obtain⟨x1,hx1,h⟩:=bind_some h
 refine aa.ls (xc uv (jt dK _ hx1)) ?_
 refine bO ac 1 [0,1,2,3,15] [] ?_
 refine aq h (fun h=> ?_) fun h=> ?_
 refine aJ ac [8,9] [8] ?_
 refine ah ?_
 obtain rfl:=inj h
 exact cY (aO (f2 (fo bQ) fv))
 refine ai ?_
 refine bq ?_
 refine sr ?_
 refine aa.cl ac 3 [0,1,2,3,16,17,18] [] ?_
 obtain⟨x2,hx2,h⟩:=bind_some h
 refine aa.ls (xc CH (ql af bj ap _ hx2)) ?_
 refine bO ac 1 [0,1,2,3,10] [] ?_
 refine ae ?_
 refine aJ ac [0,1,2,3,10,21] [] ?_
 refine aq h (fun h=> ?_) fun h=> ?_
 refine aJ ac [8,9] [8] ?_
 refine ah ?_
 obtain rfl:=inj h
 exact cY (aO (f2 (fo bQ) fv))
 refine ai ?_
 refine bq ?_
 refine sr ?_
 refine aa.ck ac 3 ⟨38,[(0,vl ao af),(2,vi ap),(3,vs dK),(23,vl ao af),(24,vs bj),(25,vi ap)],[]⟩ ?_
 obtain⟨x3,hx3,h⟩:=bind_some h
 refine aa.ls (xc CI (nD af bj ap _ hx3)) ?_
 refine bO ac 1 [0,2,3,11] [] ?_
 refine ae ?_
 refine aJ ac [0,2,3,11,28] [] ?_
 refine aq h (fun h=> ?_) fun h=> ?_
 refine aJ ac [8,9] [8] ?_
 refine ah ?_
 obtain rfl:=inj h
 exact cY (aO (f2 (fo bQ) fv))
 refine ai ?_
 refine bq ?_
 refine sr ?_
 refine aa.cl ac 4 [29,30,31,32] [] ?_
 obtain⟨x4,hx4,h⟩:=bind_some h
 refine aa.ls (xc CJ (oS af x3 ap dK _ hx4)) ?_
 refine bO ac 1 [12] [33] ?_
 refine ae ?_
 refine aJ ac [12,36] [33] ?_
 refine aq h (fun h=> ?_) fun h=> ?_
 refine aJ ac [8,9] [8] ?_
 refine ah ?_
 obtain rfl:=inj h
 exact cY (aO (f2 (fo bQ) fv))
 refine ai ?_
 refine bq ?_
 refine aJ ac [8,9] [33] ?_
 refine ah ?_
 obtain rfl:=inj h
 exact aO (f2 (fo bQ) fv)
theorem Cj:bg Tryz.prog 127:=az Tryz.func127 (by kernel_rfl) rfl
noncomputable def gS(aW:World)(aC:Change):Option (World×Int):=
 ((ct aW.Places aC.Code).bind fun x1=>((at' aW.Places x1).bind fun x2=>((iB x2.Names aC.Language aC.Year aC.Text).bind fun x3=>(bif(x3.2 !=0)then some (aW,x3.2)else((c4 ([]:List Place) aW.Places).bind fun x4=>((at' x4 x1).bind fun x5=>some ((World.mk (List.set x4 (Int.toNat x1) (Place.mk x5.Code x5.Class x5.Years x3.1)) aW.Links),0)))))))
theorem oU(aW:World)(aC:Change)(r:World×Int)(h:gS aW aC=some r):aR Tryz.prog 69 [.v (.agg (tc aQ aW)),.v (.agg (tc aF aC))] ⟨[.v (.agg (tc aQ r.1)),.v (vi r.2)],[],true⟩:=by
 refine au Tryz.func69 rfl [(.cell 4 35),(.tmp 5)] rfl (fun r=>⟨[.v (.agg (tc aQ r.1)),.v (vi r.2)],[],true⟩) (r:=r) ?_
 unfold gS at h
 refine aJ ac [2,3,4] [2,3,4] ?_
 refine sr ?_
 refine aa.cl ac 4 [2,3,4,11,13] [2,3,4] ?_
 obtain⟨x1,hx1,h⟩:=bind_some h
 refine aa.ls (xc mB (cU aW.Places aC.Code _ hx1)) ?_
 refine bO ac 1 [2,3,4,6] [2,3,4] ?_
 refine ae ?_
 refine cV mixed ?_
 refine aH.cl ac false 3 [2,3,4,6,17,18] [2,3,4] ?_
 obtain⟨x2,hx2,h⟩:=bind_some h
 refine aH.step (aY (L:=aW.Places) (f:=ad) (ti:=bR) (tj:=bG) (e:=91) (k:= .i64) ac rfl hx2) ?_
 refine aH.cl ac false 8 [2,4,6,21,23,25,27] [2,4] ?_
 obtain⟨x3,hx3,h⟩:=bind_some h
 refine aH.step (xc Cj (pG x2.Names aC.Language aC.Year aC.Text _ hx3)) ?_
 refine aH.cl ac false 5 [2,4,6,7,8] [2,4,28] ?_
 refine aH.nx ?_
 refine ae ?_
 refine aJ ac [2,4,6,7,8,32] [2,4,28] ?_
 refine aq h (fun h=> ?_) fun h=> ?_
 refine aJ ac [4,5] [4] ?_
 refine ah ?_
 obtain rfl:=inj h
 exact cY (aO (f2 (kq rfl (cA ac (d:=4) (cs:=[vl ad aW.Places,vl aj aW.Links]) (ti:=iE) (by kernel_rfl) (by kernel_rfl) (by kernel_rfl) (by kernel_rfl))) ft))
 refine ai ?_
 refine bq ?_
 refine sr ?_
 refine aa.ck ac 3 ⟨48,[(2,.ref 2 0),(4,.ref 4 0),(6,vi x1),(7,.own 28),(35,.own 35),(37,vl ad aW.Places)],[(2,.box (tc aQ aW)),(4,.box [vl ad ([]:List Place),vl aj ([]:List ay)]),(28,oa 169 5 ao x3.1),(35,oa 91 5 ad ([]:List Place))]⟩ ?_
 obtain⟨x4,hx4,h⟩:=bind_some h
 refine aa.a7 (bh (f:=ad) (t:=32) (ti:=bR) (tj:=bG) (zs:=[.string (ByteArray.mk #[]),.int .i64 0,.int .i64 0,.int .i64 0,.slice none 0 0]) (e:=91) (m:=5) (d:=35) (xv:=vl ad aW.Places) hx4 ac rfl rfl rfl rfl (jG (fun _=>rfl))) ?_
 refine bO ac 1 [2,4,6,7,9] [2,4,28,38] ?_
 refine sr ?_
 refine aa.cl ac 3 [2,4,9,39,40,41] [2,4,28,38] ?_
 obtain⟨x5,hx5,h⟩:=bind_some h
 refine aa.ls (bw (d:=38) (L:=x4) (f:=ad) (ti:=bR) (tj:=bG) (e:=91) (e':=91) (m:=5) (k:= .i64) ac rfl hx5) ?_
 refine aa.cl ac 1 [2,4,9,41,43] [2,4,28,38] ?_
 refine aa.le (Le.l3 (d:=28) (e:=169) (m:=5) (n:=x3.1.length) (es:=x3.1.map ao) (by kernel_rfl) (by kernel_rfl)) ?_
 refine aa.a7 (nK (d:=38) (m:=5) (j:=4) (L:=x4) (f:=ad) (x:=(Place.mk x5.Code x5.Class x5.Years x3.1)) (z:=x5) (ti:=eb) (e:=91) (ts:=[.sl x3.1.length (x3.1.map ao)]) (vs:=[vl ao x3.1]) (v:=vl ao x3.1) ac rfl rfl hx5) ?_
 refine aa.nx ?_
 refine sr ?_
 refine aa.cl ac 3 [4,44,46] [4,38] ?_
 refine aa.ls (aZ (v:= .agg [.own 38,vl aj aW.Links]) ac rfl) ?_
 refine bO ac 2 [4,5] [4,38] ?_
 refine cH (Le.l3 (d:=38) (e:=91) (m:=5) (n:=(List.set x4 (Int.toNat x1) (Place.mk x5.Code x5.Class x5.Years x3.1)).length) (es:=(List.set x4 (Int.toNat x1) (Place.mk x5.Code x5.Class x5.Years x3.1)).map ad) (by kernel_rfl) (by kernel_rfl)) ?_
 refine ah ?_
 obtain rfl:=inj h
 exact aO (f2 (kq rfl (cA ac (d:=4) (cs:=[vl ad (List.set x4 (Int.toNat x1) (Place.mk x5.Code x5.Class x5.Years x3.1)),vl aj aW.Links]) (ti:=iE) (by kernel_rfl) (by kernel_rfl) (by kernel_rfl) (by kernel_rfl))) ft)
theorem En:bg Tryz.prog 69:=az Tryz.func69 (by kernel_rfl) rfl
noncomputable def eW(aW:World)(aE:ByteArray)(kl:ByteArray)(ap:Int):Option ((List ay)):=
 ((ct aW.Places aE).bind fun x1=>((at' aW.Places x1).bind fun x2=>((ct aW.Places kl).bind fun x3=>((at' aW.Places x3).bind fun x4=>(((jH (aW.Links.length:Int) (fun(i7:Int) (s7:Int×(List ay))=>((at' aW.Links i7).bind fun x11=>(((bif(x11.Child.toList==aE.toList)then(bif(decide (x11.Years.From>ap))then some ((bM s7.1 (bF (x11.Years.From - 1))),x11)else some (s7.1,(ay.mk x11.Child x11.Parent (Span.mk x11.Years.From (bM x11.Years.To (bF (ap - 1)))))))else some (s7.1,x11))).bind fun(j12:Int×ay)=>(bif(decide (j12.2.Years.From≤j12.2.Years.To))then((c4 s7.2 ([j12.2]:List ay)).bind fun x14=>some (j12.1,x14))else some (j12.1,s7.2))))) (fun(s7:Int×(List ay))=>(s7.1,s7.2)) 0 ((bM x2.Years.To x4.Years.To),([]:List ay)))).bind fun(j5:Int×(List ay))=>((c4 j5.2 ([(ay.mk aE kl (Span.mk ap j5.1))]:List ay)).bind fun x15=>some x15))))))
theorem ml(aW:World)(aE:ByteArray)(kl:ByteArray)(ap:Int)(r:(List ay))(h:eW aW aE kl ap=some r):aR Tryz.prog 71 [.v (.agg (tc aQ aW)),.v (vs aE),.v (vs kl),.v (vi ap)] ⟨[.v (vl aj r)],[],true⟩:=by
 refine au Tryz.func71 rfl [(.tmp 8)] rfl (fun r=>⟨[.v (vl aj r)],[],true⟩) (r:=r) ?_
 unfold eW at h
 refine aJ ac [1,2,3,4] [4] ?_
 refine ae ?_
 refine cV mixed ?_
 refine aH.cl ac false 5 [1,2,3,4,16,18,19] [4] ?_
 obtain⟨x1,hx1,h⟩:=bind_some h
 refine aH.step (xc mB (cU aW.Places aE _ hx1)) ?_
 obtain⟨x2,hx2,h⟩:=bind_some h
 refine aH.step (aY (L:=aW.Places) (f:=ad) (ti:=bR) (tj:=bG) (e:=91) (k:= .i64) ac rfl hx2) ?_
 refine aH.cl ac false 6 [1,2,3,4,22,24,26,27] [4] ?_
 obtain⟨x3,hx3,h⟩:=bind_some h
 refine aH.step (xc mB (cU aW.Places kl _ hx3)) ?_
 obtain⟨x4,hx4,h⟩:=bind_some h
 refine aH.step (aY (L:=aW.Places) (f:=ad) (ti:=bR) (tj:=bG) (e:=91) (k:= .i64) ac rfl hx4) ?_
 refine aH.cl ac false 3 [1,2,3,4,9,10,22,30] [4,9,10] ?_
 refine aH.vh [9] (pT (d:=9) (k:=0) (ti:=bG) (cs:=[vs (ByteArray.mk #[]),vi 0,vi 0,vi 0,vl ao ([]:List Name)]) (vs:=[vs x2.Code,vi x2.Class,vi x2.Years.From,vi x2.Years.To,vl ao x2.Names]) (v:= .agg (tc ad x2)) ac rfl rfl) ?_
 refine aH.seq (by kernel_rfl) (by kernel_rfl) ?_
 refine bO ac 1 [1,2,3,4,9,10] [4,9,10] ?_
 refine aJ ac [1,2,3,4,11] [4] ?_
 refine aJ ac [1,2,3,4,11,12] [4,38] ?_
 refine ae ?_
 refine aJ ac [1,2,3,4,11,12,13] [4,38] ?_
 refine aU h (fun j5=>⟨97,[(1,vs aE),(2,vs kl),(3,vi ap),(11,vi j5.1),(12,.own 12)],[(12,oa 85 4 aj j5.2)]⟩) (fun v6 h=> ?_) (fun j5 h=> ?_)
 refine ax (a:=v6) ?_
 refine bc (r:=v6) (s:=(0,(bM x2.Years.To x4.Years.To),([]:List ay))) _ (fun s7=>⟨97,[(1,vs aE),(2,vs kl),(3,vi ap),(4,.ref 4 0),(11,vi s7.2.1),(12,.own 12),(13,vi s7.1)],[(4,.box (tc aQ aW)),(12,oa 85 4 aj s7.2.2)]⟩) _ (Le.rr [4,38] [(38,12)]) h (fun s7 v8 h=> ?_)
 refine ae ?_
 refine aJ ac [1,2,3,4,11,12,13,43] [4,12] ?_
 refine aq h (fun h=> ?_) fun h=> ?_
 refine ai ?_
 refine bq ?_
 refine ae ?_
 refine aU h (fun j9=>⟨97,[(1,vs aE),(2,vs kl),(3,vi ap),(4,.ref 4 0),(11,vi j9.1),(12,.own 12),(13,vi s7.1)],[(4,.box (tc aQ aW)),(12,oa 85 4 aj j9.2)]⟩) (fun v10 h=> ?_) (fun j9 h=> ?_)
 refine ax (a:=v10) ?_
 refine sr ?_
 refine aa.cl ac 3 [1,2,3,4,11,12,13,47,48] [4,12] ?_
 obtain⟨x11,hx11,h⟩:=bind_some h
 refine aa.ls (aY (L:=aW.Links) (f:=aj) (ti:=eo) (tj:=ew) (e:=85) (k:= .i64) ac rfl hx11) ?_
 refine bO ac 3 [1,2,3,4,11,12,13,14] [4,12,14] ?_
 refine ae ?_
 refine aJ ac [1,2,3,4,11,12,13,14,54] [4,12,14] ?_
 refine aU h (fun j12=>⟨97,[(1,vs aE),(2,vs kl),(3,vi ap),(4,.ref 4 0),(11,vi j12.1),(12,.own 12),(13,vi s7.1),(14,.ref 14 0)],[(4,.box (tc aQ aW)),(12,oa 85 4 aj s7.2.2),(14,.box (tc aj j12.2))]⟩) (fun v13 h=> ?_) (fun j12 h=> ?_)
 refine aq h (fun h=> ?_) fun h=> ?_
 refine aJ ac [1,2,3,4,11,12,13,14,59] [4,12,14] ?_
 refine aq h (fun h=> ?_) fun h=> ?_
 refine aD ?_
 refine aa.cl ac 7 [1,2,3,4,11,12,13,14] [4,12,14] ?_
 refine aa.nil ?_
 obtain rfl:=inj h
 exact cI (Le.an)
 refine aD ?_
 refine aa.cl ac 9 [1,2,3,4,11,12,13,14,68,74] [4,12,14] ?_
 refine aa.ls (aZ (v:= .agg [vi x11.Years.From,vi (bM x11.Years.To (bF (ap - 1)))]) ac rfl) ?_
 refine aa.cl ac 2 [1,2,3,4,11,12,13,14] [4,12,14] ?_
 refine aa.nil ?_
 obtain rfl:=inj h
 exact cI (Le.an)
 refine ai ?_
 obtain rfl:=inj h
 exact cI (Le.an)
 refine aJ ac [1,2,3,4,11,12,13,14,83] [4,12,14] ?_
 refine aq h (fun h=> ?_) fun h=> ?_
 refine aD ?_
 refine aa.cl ac 3 [1,2,3,4,11,13,84,86] [4,12,86] ?_
 obtain⟨x14,hx14,h⟩:=bind_some h
 refine aa.a7 (bh (f:=aj) (t:=33) (ti:=eo) (tj:=ew) (zs:=[.string (ByteArray.mk #[]),.string (ByteArray.mk #[]),.int .i64 0,.int .i64 0]) (e:=85) (m:=4) (d:=12) (xv:= .own 86) hx14 ac rfl rfl rfl rfl (bT (e:=85))) ?_
 refine aa.cl ac 1 [1,2,3,4,11,12,13] [4,87] ?_
 refine aa.nil ?_
 obtain rfl:=inj h
 exact bt (cI (Le.rr [4,87] [(87,12)]))
 refine ai ?_
 obtain rfl:=inj h
 exact bt (cI (Le.an))
 refine aD ?_
 refine aa.cl ac 3 [1,2,3,4,11,12,13] [4,12] ?_
 refine aa.nil ?_
 obtain rfl:=inj h
 exact cn (Le.an)
 refine a6 ?_
 obtain rfl:=inj h
 exact cE (cG (cF (cI (Le.an))))
 refine sr ?_
 refine aa.ck ac 5 ⟨97,[(88,.own 12),(89,vs aE),(90,vs kl),(91,vi ap),(92,vi j5.1)],[(12,oa 85 4 aj j5.2)]⟩ ?_
 refine aa.ls (aZ (v:= .agg [vi ap,vi j5.1]) ac rfl) ?_
 refine aa.ls (aZ (v:= .agg [vs aE,vs kl,vi ap,vi j5.1]) ac rfl) ?_
 refine aa.cl ac 1 [88,95] [12,95] ?_
 obtain⟨x15,hx15,h⟩:=bind_some h
 refine aa.a7 (bh (f:=aj) (t:=33) (ti:=eo) (tj:=ew) (zs:=[.string (ByteArray.mk #[]),.string (ByteArray.mk #[]),.int .i64 0,.int .i64 0]) (e:=85) (m:=4) (d:=12) (xv:= .own 95) hx15 ac rfl rfl rfl rfl (bT (e:=85))) ?_
 refine bO ac 1 [8] [96] ?_
 refine cH (Le.l3 (d:=96) (e:=85) (m:=4) (n:=x15.length) (es:=x15.map aj) (by kernel_rfl) (by kernel_rfl)) ?_
 refine ah ?_
 obtain rfl:=inj h
 exact aO (f1 ft)
theorem AG:bg Tryz.prog 71:=az Tryz.func71 (by kernel_rfl) rfl
noncomputable def er(aW:World)(mv:(List ay)):Option (World×Int):=
 (bif(decide ((mv.length:Int)>20))then some (aW,3)else((dM mv).bind fun x1=>(bif(!x1)then some (aW,5)else some ((World.mk aW.Places mv),0))))
theorem lI(aW:World)(mv:(List ay))(r:World×Int)(h:er aW mv=some r):aR Tryz.prog 70 [.v (.agg (tc aQ aW)),.v (vl aj mv)] ⟨[.v (.agg (tc aQ r.1)),.v (vi r.2)],[],true⟩:=by
 refine au Tryz.func70 rfl [(.cell 4 35),(.tmp 5)] rfl (fun r=>⟨[.v (.agg (tc aQ r.1)),.v (vi r.2)],[],true⟩) (r:=r) ?_
 unfold er at h
 refine aJ ac [1,2,4] [2,4] ?_
 refine ae ?_
 refine aJ ac [1,2,4,8] [2,4] ?_
 refine aq h (fun h=> ?_) fun h=> ?_
 refine aJ ac [4,5] [4] ?_
 refine ah ?_
 obtain rfl:=inj h
 exact cY (aO (f2 (kq rfl (cA ac (d:=4) (cs:=[vl ad aW.Places,vl aj aW.Links]) (ti:=iE) (by kernel_rfl) (by kernel_rfl) (by kernel_rfl) (by kernel_rfl))) ft))
 refine ai ?_
 refine bq ?_
 refine ae ?_
 refine sr ?_
 refine aa.cl ac 1 [1,2,4,10] [2,4] ?_
 obtain⟨x1,hx1,h⟩:=bind_some h
 refine aa.ls (xc r5 (eU mv _ hx1)) ?_
 refine bO ac 1 [1,2,4,12] [2,4] ?_
 refine aq h (fun h=> ?_) fun h=> ?_
 refine aJ ac [4,5] [4] ?_
 refine ah ?_
 obtain rfl:=inj h
 exact cY (aO (f2 (kq rfl (cA ac (d:=4) (cs:=[vl ad aW.Places,vl aj aW.Links]) (ti:=iE) (by kernel_rfl) (by kernel_rfl) (by kernel_rfl) (by kernel_rfl))) ft))
 refine ai ?_
 refine bq ?_
 refine sr ?_
 refine aa.cl ac 3 [4,15,16] [4] ?_
 refine aa.ls (aZ (v:= .agg [vl ad aW.Places,vl aj mv]) ac rfl) ?_
 refine bO ac 2 [4,5] [4] ?_
 refine ah ?_
 obtain rfl:=inj h
 exact aO (f2 (kq rfl (cA ac (d:=4) (cs:=[vl ad aW.Places,vl aj mv]) (ti:=iE) (by kernel_rfl) (by kernel_rfl) (by kernel_rfl) (by kernel_rfl))) ft)
theorem AF:bg Tryz.prog 70:=az Tryz.func70 (by kernel_rfl) rfl
noncomputable def jA(af:(List ay))(aE:ByteArray)(ap:Int):Option (Int):=
 ((((dM af).bind fun x1=>(bif(!x1)then some true else((dw aE).bind fun x2=>some (!x2))))).bind fun(j3:Bool)=>(bif j3 then some 1 else((dm ap).bind fun x5=>(bif(!x5)then some 2 else some 0))))
theorem qt(af:(List ay))(aE:ByteArray)(ap:Int)(r:Int)(h:jA af aE ap=some r):aR Tryz.prog 128 [.v (vl aj af),.v (vs aE),.v (vi ap)] ⟨[.v (vi r)],[],false⟩:=by
 refine au Tryz.func128 rfl [(.tmp 6)] rfl (fun r=>⟨[.v (vi r)],[],false⟩) (r:=r) ?_
 unfold jA at h
 refine aJ ac [0,1,2] [] ?_
 refine ae ?_
 refine ae ?_
 refine bn h (fun j3=>⟨18,[(2,vi ap),(14,vb j3)],[]⟩) (fun v4 h=> ?_) (fun j3 h=> ?_)
 refine aa.cl ac 1 [1,2,7] [] ?_
 obtain⟨x1,hx1,h⟩:=bind_some h
 refine aa.ls (xc r5 (eU af _ hx1)) ?_
 refine aa.cl ac 2 [1,2,10] [] ?_
 refine aa.cu [(10,fun b=>b)] h (fun h=> ?_) fun h=> ?_
 refine aa.cl ac 4 [2,14] [] ?_
 refine aa.nil ?_
 obtain rfl:=inj h
 exact Le.an
 refine aa.cl ac 1 [2,10,11] [] ?_
 obtain⟨x2,hx2,h⟩:=bind_some h
 refine aa.ls (xc lv (dy aE _ hx2)) ?_
 refine aa.cl ac 2 [2,14] [] ?_
 refine aa.nil ?_
 obtain rfl:=inj h
 exact Le.an
 refine aq h (fun h=> ?_) fun h=> ?_
 refine kM ac ⟨18,[(6,vi 1)],[]⟩ ?_
 refine ah ?_
 obtain rfl:=inj h
 exact cY (aO (f1 fv))
 refine ai ?_
 refine bq ?_
 refine ae ?_
 refine sr ?_
 refine aa.cl ac 1 [15] [] ?_
 obtain⟨x5,hx5,h⟩:=bind_some h
 refine aa.ls (xc o9 (fD ap _ hx5)) ?_
 refine bO ac 1 [17] [] ?_
 refine aq h (fun h=> ?_) fun h=> ?_
 refine kM ac ⟨18,[(6,vi 2)],[]⟩ ?_
 refine ah ?_
 obtain rfl:=inj h
 exact cY (aO (f1 fv))
 refine ai ?_
 refine bq ?_
 refine kM ac ⟨18,[(6,vi 0)],[]⟩ ?_
 refine ah ?_
 obtain rfl:=inj h
 exact aO (f1 fv)
theorem Ck:bg Tryz.prog 128:=az Tryz.func128 (by kernel_rfl) rfl
noncomputable def dR(af:(List ByteArray))(aS:ByteArray):Option ((List ByteArray)):=
 (((loop (fun(s3:Int)=>(((bif(decide (s3<(af.length:Int)))then((at' af s3).bind fun x5=>some (Op.bytesLess x5.toList aS.toList))else some false)).bind fun(j6:Bool)=>(bif j6 then some (.inl (bF (s3+1)))else some (.inr s3)))) 0)).bind fun(j1:Int)=>(((bif(decide (j1<(af.length:Int)))then((at' af j1).bind fun x8=>some (x8.toList==aS.toList))else some false)).bind fun(j9:Bool)=>(bif j9 then some af else((mW af 0 j1).bind fun x11=>((c4 ([]:List ByteArray) x11).bind fun x12=>((c4 x12 ([aS]:List ByteArray)).bind fun x13=>((mW af j1 (af.length:Int)).bind fun x14=>((c4 x13 x14).bind fun x15=>some x15))))))))
theorem lh(af:(List ByteArray))(aS:ByteArray)(r:(List ByteArray))(h:dR af aS=some r):aR Tryz.prog 178 [.v (vl eS af),.v (vs aS)] ⟨[.v (vl eS r)],[],true⟩:=by
 refine au Tryz.func178 rfl [(.tmp 4)] rfl (fun r=>⟨[.v (vl eS r)],[],true⟩) (r:=r) ?_
 unfold dR at h
 refine aJ ac [0,1] [] ?_
 refine aJ ac [0,1,5] [] ?_
 refine ae ?_
 refine aU h (fun j1=>⟨45,[(0,vl eS af),(1,vs aS),(5,vi j1)],[]⟩) (fun v2 h=> ?_) (fun j1 h=> ?_)
 refine ax (a:=v2) ?_
 refine bc (r:=v2) (s:=0) _ (fun s3=>⟨45,[(0,vl eS af),(1,vs aS),(5,vi s3)],[]⟩) _ (Le.an) h (fun s3 v4 h=> ?_)
 refine ae ?_
 refine ae ?_
 refine bn h (fun j6=>⟨45,[(0,vl eS af),(1,vs aS),(5,vi s3),(17,vb j6)],[]⟩) (fun v7 h=> ?_) (fun j6 h=> ?_)
 refine aa.cl ac 5 [0,1,5,10] [] ?_
 refine aa.cu [(10,fun b=>b)] h (fun h=> ?_) fun h=> ?_
 refine aa.cl ac 2 [0,1,5,10,11,12] [] ?_
 obtain⟨x5,hx5,h⟩:=bind_some h
 refine aa.ls (aY (L:=af) (f:=eS) (ti:=bU) (tj:=et) (e:=9) (k:= .i64) ac rfl hx5) ?_
 refine aa.cl ac 4 [0,1,5,17] [] ?_
 refine aa.nil ?_
 obtain rfl:=inj h
 exact Le.an
 refine aa.cl ac 7 [0,1,5,17] [] ?_
 refine aa.nil ?_
 obtain rfl:=inj h
 exact Le.an
 refine aq h (fun h=> ?_) fun h=> ?_
 refine ai ?_
 refine bq ?_
 refine ax (a:=v4) ?_
 refine aD ?_
 refine aa.cl ac 3 [0,1,5] [] ?_
 refine aa.nil ?_
 obtain rfl:=inj h
 exact bt (cn (Le.an))
 refine a6 ?_
 obtain rfl:=inj h
 exact cE (cG (cF (cI (Le.an))))
 refine ae ?_
 refine ae ?_
 refine bn h (fun j9=>⟨45,[(0,vl eS af),(1,vs aS),(5,vi j1),(31,vb j9)],[]⟩) (fun v10 h=> ?_) (fun j9 h=> ?_)
 refine aa.cl ac 5 [0,1,5,24] [] ?_
 refine aa.cu [(24,fun b=>b)] h (fun h=> ?_) fun h=> ?_
 refine aa.cl ac 2 [0,1,5,24,25,26] [] ?_
 obtain⟨x8,hx8,h⟩:=bind_some h
 refine aa.ls (aY (L:=af) (f:=eS) (ti:=bU) (tj:=et) (e:=9) (k:= .i64) ac rfl hx8) ?_
 refine aa.cl ac 4 [0,1,5,31] [] ?_
 refine aa.nil ?_
 obtain rfl:=inj h
 exact Le.an
 refine aa.cl ac 7 [0,1,5,31] [] ?_
 refine aa.nil ?_
 obtain rfl:=inj h
 exact Le.an
 refine aq h (fun h=> ?_) fun h=> ?_
 refine aJ ac [4] [] ?_
 refine ah ?_
 obtain rfl:=inj h
 exact cY (aO (f1 ft))
 refine ai ?_
 refine bq ?_
 refine ae ?_
 obtain⟨x11,hx11,h⟩:=bind_some h
 obtain⟨x12,hx12,h⟩:=bind_some h
 obtain⟨x13,hx13,h⟩:=bind_some h
 obtain⟨x14,hx14,h⟩:=bind_some h
 obtain⟨x15,hx15,h⟩:=bind_some h
 refine cV mixed ?_
 refine aH.za (σE:=⟨45,[(4,.own 44)],[(44,oa 9 1 eS x15)]⟩) (n:=13) (L0:=(bA 13 0)) (by kernel_rfl) (by kernel_rfl) (fun K hk=> ?_) ?_
 refine DE.sh 0 (bA 13 8191) ⟨45,[(4,.own 44)],[(44,oa 9 1 eS x15)]⟩ ?_ fun d28=> ?_
 exact DE.done (by kernel_rfl) hk
 refine DE.sh 1 (bA 13 4095) ⟨45,[(44,.own 44)],[(44,oa 9 1 eS x15)]⟩ ?_ fun d27=> ?_
 exact DE.tk 12 d28 rfl (.inr rfl) (ar.n ac)
 refine DE.sh 2 (bA 13 2047) ⟨45,[(40,.own 40),(43,vl eS x14)],[(40,oa 9 1 eS x13)]⟩ ?_ fun d26=> ?_
 exact DE.a1 11 d27 rfl (ar.le (bh (f:=eS) (t:=106) (ti:=bU) (tj:=et) (zs:=[.string (ByteArray.mk #[])]) (e:=9) (m:=1) (d:=40) (xv:=vl eS x14) hx15 ac rfl rfl rfl rfl (jG (fun _=>rfl))) Le.an)
 refine DE.sh 3 (bA 13 1919) ⟨45,[(37,.own 37),(39,.own 39),(43,vl eS x14)],[(37,oa 9 1 eS x12),(39,oa 9 1 eS ([aS]:List ByteArray))]⟩ ?_ fun d25=> ?_
 exact DE.a1 7 d26 rfl (ar.le (bh (f:=eS) (t:=106) (ti:=bU) (tj:=et) (zs:=[.string (ByteArray.mk #[])]) (e:=9) (m:=1) (d:=37) (xv:= .own 39) hx13 ac rfl rfl rfl rfl (bT (e:=9))) Le.an)
 refine DE.sh 3 (bA 13 1023) ⟨45,[(40,.own 40),(41,vl eS af),(42,vi j1)],[(40,oa 9 1 eS x13)]⟩ ?_ fun d24=> ?_
 exact DE.a1 10 d26 rfl (ar.l (bC (m:=1) (f:=eS) (ti:=bU) (tj:=et) (e:=9) hx14 (fun _=>rfl) ac rfl))
 refine DE.sh 4 (bA 13 1903) ⟨45,[(33,.own 33),(36,vl eS x11),(39,.own 39),(43,vl eS x14)],[(33,oa 9 1 eS ([]:List ByteArray)),(39,oa 9 1 eS ([aS]:List ByteArray))]⟩ ?_ fun d23=> ?_
 exact DE.a1 4 d25 rfl (ar.le (bh (f:=eS) (t:=106) (ti:=bU) (tj:=et) (zs:=[.string (ByteArray.mk #[])]) (e:=9) (m:=1) (d:=33) (xv:=vl eS x11) hx12 ac rfl rfl rfl rfl (jG (fun _=>rfl))) Le.an)
 refine DE.sh 4 (bA 13 1855) ⟨45,[(37,.own 37),(38,vs aS),(43,vl eS x14)],[(37,oa 9 1 eS x12)]⟩ ?_ fun d22=> ?_
 exact DE.a1 6 d25 rfl (ar.n ac)
 refine DE.sh 4 (bA 13 895) ⟨45,[(37,.own 37),(39,.own 39),(41,vl eS af),(42,vi j1)],[(37,oa 9 1 eS x12),(39,oa 9 1 eS ([aS]:List ByteArray))]⟩ ?_ fun d21=> ?_
 exact DE.al (.c 7 d24 rfl (ar.le (bh (f:=eS) (t:=106) (ti:=bU) (tj:=et) (zs:=[.string (ByteArray.mk #[])]) (e:=9) (m:=1) (d:=37) (xv:= .own 39) hx13 ac rfl rfl rfl rfl (bT (e:=9))) Le.an) (.c 10 d25 rfl (ar.l (bC (m:=1) (f:=eS) (ti:=bU) (tj:=et) (e:=9) hx14 (fun _=>rfl) ac rfl)) .n))
 refine DE.sh 5 (bA 13 1902) ⟨45,[(36,vl eS x11),(39,.own 39),(43,vl eS x14)],[(39,oa 9 1 eS ([aS]:List ByteArray))]⟩ ?_ fun d20=> ?_
 exact DE.a1 0 d23 rfl (ar.n ac)
 refine DE.sh 5 (bA 13 1895) ⟨45,[(33,.own 33),(34,vl eS af),(35,vi j1),(39,.own 39),(43,vl eS x14)],[(33,oa 9 1 eS ([]:List ByteArray)),(39,oa 9 1 eS ([aS]:List ByteArray))]⟩ ?_ fun d19=> ?_
 exact DE.a1 3 d23 rfl (ar.l (bC (m:=1) (f:=eS) (ti:=bU) (tj:=et) (e:=9) hx11 (fun _=>rfl) ac rfl))
 refine DE.sh 5 (bA 13 1839) ⟨45,[(33,.own 33),(36,vl eS x11),(38,vs aS),(43,vl eS x14)],[(33,oa 9 1 eS ([]:List ByteArray))]⟩ ?_ fun d18=> ?_
 exact DE.al (.c 4 d22 rfl (ar.le (bh (f:=eS) (t:=106) (ti:=bU) (tj:=et) (zs:=[.string (ByteArray.mk #[])]) (e:=9) (m:=1) (d:=33) (xv:=vl eS x11) hx12 ac rfl rfl rfl rfl (jG (fun _=>rfl))) Le.an) (.c 6 d23 rfl (ar.n ac) .n))
 refine DE.sh 5 (bA 13 879) ⟨45,[(33,.own 33),(36,vl eS x11),(39,.own 39),(41,vl eS af),(42,vi j1)],[(33,oa 9 1 eS ([]:List ByteArray)),(39,oa 9 1 eS ([aS]:List ByteArray))]⟩ ?_ fun d17=> ?_
 exact DE.al (.c 4 d21 rfl (ar.le (bh (f:=eS) (t:=106) (ti:=bU) (tj:=et) (zs:=[.string (ByteArray.mk #[])]) (e:=9) (m:=1) (d:=33) (xv:=vl eS x11) hx12 ac rfl rfl rfl rfl (jG (fun _=>rfl))) Le.an) (.c 10 d23 rfl (ar.l (bC (m:=1) (f:=eS) (ti:=bU) (tj:=et) (e:=9) hx14 (fun _=>rfl) ac rfl)) .n))
 refine DE.sh 5 (bA 13 831) ⟨45,[(37,.own 37),(38,vs aS),(41,vl eS af),(42,vi j1)],[(37,oa 9 1 eS x12)]⟩ ?_ fun d16=> ?_
 exact DE.al (.c 6 d21 rfl (ar.n ac) (.c 10 d22 rfl (ar.l (bC (m:=1) (f:=eS) (ti:=bU) (tj:=et) (e:=9) hx14 (fun _=>rfl) ac rfl)) .n))
 refine DE.sh 6 (bA 13 1894) ⟨45,[(34,vl eS af),(35,vi j1),(39,.own 39),(43,vl eS x14)],[(39,oa 9 1 eS ([aS]:List ByteArray))]⟩ ?_ fun d15=> ?_
 exact DE.al (.c 0 d19 rfl (ar.n ac) (.c 3 d20 rfl (ar.l (bC (m:=1) (f:=eS) (ti:=bU) (tj:=et) (e:=9) hx11 (fun _=>rfl) ac rfl)) .n))
 refine DE.sh 6 (bA 13 1838) ⟨45,[(36,vl eS x11),(38,vs aS),(43,vl eS x14)],[]⟩ ?_ fun d14=> ?_
 exact DE.al (.c 0 d18 rfl (ar.n ac) (.c 6 d20 rfl (ar.n ac) .n))
 refine DE.sh 6 (bA 13 878) ⟨45,[(36,vl eS x11),(39,.own 39),(41,vl eS af),(42,vi j1)],[(39,oa 9 1 eS ([aS]:List ByteArray))]⟩ ?_ fun d13=> ?_
 exact DE.al (.c 0 d17 rfl (ar.n ac) (.c 10 d20 rfl (ar.l (bC (m:=1) (f:=eS) (ti:=bU) (tj:=et) (e:=9) hx14 (fun _=>rfl) ac rfl)) .n))
 refine DE.sh 6 (bA 13 1831) ⟨45,[(33,.own 33),(34,vl eS af),(35,vi j1),(38,vs aS),(43,vl eS x14)],[(33,oa 9 1 eS ([]:List ByteArray))]⟩ ?_ fun d12=> ?_
 exact DE.al (.c 3 d18 rfl (ar.l (bC (m:=1) (f:=eS) (ti:=bU) (tj:=et) (e:=9) hx11 (fun _=>rfl) ac rfl)) (.c 6 d19 rfl (ar.n ac) .n))
 refine DE.sh 6 (bA 13 871) ⟨45,[(33,.own 33),(34,vl eS af),(35,vi j1),(39,.own 39),(41,vl eS af),(42,vi j1)],[(33,oa 9 1 eS ([]:List ByteArray)),(39,oa 9 1 eS ([aS]:List ByteArray))]⟩ ?_ fun d11=> ?_
 exact DE.al (.c 3 d17 rfl (ar.l (bC (m:=1) (f:=eS) (ti:=bU) (tj:=et) (e:=9) hx11 (fun _=>rfl) ac rfl)) (.c 10 d19 rfl (ar.l (bC (m:=1) (f:=eS) (ti:=bU) (tj:=et) (e:=9) hx14 (fun _=>rfl) ac rfl)) .n))
 refine DE.sh 6 (bA 13 815) ⟨45,[(33,.own 33),(36,vl eS x11),(38,vs aS),(41,vl eS af),(42,vi j1)],[(33,oa 9 1 eS ([]:List ByteArray))]⟩ ?_ fun d10=> ?_
 exact DE.al (.c 4 d16 rfl (ar.le (bh (f:=eS) (t:=106) (ti:=bU) (tj:=et) (zs:=[.string (ByteArray.mk #[])]) (e:=9) (m:=1) (d:=33) (xv:=vl eS x11) hx12 ac rfl rfl rfl rfl (jG (fun _=>rfl))) Le.an) (.c 6 d17 rfl (ar.n ac) (.c 10 d18 rfl (ar.l (bC (m:=1) (f:=eS) (ti:=bU) (tj:=et) (e:=9) hx14 (fun _=>rfl) ac rfl)) .n)))
 refine DE.sh 7 (bA 13 1830) ⟨45,[(34,vl eS af),(35,vi j1),(38,vs aS),(43,vl eS x14)],[]⟩ ?_ fun d9=> ?_
 exact DE.al (.c 0 d12 rfl (ar.n ac) (.c 3 d14 rfl (ar.l (bC (m:=1) (f:=eS) (ti:=bU) (tj:=et) (e:=9) hx11 (fun _=>rfl) ac rfl)) (.c 6 d15 rfl (ar.n ac) .n)))
 refine DE.sh 7 (bA 13 870) ⟨45,[(34,vl eS af),(35,vi j1),(39,.own 39),(41,vl eS af),(42,vi j1)],[(39,oa 9 1 eS ([aS]:List ByteArray))]⟩ ?_ fun d8=> ?_
 exact DE.al (.c 0 d11 rfl (ar.n ac) (.c 3 d13 rfl (ar.l (bC (m:=1) (f:=eS) (ti:=bU) (tj:=et) (e:=9) hx11 (fun _=>rfl) ac rfl)) (.c 10 d15 rfl (ar.l (bC (m:=1) (f:=eS) (ti:=bU) (tj:=et) (e:=9) hx14 (fun _=>rfl) ac rfl)) .n)))
 refine DE.sh 7 (bA 13 814) ⟨45,[(36,vl eS x11),(38,vs aS),(41,vl eS af),(42,vi j1)],[]⟩ ?_ fun d7=> ?_
 exact DE.al (.c 0 d10 rfl (ar.n ac) (.c 6 d13 rfl (ar.n ac) (.c 10 d14 rfl (ar.l (bC (m:=1) (f:=eS) (ti:=bU) (tj:=et) (e:=9) hx14 (fun _=>rfl) ac rfl)) .n)))
 refine DE.sh 7 (bA 13 807) ⟨45,[(33,.own 33),(34,vl eS af),(35,vi j1),(38,vs aS),(41,vl eS af),(42,vi j1)],[(33,oa 9 1 eS ([]:List ByteArray))]⟩ ?_ fun d6=> ?_
 exact DE.al (.c 3 d10 rfl (ar.l (bC (m:=1) (f:=eS) (ti:=bU) (tj:=et) (e:=9) hx11 (fun _=>rfl) ac rfl)) (.c 6 d11 rfl (ar.n ac) (.c 10 d12 rfl (ar.l (bC (m:=1) (f:=eS) (ti:=bU) (tj:=et) (e:=9) hx14 (fun _=>rfl) ac rfl)) .n)))
 refine DE.sh 8 (bA 13 806) ⟨45,[(34,vl eS af),(35,vi j1),(38,vs aS),(41,vl eS af),(42,vi j1)],[]⟩ ?_ fun d5=> ?_
 exact DE.al (.c 0 d6 rfl (ar.n ac) (.c 3 d7 rfl (ar.l (bC (m:=1) (f:=eS) (ti:=bU) (tj:=et) (e:=9) hx11 (fun _=>rfl) ac rfl)) (.c 6 d8 rfl (ar.n ac) (.c 10 d9 rfl (ar.l (bC (m:=1) (f:=eS) (ti:=bU) (tj:=et) (e:=9) hx14 (fun _=>rfl) ac rfl)) .n))))
 refine DE.sh 9 (bA 13 294) ⟨45,[(5,vi j1),(34,vl eS af),(35,vi j1),(38,vs aS),(41,vl eS af)],[]⟩ ?_ fun d4=> ?_
 exact DE.tk 9 d5 rfl (.inl rfl) (ar.n ac)
 refine DE.sh 10 (bA 13 38) ⟨45,[(0,vl eS af),(5,vi j1),(34,vl eS af),(35,vi j1),(38,vs aS)],[]⟩ ?_ fun d3=> ?_
 exact DE.tk 8 d4 rfl (.inl rfl) (ar.n ac)
 refine DE.sh 11 (bA 13 6) ⟨45,[(0,vl eS af),(1,vs aS),(5,vi j1),(34,vl eS af),(35,vi j1)],[]⟩ ?_ fun d2=> ?_
 exact DE.tk 5 d3 rfl (.inl rfl) (ar.n ac)
 refine DE.sh 12 (bA 13 2) ⟨45,[(0,vl eS af),(1,vs aS),(5,vi j1),(34,vl eS af)],[]⟩ ?_ fun d1=> ?_
 exact DE.tk 2 d2 rfl (.inl rfl) (ar.n ac)
 exact DE.tk 1 d1 rfl (.inl rfl) (ar.n ac)
 refine bq ?_
 refine cH (Le.l3 (d:=44) (e:=9) (m:=1) (n:=x15.length) (es:=x15.map eS) (by kernel_rfl) (by kernel_rfl)) ?_
 refine ah ?_
 obtain rfl:=inj h
 exact aO (f1 ft)
theorem yp:bg Tryz.prog 178:=az Tryz.func178 (by kernel_rfl) rfl
noncomputable def gR(af:(List ay)):Option ((List ByteArray)):=
 (((jH (af.length:Int) (fun(i3:Int) (s3:(List ByteArray))=>((at' af i3).bind fun x7=>((dR s3 x7.Child).bind fun x8=>((at' af i3).bind fun x9=>((dR x8 x9.Parent).bind fun x10=>some x10))))) (fun(s3:(List ByteArray))=>s3) 0 ([]:List ByteArray))).bind fun(j1:(List ByteArray))=>some j1)
theorem oT(af:(List ay))(r:(List ByteArray))(h:gR af=some r):aR Tryz.prog 129 [.v (vl aj af)] ⟨[.v (vl eS r)],[],true⟩:=by
 refine au Tryz.func129 rfl [(.tmp 2)] rfl (fun r=>⟨[.v (vl eS r)],[],true⟩) (r:=r) ?_
 unfold gR at h
 refine aJ ac [0] [] ?_
 refine aJ ac [0,3] [5] ?_
 refine ae ?_
 refine aJ ac [0,3,4] [5] ?_
 refine aU h (fun j1=>⟨26,[(3,vl eS j1)],[]⟩) (fun v2 h=> ?_) (fun j1 h=> ?_)
 refine ax (a:=v2) ?_
 refine cH (Le.l3 (d:=5) (e:=9) (m:=1) (n:=([]:List ByteArray).length) (es:=([]:List ByteArray).map eS) (by kernel_rfl) (by kernel_rfl)) ?_
 refine bc (r:=v2) (s:=(0,([]:List ByteArray))) _ (fun s3=>⟨26,[(0,vl aj af),(3,vl eS s3.2),(4,vi s3.1)],[]⟩) _ (Le.an) h (fun s3 v4 h=> ?_)
 refine ae ?_
 refine aJ ac [0,3,4,9] [] ?_
 refine aq h (fun h=> ?_) fun h=> ?_
 refine ai ?_
 refine bq ?_
 refine ae ?_
 refine aU h (fun j5=>⟨26,[(0,vl aj af),(3,vl eS j5),(4,vi s3.1)],[]⟩) (fun v6 h=> ?_) (fun j5 h=> ?_)
 refine ax (a:=v6) ?_
 refine cV mixed ?_
 refine aH.cl ac false 3 [0,4,12,13,14] [] ?_
 obtain⟨x7,hx7,h⟩:=bind_some h
 refine aH.step (aY (L:=af) (f:=aj) (ti:=eo) (tj:=ew) (e:=85) (k:= .i64) ac rfl hx7) ?_
 refine aH.cl ac false 2 [0,4,12,17] [] ?_
 obtain⟨x8,hx8,h⟩:=bind_some h
 refine aH.step (xc yp (lh s3.2 x7.Child _ hx8)) ?_
 refine aH.cl ac false 2 [0,4,18,19,20] [] ?_
 obtain⟨x9,hx9,h⟩:=bind_some h
 refine aH.step (aY (L:=af) (f:=aj) (ti:=eo) (tj:=ew) (e:=85) (k:= .i64) ac rfl hx9) ?_
 refine aH.cl ac false 2 [0,4,18,23] [] ?_
 obtain⟨x10,hx10,h⟩:=bind_some h
 refine aH.step (xc yp (lh x8 x9.Parent _ hx10)) ?_
 refine aH.cl ac false 1 [0,3,4] [] ?_
 refine aH.nil (by kernel_rfl) ?_
 obtain rfl:=inj h
 exact bt (cI (Le.an))
 refine aD ?_
 refine aa.cl ac 3 [0,3,4] [] ?_
 refine aa.nil ?_
 obtain rfl:=inj h
 exact cn (Le.an)
 refine a6 ?_
 obtain rfl:=inj h
 exact cE (cG (cF (cI (Le.an))))
 refine aJ ac [2] [] ?_
 refine ah ?_
 obtain rfl:=inj h
 exact aO (f1 ft)
theorem Cm:bg Tryz.prog 129:=az Tryz.func129 (by kernel_rfl) rfl
noncomputable def gl(af:(List ay))(aE:ByteArray)(ap:Int):Option ((List ByteArray)×Int):=
 ((jA af aE ap).bind fun x1=>(bif(x1 !=0)then some (([]:List ByteArray),x1)else((gR af).bind fun x2=>(((jH (x2.length:Int) (fun(i5:Int) (s5:(List ByteArray))=>((at' x2 i5).bind fun x9=>((eF af x9 ap).bind fun x10=>(bif(x10.toList==aE.toList)then((at' x2 i5).bind fun x11=>((c4 s5 ([x11]:List ByteArray)).bind fun x12=>some x12))else some s5)))) (fun(s5:(List ByteArray))=>s5) 0 ([]:List ByteArray))).bind fun(j3:(List ByteArray))=>some (j3,0)))))
theorem oi(af:(List ay))(aE:ByteArray)(ap:Int)(r:(List ByteArray)×Int)(h:gl af aE ap=some r):aR Tryz.prog 72 [.v (vl aj af),.v (vs aE),.v (vi ap)] ⟨[.own 9 1 r.1.length (r.1.map eS),.v (vi r.2)],[],false⟩:=by
 refine au Tryz.func72 rfl [(.tmp 6),(.tmp 7)] rfl (fun r=>⟨[.own 9 1 r.1.length (r.1.map eS),.v (vi r.2)],[],false⟩) (r:=r) ?_
 unfold gl at h
 refine aJ ac [0,1,2] [] ?_
 refine sr ?_
 refine aa.cl ac 3 [0,1,2,12,13,14] [] ?_
 obtain⟨x1,hx1,h⟩:=bind_some h
 refine aa.ls (xc Ck (qt af aE ap _ hx1)) ?_
 refine bO ac 1 [0,1,2,8] [] ?_
 refine ae ?_
 refine aJ ac [0,1,2,8,17] [] ?_
 refine aq h (fun h=> ?_) fun h=> ?_
 refine aJ ac [6,7] [6] ?_
 refine ah ?_
 obtain rfl:=inj h
 exact cY (aO (f2 (fo fh) fv))
 refine ai ?_
 refine bq ?_
 refine aJ ac [0,1,2,9] [19] ?_
 refine sr ?_
 refine aa.cl ac 1 [0,1,2,9,20] [19] ?_
 obtain⟨x2,hx2,h⟩:=bind_some h
 refine aa.ls (xc Cm (oT af _ hx2)) ?_
 refine bO ac 1 [0,1,2,9,10] [19] ?_
 refine ae ?_
 refine kM ac ⟨45,[(0,vl aj af),(1,vs aE),(2,vi ap),(9,.own 19),(10,vl eS x2),(11,vi 0)],[(19,oa 9 1 eS ([]:List ByteArray))]⟩ ?_
 refine aU h (fun j3=>⟨45,[(9,.own 9)],[(9,oa 9 1 eS j3)]⟩) (fun v4 h=> ?_) (fun j3 h=> ?_)
 refine ax (a:=v4) ?_
 refine bc (r:=v4) (s:=(0,([]:List ByteArray))) _ (fun s5=>⟨45,[(0,vl aj af),(1,vs aE),(2,vi ap),(9,.own 9),(10,vl eS x2),(11,vi s5.1)],[(9,oa 9 1 eS s5.2)]⟩) _ (Le.rr [19] [(19,9)]) h (fun s5 v6 h=> ?_)
 refine ae ?_
 refine aJ ac [0,1,2,9,10,11,25] [9] ?_
 refine aq h (fun h=> ?_) fun h=> ?_
 refine ai ?_
 refine bq ?_
 refine ae ?_
 refine aU h (fun j7=>⟨45,[(0,vl aj af),(1,vs aE),(2,vi ap),(9,.own 9),(10,vl eS x2),(11,vi s5.1)],[(9,oa 9 1 eS j7)]⟩) (fun v8 h=> ?_) (fun j7 h=> ?_)
 refine ax (a:=v8) ?_
 refine sr ?_
 refine aa.cl ac 3 [0,1,2,9,10,11,28,29,30] [9] ?_
 obtain⟨x9,hx9,h⟩:=bind_some h
 refine aa.ls (aY (L:=x2) (f:=eS) (ti:=bU) (tj:=et) (e:=9) (k:= .i64) ac rfl hx9) ?_
 refine aa.cl ac 2 [0,1,2,9,10,11,28,32,33] [9] ?_
 obtain⟨x10,hx10,h⟩:=bind_some h
 refine aa.ls (xc yd (lj af x9 ap _ hx10)) ?_
 refine bO ac 2 [0,1,2,9,10,11,36] [9] ?_
 refine aq h (fun h=> ?_) fun h=> ?_
 refine aD ?_
 refine aa.cl ac 3 [0,1,2,10,11,37,38,39] [9] ?_
 obtain⟨x11,hx11,h⟩:=bind_some h
 refine aa.ls (aY (L:=x2) (f:=eS) (ti:=bU) (tj:=et) (e:=9) (k:= .i64) ac rfl hx11) ?_
 refine aa.cl ac 2 [0,1,2,10,11,37,42] [9,42] ?_
 obtain⟨x12,hx12,h⟩:=bind_some h
 refine aa.a7 (bh (f:=eS) (t:=106) (ti:=bU) (tj:=et) (zs:=[.string (ByteArray.mk #[])]) (e:=9) (m:=1) (d:=9) (xv:= .own 42) hx12 ac rfl rfl rfl rfl (bT (e:=9))) ?_
 refine aa.cl ac 1 [0,1,2,9,10,11] [43] ?_
 refine aa.nil ?_
 obtain rfl:=inj h
 exact bt (cI (Le.rr [43] [(43,9)]))
 refine ai ?_
 obtain rfl:=inj h
 exact bt (cI (Le.an))
 refine aD ?_
 refine aa.cl ac 3 [0,1,2,9,10,11] [9] ?_
 refine aa.nil ?_
 obtain rfl:=inj h
 exact cn (Le.an)
 refine a6 ?_
 obtain rfl:=inj h
 exact cE (cG (cF (cI (Le.an))))
 refine aJ ac [6,7] [9] ?_
 refine ah ?_
 obtain rfl:=inj h
 exact aO (f2 (fo fh) fv)
theorem Eo:bg Tryz.prog 72:=az Tryz.func72 (by kernel_rfl) rfl
noncomputable def jx(af:(List Place))(aE:ByteArray)(ap:Int):Option (Int):=
 ((((c9 af).bind fun x1=>(bif(!x1)then some true else((dw aE).bind fun x2=>some (!x2))))).bind fun(j3:Bool)=>(bif j3 then some 1 else((dm ap).bind fun x5=>(bif(!x5)then some 2 else((ct af aE).bind fun x6=>(bif(decide (x6<0))then some 4 else some 0))))))
theorem qo(af:(List Place))(aE:ByteArray)(ap:Int)(r:Int)(h:jx af aE ap=some r):aR Tryz.prog 131 [.v (vl ad af),.v (vs aE),.v (vi ap)] ⟨[.v (vi r)],[],false⟩:=by
 refine au Tryz.func131 rfl [(.tmp 6)] rfl (fun r=>⟨[.v (vi r)],[],false⟩) (r:=r) ?_
 unfold jx at h
 refine aJ ac [0,1,2] [] ?_
 refine ae ?_
 refine ae ?_
 refine bn h (fun j3=>⟨22,[(0,vl ad af),(1,vs aE),(2,vi ap),(14,vb j3)],[]⟩) (fun v4 h=> ?_) (fun j3 h=> ?_)
 refine aa.cl ac 1 [0,1,2,7] [] ?_
 obtain⟨x1,hx1,h⟩:=bind_some h
 refine aa.ls (xc uz (fj af _ hx1)) ?_
 refine aa.cl ac 2 [0,1,2,10] [] ?_
 refine aa.cu [(10,fun b=>b)] h (fun h=> ?_) fun h=> ?_
 refine aa.cl ac 4 [0,1,2,14] [] ?_
 refine aa.nil ?_
 obtain rfl:=inj h
 exact Le.an
 refine aa.cl ac 1 [0,1,2,10,11] [] ?_
 obtain⟨x2,hx2,h⟩:=bind_some h
 refine aa.ls (xc lv (dy aE _ hx2)) ?_
 refine aa.cl ac 2 [0,1,2,14] [] ?_
 refine aa.nil ?_
 obtain rfl:=inj h
 exact Le.an
 refine aq h (fun h=> ?_) fun h=> ?_
 refine kM ac ⟨22,[(6,vi 1)],[]⟩ ?_
 refine ah ?_
 obtain rfl:=inj h
 exact cY (aO (f1 fv))
 refine ai ?_
 refine bq ?_
 refine ae ?_
 refine sr ?_
 refine aa.cl ac 1 [0,1,15] [] ?_
 obtain⟨x5,hx5,h⟩:=bind_some h
 refine aa.ls (xc o9 (fD ap _ hx5)) ?_
 refine bO ac 1 [0,1,17] [] ?_
 refine aq h (fun h=> ?_) fun h=> ?_
 refine kM ac ⟨22,[(6,vi 2)],[]⟩ ?_
 refine ah ?_
 obtain rfl:=inj h
 exact cY (aO (f1 fv))
 refine ai ?_
 refine bq ?_
 refine ae ?_
 refine sr ?_
 refine aa.cl ac 2 [18,19] [] ?_
 obtain⟨x6,hx6,h⟩:=bind_some h
 refine aa.ls (xc mB (cU af aE _ hx6)) ?_
 refine bO ac 1 [21] [] ?_
 refine aq h (fun h=> ?_) fun h=> ?_
 refine kM ac ⟨22,[(6,vi 4)],[]⟩ ?_
 refine ah ?_
 obtain rfl:=inj h
 exact cY (aO (f1 fv))
 refine ai ?_
 refine bq ?_
 refine kM ac ⟨22,[(6,vi 0)],[]⟩ ?_
 refine ah ?_
 obtain rfl:=inj h
 exact aO (f1 fv)
theorem Cn:bg Tryz.prog 131:=az Tryz.func131 (by kernel_rfl) rfl
noncomputable def ki(aP:Place)(ap:Int):Option (Place):=
 (((jH (aP.Names.length:Int) (fun(i3:Int) (s3:(List Name))=>((at' aP.Names i3).bind fun x7=>(bif(decide (x7.Years.From≤(bM x7.Years.To (bF (ap - 1)))))then((c4 s3 ([(Name.mk x7.Text x7.Language x7.Status (Span.mk x7.Years.From (bM x7.Years.To (bF (ap - 1)))))]:List Name)).bind fun x8=>some x8)else some s3))) (fun(s3:(List Name))=>s3) 0 ([]:List Name))).bind fun(j1:(List Name))=>some (Place.mk aP.Code aP.Class (Span.mk aP.Years.From (bM aP.Years.To (bF (ap - 1)))) j1))
theorem rk(aP:Place)(ap:Int)(r:Place)(h:ki aP ap=some r):aR Tryz.prog 132 [.v (.agg (tc ad aP)),.v (vi ap)] ⟨[.part [vs r.Code,vi r.Class,vi r.Years.From,vi r.Years.To] [] (oa 169 5 ao r.Names)],[],false⟩:=by
 refine au Tryz.func132 rfl [(.cell 4 91)] rfl (fun r=>⟨[.part [vs r.Code,vi r.Class,vi r.Years.From,vi r.Years.To] [] (oa 169 5 ao r.Names)],[],false⟩) (r:=r) ?_
 unfold ki at h
 refine aJ ac [1,2,4] [2,4] ?_
 refine aJ ac [1,2,4,5] [2,4,8] ?_
 refine ae ?_
 refine aJ ac [1,2,4,5,6] [2,4,8] ?_
 refine aU h (fun j1=>⟨59,[(1,vi ap),(2,.ref 2 0),(4,.ref 4 0),(5,.own 5)],[(2,.box (tc ad aP)),(4,.box [vs (ByteArray.mk #[]),vi 0,vi 0,vi 0,vl ao ([]:List Name)]),(5,oa 169 5 ao j1)]⟩) (fun v2 h=> ?_) (fun j1 h=> ?_)
 refine ax (a:=v2) ?_
 refine bc (r:=v2) (s:=(0,([]:List Name))) _ (fun s3=>⟨59,[(1,vi ap),(2,.ref 2 0),(4,.ref 4 0),(5,.own 5),(6,vi s3.1)],[(2,.box (tc ad aP)),(4,.box [vs (ByteArray.mk #[]),vi 0,vi 0,vi 0,vl ao ([]:List Name)]),(5,oa 169 5 ao s3.2)]⟩) _ (Le.rr [2,4,8] [(8,5)]) h (fun s3 v4 h=> ?_)
 refine ae ?_
 refine aJ ac [1,2,4,5,6,13] [2,4,5] ?_
 refine aq h (fun h=> ?_) fun h=> ?_
 refine ai ?_
 refine bq ?_
 refine ae ?_
 refine aU h (fun j5=>⟨59,[(1,vi ap),(2,.ref 2 0),(4,.ref 4 0),(5,.own 5),(6,vi s3.1)],[(2,.box (tc ad aP)),(4,.box [vs (ByteArray.mk #[]),vi 0,vi 0,vi 0,vl ao ([]:List Name)]),(5,oa 169 5 ao j5)]⟩) (fun v6 h=> ?_) (fun j5 h=> ?_)
 refine ax (a:=v6) ?_
 refine sr ?_
 refine aa.cl ac 3 [1,2,4,5,6,17,18] [2,4,5] ?_
 obtain⟨x7,hx7,h⟩:=bind_some h
 refine aa.ls (aY (L:=aP.Names) (f:=ao) (ti:=eb) (tj:=dg) (e:=169) (k:= .i64) ac rfl hx7) ?_
 refine bO ac 3 [1,2,4,5,6,7] [2,4,5,7] ?_
 refine sr ?_
 refine aa.cl ac 9 [1,2,4,5,6,7,23,29] [2,4,5,7] ?_
 refine aa.ls (aZ (v:= .agg [vi x7.Years.From,vi (bM x7.Years.To (bF (ap - 1)))]) ac rfl) ?_
 refine bO ac 2 [1,2,4,5,6,7] [2,4,5,7] ?_
 refine aJ ac [1,2,4,5,6,7,38] [2,4,5,7] ?_
 refine aq h (fun h=> ?_) fun h=> ?_
 refine aD ?_
 refine aa.cl ac 3 [1,2,4,6,39,41] [2,4,5,41] ?_
 obtain⟨x8,hx8,h⟩:=bind_some h
 refine aa.a7 (bh (f:=ao) (t:=89) (ti:=eb) (tj:=dg) (zs:=[.string (ByteArray.mk #[]),.string (ByteArray.mk #[]),.int .i64 0,.int .i64 0,.int .i64 0]) (e:=169) (m:=5) (d:=5) (xv:= .own 41) hx8 ac rfl rfl rfl rfl (bT (e:=169))) ?_
 refine aa.cl ac 1 [1,2,4,5,6] [2,4,42] ?_
 refine aa.nil ?_
 obtain rfl:=inj h
 exact bt (cI (Le.rr [2,4,42] [(42,5)]))
 refine ai ?_
 obtain rfl:=inj h
 exact bt (cI (Le.an))
 refine aD ?_
 refine aa.cl ac 3 [1,2,4,5,6] [2,4,5] ?_
 refine aa.nil ?_
 obtain rfl:=inj h
 exact cn (Le.an)
 refine a6 ?_
 obtain rfl:=inj h
 exact cE (cG (cF (cI (Le.an))))
 refine sr ?_
 refine aa.ck ac 13 ⟨59,[(4,.ref 4 0),(5,.own 5),(44,vs aP.Code),(46,vi aP.Class),(49,vi aP.Years.From),(55,vi (bM aP.Years.To (bF (ap - 1))))],[(4,.box [vs (ByteArray.mk #[]),vi 0,vi 0,vi 0,vl ao ([]:List Name)]),(5,oa 169 5 ao j1)]⟩ ?_
 refine aa.ls (aZ (v:= .agg [vi aP.Years.From,vi (bM aP.Years.To (bF (ap - 1)))]) ac rfl) ?_
 refine aa.cl ac 1 [4,44,46,56,57] [4,5] ?_
 refine aa.ls (aZ (v:= .agg [vs aP.Code,vi aP.Class,vi aP.Years.From,vi (bM aP.Years.To (bF (ap - 1))),.own 5]) ac rfl) ?_
 refine bO ac 1 [4] [4,5] ?_
 refine ah ?_
 obtain rfl:=inj h
 exact aO (f1 (AP (d:=5) [vs aP.Code,vi aP.Class,vi aP.Years.From,vi (bM aP.Years.To (bF (ap - 1)))] [] (cA ac (d:=4) (cs:=[vs aP.Code,vi aP.Class,vi aP.Years.From,vi (bM aP.Years.To (bF (ap - 1))),.own 5]) (ti:=bG) (by kernel_rfl) (by kernel_rfl) (by kernel_rfl) (by kernel_rfl)) (by kernel_rfl) (cN bQ _) rfl rfl SV.ez SV.ez (by kernel_rfl)))
theorem Co:bg Tryz.prog 132:=az Tryz.func132 (by kernel_rfl) rfl
noncomputable def fN(af:(List Place)):Option ((List Place)):=
 (((jH (af.length:Int) (fun(i3:Int) (s3:(List Place))=>((at' af i3).bind fun x7=>((c4 ([]:List Name) x7.Names).bind fun x8=>((c4 s3 ([(Place.mk x7.Code x7.Class x7.Years x8)]:List Place)).bind fun x9=>some x9)))) (fun(s3:(List Place))=>s3) 0 ([]:List Place))).bind fun(j1:(List Place))=>some j1)
theorem kx(af:(List Place))(r:(List Place))(h:fN af=some r):aR Tryz.prog 84 [.v (vl ad af)] ⟨[.deep 91 5 r.length [.flat,.flat,.flat,.flat,(.sl 169 5 [.flat,.flat,.flat,.flat,.flat])] (r.map ad)],[],false⟩:=by
 refine au Tryz.func84 rfl [(.tmp 2)] rfl (fun r=>⟨[.deep 91 5 r.length [.flat,.flat,.flat,.flat,(.sl 169 5 [.flat,.flat,.flat,.flat,.flat])] (r.map ad)],[],false⟩) (r:=r) ?_
 unfold fN at h
 refine sr ?_
 refine aa.cl ac 1 [2,0] [2] ?_
 refine aa.le (Le.qG (d:=2) (e:=91) (m:=5) (ss:=[.flat,.flat,.flat,.flat,(.sl 169 5 [.flat,.flat,.flat,.flat,.flat])]) (by kernel_rfl) (by kernel_rfl)) ?_
 refine aa.nx ?_
 refine sr ?_
 refine aa.cl ac 1 [6,2,0] [6,2] ?_
 refine aa.le (Le.qG (d:=6) (e:=91) (m:=5) (ss:=[.flat,.flat,.flat,.flat,(.sl 169 5 [.flat,.flat,.flat,.flat,.flat])]) (by kernel_rfl) (by kernel_rfl)) ?_
 refine bO ac 1 [0,3] [6] ?_
 refine ae ?_
 refine aJ ac [0,3,4] [6] ?_
 refine aU h (fun j1=>⟨27,[(3,.own 3)],[(3,.deep 91 5 j1.length [.flat,.flat,.flat,.flat,(.sl 169 5 [.flat,.flat,.flat,.flat,.flat])] (j1.map ad))]⟩) (fun v2 h=> ?_) (fun j1 h=> ?_)
 refine ax (a:=v2) ?_
 refine bc (r:=v2) (s:=(0,([]:List Place))) _ (fun s3=>⟨27,[(0,vl ad af),(3,.own 3),(4,vi s3.1)],[(3,.deep 91 5 s3.2.length [.flat,.flat,.flat,.flat,(.sl 169 5 [.flat,.flat,.flat,.flat,.flat])] (s3.2.map ad))]⟩) _ (Le.rr [6] [(6,3)]) h (fun s3 v4 h=> ?_)
 refine ae ?_
 refine aJ ac [0,3,4,10] [3] ?_
 refine aq h (fun h=> ?_) fun h=> ?_
 refine ai ?_
 refine bq ?_
 refine ae ?_
 refine aU h (fun j5=>⟨27,[(0,vl ad af),(3,.own 3),(4,vi s3.1)],[(3,.deep 91 5 j5.length [.flat,.flat,.flat,.flat,(.sl 169 5 [.flat,.flat,.flat,.flat,.flat])] (j5.map ad))]⟩) (fun v6 h=> ?_) (fun j5 h=> ?_)
 refine ax (a:=v6) ?_
 refine sr ?_
 refine aa.cl ac 2 [0,3,4,13,14] [3] ?_
 obtain⟨x7,hx7,h⟩:=bind_some h
 refine aa.ls (aY (L:=af) (f:=ad) (ti:=bR) (tj:=bG) (e:=91) (k:= .i64) ac rfl hx7) ?_
 refine bO ac 3 [0,3,4,5] [3,5] ?_
 refine sr ?_
 refine aa.cl ac 3 [0,3,4,5,17,19] [3,5,17] ?_
 obtain⟨x8,hx8,h⟩:=bind_some h
 refine aa.a7 (bh (f:=ao) (t:=89) (ti:=eb) (tj:=dg) (zs:=[.string (ByteArray.mk #[]),.string (ByteArray.mk #[]),.int .i64 0,.int .i64 0,.int .i64 0]) (e:=169) (m:=5) (d:=17) (xv:=vl ao x7.Names) hx8 ac rfl rfl rfl rfl (jG (fun _=>rfl))) ?_
 refine bO ac 2 [0,3,4,5] [3,5,20] ?_
 refine aD ?_
 refine aa.cl ac 2 [0,4,22,23] [3,20] ?_
 refine aa.a7 (pR (ti:=bR) (tj:=bG) (e:=91) (m:=5) (zs:=[.string (ByteArray.mk #[]),.int .i64 0,.int .i64 0,.int .i64 0,.slice none 0 0]) (v:= .agg [vs x7.Code,vi x7.Class,vi x7.Years.From,vi x7.Years.To,.own 20]) (cs:=[vs x7.Code,vi x7.Class,vi x7.Years.From,vi x7.Years.To,.own 20]) (ss:=[.flat,.flat,.flat,.flat,(.sl 169 5 [.flat,.flat,.flat,.flat,.flat])]) (ts:=[.str x7.Code,.int .i64 x7.Class,.int .i64 x7.Years.From,.int .i64 x7.Years.To,.sl x8.length (x8.map ao)]) (ds:=[20]) ac rfl rfl rfl (.cons _ _ _ [] _ _ _ _ (.flat (.str x7.Code) rfl) (.cons _ _ _ [] _ _ _ _ (.flat (.int .i64 x7.Class) rfl) (.cons _ _ _ [] _ _ _ _ (.flat (.int .i64 x7.Years.From) rfl) (.cons _ _ _ [] _ _ _ _ (.flat (.int .i64 x7.Years.To) rfl) (.cons _ _ _ [20] _ _ _ _ (ug (d:=20) (e:=169) (m:=5) (n:=x8.length) (es:=x8.map ao) (ss:=[.flat,.flat,.flat,.flat,.flat]) (cN bQ _)) .nil (by decide)) (by decide)) (by decide)) (by decide)) (by decide))) ?_
 obtain⟨x9,hx9,h⟩:=bind_some h
 refine aa.a7 (oz (f:=ad) (L:=s3.2) (M:=([(Place.mk x7.Code x7.Class x7.Years x8)]:List Place)) (t:=32) (ti:=bR) (tj:=bG) (zs:=[.string (ByteArray.mk #[]),.int .i64 0,.int .i64 0,.int .i64 0,.slice none 0 0]) (e:=91) (m:=5) (d:=3) (dx:=24) (ss:=[.flat,.flat,.flat,.flat,(.sl 169 5 [.flat,.flat,.flat,.flat,.flat])]) hx9 ac rfl rfl rfl rfl) ?_
 refine aa.cl ac 1 [0,3,4] [25] ?_
 refine aa.nil ?_
 obtain rfl:=inj h
 exact bt (cI (Le.rr [25] [(25,3)]))
 refine aD ?_
 refine aa.cl ac 3 [0,3,4] [3] ?_
 refine aa.nil ?_
 obtain rfl:=inj h
 exact cn (Le.an)
 refine a6 ?_
 obtain rfl:=inj h
 exact cE (cG (cF (cI (Le.an))))
 refine aJ ac [2] [3] ?_
 refine ah ?_
 obtain rfl:=inj h
 exact aO (f1 (vQ (d:=3) (fP (by kernel_rfl)) (by kernel_rfl) (by kernel_rfl)))
theorem xh:bg Tryz.prog 84:=az Tryz.func84 (by kernel_rfl) rfl
noncomputable def gu(af:(List Place))(aE:ByteArray)(ap:Int):Option ((List Place)×Int):=
 ((jx af aE ap).bind fun x1=>(bif(x1 !=0)then some (([]:List Place),x1)else((ct af aE).bind fun x2=>((at' af x2).bind fun x3=>((dp x3 (bF (ap - 1))).bind fun x4=>(bif(!x4)then some (([]:List Place),5)else((c4 ([]:List Place) af).bind fun x5=>((at' af x2).bind fun x6=>((ki x6 ap).bind fun x7=>((at' x5 x2).bind fun _=>((fN (List.set x5 (Int.toNat x2) x7)).bind fun x9=>some (x9,0))))))))))))
theorem pE(af:(List Place))(aE:ByteArray)(ap:Int)(r:(List Place)×Int)(h:gu af aE ap=some r):aR Tryz.prog 73 [.v (vl ad af),.v (vs aE),.v (vi ap)] ⟨[.deep 91 5 r.1.length [.flat,.flat,.flat,.flat,(.sl 169 5 [.flat,.flat,.flat,.flat,.flat])] (r.1.map ad),.v (vi r.2)],[],false⟩:=by
 refine au Tryz.func73 rfl [(.tmp 6),(.tmp 7)] rfl (fun r=>⟨[.deep 91 5 r.1.length [.flat,.flat,.flat,.flat,(.sl 169 5 [.flat,.flat,.flat,.flat,.flat])] (r.1.map ad),.v (vi r.2)],[],false⟩) (r:=r) ?_
 unfold gu at h
 refine aJ ac [0,1,2] [] ?_
 refine sr ?_
 refine aa.cl ac 3 [0,1,2,11,12,13] [] ?_
 obtain⟨x1,hx1,h⟩:=bind_some h
 refine aa.ls (xc Cn (qo af aE ap _ hx1)) ?_
 refine bO ac 1 [0,1,2,8] [] ?_
 refine ae ?_
 refine aJ ac [0,1,2,8,16] [] ?_
 refine aq h (fun h=> ?_) fun h=> ?_
 refine aJ ac [6,7] [6] ?_
 refine cH (Le.qG (d:=6) (e:=91) (m:=5) (ss:=[.flat,.flat,.flat,.flat,(.sl 169 5 [.flat,.flat,.flat,.flat,.flat])]) (by kernel_rfl) (by kernel_rfl)) ?_
 refine ah ?_
 obtain rfl:=inj h
 exact cY (aO (f2 (vQ (d:=6) (fP (by kernel_rfl)) (by kernel_rfl) (by kernel_rfl)) fv))
 refine ai ?_
 refine bq ?_
 refine sr ?_
 refine aa.cl ac 2 [0,2,18,19] [] ?_
 obtain⟨x2,hx2,h⟩:=bind_some h
 refine aa.ls (xc mB (cU af aE _ hx2)) ?_
 refine bO ac 1 [0,2,9] [] ?_
 refine ae ?_
 refine sr ?_
 refine aa.cl ac 2 [0,2,9,21,22] [] ?_
 obtain⟨x3,hx3,h⟩:=bind_some h
 refine aa.ls (aY (L:=af) (f:=ad) (ti:=bR) (tj:=bG) (e:=91) (k:= .i64) ac rfl hx3) ?_
 refine aa.ck ac 3 ⟨43,[(0,vl ad af),(2,vi ap),(9,vi x2),(24,.agg (tc ad x3)),(26,vi (bF (ap - 1)))],[]⟩ ?_
 obtain⟨x4,hx4,h⟩:=bind_some h
 refine aa.ls (xc o8 (eE x3 (bF (ap - 1)) _ hx4)) ?_
 refine bO ac 1 [0,2,9,28] [] ?_
 refine aq h (fun h=> ?_) fun h=> ?_
 refine aJ ac [6,7] [6] ?_
 refine cH (Le.qG (d:=6) (e:=91) (m:=5) (ss:=[.flat,.flat,.flat,.flat,(.sl 169 5 [.flat,.flat,.flat,.flat,.flat])]) (by kernel_rfl) (by kernel_rfl)) ?_
 refine ah ?_
 obtain rfl:=inj h
 exact cY (aO (f2 (vQ (d:=6) (fP (by kernel_rfl)) (by kernel_rfl) (by kernel_rfl)) fv))
 refine ai ?_
 refine bq ?_
 refine sr ?_
 refine aa.cl ac 2 [0,2,9,29,30] [29] ?_
 obtain⟨x5,hx5,h⟩:=bind_some h
 refine aa.a7 (bh (f:=ad) (t:=32) (ti:=bR) (tj:=bG) (zs:=[.string (ByteArray.mk #[]),.int .i64 0,.int .i64 0,.int .i64 0,.slice none 0 0]) (e:=91) (m:=5) (d:=29) (xv:=vl ad af) hx5 ac rfl rfl rfl rfl (jG (fun _=>rfl))) ?_
 refine bO ac 1 [0,2,9,10] [31] ?_
 refine sr ?_
 refine aa.cl ac 4 [2,10,32,33,34,35] [31] ?_
 obtain⟨x6,hx6,h⟩:=bind_some h
 refine aa.ls (aY (L:=af) (f:=ad) (ti:=bR) (tj:=bG) (e:=91) (k:= .i64) ac rfl hx6) ?_
 refine aa.cl ac 2 [10,32,33,37,38] [31] ?_
 obtain⟨x7,hx7,h⟩:=bind_some h
 refine aa.ls (xc Co (rk x6 ap _ hx7)) ?_
 obtain⟨x8,hx8,h⟩:=bind_some h
 refine aa.ls (bw (d:=31) (L:=x5) (f:=ad) (ti:=bR) (tj:=bG) (e:=91) (e':=91) (m:=5) (k:= .i64) ac rfl hx8) ?_
 refine aa.le (Le.l3 (d:=39) (e:=169) (m:=5) (n:=x7.Names.length) (es:=x7.Names.map ao) (by kernel_rfl) (by kernel_rfl)) ?_
 refine aa.a7 (nK (d:=31) (m:=5) (j:=0) (L:=x5) (f:=ad) (x:=x7) (z:=x8) (ti:=bG) (e:=91) (ts:=[.str x7.Code,.int .i64 x7.Class,.int .i64 x7.Years.From,.int .i64 x7.Years.To,.sl x7.Names.length (x7.Names.map ao)]) (vs:=[vs x7.Code,vi x7.Class,vi x7.Years.From,vi x7.Years.To,vl ao x7.Names]) (v:= .agg (tc ad x7)) ac rfl rfl hx8) ?_
 refine aa.nx ?_
 refine sr ?_
 refine aa.cl ac 1 [41] [31] ?_
 obtain⟨x9,hx9,h⟩:=bind_some h
 refine aa.ls (xc xh (kx (List.set x5 (Int.toNat x2) x7) _ hx9)) ?_
 refine bO ac 2 [6,7] [42] ?_
 refine ah ?_
 obtain rfl:=inj h
 exact aO (f2 (vQ (d:=42) (fP (by kernel_rfl)) (by kernel_rfl) (by kernel_rfl)) fv)
theorem Ep:bg Tryz.prog 73:=az Tryz.func73 (by kernel_rfl) rfl
noncomputable def iX(af:(List ay))(aE:ByteArray)(ap:Int):Option ((List ay)):=
 (((jH (af.length:Int) (fun(i3:Int) (s3:(List ay))=>((at' af i3).bind fun x7=>(((bif((x7.Child.toList==aE.toList) || (x7.Parent.toList==aE.toList))then some (ay.mk x7.Child x7.Parent (Span.mk x7.Years.From (bM x7.Years.To (bF (ap - 1)))))else some x7)).bind fun(j8:ay)=>(bif(decide (j8.Years.From≤j8.Years.To))then((c4 s3 ([j8]:List ay)).bind fun x10=>some x10)else some s3)))) (fun(s3:(List ay))=>s3) 0 ([]:List ay))).bind fun(j1:(List ay))=>some j1)
theorem rl(af:(List ay))(aE:ByteArray)(ap:Int)(r:(List ay))(h:iX af aE ap=some r):aR Tryz.prog 74 [.v (vl aj af),.v (vs aE),.v (vi ap)] ⟨[.own 85 4 r.length (r.map aj)],[],false⟩:=by
 refine au Tryz.func74 rfl [(.tmp 6)] rfl (fun r=>⟨[.own 85 4 r.length (r.map aj)],[],false⟩) (r:=r) ?_
 unfold iX at h
 refine aJ ac [0,1,2] [] ?_
 refine aJ ac [0,1,2,7] [10] ?_
 refine ae ?_
 refine aJ ac [0,1,2,7,8] [10] ?_
 refine aU h (fun j1=>⟨54,[(7,.own 7)],[(7,oa 85 4 aj j1)]⟩) (fun v2 h=> ?_) (fun j1 h=> ?_)
 refine ax (a:=v2) ?_
 refine bc (r:=v2) (s:=(0,([]:List ay))) _ (fun s3=>⟨54,[(0,vl aj af),(1,vs aE),(2,vi ap),(7,.own 7),(8,vi s3.1)],[(7,oa 85 4 aj s3.2)]⟩) _ (Le.rr [10] [(10,7)]) h (fun s3 v4 h=> ?_)
 refine ae ?_
 refine aJ ac [0,1,2,7,8,14] [7] ?_
 refine aq h (fun h=> ?_) fun h=> ?_
 refine ai ?_
 refine bq ?_
 refine ae ?_
 refine aU h (fun j5=>⟨54,[(0,vl aj af),(1,vs aE),(2,vi ap),(7,.own 7),(8,vi s3.1)],[(7,oa 85 4 aj j5)]⟩) (fun v6 h=> ?_) (fun j5 h=> ?_)
 refine ax (a:=v6) ?_
 refine sr ?_
 refine aa.cl ac 2 [0,1,2,7,8,17,18] [7] ?_
 obtain⟨x7,hx7,h⟩:=bind_some h
 refine aa.ls (aY (L:=af) (f:=aj) (ti:=eo) (tj:=ew) (e:=85) (k:= .i64) ac rfl hx7) ?_
 refine bO ac 3 [0,1,2,7,8,9] [7,9] ?_
 refine ae ?_
 refine ae ?_
 refine c7 ⟨54,[(0,vl aj af),(1,vs aE),(2,vi ap),(7,.own 7),(8,vi s3.1),(9,.ref 9 0),(30,vb ((x7.Child.toList==aE.toList) || (x7.Parent.toList==aE.toList)))],[(7,oa 85 4 aj s3.2),(9,.box (tc aj x7))]⟩ ?_ ?_
 refine aa.ck ac 5 ⟨54,[(0,vl aj af),(1,vs aE),(2,vi ap),(7,.own 7),(8,vi s3.1),(9,.ref 9 0),(25,vb (x7.Child.toList==aE.toList))],[(7,oa 85 4 aj s3.2),(9,.box (tc aj x7))]⟩ ?_
 generalize (x7.Child.toList==aE.toList)=bb
 cases bb
 refine aa.cl ac 5 [0,1,2,7,8,9,30] [7,9] ?_
 exact aa.nil (Le.an)
 refine aa.cl ac 5 [0,1,2,7,8,9,30] [7,9] ?_
 exact aa.nil (Le.an)
 refine aU h (fun j8=>⟨54,[(0,vl aj af),(1,vs aE),(2,vi ap),(7,.own 7),(8,vi s3.1),(9,.ref 9 0)],[(7,oa 85 4 aj s3.2),(9,.box (tc aj j8))]⟩) (fun v9 h=> ?_) (fun j8 h=> ?_)
 refine aq h (fun h=> ?_) fun h=> ?_
 refine aD ?_
 refine aa.cl ac 9 [0,1,2,7,8,9,33,39] [7,9] ?_
 refine aa.ls (aZ (v:= .agg [vi x7.Years.From,vi (bM x7.Years.To (bF (ap - 1)))]) ac rfl) ?_
 refine aa.cl ac 2 [0,1,2,7,8,9] [7,9] ?_
 refine aa.nil ?_
 obtain rfl:=inj h
 exact cI (Le.an)
 refine ai ?_
 obtain rfl:=inj h
 exact cI (Le.an)
 refine aJ ac [0,1,2,7,8,9,48] [7,9] ?_
 refine aq h (fun h=> ?_) fun h=> ?_
 refine aD ?_
 refine aa.cl ac 3 [0,1,2,8,49,51] [7,51] ?_
 obtain⟨x10,hx10,h⟩:=bind_some h
 refine aa.a7 (bh (f:=aj) (t:=33) (ti:=eo) (tj:=ew) (zs:=[.string (ByteArray.mk #[]),.string (ByteArray.mk #[]),.int .i64 0,.int .i64 0]) (e:=85) (m:=4) (d:=7) (xv:= .own 51) hx10 ac rfl rfl rfl rfl (bT (e:=85))) ?_
 refine aa.cl ac 1 [0,1,2,7,8] [52] ?_
 refine aa.nil ?_
 obtain rfl:=inj h
 exact bt (cI (Le.rr [52] [(52,7)]))
 refine ai ?_
 obtain rfl:=inj h
 exact bt (cI (Le.an))
 refine aD ?_
 refine aa.cl ac 3 [0,1,2,7,8] [7] ?_
 refine aa.nil ?_
 obtain rfl:=inj h
 exact cn (Le.an)
 refine a6 ?_
 obtain rfl:=inj h
 exact cE (cG (cF (cI (Le.an))))
 refine aJ ac [6] [7] ?_
 refine ah ?_
 obtain rfl:=inj h
 exact aO (f1 (fo dj))
theorem Er:bg Tryz.prog 74:=az Tryz.func74 (by kernel_rfl) rfl
noncomputable def cz(aW:World)(aC:Change):Option (World×Int):=
 ((jE aW aC).bind fun x1=>(bif(x1 !=0)then some (aW,x1)else(((bif(aC.Kind==0)then((gS aW aC).bind fun x4=>some (.inr (x4.1,x4.2)))else(bif(aC.Kind==2)then((eW aW aC.Code aC.Other aC.Year).bind fun x5=>((er aW x5).bind fun x6=>some (.inr (x6.1,x6.2))))else some (.inl (World.mk ([]:List Place) ([]:List ay)))))).bind (Sum.elim (fun(j2:World)=>(((bif(aC.Kind==3)then((gl aW.Links aC.Code aC.Year).bind fun x9=>(dt (x9.1.length:Int) (fun(i10:Int) (s10:World×World)=>((at' x9.1 i10).bind fun x14=>(bif(x14.toList==aC.Other.toList)then some (.inr (.inr (aW,5)))else((at' x9.1 i10).bind fun x15=>((eW s10.2 x15 aC.Other aC.Year).bind fun x16=>((er s10.2 x16).bind fun x17=>(bif(x17.2 !=0)then some (.inr (.inr (aW,x17.2)))else some (.inl (s10.1,x17.1))))))))) (fun(s10:World×World)=>(.inl (s10.1,s10.2))) 0 (j2,aW)))else some (.inl (j2,aW)))).bind (Sum.elim (fun(j7:World×World)=>((gu j7.2.Places aC.Code aC.Year).bind fun x18=>((iX j7.2.Links aC.Code aC.Year).bind fun x19=>some ((World.mk x18.1 x19),0)))) some))) some))))
theorem jD(aW:World)(aC:Change)(r:World×Int)(h:cz aW aC=some r):aR Tryz.prog 33 [.v (.agg (tc aQ aW)),.v (.agg (tc aF aC))] ⟨[.v (.agg (tc aQ r.1)),.v (vi r.2)],[],true⟩:=by
 refine au Tryz.func33 rfl [(.cell 4 35),(.tmp 5)] rfl (fun r=>⟨[.v (.agg (tc aQ r.1)),.v (vi r.2)],[],true⟩) (r:=r) ?_
 unfold cz at h
 refine aJ ac [2,3,4] [2,3,4] ?_
 refine sr ?_
 refine aa.cl ac 2 [2,3,4,15,16] [2,3,4] ?_
 obtain⟨x1,hx1,h⟩:=bind_some h
 refine aa.ls (xc Em (qw aW aC _ hx1)) ?_
 refine bO ac 1 [2,3,4,6] [2,3,4] ?_
 refine ae ?_
 refine aJ ac [2,3,4,6,19] [2,3,4] ?_
 refine aq h (fun h=> ?_) fun h=> ?_
 refine aJ ac [4,5] [4] ?_
 refine ah ?_
 obtain rfl:=inj h
 exact cY (aO (f2 (kq rfl (cA ac (d:=4) (cs:=[vl ad aW.Places,vl aj aW.Links]) (ti:=iE) (by kernel_rfl) (by kernel_rfl) (by kernel_rfl) (by kernel_rfl))) ft))
 refine ai ?_
 refine bq ?_
 refine ae ?_
 refine aJ ac [2,3,4,23] [2,3,4] ?_
 refine bp (r:=r) h (fun j2=>⟨112,[(2,.ref 2 0),(3,.ref 3 0),(4,.ref 4 0)],[(2,.box (tc aQ aW)),(3,.box (tc aF aC)),(4,.box (tc aQ j2))]⟩) (fun v3 h=> ?_) (fun j2 h=> ?_)
 refine ax (a:=v3) ?_
 refine aJ ac [2,3,4,23,24] [2,3,4] ?_
 refine aq h (fun h=> ?_) fun h=> ?_
 refine sr ?_
 refine aa.cl ac 2 [4,26,27] [4] ?_
 obtain⟨x4,hx4,h⟩:=bind_some h
 refine aa.ls (xc En (oU aW aC _ hx4)) ?_
 refine bO ac 4 [4,5] [4] ?_
 refine ah ?_
 obtain rfl:=inj h
 exact bE (bo (aO (f2 (kq rfl (cA ac (d:=4) (cs:=[vl ad x4.1.Places,vl aj x4.1.Links]) (ti:=iE) (by kernel_rfl) (by kernel_rfl) (by kernel_rfl) (by kernel_rfl))) ft)))
 refine aJ ac [2,3,4,31] [2,3,4] ?_
 refine aq h (fun h=> ?_) fun h=> ?_
 refine ae ?_
 refine cV mixed ?_
 refine aH.cl ac false 8 [4,33,34,36,38,40] [4] ?_
 obtain⟨x5,hx5,h⟩:=bind_some h
 refine aH.step (xc AG (ml aW aC.Code aC.Other aC.Year _ hx5)) ?_
 obtain⟨x6,hx6,h⟩:=bind_some h
 refine aH.step (xc AF (lI aW x5 _ hx6)) ?_
 refine aH.cl ac false 2 [4,43,44] [4] ?_
 refine aH.seq (by kernel_rfl) (by kernel_rfl) ?_
 refine bO ac 2 [4,5] [4] ?_
 refine ah ?_
 obtain rfl:=inj h
 exact bE (bo (aO (f2 (kq rfl (cA ac (d:=4) (cs:=[vl ad x6.1.Places,vl aj x6.1.Links]) (ti:=iE) (by kernel_rfl) (by kernel_rfl) (by kernel_rfl) (by kernel_rfl))) ft)))
 refine ai ?_
 obtain rfl:=inj h
 exact bt (cn (Le.an))
 refine aJ ac [2,3,4,7] [2,3,4,7] ?_
 refine ae ?_
 refine kM ac ⟨112,[(2,.ref 2 0),(3,.ref 3 0),(4,.ref 4 0),(7,.ref 7 0),(48,vb (aC.Kind==3))],[(2,.box (tc aQ aW)),(3,.box (tc aF aC)),(4,.box (tc aQ j2)),(7,.box (tc aQ aW))]⟩ ?_
 refine bp (r:=r) h (fun j7=>⟨112,[(3,.ref 3 0),(4,.ref 4 0),(7,.ref 7 0)],[(3,.box (tc aF aC)),(4,.box (tc aQ j7.1)),(7,.box (tc aQ j7.2))]⟩) (fun v8 h=> ?_) (fun j7 h=> ?_)
 refine aq h (fun h=> ?_) fun h=> ?_
 refine sr ?_
 refine aa.cl ac 6 [2,3,4,7,51,53,55] [2,3,4,7] ?_
 obtain⟨x9,hx9,h⟩:=bind_some h
 refine aa.ls (xc Eo (oi aW.Links aC.Code aC.Year _ hx9)) ?_
 refine bO ac 5 [2,3,4,7,8] [2,3,4,7,56] ?_
 refine aJ ac [2,3,4,7,8,10] [2,3,4,7,56] ?_
 refine ax (a:=v8) ?_
 refine bc (r:=v8) (s:=(0,j2,aW)) _ (fun s10=>⟨112,[(2,.ref 2 0),(3,.ref 3 0),(4,.ref 4 0),(7,.ref 7 0),(8,.own 8),(10,vi s10.1)],[(2,.box (tc aQ aW)),(3,.box (tc aF aC)),(4,.box (tc aQ s10.2.1)),(7,.box (tc aQ s10.2.2)),(8,oa 9 1 eS x9.1)]⟩) _ (Le.rr [2,3,4,7,56] [(56,8)]) h (fun s10 v11 h=> ?_)
 refine ae ?_
 refine aJ ac [2,3,4,7,8,10,62] [2,3,4,7,8] ?_
 refine aq h (fun h=> ?_) fun h=> ?_
 refine ai ?_
 refine bq ?_
 refine ae ?_
 refine bD (r:=v11) h (fun j12=>⟨112,[(2,.ref 2 0),(3,.ref 3 0),(4,.ref 4 0),(7,.ref 7 0),(8,.own 8),(10,vi s10.1)],[(2,.box (tc aQ aW)),(3,.box (tc aF aC)),(4,.box (tc aQ j12.1)),(7,.box (tc aQ j12.2)),(8,oa 9 1 eS x9.1)]⟩) (fun v13 h=> ?_) (fun j12 h=> ?_)
 refine ax (a:=v13) ?_
 refine ae ?_
 refine ae ?_
 refine cV mixed ?_
 refine aH.cl ac false 2 [2,3,4,7,8,10,65,66] [2,3,4,7,8] ?_
 obtain⟨x14,hx14,h⟩:=bind_some h
 refine aH.step (bw (d:=8) (L:=x9.1) (f:=eS) (ti:=bU) (tj:=et) (e:=9) (e':=9) (m:=1) (k:= .i64) ac rfl hx14) ?_
 refine aH.step (bN (d:=8) (m:=1) (j:=0) (L:=x9.1) (f:=eS) (ti:=et) (e:=9) (v:=vs x14) ac rfl hx14) ?_
 refine aH.cl ac false 3 [2,3,4,7,8,10,71] [2,3,4,7,8] ?_
 refine aH.nx ?_
 refine aq h (fun h=> ?_) fun h=> ?_
 refine aJ ac [4,5] [4] ?_
 refine ah ?_
 obtain rfl:=inj h
 exact cY (bE (bo (bo (bE (bo (aO (f2 (kq rfl (cA ac (d:=4) (cs:=[vl ad aW.Places,vl aj aW.Links]) (ti:=iE) (by kernel_rfl) (by kernel_rfl) (by kernel_rfl) (by kernel_rfl))) ft)))))))
 refine ai ?_
 refine bq ?_
 refine ae ?_
 refine cV mixed ?_
 refine aH.cl ac false 4 [2,3,4,7,8,10,74,75,76,77] [2,3,4,7,8] ?_
 obtain⟨x15,hx15,h⟩:=bind_some h
 refine aH.step (bw (d:=8) (L:=x9.1) (f:=eS) (ti:=bU) (tj:=et) (e:=9) (e':=9) (m:=1) (k:= .i64) ac rfl hx15) ?_
 refine aH.step (bN (d:=8) (m:=1) (j:=0) (L:=x9.1) (f:=eS) (ti:=et) (e:=9) (v:=vs x15) ac rfl hx15) ?_
 refine aH.cl ac false 4 [2,3,4,7,8,10,74,75,79,81,83] [2,3,4,7,8] ?_
 obtain⟨x16,hx16,h⟩:=bind_some h
 refine aH.step (xc AG (ml s10.2.2 x15 aC.Other aC.Year _ hx16)) ?_
 obtain⟨x17,hx17,h⟩:=bind_some h
 refine aH.step (xc AF (lI s10.2.2 x16 _ hx17)) ?_
 refine aH.cl ac false 4 [2,3,4,7,8,10,11,86,87] [2,3,4,7,8,11] ?_
 refine aH.vh [11] (pT (d:=11) (k:=0) (ti:=iE) (cs:=[vl ad ([]:List Place),vl aj ([]:List ay)]) (vs:=[vl ad x17.1.Places,vl aj x17.1.Links]) (v:= .agg (tc aQ x17.1)) ac rfl rfl) ?_
 refine aH.cl ac false 1 [2,3,4,7,8,10,11,12] [2,3,4,7,8,11] ?_
 refine aH.nx ?_
 refine ae ?_
 refine aJ ac [2,3,4,7,8,10,11,12,89] [2,3,4,7,8,11] ?_
 refine aq h (fun h=> ?_) fun h=> ?_
 refine kM ac ⟨112,[(4,.ref 4 0),(5,vi x17.2)],[(4,.box (tc aQ aW))]⟩ ?_
 refine ah ?_
 obtain rfl:=inj h
 exact cY (bE (bo (bo (bE (bo (aO (f2 (kq rfl (cA ac (d:=4) (cs:=[vl ad aW.Places,vl aj aW.Links]) (ti:=iE) (by kernel_rfl) (by kernel_rfl) (by kernel_rfl) (by kernel_rfl))) ft)))))))
 refine ai ?_
 refine bq ?_
 refine aD ?_
 refine aa.cl ac 2 [2,3,4,7,8,10] [2,3,4,7,8] ?_
 refine aa.nil ?_
 obtain rfl:=inj h
 exact bt (cn (Le.an))
 refine aD ?_
 refine aa.cl ac 3 [2,3,4,7,8,10] [2,3,4,7,8] ?_
 refine aa.nil ?_
 obtain rfl:=inj h
 exact cn (Le.an)
 refine a6 ?_
 obtain rfl:=inj h
 exact cE (cG (cF (cn (Le.an))))
 refine ai ?_
 obtain rfl:=inj h
 exact cn (Le.an)
 refine sr ?_
 refine aa.cl ac 6 [3,4,7,95,97,99] [3,4,7] ?_
 obtain⟨x18,hx18,h⟩:=bind_some h
 refine aa.ls (xc Ep (pE j7.2.Places aC.Code aC.Year _ hx18)) ?_
 refine bO ac 5 [3,4,7,13] [3,4,7,100] ?_
 refine sr ?_
 refine aa.cl ac 7 [4,103,105,107,109] [4,100] ?_
 obtain⟨x19,hx19,h⟩:=bind_some h
 refine aa.ls (xc Er (rl j7.2.Links aC.Code aC.Year _ hx19)) ?_
 refine aa.ls (aZ (v:= .agg [.own 100,.own 110]) ac rfl) ?_
 refine bO ac 2 [4,5] [4,100,110] ?_
 refine cH (Le.DJ (d:=100) (e:=91) (m:=5) (n:=x18.1.length) (ss:=[.flat,.flat,.flat,.flat,(.sl 169 5 [.flat,.flat,.flat,.flat,.flat])]) (es:=x18.1.map ad) (by kernel_rfl) (by kernel_rfl)) ?_
 refine cH (Le.l3 (d:=110) (e:=85) (m:=4) (n:=x19.length) (es:=x19.map aj) (by kernel_rfl) (by kernel_rfl)) ?_
 refine ah ?_
 obtain rfl:=inj h
 exact aO (f2 (kq rfl (cA ac (d:=4) (cs:=[vl ad x18.1,vl aj x19]) (ti:=iE) (by kernel_rfl) (by kernel_rfl) (by kernel_rfl) (by kernel_rfl))) ft)
theorem w8:bg Tryz.prog 33:=az Tryz.func33 (by kernel_rfl) rfl
noncomputable def iz(aW:World)(aC:Change):Option (Bool×Int):=
 ((cz aW aC).bind fun x1=>(bif(x1.2==1)then some (false,x1.2)else some ((x1.2==0),0)))
theorem pD(aW:World)(aC:Change)(r:Bool×Int)(h:iz aW aC=some r):aR Tryz.prog 9 [.v (.agg (tc aQ aW)),.v (.agg (tc aF aC))] ⟨[.v (vb r.1),.v (vi r.2)],[],false⟩:=by
 refine au Tryz.func9 rfl [(.tmp 4),(.tmp 5)] rfl (fun r=>⟨[.v (vb r.1),.v (vi r.2)],[],false⟩) (r:=r) ?_
 unfold iz at h
 refine aJ ac [2,3] [2,3] ?_
 refine sr ?_
 refine aa.cl ac 2 [9,10] [] ?_
 obtain⟨x1,hx1,h⟩:=bind_some h
 refine aa.ls (xc w8 (jD aW aC _ hx1)) ?_
 refine bO ac 6 [7] [] ?_
 refine ae ?_
 refine aJ ac [7,15] [] ?_
 refine aq h (fun h=> ?_) fun h=> ?_
 refine aJ ac [4,5] [] ?_
 refine ah ?_
 obtain rfl:=inj h
 exact cY (aO (f2 fv fv))
 refine ai ?_
 refine bq ?_
 refine aJ ac [4,5] [] ?_
 refine ah ?_
 obtain rfl:=inj h
 exact aO (f2 fv fv)
theorem E7:bg Tryz.prog 9:=az Tryz.func9 (by kernel_rfl) rfl
noncomputable def dO(aX:Int)(ik:Int)(ey:Int):Option (Bool):=
 some ((decide (aX≥ik))&&(decide (aX≤ey)))
theorem du(aX:Int)(ik:Int)(ey:Int)(r:Bool)(h:dO aX ik ey=some r):aR Tryz.prog 77 [.v (vi aX),.v (vi ik),.v (vi ey)] ⟨[.v (vb r)],[],false⟩:=by
 refine au Tryz.func77 rfl [(.tmp 6)] rfl (fun r=>⟨[.v (vb r)],[],false⟩) (r:=r) ?_
 unfold dO at h
 refine aJ ac [0,1,2] [] ?_
 refine ae ?_
 refine c7 ⟨15,[(6,vb ((decide (aX≥ik))&&(decide (aX≤ey))))],[]⟩ ?_ ?_
 refine aa.ck ac 4 ⟨15,[(0,vi aX),(2,vi ey),(10,vb (decide (aX≥ik)))],[]⟩ ?_
 generalize (decide (aX≥ik))=bb
 cases bb
 refine aa.cl ac 5 [6] [] ?_
 exact aa.nil (Le.an)
 refine aa.cl ac 5 [6] [] ?_
 exact aa.nil (Le.an)
 refine ah ?_
 obtain rfl:=inj h
 exact aO (f1 fv)
theorem nf:bg Tryz.prog 77:=az Tryz.func77 (by kernel_rfl) rfl
theorem qA(s c r:ByteArray)(h:eX s c=some r):aR Tryz.prog 180 [.v (.tr (.str s)),.v (.tr (.str c))] ⟨[.v (.tr (.str r))],[],false⟩:=BH Tryz.De (by kernel_rfl) 180 rfl s c r h
theorem CK:bg Tryz.prog 180:=az Tryz.func180 (by kernel_rfl) rfl
noncomputable def gY(aS:ByteArray)(rP:Int)(vt:Int):Option (Bool):=
 ((((dO (aS.size:Int) rP vt).bind fun x1=>(bif x1 then((eX aS (ByteArray.mk #[97,98,99,100,101,102,103,104,105,106,107,108,109,110,111,112,113,114,115,116,117,118,119,120,121,122])).bind fun x2=>some (x2.toList==(ByteArray.mk #[]).toList))else some false))).bind fun(j3:Bool)=>some j3)
theorem l6(aS:ByteArray)(rP:Int)(vt:Int)(r:Bool)(h:gY aS rP vt=some r):aR Tryz.prog 135 [.v (vs aS),.v (vi rP),.v (vi vt)] ⟨[.v (vb r)],[],false⟩:=by
 refine au Tryz.func135 rfl [(.tmp 6)] rfl (fun r=>⟨[.v (vb r)],[],false⟩) (r:=r) ?_
 unfold gY at h
 refine aJ ac [0,1,2] [] ?_
 refine ae ?_
 refine bn h (fun j3=>⟨17,[(6,vb j3)],[]⟩) (fun v4 h=> ?_) (fun j3 h=> ?_)
 refine aa.cl ac 4 [0,8,9,10] [] ?_
 obtain⟨x1,hx1,h⟩:=bind_some h
 refine aa.ls (xc nf (du (aS.size:Int) rP vt _ hx1)) ?_
 refine aa.cl ac 1 [0,12] [] ?_
 refine aa.cu [(12,fun b=>b)] h (fun h=> ?_) fun h=> ?_
 refine aa.cl ac 1 [12,13] [] ?_
 obtain⟨x2,hx2,h⟩:=bind_some h
 refine aa.ls (xc CK (qA aS (ByteArray.mk #[97,98,99,100,101,102,103,104,105,106,107,108,109,110,111,112,113,114,115,116,117,118,119,120,121,122]) _ hx2)) ?_
 refine aa.cl ac 3 [6] [] ?_
 refine aa.nil ?_
 obtain rfl:=inj h
 exact Le.an
 refine aa.cl ac 5 [6] [] ?_
 refine aa.nil ?_
 obtain rfl:=inj h
 exact Le.an
 refine ah ?_
 obtain rfl:=inj h
 exact aO (f1 fv)
theorem ye:bg Tryz.prog 135:=az Tryz.func135 (by kernel_rfl) rfl
noncomputable def fL(aS:ByteArray):Option (Bool):=
 ((gY aS 1 16).bind fun x1=>some x1)
theorem iI(aS:ByteArray)(r:Bool)(h:fL aS=some r):aR Tryz.prog 78 [.v (vs aS)] ⟨[.v (vb r)],[],false⟩:=by
 refine au Tryz.func78 rfl [(.tmp 2)] rfl (fun r=>⟨[.v (vb r)],[],false⟩) (r:=r) ?_
 unfold fL at h
 refine kM ac ⟨5,[(0,vs aS)],[]⟩ ?_
 refine sr ?_
 refine aa.ck ac 1 ⟨5,[(3,vs aS)],[]⟩ ?_
 obtain⟨x1,hx1,h⟩:=bind_some h
 refine aa.ls (xc ye (l6 aS 1 16 _ hx1)) ?_
 refine ckn ac 1 ⟨5,[(2,vb x1)],[]⟩ ?_
 refine ah ?_
 obtain rfl:=inj h
 exact aO (f1 fv)
theorem uA:bg Tryz.prog 78:=az Tryz.func78 (by kernel_rfl) rfl
noncomputable def eQ(ap:Int):Option (Bool):=
 ((dO ap (-3000) 3000).bind fun x1=>some x1)
theorem iL(ap:Int)(r:Bool)(h:eQ ap=some r):aR Tryz.prog 193 [.v (vi ap)] ⟨[.v (vb r)],[],false⟩:=by
 refine au Tryz.func193 rfl [(.tmp 2)] rfl (fun r=>⟨[.v (vb r)],[],false⟩) (r:=r) ?_
 unfold eQ at h
 refine aJ ac [0] [] ?_
 refine sr ?_
 refine aa.cl ac 1 [3] [] ?_
 obtain⟨x1,hx1,h⟩:=bind_some h
 refine aa.ls (xc nf (du ap (-3000) 3000 _ hx1)) ?_
 refine ckn ac 1 ⟨5,[(2,vb x1)],[]⟩ ?_
 refine ah ?_
 obtain rfl:=inj h
 exact aO (f1 fv)
theorem ry:bg Tryz.prog 193:=az Tryz.func193 (by kernel_rfl) rfl
noncomputable def gG(aS:Span):Option (Bool):=
 ((((eQ aS.From).bind fun x1=>(bif x1 then((eQ aS.To).bind fun x2=>(bif x2 then some (decide (aS.From≤aS.To))else some false))else some false))).bind fun(j3:Bool)=>some j3)
theorem kt(aS:Span)(r:Bool)(h:gG aS=some r):aR Tryz.prog 156 [.v (.agg (tc ig aS))] ⟨[.v (vb r)],[],false⟩:=by
 refine au Tryz.func156 rfl [(.tmp 2)] rfl (fun r=>⟨[.v (vb r)],[],false⟩) (r:=r) ?_
 unfold gG at h
 refine aJ ac [1] [1] ?_
 refine ae ?_
 refine bn h (fun j3=>⟨18,[(2,vb j3)],[]⟩) (fun v4 h=> ?_) (fun j3 h=> ?_)
 refine aa.cl ac 2 [1,4] [1] ?_
 obtain⟨x1,hx1,h⟩:=bind_some h
 refine aa.ls (xc ry (iL aS.From _ hx1)) ?_
 refine aa.cl ac 1 [1,6] [1] ?_
 refine aa.cu [(6,fun b=>b)] h (fun h=> ?_) fun h=> ?_
 refine aa.cl ac 2 [1,6,8] [1] ?_
 obtain⟨x2,hx2,h⟩:=bind_some h
 refine aa.ls (xc ry (iL aS.To _ hx2)) ?_
 refine aa.cl ac 2 [1,11] [1] ?_
 refine aa.cu [(11,fun b=>b)] h (fun h=> ?_) fun h=> ?_
 refine aa.cl ac 7 [2] [] ?_
 refine aa.nil ?_
 obtain rfl:=inj h
 exact Le.an
 refine aa.cl ac 7 [2] [] ?_
 refine aa.nil ?_
 obtain rfl:=inj h
 exact Le.an
 refine aa.cl ac 12 [2] [] ?_
 refine aa.nil ?_
 obtain rfl:=inj h
 exact Le.an
 refine ah ?_
 obtain rfl:=inj h
 exact aO (f1 fv)
theorem uq:bg Tryz.prog 156:=az Tryz.func156 (by kernel_rfl) rfl
theorem pP(s c:ByteArray)(r:List ByteArray)(h:strings_Split s c=some r):aR Tryz.prog 181 [.v (.tr (.str s)),.v (.tr (.str c))] ⟨[.own 9 1 r.length (r.map eS)],[],false⟩:=zQ Tryz.Dd (by kernel_rfl) 181 9 rfl rfl s c r h
theorem CL:bg Tryz.prog 181:=az Tryz.func181 (by kernel_rfl) rfl
noncomputable def jk(aS:ByteArray):Option ((List ByteArray)):=
 ((strings_Split aS (ByteArray.mk #[32])).bind fun x1=>some x1)
theorem p9(aS:ByteArray)(r:(List ByteArray))(h:jk aS=some r):aR Tryz.prog 136 [.v (vs aS)] ⟨[.own 9 1 r.length (r.map eS)],[],false⟩:=by
 refine au Tryz.func136 rfl [(.tmp 2)] rfl (fun r=>⟨[.own 9 1 r.length (r.map eS)],[],false⟩) (r:=r) ?_
 unfold jk at h
 refine kM ac ⟨5,[(0,vs aS)],[]⟩ ?_
 refine sr ?_
 refine aa.ck ac 1 ⟨5,[(3,vs aS)],[]⟩ ?_
 obtain⟨x1,hx1,h⟩:=bind_some h
 refine aa.ls (xc CL (pP aS (ByteArray.mk #[32]) _ hx1)) ?_
 refine bO ac 1 [2] [4] ?_
 refine ah ?_
 obtain rfl:=inj h
 exact aO (f1 (fo fh))
theorem Cp:bg Tryz.prog 136:=az Tryz.func136 (by kernel_rfl) rfl
noncomputable def fb(af:(List ByteArray)):Option (Bool):=
 (((dt (af.length:Int) (fun(i3:Int) (_:Unit)=>((at' af i3).bind fun x7=>((fL x7).bind fun x8=>(bif(!x8)then some (.inr (.inr false))else some (.inl ()))))) (fun(_:Unit)=> .inl ()) 0 ())).bind (Sum.elim (fun(_:Unit)=>some true) some))
theorem jh(af:(List ByteArray))(r:Bool)(h:fb af=some r):aR Tryz.prog 137 [.v (vl eS af)] ⟨[.v (vb r)],[],false⟩:=by
 refine au Tryz.func137 rfl [(.tmp 2)] rfl (fun r=>⟨[.v (vb r)],[],false⟩) (r:=r) ?_
 unfold fb at h
 refine aJ ac [0] [] ?_
 refine ae ?_
 refine aJ ac [5,6,7] [] ?_
 refine bp (r:=r) h (fun j1=>⟨15,[],[]⟩) (fun v2 h=> ?_) (fun j1 h=> ?_)
 refine ax (a:=v2) ?_
 refine bc (r:=v2) (s:=(0,())) _ (fun s3=>⟨15,[(5,vl eS af),(6,vi (af.length:Int)),(7,vi s3.1)],[]⟩) _ (Le.an) h (fun s3 v4 h=> ?_)
 refine aJ ac [5,6,7,8] [] ?_
 refine ae ?_
 refine aq h (fun h=> ?_) fun h=> ?_
 refine ai ?_
 refine bq ?_
 refine ae ?_
 refine bD (r:=v4) h (fun j5=>⟨15,[(5,vl eS af),(6,vi (af.length:Int)),(7,vi s3.1)],[]⟩) (fun v6 h=> ?_) (fun j5 h=> ?_)
 refine ax (a:=v6) ?_
 refine sr ?_
 obtain⟨x7,hx7,h⟩:=bind_some h
 refine aa.ls (aY (L:=af) (f:=eS) (ti:=bU) (tj:=et) (e:=9) (k:= .i64) ac rfl hx7) ?_
 refine bO ac 2 [4,5,6,7] [] ?_
 refine sr ?_
 refine aa.cl ac 1 [5,6,7,11] [] ?_
 obtain⟨x8,hx8,h⟩:=bind_some h
 refine aa.ls (xc uA (iI x7 _ hx8)) ?_
 refine bO ac 1 [5,6,7,13] [] ?_
 refine aq h (fun h=> ?_) fun h=> ?_
 refine aJ ac [2] [] ?_
 refine ah ?_
 obtain rfl:=inj h
 exact bE (bo (bo (bE (bo (aO (f1 fv))))))
 refine ai ?_
 obtain rfl:=inj h
 exact bt (cn (Le.an))
 refine aD ?_
 refine aa.cl ac 2 [5,6,7] [] ?_
 refine aa.nil ?_
 obtain rfl:=inj h
 exact cn (Le.an)
 refine a6 ?_
 obtain rfl:=inj h
 exact cE (cG (cF (cn (Le.an))))
 refine aJ ac [2] [] ?_
 refine ah ?_
 obtain rfl:=inj h
 exact aO (f1 fv)
theorem um:bg Tryz.prog 137:=az Tryz.func137 (by kernel_rfl) rfl
noncomputable def fa(aS:ByteArray):Option (Bool):=
 ((jk aS).bind fun x1=>(((bif(decide ((x1.length:Int)≤8))then((fb x1).bind fun x2=>some x2)else some false)).bind fun(j3:Bool)=>some j3))
theorem jc(aS:ByteArray)(r:Bool)(h:fa aS=some r):aR Tryz.prog 81 [.v (vs aS)] ⟨[.v (vb r)],[],false⟩:=by
 refine au Tryz.func81 rfl [(.tmp 2)] rfl (fun r=>⟨[.v (vb r)],[],false⟩) (r:=r) ?_
 unfold fa at h
 refine aJ ac [0] [] ?_
 refine sr ?_
 refine aa.cl ac 1 [4] [] ?_
 obtain⟨x1,hx1,h⟩:=bind_some h
 refine aa.ls (xc Cp (p9 aS _ hx1)) ?_
 refine bO ac 1 [3] [5] ?_
 refine ae ?_
 refine bn h (fun j3=>⟨13,[(2,vb j3)],[]⟩) (fun v4 h=> ?_) (fun j3 h=> ?_)
 refine aa.cl ac 4 [3,9] [5] ?_
 refine aa.cu [(9,fun b=>b)] h (fun h=> ?_) fun h=> ?_
 refine aa.cl ac 1 [9,10] [5] ?_
 obtain⟨x2,hx2,h⟩:=bind_some h
 refine aa.ls (xc um (jh x1 _ hx2)) ?_
 refine aa.cl ac 2 [2] [] ?_
 refine aa.nil ?_
 obtain rfl:=inj h
 exact Le.an
 refine aa.cl ac 4 [2] [] ?_
 refine aa.nil ?_
 obtain rfl:=inj h
 exact Le.an
 refine ah ?_
 obtain rfl:=inj h
 exact aO (f1 fv)
theorem xg:bg Tryz.prog 81:=az Tryz.func81 (by kernel_rfl) rfl
noncomputable def dY(aS:ByteArray):Option (Bool):=
 ((gY aS 2 3).bind fun x1=>some x1)
theorem il(aS:ByteArray)(r:Bool)(h:dY aS=some r):aR Tryz.prog 80 [.v (vs aS)] ⟨[.v (vb r)],[],false⟩:=by
 refine au Tryz.func80 rfl [(.tmp 2)] rfl (fun r=>⟨[.v (vb r)],[],false⟩) (r:=r) ?_
 unfold dY at h
 refine kM ac ⟨5,[(0,vs aS)],[]⟩ ?_
 refine sr ?_
 refine aa.ck ac 1 ⟨5,[(3,vs aS)],[]⟩ ?_
 obtain⟨x1,hx1,h⟩:=bind_some h
 refine aa.ls (xc ye (l6 aS 2 3 _ hx1)) ?_
 refine ckn ac 1 ⟨5,[(2,vb x1)],[]⟩ ?_
 refine ah ?_
 obtain rfl:=inj h
 exact aO (f1 fv)
theorem xf:bg Tryz.prog 80:=az Tryz.func80 (by kernel_rfl) rfl
noncomputable def ka(aN:Name):Option (Bool):=
 ((((fa aN.Text).bind fun x1=>(bif x1 then((dY aN.Language).bind fun x2=>(bif x2 then((dO aN.Status 0 2).bind fun x3=>(bif x3 then((gG aN.Years).bind fun x4=>some x4)else some false))else some false))else some false))).bind fun(j5:Bool)=>some j5)
theorem qY(aN:Name)(r:Bool)(h:ka aN=some r):aR Tryz.prog 194 [.v (.agg (tc ao aN))] ⟨[.v (vb r)],[],false⟩:=by
 refine au Tryz.func194 rfl [(.tmp 2)] rfl (fun r=>⟨[.v (vb r)],[],false⟩) (r:=r) ?_
 unfold ka at h
 refine aJ ac [1] [1] ?_
 refine ae ?_
 refine bn h (fun j5=>⟨21,[(2,vb j5)],[]⟩) (fun v6 h=> ?_) (fun j5 h=> ?_)
 refine aa.cl ac 2 [1,4] [1] ?_
 obtain⟨x1,hx1,h⟩:=bind_some h
 refine aa.ls (xc xg (jc aN.Text _ hx1)) ?_
 refine aa.cl ac 1 [1,6] [1] ?_
 refine aa.cu [(6,fun b=>b)] h (fun h=> ?_) fun h=> ?_
 refine aa.cl ac 2 [1,6,8] [1] ?_
 obtain⟨x2,hx2,h⟩:=bind_some h
 refine aa.ls (xc xf (il aN.Language _ hx2)) ?_
 refine aa.cl ac 2 [1,11] [1] ?_
 refine aa.cu [(11,fun b=>b)] h (fun h=> ?_) fun h=> ?_
 refine aa.cl ac 2 [1,11,13] [1] ?_
 obtain⟨x3,hx3,h⟩:=bind_some h
 refine aa.ls (xc nf (du aN.Status 0 2 _ hx3)) ?_
 refine aa.cl ac 2 [1,16] [1] ?_
 refine aa.cu [(16,fun b=>b)] h (fun h=> ?_) fun h=> ?_
 refine aa.cl ac 2 [16,18] [] ?_
 obtain⟨x4,hx4,h⟩:=bind_some h
 refine aa.ls (xc uq (kt aN.Years _ hx4)) ?_
 refine aa.cl ac 2 [2] [] ?_
 refine aa.nil ?_
 obtain rfl:=inj h
 exact Le.an
 refine aa.ck ac 5 ⟨21,[(2,vb false)],[]⟩ ?_
 refine aa.nil ?_
 obtain rfl:=inj h
 exact Le.an
 refine aa.cl ac 10 [2] [] ?_
 refine aa.nil ?_
 obtain rfl:=inj h
 exact Le.an
 refine aa.cl ac 15 [2] [] ?_
 refine aa.nil ?_
 obtain rfl:=inj h
 exact Le.an
 refine ah ?_
 obtain rfl:=inj h
 exact aO (f1 fv)
theorem CS:bg Tryz.prog 194:=az Tryz.func194 (by kernel_rfl) rfl
noncomputable def dd(aN:Name)(bj:ByteArray):Option (Bool):=
 some ((aN.Status==0)&&(aN.Language.toList==bj.toList))
theorem iq(aN:Name)(bj:ByteArray)(r:Bool)(h:dd aN bj=some r):aR Tryz.prog 196 [.v (.agg (tc ao aN)),.v (vs bj)] ⟨[.v (vb r)],[],false⟩:=by
 refine au Tryz.func196 rfl [(.tmp 4)] rfl (fun r=>⟨[.v (vb r)],[],false⟩) (r:=r) ?_
 unfold dd at h
 refine aJ ac [1,2] [2] ?_
 refine ae ?_
 refine c7 ⟨14,[(4,vb ((aN.Status==0)&&(aN.Language.toList==bj.toList)))],[]⟩ ?_ ?_
 refine aa.ck ac 4 ⟨14,[(1,vs bj),(2,.ref 2 0),(8,vb (aN.Status==0))],[(2,.box (tc ao aN))]⟩ ?_
 generalize (aN.Status==0)=bb
 cases bb
 refine aa.cl ac 6 [4] [] ?_
 exact aa.nil (Le.an)
 refine aa.cl ac 6 [4] [] ?_
 exact aa.nil (Le.an)
 refine ah ?_
 obtain rfl:=inj h
 exact aO (f1 fv)
theorem yt:bg Tryz.prog 196:=az Tryz.func196 (by kernel_rfl) rfl
noncomputable def eJ(aS:Span)(aT:Span):Option (Bool):=
 some ((decide (aS.From≤aT.To))&&(decide (aT.From≤aS.To)))
theorem kA(aS:Span)(aT:Span)(r:Bool)(h:eJ aS aT=some r):aR Tryz.prog 107 [.v (.agg (tc ig aS)),.v (.agg (tc ig aT))] ⟨[.v (vb r)],[],false⟩:=by
 refine au Tryz.func107 rfl [(.tmp 4)] rfl (fun r=>⟨[.v (vb r)],[],false⟩) (r:=r) ?_
 unfold eJ at h
 refine aJ ac [2,3] [2,3] ?_
 refine ae ?_
 refine c7 ⟨17,[(4,vb ((decide (aS.From≤aT.To))&&(decide (aT.From≤aS.To))))],[]⟩ ?_ ?_
 refine aa.ck ac 6 ⟨17,[(2,.ref 2 0),(3,.ref 3 0),(10,vb (decide (aS.From≤aT.To)))],[(2,.box (tc ig aS)),(3,.box (tc ig aT))]⟩ ?_
 generalize (decide (aS.From≤aT.To))=bb
 cases bb
 refine aa.cl ac 7 [4] [] ?_
 exact aa.nil (Le.an)
 refine aa.cl ac 7 [4] [] ?_
 exact aa.nil (Le.an)
 refine ah ?_
 obtain rfl:=inj h
 exact aO (f1 fv)
theorem xU:bg Tryz.prog 107:=az Tryz.func107 (by kernel_rfl) rfl
noncomputable def iH(aM:Name)(c0:Name):Option (Bool):=
 ((((dd aM c0.Language).bind fun x1=>(bif x1 then((eJ aM.Years c0.Years).bind fun x2=>some x2)else some false))).bind fun(j3:Bool)=>some j3)
theorem n7(aM:Name)(c0:Name)(r:Bool)(h:iH aM c0=some r):aR Tryz.prog 195 [.v (.agg (tc ao aM)),.v (.ptr [vs c0.Text,vs c0.Language,vi c0.Status,vi c0.Years.From,vi c0.Years.To] 0)] ⟨[.v (vb r)],[],false⟩:=by
 refine au Tryz.func195 rfl [(.tmp 3)] rfl (fun r=>⟨[.v (vb r)],[],false⟩) (r:=r) ?_
 unfold iH at h
 refine aJ ac [1,2] [2] ?_
 refine ae ?_
 refine bn h (fun j3=>⟨15,[(3,vb j3)],[]⟩) (fun v4 h=> ?_) (fun j3 h=> ?_)
 refine aa.cl ac 3 [1,2,4,6] [2] ?_
 obtain⟨x1,hx1,h⟩:=bind_some h
 refine aa.ls (xc yt (iq aM c0.Language _ hx1)) ?_
 refine aa.cl ac 1 [1,2,8] [2] ?_
 refine aa.cu [(8,fun b=>b)] h (fun h=> ?_) fun h=> ?_
 refine aa.cl ac 4 [8,10,12] [] ?_
 obtain⟨x2,hx2,h⟩:=bind_some h
 refine aa.ls (xc xU (kA aM.Years c0.Years _ hx2)) ?_
 refine aa.cl ac 2 [3] [] ?_
 refine aa.nil ?_
 obtain rfl:=inj h
 exact Le.an
 refine aa.cl ac 7 [3] [] ?_
 refine aa.nil ?_
 obtain rfl:=inj h
 exact Le.an
 refine ah ?_
 obtain rfl:=inj h
 exact aO (f1 fv)
theorem CT:bg Tryz.prog 195:=az Tryz.func195 (by kernel_rfl) rfl
noncomputable def cm(aS:(List Name))(cW:Name):Option (Int):=
 (((dt (aS.length:Int) (fun(i3:Int) (_:Unit)=>((at' aS i3).bind fun x7=>((iH x7 cW).bind fun x8=>(bif x8 then some (.inr (.inr i3))else some (.inl ()))))) (fun(_:Unit)=> .inl ()) 0 ())).bind (Sum.elim (fun(_:Unit)=>some (-1)) some))
theorem gk(aS:(List Name))(cW:Name)(r:Int)(h:cm aS cW=some r):aR Tryz.prog 197 [.v (vl ao aS),.v (.clo 195 [.ptr [vs cW.Text,vs cW.Language,vi cW.Status,vi cW.Years.From,vi cW.Years.To] 0])] ⟨[.v (vi r)],[],false⟩:=by
 refine au Tryz.func197 rfl [(.tmp 4)] rfl (fun r=>⟨[.v (vi r)],[],false⟩) (r:=r) ?_
 unfold cm at h
 refine aJ ac [0,1] [] ?_
 refine ae ?_
 refine aJ ac [0,1,7,8] [] ?_
 refine bp (r:=r) h (fun j1=>⟨19,[],[]⟩) (fun v2 h=> ?_) (fun j1 h=> ?_)
 refine ax (a:=v2) ?_
 refine bc (r:=v2) (s:=(0,())) _ (fun s3=>⟨19,[(0,vl ao aS),(1,.clo 195 [.ptr [vs cW.Text,vs cW.Language,vi cW.Status,vi cW.Years.From,vi cW.Years.To] 0]),(7,vi (aS.length:Int)),(8,vi s3.1)],[]⟩) _ (Le.an) h (fun s3 v4 h=> ?_)
 refine aJ ac [0,1,7,8,9] [] ?_
 refine ae ?_
 refine aq h (fun h=> ?_) fun h=> ?_
 refine ai ?_
 refine bq ?_
 refine ae ?_
 refine bD (r:=v4) h (fun j5=>⟨19,[(0,vl ao aS),(1,.clo 195 [.ptr [vs cW.Text,vs cW.Language,vi cW.Status,vi cW.Years.From,vi cW.Years.To] 0]),(7,vi (aS.length:Int)),(8,vi s3.1)],[]⟩) (fun v6 h=> ?_) (fun j5 h=> ?_)
 refine ax (a:=v6) ?_
 refine aJ ac [0,1,5,7,8] [] ?_
 refine sr ?_
 refine aa.cl ac 3 [0,1,5,7,8,11,12,13] [] ?_
 obtain⟨x7,hx7,h⟩:=bind_some h
 refine aa.ls (aY (L:=aS) (f:=ao) (ti:=eb) (tj:=dg) (e:=169) (k:= .i64) ac rfl hx7) ?_
 refine aa.cl ac 1 [0,1,5,7,8,11,15] [] ?_
 obtain⟨x8,hx8,h⟩:=bind_some h
 refine aa.ls (xc CT (n7 x7 cW _ hx8)) ?_
 refine aa.nx ?_
 refine aq h (fun h=> ?_) fun h=> ?_
 refine aJ ac [4] [] ?_
 refine ah ?_
 obtain rfl:=inj h
 exact bE (bo (bo (bE (bo (aO (f1 fv))))))
 refine ai ?_
 obtain rfl:=inj h
 exact bt (cn (Le.an))
 refine aD ?_
 refine aa.cl ac 2 [0,1,7,8] [] ?_
 refine aa.nil ?_
 obtain rfl:=inj h
 exact cn (Le.an)
 refine a6 ?_
 obtain rfl:=inj h
 exact cE (cG (cF (cn (Le.an))))
 refine aJ ac [4] [] ?_
 refine ah ?_
 obtain rfl:=inj h
 exact aO (f1 fv)
theorem uy:bg Tryz.prog 197:=az Tryz.func197 (by kernel_rfl) rfl
noncomputable def bY(aS:(List Name))(cW:Name):Option (Bool):=
 ((cm aS cW).bind fun x1=>some (decide (x1≥0)))
theorem fA(aS:(List Name))(cW:Name)(r:Bool)(h:bY aS cW=some r):aR Tryz.prog 158 [.v (vl ao aS),.v (.clo 195 [.ptr [vs cW.Text,vs cW.Language,vi cW.Status,vi cW.Years.From,vi cW.Years.To] 0])] ⟨[.v (vb r)],[],false⟩:=by
 refine au Tryz.func158 rfl [(.tmp 4)] rfl (fun r=>⟨[.v (vb r)],[],false⟩) (r:=r) ?_
 unfold bY at h
 refine aJ ac [0,1] [] ?_
 refine sr ?_
 refine aa.cl ac 2 [5,6] [] ?_
 obtain⟨x1,hx1,h⟩:=bind_some h
 refine aa.ls (xc uy (gk aS cW _ hx1)) ?_
 refine bO ac 2 [4] [] ?_
 refine ah ?_
 obtain rfl:=inj h
 exact aO (f1 fv)
theorem yl:bg Tryz.prog 158:=az Tryz.func158 (by kernel_rfl) rfl
noncomputable def gp(af:(List Name)):Option (Bool):=
 (((dt (af.length:Int) (fun(i3:Int) (_:Unit)=>((at' af i3).bind fun x7=>((ka x7).bind fun x8=>(bif(!x8)then some (.inr (.inr false))else((mW af 0 i3).bind fun x9=>((bY x9 x7).bind fun x10=>(bif((x7.Status==0)&&x10)then some (.inr (.inr false))else some (.inl ())))))))) (fun(_:Unit)=> .inl ()) 0 ())).bind (Sum.elim (fun(_:Unit)=>some (decide ((af.length:Int)≤12))) some))
theorem lA(af:(List Name))(r:Bool)(h:gp af=some r):aR Tryz.prog 157 [.v (vl ao af)] ⟨[.v (vb r)],[],false⟩:=by
 refine au Tryz.func157 rfl [(.tmp 2)] rfl (fun r=>⟨[.v (vb r)],[],false⟩) (r:=r) ?_
 unfold gp at h
 refine aJ ac [0] [] ?_
 refine ae ?_
 refine aJ ac [0,6,7,8] [] ?_
 refine bp (r:=r) h (fun j1=>⟨31,[(0,vl ao af)],[]⟩) (fun v2 h=> ?_) (fun j1 h=> ?_)
 refine ax (a:=v2) ?_
 refine bc (r:=v2) (s:=(0,())) _ (fun s3=>⟨31,[(0,vl ao af),(6,vl ao af),(7,vi (af.length:Int)),(8,vi s3.1)],[]⟩) _ (Le.an) h (fun s3 v4 h=> ?_)
 refine aJ ac [0,6,7,8,9] [] ?_
 refine ae ?_
 refine aq h (fun h=> ?_) fun h=> ?_
 refine ai ?_
 refine bq ?_
 refine ae ?_
 refine bD (r:=v4) h (fun j5=>⟨31,[(0,vl ao af),(6,vl ao af),(7,vi (af.length:Int)),(8,vi s3.1)],[]⟩) (fun v6 h=> ?_) (fun j5 h=> ?_)
 refine ax (a:=v6) ?_
 refine sr ?_
 refine aa.cl ac 1 [0,6,7,8,10] [] ?_
 obtain⟨x7,hx7,h⟩:=bind_some h
 refine aa.ls (aY (L:=af) (f:=ao) (ti:=eb) (tj:=dg) (e:=169) (k:= .i64) ac rfl hx7) ?_
 refine bO ac 4 [0,3,4,6,7,8] [4] ?_
 refine ae ?_
 refine sr ?_
 refine aa.cl ac 1 [0,3,4,6,7,8,13] [4] ?_
 obtain⟨x8,hx8,h⟩:=bind_some h
 refine aa.ls (xc CS (qY x7 _ hx8)) ?_
 refine bO ac 1 [0,3,4,6,7,8,15] [4] ?_
 refine aq h (fun h=> ?_) fun h=> ?_
 refine aJ ac [2] [] ?_
 refine ah ?_
 obtain rfl:=inj h
 exact cY (bE (bo (bo (bE (bo (aO (f1 fv)))))))
 refine ai ?_
 refine bq ?_
 refine sr ?_
 refine aa.cl ac 2 [0,4,6,7,8,16,17] [4] ?_
 obtain⟨x9,hx9,h⟩:=bind_some h
 refine aa.ls (bC (m:=5) (f:=ao) (ti:=eb) (tj:=dg) (e:=169) hx9 (fun _=>rfl) ac rfl) ?_
 refine aa.cl ac 1 [0,4,6,7,8,18,19] [4] ?_
 obtain⟨x10,hx10,h⟩:=bind_some h
 refine aa.ls (xc yl (fA x9 x7 _ hx10)) ?_
 refine bO ac 1 [0,4,5,6,7,8] [4] ?_
 refine ae ?_
 refine c7 ⟨31,[(0,vl ao af),(6,vl ao af),(7,vi (af.length:Int)),(8,vi s3.1),(26,vb ((x7.Status==0)&&x10))],[]⟩ ?_ ?_
 refine aa.ck ac 4 ⟨31,[(0,vl ao af),(5,vb x10),(6,vl ao af),(7,vi (af.length:Int)),(8,vi s3.1),(24,vb (x7.Status==0))],[]⟩ ?_
 generalize (x7.Status==0)=bb
 cases bb
 refine aa.cl ac 2 [0,6,7,8,26] [] ?_
 exact aa.nil (Le.an)
 refine aa.cl ac 2 [0,6,7,8,26] [] ?_
 exact aa.nil (Le.an)
 refine aq h (fun h=> ?_) fun h=> ?_
 refine aJ ac [2] [] ?_
 refine ah ?_
 obtain rfl:=inj h
 exact bE (bo (bo (bE (bo (aO (f1 fv))))))
 refine ai ?_
 obtain rfl:=inj h
 exact bt (cn (Le.an))
 refine aD ?_
 refine aa.cl ac 2 [0,6,7,8] [] ?_
 refine aa.nil ?_
 obtain rfl:=inj h
 exact cn (Le.an)
 refine a6 ?_
 obtain rfl:=inj h
 exact cE (cG (cF (cn (Le.an))))
 refine aJ ac [2] [] ?_
 refine ah ?_
 obtain rfl:=inj h
 exact aO (f1 fv)
theorem yk:bg Tryz.prog 157:=az Tryz.func157 (by kernel_rfl) rfl
noncomputable def fq(aS:Span)(aT:Span):Option (Bool):=
 some ((decide (aT.From≤aS.From))&&(decide (aS.To≤aT.To)))
theorem k7(aS:Span)(aT:Span)(r:Bool)(h:fq aS aT=some r):aR Tryz.prog 111 [.v (.agg (tc ig aS)),.v (.agg (tc ig aT))] ⟨[.v (vb r)],[],false⟩:=by
 refine au Tryz.func111 rfl [(.tmp 4)] rfl (fun r=>⟨[.v (vb r)],[],false⟩) (r:=r) ?_
 unfold fq at h
 refine aJ ac [2,3] [2,3] ?_
 refine ae ?_
 refine c7 ⟨17,[(4,vb ((decide (aT.From≤aS.From))&&(decide (aS.To≤aT.To))))],[]⟩ ?_ ?_
 refine aa.ck ac 6 ⟨17,[(2,.ref 2 0),(3,.ref 3 0),(10,vb (decide (aT.From≤aS.From)))],[(2,.box (tc ig aS)),(3,.box (tc ig aT))]⟩ ?_
 generalize (decide (aT.From≤aS.From))=bb
 cases bb
 refine aa.cl ac 7 [4] [] ?_
 exact aa.nil (Le.an)
 refine aa.cl ac 7 [4] [] ?_
 exact aa.nil (Le.an)
 refine ah ?_
 obtain rfl:=inj h
 exact aO (f1 fv)
theorem xV:bg Tryz.prog 111:=az Tryz.func111 (by kernel_rfl) rfl
noncomputable def je(aN:Name)(c0:Place):Option (Bool):=
 ((fq aN.Years c0.Years).bind fun x1=>some (!x1))
theorem oG(aN:Name)(c0:Place)(r:Bool)(h:je aN c0=some r):aR Tryz.prog 159 [.v (.agg (tc ao aN)),.v (.ptr [vs c0.Code,vi c0.Class,vi c0.Years.From,vi c0.Years.To,vl ao c0.Names] 0)] ⟨[.v (vb r)],[],false⟩:=by
 refine au Tryz.func159 rfl [(.tmp 3)] rfl (fun r=>⟨[.v (vb r)],[],false⟩) (r:=r) ?_
 unfold je at h
 refine aJ ac [1,2] [2] ?_
 refine sr ?_
 refine aa.cl ac 4 [5,7] [] ?_
 obtain⟨x1,hx1,h⟩:=bind_some h
 refine aa.ls (xc xV (k7 aN.Years c0.Years _ hx1)) ?_
 refine bO ac 2 [3] [] ?_
 refine ah ?_
 obtain rfl:=inj h
 exact aO (f1 fv)
theorem CB:bg Tryz.prog 159:=az Tryz.func159 (by kernel_rfl) rfl
noncomputable def cr(aS:(List Name))(cW:Place):Option (Int):=
 (((dt (aS.length:Int) (fun(i3:Int) (_:Unit)=>((at' aS i3).bind fun x7=>((je x7 cW).bind fun x8=>(bif x8 then some (.inr (.inr i3))else some (.inl ()))))) (fun(_:Unit)=> .inl ()) 0 ())).bind (Sum.elim (fun(_:Unit)=>some (-1)) some))
theorem gx(aS:(List Name))(cW:Place)(r:Int)(h:cr aS cW=some r):aR Tryz.prog 197 [.v (vl ao aS),.v (.clo 159 [.ptr [vs cW.Code,vi cW.Class,vi cW.Years.From,vi cW.Years.To,vl ao cW.Names] 0])] ⟨[.v (vi r)],[],false⟩:=by
 refine au Tryz.func197 rfl [(.tmp 4)] rfl (fun r=>⟨[.v (vi r)],[],false⟩) (r:=r) ?_
 unfold cr at h
 refine aJ ac [0,1] [] ?_
 refine ae ?_
 refine aJ ac [0,1,7,8] [] ?_
 refine bp (r:=r) h (fun j1=>⟨19,[],[]⟩) (fun v2 h=> ?_) (fun j1 h=> ?_)
 refine ax (a:=v2) ?_
 refine bc (r:=v2) (s:=(0,())) _ (fun s3=>⟨19,[(0,vl ao aS),(1,.clo 159 [.ptr [vs cW.Code,vi cW.Class,vi cW.Years.From,vi cW.Years.To,vl ao cW.Names] 0]),(7,vi (aS.length:Int)),(8,vi s3.1)],[]⟩) _ (Le.an) h (fun s3 v4 h=> ?_)
 refine aJ ac [0,1,7,8,9] [] ?_
 refine ae ?_
 refine aq h (fun h=> ?_) fun h=> ?_
 refine ai ?_
 refine bq ?_
 refine ae ?_
 refine bD (r:=v4) h (fun j5=>⟨19,[(0,vl ao aS),(1,.clo 159 [.ptr [vs cW.Code,vi cW.Class,vi cW.Years.From,vi cW.Years.To,vl ao cW.Names] 0]),(7,vi (aS.length:Int)),(8,vi s3.1)],[]⟩) (fun v6 h=> ?_) (fun j5 h=> ?_)
 refine ax (a:=v6) ?_
 refine aJ ac [0,1,5,7,8] [] ?_
 refine sr ?_
 refine aa.cl ac 3 [0,1,5,7,8,11,12,13] [] ?_
 obtain⟨x7,hx7,h⟩:=bind_some h
 refine aa.ls (aY (L:=aS) (f:=ao) (ti:=eb) (tj:=dg) (e:=169) (k:= .i64) ac rfl hx7) ?_
 refine aa.cl ac 1 [0,1,5,7,8,11,15] [] ?_
 obtain⟨x8,hx8,h⟩:=bind_some h
 refine aa.ls (xc CB (oG x7 cW _ hx8)) ?_
 refine aa.nx ?_
 refine aq h (fun h=> ?_) fun h=> ?_
 refine aJ ac [4] [] ?_
 refine ah ?_
 obtain rfl:=inj h
 exact bE (bo (bo (bE (bo (aO (f1 fv))))))
 refine ai ?_
 obtain rfl:=inj h
 exact bt (cn (Le.an))
 refine aD ?_
 refine aa.cl ac 2 [0,1,7,8] [] ?_
 refine aa.nil ?_
 obtain rfl:=inj h
 exact cn (Le.an)
 refine a6 ?_
 obtain rfl:=inj h
 exact cE (cG (cF (cn (Le.an))))
 refine aJ ac [4] [] ?_
 refine ah ?_
 obtain rfl:=inj h
 exact aO (f1 fv)
noncomputable def ca(aS:(List Name))(cW:Place):Option (Bool):=
 ((cr aS cW).bind fun x1=>some (decide (x1≥0)))
theorem fI(aS:(List Name))(cW:Place)(r:Bool)(h:ca aS cW=some r):aR Tryz.prog 158 [.v (vl ao aS),.v (.clo 159 [.ptr [vs cW.Code,vi cW.Class,vi cW.Years.From,vi cW.Years.To,vl ao cW.Names] 0])] ⟨[.v (vb r)],[],false⟩:=by
 refine au Tryz.func158 rfl [(.tmp 4)] rfl (fun r=>⟨[.v (vb r)],[],false⟩) (r:=r) ?_
 unfold ca at h
 refine aJ ac [0,1] [] ?_
 refine sr ?_
 refine aa.cl ac 2 [5,6] [] ?_
 obtain⟨x1,hx1,h⟩:=bind_some h
 refine aa.ls (xc uy (gx aS cW _ hx1)) ?_
 refine bO ac 2 [4] [] ?_
 refine ah ?_
 obtain rfl:=inj h
 exact aO (f1 fv)
noncomputable def jd(aP:Place):Option (Bool):=
 ((((fL aP.Code).bind fun x1=>(bif x1 then((dO aP.Class 0 19).bind fun x2=>(bif x2 then((gG aP.Years).bind fun x3=>(bif x3 then((gp aP.Names).bind fun x4=>(bif x4 then((ca aP.Names aP).bind fun x5=>some (!x5))else some false))else some false))else some false))else some false))).bind fun(j6:Bool)=>some j6)
theorem p6(aP:Place)(r:Bool)(h:jd aP=some r):aR Tryz.prog 104 [.v (.agg (tc ad aP))] ⟨[.v (vb r)],[],false⟩:=by
 refine au Tryz.func104 rfl [(.tmp 2)] rfl (fun r=>⟨[.v (vb r)],[],false⟩) (r:=r) ?_
 unfold jd at h
 refine aJ ac [1] [1] ?_
 refine ae ?_
 refine bn h (fun j6=>⟨28,[(2,vb j6)],[]⟩) (fun v7 h=> ?_) (fun j6 h=> ?_)
 refine aa.cl ac 2 [1,4] [1] ?_
 obtain⟨x1,hx1,h⟩:=bind_some h
 refine aa.ls (xc uA (iI aP.Code _ hx1)) ?_
 refine aa.cl ac 1 [1,6] [1] ?_
 refine aa.cu [(6,fun b=>b)] h (fun h=> ?_) fun h=> ?_
 refine aa.cl ac 2 [1,6,8] [1] ?_
 obtain⟨x2,hx2,h⟩:=bind_some h
 refine aa.ls (xc nf (du aP.Class 0 19 _ hx2)) ?_
 refine aa.cl ac 2 [1,11] [1] ?_
 refine aa.cu [(11,fun b=>b)] h (fun h=> ?_) fun h=> ?_
 refine aa.cl ac 2 [1,11,13] [1] ?_
 obtain⟨x3,hx3,h⟩:=bind_some h
 refine aa.ls (xc uq (kt aP.Years _ hx3)) ?_
 refine aa.cl ac 2 [1,16] [1] ?_
 refine aa.cu [(16,fun b=>b)] h (fun h=> ?_) fun h=> ?_
 refine aa.cl ac 2 [1,16,18] [1] ?_
 obtain⟨x4,hx4,h⟩:=bind_some h
 refine aa.ls (xc yk (lA aP.Names _ hx4)) ?_
 refine aa.cl ac 2 [1,21] [1] ?_
 refine aa.cu [(21,fun b=>b)] h (fun h=> ?_) fun h=> ?_
 refine aa.ck ac 3 ⟨28,[(21,vb true),(23,vl ao aP.Names),(24,.clo 159 [.ref 1 0])],[(1,.box (tc ad aP))]⟩ ?_
 obtain⟨x5,hx5,h⟩:=bind_some h
 refine aa.ls (xc yl (fI aP.Names aP _ hx5)) ?_
 refine aa.cl ac 3 [2] [] ?_
 refine aa.nil ?_
 obtain rfl:=inj h
 exact Le.an
 refine aa.cl ac 7 [2] [] ?_
 refine aa.nil ?_
 obtain rfl:=inj h
 exact Le.an
 refine aa.cl ac 12 [2] [] ?_
 refine aa.nil ?_
 obtain rfl:=inj h
 exact Le.an
 refine aa.cl ac 17 [2] [] ?_
 refine aa.nil ?_
 obtain rfl:=inj h
 exact Le.an
 refine aa.cl ac 22 [2] [] ?_
 refine aa.nil ?_
 obtain rfl:=inj h
 exact Le.an
 refine ah ?_
 obtain rfl:=inj h
 exact aO (f1 fv)
theorem B9:bg Tryz.prog 104:=az Tryz.func104 (by kernel_rfl) rfl
noncomputable def ga(af:(List Place)):Option (Bool):=
 (((dt (af.length:Int) (fun(i3:Int) (_:Unit)=>((at' af i3).bind fun x7=>((((jd x7).bind fun x8=>(bif(!x8)then some true else(bif(decide (i3>0))then((at' af (bF (i3 - 1))).bind fun x9=>some (!(Op.bytesLess x9.Code.toList x7.Code.toList)))else some false)))).bind fun(j10:Bool)=>(bif j10 then some (.inr (.inr false))else some (.inl ()))))) (fun(_:Unit)=> .inl ()) 0 ())).bind (Sum.elim (fun(_:Unit)=>some (decide ((af.length:Int)≤10))) some))
theorem n9(af:(List Place))(r:Bool)(h:ga af=some r):aR Tryz.prog 54 [.v (vl ad af)] ⟨[.v (vb r)],[],false⟩:=by
 refine au Tryz.func54 rfl [(.tmp 2)] rfl (fun r=>⟨[.v (vb r)],[],false⟩) (r:=r) ?_
 unfold ga at h
 refine aJ ac [0] [] ?_
 refine ae ?_
 refine aJ ac [0,5,6,7] [] ?_
 refine bp (r:=r) h (fun j1=>⟨34,[(0,vl ad af)],[]⟩) (fun v2 h=> ?_) (fun j1 h=> ?_)
 refine ax (a:=v2) ?_
 refine bc (r:=v2) (s:=(0,())) _ (fun s3=>⟨34,[(0,vl ad af),(5,vl ad af),(6,vi (af.length:Int)),(7,vi s3.1)],[]⟩) _ (Le.an) h (fun s3 v4 h=> ?_)
 refine aJ ac [0,5,6,7,8] [] ?_
 refine ae ?_
 refine aq h (fun h=> ?_) fun h=> ?_
 refine ai ?_
 refine bq ?_
 refine ae ?_
 refine bD (r:=v4) h (fun j5=>⟨34,[(0,vl ad af),(5,vl ad af),(6,vi (af.length:Int)),(7,vi s3.1)],[]⟩) (fun v6 h=> ?_) (fun j5 h=> ?_)
 refine ax (a:=v6) ?_
 refine sr ?_
 refine aa.cl ac 1 [0,5,6,7,9] [] ?_
 obtain⟨x7,hx7,h⟩:=bind_some h
 refine aa.ls (aY (L:=af) (f:=ad) (ti:=bR) (tj:=bG) (e:=91) (k:= .i64) ac rfl hx7) ?_
 refine bO ac 4 [0,3,4,5,6,7] [4] ?_
 refine ae ?_
 refine ie mixed h (fun j10=>⟨34,[(0,vl ad af),(5,vl ad af),(6,vi (af.length:Int)),(7,vi s3.1),(29,vb j10)],[]⟩) (fun v11 h=> ?_) (fun j10 h=> ?_)
 refine aH.cl ac false 1 [0,3,4,5,6,7,12] [4] ?_
 obtain⟨x8,hx8,h⟩:=bind_some h
 refine aH.step (xc B9 (p6 x7 _ hx8)) ?_
 refine aH.cl ac false 2 [0,3,4,5,6,7,15] [4] ?_
 refine aH.cu [(15,fun b=>b)] h (fun h=> ?_) fun h=> ?_
 refine aH.cl ac false 14 [0,5,6,7,29] [] ?_
 refine aH.nil (by kernel_rfl) ?_
 obtain rfl:=inj h
 exact Le.an
 refine aH.cl ac false 3 [0,3,4,5,6,7,15,18] [4] ?_
 refine aH.cu [(18,fun b=>b)] h (fun h=> ?_) fun h=> ?_
 refine aH.cl ac false 3 [0,4,5,6,7,15,18,19,21] [4] ?_
 obtain⟨x9,hx9,h⟩:=bind_some h
 refine aH.step (aY (L:=af) (f:=ad) (ti:=bR) (tj:=bG) (e:=91) (k:= .i64) ac rfl hx9) ?_
 refine aH.cl ac false 7 [0,5,6,7,29] [] ?_
 refine aH.nil (by kernel_rfl) ?_
 obtain rfl:=inj h
 exact Le.an
 refine aH.cl ac false 11 [0,5,6,7,29] [] ?_
 refine aH.nil (by kernel_rfl) ?_
 obtain rfl:=inj h
 exact Le.an
 refine aq h (fun h=> ?_) fun h=> ?_
 refine aJ ac [2] [] ?_
 refine ah ?_
 obtain rfl:=inj h
 exact bE (bo (bo (bE (bo (aO (f1 fv))))))
 refine ai ?_
 obtain rfl:=inj h
 exact bt (cn (Le.an))
 refine aD ?_
 refine aa.ck ac 2 ⟨34,[(0,vl ad af),(5,vl ad af),(6,vi (af.length:Int)),(7,vi (bF (s3.1+1)))],[]⟩ ?_
 refine aa.nil ?_
 obtain rfl:=inj h
 exact cn (Le.an)
 refine a6 ?_
 obtain rfl:=inj h
 exact cE (cG (cF (cn (Le.an))))
 refine aJ ac [2] [] ?_
 refine ah ?_
 obtain rfl:=inj h
 exact aO (f1 fv)
theorem Ei:bg Tryz.prog 54:=az Tryz.func54 (by kernel_rfl) rfl
noncomputable def kd(aL:ay):Option (Bool):=
 ((((fb ([aL.Child,aL.Parent]:List ByteArray)).bind fun x1=>(bif x1 then(bif(!(aL.Child.toList==aL.Parent.toList))then((gG aL.Years).bind fun x2=>some x2)else some false)else some false))).bind fun(j3:Bool)=>some j3)
theorem qZ(aL:ay)(r:Bool)(h:kd aL=some r):aR Tryz.prog 105 [.v (.agg (tc aj aL))] ⟨[.v (vb r)],[],false⟩:=by
 refine au Tryz.func105 rfl [(.tmp 2)] rfl (fun r=>⟨[.v (vb r)],[],false⟩) (r:=r) ?_
 unfold kd at h
 refine aJ ac [1] [1] ?_
 refine ae ?_
 refine bn h (fun j3=>⟨21,[(2,vb j3)],[]⟩) (fun v4 h=> ?_) (fun j3 h=> ?_)
 refine aa.cl ac 5 [1,7] [1,7] ?_
 obtain⟨x1,hx1,h⟩:=bind_some h
 refine aa.ls (xc um (jh ([aL.Child,aL.Parent]:List ByteArray) _ hx1)) ?_
 refine aa.cl ac 1 [1,9] [1] ?_
 refine aa.cu [(9,fun b=>b)] h (fun h=> ?_) fun h=> ?_
 refine aa.cl ac 7 [1,16] [1] ?_
 refine aa.cu [(16,fun b=>b)] h (fun h=> ?_) fun h=> ?_
 refine aa.cl ac 2 [16,18] [] ?_
 obtain⟨x2,hx2,h⟩:=bind_some h
 refine aa.ls (xc uq (kt aL.Years _ hx2)) ?_
 refine aa.cl ac 2 [2] [] ?_
 refine aa.nil ?_
 obtain rfl:=inj h
 exact Le.an
 refine aa.cl ac 5 [2] [] ?_
 refine aa.nil ?_
 obtain rfl:=inj h
 exact Le.an
 refine aa.cl ac 12 [2] [] ?_
 refine aa.nil ?_
 obtain rfl:=inj h
 exact Le.an
 refine ah ?_
 obtain rfl:=inj h
 exact aO (f1 fv)
theorem Ca:bg Tryz.prog 105:=az Tryz.func105 (by kernel_rfl) rfl
noncomputable def iG(aM:ay)(c0:ay):Option (Bool):=
 (((bif(aM.Child.toList==c0.Child.toList)then((eJ aM.Years c0.Years).bind fun x1=>some x1)else some false)).bind fun(j2:Bool)=>some j2)
theorem n6(aM:ay)(c0:ay)(r:Bool)(h:iG aM c0=some r):aR Tryz.prog 106 [.v (.agg (tc aj aM)),.v (.ptr [vs c0.Child,vs c0.Parent,vi c0.Years.From,vi c0.Years.To] 0)] ⟨[.v (vb r)],[],false⟩:=by
 refine au Tryz.func106 rfl [(.tmp 3)] rfl (fun r=>⟨[.v (vb r)],[],false⟩) (r:=r) ?_
 unfold iG at h
 refine aJ ac [1,2] [2] ?_
 refine ae ?_
 refine bn h (fun j2=>⟨16,[(3,vb j2)],[]⟩) (fun v3 h=> ?_) (fun j2 h=> ?_)
 refine aa.cl ac 6 [1,2,9] [2] ?_
 refine aa.cu [(9,fun b=>b)] h (fun h=> ?_) fun h=> ?_
 refine aa.cl ac 4 [9,11,13] [] ?_
 obtain⟨x1,hx1,h⟩:=bind_some h
 refine aa.ls (xc xU (kA aM.Years c0.Years _ hx1)) ?_
 refine aa.cl ac 2 [3] [] ?_
 refine aa.nil ?_
 obtain rfl:=inj h
 exact Le.an
 refine aa.cl ac 7 [3] [] ?_
 refine aa.nil ?_
 obtain rfl:=inj h
 exact Le.an
 refine ah ?_
 obtain rfl:=inj h
 exact aO (f1 fv)
theorem Cb:bg Tryz.prog 106:=az Tryz.func106 (by kernel_rfl) rfl
noncomputable def ci(aS:(List ay))(cW:ay):Option (Int):=
 (((dt (aS.length:Int) (fun(i3:Int) (_:Unit)=>((at' aS i3).bind fun x7=>((iG x7 cW).bind fun x8=>(bif x8 then some (.inr (.inr i3))else some (.inl ()))))) (fun(_:Unit)=> .inl ()) 0 ())).bind (Sum.elim (fun(_:Unit)=>some (-1)) some))
theorem gi(aS:(List ay))(cW:ay)(r:Int)(h:ci aS cW=some r):aR Tryz.prog 109 [.v (vl aj aS),.v (.clo 106 [.ptr [vs cW.Child,vs cW.Parent,vi cW.Years.From,vi cW.Years.To] 0])] ⟨[.v (vi r)],[],false⟩:=by
 refine au Tryz.func109 rfl [(.tmp 4)] rfl (fun r=>⟨[.v (vi r)],[],false⟩) (r:=r) ?_
 unfold ci at h
 refine aJ ac [0,1] [] ?_
 refine ae ?_
 refine aJ ac [0,1,7,8] [] ?_
 refine bp (r:=r) h (fun j1=>⟨19,[],[]⟩) (fun v2 h=> ?_) (fun j1 h=> ?_)
 refine ax (a:=v2) ?_
 refine bc (r:=v2) (s:=(0,())) _ (fun s3=>⟨19,[(0,vl aj aS),(1,.clo 106 [.ptr [vs cW.Child,vs cW.Parent,vi cW.Years.From,vi cW.Years.To] 0]),(7,vi (aS.length:Int)),(8,vi s3.1)],[]⟩) _ (Le.an) h (fun s3 v4 h=> ?_)
 refine aJ ac [0,1,7,8,9] [] ?_
 refine ae ?_
 refine aq h (fun h=> ?_) fun h=> ?_
 refine ai ?_
 refine bq ?_
 refine ae ?_
 refine bD (r:=v4) h (fun j5=>⟨19,[(0,vl aj aS),(1,.clo 106 [.ptr [vs cW.Child,vs cW.Parent,vi cW.Years.From,vi cW.Years.To] 0]),(7,vi (aS.length:Int)),(8,vi s3.1)],[]⟩) (fun v6 h=> ?_) (fun j5 h=> ?_)
 refine ax (a:=v6) ?_
 refine aJ ac [0,1,5,7,8] [] ?_
 refine sr ?_
 refine aa.cl ac 3 [0,1,5,7,8,11,12,13] [] ?_
 obtain⟨x7,hx7,h⟩:=bind_some h
 refine aa.ls (aY (L:=aS) (f:=aj) (ti:=eo) (tj:=ew) (e:=85) (k:= .i64) ac rfl hx7) ?_
 refine aa.cl ac 1 [0,1,5,7,8,11,15] [] ?_
 obtain⟨x8,hx8,h⟩:=bind_some h
 refine aa.ls (xc Cb (n6 x7 cW _ hx8)) ?_
 refine aa.nx ?_
 refine aq h (fun h=> ?_) fun h=> ?_
 refine aJ ac [4] [] ?_
 refine ah ?_
 obtain rfl:=inj h
 exact bE (bo (bo (bE (bo (aO (f1 fv))))))
 refine ai ?_
 obtain rfl:=inj h
 exact bt (cn (Le.an))
 refine aD ?_
 refine aa.cl ac 2 [0,1,7,8] [] ?_
 refine aa.nil ?_
 obtain rfl:=inj h
 exact cn (Le.an)
 refine a6 ?_
 obtain rfl:=inj h
 exact cE (cG (cF (cn (Le.an))))
 refine aJ ac [4] [] ?_
 refine ah ?_
 obtain rfl:=inj h
 exact aO (f1 fv)
theorem uk:bg Tryz.prog 109:=az Tryz.func109 (by kernel_rfl) rfl
noncomputable def bX(aS:(List ay))(cW:ay):Option (Bool):=
 ((ci aS cW).bind fun x1=>some (decide (x1≥0)))
theorem fz(aS:(List ay))(cW:ay)(r:Bool)(h:bX aS cW=some r):aR Tryz.prog 56 [.v (vl aj aS),.v (.clo 106 [.ptr [vs cW.Child,vs cW.Parent,vi cW.Years.From,vi cW.Years.To] 0])] ⟨[.v (vb r)],[],false⟩:=by
 refine au Tryz.func56 rfl [(.tmp 4)] rfl (fun r=>⟨[.v (vb r)],[],false⟩) (r:=r) ?_
 unfold bX at h
 refine aJ ac [0,1] [] ?_
 refine sr ?_
 refine aa.cl ac 2 [5,6] [] ?_
 obtain⟨x1,hx1,h⟩:=bind_some h
 refine aa.ls (xc uk (gi aS cW _ hx1)) ?_
 refine bO ac 2 [4] [] ?_
 refine ah ?_
 obtain rfl:=inj h
 exact aO (f1 fv)
theorem AD:bg Tryz.prog 56:=az Tryz.func56 (by kernel_rfl) rfl
noncomputable def bI(aS:Span)(ap:Int):Option (Bool):=
 ((dO ap aS.From aS.To).bind fun x1=>some x1)
theorem cw(aS:Span)(ap:Int)(r:Bool)(h:bI aS ap=some r):aR Tryz.prog 87 [.v (.agg (tc ig aS)),.v (vi ap)] ⟨[.v (vb r)],[],false⟩:=by
 refine au Tryz.func87 rfl [(.tmp 4)] rfl (fun r=>⟨[.v (vb r)],[],false⟩) (r:=r) ?_
 unfold bI at h
 refine aJ ac [1,2] [2] ?_
 refine sr ?_
 refine aa.cl ac 5 [5,7,9] [] ?_
 obtain⟨x1,hx1,h⟩:=bind_some h
 refine aa.ls (xc nf (du ap aS.From aS.To _ hx1)) ?_
 refine bO ac 1 [4] [] ?_
 refine ah ?_
 obtain rfl:=inj h
 exact aO (f1 fv)
theorem lO:bg Tryz.prog 87:=az Tryz.func87 (by kernel_rfl) rfl
noncomputable def iM(aL:ay)(c0:ByteArray)(c1:Int):Option (Bool):=
 (((bif(aL.Child.toList==c0.toList)then((bI aL.Years c1).bind fun x1=>some x1)else some false)).bind fun(j2:Bool)=>some j2)
theorem og(aL:ay)(c0:ByteArray)(c1:Int)(r:Bool)(h:iM aL c0 c1=some r):aR Tryz.prog 199 [.v (.agg (tc aj aL)),.v (.ptr [vs c0] 0),.v (.ptr [vi c1] 0)] ⟨[.v (vb r)],[],false⟩:=by
 refine au Tryz.func199 rfl [(.tmp 4)] rfl (fun r=>⟨[.v (vb r)],[],false⟩) (r:=r) ?_
 unfold iM at h
 refine aJ ac [1,2,3] [3] ?_
 refine ae ?_
 refine bn h (fun j2=>⟨15,[(4,vb j2)],[]⟩) (fun v3 h=> ?_) (fun j2 h=> ?_)
 refine aa.cl ac 5 [2,3,9] [3] ?_
 refine aa.cu [(9,fun b=>b)] h (fun h=> ?_) fun h=> ?_
 refine aa.cl ac 3 [9,11,12] [] ?_
 obtain⟨x1,hx1,h⟩:=bind_some h
 refine aa.ls (xc lO (cw aL.Years c1 _ hx1)) ?_
 refine aa.cl ac 2 [4] [] ?_
 refine aa.nil ?_
 obtain rfl:=inj h
 exact Le.an
 refine aa.cl ac 6 [4] [] ?_
 refine aa.nil ?_
 obtain rfl:=inj h
 exact Le.an
 refine ah ?_
 obtain rfl:=inj h
 exact aO (f1 fv)
theorem CV:bg Tryz.prog 199:=az Tryz.func199 (by kernel_rfl) rfl
noncomputable def cj(aS:(List ay))(cW:ByteArray)(aF1:Int):Option (Int):=
 (((dt (aS.length:Int) (fun(i3:Int) (_:Unit)=>((at' aS i3).bind fun x7=>((iM x7 cW aF1).bind fun x8=>(bif x8 then some (.inr (.inr i3))else some (.inl ()))))) (fun(_:Unit)=> .inl ()) 0 ())).bind (Sum.elim (fun(_:Unit)=>some (-1)) some))
theorem gj(aS:(List ay))(cW:ByteArray)(aF1:Int)(r:Int)(h:cj aS cW aF1=some r):aR Tryz.prog 109 [.v (vl aj aS),.v (.clo 199 [.ptr [vs cW] 0,.ptr [vi aF1] 0])] ⟨[.v (vi r)],[],false⟩:=by
 refine au Tryz.func109 rfl [(.tmp 4)] rfl (fun r=>⟨[.v (vi r)],[],false⟩) (r:=r) ?_
 unfold cj at h
 refine aJ ac [0,1] [] ?_
 refine ae ?_
 refine aJ ac [0,1,7,8] [] ?_
 refine bp (r:=r) h (fun j1=>⟨19,[],[]⟩) (fun v2 h=> ?_) (fun j1 h=> ?_)
 refine ax (a:=v2) ?_
 refine bc (r:=v2) (s:=(0,())) _ (fun s3=>⟨19,[(0,vl aj aS),(1,.clo 199 [.ptr [vs cW] 0,.ptr [vi aF1] 0]),(7,vi (aS.length:Int)),(8,vi s3.1)],[]⟩) _ (Le.an) h (fun s3 v4 h=> ?_)
 refine aJ ac [0,1,7,8,9] [] ?_
 refine ae ?_
 refine aq h (fun h=> ?_) fun h=> ?_
 refine ai ?_
 refine bq ?_
 refine ae ?_
 refine bD (r:=v4) h (fun j5=>⟨19,[(0,vl aj aS),(1,.clo 199 [.ptr [vs cW] 0,.ptr [vi aF1] 0]),(7,vi (aS.length:Int)),(8,vi s3.1)],[]⟩) (fun v6 h=> ?_) (fun j5 h=> ?_)
 refine ax (a:=v6) ?_
 refine aJ ac [0,1,5,7,8] [] ?_
 refine sr ?_
 refine aa.cl ac 3 [0,1,5,7,8,11,12,13] [] ?_
 obtain⟨x7,hx7,h⟩:=bind_some h
 refine aa.ls (aY (L:=aS) (f:=aj) (ti:=eo) (tj:=ew) (e:=85) (k:= .i64) ac rfl hx7) ?_
 refine aa.cl ac 1 [0,1,5,7,8,11,15] [] ?_
 obtain⟨x8,hx8,h⟩:=bind_some h
 refine aa.ls (xc CV (og x7 cW aF1 _ hx8)) ?_
 refine aa.nx ?_
 refine aq h (fun h=> ?_) fun h=> ?_
 refine aJ ac [4] [] ?_
 refine ah ?_
 obtain rfl:=inj h
 exact bE (bo (bo (bE (bo (aO (f1 fv))))))
 refine ai ?_
 obtain rfl:=inj h
 exact bt (cn (Le.an))
 refine aD ?_
 refine aa.cl ac 2 [0,1,7,8] [] ?_
 refine aa.nil ?_
 obtain rfl:=inj h
 exact cn (Le.an)
 refine a6 ?_
 obtain rfl:=inj h
 exact cE (cG (cF (cn (Le.an))))
 refine aJ ac [4] [] ?_
 refine ah ?_
 obtain rfl:=inj h
 exact aO (f1 fv)
noncomputable def cy(af:(List ay))(aE:ByteArray)(ap:Int):Option (ByteArray×Bool):=
 ((cj af aE ap).bind fun x1=>(bif(decide (x1<0))then some ((ByteArray.mk #[]),false)else((at' af x1).bind fun x2=>some (x2.Parent,true))))
theorem gA(af:(List ay))(aE:ByteArray)(ap:Int)(r:ByteArray×Bool)(h:cy af aE ap=some r):aR Tryz.prog 161 [.v (vl aj af),.v (vs aE),.v (vi ap)] ⟨[.v (vs r.1),.v (vb r.2)],[],false⟩:=by
 refine au Tryz.func161 rfl [(.tmp 6),(.tmp 7)] rfl (fun r=>⟨[.v (vs r.1),.v (vb r.2)],[],false⟩) (r:=r) ?_
 unfold cy at h
 refine aJ ac [0,4,5] [4,5] ?_
 refine sr ?_
 refine aa.cl ac 2 [0,9,10] [4,5] ?_
 obtain⟨x1,hx1,h⟩:=bind_some h
 refine aa.ls (xc uk (gj af aE ap _ hx1)) ?_
 refine bO ac 1 [0,8] [] ?_
 refine ae ?_
 refine aJ ac [0,8,13] [] ?_
 refine aq h (fun h=> ?_) fun h=> ?_
 refine aJ ac [6,7] [] ?_
 refine ah ?_
 obtain rfl:=inj h
 exact cY (aO (f2 fv fv))
 refine ai ?_
 refine bq ?_
 refine sr ?_
 refine aa.cl ac 2 [14,15] [] ?_
 obtain⟨x2,hx2,h⟩:=bind_some h
 refine aa.ls (aY (L:=af) (f:=aj) (ti:=eo) (tj:=ew) (e:=85) (k:= .i64) ac rfl hx2) ?_
 refine bO ac 4 [6,7] [] ?_
 refine ah ?_
 obtain rfl:=inj h
 exact aO (f2 fv fv)
theorem rq:bg Tryz.prog 161:=az Tryz.func161 (by kernel_rfl) rfl
noncomputable def fi(aS:(List ByteArray))(aV:ByteArray):Option (Int):=
 (((dt (aS.length:Int) (fun(i3:Int) (_:Unit)=>((at' aS i3).bind fun x7=>(bif(aV.toList==x7.toList)then some (.inr (.inr i3))else some (.inl ())))) (fun(_:Unit)=> .inl ()) 0 ())).bind (Sum.elim (fun(_:Unit)=>some (-1)) some))
theorem l9(aS:(List ByteArray))(aV:ByteArray)(r:Int)(h:fi aS aV=some r):aR Tryz.prog 217 [.v (vl eS aS),.v (vs aV)] ⟨[.v (vi r)],[],false⟩:=by
 refine au Tryz.func217 rfl [(.tmp 4)] rfl (fun r=>⟨[.v (vi r)],[],false⟩) (r:=r) ?_
 unfold fi at h
 refine aJ ac [0,1] [] ?_
 refine ae ?_
 refine aJ ac [0,1,7,8] [] ?_
 refine bp (r:=r) h (fun j1=>⟨19,[],[]⟩) (fun v2 h=> ?_) (fun j1 h=> ?_)
 refine ax (a:=v2) ?_
 refine bc (r:=v2) (s:=(0,())) _ (fun s3=>⟨19,[(0,vl eS aS),(1,vs aV),(7,vi (aS.length:Int)),(8,vi s3.1)],[]⟩) _ (Le.an) h (fun s3 v4 h=> ?_)
 refine aJ ac [0,1,7,8,9] [] ?_
 refine ae ?_
 refine aq h (fun h=> ?_) fun h=> ?_
 refine ai ?_
 refine bq ?_
 refine ae ?_
 refine bD (r:=v4) h (fun j5=>⟨19,[(0,vl eS aS),(1,vs aV),(7,vi (aS.length:Int)),(8,vi s3.1)],[]⟩) (fun v6 h=> ?_) (fun j5 h=> ?_)
 refine ax (a:=v6) ?_
 refine aJ ac [0,1,5,7,8] [] ?_
 refine sr ?_
 refine aa.cl ac 3 [0,1,5,7,8,11,12,13] [] ?_
 obtain⟨x7,hx7,h⟩:=bind_some h
 refine aa.ls (aY (L:=aS) (f:=eS) (ti:=bU) (tj:=et) (e:=9) (k:= .i64) ac rfl hx7) ?_
 refine bO ac 2 [0,1,5,7,8,16] [] ?_
 refine aq h (fun h=> ?_) fun h=> ?_
 refine aJ ac [4] [] ?_
 refine ah ?_
 obtain rfl:=inj h
 exact bE (bo (bo (bE (bo (aO (f1 fv))))))
 refine ai ?_
 obtain rfl:=inj h
 exact bt (cn (Le.an))
 refine aD ?_
 refine aa.cl ac 2 [0,1,7,8] [] ?_
 refine aa.nil ?_
 obtain rfl:=inj h
 exact cn (Le.an)
 refine a6 ?_
 obtain rfl:=inj h
 exact cE (cG (cF (cn (Le.an))))
 refine aJ ac [4] [] ?_
 refine ah ?_
 obtain rfl:=inj h
 exact aO (f1 fv)
theorem C3:bg Tryz.prog 217:=az Tryz.func217 (by kernel_rfl) rfl
noncomputable def cB(aS:(List ByteArray))(aV:ByteArray):Option (Bool):=
 ((fi aS aV).bind fun x1=>some (decide (x1≥0)))
theorem lf(aS:(List ByteArray))(aV:ByteArray)(r:Bool)(h:cB aS aV=some r):aR Tryz.prog 198 [.v (vl eS aS),.v (vs aV)] ⟨[.v (vb r)],[],false⟩:=by
 refine au Tryz.func198 rfl [(.tmp 4)] rfl (fun r=>⟨[.v (vb r)],[],false⟩) (r:=r) ?_
 unfold cB at h
 refine aJ ac [0,1] [] ?_
 refine sr ?_
 refine aa.cl ac 2 [5,6] [] ?_
 obtain⟨x1,hx1,h⟩:=bind_some h
 refine aa.ls (xc C3 (l9 aS aV _ hx1)) ?_
 refine bO ac 2 [4] [] ?_
 refine ah ?_
 obtain rfl:=inj h
 exact aO (f1 fv)
theorem CU:bg Tryz.prog 198:=az Tryz.func198 (by kernel_rfl) rfl
noncomputable def jQ(af:(List ay))(aE:ByteArray)(ap:Int):Option ((List ByteArray)):=
 (loop (fun(s1:(List ByteArray))=>((at' s1 (bF ((s1.length:Int)- 1))).bind fun x3=>((cy af x3 ap).bind fun x4=>(((bif(!x4.2)then some true else((cB s1 x4.1).bind fun x5=>some x5))).bind fun(j6:Bool)=>(bif j6 then some (.inr s1)else((c4 s1 ([x4.1]:List ByteArray)).bind fun x8=>some (.inl x8))))))) ([aE]:List ByteArray))
theorem sj(af:(List ay))(aE:ByteArray)(ap:Int)(r:(List ByteArray))(h:jQ af aE ap=some r):aR Tryz.prog 160 [.v (vl aj af),.v (vs aE),.v (vi ap)] ⟨[.own 9 1 r.length (r.map eS)],[],false⟩:=by
 refine au Tryz.func160 rfl [(.tmp 6)] rfl (fun r=>⟨[.own 9 1 r.length (r.map eS)],[],false⟩) (r:=r) ?_
 unfold jQ at h
 refine aJ ac [0,1,2] [] ?_
 refine aJ ac [0,2,7] [11] ?_
 refine ax (a:=r) ?_
 refine bc (r:=r) (s:=([aE]:List ByteArray)) _ (fun s1=>⟨36,[(0,vl aj af),(2,vi ap),(7,.own 7)],[(7,oa 9 1 eS s1)]⟩) _ (Le.rr [11] [(11,7)]) h (fun s1 v2 h=> ?_)
 refine ax (a:=v2) ?_
 refine sr ?_
 refine aa.cl ac 5 [0,2,7,13,14,17] [7] ?_
 obtain⟨x3,hx3,h⟩:=bind_some h
 refine aa.ls (bw (d:=7) (L:=s1) (f:=eS) (ti:=bU) (tj:=et) (e:=9) (e':=9) (m:=1) (k:= .i64) ac rfl hx3) ?_
 refine aa.ls (bN (d:=7) (m:=1) (j:=0) (L:=s1) (f:=eS) (ti:=et) (e:=9) (v:=vs x3) ac rfl hx3) ?_
 refine aa.cl ac 1 [0,2,7,13,19,20] [7] ?_
 obtain⟨x4,hx4,h⟩:=bind_some h
 refine aa.ls (xc rq (gA af x3 ap _ hx4)) ?_
 refine bO ac 5 [0,2,7,8,9] [7] ?_
 refine ae ?_
 refine ae ?_
 refine bn h (fun j6=>⟨36,[(0,vl aj af),(2,vi ap),(7,.own 7),(8,vs x4.1),(30,vb j6)],[(7,oa 9 1 eS s1)]⟩) (fun v7 h=> ?_) (fun j6 h=> ?_)
 refine aa.cl ac 3 [0,2,7,8,26] [7] ?_
 refine aa.cu [(26,fun b=>b)] h (fun h=> ?_) fun h=> ?_
 refine aa.cl ac 4 [0,2,7,8,30] [7] ?_
 refine aa.nil ?_
 obtain rfl:=inj h
 exact Le.an
 refine aa.cl ac 2 [0,2,7,8,26,27,28] [7] ?_
 obtain⟨x5,hx5,h⟩:=bind_some h
 refine aa.ls (xc CU (lf s1 x4.1 _ hx5)) ?_
 refine aa.cl ac 1 [0,2,7,8,30] [7] ?_
 refine aa.nil ?_
 obtain rfl:=inj h
 exact Le.an
 refine aq h (fun h=> ?_) fun h=> ?_
 refine aJ ac [6] [7] ?_
 refine ah ?_
 obtain rfl:=inj h
 exact cY (bE (bo (bE (aO (f1 (fo fh))))))
 refine ai ?_
 refine bq ?_
 refine aD ?_
 refine aa.cl ac 3 [0,2,32,34] [7,34] ?_
 obtain⟨x8,hx8,h⟩:=bind_some h
 refine aa.a7 (bh (f:=eS) (t:=106) (ti:=bU) (tj:=et) (zs:=[.string (ByteArray.mk #[])]) (e:=9) (m:=1) (d:=7) (xv:= .own 34) hx8 ac rfl rfl rfl rfl (bT (e:=9))) ?_
 refine aa.cl ac 1 [0,2,7] [35] ?_
 refine aa.nil ?_
 obtain rfl:=inj h
 exact bt (cn (Le.rr [35] [(35,7)]))
theorem CC:bg Tryz.prog 160:=az Tryz.func160 (by kernel_rfl) rfl
noncomputable def dL(af:(List ay))(aE:ByteArray)(ap:Int):Option (Bool):=
 ((jQ af aE ap).bind fun x1=>((at' x1 (bF ((x1.length:Int)- 1))).bind fun x2=>((cy af x2 ap).bind fun x3=>some x3.2)))
theorem pk(af:(List ay))(aE:ByteArray)(ap:Int)(r:Bool)(h:dL af aE ap=some r):aR Tryz.prog 108 [.v (vl aj af),.v (vs aE),.v (vi ap)] ⟨[.v (vb r)],[],false⟩:=by
 refine au Tryz.func108 rfl [(.tmp 6)] rfl (fun r=>⟨[.v (vb r)],[],false⟩) (r:=r) ?_
 unfold dL at h
 refine aJ ac [0,1,2] [] ?_
 refine sr ?_
 refine aa.cl ac 3 [0,2,10,11,12] [] ?_
 obtain⟨x1,hx1,h⟩:=bind_some h
 refine aa.ls (xc CC (sj af aE ap _ hx1)) ?_
 refine bO ac 1 [0,2,7] [13] ?_
 refine sr ?_
 refine aa.cl ac 5 [2,15,16,19] [13] ?_
 obtain⟨x2,hx2,h⟩:=bind_some h
 refine aa.ls (bw (d:=13) (L:=x1) (f:=eS) (ti:=bU) (tj:=et) (e:=9) (e':=9) (m:=1) (k:= .i64) ac rfl hx2) ?_
 refine aa.ls (bN (d:=13) (m:=1) (j:=0) (L:=x1) (f:=eS) (ti:=et) (e:=9) (v:=vs x2) ac rfl hx2) ?_
 refine aa.cl ac 1 [15,21,22] [] ?_
 obtain⟨x3,hx3,h⟩:=bind_some h
 refine aa.ls (xc rq (gA af x2 ap _ hx3)) ?_
 refine bO ac 5 [9] [] ?_
 refine aJ ac [6] [] ?_
 refine ah ?_
 obtain rfl:=inj h
 exact aO (f1 fv)
theorem Cc:bg Tryz.prog 108:=az Tryz.func108 (by kernel_rfl) rfl
end Go.Proofs.YtdejeagdkfokfaaGreatDoor.Sh
