/- Typed functions and the calls that do what they say. -/
import Derived.Test.YtdejeagdkfokfaaGreatDoorSE
import Derived.Test.YtdejeagdkfokfaaGreatDoorKA
import Derived.Test.YtdejeagdkfokfaaGreatDoorKC
import Derived.Test.YtdejeagdkfokfaaGreatDoorKD
import Derived.Test.YtdejeagdkfokfaaGreatDoorKO
import Derived.Test.YtdejeagdkfokfaaGreatDoorKS
import Derived.Test.YtdejeagdkfokfaaGreatDoorSN
import Derived.Test.YtdejeagdkfokfaaGreatDoorSW
import Derived.Test.YtdejeagdkfokfaaGreatDoorSX
import Derived.Test.YtdejeagdkfokfaaGreatDoorH1
namespace Go.Proofs.YtdejeagdkfokfaaGreatDoor.Sh
open Go.RowKit
set_option maxRecDepth 100000
set_option maxHeartbeats 4000000
structure Span where
 From:Int
 To:Int
def bc(x:Span):List Tr:=[.int .i64 x.From,.int .i64 x.To]
structure Name where
 Text:ByteArray
 Language:ByteArray
 Status:Int
 Years:Span
def af(x:Name):List Tr:=[.str x.Text,.str x.Language,.int .i64 x.Status,.int .i64 x.Years.From,.int .i64 x.Years.To]
theorem bu(x:Name): ∀t∈af x,t.flat=true:=by simp[af,Tr.flat]
structure Place where
 Code:ByteArray
 Class:Int
 Years:Span
 Names:(List Name)
def ab(x:Place):List Tr:=[.str x.Code,.int .i64 x.Class,.int .i64 x.Years.From,.int .i64 x.Years.To,.sl x.Names.length (x.Names.map af)]
structure au where
 Child:ByteArray
 Parent:ByteArray
 Years:Span
def ac(x:au):List Tr:=[.str x.Child,.str x.Parent,.int .i64 x.Years.From,.int .i64 x.Years.To]
theorem dt(x:au): ∀t∈ac x,t.flat=true:=by simp[ac,Tr.flat]
structure World where
 Places:(List Place)
 Links:(List au)
def aj(x:World):List Tr:=[.sl x.Places.length (x.Places.map ab),.sl x.Links.length (x.Links.map ac)]
structure Change where
 Year:Int
 Kind:Int
 Code:ByteArray
 Other:ByteArray
 Language:ByteArray
 Text:ByteArray
def ah(x:Change):List Tr:=[.int .i64 x.Year,.int .i64 x.Kind,.str x.Code,.str x.Other,.str x.Language,.str x.Text]
def ti2:TI:=⟨1,8,.int .i64,[.int .i64 0]⟩
def ti3:TI:=⟨1,8,.int .i64,[.int .i64 0]⟩
def ti4:TI:=⟨1,1,.bool,[.bool false]⟩
def ti5:TI:=⟨1,1,.int .u8,[.int .u8 0]⟩
def ig:TI:=⟨1,16,.str,[.str (ByteArray.mk #[])]⟩
def Bk:TI:=⟨1,24,.slice 100,[.sl ([]:List Place).length (([]:List Place).map ab)]⟩
def Bl:TI:=⟨1,24,.slice 103,[.sl ([]:List au).length (([]:List au).map ac)]⟩
def B1:TI:=⟨2,48,.struct [(0,22),(1,23)],[.sl ([]:List Place).length (([]:List Place).map ab),.sl ([]:List au).length (([]:List au).map ac)]⟩
def B2:TI:=⟨6,80,.struct [(0,2),(1,2),(2,9),(3,9),(4,9),(5,9)],[.int .i64 0,.int .i64 0,.str (ByteArray.mk #[]),.str (ByteArray.mk #[]),.str (ByteArray.mk #[]),.str (ByteArray.mk #[])]⟩
def df:TI:=⟨1,24,.slice 91,[.sl ([]:List Place).length (([]:List Place).map ab)]⟩
def eh:TI:=⟨1,24,.slice 85,[.sl ([]:List au).length (([]:List au).map ac)]⟩
def l8:TI:=⟨2,48,.struct [(0,32),(1,33)],[.sl ([]:List Place).length (([]:List Place).map ab),.sl ([]:List au).length (([]:List au).map ac)]⟩
def B3:TI:=⟨6,80,.struct [(0,2),(1,2),(2,9),(3,9),(4,9),(5,9)],[.int .i64 0,.int .i64 0,.str (ByteArray.mk #[]),.str (ByteArray.mk #[]),.str (ByteArray.mk #[]),.str (ByteArray.mk #[])]⟩
def B4:TI:=⟨2,16,.struct [(0,2),(1,2)],[.int .i64 0,.int .i64 0]⟩
def ei:TI:=⟨4,48,.struct [(0,9),(1,9),(2,83)],[.str (ByteArray.mk #[]),.str (ByteArray.mk #[]),.int .i64 0,.int .i64 0]⟩
def ej:TI:=⟨1,24,.slice 169,[.sl ([]:List Name).length (([]:List Name).map af)]⟩
def cD:TI:=⟨5,64,.struct [(0,9),(1,2),(2,83),(4,89)],[.str (ByteArray.mk #[]),.int .i64 0,.int .i64 0,.int .i64 0,.sl ([]:List Name).length (([]:List Name).map af)]⟩
def B5:TI:=⟨2,16,.struct [(0,2),(1,2)],[.int .i64 0,.int .i64 0]⟩
def Bm:TI:=⟨1,24,.slice 190,[.sl ([]:List Name).length (([]:List Name).map af)]⟩
def yo:TI:=⟨5,64,.struct [(0,9),(1,2),(2,97),(4,98)],[.str (ByteArray.mk #[]),.int .i64 0,.int .i64 0,.int .i64 0,.sl ([]:List Name).length (([]:List Name).map af)]⟩
def yp:TI:=⟨4,48,.struct [(0,9),(1,9),(2,97)],[.str (ByteArray.mk #[]),.str (ByteArray.mk #[]),.int .i64 0,.int .i64 0]⟩
def cn:TI:=⟨1,24,.slice 9,[.sl ([]:List ByteArray).length (([]:List ByteArray).map eS)]⟩
def vV:TI:=⟨1,24,.slice 2,[.sl ([]:List Int).length (([]:List Int).map (eI .i64))]⟩
def dq:TI:=⟨5,56,.struct [(0,9),(1,9),(2,2),(3,83)],[.str (ByteArray.mk #[]),.str (ByteArray.mk #[]),.int .i64 0,.int .i64 0,.int .i64 0]⟩
def yq:TI:=⟨5,56,.struct [(0,9),(1,9),(2,2),(3,97)],[.str (ByteArray.mk #[]),.str (ByteArray.mk #[]),.int .i64 0,.int .i64 0,.int .i64 0]⟩
def BQ:TI:=⟨1,8,.int .u64,[.int .u64 0]⟩
def tbl:Tb:=[(2,ti2),(3,ti3),(4,ti4),(5,ti5),(9,ig),(22,Bk),(23,Bl),(25,B1),(27,B2),(32,df),(33,eh),(35,l8),(37,B3),(83,B4),(85,ei),(89,ej),(91,cD),(97,B5),(98,Bm),(100,yo),(103,yp),(106,cn),(144,vV),(169,dq),(190,yq),(209,BQ)]
theorem aa:bn Tryz.prog tbl:=bn.cons ⟨by kernel_rfl,show Tryz.prog.underlying 2=some (.int .i64)from by kernel_rfl⟩ (bn.cons ⟨by kernel_rfl,show Tryz.prog.underlying 3=some (.int .i64)from by kernel_rfl⟩ (bn.cons ⟨by kernel_rfl,show Tryz.prog.underlying 4=some (.bool)from by kernel_rfl⟩ (bn.cons ⟨by kernel_rfl,show Tryz.prog.underlying 5=some (.int .u8)from by kernel_rfl⟩ (bn.cons ⟨by kernel_rfl,show Tryz.prog.underlying 9=some (.string)from by kernel_rfl⟩ (bn.cons ⟨by kernel_rfl,show Tryz.prog.underlying 22=some (.slice 100)from by kernel_rfl⟩ (bn.cons ⟨by kernel_rfl,show Tryz.prog.underlying 23=some (.slice 103)from by kernel_rfl⟩ (bn.cons ⟨by kernel_rfl,show structOf Tryz.prog 25=some [(0,22),(1,23)]from by kernel_rfl⟩ (bn.cons ⟨by kernel_rfl,show structOf Tryz.prog 27=some [(0,2),(1,2),(2,9),(3,9),(4,9),(5,9)]from by kernel_rfl⟩ (bn.cons ⟨by kernel_rfl,show Tryz.prog.underlying 32=some (.slice 91)from by kernel_rfl⟩ (bn.cons ⟨by kernel_rfl,show Tryz.prog.underlying 33=some (.slice 85)from by kernel_rfl⟩ (bn.cons ⟨by kernel_rfl,show structOf Tryz.prog 35=some [(0,32),(1,33)]from by kernel_rfl⟩ (bn.cons ⟨by kernel_rfl,show structOf Tryz.prog 37=some [(0,2),(1,2),(2,9),(3,9),(4,9),(5,9)]from by kernel_rfl⟩ (bn.cons ⟨by kernel_rfl,show structOf Tryz.prog 83=some [(0,2),(1,2)]from by kernel_rfl⟩ (bn.cons ⟨by kernel_rfl,show structOf Tryz.prog 85=some [(0,9),(1,9),(2,83)]from by kernel_rfl⟩ (bn.cons ⟨by kernel_rfl,show Tryz.prog.underlying 89=some (.slice 169)from by kernel_rfl⟩ (bn.cons ⟨by kernel_rfl,show structOf Tryz.prog 91=some [(0,9),(1,2),(2,83),(4,89)]from by kernel_rfl⟩ (bn.cons ⟨by kernel_rfl,show structOf Tryz.prog 97=some [(0,2),(1,2)]from by kernel_rfl⟩ (bn.cons ⟨by kernel_rfl,show Tryz.prog.underlying 98=some (.slice 190)from by kernel_rfl⟩ (bn.cons ⟨by kernel_rfl,show structOf Tryz.prog 100=some [(0,9),(1,2),(2,97),(4,98)]from by kernel_rfl⟩ (bn.cons ⟨by kernel_rfl,show structOf Tryz.prog 103=some [(0,9),(1,9),(2,97)]from by kernel_rfl⟩ (bn.cons ⟨by kernel_rfl,show Tryz.prog.underlying 106=some (.slice 9)from by kernel_rfl⟩ (bn.cons ⟨by kernel_rfl,show Tryz.prog.underlying 144=some (.slice 2)from by kernel_rfl⟩ (bn.cons ⟨by kernel_rfl,show structOf Tryz.prog 169=some [(0,9),(1,9),(2,2),(3,83)]from by kernel_rfl⟩ (bn.cons ⟨by kernel_rfl,show structOf Tryz.prog 190=some [(0,9),(1,9),(2,2),(3,97)]from by kernel_rfl⟩ (bn.cons ⟨by kernel_rfl,show Tryz.prog.underlying 209=some (.int .u64)from by kernel_rfl⟩ (bn.nil _))))))))))))))))))))))))))
theorem mixed:Tryz.prog.follows .mixedOrders=true:=by kernel_rfl
noncomputable def gB(aA:Name)(aR:Int):Option (Int):=
 (bif(decide ((aZ (aR -(aA.Text.size:Int)))<0))then some (-1)else(bif(decide ((aZ ((aZ (aR -(aA.Text.size:Int)))-(aA.Language.size:Int)))<0))then some (-1)else some (aZ ((aZ (aR -(aA.Text.size:Int)))-(aA.Language.size:Int)))))
theorem oW(aA:Name)(aR:Int)(r:Int)(h:gB aA aR=some r):aF Tryz.prog 171 [.v (.agg (tc af aA)),.v (vi aR)] ⟨[.v (vi r)],[],false⟩:=by
 refine ar Tryz.func171 rfl [(.tmp 4)] rfl (fun r=>⟨[.v (vi r)],[],false⟩) (r:=r) ?_
 unfold gB at h
 refine az aa ⟨20,[(1,vi aR),(2,.ref 2 0)],[(2,.box (tc af aA))]⟩ ?_
 refine az aa ⟨20,[(1,vi (aZ (aR -(aA.Text.size:Int)))),(2,.ref 2 0)],[(2,.box (tc af aA))]⟩ ?_
 refine ai ?_
 refine az aa ⟨20,[(1,vi (aZ (aR -(aA.Text.size:Int)))),(2,.ref 2 0),(11,vb (decide ((aZ (aR -(aA.Text.size:Int)))<0)))],[(2,.box (tc af aA))]⟩ ?_
 refine aq h (fun h=> ?_) fun h=> ?_
 refine az aa ⟨20,[(4,vi (-1))],[]⟩ ?_
 refine ak ?_
 obtain rfl:=inj h
 exact bS (aD (f1 fv))
 refine an ?_
 refine a8 ?_
 refine az aa ⟨20,[(1,vi (aZ ((aZ (aR -(aA.Text.size:Int)))-(aA.Language.size:Int))))],[]⟩ ?_
 refine ai ?_
 refine az aa ⟨20,[(1,vi (aZ ((aZ (aR -(aA.Text.size:Int)))-(aA.Language.size:Int)))),(18,vb (decide ((aZ ((aZ (aR -(aA.Text.size:Int)))-(aA.Language.size:Int)))<0)))],[]⟩ ?_
 refine aq h (fun h=> ?_) fun h=> ?_
 refine az aa ⟨20,[(4,vi (-1))],[]⟩ ?_
 refine ak ?_
 obtain rfl:=inj h
 exact bS (aD (f1 fv))
 refine an ?_
 refine a8 ?_
 refine az aa ⟨20,[(4,vi (aZ ((aZ (aR -(aA.Text.size:Int)))-(aA.Language.size:Int))))],[]⟩ ?_
 refine ak ?_
 obtain rfl:=inj h
 exact aD (f1 fv)
theorem zk:a7 Tryz.prog 171:=aw Tryz.func171 (by kernel_rfl) rfl
noncomputable def gU(aA:(List Name))(aR:Int):Option (Int):=
 (bif(decide ((aZ (aR -(aA.length:Int)))<0))then some (-1)else(((cY (aA.length:Int) (fun(i3:Int) (s3:Int)=>((at' aA i3).bind fun x7=>((gB x7 s3).bind fun x8=>(bif(decide (x8<0))then some (.inr (.inr (-1)))else some (.inl x8))))) (fun(s3:Int)=> .inl s3) 0 (aZ (aR -(aA.length:Int))))).bind (Sum.elim (fun(j1:Int)=>some j1) some)))
theorem nU(aA:(List Name))(aR:Int)(r:Int)(h:gU aA aR=some r):aF Tryz.prog 124 [.v (vl af aA),.v (vi aR)] ⟨[.v (vi r)],[],false⟩:=by
 refine ar Tryz.func124 rfl [(.tmp 4)] rfl (fun r=>⟨[.v (vi r)],[],false⟩) (r:=r) ?_
 unfold gU at h
 refine az aa ⟨27,[(0,vl af aA),(1,vi aR)],[]⟩ ?_
 refine az aa ⟨27,[(0,vl af aA),(1,vi (aZ (aR -(aA.length:Int))))],[]⟩ ?_
 refine ai ?_
 refine az aa ⟨27,[(0,vl af aA),(1,vi (aZ (aR -(aA.length:Int)))),(11,vb (decide ((aZ (aR -(aA.length:Int)))<0)))],[]⟩ ?_
 refine aq h (fun h=> ?_) fun h=> ?_
 refine az aa ⟨27,[(4,vi (-1))],[]⟩ ?_
 refine ak ?_
 obtain rfl:=inj h
 exact bS (aD (f1 fv))
 refine an ?_
 refine a8 ?_
 refine ai ?_
 refine az aa ⟨27,[(0,vl af aA),(1,vi (aZ (aR -(aA.length:Int)))),(5,vi 0)],[]⟩ ?_
 refine bl (r:=r) h (fun j1=>⟨27,[(1,vi j1)],[]⟩) (fun v2 h=> ?_) (fun j1 h=> ?_)
 refine ax (a:=v2) ?_
 refine a6 (r:=v2) (s:=(0,(aZ (aR -(aA.length:Int))))) _ (fun s3=>⟨27,[(0,vl af aA),(1,vi s3.2),(5,vi s3.1)],[]⟩) _ (Le.ao) h (fun s3 v4 h=> ?_)
 refine ai ?_
 refine az aa ⟨27,[(0,vl af aA),(1,vi s3.2),(5,vi s3.1),(15,vb (decide (s3.1<(aA.length:Int))))],[]⟩ ?_
 refine aq h (fun h=> ?_) fun h=> ?_
 refine an ?_
 refine a8 ?_
 refine ai ?_
 refine bp (r:=v4) h (fun j5=>⟨27,[(0,vl af aA),(1,vi j5),(5,vi s3.1)],[]⟩) (fun v6 h=> ?_) (fun j5 h=> ?_)
 refine ax (a:=v6) ?_
 refine sr ?_
 refine ae.ck aa 2 ⟨27,[(0,vl af aA),(1,vi s3.2),(5,vi s3.1),(18,vl af aA),(19,vi s3.1)],[]⟩ ?_
 obtain⟨x7,hx7,h⟩:=bind_some h
 refine ae.ls (aG (L:=aA) (f:=af) (ti:=Bm) (tj:=yq) (e:=190) (k:= .i64) aa rfl hx7) ?_
 refine ae.ck aa 2 ⟨27,[(0,vl af aA),(5,vi s3.1),(21,.agg (tc af x7)),(22,vi s3.2)],[]⟩ ?_
 obtain⟨x8,hx8,h⟩:=bind_some h
 refine ae.ls (xc zk (oW x7 s3.2 _ hx8)) ?_
 refine bU aa 1 ⟨27,[(0,vl af aA),(1,vi x8),(5,vi s3.1)],[]⟩ ?_
 refine az aa ⟨27,[(0,vl af aA),(1,vi x8),(5,vi s3.1),(25,vb (decide (x8<0)))],[]⟩ ?_
 refine aq h (fun h=> ?_) fun h=> ?_
 refine az aa ⟨27,[(4,vi (-1))],[]⟩ ?_
 refine ak ?_
 obtain rfl:=inj h
 exact bw (bi (bi (bw (bi (aD (f1 fv))))))
 refine an ?_
 obtain rfl:=inj h
 exact bY (cb (Le.ao))
 refine aE ?_
 refine ae.ck aa 3 ⟨27,[(0,vl af aA),(1,vi j5),(5,vi (aZ (s3.1+1)))],[]⟩ ?_
 refine ae.nil ?_
 obtain rfl:=inj h
 exact cb (Le.ao)
 refine aO ?_
 obtain rfl:=inj h
 exact cH (cJ (cI (cb (Le.ao))))
 refine az aa ⟨27,[(4,vi j1)],[]⟩ ?_
 refine ak ?_
 obtain rfl:=inj h
 exact aD (f1 fv)
theorem yX:a7 Tryz.prog 124:=aw Tryz.func124 (by kernel_rfl) rfl
noncomputable def fJ(aA:Place)(aR:Int):Option (Int):=
 (bif(decide ((aZ (aR -(aA.Code.size:Int)))<0))then some (-1)else((gU aA.Names (aZ (aR -(aA.Code.size:Int)))).bind fun x1=>(bif(decide (x1<0))then some (-1)else some x1)))
theorem nV(aA:Place)(aR:Int)(r:Int)(h:fJ aA aR=some r):aF Tryz.prog 66 [.v (.agg (tc ab aA)),.v (vi aR)] ⟨[.v (vi r)],[],false⟩:=by
 refine ar Tryz.func66 rfl [(.tmp 4)] rfl (fun r=>⟨[.v (vi r)],[],false⟩) (r:=r) ?_
 unfold fJ at h
 refine az aa ⟨19,[(1,vi aR),(2,.ref 2 0)],[(2,.box (tc ab aA))]⟩ ?_
 refine az aa ⟨19,[(1,vi (aZ (aR -(aA.Code.size:Int)))),(2,.ref 2 0)],[(2,.box (tc ab aA))]⟩ ?_
 refine ai ?_
 refine az aa ⟨19,[(1,vi (aZ (aR -(aA.Code.size:Int)))),(2,.ref 2 0),(11,vb (decide ((aZ (aR -(aA.Code.size:Int)))<0)))],[(2,.box (tc ab aA))]⟩ ?_
 refine aq h (fun h=> ?_) fun h=> ?_
 refine az aa ⟨19,[(4,vi (-1))],[]⟩ ?_
 refine ak ?_
 obtain rfl:=inj h
 exact bS (aD (f1 fv))
 refine an ?_
 refine a8 ?_
 refine sr ?_
 refine ae.ck aa 3 ⟨19,[(13,vl af aA.Names),(14,vi (aZ (aR -(aA.Code.size:Int))))],[]⟩ ?_
 obtain⟨x1,hx1,h⟩:=bind_some h
 refine ae.ls (xc yX (nU aA.Names (aZ (aR -(aA.Code.size:Int))) _ hx1)) ?_
 refine bU aa 1 ⟨19,[(1,vi x1)],[]⟩ ?_
 refine ai ?_
 refine az aa ⟨19,[(1,vi x1),(17,vb (decide (x1<0)))],[]⟩ ?_
 refine aq h (fun h=> ?_) fun h=> ?_
 refine az aa ⟨19,[(4,vi (-1))],[]⟩ ?_
 refine ak ?_
 obtain rfl:=inj h
 exact bS (aD (f1 fv))
 refine an ?_
 refine a8 ?_
 refine az aa ⟨19,[(4,vi x1)],[]⟩ ?_
 refine ak ?_
 obtain rfl:=inj h
 exact aD (f1 fv)
theorem AS:a7 Tryz.prog 66:=aw Tryz.func66 (by kernel_rfl) rfl
noncomputable def ga(aA:(List Place))(aR:Int):Option (Int):=
 (bif(decide ((aZ (aR -(aA.length:Int)))<0))then some (-1)else(((cY (aA.length:Int) (fun(i3:Int) (s3:Int)=>((at' aA i3).bind fun x7=>((fJ x7 s3).bind fun x8=>(bif(decide (x8<0))then some (.inr (.inr (-1)))else some (.inl x8))))) (fun(s3:Int)=> .inl s3) 0 (aZ (aR -(aA.length:Int))))).bind (Sum.elim (fun(j1:Int)=>some j1) some)))
theorem nf(aA:(List Place))(aR:Int)(r:Int)(h:ga aA aR=some r):aF Tryz.prog 31 [.v (vl ab aA),.v (vi aR)] ⟨[.v (vi r)],[],false⟩:=by
 refine ar Tryz.func31 rfl [(.tmp 4)] rfl (fun r=>⟨[.v (vi r)],[],false⟩) (r:=r) ?_
 unfold ga at h
 refine az aa ⟨27,[(0,vl ab aA),(1,vi aR)],[]⟩ ?_
 refine az aa ⟨27,[(0,vl ab aA),(1,vi (aZ (aR -(aA.length:Int))))],[]⟩ ?_
 refine ai ?_
 refine az aa ⟨27,[(0,vl ab aA),(1,vi (aZ (aR -(aA.length:Int)))),(11,vb (decide ((aZ (aR -(aA.length:Int)))<0)))],[]⟩ ?_
 refine aq h (fun h=> ?_) fun h=> ?_
 refine az aa ⟨27,[(4,vi (-1))],[]⟩ ?_
 refine ak ?_
 obtain rfl:=inj h
 exact bS (aD (f1 fv))
 refine an ?_
 refine a8 ?_
 refine ai ?_
 refine az aa ⟨27,[(0,vl ab aA),(1,vi (aZ (aR -(aA.length:Int)))),(5,vi 0)],[]⟩ ?_
 refine bl (r:=r) h (fun j1=>⟨27,[(1,vi j1)],[]⟩) (fun v2 h=> ?_) (fun j1 h=> ?_)
 refine ax (a:=v2) ?_
 refine a6 (r:=v2) (s:=(0,(aZ (aR -(aA.length:Int))))) _ (fun s3=>⟨27,[(0,vl ab aA),(1,vi s3.2),(5,vi s3.1)],[]⟩) _ (Le.ao) h (fun s3 v4 h=> ?_)
 refine ai ?_
 refine az aa ⟨27,[(0,vl ab aA),(1,vi s3.2),(5,vi s3.1),(15,vb (decide (s3.1<(aA.length:Int))))],[]⟩ ?_
 refine aq h (fun h=> ?_) fun h=> ?_
 refine an ?_
 refine a8 ?_
 refine ai ?_
 refine bp (r:=v4) h (fun j5=>⟨27,[(0,vl ab aA),(1,vi j5),(5,vi s3.1)],[]⟩) (fun v6 h=> ?_) (fun j5 h=> ?_)
 refine ax (a:=v6) ?_
 refine sr ?_
 refine ae.ck aa 2 ⟨27,[(0,vl ab aA),(1,vi s3.2),(5,vi s3.1),(18,vl ab aA),(19,vi s3.1)],[]⟩ ?_
 obtain⟨x7,hx7,h⟩:=bind_some h
 refine ae.ls (aG (L:=aA) (f:=ab) (ti:=Bk) (tj:=yo) (e:=100) (k:= .i64) aa rfl hx7) ?_
 refine ae.ck aa 2 ⟨27,[(0,vl ab aA),(5,vi s3.1),(21,.agg (tc ab x7)),(22,vi s3.2)],[]⟩ ?_
 obtain⟨x8,hx8,h⟩:=bind_some h
 refine ae.ls (xc AS (nV x7 s3.2 _ hx8)) ?_
 refine bU aa 1 ⟨27,[(0,vl ab aA),(1,vi x8),(5,vi s3.1)],[]⟩ ?_
 refine az aa ⟨27,[(0,vl ab aA),(1,vi x8),(5,vi s3.1),(25,vb (decide (x8<0)))],[]⟩ ?_
 refine aq h (fun h=> ?_) fun h=> ?_
 refine az aa ⟨27,[(4,vi (-1))],[]⟩ ?_
 refine ak ?_
 obtain rfl:=inj h
 exact bw (bi (bi (bw (bi (aD (f1 fv))))))
 refine an ?_
 obtain rfl:=inj h
 exact bY (cb (Le.ao))
 refine aE ?_
 refine ae.ck aa 3 ⟨27,[(0,vl ab aA),(1,vi j5),(5,vi (aZ (s3.1+1)))],[]⟩ ?_
 refine ae.nil ?_
 obtain rfl:=inj h
 exact cb (Le.ao)
 refine aO ?_
 obtain rfl:=inj h
 exact cH (cJ (cI (cb (Le.ao))))
 refine az aa ⟨27,[(4,vi j1)],[]⟩ ?_
 refine ak ?_
 obtain rfl:=inj h
 exact aD (f1 fv)
theorem AI:a7 Tryz.prog 31:=aw Tryz.func31 (by kernel_rfl) rfl
noncomputable def gA(aA:au)(aR:Int):Option (Int):=
 (bif(decide ((aZ (aR -(aA.Child.size:Int)))<0))then some (-1)else(bif(decide ((aZ ((aZ (aR -(aA.Child.size:Int)))-(aA.Parent.size:Int)))<0))then some (-1)else some (aZ ((aZ (aR -(aA.Child.size:Int)))-(aA.Parent.size:Int)))))
theorem oV(aA:au)(aR:Int)(r:Int)(h:gA aA aR=some r):aF Tryz.prog 67 [.v (.agg (tc ac aA)),.v (vi aR)] ⟨[.v (vi r)],[],false⟩:=by
 refine ar Tryz.func67 rfl [(.tmp 4)] rfl (fun r=>⟨[.v (vi r)],[],false⟩) (r:=r) ?_
 unfold gA at h
 refine az aa ⟨20,[(1,vi aR),(2,.ref 2 0)],[(2,.box (tc ac aA))]⟩ ?_
 refine az aa ⟨20,[(1,vi (aZ (aR -(aA.Child.size:Int)))),(2,.ref 2 0)],[(2,.box (tc ac aA))]⟩ ?_
 refine ai ?_
 refine az aa ⟨20,[(1,vi (aZ (aR -(aA.Child.size:Int)))),(2,.ref 2 0),(11,vb (decide ((aZ (aR -(aA.Child.size:Int)))<0)))],[(2,.box (tc ac aA))]⟩ ?_
 refine aq h (fun h=> ?_) fun h=> ?_
 refine az aa ⟨20,[(4,vi (-1))],[]⟩ ?_
 refine ak ?_
 obtain rfl:=inj h
 exact bS (aD (f1 fv))
 refine an ?_
 refine a8 ?_
 refine az aa ⟨20,[(1,vi (aZ ((aZ (aR -(aA.Child.size:Int)))-(aA.Parent.size:Int))))],[]⟩ ?_
 refine ai ?_
 refine az aa ⟨20,[(1,vi (aZ ((aZ (aR -(aA.Child.size:Int)))-(aA.Parent.size:Int)))),(18,vb (decide ((aZ ((aZ (aR -(aA.Child.size:Int)))-(aA.Parent.size:Int)))<0)))],[]⟩ ?_
 refine aq h (fun h=> ?_) fun h=> ?_
 refine az aa ⟨20,[(4,vi (-1))],[]⟩ ?_
 refine ak ?_
 obtain rfl:=inj h
 exact bS (aD (f1 fv))
 refine an ?_
 refine a8 ?_
 refine az aa ⟨20,[(4,vi (aZ ((aZ (aR -(aA.Child.size:Int)))-(aA.Parent.size:Int))))],[]⟩ ?_
 refine ak ?_
 obtain rfl:=inj h
 exact aD (f1 fv)
theorem AT:a7 Tryz.prog 67:=aw Tryz.func67 (by kernel_rfl) rfl
noncomputable def gT(aA:(List au))(aR:Int):Option (Int):=
 (bif(decide ((aZ (aR -(aA.length:Int)))<0))then some (-1)else(((cY (aA.length:Int) (fun(i3:Int) (s3:Int)=>((at' aA i3).bind fun x7=>((gA x7 s3).bind fun x8=>(bif(decide (x8<0))then some (.inr (.inr (-1)))else some (.inl x8))))) (fun(s3:Int)=> .inl s3) 0 (aZ (aR -(aA.length:Int))))).bind (Sum.elim (fun(j1:Int)=>some j1) some)))
theorem nT(aA:(List au))(aR:Int)(r:Int)(h:gT aA aR=some r):aF Tryz.prog 32 [.v (vl ac aA),.v (vi aR)] ⟨[.v (vi r)],[],false⟩:=by
 refine ar Tryz.func32 rfl [(.tmp 4)] rfl (fun r=>⟨[.v (vi r)],[],false⟩) (r:=r) ?_
 unfold gT at h
 refine az aa ⟨27,[(0,vl ac aA),(1,vi aR)],[]⟩ ?_
 refine az aa ⟨27,[(0,vl ac aA),(1,vi (aZ (aR -(aA.length:Int))))],[]⟩ ?_
 refine ai ?_
 refine az aa ⟨27,[(0,vl ac aA),(1,vi (aZ (aR -(aA.length:Int)))),(11,vb (decide ((aZ (aR -(aA.length:Int)))<0)))],[]⟩ ?_
 refine aq h (fun h=> ?_) fun h=> ?_
 refine az aa ⟨27,[(4,vi (-1))],[]⟩ ?_
 refine ak ?_
 obtain rfl:=inj h
 exact bS (aD (f1 fv))
 refine an ?_
 refine a8 ?_
 refine ai ?_
 refine az aa ⟨27,[(0,vl ac aA),(1,vi (aZ (aR -(aA.length:Int)))),(5,vi 0)],[]⟩ ?_
 refine bl (r:=r) h (fun j1=>⟨27,[(1,vi j1)],[]⟩) (fun v2 h=> ?_) (fun j1 h=> ?_)
 refine ax (a:=v2) ?_
 refine a6 (r:=v2) (s:=(0,(aZ (aR -(aA.length:Int))))) _ (fun s3=>⟨27,[(0,vl ac aA),(1,vi s3.2),(5,vi s3.1)],[]⟩) _ (Le.ao) h (fun s3 v4 h=> ?_)
 refine ai ?_
 refine az aa ⟨27,[(0,vl ac aA),(1,vi s3.2),(5,vi s3.1),(15,vb (decide (s3.1<(aA.length:Int))))],[]⟩ ?_
 refine aq h (fun h=> ?_) fun h=> ?_
 refine an ?_
 refine a8 ?_
 refine ai ?_
 refine bp (r:=v4) h (fun j5=>⟨27,[(0,vl ac aA),(1,vi j5),(5,vi s3.1)],[]⟩) (fun v6 h=> ?_) (fun j5 h=> ?_)
 refine ax (a:=v6) ?_
 refine sr ?_
 refine ae.ck aa 2 ⟨27,[(0,vl ac aA),(1,vi s3.2),(5,vi s3.1),(18,vl ac aA),(19,vi s3.1)],[]⟩ ?_
 obtain⟨x7,hx7,h⟩:=bind_some h
 refine ae.ls (aG (L:=aA) (f:=ac) (ti:=Bl) (tj:=yp) (e:=103) (k:= .i64) aa rfl hx7) ?_
 refine ae.ck aa 2 ⟨27,[(0,vl ac aA),(5,vi s3.1),(21,.agg (tc ac x7)),(22,vi s3.2)],[]⟩ ?_
 obtain⟨x8,hx8,h⟩:=bind_some h
 refine ae.ls (xc AT (oV x7 s3.2 _ hx8)) ?_
 refine bU aa 1 ⟨27,[(0,vl ac aA),(1,vi x8),(5,vi s3.1)],[]⟩ ?_
 refine az aa ⟨27,[(0,vl ac aA),(1,vi x8),(5,vi s3.1),(25,vb (decide (x8<0)))],[]⟩ ?_
 refine aq h (fun h=> ?_) fun h=> ?_
 refine az aa ⟨27,[(4,vi (-1))],[]⟩ ?_
 refine ak ?_
 obtain rfl:=inj h
 exact bw (bi (bi (bw (bi (aD (f1 fv))))))
 refine an ?_
 obtain rfl:=inj h
 exact bY (cb (Le.ao))
 refine aE ?_
 refine ae.ck aa 3 ⟨27,[(0,vl ac aA),(1,vi j5),(5,vi (aZ (s3.1+1)))],[]⟩ ?_
 refine ae.nil ?_
 obtain rfl:=inj h
 exact cb (Le.ao)
 refine aO ?_
 obtain rfl:=inj h
 exact cH (cJ (cI (cb (Le.ao))))
 refine az aa ⟨27,[(4,vi j1)],[]⟩ ?_
 refine ak ?_
 obtain rfl:=inj h
 exact aD (f1 fv)
theorem AJ:a7 Tryz.prog 32:=aw Tryz.func32 (by kernel_rfl) rfl
noncomputable def gV(aA:World)(aR:Int):Option (Int):=
 ((ga aA.Places aR).bind fun x1=>(bif(decide (x1<0))then some (-1)else((gT aA.Links x1).bind fun x2=>(bif(decide (x2<0))then some (-1)else some x2))))
theorem nW(aA:World)(aR:Int)(r:Int)(h:gV aA aR=some r):aF Tryz.prog 7 [.v (.agg (tc aj aA)),.v (vi aR)] ⟨[.v (vi r)],[],false⟩:=by
 refine ar Tryz.func7 rfl [(.tmp 4)] rfl (fun r=>⟨[.v (vi r)],[],false⟩) (r:=r) ?_
 unfold gV at h
 refine az aa ⟨18,[(1,vi aR),(2,.ref 2 0)],[(2,.box (tc aj aA))]⟩ ?_
 refine sr ?_
 refine ae.ck aa 3 ⟨18,[(2,.ref 2 0),(6,vl ab aA.Places),(7,vi aR)],[(2,.box (tc aj aA))]⟩ ?_
 obtain⟨x1,hx1,h⟩:=bind_some h
 refine ae.ls (xc AI (nf aA.Places aR _ hx1)) ?_
 refine bU aa 1 ⟨18,[(1,vi x1),(2,.ref 2 0)],[(2,.box (tc aj aA))]⟩ ?_
 refine ai ?_
 refine az aa ⟨18,[(1,vi x1),(2,.ref 2 0),(10,vb (decide (x1<0)))],[(2,.box (tc aj aA))]⟩ ?_
 refine aq h (fun h=> ?_) fun h=> ?_
 refine az aa ⟨18,[(4,vi (-1))],[]⟩ ?_
 refine ak ?_
 obtain rfl:=inj h
 exact bS (aD (f1 fv))
 refine an ?_
 refine a8 ?_
 refine sr ?_
 refine ae.ck aa 3 ⟨18,[(12,vl ac aA.Links),(13,vi x1)],[]⟩ ?_
 obtain⟨x2,hx2,h⟩:=bind_some h
 refine ae.ls (xc AJ (nT aA.Links x1 _ hx2)) ?_
 refine bU aa 1 ⟨18,[(1,vi x2)],[]⟩ ?_
 refine ai ?_
 refine az aa ⟨18,[(1,vi x2),(16,vb (decide (x2<0)))],[]⟩ ?_
 refine aq h (fun h=> ?_) fun h=> ?_
 refine az aa ⟨18,[(4,vi (-1))],[]⟩ ?_
 refine ak ?_
 obtain rfl:=inj h
 exact bS (aD (f1 fv))
 refine an ?_
 refine a8 ?_
 refine az aa ⟨18,[(4,vi x2)],[]⟩ ?_
 refine ak ?_
 obtain rfl:=inj h
 exact aD (f1 fv)
theorem BB:a7 Tryz.prog 7:=aw Tryz.func7 (by kernel_rfl) rfl
noncomputable def fZ(aA:Change)(aR:Int):Option (Int):=
 (bif(decide ((aZ (aR -(aA.Code.size:Int)))<0))then some (-1)else(bif(decide ((aZ ((aZ (aR -(aA.Code.size:Int)))-(aA.Other.size:Int)))<0))then some (-1)else(bif(decide ((aZ ((aZ ((aZ (aR -(aA.Code.size:Int)))-(aA.Other.size:Int)))-(aA.Language.size:Int)))<0))then some (-1)else(bif(decide ((aZ ((aZ ((aZ ((aZ (aR -(aA.Code.size:Int)))-(aA.Other.size:Int)))-(aA.Language.size:Int)))-(aA.Text.size:Int)))<0))then some (-1)else some (aZ ((aZ ((aZ ((aZ (aR -(aA.Code.size:Int)))-(aA.Other.size:Int)))-(aA.Language.size:Int)))-(aA.Text.size:Int)))))))
theorem nd(aA:Change)(aR:Int)(r:Int)(h:fZ aA aR=some r):aF Tryz.prog 8 [.v (.agg (tc ah aA)),.v (vi aR)] ⟨[.v (vi r)],[],false⟩:=by
 refine ar Tryz.func8 rfl [(.tmp 4)] rfl (fun r=>⟨[.v (vi r)],[],false⟩) (r:=r) ?_
 unfold fZ at h
 refine az aa ⟨34,[(1,vi aR),(2,.ref 2 0)],[(2,.box (tc ah aA))]⟩ ?_
 refine az aa ⟨34,[(1,vi (aZ (aR -(aA.Code.size:Int)))),(2,.ref 2 0)],[(2,.box (tc ah aA))]⟩ ?_
 refine ai ?_
 refine az aa ⟨34,[(1,vi (aZ (aR -(aA.Code.size:Int)))),(2,.ref 2 0),(11,vb (decide ((aZ (aR -(aA.Code.size:Int)))<0)))],[(2,.box (tc ah aA))]⟩ ?_
 refine aq h (fun h=> ?_) fun h=> ?_
 refine az aa ⟨34,[(4,vi (-1))],[]⟩ ?_
 refine ak ?_
 obtain rfl:=inj h
 exact bS (aD (f1 fv))
 refine an ?_
 refine a8 ?_
 refine az aa ⟨34,[(1,vi (aZ ((aZ (aR -(aA.Code.size:Int)))-(aA.Other.size:Int)))),(2,.ref 2 0)],[(2,.box (tc ah aA))]⟩ ?_
 refine ai ?_
 refine az aa ⟨34,[(1,vi (aZ ((aZ (aR -(aA.Code.size:Int)))-(aA.Other.size:Int)))),(2,.ref 2 0),(18,vb (decide ((aZ ((aZ (aR -(aA.Code.size:Int)))-(aA.Other.size:Int)))<0)))],[(2,.box (tc ah aA))]⟩ ?_
 refine aq h (fun h=> ?_) fun h=> ?_
 refine az aa ⟨34,[(4,vi (-1))],[]⟩ ?_
 refine ak ?_
 obtain rfl:=inj h
 exact bS (aD (f1 fv))
 refine an ?_
 refine a8 ?_
 refine az aa ⟨34,[(1,vi (aZ ((aZ ((aZ (aR -(aA.Code.size:Int)))-(aA.Other.size:Int)))-(aA.Language.size:Int)))),(2,.ref 2 0)],[(2,.box (tc ah aA))]⟩ ?_
 refine ai ?_
 refine az aa ⟨34,[(1,vi (aZ ((aZ ((aZ (aR -(aA.Code.size:Int)))-(aA.Other.size:Int)))-(aA.Language.size:Int)))),(2,.ref 2 0),(25,vb (decide ((aZ ((aZ ((aZ (aR -(aA.Code.size:Int)))-(aA.Other.size:Int)))-(aA.Language.size:Int)))<0)))],[(2,.box (tc ah aA))]⟩ ?_
 refine aq h (fun h=> ?_) fun h=> ?_
 refine az aa ⟨34,[(4,vi (-1))],[]⟩ ?_
 refine ak ?_
 obtain rfl:=inj h
 exact bS (aD (f1 fv))
 refine an ?_
 refine a8 ?_
 refine az aa ⟨34,[(1,vi (aZ ((aZ ((aZ ((aZ (aR -(aA.Code.size:Int)))-(aA.Other.size:Int)))-(aA.Language.size:Int)))-(aA.Text.size:Int))))],[]⟩ ?_
 refine ai ?_
 refine az aa ⟨34,[(1,vi (aZ ((aZ ((aZ ((aZ (aR -(aA.Code.size:Int)))-(aA.Other.size:Int)))-(aA.Language.size:Int)))-(aA.Text.size:Int)))),(32,vb (decide ((aZ ((aZ ((aZ ((aZ (aR -(aA.Code.size:Int)))-(aA.Other.size:Int)))-(aA.Language.size:Int)))-(aA.Text.size:Int)))<0)))],[]⟩ ?_
 refine aq h (fun h=> ?_) fun h=> ?_
 refine az aa ⟨34,[(4,vi (-1))],[]⟩ ?_
 refine ak ?_
 obtain rfl:=inj h
 exact bS (aD (f1 fv))
 refine an ?_
 refine a8 ?_
 refine az aa ⟨34,[(4,vi (aZ ((aZ ((aZ ((aZ (aR -(aA.Code.size:Int)))-(aA.Other.size:Int)))-(aA.Language.size:Int)))-(aA.Text.size:Int))))],[]⟩ ?_
 refine ak ?_
 obtain rfl:=inj h
 exact aD (f1 fv)
theorem BC:a7 Tryz.prog 8:=aw Tryz.func8 (by kernel_rfl) rfl
noncomputable def eV(aA:Change):Option (Change):=
 some aA
theorem jN(aA:Change)(r:Change)(h:eV aA=some r):aF Tryz.prog 11 [.v (.agg (tc ah aA))] ⟨[.v (.agg (tc ah r))],[],false⟩:=by
 refine ar Tryz.func11 rfl [(.cell 2 37)] rfl (fun r=>⟨[.v (.agg (tc ah r))],[],false⟩) (r:=r) ?_
 unfold eV at h
 refine az aa ⟨23,[(1,.ref 1 0),(2,.ref 2 0)],[(1,.box (tc ah aA)),(2,.box [vi 0,vi 0,vs (ByteArray.mk #[]),vs (ByteArray.mk #[]),vs (ByteArray.mk #[]),vs (ByteArray.mk #[])])]⟩ ?_
 refine az aa ⟨23,[(1,.ref 1 0),(2,.ref 2 0),(3,.ref 3 0)],[(1,.box (tc ah aA)),(2,.box [vi 0,vi 0,vs (ByteArray.mk #[]),vs (ByteArray.mk #[]),vs (ByteArray.mk #[]),vs (ByteArray.mk #[])]),(3,.box [vi 0,vi 0,vs (ByteArray.mk #[]),vs (ByteArray.mk #[]),vs (ByteArray.mk #[]),vs (ByteArray.mk #[])])]⟩ ?_
 refine az aa ⟨23,[(1,.ref 1 0),(2,.ref 2 0),(3,.ref 3 0)],[(1,.box (tc ah aA)),(2,.box [vi 0,vi 0,vs (ByteArray.mk #[]),vs (ByteArray.mk #[]),vs (ByteArray.mk #[]),vs (ByteArray.mk #[])]),(3,.box [vi aA.Year,vi 0,vs (ByteArray.mk #[]),vs (ByteArray.mk #[]),vs (ByteArray.mk #[]),vs (ByteArray.mk #[])])]⟩ ?_
 refine az aa ⟨23,[(1,.ref 1 0),(2,.ref 2 0),(3,.ref 3 0)],[(1,.box (tc ah aA)),(2,.box [vi 0,vi 0,vs (ByteArray.mk #[]),vs (ByteArray.mk #[]),vs (ByteArray.mk #[]),vs (ByteArray.mk #[])]),(3,.box [vi aA.Year,vi aA.Kind,vs (ByteArray.mk #[]),vs (ByteArray.mk #[]),vs (ByteArray.mk #[]),vs (ByteArray.mk #[])])]⟩ ?_
 refine az aa ⟨23,[(1,.ref 1 0),(2,.ref 2 0),(3,.ref 3 0)],[(1,.box (tc ah aA)),(2,.box [vi 0,vi 0,vs (ByteArray.mk #[]),vs (ByteArray.mk #[]),vs (ByteArray.mk #[]),vs (ByteArray.mk #[])]),(3,.box [vi aA.Year,vi aA.Kind,vs aA.Code,vs (ByteArray.mk #[]),vs (ByteArray.mk #[]),vs (ByteArray.mk #[])])]⟩ ?_
 refine az aa ⟨23,[(1,.ref 1 0),(2,.ref 2 0),(3,.ref 3 0)],[(1,.box (tc ah aA)),(2,.box [vi 0,vi 0,vs (ByteArray.mk #[]),vs (ByteArray.mk #[]),vs (ByteArray.mk #[]),vs (ByteArray.mk #[])]),(3,.box [vi aA.Year,vi aA.Kind,vs aA.Code,vs aA.Other,vs (ByteArray.mk #[]),vs (ByteArray.mk #[])])]⟩ ?_
 refine az aa ⟨23,[(1,.ref 1 0),(2,.ref 2 0),(3,.ref 3 0)],[(1,.box (tc ah aA)),(2,.box [vi 0,vi 0,vs (ByteArray.mk #[]),vs (ByteArray.mk #[]),vs (ByteArray.mk #[]),vs (ByteArray.mk #[])]),(3,.box [vi aA.Year,vi aA.Kind,vs aA.Code,vs aA.Other,vs aA.Language,vs (ByteArray.mk #[])])]⟩ ?_
 refine az aa ⟨23,[(2,.ref 2 0),(3,.ref 3 0)],[(2,.box [vi 0,vi 0,vs (ByteArray.mk #[]),vs (ByteArray.mk #[]),vs (ByteArray.mk #[]),vs (ByteArray.mk #[])]),(3,.box (tc ah aA))]⟩ ?_
 refine az aa ⟨23,[(2,.ref 2 0)],[(2,.box (tc ah aA))]⟩ ?_
 refine ak ?_
 obtain rfl:=inj h
 exact aD (f1 (fc aa))
theorem xq:a7 Tryz.prog 11:=aw Tryz.func11 (by kernel_rfl) rfl
noncomputable def cU(aN:Int)(eZ:Int)(cP:Int):Option (Bool):=
 some ((decide (aN≥eZ))&&(decide (aN≤cP)))
theorem cy(aN:Int)(eZ:Int)(cP:Int)(r:Bool)(h:cU aN eZ cP=some r):aF Tryz.prog 166 [.v (vi aN),.v (vi eZ),.v (vi cP)] ⟨[.v (vb r)],[],false⟩:=by
 refine ar Tryz.func166 rfl [(.tmp 6)] rfl (fun r=>⟨[.v (vb r)],[],false⟩) (r:=r) ?_
 unfold cU at h
 refine az aa ⟨15,[(0,vi aN),(1,vi eZ),(2,vi cP)],[]⟩ ?_
 refine ai ?_
 refine cQ ⟨15,[(6,vb ((decide (aN≥eZ))&&(decide (aN≤cP))))],[]⟩ ?_ ?_
 refine ae.ck aa 4 ⟨15,[(0,vi aN),(2,vi cP),(10,vb (decide (aN≥eZ)))],[]⟩ ?_
 generalize (decide (aN≥eZ))=bb
 cases bb
 refine ae.ck aa 5 ⟨15,[(6,vb false)],[]⟩ ?_
 exact ae.nil (Le.ao)
 refine ae.ck aa 5 ⟨15,[(6,vb (decide (aN≤cP)))],[]⟩ ?_
 exact ae.nil (Le.ao)
 refine ak ?_
 obtain rfl:=inj h
 exact aD (f1 fv)
theorem iw:a7 Tryz.prog 166:=aw Tryz.func166 (by kernel_rfl) rfl
noncomputable def cN(aS:ByteArray):Option (Bool):=
 (((cY (aS.size:Int) (fun(i3:Int) (_:Unit)=>((((kM aS i3).bind fun x7=>(bif(decide (x7<97))then some true else((kM aS i3).bind fun x8=>some (decide (x8>122)))))).bind fun(j9:Bool)=>(bif j9 then some (.inr (.inr false))else some (.inl ())))) (fun(_:Unit)=> .inl ()) 0 ())).bind (Sum.elim (fun(_:Unit)=>((cU (aS.size:Int) 1 16).bind fun x11=>some x11)) some))
theorem cO(aS:ByteArray)(r:Bool)(h:cN aS=some r):aF Tryz.prog 165 [.v (vs aS)] ⟨[.v (vb r)],[],false⟩:=by
 refine ar Tryz.func165 rfl [(.tmp 2)] rfl (fun r=>⟨[.v (vb r)],[],false⟩) (r:=r) ?_
 unfold cN at h
 refine az aa ⟨23,[(0,vs aS)],[]⟩ ?_
 refine ai ?_
 refine az aa ⟨23,[(0,vs aS),(3,vi 0)],[]⟩ ?_
 refine bl (r:=r) h (fun j1=>⟨23,[(0,vs aS)],[]⟩) (fun v2 h=> ?_) (fun j1 h=> ?_)
 refine ax (a:=v2) ?_
 refine a6 (r:=v2) (s:=(0,())) _ (fun s3=>⟨23,[(0,vs aS),(3,vi s3.1)],[]⟩) _ (Le.ao) h (fun s3 v4 h=> ?_)
 refine ai ?_
 refine az aa ⟨23,[(0,vs aS),(3,vi s3.1),(7,vb (decide (s3.1<(aS.size:Int))))],[]⟩ ?_
 refine aq h (fun h=> ?_) fun h=> ?_
 refine an ?_
 refine a8 ?_
 refine ai ?_
 refine bp (r:=v4) h (fun j5=>⟨23,[(0,vs aS),(3,vi s3.1)],[]⟩) (fun v6 h=> ?_) (fun j5 h=> ?_)
 refine ax (a:=v6) ?_
 refine ai ?_
 refine bk h (fun j9=>⟨23,[(0,vs aS),(3,vi s3.1),(19,vb j9)],[]⟩) (fun v10 h=> ?_) (fun j9 h=> ?_)
 refine ae.ck aa 2 ⟨23,[(0,vs aS),(3,vi s3.1),(10,vs aS),(11,vi s3.1)],[]⟩ ?_
 obtain⟨x7,hx7,h⟩:=bind_some h
 refine ae.ls (qz (ti:=ig) (k:= .i64) hx7 aa rfl) ?_
 refine ae.ck aa 2 ⟨23,[(0,vs aS),(3,vi s3.1),(14,vb (decide (x7<97)))],[]⟩ ?_
 refine ae.cu [(14,fun b=>b)] h (fun h=> ?_) fun h=> ?_
 refine ae.ck aa 5 ⟨23,[(0,vs aS),(3,vi s3.1),(19,vb true)],[]⟩ ?_
 refine ae.nil ?_
 obtain rfl:=inj h
 exact Le.ao
 refine ae.ck aa 2 ⟨23,[(0,vs aS),(3,vi s3.1),(14,vb false),(15,vs aS),(16,vi s3.1)],[]⟩ ?_
 obtain⟨x8,hx8,h⟩:=bind_some h
 refine ae.ls (qz (ti:=ig) (k:= .i64) hx8 aa rfl) ?_
 refine ae.ck aa 2 ⟨23,[(0,vs aS),(3,vi s3.1),(19,vb (decide (x8>122)))],[]⟩ ?_
 refine ae.nil ?_
 obtain rfl:=inj h
 exact Le.ao
 refine aq h (fun h=> ?_) fun h=> ?_
 refine az aa ⟨23,[(2,vb false)],[]⟩ ?_
 refine ak ?_
 obtain rfl:=inj h
 exact bw (bi (bi (bw (bi (aD (f1 fv))))))
 refine an ?_
 obtain rfl:=inj h
 exact bY (cb (Le.ao))
 refine aE ?_
 refine ae.ck aa 3 ⟨23,[(0,vs aS),(3,vi (aZ (s3.1+1)))],[]⟩ ?_
 refine ae.nil ?_
 obtain rfl:=inj h
 exact cb (Le.ao)
 refine aO ?_
 obtain rfl:=inj h
 exact cH (cJ (cI (cb (Le.ao))))
 refine sr ?_
 refine ae.ck aa 2 ⟨23,[(21,vi (aS.size:Int))],[]⟩ ?_
 obtain⟨x11,hx11,h⟩:=bind_some h
 refine ae.ls (xc iw (cy (aS.size:Int) 1 16 _ hx11)) ?_
 refine bU aa 1 ⟨23,[(2,vb x11)],[]⟩ ?_
 refine ak ?_
 obtain rfl:=inj h
 exact aD (f1 fv)
theorem jH:a7 Tryz.prog 165:=aw Tryz.func165 (by kernel_rfl) rfl
noncomputable def cK(aN:Int):Option (Bool):=
 ((cU aN (-3000) 3000).bind fun x1=>some x1)
theorem ef(aN:Int)(r:Bool)(h:cK aN=some r):aF Tryz.prog 177 [.v (vi aN)] ⟨[.v (vb r)],[],false⟩:=by
 refine ar Tryz.func177 rfl [(.tmp 2)] rfl (fun r=>⟨[.v (vb r)],[],false⟩) (r:=r) ?_
 unfold cK at h
 refine az aa ⟨5,[(0,vi aN)],[]⟩ ?_
 refine sr ?_
 refine ae.ck aa 1 ⟨5,[(3,vi aN)],[]⟩ ?_
 obtain⟨x1,hx1,h⟩:=bind_some h
 refine ae.ls (xc iw (cy aN (-3000) 3000 _ hx1)) ?_
 refine bU aa 1 ⟨5,[(2,vb x1)],[]⟩ ?_
 refine ak ?_
 obtain rfl:=inj h
 exact aD (f1 fv)
theorem mV:a7 Tryz.prog 177:=aw Tryz.func177 (by kernel_rfl) rfl
noncomputable def fr(aS:Span):Option (Bool):=
 ((((cK aS.From).bind fun x1=>(bif x1 then((cK aS.To).bind fun x2=>(bif x2 then some (decide (aS.From≤aS.To))else some false))else some false))).bind fun(j3:Bool)=>some j3)
theorem iU(aS:Span)(r:Bool)(h:fr aS=some r):aF Tryz.prog 167 [.v (.agg (tc bc aS))] ⟨[.v (vb r)],[],false⟩:=by
 refine ar Tryz.func167 rfl [(.tmp 2)] rfl (fun r=>⟨[.v (vb r)],[],false⟩) (r:=r) ?_
 unfold fr at h
 refine az aa ⟨18,[(1,.ref 1 0)],[(1,.box (tc bc aS))]⟩ ?_
 refine ai ?_
 refine bk h (fun j3=>⟨18,[(2,vb j3)],[]⟩) (fun v4 h=> ?_) (fun j3 h=> ?_)
 refine ae.ck aa 2 ⟨18,[(1,.ref 1 0),(4,vi aS.From)],[(1,.box (tc bc aS))]⟩ ?_
 obtain⟨x1,hx1,h⟩:=bind_some h
 refine ae.ls (xc mV (ef aS.From _ hx1)) ?_
 refine ae.ck aa 1 ⟨18,[(1,.ref 1 0),(6,vb x1)],[(1,.box (tc bc aS))]⟩ ?_
 refine ae.cu [(6,fun b=>b)] h (fun h=> ?_) fun h=> ?_
 refine ae.ck aa 2 ⟨18,[(1,.ref 1 0),(6,vb true),(8,vi aS.To)],[(1,.box (tc bc aS))]⟩ ?_
 obtain⟨x2,hx2,h⟩:=bind_some h
 refine ae.ls (xc mV (ef aS.To _ hx2)) ?_
 refine ae.ck aa 2 ⟨18,[(1,.ref 1 0),(11,vb x2)],[(1,.box (tc bc aS))]⟩ ?_
 refine ae.cu [(11,fun b=>b)] h (fun h=> ?_) fun h=> ?_
 refine ae.ck aa 7 ⟨18,[(2,vb (decide (aS.From≤aS.To)))],[]⟩ ?_
 refine ae.nil ?_
 obtain rfl:=inj h
 exact Le.ao
 refine ae.ck aa 7 ⟨18,[(2,vb false)],[]⟩ ?_
 refine ae.nil ?_
 obtain rfl:=inj h
 exact Le.ao
 refine ae.ck aa 12 ⟨18,[(2,vb false)],[]⟩ ?_
 refine ae.nil ?_
 obtain rfl:=inj h
 exact Le.ao
 refine ak ?_
 obtain rfl:=inj h
 exact aD (f1 fv)
theorem rB:a7 Tryz.prog 167:=aw Tryz.func167 (by kernel_rfl) rfl
noncomputable def gi(aS:ByteArray)(aBy:Int):Option ((List ByteArray)):=
 (((wj (fun(i3:Int) (_:Int×(List ByteArray))=>(decide (i3≤(aS.size:Int)))) (fun(i3:Int) (s3:Int×(List ByteArray))=>(((bif(i3==(aS.size:Int))then some true else((kM aS i3).bind fun x7=>some (x7==aBy)))).bind fun(j8:Bool)=>(bif j8 then((qq aS s3.1 i3).bind fun x10=>((dU s3.2 ([x10]:List ByteArray)).bind fun x11=>some ((aZ (i3+1)),x11)))else some (s3.1,s3.2)))) (fun(s3:Int×(List ByteArray))=>s3.2) 0 (0,([]:List ByteArray)))).bind fun(j1:(List ByteArray))=>some j1)
theorem ns(aS:ByteArray)(aBy:Int)(r:(List ByteArray))(h:gi aS aBy=some r):aF Tryz.prog 219 [.v (vs aS),.v (.tr (.int .u8 aBy))] ⟨[.own 9 1 r.length (r.map eS)],[],false⟩:=by
 refine ar Tryz.func219 rfl [(.tmp 4)] rfl (fun r=>⟨[.own 9 1 r.length (r.map eS)],[],false⟩) (r:=r) ?_
 unfold gi at h
 refine az aa ⟨36,[(0,vs aS),(1,.tr (.int .u8 aBy))],[]⟩ ?_
 refine az aa ⟨36,[(0,vs aS),(1,.tr (.int .u8 aBy)),(5,.own 8)],[(8,oa 9 1 eS ([]:List ByteArray))]⟩ ?_
 refine az aa ⟨36,[(0,vs aS),(1,.tr (.int .u8 aBy)),(5,.own 8),(6,vi 0)],[(8,oa 9 1 eS ([]:List ByteArray))]⟩ ?_
 refine ai ?_
 refine az aa ⟨36,[(0,vs aS),(1,.tr (.int .u8 aBy)),(5,.own 8),(6,vi 0),(7,vi 0)],[(8,oa 9 1 eS ([]:List ByteArray))]⟩ ?_
 refine bg h (fun j1=>⟨36,[(5,.own 5)],[(5,oa 9 1 eS j1)]⟩) (fun v2 h=> ?_) (fun j1 h=> ?_)
 refine ax (a:=v2) ?_
 refine a6 (r:=v2) (s:=(0,0,([]:List ByteArray))) _ (fun s3=>⟨36,[(0,vs aS),(1,.tr (.int .u8 aBy)),(5,.own 5),(6,vi s3.2.1),(7,vi s3.1)],[(5,oa 9 1 eS s3.2.2)]⟩) _ (Le.rr [8] [(8,5)]) h (fun s3 v4 h=> ?_)
 refine ai ?_
 refine az aa ⟨36,[(0,vs aS),(1,.tr (.int .u8 aBy)),(5,.own 5),(6,vi s3.2.1),(7,vi s3.1),(12,vb (decide (s3.1≤(aS.size:Int))))],[(5,oa 9 1 eS s3.2.2)]⟩ ?_
 refine aq h (fun h=> ?_) fun h=> ?_
 refine an ?_
 refine a8 ?_
 refine ai ?_
 refine bg h (fun j5=>⟨36,[(0,vs aS),(1,.tr (.int .u8 aBy)),(5,.own 5),(6,vi j5.1),(7,vi s3.1)],[(5,oa 9 1 eS j5.2)]⟩) (fun v6 h=> ?_) (fun j5 h=> ?_)
 refine ax (a:=v6) ?_
 refine ai ?_
 refine bk h (fun j8=>⟨36,[(0,vs aS),(1,.tr (.int .u8 aBy)),(5,.own 5),(6,vi s3.2.1),(7,vi s3.1),(25,vb j8)],[(5,oa 9 1 eS s3.2.2)]⟩) (fun v9 h=> ?_) (fun j8 h=> ?_)
 refine ae.ck aa 5 ⟨36,[(0,vs aS),(1,.tr (.int .u8 aBy)),(5,.own 5),(6,vi s3.2.1),(7,vi s3.1),(19,vb (s3.1==(aS.size:Int)))],[(5,oa 9 1 eS s3.2.2)]⟩ ?_
 refine ae.cu [(19,fun b=>b)] h (fun h=> ?_) fun h=> ?_
 refine ae.ck aa 6 ⟨36,[(0,vs aS),(1,.tr (.int .u8 aBy)),(5,.own 5),(6,vi s3.2.1),(7,vi s3.1),(25,vb true)],[(5,oa 9 1 eS s3.2.2)]⟩ ?_
 refine ae.nil ?_
 obtain rfl:=inj h
 exact Le.ao
 refine ae.ck aa 2 ⟨36,[(0,vs aS),(1,.tr (.int .u8 aBy)),(5,.own 5),(6,vi s3.2.1),(7,vi s3.1),(19,vb false),(20,vs aS),(21,vi s3.1)],[(5,oa 9 1 eS s3.2.2)]⟩ ?_
 obtain⟨x7,hx7,h⟩:=bind_some h
 refine ae.ls (qz (ti:=ig) (k:= .i64) hx7 aa rfl) ?_
 refine ae.ck aa 3 ⟨36,[(0,vs aS),(1,.tr (.int .u8 aBy)),(5,.own 5),(6,vi s3.2.1),(7,vi s3.1),(25,vb (x7==aBy))],[(5,oa 9 1 eS s3.2.2)]⟩ ?_
 refine ae.nil ?_
 obtain rfl:=inj h
 exact Le.ao
 refine aq h (fun h=> ?_) fun h=> ?_
 refine sr ?_
 refine ae.ck aa 4 ⟨36,[(0,vs aS),(1,.tr (.int .u8 aBy)),(7,vi s3.1),(26,.own 5),(27,vs aS),(28,vi s3.2.1),(29,vi s3.1)],[(5,oa 9 1 eS s3.2.2)]⟩ ?_
 obtain⟨x10,hx10,h⟩:=bind_some h
 refine ae.ls (BS (ti:=ig) hx10 aa rfl) ?_
 refine ae.ck aa 1 ⟨36,[(0,vs aS),(1,.tr (.int .u8 aBy)),(7,vi s3.1),(26,.own 5),(31,.own 31)],[(5,oa 9 1 eS s3.2.2),(31,oa 9 1 eS ([x10]:List ByteArray))]⟩ ?_
 obtain⟨x11,hx11,h⟩:=bind_some h
 refine ae.cf (bT (f:=eS) (t:=106) (ti:=cn) (tj:=ig) (zs:=[.string (ByteArray.mk #[])]) (e:=9) (m:=1) (d:=5) (xv:= .own 31) hx11 aa rfl rfl rfl rfl (dj (e:=9))) ?_
 refine bU aa 1 ⟨36,[(0,vs aS),(1,.tr (.int .u8 aBy)),(5,.own 32),(7,vi s3.1)],[(32,oa 9 1 eS x11)]⟩ ?_
 refine aE ?_
 refine ae.ck aa 3 ⟨36,[(0,vs aS),(1,.tr (.int .u8 aBy)),(5,.own 32),(6,vi (aZ (s3.1+1))),(7,vi s3.1)],[(32,oa 9 1 eS x11)]⟩ ?_
 refine ae.nil ?_
 obtain rfl:=inj h
 exact bY (fO (Le.rr [32] [(32,5)]))
 refine an ?_
 obtain rfl:=inj h
 exact bY (fO (Le.ao))
 refine aE ?_
 refine ae.ck aa 3 ⟨36,[(0,vs aS),(1,.tr (.int .u8 aBy)),(5,.own 5),(6,vi j5.1),(7,vi (aZ (s3.1+1)))],[(5,oa 9 1 eS j5.2)]⟩ ?_
 refine ae.nil ?_
 obtain rfl:=inj h
 exact cb (Le.ao)
 refine aO ?_
 obtain rfl:=inj h
 exact cH (cJ (cI (fO (Le.ao))))
 refine az aa ⟨36,[(4,.own 5)],[(5,oa 9 1 eS j1)]⟩ ?_
 refine ak ?_
 obtain rfl:=inj h
 exact aD (f1 (fo fa))
theorem zK:a7 Tryz.prog 219:=aw Tryz.func219 (by kernel_rfl) rfl
noncomputable def fu(aS:ByteArray):Option ((List ByteArray)×Bool):=
 ((gi aS 32).bind fun x1=>(((cY (x1.length:Int) (fun(i4:Int) (_:Unit)=>((at' x1 i4).bind fun x8=>((cN x8).bind fun x9=>(bif(!x9)then some (.inr (.inr (([]:List ByteArray),false)))else some (.inl ()))))) (fun(_:Unit)=> .inl ()) 0 ())).bind (Sum.elim (fun(_:Unit)=>some (x1,(decide ((x1.length:Int)≤8)))) some)))
theorem mD(aS:ByteArray)(r:(List ByteArray)×Bool)(h:fu aS=some r):aF Tryz.prog 203 [.v (vs aS)] ⟨[.own 9 1 r.1.length (r.1.map eS),.v (vb r.2)],[],false⟩:=by
 refine ar Tryz.func203 rfl [(.tmp 2),(.tmp 3)] rfl (fun r=>⟨[.own 9 1 r.1.length (r.1.map eS),.v (vb r.2)],[],false⟩) (r:=r) ?_
 unfold fu at h
 refine az aa ⟨24,[(0,vs aS)],[]⟩ ?_
 refine sr ?_
 refine ae.ck aa 1 ⟨24,[(6,vs aS)],[]⟩ ?_
 obtain⟨x1,hx1,h⟩:=bind_some h
 refine ae.ls (xc zK (ns aS 32 _ hx1)) ?_
 refine bU aa 1 ⟨24,[(4,.own 7)],[(7,oa 9 1 eS x1)]⟩ ?_
 refine ai ?_
 refine az aa ⟨24,[(4,.own 7),(5,vi 0)],[(7,oa 9 1 eS x1)]⟩ ?_
 refine bl (r:=r) h (fun j2=>⟨24,[(4,.own 4)],[(4,oa 9 1 eS x1)]⟩) (fun v3 h=> ?_) (fun j2 h=> ?_)
 refine ax (a:=v3) ?_
 refine a6 (r:=v3) (s:=(0,())) _ (fun s4=>⟨24,[(4,.own 4),(5,vi s4.1)],[(4,oa 9 1 eS x1)]⟩) _ (Le.rr [7] [(7,4)]) h (fun s4 v5 h=> ?_)
 refine ai ?_
 refine az aa ⟨24,[(4,.own 4),(5,vi s4.1),(11,vb (decide (s4.1<(x1.length:Int))))],[(4,oa 9 1 eS x1)]⟩ ?_
 refine aq h (fun h=> ?_) fun h=> ?_
 refine an ?_
 refine a8 ?_
 refine ai ?_
 refine bp (r:=v5) h (fun j6=>⟨24,[(4,.own 4),(5,vi s4.1)],[(4,oa 9 1 eS x1)]⟩) (fun v7 h=> ?_) (fun j6 h=> ?_)
 refine ax (a:=v7) ?_
 refine sr ?_
 refine ae.ck aa 2 ⟨24,[(4,.own 4),(5,vi s4.1),(14,.own 4),(15,vi s4.1)],[(4,oa 9 1 eS x1)]⟩ ?_
 obtain⟨x8,hx8,h⟩:=bind_some h
 refine ae.ls (bX (d:=4) (L:=x1) (f:=eS) (ti:=cn) (tj:=ig) (e:=9) (e':=9) (m:=1) (k:= .i64) aa rfl hx8) ?_
 refine ae.ls (dd (d:=4) (m:=1) (j:=0) (L:=x1) (f:=eS) (ti:=ig) (e:=9) (v:=vs x8) aa rfl hx8) ?_
 obtain⟨x9,hx9,h⟩:=bind_some h
 refine ae.ls (xc jH (cO x8 _ hx9)) ?_
 refine bU aa 1 ⟨24,[(4,.own 4),(5,vi s4.1),(19,vb (!x9))],[(4,oa 9 1 eS x1)]⟩ ?_
 refine aq h (fun h=> ?_) fun h=> ?_
 refine az aa ⟨24,[(2,.own 2),(3,vb false)],[(2,oa 9 1 eS ([]:List ByteArray))]⟩ ?_
 refine ak ?_
 obtain rfl:=inj h
 exact bw (bi (bi (bw (bi (aD (f2 (fo fa) fv))))))
 refine an ?_
 obtain rfl:=inj h
 exact bY (cb (Le.ao))
 refine aE ?_
 refine ae.ck aa 3 ⟨24,[(4,.own 4),(5,vi (aZ (s4.1+1)))],[(4,oa 9 1 eS x1)]⟩ ?_
 refine ae.nil ?_
 obtain rfl:=inj h
 exact cb (Le.ao)
 refine aO ?_
 obtain rfl:=inj h
 exact cH (cJ (cI (cb (Le.ao))))
 refine az aa ⟨24,[(2,.own 4),(3,vb (decide ((x1.length:Int)≤8)))],[(4,oa 9 1 eS x1)]⟩ ?_
 refine ak ?_
 obtain rfl:=inj h
 exact aD (f2 (fo fa) fv)
theorem zE:a7 Tryz.prog 203:=aw Tryz.func203 (by kernel_rfl) rfl
noncomputable def dS(aS:ByteArray):Option (Bool):=
 ((fu aS).bind fun x1=>some x1.2)
theorem hG(aS:ByteArray)(r:Bool)(h:dS aS=some r):aF Tryz.prog 173 [.v (vs aS)] ⟨[.v (vb r)],[],false⟩:=by
 refine ar Tryz.func173 rfl [(.tmp 2)] rfl (fun r=>⟨[.v (vb r)],[],false⟩) (r:=r) ?_
 unfold dS at h
 refine az aa ⟨11,[(0,vs aS)],[]⟩ ?_
 refine sr ?_
 refine ae.ck aa 1 ⟨11,[(6,vs aS)],[]⟩ ?_
 obtain⟨x1,hx1,h⟩:=bind_some h
 refine ae.ls (xc zE (mD aS _ hx1)) ?_
 refine bU aa 5 ⟨11,[(4,vb x1.2)],[]⟩ ?_
 refine az aa ⟨11,[(2,vb x1.2)],[]⟩ ?_
 refine ak ?_
 obtain rfl:=inj h
 exact aD (f1 fv)
theorem rD:a7 Tryz.prog 173:=aw Tryz.func173 (by kernel_rfl) rfl
noncomputable def iy(aS:ByteArray)(eZ:Int)(cP:Int):Option (Bool):=
 (((cY (aS.size:Int) (fun(i3:Int) (_:Unit)=>((((kM aS i3).bind fun x7=>(bif(decide (x7<97))then some true else((kM aS i3).bind fun x8=>some (decide (x8>122)))))).bind fun(j9:Bool)=>(bif j9 then some (.inr (.inr false))else some (.inl ())))) (fun(_:Unit)=> .inl ()) 0 ())).bind (Sum.elim (fun(_:Unit)=>((cU (aS.size:Int) eZ cP).bind fun x11=>some x11)) some))
theorem nt(aS:ByteArray)(eZ:Int)(cP:Int)(r:Bool)(h:iy aS eZ cP=some r):aF Tryz.prog 202 [.v (vs aS),.v (vi eZ),.v (vi cP)] ⟨[.v (vb r)],[],false⟩:=by
 refine ar Tryz.func202 rfl [(.tmp 6)] rfl (fun r=>⟨[.v (vb r)],[],false⟩) (r:=r) ?_
 unfold iy at h
 refine az aa ⟨29,[(0,vs aS),(1,vi eZ),(2,vi cP)],[]⟩ ?_
 refine ai ?_
 refine az aa ⟨29,[(0,vs aS),(1,vi eZ),(2,vi cP),(7,vi 0)],[]⟩ ?_
 refine bl (r:=r) h (fun j1=>⟨29,[(0,vs aS),(1,vi eZ),(2,vi cP)],[]⟩) (fun v2 h=> ?_) (fun j1 h=> ?_)
 refine ax (a:=v2) ?_
 refine a6 (r:=v2) (s:=(0,())) _ (fun s3=>⟨29,[(0,vs aS),(1,vi eZ),(2,vi cP),(7,vi s3.1)],[]⟩) _ (Le.ao) h (fun s3 v4 h=> ?_)
 refine ai ?_
 refine az aa ⟨29,[(0,vs aS),(1,vi eZ),(2,vi cP),(7,vi s3.1),(11,vb (decide (s3.1<(aS.size:Int))))],[]⟩ ?_
 refine aq h (fun h=> ?_) fun h=> ?_
 refine an ?_
 refine a8 ?_
 refine ai ?_
 refine bp (r:=v4) h (fun j5=>⟨29,[(0,vs aS),(1,vi eZ),(2,vi cP),(7,vi s3.1)],[]⟩) (fun v6 h=> ?_) (fun j5 h=> ?_)
 refine ax (a:=v6) ?_
 refine ai ?_
 refine bk h (fun j9=>⟨29,[(0,vs aS),(1,vi eZ),(2,vi cP),(7,vi s3.1),(23,vb j9)],[]⟩) (fun v10 h=> ?_) (fun j9 h=> ?_)
 refine ae.ck aa 2 ⟨29,[(0,vs aS),(1,vi eZ),(2,vi cP),(7,vi s3.1),(14,vs aS),(15,vi s3.1)],[]⟩ ?_
 obtain⟨x7,hx7,h⟩:=bind_some h
 refine ae.ls (qz (ti:=ig) (k:= .i64) hx7 aa rfl) ?_
 refine ae.ck aa 2 ⟨29,[(0,vs aS),(1,vi eZ),(2,vi cP),(7,vi s3.1),(18,vb (decide (x7<97)))],[]⟩ ?_
 refine ae.cu [(18,fun b=>b)] h (fun h=> ?_) fun h=> ?_
 refine ae.ck aa 5 ⟨29,[(0,vs aS),(1,vi eZ),(2,vi cP),(7,vi s3.1),(23,vb true)],[]⟩ ?_
 refine ae.nil ?_
 obtain rfl:=inj h
 exact Le.ao
 refine ae.ck aa 2 ⟨29,[(0,vs aS),(1,vi eZ),(2,vi cP),(7,vi s3.1),(18,vb false),(19,vs aS),(20,vi s3.1)],[]⟩ ?_
 obtain⟨x8,hx8,h⟩:=bind_some h
 refine ae.ls (qz (ti:=ig) (k:= .i64) hx8 aa rfl) ?_
 refine ae.ck aa 2 ⟨29,[(0,vs aS),(1,vi eZ),(2,vi cP),(7,vi s3.1),(23,vb (decide (x8>122)))],[]⟩ ?_
 refine ae.nil ?_
 obtain rfl:=inj h
 exact Le.ao
 refine aq h (fun h=> ?_) fun h=> ?_
 refine az aa ⟨29,[(6,vb false)],[]⟩ ?_
 refine ak ?_
 obtain rfl:=inj h
 exact bw (bi (bi (bw (bi (aD (f1 fv))))))
 refine an ?_
 obtain rfl:=inj h
 exact bY (cb (Le.ao))
 refine aE ?_
 refine ae.ck aa 3 ⟨29,[(0,vs aS),(1,vi eZ),(2,vi cP),(7,vi (aZ (s3.1+1)))],[]⟩ ?_
 refine ae.nil ?_
 obtain rfl:=inj h
 exact cb (Le.ao)
 refine aO ?_
 obtain rfl:=inj h
 exact cH (cJ (cI (cb (Le.ao))))
 refine sr ?_
 refine ae.ck aa 4 ⟨29,[(25,vi (aS.size:Int)),(26,vi eZ),(27,vi cP)],[]⟩ ?_
 obtain⟨x11,hx11,h⟩:=bind_some h
 refine ae.ls (xc iw (cy (aS.size:Int) eZ cP _ hx11)) ?_
 refine bU aa 1 ⟨29,[(6,vb x11)],[]⟩ ?_
 refine ak ?_
 obtain rfl:=inj h
 exact aD (f1 fv)
theorem zD:a7 Tryz.prog 202:=aw Tryz.func202 (by kernel_rfl) rfl
noncomputable def cV(aS:ByteArray):Option (Bool):=
 ((iy aS 2 3).bind fun x1=>some x1)
theorem fx(aS:ByteArray)(r:Bool)(h:cV aS=some r):aF Tryz.prog 172 [.v (vs aS)] ⟨[.v (vb r)],[],false⟩:=by
 refine ar Tryz.func172 rfl [(.tmp 2)] rfl (fun r=>⟨[.v (vb r)],[],false⟩) (r:=r) ?_
 unfold cV at h
 refine az aa ⟨5,[(0,vs aS)],[]⟩ ?_
 refine sr ?_
 refine ae.ck aa 1 ⟨5,[(3,vs aS)],[]⟩ ?_
 obtain⟨x1,hx1,h⟩:=bind_some h
 refine ae.ls (xc zD (nt aS 2 3 _ hx1)) ?_
 refine bU aa 1 ⟨5,[(2,vb x1)],[]⟩ ?_
 refine ak ?_
 obtain rfl:=inj h
 exact aD (f1 fv)
theorem rC:a7 Tryz.prog 172:=aw Tryz.func172 (by kernel_rfl) rfl
noncomputable def iI(aN:Name):Option (Bool):=
 ((((dS aN.Text).bind fun x1=>(bif x1 then((cV aN.Language).bind fun x2=>(bif x2 then((cU aN.Status 0 2).bind fun x3=>(bif x3 then((fr aN.Years).bind fun x4=>some x4)else some false))else some false))else some false))).bind fun(j5:Bool)=>some j5)
theorem pb(aN:Name)(r:Bool)(h:iI aN=some r):aF Tryz.prog 201 [.v (.agg (tc af aN))] ⟨[.v (vb r)],[],false⟩:=by
 refine ar Tryz.func201 rfl [(.tmp 2)] rfl (fun r=>⟨[.v (vb r)],[],false⟩) (r:=r) ?_
 unfold iI at h
 refine az aa ⟨21,[(1,.ref 1 0)],[(1,.box (tc af aN))]⟩ ?_
 refine ai ?_
 refine bk h (fun j5=>⟨21,[(2,vb j5)],[]⟩) (fun v6 h=> ?_) (fun j5 h=> ?_)
 refine ae.ck aa 2 ⟨21,[(1,.ref 1 0),(4,vs aN.Text)],[(1,.box (tc af aN))]⟩ ?_
 obtain⟨x1,hx1,h⟩:=bind_some h
 refine ae.ls (xc rD (hG aN.Text _ hx1)) ?_
 refine ae.ck aa 1 ⟨21,[(1,.ref 1 0),(6,vb x1)],[(1,.box (tc af aN))]⟩ ?_
 refine ae.cu [(6,fun b=>b)] h (fun h=> ?_) fun h=> ?_
 refine ae.ck aa 2 ⟨21,[(1,.ref 1 0),(6,vb true),(8,vs aN.Language)],[(1,.box (tc af aN))]⟩ ?_
 obtain⟨x2,hx2,h⟩:=bind_some h
 refine ae.ls (xc rC (fx aN.Language _ hx2)) ?_
 refine ae.ck aa 2 ⟨21,[(1,.ref 1 0),(11,vb x2)],[(1,.box (tc af aN))]⟩ ?_
 refine ae.cu [(11,fun b=>b)] h (fun h=> ?_) fun h=> ?_
 refine ae.ck aa 2 ⟨21,[(1,.ref 1 0),(11,vb true),(13,vi aN.Status)],[(1,.box (tc af aN))]⟩ ?_
 obtain⟨x3,hx3,h⟩:=bind_some h
 refine ae.ls (xc iw (cy aN.Status 0 2 _ hx3)) ?_
 refine ae.ck aa 2 ⟨21,[(1,.ref 1 0),(16,vb x3)],[(1,.box (tc af aN))]⟩ ?_
 refine ae.cu [(16,fun b=>b)] h (fun h=> ?_) fun h=> ?_
 refine ae.ck aa 2 ⟨21,[(16,vb true),(18,.agg (tc bc aN.Years))],[]⟩ ?_
 obtain⟨x4,hx4,h⟩:=bind_some h
 refine ae.ls (xc rB (iU aN.Years _ hx4)) ?_
 refine ae.ck aa 2 ⟨21,[(2,vb x4)],[]⟩ ?_
 refine ae.nil ?_
 obtain rfl:=inj h
 exact Le.ao
 refine ae.ck aa 5 ⟨21,[(2,vb false)],[]⟩ ?_
 refine ae.nil ?_
 obtain rfl:=inj h
 exact Le.ao
 refine ae.ck aa 10 ⟨21,[(2,vb false)],[]⟩ ?_
 refine ae.nil ?_
 obtain rfl:=inj h
 exact Le.ao
 refine ae.ck aa 15 ⟨21,[(2,vb false)],[]⟩ ?_
 refine ae.nil ?_
 obtain rfl:=inj h
 exact Le.ao
 refine ak ?_
 obtain rfl:=inj h
 exact aD (f1 fv)
theorem zC:a7 Tryz.prog 201:=aw Tryz.func201 (by kernel_rfl) rfl
noncomputable def dh(aA:Span)(aB:Span):Option (Bool):=
 some ((decide (aA.From≤aB.To))&&(decide (aB.From≤aA.To)))
theorem kq(aA:Span)(aB:Span)(r:Bool)(h:dh aA aB=some r):aF Tryz.prog 114 [.v (.agg (tc bc aA)),.v (.agg (tc bc aB))] ⟨[.v (vb r)],[],false⟩:=by
 refine ar Tryz.func114 rfl [(.tmp 4)] rfl (fun r=>⟨[.v (vb r)],[],false⟩) (r:=r) ?_
 unfold dh at h
 refine az aa ⟨17,[(2,.ref 2 0),(3,.ref 3 0)],[(2,.box (tc bc aA)),(3,.box (tc bc aB))]⟩ ?_
 refine ai ?_
 refine cQ ⟨17,[(4,vb ((decide (aA.From≤aB.To))&&(decide (aB.From≤aA.To))))],[]⟩ ?_ ?_
 refine ae.ck aa 6 ⟨17,[(2,.ref 2 0),(3,.ref 3 0),(10,vb (decide (aA.From≤aB.To)))],[(2,.box (tc bc aA)),(3,.box (tc bc aB))]⟩ ?_
 generalize (decide (aA.From≤aB.To))=bb
 cases bb
 refine ae.ck aa 7 ⟨17,[(4,vb false)],[]⟩ ?_
 exact ae.nil (Le.ao)
 refine ae.ck aa 7 ⟨17,[(4,vb (decide (aB.From≤aA.To)))],[]⟩ ?_
 exact ae.nil (Le.ao)
 refine ak ?_
 obtain rfl:=inj h
 exact aD (f1 fv)
theorem vq:a7 Tryz.prog 114:=aw Tryz.func114 (by kernel_rfl) rfl
noncomputable def eX(ad:(List Name)):Option (Bool):=
 (((cY (ad.length:Int) (fun(i3:Int) (_:Unit)=>((at' ad i3).bind fun x7=>((iI x7).bind fun x8=>(bif(!x8)then some (.inr (.inr false))else(cY i3 (fun(i9:Int) (_:Unit)=>((at' ad i9).bind fun x13=>(((bif(x7.Status==0)then(bif(x13.Status==0)then(bif(x7.Language.toList==x13.Language.toList)then((dh x7.Years x13.Years).bind fun x14=>some x14)else some false)else some false)else some false)).bind fun(j15:Bool)=>(bif j15 then some (.inr (.inr (.inr false)))else some (.inl ()))))) (fun(_:Unit)=> .inl ()) 0 ()))))) (fun(_:Unit)=> .inl ()) 0 ())).bind (Sum.elim (fun(_:Unit)=>some (decide ((ad.length:Int)≤12))) some))
theorem jT(ad:(List Name))(r:Bool)(h:eX ad=some r):aF Tryz.prog 168 [.v (vl af ad)] ⟨[.v (vb r)],[],false⟩:=by
 refine ar Tryz.func168 rfl [(.tmp 2)] rfl (fun r=>⟨[.v (vb r)],[],false⟩) (r:=r) ?_
 unfold eX at h
 refine az aa ⟨54,[(0,vl af ad)],[]⟩ ?_
 refine ai ?_
 refine az aa ⟨54,[(0,vl af ad),(3,vi 0)],[]⟩ ?_
 refine bl (r:=r) h (fun j1=>⟨54,[(0,vl af ad)],[]⟩) (fun v2 h=> ?_) (fun j1 h=> ?_)
 refine ax (a:=v2) ?_
 refine a6 (r:=v2) (s:=(0,())) _ (fun s3=>⟨54,[(0,vl af ad),(3,vi s3.1)],[]⟩) _ (Le.ao) h (fun s3 v4 h=> ?_)
 refine ai ?_
 refine az aa ⟨54,[(0,vl af ad),(3,vi s3.1),(10,vb (decide (s3.1<(ad.length:Int))))],[]⟩ ?_
 refine aq h (fun h=> ?_) fun h=> ?_
 refine an ?_
 refine a8 ?_
 refine ai ?_
 refine bp (r:=v4) h (fun j5=>⟨54,[(0,vl af ad),(3,vi s3.1)],[]⟩) (fun v6 h=> ?_) (fun j5 h=> ?_)
 refine ax (a:=v6) ?_
 refine sr ?_
 refine ae.ck aa 2 ⟨54,[(0,vl af ad),(3,vi s3.1),(13,vl af ad),(14,vi s3.1)],[]⟩ ?_
 obtain⟨x7,hx7,h⟩:=bind_some h
 refine ae.ls (aG (L:=ad) (f:=af) (ti:=ej) (tj:=dq) (e:=169) (k:= .i64) aa rfl hx7) ?_
 refine bU aa 3 ⟨54,[(0,vl af ad),(3,vi s3.1),(4,.ref 4 0)],[(4,.box (tc af x7))]⟩ ?_
 refine ai ?_
 refine sr ?_
 refine ae.ck aa 1 ⟨54,[(0,vl af ad),(3,vi s3.1),(4,.ref 4 0),(17,.agg (tc af x7))],[(4,.box (tc af x7))]⟩ ?_
 obtain⟨x8,hx8,h⟩:=bind_some h
 refine ae.ls (xc zC (pb x7 _ hx8)) ?_
 refine bU aa 1 ⟨54,[(0,vl af ad),(3,vi s3.1),(4,.ref 4 0),(19,vb (!x8))],[(4,.box (tc af x7))]⟩ ?_
 refine aq h (fun h=> ?_) fun h=> ?_
 refine az aa ⟨54,[(2,vb false)],[]⟩ ?_
 refine ak ?_
 obtain rfl:=inj h
 exact bS (bw (bi (bi (bw (bi (aD (f1 fv)))))))
 refine an ?_
 refine a8 ?_
 refine az aa ⟨54,[(0,vl af ad),(3,vi s3.1),(4,.ref 4 0),(5,vi 0)],[(4,.box (tc af x7))]⟩ ?_
 refine ax (a:=v6) ?_
 refine a6 (r:=v6) (s:=(0,())) _ (fun s9=>⟨54,[(0,vl af ad),(3,vi s3.1),(4,.ref 4 0),(5,vi s9.1)],[(4,.box (tc af x7))]⟩) _ (Le.ao) h (fun s9 v10 h=> ?_)
 refine ai ?_
 refine az aa ⟨54,[(0,vl af ad),(3,vi s3.1),(4,.ref 4 0),(5,vi s9.1),(22,vb (decide (s9.1<s3.1)))],[(4,.box (tc af x7))]⟩ ?_
 refine aq h (fun h=> ?_) fun h=> ?_
 refine an ?_
 refine a8 ?_
 refine ai ?_
 refine bp (r:=v10) h (fun j11=>⟨54,[(0,vl af ad),(3,vi s3.1),(4,.ref 4 0),(5,vi s9.1)],[(4,.box (tc af x7))]⟩) (fun v12 h=> ?_) (fun j11 h=> ?_)
 refine ax (a:=v12) ?_
 refine sr ?_
 refine ae.ck aa 2 ⟨54,[(0,vl af ad),(3,vi s3.1),(4,.ref 4 0),(5,vi s9.1),(25,vl af ad),(26,vi s9.1)],[(4,.box (tc af x7))]⟩ ?_
 obtain⟨x13,hx13,h⟩:=bind_some h
 refine ae.ls (aG (L:=ad) (f:=af) (ti:=ej) (tj:=dq) (e:=169) (k:= .i64) aa rfl hx13) ?_
 refine bU aa 3 ⟨54,[(0,vl af ad),(3,vi s3.1),(4,.ref 4 0),(5,vi s9.1),(6,.ref 6 0)],[(4,.box (tc af x7)),(6,.box (tc af x13))]⟩ ?_
 refine ai ?_
 refine bk h (fun j15=>⟨54,[(0,vl af ad),(3,vi s3.1),(4,.ref 4 0),(5,vi s9.1),(50,vb j15)],[(4,.box (tc af x7))]⟩) (fun v16 h=> ?_) (fun j15 h=> ?_)
 refine ae.ck aa 4 ⟨54,[(0,vl af ad),(3,vi s3.1),(4,.ref 4 0),(5,vi s9.1),(6,.ref 6 0),(32,vb (x7.Status==0))],[(4,.box (tc af x7)),(6,.box (tc af x13))]⟩ ?_
 refine ae.cu [(32,fun b=>b)] h (fun h=> ?_) fun h=> ?_
 refine ae.ck aa 5 ⟨54,[(0,vl af ad),(3,vi s3.1),(4,.ref 4 0),(5,vi s9.1),(6,.ref 6 0),(37,vb (x13.Status==0))],[(4,.box (tc af x7)),(6,.box (tc af x13))]⟩ ?_
 refine ae.cu [(37,fun b=>b)] h (fun h=> ?_) fun h=> ?_
 refine ae.ck aa 7 ⟨54,[(0,vl af ad),(3,vi s3.1),(4,.ref 4 0),(5,vi s9.1),(6,.ref 6 0),(44,vb (x7.Language.toList==x13.Language.toList))],[(4,.box (tc af x7)),(6,.box (tc af x13))]⟩ ?_
 refine ae.cu [(44,fun b=>b)] h (fun h=> ?_) fun h=> ?_
 refine ae.ck aa 4 ⟨54,[(0,vl af ad),(3,vi s3.1),(4,.ref 4 0),(5,vi s9.1),(44,vb true),(46,.agg (tc bc x7.Years)),(48,.agg (tc bc x13.Years))],[(4,.box (tc af x7))]⟩ ?_
 obtain⟨x14,hx14,h⟩:=bind_some h
 refine ae.ls (xc vq (kq x7.Years x13.Years _ hx14)) ?_
 refine ae.ck aa 1 ⟨54,[(0,vl af ad),(3,vi s3.1),(4,.ref 4 0),(5,vi s9.1),(50,vb x14)],[(4,.box (tc af x7))]⟩ ?_
 refine ae.nil ?_
 obtain rfl:=inj h
 exact Le.ao
 refine ae.ck aa 6 ⟨54,[(0,vl af ad),(3,vi s3.1),(4,.ref 4 0),(5,vi s9.1),(50,vb false)],[(4,.box (tc af x7))]⟩ ?_
 refine ae.nil ?_
 obtain rfl:=inj h
 exact Le.ao
 refine ae.ck aa 13 ⟨54,[(0,vl af ad),(3,vi s3.1),(4,.ref 4 0),(5,vi s9.1),(50,vb false)],[(4,.box (tc af x7))]⟩ ?_
 refine ae.nil ?_
 obtain rfl:=inj h
 exact Le.ao
 refine ae.ck aa 18 ⟨54,[(0,vl af ad),(3,vi s3.1),(4,.ref 4 0),(5,vi s9.1),(50,vb false)],[(4,.box (tc af x7))]⟩ ?_
 refine ae.nil ?_
 obtain rfl:=inj h
 exact Le.ao
 refine aq h (fun h=> ?_) fun h=> ?_
 refine az aa ⟨54,[(2,vb false)],[]⟩ ?_
 refine ak ?_
 obtain rfl:=inj h
 exact bw (bi (bi (bw (bw (bi (bi (bw (bi (aD (f1 fv))))))))))
 refine an ?_
 obtain rfl:=inj h
 exact bY (cb (Le.ao))
 refine aE ?_
 refine ae.ck aa 3 ⟨54,[(0,vl af ad),(3,vi s3.1),(4,.ref 4 0),(5,vi (aZ (s9.1+1)))],[(4,.box (tc af x7))]⟩ ?_
 refine ae.nil ?_
 obtain rfl:=inj h
 exact cb (Le.ao)
 refine aO ?_
 obtain rfl:=inj h
 exact cH (cJ (cI (bY (cb (Le.ao)))))
 refine aE ?_
 refine ae.ck aa 3 ⟨54,[(0,vl af ad),(3,vi (aZ (s3.1+1)))],[]⟩ ?_
 refine ae.nil ?_
 obtain rfl:=inj h
 exact cb (Le.ao)
 refine aO ?_
 obtain rfl:=inj h
 exact cH (cJ (cI (cb (Le.ao))))
 refine az aa ⟨54,[(2,vb (decide ((ad.length:Int)≤12)))],[]⟩ ?_
 refine ak ?_
 obtain rfl:=inj h
 exact aD (f1 fv)
theorem vy:a7 Tryz.prog 168:=aw Tryz.func168 (by kernel_rfl) rfl
noncomputable def hJ(aP:Place):Option (Bool):=
 ((((cN aP.Code).bind fun x1=>(bif(!x1)then some true else((cU aP.Class 0 19).bind fun x2=>(bif(!x2)then some true else((fr aP.Years).bind fun x3=>(bif(!x3)then some true else((eX aP.Names).bind fun x4=>some (!x4))))))))).bind fun(j5:Bool)=>(bif j5 then some false else(((cY (aP.Names.length:Int) (fun(i9:Int) (_:Unit)=>((((at' aP.Names i9).bind fun x13=>(bif(decide (x13.Years.From<aP.Years.From))then some true else((at' aP.Names i9).bind fun x14=>some (decide (x14.Years.To>aP.Years.To)))))).bind fun(j15:Bool)=>(bif j15 then some (.inr (.inr false))else some (.inl ())))) (fun(_:Unit)=> .inl ()) 0 ())).bind (Sum.elim (fun(_:Unit)=>some true) some))))
theorem n9(aP:Place)(r:Bool)(h:hJ aP=some r):aF Tryz.prog 112 [.v (.agg (tc ab aP))] ⟨[.v (vb r)],[],false⟩:=by
 refine ar Tryz.func112 rfl [(.tmp 2)] rfl (fun r=>⟨[.v (vb r)],[],false⟩) (r:=r) ?_
 unfold hJ at h
 refine az aa ⟨57,[(1,.ref 1 0)],[(1,.box (tc ab aP))]⟩ ?_
 refine ai ?_
 refine ai ?_
 refine bk h (fun j5=>⟨57,[(1,.ref 1 0),(25,vb j5)],[(1,.box (tc ab aP))]⟩) (fun v6 h=> ?_) (fun j5 h=> ?_)
 refine ae.ck aa 2 ⟨57,[(1,.ref 1 0),(5,vs aP.Code)],[(1,.box (tc ab aP))]⟩ ?_
 obtain⟨x1,hx1,h⟩:=bind_some h
 refine ae.ls (xc jH (cO aP.Code _ hx1)) ?_
 refine ae.ck aa 2 ⟨57,[(1,.ref 1 0),(8,vb (!x1))],[(1,.box (tc ab aP))]⟩ ?_
 refine ae.cu [(8,fun b=>b)] h (fun h=> ?_) fun h=> ?_
 refine ae.ck aa 17 ⟨57,[(1,.ref 1 0),(25,vb true)],[(1,.box (tc ab aP))]⟩ ?_
 refine ae.nil ?_
 obtain rfl:=inj h
 exact Le.ao
 refine ae.ck aa 2 ⟨57,[(1,.ref 1 0),(8,vb false),(10,vi aP.Class)],[(1,.box (tc ab aP))]⟩ ?_
 obtain⟨x2,hx2,h⟩:=bind_some h
 refine ae.ls (xc iw (cy aP.Class 0 19 _ hx2)) ?_
 refine ae.ck aa 3 ⟨57,[(1,.ref 1 0),(14,vb (!x2))],[(1,.box (tc ab aP))]⟩ ?_
 refine ae.cu [(14,fun b=>b)] h (fun h=> ?_) fun h=> ?_
 refine ae.ck aa 11 ⟨57,[(1,.ref 1 0),(25,vb true)],[(1,.box (tc ab aP))]⟩ ?_
 refine ae.nil ?_
 obtain rfl:=inj h
 exact Le.ao
 refine ae.ck aa 2 ⟨57,[(1,.ref 1 0),(14,vb false),(16,.agg (tc bc aP.Years))],[(1,.box (tc ab aP))]⟩ ?_
 obtain⟨x3,hx3,h⟩:=bind_some h
 refine ae.ls (xc rB (iU aP.Years _ hx3)) ?_
 refine ae.ck aa 3 ⟨57,[(1,.ref 1 0),(20,vb (!x3))],[(1,.box (tc ab aP))]⟩ ?_
 refine ae.cu [(20,fun b=>b)] h (fun h=> ?_) fun h=> ?_
 refine ae.ck aa 5 ⟨57,[(1,.ref 1 0),(25,vb true)],[(1,.box (tc ab aP))]⟩ ?_
 refine ae.nil ?_
 obtain rfl:=inj h
 exact Le.ao
 refine ae.ck aa 2 ⟨57,[(1,.ref 1 0),(20,vb false),(22,vl af aP.Names)],[(1,.box (tc ab aP))]⟩ ?_
 obtain⟨x4,hx4,h⟩:=bind_some h
 refine ae.ls (xc vy (jT aP.Names _ hx4)) ?_
 refine ae.ck aa 2 ⟨57,[(1,.ref 1 0),(25,vb (!x4))],[(1,.box (tc ab aP))]⟩ ?_
 refine ae.nil ?_
 obtain rfl:=inj h
 exact Le.ao
 refine aq h (fun h=> ?_) fun h=> ?_
 refine az aa ⟨57,[(2,vb false)],[]⟩ ?_
 refine ak ?_
 obtain rfl:=inj h
 exact bS (aD (f1 fv))
 refine an ?_
 refine a8 ?_
 refine ai ?_
 refine az aa ⟨57,[(1,.ref 1 0),(3,vi 0)],[(1,.box (tc ab aP))]⟩ ?_
 refine bl (r:=r) h (fun j7=>⟨57,[],[]⟩) (fun v8 h=> ?_) (fun j7 h=> ?_)
 refine ax (a:=v8) ?_
 refine a6 (r:=v8) (s:=(0,())) _ (fun s9=>⟨57,[(1,.ref 1 0),(3,vi s9.1)],[(1,.box (tc ab aP))]⟩) _ (Le.ao) h (fun s9 v10 h=> ?_)
 refine ai ?_
 refine az aa ⟨57,[(1,.ref 1 0),(3,vi s9.1),(30,vb (decide (s9.1<(aP.Names.length:Int))))],[(1,.box (tc ab aP))]⟩ ?_
 refine aq h (fun h=> ?_) fun h=> ?_
 refine an ?_
 refine a8 ?_
 refine ai ?_
 refine bp (r:=v10) h (fun j11=>⟨57,[(1,.ref 1 0),(3,vi s9.1)],[(1,.box (tc ab aP))]⟩) (fun v12 h=> ?_) (fun j11 h=> ?_)
 refine ax (a:=v12) ?_
 refine ai ?_
 refine jf mixed h (fun j15=>⟨57,[(1,.ref 1 0),(3,vi s9.1),(56,vb j15)],[(1,.box (tc ab aP))]⟩) (fun v16 h=> ?_) (fun j15 h=> ?_)
 refine aQ.ck aa false 3 ⟨57,[(1,.ref 1 0),(3,vi s9.1),(34,vl af aP.Names),(35,vi s9.1)],[(1,.box (tc ab aP))]⟩ ?_
 obtain⟨x13,hx13,h⟩:=bind_some h
 refine aQ.step (aG (L:=aP.Names) (f:=af) (ti:=ej) (tj:=dq) (e:=169) (k:= .i64) aa rfl hx13) ?_
 refine aQ.ck aa false 8 ⟨57,[(1,.ref 1 0),(3,vi s9.1),(44,vb (decide (x13.Years.From<aP.Years.From)))],[(1,.box (tc ab aP))]⟩ ?_
 refine aQ.cu [(44,fun b=>b)] h (fun h=> ?_) fun h=> ?_
 refine aQ.ck aa false 12 ⟨57,[(1,.ref 1 0),(3,vi s9.1),(56,vb true)],[(1,.box (tc ab aP))]⟩ ?_
 refine aQ.nil (by kernel_rfl) ?_
 obtain rfl:=inj h
 exact Le.ao
 refine aQ.ck aa false 3 ⟨57,[(1,.ref 1 0),(3,vi s9.1),(44,vb false),(46,vl af aP.Names),(47,vi s9.1)],[(1,.box (tc ab aP))]⟩ ?_
 obtain⟨x14,hx14,h⟩:=bind_some h
 refine aQ.step (aG (L:=aP.Names) (f:=af) (ti:=ej) (tj:=dq) (e:=169) (k:= .i64) aa rfl hx14) ?_
 refine aQ.ck aa false 8 ⟨57,[(1,.ref 1 0),(3,vi s9.1),(56,vb (decide (x14.Years.To>aP.Years.To)))],[(1,.box (tc ab aP))]⟩ ?_
 refine aQ.nil (by kernel_rfl) ?_
 obtain rfl:=inj h
 exact Le.ao
 refine aq h (fun h=> ?_) fun h=> ?_
 refine az aa ⟨57,[(2,vb false)],[]⟩ ?_
 refine ak ?_
 obtain rfl:=inj h
 exact bw (bi (bi (bw (bi (aD (f1 fv))))))
 refine an ?_
 obtain rfl:=inj h
 exact bY (cb (Le.ao))
 refine aE ?_
 refine ae.ck aa 3 ⟨57,[(1,.ref 1 0),(3,vi (aZ (s9.1+1)))],[(1,.box (tc ab aP))]⟩ ?_
 refine ae.nil ?_
 obtain rfl:=inj h
 exact cb (Le.ao)
 refine aO ?_
 obtain rfl:=inj h
 exact cH (cJ (cI (cb (Le.ao))))
 refine az aa ⟨57,[(2,vb true)],[]⟩ ?_
 refine ak ?_
 obtain rfl:=inj h
 exact aD (f1 fv)
theorem yU:a7 Tryz.prog 112:=aw Tryz.func112 (by kernel_rfl) rfl
noncomputable def dD(ad:(List Place)):Option (Bool):=
 (((cY (ad.length:Int) (fun(i3:Int) (_:Unit)=>((((at' ad i3).bind fun x7=>((hJ x7).bind fun x8=>(bif(!x8)then some true else(bif(decide (i3>0))then((at' ad (aZ (i3 - 1))).bind fun x9=>((at' ad i3).bind fun x10=>some (!(Op.bytesLess x9.Code.toList x10.Code.toList))))else some false))))).bind fun(j11:Bool)=>(bif j11 then some (.inr (.inr false))else some (.inl ())))) (fun(_:Unit)=> .inl ()) 0 ())).bind (Sum.elim (fun(_:Unit)=>some (decide ((ad.length:Int)≤10))) some))
theorem iZ(ad:(List Place))(r:Bool)(h:dD ad=some r):aF Tryz.prog 59 [.v (vl ab ad)] ⟨[.v (vb r)],[],false⟩:=by
 refine ar Tryz.func59 rfl [(.tmp 2)] rfl (fun r=>⟨[.v (vb r)],[],false⟩) (r:=r) ?_
 unfold dD at h
 refine az aa ⟨37,[(0,vl ab ad)],[]⟩ ?_
 refine ai ?_
 refine az aa ⟨37,[(0,vl ab ad),(3,vi 0)],[]⟩ ?_
 refine bl (r:=r) h (fun j1=>⟨37,[(0,vl ab ad)],[]⟩) (fun v2 h=> ?_) (fun j1 h=> ?_)
 refine ax (a:=v2) ?_
 refine a6 (r:=v2) (s:=(0,())) _ (fun s3=>⟨37,[(0,vl ab ad),(3,vi s3.1)],[]⟩) _ (Le.ao) h (fun s3 v4 h=> ?_)
 refine ai ?_
 refine az aa ⟨37,[(0,vl ab ad),(3,vi s3.1),(7,vb (decide (s3.1<(ad.length:Int))))],[]⟩ ?_
 refine aq h (fun h=> ?_) fun h=> ?_
 refine an ?_
 refine a8 ?_
 refine ai ?_
 refine bp (r:=v4) h (fun j5=>⟨37,[(0,vl ab ad),(3,vi s3.1)],[]⟩) (fun v6 h=> ?_) (fun j5 h=> ?_)
 refine ax (a:=v6) ?_
 refine ai ?_
 refine jf mixed h (fun j11=>⟨37,[(0,vl ab ad),(3,vi s3.1),(33,vb j11)],[]⟩) (fun v12 h=> ?_) (fun j11 h=> ?_)
 refine aQ.ck aa false 2 ⟨37,[(0,vl ab ad),(3,vi s3.1),(10,vl ab ad),(11,vi s3.1)],[]⟩ ?_
 obtain⟨x7,hx7,h⟩:=bind_some h
 refine aQ.step (aG (L:=ad) (f:=ab) (ti:=df) (tj:=cD) (e:=91) (k:= .i64) aa rfl hx7) ?_
 refine aQ.ck aa false 1 ⟨37,[(0,vl ab ad),(3,vi s3.1),(13,.agg (tc ab x7))],[]⟩ ?_
 obtain⟨x8,hx8,h⟩:=bind_some h
 refine aQ.step (xc yU (n9 x7 _ hx8)) ?_
 refine aQ.ck aa false 2 ⟨37,[(0,vl ab ad),(3,vi s3.1),(16,vb (!x8))],[]⟩ ?_
 refine aQ.cu [(16,fun b=>b)] h (fun h=> ?_) fun h=> ?_
 refine aQ.ck aa false 17 ⟨37,[(0,vl ab ad),(3,vi s3.1),(33,vb true)],[]⟩ ?_
 refine aQ.nil (by kernel_rfl) ?_
 obtain rfl:=inj h
 exact Le.ao
 refine aQ.ck aa false 3 ⟨37,[(0,vl ab ad),(3,vi s3.1),(16,vb false),(19,vb (decide (s3.1>0)))],[]⟩ ?_
 refine aQ.cu [(19,fun b=>b)] h (fun h=> ?_) fun h=> ?_
 refine aQ.ck aa false 3 ⟨37,[(0,vl ab ad),(3,vi s3.1),(16,vb false),(19,vb true),(20,vl ab ad),(22,vi (aZ (s3.1 - 1)))],[]⟩ ?_
 obtain⟨x9,hx9,h⟩:=bind_some h
 refine aQ.step (aG (L:=ad) (f:=ab) (ti:=df) (tj:=cD) (e:=91) (k:= .i64) aa rfl hx9) ?_
 refine aQ.ck aa false 4 ⟨37,[(0,vl ab ad),(3,vi s3.1),(16,vb false),(19,vb true),(25,vs x9.Code),(26,vl ab ad),(27,vi s3.1)],[]⟩ ?_
 obtain⟨x10,hx10,h⟩:=bind_some h
 refine aQ.step (aG (L:=ad) (f:=ab) (ti:=df) (tj:=cD) (e:=91) (k:= .i64) aa rfl hx10) ?_
 refine aQ.ck aa false 5 ⟨37,[(0,vl ab ad),(3,vi s3.1),(33,vb (!(Op.bytesLess x9.Code.toList x10.Code.toList)))],[]⟩ ?_
 refine aQ.nil (by kernel_rfl) ?_
 obtain rfl:=inj h
 exact Le.ao
 refine aQ.ck aa false 14 ⟨37,[(0,vl ab ad),(3,vi s3.1),(33,vb false)],[]⟩ ?_
 refine aQ.nil (by kernel_rfl) ?_
 obtain rfl:=inj h
 exact Le.ao
 refine aq h (fun h=> ?_) fun h=> ?_
 refine az aa ⟨37,[(2,vb false)],[]⟩ ?_
 refine ak ?_
 obtain rfl:=inj h
 exact bw (bi (bi (bw (bi (aD (f1 fv))))))
 refine an ?_
 obtain rfl:=inj h
 exact bY (cb (Le.ao))
 refine aE ?_
 refine ae.ck aa 3 ⟨37,[(0,vl ab ad),(3,vi (aZ (s3.1+1)))],[]⟩ ?_
 refine ae.nil ?_
 obtain rfl:=inj h
 exact cb (Le.ao)
 refine aO ?_
 obtain rfl:=inj h
 exact cH (cJ (cI (cb (Le.ao))))
 refine az aa ⟨37,[(2,vb (decide ((ad.length:Int)≤10)))],[]⟩ ?_
 refine ak ?_
 obtain rfl:=inj h
 exact aD (f1 fv)
theorem xz:a7 Tryz.prog 59:=aw Tryz.func59 (by kernel_rfl) rfl
noncomputable def jC(aL:au):Option (Bool):=
 ((((cN aL.Child).bind fun x1=>(bif x1 then((cN aL.Parent).bind fun x2=>(bif x2 then(bif(!(aL.Child.toList==aL.Parent.toList))then((fr aL.Years).bind fun x3=>some x3)else some false)else some false))else some false))).bind fun(j4:Bool)=>some j4)
theorem qj(aL:au)(r:Bool)(h:jC aL=some r):aF Tryz.prog 113 [.v (.agg (tc ac aL))] ⟨[.v (vb r)],[],false⟩:=by
 refine ar Tryz.func113 rfl [(.tmp 2)] rfl (fun r=>⟨[.v (vb r)],[],false⟩) (r:=r) ?_
 unfold jC at h
 refine az aa ⟨23,[(1,.ref 1 0)],[(1,.box (tc ac aL))]⟩ ?_
 refine ai ?_
 refine bk h (fun j4=>⟨23,[(2,vb j4)],[]⟩) (fun v5 h=> ?_) (fun j4 h=> ?_)
 refine ae.ck aa 2 ⟨23,[(1,.ref 1 0),(4,vs aL.Child)],[(1,.box (tc ac aL))]⟩ ?_
 obtain⟨x1,hx1,h⟩:=bind_some h
 refine ae.ls (xc jH (cO aL.Child _ hx1)) ?_
 refine ae.ck aa 1 ⟨23,[(1,.ref 1 0),(6,vb x1)],[(1,.box (tc ac aL))]⟩ ?_
 refine ae.cu [(6,fun b=>b)] h (fun h=> ?_) fun h=> ?_
 refine ae.ck aa 2 ⟨23,[(1,.ref 1 0),(6,vb true),(8,vs aL.Parent)],[(1,.box (tc ac aL))]⟩ ?_
 obtain⟨x2,hx2,h⟩:=bind_some h
 refine ae.ls (xc jH (cO aL.Parent _ hx2)) ?_
 refine ae.ck aa 2 ⟨23,[(1,.ref 1 0),(11,vb x2)],[(1,.box (tc ac aL))]⟩ ?_
 refine ae.cu [(11,fun b=>b)] h (fun h=> ?_) fun h=> ?_
 refine ae.ck aa 7 ⟨23,[(1,.ref 1 0),(18,vb (!(aL.Child.toList==aL.Parent.toList)))],[(1,.box (tc ac aL))]⟩ ?_
 refine ae.cu [(18,fun b=>b)] h (fun h=> ?_) fun h=> ?_
 refine ae.ck aa 2 ⟨23,[(18,vb true),(20,.agg (tc bc aL.Years))],[]⟩ ?_
 obtain⟨x3,hx3,h⟩:=bind_some h
 refine ae.ls (xc rB (iU aL.Years _ hx3)) ?_
 refine ae.ck aa 2 ⟨23,[(2,vb x3)],[]⟩ ?_
 refine ae.nil ?_
 obtain rfl:=inj h
 exact Le.ao
 refine ae.ck aa 5 ⟨23,[(2,vb false)],[]⟩ ?_
 refine ae.nil ?_
 obtain rfl:=inj h
 exact Le.ao
 refine ae.ck aa 12 ⟨23,[(2,vb false)],[]⟩ ?_
 refine ae.nil ?_
 obtain rfl:=inj h
 exact Le.ao
 refine ae.ck aa 17 ⟨23,[(2,vb false)],[]⟩ ?_
 refine ae.nil ?_
 obtain rfl:=inj h
 exact Le.ao
 refine ak ?_
 obtain rfl:=inj h
 exact aD (f1 fv)
theorem yV:a7 Tryz.prog 113:=aw Tryz.func113 (by kernel_rfl) rfl
noncomputable def fP(ad:(List ByteArray))(aS:ByteArray):Option (Int):=
 (((cY (ad.length:Int) (fun(i3:Int) (_:Unit)=>((at' ad i3).bind fun x7=>(bif(x7.toList==aS.toList)then some (.inr (.inr i3))else some (.inl ())))) (fun(_:Unit)=> .inl ()) 0 ())).bind (Sum.elim (fun(_:Unit)=>some (-1)) some))
theorem oc(ad:(List ByteArray))(aS:ByteArray)(r:Int)(h:fP ad aS=some r):aF Tryz.prog 169 [.v (vl eS ad),.v (vs aS)] ⟨[.v (vi r)],[],false⟩:=by
 refine ar Tryz.func169 rfl [(.tmp 4)] rfl (fun r=>⟨[.v (vi r)],[],false⟩) (r:=r) ?_
 unfold fP at h
 refine az aa ⟨19,[(0,vl eS ad),(1,vs aS)],[]⟩ ?_
 refine ai ?_
 refine az aa ⟨19,[(0,vl eS ad),(1,vs aS),(5,vi 0)],[]⟩ ?_
 refine bl (r:=r) h (fun j1=>⟨19,[],[]⟩) (fun v2 h=> ?_) (fun j1 h=> ?_)
 refine ax (a:=v2) ?_
 refine a6 (r:=v2) (s:=(0,())) _ (fun s3=>⟨19,[(0,vl eS ad),(1,vs aS),(5,vi s3.1)],[]⟩) _ (Le.ao) h (fun s3 v4 h=> ?_)
 refine ai ?_
 refine az aa ⟨19,[(0,vl eS ad),(1,vs aS),(5,vi s3.1),(9,vb (decide (s3.1<(ad.length:Int))))],[]⟩ ?_
 refine aq h (fun h=> ?_) fun h=> ?_
 refine an ?_
 refine a8 ?_
 refine ai ?_
 refine bp (r:=v4) h (fun j5=>⟨19,[(0,vl eS ad),(1,vs aS),(5,vi s3.1)],[]⟩) (fun v6 h=> ?_) (fun j5 h=> ?_)
 refine ax (a:=v6) ?_
 refine sr ?_
 refine ae.ck aa 2 ⟨19,[(0,vl eS ad),(1,vs aS),(5,vi s3.1),(12,vl eS ad),(13,vi s3.1)],[]⟩ ?_
 obtain⟨x7,hx7,h⟩:=bind_some h
 refine ae.ls (aG (L:=ad) (f:=eS) (ti:=cn) (tj:=ig) (e:=9) (k:= .i64) aa rfl hx7) ?_
 refine bU aa 3 ⟨19,[(0,vl eS ad),(1,vs aS),(5,vi s3.1),(17,vb (x7.toList==aS.toList))],[]⟩ ?_
 refine aq h (fun h=> ?_) fun h=> ?_
 refine az aa ⟨19,[(4,vi s3.1)],[]⟩ ?_
 refine ak ?_
 obtain rfl:=inj h
 exact bw (bi (bi (bw (bi (aD (f1 fv))))))
 refine an ?_
 obtain rfl:=inj h
 exact bY (cb (Le.ao))
 refine aE ?_
 refine ae.ck aa 3 ⟨19,[(0,vl eS ad),(1,vs aS),(5,vi (aZ (s3.1+1)))],[]⟩ ?_
 refine ae.nil ?_
 obtain rfl:=inj h
 exact cb (Le.ao)
 refine aO ?_
 obtain rfl:=inj h
 exact cH (cJ (cI (cb (Le.ao))))
 refine az aa ⟨19,[(4,vi (-1))],[]⟩ ?_
 refine ak ?_
 obtain rfl:=inj h
 exact aD (f1 fv)
theorem zj:a7 Tryz.prog 169:=aw Tryz.func169 (by kernel_rfl) rfl
noncomputable def dB(ad:(List au))(ap:ByteArray)(ag:Int):Option (ByteArray):=
 (((cY (ad.length:Int) (fun(i3:Int) (_:Unit)=>((((at' ad i3).bind fun x7=>(bif(x7.Child.toList==ap.toList)then((at' ad i3).bind fun x8=>((at' ad i3).bind fun x9=>((cU ag x8.Years.From x9.Years.To).bind fun x10=>some x10)))else some false))).bind fun(j11:Bool)=>(bif j11 then((at' ad i3).bind fun x13=>some (.inr (.inr x13.Parent)))else some (.inl ())))) (fun(_:Unit)=> .inl ()) 0 ())).bind (Sum.elim (fun(_:Unit)=>some (ByteArray.mk #[])) some))
theorem jD(ad:(List au))(ap:ByteArray)(ag:Int)(r:ByteArray)(h:dB ad ap ag=some r):aF Tryz.prog 130 [.v (vl ac ad),.v (vs ap),.v (vi ag)] ⟨[.v (vs r)],[],false⟩:=by
 refine ar Tryz.func130 rfl [(.tmp 6)] rfl (fun r=>⟨[.v (vs r)],[],false⟩) (r:=r) ?_
 unfold dB at h
 refine az aa ⟨42,[(0,vl ac ad),(1,vs ap),(2,vi ag)],[]⟩ ?_
 refine ai ?_
 refine az aa ⟨42,[(0,vl ac ad),(1,vs ap),(2,vi ag),(7,vi 0)],[]⟩ ?_
 refine bl (r:=r) h (fun j1=>⟨42,[],[]⟩) (fun v2 h=> ?_) (fun j1 h=> ?_)
 refine ax (a:=v2) ?_
 refine a6 (r:=v2) (s:=(0,())) _ (fun s3=>⟨42,[(0,vl ac ad),(1,vs ap),(2,vi ag),(7,vi s3.1)],[]⟩) _ (Le.ao) h (fun s3 v4 h=> ?_)
 refine ai ?_
 refine az aa ⟨42,[(0,vl ac ad),(1,vs ap),(2,vi ag),(7,vi s3.1),(11,vb (decide (s3.1<(ad.length:Int))))],[]⟩ ?_
 refine aq h (fun h=> ?_) fun h=> ?_
 refine an ?_
 refine a8 ?_
 refine ai ?_
 refine bp (r:=v4) h (fun j5=>⟨42,[(0,vl ac ad),(1,vs ap),(2,vi ag),(7,vi s3.1)],[]⟩) (fun v6 h=> ?_) (fun j5 h=> ?_)
 refine ax (a:=v6) ?_
 refine ai ?_
 refine jf mixed h (fun j11=>⟨42,[(0,vl ac ad),(1,vs ap),(2,vi ag),(7,vi s3.1),(36,vb j11)],[]⟩) (fun v12 h=> ?_) (fun j11 h=> ?_)
 refine aQ.ck aa false 2 ⟨42,[(0,vl ac ad),(1,vs ap),(2,vi ag),(7,vi s3.1),(14,vl ac ad),(15,vi s3.1)],[]⟩ ?_
 obtain⟨x7,hx7,h⟩:=bind_some h
 refine aQ.step (aG (L:=ad) (f:=ac) (ti:=eh) (tj:=ei) (e:=85) (k:= .i64) aa rfl hx7) ?_
 refine aQ.ck aa false 5 ⟨42,[(0,vl ac ad),(1,vs ap),(2,vi ag),(7,vi s3.1),(21,vb (x7.Child.toList==ap.toList))],[]⟩ ?_
 refine aQ.cu [(21,fun b=>b)] h (fun h=> ?_) fun h=> ?_
 refine aQ.ck aa false 3 ⟨42,[(0,vl ac ad),(1,vs ap),(2,vi ag),(7,vi s3.1),(21,vb true),(22,vi ag),(23,vl ac ad),(24,vi s3.1)],[]⟩ ?_
 obtain⟨x8,hx8,h⟩:=bind_some h
 refine aQ.step (aG (L:=ad) (f:=ac) (ti:=eh) (tj:=ei) (e:=85) (k:= .i64) aa rfl hx8) ?_
 refine aQ.ck aa false 5 ⟨42,[(0,vl ac ad),(1,vs ap),(2,vi ag),(7,vi s3.1),(21,vb true),(22,vi ag),(28,vi x8.Years.From),(29,vl ac ad),(30,vi s3.1)],[]⟩ ?_
 obtain⟨x9,hx9,h⟩:=bind_some h
 refine aQ.step (aG (L:=ad) (f:=ac) (ti:=eh) (tj:=ei) (e:=85) (k:= .i64) aa rfl hx9) ?_
 refine aQ.ck aa false 3 ⟨42,[(0,vl ac ad),(1,vs ap),(2,vi ag),(7,vi s3.1),(21,vb true),(22,vi ag),(28,vi x8.Years.From),(34,vi x9.Years.To)],[]⟩ ?_
 obtain⟨x10,hx10,h⟩:=bind_some h
 refine aQ.step (xc iw (cy ag x8.Years.From x9.Years.To _ hx10)) ?_
 refine aQ.ck aa false 1 ⟨42,[(0,vl ac ad),(1,vs ap),(2,vi ag),(7,vi s3.1),(36,vb x10)],[]⟩ ?_
 refine aQ.nil (by kernel_rfl) ?_
 obtain rfl:=inj h
 exact Le.ao
 refine aQ.ck aa false 15 ⟨42,[(0,vl ac ad),(1,vs ap),(2,vi ag),(7,vi s3.1),(36,vb false)],[]⟩ ?_
 refine aQ.nil (by kernel_rfl) ?_
 obtain rfl:=inj h
 exact Le.ao
 refine aq h (fun h=> ?_) fun h=> ?_
 refine sr ?_
 refine ae.ck aa 2 ⟨42,[(37,vl ac ad),(38,vi s3.1)],[]⟩ ?_
 obtain⟨x13,hx13,h⟩:=bind_some h
 refine ae.ls (aG (L:=ad) (f:=ac) (ti:=eh) (tj:=ei) (e:=85) (k:= .i64) aa rfl hx13) ?_
 refine bU aa 3 ⟨42,[(6,vs x13.Parent)],[]⟩ ?_
 refine ak ?_
 obtain rfl:=inj h
 exact bw (bi (bi (bw (bi (aD (f1 fv))))))
 refine an ?_
 obtain rfl:=inj h
 exact bY (cb (Le.ao))
 refine aE ?_
 refine ae.ck aa 3 ⟨42,[(0,vl ac ad),(1,vs ap),(2,vi ag),(7,vi (aZ (s3.1+1)))],[]⟩ ?_
 refine ae.nil ?_
 obtain rfl:=inj h
 exact cb (Le.ao)
 refine aO ?_
 obtain rfl:=inj h
 exact cH (cJ (cI (cb (Le.ao))))
 refine az aa ⟨42,[(6,vs (ByteArray.mk #[]))],[]⟩ ?_
 refine ak ?_
 obtain rfl:=inj h
 exact aD (f1 fv)
theorem vr:a7 Tryz.prog 130:=aw Tryz.func130 (by kernel_rfl) rfl
noncomputable def iL(ad:(List au))(ap:ByteArray)(ag:Int):Option ((List ByteArray)×Bool):=
 (((loop (fun(s3:ByteArray×(List ByteArray))=>(bif(!(s3.1.toList==(ByteArray.mk #[]).toList))then((fP s3.2 s3.1).bind fun x5=>(bif(decide (x5≥0))then some (.inr (.inr (([]:List ByteArray),false)))else((dU s3.2 ([s3.1]:List ByteArray)).bind fun x6=>((dB ad s3.1 ag).bind fun x7=>some (.inl (x7,x6))))))else some (.inr (.inl s3.2)))) (ap,([]:List ByteArray)))).bind (Sum.elim (fun(j1:(List ByteArray))=>some (j1,true)) some))
theorem pg(ad:(List au))(ap:ByteArray)(ag:Int)(r:(List ByteArray)×Bool)(h:iL ad ap ag=some r):aF Tryz.prog 115 [.v (vl ac ad),.v (vs ap),.v (vi ag)] ⟨[.own 9 1 r.1.length (r.1.map eS),.v (vb r.2)],[],false⟩:=by
 refine ar Tryz.func115 rfl [(.tmp 6),(.tmp 7)] rfl (fun r=>⟨[.own 9 1 r.1.length (r.1.map eS),.v (vb r.2)],[],false⟩) (r:=r) ?_
 unfold iL at h
 refine az aa ⟨25,[(0,vl ac ad),(1,vs ap),(2,vi ag)],[]⟩ ?_
 refine az aa ⟨25,[(0,vl ac ad),(1,vs ap),(2,vi ag),(8,.own 9)],[(9,oa 9 1 eS ([]:List ByteArray))]⟩ ?_
 refine ai ?_
 refine bl (r:=r) h (fun j1=>⟨25,[(8,.own 8)],[(8,oa 9 1 eS j1)]⟩) (fun v2 h=> ?_) (fun j1 h=> ?_)
 refine ax (a:=v2) ?_
 refine a6 (r:=v2) (s:=(ap,([]:List ByteArray))) _ (fun s3=>⟨25,[(0,vl ac ad),(1,vs s3.1),(2,vi ag),(8,.own 8)],[(8,oa 9 1 eS s3.2)]⟩) _ (Le.rr [9] [(9,8)]) h (fun s3 v4 h=> ?_)
 refine ai ?_
 refine az aa ⟨25,[(0,vl ac ad),(1,vs s3.1),(2,vi ag),(8,.own 8),(11,vb (!(s3.1.toList==(ByteArray.mk #[]).toList)))],[(8,oa 9 1 eS s3.2)]⟩ ?_
 refine aq h (fun h=> ?_) fun h=> ?_
 refine an ?_
 refine a8 ?_
 refine ax (a:=v4) ?_
 refine ai ?_
 refine sr ?_
 refine ae.ck aa 2 ⟨25,[(0,vl ac ad),(1,vs s3.1),(2,vi ag),(8,.own 8),(12,.own 8),(13,vs s3.1)],[(8,oa 9 1 eS s3.2)]⟩ ?_
 obtain⟨x5,hx5,h⟩:=bind_some h
 refine ae.ls (xc zj (oc s3.2 s3.1 _ hx5)) ?_
 refine bU aa 1 ⟨25,[(0,vl ac ad),(1,vs s3.1),(2,vi ag),(8,.own 8),(15,vb (decide (x5≥0)))],[(8,oa 9 1 eS s3.2)]⟩ ?_
 refine aq h (fun h=> ?_) fun h=> ?_
 refine az aa ⟨25,[(6,.own 6),(7,vb false)],[(6,oa 9 1 eS ([]:List ByteArray))]⟩ ?_
 refine ak ?_
 obtain rfl:=inj h
 exact bS (bw (bi (bw (bi (aD (f2 (fo fa) fv))))))
 refine an ?_
 refine a8 ?_
 refine sr ?_
 refine ae.ck aa 3 ⟨25,[(0,vl ac ad),(1,vs s3.1),(2,vi ag),(16,.own 8),(18,.own 18)],[(8,oa 9 1 eS s3.2),(18,oa 9 1 eS ([s3.1]:List ByteArray))]⟩ ?_
 obtain⟨x6,hx6,h⟩:=bind_some h
 refine ae.cf (bT (f:=eS) (t:=106) (ti:=cn) (tj:=ig) (zs:=[.string (ByteArray.mk #[])]) (e:=9) (m:=1) (d:=8) (xv:= .own 18) hx6 aa rfl rfl rfl rfl (dj (e:=9))) ?_
 refine bU aa 1 ⟨25,[(0,vl ac ad),(1,vs s3.1),(2,vi ag),(8,.own 19)],[(19,oa 9 1 eS x6)]⟩ ?_
 refine aE ?_
 refine ae.ck aa 3 ⟨25,[(0,vl ac ad),(2,vi ag),(8,.own 19),(20,vl ac ad),(21,vs s3.1),(22,vi ag)],[(19,oa 9 1 eS x6)]⟩ ?_
 obtain⟨x7,hx7,h⟩:=bind_some h
 refine ae.ls (xc vr (jD ad s3.1 ag _ hx7)) ?_
 refine ae.ck aa 1 ⟨25,[(0,vl ac ad),(1,vs x7),(2,vi ag),(8,.own 19)],[(19,oa 9 1 eS x6)]⟩ ?_
 refine ae.nil ?_
 obtain rfl:=inj h
 exact bY (cb (Le.rr [19] [(19,8)]))
 refine aO ?_
 obtain rfl:=inj h
 exact cH (cJ (cI (cb (Le.ao))))
 refine az aa ⟨25,[(6,.own 8),(7,vb true)],[(8,oa 9 1 eS j1)]⟩ ?_
 refine ak ?_
 obtain rfl:=inj h
 exact aD (f2 (fo fa) fv)
theorem yW:a7 Tryz.prog 115:=aw Tryz.func115 (by kernel_rfl) rfl
noncomputable def dR(ad:(List au)):Option (Bool):=
 (((cY (ad.length:Int) (fun(i3:Int) (_:Unit)=>((at' ad i3).bind fun x7=>((jC x7).bind fun x8=>(bif(!x8)then some (.inr (.inr false))else(cY i3 (fun(i9:Int) (_:Unit)=>((((at' ad i9).bind fun x13=>((at' ad i3).bind fun x14=>(bif(x13.Child.toList==x14.Child.toList)then((at' ad i9).bind fun x15=>((at' ad i3).bind fun x16=>((dh x15.Years x16.Years).bind fun x17=>some x17)))else some false)))).bind fun(j18:Bool)=>(bif j18 then some (.inr (.inr (.inr false)))else some (.inl ())))) (fun(_:Unit)=> .inl ()) 0 ()))))) (fun(_:Unit)=> .inl ()) 0 ())).bind (Sum.elim (fun(_:Unit)=>(bif(decide ((ad.length:Int)>20))then some false else(((cY (ad.length:Int) (fun(i22:Int) (_:Unit)=>(cY (ad.length:Int) (fun(i26:Int) (_:Unit)=>((at' ad i26).bind fun x30=>((at' ad i22).bind fun x31=>((iL ad x30.Child x31.Years.From).bind fun x32=>(bif(!x32.2)then some (.inr (.inr (.inr false)))else some (.inl ())))))) (fun(_:Unit)=> .inl ()) 0 ())) (fun(_:Unit)=> .inl ()) 0 ())).bind (Sum.elim (fun(_:Unit)=>some true) some)))) some))
theorem gZ(ad:(List au))(r:Bool)(h:dR ad=some r):aF Tryz.prog 60 [.v (vl ac ad)] ⟨[.v (vb r)],[],false⟩:=by
 refine ar Tryz.func60 rfl [(.tmp 2)] rfl (fun r=>⟨[.v (vb r)],[],false⟩) (r:=r) ?_
 unfold dR at h
 refine az aa ⟨83,[(0,vl ac ad)],[]⟩ ?_
 refine ai ?_
 refine az aa ⟨83,[(0,vl ac ad),(3,vi 0)],[]⟩ ?_
 refine bl (r:=r) h (fun j1=>⟨83,[(0,vl ac ad)],[]⟩) (fun v2 h=> ?_) (fun j1 h=> ?_)
 refine ax (a:=v2) ?_
 refine a6 (r:=v2) (s:=(0,())) _ (fun s3=>⟨83,[(0,vl ac ad),(3,vi s3.1)],[]⟩) _ (Le.ao) h (fun s3 v4 h=> ?_)
 refine ai ?_
 refine az aa ⟨83,[(0,vl ac ad),(3,vi s3.1),(12,vb (decide (s3.1<(ad.length:Int))))],[]⟩ ?_
 refine aq h (fun h=> ?_) fun h=> ?_
 refine an ?_
 refine a8 ?_
 refine ai ?_
 refine bp (r:=v4) h (fun j5=>⟨83,[(0,vl ac ad),(3,vi s3.1)],[]⟩) (fun v6 h=> ?_) (fun j5 h=> ?_)
 refine ax (a:=v6) ?_
 refine ai ?_
 refine sr ?_
 refine ae.ck aa 2 ⟨83,[(0,vl ac ad),(3,vi s3.1),(15,vl ac ad),(16,vi s3.1)],[]⟩ ?_
 obtain⟨x7,hx7,h⟩:=bind_some h
 refine ae.ls (aG (L:=ad) (f:=ac) (ti:=eh) (tj:=ei) (e:=85) (k:= .i64) aa rfl hx7) ?_
 refine ae.ck aa 1 ⟨83,[(0,vl ac ad),(3,vi s3.1),(18,.agg (tc ac x7))],[]⟩ ?_
 obtain⟨x8,hx8,h⟩:=bind_some h
 refine ae.ls (xc yV (qj x7 _ hx8)) ?_
 refine bU aa 1 ⟨83,[(0,vl ac ad),(3,vi s3.1),(20,vb (!x8))],[]⟩ ?_
 refine aq h (fun h=> ?_) fun h=> ?_
 refine az aa ⟨83,[(2,vb false)],[]⟩ ?_
 refine ak ?_
 obtain rfl:=inj h
 exact bS (bw (bi (bi (bw (bi (aD (f1 fv)))))))
 refine an ?_
 refine a8 ?_
 refine az aa ⟨83,[(0,vl ac ad),(3,vi s3.1),(4,vi 0)],[]⟩ ?_
 refine ax (a:=v6) ?_
 refine a6 (r:=v6) (s:=(0,())) _ (fun s9=>⟨83,[(0,vl ac ad),(3,vi s3.1),(4,vi s9.1)],[]⟩) _ (Le.ao) h (fun s9 v10 h=> ?_)
 refine ai ?_
 refine az aa ⟨83,[(0,vl ac ad),(3,vi s3.1),(4,vi s9.1),(23,vb (decide (s9.1<s3.1)))],[]⟩ ?_
 refine aq h (fun h=> ?_) fun h=> ?_
 refine an ?_
 refine a8 ?_
 refine ai ?_
 refine bp (r:=v10) h (fun j11=>⟨83,[(0,vl ac ad),(3,vi s3.1),(4,vi s9.1)],[]⟩) (fun v12 h=> ?_) (fun j11 h=> ?_)
 refine ax (a:=v12) ?_
 refine ai ?_
 refine jf mixed h (fun j18=>⟨83,[(0,vl ac ad),(3,vi s3.1),(4,vi s9.1),(49,vb j18)],[]⟩) (fun v19 h=> ?_) (fun j18 h=> ?_)
 refine aQ.ck aa false 2 ⟨83,[(0,vl ac ad),(3,vi s3.1),(4,vi s9.1),(26,vl ac ad),(27,vi s9.1)],[]⟩ ?_
 obtain⟨x13,hx13,h⟩:=bind_some h
 refine aQ.step (aG (L:=ad) (f:=ac) (ti:=eh) (tj:=ei) (e:=85) (k:= .i64) aa rfl hx13) ?_
 refine aQ.ck aa false 4 ⟨83,[(0,vl ac ad),(3,vi s3.1),(4,vi s9.1),(30,vs x13.Child),(31,vl ac ad),(32,vi s3.1)],[]⟩ ?_
 obtain⟨x14,hx14,h⟩:=bind_some h
 refine aQ.step (aG (L:=ad) (f:=ac) (ti:=eh) (tj:=ei) (e:=85) (k:= .i64) aa rfl hx14) ?_
 refine aQ.ck aa false 4 ⟨83,[(0,vl ac ad),(3,vi s3.1),(4,vi s9.1),(37,vb (x13.Child.toList==x14.Child.toList))],[]⟩ ?_
 refine aQ.cu [(37,fun b=>b)] h (fun h=> ?_) fun h=> ?_
 refine aQ.ck aa false 2 ⟨83,[(0,vl ac ad),(3,vi s3.1),(4,vi s9.1),(37,vb true),(38,vl ac ad),(39,vi s9.1)],[]⟩ ?_
 obtain⟨x15,hx15,h⟩:=bind_some h
 refine aQ.step (aG (L:=ad) (f:=ac) (ti:=eh) (tj:=ei) (e:=85) (k:= .i64) aa rfl hx15) ?_
 refine aQ.ck aa false 4 ⟨83,[(0,vl ac ad),(3,vi s3.1),(4,vi s9.1),(37,vb true),(42,.agg (tc bc x15.Years)),(43,vl ac ad),(44,vi s3.1)],[]⟩ ?_
 obtain⟨x16,hx16,h⟩:=bind_some h
 refine aQ.step (aG (L:=ad) (f:=ac) (ti:=eh) (tj:=ei) (e:=85) (k:= .i64) aa rfl hx16) ?_
 refine aQ.ck aa false 2 ⟨83,[(0,vl ac ad),(3,vi s3.1),(4,vi s9.1),(37,vb true),(42,.agg (tc bc x15.Years)),(47,.agg (tc bc x16.Years))],[]⟩ ?_
 obtain⟨x17,hx17,h⟩:=bind_some h
 refine aQ.step (xc vq (kq x15.Years x16.Years _ hx17)) ?_
 refine aQ.ck aa false 1 ⟨83,[(0,vl ac ad),(3,vi s3.1),(4,vi s9.1),(49,vb x17)],[]⟩ ?_
 refine aQ.nil (by kernel_rfl) ?_
 obtain rfl:=inj h
 exact Le.ao
 refine aQ.ck aa false 12 ⟨83,[(0,vl ac ad),(3,vi s3.1),(4,vi s9.1),(49,vb false)],[]⟩ ?_
 refine aQ.nil (by kernel_rfl) ?_
 obtain rfl:=inj h
 exact Le.ao
 refine aq h (fun h=> ?_) fun h=> ?_
 refine az aa ⟨83,[(2,vb false)],[]⟩ ?_
 refine ak ?_
 obtain rfl:=inj h
 exact bw (bi (bi (bw (bw (bi (bi (bw (bi (aD (f1 fv))))))))))
 refine an ?_
 obtain rfl:=inj h
 exact bY (cb (Le.ao))
 refine aE ?_
 refine ae.ck aa 3 ⟨83,[(0,vl ac ad),(3,vi s3.1),(4,vi (aZ (s9.1+1)))],[]⟩ ?_
 refine ae.nil ?_
 obtain rfl:=inj h
 exact cb (Le.ao)
 refine aO ?_
 obtain rfl:=inj h
 exact cH (cJ (cI (bY (cb (Le.ao)))))
 refine aE ?_
 refine ae.ck aa 3 ⟨83,[(0,vl ac ad),(3,vi (aZ (s3.1+1)))],[]⟩ ?_
 refine ae.nil ?_
 obtain rfl:=inj h
 exact cb (Le.ao)
 refine aO ?_
 obtain rfl:=inj h
 exact cH (cJ (cI (cb (Le.ao))))
 refine ai ?_
 refine az aa ⟨83,[(0,vl ac ad),(52,vb (decide ((ad.length:Int)>20)))],[]⟩ ?_
 refine aq h (fun h=> ?_) fun h=> ?_
 refine az aa ⟨83,[(2,vb false)],[]⟩ ?_
 refine ak ?_
 obtain rfl:=inj h
 exact bS (aD (f1 fv))
 refine an ?_
 refine a8 ?_
 refine ai ?_
 refine az aa ⟨83,[(0,vl ac ad),(5,vi 0)],[]⟩ ?_
 refine bl (r:=r) h (fun j20=>⟨83,[],[]⟩) (fun v21 h=> ?_) (fun j20 h=> ?_)
 refine ax (a:=v21) ?_
 refine a6 (r:=v21) (s:=(0,())) _ (fun s22=>⟨83,[(0,vl ac ad),(5,vi s22.1)],[]⟩) _ (Le.ao) h (fun s22 v23 h=> ?_)
 refine ai ?_
 refine az aa ⟨83,[(0,vl ac ad),(5,vi s22.1),(56,vb (decide (s22.1<(ad.length:Int))))],[]⟩ ?_
 refine aq h (fun h=> ?_) fun h=> ?_
 refine an ?_
 refine a8 ?_
 refine ai ?_
 refine bp (r:=v23) h (fun j24=>⟨83,[(0,vl ac ad),(5,vi s22.1)],[]⟩) (fun v25 h=> ?_) (fun j24 h=> ?_)
 refine ax (a:=v25) ?_
 refine az aa ⟨83,[(0,vl ac ad),(5,vi s22.1),(6,vi 0)],[]⟩ ?_
 refine ax (a:=v25) ?_
 refine a6 (r:=v25) (s:=(0,())) _ (fun s26=>⟨83,[(0,vl ac ad),(5,vi s22.1),(6,vi s26.1)],[]⟩) _ (Le.ao) h (fun s26 v27 h=> ?_)
 refine ai ?_
 refine az aa ⟨83,[(0,vl ac ad),(5,vi s22.1),(6,vi s26.1),(62,vb (decide (s26.1<(ad.length:Int))))],[]⟩ ?_
 refine aq h (fun h=> ?_) fun h=> ?_
 refine an ?_
 refine a8 ?_
 refine ai ?_
 refine bp (r:=v27) h (fun j28=>⟨83,[(0,vl ac ad),(5,vi s22.1),(6,vi s26.1)],[]⟩) (fun v29 h=> ?_) (fun j28 h=> ?_)
 refine ax (a:=v29) ?_
 refine ai ?_
 refine di mixed ?_
 refine aQ.ck aa false 3 ⟨83,[(0,vl ac ad),(5,vi s22.1),(6,vi s26.1),(66,vl ac ad),(67,vl ac ad),(68,vi s26.1)],[]⟩ ?_
 obtain⟨x30,hx30,h⟩:=bind_some h
 refine aQ.step (aG (L:=ad) (f:=ac) (ti:=eh) (tj:=ei) (e:=85) (k:= .i64) aa rfl hx30) ?_
 refine aQ.ck aa false 4 ⟨83,[(0,vl ac ad),(5,vi s22.1),(6,vi s26.1),(66,vl ac ad),(71,vs x30.Child),(72,vl ac ad),(73,vi s22.1)],[]⟩ ?_
 obtain⟨x31,hx31,h⟩:=bind_some h
 refine aQ.step (aG (L:=ad) (f:=ac) (ti:=eh) (tj:=ei) (e:=85) (k:= .i64) aa rfl hx31) ?_
 refine aQ.ck aa false 3 ⟨83,[(0,vl ac ad),(5,vi s22.1),(6,vi s26.1),(66,vl ac ad),(71,vs x30.Child),(77,vi x31.Years.From)],[]⟩ ?_
 obtain⟨x32,hx32,h⟩:=bind_some h
 refine aQ.step (xc yW (pg ad x30.Child x31.Years.From _ hx32)) ?_
 refine aQ.ck aa false 5 ⟨83,[(0,vl ac ad),(5,vi s22.1),(6,vi s26.1),(8,vb x32.2)],[]⟩ ?_
 refine aQ.nx ?_
 refine az aa ⟨83,[(0,vl ac ad),(5,vi s22.1),(6,vi s26.1),(82,vb (!x32.2))],[]⟩ ?_
 refine aq h (fun h=> ?_) fun h=> ?_
 refine az aa ⟨83,[(2,vb false)],[]⟩ ?_
 refine ak ?_
 obtain rfl:=inj h
 exact bw (bi (bi (bw (bw (bi (bi (bw (bi (aD (f1 fv))))))))))
 refine an ?_
 obtain rfl:=inj h
 exact bY (cb (Le.ao))
 refine aE ?_
 refine ae.ck aa 3 ⟨83,[(0,vl ac ad),(5,vi s22.1),(6,vi (aZ (s26.1+1)))],[]⟩ ?_
 refine ae.nil ?_
 obtain rfl:=inj h
 exact cb (Le.ao)
 refine aO ?_
 obtain rfl:=inj h
 exact cH (cJ (cI (bY (cb (Le.ao)))))
 refine aE ?_
 refine ae.ck aa 3 ⟨83,[(0,vl ac ad),(5,vi (aZ (s22.1+1)))],[]⟩ ?_
 refine ae.nil ?_
 obtain rfl:=inj h
 exact cb (Le.ao)
 refine aO ?_
 obtain rfl:=inj h
 exact cH (cJ (cI (cb (Le.ao))))
 refine az aa ⟨83,[(2,vb true)],[]⟩ ?_
 refine ak ?_
 obtain rfl:=inj h
 exact aD (f1 fv)
theorem uC:a7 Tryz.prog 60:=aw Tryz.func60 (by kernel_rfl) rfl
noncomputable def bR(ad:(List Place))(ap:ByteArray):Option (Int):=
 (((cY (ad.length:Int) (fun(i3:Int) (_:Unit)=>((at' ad i3).bind fun x7=>(bif(x7.Code.toList==ap.toList)then some (.inr (.inr i3))else some (.inl ())))) (fun(_:Unit)=> .inl ()) 0 ())).bind (Sum.elim (fun(_:Unit)=>some (-1)) some))
theorem cl(ad:(List Place))(ap:ByteArray)(r:Int)(h:bR ad ap=some r):aF Tryz.prog 61 [.v (vl ab ad),.v (vs ap)] ⟨[.v (vi r)],[],false⟩:=by
 refine ar Tryz.func61 rfl [(.tmp 4)] rfl (fun r=>⟨[.v (vi r)],[],false⟩) (r:=r) ?_
 unfold bR at h
 refine az aa ⟨20,[(0,vl ab ad),(1,vs ap)],[]⟩ ?_
 refine ai ?_
 refine az aa ⟨20,[(0,vl ab ad),(1,vs ap),(5,vi 0)],[]⟩ ?_
 refine bl (r:=r) h (fun j1=>⟨20,[],[]⟩) (fun v2 h=> ?_) (fun j1 h=> ?_)
 refine ax (a:=v2) ?_
 refine a6 (r:=v2) (s:=(0,())) _ (fun s3=>⟨20,[(0,vl ab ad),(1,vs ap),(5,vi s3.1)],[]⟩) _ (Le.ao) h (fun s3 v4 h=> ?_)
 refine ai ?_
 refine az aa ⟨20,[(0,vl ab ad),(1,vs ap),(5,vi s3.1),(9,vb (decide (s3.1<(ad.length:Int))))],[]⟩ ?_
 refine aq h (fun h=> ?_) fun h=> ?_
 refine an ?_
 refine a8 ?_
 refine ai ?_
 refine bp (r:=v4) h (fun j5=>⟨20,[(0,vl ab ad),(1,vs ap),(5,vi s3.1)],[]⟩) (fun v6 h=> ?_) (fun j5 h=> ?_)
 refine ax (a:=v6) ?_
 refine sr ?_
 refine ae.ck aa 2 ⟨20,[(0,vl ab ad),(1,vs ap),(5,vi s3.1),(12,vl ab ad),(13,vi s3.1)],[]⟩ ?_
 obtain⟨x7,hx7,h⟩:=bind_some h
 refine ae.ls (aG (L:=ad) (f:=ab) (ti:=df) (tj:=cD) (e:=91) (k:= .i64) aa rfl hx7) ?_
 refine bU aa 4 ⟨20,[(0,vl ab ad),(1,vs ap),(5,vi s3.1),(18,vb (x7.Code.toList==ap.toList))],[]⟩ ?_
 refine aq h (fun h=> ?_) fun h=> ?_
 refine az aa ⟨20,[(4,vi s3.1)],[]⟩ ?_
 refine ak ?_
 obtain rfl:=inj h
 exact bw (bi (bi (bw (bi (aD (f1 fv))))))
 refine an ?_
 obtain rfl:=inj h
 exact bY (cb (Le.ao))
 refine aE ?_
 refine ae.ck aa 3 ⟨20,[(0,vl ab ad),(1,vs ap),(5,vi (aZ (s3.1+1)))],[]⟩ ?_
 refine ae.nil ?_
 obtain rfl:=inj h
 exact cb (Le.ao)
 refine aO ?_
 obtain rfl:=inj h
 exact cH (cJ (cI (cb (Le.ao))))
 refine az aa ⟨20,[(4,vi (-1))],[]⟩ ?_
 refine ak ?_
 obtain rfl:=inj h
 exact aD (f1 fv)
theorem ky:a7 Tryz.prog 61:=aw Tryz.func61 (by kernel_rfl) rfl
noncomputable def hN(aW:World):Option (Bool):=
 ((((dD aW.Places).bind fun x1=>(bif(!x1)then some true else((dR aW.Links).bind fun x2=>some (!x2))))).bind fun(j3:Bool)=>(bif j3 then some false else(((cY (aW.Links.length:Int) (fun(i7:Int) (_:Unit)=>((at' aW.Links i7).bind fun x11=>((bR aW.Places x11.Child).bind fun x12=>((bR aW.Places x11.Parent).bind fun x13=>(((bif(decide (x12<0))then some true else(bif(decide (x13<0))then some true else((at' aW.Places x12).bind fun x14=>((at' aW.Places x13).bind fun x15=>(bif(decide (x11.Years.From<(zW x14.Years.From x15.Years.From)))then some true else((at' aW.Places x12).bind fun x16=>((at' aW.Places x13).bind fun x17=>some (decide (x11.Years.To>(bL x16.Years.To x17.Years.To))))))))))).bind fun(j18:Bool)=>(bif j18 then some (.inr (.inr false))else some (.inl ()))))))) (fun(_:Unit)=> .inl ()) 0 ())).bind (Sum.elim (fun(_:Unit)=>some true) some))))
theorem ob(aW:World)(r:Bool)(h:hN aW=some r):aF Tryz.prog 25 [.v (.agg (tc aj aW))] ⟨[.v (vb r)],[],false⟩:=by
 refine ar Tryz.func25 rfl [(.tmp 2)] rfl (fun r=>⟨[.v (vb r)],[],false⟩) (r:=r) ?_
 unfold hN at h
 refine az aa ⟨87,[(1,.ref 1 0)],[(1,.box (tc aj aW))]⟩ ?_
 refine ai ?_
 refine ai ?_
 refine bk h (fun j3=>⟨87,[(1,.ref 1 0),(16,vb j3)],[(1,.box (tc aj aW))]⟩) (fun v4 h=> ?_) (fun j3 h=> ?_)
 refine ae.ck aa 2 ⟨87,[(1,.ref 1 0),(8,vl ab aW.Places)],[(1,.box (tc aj aW))]⟩ ?_
 obtain⟨x1,hx1,h⟩:=bind_some h
 refine ae.ls (xc xz (iZ aW.Places _ hx1)) ?_
 refine ae.ck aa 2 ⟨87,[(1,.ref 1 0),(11,vb (!x1))],[(1,.box (tc aj aW))]⟩ ?_
 refine ae.cu [(11,fun b=>b)] h (fun h=> ?_) fun h=> ?_
 refine ae.ck aa 5 ⟨87,[(1,.ref 1 0),(16,vb true)],[(1,.box (tc aj aW))]⟩ ?_
 refine ae.nil ?_
 obtain rfl:=inj h
 exact Le.ao
 refine ae.ck aa 2 ⟨87,[(1,.ref 1 0),(11,vb false),(13,vl ac aW.Links)],[(1,.box (tc aj aW))]⟩ ?_
 obtain⟨x2,hx2,h⟩:=bind_some h
 refine ae.ls (xc uC (gZ aW.Links _ hx2)) ?_
 refine ae.ck aa 2 ⟨87,[(1,.ref 1 0),(16,vb (!x2))],[(1,.box (tc aj aW))]⟩ ?_
 refine ae.nil ?_
 obtain rfl:=inj h
 exact Le.ao
 refine aq h (fun h=> ?_) fun h=> ?_
 refine az aa ⟨87,[(2,vb false)],[]⟩ ?_
 refine ak ?_
 obtain rfl:=inj h
 exact bS (aD (f1 fv))
 refine an ?_
 refine a8 ?_
 refine ai ?_
 refine az aa ⟨87,[(1,.ref 1 0),(3,vi 0)],[(1,.box (tc aj aW))]⟩ ?_
 refine bl (r:=r) h (fun j5=>⟨87,[],[]⟩) (fun v6 h=> ?_) (fun j5 h=> ?_)
 refine ax (a:=v6) ?_
 refine a6 (r:=v6) (s:=(0,())) _ (fun s7=>⟨87,[(1,.ref 1 0),(3,vi s7.1)],[(1,.box (tc aj aW))]⟩) _ (Le.ao) h (fun s7 v8 h=> ?_)
 refine ai ?_
 refine az aa ⟨87,[(1,.ref 1 0),(3,vi s7.1),(21,vb (decide (s7.1<(aW.Links.length:Int))))],[(1,.box (tc aj aW))]⟩ ?_
 refine aq h (fun h=> ?_) fun h=> ?_
 refine an ?_
 refine a8 ?_
 refine ai ?_
 refine bp (r:=v8) h (fun j9=>⟨87,[(1,.ref 1 0),(3,vi s7.1)],[(1,.box (tc aj aW))]⟩) (fun v10 h=> ?_) (fun j9 h=> ?_)
 refine ax (a:=v10) ?_
 refine sr ?_
 refine ae.ck aa 3 ⟨87,[(1,.ref 1 0),(3,vi s7.1),(25,vl ac aW.Links),(26,vi s7.1)],[(1,.box (tc aj aW))]⟩ ?_
 obtain⟨x11,hx11,h⟩:=bind_some h
 refine ae.ls (aG (L:=aW.Links) (f:=ac) (ti:=eh) (tj:=ei) (e:=85) (k:= .i64) aa rfl hx11) ?_
 refine bU aa 3 ⟨87,[(1,.ref 1 0),(3,vi s7.1),(4,.ref 4 0)],[(1,.box (tc aj aW)),(4,.box (tc ac x11))]⟩ ?_
 refine ai ?_
 refine di mixed ?_
 refine aQ.ck aa false 4 ⟨87,[(1,.ref 1 0),(3,vi s7.1),(4,.ref 4 0),(30,vl ab aW.Places),(32,vs x11.Child)],[(1,.box (tc aj aW)),(4,.box (tc ac x11))]⟩ ?_
 obtain⟨x12,hx12,h⟩:=bind_some h
 refine aQ.step (xc ky (cl aW.Places x11.Child _ hx12)) ?_
 refine aQ.ck aa false 4 ⟨87,[(1,.ref 1 0),(3,vi s7.1),(4,.ref 4 0),(33,vi x12),(35,vl ab aW.Places),(37,vs x11.Parent)],[(1,.box (tc aj aW)),(4,.box (tc ac x11))]⟩ ?_
 obtain⟨x13,hx13,h⟩:=bind_some h
 refine aQ.step (xc ky (cl aW.Places x11.Parent _ hx13)) ?_
 refine aQ.ck aa false 2 ⟨87,[(1,.ref 1 0),(3,vi s7.1),(4,.ref 4 0),(5,vi x12),(6,vi x13)],[(1,.box (tc aj aW)),(4,.box (tc ac x11))]⟩ ?_
 refine aQ.nx ?_
 refine ai ?_
 refine jf mixed h (fun j18=>⟨87,[(1,.ref 1 0),(3,vi s7.1),(86,vb j18)],[(1,.box (tc aj aW))]⟩) (fun v19 h=> ?_) (fun j18 h=> ?_)
 refine aQ.ck aa false 3 ⟨87,[(1,.ref 1 0),(3,vi s7.1),(4,.ref 4 0),(5,vi x12),(6,vi x13),(41,vb (decide (x12<0)))],[(1,.box (tc aj aW)),(4,.box (tc ac x11))]⟩ ?_
 refine aQ.cu [(41,fun b=>b)] h (fun h=> ?_) fun h=> ?_
 refine aQ.ck aa false 45 ⟨87,[(1,.ref 1 0),(3,vi s7.1),(86,vb true)],[(1,.box (tc aj aW))]⟩ ?_
 refine aQ.nil (by kernel_rfl) ?_
 obtain rfl:=inj h
 exact Le.ao
 refine aQ.ck aa false 4 ⟨87,[(1,.ref 1 0),(3,vi s7.1),(4,.ref 4 0),(5,vi x12),(6,vi x13),(45,vb (decide (x13<0)))],[(1,.box (tc aj aW)),(4,.box (tc ac x11))]⟩ ?_
 refine aQ.cu [(45,fun b=>b)] h (fun h=> ?_) fun h=> ?_
 refine aQ.ck aa false 41 ⟨87,[(1,.ref 1 0),(3,vi s7.1),(86,vb true)],[(1,.box (tc aj aW))]⟩ ?_
 refine aQ.nil (by kernel_rfl) ?_
 obtain rfl:=inj h
 exact Le.ao
 refine aQ.ck aa false 6 ⟨87,[(1,.ref 1 0),(3,vi s7.1),(4,.ref 4 0),(5,vi x12),(6,vi x13),(45,vb false),(48,vi x11.Years.From),(50,vl ab aW.Places),(51,vi x12)],[(1,.box (tc aj aW)),(4,.box (tc ac x11))]⟩ ?_
 obtain⟨x14,hx14,h⟩:=bind_some h
 refine aQ.step (aG (L:=aW.Places) (f:=ab) (ti:=df) (tj:=cD) (e:=91) (k:= .i64) aa rfl hx14) ?_
 refine aQ.ck aa false 6 ⟨87,[(1,.ref 1 0),(3,vi s7.1),(4,.ref 4 0),(5,vi x12),(6,vi x13),(45,vb false),(48,vi x11.Years.From),(55,vi x14.Years.From),(57,vl ab aW.Places),(58,vi x13)],[(1,.box (tc aj aW)),(4,.box (tc ac x11))]⟩ ?_
 obtain⟨x15,hx15,h⟩:=bind_some h
 refine aQ.step (aG (L:=aW.Places) (f:=ab) (ti:=df) (tj:=cD) (e:=91) (k:= .i64) aa rfl hx15) ?_
 refine aQ.ck aa false 7 ⟨87,[(1,.ref 1 0),(3,vi s7.1),(4,.ref 4 0),(5,vi x12),(6,vi x13),(66,vb (decide (x11.Years.From<(zW x14.Years.From x15.Years.From))))],[(1,.box (tc aj aW)),(4,.box (tc ac x11))]⟩ ?_
 refine aQ.cu [(66,fun b=>b)] h (fun h=> ?_) fun h=> ?_
 refine aQ.ck aa false 20 ⟨87,[(1,.ref 1 0),(3,vi s7.1),(86,vb true)],[(1,.box (tc aj aW))]⟩ ?_
 refine aQ.nil (by kernel_rfl) ?_
 obtain rfl:=inj h
 exact Le.ao
 refine aQ.ck aa false 6 ⟨87,[(1,.ref 1 0),(3,vi s7.1),(6,vi x13),(66,vb false),(69,vi x11.Years.To),(71,vl ab aW.Places),(72,vi x12)],[(1,.box (tc aj aW))]⟩ ?_
 obtain⟨x16,hx16,h⟩:=bind_some h
 refine aQ.step (aG (L:=aW.Places) (f:=ab) (ti:=df) (tj:=cD) (e:=91) (k:= .i64) aa rfl hx16) ?_
 refine aQ.ck aa false 6 ⟨87,[(1,.ref 1 0),(3,vi s7.1),(66,vb false),(69,vi x11.Years.To),(76,vi x16.Years.To),(78,vl ab aW.Places),(79,vi x13)],[(1,.box (tc aj aW))]⟩ ?_
 obtain⟨x17,hx17,h⟩:=bind_some h
 refine aQ.step (aG (L:=aW.Places) (f:=ab) (ti:=df) (tj:=cD) (e:=91) (k:= .i64) aa rfl hx17) ?_
 refine aQ.ck aa false 6 ⟨87,[(1,.ref 1 0),(3,vi s7.1),(86,vb (decide (x11.Years.To>(bL x16.Years.To x17.Years.To))))],[(1,.box (tc aj aW))]⟩ ?_
 refine aQ.nil (by kernel_rfl) ?_
 obtain rfl:=inj h
 exact Le.ao
 refine aq h (fun h=> ?_) fun h=> ?_
 refine az aa ⟨87,[(2,vb false)],[]⟩ ?_
 refine ak ?_
 obtain rfl:=inj h
 exact bw (bi (bi (bw (bi (aD (f1 fv))))))
 refine an ?_
 obtain rfl:=inj h
 exact bY (cb (Le.ao))
 refine aE ?_
 refine ae.ck aa 3 ⟨87,[(1,.ref 1 0),(3,vi (aZ (s7.1+1)))],[(1,.box (tc aj aW))]⟩ ?_
 refine ae.nil ?_
 obtain rfl:=inj h
 exact cb (Le.ao)
 refine aO ?_
 obtain rfl:=inj h
 exact cH (cJ (cI (cb (Le.ao))))
 refine az aa ⟨87,[(2,vb true)],[]⟩ ?_
 refine ak ?_
 obtain rfl:=inj h
 exact aD (f1 fv)
theorem AH:a7 Tryz.prog 25:=aw Tryz.func25 (by kernel_rfl) rfl
noncomputable def gg(aC:Change):Option (Bool):=
 ((((cU aC.Year (-2999) 3000).bind fun x1=>(bif(!x1)then some true else((cU aC.Kind 0 3).bind fun x2=>(bif(!x2)then some true else((cN aC.Code).bind fun x3=>some (!x3))))))).bind fun(j4:Bool)=>(bif j4 then some false else(((bif(aC.Kind==0)then((((cV aC.Language).bind fun x8=>(bif(!x8)then some true else((dS aC.Text).bind fun x9=>some (!x9))))).bind fun(j10:Bool)=>(bif j10 then some (.inr false)else some (.inl ())))else(bif((!(aC.Language.toList==(ByteArray.mk #[]).toList)) || (!(aC.Text.toList==(ByteArray.mk #[]).toList)))then some (.inr false)else some (.inl ())))).bind (Sum.elim (fun(_:Unit)=>(bif((aC.Kind==2) || (aC.Kind==3))then((((cN aC.Other).bind fun x12=>(bif x12 then some (!(aC.Other.toList==aC.Code.toList))else some false))).bind fun(j13:Bool)=>some j13)else some (aC.Other.toList==(ByteArray.mk #[]).toList))) some))))
theorem np(aC:Change)(r:Bool)(h:gg aC=some r):aF Tryz.prog 125 [.v (.agg (tc ah aC))] ⟨[.v (vb r)],[],false⟩:=by
 refine ar Tryz.func125 rfl [(.tmp 2)] rfl (fun r=>⟨[.v (vb r)],[],false⟩) (r:=r) ?_
 unfold gg at h
 refine az aa ⟨61,[(1,.ref 1 0)],[(1,.box (tc ah aC))]⟩ ?_
 refine ai ?_
 refine ai ?_
 refine bk h (fun j4=>⟨61,[(1,.ref 1 0),(18,vb j4)],[(1,.box (tc ah aC))]⟩) (fun v5 h=> ?_) (fun j4 h=> ?_)
 refine ae.ck aa 2 ⟨61,[(1,.ref 1 0),(4,vi aC.Year)],[(1,.box (tc ah aC))]⟩ ?_
 obtain⟨x1,hx1,h⟩:=bind_some h
 refine ae.ls (xc iw (cy aC.Year (-2999) 3000 _ hx1)) ?_
 refine ae.ck aa 2 ⟨61,[(1,.ref 1 0),(7,vb (!x1))],[(1,.box (tc ah aC))]⟩ ?_
 refine ae.cu [(7,fun b=>b)] h (fun h=> ?_) fun h=> ?_
 refine ae.ck aa 11 ⟨61,[(1,.ref 1 0),(18,vb true)],[(1,.box (tc ah aC))]⟩ ?_
 refine ae.nil ?_
 obtain rfl:=inj h
 exact Le.ao
 refine ae.ck aa 2 ⟨61,[(1,.ref 1 0),(7,vb false),(9,vi aC.Kind)],[(1,.box (tc ah aC))]⟩ ?_
 obtain⟨x2,hx2,h⟩:=bind_some h
 refine ae.ls (xc iw (cy aC.Kind 0 3 _ hx2)) ?_
 refine ae.ck aa 3 ⟨61,[(1,.ref 1 0),(13,vb (!x2))],[(1,.box (tc ah aC))]⟩ ?_
 refine ae.cu [(13,fun b=>b)] h (fun h=> ?_) fun h=> ?_
 refine ae.ck aa 5 ⟨61,[(1,.ref 1 0),(18,vb true)],[(1,.box (tc ah aC))]⟩ ?_
 refine ae.nil ?_
 obtain rfl:=inj h
 exact Le.ao
 refine ae.ck aa 2 ⟨61,[(1,.ref 1 0),(13,vb false),(15,vs aC.Code)],[(1,.box (tc ah aC))]⟩ ?_
 obtain⟨x3,hx3,h⟩:=bind_some h
 refine ae.ls (xc jH (cO aC.Code _ hx3)) ?_
 refine ae.ck aa 2 ⟨61,[(1,.ref 1 0),(18,vb (!x3))],[(1,.box (tc ah aC))]⟩ ?_
 refine ae.nil ?_
 obtain rfl:=inj h
 exact Le.ao
 refine aq h (fun h=> ?_) fun h=> ?_
 refine az aa ⟨61,[(2,vb false)],[]⟩ ?_
 refine ak ?_
 obtain rfl:=inj h
 exact bS (aD (f1 fv))
 refine an ?_
 refine a8 ?_
 refine ai ?_
 refine az aa ⟨61,[(1,.ref 1 0),(21,vb (aC.Kind==0))],[(1,.box (tc ah aC))]⟩ ?_
 refine bl (r:=r) h (fun j6=>⟨61,[(1,.ref 1 0)],[(1,.box (tc ah aC))]⟩) (fun v7 h=> ?_) (fun j6 h=> ?_)
 refine aq h (fun h=> ?_) fun h=> ?_
 refine ai ?_
 refine bk h (fun j10=>⟨61,[(1,.ref 1 0),(31,vb j10)],[(1,.box (tc ah aC))]⟩) (fun v11 h=> ?_) (fun j10 h=> ?_)
 refine ae.ck aa 2 ⟨61,[(1,.ref 1 0),(23,vs aC.Language)],[(1,.box (tc ah aC))]⟩ ?_
 obtain⟨x8,hx8,h⟩:=bind_some h
 refine ae.ls (xc rC (fx aC.Language _ hx8)) ?_
 refine ae.ck aa 2 ⟨61,[(1,.ref 1 0),(26,vb (!x8))],[(1,.box (tc ah aC))]⟩ ?_
 refine ae.cu [(26,fun b=>b)] h (fun h=> ?_) fun h=> ?_
 refine ae.ck aa 5 ⟨61,[(1,.ref 1 0),(31,vb true)],[(1,.box (tc ah aC))]⟩ ?_
 refine ae.nil ?_
 obtain rfl:=inj h
 exact Le.ao
 refine ae.ck aa 2 ⟨61,[(1,.ref 1 0),(26,vb false),(28,vs aC.Text)],[(1,.box (tc ah aC))]⟩ ?_
 obtain⟨x9,hx9,h⟩:=bind_some h
 refine ae.ls (xc rD (hG aC.Text _ hx9)) ?_
 refine ae.ck aa 2 ⟨61,[(1,.ref 1 0),(31,vb (!x9))],[(1,.box (tc ah aC))]⟩ ?_
 refine ae.nil ?_
 obtain rfl:=inj h
 exact Le.ao
 refine aq h (fun h=> ?_) fun h=> ?_
 refine az aa ⟨61,[(2,vb false)],[]⟩ ?_
 refine ak ?_
 obtain rfl:=inj h
 exact bi (aD (f1 fv))
 refine an ?_
 obtain rfl:=inj h
 exact cb (Le.ao)
 refine ai ?_
 refine cQ ⟨61,[(1,.ref 1 0),(39,vb ((!(aC.Language.toList==(ByteArray.mk #[]).toList)) || (!(aC.Text.toList==(ByteArray.mk #[]).toList))))],[(1,.box (tc ah aC))]⟩ ?_ ?_
 refine ae.ck aa 4 ⟨61,[(1,.ref 1 0),(35,vb (!(aC.Language.toList==(ByteArray.mk #[]).toList)))],[(1,.box (tc ah aC))]⟩ ?_
 generalize (!(aC.Language.toList==(ByteArray.mk #[]).toList))=bb
 cases bb
 refine ae.ck aa 4 ⟨61,[(1,.ref 1 0),(39,vb (!(aC.Text.toList==(ByteArray.mk #[]).toList)))],[(1,.box (tc ah aC))]⟩ ?_
 exact ae.nil (Le.ao)
 refine ae.ck aa 4 ⟨61,[(1,.ref 1 0),(39,vb true)],[(1,.box (tc ah aC))]⟩ ?_
 exact ae.nil (Le.ao)
 refine aq h (fun h=> ?_) fun h=> ?_
 refine az aa ⟨61,[(2,vb false)],[]⟩ ?_
 refine ak ?_
 obtain rfl:=inj h
 exact bi (aD (f1 fv))
 refine an ?_
 obtain rfl:=inj h
 exact cb (Le.ao)
 refine ai ?_
 refine ai ?_
 refine cQ ⟨61,[(1,.ref 1 0),(47,vb ((aC.Kind==2) || (aC.Kind==3)))],[(1,.box (tc ah aC))]⟩ ?_ ?_
 refine ae.ck aa 4 ⟨61,[(1,.ref 1 0),(43,vb (aC.Kind==2))],[(1,.box (tc ah aC))]⟩ ?_
 generalize (aC.Kind==2)=bb
 cases bb
 refine ae.ck aa 4 ⟨61,[(1,.ref 1 0),(47,vb (aC.Kind==3))],[(1,.box (tc ah aC))]⟩ ?_
 exact ae.nil (Le.ao)
 refine ae.ck aa 4 ⟨61,[(1,.ref 1 0),(47,vb true)],[(1,.box (tc ah aC))]⟩ ?_
 exact ae.nil (Le.ao)
 refine aq h (fun h=> ?_) fun h=> ?_
 refine ai ?_
 refine bk h (fun j13=>⟨61,[(2,vb j13)],[]⟩) (fun v14 h=> ?_) (fun j13 h=> ?_)
 refine ae.ck aa 2 ⟨61,[(1,.ref 1 0),(49,vs aC.Other)],[(1,.box (tc ah aC))]⟩ ?_
 obtain⟨x12,hx12,h⟩:=bind_some h
 refine ae.ls (xc jH (cO aC.Other _ hx12)) ?_
 refine ae.ck aa 1 ⟨61,[(1,.ref 1 0),(51,vb x12)],[(1,.box (tc ah aC))]⟩ ?_
 refine ae.cu [(51,fun b=>b)] h (fun h=> ?_) fun h=> ?_
 refine ae.ck aa 7 ⟨61,[(2,vb (!(aC.Other.toList==aC.Code.toList)))],[]⟩ ?_
 refine ae.nil ?_
 obtain rfl:=inj h
 exact Le.ao
 refine ae.ck aa 7 ⟨61,[(2,vb false)],[]⟩ ?_
 refine ae.nil ?_
 obtain rfl:=inj h
 exact Le.ao
 refine ak ?_
 obtain rfl:=inj h
 exact bS (aD (f1 fv))
 refine an ?_
 refine a8 ?_
 refine az aa ⟨61,[(2,vb (aC.Other.toList==(ByteArray.mk #[]).toList))],[]⟩ ?_
 refine ak ?_
 obtain rfl:=inj h
 exact aD (f1 fv)
theorem yY:a7 Tryz.prog 125:=aw Tryz.func125 (by kernel_rfl) rfl
noncomputable def cL(aP:Place)(ag:Int):Option (Bool):=
 ((cU ag aP.Years.From aP.Years.To).bind fun x1=>some x1)
theorem dA(aP:Place)(ag:Int)(r:Bool)(h:cL aP ag=some r):aF Tryz.prog 126 [.v (.agg (tc ab aP)),.v (vi ag)] ⟨[.v (vb r)],[],false⟩:=by
 refine ar Tryz.func126 rfl [(.tmp 4)] rfl (fun r=>⟨[.v (vb r)],[],false⟩) (r:=r) ?_
 unfold cL at h
 refine az aa ⟨13,[(1,vi ag),(2,.ref 2 0)],[(2,.box (tc ab aP))]⟩ ?_
 refine sr ?_
 refine ae.ck aa 7 ⟨13,[(5,vi ag),(8,vi aP.Years.From),(11,vi aP.Years.To)],[]⟩ ?_
 obtain⟨x1,hx1,h⟩:=bind_some h
 refine ae.ls (xc iw (cy ag aP.Years.From aP.Years.To _ hx1)) ?_
 refine bU aa 1 ⟨13,[(4,vb x1)],[]⟩ ?_
 refine ak ?_
 obtain rfl:=inj h
 exact aD (f1 fv)
theorem mU:a7 Tryz.prog 126:=aw Tryz.func126 (by kernel_rfl) rfl
noncomputable def ic(aW:World)(aC:Change):Option (Int):=
 ((((hN aW).bind fun x1=>(bif(!x1)then some true else((gg aC).bind fun x2=>some (!x2))))).bind fun(j3:Bool)=>(bif j3 then some 1 else((bR aW.Places aC.Code).bind fun x5=>((bR aW.Places aC.Other).bind fun x6=>(bif((decide (x5<0)) || ((!(aC.Other.toList==(ByteArray.mk #[]).toList))&&(decide (x6<0))))then some 4 else((((at' aW.Places x5).bind fun x7=>((cL x7 (aZ (aC.Year - 1))).bind fun x8=>(bif(!x8)then some true else(bif(aC.Kind !=1)then((at' aW.Places x5).bind fun x9=>((cL x9 aC.Year).bind fun x10=>(bif(!x10)then some true else(bif(!(aC.Other.toList==(ByteArray.mk #[]).toList))then((at' aW.Places x6).bind fun x11=>((cL x11 aC.Year).bind fun x12=>some (!x12)))else some false))))else(bif(!(aC.Other.toList==(ByteArray.mk #[]).toList))then((at' aW.Places x6).bind fun x13=>((cL x13 aC.Year).bind fun x14=>some (!x14)))else some false)))))).bind fun(j15:Bool)=>(bif j15 then some 5 else some 0)))))))
theorem oi(aW:World)(aC:Change)(r:Int)(h:ic aW aC=some r):aF Tryz.prog 68 [.v (.agg (tc aj aW)),.v (.agg (tc ah aC))] ⟨[.v (vi r)],[],false⟩:=by
 refine ar Tryz.func68 rfl [(.tmp 4)] rfl (fun r=>⟨[.v (vi r)],[],false⟩) (r:=r) ?_
 unfold ic at h
 refine az aa ⟨78,[(2,.ref 2 0),(3,.ref 3 0)],[(2,.box (tc aj aW)),(3,.box (tc ah aC))]⟩ ?_
 refine ai ?_
 refine ai ?_
 refine bk h (fun j3=>⟨78,[(2,.ref 2 0),(3,.ref 3 0),(14,vb j3)],[(2,.box (tc aj aW)),(3,.box (tc ah aC))]⟩) (fun v4 h=> ?_) (fun j3 h=> ?_)
 refine ae.ck aa 1 ⟨78,[(2,.ref 2 0),(3,.ref 3 0),(7,.agg (tc aj aW))],[(2,.box (tc aj aW)),(3,.box (tc ah aC))]⟩ ?_
 obtain⟨x1,hx1,h⟩:=bind_some h
 refine ae.ls (xc AH (ob aW _ hx1)) ?_
 refine ae.ck aa 2 ⟨78,[(2,.ref 2 0),(3,.ref 3 0),(10,vb (!x1))],[(2,.box (tc aj aW)),(3,.box (tc ah aC))]⟩ ?_
 refine ae.cu [(10,fun b=>b)] h (fun h=> ?_) fun h=> ?_
 refine ae.ck aa 4 ⟨78,[(2,.ref 2 0),(3,.ref 3 0),(14,vb true)],[(2,.box (tc aj aW)),(3,.box (tc ah aC))]⟩ ?_
 refine ae.nil ?_
 obtain rfl:=inj h
 exact Le.ao
 refine ae.ck aa 1 ⟨78,[(2,.ref 2 0),(3,.ref 3 0),(10,vb false),(11,.agg (tc ah aC))],[(2,.box (tc aj aW)),(3,.box (tc ah aC))]⟩ ?_
 obtain⟨x2,hx2,h⟩:=bind_some h
 refine ae.ls (xc yY (np aC _ hx2)) ?_
 refine ae.ck aa 2 ⟨78,[(2,.ref 2 0),(3,.ref 3 0),(14,vb (!x2))],[(2,.box (tc aj aW)),(3,.box (tc ah aC))]⟩ ?_
 refine ae.nil ?_
 obtain rfl:=inj h
 exact Le.ao
 refine aq h (fun h=> ?_) fun h=> ?_
 refine az aa ⟨78,[(4,vi 1)],[]⟩ ?_
 refine ak ?_
 obtain rfl:=inj h
 exact bS (aD (f1 fv))
 refine an ?_
 refine a8 ?_
 refine ai ?_
 refine di mixed ?_
 refine aQ.ck aa false 4 ⟨78,[(2,.ref 2 0),(3,.ref 3 0),(16,vl ab aW.Places),(18,vs aC.Code)],[(2,.box (tc aj aW)),(3,.box (tc ah aC))]⟩ ?_
 obtain⟨x5,hx5,h⟩:=bind_some h
 refine aQ.step (xc ky (cl aW.Places aC.Code _ hx5)) ?_
 refine aQ.ck aa false 4 ⟨78,[(2,.ref 2 0),(3,.ref 3 0),(19,vi x5),(21,vl ab aW.Places),(23,vs aC.Other)],[(2,.box (tc aj aW)),(3,.box (tc ah aC))]⟩ ?_
 obtain⟨x6,hx6,h⟩:=bind_some h
 refine aQ.step (xc ky (cl aW.Places aC.Other _ hx6)) ?_
 refine aQ.ck aa false 2 ⟨78,[(2,.ref 2 0),(3,.ref 3 0),(5,vi x5),(6,vi x6)],[(2,.box (tc aj aW)),(3,.box (tc ah aC))]⟩ ?_
 refine aQ.nx ?_
 refine ai ?_
 refine ai ?_
 refine cQ ⟨78,[(2,.ref 2 0),(3,.ref 3 0),(5,vi x5),(6,vi x6),(35,vb ((decide (x5<0)) || ((!(aC.Other.toList==(ByteArray.mk #[]).toList))&&(decide (x6<0)))))],[(2,.box (tc aj aW)),(3,.box (tc ah aC))]⟩ ?_ ?_
 refine ae.ck aa 3 ⟨78,[(2,.ref 2 0),(3,.ref 3 0),(5,vi x5),(6,vi x6),(27,vb (decide (x5<0)))],[(2,.box (tc aj aW)),(3,.box (tc ah aC))]⟩ ?_
 generalize (decide (x5<0))=bb
 cases bb
 refine ae.ck aa 4 ⟨78,[(2,.ref 2 0),(3,.ref 3 0),(5,vi x5),(6,vi x6),(27,vb false),(31,vb (!(aC.Other.toList==(ByteArray.mk #[]).toList)))],[(2,.box (tc aj aW)),(3,.box (tc ah aC))]⟩ ?_
 generalize (!(aC.Other.toList==(ByteArray.mk #[]).toList))=bb
 cases bb
 refine ae.ck aa 4 ⟨78,[(2,.ref 2 0),(3,.ref 3 0),(5,vi x5),(6,vi x6),(35,vb false)],[(2,.box (tc aj aW)),(3,.box (tc ah aC))]⟩ ?_
 exact ae.nil (Le.ao)
 refine ae.ck aa 4 ⟨78,[(2,.ref 2 0),(3,.ref 3 0),(5,vi x5),(6,vi x6),(35,vb (decide (x6<0)))],[(2,.box (tc aj aW)),(3,.box (tc ah aC))]⟩ ?_
 exact ae.nil (Le.ao)
 refine ae.ck aa 8 ⟨78,[(2,.ref 2 0),(3,.ref 3 0),(5,vi x5),(6,vi x6),(35,vb true)],[(2,.box (tc aj aW)),(3,.box (tc ah aC))]⟩ ?_
 exact ae.nil (Le.ao)
 refine aq h (fun h=> ?_) fun h=> ?_
 refine az aa ⟨78,[(4,vi 4)],[]⟩ ?_
 refine ak ?_
 obtain rfl:=inj h
 exact bS (aD (f1 fv))
 refine an ?_
 refine a8 ?_
 refine ai ?_
 refine ai ?_
 refine jf mixed h (fun j15=>⟨78,[(77,vb j15)],[]⟩) (fun v16 h=> ?_) (fun j15 h=> ?_)
 refine aQ.ck aa false 3 ⟨78,[(2,.ref 2 0),(3,.ref 3 0),(5,vi x5),(6,vi x6),(37,vl ab aW.Places),(38,vi x5)],[(2,.box (tc aj aW)),(3,.box (tc ah aC))]⟩ ?_
 obtain⟨x7,hx7,h⟩:=bind_some h
 refine aQ.step (aG (L:=aW.Places) (f:=ab) (ti:=df) (tj:=cD) (e:=91) (k:= .i64) aa rfl hx7) ?_
 refine aQ.ck aa false 4 ⟨78,[(2,.ref 2 0),(3,.ref 3 0),(5,vi x5),(6,vi x6),(40,.agg (tc ab x7)),(43,vi (aZ (aC.Year - 1)))],[(2,.box (tc aj aW)),(3,.box (tc ah aC))]⟩ ?_
 obtain⟨x8,hx8,h⟩:=bind_some h
 refine aQ.step (xc mU (dA x7 (aZ (aC.Year - 1)) _ hx8)) ?_
 refine aQ.ck aa false 2 ⟨78,[(2,.ref 2 0),(3,.ref 3 0),(5,vi x5),(6,vi x6),(46,vb (!x8))],[(2,.box (tc aj aW)),(3,.box (tc ah aC))]⟩ ?_
 refine aQ.cu [(46,fun b=>b)] h (fun h=> ?_) fun h=> ?_
 refine aQ.ck aa false 31 ⟨78,[(77,vb true)],[]⟩ ?_
 refine aQ.nil (by kernel_rfl) ?_
 obtain rfl:=inj h
 exact Le.ao
 refine aQ.ck aa false 4 ⟨78,[(2,.ref 2 0),(3,.ref 3 0),(5,vi x5),(6,vi x6),(46,vb false),(50,vb (aC.Kind !=1))],[(2,.box (tc aj aW)),(3,.box (tc ah aC))]⟩ ?_
 refine aQ.cu [(50,fun b=>b)] h (fun h=> ?_) fun h=> ?_
 refine aQ.ck aa false 3 ⟨78,[(2,.ref 2 0),(3,.ref 3 0),(6,vi x6),(46,vb false),(50,vb true),(52,vl ab aW.Places),(53,vi x5)],[(2,.box (tc aj aW)),(3,.box (tc ah aC))]⟩ ?_
 obtain⟨x9,hx9,h⟩:=bind_some h
 refine aQ.step (aG (L:=aW.Places) (f:=ab) (ti:=df) (tj:=cD) (e:=91) (k:= .i64) aa rfl hx9) ?_
 refine aQ.ck aa false 3 ⟨78,[(2,.ref 2 0),(3,.ref 3 0),(6,vi x6),(46,vb false),(50,vb true),(55,.agg (tc ab x9)),(57,vi aC.Year)],[(2,.box (tc aj aW)),(3,.box (tc ah aC))]⟩ ?_
 obtain⟨x10,hx10,h⟩:=bind_some h
 refine aQ.step (xc mU (dA x9 aC.Year _ hx10)) ?_
 refine aQ.ck aa false 4 ⟨78,[(2,.ref 2 0),(3,.ref 3 0),(6,vi x6),(62,vb (!x10))],[(2,.box (tc aj aW)),(3,.box (tc ah aC))]⟩ ?_
 refine aQ.cu [(62,fun b=>b)] h (fun h=> ?_) fun h=> ?_
 refine aQ.ck aa false 15 ⟨78,[(77,vb true)],[]⟩ ?_
 refine aQ.nil (by kernel_rfl) ?_
 obtain rfl:=inj h
 exact Le.ao
 refine aQ.ck aa false 4 ⟨78,[(2,.ref 2 0),(3,.ref 3 0),(6,vi x6),(62,vb false),(66,vb (!(aC.Other.toList==(ByteArray.mk #[]).toList)))],[(2,.box (tc aj aW)),(3,.box (tc ah aC))]⟩ ?_
 refine aQ.cu [(66,fun b=>b)] h (fun h=> ?_) fun h=> ?_
 refine aQ.ck aa false 3 ⟨78,[(3,.ref 3 0),(62,vb false),(66,vb true),(68,vl ab aW.Places),(69,vi x6)],[(3,.box (tc ah aC))]⟩ ?_
 obtain⟨x11,hx11,h⟩:=bind_some h
 refine aQ.step (aG (L:=aW.Places) (f:=ab) (ti:=df) (tj:=cD) (e:=91) (k:= .i64) aa rfl hx11) ?_
 refine aQ.ck aa false 3 ⟨78,[(62,vb false),(66,vb true),(71,.agg (tc ab x11)),(73,vi aC.Year)],[]⟩ ?_
 obtain⟨x12,hx12,h⟩:=bind_some h
 refine aQ.step (xc mU (dA x11 aC.Year _ hx12)) ?_
 refine aQ.ck aa false 3 ⟨78,[(77,vb (!x12))],[]⟩ ?_
 refine aQ.nil (by kernel_rfl) ?_
 obtain rfl:=inj h
 exact Le.ao
 refine aQ.ck aa false 11 ⟨78,[(77,vb false)],[]⟩ ?_
 refine aQ.nil (by kernel_rfl) ?_
 obtain rfl:=inj h
 exact Le.ao
 refine aQ.ck aa false 16 ⟨78,[(2,.ref 2 0),(3,.ref 3 0),(6,vi x6),(62,vb false),(66,vb (!(aC.Other.toList==(ByteArray.mk #[]).toList)))],[(2,.box (tc aj aW)),(3,.box (tc ah aC))]⟩ ?_
 refine aQ.cu [(66,fun b=>b)] h (fun h=> ?_) fun h=> ?_
 refine aQ.ck aa false 3 ⟨78,[(3,.ref 3 0),(62,vb false),(66,vb true),(68,vl ab aW.Places),(69,vi x6)],[(3,.box (tc ah aC))]⟩ ?_
 obtain⟨x13,hx13,h⟩:=bind_some h
 refine aQ.step (aG (L:=aW.Places) (f:=ab) (ti:=df) (tj:=cD) (e:=91) (k:= .i64) aa rfl hx13) ?_
 refine aQ.ck aa false 3 ⟨78,[(62,vb false),(66,vb true),(71,.agg (tc ab x13)),(73,vi aC.Year)],[]⟩ ?_
 obtain⟨x14,hx14,h⟩:=bind_some h
 refine aQ.step (xc mU (dA x13 aC.Year _ hx14)) ?_
 refine aQ.ck aa false 3 ⟨78,[(77,vb (!x14))],[]⟩ ?_
 refine aQ.nil (by kernel_rfl) ?_
 obtain rfl:=inj h
 exact Le.ao
 refine aQ.ck aa false 11 ⟨78,[(77,vb false)],[]⟩ ?_
 refine aQ.nil (by kernel_rfl) ?_
 obtain rfl:=inj h
 exact Le.ao
 refine aq h (fun h=> ?_) fun h=> ?_
 refine az aa ⟨78,[(4,vi 5)],[]⟩ ?_
 refine ak ?_
 obtain rfl:=inj h
 exact bS (aD (f1 fv))
 refine an ?_
 refine a8 ?_
 refine az aa ⟨78,[(4,vi 0)],[]⟩ ?_
 refine ak ?_
 obtain rfl:=inj h
 exact aD (f1 fv)
theorem AU:a7 Tryz.prog 68:=aw Tryz.func68 (by kernel_rfl) rfl
noncomputable def hU(ad:(List Name))(ay:ByteArray)(ag:Int):Option (Int):=
 ((((eX ad).bind fun x1=>(bif(!x1)then some true else((cV ay).bind fun x2=>some (!x2))))).bind fun(j3:Bool)=>(bif j3 then some 1 else((cK ag).bind fun x5=>(bif(!x5)then some 2 else some 0))))
theorem od(ad:(List Name))(ay:ByteArray)(ag:Int)(r:Int)(h:hU ad ay ag=some r):aF Tryz.prog 174 [.v (vl af ad),.v (vs ay),.v (vi ag)] ⟨[.v (vi r)],[],false⟩:=by
 refine ar Tryz.func174 rfl [(.tmp 6)] rfl (fun r=>⟨[.v (vi r)],[],false⟩) (r:=r) ?_
 unfold hU at h
 refine az aa ⟨18,[(0,vl af ad),(1,vs ay),(2,vi ag)],[]⟩ ?_
 refine ai ?_
 refine ai ?_
 refine bk h (fun j3=>⟨18,[(2,vi ag),(14,vb j3)],[]⟩) (fun v4 h=> ?_) (fun j3 h=> ?_)
 refine ae.ck aa 1 ⟨18,[(1,vs ay),(2,vi ag),(7,vl af ad)],[]⟩ ?_
 obtain⟨x1,hx1,h⟩:=bind_some h
 refine ae.ls (xc vy (jT ad _ hx1)) ?_
 refine ae.ck aa 2 ⟨18,[(1,vs ay),(2,vi ag),(10,vb (!x1))],[]⟩ ?_
 refine ae.cu [(10,fun b=>b)] h (fun h=> ?_) fun h=> ?_
 refine ae.ck aa 4 ⟨18,[(2,vi ag),(14,vb true)],[]⟩ ?_
 refine ae.nil ?_
 obtain rfl:=inj h
 exact Le.ao
 refine ae.ck aa 1 ⟨18,[(2,vi ag),(10,vb false),(11,vs ay)],[]⟩ ?_
 obtain⟨x2,hx2,h⟩:=bind_some h
 refine ae.ls (xc rC (fx ay _ hx2)) ?_
 refine ae.ck aa 2 ⟨18,[(2,vi ag),(14,vb (!x2))],[]⟩ ?_
 refine ae.nil ?_
 obtain rfl:=inj h
 exact Le.ao
 refine aq h (fun h=> ?_) fun h=> ?_
 refine az aa ⟨18,[(6,vi 1)],[]⟩ ?_
 refine ak ?_
 obtain rfl:=inj h
 exact bS (aD (f1 fv))
 refine an ?_
 refine a8 ?_
 refine ai ?_
 refine sr ?_
 refine ae.ck aa 1 ⟨18,[(15,vi ag)],[]⟩ ?_
 obtain⟨x5,hx5,h⟩:=bind_some h
 refine ae.ls (xc mV (ef ag _ hx5)) ?_
 refine bU aa 1 ⟨18,[(17,vb (!x5))],[]⟩ ?_
 refine aq h (fun h=> ?_) fun h=> ?_
 refine az aa ⟨18,[(6,vi 2)],[]⟩ ?_
 refine ak ?_
 obtain rfl:=inj h
 exact bS (aD (f1 fv))
 refine an ?_
 refine a8 ?_
 refine az aa ⟨18,[(6,vi 0)],[]⟩ ?_
 refine ak ?_
 obtain rfl:=inj h
 exact aD (f1 fv)
theorem zl:a7 Tryz.prog 174:=aw Tryz.func174 (by kernel_rfl) rfl
noncomputable def je(ad:(List Name))(ag:Int):Option ((List Int)):=
 (((iQ (ad.length:Int) (fun(i3:Int) (s3:(List Int))=>((at' ad i3).bind fun x7=>((at' ad i3).bind fun x8=>((cU ag x7.Years.From x8.Years.To).bind fun x9=>(bif x9 then((dU s3 ([i3]:List Int)).bind fun x10=>some x10)else some s3))))) (fun(s3:(List Int))=>s3) 0 ([]:List Int))).bind fun(j1:(List Int))=>some j1)
theorem oe(ad:(List Name))(ag:Int)(r:(List Int))(h:je ad ag=some r):aF Tryz.prog 204 [.v (vl af ad),.v (vi ag)] ⟨[.own 2 1 r.length (r.map (eI .i64))],[],false⟩:=by
 refine ar Tryz.func204 rfl [(.tmp 4)] rfl (fun r=>⟨[.own 2 1 r.length (r.map (eI .i64))],[],false⟩) (r:=r) ?_
 unfold je at h
 refine az aa ⟨33,[(0,vl af ad),(1,vi ag)],[]⟩ ?_
 refine az aa ⟨33,[(0,vl af ad),(1,vi ag),(5,.own 7)],[(7,oa 2 1 (eI .i64) ([]:List Int))]⟩ ?_
 refine ai ?_
 refine az aa ⟨33,[(0,vl af ad),(1,vi ag),(5,.own 7),(6,vi 0)],[(7,oa 2 1 (eI .i64) ([]:List Int))]⟩ ?_
 refine bg h (fun j1=>⟨33,[(5,.own 5)],[(5,oa 2 1 (eI .i64) j1)]⟩) (fun v2 h=> ?_) (fun j1 h=> ?_)
 refine ax (a:=v2) ?_
 refine a6 (r:=v2) (s:=(0,([]:List Int))) _ (fun s3=>⟨33,[(0,vl af ad),(1,vi ag),(5,.own 5),(6,vi s3.1)],[(5,oa 2 1 (eI .i64) s3.2)]⟩) _ (Le.rr [7] [(7,5)]) h (fun s3 v4 h=> ?_)
 refine ai ?_
 refine az aa ⟨33,[(0,vl af ad),(1,vi ag),(5,.own 5),(6,vi s3.1),(11,vb (decide (s3.1<(ad.length:Int))))],[(5,oa 2 1 (eI .i64) s3.2)]⟩ ?_
 refine aq h (fun h=> ?_) fun h=> ?_
 refine an ?_
 refine a8 ?_
 refine ai ?_
 refine bg h (fun j5=>⟨33,[(0,vl af ad),(1,vi ag),(5,.own 5),(6,vi s3.1)],[(5,oa 2 1 (eI .i64) j5)]⟩) (fun v6 h=> ?_) (fun j5 h=> ?_)
 refine ax (a:=v6) ?_
 refine ai ?_
 refine di mixed ?_
 refine aQ.ck aa false 3 ⟨33,[(0,vl af ad),(1,vi ag),(5,.own 5),(6,vi s3.1),(14,vi ag),(15,vl af ad),(16,vi s3.1)],[(5,oa 2 1 (eI .i64) s3.2)]⟩ ?_
 obtain⟨x7,hx7,h⟩:=bind_some h
 refine aQ.step (aG (L:=ad) (f:=af) (ti:=ej) (tj:=dq) (e:=169) (k:= .i64) aa rfl hx7) ?_
 refine aQ.ck aa false 5 ⟨33,[(0,vl af ad),(1,vi ag),(5,.own 5),(6,vi s3.1),(14,vi ag),(20,vi x7.Years.From),(21,vl af ad),(22,vi s3.1)],[(5,oa 2 1 (eI .i64) s3.2)]⟩ ?_
 obtain⟨x8,hx8,h⟩:=bind_some h
 refine aQ.step (aG (L:=ad) (f:=af) (ti:=ej) (tj:=dq) (e:=169) (k:= .i64) aa rfl hx8) ?_
 refine aQ.ck aa false 3 ⟨33,[(0,vl af ad),(1,vi ag),(5,.own 5),(6,vi s3.1),(14,vi ag),(20,vi x7.Years.From),(26,vi x8.Years.To)],[(5,oa 2 1 (eI .i64) s3.2)]⟩ ?_
 obtain⟨x9,hx9,h⟩:=bind_some h
 refine aQ.step (xc iw (cy ag x7.Years.From x8.Years.To _ hx9)) ?_
 refine aQ.nx ?_
 refine aq h (fun h=> ?_) fun h=> ?_
 refine aE ?_
 refine ae.ck aa 3 ⟨33,[(0,vl af ad),(1,vi ag),(6,vi s3.1),(28,.own 5),(30,.own 30)],[(5,oa 2 1 (eI .i64) s3.2),(30,oa 2 1 (eI .i64) ([s3.1]:List Int))]⟩ ?_
 obtain⟨x10,hx10,h⟩:=bind_some h
 refine ae.cf (bT (f:=(eI .i64)) (t:=144) (ti:=vV) (tj:=ti2) (zs:=[.int .i64 0]) (e:=2) (m:=1) (d:=5) (xv:= .own 30) hx10 aa rfl rfl rfl rfl (dj (e:=2))) ?_
 refine ae.ck aa 1 ⟨33,[(0,vl af ad),(1,vi ag),(5,.own 31),(6,vi s3.1)],[(31,oa 2 1 (eI .i64) x10)]⟩ ?_
 refine ae.nil ?_
 obtain rfl:=inj h
 exact bY (fO (Le.rr [31] [(31,5)]))
 refine an ?_
 obtain rfl:=inj h
 exact bY (fO (Le.ao))
 refine aE ?_
 refine ae.ck aa 3 ⟨33,[(0,vl af ad),(1,vi ag),(5,.own 5),(6,vi (aZ (s3.1+1)))],[(5,oa 2 1 (eI .i64) j5)]⟩ ?_
 refine ae.nil ?_
 obtain rfl:=inj h
 exact cb (Le.ao)
 refine aO ?_
 obtain rfl:=inj h
 exact cH (cJ (cI (fO (Le.ao))))
 refine az aa ⟨33,[(4,.own 5)],[(5,oa 2 1 (eI .i64) j1)]⟩ ?_
 refine ak ?_
 obtain rfl:=inj h
 exact aD (f1 (fo (yP .i64)))
theorem zF:a7 Tryz.prog 204:=aw Tryz.func204 (by kernel_rfl) rfl
noncomputable def eg(ad:(List Name))(ay:ByteArray)(ag:Int):Option (Int):=
 ((je ad ag).bind fun x1=>(((cY (x1.length:Int) (fun(i4:Int) (_:Unit)=>((at' x1 i4).bind fun x8=>((at' ad x8).bind fun x9=>(bif((x9.Status==0)&&(x9.Language.toList==ay.toList))then((at' x1 i4).bind fun x10=>some (.inr (.inr x10)))else some (.inl ()))))) (fun(_:Unit)=> .inl ()) 0 ())).bind (Sum.elim (fun(_:Unit)=>some (-1)) some)))
theorem lz(ad:(List Name))(ay:ByteArray)(ag:Int)(r:Int)(h:eg ad ay ag=some r):aF Tryz.prog 175 [.v (vl af ad),.v (vs ay),.v (vi ag)] ⟨[.v (vi r)],[],false⟩:=by
 refine ar Tryz.func175 rfl [(.tmp 6)] rfl (fun r=>⟨[.v (vi r)],[],false⟩) (r:=r) ?_
 unfold eg at h
 refine az aa ⟨39,[(0,vl af ad),(1,vs ay),(2,vi ag)],[]⟩ ?_
 refine sr ?_
 refine ae.ck aa 2 ⟨39,[(0,vl af ad),(1,vs ay),(10,vl af ad),(11,vi ag)],[]⟩ ?_
 obtain⟨x1,hx1,h⟩:=bind_some h
 refine ae.ls (xc zF (oe ad ag _ hx1)) ?_
 refine bU aa 1 ⟨39,[(0,vl af ad),(1,vs ay),(7,.own 12)],[(12,oa 2 1 (eI .i64) x1)]⟩ ?_
 refine ai ?_
 refine az aa ⟨39,[(0,vl af ad),(1,vs ay),(7,.own 12),(8,vi 0)],[(12,oa 2 1 (eI .i64) x1)]⟩ ?_
 refine bl (r:=r) h (fun j2=>⟨39,[],[]⟩) (fun v3 h=> ?_) (fun j2 h=> ?_)
 refine ax (a:=v3) ?_
 refine a6 (r:=v3) (s:=(0,())) _ (fun s4=>⟨39,[(0,vl af ad),(1,vs ay),(7,.own 7),(8,vi s4.1)],[(7,oa 2 1 (eI .i64) x1)]⟩) _ (Le.rr [12] [(12,7)]) h (fun s4 v5 h=> ?_)
 refine ai ?_
 refine az aa ⟨39,[(0,vl af ad),(1,vs ay),(7,.own 7),(8,vi s4.1),(16,vb (decide (s4.1<(x1.length:Int))))],[(7,oa 2 1 (eI .i64) x1)]⟩ ?_
 refine aq h (fun h=> ?_) fun h=> ?_
 refine an ?_
 refine a8 ?_
 refine ai ?_
 refine bp (r:=v5) h (fun j6=>⟨39,[(0,vl af ad),(1,vs ay),(7,.own 7),(8,vi s4.1)],[(7,oa 2 1 (eI .i64) x1)]⟩) (fun v7 h=> ?_) (fun j6 h=> ?_)
 refine ax (a:=v7) ?_
 refine sr ?_
 refine ae.ck aa 3 ⟨39,[(0,vl af ad),(1,vs ay),(7,.own 7),(8,vi s4.1),(19,vl af ad),(20,.own 7),(21,vi s4.1)],[(7,oa 2 1 (eI .i64) x1)]⟩ ?_
 obtain⟨x8,hx8,h⟩:=bind_some h
 refine ae.ls (bX (d:=7) (L:=x1) (f:=(eI .i64)) (ti:=vV) (tj:=ti2) (e:=2) (e':=2) (m:=1) (k:= .i64) aa rfl hx8) ?_
 refine ae.ls (dd (d:=7) (m:=1) (j:=0) (L:=x1) (f:=(eI .i64)) (ti:=ti2) (e:=2) (v:=vi x8) aa rfl hx8) ?_
 obtain⟨x9,hx9,h⟩:=bind_some h
 refine ae.ls (aG (L:=ad) (f:=af) (ti:=ej) (tj:=dq) (e:=169) (k:= .i64) aa rfl hx9) ?_
 refine bU aa 3 ⟨39,[(0,vl af ad),(1,vs ay),(7,.own 7),(8,vi s4.1),(9,.ref 9 0)],[(7,oa 2 1 (eI .i64) x1),(9,.box (tc af x9))]⟩ ?_
 refine ai ?_
 refine cQ ⟨39,[(0,vl af ad),(1,vs ay),(7,.own 7),(8,vi s4.1),(34,vb ((x9.Status==0)&&(x9.Language.toList==ay.toList)))],[(7,oa 2 1 (eI .i64) x1)]⟩ ?_ ?_
 refine ae.ck aa 4 ⟨39,[(0,vl af ad),(1,vs ay),(7,.own 7),(8,vi s4.1),(9,.ref 9 0),(29,vb (x9.Status==0))],[(7,oa 2 1 (eI .i64) x1),(9,.box (tc af x9))]⟩ ?_
 generalize (x9.Status==0)=bb
 cases bb
 refine ae.ck aa 5 ⟨39,[(0,vl af ad),(1,vs ay),(7,.own 7),(8,vi s4.1),(34,vb false)],[(7,oa 2 1 (eI .i64) x1)]⟩ ?_
 exact ae.nil (Le.ao)
 refine ae.ck aa 5 ⟨39,[(0,vl af ad),(1,vs ay),(7,.own 7),(8,vi s4.1),(34,vb (x9.Language.toList==ay.toList))],[(7,oa 2 1 (eI .i64) x1)]⟩ ?_
 exact ae.nil (Le.ao)
 refine aq h (fun h=> ?_) fun h=> ?_
 refine sr ?_
 refine ae.ck aa 2 ⟨39,[(35,.own 7),(36,vi s4.1)],[(7,oa 2 1 (eI .i64) x1)]⟩ ?_
 obtain⟨x10,hx10,h⟩:=bind_some h
 refine ae.ls (bX (d:=7) (L:=x1) (f:=(eI .i64)) (ti:=vV) (tj:=ti2) (e:=2) (e':=2) (m:=1) (k:= .i64) aa rfl hx10) ?_
 refine ae.ls (dd (d:=7) (m:=1) (j:=0) (L:=x1) (f:=(eI .i64)) (ti:=ti2) (e:=2) (v:=vi x10) aa rfl hx10) ?_
 refine bU aa 1 ⟨39,[(6,vi x10)],[]⟩ ?_
 refine ak ?_
 obtain rfl:=inj h
 exact bw (bi (bi (bw (bi (aD (f1 fv))))))
 refine an ?_
 obtain rfl:=inj h
 exact bY (cb (Le.ao))
 refine aE ?_
 refine ae.ck aa 3 ⟨39,[(0,vl af ad),(1,vs ay),(7,.own 7),(8,vi (aZ (s4.1+1)))],[(7,oa 2 1 (eI .i64) x1)]⟩ ?_
 refine ae.nil ?_
 obtain rfl:=inj h
 exact cb (Le.ao)
 refine aO ?_
 obtain rfl:=inj h
 exact cH (cJ (cI (cb (Le.ao))))
 refine az aa ⟨39,[(6,vi (-1))],[]⟩ ?_
 refine ak ?_
 obtain rfl:=inj h
 exact aD (f1 fv)
theorem zm:a7 Tryz.prog 175:=aw Tryz.func175 (by kernel_rfl) rfl
noncomputable def fy(ad:(List Name))(aK:Int)(ag:Int)(bm:ByteArray):Option ((List Name)):=
 ((at' ad aK).bind fun x1=>(((iQ (ad.length:Int) (fun(i4:Int) (s4:(List Name))=>((at' ad i4).bind fun x8=>(((bif(i4==aK)then(bif(x1.Years.From==ag)then some (.inr s4)else some (.inl (Name.mk x8.Text x8.Language x8.Status (Span.mk x1.Years.From (aZ (ag - 1))))))else some (.inl x8))).bind (Sum.elim (fun(j9:Name)=>((dU s4 ([j9]:List Name)).bind fun x11=>some x11)) some)))) (fun(s4:(List Name))=>s4) 0 ([]:List Name))).bind fun(j2:(List Name))=>((dU j2 ([(Name.mk bm x1.Language 0 (Span.mk ag x1.Years.To))]:List Name)).bind fun x12=>some x12)))
theorem mE(ad:(List Name))(aK:Int)(ag:Int)(bm:ByteArray)(r:(List Name))(h:fy ad aK ag bm=some r):aF Tryz.prog 176 [.v (vl af ad),.v (vi aK),.v (vi ag),.v (vs bm)] ⟨[.own 169 5 r.length (r.map af)],[],false⟩:=by
 refine ar Tryz.func176 rfl [(.tmp 8)] rfl (fun r=>⟨[.own 169 5 r.length (r.map af)],[],false⟩) (r:=r) ?_
 unfold fy at h
 refine az aa ⟨59,[(0,vl af ad),(1,vi aK),(2,vi ag),(3,vs bm)],[]⟩ ?_
 refine sr ?_
 refine ae.ck aa 2 ⟨59,[(0,vl af ad),(1,vi aK),(2,vi ag),(3,vs bm),(13,vl af ad),(14,vi aK)],[]⟩ ?_
 obtain⟨x1,hx1,h⟩:=bind_some h
 refine ae.ls (aG (L:=ad) (f:=af) (ti:=ej) (tj:=dq) (e:=169) (k:= .i64) aa rfl hx1) ?_
 refine bU aa 3 ⟨59,[(0,vl af ad),(1,vi aK),(2,vi ag),(3,vs bm),(9,.ref 9 0)],[(9,.box (tc af x1))]⟩ ?_
 refine az aa ⟨59,[(0,vl af ad),(1,vi aK),(2,vi ag),(3,vs bm),(9,.ref 9 0),(10,.own 17)],[(9,.box (tc af x1)),(17,oa 169 5 af ([]:List Name))]⟩ ?_
 refine ai ?_
 refine az aa ⟨59,[(0,vl af ad),(1,vi aK),(2,vi ag),(3,vs bm),(9,.ref 9 0),(10,.own 17),(11,vi 0)],[(9,.box (tc af x1)),(17,oa 169 5 af ([]:List Name))]⟩ ?_
 refine bg h (fun j2=>⟨59,[(2,vi ag),(3,vs bm),(9,.ref 9 0),(10,.own 10)],[(9,.box (tc af x1)),(10,oa 169 5 af j2)]⟩) (fun v3 h=> ?_) (fun j2 h=> ?_)
 refine ax (a:=v3) ?_
 refine a6 (r:=v3) (s:=(0,([]:List Name))) _ (fun s4=>⟨59,[(0,vl af ad),(1,vi aK),(2,vi ag),(3,vs bm),(9,.ref 9 0),(10,.own 10),(11,vi s4.1)],[(9,.box (tc af x1)),(10,oa 169 5 af s4.2)]⟩) _ (Le.rr [9,17] [(17,10)]) h (fun s4 v5 h=> ?_)
 refine ai ?_
 refine az aa ⟨59,[(0,vl af ad),(1,vi aK),(2,vi ag),(3,vs bm),(9,.ref 9 0),(10,.own 10),(11,vi s4.1),(21,vb (decide (s4.1<(ad.length:Int))))],[(9,.box (tc af x1)),(10,oa 169 5 af s4.2)]⟩ ?_
 refine aq h (fun h=> ?_) fun h=> ?_
 refine an ?_
 refine a8 ?_
 refine ai ?_
 refine bg h (fun j6=>⟨59,[(0,vl af ad),(1,vi aK),(2,vi ag),(3,vs bm),(9,.ref 9 0),(10,.own 10),(11,vi s4.1)],[(9,.box (tc af x1)),(10,oa 169 5 af j6)]⟩) (fun v7 h=> ?_) (fun j6 h=> ?_)
 refine ax (a:=v7) ?_
 refine sr ?_
 refine ae.ck aa 2 ⟨59,[(0,vl af ad),(1,vi aK),(2,vi ag),(3,vs bm),(9,.ref 9 0),(10,.own 10),(11,vi s4.1),(24,vl af ad),(25,vi s4.1)],[(9,.box (tc af x1)),(10,oa 169 5 af s4.2)]⟩ ?_
 obtain⟨x8,hx8,h⟩:=bind_some h
 refine ae.ls (aG (L:=ad) (f:=af) (ti:=ej) (tj:=dq) (e:=169) (k:= .i64) aa rfl hx8) ?_
 refine bU aa 3 ⟨59,[(0,vl af ad),(1,vi aK),(2,vi ag),(3,vs bm),(9,.ref 9 0),(10,.own 10),(11,vi s4.1),(12,.ref 12 0)],[(9,.box (tc af x1)),(10,oa 169 5 af s4.2),(12,.box (tc af x8))]⟩ ?_
 refine ai ?_
 refine az aa ⟨59,[(0,vl af ad),(1,vi aK),(2,vi ag),(3,vs bm),(9,.ref 9 0),(10,.own 10),(11,vi s4.1),(12,.ref 12 0),(30,vb (s4.1==aK))],[(9,.box (tc af x1)),(10,oa 169 5 af s4.2),(12,.box (tc af x8))]⟩ ?_
 refine bl (r:=v7) h (fun j9=>⟨59,[(0,vl af ad),(1,vi aK),(2,vi ag),(3,vs bm),(9,.ref 9 0),(10,.own 10),(11,vi s4.1),(12,.ref 12 0)],[(9,.box (tc af x1)),(10,oa 169 5 af s4.2),(12,.box (tc af j9))]⟩) (fun v10 h=> ?_) (fun j9 h=> ?_)
 refine aq h (fun h=> ?_) fun h=> ?_
 refine ai ?_
 refine az aa ⟨59,[(0,vl af ad),(1,vi aK),(2,vi ag),(3,vs bm),(9,.ref 9 0),(10,.own 10),(11,vi s4.1),(12,.ref 12 0),(35,vb (x1.Years.From==ag))],[(9,.box (tc af x1)),(10,oa 169 5 af s4.2),(12,.box (tc af x8))]⟩ ?_
 refine aq h (fun h=> ?_) fun h=> ?_
 refine aO ?_
 obtain rfl:=inj h
 exact cH (cJ (cI (fO (Le.ao))))
 refine an ?_
 refine a8 ?_
 refine aE ?_
 refine ae.ck aa 5 ⟨59,[(0,vl af ad),(1,vi aK),(2,vi ag),(3,vs bm),(9,.ref 9 0),(10,.own 10),(11,vi s4.1),(12,.ref 12 0),(38,vi x1.Years.From),(40,vi (aZ (ag - 1)))],[(9,.box (tc af x1)),(10,oa 169 5 af s4.2),(12,.box (tc af x8))]⟩ ?_
 refine ae.ls (bt (v:= .agg [vi x1.Years.From,vi (aZ (ag - 1))]) aa rfl) ?_
 refine ae.ck aa 2 ⟨59,[(0,vl af ad),(1,vi aK),(2,vi ag),(3,vs bm),(9,.ref 9 0),(10,.own 10),(11,vi s4.1),(12,.ref 12 0)],[(9,.box (tc af x1)),(10,oa 169 5 af s4.2),(12,.box [vs x8.Text,vs x8.Language,vi x8.Status,vi x1.Years.From,vi (aZ (ag - 1))])]⟩ ?_
 refine ae.nil ?_
 obtain rfl:=inj h
 exact cb (Le.ao)
 refine an ?_
 obtain rfl:=inj h
 exact cb (Le.ao)
 refine aE ?_
 refine ae.ck aa 3 ⟨59,[(0,vl af ad),(1,vi aK),(2,vi ag),(3,vs bm),(9,.ref 9 0),(11,vi s4.1),(43,.own 10),(45,.own 45)],[(9,.box (tc af x1)),(10,oa 169 5 af s4.2),(45,oa 169 5 af ([j9]:List Name))]⟩ ?_
 obtain⟨x11,hx11,h⟩:=bind_some h
 refine ae.cf (bT (f:=af) (t:=89) (ti:=ej) (tj:=dq) (zs:=[.string (ByteArray.mk #[]),.string (ByteArray.mk #[]),.int .i64 0,.int .i64 0,.int .i64 0]) (e:=169) (m:=5) (d:=10) (xv:= .own 45) hx11 aa rfl rfl rfl rfl (dj (e:=169))) ?_
 refine ae.ck aa 1 ⟨59,[(0,vl af ad),(1,vi aK),(2,vi ag),(3,vs bm),(9,.ref 9 0),(10,.own 46),(11,vi s4.1)],[(9,.box (tc af x1)),(46,oa 169 5 af x11)]⟩ ?_
 refine ae.nil ?_
 obtain rfl:=inj h
 exact bY (fO (Le.rr [9,46] [(46,10)]))
 refine aE ?_
 refine ae.ck aa 3 ⟨59,[(0,vl af ad),(1,vi aK),(2,vi ag),(3,vs bm),(9,.ref 9 0),(10,.own 10),(11,vi (aZ (s4.1+1)))],[(9,.box (tc af x1)),(10,oa 169 5 af j6)]⟩ ?_
 refine ae.nil ?_
 obtain rfl:=inj h
 exact cb (Le.ao)
 refine aO ?_
 obtain rfl:=inj h
 exact cH (cJ (cI (fO (Le.ao))))
 refine sr ?_
 refine ae.ck aa 8 ⟨59,[(47,.own 10),(48,vs bm),(50,vs x1.Language),(51,vi ag),(54,vi x1.Years.To)],[(10,oa 169 5 af j2)]⟩ ?_
 refine ae.ls (bt (v:= .agg [vi ag,vi x1.Years.To]) aa rfl) ?_
 refine ae.ls (bt (v:= .agg [vs bm,vs x1.Language,vi 0,vi ag,vi x1.Years.To]) aa rfl) ?_
 refine ae.ck aa 1 ⟨59,[(47,.own 10),(57,.own 57)],[(10,oa 169 5 af j2),(57,oa 169 5 af ([(Name.mk bm x1.Language 0 (Span.mk ag x1.Years.To))]:List Name))]⟩ ?_
 obtain⟨x12,hx12,h⟩:=bind_some h
 refine ae.cf (bT (f:=af) (t:=89) (ti:=ej) (tj:=dq) (zs:=[.string (ByteArray.mk #[]),.string (ByteArray.mk #[]),.int .i64 0,.int .i64 0,.int .i64 0]) (e:=169) (m:=5) (d:=10) (xv:= .own 57) hx12 aa rfl rfl rfl rfl (dj (e:=169))) ?_
 refine bU aa 1 ⟨59,[(8,.own 58)],[(58,oa 169 5 af x12)]⟩ ?_
 refine ak ?_
 obtain rfl:=inj h
 exact aD (f1 (fo bu))
theorem zn:a7 Tryz.prog 176:=aw Tryz.func176 (by kernel_rfl) rfl
noncomputable def gh(ad:(List Name))(ay:ByteArray)(ag:Int)(bm:ByteArray):Option ((List Name)×Int):=
 ((dS bm).bind fun x1=>(bif(!x1)then some (([]:List Name),1)else((hU ad ay ag).bind fun x2=>(bif(x2 !=0)then some (([]:List Name),x2)else((eg ad ay ag).bind fun x3=>(bif(decide (x3<0))then some (([]:List Name),4)else((fy ad x3 ag bm).bind fun x4=>(bif(decide ((x4.length:Int)>12))then some (([]:List Name),3)else some (x4,0)))))))))
theorem nq(ad:(List Name))(ay:ByteArray)(ag:Int)(bm:ByteArray)(r:(List Name)×Int)(h:gh ad ay ag bm=some r):aF Tryz.prog 127 [.v (vl af ad),.v (vs ay),.v (vi ag),.v (vs bm)] ⟨[.own 169 5 r.1.length (r.1.map af),.v (vi r.2)],[],false⟩:=by
 refine ar Tryz.func127 rfl [(.tmp 8),(.tmp 9)] rfl (fun r=>⟨[.own 169 5 r.1.length (r.1.map af),.v (vi r.2)],[],false⟩) (r:=r) ?_
 unfold gh at h
 refine az aa ⟨38,[(0,vl af ad),(1,vs ay),(2,vi ag),(3,vs bm)],[]⟩ ?_
 refine ai ?_
 refine sr ?_
 refine ae.ck aa 1 ⟨38,[(0,vl af ad),(1,vs ay),(2,vi ag),(3,vs bm),(13,vs bm)],[]⟩ ?_
 obtain⟨x1,hx1,h⟩:=bind_some h
 refine ae.ls (xc rD (hG bm _ hx1)) ?_
 refine bU aa 1 ⟨38,[(0,vl af ad),(1,vs ay),(2,vi ag),(3,vs bm),(15,vb (!x1))],[]⟩ ?_
 refine aq h (fun h=> ?_) fun h=> ?_
 refine az aa ⟨38,[(8,.own 8),(9,vi 1)],[(8,oa 169 5 af ([]:List Name))]⟩ ?_
 refine ak ?_
 obtain rfl:=inj h
 exact bS (aD (f2 (fo bu) fv))
 refine an ?_
 refine a8 ?_
 refine sr ?_
 refine ae.ck aa 3 ⟨38,[(0,vl af ad),(1,vs ay),(2,vi ag),(3,vs bm),(16,vl af ad),(17,vs ay),(18,vi ag)],[]⟩ ?_
 obtain⟨x2,hx2,h⟩:=bind_some h
 refine ae.ls (xc zl (od ad ay ag _ hx2)) ?_
 refine bU aa 1 ⟨38,[(0,vl af ad),(1,vs ay),(2,vi ag),(3,vs bm),(10,vi x2)],[]⟩ ?_
 refine ai ?_
 refine az aa ⟨38,[(0,vl af ad),(1,vs ay),(2,vi ag),(3,vs bm),(10,vi x2),(21,vb (x2 !=0))],[]⟩ ?_
 refine aq h (fun h=> ?_) fun h=> ?_
 refine az aa ⟨38,[(8,.own 8),(9,vi x2)],[(8,oa 169 5 af ([]:List Name))]⟩ ?_
 refine ak ?_
 obtain rfl:=inj h
 exact bS (aD (f2 (fo bu) fv))
 refine an ?_
 refine a8 ?_
 refine sr ?_
 refine ae.ck aa 3 ⟨38,[(0,vl af ad),(2,vi ag),(3,vs bm),(23,vl af ad),(24,vs ay),(25,vi ag)],[]⟩ ?_
 obtain⟨x3,hx3,h⟩:=bind_some h
 refine ae.ls (xc zm (lz ad ay ag _ hx3)) ?_
 refine bU aa 1 ⟨38,[(0,vl af ad),(2,vi ag),(3,vs bm),(11,vi x3)],[]⟩ ?_
 refine ai ?_
 refine az aa ⟨38,[(0,vl af ad),(2,vi ag),(3,vs bm),(11,vi x3),(28,vb (decide (x3<0)))],[]⟩ ?_
 refine aq h (fun h=> ?_) fun h=> ?_
 refine az aa ⟨38,[(8,.own 8),(9,vi 4)],[(8,oa 169 5 af ([]:List Name))]⟩ ?_
 refine ak ?_
 obtain rfl:=inj h
 exact bS (aD (f2 (fo bu) fv))
 refine an ?_
 refine a8 ?_
 refine sr ?_
 refine ae.ck aa 4 ⟨38,[(29,vl af ad),(30,vi x3),(31,vi ag),(32,vs bm)],[]⟩ ?_
 obtain⟨x4,hx4,h⟩:=bind_some h
 refine ae.ls (xc zn (mE ad x3 ag bm _ hx4)) ?_
 refine bU aa 1 ⟨38,[(12,.own 33)],[(33,oa 169 5 af x4)]⟩ ?_
 refine ai ?_
 refine az aa ⟨38,[(12,.own 33),(36,vb (decide ((x4.length:Int)>12)))],[(33,oa 169 5 af x4)]⟩ ?_
 refine aq h (fun h=> ?_) fun h=> ?_
 refine az aa ⟨38,[(8,.own 8),(9,vi 3)],[(8,oa 169 5 af ([]:List Name))]⟩ ?_
 refine ak ?_
 obtain rfl:=inj h
 exact bS (aD (f2 (fo bu) fv))
 refine an ?_
 refine a8 ?_
 refine az aa ⟨38,[(8,.own 33),(9,vi 0)],[(33,oa 169 5 af x4)]⟩ ?_
 refine ak ?_
 obtain rfl:=inj h
 exact aD (f2 (fo bu) fv)
theorem yZ:a7 Tryz.prog 127:=aw Tryz.func127 (by kernel_rfl) rfl
noncomputable def fA(aW:World)(aC:Change):Option (World×Int):=
 ((bR aW.Places aC.Code).bind fun x1=>((at' aW.Places x1).bind fun x2=>((gh x2.Names aC.Language aC.Year aC.Text).bind fun x3=>(bif(x3.2 !=0)then some (aW,x3.2)else((dU ([]:List Place) aW.Places).bind fun x4=>((at' x4 x1).bind fun x5=>some ((World.mk (List.set x4 (Int.toNat x1) (Place.mk x5.Code x5.Class x5.Years x3.1)) aW.Links),0)))))))
theorem mG(aW:World)(aC:Change)(r:World×Int)(h:fA aW aC=some r):aF Tryz.prog 69 [.v (.agg (tc aj aW)),.v (.agg (tc ah aC))] ⟨[.v (.agg (tc aj r.1)),.v (vi r.2)],[],true⟩:=by
 refine ar Tryz.func69 rfl [(.cell 4 35),(.tmp 5)] rfl (fun r=>⟨[.v (.agg (tc aj r.1)),.v (vi r.2)],[],true⟩) (r:=r) ?_
 unfold fA at h
 refine az aa ⟨48,[(2,.ref 2 0),(3,.ref 3 0),(4,.ref 4 0)],[(2,.box (tc aj aW)),(3,.box (tc ah aC)),(4,.box [vl ab ([]:List Place),vl ac ([]:List au)])]⟩ ?_
 refine sr ?_
 refine ae.ck aa 4 ⟨48,[(2,.ref 2 0),(3,.ref 3 0),(4,.ref 4 0),(11,vl ab aW.Places),(13,vs aC.Code)],[(2,.box (tc aj aW)),(3,.box (tc ah aC)),(4,.box [vl ab ([]:List Place),vl ac ([]:List au)])]⟩ ?_
 obtain⟨x1,hx1,h⟩:=bind_some h
 refine ae.ls (xc ky (cl aW.Places aC.Code _ hx1)) ?_
 refine bU aa 1 ⟨48,[(2,.ref 2 0),(3,.ref 3 0),(4,.ref 4 0),(6,vi x1)],[(2,.box (tc aj aW)),(3,.box (tc ah aC)),(4,.box [vl ab ([]:List Place),vl ac ([]:List au)])]⟩ ?_
 refine ai ?_
 refine di mixed ?_
 refine aQ.ck aa false 3 ⟨48,[(2,.ref 2 0),(3,.ref 3 0),(4,.ref 4 0),(6,vi x1),(17,vl ab aW.Places),(18,vi x1)],[(2,.box (tc aj aW)),(3,.box (tc ah aC)),(4,.box [vl ab ([]:List Place),vl ac ([]:List au)])]⟩ ?_
 obtain⟨x2,hx2,h⟩:=bind_some h
 refine aQ.step (aG (L:=aW.Places) (f:=ab) (ti:=df) (tj:=cD) (e:=91) (k:= .i64) aa rfl hx2) ?_
 refine aQ.ck aa false 8 ⟨48,[(2,.ref 2 0),(4,.ref 4 0),(6,vi x1),(21,vl af x2.Names),(23,vs aC.Language),(25,vi aC.Year),(27,vs aC.Text)],[(2,.box (tc aj aW)),(4,.box [vl ab ([]:List Place),vl ac ([]:List au)])]⟩ ?_
 obtain⟨x3,hx3,h⟩:=bind_some h
 refine aQ.step (xc yZ (nq x2.Names aC.Language aC.Year aC.Text _ hx3)) ?_
 refine aQ.ck aa false 5 ⟨48,[(2,.ref 2 0),(4,.ref 4 0),(6,vi x1),(7,.own 28),(8,vi x3.2)],[(2,.box (tc aj aW)),(4,.box [vl ab ([]:List Place),vl ac ([]:List au)]),(28,oa 169 5 af x3.1)]⟩ ?_
 refine aQ.nx ?_
 refine ai ?_
 refine az aa ⟨48,[(2,.ref 2 0),(4,.ref 4 0),(6,vi x1),(7,.own 28),(8,vi x3.2),(32,vb (x3.2 !=0))],[(2,.box (tc aj aW)),(4,.box [vl ab ([]:List Place),vl ac ([]:List au)]),(28,oa 169 5 af x3.1)]⟩ ?_
 refine aq h (fun h=> ?_) fun h=> ?_
 refine az aa ⟨48,[(4,.ref 4 0),(5,vi x3.2)],[(4,.box (tc aj aW))]⟩ ?_
 refine ak ?_
 obtain rfl:=inj h
 exact bS (aD (f2 (mY rfl (dg aa (d:=4) (cs:=[vl ab aW.Places,vl ac aW.Links]) (ti:=l8) (by kernel_rfl) (by kernel_rfl) (by kernel_rfl) (by kernel_rfl))) ft))
 refine an ?_
 refine a8 ?_
 refine sr ?_
 refine ae.ck aa 3 ⟨48,[(2,.ref 2 0),(4,.ref 4 0),(6,vi x1),(7,.own 28),(35,.own 35),(37,vl ab aW.Places)],[(2,.box (tc aj aW)),(4,.box [vl ab ([]:List Place),vl ac ([]:List au)]),(28,oa 169 5 af x3.1),(35,oa 91 5 ab ([]:List Place))]⟩ ?_
 obtain⟨x4,hx4,h⟩:=bind_some h
 refine ae.cf (bT (f:=ab) (t:=32) (ti:=df) (tj:=cD) (zs:=[.string (ByteArray.mk #[]),.int .i64 0,.int .i64 0,.int .i64 0,.slice none 0 0]) (e:=91) (m:=5) (d:=35) (xv:=vl ab aW.Places) hx4 aa rfl rfl rfl rfl (oI (fun _=>rfl))) ?_
 refine bU aa 1 ⟨48,[(2,.ref 2 0),(4,.ref 4 0),(6,vi x1),(7,.own 28),(9,.own 38)],[(2,.box (tc aj aW)),(4,.box [vl ab ([]:List Place),vl ac ([]:List au)]),(28,oa 169 5 af x3.1),(38,oa 91 5 ab x4)]⟩ ?_
 refine sr ?_
 refine ae.ck aa 3 ⟨48,[(2,.ref 2 0),(4,.ref 4 0),(9,.own 38),(39,.own 38),(40,vi x1),(41,.own 28)],[(2,.box (tc aj aW)),(4,.box [vl ab ([]:List Place),vl ac ([]:List au)]),(28,oa 169 5 af x3.1),(38,oa 91 5 ab x4)]⟩ ?_
 obtain⟨x5,hx5,h⟩:=bind_some h
 refine ae.ls (bX (d:=38) (L:=x4) (f:=ab) (ti:=df) (tj:=cD) (e:=91) (e':=91) (m:=5) (k:= .i64) aa rfl hx5) ?_
 refine ae.ck aa 1 ⟨48,[(2,.ref 2 0),(4,.ref 4 0),(9,.own 38),(41,.own 28),(43,.eref 38 5 (Int.toNat x1) 4)],[(2,.box (tc aj aW)),(4,.box [vl ab ([]:List Place),vl ac ([]:List au)]),(28,oa 169 5 af x3.1),(38,oa 91 5 ab x4)]⟩ ?_
 refine ae.le (Le.sY (d:=28) (e:=169) (m:=5) (n:=x3.1.length) (es:=x3.1.map af) (by kernel_rfl) (by kernel_rfl)) ?_
 refine ae.cf (iO (d:=38) (m:=5) (j:=4) (L:=x4) (f:=ab) (x:=(Place.mk x5.Code x5.Class x5.Years x3.1)) (z:=x5) (ti:=ej) (e:=91) (ts:=[.sl x3.1.length (x3.1.map af)]) (vs:=[vl af x3.1]) (v:=vl af x3.1) aa rfl rfl hx5) ?_
 refine ae.nx ?_
 refine sr ?_
 refine ae.ck aa 3 ⟨48,[(4,.ref 4 0),(44,.own 38),(46,vl ac aW.Links)],[(4,.box [vl ab ([]:List Place),vl ac ([]:List au)]),(38,oa 91 5 ab (List.set x4 (Int.toNat x1) (Place.mk x5.Code x5.Class x5.Years x3.1)))]⟩ ?_
 refine ae.ls (bt (v:= .agg [.own 38,vl ac aW.Links]) aa rfl) ?_
 refine bU aa 2 ⟨48,[(4,.ref 4 0),(5,vi 0)],[(4,.box [.own 38,vl ac aW.Links]),(38,oa 91 5 ab (List.set x4 (Int.toNat x1) (Place.mk x5.Code x5.Class x5.Years x3.1)))]⟩ ?_
 refine cW (Le.sY (d:=38) (e:=91) (m:=5) (n:=(List.set x4 (Int.toNat x1) (Place.mk x5.Code x5.Class x5.Years x3.1)).length) (es:=(List.set x4 (Int.toNat x1) (Place.mk x5.Code x5.Class x5.Years x3.1)).map ab) (by kernel_rfl) (by kernel_rfl)) ?_
 refine ak ?_
 obtain rfl:=inj h
 exact aD (f2 (mY rfl (dg aa (d:=4) (cs:=[vl ab (List.set x4 (Int.toNat x1) (Place.mk x5.Code x5.Class x5.Years x3.1)),vl ac aW.Links]) (ti:=l8) (by kernel_rfl) (by kernel_rfl) (by kernel_rfl) (by kernel_rfl))) ft)
theorem AV:a7 Tryz.prog 69:=aw Tryz.func69 (by kernel_rfl) rfl
noncomputable def dL(aW:World)(ap:ByteArray)(cg:ByteArray)(ag:Int):Option ((List au)):=
 ((bR aW.Places ap).bind fun x1=>((at' aW.Places x1).bind fun x2=>((bR aW.Places cg).bind fun x3=>((at' aW.Places x3).bind fun x4=>(((iQ (aW.Links.length:Int) (fun(i7:Int) (s7:Int×(List au))=>((at' aW.Links i7).bind fun x11=>(((bif(x11.Child.toList==ap.toList)then(bif(decide (x11.Years.From>ag))then some ((bL s7.1 (aZ (x11.Years.From - 1))),x11)else some (s7.1,(au.mk x11.Child x11.Parent (Span.mk x11.Years.From (bL x11.Years.To (aZ (ag - 1)))))))else some (s7.1,x11))).bind fun(j12:Int×au)=>(bif(decide (j12.2.Years.From≤j12.2.Years.To))then((dU s7.2 ([j12.2]:List au)).bind fun x14=>some (j12.1,x14))else some (j12.1,s7.2))))) (fun(s7:Int×(List au))=>(s7.1,s7.2)) 0 ((bL x2.Years.To x4.Years.To),([]:List au)))).bind fun(j5:Int×(List au))=>((dU j5.2 ([(au.mk ap cg (Span.mk ag j5.1))]:List au)).bind fun x15=>some x15))))))
theorem kr(aW:World)(ap:ByteArray)(cg:ByteArray)(ag:Int)(r:(List au))(h:dL aW ap cg ag=some r):aF Tryz.prog 71 [.v (.agg (tc aj aW)),.v (vs ap),.v (vs cg),.v (vi ag)] ⟨[.v (vl ac r)],[],true⟩:=by
 refine ar Tryz.func71 rfl [(.tmp 8)] rfl (fun r=>⟨[.v (vl ac r)],[],true⟩) (r:=r) ?_
 unfold dL at h
 refine az aa ⟨97,[(1,vs ap),(2,vs cg),(3,vi ag),(4,.ref 4 0)],[(4,.box (tc aj aW))]⟩ ?_
 refine ai ?_
 refine di mixed ?_
 refine aQ.ck aa false 5 ⟨97,[(1,vs ap),(2,vs cg),(3,vi ag),(4,.ref 4 0),(16,vl ab aW.Places),(18,vl ab aW.Places),(19,vs ap)],[(4,.box (tc aj aW))]⟩ ?_
 obtain⟨x1,hx1,h⟩:=bind_some h
 refine aQ.step (xc ky (cl aW.Places ap _ hx1)) ?_
 obtain⟨x2,hx2,h⟩:=bind_some h
 refine aQ.step (aG (L:=aW.Places) (f:=ab) (ti:=df) (tj:=cD) (e:=91) (k:= .i64) aa rfl hx2) ?_
 refine aQ.ck aa false 6 ⟨97,[(1,vs ap),(2,vs cg),(3,vi ag),(4,.ref 4 0),(22,.agg (tc ab x2)),(24,vl ab aW.Places),(26,vl ab aW.Places),(27,vs cg)],[(4,.box (tc aj aW))]⟩ ?_
 obtain⟨x3,hx3,h⟩:=bind_some h
 refine aQ.step (xc ky (cl aW.Places cg _ hx3)) ?_
 obtain⟨x4,hx4,h⟩:=bind_some h
 refine aQ.step (aG (L:=aW.Places) (f:=ab) (ti:=df) (tj:=cD) (e:=91) (k:= .i64) aa rfl hx4) ?_
 refine aQ.ck aa false 3 ⟨97,[(1,vs ap),(2,vs cg),(3,vi ag),(4,.ref 4 0),(9,.ref 9 0),(10,.ref 10 0),(22,.agg (tc ab x2)),(30,.agg (tc ab x4))],[(4,.box (tc aj aW)),(9,.box [vs (ByteArray.mk #[]),vi 0,vi 0,vi 0,vl af ([]:List Name)]),(10,.box [vs (ByteArray.mk #[]),vi 0,vi 0,vi 0,vl af ([]:List Name)])]⟩ ?_
 refine aQ.yC [9] (uh (d:=9) (k:=0) (ti:=cD) (cs:=[vs (ByteArray.mk #[]),vi 0,vi 0,vi 0,vl af ([]:List Name)]) (vs:=[vs x2.Code,vi x2.Class,vi x2.Years.From,vi x2.Years.To,vl af x2.Names]) (v:= .agg (tc ab x2)) aa rfl rfl) ?_
 refine aQ.seq (by kernel_rfl) (by kernel_rfl) ?_
 refine bU aa 1 ⟨97,[(1,vs ap),(2,vs cg),(3,vi ag),(4,.ref 4 0),(9,.ref 9 0),(10,.ref 10 0)],[(4,.box (tc aj aW)),(9,.box (tc ab x2)),(10,.box (tc ab x4))]⟩ ?_
 refine az aa ⟨97,[(1,vs ap),(2,vs cg),(3,vi ag),(4,.ref 4 0),(11,vi (bL x2.Years.To x4.Years.To))],[(4,.box (tc aj aW))]⟩ ?_
 refine az aa ⟨97,[(1,vs ap),(2,vs cg),(3,vi ag),(4,.ref 4 0),(11,vi (bL x2.Years.To x4.Years.To)),(12,.own 38)],[(4,.box (tc aj aW)),(38,oa 85 4 ac ([]:List au))]⟩ ?_
 refine ai ?_
 refine az aa ⟨97,[(1,vs ap),(2,vs cg),(3,vi ag),(4,.ref 4 0),(11,vi (bL x2.Years.To x4.Years.To)),(12,.own 38),(13,vi 0)],[(4,.box (tc aj aW)),(38,oa 85 4 ac ([]:List au))]⟩ ?_
 refine bg h (fun j5=>⟨97,[(1,vs ap),(2,vs cg),(3,vi ag),(11,vi j5.1),(12,.own 12)],[(12,oa 85 4 ac j5.2)]⟩) (fun v6 h=> ?_) (fun j5 h=> ?_)
 refine ax (a:=v6) ?_
 refine a6 (r:=v6) (s:=(0,(bL x2.Years.To x4.Years.To),([]:List au))) _ (fun s7=>⟨97,[(1,vs ap),(2,vs cg),(3,vi ag),(4,.ref 4 0),(11,vi s7.2.1),(12,.own 12),(13,vi s7.1)],[(4,.box (tc aj aW)),(12,oa 85 4 ac s7.2.2)]⟩) _ (Le.rr [4,38] [(38,12)]) h (fun s7 v8 h=> ?_)
 refine ai ?_
 refine az aa ⟨97,[(1,vs ap),(2,vs cg),(3,vi ag),(4,.ref 4 0),(11,vi s7.2.1),(12,.own 12),(13,vi s7.1),(43,vb (decide (s7.1<(aW.Links.length:Int))))],[(4,.box (tc aj aW)),(12,oa 85 4 ac s7.2.2)]⟩ ?_
 refine aq h (fun h=> ?_) fun h=> ?_
 refine an ?_
 refine a8 ?_
 refine ai ?_
 refine bg h (fun j9=>⟨97,[(1,vs ap),(2,vs cg),(3,vi ag),(4,.ref 4 0),(11,vi j9.1),(12,.own 12),(13,vi s7.1)],[(4,.box (tc aj aW)),(12,oa 85 4 ac j9.2)]⟩) (fun v10 h=> ?_) (fun j9 h=> ?_)
 refine ax (a:=v10) ?_
 refine sr ?_
 refine ae.ck aa 3 ⟨97,[(1,vs ap),(2,vs cg),(3,vi ag),(4,.ref 4 0),(11,vi s7.2.1),(12,.own 12),(13,vi s7.1),(47,vl ac aW.Links),(48,vi s7.1)],[(4,.box (tc aj aW)),(12,oa 85 4 ac s7.2.2)]⟩ ?_
 obtain⟨x11,hx11,h⟩:=bind_some h
 refine ae.ls (aG (L:=aW.Links) (f:=ac) (ti:=eh) (tj:=ei) (e:=85) (k:= .i64) aa rfl hx11) ?_
 refine bU aa 3 ⟨97,[(1,vs ap),(2,vs cg),(3,vi ag),(4,.ref 4 0),(11,vi s7.2.1),(12,.own 12),(13,vi s7.1),(14,.ref 14 0)],[(4,.box (tc aj aW)),(12,oa 85 4 ac s7.2.2),(14,.box (tc ac x11))]⟩ ?_
 refine ai ?_
 refine az aa ⟨97,[(1,vs ap),(2,vs cg),(3,vi ag),(4,.ref 4 0),(11,vi s7.2.1),(12,.own 12),(13,vi s7.1),(14,.ref 14 0),(54,vb (x11.Child.toList==ap.toList))],[(4,.box (tc aj aW)),(12,oa 85 4 ac s7.2.2),(14,.box (tc ac x11))]⟩ ?_
 refine bg h (fun j12=>⟨97,[(1,vs ap),(2,vs cg),(3,vi ag),(4,.ref 4 0),(11,vi j12.1),(12,.own 12),(13,vi s7.1),(14,.ref 14 0)],[(4,.box (tc aj aW)),(12,oa 85 4 ac s7.2.2),(14,.box (tc ac j12.2))]⟩) (fun v13 h=> ?_) (fun j12 h=> ?_)
 refine aq h (fun h=> ?_) fun h=> ?_
 refine az aa ⟨97,[(1,vs ap),(2,vs cg),(3,vi ag),(4,.ref 4 0),(11,vi s7.2.1),(12,.own 12),(13,vi s7.1),(14,.ref 14 0),(59,vb (decide (x11.Years.From>ag)))],[(4,.box (tc aj aW)),(12,oa 85 4 ac s7.2.2),(14,.box (tc ac x11))]⟩ ?_
 refine aq h (fun h=> ?_) fun h=> ?_
 refine aE ?_
 refine ae.ck aa 7 ⟨97,[(1,vs ap),(2,vs cg),(3,vi ag),(4,.ref 4 0),(11,vi (bL s7.2.1 (aZ (x11.Years.From - 1)))),(12,.own 12),(13,vi s7.1),(14,.ref 14 0)],[(4,.box (tc aj aW)),(12,oa 85 4 ac s7.2.2),(14,.box (tc ac x11))]⟩ ?_
 refine ae.nil ?_
 obtain rfl:=inj h
 exact fO (Le.ao)
 refine aE ?_
 refine ae.ck aa 9 ⟨97,[(1,vs ap),(2,vs cg),(3,vi ag),(4,.ref 4 0),(11,vi s7.2.1),(12,.own 12),(13,vi s7.1),(14,.ref 14 0),(68,vi x11.Years.From),(74,vi (bL x11.Years.To (aZ (ag - 1))))],[(4,.box (tc aj aW)),(12,oa 85 4 ac s7.2.2),(14,.box (tc ac x11))]⟩ ?_
 refine ae.ls (bt (v:= .agg [vi x11.Years.From,vi (bL x11.Years.To (aZ (ag - 1)))]) aa rfl) ?_
 refine ae.ck aa 2 ⟨97,[(1,vs ap),(2,vs cg),(3,vi ag),(4,.ref 4 0),(11,vi s7.2.1),(12,.own 12),(13,vi s7.1),(14,.ref 14 0)],[(4,.box (tc aj aW)),(12,oa 85 4 ac s7.2.2),(14,.box [vs x11.Child,vs x11.Parent,vi x11.Years.From,vi (bL x11.Years.To (aZ (ag - 1)))])]⟩ ?_
 refine ae.nil ?_
 obtain rfl:=inj h
 exact fO (Le.ao)
 refine an ?_
 obtain rfl:=inj h
 exact fO (Le.ao)
 refine az aa ⟨97,[(1,vs ap),(2,vs cg),(3,vi ag),(4,.ref 4 0),(11,vi j12.1),(12,.own 12),(13,vi s7.1),(14,.ref 14 0),(83,vb (decide (j12.2.Years.From≤j12.2.Years.To)))],[(4,.box (tc aj aW)),(12,oa 85 4 ac s7.2.2),(14,.box (tc ac j12.2))]⟩ ?_
 refine aq h (fun h=> ?_) fun h=> ?_
 refine aE ?_
 refine ae.ck aa 3 ⟨97,[(1,vs ap),(2,vs cg),(3,vi ag),(4,.ref 4 0),(11,vi j12.1),(13,vi s7.1),(84,.own 12),(86,.own 86)],[(4,.box (tc aj aW)),(12,oa 85 4 ac s7.2.2),(86,oa 85 4 ac ([j12.2]:List au))]⟩ ?_
 obtain⟨x14,hx14,h⟩:=bind_some h
 refine ae.cf (bT (f:=ac) (t:=33) (ti:=eh) (tj:=ei) (zs:=[.string (ByteArray.mk #[]),.string (ByteArray.mk #[]),.int .i64 0,.int .i64 0]) (e:=85) (m:=4) (d:=12) (xv:= .own 86) hx14 aa rfl rfl rfl rfl (dj (e:=85))) ?_
 refine ae.ck aa 1 ⟨97,[(1,vs ap),(2,vs cg),(3,vi ag),(4,.ref 4 0),(11,vi j12.1),(12,.own 87),(13,vi s7.1)],[(4,.box (tc aj aW)),(87,oa 85 4 ac x14)]⟩ ?_
 refine ae.nil ?_
 obtain rfl:=inj h
 exact bY (fO (Le.rr [4,87] [(87,12)]))
 refine an ?_
 obtain rfl:=inj h
 exact bY (fO (Le.ao))
 refine aE ?_
 refine ae.ck aa 3 ⟨97,[(1,vs ap),(2,vs cg),(3,vi ag),(4,.ref 4 0),(11,vi j9.1),(12,.own 12),(13,vi (aZ (s7.1+1)))],[(4,.box (tc aj aW)),(12,oa 85 4 ac j9.2)]⟩ ?_
 refine ae.nil ?_
 obtain rfl:=inj h
 exact cb (Le.ao)
 refine aO ?_
 obtain rfl:=inj h
 exact cH (cJ (cI (fO (Le.ao))))
 refine sr ?_
 refine ae.ck aa 5 ⟨97,[(88,.own 12),(89,vs ap),(90,vs cg),(91,vi ag),(92,vi j5.1)],[(12,oa 85 4 ac j5.2)]⟩ ?_
 refine ae.ls (bt (v:= .agg [vi ag,vi j5.1]) aa rfl) ?_
 refine ae.ls (bt (v:= .agg [vs ap,vs cg,vi ag,vi j5.1]) aa rfl) ?_
 refine ae.ck aa 1 ⟨97,[(88,.own 12),(95,.own 95)],[(12,oa 85 4 ac j5.2),(95,oa 85 4 ac ([(au.mk ap cg (Span.mk ag j5.1))]:List au))]⟩ ?_
 obtain⟨x15,hx15,h⟩:=bind_some h
 refine ae.cf (bT (f:=ac) (t:=33) (ti:=eh) (tj:=ei) (zs:=[.string (ByteArray.mk #[]),.string (ByteArray.mk #[]),.int .i64 0,.int .i64 0]) (e:=85) (m:=4) (d:=12) (xv:= .own 95) hx15 aa rfl rfl rfl rfl (dj (e:=85))) ?_
 refine bU aa 1 ⟨97,[(8,.own 96)],[(96,oa 85 4 ac x15)]⟩ ?_
 refine cW (Le.sY (d:=96) (e:=85) (m:=4) (n:=x15.length) (es:=x15.map ac) (by kernel_rfl) (by kernel_rfl)) ?_
 refine ak ?_
 obtain rfl:=inj h
 exact aD (f1 ft)
theorem xB:a7 Tryz.prog 71:=aw Tryz.func71 (by kernel_rfl) rfl
noncomputable def dp(aW:World)(fh:(List au)):Option (World×Int):=
 (bif(decide ((fh.length:Int)>20))then some (aW,3)else((dR fh).bind fun x1=>(bif(!x1)then some (aW,5)else some ((World.mk aW.Places fh),0))))
theorem jU(aW:World)(fh:(List au))(r:World×Int)(h:dp aW fh=some r):aF Tryz.prog 70 [.v (.agg (tc aj aW)),.v (vl ac fh)] ⟨[.v (.agg (tc aj r.1)),.v (vi r.2)],[],true⟩:=by
 refine ar Tryz.func70 rfl [(.cell 4 35),(.tmp 5)] rfl (fun r=>⟨[.v (.agg (tc aj r.1)),.v (vi r.2)],[],true⟩) (r:=r) ?_
 unfold dp at h
 refine az aa ⟨18,[(1,vl ac fh),(2,.ref 2 0),(4,.ref 4 0)],[(2,.box (tc aj aW)),(4,.box [vl ab ([]:List Place),vl ac ([]:List au)])]⟩ ?_
 refine ai ?_
 refine az aa ⟨18,[(1,vl ac fh),(2,.ref 2 0),(4,.ref 4 0),(8,vb (decide ((fh.length:Int)>20)))],[(2,.box (tc aj aW)),(4,.box [vl ab ([]:List Place),vl ac ([]:List au)])]⟩ ?_
 refine aq h (fun h=> ?_) fun h=> ?_
 refine az aa ⟨18,[(4,.ref 4 0),(5,vi 3)],[(4,.box (tc aj aW))]⟩ ?_
 refine ak ?_
 obtain rfl:=inj h
 exact bS (aD (f2 (mY rfl (dg aa (d:=4) (cs:=[vl ab aW.Places,vl ac aW.Links]) (ti:=l8) (by kernel_rfl) (by kernel_rfl) (by kernel_rfl) (by kernel_rfl))) ft))
 refine an ?_
 refine a8 ?_
 refine ai ?_
 refine sr ?_
 refine ae.ck aa 1 ⟨18,[(1,vl ac fh),(2,.ref 2 0),(4,.ref 4 0),(10,vl ac fh)],[(2,.box (tc aj aW)),(4,.box [vl ab ([]:List Place),vl ac ([]:List au)])]⟩ ?_
 obtain⟨x1,hx1,h⟩:=bind_some h
 refine ae.ls (xc uC (gZ fh _ hx1)) ?_
 refine bU aa 1 ⟨18,[(1,vl ac fh),(2,.ref 2 0),(4,.ref 4 0),(12,vb (!x1))],[(2,.box (tc aj aW)),(4,.box [vl ab ([]:List Place),vl ac ([]:List au)])]⟩ ?_
 refine aq h (fun h=> ?_) fun h=> ?_
 refine az aa ⟨18,[(4,.ref 4 0),(5,vi 5)],[(4,.box (tc aj aW))]⟩ ?_
 refine ak ?_
 obtain rfl:=inj h
 exact bS (aD (f2 (mY rfl (dg aa (d:=4) (cs:=[vl ab aW.Places,vl ac aW.Links]) (ti:=l8) (by kernel_rfl) (by kernel_rfl) (by kernel_rfl) (by kernel_rfl))) ft))
 refine an ?_
 refine a8 ?_
 refine sr ?_
 refine ae.ck aa 3 ⟨18,[(4,.ref 4 0),(15,vl ab aW.Places),(16,vl ac fh)],[(4,.box [vl ab ([]:List Place),vl ac ([]:List au)])]⟩ ?_
 refine ae.ls (bt (v:= .agg [vl ab aW.Places,vl ac fh]) aa rfl) ?_
 refine bU aa 2 ⟨18,[(4,.ref 4 0),(5,vi 0)],[(4,.box [vl ab aW.Places,vl ac fh])]⟩ ?_
 refine ak ?_
 obtain rfl:=inj h
 exact aD (f2 (mY rfl (dg aa (d:=4) (cs:=[vl ab aW.Places,vl ac fh]) (ti:=l8) (by kernel_rfl) (by kernel_rfl) (by kernel_rfl) (by kernel_rfl))) ft)
theorem xA:a7 Tryz.prog 70:=aw Tryz.func70 (by kernel_rfl) rfl
noncomputable def ib(ad:(List au))(ap:ByteArray)(ag:Int):Option (Int):=
 ((((dR ad).bind fun x1=>(bif(!x1)then some true else((cN ap).bind fun x2=>some (!x2))))).bind fun(j3:Bool)=>(bif j3 then some 1 else((cK ag).bind fun x5=>(bif(!x5)then some 2 else some 0))))
theorem oh(ad:(List au))(ap:ByteArray)(ag:Int)(r:Int)(h:ib ad ap ag=some r):aF Tryz.prog 128 [.v (vl ac ad),.v (vs ap),.v (vi ag)] ⟨[.v (vi r)],[],false⟩:=by
 refine ar Tryz.func128 rfl [(.tmp 6)] rfl (fun r=>⟨[.v (vi r)],[],false⟩) (r:=r) ?_
 unfold ib at h
 refine az aa ⟨18,[(0,vl ac ad),(1,vs ap),(2,vi ag)],[]⟩ ?_
 refine ai ?_
 refine ai ?_
 refine bk h (fun j3=>⟨18,[(2,vi ag),(14,vb j3)],[]⟩) (fun v4 h=> ?_) (fun j3 h=> ?_)
 refine ae.ck aa 1 ⟨18,[(1,vs ap),(2,vi ag),(7,vl ac ad)],[]⟩ ?_
 obtain⟨x1,hx1,h⟩:=bind_some h
 refine ae.ls (xc uC (gZ ad _ hx1)) ?_
 refine ae.ck aa 2 ⟨18,[(1,vs ap),(2,vi ag),(10,vb (!x1))],[]⟩ ?_
 refine ae.cu [(10,fun b=>b)] h (fun h=> ?_) fun h=> ?_
 refine ae.ck aa 4 ⟨18,[(2,vi ag),(14,vb true)],[]⟩ ?_
 refine ae.nil ?_
 obtain rfl:=inj h
 exact Le.ao
 refine ae.ck aa 1 ⟨18,[(2,vi ag),(10,vb false),(11,vs ap)],[]⟩ ?_
 obtain⟨x2,hx2,h⟩:=bind_some h
 refine ae.ls (xc jH (cO ap _ hx2)) ?_
 refine ae.ck aa 2 ⟨18,[(2,vi ag),(14,vb (!x2))],[]⟩ ?_
 refine ae.nil ?_
 obtain rfl:=inj h
 exact Le.ao
 refine aq h (fun h=> ?_) fun h=> ?_
 refine az aa ⟨18,[(6,vi 1)],[]⟩ ?_
 refine ak ?_
 obtain rfl:=inj h
 exact bS (aD (f1 fv))
 refine an ?_
 refine a8 ?_
 refine ai ?_
 refine sr ?_
 refine ae.ck aa 1 ⟨18,[(15,vi ag)],[]⟩ ?_
 obtain⟨x5,hx5,h⟩:=bind_some h
 refine ae.ls (xc mV (ef ag _ hx5)) ?_
 refine bU aa 1 ⟨18,[(17,vb (!x5))],[]⟩ ?_
 refine aq h (fun h=> ?_) fun h=> ?_
 refine az aa ⟨18,[(6,vi 2)],[]⟩ ?_
 refine ak ?_
 obtain rfl:=inj h
 exact bS (aD (f1 fv))
 refine an ?_
 refine a8 ?_
 refine az aa ⟨18,[(6,vi 0)],[]⟩ ?_
 refine ak ?_
 obtain rfl:=inj h
 exact aD (f1 fv)
theorem y3:a7 Tryz.prog 128:=aw Tryz.func128 (by kernel_rfl) rfl
noncomputable def c5(ad:(List ByteArray))(aS:ByteArray):Option ((List ByteArray)):=
 (((loop (fun(s3:Int)=>(((bif(decide (s3<(ad.length:Int)))then((at' ad s3).bind fun x5=>some (Op.bytesLess x5.toList aS.toList))else some false)).bind fun(j6:Bool)=>(bif j6 then some (.inl (aZ (s3+1)))else some (.inr s3)))) 0)).bind fun(j1:Int)=>(((bif(decide (j1<(ad.length:Int)))then((at' ad j1).bind fun x8=>some (x8.toList==aS.toList))else some false)).bind fun(j9:Bool)=>(bif j9 then some ad else((mh ad 0 j1).bind fun x11=>((dU ([]:List ByteArray) x11).bind fun x12=>((dU x12 ([aS]:List ByteArray)).bind fun x13=>((mh ad j1 (ad.length:Int)).bind fun x14=>((dU x13 x14).bind fun x15=>some x15))))))))
theorem jB(ad:(List ByteArray))(aS:ByteArray)(r:(List ByteArray))(h:c5 ad aS=some r):aF Tryz.prog 178 [.v (vl eS ad),.v (vs aS)] ⟨[.v (vl eS r)],[],true⟩:=by
 refine ar Tryz.func178 rfl [(.tmp 4)] rfl (fun r=>⟨[.v (vl eS r)],[],true⟩) (r:=r) ?_
 unfold c5 at h
 refine az aa ⟨45,[(0,vl eS ad),(1,vs aS)],[]⟩ ?_
 refine az aa ⟨45,[(0,vl eS ad),(1,vs aS),(5,vi 0)],[]⟩ ?_
 refine ai ?_
 refine bg h (fun j1=>⟨45,[(0,vl eS ad),(1,vs aS),(5,vi j1)],[]⟩) (fun v2 h=> ?_) (fun j1 h=> ?_)
 refine ax (a:=v2) ?_
 refine a6 (r:=v2) (s:=0) _ (fun s3=>⟨45,[(0,vl eS ad),(1,vs aS),(5,vi s3)],[]⟩) _ (Le.ao) h (fun s3 v4 h=> ?_)
 refine ai ?_
 refine ai ?_
 refine bk h (fun j6=>⟨45,[(0,vl eS ad),(1,vs aS),(5,vi s3),(17,vb j6)],[]⟩) (fun v7 h=> ?_) (fun j6 h=> ?_)
 refine ae.ck aa 5 ⟨45,[(0,vl eS ad),(1,vs aS),(5,vi s3),(10,vb (decide (s3<(ad.length:Int))))],[]⟩ ?_
 refine ae.cu [(10,fun b=>b)] h (fun h=> ?_) fun h=> ?_
 refine ae.ck aa 2 ⟨45,[(0,vl eS ad),(1,vs aS),(5,vi s3),(10,vb true),(11,vl eS ad),(12,vi s3)],[]⟩ ?_
 obtain⟨x5,hx5,h⟩:=bind_some h
 refine ae.ls (aG (L:=ad) (f:=eS) (ti:=cn) (tj:=ig) (e:=9) (k:= .i64) aa rfl hx5) ?_
 refine ae.ck aa 4 ⟨45,[(0,vl eS ad),(1,vs aS),(5,vi s3),(17,vb (Op.bytesLess x5.toList aS.toList))],[]⟩ ?_
 refine ae.nil ?_
 obtain rfl:=inj h
 exact Le.ao
 refine ae.ck aa 7 ⟨45,[(0,vl eS ad),(1,vs aS),(5,vi s3),(17,vb false)],[]⟩ ?_
 refine ae.nil ?_
 obtain rfl:=inj h
 exact Le.ao
 refine aq h (fun h=> ?_) fun h=> ?_
 refine an ?_
 refine a8 ?_
 refine ax (a:=v4) ?_
 refine aE ?_
 refine ae.ck aa 3 ⟨45,[(0,vl eS ad),(1,vs aS),(5,vi (aZ (s3+1)))],[]⟩ ?_
 refine ae.nil ?_
 obtain rfl:=inj h
 exact bY (cb (Le.ao))
 refine aO ?_
 obtain rfl:=inj h
 exact cH (cJ (cI (fO (Le.ao))))
 refine ai ?_
 refine ai ?_
 refine bk h (fun j9=>⟨45,[(0,vl eS ad),(1,vs aS),(5,vi j1),(31,vb j9)],[]⟩) (fun v10 h=> ?_) (fun j9 h=> ?_)
 refine ae.ck aa 5 ⟨45,[(0,vl eS ad),(1,vs aS),(5,vi j1),(24,vb (decide (j1<(ad.length:Int))))],[]⟩ ?_
 refine ae.cu [(24,fun b=>b)] h (fun h=> ?_) fun h=> ?_
 refine ae.ck aa 2 ⟨45,[(0,vl eS ad),(1,vs aS),(5,vi j1),(24,vb true),(25,vl eS ad),(26,vi j1)],[]⟩ ?_
 obtain⟨x8,hx8,h⟩:=bind_some h
 refine ae.ls (aG (L:=ad) (f:=eS) (ti:=cn) (tj:=ig) (e:=9) (k:= .i64) aa rfl hx8) ?_
 refine ae.ck aa 4 ⟨45,[(0,vl eS ad),(1,vs aS),(5,vi j1),(31,vb (x8.toList==aS.toList))],[]⟩ ?_
 refine ae.nil ?_
 obtain rfl:=inj h
 exact Le.ao
 refine ae.ck aa 7 ⟨45,[(0,vl eS ad),(1,vs aS),(5,vi j1),(31,vb false)],[]⟩ ?_
 refine ae.nil ?_
 obtain rfl:=inj h
 exact Le.ao
 refine aq h (fun h=> ?_) fun h=> ?_
 refine az aa ⟨45,[(4,vl eS ad)],[]⟩ ?_
 refine ak ?_
 obtain rfl:=inj h
 exact bS (aD (f1 ft))
 refine an ?_
 refine a8 ?_
 refine ai ?_
 obtain⟨x11,hx11,h⟩:=bind_some h
 obtain⟨x12,hx12,h⟩:=bind_some h
 obtain⟨x13,hx13,h⟩:=bind_some h
 obtain⟨x14,hx14,h⟩:=bind_some h
 obtain⟨x15,hx15,h⟩:=bind_some h
 refine di mixed ?_
 refine aQ.xF (σE:=⟨45,[(4,.own 44)],[(44,oa 9 1 eS x15)]⟩) (n:=13) (L0:= #[false,false,false,false,false,false,false,false,false,false,false,false,false]) (by kernel_rfl) (by kernel_rfl) (fun K hk=> ?_) ?_
 refine DE.aJ (fuel:=0) (L:= #[true,true,true,true,true,true,true,true,true,true,true,true,true]) (σ:=⟨45,[(4,.own 44)],[(44,oa 9 1 eS x15)]⟩) ?_ (fun d28=> ?_)
 exact DE.done (by kernel_rfl) hk
 refine DE.aJ (fuel:=1) (L:= #[true,true,true,true,true,true,true,true,true,true,true,true,false]) (σ:=⟨45,[(44,.own 44)],[(44,oa 9 1 eS x15)]⟩) ?_ (fun d27=> ?_)
 exact DE.take (i:=12) (L':= #[true,true,true,true,true,true,true,true,true,true,true,true,true]) rfl (.inr rfl) rfl (by kernel_rfl) (by kernel_rfl) (by kernel_rfl) (al.le (al.bj aa (σ':=⟨45,[(4,.own 44),(44,.own 44)],[(44,oa 9 1 eS x15)]⟩) (by kernel_rfl)) Le.ao) (by kernel_rfl) d28
 refine DE.aJ (fuel:=2) (L:= #[true,true,true,true,true,true,true,true,true,true,true,false,false]) (σ:=⟨45,[(40,.own 40),(43,vl eS x14)],[(40,oa 9 1 eS x13)]⟩) ?_ (fun d26=> ?_)
 exact DE.all [11] (by kernel_rfl) (by simp) (List.forall_mem_cons.2 ⟨bW.mk (i:=11) (L':= #[true,true,true,true,true,true,true,true,true,true,true,true,false]) rfl (al.le (bT (f:=eS) (t:=106) (ti:=cn) (tj:=ig) (zs:=[.string (ByteArray.mk #[])]) (e:=9) (m:=1) (d:=40) (xv:=vl eS x14) hx15 aa rfl rfl rfl rfl (oI (fun _=>rfl))) Le.ao) (by kernel_rfl) d27,(fun _ h=>absurd h List.not_mem_nil)⟩)
 refine DE.aJ (fuel:=3) (L:= #[true,true,true,true,true,true,true,false,true,true,true,false,false]) (σ:=⟨45,[(37,.own 37),(39,.own 39),(43,vl eS x14)],[(37,oa 9 1 eS x12),(39,oa 9 1 eS ([aS]:List ByteArray))]⟩) ?_ (fun d25=> ?_)
 exact DE.all [7] (by kernel_rfl) (by simp) (List.forall_mem_cons.2 ⟨bW.mk (i:=7) (L':= #[true,true,true,true,true,true,true,true,true,true,true,false,false]) rfl (al.le (bT (f:=eS) (t:=106) (ti:=cn) (tj:=ig) (zs:=[.string (ByteArray.mk #[])]) (e:=9) (m:=1) (d:=37) (xv:= .own 39) hx13 aa rfl rfl rfl rfl (dj (e:=9))) Le.ao) (by kernel_rfl) d26,(fun _ h=>absurd h List.not_mem_nil)⟩)
 refine DE.aJ (fuel:=3) (L:= #[true,true,true,true,true,true,true,true,true,true,false,false,false]) (σ:=⟨45,[(40,.own 40),(41,vl eS ad),(42,vi j1)],[(40,oa 9 1 eS x13)]⟩) ?_ (fun d24=> ?_)
 exact DE.all [10] (by kernel_rfl) (by simp) (List.forall_mem_cons.2 ⟨bW.mk (i:=10) (L':= #[true,true,true,true,true,true,true,true,true,true,true,false,false]) rfl (al.le (al.kn (c4 (m:=1) (f:=eS) (ti:=cn) (tj:=ig) (e:=9) hx14 (fun _=>rfl) aa rfl) (by kernel_rfl)) Le.ao) (by kernel_rfl) d26,(fun _ h=>absurd h List.not_mem_nil)⟩)
 refine DE.aJ (fuel:=4) (L:= #[true,true,true,true,false,true,true,false,true,true,true,false,false]) (σ:=⟨45,[(33,.own 33),(36,vl eS x11),(39,.own 39),(43,vl eS x14)],[(33,oa 9 1 eS ([]:List ByteArray)),(39,oa 9 1 eS ([aS]:List ByteArray))]⟩) ?_ (fun d23=> ?_)
 exact DE.all [4] (by kernel_rfl) (by simp) (List.forall_mem_cons.2 ⟨bW.mk (i:=4) (L':= #[true,true,true,true,true,true,true,false,true,true,true,false,false]) rfl (al.le (bT (f:=eS) (t:=106) (ti:=cn) (tj:=ig) (zs:=[.string (ByteArray.mk #[])]) (e:=9) (m:=1) (d:=33) (xv:=vl eS x11) hx12 aa rfl rfl rfl rfl (oI (fun _=>rfl))) Le.ao) (by kernel_rfl) d25,(fun _ h=>absurd h List.not_mem_nil)⟩)
 refine DE.aJ (fuel:=4) (L:= #[true,true,true,true,true,true,false,false,true,true,true,false,false]) (σ:=⟨45,[(37,.own 37),(38,vs aS),(43,vl eS x14)],[(37,oa 9 1 eS x12)]⟩) ?_ (fun d22=> ?_)
 exact DE.all [6] (by kernel_rfl) (by simp) (List.forall_mem_cons.2 ⟨bW.mk (i:=6) (L':= #[true,true,true,true,true,true,true,false,true,true,true,false,false]) rfl (al.le (al.bj aa (σ':=⟨45,[(39,.own 39),(37,.own 37),(38,vs aS),(43,vl eS x14)],[(39,oa 9 1 eS ([aS]:List ByteArray)),(37,oa 9 1 eS x12)]⟩) (by kernel_rfl)) Le.ao) (by kernel_rfl) d25,(fun _ h=>absurd h List.not_mem_nil)⟩)
 refine DE.aJ (fuel:=4) (L:= #[true,true,true,true,true,true,true,false,true,true,false,false,false]) (σ:=⟨45,[(37,.own 37),(39,.own 39),(41,vl eS ad),(42,vi j1)],[(37,oa 9 1 eS x12),(39,oa 9 1 eS ([aS]:List ByteArray))]⟩) ?_ (fun d21=> ?_)
 exact DE.all [7,10] (by kernel_rfl) (by simp) (List.forall_mem_cons.2 ⟨bW.mk (i:=7) (L':= #[true,true,true,true,true,true,true,true,true,true,false,false,false]) rfl (al.le (bT (f:=eS) (t:=106) (ti:=cn) (tj:=ig) (zs:=[.string (ByteArray.mk #[])]) (e:=9) (m:=1) (d:=37) (xv:= .own 39) hx13 aa rfl rfl rfl rfl (dj (e:=9))) Le.ao) (by kernel_rfl) d24,(List.forall_mem_cons.2 ⟨bW.mk (i:=10) (L':= #[true,true,true,true,true,true,true,false,true,true,true,false,false]) rfl (al.le (al.kn (c4 (m:=1) (f:=eS) (ti:=cn) (tj:=ig) (e:=9) hx14 (fun _=>rfl) aa rfl) (by kernel_rfl)) Le.ao) (by kernel_rfl) d25,(fun _ h=>absurd h List.not_mem_nil)⟩)⟩)
 refine DE.aJ (fuel:=5) (L:= #[false,true,true,true,false,true,true,false,true,true,true,false,false]) (σ:=⟨45,[(36,vl eS x11),(39,.own 39),(43,vl eS x14)],[(39,oa 9 1 eS ([aS]:List ByteArray))]⟩) ?_ (fun d20=> ?_)
 exact DE.all [0] (by kernel_rfl) (by simp) (List.forall_mem_cons.2 ⟨bW.mk (i:=0) (L':= #[true,true,true,true,false,true,true,false,true,true,true,false,false]) rfl (al.bj aa (σ':=⟨45,[(33,.own 33),(36,vl eS x11),(39,.own 39),(43,vl eS x14)],[(33,oa 9 1 eS ([]:List ByteArray)),(39,oa 9 1 eS ([aS]:List ByteArray))]⟩) (by kernel_rfl)) (by kernel_rfl) d23,(fun _ h=>absurd h List.not_mem_nil)⟩)
 refine DE.aJ (fuel:=5) (L:= #[true,true,true,false,false,true,true,false,true,true,true,false,false]) (σ:=⟨45,[(33,.own 33),(34,vl eS ad),(35,vi j1),(39,.own 39),(43,vl eS x14)],[(33,oa 9 1 eS ([]:List ByteArray)),(39,oa 9 1 eS ([aS]:List ByteArray))]⟩) ?_ (fun d19=> ?_)
 exact DE.all [3] (by kernel_rfl) (by simp) (List.forall_mem_cons.2 ⟨bW.mk (i:=3) (L':= #[true,true,true,true,false,true,true,false,true,true,true,false,false]) rfl (al.le (al.kn (c4 (m:=1) (f:=eS) (ti:=cn) (tj:=ig) (e:=9) hx11 (fun _=>rfl) aa rfl) (by kernel_rfl)) Le.ao) (by kernel_rfl) d23,(fun _ h=>absurd h List.not_mem_nil)⟩)
 refine DE.aJ (fuel:=5) (L:= #[true,true,true,true,false,true,false,false,true,true,true,false,false]) (σ:=⟨45,[(33,.own 33),(36,vl eS x11),(38,vs aS),(43,vl eS x14)],[(33,oa 9 1 eS ([]:List ByteArray))]⟩) ?_ (fun d18=> ?_)
 exact DE.all [4,6] (by kernel_rfl) (by simp) (List.forall_mem_cons.2 ⟨bW.mk (i:=4) (L':= #[true,true,true,true,true,true,false,false,true,true,true,false,false]) rfl (al.le (bT (f:=eS) (t:=106) (ti:=cn) (tj:=ig) (zs:=[.string (ByteArray.mk #[])]) (e:=9) (m:=1) (d:=33) (xv:=vl eS x11) hx12 aa rfl rfl rfl rfl (oI (fun _=>rfl))) Le.ao) (by kernel_rfl) d22,(List.forall_mem_cons.2 ⟨bW.mk (i:=6) (L':= #[true,true,true,true,false,true,true,false,true,true,true,false,false]) rfl (al.le (al.bj aa (σ':=⟨45,[(39,.own 39),(33,.own 33),(36,vl eS x11),(38,vs aS),(43,vl eS x14)],[(39,oa 9 1 eS ([aS]:List ByteArray)),(33,oa 9 1 eS ([]:List ByteArray))]⟩) (by kernel_rfl)) Le.ao) (by kernel_rfl) d23,(fun _ h=>absurd h List.not_mem_nil)⟩)⟩)
 refine DE.aJ (fuel:=5) (L:= #[true,true,true,true,false,true,true,false,true,true,false,false,false]) (σ:=⟨45,[(33,.own 33),(36,vl eS x11),(39,.own 39),(41,vl eS ad),(42,vi j1)],[(33,oa 9 1 eS ([]:List ByteArray)),(39,oa 9 1 eS ([aS]:List ByteArray))]⟩) ?_ (fun d17=> ?_)
 exact DE.all [4,10] (by kernel_rfl) (by simp) (List.forall_mem_cons.2 ⟨bW.mk (i:=4) (L':= #[true,true,true,true,true,true,true,false,true,true,false,false,false]) rfl (al.le (bT (f:=eS) (t:=106) (ti:=cn) (tj:=ig) (zs:=[.string (ByteArray.mk #[])]) (e:=9) (m:=1) (d:=33) (xv:=vl eS x11) hx12 aa rfl rfl rfl rfl (oI (fun _=>rfl))) Le.ao) (by kernel_rfl) d21,(List.forall_mem_cons.2 ⟨bW.mk (i:=10) (L':= #[true,true,true,true,false,true,true,false,true,true,true,false,false]) rfl (al.le (al.kn (c4 (m:=1) (f:=eS) (ti:=cn) (tj:=ig) (e:=9) hx14 (fun _=>rfl) aa rfl) (by kernel_rfl)) Le.ao) (by kernel_rfl) d23,(fun _ h=>absurd h List.not_mem_nil)⟩)⟩)
 refine DE.aJ (fuel:=5) (L:= #[true,true,true,true,true,true,false,false,true,true,false,false,false]) (σ:=⟨45,[(37,.own 37),(38,vs aS),(41,vl eS ad),(42,vi j1)],[(37,oa 9 1 eS x12)]⟩) ?_ (fun d16=> ?_)
 exact DE.all [6,10] (by kernel_rfl) (by simp) (List.forall_mem_cons.2 ⟨bW.mk (i:=6) (L':= #[true,true,true,true,true,true,true,false,true,true,false,false,false]) rfl (al.le (al.bj aa (σ':=⟨45,[(39,.own 39),(37,.own 37),(38,vs aS),(41,vl eS ad),(42,vi j1)],[(39,oa 9 1 eS ([aS]:List ByteArray)),(37,oa 9 1 eS x12)]⟩) (by kernel_rfl)) Le.ao) (by kernel_rfl) d21,(List.forall_mem_cons.2 ⟨bW.mk (i:=10) (L':= #[true,true,true,true,true,true,false,false,true,true,true,false,false]) rfl (al.le (al.kn (c4 (m:=1) (f:=eS) (ti:=cn) (tj:=ig) (e:=9) hx14 (fun _=>rfl) aa rfl) (by kernel_rfl)) Le.ao) (by kernel_rfl) d22,(fun _ h=>absurd h List.not_mem_nil)⟩)⟩)
 refine DE.aJ (fuel:=6) (L:= #[false,true,true,false,false,true,true,false,true,true,true,false,false]) (σ:=⟨45,[(34,vl eS ad),(35,vi j1),(39,.own 39),(43,vl eS x14)],[(39,oa 9 1 eS ([aS]:List ByteArray))]⟩) ?_ (fun d15=> ?_)
 exact DE.all [0,3] (by kernel_rfl) (by simp) (List.forall_mem_cons.2 ⟨bW.mk (i:=0) (L':= #[true,true,true,false,false,true,true,false,true,true,true,false,false]) rfl (al.bj aa (σ':=⟨45,[(33,.own 33),(34,vl eS ad),(35,vi j1),(39,.own 39),(43,vl eS x14)],[(33,oa 9 1 eS ([]:List ByteArray)),(39,oa 9 1 eS ([aS]:List ByteArray))]⟩) (by kernel_rfl)) (by kernel_rfl) d19,(List.forall_mem_cons.2 ⟨bW.mk (i:=3) (L':= #[false,true,true,true,false,true,true,false,true,true,true,false,false]) rfl (al.le (al.kn (c4 (m:=1) (f:=eS) (ti:=cn) (tj:=ig) (e:=9) hx11 (fun _=>rfl) aa rfl) (by kernel_rfl)) Le.ao) (by kernel_rfl) d20,(fun _ h=>absurd h List.not_mem_nil)⟩)⟩)
 refine DE.aJ (fuel:=6) (L:= #[false,true,true,true,false,true,false,false,true,true,true,false,false]) (σ:=⟨45,[(36,vl eS x11),(38,vs aS),(43,vl eS x14)],[]⟩) ?_ (fun d14=> ?_)
 exact DE.all [0,6] (by kernel_rfl) (by simp) (List.forall_mem_cons.2 ⟨bW.mk (i:=0) (L':= #[true,true,true,true,false,true,false,false,true,true,true,false,false]) rfl (al.bj aa (σ':=⟨45,[(33,.own 33),(36,vl eS x11),(38,vs aS),(43,vl eS x14)],[(33,oa 9 1 eS ([]:List ByteArray))]⟩) (by kernel_rfl)) (by kernel_rfl) d18,(List.forall_mem_cons.2 ⟨bW.mk (i:=6) (L':= #[false,true,true,true,false,true,true,false,true,true,true,false,false]) rfl (al.le (al.bj aa (σ':=⟨45,[(39,.own 39),(36,vl eS x11),(38,vs aS),(43,vl eS x14)],[(39,oa 9 1 eS ([aS]:List ByteArray))]⟩) (by kernel_rfl)) Le.ao) (by kernel_rfl) d20,(fun _ h=>absurd h List.not_mem_nil)⟩)⟩)
 refine DE.aJ (fuel:=6) (L:= #[false,true,true,true,false,true,true,false,true,true,false,false,false]) (σ:=⟨45,[(36,vl eS x11),(39,.own 39),(41,vl eS ad),(42,vi j1)],[(39,oa 9 1 eS ([aS]:List ByteArray))]⟩) ?_ (fun d13=> ?_)
 exact DE.all [0,10] (by kernel_rfl) (by simp) (List.forall_mem_cons.2 ⟨bW.mk (i:=0) (L':= #[true,true,true,true,false,true,true,false,true,true,false,false,false]) rfl (al.bj aa (σ':=⟨45,[(33,.own 33),(36,vl eS x11),(39,.own 39),(41,vl eS ad),(42,vi j1)],[(33,oa 9 1 eS ([]:List ByteArray)),(39,oa 9 1 eS ([aS]:List ByteArray))]⟩) (by kernel_rfl)) (by kernel_rfl) d17,(List.forall_mem_cons.2 ⟨bW.mk (i:=10) (L':= #[false,true,true,true,false,true,true,false,true,true,true,false,false]) rfl (al.le (al.kn (c4 (m:=1) (f:=eS) (ti:=cn) (tj:=ig) (e:=9) hx14 (fun _=>rfl) aa rfl) (by kernel_rfl)) Le.ao) (by kernel_rfl) d20,(fun _ h=>absurd h List.not_mem_nil)⟩)⟩)
 refine DE.aJ (fuel:=6) (L:= #[true,true,true,false,false,true,false,false,true,true,true,false,false]) (σ:=⟨45,[(33,.own 33),(34,vl eS ad),(35,vi j1),(38,vs aS),(43,vl eS x14)],[(33,oa 9 1 eS ([]:List ByteArray))]⟩) ?_ (fun d12=> ?_)
 exact DE.all [3,6] (by kernel_rfl) (by simp) (List.forall_mem_cons.2 ⟨bW.mk (i:=3) (L':= #[true,true,true,true,false,true,false,false,true,true,true,false,false]) rfl (al.le (al.kn (c4 (m:=1) (f:=eS) (ti:=cn) (tj:=ig) (e:=9) hx11 (fun _=>rfl) aa rfl) (by kernel_rfl)) Le.ao) (by kernel_rfl) d18,(List.forall_mem_cons.2 ⟨bW.mk (i:=6) (L':= #[true,true,true,false,false,true,true,false,true,true,true,false,false]) rfl (al.le (al.bj aa (σ':=⟨45,[(39,.own 39),(33,.own 33),(34,vl eS ad),(35,vi j1),(38,vs aS),(43,vl eS x14)],[(39,oa 9 1 eS ([aS]:List ByteArray)),(33,oa 9 1 eS ([]:List ByteArray))]⟩) (by kernel_rfl)) Le.ao) (by kernel_rfl) d19,(fun _ h=>absurd h List.not_mem_nil)⟩)⟩)
 refine DE.aJ (fuel:=6) (L:= #[true,true,true,false,false,true,true,false,true,true,false,false,false]) (σ:=⟨45,[(33,.own 33),(34,vl eS ad),(35,vi j1),(39,.own 39),(41,vl eS ad),(42,vi j1)],[(33,oa 9 1 eS ([]:List ByteArray)),(39,oa 9 1 eS ([aS]:List ByteArray))]⟩) ?_ (fun d11=> ?_)
 exact DE.all [3,10] (by kernel_rfl) (by simp) (List.forall_mem_cons.2 ⟨bW.mk (i:=3) (L':= #[true,true,true,true,false,true,true,false,true,true,false,false,false]) rfl (al.le (al.kn (c4 (m:=1) (f:=eS) (ti:=cn) (tj:=ig) (e:=9) hx11 (fun _=>rfl) aa rfl) (by kernel_rfl)) Le.ao) (by kernel_rfl) d17,(List.forall_mem_cons.2 ⟨bW.mk (i:=10) (L':= #[true,true,true,false,false,true,true,false,true,true,true,false,false]) rfl (al.le (al.kn (c4 (m:=1) (f:=eS) (ti:=cn) (tj:=ig) (e:=9) hx14 (fun _=>rfl) aa rfl) (by kernel_rfl)) Le.ao) (by kernel_rfl) d19,(fun _ h=>absurd h List.not_mem_nil)⟩)⟩)
 refine DE.aJ (fuel:=6) (L:= #[true,true,true,true,false,true,false,false,true,true,false,false,false]) (σ:=⟨45,[(33,.own 33),(36,vl eS x11),(38,vs aS),(41,vl eS ad),(42,vi j1)],[(33,oa 9 1 eS ([]:List ByteArray))]⟩) ?_ (fun d10=> ?_)
 exact DE.all [4,6,10] (by kernel_rfl) (by simp) (List.forall_mem_cons.2 ⟨bW.mk (i:=4) (L':= #[true,true,true,true,true,true,false,false,true,true,false,false,false]) rfl (al.le (bT (f:=eS) (t:=106) (ti:=cn) (tj:=ig) (zs:=[.string (ByteArray.mk #[])]) (e:=9) (m:=1) (d:=33) (xv:=vl eS x11) hx12 aa rfl rfl rfl rfl (oI (fun _=>rfl))) Le.ao) (by kernel_rfl) d16,(List.forall_mem_cons.2 ⟨bW.mk (i:=6) (L':= #[true,true,true,true,false,true,true,false,true,true,false,false,false]) rfl (al.le (al.bj aa (σ':=⟨45,[(39,.own 39),(33,.own 33),(36,vl eS x11),(38,vs aS),(41,vl eS ad),(42,vi j1)],[(39,oa 9 1 eS ([aS]:List ByteArray)),(33,oa 9 1 eS ([]:List ByteArray))]⟩) (by kernel_rfl)) Le.ao) (by kernel_rfl) d17,(List.forall_mem_cons.2 ⟨bW.mk (i:=10) (L':= #[true,true,true,true,false,true,false,false,true,true,true,false,false]) rfl (al.le (al.kn (c4 (m:=1) (f:=eS) (ti:=cn) (tj:=ig) (e:=9) hx14 (fun _=>rfl) aa rfl) (by kernel_rfl)) Le.ao) (by kernel_rfl) d18,(fun _ h=>absurd h List.not_mem_nil)⟩)⟩)⟩)
 refine DE.aJ (fuel:=7) (L:= #[false,true,true,false,false,true,false,false,true,true,true,false,false]) (σ:=⟨45,[(34,vl eS ad),(35,vi j1),(38,vs aS),(43,vl eS x14)],[]⟩) ?_ (fun d9=> ?_)
 exact DE.all [0,3,6] (by kernel_rfl) (by simp) (List.forall_mem_cons.2 ⟨bW.mk (i:=0) (L':= #[true,true,true,false,false,true,false,false,true,true,true,false,false]) rfl (al.bj aa (σ':=⟨45,[(33,.own 33),(34,vl eS ad),(35,vi j1),(38,vs aS),(43,vl eS x14)],[(33,oa 9 1 eS ([]:List ByteArray))]⟩) (by kernel_rfl)) (by kernel_rfl) d12,(List.forall_mem_cons.2 ⟨bW.mk (i:=3) (L':= #[false,true,true,true,false,true,false,false,true,true,true,false,false]) rfl (al.le (al.kn (c4 (m:=1) (f:=eS) (ti:=cn) (tj:=ig) (e:=9) hx11 (fun _=>rfl) aa rfl) (by kernel_rfl)) Le.ao) (by kernel_rfl) d14,(List.forall_mem_cons.2 ⟨bW.mk (i:=6) (L':= #[false,true,true,false,false,true,true,false,true,true,true,false,false]) rfl (al.le (al.bj aa (σ':=⟨45,[(39,.own 39),(34,vl eS ad),(35,vi j1),(38,vs aS),(43,vl eS x14)],[(39,oa 9 1 eS ([aS]:List ByteArray))]⟩) (by kernel_rfl)) Le.ao) (by kernel_rfl) d15,(fun _ h=>absurd h List.not_mem_nil)⟩)⟩)⟩)
 refine DE.aJ (fuel:=7) (L:= #[false,true,true,false,false,true,true,false,true,true,false,false,false]) (σ:=⟨45,[(34,vl eS ad),(35,vi j1),(39,.own 39),(41,vl eS ad),(42,vi j1)],[(39,oa 9 1 eS ([aS]:List ByteArray))]⟩) ?_ (fun d8=> ?_)
 exact DE.all [0,3,10] (by kernel_rfl) (by simp) (List.forall_mem_cons.2 ⟨bW.mk (i:=0) (L':= #[true,true,true,false,false,true,true,false,true,true,false,false,false]) rfl (al.bj aa (σ':=⟨45,[(33,.own 33),(34,vl eS ad),(35,vi j1),(39,.own 39),(41,vl eS ad),(42,vi j1)],[(33,oa 9 1 eS ([]:List ByteArray)),(39,oa 9 1 eS ([aS]:List ByteArray))]⟩) (by kernel_rfl)) (by kernel_rfl) d11,(List.forall_mem_cons.2 ⟨bW.mk (i:=3) (L':= #[false,true,true,true,false,true,true,false,true,true,false,false,false]) rfl (al.le (al.kn (c4 (m:=1) (f:=eS) (ti:=cn) (tj:=ig) (e:=9) hx11 (fun _=>rfl) aa rfl) (by kernel_rfl)) Le.ao) (by kernel_rfl) d13,(List.forall_mem_cons.2 ⟨bW.mk (i:=10) (L':= #[false,true,true,false,false,true,true,false,true,true,true,false,false]) rfl (al.le (al.kn (c4 (m:=1) (f:=eS) (ti:=cn) (tj:=ig) (e:=9) hx14 (fun _=>rfl) aa rfl) (by kernel_rfl)) Le.ao) (by kernel_rfl) d15,(fun _ h=>absurd h List.not_mem_nil)⟩)⟩)⟩)
 refine DE.aJ (fuel:=7) (L:= #[false,true,true,true,false,true,false,false,true,true,false,false,false]) (σ:=⟨45,[(36,vl eS x11),(38,vs aS),(41,vl eS ad),(42,vi j1)],[]⟩) ?_ (fun d7=> ?_)
 exact DE.all [0,6,10] (by kernel_rfl) (by simp) (List.forall_mem_cons.2 ⟨bW.mk (i:=0) (L':= #[true,true,true,true,false,true,false,false,true,true,false,false,false]) rfl (al.bj aa (σ':=⟨45,[(33,.own 33),(36,vl eS x11),(38,vs aS),(41,vl eS ad),(42,vi j1)],[(33,oa 9 1 eS ([]:List ByteArray))]⟩) (by kernel_rfl)) (by kernel_rfl) d10,(List.forall_mem_cons.2 ⟨bW.mk (i:=6) (L':= #[false,true,true,true,false,true,true,false,true,true,false,false,false]) rfl (al.le (al.bj aa (σ':=⟨45,[(39,.own 39),(36,vl eS x11),(38,vs aS),(41,vl eS ad),(42,vi j1)],[(39,oa 9 1 eS ([aS]:List ByteArray))]⟩) (by kernel_rfl)) Le.ao) (by kernel_rfl) d13,(List.forall_mem_cons.2 ⟨bW.mk (i:=10) (L':= #[false,true,true,true,false,true,false,false,true,true,true,false,false]) rfl (al.le (al.kn (c4 (m:=1) (f:=eS) (ti:=cn) (tj:=ig) (e:=9) hx14 (fun _=>rfl) aa rfl) (by kernel_rfl)) Le.ao) (by kernel_rfl) d14,(fun _ h=>absurd h List.not_mem_nil)⟩)⟩)⟩)
 refine DE.aJ (fuel:=7) (L:= #[true,true,true,false,false,true,false,false,true,true,false,false,false]) (σ:=⟨45,[(33,.own 33),(34,vl eS ad),(35,vi j1),(38,vs aS),(41,vl eS ad),(42,vi j1)],[(33,oa 9 1 eS ([]:List ByteArray))]⟩) ?_ (fun d6=> ?_)
 exact DE.all [3,6,10] (by kernel_rfl) (by simp) (List.forall_mem_cons.2 ⟨bW.mk (i:=3) (L':= #[true,true,true,true,false,true,false,false,true,true,false,false,false]) rfl (al.le (al.kn (c4 (m:=1) (f:=eS) (ti:=cn) (tj:=ig) (e:=9) hx11 (fun _=>rfl) aa rfl) (by kernel_rfl)) Le.ao) (by kernel_rfl) d10,(List.forall_mem_cons.2 ⟨bW.mk (i:=6) (L':= #[true,true,true,false,false,true,true,false,true,true,false,false,false]) rfl (al.le (al.bj aa (σ':=⟨45,[(39,.own 39),(33,.own 33),(34,vl eS ad),(35,vi j1),(38,vs aS),(41,vl eS ad),(42,vi j1)],[(39,oa 9 1 eS ([aS]:List ByteArray)),(33,oa 9 1 eS ([]:List ByteArray))]⟩) (by kernel_rfl)) Le.ao) (by kernel_rfl) d11,(List.forall_mem_cons.2 ⟨bW.mk (i:=10) (L':= #[true,true,true,false,false,true,false,false,true,true,true,false,false]) rfl (al.le (al.kn (c4 (m:=1) (f:=eS) (ti:=cn) (tj:=ig) (e:=9) hx14 (fun _=>rfl) aa rfl) (by kernel_rfl)) Le.ao) (by kernel_rfl) d12,(fun _ h=>absurd h List.not_mem_nil)⟩)⟩)⟩)
 refine DE.aJ (fuel:=8) (L:= #[false,true,true,false,false,true,false,false,true,true,false,false,false]) (σ:=⟨45,[(34,vl eS ad),(35,vi j1),(38,vs aS),(41,vl eS ad),(42,vi j1)],[]⟩) ?_ (fun d5=> ?_)
 exact DE.all [0,3,6,10] (by kernel_rfl) (by simp) (List.forall_mem_cons.2 ⟨bW.mk (i:=0) (L':= #[true,true,true,false,false,true,false,false,true,true,false,false,false]) rfl (al.bj aa (σ':=⟨45,[(33,.own 33),(34,vl eS ad),(35,vi j1),(38,vs aS),(41,vl eS ad),(42,vi j1)],[(33,oa 9 1 eS ([]:List ByteArray))]⟩) (by kernel_rfl)) (by kernel_rfl) d6,(List.forall_mem_cons.2 ⟨bW.mk (i:=3) (L':= #[false,true,true,true,false,true,false,false,true,true,false,false,false]) rfl (al.le (al.kn (c4 (m:=1) (f:=eS) (ti:=cn) (tj:=ig) (e:=9) hx11 (fun _=>rfl) aa rfl) (by kernel_rfl)) Le.ao) (by kernel_rfl) d7,(List.forall_mem_cons.2 ⟨bW.mk (i:=6) (L':= #[false,true,true,false,false,true,true,false,true,true,false,false,false]) rfl (al.le (al.bj aa (σ':=⟨45,[(39,.own 39),(34,vl eS ad),(35,vi j1),(38,vs aS),(41,vl eS ad),(42,vi j1)],[(39,oa 9 1 eS ([aS]:List ByteArray))]⟩) (by kernel_rfl)) Le.ao) (by kernel_rfl) d8,(List.forall_mem_cons.2 ⟨bW.mk (i:=10) (L':= #[false,true,true,false,false,true,false,false,true,true,true,false,false]) rfl (al.le (al.kn (c4 (m:=1) (f:=eS) (ti:=cn) (tj:=ig) (e:=9) hx14 (fun _=>rfl) aa rfl) (by kernel_rfl)) Le.ao) (by kernel_rfl) d9,(fun _ h=>absurd h List.not_mem_nil)⟩)⟩)⟩)⟩)
 refine DE.aJ (fuel:=9) (L:= #[false,true,true,false,false,true,false,false,true,false,false,false,false]) (σ:=⟨45,[(5,vi j1),(34,vl eS ad),(35,vi j1),(38,vs aS),(41,vl eS ad)],[]⟩) ?_ (fun d4=> ?_)
 exact DE.take (i:=9) (L':= #[false,true,true,false,false,true,false,false,true,true,false,false,false]) rfl (.inl rfl) rfl (by kernel_rfl) (by kernel_rfl) (by kernel_rfl) (al.le (al.bj aa (σ':=⟨45,[(42,vi j1),(5,vi j1),(34,vl eS ad),(35,vi j1),(38,vs aS),(41,vl eS ad)],[]⟩) (by kernel_rfl)) Le.ao) (by kernel_rfl) d5
 refine DE.aJ (fuel:=10) (L:= #[false,true,true,false,false,true,false,false,false,false,false,false,false]) (σ:=⟨45,[(0,vl eS ad),(5,vi j1),(34,vl eS ad),(35,vi j1),(38,vs aS)],[]⟩) ?_ (fun d3=> ?_)
 exact DE.take (i:=8) (L':= #[false,true,true,false,false,true,false,false,true,false,false,false,false]) rfl (.inl rfl) rfl (by kernel_rfl) (by kernel_rfl) (by kernel_rfl) (al.le (al.bj aa (σ':=⟨45,[(41,vl eS ad),(0,vl eS ad),(5,vi j1),(34,vl eS ad),(35,vi j1),(38,vs aS)],[]⟩) (by kernel_rfl)) Le.ao) (by kernel_rfl) d4
 refine DE.aJ (fuel:=11) (L:= #[false,true,true,false,false,false,false,false,false,false,false,false,false]) (σ:=⟨45,[(0,vl eS ad),(1,vs aS),(5,vi j1),(34,vl eS ad),(35,vi j1)],[]⟩) ?_ (fun d2=> ?_)
 exact DE.take (i:=5) (L':= #[false,true,true,false,false,true,false,false,false,false,false,false,false]) rfl (.inl rfl) rfl (by kernel_rfl) (by kernel_rfl) (by kernel_rfl) (al.le (al.bj aa (σ':=⟨45,[(38,vs aS),(0,vl eS ad),(1,vs aS),(5,vi j1),(34,vl eS ad),(35,vi j1)],[]⟩) (by kernel_rfl)) Le.ao) (by kernel_rfl) d3
 refine DE.aJ (fuel:=12) (L:= #[false,true,false,false,false,false,false,false,false,false,false,false,false]) (σ:=⟨45,[(0,vl eS ad),(1,vs aS),(5,vi j1),(34,vl eS ad)],[]⟩) ?_ (fun d1=> ?_)
 exact DE.take (i:=2) (L':= #[false,true,true,false,false,false,false,false,false,false,false,false,false]) rfl (.inl rfl) rfl (by kernel_rfl) (by kernel_rfl) (by kernel_rfl) (al.le (al.bj aa (σ':=⟨45,[(35,vi j1),(0,vl eS ad),(1,vs aS),(5,vi j1),(34,vl eS ad)],[]⟩) (by kernel_rfl)) Le.ao) (by kernel_rfl) d2
 exact DE.take (i:=1) (L':= #[false,true,false,false,false,false,false,false,false,false,false,false,false]) rfl (.inl rfl) rfl (by kernel_rfl) (by kernel_rfl) (by kernel_rfl) (al.le (al.bj aa (σ':=⟨45,[(34,vl eS ad),(0,vl eS ad),(1,vs aS),(5,vi j1),(31,vb j9)],[]⟩) (by kernel_rfl)) Le.ao) (by kernel_rfl) d1
 refine a8 ?_
 refine cW (Le.sY (d:=44) (e:=9) (m:=1) (n:=x15.length) (es:=x15.map eS) (by kernel_rfl) (by kernel_rfl)) ?_
 refine ak ?_
 obtain rfl:=inj h
 exact aD (f1 ft)
theorem vz:a7 Tryz.prog 178:=aw Tryz.func178 (by kernel_rfl) rfl
noncomputable def fz(ad:(List au)):Option ((List ByteArray)):=
 (((iQ (ad.length:Int) (fun(i3:Int) (s3:(List ByteArray))=>((at' ad i3).bind fun x7=>((c5 s3 x7.Child).bind fun x8=>((at' ad i3).bind fun x9=>((c5 x8 x9.Parent).bind fun x10=>some x10))))) (fun(s3:(List ByteArray))=>s3) 0 ([]:List ByteArray))).bind fun(j1:(List ByteArray))=>some j1)
theorem mF(ad:(List au))(r:(List ByteArray))(h:fz ad=some r):aF Tryz.prog 129 [.v (vl ac ad)] ⟨[.v (vl eS r)],[],true⟩:=by
 refine ar Tryz.func129 rfl [(.tmp 2)] rfl (fun r=>⟨[.v (vl eS r)],[],true⟩) (r:=r) ?_
 unfold fz at h
 refine az aa ⟨26,[(0,vl ac ad)],[]⟩ ?_
 refine az aa ⟨26,[(0,vl ac ad),(3,.own 5)],[(5,oa 9 1 eS ([]:List ByteArray))]⟩ ?_
 refine ai ?_
 refine az aa ⟨26,[(0,vl ac ad),(3,.own 5),(4,vi 0)],[(5,oa 9 1 eS ([]:List ByteArray))]⟩ ?_
 refine bg h (fun j1=>⟨26,[(3,vl eS j1)],[]⟩) (fun v2 h=> ?_) (fun j1 h=> ?_)
 refine ax (a:=v2) ?_
 refine cW (Le.sY (d:=5) (e:=9) (m:=1) (n:=([]:List ByteArray).length) (es:=([]:List ByteArray).map eS) (by kernel_rfl) (by kernel_rfl)) ?_
 refine a6 (r:=v2) (s:=(0,([]:List ByteArray))) _ (fun s3=>⟨26,[(0,vl ac ad),(3,vl eS s3.2),(4,vi s3.1)],[]⟩) _ (Le.ao) h (fun s3 v4 h=> ?_)
 refine ai ?_
 refine az aa ⟨26,[(0,vl ac ad),(3,vl eS s3.2),(4,vi s3.1),(9,vb (decide (s3.1<(ad.length:Int))))],[]⟩ ?_
 refine aq h (fun h=> ?_) fun h=> ?_
 refine an ?_
 refine a8 ?_
 refine ai ?_
 refine bg h (fun j5=>⟨26,[(0,vl ac ad),(3,vl eS j5),(4,vi s3.1)],[]⟩) (fun v6 h=> ?_) (fun j5 h=> ?_)
 refine ax (a:=v6) ?_
 refine di mixed ?_
 refine aQ.ck aa false 3 ⟨26,[(0,vl ac ad),(4,vi s3.1),(12,vl eS s3.2),(13,vl ac ad),(14,vi s3.1)],[]⟩ ?_
 obtain⟨x7,hx7,h⟩:=bind_some h
 refine aQ.step (aG (L:=ad) (f:=ac) (ti:=eh) (tj:=ei) (e:=85) (k:= .i64) aa rfl hx7) ?_
 refine aQ.ck aa false 2 ⟨26,[(0,vl ac ad),(4,vi s3.1),(12,vl eS s3.2),(17,vs x7.Child)],[]⟩ ?_
 obtain⟨x8,hx8,h⟩:=bind_some h
 refine aQ.step (xc vz (jB s3.2 x7.Child _ hx8)) ?_
 refine aQ.ck aa false 2 ⟨26,[(0,vl ac ad),(4,vi s3.1),(18,vl eS x8),(19,vl ac ad),(20,vi s3.1)],[]⟩ ?_
 obtain⟨x9,hx9,h⟩:=bind_some h
 refine aQ.step (aG (L:=ad) (f:=ac) (ti:=eh) (tj:=ei) (e:=85) (k:= .i64) aa rfl hx9) ?_
 refine aQ.ck aa false 2 ⟨26,[(0,vl ac ad),(4,vi s3.1),(18,vl eS x8),(23,vs x9.Parent)],[]⟩ ?_
 obtain⟨x10,hx10,h⟩:=bind_some h
 refine aQ.step (xc vz (jB x8 x9.Parent _ hx10)) ?_
 refine aQ.ck aa false 1 ⟨26,[(0,vl ac ad),(3,vl eS x10),(4,vi s3.1)],[]⟩ ?_
 refine aQ.nil (by kernel_rfl) ?_
 obtain rfl:=inj h
 exact bY (fO (Le.ao))
 refine aE ?_
 refine ae.ck aa 3 ⟨26,[(0,vl ac ad),(3,vl eS j5),(4,vi (aZ (s3.1+1)))],[]⟩ ?_
 refine ae.nil ?_
 obtain rfl:=inj h
 exact cb (Le.ao)
 refine aO ?_
 obtain rfl:=inj h
 exact cH (cJ (cI (fO (Le.ao))))
 refine az aa ⟨26,[(2,vl eS j1)],[]⟩ ?_
 refine ak ?_
 obtain rfl:=inj h
 exact aD (f1 ft)
theorem y4:a7 Tryz.prog 129:=aw Tryz.func129 (by kernel_rfl) rfl
noncomputable def eQ(ad:(List au))(ap:ByteArray)(ag:Int):Option ((List ByteArray)×Int):=
 ((ib ad ap ag).bind fun x1=>(bif(x1 !=0)then some (([]:List ByteArray),x1)else((fz ad).bind fun x2=>(((iQ (x2.length:Int) (fun(i5:Int) (s5:(List ByteArray))=>((at' x2 i5).bind fun x9=>((dB ad x9 ag).bind fun x10=>(bif(x10.toList==ap.toList)then((at' x2 i5).bind fun x11=>((dU s5 ([x11]:List ByteArray)).bind fun x12=>some x12))else some s5)))) (fun(s5:(List ByteArray))=>s5) 0 ([]:List ByteArray))).bind fun(j3:(List ByteArray))=>some (j3,0)))))
theorem l5(ad:(List au))(ap:ByteArray)(ag:Int)(r:(List ByteArray)×Int)(h:eQ ad ap ag=some r):aF Tryz.prog 72 [.v (vl ac ad),.v (vs ap),.v (vi ag)] ⟨[.own 9 1 r.1.length (r.1.map eS),.v (vi r.2)],[],false⟩:=by
 refine ar Tryz.func72 rfl [(.tmp 6),(.tmp 7)] rfl (fun r=>⟨[.own 9 1 r.1.length (r.1.map eS),.v (vi r.2)],[],false⟩) (r:=r) ?_
 unfold eQ at h
 refine az aa ⟨45,[(0,vl ac ad),(1,vs ap),(2,vi ag)],[]⟩ ?_
 refine sr ?_
 refine ae.ck aa 3 ⟨45,[(0,vl ac ad),(1,vs ap),(2,vi ag),(12,vl ac ad),(13,vs ap),(14,vi ag)],[]⟩ ?_
 obtain⟨x1,hx1,h⟩:=bind_some h
 refine ae.ls (xc y3 (oh ad ap ag _ hx1)) ?_
 refine bU aa 1 ⟨45,[(0,vl ac ad),(1,vs ap),(2,vi ag),(8,vi x1)],[]⟩ ?_
 refine ai ?_
 refine az aa ⟨45,[(0,vl ac ad),(1,vs ap),(2,vi ag),(8,vi x1),(17,vb (x1 !=0))],[]⟩ ?_
 refine aq h (fun h=> ?_) fun h=> ?_
 refine az aa ⟨45,[(6,.own 6),(7,vi x1)],[(6,oa 9 1 eS ([]:List ByteArray))]⟩ ?_
 refine ak ?_
 obtain rfl:=inj h
 exact bS (aD (f2 (fo fa) fv))
 refine an ?_
 refine a8 ?_
 refine az aa ⟨45,[(0,vl ac ad),(1,vs ap),(2,vi ag),(9,.own 19)],[(19,oa 9 1 eS ([]:List ByteArray))]⟩ ?_
 refine sr ?_
 refine ae.ck aa 1 ⟨45,[(0,vl ac ad),(1,vs ap),(2,vi ag),(9,.own 19),(20,vl ac ad)],[(19,oa 9 1 eS ([]:List ByteArray))]⟩ ?_
 obtain⟨x2,hx2,h⟩:=bind_some h
 refine ae.ls (xc y4 (mF ad _ hx2)) ?_
 refine bU aa 1 ⟨45,[(0,vl ac ad),(1,vs ap),(2,vi ag),(9,.own 19),(10,vl eS x2)],[(19,oa 9 1 eS ([]:List ByteArray))]⟩ ?_
 refine ai ?_
 refine az aa ⟨45,[(0,vl ac ad),(1,vs ap),(2,vi ag),(9,.own 19),(10,vl eS x2),(11,vi 0)],[(19,oa 9 1 eS ([]:List ByteArray))]⟩ ?_
 refine bg h (fun j3=>⟨45,[(9,.own 9)],[(9,oa 9 1 eS j3)]⟩) (fun v4 h=> ?_) (fun j3 h=> ?_)
 refine ax (a:=v4) ?_
 refine a6 (r:=v4) (s:=(0,([]:List ByteArray))) _ (fun s5=>⟨45,[(0,vl ac ad),(1,vs ap),(2,vi ag),(9,.own 9),(10,vl eS x2),(11,vi s5.1)],[(9,oa 9 1 eS s5.2)]⟩) _ (Le.rr [19] [(19,9)]) h (fun s5 v6 h=> ?_)
 refine ai ?_
 refine az aa ⟨45,[(0,vl ac ad),(1,vs ap),(2,vi ag),(9,.own 9),(10,vl eS x2),(11,vi s5.1),(25,vb (decide (s5.1<(x2.length:Int))))],[(9,oa 9 1 eS s5.2)]⟩ ?_
 refine aq h (fun h=> ?_) fun h=> ?_
 refine an ?_
 refine a8 ?_
 refine ai ?_
 refine bg h (fun j7=>⟨45,[(0,vl ac ad),(1,vs ap),(2,vi ag),(9,.own 9),(10,vl eS x2),(11,vi s5.1)],[(9,oa 9 1 eS j7)]⟩) (fun v8 h=> ?_) (fun j7 h=> ?_)
 refine ax (a:=v8) ?_
 refine sr ?_
 refine ae.ck aa 3 ⟨45,[(0,vl ac ad),(1,vs ap),(2,vi ag),(9,.own 9),(10,vl eS x2),(11,vi s5.1),(28,vl ac ad),(29,vl eS x2),(30,vi s5.1)],[(9,oa 9 1 eS s5.2)]⟩ ?_
 obtain⟨x9,hx9,h⟩:=bind_some h
 refine ae.ls (aG (L:=x2) (f:=eS) (ti:=cn) (tj:=ig) (e:=9) (k:= .i64) aa rfl hx9) ?_
 refine ae.ck aa 2 ⟨45,[(0,vl ac ad),(1,vs ap),(2,vi ag),(9,.own 9),(10,vl eS x2),(11,vi s5.1),(28,vl ac ad),(32,vs x9),(33,vi ag)],[(9,oa 9 1 eS s5.2)]⟩ ?_
 obtain⟨x10,hx10,h⟩:=bind_some h
 refine ae.ls (xc vr (jD ad x9 ag _ hx10)) ?_
 refine bU aa 2 ⟨45,[(0,vl ac ad),(1,vs ap),(2,vi ag),(9,.own 9),(10,vl eS x2),(11,vi s5.1),(36,vb (x10.toList==ap.toList))],[(9,oa 9 1 eS s5.2)]⟩ ?_
 refine aq h (fun h=> ?_) fun h=> ?_
 refine aE ?_
 refine ae.ck aa 3 ⟨45,[(0,vl ac ad),(1,vs ap),(2,vi ag),(10,vl eS x2),(11,vi s5.1),(37,.own 9),(38,vl eS x2),(39,vi s5.1)],[(9,oa 9 1 eS s5.2)]⟩ ?_
 obtain⟨x11,hx11,h⟩:=bind_some h
 refine ae.ls (aG (L:=x2) (f:=eS) (ti:=cn) (tj:=ig) (e:=9) (k:= .i64) aa rfl hx11) ?_
 refine ae.ck aa 2 ⟨45,[(0,vl ac ad),(1,vs ap),(2,vi ag),(10,vl eS x2),(11,vi s5.1),(37,.own 9),(42,.own 42)],[(9,oa 9 1 eS s5.2),(42,oa 9 1 eS ([x11]:List ByteArray))]⟩ ?_
 obtain⟨x12,hx12,h⟩:=bind_some h
 refine ae.cf (bT (f:=eS) (t:=106) (ti:=cn) (tj:=ig) (zs:=[.string (ByteArray.mk #[])]) (e:=9) (m:=1) (d:=9) (xv:= .own 42) hx12 aa rfl rfl rfl rfl (dj (e:=9))) ?_
 refine ae.ck aa 1 ⟨45,[(0,vl ac ad),(1,vs ap),(2,vi ag),(9,.own 43),(10,vl eS x2),(11,vi s5.1)],[(43,oa 9 1 eS x12)]⟩ ?_
 refine ae.nil ?_
 obtain rfl:=inj h
 exact bY (fO (Le.rr [43] [(43,9)]))
 refine an ?_
 obtain rfl:=inj h
 exact bY (fO (Le.ao))
 refine aE ?_
 refine ae.ck aa 3 ⟨45,[(0,vl ac ad),(1,vs ap),(2,vi ag),(9,.own 9),(10,vl eS x2),(11,vi (aZ (s5.1+1)))],[(9,oa 9 1 eS j7)]⟩ ?_
 refine ae.nil ?_
 obtain rfl:=inj h
 exact cb (Le.ao)
 refine aO ?_
 obtain rfl:=inj h
 exact cH (cJ (cI (fO (Le.ao))))
 refine az aa ⟨45,[(6,.own 9),(7,vi 0)],[(9,oa 9 1 eS j3)]⟩ ?_
 refine ak ?_
 obtain rfl:=inj h
 exact aD (f2 (fo fa) fv)
theorem AW:a7 Tryz.prog 72:=aw Tryz.func72 (by kernel_rfl) rfl
noncomputable def ia(ad:(List Place))(ap:ByteArray)(ag:Int):Option (Int):=
 ((((dD ad).bind fun x1=>(bif(!x1)then some true else((cN ap).bind fun x2=>some (!x2))))).bind fun(j3:Bool)=>(bif j3 then some 1 else((cK ag).bind fun x5=>(bif(!x5)then some 2 else((bR ad ap).bind fun x6=>(bif(decide (x6<0))then some 4 else some 0))))))
theorem og(ad:(List Place))(ap:ByteArray)(ag:Int)(r:Int)(h:ia ad ap ag=some r):aF Tryz.prog 131 [.v (vl ab ad),.v (vs ap),.v (vi ag)] ⟨[.v (vi r)],[],false⟩:=by
 refine ar Tryz.func131 rfl [(.tmp 6)] rfl (fun r=>⟨[.v (vi r)],[],false⟩) (r:=r) ?_
 unfold ia at h
 refine az aa ⟨22,[(0,vl ab ad),(1,vs ap),(2,vi ag)],[]⟩ ?_
 refine ai ?_
 refine ai ?_
 refine bk h (fun j3=>⟨22,[(0,vl ab ad),(1,vs ap),(2,vi ag),(14,vb j3)],[]⟩) (fun v4 h=> ?_) (fun j3 h=> ?_)
 refine ae.ck aa 1 ⟨22,[(0,vl ab ad),(1,vs ap),(2,vi ag),(7,vl ab ad)],[]⟩ ?_
 obtain⟨x1,hx1,h⟩:=bind_some h
 refine ae.ls (xc xz (iZ ad _ hx1)) ?_
 refine ae.ck aa 2 ⟨22,[(0,vl ab ad),(1,vs ap),(2,vi ag),(10,vb (!x1))],[]⟩ ?_
 refine ae.cu [(10,fun b=>b)] h (fun h=> ?_) fun h=> ?_
 refine ae.ck aa 4 ⟨22,[(0,vl ab ad),(1,vs ap),(2,vi ag),(14,vb true)],[]⟩ ?_
 refine ae.nil ?_
 obtain rfl:=inj h
 exact Le.ao
 refine ae.ck aa 1 ⟨22,[(0,vl ab ad),(1,vs ap),(2,vi ag),(10,vb false),(11,vs ap)],[]⟩ ?_
 obtain⟨x2,hx2,h⟩:=bind_some h
 refine ae.ls (xc jH (cO ap _ hx2)) ?_
 refine ae.ck aa 2 ⟨22,[(0,vl ab ad),(1,vs ap),(2,vi ag),(14,vb (!x2))],[]⟩ ?_
 refine ae.nil ?_
 obtain rfl:=inj h
 exact Le.ao
 refine aq h (fun h=> ?_) fun h=> ?_
 refine az aa ⟨22,[(6,vi 1)],[]⟩ ?_
 refine ak ?_
 obtain rfl:=inj h
 exact bS (aD (f1 fv))
 refine an ?_
 refine a8 ?_
 refine ai ?_
 refine sr ?_
 refine ae.ck aa 1 ⟨22,[(0,vl ab ad),(1,vs ap),(15,vi ag)],[]⟩ ?_
 obtain⟨x5,hx5,h⟩:=bind_some h
 refine ae.ls (xc mV (ef ag _ hx5)) ?_
 refine bU aa 1 ⟨22,[(0,vl ab ad),(1,vs ap),(17,vb (!x5))],[]⟩ ?_
 refine aq h (fun h=> ?_) fun h=> ?_
 refine az aa ⟨22,[(6,vi 2)],[]⟩ ?_
 refine ak ?_
 obtain rfl:=inj h
 exact bS (aD (f1 fv))
 refine an ?_
 refine a8 ?_
 refine ai ?_
 refine sr ?_
 refine ae.ck aa 2 ⟨22,[(18,vl ab ad),(19,vs ap)],[]⟩ ?_
 obtain⟨x6,hx6,h⟩:=bind_some h
 refine ae.ls (xc ky (cl ad ap _ hx6)) ?_
 refine bU aa 1 ⟨22,[(21,vb (decide (x6<0)))],[]⟩ ?_
 refine aq h (fun h=> ?_) fun h=> ?_
 refine az aa ⟨22,[(6,vi 4)],[]⟩ ?_
 refine ak ?_
 obtain rfl:=inj h
 exact bS (aD (f1 fv))
 refine an ?_
 refine a8 ?_
 refine az aa ⟨22,[(6,vi 0)],[]⟩ ?_
 refine ak ?_
 obtain rfl:=inj h
 exact aD (f1 fv)
theorem y5:a7 Tryz.prog 131:=aw Tryz.func131 (by kernel_rfl) rfl
noncomputable def iJ(aP:Place)(ag:Int):Option (Place):=
 (((iQ (aP.Names.length:Int) (fun(i3:Int) (s3:(List Name))=>((at' aP.Names i3).bind fun x7=>(bif(decide (x7.Years.From≤(bL x7.Years.To (aZ (ag - 1)))))then((dU s3 ([(Name.mk x7.Text x7.Language x7.Status (Span.mk x7.Years.From (bL x7.Years.To (aZ (ag - 1)))))]:List Name)).bind fun x8=>some x8)else some s3))) (fun(s3:(List Name))=>s3) 0 ([]:List Name))).bind fun(j1:(List Name))=>some (Place.mk aP.Code aP.Class (Span.mk aP.Years.From (bL aP.Years.To (aZ (ag - 1)))) j1))
theorem pd(aP:Place)(ag:Int)(r:Place)(h:iJ aP ag=some r):aF Tryz.prog 132 [.v (.agg (tc ab aP)),.v (vi ag)] ⟨[.part [vs r.Code,vi r.Class,vi r.Years.From,vi r.Years.To] [] (oa 169 5 af r.Names)],[],false⟩:=by
 refine ar Tryz.func132 rfl [(.cell 4 91)] rfl (fun r=>⟨[.part [vs r.Code,vi r.Class,vi r.Years.From,vi r.Years.To] [] (oa 169 5 af r.Names)],[],false⟩) (r:=r) ?_
 unfold iJ at h
 refine az aa ⟨59,[(1,vi ag),(2,.ref 2 0),(4,.ref 4 0)],[(2,.box (tc ab aP)),(4,.box [vs (ByteArray.mk #[]),vi 0,vi 0,vi 0,vl af ([]:List Name)])]⟩ ?_
 refine az aa ⟨59,[(1,vi ag),(2,.ref 2 0),(4,.ref 4 0),(5,.own 8)],[(2,.box (tc ab aP)),(4,.box [vs (ByteArray.mk #[]),vi 0,vi 0,vi 0,vl af ([]:List Name)]),(8,oa 169 5 af ([]:List Name))]⟩ ?_
 refine ai ?_
 refine az aa ⟨59,[(1,vi ag),(2,.ref 2 0),(4,.ref 4 0),(5,.own 8),(6,vi 0)],[(2,.box (tc ab aP)),(4,.box [vs (ByteArray.mk #[]),vi 0,vi 0,vi 0,vl af ([]:List Name)]),(8,oa 169 5 af ([]:List Name))]⟩ ?_
 refine bg h (fun j1=>⟨59,[(1,vi ag),(2,.ref 2 0),(4,.ref 4 0),(5,.own 5)],[(2,.box (tc ab aP)),(4,.box [vs (ByteArray.mk #[]),vi 0,vi 0,vi 0,vl af ([]:List Name)]),(5,oa 169 5 af j1)]⟩) (fun v2 h=> ?_) (fun j1 h=> ?_)
 refine ax (a:=v2) ?_
 refine a6 (r:=v2) (s:=(0,([]:List Name))) _ (fun s3=>⟨59,[(1,vi ag),(2,.ref 2 0),(4,.ref 4 0),(5,.own 5),(6,vi s3.1)],[(2,.box (tc ab aP)),(4,.box [vs (ByteArray.mk #[]),vi 0,vi 0,vi 0,vl af ([]:List Name)]),(5,oa 169 5 af s3.2)]⟩) _ (Le.rr [2,4,8] [(8,5)]) h (fun s3 v4 h=> ?_)
 refine ai ?_
 refine az aa ⟨59,[(1,vi ag),(2,.ref 2 0),(4,.ref 4 0),(5,.own 5),(6,vi s3.1),(13,vb (decide (s3.1<(aP.Names.length:Int))))],[(2,.box (tc ab aP)),(4,.box [vs (ByteArray.mk #[]),vi 0,vi 0,vi 0,vl af ([]:List Name)]),(5,oa 169 5 af s3.2)]⟩ ?_
 refine aq h (fun h=> ?_) fun h=> ?_
 refine an ?_
 refine a8 ?_
 refine ai ?_
 refine bg h (fun j5=>⟨59,[(1,vi ag),(2,.ref 2 0),(4,.ref 4 0),(5,.own 5),(6,vi s3.1)],[(2,.box (tc ab aP)),(4,.box [vs (ByteArray.mk #[]),vi 0,vi 0,vi 0,vl af ([]:List Name)]),(5,oa 169 5 af j5)]⟩) (fun v6 h=> ?_) (fun j5 h=> ?_)
 refine ax (a:=v6) ?_
 refine sr ?_
 refine ae.ck aa 3 ⟨59,[(1,vi ag),(2,.ref 2 0),(4,.ref 4 0),(5,.own 5),(6,vi s3.1),(17,vl af aP.Names),(18,vi s3.1)],[(2,.box (tc ab aP)),(4,.box [vs (ByteArray.mk #[]),vi 0,vi 0,vi 0,vl af ([]:List Name)]),(5,oa 169 5 af s3.2)]⟩ ?_
 obtain⟨x7,hx7,h⟩:=bind_some h
 refine ae.ls (aG (L:=aP.Names) (f:=af) (ti:=ej) (tj:=dq) (e:=169) (k:= .i64) aa rfl hx7) ?_
 refine bU aa 3 ⟨59,[(1,vi ag),(2,.ref 2 0),(4,.ref 4 0),(5,.own 5),(6,vi s3.1),(7,.ref 7 0)],[(2,.box (tc ab aP)),(4,.box [vs (ByteArray.mk #[]),vi 0,vi 0,vi 0,vl af ([]:List Name)]),(5,oa 169 5 af s3.2),(7,.box (tc af x7))]⟩ ?_
 refine sr ?_
 refine ae.ck aa 9 ⟨59,[(1,vi ag),(2,.ref 2 0),(4,.ref 4 0),(5,.own 5),(6,vi s3.1),(7,.ref 7 0),(23,vi x7.Years.From),(29,vi (bL x7.Years.To (aZ (ag - 1))))],[(2,.box (tc ab aP)),(4,.box [vs (ByteArray.mk #[]),vi 0,vi 0,vi 0,vl af ([]:List Name)]),(5,oa 169 5 af s3.2),(7,.box (tc af x7))]⟩ ?_
 refine ae.ls (bt (v:= .agg [vi x7.Years.From,vi (bL x7.Years.To (aZ (ag - 1)))]) aa rfl) ?_
 refine bU aa 2 ⟨59,[(1,vi ag),(2,.ref 2 0),(4,.ref 4 0),(5,.own 5),(6,vi s3.1),(7,.ref 7 0)],[(2,.box (tc ab aP)),(4,.box [vs (ByteArray.mk #[]),vi 0,vi 0,vi 0,vl af ([]:List Name)]),(5,oa 169 5 af s3.2),(7,.box [vs x7.Text,vs x7.Language,vi x7.Status,vi x7.Years.From,vi (bL x7.Years.To (aZ (ag - 1)))])]⟩ ?_
 refine az aa ⟨59,[(1,vi ag),(2,.ref 2 0),(4,.ref 4 0),(5,.own 5),(6,vi s3.1),(7,.ref 7 0),(38,vb (decide (x7.Years.From≤(bL x7.Years.To (aZ (ag - 1))))))],[(2,.box (tc ab aP)),(4,.box [vs (ByteArray.mk #[]),vi 0,vi 0,vi 0,vl af ([]:List Name)]),(5,oa 169 5 af s3.2),(7,.box [vs x7.Text,vs x7.Language,vi x7.Status,vi x7.Years.From,vi (bL x7.Years.To (aZ (ag - 1)))])]⟩ ?_
 refine aq h (fun h=> ?_) fun h=> ?_
 refine aE ?_
 refine ae.ck aa 3 ⟨59,[(1,vi ag),(2,.ref 2 0),(4,.ref 4 0),(6,vi s3.1),(39,.own 5),(41,.own 41)],[(2,.box (tc ab aP)),(4,.box [vs (ByteArray.mk #[]),vi 0,vi 0,vi 0,vl af ([]:List Name)]),(5,oa 169 5 af s3.2),(41,oa 169 5 af ([(Name.mk x7.Text x7.Language x7.Status (Span.mk x7.Years.From (bL x7.Years.To (aZ (ag - 1)))))]:List Name))]⟩ ?_
 obtain⟨x8,hx8,h⟩:=bind_some h
 refine ae.cf (bT (f:=af) (t:=89) (ti:=ej) (tj:=dq) (zs:=[.string (ByteArray.mk #[]),.string (ByteArray.mk #[]),.int .i64 0,.int .i64 0,.int .i64 0]) (e:=169) (m:=5) (d:=5) (xv:= .own 41) hx8 aa rfl rfl rfl rfl (dj (e:=169))) ?_
 refine ae.ck aa 1 ⟨59,[(1,vi ag),(2,.ref 2 0),(4,.ref 4 0),(5,.own 42),(6,vi s3.1)],[(2,.box (tc ab aP)),(4,.box [vs (ByteArray.mk #[]),vi 0,vi 0,vi 0,vl af ([]:List Name)]),(42,oa 169 5 af x8)]⟩ ?_
 refine ae.nil ?_
 obtain rfl:=inj h
 exact bY (fO (Le.rr [2,4,42] [(42,5)]))
 refine an ?_
 obtain rfl:=inj h
 exact bY (fO (Le.ao))
 refine aE ?_
 refine ae.ck aa 3 ⟨59,[(1,vi ag),(2,.ref 2 0),(4,.ref 4 0),(5,.own 5),(6,vi (aZ (s3.1+1)))],[(2,.box (tc ab aP)),(4,.box [vs (ByteArray.mk #[]),vi 0,vi 0,vi 0,vl af ([]:List Name)]),(5,oa 169 5 af j5)]⟩ ?_
 refine ae.nil ?_
 obtain rfl:=inj h
 exact cb (Le.ao)
 refine aO ?_
 obtain rfl:=inj h
 exact cH (cJ (cI (fO (Le.ao))))
 refine sr ?_
 refine ae.ck aa 13 ⟨59,[(4,.ref 4 0),(5,.own 5),(44,vs aP.Code),(46,vi aP.Class),(49,vi aP.Years.From),(55,vi (bL aP.Years.To (aZ (ag - 1))))],[(4,.box [vs (ByteArray.mk #[]),vi 0,vi 0,vi 0,vl af ([]:List Name)]),(5,oa 169 5 af j1)]⟩ ?_
 refine ae.ls (bt (v:= .agg [vi aP.Years.From,vi (bL aP.Years.To (aZ (ag - 1)))]) aa rfl) ?_
 refine ae.ck aa 1 ⟨59,[(4,.ref 4 0),(44,vs aP.Code),(46,vi aP.Class),(56,.agg [vi aP.Years.From,vi (bL aP.Years.To (aZ (ag - 1)))]),(57,.own 5)],[(4,.box [vs (ByteArray.mk #[]),vi 0,vi 0,vi 0,vl af ([]:List Name)]),(5,oa 169 5 af j1)]⟩ ?_
 refine ae.ls (bt (v:= .agg [vs aP.Code,vi aP.Class,vi aP.Years.From,vi (bL aP.Years.To (aZ (ag - 1))),.own 5]) aa rfl) ?_
 refine bU aa 1 ⟨59,[(4,.ref 4 0)],[(4,.box [vs aP.Code,vi aP.Class,vi aP.Years.From,vi (bL aP.Years.To (aZ (ag - 1))),.own 5]),(5,oa 169 5 af j1)]⟩ ?_
 refine ak ?_
 obtain rfl:=inj h
 exact aD (f1 (zM (d:=5) [vs aP.Code,vi aP.Class,vi aP.Years.From,vi (bL aP.Years.To (aZ (ag - 1)))] [] (dg aa (d:=4) (cs:=[vs aP.Code,vi aP.Class,vi aP.Years.From,vi (bL aP.Years.To (aZ (ag - 1))),.own 5]) (ti:=cD) (by kernel_rfl) (by kernel_rfl) (by kernel_rfl) (by kernel_rfl)) (by kernel_rfl) (b9 bu _) rfl rfl SV.dW SV.dW (by kernel_rfl)))
theorem y6:a7 Tryz.prog 132:=aw Tryz.func132 (by kernel_rfl) rfl
noncomputable def iK(ad:(List Place)):Option ((List Place)):=
 (((iQ (ad.length:Int) (fun(i3:Int) (s3:(List Place))=>((at' ad i3).bind fun x7=>((dU ([]:List Name) x7.Names).bind fun x8=>((dU s3 ([(Place.mk x7.Code x7.Class x7.Years x8)]:List Place)).bind fun x9=>some x9)))) (fun(s3:(List Place))=>s3) 0 ([]:List Place))).bind fun(j1:(List Place))=>some j1)
theorem pe(ad:(List Place))(r:(List Place))(h:iK ad=some r):aF Tryz.prog 84 [.v (vl ab ad)] ⟨[.deep 91 5 r.length [.flat,.flat,.flat,.flat,(.sl 169 5 [.flat,.flat,.flat,.flat,.flat])] (r.map ab)],[],false⟩:=by
 refine ar Tryz.func84 rfl [(.tmp 2)] rfl (fun r=>⟨[.deep 91 5 r.length [.flat,.flat,.flat,.flat,(.sl 169 5 [.flat,.flat,.flat,.flat,.flat])] (r.map ab)],[],false⟩) (r:=r) ?_
 unfold iK at h
 refine sr ?_
 refine ae.ck aa 1 ⟨27,[(2,.own 2),(0,vl ab ad)],[(2,oa 91 5 ab ([]:List Place))]⟩ ?_
 refine ae.le (Le.pM (d:=2) (e:=91) (m:=5) (ss:=[.flat,.flat,.flat,.flat,(.sl 169 5 [.flat,.flat,.flat,.flat,.flat])]) (by kernel_rfl) (by kernel_rfl)) ?_
 refine ae.nx ?_
 refine sr ?_
 refine ae.ck aa 1 ⟨27,[(6,.own 6),(2,.own 2),(0,vl ab ad)],[(6,oa 91 5 ab ([]:List Place)),(2,.deep 91 5 ([]:List Place).length [.flat,.flat,.flat,.flat,(.sl 169 5 [.flat,.flat,.flat,.flat,.flat])] (([]:List Place).map ab))]⟩ ?_
 refine ae.le (Le.pM (d:=6) (e:=91) (m:=5) (ss:=[.flat,.flat,.flat,.flat,(.sl 169 5 [.flat,.flat,.flat,.flat,.flat])]) (by kernel_rfl) (by kernel_rfl)) ?_
 refine bU aa 1 ⟨27,[(0,vl ab ad),(3,.own 6)],[(6,.deep 91 5 ([]:List Place).length [.flat,.flat,.flat,.flat,(.sl 169 5 [.flat,.flat,.flat,.flat,.flat])] (([]:List Place).map ab))]⟩ ?_
 refine ai ?_
 refine az aa ⟨27,[(0,vl ab ad),(3,.own 6),(4,vi 0)],[(6,.deep 91 5 ([]:List Place).length [.flat,.flat,.flat,.flat,(.sl 169 5 [.flat,.flat,.flat,.flat,.flat])] (([]:List Place).map ab))]⟩ ?_
 refine bg h (fun j1=>⟨27,[(3,.own 3)],[(3,.deep 91 5 j1.length [.flat,.flat,.flat,.flat,(.sl 169 5 [.flat,.flat,.flat,.flat,.flat])] (j1.map ab))]⟩) (fun v2 h=> ?_) (fun j1 h=> ?_)
 refine ax (a:=v2) ?_
 refine a6 (r:=v2) (s:=(0,([]:List Place))) _ (fun s3=>⟨27,[(0,vl ab ad),(3,.own 3),(4,vi s3.1)],[(3,.deep 91 5 s3.2.length [.flat,.flat,.flat,.flat,(.sl 169 5 [.flat,.flat,.flat,.flat,.flat])] (s3.2.map ab))]⟩) _ (Le.rr [6] [(6,3)]) h (fun s3 v4 h=> ?_)
 refine ai ?_
 refine az aa ⟨27,[(0,vl ab ad),(3,.own 3),(4,vi s3.1),(10,vb (decide (s3.1<(ad.length:Int))))],[(3,.deep 91 5 s3.2.length [.flat,.flat,.flat,.flat,(.sl 169 5 [.flat,.flat,.flat,.flat,.flat])] (s3.2.map ab))]⟩ ?_
 refine aq h (fun h=> ?_) fun h=> ?_
 refine an ?_
 refine a8 ?_
 refine ai ?_
 refine bg h (fun j5=>⟨27,[(0,vl ab ad),(3,.own 3),(4,vi s3.1)],[(3,.deep 91 5 j5.length [.flat,.flat,.flat,.flat,(.sl 169 5 [.flat,.flat,.flat,.flat,.flat])] (j5.map ab))]⟩) (fun v6 h=> ?_) (fun j5 h=> ?_)
 refine ax (a:=v6) ?_
 refine sr ?_
 refine ae.ck aa 2 ⟨27,[(0,vl ab ad),(3,.own 3),(4,vi s3.1),(13,vl ab ad),(14,vi s3.1)],[(3,.deep 91 5 s3.2.length [.flat,.flat,.flat,.flat,(.sl 169 5 [.flat,.flat,.flat,.flat,.flat])] (s3.2.map ab))]⟩ ?_
 obtain⟨x7,hx7,h⟩:=bind_some h
 refine ae.ls (aG (L:=ad) (f:=ab) (ti:=df) (tj:=cD) (e:=91) (k:= .i64) aa rfl hx7) ?_
 refine bU aa 3 ⟨27,[(0,vl ab ad),(3,.own 3),(4,vi s3.1),(5,.ref 5 0)],[(3,.deep 91 5 s3.2.length [.flat,.flat,.flat,.flat,(.sl 169 5 [.flat,.flat,.flat,.flat,.flat])] (s3.2.map ab)),(5,.box (tc ab x7))]⟩ ?_
 refine sr ?_
 refine ae.ck aa 3 ⟨27,[(0,vl ab ad),(3,.own 3),(4,vi s3.1),(5,.ref 5 0),(17,.own 17),(19,vl af x7.Names)],[(3,.deep 91 5 s3.2.length [.flat,.flat,.flat,.flat,(.sl 169 5 [.flat,.flat,.flat,.flat,.flat])] (s3.2.map ab)),(5,.box (tc ab x7)),(17,oa 169 5 af ([]:List Name))]⟩ ?_
 obtain⟨x8,hx8,h⟩:=bind_some h
 refine ae.cf (bT (f:=af) (t:=89) (ti:=ej) (tj:=dq) (zs:=[.string (ByteArray.mk #[]),.string (ByteArray.mk #[]),.int .i64 0,.int .i64 0,.int .i64 0]) (e:=169) (m:=5) (d:=17) (xv:=vl af x7.Names) hx8 aa rfl rfl rfl rfl (oI (fun _=>rfl))) ?_
 refine bU aa 2 ⟨27,[(0,vl ab ad),(3,.own 3),(4,vi s3.1),(5,.ref 5 0)],[(3,.deep 91 5 s3.2.length [.flat,.flat,.flat,.flat,(.sl 169 5 [.flat,.flat,.flat,.flat,.flat])] (s3.2.map ab)),(5,.box [vs x7.Code,vi x7.Class,vi x7.Years.From,vi x7.Years.To,.own 20]),(20,oa 169 5 af x8)]⟩ ?_
 refine aE ?_
 refine ae.ck aa 2 ⟨27,[(0,vl ab ad),(4,vi s3.1),(22,.own 3),(23,.agg [vs x7.Code,vi x7.Class,vi x7.Years.From,vi x7.Years.To,.own 20])],[(3,.deep 91 5 s3.2.length [.flat,.flat,.flat,.flat,(.sl 169 5 [.flat,.flat,.flat,.flat,.flat])] (s3.2.map ab)),(20,oa 169 5 af x8)]⟩ ?_
 refine ae.cf (nB (ti:=df) (tj:=cD) (e:=91) (m:=5) (zs:=[.string (ByteArray.mk #[]),.int .i64 0,.int .i64 0,.int .i64 0,.slice none 0 0]) (v:= .agg [vs x7.Code,vi x7.Class,vi x7.Years.From,vi x7.Years.To,.own 20]) (cs:=[vs x7.Code,vi x7.Class,vi x7.Years.From,vi x7.Years.To,.own 20]) (ss:=[.flat,.flat,.flat,.flat,(.sl 169 5 [.flat,.flat,.flat,.flat,.flat])]) (ts:=[.str x7.Code,.int .i64 x7.Class,.int .i64 x7.Years.From,.int .i64 x7.Years.To,.sl x8.length (x8.map af)]) (ds:=[20]) aa rfl rfl rfl (.cons _ _ _ [] _ _ _ _ (.flat (.str x7.Code) rfl) (.cons _ _ _ [] _ _ _ _ (.flat (.int .i64 x7.Class) rfl) (.cons _ _ _ [] _ _ _ _ (.flat (.int .i64 x7.Years.From) rfl) (.cons _ _ _ [] _ _ _ _ (.flat (.int .i64 x7.Years.To) rfl) (.cons _ _ _ [20] _ _ _ _ (pH (d:=20) (e:=169) (m:=5) (n:=x8.length) (es:=x8.map af) (ss:=[.flat,.flat,.flat,.flat,.flat]) (b9 bu _)) .nil (by decide)) (by decide)) (by decide)) (by decide)) (by decide))) ?_
 obtain⟨x9,hx9,h⟩:=bind_some h
 refine ae.cf (mq (f:=ab) (L:=s3.2) (M:=([(Place.mk x7.Code x7.Class x7.Years x8)]:List Place)) (t:=32) (ti:=df) (tj:=cD) (zs:=[.string (ByteArray.mk #[]),.int .i64 0,.int .i64 0,.int .i64 0,.slice none 0 0]) (e:=91) (m:=5) (d:=3) (dx:=24) (ss:=[.flat,.flat,.flat,.flat,(.sl 169 5 [.flat,.flat,.flat,.flat,.flat])]) hx9 aa rfl rfl rfl rfl) ?_
 refine ae.ck aa 1 ⟨27,[(0,vl ab ad),(3,.own 25),(4,vi s3.1)],[(25,.deep 91 5 x9.length [.flat,.flat,.flat,.flat,(.sl 169 5 [.flat,.flat,.flat,.flat,.flat])] (x9.map ab))]⟩ ?_
 refine ae.nil ?_
 obtain rfl:=inj h
 exact bY (fO (Le.rr [25] [(25,3)]))
 refine aE ?_
 refine ae.ck aa 3 ⟨27,[(0,vl ab ad),(3,.own 3),(4,vi (aZ (s3.1+1)))],[(3,.deep 91 5 j5.length [.flat,.flat,.flat,.flat,(.sl 169 5 [.flat,.flat,.flat,.flat,.flat])] (j5.map ab))]⟩ ?_
 refine ae.nil ?_
 obtain rfl:=inj h
 exact cb (Le.ao)
 refine aO ?_
 obtain rfl:=inj h
 exact cH (cJ (cI (fO (Le.ao))))
 refine az aa ⟨27,[(2,.own 3)],[(3,.deep 91 5 j1.length [.flat,.flat,.flat,.flat,(.sl 169 5 [.flat,.flat,.flat,.flat,.flat])] (j1.map ab))]⟩ ?_
 refine ak ?_
 obtain rfl:=inj h
 exact aD (f1 (wi (d:=3) (ix (by kernel_rfl)) (by kernel_rfl) (by kernel_rfl)))
theorem A3:a7 Tryz.prog 84:=aw Tryz.func84 (by kernel_rfl) rfl
noncomputable def eY(ad:(List Place))(ap:ByteArray)(ag:Int):Option ((List Place)×Int):=
 ((ia ad ap ag).bind fun x1=>(bif(x1 !=0)then some (([]:List Place),x1)else((bR ad ap).bind fun x2=>((at' ad x2).bind fun x3=>((cL x3 (aZ (ag - 1))).bind fun x4=>(bif(!x4)then some (([]:List Place),5)else((dU ([]:List Place) ad).bind fun x5=>((at' ad x2).bind fun x6=>((iJ x6 ag).bind fun x7=>((at' x5 x2).bind fun _=>((iK (List.set x5 (Int.toNat x2) x7)).bind fun x9=>some (x9,0))))))))))))
theorem nn(ad:(List Place))(ap:ByteArray)(ag:Int)(r:(List Place)×Int)(h:eY ad ap ag=some r):aF Tryz.prog 73 [.v (vl ab ad),.v (vs ap),.v (vi ag)] ⟨[.deep 91 5 r.1.length [.flat,.flat,.flat,.flat,(.sl 169 5 [.flat,.flat,.flat,.flat,.flat])] (r.1.map ab),.v (vi r.2)],[],false⟩:=by
 refine ar Tryz.func73 rfl [(.tmp 6),(.tmp 7)] rfl (fun r=>⟨[.deep 91 5 r.1.length [.flat,.flat,.flat,.flat,(.sl 169 5 [.flat,.flat,.flat,.flat,.flat])] (r.1.map ab),.v (vi r.2)],[],false⟩) (r:=r) ?_
 unfold eY at h
 refine az aa ⟨43,[(0,vl ab ad),(1,vs ap),(2,vi ag)],[]⟩ ?_
 refine sr ?_
 refine ae.ck aa 3 ⟨43,[(0,vl ab ad),(1,vs ap),(2,vi ag),(11,vl ab ad),(12,vs ap),(13,vi ag)],[]⟩ ?_
 obtain⟨x1,hx1,h⟩:=bind_some h
 refine ae.ls (xc y5 (og ad ap ag _ hx1)) ?_
 refine bU aa 1 ⟨43,[(0,vl ab ad),(1,vs ap),(2,vi ag),(8,vi x1)],[]⟩ ?_
 refine ai ?_
 refine az aa ⟨43,[(0,vl ab ad),(1,vs ap),(2,vi ag),(8,vi x1),(16,vb (x1 !=0))],[]⟩ ?_
 refine aq h (fun h=> ?_) fun h=> ?_
 refine az aa ⟨43,[(6,.own 6),(7,vi x1)],[(6,oa 91 5 ab ([]:List Place))]⟩ ?_
 refine cW (Le.pM (d:=6) (e:=91) (m:=5) (ss:=[.flat,.flat,.flat,.flat,(.sl 169 5 [.flat,.flat,.flat,.flat,.flat])]) (by kernel_rfl) (by kernel_rfl)) ?_
 refine ak ?_
 obtain rfl:=inj h
 exact bS (aD (f2 (wi (d:=6) (ix (by kernel_rfl)) (by kernel_rfl) (by kernel_rfl)) fv))
 refine an ?_
 refine a8 ?_
 refine sr ?_
 refine ae.ck aa 2 ⟨43,[(0,vl ab ad),(2,vi ag),(18,vl ab ad),(19,vs ap)],[]⟩ ?_
 obtain⟨x2,hx2,h⟩:=bind_some h
 refine ae.ls (xc ky (cl ad ap _ hx2)) ?_
 refine bU aa 1 ⟨43,[(0,vl ab ad),(2,vi ag),(9,vi x2)],[]⟩ ?_
 refine ai ?_
 refine sr ?_
 refine ae.ck aa 2 ⟨43,[(0,vl ab ad),(2,vi ag),(9,vi x2),(21,vl ab ad),(22,vi x2)],[]⟩ ?_
 obtain⟨x3,hx3,h⟩:=bind_some h
 refine ae.ls (aG (L:=ad) (f:=ab) (ti:=df) (tj:=cD) (e:=91) (k:= .i64) aa rfl hx3) ?_
 refine ae.ck aa 3 ⟨43,[(0,vl ab ad),(2,vi ag),(9,vi x2),(24,.agg (tc ab x3)),(26,vi (aZ (ag - 1)))],[]⟩ ?_
 obtain⟨x4,hx4,h⟩:=bind_some h
 refine ae.ls (xc mU (dA x3 (aZ (ag - 1)) _ hx4)) ?_
 refine bU aa 1 ⟨43,[(0,vl ab ad),(2,vi ag),(9,vi x2),(28,vb (!x4))],[]⟩ ?_
 refine aq h (fun h=> ?_) fun h=> ?_
 refine az aa ⟨43,[(6,.own 6),(7,vi 5)],[(6,oa 91 5 ab ([]:List Place))]⟩ ?_
 refine cW (Le.pM (d:=6) (e:=91) (m:=5) (ss:=[.flat,.flat,.flat,.flat,(.sl 169 5 [.flat,.flat,.flat,.flat,.flat])]) (by kernel_rfl) (by kernel_rfl)) ?_
 refine ak ?_
 obtain rfl:=inj h
 exact bS (aD (f2 (wi (d:=6) (ix (by kernel_rfl)) (by kernel_rfl) (by kernel_rfl)) fv))
 refine an ?_
 refine a8 ?_
 refine sr ?_
 refine ae.ck aa 2 ⟨43,[(0,vl ab ad),(2,vi ag),(9,vi x2),(29,.own 29),(30,vl ab ad)],[(29,oa 91 5 ab ([]:List Place))]⟩ ?_
 obtain⟨x5,hx5,h⟩:=bind_some h
 refine ae.cf (bT (f:=ab) (t:=32) (ti:=df) (tj:=cD) (zs:=[.string (ByteArray.mk #[]),.int .i64 0,.int .i64 0,.int .i64 0,.slice none 0 0]) (e:=91) (m:=5) (d:=29) (xv:=vl ab ad) hx5 aa rfl rfl rfl rfl (oI (fun _=>rfl))) ?_
 refine bU aa 1 ⟨43,[(0,vl ab ad),(2,vi ag),(9,vi x2),(10,.own 31)],[(31,oa 91 5 ab x5)]⟩ ?_
 refine sr ?_
 refine ae.ck aa 4 ⟨43,[(2,vi ag),(10,.own 31),(32,.own 31),(33,vi x2),(34,vl ab ad),(35,vi x2)],[(31,oa 91 5 ab x5)]⟩ ?_
 obtain⟨x6,hx6,h⟩:=bind_some h
 refine ae.ls (aG (L:=ad) (f:=ab) (ti:=df) (tj:=cD) (e:=91) (k:= .i64) aa rfl hx6) ?_
 refine ae.ck aa 2 ⟨43,[(10,.own 31),(32,.own 31),(33,vi x2),(37,.agg (tc ab x6)),(38,vi ag)],[(31,oa 91 5 ab x5)]⟩ ?_
 obtain⟨x7,hx7,h⟩:=bind_some h
 refine ae.ls (xc y6 (pd x6 ag _ hx7)) ?_
 obtain⟨x8,hx8,h⟩:=bind_some h
 refine ae.ls (bX (d:=31) (L:=x5) (f:=ab) (ti:=df) (tj:=cD) (e:=91) (e':=91) (m:=5) (k:= .i64) aa rfl hx8) ?_
 refine ae.le (Le.sY (d:=39) (e:=169) (m:=5) (n:=x7.Names.length) (es:=x7.Names.map af) (by kernel_rfl) (by kernel_rfl)) ?_
 refine ae.cf (iO (d:=31) (m:=5) (j:=0) (L:=x5) (f:=ab) (x:=x7) (z:=x8) (ti:=cD) (e:=91) (ts:=[.str x7.Code,.int .i64 x7.Class,.int .i64 x7.Years.From,.int .i64 x7.Years.To,.sl x7.Names.length (x7.Names.map af)]) (vs:=[vs x7.Code,vi x7.Class,vi x7.Years.From,vi x7.Years.To,vl af x7.Names]) (v:= .agg (tc ab x7)) aa rfl rfl hx8) ?_
 refine ae.nx ?_
 refine sr ?_
 refine ae.ck aa 1 ⟨43,[(41,.own 31)],[(31,oa 91 5 ab (List.set x5 (Int.toNat x2) x7))]⟩ ?_
 obtain⟨x9,hx9,h⟩:=bind_some h
 refine ae.ls (xc A3 (pe (List.set x5 (Int.toNat x2) x7) _ hx9)) ?_
 refine bU aa 2 ⟨43,[(6,.own 42),(7,vi 0)],[(42,.deep 91 5 x9.length [.flat,.flat,.flat,.flat,(.sl 169 5 [.flat,.flat,.flat,.flat,.flat])] (x9.map ab))]⟩ ?_
 refine ak ?_
 obtain rfl:=inj h
 exact aD (f2 (wi (d:=42) (ix (by kernel_rfl)) (by kernel_rfl) (by kernel_rfl)) fv)
theorem AX:a7 Tryz.prog 73:=aw Tryz.func73 (by kernel_rfl) rfl
noncomputable def gE(ad:(List au))(ap:ByteArray)(ag:Int):Option ((List au)):=
 (((iQ (ad.length:Int) (fun(i3:Int) (s3:(List au))=>((at' ad i3).bind fun x7=>(((bif((x7.Child.toList==ap.toList) || (x7.Parent.toList==ap.toList))then some (au.mk x7.Child x7.Parent (Span.mk x7.Years.From (bL x7.Years.To (aZ (ag - 1)))))else some x7)).bind fun(j8:au)=>(bif(decide (j8.Years.From≤j8.Years.To))then((dU s3 ([j8]:List au)).bind fun x10=>some x10)else some s3)))) (fun(s3:(List au))=>s3) 0 ([]:List au))).bind fun(j1:(List au))=>some j1)
theorem pf(ad:(List au))(ap:ByteArray)(ag:Int)(r:(List au))(h:gE ad ap ag=some r):aF Tryz.prog 74 [.v (vl ac ad),.v (vs ap),.v (vi ag)] ⟨[.own 85 4 r.length (r.map ac)],[],false⟩:=by
 refine ar Tryz.func74 rfl [(.tmp 6)] rfl (fun r=>⟨[.own 85 4 r.length (r.map ac)],[],false⟩) (r:=r) ?_
 unfold gE at h
 refine az aa ⟨54,[(0,vl ac ad),(1,vs ap),(2,vi ag)],[]⟩ ?_
 refine az aa ⟨54,[(0,vl ac ad),(1,vs ap),(2,vi ag),(7,.own 10)],[(10,oa 85 4 ac ([]:List au))]⟩ ?_
 refine ai ?_
 refine az aa ⟨54,[(0,vl ac ad),(1,vs ap),(2,vi ag),(7,.own 10),(8,vi 0)],[(10,oa 85 4 ac ([]:List au))]⟩ ?_
 refine bg h (fun j1=>⟨54,[(7,.own 7)],[(7,oa 85 4 ac j1)]⟩) (fun v2 h=> ?_) (fun j1 h=> ?_)
 refine ax (a:=v2) ?_
 refine a6 (r:=v2) (s:=(0,([]:List au))) _ (fun s3=>⟨54,[(0,vl ac ad),(1,vs ap),(2,vi ag),(7,.own 7),(8,vi s3.1)],[(7,oa 85 4 ac s3.2)]⟩) _ (Le.rr [10] [(10,7)]) h (fun s3 v4 h=> ?_)
 refine ai ?_
 refine az aa ⟨54,[(0,vl ac ad),(1,vs ap),(2,vi ag),(7,.own 7),(8,vi s3.1),(14,vb (decide (s3.1<(ad.length:Int))))],[(7,oa 85 4 ac s3.2)]⟩ ?_
 refine aq h (fun h=> ?_) fun h=> ?_
 refine an ?_
 refine a8 ?_
 refine ai ?_
 refine bg h (fun j5=>⟨54,[(0,vl ac ad),(1,vs ap),(2,vi ag),(7,.own 7),(8,vi s3.1)],[(7,oa 85 4 ac j5)]⟩) (fun v6 h=> ?_) (fun j5 h=> ?_)
 refine ax (a:=v6) ?_
 refine sr ?_
 refine ae.ck aa 2 ⟨54,[(0,vl ac ad),(1,vs ap),(2,vi ag),(7,.own 7),(8,vi s3.1),(17,vl ac ad),(18,vi s3.1)],[(7,oa 85 4 ac s3.2)]⟩ ?_
 obtain⟨x7,hx7,h⟩:=bind_some h
 refine ae.ls (aG (L:=ad) (f:=ac) (ti:=eh) (tj:=ei) (e:=85) (k:= .i64) aa rfl hx7) ?_
 refine bU aa 3 ⟨54,[(0,vl ac ad),(1,vs ap),(2,vi ag),(7,.own 7),(8,vi s3.1),(9,.ref 9 0)],[(7,oa 85 4 ac s3.2),(9,.box (tc ac x7))]⟩ ?_
 refine ai ?_
 refine ai ?_
 refine cQ ⟨54,[(0,vl ac ad),(1,vs ap),(2,vi ag),(7,.own 7),(8,vi s3.1),(9,.ref 9 0),(30,vb ((x7.Child.toList==ap.toList) || (x7.Parent.toList==ap.toList)))],[(7,oa 85 4 ac s3.2),(9,.box (tc ac x7))]⟩ ?_ ?_
 refine ae.ck aa 5 ⟨54,[(0,vl ac ad),(1,vs ap),(2,vi ag),(7,.own 7),(8,vi s3.1),(9,.ref 9 0),(25,vb (x7.Child.toList==ap.toList))],[(7,oa 85 4 ac s3.2),(9,.box (tc ac x7))]⟩ ?_
 generalize (x7.Child.toList==ap.toList)=bb
 cases bb
 refine ae.ck aa 5 ⟨54,[(0,vl ac ad),(1,vs ap),(2,vi ag),(7,.own 7),(8,vi s3.1),(9,.ref 9 0),(30,vb (x7.Parent.toList==ap.toList))],[(7,oa 85 4 ac s3.2),(9,.box (tc ac x7))]⟩ ?_
 exact ae.nil (Le.ao)
 refine ae.ck aa 5 ⟨54,[(0,vl ac ad),(1,vs ap),(2,vi ag),(7,.own 7),(8,vi s3.1),(9,.ref 9 0),(30,vb true)],[(7,oa 85 4 ac s3.2),(9,.box (tc ac x7))]⟩ ?_
 exact ae.nil (Le.ao)
 refine bg h (fun j8=>⟨54,[(0,vl ac ad),(1,vs ap),(2,vi ag),(7,.own 7),(8,vi s3.1),(9,.ref 9 0)],[(7,oa 85 4 ac s3.2),(9,.box (tc ac j8))]⟩) (fun v9 h=> ?_) (fun j8 h=> ?_)
 refine aq h (fun h=> ?_) fun h=> ?_
 refine aE ?_
 refine ae.ck aa 9 ⟨54,[(0,vl ac ad),(1,vs ap),(2,vi ag),(7,.own 7),(8,vi s3.1),(9,.ref 9 0),(33,vi x7.Years.From),(39,vi (bL x7.Years.To (aZ (ag - 1))))],[(7,oa 85 4 ac s3.2),(9,.box (tc ac x7))]⟩ ?_
 refine ae.ls (bt (v:= .agg [vi x7.Years.From,vi (bL x7.Years.To (aZ (ag - 1)))]) aa rfl) ?_
 refine ae.ck aa 2 ⟨54,[(0,vl ac ad),(1,vs ap),(2,vi ag),(7,.own 7),(8,vi s3.1),(9,.ref 9 0)],[(7,oa 85 4 ac s3.2),(9,.box [vs x7.Child,vs x7.Parent,vi x7.Years.From,vi (bL x7.Years.To (aZ (ag - 1)))])]⟩ ?_
 refine ae.nil ?_
 obtain rfl:=inj h
 exact fO (Le.ao)
 refine an ?_
 obtain rfl:=inj h
 exact fO (Le.ao)
 refine az aa ⟨54,[(0,vl ac ad),(1,vs ap),(2,vi ag),(7,.own 7),(8,vi s3.1),(9,.ref 9 0),(48,vb (decide (j8.Years.From≤j8.Years.To)))],[(7,oa 85 4 ac s3.2),(9,.box (tc ac j8))]⟩ ?_
 refine aq h (fun h=> ?_) fun h=> ?_
 refine aE ?_
 refine ae.ck aa 3 ⟨54,[(0,vl ac ad),(1,vs ap),(2,vi ag),(8,vi s3.1),(49,.own 7),(51,.own 51)],[(7,oa 85 4 ac s3.2),(51,oa 85 4 ac ([j8]:List au))]⟩ ?_
 obtain⟨x10,hx10,h⟩:=bind_some h
 refine ae.cf (bT (f:=ac) (t:=33) (ti:=eh) (tj:=ei) (zs:=[.string (ByteArray.mk #[]),.string (ByteArray.mk #[]),.int .i64 0,.int .i64 0]) (e:=85) (m:=4) (d:=7) (xv:= .own 51) hx10 aa rfl rfl rfl rfl (dj (e:=85))) ?_
 refine ae.ck aa 1 ⟨54,[(0,vl ac ad),(1,vs ap),(2,vi ag),(7,.own 52),(8,vi s3.1)],[(52,oa 85 4 ac x10)]⟩ ?_
 refine ae.nil ?_
 obtain rfl:=inj h
 exact bY (fO (Le.rr [52] [(52,7)]))
 refine an ?_
 obtain rfl:=inj h
 exact bY (fO (Le.ao))
 refine aE ?_
 refine ae.ck aa 3 ⟨54,[(0,vl ac ad),(1,vs ap),(2,vi ag),(7,.own 7),(8,vi (aZ (s3.1+1)))],[(7,oa 85 4 ac j5)]⟩ ?_
 refine ae.nil ?_
 obtain rfl:=inj h
 exact cb (Le.ao)
 refine aO ?_
 obtain rfl:=inj h
 exact cH (cJ (cI (fO (Le.ao))))
 refine az aa ⟨54,[(6,.own 7)],[(7,oa 85 4 ac j1)]⟩ ?_
 refine ak ?_
 obtain rfl:=inj h
 exact aD (f1 (fo dt))
theorem AY:a7 Tryz.prog 74:=aw Tryz.func74 (by kernel_rfl) rfl
end Go.Proofs.YtdejeagdkfokfaaGreatDoor.Sh
