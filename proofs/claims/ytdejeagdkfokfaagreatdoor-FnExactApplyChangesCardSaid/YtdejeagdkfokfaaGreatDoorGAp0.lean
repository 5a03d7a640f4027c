/- Typed functions and the calls that do what they say. -/
import Derived.Test.YtdejeagdkfokfaaGreatDoorSE
import Derived.Test.YtdejeagdkfokfaaGreatDoorKA
import Derived.Test.YtdejeagdkfokfaaGreatDoorKC
import Derived.Test.YtdejeagdkfokfaaGreatDoorKD
import Derived.Test.YtdejeagdkfokfaaGreatDoorKO
import Derived.Test.YtdejeagdkfokfaaGreatDoorKS
import Derived.Test.YtdejeagdkfokfaaGreatDoorSN
import Derived.Test.YtdejeagdkfokfaaGreatDoorSW
import Derived.Test.YtdejeagdkfokfaaGreatDoorSX
import Derived.Test.YtdejeagdkfokfaaGreatDoorH1
namespace Go.Proofs.YtdejeagdkfokfaaGreatDoor.Sh
open Go.RowKit
set_option maxRecDepth 100000
set_option maxHeartbeats 4000000
structure Span where
 From:Int
 To:Int
def gE(x:Span):List Tr:=[.int .i64 x.From,.int .i64 x.To]
structure Name where
 Text:ByteArray
 Language:ByteArray
 Status:Int
 Years:Span
def ar(x:Name):List Tr:=[.str x.Text,.str x.Language,.int .i64 x.Status,.int .i64 x.Years.From,.int .i64 x.Years.To]
theorem bE(x:Name): ∀t∈ar x,t.flat=true:=by simp[ar,Tr.flat]
structure Place where
 Code:ByteArray
 Class:Int
 Years:Span
 Names:(List Name)
def af(x:Place):List Tr:=[.str x.Code,.int .i64 x.Class,.int .i64 x.Years.From,.int .i64 x.Years.To,.sl x.Names.length (x.Names.map ar)]
structure ax where
 Child:ByteArray
 Parent:ByteArray
 Years:Span
def ah(x:ax):List Tr:=[.str x.Child,.str x.Parent,.int .i64 x.Years.From,.int .i64 x.Years.To]
theorem c8(x:ax): ∀t∈ah x,t.flat=true:=by simp[ah,Tr.flat]
structure World where
 Places:(List Place)
 Links:(List ax)
def aH(x:World):List Tr:=[.sl x.Places.length (x.Places.map af),.sl x.Links.length (x.Links.map ah)]
structure Change where
 Year:Int
 Kind:Int
 Code:ByteArray
 Other:ByteArray
 Language:ByteArray
 Text:ByteArray
def ak(x:Change):List Tr:=[.int .i64 x.Year,.int .i64 x.Kind,.str x.Code,.str x.Other,.str x.Language,.str x.Text]
theorem tz(x:Change): ∀t∈ak x,t.flat=true:=by simp[ak,Tr.flat]
def ti2:TI:=⟨1,8,.int .i64,[.int .i64 0]⟩
def ti3:TI:=⟨1,8,.int .i64,[.int .i64 0]⟩
def ti4:TI:=⟨1,1,.bool,[.bool false]⟩
def ti5:TI:=⟨1,1,.int .u8,[.int .u8 0]⟩
def gl:TI:=⟨1,16,.str,[.str (ByteArray.mk #[])]⟩
def Ay:TI:=⟨1,24,.slice 100,[.sl ([]:List Place).length (([]:List Place).map af)]⟩
def Az:TI:=⟨1,24,.slice 103,[.sl ([]:List ax).length (([]:List ax).map ah)]⟩
def Dz:TI:=⟨2,48,.struct [(0,22),(1,23)],[.sl ([]:List Place).length (([]:List Place).map af),.sl ([]:List ax).length (([]:List ax).map ah)]⟩
def AA:TI:=⟨6,80,.struct [(0,2),(1,2),(2,9),(3,9),(4,9),(5,9)],[.int .i64 0,.int .i64 0,.str (ByteArray.mk #[]),.str (ByteArray.mk #[]),.str (ByteArray.mk #[]),.str (ByteArray.mk #[])]⟩
def cP:TI:=⟨1,24,.slice 91,[.sl ([]:List Place).length (([]:List Place).map af)]⟩
def dq:TI:=⟨1,24,.slice 85,[.sl ([]:List ax).length (([]:List ax).map ah)]⟩
def jA:TI:=⟨2,48,.struct [(0,32),(1,33)],[.sl ([]:List Place).length (([]:List Place).map af),.sl ([]:List ax).length (([]:List ax).map ah)]⟩
def nb:TI:=⟨6,80,.struct [(0,2),(1,2),(2,9),(3,9),(4,9),(5,9)],[.int .i64 0,.int .i64 0,.str (ByteArray.mk #[]),.str (ByteArray.mk #[]),.str (ByteArray.mk #[]),.str (ByteArray.mk #[])]⟩
def DB:TI:=⟨2,16,.struct [(0,2),(1,2)],[.int .i64 0,.int .i64 0]⟩
def dr:TI:=⟨4,48,.struct [(0,9),(1,9),(2,83)],[.str (ByteArray.mk #[]),.str (ByteArray.mk #[]),.int .i64 0,.int .i64 0]⟩
def dh:TI:=⟨1,24,.slice 169,[.sl ([]:List Name).length (([]:List Name).map ar)]⟩
def cm:TI:=⟨5,64,.struct [(0,9),(1,2),(2,83),(4,89)],[.str (ByteArray.mk #[]),.int .i64 0,.int .i64 0,.int .i64 0,.sl ([]:List Name).length (([]:List Name).map ar)]⟩
def DC:TI:=⟨2,16,.struct [(0,2),(1,2)],[.int .i64 0,.int .i64 0]⟩
def AB:TI:=⟨1,24,.slice 190,[.sl ([]:List Name).length (([]:List Name).map ar)]⟩
def wj:TI:=⟨5,64,.struct [(0,9),(1,2),(2,97),(4,98)],[.str (ByteArray.mk #[]),.int .i64 0,.int .i64 0,.int .i64 0,.sl ([]:List Name).length (([]:List Name).map ar)]⟩
def wk:TI:=⟨4,48,.struct [(0,9),(1,9),(2,97)],[.str (ByteArray.mk #[]),.str (ByteArray.mk #[]),.int .i64 0,.int .i64 0]⟩
def cF:TI:=⟨1,24,.slice 9,[.sl ([]:List ByteArray).length (([]:List ByteArray).map eS)]⟩
def yl:TI:=⟨1,24,.slice 2,[.sl ([]:List Int).length (([]:List Int).map (eI .i64))]⟩
def cK:TI:=⟨5,56,.struct [(0,9),(1,9),(2,2),(3,83)],[.str (ByteArray.mk #[]),.str (ByteArray.mk #[]),.int .i64 0,.int .i64 0,.int .i64 0]⟩
def wl:TI:=⟨5,56,.struct [(0,9),(1,9),(2,2),(3,97)],[.str (ByteArray.mk #[]),.str (ByteArray.mk #[]),.int .i64 0,.int .i64 0,.int .i64 0]⟩
def Ed:TI:=⟨1,8,.int .u64,[.int .u64 0]⟩
def tbl:Tb:=[(2,ti2),(3,ti3),(4,ti4),(5,ti5),(9,gl),(22,Ay),(23,Az),(25,Dz),(27,AA),(32,cP),(33,dq),(35,jA),(37,nb),(83,DB),(85,dr),(89,dh),(91,cm),(97,DC),(98,AB),(100,wj),(103,wk),(106,cF),(144,yl),(169,cK),(190,wl),(209,Ed)]
theorem aa:a8 Tryz.prog tbl:=a8.cons ⟨by kernel_rfl,show Tryz.prog.underlying 2=some (.int .i64)from by kernel_rfl⟩ (a8.cons ⟨by kernel_rfl,show Tryz.prog.underlying 3=some (.int .i64)from by kernel_rfl⟩ (a8.cons ⟨by kernel_rfl,show Tryz.prog.underlying 4=some (.bool)from by kernel_rfl⟩ (a8.cons ⟨by kernel_rfl,show Tryz.prog.underlying 5=some (.int .u8)from by kernel_rfl⟩ (a8.cons ⟨by kernel_rfl,show Tryz.prog.underlying 9=some (.string)from by kernel_rfl⟩ (a8.cons ⟨by kernel_rfl,show Tryz.prog.underlying 22=some (.slice 100)from by kernel_rfl⟩ (a8.cons ⟨by kernel_rfl,show Tryz.prog.underlying 23=some (.slice 103)from by kernel_rfl⟩ (a8.cons ⟨by kernel_rfl,show structOf Tryz.prog 25=some [(0,22),(1,23)]from by kernel_rfl⟩ (a8.cons ⟨by kernel_rfl,show structOf Tryz.prog 27=some [(0,2),(1,2),(2,9),(3,9),(4,9),(5,9)]from by kernel_rfl⟩ (a8.cons ⟨by kernel_rfl,show Tryz.prog.underlying 32=some (.slice 91)from by kernel_rfl⟩ (a8.cons ⟨by kernel_rfl,show Tryz.prog.underlying 33=some (.slice 85)from by kernel_rfl⟩ (a8.cons ⟨by kernel_rfl,show structOf Tryz.prog 35=some [(0,32),(1,33)]from by kernel_rfl⟩ (a8.cons ⟨by kernel_rfl,show structOf Tryz.prog 37=some [(0,2),(1,2),(2,9),(3,9),(4,9),(5,9)]from by kernel_rfl⟩ (a8.cons ⟨by kernel_rfl,show structOf Tryz.prog 83=some [(0,2),(1,2)]from by kernel_rfl⟩ (a8.cons ⟨by kernel_rfl,show structOf Tryz.prog 85=some [(0,9),(1,9),(2,83)]from by kernel_rfl⟩ (a8.cons ⟨by kernel_rfl,show Tryz.prog.underlying 89=some (.slice 169)from by kernel_rfl⟩ (a8.cons ⟨by kernel_rfl,show structOf Tryz.prog 91=some [(0,9),(1,2),(2,83),(4,89)]from by kernel_rfl⟩ (a8.cons ⟨by kernel_rfl,show structOf Tryz.prog 97=some [(0,2),(1,2)]from by kernel_rfl⟩ (a8.cons ⟨by kernel_rfl,show Tryz.prog.underlying 98=some (.slice 190)from by kernel_rfl⟩ (a8.cons ⟨by kernel_rfl,show structOf Tryz.prog 100=some [(0,9),(1,2),(2,97),(4,98)]from by kernel_rfl⟩ (a8.cons ⟨by kernel_rfl,show structOf Tryz.prog 103=some [(0,9),(1,9),(2,97)]from by kernel_rfl⟩ (a8.cons ⟨by kernel_rfl,show Tryz.prog.underlying 106=some (.slice 9)from by kernel_rfl⟩ (a8.cons ⟨by kernel_rfl,show Tryz.prog.underlying 144=some (.slice 2)from by kernel_rfl⟩ (a8.cons ⟨by kernel_rfl,show structOf Tryz.prog 169=some [(0,9),(1,9),(2,2),(3,83)]from by kernel_rfl⟩ (a8.cons ⟨by kernel_rfl,show structOf Tryz.prog 190=some [(0,9),(1,9),(2,2),(3,97)]from by kernel_rfl⟩ (a8.cons ⟨by kernel_rfl,show Tryz.prog.underlying 209=some (.int .u64)from by kernel_rfl⟩ (a8.nil _))))))))))))))))))))))))))
theorem mixed:Tryz.prog.follows .mixedOrders=true:=by kernel_rfl
noncomputable def io(aA:Name)(bF:Int):Option (Int):=
 (bif(decide ((aO (bF -(aA.Text.size:Int)))<0))then some (-1)else(bif(decide ((aO ((aO (bF -(aA.Text.size:Int)))-(aA.Language.size:Int)))<0))then some (-1)else some (aO ((aO (bF -(aA.Text.size:Int)))-(aA.Language.size:Int)))))
theorem qb(aA:Name)(bF:Int)(r:Int)(h:io aA bF=some r):aJ Tryz.prog 171 [.v (.agg (tc ar aA)),.v (vi bF)] ⟨[.v (vi r)],[],false⟩:=by
 refine ap Tryz.func171 rfl [(.tmp 4)] rfl (fun r=>⟨[.v (vi r)],[],false⟩) (r:=r) ?_
 unfold io at h
 refine az aa [1,2] [2] ?_
 refine az aa [1,2] [2] ?_
 refine ac ?_
 refine az aa [1,2,11] [2] ?_
 refine ai h (fun h=> ?_) fun h=> ?_
 refine az aa [4] [] ?_
 refine ae ?_
 obtain rfl:=inj h
 exact bt (aD (f1 fv))
 refine ag ?_
 refine aZ ?_
 refine az aa [1] [] ?_
 refine ac ?_
 refine az aa [1,18] [] ?_
 refine ai h (fun h=> ?_) fun h=> ?_
 refine az aa [4] [] ?_
 refine ae ?_
 obtain rfl:=inj h
 exact bt (aD (f1 fv))
 refine ag ?_
 refine aZ ?_
 refine az aa [4] [] ?_
 refine ae ?_
 obtain rfl:=inj h
 exact aD (f1 fv)
theorem Bt:bg Tryz.prog 171:=au Tryz.func171 (by kernel_rfl) rfl
noncomputable def iN(aA:(List Name))(bF:Int):Option (Int):=
 (bif(decide ((aO (bF -(aA.length:Int)))<0))then some (-1)else(((cQ (aA.length:Int) (fun(i3:Int) (s3:Int)=>((at' aA i3).bind fun x7=>((io x7 s3).bind fun x8=>(bif(decide (x8<0))then some (.inr (.inr (-1)))else some (.inl x8))))) (fun(s3:Int)=> .inl s3) 0 (aO (bF -(aA.length:Int))))).bind (Sum.elim (fun(j1:Int)=>some j1) some)))
theorem pc(aA:(List Name))(bF:Int)(r:Int)(h:iN aA bF=some r):aJ Tryz.prog 124 [.v (vl ar aA),.v (vi bF)] ⟨[.v (vi r)],[],false⟩:=by
 refine ap Tryz.func124 rfl [(.tmp 4)] rfl (fun r=>⟨[.v (vi r)],[],false⟩) (r:=r) ?_
 unfold iN at h
 refine az aa [0,1] [] ?_
 refine az aa [0,1] [] ?_
 refine ac ?_
 refine az aa [0,1,11] [] ?_
 refine ai h (fun h=> ?_) fun h=> ?_
 refine az aa [4] [] ?_
 refine ae ?_
 obtain rfl:=inj h
 exact bt (aD (f1 fv))
 refine ag ?_
 refine aZ ?_
 refine ac ?_
 refine az aa [0,1,5] [] ?_
 refine bi (r:=r) h (fun j1=>⟨27,[(1,vi j1)],[]⟩) (fun v2 h=> ?_) (fun j1 h=> ?_)
 refine aw (a:=v2) ?_
 refine a7 (r:=v2) (s:=(0,(aO (bF -(aA.length:Int))))) _ (fun s3=>⟨27,[(0,vl ar aA),(1,vi s3.2),(5,vi s3.1)],[]⟩) _ (Le.an) h (fun s3 v4 h=> ?_)
 refine ac ?_
 refine az aa [0,1,5,15] [] ?_
 refine ai h (fun h=> ?_) fun h=> ?_
 refine ag ?_
 refine aZ ?_
 refine ac ?_
 refine bp (r:=v4) h (fun j5=>⟨27,[(0,vl ar aA),(1,vi j5),(5,vi s3.1)],[]⟩) (fun v6 h=> ?_) (fun j5 h=> ?_)
 refine aw (a:=v6) ?_
 refine sr ?_
 refine ab.cl aa 2 [0,1,5,18,19] [] ?_
 obtain⟨x7,hx7,h⟩:=bind_some h
 refine ab.ls (aG (L:=aA) (f:=ar) (ti:=AB) (tj:=wl) (e:=190) (k:= .i64) aa rfl hx7) ?_
 refine ab.cl aa 2 [0,5,21,22] [] ?_
 obtain⟨x8,hx8,h⟩:=bind_some h
 refine ab.ls (xc Bt (qb x7 s3.2 _ hx8)) ?_
 refine bQ aa 1 [0,1,5] [] ?_
 refine az aa [0,1,5,25] [] ?_
 refine ai h (fun h=> ?_) fun h=> ?_
 refine az aa [4] [] ?_
 refine ae ?_
 obtain rfl:=inj h
 exact bn (aU (aU (bn (aU (aD (f1 fv))))))
 refine ag ?_
 obtain rfl:=inj h
 exact bP (bZ (Le.an))
 refine aE ?_
 refine ab.cl aa 3 [0,1,5] [] ?_
 refine ab.nil ?_
 obtain rfl:=inj h
 exact bZ (Le.an)
 refine aQ ?_
 obtain rfl:=inj h
 exact cn (cr (cq (bZ (Le.an))))
 refine az aa [4] [] ?_
 refine ae ?_
 obtain rfl:=inj h
 exact aD (f1 fv)
theorem A9:bg Tryz.prog 124:=au Tryz.func124 (by kernel_rfl) rfl
noncomputable def gx(aA:Place)(bF:Int):Option (Int):=
 (bif(decide ((aO (bF -(aA.Code.size:Int)))<0))then some (-1)else((iN aA.Names (aO (bF -(aA.Code.size:Int)))).bind fun x1=>(bif(decide (x1<0))then some (-1)else some x1)))
theorem pd(aA:Place)(bF:Int)(r:Int)(h:gx aA bF=some r):aJ Tryz.prog 66 [.v (.agg (tc af aA)),.v (vi bF)] ⟨[.v (vi r)],[],false⟩:=by
 refine ap Tryz.func66 rfl [(.tmp 4)] rfl (fun r=>⟨[.v (vi r)],[],false⟩) (r:=r) ?_
 unfold gx at h
 refine az aa [1,2] [2] ?_
 refine az aa [1,2] [2] ?_
 refine ac ?_
 refine az aa [1,2,11] [2] ?_
 refine ai h (fun h=> ?_) fun h=> ?_
 refine az aa [4] [] ?_
 refine ae ?_
 obtain rfl:=inj h
 exact bt (aD (f1 fv))
 refine ag ?_
 refine aZ ?_
 refine sr ?_
 refine ab.cl aa 3 [13,14] [] ?_
 obtain⟨x1,hx1,h⟩:=bind_some h
 refine ab.ls (xc A9 (pc aA.Names (aO (bF -(aA.Code.size:Int))) _ hx1)) ?_
 refine bQ aa 1 [1] [] ?_
 refine ac ?_
 refine az aa [1,17] [] ?_
 refine ai h (fun h=> ?_) fun h=> ?_
 refine az aa [4] [] ?_
 refine ae ?_
 obtain rfl:=inj h
 exact bt (aD (f1 fv))
 refine ag ?_
 refine aZ ?_
 refine iy aa ⟨19,[(4,vi x1)],[]⟩ ?_
 refine ae ?_
 obtain rfl:=inj h
 exact aD (f1 fv)
theorem C5:bg Tryz.prog 66:=au Tryz.func66 (by kernel_rfl) rfl
noncomputable def gO(aA:(List Place))(bF:Int):Option (Int):=
 (bif(decide ((aO (bF -(aA.length:Int)))<0))then some (-1)else(((cQ (aA.length:Int) (fun(i3:Int) (s3:Int)=>((at' aA i3).bind fun x7=>((gx x7 s3).bind fun x8=>(bif(decide (x8<0))then some (.inr (.inr (-1)))else some (.inl x8))))) (fun(s3:Int)=> .inl s3) 0 (aO (bF -(aA.length:Int))))).bind (Sum.elim (fun(j1:Int)=>some j1) some)))
theorem oy(aA:(List Place))(bF:Int)(r:Int)(h:gO aA bF=some r):aJ Tryz.prog 31 [.v (vl af aA),.v (vi bF)] ⟨[.v (vi r)],[],false⟩:=by
 refine ap Tryz.func31 rfl [(.tmp 4)] rfl (fun r=>⟨[.v (vi r)],[],false⟩) (r:=r) ?_
 unfold gO at h
 refine az aa [0,1] [] ?_
 refine az aa [0,1] [] ?_
 refine ac ?_
 refine az aa [0,1,11] [] ?_
 refine ai h (fun h=> ?_) fun h=> ?_
 refine az aa [4] [] ?_
 refine ae ?_
 obtain rfl:=inj h
 exact bt (aD (f1 fv))
 refine ag ?_
 refine aZ ?_
 refine ac ?_
 refine az aa [0,1,5] [] ?_
 refine bi (r:=r) h (fun j1=>⟨27,[(1,vi j1)],[]⟩) (fun v2 h=> ?_) (fun j1 h=> ?_)
 refine aw (a:=v2) ?_
 refine a7 (r:=v2) (s:=(0,(aO (bF -(aA.length:Int))))) _ (fun s3=>⟨27,[(0,vl af aA),(1,vi s3.2),(5,vi s3.1)],[]⟩) _ (Le.an) h (fun s3 v4 h=> ?_)
 refine ac ?_
 refine az aa [0,1,5,15] [] ?_
 refine ai h (fun h=> ?_) fun h=> ?_
 refine ag ?_
 refine aZ ?_
 refine ac ?_
 refine bp (r:=v4) h (fun j5=>⟨27,[(0,vl af aA),(1,vi j5),(5,vi s3.1)],[]⟩) (fun v6 h=> ?_) (fun j5 h=> ?_)
 refine aw (a:=v6) ?_
 refine sr ?_
 refine ab.cl aa 2 [0,1,5,18,19] [] ?_
 obtain⟨x7,hx7,h⟩:=bind_some h
 refine ab.ls (aG (L:=aA) (f:=af) (ti:=Ay) (tj:=wj) (e:=100) (k:= .i64) aa rfl hx7) ?_
 refine ab.cl aa 2 [0,5,21,22] [] ?_
 obtain⟨x8,hx8,h⟩:=bind_some h
 refine ab.ls (xc C5 (pd x7 s3.2 _ hx8)) ?_
 refine bQ aa 1 [0,1,5] [] ?_
 refine az aa [0,1,5,25] [] ?_
 refine ai h (fun h=> ?_) fun h=> ?_
 refine az aa [4] [] ?_
 refine ae ?_
 obtain rfl:=inj h
 exact bn (aU (aU (bn (aU (aD (f1 fv))))))
 refine ag ?_
 obtain rfl:=inj h
 exact bP (bZ (Le.an))
 refine aE ?_
 refine ab.cl aa 3 [0,1,5] [] ?_
 refine ab.nil ?_
 obtain rfl:=inj h
 exact bZ (Le.an)
 refine aQ ?_
 obtain rfl:=inj h
 exact cn (cr (cq (bZ (Le.an))))
 refine az aa [4] [] ?_
 refine ae ?_
 obtain rfl:=inj h
 exact aD (f1 fv)
theorem CP:bg Tryz.prog 31:=au Tryz.func31 (by kernel_rfl) rfl
noncomputable def im(aA:ax)(bF:Int):Option (Int):=
 (bif(decide ((aO (bF -(aA.Child.size:Int)))<0))then some (-1)else(bif(decide ((aO ((aO (bF -(aA.Child.size:Int)))-(aA.Parent.size:Int)))<0))then some (-1)else some (aO ((aO (bF -(aA.Child.size:Int)))-(aA.Parent.size:Int)))))
theorem qa(aA:ax)(bF:Int)(r:Int)(h:im aA bF=some r):aJ Tryz.prog 67 [.v (.agg (tc ah aA)),.v (vi bF)] ⟨[.v (vi r)],[],false⟩:=by
 refine ap Tryz.func67 rfl [(.tmp 4)] rfl (fun r=>⟨[.v (vi r)],[],false⟩) (r:=r) ?_
 unfold im at h
 refine az aa [1,2] [2] ?_
 refine az aa [1,2] [2] ?_
 refine ac ?_
 refine az aa [1,2,11] [2] ?_
 refine ai h (fun h=> ?_) fun h=> ?_
 refine az aa [4] [] ?_
 refine ae ?_
 obtain rfl:=inj h
 exact bt (aD (f1 fv))
 refine ag ?_
 refine aZ ?_
 refine az aa [1] [] ?_
 refine ac ?_
 refine az aa [1,18] [] ?_
 refine ai h (fun h=> ?_) fun h=> ?_
 refine az aa [4] [] ?_
 refine ae ?_
 obtain rfl:=inj h
 exact bt (aD (f1 fv))
 refine ag ?_
 refine aZ ?_
 refine az aa [4] [] ?_
 refine ae ?_
 obtain rfl:=inj h
 exact aD (f1 fv)
theorem C6:bg Tryz.prog 67:=au Tryz.func67 (by kernel_rfl) rfl
noncomputable def iM(aA:(List ax))(bF:Int):Option (Int):=
 (bif(decide ((aO (bF -(aA.length:Int)))<0))then some (-1)else(((cQ (aA.length:Int) (fun(i3:Int) (s3:Int)=>((at' aA i3).bind fun x7=>((im x7 s3).bind fun x8=>(bif(decide (x8<0))then some (.inr (.inr (-1)))else some (.inl x8))))) (fun(s3:Int)=> .inl s3) 0 (aO (bF -(aA.length:Int))))).bind (Sum.elim (fun(j1:Int)=>some j1) some)))
theorem pb(aA:(List ax))(bF:Int)(r:Int)(h:iM aA bF=some r):aJ Tryz.prog 32 [.v (vl ah aA),.v (vi bF)] ⟨[.v (vi r)],[],false⟩:=by
 refine ap Tryz.func32 rfl [(.tmp 4)] rfl (fun r=>⟨[.v (vi r)],[],false⟩) (r:=r) ?_
 unfold iM at h
 refine az aa [0,1] [] ?_
 refine az aa [0,1] [] ?_
 refine ac ?_
 refine az aa [0,1,11] [] ?_
 refine ai h (fun h=> ?_) fun h=> ?_
 refine az aa [4] [] ?_
 refine ae ?_
 obtain rfl:=inj h
 exact bt (aD (f1 fv))
 refine ag ?_
 refine aZ ?_
 refine ac ?_
 refine az aa [0,1,5] [] ?_
 refine bi (r:=r) h (fun j1=>⟨27,[(1,vi j1)],[]⟩) (fun v2 h=> ?_) (fun j1 h=> ?_)
 refine aw (a:=v2) ?_
 refine a7 (r:=v2) (s:=(0,(aO (bF -(aA.length:Int))))) _ (fun s3=>⟨27,[(0,vl ah aA),(1,vi s3.2),(5,vi s3.1)],[]⟩) _ (Le.an) h (fun s3 v4 h=> ?_)
 refine ac ?_
 refine az aa [0,1,5,15] [] ?_
 refine ai h (fun h=> ?_) fun h=> ?_
 refine ag ?_
 refine aZ ?_
 refine ac ?_
 refine bp (r:=v4) h (fun j5=>⟨27,[(0,vl ah aA),(1,vi j5),(5,vi s3.1)],[]⟩) (fun v6 h=> ?_) (fun j5 h=> ?_)
 refine aw (a:=v6) ?_
 refine sr ?_
 refine ab.cl aa 2 [0,1,5,18,19] [] ?_
 obtain⟨x7,hx7,h⟩:=bind_some h
 refine ab.ls (aG (L:=aA) (f:=ah) (ti:=Az) (tj:=wk) (e:=103) (k:= .i64) aa rfl hx7) ?_
 refine ab.cl aa 2 [0,5,21,22] [] ?_
 obtain⟨x8,hx8,h⟩:=bind_some h
 refine ab.ls (xc C6 (qa x7 s3.2 _ hx8)) ?_
 refine bQ aa 1 [0,1,5] [] ?_
 refine az aa [0,1,5,25] [] ?_
 refine ai h (fun h=> ?_) fun h=> ?_
 refine az aa [4] [] ?_
 refine ae ?_
 obtain rfl:=inj h
 exact bn (aU (aU (bn (aU (aD (f1 fv))))))
 refine ag ?_
 obtain rfl:=inj h
 exact bP (bZ (Le.an))
 refine aE ?_
 refine ab.cl aa 3 [0,1,5] [] ?_
 refine ab.nil ?_
 obtain rfl:=inj h
 exact bZ (Le.an)
 refine aQ ?_
 obtain rfl:=inj h
 exact cn (cr (cq (bZ (Le.an))))
 refine az aa [4] [] ?_
 refine ae ?_
 obtain rfl:=inj h
 exact aD (f1 fv)
theorem CQ:bg Tryz.prog 32:=au Tryz.func32 (by kernel_rfl) rfl
noncomputable def iO(aA:World)(bF:Int):Option (Int):=
 ((gO aA.Places bF).bind fun x1=>(bif(decide (x1<0))then some (-1)else((iM aA.Links x1).bind fun x2=>(bif(decide (x2<0))then some (-1)else some x2))))
theorem pe(aA:World)(bF:Int)(r:Int)(h:iO aA bF=some r):aJ Tryz.prog 7 [.v (.agg (tc aH aA)),.v (vi bF)] ⟨[.v (vi r)],[],false⟩:=by
 refine ap Tryz.func7 rfl [(.tmp 4)] rfl (fun r=>⟨[.v (vi r)],[],false⟩) (r:=r) ?_
 unfold iO at h
 refine az aa [1,2] [2] ?_
 refine sr ?_
 refine ab.cl aa 3 [2,6,7] [2] ?_
 obtain⟨x1,hx1,h⟩:=bind_some h
 refine ab.ls (xc CP (oy aA.Places bF _ hx1)) ?_
 refine bQ aa 1 [1,2] [2] ?_
 refine ac ?_
 refine az aa [1,2,10] [2] ?_
 refine ai h (fun h=> ?_) fun h=> ?_
 refine az aa [4] [] ?_
 refine ae ?_
 obtain rfl:=inj h
 exact bt (aD (f1 fv))
 refine ag ?_
 refine aZ ?_
 refine sr ?_
 refine ab.cl aa 3 [12,13] [] ?_
 obtain⟨x2,hx2,h⟩:=bind_some h
 refine ab.ls (xc CQ (pb aA.Links x1 _ hx2)) ?_
 refine bQ aa 1 [1] [] ?_
 refine ac ?_
 refine az aa [1,16] [] ?_
 refine ai h (fun h=> ?_) fun h=> ?_
 refine iy aa ⟨18,[(4,vi (-1))],[]⟩ ?_
 refine ae ?_
 obtain rfl:=inj h
 exact bt (aD (f1 fv))
 refine ag ?_
 refine aZ ?_
 refine az aa [4] [] ?_
 refine ae ?_
 obtain rfl:=inj h
 exact aD (f1 fv)
theorem DS:bg Tryz.prog 7:=au Tryz.func7 (by kernel_rfl) rfl
noncomputable def fD(aA:Change)(bF:Int):Option (Int):=
 (bif(decide ((aO (bF -(aA.Code.size:Int)))<0))then some (-1)else(bif(decide ((aO ((aO (bF -(aA.Code.size:Int)))-(aA.Other.size:Int)))<0))then some (-1)else(bif(decide ((aO ((aO ((aO (bF -(aA.Code.size:Int)))-(aA.Other.size:Int)))-(aA.Language.size:Int)))<0))then some (-1)else(bif(decide ((aO ((aO ((aO ((aO (bF -(aA.Code.size:Int)))-(aA.Other.size:Int)))-(aA.Language.size:Int)))-(aA.Text.size:Int)))<0))then some (-1)else some (aO ((aO ((aO ((aO (bF -(aA.Code.size:Int)))-(aA.Other.size:Int)))-(aA.Language.size:Int)))-(aA.Text.size:Int)))))))
theorem ox(aA:Change)(bF:Int)(r:Int)(h:fD aA bF=some r):aJ Tryz.prog 8 [.v (.agg (tc ak aA)),.v (vi bF)] ⟨[.v (vi r)],[],false⟩:=by
 refine ap Tryz.func8 rfl [(.tmp 4)] rfl (fun r=>⟨[.v (vi r)],[],false⟩) (r:=r) ?_
 unfold fD at h
 refine az aa [1,2] [2] ?_
 refine az aa [1,2] [2] ?_
 refine ac ?_
 refine az aa [1,2,11] [2] ?_
 refine ai h (fun h=> ?_) fun h=> ?_
 refine az aa [4] [] ?_
 refine ae ?_
 obtain rfl:=inj h
 exact bt (aD (f1 fv))
 refine ag ?_
 refine aZ ?_
 refine az aa [1,2] [2] ?_
 refine ac ?_
 refine az aa [1,2,18] [2] ?_
 refine ai h (fun h=> ?_) fun h=> ?_
 refine az aa [4] [] ?_
 refine ae ?_
 obtain rfl:=inj h
 exact bt (aD (f1 fv))
 refine ag ?_
 refine aZ ?_
 refine az aa [1,2] [2] ?_
 refine ac ?_
 refine iy aa ⟨34,[(1,vi (aO ((aO ((aO (bF -(aA.Code.size:Int)))-(aA.Other.size:Int)))-(aA.Language.size:Int)))),(2,.ref 2 0),(25,vb (decide ((aO ((aO ((aO (bF -(aA.Code.size:Int)))-(aA.Other.size:Int)))-(aA.Language.size:Int)))<0)))],[(2,.box (tc ak aA))]⟩ ?_
 refine ai h (fun h=> ?_) fun h=> ?_
 refine az aa [4] [] ?_
 refine ae ?_
 obtain rfl:=inj h
 exact bt (aD (f1 fv))
 refine ag ?_
 refine aZ ?_
 refine az aa [1] [] ?_
 refine ac ?_
 refine az aa [1,32] [] ?_
 refine ai h (fun h=> ?_) fun h=> ?_
 refine az aa [4] [] ?_
 refine ae ?_
 obtain rfl:=inj h
 exact bt (aD (f1 fv))
 refine ag ?_
 refine aZ ?_
 refine az aa [4] [] ?_
 refine ae ?_
 obtain rfl:=inj h
 exact aD (f1 fv)
theorem DT:bg Tryz.prog 8:=au Tryz.func8 (by kernel_rfl) rfl
noncomputable def fE(aA:Change):Option (Change):=
 some aA
theorem oz(aA:Change)(r:Change)(h:fE aA=some r):aJ Tryz.prog 11 [.v (.agg (tc ak aA))] ⟨[.v (.agg (tc ak r))],[],false⟩:=by
 refine ap Tryz.func11 rfl [(.cell 2 37)] rfl (fun r=>⟨[.v (.agg (tc ak r))],[],false⟩) (r:=r) ?_
 unfold fE at h
 refine az aa [1,2] [1,2] ?_
 refine az aa [1,2,3] [1,2,3] ?_
 refine az aa [1,2,3] [1,2,3] ?_
 refine az aa [1,2,3] [1,2,3] ?_
 refine az aa [1,2,3] [1,2,3] ?_
 refine az aa [1,2,3] [1,2,3] ?_
 refine az aa [1,2,3] [1,2,3] ?_
 refine az aa [2,3] [2,3] ?_
 refine iy aa ⟨23,[(2,.ref 2 0)],[(2,.box (tc ak aA))]⟩ ?_
 refine ae ?_
 obtain rfl:=inj h
 exact aD (f1 (fc aa))
theorem CJ:bg Tryz.prog 11:=au Tryz.func11 (by kernel_rfl) rfl
noncomputable def da(aN:Int)(jD:Int)(fP:Int):Option (Bool):=
 some ((decide (aN≥jD))&&(decide (aN≤fP)))
theorem cL(aN:Int)(jD:Int)(fP:Int)(r:Bool)(h:da aN jD fP=some r):aJ Tryz.prog 166 [.v (vi aN),.v (vi jD),.v (vi fP)] ⟨[.v (vb r)],[],false⟩:=by
 refine ap Tryz.func166 rfl [(.tmp 6)] rfl (fun r=>⟨[.v (vb r)],[],false⟩) (r:=r) ?_
 unfold da at h
 refine az aa [0,1,2] [] ?_
 refine ac ?_
 refine dp ⟨15,[(6,vb ((decide (aN≥jD))&&(decide (aN≤fP))))],[]⟩ ?_ ?_
 refine ab.ck aa 4 ⟨15,[(0,vi aN),(2,vi fP),(10,vb (decide (aN≥jD)))],[]⟩ ?_
 generalize (decide (aN≥jD))=bb
 cases bb
 refine ab.cl aa 5 [6] [] ?_
 exact ab.nil (Le.an)
 refine ab.cl aa 5 [6] [] ?_
 exact ab.nil (Le.an)
 refine ae ?_
 obtain rfl:=inj h
 exact aD (f1 fv)
theorem ji:bg Tryz.prog 166:=au Tryz.func166 (by kernel_rfl) rfl
noncomputable def c5(aS:ByteArray):Option (Bool):=
 (((cQ (aS.size:Int) (fun(i3:Int) (_:Unit)=>((((lP aS i3).bind fun x7=>(bif(decide (x7<97))then some true else((lP aS i3).bind fun x8=>some (decide (x8>122)))))).bind fun(j9:Bool)=>(bif j9 then some (.inr (.inr false))else some (.inl ())))) (fun(_:Unit)=> .inl ()) 0 ())).bind (Sum.elim (fun(_:Unit)=>((da (aS.size:Int) 1 16).bind fun x11=>some x11)) some))
theorem c6(aS:ByteArray)(r:Bool)(h:c5 aS=some r):aJ Tryz.prog 165 [.v (vs aS)] ⟨[.v (vb r)],[],false⟩:=by
 refine ap Tryz.func165 rfl [(.tmp 2)] rfl (fun r=>⟨[.v (vb r)],[],false⟩) (r:=r) ?_
 unfold c5 at h
 refine az aa [0] [] ?_
 refine ac ?_
 refine az aa [0,3] [] ?_
 refine bi (r:=r) h (fun j1=>⟨23,[(0,vs aS)],[]⟩) (fun v2 h=> ?_) (fun j1 h=> ?_)
 refine aw (a:=v2) ?_
 refine a7 (r:=v2) (s:=(0,())) _ (fun s3=>⟨23,[(0,vs aS),(3,vi s3.1)],[]⟩) _ (Le.an) h (fun s3 v4 h=> ?_)
 refine ac ?_
 refine az aa [0,3,7] [] ?_
 refine ai h (fun h=> ?_) fun h=> ?_
 refine ag ?_
 refine aZ ?_
 refine ac ?_
 refine bp (r:=v4) h (fun j5=>⟨23,[(0,vs aS),(3,vi s3.1)],[]⟩) (fun v6 h=> ?_) (fun j5 h=> ?_)
 refine aw (a:=v6) ?_
 refine ac ?_
 refine bo h (fun j9=>⟨23,[(0,vs aS),(3,vi s3.1),(19,vb j9)],[]⟩) (fun v10 h=> ?_) (fun j9 h=> ?_)
 refine ab.cl aa 2 [0,3,10,11] [] ?_
 obtain⟨x7,hx7,h⟩:=bind_some h
 refine ab.ls (sc (ti:=gl) (k:= .i64) hx7 aa rfl) ?_
 refine ab.cl aa 2 [0,3,14] [] ?_
 refine ab.cu [(14,fun b=>b)] h (fun h=> ?_) fun h=> ?_
 refine ab.cl aa 5 [0,3,19] [] ?_
 refine ab.nil ?_
 obtain rfl:=inj h
 exact Le.an
 refine ab.cl aa 2 [0,3,14,15,16] [] ?_
 obtain⟨x8,hx8,h⟩:=bind_some h
 refine ab.ls (sc (ti:=gl) (k:= .i64) hx8 aa rfl) ?_
 refine ab.cl aa 2 [0,3,19] [] ?_
 refine ab.nil ?_
 obtain rfl:=inj h
 exact Le.an
 refine ai h (fun h=> ?_) fun h=> ?_
 refine az aa [2] [] ?_
 refine ae ?_
 obtain rfl:=inj h
 exact bn (aU (aU (bn (aU (aD (f1 fv))))))
 refine ag ?_
 obtain rfl:=inj h
 exact bP (bZ (Le.an))
 refine aE ?_
 refine ab.cl aa 3 [0,3] [] ?_
 refine ab.nil ?_
 obtain rfl:=inj h
 exact bZ (Le.an)
 refine aQ ?_
 obtain rfl:=inj h
 exact cn (cr (cq (bZ (Le.an))))
 refine sr ?_
 refine ab.cl aa 2 [21] [] ?_
 obtain⟨x11,hx11,h⟩:=bind_some h
 refine ab.ls (xc ji (cL (aS.size:Int) 1 16 _ hx11)) ?_
 refine ckn aa 1 ⟨23,[(2,vb x11)],[]⟩ ?_
 refine ae ?_
 obtain rfl:=inj h
 exact aD (f1 fv)
theorem kC:bg Tryz.prog 165:=au Tryz.func165 (by kernel_rfl) rfl
noncomputable def cY(aN:Int):Option (Bool):=
 ((da aN (-3000) 3000).bind fun x1=>some x1)
theorem eO(aN:Int)(r:Bool)(h:cY aN=some r):aJ Tryz.prog 177 [.v (vi aN)] ⟨[.v (vb r)],[],false⟩:=by
 refine ap Tryz.func177 rfl [(.tmp 2)] rfl (fun r=>⟨[.v (vb r)],[],false⟩) (r:=r) ?_
 unfold cY at h
 refine iy aa ⟨5,[(0,vi aN)],[]⟩ ?_
 refine sr ?_
 refine ab.ck aa 1 ⟨5,[(3,vi aN)],[]⟩ ?_
 obtain⟨x1,hx1,h⟩:=bind_some h
 refine ab.ls (xc ji (cL aN (-3000) 3000 _ hx1)) ?_
 refine ckn aa 1 ⟨5,[(2,vb x1)],[]⟩ ?_
 refine ae ?_
 obtain rfl:=inj h
 exact aD (f1 fv)
theorem n8:bg Tryz.prog 177:=au Tryz.func177 (by kernel_rfl) rfl
noncomputable def ga(aS:Span):Option (Bool):=
 ((((cY aS.From).bind fun x1=>(bif x1 then((cY aS.To).bind fun x2=>(bif x2 then some (decide (aS.From≤aS.To))else some false))else some false))).bind fun(j3:Bool)=>some j3)
theorem jK(aS:Span)(r:Bool)(h:ga aS=some r):aJ Tryz.prog 167 [.v (.agg (tc gE aS))] ⟨[.v (vb r)],[],false⟩:=by
 refine ap Tryz.func167 rfl [(.tmp 2)] rfl (fun r=>⟨[.v (vb r)],[],false⟩) (r:=r) ?_
 unfold ga at h
 refine az aa [1] [1] ?_
 refine ac ?_
 refine bo h (fun j3=>⟨18,[(2,vb j3)],[]⟩) (fun v4 h=> ?_) (fun j3 h=> ?_)
 refine ab.cl aa 2 [1,4] [1] ?_
 obtain⟨x1,hx1,h⟩:=bind_some h
 refine ab.ls (xc n8 (eO aS.From _ hx1)) ?_
 refine ab.cl aa 1 [1,6] [1] ?_
 refine ab.cu [(6,fun b=>b)] h (fun h=> ?_) fun h=> ?_
 refine ab.cl aa 2 [1,6,8] [1] ?_
 obtain⟨x2,hx2,h⟩:=bind_some h
 refine ab.ls (xc n8 (eO aS.To _ hx2)) ?_
 refine ab.cl aa 2 [1,11] [1] ?_
 refine ab.cu [(11,fun b=>b)] h (fun h=> ?_) fun h=> ?_
 refine ab.cl aa 7 [2] [] ?_
 refine ab.nil ?_
 obtain rfl:=inj h
 exact Le.an
 refine ab.cl aa 7 [2] [] ?_
 refine ab.nil ?_
 obtain rfl:=inj h
 exact Le.an
 refine ab.cl aa 12 [2] [] ?_
 refine ab.nil ?_
 obtain rfl:=inj h
 exact Le.an
 refine ae ?_
 obtain rfl:=inj h
 exact aD (f1 fv)
theorem tI:bg Tryz.prog 167:=au Tryz.func167 (by kernel_rfl) rfl
noncomputable def gS(aS:ByteArray)(aBy:Int):Option ((List ByteArray)):=
 (((ny (fun(i3:Int) (_:Int×(List ByteArray))=>(decide (i3≤(aS.size:Int)))) (fun(i3:Int) (s3:Int×(List ByteArray))=>(((bif(i3==(aS.size:Int))then some true else((lP aS i3).bind fun x7=>some (x7==aBy)))).bind fun(j8:Bool)=>(bif j8 then((rX aS s3.1 i3).bind fun x10=>((eg s3.2 ([x10]:List ByteArray)).bind fun x11=>some ((aO (i3+1)),x11)))else some (s3.1,s3.2)))) (fun(s3:Int×(List ByteArray))=>s3.2) 0 (0,([]:List ByteArray)))).bind fun(j1:(List ByteArray))=>some j1)
theorem oK(aS:ByteArray)(aBy:Int)(r:(List ByteArray))(h:gS aS aBy=some r):aJ Tryz.prog 219 [.v (vs aS),.v (.tr (.int .u8 aBy))] ⟨[.own 9 1 r.length (r.map eS)],[],false⟩:=by
 refine ap Tryz.func219 rfl [(.tmp 4)] rfl (fun r=>⟨[.own 9 1 r.length (r.map eS)],[],false⟩) (r:=r) ?_
 unfold gS at h
 refine az aa [0,1] [] ?_
 refine az aa [0,1,5] [8] ?_
 refine az aa [0,1,5,6] [8] ?_
 refine ac ?_
 refine az aa [0,1,5,6,7] [8] ?_
 refine ba h (fun j1=>⟨36,[(5,.own 5)],[(5,oa 9 1 eS j1)]⟩) (fun v2 h=> ?_) (fun j1 h=> ?_)
 refine aw (a:=v2) ?_
 refine a7 (r:=v2) (s:=(0,0,([]:List ByteArray))) _ (fun s3=>⟨36,[(0,vs aS),(1,.tr (.int .u8 aBy)),(5,.own 5),(6,vi s3.2.1),(7,vi s3.1)],[(5,oa 9 1 eS s3.2.2)]⟩) _ (Le.rr [8] [(8,5)]) h (fun s3 v4 h=> ?_)
 refine ac ?_
 refine az aa [0,1,5,6,7,12] [5] ?_
 refine ai h (fun h=> ?_) fun h=> ?_
 refine ag ?_
 refine aZ ?_
 refine ac ?_
 refine ba h (fun j5=>⟨36,[(0,vs aS),(1,.tr (.int .u8 aBy)),(5,.own 5),(6,vi j5.1),(7,vi s3.1)],[(5,oa 9 1 eS j5.2)]⟩) (fun v6 h=> ?_) (fun j5 h=> ?_)
 refine aw (a:=v6) ?_
 refine ac ?_
 refine bo h (fun j8=>⟨36,[(0,vs aS),(1,.tr (.int .u8 aBy)),(5,.own 5),(6,vi s3.2.1),(7,vi s3.1),(25,vb j8)],[(5,oa 9 1 eS s3.2.2)]⟩) (fun v9 h=> ?_) (fun j8 h=> ?_)
 refine ab.cl aa 5 [0,1,5,6,7,19] [5] ?_
 refine ab.cu [(19,fun b=>b)] h (fun h=> ?_) fun h=> ?_
 refine ab.cl aa 6 [0,1,5,6,7,25] [5] ?_
 refine ab.nil ?_
 obtain rfl:=inj h
 exact Le.an
 refine ab.cl aa 2 [0,1,5,6,7,19,20,21] [5] ?_
 obtain⟨x7,hx7,h⟩:=bind_some h
 refine ab.ls (sc (ti:=gl) (k:= .i64) hx7 aa rfl) ?_
 refine ab.cl aa 3 [0,1,5,6,7,25] [5] ?_
 refine ab.nil ?_
 obtain rfl:=inj h
 exact Le.an
 refine ai h (fun h=> ?_) fun h=> ?_
 refine sr ?_
 refine ab.cl aa 4 [0,1,7,26,27,28,29] [5] ?_
 obtain⟨x10,hx10,h⟩:=bind_some h
 refine ab.ls (Eg (ti:=gl) hx10 aa rfl) ?_
 refine ab.cl aa 1 [0,1,7,26,31] [5,31] ?_
 obtain⟨x11,hx11,h⟩:=bind_some h
 refine ab.bs (bY (f:=eS) (t:=106) (ti:=cF) (tj:=gl) (zs:=[.string (ByteArray.mk #[])]) (e:=9) (m:=1) (d:=5) (xv:= .own 31) hx11 aa rfl rfl rfl rfl (dI (e:=9))) ?_
 refine bQ aa 1 [0,1,5,7] [32] ?_
 refine aE ?_
 refine ab.cl aa 3 [0,1,5,6,7] [32] ?_
 refine ab.nil ?_
 obtain rfl:=inj h
 exact bP (eW (Le.rr [32] [(32,5)]))
 refine ag ?_
 obtain rfl:=inj h
 exact bP (eW (Le.an))
 refine aE ?_
 refine ab.ck aa 3 ⟨36,[(0,vs aS),(1,.tr (.int .u8 aBy)),(5,.own 5),(6,vi j5.1),(7,vi (aO (s3.1+1)))],[(5,oa 9 1 eS j5.2)]⟩ ?_
 refine ab.nil ?_
 obtain rfl:=inj h
 exact bZ (Le.an)
 refine aQ ?_
 obtain rfl:=inj h
 exact cn (cr (cq (eW (Le.an))))
 refine az aa [4] [5] ?_
 refine ae ?_
 obtain rfl:=inj h
 exact aD (f1 (fo fK))
theorem BS:bg Tryz.prog 219:=au Tryz.func219 (by kernel_rfl) rfl
noncomputable def gb(aS:ByteArray):Option ((List ByteArray)×Bool):=
 ((gS aS 32).bind fun x1=>(((cQ (x1.length:Int) (fun(i4:Int) (_:Unit)=>((at' x1 i4).bind fun x8=>((c5 x8).bind fun x9=>(bif(!x9)then some (.inr (.inr (([]:List ByteArray),false)))else some (.inl ()))))) (fun(_:Unit)=> .inl ()) 0 ())).bind (Sum.elim (fun(_:Unit)=>some (x1,(decide ((x1.length:Int)≤8)))) some)))
theorem nK(aS:ByteArray)(r:(List ByteArray)×Bool)(h:gb aS=some r):aJ Tryz.prog 203 [.v (vs aS)] ⟨[.own 9 1 r.1.length (r.1.map eS),.v (vb r.2)],[],false⟩:=by
 refine ap Tryz.func203 rfl [(.tmp 2),(.tmp 3)] rfl (fun r=>⟨[.own 9 1 r.1.length (r.1.map eS),.v (vb r.2)],[],false⟩) (r:=r) ?_
 unfold gb at h
 refine az aa [0] [] ?_
 refine sr ?_
 refine ab.cl aa 1 [6] [] ?_
 obtain⟨x1,hx1,h⟩:=bind_some h
 refine ab.ls (xc BS (oK aS 32 _ hx1)) ?_
 refine bQ aa 1 [4] [7] ?_
 refine ac ?_
 refine az aa [4,5] [7] ?_
 refine bi (r:=r) h (fun j2=>⟨24,[(4,.own 4)],[(4,oa 9 1 eS x1)]⟩) (fun v3 h=> ?_) (fun j2 h=> ?_)
 refine aw (a:=v3) ?_
 refine a7 (r:=v3) (s:=(0,())) _ (fun s4=>⟨24,[(4,.own 4),(5,vi s4.1)],[(4,oa 9 1 eS x1)]⟩) _ (Le.rr [7] [(7,4)]) h (fun s4 v5 h=> ?_)
 refine ac ?_
 refine az aa [4,5,11] [4] ?_
 refine ai h (fun h=> ?_) fun h=> ?_
 refine ag ?_
 refine aZ ?_
 refine ac ?_
 refine bp (r:=v5) h (fun j6=>⟨24,[(4,.own 4),(5,vi s4.1)],[(4,oa 9 1 eS x1)]⟩) (fun v7 h=> ?_) (fun j6 h=> ?_)
 refine aw (a:=v7) ?_
 refine sr ?_
 refine ab.cl aa 2 [4,5,14,15] [4] ?_
 obtain⟨x8,hx8,h⟩:=bind_some h
 refine ab.ls (bm (d:=4) (L:=x1) (f:=eS) (ti:=cF) (tj:=gl) (e:=9) (e':=9) (m:=1) (k:= .i64) aa rfl hx8) ?_
 refine ab.ls (dB (d:=4) (m:=1) (j:=0) (L:=x1) (f:=eS) (ti:=gl) (e:=9) (v:=vs x8) aa rfl hx8) ?_
 obtain⟨x9,hx9,h⟩:=bind_some h
 refine ab.ls (xc kC (c6 x8 _ hx9)) ?_
 refine bQ aa 1 [4,5,19] [4] ?_
 refine ai h (fun h=> ?_) fun h=> ?_
 refine az aa [2,3] [2] ?_
 refine ae ?_
 obtain rfl:=inj h
 exact bn (aU (aU (bn (aU (aD (f2 (fo fK) fv))))))
 refine ag ?_
 obtain rfl:=inj h
 exact bP (bZ (Le.an))
 refine aE ?_
 refine ab.cl aa 3 [4,5] [4] ?_
 refine ab.nil ?_
 obtain rfl:=inj h
 exact bZ (Le.an)
 refine aQ ?_
 obtain rfl:=inj h
 exact cn (cr (cq (bZ (Le.an))))
 refine az aa [2,3] [4] ?_
 refine ae ?_
 obtain rfl:=inj h
 exact aD (f2 (fo fK) fv)
theorem BM:bg Tryz.prog 203:=au Tryz.func203 (by kernel_rfl) rfl
noncomputable def ep(aS:ByteArray):Option (Bool):=
 ((gb aS).bind fun x1=>some x1.2)
theorem iT(aS:ByteArray)(r:Bool)(h:ep aS=some r):aJ Tryz.prog 173 [.v (vs aS)] ⟨[.v (vb r)],[],false⟩:=by
 refine ap Tryz.func173 rfl [(.tmp 2)] rfl (fun r=>⟨[.v (vb r)],[],false⟩) (r:=r) ?_
 unfold ep at h
 refine az aa [0] [] ?_
 refine sr ?_
 refine ab.cl aa 1 [6] [] ?_
 obtain⟨x1,hx1,h⟩:=bind_some h
 refine ab.ls (xc BM (nK aS _ hx1)) ?_
 refine bQ aa 5 [4] [] ?_
 refine az aa [2] [] ?_
 refine ae ?_
 obtain rfl:=inj h
 exact aD (f1 fv)
theorem tK:bg Tryz.prog 173:=au Tryz.func173 (by kernel_rfl) rfl
noncomputable def jl(aS:ByteArray)(jD:Int)(fP:Int):Option (Bool):=
 (((cQ (aS.size:Int) (fun(i3:Int) (_:Unit)=>((((lP aS i3).bind fun x7=>(bif(decide (x7<97))then some true else((lP aS i3).bind fun x8=>some (decide (x8>122)))))).bind fun(j9:Bool)=>(bif j9 then some (.inr (.inr false))else some (.inl ())))) (fun(_:Unit)=> .inl ()) 0 ())).bind (Sum.elim (fun(_:Unit)=>((da (aS.size:Int) jD fP).bind fun x11=>some x11)) some))
theorem oL(aS:ByteArray)(jD:Int)(fP:Int)(r:Bool)(h:jl aS jD fP=some r):aJ Tryz.prog 202 [.v (vs aS),.v (vi jD),.v (vi fP)] ⟨[.v (vb r)],[],false⟩:=by
 refine ap Tryz.func202 rfl [(.tmp 6)] rfl (fun r=>⟨[.v (vb r)],[],false⟩) (r:=r) ?_
 unfold jl at h
 refine az aa [0,1,2] [] ?_
 refine ac ?_
 refine az aa [0,1,2,7] [] ?_
 refine bi (r:=r) h (fun j1=>⟨29,[(0,vs aS),(1,vi jD),(2,vi fP)],[]⟩) (fun v2 h=> ?_) (fun j1 h=> ?_)
 refine aw (a:=v2) ?_
 refine a7 (r:=v2) (s:=(0,())) _ (fun s3=>⟨29,[(0,vs aS),(1,vi jD),(2,vi fP),(7,vi s3.1)],[]⟩) _ (Le.an) h (fun s3 v4 h=> ?_)
 refine ac ?_
 refine az aa [0,1,2,7,11] [] ?_
 refine ai h (fun h=> ?_) fun h=> ?_
 refine ag ?_
 refine aZ ?_
 refine ac ?_
 refine bp (r:=v4) h (fun j5=>⟨29,[(0,vs aS),(1,vi jD),(2,vi fP),(7,vi s3.1)],[]⟩) (fun v6 h=> ?_) (fun j5 h=> ?_)
 refine aw (a:=v6) ?_
 refine ac ?_
 refine bo h (fun j9=>⟨29,[(0,vs aS),(1,vi jD),(2,vi fP),(7,vi s3.1),(23,vb j9)],[]⟩) (fun v10 h=> ?_) (fun j9 h=> ?_)
 refine ab.cl aa 2 [0,1,2,7,14,15] [] ?_
 obtain⟨x7,hx7,h⟩:=bind_some h
 refine ab.ls (sc (ti:=gl) (k:= .i64) hx7 aa rfl) ?_
 refine ab.cl aa 2 [0,1,2,7,18] [] ?_
 refine ab.cu [(18,fun b=>b)] h (fun h=> ?_) fun h=> ?_
 refine ab.cl aa 5 [0,1,2,7,23] [] ?_
 refine ab.nil ?_
 obtain rfl:=inj h
 exact Le.an
 refine ab.cl aa 2 [0,1,2,7,18,19,20] [] ?_
 obtain⟨x8,hx8,h⟩:=bind_some h
 refine ab.ls (sc (ti:=gl) (k:= .i64) hx8 aa rfl) ?_
 refine ab.cl aa 2 [0,1,2,7,23] [] ?_
 refine ab.nil ?_
 obtain rfl:=inj h
 exact Le.an
 refine ai h (fun h=> ?_) fun h=> ?_
 refine az aa [6] [] ?_
 refine ae ?_
 obtain rfl:=inj h
 exact bn (aU (aU (bn (aU (aD (f1 fv))))))
 refine ag ?_
 obtain rfl:=inj h
 exact bP (bZ (Le.an))
 refine aE ?_
 refine ab.cl aa 3 [0,1,2,7] [] ?_
 refine ab.nil ?_
 obtain rfl:=inj h
 exact bZ (Le.an)
 refine aQ ?_
 obtain rfl:=inj h
 exact cn (cr (cq (bZ (Le.an))))
 refine sr ?_
 refine ab.cl aa 4 [25,26,27] [] ?_
 obtain⟨x11,hx11,h⟩:=bind_some h
 refine ab.ls (xc ji (cL (aS.size:Int) jD fP _ hx11)) ?_
 refine ckn aa 1 ⟨29,[(6,vb x11)],[]⟩ ?_
 refine ae ?_
 obtain rfl:=inj h
 exact aD (f1 fv)
theorem BL:bg Tryz.prog 202:=au Tryz.func202 (by kernel_rfl) rfl
noncomputable def db(aS:ByteArray):Option (Bool):=
 ((jl aS 2 3).bind fun x1=>some x1)
theorem gf(aS:ByteArray)(r:Bool)(h:db aS=some r):aJ Tryz.prog 172 [.v (vs aS)] ⟨[.v (vb r)],[],false⟩:=by
 refine ap Tryz.func172 rfl [(.tmp 2)] rfl (fun r=>⟨[.v (vb r)],[],false⟩) (r:=r) ?_
 unfold db at h
 refine iy aa ⟨5,[(0,vs aS)],[]⟩ ?_
 refine sr ?_
 refine ab.ck aa 1 ⟨5,[(3,vs aS)],[]⟩ ?_
 obtain⟨x1,hx1,h⟩:=bind_some h
 refine ab.ls (xc BL (oL aS 2 3 _ hx1)) ?_
 refine ckn aa 1 ⟨5,[(2,vb x1)],[]⟩ ?_
 refine ae ?_
 obtain rfl:=inj h
 exact aD (f1 fv)
theorem tJ:bg Tryz.prog 172:=au Tryz.func172 (by kernel_rfl) rfl
noncomputable def jx(aN:Name):Option (Bool):=
 ((((ep aN.Text).bind fun x1=>(bif x1 then((db aN.Language).bind fun x2=>(bif x2 then((da aN.Status 0 2).bind fun x3=>(bif x3 then((ga aN.Years).bind fun x4=>some x4)else some false))else some false))else some false))).bind fun(j5:Bool)=>some j5)
theorem qt(aN:Name)(r:Bool)(h:jx aN=some r):aJ Tryz.prog 201 [.v (.agg (tc ar aN))] ⟨[.v (vb r)],[],false⟩:=by
 refine ap Tryz.func201 rfl [(.tmp 2)] rfl (fun r=>⟨[.v (vb r)],[],false⟩) (r:=r) ?_
 unfold jx at h
 refine az aa [1] [1] ?_
 refine ac ?_
 refine bo h (fun j5=>⟨21,[(2,vb j5)],[]⟩) (fun v6 h=> ?_) (fun j5 h=> ?_)
 refine ab.cl aa 2 [1,4] [1] ?_
 obtain⟨x1,hx1,h⟩:=bind_some h
 refine ab.ls (xc tK (iT aN.Text _ hx1)) ?_
 refine ab.cl aa 1 [1,6] [1] ?_
 refine ab.cu [(6,fun b=>b)] h (fun h=> ?_) fun h=> ?_
 refine ab.cl aa 2 [1,6,8] [1] ?_
 obtain⟨x2,hx2,h⟩:=bind_some h
 refine ab.ls (xc tJ (gf aN.Language _ hx2)) ?_
 refine ab.cl aa 2 [1,11] [1] ?_
 refine ab.cu [(11,fun b=>b)] h (fun h=> ?_) fun h=> ?_
 refine ab.cl aa 2 [1,11,13] [1] ?_
 obtain⟨x3,hx3,h⟩:=bind_some h
 refine ab.ls (xc ji (cL aN.Status 0 2 _ hx3)) ?_
 refine ab.cl aa 2 [1,16] [1] ?_
 refine ab.cu [(16,fun b=>b)] h (fun h=> ?_) fun h=> ?_
 refine ab.cl aa 2 [16,18] [] ?_
 obtain⟨x4,hx4,h⟩:=bind_some h
 refine ab.ls (xc tI (jK aN.Years _ hx4)) ?_
 refine ab.cl aa 2 [2] [] ?_
 refine ab.nil ?_
 obtain rfl:=inj h
 exact Le.an
 refine ab.ck aa 5 ⟨21,[(2,vb false)],[]⟩ ?_
 refine ab.nil ?_
 obtain rfl:=inj h
 exact Le.an
 refine ab.cl aa 10 [2] [] ?_
 refine ab.nil ?_
 obtain rfl:=inj h
 exact Le.an
 refine ab.cl aa 15 [2] [] ?_
 refine ab.nil ?_
 obtain rfl:=inj h
 exact Le.an
 refine ae ?_
 obtain rfl:=inj h
 exact aD (f1 fv)
theorem BK:bg Tryz.prog 201:=au Tryz.func201 (by kernel_rfl) rfl
noncomputable def dH(aA:Span)(aB:Span):Option (Bool):=
 some ((decide (aA.From≤aB.To))&&(decide (aB.From≤aA.To)))
theorem lp(aA:Span)(aB:Span)(r:Bool)(h:dH aA aB=some r):aJ Tryz.prog 114 [.v (.agg (tc gE aA)),.v (.agg (tc gE aB))] ⟨[.v (vb r)],[],false⟩:=by
 refine ap Tryz.func114 rfl [(.tmp 4)] rfl (fun r=>⟨[.v (vb r)],[],false⟩) (r:=r) ?_
 unfold dH at h
 refine az aa [2,3] [2,3] ?_
 refine ac ?_
 refine dp ⟨17,[(4,vb ((decide (aA.From≤aB.To))&&(decide (aB.From≤aA.To))))],[]⟩ ?_ ?_
 refine ab.ck aa 6 ⟨17,[(2,.ref 2 0),(3,.ref 3 0),(10,vb (decide (aA.From≤aB.To)))],[(2,.box (tc gE aA)),(3,.box (tc gE aB))]⟩ ?_
 generalize (decide (aA.From≤aB.To))=bb
 cases bb
 refine ab.cl aa 7 [4] [] ?_
 exact ab.nil (Le.an)
 refine ab.cl aa 7 [4] [] ?_
 exact ab.nil (Le.an)
 refine ae ?_
 obtain rfl:=inj h
 exact aD (f1 fv)
theorem xD:bg Tryz.prog 114:=au Tryz.func114 (by kernel_rfl) rfl
noncomputable def fG(ad:(List Name)):Option (Bool):=
 (((cQ (ad.length:Int) (fun(i3:Int) (_:Unit)=>((at' ad i3).bind fun x7=>((jx x7).bind fun x8=>(bif(!x8)then some (.inr (.inr false))else(cQ i3 (fun(i9:Int) (_:Unit)=>((at' ad i9).bind fun x13=>(((bif(x7.Status==0)then(bif(x13.Status==0)then(bif(x7.Language.toList==x13.Language.toList)then((dH x7.Years x13.Years).bind fun x14=>some x14)else some false)else some false)else some false)).bind fun(j15:Bool)=>(bif j15 then some (.inr (.inr (.inr false)))else some (.inl ()))))) (fun(_:Unit)=> .inl ()) 0 ()))))) (fun(_:Unit)=> .inl ()) 0 ())).bind (Sum.elim (fun(_:Unit)=>some (decide ((ad.length:Int)≤12))) some))
theorem kM(ad:(List Name))(r:Bool)(h:fG ad=some r):aJ Tryz.prog 168 [.v (vl ar ad)] ⟨[.v (vb r)],[],false⟩:=by
 refine ap Tryz.func168 rfl [(.tmp 2)] rfl (fun r=>⟨[.v (vb r)],[],false⟩) (r:=r) ?_
 unfold fG at h
 refine az aa [0] [] ?_
 refine ac ?_
 refine az aa [0,3] [] ?_
 refine bi (r:=r) h (fun j1=>⟨54,[(0,vl ar ad)],[]⟩) (fun v2 h=> ?_) (fun j1 h=> ?_)
 refine aw (a:=v2) ?_
 refine a7 (r:=v2) (s:=(0,())) _ (fun s3=>⟨54,[(0,vl ar ad),(3,vi s3.1)],[]⟩) _ (Le.an) h (fun s3 v4 h=> ?_)
 refine ac ?_
 refine az aa [0,3,10] [] ?_
 refine ai h (fun h=> ?_) fun h=> ?_
 refine ag ?_
 refine aZ ?_
 refine ac ?_
 refine bp (r:=v4) h (fun j5=>⟨54,[(0,vl ar ad),(3,vi s3.1)],[]⟩) (fun v6 h=> ?_) (fun j5 h=> ?_)
 refine aw (a:=v6) ?_
 refine sr ?_
 refine ab.cl aa 2 [0,3,13,14] [] ?_
 obtain⟨x7,hx7,h⟩:=bind_some h
 refine ab.ls (aG (L:=ad) (f:=ar) (ti:=dh) (tj:=cK) (e:=169) (k:= .i64) aa rfl hx7) ?_
 refine bQ aa 3 [0,3,4] [4] ?_
 refine ac ?_
 refine sr ?_
 refine ab.cl aa 1 [0,3,4,17] [4] ?_
 obtain⟨x8,hx8,h⟩:=bind_some h
 refine ab.ls (xc BK (qt x7 _ hx8)) ?_
 refine bQ aa 1 [0,3,4,19] [4] ?_
 refine ai h (fun h=> ?_) fun h=> ?_
 refine az aa [2] [] ?_
 refine ae ?_
 obtain rfl:=inj h
 exact bt (bn (aU (aU (bn (aU (aD (f1 fv)))))))
 refine ag ?_
 refine aZ ?_
 refine az aa [0,3,4,5] [4] ?_
 refine aw (a:=v6) ?_
 refine a7 (r:=v6) (s:=(0,())) _ (fun s9=>⟨54,[(0,vl ar ad),(3,vi s3.1),(4,.ref 4 0),(5,vi s9.1)],[(4,.box (tc ar x7))]⟩) _ (Le.an) h (fun s9 v10 h=> ?_)
 refine ac ?_
 refine az aa [0,3,4,5,22] [4] ?_
 refine ai h (fun h=> ?_) fun h=> ?_
 refine ag ?_
 refine aZ ?_
 refine ac ?_
 refine bp (r:=v10) h (fun j11=>⟨54,[(0,vl ar ad),(3,vi s3.1),(4,.ref 4 0),(5,vi s9.1)],[(4,.box (tc ar x7))]⟩) (fun v12 h=> ?_) (fun j11 h=> ?_)
 refine aw (a:=v12) ?_
 refine sr ?_
 refine ab.cl aa 2 [0,3,4,5,25,26] [4] ?_
 obtain⟨x13,hx13,h⟩:=bind_some h
 refine ab.ls (aG (L:=ad) (f:=ar) (ti:=dh) (tj:=cK) (e:=169) (k:= .i64) aa rfl hx13) ?_
 refine bQ aa 3 [0,3,4,5,6] [4,6] ?_
 refine ac ?_
 refine bo h (fun j15=>⟨54,[(0,vl ar ad),(3,vi s3.1),(4,.ref 4 0),(5,vi s9.1),(50,vb j15)],[(4,.box (tc ar x7))]⟩) (fun v16 h=> ?_) (fun j15 h=> ?_)
 refine ab.cl aa 4 [0,3,4,5,6,32] [4,6] ?_
 refine ab.cu [(32,fun b=>b)] h (fun h=> ?_) fun h=> ?_
 refine ab.cl aa 5 [0,3,4,5,6,37] [4,6] ?_
 refine ab.cu [(37,fun b=>b)] h (fun h=> ?_) fun h=> ?_
 refine ab.cl aa 7 [0,3,4,5,6,44] [4,6] ?_
 refine ab.cu [(44,fun b=>b)] h (fun h=> ?_) fun h=> ?_
 refine ab.cl aa 4 [0,3,4,5,44,46,48] [4] ?_
 obtain⟨x14,hx14,h⟩:=bind_some h
 refine ab.ls (xc xD (lp x7.Years x13.Years _ hx14)) ?_
 refine ab.cl aa 1 [0,3,4,5,50] [4] ?_
 refine ab.nil ?_
 obtain rfl:=inj h
 exact Le.an
 refine ab.cl aa 6 [0,3,4,5,50] [4] ?_
 refine ab.nil ?_
 obtain rfl:=inj h
 exact Le.an
 refine ab.cl aa 13 [0,3,4,5,50] [4] ?_
 refine ab.nil ?_
 obtain rfl:=inj h
 exact Le.an
 refine ab.cl aa 18 [0,3,4,5,50] [4] ?_
 refine ab.nil ?_
 obtain rfl:=inj h
 exact Le.an
 refine ai h (fun h=> ?_) fun h=> ?_
 refine iy aa ⟨54,[(2,vb false)],[]⟩ ?_
 refine ae ?_
 obtain rfl:=inj h
 exact bn (aU (aU (bn (bn (aU (aU (bn (aU (aD (f1 fv))))))))))
 refine ag ?_
 obtain rfl:=inj h
 exact bP (bZ (Le.an))
 refine aE ?_
 refine ab.cl aa 3 [0,3,4,5] [4] ?_
 refine ab.nil ?_
 obtain rfl:=inj h
 exact bZ (Le.an)
 refine aQ ?_
 obtain rfl:=inj h
 exact cn (cr (cq (bP (bZ (Le.an)))))
 refine aE ?_
 refine ab.cl aa 3 [0,3] [] ?_
 refine ab.nil ?_
 obtain rfl:=inj h
 exact bZ (Le.an)
 refine aQ ?_
 obtain rfl:=inj h
 exact cn (cr (cq (bZ (Le.an))))
 refine az aa [2] [] ?_
 refine ae ?_
 obtain rfl:=inj h
 exact aD (f1 fv)
theorem xK:bg Tryz.prog 168:=au Tryz.func168 (by kernel_rfl) rfl
noncomputable def iU(aP:Place):Option (Bool):=
 ((((c5 aP.Code).bind fun x1=>(bif(!x1)then some true else((da aP.Class 0 19).bind fun x2=>(bif(!x2)then some true else((ga aP.Years).bind fun x3=>(bif(!x3)then some true else((fG aP.Names).bind fun x4=>some (!x4))))))))).bind fun(j5:Bool)=>(bif j5 then some false else(((cQ (aP.Names.length:Int) (fun(i9:Int) (_:Unit)=>((((at' aP.Names i9).bind fun x13=>(bif(decide (x13.Years.From<aP.Years.From))then some true else((at' aP.Names i9).bind fun x14=>some (decide (x14.Years.To>aP.Years.To)))))).bind fun(j15:Bool)=>(bif j15 then some (.inr (.inr false))else some (.inl ())))) (fun(_:Unit)=> .inl ()) 0 ())).bind (Sum.elim (fun(_:Unit)=>some true) some))))
theorem pt(aP:Place)(r:Bool)(h:iU aP=some r):aJ Tryz.prog 112 [.v (.agg (tc af aP))] ⟨[.v (vb r)],[],false⟩:=by
 refine ap Tryz.func112 rfl [(.tmp 2)] rfl (fun r=>⟨[.v (vb r)],[],false⟩) (r:=r) ?_
 unfold iU at h
 refine az aa [1] [1] ?_
 refine ac ?_
 refine ac ?_
 refine bo h (fun j5=>⟨57,[(1,.ref 1 0),(25,vb j5)],[(1,.box (tc af aP))]⟩) (fun v6 h=> ?_) (fun j5 h=> ?_)
 refine ab.cl aa 2 [1,5] [1] ?_
 obtain⟨x1,hx1,h⟩:=bind_some h
 refine ab.ls (xc kC (c6 aP.Code _ hx1)) ?_
 refine ab.cl aa 2 [1,8] [1] ?_
 refine ab.cu [(8,fun b=>b)] h (fun h=> ?_) fun h=> ?_
 refine ab.cl aa 17 [1,25] [1] ?_
 refine ab.nil ?_
 obtain rfl:=inj h
 exact Le.an
 refine ab.cl aa 2 [1,8,10] [1] ?_
 obtain⟨x2,hx2,h⟩:=bind_some h
 refine ab.ls (xc ji (cL aP.Class 0 19 _ hx2)) ?_
 refine ab.cl aa 3 [1,14] [1] ?_
 refine ab.cu [(14,fun b=>b)] h (fun h=> ?_) fun h=> ?_
 refine ab.cl aa 11 [1,25] [1] ?_
 refine ab.nil ?_
 obtain rfl:=inj h
 exact Le.an
 refine ab.cl aa 2 [1,14,16] [1] ?_
 obtain⟨x3,hx3,h⟩:=bind_some h
 refine ab.ls (xc tI (jK aP.Years _ hx3)) ?_
 refine ab.cl aa 3 [1,20] [1] ?_
 refine ab.cu [(20,fun b=>b)] h (fun h=> ?_) fun h=> ?_
 refine ab.ck aa 5 ⟨57,[(1,.ref 1 0),(25,vb true)],[(1,.box (tc af aP))]⟩ ?_
 refine ab.nil ?_
 obtain rfl:=inj h
 exact Le.an
 refine ab.cl aa 2 [1,20,22] [1] ?_
 obtain⟨x4,hx4,h⟩:=bind_some h
 refine ab.ls (xc xK (kM aP.Names _ hx4)) ?_
 refine ab.cl aa 2 [1,25] [1] ?_
 refine ab.nil ?_
 obtain rfl:=inj h
 exact Le.an
 refine ai h (fun h=> ?_) fun h=> ?_
 refine az aa [2] [] ?_
 refine ae ?_
 obtain rfl:=inj h
 exact bt (aD (f1 fv))
 refine ag ?_
 refine aZ ?_
 refine ac ?_
 refine az aa [1,3] [1] ?_
 refine bi (r:=r) h (fun j7=>⟨57,[],[]⟩) (fun v8 h=> ?_) (fun j7 h=> ?_)
 refine aw (a:=v8) ?_
 refine a7 (r:=v8) (s:=(0,())) _ (fun s9=>⟨57,[(1,.ref 1 0),(3,vi s9.1)],[(1,.box (tc af aP))]⟩) _ (Le.an) h (fun s9 v10 h=> ?_)
 refine ac ?_
 refine az aa [1,3,30] [1] ?_
 refine ai h (fun h=> ?_) fun h=> ?_
 refine ag ?_
 refine aZ ?_
 refine ac ?_
 refine bp (r:=v10) h (fun j11=>⟨57,[(1,.ref 1 0),(3,vi s9.1)],[(1,.box (tc af aP))]⟩) (fun v12 h=> ?_) (fun j11 h=> ?_)
 refine aw (a:=v12) ?_
 refine ac ?_
 refine jV mixed h (fun j15=>⟨57,[(1,.ref 1 0),(3,vi s9.1),(56,vb j15)],[(1,.box (tc af aP))]⟩) (fun v16 h=> ?_) (fun j15 h=> ?_)
 refine aY.cl aa false 3 [1,3,34,35] [1] ?_
 obtain⟨x13,hx13,h⟩:=bind_some h
 refine aY.step (aG (L:=aP.Names) (f:=ar) (ti:=dh) (tj:=cK) (e:=169) (k:= .i64) aa rfl hx13) ?_
 refine aY.cl aa false 8 [1,3,44] [1] ?_
 refine aY.cu [(44,fun b=>b)] h (fun h=> ?_) fun h=> ?_
 refine aY.cl aa false 12 [1,3,56] [1] ?_
 refine aY.nil (by kernel_rfl) ?_
 obtain rfl:=inj h
 exact Le.an
 refine aY.cl aa false 3 [1,3,44,46,47] [1] ?_
 obtain⟨x14,hx14,h⟩:=bind_some h
 refine aY.step (aG (L:=aP.Names) (f:=ar) (ti:=dh) (tj:=cK) (e:=169) (k:= .i64) aa rfl hx14) ?_
 refine aY.cl aa false 8 [1,3,56] [1] ?_
 refine aY.nil (by kernel_rfl) ?_
 obtain rfl:=inj h
 exact Le.an
 refine ai h (fun h=> ?_) fun h=> ?_
 refine az aa [2] [] ?_
 refine ae ?_
 obtain rfl:=inj h
 exact bn (aU (aU (bn (aU (aD (f1 fv))))))
 refine ag ?_
 obtain rfl:=inj h
 exact bP (bZ (Le.an))
 refine aE ?_
 refine ab.cl aa 3 [1,3] [1] ?_
 refine ab.nil ?_
 obtain rfl:=inj h
 exact bZ (Le.an)
 refine aQ ?_
 obtain rfl:=inj h
 exact cn (cr (cq (bZ (Le.an))))
 refine az aa [2] [] ?_
 refine ae ?_
 obtain rfl:=inj h
 exact aD (f1 fv)
theorem A6:bg Tryz.prog 112:=au Tryz.func112 (by kernel_rfl) rfl
noncomputable def dX(ad:(List Place)):Option (Bool):=
 (((cQ (ad.length:Int) (fun(i3:Int) (_:Unit)=>((((at' ad i3).bind fun x7=>((iU x7).bind fun x8=>(bif(!x8)then some true else(bif(decide (i3>0))then((at' ad (aO (i3 - 1))).bind fun x9=>((at' ad i3).bind fun x10=>some (!(Op.bytesLess x9.Code.toList x10.Code.toList))))else some false))))).bind fun(j11:Bool)=>(bif j11 then some (.inr (.inr false))else some (.inl ())))) (fun(_:Unit)=> .inl ()) 0 ())).bind (Sum.elim (fun(_:Unit)=>some (decide ((ad.length:Int)≤10))) some))
theorem jP(ad:(List Place))(r:Bool)(h:dX ad=some r):aJ Tryz.prog 59 [.v (vl af ad)] ⟨[.v (vb r)],[],false⟩:=by
 refine ap Tryz.func59 rfl [(.tmp 2)] rfl (fun r=>⟨[.v (vb r)],[],false⟩) (r:=r) ?_
 unfold dX at h
 refine az aa [0] [] ?_
 refine ac ?_
 refine az aa [0,3] [] ?_
 refine bi (r:=r) h (fun j1=>⟨37,[(0,vl af ad)],[]⟩) (fun v2 h=> ?_) (fun j1 h=> ?_)
 refine aw (a:=v2) ?_
 refine a7 (r:=v2) (s:=(0,())) _ (fun s3=>⟨37,[(0,vl af ad),(3,vi s3.1)],[]⟩) _ (Le.an) h (fun s3 v4 h=> ?_)
 refine ac ?_
 refine az aa [0,3,7] [] ?_
 refine ai h (fun h=> ?_) fun h=> ?_
 refine ag ?_
 refine aZ ?_
 refine ac ?_
 refine bp (r:=v4) h (fun j5=>⟨37,[(0,vl af ad),(3,vi s3.1)],[]⟩) (fun v6 h=> ?_) (fun j5 h=> ?_)
 refine aw (a:=v6) ?_
 refine ac ?_
 refine jV mixed h (fun j11=>⟨37,[(0,vl af ad),(3,vi s3.1),(33,vb j11)],[]⟩) (fun v12 h=> ?_) (fun j11 h=> ?_)
 refine aY.cl aa false 2 [0,3,10,11] [] ?_
 obtain⟨x7,hx7,h⟩:=bind_some h
 refine aY.step (aG (L:=ad) (f:=af) (ti:=cP) (tj:=cm) (e:=91) (k:= .i64) aa rfl hx7) ?_
 refine aY.cl aa false 1 [0,3,13] [] ?_
 obtain⟨x8,hx8,h⟩:=bind_some h
 refine aY.step (xc A6 (pt x7 _ hx8)) ?_
 refine aY.cl aa false 2 [0,3,16] [] ?_
 refine aY.cu [(16,fun b=>b)] h (fun h=> ?_) fun h=> ?_
 refine aY.cl aa false 17 [0,3,33] [] ?_
 refine aY.nil (by kernel_rfl) ?_
 obtain rfl:=inj h
 exact Le.an
 refine aY.cl aa false 3 [0,3,16,19] [] ?_
 refine aY.cu [(19,fun b=>b)] h (fun h=> ?_) fun h=> ?_
 refine aY.cl aa false 3 [0,3,16,19,20,22] [] ?_
 obtain⟨x9,hx9,h⟩:=bind_some h
 refine aY.step (aG (L:=ad) (f:=af) (ti:=cP) (tj:=cm) (e:=91) (k:= .i64) aa rfl hx9) ?_
 refine aY.cl aa false 4 [0,3,16,19,25,26,27] [] ?_
 obtain⟨x10,hx10,h⟩:=bind_some h
 refine aY.step (aG (L:=ad) (f:=af) (ti:=cP) (tj:=cm) (e:=91) (k:= .i64) aa rfl hx10) ?_
 refine aY.cl aa false 5 [0,3,33] [] ?_
 refine aY.nil (by kernel_rfl) ?_
 obtain rfl:=inj h
 exact Le.an
 refine aY.ck aa false 14 ⟨37,[(0,vl af ad),(3,vi s3.1),(33,vb false)],[]⟩ ?_
 refine aY.nil (by kernel_rfl) ?_
 obtain rfl:=inj h
 exact Le.an
 refine ai h (fun h=> ?_) fun h=> ?_
 refine az aa [2] [] ?_
 refine ae ?_
 obtain rfl:=inj h
 exact bn (aU (aU (bn (aU (aD (f1 fv))))))
 refine ag ?_
 obtain rfl:=inj h
 exact bP (bZ (Le.an))
 refine aE ?_
 refine ab.cl aa 3 [0,3] [] ?_
 refine ab.nil ?_
 obtain rfl:=inj h
 exact bZ (Le.an)
 refine aQ ?_
 obtain rfl:=inj h
 exact cn (cr (cq (bZ (Le.an))))
 refine az aa [2] [] ?_
 refine ae ?_
 obtain rfl:=inj h
 exact aD (f1 fv)
theorem zJ:bg Tryz.prog 59:=au Tryz.func59 (by kernel_rfl) rfl
noncomputable def ky(aL:ax):Option (Bool):=
 ((((c5 aL.Child).bind fun x1=>(bif x1 then((c5 aL.Parent).bind fun x2=>(bif x2 then(bif(!(aL.Child.toList==aL.Parent.toList))then((ga aL.Years).bind fun x3=>some x3)else some false)else some false))else some false))).bind fun(j4:Bool)=>some j4)
theorem rQ(aL:ax)(r:Bool)(h:ky aL=some r):aJ Tryz.prog 113 [.v (.agg (tc ah aL))] ⟨[.v (vb r)],[],false⟩:=by
 refine ap Tryz.func113 rfl [(.tmp 2)] rfl (fun r=>⟨[.v (vb r)],[],false⟩) (r:=r) ?_
 unfold ky at h
 refine az aa [1] [1] ?_
 refine ac ?_
 refine bo h (fun j4=>⟨23,[(2,vb j4)],[]⟩) (fun v5 h=> ?_) (fun j4 h=> ?_)
 refine ab.cl aa 2 [1,4] [1] ?_
 obtain⟨x1,hx1,h⟩:=bind_some h
 refine ab.ls (xc kC (c6 aL.Child _ hx1)) ?_
 refine ab.cl aa 1 [1,6] [1] ?_
 refine ab.cu [(6,fun b=>b)] h (fun h=> ?_) fun h=> ?_
 refine ab.cl aa 2 [1,6,8] [1] ?_
 obtain⟨x2,hx2,h⟩:=bind_some h
 refine ab.ls (xc kC (c6 aL.Parent _ hx2)) ?_
 refine ab.cl aa 2 [1,11] [1] ?_
 refine ab.cu [(11,fun b=>b)] h (fun h=> ?_) fun h=> ?_
 refine ab.cl aa 7 [1,18] [1] ?_
 refine ab.cu [(18,fun b=>b)] h (fun h=> ?_) fun h=> ?_
 refine ab.cl aa 2 [18,20] [] ?_
 obtain⟨x3,hx3,h⟩:=bind_some h
 refine ab.ls (xc tI (jK aL.Years _ hx3)) ?_
 refine ab.cl aa 2 [2] [] ?_
 refine ab.nil ?_
 obtain rfl:=inj h
 exact Le.an
 refine ab.cl aa 5 [2] [] ?_
 refine ab.nil ?_
 obtain rfl:=inj h
 exact Le.an
 refine ab.ck aa 12 ⟨23,[(2,vb false)],[]⟩ ?_
 refine ab.nil ?_
 obtain rfl:=inj h
 exact Le.an
 refine ab.cl aa 17 [2] [] ?_
 refine ab.nil ?_
 obtain rfl:=inj h
 exact Le.an
 refine ae ?_
 obtain rfl:=inj h
 exact aD (f1 fv)
theorem A7:bg Tryz.prog 113:=au Tryz.func113 (by kernel_rfl) rfl
noncomputable def gD(ad:(List ByteArray))(aS:ByteArray):Option (Int):=
 (((cQ (ad.length:Int) (fun(i3:Int) (_:Unit)=>((at' ad i3).bind fun x7=>(bif(x7.toList==aS.toList)then some (.inr (.inr i3))else some (.inl ())))) (fun(_:Unit)=> .inl ()) 0 ())).bind (Sum.elim (fun(_:Unit)=>some (-1)) some))
theorem pu(ad:(List ByteArray))(aS:ByteArray)(r:Int)(h:gD ad aS=some r):aJ Tryz.prog 169 [.v (vl eS ad),.v (vs aS)] ⟨[.v (vi r)],[],false⟩:=by
 refine ap Tryz.func169 rfl [(.tmp 4)] rfl (fun r=>⟨[.v (vi r)],[],false⟩) (r:=r) ?_
 unfold gD at h
 refine az aa [0,1] [] ?_
 refine ac ?_
 refine az aa [0,1,5] [] ?_
 refine bi (r:=r) h (fun j1=>⟨19,[],[]⟩) (fun v2 h=> ?_) (fun j1 h=> ?_)
 refine aw (a:=v2) ?_
 refine a7 (r:=v2) (s:=(0,())) _ (fun s3=>⟨19,[(0,vl eS ad),(1,vs aS),(5,vi s3.1)],[]⟩) _ (Le.an) h (fun s3 v4 h=> ?_)
 refine ac ?_
 refine az aa [0,1,5,9] [] ?_
 refine ai h (fun h=> ?_) fun h=> ?_
 refine ag ?_
 refine aZ ?_
 refine ac ?_
 refine bp (r:=v4) h (fun j5=>⟨19,[(0,vl eS ad),(1,vs aS),(5,vi s3.1)],[]⟩) (fun v6 h=> ?_) (fun j5 h=> ?_)
 refine aw (a:=v6) ?_
 refine sr ?_
 refine ab.cl aa 2 [0,1,5,12,13] [] ?_
 obtain⟨x7,hx7,h⟩:=bind_some h
 refine ab.ls (aG (L:=ad) (f:=eS) (ti:=cF) (tj:=gl) (e:=9) (k:= .i64) aa rfl hx7) ?_
 refine bQ aa 3 [0,1,5,17] [] ?_
 refine ai h (fun h=> ?_) fun h=> ?_
 refine az aa [4] [] ?_
 refine ae ?_
 obtain rfl:=inj h
 exact bn (aU (aU (bn (aU (aD (f1 fv))))))
 refine ag ?_
 obtain rfl:=inj h
 exact bP (bZ (Le.an))
 refine aE ?_
 refine ab.cl aa 3 [0,1,5] [] ?_
 refine ab.nil ?_
 obtain rfl:=inj h
 exact bZ (Le.an)
 refine aQ ?_
 obtain rfl:=inj h
 exact cn (cr (cq (bZ (Le.an))))
 refine az aa [4] [] ?_
 refine ae ?_
 obtain rfl:=inj h
 exact aD (f1 fv)
theorem Bs:bg Tryz.prog 169:=au Tryz.func169 (by kernel_rfl) rfl
noncomputable def dU(ad:(List ax))(aF:ByteArray)(aj:Int):Option (ByteArray):=
 (((cQ (ad.length:Int) (fun(i3:Int) (_:Unit)=>((((at' ad i3).bind fun x7=>(bif(x7.Child.toList==aF.toList)then((at' ad i3).bind fun x8=>((at' ad i3).bind fun x9=>((da aj x8.Years.From x9.Years.To).bind fun x10=>some x10)))else some false))).bind fun(j11:Bool)=>(bif j11 then((at' ad i3).bind fun x13=>some (.inr (.inr x13.Parent)))else some (.inl ())))) (fun(_:Unit)=> .inl ()) 0 ())).bind (Sum.elim (fun(_:Unit)=>some (ByteArray.mk #[])) some))
theorem kz(ad:(List ax))(aF:ByteArray)(aj:Int)(r:ByteArray)(h:dU ad aF aj=some r):aJ Tryz.prog 130 [.v (vl ah ad),.v (vs aF),.v (vi aj)] ⟨[.v (vs r)],[],false⟩:=by
 refine ap Tryz.func130 rfl [(.tmp 6)] rfl (fun r=>⟨[.v (vs r)],[],false⟩) (r:=r) ?_
 unfold dU at h
 refine az aa [0,1,2] [] ?_
 refine ac ?_
 refine az aa [0,1,2,7] [] ?_
 refine bi (r:=r) h (fun j1=>⟨42,[],[]⟩) (fun v2 h=> ?_) (fun j1 h=> ?_)
 refine aw (a:=v2) ?_
 refine a7 (r:=v2) (s:=(0,())) _ (fun s3=>⟨42,[(0,vl ah ad),(1,vs aF),(2,vi aj),(7,vi s3.1)],[]⟩) _ (Le.an) h (fun s3 v4 h=> ?_)
 refine ac ?_
 refine az aa [0,1,2,7,11] [] ?_
 refine ai h (fun h=> ?_) fun h=> ?_
 refine ag ?_
 refine aZ ?_
 refine ac ?_
 refine bp (r:=v4) h (fun j5=>⟨42,[(0,vl ah ad),(1,vs aF),(2,vi aj),(7,vi s3.1)],[]⟩) (fun v6 h=> ?_) (fun j5 h=> ?_)
 refine aw (a:=v6) ?_
 refine ac ?_
 refine jV mixed h (fun j11=>⟨42,[(0,vl ah ad),(1,vs aF),(2,vi aj),(7,vi s3.1),(36,vb j11)],[]⟩) (fun v12 h=> ?_) (fun j11 h=> ?_)
 refine aY.cl aa false 2 [0,1,2,7,14,15] [] ?_
 obtain⟨x7,hx7,h⟩:=bind_some h
 refine aY.step (aG (L:=ad) (f:=ah) (ti:=dq) (tj:=dr) (e:=85) (k:= .i64) aa rfl hx7) ?_
 refine aY.cl aa false 5 [0,1,2,7,21] [] ?_
 refine aY.cu [(21,fun b=>b)] h (fun h=> ?_) fun h=> ?_
 refine aY.cl aa false 3 [0,1,2,7,21,22,23,24] [] ?_
 obtain⟨x8,hx8,h⟩:=bind_some h
 refine aY.step (aG (L:=ad) (f:=ah) (ti:=dq) (tj:=dr) (e:=85) (k:= .i64) aa rfl hx8) ?_
 refine aY.cl aa false 5 [0,1,2,7,21,22,28,29,30] [] ?_
 obtain⟨x9,hx9,h⟩:=bind_some h
 refine aY.step (aG (L:=ad) (f:=ah) (ti:=dq) (tj:=dr) (e:=85) (k:= .i64) aa rfl hx9) ?_
 refine aY.cl aa false 3 [0,1,2,7,21,22,28,34] [] ?_
 obtain⟨x10,hx10,h⟩:=bind_some h
 refine aY.step (xc ji (cL aj x8.Years.From x9.Years.To _ hx10)) ?_
 refine aY.cl aa false 1 [0,1,2,7,36] [] ?_
 refine aY.nil (by kernel_rfl) ?_
 obtain rfl:=inj h
 exact Le.an
 refine aY.cl aa false 15 [0,1,2,7,36] [] ?_
 refine aY.nil (by kernel_rfl) ?_
 obtain rfl:=inj h
 exact Le.an
 refine ai h (fun h=> ?_) fun h=> ?_
 refine sr ?_
 refine ab.cl aa 2 [37,38] [] ?_
 obtain⟨x13,hx13,h⟩:=bind_some h
 refine ab.ls (aG (L:=ad) (f:=ah) (ti:=dq) (tj:=dr) (e:=85) (k:= .i64) aa rfl hx13) ?_
 refine ckn aa 3 ⟨42,[(6,vs x13.Parent)],[]⟩ ?_
 refine ae ?_
 obtain rfl:=inj h
 exact bn (aU (aU (bn (aU (aD (f1 fv))))))
 refine ag ?_
 obtain rfl:=inj h
 exact bP (bZ (Le.an))
 refine aE ?_
 refine ab.cl aa 3 [0,1,2,7] [] ?_
 refine ab.nil ?_
 obtain rfl:=inj h
 exact bZ (Le.an)
 refine aQ ?_
 obtain rfl:=inj h
 exact cn (cr (cq (bZ (Le.an))))
 refine az aa [6] [] ?_
 refine ae ?_
 obtain rfl:=inj h
 exact aD (f1 fv)
theorem xE:bg Tryz.prog 130:=au Tryz.func130 (by kernel_rfl) rfl
noncomputable def jz(ad:(List ax))(aF:ByteArray)(aj:Int):Option ((List ByteArray)×Bool):=
 (((loop (fun(s3:ByteArray×(List ByteArray))=>(bif(!(s3.1.toList==(ByteArray.mk #[]).toList))then((gD s3.2 s3.1).bind fun x5=>(bif(decide (x5≥0))then some (.inr (.inr (([]:List ByteArray),false)))else((eg s3.2 ([s3.1]:List ByteArray)).bind fun x6=>((dU ad s3.1 aj).bind fun x7=>some (.inl (x7,x6))))))else some (.inr (.inl s3.2)))) (aF,([]:List ByteArray)))).bind (Sum.elim (fun(j1:(List ByteArray))=>some (j1,true)) some))
theorem qx(ad:(List ax))(aF:ByteArray)(aj:Int)(r:(List ByteArray)×Bool)(h:jz ad aF aj=some r):aJ Tryz.prog 115 [.v (vl ah ad),.v (vs aF),.v (vi aj)] ⟨[.own 9 1 r.1.length (r.1.map eS),.v (vb r.2)],[],false⟩:=by
 refine ap Tryz.func115 rfl [(.tmp 6),(.tmp 7)] rfl (fun r=>⟨[.own 9 1 r.1.length (r.1.map eS),.v (vb r.2)],[],false⟩) (r:=r) ?_
 unfold jz at h
 refine az aa [0,1,2] [] ?_
 refine az aa [0,1,2,8] [9] ?_
 refine ac ?_
 refine bi (r:=r) h (fun j1=>⟨25,[(8,.own 8)],[(8,oa 9 1 eS j1)]⟩) (fun v2 h=> ?_) (fun j1 h=> ?_)
 refine aw (a:=v2) ?_
 refine a7 (r:=v2) (s:=(aF,([]:List ByteArray))) _ (fun s3=>⟨25,[(0,vl ah ad),(1,vs s3.1),(2,vi aj),(8,.own 8)],[(8,oa 9 1 eS s3.2)]⟩) _ (Le.rr [9] [(9,8)]) h (fun s3 v4 h=> ?_)
 refine ac ?_
 refine az aa [0,1,2,8,11] [8] ?_
 refine ai h (fun h=> ?_) fun h=> ?_
 refine ag ?_
 refine aZ ?_
 refine aw (a:=v4) ?_
 refine ac ?_
 refine sr ?_
 refine ab.cl aa 2 [0,1,2,8,12,13] [8] ?_
 obtain⟨x5,hx5,h⟩:=bind_some h
 refine ab.ls (xc Bs (pu s3.2 s3.1 _ hx5)) ?_
 refine bQ aa 1 [0,1,2,8,15] [8] ?_
 refine ai h (fun h=> ?_) fun h=> ?_
 refine az aa [6,7] [6] ?_
 refine ae ?_
 obtain rfl:=inj h
 exact bt (bn (aU (bn (aU (aD (f2 (fo fK) fv))))))
 refine ag ?_
 refine aZ ?_
 refine sr ?_
 refine ab.cl aa 3 [0,1,2,16,18] [8,18] ?_
 obtain⟨x6,hx6,h⟩:=bind_some h
 refine ab.bs (bY (f:=eS) (t:=106) (ti:=cF) (tj:=gl) (zs:=[.string (ByteArray.mk #[])]) (e:=9) (m:=1) (d:=8) (xv:= .own 18) hx6 aa rfl rfl rfl rfl (dI (e:=9))) ?_
 refine bQ aa 1 [0,1,2,8] [19] ?_
 refine aE ?_
 refine ab.cl aa 3 [0,2,8,20,21,22] [19] ?_
 obtain⟨x7,hx7,h⟩:=bind_some h
 refine ab.ls (xc xE (kz ad s3.1 aj _ hx7)) ?_
 refine ab.cl aa 1 [0,1,2,8] [19] ?_
 refine ab.nil ?_
 obtain rfl:=inj h
 exact bP (bZ (Le.rr [19] [(19,8)]))
 refine aQ ?_
 obtain rfl:=inj h
 exact cn (cr (cq (bZ (Le.an))))
 refine iy aa ⟨25,[(6,.own 8),(7,vb true)],[(8,oa 9 1 eS j1)]⟩ ?_
 refine ae ?_
 obtain rfl:=inj h
 exact aD (f2 (fo fK) fv)
theorem A8:bg Tryz.prog 115:=au Tryz.func115 (by kernel_rfl) rfl
noncomputable def eo(ad:(List ax)):Option (Bool):=
 (((cQ (ad.length:Int) (fun(i3:Int) (_:Unit)=>((at' ad i3).bind fun x7=>((ky x7).bind fun x8=>(bif(!x8)then some (.inr (.inr false))else(cQ i3 (fun(i9:Int) (_:Unit)=>((((at' ad i9).bind fun x13=>((at' ad i3).bind fun x14=>(bif(x13.Child.toList==x14.Child.toList)then((at' ad i9).bind fun x15=>((at' ad i3).bind fun x16=>((dH x15.Years x16.Years).bind fun x17=>some x17)))else some false)))).bind fun(j18:Bool)=>(bif j18 then some (.inr (.inr (.inr false)))else some (.inl ())))) (fun(_:Unit)=> .inl ()) 0 ()))))) (fun(_:Unit)=> .inl ()) 0 ())).bind (Sum.elim (fun(_:Unit)=>(bif(decide ((ad.length:Int)>20))then some false else(((cQ (ad.length:Int) (fun(i22:Int) (_:Unit)=>(cQ (ad.length:Int) (fun(i26:Int) (_:Unit)=>((at' ad i26).bind fun x30=>((at' ad i22).bind fun x31=>((jz ad x30.Child x31.Years.From).bind fun x32=>(bif(!x32.2)then some (.inr (.inr (.inr false)))else some (.inl ())))))) (fun(_:Unit)=> .inl ()) 0 ())) (fun(_:Unit)=> .inl ()) 0 ())).bind (Sum.elim (fun(_:Unit)=>some true) some)))) some))
theorem iS(ad:(List ax))(r:Bool)(h:eo ad=some r):aJ Tryz.prog 60 [.v (vl ah ad)] ⟨[.v (vb r)],[],false⟩:=by
 refine ap Tryz.func60 rfl [(.tmp 2)] rfl (fun r=>⟨[.v (vb r)],[],false⟩) (r:=r) ?_
 unfold eo at h
 refine az aa [0] [] ?_
 refine ac ?_
 refine az aa [0,3] [] ?_
 refine bi (r:=r) h (fun j1=>⟨83,[(0,vl ah ad)],[]⟩) (fun v2 h=> ?_) (fun j1 h=> ?_)
 refine aw (a:=v2) ?_
 refine a7 (r:=v2) (s:=(0,())) _ (fun s3=>⟨83,[(0,vl ah ad),(3,vi s3.1)],[]⟩) _ (Le.an) h (fun s3 v4 h=> ?_)
 refine ac ?_
 refine az aa [0,3,12] [] ?_
 refine ai h (fun h=> ?_) fun h=> ?_
 refine ag ?_
 refine aZ ?_
 refine ac ?_
 refine bp (r:=v4) h (fun j5=>⟨83,[(0,vl ah ad),(3,vi s3.1)],[]⟩) (fun v6 h=> ?_) (fun j5 h=> ?_)
 refine aw (a:=v6) ?_
 refine ac ?_
 refine sr ?_
 refine ab.cl aa 2 [0,3,15,16] [] ?_
 obtain⟨x7,hx7,h⟩:=bind_some h
 refine ab.ls (aG (L:=ad) (f:=ah) (ti:=dq) (tj:=dr) (e:=85) (k:= .i64) aa rfl hx7) ?_
 refine ab.cl aa 1 [0,3,18] [] ?_
 obtain⟨x8,hx8,h⟩:=bind_some h
 refine ab.ls (xc A7 (rQ x7 _ hx8)) ?_
 refine bQ aa 1 [0,3,20] [] ?_
 refine ai h (fun h=> ?_) fun h=> ?_
 refine az aa [2] [] ?_
 refine ae ?_
 obtain rfl:=inj h
 exact bt (bn (aU (aU (bn (aU (aD (f1 fv)))))))
 refine ag ?_
 refine aZ ?_
 refine az aa [0,3,4] [] ?_
 refine aw (a:=v6) ?_
 refine a7 (r:=v6) (s:=(0,())) _ (fun s9=>⟨83,[(0,vl ah ad),(3,vi s3.1),(4,vi s9.1)],[]⟩) _ (Le.an) h (fun s9 v10 h=> ?_)
 refine ac ?_
 refine az aa [0,3,4,23] [] ?_
 refine ai h (fun h=> ?_) fun h=> ?_
 refine ag ?_
 refine aZ ?_
 refine ac ?_
 refine bp (r:=v10) h (fun j11=>⟨83,[(0,vl ah ad),(3,vi s3.1),(4,vi s9.1)],[]⟩) (fun v12 h=> ?_) (fun j11 h=> ?_)
 refine aw (a:=v12) ?_
 refine ac ?_
 refine jV mixed h (fun j18=>⟨83,[(0,vl ah ad),(3,vi s3.1),(4,vi s9.1),(49,vb j18)],[]⟩) (fun v19 h=> ?_) (fun j18 h=> ?_)
 refine aY.cl aa false 2 [0,3,4,26,27] [] ?_
 obtain⟨x13,hx13,h⟩:=bind_some h
 refine aY.step (aG (L:=ad) (f:=ah) (ti:=dq) (tj:=dr) (e:=85) (k:= .i64) aa rfl hx13) ?_
 refine aY.cl aa false 4 [0,3,4,30,31,32] [] ?_
 obtain⟨x14,hx14,h⟩:=bind_some h
 refine aY.step (aG (L:=ad) (f:=ah) (ti:=dq) (tj:=dr) (e:=85) (k:= .i64) aa rfl hx14) ?_
 refine aY.cl aa false 4 [0,3,4,37] [] ?_
 refine aY.cu [(37,fun b=>b)] h (fun h=> ?_) fun h=> ?_
 refine aY.cl aa false 2 [0,3,4,37,38,39] [] ?_
 obtain⟨x15,hx15,h⟩:=bind_some h
 refine aY.step (aG (L:=ad) (f:=ah) (ti:=dq) (tj:=dr) (e:=85) (k:= .i64) aa rfl hx15) ?_
 refine aY.cl aa false 4 [0,3,4,37,42,43,44] [] ?_
 obtain⟨x16,hx16,h⟩:=bind_some h
 refine aY.step (aG (L:=ad) (f:=ah) (ti:=dq) (tj:=dr) (e:=85) (k:= .i64) aa rfl hx16) ?_
 refine aY.cl aa false 2 [0,3,4,37,42,47] [] ?_
 obtain⟨x17,hx17,h⟩:=bind_some h
 refine aY.step (xc xD (lp x15.Years x16.Years _ hx17)) ?_
 refine aY.cl aa false 1 [0,3,4,49] [] ?_
 refine aY.nil (by kernel_rfl) ?_
 obtain rfl:=inj h
 exact Le.an
 refine aY.cl aa false 12 [0,3,4,49] [] ?_
 refine aY.nil (by kernel_rfl) ?_
 obtain rfl:=inj h
 exact Le.an
 refine ai h (fun h=> ?_) fun h=> ?_
 refine iy aa ⟨83,[(2,vb false)],[]⟩ ?_
 refine ae ?_
 obtain rfl:=inj h
 exact bn (aU (aU (bn (bn (aU (aU (bn (aU (aD (f1 fv))))))))))
 refine ag ?_
 obtain rfl:=inj h
 exact bP (bZ (Le.an))
 refine aE ?_
 refine ab.cl aa 3 [0,3,4] [] ?_
 refine ab.nil ?_
 obtain rfl:=inj h
 exact bZ (Le.an)
 refine aQ ?_
 obtain rfl:=inj h
 exact cn (cr (cq (bP (bZ (Le.an)))))
 refine aE ?_
 refine ab.cl aa 3 [0,3] [] ?_
 refine ab.nil ?_
 obtain rfl:=inj h
 exact bZ (Le.an)
 refine aQ ?_
 obtain rfl:=inj h
 exact cn (cr (cq (bZ (Le.an))))
 refine ac ?_
 refine az aa [0,52] [] ?_
 refine ai h (fun h=> ?_) fun h=> ?_
 refine az aa [2] [] ?_
 refine ae ?_
 obtain rfl:=inj h
 exact bt (aD (f1 fv))
 refine ag ?_
 refine aZ ?_
 refine ac ?_
 refine az aa [0,5] [] ?_
 refine bi (r:=r) h (fun j20=>⟨83,[],[]⟩) (fun v21 h=> ?_) (fun j20 h=> ?_)
 refine aw (a:=v21) ?_
 refine a7 (r:=v21) (s:=(0,())) _ (fun s22=>⟨83,[(0,vl ah ad),(5,vi s22.1)],[]⟩) _ (Le.an) h (fun s22 v23 h=> ?_)
 refine ac ?_
 refine az aa [0,5,56] [] ?_
 refine ai h (fun h=> ?_) fun h=> ?_
 refine ag ?_
 refine aZ ?_
 refine ac ?_
 refine bp (r:=v23) h (fun j24=>⟨83,[(0,vl ah ad),(5,vi s22.1)],[]⟩) (fun v25 h=> ?_) (fun j24 h=> ?_)
 refine aw (a:=v25) ?_
 refine az aa [0,5,6] [] ?_
 refine aw (a:=v25) ?_
 refine a7 (r:=v25) (s:=(0,())) _ (fun s26=>⟨83,[(0,vl ah ad),(5,vi s22.1),(6,vi s26.1)],[]⟩) _ (Le.an) h (fun s26 v27 h=> ?_)
 refine ac ?_
 refine az aa [0,5,6,62] [] ?_
 refine ai h (fun h=> ?_) fun h=> ?_
 refine ag ?_
 refine aZ ?_
 refine ac ?_
 refine bp (r:=v27) h (fun j28=>⟨83,[(0,vl ah ad),(5,vi s22.1),(6,vi s26.1)],[]⟩) (fun v29 h=> ?_) (fun j28 h=> ?_)
 refine aw (a:=v29) ?_
 refine ac ?_
 refine cO mixed ?_
 refine aY.cl aa false 3 [0,5,6,66,67,68] [] ?_
 obtain⟨x30,hx30,h⟩:=bind_some h
 refine aY.step (aG (L:=ad) (f:=ah) (ti:=dq) (tj:=dr) (e:=85) (k:= .i64) aa rfl hx30) ?_
 refine aY.cl aa false 4 [0,5,6,66,71,72,73] [] ?_
 obtain⟨x31,hx31,h⟩:=bind_some h
 refine aY.step (aG (L:=ad) (f:=ah) (ti:=dq) (tj:=dr) (e:=85) (k:= .i64) aa rfl hx31) ?_
 refine aY.cl aa false 3 [0,5,6,66,71,77] [] ?_
 obtain⟨x32,hx32,h⟩:=bind_some h
 refine aY.step (xc A8 (qx ad x30.Child x31.Years.From _ hx32)) ?_
 refine aY.cl aa false 5 [0,5,6,8] [] ?_
 refine aY.nx ?_
 refine az aa [0,5,6,82] [] ?_
 refine ai h (fun h=> ?_) fun h=> ?_
 refine az aa [2] [] ?_
 refine ae ?_
 obtain rfl:=inj h
 exact bn (aU (aU (bn (bn (aU (aU (bn (aU (aD (f1 fv))))))))))
 refine ag ?_
 obtain rfl:=inj h
 exact bP (bZ (Le.an))
 refine aE ?_
 refine ab.cl aa 3 [0,5,6] [] ?_
 refine ab.nil ?_
 obtain rfl:=inj h
 exact bZ (Le.an)
 refine aQ ?_
 obtain rfl:=inj h
 exact cn (cr (cq (bP (bZ (Le.an)))))
 refine aE ?_
 refine ab.cl aa 3 [0,5] [] ?_
 refine ab.nil ?_
 obtain rfl:=inj h
 exact bZ (Le.an)
 refine aQ ?_
 obtain rfl:=inj h
 exact cn (cr (cq (bZ (Le.an))))
 refine iy aa ⟨83,[(2,vb true)],[]⟩ ?_
 refine ae ?_
 obtain rfl:=inj h
 exact aD (f1 fv)
theorem wQ:bg Tryz.prog 60:=au Tryz.func60 (by kernel_rfl) rfl
noncomputable def ca(ad:(List Place))(aF:ByteArray):Option (Int):=
 (((cQ (ad.length:Int) (fun(i3:Int) (_:Unit)=>((at' ad i3).bind fun x7=>(bif(x7.Code.toList==aF.toList)then some (.inr (.inr i3))else some (.inl ())))) (fun(_:Unit)=> .inl ()) 0 ())).bind (Sum.elim (fun(_:Unit)=>some (-1)) some))
theorem cD(ad:(List Place))(aF:ByteArray)(r:Int)(h:ca ad aF=some r):aJ Tryz.prog 61 [.v (vl af ad),.v (vs aF)] ⟨[.v (vi r)],[],false⟩:=by
 refine ap Tryz.func61 rfl [(.tmp 4)] rfl (fun r=>⟨[.v (vi r)],[],false⟩) (r:=r) ?_
 unfold ca at h
 refine az aa [0,1] [] ?_
 refine ac ?_
 refine az aa [0,1,5] [] ?_
 refine bi (r:=r) h (fun j1=>⟨20,[],[]⟩) (fun v2 h=> ?_) (fun j1 h=> ?_)
 refine aw (a:=v2) ?_
 refine a7 (r:=v2) (s:=(0,())) _ (fun s3=>⟨20,[(0,vl af ad),(1,vs aF),(5,vi s3.1)],[]⟩) _ (Le.an) h (fun s3 v4 h=> ?_)
 refine ac ?_
 refine az aa [0,1,5,9] [] ?_
 refine ai h (fun h=> ?_) fun h=> ?_
 refine ag ?_
 refine aZ ?_
 refine ac ?_
 refine bp (r:=v4) h (fun j5=>⟨20,[(0,vl af ad),(1,vs aF),(5,vi s3.1)],[]⟩) (fun v6 h=> ?_) (fun j5 h=> ?_)
 refine aw (a:=v6) ?_
 refine sr ?_
 refine ab.cl aa 2 [0,1,5,12,13] [] ?_
 obtain⟨x7,hx7,h⟩:=bind_some h
 refine ab.ls (aG (L:=ad) (f:=af) (ti:=cP) (tj:=cm) (e:=91) (k:= .i64) aa rfl hx7) ?_
 refine bQ aa 4 [0,1,5,18] [] ?_
 refine ai h (fun h=> ?_) fun h=> ?_
 refine az aa [4] [] ?_
 refine ae ?_
 obtain rfl:=inj h
 exact bn (aU (aU (bn (aU (aD (f1 fv))))))
 refine ag ?_
 obtain rfl:=inj h
 exact bP (bZ (Le.an))
 refine aE ?_
 refine ab.cl aa 3 [0,1,5] [] ?_
 refine ab.nil ?_
 obtain rfl:=inj h
 exact bZ (Le.an)
 refine aQ ?_
 obtain rfl:=inj h
 exact cn (cr (cq (bZ (Le.an))))
 refine az aa [4] [] ?_
 refine ae ?_
 obtain rfl:=inj h
 exact aD (f1 fv)
theorem lB:bg Tryz.prog 61:=au Tryz.func61 (by kernel_rfl) rfl
noncomputable def gC(aW:World):Option (Bool):=
 ((((dX aW.Places).bind fun x1=>(bif(!x1)then some true else((eo aW.Links).bind fun x2=>some (!x2))))).bind fun(j3:Bool)=>(bif j3 then some false else(((cQ (aW.Links.length:Int) (fun(i7:Int) (_:Unit)=>((at' aW.Links i7).bind fun x11=>((ca aW.Places x11.Child).bind fun x12=>((ca aW.Places x11.Parent).bind fun x13=>(((bif(decide (x12<0))then some true else(bif(decide (x13<0))then some true else((at' aW.Places x12).bind fun x14=>((at' aW.Places x13).bind fun x15=>(bif(decide (x11.Years.From<(Dn x14.Years.From x15.Years.From)))then some true else((at' aW.Places x12).bind fun x16=>((at' aW.Places x13).bind fun x17=>some (decide (x11.Years.To>(cE x16.Years.To x17.Years.To))))))))))).bind fun(j18:Bool)=>(bif j18 then some (.inr (.inr false))else some (.inl ()))))))) (fun(_:Unit)=> .inl ()) 0 ())).bind (Sum.elim (fun(_:Unit)=>some true) some))))
theorem ln(aW:World)(r:Bool)(h:gC aW=some r):aJ Tryz.prog 25 [.v (.agg (tc aH aW))] ⟨[.v (vb r)],[],false⟩:=by
 refine ap Tryz.func25 rfl [(.tmp 2)] rfl (fun r=>⟨[.v (vb r)],[],false⟩) (r:=r) ?_
 unfold gC at h
 refine az aa [1] [1] ?_
 refine ac ?_
 refine ac ?_
 refine bo h (fun j3=>⟨87,[(1,.ref 1 0),(16,vb j3)],[(1,.box (tc aH aW))]⟩) (fun v4 h=> ?_) (fun j3 h=> ?_)
 refine ab.cl aa 2 [1,8] [1] ?_
 obtain⟨x1,hx1,h⟩:=bind_some h
 refine ab.ls (xc zJ (jP aW.Places _ hx1)) ?_
 refine ab.cl aa 2 [1,11] [1] ?_
 refine ab.cu [(11,fun b=>b)] h (fun h=> ?_) fun h=> ?_
 refine ab.cl aa 5 [1,16] [1] ?_
 refine ab.nil ?_
 obtain rfl:=inj h
 exact Le.an
 refine ab.cl aa 2 [1,11,13] [1] ?_
 obtain⟨x2,hx2,h⟩:=bind_some h
 refine ab.ls (xc wQ (iS aW.Links _ hx2)) ?_
 refine ab.cl aa 2 [1,16] [1] ?_
 refine ab.nil ?_
 obtain rfl:=inj h
 exact Le.an
 refine ai h (fun h=> ?_) fun h=> ?_
 refine az aa [2] [] ?_
 refine ae ?_
 obtain rfl:=inj h
 exact bt (aD (f1 fv))
 refine ag ?_
 refine aZ ?_
 refine ac ?_
 refine az aa [1,3] [1] ?_
 refine bi (r:=r) h (fun j5=>⟨87,[],[]⟩) (fun v6 h=> ?_) (fun j5 h=> ?_)
 refine aw (a:=v6) ?_
 refine a7 (r:=v6) (s:=(0,())) _ (fun s7=>⟨87,[(1,.ref 1 0),(3,vi s7.1)],[(1,.box (tc aH aW))]⟩) _ (Le.an) h (fun s7 v8 h=> ?_)
 refine ac ?_
 refine az aa [1,3,21] [1] ?_
 refine ai h (fun h=> ?_) fun h=> ?_
 refine ag ?_
 refine aZ ?_
 refine ac ?_
 refine bp (r:=v8) h (fun j9=>⟨87,[(1,.ref 1 0),(3,vi s7.1)],[(1,.box (tc aH aW))]⟩) (fun v10 h=> ?_) (fun j9 h=> ?_)
 refine aw (a:=v10) ?_
 refine sr ?_
 refine ab.cl aa 3 [1,3,25,26] [1] ?_
 obtain⟨x11,hx11,h⟩:=bind_some h
 refine ab.ls (aG (L:=aW.Links) (f:=ah) (ti:=dq) (tj:=dr) (e:=85) (k:= .i64) aa rfl hx11) ?_
 refine bQ aa 3 [1,3,4] [1,4] ?_
 refine ac ?_
 refine cO mixed ?_
 refine aY.cl aa false 4 [1,3,4,30,32] [1,4] ?_
 obtain⟨x12,hx12,h⟩:=bind_some h
 refine aY.step (xc lB (cD aW.Places x11.Child _ hx12)) ?_
 refine aY.cl aa false 4 [1,3,4,33,35,37] [1,4] ?_
 obtain⟨x13,hx13,h⟩:=bind_some h
 refine aY.step (xc lB (cD aW.Places x11.Parent _ hx13)) ?_
 refine aY.cl aa false 2 [1,3,4,5,6] [1,4] ?_
 refine aY.nx ?_
 refine ac ?_
 refine jV mixed h (fun j18=>⟨87,[(1,.ref 1 0),(3,vi s7.1),(86,vb j18)],[(1,.box (tc aH aW))]⟩) (fun v19 h=> ?_) (fun j18 h=> ?_)
 refine aY.cl aa false 3 [1,3,4,5,6,41] [1,4] ?_
 refine aY.cu [(41,fun b=>b)] h (fun h=> ?_) fun h=> ?_
 refine aY.cl aa false 45 [1,3,86] [1] ?_
 refine aY.nil (by kernel_rfl) ?_
 obtain rfl:=inj h
 exact Le.an
 refine aY.cl aa false 4 [1,3,4,5,6,45] [1,4] ?_
 refine aY.cu [(45,fun b=>b)] h (fun h=> ?_) fun h=> ?_
 refine aY.cl aa false 41 [1,3,86] [1] ?_
 refine aY.nil (by kernel_rfl) ?_
 obtain rfl:=inj h
 exact Le.an
 refine aY.cl aa false 6 [1,3,4,5,6,45,48,50,51] [1,4] ?_
 obtain⟨x14,hx14,h⟩:=bind_some h
 refine aY.step (aG (L:=aW.Places) (f:=af) (ti:=cP) (tj:=cm) (e:=91) (k:= .i64) aa rfl hx14) ?_
 refine aY.cl aa false 6 [1,3,4,5,6,45,48,55,57,58] [1,4] ?_
 obtain⟨x15,hx15,h⟩:=bind_some h
 refine aY.step (aG (L:=aW.Places) (f:=af) (ti:=cP) (tj:=cm) (e:=91) (k:= .i64) aa rfl hx15) ?_
 refine aY.cl aa false 7 [1,3,4,5,6,66] [1,4] ?_
 refine aY.cu [(66,fun b=>b)] h (fun h=> ?_) fun h=> ?_
 refine aY.cl aa false 20 [1,3,86] [1] ?_
 refine aY.nil (by kernel_rfl) ?_
 obtain rfl:=inj h
 exact Le.an
 refine aY.ck aa false 6 ⟨87,[(1,.ref 1 0),(3,vi s7.1),(6,vi x13),(66,vb false),(69,vi x11.Years.To),(71,vl af aW.Places),(72,vi x12)],[(1,.box (tc aH aW))]⟩ ?_
 obtain⟨x16,hx16,h⟩:=bind_some h
 refine aY.step (aG (L:=aW.Places) (f:=af) (ti:=cP) (tj:=cm) (e:=91) (k:= .i64) aa rfl hx16) ?_
 refine aY.cl aa false 6 [1,3,66,69,76,78,79] [1] ?_
 obtain⟨x17,hx17,h⟩:=bind_some h
 refine aY.step (aG (L:=aW.Places) (f:=af) (ti:=cP) (tj:=cm) (e:=91) (k:= .i64) aa rfl hx17) ?_
 refine aY.cl aa false 6 [1,3,86] [1] ?_
 refine aY.nil (by kernel_rfl) ?_
 obtain rfl:=inj h
 exact Le.an
 refine ai h (fun h=> ?_) fun h=> ?_
 refine az aa [2] [] ?_
 refine ae ?_
 obtain rfl:=inj h
 exact bn (aU (aU (bn (aU (aD (f1 fv))))))
 refine ag ?_
 obtain rfl:=inj h
 exact bP (bZ (Le.an))
 refine aE ?_
 refine ab.cl aa 3 [1,3] [1] ?_
 refine ab.nil ?_
 obtain rfl:=inj h
 exact bZ (Le.an)
 refine aQ ?_
 obtain rfl:=inj h
 exact cn (cr (cq (bZ (Le.an))))
 refine az aa [2] [] ?_
 refine ae ?_
 obtain rfl:=inj h
 exact aD (f1 fv)
theorem zB:bg Tryz.prog 25:=au Tryz.func25 (by kernel_rfl) rfl
noncomputable def gQ(aC:Change):Option (Bool):=
 ((((da aC.Year (-2999) 3000).bind fun x1=>(bif(!x1)then some true else((da aC.Kind 0 3).bind fun x2=>(bif(!x2)then some true else((c5 aC.Code).bind fun x3=>some (!x3))))))).bind fun(j4:Bool)=>(bif j4 then some false else(((bif(aC.Kind==0)then((((db aC.Language).bind fun x8=>(bif(!x8)then some true else((ep aC.Text).bind fun x9=>some (!x9))))).bind fun(j10:Bool)=>(bif j10 then some (.inr false)else some (.inl ())))else(bif((!(aC.Language.toList==(ByteArray.mk #[]).toList)) || (!(aC.Text.toList==(ByteArray.mk #[]).toList)))then some (.inr false)else some (.inl ())))).bind (Sum.elim (fun(_:Unit)=>(bif((aC.Kind==2) || (aC.Kind==3))then((((c5 aC.Other).bind fun x12=>(bif x12 then some (!(aC.Other.toList==aC.Code.toList))else some false))).bind fun(j13:Bool)=>some j13)else some (aC.Other.toList==(ByteArray.mk #[]).toList))) some))))
theorem oG(aC:Change)(r:Bool)(h:gQ aC=some r):aJ Tryz.prog 125 [.v (.agg (tc ak aC))] ⟨[.v (vb r)],[],false⟩:=by
 refine ap Tryz.func125 rfl [(.tmp 2)] rfl (fun r=>⟨[.v (vb r)],[],false⟩) (r:=r) ?_
 unfold gQ at h
 refine az aa [1] [1] ?_
 refine ac ?_
 refine ac ?_
 refine bo h (fun j4=>⟨61,[(1,.ref 1 0),(18,vb j4)],[(1,.box (tc ak aC))]⟩) (fun v5 h=> ?_) (fun j4 h=> ?_)
 refine ab.cl aa 2 [1,4] [1] ?_
 obtain⟨x1,hx1,h⟩:=bind_some h
 refine ab.ls (xc ji (cL aC.Year (-2999) 3000 _ hx1)) ?_
 refine ab.cl aa 2 [1,7] [1] ?_
 refine ab.cu [(7,fun b=>b)] h (fun h=> ?_) fun h=> ?_
 refine ab.cl aa 11 [1,18] [1] ?_
 refine ab.nil ?_
 obtain rfl:=inj h
 exact Le.an
 refine ab.cl aa 2 [1,7,9] [1] ?_
 obtain⟨x2,hx2,h⟩:=bind_some h
 refine ab.ls (xc ji (cL aC.Kind 0 3 _ hx2)) ?_
 refine ab.cl aa 3 [1,13] [1] ?_
 refine ab.cu [(13,fun b=>b)] h (fun h=> ?_) fun h=> ?_
 refine ab.cl aa 5 [1,18] [1] ?_
 refine ab.nil ?_
 obtain rfl:=inj h
 exact Le.an
 refine ab.cl aa 2 [1,13,15] [1] ?_
 obtain⟨x3,hx3,h⟩:=bind_some h
 refine ab.ls (xc kC (c6 aC.Code _ hx3)) ?_
 refine ab.cl aa 2 [1,18] [1] ?_
 refine ab.nil ?_
 obtain rfl:=inj h
 exact Le.an
 refine ai h (fun h=> ?_) fun h=> ?_
 refine iy aa ⟨61,[(2,vb false)],[]⟩ ?_
 refine ae ?_
 obtain rfl:=inj h
 exact bt (aD (f1 fv))
 refine ag ?_
 refine aZ ?_
 refine ac ?_
 refine az aa [1,21] [1] ?_
 refine bi (r:=r) h (fun j6=>⟨61,[(1,.ref 1 0)],[(1,.box (tc ak aC))]⟩) (fun v7 h=> ?_) (fun j6 h=> ?_)
 refine ai h (fun h=> ?_) fun h=> ?_
 refine ac ?_
 refine bo h (fun j10=>⟨61,[(1,.ref 1 0),(31,vb j10)],[(1,.box (tc ak aC))]⟩) (fun v11 h=> ?_) (fun j10 h=> ?_)
 refine ab.cl aa 2 [1,23] [1] ?_
 obtain⟨x8,hx8,h⟩:=bind_some h
 refine ab.ls (xc tJ (gf aC.Language _ hx8)) ?_
 refine ab.cl aa 2 [1,26] [1] ?_
 refine ab.cu [(26,fun b=>b)] h (fun h=> ?_) fun h=> ?_
 refine ab.cl aa 5 [1,31] [1] ?_
 refine ab.nil ?_
 obtain rfl:=inj h
 exact Le.an
 refine ab.cl aa 2 [1,26,28] [1] ?_
 obtain⟨x9,hx9,h⟩:=bind_some h
 refine ab.ls (xc tK (iT aC.Text _ hx9)) ?_
 refine ab.cl aa 2 [1,31] [1] ?_
 refine ab.nil ?_
 obtain rfl:=inj h
 exact Le.an
 refine ai h (fun h=> ?_) fun h=> ?_
 refine az aa [2] [] ?_
 refine ae ?_
 obtain rfl:=inj h
 exact aU (aD (f1 fv))
 refine ag ?_
 obtain rfl:=inj h
 exact bZ (Le.an)
 refine ac ?_
 refine dp ⟨61,[(1,.ref 1 0),(39,vb ((!(aC.Language.toList==(ByteArray.mk #[]).toList)) || (!(aC.Text.toList==(ByteArray.mk #[]).toList))))],[(1,.box (tc ak aC))]⟩ ?_ ?_
 refine ab.ck aa 4 ⟨61,[(1,.ref 1 0),(35,vb (!(aC.Language.toList==(ByteArray.mk #[]).toList)))],[(1,.box (tc ak aC))]⟩ ?_
 generalize (!(aC.Language.toList==(ByteArray.mk #[]).toList))=bb
 cases bb
 refine ab.cl aa 4 [1,39] [1] ?_
 exact ab.nil (Le.an)
 refine ab.cl aa 4 [1,39] [1] ?_
 exact ab.nil (Le.an)
 refine ai h (fun h=> ?_) fun h=> ?_
 refine az aa [2] [] ?_
 refine ae ?_
 obtain rfl:=inj h
 exact aU (aD (f1 fv))
 refine ag ?_
 obtain rfl:=inj h
 exact bZ (Le.an)
 refine ac ?_
 refine ac ?_
 refine dp ⟨61,[(1,.ref 1 0),(47,vb ((aC.Kind==2) || (aC.Kind==3)))],[(1,.box (tc ak aC))]⟩ ?_ ?_
 refine ab.ck aa 4 ⟨61,[(1,.ref 1 0),(43,vb (aC.Kind==2))],[(1,.box (tc ak aC))]⟩ ?_
 generalize (aC.Kind==2)=bb
 cases bb
 refine ab.cl aa 4 [1,47] [1] ?_
 exact ab.nil (Le.an)
 refine ab.cl aa 4 [1,47] [1] ?_
 exact ab.nil (Le.an)
 refine ai h (fun h=> ?_) fun h=> ?_
 refine ac ?_
 refine bo h (fun j13=>⟨61,[(2,vb j13)],[]⟩) (fun v14 h=> ?_) (fun j13 h=> ?_)
 refine ab.cl aa 2 [1,49] [1] ?_
 obtain⟨x12,hx12,h⟩:=bind_some h
 refine ab.ls (xc kC (c6 aC.Other _ hx12)) ?_
 refine ab.cl aa 1 [1,51] [1] ?_
 refine ab.cu [(51,fun b=>b)] h (fun h=> ?_) fun h=> ?_
 refine ab.cl aa 7 [2] [] ?_
 refine ab.nil ?_
 obtain rfl:=inj h
 exact Le.an
 refine ab.cl aa 7 [2] [] ?_
 refine ab.nil ?_
 obtain rfl:=inj h
 exact Le.an
 refine ae ?_
 obtain rfl:=inj h
 exact bt (aD (f1 fv))
 refine ag ?_
 refine aZ ?_
 refine az aa [2] [] ?_
 refine ae ?_
 obtain rfl:=inj h
 exact aD (f1 fv)
theorem Ba:bg Tryz.prog 125:=au Tryz.func125 (by kernel_rfl) rfl
noncomputable def cZ(aP:Place)(aj:Int):Option (Bool):=
 ((da aj aP.Years.From aP.Years.To).bind fun x1=>some x1)
theorem dT(aP:Place)(aj:Int)(r:Bool)(h:cZ aP aj=some r):aJ Tryz.prog 126 [.v (.agg (tc af aP)),.v (vi aj)] ⟨[.v (vb r)],[],false⟩:=by
 refine ap Tryz.func126 rfl [(.tmp 4)] rfl (fun r=>⟨[.v (vb r)],[],false⟩) (r:=r) ?_
 unfold cZ at h
 refine az aa [1,2] [2] ?_
 refine sr ?_
 refine ab.cl aa 7 [5,8,11] [] ?_
 obtain⟨x1,hx1,h⟩:=bind_some h
 refine ab.ls (xc ji (cL aj aP.Years.From aP.Years.To _ hx1)) ?_
 refine bQ aa 1 [4] [] ?_
 refine ae ?_
 obtain rfl:=inj h
 exact aD (f1 fv)
theorem n7:bg Tryz.prog 126:=au Tryz.func126 (by kernel_rfl) rfl
noncomputable def iY(aW:World)(aC:Change):Option (Int):=
 ((((gC aW).bind fun x1=>(bif(!x1)then some true else((gQ aC).bind fun x2=>some (!x2))))).bind fun(j3:Bool)=>(bif j3 then some 1 else((ca aW.Places aC.Code).bind fun x5=>((ca aW.Places aC.Other).bind fun x6=>(bif((decide (x5<0)) || ((!(aC.Other.toList==(ByteArray.mk #[]).toList))&&(decide (x6<0))))then some 4 else((((at' aW.Places x5).bind fun x7=>((cZ x7 (aO (aC.Year - 1))).bind fun x8=>(bif(!x8)then some true else(bif(aC.Kind !=1)then((at' aW.Places x5).bind fun x9=>((cZ x9 aC.Year).bind fun x10=>(bif(!x10)then some true else(bif(!(aC.Other.toList==(ByteArray.mk #[]).toList))then((at' aW.Places x6).bind fun x11=>((cZ x11 aC.Year).bind fun x12=>some (!x12)))else some false))))else(bif(!(aC.Other.toList==(ByteArray.mk #[]).toList))then((at' aW.Places x6).bind fun x13=>((cZ x13 aC.Year).bind fun x14=>some (!x14)))else some false)))))).bind fun(j15:Bool)=>(bif j15 then some 5 else some 0)))))))
theorem pz(aW:World)(aC:Change)(r:Int)(h:iY aW aC=some r):aJ Tryz.prog 68 [.v (.agg (tc aH aW)),.v (.agg (tc ak aC))] ⟨[.v (vi r)],[],false⟩:=by
 refine ap Tryz.func68 rfl [(.tmp 4)] rfl (fun r=>⟨[.v (vi r)],[],false⟩) (r:=r) ?_
 unfold iY at h
 refine az aa [2,3] [2,3] ?_
 refine ac ?_
 refine ac ?_
 refine bo h (fun j3=>⟨78,[(2,.ref 2 0),(3,.ref 3 0),(14,vb j3)],[(2,.box (tc aH aW)),(3,.box (tc ak aC))]⟩) (fun v4 h=> ?_) (fun j3 h=> ?_)
 refine ab.cl aa 1 [2,3,7] [2,3] ?_
 obtain⟨x1,hx1,h⟩:=bind_some h
 refine ab.ls (xc zB (ln aW _ hx1)) ?_
 refine ab.cl aa 2 [2,3,10] [2,3] ?_
 refine ab.cu [(10,fun b=>b)] h (fun h=> ?_) fun h=> ?_
 refine ab.cl aa 4 [2,3,14] [2,3] ?_
 refine ab.nil ?_
 obtain rfl:=inj h
 exact Le.an
 refine ab.cl aa 1 [2,3,10,11] [2,3] ?_
 obtain⟨x2,hx2,h⟩:=bind_some h
 refine ab.ls (xc Ba (oG aC _ hx2)) ?_
 refine ab.cl aa 2 [2,3,14] [2,3] ?_
 refine ab.nil ?_
 obtain rfl:=inj h
 exact Le.an
 refine ai h (fun h=> ?_) fun h=> ?_
 refine iy aa ⟨78,[(4,vi 1)],[]⟩ ?_
 refine ae ?_
 obtain rfl:=inj h
 exact bt (aD (f1 fv))
 refine ag ?_
 refine aZ ?_
 refine ac ?_
 refine cO mixed ?_
 refine aY.cl aa false 4 [2,3,16,18] [2,3] ?_
 obtain⟨x5,hx5,h⟩:=bind_some h
 refine aY.step (xc lB (cD aW.Places aC.Code _ hx5)) ?_
 refine aY.cl aa false 4 [2,3,19,21,23] [2,3] ?_
 obtain⟨x6,hx6,h⟩:=bind_some h
 refine aY.step (xc lB (cD aW.Places aC.Other _ hx6)) ?_
 refine aY.cl aa false 2 [2,3,5,6] [2,3] ?_
 refine aY.nx ?_
 refine ac ?_
 refine ac ?_
 refine dp ⟨78,[(2,.ref 2 0),(3,.ref 3 0),(5,vi x5),(6,vi x6),(35,vb ((decide (x5<0)) || ((!(aC.Other.toList==(ByteArray.mk #[]).toList))&&(decide (x6<0)))))],[(2,.box (tc aH aW)),(3,.box (tc ak aC))]⟩ ?_ ?_
 refine ab.ck aa 3 ⟨78,[(2,.ref 2 0),(3,.ref 3 0),(5,vi x5),(6,vi x6),(27,vb (decide (x5<0)))],[(2,.box (tc aH aW)),(3,.box (tc ak aC))]⟩ ?_
 generalize (decide (x5<0))=bb
 cases bb
 refine ab.ck aa 4 ⟨78,[(2,.ref 2 0),(3,.ref 3 0),(5,vi x5),(6,vi x6),(27,vb false),(31,vb (!(aC.Other.toList==(ByteArray.mk #[]).toList)))],[(2,.box (tc aH aW)),(3,.box (tc ak aC))]⟩ ?_
 generalize (!(aC.Other.toList==(ByteArray.mk #[]).toList))=bb
 cases bb
 refine ab.cl aa 4 [2,3,5,6,35] [2,3] ?_
 exact ab.nil (Le.an)
 refine ab.cl aa 4 [2,3,5,6,35] [2,3] ?_
 exact ab.nil (Le.an)
 refine ab.cl aa 8 [2,3,5,6,35] [2,3] ?_
 exact ab.nil (Le.an)
 refine ai h (fun h=> ?_) fun h=> ?_
 refine iy aa ⟨78,[(4,vi 4)],[]⟩ ?_
 refine ae ?_
 obtain rfl:=inj h
 exact bt (aD (f1 fv))
 refine ag ?_
 refine aZ ?_
 refine ac ?_
 refine ac ?_
 refine jV mixed h (fun j15=>⟨78,[(77,vb j15)],[]⟩) (fun v16 h=> ?_) (fun j15 h=> ?_)
 refine aY.cl aa false 3 [2,3,5,6,37,38] [2,3] ?_
 obtain⟨x7,hx7,h⟩:=bind_some h
 refine aY.step (aG (L:=aW.Places) (f:=af) (ti:=cP) (tj:=cm) (e:=91) (k:= .i64) aa rfl hx7) ?_
 refine aY.cl aa false 4 [2,3,5,6,40,43] [2,3] ?_
 obtain⟨x8,hx8,h⟩:=bind_some h
 refine aY.step (xc n7 (dT x7 (aO (aC.Year - 1)) _ hx8)) ?_
 refine aY.cl aa false 2 [2,3,5,6,46] [2,3] ?_
 refine aY.cu [(46,fun b=>b)] h (fun h=> ?_) fun h=> ?_
 refine aY.cl aa false 31 [77] [] ?_
 refine aY.nil (by kernel_rfl) ?_
 obtain rfl:=inj h
 exact Le.an
 refine aY.cl aa false 4 [2,3,5,6,46,50] [2,3] ?_
 refine aY.cu [(50,fun b=>b)] h (fun h=> ?_) fun h=> ?_
 refine aY.cl aa false 3 [2,3,6,46,50,52,53] [2,3] ?_
 obtain⟨x9,hx9,h⟩:=bind_some h
 refine aY.step (aG (L:=aW.Places) (f:=af) (ti:=cP) (tj:=cm) (e:=91) (k:= .i64) aa rfl hx9) ?_
 refine aY.cl aa false 3 [2,3,6,46,50,55,57] [2,3] ?_
 obtain⟨x10,hx10,h⟩:=bind_some h
 refine aY.step (xc n7 (dT x9 aC.Year _ hx10)) ?_
 refine aY.cl aa false 4 [2,3,6,62] [2,3] ?_
 refine aY.cu [(62,fun b=>b)] h (fun h=> ?_) fun h=> ?_
 refine aY.ck aa false 15 ⟨78,[(77,vb true)],[]⟩ ?_
 refine aY.nil (by kernel_rfl) ?_
 obtain rfl:=inj h
 exact Le.an
 refine aY.cl aa false 4 [2,3,6,62,66] [2,3] ?_
 refine aY.cu [(66,fun b=>b)] h (fun h=> ?_) fun h=> ?_
 refine aY.cl aa false 3 [3,62,66,68,69] [3] ?_
 obtain⟨x11,hx11,h⟩:=bind_some h
 refine aY.step (aG (L:=aW.Places) (f:=af) (ti:=cP) (tj:=cm) (e:=91) (k:= .i64) aa rfl hx11) ?_
 refine aY.cl aa false 3 [62,66,71,73] [] ?_
 obtain⟨x12,hx12,h⟩:=bind_some h
 refine aY.step (xc n7 (dT x11 aC.Year _ hx12)) ?_
 refine aY.cl aa false 3 [77] [] ?_
 refine aY.nil (by kernel_rfl) ?_
 obtain rfl:=inj h
 exact Le.an
 refine aY.cl aa false 11 [77] [] ?_
 refine aY.nil (by kernel_rfl) ?_
 obtain rfl:=inj h
 exact Le.an
 refine aY.cl aa false 16 [2,3,6,62,66] [2,3] ?_
 refine aY.cu [(66,fun b=>b)] h (fun h=> ?_) fun h=> ?_
 refine aY.cl aa false 3 [3,62,66,68,69] [3] ?_
 obtain⟨x13,hx13,h⟩:=bind_some h
 refine aY.step (aG (L:=aW.Places) (f:=af) (ti:=cP) (tj:=cm) (e:=91) (k:= .i64) aa rfl hx13) ?_
 refine aY.cl aa false 3 [62,66,71,73] [] ?_
 obtain⟨x14,hx14,h⟩:=bind_some h
 refine aY.step (xc n7 (dT x13 aC.Year _ hx14)) ?_
 refine aY.ck aa false 3 ⟨78,[(77,vb (!x14))],[]⟩ ?_
 refine aY.nil (by kernel_rfl) ?_
 obtain rfl:=inj h
 exact Le.an
 refine aY.cl aa false 11 [77] [] ?_
 refine aY.nil (by kernel_rfl) ?_
 obtain rfl:=inj h
 exact Le.an
 refine ai h (fun h=> ?_) fun h=> ?_
 refine iy aa ⟨78,[(4,vi 5)],[]⟩ ?_
 refine ae ?_
 obtain rfl:=inj h
 exact bt (aD (f1 fv))
 refine ag ?_
 refine aZ ?_
 refine iy aa ⟨78,[(4,vi 0)],[]⟩ ?_
 refine ae ?_
 obtain rfl:=inj h
 exact aD (f1 fv)
theorem C7:bg Tryz.prog 68:=au Tryz.func68 (by kernel_rfl) rfl
noncomputable def iV(ad:(List Name))(bf:ByteArray)(aj:Int):Option (Int):=
 ((((fG ad).bind fun x1=>(bif(!x1)then some true else((db bf).bind fun x2=>some (!x2))))).bind fun(j3:Bool)=>(bif j3 then some 1 else((cY aj).bind fun x5=>(bif(!x5)then some 2 else some 0))))
theorem pv(ad:(List Name))(bf:ByteArray)(aj:Int)(r:Int)(h:iV ad bf aj=some r):aJ Tryz.prog 174 [.v (vl ar ad),.v (vs bf),.v (vi aj)] ⟨[.v (vi r)],[],false⟩:=by
 refine ap Tryz.func174 rfl [(.tmp 6)] rfl (fun r=>⟨[.v (vi r)],[],false⟩) (r:=r) ?_
 unfold iV at h
 refine az aa [0,1,2] [] ?_
 refine ac ?_
 refine ac ?_
 refine bo h (fun j3=>⟨18,[(2,vi aj),(14,vb j3)],[]⟩) (fun v4 h=> ?_) (fun j3 h=> ?_)
 refine ab.cl aa 1 [1,2,7] [] ?_
 obtain⟨x1,hx1,h⟩:=bind_some h
 refine ab.ls (xc xK (kM ad _ hx1)) ?_
 refine ab.cl aa 2 [1,2,10] [] ?_
 refine ab.cu [(10,fun b=>b)] h (fun h=> ?_) fun h=> ?_
 refine ab.cl aa 4 [2,14] [] ?_
 refine ab.nil ?_
 obtain rfl:=inj h
 exact Le.an
 refine ab.cl aa 1 [2,10,11] [] ?_
 obtain⟨x2,hx2,h⟩:=bind_some h
 refine ab.ls (xc tJ (gf bf _ hx2)) ?_
 refine ab.cl aa 2 [2,14] [] ?_
 refine ab.nil ?_
 obtain rfl:=inj h
 exact Le.an
 refine ai h (fun h=> ?_) fun h=> ?_
 refine iy aa ⟨18,[(6,vi 1)],[]⟩ ?_
 refine ae ?_
 obtain rfl:=inj h
 exact bt (aD (f1 fv))
 refine ag ?_
 refine aZ ?_
 refine ac ?_
 refine sr ?_
 refine ab.cl aa 1 [15] [] ?_
 obtain⟨x5,hx5,h⟩:=bind_some h
 refine ab.ls (xc n8 (eO aj _ hx5)) ?_
 refine bQ aa 1 [17] [] ?_
 refine ai h (fun h=> ?_) fun h=> ?_
 refine iy aa ⟨18,[(6,vi 2)],[]⟩ ?_
 refine ae ?_
 obtain rfl:=inj h
 exact bt (aD (f1 fv))
 refine ag ?_
 refine aZ ?_
 refine iy aa ⟨18,[(6,vi 0)],[]⟩ ?_
 refine ae ?_
 obtain rfl:=inj h
 exact aD (f1 fv)
theorem Bu:bg Tryz.prog 174:=au Tryz.func174 (by kernel_rfl) rfl
noncomputable def jU(ad:(List Name))(aj:Int):Option ((List Int)):=
 (((jq (ad.length:Int) (fun(i3:Int) (s3:(List Int))=>((at' ad i3).bind fun x7=>((at' ad i3).bind fun x8=>((da aj x7.Years.From x8.Years.To).bind fun x9=>(bif x9 then((eg s3 ([i3]:List Int)).bind fun x10=>some x10)else some s3))))) (fun(s3:(List Int))=>s3) 0 ([]:List Int))).bind fun(j1:(List Int))=>some j1)
theorem pw(ad:(List Name))(aj:Int)(r:(List Int))(h:jU ad aj=some r):aJ Tryz.prog 204 [.v (vl ar ad),.v (vi aj)] ⟨[.own 2 1 r.length (r.map (eI .i64))],[],false⟩:=by
 refine ap Tryz.func204 rfl [(.tmp 4)] rfl (fun r=>⟨[.own 2 1 r.length (r.map (eI .i64))],[],false⟩) (r:=r) ?_
 unfold jU at h
 refine az aa [0,1] [] ?_
 refine az aa [0,1,5] [7] ?_
 refine ac ?_
 refine az aa [0,1,5,6] [7] ?_
 refine ba h (fun j1=>⟨33,[(5,.own 5)],[(5,oa 2 1 (eI .i64) j1)]⟩) (fun v2 h=> ?_) (fun j1 h=> ?_)
 refine aw (a:=v2) ?_
 refine a7 (r:=v2) (s:=(0,([]:List Int))) _ (fun s3=>⟨33,[(0,vl ar ad),(1,vi aj),(5,.own 5),(6,vi s3.1)],[(5,oa 2 1 (eI .i64) s3.2)]⟩) _ (Le.rr [7] [(7,5)]) h (fun s3 v4 h=> ?_)
 refine ac ?_
 refine az aa [0,1,5,6,11] [5] ?_
 refine ai h (fun h=> ?_) fun h=> ?_
 refine ag ?_
 refine aZ ?_
 refine ac ?_
 refine ba h (fun j5=>⟨33,[(0,vl ar ad),(1,vi aj),(5,.own 5),(6,vi s3.1)],[(5,oa 2 1 (eI .i64) j5)]⟩) (fun v6 h=> ?_) (fun j5 h=> ?_)
 refine aw (a:=v6) ?_
 refine ac ?_
 refine cO mixed ?_
 refine aY.cl aa false 3 [0,1,5,6,14,15,16] [5] ?_
 obtain⟨x7,hx7,h⟩:=bind_some h
 refine aY.step (aG (L:=ad) (f:=ar) (ti:=dh) (tj:=cK) (e:=169) (k:= .i64) aa rfl hx7) ?_
 refine aY.cl aa false 5 [0,1,5,6,14,20,21,22] [5] ?_
 obtain⟨x8,hx8,h⟩:=bind_some h
 refine aY.step (aG (L:=ad) (f:=ar) (ti:=dh) (tj:=cK) (e:=169) (k:= .i64) aa rfl hx8) ?_
 refine aY.cl aa false 3 [0,1,5,6,14,20,26] [5] ?_
 obtain⟨x9,hx9,h⟩:=bind_some h
 refine aY.step (xc ji (cL aj x7.Years.From x8.Years.To _ hx9)) ?_
 refine aY.nx ?_
 refine ai h (fun h=> ?_) fun h=> ?_
 refine aE ?_
 refine ab.cl aa 3 [0,1,6,28,30] [5,30] ?_
 obtain⟨x10,hx10,h⟩:=bind_some h
 refine ab.bs (bY (f:=(eI .i64)) (t:=144) (ti:=yl) (tj:=ti2) (zs:=[.int .i64 0]) (e:=2) (m:=1) (d:=5) (xv:= .own 30) hx10 aa rfl rfl rfl rfl (dI (e:=2))) ?_
 refine ab.cl aa 1 [0,1,5,6] [31] ?_
 refine ab.nil ?_
 obtain rfl:=inj h
 exact bP (eW (Le.rr [31] [(31,5)]))
 refine ag ?_
 obtain rfl:=inj h
 exact bP (eW (Le.an))
 refine aE ?_
 refine ab.cl aa 3 [0,1,5,6] [5] ?_
 refine ab.nil ?_
 obtain rfl:=inj h
 exact bZ (Le.an)
 refine aQ ?_
 obtain rfl:=inj h
 exact cn (cr (cq (eW (Le.an))))
 refine az aa [4] [5] ?_
 refine ae ?_
 obtain rfl:=inj h
 exact aD (f1 (fo (A0 .i64)))
theorem BN:bg Tryz.prog 204:=au Tryz.func204 (by kernel_rfl) rfl
noncomputable def eP(ad:(List Name))(bf:ByteArray)(aj:Int):Option (Int):=
 ((jU ad aj).bind fun x1=>(((cQ (x1.length:Int) (fun(i4:Int) (_:Unit)=>((at' x1 i4).bind fun x8=>((at' ad x8).bind fun x9=>(bif((x9.Status==0)&&(x9.Language.toList==bf.toList))then((at' x1 i4).bind fun x10=>some (.inr (.inr x10)))else some (.inl ()))))) (fun(_:Unit)=> .inl ()) 0 ())).bind (Sum.elim (fun(_:Unit)=>some (-1)) some)))
theorem mA(ad:(List Name))(bf:ByteArray)(aj:Int)(r:Int)(h:eP ad bf aj=some r):aJ Tryz.prog 175 [.v (vl ar ad),.v (vs bf),.v (vi aj)] ⟨[.v (vi r)],[],false⟩:=by
 refine ap Tryz.func175 rfl [(.tmp 6)] rfl (fun r=>⟨[.v (vi r)],[],false⟩) (r:=r) ?_
 unfold eP at h
 refine az aa [0,1,2] [] ?_
 refine sr ?_
 refine ab.cl aa 2 [0,1,10,11] [] ?_
 obtain⟨x1,hx1,h⟩:=bind_some h
 refine ab.ls (xc BN (pw ad aj _ hx1)) ?_
 refine bQ aa 1 [0,1,7] [12] ?_
 refine ac ?_
 refine az aa [0,1,7,8] [12] ?_
 refine bi (r:=r) h (fun j2=>⟨39,[],[]⟩) (fun v3 h=> ?_) (fun j2 h=> ?_)
 refine aw (a:=v3) ?_
 refine a7 (r:=v3) (s:=(0,())) _ (fun s4=>⟨39,[(0,vl ar ad),(1,vs bf),(7,.own 7),(8,vi s4.1)],[(7,oa 2 1 (eI .i64) x1)]⟩) _ (Le.rr [12] [(12,7)]) h (fun s4 v5 h=> ?_)
 refine ac ?_
 refine az aa [0,1,7,8,16] [7] ?_
 refine ai h (fun h=> ?_) fun h=> ?_
 refine ag ?_
 refine aZ ?_
 refine ac ?_
 refine bp (r:=v5) h (fun j6=>⟨39,[(0,vl ar ad),(1,vs bf),(7,.own 7),(8,vi s4.1)],[(7,oa 2 1 (eI .i64) x1)]⟩) (fun v7 h=> ?_) (fun j6 h=> ?_)
 refine aw (a:=v7) ?_
 refine sr ?_
 refine ab.cl aa 3 [0,1,7,8,19,20,21] [7] ?_
 obtain⟨x8,hx8,h⟩:=bind_some h
 refine ab.ls (bm (d:=7) (L:=x1) (f:=(eI .i64)) (ti:=yl) (tj:=ti2) (e:=2) (e':=2) (m:=1) (k:= .i64) aa rfl hx8) ?_
 refine ab.ls (dB (d:=7) (m:=1) (j:=0) (L:=x1) (f:=(eI .i64)) (ti:=ti2) (e:=2) (v:=vi x8) aa rfl hx8) ?_
 obtain⟨x9,hx9,h⟩:=bind_some h
 refine ab.ls (aG (L:=ad) (f:=ar) (ti:=dh) (tj:=cK) (e:=169) (k:= .i64) aa rfl hx9) ?_
 refine bQ aa 3 [0,1,7,8,9] [7,9] ?_
 refine ac ?_
 refine dp ⟨39,[(0,vl ar ad),(1,vs bf),(7,.own 7),(8,vi s4.1),(34,vb ((x9.Status==0)&&(x9.Language.toList==bf.toList)))],[(7,oa 2 1 (eI .i64) x1)]⟩ ?_ ?_
 refine ab.ck aa 4 ⟨39,[(0,vl ar ad),(1,vs bf),(7,.own 7),(8,vi s4.1),(9,.ref 9 0),(29,vb (x9.Status==0))],[(7,oa 2 1 (eI .i64) x1),(9,.box (tc ar x9))]⟩ ?_
 generalize (x9.Status==0)=bb
 cases bb
 refine ab.cl aa 5 [0,1,7,8,34] [7] ?_
 exact ab.nil (Le.an)
 refine ab.cl aa 5 [0,1,7,8,34] [7] ?_
 exact ab.nil (Le.an)
 refine ai h (fun h=> ?_) fun h=> ?_
 refine sr ?_
 refine ab.cl aa 2 [35,36] [7] ?_
 obtain⟨x10,hx10,h⟩:=bind_some h
 refine ab.ls (bm (d:=7) (L:=x1) (f:=(eI .i64)) (ti:=yl) (tj:=ti2) (e:=2) (e':=2) (m:=1) (k:= .i64) aa rfl hx10) ?_
 refine ab.ls (dB (d:=7) (m:=1) (j:=0) (L:=x1) (f:=(eI .i64)) (ti:=ti2) (e:=2) (v:=vi x10) aa rfl hx10) ?_
 refine bQ aa 1 [6] [] ?_
 refine ae ?_
 obtain rfl:=inj h
 exact bn (aU (aU (bn (aU (aD (f1 fv))))))
 refine ag ?_
 obtain rfl:=inj h
 exact bP (bZ (Le.an))
 refine aE ?_
 refine ab.cl aa 3 [0,1,7,8] [7] ?_
 refine ab.nil ?_
 obtain rfl:=inj h
 exact bZ (Le.an)
 refine aQ ?_
 obtain rfl:=inj h
 exact cn (cr (cq (bZ (Le.an))))
 refine az aa [6] [] ?_
 refine ae ?_
 obtain rfl:=inj h
 exact aD (f1 fv)
theorem Bv:bg Tryz.prog 175:=au Tryz.func175 (by kernel_rfl) rfl
noncomputable def gg(ad:(List Name))(aK:Int)(aj:Int)(de:ByteArray):Option ((List Name)):=
 ((at' ad aK).bind fun x1=>(((jq (ad.length:Int) (fun(i4:Int) (s4:(List Name))=>((at' ad i4).bind fun x8=>(((bif(i4==aK)then(bif(x1.Years.From==aj)then some (.inr s4)else some (.inl (Name.mk x8.Text x8.Language x8.Status (Span.mk x1.Years.From (aO (aj - 1))))))else some (.inl x8))).bind (Sum.elim (fun(j9:Name)=>((eg s4 ([j9]:List Name)).bind fun x11=>some x11)) some)))) (fun(s4:(List Name))=>s4) 0 ([]:List Name))).bind fun(j2:(List Name))=>((eg j2 ([(Name.mk de x1.Language 0 (Span.mk aj x1.Years.To))]:List Name)).bind fun x12=>some x12)))
theorem nL(ad:(List Name))(aK:Int)(aj:Int)(de:ByteArray)(r:(List Name))(h:gg ad aK aj de=some r):aJ Tryz.prog 176 [.v (vl ar ad),.v (vi aK),.v (vi aj),.v (vs de)] ⟨[.own 169 5 r.length (r.map ar)],[],false⟩:=by
 refine ap Tryz.func176 rfl [(.tmp 8)] rfl (fun r=>⟨[.own 169 5 r.length (r.map ar)],[],false⟩) (r:=r) ?_
 unfold gg at h
 refine az aa [0,1,2,3] [] ?_
 refine sr ?_
 refine ab.cl aa 2 [0,1,2,3,13,14] [] ?_
 obtain⟨x1,hx1,h⟩:=bind_some h
 refine ab.ls (aG (L:=ad) (f:=ar) (ti:=dh) (tj:=cK) (e:=169) (k:= .i64) aa rfl hx1) ?_
 refine bQ aa 3 [0,1,2,3,9] [9] ?_
 refine az aa [0,1,2,3,9,10] [9,17] ?_
 refine ac ?_
 refine az aa [0,1,2,3,9,10,11] [9,17] ?_
 refine ba h (fun j2=>⟨59,[(2,vi aj),(3,vs de),(9,.ref 9 0),(10,.own 10)],[(9,.box (tc ar x1)),(10,oa 169 5 ar j2)]⟩) (fun v3 h=> ?_) (fun j2 h=> ?_)
 refine aw (a:=v3) ?_
 refine a7 (r:=v3) (s:=(0,([]:List Name))) _ (fun s4=>⟨59,[(0,vl ar ad),(1,vi aK),(2,vi aj),(3,vs de),(9,.ref 9 0),(10,.own 10),(11,vi s4.1)],[(9,.box (tc ar x1)),(10,oa 169 5 ar s4.2)]⟩) _ (Le.rr [9,17] [(17,10)]) h (fun s4 v5 h=> ?_)
 refine ac ?_
 refine az aa [0,1,2,3,9,10,11,21] [9,10] ?_
 refine ai h (fun h=> ?_) fun h=> ?_
 refine ag ?_
 refine aZ ?_
 refine ac ?_
 refine ba h (fun j6=>⟨59,[(0,vl ar ad),(1,vi aK),(2,vi aj),(3,vs de),(9,.ref 9 0),(10,.own 10),(11,vi s4.1)],[(9,.box (tc ar x1)),(10,oa 169 5 ar j6)]⟩) (fun v7 h=> ?_) (fun j6 h=> ?_)
 refine aw (a:=v7) ?_
 refine sr ?_
 refine ab.cl aa 2 [0,1,2,3,9,10,11,24,25] [9,10] ?_
 obtain⟨x8,hx8,h⟩:=bind_some h
 refine ab.ls (aG (L:=ad) (f:=ar) (ti:=dh) (tj:=cK) (e:=169) (k:= .i64) aa rfl hx8) ?_
 refine bQ aa 3 [0,1,2,3,9,10,11,12] [9,10,12] ?_
 refine ac ?_
 refine az aa [0,1,2,3,9,10,11,12,30] [9,10,12] ?_
 refine bi (r:=v7) h (fun j9=>⟨59,[(0,vl ar ad),(1,vi aK),(2,vi aj),(3,vs de),(9,.ref 9 0),(10,.own 10),(11,vi s4.1),(12,.ref 12 0)],[(9,.box (tc ar x1)),(10,oa 169 5 ar s4.2),(12,.box (tc ar j9))]⟩) (fun v10 h=> ?_) (fun j9 h=> ?_)
 refine ai h (fun h=> ?_) fun h=> ?_
 refine ac ?_
 refine az aa [0,1,2,3,9,10,11,12,35] [9,10,12] ?_
 refine ai h (fun h=> ?_) fun h=> ?_
 refine aQ ?_
 obtain rfl:=inj h
 exact cn (cr (cq (eW (Le.an))))
 refine ag ?_
 refine aZ ?_
 refine aE ?_
 refine ab.cl aa 5 [0,1,2,3,9,10,11,12,38,40] [9,10,12] ?_
 refine ab.ls (br (v:= .agg [vi x1.Years.From,vi (aO (aj - 1))]) aa rfl) ?_
 refine ab.cl aa 2 [0,1,2,3,9,10,11,12] [9,10,12] ?_
 refine ab.nil ?_
 obtain rfl:=inj h
 exact bZ (Le.an)
 refine ag ?_
 obtain rfl:=inj h
 exact bZ (Le.an)
 refine aE ?_
 refine ab.cl aa 3 [0,1,2,3,9,11,43,45] [9,10,45] ?_
 obtain⟨x11,hx11,h⟩:=bind_some h
 refine ab.bs (bY (f:=ar) (t:=89) (ti:=dh) (tj:=cK) (zs:=[.string (ByteArray.mk #[]),.string (ByteArray.mk #[]),.int .i64 0,.int .i64 0,.int .i64 0]) (e:=169) (m:=5) (d:=10) (xv:= .own 45) hx11 aa rfl rfl rfl rfl (dI (e:=169))) ?_
 refine ab.cl aa 1 [0,1,2,3,9,10,11] [9,46] ?_
 refine ab.nil ?_
 obtain rfl:=inj h
 exact bP (eW (Le.rr [9,46] [(46,10)]))
 refine aE ?_
 refine ab.cl aa 3 [0,1,2,3,9,10,11] [9,10] ?_
 refine ab.nil ?_
 obtain rfl:=inj h
 exact bZ (Le.an)
 refine aQ ?_
 obtain rfl:=inj h
 exact cn (cr (cq (eW (Le.an))))
 refine sr ?_
 refine ab.cl aa 8 [47,48,50,51,54] [10] ?_
 refine ab.ls (br (v:= .agg [vi aj,vi x1.Years.To]) aa rfl) ?_
 refine ab.ls (br (v:= .agg [vs de,vs x1.Language,vi 0,vi aj,vi x1.Years.To]) aa rfl) ?_
 refine ab.cl aa 1 [47,57] [10,57] ?_
 obtain⟨x12,hx12,h⟩:=bind_some h
 refine ab.bs (bY (f:=ar) (t:=89) (ti:=dh) (tj:=cK) (zs:=[.string (ByteArray.mk #[]),.string (ByteArray.mk #[]),.int .i64 0,.int .i64 0,.int .i64 0]) (e:=169) (m:=5) (d:=10) (xv:= .own 57) hx12 aa rfl rfl rfl rfl (dI (e:=169))) ?_
 refine ckn aa 1 ⟨59,[(8,.own 58)],[(58,oa 169 5 ar x12)]⟩ ?_
 refine ae ?_
 obtain rfl:=inj h
 exact aD (f1 (fo bE))
theorem Bw:bg Tryz.prog 176:=au Tryz.func176 (by kernel_rfl) rfl
noncomputable def gR(ad:(List Name))(bf:ByteArray)(aj:Int)(de:ByteArray):Option ((List Name)×Int):=
 ((ep de).bind fun x1=>(bif(!x1)then some (([]:List Name),1)else((iV ad bf aj).bind fun x2=>(bif(x2 !=0)then some (([]:List Name),x2)else((eP ad bf aj).bind fun x3=>(bif(decide (x3<0))then some (([]:List Name),4)else((gg ad x3 aj de).bind fun x4=>(bif(decide ((x4.length:Int)>12))then some (([]:List Name),3)else some (x4,0)))))))))
theorem oH(ad:(List Name))(bf:ByteArray)(aj:Int)(de:ByteArray)(r:(List Name)×Int)(h:gR ad bf aj de=some r):aJ Tryz.prog 127 [.v (vl ar ad),.v (vs bf),.v (vi aj),.v (vs de)] ⟨[.own 169 5 r.1.length (r.1.map ar),.v (vi r.2)],[],false⟩:=by
 refine ap Tryz.func127 rfl [(.tmp 8),(.tmp 9)] rfl (fun r=>⟨[.own 169 5 r.1.length (r.1.map ar),.v (vi r.2)],[],false⟩) (r:=r) ?_
 unfold gR at h
 refine az aa [0,1,2,3] [] ?_
 refine ac ?_
 refine sr ?_
 refine ab.cl aa 1 [0,1,2,3,13] [] ?_
 obtain⟨x1,hx1,h⟩:=bind_some h
 refine ab.ls (xc tK (iT de _ hx1)) ?_
 refine bQ aa 1 [0,1,2,3,15] [] ?_
 refine ai h (fun h=> ?_) fun h=> ?_
 refine az aa [8,9] [8] ?_
 refine ae ?_
 obtain rfl:=inj h
 exact bt (aD (f2 (fo bE) fv))
 refine ag ?_
 refine aZ ?_
 refine sr ?_
 refine ab.cl aa 3 [0,1,2,3,16,17,18] [] ?_
 obtain⟨x2,hx2,h⟩:=bind_some h
 refine ab.ls (xc Bu (pv ad bf aj _ hx2)) ?_
 refine bQ aa 1 [0,1,2,3,10] [] ?_
 refine ac ?_
 refine az aa [0,1,2,3,10,21] [] ?_
 refine ai h (fun h=> ?_) fun h=> ?_
 refine az aa [8,9] [8] ?_
 refine ae ?_
 obtain rfl:=inj h
 exact bt (aD (f2 (fo bE) fv))
 refine ag ?_
 refine aZ ?_
 refine sr ?_
 refine ab.ck aa 3 ⟨38,[(0,vl ar ad),(2,vi aj),(3,vs de),(23,vl ar ad),(24,vs bf),(25,vi aj)],[]⟩ ?_
 obtain⟨x3,hx3,h⟩:=bind_some h
 refine ab.ls (xc Bv (mA ad bf aj _ hx3)) ?_
 refine bQ aa 1 [0,2,3,11] [] ?_
 refine ac ?_
 refine az aa [0,2,3,11,28] [] ?_
 refine ai h (fun h=> ?_) fun h=> ?_
 refine az aa [8,9] [8] ?_
 refine ae ?_
 obtain rfl:=inj h
 exact bt (aD (f2 (fo bE) fv))
 refine ag ?_
 refine aZ ?_
 refine sr ?_
 refine ab.cl aa 4 [29,30,31,32] [] ?_
 obtain⟨x4,hx4,h⟩:=bind_some h
 refine ab.ls (xc Bw (nL ad x3 aj de _ hx4)) ?_
 refine bQ aa 1 [12] [33] ?_
 refine ac ?_
 refine az aa [12,36] [33] ?_
 refine ai h (fun h=> ?_) fun h=> ?_
 refine az aa [8,9] [8] ?_
 refine ae ?_
 obtain rfl:=inj h
 exact bt (aD (f2 (fo bE) fv))
 refine ag ?_
 refine aZ ?_
 refine az aa [8,9] [33] ?_
 refine ae ?_
 obtain rfl:=inj h
 exact aD (f2 (fo bE) fv)
theorem Bb:bg Tryz.prog 127:=au Tryz.func127 (by kernel_rfl) rfl
noncomputable def gi(aW:World)(aC:Change):Option (World×Int):=
 ((ca aW.Places aC.Code).bind fun x1=>((at' aW.Places x1).bind fun x2=>((gR x2.Names aC.Language aC.Year aC.Text).bind fun x3=>(bif(x3.2 !=0)then some (aW,x3.2)else((eg ([]:List Place) aW.Places).bind fun x4=>((at' x4 x1).bind fun x5=>some ((World.mk (List.set x4 (Int.toNat x1) (Place.mk x5.Code x5.Class x5.Years x3.1)) aW.Links),0)))))))
theorem nN(aW:World)(aC:Change)(r:World×Int)(h:gi aW aC=some r):aJ Tryz.prog 69 [.v (.agg (tc aH aW)),.v (.agg (tc ak aC))] ⟨[.v (.agg (tc aH r.1)),.v (vi r.2)],[],true⟩:=by
 refine ap Tryz.func69 rfl [(.cell 4 35),(.tmp 5)] rfl (fun r=>⟨[.v (.agg (tc aH r.1)),.v (vi r.2)],[],true⟩) (r:=r) ?_
 unfold gi at h
 refine az aa [2,3,4] [2,3,4] ?_
 refine sr ?_
 refine ab.cl aa 4 [2,3,4,11,13] [2,3,4] ?_
 obtain⟨x1,hx1,h⟩:=bind_some h
 refine ab.ls (xc lB (cD aW.Places aC.Code _ hx1)) ?_
 refine bQ aa 1 [2,3,4,6] [2,3,4] ?_
 refine ac ?_
 refine cO mixed ?_
 refine aY.cl aa false 3 [2,3,4,6,17,18] [2,3,4] ?_
 obtain⟨x2,hx2,h⟩:=bind_some h
 refine aY.step (aG (L:=aW.Places) (f:=af) (ti:=cP) (tj:=cm) (e:=91) (k:= .i64) aa rfl hx2) ?_
 refine aY.cl aa false 8 [2,4,6,21,23,25,27] [2,4] ?_
 obtain⟨x3,hx3,h⟩:=bind_some h
 refine aY.step (xc Bb (oH x2.Names aC.Language aC.Year aC.Text _ hx3)) ?_
 refine aY.cl aa false 5 [2,4,6,7,8] [2,4,28] ?_
 refine aY.nx ?_
 refine ac ?_
 refine az aa [2,4,6,7,8,32] [2,4,28] ?_
 refine ai h (fun h=> ?_) fun h=> ?_
 refine az aa [4,5] [4] ?_
 refine ae ?_
 obtain rfl:=inj h
 exact bt (aD (f2 (lC rfl (cT aa (d:=4) (cs:=[vl af aW.Places,vl ah aW.Links]) (ti:=jA) (by kernel_rfl) (by kernel_rfl) (by kernel_rfl) (by kernel_rfl))) ft))
 refine ag ?_
 refine aZ ?_
 refine sr ?_
 refine ab.ck aa 3 ⟨48,[(2,.ref 2 0),(4,.ref 4 0),(6,vi x1),(7,.own 28),(35,.own 35),(37,vl af aW.Places)],[(2,.box (tc aH aW)),(4,.box [vl af ([]:List Place),vl ah ([]:List ax)]),(28,oa 169 5 ar x3.1),(35,oa 91 5 af ([]:List Place))]⟩ ?_
 obtain⟨x4,hx4,h⟩:=bind_some h
 refine ab.bs (bY (f:=af) (t:=32) (ti:=cP) (tj:=cm) (zs:=[.string (ByteArray.mk #[]),.int .i64 0,.int .i64 0,.int .i64 0,.slice none 0 0]) (e:=91) (m:=5) (d:=35) (xv:=vl af aW.Places) hx4 aa rfl rfl rfl rfl (oO (fun _=>rfl))) ?_
 refine bQ aa 1 [2,4,6,7,9] [2,4,28,38] ?_
 refine sr ?_
 refine ab.cl aa 3 [2,4,9,39,40,41] [2,4,28,38] ?_
 obtain⟨x5,hx5,h⟩:=bind_some h
 refine ab.ls (bm (d:=38) (L:=x4) (f:=af) (ti:=cP) (tj:=cm) (e:=91) (e':=91) (m:=5) (k:= .i64) aa rfl hx5) ?_
 refine ab.cl aa 1 [2,4,9,41,43] [2,4,28,38] ?_
 refine ab.le (Le.rj (d:=28) (e:=169) (m:=5) (n:=x3.1.length) (es:=x3.1.map ar) (by kernel_rfl) (by kernel_rfl)) ?_
 refine ab.bs (bH (d:=38) (m:=5) (j:=4) (L:=x4) (f:=af) (x:=(Place.mk x5.Code x5.Class x5.Years x3.1)) (z:=x5) (ti:=dh) (e:=91) (ts:=[.sl x3.1.length (x3.1.map ar)]) (vs:=[vl ar x3.1]) (v:=vl ar x3.1) aa rfl rfl hx5) ?_
 refine ab.nx ?_
 refine sr ?_
 refine ab.cl aa 3 [4,44,46] [4,38] ?_
 refine ab.ls (br (v:= .agg [.own 38,vl ah aW.Links]) aa rfl) ?_
 refine bQ aa 2 [4,5] [4,38] ?_
 refine cj (Le.rj (d:=38) (e:=91) (m:=5) (n:=(List.set x4 (Int.toNat x1) (Place.mk x5.Code x5.Class x5.Years x3.1)).length) (es:=(List.set x4 (Int.toNat x1) (Place.mk x5.Code x5.Class x5.Years x3.1)).map af) (by kernel_rfl) (by kernel_rfl)) ?_
 refine ae ?_
 obtain rfl:=inj h
 exact aD (f2 (lC rfl (cT aa (d:=4) (cs:=[vl af (List.set x4 (Int.toNat x1) (Place.mk x5.Code x5.Class x5.Years x3.1)),vl ah aW.Links]) (ti:=jA) (by kernel_rfl) (by kernel_rfl) (by kernel_rfl) (by kernel_rfl))) ft)
theorem C8:bg Tryz.prog 69:=au Tryz.func69 (by kernel_rfl) rfl
noncomputable def ee(aW:World)(aF:ByteArray)(jE:ByteArray)(aj:Int):Option ((List ax)):=
 ((ca aW.Places aF).bind fun x1=>((at' aW.Places x1).bind fun x2=>((ca aW.Places jE).bind fun x3=>((at' aW.Places x3).bind fun x4=>(((jq (aW.Links.length:Int) (fun(i7:Int) (s7:Int×(List ax))=>((at' aW.Links i7).bind fun x11=>(((bif(x11.Child.toList==aF.toList)then(bif(decide (x11.Years.From>aj))then some ((cE s7.1 (aO (x11.Years.From - 1))),x11)else some (s7.1,(ax.mk x11.Child x11.Parent (Span.mk x11.Years.From (cE x11.Years.To (aO (aj - 1)))))))else some (s7.1,x11))).bind fun(j12:Int×ax)=>(bif(decide (j12.2.Years.From≤j12.2.Years.To))then((eg s7.2 ([j12.2]:List ax)).bind fun x14=>some (j12.1,x14))else some (j12.1,s7.2))))) (fun(s7:Int×(List ax))=>(s7.1,s7.2)) 0 ((cE x2.Years.To x4.Years.To),([]:List ax)))).bind fun(j5:Int×(List ax))=>((eg j5.2 ([(ax.mk aF jE (Span.mk aj j5.1))]:List ax)).bind fun x15=>some x15))))))
theorem lq(aW:World)(aF:ByteArray)(jE:ByteArray)(aj:Int)(r:(List ax))(h:ee aW aF jE aj=some r):aJ Tryz.prog 71 [.v (.agg (tc aH aW)),.v (vs aF),.v (vs jE),.v (vi aj)] ⟨[.v (vl ah r)],[],true⟩:=by
 refine ap Tryz.func71 rfl [(.tmp 8)] rfl (fun r=>⟨[.v (vl ah r)],[],true⟩) (r:=r) ?_
 unfold ee at h
 refine az aa [1,2,3,4] [4] ?_
 refine ac ?_
 refine cO mixed ?_
 refine aY.cl aa false 5 [1,2,3,4,16,18,19] [4] ?_
 obtain⟨x1,hx1,h⟩:=bind_some h
 refine aY.step (xc lB (cD aW.Places aF _ hx1)) ?_
 obtain⟨x2,hx2,h⟩:=bind_some h
 refine aY.step (aG (L:=aW.Places) (f:=af) (ti:=cP) (tj:=cm) (e:=91) (k:= .i64) aa rfl hx2) ?_
 refine aY.cl aa false 6 [1,2,3,4,22,24,26,27] [4] ?_
 obtain⟨x3,hx3,h⟩:=bind_some h
 refine aY.step (xc lB (cD aW.Places jE _ hx3)) ?_
 obtain⟨x4,hx4,h⟩:=bind_some h
 refine aY.step (aG (L:=aW.Places) (f:=af) (ti:=cP) (tj:=cm) (e:=91) (k:= .i64) aa rfl hx4) ?_
 refine aY.cl aa false 3 [1,2,3,4,9,10,22,30] [4,9,10] ?_
 refine aY.xu [9] (se (d:=9) (k:=0) (ti:=cm) (cs:=[vs (ByteArray.mk #[]),vi 0,vi 0,vi 0,vl ar ([]:List Name)]) (vs:=[vs x2.Code,vi x2.Class,vi x2.Years.From,vi x2.Years.To,vl ar x2.Names]) (v:= .agg (tc af x2)) aa rfl rfl) ?_
 refine aY.seq (by kernel_rfl) (by kernel_rfl) ?_
 refine bQ aa 1 [1,2,3,4,9,10] [4,9,10] ?_
 refine az aa [1,2,3,4,11] [4] ?_
 refine az aa [1,2,3,4,11,12] [4,38] ?_
 refine ac ?_
 refine az aa [1,2,3,4,11,12,13] [4,38] ?_
 refine ba h (fun j5=>⟨97,[(1,vs aF),(2,vs jE),(3,vi aj),(11,vi j5.1),(12,.own 12)],[(12,oa 85 4 ah j5.2)]⟩) (fun v6 h=> ?_) (fun j5 h=> ?_)
 refine aw (a:=v6) ?_
 refine a7 (r:=v6) (s:=(0,(cE x2.Years.To x4.Years.To),([]:List ax))) _ (fun s7=>⟨97,[(1,vs aF),(2,vs jE),(3,vi aj),(4,.ref 4 0),(11,vi s7.2.1),(12,.own 12),(13,vi s7.1)],[(4,.box (tc aH aW)),(12,oa 85 4 ah s7.2.2)]⟩) _ (Le.rr [4,38] [(38,12)]) h (fun s7 v8 h=> ?_)
 refine ac ?_
 refine az aa [1,2,3,4,11,12,13,43] [4,12] ?_
 refine ai h (fun h=> ?_) fun h=> ?_
 refine ag ?_
 refine aZ ?_
 refine ac ?_
 refine ba h (fun j9=>⟨97,[(1,vs aF),(2,vs jE),(3,vi aj),(4,.ref 4 0),(11,vi j9.1),(12,.own 12),(13,vi s7.1)],[(4,.box (tc aH aW)),(12,oa 85 4 ah j9.2)]⟩) (fun v10 h=> ?_) (fun j9 h=> ?_)
 refine aw (a:=v10) ?_
 refine sr ?_
 refine ab.cl aa 3 [1,2,3,4,11,12,13,47,48] [4,12] ?_
 obtain⟨x11,hx11,h⟩:=bind_some h
 refine ab.ls (aG (L:=aW.Links) (f:=ah) (ti:=dq) (tj:=dr) (e:=85) (k:= .i64) aa rfl hx11) ?_
 refine bQ aa 3 [1,2,3,4,11,12,13,14] [4,12,14] ?_
 refine ac ?_
 refine az aa [1,2,3,4,11,12,13,14,54] [4,12,14] ?_
 refine ba h (fun j12=>⟨97,[(1,vs aF),(2,vs jE),(3,vi aj),(4,.ref 4 0),(11,vi j12.1),(12,.own 12),(13,vi s7.1),(14,.ref 14 0)],[(4,.box (tc aH aW)),(12,oa 85 4 ah s7.2.2),(14,.box (tc ah j12.2))]⟩) (fun v13 h=> ?_) (fun j12 h=> ?_)
 refine ai h (fun h=> ?_) fun h=> ?_
 refine az aa [1,2,3,4,11,12,13,14,59] [4,12,14] ?_
 refine ai h (fun h=> ?_) fun h=> ?_
 refine aE ?_
 refine ab.cl aa 7 [1,2,3,4,11,12,13,14] [4,12,14] ?_
 refine ab.nil ?_
 obtain rfl:=inj h
 exact eW (Le.an)
 refine aE ?_
 refine ab.cl aa 9 [1,2,3,4,11,12,13,14,68,74] [4,12,14] ?_
 refine ab.ls (br (v:= .agg [vi x11.Years.From,vi (cE x11.Years.To (aO (aj - 1)))]) aa rfl) ?_
 refine ab.cl aa 2 [1,2,3,4,11,12,13,14] [4,12,14] ?_
 refine ab.nil ?_
 obtain rfl:=inj h
 exact eW (Le.an)
 refine ag ?_
 obtain rfl:=inj h
 exact eW (Le.an)
 refine az aa [1,2,3,4,11,12,13,14,83] [4,12,14] ?_
 refine ai h (fun h=> ?_) fun h=> ?_
 refine aE ?_
 refine ab.cl aa 3 [1,2,3,4,11,13,84,86] [4,12,86] ?_
 obtain⟨x14,hx14,h⟩:=bind_some h
 refine ab.bs (bY (f:=ah) (t:=33) (ti:=dq) (tj:=dr) (zs:=[.string (ByteArray.mk #[]),.string (ByteArray.mk #[]),.int .i64 0,.int .i64 0]) (e:=85) (m:=4) (d:=12) (xv:= .own 86) hx14 aa rfl rfl rfl rfl (dI (e:=85))) ?_
 refine ab.cl aa 1 [1,2,3,4,11,12,13] [4,87] ?_
 refine ab.nil ?_
 obtain rfl:=inj h
 exact bP (eW (Le.rr [4,87] [(87,12)]))
 refine ag ?_
 obtain rfl:=inj h
 exact bP (eW (Le.an))
 refine aE ?_
 refine ab.cl aa 3 [1,2,3,4,11,12,13] [4,12] ?_
 refine ab.nil ?_
 obtain rfl:=inj h
 exact bZ (Le.an)
 refine aQ ?_
 obtain rfl:=inj h
 exact cn (cr (cq (eW (Le.an))))
 refine sr ?_
 refine ab.ck aa 5 ⟨97,[(88,.own 12),(89,vs aF),(90,vs jE),(91,vi aj),(92,vi j5.1)],[(12,oa 85 4 ah j5.2)]⟩ ?_
 refine ab.ls (br (v:= .agg [vi aj,vi j5.1]) aa rfl) ?_
 refine ab.ls (br (v:= .agg [vs aF,vs jE,vi aj,vi j5.1]) aa rfl) ?_
 refine ab.cl aa 1 [88,95] [12,95] ?_
 obtain⟨x15,hx15,h⟩:=bind_some h
 refine ab.bs (bY (f:=ah) (t:=33) (ti:=dq) (tj:=dr) (zs:=[.string (ByteArray.mk #[]),.string (ByteArray.mk #[]),.int .i64 0,.int .i64 0]) (e:=85) (m:=4) (d:=12) (xv:= .own 95) hx15 aa rfl rfl rfl rfl (dI (e:=85))) ?_
 refine bQ aa 1 [8] [96] ?_
 refine cj (Le.rj (d:=96) (e:=85) (m:=4) (n:=x15.length) (es:=x15.map ah) (by kernel_rfl) (by kernel_rfl)) ?_
 refine ae ?_
 obtain rfl:=inj h
 exact aD (f1 ft)
theorem zL:bg Tryz.prog 71:=au Tryz.func71 (by kernel_rfl) rfl
noncomputable def dL(aW:World)(lz:(List ax)):Option (World×Int):=
 (bif(decide ((lz.length:Int)>20))then some (aW,3)else((eo lz).bind fun x1=>(bif(!x1)then some (aW,5)else some ((World.mk aW.Places lz),0))))
theorem kN(aW:World)(lz:(List ax))(r:World×Int)(h:dL aW lz=some r):aJ Tryz.prog 70 [.v (.agg (tc aH aW)),.v (vl ah lz)] ⟨[.v (.agg (tc aH r.1)),.v (vi r.2)],[],true⟩:=by
 refine ap Tryz.func70 rfl [(.cell 4 35),(.tmp 5)] rfl (fun r=>⟨[.v (.agg (tc aH r.1)),.v (vi r.2)],[],true⟩) (r:=r) ?_
 unfold dL at h
 refine az aa [1,2,4] [2,4] ?_
 refine ac ?_
 refine az aa [1,2,4,8] [2,4] ?_
 refine ai h (fun h=> ?_) fun h=> ?_
 refine az aa [4,5] [4] ?_
 refine ae ?_
 obtain rfl:=inj h
 exact bt (aD (f2 (lC rfl (cT aa (d:=4) (cs:=[vl af aW.Places,vl ah aW.Links]) (ti:=jA) (by kernel_rfl) (by kernel_rfl) (by kernel_rfl) (by kernel_rfl))) ft))
 refine ag ?_
 refine aZ ?_
 refine ac ?_
 refine sr ?_
 refine ab.cl aa 1 [1,2,4,10] [2,4] ?_
 obtain⟨x1,hx1,h⟩:=bind_some h
 refine ab.ls (xc wQ (iS lz _ hx1)) ?_
 refine bQ aa 1 [1,2,4,12] [2,4] ?_
 refine ai h (fun h=> ?_) fun h=> ?_
 refine az aa [4,5] [4] ?_
 refine ae ?_
 obtain rfl:=inj h
 exact bt (aD (f2 (lC rfl (cT aa (d:=4) (cs:=[vl af aW.Places,vl ah aW.Links]) (ti:=jA) (by kernel_rfl) (by kernel_rfl) (by kernel_rfl) (by kernel_rfl))) ft))
 refine ag ?_
 refine aZ ?_
 refine sr ?_
 refine ab.cl aa 3 [4,15,16] [4] ?_
 refine ab.ls (br (v:= .agg [vl af aW.Places,vl ah lz]) aa rfl) ?_
 refine bQ aa 2 [4,5] [4] ?_
 refine ae ?_
 obtain rfl:=inj h
 exact aD (f2 (lC rfl (cT aa (d:=4) (cs:=[vl af aW.Places,vl ah lz]) (ti:=jA) (by kernel_rfl) (by kernel_rfl) (by kernel_rfl) (by kernel_rfl))) ft)
theorem zK:bg Tryz.prog 70:=au Tryz.func70 (by kernel_rfl) rfl
noncomputable def iX(ad:(List ax))(aF:ByteArray)(aj:Int):Option (Int):=
 ((((eo ad).bind fun x1=>(bif(!x1)then some true else((c5 aF).bind fun x2=>some (!x2))))).bind fun(j3:Bool)=>(bif j3 then some 1 else((cY aj).bind fun x5=>(bif(!x5)then some 2 else some 0))))
theorem py(ad:(List ax))(aF:ByteArray)(aj:Int)(r:Int)(h:iX ad aF aj=some r):aJ Tryz.prog 128 [.v (vl ah ad),.v (vs aF),.v (vi aj)] ⟨[.v (vi r)],[],false⟩:=by
 refine ap Tryz.func128 rfl [(.tmp 6)] rfl (fun r=>⟨[.v (vi r)],[],false⟩) (r:=r) ?_
 unfold iX at h
 refine az aa [0,1,2] [] ?_
 refine ac ?_
 refine ac ?_
 refine bo h (fun j3=>⟨18,[(2,vi aj),(14,vb j3)],[]⟩) (fun v4 h=> ?_) (fun j3 h=> ?_)
 refine ab.cl aa 1 [1,2,7] [] ?_
 obtain⟨x1,hx1,h⟩:=bind_some h
 refine ab.ls (xc wQ (iS ad _ hx1)) ?_
 refine ab.cl aa 2 [1,2,10] [] ?_
 refine ab.cu [(10,fun b=>b)] h (fun h=> ?_) fun h=> ?_
 refine ab.cl aa 4 [2,14] [] ?_
 refine ab.nil ?_
 obtain rfl:=inj h
 exact Le.an
 refine ab.cl aa 1 [2,10,11] [] ?_
 obtain⟨x2,hx2,h⟩:=bind_some h
 refine ab.ls (xc kC (c6 aF _ hx2)) ?_
 refine ab.cl aa 2 [2,14] [] ?_
 refine ab.nil ?_
 obtain rfl:=inj h
 exact Le.an
 refine ai h (fun h=> ?_) fun h=> ?_
 refine iy aa ⟨18,[(6,vi 1)],[]⟩ ?_
 refine ae ?_
 obtain rfl:=inj h
 exact bt (aD (f1 fv))
 refine ag ?_
 refine aZ ?_
 refine ac ?_
 refine sr ?_
 refine ab.cl aa 1 [15] [] ?_
 obtain⟨x5,hx5,h⟩:=bind_some h
 refine ab.ls (xc n8 (eO aj _ hx5)) ?_
 refine bQ aa 1 [17] [] ?_
 refine ai h (fun h=> ?_) fun h=> ?_
 refine iy aa ⟨18,[(6,vi 2)],[]⟩ ?_
 refine ae ?_
 obtain rfl:=inj h
 exact bt (aD (f1 fv))
 refine ag ?_
 refine aZ ?_
 refine iy aa ⟨18,[(6,vi 0)],[]⟩ ?_
 refine ae ?_
 obtain rfl:=inj h
 exact aD (f1 fv)
theorem Bc:bg Tryz.prog 128:=au Tryz.func128 (by kernel_rfl) rfl
noncomputable def dm(ad:(List ByteArray))(aS:ByteArray):Option ((List ByteArray)):=
 (((loop (fun(s3:Int)=>(((bif(decide (s3<(ad.length:Int)))then((at' ad s3).bind fun x5=>some (Op.bytesLess x5.toList aS.toList))else some false)).bind fun(j6:Bool)=>(bif j6 then some (.inl (aO (s3+1)))else some (.inr s3)))) 0)).bind fun(j1:Int)=>(((bif(decide (j1<(ad.length:Int)))then((at' ad j1).bind fun x8=>some (x8.toList==aS.toList))else some false)).bind fun(j9:Bool)=>(bif j9 then some ad else((ni ad 0 j1).bind fun x11=>((eg ([]:List ByteArray) x11).bind fun x12=>((eg x12 ([aS]:List ByteArray)).bind fun x13=>((ni ad j1 (ad.length:Int)).bind fun x14=>((eg x13 x14).bind fun x15=>some x15))))))))
theorem kx(ad:(List ByteArray))(aS:ByteArray)(r:(List ByteArray))(h:dm ad aS=some r):aJ Tryz.prog 178 [.v (vl eS ad),.v (vs aS)] ⟨[.v (vl eS r)],[],true⟩:=by
 refine ap Tryz.func178 rfl [(.tmp 4)] rfl (fun r=>⟨[.v (vl eS r)],[],true⟩) (r:=r) ?_
 unfold dm at h
 refine az aa [0,1] [] ?_
 refine az aa [0,1,5] [] ?_
 refine ac ?_
 refine ba h (fun j1=>⟨45,[(0,vl eS ad),(1,vs aS),(5,vi j1)],[]⟩) (fun v2 h=> ?_) (fun j1 h=> ?_)
 refine aw (a:=v2) ?_
 refine a7 (r:=v2) (s:=0) _ (fun s3=>⟨45,[(0,vl eS ad),(1,vs aS),(5,vi s3)],[]⟩) _ (Le.an) h (fun s3 v4 h=> ?_)
 refine ac ?_
 refine ac ?_
 refine bo h (fun j6=>⟨45,[(0,vl eS ad),(1,vs aS),(5,vi s3),(17,vb j6)],[]⟩) (fun v7 h=> ?_) (fun j6 h=> ?_)
 refine ab.cl aa 5 [0,1,5,10] [] ?_
 refine ab.cu [(10,fun b=>b)] h (fun h=> ?_) fun h=> ?_
 refine ab.cl aa 2 [0,1,5,10,11,12] [] ?_
 obtain⟨x5,hx5,h⟩:=bind_some h
 refine ab.ls (aG (L:=ad) (f:=eS) (ti:=cF) (tj:=gl) (e:=9) (k:= .i64) aa rfl hx5) ?_
 refine ab.cl aa 4 [0,1,5,17] [] ?_
 refine ab.nil ?_
 obtain rfl:=inj h
 exact Le.an
 refine ab.cl aa 7 [0,1,5,17] [] ?_
 refine ab.nil ?_
 obtain rfl:=inj h
 exact Le.an
 refine ai h (fun h=> ?_) fun h=> ?_
 refine ag ?_
 refine aZ ?_
 refine aw (a:=v4) ?_
 refine aE ?_
 refine ab.cl aa 3 [0,1,5] [] ?_
 refine ab.nil ?_
 obtain rfl:=inj h
 exact bP (bZ (Le.an))
 refine aQ ?_
 obtain rfl:=inj h
 exact cn (cr (cq (eW (Le.an))))
 refine ac ?_
 refine ac ?_
 refine bo h (fun j9=>⟨45,[(0,vl eS ad),(1,vs aS),(5,vi j1),(31,vb j9)],[]⟩) (fun v10 h=> ?_) (fun j9 h=> ?_)
 refine ab.cl aa 5 [0,1,5,24] [] ?_
 refine ab.cu [(24,fun b=>b)] h (fun h=> ?_) fun h=> ?_
 refine ab.cl aa 2 [0,1,5,24,25,26] [] ?_
 obtain⟨x8,hx8,h⟩:=bind_some h
 refine ab.ls (aG (L:=ad) (f:=eS) (ti:=cF) (tj:=gl) (e:=9) (k:= .i64) aa rfl hx8) ?_
 refine ab.cl aa 4 [0,1,5,31] [] ?_
 refine ab.nil ?_
 obtain rfl:=inj h
 exact Le.an
 refine ab.cl aa 7 [0,1,5,31] [] ?_
 refine ab.nil ?_
 obtain rfl:=inj h
 exact Le.an
 refine ai h (fun h=> ?_) fun h=> ?_
 refine az aa [4] [] ?_
 refine ae ?_
 obtain rfl:=inj h
 exact bt (aD (f1 ft))
 refine ag ?_
 refine aZ ?_
 refine ac ?_
 obtain⟨x11,hx11,h⟩:=bind_some h
 obtain⟨x12,hx12,h⟩:=bind_some h
 obtain⟨x13,hx13,h⟩:=bind_some h
 obtain⟨x14,hx14,h⟩:=bind_some h
 obtain⟨x15,hx15,h⟩:=bind_some h
 refine cO mixed ?_
 refine aY.BT (σE:=⟨45,[(4,.own 44)],[(44,oa 9 1 eS x15)]⟩) (n:=13) (L0:=(bA 13 0)) (by kernel_rfl) (by kernel_rfl) (fun K hk=> ?_) ?_
 refine DE.sh 0 (bA 13 8191) ⟨45,[(4,.own 44)],[(44,oa 9 1 eS x15)]⟩ ?_ fun d28=> ?_
 exact DE.done (by kernel_rfl) hk
 refine DE.sh 1 (bA 13 4095) ⟨45,[(44,.own 44)],[(44,oa 9 1 eS x15)]⟩ ?_ fun d27=> ?_
 exact DE.tk 12 d28 rfl (.inr rfl) (ay.n aa)
 refine DE.sh 2 (bA 13 2047) ⟨45,[(40,.own 40),(43,vl eS x14)],[(40,oa 9 1 eS x13)]⟩ ?_ fun d26=> ?_
 exact DE.a1 11 d27 rfl (ay.le (bY (f:=eS) (t:=106) (ti:=cF) (tj:=gl) (zs:=[.string (ByteArray.mk #[])]) (e:=9) (m:=1) (d:=40) (xv:=vl eS x14) hx15 aa rfl rfl rfl rfl (oO (fun _=>rfl))) Le.an)
 refine DE.sh 3 (bA 13 1919) ⟨45,[(37,.own 37),(39,.own 39),(43,vl eS x14)],[(37,oa 9 1 eS x12),(39,oa 9 1 eS ([aS]:List ByteArray))]⟩ ?_ fun d25=> ?_
 exact DE.a1 7 d26 rfl (ay.le (bY (f:=eS) (t:=106) (ti:=cF) (tj:=gl) (zs:=[.string (ByteArray.mk #[])]) (e:=9) (m:=1) (d:=37) (xv:= .own 39) hx13 aa rfl rfl rfl rfl (dI (e:=9))) Le.an)
 refine DE.sh 3 (bA 13 1023) ⟨45,[(40,.own 40),(41,vl eS ad),(42,vi j1)],[(40,oa 9 1 eS x13)]⟩ ?_ fun d24=> ?_
 exact DE.a1 10 d26 rfl (ay.l (di (m:=1) (f:=eS) (ti:=cF) (tj:=gl) (e:=9) hx14 (fun _=>rfl) aa rfl))
 refine DE.sh 4 (bA 13 1903) ⟨45,[(33,.own 33),(36,vl eS x11),(39,.own 39),(43,vl eS x14)],[(33,oa 9 1 eS ([]:List ByteArray)),(39,oa 9 1 eS ([aS]:List ByteArray))]⟩ ?_ fun d23=> ?_
 exact DE.a1 4 d25 rfl (ay.le (bY (f:=eS) (t:=106) (ti:=cF) (tj:=gl) (zs:=[.string (ByteArray.mk #[])]) (e:=9) (m:=1) (d:=33) (xv:=vl eS x11) hx12 aa rfl rfl rfl rfl (oO (fun _=>rfl))) Le.an)
 refine DE.sh 4 (bA 13 1855) ⟨45,[(37,.own 37),(38,vs aS),(43,vl eS x14)],[(37,oa 9 1 eS x12)]⟩ ?_ fun d22=> ?_
 exact DE.a1 6 d25 rfl (ay.n aa)
 refine DE.sh 4 (bA 13 895) ⟨45,[(37,.own 37),(39,.own 39),(41,vl eS ad),(42,vi j1)],[(37,oa 9 1 eS x12),(39,oa 9 1 eS ([aS]:List ByteArray))]⟩ ?_ fun d21=> ?_
 exact DE.al (.c 7 d24 rfl (ay.le (bY (f:=eS) (t:=106) (ti:=cF) (tj:=gl) (zs:=[.string (ByteArray.mk #[])]) (e:=9) (m:=1) (d:=37) (xv:= .own 39) hx13 aa rfl rfl rfl rfl (dI (e:=9))) Le.an) (.c 10 d25 rfl (ay.l (di (m:=1) (f:=eS) (ti:=cF) (tj:=gl) (e:=9) hx14 (fun _=>rfl) aa rfl)) .n))
 refine DE.sh 5 (bA 13 1902) ⟨45,[(36,vl eS x11),(39,.own 39),(43,vl eS x14)],[(39,oa 9 1 eS ([aS]:List ByteArray))]⟩ ?_ fun d20=> ?_
 exact DE.a1 0 d23 rfl (ay.n aa)
 refine DE.sh 5 (bA 13 1895) ⟨45,[(33,.own 33),(34,vl eS ad),(35,vi j1),(39,.own 39),(43,vl eS x14)],[(33,oa 9 1 eS ([]:List ByteArray)),(39,oa 9 1 eS ([aS]:List ByteArray))]⟩ ?_ fun d19=> ?_
 exact DE.a1 3 d23 rfl (ay.l (di (m:=1) (f:=eS) (ti:=cF) (tj:=gl) (e:=9) hx11 (fun _=>rfl) aa rfl))
 refine DE.sh 5 (bA 13 1839) ⟨45,[(33,.own 33),(36,vl eS x11),(38,vs aS),(43,vl eS x14)],[(33,oa 9 1 eS ([]:List ByteArray))]⟩ ?_ fun d18=> ?_
 exact DE.al (.c 4 d22 rfl (ay.le (bY (f:=eS) (t:=106) (ti:=cF) (tj:=gl) (zs:=[.string (ByteArray.mk #[])]) (e:=9) (m:=1) (d:=33) (xv:=vl eS x11) hx12 aa rfl rfl rfl rfl (oO (fun _=>rfl))) Le.an) (.c 6 d23 rfl (ay.n aa) .n))
 refine DE.sh 5 (bA 13 879) ⟨45,[(33,.own 33),(36,vl eS x11),(39,.own 39),(41,vl eS ad),(42,vi j1)],[(33,oa 9 1 eS ([]:List ByteArray)),(39,oa 9 1 eS ([aS]:List ByteArray))]⟩ ?_ fun d17=> ?_
 exact DE.al (.c 4 d21 rfl (ay.le (bY (f:=eS) (t:=106) (ti:=cF) (tj:=gl) (zs:=[.string (ByteArray.mk #[])]) (e:=9) (m:=1) (d:=33) (xv:=vl eS x11) hx12 aa rfl rfl rfl rfl (oO (fun _=>rfl))) Le.an) (.c 10 d23 rfl (ay.l (di (m:=1) (f:=eS) (ti:=cF) (tj:=gl) (e:=9) hx14 (fun _=>rfl) aa rfl)) .n))
 refine DE.sh 5 (bA 13 831) ⟨45,[(37,.own 37),(38,vs aS),(41,vl eS ad),(42,vi j1)],[(37,oa 9 1 eS x12)]⟩ ?_ fun d16=> ?_
 exact DE.al (.c 6 d21 rfl (ay.n aa) (.c 10 d22 rfl (ay.l (di (m:=1) (f:=eS) (ti:=cF) (tj:=gl) (e:=9) hx14 (fun _=>rfl) aa rfl)) .n))
 refine DE.sh 6 (bA 13 1894) ⟨45,[(34,vl eS ad),(35,vi j1),(39,.own 39),(43,vl eS x14)],[(39,oa 9 1 eS ([aS]:List ByteArray))]⟩ ?_ fun d15=> ?_
 exact DE.al (.c 0 d19 rfl (ay.n aa) (.c 3 d20 rfl (ay.l (di (m:=1) (f:=eS) (ti:=cF) (tj:=gl) (e:=9) hx11 (fun _=>rfl) aa rfl)) .n))
 refine DE.sh 6 (bA 13 1838) ⟨45,[(36,vl eS x11),(38,vs aS),(43,vl eS x14)],[]⟩ ?_ fun d14=> ?_
 exact DE.al (.c 0 d18 rfl (ay.n aa) (.c 6 d20 rfl (ay.n aa) .n))
 refine DE.sh 6 (bA 13 878) ⟨45,[(36,vl eS x11),(39,.own 39),(41,vl eS ad),(42,vi j1)],[(39,oa 9 1 eS ([aS]:List ByteArray))]⟩ ?_ fun d13=> ?_
 exact DE.al (.c 0 d17 rfl (ay.n aa) (.c 10 d20 rfl (ay.l (di (m:=1) (f:=eS) (ti:=cF) (tj:=gl) (e:=9) hx14 (fun _=>rfl) aa rfl)) .n))
 refine DE.sh 6 (bA 13 1831) ⟨45,[(33,.own 33),(34,vl eS ad),(35,vi j1),(38,vs aS),(43,vl eS x14)],[(33,oa 9 1 eS ([]:List ByteArray))]⟩ ?_ fun d12=> ?_
 exact DE.al (.c 3 d18 rfl (ay.l (di (m:=1) (f:=eS) (ti:=cF) (tj:=gl) (e:=9) hx11 (fun _=>rfl) aa rfl)) (.c 6 d19 rfl (ay.n aa) .n))
 refine DE.sh 6 (bA 13 871) ⟨45,[(33,.own 33),(34,vl eS ad),(35,vi j1),(39,.own 39),(41,vl eS ad),(42,vi j1)],[(33,oa 9 1 eS ([]:List ByteArray)),(39,oa 9 1 eS ([aS]:List ByteArray))]⟩ ?_ fun d11=> ?_
 exact DE.al (.c 3 d17 rfl (ay.l (di (m:=1) (f:=eS) (ti:=cF) (tj:=gl) (e:=9) hx11 (fun _=>rfl) aa rfl)) (.c 10 d19 rfl (ay.l (di (m:=1) (f:=eS) (ti:=cF) (tj:=gl) (e:=9) hx14 (fun _=>rfl) aa rfl)) .n))
 refine DE.sh 6 (bA 13 815) ⟨45,[(33,.own 33),(36,vl eS x11),(38,vs aS),(41,vl eS ad),(42,vi j1)],[(33,oa 9 1 eS ([]:List ByteArray))]⟩ ?_ fun d10=> ?_
 exact DE.al (.c 4 d16 rfl (ay.le (bY (f:=eS) (t:=106) (ti:=cF) (tj:=gl) (zs:=[.string (ByteArray.mk #[])]) (e:=9) (m:=1) (d:=33) (xv:=vl eS x11) hx12 aa rfl rfl rfl rfl (oO (fun _=>rfl))) Le.an) (.c 6 d17 rfl (ay.n aa) (.c 10 d18 rfl (ay.l (di (m:=1) (f:=eS) (ti:=cF) (tj:=gl) (e:=9) hx14 (fun _=>rfl) aa rfl)) .n)))
 refine DE.sh 7 (bA 13 1830) ⟨45,[(34,vl eS ad),(35,vi j1),(38,vs aS),(43,vl eS x14)],[]⟩ ?_ fun d9=> ?_
 exact DE.al (.c 0 d12 rfl (ay.n aa) (.c 3 d14 rfl (ay.l (di (m:=1) (f:=eS) (ti:=cF) (tj:=gl) (e:=9) hx11 (fun _=>rfl) aa rfl)) (.c 6 d15 rfl (ay.n aa) .n)))
 refine DE.sh 7 (bA 13 870) ⟨45,[(34,vl eS ad),(35,vi j1),(39,.own 39),(41,vl eS ad),(42,vi j1)],[(39,oa 9 1 eS ([aS]:List ByteArray))]⟩ ?_ fun d8=> ?_
 exact DE.al (.c 0 d11 rfl (ay.n aa) (.c 3 d13 rfl (ay.l (di (m:=1) (f:=eS) (ti:=cF) (tj:=gl) (e:=9) hx11 (fun _=>rfl) aa rfl)) (.c 10 d15 rfl (ay.l (di (m:=1) (f:=eS) (ti:=cF) (tj:=gl) (e:=9) hx14 (fun _=>rfl) aa rfl)) .n)))
 refine DE.sh 7 (bA 13 814) ⟨45,[(36,vl eS x11),(38,vs aS),(41,vl eS ad),(42,vi j1)],[]⟩ ?_ fun d7=> ?_
 exact DE.al (.c 0 d10 rfl (ay.n aa) (.c 6 d13 rfl (ay.n aa) (.c 10 d14 rfl (ay.l (di (m:=1) (f:=eS) (ti:=cF) (tj:=gl) (e:=9) hx14 (fun _=>rfl) aa rfl)) .n)))
 refine DE.sh 7 (bA 13 807) ⟨45,[(33,.own 33),(34,vl eS ad),(35,vi j1),(38,vs aS),(41,vl eS ad),(42,vi j1)],[(33,oa 9 1 eS ([]:List ByteArray))]⟩ ?_ fun d6=> ?_
 exact DE.al (.c 3 d10 rfl (ay.l (di (m:=1) (f:=eS) (ti:=cF) (tj:=gl) (e:=9) hx11 (fun _=>rfl) aa rfl)) (.c 6 d11 rfl (ay.n aa) (.c 10 d12 rfl (ay.l (di (m:=1) (f:=eS) (ti:=cF) (tj:=gl) (e:=9) hx14 (fun _=>rfl) aa rfl)) .n)))
 refine DE.sh 8 (bA 13 806) ⟨45,[(34,vl eS ad),(35,vi j1),(38,vs aS),(41,vl eS ad),(42,vi j1)],[]⟩ ?_ fun d5=> ?_
 exact DE.al (.c 0 d6 rfl (ay.n aa) (.c 3 d7 rfl (ay.l (di (m:=1) (f:=eS) (ti:=cF) (tj:=gl) (e:=9) hx11 (fun _=>rfl) aa rfl)) (.c 6 d8 rfl (ay.n aa) (.c 10 d9 rfl (ay.l (di (m:=1) (f:=eS) (ti:=cF) (tj:=gl) (e:=9) hx14 (fun _=>rfl) aa rfl)) .n))))
 refine DE.sh 9 (bA 13 294) ⟨45,[(5,vi j1),(34,vl eS ad),(35,vi j1),(38,vs aS),(41,vl eS ad)],[]⟩ ?_ fun d4=> ?_
 exact DE.tk 9 d5 rfl (.inl rfl) (ay.n aa)
 refine DE.sh 10 (bA 13 38) ⟨45,[(0,vl eS ad),(5,vi j1),(34,vl eS ad),(35,vi j1),(38,vs aS)],[]⟩ ?_ fun d3=> ?_
 exact DE.tk 8 d4 rfl (.inl rfl) (ay.n aa)
 refine DE.sh 11 (bA 13 6) ⟨45,[(0,vl eS ad),(1,vs aS),(5,vi j1),(34,vl eS ad),(35,vi j1)],[]⟩ ?_ fun d2=> ?_
 exact DE.tk 5 d3 rfl (.inl rfl) (ay.n aa)
 refine DE.sh 12 (bA 13 2) ⟨45,[(0,vl eS ad),(1,vs aS),(5,vi j1),(34,vl eS ad)],[]⟩ ?_ fun d1=> ?_
 exact DE.tk 2 d2 rfl (.inl rfl) (ay.n aa)
 exact DE.tk 1 d1 rfl (.inl rfl) (ay.n aa)
 refine aZ ?_
 refine cj (Le.rj (d:=44) (e:=9) (m:=1) (n:=x15.length) (es:=x15.map eS) (by kernel_rfl) (by kernel_rfl)) ?_
 refine ae ?_
 obtain rfl:=inj h
 exact aD (f1 ft)
theorem xL:bg Tryz.prog 178:=au Tryz.func178 (by kernel_rfl) rfl
noncomputable def gh(ad:(List ax)):Option ((List ByteArray)):=
 (((jq (ad.length:Int) (fun(i3:Int) (s3:(List ByteArray))=>((at' ad i3).bind fun x7=>((dm s3 x7.Child).bind fun x8=>((at' ad i3).bind fun x9=>((dm x8 x9.Parent).bind fun x10=>some x10))))) (fun(s3:(List ByteArray))=>s3) 0 ([]:List ByteArray))).bind fun(j1:(List ByteArray))=>some j1)
theorem nM(ad:(List ax))(r:(List ByteArray))(h:gh ad=some r):aJ Tryz.prog 129 [.v (vl ah ad)] ⟨[.v (vl eS r)],[],true⟩:=by
 refine ap Tryz.func129 rfl [(.tmp 2)] rfl (fun r=>⟨[.v (vl eS r)],[],true⟩) (r:=r) ?_
 unfold gh at h
 refine az aa [0] [] ?_
 refine az aa [0,3] [5] ?_
 refine ac ?_
 refine az aa [0,3,4] [5] ?_
 refine ba h (fun j1=>⟨26,[(3,vl eS j1)],[]⟩) (fun v2 h=> ?_) (fun j1 h=> ?_)
 refine aw (a:=v2) ?_
 refine cj (Le.rj (d:=5) (e:=9) (m:=1) (n:=([]:List ByteArray).length) (es:=([]:List ByteArray).map eS) (by kernel_rfl) (by kernel_rfl)) ?_
 refine a7 (r:=v2) (s:=(0,([]:List ByteArray))) _ (fun s3=>⟨26,[(0,vl ah ad),(3,vl eS s3.2),(4,vi s3.1)],[]⟩) _ (Le.an) h (fun s3 v4 h=> ?_)
 refine ac ?_
 refine az aa [0,3,4,9] [] ?_
 refine ai h (fun h=> ?_) fun h=> ?_
 refine ag ?_
 refine aZ ?_
 refine ac ?_
 refine ba h (fun j5=>⟨26,[(0,vl ah ad),(3,vl eS j5),(4,vi s3.1)],[]⟩) (fun v6 h=> ?_) (fun j5 h=> ?_)
 refine aw (a:=v6) ?_
 refine cO mixed ?_
 refine aY.cl aa false 3 [0,4,12,13,14] [] ?_
 obtain⟨x7,hx7,h⟩:=bind_some h
 refine aY.step (aG (L:=ad) (f:=ah) (ti:=dq) (tj:=dr) (e:=85) (k:= .i64) aa rfl hx7) ?_
 refine aY.cl aa false 2 [0,4,12,17] [] ?_
 obtain⟨x8,hx8,h⟩:=bind_some h
 refine aY.step (xc xL (kx s3.2 x7.Child _ hx8)) ?_
 refine aY.cl aa false 2 [0,4,18,19,20] [] ?_
 obtain⟨x9,hx9,h⟩:=bind_some h
 refine aY.step (aG (L:=ad) (f:=ah) (ti:=dq) (tj:=dr) (e:=85) (k:= .i64) aa rfl hx9) ?_
 refine aY.cl aa false 2 [0,4,18,23] [] ?_
 obtain⟨x10,hx10,h⟩:=bind_some h
 refine aY.step (xc xL (kx x8 x9.Parent _ hx10)) ?_
 refine aY.cl aa false 1 [0,3,4] [] ?_
 refine aY.nil (by kernel_rfl) ?_
 obtain rfl:=inj h
 exact bP (eW (Le.an))
 refine aE ?_
 refine ab.cl aa 3 [0,3,4] [] ?_
 refine ab.nil ?_
 obtain rfl:=inj h
 exact bZ (Le.an)
 refine aQ ?_
 obtain rfl:=inj h
 exact cn (cr (cq (eW (Le.an))))
 refine az aa [2] [] ?_
 refine ae ?_
 obtain rfl:=inj h
 exact aD (f1 ft)
theorem Bd:bg Tryz.prog 129:=au Tryz.func129 (by kernel_rfl) rfl
noncomputable def fx(ad:(List ax))(aF:ByteArray)(aj:Int):Option ((List ByteArray)×Int):=
 ((iX ad aF aj).bind fun x1=>(bif(x1 !=0)then some (([]:List ByteArray),x1)else((gh ad).bind fun x2=>(((jq (x2.length:Int) (fun(i5:Int) (s5:(List ByteArray))=>((at' x2 i5).bind fun x9=>((dU ad x9 aj).bind fun x10=>(bif(x10.toList==aF.toList)then((at' x2 i5).bind fun x11=>((eg s5 ([x11]:List ByteArray)).bind fun x12=>some x12))else some s5)))) (fun(s5:(List ByteArray))=>s5) 0 ([]:List ByteArray))).bind fun(j3:(List ByteArray))=>some (j3,0)))))
theorem m9(ad:(List ax))(aF:ByteArray)(aj:Int)(r:(List ByteArray)×Int)(h:fx ad aF aj=some r):aJ Tryz.prog 72 [.v (vl ah ad),.v (vs aF),.v (vi aj)] ⟨[.own 9 1 r.1.length (r.1.map eS),.v (vi r.2)],[],false⟩:=by
 refine ap Tryz.func72 rfl [(.tmp 6),(.tmp 7)] rfl (fun r=>⟨[.own 9 1 r.1.length (r.1.map eS),.v (vi r.2)],[],false⟩) (r:=r) ?_
 unfold fx at h
 refine az aa [0,1,2] [] ?_
 refine sr ?_
 refine ab.cl aa 3 [0,1,2,12,13,14] [] ?_
 obtain⟨x1,hx1,h⟩:=bind_some h
 refine ab.ls (xc Bc (py ad aF aj _ hx1)) ?_
 refine bQ aa 1 [0,1,2,8] [] ?_
 refine ac ?_
 refine az aa [0,1,2,8,17] [] ?_
 refine ai h (fun h=> ?_) fun h=> ?_
 refine az aa [6,7] [6] ?_
 refine ae ?_
 obtain rfl:=inj h
 exact bt (aD (f2 (fo fK) fv))
 refine ag ?_
 refine aZ ?_
 refine az aa [0,1,2,9] [19] ?_
 refine sr ?_
 refine ab.cl aa 1 [0,1,2,9,20] [19] ?_
 obtain⟨x2,hx2,h⟩:=bind_some h
 refine ab.ls (xc Bd (nM ad _ hx2)) ?_
 refine bQ aa 1 [0,1,2,9,10] [19] ?_
 refine ac ?_
 refine iy aa ⟨45,[(0,vl ah ad),(1,vs aF),(2,vi aj),(9,.own 19),(10,vl eS x2),(11,vi 0)],[(19,oa 9 1 eS ([]:List ByteArray))]⟩ ?_
 refine ba h (fun j3=>⟨45,[(9,.own 9)],[(9,oa 9 1 eS j3)]⟩) (fun v4 h=> ?_) (fun j3 h=> ?_)
 refine aw (a:=v4) ?_
 refine a7 (r:=v4) (s:=(0,([]:List ByteArray))) _ (fun s5=>⟨45,[(0,vl ah ad),(1,vs aF),(2,vi aj),(9,.own 9),(10,vl eS x2),(11,vi s5.1)],[(9,oa 9 1 eS s5.2)]⟩) _ (Le.rr [19] [(19,9)]) h (fun s5 v6 h=> ?_)
 refine ac ?_
 refine az aa [0,1,2,9,10,11,25] [9] ?_
 refine ai h (fun h=> ?_) fun h=> ?_
 refine ag ?_
 refine aZ ?_
 refine ac ?_
 refine ba h (fun j7=>⟨45,[(0,vl ah ad),(1,vs aF),(2,vi aj),(9,.own 9),(10,vl eS x2),(11,vi s5.1)],[(9,oa 9 1 eS j7)]⟩) (fun v8 h=> ?_) (fun j7 h=> ?_)
 refine aw (a:=v8) ?_
 refine sr ?_
 refine ab.cl aa 3 [0,1,2,9,10,11,28,29,30] [9] ?_
 obtain⟨x9,hx9,h⟩:=bind_some h
 refine ab.ls (aG (L:=x2) (f:=eS) (ti:=cF) (tj:=gl) (e:=9) (k:= .i64) aa rfl hx9) ?_
 refine ab.cl aa 2 [0,1,2,9,10,11,28,32,33] [9] ?_
 obtain⟨x10,hx10,h⟩:=bind_some h
 refine ab.ls (xc xE (kz ad x9 aj _ hx10)) ?_
 refine bQ aa 2 [0,1,2,9,10,11,36] [9] ?_
 refine ai h (fun h=> ?_) fun h=> ?_
 refine aE ?_
 refine ab.cl aa 3 [0,1,2,10,11,37,38,39] [9] ?_
 obtain⟨x11,hx11,h⟩:=bind_some h
 refine ab.ls (aG (L:=x2) (f:=eS) (ti:=cF) (tj:=gl) (e:=9) (k:= .i64) aa rfl hx11) ?_
 refine ab.cl aa 2 [0,1,2,10,11,37,42] [9,42] ?_
 obtain⟨x12,hx12,h⟩:=bind_some h
 refine ab.bs (bY (f:=eS) (t:=106) (ti:=cF) (tj:=gl) (zs:=[.string (ByteArray.mk #[])]) (e:=9) (m:=1) (d:=9) (xv:= .own 42) hx12 aa rfl rfl rfl rfl (dI (e:=9))) ?_
 refine ab.cl aa 1 [0,1,2,9,10,11] [43] ?_
 refine ab.nil ?_
 obtain rfl:=inj h
 exact bP (eW (Le.rr [43] [(43,9)]))
 refine ag ?_
 obtain rfl:=inj h
 exact bP (eW (Le.an))
 refine aE ?_
 refine ab.cl aa 3 [0,1,2,9,10,11] [9] ?_
 refine ab.nil ?_
 obtain rfl:=inj h
 exact bZ (Le.an)
 refine aQ ?_
 obtain rfl:=inj h
 exact cn (cr (cq (eW (Le.an))))
 refine az aa [6,7] [9] ?_
 refine ae ?_
 obtain rfl:=inj h
 exact aD (f2 (fo fK) fv)
theorem C9:bg Tryz.prog 72:=au Tryz.func72 (by kernel_rfl) rfl
noncomputable def iW(ad:(List Place))(aF:ByteArray)(aj:Int):Option (Int):=
 ((((dX ad).bind fun x1=>(bif(!x1)then some true else((c5 aF).bind fun x2=>some (!x2))))).bind fun(j3:Bool)=>(bif j3 then some 1 else((cY aj).bind fun x5=>(bif(!x5)then some 2 else((ca ad aF).bind fun x6=>(bif(decide (x6<0))then some 4 else some 0))))))
theorem px(ad:(List Place))(aF:ByteArray)(aj:Int)(r:Int)(h:iW ad aF aj=some r):aJ Tryz.prog 131 [.v (vl af ad),.v (vs aF),.v (vi aj)] ⟨[.v (vi r)],[],false⟩:=by
 refine ap Tryz.func131 rfl [(.tmp 6)] rfl (fun r=>⟨[.v (vi r)],[],false⟩) (r:=r) ?_
 unfold iW at h
 refine az aa [0,1,2] [] ?_
 refine ac ?_
 refine ac ?_
 refine bo h (fun j3=>⟨22,[(0,vl af ad),(1,vs aF),(2,vi aj),(14,vb j3)],[]⟩) (fun v4 h=> ?_) (fun j3 h=> ?_)
 refine ab.cl aa 1 [0,1,2,7] [] ?_
 obtain⟨x1,hx1,h⟩:=bind_some h
 refine ab.ls (xc zJ (jP ad _ hx1)) ?_
 refine ab.cl aa 2 [0,1,2,10] [] ?_
 refine ab.cu [(10,fun b=>b)] h (fun h=> ?_) fun h=> ?_
 refine ab.cl aa 4 [0,1,2,14] [] ?_
 refine ab.nil ?_
 obtain rfl:=inj h
 exact Le.an
 refine ab.cl aa 1 [0,1,2,10,11] [] ?_
 obtain⟨x2,hx2,h⟩:=bind_some h
 refine ab.ls (xc kC (c6 aF _ hx2)) ?_
 refine ab.cl aa 2 [0,1,2,14] [] ?_
 refine ab.nil ?_
 obtain rfl:=inj h
 exact Le.an
 refine ai h (fun h=> ?_) fun h=> ?_
 refine iy aa ⟨22,[(6,vi 1)],[]⟩ ?_
 refine ae ?_
 obtain rfl:=inj h
 exact bt (aD (f1 fv))
 refine ag ?_
 refine aZ ?_
 refine ac ?_
 refine sr ?_
 refine ab.cl aa 1 [0,1,15] [] ?_
 obtain⟨x5,hx5,h⟩:=bind_some h
 refine ab.ls (xc n8 (eO aj _ hx5)) ?_
 refine bQ aa 1 [0,1,17] [] ?_
 refine ai h (fun h=> ?_) fun h=> ?_
 refine iy aa ⟨22,[(6,vi 2)],[]⟩ ?_
 refine ae ?_
 obtain rfl:=inj h
 exact bt (aD (f1 fv))
 refine ag ?_
 refine aZ ?_
 refine ac ?_
 refine sr ?_
 refine ab.cl aa 2 [18,19] [] ?_
 obtain⟨x6,hx6,h⟩:=bind_some h
 refine ab.ls (xc lB (cD ad aF _ hx6)) ?_
 refine bQ aa 1 [21] [] ?_
 refine ai h (fun h=> ?_) fun h=> ?_
 refine iy aa ⟨22,[(6,vi 4)],[]⟩ ?_
 refine ae ?_
 obtain rfl:=inj h
 exact bt (aD (f1 fv))
 refine ag ?_
 refine aZ ?_
 refine iy aa ⟨22,[(6,vi 0)],[]⟩ ?_
 refine ae ?_
 obtain rfl:=inj h
 exact aD (f1 fv)
theorem Be:bg Tryz.prog 131:=au Tryz.func131 (by kernel_rfl) rfl
noncomputable def jy(aP:Place)(aj:Int):Option (Place):=
 (((jq (aP.Names.length:Int) (fun(i3:Int) (s3:(List Name))=>((at' aP.Names i3).bind fun x7=>(bif(decide (x7.Years.From≤(cE x7.Years.To (aO (aj - 1)))))then((eg s3 ([(Name.mk x7.Text x7.Language x7.Status (Span.mk x7.Years.From (cE x7.Years.To (aO (aj - 1)))))]:List Name)).bind fun x8=>some x8)else some s3))) (fun(s3:(List Name))=>s3) 0 ([]:List Name))).bind fun(j1:(List Name))=>some (Place.mk aP.Code aP.Class (Span.mk aP.Years.From (cE aP.Years.To (aO (aj - 1)))) j1))
theorem qv(aP:Place)(aj:Int)(r:Place)(h:jy aP aj=some r):aJ Tryz.prog 132 [.v (.agg (tc af aP)),.v (vi aj)] ⟨[.part [vs r.Code,vi r.Class,vi r.Years.From,vi r.Years.To] [] (oa 169 5 ar r.Names)],[],false⟩:=by
 refine ap Tryz.func132 rfl [(.cell 4 91)] rfl (fun r=>⟨[.part [vs r.Code,vi r.Class,vi r.Years.From,vi r.Years.To] [] (oa 169 5 ar r.Names)],[],false⟩) (r:=r) ?_
 unfold jy at h
 refine az aa [1,2,4] [2,4] ?_
 refine az aa [1,2,4,5] [2,4,8] ?_
 refine ac ?_
 refine az aa [1,2,4,5,6] [2,4,8] ?_
 refine ba h (fun j1=>⟨59,[(1,vi aj),(2,.ref 2 0),(4,.ref 4 0),(5,.own 5)],[(2,.box (tc af aP)),(4,.box [vs (ByteArray.mk #[]),vi 0,vi 0,vi 0,vl ar ([]:List Name)]),(5,oa 169 5 ar j1)]⟩) (fun v2 h=> ?_) (fun j1 h=> ?_)
 refine aw (a:=v2) ?_
 refine a7 (r:=v2) (s:=(0,([]:List Name))) _ (fun s3=>⟨59,[(1,vi aj),(2,.ref 2 0),(4,.ref 4 0),(5,.own 5),(6,vi s3.1)],[(2,.box (tc af aP)),(4,.box [vs (ByteArray.mk #[]),vi 0,vi 0,vi 0,vl ar ([]:List Name)]),(5,oa 169 5 ar s3.2)]⟩) _ (Le.rr [2,4,8] [(8,5)]) h (fun s3 v4 h=> ?_)
 refine ac ?_
 refine az aa [1,2,4,5,6,13] [2,4,5] ?_
 refine ai h (fun h=> ?_) fun h=> ?_
 refine ag ?_
 refine aZ ?_
 refine ac ?_
 refine ba h (fun j5=>⟨59,[(1,vi aj),(2,.ref 2 0),(4,.ref 4 0),(5,.own 5),(6,vi s3.1)],[(2,.box (tc af aP)),(4,.box [vs (ByteArray.mk #[]),vi 0,vi 0,vi 0,vl ar ([]:List Name)]),(5,oa 169 5 ar j5)]⟩) (fun v6 h=> ?_) (fun j5 h=> ?_)
 refine aw (a:=v6) ?_
 refine sr ?_
 refine ab.cl aa 3 [1,2,4,5,6,17,18] [2,4,5] ?_
 obtain⟨x7,hx7,h⟩:=bind_some h
 refine ab.ls (aG (L:=aP.Names) (f:=ar) (ti:=dh) (tj:=cK) (e:=169) (k:= .i64) aa rfl hx7) ?_
 refine bQ aa 3 [1,2,4,5,6,7] [2,4,5,7] ?_
 refine sr ?_
 refine ab.cl aa 9 [1,2,4,5,6,7,23,29] [2,4,5,7] ?_
 refine ab.ls (br (v:= .agg [vi x7.Years.From,vi (cE x7.Years.To (aO (aj - 1)))]) aa rfl) ?_
 refine bQ aa 2 [1,2,4,5,6,7] [2,4,5,7] ?_
 refine az aa [1,2,4,5,6,7,38] [2,4,5,7] ?_
 refine ai h (fun h=> ?_) fun h=> ?_
 refine aE ?_
 refine ab.cl aa 3 [1,2,4,6,39,41] [2,4,5,41] ?_
 obtain⟨x8,hx8,h⟩:=bind_some h
 refine ab.bs (bY (f:=ar) (t:=89) (ti:=dh) (tj:=cK) (zs:=[.string (ByteArray.mk #[]),.string (ByteArray.mk #[]),.int .i64 0,.int .i64 0,.int .i64 0]) (e:=169) (m:=5) (d:=5) (xv:= .own 41) hx8 aa rfl rfl rfl rfl (dI (e:=169))) ?_
 refine ab.cl aa 1 [1,2,4,5,6] [2,4,42] ?_
 refine ab.nil ?_
 obtain rfl:=inj h
 exact bP (eW (Le.rr [2,4,42] [(42,5)]))
 refine ag ?_
 obtain rfl:=inj h
 exact bP (eW (Le.an))
 refine aE ?_
 refine ab.cl aa 3 [1,2,4,5,6] [2,4,5] ?_
 refine ab.nil ?_
 obtain rfl:=inj h
 exact bZ (Le.an)
 refine aQ ?_
 obtain rfl:=inj h
 exact cn (cr (cq (eW (Le.an))))
 refine sr ?_
 refine ab.ck aa 13 ⟨59,[(4,.ref 4 0),(5,.own 5),(44,vs aP.Code),(46,vi aP.Class),(49,vi aP.Years.From),(55,vi (cE aP.Years.To (aO (aj - 1))))],[(4,.box [vs (ByteArray.mk #[]),vi 0,vi 0,vi 0,vl ar ([]:List Name)]),(5,oa 169 5 ar j1)]⟩ ?_
 refine ab.ls (br (v:= .agg [vi aP.Years.From,vi (cE aP.Years.To (aO (aj - 1)))]) aa rfl) ?_
 refine ab.cl aa 1 [4,44,46,56,57] [4,5] ?_
 refine ab.ls (br (v:= .agg [vs aP.Code,vi aP.Class,vi aP.Years.From,vi (cE aP.Years.To (aO (aj - 1))),.own 5]) aa rfl) ?_
 refine bQ aa 1 [4] [4,5] ?_
 refine ae ?_
 obtain rfl:=inj h
 exact aD (f1 (BW (d:=5) [vs aP.Code,vi aP.Class,vi aP.Years.From,vi (cE aP.Years.To (aO (aj - 1)))] [] (cT aa (d:=4) (cs:=[vs aP.Code,vi aP.Class,vi aP.Years.From,vi (cE aP.Years.To (aO (aj - 1))),.own 5]) (ti:=cm) (by kernel_rfl) (by kernel_rfl) (by kernel_rfl) (by kernel_rfl)) (by kernel_rfl) (cd bE _) rfl rfl SV.ew SV.ew (by kernel_rfl)))
theorem Bf:bg Tryz.prog 132:=au Tryz.func132 (by kernel_rfl) rfl
noncomputable def iu(ad:(List Place)):Option ((List Place)):=
 (((jq (ad.length:Int) (fun(i3:Int) (s3:(List Place))=>((at' ad i3).bind fun x7=>((eg ([]:List Name) x7.Names).bind fun x8=>((eg s3 ([(Place.mk x7.Code x7.Class x7.Years x8)]:List Place)).bind fun x9=>some x9)))) (fun(s3:(List Place))=>s3) 0 ([]:List Place))).bind fun(j1:(List Place))=>some j1)
theorem lS(ad:(List Place))(r:(List Place))(h:iu ad=some r):aJ Tryz.prog 84 [.v (vl af ad)] ⟨[.deep 91 5 r.length [.flat,.flat,.flat,.flat,(.sl 169 5 [.flat,.flat,.flat,.flat,.flat])] (r.map af)],[],false⟩:=by
 refine ap Tryz.func84 rfl [(.tmp 2)] rfl (fun r=>⟨[.deep 91 5 r.length [.flat,.flat,.flat,.flat,(.sl 169 5 [.flat,.flat,.flat,.flat,.flat])] (r.map af)],[],false⟩) (r:=r) ?_
 unfold iu at h
 refine sr ?_
 refine ab.cl aa 1 [2,0] [2] ?_
 refine ab.le (Le.q6 (d:=2) (e:=91) (m:=5) (ss:=[.flat,.flat,.flat,.flat,(.sl 169 5 [.flat,.flat,.flat,.flat,.flat])]) (by kernel_rfl) (by kernel_rfl)) ?_
 refine ab.nx ?_
 refine sr ?_
 refine ab.cl aa 1 [6,2,0] [6,2] ?_
 refine ab.le (Le.q6 (d:=6) (e:=91) (m:=5) (ss:=[.flat,.flat,.flat,.flat,(.sl 169 5 [.flat,.flat,.flat,.flat,.flat])]) (by kernel_rfl) (by kernel_rfl)) ?_
 refine bQ aa 1 [0,3] [6] ?_
 refine ac ?_
 refine az aa [0,3,4] [6] ?_
 refine ba h (fun j1=>⟨27,[(3,.own 3)],[(3,.deep 91 5 j1.length [.flat,.flat,.flat,.flat,(.sl 169 5 [.flat,.flat,.flat,.flat,.flat])] (j1.map af))]⟩) (fun v2 h=> ?_) (fun j1 h=> ?_)
 refine aw (a:=v2) ?_
 refine a7 (r:=v2) (s:=(0,([]:List Place))) _ (fun s3=>⟨27,[(0,vl af ad),(3,.own 3),(4,vi s3.1)],[(3,.deep 91 5 s3.2.length [.flat,.flat,.flat,.flat,(.sl 169 5 [.flat,.flat,.flat,.flat,.flat])] (s3.2.map af))]⟩) _ (Le.rr [6] [(6,3)]) h (fun s3 v4 h=> ?_)
 refine ac ?_
 refine az aa [0,3,4,10] [3] ?_
 refine ai h (fun h=> ?_) fun h=> ?_
 refine ag ?_
 refine aZ ?_
 refine ac ?_
 refine ba h (fun j5=>⟨27,[(0,vl af ad),(3,.own 3),(4,vi s3.1)],[(3,.deep 91 5 j5.length [.flat,.flat,.flat,.flat,(.sl 169 5 [.flat,.flat,.flat,.flat,.flat])] (j5.map af))]⟩) (fun v6 h=> ?_) (fun j5 h=> ?_)
 refine aw (a:=v6) ?_
 refine sr ?_
 refine ab.cl aa 2 [0,3,4,13,14] [3] ?_
 obtain⟨x7,hx7,h⟩:=bind_some h
 refine ab.ls (aG (L:=ad) (f:=af) (ti:=cP) (tj:=cm) (e:=91) (k:= .i64) aa rfl hx7) ?_
 refine bQ aa 3 [0,3,4,5] [3,5] ?_
 refine sr ?_
 refine ab.cl aa 3 [0,3,4,5,17,19] [3,5,17] ?_
 obtain⟨x8,hx8,h⟩:=bind_some h
 refine ab.bs (bY (f:=ar) (t:=89) (ti:=dh) (tj:=cK) (zs:=[.string (ByteArray.mk #[]),.string (ByteArray.mk #[]),.int .i64 0,.int .i64 0,.int .i64 0]) (e:=169) (m:=5) (d:=17) (xv:=vl ar x7.Names) hx8 aa rfl rfl rfl rfl (oO (fun _=>rfl))) ?_
 refine bQ aa 2 [0,3,4,5] [3,5,20] ?_
 refine aE ?_
 refine ab.cl aa 2 [0,4,22,23] [3,20] ?_
 refine ab.bs (oT (ti:=cP) (tj:=cm) (e:=91) (m:=5) (zs:=[.string (ByteArray.mk #[]),.int .i64 0,.int .i64 0,.int .i64 0,.slice none 0 0]) (v:= .agg [vs x7.Code,vi x7.Class,vi x7.Years.From,vi x7.Years.To,.own 20]) (cs:=[vs x7.Code,vi x7.Class,vi x7.Years.From,vi x7.Years.To,.own 20]) (ss:=[.flat,.flat,.flat,.flat,(.sl 169 5 [.flat,.flat,.flat,.flat,.flat])]) (ts:=[.str x7.Code,.int .i64 x7.Class,.int .i64 x7.Years.From,.int .i64 x7.Years.To,.sl x8.length (x8.map ar)]) (ds:=[20]) aa rfl rfl rfl (.cons _ _ _ [] _ _ _ _ (.flat (.str x7.Code) rfl) (.cons _ _ _ [] _ _ _ _ (.flat (.int .i64 x7.Class) rfl) (.cons _ _ _ [] _ _ _ _ (.flat (.int .i64 x7.Years.From) rfl) (.cons _ _ _ [] _ _ _ _ (.flat (.int .i64 x7.Years.To) rfl) (.cons _ _ _ [20] _ _ _ _ (qV (d:=20) (e:=169) (m:=5) (n:=x8.length) (es:=x8.map ar) (ss:=[.flat,.flat,.flat,.flat,.flat]) (cd bE _)) .nil (by decide)) (by decide)) (by decide)) (by decide)) (by decide))) ?_
 obtain⟨x9,hx9,h⟩:=bind_some h
 refine ab.bs (nr (f:=af) (L:=s3.2) (M:=([(Place.mk x7.Code x7.Class x7.Years x8)]:List Place)) (t:=32) (ti:=cP) (tj:=cm) (zs:=[.string (ByteArray.mk #[]),.int .i64 0,.int .i64 0,.int .i64 0,.slice none 0 0]) (e:=91) (m:=5) (d:=3) (dx:=24) (ss:=[.flat,.flat,.flat,.flat,(.sl 169 5 [.flat,.flat,.flat,.flat,.flat])]) hx9 aa rfl rfl rfl rfl) ?_
 refine ab.cl aa 1 [0,3,4] [25] ?_
 refine ab.nil ?_
 obtain rfl:=inj h
 exact bP (eW (Le.rr [25] [(25,3)]))
 refine aE ?_
 refine ab.cl aa 3 [0,3,4] [3] ?_
 refine ab.nil ?_
 obtain rfl:=inj h
 exact bZ (Le.an)
 refine aQ ?_
 obtain rfl:=inj h
 exact cn (cr (cq (eW (Le.an))))
 refine az aa [2] [3] ?_
 refine ae ?_
 obtain rfl:=inj h
 exact aD (f1 (yy (d:=3) (jk (by kernel_rfl)) (by kernel_rfl) (by kernel_rfl)))
theorem zM:bg Tryz.prog 84:=au Tryz.func84 (by kernel_rfl) rfl
noncomputable def fH(ad:(List Place))(aF:ByteArray)(aj:Int):Option ((List Place)×Int):=
 ((iW ad aF aj).bind fun x1=>(bif(x1 !=0)then some (([]:List Place),x1)else((ca ad aF).bind fun x2=>((at' ad x2).bind fun x3=>((cZ x3 (aO (aj - 1))).bind fun x4=>(bif(!x4)then some (([]:List Place),5)else((eg ([]:List Place) ad).bind fun x5=>((at' ad x2).bind fun x6=>((jy x6 aj).bind fun x7=>((at' x5 x2).bind fun _=>((iu (List.set x5 (Int.toNat x2) x7)).bind fun x9=>some (x9,0))))))))))))
theorem oF(ad:(List Place))(aF:ByteArray)(aj:Int)(r:(List Place)×Int)(h:fH ad aF aj=some r):aJ Tryz.prog 73 [.v (vl af ad),.v (vs aF),.v (vi aj)] ⟨[.deep 91 5 r.1.length [.flat,.flat,.flat,.flat,(.sl 169 5 [.flat,.flat,.flat,.flat,.flat])] (r.1.map af),.v (vi r.2)],[],false⟩:=by
 refine ap Tryz.func73 rfl [(.tmp 6),(.tmp 7)] rfl (fun r=>⟨[.deep 91 5 r.1.length [.flat,.flat,.flat,.flat,(.sl 169 5 [.flat,.flat,.flat,.flat,.flat])] (r.1.map af),.v (vi r.2)],[],false⟩) (r:=r) ?_
 unfold fH at h
 refine az aa [0,1,2] [] ?_
 refine sr ?_
 refine ab.cl aa 3 [0,1,2,11,12,13] [] ?_
 obtain⟨x1,hx1,h⟩:=bind_some h
 refine ab.ls (xc Be (px ad aF aj _ hx1)) ?_
 refine bQ aa 1 [0,1,2,8] [] ?_
 refine ac ?_
 refine az aa [0,1,2,8,16] [] ?_
 refine ai h (fun h=> ?_) fun h=> ?_
 refine az aa [6,7] [6] ?_
 refine cj (Le.q6 (d:=6) (e:=91) (m:=5) (ss:=[.flat,.flat,.flat,.flat,(.sl 169 5 [.flat,.flat,.flat,.flat,.flat])]) (by kernel_rfl) (by kernel_rfl)) ?_
 refine ae ?_
 obtain rfl:=inj h
 exact bt (aD (f2 (yy (d:=6) (jk (by kernel_rfl)) (by kernel_rfl) (by kernel_rfl)) fv))
 refine ag ?_
 refine aZ ?_
 refine sr ?_
 refine ab.cl aa 2 [0,2,18,19] [] ?_
 obtain⟨x2,hx2,h⟩:=bind_some h
 refine ab.ls (xc lB (cD ad aF _ hx2)) ?_
 refine bQ aa 1 [0,2,9] [] ?_
 refine ac ?_
 refine sr ?_
 refine ab.cl aa 2 [0,2,9,21,22] [] ?_
 obtain⟨x3,hx3,h⟩:=bind_some h
 refine ab.ls (aG (L:=ad) (f:=af) (ti:=cP) (tj:=cm) (e:=91) (k:= .i64) aa rfl hx3) ?_
 refine ab.ck aa 3 ⟨43,[(0,vl af ad),(2,vi aj),(9,vi x2),(24,.agg (tc af x3)),(26,vi (aO (aj - 1)))],[]⟩ ?_
 obtain⟨x4,hx4,h⟩:=bind_some h
 refine ab.ls (xc n7 (dT x3 (aO (aj - 1)) _ hx4)) ?_
 refine bQ aa 1 [0,2,9,28] [] ?_
 refine ai h (fun h=> ?_) fun h=> ?_
 refine az aa [6,7] [6] ?_
 refine cj (Le.q6 (d:=6) (e:=91) (m:=5) (ss:=[.flat,.flat,.flat,.flat,(.sl 169 5 [.flat,.flat,.flat,.flat,.flat])]) (by kernel_rfl) (by kernel_rfl)) ?_
 refine ae ?_
 obtain rfl:=inj h
 exact bt (aD (f2 (yy (d:=6) (jk (by kernel_rfl)) (by kernel_rfl) (by kernel_rfl)) fv))
 refine ag ?_
 refine aZ ?_
 refine sr ?_
 refine ab.cl aa 2 [0,2,9,29,30] [29] ?_
 obtain⟨x5,hx5,h⟩:=bind_some h
 refine ab.bs (bY (f:=af) (t:=32) (ti:=cP) (tj:=cm) (zs:=[.string (ByteArray.mk #[]),.int .i64 0,.int .i64 0,.int .i64 0,.slice none 0 0]) (e:=91) (m:=5) (d:=29) (xv:=vl af ad) hx5 aa rfl rfl rfl rfl (oO (fun _=>rfl))) ?_
 refine bQ aa 1 [0,2,9,10] [31] ?_
 refine sr ?_
 refine ab.cl aa 4 [2,10,32,33,34,35] [31] ?_
 obtain⟨x6,hx6,h⟩:=bind_some h
 refine ab.ls (aG (L:=ad) (f:=af) (ti:=cP) (tj:=cm) (e:=91) (k:= .i64) aa rfl hx6) ?_
 refine ab.cl aa 2 [10,32,33,37,38] [31] ?_
 obtain⟨x7,hx7,h⟩:=bind_some h
 refine ab.ls (xc Bf (qv x6 aj _ hx7)) ?_
 obtain⟨x8,hx8,h⟩:=bind_some h
 refine ab.ls (bm (d:=31) (L:=x5) (f:=af) (ti:=cP) (tj:=cm) (e:=91) (e':=91) (m:=5) (k:= .i64) aa rfl hx8) ?_
 refine ab.le (Le.rj (d:=39) (e:=169) (m:=5) (n:=x7.Names.length) (es:=x7.Names.map ar) (by kernel_rfl) (by kernel_rfl)) ?_
 refine ab.bs (bH (d:=31) (m:=5) (j:=0) (L:=x5) (f:=af) (x:=x7) (z:=x8) (ti:=cm) (e:=91) (ts:=[.str x7.Code,.int .i64 x7.Class,.int .i64 x7.Years.From,.int .i64 x7.Years.To,.sl x7.Names.length (x7.Names.map ar)]) (vs:=[vs x7.Code,vi x7.Class,vi x7.Years.From,vi x7.Years.To,vl ar x7.Names]) (v:= .agg (tc af x7)) aa rfl rfl hx8) ?_
 refine ab.nx ?_
 refine sr ?_
 refine ab.cl aa 1 [41] [31] ?_
 obtain⟨x9,hx9,h⟩:=bind_some h
 refine ab.ls (xc zM (lS (List.set x5 (Int.toNat x2) x7) _ hx9)) ?_
 refine bQ aa 2 [6,7] [42] ?_
 refine ae ?_
 obtain rfl:=inj h
 exact aD (f2 (yy (d:=42) (jk (by kernel_rfl)) (by kernel_rfl) (by kernel_rfl)) fv)
theorem Da:bg Tryz.prog 73:=au Tryz.func73 (by kernel_rfl) rfl
noncomputable def iv(ad:(List ax))(aF:ByteArray)(aj:Int):Option ((List ax)):=
 (((jq (ad.length:Int) (fun(i3:Int) (s3:(List ax))=>((at' ad i3).bind fun x7=>(((bif((x7.Child.toList==aF.toList) || (x7.Parent.toList==aF.toList))then some (ax.mk x7.Child x7.Parent (Span.mk x7.Years.From (cE x7.Years.To (aO (aj - 1)))))else some x7)).bind fun(j8:ax)=>(bif(decide (j8.Years.From≤j8.Years.To))then((eg s3 ([j8]:List ax)).bind fun x10=>some x10)else some s3)))) (fun(s3:(List ax))=>s3) 0 ([]:List ax))).bind fun(j1:(List ax))=>some j1)
theorem qw(ad:(List ax))(aF:ByteArray)(aj:Int)(r:(List ax))(h:iv ad aF aj=some r):aJ Tryz.prog 74 [.v (vl ah ad),.v (vs aF),.v (vi aj)] ⟨[.own 85 4 r.length (r.map ah)],[],false⟩:=by
 refine ap Tryz.func74 rfl [(.tmp 6)] rfl (fun r=>⟨[.own 85 4 r.length (r.map ah)],[],false⟩) (r:=r) ?_
 unfold iv at h
 refine az aa [0,1,2] [] ?_
 refine az aa [0,1,2,7] [10] ?_
 refine ac ?_
 refine az aa [0,1,2,7,8] [10] ?_
 refine ba h (fun j1=>⟨54,[(7,.own 7)],[(7,oa 85 4 ah j1)]⟩) (fun v2 h=> ?_) (fun j1 h=> ?_)
 refine aw (a:=v2) ?_
 refine a7 (r:=v2) (s:=(0,([]:List ax))) _ (fun s3=>⟨54,[(0,vl ah ad),(1,vs aF),(2,vi aj),(7,.own 7),(8,vi s3.1)],[(7,oa 85 4 ah s3.2)]⟩) _ (Le.rr [10] [(10,7)]) h (fun s3 v4 h=> ?_)
 refine ac ?_
 refine az aa [0,1,2,7,8,14] [7] ?_
 refine ai h (fun h=> ?_) fun h=> ?_
 refine ag ?_
 refine aZ ?_
 refine ac ?_
 refine ba h (fun j5=>⟨54,[(0,vl ah ad),(1,vs aF),(2,vi aj),(7,.own 7),(8,vi s3.1)],[(7,oa 85 4 ah j5)]⟩) (fun v6 h=> ?_) (fun j5 h=> ?_)
 refine aw (a:=v6) ?_
 refine sr ?_
 refine ab.cl aa 2 [0,1,2,7,8,17,18] [7] ?_
 obtain⟨x7,hx7,h⟩:=bind_some h
 refine ab.ls (aG (L:=ad) (f:=ah) (ti:=dq) (tj:=dr) (e:=85) (k:= .i64) aa rfl hx7) ?_
 refine bQ aa 3 [0,1,2,7,8,9] [7,9] ?_
 refine ac ?_
 refine ac ?_
 refine dp ⟨54,[(0,vl ah ad),(1,vs aF),(2,vi aj),(7,.own 7),(8,vi s3.1),(9,.ref 9 0),(30,vb ((x7.Child.toList==aF.toList) || (x7.Parent.toList==aF.toList)))],[(7,oa 85 4 ah s3.2),(9,.box (tc ah x7))]⟩ ?_ ?_
 refine ab.ck aa 5 ⟨54,[(0,vl ah ad),(1,vs aF),(2,vi aj),(7,.own 7),(8,vi s3.1),(9,.ref 9 0),(25,vb (x7.Child.toList==aF.toList))],[(7,oa 85 4 ah s3.2),(9,.box (tc ah x7))]⟩ ?_
 generalize (x7.Child.toList==aF.toList)=bb
 cases bb
 refine ab.cl aa 5 [0,1,2,7,8,9,30] [7,9] ?_
 exact ab.nil (Le.an)
 refine ab.cl aa 5 [0,1,2,7,8,9,30] [7,9] ?_
 exact ab.nil (Le.an)
 refine ba h (fun j8=>⟨54,[(0,vl ah ad),(1,vs aF),(2,vi aj),(7,.own 7),(8,vi s3.1),(9,.ref 9 0)],[(7,oa 85 4 ah s3.2),(9,.box (tc ah j8))]⟩) (fun v9 h=> ?_) (fun j8 h=> ?_)
 refine ai h (fun h=> ?_) fun h=> ?_
 refine aE ?_
 refine ab.cl aa 9 [0,1,2,7,8,9,33,39] [7,9] ?_
 refine ab.ls (br (v:= .agg [vi x7.Years.From,vi (cE x7.Years.To (aO (aj - 1)))]) aa rfl) ?_
 refine ab.cl aa 2 [0,1,2,7,8,9] [7,9] ?_
 refine ab.nil ?_
 obtain rfl:=inj h
 exact eW (Le.an)
 refine ag ?_
 obtain rfl:=inj h
 exact eW (Le.an)
 refine az aa [0,1,2,7,8,9,48] [7,9] ?_
 refine ai h (fun h=> ?_) fun h=> ?_
 refine aE ?_
 refine ab.cl aa 3 [0,1,2,8,49,51] [7,51] ?_
 obtain⟨x10,hx10,h⟩:=bind_some h
 refine ab.bs (bY (f:=ah) (t:=33) (ti:=dq) (tj:=dr) (zs:=[.string (ByteArray.mk #[]),.string (ByteArray.mk #[]),.int .i64 0,.int .i64 0]) (e:=85) (m:=4) (d:=7) (xv:= .own 51) hx10 aa rfl rfl rfl rfl (dI (e:=85))) ?_
 refine ab.cl aa 1 [0,1,2,7,8] [52] ?_
 refine ab.nil ?_
 obtain rfl:=inj h
 exact bP (eW (Le.rr [52] [(52,7)]))
 refine ag ?_
 obtain rfl:=inj h
 exact bP (eW (Le.an))
 refine aE ?_
 refine ab.cl aa 3 [0,1,2,7,8] [7] ?_
 refine ab.nil ?_
 obtain rfl:=inj h
 exact bZ (Le.an)
 refine aQ ?_
 obtain rfl:=inj h
 exact cn (cr (cq (eW (Le.an))))
 refine az aa [6] [7] ?_
 refine ae ?_
 obtain rfl:=inj h
 exact aD (f1 (fo c8))
theorem Db:bg Tryz.prog 74:=au Tryz.func74 (by kernel_rfl) rfl
noncomputable def cy(aW:World)(aC:Change):Option (World×Int):=
 ((iY aW aC).bind fun x1=>(bif(x1 !=0)then some (aW,x1)else(((bif(aC.Kind==0)then((gi aW aC).bind fun x4=>some (.inr (x4.1,x4.2)))else(bif(aC.Kind==2)then((ee aW aC.Code aC.Other aC.Year).bind fun x5=>((dL aW x5).bind fun x6=>some (.inr (x6.1,x6.2))))else some (.inl (World.mk ([]:List Place) ([]:List ax)))))).bind (Sum.elim (fun(j2:World)=>(((bif(aC.Kind==3)then((fx aW.Links aC.Code aC.Year).bind fun x9=>(cQ (x9.1.length:Int) (fun(i10:Int) (s10:World×World)=>((at' x9.1 i10).bind fun x14=>(bif(x14.toList==aC.Other.toList)then some (.inr (.inr (aW,5)))else((at' x9.1 i10).bind fun x15=>((ee s10.2 x15 aC.Other aC.Year).bind fun x16=>((dL s10.2 x16).bind fun x17=>(bif(x17.2 !=0)then some (.inr (.inr (aW,x17.2)))else some (.inl (s10.1,x17.1))))))))) (fun(s10:World×World)=>(.inl (s10.1,s10.2))) 0 (j2,aW)))else some (.inl (j2,aW)))).bind (Sum.elim (fun(j7:World×World)=>((fH j7.2.Places aC.Code aC.Year).bind fun x18=>((iv j7.2.Links aC.Code aC.Year).bind fun x19=>some ((World.mk x18.1 x19),0)))) some))) some))))
theorem oM(aW:World)(aC:Change)(r:World×Int)(h:cy aW aC=some r):aJ Tryz.prog 33 [.v (.agg (tc aH aW)),.v (.agg (tc ak aC))] ⟨[.v (.agg (tc aH r.1)),.v (vi r.2)],[],true⟩:=by
 refine ap Tryz.func33 rfl [(.cell 4 35),(.tmp 5)] rfl (fun r=>⟨[.v (.agg (tc aH r.1)),.v (vi r.2)],[],true⟩) (r:=r) ?_
 unfold cy at h
 refine az aa [2,3,4] [2,3,4] ?_
 refine sr ?_
 refine ab.cl aa 2 [2,3,4,15,16] [2,3,4] ?_
 obtain⟨x1,hx1,h⟩:=bind_some h
 refine ab.ls (xc C7 (pz aW aC _ hx1)) ?_
 refine bQ aa 1 [2,3,4,6] [2,3,4] ?_
 refine ac ?_
 refine az aa [2,3,4,6,19] [2,3,4] ?_
 refine ai h (fun h=> ?_) fun h=> ?_
 refine az aa [4,5] [4] ?_
 refine ae ?_
 obtain rfl:=inj h
 exact bt (aD (f2 (lC rfl (cT aa (d:=4) (cs:=[vl af aW.Places,vl ah aW.Links]) (ti:=jA) (by kernel_rfl) (by kernel_rfl) (by kernel_rfl) (by kernel_rfl))) ft))
 refine ag ?_
 refine aZ ?_
 refine ac ?_
 refine az aa [2,3,4,23] [2,3,4] ?_
 refine bi (r:=r) h (fun j2=>⟨112,[(2,.ref 2 0),(3,.ref 3 0),(4,.ref 4 0)],[(2,.box (tc aH aW)),(3,.box (tc ak aC)),(4,.box (tc aH j2))]⟩) (fun v3 h=> ?_) (fun j2 h=> ?_)
 refine aw (a:=v3) ?_
 refine az aa [2,3,4,23,24] [2,3,4] ?_
 refine ai h (fun h=> ?_) fun h=> ?_
 refine sr ?_
 refine ab.cl aa 2 [4,26,27] [4] ?_
 obtain⟨x4,hx4,h⟩:=bind_some h
 refine ab.ls (xc C8 (nN aW aC _ hx4)) ?_
 refine bQ aa 4 [4,5] [4] ?_
 refine ae ?_
 obtain rfl:=inj h
 exact bn (aU (aD (f2 (lC rfl (cT aa (d:=4) (cs:=[vl af x4.1.Places,vl ah x4.1.Links]) (ti:=jA) (by kernel_rfl) (by kernel_rfl) (by kernel_rfl) (by kernel_rfl))) ft)))
 refine az aa [2,3,4,31] [2,3,4] ?_
 refine ai h (fun h=> ?_) fun h=> ?_
 refine ac ?_
 refine cO mixed ?_
 refine aY.cl aa false 8 [4,33,34,36,38,40] [4] ?_
 obtain⟨x5,hx5,h⟩:=bind_some h
 refine aY.step (xc zL (lq aW aC.Code aC.Other aC.Year _ hx5)) ?_
 obtain⟨x6,hx6,h⟩:=bind_some h
 refine aY.step (xc zK (kN aW x5 _ hx6)) ?_
 refine aY.cl aa false 2 [4,43,44] [4] ?_
 refine aY.seq (by kernel_rfl) (by kernel_rfl) ?_
 refine bQ aa 2 [4,5] [4] ?_
 refine ae ?_
 obtain rfl:=inj h
 exact bn (aU (aD (f2 (lC rfl (cT aa (d:=4) (cs:=[vl af x6.1.Places,vl ah x6.1.Links]) (ti:=jA) (by kernel_rfl) (by kernel_rfl) (by kernel_rfl) (by kernel_rfl))) ft)))
 refine ag ?_
 obtain rfl:=inj h
 exact bP (bZ (Le.an))
 refine az aa [2,3,4,7] [2,3,4,7] ?_
 refine ac ?_
 refine iy aa ⟨112,[(2,.ref 2 0),(3,.ref 3 0),(4,.ref 4 0),(7,.ref 7 0),(48,vb (aC.Kind==3))],[(2,.box (tc aH aW)),(3,.box (tc ak aC)),(4,.box (tc aH j2)),(7,.box (tc aH aW))]⟩ ?_
 refine bi (r:=r) h (fun j7=>⟨112,[(3,.ref 3 0),(4,.ref 4 0),(7,.ref 7 0)],[(3,.box (tc ak aC)),(4,.box (tc aH j7.1)),(7,.box (tc aH j7.2))]⟩) (fun v8 h=> ?_) (fun j7 h=> ?_)
 refine ai h (fun h=> ?_) fun h=> ?_
 refine sr ?_
 refine ab.cl aa 6 [2,3,4,7,51,53,55] [2,3,4,7] ?_
 obtain⟨x9,hx9,h⟩:=bind_some h
 refine ab.ls (xc C9 (m9 aW.Links aC.Code aC.Year _ hx9)) ?_
 refine bQ aa 5 [2,3,4,7,8] [2,3,4,7,56] ?_
 refine az aa [2,3,4,7,8,10] [2,3,4,7,56] ?_
 refine aw (a:=v8) ?_
 refine a7 (r:=v8) (s:=(0,j2,aW)) _ (fun s10=>⟨112,[(2,.ref 2 0),(3,.ref 3 0),(4,.ref 4 0),(7,.ref 7 0),(8,.own 8),(10,vi s10.1)],[(2,.box (tc aH aW)),(3,.box (tc ak aC)),(4,.box (tc aH s10.2.1)),(7,.box (tc aH s10.2.2)),(8,oa 9 1 eS x9.1)]⟩) _ (Le.rr [2,3,4,7,56] [(56,8)]) h (fun s10 v11 h=> ?_)
 refine ac ?_
 refine az aa [2,3,4,7,8,10,62] [2,3,4,7,8] ?_
 refine ai h (fun h=> ?_) fun h=> ?_
 refine ag ?_
 refine aZ ?_
 refine ac ?_
 refine bp (r:=v11) h (fun j12=>⟨112,[(2,.ref 2 0),(3,.ref 3 0),(4,.ref 4 0),(7,.ref 7 0),(8,.own 8),(10,vi s10.1)],[(2,.box (tc aH aW)),(3,.box (tc ak aC)),(4,.box (tc aH j12.1)),(7,.box (tc aH j12.2)),(8,oa 9 1 eS x9.1)]⟩) (fun v13 h=> ?_) (fun j12 h=> ?_)
 refine aw (a:=v13) ?_
 refine ac ?_
 refine ac ?_
 refine cO mixed ?_
 refine aY.cl aa false 2 [2,3,4,7,8,10,65,66] [2,3,4,7,8] ?_
 obtain⟨x14,hx14,h⟩:=bind_some h
 refine aY.step (bm (d:=8) (L:=x9.1) (f:=eS) (ti:=cF) (tj:=gl) (e:=9) (e':=9) (m:=1) (k:= .i64) aa rfl hx14) ?_
 refine aY.step (dB (d:=8) (m:=1) (j:=0) (L:=x9.1) (f:=eS) (ti:=gl) (e:=9) (v:=vs x14) aa rfl hx14) ?_
 refine aY.cl aa false 3 [2,3,4,7,8,10,71] [2,3,4,7,8] ?_
 refine aY.nx ?_
 refine ai h (fun h=> ?_) fun h=> ?_
 refine az aa [4,5] [4] ?_
 refine ae ?_
 obtain rfl:=inj h
 exact bt (bn (aU (aU (bn (aU (aD (f2 (lC rfl (cT aa (d:=4) (cs:=[vl af aW.Places,vl ah aW.Links]) (ti:=jA) (by kernel_rfl) (by kernel_rfl) (by kernel_rfl) (by kernel_rfl))) ft)))))))
 refine ag ?_
 refine aZ ?_
 refine ac ?_
 refine cO mixed ?_
 refine aY.cl aa false 4 [2,3,4,7,8,10,74,75,76,77] [2,3,4,7,8] ?_
 obtain⟨x15,hx15,h⟩:=bind_some h
 refine aY.step (bm (d:=8) (L:=x9.1) (f:=eS) (ti:=cF) (tj:=gl) (e:=9) (e':=9) (m:=1) (k:= .i64) aa rfl hx15) ?_
 refine aY.step (dB (d:=8) (m:=1) (j:=0) (L:=x9.1) (f:=eS) (ti:=gl) (e:=9) (v:=vs x15) aa rfl hx15) ?_
 refine aY.cl aa false 4 [2,3,4,7,8,10,74,75,79,81,83] [2,3,4,7,8] ?_
 obtain⟨x16,hx16,h⟩:=bind_some h
 refine aY.step (xc zL (lq s10.2.2 x15 aC.Other aC.Year _ hx16)) ?_
 obtain⟨x17,hx17,h⟩:=bind_some h
 refine aY.step (xc zK (kN s10.2.2 x16 _ hx17)) ?_
 refine aY.cl aa false 4 [2,3,4,7,8,10,11,86,87] [2,3,4,7,8,11] ?_
 refine aY.xu [11] (se (d:=11) (k:=0) (ti:=jA) (cs:=[vl af ([]:List Place),vl ah ([]:List ax)]) (vs:=[vl af x17.1.Places,vl ah x17.1.Links]) (v:= .agg (tc aH x17.1)) aa rfl rfl) ?_
 refine aY.cl aa false 1 [2,3,4,7,8,10,11,12] [2,3,4,7,8,11] ?_
 refine aY.nx ?_
 refine ac ?_
 refine az aa [2,3,4,7,8,10,11,12,89] [2,3,4,7,8,11] ?_
 refine ai h (fun h=> ?_) fun h=> ?_
 refine iy aa ⟨112,[(4,.ref 4 0),(5,vi x17.2)],[(4,.box (tc aH aW))]⟩ ?_
 refine ae ?_
 obtain rfl:=inj h
 exact bt (bn (aU (aU (bn (aU (aD (f2 (lC rfl (cT aa (d:=4) (cs:=[vl af aW.Places,vl ah aW.Links]) (ti:=jA) (by kernel_rfl) (by kernel_rfl) (by kernel_rfl) (by kernel_rfl))) ft)))))))
 refine ag ?_
 refine aZ ?_
 refine aE ?_
 refine ab.cl aa 2 [2,3,4,7,8,10] [2,3,4,7,8] ?_
 refine ab.nil ?_
 obtain rfl:=inj h
 exact bP (bZ (Le.an))
 refine aE ?_
 refine ab.cl aa 3 [2,3,4,7,8,10] [2,3,4,7,8] ?_
 refine ab.nil ?_
 obtain rfl:=inj h
 exact bZ (Le.an)
 refine aQ ?_
 obtain rfl:=inj h
 exact cn (cr (cq (bZ (Le.an))))
 refine ag ?_
 obtain rfl:=inj h
 exact bZ (Le.an)
 refine sr ?_
 refine ab.cl aa 6 [3,4,7,95,97,99] [3,4,7] ?_
 obtain⟨x18,hx18,h⟩:=bind_some h
 refine ab.ls (xc Da (oF j7.2.Places aC.Code aC.Year _ hx18)) ?_
 refine bQ aa 5 [3,4,7,13] [3,4,7,100] ?_
 refine sr ?_
 refine ab.cl aa 7 [4,103,105,107,109] [4,100] ?_
 obtain⟨x19,hx19,h⟩:=bind_some h
 refine ab.ls (xc Db (qw j7.2.Links aC.Code aC.Year _ hx19)) ?_
 refine ab.ls (br (v:= .agg [.own 100,.own 110]) aa rfl) ?_
 refine bQ aa 2 [4,5] [4,100,110] ?_
 refine cj (Le.xV (d:=100) (e:=91) (m:=5) (n:=x18.1.length) (ss:=[.flat,.flat,.flat,.flat,(.sl 169 5 [.flat,.flat,.flat,.flat,.flat])]) (es:=x18.1.map af) (by kernel_rfl) (by kernel_rfl)) ?_
 refine cj (Le.rj (d:=110) (e:=85) (m:=4) (n:=x19.length) (es:=x19.map ah) (by kernel_rfl) (by kernel_rfl)) ?_
 refine ae ?_
 obtain rfl:=inj h
 exact aD (f2 (lC rfl (cT aa (d:=4) (cs:=[vl af x18.1,vl ah x19]) (ti:=jA) (by kernel_rfl) (by kernel_rfl) (by kernel_rfl) (by kernel_rfl))) ft)
theorem CR:bg Tryz.prog 33:=au Tryz.func33 (by kernel_rfl) rfl
noncomputable def dK(aX:Int)(jD:Int)(fP:Int):Option (Bool):=
 some ((decide (aX≥jD))&&(decide (aX≤fP)))
theorem dz(aX:Int)(jD:Int)(fP:Int)(r:Bool)(h:dK aX jD fP=some r):aJ Tryz.prog 77 [.v (vi aX),.v (vi jD),.v (vi fP)] ⟨[.v (vb r)],[],false⟩:=by
 refine ap Tryz.func77 rfl [(.tmp 6)] rfl (fun r=>⟨[.v (vb r)],[],false⟩) (r:=r) ?_
 unfold dK at h
 refine az aa [0,1,2] [] ?_
 refine ac ?_
 refine dp ⟨15,[(6,vb ((decide (aX≥jD))&&(decide (aX≤fP))))],[]⟩ ?_ ?_
 refine ab.ck aa 4 ⟨15,[(0,vi aX),(2,vi fP),(10,vb (decide (aX≥jD)))],[]⟩ ?_
 generalize (decide (aX≥jD))=bb
 cases bb
 refine ab.cl aa 5 [6] [] ?_
 exact ab.nil (Le.an)
 refine ab.cl aa 5 [6] [] ?_
 exact ab.nil (Le.an)
 refine ae ?_
 obtain rfl:=inj h
 exact aD (f1 fv)
theorem nu:bg Tryz.prog 77:=au Tryz.func77 (by kernel_rfl) rfl
theorem pC(s c r:ByteArray)(h:ef s c=some r):aJ Tryz.prog 180 [.v (.tr (.str s)),.v (.tr (.str c))] ⟨[.v (.tr (.str r))],[],false⟩:=AE Tryz.B2 (by kernel_rfl) 180 rfl s c r h
theorem By:bg Tryz.prog 180:=au Tryz.func180 (by kernel_rfl) rfl
noncomputable def gu(aS:ByteArray)(qP:Int)(uW:Int):Option (Bool):=
 ((((dK (aS.size:Int) qP uW).bind fun x1=>(bif x1 then((ef aS (ByteArray.mk #[97,98,99,100,101,102,103,104,105,106,107,108,109,110,111,112,113,114,115,116,117,118,119,120,121,122])).bind fun x2=>some (x2.toList==(ByteArray.mk #[]).toList))else some false))).bind fun(j3:Bool)=>some j3)
theorem lb(aS:ByteArray)(qP:Int)(uW:Int)(r:Bool)(h:gu aS qP uW=some r):aJ Tryz.prog 135 [.v (vs aS),.v (vi qP),.v (vi uW)] ⟨[.v (vb r)],[],false⟩:=by
 refine ap Tryz.func135 rfl [(.tmp 6)] rfl (fun r=>⟨[.v (vb r)],[],false⟩) (r:=r) ?_
 unfold gu at h
 refine az aa [0,1,2] [] ?_
 refine ac ?_
 refine bo h (fun j3=>⟨17,[(6,vb j3)],[]⟩) (fun v4 h=> ?_) (fun j3 h=> ?_)
 refine ab.cl aa 4 [0,8,9,10] [] ?_
 obtain⟨x1,hx1,h⟩:=bind_some h
 refine ab.ls (xc nu (dz (aS.size:Int) qP uW _ hx1)) ?_
 refine ab.cl aa 1 [0,12] [] ?_
 refine ab.cu [(12,fun b=>b)] h (fun h=> ?_) fun h=> ?_
 refine ab.cl aa 1 [12,13] [] ?_
 obtain⟨x2,hx2,h⟩:=bind_some h
 refine ab.ls (xc By (pC aS (ByteArray.mk #[97,98,99,100,101,102,103,104,105,106,107,108,109,110,111,112,113,114,115,116,117,118,119,120,121,122]) _ hx2)) ?_
 refine ab.cl aa 3 [6] [] ?_
 refine ab.nil ?_
 obtain rfl:=inj h
 exact Le.an
 refine ab.cl aa 5 [6] [] ?_
 refine ab.nil ?_
 obtain rfl:=inj h
 exact Le.an
 refine ae ?_
 obtain rfl:=inj h
 exact aD (f1 fv)
theorem xF:bg Tryz.prog 135:=au Tryz.func135 (by kernel_rfl) rfl
noncomputable def eV(aS:ByteArray):Option (Bool):=
 ((gu aS 1 16).bind fun x1=>some x1)
theorem gW(aS:ByteArray)(r:Bool)(h:eV aS=some r):aJ Tryz.prog 78 [.v (vs aS)] ⟨[.v (vb r)],[],false⟩:=by
 refine ap Tryz.func78 rfl [(.tmp 2)] rfl (fun r=>⟨[.v (vb r)],[],false⟩) (r:=r) ?_
 unfold eV at h
 refine iy aa ⟨5,[(0,vs aS)],[]⟩ ?_
 refine sr ?_
 refine ab.ck aa 1 ⟨5,[(3,vs aS)],[]⟩ ?_
 obtain⟨x1,hx1,h⟩:=bind_some h
 refine ab.ls (xc xF (lb aS 1 16 _ hx1)) ?_
 refine ckn aa 1 ⟨5,[(2,vb x1)],[]⟩ ?_
 refine ae ?_
 obtain rfl:=inj h
 exact aD (f1 fv)
theorem tN:bg Tryz.prog 78:=au Tryz.func78 (by kernel_rfl) rfl
noncomputable def ea(aj:Int):Option (Bool):=
 ((dK aj (-3000) 3000).bind fun x1=>some x1)
theorem gX(aj:Int)(r:Bool)(h:ea aj=some r):aJ Tryz.prog 193 [.v (vi aj)] ⟨[.v (vb r)],[],false⟩:=by
 refine ap Tryz.func193 rfl [(.tmp 2)] rfl (fun r=>⟨[.v (vb r)],[],false⟩) (r:=r) ?_
 unfold ea at h
 refine az aa [0] [] ?_
 refine sr ?_
 refine ab.cl aa 1 [3] [] ?_
 obtain⟨x1,hx1,h⟩:=bind_some h
 refine ab.ls (xc nu (dz aj (-3000) 3000 _ hx1)) ?_
 refine ckn aa 1 ⟨5,[(2,vb x1)],[]⟩ ?_
 refine ae ?_
 obtain rfl:=inj h
 exact aD (f1 fv)
theorem qB:bg Tryz.prog 193:=au Tryz.func193 (by kernel_rfl) rfl
noncomputable def fS(aS:Span):Option (Bool):=
 ((((ea aS.From).bind fun x1=>(bif x1 then((ea aS.To).bind fun x2=>(bif x2 then some (decide (aS.From≤aS.To))else some false))else some false))).bind fun(j3:Bool)=>some j3)
theorem jG(aS:Span)(r:Bool)(h:fS aS=some r):aJ Tryz.prog 156 [.v (.agg (tc gE aS))] ⟨[.v (vb r)],[],false⟩:=by
 refine ap Tryz.func156 rfl [(.tmp 2)] rfl (fun r=>⟨[.v (vb r)],[],false⟩) (r:=r) ?_
 unfold fS at h
 refine az aa [1] [1] ?_
 refine ac ?_
 refine bo h (fun j3=>⟨18,[(2,vb j3)],[]⟩) (fun v4 h=> ?_) (fun j3 h=> ?_)
 refine ab.cl aa 2 [1,4] [1] ?_
 obtain⟨x1,hx1,h⟩:=bind_some h
 refine ab.ls (xc qB (gX aS.From _ hx1)) ?_
 refine ab.cl aa 1 [1,6] [1] ?_
 refine ab.cu [(6,fun b=>b)] h (fun h=> ?_) fun h=> ?_
 refine ab.cl aa 2 [1,6,8] [1] ?_
 obtain⟨x2,hx2,h⟩:=bind_some h
 refine ab.ls (xc qB (gX aS.To _ hx2)) ?_
 refine ab.cl aa 2 [1,11] [1] ?_
 refine ab.cu [(11,fun b=>b)] h (fun h=> ?_) fun h=> ?_
 refine ab.cl aa 7 [2] [] ?_
 refine ab.nil ?_
 obtain rfl:=inj h
 exact Le.an
 refine ab.cl aa 7 [2] [] ?_
 refine ab.nil ?_
 obtain rfl:=inj h
 exact Le.an
 refine ab.cl aa 12 [2] [] ?_
 refine ab.nil ?_
 obtain rfl:=inj h
 exact Le.an
 refine ae ?_
 obtain rfl:=inj h
 exact aD (f1 fv)
theorem tG:bg Tryz.prog 156:=au Tryz.func156 (by kernel_rfl) rfl
theorem oR(s c:ByteArray)(r:List ByteArray)(h:strings_Split s c=some r):aJ Tryz.prog 181 [.v (.tr (.str s)),.v (.tr (.str c))] ⟨[.own 9 1 r.length (r.map eS)],[],false⟩:=yW Tryz.B1 (by kernel_rfl) 181 9 rfl rfl s c r h
theorem Bz:bg Tryz.prog 181:=au Tryz.func181 (by kernel_rfl) rfl
noncomputable def iJ(aS:ByteArray):Option ((List ByteArray)):=
 ((strings_Split aS (ByteArray.mk #[32])).bind fun x1=>some x1)
theorem o7(aS:ByteArray)(r:(List ByteArray))(h:iJ aS=some r):aJ Tryz.prog 136 [.v (vs aS)] ⟨[.own 9 1 r.length (r.map eS)],[],false⟩:=by
 refine ap Tryz.func136 rfl [(.tmp 2)] rfl (fun r=>⟨[.own 9 1 r.length (r.map eS)],[],false⟩) (r:=r) ?_
 unfold iJ at h
 refine iy aa ⟨5,[(0,vs aS)],[]⟩ ?_
 refine sr ?_
 refine ab.ck aa 1 ⟨5,[(3,vs aS)],[]⟩ ?_
 obtain⟨x1,hx1,h⟩:=bind_some h
 refine ab.ls (xc Bz (oR aS (ByteArray.mk #[32]) _ hx1)) ?_
 refine bQ aa 1 [2] [4] ?_
 refine ae ?_
 obtain rfl:=inj h
 exact aD (f1 (fo fK))
theorem Bh:bg Tryz.prog 136:=au Tryz.func136 (by kernel_rfl) rfl
noncomputable def ek(ad:(List ByteArray)):Option (Bool):=
 (((cQ (ad.length:Int) (fun(i3:Int) (_:Unit)=>((at' ad i3).bind fun x7=>((eV x7).bind fun x8=>(bif(!x8)then some (.inr (.inr false))else some (.inl ()))))) (fun(_:Unit)=> .inl ()) 0 ())).bind (Sum.elim (fun(_:Unit)=>some true) some))
theorem iG(ad:(List ByteArray))(r:Bool)(h:ek ad=some r):aJ Tryz.prog 137 [.v (vl eS ad)] ⟨[.v (vb r)],[],false⟩:=by
 refine ap Tryz.func137 rfl [(.tmp 2)] rfl (fun r=>⟨[.v (vb r)],[],false⟩) (r:=r) ?_
 unfold ek at h
 refine az aa [0] [] ?_
 refine ac ?_
 refine az aa [5,6,7] [] ?_
 refine bi (r:=r) h (fun j1=>⟨15,[],[]⟩) (fun v2 h=> ?_) (fun j1 h=> ?_)
 refine aw (a:=v2) ?_
 refine a7 (r:=v2) (s:=(0,())) _ (fun s3=>⟨15,[(5,vl eS ad),(6,vi (ad.length:Int)),(7,vi s3.1)],[]⟩) _ (Le.an) h (fun s3 v4 h=> ?_)
 refine az aa [5,6,7,8] [] ?_
 refine ac ?_
 refine ai h (fun h=> ?_) fun h=> ?_
 refine ag ?_
 refine aZ ?_
 refine ac ?_
 refine bp (r:=v4) h (fun j5=>⟨15,[(5,vl eS ad),(6,vi (ad.length:Int)),(7,vi s3.1)],[]⟩) (fun v6 h=> ?_) (fun j5 h=> ?_)
 refine aw (a:=v6) ?_
 refine sr ?_
 obtain⟨x7,hx7,h⟩:=bind_some h
 refine ab.ls (aG (L:=ad) (f:=eS) (ti:=cF) (tj:=gl) (e:=9) (k:= .i64) aa rfl hx7) ?_
 refine bQ aa 2 [4,5,6,7] [] ?_
 refine sr ?_
 refine ab.cl aa 1 [5,6,7,11] [] ?_
 obtain⟨x8,hx8,h⟩:=bind_some h
 refine ab.ls (xc tN (gW x7 _ hx8)) ?_
 refine bQ aa 1 [5,6,7,13] [] ?_
 refine ai h (fun h=> ?_) fun h=> ?_
 refine az aa [2] [] ?_
 refine ae ?_
 obtain rfl:=inj h
 exact bn (aU (aU (bn (aU (aD (f1 fv))))))
 refine ag ?_
 obtain rfl:=inj h
 exact bP (bZ (Le.an))
 refine aE ?_
 refine ab.cl aa 2 [5,6,7] [] ?_
 refine ab.nil ?_
 obtain rfl:=inj h
 exact bZ (Le.an)
 refine aQ ?_
 obtain rfl:=inj h
 exact cn (cr (cq (bZ (Le.an))))
 refine az aa [2] [] ?_
 refine ae ?_
 obtain rfl:=inj h
 exact aD (f1 fv)
theorem tE:bg Tryz.prog 137:=au Tryz.func137 (by kernel_rfl) rfl
noncomputable def ej(aS:ByteArray):Option (Bool):=
 ((iJ aS).bind fun x1=>(((bif(decide ((x1.length:Int)≤8))then((ek x1).bind fun x2=>some x2)else some false)).bind fun(j3:Bool)=>some j3))
theorem iC(aS:ByteArray)(r:Bool)(h:ej aS=some r):aJ Tryz.prog 81 [.v (vs aS)] ⟨[.v (vb r)],[],false⟩:=by
 refine ap Tryz.func81 rfl [(.tmp 2)] rfl (fun r=>⟨[.v (vb r)],[],false⟩) (r:=r) ?_
 unfold ej at h
 refine az aa [0] [] ?_
 refine sr ?_
 refine ab.cl aa 1 [4] [] ?_
 obtain⟨x1,hx1,h⟩:=bind_some h
 refine ab.ls (xc Bh (o7 aS _ hx1)) ?_
 refine bQ aa 1 [3] [5] ?_
 refine ac ?_
 refine bo h (fun j3=>⟨13,[(2,vb j3)],[]⟩) (fun v4 h=> ?_) (fun j3 h=> ?_)
 refine ab.cl aa 4 [3,9] [5] ?_
 refine ab.cu [(9,fun b=>b)] h (fun h=> ?_) fun h=> ?_
 refine ab.cl aa 1 [9,10] [5] ?_
 obtain⟨x2,hx2,h⟩:=bind_some h
 refine ab.ls (xc tE (iG x1 _ hx2)) ?_
 refine ab.cl aa 2 [2] [] ?_
 refine ab.nil ?_
 obtain rfl:=inj h
 exact Le.an
 refine ab.cl aa 4 [2] [] ?_
 refine ab.nil ?_
 obtain rfl:=inj h
 exact Le.an
 refine ae ?_
 obtain rfl:=inj h
 exact aD (f1 fv)
theorem wT:bg Tryz.prog 81:=au Tryz.func81 (by kernel_rfl) rfl
noncomputable def dy(aS:ByteArray):Option (Bool):=
 ((gu aS 2 3).bind fun x1=>some x1)
theorem gF(aS:ByteArray)(r:Bool)(h:dy aS=some r):aJ Tryz.prog 80 [.v (vs aS)] ⟨[.v (vb r)],[],false⟩:=by
 refine ap Tryz.func80 rfl [(.tmp 2)] rfl (fun r=>⟨[.v (vb r)],[],false⟩) (r:=r) ?_
 unfold dy at h
 refine iy aa ⟨5,[(0,vs aS)],[]⟩ ?_
 refine sr ?_
 refine ab.ck aa 1 ⟨5,[(3,vs aS)],[]⟩ ?_
 obtain⟨x1,hx1,h⟩:=bind_some h
 refine ab.ls (xc xF (lb aS 2 3 _ hx1)) ?_
 refine ckn aa 1 ⟨5,[(2,vb x1)],[]⟩ ?_
 refine ae ?_
 obtain rfl:=inj h
 exact aD (f1 fv)
theorem wS:bg Tryz.prog 80:=au Tryz.func80 (by kernel_rfl) rfl
noncomputable def jr(aN:Name):Option (Bool):=
 ((((ej aN.Text).bind fun x1=>(bif x1 then((dy aN.Language).bind fun x2=>(bif x2 then((dK aN.Status 0 2).bind fun x3=>(bif x3 then((fS aN.Years).bind fun x4=>some x4)else some false))else some false))else some false))).bind fun(j5:Bool)=>some j5)
theorem pZ(aN:Name)(r:Bool)(h:jr aN=some r):aJ Tryz.prog 194 [.v (.agg (tc ar aN))] ⟨[.v (vb r)],[],false⟩:=by
 refine ap Tryz.func194 rfl [(.tmp 2)] rfl (fun r=>⟨[.v (vb r)],[],false⟩) (r:=r) ?_
 unfold jr at h
 refine az aa [1] [1] ?_
 refine ac ?_
 refine bo h (fun j5=>⟨21,[(2,vb j5)],[]⟩) (fun v6 h=> ?_) (fun j5 h=> ?_)
 refine ab.cl aa 2 [1,4] [1] ?_
 obtain⟨x1,hx1,h⟩:=bind_some h
 refine ab.ls (xc wT (iC aN.Text _ hx1)) ?_
 refine ab.cl aa 1 [1,6] [1] ?_
 refine ab.cu [(6,fun b=>b)] h (fun h=> ?_) fun h=> ?_
 refine ab.cl aa 2 [1,6,8] [1] ?_
 obtain⟨x2,hx2,h⟩:=bind_some h
 refine ab.ls (xc wS (gF aN.Language _ hx2)) ?_
 refine ab.cl aa 2 [1,11] [1] ?_
 refine ab.cu [(11,fun b=>b)] h (fun h=> ?_) fun h=> ?_
 refine ab.cl aa 2 [1,11,13] [1] ?_
 obtain⟨x3,hx3,h⟩:=bind_some h
 refine ab.ls (xc nu (dz aN.Status 0 2 _ hx3)) ?_
 refine ab.cl aa 2 [1,16] [1] ?_
 refine ab.cu [(16,fun b=>b)] h (fun h=> ?_) fun h=> ?_
 refine ab.cl aa 2 [16,18] [] ?_
 obtain⟨x4,hx4,h⟩:=bind_some h
 refine ab.ls (xc tG (jG aN.Years _ hx4)) ?_
 refine ab.cl aa 2 [2] [] ?_
 refine ab.nil ?_
 obtain rfl:=inj h
 exact Le.an
 refine ab.ck aa 5 ⟨21,[(2,vb false)],[]⟩ ?_
 refine ab.nil ?_
 obtain rfl:=inj h
 exact Le.an
 refine ab.cl aa 10 [2] [] ?_
 refine ab.nil ?_
 obtain rfl:=inj h
 exact Le.an
 refine ab.cl aa 15 [2] [] ?_
 refine ab.nil ?_
 obtain rfl:=inj h
 exact Le.an
 refine ae ?_
 obtain rfl:=inj h
 exact aD (f1 fv)
theorem BG:bg Tryz.prog 194:=au Tryz.func194 (by kernel_rfl) rfl
noncomputable def cR(aN:Name)(bf:ByteArray):Option (Bool):=
 some ((aN.Status==0)&&(aN.Language.toList==bf.toList))
theorem gJ(aN:Name)(bf:ByteArray)(r:Bool)(h:cR aN bf=some r):aJ Tryz.prog 196 [.v (.agg (tc ar aN)),.v (vs bf)] ⟨[.v (vb r)],[],false⟩:=by
 refine ap Tryz.func196 rfl [(.tmp 4)] rfl (fun r=>⟨[.v (vb r)],[],false⟩) (r:=r) ?_
 unfold cR at h
 refine az aa [1,2] [2] ?_
 refine ac ?_
 refine dp ⟨14,[(4,vb ((aN.Status==0)&&(aN.Language.toList==bf.toList)))],[]⟩ ?_ ?_
 refine ab.ck aa 4 ⟨14,[(1,vs bf),(2,.ref 2 0),(8,vb (aN.Status==0))],[(2,.box (tc ar aN))]⟩ ?_
 generalize (aN.Status==0)=bb
 cases bb
 refine ab.cl aa 6 [4] [] ?_
 exact ab.nil (Le.an)
 refine ab.cl aa 6 [4] [] ?_
 exact ab.nil (Le.an)
 refine ae ?_
 obtain rfl:=inj h
 exact aD (f1 fv)
theorem xN:bg Tryz.prog 196:=au Tryz.func196 (by kernel_rfl) rfl
noncomputable def dV(aS:Span)(aT:Span):Option (Bool):=
 some ((decide (aS.From≤aT.To))&&(decide (aT.From≤aS.To)))
theorem jM(aS:Span)(aT:Span)(r:Bool)(h:dV aS aT=some r):aJ Tryz.prog 107 [.v (.agg (tc gE aS)),.v (.agg (tc gE aT))] ⟨[.v (vb r)],[],false⟩:=by
 refine ap Tryz.func107 rfl [(.tmp 4)] rfl (fun r=>⟨[.v (vb r)],[],false⟩) (r:=r) ?_
 unfold dV at h
 refine az aa [2,3] [2,3] ?_
 refine ac ?_
 refine dp ⟨17,[(4,vb ((decide (aS.From≤aT.To))&&(decide (aT.From≤aS.To))))],[]⟩ ?_ ?_
 refine ab.ck aa 6 ⟨17,[(2,.ref 2 0),(3,.ref 3 0),(10,vb (decide (aS.From≤aT.To)))],[(2,.box (tc gE aS)),(3,.box (tc gE aT))]⟩ ?_
 generalize (decide (aS.From≤aT.To))=bb
 cases bb
 refine ab.cl aa 7 [4] [] ?_
 exact ab.nil (Le.an)
 refine ab.cl aa 7 [4] [] ?_
 exact ab.nil (Le.an)
 refine ae ?_
 obtain rfl:=inj h
 exact aD (f1 fv)
theorem xB:bg Tryz.prog 107:=au Tryz.func107 (by kernel_rfl) rfl
noncomputable def gV(aM:Name)(c0:Name):Option (Bool):=
 ((((cR aM c0.Language).bind fun x1=>(bif x1 then((dV aM.Years c0.Years).bind fun x2=>some x2)else some false))).bind fun(j3:Bool)=>some j3)
theorem mV(aM:Name)(c0:Name)(r:Bool)(h:gV aM c0=some r):aJ Tryz.prog 195 [.v (.agg (tc ar aM)),.v (.ptr [vs c0.Text,vs c0.Language,vi c0.Status,vi c0.Years.From,vi c0.Years.To] 0)] ⟨[.v (vb r)],[],false⟩:=by
 refine ap Tryz.func195 rfl [(.tmp 3)] rfl (fun r=>⟨[.v (vb r)],[],false⟩) (r:=r) ?_
 unfold gV at h
 refine az aa [1,2] [2] ?_
 refine ac ?_
 refine bo h (fun j3=>⟨15,[(3,vb j3)],[]⟩) (fun v4 h=> ?_) (fun j3 h=> ?_)
 refine ab.cl aa 3 [1,2,4,6] [2] ?_
 obtain⟨x1,hx1,h⟩:=bind_some h
 refine ab.ls (xc xN (gJ aM c0.Language _ hx1)) ?_
 refine ab.cl aa 1 [1,2,8] [2] ?_
 refine ab.cu [(8,fun b=>b)] h (fun h=> ?_) fun h=> ?_
 refine ab.cl aa 4 [8,10,12] [] ?_
 obtain⟨x2,hx2,h⟩:=bind_some h
 refine ab.ls (xc xB (jM aM.Years c0.Years _ hx2)) ?_
 refine ab.cl aa 2 [3] [] ?_
 refine ab.nil ?_
 obtain rfl:=inj h
 exact Le.an
 refine ab.cl aa 7 [3] [] ?_
 refine ab.nil ?_
 obtain rfl:=inj h
 exact Le.an
 refine ae ?_
 obtain rfl:=inj h
 exact aD (f1 fv)
theorem BH:bg Tryz.prog 195:=au Tryz.func195 (by kernel_rfl) rfl
noncomputable def bX(aS:(List Name))(cX:Name):Option (Int):=
 (((cQ (aS.length:Int) (fun(i3:Int) (_:Unit)=>((at' aS i3).bind fun x7=>((gV x7 cX).bind fun x8=>(bif x8 then some (.inr (.inr i3))else some (.inl ()))))) (fun(_:Unit)=> .inl ()) 0 ())).bind (Sum.elim (fun(_:Unit)=>some (-1)) some))
theorem fu(aS:(List Name))(cX:Name)(r:Int)(h:bX aS cX=some r):aJ Tryz.prog 197 [.v (vl ar aS),.v (.clo 195 [.ptr [vs cX.Text,vs cX.Language,vi cX.Status,vi cX.Years.From,vi cX.Years.To] 0])] ⟨[.v (vi r)],[],false⟩:=by
 refine ap Tryz.func197 rfl [(.tmp 4)] rfl (fun r=>⟨[.v (vi r)],[],false⟩) (r:=r) ?_
 unfold bX at h
 refine az aa [0,1] [] ?_
 refine ac ?_
 refine az aa [0,1,7,8] [] ?_
 refine bi (r:=r) h (fun j1=>⟨19,[],[]⟩) (fun v2 h=> ?_) (fun j1 h=> ?_)
 refine aw (a:=v2) ?_
 refine a7 (r:=v2) (s:=(0,())) _ (fun s3=>⟨19,[(0,vl ar aS),(1,.clo 195 [.ptr [vs cX.Text,vs cX.Language,vi cX.Status,vi cX.Years.From,vi cX.Years.To] 0]),(7,vi (aS.length:Int)),(8,vi s3.1)],[]⟩) _ (Le.an) h (fun s3 v4 h=> ?_)
 refine az aa [0,1,7,8,9] [] ?_
 refine ac ?_
 refine ai h (fun h=> ?_) fun h=> ?_
 refine ag ?_
 refine aZ ?_
 refine ac ?_
 refine bp (r:=v4) h (fun j5=>⟨19,[(0,vl ar aS),(1,.clo 195 [.ptr [vs cX.Text,vs cX.Language,vi cX.Status,vi cX.Years.From,vi cX.Years.To] 0]),(7,vi (aS.length:Int)),(8,vi s3.1)],[]⟩) (fun v6 h=> ?_) (fun j5 h=> ?_)
 refine aw (a:=v6) ?_
 refine az aa [0,1,5,7,8] [] ?_
 refine sr ?_
 refine ab.cl aa 3 [0,1,5,7,8,11,12,13] [] ?_
 obtain⟨x7,hx7,h⟩:=bind_some h
 refine ab.ls (aG (L:=aS) (f:=ar) (ti:=dh) (tj:=cK) (e:=169) (k:= .i64) aa rfl hx7) ?_
 refine ab.cl aa 1 [0,1,5,7,8,11,15] [] ?_
 obtain⟨x8,hx8,h⟩:=bind_some h
 refine ab.ls (xc BH (mV x7 cX _ hx8)) ?_
 refine ab.nx ?_
 refine ai h (fun h=> ?_) fun h=> ?_
 refine az aa [4] [] ?_
 refine ae ?_
 obtain rfl:=inj h
 exact bn (aU (aU (bn (aU (aD (f1 fv))))))
 refine ag ?_
 obtain rfl:=inj h
 exact bP (bZ (Le.an))
 refine aE ?_
 refine ab.cl aa 2 [0,1,7,8] [] ?_
 refine ab.nil ?_
 obtain rfl:=inj h
 exact bZ (Le.an)
 refine aQ ?_
 obtain rfl:=inj h
 exact cn (cr (cq (bZ (Le.an))))
 refine az aa [4] [] ?_
 refine ae ?_
 obtain rfl:=inj h
 exact aD (f1 fv)
theorem tL:bg Tryz.prog 197:=au Tryz.func197 (by kernel_rfl) rfl
noncomputable def bK(aS:(List Name))(cX:Name):Option (Bool):=
 ((bX aS cX).bind fun x1=>some (decide (x1≥0)))
theorem eN(aS:(List Name))(cX:Name)(r:Bool)(h:bK aS cX=some r):aJ Tryz.prog 158 [.v (vl ar aS),.v (.clo 195 [.ptr [vs cX.Text,vs cX.Language,vi cX.Status,vi cX.Years.From,vi cX.Years.To] 0])] ⟨[.v (vb r)],[],false⟩:=by
 refine ap Tryz.func158 rfl [(.tmp 4)] rfl (fun r=>⟨[.v (vb r)],[],false⟩) (r:=r) ?_
 unfold bK at h
 refine az aa [0,1] [] ?_
 refine sr ?_
 refine ab.cl aa 2 [5,6] [] ?_
 obtain⟨x1,hx1,h⟩:=bind_some h
 refine ab.ls (xc tL (fu aS cX _ hx1)) ?_
 refine bQ aa 2 [4] [] ?_
 refine ae ?_
 obtain rfl:=inj h
 exact aD (f1 fv)
theorem xI:bg Tryz.prog 158:=au Tryz.func158 (by kernel_rfl) rfl
noncomputable def fA(ad:(List Name)):Option (Bool):=
 (((cQ (ad.length:Int) (fun(i3:Int) (_:Unit)=>((at' ad i3).bind fun x7=>((jr x7).bind fun x8=>(bif(!x8)then some (.inr (.inr false))else((ni ad 0 i3).bind fun x9=>((bK x9 x7).bind fun x10=>(bif((x7.Status==0)&&x10)then some (.inr (.inr false))else some (.inl ())))))))) (fun(_:Unit)=> .inl ()) 0 ())).bind (Sum.elim (fun(_:Unit)=>some (decide ((ad.length:Int)≤12))) some))
theorem kD(ad:(List Name))(r:Bool)(h:fA ad=some r):aJ Tryz.prog 157 [.v (vl ar ad)] ⟨[.v (vb r)],[],false⟩:=by
 refine ap Tryz.func157 rfl [(.tmp 2)] rfl (fun r=>⟨[.v (vb r)],[],false⟩) (r:=r) ?_
 unfold fA at h
 refine az aa [0] [] ?_
 refine ac ?_
 refine az aa [0,6,7,8] [] ?_
 refine bi (r:=r) h (fun j1=>⟨31,[(0,vl ar ad)],[]⟩) (fun v2 h=> ?_) (fun j1 h=> ?_)
 refine aw (a:=v2) ?_
 refine a7 (r:=v2) (s:=(0,())) _ (fun s3=>⟨31,[(0,vl ar ad),(6,vl ar ad),(7,vi (ad.length:Int)),(8,vi s3.1)],[]⟩) _ (Le.an) h (fun s3 v4 h=> ?_)
 refine az aa [0,6,7,8,9] [] ?_
 refine ac ?_
 refine ai h (fun h=> ?_) fun h=> ?_
 refine ag ?_
 refine aZ ?_
 refine ac ?_
 refine bp (r:=v4) h (fun j5=>⟨31,[(0,vl ar ad),(6,vl ar ad),(7,vi (ad.length:Int)),(8,vi s3.1)],[]⟩) (fun v6 h=> ?_) (fun j5 h=> ?_)
 refine aw (a:=v6) ?_
 refine sr ?_
 refine ab.cl aa 1 [0,6,7,8,10] [] ?_
 obtain⟨x7,hx7,h⟩:=bind_some h
 refine ab.ls (aG (L:=ad) (f:=ar) (ti:=dh) (tj:=cK) (e:=169) (k:= .i64) aa rfl hx7) ?_
 refine bQ aa 4 [0,3,4,6,7,8] [4] ?_
 refine ac ?_
 refine sr ?_
 refine ab.cl aa 1 [0,3,4,6,7,8,13] [4] ?_
 obtain⟨x8,hx8,h⟩:=bind_some h
 refine ab.ls (xc BG (pZ x7 _ hx8)) ?_
 refine bQ aa 1 [0,3,4,6,7,8,15] [4] ?_
 refine ai h (fun h=> ?_) fun h=> ?_
 refine az aa [2] [] ?_
 refine ae ?_
 obtain rfl:=inj h
 exact bt (bn (aU (aU (bn (aU (aD (f1 fv)))))))
 refine ag ?_
 refine aZ ?_
 refine sr ?_
 refine ab.cl aa 2 [0,4,6,7,8,16,17] [4] ?_
 obtain⟨x9,hx9,h⟩:=bind_some h
 refine ab.ls (di (m:=5) (f:=ar) (ti:=dh) (tj:=cK) (e:=169) hx9 (fun _=>rfl) aa rfl) ?_
 refine ab.cl aa 1 [0,4,6,7,8,18,19] [4] ?_
 obtain⟨x10,hx10,h⟩:=bind_some h
 refine ab.ls (xc xI (eN x9 x7 _ hx10)) ?_
 refine bQ aa 1 [0,4,5,6,7,8] [4] ?_
 refine ac ?_
 refine dp ⟨31,[(0,vl ar ad),(6,vl ar ad),(7,vi (ad.length:Int)),(8,vi s3.1),(26,vb ((x7.Status==0)&&x10))],[]⟩ ?_ ?_
 refine ab.ck aa 4 ⟨31,[(0,vl ar ad),(5,vb x10),(6,vl ar ad),(7,vi (ad.length:Int)),(8,vi s3.1),(24,vb (x7.Status==0))],[]⟩ ?_
 generalize (x7.Status==0)=bb
 cases bb
 refine ab.cl aa 2 [0,6,7,8,26] [] ?_
 exact ab.nil (Le.an)
 refine ab.cl aa 2 [0,6,7,8,26] [] ?_
 exact ab.nil (Le.an)
 refine ai h (fun h=> ?_) fun h=> ?_
 refine az aa [2] [] ?_
 refine ae ?_
 obtain rfl:=inj h
 exact bn (aU (aU (bn (aU (aD (f1 fv))))))
 refine ag ?_
 obtain rfl:=inj h
 exact bP (bZ (Le.an))
 refine aE ?_
 refine ab.cl aa 2 [0,6,7,8] [] ?_
 refine ab.nil ?_
 obtain rfl:=inj h
 exact bZ (Le.an)
 refine aQ ?_
 obtain rfl:=inj h
 exact cn (cr (cq (bZ (Le.an))))
 refine az aa [2] [] ?_
 refine ae ?_
 obtain rfl:=inj h
 exact aD (f1 fv)
theorem xH:bg Tryz.prog 157:=au Tryz.func157 (by kernel_rfl) rfl
noncomputable def eA(aS:Span)(aT:Span):Option (Bool):=
 some ((decide (aT.From≤aS.From))&&(decide (aS.To≤aT.To)))
theorem kj(aS:Span)(aT:Span)(r:Bool)(h:eA aS aT=some r):aJ Tryz.prog 111 [.v (.agg (tc gE aS)),.v (.agg (tc gE aT))] ⟨[.v (vb r)],[],false⟩:=by
 refine ap Tryz.func111 rfl [(.tmp 4)] rfl (fun r=>⟨[.v (vb r)],[],false⟩) (r:=r) ?_
 unfold eA at h
 refine az aa [2,3] [2,3] ?_
 refine ac ?_
 refine dp ⟨17,[(4,vb ((decide (aT.From≤aS.From))&&(decide (aS.To≤aT.To))))],[]⟩ ?_ ?_
 refine ab.ck aa 6 ⟨17,[(2,.ref 2 0),(3,.ref 3 0),(10,vb (decide (aT.From≤aS.From)))],[(2,.box (tc gE aS)),(3,.box (tc gE aT))]⟩ ?_
 generalize (decide (aT.From≤aS.From))=bb
 cases bb
 refine ab.cl aa 7 [4] [] ?_
 exact ab.nil (Le.an)
 refine ab.cl aa 7 [4] [] ?_
 exact ab.nil (Le.an)
 refine ae ?_
 obtain rfl:=inj h
 exact aD (f1 fv)
theorem xC:bg Tryz.prog 111:=au Tryz.func111 (by kernel_rfl) rfl
noncomputable def iE(aN:Name)(c0:Place):Option (Bool):=
 ((eA aN.Years c0.Years).bind fun x1=>some (!x1))
theorem nz(aN:Name)(c0:Place)(r:Bool)(h:iE aN c0=some r):aJ Tryz.prog 159 [.v (.agg (tc ar aN)),.v (.ptr [vs c0.Code,vi c0.Class,vi c0.Years.From,vi c0.Years.To,vl ar c0.Names] 0)] ⟨[.v (vb r)],[],false⟩:=by
 refine ap Tryz.func159 rfl [(.tmp 3)] rfl (fun r=>⟨[.v (vb r)],[],false⟩) (r:=r) ?_
 unfold iE at h
 refine az aa [1,2] [2] ?_
 refine sr ?_
 refine ab.cl aa 4 [5,7] [] ?_
 obtain⟨x1,hx1,h⟩:=bind_some h
 refine ab.ls (xc xC (kj aN.Years c0.Years _ hx1)) ?_
 refine bQ aa 2 [3] [] ?_
 refine ae ?_
 obtain rfl:=inj h
 exact aD (f1 fv)
theorem Bo:bg Tryz.prog 159:=au Tryz.func159 (by kernel_rfl) rfl
noncomputable def b9(aS:(List Name))(cX:Place):Option (Int):=
 (((cQ (aS.length:Int) (fun(i3:Int) (_:Unit)=>((at' aS i3).bind fun x7=>((iE x7 cX).bind fun x8=>(bif x8 then some (.inr (.inr i3))else some (.inl ()))))) (fun(_:Unit)=> .inl ()) 0 ())).bind (Sum.elim (fun(_:Unit)=>some (-1)) some))
theorem fJ(aS:(List Name))(cX:Place)(r:Int)(h:b9 aS cX=some r):aJ Tryz.prog 197 [.v (vl ar aS),.v (.clo 159 [.ptr [vs cX.Code,vi cX.Class,vi cX.Years.From,vi cX.Years.To,vl ar cX.Names] 0])] ⟨[.v (vi r)],[],false⟩:=by
 refine ap Tryz.func197 rfl [(.tmp 4)] rfl (fun r=>⟨[.v (vi r)],[],false⟩) (r:=r) ?_
 unfold b9 at h
 refine az aa [0,1] [] ?_
 refine ac ?_
 refine az aa [0,1,7,8] [] ?_
 refine bi (r:=r) h (fun j1=>⟨19,[],[]⟩) (fun v2 h=> ?_) (fun j1 h=> ?_)
 refine aw (a:=v2) ?_
 refine a7 (r:=v2) (s:=(0,())) _ (fun s3=>⟨19,[(0,vl ar aS),(1,.clo 159 [.ptr [vs cX.Code,vi cX.Class,vi cX.Years.From,vi cX.Years.To,vl ar cX.Names] 0]),(7,vi (aS.length:Int)),(8,vi s3.1)],[]⟩) _ (Le.an) h (fun s3 v4 h=> ?_)
 refine az aa [0,1,7,8,9] [] ?_
 refine ac ?_
 refine ai h (fun h=> ?_) fun h=> ?_
 refine ag ?_
 refine aZ ?_
 refine ac ?_
 refine bp (r:=v4) h (fun j5=>⟨19,[(0,vl ar aS),(1,.clo 159 [.ptr [vs cX.Code,vi cX.Class,vi cX.Years.From,vi cX.Years.To,vl ar cX.Names] 0]),(7,vi (aS.length:Int)),(8,vi s3.1)],[]⟩) (fun v6 h=> ?_) (fun j5 h=> ?_)
 refine aw (a:=v6) ?_
 refine az aa [0,1,5,7,8] [] ?_
 refine sr ?_
 refine ab.cl aa 3 [0,1,5,7,8,11,12,13] [] ?_
 obtain⟨x7,hx7,h⟩:=bind_some h
 refine ab.ls (aG (L:=aS) (f:=ar) (ti:=dh) (tj:=cK) (e:=169) (k:= .i64) aa rfl hx7) ?_
 refine ab.cl aa 1 [0,1,5,7,8,11,15] [] ?_
 obtain⟨x8,hx8,h⟩:=bind_some h
 refine ab.ls (xc Bo (nz x7 cX _ hx8)) ?_
 refine ab.nx ?_
 refine ai h (fun h=> ?_) fun h=> ?_
 refine az aa [4] [] ?_
 refine ae ?_
 obtain rfl:=inj h
 exact bn (aU (aU (bn (aU (aD (f1 fv))))))
 refine ag ?_
 obtain rfl:=inj h
 exact bP (bZ (Le.an))
 refine aE ?_
 refine ab.cl aa 2 [0,1,7,8] [] ?_
 refine ab.nil ?_
 obtain rfl:=inj h
 exact bZ (Le.an)
 refine aQ ?_
 obtain rfl:=inj h
 exact cn (cr (cq (bZ (Le.an))))
 refine az aa [4] [] ?_
 refine ae ?_
 obtain rfl:=inj h
 exact aD (f1 fv)
noncomputable def bS(aS:(List Name))(cX:Place):Option (Bool):=
 ((b9 aS cX).bind fun x1=>some (decide (x1≥0)))
theorem eT(aS:(List Name))(cX:Place)(r:Bool)(h:bS aS cX=some r):aJ Tryz.prog 158 [.v (vl ar aS),.v (.clo 159 [.ptr [vs cX.Code,vi cX.Class,vi cX.Years.From,vi cX.Years.To,vl ar cX.Names] 0])] ⟨[.v (vb r)],[],false⟩:=by
 refine ap Tryz.func158 rfl [(.tmp 4)] rfl (fun r=>⟨[.v (vb r)],[],false⟩) (r:=r) ?_
 unfold bS at h
 refine az aa [0,1] [] ?_
 refine sr ?_
 refine ab.cl aa 2 [5,6] [] ?_
 obtain⟨x1,hx1,h⟩:=bind_some h
 refine ab.ls (xc tL (fJ aS cX _ hx1)) ?_
 refine bQ aa 2 [4] [] ?_
 refine ae ?_
 obtain rfl:=inj h
 exact aD (f1 fv)
noncomputable def iD(aP:Place):Option (Bool):=
 ((((eV aP.Code).bind fun x1=>(bif x1 then((dK aP.Class 0 19).bind fun x2=>(bif x2 then((fS aP.Years).bind fun x3=>(bif x3 then((fA aP.Names).bind fun x4=>(bif x4 then((bS aP.Names aP).bind fun x5=>some (!x5))else some false))else some false))else some false))else some false))).bind fun(j6:Bool)=>some j6)
theorem o4(aP:Place)(r:Bool)(h:iD aP=some r):aJ Tryz.prog 104 [.v (.agg (tc af aP))] ⟨[.v (vb r)],[],false⟩:=by
 refine ap Tryz.func104 rfl [(.tmp 2)] rfl (fun r=>⟨[.v (vb r)],[],false⟩) (r:=r) ?_
 unfold iD at h
 refine az aa [1] [1] ?_
 refine ac ?_
 refine bo h (fun j6=>⟨28,[(2,vb j6)],[]⟩) (fun v7 h=> ?_) (fun j6 h=> ?_)
 refine ab.cl aa 2 [1,4] [1] ?_
 obtain⟨x1,hx1,h⟩:=bind_some h
 refine ab.ls (xc tN (gW aP.Code _ hx1)) ?_
 refine ab.cl aa 1 [1,6] [1] ?_
 refine ab.cu [(6,fun b=>b)] h (fun h=> ?_) fun h=> ?_
 refine ab.cl aa 2 [1,6,8] [1] ?_
 obtain⟨x2,hx2,h⟩:=bind_some h
 refine ab.ls (xc nu (dz aP.Class 0 19 _ hx2)) ?_
 refine ab.cl aa 2 [1,11] [1] ?_
 refine ab.cu [(11,fun b=>b)] h (fun h=> ?_) fun h=> ?_
 refine ab.cl aa 2 [1,11,13] [1] ?_
 obtain⟨x3,hx3,h⟩:=bind_some h
 refine ab.ls (xc tG (jG aP.Years _ hx3)) ?_
 refine ab.cl aa 2 [1,16] [1] ?_
 refine ab.cu [(16,fun b=>b)] h (fun h=> ?_) fun h=> ?_
 refine ab.cl aa 2 [1,16,18] [1] ?_
 obtain⟨x4,hx4,h⟩:=bind_some h
 refine ab.ls (xc xH (kD aP.Names _ hx4)) ?_
 refine ab.cl aa 2 [1,21] [1] ?_
 refine ab.cu [(21,fun b=>b)] h (fun h=> ?_) fun h=> ?_
 refine ab.ck aa 3 ⟨28,[(21,vb true),(23,vl ar aP.Names),(24,.clo 159 [.ref 1 0])],[(1,.box (tc af aP))]⟩ ?_
 obtain⟨x5,hx5,h⟩:=bind_some h
 refine ab.ls (xc xI (eT aP.Names aP _ hx5)) ?_
 refine ab.cl aa 3 [2] [] ?_
 refine ab.nil ?_
 obtain rfl:=inj h
 exact Le.an
 refine ab.cl aa 7 [2] [] ?_
 refine ab.nil ?_
 obtain rfl:=inj h
 exact Le.an
 refine ab.cl aa 12 [2] [] ?_
 refine ab.nil ?_
 obtain rfl:=inj h
 exact Le.an
 refine ab.cl aa 17 [2] [] ?_
 refine ab.nil ?_
 obtain rfl:=inj h
 exact Le.an
 refine ab.cl aa 22 [2] [] ?_
 refine ab.nil ?_
 obtain rfl:=inj h
 exact Le.an
 refine ae ?_
 obtain rfl:=inj h
 exact aD (f1 fv)
theorem A2:bg Tryz.prog 104:=au Tryz.func104 (by kernel_rfl) rfl
noncomputable def fh(ad:(List Place)):Option (Bool):=
 (((cQ (ad.length:Int) (fun(i3:Int) (_:Unit)=>((at' ad i3).bind fun x7=>((((iD x7).bind fun x8=>(bif(!x8)then some true else(bif(decide (i3>0))then((at' ad (aO (i3 - 1))).bind fun x9=>some (!(Op.bytesLess x9.Code.toList x7.Code.toList)))else some false)))).bind fun(j10:Bool)=>(bif j10 then some (.inr (.inr false))else some (.inl ()))))) (fun(_:Unit)=> .inl ()) 0 ())).bind (Sum.elim (fun(_:Unit)=>some (decide ((ad.length:Int)≤10))) some))
theorem mX(ad:(List Place))(r:Bool)(h:fh ad=some r):aJ Tryz.prog 54 [.v (vl af ad)] ⟨[.v (vb r)],[],false⟩:=by
 refine ap Tryz.func54 rfl [(.tmp 2)] rfl (fun r=>⟨[.v (vb r)],[],false⟩) (r:=r) ?_
 unfold fh at h
 refine az aa [0] [] ?_
 refine ac ?_
 refine az aa [0,5,6,7] [] ?_
 refine bi (r:=r) h (fun j1=>⟨34,[(0,vl af ad)],[]⟩) (fun v2 h=> ?_) (fun j1 h=> ?_)
 refine aw (a:=v2) ?_
 refine a7 (r:=v2) (s:=(0,())) _ (fun s3=>⟨34,[(0,vl af ad),(5,vl af ad),(6,vi (ad.length:Int)),(7,vi s3.1)],[]⟩) _ (Le.an) h (fun s3 v4 h=> ?_)
 refine az aa [0,5,6,7,8] [] ?_
 refine ac ?_
 refine ai h (fun h=> ?_) fun h=> ?_
 refine ag ?_
 refine aZ ?_
 refine ac ?_
 refine bp (r:=v4) h (fun j5=>⟨34,[(0,vl af ad),(5,vl af ad),(6,vi (ad.length:Int)),(7,vi s3.1)],[]⟩) (fun v6 h=> ?_) (fun j5 h=> ?_)
 refine aw (a:=v6) ?_
 refine sr ?_
 refine ab.cl aa 1 [0,5,6,7,9] [] ?_
 obtain⟨x7,hx7,h⟩:=bind_some h
 refine ab.ls (aG (L:=ad) (f:=af) (ti:=cP) (tj:=cm) (e:=91) (k:= .i64) aa rfl hx7) ?_
 refine bQ aa 4 [0,3,4,5,6,7] [4] ?_
 refine ac ?_
 refine jV mixed h (fun j10=>⟨34,[(0,vl af ad),(5,vl af ad),(6,vi (ad.length:Int)),(7,vi s3.1),(29,vb j10)],[]⟩) (fun v11 h=> ?_) (fun j10 h=> ?_)
 refine aY.cl aa false 1 [0,3,4,5,6,7,12] [4] ?_
 obtain⟨x8,hx8,h⟩:=bind_some h
 refine aY.step (xc A2 (o4 x7 _ hx8)) ?_
 refine aY.cl aa false 2 [0,3,4,5,6,7,15] [4] ?_
 refine aY.cu [(15,fun b=>b)] h (fun h=> ?_) fun h=> ?_
 refine aY.cl aa false 14 [0,5,6,7,29] [] ?_
 refine aY.nil (by kernel_rfl) ?_
 obtain rfl:=inj h
 exact Le.an
 refine aY.cl aa false 3 [0,3,4,5,6,7,15,18] [4] ?_
 refine aY.cu [(18,fun b=>b)] h (fun h=> ?_) fun h=> ?_
 refine aY.cl aa false 3 [0,4,5,6,7,15,18,19,21] [4] ?_
 obtain⟨x9,hx9,h⟩:=bind_some h
 refine aY.step (aG (L:=ad) (f:=af) (ti:=cP) (tj:=cm) (e:=91) (k:= .i64) aa rfl hx9) ?_
 refine aY.cl aa false 7 [0,5,6,7,29] [] ?_
 refine aY.nil (by kernel_rfl) ?_
 obtain rfl:=inj h
 exact Le.an
 refine aY.cl aa false 11 [0,5,6,7,29] [] ?_
 refine aY.nil (by kernel_rfl) ?_
 obtain rfl:=inj h
 exact Le.an
 refine ai h (fun h=> ?_) fun h=> ?_
 refine az aa [2] [] ?_
 refine ae ?_
 obtain rfl:=inj h
 exact bn (aU (aU (bn (aU (aD (f1 fv))))))
 refine ag ?_
 obtain rfl:=inj h
 exact bP (bZ (Le.an))
 refine aE ?_
 refine ab.ck aa 2 ⟨34,[(0,vl af ad),(5,vl af ad),(6,vi (ad.length:Int)),(7,vi (aO (s3.1+1)))],[]⟩ ?_
 refine ab.nil ?_
 obtain rfl:=inj h
 exact bZ (Le.an)
 refine aQ ?_
 obtain rfl:=inj h
 exact cn (cr (cq (bZ (Le.an))))
 refine az aa [2] [] ?_
 refine ae ?_
 obtain rfl:=inj h
 exact aD (f1 fv)
theorem C2:bg Tryz.prog 54:=au Tryz.func54 (by kernel_rfl) rfl
noncomputable def ju(aL:ax):Option (Bool):=
 ((((ek ([aL.Child,aL.Parent]:List ByteArray)).bind fun x1=>(bif x1 then(bif(!(aL.Child.toList==aL.Parent.toList))then((fS aL.Years).bind fun x2=>some x2)else some false)else some false))).bind fun(j3:Bool)=>some j3)
theorem p3(aL:ax)(r:Bool)(h:ju aL=some r):aJ Tryz.prog 105 [.v (.agg (tc ah aL))] ⟨[.v (vb r)],[],false⟩:=by
 refine ap Tryz.func105 rfl [(.tmp 2)] rfl (fun r=>⟨[.v (vb r)],[],false⟩) (r:=r) ?_
 unfold ju at h
 refine az aa [1] [1] ?_
 refine ac ?_
 refine bo h (fun j3=>⟨21,[(2,vb j3)],[]⟩) (fun v4 h=> ?_) (fun j3 h=> ?_)
 refine ab.cl aa 5 [1,7] [1,7] ?_
 obtain⟨x1,hx1,h⟩:=bind_some h
 refine ab.ls (xc tE (iG ([aL.Child,aL.Parent]:List ByteArray) _ hx1)) ?_
 refine ab.cl aa 1 [1,9] [1] ?_
 refine ab.cu [(9,fun b=>b)] h (fun h=> ?_) fun h=> ?_
 refine ab.cl aa 7 [1,16] [1] ?_
 refine ab.cu [(16,fun b=>b)] h (fun h=> ?_) fun h=> ?_
 refine ab.cl aa 2 [16,18] [] ?_
 obtain⟨x2,hx2,h⟩:=bind_some h
 refine ab.ls (xc tG (jG aL.Years _ hx2)) ?_
 refine ab.cl aa 2 [2] [] ?_
 refine ab.nil ?_
 obtain rfl:=inj h
 exact Le.an
 refine ab.cl aa 5 [2] [] ?_
 refine ab.nil ?_
 obtain rfl:=inj h
 exact Le.an
 refine ab.cl aa 12 [2] [] ?_
 refine ab.nil ?_
 obtain rfl:=inj h
 exact Le.an
 refine ae ?_
 obtain rfl:=inj h
 exact aD (f1 fv)
theorem A3:bg Tryz.prog 105:=au Tryz.func105 (by kernel_rfl) rfl
noncomputable def gU(aM:ax)(c0:ax):Option (Bool):=
 (((bif(aM.Child.toList==c0.Child.toList)then((dV aM.Years c0.Years).bind fun x1=>some x1)else some false)).bind fun(j2:Bool)=>some j2)
theorem mU(aM:ax)(c0:ax)(r:Bool)(h:gU aM c0=some r):aJ Tryz.prog 106 [.v (.agg (tc ah aM)),.v (.ptr [vs c0.Child,vs c0.Parent,vi c0.Years.From,vi c0.Years.To] 0)] ⟨[.v (vb r)],[],false⟩:=by
 refine ap Tryz.func106 rfl [(.tmp 3)] rfl (fun r=>⟨[.v (vb r)],[],false⟩) (r:=r) ?_
 unfold gU at h
 refine az aa [1,2] [2] ?_
 refine ac ?_
 refine bo h (fun j2=>⟨16,[(3,vb j2)],[]⟩) (fun v3 h=> ?_) (fun j2 h=> ?_)
 refine ab.cl aa 6 [1,2,9] [2] ?_
 refine ab.cu [(9,fun b=>b)] h (fun h=> ?_) fun h=> ?_
 refine ab.cl aa 4 [9,11,13] [] ?_
 obtain⟨x1,hx1,h⟩:=bind_some h
 refine ab.ls (xc xB (jM aM.Years c0.Years _ hx1)) ?_
 refine ab.cl aa 2 [3] [] ?_
 refine ab.nil ?_
 obtain rfl:=inj h
 exact Le.an
 refine ab.cl aa 7 [3] [] ?_
 refine ab.nil ?_
 obtain rfl:=inj h
 exact Le.an
 refine ae ?_
 obtain rfl:=inj h
 exact aD (f1 fv)
theorem A4:bg Tryz.prog 106:=au Tryz.func106 (by kernel_rfl) rfl
noncomputable def bV(aS:(List ax))(cX:ax):Option (Int):=
 (((cQ (aS.length:Int) (fun(i3:Int) (_:Unit)=>((at' aS i3).bind fun x7=>((gU x7 cX).bind fun x8=>(bif x8 then some (.inr (.inr i3))else some (.inl ()))))) (fun(_:Unit)=> .inl ()) 0 ())).bind (Sum.elim (fun(_:Unit)=>some (-1)) some))
theorem fq(aS:(List ax))(cX:ax)(r:Int)(h:bV aS cX=some r):aJ Tryz.prog 109 [.v (vl ah aS),.v (.clo 106 [.ptr [vs cX.Child,vs cX.Parent,vi cX.Years.From,vi cX.Years.To] 0])] ⟨[.v (vi r)],[],false⟩:=by
 refine ap Tryz.func109 rfl [(.tmp 4)] rfl (fun r=>⟨[.v (vi r)],[],false⟩) (r:=r) ?_
 unfold bV at h
 refine az aa [0,1] [] ?_
 refine ac ?_
 refine az aa [0,1,7,8] [] ?_
 refine bi (r:=r) h (fun j1=>⟨19,[],[]⟩) (fun v2 h=> ?_) (fun j1 h=> ?_)
 refine aw (a:=v2) ?_
 refine a7 (r:=v2) (s:=(0,())) _ (fun s3=>⟨19,[(0,vl ah aS),(1,.clo 106 [.ptr [vs cX.Child,vs cX.Parent,vi cX.Years.From,vi cX.Years.To] 0]),(7,vi (aS.length:Int)),(8,vi s3.1)],[]⟩) _ (Le.an) h (fun s3 v4 h=> ?_)
 refine az aa [0,1,7,8,9] [] ?_
 refine ac ?_
 refine ai h (fun h=> ?_) fun h=> ?_
 refine ag ?_
 refine aZ ?_
 refine ac ?_
 refine bp (r:=v4) h (fun j5=>⟨19,[(0,vl ah aS),(1,.clo 106 [.ptr [vs cX.Child,vs cX.Parent,vi cX.Years.From,vi cX.Years.To] 0]),(7,vi (aS.length:Int)),(8,vi s3.1)],[]⟩) (fun v6 h=> ?_) (fun j5 h=> ?_)
 refine aw (a:=v6) ?_
 refine az aa [0,1,5,7,8] [] ?_
 refine sr ?_
 refine ab.cl aa 3 [0,1,5,7,8,11,12,13] [] ?_
 obtain⟨x7,hx7,h⟩:=bind_some h
 refine ab.ls (aG (L:=aS) (f:=ah) (ti:=dq) (tj:=dr) (e:=85) (k:= .i64) aa rfl hx7) ?_
 refine ab.cl aa 1 [0,1,5,7,8,11,15] [] ?_
 obtain⟨x8,hx8,h⟩:=bind_some h
 refine ab.ls (xc A4 (mU x7 cX _ hx8)) ?_
 refine ab.nx ?_
 refine ai h (fun h=> ?_) fun h=> ?_
 refine az aa [4] [] ?_
 refine ae ?_
 obtain rfl:=inj h
 exact bn (aU (aU (bn (aU (aD (f1 fv))))))
 refine ag ?_
 obtain rfl:=inj h
 exact bP (bZ (Le.an))
 refine aE ?_
 refine ab.cl aa 2 [0,1,7,8] [] ?_
 refine ab.nil ?_
 obtain rfl:=inj h
 exact bZ (Le.an)
 refine aQ ?_
 obtain rfl:=inj h
 exact cn (cr (cq (bZ (Le.an))))
 refine az aa [4] [] ?_
 refine ae ?_
 obtain rfl:=inj h
 exact aD (f1 fv)
theorem tB:bg Tryz.prog 109:=au Tryz.func109 (by kernel_rfl) rfl
noncomputable def bJ(aS:(List ax))(cX:ax):Option (Bool):=
 ((bV aS cX).bind fun x1=>some (decide (x1≥0)))
theorem eK(aS:(List ax))(cX:ax)(r:Bool)(h:bJ aS cX=some r):aJ Tryz.prog 56 [.v (vl ah aS),.v (.clo 106 [.ptr [vs cX.Child,vs cX.Parent,vi cX.Years.From,vi cX.Years.To] 0])] ⟨[.v (vb r)],[],false⟩:=by
 refine ap Tryz.func56 rfl [(.tmp 4)] rfl (fun r=>⟨[.v (vb r)],[],false⟩) (r:=r) ?_
 unfold bJ at h
 refine az aa [0,1] [] ?_
 refine sr ?_
 refine ab.cl aa 2 [5,6] [] ?_
 obtain⟨x1,hx1,h⟩:=bind_some h
 refine ab.ls (xc tB (fq aS cX _ hx1)) ?_
 refine bQ aa 2 [4] [] ?_
 refine ae ?_
 obtain rfl:=inj h
 exact aD (f1 fv)
theorem zH:bg Tryz.prog 56:=au Tryz.func56 (by kernel_rfl) rfl
noncomputable def bN(aS:Span)(aj:Int):Option (Bool):=
 ((dK aj aS.From aS.To).bind fun x1=>some x1)
theorem cI(aS:Span)(aj:Int)(r:Bool)(h:bN aS aj=some r):aJ Tryz.prog 87 [.v (.agg (tc gE aS)),.v (vi aj)] ⟨[.v (vb r)],[],false⟩:=by
 refine ap Tryz.func87 rfl [(.tmp 4)] rfl (fun r=>⟨[.v (vb r)],[],false⟩) (r:=r) ?_
 unfold bN at h
 refine az aa [1,2] [2] ?_
 refine sr ?_
 refine ab.cl aa 5 [5,7,9] [] ?_
 obtain⟨x1,hx1,h⟩:=bind_some h
 refine ab.ls (xc nu (dz aj aS.From aS.To _ hx1)) ?_
 refine bQ aa 1 [4] [] ?_
 refine ae ?_
 obtain rfl:=inj h
 exact aD (f1 fv)
theorem mf:bg Tryz.prog 87:=au Tryz.func87 (by kernel_rfl) rfl
noncomputable def gY(aL:ax)(c0:ByteArray)(c1:Int):Option (Bool):=
 (((bif(aL.Child.toList==c0.toList)then((bN aL.Years c1).bind fun x1=>some x1)else some false)).bind fun(j2:Bool)=>some j2)
theorem m6(aL:ax)(c0:ByteArray)(c1:Int)(r:Bool)(h:gY aL c0 c1=some r):aJ Tryz.prog 199 [.v (.agg (tc ah aL)),.v (.ptr [vs c0] 0),.v (.ptr [vi c1] 0)] ⟨[.v (vb r)],[],false⟩:=by
 refine ap Tryz.func199 rfl [(.tmp 4)] rfl (fun r=>⟨[.v (vb r)],[],false⟩) (r:=r) ?_
 unfold gY at h
 refine az aa [1,2,3] [3] ?_
 refine ac ?_
 refine bo h (fun j2=>⟨15,[(4,vb j2)],[]⟩) (fun v3 h=> ?_) (fun j2 h=> ?_)
 refine ab.cl aa 5 [2,3,9] [3] ?_
 refine ab.cu [(9,fun b=>b)] h (fun h=> ?_) fun h=> ?_
 refine ab.cl aa 3 [9,11,12] [] ?_
 obtain⟨x1,hx1,h⟩:=bind_some h
 refine ab.ls (xc mf (cI aL.Years c1 _ hx1)) ?_
 refine ab.cl aa 2 [4] [] ?_
 refine ab.nil ?_
 obtain rfl:=inj h
 exact Le.an
 refine ab.cl aa 6 [4] [] ?_
 refine ab.nil ?_
 obtain rfl:=inj h
 exact Le.an
 refine ae ?_
 obtain rfl:=inj h
 exact aD (f1 fv)
theorem BJ:bg Tryz.prog 199:=au Tryz.func199 (by kernel_rfl) rfl
noncomputable def bW(aS:(List ax))(cX:ByteArray)(aF1:Int):Option (Int):=
 (((cQ (aS.length:Int) (fun(i3:Int) (_:Unit)=>((at' aS i3).bind fun x7=>((gY x7 cX aF1).bind fun x8=>(bif x8 then some (.inr (.inr i3))else some (.inl ()))))) (fun(_:Unit)=> .inl ()) 0 ())).bind (Sum.elim (fun(_:Unit)=>some (-1)) some))
theorem fr(aS:(List ax))(cX:ByteArray)(aF1:Int)(r:Int)(h:bW aS cX aF1=some r):aJ Tryz.prog 109 [.v (vl ah aS),.v (.clo 199 [.ptr [vs cX] 0,.ptr [vi aF1] 0])] ⟨[.v (vi r)],[],false⟩:=by
 refine ap Tryz.func109 rfl [(.tmp 4)] rfl (fun r=>⟨[.v (vi r)],[],false⟩) (r:=r) ?_
 unfold bW at h
 refine az aa [0,1] [] ?_
 refine ac ?_
 refine az aa [0,1,7,8] [] ?_
 refine bi (r:=r) h (fun j1=>⟨19,[],[]⟩) (fun v2 h=> ?_) (fun j1 h=> ?_)
 refine aw (a:=v2) ?_
 refine a7 (r:=v2) (s:=(0,())) _ (fun s3=>⟨19,[(0,vl ah aS),(1,.clo 199 [.ptr [vs cX] 0,.ptr [vi aF1] 0]),(7,vi (aS.length:Int)),(8,vi s3.1)],[]⟩) _ (Le.an) h (fun s3 v4 h=> ?_)
 refine az aa [0,1,7,8,9] [] ?_
 refine ac ?_
 refine ai h (fun h=> ?_) fun h=> ?_
 refine ag ?_
 refine aZ ?_
 refine ac ?_
 refine bp (r:=v4) h (fun j5=>⟨19,[(0,vl ah aS),(1,.clo 199 [.ptr [vs cX] 0,.ptr [vi aF1] 0]),(7,vi (aS.length:Int)),(8,vi s3.1)],[]⟩) (fun v6 h=> ?_) (fun j5 h=> ?_)
 refine aw (a:=v6) ?_
 refine az aa [0,1,5,7,8] [] ?_
 refine sr ?_
 refine ab.cl aa 3 [0,1,5,7,8,11,12,13] [] ?_
 obtain⟨x7,hx7,h⟩:=bind_some h
 refine ab.ls (aG (L:=aS) (f:=ah) (ti:=dq) (tj:=dr) (e:=85) (k:= .i64) aa rfl hx7) ?_
 refine ab.cl aa 1 [0,1,5,7,8,11,15] [] ?_
 obtain⟨x8,hx8,h⟩:=bind_some h
 refine ab.ls (xc BJ (m6 x7 cX aF1 _ hx8)) ?_
 refine ab.nx ?_
 refine ai h (fun h=> ?_) fun h=> ?_
 refine az aa [4] [] ?_
 refine ae ?_
 obtain rfl:=inj h
 exact bn (aU (aU (bn (aU (aD (f1 fv))))))
 refine ag ?_
 obtain rfl:=inj h
 exact bP (bZ (Le.an))
 refine aE ?_
 refine ab.cl aa 2 [0,1,7,8] [] ?_
 refine ab.nil ?_
 obtain rfl:=inj h
 exact bZ (Le.an)
 refine aQ ?_
 obtain rfl:=inj h
 exact cn (cr (cq (bZ (Le.an))))
 refine az aa [4] [] ?_
 refine ae ?_
 obtain rfl:=inj h
 exact aD (f1 fv)
noncomputable def cW(ad:(List ax))(aF:ByteArray)(aj:Int):Option (ByteArray×Bool):=
 ((bW ad aF aj).bind fun x1=>(bif(decide (x1<0))then some ((ByteArray.mk #[]),false)else((at' ad x1).bind fun x2=>some (x2.Parent,true))))
theorem iH(ad:(List ax))(aF:ByteArray)(aj:Int)(r:ByteArray×Bool)(h:cW ad aF aj=some r):aJ Tryz.prog 161 [.v (vl ah ad),.v (vs aF),.v (vi aj)] ⟨[.v (vs r.1),.v (vb r.2)],[],false⟩:=by
 refine ap Tryz.func161 rfl [(.tmp 6),(.tmp 7)] rfl (fun r=>⟨[.v (vs r.1),.v (vb r.2)],[],false⟩) (r:=r) ?_
 unfold cW at h
 refine az aa [0,4,5] [4,5] ?_
 refine sr ?_
 refine ab.cl aa 2 [0,9,10] [4,5] ?_
 obtain⟨x1,hx1,h⟩:=bind_some h
 refine ab.ls (xc tB (fr ad aF aj _ hx1)) ?_
 refine bQ aa 1 [0,8] [] ?_
 refine ac ?_
 refine az aa [0,8,13] [] ?_
 refine ai h (fun h=> ?_) fun h=> ?_
 refine az aa [6,7] [] ?_
 refine ae ?_
 obtain rfl:=inj h
 exact bt (aD (f2 fv fv))
 refine ag ?_
 refine aZ ?_
 refine sr ?_
 refine ab.cl aa 2 [14,15] [] ?_
 obtain⟨x2,hx2,h⟩:=bind_some h
 refine ab.ls (aG (L:=ad) (f:=ah) (ti:=dq) (tj:=dr) (e:=85) (k:= .i64) aa rfl hx2) ?_
 refine bQ aa 4 [6,7] [] ?_
 refine ae ?_
 obtain rfl:=inj h
 exact aD (f2 fv fv)
theorem tH:bg Tryz.prog 161:=au Tryz.func161 (by kernel_rfl) rfl
noncomputable def eu(aS:(List ByteArray))(aV:ByteArray):Option (Int):=
 (((cQ (aS.length:Int) (fun(i3:Int) (_:Unit)=>((at' aS i3).bind fun x7=>(bif(aV.toList==x7.toList)then some (.inr (.inr i3))else some (.inl ())))) (fun(_:Unit)=> .inl ()) 0 ())).bind (Sum.elim (fun(_:Unit)=>some (-1)) some))
theorem lm(aS:(List ByteArray))(aV:ByteArray)(r:Int)(h:eu aS aV=some r):aJ Tryz.prog 217 [.v (vl eS aS),.v (vs aV)] ⟨[.v (vi r)],[],false⟩:=by
 refine ap Tryz.func217 rfl [(.tmp 4)] rfl (fun r=>⟨[.v (vi r)],[],false⟩) (r:=r) ?_
 unfold eu at h
 refine az aa [0,1] [] ?_
 refine ac ?_
 refine az aa [0,1,7,8] [] ?_
 refine bi (r:=r) h (fun j1=>⟨19,[],[]⟩) (fun v2 h=> ?_) (fun j1 h=> ?_)
 refine aw (a:=v2) ?_
 refine a7 (r:=v2) (s:=(0,())) _ (fun s3=>⟨19,[(0,vl eS aS),(1,vs aV),(7,vi (aS.length:Int)),(8,vi s3.1)],[]⟩) _ (Le.an) h (fun s3 v4 h=> ?_)
 refine az aa [0,1,7,8,9] [] ?_
 refine ac ?_
 refine ai h (fun h=> ?_) fun h=> ?_
 refine ag ?_
 refine aZ ?_
 refine ac ?_
 refine bp (r:=v4) h (fun j5=>⟨19,[(0,vl eS aS),(1,vs aV),(7,vi (aS.length:Int)),(8,vi s3.1)],[]⟩) (fun v6 h=> ?_) (fun j5 h=> ?_)
 refine aw (a:=v6) ?_
 refine az aa [0,1,5,7,8] [] ?_
 refine sr ?_
 refine ab.cl aa 3 [0,1,5,7,8,11,12,13] [] ?_
 obtain⟨x7,hx7,h⟩:=bind_some h
 refine ab.ls (aG (L:=aS) (f:=eS) (ti:=cF) (tj:=gl) (e:=9) (k:= .i64) aa rfl hx7) ?_
 refine bQ aa 2 [0,1,5,7,8,16] [] ?_
 refine ai h (fun h=> ?_) fun h=> ?_
 refine az aa [4] [] ?_
 refine ae ?_
 obtain rfl:=inj h
 exact bn (aU (aU (bn (aU (aD (f1 fv))))))
 refine ag ?_
 obtain rfl:=inj h
 exact bP (bZ (Le.an))
 refine aE ?_
 refine ab.cl aa 2 [0,1,7,8] [] ?_
 refine ab.nil ?_
 obtain rfl:=inj h
 exact bZ (Le.an)
 refine aQ ?_
 obtain rfl:=inj h
 exact cn (cr (cq (bZ (Le.an))))
 refine az aa [4] [] ?_
 refine ae ?_
 obtain rfl:=inj h
 exact aD (f1 fv)
theorem BR:bg Tryz.prog 217:=au Tryz.func217 (by kernel_rfl) rfl
noncomputable def cC(aS:(List ByteArray))(aV:ByteArray):Option (Bool):=
 ((eu aS aV).bind fun x1=>some (decide (x1≥0)))
theorem ku(aS:(List ByteArray))(aV:ByteArray)(r:Bool)(h:cC aS aV=some r):aJ Tryz.prog 198 [.v (vl eS aS),.v (vs aV)] ⟨[.v (vb r)],[],false⟩:=by
 refine ap Tryz.func198 rfl [(.tmp 4)] rfl (fun r=>⟨[.v (vb r)],[],false⟩) (r:=r) ?_
 unfold cC at h
 refine az aa [0,1] [] ?_
 refine sr ?_
 refine ab.cl aa 2 [5,6] [] ?_
 obtain⟨x1,hx1,h⟩:=bind_some h
 refine ab.ls (xc BR (lm aS aV _ hx1)) ?_
 refine bQ aa 2 [4] [] ?_
 refine ae ?_
 obtain rfl:=inj h
 exact aD (f1 fv)
theorem BI:bg Tryz.prog 198:=au Tryz.func198 (by kernel_rfl) rfl
noncomputable def kl(ad:(List ax))(aF:ByteArray)(aj:Int):Option ((List ByteArray)):=
 (loop (fun(s1:(List ByteArray))=>((at' s1 (aO ((s1.length:Int)- 1))).bind fun x3=>((cW ad x3 aj).bind fun x4=>(((bif(!x4.2)then some true else((cC s1 x4.1).bind fun x5=>some x5))).bind fun(j6:Bool)=>(bif j6 then some (.inr s1)else((eg s1 ([x4.1]:List ByteArray)).bind fun x8=>some (.inl x8))))))) ([aF]:List ByteArray))
theorem rn(ad:(List ax))(aF:ByteArray)(aj:Int)(r:(List ByteArray))(h:kl ad aF aj=some r):aJ Tryz.prog 160 [.v (vl ah ad),.v (vs aF),.v (vi aj)] ⟨[.own 9 1 r.length (r.map eS)],[],false⟩:=by
 refine ap Tryz.func160 rfl [(.tmp 6)] rfl (fun r=>⟨[.own 9 1 r.length (r.map eS)],[],false⟩) (r:=r) ?_
 unfold kl at h
 refine az aa [0,1,2] [] ?_
 refine az aa [0,2,7] [11] ?_
 refine aw (a:=r) ?_
 refine a7 (r:=r) (s:=([aF]:List ByteArray)) _ (fun s1=>⟨36,[(0,vl ah ad),(2,vi aj),(7,.own 7)],[(7,oa 9 1 eS s1)]⟩) _ (Le.rr [11] [(11,7)]) h (fun s1 v2 h=> ?_)
 refine aw (a:=v2) ?_
 refine sr ?_
 refine ab.cl aa 5 [0,2,7,13,14,17] [7] ?_
 obtain⟨x3,hx3,h⟩:=bind_some h
 refine ab.ls (bm (d:=7) (L:=s1) (f:=eS) (ti:=cF) (tj:=gl) (e:=9) (e':=9) (m:=1) (k:= .i64) aa rfl hx3) ?_
 refine ab.ls (dB (d:=7) (m:=1) (j:=0) (L:=s1) (f:=eS) (ti:=gl) (e:=9) (v:=vs x3) aa rfl hx3) ?_
 refine ab.cl aa 1 [0,2,7,13,19,20] [7] ?_
 obtain⟨x4,hx4,h⟩:=bind_some h
 refine ab.ls (xc tH (iH ad x3 aj _ hx4)) ?_
 refine bQ aa 5 [0,2,7,8,9] [7] ?_
 refine ac ?_
 refine ac ?_
 refine bo h (fun j6=>⟨36,[(0,vl ah ad),(2,vi aj),(7,.own 7),(8,vs x4.1),(30,vb j6)],[(7,oa 9 1 eS s1)]⟩) (fun v7 h=> ?_) (fun j6 h=> ?_)
 refine ab.cl aa 3 [0,2,7,8,26] [7] ?_
 refine ab.cu [(26,fun b=>b)] h (fun h=> ?_) fun h=> ?_
 refine ab.cl aa 4 [0,2,7,8,30] [7] ?_
 refine ab.nil ?_
 obtain rfl:=inj h
 exact Le.an
 refine ab.cl aa 2 [0,2,7,8,26,27,28] [7] ?_
 obtain⟨x5,hx5,h⟩:=bind_some h
 refine ab.ls (xc BI (ku s1 x4.1 _ hx5)) ?_
 refine ab.cl aa 1 [0,2,7,8,30] [7] ?_
 refine ab.nil ?_
 obtain rfl:=inj h
 exact Le.an
 refine ai h (fun h=> ?_) fun h=> ?_
 refine az aa [6] [7] ?_
 refine ae ?_
 obtain rfl:=inj h
 exact bt (bn (aU (bn (aD (f1 (fo fK))))))
 refine ag ?_
 refine aZ ?_
 refine aE ?_
 refine ab.cl aa 3 [0,2,32,34] [7,34] ?_
 obtain⟨x8,hx8,h⟩:=bind_some h
 refine ab.bs (bY (f:=eS) (t:=106) (ti:=cF) (tj:=gl) (zs:=[.string (ByteArray.mk #[])]) (e:=9) (m:=1) (d:=7) (xv:= .own 34) hx8 aa rfl rfl rfl rfl (dI (e:=9))) ?_
 refine ab.cl aa 1 [0,2,7] [35] ?_
 refine ab.nil ?_
 obtain rfl:=inj h
 exact bP (bZ (Le.rr [35] [(35,7)]))
theorem Bp:bg Tryz.prog 160:=au Tryz.func160 (by kernel_rfl) rfl
noncomputable def dJ(ad:(List ax))(aF:ByteArray)(aj:Int):Option (Bool):=
 ((kl ad aF aj).bind fun x1=>((at' x1 (aO ((x1.length:Int)- 1))).bind fun x2=>((cW ad x2 aj).bind fun x3=>some x3.2)))
theorem om(ad:(List ax))(aF:ByteArray)(aj:Int)(r:Bool)(h:dJ ad aF aj=some r):aJ Tryz.prog 108 [.v (vl ah ad),.v (vs aF),.v (vi aj)] ⟨[.v (vb r)],[],false⟩:=by
 refine ap Tryz.func108 rfl [(.tmp 6)] rfl (fun r=>⟨[.v (vb r)],[],false⟩) (r:=r) ?_
 unfold dJ at h
 refine az aa [0,1,2] [] ?_
 refine sr ?_
 refine ab.cl aa 3 [0,2,10,11,12] [] ?_
 obtain⟨x1,hx1,h⟩:=bind_some h
 refine ab.ls (xc Bp (rn ad aF aj _ hx1)) ?_
 refine bQ aa 1 [0,2,7] [13] ?_
 refine sr ?_
 refine ab.cl aa 5 [2,15,16,19] [13] ?_
 obtain⟨x2,hx2,h⟩:=bind_some h
 refine ab.ls (bm (d:=13) (L:=x1) (f:=eS) (ti:=cF) (tj:=gl) (e:=9) (e':=9) (m:=1) (k:= .i64) aa rfl hx2) ?_
 refine ab.ls (dB (d:=13) (m:=1) (j:=0) (L:=x1) (f:=eS) (ti:=gl) (e:=9) (v:=vs x2) aa rfl hx2) ?_
 refine ab.cl aa 1 [15,21,22] [] ?_
 obtain⟨x3,hx3,h⟩:=bind_some h
 refine ab.ls (xc tH (iH ad x2 aj _ hx3)) ?_
 refine bQ aa 5 [9] [] ?_
 refine az aa [6] [] ?_
 refine ae ?_
 obtain rfl:=inj h
 exact aD (f1 fv)
theorem A5:bg Tryz.prog 108:=au Tryz.func108 (by kernel_rfl) rfl
end Go.Proofs.YtdejeagdkfokfaaGreatDoor.Sh
