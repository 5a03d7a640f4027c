/- Typed functions and the calls that do what they say. -/
import Derived.Test.YtdejeagdkfokfaaGreatDoorSE
import Derived.Test.YtdejeagdkfokfaaGreatDoorKA
import Derived.Test.YtdejeagdkfokfaaGreatDoorKC
import Derived.Test.YtdejeagdkfokfaaGreatDoorKD
import Derived.Test.YtdejeagdkfokfaaGreatDoorKO
import Derived.Test.YtdejeagdkfokfaaGreatDoorKS
import Derived.Test.YtdejeagdkfokfaaGreatDoorSN
import Derived.Test.YtdejeagdkfokfaaGreatDoorSW
import Derived.Test.YtdejeagdkfokfaaGreatDoorSX
import Derived.Test.YtdejeagdkfokfaaGreatDoorH1
import Derived.Test.YtdejeagdkfokfaaGreatDoorGA
namespace Go.Proofs.YtdejeagdkfokfaaGreatDoor.Sh
open Go.RowKit
set_option maxRecDepth 100000
set_option maxHeartbeats 4000000
def Ee:TI:=⟨1,24,.slice 5,[.sl ([]:List Int).length (([]:List Int).map (eI .u8))]⟩
def Eb:Tb:=[(2,ti2),(3,ti3),(4,ti4),(5,ti5),(9,gl),(22,Ay),(23,Az),(25,Dz),(27,AA),(32,cP),(33,dq),(35,jA),(37,nb),(44,Ee),(83,DB),(85,dr),(89,dh),(91,cm),(97,DC),(98,AB),(100,wj),(103,wk),(169,cK),(190,wl)]
theorem aq:a8 Tryz.prog Eb:=a8.cons ⟨by kernel_rfl,show Tryz.prog.underlying 2=some (.int .i64)from by kernel_rfl⟩ (a8.cons ⟨by kernel_rfl,show Tryz.prog.underlying 3=some (.int .i64)from by kernel_rfl⟩ (a8.cons ⟨by kernel_rfl,show Tryz.prog.underlying 4=some (.bool)from by kernel_rfl⟩ (a8.cons ⟨by kernel_rfl,show Tryz.prog.underlying 5=some (.int .u8)from by kernel_rfl⟩ (a8.cons ⟨by kernel_rfl,show Tryz.prog.underlying 9=some (.string)from by kernel_rfl⟩ (a8.cons ⟨by kernel_rfl,show Tryz.prog.underlying 22=some (.slice 100)from by kernel_rfl⟩ (a8.cons ⟨by kernel_rfl,show Tryz.prog.underlying 23=some (.slice 103)from by kernel_rfl⟩ (a8.cons ⟨by kernel_rfl,show structOf Tryz.prog 25=some [(0,22),(1,23)]from by kernel_rfl⟩ (a8.cons ⟨by kernel_rfl,show structOf Tryz.prog 27=some [(0,2),(1,2),(2,9),(3,9),(4,9),(5,9)]from by kernel_rfl⟩ (a8.cons ⟨by kernel_rfl,show Tryz.prog.underlying 32=some (.slice 91)from by kernel_rfl⟩ (a8.cons ⟨by kernel_rfl,show Tryz.prog.underlying 33=some (.slice 85)from by kernel_rfl⟩ (a8.cons ⟨by kernel_rfl,show structOf Tryz.prog 35=some [(0,32),(1,33)]from by kernel_rfl⟩ (a8.cons ⟨by kernel_rfl,show structOf Tryz.prog 37=some [(0,2),(1,2),(2,9),(3,9),(4,9),(5,9)]from by kernel_rfl⟩ (a8.cons ⟨by kernel_rfl,show Tryz.prog.underlying 44=some (.slice 5)from by kernel_rfl⟩ (a8.cons ⟨by kernel_rfl,show structOf Tryz.prog 83=some [(0,2),(1,2)]from by kernel_rfl⟩ (a8.cons ⟨by kernel_rfl,show structOf Tryz.prog 85=some [(0,9),(1,9),(2,83)]from by kernel_rfl⟩ (a8.cons ⟨by kernel_rfl,show Tryz.prog.underlying 89=some (.slice 169)from by kernel_rfl⟩ (a8.cons ⟨by kernel_rfl,show structOf Tryz.prog 91=some [(0,9),(1,2),(2,83),(4,89)]from by kernel_rfl⟩ (a8.cons ⟨by kernel_rfl,show structOf Tryz.prog 97=some [(0,2),(1,2)]from by kernel_rfl⟩ (a8.cons ⟨by kernel_rfl,show Tryz.prog.underlying 98=some (.slice 190)from by kernel_rfl⟩ (a8.cons ⟨by kernel_rfl,show structOf Tryz.prog 100=some [(0,9),(1,2),(2,97),(4,98)]from by kernel_rfl⟩ (a8.cons ⟨by kernel_rfl,show structOf Tryz.prog 103=some [(0,9),(1,9),(2,97)]from by kernel_rfl⟩ (a8.cons ⟨by kernel_rfl,show structOf Tryz.prog 169=some [(0,9),(1,9),(2,2),(3,83)]from by kernel_rfl⟩ (a8.cons ⟨by kernel_rfl,show structOf Tryz.prog 190=some [(0,9),(1,9),(2,2),(3,97)]from by kernel_rfl⟩ (a8.nil _))))))))))))))))))))))))
noncomputable def dM(aW:World):Option (World):=
 ((iu aW.Places).bind fun x1=>((eg ([]:List ax) aW.Links).bind fun x3=>some (World.mk x1 x3)))
theorem lT(aW:World)(r:World)(h:dM aW=some r):aJ Tryz.prog 39 [.v (.agg (tc aH aW))] ⟨[.v (.agg (tc aH r))],[],true⟩:=by
 refine ap Tryz.func39 rfl [(.cell 2 35)] rfl (fun r=>⟨[.v (.agg (tc aH r))],[],true⟩) (r:=r) ?_
 unfold dM at h
 refine az aq [1,2] [1,2] ?_
 refine ac ?_
 refine cO mixed ?_
 refine aY.cl aq false 2 [1,2,4] [1,2] ?_
 obtain⟨x1,hx1,h⟩:=bind_some h
 refine aY.step (xc zM (lS aW.Places _ hx1)) ?_
 refine aY.cl aq false 3 [2,5,6,8] [2,5,6] ?_
 refine aY.seq (by kernel_rfl) (by kernel_rfl) ?_
 obtain⟨x3,hx3,h⟩:=bind_some h
 refine ab.bs (bY (f:=ah) (t:=33) (ti:=dq) (tj:=dr) (zs:=[.string (ByteArray.mk #[]),.string (ByteArray.mk #[]),.int .i64 0,.int .i64 0]) (e:=85) (m:=4) (d:=6) (xv:=vl ah aW.Links) hx3 aq rfl rfl rfl rfl (oO (fun _=>rfl))) ?_
 refine ab.ls (br (v:= .agg [.own 5,.own 9]) aq rfl) ?_
 refine bQ aq 1 [2] [2,5,9] ?_
 refine cj (Le.xV (d:=5) (e:=91) (m:=5) (n:=x1.length) (ss:=[.flat,.flat,.flat,.flat,(.sl 169 5 [.flat,.flat,.flat,.flat,.flat])]) (es:=x1.map af) (by kernel_rfl) (by kernel_rfl)) ?_
 refine cj (Le.rj (d:=9) (e:=85) (m:=4) (n:=x3.length) (es:=x3.map ah) (by kernel_rfl) (by kernel_rfl)) ?_
 refine ae ?_
 obtain rfl:=inj h
 exact aD (f1 (lC rfl (cT aq (d:=2) (cs:=[vl af x1,vl ah x3]) (ti:=jA) (by kernel_rfl) (by kernel_rfl) (by kernel_rfl) (by kernel_rfl))))
theorem zF:bg Tryz.prog 39:=au Tryz.func39 (by kernel_rfl) rfl
noncomputable def a6(aK:Int):Option (ByteArray):=
 (bif(decide (aK≤0))then some (ByteArray.mk #[109,48])else(((loop (fun(s3:Int×ByteArray)=>(bif(decide (s3.1>0))then((tt (strOfNums ([(IntKind.wrap .u8 (aO (48+(Int.tmod s3.1 10))))]:List Int)) s3.2).bind fun x5=>some (.inl ((aO (Int.tdiv s3.1 10)),x5)))else some (.inr s3.2))) (aK,(ByteArray.mk #[])))).bind fun(j1:ByteArray)=>((tt (ByteArray.mk #[109]) j1).bind fun x6=>some x6)))
theorem bx(aK:Int)(r:ByteArray)(h:a6 aK=some r):aJ Tryz.prog 65 [.v (vi aK)] ⟨[.v (vs r)],[],false⟩:=by
 refine ap Tryz.func65 rfl [(.tmp 2)] rfl (fun r=>⟨[.v (vs r)],[],false⟩) (r:=r) ?_
 unfold a6 at h
 refine az aq [0] [] ?_
 refine ac ?_
 refine az aq [0,5] [] ?_
 refine ai h (fun h=> ?_) fun h=> ?_
 refine az aq [2] [] ?_
 refine ae ?_
 obtain rfl:=inj h
 exact bt (aD (f1 fv))
 refine ag ?_
 refine aZ ?_
 refine az aq [0,3] [] ?_
 refine ac ?_
 refine ba h (fun j1=>⟨20,[(3,vs j1)],[]⟩) (fun v2 h=> ?_) (fun j1 h=> ?_)
 refine aw (a:=v2) ?_
 refine a7 (r:=v2) (s:=(aK,(ByteArray.mk #[]))) _ (fun s3=>⟨20,[(0,vi s3.1),(3,vs s3.2)],[]⟩) _ (Le.an) h (fun s3 v4 h=> ?_)
 refine ac ?_
 refine az aq [0,3,7] [] ?_
 refine ai h (fun h=> ?_) fun h=> ?_
 refine ag ?_
 refine aZ ?_
 refine aw (a:=v4) ?_
 refine sr ?_
 refine ab.cl aq 5 [0,3,12] [12] ?_
 refine ab.ls (wz (L:=([(IntKind.wrap .u8 (aO (48+(Int.tmod s3.1 10))))]:List Int)) (d:=12) (e':=5) aq rfl (e:=5) (ti:=Ee) (tj:=ti5) (tk:=gl)) ?_
 refine ab.cl aq 1 [0,13,14] [] ?_
 obtain⟨x5,hx5,h⟩:=bind_some h
 refine ab.ls (Cz hx5 rfl) ?_
 refine bQ aq 1 [0,3] [] ?_
 refine aE ?_
 refine ab.cl aq 3 [0,3] [] ?_
 refine ab.nil ?_
 obtain rfl:=inj h
 exact bP (bZ (Le.an))
 refine aQ ?_
 obtain rfl:=inj h
 exact cn (cr (cq (eW (Le.an))))
 refine sr ?_
 refine ab.cl aq 1 [18] [] ?_
 obtain⟨x6,hx6,h⟩:=bind_some h
 refine ab.ls (Cz hx6 rfl) ?_
 refine bQ aq 1 [2] [] ?_
 refine ae ?_
 obtain rfl:=inj h
 exact aD (f1 fv)
theorem iz:bg Tryz.prog 65:=au Tryz.func65 (by kernel_rfl) rfl
noncomputable def eC(aA:(List Name))(aK:Int):Option (Int):=
 (((cQ (aA.length:Int) (fun(i3:Int) (s3:Int)=>((at' aA i3).bind fun x7=>((a6 s3).bind fun x8=>(bif(!(x7.Text.toList==x8.toList))then some (.inr (.inr (-1)))else((at' aA i3).bind fun x9=>((a6 (aO (s3+1))).bind fun x10=>(bif(!(x9.Language.toList==x10.toList))then some (.inr (.inr (-1)))else((at' aA i3).bind fun x11=>(bif(x11.Status !=(aO ((aO (s3+1))+1)))then some (.inr (.inr (-1)))else((at' aA i3).bind fun x12=>(bif(x12.Years.From !=(aO ((aO ((aO (s3+1))+1))+1)))then some (.inr (.inr (-1)))else((at' aA i3).bind fun x13=>(bif(x13.Years.To !=(aO ((aO ((aO ((aO (s3+1))+1))+1))+1)))then some (.inr (.inr (-1)))else some (.inl (aO ((aO ((aO ((aO ((aO (s3+1))+1))+1))+1))+1)))))))))))))))) (fun(s3:Int)=> .inl s3) 0 aK)).bind (Sum.elim (fun(j1:Int)=>some j1) some))
theorem nD(aA:(List Name))(aK:Int)(r:Int)(h:eC aA aK=some r):aJ Tryz.prog 95 [.v (vl ar aA),.v (vi aK)] ⟨[.v (vi r)],[],false⟩:=by
 refine ap Tryz.func95 rfl [(.tmp 4)] rfl (fun r=>⟨[.v (vi r)],[],false⟩) (r:=r) ?_
 unfold eC at h
 refine az aq [0,1] [] ?_
 refine ac ?_
 refine az aq [0,1,5] [] ?_
 refine bi (r:=r) h (fun j1=>⟨62,[(1,vi j1)],[]⟩) (fun v2 h=> ?_) (fun j1 h=> ?_)
 refine aw (a:=v2) ?_
 refine a7 (r:=v2) (s:=(0,aK)) _ (fun s3=>⟨62,[(0,vl ar aA),(1,vi s3.2),(5,vi s3.1)],[]⟩) _ (Le.an) h (fun s3 v4 h=> ?_)
 refine ac ?_
 refine az aq [0,1,5,9] [] ?_
 refine ai h (fun h=> ?_) fun h=> ?_
 refine ag ?_
 refine aZ ?_
 refine ac ?_
 refine bp (r:=v4) h (fun j5=>⟨62,[(0,vl ar aA),(1,vi j5),(5,vi s3.1)],[]⟩) (fun v6 h=> ?_) (fun j5 h=> ?_)
 refine aw (a:=v6) ?_
 refine ac ?_
 refine ac ?_
 refine cO mixed ?_
 refine aY.cl aq false 2 [0,1,5,12,13] [] ?_
 obtain⟨x7,hx7,h⟩:=bind_some h
 refine aY.step (aG (L:=aA) (f:=ar) (ti:=dh) (tj:=cK) (e:=169) (k:= .i64) aq rfl hx7) ?_
 refine aY.cl aq false 3 [0,1,5,16,17] [] ?_
 obtain⟨x8,hx8,h⟩:=bind_some h
 refine aY.step (xc iz (bx s3.2 _ hx8)) ?_
 refine aY.cl aq false 1 [0,1,5,19] [] ?_
 refine aY.nx ?_
 refine ai h (fun h=> ?_) fun h=> ?_
 refine az aq [4] [] ?_
 refine ae ?_
 obtain rfl:=inj h
 exact bt (bn (aU (aU (bn (aU (aD (f1 fv)))))))
 refine ag ?_
 refine aZ ?_
 refine az aq [0,1,5] [] ?_
 refine ac ?_
 refine ac ?_
 refine cO mixed ?_
 refine aY.cl aq false 2 [0,1,5,22,23] [] ?_
 obtain⟨x9,hx9,h⟩:=bind_some h
 refine aY.step (aG (L:=aA) (f:=ar) (ti:=dh) (tj:=cK) (e:=169) (k:= .i64) aq rfl hx9) ?_
 refine aY.cl aq false 3 [0,1,5,26,27] [] ?_
 obtain⟨x10,hx10,h⟩:=bind_some h
 refine aY.step (xc iz (bx (aO (s3.2+1)) _ hx10)) ?_
 refine aY.cl aq false 1 [0,1,5,29] [] ?_
 refine aY.nx ?_
 refine ai h (fun h=> ?_) fun h=> ?_
 refine iy aq ⟨62,[(4,vi (-1))],[]⟩ ?_
 refine ae ?_
 obtain rfl:=inj h
 exact bt (bn (aU (aU (bn (aU (aD (f1 fv)))))))
 refine ag ?_
 refine aZ ?_
 refine az aq [0,1,5] [] ?_
 refine ac ?_
 refine sr ?_
 refine ab.cl aq 2 [0,1,5,32,33] [] ?_
 obtain⟨x11,hx11,h⟩:=bind_some h
 refine ab.ls (aG (L:=aA) (f:=ar) (ti:=dh) (tj:=cK) (e:=169) (k:= .i64) aq rfl hx11) ?_
 refine bQ aq 4 [0,1,5,38] [] ?_
 refine ai h (fun h=> ?_) fun h=> ?_
 refine az aq [4] [] ?_
 refine ae ?_
 obtain rfl:=inj h
 exact bt (bn (aU (aU (bn (aU (aD (f1 fv)))))))
 refine ag ?_
 refine aZ ?_
 refine az aq [0,1,5] [] ?_
 refine ac ?_
 refine sr ?_
 refine ab.cl aq 2 [0,1,5,41,42] [] ?_
 obtain⟨x12,hx12,h⟩:=bind_some h
 refine ab.ls (aG (L:=aA) (f:=ar) (ti:=dh) (tj:=cK) (e:=169) (k:= .i64) aq rfl hx12) ?_
 refine bQ aq 5 [0,1,5,48] [] ?_
 refine ai h (fun h=> ?_) fun h=> ?_
 refine az aq [4] [] ?_
 refine ae ?_
 obtain rfl:=inj h
 exact bt (bn (aU (aU (bn (aU (aD (f1 fv)))))))
 refine ag ?_
 refine aZ ?_
 refine iy aq ⟨62,[(0,vl ar aA),(1,vi (aO ((aO ((aO ((aO (s3.2+1))+1))+1))+1))),(5,vi s3.1)],[]⟩ ?_
 refine ac ?_
 refine sr ?_
 refine ab.cl aq 2 [0,1,5,51,52] [] ?_
 obtain⟨x13,hx13,h⟩:=bind_some h
 refine ab.ls (aG (L:=aA) (f:=ar) (ti:=dh) (tj:=cK) (e:=169) (k:= .i64) aq rfl hx13) ?_
 refine bQ aq 5 [0,1,5,58] [] ?_
 refine ai h (fun h=> ?_) fun h=> ?_
 refine az aq [4] [] ?_
 refine ae ?_
 obtain rfl:=inj h
 exact bt (bn (aU (aU (bn (aU (aD (f1 fv)))))))
 refine ag ?_
 refine aZ ?_
 refine aE ?_
 refine ab.cl aq 3 [0,1,5] [] ?_
 refine ab.nil ?_
 obtain rfl:=inj h
 exact bP (bZ (Le.an))
 refine aE ?_
 refine ab.cl aq 3 [0,1,5] [] ?_
 refine ab.nil ?_
 obtain rfl:=inj h
 exact bZ (Le.an)
 refine aQ ?_
 obtain rfl:=inj h
 exact cn (cr (cq (bZ (Le.an))))
 refine az aq [4] [] ?_
 refine ae ?_
 obtain rfl:=inj h
 exact aD (f1 fv)
theorem Dl:bg Tryz.prog 95:=au Tryz.func95 (by kernel_rfl) rfl
noncomputable def fj(aA:(List Place))(aK:Int):Option (Int):=
 (((cQ (aA.length:Int) (fun(i3:Int) (s3:Int)=>((at' aA i3).bind fun x7=>((a6 s3).bind fun x8=>(bif(!(x7.Code.toList==x8.toList))then some (.inr (.inr (-1)))else((at' aA i3).bind fun x9=>(bif(x9.Class !=(aO (s3+1)))then some (.inr (.inr (-1)))else((at' aA i3).bind fun x10=>(bif(x10.Years.From !=(aO ((aO (s3+1))+1)))then some (.inr (.inr (-1)))else((at' aA i3).bind fun x11=>(bif(x11.Years.To !=(aO ((aO ((aO (s3+1))+1))+1)))then some (.inr (.inr (-1)))else((at' aA i3).bind fun x12=>((eC x12.Names (aO ((aO ((aO ((aO (s3+1))+1))+1))+1))).bind fun x13=>(bif(decide (x13<0))then some (.inr (.inr (-1)))else some (.inl x13)))))))))))))) (fun(s3:Int)=> .inl s3) 0 aK)).bind (Sum.elim (fun(j1:Int)=>some j1) some))
theorem m7(aA:(List Place))(aK:Int)(r:Int)(h:fj aA aK=some r):aJ Tryz.prog 45 [.v (vl af aA),.v (vi aK)] ⟨[.v (vi r)],[],false⟩:=by
 refine ap Tryz.func45 rfl [(.tmp 4)] rfl (fun r=>⟨[.v (vi r)],[],false⟩) (r:=r) ?_
 unfold fj at h
 refine az aq [0,1] [] ?_
 refine ac ?_
 refine az aq [0,1,5] [] ?_
 refine bi (r:=r) h (fun j1=>⟨61,[(1,vi j1)],[]⟩) (fun v2 h=> ?_) (fun j1 h=> ?_)
 refine aw (a:=v2) ?_
 refine a7 (r:=v2) (s:=(0,aK)) _ (fun s3=>⟨61,[(0,vl af aA),(1,vi s3.2),(5,vi s3.1)],[]⟩) _ (Le.an) h (fun s3 v4 h=> ?_)
 refine ac ?_
 refine az aq [0,1,5,9] [] ?_
 refine ai h (fun h=> ?_) fun h=> ?_
 refine ag ?_
 refine aZ ?_
 refine ac ?_
 refine bp (r:=v4) h (fun j5=>⟨61,[(0,vl af aA),(1,vi j5),(5,vi s3.1)],[]⟩) (fun v6 h=> ?_) (fun j5 h=> ?_)
 refine aw (a:=v6) ?_
 refine ac ?_
 refine ac ?_
 refine cO mixed ?_
 refine aY.cl aq false 2 [0,1,5,12,13] [] ?_
 obtain⟨x7,hx7,h⟩:=bind_some h
 refine aY.step (aG (L:=aA) (f:=af) (ti:=cP) (tj:=cm) (e:=91) (k:= .i64) aq rfl hx7) ?_
 refine aY.cl aq false 3 [0,1,5,16,17] [] ?_
 obtain⟨x8,hx8,h⟩:=bind_some h
 refine aY.step (xc iz (bx s3.2 _ hx8)) ?_
 refine aY.cl aq false 1 [0,1,5,19] [] ?_
 refine aY.nx ?_
 refine ai h (fun h=> ?_) fun h=> ?_
 refine az aq [4] [] ?_
 refine ae ?_
 obtain rfl:=inj h
 exact bt (bn (aU (aU (bn (aU (aD (f1 fv)))))))
 refine ag ?_
 refine aZ ?_
 refine az aq [0,1,5] [] ?_
 refine ac ?_
 refine sr ?_
 refine ab.cl aq 2 [0,1,5,22,23] [] ?_
 obtain⟨x9,hx9,h⟩:=bind_some h
 refine ab.ls (aG (L:=aA) (f:=af) (ti:=cP) (tj:=cm) (e:=91) (k:= .i64) aq rfl hx9) ?_
 refine bQ aq 4 [0,1,5,28] [] ?_
 refine ai h (fun h=> ?_) fun h=> ?_
 refine az aq [4] [] ?_
 refine ae ?_
 obtain rfl:=inj h
 exact bt (bn (aU (aU (bn (aU (aD (f1 fv)))))))
 refine ag ?_
 refine aZ ?_
 refine iy aq ⟨61,[(0,vl af aA),(1,vi (aO ((aO (s3.2+1))+1))),(5,vi s3.1)],[]⟩ ?_
 refine ac ?_
 refine sr ?_
 refine ab.cl aq 2 [0,1,5,31,32] [] ?_
 obtain⟨x10,hx10,h⟩:=bind_some h
 refine ab.ls (aG (L:=aA) (f:=af) (ti:=cP) (tj:=cm) (e:=91) (k:= .i64) aq rfl hx10) ?_
 refine bQ aq 5 [0,1,5,38] [] ?_
 refine ai h (fun h=> ?_) fun h=> ?_
 refine az aq [4] [] ?_
 refine ae ?_
 obtain rfl:=inj h
 exact bt (bn (aU (aU (bn (aU (aD (f1 fv)))))))
 refine ag ?_
 refine aZ ?_
 refine az aq [0,1,5] [] ?_
 refine ac ?_
 refine sr ?_
 refine ab.cl aq 2 [0,1,5,41,42] [] ?_
 obtain⟨x11,hx11,h⟩:=bind_some h
 refine ab.ls (aG (L:=aA) (f:=af) (ti:=cP) (tj:=cm) (e:=91) (k:= .i64) aq rfl hx11) ?_
 refine bQ aq 5 [0,1,5,48] [] ?_
 refine ai h (fun h=> ?_) fun h=> ?_
 refine az aq [4] [] ?_
 refine ae ?_
 obtain rfl:=inj h
 exact bt (bn (aU (aU (bn (aU (aD (f1 fv)))))))
 refine ag ?_
 refine aZ ?_
 refine az aq [0,1,5] [] ?_
 refine sr ?_
 refine ab.ck aq 2 ⟨61,[(0,vl af aA),(1,vi (aO ((aO ((aO ((aO (s3.2+1))+1))+1))+1))),(5,vi s3.1),(51,vl af aA),(52,vi s3.1)],[]⟩ ?_
 obtain⟨x12,hx12,h⟩:=bind_some h
 refine ab.ls (aG (L:=aA) (f:=af) (ti:=cP) (tj:=cm) (e:=91) (k:= .i64) aq rfl hx12) ?_
 refine ab.cl aq 3 [0,5,55,56] [] ?_
 obtain⟨x13,hx13,h⟩:=bind_some h
 refine ab.ls (xc Dl (nD x12.Names (aO ((aO ((aO ((aO (s3.2+1))+1))+1))+1)) _ hx13)) ?_
 refine bQ aq 1 [0,1,5] [] ?_
 refine az aq [0,1,5,59] [] ?_
 refine ai h (fun h=> ?_) fun h=> ?_
 refine az aq [4] [] ?_
 refine ae ?_
 obtain rfl:=inj h
 exact bn (aU (aU (bn (aU (aD (f1 fv))))))
 refine ag ?_
 obtain rfl:=inj h
 exact bP (bZ (Le.an))
 refine aE ?_
 refine ab.cl aq 3 [0,1,5] [] ?_
 refine ab.nil ?_
 obtain rfl:=inj h
 exact bZ (Le.an)
 refine aQ ?_
 obtain rfl:=inj h
 exact cn (cr (cq (bZ (Le.an))))
 refine az aq [4] [] ?_
 refine ae ?_
 obtain rfl:=inj h
 exact aD (f1 fv)
theorem CZ:bg Tryz.prog 45:=au Tryz.func45 (by kernel_rfl) rfl
noncomputable def fV(aA:(List ax))(aK:Int):Option (Int):=
 (((cQ (aA.length:Int) (fun(i3:Int) (s3:Int)=>((at' aA i3).bind fun x7=>((a6 s3).bind fun x8=>(bif(!(x7.Child.toList==x8.toList))then some (.inr (.inr (-1)))else((at' aA i3).bind fun x9=>((a6 (aO (s3+1))).bind fun x10=>(bif(!(x9.Parent.toList==x10.toList))then some (.inr (.inr (-1)))else((at' aA i3).bind fun x11=>(bif(x11.Years.From !=(aO ((aO (s3+1))+1)))then some (.inr (.inr (-1)))else((at' aA i3).bind fun x12=>(bif(x12.Years.To !=(aO ((aO ((aO (s3+1))+1))+1)))then some (.inr (.inr (-1)))else some (.inl (aO ((aO ((aO ((aO (s3+1))+1))+1))+1)))))))))))))) (fun(s3:Int)=> .inl s3) 0 aK)).bind (Sum.elim (fun(j1:Int)=>some j1) some))
theorem nC(aA:(List ax))(aK:Int)(r:Int)(h:fV aA aK=some r):aJ Tryz.prog 46 [.v (vl ah aA),.v (vi aK)] ⟨[.v (vi r)],[],false⟩:=by
 refine ap Tryz.func46 rfl [(.tmp 4)] rfl (fun r=>⟨[.v (vi r)],[],false⟩) (r:=r) ?_
 unfold fV at h
 refine az aq [0,1] [] ?_
 refine ac ?_
 refine az aq [0,1,5] [] ?_
 refine bi (r:=r) h (fun j1=>⟨53,[(1,vi j1)],[]⟩) (fun v2 h=> ?_) (fun j1 h=> ?_)
 refine aw (a:=v2) ?_
 refine a7 (r:=v2) (s:=(0,aK)) _ (fun s3=>⟨53,[(0,vl ah aA),(1,vi s3.2),(5,vi s3.1)],[]⟩) _ (Le.an) h (fun s3 v4 h=> ?_)
 refine ac ?_
 refine az aq [0,1,5,9] [] ?_
 refine ai h (fun h=> ?_) fun h=> ?_
 refine ag ?_
 refine aZ ?_
 refine ac ?_
 refine bp (r:=v4) h (fun j5=>⟨53,[(0,vl ah aA),(1,vi j5),(5,vi s3.1)],[]⟩) (fun v6 h=> ?_) (fun j5 h=> ?_)
 refine aw (a:=v6) ?_
 refine ac ?_
 refine ac ?_
 refine cO mixed ?_
 refine aY.cl aq false 2 [0,1,5,12,13] [] ?_
 obtain⟨x7,hx7,h⟩:=bind_some h
 refine aY.step (aG (L:=aA) (f:=ah) (ti:=dq) (tj:=dr) (e:=85) (k:= .i64) aq rfl hx7) ?_
 refine aY.cl aq false 3 [0,1,5,16,17] [] ?_
 obtain⟨x8,hx8,h⟩:=bind_some h
 refine aY.step (xc iz (bx s3.2 _ hx8)) ?_
 refine aY.cl aq false 1 [0,1,5,19] [] ?_
 refine aY.nx ?_
 refine ai h (fun h=> ?_) fun h=> ?_
 refine az aq [4] [] ?_
 refine ae ?_
 obtain rfl:=inj h
 exact bt (bn (aU (aU (bn (aU (aD (f1 fv)))))))
 refine ag ?_
 refine aZ ?_
 refine az aq [0,1,5] [] ?_
 refine ac ?_
 refine ac ?_
 refine cO mixed ?_
 refine aY.cl aq false 2 [0,1,5,22,23] [] ?_
 obtain⟨x9,hx9,h⟩:=bind_some h
 refine aY.step (aG (L:=aA) (f:=ah) (ti:=dq) (tj:=dr) (e:=85) (k:= .i64) aq rfl hx9) ?_
 refine aY.cl aq false 3 [0,1,5,26,27] [] ?_
 obtain⟨x10,hx10,h⟩:=bind_some h
 refine aY.step (xc iz (bx (aO (s3.2+1)) _ hx10)) ?_
 refine aY.cl aq false 1 [0,1,5,29] [] ?_
 refine aY.nx ?_
 refine ai h (fun h=> ?_) fun h=> ?_
 refine iy aq ⟨53,[(4,vi (-1))],[]⟩ ?_
 refine ae ?_
 obtain rfl:=inj h
 exact bt (bn (aU (aU (bn (aU (aD (f1 fv)))))))
 refine ag ?_
 refine aZ ?_
 refine az aq [0,1,5] [] ?_
 refine ac ?_
 refine sr ?_
 refine ab.cl aq 2 [0,1,5,32,33] [] ?_
 obtain⟨x11,hx11,h⟩:=bind_some h
 refine ab.ls (aG (L:=aA) (f:=ah) (ti:=dq) (tj:=dr) (e:=85) (k:= .i64) aq rfl hx11) ?_
 refine bQ aq 5 [0,1,5,39] [] ?_
 refine ai h (fun h=> ?_) fun h=> ?_
 refine az aq [4] [] ?_
 refine ae ?_
 obtain rfl:=inj h
 exact bt (bn (aU (aU (bn (aU (aD (f1 fv)))))))
 refine ag ?_
 refine aZ ?_
 refine az aq [0,1,5] [] ?_
 refine ac ?_
 refine sr ?_
 refine ab.cl aq 2 [0,1,5,42,43] [] ?_
 obtain⟨x12,hx12,h⟩:=bind_some h
 refine ab.ls (aG (L:=aA) (f:=ah) (ti:=dq) (tj:=dr) (e:=85) (k:= .i64) aq rfl hx12) ?_
 refine bQ aq 5 [0,1,5,49] [] ?_
 refine ai h (fun h=> ?_) fun h=> ?_
 refine az aq [4] [] ?_
 refine ae ?_
 obtain rfl:=inj h
 exact bt (bn (aU (aU (bn (aU (aD (f1 fv)))))))
 refine ag ?_
 refine aZ ?_
 refine aE ?_
 refine ab.ck aq 3 ⟨53,[(0,vl ah aA),(1,vi (aO ((aO ((aO ((aO (s3.2+1))+1))+1))+1))),(5,vi s3.1)],[]⟩ ?_
 refine ab.nil ?_
 obtain rfl:=inj h
 exact bP (bZ (Le.an))
 refine aE ?_
 refine ab.cl aq 3 [0,1,5] [] ?_
 refine ab.nil ?_
 obtain rfl:=inj h
 exact bZ (Le.an)
 refine aQ ?_
 obtain rfl:=inj h
 exact cn (cr (cq (bZ (Le.an))))
 refine az aq [4] [] ?_
 refine ae ?_
 obtain rfl:=inj h
 exact aD (f1 fv)
theorem C0:bg Tryz.prog 46:=au Tryz.func46 (by kernel_rfl) rfl
noncomputable def eD(aA:World)(aK:Int):Option (Int):=
 ((fj aA.Places aK).bind fun x1=>(bif(decide (x1<0))then some (-1)else((fV aA.Links x1).bind fun x2=>(bif(decide (x2<0))then some (-1)else some x2))))
theorem km(aA:World)(aK:Int)(r:Int)(h:eD aA aK=some r):aJ Tryz.prog 17 [.v (.agg (tc aH aA)),.v (vi aK)] ⟨[.v (vi r)],[],false⟩:=by
 refine ap Tryz.func17 rfl [(.tmp 4)] rfl (fun r=>⟨[.v (vi r)],[],false⟩) (r:=r) ?_
 unfold eD at h
 refine az aq [1,2] [2] ?_
 refine sr ?_
 refine ab.cl aq 3 [2,6,7] [2] ?_
 obtain⟨x1,hx1,h⟩:=bind_some h
 refine ab.ls (xc CZ (m7 aA.Places aK _ hx1)) ?_
 refine bQ aq 1 [1,2] [2] ?_
 refine ac ?_
 refine az aq [1,2,10] [2] ?_
 refine ai h (fun h=> ?_) fun h=> ?_
 refine az aq [4] [] ?_
 refine ae ?_
 obtain rfl:=inj h
 exact bt (aD (f1 fv))
 refine ag ?_
 refine aZ ?_
 refine sr ?_
 refine ab.cl aq 3 [12,13] [] ?_
 obtain⟨x2,hx2,h⟩:=bind_some h
 refine ab.ls (xc C0 (nC aA.Links x1 _ hx2)) ?_
 refine bQ aq 1 [1] [] ?_
 refine ac ?_
 refine az aq [1,16] [] ?_
 refine ai h (fun h=> ?_) fun h=> ?_
 refine iy aq ⟨18,[(4,vi (-1))],[]⟩ ?_
 refine ae ?_
 obtain rfl:=inj h
 exact bt (aD (f1 fv))
 refine ag ?_
 refine aZ ?_
 refine az aq [4] [] ?_
 refine ae ?_
 obtain rfl:=inj h
 exact aD (f1 fv)
theorem zy:bg Tryz.prog 17:=au Tryz.func17 (by kernel_rfl) rfl
noncomputable def eF(aA:(List Name))(aK:Int):Option (Int×(List Name)):=
 (((ny (fun(i3:Int) (s3:Int×(List Name))=>(decide (i3<(s3.2.length:Int)))) (fun(i3:Int) (s3:Int×(List Name))=>((a6 s3.1).bind fun x7=>((at' s3.2 i3).bind fun x8=>((a6 (aO (s3.1+1))).bind fun x9=>((at' (List.set s3.2 (Int.toNat i3) (Name.mk x7 x8.Language x8.Status x8.Years)) i3).bind fun x10=>((at' (List.set (List.set s3.2 (Int.toNat i3) (Name.mk x7 x8.Language x8.Status x8.Years)) (Int.toNat i3) (Name.mk x10.Text x9 x10.Status x10.Years)) i3).bind fun x11=>((at' (List.set (List.set (List.set s3.2 (Int.toNat i3) (Name.mk x7 x8.Language x8.Status x8.Years)) (Int.toNat i3) (Name.mk x10.Text x9 x10.Status x10.Years)) (Int.toNat i3) (Name.mk x11.Text x11.Language (aO ((aO (s3.1+1))+1)) x11.Years)) i3).bind fun x12=>((at' (List.set (List.set (List.set (List.set s3.2 (Int.toNat i3) (Name.mk x7 x8.Language x8.Status x8.Years)) (Int.toNat i3) (Name.mk x10.Text x9 x10.Status x10.Years)) (Int.toNat i3) (Name.mk x11.Text x11.Language (aO ((aO (s3.1+1))+1)) x11.Years)) (Int.toNat i3) (Name.mk x12.Text x12.Language x12.Status (Span.mk (aO ((aO ((aO (s3.1+1))+1))+1)) x12.Years.To))) i3).bind fun x13=>some ((aO ((aO ((aO ((aO ((aO (s3.1+1))+1))+1))+1))+1)),(List.set (List.set (List.set (List.set (List.set s3.2 (Int.toNat i3) (Name.mk x7 x8.Language x8.Status x8.Years)) (Int.toNat i3) (Name.mk x10.Text x9 x10.Status x10.Years)) (Int.toNat i3) (Name.mk x11.Text x11.Language (aO ((aO (s3.1+1))+1)) x11.Years)) (Int.toNat i3) (Name.mk x12.Text x12.Language x12.Status (Span.mk (aO ((aO ((aO (s3.1+1))+1))+1)) x12.Years.To))) (Int.toNat i3) (Name.mk x13.Text x13.Language x13.Status (Span.mk x13.Years.From (aO ((aO ((aO ((aO (s3.1+1))+1))+1))+1)))))))))))))) (fun(s3:Int×(List Name))=>(s3.1,s3.2)) 0 (aK,aA))).bind fun(j1:Int×(List Name))=>some (j1.1,j1.2))
theorem nF(aA:(List Name))(aK:Int)(r:Int×(List Name))(h:eF aA aK=some r):aJ Tryz.prog 94 [.o (oa 169 5 ar aA),.v (vi aK)] ⟨[.v (vi r.1)],[(0,oa 169 5 ar r.2)],false⟩:=by
 refine ap Tryz.func94 rfl [(.tmp 4)] rfl (fun r=>⟨[.v (vi r.1)],[(0,oa 169 5 ar r.2)],false⟩) (r:=r) ?_
 unfold eF at h
 refine az aq [0,1] [1000000] ?_
 refine ac ?_
 refine az aq [0,1,5] [1000000] ?_
 refine ba h (fun j1=>⟨52,[(1,vi j1.1)],[(1000000,oa 169 5 ar j1.2)]⟩) (fun v2 h=> ?_) (fun j1 h=> ?_)
 refine aw (a:=v2) ?_
 refine a7 (r:=v2) (s:=(0,aK,aA)) _ (fun s3=>⟨52,[(0,.own 1000000),(1,vi s3.2.1),(5,vi s3.1)],[(1000000,oa 169 5 ar s3.2.2)]⟩) _ (Le.an) h (fun s3 v4 h=> ?_)
 refine ac ?_
 refine az aq [0,1,5,9] [1000000] ?_
 refine ai h (fun h=> ?_) fun h=> ?_
 refine ag ?_
 refine aZ ?_
 refine ac ?_
 refine ba h (fun j5=>⟨52,[(0,.own 1000000),(1,vi j5.1),(5,vi s3.1)],[(1000000,oa 169 5 ar j5.2)]⟩) (fun v6 h=> ?_) (fun j5 h=> ?_)
 refine aw (a:=v6) ?_
 refine sr ?_
 refine ab.cl aq 3 [0,1,5,12,13,14] [1000000] ?_
 obtain⟨x7,hx7,h⟩:=bind_some h
 refine ab.ls (xc iz (bx s3.2.1 _ hx7)) ?_
 obtain⟨x8,hx8,h⟩:=bind_some h
 refine ab.ls (bm (d:=1000000) (L:=s3.2.2) (f:=ar) (ti:=dh) (tj:=cK) (e:=169) (e':=169) (m:=5) (k:= .i64) aq rfl hx8) ?_
 refine ab.cl aq 1 [0,1,5,15,17] [1000000] ?_
 refine ab.bs (bH (d:=1000000) (m:=5) (j:=0) (L:=s3.2.2) (f:=ar) (x:=(Name.mk x7 x8.Language x8.Status x8.Years)) (z:=x8) (ti:=gl) (e:=169) (ts:=[.str x7]) (vs:=[vs x7]) (v:=vs x7) aq rfl rfl hx8) ?_
 refine ab.nx ?_
 refine az aq [0,1,5] [1000000] ?_
 refine sr ?_
 refine ab.cl aq 3 [0,1,5,20,21,22] [1000000] ?_
 obtain⟨x9,hx9,h⟩:=bind_some h
 refine ab.ls (xc iz (bx (aO (s3.2.1+1)) _ hx9)) ?_
 obtain⟨x10,hx10,h⟩:=bind_some h
 refine ab.ls (bm (d:=1000000) (L:=(List.set s3.2.2 (Int.toNat s3.1) (Name.mk x7 x8.Language x8.Status x8.Years))) (f:=ar) (ti:=dh) (tj:=cK) (e:=169) (e':=169) (m:=5) (k:= .i64) aq rfl hx10) ?_
 refine ab.cl aq 1 [0,1,5,23,25] [1000000] ?_
 refine ab.bs (bH (d:=1000000) (m:=5) (j:=1) (L:=(List.set s3.2.2 (Int.toNat s3.1) (Name.mk x7 x8.Language x8.Status x8.Years))) (f:=ar) (x:=(Name.mk x10.Text x9 x10.Status x10.Years)) (z:=x10) (ti:=gl) (e:=169) (ts:=[.str x9]) (vs:=[vs x9]) (v:=vs x9) aq rfl rfl hx10) ?_
 refine ab.nx ?_
 refine az aq [0,1,5] [1000000] ?_
 refine sr ?_
 refine ab.cl aq 3 [0,1,5,28,29,30] [1000000] ?_
 obtain⟨x11,hx11,h⟩:=bind_some h
 refine ab.ls (bm (d:=1000000) (L:=(List.set (List.set s3.2.2 (Int.toNat s3.1) (Name.mk x7 x8.Language x8.Status x8.Years)) (Int.toNat s3.1) (Name.mk x10.Text x9 x10.Status x10.Years))) (f:=ar) (ti:=dh) (tj:=cK) (e:=169) (e':=169) (m:=5) (k:= .i64) aq rfl hx11) ?_
 refine ab.cl aq 1 [0,1,5,30,32] [1000000] ?_
 refine ab.bs (bH (d:=1000000) (m:=5) (j:=2) (L:=(List.set (List.set s3.2.2 (Int.toNat s3.1) (Name.mk x7 x8.Language x8.Status x8.Years)) (Int.toNat s3.1) (Name.mk x10.Text x9 x10.Status x10.Years))) (f:=ar) (x:=(Name.mk x11.Text x11.Language (aO ((aO (s3.2.1+1))+1)) x11.Years)) (z:=x11) (ti:=ti2) (e:=169) (ts:=[.int .i64 (aO ((aO (s3.2.1+1))+1))]) (vs:=[vi (aO ((aO (s3.2.1+1))+1))]) (v:=vi (aO ((aO (s3.2.1+1))+1))) aq rfl rfl hx11) ?_
 refine ab.nx ?_
 refine iy aq ⟨52,[(0,.own 1000000),(1,vi (aO ((aO ((aO (s3.2.1+1))+1))+1))),(5,vi s3.1)],[(1000000,oa 169 5 ar (List.set (List.set (List.set s3.2.2 (Int.toNat s3.1) (Name.mk x7 x8.Language x8.Status x8.Years)) (Int.toNat s3.1) (Name.mk x10.Text x9 x10.Status x10.Years)) (Int.toNat s3.1) (Name.mk x11.Text x11.Language (aO ((aO (s3.2.1+1))+1)) x11.Years)))]⟩ ?_
 refine sr ?_
 refine ab.cl aq 3 [0,1,5,35,36,37] [1000000] ?_
 obtain⟨x12,hx12,h⟩:=bind_some h
 refine ab.ls (bm (d:=1000000) (L:=(List.set (List.set (List.set s3.2.2 (Int.toNat s3.1) (Name.mk x7 x8.Language x8.Status x8.Years)) (Int.toNat s3.1) (Name.mk x10.Text x9 x10.Status x10.Years)) (Int.toNat s3.1) (Name.mk x11.Text x11.Language (aO ((aO (s3.2.1+1))+1)) x11.Years))) (f:=ar) (ti:=dh) (tj:=cK) (e:=169) (e':=169) (m:=5) (k:= .i64) aq rfl hx12) ?_
 refine ab.cl aq 2 [0,1,5,37,40] [1000000] ?_
 refine ab.bs (bH (d:=1000000) (m:=5) (j:=3) (L:=(List.set (List.set (List.set s3.2.2 (Int.toNat s3.1) (Name.mk x7 x8.Language x8.Status x8.Years)) (Int.toNat s3.1) (Name.mk x10.Text x9 x10.Status x10.Years)) (Int.toNat s3.1) (Name.mk x11.Text x11.Language (aO ((aO (s3.2.1+1))+1)) x11.Years))) (f:=ar) (x:=(Name.mk x12.Text x12.Language x12.Status (Span.mk (aO ((aO ((aO (s3.2.1+1))+1))+1)) x12.Years.To))) (z:=x12) (ti:=ti2) (e:=169) (ts:=[.int .i64 (aO ((aO ((aO (s3.2.1+1))+1))+1))]) (vs:=[vi (aO ((aO ((aO (s3.2.1+1))+1))+1))]) (v:=vi (aO ((aO ((aO (s3.2.1+1))+1))+1))) aq rfl rfl hx12) ?_
 refine ab.nx ?_
 refine az aq [0,1,5] [1000000] ?_
 refine sr ?_
 refine ab.cl aq 3 [0,1,5,43,44,45] [1000000] ?_
 obtain⟨x13,hx13,h⟩:=bind_some h
 refine ab.ls (bm (d:=1000000) (L:=(List.set (List.set (List.set (List.set s3.2.2 (Int.toNat s3.1) (Name.mk x7 x8.Language x8.Status x8.Years)) (Int.toNat s3.1) (Name.mk x10.Text x9 x10.Status x10.Years)) (Int.toNat s3.1) (Name.mk x11.Text x11.Language (aO ((aO (s3.2.1+1))+1)) x11.Years)) (Int.toNat s3.1) (Name.mk x12.Text x12.Language x12.Status (Span.mk (aO ((aO ((aO (s3.2.1+1))+1))+1)) x12.Years.To)))) (f:=ar) (ti:=dh) (tj:=cK) (e:=169) (e':=169) (m:=5) (k:= .i64) aq rfl hx13) ?_
 refine ab.cl aq 2 [0,1,5,45,48] [1000000] ?_
 refine ab.bs (bH (d:=1000000) (m:=5) (j:=4) (L:=(List.set (List.set (List.set (List.set s3.2.2 (Int.toNat s3.1) (Name.mk x7 x8.Language x8.Status x8.Years)) (Int.toNat s3.1) (Name.mk x10.Text x9 x10.Status x10.Years)) (Int.toNat s3.1) (Name.mk x11.Text x11.Language (aO ((aO (s3.2.1+1))+1)) x11.Years)) (Int.toNat s3.1) (Name.mk x12.Text x12.Language x12.Status (Span.mk (aO ((aO ((aO (s3.2.1+1))+1))+1)) x12.Years.To)))) (f:=ar) (x:=(Name.mk x13.Text x13.Language x13.Status (Span.mk x13.Years.From (aO ((aO ((aO ((aO (s3.2.1+1))+1))+1))+1))))) (z:=x13) (ti:=ti2) (e:=169) (ts:=[.int .i64 (aO ((aO ((aO ((aO (s3.2.1+1))+1))+1))+1))]) (vs:=[vi (aO ((aO ((aO ((aO (s3.2.1+1))+1))+1))+1))]) (v:=vi (aO ((aO ((aO ((aO (s3.2.1+1))+1))+1))+1))) aq rfl rfl hx13) ?_
 refine ab.nx ?_
 refine aE ?_
 refine ab.cl aq 3 [0,1,5] [1000000] ?_
 refine ab.nil ?_
 obtain rfl:=inj h
 exact bP (eW (Le.an))
 refine aE ?_
 refine ab.cl aq 3 [0,1,5] [1000000] ?_
 refine ab.nil ?_
 obtain rfl:=inj h
 exact bZ (Le.an)
 refine aQ ?_
 obtain rfl:=inj h
 exact cn (cr (cq (eW (Le.an))))
 refine az aq [4] [1000000] ?_
 refine ae ?_
 obtain rfl:=inj h
 exact aD (tW (f1 fv) (y:=oa 169 5 ar j1.2) (by kernel_rfl) rfl (by kernel_rfl) (by kernel_rfl))
theorem Dk:bg Tryz.prog 94:=au Tryz.func94 (by kernel_rfl) rfl
noncomputable def fk(aA:(List Place))(aK:Int):Option (Int×(List Place)):=
 (((ny (fun(i3:Int) (s3:Int×(List Place))=>(decide (i3<(s3.2.length:Int)))) (fun(i3:Int) (s3:Int×(List Place))=>((a6 s3.1).bind fun x7=>((at' s3.2 i3).bind fun x8=>((at' (List.set s3.2 (Int.toNat i3) (Place.mk x7 x8.Class x8.Years x8.Names)) i3).bind fun x9=>((at' (List.set (List.set s3.2 (Int.toNat i3) (Place.mk x7 x8.Class x8.Years x8.Names)) (Int.toNat i3) (Place.mk x9.Code (aO (s3.1+1)) x9.Years x9.Names)) i3).bind fun x10=>((at' (List.set (List.set (List.set s3.2 (Int.toNat i3) (Place.mk x7 x8.Class x8.Years x8.Names)) (Int.toNat i3) (Place.mk x9.Code (aO (s3.1+1)) x9.Years x9.Names)) (Int.toNat i3) (Place.mk x10.Code x10.Class (Span.mk (aO ((aO (s3.1+1))+1)) x10.Years.To) x10.Names)) i3).bind fun x11=>((at' (List.set (List.set (List.set (List.set s3.2 (Int.toNat i3) (Place.mk x7 x8.Class x8.Years x8.Names)) (Int.toNat i3) (Place.mk x9.Code (aO (s3.1+1)) x9.Years x9.Names)) (Int.toNat i3) (Place.mk x10.Code x10.Class (Span.mk (aO ((aO (s3.1+1))+1)) x10.Years.To) x10.Names)) (Int.toNat i3) (Place.mk x11.Code x11.Class (Span.mk x11.Years.From (aO ((aO ((aO (s3.1+1))+1))+1))) x11.Names)) i3).bind fun x12=>((eF x12.Names (aO ((aO ((aO ((aO (s3.1+1))+1))+1))+1))).bind fun x13=>some (x13.1,(List.set (List.set (List.set (List.set (List.set s3.2 (Int.toNat i3) (Place.mk x7 x8.Class x8.Years x8.Names)) (Int.toNat i3) (Place.mk x9.Code (aO (s3.1+1)) x9.Years x9.Names)) (Int.toNat i3) (Place.mk x10.Code x10.Class (Span.mk (aO ((aO (s3.1+1))+1)) x10.Years.To) x10.Names)) (Int.toNat i3) (Place.mk x11.Code x11.Class (Span.mk x11.Years.From (aO ((aO ((aO (s3.1+1))+1))+1))) x11.Names)) (Int.toNat i3) (Place.mk x12.Code x12.Class x12.Years x13.2))))))))))) (fun(s3:Int×(List Place))=>(s3.1,s3.2)) 0 (aK,aA))).bind fun(j1:Int×(List Place))=>some (j1.1,j1.2))
theorem m8(aA:(List Place))(aK:Int)(r:Int×(List Place))(h:fk aA aK=some r):aJ Tryz.prog 43 [.o (.deep 91 5 aA.length [.flat,.flat,.flat,.flat,(.sl 169 5 [.flat,.flat,.flat,.flat,.flat])] (aA.map af)),.v (vi aK)] ⟨[.v (vi r.1)],[(0,.deep 91 5 r.2.length [.flat,.flat,.flat,.flat,(.sl 169 5 [.flat,.flat,.flat,.flat,.flat])] (r.2.map af))],false⟩:=by
 refine ap Tryz.func43 rfl [(.tmp 4)] rfl (fun r=>⟨[.v (vi r.1)],[(0,.deep 91 5 r.2.length [.flat,.flat,.flat,.flat,(.sl 169 5 [.flat,.flat,.flat,.flat,.flat])] (r.2.map af))],false⟩) (r:=r) ?_
 unfold fk at h
 refine az aq [0,1] [1000000] ?_
 refine ac ?_
 refine az aq [0,1,5] [1000000] ?_
 refine ba h (fun j1=>⟨51,[(1,vi j1.1)],[(1000000,.deep 91 5 j1.2.length [.flat,.flat,.flat,.flat,(.sl 169 5 [.flat,.flat,.flat,.flat,.flat])] (j1.2.map af))]⟩) (fun v2 h=> ?_) (fun j1 h=> ?_)
 refine aw (a:=v2) ?_
 refine a7 (r:=v2) (s:=(0,aK,aA)) _ (fun s3=>⟨51,[(0,.own 1000000),(1,vi s3.2.1),(5,vi s3.1)],[(1000000,.deep 91 5 s3.2.2.length [.flat,.flat,.flat,.flat,(.sl 169 5 [.flat,.flat,.flat,.flat,.flat])] (s3.2.2.map af))]⟩) _ (Le.an) h (fun s3 v4 h=> ?_)
 refine ac ?_
 refine sr ?_
 refine ab.cl aq 2 [0,1,5,6,7] [1000000] ?_
 refine ab.ls (xx (d:=1000000) (e:=91) (e':=91) (m:=5) (n:=s3.2.2.length) (ss:=[.flat,.flat,.flat,.flat,(.sl 169 5 [.flat,.flat,.flat,.flat,.flat])]) (es:=s3.2.2.map af) (ti:=cP) aq rfl rfl rfl) ?_
 refine bQ aq 1 [0,1,5,9] [1000000] ?_
 refine ai h (fun h=> ?_) fun h=> ?_
 refine ag ?_
 refine aZ ?_
 refine ac ?_
 refine ba h (fun j5=>⟨51,[(0,.own 1000000),(1,vi j5.1),(5,vi s3.1)],[(1000000,.deep 91 5 j5.2.length [.flat,.flat,.flat,.flat,(.sl 169 5 [.flat,.flat,.flat,.flat,.flat])] (j5.2.map af))]⟩) (fun v6 h=> ?_) (fun j5 h=> ?_)
 refine aw (a:=v6) ?_
 refine sr ?_
 refine ab.cl aq 3 [0,1,5,12,13,14] [1000000] ?_
 obtain⟨x7,hx7,h⟩:=bind_some h
 refine ab.ls (xc iz (bx s3.2.1 _ hx7)) ?_
 obtain⟨x8,hx8,h⟩:=bind_some h
 refine ab.ls (bL (d:=1000000) (L:=s3.2.2) (f:=af) (ti:=cP) (tj:=cm) (e:=91) (e':=91) (m:=5) (k:= .i64) (ss:=[.flat,.flat,.flat,.flat,(.sl 169 5 [.flat,.flat,.flat,.flat,.flat])]) aq rfl hx8) ?_
 refine ab.cl aq 1 [0,1,5,15,17] [1000000] ?_
 refine ab.bs (ff (d:=1000000) (m:=5) (j:=0) (L:=s3.2.2) (f:=af) (x:=(Place.mk x7 x8.Class x8.Years x8.Names)) (z:=x8) (ti:=gl) (e:=91) (ss:=[.flat,.flat,.flat,.flat,(.sl 169 5 [.flat,.flat,.flat,.flat,.flat])]) (ss2:=[.flat]) (ts:=[.str x7]) (vs:=[vs x7]) (v:=vs x7) (ds:=[]) aq rfl rfl hx8 (.cons _ _ _ [] _ _ _ _ (.flat (.str x7) rfl) .nil (by decide))) ?_
 refine ab.nx ?_
 refine az aq [0,1,5] [1000000] ?_
 refine sr ?_
 refine ab.cl aq 3 [0,1,5,20,21,22] [1000000] ?_
 obtain⟨x9,hx9,h⟩:=bind_some h
 refine ab.ls (bL (d:=1000000) (L:=(List.set s3.2.2 (Int.toNat s3.1) (Place.mk x7 x8.Class x8.Years x8.Names))) (f:=af) (ti:=cP) (tj:=cm) (e:=91) (e':=91) (m:=5) (k:= .i64) (ss:=[.flat,.flat,.flat,.flat,(.sl 169 5 [.flat,.flat,.flat,.flat,.flat])]) aq rfl hx9) ?_
 refine ab.cl aq 1 [0,1,5,22,24] [1000000] ?_
 refine ab.bs (ff (d:=1000000) (m:=5) (j:=1) (L:=(List.set s3.2.2 (Int.toNat s3.1) (Place.mk x7 x8.Class x8.Years x8.Names))) (f:=af) (x:=(Place.mk x9.Code (aO (s3.2.1+1)) x9.Years x9.Names)) (z:=x9) (ti:=ti2) (e:=91) (ss:=[.flat,.flat,.flat,.flat,(.sl 169 5 [.flat,.flat,.flat,.flat,.flat])]) (ss2:=[.flat]) (ts:=[.int .i64 (aO (s3.2.1+1))]) (vs:=[vi (aO (s3.2.1+1))]) (v:=vi (aO (s3.2.1+1))) (ds:=[]) aq rfl rfl hx9 (.cons _ _ _ [] _ _ _ _ (.flat (.int .i64 (aO (s3.2.1+1))) rfl) .nil (by decide))) ?_
 refine ab.nx ?_
 refine az aq [0,1,5] [1000000] ?_
 refine sr ?_
 refine ab.cl aq 3 [0,1,5,27,28,29] [1000000] ?_
 obtain⟨x10,hx10,h⟩:=bind_some h
 refine ab.ls (bL (d:=1000000) (L:=(List.set (List.set s3.2.2 (Int.toNat s3.1) (Place.mk x7 x8.Class x8.Years x8.Names)) (Int.toNat s3.1) (Place.mk x9.Code (aO (s3.2.1+1)) x9.Years x9.Names))) (f:=af) (ti:=cP) (tj:=cm) (e:=91) (e':=91) (m:=5) (k:= .i64) (ss:=[.flat,.flat,.flat,.flat,(.sl 169 5 [.flat,.flat,.flat,.flat,.flat])]) aq rfl hx10) ?_
 refine ab.cl aq 2 [0,1,5,29,32] [1000000] ?_
 refine ab.bs (ff (d:=1000000) (m:=5) (j:=2) (L:=(List.set (List.set s3.2.2 (Int.toNat s3.1) (Place.mk x7 x8.Class x8.Years x8.Names)) (Int.toNat s3.1) (Place.mk x9.Code (aO (s3.2.1+1)) x9.Years x9.Names))) (f:=af) (x:=(Place.mk x10.Code x10.Class (Span.mk (aO ((aO (s3.2.1+1))+1)) x10.Years.To) x10.Names)) (z:=x10) (ti:=ti2) (e:=91) (ss:=[.flat,.flat,.flat,.flat,(.sl 169 5 [.flat,.flat,.flat,.flat,.flat])]) (ss2:=[.flat]) (ts:=[.int .i64 (aO ((aO (s3.2.1+1))+1))]) (vs:=[vi (aO ((aO (s3.2.1+1))+1))]) (v:=vi (aO ((aO (s3.2.1+1))+1))) (ds:=[]) aq rfl rfl hx10 (.cons _ _ _ [] _ _ _ _ (.flat (.int .i64 (aO ((aO (s3.2.1+1))+1))) rfl) .nil (by decide))) ?_
 refine ab.nx ?_
 refine iy aq ⟨51,[(0,.own 1000000),(1,vi (aO ((aO ((aO (s3.2.1+1))+1))+1))),(5,vi s3.1)],[(1000000,.deep 91 5 (List.set (List.set (List.set s3.2.2 (Int.toNat s3.1) (Place.mk x7 x8.Class x8.Years x8.Names)) (Int.toNat s3.1) (Place.mk x9.Code (aO (s3.2.1+1)) x9.Years x9.Names)) (Int.toNat s3.1) (Place.mk x10.Code x10.Class (Span.mk (aO ((aO (s3.2.1+1))+1)) x10.Years.To) x10.Names)).length [.flat,.flat,.flat,.flat,(.sl 169 5 [.flat,.flat,.flat,.flat,.flat])] ((List.set (List.set (List.set s3.2.2 (Int.toNat s3.1) (Place.mk x7 x8.Class x8.Years x8.Names)) (Int.toNat s3.1) (Place.mk x9.Code (aO (s3.2.1+1)) x9.Years x9.Names)) (Int.toNat s3.1) (Place.mk x10.Code x10.Class (Span.mk (aO ((aO (s3.2.1+1))+1)) x10.Years.To) x10.Names)).map af))]⟩ ?_
 refine sr ?_
 refine ab.cl aq 3 [0,1,5,35,36,37] [1000000] ?_
 obtain⟨x11,hx11,h⟩:=bind_some h
 refine ab.ls (bL (d:=1000000) (L:=(List.set (List.set (List.set s3.2.2 (Int.toNat s3.1) (Place.mk x7 x8.Class x8.Years x8.Names)) (Int.toNat s3.1) (Place.mk x9.Code (aO (s3.2.1+1)) x9.Years x9.Names)) (Int.toNat s3.1) (Place.mk x10.Code x10.Class (Span.mk (aO ((aO (s3.2.1+1))+1)) x10.Years.To) x10.Names))) (f:=af) (ti:=cP) (tj:=cm) (e:=91) (e':=91) (m:=5) (k:= .i64) (ss:=[.flat,.flat,.flat,.flat,(.sl 169 5 [.flat,.flat,.flat,.flat,.flat])]) aq rfl hx11) ?_
 refine ab.cl aq 2 [0,1,5,37,40] [1000000] ?_
 refine ab.bs (ff (d:=1000000) (m:=5) (j:=3) (L:=(List.set (List.set (List.set s3.2.2 (Int.toNat s3.1) (Place.mk x7 x8.Class x8.Years x8.Names)) (Int.toNat s3.1) (Place.mk x9.Code (aO (s3.2.1+1)) x9.Years x9.Names)) (Int.toNat s3.1) (Place.mk x10.Code x10.Class (Span.mk (aO ((aO (s3.2.1+1))+1)) x10.Years.To) x10.Names))) (f:=af) (x:=(Place.mk x11.Code x11.Class (Span.mk x11.Years.From (aO ((aO ((aO (s3.2.1+1))+1))+1))) x11.Names)) (z:=x11) (ti:=ti2) (e:=91) (ss:=[.flat,.flat,.flat,.flat,(.sl 169 5 [.flat,.flat,.flat,.flat,.flat])]) (ss2:=[.flat]) (ts:=[.int .i64 (aO ((aO ((aO (s3.2.1+1))+1))+1))]) (vs:=[vi (aO ((aO ((aO (s3.2.1+1))+1))+1))]) (v:=vi (aO ((aO ((aO (s3.2.1+1))+1))+1))) (ds:=[]) aq rfl rfl hx11 (.cons _ _ _ [] _ _ _ _ (.flat (.int .i64 (aO ((aO ((aO (s3.2.1+1))+1))+1))) rfl) .nil (by decide))) ?_
 refine ab.nx ?_
 refine az aq [0,1,5] [1000000] ?_
 refine aE ?_
 refine ab.cl aq 2 [0,1,5,43,44] [1000000] ?_
 obtain⟨x12,hx12,h⟩:=bind_some h
 refine ab.ls (bL (d:=1000000) (L:=(List.set (List.set (List.set (List.set s3.2.2 (Int.toNat s3.1) (Place.mk x7 x8.Class x8.Years x8.Names)) (Int.toNat s3.1) (Place.mk x9.Code (aO (s3.2.1+1)) x9.Years x9.Names)) (Int.toNat s3.1) (Place.mk x10.Code x10.Class (Span.mk (aO ((aO (s3.2.1+1))+1)) x10.Years.To) x10.Names)) (Int.toNat s3.1) (Place.mk x11.Code x11.Class (Span.mk x11.Years.From (aO ((aO ((aO (s3.2.1+1))+1))+1))) x11.Names))) (f:=af) (ti:=cP) (tj:=cm) (e:=91) (e':=91) (m:=5) (k:= .i64) (ss:=[.flat,.flat,.flat,.flat,(.sl 169 5 [.flat,.flat,.flat,.flat,.flat])]) aq rfl hx12) ?_
 refine ab.cl aq 1 [0,1,5,46] [1000000] ?_
 refine ab.bs (jX (L:=(List.set (List.set (List.set (List.set s3.2.2 (Int.toNat s3.1) (Place.mk x7 x8.Class x8.Years x8.Names)) (Int.toNat s3.1) (Place.mk x9.Code (aO (s3.2.1+1)) x9.Years x9.Names)) (Int.toNat s3.1) (Place.mk x10.Code x10.Class (Span.mk (aO ((aO (s3.2.1+1))+1)) x10.Years.To) x10.Names)) (Int.toNat s3.1) (Place.mk x11.Code x11.Class (Span.mk x11.Years.From (aO ((aO ((aO (s3.2.1+1))+1))+1))) x11.Names))) (f:=af) (d:=1000000) (k:=2000047) (e:=91) (m:=5) (j:=4) (e':=169) (m':=5) (n':=x12.Names.length) (ss:=[.flat,.flat,.flat,.flat,(.sl 169 5 [.flat,.flat,.flat,.flat,.flat])]) (ss':=[.flat,.flat,.flat,.flat,.flat]) (es':=x12.Names.map ar) (ti:=dh) (y:=oa 169 5 ar x12.Names) hx12 aq rfl rfl (.inr ⟨rfl,rfl⟩)) ?_
 refine ab.cl aq 1 [0,5,47,48] [1000000,2000047] ?_
 obtain⟨x13,hx13,h⟩:=bind_some h
 refine ab.bs (xe Dk (nF x12.Names (aO ((aO ((aO ((aO (s3.2.1+1))+1))+1))+1)) _ hx13)) ?_
 refine ab.le (AO (L:=(List.set (List.set (List.set (List.set s3.2.2 (Int.toNat s3.1) (Place.mk x7 x8.Class x8.Years x8.Names)) (Int.toNat s3.1) (Place.mk x9.Code (aO (s3.2.1+1)) x9.Years x9.Names)) (Int.toNat s3.1) (Place.mk x10.Code x10.Class (Span.mk (aO ((aO (s3.2.1+1))+1)) x10.Years.To) x10.Names)) (Int.toNat s3.1) (Place.mk x11.Code x11.Class (Span.mk x11.Years.From (aO ((aO ((aO (s3.2.1+1))+1))+1))) x11.Names))) (f:=af) (x':=(Place.mk x12.Code x12.Class x12.Years x13.2)) (d:=1000000) (k:=2000047) (e:=91) (m:=5) (j:=4) (e':=169) (m':=5) (n':=x13.2.length) (ss:=[.flat,.flat,.flat,.flat,(.sl 169 5 [.flat,.flat,.flat,.flat,.flat])]) (ss':=[.flat,.flat,.flat,.flat,.flat]) (es':=x13.2.map ar) hx12 (cd bE _)) ?_
 refine ab.cl aq 1 [0,1,5] [1000000] ?_
 refine ab.nil ?_
 obtain rfl:=inj h
 exact bP (eW (Le.an))
 refine aE ?_
 refine ab.cl aq 3 [0,1,5] [1000000] ?_
 refine ab.nil ?_
 obtain rfl:=inj h
 exact bZ (Le.an)
 refine aQ ?_
 obtain rfl:=inj h
 exact cn (cr (cq (eW (Le.an))))
 refine iy aq ⟨51,[(4,vi j1.1)],[(1000000,.deep 91 5 j1.2.length [.flat,.flat,.flat,.flat,(.sl 169 5 [.flat,.flat,.flat,.flat,.flat])] (j1.2.map af))]⟩ ?_
 refine ae ?_
 obtain rfl:=inj h
 exact aD (tW (f1 fv) (y:= .deep 91 5 j1.2.length [.flat,.flat,.flat,.flat,(.sl 169 5 [.flat,.flat,.flat,.flat,.flat])] (j1.2.map af)) (by kernel_rfl) rfl (by kernel_rfl) (by kernel_rfl))
theorem CX:bg Tryz.prog 43:=au Tryz.func43 (by kernel_rfl) rfl
noncomputable def fW(aA:(List ax))(aK:Int):Option (Int×(List ax)):=
 (((ny (fun(i3:Int) (s3:Int×(List ax))=>(decide (i3<(s3.2.length:Int)))) (fun(i3:Int) (s3:Int×(List ax))=>((a6 s3.1).bind fun x7=>((at' s3.2 i3).bind fun x8=>((a6 (aO (s3.1+1))).bind fun x9=>((at' (List.set s3.2 (Int.toNat i3) (ax.mk x7 x8.Parent x8.Years)) i3).bind fun x10=>((at' (List.set (List.set s3.2 (Int.toNat i3) (ax.mk x7 x8.Parent x8.Years)) (Int.toNat i3) (ax.mk x10.Child x9 x10.Years)) i3).bind fun x11=>((at' (List.set (List.set (List.set s3.2 (Int.toNat i3) (ax.mk x7 x8.Parent x8.Years)) (Int.toNat i3) (ax.mk x10.Child x9 x10.Years)) (Int.toNat i3) (ax.mk x11.Child x11.Parent (Span.mk (aO ((aO (s3.1+1))+1)) x11.Years.To))) i3).bind fun x12=>some ((aO ((aO ((aO ((aO (s3.1+1))+1))+1))+1)),(List.set (List.set (List.set (List.set s3.2 (Int.toNat i3) (ax.mk x7 x8.Parent x8.Years)) (Int.toNat i3) (ax.mk x10.Child x9 x10.Years)) (Int.toNat i3) (ax.mk x11.Child x11.Parent (Span.mk (aO ((aO (s3.1+1))+1)) x11.Years.To))) (Int.toNat i3) (ax.mk x12.Child x12.Parent (Span.mk x12.Years.From (aO ((aO ((aO (s3.1+1))+1))+1))))))))))))) (fun(s3:Int×(List ax))=>(s3.1,s3.2)) 0 (aK,aA))).bind fun(j1:Int×(List ax))=>some (j1.1,j1.2))
theorem nE(aA:(List ax))(aK:Int)(r:Int×(List ax))(h:fW aA aK=some r):aJ Tryz.prog 44 [.o (oa 85 4 ah aA),.v (vi aK)] ⟨[.v (vi r.1)],[(0,oa 85 4 ah r.2)],false⟩:=by
 refine ap Tryz.func44 rfl [(.tmp 4)] rfl (fun r=>⟨[.v (vi r.1)],[(0,oa 85 4 ah r.2)],false⟩) (r:=r) ?_
 unfold fW at h
 refine az aq [0,1] [1000000] ?_
 refine ac ?_
 refine az aq [0,1,5] [1000000] ?_
 refine ba h (fun j1=>⟨45,[(1,vi j1.1)],[(1000000,oa 85 4 ah j1.2)]⟩) (fun v2 h=> ?_) (fun j1 h=> ?_)
 refine aw (a:=v2) ?_
 refine a7 (r:=v2) (s:=(0,aK,aA)) _ (fun s3=>⟨45,[(0,.own 1000000),(1,vi s3.2.1),(5,vi s3.1)],[(1000000,oa 85 4 ah s3.2.2)]⟩) _ (Le.an) h (fun s3 v4 h=> ?_)
 refine ac ?_
 refine az aq [0,1,5,9] [1000000] ?_
 refine ai h (fun h=> ?_) fun h=> ?_
 refine ag ?_
 refine aZ ?_
 refine ac ?_
 refine ba h (fun j5=>⟨45,[(0,.own 1000000),(1,vi j5.1),(5,vi s3.1)],[(1000000,oa 85 4 ah j5.2)]⟩) (fun v6 h=> ?_) (fun j5 h=> ?_)
 refine aw (a:=v6) ?_
 refine sr ?_
 refine ab.cl aq 3 [0,1,5,12,13,14] [1000000] ?_
 obtain⟨x7,hx7,h⟩:=bind_some h
 refine ab.ls (xc iz (bx s3.2.1 _ hx7)) ?_
 obtain⟨x8,hx8,h⟩:=bind_some h
 refine ab.ls (bm (d:=1000000) (L:=s3.2.2) (f:=ah) (ti:=dq) (tj:=dr) (e:=85) (e':=85) (m:=4) (k:= .i64) aq rfl hx8) ?_
 refine ab.cl aq 1 [0,1,5,15,17] [1000000] ?_
 refine ab.bs (bH (d:=1000000) (m:=4) (j:=0) (L:=s3.2.2) (f:=ah) (x:=(ax.mk x7 x8.Parent x8.Years)) (z:=x8) (ti:=gl) (e:=85) (ts:=[.str x7]) (vs:=[vs x7]) (v:=vs x7) aq rfl rfl hx8) ?_
 refine ab.nx ?_
 refine az aq [0,1,5] [1000000] ?_
 refine sr ?_
 refine ab.cl aq 3 [0,1,5,20,21,22] [1000000] ?_
 obtain⟨x9,hx9,h⟩:=bind_some h
 refine ab.ls (xc iz (bx (aO (s3.2.1+1)) _ hx9)) ?_
 obtain⟨x10,hx10,h⟩:=bind_some h
 refine ab.ls (bm (d:=1000000) (L:=(List.set s3.2.2 (Int.toNat s3.1) (ax.mk x7 x8.Parent x8.Years))) (f:=ah) (ti:=dq) (tj:=dr) (e:=85) (e':=85) (m:=4) (k:= .i64) aq rfl hx10) ?_
 refine ab.cl aq 1 [0,1,5,23,25] [1000000] ?_
 refine ab.bs (bH (d:=1000000) (m:=4) (j:=1) (L:=(List.set s3.2.2 (Int.toNat s3.1) (ax.mk x7 x8.Parent x8.Years))) (f:=ah) (x:=(ax.mk x10.Child x9 x10.Years)) (z:=x10) (ti:=gl) (e:=85) (ts:=[.str x9]) (vs:=[vs x9]) (v:=vs x9) aq rfl rfl hx10) ?_
 refine ab.nx ?_
 refine az aq [0,1,5] [1000000] ?_
 refine sr ?_
 refine ab.cl aq 3 [0,1,5,28,29,30] [1000000] ?_
 obtain⟨x11,hx11,h⟩:=bind_some h
 refine ab.ls (bm (d:=1000000) (L:=(List.set (List.set s3.2.2 (Int.toNat s3.1) (ax.mk x7 x8.Parent x8.Years)) (Int.toNat s3.1) (ax.mk x10.Child x9 x10.Years))) (f:=ah) (ti:=dq) (tj:=dr) (e:=85) (e':=85) (m:=4) (k:= .i64) aq rfl hx11) ?_
 refine ab.cl aq 2 [0,1,5,30,33] [1000000] ?_
 refine ab.bs (bH (d:=1000000) (m:=4) (j:=2) (L:=(List.set (List.set s3.2.2 (Int.toNat s3.1) (ax.mk x7 x8.Parent x8.Years)) (Int.toNat s3.1) (ax.mk x10.Child x9 x10.Years))) (f:=ah) (x:=(ax.mk x11.Child x11.Parent (Span.mk (aO ((aO (s3.2.1+1))+1)) x11.Years.To))) (z:=x11) (ti:=ti2) (e:=85) (ts:=[.int .i64 (aO ((aO (s3.2.1+1))+1))]) (vs:=[vi (aO ((aO (s3.2.1+1))+1))]) (v:=vi (aO ((aO (s3.2.1+1))+1))) aq rfl rfl hx11) ?_
 refine ab.nx ?_
 refine iy aq ⟨45,[(0,.own 1000000),(1,vi (aO ((aO ((aO (s3.2.1+1))+1))+1))),(5,vi s3.1)],[(1000000,oa 85 4 ah (List.set (List.set (List.set s3.2.2 (Int.toNat s3.1) (ax.mk x7 x8.Parent x8.Years)) (Int.toNat s3.1) (ax.mk x10.Child x9 x10.Years)) (Int.toNat s3.1) (ax.mk x11.Child x11.Parent (Span.mk (aO ((aO (s3.2.1+1))+1)) x11.Years.To))))]⟩ ?_
 refine sr ?_
 refine ab.cl aq 3 [0,1,5,36,37,38] [1000000] ?_
 obtain⟨x12,hx12,h⟩:=bind_some h
 refine ab.ls (bm (d:=1000000) (L:=(List.set (List.set (List.set s3.2.2 (Int.toNat s3.1) (ax.mk x7 x8.Parent x8.Years)) (Int.toNat s3.1) (ax.mk x10.Child x9 x10.Years)) (Int.toNat s3.1) (ax.mk x11.Child x11.Parent (Span.mk (aO ((aO (s3.2.1+1))+1)) x11.Years.To)))) (f:=ah) (ti:=dq) (tj:=dr) (e:=85) (e':=85) (m:=4) (k:= .i64) aq rfl hx12) ?_
 refine ab.cl aq 2 [0,1,5,38,41] [1000000] ?_
 refine ab.bs (bH (d:=1000000) (m:=4) (j:=3) (L:=(List.set (List.set (List.set s3.2.2 (Int.toNat s3.1) (ax.mk x7 x8.Parent x8.Years)) (Int.toNat s3.1) (ax.mk x10.Child x9 x10.Years)) (Int.toNat s3.1) (ax.mk x11.Child x11.Parent (Span.mk (aO ((aO (s3.2.1+1))+1)) x11.Years.To)))) (f:=ah) (x:=(ax.mk x12.Child x12.Parent (Span.mk x12.Years.From (aO ((aO ((aO (s3.2.1+1))+1))+1))))) (z:=x12) (ti:=ti2) (e:=85) (ts:=[.int .i64 (aO ((aO ((aO (s3.2.1+1))+1))+1))]) (vs:=[vi (aO ((aO ((aO (s3.2.1+1))+1))+1))]) (v:=vi (aO ((aO ((aO (s3.2.1+1))+1))+1))) aq rfl rfl hx12) ?_
 refine ab.nx ?_
 refine aE ?_
 refine ab.cl aq 3 [0,1,5] [1000000] ?_
 refine ab.nil ?_
 obtain rfl:=inj h
 exact bP (eW (Le.an))
 refine aE ?_
 refine ab.cl aq 3 [0,1,5] [1000000] ?_
 refine ab.nil ?_
 obtain rfl:=inj h
 exact bZ (Le.an)
 refine aQ ?_
 obtain rfl:=inj h
 exact cn (cr (cq (eW (Le.an))))
 refine az aq [4] [1000000] ?_
 refine ae ?_
 obtain rfl:=inj h
 exact aD (tW (f1 fv) (y:=oa 85 4 ah j1.2) (by kernel_rfl) rfl (by kernel_rfl) (by kernel_rfl))
theorem CY:bg Tryz.prog 44:=au Tryz.func44 (by kernel_rfl) rfl
noncomputable def eG(aA:World)(aK:Int):Option (Int×World):=
 ((fk aA.Places aK).bind fun x1=>((fW aA.Links x1.1).bind fun x2=>some (x2.1,(World.mk x1.2 x2.2))))
theorem kn(aA:World)(aK:Int)(r:Int×World)(h:eG aA aK=some r):jm Tryz.prog 16 [.agg [.own 1000100,.own 1000101],vi aK] [(1000100,.deep 91 5 aA.Places.length [.flat,.flat,.flat,.flat,(.sl 169 5 [.flat,.flat,.flat,.flat,.flat])] (aA.Places.map af)),(1000101,oa 85 4 ah aA.Links)] [(1000100,.deep 91 5 r.2.Places.length [.flat,.flat,.flat,.flat,(.sl 169 5 [.flat,.flat,.flat,.flat,.flat])] (r.2.Places.map af)),(1000101,oa 85 4 ah r.2.Links)] [vi r.1]:=by
 refine gT Tryz.func16 rfl [(.tmp 4)] rfl (fun r=>[(1000100,.deep 91 5 r.2.Places.length [.flat,.flat,.flat,.flat,(.sl 169 5 [.flat,.flat,.flat,.flat,.flat])] (r.2.Places.map af)),(1000101,oa 85 4 ah r.2.Links)]) (fun r=>[vi r.1]) (r:=r) (cf trivial (cf (cd c8 _) jj)) ?_
 unfold eG at h
 refine az aq [1,2] [2,1000100,1000101] ?_
 refine sr ?_
 refine ab.cl aq 3 [2,6,7] [2,1000100,1000101] ?_
 obtain⟨x1,hx1,h⟩:=bind_some h
 refine ab.bs (xe CX (m8 aA.Places aK _ hx1)) ?_
 refine bQ aq 1 [1,2] [2,1000100,1000101] ?_
 refine sr ?_
 refine ab.cl aq 3 [10,11] [1000100,1000101] ?_
 obtain⟨x2,hx2,h⟩:=bind_some h
 refine ab.bs (xe CY (nE aA.Links x1.1 _ hx2)) ?_
 refine bQ aq 1 [1] [1000100,1000101] ?_
 refine az aq [4] [1000100,1000101] ?_
 refine ae ?_
 obtain rfl:=inj h
 exact kV (fw aq)
theorem zx:bg Tryz.prog 16:=au Tryz.func16 (by kernel_rfl) rfl
noncomputable def o3(aW:World)(aC:Change):Option (World×Int):=
 ((dW aW aC).bind fun x1=>(bif(x1 !=0)then some ((World.mk ([]:List Place) ([]:List ax)),x1)else((dw aW).bind fun x2=>((dN x2 aC).bind fun x3=>(bif(x3.1 !=0)then some ((World.mk ([]:List Place) ([]:List ax)),x3.1)else some (x3.2,0))))))
end Go.Proofs.YtdejeagdkfokfaaGreatDoor.Sh
