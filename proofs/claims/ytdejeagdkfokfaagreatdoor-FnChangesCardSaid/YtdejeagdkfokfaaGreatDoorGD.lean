/- Typed functions and the calls that do what they say. -/
import Derived.Test.YtdejeagdkfokfaaGreatDoorSE
import Derived.Test.YtdejeagdkfokfaaGreatDoorKA
import Derived.Test.YtdejeagdkfokfaaGreatDoorKC
import Derived.Test.YtdejeagdkfokfaaGreatDoorKD
import Derived.Test.YtdejeagdkfokfaaGreatDoorKO
import Derived.Test.YtdejeagdkfokfaaGreatDoorKS
import Derived.Test.YtdejeagdkfokfaaGreatDoorSN
import Derived.Test.YtdejeagdkfokfaaGreatDoorSW
import Derived.Test.YtdejeagdkfokfaaGreatDoorSX
import Derived.Test.YtdejeagdkfokfaaGreatDoorH1
import Derived.Test.YtdejeagdkfokfaaGreatDoorGA
namespace Go.Proofs.YtdejeagdkfokfaaGreatDoor.Sh
open Go.RowKit
set_option maxRecDepth 100000
set_option maxHeartbeats 4000000
def BE:TI:=⟨1,24,.slice 5,[.sl ([]:List Int).length (([]:List Int).map (eI .u8))]⟩
def Fu:Tb:=[(2,ti2),(3,ti3),(4,ti4),(5,ti5),(9,et),(22,EN),(23,EO),(25,EP),(27,EQ),(32,bR),(33,eo),(35,iE),(37,va),(44,BE),(83,DB),(85,ew),(89,eb),(91,bG),(97,ER),(98,ES),(100,BB),(103,BC),(169,dg),(190,BD)]
theorem gT:ba Tryz.prog Fu:=ba.cons ⟨by kernel_rfl,show Tryz.prog.underlying 2=some (.int .i64)from by kernel_rfl⟩ (ba.cons ⟨by kernel_rfl,show Tryz.prog.underlying 3=some (.int .i64)from by kernel_rfl⟩ (ba.cons ⟨by kernel_rfl,show Tryz.prog.underlying 4=some (.bool)from by kernel_rfl⟩ (ba.cons ⟨by kernel_rfl,show Tryz.prog.underlying 5=some (.int .u8)from by kernel_rfl⟩ (ba.cons ⟨by kernel_rfl,show Tryz.prog.underlying 9=some (.string)from by kernel_rfl⟩ (ba.cons ⟨by kernel_rfl,show Tryz.prog.underlying 22=some (.slice 100)from by kernel_rfl⟩ (ba.cons ⟨by kernel_rfl,show Tryz.prog.underlying 23=some (.slice 103)from by kernel_rfl⟩ (ba.cons ⟨by kernel_rfl,show structOf Tryz.prog 25=some [(0,22),(1,23)]from by kernel_rfl⟩ (ba.cons ⟨by kernel_rfl,show structOf Tryz.prog 27=some [(0,2),(1,2),(2,9),(3,9),(4,9),(5,9)]from by kernel_rfl⟩ (ba.cons ⟨by kernel_rfl,show Tryz.prog.underlying 32=some (.slice 91)from by kernel_rfl⟩ (ba.cons ⟨by kernel_rfl,show Tryz.prog.underlying 33=some (.slice 85)from by kernel_rfl⟩ (ba.cons ⟨by kernel_rfl,show structOf Tryz.prog 35=some [(0,32),(1,33)]from by kernel_rfl⟩ (ba.cons ⟨by kernel_rfl,show structOf Tryz.prog 37=some [(0,2),(1,2),(2,9),(3,9),(4,9),(5,9)]from by kernel_rfl⟩ (ba.cons ⟨by kernel_rfl,show Tryz.prog.underlying 44=some (.slice 5)from by kernel_rfl⟩ (ba.cons ⟨by kernel_rfl,show structOf Tryz.prog 83=some [(0,2),(1,2)]from by kernel_rfl⟩ (ba.cons ⟨by kernel_rfl,show structOf Tryz.prog 85=some [(0,9),(1,9),(2,83)]from by kernel_rfl⟩ (ba.cons ⟨by kernel_rfl,show Tryz.prog.underlying 89=some (.slice 169)from by kernel_rfl⟩ (ba.cons ⟨by kernel_rfl,show structOf Tryz.prog 91=some [(0,9),(1,2),(2,83),(4,89)]from by kernel_rfl⟩ (ba.cons ⟨by kernel_rfl,show structOf Tryz.prog 97=some [(0,2),(1,2)]from by kernel_rfl⟩ (ba.cons ⟨by kernel_rfl,show Tryz.prog.underlying 98=some (.slice 190)from by kernel_rfl⟩ (ba.cons ⟨by kernel_rfl,show structOf Tryz.prog 100=some [(0,9),(1,2),(2,97),(4,98)]from by kernel_rfl⟩ (ba.cons ⟨by kernel_rfl,show structOf Tryz.prog 103=some [(0,9),(1,9),(2,97)]from by kernel_rfl⟩ (ba.cons ⟨by kernel_rfl,show structOf Tryz.prog 169=some [(0,9),(1,9),(2,2),(3,83)]from by kernel_rfl⟩ (ba.cons ⟨by kernel_rfl,show structOf Tryz.prog 190=some [(0,9),(1,9),(2,2),(3,97)]from by kernel_rfl⟩ (ba.nil _))))))))))))))))))))))))
noncomputable def dS(aW:World):Option (World):=
 ((fN aW.Places).bind fun x1=>((c4 ([]:List ay) aW.Links).bind fun x3=>some (World.mk x1 x3)))
theorem ky(aW:World)(r:World)(h:dS aW=some r):aR Tryz.prog 39 [.v (.agg (tc aQ aW))] ⟨[.v (.agg (tc aQ r))],[],true⟩:=by
 refine au Tryz.func39 rfl [(.cell 2 35)] rfl (fun r=>⟨[.v (.agg (tc aQ r))],[],true⟩) (r:=r) ?_
 unfold dS at h
 refine aJ gT [1,2] [1,2] ?_
 refine ae ?_
 refine cV mixed ?_
 refine aH.cl gT false 2 [1,2,4] [1,2] ?_
 obtain⟨x1,hx1,h⟩:=bind_some h
 refine aH.step (xc xh (kx aW.Places _ hx1)) ?_
 refine aH.cl gT false 3 [2,5,6,8] [2,5,6] ?_
 refine aH.seq (by kernel_rfl) (by kernel_rfl) ?_
 obtain⟨x3,hx3,h⟩:=bind_some h
 refine aa.a7 (bh (f:=aj) (t:=33) (ti:=eo) (tj:=ew) (zs:=[.string (ByteArray.mk #[]),.string (ByteArray.mk #[]),.int .i64 0,.int .i64 0]) (e:=85) (m:=4) (d:=6) (xv:=vl aj aW.Links) hx3 gT rfl rfl rfl rfl (jG (fun _=>rfl))) ?_
 refine aa.ls (aZ (v:= .agg [.own 5,.own 9]) gT rfl) ?_
 refine bO gT 1 [2] [2,5,9] ?_
 refine cH (Le.DJ (d:=5) (e:=91) (m:=5) (n:=x1.length) (ss:=[.flat,.flat,.flat,.flat,(.sl 169 5 [.flat,.flat,.flat,.flat,.flat])]) (es:=x1.map ad) (by kernel_rfl) (by kernel_rfl)) ?_
 refine cH (Le.l3 (d:=9) (e:=85) (m:=4) (n:=x3.length) (es:=x3.map aj) (by kernel_rfl) (by kernel_rfl)) ?_
 refine ah ?_
 obtain rfl:=inj h
 exact aO (f1 (kq rfl (cA gT (d:=2) (cs:=[vl ad x1,vl aj x3]) (ti:=iE) (by kernel_rfl) (by kernel_rfl) (by kernel_rfl) (by kernel_rfl))))
theorem w9:bg Tryz.prog 39:=az Tryz.func39 (by kernel_rfl) rfl
noncomputable def fC(aW:World)(aC:Change):Option (World×Int):=
 ((cz aW aC).bind fun x1=>(bif(x1.2 !=0)then some ((World.mk ([]:List Place) ([]:List ay)),x1.2)else((dS x1.1).bind fun x2=>some (x2,0))))
theorem nB(aW:World)(aC:Change)(r:World×Int)(h:fC aW aC=some r):aR Tryz.prog 14 [.v (.agg (tc aQ aW)),.v (.agg (tc aF aC))] ⟨[.v (.agg (tc aQ r.1)),.v (vi r.2)],[],true⟩:=by
 refine au Tryz.func14 rfl [(.cell 4 35),(.tmp 5)] rfl (fun r=>⟨[.v (.agg (tc aQ r.1)),.v (vi r.2)],[],true⟩) (r:=r) ?_
 unfold fC at h
 refine aJ gT [2,3,4] [2,3,4] ?_
 refine sr ?_
 refine aa.cl gT 2 [4,9,10] [4] ?_
 obtain⟨x1,hx1,h⟩:=bind_some h
 refine aa.ls (xc w8 (jD aW aC _ hx1)) ?_
 refine bO gT 6 [4,6,7] [4,6] ?_
 refine ae ?_
 refine aJ gT [4,6,7,15] [4,6] ?_
 refine aq h (fun h=> ?_) fun h=> ?_
 refine sr ?_
 refine aa.ls (aZ (v:= .agg [vl ad ([]:List Place),vl aj ([]:List ay)]) gT rfl) ?_
 refine bO gT 3 [4,5] [4] ?_
 refine ah ?_
 obtain rfl:=inj h
 exact cY (aO (f2 (kq rfl (cA gT (d:=4) (cs:=[vl ad ([]:List Place),vl aj ([]:List ay)]) (ti:=iE) (by kernel_rfl) (by kernel_rfl) (by kernel_rfl) (by kernel_rfl))) ft))
 refine ai ?_
 refine bq ?_
 refine sr ?_
 refine aa.cl gT 1 [4,18] [4] ?_
 obtain⟨x2,hx2,h⟩:=bind_some h
 refine aa.ls (xc w9 (ky x1.1 _ hx2)) ?_
 refine bO gT 2 [4,5] [4] ?_
 refine ah ?_
 obtain rfl:=inj h
 exact aO (f2 (kq rfl (cA gT (d:=4) (cs:=[vl ad x2.Places,vl aj x2.Links]) (ti:=iE) (by kernel_rfl) (by kernel_rfl) (by kernel_rfl) (by kernel_rfl))) ft)
theorem D6:bg Tryz.prog 14:=az Tryz.func14 (by kernel_rfl) rfl
end Go.Proofs.YtdejeagdkfokfaaGreatDoor.Sh
