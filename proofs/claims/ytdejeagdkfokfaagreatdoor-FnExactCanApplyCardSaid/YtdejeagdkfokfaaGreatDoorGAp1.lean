/- Typed functions and the calls that do what they say. -/
import Derived.Test.YtdejeagdkfokfaaGreatDoorGAp0
import Derived.Test.YtdejeagdkfokfaaGreatDoorKA
import Derived.Test.YtdejeagdkfokfaaGreatDoorKC
import Derived.Test.YtdejeagdkfokfaaGreatDoorKD
import Derived.Test.YtdejeagdkfokfaaGreatDoorKO
import Derived.Test.YtdejeagdkfokfaaGreatDoorKS
import Derived.Test.YtdejeagdkfokfaaGreatDoorSN
import Derived.Test.YtdejeagdkfokfaaGreatDoorSW
import Derived.Test.YtdejeagdkfokfaaGreatDoorSX
import Derived.Test.YtdejeagdkfokfaaGreatDoorH1
namespace Go.Proofs.YtdejeagdkfokfaaGreatDoor.Sh
open Go.RowKit
set_option maxRecDepth 100000
set_option maxHeartbeats 4000000
noncomputable def dT(aW:World)(aC:Change):Option (World×Int):=
 ((ic aW aC).bind fun x1=>(bif(x1 !=0)then some (aW,x1)else(((bif(aC.Kind==0)then((fA aW aC).bind fun x4=>some (.inr (x4.1,x4.2)))else(bif(aC.Kind==2)then((dL aW aC.Code aC.Other aC.Year).bind fun x5=>((dp aW x5).bind fun x6=>some (.inr (x6.1,x6.2))))else some (.inl (World.mk ([]:List Place) ([]:List au)))))).bind (Sum.elim (fun(j2:World)=>(((bif(aC.Kind==3)then((eQ aW.Links aC.Code aC.Year).bind fun x9=>(cY (x9.1.length:Int) (fun(i10:Int) (s10:World×World)=>((at' x9.1 i10).bind fun x14=>(bif(x14.toList==aC.Other.toList)then some (.inr (.inr (aW,5)))else((at' x9.1 i10).bind fun x15=>((dL s10.2 x15 aC.Other aC.Year).bind fun x16=>((dp s10.2 x16).bind fun x17=>(bif(x17.2 !=0)then some (.inr (.inr (aW,x17.2)))else some (.inl (s10.1,x17.1))))))))) (fun(s10:World×World)=>(.inl (s10.1,s10.2))) 0 (j2,aW)))else some (.inl (j2,aW)))).bind (Sum.elim (fun(j7:World×World)=>((eY j7.2.Places aC.Code aC.Year).bind fun x18=>((gE j7.2.Links aC.Code aC.Year).bind fun x19=>some ((World.mk x18.1 x19),0)))) some))) some))))
theorem nu(aW:World)(aC:Change)(r:World×Int)(h:dT aW aC=some r):aF Tryz.prog 33 [.v (.agg (tc aj aW)),.v (.agg (tc ah aC))] ⟨[.v (.agg (tc aj r.1)),.v (vi r.2)],[],true⟩:=by
 refine ar Tryz.func33 rfl [(.cell 4 35),(.tmp 5)] rfl (fun r=>⟨[.v (.agg (tc aj r.1)),.v (vi r.2)],[],true⟩) (r:=r) ?_
 unfold dT at h
 refine az aa ⟨112,[(2,.ref 2 0),(3,.ref 3 0),(4,.ref 4 0)],[(2,.box (tc aj aW)),(3,.box (tc ah aC)),(4,.box [vl ab ([]:List Place),vl ac ([]:List au)])]⟩ ?_
 refine sr ?_
 refine ae.ck aa 2 ⟨112,[(2,.ref 2 0),(3,.ref 3 0),(4,.ref 4 0),(15,.agg (tc aj aW)),(16,.agg (tc ah aC))],[(2,.box (tc aj aW)),(3,.box (tc ah aC)),(4,.box [vl ab ([]:List Place),vl ac ([]:List au)])]⟩ ?_
 obtain⟨x1,hx1,h⟩:=bind_some h
 refine ae.ls (xc AU (oi aW aC _ hx1)) ?_
 refine bU aa 1 ⟨112,[(2,.ref 2 0),(3,.ref 3 0),(4,.ref 4 0),(6,vi x1)],[(2,.box (tc aj aW)),(3,.box (tc ah aC)),(4,.box [vl ab ([]:List Place),vl ac ([]:List au)])]⟩ ?_
 refine ai ?_
 refine az aa ⟨112,[(2,.ref 2 0),(3,.ref 3 0),(4,.ref 4 0),(6,vi x1),(19,vb (x1 !=0))],[(2,.box (tc aj aW)),(3,.box (tc ah aC)),(4,.box [vl ab ([]:List Place),vl ac ([]:List au)])]⟩ ?_
 refine aq h (fun h=> ?_) fun h=> ?_
 refine az aa ⟨112,[(4,.ref 4 0),(5,vi x1)],[(4,.box (tc aj aW))]⟩ ?_
 refine ak ?_
 obtain rfl:=inj h
 exact bS (aD (f2 (mY rfl (dg aa (d:=4) (cs:=[vl ab aW.Places,vl ac aW.Links]) (ti:=l8) (by kernel_rfl) (by kernel_rfl) (by kernel_rfl) (by kernel_rfl))) ft))
 refine an ?_
 refine a8 ?_
 refine ai ?_
 refine az aa ⟨112,[(2,.ref 2 0),(3,.ref 3 0),(4,.ref 4 0),(23,vi aC.Kind)],[(2,.box (tc aj aW)),(3,.box (tc ah aC)),(4,.box [vl ab ([]:List Place),vl ac ([]:List au)])]⟩ ?_
 refine bl (r:=r) h (fun j2=>⟨112,[(2,.ref 2 0),(3,.ref 3 0),(4,.ref 4 0)],[(2,.box (tc aj aW)),(3,.box (tc ah aC)),(4,.box (tc aj j2))]⟩) (fun v3 h=> ?_) (fun j2 h=> ?_)
 refine ax (a:=v3) ?_
 refine az aa ⟨112,[(2,.ref 2 0),(3,.ref 3 0),(4,.ref 4 0),(23,vi aC.Kind),(24,vb (aC.Kind==0))],[(2,.box (tc aj aW)),(3,.box (tc ah aC)),(4,.box [vl ab ([]:List Place),vl ac ([]:List au)])]⟩ ?_
 refine aq h (fun h=> ?_) fun h=> ?_
 refine sr ?_
 refine ae.ck aa 2 ⟨112,[(4,.ref 4 0),(26,.agg (tc aj aW)),(27,.agg (tc ah aC))],[(4,.box [vl ab ([]:List Place),vl ac ([]:List au)])]⟩ ?_
 obtain⟨x4,hx4,h⟩:=bind_some h
 refine ae.ls (xc AV (mG aW aC _ hx4)) ?_
 refine bU aa 4 ⟨112,[(4,.ref 4 0),(5,vi x4.2)],[(4,.box (tc aj x4.1))]⟩ ?_
 refine ak ?_
 obtain rfl:=inj h
 exact bw (bi (aD (f2 (mY rfl (dg aa (d:=4) (cs:=[vl ab x4.1.Places,vl ac x4.1.Links]) (ti:=l8) (by kernel_rfl) (by kernel_rfl) (by kernel_rfl) (by kernel_rfl))) ft)))
 refine az aa ⟨112,[(2,.ref 2 0),(3,.ref 3 0),(4,.ref 4 0),(31,vb (aC.Kind==2))],[(2,.box (tc aj aW)),(3,.box (tc ah aC)),(4,.box [vl ab ([]:List Place),vl ac ([]:List au)])]⟩ ?_
 refine aq h (fun h=> ?_) fun h=> ?_
 refine ai ?_
 refine di mixed ?_
 refine aQ.ck aa false 8 ⟨112,[(4,.ref 4 0),(33,.agg (tc aj aW)),(34,.agg (tc aj aW)),(36,vs aC.Code),(38,vs aC.Other),(40,vi aC.Year)],[(4,.box [vl ab ([]:List Place),vl ac ([]:List au)])]⟩ ?_
 obtain⟨x5,hx5,h⟩:=bind_some h
 refine aQ.step (xc xB (kr aW aC.Code aC.Other aC.Year _ hx5)) ?_
 obtain⟨x6,hx6,h⟩:=bind_some h
 refine aQ.step (xc xA (jU aW x5 _ hx6)) ?_
 refine aQ.ck aa false 2 ⟨112,[(4,.ref 4 0),(43,.agg (tc aj x6.1)),(44,vi x6.2)],[(4,.box [vl ab ([]:List Place),vl ac ([]:List au)])]⟩ ?_
 refine aQ.seq (by kernel_rfl) (by kernel_rfl) ?_
 refine bU aa 2 ⟨112,[(4,.ref 4 0),(5,vi x6.2)],[(4,.box (tc aj x6.1))]⟩ ?_
 refine ak ?_
 obtain rfl:=inj h
 exact bw (bi (aD (f2 (mY rfl (dg aa (d:=4) (cs:=[vl ab x6.1.Places,vl ac x6.1.Links]) (ti:=l8) (by kernel_rfl) (by kernel_rfl) (by kernel_rfl) (by kernel_rfl))) ft)))
 refine an ?_
 obtain rfl:=inj h
 exact bY (cb (Le.ao))
 refine az aa ⟨112,[(2,.ref 2 0),(3,.ref 3 0),(4,.ref 4 0),(7,.ref 7 0)],[(2,.box (tc aj aW)),(3,.box (tc ah aC)),(4,.box (tc aj j2)),(7,.box (tc aj aW))]⟩ ?_
 refine ai ?_
 refine az aa ⟨112,[(2,.ref 2 0),(3,.ref 3 0),(4,.ref 4 0),(7,.ref 7 0),(48,vb (aC.Kind==3))],[(2,.box (tc aj aW)),(3,.box (tc ah aC)),(4,.box (tc aj j2)),(7,.box (tc aj aW))]⟩ ?_
 refine bl (r:=r) h (fun j7=>⟨112,[(3,.ref 3 0),(4,.ref 4 0),(7,.ref 7 0)],[(3,.box (tc ah aC)),(4,.box (tc aj j7.1)),(7,.box (tc aj j7.2))]⟩) (fun v8 h=> ?_) (fun j7 h=> ?_)
 refine aq h (fun h=> ?_) fun h=> ?_
 refine sr ?_
 refine ae.ck aa 6 ⟨112,[(2,.ref 2 0),(3,.ref 3 0),(4,.ref 4 0),(7,.ref 7 0),(51,vl ac aW.Links),(53,vs aC.Code),(55,vi aC.Year)],[(2,.box (tc aj aW)),(3,.box (tc ah aC)),(4,.box (tc aj j2)),(7,.box (tc aj aW))]⟩ ?_
 obtain⟨x9,hx9,h⟩:=bind_some h
 refine ae.ls (xc AW (l5 aW.Links aC.Code aC.Year _ hx9)) ?_
 refine bU aa 5 ⟨112,[(2,.ref 2 0),(3,.ref 3 0),(4,.ref 4 0),(7,.ref 7 0),(8,.own 56)],[(2,.box (tc aj aW)),(3,.box (tc ah aC)),(4,.box (tc aj j2)),(7,.box (tc aj aW)),(56,oa 9 1 eS x9.1)]⟩ ?_
 refine az aa ⟨112,[(2,.ref 2 0),(3,.ref 3 0),(4,.ref 4 0),(7,.ref 7 0),(8,.own 56),(10,vi 0)],[(2,.box (tc aj aW)),(3,.box (tc ah aC)),(4,.box (tc aj j2)),(7,.box (tc aj aW)),(56,oa 9 1 eS x9.1)]⟩ ?_
 refine ax (a:=v8) ?_
 refine a6 (r:=v8) (s:=(0,j2,aW)) _ (fun s10=>⟨112,[(2,.ref 2 0),(3,.ref 3 0),(4,.ref 4 0),(7,.ref 7 0),(8,.own 8),(10,vi s10.1)],[(2,.box (tc aj aW)),(3,.box (tc ah aC)),(4,.box (tc aj s10.2.1)),(7,.box (tc aj s10.2.2)),(8,oa 9 1 eS x9.1)]⟩) _ (Le.rr [2,3,4,7,56] [(56,8)]) h (fun s10 v11 h=> ?_)
 refine ai ?_
 refine az aa ⟨112,[(2,.ref 2 0),(3,.ref 3 0),(4,.ref 4 0),(7,.ref 7 0),(8,.own 8),(10,vi s10.1),(62,vb (decide (s10.1<(x9.1.length:Int))))],[(2,.box (tc aj aW)),(3,.box (tc ah aC)),(4,.box (tc aj s10.2.1)),(7,.box (tc aj s10.2.2)),(8,oa 9 1 eS x9.1)]⟩ ?_
 refine aq h (fun h=> ?_) fun h=> ?_
 refine an ?_
 refine a8 ?_
 refine ai ?_
 refine bp (r:=v11) h (fun j12=>⟨112,[(2,.ref 2 0),(3,.ref 3 0),(4,.ref 4 0),(7,.ref 7 0),(8,.own 8),(10,vi s10.1)],[(2,.box (tc aj aW)),(3,.box (tc ah aC)),(4,.box (tc aj j12.1)),(7,.box (tc aj j12.2)),(8,oa 9 1 eS x9.1)]⟩) (fun v13 h=> ?_) (fun j12 h=> ?_)
 refine ax (a:=v13) ?_
 refine ai ?_
 refine ai ?_
 refine di mixed ?_
 refine aQ.ck aa false 2 ⟨112,[(2,.ref 2 0),(3,.ref 3 0),(4,.ref 4 0),(7,.ref 7 0),(8,.own 8),(10,vi s10.1),(65,.own 8),(66,vi s10.1)],[(2,.box (tc aj aW)),(3,.box (tc ah aC)),(4,.box (tc aj s10.2.1)),(7,.box (tc aj s10.2.2)),(8,oa 9 1 eS x9.1)]⟩ ?_
 obtain⟨x14,hx14,h⟩:=bind_some h
 refine aQ.step (bX (d:=8) (L:=x9.1) (f:=eS) (ti:=cn) (tj:=ig) (e:=9) (e':=9) (m:=1) (k:= .i64) aa rfl hx14) ?_
 refine aQ.step (dd (d:=8) (m:=1) (j:=0) (L:=x9.1) (f:=eS) (ti:=ig) (e:=9) (v:=vs x14) aa rfl hx14) ?_
 refine aQ.ck aa false 3 ⟨112,[(2,.ref 2 0),(3,.ref 3 0),(4,.ref 4 0),(7,.ref 7 0),(8,.own 8),(10,vi s10.1),(71,vb (x14.toList==aC.Other.toList))],[(2,.box (tc aj aW)),(3,.box (tc ah aC)),(4,.box (tc aj s10.2.1)),(7,.box (tc aj s10.2.2)),(8,oa 9 1 eS x9.1)]⟩ ?_
 refine aQ.nx ?_
 refine aq h (fun h=> ?_) fun h=> ?_
 refine az aa ⟨112,[(4,.ref 4 0),(5,vi 5)],[(4,.box (tc aj aW))]⟩ ?_
 refine ak ?_
 obtain rfl:=inj h
 exact bS (bw (bi (bi (bw (bi (aD (f2 (mY rfl (dg aa (d:=4) (cs:=[vl ab aW.Places,vl ac aW.Links]) (ti:=l8) (by kernel_rfl) (by kernel_rfl) (by kernel_rfl) (by kernel_rfl))) ft)))))))
 refine an ?_
 refine a8 ?_
 refine ai ?_
 refine di mixed ?_
 refine aQ.ck aa false 4 ⟨112,[(2,.ref 2 0),(3,.ref 3 0),(4,.ref 4 0),(7,.ref 7 0),(8,.own 8),(10,vi s10.1),(74,.agg (tc aj s10.2.2)),(75,.agg (tc aj s10.2.2)),(76,.own 8),(77,vi s10.1)],[(2,.box (tc aj aW)),(3,.box (tc ah aC)),(4,.box (tc aj s10.2.1)),(7,.box (tc aj s10.2.2)),(8,oa 9 1 eS x9.1)]⟩ ?_
 obtain⟨x15,hx15,h⟩:=bind_some h
 refine aQ.step (bX (d:=8) (L:=x9.1) (f:=eS) (ti:=cn) (tj:=ig) (e:=9) (e':=9) (m:=1) (k:= .i64) aa rfl hx15) ?_
 refine aQ.step (dd (d:=8) (m:=1) (j:=0) (L:=x9.1) (f:=eS) (ti:=ig) (e:=9) (v:=vs x15) aa rfl hx15) ?_
 refine aQ.ck aa false 4 ⟨112,[(2,.ref 2 0),(3,.ref 3 0),(4,.ref 4 0),(7,.ref 7 0),(8,.own 8),(10,vi s10.1),(74,.agg (tc aj s10.2.2)),(75,.agg (tc aj s10.2.2)),(79,vs x15),(81,vs aC.Other),(83,vi aC.Year)],[(2,.box (tc aj aW)),(3,.box (tc ah aC)),(4,.box (tc aj s10.2.1)),(7,.box (tc aj s10.2.2)),(8,oa 9 1 eS x9.1)]⟩ ?_
 obtain⟨x16,hx16,h⟩:=bind_some h
 refine aQ.step (xc xB (kr s10.2.2 x15 aC.Other aC.Year _ hx16)) ?_
 obtain⟨x17,hx17,h⟩:=bind_some h
 refine aQ.step (xc xA (jU s10.2.2 x16 _ hx17)) ?_
 refine aQ.ck aa false 4 ⟨112,[(2,.ref 2 0),(3,.ref 3 0),(4,.ref 4 0),(7,.ref 7 0),(8,.own 8),(10,vi s10.1),(11,.ref 11 0),(86,.agg (tc aj x17.1)),(87,vi x17.2)],[(2,.box (tc aj aW)),(3,.box (tc ah aC)),(4,.box (tc aj s10.2.1)),(7,.box (tc aj s10.2.2)),(8,oa 9 1 eS x9.1),(11,.box [vl ab ([]:List Place),vl ac ([]:List au)])]⟩ ?_
 refine aQ.yC [11] (uh (d:=11) (k:=0) (ti:=l8) (cs:=[vl ab ([]:List Place),vl ac ([]:List au)]) (vs:=[vl ab x17.1.Places,vl ac x17.1.Links]) (v:= .agg (tc aj x17.1)) aa rfl rfl) ?_
 refine aQ.ck aa false 1 ⟨112,[(2,.ref 2 0),(3,.ref 3 0),(4,.ref 4 0),(7,.ref 7 0),(8,.own 8),(10,vi s10.1),(11,.ref 11 0),(12,vi x17.2)],[(2,.box (tc aj aW)),(3,.box (tc ah aC)),(4,.box (tc aj s10.2.1)),(7,.box (tc aj s10.2.2)),(8,oa 9 1 eS x9.1),(11,.box (tc aj x17.1))]⟩ ?_
 refine aQ.nx ?_
 refine ai ?_
 refine az aa ⟨112,[(2,.ref 2 0),(3,.ref 3 0),(4,.ref 4 0),(7,.ref 7 0),(8,.own 8),(10,vi s10.1),(11,.ref 11 0),(12,vi x17.2),(89,vb (x17.2 !=0))],[(2,.box (tc aj aW)),(3,.box (tc ah aC)),(4,.box (tc aj s10.2.1)),(7,.box (tc aj s10.2.2)),(8,oa 9 1 eS x9.1),(11,.box (tc aj x17.1))]⟩ ?_
 refine aq h (fun h=> ?_) fun h=> ?_
 refine az aa ⟨112,[(4,.ref 4 0),(5,vi x17.2)],[(4,.box (tc aj aW))]⟩ ?_
 refine ak ?_
 obtain rfl:=inj h
 exact bS (bw (bi (bi (bw (bi (aD (f2 (mY rfl (dg aa (d:=4) (cs:=[vl ab aW.Places,vl ac aW.Links]) (ti:=l8) (by kernel_rfl) (by kernel_rfl) (by kernel_rfl) (by kernel_rfl))) ft)))))))
 refine an ?_
 refine a8 ?_
 refine aE ?_
 refine ae.ck aa 2 ⟨112,[(2,.ref 2 0),(3,.ref 3 0),(4,.ref 4 0),(7,.ref 7 0),(8,.own 8),(10,vi s10.1)],[(2,.box (tc aj aW)),(3,.box (tc ah aC)),(4,.box (tc aj s10.2.1)),(7,.box (tc aj x17.1)),(8,oa 9 1 eS x9.1)]⟩ ?_
 refine ae.nil ?_
 obtain rfl:=inj h
 exact bY (cb (Le.ao))
 refine aE ?_
 refine ae.ck aa 3 ⟨112,[(2,.ref 2 0),(3,.ref 3 0),(4,.ref 4 0),(7,.ref 7 0),(8,.own 8),(10,vi (aZ (s10.1+1)))],[(2,.box (tc aj aW)),(3,.box (tc ah aC)),(4,.box (tc aj j12.1)),(7,.box (tc aj j12.2)),(8,oa 9 1 eS x9.1)]⟩ ?_
 refine ae.nil ?_
 obtain rfl:=inj h
 exact cb (Le.ao)
 refine aO ?_
 obtain rfl:=inj h
 exact cH (cJ (cI (cb (Le.ao))))
 refine an ?_
 obtain rfl:=inj h
 exact cb (Le.ao)
 refine sr ?_
 refine ae.ck aa 6 ⟨112,[(3,.ref 3 0),(4,.ref 4 0),(7,.ref 7 0),(95,vl ab j7.2.Places),(97,vs aC.Code),(99,vi aC.Year)],[(3,.box (tc ah aC)),(4,.box (tc aj j7.1)),(7,.box (tc aj j7.2))]⟩ ?_
 obtain⟨x18,hx18,h⟩:=bind_some h
 refine ae.ls (xc AX (nn j7.2.Places aC.Code aC.Year _ hx18)) ?_
 refine bU aa 5 ⟨112,[(3,.ref 3 0),(4,.ref 4 0),(7,.ref 7 0),(13,.own 100)],[(3,.box (tc ah aC)),(4,.box (tc aj j7.1)),(7,.box (tc aj j7.2)),(100,.deep 91 5 x18.1.length [.flat,.flat,.flat,.flat,(.sl 169 5 [.flat,.flat,.flat,.flat,.flat])] (x18.1.map ab))]⟩ ?_
 refine sr ?_
 refine ae.ck aa 7 ⟨112,[(4,.ref 4 0),(103,.own 100),(105,vl ac j7.2.Links),(107,vs aC.Code),(109,vi aC.Year)],[(4,.box (tc aj j7.1)),(100,.deep 91 5 x18.1.length [.flat,.flat,.flat,.flat,(.sl 169 5 [.flat,.flat,.flat,.flat,.flat])] (x18.1.map ab))]⟩ ?_
 obtain⟨x19,hx19,h⟩:=bind_some h
 refine ae.ls (xc AY (pf j7.2.Links aC.Code aC.Year _ hx19)) ?_
 refine ae.ls (bt (v:= .agg [.own 100,.own 110]) aa rfl) ?_
 refine bU aa 2 ⟨112,[(4,.ref 4 0),(5,vi 0)],[(4,.box [.own 100,.own 110]),(100,.deep 91 5 x18.1.length [.flat,.flat,.flat,.flat,(.sl 169 5 [.flat,.flat,.flat,.flat,.flat])] (x18.1.map ab)),(110,oa 85 4 ac x19)]⟩ ?_
 refine cW (Le.Am (d:=100) (e:=91) (m:=5) (n:=x18.1.length) (ss:=[.flat,.flat,.flat,.flat,(.sl 169 5 [.flat,.flat,.flat,.flat,.flat])]) (es:=x18.1.map ab) (by kernel_rfl) (by kernel_rfl)) ?_
 refine cW (Le.sY (d:=110) (e:=85) (m:=4) (n:=x19.length) (es:=x19.map ac) (by kernel_rfl) (by kernel_rfl)) ?_
 refine ak ?_
 obtain rfl:=inj h
 exact aD (f2 (mY rfl (dg aa (d:=4) (cs:=[vl ab x18.1,vl ac x19]) (ti:=l8) (by kernel_rfl) (by kernel_rfl) (by kernel_rfl) (by kernel_rfl))) ft)
theorem AK:a7 Tryz.prog 33:=aw Tryz.func33 (by kernel_rfl) rfl
noncomputable def gf(aW:World)(aC:Change):Option (Bool×Int):=
 ((dT aW aC).bind fun x1=>(bif(x1.2==1)then some (false,x1.2)else some ((x1.2==0),0)))
theorem nk(aW:World)(aC:Change)(r:Bool×Int)(h:gf aW aC=some r):aF Tryz.prog 9 [.v (.agg (tc aj aW)),.v (.agg (tc ah aC))] ⟨[.v (vb r.1),.v (vi r.2)],[],false⟩:=by
 refine ar Tryz.func9 rfl [(.tmp 4),(.tmp 5)] rfl (fun r=>⟨[.v (vb r.1),.v (vi r.2)],[],false⟩) (r:=r) ?_
 unfold gf at h
 refine az aa ⟨19,[(2,.ref 2 0),(3,.ref 3 0)],[(2,.box (tc aj aW)),(3,.box (tc ah aC))]⟩ ?_
 refine sr ?_
 refine ae.ck aa 2 ⟨19,[(9,.agg (tc aj aW)),(10,.agg (tc ah aC))],[]⟩ ?_
 obtain⟨x1,hx1,h⟩:=bind_some h
 refine ae.ls (xc AK (nu aW aC _ hx1)) ?_
 refine bU aa 6 ⟨19,[(7,vi x1.2)],[]⟩ ?_
 refine ai ?_
 refine az aa ⟨19,[(7,vi x1.2),(15,vb (x1.2==1))],[]⟩ ?_
 refine aq h (fun h=> ?_) fun h=> ?_
 refine az aa ⟨19,[(4,vb false),(5,vi x1.2)],[]⟩ ?_
 refine ak ?_
 obtain rfl:=inj h
 exact bS (aD (f2 fv fv))
 refine an ?_
 refine a8 ?_
 refine az aa ⟨19,[(4,vb (x1.2==0)),(5,vi 0)],[]⟩ ?_
 refine ak ?_
 obtain rfl:=inj h
 exact aD (f2 fv fv)
theorem BD:a7 Tryz.prog 9:=aw Tryz.func9 (by kernel_rfl) rfl
noncomputable def dm(aX:Int)(eZ:Int)(cP:Int):Option (Bool):=
 some ((decide (aX≥eZ))&&(decide (aX≤cP)))
theorem db(aX:Int)(eZ:Int)(cP:Int)(r:Bool)(h:dm aX eZ cP=some r):aF Tryz.prog 77 [.v (vi aX),.v (vi eZ),.v (vi cP)] ⟨[.v (vb r)],[],false⟩:=by
 refine ar Tryz.func77 rfl [(.tmp 6)] rfl (fun r=>⟨[.v (vb r)],[],false⟩) (r:=r) ?_
 unfold dm at h
 refine az aa ⟨15,[(0,vi aX),(1,vi eZ),(2,vi cP)],[]⟩ ?_
 refine ai ?_
 refine cQ ⟨15,[(6,vb ((decide (aX≥eZ))&&(decide (aX≤cP))))],[]⟩ ?_ ?_
 refine ae.ck aa 4 ⟨15,[(0,vi aX),(2,vi cP),(10,vb (decide (aX≥eZ)))],[]⟩ ?_
 generalize (decide (aX≥eZ))=bb
 cases bb
 refine ae.ck aa 5 ⟨15,[(6,vb false)],[]⟩ ?_
 exact ae.nil (Le.ao)
 refine ae.ck aa 5 ⟨15,[(6,vb (decide (aX≤cP)))],[]⟩ ?_
 exact ae.nil (Le.ao)
 refine ak ?_
 obtain rfl:=inj h
 exact aD (f1 fv)
theorem mw:a7 Tryz.prog 77:=aw Tryz.func77 (by kernel_rfl) rfl
theorem oo(s c r:ByteArray)(h:dM s c=some r):aF Tryz.prog 180 [.v (.tr (.str s)),.v (.tr (.str c))] ⟨[.v (.tr (.str r))],[],false⟩:=yr Tryz.zS (by kernel_rfl) 180 rfl s c r h
theorem zp:a7 Tryz.prog 180:=aw Tryz.func180 (by kernel_rfl) rfl
noncomputable def fH(aS:ByteArray)(mu:Int)(pB:Int):Option (Bool):=
 ((((dm (aS.size:Int) mu pB).bind fun x1=>(bif x1 then((dM aS (ByteArray.mk #[97,98,99,100,101,102,103,104,105,106,107,108,109,110,111,112,113,114,115,116,117,118,119,120,121,122])).bind fun x2=>some (x2.toList==(ByteArray.mk #[]).toList))else some false))).bind fun(j3:Bool)=>some j3)
theorem kj(aS:ByteArray)(mu:Int)(pB:Int)(r:Bool)(h:fH aS mu pB=some r):aF Tryz.prog 135 [.v (vs aS),.v (vi mu),.v (vi pB)] ⟨[.v (vb r)],[],false⟩:=by
 refine ar Tryz.func135 rfl [(.tmp 6)] rfl (fun r=>⟨[.v (vb r)],[],false⟩) (r:=r) ?_
 unfold fH at h
 refine az aa ⟨17,[(0,vs aS),(1,vi mu),(2,vi pB)],[]⟩ ?_
 refine ai ?_
 refine bk h (fun j3=>⟨17,[(6,vb j3)],[]⟩) (fun v4 h=> ?_) (fun j3 h=> ?_)
 refine ae.ck aa 4 ⟨17,[(0,vs aS),(8,vi (aS.size:Int)),(9,vi mu),(10,vi pB)],[]⟩ ?_
 obtain⟨x1,hx1,h⟩:=bind_some h
 refine ae.ls (xc mw (db (aS.size:Int) mu pB _ hx1)) ?_
 refine ae.ck aa 1 ⟨17,[(0,vs aS),(12,vb x1)],[]⟩ ?_
 refine ae.cu [(12,fun b=>b)] h (fun h=> ?_) fun h=> ?_
 refine ae.ck aa 1 ⟨17,[(12,vb true),(13,vs aS)],[]⟩ ?_
 obtain⟨x2,hx2,h⟩:=bind_some h
 refine ae.ls (xc zp (oo aS (ByteArray.mk #[97,98,99,100,101,102,103,104,105,106,107,108,109,110,111,112,113,114,115,116,117,118,119,120,121,122]) _ hx2)) ?_
 refine ae.ck aa 3 ⟨17,[(6,vb (x2.toList==(ByteArray.mk #[]).toList))],[]⟩ ?_
 refine ae.nil ?_
 obtain rfl:=inj h
 exact Le.ao
 refine ae.ck aa 5 ⟨17,[(6,vb false)],[]⟩ ?_
 refine ae.nil ?_
 obtain rfl:=inj h
 exact Le.ao
 refine ak ?_
 obtain rfl:=inj h
 exact aD (f1 fv)
theorem vt:a7 Tryz.prog 135:=aw Tryz.func135 (by kernel_rfl) rfl
noncomputable def et(aS:ByteArray):Option (Bool):=
 ((fH aS 1 16).bind fun x1=>some x1)
theorem gm(aS:ByteArray)(r:Bool)(h:et aS=some r):aF Tryz.prog 78 [.v (vs aS)] ⟨[.v (vb r)],[],false⟩:=by
 refine ar Tryz.func78 rfl [(.tmp 2)] rfl (fun r=>⟨[.v (vb r)],[],false⟩) (r:=r) ?_
 unfold et at h
 refine az aa ⟨5,[(0,vs aS)],[]⟩ ?_
 refine sr ?_
 refine ae.ck aa 1 ⟨5,[(3,vs aS)],[]⟩ ?_
 obtain⟨x1,hx1,h⟩:=bind_some h
 refine ae.ls (xc vt (kj aS 1 16 _ hx1)) ?_
 refine bU aa 1 ⟨5,[(2,vb x1)],[]⟩ ?_
 refine ak ?_
 obtain rfl:=inj h
 exact aD (f1 fv)
theorem rF:a7 Tryz.prog 78:=aw Tryz.func78 (by kernel_rfl) rfl
noncomputable def dI(ag:Int):Option (Bool):=
 ((dm ag (-3000) 3000).bind fun x1=>some x1)
theorem gn(ag:Int)(r:Bool)(h:dI ag=some r):aF Tryz.prog 193 [.v (vi ag)] ⟨[.v (vb r)],[],false⟩:=by
 refine ar Tryz.func193 rfl [(.tmp 2)] rfl (fun r=>⟨[.v (vb r)],[],false⟩) (r:=r) ?_
 unfold dI at h
 refine az aa ⟨5,[(0,vi ag)],[]⟩ ?_
 refine sr ?_
 refine ae.ck aa 1 ⟨5,[(3,vi ag)],[]⟩ ?_
 obtain⟨x1,hx1,h⟩:=bind_some h
 refine ae.ls (xc mw (db ag (-3000) 3000 _ hx1)) ?_
 refine bU aa 1 ⟨5,[(2,vb x1)],[]⟩ ?_
 refine ak ?_
 obtain rfl:=inj h
 exact aD (f1 fv)
theorem pk:a7 Tryz.prog 193:=aw Tryz.func193 (by kernel_rfl) rfl
noncomputable def fj(aS:Span):Option (Bool):=
 ((((dI aS.From).bind fun x1=>(bif x1 then((dI aS.To).bind fun x2=>(bif x2 then some (decide (aS.From≤aS.To))else some false))else some false))).bind fun(j3:Bool)=>some j3)
theorem iR(aS:Span)(r:Bool)(h:fj aS=some r):aF Tryz.prog 156 [.v (.agg (tc bc aS))] ⟨[.v (vb r)],[],false⟩:=by
 refine ar Tryz.func156 rfl [(.tmp 2)] rfl (fun r=>⟨[.v (vb r)],[],false⟩) (r:=r) ?_
 unfold fj at h
 refine az aa ⟨18,[(1,.ref 1 0)],[(1,.box (tc bc aS))]⟩ ?_
 refine ai ?_
 refine bk h (fun j3=>⟨18,[(2,vb j3)],[]⟩) (fun v4 h=> ?_) (fun j3 h=> ?_)
 refine ae.ck aa 2 ⟨18,[(1,.ref 1 0),(4,vi aS.From)],[(1,.box (tc bc aS))]⟩ ?_
 obtain⟨x1,hx1,h⟩:=bind_some h
 refine ae.ls (xc pk (gn aS.From _ hx1)) ?_
 refine ae.ck aa 1 ⟨18,[(1,.ref 1 0),(6,vb x1)],[(1,.box (tc bc aS))]⟩ ?_
 refine ae.cu [(6,fun b=>b)] h (fun h=> ?_) fun h=> ?_
 refine ae.ck aa 2 ⟨18,[(1,.ref 1 0),(6,vb true),(8,vi aS.To)],[(1,.box (tc bc aS))]⟩ ?_
 obtain⟨x2,hx2,h⟩:=bind_some h
 refine ae.ls (xc pk (gn aS.To _ hx2)) ?_
 refine ae.ck aa 2 ⟨18,[(1,.ref 1 0),(11,vb x2)],[(1,.box (tc bc aS))]⟩ ?_
 refine ae.cu [(11,fun b=>b)] h (fun h=> ?_) fun h=> ?_
 refine ae.ck aa 7 ⟨18,[(2,vb (decide (aS.From≤aS.To)))],[]⟩ ?_
 refine ae.nil ?_
 obtain rfl:=inj h
 exact Le.ao
 refine ae.ck aa 7 ⟨18,[(2,vb false)],[]⟩ ?_
 refine ae.nil ?_
 obtain rfl:=inj h
 exact Le.ao
 refine ae.ck aa 12 ⟨18,[(2,vb false)],[]⟩ ?_
 refine ae.nil ?_
 obtain rfl:=inj h
 exact Le.ao
 refine ak ?_
 obtain rfl:=inj h
 exact aD (f1 fv)
theorem rz:a7 Tryz.prog 156:=aw Tryz.func156 (by kernel_rfl) rfl
theorem nA(s c:ByteArray)(r:List ByteArray)(h:strings_Split s c=some r):aF Tryz.prog 181 [.v (.tr (.str s)),.v (.tr (.str c))] ⟨[.own 9 1 r.length (r.map eS)],[],false⟩:=wP Tryz.zR (by kernel_rfl) 181 9 rfl rfl s c r h
theorem zq:a7 Tryz.prog 181:=aw Tryz.func181 (by kernel_rfl) rfl
noncomputable def gP(aS:ByteArray):Option ((List ByteArray)):=
 ((strings_Split aS (ByteArray.mk #[32])).bind fun x1=>some x1)
theorem nO(aS:ByteArray)(r:(List ByteArray))(h:gP aS=some r):aF Tryz.prog 136 [.v (vs aS)] ⟨[.own 9 1 r.length (r.map eS)],[],false⟩:=by
 refine ar Tryz.func136 rfl [(.tmp 2)] rfl (fun r=>⟨[.own 9 1 r.length (r.map eS)],[],false⟩) (r:=r) ?_
 unfold gP at h
 refine az aa ⟨5,[(0,vs aS)],[]⟩ ?_
 refine sr ?_
 refine ae.ck aa 1 ⟨5,[(3,vs aS)],[]⟩ ?_
 obtain⟨x1,hx1,h⟩:=bind_some h
 refine ae.ls (xc zq (nA aS (ByteArray.mk #[32]) _ hx1)) ?_
 refine bU aa 1 ⟨5,[(2,.own 4)],[(4,oa 9 1 eS x1)]⟩ ?_
 refine ak ?_
 obtain rfl:=inj h
 exact aD (f1 (fo fa))
theorem y8:a7 Tryz.prog 136:=aw Tryz.func136 (by kernel_rfl) rfl
noncomputable def dQ(ad:(List ByteArray)):Option (Bool):=
 (((cY (ad.length:Int) (fun(i3:Int) (_:Unit)=>((at' ad i3).bind fun x7=>((et x7).bind fun x8=>(bif(!x8)then some (.inr (.inr false))else some (.inl ()))))) (fun(_:Unit)=> .inl ()) 0 ())).bind (Sum.elim (fun(_:Unit)=>some true) some))
theorem gM(ad:(List ByteArray))(r:Bool)(h:dQ ad=some r):aF Tryz.prog 137 [.v (vl eS ad)] ⟨[.v (vb r)],[],false⟩:=by
 refine ar Tryz.func137 rfl [(.tmp 2)] rfl (fun r=>⟨[.v (vb r)],[],false⟩) (r:=r) ?_
 unfold dQ at h
 refine az aa ⟨15,[(0,vl eS ad)],[]⟩ ?_
 refine ai ?_
 refine az aa ⟨15,[(5,vl eS ad),(6,vi (ad.length:Int)),(7,vi 0)],[]⟩ ?_
 refine bl (r:=r) h (fun j1=>⟨15,[],[]⟩) (fun v2 h=> ?_) (fun j1 h=> ?_)
 refine ax (a:=v2) ?_
 refine a6 (r:=v2) (s:=(0,())) _ (fun s3=>⟨15,[(5,vl eS ad),(6,vi (ad.length:Int)),(7,vi s3.1)],[]⟩) _ (Le.ao) h (fun s3 v4 h=> ?_)
 refine az aa ⟨15,[(5,vl eS ad),(6,vi (ad.length:Int)),(7,vi s3.1),(8,vb (decide (s3.1<(ad.length:Int))))],[]⟩ ?_
 refine ai ?_
 refine aq h (fun h=> ?_) fun h=> ?_
 refine an ?_
 refine a8 ?_
 refine ai ?_
 refine bp (r:=v4) h (fun j5=>⟨15,[(5,vl eS ad),(6,vi (ad.length:Int)),(7,vi s3.1)],[]⟩) (fun v6 h=> ?_) (fun j5 h=> ?_)
 refine ax (a:=v6) ?_
 refine sr ?_
 obtain⟨x7,hx7,h⟩:=bind_some h
 refine ae.ls (aG (L:=ad) (f:=eS) (ti:=cn) (tj:=ig) (e:=9) (k:= .i64) aa rfl hx7) ?_
 refine bU aa 2 ⟨15,[(4,vs x7),(5,vl eS ad),(6,vi (ad.length:Int)),(7,vi s3.1)],[]⟩ ?_
 refine sr ?_
 refine ae.ck aa 1 ⟨15,[(5,vl eS ad),(6,vi (ad.length:Int)),(7,vi s3.1),(11,vs x7)],[]⟩ ?_
 obtain⟨x8,hx8,h⟩:=bind_some h
 refine ae.ls (xc rF (gm x7 _ hx8)) ?_
 refine bU aa 1 ⟨15,[(5,vl eS ad),(6,vi (ad.length:Int)),(7,vi s3.1),(13,vb (!x8))],[]⟩ ?_
 refine aq h (fun h=> ?_) fun h=> ?_
 refine az aa ⟨15,[(2,vb false)],[]⟩ ?_
 refine ak ?_
 obtain rfl:=inj h
 exact bw (bi (bi (bw (bi (aD (f1 fv))))))
 refine an ?_
 obtain rfl:=inj h
 exact bY (cb (Le.ao))
 refine aE ?_
 refine ae.ck aa 2 ⟨15,[(5,vl eS ad),(6,vi (ad.length:Int)),(7,vi (aZ (s3.1+1)))],[]⟩ ?_
 refine ae.nil ?_
 obtain rfl:=inj h
 exact cb (Le.ao)
 refine aO ?_
 obtain rfl:=inj h
 exact cH (cJ (cI (cb (Le.ao))))
 refine az aa ⟨15,[(2,vb true)],[]⟩ ?_
 refine ak ?_
 obtain rfl:=inj h
 exact aD (f1 fv)
theorem ru:a7 Tryz.prog 137:=aw Tryz.func137 (by kernel_rfl) rfl
noncomputable def dP(aS:ByteArray):Option (Bool):=
 ((gP aS).bind fun x1=>(((bif(decide ((x1.length:Int)≤8))then((dQ x1).bind fun x2=>some x2)else some false)).bind fun(j3:Bool)=>some j3))
theorem gI(aS:ByteArray)(r:Bool)(h:dP aS=some r):aF Tryz.prog 81 [.v (vs aS)] ⟨[.v (vb r)],[],false⟩:=by
 refine ar Tryz.func81 rfl [(.tmp 2)] rfl (fun r=>⟨[.v (vb r)],[],false⟩) (r:=r) ?_
 unfold dP at h
 refine az aa ⟨13,[(0,vs aS)],[]⟩ ?_
 refine sr ?_
 refine ae.ck aa 1 ⟨13,[(4,vs aS)],[]⟩ ?_
 obtain⟨x1,hx1,h⟩:=bind_some h
 refine ae.ls (xc y8 (nO aS _ hx1)) ?_
 refine bU aa 1 ⟨13,[(3,.own 5)],[(5,oa 9 1 eS x1)]⟩ ?_
 refine ai ?_
 refine bk h (fun j3=>⟨13,[(2,vb j3)],[]⟩) (fun v4 h=> ?_) (fun j3 h=> ?_)
 refine ae.ck aa 4 ⟨13,[(3,.own 5),(9,vb (decide ((x1.length:Int)≤8)))],[(5,oa 9 1 eS x1)]⟩ ?_
 refine ae.cu [(9,fun b=>b)] h (fun h=> ?_) fun h=> ?_
 refine ae.ck aa 1 ⟨13,[(9,vb true),(10,.own 5)],[(5,oa 9 1 eS x1)]⟩ ?_
 obtain⟨x2,hx2,h⟩:=bind_some h
 refine ae.ls (xc ru (gM x1 _ hx2)) ?_
 refine ae.ck aa 2 ⟨13,[(2,vb x2)],[]⟩ ?_
 refine ae.nil ?_
 obtain rfl:=inj h
 exact Le.ao
 refine ae.ck aa 4 ⟨13,[(2,vb false)],[]⟩ ?_
 refine ae.nil ?_
 obtain rfl:=inj h
 exact Le.ao
 refine ak ?_
 obtain rfl:=inj h
 exact aD (f1 fv)
theorem uF:a7 Tryz.prog 81:=aw Tryz.func81 (by kernel_rfl) rfl
noncomputable def da(aS:ByteArray):Option (Bool):=
 ((fH aS 2 3).bind fun x1=>some x1)
theorem fQ(aS:ByteArray)(r:Bool)(h:da aS=some r):aF Tryz.prog 80 [.v (vs aS)] ⟨[.v (vb r)],[],false⟩:=by
 refine ar Tryz.func80 rfl [(.tmp 2)] rfl (fun r=>⟨[.v (vb r)],[],false⟩) (r:=r) ?_
 unfold da at h
 refine az aa ⟨5,[(0,vs aS)],[]⟩ ?_
 refine sr ?_
 refine ae.ck aa 1 ⟨5,[(3,vs aS)],[]⟩ ?_
 obtain⟨x1,hx1,h⟩:=bind_some h
 refine ae.ls (xc vt (kj aS 2 3 _ hx1)) ?_
 refine bU aa 1 ⟨5,[(2,vb x1)],[]⟩ ?_
 refine ak ?_
 obtain rfl:=inj h
 exact aD (f1 fv)
theorem uE:a7 Tryz.prog 80:=aw Tryz.func80 (by kernel_rfl) rfl
noncomputable def iB(aN:Name):Option (Bool):=
 ((((dP aN.Text).bind fun x1=>(bif x1 then((da aN.Language).bind fun x2=>(bif x2 then((dm aN.Status 0 2).bind fun x3=>(bif x3 then((fj aN.Years).bind fun x4=>some x4)else some false))else some false))else some false))).bind fun(j5:Bool)=>some j5)
theorem oO(aN:Name)(r:Bool)(h:iB aN=some r):aF Tryz.prog 194 [.v (.agg (tc af aN))] ⟨[.v (vb r)],[],false⟩:=by
 refine ar Tryz.func194 rfl [(.tmp 2)] rfl (fun r=>⟨[.v (vb r)],[],false⟩) (r:=r) ?_
 unfold iB at h
 refine az aa ⟨21,[(1,.ref 1 0)],[(1,.box (tc af aN))]⟩ ?_
 refine ai ?_
 refine bk h (fun j5=>⟨21,[(2,vb j5)],[]⟩) (fun v6 h=> ?_) (fun j5 h=> ?_)
 refine ae.ck aa 2 ⟨21,[(1,.ref 1 0),(4,vs aN.Text)],[(1,.box (tc af aN))]⟩ ?_
 obtain⟨x1,hx1,h⟩:=bind_some h
 refine ae.ls (xc uF (gI aN.Text _ hx1)) ?_
 refine ae.ck aa 1 ⟨21,[(1,.ref 1 0),(6,vb x1)],[(1,.box (tc af aN))]⟩ ?_
 refine ae.cu [(6,fun b=>b)] h (fun h=> ?_) fun h=> ?_
 refine ae.ck aa 2 ⟨21,[(1,.ref 1 0),(6,vb true),(8,vs aN.Language)],[(1,.box (tc af aN))]⟩ ?_
 obtain⟨x2,hx2,h⟩:=bind_some h
 refine ae.ls (xc uE (fQ aN.Language _ hx2)) ?_
 refine ae.ck aa 2 ⟨21,[(1,.ref 1 0),(11,vb x2)],[(1,.box (tc af aN))]⟩ ?_
 refine ae.cu [(11,fun b=>b)] h (fun h=> ?_) fun h=> ?_
 refine ae.ck aa 2 ⟨21,[(1,.ref 1 0),(11,vb true),(13,vi aN.Status)],[(1,.box (tc af aN))]⟩ ?_
 obtain⟨x3,hx3,h⟩:=bind_some h
 refine ae.ls (xc mw (db aN.Status 0 2 _ hx3)) ?_
 refine ae.ck aa 2 ⟨21,[(1,.ref 1 0),(16,vb x3)],[(1,.box (tc af aN))]⟩ ?_
 refine ae.cu [(16,fun b=>b)] h (fun h=> ?_) fun h=> ?_
 refine ae.ck aa 2 ⟨21,[(16,vb true),(18,.agg (tc bc aN.Years))],[]⟩ ?_
 obtain⟨x4,hx4,h⟩:=bind_some h
 refine ae.ls (xc rz (iR aN.Years _ hx4)) ?_
 refine ae.ck aa 2 ⟨21,[(2,vb x4)],[]⟩ ?_
 refine ae.nil ?_
 obtain rfl:=inj h
 exact Le.ao
 refine ae.ck aa 5 ⟨21,[(2,vb false)],[]⟩ ?_
 refine ae.nil ?_
 obtain rfl:=inj h
 exact Le.ao
 refine ae.ck aa 10 ⟨21,[(2,vb false)],[]⟩ ?_
 refine ae.nil ?_
 obtain rfl:=inj h
 exact Le.ao
 refine ae.ck aa 15 ⟨21,[(2,vb false)],[]⟩ ?_
 refine ae.nil ?_
 obtain rfl:=inj h
 exact Le.ao
 refine ak ?_
 obtain rfl:=inj h
 exact aD (f1 fv)
theorem zy:a7 Tryz.prog 194:=aw Tryz.func194 (by kernel_rfl) rfl
noncomputable def cA(aN:Name)(ay:ByteArray):Option (Bool):=
 some ((aN.Status==0)&&(aN.Language.toList==ay.toList))
theorem fU(aN:Name)(ay:ByteArray)(r:Bool)(h:cA aN ay=some r):aF Tryz.prog 196 [.v (.agg (tc af aN)),.v (vs ay)] ⟨[.v (vb r)],[],false⟩:=by
 refine ar Tryz.func196 rfl [(.tmp 4)] rfl (fun r=>⟨[.v (vb r)],[],false⟩) (r:=r) ?_
 unfold cA at h
 refine az aa ⟨14,[(1,vs ay),(2,.ref 2 0)],[(2,.box (tc af aN))]⟩ ?_
 refine ai ?_
 refine cQ ⟨14,[(4,vb ((aN.Status==0)&&(aN.Language.toList==ay.toList)))],[]⟩ ?_ ?_
 refine ae.ck aa 4 ⟨14,[(1,vs ay),(2,.ref 2 0),(8,vb (aN.Status==0))],[(2,.box (tc af aN))]⟩ ?_
 generalize (aN.Status==0)=bb
 cases bb
 refine ae.ck aa 6 ⟨14,[(4,vb false)],[]⟩ ?_
 exact ae.nil (Le.ao)
 refine ae.ck aa 6 ⟨14,[(4,vb (aN.Language.toList==ay.toList))],[]⟩ ?_
 exact ae.nil (Le.ao)
 refine ak ?_
 obtain rfl:=inj h
 exact aD (f1 fv)
theorem vB:a7 Tryz.prog 196:=aw Tryz.func196 (by kernel_rfl) rfl
noncomputable def dC(aS:Span)(aT:Span):Option (Bool):=
 some ((decide (aS.From≤aT.To))&&(decide (aT.From≤aS.To)))
theorem iW(aS:Span)(aT:Span)(r:Bool)(h:dC aS aT=some r):aF Tryz.prog 107 [.v (.agg (tc bc aS)),.v (.agg (tc bc aT))] ⟨[.v (vb r)],[],false⟩:=by
 refine ar Tryz.func107 rfl [(.tmp 4)] rfl (fun r=>⟨[.v (vb r)],[],false⟩) (r:=r) ?_
 unfold dC at h
 refine az aa ⟨17,[(2,.ref 2 0),(3,.ref 3 0)],[(2,.box (tc bc aS)),(3,.box (tc bc aT))]⟩ ?_
 refine ai ?_
 refine cQ ⟨17,[(4,vb ((decide (aS.From≤aT.To))&&(decide (aT.From≤aS.To))))],[]⟩ ?_ ?_
 refine ae.ck aa 6 ⟨17,[(2,.ref 2 0),(3,.ref 3 0),(10,vb (decide (aS.From≤aT.To)))],[(2,.box (tc bc aS)),(3,.box (tc bc aT))]⟩ ?_
 generalize (decide (aS.From≤aT.To))=bb
 cases bb
 refine ae.ck aa 7 ⟨17,[(4,vb false)],[]⟩ ?_
 exact ae.nil (Le.ao)
 refine ae.ck aa 7 ⟨17,[(4,vb (decide (aT.From≤aS.To)))],[]⟩ ?_
 exact ae.nil (Le.ao)
 refine ak ?_
 obtain rfl:=inj h
 exact aD (f1 fv)
theorem vo:a7 Tryz.prog 107:=aw Tryz.func107 (by kernel_rfl) rfl
noncomputable def gl(aM:Name)(c0:Name):Option (Bool):=
 ((((cA aM c0.Language).bind fun x1=>(bif x1 then((dC aM.Years c0.Years).bind fun x2=>some x2)else some false))).bind fun(j3:Bool)=>some j3)
theorem lU(aM:Name)(c0:Name)(r:Bool)(h:gl aM c0=some r):aF Tryz.prog 195 [.v (.agg (tc af aM)),.v (.ptr [vs c0.Text,vs c0.Language,vi c0.Status,vi c0.Years.From,vi c0.Years.To] 0)] ⟨[.v (vb r)],[],false⟩:=by
 refine ar Tryz.func195 rfl [(.tmp 3)] rfl (fun r=>⟨[.v (vb r)],[],false⟩) (r:=r) ?_
 unfold gl at h
 refine az aa ⟨15,[(1,.ptr [vs c0.Text,vs c0.Language,vi c0.Status,vi c0.Years.From,vi c0.Years.To] 0),(2,.ref 2 0)],[(2,.box (tc af aM))]⟩ ?_
 refine ai ?_
 refine bk h (fun j3=>⟨15,[(3,vb j3)],[]⟩) (fun v4 h=> ?_) (fun j3 h=> ?_)
 refine ae.ck aa 3 ⟨15,[(1,.ptr [vs c0.Text,vs c0.Language,vi c0.Status,vi c0.Years.From,vi c0.Years.To] 0),(2,.ref 2 0),(4,.agg (tc af aM)),(6,vs c0.Language)],[(2,.box (tc af aM))]⟩ ?_
 obtain⟨x1,hx1,h⟩:=bind_some h
 refine ae.ls (xc vB (fU aM c0.Language _ hx1)) ?_
 refine ae.ck aa 1 ⟨15,[(1,.ptr [vs c0.Text,vs c0.Language,vi c0.Status,vi c0.Years.From,vi c0.Years.To] 0),(2,.ref 2 0),(8,vb x1)],[(2,.box (tc af aM))]⟩ ?_
 refine ae.cu [(8,fun b=>b)] h (fun h=> ?_) fun h=> ?_
 refine ae.ck aa 4 ⟨15,[(8,vb true),(10,.agg (tc bc aM.Years)),(12,.agg (tc bc c0.Years))],[]⟩ ?_
 obtain⟨x2,hx2,h⟩:=bind_some h
 refine ae.ls (xc vo (iW aM.Years c0.Years _ hx2)) ?_
 refine ae.ck aa 2 ⟨15,[(3,vb x2)],[]⟩ ?_
 refine ae.nil ?_
 obtain rfl:=inj h
 exact Le.ao
 refine ae.ck aa 7 ⟨15,[(3,vb false)],[]⟩ ?_
 refine ae.nil ?_
 obtain rfl:=inj h
 exact Le.ao
 refine ak ?_
 obtain rfl:=inj h
 exact aD (f1 fv)
theorem zz:a7 Tryz.prog 195:=aw Tryz.func195 (by kernel_rfl) rfl
noncomputable def bO(aS:(List Name))(aU:Name):Option (Int):=
 (((cY (aS.length:Int) (fun(i3:Int) (_:Unit)=>((at' aS i3).bind fun x7=>((gl x7 aU).bind fun x8=>(bif x8 then some (.inr (.inr i3))else some (.inl ()))))) (fun(_:Unit)=> .inl ()) 0 ())).bind (Sum.elim (fun(_:Unit)=>some (-1)) some))
theorem eP(aS:(List Name))(aU:Name)(r:Int)(h:bO aS aU=some r):aF Tryz.prog 197 [.v (vl af aS),.v (.clo 195 [.ptr [vs aU.Text,vs aU.Language,vi aU.Status,vi aU.Years.From,vi aU.Years.To] 0])] ⟨[.v (vi r)],[],false⟩:=by
 refine ar Tryz.func197 rfl [(.tmp 4)] rfl (fun r=>⟨[.v (vi r)],[],false⟩) (r:=r) ?_
 unfold bO at h
 refine az aa ⟨19,[(0,vl af aS),(1,.clo 195 [.ptr [vs aU.Text,vs aU.Language,vi aU.Status,vi aU.Years.From,vi aU.Years.To] 0])],[]⟩ ?_
 refine ai ?_
 refine az aa ⟨19,[(0,vl af aS),(1,.clo 195 [.ptr [vs aU.Text,vs aU.Language,vi aU.Status,vi aU.Years.From,vi aU.Years.To] 0]),(7,vi (aS.length:Int)),(8,vi 0)],[]⟩ ?_
 refine bl (r:=r) h (fun j1=>⟨19,[],[]⟩) (fun v2 h=> ?_) (fun j1 h=> ?_)
 refine ax (a:=v2) ?_
 refine a6 (r:=v2) (s:=(0,())) _ (fun s3=>⟨19,[(0,vl af aS),(1,.clo 195 [.ptr [vs aU.Text,vs aU.Language,vi aU.Status,vi aU.Years.From,vi aU.Years.To] 0]),(7,vi (aS.length:Int)),(8,vi s3.1)],[]⟩) _ (Le.ao) h (fun s3 v4 h=> ?_)
 refine az aa ⟨19,[(0,vl af aS),(1,.clo 195 [.ptr [vs aU.Text,vs aU.Language,vi aU.Status,vi aU.Years.From,vi aU.Years.To] 0]),(7,vi (aS.length:Int)),(8,vi s3.1),(9,vb (decide (s3.1<(aS.length:Int))))],[]⟩ ?_
 refine ai ?_
 refine aq h (fun h=> ?_) fun h=> ?_
 refine an ?_
 refine a8 ?_
 refine ai ?_
 refine bp (r:=v4) h (fun j5=>⟨19,[(0,vl af aS),(1,.clo 195 [.ptr [vs aU.Text,vs aU.Language,vi aU.Status,vi aU.Years.From,vi aU.Years.To] 0]),(7,vi (aS.length:Int)),(8,vi s3.1)],[]⟩) (fun v6 h=> ?_) (fun j5 h=> ?_)
 refine ax (a:=v6) ?_
 refine az aa ⟨19,[(0,vl af aS),(1,.clo 195 [.ptr [vs aU.Text,vs aU.Language,vi aU.Status,vi aU.Years.From,vi aU.Years.To] 0]),(5,vi s3.1),(7,vi (aS.length:Int)),(8,vi s3.1)],[]⟩ ?_
 refine sr ?_
 refine ae.ck aa 3 ⟨19,[(0,vl af aS),(1,.clo 195 [.ptr [vs aU.Text,vs aU.Language,vi aU.Status,vi aU.Years.From,vi aU.Years.To] 0]),(5,vi s3.1),(7,vi (aS.length:Int)),(8,vi s3.1),(11,.clo 195 [.ptr [vs aU.Text,vs aU.Language,vi aU.Status,vi aU.Years.From,vi aU.Years.To] 0]),(12,vl af aS),(13,vi s3.1)],[]⟩ ?_
 obtain⟨x7,hx7,h⟩:=bind_some h
 refine ae.ls (aG (L:=aS) (f:=af) (ti:=ej) (tj:=dq) (e:=169) (k:= .i64) aa rfl hx7) ?_
 refine ae.ck aa 1 ⟨19,[(0,vl af aS),(1,.clo 195 [.ptr [vs aU.Text,vs aU.Language,vi aU.Status,vi aU.Years.From,vi aU.Years.To] 0]),(5,vi s3.1),(7,vi (aS.length:Int)),(8,vi s3.1),(11,.clo 195 [.ptr [vs aU.Text,vs aU.Language,vi aU.Status,vi aU.Years.From,vi aU.Years.To] 0]),(15,.agg (tc af x7))],[]⟩ ?_
 obtain⟨x8,hx8,h⟩:=bind_some h
 refine ae.ls (xc zz (lU x7 aU _ hx8)) ?_
 refine ae.nx ?_
 refine aq h (fun h=> ?_) fun h=> ?_
 refine az aa ⟨19,[(4,vi s3.1)],[]⟩ ?_
 refine ak ?_
 obtain rfl:=inj h
 exact bw (bi (bi (bw (bi (aD (f1 fv))))))
 refine an ?_
 obtain rfl:=inj h
 exact bY (cb (Le.ao))
 refine aE ?_
 refine ae.ck aa 2 ⟨19,[(0,vl af aS),(1,.clo 195 [.ptr [vs aU.Text,vs aU.Language,vi aU.Status,vi aU.Years.From,vi aU.Years.To] 0]),(7,vi (aS.length:Int)),(8,vi (aZ (s3.1+1)))],[]⟩ ?_
 refine ae.nil ?_
 obtain rfl:=inj h
 exact cb (Le.ao)
 refine aO ?_
 obtain rfl:=inj h
 exact cH (cJ (cI (cb (Le.ao))))
 refine az aa ⟨19,[(4,vi (-1))],[]⟩ ?_
 refine ak ?_
 obtain rfl:=inj h
 exact aD (f1 fv)
theorem rE:a7 Tryz.prog 197:=aw Tryz.func197 (by kernel_rfl) rfl
noncomputable def bD(aS:(List Name))(aU:Name):Option (Bool):=
 ((bO aS aU).bind fun x1=>some (decide (x1≥0)))
theorem ee(aS:(List Name))(aU:Name)(r:Bool)(h:bD aS aU=some r):aF Tryz.prog 158 [.v (vl af aS),.v (.clo 195 [.ptr [vs aU.Text,vs aU.Language,vi aU.Status,vi aU.Years.From,vi aU.Years.To] 0])] ⟨[.v (vb r)],[],false⟩:=by
 refine ar Tryz.func158 rfl [(.tmp 4)] rfl (fun r=>⟨[.v (vb r)],[],false⟩) (r:=r) ?_
 unfold bD at h
 refine az aa ⟨9,[(0,vl af aS),(1,.clo 195 [.ptr [vs aU.Text,vs aU.Language,vi aU.Status,vi aU.Years.From,vi aU.Years.To] 0])],[]⟩ ?_
 refine sr ?_
 refine ae.ck aa 2 ⟨9,[(5,vl af aS),(6,.clo 195 [.ptr [vs aU.Text,vs aU.Language,vi aU.Status,vi aU.Years.From,vi aU.Years.To] 0])],[]⟩ ?_
 obtain⟨x1,hx1,h⟩:=bind_some h
 refine ae.ls (xc rE (eP aS aU _ hx1)) ?_
 refine bU aa 2 ⟨9,[(4,vb (decide (x1≥0)))],[]⟩ ?_
 refine ak ?_
 obtain rfl:=inj h
 exact aD (f1 fv)
theorem vw:a7 Tryz.prog 158:=aw Tryz.func158 (by kernel_rfl) rfl
noncomputable def eT(ad:(List Name)):Option (Bool):=
 (((cY (ad.length:Int) (fun(i3:Int) (_:Unit)=>((at' ad i3).bind fun x7=>((iB x7).bind fun x8=>(bif(!x8)then some (.inr (.inr false))else((mh ad 0 i3).bind fun x9=>((bD x9 x7).bind fun x10=>(bif((x7.Status==0)&&x10)then some (.inr (.inr false))else some (.inl ())))))))) (fun(_:Unit)=> .inl ()) 0 ())).bind (Sum.elim (fun(_:Unit)=>some (decide ((ad.length:Int)≤12))) some))
theorem jJ(ad:(List Name))(r:Bool)(h:eT ad=some r):aF Tryz.prog 157 [.v (vl af ad)] ⟨[.v (vb r)],[],false⟩:=by
 refine ar Tryz.func157 rfl [(.tmp 2)] rfl (fun r=>⟨[.v (vb r)],[],false⟩) (r:=r) ?_
 unfold eT at h
 refine az aa ⟨31,[(0,vl af ad)],[]⟩ ?_
 refine ai ?_
 refine az aa ⟨31,[(0,vl af ad),(6,vl af ad),(7,vi (ad.length:Int)),(8,vi 0)],[]⟩ ?_
 refine bl (r:=r) h (fun j1=>⟨31,[(0,vl af ad)],[]⟩) (fun v2 h=> ?_) (fun j1 h=> ?_)
 refine ax (a:=v2) ?_
 refine a6 (r:=v2) (s:=(0,())) _ (fun s3=>⟨31,[(0,vl af ad),(6,vl af ad),(7,vi (ad.length:Int)),(8,vi s3.1)],[]⟩) _ (Le.ao) h (fun s3 v4 h=> ?_)
 refine az aa ⟨31,[(0,vl af ad),(6,vl af ad),(7,vi (ad.length:Int)),(8,vi s3.1),(9,vb (decide (s3.1<(ad.length:Int))))],[]⟩ ?_
 refine ai ?_
 refine aq h (fun h=> ?_) fun h=> ?_
 refine an ?_
 refine a8 ?_
 refine ai ?_
 refine bp (r:=v4) h (fun j5=>⟨31,[(0,vl af ad),(6,vl af ad),(7,vi (ad.length:Int)),(8,vi s3.1)],[]⟩) (fun v6 h=> ?_) (fun j5 h=> ?_)
 refine ax (a:=v6) ?_
 refine sr ?_
 refine ae.ck aa 1 ⟨31,[(0,vl af ad),(6,vl af ad),(7,vi (ad.length:Int)),(8,vi s3.1),(10,vi s3.1)],[]⟩ ?_
 obtain⟨x7,hx7,h⟩:=bind_some h
 refine ae.ls (aG (L:=ad) (f:=af) (ti:=ej) (tj:=dq) (e:=169) (k:= .i64) aa rfl hx7) ?_
 refine bU aa 4 ⟨31,[(0,vl af ad),(3,vi s3.1),(4,.ref 4 0),(6,vl af ad),(7,vi (ad.length:Int)),(8,vi s3.1)],[(4,.box (tc af x7))]⟩ ?_
 refine ai ?_
 refine sr ?_
 refine ae.ck aa 1 ⟨31,[(0,vl af ad),(3,vi s3.1),(4,.ref 4 0),(6,vl af ad),(7,vi (ad.length:Int)),(8,vi s3.1),(13,.agg (tc af x7))],[(4,.box (tc af x7))]⟩ ?_
 obtain⟨x8,hx8,h⟩:=bind_some h
 refine ae.ls (xc zy (oO x7 _ hx8)) ?_
 refine bU aa 1 ⟨31,[(0,vl af ad),(3,vi s3.1),(4,.ref 4 0),(6,vl af ad),(7,vi (ad.length:Int)),(8,vi s3.1),(15,vb (!x8))],[(4,.box (tc af x7))]⟩ ?_
 refine aq h (fun h=> ?_) fun h=> ?_
 refine az aa ⟨31,[(2,vb false)],[]⟩ ?_
 refine ak ?_
 obtain rfl:=inj h
 exact bS (bw (bi (bi (bw (bi (aD (f1 fv)))))))
 refine an ?_
 refine a8 ?_
 refine sr ?_
 refine ae.ck aa 2 ⟨31,[(0,vl af ad),(4,.ref 4 0),(6,vl af ad),(7,vi (ad.length:Int)),(8,vi s3.1),(16,vl af ad),(17,vi s3.1)],[(4,.box (tc af x7))]⟩ ?_
 obtain⟨x9,hx9,h⟩:=bind_some h
 refine ae.ls (c4 (m:=5) (f:=af) (ti:=ej) (tj:=dq) (e:=169) hx9 (fun _=>rfl) aa rfl) ?_
 refine ae.ck aa 1 ⟨31,[(0,vl af ad),(4,.ref 4 0),(6,vl af ad),(7,vi (ad.length:Int)),(8,vi s3.1),(18,vl af x9),(19,.clo 195 [.ref 4 0])],[(4,.box (tc af x7))]⟩ ?_
 obtain⟨x10,hx10,h⟩:=bind_some h
 refine ae.ls (xc vw (ee x9 x7 _ hx10)) ?_
 refine bU aa 1 ⟨31,[(0,vl af ad),(4,.ref 4 0),(5,vb x10),(6,vl af ad),(7,vi (ad.length:Int)),(8,vi s3.1)],[(4,.box (tc af x7))]⟩ ?_
 refine ai ?_
 refine cQ ⟨31,[(0,vl af ad),(6,vl af ad),(7,vi (ad.length:Int)),(8,vi s3.1),(26,vb ((x7.Status==0)&&x10))],[]⟩ ?_ ?_
 refine ae.ck aa 4 ⟨31,[(0,vl af ad),(5,vb x10),(6,vl af ad),(7,vi (ad.length:Int)),(8,vi s3.1),(24,vb (x7.Status==0))],[]⟩ ?_
 generalize (x7.Status==0)=bb
 cases bb
 refine ae.ck aa 2 ⟨31,[(0,vl af ad),(6,vl af ad),(7,vi (ad.length:Int)),(8,vi s3.1),(26,vb false)],[]⟩ ?_
 exact ae.nil (Le.ao)
 refine ae.ck aa 2 ⟨31,[(0,vl af ad),(6,vl af ad),(7,vi (ad.length:Int)),(8,vi s3.1),(26,vb x10)],[]⟩ ?_
 exact ae.nil (Le.ao)
 refine aq h (fun h=> ?_) fun h=> ?_
 refine az aa ⟨31,[(2,vb false)],[]⟩ ?_
 refine ak ?_
 obtain rfl:=inj h
 exact bw (bi (bi (bw (bi (aD (f1 fv))))))
 refine an ?_
 obtain rfl:=inj h
 exact bY (cb (Le.ao))
 refine aE ?_
 refine ae.ck aa 2 ⟨31,[(0,vl af ad),(6,vl af ad),(7,vi (ad.length:Int)),(8,vi (aZ (s3.1+1)))],[]⟩ ?_
 refine ae.nil ?_
 obtain rfl:=inj h
 exact cb (Le.ao)
 refine aO ?_
 obtain rfl:=inj h
 exact cH (cJ (cI (cb (Le.ao))))
 refine az aa ⟨31,[(2,vb (decide ((ad.length:Int)≤12)))],[]⟩ ?_
 refine ak ?_
 obtain rfl:=inj h
 exact aD (f1 fv)
theorem vv:a7 Tryz.prog 157:=aw Tryz.func157 (by kernel_rfl) rfl
noncomputable def dZ(aS:Span)(aT:Span):Option (Bool):=
 some ((decide (aT.From≤aS.From))&&(decide (aS.To≤aT.To)))
theorem jt(aS:Span)(aT:Span)(r:Bool)(h:dZ aS aT=some r):aF Tryz.prog 111 [.v (.agg (tc bc aS)),.v (.agg (tc bc aT))] ⟨[.v (vb r)],[],false⟩:=by
 refine ar Tryz.func111 rfl [(.tmp 4)] rfl (fun r=>⟨[.v (vb r)],[],false⟩) (r:=r) ?_
 unfold dZ at h
 refine az aa ⟨17,[(2,.ref 2 0),(3,.ref 3 0)],[(2,.box (tc bc aS)),(3,.box (tc bc aT))]⟩ ?_
 refine ai ?_
 refine cQ ⟨17,[(4,vb ((decide (aT.From≤aS.From))&&(decide (aS.To≤aT.To))))],[]⟩ ?_ ?_
 refine ae.ck aa 6 ⟨17,[(2,.ref 2 0),(3,.ref 3 0),(10,vb (decide (aT.From≤aS.From)))],[(2,.box (tc bc aS)),(3,.box (tc bc aT))]⟩ ?_
 generalize (decide (aT.From≤aS.From))=bb
 cases bb
 refine ae.ck aa 7 ⟨17,[(4,vb false)],[]⟩ ?_
 exact ae.nil (Le.ao)
 refine ae.ck aa 7 ⟨17,[(4,vb (decide (aS.To≤aT.To)))],[]⟩ ?_
 exact ae.nil (Le.ao)
 refine ak ?_
 obtain rfl:=inj h
 exact aD (f1 fv)
theorem vp:a7 Tryz.prog 111:=aw Tryz.func111 (by kernel_rfl) rfl
noncomputable def gK(aN:Name)(c0:Place):Option (Bool):=
 ((dZ aN.Years c0.Years).bind fun x1=>some (!x1))
theorem mx(aN:Name)(c0:Place)(r:Bool)(h:gK aN c0=some r):aF Tryz.prog 159 [.v (.agg (tc af aN)),.v (.ptr [vs c0.Code,vi c0.Class,vi c0.Years.From,vi c0.Years.To,vl af c0.Names] 0)] ⟨[.v (vb r)],[],false⟩:=by
 refine ar Tryz.func159 rfl [(.tmp 3)] rfl (fun r=>⟨[.v (vb r)],[],false⟩) (r:=r) ?_
 unfold gK at h
 refine az aa ⟨10,[(1,.ptr [vs c0.Code,vi c0.Class,vi c0.Years.From,vi c0.Years.To,vl af c0.Names] 0),(2,.ref 2 0)],[(2,.box (tc af aN))]⟩ ?_
 refine sr ?_
 refine ae.ck aa 4 ⟨10,[(5,.agg (tc bc aN.Years)),(7,.agg (tc bc c0.Years))],[]⟩ ?_
 obtain⟨x1,hx1,h⟩:=bind_some h
 refine ae.ls (xc vp (jt aN.Years c0.Years _ hx1)) ?_
 refine bU aa 2 ⟨10,[(3,vb (!x1))],[]⟩ ?_
 refine ak ?_
 obtain rfl:=inj h
 exact aD (f1 fv)
theorem zf:a7 Tryz.prog 159:=aw Tryz.func159 (by kernel_rfl) rfl
noncomputable def bQ(aS:(List Name))(aU:Place):Option (Int):=
 (((cY (aS.length:Int) (fun(i3:Int) (_:Unit)=>((at' aS i3).bind fun x7=>((gK x7 aU).bind fun x8=>(bif x8 then some (.inr (.inr i3))else some (.inl ()))))) (fun(_:Unit)=> .inl ()) 0 ())).bind (Sum.elim (fun(_:Unit)=>some (-1)) some))
theorem e8(aS:(List Name))(aU:Place)(r:Int)(h:bQ aS aU=some r):aF Tryz.prog 197 [.v (vl af aS),.v (.clo 159 [.ptr [vs aU.Code,vi aU.Class,vi aU.Years.From,vi aU.Years.To,vl af aU.Names] 0])] ⟨[.v (vi r)],[],false⟩:=by
 refine ar Tryz.func197 rfl [(.tmp 4)] rfl (fun r=>⟨[.v (vi r)],[],false⟩) (r:=r) ?_
 unfold bQ at h
 refine az aa ⟨19,[(0,vl af aS),(1,.clo 159 [.ptr [vs aU.Code,vi aU.Class,vi aU.Years.From,vi aU.Years.To,vl af aU.Names] 0])],[]⟩ ?_
 refine ai ?_
 refine az aa ⟨19,[(0,vl af aS),(1,.clo 159 [.ptr [vs aU.Code,vi aU.Class,vi aU.Years.From,vi aU.Years.To,vl af aU.Names] 0]),(7,vi (aS.length:Int)),(8,vi 0)],[]⟩ ?_
 refine bl (r:=r) h (fun j1=>⟨19,[],[]⟩) (fun v2 h=> ?_) (fun j1 h=> ?_)
 refine ax (a:=v2) ?_
 refine a6 (r:=v2) (s:=(0,())) _ (fun s3=>⟨19,[(0,vl af aS),(1,.clo 159 [.ptr [vs aU.Code,vi aU.Class,vi aU.Years.From,vi aU.Years.To,vl af aU.Names] 0]),(7,vi (aS.length:Int)),(8,vi s3.1)],[]⟩) _ (Le.ao) h (fun s3 v4 h=> ?_)
 refine az aa ⟨19,[(0,vl af aS),(1,.clo 159 [.ptr [vs aU.Code,vi aU.Class,vi aU.Years.From,vi aU.Years.To,vl af aU.Names] 0]),(7,vi (aS.length:Int)),(8,vi s3.1),(9,vb (decide (s3.1<(aS.length:Int))))],[]⟩ ?_
 refine ai ?_
 refine aq h (fun h=> ?_) fun h=> ?_
 refine an ?_
 refine a8 ?_
 refine ai ?_
 refine bp (r:=v4) h (fun j5=>⟨19,[(0,vl af aS),(1,.clo 159 [.ptr [vs aU.Code,vi aU.Class,vi aU.Years.From,vi aU.Years.To,vl af aU.Names] 0]),(7,vi (aS.length:Int)),(8,vi s3.1)],[]⟩) (fun v6 h=> ?_) (fun j5 h=> ?_)
 refine ax (a:=v6) ?_
 refine az aa ⟨19,[(0,vl af aS),(1,.clo 159 [.ptr [vs aU.Code,vi aU.Class,vi aU.Years.From,vi aU.Years.To,vl af aU.Names] 0]),(5,vi s3.1),(7,vi (aS.length:Int)),(8,vi s3.1)],[]⟩ ?_
 refine sr ?_
 refine ae.ck aa 3 ⟨19,[(0,vl af aS),(1,.clo 159 [.ptr [vs aU.Code,vi aU.Class,vi aU.Years.From,vi aU.Years.To,vl af aU.Names] 0]),(5,vi s3.1),(7,vi (aS.length:Int)),(8,vi s3.1),(11,.clo 159 [.ptr [vs aU.Code,vi aU.Class,vi aU.Years.From,vi aU.Years.To,vl af aU.Names] 0]),(12,vl af aS),(13,vi s3.1)],[]⟩ ?_
 obtain⟨x7,hx7,h⟩:=bind_some h
 refine ae.ls (aG (L:=aS) (f:=af) (ti:=ej) (tj:=dq) (e:=169) (k:= .i64) aa rfl hx7) ?_
 refine ae.ck aa 1 ⟨19,[(0,vl af aS),(1,.clo 159 [.ptr [vs aU.Code,vi aU.Class,vi aU.Years.From,vi aU.Years.To,vl af aU.Names] 0]),(5,vi s3.1),(7,vi (aS.length:Int)),(8,vi s3.1),(11,.clo 159 [.ptr [vs aU.Code,vi aU.Class,vi aU.Years.From,vi aU.Years.To,vl af aU.Names] 0]),(15,.agg (tc af x7))],[]⟩ ?_
 obtain⟨x8,hx8,h⟩:=bind_some h
 refine ae.ls (xc zf (mx x7 aU _ hx8)) ?_
 refine ae.nx ?_
 refine aq h (fun h=> ?_) fun h=> ?_
 refine az aa ⟨19,[(4,vi s3.1)],[]⟩ ?_
 refine ak ?_
 obtain rfl:=inj h
 exact bw (bi (bi (bw (bi (aD (f1 fv))))))
 refine an ?_
 obtain rfl:=inj h
 exact bY (cb (Le.ao))
 refine aE ?_
 refine ae.ck aa 2 ⟨19,[(0,vl af aS),(1,.clo 159 [.ptr [vs aU.Code,vi aU.Class,vi aU.Years.From,vi aU.Years.To,vl af aU.Names] 0]),(7,vi (aS.length:Int)),(8,vi (aZ (s3.1+1)))],[]⟩ ?_
 refine ae.nil ?_
 obtain rfl:=inj h
 exact cb (Le.ao)
 refine aO ?_
 obtain rfl:=inj h
 exact cH (cJ (cI (cb (Le.ao))))
 refine az aa ⟨19,[(4,vi (-1))],[]⟩ ?_
 refine ak ?_
 obtain rfl:=inj h
 exact aD (f1 fv)
noncomputable def bI(aS:(List Name))(aU:Place):Option (Bool):=
 ((bQ aS aU).bind fun x1=>some (decide (x1≥0)))
theorem ep(aS:(List Name))(aU:Place)(r:Bool)(h:bI aS aU=some r):aF Tryz.prog 158 [.v (vl af aS),.v (.clo 159 [.ptr [vs aU.Code,vi aU.Class,vi aU.Years.From,vi aU.Years.To,vl af aU.Names] 0])] ⟨[.v (vb r)],[],false⟩:=by
 refine ar Tryz.func158 rfl [(.tmp 4)] rfl (fun r=>⟨[.v (vb r)],[],false⟩) (r:=r) ?_
 unfold bI at h
 refine az aa ⟨9,[(0,vl af aS),(1,.clo 159 [.ptr [vs aU.Code,vi aU.Class,vi aU.Years.From,vi aU.Years.To,vl af aU.Names] 0])],[]⟩ ?_
 refine sr ?_
 refine ae.ck aa 2 ⟨9,[(5,vl af aS),(6,.clo 159 [.ptr [vs aU.Code,vi aU.Class,vi aU.Years.From,vi aU.Years.To,vl af aU.Names] 0])],[]⟩ ?_
 obtain⟨x1,hx1,h⟩:=bind_some h
 refine ae.ls (xc rE (e8 aS aU _ hx1)) ?_
 refine bU aa 2 ⟨9,[(4,vb (decide (x1≥0)))],[]⟩ ?_
 refine ak ?_
 obtain rfl:=inj h
 exact aD (f1 fv)
noncomputable def gJ(aP:Place):Option (Bool):=
 ((((et aP.Code).bind fun x1=>(bif x1 then((dm aP.Class 0 19).bind fun x2=>(bif x2 then((fj aP.Years).bind fun x3=>(bif x3 then((eT aP.Names).bind fun x4=>(bif x4 then((bI aP.Names aP).bind fun x5=>some (!x5))else some false))else some false))else some false))else some false))).bind fun(j6:Bool)=>some j6)
theorem nL(aP:Place)(r:Bool)(h:gJ aP=some r):aF Tryz.prog 104 [.v (.agg (tc ab aP))] ⟨[.v (vb r)],[],false⟩:=by
 refine ar Tryz.func104 rfl [(.tmp 2)] rfl (fun r=>⟨[.v (vb r)],[],false⟩) (r:=r) ?_
 unfold gJ at h
 refine az aa ⟨28,[(1,.ref 1 0)],[(1,.box (tc ab aP))]⟩ ?_
 refine ai ?_
 refine bk h (fun j6=>⟨28,[(2,vb j6)],[]⟩) (fun v7 h=> ?_) (fun j6 h=> ?_)
 refine ae.ck aa 2 ⟨28,[(1,.ref 1 0),(4,vs aP.Code)],[(1,.box (tc ab aP))]⟩ ?_
 obtain⟨x1,hx1,h⟩:=bind_some h
 refine ae.ls (xc rF (gm aP.Code _ hx1)) ?_
 refine ae.ck aa 1 ⟨28,[(1,.ref 1 0),(6,vb x1)],[(1,.box (tc ab aP))]⟩ ?_
 refine ae.cu [(6,fun b=>b)] h (fun h=> ?_) fun h=> ?_
 refine ae.ck aa 2 ⟨28,[(1,.ref 1 0),(6,vb true),(8,vi aP.Class)],[(1,.box (tc ab aP))]⟩ ?_
 obtain⟨x2,hx2,h⟩:=bind_some h
 refine ae.ls (xc mw (db aP.Class 0 19 _ hx2)) ?_
 refine ae.ck aa 2 ⟨28,[(1,.ref 1 0),(11,vb x2)],[(1,.box (tc ab aP))]⟩ ?_
 refine ae.cu [(11,fun b=>b)] h (fun h=> ?_) fun h=> ?_
 refine ae.ck aa 2 ⟨28,[(1,.ref 1 0),(11,vb true),(13,.agg (tc bc aP.Years))],[(1,.box (tc ab aP))]⟩ ?_
 obtain⟨x3,hx3,h⟩:=bind_some h
 refine ae.ls (xc rz (iR aP.Years _ hx3)) ?_
 refine ae.ck aa 2 ⟨28,[(1,.ref 1 0),(16,vb x3)],[(1,.box (tc ab aP))]⟩ ?_
 refine ae.cu [(16,fun b=>b)] h (fun h=> ?_) fun h=> ?_
 refine ae.ck aa 2 ⟨28,[(1,.ref 1 0),(16,vb true),(18,vl af aP.Names)],[(1,.box (tc ab aP))]⟩ ?_
 obtain⟨x4,hx4,h⟩:=bind_some h
 refine ae.ls (xc vv (jJ aP.Names _ hx4)) ?_
 refine ae.ck aa 2 ⟨28,[(1,.ref 1 0),(21,vb x4)],[(1,.box (tc ab aP))]⟩ ?_
 refine ae.cu [(21,fun b=>b)] h (fun h=> ?_) fun h=> ?_
 refine ae.ck aa 3 ⟨28,[(21,vb true),(23,vl af aP.Names),(24,.clo 159 [.ref 1 0])],[(1,.box (tc ab aP))]⟩ ?_
 obtain⟨x5,hx5,h⟩:=bind_some h
 refine ae.ls (xc vw (ep aP.Names aP _ hx5)) ?_
 refine ae.ck aa 3 ⟨28,[(2,vb (!x5))],[]⟩ ?_
 refine ae.nil ?_
 obtain rfl:=inj h
 exact Le.ao
 refine ae.ck aa 7 ⟨28,[(2,vb false)],[]⟩ ?_
 refine ae.nil ?_
 obtain rfl:=inj h
 exact Le.ao
 refine ae.ck aa 12 ⟨28,[(2,vb false)],[]⟩ ?_
 refine ae.nil ?_
 obtain rfl:=inj h
 exact Le.ao
 refine ae.ck aa 17 ⟨28,[(2,vb false)],[]⟩ ?_
 refine ae.nil ?_
 obtain rfl:=inj h
 exact Le.ao
 refine ae.ck aa 22 ⟨28,[(2,vb false)],[]⟩ ?_
 refine ae.nil ?_
 obtain rfl:=inj h
 exact Le.ao
 refine ak ?_
 obtain rfl:=inj h
 exact aD (f1 fv)
theorem yQ:a7 Tryz.prog 104:=aw Tryz.func104 (by kernel_rfl) rfl
noncomputable def eG(ad:(List Place)):Option (Bool):=
 (((cY (ad.length:Int) (fun(i3:Int) (_:Unit)=>((at' ad i3).bind fun x7=>((((gJ x7).bind fun x8=>(bif(!x8)then some true else(bif(decide (i3>0))then((at' ad (aZ (i3 - 1))).bind fun x9=>some (!(Op.bytesLess x9.Code.toList x7.Code.toList)))else some false)))).bind fun(j10:Bool)=>(bif j10 then some (.inr (.inr false))else some (.inl ()))))) (fun(_:Unit)=> .inl ()) 0 ())).bind (Sum.elim (fun(_:Unit)=>some (decide ((ad.length:Int)≤10))) some))
theorem lW(ad:(List Place))(r:Bool)(h:eG ad=some r):aF Tryz.prog 54 [.v (vl ab ad)] ⟨[.v (vb r)],[],false⟩:=by
 refine ar Tryz.func54 rfl [(.tmp 2)] rfl (fun r=>⟨[.v (vb r)],[],false⟩) (r:=r) ?_
 unfold eG at h
 refine az aa ⟨34,[(0,vl ab ad)],[]⟩ ?_
 refine ai ?_
 refine az aa ⟨34,[(0,vl ab ad),(5,vl ab ad),(6,vi (ad.length:Int)),(7,vi 0)],[]⟩ ?_
 refine bl (r:=r) h (fun j1=>⟨34,[(0,vl ab ad)],[]⟩) (fun v2 h=> ?_) (fun j1 h=> ?_)
 refine ax (a:=v2) ?_
 refine a6 (r:=v2) (s:=(0,())) _ (fun s3=>⟨34,[(0,vl ab ad),(5,vl ab ad),(6,vi (ad.length:Int)),(7,vi s3.1)],[]⟩) _ (Le.ao) h (fun s3 v4 h=> ?_)
 refine az aa ⟨34,[(0,vl ab ad),(5,vl ab ad),(6,vi (ad.length:Int)),(7,vi s3.1),(8,vb (decide (s3.1<(ad.length:Int))))],[]⟩ ?_
 refine ai ?_
 refine aq h (fun h=> ?_) fun h=> ?_
 refine an ?_
 refine a8 ?_
 refine ai ?_
 refine bp (r:=v4) h (fun j5=>⟨34,[(0,vl ab ad),(5,vl ab ad),(6,vi (ad.length:Int)),(7,vi s3.1)],[]⟩) (fun v6 h=> ?_) (fun j5 h=> ?_)
 refine ax (a:=v6) ?_
 refine sr ?_
 refine ae.ck aa 1 ⟨34,[(0,vl ab ad),(5,vl ab ad),(6,vi (ad.length:Int)),(7,vi s3.1),(9,vi s3.1)],[]⟩ ?_
 obtain⟨x7,hx7,h⟩:=bind_some h
 refine ae.ls (aG (L:=ad) (f:=ab) (ti:=df) (tj:=cD) (e:=91) (k:= .i64) aa rfl hx7) ?_
 refine bU aa 4 ⟨34,[(0,vl ab ad),(3,vi s3.1),(4,.ref 4 0),(5,vl ab ad),(6,vi (ad.length:Int)),(7,vi s3.1)],[(4,.box (tc ab x7))]⟩ ?_
 refine ai ?_
 refine jf mixed h (fun j10=>⟨34,[(0,vl ab ad),(5,vl ab ad),(6,vi (ad.length:Int)),(7,vi s3.1),(29,vb j10)],[]⟩) (fun v11 h=> ?_) (fun j10 h=> ?_)
 refine aQ.ck aa false 1 ⟨34,[(0,vl ab ad),(3,vi s3.1),(4,.ref 4 0),(5,vl ab ad),(6,vi (ad.length:Int)),(7,vi s3.1),(12,.agg (tc ab x7))],[(4,.box (tc ab x7))]⟩ ?_
 obtain⟨x8,hx8,h⟩:=bind_some h
 refine aQ.step (xc yQ (nL x7 _ hx8)) ?_
 refine aQ.ck aa false 2 ⟨34,[(0,vl ab ad),(3,vi s3.1),(4,.ref 4 0),(5,vl ab ad),(6,vi (ad.length:Int)),(7,vi s3.1),(15,vb (!x8))],[(4,.box (tc ab x7))]⟩ ?_
 refine aQ.cu [(15,fun b=>b)] h (fun h=> ?_) fun h=> ?_
 refine aQ.ck aa false 14 ⟨34,[(0,vl ab ad),(5,vl ab ad),(6,vi (ad.length:Int)),(7,vi s3.1),(29,vb true)],[]⟩ ?_
 refine aQ.nil (by kernel_rfl) ?_
 obtain rfl:=inj h
 exact Le.ao
 refine aQ.ck aa false 3 ⟨34,[(0,vl ab ad),(3,vi s3.1),(4,.ref 4 0),(5,vl ab ad),(6,vi (ad.length:Int)),(7,vi s3.1),(15,vb false),(18,vb (decide (s3.1>0)))],[(4,.box (tc ab x7))]⟩ ?_
 refine aQ.cu [(18,fun b=>b)] h (fun h=> ?_) fun h=> ?_
 refine aQ.ck aa false 3 ⟨34,[(0,vl ab ad),(4,.ref 4 0),(5,vl ab ad),(6,vi (ad.length:Int)),(7,vi s3.1),(15,vb false),(18,vb true),(19,vl ab ad),(21,vi (aZ (s3.1 - 1)))],[(4,.box (tc ab x7))]⟩ ?_
 obtain⟨x9,hx9,h⟩:=bind_some h
 refine aQ.step (aG (L:=ad) (f:=ab) (ti:=df) (tj:=cD) (e:=91) (k:= .i64) aa rfl hx9) ?_
 refine aQ.ck aa false 7 ⟨34,[(0,vl ab ad),(5,vl ab ad),(6,vi (ad.length:Int)),(7,vi s3.1),(29,vb (!(Op.bytesLess x9.Code.toList x7.Code.toList)))],[]⟩ ?_
 refine aQ.nil (by kernel_rfl) ?_
 obtain rfl:=inj h
 exact Le.ao
 refine aQ.ck aa false 11 ⟨34,[(0,vl ab ad),(5,vl ab ad),(6,vi (ad.length:Int)),(7,vi s3.1),(29,vb false)],[]⟩ ?_
 refine aQ.nil (by kernel_rfl) ?_
 obtain rfl:=inj h
 exact Le.ao
 refine aq h (fun h=> ?_) fun h=> ?_
 refine az aa ⟨34,[(2,vb false)],[]⟩ ?_
 refine ak ?_
 obtain rfl:=inj h
 exact bw (bi (bi (bw (bi (aD (f1 fv))))))
 refine an ?_
 obtain rfl:=inj h
 exact bY (cb (Le.ao))
 refine aE ?_
 refine ae.ck aa 2 ⟨34,[(0,vl ab ad),(5,vl ab ad),(6,vi (ad.length:Int)),(7,vi (aZ (s3.1+1)))],[]⟩ ?_
 refine ae.nil ?_
 obtain rfl:=inj h
 exact cb (Le.ao)
 refine aO ?_
 obtain rfl:=inj h
 exact cH (cJ (cI (cb (Le.ao))))
 refine az aa ⟨34,[(2,vb (decide ((ad.length:Int)≤10)))],[]⟩ ?_
 refine ak ?_
 obtain rfl:=inj h
 exact aD (f1 fv)
theorem AQ:a7 Tryz.prog 54:=aw Tryz.func54 (by kernel_rfl) rfl
noncomputable def iE(aL:au):Option (Bool):=
 ((((dQ ([aL.Child,aL.Parent]:List ByteArray)).bind fun x1=>(bif x1 then(bif(!(aL.Child.toList==aL.Parent.toList))then((fj aL.Years).bind fun x2=>some x2)else some false)else some false))).bind fun(j3:Bool)=>some j3)
theorem oP(aL:au)(r:Bool)(h:iE aL=some r):aF Tryz.prog 105 [.v (.agg (tc ac aL))] ⟨[.v (vb r)],[],false⟩:=by
 refine ar Tryz.func105 rfl [(.tmp 2)] rfl (fun r=>⟨[.v (vb r)],[],false⟩) (r:=r) ?_
 unfold iE at h
 refine az aa ⟨21,[(1,.ref 1 0)],[(1,.box (tc ac aL))]⟩ ?_
 refine ai ?_
 refine bk h (fun j3=>⟨21,[(2,vb j3)],[]⟩) (fun v4 h=> ?_) (fun j3 h=> ?_)
 refine ae.ck aa 5 ⟨21,[(1,.ref 1 0),(7,.own 7)],[(1,.box (tc ac aL)),(7,oa 9 1 eS ([aL.Child,aL.Parent]:List ByteArray))]⟩ ?_
 obtain⟨x1,hx1,h⟩:=bind_some h
 refine ae.ls (xc ru (gM ([aL.Child,aL.Parent]:List ByteArray) _ hx1)) ?_
 refine ae.ck aa 1 ⟨21,[(1,.ref 1 0),(9,vb x1)],[(1,.box (tc ac aL))]⟩ ?_
 refine ae.cu [(9,fun b=>b)] h (fun h=> ?_) fun h=> ?_
 refine ae.ck aa 7 ⟨21,[(1,.ref 1 0),(16,vb (!(aL.Child.toList==aL.Parent.toList)))],[(1,.box (tc ac aL))]⟩ ?_
 refine ae.cu [(16,fun b=>b)] h (fun h=> ?_) fun h=> ?_
 refine ae.ck aa 2 ⟨21,[(16,vb true),(18,.agg (tc bc aL.Years))],[]⟩ ?_
 obtain⟨x2,hx2,h⟩:=bind_some h
 refine ae.ls (xc rz (iR aL.Years _ hx2)) ?_
 refine ae.ck aa 2 ⟨21,[(2,vb x2)],[]⟩ ?_
 refine ae.nil ?_
 obtain rfl:=inj h
 exact Le.ao
 refine ae.ck aa 5 ⟨21,[(2,vb false)],[]⟩ ?_
 refine ae.nil ?_
 obtain rfl:=inj h
 exact Le.ao
 refine ae.ck aa 12 ⟨21,[(2,vb false)],[]⟩ ?_
 refine ae.nil ?_
 obtain rfl:=inj h
 exact Le.ao
 refine ak ?_
 obtain rfl:=inj h
 exact aD (f1 fv)
theorem yR:a7 Tryz.prog 105:=aw Tryz.func105 (by kernel_rfl) rfl
noncomputable def gk(aM:au)(c0:au):Option (Bool):=
 (((bif(aM.Child.toList==c0.Child.toList)then((dC aM.Years c0.Years).bind fun x1=>some x1)else some false)).bind fun(j2:Bool)=>some j2)
theorem lT(aM:au)(c0:au)(r:Bool)(h:gk aM c0=some r):aF Tryz.prog 106 [.v (.agg (tc ac aM)),.v (.ptr [vs c0.Child,vs c0.Parent,vi c0.Years.From,vi c0.Years.To] 0)] ⟨[.v (vb r)],[],false⟩:=by
 refine ar Tryz.func106 rfl [(.tmp 3)] rfl (fun r=>⟨[.v (vb r)],[],false⟩) (r:=r) ?_
 unfold gk at h
 refine az aa ⟨16,[(1,.ptr [vs c0.Child,vs c0.Parent,vi c0.Years.From,vi c0.Years.To] 0),(2,.ref 2 0)],[(2,.box (tc ac aM))]⟩ ?_
 refine ai ?_
 refine bk h (fun j2=>⟨16,[(3,vb j2)],[]⟩) (fun v3 h=> ?_) (fun j2 h=> ?_)
 refine ae.ck aa 6 ⟨16,[(1,.ptr [vs c0.Child,vs c0.Parent,vi c0.Years.From,vi c0.Years.To] 0),(2,.ref 2 0),(9,vb (aM.Child.toList==c0.Child.toList))],[(2,.box (tc ac aM))]⟩ ?_
 refine ae.cu [(9,fun b=>b)] h (fun h=> ?_) fun h=> ?_
 refine ae.ck aa 4 ⟨16,[(9,vb true),(11,.agg (tc bc aM.Years)),(13,.agg (tc bc c0.Years))],[]⟩ ?_
 obtain⟨x1,hx1,h⟩:=bind_some h
 refine ae.ls (xc vo (iW aM.Years c0.Years _ hx1)) ?_
 refine ae.ck aa 2 ⟨16,[(3,vb x1)],[]⟩ ?_
 refine ae.nil ?_
 obtain rfl:=inj h
 exact Le.ao
 refine ae.ck aa 7 ⟨16,[(3,vb false)],[]⟩ ?_
 refine ae.nil ?_
 obtain rfl:=inj h
 exact Le.ao
 refine ak ?_
 obtain rfl:=inj h
 exact aD (f1 fv)
theorem yS:a7 Tryz.prog 106:=aw Tryz.func106 (by kernel_rfl) rfl
noncomputable def bM(aS:(List au))(aU:au):Option (Int):=
 (((cY (aS.length:Int) (fun(i3:Int) (_:Unit)=>((at' aS i3).bind fun x7=>((gk x7 aU).bind fun x8=>(bif x8 then some (.inr (.inr i3))else some (.inl ()))))) (fun(_:Unit)=> .inl ()) 0 ())).bind (Sum.elim (fun(_:Unit)=>some (-1)) some))
theorem eN(aS:(List au))(aU:au)(r:Int)(h:bM aS aU=some r):aF Tryz.prog 109 [.v (vl ac aS),.v (.clo 106 [.ptr [vs aU.Child,vs aU.Parent,vi aU.Years.From,vi aU.Years.To] 0])] ⟨[.v (vi r)],[],false⟩:=by
 refine ar Tryz.func109 rfl [(.tmp 4)] rfl (fun r=>⟨[.v (vi r)],[],false⟩) (r:=r) ?_
 unfold bM at h
 refine az aa ⟨19,[(0,vl ac aS),(1,.clo 106 [.ptr [vs aU.Child,vs aU.Parent,vi aU.Years.From,vi aU.Years.To] 0])],[]⟩ ?_
 refine ai ?_
 refine az aa ⟨19,[(0,vl ac aS),(1,.clo 106 [.ptr [vs aU.Child,vs aU.Parent,vi aU.Years.From,vi aU.Years.To] 0]),(7,vi (aS.length:Int)),(8,vi 0)],[]⟩ ?_
 refine bl (r:=r) h (fun j1=>⟨19,[],[]⟩) (fun v2 h=> ?_) (fun j1 h=> ?_)
 refine ax (a:=v2) ?_
 refine a6 (r:=v2) (s:=(0,())) _ (fun s3=>⟨19,[(0,vl ac aS),(1,.clo 106 [.ptr [vs aU.Child,vs aU.Parent,vi aU.Years.From,vi aU.Years.To] 0]),(7,vi (aS.length:Int)),(8,vi s3.1)],[]⟩) _ (Le.ao) h (fun s3 v4 h=> ?_)
 refine az aa ⟨19,[(0,vl ac aS),(1,.clo 106 [.ptr [vs aU.Child,vs aU.Parent,vi aU.Years.From,vi aU.Years.To] 0]),(7,vi (aS.length:Int)),(8,vi s3.1),(9,vb (decide (s3.1<(aS.length:Int))))],[]⟩ ?_
 refine ai ?_
 refine aq h (fun h=> ?_) fun h=> ?_
 refine an ?_
 refine a8 ?_
 refine ai ?_
 refine bp (r:=v4) h (fun j5=>⟨19,[(0,vl ac aS),(1,.clo 106 [.ptr [vs aU.Child,vs aU.Parent,vi aU.Years.From,vi aU.Years.To] 0]),(7,vi (aS.length:Int)),(8,vi s3.1)],[]⟩) (fun v6 h=> ?_) (fun j5 h=> ?_)
 refine ax (a:=v6) ?_
 refine az aa ⟨19,[(0,vl ac aS),(1,.clo 106 [.ptr [vs aU.Child,vs aU.Parent,vi aU.Years.From,vi aU.Years.To] 0]),(5,vi s3.1),(7,vi (aS.length:Int)),(8,vi s3.1)],[]⟩ ?_
 refine sr ?_
 refine ae.ck aa 3 ⟨19,[(0,vl ac aS),(1,.clo 106 [.ptr [vs aU.Child,vs aU.Parent,vi aU.Years.From,vi aU.Years.To] 0]),(5,vi s3.1),(7,vi (aS.length:Int)),(8,vi s3.1),(11,.clo 106 [.ptr [vs aU.Child,vs aU.Parent,vi aU.Years.From,vi aU.Years.To] 0]),(12,vl ac aS),(13,vi s3.1)],[]⟩ ?_
 obtain⟨x7,hx7,h⟩:=bind_some h
 refine ae.ls (aG (L:=aS) (f:=ac) (ti:=eh) (tj:=ei) (e:=85) (k:= .i64) aa rfl hx7) ?_
 refine ae.ck aa 1 ⟨19,[(0,vl ac aS),(1,.clo 106 [.ptr [vs aU.Child,vs aU.Parent,vi aU.Years.From,vi aU.Years.To] 0]),(5,vi s3.1),(7,vi (aS.length:Int)),(8,vi s3.1),(11,.clo 106 [.ptr [vs aU.Child,vs aU.Parent,vi aU.Years.From,vi aU.Years.To] 0]),(15,.agg (tc ac x7))],[]⟩ ?_
 obtain⟨x8,hx8,h⟩:=bind_some h
 refine ae.ls (xc yS (lT x7 aU _ hx8)) ?_
 refine ae.nx ?_
 refine aq h (fun h=> ?_) fun h=> ?_
 refine az aa ⟨19,[(4,vi s3.1)],[]⟩ ?_
 refine ak ?_
 obtain rfl:=inj h
 exact bw (bi (bi (bw (bi (aD (f1 fv))))))
 refine an ?_
 obtain rfl:=inj h
 exact bY (cb (Le.ao))
 refine aE ?_
 refine ae.ck aa 2 ⟨19,[(0,vl ac aS),(1,.clo 106 [.ptr [vs aU.Child,vs aU.Parent,vi aU.Years.From,vi aU.Years.To] 0]),(7,vi (aS.length:Int)),(8,vi (aZ (s3.1+1)))],[]⟩ ?_
 refine ae.nil ?_
 obtain rfl:=inj h
 exact cb (Le.ao)
 refine aO ?_
 obtain rfl:=inj h
 exact cH (cJ (cI (cb (Le.ao))))
 refine az aa ⟨19,[(4,vi (-1))],[]⟩ ?_
 refine ak ?_
 obtain rfl:=inj h
 exact aD (f1 fv)
theorem rp:a7 Tryz.prog 109:=aw Tryz.func109 (by kernel_rfl) rfl
noncomputable def bC(aS:(List au))(aU:au):Option (Bool):=
 ((bM aS aU).bind fun x1=>some (decide (x1≥0)))
theorem ed(aS:(List au))(aU:au)(r:Bool)(h:bC aS aU=some r):aF Tryz.prog 56 [.v (vl ac aS),.v (.clo 106 [.ptr [vs aU.Child,vs aU.Parent,vi aU.Years.From,vi aU.Years.To] 0])] ⟨[.v (vb r)],[],false⟩:=by
 refine ar Tryz.func56 rfl [(.tmp 4)] rfl (fun r=>⟨[.v (vb r)],[],false⟩) (r:=r) ?_
 unfold bC at h
 refine az aa ⟨9,[(0,vl ac aS),(1,.clo 106 [.ptr [vs aU.Child,vs aU.Parent,vi aU.Years.From,vi aU.Years.To] 0])],[]⟩ ?_
 refine sr ?_
 refine ae.ck aa 2 ⟨9,[(5,vl ac aS),(6,.clo 106 [.ptr [vs aU.Child,vs aU.Parent,vi aU.Years.From,vi aU.Years.To] 0])],[]⟩ ?_
 obtain⟨x1,hx1,h⟩:=bind_some h
 refine ae.ls (xc rp (eN aS aU _ hx1)) ?_
 refine bU aa 2 ⟨9,[(4,vb (decide (x1≥0)))],[]⟩ ?_
 refine ak ?_
 obtain rfl:=inj h
 exact aD (f1 fv)
theorem xx:a7 Tryz.prog 56:=aw Tryz.func56 (by kernel_rfl) rfl
noncomputable def bF(aS:Span)(ag:Int):Option (Bool):=
 ((dm ag aS.From aS.To).bind fun x1=>some x1)
theorem ct(aS:Span)(ag:Int)(r:Bool)(h:bF aS ag=some r):aF Tryz.prog 87 [.v (.agg (tc bc aS)),.v (vi ag)] ⟨[.v (vb r)],[],false⟩:=by
 refine ar Tryz.func87 rfl [(.tmp 4)] rfl (fun r=>⟨[.v (vb r)],[],false⟩) (r:=r) ?_
 unfold bF at h
 refine az aa ⟨11,[(1,vi ag),(2,.ref 2 0)],[(2,.box (tc bc aS))]⟩ ?_
 refine sr ?_
 refine ae.ck aa 5 ⟨11,[(5,vi ag),(7,vi aS.From),(9,vi aS.To)],[]⟩ ?_
 obtain⟨x1,hx1,h⟩:=bind_some h
 refine ae.ls (xc mw (db ag aS.From aS.To _ hx1)) ?_
 refine bU aa 1 ⟨11,[(4,vb x1)],[]⟩ ?_
 refine ak ?_
 obtain rfl:=inj h
 exact aD (f1 fv)
theorem lb:a7 Tryz.prog 87:=aw Tryz.func87 (by kernel_rfl) rfl
noncomputable def gp(aL:au)(c0:ByteArray)(c1:Int):Option (Bool):=
 (((bif(aL.Child.toList==c0.toList)then((bF aL.Years c1).bind fun x1=>some x1)else some false)).bind fun(j2:Bool)=>some j2)
theorem l3(aL:au)(c0:ByteArray)(c1:Int)(r:Bool)(h:gp aL c0 c1=some r):aF Tryz.prog 199 [.v (.agg (tc ac aL)),.v (.ptr [vs c0] 0),.v (.ptr [vi c1] 0)] ⟨[.v (vb r)],[],false⟩:=by
 refine ar Tryz.func199 rfl [(.tmp 4)] rfl (fun r=>⟨[.v (vb r)],[],false⟩) (r:=r) ?_
 unfold gp at h
 refine az aa ⟨15,[(1,.ptr [vs c0] 0),(2,.ptr [vi c1] 0),(3,.ref 3 0)],[(3,.box (tc ac aL))]⟩ ?_
 refine ai ?_
 refine bk h (fun j2=>⟨15,[(4,vb j2)],[]⟩) (fun v3 h=> ?_) (fun j2 h=> ?_)
 refine ae.ck aa 5 ⟨15,[(2,.ptr [vi c1] 0),(3,.ref 3 0),(9,vb (aL.Child.toList==c0.toList))],[(3,.box (tc ac aL))]⟩ ?_
 refine ae.cu [(9,fun b=>b)] h (fun h=> ?_) fun h=> ?_
 refine ae.ck aa 3 ⟨15,[(9,vb true),(11,.agg (tc bc aL.Years)),(12,vi c1)],[]⟩ ?_
 obtain⟨x1,hx1,h⟩:=bind_some h
 refine ae.ls (xc lb (ct aL.Years c1 _ hx1)) ?_
 refine ae.ck aa 2 ⟨15,[(4,vb x1)],[]⟩ ?_
 refine ae.nil ?_
 obtain rfl:=inj h
 exact Le.ao
 refine ae.ck aa 6 ⟨15,[(4,vb false)],[]⟩ ?_
 refine ae.nil ?_
 obtain rfl:=inj h
 exact Le.ao
 refine ak ?_
 obtain rfl:=inj h
 exact aD (f1 fv)
theorem zB:a7 Tryz.prog 199:=aw Tryz.func199 (by kernel_rfl) rfl
noncomputable def bN(aS:(List au))(aU:ByteArray)(lS:Int):Option (Int):=
 (((cY (aS.length:Int) (fun(i3:Int) (_:Unit)=>((at' aS i3).bind fun x7=>((gp x7 aU lS).bind fun x8=>(bif x8 then some (.inr (.inr i3))else some (.inl ()))))) (fun(_:Unit)=> .inl ()) 0 ())).bind (Sum.elim (fun(_:Unit)=>some (-1)) some))
theorem eO(aS:(List au))(aU:ByteArray)(lS:Int)(r:Int)(h:bN aS aU lS=some r):aF Tryz.prog 109 [.v (vl ac aS),.v (.clo 199 [.ptr [vs aU] 0,.ptr [vi lS] 0])] ⟨[.v (vi r)],[],false⟩:=by
 refine ar Tryz.func109 rfl [(.tmp 4)] rfl (fun r=>⟨[.v (vi r)],[],false⟩) (r:=r) ?_
 unfold bN at h
 refine az aa ⟨19,[(0,vl ac aS),(1,.clo 199 [.ptr [vs aU] 0,.ptr [vi lS] 0])],[]⟩ ?_
 refine ai ?_
 refine az aa ⟨19,[(0,vl ac aS),(1,.clo 199 [.ptr [vs aU] 0,.ptr [vi lS] 0]),(7,vi (aS.length:Int)),(8,vi 0)],[]⟩ ?_
 refine bl (r:=r) h (fun j1=>⟨19,[],[]⟩) (fun v2 h=> ?_) (fun j1 h=> ?_)
 refine ax (a:=v2) ?_
 refine a6 (r:=v2) (s:=(0,())) _ (fun s3=>⟨19,[(0,vl ac aS),(1,.clo 199 [.ptr [vs aU] 0,.ptr [vi lS] 0]),(7,vi (aS.length:Int)),(8,vi s3.1)],[]⟩) _ (Le.ao) h (fun s3 v4 h=> ?_)
 refine az aa ⟨19,[(0,vl ac aS),(1,.clo 199 [.ptr [vs aU] 0,.ptr [vi lS] 0]),(7,vi (aS.length:Int)),(8,vi s3.1),(9,vb (decide (s3.1<(aS.length:Int))))],[]⟩ ?_
 refine ai ?_
 refine aq h (fun h=> ?_) fun h=> ?_
 refine an ?_
 refine a8 ?_
 refine ai ?_
 refine bp (r:=v4) h (fun j5=>⟨19,[(0,vl ac aS),(1,.clo 199 [.ptr [vs aU] 0,.ptr [vi lS] 0]),(7,vi (aS.length:Int)),(8,vi s3.1)],[]⟩) (fun v6 h=> ?_) (fun j5 h=> ?_)
 refine ax (a:=v6) ?_
 refine az aa ⟨19,[(0,vl ac aS),(1,.clo 199 [.ptr [vs aU] 0,.ptr [vi lS] 0]),(5,vi s3.1),(7,vi (aS.length:Int)),(8,vi s3.1)],[]⟩ ?_
 refine sr ?_
 refine ae.ck aa 3 ⟨19,[(0,vl ac aS),(1,.clo 199 [.ptr [vs aU] 0,.ptr [vi lS] 0]),(5,vi s3.1),(7,vi (aS.length:Int)),(8,vi s3.1),(11,.clo 199 [.ptr [vs aU] 0,.ptr [vi lS] 0]),(12,vl ac aS),(13,vi s3.1)],[]⟩ ?_
 obtain⟨x7,hx7,h⟩:=bind_some h
 refine ae.ls (aG (L:=aS) (f:=ac) (ti:=eh) (tj:=ei) (e:=85) (k:= .i64) aa rfl hx7) ?_
 refine ae.ck aa 1 ⟨19,[(0,vl ac aS),(1,.clo 199 [.ptr [vs aU] 0,.ptr [vi lS] 0]),(5,vi s3.1),(7,vi (aS.length:Int)),(8,vi s3.1),(11,.clo 199 [.ptr [vs aU] 0,.ptr [vi lS] 0]),(15,.agg (tc ac x7))],[]⟩ ?_
 obtain⟨x8,hx8,h⟩:=bind_some h
 refine ae.ls (xc zB (l3 x7 aU lS _ hx8)) ?_
 refine ae.nx ?_
 refine aq h (fun h=> ?_) fun h=> ?_
 refine az aa ⟨19,[(4,vi s3.1)],[]⟩ ?_
 refine ak ?_
 obtain rfl:=inj h
 exact bw (bi (bi (bw (bi (aD (f1 fv))))))
 refine an ?_
 obtain rfl:=inj h
 exact bY (cb (Le.ao))
 refine aE ?_
 refine ae.ck aa 2 ⟨19,[(0,vl ac aS),(1,.clo 199 [.ptr [vs aU] 0,.ptr [vi lS] 0]),(7,vi (aS.length:Int)),(8,vi (aZ (s3.1+1)))],[]⟩ ?_
 refine ae.nil ?_
 obtain rfl:=inj h
 exact cb (Le.ao)
 refine aO ?_
 obtain rfl:=inj h
 exact cH (cJ (cI (cb (Le.ao))))
 refine az aa ⟨19,[(4,vi (-1))],[]⟩ ?_
 refine ak ?_
 obtain rfl:=inj h
 exact aD (f1 fv)
noncomputable def cE(ad:(List au))(ap:ByteArray)(ag:Int):Option (ByteArray×Bool):=
 ((bN ad ap ag).bind fun x1=>(bif(decide (x1<0))then some ((ByteArray.mk #[]),false)else((at' ad x1).bind fun x2=>some (x2.Parent,true))))
theorem gN(ad:(List au))(ap:ByteArray)(ag:Int)(r:ByteArray×Bool)(h:cE ad ap ag=some r):aF Tryz.prog 161 [.v (vl ac ad),.v (vs ap),.v (vi ag)] ⟨[.v (vs r.1),.v (vb r.2)],[],false⟩:=by
 refine ar Tryz.func161 rfl [(.tmp 6),(.tmp 7)] rfl (fun r=>⟨[.v (vs r.1),.v (vb r.2)],[],false⟩) (r:=r) ?_
 unfold cE at h
 refine az aa ⟨19,[(0,vl ac ad),(4,.ref 4 0),(5,.ref 5 0)],[(4,.box [vs ap]),(5,.box [vi ag])]⟩ ?_
 refine sr ?_
 refine ae.ck aa 2 ⟨19,[(0,vl ac ad),(9,vl ac ad),(10,.clo 199 [.ref 4 0,.ref 5 0])],[(4,.box [vs ap]),(5,.box [vi ag])]⟩ ?_
 obtain⟨x1,hx1,h⟩:=bind_some h
 refine ae.ls (xc rp (eO ad ap ag _ hx1)) ?_
 refine bU aa 1 ⟨19,[(0,vl ac ad),(8,vi x1)],[]⟩ ?_
 refine ai ?_
 refine az aa ⟨19,[(0,vl ac ad),(8,vi x1),(13,vb (decide (x1<0)))],[]⟩ ?_
 refine aq h (fun h=> ?_) fun h=> ?_
 refine az aa ⟨19,[(6,vs (ByteArray.mk #[])),(7,vb false)],[]⟩ ?_
 refine ak ?_
 obtain rfl:=inj h
 exact bS (aD (f2 fv fv))
 refine an ?_
 refine a8 ?_
 refine sr ?_
 refine ae.ck aa 2 ⟨19,[(14,vl ac ad),(15,vi x1)],[]⟩ ?_
 obtain⟨x2,hx2,h⟩:=bind_some h
 refine ae.ls (aG (L:=ad) (f:=ac) (ti:=eh) (tj:=ei) (e:=85) (k:= .i64) aa rfl hx2) ?_
 refine bU aa 4 ⟨19,[(6,vs x2.Parent),(7,vb true)],[]⟩ ?_
 refine ak ?_
 obtain rfl:=inj h
 exact aD (f2 fv fv)
theorem rA:a7 Tryz.prog 161:=aw Tryz.func161 (by kernel_rfl) rfl
noncomputable def dV(aS:(List ByteArray))(aV:ByteArray):Option (Int):=
 (((cY (aS.length:Int) (fun(i3:Int) (_:Unit)=>((at' aS i3).bind fun x7=>(bif(aV.toList==x7.toList)then some (.inr (.inr i3))else some (.inl ())))) (fun(_:Unit)=> .inl ()) 0 ())).bind (Sum.elim (fun(_:Unit)=>some (-1)) some))
theorem kp(aS:(List ByteArray))(aV:ByteArray)(r:Int)(h:dV aS aV=some r):aF Tryz.prog 217 [.v (vl eS aS),.v (vs aV)] ⟨[.v (vi r)],[],false⟩:=by
 refine ar Tryz.func217 rfl [(.tmp 4)] rfl (fun r=>⟨[.v (vi r)],[],false⟩) (r:=r) ?_
 unfold dV at h
 refine az aa ⟨19,[(0,vl eS aS),(1,vs aV)],[]⟩ ?_
 refine ai ?_
 refine az aa ⟨19,[(0,vl eS aS),(1,vs aV),(7,vi (aS.length:Int)),(8,vi 0)],[]⟩ ?_
 refine bl (r:=r) h (fun j1=>⟨19,[],[]⟩) (fun v2 h=> ?_) (fun j1 h=> ?_)
 refine ax (a:=v2) ?_
 refine a6 (r:=v2) (s:=(0,())) _ (fun s3=>⟨19,[(0,vl eS aS),(1,vs aV),(7,vi (aS.length:Int)),(8,vi s3.1)],[]⟩) _ (Le.ao) h (fun s3 v4 h=> ?_)
 refine az aa ⟨19,[(0,vl eS aS),(1,vs aV),(7,vi (aS.length:Int)),(8,vi s3.1),(9,vb (decide (s3.1<(aS.length:Int))))],[]⟩ ?_
 refine ai ?_
 refine aq h (fun h=> ?_) fun h=> ?_
 refine an ?_
 refine a8 ?_
 refine ai ?_
 refine bp (r:=v4) h (fun j5=>⟨19,[(0,vl eS aS),(1,vs aV),(7,vi (aS.length:Int)),(8,vi s3.1)],[]⟩) (fun v6 h=> ?_) (fun j5 h=> ?_)
 refine ax (a:=v6) ?_
 refine az aa ⟨19,[(0,vl eS aS),(1,vs aV),(5,vi s3.1),(7,vi (aS.length:Int)),(8,vi s3.1)],[]⟩ ?_
 refine sr ?_
 refine ae.ck aa 3 ⟨19,[(0,vl eS aS),(1,vs aV),(5,vi s3.1),(7,vi (aS.length:Int)),(8,vi s3.1),(11,vs aV),(12,vl eS aS),(13,vi s3.1)],[]⟩ ?_
 obtain⟨x7,hx7,h⟩:=bind_some h
 refine ae.ls (aG (L:=aS) (f:=eS) (ti:=cn) (tj:=ig) (e:=9) (k:= .i64) aa rfl hx7) ?_
 refine bU aa 2 ⟨19,[(0,vl eS aS),(1,vs aV),(5,vi s3.1),(7,vi (aS.length:Int)),(8,vi s3.1),(16,vb (aV.toList==x7.toList))],[]⟩ ?_
 refine aq h (fun h=> ?_) fun h=> ?_
 refine az aa ⟨19,[(4,vi s3.1)],[]⟩ ?_
 refine ak ?_
 obtain rfl:=inj h
 exact bw (bi (bi (bw (bi (aD (f1 fv))))))
 refine an ?_
 obtain rfl:=inj h
 exact bY (cb (Le.ao))
 refine aE ?_
 refine ae.ck aa 2 ⟨19,[(0,vl eS aS),(1,vs aV),(7,vi (aS.length:Int)),(8,vi (aZ (s3.1+1)))],[]⟩ ?_
 refine ae.nil ?_
 obtain rfl:=inj h
 exact cb (Le.ao)
 refine aO ?_
 obtain rfl:=inj h
 exact cH (cJ (cI (cb (Le.ao))))
 refine az aa ⟨19,[(4,vi (-1))],[]⟩ ?_
 refine ak ?_
 obtain rfl:=inj h
 exact aD (f1 fv)
theorem zJ:a7 Tryz.prog 217:=aw Tryz.func217 (by kernel_rfl) rfl
noncomputable def cj(aS:(List ByteArray))(aV:ByteArray):Option (Bool):=
 ((dV aS aV).bind fun x1=>some (decide (x1≥0)))
theorem jz(aS:(List ByteArray))(aV:ByteArray)(r:Bool)(h:cj aS aV=some r):aF Tryz.prog 198 [.v (vl eS aS),.v (vs aV)] ⟨[.v (vb r)],[],false⟩:=by
 refine ar Tryz.func198 rfl [(.tmp 4)] rfl (fun r=>⟨[.v (vb r)],[],false⟩) (r:=r) ?_
 unfold cj at h
 refine az aa ⟨9,[(0,vl eS aS),(1,vs aV)],[]⟩ ?_
 refine sr ?_
 refine ae.ck aa 2 ⟨9,[(5,vl eS aS),(6,vs aV)],[]⟩ ?_
 obtain⟨x1,hx1,h⟩:=bind_some h
 refine ae.ls (xc zJ (kp aS aV _ hx1)) ?_
 refine bU aa 2 ⟨9,[(4,vb (decide (x1≥0)))],[]⟩ ?_
 refine ak ?_
 obtain rfl:=inj h
 exact aD (f1 fv)
theorem zA:a7 Tryz.prog 198:=aw Tryz.func198 (by kernel_rfl) rfl
noncomputable def jv(ad:(List au))(ap:ByteArray)(ag:Int):Option ((List ByteArray)):=
 (loop (fun(s1:(List ByteArray))=>((at' s1 (aZ ((s1.length:Int)- 1))).bind fun x3=>((cE ad x3 ag).bind fun x4=>(((bif(!x4.2)then some true else((cj s1 x4.1).bind fun x5=>some x5))).bind fun(j6:Bool)=>(bif j6 then some (.inr s1)else((dU s1 ([x4.1]:List ByteArray)).bind fun x8=>some (.inl x8))))))) ([ap]:List ByteArray))
theorem pY(ad:(List au))(ap:ByteArray)(ag:Int)(r:(List ByteArray))(h:jv ad ap ag=some r):aF Tryz.prog 160 [.v (vl ac ad),.v (vs ap),.v (vi ag)] ⟨[.own 9 1 r.length (r.map eS)],[],false⟩:=by
 refine ar Tryz.func160 rfl [(.tmp 6)] rfl (fun r=>⟨[.own 9 1 r.length (r.map eS)],[],false⟩) (r:=r) ?_
 unfold jv at h
 refine az aa ⟨36,[(0,vl ac ad),(1,vs ap),(2,vi ag)],[]⟩ ?_
 refine az aa ⟨36,[(0,vl ac ad),(2,vi ag),(7,.own 11)],[(11,oa 9 1 eS ([ap]:List ByteArray))]⟩ ?_
 refine ax (a:=r) ?_
 refine a6 (r:=r) (s:=([ap]:List ByteArray)) _ (fun s1=>⟨36,[(0,vl ac ad),(2,vi ag),(7,.own 7)],[(7,oa 9 1 eS s1)]⟩) _ (Le.rr [11] [(11,7)]) h (fun s1 v2 h=> ?_)
 refine ax (a:=v2) ?_
 refine sr ?_
 refine ae.ck aa 5 ⟨36,[(0,vl ac ad),(2,vi ag),(7,.own 7),(13,vl ac ad),(14,.own 7),(17,vi (aZ ((s1.length:Int)- 1)))],[(7,oa 9 1 eS s1)]⟩ ?_
 obtain⟨x3,hx3,h⟩:=bind_some h
 refine ae.ls (bX (d:=7) (L:=s1) (f:=eS) (ti:=cn) (tj:=ig) (e:=9) (e':=9) (m:=1) (k:= .i64) aa rfl hx3) ?_
 refine ae.ls (dd (d:=7) (m:=1) (j:=0) (L:=s1) (f:=eS) (ti:=ig) (e:=9) (v:=vs x3) aa rfl hx3) ?_
 refine ae.ck aa 1 ⟨36,[(0,vl ac ad),(2,vi ag),(7,.own 7),(13,vl ac ad),(19,vs x3),(20,vi ag)],[(7,oa 9 1 eS s1)]⟩ ?_
 obtain⟨x4,hx4,h⟩:=bind_some h
 refine ae.ls (xc rA (gN ad x3 ag _ hx4)) ?_
 refine bU aa 5 ⟨36,[(0,vl ac ad),(2,vi ag),(7,.own 7),(8,vs x4.1),(9,vb x4.2)],[(7,oa 9 1 eS s1)]⟩ ?_
 refine ai ?_
 refine ai ?_
 refine bk h (fun j6=>⟨36,[(0,vl ac ad),(2,vi ag),(7,.own 7),(8,vs x4.1),(30,vb j6)],[(7,oa 9 1 eS s1)]⟩) (fun v7 h=> ?_) (fun j6 h=> ?_)
 refine ae.ck aa 3 ⟨36,[(0,vl ac ad),(2,vi ag),(7,.own 7),(8,vs x4.1),(26,vb (!x4.2))],[(7,oa 9 1 eS s1)]⟩ ?_
 refine ae.cu [(26,fun b=>b)] h (fun h=> ?_) fun h=> ?_
 refine ae.ck aa 4 ⟨36,[(0,vl ac ad),(2,vi ag),(7,.own 7),(8,vs x4.1),(30,vb true)],[(7,oa 9 1 eS s1)]⟩ ?_
 refine ae.nil ?_
 obtain rfl:=inj h
 exact Le.ao
 refine ae.ck aa 2 ⟨36,[(0,vl ac ad),(2,vi ag),(7,.own 7),(8,vs x4.1),(26,vb false),(27,.own 7),(28,vs x4.1)],[(7,oa 9 1 eS s1)]⟩ ?_
 obtain⟨x5,hx5,h⟩:=bind_some h
 refine ae.ls (xc zA (jz s1 x4.1 _ hx5)) ?_
 refine ae.ck aa 1 ⟨36,[(0,vl ac ad),(2,vi ag),(7,.own 7),(8,vs x4.1),(30,vb x5)],[(7,oa 9 1 eS s1)]⟩ ?_
 refine ae.nil ?_
 obtain rfl:=inj h
 exact Le.ao
 refine aq h (fun h=> ?_) fun h=> ?_
 refine az aa ⟨36,[(6,.own 7)],[(7,oa 9 1 eS s1)]⟩ ?_
 refine ak ?_
 obtain rfl:=inj h
 exact bS (bw (bi (bw (aD (f1 (fo fa))))))
 refine an ?_
 refine a8 ?_
 refine aE ?_
 refine ae.ck aa 3 ⟨36,[(0,vl ac ad),(2,vi ag),(32,.own 7),(34,.own 34)],[(7,oa 9 1 eS s1),(34,oa 9 1 eS ([x4.1]:List ByteArray))]⟩ ?_
 obtain⟨x8,hx8,h⟩:=bind_some h
 refine ae.cf (bT (f:=eS) (t:=106) (ti:=cn) (tj:=ig) (zs:=[.string (ByteArray.mk #[])]) (e:=9) (m:=1) (d:=7) (xv:= .own 34) hx8 aa rfl rfl rfl rfl (dj (e:=9))) ?_
 refine ae.ck aa 1 ⟨36,[(0,vl ac ad),(2,vi ag),(7,.own 35)],[(35,oa 9 1 eS x8)]⟩ ?_
 refine ae.nil ?_
 obtain rfl:=inj h
 exact bY (cb (Le.rr [35] [(35,7)]))
theorem zg:a7 Tryz.prog 160:=aw Tryz.func160 (by kernel_rfl) rfl
noncomputable def dk(ad:(List au))(ap:ByteArray)(ag:Int):Option (Bool):=
 ((jv ad ap ag).bind fun x1=>((at' x1 (aZ ((x1.length:Int)- 1))).bind fun x2=>((cE ad x2 ag).bind fun x3=>some x3.2)))
theorem m7(ad:(List au))(ap:ByteArray)(ag:Int)(r:Bool)(h:dk ad ap ag=some r):aF Tryz.prog 108 [.v (vl ac ad),.v (vs ap),.v (vi ag)] ⟨[.v (vb r)],[],false⟩:=by
 refine ar Tryz.func108 rfl [(.tmp 6)] rfl (fun r=>⟨[.v (vb r)],[],false⟩) (r:=r) ?_
 unfold dk at h
 refine az aa ⟨27,[(0,vl ac ad),(1,vs ap),(2,vi ag)],[]⟩ ?_
 refine sr ?_
 refine ae.ck aa 3 ⟨27,[(0,vl ac ad),(2,vi ag),(10,vl ac ad),(11,vs ap),(12,vi ag)],[]⟩ ?_
 obtain⟨x1,hx1,h⟩:=bind_some h
 refine ae.ls (xc zg (pY ad ap ag _ hx1)) ?_
 refine bU aa 1 ⟨27,[(0,vl ac ad),(2,vi ag),(7,.own 13)],[(13,oa 9 1 eS x1)]⟩ ?_
 refine sr ?_
 refine ae.ck aa 5 ⟨27,[(2,vi ag),(15,vl ac ad),(16,.own 13),(19,vi (aZ ((x1.length:Int)- 1)))],[(13,oa 9 1 eS x1)]⟩ ?_
 obtain⟨x2,hx2,h⟩:=bind_some h
 refine ae.ls (bX (d:=13) (L:=x1) (f:=eS) (ti:=cn) (tj:=ig) (e:=9) (e':=9) (m:=1) (k:= .i64) aa rfl hx2) ?_
 refine ae.ls (dd (d:=13) (m:=1) (j:=0) (L:=x1) (f:=eS) (ti:=ig) (e:=9) (v:=vs x2) aa rfl hx2) ?_
 refine ae.ck aa 1 ⟨27,[(15,vl ac ad),(21,vs x2),(22,vi ag)],[]⟩ ?_
 obtain⟨x3,hx3,h⟩:=bind_some h
 refine ae.ls (xc rA (gN ad x2 ag _ hx3)) ?_
 refine bU aa 5 ⟨27,[(9,vb x3.2)],[]⟩ ?_
 refine az aa ⟨27,[(6,vb x3.2)],[]⟩ ?_
 refine ak ?_
 obtain rfl:=inj h
 exact aD (f1 fv)
theorem yT:a7 Tryz.prog 108:=aw Tryz.func108 (by kernel_rfl) rfl
noncomputable def dN(ad:(List au)):Option (Bool):=
 (((cY (ad.length:Int) (fun(i3:Int) (_:Unit)=>((at' ad i3).bind fun x7=>((((iE x7).bind fun x8=>(bif(!x8)then some true else((mh ad 0 i3).bind fun x9=>((bC x9 x7).bind fun x10=>some x10))))).bind fun(j11:Bool)=>(bif j11 then some (.inr (.inr false))else some (.inl ()))))) (fun(_:Unit)=> .inl ()) 0 ())).bind (Sum.elim (fun(_:Unit)=>(((cY (ad.length:Int) (fun(i15:Int) (_:Unit)=>((at' ad i15).bind fun x19=>(cY (ad.length:Int) (fun(i20:Int) (_:Unit)=>((at' ad i20).bind fun x24=>((((bF x24.Years x19.Years.From).bind fun x25=>(bif x25 then((dk ad x24.Child x19.Years.From).bind fun x26=>some x26)else some false))).bind fun(j27:Bool)=>(bif j27 then some (.inr (.inr (.inr false)))else some (.inl ()))))) (fun(_:Unit)=> .inl ()) 0 ()))) (fun(_:Unit)=> .inl ()) 0 ())).bind (Sum.elim (fun(_:Unit)=>some (decide ((ad.length:Int)≤20))) some))) some))
theorem gH(ad:(List au))(r:Bool)(h:dN ad=some r):aF Tryz.prog 55 [.v (vl ac ad)] ⟨[.v (vb r)],[],false⟩:=by
 refine ar Tryz.func55 rfl [(.tmp 2)] rfl (fun r=>⟨[.v (vb r)],[],false⟩) (r:=r) ?_
 unfold dN at h
 refine az aa ⟨59,[(0,vl ac ad)],[]⟩ ?_
 refine ai ?_
 refine az aa ⟨59,[(0,vl ac ad),(9,vl ac ad),(10,vi (ad.length:Int)),(11,vi 0)],[]⟩ ?_
 refine bl (r:=r) h (fun j1=>⟨59,[(0,vl ac ad)],[]⟩) (fun v2 h=> ?_) (fun j1 h=> ?_)
 refine ax (a:=v2) ?_
 refine a6 (r:=v2) (s:=(0,())) _ (fun s3=>⟨59,[(0,vl ac ad),(9,vl ac ad),(10,vi (ad.length:Int)),(11,vi s3.1)],[]⟩) _ (Le.ao) h (fun s3 v4 h=> ?_)
 refine az aa ⟨59,[(0,vl ac ad),(9,vl ac ad),(10,vi (ad.length:Int)),(11,vi s3.1),(12,vb (decide (s3.1<(ad.length:Int))))],[]⟩ ?_
 refine ai ?_
 refine aq h (fun h=> ?_) fun h=> ?_
 refine an ?_
 refine a8 ?_
 refine ai ?_
 refine bp (r:=v4) h (fun j5=>⟨59,[(0,vl ac ad),(9,vl ac ad),(10,vi (ad.length:Int)),(11,vi s3.1)],[]⟩) (fun v6 h=> ?_) (fun j5 h=> ?_)
 refine ax (a:=v6) ?_
 refine sr ?_
 refine ae.ck aa 1 ⟨59,[(0,vl ac ad),(9,vl ac ad),(10,vi (ad.length:Int)),(11,vi s3.1),(13,vi s3.1)],[]⟩ ?_
 obtain⟨x7,hx7,h⟩:=bind_some h
 refine ae.ls (aG (L:=ad) (f:=ac) (ti:=eh) (tj:=ei) (e:=85) (k:= .i64) aa rfl hx7) ?_
 refine bU aa 4 ⟨59,[(0,vl ac ad),(3,vi s3.1),(4,.ref 4 0),(9,vl ac ad),(10,vi (ad.length:Int)),(11,vi s3.1)],[(4,.box (tc ac x7))]⟩ ?_
 refine ai ?_
 refine bk h (fun j11=>⟨59,[(0,vl ac ad),(9,vl ac ad),(10,vi (ad.length:Int)),(11,vi s3.1),(25,vb j11)],[]⟩) (fun v12 h=> ?_) (fun j11 h=> ?_)
 refine ae.ck aa 1 ⟨59,[(0,vl ac ad),(3,vi s3.1),(4,.ref 4 0),(9,vl ac ad),(10,vi (ad.length:Int)),(11,vi s3.1),(16,.agg (tc ac x7))],[(4,.box (tc ac x7))]⟩ ?_
 obtain⟨x8,hx8,h⟩:=bind_some h
 refine ae.ls (xc yR (oP x7 _ hx8)) ?_
 refine ae.ck aa 2 ⟨59,[(0,vl ac ad),(3,vi s3.1),(4,.ref 4 0),(9,vl ac ad),(10,vi (ad.length:Int)),(11,vi s3.1),(19,vb (!x8))],[(4,.box (tc ac x7))]⟩ ?_
 refine ae.cu [(19,fun b=>b)] h (fun h=> ?_) fun h=> ?_
 refine ae.ck aa 6 ⟨59,[(0,vl ac ad),(9,vl ac ad),(10,vi (ad.length:Int)),(11,vi s3.1),(25,vb true)],[]⟩ ?_
 refine ae.nil ?_
 obtain rfl:=inj h
 exact Le.ao
 refine ae.ck aa 2 ⟨59,[(0,vl ac ad),(4,.ref 4 0),(9,vl ac ad),(10,vi (ad.length:Int)),(11,vi s3.1),(19,vb false),(20,vl ac ad),(21,vi s3.1)],[(4,.box (tc ac x7))]⟩ ?_
 obtain⟨x9,hx9,h⟩:=bind_some h
 refine ae.ls (c4 (m:=4) (f:=ac) (ti:=eh) (tj:=ei) (e:=85) hx9 (fun _=>rfl) aa rfl) ?_
 refine ae.ck aa 1 ⟨59,[(0,vl ac ad),(9,vl ac ad),(10,vi (ad.length:Int)),(11,vi s3.1),(19,vb false),(22,vl ac x9),(23,.clo 106 [.ref 4 0])],[(4,.box (tc ac x7))]⟩ ?_
 obtain⟨x10,hx10,h⟩:=bind_some h
 refine ae.ls (xc xx (ed x9 x7 _ hx10)) ?_
 refine ae.ck aa 1 ⟨59,[(0,vl ac ad),(9,vl ac ad),(10,vi (ad.length:Int)),(11,vi s3.1),(25,vb x10)],[]⟩ ?_
 refine ae.nil ?_
 obtain rfl:=inj h
 exact Le.ao
 refine aq h (fun h=> ?_) fun h=> ?_
 refine az aa ⟨59,[(2,vb false)],[]⟩ ?_
 refine ak ?_
 obtain rfl:=inj h
 exact bw (bi (bi (bw (bi (aD (f1 fv))))))
 refine an ?_
 obtain rfl:=inj h
 exact bY (cb (Le.ao))
 refine aE ?_
 refine ae.ck aa 2 ⟨59,[(0,vl ac ad),(9,vl ac ad),(10,vi (ad.length:Int)),(11,vi (aZ (s3.1+1)))],[]⟩ ?_
 refine ae.nil ?_
 obtain rfl:=inj h
 exact cb (Le.ao)
 refine aO ?_
 obtain rfl:=inj h
 exact cH (cJ (cI (cb (Le.ao))))
 refine ai ?_
 refine az aa ⟨59,[(0,vl ac ad),(27,vl ac ad),(28,vi (ad.length:Int)),(29,vi 0)],[]⟩ ?_
 refine bl (r:=r) h (fun j13=>⟨59,[(0,vl ac ad)],[]⟩) (fun v14 h=> ?_) (fun j13 h=> ?_)
 refine ax (a:=v14) ?_
 refine a6 (r:=v14) (s:=(0,())) _ (fun s15=>⟨59,[(0,vl ac ad),(27,vl ac ad),(28,vi (ad.length:Int)),(29,vi s15.1)],[]⟩) _ (Le.ao) h (fun s15 v16 h=> ?_)
 refine az aa ⟨59,[(0,vl ac ad),(27,vl ac ad),(28,vi (ad.length:Int)),(29,vi s15.1),(30,vb (decide (s15.1<(ad.length:Int))))],[]⟩ ?_
 refine ai ?_
 refine aq h (fun h=> ?_) fun h=> ?_
 refine an ?_
 refine a8 ?_
 refine ai ?_
 refine bp (r:=v16) h (fun j17=>⟨59,[(0,vl ac ad),(27,vl ac ad),(28,vi (ad.length:Int)),(29,vi s15.1)],[]⟩) (fun v18 h=> ?_) (fun j17 h=> ?_)
 refine ax (a:=v18) ?_
 refine sr ?_
 obtain⟨x19,hx19,h⟩:=bind_some h
 refine ae.ls (aG (L:=ad) (f:=ac) (ti:=eh) (tj:=ei) (e:=85) (k:= .i64) aa rfl hx19) ?_
 refine bU aa 3 ⟨59,[(0,vl ac ad),(6,.ref 6 0),(27,vl ac ad),(28,vi (ad.length:Int)),(29,vi s15.1)],[(6,.box (tc ac x19))]⟩ ?_
 refine az aa ⟨59,[(0,vl ac ad),(6,.ref 6 0),(27,vl ac ad),(28,vi (ad.length:Int)),(29,vi s15.1),(33,vl ac ad),(34,vi (ad.length:Int)),(35,vi 0)],[(6,.box (tc ac x19))]⟩ ?_
 refine ax (a:=v18) ?_
 refine a6 (r:=v18) (s:=(0,())) _ (fun s20=>⟨59,[(0,vl ac ad),(6,.ref 6 0),(27,vl ac ad),(28,vi (ad.length:Int)),(29,vi s15.1),(33,vl ac ad),(34,vi (ad.length:Int)),(35,vi s20.1)],[(6,.box (tc ac x19))]⟩) _ (Le.ao) h (fun s20 v21 h=> ?_)
 refine az aa ⟨59,[(0,vl ac ad),(6,.ref 6 0),(27,vl ac ad),(28,vi (ad.length:Int)),(29,vi s15.1),(33,vl ac ad),(34,vi (ad.length:Int)),(35,vi s20.1),(36,vb (decide (s20.1<(ad.length:Int))))],[(6,.box (tc ac x19))]⟩ ?_
 refine ai ?_
 refine aq h (fun h=> ?_) fun h=> ?_
 refine an ?_
 refine a8 ?_
 refine ai ?_
 refine bp (r:=v21) h (fun j22=>⟨59,[(0,vl ac ad),(6,.ref 6 0),(27,vl ac ad),(28,vi (ad.length:Int)),(29,vi s15.1),(33,vl ac ad),(34,vi (ad.length:Int)),(35,vi s20.1)],[(6,.box (tc ac x19))]⟩) (fun v23 h=> ?_) (fun j22 h=> ?_)
 refine ax (a:=v23) ?_
 refine sr ?_
 obtain⟨x24,hx24,h⟩:=bind_some h
 refine ae.ls (aG (L:=ad) (f:=ac) (ti:=eh) (tj:=ei) (e:=85) (k:= .i64) aa rfl hx24) ?_
 refine bU aa 3 ⟨59,[(0,vl ac ad),(6,.ref 6 0),(8,.ref 8 0),(27,vl ac ad),(28,vi (ad.length:Int)),(29,vi s15.1),(33,vl ac ad),(34,vi (ad.length:Int)),(35,vi s20.1)],[(6,.box (tc ac x19)),(8,.box (tc ac x24))]⟩ ?_
 refine ai ?_
 refine bk h (fun j27=>⟨59,[(0,vl ac ad),(6,.ref 6 0),(27,vl ac ad),(28,vi (ad.length:Int)),(29,vi s15.1),(33,vl ac ad),(34,vi (ad.length:Int)),(35,vi s20.1),(53,vb j27)],[(6,.box (tc ac x19))]⟩) (fun v28 h=> ?_) (fun j27 h=> ?_)
 refine ae.ck aa 5 ⟨59,[(0,vl ac ad),(6,.ref 6 0),(8,.ref 8 0),(27,vl ac ad),(28,vi (ad.length:Int)),(29,vi s15.1),(33,vl ac ad),(34,vi (ad.length:Int)),(35,vi s20.1),(40,.agg (tc bc x24.Years)),(43,vi x19.Years.From)],[(6,.box (tc ac x19)),(8,.box (tc ac x24))]⟩ ?_
 obtain⟨x25,hx25,h⟩:=bind_some h
 refine ae.ls (xc lb (ct x24.Years x19.Years.From _ hx25)) ?_
 refine ae.ck aa 1 ⟨59,[(0,vl ac ad),(6,.ref 6 0),(8,.ref 8 0),(27,vl ac ad),(28,vi (ad.length:Int)),(29,vi s15.1),(33,vl ac ad),(34,vi (ad.length:Int)),(35,vi s20.1),(45,vb x25)],[(6,.box (tc ac x19)),(8,.box (tc ac x24))]⟩ ?_
 refine ae.cu [(45,fun b=>b)] h (fun h=> ?_) fun h=> ?_
 refine ae.ck aa 6 ⟨59,[(0,vl ac ad),(6,.ref 6 0),(27,vl ac ad),(28,vi (ad.length:Int)),(29,vi s15.1),(33,vl ac ad),(34,vi (ad.length:Int)),(35,vi s20.1),(45,vb true),(46,vl ac ad),(48,vs x24.Child),(51,vi x19.Years.From)],[(6,.box (tc ac x19))]⟩ ?_
 obtain⟨x26,hx26,h⟩:=bind_some h
 refine ae.ls (xc yT (m7 ad x24.Child x19.Years.From _ hx26)) ?_
 refine ae.ck aa 1 ⟨59,[(0,vl ac ad),(6,.ref 6 0),(27,vl ac ad),(28,vi (ad.length:Int)),(29,vi s15.1),(33,vl ac ad),(34,vi (ad.length:Int)),(35,vi s20.1),(53,vb x26)],[(6,.box (tc ac x19))]⟩ ?_
 refine ae.nil ?_
 obtain rfl:=inj h
 exact Le.ao
 refine ae.ck aa 8 ⟨59,[(0,vl ac ad),(6,.ref 6 0),(27,vl ac ad),(28,vi (ad.length:Int)),(29,vi s15.1),(33,vl ac ad),(34,vi (ad.length:Int)),(35,vi s20.1),(53,vb false)],[(6,.box (tc ac x19))]⟩ ?_
 refine ae.nil ?_
 obtain rfl:=inj h
 exact Le.ao
 refine aq h (fun h=> ?_) fun h=> ?_
 refine az aa ⟨59,[(2,vb false)],[]⟩ ?_
 refine ak ?_
 obtain rfl:=inj h
 exact bw (bi (bi (bw (bw (bi (bi (bw (bi (aD (f1 fv))))))))))
 refine an ?_
 obtain rfl:=inj h
 exact bY (cb (Le.ao))
 refine aE ?_
 refine ae.ck aa 2 ⟨59,[(0,vl ac ad),(6,.ref 6 0),(27,vl ac ad),(28,vi (ad.length:Int)),(29,vi s15.1),(33,vl ac ad),(34,vi (ad.length:Int)),(35,vi (aZ (s20.1+1)))],[(6,.box (tc ac x19))]⟩ ?_
 refine ae.nil ?_
 obtain rfl:=inj h
 exact cb (Le.ao)
 refine aO ?_
 obtain rfl:=inj h
 exact cH (cJ (cI (bY (cb (Le.ao)))))
 refine aE ?_
 refine ae.ck aa 2 ⟨59,[(0,vl ac ad),(27,vl ac ad),(28,vi (ad.length:Int)),(29,vi (aZ (s15.1+1)))],[]⟩ ?_
 refine ae.nil ?_
 obtain rfl:=inj h
 exact cb (Le.ao)
 refine aO ?_
 obtain rfl:=inj h
 exact cH (cJ (cI (cb (Le.ao))))
 refine az aa ⟨59,[(2,vb (decide ((ad.length:Int)≤20)))],[]⟩ ?_
 refine ak ?_
 obtain rfl:=inj h
 exact aD (f1 fv)
theorem uB:a7 Tryz.prog 55:=aw Tryz.func55 (by kernel_rfl) rfl
theorem l6(s c:ByteArray)(r:Int)(h:strings_Compare s c=some r):aF Tryz.prog 164 [.v (.tr (.str s)),.v (.tr (.str c))] ⟨[.v (.tr (.int .i64 r))],[],false⟩:=sQ Tryz.zQ 164 rfl s c r h
theorem zi:a7 Tryz.prog 164:=aw Tryz.func164 (by kernel_rfl) rfl
noncomputable def cT(aP:Place)(ap:ByteArray):Option (Int):=
 ((strings_Compare aP.Code ap).bind fun x1=>some x1)
theorem iD(aP:Place)(ap:ByteArray)(r:Int)(h:cT aP ap=some r):aF Tryz.prog 163 [.v (.agg (tc ab aP)),.v (vs ap)] ⟨[.v (vi r)],[],false⟩:=by
 refine ar Tryz.func163 rfl [(.tmp 4)] rfl (fun r=>⟨[.v (vi r)],[],false⟩) (r:=r) ?_
 unfold cT at h
 refine az aa ⟨9,[(1,vs ap),(2,.ref 2 0)],[(2,.box (tc ab aP))]⟩ ?_
 refine sr ?_
 refine ae.ck aa 3 ⟨9,[(6,vs aP.Code),(7,vs ap)],[]⟩ ?_
 obtain⟨x1,hx1,h⟩:=bind_some h
 refine ae.ls (xc zi (l6 aP.Code ap _ hx1)) ?_
 refine bU aa 1 ⟨9,[(4,vi x1)],[]⟩ ?_
 refine ak ?_
 obtain rfl:=inj h
 exact aD (f1 fv)
theorem vx:a7 Tryz.prog 163:=aw Tryz.func163 (by kernel_rfl) rfl
noncomputable def bq(aX:(List Place))(cF:ByteArray):Option (Int×Bool):=
 (((loop (fun(s3:Int×Int)=>(bif(decide (s3.1<s3.2))then((at' aX (aZ (Int.fdiv (IntKind.wrap .u64 (aZ (s3.1+s3.2))) (2^1)))).bind fun x5=>((cT x5 cF).bind fun x6=>(bif(decide (x6<0))then some (.inl ((aZ ((aZ (Int.fdiv (IntKind.wrap .u64 (aZ (s3.1+s3.2))) (2^1)))+1)),s3.2))else some (.inl (s3.1,(aZ (Int.fdiv (IntKind.wrap .u64 (aZ (s3.1+s3.2))) (2^1))))))))else some (.inr s3.1))) (0,(aX.length:Int)))).bind fun(j1:Int)=>(((bif(decide (j1<(aX.length:Int)))then((at' aX j1).bind fun x7=>((cT x7 cF).bind fun x8=>some (x8==0)))else some false)).bind fun(j9:Bool)=>some (j1,j9)))
theorem dr(aX:(List Place))(cF:ByteArray)(r:Int×Bool)(h:bq aX cF=some r):aF Tryz.prog 162 [.v (vl ab aX),.v (vs cF),.v (.clo 163 [])] ⟨[.v (vi r.1),.v (vb r.2)],[],false⟩:=by
 refine ar Tryz.func162 rfl [(.tmp 6),(.tmp 7)] rfl (fun r=>⟨[.v (vi r.1),.v (vb r.2)],[],false⟩) (r:=r) ?_
 unfold bq at h
 refine az aa ⟨49,[(0,vl ab aX),(1,vs cF),(2,.clo 163 [])],[]⟩ ?_
 refine az aa ⟨49,[(0,vl ab aX),(1,vs cF),(2,.clo 163 []),(8,vi (aX.length:Int))],[]⟩ ?_
 refine az aa ⟨49,[(0,vl ab aX),(1,vs cF),(2,.clo 163 []),(8,vi (aX.length:Int)),(9,vi 0),(10,vi (aX.length:Int))],[]⟩ ?_
 refine ai ?_
 refine bg h (fun j1=>⟨49,[(0,vl ab aX),(1,vs cF),(2,.clo 163 []),(8,vi (aX.length:Int)),(9,vi j1)],[]⟩) (fun v2 h=> ?_) (fun j1 h=> ?_)
 refine ax (a:=v2) ?_
 refine a6 (r:=v2) (s:=(0,(aX.length:Int))) _ (fun s3=>⟨49,[(0,vl ab aX),(1,vs cF),(2,.clo 163 []),(8,vi (aX.length:Int)),(9,vi s3.1),(10,vi s3.2)],[]⟩) _ (Le.ao) h (fun s3 v4 h=> ?_)
 refine ai ?_
 refine az aa ⟨49,[(0,vl ab aX),(1,vs cF),(2,.clo 163 []),(8,vi (aX.length:Int)),(9,vi s3.1),(10,vi s3.2),(17,vb (decide (s3.1<s3.2)))],[]⟩ ?_
 refine aq h (fun h=> ?_) fun h=> ?_
 refine an ?_
 refine a8 ?_
 refine ax (a:=v4) ?_
 refine az aa ⟨49,[(0,vl ab aX),(1,vs cF),(2,.clo 163 []),(8,vi (aX.length:Int)),(9,vi s3.1),(10,vi s3.2),(11,vi (aZ (Int.fdiv (IntKind.wrap .u64 (aZ (s3.1+s3.2))) (2^1))))],[]⟩ ?_
 refine sr ?_
 refine ae.ck aa 3 ⟨49,[(0,vl ab aX),(1,vs cF),(2,.clo 163 []),(8,vi (aX.length:Int)),(9,vi s3.1),(10,vi s3.2),(11,vi (aZ (Int.fdiv (IntKind.wrap .u64 (aZ (s3.1+s3.2))) (2^1)))),(24,.clo 163 []),(25,vl ab aX),(26,vi (aZ (Int.fdiv (IntKind.wrap .u64 (aZ (s3.1+s3.2))) (2^1))))],[]⟩ ?_
 obtain⟨x5,hx5,h⟩:=bind_some h
 refine ae.ls (aG (L:=aX) (f:=ab) (ti:=df) (tj:=cD) (e:=91) (k:= .i64) aa rfl hx5) ?_
 refine ae.ck aa 2 ⟨49,[(0,vl ab aX),(1,vs cF),(2,.clo 163 []),(8,vi (aX.length:Int)),(9,vi s3.1),(10,vi s3.2),(11,vi (aZ (Int.fdiv (IntKind.wrap .u64 (aZ (s3.1+s3.2))) (2^1)))),(24,.clo 163 []),(28,.agg (tc ab x5)),(29,vs cF)],[]⟩ ?_
 obtain⟨x6,hx6,h⟩:=bind_some h
 refine ae.ls (xc vx (iD x5 cF _ hx6)) ?_
 refine bU aa 1 ⟨49,[(0,vl ab aX),(1,vs cF),(2,.clo 163 []),(8,vi (aX.length:Int)),(9,vi s3.1),(10,vi s3.2),(11,vi (aZ (Int.fdiv (IntKind.wrap .u64 (aZ (s3.1+s3.2))) (2^1)))),(31,vb (decide (x6<0)))],[]⟩ ?_
 refine aq h (fun h=> ?_) fun h=> ?_
 refine aE ?_
 refine ae.ck aa 3 ⟨49,[(0,vl ab aX),(1,vs cF),(2,.clo 163 []),(8,vi (aX.length:Int)),(9,vi (aZ ((aZ (Int.fdiv (IntKind.wrap .u64 (aZ (s3.1+s3.2))) (2^1)))+1))),(10,vi s3.2)],[]⟩ ?_
 refine ae.nil ?_
 obtain rfl:=inj h
 exact bY (cb (Le.ao))
 refine aE ?_
 refine ae.ck aa 2 ⟨49,[(0,vl ab aX),(1,vs cF),(2,.clo 163 []),(8,vi (aX.length:Int)),(9,vi s3.1),(10,vi (aZ (Int.fdiv (IntKind.wrap .u64 (aZ (s3.1+s3.2))) (2^1))))],[]⟩ ?_
 refine ae.nil ?_
 obtain rfl:=inj h
 exact bY (cb (Le.ao))
 refine aO ?_
 obtain rfl:=inj h
 exact cH (cJ (cI (fO (Le.ao))))
 refine ai ?_
 refine bk h (fun j9=>⟨49,[(6,vi j1),(7,vb j9)],[]⟩) (fun v10 h=> ?_) (fun j9 h=> ?_)
 refine ae.ck aa 5 ⟨49,[(0,vl ab aX),(1,vs cF),(2,.clo 163 []),(9,vi j1),(35,vi j1),(39,vb (decide (j1<(aX.length:Int))))],[]⟩ ?_
 refine ae.cu [(39,fun b=>b)] h (fun h=> ?_) fun h=> ?_
 refine ae.ck aa 3 ⟨49,[(1,vs cF),(35,vi j1),(39,vb true),(40,.clo 163 []),(41,vl ab aX),(42,vi j1)],[]⟩ ?_
 obtain⟨x7,hx7,h⟩:=bind_some h
 refine ae.ls (aG (L:=aX) (f:=ab) (ti:=df) (tj:=cD) (e:=91) (k:= .i64) aa rfl hx7) ?_
 refine ae.ck aa 2 ⟨49,[(35,vi j1),(39,vb true),(40,.clo 163 []),(44,.agg (tc ab x7)),(45,vs cF)],[]⟩ ?_
 obtain⟨x8,hx8,h⟩:=bind_some h
 refine ae.ls (xc vx (iD x7 cF _ hx8)) ?_
 refine ae.ck aa 4 ⟨49,[(6,vi j1),(7,vb (x8==0))],[]⟩ ?_
 refine ae.nil ?_
 obtain rfl:=inj h
 exact Le.ao
 refine ae.ck aa 11 ⟨49,[(6,vi j1),(7,vb false)],[]⟩ ?_
 refine ae.nil ?_
 obtain rfl:=inj h
 exact Le.ao
 refine ak ?_
 obtain rfl:=inj h
 exact aD (f2 fv fv)
theorem zh:a7 Tryz.prog 162:=aw Tryz.func162 (by kernel_rfl) rfl
noncomputable def bZ(ad:(List Place))(ap:ByteArray):Option (Int×Bool):=
 ((bq ad ap).bind fun x1=>some (x1.1,x1.2))
theorem dy(ad:(List Place))(ap:ByteArray)(r:Int×Bool)(h:bZ ad ap=some r):aF Tryz.prog 110 [.v (vl ab ad),.v (vs ap)] ⟨[.v (vi r.1),.v (vb r.2)],[],false⟩:=by
 refine ar Tryz.func110 rfl [(.tmp 4),(.tmp 5)] rfl (fun r=>⟨[.v (vi r.1),.v (vb r.2)],[],false⟩) (r:=r) ?_
 unfold bZ at h
 refine az aa ⟨11,[(0,vl ab ad),(1,vs ap)],[]⟩ ?_
 refine sr ?_
 refine ae.ck aa 2 ⟨11,[(6,vl ab ad),(7,vs ap)],[]⟩ ?_
 obtain⟨x1,hx1,h⟩:=bind_some h
 refine ae.ls (xc zh (dr ad ap _ hx1)) ?_
 refine bU aa 4 ⟨11,[(4,vi x1.1),(5,vb x1.2)],[]⟩ ?_
 refine ak ?_
 obtain rfl:=inj h
 exact aD (f2 fv fv)
theorem mT:a7 Tryz.prog 110:=aw Tryz.func110 (by kernel_rfl) rfl
noncomputable def c7(aW:World)(ap:ByteArray)(aS:Span):Option (Bool):=
 ((bZ aW.Places ap).bind fun x1=>(((bif x1.2 then((at' aW.Places x1.1).bind fun x2=>((dZ aS x2.Years).bind fun x3=>some x3))else some false)).bind fun(j4:Bool)=>some j4))
theorem ik(aW:World)(ap:ByteArray)(aS:Span)(r:Bool)(h:c7 aW ap aS=some r):aF Tryz.prog 58 [.v (.agg (tc aj aW)),.v (vs ap),.v (.agg (tc bc aS))] ⟨[.v (vb r)],[],false⟩:=by
 refine ar Tryz.func58 rfl [(.tmp 6)] rfl (fun r=>⟨[.v (vb r)],[],false⟩) (r:=r) ?_
 unfold c7 at h
 refine az aa ⟨27,[(1,vs ap),(3,.ref 3 0),(5,.ref 5 0)],[(3,.box (tc aj aW)),(5,.box (tc bc aS))]⟩ ?_
 refine sr ?_
 refine ae.ck aa 3 ⟨27,[(3,.ref 3 0),(5,.ref 5 0),(11,vl ab aW.Places),(12,vs ap)],[(3,.box (tc aj aW)),(5,.box (tc bc aS))]⟩ ?_
 obtain⟨x1,hx1,h⟩:=bind_some h
 refine ae.ls (xc mT (dy aW.Places ap _ hx1)) ?_
 refine bU aa 5 ⟨27,[(3,.ref 3 0),(5,.ref 5 0),(7,vi x1.1),(8,vb x1.2)],[(3,.box (tc aj aW)),(5,.box (tc bc aS))]⟩ ?_
 refine ai ?_
 refine jf mixed h (fun j4=>⟨27,[(6,vb j4)],[]⟩) (fun v5 h=> ?_) (fun j4 h=> ?_)
 refine aQ.ck aa false 2 ⟨27,[(3,.ref 3 0),(5,.ref 5 0),(7,vi x1.1),(17,vb x1.2)],[(3,.box (tc aj aW)),(5,.box (tc bc aS))]⟩ ?_
 refine aQ.cu [(17,fun b=>b)] h (fun h=> ?_) fun h=> ?_
 refine aQ.ck aa false 4 ⟨27,[(17,vb true),(18,.agg (tc bc aS)),(20,vl ab aW.Places),(21,vi x1.1)],[]⟩ ?_
 obtain⟨x2,hx2,h⟩:=bind_some h
 refine aQ.step (aG (L:=aW.Places) (f:=ab) (ti:=df) (tj:=cD) (e:=91) (k:= .i64) aa rfl hx2) ?_
 refine aQ.ck aa false 2 ⟨27,[(17,vb true),(18,.agg (tc bc aS)),(24,.agg (tc bc x2.Years))],[]⟩ ?_
 obtain⟨x3,hx3,h⟩:=bind_some h
 refine aQ.step (xc vp (jt aS x2.Years _ hx3)) ?_
 refine aQ.ck aa false 2 ⟨27,[(6,vb x3)],[]⟩ ?_
 refine aQ.nil (by kernel_rfl) ?_
 obtain rfl:=inj h
 exact Le.ao
 refine aQ.ck aa false 10 ⟨27,[(6,vb false)],[]⟩ ?_
 refine aQ.nil (by kernel_rfl) ?_
 obtain rfl:=inj h
 exact Le.ao
 refine ak ?_
 obtain rfl:=inj h
 exact aD (f1 fv)
theorem xy:a7 Tryz.prog 58:=aw Tryz.func58 (by kernel_rfl) rfl
noncomputable def gL(aL:au)(c0:World):Option (Bool):=
 ((((c7 c0 aL.Child aL.Years).bind fun x1=>(bif(!x1)then some true else((c7 c0 aL.Parent aL.Years).bind fun x2=>some (!x2))))).bind fun(j3:Bool)=>some j3)
theorem my(aL:au)(c0:World)(r:Bool)(h:gL aL c0=some r):aF Tryz.prog 57 [.v (.agg (tc ac aL)),.v (.ptr [vl ab c0.Places,vl ac c0.Links] 0)] ⟨[.v (vb r)],[],false⟩:=by
 refine ar Tryz.func57 rfl [(.tmp 3)] rfl (fun r=>⟨[.v (vb r)],[],false⟩) (r:=r) ?_
 unfold gL at h
 refine az aa ⟨20,[(1,.ptr [vl ab c0.Places,vl ac c0.Links] 0),(2,.ref 2 0)],[(2,.box (tc ac aL))]⟩ ?_
 refine ai ?_
 refine bk h (fun j3=>⟨20,[(3,vb j3)],[]⟩) (fun v4 h=> ?_) (fun j3 h=> ?_)
 refine ae.ck aa 5 ⟨20,[(1,.ptr [vl ab c0.Places,vl ac c0.Links] 0),(2,.ref 2 0),(4,.agg (tc aj c0)),(6,vs aL.Child),(8,.agg (tc bc aL.Years))],[(2,.box (tc ac aL))]⟩ ?_
 obtain⟨x1,hx1,h⟩:=bind_some h
 refine ae.ls (xc xy (ik c0 aL.Child aL.Years _ hx1)) ?_
 refine ae.ck aa 2 ⟨20,[(1,.ptr [vl ab c0.Places,vl ac c0.Links] 0),(2,.ref 2 0),(11,vb (!x1))],[(2,.box (tc ac aL))]⟩ ?_
 refine ae.cu [(11,fun b=>b)] h (fun h=> ?_) fun h=> ?_
 refine ae.ck aa 9 ⟨20,[(3,vb true)],[]⟩ ?_
 refine ae.nil ?_
 obtain rfl:=inj h
 exact Le.ao
 refine ae.ck aa 5 ⟨20,[(11,vb false),(12,.agg (tc aj c0)),(14,vs aL.Parent),(16,.agg (tc bc aL.Years))],[]⟩ ?_
 obtain⟨x2,hx2,h⟩:=bind_some h
 refine ae.ls (xc xy (ik c0 aL.Parent aL.Years _ hx2)) ?_
 refine ae.ck aa 3 ⟨20,[(3,vb (!x2))],[]⟩ ?_
 refine ae.nil ?_
 obtain rfl:=inj h
 exact Le.ao
 refine ak ?_
 obtain rfl:=inj h
 exact aD (f1 fv)
theorem AR:a7 Tryz.prog 57:=aw Tryz.func57 (by kernel_rfl) rfl
noncomputable def bP(aS:(List au))(aU:World):Option (Int):=
 (((cY (aS.length:Int) (fun(i3:Int) (_:Unit)=>((at' aS i3).bind fun x7=>((gL x7 aU).bind fun x8=>(bif x8 then some (.inr (.inr i3))else some (.inl ()))))) (fun(_:Unit)=> .inl ()) 0 ())).bind (Sum.elim (fun(_:Unit)=>some (-1)) some))
theorem e7(aS:(List au))(aU:World)(r:Int)(h:bP aS aU=some r):aF Tryz.prog 109 [.v (vl ac aS),.v (.clo 57 [.ptr [vl ab aU.Places,vl ac aU.Links] 0])] ⟨[.v (vi r)],[],false⟩:=by
 refine ar Tryz.func109 rfl [(.tmp 4)] rfl (fun r=>⟨[.v (vi r)],[],false⟩) (r:=r) ?_
 unfold bP at h
 refine az aa ⟨19,[(0,vl ac aS),(1,.clo 57 [.ptr [vl ab aU.Places,vl ac aU.Links] 0])],[]⟩ ?_
 refine ai ?_
 refine az aa ⟨19,[(0,vl ac aS),(1,.clo 57 [.ptr [vl ab aU.Places,vl ac aU.Links] 0]),(7,vi (aS.length:Int)),(8,vi 0)],[]⟩ ?_
 refine bl (r:=r) h (fun j1=>⟨19,[],[]⟩) (fun v2 h=> ?_) (fun j1 h=> ?_)
 refine ax (a:=v2) ?_
 refine a6 (r:=v2) (s:=(0,())) _ (fun s3=>⟨19,[(0,vl ac aS),(1,.clo 57 [.ptr [vl ab aU.Places,vl ac aU.Links] 0]),(7,vi (aS.length:Int)),(8,vi s3.1)],[]⟩) _ (Le.ao) h (fun s3 v4 h=> ?_)
 refine az aa ⟨19,[(0,vl ac aS),(1,.clo 57 [.ptr [vl ab aU.Places,vl ac aU.Links] 0]),(7,vi (aS.length:Int)),(8,vi s3.1),(9,vb (decide (s3.1<(aS.length:Int))))],[]⟩ ?_
 refine ai ?_
 refine aq h (fun h=> ?_) fun h=> ?_
 refine an ?_
 refine a8 ?_
 refine ai ?_
 refine bp (r:=v4) h (fun j5=>⟨19,[(0,vl ac aS),(1,.clo 57 [.ptr [vl ab aU.Places,vl ac aU.Links] 0]),(7,vi (aS.length:Int)),(8,vi s3.1)],[]⟩) (fun v6 h=> ?_) (fun j5 h=> ?_)
 refine ax (a:=v6) ?_
 refine az aa ⟨19,[(0,vl ac aS),(1,.clo 57 [.ptr [vl ab aU.Places,vl ac aU.Links] 0]),(5,vi s3.1),(7,vi (aS.length:Int)),(8,vi s3.1)],[]⟩ ?_
 refine sr ?_
 refine ae.ck aa 3 ⟨19,[(0,vl ac aS),(1,.clo 57 [.ptr [vl ab aU.Places,vl ac aU.Links] 0]),(5,vi s3.1),(7,vi (aS.length:Int)),(8,vi s3.1),(11,.clo 57 [.ptr [vl ab aU.Places,vl ac aU.Links] 0]),(12,vl ac aS),(13,vi s3.1)],[]⟩ ?_
 obtain⟨x7,hx7,h⟩:=bind_some h
 refine ae.ls (aG (L:=aS) (f:=ac) (ti:=eh) (tj:=ei) (e:=85) (k:= .i64) aa rfl hx7) ?_
 refine ae.ck aa 1 ⟨19,[(0,vl ac aS),(1,.clo 57 [.ptr [vl ab aU.Places,vl ac aU.Links] 0]),(5,vi s3.1),(7,vi (aS.length:Int)),(8,vi s3.1),(11,.clo 57 [.ptr [vl ab aU.Places,vl ac aU.Links] 0]),(15,.agg (tc ac x7))],[]⟩ ?_
 obtain⟨x8,hx8,h⟩:=bind_some h
 refine ae.ls (xc AR (my x7 aU _ hx8)) ?_
 refine ae.nx ?_
 refine aq h (fun h=> ?_) fun h=> ?_
 refine az aa ⟨19,[(4,vi s3.1)],[]⟩ ?_
 refine ak ?_
 obtain rfl:=inj h
 exact bw (bi (bi (bw (bi (aD (f1 fv))))))
 refine an ?_
 obtain rfl:=inj h
 exact bY (cb (Le.ao))
 refine aE ?_
 refine ae.ck aa 2 ⟨19,[(0,vl ac aS),(1,.clo 57 [.ptr [vl ab aU.Places,vl ac aU.Links] 0]),(7,vi (aS.length:Int)),(8,vi (aZ (s3.1+1)))],[]⟩ ?_
 refine ae.nil ?_
 obtain rfl:=inj h
 exact cb (Le.ao)
 refine aO ?_
 obtain rfl:=inj h
 exact cH (cJ (cI (cb (Le.ao))))
 refine az aa ⟨19,[(4,vi (-1))],[]⟩ ?_
 refine ak ?_
 obtain rfl:=inj h
 exact aD (f1 fv)
noncomputable def bH(aS:(List au))(aU:World):Option (Bool):=
 ((bP aS aU).bind fun x1=>some (decide (x1≥0)))
theorem eo(aS:(List au))(aU:World)(r:Bool)(h:bH aS aU=some r):aF Tryz.prog 56 [.v (vl ac aS),.v (.clo 57 [.ptr [vl ab aU.Places,vl ac aU.Links] 0])] ⟨[.v (vb r)],[],false⟩:=by
 refine ar Tryz.func56 rfl [(.tmp 4)] rfl (fun r=>⟨[.v (vb r)],[],false⟩) (r:=r) ?_
 unfold bH at h
 refine az aa ⟨9,[(0,vl ac aS),(1,.clo 57 [.ptr [vl ab aU.Places,vl ac aU.Links] 0])],[]⟩ ?_
 refine sr ?_
 refine ae.ck aa 2 ⟨9,[(5,vl ac aS),(6,.clo 57 [.ptr [vl ab aU.Places,vl ac aU.Links] 0])],[]⟩ ?_
 obtain⟨x1,hx1,h⟩:=bind_some h
 refine ae.ls (xc rp (e7 aS aU _ hx1)) ?_
 refine bU aa 2 ⟨9,[(4,vb (decide (x1≥0)))],[]⟩ ?_
 refine ak ?_
 obtain rfl:=inj h
 exact aD (f1 fv)
noncomputable def fE(aW:World):Option (Bool):=
 ((((eG aW.Places).bind fun x1=>(bif x1 then((dN aW.Links).bind fun x2=>(bif x2 then((bH aW.Links aW).bind fun x3=>some (!x3))else some false))else some false))).bind fun(j4:Bool)=>some j4)
theorem ki(aW:World)(r:Bool)(h:fE aW=some r):aF Tryz.prog 24 [.v (.agg (tc aj aW))] ⟨[.v (vb r)],[],false⟩:=by
 refine ar Tryz.func24 rfl [(.tmp 2)] rfl (fun r=>⟨[.v (vb r)],[],false⟩) (r:=r) ?_
 unfold fE at h
 refine az aa ⟨18,[(1,.ref 1 0)],[(1,.box (tc aj aW))]⟩ ?_
 refine ai ?_
 refine bk h (fun j4=>⟨18,[(2,vb j4)],[]⟩) (fun v5 h=> ?_) (fun j4 h=> ?_)
 refine ae.ck aa 2 ⟨18,[(1,.ref 1 0),(4,vl ab aW.Places)],[(1,.box (tc aj aW))]⟩ ?_
 obtain⟨x1,hx1,h⟩:=bind_some h
 refine ae.ls (xc AQ (lW aW.Places _ hx1)) ?_
 refine ae.ck aa 1 ⟨18,[(1,.ref 1 0),(6,vb x1)],[(1,.box (tc aj aW))]⟩ ?_
 refine ae.cu [(6,fun b=>b)] h (fun h=> ?_) fun h=> ?_
 refine ae.ck aa 2 ⟨18,[(1,.ref 1 0),(6,vb true),(8,vl ac aW.Links)],[(1,.box (tc aj aW))]⟩ ?_
 obtain⟨x2,hx2,h⟩:=bind_some h
 refine ae.ls (xc uB (gH aW.Links _ hx2)) ?_
 refine ae.ck aa 2 ⟨18,[(1,.ref 1 0),(11,vb x2)],[(1,.box (tc aj aW))]⟩ ?_
 refine ae.cu [(11,fun b=>b)] h (fun h=> ?_) fun h=> ?_
 refine ae.ck aa 3 ⟨18,[(11,vb true),(13,vl ac aW.Links),(14,.clo 57 [.ref 1 0])],[(1,.box (tc aj aW))]⟩ ?_
 obtain⟨x3,hx3,h⟩:=bind_some h
 refine ae.ls (xc xx (eo aW.Links aW _ hx3)) ?_
 refine ae.ck aa 3 ⟨18,[(2,vb (!x3))],[]⟩ ?_
 refine ae.nil ?_
 obtain rfl:=inj h
 exact Le.ao
 refine ae.ck aa 7 ⟨18,[(2,vb false)],[]⟩ ?_
 refine ae.nil ?_
 obtain rfl:=inj h
 exact Le.ao
 refine ae.ck aa 12 ⟨18,[(2,vb false)],[]⟩ ?_
 refine ae.nil ?_
 obtain rfl:=inj h
 exact Le.ao
 refine ak ?_
 obtain rfl:=inj h
 exact aD (f1 fv)
theorem xr:a7 Tryz.prog 24:=aw Tryz.func24 (by kernel_rfl) rfl
noncomputable def ca(aC:Change):Option (Bool):=
 some ((aC.Kind==2) || (aC.Kind==3))
theorem dO(aC:Change)(r:Bool)(h:ca aC=some r):aF Tryz.prog 79 [.v (.agg (tc ah aC))] ⟨[.v (vb r)],[],false⟩:=by
 refine ar Tryz.func79 rfl [(.tmp 2)] rfl (fun r=>⟨[.v (vb r)],[],false⟩) (r:=r) ?_
 unfold ca at h
 refine az aa ⟨11,[(1,.ref 1 0)],[(1,.box (tc ah aC))]⟩ ?_
 refine ai ?_
 refine cQ ⟨11,[(2,vb ((aC.Kind==2) || (aC.Kind==3)))],[]⟩ ?_ ?_
 refine ae.ck aa 4 ⟨11,[(1,.ref 1 0),(6,vb (aC.Kind==2))],[(1,.box (tc ah aC))]⟩ ?_
 generalize (aC.Kind==2)=bb
 cases bb
 refine ae.ck aa 5 ⟨11,[(2,vb (aC.Kind==3))],[]⟩ ?_
 exact ae.nil (Le.ao)
 refine ae.ck aa 5 ⟨11,[(2,vb true)],[]⟩ ?_
 exact ae.nil (Le.ao)
 refine ak ?_
 obtain rfl:=inj h
 exact aD (f1 fv)
theorem uD:a7 Tryz.prog 79:=aw Tryz.func79 (by kernel_rfl) rfl
noncomputable def eU(aC:Change):Option (Bool):=
 ((((dm aC.Year (-2999) 3000).bind fun x1=>(bif(!x1)then some true else((dm aC.Kind 0 3).bind fun x2=>(bif(!x2)then some true else((et aC.Code).bind fun x3=>some (!x3))))))).bind fun(j4:Bool)=>(bif j4 then some false else((ca aC).bind fun x6=>(((bif x6 then((et aC.Other).bind fun x9=>(bif x9 then some (!(aC.Other.toList==aC.Code.toList))else some false))else some (aC.Other.toList==(ByteArray.mk #[]).toList))).bind fun(j7:Bool)=>(((bif(aC.Kind==0)then((da aC.Language).bind fun x12=>(bif x12 then((dP aC.Text).bind fun x13=>some x13)else some false))else some ((aC.Language.toList==(ByteArray.mk #[]).toList)&&(aC.Text.toList==(ByteArray.mk #[]).toList)))).bind fun(j10:Bool)=>some (j7&&j10))))))
theorem jK(aC:Change)(r:Bool)(h:eU aC=some r):aF Tryz.prog 36 [.v (.agg (tc ah aC))] ⟨[.v (vb r)],[],false⟩:=by
 refine ar Tryz.func36 rfl [(.tmp 2)] rfl (fun r=>⟨[.v (vb r)],[],false⟩) (r:=r) ?_
 unfold eU at h
 refine az aa ⟨59,[(1,.ref 1 0)],[(1,.box (tc ah aC))]⟩ ?_
 refine ai ?_
 refine ai ?_
 refine bk h (fun j4=>⟨59,[(1,.ref 1 0),(20,vb j4)],[(1,.box (tc ah aC))]⟩) (fun v5 h=> ?_) (fun j4 h=> ?_)
 refine ae.ck aa 2 ⟨59,[(1,.ref 1 0),(6,vi aC.Year)],[(1,.box (tc ah aC))]⟩ ?_
 obtain⟨x1,hx1,h⟩:=bind_some h
 refine ae.ls (xc mw (db aC.Year (-2999) 3000 _ hx1)) ?_
 refine ae.ck aa 2 ⟨59,[(1,.ref 1 0),(9,vb (!x1))],[(1,.box (tc ah aC))]⟩ ?_
 refine ae.cu [(9,fun b=>b)] h (fun h=> ?_) fun h=> ?_
 refine ae.ck aa 11 ⟨59,[(1,.ref 1 0),(20,vb true)],[(1,.box (tc ah aC))]⟩ ?_
 refine ae.nil ?_
 obtain rfl:=inj h
 exact Le.ao
 refine ae.ck aa 2 ⟨59,[(1,.ref 1 0),(9,vb false),(11,vi aC.Kind)],[(1,.box (tc ah aC))]⟩ ?_
 obtain⟨x2,hx2,h⟩:=bind_some h
 refine ae.ls (xc mw (db aC.Kind 0 3 _ hx2)) ?_
 refine ae.ck aa 3 ⟨59,[(1,.ref 1 0),(15,vb (!x2))],[(1,.box (tc ah aC))]⟩ ?_
 refine ae.cu [(15,fun b=>b)] h (fun h=> ?_) fun h=> ?_
 refine ae.ck aa 5 ⟨59,[(1,.ref 1 0),(20,vb true)],[(1,.box (tc ah aC))]⟩ ?_
 refine ae.nil ?_
 obtain rfl:=inj h
 exact Le.ao
 refine ae.ck aa 2 ⟨59,[(1,.ref 1 0),(15,vb false),(17,vs aC.Code)],[(1,.box (tc ah aC))]⟩ ?_
 obtain⟨x3,hx3,h⟩:=bind_some h
 refine ae.ls (xc rF (gm aC.Code _ hx3)) ?_
 refine ae.ck aa 2 ⟨59,[(1,.ref 1 0),(20,vb (!x3))],[(1,.box (tc ah aC))]⟩ ?_
 refine ae.nil ?_
 obtain rfl:=inj h
 exact Le.ao
 refine aq h (fun h=> ?_) fun h=> ?_
 refine az aa ⟨59,[(2,vb false)],[]⟩ ?_
 refine ak ?_
 obtain rfl:=inj h
 exact bS (aD (f1 fv))
 refine an ?_
 refine a8 ?_
 refine az aa ⟨59,[(1,.ref 1 0),(3,vb (aC.Other.toList==(ByteArray.mk #[]).toList))],[(1,.box (tc ah aC))]⟩ ?_
 refine ai ?_
 refine sr ?_
 refine ae.ck aa 1 ⟨59,[(1,.ref 1 0),(3,vb (aC.Other.toList==(ByteArray.mk #[]).toList)),(24,.agg (tc ah aC))],[(1,.box (tc ah aC))]⟩ ?_
 obtain⟨x6,hx6,h⟩:=bind_some h
 refine ae.ls (xc uD (dO aC _ hx6)) ?_
 refine ae.nx ?_
 refine bg h (fun j7=>⟨59,[(1,.ref 1 0),(3,vb j7)],[(1,.box (tc ah aC))]⟩) (fun v8 h=> ?_) (fun j7 h=> ?_)
 refine aq h (fun h=> ?_) fun h=> ?_
 refine aE ?_
 refine ae.ck aa 2 ⟨59,[(1,.ref 1 0),(27,vs aC.Other)],[(1,.box (tc ah aC))]⟩ ?_
 obtain⟨x9,hx9,h⟩:=bind_some h
 refine ae.ls (xc rF (gm aC.Other _ hx9)) ?_
 refine ae.ck aa 1 ⟨59,[(1,.ref 1 0),(29,vb x9)],[(1,.box (tc ah aC))]⟩ ?_
 refine ae.cu [(29,fun b=>b)] h (fun h=> ?_) fun h=> ?_
 refine ae.ck aa 7 ⟨59,[(1,.ref 1 0),(3,vb (!(aC.Other.toList==aC.Code.toList)))],[(1,.box (tc ah aC))]⟩ ?_
 refine ae.nil ?_
 obtain rfl:=inj h
 exact fO (Le.ao)
 refine ae.ck aa 7 ⟨59,[(1,.ref 1 0),(3,vb false)],[(1,.box (tc ah aC))]⟩ ?_
 refine ae.nil ?_
 obtain rfl:=inj h
 exact fO (Le.ao)
 refine an ?_
 obtain rfl:=inj h
 exact fO (Le.ao)
 refine ai ?_
 refine cQ ⟨59,[(1,.ref 1 0),(3,vb j7),(4,vb ((aC.Language.toList==(ByteArray.mk #[]).toList)&&(aC.Text.toList==(ByteArray.mk #[]).toList)))],[(1,.box (tc ah aC))]⟩ ?_ ?_
 refine ae.ck aa 4 ⟨59,[(1,.ref 1 0),(3,vb j7),(39,vb (aC.Language.toList==(ByteArray.mk #[]).toList))],[(1,.box (tc ah aC))]⟩ ?_
 generalize (aC.Language.toList==(ByteArray.mk #[]).toList)=bb
 cases bb
 refine ae.ck aa 5 ⟨59,[(1,.ref 1 0),(3,vb j7),(4,vb false)],[(1,.box (tc ah aC))]⟩ ?_
 exact ae.nil (Le.ao)
 refine ae.ck aa 5 ⟨59,[(1,.ref 1 0),(3,vb j7),(4,vb (aC.Text.toList==(ByteArray.mk #[]).toList))],[(1,.box (tc ah aC))]⟩ ?_
 exact ae.nil (Le.ao)
 refine ai ?_
 refine az aa ⟨59,[(1,.ref 1 0),(3,vb j7),(4,vb ((aC.Language.toList==(ByteArray.mk #[]).toList)&&(aC.Text.toList==(ByteArray.mk #[]).toList))),(46,vb (aC.Kind==0))],[(1,.box (tc ah aC))]⟩ ?_
 refine bg h (fun j10=>⟨59,[(3,vb j7),(4,vb j10)],[]⟩) (fun v11 h=> ?_) (fun j10 h=> ?_)
 refine aq h (fun h=> ?_) fun h=> ?_
 refine aE ?_
 refine ae.ck aa 2 ⟨59,[(1,.ref 1 0),(3,vb j7),(48,vs aC.Language)],[(1,.box (tc ah aC))]⟩ ?_
 obtain⟨x12,hx12,h⟩:=bind_some h
 refine ae.ls (xc uE (fQ aC.Language _ hx12)) ?_
 refine ae.ck aa 1 ⟨59,[(1,.ref 1 0),(3,vb j7),(50,vb x12)],[(1,.box (tc ah aC))]⟩ ?_
 refine ae.cu [(50,fun b=>b)] h (fun h=> ?_) fun h=> ?_
 refine ae.ck aa 2 ⟨59,[(3,vb j7),(50,vb true),(52,vs aC.Text)],[]⟩ ?_
 obtain⟨x13,hx13,h⟩:=bind_some h
 refine ae.ls (xc uF (gI aC.Text _ hx13)) ?_
 refine ae.ck aa 2 ⟨59,[(3,vb j7),(4,vb x13)],[]⟩ ?_
 refine ae.nil ?_
 obtain rfl:=inj h
 exact fO (Le.ao)
 refine ae.ck aa 5 ⟨59,[(3,vb j7),(4,vb false)],[]⟩ ?_
 refine ae.nil ?_
 obtain rfl:=inj h
 exact fO (Le.ao)
 refine an ?_
 obtain rfl:=inj h
 exact fO (Le.ao)
 refine ai ?_
 refine cQ ⟨59,[(2,vb (j7&&j10))],[]⟩ ?_ ?_
 refine ae.ck aa 2 ⟨59,[(4,vb j10),(56,vb j7)],[]⟩ ?_
 generalize j7=bb
 cases bb
 refine ae.ck aa 3 ⟨59,[(2,vb false)],[]⟩ ?_
 exact ae.nil (Le.ao)
 refine ae.ck aa 3 ⟨59,[(2,vb j10)],[]⟩ ?_
 exact ae.nil (Le.ao)
 refine ak ?_
 obtain rfl:=inj h
 exact aD (f1 fv)
theorem xw:a7 Tryz.prog 36:=aw Tryz.func36 (by kernel_rfl) rfl
noncomputable def de(aW:World)(ap:ByteArray):Option (Bool):=
 ((bZ aW.Places ap).bind fun x1=>some x1.2)
theorem gw(aW:World)(ap:ByteArray)(r:Bool)(h:de aW ap=some r):aF Tryz.prog 85 [.v (.agg (tc aj aW)),.v (vs ap)] ⟨[.v (vb r)],[],false⟩:=by
 refine ar Tryz.func85 rfl [(.tmp 4)] rfl (fun r=>⟨[.v (vb r)],[],false⟩) (r:=r) ?_
 unfold de at h
 refine az aa ⟨15,[(1,vs ap),(2,.ref 2 0)],[(2,.box (tc aj aW))]⟩ ?_
 refine sr ?_
 refine ae.ck aa 3 ⟨15,[(9,vl ab aW.Places),(10,vs ap)],[]⟩ ?_
 obtain⟨x1,hx1,h⟩:=bind_some h
 refine ae.ls (xc mT (dy aW.Places ap _ hx1)) ?_
 refine bU aa 5 ⟨15,[(6,vb x1.2)],[]⟩ ?_
 refine az aa ⟨15,[(4,vb x1.2)],[]⟩ ?_
 refine ak ?_
 obtain rfl:=inj h
 exact aD (f1 fv)
theorem xC:a7 Tryz.prog 85:=aw Tryz.func85 (by kernel_rfl) rfl
noncomputable def cB(aW:World)(ap:ByteArray):Option (Place):=
 ((bZ aW.Places ap).bind fun x1=>((at' aW.Places x1.1).bind fun x2=>some x2))
theorem dG(aW:World)(ap:ByteArray)(r:Place)(h:cB aW ap=some r):aF Tryz.prog 86 [.v (.agg (tc aj aW)),.v (vs ap)] ⟨[.v (.agg (tc ab r))],[],true⟩:=by
 refine ar Tryz.func86 rfl [(.cell 4 91)] rfl (fun r=>⟨[.v (.agg (tc ab r))],[],true⟩) (r:=r) ?_
 unfold cB at h
 refine az aa ⟨19,[(1,vs ap),(2,.ref 2 0),(4,.ref 4 0)],[(2,.box (tc aj aW)),(4,.box [vs (ByteArray.mk #[]),vi 0,vi 0,vi 0,vl af ([]:List Name)])]⟩ ?_
 refine sr ?_
 refine ae.ck aa 3 ⟨19,[(2,.ref 2 0),(4,.ref 4 0),(9,vl ab aW.Places),(10,vs ap)],[(2,.box (tc aj aW)),(4,.box [vs (ByteArray.mk #[]),vi 0,vi 0,vi 0,vl af ([]:List Name)])]⟩ ?_
 obtain⟨x1,hx1,h⟩:=bind_some h
 refine ae.ls (xc mT (dy aW.Places ap _ hx1)) ?_
 refine bU aa 5 ⟨19,[(2,.ref 2 0),(4,.ref 4 0),(5,vi x1.1)],[(2,.box (tc aj aW)),(4,.box [vs (ByteArray.mk #[]),vi 0,vi 0,vi 0,vl af ([]:List Name)])]⟩ ?_
 refine sr ?_
 refine ae.ck aa 3 ⟨19,[(4,.ref 4 0),(15,vl ab aW.Places),(16,vi x1.1)],[(4,.box [vs (ByteArray.mk #[]),vi 0,vi 0,vi 0,vl af ([]:List Name)])]⟩ ?_
 obtain⟨x2,hx2,h⟩:=bind_some h
 refine ae.ls (aG (L:=aW.Places) (f:=ab) (ti:=df) (tj:=cD) (e:=91) (k:= .i64) aa rfl hx2) ?_
 refine bU aa 2 ⟨19,[(4,.ref 4 0)],[(4,.box (tc ab x2))]⟩ ?_
 refine ak ?_
 obtain rfl:=inj h
 exact aD (f1 (mY rfl (dg aa (d:=4) (cs:=[vs x2.Code,vi x2.Class,vi x2.Years.From,vi x2.Years.To,vl af x2.Names]) (ti:=cD) (by kernel_rfl) (by kernel_rfl) (by kernel_rfl) (by kernel_rfl))))
theorem rG:a7 Tryz.prog 86:=aw Tryz.func86 (by kernel_rfl) rfl
noncomputable def eH(aW:World)(aC:Change):Option (Int):=
 ((((((fE aW).bind fun x3=>(bif(!x3)then some true else((eU aC).bind fun x4=>some (!x4))))).bind fun(j5:Bool)=>(bif j5 then some (.inr 1)else((((de aW aC.Code).bind fun x7=>(bif(!x7)then some true else((ca aC).bind fun x8=>(bif x8 then((de aW aC.Other).bind fun x9=>some (!x9))else some false))))).bind fun(j10:Bool)=>(bif j10 then some (.inr 4)else some (.inl ())))))).bind (Sum.elim (fun(_:Unit)=>((cB aW aC.Code).bind fun x12=>((((((bF x12.Years (aZ (aC.Year - 1))).bind fun x15=>(bif(!x15)then some true else(bif(aC.Kind !=1)then((bF x12.Years aC.Year).bind fun x16=>some (!x16))else some false)))).bind fun(j17:Bool)=>(bif j17 then some (.inr 5)else((((ca aC).bind fun x19=>(bif x19 then((cB aW aC.Other).bind fun x20=>((bF x20.Years aC.Year).bind fun x21=>some (!x21)))else some false))).bind fun(j22:Bool)=>(bif j22 then some (.inr 5)else some (.inl ())))))).bind (Sum.elim (fun(_:Unit)=>some 0) some)))) some))
theorem lX(aW:World)(aC:Change)(r:Int)(h:eH aW aC=some r):aF Tryz.prog 40 [.v (.agg (tc aj aW)),.v (.agg (tc ah aC))] ⟨[.v (vi r)],[],false⟩:=by
 refine ar Tryz.func40 rfl [(.tmp 4)] rfl (fun r=>⟨[.v (vi r)],[],false⟩) (r:=r) ?_
 unfold eH at h
 refine az aa ⟨70,[(2,.ref 2 0),(3,.ref 3 0)],[(2,.box (tc aj aW)),(3,.box (tc ah aC))]⟩ ?_
 refine ai ?_
 refine bl (r:=r) h (fun j1=>⟨70,[(2,.ref 2 0),(3,.ref 3 0)],[(2,.box (tc aj aW)),(3,.box (tc ah aC))]⟩) (fun v2 h=> ?_) (fun j1 h=> ?_)
 refine ax (a:=v2) ?_
 refine ai ?_
 refine bk h (fun j5=>⟨70,[(2,.ref 2 0),(3,.ref 3 0),(6,vb j5)],[(2,.box (tc aj aW)),(3,.box (tc ah aC))]⟩) (fun v6 h=> ?_) (fun j5 h=> ?_)
 refine ae.ck aa 1 ⟨70,[(2,.ref 2 0),(3,.ref 3 0),(7,.agg (tc aj aW))],[(2,.box (tc aj aW)),(3,.box (tc ah aC))]⟩ ?_
 obtain⟨x3,hx3,h⟩:=bind_some h
 refine ae.ls (xc xr (ki aW _ hx3)) ?_
 refine ae.ck aa 2 ⟨70,[(2,.ref 2 0),(3,.ref 3 0),(10,vb (!x3))],[(2,.box (tc aj aW)),(3,.box (tc ah aC))]⟩ ?_
 refine ae.cu [(10,fun b=>b)] h (fun h=> ?_) fun h=> ?_
 refine ae.ck aa 5 ⟨70,[(2,.ref 2 0),(3,.ref 3 0),(6,vb true)],[(2,.box (tc aj aW)),(3,.box (tc ah aC))]⟩ ?_
 refine ae.nil ?_
 obtain rfl:=inj h
 exact Le.ao
 refine ae.ck aa 1 ⟨70,[(2,.ref 2 0),(3,.ref 3 0),(10,vb false),(11,.agg (tc ah aC))],[(2,.box (tc aj aW)),(3,.box (tc ah aC))]⟩ ?_
 obtain⟨x4,hx4,h⟩:=bind_some h
 refine ae.ls (xc xw (jK aC _ hx4)) ?_
 refine ae.ck aa 3 ⟨70,[(2,.ref 2 0),(3,.ref 3 0),(6,vb (!x4))],[(2,.box (tc aj aW)),(3,.box (tc ah aC))]⟩ ?_
 refine ae.nil ?_
 obtain rfl:=inj h
 exact Le.ao
 refine aq h (fun h=> ?_) fun h=> ?_
 refine az aa ⟨70,[(4,vi 1)],[]⟩ ?_
 refine ak ?_
 obtain rfl:=inj h
 exact bw (bi (aD (f1 fv)))
 refine ai ?_
 refine bk h (fun j10=>⟨70,[(2,.ref 2 0),(3,.ref 3 0),(15,vb j10)],[(2,.box (tc aj aW)),(3,.box (tc ah aC))]⟩) (fun v11 h=> ?_) (fun j10 h=> ?_)
 refine ae.ck aa 3 ⟨70,[(2,.ref 2 0),(3,.ref 3 0),(16,.agg (tc aj aW)),(18,vs aC.Code)],[(2,.box (tc aj aW)),(3,.box (tc ah aC))]⟩ ?_
 obtain⟨x7,hx7,h⟩:=bind_some h
 refine ae.ls (xc xC (gw aW aC.Code _ hx7)) ?_
 refine ae.ck aa 2 ⟨70,[(2,.ref 2 0),(3,.ref 3 0),(21,vb (!x7))],[(2,.box (tc aj aW)),(3,.box (tc ah aC))]⟩ ?_
 refine ae.cu [(21,fun b=>b)] h (fun h=> ?_) fun h=> ?_
 refine ae.ck aa 11 ⟨70,[(2,.ref 2 0),(3,.ref 3 0),(15,vb true)],[(2,.box (tc aj aW)),(3,.box (tc ah aC))]⟩ ?_
 refine ae.nil ?_
 obtain rfl:=inj h
 exact Le.ao
 refine ae.ck aa 1 ⟨70,[(2,.ref 2 0),(3,.ref 3 0),(21,vb false),(22,.agg (tc ah aC))],[(2,.box (tc aj aW)),(3,.box (tc ah aC))]⟩ ?_
 obtain⟨x8,hx8,h⟩:=bind_some h
 refine ae.ls (xc uD (dO aC _ hx8)) ?_
 refine ae.ck aa 1 ⟨70,[(2,.ref 2 0),(3,.ref 3 0),(21,vb false),(24,vb x8)],[(2,.box (tc aj aW)),(3,.box (tc ah aC))]⟩ ?_
 refine ae.cu [(24,fun b=>b)] h (fun h=> ?_) fun h=> ?_
 refine ae.ck aa 3 ⟨70,[(2,.ref 2 0),(3,.ref 3 0),(21,vb false),(24,vb true),(25,.agg (tc aj aW)),(27,vs aC.Other)],[(2,.box (tc aj aW)),(3,.box (tc ah aC))]⟩ ?_
 obtain⟨x9,hx9,h⟩:=bind_some h
 refine ae.ls (xc xC (gw aW aC.Other _ hx9)) ?_
 refine ae.ck aa 4 ⟨70,[(2,.ref 2 0),(3,.ref 3 0),(15,vb (!x9))],[(2,.box (tc aj aW)),(3,.box (tc ah aC))]⟩ ?_
 refine ae.nil ?_
 obtain rfl:=inj h
 exact Le.ao
 refine ae.ck aa 8 ⟨70,[(2,.ref 2 0),(3,.ref 3 0),(15,vb false)],[(2,.box (tc aj aW)),(3,.box (tc ah aC))]⟩ ?_
 refine ae.nil ?_
 obtain rfl:=inj h
 exact Le.ao
 refine aq h (fun h=> ?_) fun h=> ?_
 refine az aa ⟨70,[(4,vi 4)],[]⟩ ?_
 refine ak ?_
 obtain rfl:=inj h
 exact bw (bi (aD (f1 fv)))
 refine an ?_
 obtain rfl:=inj h
 exact bY (cb (Le.ao))
 refine sr ?_
 refine ae.ck aa 3 ⟨70,[(2,.ref 2 0),(3,.ref 3 0),(32,.agg (tc aj aW)),(34,vs aC.Code)],[(2,.box (tc aj aW)),(3,.box (tc ah aC))]⟩ ?_
 obtain⟨x12,hx12,h⟩:=bind_some h
 refine ae.ls (xc rG (dG aW aC.Code _ hx12)) ?_
 refine bU aa 3 ⟨70,[(2,.ref 2 0),(3,.ref 3 0),(5,.ref 5 0)],[(2,.box (tc aj aW)),(3,.box (tc ah aC)),(5,.box (tc bc x12.Years))]⟩ ?_
 refine ai ?_
 refine bl (r:=r) h (fun j13=>⟨70,[],[]⟩) (fun v14 h=> ?_) (fun j13 h=> ?_)
 refine ax (a:=v14) ?_
 refine ai ?_
 refine bk h (fun j17=>⟨70,[(2,.ref 2 0),(3,.ref 3 0),(37,vb j17)],[(2,.box (tc aj aW)),(3,.box (tc ah aC))]⟩) (fun v18 h=> ?_) (fun j17 h=> ?_)
 refine ae.ck aa 4 ⟨70,[(2,.ref 2 0),(3,.ref 3 0),(5,.ref 5 0),(38,.agg (tc bc x12.Years)),(41,vi (aZ (aC.Year - 1)))],[(2,.box (tc aj aW)),(3,.box (tc ah aC)),(5,.box (tc bc x12.Years))]⟩ ?_
 obtain⟨x15,hx15,h⟩:=bind_some h
 refine ae.ls (xc lb (ct x12.Years (aZ (aC.Year - 1)) _ hx15)) ?_
 refine ae.ck aa 2 ⟨70,[(2,.ref 2 0),(3,.ref 3 0),(5,.ref 5 0),(44,vb (!x15))],[(2,.box (tc aj aW)),(3,.box (tc ah aC)),(5,.box (tc bc x12.Years))]⟩ ?_
 refine ae.cu [(44,fun b=>b)] h (fun h=> ?_) fun h=> ?_
 refine ae.ck aa 12 ⟨70,[(2,.ref 2 0),(3,.ref 3 0),(37,vb true)],[(2,.box (tc aj aW)),(3,.box (tc ah aC))]⟩ ?_
 refine ae.nil ?_
 obtain rfl:=inj h
 exact Le.ao
 refine ae.ck aa 4 ⟨70,[(2,.ref 2 0),(3,.ref 3 0),(5,.ref 5 0),(44,vb false),(48,vb (aC.Kind !=1))],[(2,.box (tc aj aW)),(3,.box (tc ah aC)),(5,.box (tc bc x12.Years))]⟩ ?_
 refine ae.cu [(48,fun b=>b)] h (fun h=> ?_) fun h=> ?_
 refine ae.ck aa 3 ⟨70,[(2,.ref 2 0),(3,.ref 3 0),(44,vb false),(48,vb true),(49,.agg (tc bc x12.Years)),(51,vi aC.Year)],[(2,.box (tc aj aW)),(3,.box (tc ah aC))]⟩ ?_
 obtain⟨x16,hx16,h⟩:=bind_some h
 refine ae.ls (xc lb (ct x12.Years aC.Year _ hx16)) ?_
 refine ae.ck aa 4 ⟨70,[(2,.ref 2 0),(3,.ref 3 0),(37,vb (!x16))],[(2,.box (tc aj aW)),(3,.box (tc ah aC))]⟩ ?_
 refine ae.nil ?_
 obtain rfl:=inj h
 exact Le.ao
 refine ae.ck aa 8 ⟨70,[(2,.ref 2 0),(3,.ref 3 0),(37,vb false)],[(2,.box (tc aj aW)),(3,.box (tc ah aC))]⟩ ?_
 refine ae.nil ?_
 obtain rfl:=inj h
 exact Le.ao
 refine aq h (fun h=> ?_) fun h=> ?_
 refine az aa ⟨70,[(4,vi 5)],[]⟩ ?_
 refine ak ?_
 obtain rfl:=inj h
 exact bw (bi (aD (f1 fv)))
 refine ai ?_
 refine jf mixed h (fun j22=>⟨70,[(56,vb j22)],[]⟩) (fun v23 h=> ?_) (fun j22 h=> ?_)
 refine aQ.ck aa false 1 ⟨70,[(2,.ref 2 0),(3,.ref 3 0),(57,.agg (tc ah aC))],[(2,.box (tc aj aW)),(3,.box (tc ah aC))]⟩ ?_
 obtain⟨x19,hx19,h⟩:=bind_some h
 refine aQ.step (xc uD (dO aC _ hx19)) ?_
 refine aQ.ck aa false 1 ⟨70,[(2,.ref 2 0),(3,.ref 3 0),(59,vb x19)],[(2,.box (tc aj aW)),(3,.box (tc ah aC))]⟩ ?_
 refine aQ.cu [(59,fun b=>b)] h (fun h=> ?_) fun h=> ?_
 refine aQ.ck aa false 3 ⟨70,[(3,.ref 3 0),(59,vb true),(60,.agg (tc aj aW)),(62,vs aC.Other)],[(3,.box (tc ah aC))]⟩ ?_
 obtain⟨x20,hx20,h⟩:=bind_some h
 refine aQ.step (xc rG (dG aW aC.Other _ hx20)) ?_
 refine aQ.ck aa false 3 ⟨70,[(59,vb true),(64,.agg (tc bc x20.Years)),(66,vi aC.Year)],[]⟩ ?_
 obtain⟨x21,hx21,h⟩:=bind_some h
 refine aQ.step (xc lb (ct x20.Years aC.Year _ hx21)) ?_
 refine aQ.ck aa false 3 ⟨70,[(56,vb (!x21))],[]⟩ ?_
 refine aQ.nil (by kernel_rfl) ?_
 obtain rfl:=inj h
 exact Le.ao
 refine aQ.ck aa false 11 ⟨70,[(56,vb false)],[]⟩ ?_
 refine aQ.nil (by kernel_rfl) ?_
 obtain rfl:=inj h
 exact Le.ao
 refine aq h (fun h=> ?_) fun h=> ?_
 refine az aa ⟨70,[(4,vi 5)],[]⟩ ?_
 refine ak ?_
 obtain rfl:=inj h
 exact bw (bi (aD (f1 fv)))
 refine an ?_
 obtain rfl:=inj h
 exact bY (cb (Le.ao))
 refine az aa ⟨70,[(4,vi 0)],[]⟩ ?_
 refine ak ?_
 obtain rfl:=inj h
 exact aD (f1 fv)
theorem AN:a7 Tryz.prog 40:=aw Tryz.func40 (by kernel_rfl) rfl
def c8(L:List Name):Option (List Name):=if L.length≤68719476736 then some L else none
set_option maxRecDepth 100000 in
theorem io(L r:List Name)(h:c8 L=some r):aF Tryz.prog 183 [.v (.tr (.sl L.length (L.map af)))] ⟨[.own 169 5 r.length (r.map af)],[],true⟩:=by
 unfold c8 at h
 split at h
 ·rename_i hh
  injection h with h
  subst h
  refine ou af Tryz.wc 183 169 rfl rfl _ _ 5 56 rfl rfl (by kernel_rfl) (by kernel_rfl) (by kernel_rfl) (by decide) (fun _=>rfl) (fun _=>rfl) L (by omega)
 ·cases h
theorem vA:a7 Tryz.prog 183:=aw Tryz.func183 (by kernel_rfl) rfl
noncomputable def dX(aP:Place):Option (Place):=
 ((c8 aP.Names).bind fun x1=>some (Place.mk aP.Code aP.Class aP.Years x1))
theorem lj(aP:Place)(r:Place)(h:dX aP=some r):aF Tryz.prog 140 [.v (.agg (tc ab aP))] ⟨[.part [vs r.Code,vi r.Class,vi r.Years.From,vi r.Years.To] [] (oa 169 5 af r.Names)],[],false⟩:=by
 refine ar Tryz.func140 rfl [(.cell 2 91)] rfl (fun r=>⟨[.part [vs r.Code,vi r.Class,vi r.Years.From,vi r.Years.To] [] (oa 169 5 af r.Names)],[],false⟩) (r:=r) ?_
 unfold dX at h
 refine az aa ⟨8,[(1,.ref 1 0),(2,.ref 2 0)],[(1,.box (tc ab aP)),(2,.box [vs (ByteArray.mk #[]),vi 0,vi 0,vi 0,vl af ([]:List Name)])]⟩ ?_
 refine sr ?_
 refine ae.ck aa 2 ⟨8,[(1,.ref 1 0),(2,.ref 2 0),(4,vl af aP.Names)],[(1,.box (tc ab aP)),(2,.box [vs (ByteArray.mk #[]),vi 0,vi 0,vi 0,vl af ([]:List Name)])]⟩ ?_
 obtain⟨x1,hx1,h⟩:=bind_some h
 refine ae.ls (xc vA (io aP.Names _ hx1)) ?_
 refine bU aa 2 ⟨8,[(1,.ref 1 0),(2,.ref 2 0)],[(1,.box [vs aP.Code,vi aP.Class,vi aP.Years.From,vi aP.Years.To,.own 5]),(2,.box [vs (ByteArray.mk #[]),vi 0,vi 0,vi 0,vl af ([]:List Name)]),(5,oa 169 5 af x1)]⟩ ?_
 refine az aa ⟨8,[(2,.ref 2 0)],[(2,.box [vs aP.Code,vi aP.Class,vi aP.Years.From,vi aP.Years.To,.own 5]),(5,oa 169 5 af x1)]⟩ ?_
 refine ak ?_
 obtain rfl:=inj h
 exact aD (f1 (zM (d:=5) [vs aP.Code,vi aP.Class,vi aP.Years.From,vi aP.Years.To] [] (dg aa (d:=2) (cs:=[vs aP.Code,vi aP.Class,vi aP.Years.From,vi aP.Years.To,.own 5]) (ti:=cD) (by kernel_rfl) (by kernel_rfl) (by kernel_rfl) (by kernel_rfl)) (by kernel_rfl) (b9 bu _) rfl rfl SV.dW SV.dW (by kernel_rfl)))
theorem za:a7 Tryz.prog 140:=aw Tryz.func140 (by kernel_rfl) rfl
noncomputable def dw(ad:(List Place)):Option ((List Place)):=
 (((iQ (ad.length:Int) (fun(i3:Int) (s3:(List Place))=>((at' ad i3).bind fun x7=>((dX x7).bind fun x8=>((dU s3 ([x8]:List Place)).bind fun x9=>some x9)))) (fun(s3:(List Place))=>s3) 0 ([]:List Place))).bind fun(j1:(List Place))=>some j1)
theorem kF(ad:(List Place))(r:(List Place))(h:dw ad=some r):aF Tryz.prog 88 [.v (vl ab ad)] ⟨[.deep 91 5 r.length [.flat,.flat,.flat,.flat,(.sl 169 5 [.flat,.flat,.flat,.flat,.flat])] (r.map ab)],[],false⟩:=by
 refine ar Tryz.func88 rfl [(.tmp 2)] rfl (fun r=>⟨[.deep 91 5 r.length [.flat,.flat,.flat,.flat,(.sl 169 5 [.flat,.flat,.flat,.flat,.flat])] (r.map ab)],[],false⟩) (r:=r) ?_
 unfold dw at h
 refine sr ?_
 refine ae.ck aa 1 ⟨19,[(2,.own 2),(0,vl ab ad)],[(2,oa 91 5 ab ([]:List Place))]⟩ ?_
 refine ae.le (Le.pM (d:=2) (e:=91) (m:=5) (ss:=[.flat,.flat,.flat,.flat,(.sl 169 5 [.flat,.flat,.flat,.flat,.flat])]) (by kernel_rfl) (by kernel_rfl)) ?_
 refine ae.nx ?_
 refine sr ?_
 refine ae.ck aa 1 ⟨19,[(3,.own 3),(2,.own 2),(0,vl ab ad)],[(3,oa 91 5 ab ([]:List Place)),(2,.deep 91 5 ([]:List Place).length [.flat,.flat,.flat,.flat,(.sl 169 5 [.flat,.flat,.flat,.flat,.flat])] (([]:List Place).map ab))]⟩ ?_
 refine ae.le (Le.pM (d:=3) (e:=91) (m:=5) (ss:=[.flat,.flat,.flat,.flat,(.sl 169 5 [.flat,.flat,.flat,.flat,.flat])]) (by kernel_rfl) (by kernel_rfl)) ?_
 refine ae.nx ?_
 refine ai ?_
 refine az aa ⟨19,[(3,.own 3),(6,vl ab ad),(7,vi (ad.length:Int)),(8,vi 0)],[(3,.deep 91 5 ([]:List Place).length [.flat,.flat,.flat,.flat,(.sl 169 5 [.flat,.flat,.flat,.flat,.flat])] (([]:List Place).map ab))]⟩ ?_
 refine bg h (fun j1=>⟨19,[(3,.own 3)],[(3,.deep 91 5 j1.length [.flat,.flat,.flat,.flat,(.sl 169 5 [.flat,.flat,.flat,.flat,.flat])] (j1.map ab))]⟩) (fun v2 h=> ?_) (fun j1 h=> ?_)
 refine ax (a:=v2) ?_
 refine a6 (r:=v2) (s:=(0,([]:List Place))) _ (fun s3=>⟨19,[(3,.own 3),(6,vl ab ad),(7,vi (ad.length:Int)),(8,vi s3.1)],[(3,.deep 91 5 s3.2.length [.flat,.flat,.flat,.flat,(.sl 169 5 [.flat,.flat,.flat,.flat,.flat])] (s3.2.map ab))]⟩) _ (Le.ao) h (fun s3 v4 h=> ?_)
 refine az aa ⟨19,[(3,.own 3),(6,vl ab ad),(7,vi (ad.length:Int)),(8,vi s3.1),(9,vb (decide (s3.1<(ad.length:Int))))],[(3,.deep 91 5 s3.2.length [.flat,.flat,.flat,.flat,(.sl 169 5 [.flat,.flat,.flat,.flat,.flat])] (s3.2.map ab))]⟩ ?_
 refine ai ?_
 refine aq h (fun h=> ?_) fun h=> ?_
 refine an ?_
 refine a8 ?_
 refine ai ?_
 refine bg h (fun j5=>⟨19,[(3,.own 3),(6,vl ab ad),(7,vi (ad.length:Int)),(8,vi s3.1)],[(3,.deep 91 5 j5.length [.flat,.flat,.flat,.flat,(.sl 169 5 [.flat,.flat,.flat,.flat,.flat])] (j5.map ab))]⟩) (fun v6 h=> ?_) (fun j5 h=> ?_)
 refine ax (a:=v6) ?_
 refine sr ?_
 obtain⟨x7,hx7,h⟩:=bind_some h
 refine ae.ls (aG (L:=ad) (f:=ab) (ti:=df) (tj:=cD) (e:=91) (k:= .i64) aa rfl hx7) ?_
 refine bU aa 3 ⟨19,[(3,.own 3),(5,.ref 5 0),(6,vl ab ad),(7,vi (ad.length:Int)),(8,vi s3.1)],[(3,.deep 91 5 s3.2.length [.flat,.flat,.flat,.flat,(.sl 169 5 [.flat,.flat,.flat,.flat,.flat])] (s3.2.map ab)),(5,.box (tc ab x7))]⟩ ?_
 refine aE ?_
 refine ae.ck aa 2 ⟨19,[(6,vl ab ad),(7,vi (ad.length:Int)),(8,vi s3.1),(12,.own 3),(13,.agg (tc ab x7))],[(3,.deep 91 5 s3.2.length [.flat,.flat,.flat,.flat,(.sl 169 5 [.flat,.flat,.flat,.flat,.flat])] (s3.2.map ab))]⟩ ?_
 obtain⟨x8,hx8,h⟩:=bind_some h
 refine ae.ls (xc za (lj x7 _ hx8)) ?_
 refine ae.cf (nB (ti:=df) (tj:=cD) (e:=91) (m:=5) (zs:=[.string (ByteArray.mk #[]),.int .i64 0,.int .i64 0,.int .i64 0,.slice none 0 0]) (v:= .agg [vs x8.Code,vi x8.Class,vi x8.Years.From,vi x8.Years.To,.own 14]) (cs:=[vs x8.Code,vi x8.Class,vi x8.Years.From,vi x8.Years.To,.own 14]) (ss:=[.flat,.flat,.flat,.flat,(.sl 169 5 [.flat,.flat,.flat,.flat,.flat])]) (ts:=[.str x8.Code,.int .i64 x8.Class,.int .i64 x8.Years.From,.int .i64 x8.Years.To,.sl x8.Names.length (x8.Names.map af)]) (ds:=[14]) aa rfl rfl rfl (.cons _ _ _ [] _ _ _ _ (.flat (.str x8.Code) rfl) (.cons _ _ _ [] _ _ _ _ (.flat (.int .i64 x8.Class) rfl) (.cons _ _ _ [] _ _ _ _ (.flat (.int .i64 x8.Years.From) rfl) (.cons _ _ _ [] _ _ _ _ (.flat (.int .i64 x8.Years.To) rfl) (.cons _ _ _ [14] _ _ _ _ (pH (d:=14) (e:=169) (m:=5) (n:=x8.Names.length) (es:=x8.Names.map af) (ss:=[.flat,.flat,.flat,.flat,.flat]) (b9 bu _)) .nil (by decide)) (by decide)) (by decide)) (by decide)) (by decide))) ?_
 obtain⟨x9,hx9,h⟩:=bind_some h
 refine ae.cf (mq (f:=ab) (L:=s3.2) (M:=([x8]:List Place)) (t:=32) (ti:=df) (tj:=cD) (zs:=[.string (ByteArray.mk #[]),.int .i64 0,.int .i64 0,.int .i64 0,.slice none 0 0]) (e:=91) (m:=5) (d:=3) (dx:=15) (ss:=[.flat,.flat,.flat,.flat,(.sl 169 5 [.flat,.flat,.flat,.flat,.flat])]) hx9 aa rfl rfl rfl rfl) ?_
 refine ae.ck aa 1 ⟨19,[(3,.own 16),(6,vl ab ad),(7,vi (ad.length:Int)),(8,vi s3.1)],[(16,.deep 91 5 x9.length [.flat,.flat,.flat,.flat,(.sl 169 5 [.flat,.flat,.flat,.flat,.flat])] (x9.map ab))]⟩ ?_
 refine ae.nil ?_
 obtain rfl:=inj h
 exact bY (fO (Le.rr [16] [(16,3)]))
 refine aE ?_
 refine ae.ck aa 2 ⟨19,[(3,.own 3),(6,vl ab ad),(7,vi (ad.length:Int)),(8,vi (aZ (s3.1+1)))],[(3,.deep 91 5 j5.length [.flat,.flat,.flat,.flat,(.sl 169 5 [.flat,.flat,.flat,.flat,.flat])] (j5.map ab))]⟩ ?_
 refine ae.nil ?_
 obtain rfl:=inj h
 exact cb (Le.ao)
 refine aO ?_
 obtain rfl:=inj h
 exact cH (cJ (cI (fO (Le.ao))))
 refine az aa ⟨19,[(2,.own 3)],[(3,.deep 91 5 j1.length [.flat,.flat,.flat,.flat,(.sl 169 5 [.flat,.flat,.flat,.flat,.flat])] (j1.map ab))]⟩ ?_
 refine ak ?_
 obtain rfl:=inj h
 exact aD (f1 (wi (d:=3) (ix (by kernel_rfl)) (by kernel_rfl) (by kernel_rfl)))
theorem A4:a7 Tryz.prog 88:=aw Tryz.func88 (by kernel_rfl) rfl
def fg(L:List au):Option (List au):=if L.length≤68719476736 then some L else none
set_option maxRecDepth 100000 in
theorem kW(L r:List au)(h:fg L=some r):aF Tryz.prog 89 [.v (.tr (.sl L.length (L.map ac)))] ⟨[.own 85 4 r.length (r.map ac)],[],true⟩:=by
 unfold fg at h
 split at h
 ·rename_i hh
  injection h with h
  subst h
  refine ou ac Tryz.wb 89 85 rfl rfl _ _ 4 48 rfl rfl (by kernel_rfl) (by kernel_rfl) (by kernel_rfl) (by decide) (fun _=>rfl) (fun _=>rfl) L (by omega)
 ·cases h
theorem A5:a7 Tryz.prog 89:=aw Tryz.func89 (by kernel_rfl) rfl
noncomputable def eJ(aW:World):Option (World):=
 ((dw aW.Places).bind fun x1=>((fg aW.Links).bind fun x2=>some (World.mk x1 x2)))
theorem lY(aW:World)(r:World)(h:eJ aW=some r):jl Tryz.prog 41 [.agg (tc aj aW)] [] [(3000000,.deep 91 5 r.Places.length [.flat,.flat,.flat,.flat,(.sl 169 5 [.flat,.flat,.flat,.flat,.flat])] (r.Places.map ab)),(3000001,oa 85 4 ac r.Links)] [.agg [.own 3000000,.own 3000001]]:=by
 refine iN Tryz.func41 rfl [(.cell 2 35)] rfl (fun r=>[(3000000,.deep 91 5 r.Places.length [.flat,.flat,.flat,.flat,(.sl 169 5 [.flat,.flat,.flat,.flat,.flat])] (r.Places.map ab)),(3000001,oa 85 4 ac r.Links)]) (fun r=>[.agg [.own 3000000,.own 3000001]]) (r:=r) (cw trivial (cw (b9 dt _) jI)) ?_
 unfold eJ at h
 refine az aa ⟨10,[(1,.ref 1 0),(2,.ref 2 0)],[(1,.box (tc aj aW)),(2,.box [vl ab ([]:List Place),vl ac ([]:List au)])]⟩ ?_
 refine ai ?_
 refine di mixed ?_
 refine aQ.ck aa false 2 ⟨10,[(1,.ref 1 0),(2,.ref 2 0),(4,vl ab aW.Places)],[(1,.box (tc aj aW)),(2,.box [vl ab ([]:List Place),vl ac ([]:List au)])]⟩ ?_
 obtain⟨x1,hx1,h⟩:=bind_some h
 refine aQ.step (xc A4 (kF aW.Places _ hx1)) ?_
 refine aQ.ck aa false 2 ⟨10,[(2,.ref 2 0),(5,.own 5),(7,vl ac aW.Links)],[(2,.box [vl ab ([]:List Place),vl ac ([]:List au)]),(5,.deep 91 5 x1.length [.flat,.flat,.flat,.flat,(.sl 169 5 [.flat,.flat,.flat,.flat,.flat])] (x1.map ab))]⟩ ?_
 obtain⟨x2,hx2,h⟩:=bind_some h
 refine aQ.step (xc A5 (kW aW.Links _ hx2)) ?_
 refine aQ.yg false [5,8] (bt (v:= .agg [.own 5,.own 8]) aa rfl) ?_
 refine aQ.seq (by kernel_rfl) (by kernel_rfl) ?_
 refine bU aa 1 ⟨10,[(2,.ref 2 0)],[(2,.box [.own 5,.own 8]),(5,.deep 91 5 x1.length [.flat,.flat,.flat,.flat,(.sl 169 5 [.flat,.flat,.flat,.flat,.flat])] (x1.map ab)),(8,oa 85 4 ac x2)]⟩ ?_
 refine cW (Le.tE 5 3000000) ?_
 refine cW (Le.tE 8 3000001) ?_
 refine ak ?_
 obtain rfl:=inj h
 exact l4 (fw aa)
theorem AO:a7 Tryz.prog 41:=aw Tryz.func41 (by kernel_rfl) rfl
noncomputable def fe(aN:Name)(c0:ByteArray)(c1:Int):Option (Bool):=
 ((((cA aN c0).bind fun x1=>(bif x1 then((bF aN.Years c1).bind fun x2=>some x2)else some false))).bind fun(j3:Bool)=>some j3)
theorem kU(aN:Name)(c0:ByteArray)(c1:Int)(r:Bool)(h:fe aN c0 c1=some r):aF Tryz.prog 213 [.v (.agg (tc af aN)),.v (.ptr [vs c0] 0),.v (.ptr [vi c1] 0)] ⟨[.v (vb r)],[],false⟩:=by
 refine ar Tryz.func213 rfl [(.tmp 4)] rfl (fun r=>⟨[.v (vb r)],[],false⟩) (r:=r) ?_
 unfold fe at h
 refine az aa ⟨14,[(1,.ptr [vs c0] 0),(2,.ptr [vi c1] 0),(3,.ref 3 0)],[(3,.box (tc af aN))]⟩ ?_
 refine ai ?_
 refine bk h (fun j3=>⟨14,[(4,vb j3)],[]⟩) (fun v4 h=> ?_) (fun j3 h=> ?_)
 refine ae.ck aa 2 ⟨14,[(2,.ptr [vi c1] 0),(3,.ref 3 0),(5,.agg (tc af aN)),(6,vs c0)],[(3,.box (tc af aN))]⟩ ?_
 obtain⟨x1,hx1,h⟩:=bind_some h
 refine ae.ls (xc vB (fU aN c0 _ hx1)) ?_
 refine ae.ck aa 1 ⟨14,[(2,.ptr [vi c1] 0),(3,.ref 3 0),(8,vb x1)],[(3,.box (tc af aN))]⟩ ?_
 refine ae.cu [(8,fun b=>b)] h (fun h=> ?_) fun h=> ?_
 refine ae.ck aa 3 ⟨14,[(8,vb true),(10,.agg (tc bc aN.Years)),(11,vi c1)],[]⟩ ?_
 obtain⟨x2,hx2,h⟩:=bind_some h
 refine ae.ls (xc lb (ct aN.Years c1 _ hx2)) ?_
 refine ae.ck aa 2 ⟨14,[(4,vb x2)],[]⟩ ?_
 refine ae.nil ?_
 obtain rfl:=inj h
 exact Le.ao
 refine ae.ck aa 6 ⟨14,[(4,vb false)],[]⟩ ?_
 refine ae.nil ?_
 obtain rfl:=inj h
 exact Le.ao
 refine ak ?_
 obtain rfl:=inj h
 exact aD (f1 fv)
theorem zG:a7 Tryz.prog 213:=aw Tryz.func213 (by kernel_rfl) rfl
noncomputable def bJ(aS:(List Name))(aU:ByteArray)(lS:Int):Option (Int):=
 (((cY (aS.length:Int) (fun(i3:Int) (_:Unit)=>((at' aS i3).bind fun x7=>((fe x7 aU lS).bind fun x8=>(bif x8 then some (.inr (.inr i3))else some (.inl ()))))) (fun(_:Unit)=> .inl ()) 0 ())).bind (Sum.elim (fun(_:Unit)=>some (-1)) some))
theorem er(aS:(List Name))(aU:ByteArray)(lS:Int)(r:Int)(h:bJ aS aU lS=some r):aF Tryz.prog 197 [.v (vl af aS),.v (.clo 213 [.ptr [vs aU] 0,.ptr [vi lS] 0])] ⟨[.v (vi r)],[],false⟩:=by
 refine ar Tryz.func197 rfl [(.tmp 4)] rfl (fun r=>⟨[.v (vi r)],[],false⟩) (r:=r) ?_
 unfold bJ at h
 refine az aa ⟨19,[(0,vl af aS),(1,.clo 213 [.ptr [vs aU] 0,.ptr [vi lS] 0])],[]⟩ ?_
 refine ai ?_
 refine az aa ⟨19,[(0,vl af aS),(1,.clo 213 [.ptr [vs aU] 0,.ptr [vi lS] 0]),(7,vi (aS.length:Int)),(8,vi 0)],[]⟩ ?_
 refine bl (r:=r) h (fun j1=>⟨19,[],[]⟩) (fun v2 h=> ?_) (fun j1 h=> ?_)
 refine ax (a:=v2) ?_
 refine a6 (r:=v2) (s:=(0,())) _ (fun s3=>⟨19,[(0,vl af aS),(1,.clo 213 [.ptr [vs aU] 0,.ptr [vi lS] 0]),(7,vi (aS.length:Int)),(8,vi s3.1)],[]⟩) _ (Le.ao) h (fun s3 v4 h=> ?_)
 refine az aa ⟨19,[(0,vl af aS),(1,.clo 213 [.ptr [vs aU] 0,.ptr [vi lS] 0]),(7,vi (aS.length:Int)),(8,vi s3.1),(9,vb (decide (s3.1<(aS.length:Int))))],[]⟩ ?_
 refine ai ?_
 refine aq h (fun h=> ?_) fun h=> ?_
 refine an ?_
 refine a8 ?_
 refine ai ?_
 refine bp (r:=v4) h (fun j5=>⟨19,[(0,vl af aS),(1,.clo 213 [.ptr [vs aU] 0,.ptr [vi lS] 0]),(7,vi (aS.length:Int)),(8,vi s3.1)],[]⟩) (fun v6 h=> ?_) (fun j5 h=> ?_)
 refine ax (a:=v6) ?_
 refine az aa ⟨19,[(0,vl af aS),(1,.clo 213 [.ptr [vs aU] 0,.ptr [vi lS] 0]),(5,vi s3.1),(7,vi (aS.length:Int)),(8,vi s3.1)],[]⟩ ?_
 refine sr ?_
 refine ae.ck aa 3 ⟨19,[(0,vl af aS),(1,.clo 213 [.ptr [vs aU] 0,.ptr [vi lS] 0]),(5,vi s3.1),(7,vi (aS.length:Int)),(8,vi s3.1),(11,.clo 213 [.ptr [vs aU] 0,.ptr [vi lS] 0]),(12,vl af aS),(13,vi s3.1)],[]⟩ ?_
 obtain⟨x7,hx7,h⟩:=bind_some h
 refine ae.ls (aG (L:=aS) (f:=af) (ti:=ej) (tj:=dq) (e:=169) (k:= .i64) aa rfl hx7) ?_
 refine ae.ck aa 1 ⟨19,[(0,vl af aS),(1,.clo 213 [.ptr [vs aU] 0,.ptr [vi lS] 0]),(5,vi s3.1),(7,vi (aS.length:Int)),(8,vi s3.1),(11,.clo 213 [.ptr [vs aU] 0,.ptr [vi lS] 0]),(15,.agg (tc af x7))],[]⟩ ?_
 obtain⟨x8,hx8,h⟩:=bind_some h
 refine ae.ls (xc zG (kU x7 aU lS _ hx8)) ?_
 refine ae.nx ?_
 refine aq h (fun h=> ?_) fun h=> ?_
 refine az aa ⟨19,[(4,vi s3.1)],[]⟩ ?_
 refine ak ?_
 obtain rfl:=inj h
 exact bw (bi (bi (bw (bi (aD (f1 fv))))))
 refine an ?_
 obtain rfl:=inj h
 exact bY (cb (Le.ao))
 refine aE ?_
 refine ae.ck aa 2 ⟨19,[(0,vl af aS),(1,.clo 213 [.ptr [vs aU] 0,.ptr [vi lS] 0]),(7,vi (aS.length:Int)),(8,vi (aZ (s3.1+1)))],[]⟩ ?_
 refine ae.nil ?_
 obtain rfl:=inj h
 exact cb (Le.ao)
 refine aO ?_
 obtain rfl:=inj h
 exact cH (cJ (cI (cb (Le.ao))))
 refine az aa ⟨19,[(4,vi (-1))],[]⟩ ?_
 refine ak ?_
 obtain rfl:=inj h
 exact aD (f1 fv)
noncomputable def eK(ad:(List Name))(ay:ByteArray)(ag:Int):Option (Int×Int):=
 ((((((eT ad).bind fun x3=>(bif(!x3)then some true else((da ay).bind fun x4=>some (!x4))))).bind fun(j5:Bool)=>(bif j5 then some (.inr (0,1))else((dI ag).bind fun x7=>(bif(!x7)then some (.inr (0,2))else some (.inl ())))))).bind (Sum.elim (fun(_:Unit)=>((bJ ad ay ag).bind fun x8=>(bif(decide (x8<0))then some (0,4)else some (x8,0)))) some))
theorem lZ(ad:(List Name))(ay:ByteArray)(ag:Int)(r:Int×Int)(h:eK ad ay ag=some r):aF Tryz.prog 184 [.v (vl af ad),.v (vs ay),.v (vi ag)] ⟨[.v (vi r.1),.v (vi r.2)],[],false⟩:=by
 refine ar Tryz.func184 rfl [(.tmp 6),(.tmp 7)] rfl (fun r=>⟨[.v (vi r.1),.v (vi r.2)],[],false⟩) (r:=r) ?_
 unfold eK at h
 refine az aa ⟨28,[(0,vl af ad),(4,.ref 4 0),(5,.ref 5 0)],[(4,.box [vs ay]),(5,.box [vi ag])]⟩ ?_
 refine ai ?_
 refine bl (r:=r) h (fun j1=>⟨28,[(0,vl af ad),(4,.ref 4 0),(5,.ref 5 0)],[(4,.box [vs ay]),(5,.box [vi ag])]⟩) (fun v2 h=> ?_) (fun j1 h=> ?_)
 refine ax (a:=v2) ?_
 refine ai ?_
 refine bk h (fun j5=>⟨28,[(0,vl af ad),(4,.ref 4 0),(5,.ref 5 0),(9,vb j5)],[(4,.box [vs ay]),(5,.box [vi ag])]⟩) (fun v6 h=> ?_) (fun j5 h=> ?_)
 refine ae.ck aa 1 ⟨28,[(0,vl af ad),(4,.ref 4 0),(5,.ref 5 0),(10,vl af ad)],[(4,.box [vs ay]),(5,.box [vi ag])]⟩ ?_
 obtain⟨x3,hx3,h⟩:=bind_some h
 refine ae.ls (xc vv (jJ ad _ hx3)) ?_
 refine ae.ck aa 2 ⟨28,[(0,vl af ad),(4,.ref 4 0),(5,.ref 5 0),(13,vb (!x3))],[(4,.box [vs ay]),(5,.box [vi ag])]⟩ ?_
 refine ae.cu [(13,fun b=>b)] h (fun h=> ?_) fun h=> ?_
 refine ae.ck aa 5 ⟨28,[(0,vl af ad),(4,.ref 4 0),(5,.ref 5 0),(9,vb true)],[(4,.box [vs ay]),(5,.box [vi ag])]⟩ ?_
 refine ae.nil ?_
 obtain rfl:=inj h
 exact Le.ao
 refine ae.ck aa 1 ⟨28,[(0,vl af ad),(4,.ref 4 0),(5,.ref 5 0),(13,vb false),(14,vs ay)],[(4,.box [vs ay]),(5,.box [vi ag])]⟩ ?_
 obtain⟨x4,hx4,h⟩:=bind_some h
 refine ae.ls (xc uE (fQ ay _ hx4)) ?_
 refine ae.ck aa 3 ⟨28,[(0,vl af ad),(4,.ref 4 0),(5,.ref 5 0),(9,vb (!x4))],[(4,.box [vs ay]),(5,.box [vi ag])]⟩ ?_
 refine ae.nil ?_
 obtain rfl:=inj h
 exact Le.ao
 refine aq h (fun h=> ?_) fun h=> ?_
 refine az aa ⟨28,[(6,vi 0),(7,vi 1)],[]⟩ ?_
 refine ak ?_
 obtain rfl:=inj h
 exact bw (bi (aD (f2 fv fv)))
 refine sr ?_
 refine ae.ck aa 1 ⟨28,[(0,vl af ad),(4,.ref 4 0),(5,.ref 5 0),(19,vi ag)],[(4,.box [vs ay]),(5,.box [vi ag])]⟩ ?_
 obtain⟨x7,hx7,h⟩:=bind_some h
 refine ae.ls (xc pk (gn ag _ hx7)) ?_
 refine bU aa 2 ⟨28,[(0,vl af ad),(4,.ref 4 0),(5,.ref 5 0),(18,vb (!x7))],[(4,.box [vs ay]),(5,.box [vi ag])]⟩ ?_
 refine aq h (fun h=> ?_) fun h=> ?_
 refine az aa ⟨28,[(6,vi 0),(7,vi 2)],[]⟩ ?_
 refine ak ?_
 obtain rfl:=inj h
 exact bw (bi (aD (f2 fv fv)))
 refine an ?_
 obtain rfl:=inj h
 exact bY (cb (Le.ao))
 refine sr ?_
 refine ae.ck aa 2 ⟨28,[(22,vl af ad),(23,.clo 213 [.ref 4 0,.ref 5 0])],[(4,.box [vs ay]),(5,.box [vi ag])]⟩ ?_
 obtain⟨x8,hx8,h⟩:=bind_some h
 refine ae.ls (xc rE (er ad ay ag _ hx8)) ?_
 refine bU aa 1 ⟨28,[(8,vi x8)],[]⟩ ?_
 refine ai ?_
 refine az aa ⟨28,[(8,vi x8),(26,vb (decide (x8<0)))],[]⟩ ?_
 refine aq h (fun h=> ?_) fun h=> ?_
 refine az aa ⟨28,[(6,vi 0),(7,vi 4)],[]⟩ ?_
 refine ak ?_
 obtain rfl:=inj h
 exact bS (aD (f2 fv fv))
 refine an ?_
 refine a8 ?_
 refine az aa ⟨28,[(6,vi x8),(7,vi 0)],[]⟩ ?_
 refine ak ?_
 obtain rfl:=inj h
 exact aD (f2 fv fv)
theorem zt:a7 Tryz.prog 184:=aw Tryz.func184 (by kernel_rfl) rfl
theorem kI(L:List Name)(i j:Int)(r:List Name)(h:dz L i j=some r):jl Tryz.prog 214 [.own 3000000,vi i,vi j] [(3000000,oa 169 5 af L)] [(3000000,oa 169 5 af r)] [.own 3000000]:=xl bu L i j r h
theorem zH:a7 Tryz.prog 214:=aw Tryz.func214 (by kernel_rfl) rfl
noncomputable def gO(ad:(List Name))(aI:Int)(ag:Int)(bm:ByteArray):Option ((List Name)):=
 ((c8 ad).bind fun x1=>((at' x1 aI).bind fun x2=>((at' x1 aI).bind fun x3=>((at' x1 aI).bind fun x4=>((at' (List.set x1 (Int.toNat aI) (Name.mk x4.Text x4.Language x4.Status (Span.mk x4.Years.From (aZ (ag - 1))))) aI).bind fun x5=>(((bif(x5.Years.From==ag)then((dz (List.set x1 (Int.toNat aI) (Name.mk x4.Text x4.Language x4.Status (Span.mk x4.Years.From (aZ (ag - 1))))) aI (aZ (aI+1))).bind fun x8=>some x8)else some (List.set x1 (Int.toNat aI) (Name.mk x4.Text x4.Language x4.Status (Span.mk x4.Years.From (aZ (ag - 1))))))).bind fun(j6:(List Name))=>((dU j6 ([(Name.mk bm x2.Language 0 (Span.mk ag x3.Years.To))]:List Name)).bind fun x9=>some x9)))))))
theorem nN(ad:(List Name))(aI:Int)(ag:Int)(bm:ByteArray)(r:(List Name))(h:gO ad aI ag bm=some r):aF Tryz.prog 185 [.v (vl af ad),.v (vi aI),.v (vi ag),.v (vs bm)] ⟨[.own 169 5 r.length (r.map af)],[],false⟩:=by
 refine ar Tryz.func185 rfl [(.tmp 8)] rfl (fun r=>⟨[.own 169 5 r.length (r.map af)],[],false⟩) (r:=r) ?_
 unfold gO at h
 refine az aa ⟨52,[(0,vl af ad),(1,vi aI),(2,vi ag),(3,vs bm)],[]⟩ ?_
 refine sr ?_
 refine ae.ck aa 1 ⟨52,[(1,vi aI),(2,vi ag),(3,vs bm),(11,vl af ad)],[]⟩ ?_
 obtain⟨x1,hx1,h⟩:=bind_some h
 refine ae.ls (xc vA (io ad _ hx1)) ?_
 refine bU aa 1 ⟨52,[(1,vi aI),(2,vi ag),(3,vs bm),(9,.own 12)],[(12,oa 169 5 af x1)]⟩ ?_
 refine ai ?_
 refine di mixed ?_
 refine aQ.ck aa false 3 ⟨52,[(1,vi aI),(2,vi ag),(9,.own 12),(13,vs bm),(14,.own 12),(15,vi aI)],[(12,oa 169 5 af x1)]⟩ ?_
 obtain⟨x2,hx2,h⟩:=bind_some h
 refine aQ.step (bX (d:=12) (L:=x1) (f:=af) (ti:=ej) (tj:=dq) (e:=169) (e':=169) (m:=5) (k:= .i64) aa rfl hx2) ?_
 refine aQ.ck aa false 1 ⟨52,[(1,vi aI),(2,vi ag),(9,.own 12),(13,vs bm),(17,.eref 12 5 (Int.toNat aI) 1)],[(12,oa 169 5 af x1)]⟩ ?_
 refine aQ.step (dd (d:=12) (m:=5) (j:=1) (L:=x1) (f:=af) (ti:=ig) (e:=169) (v:=vs x2.Language) aa rfl hx2) ?_
 refine aQ.ck aa false 3 ⟨52,[(1,vi aI),(2,vi ag),(9,.own 12),(13,vs bm),(18,vs x2.Language),(19,vi ag),(20,.own 12),(21,vi aI)],[(12,oa 169 5 af x1)]⟩ ?_
 obtain⟨x3,hx3,h⟩:=bind_some h
 refine aQ.step (bX (d:=12) (L:=x1) (f:=af) (ti:=ej) (tj:=dq) (e:=169) (e':=169) (m:=5) (k:= .i64) aa rfl hx3) ?_
 refine aQ.ck aa false 2 ⟨52,[(1,vi aI),(2,vi ag),(9,.own 12),(13,vs bm),(18,vs x2.Language),(19,vi ag),(24,.eref 12 5 (Int.toNat aI) 4)],[(12,oa 169 5 af x1)]⟩ ?_
 refine aQ.step (dd (d:=12) (m:=5) (j:=4) (L:=x1) (f:=af) (ti:=ti2) (e:=169) (v:=vi x3.Years.To) aa rfl hx3) ?_
 refine aQ.step (bt (v:= .agg [vi ag,vi x3.Years.To]) aa rfl) ?_
 refine aQ.step (bt (v:= .agg [vs bm,vs x2.Language,vi 0,vi ag,vi x3.Years.To]) aa rfl) ?_
 refine aQ.ck aa false 1 ⟨52,[(1,vi aI),(2,vi ag),(9,.own 12),(10,.ref 10 0),(27,.agg [vs bm,vs x2.Language,vi 0,vi ag,vi x3.Years.To])],[(10,.box [vs (ByteArray.mk #[]),vs (ByteArray.mk #[]),vi 0,vi 0,vi 0]),(12,oa 169 5 af x1)]⟩ ?_
 refine aQ.seq (by kernel_rfl) (by kernel_rfl) ?_
 refine bU aa 1 ⟨52,[(1,vi aI),(2,vi ag),(9,.own 12),(10,.ref 10 0)],[(10,.box [vs bm,vs x2.Language,vi 0,vi ag,vi x3.Years.To]),(12,oa 169 5 af x1)]⟩ ?_
 refine sr ?_
 refine ae.ck aa 4 ⟨52,[(1,vi aI),(2,vi ag),(9,.own 12),(10,.ref 10 0),(28,.own 12),(29,vi aI),(31,vi (aZ (ag - 1)))],[(10,.box [vs bm,vs x2.Language,vi 0,vi ag,vi x3.Years.To]),(12,oa 169 5 af x1)]⟩ ?_
 obtain⟨x4,hx4,h⟩:=bind_some h
 refine ae.ls (bX (d:=12) (L:=x1) (f:=af) (ti:=ej) (tj:=dq) (e:=169) (e':=169) (m:=5) (k:= .i64) aa rfl hx4) ?_
 refine ae.ck aa 2 ⟨52,[(1,vi aI),(2,vi ag),(9,.own 12),(10,.ref 10 0),(31,vi (aZ (ag - 1))),(34,.eref 12 5 (Int.toNat aI) 4)],[(10,.box [vs bm,vs x2.Language,vi 0,vi ag,vi x3.Years.To]),(12,oa 169 5 af x1)]⟩ ?_
 refine ae.cf (iO (d:=12) (m:=5) (j:=4) (L:=x1) (f:=af) (x:=(Name.mk x4.Text x4.Language x4.Status (Span.mk x4.Years.From (aZ (ag - 1))))) (z:=x4) (ti:=ti2) (e:=169) (ts:=[.int .i64 (aZ (ag - 1))]) (vs:=[vi (aZ (ag - 1))]) (v:=vi (aZ (ag - 1))) aa rfl rfl hx4) ?_
 refine ae.nx ?_
 refine ai ?_
 refine sr ?_
 refine ae.ck aa 2 ⟨52,[(1,vi aI),(2,vi ag),(9,.own 12),(10,.ref 10 0),(35,.own 12),(36,vi aI)],[(10,.box [vs bm,vs x2.Language,vi 0,vi ag,vi x3.Years.To]),(12,oa 169 5 af (List.set x1 (Int.toNat aI) (Name.mk x4.Text x4.Language x4.Status (Span.mk x4.Years.From (aZ (ag - 1))))))]⟩ ?_
 obtain⟨x5,hx5,h⟩:=bind_some h
 refine ae.ls (bX (d:=12) (L:=(List.set x1 (Int.toNat aI) (Name.mk x4.Text x4.Language x4.Status (Span.mk x4.Years.From (aZ (ag - 1)))))) (f:=af) (ti:=ej) (tj:=dq) (e:=169) (e':=169) (m:=5) (k:= .i64) aa rfl hx5) ?_
 refine ae.ck aa 2 ⟨52,[(1,vi aI),(2,vi ag),(9,.own 12),(10,.ref 10 0),(39,.eref 12 5 (Int.toNat aI) 3)],[(10,.box [vs bm,vs x2.Language,vi 0,vi ag,vi x3.Years.To]),(12,oa 169 5 af (List.set x1 (Int.toNat aI) (Name.mk x4.Text x4.Language x4.Status (Span.mk x4.Years.From (aZ (ag - 1))))))]⟩ ?_
 refine ae.ls (dd (d:=12) (m:=5) (j:=3) (L:=(List.set x1 (Int.toNat aI) (Name.mk x4.Text x4.Language x4.Status (Span.mk x4.Years.From (aZ (ag - 1)))))) (f:=af) (ti:=ti2) (e:=169) (v:=vi x5.Years.From) aa rfl hx5) ?_
 refine bU aa 2 ⟨52,[(1,vi aI),(9,.own 12),(10,.ref 10 0),(42,vb (x5.Years.From==ag))],[(10,.box [vs bm,vs x2.Language,vi 0,vi ag,vi x3.Years.To]),(12,oa 169 5 af (List.set x1 (Int.toNat aI) (Name.mk x4.Text x4.Language x4.Status (Span.mk x4.Years.From (aZ (ag - 1))))))]⟩ ?_
 refine bg h (fun j6=>⟨52,[(9,.own 9),(10,.ref 10 0)],[(10,.box [vs bm,vs x2.Language,vi 0,vi ag,vi x3.Years.To]),(9,oa 169 5 af j6)]⟩) (fun v7 h=> ?_) (fun j6 h=> ?_)
 refine aq h (fun h=> ?_) fun h=> ?_
 refine aE ?_
 refine ae.ck aa 4 ⟨52,[(10,.ref 10 0),(43,.own 12),(44,vi aI),(46,vi (aZ (aI+1)))],[(10,.box [vs bm,vs x2.Language,vi 0,vi ag,vi x3.Years.To]),(12,oa 169 5 af (List.set x1 (Int.toNat aI) (Name.mk x4.Text x4.Language x4.Status (Span.mk x4.Years.From (aZ (ag - 1))))))]⟩ ?_
 obtain⟨x8,hx8,h⟩:=bind_some h
 refine ae.cf (x_w [(3000000,12)] [false,true,true] zH (kI (List.set x1 (Int.toNat aI) (Name.mk x4.Text x4.Language x4.Status (Span.mk x4.Years.From (aZ (ag - 1))))) aI (aZ (aI+1)) _ hx8)) ?_
 refine ae.ck aa 1 ⟨52,[(9,.own 12),(10,.ref 10 0)],[(10,.box [vs bm,vs x2.Language,vi 0,vi ag,vi x3.Years.To]),(12,oa 169 5 af x8)]⟩ ?_
 refine ae.nil ?_
 obtain rfl:=inj h
 exact fO (Le.rr [10,12] [(12,9)])
 refine an ?_
 obtain rfl:=inj h
 exact fO (Le.rr [10,12] [(12,9)])
 refine sr ?_
 refine ae.ck aa 3 ⟨52,[(48,.own 9),(50,.own 50)],[(9,oa 169 5 af j6),(50,oa 169 5 af ([(Name.mk bm x2.Language 0 (Span.mk ag x3.Years.To))]:List Name))]⟩ ?_
 obtain⟨x9,hx9,h⟩:=bind_some h
 refine ae.cf (bT (f:=af) (t:=89) (ti:=ej) (tj:=dq) (zs:=[.string (ByteArray.mk #[]),.string (ByteArray.mk #[]),.int .i64 0,.int .i64 0,.int .i64 0]) (e:=169) (m:=5) (d:=9) (xv:= .own 50) hx9 aa rfl rfl rfl rfl (dj (e:=169))) ?_
 refine bU aa 1 ⟨52,[(8,.own 51)],[(51,oa 169 5 af x9)]⟩ ?_
 refine ak ?_
 obtain rfl:=inj h
 exact aD (f1 (fo bu))
theorem zu:a7 Tryz.prog 185:=aw Tryz.func185 (by kernel_rfl) rfl
noncomputable def fV(ad:(List Name))(ay:ByteArray)(ag:Int)(bm:ByteArray):Option ((List Name)×Int):=
 ((dP bm).bind fun x1=>(bif(!x1)then some (([]:List Name),1)else((eK ad ay ag).bind fun x2=>(bif(x2.2 !=0)then some (([]:List Name),x2.2)else((gO ad x2.1 ag bm).bind fun x3=>(bif(decide ((x3.length:Int)>12))then some (([]:List Name),3)else some (x3,0)))))))
theorem m5(ad:(List Name))(ay:ByteArray)(ag:Int)(bm:ByteArray)(r:(List Name)×Int)(h:fV ad ay ag bm=some r):aF Tryz.prog 141 [.v (vl af ad),.v (vs ay),.v (vi ag),.v (vs bm)] ⟨[.own 169 5 r.1.length (r.1.map af),.v (vi r.2)],[],false⟩:=by
 refine ar Tryz.func141 rfl [(.tmp 8),(.tmp 9)] rfl (fun r=>⟨[.own 169 5 r.1.length (r.1.map af),.v (vi r.2)],[],false⟩) (r:=r) ?_
 unfold fV at h
 refine az aa ⟨35,[(0,vl af ad),(1,vs ay),(2,vi ag),(3,vs bm)],[]⟩ ?_
 refine ai ?_
 refine sr ?_
 refine ae.ck aa 1 ⟨35,[(0,vl af ad),(1,vs ay),(2,vi ag),(3,vs bm),(13,vs bm)],[]⟩ ?_
 obtain⟨x1,hx1,h⟩:=bind_some h
 refine ae.ls (xc uF (gI bm _ hx1)) ?_
 refine bU aa 1 ⟨35,[(0,vl af ad),(1,vs ay),(2,vi ag),(3,vs bm),(15,vb (!x1))],[]⟩ ?_
 refine aq h (fun h=> ?_) fun h=> ?_
 refine az aa ⟨35,[(8,.own 8),(9,vi 1)],[(8,oa 169 5 af ([]:List Name))]⟩ ?_
 refine ak ?_
 obtain rfl:=inj h
 exact bS (aD (f2 (fo bu) fv))
 refine an ?_
 refine a8 ?_
 refine sr ?_
 refine ae.ck aa 3 ⟨35,[(0,vl af ad),(2,vi ag),(3,vs bm),(17,vl af ad),(18,vs ay),(19,vi ag)],[]⟩ ?_
 obtain⟨x2,hx2,h⟩:=bind_some h
 refine ae.ls (xc zt (lZ ad ay ag _ hx2)) ?_
 refine bU aa 5 ⟨35,[(0,vl af ad),(2,vi ag),(3,vs bm),(10,vi x2.1),(11,vi x2.2)],[]⟩ ?_
 refine ai ?_
 refine az aa ⟨35,[(0,vl af ad),(2,vi ag),(3,vs bm),(10,vi x2.1),(11,vi x2.2),(24,vb (x2.2 !=0))],[]⟩ ?_
 refine aq h (fun h=> ?_) fun h=> ?_
 refine az aa ⟨35,[(8,.own 8),(9,vi x2.2)],[(8,oa 169 5 af ([]:List Name))]⟩ ?_
 refine ak ?_
 obtain rfl:=inj h
 exact bS (aD (f2 (fo bu) fv))
 refine an ?_
 refine a8 ?_
 refine sr ?_
 refine ae.ck aa 4 ⟨35,[(26,vl af ad),(27,vi x2.1),(28,vi ag),(29,vs bm)],[]⟩ ?_
 obtain⟨x3,hx3,h⟩:=bind_some h
 refine ae.ls (xc zu (nN ad x2.1 ag bm _ hx3)) ?_
 refine bU aa 1 ⟨35,[(12,.own 30)],[(30,oa 169 5 af x3)]⟩ ?_
 refine ai ?_
 refine az aa ⟨35,[(12,.own 30),(33,vb (decide ((x3.length:Int)>12)))],[(30,oa 169 5 af x3)]⟩ ?_
 refine aq h (fun h=> ?_) fun h=> ?_
 refine az aa ⟨35,[(8,.own 8),(9,vi 3)],[(8,oa 169 5 af ([]:List Name))]⟩ ?_
 refine ak ?_
 obtain rfl:=inj h
 exact bS (aD (f2 (fo bu) fv))
 refine an ?_
 refine a8 ?_
 refine az aa ⟨35,[(8,.own 30),(9,vi 0)],[(30,oa 169 5 af x3)]⟩ ?_
 refine ak ?_
 obtain rfl:=inj h
 exact aD (f2 (fo bu) fv)
theorem zb:a7 Tryz.prog 141:=aw Tryz.func141 (by kernel_rfl) rfl
end Go.Proofs.YtdejeagdkfokfaaGreatDoor.Sh
