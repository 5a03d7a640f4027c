/- Typed functions and the calls that do what they say. -/
import Derived.Test.YtdejeagdkfokfaaGreatDoorSE
import Derived.Test.YtdejeagdkfokfaaGreatDoorKA
import Derived.Test.YtdejeagdkfokfaaGreatDoorKC
import Derived.Test.YtdejeagdkfokfaaGreatDoorKD
import Derived.Test.YtdejeagdkfokfaaGreatDoorKO
import Derived.Test.YtdejeagdkfokfaaGreatDoorKS
import Derived.Test.YtdejeagdkfokfaaGreatDoorSF
import Derived.Test.YtdejeagdkfokfaaGreatDoorSN
import Derived.Test.YtdejeagdkfokfaaGreatDoorSW
import Derived.Test.YtdejeagdkfokfaaGreatDoorSX
import Derived.Test.YtdejeagdkfokfaaGreatDoorH1
import Derived.Test.YtdejeagdkfokfaaGreatDoorGA
import Derived.Test.YtdejeagdkfokfaaGreatDoorGD
import Derived.Test.YtdejeagdkfokfaaGreatDoorGE
namespace Go.Proofs.YtdejeagdkfokfaaGreatDoor.Sh
open Go.RowKit
set_option maxRecDepth 100000
set_option maxHeartbeats 4000000
structure ag where
 code:(List Int)
 at':Int
 seed:Int
def ak(x:ag):List Tr:=[.sl x.code.length (x.code.map (eI .u8)),.int .i64 x.at',.int .i64 x.seed]
def Fx:TI:=⟨3,40,.struct [(0,44),(1,3),(2,2)],[.sl ([]:List Int).length (([]:List Int).map (eI .u8)),.int .i64 0,.int .i64 0]⟩
def Fw:Tb:=[(2,ti2),(3,ti3),(4,ti4),(5,ti5),(9,et),(32,bR),(33,eo),(35,iE),(37,va),(44,BE),(48,zT),(83,DB),(85,ew),(89,eb),(91,bG),(106,bU),(128,Fx),(144,sR),(169,dg)]
theorem ab:ba Tryz.prog Fw:=ba.cons ⟨by kernel_rfl,show Tryz.prog.underlying 2=some (.int .i64)from by kernel_rfl⟩ (ba.cons ⟨by kernel_rfl,show Tryz.prog.underlying 3=some (.int .i64)from by kernel_rfl⟩ (ba.cons ⟨by kernel_rfl,show Tryz.prog.underlying 4=some (.bool)from by kernel_rfl⟩ (ba.cons ⟨by kernel_rfl,show Tryz.prog.underlying 5=some (.int .u8)from by kernel_rfl⟩ (ba.cons ⟨by kernel_rfl,show Tryz.prog.underlying 9=some (.string)from by kernel_rfl⟩ (ba.cons ⟨by kernel_rfl,show Tryz.prog.underlying 32=some (.slice 91)from by kernel_rfl⟩ (ba.cons ⟨by kernel_rfl,show Tryz.prog.underlying 33=some (.slice 85)from by kernel_rfl⟩ (ba.cons ⟨by kernel_rfl,show structOf Tryz.prog 35=some [(0,32),(1,33)]from by kernel_rfl⟩ (ba.cons ⟨by kernel_rfl,show structOf Tryz.prog 37=some [(0,2),(1,2),(2,9),(3,9),(4,9),(5,9)]from by kernel_rfl⟩ (ba.cons ⟨by kernel_rfl,show Tryz.prog.underlying 44=some (.slice 5)from by kernel_rfl⟩ (ba.cons ⟨by kernel_rfl,show Tryz.prog.underlying 48=some (.slice 37)from by kernel_rfl⟩ (ba.cons ⟨by kernel_rfl,show structOf Tryz.prog 83=some [(0,2),(1,2)]from by kernel_rfl⟩ (ba.cons ⟨by kernel_rfl,show structOf Tryz.prog 85=some [(0,9),(1,9),(2,83)]from by kernel_rfl⟩ (ba.cons ⟨by kernel_rfl,show Tryz.prog.underlying 89=some (.slice 169)from by kernel_rfl⟩ (ba.cons ⟨by kernel_rfl,show structOf Tryz.prog 91=some [(0,9),(1,2),(2,83),(4,89)]from by kernel_rfl⟩ (ba.cons ⟨by kernel_rfl,show Tryz.prog.underlying 106=some (.slice 9)from by kernel_rfl⟩ (ba.cons ⟨by kernel_rfl,show structOf Tryz.prog 128=some [(0,44),(1,3),(2,2)]from by kernel_rfl⟩ (ba.cons ⟨by kernel_rfl,show Tryz.prog.underlying 144=some (.slice 2)from by kernel_rfl⟩ (ba.cons ⟨by kernel_rfl,show structOf Tryz.prog 169=some [(0,9),(1,9),(2,2),(3,83)]from by kernel_rfl⟩ (ba.nil _)))))))))))))))))))
noncomputable def pt(aE:(List Int)):Option (Bool):=
 some (decide ((aE.length:Int)>4096))
theorem uJ(aE:(List Int))(r:Bool)(h:pt aE=some r):aR Tryz.prog 18 [.v (vl (eI .u8) aE)] ⟨[.v (vb r)],[],false⟩:=by
 refine au Tryz.func18 rfl [(.tmp 2)] rfl (fun r=>⟨[.v (vb r)],[],false⟩) (r:=r) ?_
 unfold pt at h
 refine aJ ab [0] [] ?_
 refine aJ ab [2] [] ?_
 refine ah ?_
 obtain rfl:=inj h
 exact aO (f1 fv)
theorem D7:bg Tryz.prog 18:=az Tryz.func18 (by kernel_rfl) rfl
noncomputable def fU(aE:(List Int)):Option (ag):=
 (((vT (fun(i3:Int) (_:ag)=>((decide (i3<(aE.length:Int)))&&(decide (i3<64)))) (fun(i3:Int) (s3:ag)=>((at' aE i3).bind fun x7=>some (ag.mk s3.code s3.at' (Int.tmod (bF ((bF (s3.seed*73))+(bF x7))) 2147483647)))) (fun(s3:ag)=>s3) 0 (ag.mk aE 0 51031))).bind fun(j1:ag)=>some j1)
theorem mc(aE:(List Int))(r:ag)(h:fU aE=some r):aR Tryz.prog 47 [.v (vl (eI .u8) aE)] ⟨[.box [vl (eI .u8) r.code,vi r.at',vi r.seed]],[],true⟩:=by
 refine au Tryz.func47 rfl [(.tmp 2)] rfl (fun r=>⟨[.box [vl (eI .u8) r.code,vi r.at',vi r.seed]],[],true⟩) (r:=r) ?_
 unfold fU at h
 refine sr ?_
 refine aa.ls (vj rfl) ?_
 refine aa.nx ?_
 refine sr ?_
 refine aa.cl ab 1 [0,5] [] ?_
 refine aa.ls (aZ (v:= .agg [vl (eI .u8) aE,vi 0,vi 51031]) ab rfl) ?_
 refine bO ab 2 [0,3] [7] ?_
 refine ae ?_
 refine aJ ab [0,3,4] [7] ?_
 refine aU h (fun j1=>⟨34,[(3,.ref 7 0)],[(7,.box (tc ak j1))]⟩) (fun v2 h=> ?_) (fun j1 h=> ?_)
 refine ax (a:=v2) ?_
 refine bc (r:=v2) (s:=(0,(ag.mk aE 0 51031))) _ (fun s3=>⟨34,[(0,vl (eI .u8) aE),(3,.ref 7 0),(4,vi s3.1)],[(7,.box (tc ak s3.2))]⟩) _ (Le.an) h (fun s3 v4 h=> ?_)
 refine ae ?_
 refine ae ?_
 refine c7 ⟨34,[(0,vl (eI .u8) aE),(3,.ref 7 0),(4,vi s3.1),(15,vb ((decide (s3.1<(aE.length:Int)))&&(decide (s3.1<64))))],[(7,.box (tc ak s3.2))]⟩ ?_ ?_
 refine aa.ck ab 5 ⟨34,[(0,vl (eI .u8) aE),(3,.ref 7 0),(4,vi s3.1),(12,vb (decide (s3.1<(aE.length:Int))))],[(7,.box (tc ak s3.2))]⟩ ?_
 generalize (decide (s3.1<(aE.length:Int)))=bb
 cases bb
 refine aa.cl ab 3 [0,3,4,15] [7] ?_
 exact aa.nil (Le.an)
 refine aa.cl ab 3 [0,3,4,15] [7] ?_
 exact aa.nil (Le.an)
 refine aq h (fun h=> ?_) fun h=> ?_
 refine ai ?_
 refine bq ?_
 refine ae ?_
 refine aU h (fun j5=>⟨34,[(0,vl (eI .u8) aE),(3,.ref 7 0),(4,vi s3.1)],[(7,.box (tc ak j5))]⟩) (fun v6 h=> ?_) (fun j5 h=> ?_)
 refine ax (a:=v6) ?_
 refine cV mixed ?_
 refine aH.cl ab false 8 [0,3,4,18,23,24,25] [7] ?_
 obtain⟨x7,hx7,h⟩:=bind_some h
 refine aH.step (aY (L:=aE) (f:=(eI .u8)) (ti:=BE) (tj:=ti5) (e:=5) (k:= .i64) ab rfl hx7) ?_
 refine aH.cl ab false 6 [0,3,4,30,32] [7] ?_
 refine aH.seq (by kernel_rfl) (by kernel_rfl) ?_
 refine aa.cl ab 1 [0,3,4] [7] ?_
 refine aa.nil ?_
 obtain rfl:=inj h
 exact bt (cI (Le.an))
 refine aD ?_
 refine aa.cl ab 3 [0,3,4] [7] ?_
 refine aa.nil ?_
 obtain rfl:=inj h
 exact cn (Le.an)
 refine a6 ?_
 obtain rfl:=inj h
 exact cE (cG (cF (cI (Le.an))))
 refine aJ ab [2] [7] ?_
 refine ah ?_
 obtain rfl:=inj h
 exact aO (f1 (E8 (d:=7) (fP (by kernel_rfl)) (by kernel_rfl) rfl (by kernel_rfl)))
theorem AA:bg Tryz.prog 47:=az Tryz.func47 (by kernel_rfl) rfl
noncomputable def aG(aS:ag)(aN:Int):Option (Int×ag):=
 (bif(decide (aN≤1))then some (0,aS)else(((bif(decide (aS.at'<(aS.code.length:Int)))then((at' aS.code aS.at').bind fun x3=>(bif((decide (aN≤256))&&((Int.tmod (bF (aS.at'+1)) 2)==0))then((at' aS.code (bF ((bF (aS.at'+1))- 1))).bind fun x4=>some ((bF x4),(ag.mk aS.code (bF (aS.at'+1)) (Int.tmod (bF ((bF (aS.seed*48271))+29)) 2147483647))))else some ((bF ((bF (Int.tdiv (Int.tmod (bF ((bF (aS.seed*48271))+29)) 2147483647) 31))+(bF x3))),(ag.mk aS.code (bF (aS.at'+1)) (Int.tmod (bF ((bF (aS.seed*48271))+29)) 2147483647)))))else some ((bF (Int.tdiv (Int.tmod (bF ((bF (aS.seed*48271))+29)) 2147483647) 31)),(ag.mk aS.code aS.at' (Int.tmod (bF ((bF (aS.seed*48271))+29)) 2147483647))))).bind fun(j1:Int×ag)=>((nz' aN).bind fun _=>some ((Int.tmod j1.1 aN),j1.2))))
theorem aw(aS:ag)(aN:Int)(r:Int×ag)(h:aG aS aN=some r):aR Tryz.prog 50 [.o (.box [vl (eI .u8) aS.code,vi aS.at',vi aS.seed]),.v (vi aN)] ⟨[.v (vi r.1)],[(0,.box (tc ak r.2))],false⟩:=by
 refine au Tryz.func50 rfl [(.tmp 4)] rfl (fun r=>⟨[.v (vi r.1)],[(0,.box (tc ak r.2))],false⟩) (r:=r) ?_
 unfold aG at h
 refine aJ ab [0,1] [1000000] ?_
 refine ae ?_
 refine aJ ab [0,1,7] [1000000] ?_
 refine aq h (fun h=> ?_) fun h=> ?_
 refine aJ ab [4] [1000000] ?_
 refine ah ?_
 obtain rfl:=inj h
 exact cY (aO (di (f1 fv) (y:= .box (tc ak aS)) (by kernel_rfl) rfl (by kernel_rfl) (by kernel_rfl)))
 refine ai ?_
 refine bq ?_
 refine aJ ab [0,1] [1000000] ?_
 refine aJ ab [0,1,5] [1000000] ?_
 refine ae ?_
 refine ae ?_
 refine cV mixed ?_
 refine aH.cl ab false 10 [0,1,5,32] [1000000] ?_
 refine aH.nx ?_
 refine aU h (fun j1=>⟨78,[(1,vi aN),(5,vi j1.1)],[(1000000,.box (tc ak j1.2))]⟩) (fun v2 h=> ?_) (fun j1 h=> ?_)
 refine aq h (fun h=> ?_) fun h=> ?_
 refine ae ?_
 refine cV mixed ?_
 refine aH.cl ab false 9 [0,1,33,37,41] [1000000] ?_
 obtain⟨x3,hx3,h⟩:=bind_some h
 refine aH.step (aY (L:=aS.code) (f:=(eI .u8)) (ti:=BE) (tj:=ti5) (e:=5) (k:= .i64) ab rfl hx3) ?_
 refine aH.cl ab false 4 [0,1,5] [1000000] ?_
 refine aH.nx ?_
 refine aJ ab [0,1,5] [1000000] ?_
 refine ae ?_
 refine c7 ⟨78,[(0,.ref 1000000 0),(1,vi aN),(5,vi (bF ((bF (Int.tdiv (Int.tmod (bF ((bF (aS.seed*48271))+29)) 2147483647) 31))+(bF x3)))),(62,vb ((decide (aN≤256))&&((Int.tmod (bF (aS.at'+1)) 2)==0)))],[(1000000,.box [vl (eI .u8) aS.code,vi (bF (aS.at'+1)),vi (Int.tmod (bF ((bF (aS.seed*48271))+29)) 2147483647)])]⟩ ?_ ?_
 refine aa.ck ab 3 ⟨78,[(0,.ref 1000000 0),(1,vi aN),(5,vi (bF ((bF (Int.tdiv (Int.tmod (bF ((bF (aS.seed*48271))+29)) 2147483647) 31))+(bF x3)))),(55,vb (decide (aN≤256)))],[(1000000,.box [vl (eI .u8) aS.code,vi (bF (aS.at'+1)),vi (Int.tmod (bF ((bF (aS.seed*48271))+29)) 2147483647)])]⟩ ?_
 generalize (decide (aN≤256))=bb
 cases bb
 refine aa.cl ab 7 [0,1,5,62] [1000000] ?_
 exact aa.nil (Le.an)
 refine aa.cl ab 7 [0,1,5,62] [1000000] ?_
 exact aa.nil (Le.an)
 refine aq h (fun h=> ?_) fun h=> ?_
 refine cV mixed ?_
 refine aH.cl ab false 9 [1,66,71] [1000000] ?_
 obtain⟨x4,hx4,h⟩:=bind_some h
 refine aH.step (aY (L:=aS.code) (f:=(eI .u8)) (ti:=BE) (tj:=ti5) (e:=5) (k:= .i64) ab rfl hx4) ?_
 refine aH.cl ab false 3 [1,5] [1000000] ?_
 refine aH.nil (by kernel_rfl) ?_
 obtain rfl:=inj h
 exact cI (Le.an)
 refine ai ?_
 obtain rfl:=inj h
 exact cI (Le.an)
 refine ai ?_
 obtain rfl:=inj h
 exact cI (Le.an)
 refine sr ?_
 refine aa.cl ab 2 [75,76] [1000000] ?_
 obtain⟨x5,hx5,h⟩:=bind_some h
 refine aa.ls (wS (k:= .i64) (i:=j1.1) hx5 true rfl) ?_
 refine bO ab 1 [4] [1000000] ?_
 refine ah ?_
 obtain rfl:=inj h
 exact aO (di (f1 fv) (y:= .box (tc ak j1.2)) (by kernel_rfl) rfl (by kernel_rfl) (by kernel_rfl))
theorem bB:bg Tryz.prog 50:=az Tryz.func50 (by kernel_rfl) rfl
noncomputable def eV(aS:ag):Option (ByteArray×ag):=
 ((aG aS 3).bind fun x1=>(((loop (fun(s4:ByteArray×Int×ag)=>(bif(decide (s4.2.1>0))then((((aG s4.2.2 (([(ByteArray.mk #[97,115,104]),(ByteArray.mk #[102,111,114,100]),(ByteArray.mk #[116,111,110]),(ByteArray.mk #[98,121]),(ByteArray.mk #[107,105,114,107]),(ByteArray.mk #[104,97,114]),(ByteArray.mk #[119,105,99,107]),(ByteArray.mk #[101,108,121]),(ByteArray.mk #[111,115]),(ByteArray.mk #[108,111]),(ByteArray.mk #[98,114,105,103]),(ByteArray.mk #[109,97]),(ByteArray.mk #[114,105]),(ByteArray.mk #[110,97]),(ByteArray.mk #[115,116]),(ByteArray.mk #[97,101])]:List ByteArray).length:Int)).bind fun x8=>((at' ([(ByteArray.mk #[97,115,104]),(ByteArray.mk #[102,111,114,100]),(ByteArray.mk #[116,111,110]),(ByteArray.mk #[98,121]),(ByteArray.mk #[107,105,114,107]),(ByteArray.mk #[104,97,114]),(ByteArray.mk #[119,105,99,107]),(ByteArray.mk #[101,108,121]),(ByteArray.mk #[111,115]),(ByteArray.mk #[108,111]),(ByteArray.mk #[98,114,105,103]),(ByteArray.mk #[109,97]),(ByteArray.mk #[114,105]),(ByteArray.mk #[110,97]),(ByteArray.mk #[115,116]),(ByteArray.mk #[97,101])]:List ByteArray) x8.1).bind fun x9=>((iS s4.1 x9).bind fun x10=>some (x10,x8.2))))).bind fun(j6:ByteArray×ag)=>some (.inl (j6.1,(bF (s4.2.1 - 1)),j6.2)))else some (.inr (s4.1,s4.2.2)))) ((ByteArray.mk #[]),(bF (1+x1.1)),x1.2))).bind fun(j2:ByteArray×ag)=>some (j2.1,j2.2)))
theorem mf(aS:ag)(r:ByteArray×ag)(h:eV aS=some r):aR Tryz.prog 153 [.o (.box [vl (eI .u8) aS.code,vi aS.at',vi aS.seed])] ⟨[.v (vs r.1)],[(0,.box (tc ak r.2))],false⟩:=by
 refine au Tryz.func153 rfl [(.tmp 2)] rfl (fun r=>⟨[.v (vs r.1)],[(0,.box (tc ak r.2))],false⟩) (r:=r) ?_
 unfold eV at h
 refine aJ ab [0] [1000000] ?_
 refine aJ ab [0,3] [6,1000000] ?_
 refine aJ ab [0,3,4] [6,1000000] ?_
 refine ae ?_
 refine sr ?_
 refine aa.cl ab 1 [0,3,4,7] [6,1000000] ?_
 obtain⟨x1,hx1,h⟩:=bind_some h
 refine aa.a7 (xe bB (aw aS 3 _ hx1)) ?_
 refine bO ab 2 [0,3,4,5] [6,1000000] ?_
 refine aU h (fun j2=>⟨24,[(4,vs j2.1)],[(1000000,.box (tc ak j2.2))]⟩) (fun v3 h=> ?_) (fun j2 h=> ?_)
 refine ax (a:=v3) ?_
 refine bc (r:=v3) (s:=((ByteArray.mk #[]),(bF (1+x1.1)),x1.2)) _ (fun s4=>⟨24,[(0,.ref 1000000 0),(3,.own 3),(4,vs s4.1),(5,vi s4.2.1)],[(3,oa 9 1 eS ([(ByteArray.mk #[97,115,104]),(ByteArray.mk #[102,111,114,100]),(ByteArray.mk #[116,111,110]),(ByteArray.mk #[98,121]),(ByteArray.mk #[107,105,114,107]),(ByteArray.mk #[104,97,114]),(ByteArray.mk #[119,105,99,107]),(ByteArray.mk #[101,108,121]),(ByteArray.mk #[111,115]),(ByteArray.mk #[108,111]),(ByteArray.mk #[98,114,105,103]),(ByteArray.mk #[109,97]),(ByteArray.mk #[114,105]),(ByteArray.mk #[110,97]),(ByteArray.mk #[115,116]),(ByteArray.mk #[97,101])]:List ByteArray)),(1000000,.box (tc ak s4.2.2))]⟩) _ (Le.rr [6,1000000] [(6,3)]) h (fun s4 v5 h=> ?_)
 refine ae ?_
 refine aJ ab [0,3,4,5,11] [3,1000000] ?_
 refine aq h (fun h=> ?_) fun h=> ?_
 refine ai ?_
 refine bq ?_
 refine ae ?_
 refine aU h (fun j6=>⟨24,[(0,.ref 1000000 0),(3,.own 3),(4,vs j6.1),(5,vi s4.2.1)],[(3,oa 9 1 eS ([(ByteArray.mk #[97,115,104]),(ByteArray.mk #[102,111,114,100]),(ByteArray.mk #[116,111,110]),(ByteArray.mk #[98,121]),(ByteArray.mk #[107,105,114,107]),(ByteArray.mk #[104,97,114]),(ByteArray.mk #[119,105,99,107]),(ByteArray.mk #[101,108,121]),(ByteArray.mk #[111,115]),(ByteArray.mk #[108,111]),(ByteArray.mk #[98,114,105,103]),(ByteArray.mk #[109,97]),(ByteArray.mk #[114,105]),(ByteArray.mk #[110,97]),(ByteArray.mk #[115,116]),(ByteArray.mk #[97,101])]:List ByteArray)),(1000000,.box (tc ak j6.2))]⟩) (fun v7 h=> ?_) (fun j6 h=> ?_)
 refine ax (a:=v7) ?_
 refine aD ?_
 refine aa.cl ab 5 [0,3,5,14,15,16,18] [3,1000000] ?_
 obtain⟨x8,hx8,h⟩:=bind_some h
 refine aa.a7 (xe bB (aw s4.2.2 (([(ByteArray.mk #[97,115,104]),(ByteArray.mk #[102,111,114,100]),(ByteArray.mk #[116,111,110]),(ByteArray.mk #[98,121]),(ByteArray.mk #[107,105,114,107]),(ByteArray.mk #[104,97,114]),(ByteArray.mk #[119,105,99,107]),(ByteArray.mk #[101,108,121]),(ByteArray.mk #[111,115]),(ByteArray.mk #[108,111]),(ByteArray.mk #[98,114,105,103]),(ByteArray.mk #[109,97]),(ByteArray.mk #[114,105]),(ByteArray.mk #[110,97]),(ByteArray.mk #[115,116]),(ByteArray.mk #[97,101])]:List ByteArray).length:Int) _ hx8)) ?_
 obtain⟨x9,hx9,h⟩:=bind_some h
 refine aa.ls (bw (d:=3) (L:=([(ByteArray.mk #[97,115,104]),(ByteArray.mk #[102,111,114,100]),(ByteArray.mk #[116,111,110]),(ByteArray.mk #[98,121]),(ByteArray.mk #[107,105,114,107]),(ByteArray.mk #[104,97,114]),(ByteArray.mk #[119,105,99,107]),(ByteArray.mk #[101,108,121]),(ByteArray.mk #[111,115]),(ByteArray.mk #[108,111]),(ByteArray.mk #[98,114,105,103]),(ByteArray.mk #[109,97]),(ByteArray.mk #[114,105]),(ByteArray.mk #[110,97]),(ByteArray.mk #[115,116]),(ByteArray.mk #[97,101])]:List ByteArray)) (f:=eS) (ti:=bU) (tj:=et) (e:=9) (e':=9) (m:=1) (k:= .i64) ab rfl hx9) ?_
 refine aa.ls (bN (d:=3) (m:=1) (j:=0) (L:=([(ByteArray.mk #[97,115,104]),(ByteArray.mk #[102,111,114,100]),(ByteArray.mk #[116,111,110]),(ByteArray.mk #[98,121]),(ByteArray.mk #[107,105,114,107]),(ByteArray.mk #[104,97,114]),(ByteArray.mk #[119,105,99,107]),(ByteArray.mk #[101,108,121]),(ByteArray.mk #[111,115]),(ByteArray.mk #[108,111]),(ByteArray.mk #[98,114,105,103]),(ByteArray.mk #[109,97]),(ByteArray.mk #[114,105]),(ByteArray.mk #[110,97]),(ByteArray.mk #[115,116]),(ByteArray.mk #[97,101])]:List ByteArray)) (f:=eS) (ti:=et) (e:=9) (v:=vs x9) ab rfl hx9) ?_
 obtain⟨x10,hx10,h⟩:=bind_some h
 refine aa.ls (sX hx10 rfl) ?_
 refine aa.cl ab 1 [0,3,4,5] [3,1000000] ?_
 refine aa.nil ?_
 obtain rfl:=inj h
 exact bt (cI (Le.an))
 refine aD ?_
 refine aa.cl ab 3 [0,3,4,5] [3,1000000] ?_
 refine aa.nil ?_
 obtain rfl:=inj h
 exact cn (Le.an)
 refine a6 ?_
 obtain rfl:=inj h
 exact cE (cG (cF (cI (Le.an))))
 refine aJ ab [2] [1000000] ?_
 refine ah ?_
 obtain rfl:=inj h
 exact aO (di (f1 fv) (y:= .box (tc ak j2.2)) (by kernel_rfl) rfl (by kernel_rfl) (by kernel_rfl))
theorem yj:bg Tryz.prog 153:=az Tryz.func153 (by kernel_rfl) rfl
noncomputable def fg(mw:(List ByteArray)):Option (ByteArray):=
 (((jH (mw.length:Int) (fun(i3:Int) (s3:ByteArray)=>(((bif(decide (i3>0))then((iS s3 (ByteArray.mk #[32])).bind fun x9=>some x9)else some s3)).bind fun(j7:ByteArray)=>((at' mw i3).bind fun x10=>((iS j7 x10).bind fun x11=>some x11)))) (fun(s3:ByteArray)=>s3) 0 (ByteArray.mk #[]))).bind fun(j1:ByteArray)=>some j1)
theorem pK(mw:(List ByteArray))(r:ByteArray)(h:fg mw=some r):aR Tryz.prog 154 [.v (vl eS mw)] ⟨[.v (vs r)],[],false⟩:=by
 refine au Tryz.func154 rfl [(.tmp 2)] rfl (fun r=>⟨[.v (vs r)],[],false⟩) (r:=r) ?_
 unfold fg at h
 refine aJ ab [0] [] ?_
 refine aJ ab [0,3] [] ?_
 refine ae ?_
 refine aJ ab [0,3,4] [] ?_
 refine aU h (fun j1=>⟨22,[(3,vs j1)],[]⟩) (fun v2 h=> ?_) (fun j1 h=> ?_)
 refine ax (a:=v2) ?_
 refine bc (r:=v2) (s:=(0,(ByteArray.mk #[]))) _ (fun s3=>⟨22,[(0,vl eS mw),(3,vs s3.2),(4,vi s3.1)],[]⟩) _ (Le.an) h (fun s3 v4 h=> ?_)
 refine ae ?_
 refine aJ ab [0,3,4,8] [] ?_
 refine aq h (fun h=> ?_) fun h=> ?_
 refine ai ?_
 refine bq ?_
 refine ae ?_
 refine aU h (fun j5=>⟨22,[(0,vl eS mw),(3,vs j5),(4,vi s3.1)],[]⟩) (fun v6 h=> ?_) (fun j5 h=> ?_)
 refine ax (a:=v6) ?_
 refine ae ?_
 refine aJ ab [0,3,4,12] [] ?_
 refine aU h (fun j7=>⟨22,[(0,vl eS mw),(3,vs j7),(4,vi s3.1)],[]⟩) (fun v8 h=> ?_) (fun j7 h=> ?_)
 refine aq h (fun h=> ?_) fun h=> ?_
 refine aD ?_
 refine aa.cl ab 1 [0,4,13] [] ?_
 obtain⟨x9,hx9,h⟩:=bind_some h
 refine aa.ls (sX hx9 rfl) ?_
 refine aa.cl ab 1 [0,3,4] [] ?_
 refine aa.nil ?_
 obtain rfl:=inj h
 exact cI (Le.an)
 refine ai ?_
 obtain rfl:=inj h
 exact cI (Le.an)
 refine aD ?_
 refine aa.cl ab 3 [0,4,15,16,17] [] ?_
 obtain⟨x10,hx10,h⟩:=bind_some h
 refine aa.ls (aY (L:=mw) (f:=eS) (ti:=bU) (tj:=et) (e:=9) (k:= .i64) ab rfl hx10) ?_
 refine aa.cl ab 1 [0,4,15,19] [] ?_
 obtain⟨x11,hx11,h⟩:=bind_some h
 refine aa.ls (sX hx11 rfl) ?_
 refine aa.cl ab 1 [0,3,4] [] ?_
 refine aa.nil ?_
 obtain rfl:=inj h
 exact bt (cI (Le.an))
 refine aD ?_
 refine aa.cl ab 3 [0,3,4] [] ?_
 refine aa.nil ?_
 obtain rfl:=inj h
 exact cn (Le.an)
 refine a6 ?_
 obtain rfl:=inj h
 exact cE (cG (cF (cI (Le.an))))
 refine aJ ab [2] [] ?_
 refine ah ?_
 obtain rfl:=inj h
 exact aO (f1 fv)
theorem Cz:bg Tryz.prog 154:=az Tryz.func154 (by kernel_rfl) rfl
noncomputable def bW(aS:ag):Option (ByteArray×ag):=
 ((aG aS 3).bind fun x1=>(((loop (fun(s4:Int×(List ByteArray)×ag)=>(bif(decide (s4.1>0))then((((eV s4.2.2).bind fun x8=>((c4 s4.2.1 ([x8.1]:List ByteArray)).bind fun x9=>some (x9,x8.2)))).bind fun(j6:(List ByteArray)×ag)=>some (.inl ((bF (s4.1 - 1)),j6.1,j6.2)))else some (.inr (s4.2.1,s4.2.2)))) ((bF (1+x1.1)),([]:List ByteArray),x1.2))).bind fun(j2:(List ByteArray)×ag)=>((fg j2.1).bind fun x10=>some (x10,j2.2))))
theorem ej(aS:ag)(r:ByteArray×ag)(h:bW aS=some r):aR Tryz.prog 100 [.o (.box [vl (eI .u8) aS.code,vi aS.at',vi aS.seed])] ⟨[.v (vs r.1)],[(0,.box (tc ak r.2))],false⟩:=by
 refine au Tryz.func100 rfl [(.tmp 2)] rfl (fun r=>⟨[.v (vs r.1)],[(0,.box (tc ak r.2))],false⟩) (r:=r) ?_
 unfold bW at h
 refine aJ ab [0] [1000000] ?_
 refine aJ ab [0,3] [5,1000000] ?_
 refine ae ?_
 refine sr ?_
 refine aa.cl ab 1 [0,3,6] [5,1000000] ?_
 obtain⟨x1,hx1,h⟩:=bind_some h
 refine aa.a7 (xe bB (aw aS 3 _ hx1)) ?_
 refine bO ab 2 [0,3,4] [5,1000000] ?_
 refine aU h (fun j2=>⟨20,[(3,.own 3)],[(3,oa 9 1 eS j2.1),(1000000,.box (tc ak j2.2))]⟩) (fun v3 h=> ?_) (fun j2 h=> ?_)
 refine ax (a:=v3) ?_
 refine bc (r:=v3) (s:=((bF (1+x1.1)),([]:List ByteArray),x1.2)) _ (fun s4=>⟨20,[(0,.ref 1000000 0),(3,.own 3),(4,vi s4.1)],[(3,oa 9 1 eS s4.2.1),(1000000,.box (tc ak s4.2.2))]⟩) _ (Le.rr [5,1000000] [(5,3)]) h (fun s4 v5 h=> ?_)
 refine ae ?_
 refine aJ ab [0,3,4,10] [3,1000000] ?_
 refine aq h (fun h=> ?_) fun h=> ?_
 refine ai ?_
 refine bq ?_
 refine ae ?_
 refine aU h (fun j6=>⟨20,[(0,.ref 1000000 0),(3,.own 3),(4,vi s4.1)],[(3,oa 9 1 eS j6.1),(1000000,.box (tc ak j6.2))]⟩) (fun v7 h=> ?_) (fun j6 h=> ?_)
 refine ax (a:=v7) ?_
 refine aD ?_
 refine aa.cl ab 2 [0,4,13,14] [3,1000000] ?_
 obtain⟨x8,hx8,h⟩:=bind_some h
 refine aa.a7 (xe yj (mf s4.2.2 _ hx8)) ?_
 refine aa.cl ab 1 [0,4,13,16] [3,16,1000000] ?_
 obtain⟨x9,hx9,h⟩:=bind_some h
 refine aa.a7 (bh (f:=eS) (t:=106) (ti:=bU) (tj:=et) (zs:=[.string (ByteArray.mk #[])]) (e:=9) (m:=1) (d:=3) (xv:= .own 16) hx9 ab rfl rfl rfl rfl (bT (e:=9))) ?_
 refine aa.cl ab 1 [0,3,4] [17,1000000] ?_
 refine aa.nil ?_
 obtain rfl:=inj h
 exact bt (cI (Le.rr [17,1000000] [(17,3)]))
 refine aD ?_
 refine aa.cl ab 3 [0,3,4] [3,1000000] ?_
 refine aa.nil ?_
 obtain rfl:=inj h
 exact cn (Le.an)
 refine a6 ?_
 obtain rfl:=inj h
 exact cE (cG (cF (cI (Le.an))))
 refine sr ?_
 refine aa.cl ab 1 [18] [3,1000000] ?_
 obtain⟨x10,hx10,h⟩:=bind_some h
 refine aa.ls (xc Cz (pK j2.1 _ hx10)) ?_
 refine bO ab 1 [2] [1000000] ?_
 refine ah ?_
 obtain rfl:=inj h
 exact aO (di (f1 fv) (y:= .box (tc ak j2.2)) (by kernel_rfl) rfl (by kernel_rfl) (by kernel_rfl))
theorem rp:bg Tryz.prog 100:=az Tryz.func100 (by kernel_rfl) rfl
noncomputable def cT(aS:ag)(af:(List Int)):Option (Int×ag):=
 ((aG aS (af.length:Int)).bind fun x1=>((at' af x1.1).bind fun x2=>some (x2,x1.2)))
theorem df(aS:ag)(af:(List Int))(r:Int×ag)(h:cT aS af=some r):aR Tryz.prog 101 [.o (.box [vl (eI .u8) aS.code,vi aS.at',vi aS.seed]),.v (vl (eI .i64) af)] ⟨[.v (vi r.1)],[(0,.box (tc ak r.2))],false⟩:=by
 refine au Tryz.func101 rfl [(.tmp 4)] rfl (fun r=>⟨[.v (vi r.1)],[(0,.box (tc ak r.2))],false⟩) (r:=r) ?_
 unfold cT at h
 refine aJ ab [0,1] [1000000] ?_
 refine sr ?_
 refine aa.cl ab 4 [5,6,8] [1000000] ?_
 obtain⟨x1,hx1,h⟩:=bind_some h
 refine aa.a7 (xe bB (aw aS (af.length:Int) _ hx1)) ?_
 obtain⟨x2,hx2,h⟩:=bind_some h
 refine aa.ls (aY (L:=af) (f:=(eI .i64)) (ti:=sR) (tj:=ti2) (e:=2) (k:= .i64) ab rfl hx2) ?_
 refine bO ab 2 [4] [1000000] ?_
 refine ah ?_
 obtain rfl:=inj h
 exact aO (di (f1 fv) (y:= .box (tc ak x1.2)) (by kernel_rfl) rfl (by kernel_rfl) (by kernel_rfl))
theorem lu:bg Tryz.prog 101:=az Tryz.func101 (by kernel_rfl) rfl
noncomputable def hU(aS:ag):Option (Span×ag):=
 ((aG aS 1000).bind fun x1=>((aG x1.2 20).bind fun x2=>((aG x2.2 300).bind fun x3=>((cT x3.2 ([0,x2.1,x3.1,2000]:List Int)).bind fun x4=>some ((Span.mk (bF (1000+x1.1)) (bM 3000 (bF ((bF (1000+x1.1))+x4.1)))),x4.2)))))
theorem mg(aS:ag)(r:Span×ag)(h:hU aS=some r):aR Tryz.prog 216 [.o (.box [vl (eI .u8) aS.code,vi aS.at',vi aS.seed])] ⟨[.v (.agg (tc ig r.1))],[(0,.box (tc ak r.2))],false⟩:=by
 refine au Tryz.func216 rfl [(.cell 2 83)] rfl (fun r=>⟨[.v (.agg (tc ig r.1))],[(0,.box (tc ak r.2))],false⟩) (r:=r) ?_
 unfold hU at h
 refine aJ ab [0,2] [2,1000000] ?_
 refine sr ?_
 refine aa.cl ab 1 [0,2,4] [2,1000000] ?_
 obtain⟨x1,hx1,h⟩:=bind_some h
 refine aa.a7 (xe bB (aw aS 1000 _ hx1)) ?_
 refine bO ab 2 [0,2,3] [2,1000000] ?_
 refine sr ?_
 refine aa.cl ab 4 [0,2,7,8,9,10] [2,1000000] ?_
 obtain⟨x2,hx2,h⟩:=bind_some h
 refine aa.a7 (xe bB (aw x1.2 20 _ hx2)) ?_
 refine aa.cl ab 1 [2,7,8,9,11,12] [2,1000000] ?_
 obtain⟨x3,hx3,h⟩:=bind_some h
 refine aa.a7 (xe bB (aw x2.2 300 _ hx3)) ?_
 refine aa.cl ab 1 [2,7,8,9,14] [2,14,1000000] ?_
 refine aa.le (Le.l3 (d:=14) (e:=2) (m:=1) (n:=([0,x2.1,x3.1,2000]:List Int).length) (es:=([0,x2.1,x3.1,2000]:List Int).map (eI .i64)) (by kernel_rfl) (by kernel_rfl)) ?_
 obtain⟨x4,hx4,h⟩:=bind_some h
 refine aa.a7 (xe lu (df x3.2 ([0,x2.1,x3.1,2000]:List Int) _ hx4)) ?_
 refine aa.cl ab 2 [2,7,17] [2,1000000] ?_
 refine aa.ls (aZ (v:= .agg [vi (bF (1000+x1.1)),vi (bM 3000 (bF ((bF (1000+x1.1))+x4.1)))]) ab rfl) ?_
 refine bO ab 1 [2] [2,1000000] ?_
 refine ah ?_
 obtain rfl:=inj h
 exact aO (di (f1 (fc ab)) (y:= .box (tc ak x4.2)) (by kernel_rfl) rfl (by kernel_rfl) (by kernel_rfl))
theorem yu:bg Tryz.prog 216:=az Tryz.func216 (by kernel_rfl) rfl
noncomputable def gN(aS:ag)(aT:ByteArray):Option (ByteArray×ag):=
 ((aG aS (bF ((aT.size:Int)+1))).bind fun x1=>((aG x1.2 8).bind fun x2=>(((bif(x2.1==0)then((lW aT 0 x1.1).bind fun x5=>some (.inr (x5,x2.2)))else(bif(x2.1==1)then((lW aT 0 x1.1).bind fun x6=>((aG x2.2 8).bind fun x7=>((at' ([(ByteArray.mk #[48]),(ByteArray.mk #[35]),(ByteArray.mk #[46]),(ByteArray.mk #[47]),(ByteArray.mk #[32]),(ByteArray.mk #[97]),(ByteArray.mk #[45]),(ByteArray.mk #[10])]:List ByteArray) x7.1).bind fun x8=>((iS x6 x8).bind fun x9=>((lW aT x1.1 (aT.size:Int)).bind fun x10=>((iS x9 x10).bind fun x11=>some (.inr (x11,x7.2))))))))else(bif(x2.1==2)then(bif(decide (x1.1<(aT.size:Int)))then((lW aT 0 x1.1).bind fun x12=>((lW aT (bF (x1.1+1)) (aT.size:Int)).bind fun x13=>((iS x12 x13).bind fun x14=>some (.inr (x14,x2.2)))))else some (.inl x2.2))else some (.inl x2.2))))).bind (Sum.elim (fun(j3:ag)=>some (aT,j3)) some))))
theorem oQ(aS:ag)(aT:ByteArray)(r:ByteArray×ag)(h:gN aS aT=some r):aR Tryz.prog 155 [.o (.box [vl (eI .u8) aS.code,vi aS.at',vi aS.seed]),.v (vs aT)] ⟨[.v (vs r.1)],[(0,.box (tc ak r.2))],false⟩:=by
 refine au Tryz.func155 rfl [(.tmp 4)] rfl (fun r=>⟨[.v (vs r.1)],[(0,.box (tc ak r.2))],false⟩) (r:=r) ?_
 unfold gN at h
 refine aJ ab [0,1] [1000000] ?_
 refine sr ?_
 refine aa.cl ab 4 [0,1,6,9] [1000000] ?_
 obtain⟨x1,hx1,h⟩:=bind_some h
 refine aa.a7 (xe bB (aw aS (bF ((aT.size:Int)+1)) _ hx1)) ?_
 refine bO ab 1 [0,1,5] [1000000] ?_
 refine ae ?_
 refine sr ?_
 refine aa.cl ab 1 [0,1,5,11] [1000000] ?_
 obtain⟨x2,hx2,h⟩:=bind_some h
 refine aa.a7 (xe bB (aw x1.2 8 _ hx2)) ?_
 refine aa.nx ?_
 refine bp (r:=r) h (fun j3=>⟨48,[(1,vs aT)],[(1000000,.box (tc ak j3))]⟩) (fun v4 h=> ?_) (fun j3 h=> ?_)
 refine ax (a:=v4) ?_
 refine aJ ab [0,1,5,12,13] [1000000] ?_
 refine aq h (fun h=> ?_) fun h=> ?_
 refine sr ?_
 refine aa.cl ab 2 [15,16] [1000000] ?_
 obtain⟨x5,hx5,h⟩:=bind_some h
 refine aa.ls (sZ (ti:=et) hx5 ab rfl) ?_
 refine bO ab 1 [4] [1000000] ?_
 refine ah ?_
 obtain rfl:=inj h
 exact bE (bo (aO (di (f1 fv) (y:= .box (tc ak x2.2)) (by kernel_rfl) rfl (by kernel_rfl) (by kernel_rfl))))
 refine aJ ab [0,1,5,12,18] [1000000] ?_
 refine aq h (fun h=> ?_) fun h=> ?_
 refine ae ?_
 refine iQ [1000000] mixed ?_
 refine aH.cl ab false 2 [0,1,5,20,21] [1000000] ?_
 obtain⟨x6,hx6,h⟩:=bind_some h
 refine aH.step (sZ (ti:=et) hx6 ab rfl) ?_
 refine aH.cl ab false 2 [1,5,22,23,24] [23,1000000] ?_
 obtain⟨x7,hx7,h⟩:=bind_some h
 refine aH.write [] (xw bB (aw x2.2 8 _ hx7)) ?_
 obtain⟨x8,hx8,h⟩:=bind_some h
 refine aH.mX false [23] (bw (d:=23) (L:=([(ByteArray.mk #[48]),(ByteArray.mk #[35]),(ByteArray.mk #[46]),(ByteArray.mk #[47]),(ByteArray.mk #[32]),(ByteArray.mk #[97]),(ByteArray.mk #[45]),(ByteArray.mk #[10])]:List ByteArray)) (f:=eS) (ti:=bU) (tj:=et) (e:=9) (e':=9) (m:=1) (k:= .i64) ab rfl hx8) ?_
 refine aH.mX false [23] (bN (d:=23) (m:=1) (j:=0) (L:=([(ByteArray.mk #[48]),(ByteArray.mk #[35]),(ByteArray.mk #[46]),(ByteArray.mk #[47]),(ByteArray.mk #[32]),(ByteArray.mk #[97]),(ByteArray.mk #[45]),(ByteArray.mk #[10])]:List ByteArray)) (f:=eS) (ti:=et) (e:=9) (v:=vs x8) ab rfl hx8) ?_
 obtain⟨x9,hx9,h⟩:=bind_some h
 refine aH.step (sX hx9 rfl) ?_
 refine aH.cl ab false 2 [28,29,30] [1000000] ?_
 obtain⟨x10,hx10,h⟩:=bind_some h
 refine aH.step (sZ (ti:=et) hx10 ab rfl) ?_
 obtain⟨x11,hx11,h⟩:=bind_some h
 refine aH.step (sX hx11 rfl) ?_
 refine aH.cl ab false 1 [4] [1000000] ?_
 refine aH.nx ?_
 refine ah ?_
 obtain rfl:=inj h
 exact bE (bo (aO (di (f1 fv) (y:= .box (tc ak x7.2)) (by kernel_rfl) rfl (by kernel_rfl) (by kernel_rfl))))
 refine kM ab ⟨48,[(1,vs aT),(5,vi x1.1),(33,vb (x2.1==2))],[(1000000,.box (tc ak x2.2))]⟩ ?_
 refine aq h (fun h=> ?_) fun h=> ?_
 refine aJ ab [1,5,38] [1000000] ?_
 refine aq h (fun h=> ?_) fun h=> ?_
 refine ae ?_
 refine cV mixed ?_
 refine aH.cl ab false 2 [1,5,39,40] [1000000] ?_
 obtain⟨x12,hx12,h⟩:=bind_some h
 refine aH.step (sZ (ti:=et) hx12 ab rfl) ?_
 refine aH.cl ab false 3 [41,42,44] [1000000] ?_
 obtain⟨x13,hx13,h⟩:=bind_some h
 refine aH.step (sZ (ti:=et) hx13 ab rfl) ?_
 obtain⟨x14,hx14,h⟩:=bind_some h
 refine aH.step (sX hx14 rfl) ?_
 refine aH.cl ab false 1 [4] [1000000] ?_
 refine aH.nx ?_
 refine ah ?_
 obtain rfl:=inj h
 exact bE (bo (aO (di (f1 fv) (y:= .box (tc ak x2.2)) (by kernel_rfl) rfl (by kernel_rfl) (by kernel_rfl))))
 refine ai ?_
 obtain rfl:=inj h
 exact bt (cn (Le.an))
 refine ai ?_
 obtain rfl:=inj h
 exact bt (cn (Le.an))
 refine aJ ab [4] [1000000] ?_
 refine ah ?_
 obtain rfl:=inj h
 exact aO (di (f1 fv) (y:= .box (tc ak j3)) (by kernel_rfl) rfl (by kernel_rfl) (by kernel_rfl))
theorem CA:bg Tryz.prog 155:=az Tryz.func155 (by kernel_rfl) rfl
noncomputable def db(aS:ag):Option (ByteArray×ag):=
 ((bW aS).bind fun x1=>((aG x1.2 20).bind fun x2=>(((bif(x2.1==0)then((gN x2.2 x1.1).bind fun x5=>some (.inr (x5.1,x5.2)))else(bif(x2.1==1)then((aG x2.2 5).bind fun x6=>((at' ([(ByteArray.mk #[]),(ByteArray.mk #[97,32,32,98]),(ByteArray.mk #[32,97]),(ByteArray.mk #[97,32,98,32,99,32,100,32,101,32,102,32,103,32,104]),(ByteArray.mk #[97,32,98,32,99,32,100,32,101,32,102,32,103,32,104,32,105])]:List ByteArray) x6.1).bind fun x7=>some (.inr (x7,x6.2))))else some (.inl x2.2)))).bind (Sum.elim (fun(j3:ag)=>some (x1.1,j3)) some))))
theorem ju(aS:ag)(r:ByteArray×ag)(h:db aS=some r):aR Tryz.prog 102 [.o (.box [vl (eI .u8) aS.code,vi aS.at',vi aS.seed])] ⟨[.v (vs r.1)],[(0,.box (tc ak r.2))],false⟩:=by
 refine au Tryz.func102 rfl [(.tmp 2)] rfl (fun r=>⟨[.v (vs r.1)],[(0,.box (tc ak r.2))],false⟩) (r:=r) ?_
 unfold db at h
 refine aJ ab [0] [1000000] ?_
 refine sr ?_
 refine aa.cl ab 1 [0,4] [1000000] ?_
 obtain⟨x1,hx1,h⟩:=bind_some h
 refine aa.a7 (xe rp (ej aS _ hx1)) ?_
 refine bO ab 1 [0,3] [1000000] ?_
 refine ae ?_
 refine sr ?_
 refine aa.cl ab 1 [0,3,6] [1000000] ?_
 obtain⟨x2,hx2,h⟩:=bind_some h
 refine aa.a7 (xe bB (aw x1.2 20 _ hx2)) ?_
 refine aa.nx ?_
 refine bp (r:=r) h (fun j3=>⟨21,[(3,vs x1.1)],[(1000000,.box (tc ak j3))]⟩) (fun v4 h=> ?_) (fun j3 h=> ?_)
 refine ax (a:=v4) ?_
 refine aJ ab [0,3,7,8] [1000000] ?_
 refine aq h (fun h=> ?_) fun h=> ?_
 refine sr ?_
 refine aa.cl ab 2 [10,11] [1000000] ?_
 obtain⟨x5,hx5,h⟩:=bind_some h
 refine aa.a7 (xe CA (oQ x2.2 x1.1 _ hx5)) ?_
 refine bO ab 1 [2] [1000000] ?_
 refine ah ?_
 obtain rfl:=inj h
 exact bE (bo (aO (di (f1 fv) (y:= .box (tc ak x5.2)) (by kernel_rfl) rfl (by kernel_rfl) (by kernel_rfl))))
 refine aJ ab [0,3,13] [1000000] ?_
 refine aq h (fun h=> ?_) fun h=> ?_
 refine sr ?_
 refine aa.cl ab 2 [15,16] [15,1000000] ?_
 obtain⟨x6,hx6,h⟩:=bind_some h
 refine aa.a7 (xe bB (aw x2.2 5 _ hx6)) ?_
 obtain⟨x7,hx7,h⟩:=bind_some h
 refine aa.ls (bw (d:=15) (L:=([(ByteArray.mk #[]),(ByteArray.mk #[97,32,32,98]),(ByteArray.mk #[32,97]),(ByteArray.mk #[97,32,98,32,99,32,100,32,101,32,102,32,103,32,104]),(ByteArray.mk #[97,32,98,32,99,32,100,32,101,32,102,32,103,32,104,32,105])]:List ByteArray)) (f:=eS) (ti:=bU) (tj:=et) (e:=9) (e':=9) (m:=1) (k:= .i64) ab rfl hx7) ?_
 refine aa.ls (bN (d:=15) (m:=1) (j:=0) (L:=([(ByteArray.mk #[]),(ByteArray.mk #[97,32,32,98]),(ByteArray.mk #[32,97]),(ByteArray.mk #[97,32,98,32,99,32,100,32,101,32,102,32,103,32,104]),(ByteArray.mk #[97,32,98,32,99,32,100,32,101,32,102,32,103,32,104,32,105])]:List ByteArray)) (f:=eS) (ti:=et) (e:=9) (v:=vs x7) ab rfl hx7) ?_
 refine bO ab 1 [2] [1000000] ?_
 refine ah ?_
 obtain rfl:=inj h
 exact bE (bo (aO (di (f1 fv) (y:= .box (tc ak x6.2)) (by kernel_rfl) rfl (by kernel_rfl) (by kernel_rfl))))
 refine ai ?_
 obtain rfl:=inj h
 exact bt (cn (Le.an))
 refine aJ ab [2] [1000000] ?_
 refine ah ?_
 obtain rfl:=inj h
 exact aO (di (f1 fv) (y:= .box (tc ak j3)) (by kernel_rfl) rfl (by kernel_rfl) (by kernel_rfl))
theorem xT:bg Tryz.prog 102:=az Tryz.func102 (by kernel_rfl) rfl
noncomputable def fV(aS:ag):Option (Span×ag):=
 ((hU aS).bind fun x1=>((aG x1.2 20).bind fun x2=>(((bif(x2.1==0)then some ((Span.mk x1.1.From (bF (x1.1.From - 1))),x2.2)else(bif(x2.1==1)then((cT x2.2 ([(-3000),(-3001),3001]:List Int)).bind fun x5=>some ((Span.mk x5.1 x1.1.To),x5.2))else(bif(x2.1==2)then((cT x2.2 ([3000,3001]:List Int)).bind fun x6=>some ((Span.mk x1.1.From x6.1),x6.2))else some (x1.1,x2.2))))).bind fun(j3:Span×ag)=>some (j3.1,j3.2))))
theorem jS(aS:ag)(r:Span×ag)(h:fV aS=some r):aR Tryz.prog 191 [.o (.box [vl (eI .u8) aS.code,vi aS.at',vi aS.seed])] ⟨[.v (.agg (tc ig r.1))],[(0,.box (tc ak r.2))],false⟩:=by
 refine au Tryz.func191 rfl [(.cell 2 83)] rfl (fun r=>⟨[.v (.agg (tc ig r.1))],[(0,.box (tc ak r.2))],false⟩) (r:=r) ?_
 unfold fV at h
 refine aJ ab [0,2] [2,1000000] ?_
 refine sr ?_
 refine aa.cl ab 1 [0,2,4] [2,1000000] ?_
 obtain⟨x1,hx1,h⟩:=bind_some h
 refine aa.a7 (xe yu (mg aS _ hx1)) ?_
 refine bO ab 2 [0,2,3] [2,3,1000000] ?_
 refine ae ?_
 refine sr ?_
 refine aa.cl ab 1 [0,2,3,6] [2,3,1000000] ?_
 obtain⟨x2,hx2,h⟩:=bind_some h
 refine aa.a7 (xe bB (aw x1.2 20 _ hx2)) ?_
 refine aa.nx ?_
 refine aU h (fun j3=>⟨27,[(2,.ref 2 0),(3,.ref 3 0)],[(2,.box [vi 0,vi 0]),(3,.box (tc ig j3.1)),(1000000,.box (tc ak j3.2))]⟩) (fun v4 h=> ?_) (fun j3 h=> ?_)
 refine ax (a:=v4) ?_
 refine aJ ab [0,2,3,7,8] [2,3,1000000] ?_
 refine aq h (fun h=> ?_) fun h=> ?_
 refine aD ?_
 refine aa.cl ab 5 [2,3] [2,3,1000000] ?_
 refine aa.nil ?_
 obtain rfl:=inj h
 exact bt (cI (Le.an))
 refine aJ ab [0,2,3,7,14] [2,3,1000000] ?_
 refine aq h (fun h=> ?_) fun h=> ?_
 refine aD ?_
 refine aa.cl ab 2 [2,3,16,17] [2,3,17,1000000] ?_
 refine aa.le (Le.l3 (d:=17) (e:=2) (m:=1) (n:=([(-3000),(-3001),3001]:List Int).length) (es:=([(-3000),(-3001),3001]:List Int).map (eI .i64)) (by kernel_rfl) (by kernel_rfl)) ?_
 obtain⟨x5,hx5,h⟩:=bind_some h
 refine aa.a7 (xe lu (df x2.2 ([(-3000),(-3001),3001]:List Int) _ hx5)) ?_
 refine aa.cl ab 2 [2,3] [2,3,1000000] ?_
 refine aa.nil ?_
 obtain rfl:=inj h
 exact bt (cI (Le.an))
 refine aJ ab [0,2,3,20] [2,3,1000000] ?_
 refine aq h (fun h=> ?_) fun h=> ?_
 refine aD ?_
 refine aa.cl ab 2 [2,3,22,23] [2,3,23,1000000] ?_
 refine aa.le (Le.l3 (d:=23) (e:=2) (m:=1) (n:=([3000,3001]:List Int).length) (es:=([3000,3001]:List Int).map (eI .i64)) (by kernel_rfl) (by kernel_rfl)) ?_
 obtain⟨x6,hx6,h⟩:=bind_some h
 refine aa.a7 (xe lu (df x2.2 ([3000,3001]:List Int) _ hx6)) ?_
 refine aa.cl ab 2 [2,3] [2,3,1000000] ?_
 refine aa.nil ?_
 obtain rfl:=inj h
 exact bt (cI (Le.an))
 refine ai ?_
 obtain rfl:=inj h
 exact bt (cI (Le.an))
 refine kM ab ⟨27,[(2,.ref 2 0)],[(2,.box (tc ig j3.1)),(1000000,.box (tc ak j3.2))]⟩ ?_
 refine ah ?_
 obtain rfl:=inj h
 exact aO (di (f1 (fc ab)) (y:= .box (tc ak j3.2)) (by kernel_rfl) rfl (by kernel_rfl) (by kernel_rfl))
theorem ux:bg Tryz.prog 191:=az Tryz.func191 (by kernel_rfl) rfl
noncomputable def fW(aS:ag):Option (Name×ag):=
 ((bW aS).bind fun x1=>((aG x1.2 4).bind fun x2=>((at' ([(ByteArray.mk #[101,110]),(ByteArray.mk #[100,101]),(ByteArray.mk #[102,114]),(ByteArray.mk #[108,97,116])]:List ByteArray) x2.1).bind fun x3=>((cT x2.2 ([0,0,1,2]:List Int)).bind fun x4=>((hU x4.2).bind fun x5=>((aG x5.2 30).bind fun x6=>(((bif(x6.1==0)then((db x6.2).bind fun x9=>some ((Name.mk x9.1 x3 x4.1 x5.1),x9.2))else(bif(x6.1==1)then((aG x6.2 4).bind fun x10=>((at' ([(ByteArray.mk #[101]),(ByteArray.mk #[101,110,103,108]),(ByteArray.mk #[69,78]),(ByteArray.mk #[97,98,99])]:List ByteArray) x10.1).bind fun x11=>some ((Name.mk x1.1 x11 x4.1 x5.1),x10.2)))else(bif(x6.1==2)then((cT x6.2 ([(-1),3]:List Int)).bind fun x12=>some ((Name.mk x1.1 x3 x12.1 x5.1),x12.2))else(bif(x6.1==3)then((fV x6.2).bind fun x13=>some ((Name.mk x1.1 x3 x4.1 x13.1),x13.2))else some ((Name.mk x1.1 x3 x4.1 x5.1),x6.2)))))).bind fun(j7:Name×ag)=>some (j7.1,j7.2))))))))
theorem jT(aS:ag)(r:Name×ag)(h:fW aS=some r):aR Tryz.prog 189 [.o (.box [vl (eI .u8) aS.code,vi aS.at',vi aS.seed])] ⟨[.v (.agg (tc ao r.1))],[(0,.box (tc ak r.2))],false⟩:=by
 refine au Tryz.func189 rfl [(.cell 2 169)] rfl (fun r=>⟨[.v (.agg (tc ao r.1))],[(0,.box (tc ak r.2))],false⟩) (r:=r) ?_
 unfold fW at h
 refine aJ ab [0,2] [2,1000000] ?_
 refine ae ?_
 refine iQ [1000000] mixed ?_
 refine aH.cl ab false 1 [0,2,4] [2,1000000] ?_
 obtain⟨x1,hx1,h⟩:=bind_some h
 refine aH.write [] (xw rp (ej aS _ hx1)) ?_
 refine aH.cl ab false 2 [0,2,5,6,7] [2,6,1000000] ?_
 obtain⟨x2,hx2,h⟩:=bind_some h
 refine aH.write [] (xw bB (aw x1.2 4 _ hx2)) ?_
 obtain⟨x3,hx3,h⟩:=bind_some h
 refine aH.mX false [6] (bw (d:=6) (L:=([(ByteArray.mk #[101,110]),(ByteArray.mk #[100,101]),(ByteArray.mk #[102,114]),(ByteArray.mk #[108,97,116])]:List ByteArray)) (f:=eS) (ti:=bU) (tj:=et) (e:=9) (e':=9) (m:=1) (k:= .i64) ab rfl hx3) ?_
 refine aH.mX false [6] (bN (d:=6) (m:=1) (j:=0) (L:=([(ByteArray.mk #[101,110]),(ByteArray.mk #[100,101]),(ByteArray.mk #[102,114]),(ByteArray.mk #[108,97,116])]:List ByteArray)) (f:=eS) (ti:=et) (e:=9) (v:=vs x3) ab rfl hx3) ?_
 refine aH.cl ab false 1 [0,2,5,10,11] [2,1000000] ?_
 refine aH.step (DU ab (d:=12) (e:=2) (m:=1) (([0,0,1,2]:List Int).length) (([0,0,1,2]:List Int).map (eI .i64))) ?_
 obtain⟨x4,hx4,h⟩:=bind_some h
 refine aH.write [] (xw lu (df x2.2 ([0,0,1,2]:List Int) _ hx4)) ?_
 refine aH.cl ab false 1 [0,2,5,10,13,14] [2,1000000] ?_
 obtain⟨x5,hx5,h⟩:=bind_some h
 refine aH.write [] (xw yu (mg x4.2 _ hx5)) ?_
 refine aH.step (aZ (v:= .agg [vs x1.1,vs x3,vi x4.1,vi x5.1.From,vi x5.1.To]) ab rfl) ?_
 refine aH.cl ab false 1 [0,2,3,16] [2,3,1000000] ?_
 refine aH.seq (by kernel_rfl) (by kernel_rfl) ?_
 refine bO ab 1 [0,2,3] [2,3,1000000] ?_
 refine ae ?_
 refine sr ?_
 refine aa.cl ab 1 [0,2,3,17] [2,3,1000000] ?_
 obtain⟨x6,hx6,h⟩:=bind_some h
 refine aa.a7 (xe bB (aw x5.2 30 _ hx6)) ?_
 refine aa.nx ?_
 refine aU h (fun j7=>⟨44,[(2,.ref 2 0),(3,.ref 3 0)],[(2,.box [vs (ByteArray.mk #[]),vs (ByteArray.mk #[]),vi 0,vi 0,vi 0]),(3,.box (tc ao j7.1)),(1000000,.box (tc ak j7.2))]⟩) (fun v8 h=> ?_) (fun j7 h=> ?_)
 refine ax (a:=v8) ?_
 refine aJ ab [0,2,3,18,19] [2,3,1000000] ?_
 refine aq h (fun h=> ?_) fun h=> ?_
 refine aD ?_
 refine aa.cl ab 1 [2,3,21] [2,3,1000000] ?_
 obtain⟨x9,hx9,h⟩:=bind_some h
 refine aa.a7 (xe xT (ju x6.2 _ hx9)) ?_
 refine aa.cl ab 2 [2,3] [2,3,1000000] ?_
 refine aa.nil ?_
 obtain rfl:=inj h
 exact bt (cI (Le.an))
 refine aJ ab [0,2,3,18,24] [2,3,1000000] ?_
 refine aq h (fun h=> ?_) fun h=> ?_
 refine aD ?_
 refine aa.cl ab 2 [2,3,26,27] [2,3,26,1000000] ?_
 obtain⟨x10,hx10,h⟩:=bind_some h
 refine aa.a7 (xe bB (aw x6.2 4 _ hx10)) ?_
 obtain⟨x11,hx11,h⟩:=bind_some h
 refine aa.ls (bw (d:=26) (L:=([(ByteArray.mk #[101]),(ByteArray.mk #[101,110,103,108]),(ByteArray.mk #[69,78]),(ByteArray.mk #[97,98,99])]:List ByteArray)) (f:=eS) (ti:=bU) (tj:=et) (e:=9) (e':=9) (m:=1) (k:= .i64) ab rfl hx11) ?_
 refine aa.ls (bN (d:=26) (m:=1) (j:=0) (L:=([(ByteArray.mk #[101]),(ByteArray.mk #[101,110,103,108]),(ByteArray.mk #[69,78]),(ByteArray.mk #[97,98,99])]:List ByteArray)) (f:=eS) (ti:=et) (e:=9) (v:=vs x11) ab rfl hx11) ?_
 refine aa.cl ab 2 [2,3] [2,3,1000000] ?_
 refine aa.nil ?_
 obtain rfl:=inj h
 exact bt (cI (Le.an))
 refine aJ ab [0,2,3,18,32] [2,3,1000000] ?_
 refine aq h (fun h=> ?_) fun h=> ?_
 refine aD ?_
 refine aa.cl ab 2 [2,3,34,35] [2,3,35,1000000] ?_
 refine aa.le (Le.l3 (d:=35) (e:=2) (m:=1) (n:=([(-1),3]:List Int).length) (es:=([(-1),3]:List Int).map (eI .i64)) (by kernel_rfl) (by kernel_rfl)) ?_
 obtain⟨x12,hx12,h⟩:=bind_some h
 refine aa.a7 (xe lu (df x6.2 ([(-1),3]:List Int) _ hx12)) ?_
 refine aa.ck ab 2 ⟨44,[(2,.ref 2 0),(3,.ref 3 0)],[(2,.box [vs (ByteArray.mk #[]),vs (ByteArray.mk #[]),vi 0,vi 0,vi 0]),(3,.box [vs x1.1,vs x3,vi x12.1,vi x5.1.From,vi x5.1.To]),(1000000,.box (tc ak x12.2))]⟩ ?_
 refine aa.nil ?_
 obtain rfl:=inj h
 exact bt (cI (Le.an))
 refine aJ ab [0,2,3,38] [2,3,1000000] ?_
 refine aq h (fun h=> ?_) fun h=> ?_
 refine aD ?_
 refine aa.cl ab 1 [2,3,40] [2,3,1000000] ?_
 obtain⟨x13,hx13,h⟩:=bind_some h
 refine aa.a7 (xe ux (jS x6.2 _ hx13)) ?_
 refine aa.cl ab 2 [2,3] [2,3,1000000] ?_
 refine aa.nil ?_
 obtain rfl:=inj h
 exact bt (cI (Le.an))
 refine ai ?_
 obtain rfl:=inj h
 exact bt (cI (Le.an))
 refine aJ ab [2] [2,1000000] ?_
 refine ah ?_
 obtain rfl:=inj h
 exact aO (di (f1 (fc ab)) (y:= .box (tc ak j7.2)) (by kernel_rfl) rfl (by kernel_rfl) (by kernel_rfl))
theorem uw:bg Tryz.prog 189:=az Tryz.func189 (by kernel_rfl) rfl
noncomputable def fX(aS:ag):Option (Place×ag):=
 ((aG aS 8).bind fun x1=>((at' ([(ByteArray.mk #[97,115,104]),(ByteArray.mk #[98,114,105,103]),(ByteArray.mk #[99,111,114,107]),(ByteArray.mk #[100,101,118,97]),(ByteArray.mk #[101,108,121]),(ByteArray.mk #[102,105,102,101]),(ByteArray.mk #[103,97,116,101]),(ByteArray.mk #[104,117,108,108])]:List ByteArray) x1.1).bind fun x2=>((aG x1.2 6).bind fun x3=>((aG x3.2 600).bind fun x4=>((aG x4.2 1000).bind fun x5=>((aG x5.2 4).bind fun x6=>(((loop (fun(s9:Int×ByteArray×Int×Int×Int×(List Name)×ag)=>(bif(decide (s9.1>0))then((((fW s9.2.2.2.2.2.2).bind fun x13=>((aG x13.2 60).bind fun x14=>((aG x14.2 30).bind fun x15=>((cT x15.2 ([0,x15.1]:List Int)).bind fun x16=>((aG x16.2 3).bind fun x17=>(((bif(x17.1==0)then((aG x17.2 2).bind fun x20=>((at' ([(ByteArray.mk #[111,108,100,32,97,115,104]),(ByteArray.mk #[110,101,119,116,111,110])]:List ByteArray) x20.1).bind fun x21=>some ((Name.mk x21 x13.1.Language x13.1.Status (Span.mk (bF (s9.2.2.2.1+x14.1)) (bF (s9.2.2.2.2.1 - x16.1)))),x20.2)))else some ((Name.mk x13.1.Text x13.1.Language x13.1.Status (Span.mk (bF (s9.2.2.2.1+x14.1)) (bF (s9.2.2.2.2.1 - x16.1)))),x17.2))).bind fun(j18:Name×ag)=>((c4 ([]:List Name) s9.2.2.2.2.2.1).bind fun x22=>((c4 x22 ([j18.1]:List Name)).bind fun x23=>((((ep x23).bind fun x24=>(bif x24 then some (decide (j18.1.Years.From≤j18.1.Years.To))else some false))).bind fun(j25:Bool)=>(bif j25 then some (s9.2.1,s9.2.2.1,s9.2.2.2.1,s9.2.2.2.2.1,x23,j18.2)else some (s9.2.1,s9.2.2.1,s9.2.2.2.1,s9.2.2.2.2.1,s9.2.2.2.2.2.1,j18.2)))))))))))).bind fun(j11:ByteArray×Int×Int×Int×(List Name)×ag)=>some (.inl ((bF (s9.1 - 1)),j11.1,j11.2.1,j11.2.2.1,j11.2.2.2.1,j11.2.2.2.2.1,j11.2.2.2.2.2)))else some (.inr (s9.2.1,s9.2.2.1,s9.2.2.2.1,s9.2.2.2.2.1,s9.2.2.2.2.2.1,s9.2.2.2.2.2.2)))) (x6.1,x2,x3.1,(bF (1000+x4.1)),(bF ((bF ((bF (1000+x4.1))+100))+x5.1)),([]:List Name),x6.2))).bind fun(j7:ByteArray×Int×Int×Int×(List Name)×ag)=>some ((Place.mk j7.1 j7.2.1 (Span.mk j7.2.2.1 j7.2.2.2.1) j7.2.2.2.2.1),j7.2.2.2.2.2))))))))
theorem jU(aS:ag)(r:Place×ag)(h:fX aS=some r):aR Tryz.prog 146 [.o (.box [vl (eI .u8) aS.code,vi aS.at',vi aS.seed])] ⟨[.part [vs r.1.Code,vi r.1.Class,vi r.1.Years.From,vi r.1.Years.To] [] (oa 169 5 ao r.1.Names)],[(0,.box (tc ak r.2))],false⟩:=by
 refine au Tryz.func146 rfl [(.cell 2 91)] rfl (fun r=>⟨[.part [vs r.1.Code,vi r.1.Class,vi r.1.Years.From,vi r.1.Years.To] [] (oa 169 5 ao r.1.Names)],[(0,.box (tc ak r.2))],false⟩) (r:=r) ?_
 unfold fX at h
 refine aJ ab [0,2] [2,1000000] ?_
 refine ae ?_
 refine iQ [1000000] mixed ?_
 refine aH.cl ab false 2 [0,2,7,8] [2,7,1000000] ?_
 obtain⟨x1,hx1,h⟩:=bind_some h
 refine aH.write [] (xw bB (aw aS 8 _ hx1)) ?_
 obtain⟨x2,hx2,h⟩:=bind_some h
 refine aH.mX false [7] (bw (d:=7) (L:=([(ByteArray.mk #[97,115,104]),(ByteArray.mk #[98,114,105,103]),(ByteArray.mk #[99,111,114,107]),(ByteArray.mk #[100,101,118,97]),(ByteArray.mk #[101,108,121]),(ByteArray.mk #[102,105,102,101]),(ByteArray.mk #[103,97,116,101]),(ByteArray.mk #[104,117,108,108])]:List ByteArray)) (f:=eS) (ti:=bU) (tj:=et) (e:=9) (e':=9) (m:=1) (k:= .i64) ab rfl hx2) ?_
 refine aH.mX false [7] (bN (d:=7) (m:=1) (j:=0) (L:=([(ByteArray.mk #[97,115,104]),(ByteArray.mk #[98,114,105,103]),(ByteArray.mk #[99,111,114,107]),(ByteArray.mk #[100,101,118,97]),(ByteArray.mk #[101,108,121]),(ByteArray.mk #[102,105,102,101]),(ByteArray.mk #[103,97,116,101]),(ByteArray.mk #[104,117,108,108])]:List ByteArray)) (f:=eS) (ti:=et) (e:=9) (v:=vs x2) ab rfl hx2) ?_
 refine aH.cl ab false 1 [0,2,11,12] [2,1000000] ?_
 obtain⟨x3,hx3,h⟩:=bind_some h
 refine aH.write [] (xw bB (aw x1.2 6 _ hx3)) ?_
 refine aH.cl ab false 1 [0,2,11,13,14] [2,1000000] ?_
 obtain⟨x4,hx4,h⟩:=bind_some h
 refine aH.write [] (xw bB (aw x3.2 600 _ hx4)) ?_
 refine aH.cl ab false 1 [0,2,11,13,16] [2,1000000] ?_
 refine aH.step (aZ (v:= .agg [vi (bF (1000+x4.1)),vi 0]) ab rfl) ?_
 refine aH.cl ab false 1 [0,2,11,13,17,18] [2,18,1000000] ?_
 refine aH.mX false [18] (aZ (v:= .agg [vs x2,vi x3.1,vi (bF (1000+x4.1)),vi 0,.own 18]) ab rfl) ?_
 refine aH.cl ab false 1 [0,2,3,19] [2,3,18,1000000] ?_
 refine aH.seq (by kernel_rfl) (by kernel_rfl) ?_
 refine bO ab 1 [0,2,3] [2,3,18,1000000] ?_
 refine ae ?_
 refine iQ [1000000] mixed ?_
 refine aH.ck ab false 5 ⟨84,[(0,.ref 1000000 0),(2,.ref 2 0),(3,.ref 3 0),(23,vi (bF ((bF (1000+x4.1))+100))),(24,.ref 1000000 0)],[(2,.box [vs (ByteArray.mk #[]),vi 0,vi 0,vi 0,vl ao ([]:List Name)]),(3,.box [vs x2,vi x3.1,vi (bF (1000+x4.1)),vi 0,.own 18]),(18,oa 169 5 ao ([]:List Name)),(1000000,.box (tc ak x4.2))]⟩ ?_
 obtain⟨x5,hx5,h⟩:=bind_some h
 refine aH.write [] (xw bB (aw x4.2 1000 _ hx5)) ?_
 refine aH.cl ab false 3 [0,2,3,26,28] [2,3,18,1000000] ?_
 refine aH.seq (by kernel_rfl) (by kernel_rfl) ?_
 refine bO ab 1 [0,2,3] [2,3,18,1000000] ?_
 refine ae ?_
 refine sr ?_
 refine aa.cl ab 1 [0,2,3,29] [2,3,18,1000000] ?_
 obtain⟨x6,hx6,h⟩:=bind_some h
 refine aa.a7 (xe bB (aw x5.2 4 _ hx6)) ?_
 refine bO ab 1 [0,2,3,4] [2,3,18,1000000] ?_
 refine aU h (fun j7=>⟨84,[(2,.ref 2 0),(3,.ref 3 0)],[(2,.box [vs (ByteArray.mk #[]),vi 0,vi 0,vi 0,vl ao ([]:List Name)]),(3,.box [vs j7.1,vi j7.2.1,vi j7.2.2.1,vi j7.2.2.2.1,.own 18]),(18,oa 169 5 ao j7.2.2.2.2.1),(1000000,.box (tc ak j7.2.2.2.2.2))]⟩) (fun v8 h=> ?_) (fun j7 h=> ?_)
 refine ax (a:=v8) ?_
 refine bc (r:=v8) (s:=(x6.1,x2,x3.1,(bF (1000+x4.1)),(bF ((bF ((bF (1000+x4.1))+100))+x5.1)),([]:List Name),x6.2)) _ (fun s9=>⟨84,[(0,.ref 1000000 0),(2,.ref 2 0),(3,.ref 3 0),(4,vi s9.1)],[(2,.box [vs (ByteArray.mk #[]),vi 0,vi 0,vi 0,vl ao ([]:List Name)]),(3,.box [vs s9.2.1,vi s9.2.2.1,vi s9.2.2.2.1,vi s9.2.2.2.2.1,.own 18]),(18,oa 169 5 ao s9.2.2.2.2.2.1),(1000000,.box (tc ak s9.2.2.2.2.2.2))]⟩) _ (Le.an) h (fun s9 v10 h=> ?_)
 refine ae ?_
 refine aJ ab [0,2,3,4,32] [2,3,18,1000000] ?_
 refine aq h (fun h=> ?_) fun h=> ?_
 refine ai ?_
 refine bq ?_
 refine ae ?_
 refine aU h (fun j11=>⟨84,[(0,.ref 1000000 0),(2,.ref 2 0),(3,.ref 3 0),(4,vi s9.1)],[(2,.box [vs (ByteArray.mk #[]),vi 0,vi 0,vi 0,vl ao ([]:List Name)]),(3,.box [vs j11.1,vi j11.2.1,vi j11.2.2.1,vi j11.2.2.2.1,.own 18]),(18,oa 169 5 ao j11.2.2.2.2.1),(1000000,.box (tc ak j11.2.2.2.2.2))]⟩) (fun v12 h=> ?_) (fun j11 h=> ?_)
 refine ax (a:=v12) ?_
 refine sr ?_
 refine aa.cl ab 1 [0,2,3,4,35] [2,3,18,1000000] ?_
 obtain⟨x13,hx13,h⟩:=bind_some h
 refine aa.a7 (xe uw (jT s9.2.2.2.2.2.2 _ hx13)) ?_
 refine bO ab 2 [0,2,3,4,5] [2,3,5,18,1000000] ?_
 refine ae ?_
 refine iQ [1000000] mixed ?_
 refine aH.cl ab false 4 [0,2,3,4,5,39,40] [2,3,5,18,1000000] ?_
 obtain⟨x14,hx14,h⟩:=bind_some h
 refine aH.write [] (xw bB (aw x13.2 60 _ hx14)) ?_
 refine aH.cl ab false 6 [0,2,3,4,5,42,45,46,47] [2,3,5,18,1000000] ?_
 obtain⟨x15,hx15,h⟩:=bind_some h
 refine aH.write [] (xw bB (aw x14.2 30 _ hx15)) ?_
 refine aH.step (DU ab (d:=49) (e:=2) (m:=1) (([0,x15.1]:List Int).length) (([0,x15.1]:List Int).map (eI .i64))) ?_
 obtain⟨x16,hx16,h⟩:=bind_some h
 refine aH.write [] (xw lu (df x15.2 ([0,x15.1]:List Int) _ hx16)) ?_
 refine aH.cl ab false 1 [0,2,3,4,5,42,51] [2,3,5,18,1000000] ?_
 refine aH.step (aZ (v:= .agg [vi (bF (s9.2.2.2.1+x14.1)),vi (bF (s9.2.2.2.2.1 - x16.1))]) ab rfl) ?_
 refine aH.cl ab false 1 [0,2,3,4,5,52,53] [2,3,5,18,1000000] ?_
 refine aH.seq (by kernel_rfl) (by kernel_rfl) ?_
 refine bO ab 1 [0,2,3,4,5] [2,3,5,18,1000000] ?_
 refine ae ?_
 refine sr ?_
 refine aa.cl ab 1 [0,2,3,4,5,54] [2,3,5,18,1000000] ?_
 obtain⟨x17,hx17,h⟩:=bind_some h
 refine aa.a7 (xe bB (aw x16.2 3 _ hx17)) ?_
 refine ckn ab 1 ⟨84,[(0,.ref 1000000 0),(2,.ref 2 0),(3,.ref 3 0),(4,vi s9.1),(5,.ref 5 0),(56,vb (x17.1==0))],[(2,.box [vs (ByteArray.mk #[]),vi 0,vi 0,vi 0,vl ao ([]:List Name)]),(3,.box [vs s9.2.1,vi s9.2.2.1,vi s9.2.2.2.1,vi s9.2.2.2.2.1,.own 18]),(5,.box [vs x13.1.Text,vs x13.1.Language,vi x13.1.Status,vi (bF (s9.2.2.2.1+x14.1)),vi (bF (s9.2.2.2.2.1 - x16.1))]),(18,oa 169 5 ao s9.2.2.2.2.2.1),(1000000,.box (tc ak x17.2))]⟩ ?_
 refine aU h (fun j18=>⟨84,[(0,.ref 1000000 0),(2,.ref 2 0),(3,.ref 3 0),(4,vi s9.1),(5,.ref 5 0)],[(2,.box [vs (ByteArray.mk #[]),vi 0,vi 0,vi 0,vl ao ([]:List Name)]),(3,.box [vs s9.2.1,vi s9.2.2.1,vi s9.2.2.2.1,vi s9.2.2.2.2.1,.own 18]),(5,.box (tc ao j18.1)),(18,oa 169 5 ao s9.2.2.2.2.2.1),(1000000,.box (tc ak j18.2))]⟩) (fun v19 h=> ?_) (fun j18 h=> ?_)
 refine aq h (fun h=> ?_) fun h=> ?_
 refine aD ?_
 refine aa.cl ab 2 [0,2,3,4,5,57,58] [2,3,5,18,57,1000000] ?_
 obtain⟨x20,hx20,h⟩:=bind_some h
 refine aa.a7 (xe bB (aw x17.2 2 _ hx20)) ?_
 obtain⟨x21,hx21,h⟩:=bind_some h
 refine aa.ls (bw (d:=57) (L:=([(ByteArray.mk #[111,108,100,32,97,115,104]),(ByteArray.mk #[110,101,119,116,111,110])]:List ByteArray)) (f:=eS) (ti:=bU) (tj:=et) (e:=9) (e':=9) (m:=1) (k:= .i64) ab rfl hx21) ?_
 refine aa.ls (bN (d:=57) (m:=1) (j:=0) (L:=([(ByteArray.mk #[111,108,100,32,97,115,104]),(ByteArray.mk #[110,101,119,116,111,110])]:List ByteArray)) (f:=eS) (ti:=et) (e:=9) (v:=vs x21) ab rfl hx21) ?_
 refine aa.cl ab 2 [0,2,3,4,5] [2,3,5,18,1000000] ?_
 refine aa.nil ?_
 obtain rfl:=inj h
 exact cI (Le.an)
 refine ai ?_
 obtain rfl:=inj h
 exact cI (Le.an)
 refine ae ?_
 obtain⟨x22,hx22,h⟩:=bind_some h
 obtain⟨x23,hx23,h⟩:=bind_some h
 refine cV mixed ?_
 refine aH.za (σE:=⟨84,[(0,.ref 1000000 0),(2,.ref 2 0),(3,.ref 3 0),(4,vi s9.1),(5,.ref 5 0),(6,.own 69)],[(2,.box [vs (ByteArray.mk #[]),vi 0,vi 0,vi 0,vl ao ([]:List Name)]),(3,.box [vs s9.2.1,vi s9.2.2.1,vi s9.2.2.2.1,vi s9.2.2.2.2.1,.own 18]),(5,.box (tc ao j18.1)),(18,oa 169 5 ao s9.2.2.2.2.2.1),(69,oa 169 5 ao x23),(1000000,.box (tc ak j18.2))]⟩) (n:=8) (L0:=(bA 8 0)) (by kernel_rfl) (by kernel_rfl) (fun K hk=> ?_) ?_
 refine DE.sh 0 (bA 8 255) ⟨84,[(0,.ref 1000000 0),(2,.ref 2 0),(3,.ref 3 0),(4,vi s9.1),(5,.ref 5 0),(6,.own 69)],[(2,.box [vs (ByteArray.mk #[]),vi 0,vi 0,vi 0,vl ao ([]:List Name)]),(3,.box [vs s9.2.1,vi s9.2.2.1,vi s9.2.2.2.1,vi s9.2.2.2.2.1,.own 18]),(5,.box (tc ao j18.1)),(18,oa 169 5 ao s9.2.2.2.2.2.1),(69,oa 169 5 ao x23),(1000000,.box (tc ak j18.2))]⟩ ?_ fun d22=> ?_
 exact DE.done (by kernel_rfl) hk
 refine DE.sh 1 (bA 8 127) ⟨84,[(0,.ref 1000000 0),(2,.ref 2 0),(3,.ref 3 0),(4,vi s9.1),(5,.ref 5 0),(69,.own 69)],[(2,.box [vs (ByteArray.mk #[]),vi 0,vi 0,vi 0,vl ao ([]:List Name)]),(3,.box [vs s9.2.1,vi s9.2.2.1,vi s9.2.2.2.1,vi s9.2.2.2.2.1,.own 18]),(5,.box (tc ao j18.1)),(18,oa 169 5 ao s9.2.2.2.2.2.1),(69,oa 169 5 ao x23),(1000000,.box (tc ak j18.2))]⟩ ?_ fun d21=> ?_
 exact DE.tk 7 d22 rfl (.inr rfl) (ar.n ab)
 refine DE.sh 2 (bA 8 63) ⟨84,[(0,.ref 1000000 0),(2,.ref 2 0),(3,.ref 3 0),(4,vi s9.1),(5,.ref 5 0),(66,.own 66),(68,.own 68)],[(2,.box [vs (ByteArray.mk #[]),vi 0,vi 0,vi 0,vl ao ([]:List Name)]),(3,.box [vs s9.2.1,vi s9.2.2.1,vi s9.2.2.2.1,vi s9.2.2.2.2.1,.own 18]),(5,.box (tc ao j18.1)),(18,oa 169 5 ao s9.2.2.2.2.2.1),(66,oa 169 5 ao x22),(68,oa 169 5 ao ([j18.1]:List Name)),(1000000,.box (tc ak j18.2))]⟩ ?_ fun d20=> ?_
 exact DE.a1 6 d21 rfl (ar.le (bh (f:=ao) (t:=89) (ti:=eb) (tj:=dg) (zs:=[.string (ByteArray.mk #[]),.string (ByteArray.mk #[]),.int .i64 0,.int .i64 0,.int .i64 0]) (e:=169) (m:=5) (d:=66) (xv:= .own 68) hx23 ab rfl rfl rfl rfl (bT (e:=169))) Le.an)
 refine DE.sh 3 (bA 8 55) ⟨84,[(0,.ref 1000000 0),(2,.ref 2 0),(3,.ref 3 0),(4,vi s9.1),(5,.ref 5 0),(63,.own 63),(65,.own 18),(68,.own 68)],[(2,.box [vs (ByteArray.mk #[]),vi 0,vi 0,vi 0,vl ao ([]:List Name)]),(3,.box [vs s9.2.1,vi s9.2.2.1,vi s9.2.2.2.1,vi s9.2.2.2.2.1,.own 18]),(5,.box (tc ao j18.1)),(18,oa 169 5 ao s9.2.2.2.2.2.1),(63,oa 169 5 ao ([]:List Name)),(68,oa 169 5 ao ([j18.1]:List Name)),(1000000,.box (tc ak j18.2))]⟩ ?_ fun d19=> ?_
 exact DE.a1 3 d20 rfl (ar.le (bh (f:=ao) (t:=89) (ti:=eb) (tj:=dg) (zs:=[.string (ByteArray.mk #[]),.string (ByteArray.mk #[]),.int .i64 0,.int .i64 0,.int .i64 0]) (e:=169) (m:=5) (d:=63) (xv:= .own 18) hx22 ab rfl rfl rfl rfl (bT (e:=169))) Le.an)
 refine DE.sh 3 (bA 8 31) ⟨84,[(0,.ref 1000000 0),(2,.ref 2 0),(3,.ref 3 0),(4,vi s9.1),(5,.ref 5 0),(66,.own 66),(67,.agg (tc ao j18.1))],[(2,.box [vs (ByteArray.mk #[]),vi 0,vi 0,vi 0,vl ao ([]:List Name)]),(3,.box [vs s9.2.1,vi s9.2.2.1,vi s9.2.2.2.1,vi s9.2.2.2.2.1,.own 18]),(5,.box (tc ao j18.1)),(18,oa 169 5 ao s9.2.2.2.2.2.1),(66,oa 169 5 ao x22),(1000000,.box (tc ak j18.2))]⟩ ?_ fun d18=> ?_
 exact DE.a1 5 d20 rfl (ar.n ab)
 refine DE.sh 4 (bA 8 54) ⟨84,[(0,.ref 1000000 0),(2,.ref 2 0),(3,.ref 3 0),(4,vi s9.1),(5,.ref 5 0),(65,.own 18),(68,.own 68)],[(2,.box [vs (ByteArray.mk #[]),vi 0,vi 0,vi 0,vl ao ([]:List Name)]),(3,.box [vs s9.2.1,vi s9.2.2.1,vi s9.2.2.2.1,vi s9.2.2.2.2.1,.own 18]),(5,.box (tc ao j18.1)),(18,oa 169 5 ao s9.2.2.2.2.2.1),(68,oa 169 5 ao ([j18.1]:List Name)),(1000000,.box (tc ak j18.2))]⟩ ?_ fun d17=> ?_
 exact DE.a1 0 d19 rfl (ar.n ab)
 refine DE.sh 4 (bA 8 51) ⟨84,[(0,.ref 1000000 0),(2,.ref 2 0),(3,.ref 3 0),(4,vi s9.1),(5,.ref 5 0),(63,.own 63),(64,.ref 3 4),(68,.own 68)],[(2,.box [vs (ByteArray.mk #[]),vi 0,vi 0,vi 0,vl ao ([]:List Name)]),(3,.box [vs s9.2.1,vi s9.2.2.1,vi s9.2.2.2.1,vi s9.2.2.2.2.1,.own 18]),(5,.box (tc ao j18.1)),(18,oa 169 5 ao s9.2.2.2.2.2.1),(63,oa 169 5 ao ([]:List Name)),(68,oa 169 5 ao ([j18.1]:List Name)),(1000000,.box (tc ak j18.2))]⟩ ?_ fun d16=> ?_
 exact DE.a1 2 d19 rfl (ar.n ab)
 refine DE.sh 4 (bA 8 23) ⟨84,[(0,.ref 1000000 0),(2,.ref 2 0),(3,.ref 3 0),(4,vi s9.1),(5,.ref 5 0),(63,.own 63),(65,.own 18),(67,.agg (tc ao j18.1))],[(2,.box [vs (ByteArray.mk #[]),vi 0,vi 0,vi 0,vl ao ([]:List Name)]),(3,.box [vs s9.2.1,vi s9.2.2.1,vi s9.2.2.2.1,vi s9.2.2.2.2.1,.own 18]),(5,.box (tc ao j18.1)),(18,oa 169 5 ao s9.2.2.2.2.2.1),(63,oa 169 5 ao ([]:List Name)),(1000000,.box (tc ak j18.2))]⟩ ?_ fun d15=> ?_
 exact DE.al (.c 3 d18 rfl (ar.le (bh (f:=ao) (t:=89) (ti:=eb) (tj:=dg) (zs:=[.string (ByteArray.mk #[]),.string (ByteArray.mk #[]),.int .i64 0,.int .i64 0,.int .i64 0]) (e:=169) (m:=5) (d:=63) (xv:= .own 18) hx22 ab rfl rfl rfl rfl (bT (e:=169))) Le.an) (.c 5 d19 rfl (ar.n ab) .n))
 refine DE.sh 4 (bA 8 15) ⟨84,[(0,.ref 1000000 0),(2,.ref 2 0),(3,.ref 3 0),(4,vi s9.1),(5,.ref 5 0),(66,.own 66)],[(2,.box [vs (ByteArray.mk #[]),vi 0,vi 0,vi 0,vl ao ([]:List Name)]),(3,.box [vs s9.2.1,vi s9.2.2.1,vi s9.2.2.2.1,vi s9.2.2.2.2.1,.own 18]),(5,.box (tc ao j18.1)),(18,oa 169 5 ao s9.2.2.2.2.2.1),(66,oa 169 5 ao x22),(1000000,.box (tc ak j18.2))]⟩ ?_ fun d14=> ?_
 exact DE.a1 4 d18 rfl (ar.n ab)
 refine DE.sh 5 (bA 8 50) ⟨84,[(0,.ref 1000000 0),(2,.ref 2 0),(3,.ref 3 0),(4,vi s9.1),(5,.ref 5 0),(64,.ref 3 4),(68,.own 68)],[(2,.box [vs (ByteArray.mk #[]),vi 0,vi 0,vi 0,vl ao ([]:List Name)]),(3,.box [vs s9.2.1,vi s9.2.2.1,vi s9.2.2.2.1,vi s9.2.2.2.2.1,.own 18]),(5,.box (tc ao j18.1)),(18,oa 169 5 ao s9.2.2.2.2.2.1),(68,oa 169 5 ao ([j18.1]:List Name)),(1000000,.box (tc ak j18.2))]⟩ ?_ fun d13=> ?_
 exact DE.al (.c 0 d16 rfl (ar.n ab) (.c 2 d17 rfl (ar.n ab) .n))
 refine DE.sh 5 (bA 8 22) ⟨84,[(0,.ref 1000000 0),(2,.ref 2 0),(3,.ref 3 0),(4,vi s9.1),(5,.ref 5 0),(65,.own 18),(67,.agg (tc ao j18.1))],[(2,.box [vs (ByteArray.mk #[]),vi 0,vi 0,vi 0,vl ao ([]:List Name)]),(3,.box [vs s9.2.1,vi s9.2.2.1,vi s9.2.2.2.1,vi s9.2.2.2.2.1,.own 18]),(5,.box (tc ao j18.1)),(18,oa 169 5 ao s9.2.2.2.2.2.1),(1000000,.box (tc ak j18.2))]⟩ ?_ fun d12=> ?_
 exact DE.al (.c 0 d15 rfl (ar.n ab) (.c 5 d17 rfl (ar.n ab) .n))
 refine DE.sh 5 (bA 8 49) ⟨84,[(0,.ref 1000000 0),(2,.ref 2 0),(3,.ref 3 0),(4,vi s9.1),(5,.ref 5 0),(63,.own 63),(68,.own 68)],[(2,.box [vs (ByteArray.mk #[]),vi 0,vi 0,vi 0,vl ao ([]:List Name)]),(3,.box [vs s9.2.1,vi s9.2.2.1,vi s9.2.2.2.1,vi s9.2.2.2.2.1,.own 18]),(5,.box (tc ao j18.1)),(18,oa 169 5 ao s9.2.2.2.2.2.1),(63,oa 169 5 ao ([]:List Name)),(68,oa 169 5 ao ([j18.1]:List Name)),(1000000,.box (tc ak j18.2))]⟩ ?_ fun d11=> ?_
 exact DE.a1 1 d16 rfl (ar.n ab)
 refine DE.sh 5 (bA 8 19) ⟨84,[(0,.ref 1000000 0),(2,.ref 2 0),(3,.ref 3 0),(4,vi s9.1),(5,.ref 5 0),(63,.own 63),(64,.ref 3 4),(67,.agg (tc ao j18.1))],[(2,.box [vs (ByteArray.mk #[]),vi 0,vi 0,vi 0,vl ao ([]:List Name)]),(3,.box [vs s9.2.1,vi s9.2.2.1,vi s9.2.2.2.1,vi s9.2.2.2.2.1,.own 18]),(5,.box (tc ao j18.1)),(18,oa 169 5 ao s9.2.2.2.2.2.1),(63,oa 169 5 ao ([]:List Name)),(1000000,.box (tc ak j18.2))]⟩ ?_ fun d10=> ?_
 exact DE.al (.c 2 d15 rfl (ar.n ab) (.c 5 d16 rfl (ar.n ab) .n))
 refine DE.sh 5 (bA 8 7) ⟨84,[(0,.ref 1000000 0),(2,.ref 2 0),(3,.ref 3 0),(4,vi s9.1),(5,.ref 5 0),(63,.own 63),(65,.own 18)],[(2,.box [vs (ByteArray.mk #[]),vi 0,vi 0,vi 0,vl ao ([]:List Name)]),(3,.box [vs s9.2.1,vi s9.2.2.1,vi s9.2.2.2.1,vi s9.2.2.2.2.1,.own 18]),(5,.box (tc ao j18.1)),(18,oa 169 5 ao s9.2.2.2.2.2.1),(63,oa 169 5 ao ([]:List Name)),(1000000,.box (tc ak j18.2))]⟩ ?_ fun d9=> ?_
 exact DE.al (.c 3 d14 rfl (ar.le (bh (f:=ao) (t:=89) (ti:=eb) (tj:=dg) (zs:=[.string (ByteArray.mk #[]),.string (ByteArray.mk #[]),.int .i64 0,.int .i64 0,.int .i64 0]) (e:=169) (m:=5) (d:=63) (xv:= .own 18) hx22 ab rfl rfl rfl rfl (bT (e:=169))) Le.an) (.c 4 d15 rfl (ar.n ab) .n))
 refine DE.sh 6 (bA 8 48) ⟨84,[(0,.ref 1000000 0),(2,.ref 2 0),(3,.ref 3 0),(4,vi s9.1),(5,.ref 5 0),(68,.own 68)],[(2,.box [vs (ByteArray.mk #[]),vi 0,vi 0,vi 0,vl ao ([]:List Name)]),(3,.box [vs s9.2.1,vi s9.2.2.1,vi s9.2.2.2.1,vi s9.2.2.2.2.1,.own 18]),(5,.box (tc ao j18.1)),(18,oa 169 5 ao s9.2.2.2.2.2.1),(68,oa 169 5 ao ([j18.1]:List Name)),(1000000,.box (tc ak j18.2))]⟩ ?_ fun d8=> ?_
 exact DE.al (.c 0 d11 rfl (ar.n ab) (.c 1 d13 rfl (ar.n ab) .n))
 refine DE.sh 6 (bA 8 18) ⟨84,[(0,.ref 1000000 0),(2,.ref 2 0),(3,.ref 3 0),(4,vi s9.1),(5,.ref 5 0),(64,.ref 3 4),(67,.agg (tc ao j18.1))],[(2,.box [vs (ByteArray.mk #[]),vi 0,vi 0,vi 0,vl ao ([]:List Name)]),(3,.box [vs s9.2.1,vi s9.2.2.1,vi s9.2.2.2.1,vi s9.2.2.2.2.1,.own 18]),(5,.box (tc ao j18.1)),(18,oa 169 5 ao s9.2.2.2.2.2.1),(1000000,.box (tc ak j18.2))]⟩ ?_ fun d7=> ?_
 exact DE.al (.c 0 d10 rfl (ar.n ab) (.c 2 d12 rfl (ar.n ab) (.c 5 d13 rfl (ar.n ab) .n)))
 refine DE.sh 6 (bA 8 6) ⟨84,[(0,.ref 1000000 0),(2,.ref 2 0),(3,.ref 3 0),(4,vi s9.1),(5,.ref 5 0),(65,.own 18)],[(2,.box [vs (ByteArray.mk #[]),vi 0,vi 0,vi 0,vl ao ([]:List Name)]),(3,.box [vs s9.2.1,vi s9.2.2.1,vi s9.2.2.2.1,vi s9.2.2.2.2.1,.own 18]),(5,.box (tc ao j18.1)),(18,oa 169 5 ao s9.2.2.2.2.2.1),(1000000,.box (tc ak j18.2))]⟩ ?_ fun d6=> ?_
 exact DE.al (.c 0 d9 rfl (ar.n ab) (.c 4 d12 rfl (ar.n ab) .n))
 refine DE.sh 6 (bA 8 17) ⟨84,[(0,.ref 1000000 0),(2,.ref 2 0),(3,.ref 3 0),(4,vi s9.1),(5,.ref 5 0),(63,.own 63),(67,.agg (tc ao j18.1))],[(2,.box [vs (ByteArray.mk #[]),vi 0,vi 0,vi 0,vl ao ([]:List Name)]),(3,.box [vs s9.2.1,vi s9.2.2.1,vi s9.2.2.2.1,vi s9.2.2.2.2.1,.own 18]),(5,.box (tc ao j18.1)),(18,oa 169 5 ao s9.2.2.2.2.2.1),(63,oa 169 5 ao ([]:List Name)),(1000000,.box (tc ak j18.2))]⟩ ?_ fun d5=> ?_
 exact DE.al (.c 1 d10 rfl (ar.n ab) (.c 5 d11 rfl (ar.n ab) .n))
 refine DE.sh 6 (bA 8 3) ⟨84,[(0,.ref 1000000 0),(2,.ref 2 0),(3,.ref 3 0),(4,vi s9.1),(5,.ref 5 0),(63,.own 63),(64,.ref 3 4)],[(2,.box [vs (ByteArray.mk #[]),vi 0,vi 0,vi 0,vl ao ([]:List Name)]),(3,.box [vs s9.2.1,vi s9.2.2.1,vi s9.2.2.2.1,vi s9.2.2.2.2.1,.own 18]),(5,.box (tc ao j18.1)),(18,oa 169 5 ao s9.2.2.2.2.2.1),(63,oa 169 5 ao ([]:List Name)),(1000000,.box (tc ak j18.2))]⟩ ?_ fun d4=> ?_
 exact DE.al (.c 2 d9 rfl (ar.n ab) (.c 4 d10 rfl (ar.n ab) .n))
 refine DE.sh 7 (bA 8 16) ⟨84,[(0,.ref 1000000 0),(2,.ref 2 0),(3,.ref 3 0),(4,vi s9.1),(5,.ref 5 0),(67,.agg (tc ao j18.1))],[(2,.box [vs (ByteArray.mk #[]),vi 0,vi 0,vi 0,vl ao ([]:List Name)]),(3,.box [vs s9.2.1,vi s9.2.2.1,vi s9.2.2.2.1,vi s9.2.2.2.2.1,.own 18]),(5,.box (tc ao j18.1)),(18,oa 169 5 ao s9.2.2.2.2.2.1),(1000000,.box (tc ak j18.2))]⟩ ?_ fun d3=> ?_
 exact DE.al (.c 0 d5 rfl (ar.n ab) (.c 1 d7 rfl (ar.n ab) (.c 5 d8 rfl (ar.n ab) .n)))
 refine DE.sh 7 (bA 8 2) ⟨84,[(0,.ref 1000000 0),(2,.ref 2 0),(3,.ref 3 0),(4,vi s9.1),(5,.ref 5 0),(64,.ref 3 4)],[(2,.box [vs (ByteArray.mk #[]),vi 0,vi 0,vi 0,vl ao ([]:List Name)]),(3,.box [vs s9.2.1,vi s9.2.2.1,vi s9.2.2.2.1,vi s9.2.2.2.2.1,.own 18]),(5,.box (tc ao j18.1)),(18,oa 169 5 ao s9.2.2.2.2.2.1),(1000000,.box (tc ak j18.2))]⟩ ?_ fun d2=> ?_
 exact DE.al (.c 0 d4 rfl (ar.n ab) (.c 2 d6 rfl (ar.n ab) (.c 4 d7 rfl (ar.n ab) .n)))
 refine DE.sh 7 (bA 8 1) ⟨84,[(0,.ref 1000000 0),(2,.ref 2 0),(3,.ref 3 0),(4,vi s9.1),(5,.ref 5 0),(63,.own 63)],[(2,.box [vs (ByteArray.mk #[]),vi 0,vi 0,vi 0,vl ao ([]:List Name)]),(3,.box [vs s9.2.1,vi s9.2.2.1,vi s9.2.2.2.1,vi s9.2.2.2.2.1,.own 18]),(5,.box (tc ao j18.1)),(18,oa 169 5 ao s9.2.2.2.2.2.1),(63,oa 169 5 ao ([]:List Name)),(1000000,.box (tc ak j18.2))]⟩ ?_ fun d1=> ?_
 exact DE.al (.c 1 d4 rfl (ar.n ab) (.c 4 d5 rfl (ar.n ab) .n))
 exact DE.al (.c 0 d1 rfl (ar.n ab) (.c 1 d2 rfl (ar.n ab) (.c 4 d3 rfl (ar.n ab) .n)))
 refine bq ?_
 refine ae ?_
 refine bn h (fun j25=>⟨84,[(0,.ref 1000000 0),(2,.ref 2 0),(3,.ref 3 0),(4,vi s9.1),(6,.own 6),(80,vb j25)],[(2,.box [vs (ByteArray.mk #[]),vi 0,vi 0,vi 0,vl ao ([]:List Name)]),(3,.box [vs s9.2.1,vi s9.2.2.1,vi s9.2.2.2.1,vi s9.2.2.2.2.1,.own 18]),(18,oa 169 5 ao s9.2.2.2.2.2.1),(6,oa 169 5 ao x23),(1000000,.box (tc ak j18.2))]⟩) (fun v26 h=> ?_) (fun j25 h=> ?_)
 refine aa.cl ab 1 [0,2,3,4,5,6,70] [2,3,5,18,69,1000000] ?_
 obtain⟨x24,hx24,h⟩:=bind_some h
 refine aa.ls (xc ru (gC x23 _ hx24)) ?_
 refine aa.cl ab 1 [0,2,3,4,5,6,72] [2,3,5,18,69,1000000] ?_
 refine aa.cu [(72,fun b=>b)] h (fun h=> ?_) fun h=> ?_
 refine aa.cl ab 8 [0,2,3,4,6,80] [2,3,18,69,1000000] ?_
 refine aa.nil ?_
 obtain rfl:=inj h
 exact Le.rr [2,3,18,69,1000000] [(69,6)]
 refine aa.cl ab 8 [0,2,3,4,6,80] [2,3,18,69,1000000] ?_
 refine aa.nil ?_
 obtain rfl:=inj h
 exact Le.rr [2,3,18,69,1000000] [(69,6)]
 refine aq h (fun h=> ?_) fun h=> ?_
 refine aD ?_
 refine aa.cl ab 3 [0,2,3,4] [2,3,6,1000000] ?_
 refine aa.nil ?_
 obtain rfl:=inj h
 exact bt (cI (Le.rr [2,3,6,1000000] [(6,18)]))
 refine ai ?_
 obtain rfl:=inj h
 exact bt (cI (Le.an))
 refine aD ?_
 refine aa.cl ab 3 [0,2,3,4] [2,3,18,1000000] ?_
 refine aa.nil ?_
 obtain rfl:=inj h
 exact cn (Le.an)
 refine a6 ?_
 obtain rfl:=inj h
 exact cE (cG (cF (cI (Le.an))))
 refine aJ ab [2] [2,18,1000000] ?_
 refine ah ?_
 obtain rfl:=inj h
 exact aO (di (f1 (AP (d:=18) [vs j7.1,vi j7.2.1,vi j7.2.2.1,vi j7.2.2.2.1] [] (cA ab (d:=2) (cs:=[vs j7.1,vi j7.2.1,vi j7.2.2.1,vi j7.2.2.2.1,.own 18]) (ti:=bG) (by kernel_rfl) (by kernel_rfl) (by kernel_rfl) (by kernel_rfl)) (by kernel_rfl) (cN bQ _) rfl rfl SV.ez SV.ez (by kernel_rfl))) (y:= .box (tc ak j7.2.2.2.2.2)) (by kernel_rfl) rfl (by kernel_rfl) (by kernel_rfl))
theorem uo:bg Tryz.prog 146:=az Tryz.func146 (by kernel_rfl) rfl
noncomputable def gr(af:(List Place))(aP:Place):Option ((List Place)×Int):=
 ((((c9 af).bind fun x1=>(bif(!x1)then some true else((hN aP).bind fun x2=>some (!x2))))).bind fun(j3:Bool)=>(bif j3 then some (([]:List Place),1)else(((loop (fun(s7:Int)=>(((bif(decide (s7<(af.length:Int)))then((at' af s7).bind fun x9=>some (Op.bytesLess x9.Code.toList aP.Code.toList))else some false)).bind fun(j10:Bool)=>(bif j10 then some (.inl (bF (s7+1)))else some (.inr s7)))) 0)).bind fun(j5:Int)=>((mW af 0 j5).bind fun x12=>((c4 ([]:List Place) x12).bind fun x13=>((c4 x13 ([aP]:List Place)).bind fun x14=>((mW af j5 (af.length:Int)).bind fun x15=>((c4 x14 x15).bind fun x16=>((c9 x16).bind fun x17=>(bif(!x17)then some (([]:List Place),5)else((fN x16).bind fun x18=>some (x18,0))))))))))))
theorem lH(af:(List Place))(aP:Place)(r:(List Place)×Int)(h:gr af aP=some r):aR Tryz.prog 147 [.v (vl ad af),.v (.agg (tc ad aP))] ⟨[.deep 91 5 r.1.length [.flat,.flat,.flat,.flat,(.sl 169 5 [.flat,.flat,.flat,.flat,.flat])] (r.1.map ad),.v (vi r.2)],[],false⟩:=by
 refine au Tryz.func147 rfl [(.tmp 4),(.tmp 5)] rfl (fun r=>⟨[.deep 91 5 r.1.length [.flat,.flat,.flat,.flat,(.sl 169 5 [.flat,.flat,.flat,.flat,.flat])] (r.1.map ad),.v (vi r.2)],[],false⟩) (r:=r) ?_
 unfold gr at h
 refine aJ ab [0,3] [3] ?_
 refine ae ?_
 refine ae ?_
 refine bn h (fun j3=>⟨49,[(0,vl ad af),(3,.ref 3 0),(15,vb j3)],[(3,.box (tc ad aP))]⟩) (fun v4 h=> ?_) (fun j3 h=> ?_)
 refine aa.cl ab 1 [0,3,8] [3] ?_
 obtain⟨x1,hx1,h⟩:=bind_some h
 refine aa.ls (xc uz (fj af _ hx1)) ?_
 refine aa.cl ab 2 [0,3,11] [3] ?_
 refine aa.cu [(11,fun b=>b)] h (fun h=> ?_) fun h=> ?_
 refine aa.cl ab 4 [0,3,15] [3] ?_
 refine aa.nil ?_
 obtain rfl:=inj h
 exact Le.an
 refine aa.cl ab 1 [0,3,11,12] [3] ?_
 obtain⟨x2,hx2,h⟩:=bind_some h
 refine aa.ls (xc xW (mb aP _ hx2)) ?_
 refine aa.cl ab 2 [0,3,15] [3] ?_
 refine aa.nil ?_
 obtain rfl:=inj h
 exact Le.an
 refine aq h (fun h=> ?_) fun h=> ?_
 refine aJ ab [4,5] [4] ?_
 refine cH (Le.qG (d:=4) (e:=91) (m:=5) (ss:=[.flat,.flat,.flat,.flat,(.sl 169 5 [.flat,.flat,.flat,.flat,.flat])]) (by kernel_rfl) (by kernel_rfl)) ?_
 refine ah ?_
 obtain rfl:=inj h
 exact cY (aO (f2 (vQ (d:=4) (fP (by kernel_rfl)) (by kernel_rfl) (by kernel_rfl)) fv))
 refine ai ?_
 refine bq ?_
 refine aJ ab [0,3,6] [3] ?_
 refine ae ?_
 refine aU h (fun j5=>⟨49,[(0,vl ad af),(3,.ref 3 0),(6,vi j5)],[(3,.box (tc ad aP))]⟩) (fun v6 h=> ?_) (fun j5 h=> ?_)
 refine ax (a:=v6) ?_
 refine bc (r:=v6) (s:=0) _ (fun s7=>⟨49,[(0,vl ad af),(3,.ref 3 0),(6,vi s7)],[(3,.box (tc ad aP))]⟩) _ (Le.an) h (fun s7 v8 h=> ?_)
 refine ae ?_
 refine ae ?_
 refine ie mixed h (fun j10=>⟨49,[(0,vl ad af),(3,.ref 3 0),(6,vi s7),(29,vb j10)],[(3,.box (tc ad aP))]⟩) (fun v11 h=> ?_) (fun j10 h=> ?_)
 refine aH.cl ab false 5 [0,3,6,20] [3] ?_
 refine aH.cu [(20,fun b=>b)] h (fun h=> ?_) fun h=> ?_
 refine aH.cl ab false 2 [0,3,6,20,21,22] [3] ?_
 obtain⟨x9,hx9,h⟩:=bind_some h
 refine aH.step (aY (L:=af) (f:=ad) (ti:=bR) (tj:=bG) (e:=91) (k:= .i64) ab rfl hx9) ?_
 refine aH.cl ab false 6 [0,3,6,29] [3] ?_
 refine aH.nil (by kernel_rfl) ?_
 obtain rfl:=inj h
 exact Le.an
 refine aH.cl ab false 9 [0,3,6,29] [3] ?_
 refine aH.nil (by kernel_rfl) ?_
 obtain rfl:=inj h
 exact Le.an
 refine aq h (fun h=> ?_) fun h=> ?_
 refine ai ?_
 refine bq ?_
 refine ax (a:=v8) ?_
 refine aD ?_
 refine aa.cl ab 3 [0,3,6] [3] ?_
 refine aa.nil ?_
 obtain rfl:=inj h
 exact bt (cn (Le.an))
 refine a6 ?_
 obtain rfl:=inj h
 exact cE (cG (cF (cI (Le.an))))
 refine ae ?_
 obtain⟨x12,hx12,h⟩:=bind_some h
 obtain⟨x13,hx13,h⟩:=bind_some h
 obtain⟨x14,hx14,h⟩:=bind_some h
 obtain⟨x15,hx15,h⟩:=bind_some h
 obtain⟨x16,hx16,h⟩:=bind_some h
 refine cV mixed ?_
 refine aH.za (σE:=⟨49,[(7,.own 43)],[(43,oa 91 5 ad x16)]⟩) (n:=13) (L0:=(bA 13 0)) (by kernel_rfl) (by kernel_rfl) (fun K hk=> ?_) ?_
 refine DE.sh 0 (bA 13 8191) ⟨49,[(7,.own 43)],[(43,oa 91 5 ad x16)]⟩ ?_ fun d37=> ?_
 exact DE.done (by kernel_rfl) hk
 refine DE.sh 1 (bA 13 4095) ⟨49,[(43,.own 43)],[(43,oa 91 5 ad x16)]⟩ ?_ fun d36=> ?_
 exact DE.tk 12 d37 rfl (.inr rfl) (ar.n ab)
 refine DE.sh 2 (bA 13 2047) ⟨49,[(39,.own 39),(42,vl ad x15)],[(39,oa 91 5 ad x14)]⟩ ?_ fun d35=> ?_
 exact DE.a1 11 d36 rfl (ar.le (bh (f:=ad) (t:=32) (ti:=bR) (tj:=bG) (zs:=[.string (ByteArray.mk #[]),.int .i64 0,.int .i64 0,.int .i64 0,.slice none 0 0]) (e:=91) (m:=5) (d:=39) (xv:=vl ad x15) hx16 ab rfl rfl rfl rfl (jG (fun _=>rfl))) Le.an)
 refine DE.sh 3 (bA 13 1919) ⟨49,[(36,.own 36),(38,.own 38),(42,vl ad x15)],[(36,oa 91 5 ad x13),(38,oa 91 5 ad ([aP]:List Place))]⟩ ?_ fun d34=> ?_
 exact DE.a1 7 d35 rfl (ar.le (bh (f:=ad) (t:=32) (ti:=bR) (tj:=bG) (zs:=[.string (ByteArray.mk #[]),.int .i64 0,.int .i64 0,.int .i64 0,.slice none 0 0]) (e:=91) (m:=5) (d:=36) (xv:= .own 38) hx14 ab rfl rfl rfl rfl (bT (e:=91))) Le.an)
 refine DE.sh 3 (bA 13 1023) ⟨49,[(39,.own 39),(40,vl ad af),(41,vi j5)],[(39,oa 91 5 ad x14)]⟩ ?_ fun d33=> ?_
 exact DE.a1 10 d35 rfl (ar.l (bC (m:=5) (f:=ad) (ti:=bR) (tj:=bG) (e:=91) hx15 (fun _=>rfl) ab rfl))
 refine DE.sh 4 (bA 13 1903) ⟨49,[(32,.own 32),(35,vl ad x12),(38,.own 38),(42,vl ad x15)],[(32,oa 91 5 ad ([]:List Place)),(38,oa 91 5 ad ([aP]:List Place))]⟩ ?_ fun d32=> ?_
 exact DE.a1 4 d34 rfl (ar.le (bh (f:=ad) (t:=32) (ti:=bR) (tj:=bG) (zs:=[.string (ByteArray.mk #[]),.int .i64 0,.int .i64 0,.int .i64 0,.slice none 0 0]) (e:=91) (m:=5) (d:=32) (xv:=vl ad x12) hx13 ab rfl rfl rfl rfl (jG (fun _=>rfl))) Le.an)
 refine DE.sh 4 (bA 13 1855) ⟨49,[(36,.own 36),(37,.agg (tc ad aP)),(42,vl ad x15)],[(36,oa 91 5 ad x13)]⟩ ?_ fun d31=> ?_
 exact DE.a1 6 d34 rfl (ar.n ab)
 refine DE.sh 4 (bA 13 895) ⟨49,[(36,.own 36),(38,.own 38),(40,vl ad af),(41,vi j5)],[(36,oa 91 5 ad x13),(38,oa 91 5 ad ([aP]:List Place))]⟩ ?_ fun d30=> ?_
 exact DE.al (.c 7 d33 rfl (ar.le (bh (f:=ad) (t:=32) (ti:=bR) (tj:=bG) (zs:=[.string (ByteArray.mk #[]),.int .i64 0,.int .i64 0,.int .i64 0,.slice none 0 0]) (e:=91) (m:=5) (d:=36) (xv:= .own 38) hx14 ab rfl rfl rfl rfl (bT (e:=91))) Le.an) (.c 10 d34 rfl (ar.l (bC (m:=5) (f:=ad) (ti:=bR) (tj:=bG) (e:=91) hx15 (fun _=>rfl) ab rfl)) .n))
 refine DE.sh 5 (bA 13 1902) ⟨49,[(35,vl ad x12),(38,.own 38),(42,vl ad x15)],[(38,oa 91 5 ad ([aP]:List Place))]⟩ ?_ fun d29=> ?_
 exact DE.a1 0 d32 rfl (ar.n ab)
 refine DE.sh 5 (bA 13 1895) ⟨49,[(32,.own 32),(33,vl ad af),(34,vi j5),(38,.own 38),(42,vl ad x15)],[(32,oa 91 5 ad ([]:List Place)),(38,oa 91 5 ad ([aP]:List Place))]⟩ ?_ fun d28=> ?_
 exact DE.a1 3 d32 rfl (ar.l (bC (m:=5) (f:=ad) (ti:=bR) (tj:=bG) (e:=91) hx12 (fun _=>rfl) ab rfl))
 refine DE.sh 5 (bA 13 1839) ⟨49,[(32,.own 32),(35,vl ad x12),(37,.agg (tc ad aP)),(42,vl ad x15)],[(32,oa 91 5 ad ([]:List Place))]⟩ ?_ fun d27=> ?_
 exact DE.al (.c 4 d31 rfl (ar.le (bh (f:=ad) (t:=32) (ti:=bR) (tj:=bG) (zs:=[.string (ByteArray.mk #[]),.int .i64 0,.int .i64 0,.int .i64 0,.slice none 0 0]) (e:=91) (m:=5) (d:=32) (xv:=vl ad x12) hx13 ab rfl rfl rfl rfl (jG (fun _=>rfl))) Le.an) (.c 6 d32 rfl (ar.n ab) .n))
 refine DE.sh 5 (bA 13 879) ⟨49,[(32,.own 32),(35,vl ad x12),(38,.own 38),(40,vl ad af),(41,vi j5)],[(32,oa 91 5 ad ([]:List Place)),(38,oa 91 5 ad ([aP]:List Place))]⟩ ?_ fun d26=> ?_
 exact DE.al (.c 4 d30 rfl (ar.le (bh (f:=ad) (t:=32) (ti:=bR) (tj:=bG) (zs:=[.string (ByteArray.mk #[]),.int .i64 0,.int .i64 0,.int .i64 0,.slice none 0 0]) (e:=91) (m:=5) (d:=32) (xv:=vl ad x12) hx13 ab rfl rfl rfl rfl (jG (fun _=>rfl))) Le.an) (.c 10 d32 rfl (ar.l (bC (m:=5) (f:=ad) (ti:=bR) (tj:=bG) (e:=91) hx15 (fun _=>rfl) ab rfl)) .n))
 refine DE.sh 5 (bA 13 1823) ⟨49,[(3,.ref 3 0),(36,.own 36),(42,vl ad x15)],[(3,.box (tc ad aP)),(36,oa 91 5 ad x13)]⟩ ?_ fun d25=> ?_
 exact DE.a1 5 d31 rfl (ar.n ab)
 refine DE.sh 5 (bA 13 831) ⟨49,[(36,.own 36),(37,.agg (tc ad aP)),(40,vl ad af),(41,vi j5)],[(36,oa 91 5 ad x13)]⟩ ?_ fun d24=> ?_
 exact DE.al (.c 6 d30 rfl (ar.n ab) (.c 10 d31 rfl (ar.l (bC (m:=5) (f:=ad) (ti:=bR) (tj:=bG) (e:=91) hx15 (fun _=>rfl) ab rfl)) .n))
 refine DE.sh 6 (bA 13 1894) ⟨49,[(33,vl ad af),(34,vi j5),(38,.own 38),(42,vl ad x15)],[(38,oa 91 5 ad ([aP]:List Place))]⟩ ?_ fun d23=> ?_
 exact DE.al (.c 0 d28 rfl (ar.n ab) (.c 3 d29 rfl (ar.l (bC (m:=5) (f:=ad) (ti:=bR) (tj:=bG) (e:=91) hx12 (fun _=>rfl) ab rfl)) .n))
 refine DE.sh 6 (bA 13 1838) ⟨49,[(35,vl ad x12),(37,.agg (tc ad aP)),(42,vl ad x15)],[]⟩ ?_ fun d22=> ?_
 exact DE.al (.c 0 d27 rfl (ar.n ab) (.c 6 d29 rfl (ar.n ab) .n))
 refine DE.sh 6 (bA 13 878) ⟨49,[(35,vl ad x12),(38,.own 38),(40,vl ad af),(41,vi j5)],[(38,oa 91 5 ad ([aP]:List Place))]⟩ ?_ fun d21=> ?_
 exact DE.al (.c 0 d26 rfl (ar.n ab) (.c 10 d29 rfl (ar.l (bC (m:=5) (f:=ad) (ti:=bR) (tj:=bG) (e:=91) hx15 (fun _=>rfl) ab rfl)) .n))
 refine DE.sh 6 (bA 13 1831) ⟨49,[(32,.own 32),(33,vl ad af),(34,vi j5),(37,.agg (tc ad aP)),(42,vl ad x15)],[(32,oa 91 5 ad ([]:List Place))]⟩ ?_ fun d20=> ?_
 exact DE.al (.c 3 d27 rfl (ar.l (bC (m:=5) (f:=ad) (ti:=bR) (tj:=bG) (e:=91) hx12 (fun _=>rfl) ab rfl)) (.c 6 d28 rfl (ar.n ab) .n))
 refine DE.sh 6 (bA 13 871) ⟨49,[(32,.own 32),(33,vl ad af),(34,vi j5),(38,.own 38),(40,vl ad af),(41,vi j5)],[(32,oa 91 5 ad ([]:List Place)),(38,oa 91 5 ad ([aP]:List Place))]⟩ ?_ fun d19=> ?_
 exact DE.al (.c 3 d26 rfl (ar.l (bC (m:=5) (f:=ad) (ti:=bR) (tj:=bG) (e:=91) hx12 (fun _=>rfl) ab rfl)) (.c 10 d28 rfl (ar.l (bC (m:=5) (f:=ad) (ti:=bR) (tj:=bG) (e:=91) hx15 (fun _=>rfl) ab rfl)) .n))
 refine DE.sh 6 (bA 13 1807) ⟨49,[(3,.ref 3 0),(32,.own 32),(35,vl ad x12),(42,vl ad x15)],[(3,.box (tc ad aP)),(32,oa 91 5 ad ([]:List Place))]⟩ ?_ fun d18=> ?_
 exact DE.al (.c 4 d25 rfl (ar.le (bh (f:=ad) (t:=32) (ti:=bR) (tj:=bG) (zs:=[.string (ByteArray.mk #[]),.int .i64 0,.int .i64 0,.int .i64 0,.slice none 0 0]) (e:=91) (m:=5) (d:=32) (xv:=vl ad x12) hx13 ab rfl rfl rfl rfl (jG (fun _=>rfl))) Le.an) (.c 5 d27 rfl (ar.n ab) .n))
 refine DE.sh 6 (bA 13 815) ⟨49,[(32,.own 32),(35,vl ad x12),(37,.agg (tc ad aP)),(40,vl ad af),(41,vi j5)],[(32,oa 91 5 ad ([]:List Place))]⟩ ?_ fun d17=> ?_
 exact DE.al (.c 4 d24 rfl (ar.le (bh (f:=ad) (t:=32) (ti:=bR) (tj:=bG) (zs:=[.string (ByteArray.mk #[]),.int .i64 0,.int .i64 0,.int .i64 0,.slice none 0 0]) (e:=91) (m:=5) (d:=32) (xv:=vl ad x12) hx13 ab rfl rfl rfl rfl (jG (fun _=>rfl))) Le.an) (.c 6 d26 rfl (ar.n ab) (.c 10 d27 rfl (ar.l (bC (m:=5) (f:=ad) (ti:=bR) (tj:=bG) (e:=91) hx15 (fun _=>rfl) ab rfl)) .n)))
 refine DE.sh 6 (bA 13 799) ⟨49,[(3,.ref 3 0),(36,.own 36),(40,vl ad af),(41,vi j5)],[(3,.box (tc ad aP)),(36,oa 91 5 ad x13)]⟩ ?_ fun d16=> ?_
 exact DE.al (.c 5 d24 rfl (ar.n ab) (.c 10 d25 rfl (ar.l (bC (m:=5) (f:=ad) (ti:=bR) (tj:=bG) (e:=91) hx15 (fun _=>rfl) ab rfl)) .n))
 refine DE.sh 7 (bA 13 1830) ⟨49,[(33,vl ad af),(34,vi j5),(37,.agg (tc ad aP)),(42,vl ad x15)],[]⟩ ?_ fun d15=> ?_
 exact DE.al (.c 0 d20 rfl (ar.n ab) (.c 3 d22 rfl (ar.l (bC (m:=5) (f:=ad) (ti:=bR) (tj:=bG) (e:=91) hx12 (fun _=>rfl) ab rfl)) (.c 6 d23 rfl (ar.n ab) .n)))
 refine DE.sh 7 (bA 13 870) ⟨49,[(33,vl ad af),(34,vi j5),(38,.own 38),(40,vl ad af),(41,vi j5)],[(38,oa 91 5 ad ([aP]:List Place))]⟩ ?_ fun d14=> ?_
 exact DE.al (.c 0 d19 rfl (ar.n ab) (.c 3 d21 rfl (ar.l (bC (m:=5) (f:=ad) (ti:=bR) (tj:=bG) (e:=91) hx12 (fun _=>rfl) ab rfl)) (.c 10 d23 rfl (ar.l (bC (m:=5) (f:=ad) (ti:=bR) (tj:=bG) (e:=91) hx15 (fun _=>rfl) ab rfl)) .n)))
 refine DE.sh 7 (bA 13 1806) ⟨49,[(3,.ref 3 0),(35,vl ad x12),(42,vl ad x15)],[(3,.box (tc ad aP))]⟩ ?_ fun d13=> ?_
 exact DE.al (.c 0 d18 rfl (ar.n ab) (.c 5 d22 rfl (ar.n ab) .n))
 refine DE.sh 7 (bA 13 814) ⟨49,[(35,vl ad x12),(37,.agg (tc ad aP)),(40,vl ad af),(41,vi j5)],[]⟩ ?_ fun d12=> ?_
 exact DE.al (.c 0 d17 rfl (ar.n ab) (.c 6 d21 rfl (ar.n ab) (.c 10 d22 rfl (ar.l (bC (m:=5) (f:=ad) (ti:=bR) (tj:=bG) (e:=91) hx15 (fun _=>rfl) ab rfl)) .n)))
 refine DE.sh 7 (bA 13 1799) ⟨49,[(3,.ref 3 0),(32,.own 32),(33,vl ad af),(34,vi j5),(42,vl ad x15)],[(3,.box (tc ad aP)),(32,oa 91 5 ad ([]:List Place))]⟩ ?_ fun d11=> ?_
 exact DE.al (.c 3 d18 rfl (ar.l (bC (m:=5) (f:=ad) (ti:=bR) (tj:=bG) (e:=91) hx12 (fun _=>rfl) ab rfl)) (.c 5 d20 rfl (ar.n ab) .n))
 refine DE.sh 7 (bA 13 807) ⟨49,[(32,.own 32),(33,vl ad af),(34,vi j5),(37,.agg (tc ad aP)),(40,vl ad af),(41,vi j5)],[(32,oa 91 5 ad ([]:List Place))]⟩ ?_ fun d10=> ?_
 exact DE.al (.c 3 d17 rfl (ar.l (bC (m:=5) (f:=ad) (ti:=bR) (tj:=bG) (e:=91) hx12 (fun _=>rfl) ab rfl)) (.c 6 d19 rfl (ar.n ab) (.c 10 d20 rfl (ar.l (bC (m:=5) (f:=ad) (ti:=bR) (tj:=bG) (e:=91) hx15 (fun _=>rfl) ab rfl)) .n)))
 refine DE.sh 7 (bA 13 783) ⟨49,[(3,.ref 3 0),(32,.own 32),(35,vl ad x12),(40,vl ad af),(41,vi j5)],[(3,.box (tc ad aP)),(32,oa 91 5 ad ([]:List Place))]⟩ ?_ fun d9=> ?_
 exact DE.al (.c 4 d16 rfl (ar.le (bh (f:=ad) (t:=32) (ti:=bR) (tj:=bG) (zs:=[.string (ByteArray.mk #[]),.int .i64 0,.int .i64 0,.int .i64 0,.slice none 0 0]) (e:=91) (m:=5) (d:=32) (xv:=vl ad x12) hx13 ab rfl rfl rfl rfl (jG (fun _=>rfl))) Le.an) (.c 5 d17 rfl (ar.n ab) (.c 10 d18 rfl (ar.l (bC (m:=5) (f:=ad) (ti:=bR) (tj:=bG) (e:=91) hx15 (fun _=>rfl) ab rfl)) .n)))
 refine DE.sh 8 (bA 13 1798) ⟨49,[(3,.ref 3 0),(33,vl ad af),(34,vi j5),(42,vl ad x15)],[(3,.box (tc ad aP))]⟩ ?_ fun d8=> ?_
 exact DE.al (.c 0 d11 rfl (ar.n ab) (.c 3 d13 rfl (ar.l (bC (m:=5) (f:=ad) (ti:=bR) (tj:=bG) (e:=91) hx12 (fun _=>rfl) ab rfl)) (.c 5 d15 rfl (ar.n ab) .n)))
 refine DE.sh 8 (bA 13 806) ⟨49,[(33,vl ad af),(34,vi j5),(37,.agg (tc ad aP)),(40,vl ad af),(41,vi j5)],[]⟩ ?_ fun d7=> ?_
 exact DE.al (.c 0 d10 rfl (ar.n ab) (.c 3 d12 rfl (ar.l (bC (m:=5) (f:=ad) (ti:=bR) (tj:=bG) (e:=91) hx12 (fun _=>rfl) ab rfl)) (.c 6 d14 rfl (ar.n ab) (.c 10 d15 rfl (ar.l (bC (m:=5) (f:=ad) (ti:=bR) (tj:=bG) (e:=91) hx15 (fun _=>rfl) ab rfl)) .n))))
 refine DE.sh 8 (bA 13 782) ⟨49,[(3,.ref 3 0),(35,vl ad x12),(40,vl ad af),(41,vi j5)],[(3,.box (tc ad aP))]⟩ ?_ fun d6=> ?_
 exact DE.al (.c 0 d9 rfl (ar.n ab) (.c 5 d12 rfl (ar.n ab) (.c 10 d13 rfl (ar.l (bC (m:=5) (f:=ad) (ti:=bR) (tj:=bG) (e:=91) hx15 (fun _=>rfl) ab rfl)) .n)))
 refine DE.sh 8 (bA 13 775) ⟨49,[(3,.ref 3 0),(32,.own 32),(33,vl ad af),(34,vi j5),(40,vl ad af),(41,vi j5)],[(3,.box (tc ad aP)),(32,oa 91 5 ad ([]:List Place))]⟩ ?_ fun d5=> ?_
 exact DE.al (.c 3 d9 rfl (ar.l (bC (m:=5) (f:=ad) (ti:=bR) (tj:=bG) (e:=91) hx12 (fun _=>rfl) ab rfl)) (.c 5 d10 rfl (ar.n ab) (.c 10 d11 rfl (ar.l (bC (m:=5) (f:=ad) (ti:=bR) (tj:=bG) (e:=91) hx15 (fun _=>rfl) ab rfl)) .n)))
 refine DE.sh 9 (bA 13 774) ⟨49,[(3,.ref 3 0),(33,vl ad af),(34,vi j5),(40,vl ad af),(41,vi j5)],[(3,.box (tc ad aP))]⟩ ?_ fun d4=> ?_
 exact DE.al (.c 0 d5 rfl (ar.n ab) (.c 3 d6 rfl (ar.l (bC (m:=5) (f:=ad) (ti:=bR) (tj:=bG) (e:=91) hx12 (fun _=>rfl) ab rfl)) (.c 5 d7 rfl (ar.n ab) (.c 10 d8 rfl (ar.l (bC (m:=5) (f:=ad) (ti:=bR) (tj:=bG) (e:=91) hx15 (fun _=>rfl) ab rfl)) .n))))
 refine DE.sh 10 (bA 13 262) ⟨49,[(3,.ref 3 0),(6,vi j5),(33,vl ad af),(34,vi j5),(40,vl ad af)],[(3,.box (tc ad aP))]⟩ ?_ fun d3=> ?_
 exact DE.tk 9 d4 rfl (.inl rfl) (ar.n ab)
 refine DE.sh 11 (bA 13 6) ⟨49,[(0,vl ad af),(3,.ref 3 0),(6,vi j5),(33,vl ad af),(34,vi j5)],[(3,.box (tc ad aP))]⟩ ?_ fun d2=> ?_
 exact DE.tk 8 d3 rfl (.inl rfl) (ar.n ab)
 refine DE.sh 12 (bA 13 2) ⟨49,[(0,vl ad af),(3,.ref 3 0),(6,vi j5),(33,vl ad af)],[(3,.box (tc ad aP))]⟩ ?_ fun d1=> ?_
 exact DE.tk 2 d2 rfl (.inl rfl) (ar.n ab)
 exact DE.tk 1 d1 rfl (.inl rfl) (ar.n ab)
 refine bq ?_
 refine ae ?_
 refine sr ?_
 refine aa.cl ab 1 [7,44] [43] ?_
 obtain⟨x17,hx17,h⟩:=bind_some h
 refine aa.ls (xc uz (fj x16 _ hx17)) ?_
 refine bO ab 1 [7,46] [43] ?_
 refine aq h (fun h=> ?_) fun h=> ?_
 refine aJ ab [4,5] [4] ?_
 refine cH (Le.qG (d:=4) (e:=91) (m:=5) (ss:=[.flat,.flat,.flat,.flat,(.sl 169 5 [.flat,.flat,.flat,.flat,.flat])]) (by kernel_rfl) (by kernel_rfl)) ?_
 refine ah ?_
 obtain rfl:=inj h
 exact cY (aO (f2 (vQ (d:=4) (fP (by kernel_rfl)) (by kernel_rfl) (by kernel_rfl)) fv))
 refine ai ?_
 refine bq ?_
 refine sr ?_
 refine aa.ck ab 1 ⟨49,[(47,.own 43)],[(43,oa 91 5 ad x16)]⟩ ?_
 obtain⟨x18,hx18,h⟩:=bind_some h
 refine aa.ls (xc xh (kx x16 _ hx18)) ?_
 refine bO ab 2 [4,5] [48] ?_
 refine ah ?_
 obtain rfl:=inj h
 exact aO (f2 (vQ (d:=48) (fP (by kernel_rfl)) (by kernel_rfl) (by kernel_rfl)) fv)
theorem yg:bg Tryz.prog 147:=az Tryz.func147 (by kernel_rfl) rfl
noncomputable def hJ(af:(List ay))(aL:ay):Option ((List ay)×Int):=
 ((((dM af).bind fun x1=>(bif(!x1)then some true else((jV aL).bind fun x2=>some (!x2))))).bind fun(j3:Bool)=>(bif j3 then some (([]:List ay),1)else((c4 ([]:List ay) af).bind fun x5=>((c4 x5 ([aL]:List ay)).bind fun x6=>((dM x6).bind fun x7=>(bif(!x7)then some (([]:List ay),5)else some (x6,0)))))))
theorem ma(af:(List ay))(aL:ay)(r:(List ay)×Int)(h:hJ af aL=some r):aR Tryz.prog 148 [.v (vl aj af),.v (.agg (tc aj aL))] ⟨[.own 85 4 r.1.length (r.1.map aj),.v (vi r.2)],[],false⟩:=by
 refine au Tryz.func148 rfl [(.tmp 4),(.tmp 5)] rfl (fun r=>⟨[.own 85 4 r.1.length (r.1.map aj),.v (vi r.2)],[],false⟩) (r:=r) ?_
 unfold hJ at h
 refine aJ ab [0,3] [3] ?_
 refine ae ?_
 refine ae ?_
 refine bn h (fun j3=>⟨25,[(0,vl aj af),(3,.ref 3 0),(14,vb j3)],[(3,.box (tc aj aL))]⟩) (fun v4 h=> ?_) (fun j3 h=> ?_)
 refine aa.cl ab 1 [0,3,7] [3] ?_
 obtain⟨x1,hx1,h⟩:=bind_some h
 refine aa.ls (xc r5 (eU af _ hx1)) ?_
 refine aa.cl ab 2 [0,3,10] [3] ?_
 refine aa.cu [(10,fun b=>b)] h (fun h=> ?_) fun h=> ?_
 refine aa.cl ab 4 [0,3,14] [3] ?_
 refine aa.nil ?_
 obtain rfl:=inj h
 exact Le.an
 refine aa.cl ab 1 [0,3,10,11] [3] ?_
 obtain⟨x2,hx2,h⟩:=bind_some h
 refine aa.ls (xc xX (nF aL _ hx2)) ?_
 refine aa.cl ab 2 [0,3,14] [3] ?_
 refine aa.nil ?_
 obtain rfl:=inj h
 exact Le.an
 refine aq h (fun h=> ?_) fun h=> ?_
 refine aJ ab [4,5] [4] ?_
 refine ah ?_
 obtain rfl:=inj h
 exact cY (aO (f2 (fo dj) fv))
 refine ai ?_
 refine bq ?_
 refine ae ?_
 obtain⟨x5,hx5,h⟩:=bind_some h
 obtain⟨x6,hx6,h⟩:=bind_some h
 refine cV mixed ?_
 refine aH.za (σE:=⟨25,[(6,.own 20)],[(20,oa 85 4 aj x6)]⟩) (n:=7) (L0:=(bA 7 0)) (by kernel_rfl) (by kernel_rfl) (fun K hk=> ?_) ?_
 refine DE.sh 0 (bA 7 127) ⟨25,[(6,.own 20)],[(20,oa 85 4 aj x6)]⟩ ?_ fun d11=> ?_
 exact DE.done (by kernel_rfl) hk
 refine DE.sh 1 (bA 7 63) ⟨25,[(20,.own 20)],[(20,oa 85 4 aj x6)]⟩ ?_ fun d10=> ?_
 exact DE.tk 6 d11 rfl (.inr rfl) (ar.n ab)
 refine DE.sh 2 (bA 7 31) ⟨25,[(17,.own 17),(19,.own 19)],[(17,oa 85 4 aj x5),(19,oa 85 4 aj ([aL]:List ay))]⟩ ?_ fun d9=> ?_
 exact DE.a1 5 d10 rfl (ar.le (bh (f:=aj) (t:=33) (ti:=eo) (tj:=ew) (zs:=[.string (ByteArray.mk #[]),.string (ByteArray.mk #[]),.int .i64 0,.int .i64 0]) (e:=85) (m:=4) (d:=17) (xv:= .own 19) hx6 ab rfl rfl rfl rfl (bT (e:=85))) Le.an)
 refine DE.sh 3 (bA 7 27) ⟨25,[(15,.own 15),(16,vl aj af),(19,.own 19)],[(15,oa 85 4 aj ([]:List ay)),(19,oa 85 4 aj ([aL]:List ay))]⟩ ?_ fun d8=> ?_
 exact DE.a1 2 d9 rfl (ar.le (bh (f:=aj) (t:=33) (ti:=eo) (tj:=ew) (zs:=[.string (ByteArray.mk #[]),.string (ByteArray.mk #[]),.int .i64 0,.int .i64 0]) (e:=85) (m:=4) (d:=15) (xv:=vl aj af) hx5 ab rfl rfl rfl rfl (jG (fun _=>rfl))) Le.an)
 refine DE.sh 3 (bA 7 15) ⟨25,[(17,.own 17),(18,.agg (tc aj aL))],[(17,oa 85 4 aj x5)]⟩ ?_ fun d7=> ?_
 exact DE.a1 4 d9 rfl (ar.n ab)
 refine DE.sh 4 (bA 7 26) ⟨25,[(16,vl aj af),(19,.own 19)],[(19,oa 85 4 aj ([aL]:List ay))]⟩ ?_ fun d6=> ?_
 exact DE.a1 0 d8 rfl (ar.n ab)
 refine DE.sh 4 (bA 7 11) ⟨25,[(15,.own 15),(16,vl aj af),(18,.agg (tc aj aL))],[(15,oa 85 4 aj ([]:List ay))]⟩ ?_ fun d5=> ?_
 exact DE.al (.c 2 d7 rfl (ar.le (bh (f:=aj) (t:=33) (ti:=eo) (tj:=ew) (zs:=[.string (ByteArray.mk #[]),.string (ByteArray.mk #[]),.int .i64 0,.int .i64 0]) (e:=85) (m:=4) (d:=15) (xv:=vl aj af) hx5 ab rfl rfl rfl rfl (jG (fun _=>rfl))) Le.an) (.c 4 d8 rfl (ar.n ab) .n))
 refine DE.sh 4 (bA 7 7) ⟨25,[(3,.ref 3 0),(17,.own 17)],[(3,.box (tc aj aL)),(17,oa 85 4 aj x5)]⟩ ?_ fun d4=> ?_
 exact DE.a1 3 d7 rfl (ar.n ab)
 refine DE.sh 5 (bA 7 10) ⟨25,[(16,vl aj af),(18,.agg (tc aj aL))],[]⟩ ?_ fun d3=> ?_
 exact DE.al (.c 0 d5 rfl (ar.n ab) (.c 4 d6 rfl (ar.n ab) .n))
 refine DE.sh 5 (bA 7 3) ⟨25,[(3,.ref 3 0),(15,.own 15),(16,vl aj af)],[(3,.box (tc aj aL)),(15,oa 85 4 aj ([]:List ay))]⟩ ?_ fun d2=> ?_
 exact DE.al (.c 2 d4 rfl (ar.le (bh (f:=aj) (t:=33) (ti:=eo) (tj:=ew) (zs:=[.string (ByteArray.mk #[]),.string (ByteArray.mk #[]),.int .i64 0,.int .i64 0]) (e:=85) (m:=4) (d:=15) (xv:=vl aj af) hx5 ab rfl rfl rfl rfl (jG (fun _=>rfl))) Le.an) (.c 3 d5 rfl (ar.n ab) .n))
 refine DE.sh 6 (bA 7 2) ⟨25,[(3,.ref 3 0),(16,vl aj af)],[(3,.box (tc aj aL))]⟩ ?_ fun d1=> ?_
 exact DE.al (.c 0 d2 rfl (ar.n ab) (.c 3 d3 rfl (ar.n ab) .n))
 exact DE.tk 1 d1 rfl (.inl rfl) (ar.n ab)
 refine bq ?_
 refine ae ?_
 refine sr ?_
 refine aa.cl ab 1 [6,21] [20] ?_
 obtain⟨x7,hx7,h⟩:=bind_some h
 refine aa.ls (xc r5 (eU x6 _ hx7)) ?_
 refine bO ab 1 [6,23] [20] ?_
 refine aq h (fun h=> ?_) fun h=> ?_
 refine kM ab ⟨25,[(4,.own 4),(5,vi 5)],[(4,oa 85 4 aj ([]:List ay))]⟩ ?_
 refine ah ?_
 obtain rfl:=inj h
 exact cY (aO (f2 (fo dj) fv))
 refine ai ?_
 refine bq ?_
 refine aJ ab [4,5] [20] ?_
 refine ah ?_
 obtain rfl:=inj h
 exact aO (f2 (fo dj) fv)
theorem yh:bg Tryz.prog 148:=az Tryz.func148 (by kernel_rfl) rfl
noncomputable def jF(aS:ag):Option (World×ag):=
 ((aG aS 6).bind fun x1=>(((loop (fun(s4:Int×(List Place)×(List ay)×ag)=>(bif(decide (s4.1>0))then((((fX s4.2.2.2).bind fun x8=>((aG x8.2 3).bind fun x9=>(((bif(decide (x9.1>0))then((aG x9.2 100).bind fun x12=>((aG x12.2 100).bind fun x13=>((bW x13.2).bind fun x14=>some (x8.1.Code,x8.1.Class,(bF (1000+x12.1)),(bF (2000+x13.1)),([(Name.mk x14.1 (ByteArray.mk #[101,110]) 0 (Span.mk (bF (1000+x12.1)) (bF (2000+x13.1))))]:List Name),x14.2))))else some (x8.1.Code,x8.1.Class,x8.1.Years.From,x8.1.Years.To,x8.1.Names,x9.2))).bind fun(j10:ByteArray×Int×Int×Int×(List Name)×ag)=>((gr s4.2.1 (Place.mk j10.1 j10.2.1 (Span.mk j10.2.2.1 j10.2.2.2.1) j10.2.2.2.2.1)).bind fun x15=>(bif(x15.2==0)then some (x15.1,s4.2.2.1,j10.2.2.2.2.2)else some (s4.2.1,s4.2.2.1,j10.2.2.2.2.2))))))).bind fun(j6:(List Place)×(List ay)×ag)=>some (.inl ((bF (s4.1 - 1)),j6.1,j6.2.1,j6.2.2)))else some (.inr (s4.2.1,s4.2.2.1,s4.2.2.2)))) ((bF (2+x1.1)),([]:List Place),([]:List ay),x1.2))).bind fun(j2:(List Place)×(List ay)×ag)=>((aG j2.2.2 8).bind fun x16=>(((loop (fun(s19:Int×(List Place)×(List ay)×ag)=>(bif(decide (s19.1>0))then((((aG s19.2.2.2 (s19.2.1.length:Int)).bind fun x23=>((at' s19.2.1 x23.1).bind fun x24=>((aG x23.2 (s19.2.1.length:Int)).bind fun x25=>((at' s19.2.1 x25.1).bind fun x26=>((((aG x25.2 2).bind fun x27=>(bif(x27.1==0)then some ((decide ((uM x24.Years.From x26.Years.From)<(bM x24.Years.To x26.Years.To))),x27.2)else some (false,x27.2)))).bind fun(j28:Bool×ag)=>(((bif j28.1 then((aG j28.2 (bF ((bM x24.Years.To x26.Years.To)-(uM x24.Years.From x26.Years.From)))).bind fun x32=>some ((bF ((uM x24.Years.From x26.Years.From)+x32.1)),x32.2))else some ((uM x24.Years.From x26.Years.From),j28.2))).bind fun(j30:Int×ag)=>((hJ s19.2.2.1 (ay.mk x24.Code x26.Code (Span.mk j30.1 (bM x24.Years.To x26.Years.To)))).bind fun x33=>(bif(x33.2==0)then some (s19.2.1,x33.1,j30.2)else some (s19.2.1,s19.2.2.1,j30.2)))))))))).bind fun(j21:(List Place)×(List ay)×ag)=>some (.inl ((bF (s19.1 - 1)),j21.1,j21.2.1,j21.2.2)))else some (.inr (s19.2.1,s19.2.2.1,s19.2.2.2)))) (x16.1,j2.1,j2.2.1,x16.2))).bind fun(j17:(List Place)×(List ay)×ag)=>some ((World.mk j17.1 j17.2.1),j17.2.2)))))
theorem qx(aS:ag)(r:World×ag)(h:jF aS=some r):aR Tryz.prog 96 [.o (.box [vl (eI .u8) aS.code,vi aS.at',vi aS.seed])] ⟨[.v (.agg (tc aQ r.1))],[(0,.box (tc ak r.2))],true⟩:=by
 refine au Tryz.func96 rfl [(.cell 2 35)] rfl (fun r=>⟨[.v (.agg (tc aQ r.1))],[(0,.box (tc ak r.2))],true⟩) (r:=r) ?_
 unfold jF at h
 refine aJ ab [0,2] [2,1000000] ?_
 refine sr ?_
 refine aa.cl ab 2 [0,2,15,16] [2,15,16,1000000] ?_
 refine aa.ls (aZ (v:= .agg [.own 15,.own 16]) ab rfl) ?_
 refine bO ab 2 [0,2,3] [2,3,15,16,1000000] ?_
 refine ae ?_
 refine sr ?_
 refine aa.cl ab 1 [0,2,3,18] [2,3,15,16,1000000] ?_
 obtain⟨x1,hx1,h⟩:=bind_some h
 refine aa.a7 (xe bB (aw aS 6 _ hx1)) ?_
 refine bO ab 2 [0,2,3,4] [2,3,15,16,1000000] ?_
 refine aU h (fun j2=>⟨128,[(0,.ref 1000000 0),(2,.ref 2 0),(3,.ref 3 0)],[(2,.box [vl ad ([]:List Place),vl aj ([]:List ay)]),(3,.box [.own 15,.own 16]),(15,oa 91 5 ad j2.1),(16,oa 85 4 aj j2.2.1),(1000000,.box (tc ak j2.2.2))]⟩) (fun v3 h=> ?_) (fun j2 h=> ?_)
 refine ax (a:=v3) ?_
 refine bc (r:=v3) (s:=((bF (2+x1.1)),([]:List Place),([]:List ay),x1.2)) _ (fun s4=>⟨128,[(0,.ref 1000000 0),(2,.ref 2 0),(3,.ref 3 0),(4,vi s4.1)],[(2,.box [vl ad ([]:List Place),vl aj ([]:List ay)]),(3,.box [.own 15,.own 16]),(15,oa 91 5 ad s4.2.1),(16,oa 85 4 aj s4.2.2.1),(1000000,.box (tc ak s4.2.2.2))]⟩) _ (Le.an) h (fun s4 v5 h=> ?_)
 refine ae ?_
 refine aJ ab [0,2,3,4,22] [2,3,15,16,1000000] ?_
 refine aq h (fun h=> ?_) fun h=> ?_
 refine ai ?_
 refine bq ?_
 refine ae ?_
 refine aU h (fun j6=>⟨128,[(0,.ref 1000000 0),(2,.ref 2 0),(3,.ref 3 0),(4,vi s4.1)],[(2,.box [vl ad ([]:List Place),vl aj ([]:List ay)]),(3,.box [.own 15,.own 16]),(15,oa 91 5 ad j6.1),(16,oa 85 4 aj j6.2.1),(1000000,.box (tc ak j6.2.2))]⟩) (fun v7 h=> ?_) (fun j6 h=> ?_)
 refine ax (a:=v7) ?_
 refine sr ?_
 refine aa.cl ab 1 [0,2,3,4,25] [2,3,15,16,1000000] ?_
 obtain⟨x8,hx8,h⟩:=bind_some h
 refine aa.a7 (xe uo (jU s4.2.2.2 _ hx8)) ?_
 refine bO ab 2 [0,2,3,4,5] [2,3,5,15,16,26,1000000] ?_
 refine ae ?_
 refine sr ?_
 refine aa.cl ab 1 [0,2,3,4,5,27] [2,3,5,15,16,26,1000000] ?_
 obtain⟨x9,hx9,h⟩:=bind_some h
 refine aa.a7 (xe bB (aw x8.2 3 _ hx9)) ?_
 refine bO ab 1 [0,2,3,4,5,29] [2,3,5,15,16,26,1000000] ?_
 refine aU h (fun j10=>⟨128,[(0,.ref 1000000 0),(2,.ref 2 0),(3,.ref 3 0),(4,vi s4.1),(5,.ref 5 0)],[(2,.box [vl ad ([]:List Place),vl aj ([]:List ay)]),(3,.box [.own 15,.own 16]),(5,.box [vs j10.1,vi j10.2.1,vi j10.2.2.1,vi j10.2.2.2.1,.own 26]),(15,oa 91 5 ad s4.2.1),(16,oa 85 4 aj s4.2.2.1),(26,oa 169 5 ao j10.2.2.2.2.1),(1000000,.box (tc ak j10.2.2.2.2.2))]⟩) (fun v11 h=> ?_) (fun j10 h=> ?_)
 refine aq h (fun h=> ?_) fun h=> ?_
 refine sr ?_
 refine aa.cl ab 1 [0,2,3,4,5,30] [2,3,5,15,16,26,1000000] ?_
 obtain⟨x12,hx12,h⟩:=bind_some h
 refine aa.a7 (xe bB (aw x9.2 100 _ hx12)) ?_
 refine aa.cl ab 2 [0,2,3,4,5,32,33] [2,3,5,15,16,26,1000000] ?_
 obtain⟨x13,hx13,h⟩:=bind_some h
 refine aa.a7 (xe bB (aw x12.2 100 _ hx13)) ?_
 refine aa.cl ab 1 [0,2,3,4,5,32,35] [2,3,5,15,16,26,1000000] ?_
 refine aa.ls (aZ (v:= .agg [vi (bF (1000+x12.1)),vi (bF (2000+x13.1))]) ab rfl) ?_
 refine bO ab 2 [0,2,3,4,5] [2,3,5,15,16,26,1000000] ?_
 refine iQ [1000000] mixed ?_
 refine aH.cl ab false 1 [0,2,3,4,5,38] [2,3,5,15,16,26,1000000] ?_
 obtain⟨x14,hx14,h⟩:=bind_some h
 refine aH.write [] (xw rp (ej x13.2 _ hx14)) ?_
 refine aH.cl ab false 2 [0,2,3,4,5,39,41] [2,3,5,15,16,26,1000000] ?_
 refine aH.step (aZ (v:= .agg [vs x14.1,vs (ByteArray.mk #[101,110]),vi 0,vi (bF (1000+x12.1)),vi (bF (2000+x13.1))]) ab rfl) ?_
 refine aH.cl ab false 2 [0,2,3,4,5,43,44] [2,3,5,15,16,26,43,1000000] ?_
 refine aH.seq (by kernel_rfl) (by kernel_rfl) ?_
 refine aa.cl ab 1 [0,2,3,4,5] [2,3,5,15,16,43,1000000] ?_
 refine aa.nil ?_
 obtain rfl:=inj h
 exact cI (Le.rr [2,3,5,15,16,43,1000000] [(43,26)])
 refine ai ?_
 obtain rfl:=inj h
 exact cI (Le.an)
 refine sr ?_
 refine aa.ck ab 3 ⟨128,[(0,.ref 1000000 0),(2,.ref 2 0),(3,.ref 3 0),(4,vi s4.1),(47,.own 15),(48,.agg [vs j10.1,vi j10.2.1,vi j10.2.2.1,vi j10.2.2.2.1,.own 26])],[(2,.box [vl ad ([]:List Place),vl aj ([]:List ay)]),(3,.box [.own 15,.own 16]),(15,oa 91 5 ad s4.2.1),(16,oa 85 4 aj s4.2.2.1),(26,oa 169 5 ao j10.2.2.2.2.1),(1000000,.box (tc ak j10.2.2.2.2.2))]⟩ ?_
 obtain⟨x15,hx15,h⟩:=bind_some h
 refine aa.ls (xc yg (lH s4.2.1 (Place.mk j10.1 j10.2.1 (Span.mk j10.2.2.1 j10.2.2.2.1) j10.2.2.2.2.1) _ hx15)) ?_
 refine bO ab 5 [0,2,3,4,6,7] [2,3,15,16,49,1000000] ?_
 refine aJ ab [0,2,3,4,6,53] [2,3,15,16,49,1000000] ?_
 refine aq h (fun h=> ?_) fun h=> ?_
 refine aD ?_
 refine aa.cl ab 3 [0,2,3,4] [2,3,16,49,1000000] ?_
 refine aa.nil ?_
 obtain rfl:=inj h
 exact bt (cI ((Le.Fo (d:=49) (e:=91) (m:=5) (n:=x15.1.length) (ss:=[.flat,.flat,.flat,.flat,(.sl 169 5 [.flat,.flat,.flat,.flat,.flat])]) (es:=x15.1.map ad) (by kernel_rfl) (by kernel_rfl)).trans (Le.rr [2,3,16,49,1000000] [(49,15)])))
 refine ai ?_
 obtain rfl:=inj h
 exact bt (cI (Le.an))
 refine aD ?_
 refine aa.cl ab 3 [0,2,3,4] [2,3,15,16,1000000] ?_
 refine aa.nil ?_
 obtain rfl:=inj h
 exact cn (Le.an)
 refine a6 ?_
 obtain rfl:=inj h
 exact cE (cG (cF (cI (Le.an))))
 refine ae ?_
 refine sr ?_
 refine aa.cl ab 1 [0,2,3,56] [2,3,15,16,1000000] ?_
 obtain⟨x16,hx16,h⟩:=bind_some h
 refine aa.a7 (xe bB (aw j2.2.2 8 _ hx16)) ?_
 refine bO ab 1 [0,2,3,8] [2,3,15,16,1000000] ?_
 refine aU h (fun j17=>⟨128,[(2,.ref 2 0),(3,.ref 3 0)],[(2,.box [vl ad ([]:List Place),vl aj ([]:List ay)]),(3,.box [.own 15,.own 16]),(15,oa 91 5 ad j17.1),(16,oa 85 4 aj j17.2.1),(1000000,.box (tc ak j17.2.2))]⟩) (fun v18 h=> ?_) (fun j17 h=> ?_)
 refine ax (a:=v18) ?_
 refine bc (r:=v18) (s:=(x16.1,j2.1,j2.2.1,x16.2)) _ (fun s19=>⟨128,[(0,.ref 1000000 0),(2,.ref 2 0),(3,.ref 3 0),(8,vi s19.1)],[(2,.box [vl ad ([]:List Place),vl aj ([]:List ay)]),(3,.box [.own 15,.own 16]),(15,oa 91 5 ad s19.2.1),(16,oa 85 4 aj s19.2.2.1),(1000000,.box (tc ak s19.2.2.2))]⟩) _ (Le.an) h (fun s19 v20 h=> ?_)
 refine ae ?_
 refine aJ ab [0,2,3,8,59] [2,3,15,16,1000000] ?_
 refine aq h (fun h=> ?_) fun h=> ?_
 refine ai ?_
 refine bq ?_
 refine ae ?_
 refine aU h (fun j21=>⟨128,[(0,.ref 1000000 0),(2,.ref 2 0),(3,.ref 3 0),(8,vi s19.1)],[(2,.box [vl ad ([]:List Place),vl aj ([]:List ay)]),(3,.box [.own 15,.own 16]),(15,oa 91 5 ad j21.1),(16,oa 85 4 aj j21.2.1),(1000000,.box (tc ak j21.2.2))]⟩) (fun v22 h=> ?_) (fun j21 h=> ?_)
 refine ax (a:=v22) ?_
 refine ae ?_
 refine iQ [1000000] mixed ?_
 refine aH.cl ab false 6 [0,2,3,8,63,64,67] [2,3,15,16,1000000] ?_
 obtain⟨x23,hx23,h⟩:=bind_some h
 refine aH.write [] (xw bB (aw s19.2.2.2 (s19.2.1.length:Int) _ hx23)) ?_
 obtain⟨x24,hx24,h⟩:=bind_some h
 refine aH.step (bw (d:=15) (L:=s19.2.1) (f:=ad) (ti:=bR) (tj:=bG) (e:=91) (e':=91) (m:=5) (k:= .i64) ab rfl hx24) ?_
 refine aH.step (bN (d:=15) (m:=5) (j:=0) (L:=s19.2.1) (f:=ad) (ti:=bG) (e:=91) (v:= .agg (tc ad x24)) ab rfl hx24) ?_
 refine aH.cl ab false 6 [0,2,3,8,70,72,73,76] [2,3,15,16,1000000] ?_
 obtain⟨x25,hx25,h⟩:=bind_some h
 refine aH.write [] (xw bB (aw x23.2 (s19.2.1.length:Int) _ hx25)) ?_
 obtain⟨x26,hx26,h⟩:=bind_some h
 refine aH.step (bw (d:=15) (L:=s19.2.1) (f:=ad) (ti:=bR) (tj:=bG) (e:=91) (e':=91) (m:=5) (k:= .i64) ab rfl hx26) ?_
 refine aH.step (bN (d:=15) (m:=5) (j:=0) (L:=s19.2.1) (f:=ad) (ti:=bG) (e:=91) (v:= .agg (tc ad x26)) ab rfl hx26) ?_
 refine aH.cl ab false 2 [0,2,3,8,9,10,70,79] [2,3,9,10,15,16,1000000] ?_
 refine aH.vh [9] (pT (d:=9) (k:=0) (ti:=bG) (cs:=[vs (ByteArray.mk #[]),vi 0,vi 0,vi 0,vl ao ([]:List Name)]) (vs:=[vs x24.Code,vi x24.Class,vi x24.Years.From,vi x24.Years.To,vl ao x24.Names]) (v:= .agg (tc ad x24)) ab rfl rfl) ?_
 refine aH.seq (by kernel_rfl) (by kernel_rfl) ?_
 refine bO ab 1 [0,2,3,8,9,10] [2,3,9,10,15,16,1000000] ?_
 refine ae ?_
 refine cV mixed ?_
 refine aH.cl ab false 16 [0,2,3,8,9,10,11,12] [2,3,9,10,15,16,1000000] ?_
 refine aH.nx ?_
 refine ae ?_
 refine ae ?_
 refine bn h (fun j28=>⟨128,[(0,.ref 1000000 0),(2,.ref 2 0),(3,.ref 3 0),(8,vi s19.1),(9,.ref 9 0),(10,.ref 10 0),(11,vi (uM x24.Years.From x26.Years.From)),(12,vi (bM x24.Years.To x26.Years.To)),(101,vb j28.1)],[(2,.box [vl ad ([]:List Place),vl aj ([]:List ay)]),(3,.box [.own 15,.own 16]),(9,.box (tc ad x24)),(10,.box (tc ad x26)),(15,oa 91 5 ad s19.2.1),(16,oa 85 4 aj s19.2.2.1),(1000000,.box (tc ak j28.2))]⟩) (fun v29 h=> ?_) (fun j28 h=> ?_)
 refine aa.cl ab 1 [0,2,3,8,9,10,11,12,94] [2,3,9,10,15,16,1000000] ?_
 obtain⟨x27,hx27,h⟩:=bind_some h
 refine aa.a7 (xe bB (aw x25.2 2 _ hx27)) ?_
 refine aa.cl ab 2 [0,2,3,8,9,10,11,12,97] [2,3,9,10,15,16,1000000] ?_
 refine aa.cu [(97,fun b=>b)] h (fun h=> ?_) fun h=> ?_
 refine aa.cl ab 4 [0,2,3,8,9,10,11,12,101] [2,3,9,10,15,16,1000000] ?_
 refine aa.nil ?_
 obtain rfl:=inj h
 exact Le.an
 refine aa.cl ab 4 [0,2,3,8,9,10,11,12,101] [2,3,9,10,15,16,1000000] ?_
 refine aa.nil ?_
 obtain rfl:=inj h
 exact Le.an
 refine aU h (fun j30=>⟨128,[(0,.ref 1000000 0),(2,.ref 2 0),(3,.ref 3 0),(8,vi s19.1),(9,.ref 9 0),(10,.ref 10 0),(11,vi j30.1),(12,vi (bM x24.Years.To x26.Years.To))],[(2,.box [vl ad ([]:List Place),vl aj ([]:List ay)]),(3,.box [.own 15,.own 16]),(9,.box (tc ad x24)),(10,.box (tc ad x26)),(15,oa 91 5 ad s19.2.1),(16,oa 85 4 aj s19.2.2.1),(1000000,.box (tc ak j30.2))]⟩) (fun v31 h=> ?_) (fun j30 h=> ?_)
 refine aq h (fun h=> ?_) fun h=> ?_
 refine aD ?_
 refine aa.cl ab 5 [0,2,3,8,9,10,12,102,103,106] [2,3,9,10,15,16,1000000] ?_
 obtain⟨x32,hx32,h⟩:=bind_some h
 refine aa.a7 (xe bB (aw j28.2 (bF ((bM x24.Years.To x26.Years.To)-(uM x24.Years.From x26.Years.From))) _ hx32)) ?_
 refine aa.cl ab 2 [0,2,3,8,9,10,11,12] [2,3,9,10,15,16,1000000] ?_
 refine aa.nil ?_
 obtain rfl:=inj h
 exact cI (Le.an)
 refine ai ?_
 obtain rfl:=inj h
 exact cI (Le.an)
 refine sr ?_
 refine aa.cl ab 8 [0,2,3,8,111,113,115,116,117] [2,3,15,16,1000000] ?_
 refine aa.ls (aZ (v:= .agg [vi j30.1,vi (bM x24.Years.To x26.Years.To)]) ab rfl) ?_
 refine aa.ls (aZ (v:= .agg [vs x24.Code,vs x26.Code,vi j30.1,vi (bM x24.Years.To x26.Years.To)]) ab rfl) ?_
 obtain⟨x33,hx33,h⟩:=bind_some h
 refine aa.ls (xc yh (ma s19.2.2.1 (ay.mk x24.Code x26.Code (Span.mk j30.1 (bM x24.Years.To x26.Years.To))) _ hx33)) ?_
 refine bO ab 5 [0,2,3,8,13,14] [2,3,15,16,120,1000000] ?_
 refine aJ ab [0,2,3,8,13,124] [2,3,15,16,120,1000000] ?_
 refine aq h (fun h=> ?_) fun h=> ?_
 refine aD ?_
 refine aa.cl ab 3 [0,2,3,8] [2,3,15,120,1000000] ?_
 refine aa.nil ?_
 obtain rfl:=inj h
 exact bt (cI (Le.rr [2,3,15,120,1000000] [(120,16)]))
 refine ai ?_
 obtain rfl:=inj h
 exact bt (cI (Le.an))
 refine aD ?_
 refine aa.cl ab 3 [0,2,3,8] [2,3,15,16,1000000] ?_
 refine aa.nil ?_
 obtain rfl:=inj h
 exact cn (Le.an)
 refine a6 ?_
 obtain rfl:=inj h
 exact cE (cG (cF (cI (Le.an))))
 refine aJ ab [2] [2,15,16,1000000] ?_
 refine cH (Le.l3 (d:=15) (e:=91) (m:=5) (n:=j17.1.length) (es:=j17.1.map ad) (by kernel_rfl) (by kernel_rfl)) ?_
 refine cH (Le.l3 (d:=16) (e:=85) (m:=4) (n:=j17.2.1.length) (es:=j17.2.1.map aj) (by kernel_rfl) (by kernel_rfl)) ?_
 refine ah ?_
 obtain rfl:=inj h
 exact aO (di (f1 (kq rfl (cA ab (d:=2) (cs:=[vl ad j17.1,vl aj j17.2.1]) (ti:=iE) (by kernel_rfl) (by kernel_rfl) (by kernel_rfl) (by kernel_rfl)))) (y:= .box (tc ak j17.2.2)) (by kernel_rfl) rfl (by kernel_rfl) (by kernel_rfl))
theorem Ew:bg Tryz.prog 96:=az Tryz.func96 (by kernel_rfl) rfl
noncomputable def dH(aS:ag):Option (ByteArray×ag):=
 ((aG aS 30).bind fun x1=>(bif(x1.1==0)then((aG x1.2 6).bind fun x2=>((at' ([(ByteArray.mk #[]),(ByteArray.mk #[70,111,114,100]),(ByteArray.mk #[97,49]),(ByteArray.mk #[97,98,99,100,101,102,103,104,105,106,107,108,109,110,111,112]),(ByteArray.mk #[97,98,99,100,101,102,103,104,105,106,107,108,109,110,111,112,113]),(ByteArray.mk #[97,32,98])]:List ByteArray) x2.1).bind fun x3=>some (x3,x2.2)))else((eV x1.2).bind fun x4=>some (x4.1,x4.2))))
theorem kh(aS:ag)(r:ByteArray×ag)(h:dH aS=some r):aR Tryz.prog 190 [.o (.box [vl (eI .u8) aS.code,vi aS.at',vi aS.seed])] ⟨[.v (vs r.1)],[(0,.box (tc ak r.2))],false⟩:=by
 refine au Tryz.func190 rfl [(.tmp 2)] rfl (fun r=>⟨[.v (vs r.1)],[(0,.box (tc ak r.2))],false⟩) (r:=r) ?_
 unfold dH at h
 refine aJ ab [0] [1000000] ?_
 refine ae ?_
 refine sr ?_
 refine aa.cl ab 1 [0,3] [1000000] ?_
 obtain⟨x1,hx1,h⟩:=bind_some h
 refine aa.a7 (xe bB (aw aS 30 _ hx1)) ?_
 refine bO ab 1 [0,5] [1000000] ?_
 refine aq h (fun h=> ?_) fun h=> ?_
 refine sr ?_
 refine aa.cl ab 2 [6,7] [6,1000000] ?_
 obtain⟨x2,hx2,h⟩:=bind_some h
 refine aa.a7 (xe bB (aw x1.2 6 _ hx2)) ?_
 obtain⟨x3,hx3,h⟩:=bind_some h
 refine aa.ls (bw (d:=6) (L:=([(ByteArray.mk #[]),(ByteArray.mk #[70,111,114,100]),(ByteArray.mk #[97,49]),(ByteArray.mk #[97,98,99,100,101,102,103,104,105,106,107,108,109,110,111,112]),(ByteArray.mk #[97,98,99,100,101,102,103,104,105,106,107,108,109,110,111,112,113]),(ByteArray.mk #[97,32,98])]:List ByteArray)) (f:=eS) (ti:=bU) (tj:=et) (e:=9) (e':=9) (m:=1) (k:= .i64) ab rfl hx3) ?_
 refine aa.ls (bN (d:=6) (m:=1) (j:=0) (L:=([(ByteArray.mk #[]),(ByteArray.mk #[70,111,114,100]),(ByteArray.mk #[97,49]),(ByteArray.mk #[97,98,99,100,101,102,103,104,105,106,107,108,109,110,111,112]),(ByteArray.mk #[97,98,99,100,101,102,103,104,105,106,107,108,109,110,111,112,113]),(ByteArray.mk #[97,32,98])]:List ByteArray)) (f:=eS) (ti:=et) (e:=9) (v:=vs x3) ab rfl hx3) ?_
 refine bO ab 1 [2] [1000000] ?_
 refine ah ?_
 obtain rfl:=inj h
 exact cY (aO (di (f1 fv) (y:= .box (tc ak x2.2)) (by kernel_rfl) rfl (by kernel_rfl) (by kernel_rfl)))
 refine ai ?_
 refine bq ?_
 refine sr ?_
 refine aa.cl ab 1 [11] [1000000] ?_
 obtain⟨x4,hx4,h⟩:=bind_some h
 refine aa.a7 (xe yj (mf x1.2 _ hx4)) ?_
 refine bO ab 1 [2] [1000000] ?_
 refine ah ?_
 obtain rfl:=inj h
 exact aO (di (f1 fv) (y:= .box (tc ak x4.2)) (by kernel_rfl) rfl (by kernel_rfl) (by kernel_rfl))
theorem yr:bg Tryz.prog 190:=az Tryz.func190 (by kernel_rfl) rfl
noncomputable def jw(aS:ag):Option ((List Name)×ag):=
 ((aG aS 6).bind fun x1=>(((loop (fun(s4:Int×(List Name)×ag)=>(bif(decide (s4.1>0))then((((c4 ([]:List Name) s4.2.1).bind fun x8=>((fW s4.2.2).bind fun x9=>((c4 x8 ([x9.1]:List Name)).bind fun x10=>((ep x10).bind fun x11=>(bif x11 then some (x10,x9.2)else some (s4.2.1,x9.2))))))).bind fun(j6:(List Name)×ag)=>some (.inl ((bF (s4.1 - 1)),j6.1,j6.2)))else some (.inr (s4.2.1,s4.2.2)))) (x1.1,([]:List Name),x1.2))).bind fun(j2:(List Name)×ag)=>((aG j2.2 24).bind fun x12=>(((bif(x12.1==0)then((fW x12.2).bind fun x15=>((c4 j2.1 ([x15.1]:List Name)).bind fun x16=>some (x16,x15.2)))else(bif(x12.1==1)then(loop (fun(s17:(List Name)×ag)=>((aG s17.2 2).bind fun x19=>(bif(decide ((s17.1.length:Int)<(bF (12+x19.1))))then((c4 s17.1 ([(Name.mk (ByteArray.mk #[111,108,100,32,97,115,104]) (ByteArray.mk #[108,97,116]) 2 (Span.mk 1 9))]:List Name)).bind fun x20=>some (.inl (x20,x19.2)))else some (.inr (s17.1,x19.2))))) (j2.1,x12.2))else some (j2.1,x12.2)))).bind fun(j13:(List Name)×ag)=>some (j13.1,j13.2)))))
theorem qm(aS:ag)(r:(List Name)×ag)(h:jw aS=some r):aR Tryz.prog 192 [.o (.box [vl (eI .u8) aS.code,vi aS.at',vi aS.seed])] ⟨[.own 169 5 r.1.length (r.1.map ao)],[(0,.box (tc ak r.2))],false⟩:=by
 refine au Tryz.func192 rfl [(.tmp 2)] rfl (fun r=>⟨[.own 169 5 r.1.length (r.1.map ao)],[(0,.box (tc ak r.2))],false⟩) (r:=r) ?_
 unfold jw at h
 refine aJ ab [0] [1000000] ?_
 refine aJ ab [0,3] [6,1000000] ?_
 refine ae ?_
 refine sr ?_
 refine aa.cl ab 1 [0,3,7] [6,1000000] ?_
 obtain⟨x1,hx1,h⟩:=bind_some h
 refine aa.a7 (xe bB (aw aS 6 _ hx1)) ?_
 refine bO ab 1 [0,3,4] [6,1000000] ?_
 refine aU h (fun j2=>⟨46,[(0,.ref 1000000 0),(3,.own 3)],[(3,oa 169 5 ao j2.1),(1000000,.box (tc ak j2.2))]⟩) (fun v3 h=> ?_) (fun j2 h=> ?_)
 refine ax (a:=v3) ?_
 refine bc (r:=v3) (s:=(x1.1,([]:List Name),x1.2)) _ (fun s4=>⟨46,[(0,.ref 1000000 0),(3,.own 3),(4,vi s4.1)],[(3,oa 169 5 ao s4.2.1),(1000000,.box (tc ak s4.2.2))]⟩) _ (Le.rr [6,1000000] [(6,3)]) h (fun s4 v5 h=> ?_)
 refine ae ?_
 refine aJ ab [0,3,4,10] [3,1000000] ?_
 refine aq h (fun h=> ?_) fun h=> ?_
 refine ai ?_
 refine bq ?_
 refine ae ?_
 refine aU h (fun j6=>⟨46,[(0,.ref 1000000 0),(3,.own 3),(4,vi s4.1)],[(3,oa 169 5 ao j6.1),(1000000,.box (tc ak j6.2))]⟩) (fun v7 h=> ?_) (fun j6 h=> ?_)
 refine ax (a:=v7) ?_
 refine sr ?_
 refine aa.cl ab 2 [0,3,4,13,14] [3,13,1000000] ?_
 obtain⟨x8,hx8,h⟩:=bind_some h
 refine aa.a7 (bh (f:=ao) (t:=89) (ti:=eb) (tj:=dg) (zs:=[.string (ByteArray.mk #[]),.string (ByteArray.mk #[]),.int .i64 0,.int .i64 0,.int .i64 0]) (e:=169) (m:=5) (d:=13) (xv:= .own 3) hx8 ab rfl rfl rfl rfl (bT (e:=169))) ?_
 refine aa.cl ab 1 [0,3,4,15,16] [3,15,1000000] ?_
 obtain⟨x9,hx9,h⟩:=bind_some h
 refine aa.a7 (xe uw (jT s4.2.2 _ hx9)) ?_
 refine aa.cl ab 1 [0,3,4,15,18] [3,15,18,1000000] ?_
 obtain⟨x10,hx10,h⟩:=bind_some h
 refine aa.a7 (bh (f:=ao) (t:=89) (ti:=eb) (tj:=dg) (zs:=[.string (ByteArray.mk #[]),.string (ByteArray.mk #[]),.int .i64 0,.int .i64 0,.int .i64 0]) (e:=169) (m:=5) (d:=15) (xv:= .own 18) hx10 ab rfl rfl rfl rfl (bT (e:=169))) ?_
 refine bO ab 1 [0,3,4,5] [3,19,1000000] ?_
 refine sr ?_
 refine aa.cl ab 1 [0,3,4,5,20] [3,19,1000000] ?_
 obtain⟨x11,hx11,h⟩:=bind_some h
 refine aa.ls (xc ru (gC x10 _ hx11)) ?_
 refine aa.nx ?_
 refine aq h (fun h=> ?_) fun h=> ?_
 refine aD ?_
 refine aa.cl ab 2 [0,3,4] [19,1000000] ?_
 refine aa.nil ?_
 obtain rfl:=inj h
 exact bt (cI (Le.rr [19,1000000] [(19,3)]))
 refine ai ?_
 obtain rfl:=inj h
 exact bt (cI (Le.an))
 refine aD ?_
 refine aa.cl ab 3 [0,3,4] [3,1000000] ?_
 refine aa.nil ?_
 obtain rfl:=inj h
 exact cn (Le.an)
 refine a6 ?_
 obtain rfl:=inj h
 exact cE (cG (cF (cI (Le.an))))
 refine ae ?_
 refine sr ?_
 refine aa.cl ab 1 [0,3,23] [3,1000000] ?_
 obtain⟨x12,hx12,h⟩:=bind_some h
 refine aa.a7 (xe bB (aw j2.2 24 _ hx12)) ?_
 refine aa.nx ?_
 refine aU h (fun j13=>⟨46,[(3,.own 3)],[(3,oa 169 5 ao j13.1),(1000000,.box (tc ak j13.2))]⟩) (fun v14 h=> ?_) (fun j13 h=> ?_)
 refine ax (a:=v14) ?_
 refine aJ ab [0,3,24,25] [3,1000000] ?_
 refine aq h (fun h=> ?_) fun h=> ?_
 refine aD ?_
 refine aa.cl ab 2 [27,28] [3,1000000] ?_
 obtain⟨x15,hx15,h⟩:=bind_some h
 refine aa.a7 (xe uw (jT x12.2 _ hx15)) ?_
 refine aa.cl ab 1 [27,30] [3,30,1000000] ?_
 obtain⟨x16,hx16,h⟩:=bind_some h
 refine aa.a7 (bh (f:=ao) (t:=89) (ti:=eb) (tj:=dg) (zs:=[.string (ByteArray.mk #[]),.string (ByteArray.mk #[]),.int .i64 0,.int .i64 0,.int .i64 0]) (e:=169) (m:=5) (d:=3) (xv:= .own 30) hx16 ab rfl rfl rfl rfl (bT (e:=169))) ?_
 refine aa.cl ab 1 [3] [31,1000000] ?_
 refine aa.nil ?_
 obtain rfl:=inj h
 exact bt (cI (Le.rr [31,1000000] [(31,3)]))
 refine aJ ab [0,3,32] [3,1000000] ?_
 refine aq h (fun h=> ?_) fun h=> ?_
 refine ax (a:=v14) ?_
 refine bc (r:=v14) (s:=(j2.1,x12.2)) _ (fun s17=>⟨46,[(0,.ref 1000000 0),(3,.own 3)],[(3,oa 169 5 ao s17.1),(1000000,.box (tc ak s17.2))]⟩) _ (Le.an) h (fun s17 v18 h=> ?_)
 refine ae ?_
 refine sr ?_
 refine aa.cl ab 3 [0,3,35,36] [3,1000000] ?_
 obtain⟨x19,hx19,h⟩:=bind_some h
 refine aa.a7 (xe bB (aw s17.2 2 _ hx19)) ?_
 refine bO ab 2 [0,3,39] [3,1000000] ?_
 refine aq h (fun h=> ?_) fun h=> ?_
 refine ai ?_
 refine bq ?_
 refine ax (a:=v18) ?_
 refine aD ?_
 refine aa.cl ab 1 [0,40] [3,1000000] ?_
 refine aa.ls (aZ (v:= .agg [vi 1,vi 9]) ab rfl) ?_
 refine aa.ls (aZ (v:= .agg [vs (ByteArray.mk #[111,108,100,32,97,115,104]),vs (ByteArray.mk #[108,97,116]),vi 2,vi 1,vi 9]) ab rfl) ?_
 refine aa.cl ab 1 [0,40,43] [3,43,1000000] ?_
 obtain⟨x20,hx20,h⟩:=bind_some h
 refine aa.a7 (bh (f:=ao) (t:=89) (ti:=eb) (tj:=dg) (zs:=[.string (ByteArray.mk #[]),.string (ByteArray.mk #[]),.int .i64 0,.int .i64 0,.int .i64 0]) (e:=169) (m:=5) (d:=3) (xv:= .own 43) hx20 ab rfl rfl rfl rfl (bT (e:=169))) ?_
 refine aa.cl ab 1 [0,3] [44,1000000] ?_
 refine aa.nil ?_
 obtain rfl:=inj h
 exact bt (cn (Le.rr [44,1000000] [(44,3)]))
 refine a6 ?_
 obtain rfl:=inj h
 exact cE (cG (cF (bt (cI (Le.an)))))
 refine ai ?_
 obtain rfl:=inj h
 exact bt (cI (Le.an))
 refine aJ ab [2] [3,1000000] ?_
 refine ah ?_
 obtain rfl:=inj h
 exact aO (di (f1 (fo bQ)) (y:= .box (tc ak j13.2)) (by kernel_rfl) rfl (by kernel_rfl) (by kernel_rfl))
theorem CR:bg Tryz.prog 192:=az Tryz.func192 (by kernel_rfl) rfl
noncomputable def jy(aS:ag):Option (Place×ag):=
 ((fX aS).bind fun x1=>((aG x1.2 24).bind fun x2=>(((bif(x2.1==0)then((dH x2.2).bind fun x5=>some (x5.1,x1.1.Class,x1.1.Years.From,x1.1.Years.To,x1.1.Names,x5.2))else(bif(x2.1==1)then((cT x2.2 ([(-1),19,20]:List Int)).bind fun x6=>some (x1.1.Code,x6.1,x1.1.Years.From,x1.1.Years.To,x1.1.Names,x6.2))else(bif(x2.1==2)then((fV x2.2).bind fun x7=>some (x1.1.Code,x1.1.Class,x7.1.From,x7.1.To,x1.1.Names,x7.2))else(bif(x2.1==3)then((jw x2.2).bind fun x8=>some (x1.1.Code,x1.1.Class,x1.1.Years.From,x1.1.Years.To,x8.1,x8.2))else some (x1.1.Code,x1.1.Class,x1.1.Years.From,x1.1.Years.To,x1.1.Names,x2.2)))))).bind fun(j3:ByteArray×Int×Int×Int×(List Name)×ag)=>some ((Place.mk j3.1 j3.2.1 (Span.mk j3.2.2.1 j3.2.2.2.1) j3.2.2.2.2.1),j3.2.2.2.2.2))))
theorem qp(aS:ag)(r:Place×ag)(h:jy aS=some r):aR Tryz.prog 149 [.o (.box [vl (eI .u8) aS.code,vi aS.at',vi aS.seed])] ⟨[.part [vs r.1.Code,vi r.1.Class,vi r.1.Years.From,vi r.1.Years.To] [] (oa 169 5 ao r.1.Names)],[(0,.box (tc ak r.2))],false⟩:=by
 refine au Tryz.func149 rfl [(.cell 2 91)] rfl (fun r=>⟨[.part [vs r.1.Code,vi r.1.Class,vi r.1.Years.From,vi r.1.Years.To] [] (oa 169 5 ao r.1.Names)],[(0,.box (tc ak r.2))],false⟩) (r:=r) ?_
 unfold jy at h
 refine aJ ab [0,2] [2,1000000] ?_
 refine sr ?_
 refine aa.cl ab 1 [0,2,4] [2,1000000] ?_
 obtain⟨x1,hx1,h⟩:=bind_some h
 refine aa.a7 (xe uo (jU aS _ hx1)) ?_
 refine bO ab 2 [0,2,3] [2,3,5,1000000] ?_
 refine ae ?_
 refine sr ?_
 refine aa.cl ab 1 [0,2,3,6] [2,3,5,1000000] ?_
 obtain⟨x2,hx2,h⟩:=bind_some h
 refine aa.a7 (xe bB (aw x1.2 24 _ hx2)) ?_
 refine aa.nx ?_
 refine aU h (fun j3=>⟨30,[(2,.ref 2 0),(3,.ref 3 0)],[(2,.box [vs (ByteArray.mk #[]),vi 0,vi 0,vi 0,vl ao ([]:List Name)]),(3,.box [vs j3.1,vi j3.2.1,vi j3.2.2.1,vi j3.2.2.2.1,.own 5]),(5,oa 169 5 ao j3.2.2.2.2.1),(1000000,.box (tc ak j3.2.2.2.2.2))]⟩) (fun v4 h=> ?_) (fun j3 h=> ?_)
 refine ax (a:=v4) ?_
 refine aJ ab [0,2,3,7,8] [2,3,5,1000000] ?_
 refine aq h (fun h=> ?_) fun h=> ?_
 refine aD ?_
 refine aa.cl ab 1 [2,3,10] [2,3,5,1000000] ?_
 obtain⟨x5,hx5,h⟩:=bind_some h
 refine aa.a7 (xe yr (kh x2.2 _ hx5)) ?_
 refine aa.cl ab 2 [2,3] [2,3,5,1000000] ?_
 refine aa.nil ?_
 obtain rfl:=inj h
 exact bt (cI (Le.an))
 refine aJ ab [0,2,3,7,13] [2,3,5,1000000] ?_
 refine aq h (fun h=> ?_) fun h=> ?_
 refine aD ?_
 refine aa.cl ab 2 [2,3,15,16] [2,3,5,16,1000000] ?_
 refine aa.le (Le.l3 (d:=16) (e:=2) (m:=1) (n:=([(-1),19,20]:List Int).length) (es:=([(-1),19,20]:List Int).map (eI .i64)) (by kernel_rfl) (by kernel_rfl)) ?_
 obtain⟨x6,hx6,h⟩:=bind_some h
 refine aa.a7 (xe lu (df x2.2 ([(-1),19,20]:List Int) _ hx6)) ?_
 refine aa.cl ab 2 [2,3] [2,3,5,1000000] ?_
 refine aa.nil ?_
 obtain rfl:=inj h
 exact bt (cI (Le.an))
 refine aJ ab [0,2,3,7,19] [2,3,5,1000000] ?_
 refine aq h (fun h=> ?_) fun h=> ?_
 refine aD ?_
 refine aa.cl ab 1 [2,3,21] [2,3,5,1000000] ?_
 obtain⟨x7,hx7,h⟩:=bind_some h
 refine aa.a7 (xe ux (jS x2.2 _ hx7)) ?_
 refine aa.ck ab 2 ⟨30,[(2,.ref 2 0),(3,.ref 3 0)],[(2,.box [vs (ByteArray.mk #[]),vi 0,vi 0,vi 0,vl ao ([]:List Name)]),(3,.box [vs x1.1.Code,vi x1.1.Class,vi x7.1.From,vi x7.1.To,.own 5]),(5,oa 169 5 ao x1.1.Names),(1000000,.box (tc ak x7.2))]⟩ ?_
 refine aa.nil ?_
 obtain rfl:=inj h
 exact bt (cI (Le.an))
 refine aJ ab [0,2,3,24] [2,3,5,1000000] ?_
 refine aq h (fun h=> ?_) fun h=> ?_
 refine aD ?_
 refine aa.cl ab 1 [2,3,26] [2,3,5,1000000] ?_
 obtain⟨x8,hx8,h⟩:=bind_some h
 refine aa.a7 (xe CR (qm x2.2 _ hx8)) ?_
 refine aa.cl ab 2 [2,3] [2,3,27,1000000] ?_
 refine aa.nil ?_
 obtain rfl:=inj h
 exact bt (cI (Le.rr [2,3,27,1000000] [(27,5)]))
 refine ai ?_
 obtain rfl:=inj h
 exact bt (cI (Le.an))
 refine aJ ab [2] [2,5,1000000] ?_
 refine ah ?_
 obtain rfl:=inj h
 exact aO (di (f1 (AP (d:=5) [vs j3.1,vi j3.2.1,vi j3.2.2.1,vi j3.2.2.2.1] [] (cA ab (d:=2) (cs:=[vs j3.1,vi j3.2.1,vi j3.2.2.1,vi j3.2.2.2.1,.own 5]) (ti:=bG) (by kernel_rfl) (by kernel_rfl) (by kernel_rfl) (by kernel_rfl)) (by kernel_rfl) (cN bQ _) rfl rfl SV.ez SV.ez (by kernel_rfl))) (y:= .box (tc ak j3.2.2.2.2.2)) (by kernel_rfl) rfl (by kernel_rfl) (by kernel_rfl))
theorem Cv:bg Tryz.prog 149:=az Tryz.func149 (by kernel_rfl) rfl
noncomputable def jz(aS:ag):Option ((List Place)×ag):=
 ((aG aS 7).bind fun x1=>(((loop (fun(s4:Int×(List Place)×ag)=>(bif(decide (s4.1>0))then((((fX s4.2.2).bind fun x8=>((gr s4.2.1 x8.1).bind fun x9=>(bif(x9.2==0)then some (x9.1,x8.2)else some (s4.2.1,x8.2))))).bind fun(j6:(List Place)×ag)=>some (.inl ((bF (s4.1 - 1)),j6.1,j6.2)))else some (.inr (s4.2.1,s4.2.2)))) (x1.1,([]:List Place),x1.2))).bind fun(j2:(List Place)×ag)=>((aG j2.2 24).bind fun x10=>(((bif(x10.1==0)then((jy x10.2).bind fun x13=>((c4 j2.1 ([x13.1]:List Place)).bind fun x14=>some (x14,x13.2)))else(bif(x10.1==1)then(loop (fun(s15:Int×(List Place)×ag)=>((((aG s15.2.2 2).bind fun x17=>(bif(decide ((s15.2.1.length:Int)<(bF (10+x17.1))))then some ((decide (s15.1<12)),x17.2)else some (false,x17.2)))).bind fun(j18:Bool×ag)=>(bif j18.1 then((((lW (ByteArray.mk #[97,98,99,100,101,102,103,104,105,106,107,108]) s15.1 (bF (s15.1+1))).bind fun x22=>((iS (ByteArray.mk #[122]) x22).bind fun x23=>((c4 s15.2.1 ([(Place.mk x23 0 (Span.mk 1500 1600) ([]:List Name))]:List Place)).bind fun x24=>some x24)))).bind fun(j20:(List Place))=>some (.inl ((bF (s15.1+1)),j20,j18.2)))else some (.inr (s15.2.1,j18.2))))) (0,j2.1,x10.2))else some (j2.1,x10.2)))).bind fun(j11:(List Place)×ag)=>some (j11.1,j11.2)))))
theorem qq(aS:ag)(r:(List Place)×ag)(h:jz aS=some r):aR Tryz.prog 97 [.o (.box [vl (eI .u8) aS.code,vi aS.at',vi aS.seed])] ⟨[.own 91 5 r.1.length (r.1.map ad)],[(0,.box (tc ak r.2))],true⟩:=by
 refine au Tryz.func97 rfl [(.tmp 2)] rfl (fun r=>⟨[.own 91 5 r.1.length (r.1.map ad)],[(0,.box (tc ak r.2))],true⟩) (r:=r) ?_
 unfold jz at h
 refine aJ ab [0] [1000000] ?_
 refine aJ ab [0,3] [8,1000000] ?_
 refine ae ?_
 refine sr ?_
 refine aa.cl ab 1 [0,3,9] [8,1000000] ?_
 obtain⟨x1,hx1,h⟩:=bind_some h
 refine aa.a7 (xe bB (aw aS 7 _ hx1)) ?_
 refine bO ab 1 [0,3,4] [8,1000000] ?_
 refine aU h (fun j2=>⟨59,[(0,.ref 1000000 0),(3,.own 3)],[(3,oa 91 5 ad j2.1),(1000000,.box (tc ak j2.2))]⟩) (fun v3 h=> ?_) (fun j2 h=> ?_)
 refine ax (a:=v3) ?_
 refine bc (r:=v3) (s:=(x1.1,([]:List Place),x1.2)) _ (fun s4=>⟨59,[(0,.ref 1000000 0),(3,.own 3),(4,vi s4.1)],[(3,oa 91 5 ad s4.2.1),(1000000,.box (tc ak s4.2.2))]⟩) _ (Le.rr [8,1000000] [(8,3)]) h (fun s4 v5 h=> ?_)
 refine ae ?_
 refine aJ ab [0,3,4,12] [3,1000000] ?_
 refine aq h (fun h=> ?_) fun h=> ?_
 refine ai ?_
 refine bq ?_
 refine ae ?_
 refine aU h (fun j6=>⟨59,[(0,.ref 1000000 0),(3,.own 3),(4,vi s4.1)],[(3,oa 91 5 ad j6.1),(1000000,.box (tc ak j6.2))]⟩) (fun v7 h=> ?_) (fun j6 h=> ?_)
 refine ax (a:=v7) ?_
 refine sr ?_
 refine aa.cl ab 2 [0,3,4,16,17] [3,1000000] ?_
 obtain⟨x8,hx8,h⟩:=bind_some h
 refine aa.a7 (xe uo (jU s4.2.2 _ hx8)) ?_
 obtain⟨x9,hx9,h⟩:=bind_some h
 refine aa.ls (xc yg (lH s4.2.1 x8.1 _ hx9)) ?_
 refine bO ab 5 [0,3,4,5,6] [3,19,1000000] ?_
 refine aJ ab [0,3,4,5,23] [3,19,1000000] ?_
 refine aq h (fun h=> ?_) fun h=> ?_
 refine aD ?_
 refine aa.cl ab 2 [0,3,4] [19,1000000] ?_
 refine aa.nil ?_
 obtain rfl:=inj h
 exact bt (cI ((Le.Fo (d:=19) (e:=91) (m:=5) (n:=x9.1.length) (ss:=[.flat,.flat,.flat,.flat,(.sl 169 5 [.flat,.flat,.flat,.flat,.flat])]) (es:=x9.1.map ad) (by kernel_rfl) (by kernel_rfl)).trans (Le.rr [19,1000000] [(19,3)])))
 refine ai ?_
 obtain rfl:=inj h
 exact bt (cI (Le.an))
 refine aD ?_
 refine aa.cl ab 3 [0,3,4] [3,1000000] ?_
 refine aa.nil ?_
 obtain rfl:=inj h
 exact cn (Le.an)
 refine a6 ?_
 obtain rfl:=inj h
 exact cE (cG (cF (cI (Le.an))))
 refine ae ?_
 refine sr ?_
 refine aa.cl ab 1 [0,3,25] [3,1000000] ?_
 obtain⟨x10,hx10,h⟩:=bind_some h
 refine aa.a7 (xe bB (aw j2.2 24 _ hx10)) ?_
 refine aa.nx ?_
 refine aU h (fun j11=>⟨59,[(3,.own 3)],[(3,oa 91 5 ad j11.1),(1000000,.box (tc ak j11.2))]⟩) (fun v12 h=> ?_) (fun j11 h=> ?_)
 refine ax (a:=v12) ?_
 refine aJ ab [0,3,26,27] [3,1000000] ?_
 refine aq h (fun h=> ?_) fun h=> ?_
 refine aD ?_
 refine aa.cl ab 2 [29,30] [3,1000000] ?_
 obtain⟨x13,hx13,h⟩:=bind_some h
 refine aa.a7 (xe Cv (qp x10.2 _ hx13)) ?_
 refine aa.le (Le.l3 (d:=31) (e:=169) (m:=5) (n:=x13.1.Names.length) (es:=x13.1.Names.map ao) (by kernel_rfl) (by kernel_rfl)) ?_
 refine aa.cl ab 1 [29,32] [3,32,1000000] ?_
 obtain⟨x14,hx14,h⟩:=bind_some h
 refine aa.a7 (bh (f:=ad) (t:=32) (ti:=bR) (tj:=bG) (zs:=[.string (ByteArray.mk #[]),.int .i64 0,.int .i64 0,.int .i64 0,.slice none 0 0]) (e:=91) (m:=5) (d:=3) (xv:= .own 32) hx14 ab rfl rfl rfl rfl (bT (e:=91))) ?_
 refine aa.cl ab 1 [3] [33,1000000] ?_
 refine aa.nil ?_
 obtain rfl:=inj h
 exact bt (cI (Le.rr [33,1000000] [(33,3)]))
 refine aJ ab [0,3,34] [3,1000000] ?_
 refine aq h (fun h=> ?_) fun h=> ?_
 refine aJ ab [0,3,7] [3,1000000] ?_
 refine ax (a:=v12) ?_
 refine bc (r:=v12) (s:=(0,j2.1,x10.2)) _ (fun s15=>⟨59,[(0,.ref 1000000 0),(3,.own 3),(7,vi s15.1)],[(3,oa 91 5 ad s15.2.1),(1000000,.box (tc ak s15.2.2))]⟩) _ (Le.an) h (fun s15 v16 h=> ?_)
 refine ae ?_
 refine ae ?_
 refine bn h (fun j18=>⟨59,[(0,.ref 1000000 0),(3,.own 3),(7,vi s15.1),(45,vb j18.1)],[(3,oa 91 5 ad s15.2.1),(1000000,.box (tc ak j18.2))]⟩) (fun v19 h=> ?_) (fun j18 h=> ?_)
 refine aa.cl ab 3 [0,3,7,37,38] [3,1000000] ?_
 obtain⟨x17,hx17,h⟩:=bind_some h
 refine aa.a7 (xe bB (aw s15.2.2 2 _ hx17)) ?_
 refine aa.cl ab 3 [0,3,7,42] [3,1000000] ?_
 refine aa.cu [(42,fun b=>b)] h (fun h=> ?_) fun h=> ?_
 refine aa.cl ab 3 [0,3,7,45] [3,1000000] ?_
 refine aa.nil ?_
 obtain rfl:=inj h
 exact Le.an
 refine aa.cl ab 3 [0,3,7,45] [3,1000000] ?_
 refine aa.nil ?_
 obtain rfl:=inj h
 exact Le.an
 refine aq h (fun h=> ?_) fun h=> ?_
 refine ai ?_
 refine bq ?_
 refine ae ?_
 refine aU h (fun j20=>⟨59,[(0,.ref 1000000 0),(3,.own 3),(7,vi s15.1)],[(3,oa 91 5 ad j20),(1000000,.box (tc ak j18.2))]⟩) (fun v21 h=> ?_) (fun j20 h=> ?_)
 refine ax (a:=v21) ?_
 refine aD ?_
 refine aa.cl ab 4 [0,7,48,49,51] [3,1000000] ?_
 obtain⟨x22,hx22,h⟩:=bind_some h
 refine aa.ls (sZ (ti:=et) hx22 ab rfl) ?_
 obtain⟨x23,hx23,h⟩:=bind_some h
 refine aa.ls (sX hx23 rfl) ?_
 refine aa.ls (aZ (v:= .agg [vi 1500,vi 1600]) ab rfl) ?_
 refine aa.ls (aZ (v:= .agg [vs x23,vi 0,vi 1500,vi 1600,vl ao ([]:List Name)]) ab rfl) ?_
 refine aa.cl ab 1 [0,7,48,56] [3,56,1000000] ?_
 obtain⟨x24,hx24,h⟩:=bind_some h
 refine aa.a7 (bh (f:=ad) (t:=32) (ti:=bR) (tj:=bG) (zs:=[.string (ByteArray.mk #[]),.int .i64 0,.int .i64 0,.int .i64 0,.slice none 0 0]) (e:=91) (m:=5) (d:=3) (xv:= .own 56) hx24 ab rfl rfl rfl rfl (bT (e:=91))) ?_
 refine aa.cl ab 1 [0,3,7] [57,1000000] ?_
 refine aa.nil ?_
 obtain rfl:=inj h
 exact bt (cI (Le.rr [57,1000000] [(57,3)]))
 refine aD ?_
 refine aa.cl ab 3 [0,3,7] [3,1000000] ?_
 refine aa.nil ?_
 obtain rfl:=inj h
 exact cn (Le.an)
 refine a6 ?_
 obtain rfl:=inj h
 exact cE (cG (cF (bt (cI (Le.an)))))
 refine ai ?_
 obtain rfl:=inj h
 exact bt (cI (Le.an))
 refine aJ ab [2] [3,1000000] ?_
 refine ah ?_
 obtain rfl:=inj h
 exact aO (di (f1 (DI (d:=3) (fP (by kernel_rfl)) (by kernel_rfl) (by kernel_rfl))) (y:= .box (tc ak j11.2)) (by kernel_rfl) rfl (by kernel_rfl) (by kernel_rfl))
theorem Ex:bg Tryz.prog 97:=az Tryz.func97 (by kernel_rfl) rfl
noncomputable def ia(aS:ag):Option (ay×ag):=
 ((aG aS 8).bind fun x1=>((at' ([(ByteArray.mk #[97,115,104]),(ByteArray.mk #[98,114,105,103]),(ByteArray.mk #[99,111,114,107]),(ByteArray.mk #[100,101,118,97]),(ByteArray.mk #[101,108,121]),(ByteArray.mk #[102,105,102,101]),(ByteArray.mk #[103,97,116,101]),(ByteArray.mk #[104,117,108,108])]:List ByteArray) x1.1).bind fun x2=>((aG x1.2 8).bind fun x3=>((at' ([(ByteArray.mk #[97,115,104]),(ByteArray.mk #[98,114,105,103]),(ByteArray.mk #[99,111,114,107]),(ByteArray.mk #[100,101,118,97]),(ByteArray.mk #[101,108,121]),(ByteArray.mk #[102,105,102,101]),(ByteArray.mk #[103,97,116,101]),(ByteArray.mk #[104,117,108,108])]:List ByteArray) x3.1).bind fun x4=>((aG x3.2 800).bind fun x5=>((aG x5.2 400).bind fun x6=>some ((ay.mk x2 x4 (Span.mk (bF (1000+x5.1)) (bF ((bF (1000+x5.1))+x6.1)))),x6.2)))))))
theorem mi(aS:ag)(r:ay×ag)(h:ia aS=some r):aR Tryz.prog 150 [.o (.box [vl (eI .u8) aS.code,vi aS.at',vi aS.seed])] ⟨[.v (.agg (tc aj r.1))],[(0,.box (tc ak r.2))],false⟩:=by
 refine au Tryz.func150 rfl [(.cell 2 85)] rfl (fun r=>⟨[.v (.agg (tc aj r.1))],[(0,.box (tc ak r.2))],false⟩) (r:=r) ?_
 unfold ia at h
 refine aJ ab [0,2] [2,1000000] ?_
 refine aJ ab [0,2,3] [2,5,1000000] ?_
 refine ae ?_
 refine iQ [1000000] mixed ?_
 refine aH.cl ab false 2 [0,2,3,6,7] [2,5,1000000] ?_
 obtain⟨x1,hx1,h⟩:=bind_some h
 refine aH.write [] (xw bB (aw aS 8 _ hx1)) ?_
 obtain⟨x2,hx2,h⟩:=bind_some h
 refine aH.step (bw (d:=5) (L:=([(ByteArray.mk #[97,115,104]),(ByteArray.mk #[98,114,105,103]),(ByteArray.mk #[99,111,114,107]),(ByteArray.mk #[100,101,118,97]),(ByteArray.mk #[101,108,121]),(ByteArray.mk #[102,105,102,101]),(ByteArray.mk #[103,97,116,101]),(ByteArray.mk #[104,117,108,108])]:List ByteArray)) (f:=eS) (ti:=bU) (tj:=et) (e:=9) (e':=9) (m:=1) (k:= .i64) ab rfl hx2) ?_
 refine aH.step (bN (d:=5) (m:=1) (j:=0) (L:=([(ByteArray.mk #[97,115,104]),(ByteArray.mk #[98,114,105,103]),(ByteArray.mk #[99,111,114,107]),(ByteArray.mk #[100,101,118,97]),(ByteArray.mk #[101,108,121]),(ByteArray.mk #[102,105,102,101]),(ByteArray.mk #[103,97,116,101]),(ByteArray.mk #[104,117,108,108])]:List ByteArray)) (f:=eS) (ti:=et) (e:=9) (v:=vs x2) ab rfl hx2) ?_
 refine aH.cl ab false 2 [0,2,10,11,12] [2,5,1000000] ?_
 obtain⟨x3,hx3,h⟩:=bind_some h
 refine aH.write [] (xw bB (aw x1.2 8 _ hx3)) ?_
 obtain⟨x4,hx4,h⟩:=bind_some h
 refine aH.step (bw (d:=5) (L:=([(ByteArray.mk #[97,115,104]),(ByteArray.mk #[98,114,105,103]),(ByteArray.mk #[99,111,114,107]),(ByteArray.mk #[100,101,118,97]),(ByteArray.mk #[101,108,121]),(ByteArray.mk #[102,105,102,101]),(ByteArray.mk #[103,97,116,101]),(ByteArray.mk #[104,117,108,108])]:List ByteArray)) (f:=eS) (ti:=bU) (tj:=et) (e:=9) (e':=9) (m:=1) (k:= .i64) ab rfl hx4) ?_
 refine aH.step (bN (d:=5) (m:=1) (j:=0) (L:=([(ByteArray.mk #[97,115,104]),(ByteArray.mk #[98,114,105,103]),(ByteArray.mk #[99,111,114,107]),(ByteArray.mk #[100,101,118,97]),(ByteArray.mk #[101,108,121]),(ByteArray.mk #[102,105,102,101]),(ByteArray.mk #[103,97,116,101]),(ByteArray.mk #[104,117,108,108])]:List ByteArray)) (f:=eS) (ti:=et) (e:=9) (v:=vs x4) ab rfl hx4) ?_
 refine aH.cl ab false 1 [0,2,10,15,16] [2,1000000] ?_
 obtain⟨x5,hx5,h⟩:=bind_some h
 refine aH.write [] (xw bB (aw x3.2 800 _ hx5)) ?_
 refine aH.cl ab false 1 [0,2,10,15,18] [2,1000000] ?_
 refine aH.step (aZ (v:= .agg [vi (bF (1000+x5.1)),vi 0]) ab rfl) ?_
 refine aH.step (aZ (v:= .agg [vs x2,vs x4,vi (bF (1000+x5.1)),vi 0]) ab rfl) ?_
 refine aH.cl ab false 1 [0,2,4,20] [2,4,1000000] ?_
 refine aH.seq (by kernel_rfl) (by kernel_rfl) ?_
 refine bO ab 1 [0,2,4] [2,4,1000000] ?_
 refine ae ?_
 refine iQ [1000000] mixed ?_
 refine aH.ck ab false 4 ⟨30,[(2,.ref 2 0),(4,.ref 4 0),(23,vi (bF (1000+x5.1))),(24,.ref 1000000 0)],[(2,.box [vs (ByteArray.mk #[]),vs (ByteArray.mk #[]),vi 0,vi 0]),(4,.box [vs x2,vs x4,vi (bF (1000+x5.1)),vi 0]),(1000000,.box (tc ak x5.2))]⟩ ?_
 obtain⟨x6,hx6,h⟩:=bind_some h
 refine aH.write [] (xw bB (aw x5.2 400 _ hx6)) ?_
 refine aH.cl ab false 3 [2,4,26,28] [2,4,1000000] ?_
 refine aH.seq (by kernel_rfl) (by kernel_rfl) ?_
 refine bO ab 1 [2,4] [2,4,1000000] ?_
 refine aJ ab [2] [2,1000000] ?_
 refine ah ?_
 obtain rfl:=inj h
 exact aO (di (f1 (fc ab)) (y:= .box (tc ak x6.2)) (by kernel_rfl) rfl (by kernel_rfl) (by kernel_rfl))
theorem yi:bg Tryz.prog 150:=az Tryz.func150 (by kernel_rfl) rfl
noncomputable def jB(aS:ag):Option (ay×ag):=
 ((ia aS).bind fun x1=>((aG x1.2 24).bind fun x2=>(((bif(x2.1==0)then((dH x2.2).bind fun x5=>some ((ay.mk x1.1.Child x5.1 x1.1.Years),x5.2))else(bif(x2.1==1)then((fV x2.2).bind fun x6=>some ((ay.mk x1.1.Child x1.1.Parent x6.1),x6.2))else some (x1.1,x2.2)))).bind fun(j3:ay×ag)=>some (j3.1,j3.2))))
theorem qu(aS:ag)(r:ay×ag)(h:jB aS=some r):aR Tryz.prog 151 [.o (.box [vl (eI .u8) aS.code,vi aS.at',vi aS.seed])] ⟨[.v (.agg (tc aj r.1))],[(0,.box (tc ak r.2))],false⟩:=by
 refine au Tryz.func151 rfl [(.cell 2 85)] rfl (fun r=>⟨[.v (.agg (tc aj r.1))],[(0,.box (tc ak r.2))],false⟩) (r:=r) ?_
 unfold jB at h
 refine aJ ab [0,2] [2,1000000] ?_
 refine sr ?_
 refine aa.cl ab 1 [0,2,4] [2,1000000] ?_
 obtain⟨x1,hx1,h⟩:=bind_some h
 refine aa.a7 (xe yi (mi aS _ hx1)) ?_
 refine bO ab 2 [0,2,3] [2,3,1000000] ?_
 refine ae ?_
 refine sr ?_
 refine aa.cl ab 1 [0,2,3,6] [2,3,1000000] ?_
 obtain⟨x2,hx2,h⟩:=bind_some h
 refine aa.a7 (xe bB (aw x1.2 24 _ hx2)) ?_
 refine aa.nx ?_
 refine aU h (fun j3=>⟨19,[(2,.ref 2 0),(3,.ref 3 0)],[(2,.box [vs (ByteArray.mk #[]),vs (ByteArray.mk #[]),vi 0,vi 0]),(3,.box (tc aj j3.1)),(1000000,.box (tc ak j3.2))]⟩) (fun v4 h=> ?_) (fun j3 h=> ?_)
 refine ax (a:=v4) ?_
 refine aJ ab [0,2,3,7,8] [2,3,1000000] ?_
 refine aq h (fun h=> ?_) fun h=> ?_
 refine aD ?_
 refine aa.cl ab 1 [2,3,10] [2,3,1000000] ?_
 obtain⟨x5,hx5,h⟩:=bind_some h
 refine aa.a7 (xe yr (kh x2.2 _ hx5)) ?_
 refine aa.cl ab 2 [2,3] [2,3,1000000] ?_
 refine aa.nil ?_
 obtain rfl:=inj h
 exact bt (cI (Le.an))
 refine aJ ab [0,2,3,13] [2,3,1000000] ?_
 refine aq h (fun h=> ?_) fun h=> ?_
 refine aD ?_
 refine aa.cl ab 1 [2,3,15] [2,3,1000000] ?_
 obtain⟨x6,hx6,h⟩:=bind_some h
 refine aa.a7 (xe ux (jS x2.2 _ hx6)) ?_
 refine aa.cl ab 2 [2,3] [2,3,1000000] ?_
 refine aa.nil ?_
 obtain rfl:=inj h
 exact bt (cI (Le.an))
 refine ai ?_
 obtain rfl:=inj h
 exact bt (cI (Le.an))
 refine aJ ab [2] [2,1000000] ?_
 refine ah ?_
 obtain rfl:=inj h
 exact aO (di (f1 (fc ab)) (y:= .box (tc ak j3.2)) (by kernel_rfl) rfl (by kernel_rfl) (by kernel_rfl))
theorem Cw:bg Tryz.prog 151:=az Tryz.func151 (by kernel_rfl) rfl
noncomputable def jC(aS:ag):Option ((List ay)×ag):=
 ((aG aS 10).bind fun x1=>(((loop (fun(s4:Int×(List ay)×ag)=>(bif(decide (s4.1>0))then((((ia s4.2.2).bind fun x8=>((hJ s4.2.1 x8.1).bind fun x9=>(bif(x9.2==0)then some (x9.1,x8.2)else some (s4.2.1,x8.2))))).bind fun(j6:(List ay)×ag)=>some (.inl ((bF (s4.1 - 1)),j6.1,j6.2)))else some (.inr (s4.2.1,s4.2.2)))) (x1.1,([]:List ay),x1.2))).bind fun(j2:(List ay)×ag)=>((aG j2.2 24).bind fun x10=>(((bif(x10.1==0)then((jB x10.2).bind fun x13=>((c4 j2.1 ([x13.1]:List ay)).bind fun x14=>some (x14,x13.2)))else(bif(x10.1==1)then(loop (fun(s15:Int×(List ay)×ag)=>((aG s15.2.2 2).bind fun x17=>(bif(decide ((s15.2.1.length:Int)<(bF (20+x17.1))))then((((c4 s15.2.1 ([(ay.mk (ByteArray.mk #[122,101,100]) (ByteArray.mk #[97,115,104]) (Span.mk (bF (2000+s15.1)) (bF (2000+s15.1))))]:List ay)).bind fun x20=>some x20)).bind fun(j18:(List ay))=>some (.inl ((bF (s15.1+1)),j18,x17.2)))else some (.inr (s15.2.1,x17.2))))) (0,j2.1,x10.2))else some (j2.1,x10.2)))).bind fun(j11:(List ay)×ag)=>some (j11.1,j11.2)))))
theorem qv(aS:ag)(r:(List ay)×ag)(h:jC aS=some r):aR Tryz.prog 98 [.o (.box [vl (eI .u8) aS.code,vi aS.at',vi aS.seed])] ⟨[.own 85 4 r.1.length (r.1.map aj)],[(0,.box (tc ak r.2))],false⟩:=by
 refine au Tryz.func98 rfl [(.tmp 2)] rfl (fun r=>⟨[.own 85 4 r.1.length (r.1.map aj)],[(0,.box (tc ak r.2))],false⟩) (r:=r) ?_
 unfold jC at h
 refine aJ ab [0] [1000000] ?_
 refine aJ ab [0,3] [8,1000000] ?_
 refine ae ?_
 refine sr ?_
 refine aa.cl ab 1 [0,3,9] [8,1000000] ?_
 obtain⟨x1,hx1,h⟩:=bind_some h
 refine aa.a7 (xe bB (aw aS 10 _ hx1)) ?_
 refine bO ab 1 [0,3,4] [8,1000000] ?_
 refine aU h (fun j2=>⟨54,[(0,.ref 1000000 0),(3,.own 3)],[(3,oa 85 4 aj j2.1),(1000000,.box (tc ak j2.2))]⟩) (fun v3 h=> ?_) (fun j2 h=> ?_)
 refine ax (a:=v3) ?_
 refine bc (r:=v3) (s:=(x1.1,([]:List ay),x1.2)) _ (fun s4=>⟨54,[(0,.ref 1000000 0),(3,.own 3),(4,vi s4.1)],[(3,oa 85 4 aj s4.2.1),(1000000,.box (tc ak s4.2.2))]⟩) _ (Le.rr [8,1000000] [(8,3)]) h (fun s4 v5 h=> ?_)
 refine ae ?_
 refine aJ ab [0,3,4,12] [3,1000000] ?_
 refine aq h (fun h=> ?_) fun h=> ?_
 refine ai ?_
 refine bq ?_
 refine ae ?_
 refine aU h (fun j6=>⟨54,[(0,.ref 1000000 0),(3,.own 3),(4,vi s4.1)],[(3,oa 85 4 aj j6.1),(1000000,.box (tc ak j6.2))]⟩) (fun v7 h=> ?_) (fun j6 h=> ?_)
 refine ax (a:=v7) ?_
 refine sr ?_
 refine aa.cl ab 2 [0,3,4,16,17] [3,1000000] ?_
 obtain⟨x8,hx8,h⟩:=bind_some h
 refine aa.a7 (xe yi (mi s4.2.2 _ hx8)) ?_
 obtain⟨x9,hx9,h⟩:=bind_some h
 refine aa.ls (xc yh (ma s4.2.1 x8.1 _ hx9)) ?_
 refine bO ab 5 [0,3,4,5,6] [3,19,1000000] ?_
 refine aJ ab [0,3,4,5,23] [3,19,1000000] ?_
 refine aq h (fun h=> ?_) fun h=> ?_
 refine aD ?_
 refine aa.cl ab 2 [0,3,4] [19,1000000] ?_
 refine aa.nil ?_
 obtain rfl:=inj h
 exact bt (cI (Le.rr [19,1000000] [(19,3)]))
 refine ai ?_
 obtain rfl:=inj h
 exact bt (cI (Le.an))
 refine aD ?_
 refine aa.cl ab 3 [0,3,4] [3,1000000] ?_
 refine aa.nil ?_
 obtain rfl:=inj h
 exact cn (Le.an)
 refine a6 ?_
 obtain rfl:=inj h
 exact cE (cG (cF (cI (Le.an))))
 refine ae ?_
 refine sr ?_
 refine aa.cl ab 1 [0,3,25] [3,1000000] ?_
 obtain⟨x10,hx10,h⟩:=bind_some h
 refine aa.a7 (xe bB (aw j2.2 24 _ hx10)) ?_
 refine aa.nx ?_
 refine aU h (fun j11=>⟨54,[(3,.own 3)],[(3,oa 85 4 aj j11.1),(1000000,.box (tc ak j11.2))]⟩) (fun v12 h=> ?_) (fun j11 h=> ?_)
 refine ax (a:=v12) ?_
 refine aJ ab [0,3,26,27] [3,1000000] ?_
 refine aq h (fun h=> ?_) fun h=> ?_
 refine aD ?_
 refine aa.cl ab 2 [29,30] [3,1000000] ?_
 obtain⟨x13,hx13,h⟩:=bind_some h
 refine aa.a7 (xe Cw (qu x10.2 _ hx13)) ?_
 refine aa.cl ab 1 [29,32] [3,32,1000000] ?_
 obtain⟨x14,hx14,h⟩:=bind_some h
 refine aa.a7 (bh (f:=aj) (t:=33) (ti:=eo) (tj:=ew) (zs:=[.string (ByteArray.mk #[]),.string (ByteArray.mk #[]),.int .i64 0,.int .i64 0]) (e:=85) (m:=4) (d:=3) (xv:= .own 32) hx14 ab rfl rfl rfl rfl (bT (e:=85))) ?_
 refine aa.cl ab 1 [3] [33,1000000] ?_
 refine aa.nil ?_
 obtain rfl:=inj h
 exact bt (cI (Le.rr [33,1000000] [(33,3)]))
 refine aJ ab [0,3,34] [3,1000000] ?_
 refine aq h (fun h=> ?_) fun h=> ?_
 refine aJ ab [0,3,7] [3,1000000] ?_
 refine ax (a:=v12) ?_
 refine bc (r:=v12) (s:=(0,j2.1,x10.2)) _ (fun s15=>⟨54,[(0,.ref 1000000 0),(3,.own 3),(7,vi s15.1)],[(3,oa 85 4 aj s15.2.1),(1000000,.box (tc ak s15.2.2))]⟩) _ (Le.an) h (fun s15 v16 h=> ?_)
 refine ae ?_
 refine sr ?_
 refine aa.cl ab 3 [0,3,7,37,38] [3,1000000] ?_
 obtain⟨x17,hx17,h⟩:=bind_some h
 refine aa.a7 (xe bB (aw s15.2.2 2 _ hx17)) ?_
 refine bO ab 2 [0,3,7,41] [3,1000000] ?_
 refine aq h (fun h=> ?_) fun h=> ?_
 refine ai ?_
 refine bq ?_
 refine ae ?_
 refine aU h (fun j18=>⟨54,[(0,.ref 1000000 0),(3,.own 3),(7,vi s15.1)],[(3,oa 85 4 aj j18),(1000000,.box (tc ak x17.2))]⟩) (fun v19 h=> ?_) (fun j18 h=> ?_)
 refine ax (a:=v19) ?_
 refine aD ?_
 refine aa.cl ab 5 [0,7,44,46,48] [3,1000000] ?_
 refine aa.ls (aZ (v:= .agg [vi (bF (2000+s15.1)),vi (bF (2000+s15.1))]) ab rfl) ?_
 refine aa.ls (aZ (v:= .agg [vs (ByteArray.mk #[122,101,100]),vs (ByteArray.mk #[97,115,104]),vi (bF (2000+s15.1)),vi (bF (2000+s15.1))]) ab rfl) ?_
 refine aa.cl ab 1 [0,7,44,51] [3,51,1000000] ?_
 obtain⟨x20,hx20,h⟩:=bind_some h
 refine aa.a7 (bh (f:=aj) (t:=33) (ti:=eo) (tj:=ew) (zs:=[.string (ByteArray.mk #[]),.string (ByteArray.mk #[]),.int .i64 0,.int .i64 0]) (e:=85) (m:=4) (d:=3) (xv:= .own 51) hx20 ab rfl rfl rfl rfl (bT (e:=85))) ?_
 refine aa.cl ab 1 [0,3,7] [52,1000000] ?_
 refine aa.nil ?_
 obtain rfl:=inj h
 exact bt (cI (Le.rr [52,1000000] [(52,3)]))
 refine aD ?_
 refine aa.cl ab 3 [0,3,7] [3,1000000] ?_
 refine aa.nil ?_
 obtain rfl:=inj h
 exact cn (Le.an)
 refine a6 ?_
 obtain rfl:=inj h
 exact cE (cG (cF (bt (cI (Le.an)))))
 refine ai ?_
 obtain rfl:=inj h
 exact bt (cI (Le.an))
 refine aJ ab [2] [3,1000000] ?_
 refine ah ?_
 obtain rfl:=inj h
 exact aO (di (f1 (fo dj)) (y:= .box (tc ak j11.2)) (by kernel_rfl) rfl (by kernel_rfl) (by kernel_rfl))
theorem Ey:bg Tryz.prog 98:=az Tryz.func98 (by kernel_rfl) rfl
noncomputable def ib(aS:ag):Option (World×ag):=
 ((jF aS).bind fun x1=>((aG x1.2 24).bind fun x2=>(((bif(x2.1==0)then((jz x2.2).bind fun x5=>some ((World.mk x5.1 x1.1.Links),x5.2))else(bif(x2.1==1)then((jC x2.2).bind fun x6=>some ((World.mk x1.1.Places x6.1),x6.2))else some (x1.1,x2.2)))).bind fun(j3:World×ag)=>some (j3.1,j3.2))))
theorem mj(aS:ag)(r:World×ag)(h:ib aS=some r):aR Tryz.prog 48 [.o (.box [vl (eI .u8) aS.code,vi aS.at',vi aS.seed])] ⟨[.v (.agg (tc aQ r.1))],[(0,.box (tc ak r.2))],true⟩:=by
 refine au Tryz.func48 rfl [(.cell 2 35)] rfl (fun r=>⟨[.v (.agg (tc aQ r.1))],[(0,.box (tc ak r.2))],true⟩) (r:=r) ?_
 unfold ib at h
 refine aJ ab [0,2] [2,1000000] ?_
 refine sr ?_
 refine aa.cl ab 1 [0,2,4] [2,1000000] ?_
 obtain⟨x1,hx1,h⟩:=bind_some h
 refine aa.a7 (xe Ew (qx aS _ hx1)) ?_
 refine bO ab 2 [0,2,3] [2,3,1000000] ?_
 refine ae ?_
 refine sr ?_
 refine aa.cl ab 1 [0,2,3,6] [2,3,1000000] ?_
 obtain⟨x2,hx2,h⟩:=bind_some h
 refine aa.a7 (xe bB (aw x1.2 24 _ hx2)) ?_
 refine aa.nx ?_
 refine aU h (fun j3=>⟨19,[(2,.ref 2 0),(3,.ref 3 0)],[(2,.box [vl ad ([]:List Place),vl aj ([]:List ay)]),(3,.box (tc aQ j3.1)),(1000000,.box (tc ak j3.2))]⟩) (fun v4 h=> ?_) (fun j3 h=> ?_)
 refine ax (a:=v4) ?_
 refine aJ ab [0,2,3,7,8] [2,3,1000000] ?_
 refine aq h (fun h=> ?_) fun h=> ?_
 refine aD ?_
 refine aa.cl ab 1 [2,3,10] [2,3,1000000] ?_
 obtain⟨x5,hx5,h⟩:=bind_some h
 refine aa.a7 (xe Ex (qq x2.2 _ hx5)) ?_
 refine aa.cl ab 2 [2,3] [2,3,11,1000000] ?_
 refine aa.nil ?_
 obtain rfl:=inj h
 exact bt (cI ((Le.l3 (d:=11) (e:=91) (m:=5) (n:=x5.1.length) (es:=x5.1.map ad) (by kernel_rfl) (by kernel_rfl)).trans (Le.an)))
 refine aJ ab [0,2,3,13] [2,3,1000000] ?_
 refine aq h (fun h=> ?_) fun h=> ?_
 refine aD ?_
 refine aa.cl ab 1 [2,3,15] [2,3,1000000] ?_
 obtain⟨x6,hx6,h⟩:=bind_some h
 refine aa.a7 (xe Ey (qv x2.2 _ hx6)) ?_
 refine aa.cl ab 2 [2,3] [2,3,16,1000000] ?_
 refine aa.nil ?_
 obtain rfl:=inj h
 exact bt (cI ((Le.l3 (d:=16) (e:=85) (m:=4) (n:=x6.1.length) (es:=x6.1.map aj) (by kernel_rfl) (by kernel_rfl)).trans (Le.an)))
 refine ai ?_
 obtain rfl:=inj h
 exact bt (cI (Le.an))
 refine aJ ab [2] [2,1000000] ?_
 refine ah ?_
 obtain rfl:=inj h
 exact aO (di (f1 (kq rfl (cA ab (d:=2) (cs:=[vl ad j3.1.Places,vl aj j3.1.Links]) (ti:=iE) (by kernel_rfl) (by kernel_rfl) (by kernel_rfl) (by kernel_rfl)))) (y:= .box (tc ak j3.2)) (by kernel_rfl) rfl (by kernel_rfl) (by kernel_rfl))
theorem AB:bg Tryz.prog 48:=az Tryz.func48 (by kernel_rfl) rfl
noncomputable def fF(aS:ag):Option (ByteArray×ag):=
 ((aG aS 11).bind fun x1=>((at' ([(ByteArray.mk #[97,115,104]),(ByteArray.mk #[98,114,105,103]),(ByteArray.mk #[99,111,114,107]),(ByteArray.mk #[100,101,118,97]),(ByteArray.mk #[101,108,121]),(ByteArray.mk #[102,105,102,101]),(ByteArray.mk #[103,97,116,101]),(ByteArray.mk #[104,117,108,108]),(ByteArray.mk #[122,101,100]),(ByteArray.mk #[]),(ByteArray.mk #[69,108,121])]:List ByteArray) x1.1).bind fun x2=>some (x2,x1.2)))
theorem nE(aS:ag)(r:ByteArray×ag)(h:fF aS=some r):aR Tryz.prog 152 [.o (.box [vl (eI .u8) aS.code,vi aS.at',vi aS.seed])] ⟨[.v (vs r.1)],[(0,.box (tc ak r.2))],false⟩:=by
 refine au Tryz.func152 rfl [(.tmp 2)] rfl (fun r=>⟨[.v (vs r.1)],[(0,.box (tc ak r.2))],false⟩) (r:=r) ?_
 unfold fF at h
 refine aJ ab [0] [1000000] ?_
 refine sr ?_
 refine aa.cl ab 2 [3,4] [3,1000000] ?_
 obtain⟨x1,hx1,h⟩:=bind_some h
 refine aa.a7 (xe bB (aw aS 11 _ hx1)) ?_
 obtain⟨x2,hx2,h⟩:=bind_some h
 refine aa.ls (bw (d:=3) (L:=([(ByteArray.mk #[97,115,104]),(ByteArray.mk #[98,114,105,103]),(ByteArray.mk #[99,111,114,107]),(ByteArray.mk #[100,101,118,97]),(ByteArray.mk #[101,108,121]),(ByteArray.mk #[102,105,102,101]),(ByteArray.mk #[103,97,116,101]),(ByteArray.mk #[104,117,108,108]),(ByteArray.mk #[122,101,100]),(ByteArray.mk #[]),(ByteArray.mk #[69,108,121])]:List ByteArray)) (f:=eS) (ti:=bU) (tj:=et) (e:=9) (e':=9) (m:=1) (k:= .i64) ab rfl hx2) ?_
 refine aa.ls (bN (d:=3) (m:=1) (j:=0) (L:=([(ByteArray.mk #[97,115,104]),(ByteArray.mk #[98,114,105,103]),(ByteArray.mk #[99,111,114,107]),(ByteArray.mk #[100,101,118,97]),(ByteArray.mk #[101,108,121]),(ByteArray.mk #[102,105,102,101]),(ByteArray.mk #[103,97,116,101]),(ByteArray.mk #[104,117,108,108]),(ByteArray.mk #[122,101,100]),(ByteArray.mk #[]),(ByteArray.mk #[69,108,121])]:List ByteArray)) (f:=eS) (ti:=et) (e:=9) (v:=vs x2) ab rfl hx2) ?_
 refine bO ab 1 [2] [1000000] ?_
 refine ah ?_
 obtain rfl:=inj h
 exact aO (di (f1 fv) (y:= .box (tc ak x1.2)) (by kernel_rfl) rfl (by kernel_rfl) (by kernel_rfl))
theorem Cy:bg Tryz.prog 152:=az Tryz.func152 (by kernel_rfl) rfl
noncomputable def ic(aS:ag)(aW:World):Option (ByteArray×ag):=
 (((bif(decide ((aW.Places.length:Int)>0))then((aG aS 12).bind fun x1=>some ((decide (x1.1>0)),x1.2))else some (false,aS))).bind fun(j2:Bool×ag)=>(bif j2.1 then((aG j2.2 (aW.Places.length:Int)).bind fun x4=>((at' aW.Places x4.1).bind fun x5=>some (x5.Code,x4.2)))else((fF j2.2).bind fun x6=>some (x6.1,x6.2))))
theorem mn(aS:ag)(aW:World)(r:ByteArray×ag)(h:ic aS aW=some r):aR Tryz.prog 99 [.o (.box [vl (eI .u8) aS.code,vi aS.at',vi aS.seed]),.v (.agg (tc aQ aW))] ⟨[.v (vs r.1)],[(0,.box (tc ak r.2))],false⟩:=by
 refine au Tryz.func99 rfl [(.tmp 4)] rfl (fun r=>⟨[.v (vs r.1)],[(0,.box (tc ak r.2))],false⟩) (r:=r) ?_
 unfold ic at h
 refine aJ ab [0,3] [3,1000000] ?_
 refine ae ?_
 refine ae ?_
 refine bn h (fun j2=>⟨26,[(0,.ref 1000000 0),(3,.ref 3 0),(13,vb j2.1)],[(3,.box (tc aQ aW)),(1000000,.box (tc ak j2.2))]⟩) (fun v3 h=> ?_) (fun j2 h=> ?_)
 refine aa.cl ab 5 [0,3,9] [3,1000000] ?_
 refine aa.cu [(9,fun b=>b)] h (fun h=> ?_) fun h=> ?_
 refine aa.cl ab 1 [0,3,9,10] [3,1000000] ?_
 obtain⟨x1,hx1,h⟩:=bind_some h
 refine aa.a7 (xe bB (aw aS 12 _ hx1)) ?_
 refine aa.cl ab 2 [0,3,13] [3,1000000] ?_
 refine aa.nil ?_
 obtain rfl:=inj h
 exact Le.an
 refine aa.cl ab 4 [0,3,13] [3,1000000] ?_
 refine aa.nil ?_
 obtain rfl:=inj h
 exact Le.an
 refine aq h (fun h=> ?_) fun h=> ?_
 refine ae ?_
 refine iQ [1000000] mixed ?_
 refine aH.cl ab false 6 [15,16,19] [1000000] ?_
 obtain⟨x4,hx4,h⟩:=bind_some h
 refine aH.write [] (xw bB (aw j2.2 (aW.Places.length:Int) _ hx4)) ?_
 obtain⟨x5,hx5,h⟩:=bind_some h
 refine aH.step (aY (L:=aW.Places) (f:=ad) (ti:=bR) (tj:=bG) (e:=91) (k:= .i64) ab rfl hx5) ?_
 refine aH.cl ab false 3 [4] [1000000] ?_
 refine aH.nx ?_
 refine ah ?_
 obtain rfl:=inj h
 exact cY (aO (di (f1 fv) (y:= .box (tc ak x4.2)) (by kernel_rfl) rfl (by kernel_rfl) (by kernel_rfl)))
 refine ai ?_
 refine bq ?_
 refine sr ?_
 refine aa.cl ab 1 [24] [1000000] ?_
 obtain⟨x6,hx6,h⟩:=bind_some h
 refine aa.a7 (xe Cy (nE j2.2 _ hx6)) ?_
 refine bO ab 1 [4] [1000000] ?_
 refine ah ?_
 obtain rfl:=inj h
 exact aO (di (f1 fv) (y:= .box (tc ak x6.2)) (by kernel_rfl) rfl (by kernel_rfl) (by kernel_rfl))
theorem AK:bg Tryz.prog 99:=az Tryz.func99 (by kernel_rfl) rfl
noncomputable def eG(aS:ag)(aW:World):Option (Change×ag):=
 ((aG aS 900).bind fun x1=>((aG x1.2 4).bind fun x2=>((ic x2.2 aW).bind fun x3=>(((bif((x2.1==2) || (x2.1==3))then((ic x3.2 aW).bind fun x6=>some ((Change.mk (bF (1100+x1.1)) x2.1 x3.1 x6.1 (ByteArray.mk #[]) (ByteArray.mk #[])),x6.2))else some ((Change.mk (bF (1100+x1.1)) x2.1 x3.1 (ByteArray.mk #[]) (ByteArray.mk #[]) (ByteArray.mk #[])),x3.2))).bind fun(j4:Change×ag)=>(((bif(j4.1.Kind==0)then((aG j4.2 4).bind fun x9=>((at' ([(ByteArray.mk #[101,110]),(ByteArray.mk #[101,110]),(ByteArray.mk #[100,101]),(ByteArray.mk #[108,97,116])]:List ByteArray) x9.1).bind fun x10=>((bW x9.2).bind fun x11=>some ((Change.mk j4.1.Year j4.1.Kind j4.1.Code j4.1.Other x10 x11.1),x11.2))))else some (j4.1,j4.2))).bind fun(j7:Change×ag)=>((aG j7.2 30).bind fun x12=>(((bif(x12.1==0)then((cT x12.2 ([(-3000),(-2999),3000,3001]:List Int)).bind fun x15=>some ((Change.mk x15.1 j7.1.Kind j7.1.Code j7.1.Other j7.1.Language j7.1.Text),x15.2))else(bif(x12.1==1)then((aG x12.2 6).bind fun x16=>some ((Change.mk j7.1.Year (bF (x16.1 - 1)) j7.1.Code j7.1.Other j7.1.Language j7.1.Text),x16.2))else(bif(x12.1==2)then((db x12.2).bind fun x17=>some ((Change.mk j7.1.Year j7.1.Kind j7.1.Code j7.1.Other j7.1.Language x17.1),x17.2))else some (j7.1,x12.2))))).bind fun(j13:Change×ag)=>some (j13.1,j13.2))))))))
theorem iT(aS:ag)(aW:World)(r:Change×ag)(h:eG aS aW=some r):aR Tryz.prog 49 [.o (.box [vl (eI .u8) aS.code,vi aS.at',vi aS.seed]),.v (.agg (tc aQ aW))] ⟨[.v (.agg (tc aF r.1))],[(0,.box (tc ak r.2))],false⟩:=by
 refine au Tryz.func49 rfl [(.cell 4 37)] rfl (fun r=>⟨[.v (.agg (tc aF r.1))],[(0,.box (tc ak r.2))],false⟩) (r:=r) ?_
 unfold eG at h
 refine aJ ab [0,3,4] [3,4,1000000] ?_
 refine ae ?_
 refine iQ [1000000] mixed ?_
 refine aH.cl ab false 1 [0,3,4,6] [3,4,1000000] ?_
 obtain⟨x1,hx1,h⟩:=bind_some h
 refine aH.write [] (xw bB (aw aS 900 _ hx1)) ?_
 refine aH.cl ab false 2 [0,3,4,8,9] [3,4,1000000] ?_
 obtain⟨x2,hx2,h⟩:=bind_some h
 refine aH.write [] (xw bB (aw x1.2 4 _ hx2)) ?_
 refine aH.cl ab false 2 [0,3,4,8,10,11,12] [3,4,1000000] ?_
 obtain⟨x3,hx3,h⟩:=bind_some h
 refine aH.write [] (xw AK (mn x2.2 aW _ hx3)) ?_
 refine aH.step (aZ (v:= .agg [vi (bF (1100+x1.1)),vi x2.1,vs x3.1,vs (ByteArray.mk #[]),vs (ByteArray.mk #[]),vs (ByteArray.mk #[])]) ab rfl) ?_
 refine aH.cl ab false 1 [0,3,4,5,14] [3,4,5,1000000] ?_
 refine aH.seq (by kernel_rfl) (by kernel_rfl) ?_
 refine bO ab 1 [0,3,4,5] [3,4,5,1000000] ?_
 refine ae ?_
 refine ae ?_
 refine c7 ⟨59,[(0,.ref 1000000 0),(3,.ref 3 0),(4,.ref 4 0),(5,.ref 5 0),(22,vb ((x2.1==2) || (x2.1==3)))],[(3,.box (tc aQ aW)),(4,.box [vi 0,vi 0,vs (ByteArray.mk #[]),vs (ByteArray.mk #[]),vs (ByteArray.mk #[]),vs (ByteArray.mk #[])]),(5,.box [vi (bF (1100+x1.1)),vi x2.1,vs x3.1,vs (ByteArray.mk #[]),vs (ByteArray.mk #[]),vs (ByteArray.mk #[])]),(1000000,.box (tc ak x3.2))]⟩ ?_ ?_
 refine aa.ck ab 4 ⟨59,[(0,.ref 1000000 0),(3,.ref 3 0),(4,.ref 4 0),(5,.ref 5 0),(18,vb (x2.1==2))],[(3,.box (tc aQ aW)),(4,.box [vi 0,vi 0,vs (ByteArray.mk #[]),vs (ByteArray.mk #[]),vs (ByteArray.mk #[]),vs (ByteArray.mk #[])]),(5,.box [vi (bF (1100+x1.1)),vi x2.1,vs x3.1,vs (ByteArray.mk #[]),vs (ByteArray.mk #[]),vs (ByteArray.mk #[])]),(1000000,.box (tc ak x3.2))]⟩ ?_
 generalize (x2.1==2)=bb
 cases bb
 refine aa.cl ab 4 [0,3,4,5,22] [3,4,5,1000000] ?_
 exact aa.nil (Le.an)
 refine aa.cl ab 4 [0,3,4,5,22] [3,4,5,1000000] ?_
 exact aa.nil (Le.an)
 refine aU h (fun j4=>⟨59,[(0,.ref 1000000 0),(4,.ref 4 0),(5,.ref 5 0)],[(4,.box [vi 0,vi 0,vs (ByteArray.mk #[]),vs (ByteArray.mk #[]),vs (ByteArray.mk #[]),vs (ByteArray.mk #[])]),(5,.box (tc aF j4.1)),(1000000,.box (tc ak j4.2))]⟩) (fun v5 h=> ?_) (fun j4 h=> ?_)
 refine aq h (fun h=> ?_) fun h=> ?_
 refine aD ?_
 refine aa.cl ab 2 [0,4,5,23,24] [4,5,1000000] ?_
 obtain⟨x6,hx6,h⟩:=bind_some h
 refine aa.a7 (xe AK (mn x3.2 aW _ hx6)) ?_
 refine aa.cl ab 2 [0,4,5] [4,5,1000000] ?_
 refine aa.nil ?_
 obtain rfl:=inj h
 exact cI (Le.an)
 refine ai ?_
 obtain rfl:=inj h
 exact cI (Le.an)
 refine ae ?_
 refine aJ ab [0,4,5,29] [4,5,1000000] ?_
 refine aU h (fun j7=>⟨59,[(0,.ref 1000000 0),(4,.ref 4 0),(5,.ref 5 0)],[(4,.box [vi 0,vi 0,vs (ByteArray.mk #[]),vs (ByteArray.mk #[]),vs (ByteArray.mk #[]),vs (ByteArray.mk #[])]),(5,.box (tc aF j7.1)),(1000000,.box (tc ak j7.2))]⟩) (fun v8 h=> ?_) (fun j7 h=> ?_)
 refine aq h (fun h=> ?_) fun h=> ?_
 refine sr ?_
 refine aa.cl ab 2 [0,4,5,30,31] [4,5,30,1000000] ?_
 obtain⟨x9,hx9,h⟩:=bind_some h
 refine aa.a7 (xe bB (aw j4.2 4 _ hx9)) ?_
 obtain⟨x10,hx10,h⟩:=bind_some h
 refine aa.ls (bw (d:=30) (L:=([(ByteArray.mk #[101,110]),(ByteArray.mk #[101,110]),(ByteArray.mk #[100,101]),(ByteArray.mk #[108,97,116])]:List ByteArray)) (f:=eS) (ti:=bU) (tj:=et) (e:=9) (e':=9) (m:=1) (k:= .i64) ab rfl hx10) ?_
 refine aa.ls (bN (d:=30) (m:=1) (j:=0) (L:=([(ByteArray.mk #[101,110]),(ByteArray.mk #[101,110]),(ByteArray.mk #[100,101]),(ByteArray.mk #[108,97,116])]:List ByteArray)) (f:=eS) (ti:=et) (e:=9) (v:=vs x10) ab rfl hx10) ?_
 refine bO ab 2 [0,4,5] [4,5,1000000] ?_
 refine aD ?_
 refine aa.cl ab 1 [0,4,5,36] [4,5,1000000] ?_
 obtain⟨x11,hx11,h⟩:=bind_some h
 refine aa.a7 (xe rp (ej x9.2 _ hx11)) ?_
 refine aa.cl ab 2 [0,4,5] [4,5,1000000] ?_
 refine aa.nil ?_
 obtain rfl:=inj h
 exact cI (Le.an)
 refine ai ?_
 obtain rfl:=inj h
 exact cI (Le.an)
 refine ae ?_
 refine sr ?_
 refine aa.cl ab 1 [0,4,5,39] [4,5,1000000] ?_
 obtain⟨x12,hx12,h⟩:=bind_some h
 refine aa.a7 (xe bB (aw j7.2 30 _ hx12)) ?_
 refine aa.nx ?_
 refine aU h (fun j13=>⟨59,[(4,.ref 4 0),(5,.ref 5 0)],[(4,.box [vi 0,vi 0,vs (ByteArray.mk #[]),vs (ByteArray.mk #[]),vs (ByteArray.mk #[]),vs (ByteArray.mk #[])]),(5,.box (tc aF j13.1)),(1000000,.box (tc ak j13.2))]⟩) (fun v14 h=> ?_) (fun j13 h=> ?_)
 refine ax (a:=v14) ?_
 refine aJ ab [0,4,5,40,41] [4,5,1000000] ?_
 refine aq h (fun h=> ?_) fun h=> ?_
 refine aD ?_
 refine aa.cl ab 2 [4,5,43,44] [4,5,44,1000000] ?_
 refine aa.le (Le.l3 (d:=44) (e:=2) (m:=1) (n:=([(-3000),(-2999),3000,3001]:List Int).length) (es:=([(-3000),(-2999),3000,3001]:List Int).map (eI .i64)) (by kernel_rfl) (by kernel_rfl)) ?_
 obtain⟨x15,hx15,h⟩:=bind_some h
 refine aa.a7 (xe lu (df x12.2 ([(-3000),(-2999),3000,3001]:List Int) _ hx15)) ?_
 refine aa.cl ab 2 [4,5] [4,5,1000000] ?_
 refine aa.nil ?_
 obtain rfl:=inj h
 exact bt (cI (Le.an))
 refine aJ ab [0,4,5,40,47] [4,5,1000000] ?_
 refine aq h (fun h=> ?_) fun h=> ?_
 refine aD ?_
 refine aa.cl ab 1 [4,5,49] [4,5,1000000] ?_
 obtain⟨x16,hx16,h⟩:=bind_some h
 refine aa.a7 (xe bB (aw x12.2 6 _ hx16)) ?_
 refine aa.cl ab 3 [4,5] [4,5,1000000] ?_
 refine aa.nil ?_
 obtain rfl:=inj h
 exact bt (cI (Le.an))
 refine aJ ab [0,4,5,53] [4,5,1000000] ?_
 refine aq h (fun h=> ?_) fun h=> ?_
 refine aD ?_
 refine aa.cl ab 1 [4,5,55] [4,5,1000000] ?_
 obtain⟨x17,hx17,h⟩:=bind_some h
 refine aa.a7 (xe xT (ju x12.2 _ hx17)) ?_
 refine aa.ck ab 2 ⟨59,[(4,.ref 4 0),(5,.ref 5 0)],[(4,.box [vi 0,vi 0,vs (ByteArray.mk #[]),vs (ByteArray.mk #[]),vs (ByteArray.mk #[]),vs (ByteArray.mk #[])]),(5,.box [vi j7.1.Year,vi j7.1.Kind,vs j7.1.Code,vs j7.1.Other,vs j7.1.Language,vs x17.1]),(1000000,.box (tc ak x17.2))]⟩ ?_
 refine aa.nil ?_
 obtain rfl:=inj h
 exact bt (cI (Le.an))
 refine ai ?_
 obtain rfl:=inj h
 exact bt (cI (Le.an))
 refine aJ ab [4] [4,1000000] ?_
 refine ah ?_
 obtain rfl:=inj h
 exact aO (di (f1 (fc ab)) (y:= .box (tc ak j13.2)) (by kernel_rfl) rfl (by kernel_rfl) (by kernel_rfl))
theorem xa:bg Tryz.prog 49:=az Tryz.func49 (by kernel_rfl) rfl
noncomputable def dQ(aE:(List Int)):Option (World×Change):=
 ((fU aE).bind fun x1=>((ib x1).bind fun x2=>((eG x2.2 x2.1).bind fun x3=>some (x2.1,x3.1))))
theorem lU(aE:(List Int))(r:World×Change)(h:dQ aE=some r):aR Tryz.prog 19 [.v (vl (eI .u8) aE)] ⟨[.v (.agg (tc aQ r.1)),.v (.agg (tc aF r.2))],[],true⟩:=by
 refine au Tryz.func19 rfl [(.cell 2 35),(.cell 3 37)] rfl (fun r=>⟨[.v (.agg (tc aQ r.1)),.v (.agg (tc aF r.2))],[],true⟩) (r:=r) ?_
 unfold dQ at h
 refine aJ ab [0,2,3] [2,3] ?_
 refine sr ?_
 refine aa.cl ab 1 [2,3,6] [2,3] ?_
 obtain⟨x1,hx1,h⟩:=bind_some h
 refine aa.ls (xc AA (mc aE _ hx1)) ?_
 refine bO ab 1 [2,3,4] [2,3,7] ?_
 refine sr ?_
 refine aa.cl ab 1 [2,3,4,8] [2,3,7] ?_
 obtain⟨x2,hx2,h⟩:=bind_some h
 refine aa.a7 (xe AB (mj x1 _ hx2)) ?_
 refine bO ab 2 [2,3,4,5] [2,3,5,7] ?_
 refine ae ?_
 refine iQ [7] mixed ?_
 refine aH.cl ab false 3 [2,3,10,11,12] [2,3,7] ?_
 obtain⟨x3,hx3,h⟩:=bind_some h
 refine aH.write [] (xw xa (iT x2.2 x2.1 _ hx3)) ?_
 refine aH.seq (by kernel_rfl) (by kernel_rfl) ?_
 refine bO ab 2 [2,3] [2,3] ?_
 refine ah ?_
 obtain rfl:=inj h
 exact aO (f2 (kq rfl (cA ab (d:=2) (cs:=[vl ad x2.1.Places,vl aj x2.1.Links]) (ti:=iE) (by kernel_rfl) (by kernel_rfl) (by kernel_rfl) (by kernel_rfl))) (kq rfl (cA ab (d:=3) (cs:=[vi x3.1.Year,vi x3.1.Kind,vs x3.1.Code,vs x3.1.Other,vs x3.1.Language,vs x3.1.Text]) (ti:=va) (by kernel_rfl) (by kernel_rfl) (by kernel_rfl) (by kernel_rfl))))
theorem D8:bg Tryz.prog 19:=az Tryz.func19 (by kernel_rfl) rfl
noncomputable def dB(aE:(List Int)):Option (World×(List Change)):=
 ((fU aE).bind fun x1=>((ib x1).bind fun x2=>((aG x2.2 6).bind fun x3=>(((loop (fun(s6:Int×ag×(List Change))=>(bif(decide (s6.1>0))then((((eG s6.2.1 x2.1).bind fun x10=>((c4 s6.2.2 ([x10.1]:List Change)).bind fun x11=>some (x11,x10.2)))).bind fun(j8:(List Change)×ag)=>some (.inl ((bF (s6.1 - 1)),j8.2,j8.1)))else some (.inr (s6.2.1,s6.2.2)))) (x3.1,x3.2,([]:List Change)))).bind fun(j4:ag×(List Change))=>((aG j4.1 24).bind fun x12=>(((bif(x12.1==0)then(loop (fun(s15:(List Change)×ag)=>((aG s15.2 2).bind fun x17=>(bif(decide ((s15.1.length:Int)<(bF (12+x17.1))))then((eG x17.2 x2.1).bind fun x18=>((c4 s15.1 ([x18.1]:List Change)).bind fun x19=>some (.inl (x19,x18.2))))else some (.inr s15.1)))) (j4.2,x12.2))else some j4.2)).bind fun(j13:(List Change))=>some (x2.1,j13)))))))
theorem lq(aE:(List Int))(r:World×(List Change))(h:dB aE=some r):aR Tryz.prog 20 [.v (vl (eI .u8) aE)] ⟨[.v (.agg (tc aQ r.1)),.own 37 6 r.2.length (r.2.map aF)],[],true⟩:=by
 refine au Tryz.func20 rfl [(.cell 2 35),(.tmp 3)] rfl (fun r=>⟨[.v (.agg (tc aQ r.1)),.own 37 6 r.2.length (r.2.map aF)],[],true⟩) (r:=r) ?_
 unfold dB at h
 refine aJ ab [0,2] [2] ?_
 refine sr ?_
 refine aa.cl ab 1 [2,8] [2] ?_
 obtain⟨x1,hx1,h⟩:=bind_some h
 refine aa.ls (xc AA (mc aE _ hx1)) ?_
 refine bO ab 1 [2,4] [2,9] ?_
 refine sr ?_
 refine aa.cl ab 1 [2,4,10] [2,9] ?_
 obtain⟨x2,hx2,h⟩:=bind_some h
 refine aa.a7 (xe AB (mj x1 _ hx2)) ?_
 refine bO ab 2 [2,4,5] [2,5,9] ?_
 refine aJ ab [2,4,5,6] [2,5,9,12] ?_
 refine ae ?_
 refine sr ?_
 refine aa.cl ab 1 [2,4,5,6,13] [2,5,9,12] ?_
 obtain⟨x3,hx3,h⟩:=bind_some h
 refine aa.a7 (xe bB (aw x2.2 6 _ hx3)) ?_
 refine bO ab 1 [2,4,5,6,7] [2,5,9,12] ?_
 refine aU h (fun j4=>⟨42,[(2,.ref 2 0),(4,.ref 9 0),(5,.ref 5 0),(6,.own 6)],[(2,.box [vl ad ([]:List Place),vl aj ([]:List ay)]),(5,.box (tc aQ x2.1)),(9,.box (tc ak j4.1)),(6,oa 37 6 aF j4.2)]⟩) (fun v5 h=> ?_) (fun j4 h=> ?_)
 refine ax (a:=v5) ?_
 refine bc (r:=v5) (s:=(x3.1,x3.2,([]:List Change))) _ (fun s6=>⟨42,[(2,.ref 2 0),(4,.ref 9 0),(5,.ref 5 0),(6,.own 6),(7,vi s6.1)],[(2,.box [vl ad ([]:List Place),vl aj ([]:List ay)]),(5,.box (tc aQ x2.1)),(9,.box (tc ak s6.2.1)),(6,oa 37 6 aF s6.2.2)]⟩) _ (Le.rr [2,5,9,12] [(12,6)]) h (fun s6 v7 h=> ?_)
 refine ae ?_
 refine aJ ab [2,4,5,6,7,16] [2,5,6,9] ?_
 refine aq h (fun h=> ?_) fun h=> ?_
 refine ai ?_
 refine bq ?_
 refine ae ?_
 refine aU h (fun j8=>⟨42,[(2,.ref 2 0),(4,.ref 9 0),(5,.ref 5 0),(6,.own 6),(7,vi s6.1)],[(2,.box [vl ad ([]:List Place),vl aj ([]:List ay)]),(5,.box (tc aQ x2.1)),(6,oa 37 6 aF j8.1),(9,.box (tc ak j8.2))]⟩) (fun v9 h=> ?_) (fun j8 h=> ?_)
 refine ax (a:=v9) ?_
 refine aD ?_
 refine aa.cl ab 3 [2,4,5,7,19,20,21] [2,5,6,9] ?_
 obtain⟨x10,hx10,h⟩:=bind_some h
 refine aa.a7 (xe xa (iT s6.2.1 x2.1 _ hx10)) ?_
 refine aa.cl ab 1 [2,4,5,7,19,23] [2,5,6,9,23] ?_
 obtain⟨x11,hx11,h⟩:=bind_some h
 refine aa.a7 (bh (f:=aF) (t:=48) (ti:=zT) (tj:=va) (zs:=[.int .i64 0,.int .i64 0,.string (ByteArray.mk #[]),.string (ByteArray.mk #[]),.string (ByteArray.mk #[]),.string (ByteArray.mk #[])]) (e:=37) (m:=6) (d:=6) (xv:= .own 23) hx11 ab rfl rfl rfl rfl (bT (e:=37))) ?_
 refine aa.cl ab 1 [2,4,5,6,7] [2,5,9,24] ?_
 refine aa.nil ?_
 obtain rfl:=inj h
 exact bt (cI (Le.rr [2,5,9,24] [(24,6)]))
 refine aD ?_
 refine aa.cl ab 3 [2,4,5,6,7] [2,5,6,9] ?_
 refine aa.nil ?_
 obtain rfl:=inj h
 exact cn (Le.an)
 refine a6 ?_
 obtain rfl:=inj h
 exact cE (cG (cF (cI (Le.an))))
 refine ae ?_
 refine sr ?_
 refine aa.cl ab 1 [2,4,5,6,25] [2,5,6,9] ?_
 obtain⟨x12,hx12,h⟩:=bind_some h
 refine aa.a7 (xe bB (aw j4.1 24 _ hx12)) ?_
 refine bO ab 1 [2,4,5,6,27] [2,5,6,9] ?_
 refine aU h (fun j13=>⟨42,[(2,.ref 2 0),(5,.ref 5 0),(6,.own 6)],[(2,.box [vl ad ([]:List Place),vl aj ([]:List ay)]),(5,.box (tc aQ x2.1)),(6,oa 37 6 aF j13)]⟩) (fun v14 h=> ?_) (fun j13 h=> ?_)
 refine aq h (fun h=> ?_) fun h=> ?_
 refine ax (a:=v14) ?_
 refine bc (r:=v14) (s:=(j4.2,x12.2)) _ (fun s15=>⟨42,[(2,.ref 2 0),(4,.ref 9 0),(5,.ref 5 0),(6,.own 6)],[(2,.box [vl ad ([]:List Place),vl aj ([]:List ay)]),(5,.box (tc aQ x2.1)),(6,oa 37 6 aF s15.1),(9,.box (tc ak s15.2))]⟩) _ (Le.an) h (fun s15 v16 h=> ?_)
 refine ae ?_
 refine sr ?_
 refine aa.cl ab 3 [2,4,5,6,29,30] [2,5,6,9] ?_
 obtain⟨x17,hx17,h⟩:=bind_some h
 refine aa.a7 (xe bB (aw s15.2 2 _ hx17)) ?_
 refine bO ab 2 [2,4,5,6,33] [2,5,6,9] ?_
 refine aq h (fun h=> ?_) fun h=> ?_
 refine ai ?_
 refine bq ?_
 refine ax (a:=v16) ?_
 refine aD ?_
 refine aa.cl ab 3 [2,4,5,34,35,36] [2,5,6,9] ?_
 obtain⟨x18,hx18,h⟩:=bind_some h
 refine aa.a7 (xe xa (iT x17.2 x2.1 _ hx18)) ?_
 refine aa.cl ab 1 [2,4,5,34,38] [2,5,6,9,38] ?_
 obtain⟨x19,hx19,h⟩:=bind_some h
 refine aa.a7 (bh (f:=aF) (t:=48) (ti:=zT) (tj:=va) (zs:=[.int .i64 0,.int .i64 0,.string (ByteArray.mk #[]),.string (ByteArray.mk #[]),.string (ByteArray.mk #[]),.string (ByteArray.mk #[])]) (e:=37) (m:=6) (d:=6) (xv:= .own 38) hx19 ab rfl rfl rfl rfl (bT (e:=37))) ?_
 refine aa.cl ab 1 [2,4,5,6] [2,5,9,39] ?_
 refine aa.nil ?_
 obtain rfl:=inj h
 exact bt (cn (Le.rr [2,5,9,39] [(39,6)]))
 refine a6 ?_
 obtain rfl:=inj h
 exact cE (cG (cF (cI (Le.an))))
 refine ai ?_
 obtain rfl:=inj h
 exact cI (Le.an)
 refine aJ ab [2,3] [2,6] ?_
 refine ah ?_
 obtain rfl:=inj h
 exact aO (f2 (kq rfl (cA ab (d:=2) (cs:=[vl ad x2.1.Places,vl aj x2.1.Links]) (ti:=iE) (by kernel_rfl) (by kernel_rfl) (by kernel_rfl) (by kernel_rfl))) (DI (d:=6) (fP (by kernel_rfl)) (by kernel_rfl) (by kernel_rfl)))
theorem D9:bg Tryz.prog 20:=az Tryz.func20 (by kernel_rfl) rfl
noncomputable def gJ(aA:(List Name))(aB:(List Name)):Option (Bool):=
 (bif((aA.length:Int) !=(aB.length:Int))then some false else(((dt (aA.length:Int) (fun(i3:Int) (_:Unit)=>((at' aA i3).bind fun x7=>((at' aB i3).bind fun x8=>(bif(!((x7.Text.toList==x8.Text.toList)&&((x7.Language.toList==x8.Language.toList)&&((x7.Status==x8.Status)&&((x7.Years.From==x8.Years.From)&&(x7.Years.To==x8.Years.To))))))then some (.inr (.inr false))else some (.inl ()))))) (fun(_:Unit)=> .inl ()) 0 ())).bind (Sum.elim (fun(_:Unit)=>some true) some)))
theorem oN(aA:(List Name))(aB:(List Name))(r:Bool)(h:gJ aA aB=some r):aR Tryz.prog 103 [.v (vl ao aA),.v (vl ao aB)] ⟨[.v (vb r)],[],false⟩:=by
 refine au Tryz.func103 rfl [(.tmp 4)] rfl (fun r=>⟨[.v (vb r)],[],false⟩) (r:=r) ?_
 unfold gJ at h
 refine aJ ab [0,1] [] ?_
 refine ae ?_
 refine aJ ab [0,1,10] [] ?_
 refine aq h (fun h=> ?_) fun h=> ?_
 refine aJ ab [4] [] ?_
 refine ah ?_
 obtain rfl:=inj h
 exact cY (aO (f1 fv))
 refine ai ?_
 refine bq ?_
 refine ae ?_
 refine aJ ab [0,1,5] [] ?_
 refine bp (r:=r) h (fun j1=>⟨26,[],[]⟩) (fun v2 h=> ?_) (fun j1 h=> ?_)
 refine ax (a:=v2) ?_
 refine bc (r:=v2) (s:=(0,())) _ (fun s3=>⟨26,[(0,vl ao aA),(1,vl ao aB),(5,vi s3.1)],[]⟩) _ (Le.an) h (fun s3 v4 h=> ?_)
 refine ae ?_
 refine aJ ab [0,1,5,14] [] ?_
 refine aq h (fun h=> ?_) fun h=> ?_
 refine ai ?_
 refine bq ?_
 refine ae ?_
 refine bD (r:=v4) h (fun j5=>⟨26,[(0,vl ao aA),(1,vl ao aB),(5,vi s3.1)],[]⟩) (fun v6 h=> ?_) (fun j5 h=> ?_)
 refine ax (a:=v6) ?_
 refine ae ?_
 refine cV mixed ?_
 refine aH.cl ab false 2 [0,1,5,17,18] [] ?_
 obtain⟨x7,hx7,h⟩:=bind_some h
 refine aH.step (aY (L:=aA) (f:=ao) (ti:=eb) (tj:=dg) (e:=169) (k:= .i64) ab rfl hx7) ?_
 refine aH.cl ab false 3 [0,1,5,20,21,22] [] ?_
 obtain⟨x8,hx8,h⟩:=bind_some h
 refine aH.step (aY (L:=aB) (f:=ao) (ti:=eb) (tj:=dg) (e:=169) (k:= .i64) ab rfl hx8) ?_
 refine aH.cl ab false 1 [0,1,5,20,24] [] ?_
 refine aH.step (oY ab true (xs:=[vs x7.Text,vs x7.Language,vi x7.Status,vi x7.Years.From,vi x7.Years.To]) (ys:=[vs x8.Text,vs x8.Language,vi x8.Status,vi x8.Years.From,vi x8.Years.To]) (b:=((x7.Text.toList==x8.Text.toList)&&((x7.Language.toList==x8.Language.toList)&&((x7.Status==x8.Status)&&((x7.Years.From==x8.Years.From)&&(x7.Years.To==x8.Years.To)))))) rfl) ?_
 refine aH.nx ?_
 refine aq h (fun h=> ?_) fun h=> ?_
 refine aJ ab [4] [] ?_
 refine ah ?_
 obtain rfl:=inj h
 exact bE (bo (bo (bE (bo (aO (f1 fv))))))
 refine ai ?_
 obtain rfl:=inj h
 exact bt (cn (Le.an))
 refine aD ?_
 refine aa.cl ab 3 [0,1,5] [] ?_
 refine aa.nil ?_
 obtain rfl:=inj h
 exact cn (Le.an)
 refine a6 ?_
 obtain rfl:=inj h
 exact cE (cG (cF (cn (Le.an))))
 refine aJ ab [4] [] ?_
 refine ah ?_
 obtain rfl:=inj h
 exact aO (f1 fv)
theorem B8:bg Tryz.prog 103:=az Tryz.func103 (by kernel_rfl) rfl
noncomputable def gg(aA:(List Place))(aB:(List Place)):Option (Bool):=
 (bif((aA.length:Int) !=(aB.length:Int))then some false else(((dt (aA.length:Int) (fun(i3:Int) (_:Unit)=>((((at' aA i3).bind fun x7=>((at' aB i3).bind fun x8=>(bif(!(x7.Code.toList==x8.Code.toList))then some true else((at' aA i3).bind fun x9=>((at' aB i3).bind fun x10=>(bif(x9.Class !=x10.Class)then some true else((at' aA i3).bind fun x11=>((at' aB i3).bind fun x12=>(bif(!((x11.Years.From==x12.Years.From)&&(x11.Years.To==x12.Years.To)))then some true else((at' aA i3).bind fun x13=>((at' aB i3).bind fun x14=>((gJ x13.Names x14.Names).bind fun x15=>some (!x15)))))))))))))).bind fun(j16:Bool)=>(bif j16 then some (.inr (.inr false))else some (.inl ())))) (fun(_:Unit)=> .inl ()) 0 ())).bind (Sum.elim (fun(_:Unit)=>some true) some)))
theorem oh(aA:(List Place))(aB:(List Place))(r:Bool)(h:gg aA aB=some r):aR Tryz.prog 52 [.v (vl ad aA),.v (vl ad aB)] ⟨[.v (vb r)],[],false⟩:=by
 refine au Tryz.func52 rfl [(.tmp 4)] rfl (fun r=>⟨[.v (vb r)],[],false⟩) (r:=r) ?_
 unfold gg at h
 refine aJ ab [0,1] [] ?_
 refine ae ?_
 refine aJ ab [0,1,10] [] ?_
 refine aq h (fun h=> ?_) fun h=> ?_
 refine aJ ab [4] [] ?_
 refine ah ?_
 obtain rfl:=inj h
 exact cY (aO (f1 fv))
 refine ai ?_
 refine bq ?_
 refine ae ?_
 refine aJ ab [0,1,5] [] ?_
 refine bp (r:=r) h (fun j1=>⟨68,[],[]⟩) (fun v2 h=> ?_) (fun j1 h=> ?_)
 refine ax (a:=v2) ?_
 refine bc (r:=v2) (s:=(0,())) _ (fun s3=>⟨68,[(0,vl ad aA),(1,vl ad aB),(5,vi s3.1)],[]⟩) _ (Le.an) h (fun s3 v4 h=> ?_)
 refine ae ?_
 refine aJ ab [0,1,5,14] [] ?_
 refine aq h (fun h=> ?_) fun h=> ?_
 refine ai ?_
 refine bq ?_
 refine ae ?_
 refine bD (r:=v4) h (fun j5=>⟨68,[(0,vl ad aA),(1,vl ad aB),(5,vi s3.1)],[]⟩) (fun v6 h=> ?_) (fun j5 h=> ?_)
 refine ax (a:=v6) ?_
 refine ae ?_
 refine ie mixed h (fun j16=>⟨68,[(0,vl ad aA),(1,vl ad aB),(5,vi s3.1),(67,vb j16)],[]⟩) (fun v17 h=> ?_) (fun j16 h=> ?_)
 refine aH.cl ab false 2 [0,1,5,17,18] [] ?_
 obtain⟨x7,hx7,h⟩:=bind_some h
 refine aH.step (aY (L:=aA) (f:=ad) (ti:=bR) (tj:=bG) (e:=91) (k:= .i64) ab rfl hx7) ?_
 refine aH.cl ab false 4 [0,1,5,21,22,23] [] ?_
 obtain⟨x8,hx8,h⟩:=bind_some h
 refine aH.step (aY (L:=aB) (f:=ad) (ti:=bR) (tj:=bG) (e:=91) (k:= .i64) ab rfl hx8) ?_
 refine aH.cl ab false 4 [0,1,5,28] [] ?_
 refine aH.cu [(28,fun b=>b)] h (fun h=> ?_) fun h=> ?_
 refine aH.cl ab false 39 [0,1,5,67] [] ?_
 refine aH.nil (by kernel_rfl) ?_
 obtain rfl:=inj h
 exact Le.an
 refine aH.cl ab false 2 [0,1,5,28,29,30] [] ?_
 obtain⟨x9,hx9,h⟩:=bind_some h
 refine aH.step (aY (L:=aA) (f:=ad) (ti:=bR) (tj:=bG) (e:=91) (k:= .i64) ab rfl hx9) ?_
 refine aH.cl ab false 4 [0,1,5,28,33,34,35] [] ?_
 obtain⟨x10,hx10,h⟩:=bind_some h
 refine aH.step (aY (L:=aB) (f:=ad) (ti:=bR) (tj:=bG) (e:=91) (k:= .i64) ab rfl hx10) ?_
 refine aH.cl ab false 5 [0,1,5,41] [] ?_
 refine aH.cu [(41,fun b=>b)] h (fun h=> ?_) fun h=> ?_
 refine aH.cl ab false 26 [0,1,5,67] [] ?_
 refine aH.nil (by kernel_rfl) ?_
 obtain rfl:=inj h
 exact Le.an
 refine aH.ck ab false 2 ⟨68,[(0,vl ad aA),(1,vl ad aB),(5,vi s3.1),(41,vb false),(42,vl ad aA),(43,vi s3.1)],[]⟩ ?_
 obtain⟨x11,hx11,h⟩:=bind_some h
 refine aH.step (aY (L:=aA) (f:=ad) (ti:=bR) (tj:=bG) (e:=91) (k:= .i64) ab rfl hx11) ?_
 refine aH.cl ab false 4 [0,1,5,41,46,47,48] [] ?_
 obtain⟨x12,hx12,h⟩:=bind_some h
 refine aH.step (aY (L:=aB) (f:=ad) (ti:=bR) (tj:=bG) (e:=91) (k:= .i64) ab rfl hx12) ?_
 refine aH.cl ab false 2 [0,1,5,41,46,51] [] ?_
 refine aH.step (oY ab true (xs:=[vi x11.Years.From,vi x11.Years.To]) (ys:=[vi x12.Years.From,vi x12.Years.To]) (b:=((x11.Years.From==x12.Years.From)&&(x11.Years.To==x12.Years.To))) rfl) ?_
 refine aH.cl ab false 2 [0,1,5,54] [] ?_
 refine aH.cu [(54,fun b=>b)] h (fun h=> ?_) fun h=> ?_
 refine aH.cl ab false 13 [0,1,5,67] [] ?_
 refine aH.nil (by kernel_rfl) ?_
 obtain rfl:=inj h
 exact Le.an
 refine aH.cl ab false 2 [0,1,5,54,55,56] [] ?_
 obtain⟨x13,hx13,h⟩:=bind_some h
 refine aH.step (aY (L:=aA) (f:=ad) (ti:=bR) (tj:=bG) (e:=91) (k:= .i64) ab rfl hx13) ?_
 refine aH.cl ab false 4 [0,1,5,54,59,60,61] [] ?_
 obtain⟨x14,hx14,h⟩:=bind_some h
 refine aH.step (aY (L:=aB) (f:=ad) (ti:=bR) (tj:=bG) (e:=91) (k:= .i64) ab rfl hx14) ?_
 refine aH.cl ab false 2 [0,1,5,54,59,64] [] ?_
 obtain⟨x15,hx15,h⟩:=bind_some h
 refine aH.step (xc B8 (oN x13.Names x14.Names _ hx15)) ?_
 refine aH.cl ab false 2 [0,1,5,67] [] ?_
 refine aH.nil (by kernel_rfl) ?_
 obtain rfl:=inj h
 exact Le.an
 refine aq h (fun h=> ?_) fun h=> ?_
 refine kM ab ⟨68,[(4,vb false)],[]⟩ ?_
 refine ah ?_
 obtain rfl:=inj h
 exact bE (bo (bo (bE (bo (aO (f1 fv))))))
 refine ai ?_
 obtain rfl:=inj h
 exact bt (cn (Le.an))
 refine aD ?_
 refine aa.cl ab 3 [0,1,5] [] ?_
 refine aa.nil ?_
 obtain rfl:=inj h
 exact cn (Le.an)
 refine a6 ?_
 obtain rfl:=inj h
 exact cE (cG (cF (cn (Le.an))))
 refine aJ ab [4] [] ?_
 refine ah ?_
 obtain rfl:=inj h
 exact aO (f1 fv)
theorem Eg:bg Tryz.prog 52:=az Tryz.func52 (by kernel_rfl) rfl
noncomputable def gI(aA:(List ay))(aB:(List ay)):Option (Bool):=
 (bif((aA.length:Int) !=(aB.length:Int))then some false else(((dt (aA.length:Int) (fun(i3:Int) (_:Unit)=>((at' aA i3).bind fun x7=>((at' aB i3).bind fun x8=>(bif(!((x7.Child.toList==x8.Child.toList)&&((x7.Parent.toList==x8.Parent.toList)&&((x7.Years.From==x8.Years.From)&&(x7.Years.To==x8.Years.To)))))then some (.inr (.inr false))else some (.inl ()))))) (fun(_:Unit)=> .inl ()) 0 ())).bind (Sum.elim (fun(_:Unit)=>some true) some)))
theorem oM(aA:(List ay))(aB:(List ay))(r:Bool)(h:gI aA aB=some r):aR Tryz.prog 53 [.v (vl aj aA),.v (vl aj aB)] ⟨[.v (vb r)],[],false⟩:=by
 refine au Tryz.func53 rfl [(.tmp 4)] rfl (fun r=>⟨[.v (vb r)],[],false⟩) (r:=r) ?_
 unfold gI at h
 refine aJ ab [0,1] [] ?_
 refine ae ?_
 refine aJ ab [0,1,10] [] ?_
 refine aq h (fun h=> ?_) fun h=> ?_
 refine aJ ab [4] [] ?_
 refine ah ?_
 obtain rfl:=inj h
 exact cY (aO (f1 fv))
 refine ai ?_
 refine bq ?_
 refine ae ?_
 refine aJ ab [0,1,5] [] ?_
 refine bp (r:=r) h (fun j1=>⟨26,[],[]⟩) (fun v2 h=> ?_) (fun j1 h=> ?_)
 refine ax (a:=v2) ?_
 refine bc (r:=v2) (s:=(0,())) _ (fun s3=>⟨26,[(0,vl aj aA),(1,vl aj aB),(5,vi s3.1)],[]⟩) _ (Le.an) h (fun s3 v4 h=> ?_)
 refine ae ?_
 refine aJ ab [0,1,5,14] [] ?_
 refine aq h (fun h=> ?_) fun h=> ?_
 refine ai ?_
 refine bq ?_
 refine ae ?_
 refine bD (r:=v4) h (fun j5=>⟨26,[(0,vl aj aA),(1,vl aj aB),(5,vi s3.1)],[]⟩) (fun v6 h=> ?_) (fun j5 h=> ?_)
 refine ax (a:=v6) ?_
 refine ae ?_
 refine cV mixed ?_
 refine aH.cl ab false 2 [0,1,5,17,18] [] ?_
 obtain⟨x7,hx7,h⟩:=bind_some h
 refine aH.step (aY (L:=aA) (f:=aj) (ti:=eo) (tj:=ew) (e:=85) (k:= .i64) ab rfl hx7) ?_
 refine aH.cl ab false 3 [0,1,5,20,21,22] [] ?_
 obtain⟨x8,hx8,h⟩:=bind_some h
 refine aH.step (aY (L:=aB) (f:=aj) (ti:=eo) (tj:=ew) (e:=85) (k:= .i64) ab rfl hx8) ?_
 refine aH.cl ab false 1 [0,1,5,20,24] [] ?_
 refine aH.step (oY ab true (xs:=[vs x7.Child,vs x7.Parent,vi x7.Years.From,vi x7.Years.To]) (ys:=[vs x8.Child,vs x8.Parent,vi x8.Years.From,vi x8.Years.To]) (b:=((x7.Child.toList==x8.Child.toList)&&((x7.Parent.toList==x8.Parent.toList)&&((x7.Years.From==x8.Years.From)&&(x7.Years.To==x8.Years.To))))) rfl) ?_
 refine aH.nx ?_
 refine aq h (fun h=> ?_) fun h=> ?_
 refine aJ ab [4] [] ?_
 refine ah ?_
 obtain rfl:=inj h
 exact bE (bo (bo (bE (bo (aO (f1 fv))))))
 refine ai ?_
 obtain rfl:=inj h
 exact bt (cn (Le.an))
 refine aD ?_
 refine aa.cl ab 3 [0,1,5] [] ?_
 refine aa.nil ?_
 obtain rfl:=inj h
 exact cn (Le.an)
 refine a6 ?_
 obtain rfl:=inj h
 exact cE (cG (cF (cn (Le.an))))
 refine aJ ab [4] [] ?_
 refine ah ?_
 obtain rfl:=inj h
 exact aO (f1 fv)
theorem Eh:bg Tryz.prog 53:=az Tryz.func53 (by kernel_rfl) rfl
noncomputable def fu(aA:World)(aB:World):Option (Bool):=
 ((((gg aA.Places aB.Places).bind fun x1=>(bif x1 then((gI aA.Links aB.Links).bind fun x2=>some x2)else some false))).bind fun(j3:Bool)=>some j3)
theorem k9(aA:World)(aB:World)(r:Bool)(h:fu aA aB=some r):aR Tryz.prog 23 [.v (.agg (tc aQ aA)),.v (.agg (tc aQ aB))] ⟨[.v (vb r)],[],false⟩:=by
 refine au Tryz.func23 rfl [(.tmp 4)] rfl (fun r=>⟨[.v (vb r)],[],false⟩) (r:=r) ?_
 unfold fu at h
 refine aJ ab [2,3] [2,3] ?_
 refine ae ?_
 refine bn h (fun j3=>⟨17,[(4,vb j3)],[]⟩) (fun v4 h=> ?_) (fun j3 h=> ?_)
 refine aa.cl ab 4 [2,3,6,8] [2,3] ?_
 obtain⟨x1,hx1,h⟩:=bind_some h
 refine aa.ls (xc Eg (oh aA.Places aB.Places _ hx1)) ?_
 refine aa.cl ab 1 [2,3,10] [2,3] ?_
 refine aa.cu [(10,fun b=>b)] h (fun h=> ?_) fun h=> ?_
 refine aa.cl ab 4 [10,12,14] [] ?_
 obtain⟨x2,hx2,h⟩:=bind_some h
 refine aa.ls (xc Eh (oM aA.Links aB.Links _ hx2)) ?_
 refine aa.cl ab 2 [4] [] ?_
 refine aa.nil ?_
 obtain rfl:=inj h
 exact Le.an
 refine aa.cl ab 7 [4] [] ?_
 refine aa.nil ?_
 obtain rfl:=inj h
 exact Le.an
 refine ah ?_
 obtain rfl:=inj h
 exact aO (f1 fv)
theorem Ax:bg Tryz.prog 23:=az Tryz.func23 (by kernel_rfl) rfl
noncomputable def gH(af:(List Int))(ik:Int)(ey:Int):Option (Bool):=
 (((dt (af.length:Int) (fun(i3:Int) (_:Unit)=>((at' af i3).bind fun x7=>((dO x7 ik ey).bind fun x8=>(bif(!x8)then some (.inr (.inr false))else some (.inl ()))))) (fun(_:Unit)=> .inl ()) 0 ())).bind (Sum.elim (fun(_:Unit)=>some true) some))
theorem oI(af:(List Int))(ik:Int)(ey:Int)(r:Bool)(h:gH af ik ey=some r):aR Tryz.prog 116 [.v (vl (eI .i64) af),.v (vi ik),.v (vi ey)] ⟨[.v (vb r)],[],false⟩:=by
 refine au Tryz.func116 rfl [(.tmp 6)] rfl (fun r=>⟨[.v (vb r)],[],false⟩) (r:=r) ?_
 unfold gH at h
 refine aJ ab [0,1,2] [] ?_
 refine ae ?_
 refine aJ ab [1,2,9,10,11] [] ?_
 refine bp (r:=r) h (fun j1=>⟨21,[],[]⟩) (fun v2 h=> ?_) (fun j1 h=> ?_)
 refine ax (a:=v2) ?_
 refine bc (r:=v2) (s:=(0,())) _ (fun s3=>⟨21,[(1,vi ik),(2,vi ey),(9,vl (eI .i64) af),(10,vi (af.length:Int)),(11,vi s3.1)],[]⟩) _ (Le.an) h (fun s3 v4 h=> ?_)
 refine aJ ab [1,2,9,10,11,12] [] ?_
 refine ae ?_
 refine aq h (fun h=> ?_) fun h=> ?_
 refine ai ?_
 refine bq ?_
 refine ae ?_
 refine bD (r:=v4) h (fun j5=>⟨21,[(1,vi ik),(2,vi ey),(9,vl (eI .i64) af),(10,vi (af.length:Int)),(11,vi s3.1)],[]⟩) (fun v6 h=> ?_) (fun j5 h=> ?_)
 refine ax (a:=v6) ?_
 refine sr ?_
 obtain⟨x7,hx7,h⟩:=bind_some h
 refine aa.ls (aY (L:=af) (f:=(eI .i64)) (ti:=sR) (tj:=ti2) (e:=2) (k:= .i64) ab rfl hx7) ?_
 refine bO ab 2 [1,2,8,9,10,11] [] ?_
 refine sr ?_
 refine aa.cl ab 3 [1,2,9,10,11,15,16,17] [] ?_
 obtain⟨x8,hx8,h⟩:=bind_some h
 refine aa.ls (xc nf (du x7 ik ey _ hx8)) ?_
 refine bO ab 1 [1,2,9,10,11,19] [] ?_
 refine aq h (fun h=> ?_) fun h=> ?_
 refine aJ ab [6] [] ?_
 refine ah ?_
 obtain rfl:=inj h
 exact bE (bo (bo (bE (bo (aO (f1 fv))))))
 refine ai ?_
 obtain rfl:=inj h
 exact bt (cn (Le.an))
 refine aD ?_
 refine aa.cl ab 2 [1,2,9,10,11] [] ?_
 refine aa.nil ?_
 obtain rfl:=inj h
 exact cn (Le.an)
 refine a6 ?_
 obtain rfl:=inj h
 exact cE (cG (cF (cn (Le.an))))
 refine aJ ab [6] [] ?_
 refine ah ?_
 obtain rfl:=inj h
 exact aO (f1 fv)
theorem Ce:bg Tryz.prog 116:=az Tryz.func116 (by kernel_rfl) rfl
noncomputable def jl(aW:World)(aOk:Bool)(pU:(List Int)):Option (Int):=
 ((((((dk aW).bind fun x3=>(bif(!x3)then some true else some (!aOk)))).bind fun(j4:Bool)=>(bif j4 then some (.inr 1)else((gH pU (-3000) 3000).bind fun x6=>(bif(!x6)then some (.inr 2)else some (.inl ())))))).bind (Sum.elim (fun(_:Unit)=>some 0) some))
theorem oJ(aW:World)(aOk:Bool)(pU:(List Int))(r:Int)(h:jl aW aOk pU=some r):aR Tryz.prog 62 [.v (.agg (tc aQ aW)),.v (vb aOk),.v (vl (eI .i64) pU)] ⟨[.v (vi r)],[],false⟩:=by
 refine au Tryz.func62 rfl [(.tmp 6)] rfl (fun r=>⟨[.v (vi r)],[],false⟩) (r:=r) ?_
 unfold jl at h
 refine aJ ab [1,2,3] [3] ?_
 refine ae ?_
 refine bp (r:=r) h (fun j1=>⟨19,[],[]⟩) (fun v2 h=> ?_) (fun j1 h=> ?_)
 refine ax (a:=v2) ?_
 refine ae ?_
 refine bn h (fun j4=>⟨19,[(2,vl (eI .i64) pU),(7,vb j4)],[]⟩) (fun v5 h=> ?_) (fun j4 h=> ?_)
 refine aa.cl ab 1 [1,2,8] [] ?_
 obtain⟨x3,hx3,h⟩:=bind_some h
 refine aa.ls (xc oC (dD aW _ hx3)) ?_
 refine aa.cl ab 2 [1,2,11] [] ?_
 refine aa.cu [(11,fun b=>b)] h (fun h=> ?_) fun h=> ?_
 refine aa.cl ab 4 [2,7] [] ?_
 refine aa.nil ?_
 obtain rfl:=inj h
 exact Le.an
 refine aa.cl ab 4 [2,7] [] ?_
 refine aa.nil ?_
 obtain rfl:=inj h
 exact Le.an
 refine aq h (fun h=> ?_) fun h=> ?_
 refine kM ab ⟨19,[(6,vi 1)],[]⟩ ?_
 refine ah ?_
 obtain rfl:=inj h
 exact bE (bo (aO (f1 fv)))
 refine sr ?_
 refine aa.cl ab 1 [16] [] ?_
 obtain⟨x6,hx6,h⟩:=bind_some h
 refine aa.ls (xc Ce (oI pU (-3000) 3000 _ hx6)) ?_
 refine bO ab 2 [15] [] ?_
 refine aq h (fun h=> ?_) fun h=> ?_
 refine kM ab ⟨19,[(6,vi 2)],[]⟩ ?_
 refine ah ?_
 obtain rfl:=inj h
 exact bE (bo (aO (f1 fv)))
 refine ai ?_
 obtain rfl:=inj h
 exact bt (cn (Le.an))
 refine kM ab ⟨19,[(6,vi 0)],[]⟩ ?_
 refine ah ?_
 obtain rfl:=inj h
 exact aO (f1 fv)
theorem Ek:bg Tryz.prog 62:=az Tryz.func62 (by kernel_rfl) rfl
noncomputable def iJ(aP:Place)(c0:Int):Option (Bool):=
 ((bI aP.Years c0).bind fun x1=>some x1)
theorem oc(aP:Place)(c0:Int)(r:Bool)(h:iJ aP c0=some r):aR Tryz.prog 117 [.v (.agg (tc ad aP)),.v (.ptr [vi c0] 0)] ⟨[.v (vb r)],[],false⟩:=by
 refine au Tryz.func117 rfl [(.tmp 3)] rfl (fun r=>⟨[.v (vb r)],[],false⟩) (r:=r) ?_
 unfold iJ at h
 refine aJ ab [1,2] [2] ?_
 refine sr ?_
 refine aa.cl ab 3 [5,6] [] ?_
 obtain⟨x1,hx1,h⟩:=bind_some h
 refine aa.ls (xc lO (cw aP.Years c0 _ hx1)) ?_
 refine ckn ab 1 ⟨8,[(3,vb x1)],[]⟩ ?_
 refine ah ?_
 obtain rfl:=inj h
 exact aO (f1 fv)
theorem Cf:bg Tryz.prog 117:=az Tryz.func117 (by kernel_rfl) rfl
noncomputable def cf(af:(List Place))(n5:Int):Option ((List ByteArray)):=
 (((jH (af.length:Int) (fun(i3:Int) (s3:(List ByteArray))=>((at' af i3).bind fun x7=>((iJ x7 n5).bind fun x8=>(bif x8 then((c4 s3 ([x7.Code]:List ByteArray)).bind fun x9=>some x9)else some s3)))) (fun(s3:(List ByteArray))=>s3) 0 ([]:List ByteArray))).bind fun(j1:(List ByteArray))=>some j1)
theorem eO(af:(List Place))(n5:Int)(r:(List ByteArray))(h:cf af n5=some r):aR Tryz.prog 118 [.v (vl ad af),.v (.clo 117 [.ptr [vi n5] 0])] ⟨[.own 9 1 r.length (r.map eS)],[],false⟩:=by
 refine au Tryz.func118 rfl [(.tmp 4)] rfl (fun r=>⟨[.own 9 1 r.length (r.map eS)],[],false⟩) (r:=r) ?_
 unfold cf at h
 refine aJ ab [0,1] [] ?_
 refine aJ ab [0,1,5] [5] ?_
 refine ae ?_
 refine aJ ab [1,5,8,9,10] [5] ?_
 refine aU h (fun j1=>⟨24,[(5,.own 5)],[(5,oa 9 1 eS j1)]⟩) (fun v2 h=> ?_) (fun j1 h=> ?_)
 refine ax (a:=v2) ?_
 refine bc (r:=v2) (s:=(0,([]:List ByteArray))) _ (fun s3=>⟨24,[(1,.clo 117 [.ptr [vi n5] 0]),(5,.own 5),(8,vl ad af),(9,vi (af.length:Int)),(10,vi s3.1)],[(5,oa 9 1 eS s3.2)]⟩) _ (Le.an) h (fun s3 v4 h=> ?_)
 refine aJ ab [1,5,8,9,10,11] [5] ?_
 refine ae ?_
 refine aq h (fun h=> ?_) fun h=> ?_
 refine ai ?_
 refine bq ?_
 refine ae ?_
 refine aU h (fun j5=>⟨24,[(1,.clo 117 [.ptr [vi n5] 0]),(5,.own 5),(8,vl ad af),(9,vi (af.length:Int)),(10,vi s3.1)],[(5,oa 9 1 eS j5)]⟩) (fun v6 h=> ?_) (fun j5 h=> ?_)
 refine ax (a:=v6) ?_
 refine sr ?_
 obtain⟨x7,hx7,h⟩:=bind_some h
 refine aa.ls (aY (L:=af) (f:=ad) (ti:=bR) (tj:=bG) (e:=91) (k:= .i64) ab rfl hx7) ?_
 refine bO ab 3 [1,5,7,8,9,10] [5,7] ?_
 refine sr ?_
 refine aa.cl ab 2 [1,5,7,8,9,10,14,15] [5,7] ?_
 obtain⟨x8,hx8,h⟩:=bind_some h
 refine aa.ls (xc Cf (oc x7 n5 _ hx8)) ?_
 refine aa.nx ?_
 refine aq h (fun h=> ?_) fun h=> ?_
 refine aD ?_
 refine aa.cl ab 4 [1,8,9,10,17,20] [5,20] ?_
 obtain⟨x9,hx9,h⟩:=bind_some h
 refine aa.a7 (bh (f:=eS) (t:=106) (ti:=bU) (tj:=et) (zs:=[.string (ByteArray.mk #[])]) (e:=9) (m:=1) (d:=5) (xv:= .own 20) hx9 ab rfl rfl rfl rfl (bT (e:=9))) ?_
 refine aa.cl ab 1 [1,5,8,9,10] [21] ?_
 refine aa.nil ?_
 obtain rfl:=inj h
 exact bt (cI (Le.rr [21] [(21,5)]))
 refine ai ?_
 obtain rfl:=inj h
 exact bt (cI (Le.an))
 refine aD ?_
 refine aa.cl ab 2 [1,5,8,9,10] [5] ?_
 refine aa.nil ?_
 obtain rfl:=inj h
 exact cn (Le.an)
 refine a6 ?_
 obtain rfl:=inj h
 exact cE (cG (cF (cI (Le.an))))
 refine aJ ab [4] [5] ?_
 refine ah ?_
 obtain rfl:=inj h
 exact aO (f1 (fo fh))
theorem xZ:bg Tryz.prog 118:=az Tryz.func118 (by kernel_rfl) rfl
noncomputable def dr(aS1:(List ByteArray))(aS2:(List ByteArray)):Option (Bool):=
 (bif((aS1.length:Int) !=(aS2.length:Int))then some false else(((dt (aS1.length:Int) (fun(i3:Int) (_:Unit)=>((at' aS1 i3).bind fun x7=>((at' aS2 i3).bind fun x8=>(bif(!(x7.toList==x8.toList))then some (.inr (.inr false))else some (.inl ()))))) (fun(_:Unit)=> .inl ()) 0 ())).bind (Sum.elim (fun(_:Unit)=>some true) some)))
theorem iW(aS1:(List ByteArray))(aS2:(List ByteArray))(r:Bool)(h:dr aS1 aS2=some r):aR Tryz.prog 119 [.v (vl eS aS1),.v (vl eS aS2)] ⟨[.v (vb r)],[],false⟩:=by
 refine au Tryz.func119 rfl [(.tmp 4)] rfl (fun r=>⟨[.v (vb r)],[],false⟩) (r:=r) ?_
 unfold dr at h
 refine aJ ab [0,1] [] ?_
 refine ae ?_
 refine aJ ab [0,1,10] [] ?_
 refine aq h (fun h=> ?_) fun h=> ?_
 refine aJ ab [4] [] ?_
 refine ah ?_
 obtain rfl:=inj h
 exact cY (aO (f1 fv))
 refine ai ?_
 refine bq ?_
 refine ae ?_
 refine aJ ab [0,1,12,13] [] ?_
 refine bp (r:=r) h (fun j1=>⟨26,[],[]⟩) (fun v2 h=> ?_) (fun j1 h=> ?_)
 refine ax (a:=v2) ?_
 refine bc (r:=v2) (s:=(0,())) _ (fun s3=>⟨26,[(0,vl eS aS1),(1,vl eS aS2),(12,vi (aS1.length:Int)),(13,vi s3.1)],[]⟩) _ (Le.an) h (fun s3 v4 h=> ?_)
 refine aJ ab [0,1,12,13,14] [] ?_
 refine ae ?_
 refine aq h (fun h=> ?_) fun h=> ?_
 refine ai ?_
 refine bq ?_
 refine ae ?_
 refine bD (r:=v4) h (fun j5=>⟨26,[(0,vl eS aS1),(1,vl eS aS2),(12,vi (aS1.length:Int)),(13,vi s3.1)],[]⟩) (fun v6 h=> ?_) (fun j5 h=> ?_)
 refine ax (a:=v6) ?_
 refine aJ ab [0,1,5,12,13] [] ?_
 refine ae ?_
 refine cV mixed ?_
 refine aH.cl ab false 2 [0,1,5,12,13,16,17] [] ?_
 obtain⟨x7,hx7,h⟩:=bind_some h
 refine aH.step (aY (L:=aS1) (f:=eS) (ti:=bU) (tj:=et) (e:=9) (k:= .i64) ab rfl hx7) ?_
 refine aH.cl ab false 3 [0,1,12,13,19,20,21] [] ?_
 obtain⟨x8,hx8,h⟩:=bind_some h
 refine aH.step (aY (L:=aS2) (f:=eS) (ti:=bU) (tj:=et) (e:=9) (k:= .i64) ab rfl hx8) ?_
 refine aH.cl ab false 2 [0,1,12,13,24] [] ?_
 refine aH.nx ?_
 refine aq h (fun h=> ?_) fun h=> ?_
 refine aJ ab [4] [] ?_
 refine ah ?_
 obtain rfl:=inj h
 exact bE (bo (bo (bE (bo (aO (f1 fv))))))
 refine ai ?_
 obtain rfl:=inj h
 exact bt (cn (Le.an))
 refine aD ?_
 refine aa.cl ab 2 [0,1,12,13] [] ?_
 refine aa.nil ?_
 obtain rfl:=inj h
 exact cn (Le.an)
 refine a6 ?_
 obtain rfl:=inj h
 exact cE (cG (cF (cn (Le.an))))
 refine aJ ab [4] [] ?_
 refine ah ?_
 obtain rfl:=inj h
 exact aO (f1 fv)
theorem ya:bg Tryz.prog 119:=az Tryz.func119 (by kernel_rfl) rfl
noncomputable def dF(aP:Place)(ap:Int):Option ((List ByteArray)):=
 (((jH (aP.Names.length:Int) (fun(i3:Int) (s3:(List ByteArray))=>((at' aP.Names i3).bind fun x7=>((bI x7.Years ap).bind fun x8=>(bif x8 then((c4 s3 ([x7.Text]:List ByteArray)).bind fun x9=>some x9)else some s3)))) (fun(s3:(List ByteArray))=>s3) 0 ([]:List ByteArray))).bind fun(j1:(List ByteArray))=>some j1)
theorem jg(aP:Place)(ap:Int)(r:(List ByteArray))(h:dF aP ap=some r):aR Tryz.prog 122 [.v (.agg (tc ad aP)),.v (vi ap)] ⟨[.own 9 1 r.length (r.map eS)],[],false⟩:=by
 refine au Tryz.func122 rfl [(.tmp 4)] rfl (fun r=>⟨[.own 9 1 r.length (r.map eS)],[],false⟩) (r:=r) ?_
 unfold dF at h
 refine aJ ab [1,2] [2] ?_
 refine aJ ab [1,2,5] [2,5] ?_
 refine ae ?_
 refine aJ ab [1,5,9,10,11] [5] ?_
 refine aU h (fun j1=>⟨26,[(5,.own 5)],[(5,oa 9 1 eS j1)]⟩) (fun v2 h=> ?_) (fun j1 h=> ?_)
 refine ax (a:=v2) ?_
 refine bc (r:=v2) (s:=(0,([]:List ByteArray))) _ (fun s3=>⟨26,[(1,vi ap),(5,.own 5),(9,vl ao aP.Names),(10,vi (aP.Names.length:Int)),(11,vi s3.1)],[(5,oa 9 1 eS s3.2)]⟩) _ (Le.an) h (fun s3 v4 h=> ?_)
 refine aJ ab [1,5,9,10,11,12] [5] ?_
 refine ae ?_
 refine aq h (fun h=> ?_) fun h=> ?_
 refine ai ?_
 refine bq ?_
 refine ae ?_
 refine aU h (fun j5=>⟨26,[(1,vi ap),(5,.own 5),(9,vl ao aP.Names),(10,vi (aP.Names.length:Int)),(11,vi s3.1)],[(5,oa 9 1 eS j5)]⟩) (fun v6 h=> ?_) (fun j5 h=> ?_)
 refine ax (a:=v6) ?_
 refine sr ?_
 obtain⟨x7,hx7,h⟩:=bind_some h
 refine aa.ls (aY (L:=aP.Names) (f:=ao) (ti:=eb) (tj:=dg) (e:=169) (k:= .i64) ab rfl hx7) ?_
 refine bO ab 3 [1,5,7,9,10,11] [5,7] ?_
 refine sr ?_
 refine aa.cl ab 3 [1,5,7,9,10,11,16,17] [5,7] ?_
 obtain⟨x8,hx8,h⟩:=bind_some h
 refine aa.ls (xc lO (cw x7.Years ap _ hx8)) ?_
 refine aa.nx ?_
 refine aq h (fun h=> ?_) fun h=> ?_
 refine aD ?_
 refine aa.cl ab 4 [1,9,10,11,19,22] [5,22] ?_
 obtain⟨x9,hx9,h⟩:=bind_some h
 refine aa.a7 (bh (f:=eS) (t:=106) (ti:=bU) (tj:=et) (zs:=[.string (ByteArray.mk #[])]) (e:=9) (m:=1) (d:=5) (xv:= .own 22) hx9 ab rfl rfl rfl rfl (bT (e:=9))) ?_
 refine aa.cl ab 1 [1,5,9,10,11] [23] ?_
 refine aa.nil ?_
 obtain rfl:=inj h
 exact bt (cI (Le.rr [23] [(23,5)]))
 refine ai ?_
 obtain rfl:=inj h
 exact bt (cI (Le.an))
 refine aD ?_
 refine aa.cl ab 2 [1,5,9,10,11] [5] ?_
 refine aa.nil ?_
 obtain rfl:=inj h
 exact cn (Le.an)
 refine a6 ?_
 obtain rfl:=inj h
 exact cE (cG (cF (cI (Le.an))))
 refine aJ ab [4] [5] ?_
 refine ah ?_
 obtain rfl:=inj h
 exact aO (f1 (fo fh))
theorem yb:bg Tryz.prog 122:=az Tryz.func122 (by kernel_rfl) rfl
noncomputable def eg(aW:World)(aE:ByteArray)(ap:Int):Option (ByteArray):=
 ((cy aW.Links aE ap).bind fun x1=>some x1.1)
theorem iV(aW:World)(aE:ByteArray)(ap:Int)(r:ByteArray)(h:eg aW aE ap=some r):aR Tryz.prog 123 [.v (.agg (tc aQ aW)),.v (vs aE),.v (vi ap)] ⟨[.v (vs r)],[],false⟩:=by
 refine au Tryz.func123 rfl [(.tmp 6)] rfl (fun r=>⟨[.v (vs r)],[],false⟩) (r:=r) ?_
 unfold eg at h
 refine aJ ab [1,2,3] [3] ?_
 refine sr ?_
 refine aa.cl ab 4 [11,12,13] [] ?_
 obtain⟨x1,hx1,h⟩:=bind_some h
 refine aa.ls (xc rq (gA aW.Links aE ap _ hx1)) ?_
 refine bO ab 5 [7] [] ?_
 refine aJ ab [6] [] ?_
 refine ah ?_
 obtain rfl:=inj h
 exact aO (f1 fv)
theorem yc:bg Tryz.prog 123:=az Tryz.func123 (by kernel_rfl) rfl
noncomputable def iK(aE:ByteArray)(c0:World)(c1:Int)(c2:World):Option (Bool):=
 ((((cv c0 aE).bind fun x1=>((dF x1 c1).bind fun x2=>((cv c2 aE).bind fun x3=>((dF x3 c1).bind fun x4=>((dr x2 x4).bind fun x5=>(bif(!x5)then some true else((eg c0 aE c1).bind fun x6=>((eg c2 aE c1).bind fun x7=>some (!(x6.toList==x7.toList))))))))))).bind fun(j8:Bool)=>some j8)
theorem od(aE:ByteArray)(c0:World)(c1:Int)(c2:World)(r:Bool)(h:iK aE c0 c1 c2=some r):aR Tryz.prog 121 [.v (vs aE),.v (.ptr [vl ad c0.Places,vl aj c0.Links] 0),.v (.ptr [vi c1] 0),.v (.ptr [vl ad c2.Places,vl aj c2.Links] 0)] ⟨[.v (vb r)],[],false⟩:=by
 refine au Tryz.func121 rfl [(.tmp 5)] rfl (fun r=>⟨[.v (vb r)],[],false⟩) (r:=r) ?_
 unfold iK at h
 refine aJ ab [0,1,2,3] [] ?_
 refine ae ?_
 refine ie mixed h (fun j8=>⟨29,[(5,vb j8)],[]⟩) (fun v9 h=> ?_) (fun j8 h=> ?_)
 refine aH.cl ab false 2 [0,1,2,3,6,7] [] ?_
 obtain⟨x1,hx1,h⟩:=bind_some h
 refine aH.step (xc pY (de c0 aE _ hx1)) ?_
 refine aH.cl ab false 1 [0,1,2,3,8,9] [] ?_
 obtain⟨x2,hx2,h⟩:=bind_some h
 refine aH.step (xc yb (jg x1 c1 _ hx2)) ?_
 refine aH.cl ab false 2 [0,1,2,3,10,11,12] [10] ?_
 obtain⟨x3,hx3,h⟩:=bind_some h
 refine aH.step (xc pY (de c2 aE _ hx3)) ?_
 refine aH.cl ab false 1 [0,1,2,3,10,13,14] [10] ?_
 obtain⟨x4,hx4,h⟩:=bind_some h
 refine aH.step (xc yb (jg x3 c1 _ hx4)) ?_
 obtain⟨x5,hx5,h⟩:=bind_some h
 refine aH.mX false [10,15] (xc ya (iW x2 x4 _ hx5)) ?_
 refine aH.cl ab false 2 [0,1,2,3,18] [] ?_
 refine aH.cu [(18,fun b=>b)] h (fun h=> ?_) fun h=> ?_
 refine aH.cl ab false 11 [5] [] ?_
 refine aH.nil (by kernel_rfl) ?_
 obtain rfl:=inj h
 exact Le.an
 refine aH.cl ab false 3 [0,2,3,18,19,20,21] [] ?_
 obtain⟨x6,hx6,h⟩:=bind_some h
 refine aH.step (xc yc (iV c0 aE c1 _ hx6)) ?_
 refine aH.cl ab false 3 [18,22,23,24,25] [] ?_
 obtain⟨x7,hx7,h⟩:=bind_some h
 refine aH.step (xc yc (iV c2 aE c1 _ hx7)) ?_
 refine aH.ck ab false 3 ⟨29,[(5,vb (!(x6.toList==x7.toList)))],[]⟩ ?_
 refine aH.nil (by kernel_rfl) ?_
 obtain rfl:=inj h
 exact Le.an
 refine ah ?_
 obtain rfl:=inj h
 exact aO (f1 fv)
theorem Ch:bg Tryz.prog 121:=az Tryz.func121 (by kernel_rfl) rfl
noncomputable def cd(aS:(List ByteArray))(cW:World)(aF1:Int)(aF2:World):Option (Int):=
 (((dt (aS.length:Int) (fun(i3:Int) (_:Unit)=>((at' aS i3).bind fun x7=>((iK x7 cW aF1 aF2).bind fun x8=>(bif x8 then some (.inr (.inr i3))else some (.inl ()))))) (fun(_:Unit)=> .inl ()) 0 ())).bind (Sum.elim (fun(_:Unit)=>some (-1)) some))
theorem fK(aS:(List ByteArray))(cW:World)(aF1:Int)(aF2:World)(r:Int)(h:cd aS cW aF1 aF2=some r):aR Tryz.prog 170 [.v (vl eS aS),.v (.clo 121 [.ptr [vl ad cW.Places,vl aj cW.Links] 0,.ptr [vi aF1] 0,.ptr [vl ad aF2.Places,vl aj aF2.Links] 0])] ⟨[.v (vi r)],[],false⟩:=by
 refine au Tryz.func170 rfl [(.tmp 4)] rfl (fun r=>⟨[.v (vi r)],[],false⟩) (r:=r) ?_
 unfold cd at h
 refine aJ ab [0,1] [] ?_
 refine ae ?_
 refine aJ ab [0,1,7,8] [] ?_
 refine bp (r:=r) h (fun j1=>⟨19,[],[]⟩) (fun v2 h=> ?_) (fun j1 h=> ?_)
 refine ax (a:=v2) ?_
 refine bc (r:=v2) (s:=(0,())) _ (fun s3=>⟨19,[(0,vl eS aS),(1,.clo 121 [.ptr [vl ad cW.Places,vl aj cW.Links] 0,.ptr [vi aF1] 0,.ptr [vl ad aF2.Places,vl aj aF2.Links] 0]),(7,vi (aS.length:Int)),(8,vi s3.1)],[]⟩) _ (Le.an) h (fun s3 v4 h=> ?_)
 refine aJ ab [0,1,7,8,9] [] ?_
 refine ae ?_
 refine aq h (fun h=> ?_) fun h=> ?_
 refine ai ?_
 refine bq ?_
 refine ae ?_
 refine bD (r:=v4) h (fun j5=>⟨19,[(0,vl eS aS),(1,.clo 121 [.ptr [vl ad cW.Places,vl aj cW.Links] 0,.ptr [vi aF1] 0,.ptr [vl ad aF2.Places,vl aj aF2.Links] 0]),(7,vi (aS.length:Int)),(8,vi s3.1)],[]⟩) (fun v6 h=> ?_) (fun j5 h=> ?_)
 refine ax (a:=v6) ?_
 refine aJ ab [0,1,5,7,8] [] ?_
 refine sr ?_
 refine aa.cl ab 3 [0,1,5,7,8,11,12,13] [] ?_
 obtain⟨x7,hx7,h⟩:=bind_some h
 refine aa.ls (aY (L:=aS) (f:=eS) (ti:=bU) (tj:=et) (e:=9) (k:= .i64) ab rfl hx7) ?_
 refine aa.cl ab 1 [0,1,5,7,8,11,15] [] ?_
 obtain⟨x8,hx8,h⟩:=bind_some h
 refine aa.ls (xc Ch (od x7 cW aF1 aF2 _ hx8)) ?_
 refine aa.nx ?_
 refine aq h (fun h=> ?_) fun h=> ?_
 refine aJ ab [4] [] ?_
 refine ah ?_
 obtain rfl:=inj h
 exact bE (bo (bo (bE (bo (aO (f1 fv))))))
 refine ai ?_
 obtain rfl:=inj h
 exact bt (cn (Le.an))
 refine aD ?_
 refine aa.cl ab 2 [0,1,7,8] [] ?_
 refine aa.nil ?_
 obtain rfl:=inj h
 exact cn (Le.an)
 refine a6 ?_
 obtain rfl:=inj h
 exact cE (cG (cF (cn (Le.an))))
 refine aJ ab [4] [] ?_
 refine ah ?_
 obtain rfl:=inj h
 exact aO (f1 fv)
theorem CG:bg Tryz.prog 170:=az Tryz.func170 (by kernel_rfl) rfl
noncomputable def bS(aS:(List ByteArray))(cW:World)(aF1:Int)(aF2:World):Option (Bool):=
 ((cd aS cW aF1 aF2).bind fun x1=>some (decide (x1≥0)))
theorem fe(aS:(List ByteArray))(cW:World)(aF1:Int)(aF2:World)(r:Bool)(h:bS aS cW aF1 aF2=some r):aR Tryz.prog 120 [.v (vl eS aS),.v (.clo 121 [.ptr [vl ad cW.Places,vl aj cW.Links] 0,.ptr [vi aF1] 0,.ptr [vl ad aF2.Places,vl aj aF2.Links] 0])] ⟨[.v (vb r)],[],false⟩:=by
 refine au Tryz.func120 rfl [(.tmp 4)] rfl (fun r=>⟨[.v (vb r)],[],false⟩) (r:=r) ?_
 unfold bS at h
 refine aJ ab [0,1] [] ?_
 refine sr ?_
 refine aa.cl ab 2 [5,6] [] ?_
 obtain⟨x1,hx1,h⟩:=bind_some h
 refine aa.ls (xc CG (fK aS cW aF1 aF2 _ hx1)) ?_
 refine bO ab 2 [4] [] ?_
 refine ah ?_
 obtain rfl:=inj h
 exact aO (f1 fv)
theorem Cg:bg Tryz.prog 120:=az Tryz.func120 (by kernel_rfl) rfl
noncomputable def iu(aA:World)(aB:World)(ap:Int):Option (Bool):=
 ((cf aA.Places ap).bind fun x1=>((cf aB.Places ap).bind fun x2=>((dr x1 x2).bind fun x3=>(bif(!x3)then some true else((bS x1 aA ap aB).bind fun x4=>some x4)))))
theorem ph(aA:World)(aB:World)(ap:Int)(r:Bool)(h:iu aA aB ap=some r):aR Tryz.prog 63 [.v (.agg (tc aQ aA)),.v (.agg (tc aQ aB)),.v (vi ap)] ⟨[.v (vb r)],[],false⟩:=by
 refine au Tryz.func63 rfl [(.tmp 6)] rfl (fun r=>⟨[.v (vb r)],[],false⟩) (r:=r) ?_
 unfold iu at h
 refine aJ ab [3,4,5] [3,4,5] ?_
 refine aJ ab [3,4,5,7] [3,4,5] ?_
 refine sr ?_
 refine aa.cl ab 3 [3,4,5,7,11,12] [3,4,5] ?_
 obtain⟨x1,hx1,h⟩:=bind_some h
 refine aa.ls (xc xZ (eO aA.Places ap _ hx1)) ?_
 refine bO ab 1 [3,4,5,7,8] [3,4,5,13] ?_
 refine ae ?_
 refine sr ?_
 refine aa.cl ab 4 [3,4,5,8,14,16,17] [3,4,5,13] ?_
 obtain⟨x2,hx2,h⟩:=bind_some h
 refine aa.ls (xc xZ (eO aB.Places ap _ hx2)) ?_
 obtain⟨x3,hx3,h⟩:=bind_some h
 refine aa.ls (xc ya (iW x1 x2 _ hx3)) ?_
 refine bO ab 1 [3,4,5,8,20] [3,4,5,13] ?_
 refine aq h (fun h=> ?_) fun h=> ?_
 refine aJ ab [6] [] ?_
 refine ah ?_
 obtain rfl:=inj h
 exact cY (aO (f1 fv))
 refine ai ?_
 refine bq ?_
 refine sr ?_
 refine aa.cl ab 2 [21,22] [3,4,5,13] ?_
 obtain⟨x4,hx4,h⟩:=bind_some h
 refine aa.ls (xc Cg (fe x1 aA ap aB _ hx4)) ?_
 refine ckn ab 1 ⟨24,[(6,vb x4)],[]⟩ ?_
 refine ah ?_
 obtain rfl:=inj h
 exact aO (f1 fv)
theorem El:bg Tryz.prog 63:=az Tryz.func63 (by kernel_rfl) rfl
noncomputable def eN(aA:World)(aB:World)(ap:Int):Option (Bool×Int):=
 ((dk aB).bind fun x1=>((jl aA x1 ([ap]:List Int)).bind fun x2=>(bif(x2 !=0)then some (false,x2)else(((dt ap (fun(i5:Int) (_:Unit)=>((iu aA aB i5).bind fun x9=>(bif x9 then some (.inr (.inr (true,0)))else some (.inl ())))) (fun(_:Unit)=> .inl ()) (-3000) ())).bind (Sum.elim (fun(_:Unit)=>some (false,0)) some)))))
theorem mZ(aA:World)(aB:World)(ap:Int)(r:Bool×Int)(h:eN aA aB ap=some r):aR Tryz.prog 26 [.v (.agg (tc aQ aA)),.v (.agg (tc aQ aB)),.v (vi ap)] ⟨[.v (vb r.1),.v (vi r.2)],[],false⟩:=by
 refine au Tryz.func26 rfl [(.tmp 6),(.tmp 7)] rfl (fun r=>⟨[.v (vb r.1),.v (vi r.2)],[],false⟩) (r:=r) ?_
 unfold eN at h
 refine aJ ab [2,3,4] [3,4] ?_
 refine ae ?_
 refine ae ?_
 refine cV mixed ?_
 refine aH.cl ab false 2 [2,3,4,10,11] [3,4] ?_
 obtain⟨x1,hx1,h⟩:=bind_some h
 refine aH.step (xc oC (dD aB _ hx1)) ?_
 refine aH.cl ab false 2 [2,3,4,10,12,14] [3,4,14] ?_
 obtain⟨x2,hx2,h⟩:=bind_some h
 refine aH.mX false [14] (xc Ek (oJ aA x1 ([ap]:List Int) _ hx2)) ?_
 refine aH.cl ab false 1 [2,3,4,8] [3,4] ?_
 refine aH.nx ?_
 refine aJ ab [2,3,4,8,17] [3,4] ?_
 refine aq h (fun h=> ?_) fun h=> ?_
 refine aJ ab [6,7] [] ?_
 refine ah ?_
 obtain rfl:=inj h
 exact cY (aO (f2 fv fv))
 refine ai ?_
 refine bq ?_
 refine ae ?_
 refine aJ ab [2,3,4,9] [3,4] ?_
 refine bp (r:=r) h (fun j3=>⟨28,[],[]⟩) (fun v4 h=> ?_) (fun j3 h=> ?_)
 refine ax (a:=v4) ?_
 refine bc (r:=v4) (s:=((-3000),())) _ (fun s5=>⟨28,[(2,vi ap),(3,.ref 3 0),(4,.ref 4 0),(9,vi s5.1)],[(3,.box (tc aQ aA)),(4,.box (tc aQ aB))]⟩) _ (Le.an) h (fun s5 v6 h=> ?_)
 refine ae ?_
 refine aJ ab [2,3,4,9,21] [3,4] ?_
 refine aq h (fun h=> ?_) fun h=> ?_
 refine ai ?_
 refine bq ?_
 refine ae ?_
 refine bD (r:=v6) h (fun j7=>⟨28,[(2,vi ap),(3,.ref 3 0),(4,.ref 4 0),(9,vi s5.1)],[(3,.box (tc aQ aA)),(4,.box (tc aQ aB))]⟩) (fun v8 h=> ?_) (fun j7 h=> ?_)
 refine ax (a:=v8) ?_
 refine sr ?_
 refine aa.cl ab 3 [2,3,4,9,24,25,26] [3,4] ?_
 obtain⟨x9,hx9,h⟩:=bind_some h
 refine aa.ls (xc El (ph aA aB s5.1 _ hx9)) ?_
 refine aa.nx ?_
 refine aq h (fun h=> ?_) fun h=> ?_
 refine aJ ab [6,7] [] ?_
 refine ah ?_
 obtain rfl:=inj h
 exact bE (bo (bo (bE (bo (aO (f2 fv fv))))))
 refine ai ?_
 obtain rfl:=inj h
 exact bt (cn (Le.an))
 refine aD ?_
 refine aa.cl ab 3 [2,3,4,9] [3,4] ?_
 refine aa.nil ?_
 obtain rfl:=inj h
 exact cn (Le.an)
 refine a6 ?_
 obtain rfl:=inj h
 exact cE (cG (cF (cn (Le.an))))
 refine aJ ab [6,7] [] ?_
 refine ah ?_
 obtain rfl:=inj h
 exact aO (f2 fv fv)
theorem Ec:bg Tryz.prog 26:=az Tryz.func26 (by kernel_rfl) rfl
noncomputable def jq(aE:(List Int)):Option (Bool):=
 ((pt aE).bind fun x1=>(bif x1 then some true else((dQ aE).bind fun x2=>((bs x2.1 x2.2).bind fun x3=>((fC x2.1 x2.2).bind fun x4=>((e8 x2.1 x2.2).bind fun x5=>((iz x2.1 x2.2).bind fun x6=>((dB aE).bind fun x7=>((ee x7.1 x7.2).bind fun x8=>((eT x7.1 x7.2).bind fun x9=>(((bif(x3.2 !=x4.2)then some true else((fu x3.1 x4.1).bind fun x10=>(bif(!x10)then some true else(bif(x5.2 !=x6.2)then some true else(bif(!(x5.1==x6.1))then some true else(bif(x8.2.2 !=x9.2.2)then some true else(bif(x8.2.1 !=x9.2.1)then some true else((fu x8.1 x9.1).bind fun x11=>(bif(!x11)then some true else((dk x7.1).bind fun x12=>((fT x7.1).bind fun x13=>some (!(x12==x13)))))))))))))).bind fun(j14:Bool)=>(bif j14 then some false else(bif((x5.2==0)&&(!(x5.1==(x3.2==0))))then some false else(bif(x3.2 !=0)then some true else((eN x2.1 x3.1 x2.2.Year).bind fun x16=>((((dk x3.1).bind fun x17=>(bif x17 then(bif(x16.2==0)then some (!x16.1)else some false)else some false))).bind fun(j18:Bool)=>some j18))))))))))))))))
theorem oL(aE:(List Int))(r:Bool)(h:jq aE=some r):aR Tryz.prog 5 [.v (vl (eI .u8) aE)] ⟨[.v (vb r)],[],false⟩:=by
 refine au Tryz.func5 rfl [(.tmp 2)] rfl (fun r=>⟨[.v (vb r)],[],false⟩) (r:=r) ?_
 unfold jq at h
 refine aJ ab [0] [] ?_
 refine ae ?_
 refine sr ?_
 refine aa.cl ab 1 [0,23] [] ?_
 obtain⟨x1,hx1,h⟩:=bind_some h
 refine aa.ls (xc D7 (uJ aE _ hx1)) ?_
 refine aa.nx ?_
 refine aq h (fun h=> ?_) fun h=> ?_
 refine aJ ab [2] [] ?_
 refine ah ?_
 obtain rfl:=inj h
 exact cY (aO (f1 fv))
 refine ai ?_
 refine bq ?_
 refine sr ?_
 refine aa.cl ab 1 [0,26] [] ?_
 obtain⟨x2,hx2,h⟩:=bind_some h
 refine aa.ls (xc D8 (lU aE _ hx2)) ?_
 refine bO ab 7 [0,3,4] [3,4] ?_
 refine sr ?_
 refine aa.ck ab 2 ⟨143,[(0,vl (eI .u8) aE),(3,.ref 3 0),(4,.ref 4 0),(31,.agg (tc aQ x2.1)),(32,.agg (tc aF x2.2))],[(3,.box (tc aQ x2.1)),(4,.box (tc aF x2.2))]⟩ ?_
 obtain⟨x3,hx3,h⟩:=bind_some h
 refine aa.a7 (x_w [(3000000,142),(3000001,141)] [true,true] w6 (fQ x2.1 x2.2 _ hx3)) ?_
 refine bO ab 6 [0,3,4,5,6] [3,4,5,141,142] ?_
 refine sr ?_
 refine aa.cl ab 2 [0,3,4,5,6,37,38] [3,4,5,141,142] ?_
 obtain⟨x4,hx4,h⟩:=bind_some h
 refine aa.ls (xc D6 (nB x2.1 x2.2 _ hx4)) ?_
 refine bO ab 6 [0,3,4,5,6,7,8] [3,4,5,7,141,142] ?_
 refine sr ?_
 refine aa.cl ab 2 [0,3,4,5,6,7,8,43,44] [3,4,5,7,141,142] ?_
 obtain⟨x5,hx5,h⟩:=bind_some h
 refine aa.ls (xc D5 (pf x2.1 x2.2 _ hx5)) ?_
 refine bO ab 5 [0,3,4,5,6,7,8,9,10] [3,4,5,7,141,142] ?_
 refine sr ?_
 refine aa.cl ab 2 [0,3,4,5,6,7,8,9,10,49,50] [3,4,5,7,141,142] ?_
 obtain⟨x6,hx6,h⟩:=bind_some h
 refine aa.ls (xc E7 (pD x2.1 x2.2 _ hx6)) ?_
 refine bO ab 5 [0,3,4,5,6,7,8,9,10,11,12] [3,4,5,7,141,142] ?_
 refine sr ?_
 refine aa.cl ab 1 [3,4,5,6,7,8,9,10,11,12,55] [3,4,5,7,141,142] ?_
 obtain⟨x7,hx7,h⟩:=bind_some h
 refine aa.ls (xc D9 (lq aE _ hx7)) ?_
 refine ckn ab 6 ⟨143,[(3,.ref 3 0),(4,.ref 4 0),(5,.ref 5 0),(6,vi x3.2),(7,.ref 7 0),(8,vi x4.2),(9,vb x5.1),(10,vi x5.2),(11,vb x6.1),(12,vi x6.2),(13,.ref 13 0),(14,.own 56)],[(3,.box (tc aQ x2.1)),(4,.box (tc aF x2.2)),(5,.box [.own 142,.own 141]),(7,.box (tc aQ x4.1)),(13,.box (tc aQ x7.1)),(56,oa 37 6 aF x7.2),(141,oa 85 4 aj x3.1.Links),(142,.deep 91 5 x3.1.Places.length [.flat,.flat,.flat,.flat,(.sl 169 5 [.flat,.flat,.flat,.flat,.flat])] (x3.1.Places.map ad))]⟩ ?_
 refine sr ?_
 refine aa.ck ab 2 ⟨143,[(3,.ref 3 0),(4,.ref 4 0),(5,.ref 5 0),(6,vi x3.2),(7,.ref 7 0),(8,vi x4.2),(9,vb x5.1),(10,vi x5.2),(11,vb x6.1),(12,vi x6.2),(13,.ref 13 0),(14,.own 56),(60,.agg (tc aQ x7.1)),(61,.own 56)],[(3,.box (tc aQ x2.1)),(4,.box (tc aF x2.2)),(5,.box [.own 142,.own 141]),(7,.box (tc aQ x4.1)),(13,.box (tc aQ x7.1)),(56,oa 37 6 aF x7.2),(141,oa 85 4 aj x3.1.Links),(142,.deep 91 5 x3.1.Places.length [.flat,.flat,.flat,.flat,(.sl 169 5 [.flat,.flat,.flat,.flat,.flat])] (x3.1.Places.map ad))]⟩ ?_
 obtain⟨x8,hx8,h⟩:=bind_some h
 refine aa.a7 (x_w [(3000000,140),(3000001,139)] [true,true] Ea (l5 x7.1 x7.2 _ hx8)) ?_
 refine bO ab 8 [3,4,5,6,7,8,9,10,11,12,13,14,15,16,17] [3,4,5,7,13,15,56,139,140,141,142] ?_
 refine sr ?_
 refine aa.cl ab 2 [3,4,5,6,7,8,9,10,11,12,13,15,16,17,67,68] [3,4,5,7,13,15,56,139,140,141,142] ?_
 refine aa.le (Le.l3 (d:=56) (e:=37) (m:=6) (n:=x7.2.length) (es:=x7.2.map aF) (by kernel_rfl) (by kernel_rfl)) ?_
 obtain⟨x9,hx9,h⟩:=bind_some h
 refine aa.ls (xc Eb (m7 x7.1 x7.2 _ hx9)) ?_
 refine bO ab 8 [3,4,5,6,7,8,9,10,11,12,13,15,16,17,18,19,20] [3,4,5,7,13,15,18,139,140,141,142] ?_
 refine ae ?_
 refine ae ?_
 refine ie mixed h (fun j14=>⟨143,[(3,.ref 3 0),(4,.ref 4 0),(5,.ref 5 0),(6,vi x3.2),(9,vb x5.1),(10,vi x5.2),(114,vb j14)],[(3,.box (tc aQ x2.1)),(4,.box (tc aF x2.2)),(5,.box [.own 142,.own 141]),(141,oa 85 4 aj x3.1.Links),(142,.deep 91 5 x3.1.Places.length [.flat,.flat,.flat,.flat,(.sl 169 5 [.flat,.flat,.flat,.flat,.flat])] (x3.1.Places.map ad))]⟩) (fun v15 h=> ?_) (fun j14 h=> ?_)
 refine aH.cl ab false 4 [3,4,5,6,7,9,10,11,12,13,15,16,17,18,19,20,76] [3,4,5,7,13,15,18,139,140,141,142] ?_
 refine aH.cu [(76,fun b=>b)] h (fun h=> ?_) fun h=> ?_
 refine aH.cl ab false 38 [3,4,5,6,9,10,114] [3,4,5,141,142] ?_
 refine aH.nil (by kernel_rfl) ?_
 obtain rfl:=inj h
 exact Le.an
 refine aH.cl ab false 2 [3,4,5,6,9,10,11,12,13,15,16,17,18,19,20,76,77,78] [3,4,5,13,15,18,139,140,141,142] ?_
 obtain⟨x10,hx10,h⟩:=bind_some h
 refine aH.step (xc Ax (k9 x3.1 x4.1 _ hx10)) ?_
 refine aH.cl ab false 3 [3,4,5,6,9,10,11,12,13,15,16,17,18,19,20,82] [3,4,5,13,15,18,139,140,141,142] ?_
 refine aH.cu [(82,fun b=>b)] h (fun h=> ?_) fun h=> ?_
 refine aH.cl ab false 32 [3,4,5,6,9,10,114] [3,4,5,141,142] ?_
 refine aH.nil (by kernel_rfl) ?_
 obtain rfl:=inj h
 exact Le.an
 refine aH.cl ab false 5 [3,4,5,6,9,10,11,13,15,16,17,18,19,20,87] [3,4,5,13,15,18,139,140,141,142] ?_
 refine aH.cu [(87,fun b=>b)] h (fun h=> ?_) fun h=> ?_
 refine aH.cl ab false 27 [3,4,5,6,9,10,114] [3,4,5,141,142] ?_
 refine aH.nil (by kernel_rfl) ?_
 obtain rfl:=inj h
 exact Le.an
 refine aH.cl ab false 2 [3,4,5,6,9,10,13,15,16,17,18,19,20,87,88,89] [3,4,5,13,15,18,139,140,141,142] ?_
 refine aH.step (nJ ab (ti:=ti4) (i:=x5.1) (j:=x6.1) true rfl) ?_
 refine aH.ck ab false 2 ⟨143,[(3,.ref 3 0),(4,.ref 4 0),(5,.ref 5 0),(6,vi x3.2),(9,vb x5.1),(10,vi x5.2),(13,.ref 13 0),(15,.ref 15 0),(16,vi x8.2.1),(17,vi x8.2.2),(18,.ref 18 0),(19,vi x9.2.1),(20,vi x9.2.2),(92,vb (!(x5.1==x6.1)))],[(3,.box (tc aQ x2.1)),(4,.box (tc aF x2.2)),(5,.box [.own 142,.own 141]),(13,.box (tc aQ x7.1)),(15,.box [.own 140,.own 139]),(18,.box (tc aQ x9.1)),(139,oa 85 4 aj x8.1.Links),(140,.deep 91 5 x8.1.Places.length [.flat,.flat,.flat,.flat,(.sl 169 5 [.flat,.flat,.flat,.flat,.flat])] (x8.1.Places.map ad)),(141,oa 85 4 aj x3.1.Links),(142,.deep 91 5 x3.1.Places.length [.flat,.flat,.flat,.flat,(.sl 169 5 [.flat,.flat,.flat,.flat,.flat])] (x3.1.Places.map ad))]⟩ ?_
 refine aH.cu [(92,fun b=>b)] h (fun h=> ?_) fun h=> ?_
 refine aH.cl ab false 22 [3,4,5,6,9,10,114] [3,4,5,141,142] ?_
 refine aH.nil (by kernel_rfl) ?_
 obtain rfl:=inj h
 exact Le.an
 refine aH.cl ab false 5 [3,4,5,6,9,10,13,15,16,18,19,97] [3,4,5,13,15,18,139,140,141,142] ?_
 refine aH.cu [(97,fun b=>b)] h (fun h=> ?_) fun h=> ?_
 refine aH.cl ab false 17 [3,4,5,6,9,10,114] [3,4,5,141,142] ?_
 refine aH.nil (by kernel_rfl) ?_
 obtain rfl:=inj h
 exact Le.an
 refine aH.cl ab false 5 [3,4,5,6,9,10,13,15,18,102] [3,4,5,13,15,18,139,140,141,142] ?_
 refine aH.cu [(102,fun b=>b)] h (fun h=> ?_) fun h=> ?_
 refine aH.cl ab false 12 [3,4,5,6,9,10,114] [3,4,5,141,142] ?_
 refine aH.nil (by kernel_rfl) ?_
 obtain rfl:=inj h
 exact Le.an
 refine aH.cl ab false 2 [3,4,5,6,9,10,13,102,103,104] [3,4,5,13,139,140,141,142] ?_
 obtain⟨x11,hx11,h⟩:=bind_some h
 refine aH.step (xc Ax (k9 x8.1 x9.1 _ hx11)) ?_
 refine aH.cl ab false 3 [3,4,5,6,9,10,13,108] [3,4,5,13,141,142] ?_
 refine aH.cu [(108,fun b=>b)] h (fun h=> ?_) fun h=> ?_
 refine aH.cl ab false 6 [3,4,5,6,9,10,114] [3,4,5,141,142] ?_
 refine aH.nil (by kernel_rfl) ?_
 obtain rfl:=inj h
 exact Le.an
 refine aH.ck ab false 1 ⟨143,[(3,.ref 3 0),(4,.ref 4 0),(5,.ref 5 0),(6,vi x3.2),(9,vb x5.1),(10,vi x5.2),(13,.ref 13 0),(108,vb false),(109,.agg (tc aQ x7.1))],[(3,.box (tc aQ x2.1)),(4,.box (tc aF x2.2)),(5,.box [.own 142,.own 141]),(13,.box (tc aQ x7.1)),(141,oa 85 4 aj x3.1.Links),(142,.deep 91 5 x3.1.Places.length [.flat,.flat,.flat,.flat,(.sl 169 5 [.flat,.flat,.flat,.flat,.flat])] (x3.1.Places.map ad))]⟩ ?_
 obtain⟨x12,hx12,h⟩:=bind_some h
 refine aH.step (xc oC (dD x7.1 _ hx12)) ?_
 refine aH.cl ab false 1 [3,4,5,6,9,10,108,110,111] [3,4,5,141,142] ?_
 obtain⟨x13,hx13,h⟩:=bind_some h
 refine aH.step (xc w7 (jR x7.1 _ hx13)) ?_
 refine aH.step (nJ ab (ti:=ti4) (i:=x12) (j:=x13) true rfl) ?_
 refine aH.cl ab false 1 [3,4,5,6,9,10,114] [3,4,5,141,142] ?_
 refine aH.nil (by kernel_rfl) ?_
 obtain rfl:=inj h
 exact Le.an
 refine aq h (fun h=> ?_) fun h=> ?_
 refine aJ ab [2] [] ?_
 refine ah ?_
 obtain rfl:=inj h
 exact cY (aO (f1 fv))
 refine ai ?_
 refine bq ?_
 refine ae ?_
 refine ae ?_
 refine c7 ⟨143,[(3,.ref 3 0),(4,.ref 4 0),(5,.ref 5 0),(6,vi x3.2),(122,vb ((x5.2==0)&&(!(x5.1==(x3.2==0)))))],[(3,.box (tc aQ x2.1)),(4,.box (tc aF x2.2)),(5,.box [.own 142,.own 141]),(141,oa 85 4 aj x3.1.Links),(142,.deep 91 5 x3.1.Places.length [.flat,.flat,.flat,.flat,(.sl 169 5 [.flat,.flat,.flat,.flat,.flat])] (x3.1.Places.map ad))]⟩ ?_ ?_
 refine aa.ck ab 3 ⟨143,[(3,.ref 3 0),(4,.ref 4 0),(5,.ref 5 0),(6,vi x3.2),(9,vb x5.1),(117,vb (x5.2==0))],[(3,.box (tc aQ x2.1)),(4,.box (tc aF x2.2)),(5,.box [.own 142,.own 141]),(141,oa 85 4 aj x3.1.Links),(142,.deep 91 5 x3.1.Places.length [.flat,.flat,.flat,.flat,(.sl 169 5 [.flat,.flat,.flat,.flat,.flat])] (x3.1.Places.map ad))]⟩ ?_
 generalize (x5.2==0)=bb
 cases bb
 refine aa.cl ab 5 [3,4,5,6,122] [3,4,5,141,142] ?_
 exact aa.nil (Le.an)
 refine aa.cl ab 3 [3,4,5,6,117,118,120] [3,4,5,141,142] ?_
 refine aa.ls (nJ ab (ti:=ti4) (i:=x5.1) (j:=(x3.2==0)) true rfl) ?_
 refine aa.cl ab 1 [3,4,5,6,122] [3,4,5,141,142] ?_
 exact aa.nil (Le.an)
 refine aq h (fun h=> ?_) fun h=> ?_
 refine aJ ab [2] [] ?_
 refine ah ?_
 obtain rfl:=inj h
 exact cY (aO (f1 fv))
 refine ai ?_
 refine bq ?_
 refine ae ?_
 refine aJ ab [3,4,5,124] [3,4,5,141,142] ?_
 refine aq h (fun h=> ?_) fun h=> ?_
 refine aJ ab [2] [] ?_
 refine ah ?_
 obtain rfl:=inj h
 exact cY (aO (f1 fv))
 refine ai ?_
 refine bq ?_
 refine sr ?_
 refine aa.cl ab 4 [5,126,127,129] [5,141,142] ?_
 obtain⟨x16,hx16,h⟩:=bind_some h
 refine aa.ls (xc Ec (mZ x2.1 x3.1 x2.2.Year _ hx16)) ?_
 refine bO ab 5 [5,21,22] [5,141,142] ?_
 refine ae ?_
 refine bn h (fun j18=>⟨143,[(2,vb j18)],[]⟩) (fun v19 h=> ?_) (fun j18 h=> ?_)
 refine aa.cl ab 1 [21,22,133] [141,142] ?_
 obtain⟨x17,hx17,h⟩:=bind_some h
 refine aa.ls (xc oC (dD x3.1 _ hx17)) ?_
 refine aa.cl ab 1 [21,22,135] [] ?_
 refine aa.cu [(135,fun b=>b)] h (fun h=> ?_) fun h=> ?_
 refine aa.cl ab 4 [21,139] [] ?_
 refine aa.cu [(139,fun b=>b)] h (fun h=> ?_) fun h=> ?_
 refine aa.cl ab 4 [2] [] ?_
 refine aa.nil ?_
 obtain rfl:=inj h
 exact Le.an
 refine aa.cl ab 4 [2] [] ?_
 refine aa.nil ?_
 obtain rfl:=inj h
 exact Le.an
 refine aa.cl ab 8 [2] [] ?_
 refine aa.nil ?_
 obtain rfl:=inj h
 exact Le.an
 refine ah ?_
 obtain rfl:=inj h
 exact aO (f1 fv)
end Go.Proofs.YtdejeagdkfokfaaGreatDoor.Sh
