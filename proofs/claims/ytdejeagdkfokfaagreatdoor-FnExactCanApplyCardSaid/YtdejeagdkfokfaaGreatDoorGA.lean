/- Typed functions and the calls that do what they say. -/
import Derived.Test.YtdejeagdkfokfaaGreatDoorGAp2
import Derived.Test.YtdejeagdkfokfaaGreatDoorKA
import Derived.Test.YtdejeagdkfokfaaGreatDoorKC
import Derived.Test.YtdejeagdkfokfaaGreatDoorKD
import Derived.Test.YtdejeagdkfokfaaGreatDoorKO
import Derived.Test.YtdejeagdkfokfaaGreatDoorKS
import Derived.Test.YtdejeagdkfokfaaGreatDoorSN
import Derived.Test.YtdejeagdkfokfaaGreatDoorSW
import Derived.Test.YtdejeagdkfokfaaGreatDoorSX
import Derived.Test.YtdejeagdkfokfaaGreatDoorH1
namespace Go.Proofs.YtdejeagdkfokfaaGreatDoor.Sh
open Go.RowKit
set_option maxRecDepth 100000
set_option maxHeartbeats 4000000
noncomputable def eW(aA:(List Place)):Option ((List Place)):=
 ((lu (Place.mk (ByteArray.mk #[]) 0 (Span.mk 0 0) ([]:List Name)) (aA.length:Int)).bind fun x1=>(((iQ (aA.length:Int) (fun(i4:Int) (s4:(List Place))=>((at' aA i4).bind fun x8=>((fL x8).bind fun x9=>((at' s4 i4).bind fun _=>some (List.set s4 (Int.toNat i4) x9))))) (fun(s4:(List Place))=>s4) 0 x1)).bind fun(j2:(List Place))=>some j2))
theorem jO(aA:(List Place))(r:(List Place))(h:eW aA=some r):aF Tryz.prog 34 [.v (vl ab aA)] ⟨[.deep 91 5 r.length [.flat,.flat,.flat,.flat,(.sl 169 5 [.flat,.flat,.flat,.flat,.flat])] (r.map ab)],[],false⟩:=by
 refine ar Tryz.func34 rfl [(.tmp 2)] rfl (fun r=>⟨[.deep 91 5 r.length [.flat,.flat,.flat,.flat,(.sl 169 5 [.flat,.flat,.flat,.flat,.flat])] (r.map ab)],[],false⟩) (r:=r) ?_
 unfold eW at h
 refine sr ?_
 refine ae.ck aa 1 ⟨23,[(2,.own 2),(0,vl ab aA)],[(2,oa 91 5 ab ([]:List Place))]⟩ ?_
 refine ae.le (Le.pM (d:=2) (e:=91) (m:=5) (ss:=[.flat,.flat,.flat,.flat,(.sl 169 5 [.flat,.flat,.flat,.flat,.flat])]) (by kernel_rfl) (by kernel_rfl)) ?_
 refine ae.nx ?_
 refine sr ?_
 refine ae.ck aa 2 ⟨23,[(0,vl ab aA),(6,vi (aA.length:Int))],[]⟩ ?_
 obtain⟨x1,hx1,h⟩:=bind_some h
 refine ae.ls (uf (z:=(Place.mk (ByteArray.mk #[]) 0 (Span.mk 0 0) ([]:List Name))) (f:=ab) (ti:=df) (tj:=cD) (e:=91) (m:=5) (k:= .i64) (k':= .i64) (ss:=[.flat,.flat,.flat,.flat,(.sl 169 5 [.flat,.flat,.flat,.flat,.flat])]) (zs:=[.string (ByteArray.mk #[]),.int .i64 0,.int .i64 0,.int .i64 0,.slice none 0 0]) hx1 aa rfl rfl) ?_
 refine bU aa 1 ⟨23,[(0,vl ab aA),(3,.own 7)],[(7,.deep 91 5 x1.length [.flat,.flat,.flat,.flat,(.sl 169 5 [.flat,.flat,.flat,.flat,.flat])] (x1.map ab))]⟩ ?_
 refine ai ?_
 refine az aa ⟨23,[(0,vl ab aA),(3,.own 7),(4,vi 0)],[(7,.deep 91 5 x1.length [.flat,.flat,.flat,.flat,(.sl 169 5 [.flat,.flat,.flat,.flat,.flat])] (x1.map ab))]⟩ ?_
 refine bg h (fun j2=>⟨23,[(3,.own 3)],[(3,.deep 91 5 j2.length [.flat,.flat,.flat,.flat,(.sl 169 5 [.flat,.flat,.flat,.flat,.flat])] (j2.map ab))]⟩) (fun v3 h=> ?_) (fun j2 h=> ?_)
 refine ax (a:=v3) ?_
 refine a6 (r:=v3) (s:=(0,x1)) _ (fun s4=>⟨23,[(0,vl ab aA),(3,.own 3),(4,vi s4.1)],[(3,.deep 91 5 s4.2.length [.flat,.flat,.flat,.flat,(.sl 169 5 [.flat,.flat,.flat,.flat,.flat])] (s4.2.map ab))]⟩) _ (Le.rr [7] [(7,3)]) h (fun s4 v5 h=> ?_)
 refine ai ?_
 refine az aa ⟨23,[(0,vl ab aA),(3,.own 3),(4,vi s4.1),(11,vb (decide (s4.1<(aA.length:Int))))],[(3,.deep 91 5 s4.2.length [.flat,.flat,.flat,.flat,(.sl 169 5 [.flat,.flat,.flat,.flat,.flat])] (s4.2.map ab))]⟩ ?_
 refine aq h (fun h=> ?_) fun h=> ?_
 refine an ?_
 refine a8 ?_
 refine ai ?_
 refine bg h (fun j6=>⟨23,[(0,vl ab aA),(3,.own 3),(4,vi s4.1)],[(3,.deep 91 5 j6.length [.flat,.flat,.flat,.flat,(.sl 169 5 [.flat,.flat,.flat,.flat,.flat])] (j6.map ab))]⟩) (fun v7 h=> ?_) (fun j6 h=> ?_)
 refine ax (a:=v7) ?_
 refine aE ?_
 refine ae.ck aa 4 ⟨23,[(0,vl ab aA),(3,.own 3),(4,vi s4.1),(14,.own 3),(15,vi s4.1),(16,vl ab aA),(17,vi s4.1)],[(3,.deep 91 5 s4.2.length [.flat,.flat,.flat,.flat,(.sl 169 5 [.flat,.flat,.flat,.flat,.flat])] (s4.2.map ab))]⟩ ?_
 obtain⟨x8,hx8,h⟩:=bind_some h
 refine ae.ls (aG (L:=aA) (f:=ab) (ti:=Bk) (tj:=yo) (e:=100) (k:= .i64) aa rfl hx8) ?_
 refine ae.ck aa 1 ⟨23,[(0,vl ab aA),(3,.own 3),(4,vi s4.1),(14,.own 3),(15,vi s4.1),(19,.agg (tc ab x8))],[(3,.deep 91 5 s4.2.length [.flat,.flat,.flat,.flat,(.sl 169 5 [.flat,.flat,.flat,.flat,.flat])] (s4.2.map ab))]⟩ ?_
 obtain⟨x9,hx9,h⟩:=bind_some h
 refine ae.ls (xc AZ (nY x8 _ hx9)) ?_
 obtain⟨x10,hx10,h⟩:=bind_some h
 refine ae.ls (cm (d:=3) (L:=s4.2) (f:=ab) (ti:=df) (tj:=cD) (e:=91) (e':=91) (m:=5) (k:= .i64) (ss:=[.flat,.flat,.flat,.flat,(.sl 169 5 [.flat,.flat,.flat,.flat,.flat])]) aa rfl hx10) ?_
 refine ae.cf (kK (d:=3) (m:=5) (j:=0) (L:=s4.2) (f:=ab) (x:=x9) (z:=x10) (ti:=cD) (e:=91) (ss:=[.flat,.flat,.flat,.flat,(.sl 169 5 [.flat,.flat,.flat,.flat,.flat])]) (ss2:=[.flat,.flat,.flat,.flat,(.sl 169 5 [.flat,.flat,.flat,.flat,.flat])]) (ts:=[.str x9.Code,.int .i64 x9.Class,.int .i64 x9.Years.From,.int .i64 x9.Years.To,.sl x9.Names.length (x9.Names.map af)]) (vs:=[vs x9.Code,vi x9.Class,vi x9.Years.From,vi x9.Years.To,.own 20]) (v:= .agg [vs x9.Code,vi x9.Class,vi x9.Years.From,vi x9.Years.To,.own 20]) (ds:=[20]) aa rfl rfl hx10 (.cons _ _ _ [] _ _ _ _ (.flat (.str x9.Code) rfl) (.cons _ _ _ [] _ _ _ _ (.flat (.int .i64 x9.Class) rfl) (.cons _ _ _ [] _ _ _ _ (.flat (.int .i64 x9.Years.From) rfl) (.cons _ _ _ [] _ _ _ _ (.flat (.int .i64 x9.Years.To) rfl) (.cons _ _ _ [20] _ _ _ _ (pH (d:=20) (e:=169) (m:=5) (n:=x9.Names.length) (es:=x9.Names.map af) (ss:=[.flat,.flat,.flat,.flat,.flat]) (b9 bu _)) .nil (by decide)) (by decide)) (by decide)) (by decide)) (by decide))) ?_
 refine ae.nil ?_
 obtain rfl:=inj h
 exact bY (fO (Le.ao))
 refine aE ?_
 refine ae.ck aa 3 ⟨23,[(0,vl ab aA),(3,.own 3),(4,vi (aZ (s4.1+1)))],[(3,.deep 91 5 j6.length [.flat,.flat,.flat,.flat,(.sl 169 5 [.flat,.flat,.flat,.flat,.flat])] (j6.map ab))]⟩ ?_
 refine ae.nil ?_
 obtain rfl:=inj h
 exact cb (Le.ao)
 refine aO ?_
 obtain rfl:=inj h
 exact cH (cJ (cI (fO (Le.ao))))
 refine az aa ⟨23,[(2,.own 3)],[(3,.deep 91 5 j2.length [.flat,.flat,.flat,.flat,(.sl 169 5 [.flat,.flat,.flat,.flat,.flat])] (j2.map ab))]⟩ ?_
 refine ak ?_
 obtain rfl:=inj h
 exact aD (f1 (wi (d:=3) (ix (by kernel_rfl)) (by kernel_rfl) (by kernel_rfl)))
theorem xt:a7 Tryz.prog 34:=aw Tryz.func34 (by kernel_rfl) rfl
noncomputable def gC(aA:au):Option (au):=
 ((fm aA.Years).bind fun x1=>some (au.mk aA.Child aA.Parent x1))
theorem oX(aA:au)(r:au)(h:gC aA=some r):aF Tryz.prog 76 [.v (.agg (tc ac aA))] ⟨[.v (.agg (tc ac r))],[],false⟩:=by
 refine ar Tryz.func76 rfl [(.cell 2 85)] rfl (fun r=>⟨[.v (.agg (tc ac r))],[],false⟩) (r:=r) ?_
 unfold gC at h
 refine az aa ⟨15,[(1,.ref 1 0),(2,.ref 2 0)],[(1,.box (tc ac aA)),(2,.box [vs (ByteArray.mk #[]),vs (ByteArray.mk #[]),vi 0,vi 0])]⟩ ?_
 refine az aa ⟨15,[(1,.ref 1 0),(2,.ref 2 0),(3,.ref 3 0)],[(1,.box (tc ac aA)),(2,.box [vs (ByteArray.mk #[]),vs (ByteArray.mk #[]),vi 0,vi 0]),(3,.box [vs (ByteArray.mk #[]),vs (ByteArray.mk #[]),vi 0,vi 0])]⟩ ?_
 refine az aa ⟨15,[(1,.ref 1 0),(2,.ref 2 0),(3,.ref 3 0)],[(1,.box (tc ac aA)),(2,.box [vs (ByteArray.mk #[]),vs (ByteArray.mk #[]),vi 0,vi 0]),(3,.box [vs aA.Child,vs (ByteArray.mk #[]),vi 0,vi 0])]⟩ ?_
 refine az aa ⟨15,[(1,.ref 1 0),(2,.ref 2 0),(3,.ref 3 0)],[(1,.box (tc ac aA)),(2,.box [vs (ByteArray.mk #[]),vs (ByteArray.mk #[]),vi 0,vi 0]),(3,.box [vs aA.Child,vs aA.Parent,vi 0,vi 0])]⟩ ?_
 refine sr ?_
 refine ae.ck aa 2 ⟨15,[(2,.ref 2 0),(3,.ref 3 0),(11,.agg (tc bc aA.Years))],[(2,.box [vs (ByteArray.mk #[]),vs (ByteArray.mk #[]),vi 0,vi 0]),(3,.box [vs aA.Child,vs aA.Parent,vi 0,vi 0])]⟩ ?_
 obtain⟨x1,hx1,h⟩:=bind_some h
 refine ae.ls (xc rq (iT aA.Years _ hx1)) ?_
 refine bU aa 2 ⟨15,[(2,.ref 2 0),(3,.ref 3 0)],[(2,.box [vs (ByteArray.mk #[]),vs (ByteArray.mk #[]),vi 0,vi 0]),(3,.box [vs aA.Child,vs aA.Parent,vi x1.From,vi x1.To])]⟩ ?_
 refine az aa ⟨15,[(2,.ref 2 0)],[(2,.box [vs aA.Child,vs aA.Parent,vi x1.From,vi x1.To])]⟩ ?_
 refine ak ?_
 obtain rfl:=inj h
 exact aD (f1 (fc aa))
theorem A0:a7 Tryz.prog 76:=aw Tryz.func76 (by kernel_rfl) rfl
noncomputable def fK(aA:(List au)):Option ((List au)):=
 ((lu (au.mk (ByteArray.mk #[]) (ByteArray.mk #[]) (Span.mk 0 0)) (aA.length:Int)).bind fun x1=>(((iQ (aA.length:Int) (fun(i4:Int) (s4:(List au))=>((at' aA i4).bind fun x8=>((gC x8).bind fun x9=>((at' s4 i4).bind fun _=>some (List.set s4 (Int.toNat i4) x9))))) (fun(s4:(List au))=>s4) 0 x1)).bind fun(j2:(List au))=>some j2))
theorem km(aA:(List au))(r:(List au))(h:fK aA=some r):aF Tryz.prog 35 [.v (vl ac aA)] ⟨[.own 85 4 r.length (r.map ac)],[],false⟩:=by
 refine ar Tryz.func35 rfl [(.tmp 2)] rfl (fun r=>⟨[.own 85 4 r.length (r.map ac)],[],false⟩) (r:=r) ?_
 unfold fK at h
 refine az aa ⟨23,[(0,vl ac aA)],[]⟩ ?_
 refine sr ?_
 refine ae.ck aa 2 ⟨23,[(0,vl ac aA),(6,vi (aA.length:Int))],[]⟩ ?_
 obtain⟨x1,hx1,h⟩:=bind_some h
 refine ae.ls (yD (z:=(au.mk (ByteArray.mk #[]) (ByteArray.mk #[]) (Span.mk 0 0))) (f:=ac) (ti:=eh) (tj:=ei) (e:=85) (m:=4) (k:= .i64) (k':= .i64) hx1 aa rfl rfl (zs:=[.string (ByteArray.mk #[]),.string (ByteArray.mk #[]),.int .i64 0,.int .i64 0])) ?_
 refine bU aa 1 ⟨23,[(0,vl ac aA),(3,.own 7)],[(7,oa 85 4 ac x1)]⟩ ?_
 refine ai ?_
 refine az aa ⟨23,[(0,vl ac aA),(3,.own 7),(4,vi 0)],[(7,oa 85 4 ac x1)]⟩ ?_
 refine bg h (fun j2=>⟨23,[(3,.own 3)],[(3,oa 85 4 ac j2)]⟩) (fun v3 h=> ?_) (fun j2 h=> ?_)
 refine ax (a:=v3) ?_
 refine a6 (r:=v3) (s:=(0,x1)) _ (fun s4=>⟨23,[(0,vl ac aA),(3,.own 3),(4,vi s4.1)],[(3,oa 85 4 ac s4.2)]⟩) _ (Le.rr [7] [(7,3)]) h (fun s4 v5 h=> ?_)
 refine ai ?_
 refine az aa ⟨23,[(0,vl ac aA),(3,.own 3),(4,vi s4.1),(11,vb (decide (s4.1<(aA.length:Int))))],[(3,oa 85 4 ac s4.2)]⟩ ?_
 refine aq h (fun h=> ?_) fun h=> ?_
 refine an ?_
 refine a8 ?_
 refine ai ?_
 refine bg h (fun j6=>⟨23,[(0,vl ac aA),(3,.own 3),(4,vi s4.1)],[(3,oa 85 4 ac j6)]⟩) (fun v7 h=> ?_) (fun j6 h=> ?_)
 refine ax (a:=v7) ?_
 refine aE ?_
 refine ae.ck aa 4 ⟨23,[(0,vl ac aA),(3,.own 3),(4,vi s4.1),(14,.own 3),(15,vi s4.1),(16,vl ac aA),(17,vi s4.1)],[(3,oa 85 4 ac s4.2)]⟩ ?_
 obtain⟨x8,hx8,h⟩:=bind_some h
 refine ae.ls (aG (L:=aA) (f:=ac) (ti:=Bl) (tj:=yp) (e:=103) (k:= .i64) aa rfl hx8) ?_
 refine ae.ck aa 1 ⟨23,[(0,vl ac aA),(3,.own 3),(4,vi s4.1),(14,.own 3),(15,vi s4.1),(19,.agg (tc ac x8))],[(3,oa 85 4 ac s4.2)]⟩ ?_
 obtain⟨x9,hx9,h⟩:=bind_some h
 refine ae.ls (xc A0 (oX x8 _ hx9)) ?_
 obtain⟨x10,hx10,h⟩:=bind_some h
 refine ae.ls (bX (d:=3) (L:=s4.2) (f:=ac) (ti:=eh) (tj:=ei) (e:=85) (e':=85) (m:=4) (k:= .i64) aa rfl hx10) ?_
 refine ae.cf (iO (d:=3) (m:=4) (j:=0) (L:=s4.2) (f:=ac) (x:=x9) (z:=x10) (ti:=ei) (e:=85) (ts:=[.str x9.Child,.str x9.Parent,.int .i64 x9.Years.From,.int .i64 x9.Years.To]) (vs:=[vs x9.Child,vs x9.Parent,vi x9.Years.From,vi x9.Years.To]) (v:= .agg (tc ac x9)) aa rfl rfl hx10) ?_
 refine ae.nil ?_
 obtain rfl:=inj h
 exact bY (fO (Le.ao))
 refine aE ?_
 refine ae.ck aa 3 ⟨23,[(0,vl ac aA),(3,.own 3),(4,vi (aZ (s4.1+1)))],[(3,oa 85 4 ac j6)]⟩ ?_
 refine ae.nil ?_
 obtain rfl:=inj h
 exact cb (Le.ao)
 refine aO ?_
 obtain rfl:=inj h
 exact cH (cJ (cI (fO (Le.ao))))
 refine az aa ⟨23,[(2,.own 3)],[(3,oa 85 4 ac j2)]⟩ ?_
 refine ak ?_
 obtain rfl:=inj h
 exact aD (f1 (fo dt))
theorem xu:a7 Tryz.prog 35:=aw Tryz.func35 (by kernel_rfl) rfl
noncomputable def gX(aA:World):Option (World):=
 ((eW aA.Places).bind fun x1=>((fK aA.Links).bind fun x2=>some (World.mk x1 x2)))
theorem mz(aA:World)(r:World)(h:gX aA=some r):jl Tryz.prog 10 [.agg (tc aj aA)] [] [(3000000,.deep 91 5 r.Places.length [.flat,.flat,.flat,.flat,(.sl 169 5 [.flat,.flat,.flat,.flat,.flat])] (r.Places.map ab)),(3000001,oa 85 4 ac r.Links)] [.agg [.own 3000000,.own 3000001]]:=by
 refine iN Tryz.func10 rfl [(.cell 2 35)] rfl (fun r=>[(3000000,.deep 91 5 r.Places.length [.flat,.flat,.flat,.flat,(.sl 169 5 [.flat,.flat,.flat,.flat,.flat])] (r.Places.map ab)),(3000001,oa 85 4 ac r.Links)]) (fun r=>[.agg [.own 3000000,.own 3000001]]) (r:=r) (cw trivial (cw (b9 dt _) jI)) ?_
 unfold gX at h
 refine az aa ⟨13,[(1,.ref 1 0),(2,.ref 2 0)],[(1,.box (tc aj aA)),(2,.box [vl ab ([]:List Place),vl ac ([]:List au)])]⟩ ?_
 refine az aa ⟨13,[(1,.ref 1 0),(2,.ref 2 0),(3,.ref 3 0)],[(1,.box (tc aj aA)),(2,.box [vl ab ([]:List Place),vl ac ([]:List au)]),(3,.box [vl ab ([]:List Place),vl ac ([]:List au)])]⟩ ?_
 refine sr ?_
 refine ae.ck aa 2 ⟨13,[(1,.ref 1 0),(2,.ref 2 0),(3,.ref 3 0),(5,vl ab aA.Places)],[(1,.box (tc aj aA)),(2,.box [vl ab ([]:List Place),vl ac ([]:List au)]),(3,.box [vl ab ([]:List Place),vl ac ([]:List au)])]⟩ ?_
 obtain⟨x1,hx1,h⟩:=bind_some h
 refine ae.ls (xc xt (jO aA.Places _ hx1)) ?_
 refine bU aa 2 ⟨13,[(1,.ref 1 0),(2,.ref 2 0),(3,.ref 3 0)],[(1,.box (tc aj aA)),(2,.box [vl ab ([]:List Place),vl ac ([]:List au)]),(3,.box [.own 6,vl ac ([]:List au)]),(6,.deep 91 5 x1.length [.flat,.flat,.flat,.flat,(.sl 169 5 [.flat,.flat,.flat,.flat,.flat])] (x1.map ab))]⟩ ?_
 refine sr ?_
 refine ae.ck aa 2 ⟨13,[(2,.ref 2 0),(3,.ref 3 0),(9,vl ac aA.Links)],[(2,.box [vl ab ([]:List Place),vl ac ([]:List au)]),(3,.box [.own 6,vl ac ([]:List au)]),(6,.deep 91 5 x1.length [.flat,.flat,.flat,.flat,(.sl 169 5 [.flat,.flat,.flat,.flat,.flat])] (x1.map ab))]⟩ ?_
 obtain⟨x2,hx2,h⟩:=bind_some h
 refine ae.ls (xc xu (km aA.Links _ hx2)) ?_
 refine bU aa 2 ⟨13,[(2,.ref 2 0),(3,.ref 3 0)],[(2,.box [vl ab ([]:List Place),vl ac ([]:List au)]),(3,.box [.own 6,.own 10]),(6,.deep 91 5 x1.length [.flat,.flat,.flat,.flat,(.sl 169 5 [.flat,.flat,.flat,.flat,.flat])] (x1.map ab)),(10,oa 85 4 ac x2)]⟩ ?_
 refine az aa ⟨13,[(2,.ref 2 0)],[(2,.box [.own 6,.own 10]),(6,.deep 91 5 x1.length [.flat,.flat,.flat,.flat,(.sl 169 5 [.flat,.flat,.flat,.flat,.flat])] (x1.map ab)),(10,oa 85 4 ac x2)]⟩ ?_
 refine cW (Le.tE 6 3000000) ?_
 refine cW (Le.tE 10 3000001) ?_
 refine ak ?_
 obtain rfl:=inj h
 exact l4 (fw aa)
theorem pO:a7 Tryz.prog 10:=aw Tryz.func10 (by kernel_rfl) rfl
noncomputable def ez(aA:World):Option (World):=
 ((eW aA.Places).bind fun x1=>((fK aA.Links).bind fun x2=>some (World.mk x1 x2)))
theorem fM(aA:World)(r:World)(h:ez aA=some r):aF Tryz.prog 10 [.v (.agg (tc aj aA))] ⟨[.v (.agg (tc aj r))],[],true⟩:=by
 refine ar Tryz.func10 rfl [(.cell 2 35)] rfl (fun r=>⟨[.v (.agg (tc aj r))],[],true⟩) (r:=r) ?_
 unfold ez at h
 refine az aa ⟨13,[(1,.ref 1 0),(2,.ref 2 0)],[(1,.box (tc aj aA)),(2,.box [vl ab ([]:List Place),vl ac ([]:List au)])]⟩ ?_
 refine az aa ⟨13,[(1,.ref 1 0),(2,.ref 2 0),(3,.ref 3 0)],[(1,.box (tc aj aA)),(2,.box [vl ab ([]:List Place),vl ac ([]:List au)]),(3,.box [vl ab ([]:List Place),vl ac ([]:List au)])]⟩ ?_
 refine sr ?_
 refine ae.ck aa 2 ⟨13,[(1,.ref 1 0),(2,.ref 2 0),(3,.ref 3 0),(5,vl ab aA.Places)],[(1,.box (tc aj aA)),(2,.box [vl ab ([]:List Place),vl ac ([]:List au)]),(3,.box [vl ab ([]:List Place),vl ac ([]:List au)])]⟩ ?_
 obtain⟨x1,hx1,h⟩:=bind_some h
 refine ae.ls (xc xt (jO aA.Places _ hx1)) ?_
 refine bU aa 2 ⟨13,[(1,.ref 1 0),(2,.ref 2 0),(3,.ref 3 0)],[(1,.box (tc aj aA)),(2,.box [vl ab ([]:List Place),vl ac ([]:List au)]),(3,.box [.own 6,vl ac ([]:List au)]),(6,.deep 91 5 x1.length [.flat,.flat,.flat,.flat,(.sl 169 5 [.flat,.flat,.flat,.flat,.flat])] (x1.map ab))]⟩ ?_
 refine sr ?_
 refine ae.ck aa 2 ⟨13,[(2,.ref 2 0),(3,.ref 3 0),(9,vl ac aA.Links)],[(2,.box [vl ab ([]:List Place),vl ac ([]:List au)]),(3,.box [.own 6,vl ac ([]:List au)]),(6,.deep 91 5 x1.length [.flat,.flat,.flat,.flat,(.sl 169 5 [.flat,.flat,.flat,.flat,.flat])] (x1.map ab))]⟩ ?_
 obtain⟨x2,hx2,h⟩:=bind_some h
 refine ae.ls (xc xu (km aA.Links _ hx2)) ?_
 refine bU aa 2 ⟨13,[(2,.ref 2 0),(3,.ref 3 0)],[(2,.box [vl ab ([]:List Place),vl ac ([]:List au)]),(3,.box [.own 6,.own 10]),(6,.deep 91 5 x1.length [.flat,.flat,.flat,.flat,(.sl 169 5 [.flat,.flat,.flat,.flat,.flat])] (x1.map ab)),(10,oa 85 4 ac x2)]⟩ ?_
 refine az aa ⟨13,[(2,.ref 2 0)],[(2,.box [.own 6,.own 10]),(6,.deep 91 5 x1.length [.flat,.flat,.flat,.flat,(.sl 169 5 [.flat,.flat,.flat,.flat,.flat])] (x1.map ab)),(10,oa 85 4 ac x2)]⟩ ?_
 refine cW (Le.Am (d:=6) (e:=91) (m:=5) (n:=x1.length) (ss:=[.flat,.flat,.flat,.flat,(.sl 169 5 [.flat,.flat,.flat,.flat,.flat])]) (es:=x1.map ab) (by kernel_rfl) (by kernel_rfl)) ?_
 refine cW (Le.sY (d:=10) (e:=85) (m:=4) (n:=x2.length) (es:=x2.map ac) (by kernel_rfl) (by kernel_rfl)) ?_
 refine ak ?_
 obtain rfl:=inj h
 exact aD (f1 (mY rfl (dg aa (d:=2) (cs:=[vl ab x1,vl ac x2]) (ti:=l8) (by kernel_rfl) (by kernel_rfl) (by kernel_rfl) (by kernel_rfl))))
noncomputable def dK(e9:World)(ij:Change):Option (Bool):=
 ((gV e9 1048576).bind fun x1=>(bif(decide (x1<0))then some true else((fZ ij x1).bind fun x2=>(bif(decide (x2<0))then some true else((ez e9).bind fun x3=>((eV ij).bind fun x4=>((gf x3 x4).bind fun x5=>((gX e9).bind fun x6=>((eV ij).bind fun x7=>((fT x6 x7).bind fun x8=>(bif((!(x8.1==x5.1)) || (x8.2 !=x5.2))then some false else((ez e9).bind fun x9=>((gS x6 x9).bind fun x10=>(bif(!x10)then some false else some true))))))))))))))
theorem ka(e9:World)(ij:Change)(r:Bool)(h:dK e9 ij=some r):aF Tryz.prog 3 [.v (.agg (tc aj e9)),.v (.agg (tc ah ij))] ⟨[.v (vb r)],[],false⟩:=by
 refine ar Tryz.func3 rfl [(.tmp 4)] rfl (fun r=>⟨[.v (vb r)],[],false⟩) (r:=r) ?_
 unfold dK at h
 refine az aa ⟨51,[(2,.ref 2 0),(3,.ref 3 0)],[(2,.box (tc aj e9)),(3,.box (tc ah ij))]⟩ ?_
 refine az aa ⟨51,[(2,.ref 2 0),(3,.ref 3 0),(5,vi 1048576)],[(2,.box (tc aj e9)),(3,.box (tc ah ij))]⟩ ?_
 refine sr ?_
 refine ae.ck aa 2 ⟨51,[(2,.ref 2 0),(3,.ref 3 0),(11,.agg (tc aj e9)),(12,vi 1048576)],[(2,.box (tc aj e9)),(3,.box (tc ah ij))]⟩ ?_
 obtain⟨x1,hx1,h⟩:=bind_some h
 refine ae.ls (xc BB (nW e9 1048576 _ hx1)) ?_
 refine bU aa 1 ⟨51,[(2,.ref 2 0),(3,.ref 3 0),(5,vi x1)],[(2,.box (tc aj e9)),(3,.box (tc ah ij))]⟩ ?_
 refine ai ?_
 refine az aa ⟨51,[(2,.ref 2 0),(3,.ref 3 0),(5,vi x1),(15,vb (decide (x1<0)))],[(2,.box (tc aj e9)),(3,.box (tc ah ij))]⟩ ?_
 refine aq h (fun h=> ?_) fun h=> ?_
 refine az aa ⟨51,[(4,vb true)],[]⟩ ?_
 refine ak ?_
 obtain rfl:=inj h
 exact bS (aD (f1 fv))
 refine an ?_
 refine a8 ?_
 refine sr ?_
 refine ae.ck aa 2 ⟨51,[(2,.ref 2 0),(3,.ref 3 0),(16,.agg (tc ah ij)),(17,vi x1)],[(2,.box (tc aj e9)),(3,.box (tc ah ij))]⟩ ?_
 obtain⟨x2,hx2,h⟩:=bind_some h
 refine ae.ls (xc BC (nd ij x1 _ hx2)) ?_
 refine bU aa 1 ⟨51,[(2,.ref 2 0),(3,.ref 3 0),(5,vi x2)],[(2,.box (tc aj e9)),(3,.box (tc ah ij))]⟩ ?_
 refine ai ?_
 refine az aa ⟨51,[(2,.ref 2 0),(3,.ref 3 0),(20,vb (decide (x2<0)))],[(2,.box (tc aj e9)),(3,.box (tc ah ij))]⟩ ?_
 refine aq h (fun h=> ?_) fun h=> ?_
 refine az aa ⟨51,[(4,vb true)],[]⟩ ?_
 refine ak ?_
 obtain rfl:=inj h
 exact bS (aD (f1 fv))
 refine an ?_
 refine a8 ?_
 refine ai ?_
 obtain⟨x3,hx3,h⟩:=bind_some h
 obtain⟨x4,hx4,h⟩:=bind_some h
 obtain⟨x5,hx5,h⟩:=bind_some h
 refine di mixed ?_
 refine aQ.xF (σE:=⟨51,[(2,.ref 2 0),(3,.ref 3 0),(6,vb x5.1),(7,vi x5.2)],[(2,.box (tc aj e9)),(3,.box (tc ah ij))]⟩) (n:=10) (L0:= #[false,false,false,false,false,false,false,false,false,false]) (by kernel_rfl) (by kernel_rfl) (fun K hk=> ?_) ?_
 refine DE.aJ (fuel:=0) (L:= #[true,true,true,true,true,true,true,true,true,true]) (σ:=⟨51,[(2,.ref 2 0),(3,.ref 3 0),(6,vb x5.1),(7,vi x5.2)],[(2,.box (tc aj e9)),(3,.box (tc ah ij))]⟩) ?_ (fun d14=> ?_)
 exact DE.done (by kernel_rfl) hk
 refine DE.aJ (fuel:=1) (L:= #[true,true,true,true,true,true,true,true,true,false]) (σ:=⟨51,[(2,.ref 2 0),(3,.ref 3 0),(6,vb x5.1),(28,vi x5.2)],[(2,.box (tc aj e9)),(3,.box (tc ah ij))]⟩) ?_ (fun d13=> ?_)
 exact DE.take (i:=9) (L':= #[true,true,true,true,true,true,true,true,true,true]) rfl (.inr rfl) rfl (by kernel_rfl) (by kernel_rfl) (by kernel_rfl) (al.le (al.bj aa (σ':=⟨51,[(7,vi x5.2),(2,.ref 2 0),(3,.ref 3 0),(6,vb x5.1),(28,vi x5.2)],[(2,.box (tc aj e9)),(3,.box (tc ah ij))]⟩) (by kernel_rfl)) Le.ao) (by kernel_rfl) d14
 refine DE.aJ (fuel:=2) (L:= #[true,true,true,true,true,true,true,true,false,false]) (σ:=⟨51,[(2,.ref 2 0),(3,.ref 3 0),(27,vb x5.1),(28,vi x5.2)],[(2,.box (tc aj e9)),(3,.box (tc ah ij))]⟩) ?_ (fun d12=> ?_)
 exact DE.take (i:=8) (L':= #[true,true,true,true,true,true,true,true,true,false]) rfl (.inr rfl) rfl (by kernel_rfl) (by kernel_rfl) (by kernel_rfl) (al.le (al.bj aa (σ':=⟨51,[(6,vb x5.1),(2,.ref 2 0),(3,.ref 3 0),(27,vb x5.1),(28,vi x5.2)],[(2,.box (tc aj e9)),(3,.box (tc ah ij))]⟩) (by kernel_rfl)) Le.ao) (by kernel_rfl) d13
 refine DE.aJ (fuel:=2) (L:= #[true,true,true,true,true,true,true,false,true,false]) (σ:=⟨51,[(2,.ref 2 0),(3,.ref 3 0),(6,vb x5.1),(21,.tup [vb x5.1,vi x5.2])],[(2,.box (tc aj e9)),(3,.box (tc ah ij))]⟩) ?_ (fun d11=> ?_)
 exact DE.all [7] (by kernel_rfl) (by simp) (List.forall_mem_cons.2 ⟨bW.mk (i:=7) (L':= #[true,true,true,true,true,true,true,true,true,false]) rfl (al.le (al.bj aa (σ':=⟨51,[(28,vi x5.2),(2,.ref 2 0),(3,.ref 3 0),(6,vb x5.1),(21,.tup [vb x5.1,vi x5.2])],[(2,.box (tc aj e9)),(3,.box (tc ah ij))]⟩) (by kernel_rfl)) Le.ao) (by kernel_rfl) d13,(fun _ h=>absurd h List.not_mem_nil)⟩)
 refine DE.aJ (fuel:=3) (L:= #[true,true,true,true,true,true,false,true,false,false]) (σ:=⟨51,[(2,.ref 2 0),(3,.ref 3 0),(21,.tup [vb x5.1,vi x5.2]),(28,vi x5.2)],[(2,.box (tc aj e9)),(3,.box (tc ah ij))]⟩) ?_ (fun d10=> ?_)
 exact DE.all [6] (by kernel_rfl) (by simp) (List.forall_mem_cons.2 ⟨bW.mk (i:=6) (L':= #[true,true,true,true,true,true,true,true,false,false]) rfl (al.le (al.bj aa (σ':=⟨51,[(27,vb x5.1),(2,.ref 2 0),(3,.ref 3 0),(21,.tup [vb x5.1,vi x5.2]),(28,vi x5.2)],[(2,.box (tc aj e9)),(3,.box (tc ah ij))]⟩) (by kernel_rfl)) Le.ao) (by kernel_rfl) d12,(fun _ h=>absurd h List.not_mem_nil)⟩)
 refine DE.aJ (fuel:=3) (L:= #[true,true,true,true,true,true,true,false,false,false]) (σ:=⟨51,[(2,.ref 2 0),(3,.ref 3 0),(21,.tup [vb x5.1,vi x5.2]),(27,vb x5.1)],[(2,.box (tc aj e9)),(3,.box (tc ah ij))]⟩) ?_ (fun d9=> ?_)
 exact DE.take (i:=8) (L':= #[true,true,true,true,true,true,true,false,true,false]) rfl (.inr rfl) rfl (by kernel_rfl) (by kernel_rfl) (by kernel_rfl) (al.le (al.bj aa (σ':=⟨51,[(6,vb x5.1),(2,.ref 2 0),(3,.ref 3 0),(21,.tup [vb x5.1,vi x5.2]),(27,vb x5.1)],[(2,.box (tc aj e9)),(3,.box (tc ah ij))]⟩) (by kernel_rfl)) Le.ao) (by kernel_rfl) d11
 refine DE.aJ (fuel:=4) (L:= #[true,true,true,true,true,true,false,false,false,false]) (σ:=⟨51,[(2,.ref 2 0),(3,.ref 3 0),(21,.tup [vb x5.1,vi x5.2])],[(2,.box (tc aj e9)),(3,.box (tc ah ij))]⟩) ?_ (fun d8=> ?_)
 exact DE.all [6,7] (by kernel_rfl) (by simp) (List.forall_mem_cons.2 ⟨bW.mk (i:=6) (L':= #[true,true,true,true,true,true,true,false,false,false]) rfl (al.le (al.bj aa (σ':=⟨51,[(27,vb x5.1),(2,.ref 2 0),(3,.ref 3 0),(21,.tup [vb x5.1,vi x5.2])],[(2,.box (tc aj e9)),(3,.box (tc ah ij))]⟩) (by kernel_rfl)) Le.ao) (by kernel_rfl) d9,(List.forall_mem_cons.2 ⟨bW.mk (i:=7) (L':= #[true,true,true,true,true,true,false,true,false,false]) rfl (al.le (al.bj aa (σ':=⟨51,[(28,vi x5.2),(2,.ref 2 0),(3,.ref 3 0),(21,.tup [vb x5.1,vi x5.2])],[(2,.box (tc aj e9)),(3,.box (tc ah ij))]⟩) (by kernel_rfl)) Le.ao) (by kernel_rfl) d10,(fun _ h=>absurd h List.not_mem_nil)⟩)⟩)
 refine DE.aJ (fuel:=5) (L:= #[true,true,true,true,true,false,false,false,false,false]) (σ:=⟨51,[(2,.ref 2 0),(3,.ref 3 0),(26,.tup [vb x5.1,vi x5.2])],[(2,.box (tc aj e9)),(3,.box (tc ah ij))]⟩) ?_ (fun d7=> ?_)
 exact DE.take (i:=5) (L':= #[true,true,true,true,true,true,false,false,false,false]) rfl (.inl rfl) rfl (by kernel_rfl) (by kernel_rfl) (by kernel_rfl) (al.le (al.bj aa (σ':=⟨51,[(21,.tup [vb x5.1,vi x5.2]),(2,.ref 2 0),(3,.ref 3 0),(26,.tup [vb x5.1,vi x5.2])],[(2,.box (tc aj e9)),(3,.box (tc ah ij))]⟩) (by kernel_rfl)) Le.ao) (by kernel_rfl) d8
 refine DE.aJ (fuel:=6) (L:= #[true,true,true,true,false,false,false,false,false,false]) (σ:=⟨51,[(2,.ref 2 0),(3,.ref 3 0),(23,.agg (tc aj x3)),(25,.agg (tc ah x4))],[(2,.box (tc aj e9)),(3,.box (tc ah ij))]⟩) ?_ (fun d6=> ?_)
 exact DE.all [4] (by kernel_rfl) (by simp) (List.forall_mem_cons.2 ⟨bW.mk (i:=4) (L':= #[true,true,true,true,true,false,false,false,false,false]) rfl (al.le (al.kn (xc BD (nk x3 x4 _ hx5)) (by kernel_rfl)) Le.ao) (by kernel_rfl) d7,(fun _ h=>absurd h List.not_mem_nil)⟩)
 refine DE.aJ (fuel:=7) (L:= #[true,true,true,false,false,false,false,false,false,false]) (σ:=⟨51,[(2,.ref 2 0),(3,.ref 3 0),(23,.agg (tc aj x3)),(24,.agg (tc ah ij))],[(2,.box (tc aj e9)),(3,.box (tc ah ij))]⟩) ?_ (fun d5=> ?_)
 exact DE.all [3] (by kernel_rfl) (by simp) (List.forall_mem_cons.2 ⟨bW.mk (i:=3) (L':= #[true,true,true,true,false,false,false,false,false,false]) rfl (al.le (al.kn (xc xq (jN ij _ hx4)) (by kernel_rfl)) Le.ao) (by kernel_rfl) d6,(fun _ h=>absurd h List.not_mem_nil)⟩)
 refine DE.aJ (fuel:=8) (L:= #[true,false,true,false,false,false,false,false,false,false]) (σ:=⟨51,[(2,.ref 2 0),(3,.ref 3 0),(22,.agg (tc aj e9)),(24,.agg (tc ah ij))],[(2,.box (tc aj e9)),(3,.box (tc ah ij))]⟩) ?_ (fun d4=> ?_)
 exact DE.all [1] (by kernel_rfl) (by simp) (List.forall_mem_cons.2 ⟨bW.mk (i:=1) (L':= #[true,true,true,false,false,false,false,false,false,false]) rfl (al.le (al.kn (xc pO (fM e9 _ hx3)) (by kernel_rfl)) Le.ao) (by kernel_rfl) d5,(fun _ h=>absurd h List.not_mem_nil)⟩)
 refine DE.aJ (fuel:=8) (L:= #[true,true,false,false,false,false,false,false,false,false]) (σ:=⟨51,[(2,.ref 2 0),(3,.ref 3 0),(23,.agg (tc aj x3))],[(2,.box (tc aj e9)),(3,.box (tc ah ij))]⟩) ?_ (fun d3=> ?_)
 exact DE.all [2] (by kernel_rfl) (by simp) (List.forall_mem_cons.2 ⟨bW.mk (i:=2) (L':= #[true,true,true,false,false,false,false,false,false,false]) rfl (al.le (al.bj aa (σ':=⟨51,[(24,.agg (tc ah ij)),(2,.ref 2 0),(3,.ref 3 0),(23,.agg (tc aj x3))],[(2,.box (tc aj e9)),(3,.box (tc ah ij))]⟩) (by kernel_rfl)) Le.ao) (by kernel_rfl) d5,(fun _ h=>absurd h List.not_mem_nil)⟩)
 refine DE.aJ (fuel:=9) (L:= #[false,false,true,false,false,false,false,false,false,false]) (σ:=⟨51,[(2,.ref 2 0),(3,.ref 3 0),(24,.agg (tc ah ij))],[(2,.box (tc aj e9)),(3,.box (tc ah ij))]⟩) ?_ (fun d2=> ?_)
 exact DE.all [0] (by kernel_rfl) (by simp) (List.forall_mem_cons.2 ⟨bW.mk (i:=0) (L':= #[true,false,true,false,false,false,false,false,false,false]) rfl (al.le (al.bj aa (σ':=⟨51,[(22,.agg (tc aj e9)),(2,.ref 2 0),(3,.ref 3 0),(24,.agg (tc ah ij))],[(2,.box (tc aj e9)),(3,.box (tc ah ij))]⟩) (by kernel_rfl)) Le.ao) (by kernel_rfl) d4,(fun _ h=>absurd h List.not_mem_nil)⟩)
 refine DE.aJ (fuel:=9) (L:= #[true,false,false,false,false,false,false,false,false,false]) (σ:=⟨51,[(2,.ref 2 0),(3,.ref 3 0),(22,.agg (tc aj e9))],[(2,.box (tc aj e9)),(3,.box (tc ah ij))]⟩) ?_ (fun d1=> ?_)
 exact DE.all [1,2] (by kernel_rfl) (by simp) (List.forall_mem_cons.2 ⟨bW.mk (i:=1) (L':= #[true,true,false,false,false,false,false,false,false,false]) rfl (al.le (al.kn (xc pO (fM e9 _ hx3)) (by kernel_rfl)) Le.ao) (by kernel_rfl) d3,(List.forall_mem_cons.2 ⟨bW.mk (i:=2) (L':= #[true,false,true,false,false,false,false,false,false,false]) rfl (al.le (al.bj aa (σ':=⟨51,[(24,.agg (tc ah ij)),(2,.ref 2 0),(3,.ref 3 0),(22,.agg (tc aj e9))],[(2,.box (tc aj e9)),(3,.box (tc ah ij))]⟩) (by kernel_rfl)) Le.ao) (by kernel_rfl) d4,(fun _ h=>absurd h List.not_mem_nil)⟩)⟩)
 exact DE.all [0,2] (by kernel_rfl) (by simp) (List.forall_mem_cons.2 ⟨bW.mk (i:=0) (L':= #[true,false,false,false,false,false,false,false,false,false]) rfl (al.le (al.bj aa (σ':=⟨51,[(22,.agg (tc aj e9)),(2,.ref 2 0),(3,.ref 3 0),(20,vb (decide (x2<0)))],[(2,.box (tc aj e9)),(3,.box (tc ah ij))]⟩) (by kernel_rfl)) Le.ao) (by kernel_rfl) d1,(List.forall_mem_cons.2 ⟨bW.mk (i:=2) (L':= #[false,false,true,false,false,false,false,false,false,false]) rfl (al.le (al.bj aa (σ':=⟨51,[(24,.agg (tc ah ij)),(2,.ref 2 0),(3,.ref 3 0),(20,vb (decide (x2<0)))],[(2,.box (tc aj e9)),(3,.box (tc ah ij))]⟩) (by kernel_rfl)) Le.ao) (by kernel_rfl) d2,(fun _ h=>absurd h List.not_mem_nil)⟩)⟩)
 refine a8 ?_
 refine sr ?_
 refine ae.ck aa 1 ⟨51,[(2,.ref 2 0),(3,.ref 3 0),(6,vb x5.1),(7,vi x5.2),(29,.agg (tc aj e9))],[(2,.box (tc aj e9)),(3,.box (tc ah ij))]⟩ ?_
 obtain⟨x6,hx6,h⟩:=bind_some h
 refine ae.cf (x_w [(3000000,50),(3000001,47)] [true] pO (mz e9 _ hx6)) ?_
 refine bU aa 2 ⟨51,[(2,.ref 2 0),(3,.ref 3 0),(6,vb x5.1),(7,vi x5.2),(8,.ref 8 0)],[(2,.box (tc aj e9)),(3,.box (tc ah ij)),(8,.box [.own 50,.own 47]),(47,oa 85 4 ac x6.Links),(50,.deep 91 5 x6.Places.length [.flat,.flat,.flat,.flat,(.sl 169 5 [.flat,.flat,.flat,.flat,.flat])] (x6.Places.map ab))]⟩ ?_
 refine ai ?_
 refine di mixed ?_
 refine aQ.ck aa false 2 ⟨51,[(2,.ref 2 0),(6,vb x5.1),(7,vi x5.2),(8,.ref 8 0),(32,.agg [.own 50,.own 47]),(33,.agg (tc ah ij))],[(2,.box (tc aj e9)),(8,.box [.own 50,.own 47]),(47,oa 85 4 ac x6.Links),(50,.deep 91 5 x6.Places.length [.flat,.flat,.flat,.flat,(.sl 169 5 [.flat,.flat,.flat,.flat,.flat])] (x6.Places.map ab))]⟩ ?_
 obtain⟨x7,hx7,h⟩:=bind_some h
 refine aQ.step (xc xq (jN ij _ hx7)) ?_
 obtain⟨x8,hx8,h⟩:=bind_some h
 refine aQ.step (xc AE (m4 x6 x7 _ hx8)) ?_
 refine aQ.ck aa false 5 ⟨51,[(2,.ref 2 0),(6,vb x5.1),(7,vi x5.2),(8,.ref 8 0),(9,vb x8.1),(10,vi x8.2)],[(2,.box (tc aj e9)),(8,.box [.own 50,.own 47]),(47,oa 85 4 ac x6.Links),(50,.deep 91 5 x6.Places.length [.flat,.flat,.flat,.flat,(.sl 169 5 [.flat,.flat,.flat,.flat,.flat])] (x6.Places.map ab))]⟩ ?_
 refine aQ.nx ?_
 refine ai ?_
 refine ai ?_
 refine cQ ⟨51,[(2,.ref 2 0),(8,.ref 8 0),(45,vb ((!(x8.1==x5.1)) || (x8.2 !=x5.2)))],[(2,.box (tc aj e9)),(8,.box [.own 50,.own 47]),(47,oa 85 4 ac x6.Links),(50,.deep 91 5 x6.Places.length [.flat,.flat,.flat,.flat,(.sl 169 5 [.flat,.flat,.flat,.flat,.flat])] (x6.Places.map ab))]⟩ ?_ ?_
 refine ae.ck aa 2 ⟨51,[(2,.ref 2 0),(7,vi x5.2),(8,.ref 8 0),(10,vi x8.2),(38,vb x8.1),(39,vb x5.1)],[(2,.box (tc aj e9)),(8,.box [.own 50,.own 47]),(47,oa 85 4 ac x6.Links),(50,.deep 91 5 x6.Places.length [.flat,.flat,.flat,.flat,(.sl 169 5 [.flat,.flat,.flat,.flat,.flat])] (x6.Places.map ab))]⟩ ?_
 refine ae.ls (ue aa (ti:=ti4) (i:=x8.1) (j:=x5.1) true rfl) ?_
 refine ae.ck aa 1 ⟨51,[(2,.ref 2 0),(7,vi x5.2),(8,.ref 8 0),(10,vi x8.2),(41,vb (!(x8.1==x5.1)))],[(2,.box (tc aj e9)),(8,.box [.own 50,.own 47]),(47,oa 85 4 ac x6.Links),(50,.deep 91 5 x6.Places.length [.flat,.flat,.flat,.flat,(.sl 169 5 [.flat,.flat,.flat,.flat,.flat])] (x6.Places.map ab))]⟩ ?_
 generalize (!(x8.1==x5.1))=bb
 cases bb
 refine ae.ck aa 4 ⟨51,[(2,.ref 2 0),(8,.ref 8 0),(45,vb (x8.2 !=x5.2))],[(2,.box (tc aj e9)),(8,.box [.own 50,.own 47]),(47,oa 85 4 ac x6.Links),(50,.deep 91 5 x6.Places.length [.flat,.flat,.flat,.flat,(.sl 169 5 [.flat,.flat,.flat,.flat,.flat])] (x6.Places.map ab))]⟩ ?_
 exact ae.nil (Le.ao)
 refine ae.ck aa 4 ⟨51,[(2,.ref 2 0),(8,.ref 8 0),(45,vb true)],[(2,.box (tc aj e9)),(8,.box [.own 50,.own 47]),(47,oa 85 4 ac x6.Links),(50,.deep 91 5 x6.Places.length [.flat,.flat,.flat,.flat,(.sl 169 5 [.flat,.flat,.flat,.flat,.flat])] (x6.Places.map ab))]⟩ ?_
 exact ae.nil (Le.ao)
 refine aq h (fun h=> ?_) fun h=> ?_
 refine az aa ⟨51,[(4,vb false)],[]⟩ ?_
 refine ak ?_
 obtain rfl:=inj h
 exact bS (aD (f1 fv))
 refine an ?_
 refine a8 ?_
 refine ai ?_
 refine ai ?_
 obtain⟨x9,hx9,h⟩:=bind_some h
 obtain⟨x10,hx10,h⟩:=bind_some h
 refine di mixed ?_
 refine aQ.xF (σE:=⟨51,[(50,vb (!x10))],[]⟩) (n:=5) (L0:= #[false,false,false,false,false]) (by kernel_rfl) (by kernel_rfl) (fun K hk=> ?_) ?_
 refine DE.aJ (fuel:=0) (L:= #[true,true,true,true,true]) (σ:=⟨51,[(50,vb (!x10))],[]⟩) ?_ (fun d7=> ?_)
 exact DE.done (by kernel_rfl) hk
 refine DE.aJ (fuel:=1) (L:= #[true,true,true,true,false]) (σ:=⟨51,[(49,vb x10)],[]⟩) ?_ (fun d6=> ?_)
 exact DE.all [4] (by kernel_rfl) (by simp) (List.forall_mem_cons.2 ⟨bW.mk (i:=4) (L':= #[true,true,true,true,true]) rfl (al.le (al.bj aa (σ':=⟨51,[(50,vb (!x10)),(49,vb x10)],[]⟩) (by kernel_rfl)) Le.ao) (by kernel_rfl) d7,(fun _ h=>absurd h List.not_mem_nil)⟩)
 refine DE.aJ (fuel:=2) (L:= #[true,true,true,false,false]) (σ:=⟨51,[(46,.agg [.own 50,.own 47]),(48,.agg (tc aj x9))],[(47,oa 85 4 ac x6.Links),(50,.deep 91 5 x6.Places.length [.flat,.flat,.flat,.flat,(.sl 169 5 [.flat,.flat,.flat,.flat,.flat])] (x6.Places.map ab))]⟩) ?_ (fun d5=> ?_)
 exact DE.all [3] (by kernel_rfl) (by simp) (List.forall_mem_cons.2 ⟨bW.mk (i:=3) (L':= #[true,true,true,true,false]) rfl (al.le (al.kn (xc AF (nS x6 x9 _ hx10)) (by kernel_rfl)) Le.ao) (by kernel_rfl) d6,(fun _ h=>absurd h List.not_mem_nil)⟩)
 refine DE.aJ (fuel:=3) (L:= #[false,true,true,false,false]) (σ:=⟨51,[(8,.ref 8 0),(48,.agg (tc aj x9))],[(8,.box [.own 50,.own 47]),(47,oa 85 4 ac x6.Links),(50,.deep 91 5 x6.Places.length [.flat,.flat,.flat,.flat,(.sl 169 5 [.flat,.flat,.flat,.flat,.flat])] (x6.Places.map ab))]⟩) ?_ (fun d4=> ?_)
 exact DE.all [0] (by kernel_rfl) (by simp) (List.forall_mem_cons.2 ⟨bW.mk (i:=0) (L':= #[true,true,true,false,false]) rfl (al.le (al.bj aa (σ':=⟨51,[(46,.agg [.own 50,.own 47]),(8,.ref 8 0),(48,.agg (tc aj x9))],[(8,.box [.own 50,.own 47]),(47,oa 85 4 ac x6.Links),(50,.deep 91 5 x6.Places.length [.flat,.flat,.flat,.flat,(.sl 169 5 [.flat,.flat,.flat,.flat,.flat])] (x6.Places.map ab))]⟩) (by kernel_rfl)) Le.ao) (by kernel_rfl) d5,(fun _ h=>absurd h List.not_mem_nil)⟩)
 refine DE.aJ (fuel:=3) (L:= #[true,true,false,false,false]) (σ:=⟨51,[(46,.agg [.own 50,.own 47]),(47,.agg (tc aj e9))],[(47,oa 85 4 ac x6.Links),(50,.deep 91 5 x6.Places.length [.flat,.flat,.flat,.flat,(.sl 169 5 [.flat,.flat,.flat,.flat,.flat])] (x6.Places.map ab))]⟩) ?_ (fun d3=> ?_)
 exact DE.all [2] (by kernel_rfl) (by simp) (List.forall_mem_cons.2 ⟨bW.mk (i:=2) (L':= #[true,true,true,false,false]) rfl (al.le (al.kn (xc pO (fM e9 _ hx9)) (by kernel_rfl)) Le.ao) (by kernel_rfl) d5,(fun _ h=>absurd h List.not_mem_nil)⟩)
 refine DE.aJ (fuel:=4) (L:= #[false,true,false,false,false]) (σ:=⟨51,[(8,.ref 8 0),(47,.agg (tc aj e9))],[(8,.box [.own 50,.own 47]),(47,oa 85 4 ac x6.Links),(50,.deep 91 5 x6.Places.length [.flat,.flat,.flat,.flat,(.sl 169 5 [.flat,.flat,.flat,.flat,.flat])] (x6.Places.map ab))]⟩) ?_ (fun d2=> ?_)
 exact DE.all [0,2] (by kernel_rfl) (by simp) (List.forall_mem_cons.2 ⟨bW.mk (i:=0) (L':= #[true,true,false,false,false]) rfl (al.le (al.bj aa (σ':=⟨51,[(46,.agg [.own 50,.own 47]),(8,.ref 8 0),(47,.agg (tc aj e9))],[(8,.box [.own 50,.own 47]),(47,oa 85 4 ac x6.Links),(50,.deep 91 5 x6.Places.length [.flat,.flat,.flat,.flat,(.sl 169 5 [.flat,.flat,.flat,.flat,.flat])] (x6.Places.map ab))]⟩) (by kernel_rfl)) Le.ao) (by kernel_rfl) d3,(List.forall_mem_cons.2 ⟨bW.mk (i:=2) (L':= #[false,true,true,false,false]) rfl (al.le (al.kn (xc pO (fM e9 _ hx9)) (by kernel_rfl)) Le.ao) (by kernel_rfl) d4,(fun _ h=>absurd h List.not_mem_nil)⟩)⟩)
 refine DE.aJ (fuel:=4) (L:= #[true,false,false,false,false]) (σ:=⟨51,[(2,.ref 2 0),(46,.agg [.own 50,.own 47])],[(2,.box (tc aj e9)),(47,oa 85 4 ac x6.Links),(50,.deep 91 5 x6.Places.length [.flat,.flat,.flat,.flat,(.sl 169 5 [.flat,.flat,.flat,.flat,.flat])] (x6.Places.map ab))]⟩) ?_ (fun d1=> ?_)
 exact DE.all [1] (by kernel_rfl) (by simp) (List.forall_mem_cons.2 ⟨bW.mk (i:=1) (L':= #[true,true,false,false,false]) rfl (al.le (al.bj aa (σ':=⟨51,[(47,.agg (tc aj e9)),(2,.ref 2 0),(46,.agg [.own 50,.own 47])],[(2,.box (tc aj e9)),(47,oa 85 4 ac x6.Links),(50,.deep 91 5 x6.Places.length [.flat,.flat,.flat,.flat,(.sl 169 5 [.flat,.flat,.flat,.flat,.flat])] (x6.Places.map ab))]⟩) (by kernel_rfl)) Le.ao) (by kernel_rfl) d3,(fun _ h=>absurd h List.not_mem_nil)⟩)
 exact DE.all [0,1] (by kernel_rfl) (by simp) (List.forall_mem_cons.2 ⟨bW.mk (i:=0) (L':= #[true,false,false,false,false]) rfl (al.le (al.bj aa (σ':=⟨51,[(46,.agg [.own 50,.own 47]),(2,.ref 2 0),(8,.ref 8 0),(45,vb ((!(x8.1==x5.1)) || (x8.2 !=x5.2)))],[(2,.box (tc aj e9)),(8,.box [.own 50,.own 47]),(47,oa 85 4 ac x6.Links),(50,.deep 91 5 x6.Places.length [.flat,.flat,.flat,.flat,(.sl 169 5 [.flat,.flat,.flat,.flat,.flat])] (x6.Places.map ab))]⟩) (by kernel_rfl)) Le.ao) (by kernel_rfl) d1,(List.forall_mem_cons.2 ⟨bW.mk (i:=1) (L':= #[false,true,false,false,false]) rfl (al.le (al.bj aa (σ':=⟨51,[(47,.agg (tc aj e9)),(2,.ref 2 0),(8,.ref 8 0),(45,vb ((!(x8.1==x5.1)) || (x8.2 !=x5.2)))],[(2,.box (tc aj e9)),(8,.box [.own 50,.own 47]),(47,oa 85 4 ac x6.Links),(50,.deep 91 5 x6.Places.length [.flat,.flat,.flat,.flat,(.sl 169 5 [.flat,.flat,.flat,.flat,.flat])] (x6.Places.map ab))]⟩) (by kernel_rfl)) Le.ao) (by kernel_rfl) d2,(fun _ h=>absurd h List.not_mem_nil)⟩)⟩)
 refine a8 ?_
 refine aq h (fun h=> ?_) fun h=> ?_
 refine az aa ⟨51,[(4,vb false)],[]⟩ ?_
 refine ak ?_
 obtain rfl:=inj h
 exact bS (aD (f1 fv))
 refine an ?_
 refine a8 ?_
 refine az aa ⟨51,[(4,vb true)],[]⟩ ?_
 refine ak ?_
 obtain rfl:=inj h
 exact aD (f1 fv)
end Go.Proofs.YtdejeagdkfokfaaGreatDoor.Sh
