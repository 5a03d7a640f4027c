/- Parts of the proof, in order: GA, SF, GB, MW1, MWP, MIC2, MCN4, MD1, MGV, MCN5, QA, QM, MN1, MDS1, MCN6, MCN7, MLC3, MPL2, MLC1, MLC2, MLC4, MLC5, MN5, MLC6, MCN8, MCN9, SS1, MN2, MN3, MN6, MN7. -/
import Derived.Test.YtbdbpakffniboaaGreatDoorGAp1
import Derived.Test.YtbdbpakffniboaaGreatDoorJ0
import Derived.Test.YtbdbpakffniboaaGreatDoorJ1
import Derived.Test.YtbdbpakffniboaaGreatDoorSB
noncomputable section
open Go.Proofs.Tryz
open Go.Proofs.Tryz renaming prog->WX
open Array renaming length_toList->TB,toList_inj->VH
open Bool renaming and_eq_true->Tp,not_true->TO,eq_false_iff->TS,or_eq_true->TT,not_false->Uj,not_eq_true'->Un,true_and->Uy,or_eq_false_iff->Uz,eq_iff_iff->Va,false_or->VW,and_true->V6,false_and->Wj
open ByteArray renaming mk->Tj,size_append->Tw,size_extract->V4
open Int renaming toNat->Tv,toNat_natCast->TG,tmod->Ug,eq_ofNat_of_zero_le->Ui,tmod_eq_emod_of_nonneg->US,fdiv->VB,tdiv->Wn,lt_or_gt_of_ne->Wr
open List renaming getElem?_eq_getElem->Tk,getElem?_eq_some_iff->Tl,mem_of_getElem?->Tm,getElem?_append_right->Ts,all_eq_true->Tt,mem_filter->Tu,mem_cons->Tx,length_cons->Ty,length_append->Tz,mem_map->TF,mem_singleton->TH,mem_flatMap->TK,getD_eq_getElem?_getD->TL,length_map->TM,mem_cons_self->TP,length_take->TQ,range->TU,append_assoc->TX,set->T0,mem_cons_of_mem->T1,take_of_length_le->T4,mem_append_left->T7,drop_eq_getElem_cons->Uc,any_eq_true->Uh,getElem_mem->Uo,append_nil->Up,mem_iff_getElem?->Uq,not_mem_nil->UA,length_nil->UC,nil_append->UD,replicate->UH,map_cons->UK,drop_eq_nil_of_le->UL,length_filter_le->UN,getElem?_set_self->UW,length_singleton->U0,getElem?_cons_succ->U1,filter_cons_of_pos->U2,mem_of_mem_take->U6,getElem?_drop->U7,map_append->U9,cons_append->Vb,mem_of_find?_eq_some->Vd,take_add_one->Vg,filter_cons_of_neg->Vn,find?_eq_none->Vs,all_cons->Vw,mem_range'_1->Vy,not_all_eq_any_not->VA,map_nil->VC,drop_zero->VJ,mem_iff_getElem->VU,length_pos_iff->VX,getElem?_cons_zero->V0,filter_cons->V1,prefix_append->V3,take_append_drop->V8,find?_some->Wp,range_succ->Wq,pairwise_lt_range'->Ww,drop_drop->WB,prefix_refl->WM
open Nat renaming le_refl->TA,pow_le_pow_right->Ua,zero_le->Ul,le_trans->Ut,lt_trichotomy->Vf,mul_le_mul->Vx,sub_self->VD,min_eq_left->VP,sub_zero->VT
open Option renaming bind_some->Ti,map_eq_some_iff->Tn,some->Um,map_some->UO
open Sum renaming elim->TC,elim_inr->TZ,elim_inl->T6,inr->U4
open UInt8 renaming lt_iff_toNat_lt->Vi,toNat_inj->VQ
namespace Go.Proofs.YtbdbpakffniboaaGreatDoor.Sh
open Go.RowKit
set_option maxRecDepth 100000
set_option maxHeartbeats 4000000
def mx(aA:(List Site))(aK:Int):Option (Int):=
 (((de (aA.length:Int) (fun(i3:Int) (s3:Int)=>((at' aA i3).bind fun x7=>((bF s3).bind fun x8=>(bif(!(x7.Code.toList==x8.toList))then some (.inr (.inr (-1)))else((at' aA i3).bind fun x9=>(bif(x9.At.X !=(ap (s3+1)))then some (.inr (.inr (-1)))else((at' aA i3).bind fun x10=>(bif(x10.At.Y !=(ap ((ap (s3+1))+1)))then some (.inr (.inr (-1)))else some (.inl (ap ((ap ((ap (s3+1))+1))+1))))))))))) (fun(s3:Int)=> .inl s3) 0 aK)).bind (TC (fun(j1:Int)=>some j1) some))
theorem Ap{aA:(List Site)}{aK:Int}:Ct WX 47 (mx aA aK) [.v (vl ai aA),.v (vi aK)] (fun r=>⟨[.v (vi r)],[],false⟩):=Ct.i func47 rfl fun r h=>sl (ac (sl (lZ (fun j1=>[(1,vi j1)]) h (fun v2 h=>ah (a:=v2) (lp (fun s3=>[(1,vi s3.2),(5,vi s3.1)]) h (fun s3 v4 h=>ac (sl (ad h (fun h=>sn (jL (fun j5=>[(1,vi j5)]) h (fun v6 h=>ah (a:=v6) (ac (ac (bf mixed (gb 2 h (yI ai) fun x7 h=>gb 3 h (yC ef) fun x8 h=>gh false 1 (bI.nil (by kernel_rfl) (aq (ad h (fun h=>Z) fun h=>sn (sl (ac (sr (kb 2 h (yI ai) fun x9 h=>aW (aq (ad h (fun h=>Z) fun h=>sn (sl (ac (sr (kb 2 h (yI ai) fun x10 h=>aW (aq (ad h (fun h=>Z) fun h=>Z)))))))))))))))))))) fun j5 h=>Z)) fun h=>Z))))) fun j1 h=>Z)))
def lc(aA:bg)(aK:Int):Option (Int):=
 ((ji aA.Claims aK).bind fun x1=>(bif(decide (x1<0))then some (-1)else((mx aA.Sites x1).bind fun x2=>(bif(decide (x2<0))then some (-1)else some x2))))
theorem sV{aA:bg}{aK:Int}:Ct WX 22 (lc aA aK) [.v (.agg (tc ao aA)),.v (vi aK)] (fun r=>⟨[.v (vi r)],[],false⟩):=Ct.i func22 rfl fun r h=>sl (sr (kb 3 h (yC yu) fun x1 h=>aW (aq (ac (sl (ad h (fun h=>Z) fun h=>sn (sr (kb 3 h (yC Ap) fun x2 h=>aW (aq (ac (sl (ad h (fun h=>Z) fun h=>Z))))))))))))
def ez(bZ:ByteArray):Option (bg×Int):=
 ((jh bZ).bind fun x1=>some (x1.1,x1.2.2))
theorem jQ(bZ:ByteArray)(r:bg×Int)(h:ez bZ=some r):p9 WX 19 [vs bZ] [] [(3000000,oa 65 7 aa r.1.Claims),(3000001,oa 69 3 ai r.1.Sites)] [.agg [.own 3000000,.own 3000001],vi r.2]:=by
 refine mR func19 rfl [(.cell 2 34),(.tmp 3)] rfl (fun r=>[(3000000,oa 65 7 aa r.1.Claims),(3000001,oa 69 3 ai r.1.Sites)]) (fun r=>[.agg [.own 3000000,.own 3000001],vi r.2]) (r:=r) (dq (dd gF _) (dq (dd iR _) oO)) ?_;unfold ez at h;refine srl ag [0,2] [2] ?_;refine sr ?_;refine aj.ck ag 1 ⟨15,[(2,.ref 2 0),(8,vs bZ)],[(2,.box [vl aa [],vl ai []])]⟩ ?_;obtain⟨x1,hx1,h⟩:=bind_some h;refine aj.kN (x_w [(3000000,14),(3000001,13),(3000002,12)] [true] Rz (wA bZ _ hx1)) ?_;refine cln ag 8 [2,4,6] [2,4,13,14] ?_;refine srk ag ⟨15,[(2,.ref 2 0),(3,vi x1.2.2)],[(2,.box [.own 14,.own 13]),(13,oa 69 3 ai x1.1.Sites),(14,oa 65 7 aa x1.1.Claims)]⟩ ?_;refine dw (Le.Jk 14 3000000) ?_;refine dw (Le.Jk 13 3000001) ?_;refine ed ?_;obtain rfl:=inj h;exact qR (fw ag)
theorem Kf:dH WX 19:=bK func19 (by kernel_rfl) rfl
def jj(aA:(List Claim))(aK:Int):Option (Int×(List Claim)):=
 (((lW (fun(i3:Int) (s3:Int×(List Claim))=>(decide (i3<(s3.2.length:Int)))) (fun(i3:Int) (s3:Int×(List Claim))=>((bF s3.1).bind fun x7=>((at' s3.2 i3).bind fun x8=>((at' (T0 s3.2 (Tv i3) (Claim.mk x7 x8.Kind x8.Place x8.Value x8.Years x8.Weight)) i3).bind fun x9=>((bF (ap ((ap (s3.1+1))+1))).bind fun x10=>((at' (T0 (T0 s3.2 (Tv i3) (Claim.mk x7 x8.Kind x8.Place x8.Value x8.Years x8.Weight)) (Tv i3) (Claim.mk x9.Source (ap (s3.1+1)) x9.Place x9.Value x9.Years x9.Weight)) i3).bind fun x11=>((bF (ap ((ap ((ap (s3.1+1))+1))+1))).bind fun x12=>((at' (T0 (T0 (T0 s3.2 (Tv i3) (Claim.mk x7 x8.Kind x8.Place x8.Value x8.Years x8.Weight)) (Tv i3) (Claim.mk x9.Source (ap (s3.1+1)) x9.Place x9.Value x9.Years x9.Weight)) (Tv i3) (Claim.mk x11.Source x11.Kind x10 x11.Value x11.Years x11.Weight)) i3).bind fun x13=>((at' (T0 (T0 (T0 (T0 s3.2 (Tv i3) (Claim.mk x7 x8.Kind x8.Place x8.Value x8.Years x8.Weight)) (Tv i3) (Claim.mk x9.Source (ap (s3.1+1)) x9.Place x9.Value x9.Years x9.Weight)) (Tv i3) (Claim.mk x11.Source x11.Kind x10 x11.Value x11.Years x11.Weight)) (Tv i3) (Claim.mk x13.Source x13.Kind x13.Place x12 x13.Years x13.Weight)) i3).bind fun x14=>((at' (T0 (T0 (T0 (T0 (T0 s3.2 (Tv i3) (Claim.mk x7 x8.Kind x8.Place x8.Value x8.Years x8.Weight)) (Tv i3) (Claim.mk x9.Source (ap (s3.1+1)) x9.Place x9.Value x9.Years x9.Weight)) (Tv i3) (Claim.mk x11.Source x11.Kind x10 x11.Value x11.Years x11.Weight)) (Tv i3) (Claim.mk x13.Source x13.Kind x13.Place x12 x13.Years x13.Weight)) (Tv i3) (Claim.mk x14.Source x14.Kind x14.Place x14.Value (Span.mk (ap ((ap ((ap ((ap (s3.1+1))+1))+1))+1)) x14.Years.To) x14.Weight)) i3).bind fun x15=>((at' (T0 (T0 (T0 (T0 (T0 (T0 s3.2 (Tv i3) (Claim.mk x7 x8.Kind x8.Place x8.Value x8.Years x8.Weight)) (Tv i3) (Claim.mk x9.Source (ap (s3.1+1)) x9.Place x9.Value x9.Years x9.Weight)) (Tv i3) (Claim.mk x11.Source x11.Kind x10 x11.Value x11.Years x11.Weight)) (Tv i3) (Claim.mk x13.Source x13.Kind x13.Place x12 x13.Years x13.Weight)) (Tv i3) (Claim.mk x14.Source x14.Kind x14.Place x14.Value (Span.mk (ap ((ap ((ap ((ap (s3.1+1))+1))+1))+1)) x14.Years.To) x14.Weight)) (Tv i3) (Claim.mk x15.Source x15.Kind x15.Place x15.Value (Span.mk x15.Years.From (ap ((ap ((ap ((ap ((ap (s3.1+1))+1))+1))+1))+1))) x15.Weight)) i3).bind fun x16=>some ((ap ((ap ((ap ((ap ((ap ((ap ((ap (s3.1+1))+1))+1))+1))+1))+1))+1)),(T0 (T0 (T0 (T0 (T0 (T0 (T0 s3.2 (Tv i3) (Claim.mk x7 x8.Kind x8.Place x8.Value x8.Years x8.Weight)) (Tv i3) (Claim.mk x9.Source (ap (s3.1+1)) x9.Place x9.Value x9.Years x9.Weight)) (Tv i3) (Claim.mk x11.Source x11.Kind x10 x11.Value x11.Years x11.Weight)) (Tv i3) (Claim.mk x13.Source x13.Kind x13.Place x12 x13.Years x13.Weight)) (Tv i3) (Claim.mk x14.Source x14.Kind x14.Place x14.Value (Span.mk (ap ((ap ((ap ((ap (s3.1+1))+1))+1))+1)) x14.Years.To) x14.Weight)) (Tv i3) (Claim.mk x15.Source x15.Kind x15.Place x15.Value (Span.mk x15.Years.From (ap ((ap ((ap ((ap ((ap (s3.1+1))+1))+1))+1))+1))) x15.Weight)) (Tv i3) (Claim.mk x16.Source x16.Kind x16.Place x16.Value x16.Years (ap ((ap ((ap ((ap ((ap ((ap (s3.1+1))+1))+1))+1))+1))+1)))))))))))))))) (fun(s3:Int×(List Claim))=>(s3.1,s3.2)) 0 (aK,aA))).bind fun(j1:Int×(List Claim))=>some (j1.1,j1.2))
theorem yw{aA:(List Claim)}{aK:Int}:Ct WX 44 (jj aA aK) [.o (oa 65 7 aa aA),.v (vi aK)] (fun r=>⟨[.v (vi r.1)],[(0,oa 65 7 aa r.2)],false⟩):=Ct.i func44 rfl fun r h=>by
 unfold jj at h;refine sl ?_;refine ac ?_;refine sl ?_;refine fm (fun j1=>[(1,vi j1.1)]) (fun j1=>[(1000000,oa 65 7 aa j1.2)]) h (fun v2 h=> ?_) fun j1 h=>Z;refine ah (a:=v2) ?_;refine lpo (fun s3=>[(1,vi s3.2.1),(5,vi s3.1)]) (fun s3=>[(1000000,oa 65 7 aa s3.2.2)]) h (fun s3 v4 h=> ?_);refine ac ?_;refine sl ?_;refine ad h (fun h=> ?_) fun h=>Z;refine sn ?_;refine jJo (fun j5=>[(1,vi j5.1)]) (fun j5=>[(1000000,oa 65 7 aa j5.2)]) h (fun v6 h=> ?_) fun j5 h=>Z;refine ah (a:=v6) ?_;refine sr ?_;refine kb 3 h (yC ef) fun x7 h=> ?_;refine l6 0 h (eX aa) fun x8 hx8 h=> ?_;exact ke0 1 (yW aa (Claim.mk x7 x8.Kind x8.Place x8.Value x8.Years x8.Weight) hx8) (aW (aq (sl (sr (l6 3 h (eX aa) fun x9 hx9 h=>ke0 1 (yW aa (Claim.mk x9.Source (ap (s3.2.1+1)) x9.Place x9.Value x9.Years x9.Weight) hx9) (aW (aq (sl (sr (kb 3 h (yC ef) fun x10 h=>l6 0 h (eX aa) fun x11 hx11 h=>ke0 1 (yW aa (Claim.mk x11.Source x11.Kind x10 x11.Value x11.Years x11.Weight) hx11) (aW (aq (sl (sr (kb 3 h (yC ef) fun x12 h=>l6 0 h (eX aa) fun x13 hx13 h=>ke0 1 (yW aa (Claim.mk x13.Source x13.Kind x13.Place x12 x13.Years x13.Weight) hx13) (aW (aq (sl (sr (l6 3 h (eX aa) fun x14 hx14 h=>ke0 2 (yW aa (Claim.mk x14.Source x14.Kind x14.Place x14.Value (Span.mk (ap ((ap ((ap ((ap (s3.2.1+1))+1))+1))+1)) x14.Years.To) x14.Weight) hx14) (aW (aq (sl (sr (l6 3 h (eX aa) fun x15 hx15 h=>ke0 2 (yW aa (Claim.mk x15.Source x15.Kind x15.Place x15.Value (Span.mk x15.Years.From (ap ((ap ((ap ((ap ((ap (s3.2.1+1))+1))+1))+1))+1))) x15.Weight) hx15) (aW (aq (sl (sr (l6 3 h (eX aa) fun x16 hx16 h=>ke0 1 (yW aa (Claim.mk x16.Source x16.Kind x16.Place x16.Value x16.Years (ap ((ap ((ap ((ap ((ap ((ap (s3.2.1+1))+1))+1))+1))+1))+1))) hx16) Z))))))))))))))))))))))))))))))
theorem RB:dH WX 44:=bK func44 (by kernel_rfl) rfl
def mz(aA:(List Site))(aK:Int):Option (Int×(List Site)):=
 (((lW (fun(i3:Int) (s3:Int×(List Site))=>(decide (i3<(s3.2.length:Int)))) (fun(i3:Int) (s3:Int×(List Site))=>((bF s3.1).bind fun x7=>((at' s3.2 i3).bind fun x8=>((at' (T0 s3.2 (Tv i3) (Site.mk x7 x8.At)) i3).bind fun x9=>((at' (T0 (T0 s3.2 (Tv i3) (Site.mk x7 x8.At)) (Tv i3) (Site.mk x9.Code (aF.mk (ap (s3.1+1)) x9.At.Y))) i3).bind fun x10=>some ((ap ((ap ((ap (s3.1+1))+1))+1)),(T0 (T0 (T0 s3.2 (Tv i3) (Site.mk x7 x8.At)) (Tv i3) (Site.mk x9.Code (aF.mk (ap (s3.1+1)) x9.At.Y))) (Tv i3) (Site.mk x10.Code (aF.mk x10.At.X (ap ((ap (s3.1+1))+1))))))))))) (fun(s3:Int×(List Site))=>(s3.1,s3.2)) 0 (aK,aA))).bind fun(j1:Int×(List Site))=>some (j1.1,j1.2))
theorem Ar{aA:(List Site)}{aK:Int}:Ct WX 45 (mz aA aK) [.o (oa 69 3 ai aA),.v (vi aK)] (fun r=>⟨[.v (vi r.1)],[(0,oa 69 3 ai r.2)],false⟩):=Ct.i func45 rfl fun r h=>sl (ac (sl (fm (fun j1=>[(1,vi j1.1)]) (fun j1=>[(1000000,oa 69 3 ai j1.2)]) h (fun v2 h=>ah (a:=v2) (lpo (fun s3=>[(1,vi s3.2.1),(5,vi s3.1)]) (fun s3=>[(1000000,oa 69 3 ai s3.2.2)]) h (fun s3 v4 h=>ac (sl (ad h (fun h=>sn (jJo (fun j5=>[(1,vi j5.1)]) (fun j5=>[(1000000,oa 69 3 ai j5.2)]) h (fun v6 h=>ah (a:=v6) (sr (kb 3 h (yC ef) fun x7 h=>l6 0 h (eX ai) fun x8 hx8 h=>ke0 1 (yW ai (Site.mk x7 x8.At) hx8) (aW (aq (sl (sr (l6 3 h (eX ai) fun x9 hx9 h=>ke0 2 (yW ai (Site.mk x9.Code (aF.mk (ap (s3.2.1+1)) x9.At.Y)) hx9) (aW (aq (sl (sr (l6 3 h (eX ai) fun x10 hx10 h=>ke0 2 (yW ai (Site.mk x10.Code (aF.mk x10.At.X (ap ((ap (s3.2.1+1))+1)))) hx10) Z))))))))))))) fun j5 h=>Z)) fun h=>Z))))) fun j1 h=>Z)))
theorem RC:dH WX 45:=bK func45 (by kernel_rfl) rfl
def lf(aA:bg)(aK:Int):Option (Int×bg):=
 ((jj aA.Claims aK).bind fun x1=>((mz aA.Sites x1.1).bind fun x2=>some (x2.1,(bg.mk x1.2 x2.2))))
theorem yx(aA:bg)(aK:Int)(r:Int×bg)(h:lf aA aK=some r):p9 WX 21 [.agg [.own 1000100,.own 1000101],vi aK] [(1000100,oa 65 7 aa aA.Claims),(1000101,oa 69 3 ai aA.Sites)] [(1000100,oa 65 7 aa r.2.Claims),(1000101,oa 69 3 ai r.2.Sites)] [vi r.1]:=by
 refine mR func21 rfl [(.tmp 4)] rfl (fun r=>[(1000100,oa 65 7 aa r.2.Claims),(1000101,oa 69 3 ai r.2.Sites)]) (fun r=>[vi r.1]) (r:=r) (dq (dd gF _) (dq (dd iR _) oO)) ?_;unfold lf at h;refine srl ag [1,2] [2,1000100,1000101] ?_;refine sr ?_;refine aj.cl ag 3 [2,6,7] [2,1000100,1000101] ?_;obtain⟨x1,hx1,h⟩:=bind_some h;refine aj.kN (xe RB (yw.c _ hx1)) ?_;refine cln ag 1 [1,2] [2,1000100,1000101] ?_;refine sr ?_;refine aj.cl ag 3 [10,11] [1000100,1000101] ?_;obtain⟨x2,hx2,h⟩:=bind_some h;refine aj.kN (xe RC (Ar.c _ hx2)) ?_;refine cln ag 1 [1] [1000100,1000101] ?_;refine srl ag [4] [1000100,1000101] ?_;refine ed ?_;obtain rfl:=inj h;exact qR (fw ag)
theorem Ry:dH WX 21:=bK func21 (by kernel_rfl) rfl
def eu(oq:ByteArray):Option (Bool):=
 (bif(decide ((oq.size:Int)>1048576))then some true else((gk oq).bind fun x1=>((ez oq).bind fun x2=>((((nV x2.1 x1.1).bind fun x3=>(bif(!x3)then some true else some (x2.2 !=x1.2)))).bind fun(j4:Bool)=>(bif j4 then some false else((lf x2.1 1).bind fun x6=>((lc x6.2 1).bind fun x7=>(bif(decide (x7<0))then some false else(bif(x7 !=x6.1)then some false else((ez oq).bind fun x8=>((((nV x8.1 x1.1).bind fun x9=>(bif(!x9)then some true else some (x8.2 !=x1.2)))).bind fun(j10:Bool)=>(bif j10 then some false else((lc x6.2 1).bind fun x12=>(bif(decide (x12<0))then some false else(bif(x12 !=x6.1)then some false else some true)))))))))))))))
theorem ry{oq:ByteArray}:Ct WX 5 (eu oq) [.v (vs oq)] (fun r=>⟨[.v (vb r)],[],false⟩):=Ct.i func5 rfl fun r h=>by
 unfold eu at h;refine sl ?_;refine ac ?_;refine sl ?_;refine ad h (fun h=>Z) fun h=> ?_;refine sn ?_;refine sr ?_;refine kb 1 h (yC np) fun x1 h=> ?_;refine aW ?_;refine aq ?_;refine sr ?_;refine ke 1 h (fun x2 hx2=>(x_w [(3000000,65),(3000001,64)] [true] Kf (jQ oq _ hx2))) fun x2 h=> ?_;refine aW ?_;refine aq ?_;refine ac ?_;refine rJ (fun j4=>[(32,vb j4)]) h (fun v5 h=>kb 2 h (yC wQ) fun x3 h=>ch 2 (aj.cu [(28,fun b=>b)] h (fun h=>Z) fun h=>Z)) fun j4 h=> ?_;refine ad h (fun h=>Z) fun h=> ?_;exact sn (sl (sr (ke 2 h (fun x6 hx6=>(x_w [(1000100,65),(1000101,64)] [false,true] Ry (yx x2.1 1 _ hx6))) fun x6 h=>aW (aq (sl (sr (kb 2 h (yC sV) fun x7 h=>aW (aq (ac (sl (ad h (fun h=>Z) fun h=>sn (ac (sl (ad h (fun h=>Z) fun h=>sn (sr (ke 1 h (fun x8 hx8=>(x_w [(3000000,63),(3000001,62)] [true] Kf (jQ oq _ hx8))) fun x8 h=>aW (aq (ac (rJ (fun j10=>[(57,vb j10)]) h (fun v11 h=>kb 2 h (yC wQ) fun x9 h=>ch 2 (aj.cu [(53,fun b=>b)] h (fun h=>Z) fun h=>Z)) fun j10 h=>ad h (fun h=>Z) fun h=>sn (sl (sr (kb 2 h (yC sV) fun x12 h=>aW (aq (ac (sl (ad h (fun h=>Z) fun h=>sn (ac (sl (ad h (fun h=>Z) fun h=>Z)))))))))))))))))))))))))))))
theorem p6(oq:ByteArray)(r:Bool)(h:eu oq=some r):eG WX 5 [.v (vs oq)] ⟨[.v (vb r)],[],false⟩:=ry.c r h
section
variable {P : Program} {tb : Tb} {ops : Array Oper} {o : Oper} {ν : SS}
theorem MZ(hP:bm P tb){d e m n:Nat}{es:List (List Tr)}(hdst:o.dst=some d)(hgd:gd ops ν o=some true)(hn:d<ν.n)(hf:(SS.mk ν.n ν.t []).names.contains d=false)(h:aop tb ⟨ν.n,ν.t,[]⟩ d o.type o.op=some (.own d,.arr e m n es)):bN P ops o ν (some (.tr (.sl n es),none)):=by
 intro σ c a w hs _ ⟨S,β,hr⟩;have hν:=hs.rel hr;unfold iQ;rw[px hν hgd,if_pos rfl];have hf':d∉(SS.mk ν.n ν.t []).names:=fun hm=>by
  rw[List.contains_iff_mem.2 hm]at hf;cases hf
 have hr1:Rel ⟨w,S,[],fun _ _=>False,fun j v h=>(by cases h),⟨hr.xj,fun p _ ⟨_,_,h,_⟩=>by cases h⟩,false⟩ S β ⟨ν.n,ν.t,[]⟩ a w:=
  ⟨hν.defers,hν.size,hν.one,dA.refl _ _,fun _ h=>h,fun _ h=> .inl h,hν.lt,hν.tmp,fun d x hd=>(by cases hd),fun j v hj=>(by cases hj),fun d x g hd _=>(by cases hd),fun d x d' x' g hd _ _ _=>(by cases hd)⟩
 obtain⟨u,w',hrun,⟨S2,β2,hr2⟩,hg⟩:=NJ hP hr1 hr1 (fun _ h=>h) hdst hn hf' h;rw[hdst]at hr2;have hmem:(d,SO.arr e m n es)∈((SS.mk ν.n ν.t []).add d (.own d) (.arr e m n es)).o:= .head _;have hob:=hr2.obj d _ hmem;have hpv:=fun g hg=>hr2.priv d _ g hmem hg;have hu:β2 d=u:=by
  have h1:=hr2.tmp d (.own d) (.head _);rw[LY a u (by have:=hν.size;omega)]at h1;cases h1.2;rfl
 have htree:TV w' (fun b=>S2 b\/(SO.arr e m n es).ba w' (β2 d) b) (.sl n es) (β2 d):=yY hr2 (fun _ hb=> .inl hb) hmem fun _ hg=> .inr hg;rw[hu]at htree hpv hob;have hr':=hr.world hg;have hold: ∀b,S b->S2 b:=hr2.s0;have hnew: ∀b,(S2 b\/(SO.arr e m n es).ba w' u b)->S b\/w.heap.size<=b:=fun b hb=>by
  rcases hb with hb | hb
  ·rcases hr2.s1 b hb with h | h | ⟨h,_⟩
   ·exact .inl h
   ·exact .inr h
   ·cases h
  ·rcases(hpv b hb).2 with⟨_,h⟩ | ⟨_,h⟩
   ·exact .inr h
   ·obtain⟨⟨_,_,h,_⟩,_⟩:=h;cases h
 unfold Oper.wp;rw[hrun];refine⟨fun b=>S2 b\/(SO.arr e m n es).ba w' u b,β,?_⟩;have hr3:Rel c (fun b=>S2 b\/(SO.arr e m n es).ba w' u b) β σ a w':=
  ⟨hr'.defers,hr'.size,hr'.one,hr'.grew,fun b hb=> .inl (hold b (hr.s0 b hb)),fun b hb=>by
   rcases hnew b hb with h | h
   ·exact hr.s1 b h
   ·exact .inr (.inl (Ut hr.grew.size h)),fun b hb=>by
   rcases hb with hb | hb
   ·exact hr2.lt b hb
   ·exact hob.lt hb,fun i v hi=>⟨(hr'.tmp i v hi).1,(hr'.tmp i v hi).2.keep (fun _ _=>rfl) fun b hb=> .inl (hold b hb)⟩,
   fun k x hk=>(hr'.obj k x hk).keep (fun _ _=>rfl) fun b hb=> .inl (hold b hb),hr'.pin,fun k x g hk hg2=>by
   refine⟨fun hb=> ?_,(hr'.priv k x g hk hg2).2⟩;have hlt:g<w.heap.size:=(hr.obj k x hk).lt (((hr.obj k x hk).ba fun b hb=>hg.block b ((hr.obj k x hk).lt hb) id).1 hg2);rcases hnew g hb with h | h
   ·exact(hr'.priv k x g hk hg2).1 h
   ·omega,hr'.apart⟩
 have hdσ:d<σ.n:=by rw[<-hs.n];exact hn
 rw[hdst];exact hr3.put hdσ (.tr _ _ htree)
theorem S1(hP:bm P tb)(n:Nat)(es:List (List Tr)){d e m:Nat}(hdst:o.dst=some d:=by kernel_rfl)(hgd:gd ops ν o=some true:=by kernel_rfl)(hn:Nat.blt d ν.n=true:=by kernel_rfl)(hf:(SS.mk ν.n ν.t []).names.contains d=false:=by kernel_rfl)(h:aop tb ⟨ν.n,ν.t,[]⟩ d o.type o.op=some (.own d,.arr e m n es):=by kernel_rfl):bN P ops o ν (some (.tr (.sl n es),none)):=MZ hP hdst hgd (by simpa using hn) hf h
end
set_option maxRecDepth 100000
set_option maxHeartbeats 4000000
structure an where
 code:(List Int)
 at':Int
 seed:Int
def aQ(x:an):List Tr:=[.sl x.code.length (x.code.map (eI .u8)),.int .i64 x.at',.int .i64 x.seed]
def Tg:TI:=⟨3,40,.struct [(0,28),(1,3),(2,2)],[.sl ([]:List Int).length (([]:List Int).map (eI .u8)),.int .i64 0,.int .i64 0]⟩
def Rm:Tb:=[(2,ti2),(3,ti3),(4,ti4),(5,ti5),(9,ti9),(22,Hj),(28,Ps),(31,Fj),(32,JH),(34,wI),(63,JI),(65,Fk),(67,Ej),(69,Ek),(83,Tg),(91,SX),(126,Rn)]
theorem sL:bm WX Rm:=bm.cons ⟨by kernel_rfl,show WX.underlying 2=some (.int .i64)from by kernel_rfl⟩ (bm.cons ⟨by kernel_rfl,show WX.underlying 3=some (.int .i64)from by kernel_rfl⟩ (bm.cons ⟨by kernel_rfl,show WX.underlying 4=some (.bool)from by kernel_rfl⟩ (bm.cons ⟨by kernel_rfl,show WX.underlying 5=some (.int .u8)from by kernel_rfl⟩ (bm.cons ⟨by kernel_rfl,show WX.underlying 9=some (.string)from by kernel_rfl⟩ (bm.cons ⟨by kernel_rfl,show WX.underlying 22=some (.slice 9)from by kernel_rfl⟩ (bm.cons ⟨by kernel_rfl,show WX.underlying 28=some (.slice 5)from by kernel_rfl⟩ (bm.cons ⟨by kernel_rfl,show WX.underlying 31=some (.slice 65)from by kernel_rfl⟩ (bm.cons ⟨by kernel_rfl,show WX.underlying 32=some (.slice 69)from by kernel_rfl⟩ (bm.cons ⟨by kernel_rfl,show structOf WX 34=some [(0,31),(1,32)]from by kernel_rfl⟩ (bm.cons ⟨by kernel_rfl,show structOf WX 63=some [(0,2),(1,2)]from by kernel_rfl⟩ (bm.cons ⟨by kernel_rfl,show structOf WX 65=some [(0,9),(1,2),(2,9),(3,9),(4,63),(6,2)]from by kernel_rfl⟩ (bm.cons ⟨by kernel_rfl,show structOf WX 67=some [(0,2),(1,2)]from by kernel_rfl⟩ (bm.cons ⟨by kernel_rfl,show structOf WX 69=some [(0,9),(1,67)]from by kernel_rfl⟩ (bm.cons ⟨by kernel_rfl,show structOf WX 83=some [(0,28),(1,3),(2,2)]from by kernel_rfl⟩ (bm.cons ⟨by kernel_rfl,show structOf WX 91=some [(0,2),(1,2),(2,9),(3,2),(4,9),(5,9)]from by kernel_rfl⟩ (bm.cons ⟨by kernel_rfl,show WX.underlying 126=some (.slice 2)from by kernel_rfl⟩ (bm.nil _)))))))))))))))))
instance:TbI WX Rm:=⟨sL⟩
def yt(bx:(List Int)):Option (Bool):=
 some (decide ((bx.length:Int)>4096))
theorem KH{bx:(List Int)}:Ct WX 12 (yt bx) [.v (vl (eI .u8) bx)] (fun r=>⟨[.v (vb r)],[],false⟩):=Ct.i func12 rfl fun r h=>by
 unfold yt at h;exact Z
def gS(bx:(List Int)):Option (an):=
 (((lW (fun(i3:Int) (_:an)=>((decide (i3<(bx.length:Int)))&&(decide (i3<64)))) (fun(i3:Int) (s3:an)=>((at' bx i3).bind fun x7=>some (an.mk s3.code s3.at' (Ug (ap ((ap (s3.seed*73))+(ap x7))) 2147483647)))) (fun(s3:an)=>s3) 0 (an.mk bx 0 51031))).bind fun(j1:an)=>some j1)
theorem uX{bx:(List Int)}:Ct WX 35 (gS bx) [.v (vl (eI .u8) bx)] (fun r=>⟨[.box [vl (eI .u8) r.code,vi r.at',vi r.seed]],[],true⟩):=Ct.i func35 rfl fun r h=>by
 unfold gS at h;refine sr ?_;refine k0 0 (Hq rfl) ?_;refine aW ?_;refine aq ?_;refine sr ?_;refine k0 1 yV ?_;refine aW ?_;refine aq ?_;refine ac ?_;refine sl ?_;refine dps [7,6,5] ?_;refine fm (fun _=>[]) (fun j1=>[(7,.box (tc aQ j1))]) h (fun v2 h=> ?_) fun j1 h=>sl (ed (zf h (Sg (by kernel_rfl) (Si (d:=7) (qg (by kernel_rfl)) (by kernel_rfl) rfl (by kernel_rfl)))));refine ah (a:=v2) ?_;refine lpo (fun s3=>[(4,vi s3.1)]) (fun s3=>[(7,.box (tc aQ s3.2))]) h (fun s3 v4 h=> ?_);refine ac ?_;refine ac ?_;refine cF ⟨34,[(0,vl (eI .u8) bx),(3,.ref 7 0),(4,vi s3.1),(15,vb ((decide (s3.1<(bx.length:Int)))&&(decide (s3.1<64))))],[(7,.box (tc aQ s3.2))]⟩ ?_ (ad h (fun h=>sn (jJo (fun _=>[]) (fun j5=>[(7,.box (tc aQ j5))]) h (fun v6 h=>ah (a:=v6) (bf mixed (gb 8 h (yI (eI .u8)) fun x7 h=>gh false 6 (bI.seq (by kernel_rfl) (by kernel_rfl) Z)))) fun j5 h=>Z)) fun h=>Z);refine aj.ck sL 5 ⟨34,[(0,vl (eI .u8) bx),(3,.ref 7 0),(4,vi s3.1),(12,vb (decide (s3.1<(bx.length:Int))))],[(7,.box (tc aQ s3.2))]⟩ ?_;generalize (decide (s3.1<(bx.length:Int)))=bb;cases bb;exact aj.ck sL 3 ⟨34,[(0,vl (eI .u8) bx),(3,.ref 7 0),(4,vi s3.1),(15,vb false)],[(7,.box (tc aQ s3.2))]⟩ (aj.nil (Le.aZ));exact aj.ck sL 3 ⟨34,[(0,vl (eI .u8) bx),(3,.ref 7 0),(4,vi s3.1),(15,vb (decide (s3.1<64)))],[(7,.box (tc aQ s3.2))]⟩ (aj.nil (Le.aZ))
def aw(aS:an)(aN:Int):Option (Int×an):=
 (bif(decide (aN<=1))then some (0,aS)else(((bif(decide (aS.at'<(aS.code.length:Int)))then((at' aS.code aS.at').bind fun x3=>(bif((decide (aN<=256))&&((Ug (ap (aS.at'+1)) 2)==0))then((at' aS.code (ap ((ap (aS.at'+1))- 1))).bind fun x4=>some ((ap x4),(an.mk aS.code (ap (aS.at'+1)) (Ug (ap ((ap (aS.seed*48271))+29)) 2147483647))))else some ((ap ((ap (Wn (Ug (ap ((ap (aS.seed*48271))+29)) 2147483647) 31))+(ap x3))),(an.mk aS.code (ap (aS.at'+1)) (Ug (ap ((ap (aS.seed*48271))+29)) 2147483647)))))else some ((ap (Wn (Ug (ap ((ap (aS.seed*48271))+29)) 2147483647) 31)),(an.mk aS.code aS.at' (Ug (ap ((ap (aS.seed*48271))+29)) 2147483647))))).bind fun(j1:Int×an)=>((nz' aN).bind fun _=>some ((Ug j1.1 aN),j1.2))))
theorem ar{aS:an}{aN:Int}:Ct WX 37 (aw aS aN) [.o (.box [vl (eI .u8) aS.code,vi aS.at',vi aS.seed]),.v (vi aN)] (fun r=>⟨[.v (vi r.1)],[(0,.box (tc aQ r.2))],false⟩):=Ct.i func37 rfl fun r h=>by
 unfold aw at h;refine sl ?_;refine ac ?_;refine sl ?_;refine ad h (fun h=>Z) fun h=> ?_;refine sn ?_;refine sl ?_;refine sl ?_;refine ac ?_;refine ac ?_;refine bf mixed ?_;refine gh false 10 ?_;refine bI.nil (by kernel_rfl) ?_;refine aq ?_;refine dps [31,30,29,28,27,26,25,24,23,22,21,20,19,18,17,16,15,14,13,12,11,10,9,8,7,6,4] ?_;refine fm (fun j1=>[(5,vi j1.1),(32,.any)]) (fun j1=>[(1000000,.box (tc aQ j1.2))]) h (fun v2 h=> ?_) fun j1 h=>sr (kb 2 h (yQ true j1.1) fun x5 h=>Z);refine ad h (fun h=> ?_) fun h=>Z;refine ac ?_;refine bf mixed ?_;refine gb 9 h (yI (eI .u8)) fun x3 h=> ?_;refine gh false 4 ?_;refine bI.nil (by kernel_rfl) ?_;refine aq ?_;refine sl ?_;refine ac ?_;refine cF ⟨78,[(0,.ref 1000000 0),(1,vi aN),(5,vi (ap ((ap (Wn (Ug (ap ((ap (aS.seed*48271))+29)) 2147483647) 31))+(ap x3)))),(62,vb ((decide (aN<=256))&&((Ug (ap (aS.at'+1)) 2)==0)))],[(1000000,.box [vl (eI .u8) aS.code,vi (ap (aS.at'+1)),vi (Ug (ap ((ap (aS.seed*48271))+29)) 2147483647)])]⟩ ?_ (ad h (fun h=>bf mixed (gb 9 h (yI (eI .u8)) fun x4 h=>gh false 3 (bI.nil (by kernel_rfl) Z))) fun h=>Z);refine aj.ck sL 3 ⟨78,[(0,.ref 1000000 0),(1,vi aN),(5,vi (ap ((ap (Wn (Ug (ap ((ap (aS.seed*48271))+29)) 2147483647) 31))+(ap x3)))),(55,vb (decide (aN<=256)))],[(1000000,.box [vl (eI .u8) aS.code,vi (ap (aS.at'+1)),vi (Ug (ap ((ap (aS.seed*48271))+29)) 2147483647)])]⟩ ?_;generalize (decide (aN<=256))=bb;cases bb;exact aj.ck sL 7 ⟨78,[(0,.ref 1000000 0),(1,vi aN),(5,vi (ap ((ap (Wn (Ug (ap ((ap (aS.seed*48271))+29)) 2147483647) 31))+(ap x3)))),(62,vb false)],[(1000000,.box [vl (eI .u8) aS.code,vi (ap (aS.at'+1)),vi (Ug (ap ((ap (aS.seed*48271))+29)) 2147483647)])]⟩ (aj.nil (Le.aZ));exact aj.ck sL 7 ⟨78,[(0,.ref 1000000 0),(1,vi aN),(5,vi (ap ((ap (Wn (Ug (ap ((ap (aS.seed*48271))+29)) 2147483647) 31))+(ap x3)))),(62,vb ((Ug (ap (aS.at'+1)) 2)==0))],[(1000000,.box [vl (eI .u8) aS.code,vi (ap (aS.at'+1)),vi (Ug (ap ((ap (aS.seed*48271))+29)) 2147483647)])]⟩ (aj.nil (Le.aZ))
theorem nf:dH WX 37:=bK func37 (by kernel_rfl) rfl
def eb(aS:an)(ae:(List Int)):Option (Int×an):=
 ((aw aS (ae.length:Int)).bind fun x1=>((at' ae x1.1).bind fun x2=>some (x2,x1.2)))
theorem gl{aS:an}{ae:(List Int)}:Ct WX 100 (eb aS ae) [.o (.box [vl (eI .u8) aS.code,vi aS.at',vi aS.seed]),.v (vl (eI .i64) ae)] (fun r=>⟨[.v (vi r.1)],[(0,.box (tc aQ r.2))],false⟩):=Ct.i func100 rfl fun r h=>sl (sr (ke 4 h (yX ar) fun x1 h=>kb 0 h (yI (eI .i64)) fun x2 h=>Z))
theorem PY:dH WX 100:=bK func100 (by kernel_rfl) rfl
def eK(aS:an):Option (Claim×an):=
 ((aw aS 4).bind fun x1=>((at' ([(Tj #[97,116,108,97,115]),(Tj #[99,104,97,114,116,101,114]),(Tj #[100,105,97,114,121]),(Tj #[114,111,108,108])]:List ByteArray) x1.1).bind fun x2=>((eb x1.2 ([0,0,1,1,2,3]:List Int)).bind fun x3=>((aw x3.2 3).bind fun x4=>((at' ([(Tj #[97,115,104]),(Tj #[98,114,105,103]),(Tj #[99,111,114,107])]:List ByteArray) x4.1).bind fun x5=>((aw x4.2 60).bind fun x6=>((aw x6.2 9).bind fun x7=>((aw x7.2 60).bind fun x8=>(((bif(x3.1==0)then((aw x8.2 3).bind fun x11=>((at' ([(Tj #[111,108,100,32,97,115,104]),(Tj #[110,101,119,116,111,110]),(Tj #[97,115,104,98,121])]:List ByteArray) x11.1).bind fun x12=>some ((Claim.mk x2 x3.1 x5 x12 (Span.mk (ap (1200+x6.1)) (ap ((ap (1200+x6.1))+x8.1))) (ap (1+x7.1))),x11.2)))else(bif(x3.1==1)then((aw x8.2 4).bind fun x13=>((at' ([(Tj #[97,115,104]),(Tj #[98,114,105,103]),(Tj #[99,111,114,107]),(Tj #[100,101,118,97])]:List ByteArray) x13.1).bind fun x14=>(bif(x14.toList==x5.toList)then some ((Claim.mk x2 x3.1 x5 (Tj #[100,101,118,97]) (Span.mk (ap (1200+x6.1)) (ap ((ap (1200+x6.1))+x8.1))) (ap (1+x7.1))),x13.2)else some ((Claim.mk x2 x3.1 x5 x14 (Span.mk (ap (1200+x6.1)) (ap ((ap (1200+x6.1))+x8.1))) (ap (1+x7.1))),x13.2))))else some ((Claim.mk x2 x3.1 x5 (Tj #[]) (Span.mk (ap (1200+x6.1)) (ap ((ap (1200+x6.1))+x8.1))) (ap (1+x7.1))),x8.2)))).bind fun(j9:Claim×an)=>some (j9.1,j9.2))))))))))
theorem mJ{aS:an}:Ct WX 61 (eK aS) [.o (.box [vl (eI .u8) aS.code,vi aS.at',vi aS.seed])] (fun r=>⟨[.v (.agg (tc aa r.1))],[(0,.box (tc aQ r.2))],false⟩):=Ct.i func61 rfl fun r h=>by
 unfold eK at h;refine sl ?_;refine sl ?_;refine ac ?_;refine qE [1000000] mixed ?_;refine gh false 2 ?_;refine bs h fun x1 hx1 h=> ?_;refine bI.write [] (xw nf (ar.c _ hx1)) ?_;refine bs h fun x2 hx2 h=> ?_;refine bI.kP false [6] (eX eS (hX:=hx2)) ?_;refine bI.kP false [6] (gW eS hx2) ?_;refine g0 1 (S1 sL (d:=12) (e:=2) (m:=1) (([0,0,1,1,2,3]:List Int).length) (([0,0,1,1,2,3]:List Int).map (eI .i64))) ?_;refine bs h fun x3 hx3 h=> ?_;refine bI.write [] (xw PY (gl.c _ hx3)) ?_;refine gh false 2 ?_;refine bs h fun x4 hx4 h=> ?_;refine bI.write [] (xw nf (ar.c _ hx4)) ?_;exact gbh 0 h (eX eS) fun x5 hx5 h=>g0 0 (gW eS hx5) (gh false 1 (bs h fun x6 hx6 h=>bI.write [] (xw nf (ar.c _ hx6)) (g0 1 yV (gh false 1 (bs h fun x7 hx7 h=>bI.write [] (xw nf (ar.c _ hx7)) (g0 1 yV (gh false 1 (bI.seq (by kernel_rfl) (by kernel_rfl) (aW (aq (ac (qE [1000000] mixed (gh false 4 (bs h fun x8 hx8 h=>bI.write [] (xw nf (ar.c _ hx8)) (gh false 3 (bI.seq (by kernel_rfl) (by kernel_rfl) (aW (aq (ac (sl (fm (fun _=>[]) (fun j9=>[(4,.box (tc aa j9.1)),(1000000,.box (tc aQ j9.2))]) h (fun v10 h=>ah (a:=v10) (sl (ad h (fun h=>aL (ke 2 h (yX ar) fun x11 h=>l6 0 h (eX eS) fun x12 hx12 h=>k0 0 (gW eS hx12) Z)) fun h=>sl (ad h (fun h=>sr (ke 2 h (yX ar) fun x13 h=>l6 0 h (eX eS) fun x14 hx14 h=>k0 0 (gW eS hx14) (aW (aq (sl (ad h (fun h=>Z) fun h=>Z)))))) fun h=>Z)))) fun j9 h=>Z)))))))))))))))))))))
def gU(aS:an):Option (aF×an):=
 ((aw aS 3).bind fun x1=>(bif(x1.1==0)then((aw x1.2 2001).bind fun x2=>((aw x2.2 2001).bind fun x3=>some ((aF.mk (ap (x2.1 - 1000)) (ap (x3.1 - 1000))),x3.2)))else((aw x1.2 9).bind fun x4=>((aw x4.2 9).bind fun x5=>some ((aF.mk (ap (x4.1 - 4)) (ap (x5.1 - 4))),x5.2)))))
theorem pP{aS:an}:Ct WX 66 (gU aS) [.o (.box [vl (eI .u8) aS.code,vi aS.at',vi aS.seed])] (fun r=>⟨[.v (.agg (tc bj r.1))],[(0,.box (tc aQ r.2))],false⟩):=Ct.i func66 rfl fun r h=>sl (ac (sr (ke 1 h (yX ar) fun x1 h=>aW (aq (ad h (fun h=>sr (ke 1 h (yX ar) fun x2 h=>ke 2 h (yX ar) fun x3 h=>k0 1 yV Z)) fun h=>sn (sr (ke 1 h (yX ar) fun x4 h=>ke 2 h (yX ar) fun x5 h=>k0 1 yV Z)))))))
def o6(aS:an):Option (ak×an):=
 ((aw aS 4).bind fun x1=>((aw x1.2 3).bind fun x2=>((at' ([(Tj #[97,115,104]),(Tj #[98,114,105,103]),(Tj #[99,111,114,107]),(Tj #[100,101,118,97])]:List ByteArray) x2.1).bind fun x3=>(((bif(x1.1==2)then((aw x2.2 12).bind fun x6=>((eb x6.2 ([1,2,3,(ap (1+x6.1))]:List Int)).bind fun x7=>((aw x7.2 3).bind fun x8=>((at' ([(Tj #[109,105,108,101]),(Tj #[109,105,108,101]),(Tj #[108,101,97,103,117,101])]:List ByteArray) x8.1).bind fun x9=>(((bif(x7.1 !=1)then((bV x9 (Tj #[115])).bind fun x12=>some (ak.mk x1.1 x7.1 x12 0 x3 (Tj #[])))else some (ak.mk x1.1 x7.1 x9 0 x3 (Tj #[])))).bind fun(j10:ak)=>((aw x8.2 8).bind fun x13=>some ((ak.mk j10.Kind j10.Count j10.Unit x13.1 j10.A j10.B),x13.2)))))))else(bif(x1.1==3)then((at' ([(Tj #[97,115,104]),(Tj #[98,114,105,103]),(Tj #[99,111,114,107]),(Tj #[100,101,118,97])]:List ByteArray) 3).bind fun x14=>some ((ak.mk x1.1 0 (Tj #[]) 0 x3 x14),x2.2))else some ((ak.mk x1.1 0 (Tj #[]) 0 x3 (Tj #[])),x2.2)))).bind fun(j4:ak×an)=>some (j4.1,j4.2)))))
theorem D3{aS:an}:Ct WX 68 (o6 aS) [.o (.box [vl (eI .u8) aS.code,vi aS.at',vi aS.seed])] (fun r=>⟨[.v (.agg (tc aE r.1))],[(0,.box (tc aQ r.2))],false⟩):=Ct.i func68 rfl fun r h=>sl (sl (sr (ke 1 h (yX ar) fun x1 h=>ke 2 h (yX ar) fun x2 h=>l6 0 h (eX eS) fun x3 hx3 h=>k0 0 (gW eS hx3) (k0 0 yV (aW (aq (ac (sl (fm (fun _=>[]) (fun j4=>[(4,.box (tc aE j4.1)),(1000000,.box (tc aQ j4.2))]) h (fun v5 h=>ah (a:=v5) (sl (ad h (fun h=>sr (ke 2 h (yX ar) fun x6 h=>ch 2 (aj.le (Le.jP (d:=22) (e:=2) (m:=1) (n:=([1,2,3,(ap (1+x6.1))]:List Int).length) (es:=([1,2,3,(ap (1+x6.1))]:List Int).map (eI .i64)) (by kernel_rfl) (by kernel_rfl)) (ke 0 h (yX gl) fun x7 h=>aW (aq (sr (ke 2 h (yX ar) fun x8 h=>l6 0 h (eX eS) fun x9 hx9 h=>k0 0 (gW eS hx9) (aW (aq (ac (sl (fm (fun _=>[]) (fun j10=>[(4,.box (tc aE j10))]) h (fun v11 h=>ad h (fun h=>aL (kb 2 h yA fun x12 h=>Z)) fun h=>Z) fun j10 h=>aL (ke 1 h (yX ar) fun x13 h=>Z))))))))))))) fun h=>sl (ad h (fun h=>aL (l6 1 h (eX eS) fun x14 hx14 h=>k0 0 (gW eS hx14) Z)) fun h=>Z)))) fun j4 h=>Z)))))))))
def jr(aS:an):Option (ByteArray×an):=
 ((aw aS 3).bind fun x1=>((at' ([(Tj #[97,115,104]),(Tj #[98,114,105,103]),(Tj #[99,111,114,107])]:List ByteArray) x1.1).bind fun x2=>((aw x1.2 3).bind fun x3=>((at' ([(Tj #[97,115,104]),(Tj #[98,114,105,103]),(Tj #[99,111,114,107])]:List ByteArray) x3.1).bind fun x4=>((aw x3.2 12).bind fun x5=>(((((bif(x5.1==0)then some (x5.1==0)else(bif(x5.1==1)then some (x5.1==1)else some (x5.1==2)))).bind fun(j8:Bool)=>(bif j8 then((eK x5.2).bind fun x10=>(((bif(x10.1.Kind==0)then((aw x10.2 2).bind fun x13=>((at' ([(Tj #[97,115,104,98,121]),(Tj #[110,101,119,116,111,110])]:List ByteArray) x13.1).bind fun x14=>some ((Claim.mk x10.1.Source x10.1.Kind x10.1.Place x14 x10.1.Years x10.1.Weight),x13.2)))else some (x10.1,x10.2))).bind fun(j11:Claim×an)=>((ja j11.1).bind fun x15=>((bV (Tj #[99,108,97,105,109,32]) x15).bind fun x16=>some (.inr (x16,j11.2))))))else(bif(x5.1==3)then((aw x5.2 4).bind fun x17=>((bY x17.1).bind fun x18=>((bV (Tj #[100,114,111,112,32]) x18).bind fun x19=>some (.inr (x19,x17.2)))))else(bif(x5.1==4)then((aw x5.2 3).bind fun x20=>((at' ([(Tj #[99,111,114,101,115]),(Tj #[114,101,112,97,105,114]),(Tj #[115,111,117,114,99,101,115])]:List ByteArray) x20.1).bind fun x21=>some (.inr (x21,x20.2))))else(bif(x5.1==5)then((aw x5.2 2).bind fun x22=>((at' ([(Tj #[110,97,109,101,32]),(Tj #[112,97,114,101,110,116,32])]:List ByteArray) x22.1).bind fun x23=>((bV x23 x2).bind fun x24=>((bV x24 (Tj #[32])).bind fun x25=>((aw x22.2 90).bind fun x26=>((ea (ap (1200+x26.1))).bind fun x27=>((bV x25 x27).bind fun x28=>some (.inr (x28,x26.2)))))))))else(((bif(x5.1==6)then some (x5.1==6)else some (x5.1==7))).bind fun(j29:Bool)=>(bif j29 then((bV (Tj #[115,105,116,101,32]) x2).bind fun x31=>((bV x31 (Tj #[32])).bind fun x32=>((gU x5.2).bind fun x33=>((kH x33.1).bind fun x34=>((bV x32 x34).bind fun x35=>some (.inr (x35,x33.2)))))))else(bif(x5.1==8)then((aw x5.2 3).bind fun x36=>((at' ([(Tj #[119,97,121,32]),(Tj #[102,97,114,32]),(Tj #[97,112,97,114,116,32])]:List ByteArray) x36.1).bind fun x37=>((bV x37 x2).bind fun x38=>((bV x38 (Tj #[32])).bind fun x39=>((bV x39 x4).bind fun x40=>some (.inr (x40,x36.2)))))))else(bif(x5.1==9)then((gU x5.2).bind fun x41=>((kH x41.1).bind fun x42=>((bV (Tj #[116,101,115,116,32]) x42).bind fun x43=>((bV x43 (Tj #[32])).bind fun x44=>((o6 x41.2).bind fun x45=>((jb x45.1).bind fun x46=>((bV x44 x46).bind fun x47=>some (.inr (x47,x45.2)))))))))else some (.inl x5.2))))))))))).bind (TC (fun(j6:an)=>((aw j6 3).bind fun x48=>((at' ([(Tj #[99,111,114,101,115]),(Tj #[114,101,112,97,105,114]),(Tj #[115,111,117,114,99,101,115])]:List ByteArray) x48.1).bind fun x49=>some (x49,x48.2)))) some)))))))
theorem zo{aS:an}:Ct WX 36 (jr aS) [.o (.box [vl (eI .u8) aS.code,vi aS.at',vi aS.seed])] (fun r=>⟨[.v (vs r.1)],[(0,.box (tc aQ r.2))],false⟩):=Ct.i func36 rfl fun r h=>by
 unfold jr at h;refine sl ?_;refine sl ?_;refine ac ?_;refine qE [1000000] mixed ?_;refine gh false 2 ?_;refine bs h fun x1 hx1 h=> ?_;refine bI.write [] (xw nf (ar.c _ hx1)) ?_;refine gbh 0 h (eX eS) fun x2 hx2 h=> ?_;refine g0 0 (gW eS hx2) ?_;refine gh false 2 ?_;refine bs h fun x3 hx3 h=> ?_;exact bI.write [] (xw nf (ar.c _ hx3)) (gbh 0 h (eX eS) fun x4 hx4 h=>g0 0 (gW eS hx4) (gh false 2 (bI.nil (by kernel_rfl) (aq (ac (sr (ke 1 h (yX ar) fun x5 h=>aW (aq (Qu (fun _=>[]) (fun j6=>[(1000000,.box (tc aQ j6))]) h (fun v7 h=>ah (a:=v7) (ac (sl (jJn (fun j8=>[(20,vb j8)]) h (fun v9 h=>ad h (fun h=>Z) fun h=>sl (ad h (fun h=>Z) fun h=>Z)) fun j8 h=>ad h (fun h=>sr (ke 1 h (yX mJ) fun x10 h=>aW (aq (ac (sl (fm (fun _=>[]) (fun j11=>[(6,.box (tc aa j11.1)),(1000000,.box (tc aQ j11.2))]) h (fun v12 h=>ad h (fun h=>aL (ke 2 h (yX ar) fun x13 h=>l6 0 h (eX eS) fun x14 hx14 h=>k0 0 (gW eS hx14) Z)) fun h=>Z) fun j11 h=>sr (kb 1 h (yC va) fun x15 h=>kb 0 h yA fun x16 h=>Z))))))) fun h=>sl (ad h (fun h=>sr (ke 1 h (yX ar) fun x17 h=>kb 0 h (yC cM) fun x18 h=>kb 0 h yA fun x19 h=>Z)) fun h=>sl (ad h (fun h=>sr (ke 2 h (yX ar) fun x20 h=>l6 0 h (eX eS) fun x21 hx21 h=>k0 0 (gW eS hx21) Z)) fun h=>sl (ad h (fun h=>ac (qE [1000000] mixed (gh false 2 (bs h fun x22 hx22 h=>bI.write [] (xw nf (ar.c _ hx22)) (bs h fun x23 hx23 h=>bI.kP false [53] (eX eS (hX:=hx23)) (bI.kP false [53] (gW eS hx23) (gb 1 h yA fun x24 h=>gb 0 h yA fun x25 h=>gh false 1 (bs h fun x26 hx26 h=>bI.write [] (xw nf (ar.c _ hx26)) (gb 1 h (yC fQ) fun x27 h=>gb 0 h yA fun x28 h=>gh false 1 (bI.nil (by kernel_rfl) Z)))))))))) fun h=>ac (sl (jJn (fun j29=>[(66,vb j29)]) h (fun v30 h=>ad h (fun h=>Z) fun h=>Z) fun j29 h=>ad h (fun h=>sr (kb 1 h yA fun x31 h=>kb 0 h yA fun x32 h=>ke 1 h (yX pP) fun x33 h=>kb 0 h (yC pQ) fun x34 h=>kb 0 h yA fun x35 h=>Z)) fun h=>sl (ad h (fun h=>sr (ke 2 h (yX ar) fun x36 h=>l6 0 h (eX eS) fun x37 hx37 h=>k0 0 (gW eS hx37) (kb 1 h yA fun x38 h=>kb 0 h yA fun x39 h=>kb 1 h yA fun x40 h=>Z))) fun h=>sl (ad h (fun h=>sr (ke 1 h (yX pP) fun x41 h=>kb 0 h (yC pQ) fun x42 h=>kb 0 h yA fun x43 h=>kb 0 h yA fun x44 h=>ke 1 h (yX D3) fun x45 h=>kb 0 h (yC vh) fun x46 h=>kb 0 h yA fun x47 h=>Z)) fun h=>Z))))))))))) fun j6 h=>sr (ke 2 h (yX ar) fun x48 h=>l6 0 h (eX eS) fun x49 hx49 h=>k0 0 (gW eS hx49) Z))))))))))
def kj(aS:an)(aT:ByteArray):Option (ByteArray×an):=
 ((aw aS (ap ((aT.size:Int)+1))).bind fun x1=>((aw x1.2 8).bind fun x2=>(((bif(x2.1==0)then((km aT 0 x1.1).bind fun x5=>some (.inr (x5,x2.2)))else(bif(x2.1==1)then((km aT 0 x1.1).bind fun x6=>((aw x2.2 8).bind fun x7=>((at' ([(Tj #[48]),(Tj #[35]),(Tj #[46]),(Tj #[47]),(Tj #[32]),(Tj #[97]),(Tj #[45]),(Tj #[10])]:List ByteArray) x7.1).bind fun x8=>((bV x6 x8).bind fun x9=>((km aT x1.1 (aT.size:Int)).bind fun x10=>((bV x9 x10).bind fun x11=>some (.inr (x11,x7.2))))))))else(bif(x2.1==2)then(bif(decide (x1.1<(aT.size:Int)))then((km aT 0 x1.1).bind fun x12=>((km aT (ap (x1.1+1)) (aT.size:Int)).bind fun x13=>((bV x12 x13).bind fun x14=>some (.inr (x14,x2.2)))))else some (.inl x2.2))else some (.inl x2.2))))).bind (TC (fun(j3:an)=>some (aT,j3)) some))))
theorem AL{aS:an}{aT:ByteArray}:Ct WX 38 (kj aS aT) [.o (.box [vl (eI .u8) aS.code,vi aS.at',vi aS.seed]),.v (vs aT)] (fun r=>⟨[.v (vs r.1)],[(0,.box (tc aQ r.2))],false⟩):=Ct.i func38 rfl fun r h=>sl (sr (ke 4 h (yX ar) fun x1 h=>aW (aq (ac (sr (ke 1 h (yX ar) fun x2 h=>aW (aq (Qu (fun _=>[]) (fun j3=>[(1000000,.box (tc aQ j3))]) h (fun v4 h=>ah (a:=v4) (sl (ad h (fun h=>sr (kb 2 h yU fun x5 h=>Z)) fun h=>sl (ad h (fun h=>ac (qE [1000000] mixed (gb 2 h yU fun x6 h=>gh false 2 (bs h fun x7 hx7 h=>bI.write [] (xw nf (ar.c _ hx7)) (bs h fun x8 hx8 h=>bI.kP false [23] (eX eS (hX:=hx8)) (bI.kP false [23] (gW eS hx8) (gb 0 h yA fun x9 h=>gb 2 h yU fun x10 h=>gb 0 h yA fun x11 h=>gh false 1 (bI.nil (by kernel_rfl) Z)))))))) fun h=>sl (ad h (fun h=>sl (ad h (fun h=>ac (bf mixed (gb 2 h yU fun x12 h=>gb 3 h yU fun x13 h=>gb 0 h yA fun x14 h=>gh false 1 (bI.nil (by kernel_rfl) Z)))) fun h=>Z)) fun h=>Z))))) fun j3 h=>Z))))))))
def kL(aS:an):Option (ByteArray×an):=
 ((aw aS 12).bind fun x1=>(((loop (fun(s4:ByteArray×Int×an)=>(bif(decide (s4.2.1>0))then((((jr s4.2.2).bind fun x8=>((aw x8.2 16).bind fun x9=>(((bif(x9.1==0)then((kj x9.2 x8.1).bind fun x12=>some (x12.1,x12.2))else some (x8.1,x9.2))).bind fun(j10:ByteArray×an)=>((bV s4.1 j10.1).bind fun x13=>((bV x13 (Tj #[10])).bind fun x14=>some (x14,j10.2))))))).bind fun(j6:ByteArray×an)=>some (.inl (j6.1,(ap (s4.2.1 - 1)),j6.2)))else some (.inr (s4.1,s4.2.2)))) ((Tj #[]),x1.1,x1.2))).bind fun(j2:ByteArray×an)=>((aw j2.2 40).bind fun x15=>(((bif(x15.1==0)then(cR 36 (fun(_:Int) (s18:ByteArray)=>((bV s18 (Tj #[99,111,114,101,115,10])).bind fun x22=>some x22)) (fun(s18:ByteArray)=> .inl s18) 0 j2.1)else(bif(x15.1==1)then((bV j2.1 (Tj #[114,101,112,97,105,114])).bind fun x23=>some (.inr (x23,x15.2)))else some (.inl j2.1)))).bind (TC (fun(j16:ByteArray)=>some (j16,x15.2)) some)))))
theorem vk{aS:an}:Ct WX 34 (kL aS) [.o (.box [vl (eI .u8) aS.code,vi aS.at',vi aS.seed])] (fun r=>⟨[.v (vs r.1)],[(0,.box (tc aQ r.2))],false⟩):=Ct.i func34 rfl fun r h=>sl (sl (ac (sr (ke 1 h (yX ar) fun x1 h=>aW (aq (fm (fun j2=>[(3,vs j2.1)]) (fun j2=>[(1000000,.box (tc aQ j2.2))]) h (fun v3 h=>ah (a:=v3) (lpo (fun s4=>[(3,vs s4.1),(4,vi s4.2.1)]) (fun s4=>[(1000000,.box (tc aQ s4.2.2))]) h (fun s4 v5 h=>ac (sl (ad h (fun h=>sn (jJo (fun j6=>[(3,vs j6.1)]) (fun j6=>[(1000000,.box (tc aQ j6.2))]) h (fun v7 h=>ah (a:=v7) (sr (ke 1 h (yX zo) fun x8 h=>aW (aq (ac (sr (ke 1 h (yX ar) fun x9 h=>aW (aq (fm (fun j10=>[(5,vs j10.1)]) (fun j10=>[(1000000,.box (tc aQ j10.2))]) h (fun v11 h=>ad h (fun h=>aL (ke 2 h (yX AL) fun x12 h=>Z)) fun h=>Z) fun j10 h=>aL (kb 2 h yA fun x13 h=>kb 0 h yA fun x14 h=>Z)))))))))) fun j6 h=>Z)) fun h=>Z))))) fun j2 h=>ac (sr (ke 1 h (yX ar) fun x15 h=>aW (aq (lZ (fun j16=>[(3,vs j16)]) h (fun v17 h=>ah (a:=v17) (sl (ad h (fun h=>sl (ah (a:=v17) (lp (fun s18=>[(3,vs s18.2),(6,vi s18.1)]) h (fun s18 v19 h=>ac (sl (ad h (fun h=>sn (jJ (fun j20=>[(3,vs j20)]) h (fun v21 h=>ah (a:=v21) (aL (kb 1 h yA fun x22 h=>Z))) fun j20 h=>Z)) fun h=>Z)))))) fun h=>sl (ad h (fun h=>sr (kb 1 h yA fun x23 h=>Z)) fun h=>Z)))) fun j16 h=>Z))))))))))
def oH(bx:(List Int)):Option (ByteArray):=
 ((gS bx).bind fun x1=>((kL x1).bind fun x2=>some x2.1))
def lL(bx:(List Int)):Option (ByteArray):=
 ((gS bx).bind fun x1=>((kL x1).bind fun x2=>some x2.1))
theorem uU{bx:(List Int)}:Ct WX 23 (lL bx) [.v (vl (eI .u8) bx)] (fun r=>⟨[.v (vs r)],[],false⟩):=Ct.i func23 rfl fun r h=>sl (sr (kb 1 h (yC uX) fun x1 h=>ke 0 h (yX vk) fun x2 h=>Z))
def oV(aS:an):Option (Span×an):=
 ((aw aS 1000).bind fun x1=>((aw x1.2 20).bind fun x2=>((aw x2.2 300).bind fun x3=>((eb x3.2 ([0,x2.1,x3.1,2000]:List Int)).bind fun x4=>some ((Span.mk (ap (1000+x1.1)) (sg 3000 (ap ((ap (1000+x1.1))+x4.1)))),x4.2)))))
theorem DS{aS:an}:Ct WX 162 (oV aS) [.o (.box [vl (eI .u8) aS.code,vi aS.at',vi aS.seed])] (fun r=>⟨[.v (.agg (tc lM r.1))],[(0,.box (tc aQ r.2))],false⟩):=Ct.i func162 rfl fun r h=>sl (sr (ke 1 h (yX ar) fun x1 h=>aW (aq (sr (ke 4 h (yX ar) fun x2 h=>ke 1 h (yX ar) fun x3 h=>ch 1 (aj.le (Le.jP (d:=14) (e:=2) (m:=1) (n:=([0,x2.1,x3.1,2000]:List Int).length) (es:=([0,x2.1,x3.1,2000]:List Int).map (eI .i64)) (by kernel_rfl) (by kernel_rfl)) (ke 0 h (yX gl) fun x4 h=>k0 2 yV Z)))))))
def oU(aS:an):Option (Span×an):=
 ((oV aS).bind fun x1=>((aw x1.2 20).bind fun x2=>(((bif(x2.1==0)then some ((Span.mk x1.1.From (ap (x1.1.From - 1))),x2.2)else(bif(x2.1==1)then((eb x2.2 ([(-3000),(-3001),3001]:List Int)).bind fun x5=>some ((Span.mk x5.1 x1.1.To),x5.2))else(bif(x2.1==2)then((eb x2.2 ([3000,3001]:List Int)).bind fun x6=>some ((Span.mk x1.1.From x6.1),x6.2))else some (x1.1,x2.2))))).bind fun(j3:Span×an)=>some (j3.1,j3.2))))
theorem DR{aS:an}:Ct WX 110 (oU aS) [.o (.box [vl (eI .u8) aS.code,vi aS.at',vi aS.seed])] (fun r=>⟨[.v (.agg (tc lM r.1))],[(0,.box (tc aQ r.2))],false⟩):=Ct.i func110 rfl fun r h=>sl (sr (ke 1 h (yX DS) fun x1 h=>aW (aq (ac (sr (ke 1 h (yX ar) fun x2 h=>aW (aq (fm (fun _=>[]) (fun j3=>[(3,.box (tc lM j3.1)),(1000000,.box (tc aQ j3.2))]) h (fun v4 h=>ah (a:=v4) (sl (ad h (fun h=>Z) fun h=>sl (ad h (fun h=>aL (ch 2 (aj.le (Le.jP (d:=17) (e:=2) (m:=1) (n:=([(-3000),(-3001),3001]:List Int).length) (es:=([(-3000),(-3001),3001]:List Int).map (eI .i64)) (by kernel_rfl) (by kernel_rfl)) (ke 0 h (yX gl) fun x5 h=>Z)))) fun h=>sl (ad h (fun h=>aL (ch 2 (aj.le (Le.jP (d:=23) (e:=2) (m:=1) (n:=([3000,3001]:List Int).length) (es:=([3000,3001]:List Int).map (eI .i64)) (by kernel_rfl) (by kernel_rfl)) (ke 0 h (yX gl) fun x6 h=>Z)))) fun h=>Z))))) fun j3 h=>Z))))))))
def o0(aS:an):Option (Claim×an):=
 ((eK aS).bind fun x1=>((aw x1.2 24).bind fun x2=>(((bif(x2.1==0)then((eb x2.2 ([0,100,101]:List Int)).bind fun x5=>some ((Claim.mk x1.1.Source x1.1.Kind x1.1.Place x1.1.Value x1.1.Years x5.1),x5.2))else(bif(x2.1==1)then((aw x2.2 3).bind fun x6=>((at' ([(Tj #[]),(Tj #[97,115,104]),(Tj #[79,108,100])]:List ByteArray) x6.1).bind fun x7=>some ((Claim.mk x1.1.Source x1.1.Kind x1.1.Place x7 x1.1.Years x1.1.Weight),x6.2)))else(bif(x2.1==2)then((aw x2.2 6).bind fun x8=>some ((Claim.mk x1.1.Source (ap (x8.1 - 1)) x1.1.Place x1.1.Value x1.1.Years x1.1.Weight),x8.2))else(bif(x2.1==3)then((oU x2.2).bind fun x9=>some ((Claim.mk x1.1.Source x1.1.Kind x1.1.Place x1.1.Value x9.1 x1.1.Weight),x9.2))else some (x1.1,x2.2)))))).bind fun(j3:Claim×an)=>some (j3.1,j3.2))))
theorem DZ{aS:an}:Ct WX 77 (o0 aS) [.o (.box [vl (eI .u8) aS.code,vi aS.at',vi aS.seed])] (fun r=>⟨[.v (.agg (tc aa r.1))],[(0,.box (tc aQ r.2))],false⟩):=Ct.i func77 rfl fun r h=>sl (sr (ke 1 h (yX mJ) fun x1 h=>aW (aq (ac (sr (ke 1 h (yX ar) fun x2 h=>aW (aq (fm (fun _=>[]) (fun j3=>[(3,.box (tc aa j3.1)),(1000000,.box (tc aQ j3.2))]) h (fun v4 h=>ah (a:=v4) (sl (ad h (fun h=>aL (ch 2 (aj.le (Le.jP (d:=11) (e:=2) (m:=1) (n:=([0,100,101]:List Int).length) (es:=([0,100,101]:List Int).map (eI .i64)) (by kernel_rfl) (by kernel_rfl)) (ke 0 h (yX gl) fun x5 h=>Z)))) fun h=>sl (ad h (fun h=>aL (ke 2 h (yX ar) fun x6 h=>l6 0 h (eX eS) fun x7 hx7 h=>k0 0 (gW eS hx7) Z)) fun h=>sl (ad h (fun h=>aL (ke 1 h (yX ar) fun x8 h=>Z)) fun h=>sl (ad h (fun h=>aL (ke 1 h (yX DR) fun x9 h=>Z)) fun h=>Z)))))) fun j3 h=>Z))))))))
def o3(aS:an):Option ((List Claim)×an):=
 ((aw aS 9).bind fun x1=>(((loop (fun(s4:Int×(List Claim)×an)=>(bif(decide (s4.1>0))then((((eK s4.2.2).bind fun x8=>((bW s4.2.1 ([x8.1]:List Claim)).bind fun x9=>some (x9,x8.2)))).bind fun(j6:(List Claim)×an)=>some (.inl ((ap (s4.1 - 1)),j6.1,j6.2)))else some (.inr (s4.2.1,s4.2.2)))) (x1.1,([]:List Claim),x1.2))).bind fun(j2:(List Claim)×an)=>((aw j2.2 24).bind fun x10=>(((bif(x10.1==0)then((o0 x10.2).bind fun x13=>((bW j2.1 ([x13.1]:List Claim)).bind fun x14=>some (x14,x13.2)))else(bif(x10.1==1)then(loop (fun(s15:(List Claim)×an)=>((aw s15.2 2).bind fun x17=>(bif(decide ((s15.1.length:Int)<(ap (12+x17.1))))then((eK x17.2).bind fun x18=>((bW s15.1 ([x18.1]:List Claim)).bind fun x19=>some (.inl (x19,x18.2))))else some (.inr (s15.1,x17.2))))) (j2.1,x10.2))else some (j2.1,x10.2)))).bind fun(j11:(List Claim)×an)=>some (j11.1,j11.2)))))
theorem D0{aS:an}:Ct WX 48 (o3 aS) [.o (.box [vl (eI .u8) aS.code,vi aS.at',vi aS.seed])] (fun r=>⟨[.own 65 7 r.1.length (r.1.map aa)],[(0,.box (tc aQ r.2))],false⟩):=Ct.i func48 rfl fun r h=>sl (sl (ac (sr (ke 1 h (yX ar) fun x1 h=>aW (aq (dps [5] (fm (fun _=>[(3,.own 3)]) (fun j2=>[(3,oa 65 7 aa j2.1),(1000000,.box (tc aQ j2.2))]) h (fun v3 h=>ah (a:=v3) (lpo (fun s4=>[(3,.own 3),(4,vi s4.1)]) (fun s4=>[(3,oa 65 7 aa s4.2.1),(1000000,.box (tc aQ s4.2.2))]) h (fun s4 v5 h=>ac (sl (ad h (fun h=>sn (jJo (fun _=>[(3,.own 3)]) (fun j6=>[(3,oa 65 7 aa j6.1),(1000000,.box (tc aQ j6.2))]) h (fun v7 h=>ah (a:=v7) (aL (ke 2 h (yX mJ) fun x8 h=>ke 1 h (yP aa) fun x9 h=>aW (gi (zj h (kz [2,16,1000000] [(16,3)])))))) fun j6 h=>Z)) fun h=>Z))) (kz [2,5,1000000] [(5,3)]))) fun j2 h=>ac (sr (ke 1 h (yX ar) fun x10 h=>aW (aq (fm (fun _=>[(3,.own 3)]) (fun j11=>[(3,oa 65 7 aa j11.1),(1000000,.box (tc aQ j11.2))]) h (fun v12 h=>ah (a:=v12) (sl (ad h (fun h=>aL (ke 2 h (yX DZ) fun x13 h=>ke 1 h (yP aa) fun x14 h=>aW (gi (zj h (kz [2,25,1000000] [(25,3)]))))) fun h=>sl (ad h (fun h=>ah (a:=v12) (lpo (fun _=>[(3,.own 3)]) (fun s15=>[(3,oa 65 7 aa s15.1),(1000000,.box (tc aQ s15.2))]) h (fun s15 v16 h=>ac (sr (ke 3 h (yX ar) fun x17 h=>aW (aq (ad h (fun h=>sn (ah (a:=v16) (aL (ke 2 h (yX mJ) fun x18 h=>ke 1 h (yP aa) fun x19 h=>aW (gi (zl h (kz [2,38,1000000] [(38,3)]))))))) fun h=>Z))))))) fun h=>Z)))) fun j11 h=>Z)))))))))))
def oY(aS:an):Option (aF×an):=
 ((gU aS).bind fun x1=>((aw x1.2 40).bind fun x2=>(((bif(x2.1==0)then((eb x2.2 ([1000,1001,(-1001)]:List Int)).bind fun x5=>some ((aF.mk x5.1 x1.1.Y),x5.2))else some (x1.1,x2.2))).bind fun(j3:aF×an)=>some (j3.1,j3.2))))
theorem DX{aS:an}:Ct WX 78 (oY aS) [.o (.box [vl (eI .u8) aS.code,vi aS.at',vi aS.seed])] (fun r=>⟨[.v (.agg (tc bj r.1))],[(0,.box (tc aQ r.2))],false⟩):=Ct.i func78 rfl fun r h=>sl (sr (ke 1 h (yX pP) fun x1 h=>aW (aq (ac (sr (ke 1 h (yX ar) fun x2 h=>aW (aq (fm (fun _=>[]) (fun j3=>[(3,.box (tc bj j3.1)),(1000000,.box (tc aQ j3.2))]) h (fun v4 h=>ad h (fun h=>aL (ch 2 (aj.le (Le.jP (d:=10) (e:=2) (m:=1) (n:=([1000,1001,(-1001)]:List Int).length) (es:=([1000,1001,(-1001)]:List Int).map (eI .i64)) (by kernel_rfl) (by kernel_rfl)) (ke 0 h (yX gl) fun x5 h=>Z)))) fun h=>Z) fun j3 h=>Z))))))))
theorem RG:dH WX 78:=bK func78 (by kernel_rfl) rfl
def nF(aS:an):Option ((List Site)×an):=
 (((cR (([(Tj #[97,115,104]),(Tj #[98,114,105,103]),(Tj #[99,111,114,107]),(Tj #[100,101,118,97]),(Tj #[101,108,121])]:List ByteArray).length:Int) (fun(i3:Int) (s3:(List Site)×an)=>((aw s3.2 8).bind fun x7=>(bif(decide (x7.1>0))then((at' ([(Tj #[97,115,104]),(Tj #[98,114,105,103]),(Tj #[99,111,114,107]),(Tj #[100,101,118,97]),(Tj #[101,108,121])]:List ByteArray) i3).bind fun x8=>((aw x7.2 25).bind fun x9=>((aw x9.2 25).bind fun x10=>((bW s3.1 ([(Site.mk x8 (aF.mk (ap (x9.1 - 12)) (ap (x10.1 - 12))))]:List Site)).bind fun x12=>some (x12,x10.2)))))else some (s3.1,x7.2)))) (fun(s3:(List Site)×an)=>(s3.1,s3.2)) 0 (([]:List Site),aS))).bind fun(j1:(List Site)×an)=>((aw j1.2 24).bind fun x13=>(((bif(x13.1==0)then((aw x13.2 3).bind fun x16=>((at' ([(Tj #[110,101,97,114]),(Tj #[122,101,100]),(Tj #[97,115,104])]:List ByteArray) x16.1).bind fun x17=>((oY x16.2).bind fun x18=>((bW j1.1 ([(Site.mk x17 x18.1)]:List Site)).bind fun x20=>some (x20,x18.2)))))else(bif(x13.1==1)then(loop (fun(s21:Int×(List Site)×an)=>((((aw s21.2.2 2).bind fun x23=>(bif(decide ((s21.2.1.length:Int)<(ap (10+x23.1))))then some ((decide (s21.1<12)),x23.2)else some (false,x23.2)))).bind fun(j24:Bool×an)=>(bif j24.1 then((((km (Tj #[97,98,99,100,101,102,103,104,105,106,107,108]) s21.1 (ap (s21.1+1))).bind fun x28=>((bV (Tj #[122]) x28).bind fun x29=>((bW s21.2.1 ([(Site.mk x29 (aF.mk 0 0))]:List Site)).bind fun x30=>some x30)))).bind fun(j26:(List Site))=>some (.inl ((ap (s21.1+1)),j26,j24.2)))else some (.inr (s21.2.1,j24.2))))) (0,j1.1,x13.2))else some (j1.1,x13.2)))).bind fun(j14:(List Site)×an)=>some (j14.1,j14.2))))
theorem B8{aS:an}:Ct WX 49 (nF aS) [.o (.box [vl (eI .u8) aS.code,vi aS.at',vi aS.seed])] (fun r=>⟨[.own 69 3 r.1.length (r.1.map ai)],[(0,.box (tc aQ r.2))],false⟩):=Ct.i func49 rfl fun r h=>sl (sl (sl (ac (sl (dps [8,7] (fm (fun _=>[(3,.own 3)]) (fun j1=>[(3,oa 69 3 ai j1.1),(1000000,.box (tc aQ j1.2))]) h (fun v2 h=>ah (a:=v2) (lpo (fun s3=>[(3,.own 3),(4,.own 4),(5,vi s3.1)]) (fun s3=>[(3,oa 69 3 ai s3.2.1),(4,oa 9 1 eS ([(Tj #[97,115,104]),(Tj #[98,114,105,103]),(Tj #[99,111,114,107]),(Tj #[100,101,118,97]),(Tj #[101,108,121])]:List ByteArray)),(1000000,.box (tc aQ s3.2.2))]) h (fun s3 v4 h=>ac (sl (ad h (fun h=>sn (jJo (fun _=>[(3,.own 3)]) (fun j5=>[(3,oa 69 3 ai j5.1),(1000000,.box (tc aQ j5.2))]) h (fun v6 h=>ah (a:=v6) (sr (ke 1 h (yX ar) fun x7 h=>aW (aq (ad h (fun h=>qE [1000000] mixed (gbh 3 h (eX eS) fun x8 hx8 h=>g0 0 (gW eS hx8) (gh false 1 (bs h fun x9 hx9 h=>bI.write [] (xw nf (ar.c _ hx9)) (gh false 2 (bs h fun x10 hx10 h=>bI.write [] (xw nf (ar.c _ hx10)) (g0 1 yV (g0 0 yV (gh false 1 (bI.seq (by kernel_rfl) (by kernel_rfl) (ke 0 h (yP ai) fun x12 h=>aW (gi (zj h (kz [2,4,32,1000000] [(32,3)])))))))))))))) fun h=>Z))))) fun j5 h=>Z)) fun h=>oi (I8 (ze h (Jf (q_j (kz [2,3,4,1000000] [(4,8)])))))))) (kz [2,7,8,1000000] [(7,3),(8,4)]))) fun j1 h=>ac (sr (ke 1 h (yX ar) fun x13 h=>aW (aq (fm (fun _=>[(3,.own 3)]) (fun j14=>[(3,oa 69 3 ai j14.1),(1000000,.box (tc aQ j14.2))]) h (fun v15 h=>ah (a:=v15) (sl (ad h (fun h=>qE [1000000] mixed (gh false 3 (bs h fun x16 hx16 h=>bI.write [] (xw nf (ar.c _ hx16)) (bs h fun x17 hx17 h=>bI.kP false [38] (eX eS (hX:=hx17)) (bI.kP false [38] (gW eS hx17) (gh false 1 (bs h fun x18 hx18 h=>bI.write [] (xw RG (DX.c _ hx18)) (g0 0 yV (gh false 1 (bI.seq (by kernel_rfl) (by kernel_rfl) (ke 0 h (yP ai) fun x20 h=>aW (gi (zj h (kz [2,8,47,1000000] [(47,3)])))))))))))))) fun h=>sl (ad h (fun h=>sl (ah (a:=v15) (lpo (fun s21=>[(3,.own 3),(6,vi s21.1)]) (fun s21=>[(3,oa 69 3 ai s21.2.1),(1000000,.box (tc aQ s21.2.2))]) h (fun s21 v22 h=>ac (rJo (fun j24=>[(59,vb j24.1)]) (fun j24=>[(1000000,.box (tc aQ j24.2))]) h (fun v25 h=>ke 3 h (yX ar) fun x23 h=>ch 3 (aj.cu [(56,fun b=>b)] h (fun h=>Z) fun h=>Z)) fun j24 h=>ad h (fun h=>sn (jJo (fun _=>[(3,.own 3)]) (fun j26=>[(3,oa 69 3 ai j26)]) h (fun v27 h=>ah (a:=v27) (aL (kb 4 h yU fun x28 h=>kb 0 h yA fun x29 h=>k0 0 yV (ke 1 h (yP ai) fun x30 h=>aW (gi (zj h (kz [2,8,70,1000000] [(70,3)]))))))) fun j26 h=>Z)) fun h=>Z))))) fun h=>Z)))) fun j14 h=>Z))))))))))
def lC(bx:(List Int)):Option (bg):=
 ((gS bx).bind fun x1=>((kL x1).bind fun x2=>((gk x2.1).bind fun x3=>((aw x2.2 12).bind fun x4=>(((bif(x4.1==0)then((o3 x4.2).bind fun x7=>some (bg.mk x7.1 x3.1.Sites))else(bif(x4.1==1)then((nF x4.2).bind fun x8=>some (bg.mk x3.1.Claims x8.1))else some x3.1))).bind fun(j5:bg)=>some j5)))))
theorem zd{bx:(List Int)}:Ct WX 24 (lC bx) [.v (vl (eI .u8) bx)] (fun r=>⟨[.v (.agg (tc ao r))],[],true⟩):=Ct.i func24 rfl fun r h=>sl (sr (kb 1 h (yC uX) fun x1 h=>aW (aq (sr (ke 1 h (yX vk) fun x2 h=>kb 0 h (yC np) fun x3 h=>aW (aq (ac (sr (ke 1 h (yX ar) fun x4 h=>aW (aq (dps [14,9,7] (fm (fun _=>[(3,.any)]) (fun j5=>[(4,.box (tc ao j5))]) h (fun v6 h=>ah (a:=v6) (sl (ad h (fun h=>aL (ke 1 h (yX D0) fun x7 h=>aW (gi (zj h ((Le.jP (d:=19) (e:=65) (m:=7) (n:=x7.1.length) (es:=x7.1.map aa) (by kernel_rfl) (by kernel_rfl)).trans (leS)))))) fun h=>sl (ad h (fun h=>aL (ke 1 h (yX B8) fun x8 h=>aW (gi (zj h ((Le.jP (d:=24) (e:=69) (m:=3) (n:=x8.1.length) (es:=x8.1.map ai) (by kernel_rfl) (by kernel_rfl)).trans (leS)))))) fun h=>Z)))) fun j5 h=>Z))))))))))))
def lx(aA:(List Claim))(aB:(List Claim)):Option (Bool):=
 (bif((aA.length:Int) !=(aB.length:Int))then some false else(((de (aA.length:Int) (fun(i3:Int) (_:Unit)=>((at' aA i3).bind fun x7=>((at' aB i3).bind fun x8=>(bif(!((x7.Source.toList==x8.Source.toList)&&((x7.Kind==x8.Kind)&&((x7.Place.toList==x8.Place.toList)&&((x7.Value.toList==x8.Value.toList)&&(((x7.Years.From==x8.Years.From)&&(x7.Years.To==x8.Years.To))&&(x7.Weight==x8.Weight)))))))then some (.inr (.inr false))else some (.inl ()))))) (fun(_:Unit)=> .inl ()) 0 ())).bind (TC (fun(_:Unit)=>some true) some)))
theorem yv{aA:(List Claim)}{aB:(List Claim)}:Ct WX 25 (lx aA aB) [.v (vl aa aA),.v (vl aa aB)] (fun r=>⟨[.v (vb r)],[],false⟩):=Ct.i func25 rfl fun r h=>sl (ac (sl (ad h (fun h=>Z) fun h=>sn (ac (sl (lZ (fun _=>[]) h (fun v2 h=>ah (a:=v2) (lp (fun s3=>[(5,vi s3.1)]) h (fun s3 v4 h=>ac (sl (ad h (fun h=>sn (jL (fun _=>[]) h (fun v6 h=>ah (a:=v6) (ac (bf mixed (gb 2 h (yI aa) fun x7 h=>gb 3 h (yI aa) fun x8 h=>g0 1 (yE true) (bI.nil (by kernel_rfl) (aq (ad h (fun h=>Z) fun h=>Z))))))) fun j5 h=>Z)) fun h=>Z))))) fun j1 h=>Z))))))
def my(aA:(List Site))(aB:(List Site)):Option (Bool):=
 (bif((aA.length:Int) !=(aB.length:Int))then some false else(((de (aA.length:Int) (fun(i3:Int) (_:Unit)=>((at' aA i3).bind fun x7=>((at' aB i3).bind fun x8=>(bif(!((x7.Code.toList==x8.Code.toList)&&((x7.At.X==x8.At.X)&&(x7.At.Y==x8.At.Y))))then some (.inr (.inr false))else some (.inl ()))))) (fun(_:Unit)=> .inl ()) 0 ())).bind (TC (fun(_:Unit)=>some true) some)))
theorem Aq{aA:(List Site)}{aB:(List Site)}:Ct WX 26 (my aA aB) [.v (vl ai aA),.v (vl ai aB)] (fun r=>⟨[.v (vb r)],[],false⟩):=Ct.i func26 rfl fun r h=>sl (ac (sl (ad h (fun h=>Z) fun h=>sn (ac (sl (lZ (fun _=>[]) h (fun v2 h=>ah (a:=v2) (lp (fun s3=>[(5,vi s3.1)]) h (fun s3 v4 h=>ac (sl (ad h (fun h=>sn (jL (fun _=>[]) h (fun v6 h=>ah (a:=v6) (ac (bf mixed (gb 2 h (yI ai) fun x7 h=>gb 3 h (yI ai) fun x8 h=>g0 1 (yE true) (bI.nil (by kernel_rfl) (aq (ad h (fun h=>Z) fun h=>Z))))))) fun j5 h=>Z)) fun h=>Z))))) fun j1 h=>Z))))))
def jR(aD:bg):Option (Bool):=
 ((((dN aD.Claims).bind fun x1=>(bif x1 then((gY aD.Sites).bind fun x2=>some x2)else some false))).bind fun(j3:Bool)=>some j3)
theorem wP{aD:bg}:Ct WX 27 (jR aD) [.v (.agg (tc ao aD))] (fun r=>⟨[.v (vb r)],[],false⟩):=Ct.i func27 rfl fun r h=>sl (rJ (fun j3=>[(2,vb j3)]) h (fun v4 h=>kb 2 h (yC iu) fun x1 h=>ch 1 (aj.cu [(6,fun b=>b)] h (fun h=>kb 2 h (yC ou) fun x2 h=>Z) fun h=>Z)) fun j3 h=>Z)
def qu(aD:bg):Option (Bool):=
 ((((eQ aD.Claims).bind fun x1=>(bif x1 then((fF aD.Sites).bind fun x2=>some x2)else some false))).bind fun(j3:Bool)=>some j3)
theorem E0{aD:bg}:Ct WX 28 (qu aD) [.v (.agg (tc ao aD))] (fun r=>⟨[.v (vb r)],[],false⟩):=Ct.i func28 rfl fun r h=>sl (rJ (fun j3=>[(2,vb j3)]) h (fun v4 h=>kb 2 h (yC iz) fun x1 h=>ch 1 (aj.cu [(6,fun b=>b)] h (fun h=>kb 2 h (yC oB) fun x2 h=>Z) fun h=>Z)) fun j3 h=>Z)
def mv(bx:(List Int)):Option (Bool):=
 ((yt bx).bind fun x1=>(bif x1 then some true else((lL bx).bind fun x2=>((ez x2).bind fun x3=>((gk x2).bind fun x4=>((lC bx).bind fun x5=>(((bif(x3.2 !=x4.2)then some true else((lx x3.1.Claims x4.1.Claims).bind fun x6=>(bif(!x6)then some true else((my x3.1.Sites x4.1.Sites).bind fun x7=>(bif(!x7)then some true else((jR x5).bind fun x8=>((qu x5).bind fun x9=>some (!(x8==x9)))))))))).bind fun(j10:Bool)=>(bif j10 then some false else(((bif(x3.2 !=0)then some true else((jR x3.1).bind fun x12=>some x12))).bind fun(j13:Bool)=>some j13)))))))))
theorem Dr{bx:(List Int)}:Ct WX 6 (mv bx) [.v (vl (eI .u8) bx)] (fun r=>⟨[.v (vb r)],[],false⟩):=Ct.i func6 rfl fun r h=>by
 unfold mv at h;refine sl ?_;refine ac ?_;refine sr ?_;refine kb 1 h (yC KH) fun x1 h=> ?_;refine aW ?_;refine aq ?_;refine ad h (fun h=>Z) fun h=> ?_;refine sn ?_;refine sr ?_;refine kb 1 h (yC uU) fun x2 h=> ?_;refine aW ?_;refine aq ?_;refine sr ?_;refine ke 1 h (fun x3 hx3=>(x_w [(3000000,56),(3000001,54)] [true] Kf (jQ x2 _ hx3))) fun x3 h=> ?_;refine aW ?_;refine aq ?_;refine sr ?_;refine kb 1 h (yC np) fun x4 h=> ?_;refine aW ?_;refine aq ?_;refine sr ?_;refine kb 1 h (yC zd) fun x5 h=> ?_;refine aW ?_;refine aq ?_;refine ac ?_;refine ac ?_;refine sI mixed h (fun j10=>⟨57,[(4,.ref 4 0),(5,vi x3.2),(50,vb j10)],[(4,.box [.own 56,.own 54]),(54,oa 69 3 ai x3.1.Sites),(56,oa 65 7 aa x3.1.Claims)]⟩) (fun v11 h=> ?_) (fun j10 h=>ad h (fun h=>Z) fun h=>sn (rJ (fun j13=>[(2,vb j13)]) h (fun v14 h=>ch 3 (aj.cu [(53,fun b=>b)] h (fun h=>Z) fun h=>kb 1 h (yC wP) fun x12 h=>Z)) fun j13 h=>Z));refine gh false 4 ?_;refine bI.cu [(28,fun b=>b)] h (fun h=> ?_) fun h=> ?_;refine gh false 22 ?_;refine bI.nil (by kernel_rfl) ?_;obtain rfl:=inj h;exact Le.aZ;refine gb 4 h (yC yv) fun x6 h=> ?_;refine gh false 3 ?_;refine bI.cu [(36,fun b=>b)] h (fun h=> ?_) fun h=> ?_;refine gh false 14 ?_;refine bI.nil (by kernel_rfl) ?_;obtain rfl:=inj h;exact Le.aZ;refine gb 4 h (yC Aq) fun x7 h=> ?_;refine gh false 3 ?_;refine bI.cu [(44,fun b=>b)] h (fun h=> ?_) fun h=> ?_;refine gh false 6 ?_;refine bI.nil (by kernel_rfl) ?_;obtain rfl:=inj h;exact Le.aZ;refine gb 1 h (yC wP) fun x8 h=> ?_;refine gb 1 h (yC E0) fun x9 h=> ?_;refine g0 0 (Bu sL (ti:=ti4) (i:=x8) (j:=x9) true rfl) ?_;refine gh false 1 ?_;refine bI.nil (by kernel_rfl) ?_;obtain rfl:=inj h;exact Le.aZ
theorem Ao(bx:(List Int))(r:Bool)(h:mv bx=some r):eG WX 6 [.v (vl (eI .u8) bx)] ⟨[.v (vb r)],[],false⟩:=Dr.c r h
open Go.RowKit Go.Lib
section
variable {α A S : Type}
theorem iv{L:List α}(hL:L.length<=9223372036854775807){B:Int->Unit->Option (Unit⊕(Unit⊕A))}(p:α->Bool)(a:A)(h: ∀(i:Nat) x,L[i]? =some x->B (i:Int) ()=bif p x then some (.inr (.inr a))else some (.inl ())){K:Option A}:
  (de (L.length:Int) B (fun _=> .inl ()) 0 ()).bind (TC (fun _=>K) some)=bif L.any p then some a else K:=by
 rw[lN L hL B (fun _ x _=>bif p x then some (.inr (.inr a))else some (.inl ())) _ () (fun j x _ hx=>h j x hx),Ax];cases L.any p<;>rfl
theorem gf{L:List α}(hL:L.length<=9223372036854775807){B:Int->Unit->Option (Unit⊕(Unit⊕A))}(p:Nat->α->Bool)(a:Nat->α->A)(h: ∀(i:Nat) x,L[i]? =some x->B (i:Int) ()=bif p i x then some (.inr (.inr (a i x)))else some (.inl ())){K:Option A}:
  (de (L.length:Int) B (fun _=> .inl ()) 0 ()).bind (TC (fun _=>K) some)=match cr p a L 0 with | some r=>some r | none=>K:=by
 rw[lN L hL B (fun i x _=>bif p i x then some (.inr (.inr (a i x)))else some (.inl ())) _ () (fun j x _ hx=>h j x hx),uK p (fun i x=>U4 (a i x))];have:cr p (fun i x=>(U4 (a i x):Unit⊕A)) L 0=(cr p a L 0).map .inr:=by
  generalize 0=k
  induction L generalizing k with
  | nil=>rfl
  | cons x l ih=>
   unfold cr;cases p k x
   ·simp only[cond_false];clear h;have: ∀(M:List α) (k:Nat),cr p (fun i x=>(U4 (a i x):Unit⊕A)) M k=(cr p a M k).map .inr:=by
     intro M
     induction M with
     | nil=>intro k;rfl
     | cons y m ih2=>
      intro k;unfold cr;cases p k y
      ·exact ih2 (k+1)
      ·rfl
    exact this l (k+1)
   ·rfl
 rw[this];cases cr p a L 0<;>rfl
def iG(p:α->Bool):List α->Int
 | []=> -1
 | x::l=>bif p x then 0 else(let r:=iG p l;bif decide (r<0)then -1 else r+1)
theorem ye(p:α->Bool): ∀L:List α,-1<=iG p L/\iG p L<L.length
 | []=>by simp[iG]
 | x::l=>by
  have:=ye p l;unfold iG;cases p x
  ·simp only[cond_false];by_cases h:iG p l<0
   ·simp[h];omega
   ·simp[h];omega
  ·simp
theorem kW(p:α->Bool): ∀L:List α,decide (iG p L>=0)=L.any p
 | []=>rfl
 | x::l=>by
  have h:=kW p l;have h1:=ye p l;unfold iG;rw[List.any_cons,<-h];cases p x
  ·simp only[cond_false,VW];by_cases h2:iG p l<0
   ·simp[h2]
   ·simp[h2];omega
  ·simp
theorem ri(p:α->Bool)(L:List α):decide (iG p L<0)= !L.any p:=by
 rw[<-kW];by_cases h:iG p L<0
 ·simp[h]
 ·simp[h];omega
theorem C7(p:α->Bool): ∀(L:List α) (k:Nat),(match cr (fun _ x=>p x) (fun i _=>(i:Int)) L k with | some r=>r | none=> -1)=bif decide (iG p L<0)then -1 else iG p L+k
 | [],k=>rfl
 | x::l,k=>by
  have h:=C7 p l (k+1);have h1:=ye p l;unfold cr iG;cases p x
  ·simp only[cond_false];rw[h];by_cases h2:iG p l<0
   ·simp[h2]
   ·simp[h2];have h3: ¬(iG p l+1<0):=by omega
    simp[h3];omega
  ·simp
theorem gg{L:List α}(hL:L.length<=9223372036854775807){B:Int->Unit->Option (Unit⊕(Unit⊕Int))}(p:α->Bool)(h: ∀(i:Nat) x,L[i]? =some x->B (i:Int) ()=bif p x then some (.inr (.inr (i:Int)))else some (.inl ())):
  (de (L.length:Int) B (fun _=> .inl ()) 0 ()).bind (TC (fun _=>some (-1)) some)=some (iG p L):=by
 rw[gf hL (fun _ x=>p x) (fun i _=>(i:Int)) h];have h1:=C7 p L 0;have h2:=ye p L;have h3:(bif decide (iG p L<0)then -1 else iG p L+((0:Nat):Int))=iG p L:=by
  by_cases h:iG p L<0
  ·simp[h];omega
  ·simp[h]
 rw[h3]at h1;cases hf:cr (fun _ x=>p x) (fun i _=>(i:Int)) L 0 with
 | none=>rw[hf]at h1;exact congrArg some h1
 | some r=>rw[hf]at h1;exact congrArg some h1
end
theorem pr{s:ByteArray}{j:Nat}{b:UInt8}(h:s.data.toList[j]? =some b):cQ s (j:Int)=some (b.toNat:Int):=by
 unfold cQ;rw[if_pos (by omega)];have:s[(j:Int).toNat]? =some b:=by
  rw[TG];rw[Array.getElem?_toList]at h;exact h
 rw[this];rfl
def inB(x l h:Int):Bool:=decide (x>=l)&&decide (x<=h)
theorem gC(x l h:Int):dC x l h=some (inB x l h):=rfl
theorem kc(x l h:Int):dz x l h=some (inB x l h):=rfl
theorem io{x l h:Int}:inB x l h=true↔l<=x/\x<=h:=by unfold inB;simp
def small(b:UInt8):Bool:=decide (97<=b.toNat)&&decide (b.toNat<=122)
def df(s:ByteArray):Bool:=inB s.size 1 16&&s.data.toList.all small
def abc:List UInt8:=[97,98,99,100,101,102,103,104,105,106,107,108,109,110,111,112,113,114,115,116,117,118,119,120,121,122]
theorem Me(b:UInt8):abc.contains b=small b:=by
 have h: ∀i:Fin 256,abc.contains (UInt8.ofNat i.val)=small (UInt8.ofNat i.val):=by decide+kernel
 have:=h ⟨b.toNat,b.toNat_lt⟩;simpa using this
theorem Ld(l:List UInt8):(trimS l abc).isEmpty=l.all small:=by
 have h1: ∀(p:UInt8->Bool) (l:List UInt8),(l.dropWhile p).isEmpty=l.all p:=by
  intro p l
  induction l with
  | nil=>rfl
  | cons x r ih=>
   rw[List.dropWhile_cons];by_cases h:p x=true
   ·rw[if_pos h,ih,Vw,h,Uy]
   ·rw[if_neg h,Vw,TS.2 h];rfl
 have h3:(fun b=>abc.contains b)=small:=funext Me;unfold trimS trimLeftS trimRightS;rw[h3,h1];by_cases h:l.all small=true
 ·have:(l.reverse.dropWhile small)=[]:=by
   have:=h1 small l.reverse;rw[List.all_reverse,h]at this;exact List.isEmpty_iff.1 this
  rw[this,h];rfl
 ·have h4:l.all small=false:=TS.2 h;rw[h4,TS];intro h5;have h6:=h1 small l.reverse;rw[List.all_reverse,h4]at h6;rcases hd:l.reverse.dropWhile small with _ | ⟨x,r⟩
  ·rw[hd]at h6;cases h6
  ·have h7:small x=false:=by
    have:=List.head?_dropWhile_not small l.reverse;rw[hd]at this;simpa using this
   rw[hd,List.all_reverse]at h5;simp[h7]at h5
theorem toList_eq(s:ByteArray):s.toList=s.data.toList:=Lib.toList_data s
theorem qj(s:ByteArray)(hs:s.size<=maxLen):jT s=some (df s):=by
 unfold jT r7 df;rw[gC,Ti];cases inB (s.size:Int) 1 16
 ·rfl
 ·have h1:jc s (Tj #[97,98,99,100,101,102,103,104,105,106,107,108,109,110,111,112,113,114,115,116,117,118,119,120,121,122])=some ⟨(trimS s.data.toList abc).toArray⟩:=by
   unfold jc;have h2:((Tj #[97,98,99,100,101,102,103,104,105,106,107,108,109,110,111,112,113,114,115,116,117,118,119,120,121,122]).data.toList.all (fun b=>decide (b.toNat<128)))=true:=by decide
   have h3:(decide ((Tj #[97,98,99,100,101,102,103,104,105,106,107,108,109,110,111,112,113,114,115,116,117,118,119,120,121,122]).size<=1000))=true:=by decide
   rw[h2,h3,decide_eq_true hs];rfl
  rw[h1];simp only[cond_true,Ti,Uy];congr 1;rw[toList_eq,toList_eq,<-Ld];cases trimS s.data.toList abc<;>rfl
theorem Dx{A:Type}{s:ByteArray}(hL:s.size<=9223372036854775807){B:Int->Unit->Option (Unit⊕(Unit⊕A))}(p:UInt8->Bool)(a:A)(h: ∀(i:Nat) x,s.data.toList[i]? =some x->B (i:Int) ()=bif p x then some (.inr (.inr a))else some (.inl ())){K:Option A}:
  (de (s.size:Int) B (fun _=> .inl ()) 0 ()).bind (TC (fun _=>K) some)=bif s.data.toList.any p then some a else K:=by
 have hl:s.size=s.data.toList.length:=by rw[TB];rfl
 rw[hl]at hL⊢;exact iv hL p a h
theorem iM(s:ByteArray)(hs:s.size<=maxLen):eR s=some (df s):=by
 unfold eR;rw[Dx (by unfold maxLen at hs;omega) (fun x=> !small x) false (fun j x hx=> ?_)]
 ·rw[<-VA];unfold df;cases s.data.toList.all small
  ·simp
  ·simp[kc]
 ·rw[pr hx];simp only[Ti];unfold small;by_cases h1:(x.toNat:Int)<97
  ·have h2: ¬97<=x.toNat:=by omega
   simp[h1,h2]
  ·have h2:97<=x.toNat:=by omega
   by_cases h3:(x.toNat:Int)>122
   ·have h4: ¬x.toNat<=122:=by omega
    simp[h1,h2,h3,h4]
   ·have h4:x.toNat<=122:=by omega
    simp[h1,h2,h3,h4]
theorem iw(s:ByteArray):s.data.toList.length=s.size:=by rw[TB];rfl
theorem H4(s:ByteArray)(a b:Nat):s.extract a b=⟨((s.data.toList.drop a).take (b - a)).toArray⟩:=by
 rw[<-extract_data]
theorem AT{s:ByteArray}{a b:Nat}(h:a<=b)(hb:b<=s.size):km s (a:Int) (b:Int)=some ⟨((s.data.toList.drop a).take (b - a)).toArray⟩:=by
 unfold km;rw[if_pos ⟨by omega,by omega,by omega⟩,TG,TG,H4]
theorem SZ(b c:UInt8):(((b.toNat:Int)==(c.toNat:Int))=true)↔b=c:=by
 rw[beq_iff_eq];constructor
 ·intro h;have:b.toNat=c.toNat:=by omega
  exact VQ.1 this
 ·intro h;rw[h]
theorem Jz{c:UInt8}{l:List UInt8}{f i:Nat}(hf:f<=i)(hfree:c∉(l.drop f).take (i - f))(hi:l[i]? =some c):cn c (l.drop f)=(l.drop f).take (i - f)::cn c (l.drop (i+1)):=by
 have hlt:=(Tl.1 hi).1;have h1:l.drop f=(l.drop f).take (i - f)++c::l.drop (i+1):=by
  have h2:(l.drop f).drop (i - f)=c::l.drop (i+1):=by
   rw[WB,show f+(i - f)=i from by omega,Uc hlt];congr 1;exact(Tl.1 hi).2
  rw[<-h2,V8]
 conv=>lhs;rw[h1]
 exact sG hfree
theorem dJ(s:ByteArray)(c:UInt8)(hs:s.size<=4294967280):bR s (c.toNat:Int)=some (bn s c):=by
 have hn:s.data.toList.length=s.size:=iw s;have key: ∀(k i f:Nat) (out:List ByteArray),i+k=s.size->f<=i->out.length<=i->c∉(s.data.toList.drop f).take (i - f)->
   lW (fun(i3:Int) (_:Int×(List ByteArray))=>(decide (i3<=(s.size:Int)))) (fun(i3:Int) (s3:Int×(List ByteArray))=>(((bif(i3==(s.size:Int))then some true else((cQ s i3).bind fun x7=>some (x7==(c.toNat:Int))))).bind fun(j8:Bool)=>(bif j8 then((km s s3.1 i3).bind fun x10=>((bW s3.2 ([x10]:List ByteArray)).bind fun x11=>some ((ap (i3+1)),x11)))else some (s3.1,s3.2)))) (fun(s3:Int×(List ByteArray))=>s3.2) (i:Int) ((f:Int),out)=some (out++(cn c (s.data.toList.drop f)).map fun l=>⟨l.toArray⟩):=by
  intro k
  induction k with
  | zero=>
   intro i f out hk hf hout hfree;have hi:i=s.size:=by omega
   unfold lW;rw[bT];dsimp only;have e1:((i:Int)==(s.size:Int))=true:=by rw[hi];simp
   rw[decide_eq_true (by omega),cond_true,e1,cond_true,Ti,cond_true,AT hf (by omega),Ti,ci (by simp;omega)];simp only[Ti];rw[az (by omega) (by omega),bT];dsimp only;rw[decide_eq_false (by omega),cond_false];have h1:(s.data.toList.drop f).take (i - f)=s.data.toList.drop f:=T4 (by rw[List.length_drop];omega);rw[h1]at hfree;rw[qA hfree,h1];rfl
  | succ k ih=>
   intro i f out hk hf hout hfree;have hlt:i<s.data.toList.length:=by omega
   have hb:s.data.toList[i]? =some s.data.toList[i]:=Tk hlt;generalize s.data.toList[i]=b at hb;unfold lW;rw[bT];dsimp only;have e1:((i:Int)==(s.size:Int))=false:=by rw[beq_eq_false_iff_ne];omega
   rw[decide_eq_true (by omega),cond_true,e1,cond_false,pr hb,Ti,Ti];by_cases hbc:b=c
   ·subst hbc;have e2:((b.toNat:Int)==(b.toNat:Int))=true:=beq_self_eq_true _;rw[e2,cond_true,AT hf (by omega),Ti,ci (by simp;omega)];simp only[Ti];rw[az (n:=(i:Int)+1) (by omega) (by omega)];have e3:(i:Int)+1=((i+1:Nat):Int):=by omega
    rw[e3];have:=ih (i+1) (i+1) (out++[⟨((s.data.toList.drop f).take (i - f)).toArray⟩]) (by omega) (TA _) (by simp;omega) (by simp);unfold lW at this;rw[this,Jz hf hfree hb];simp
   ·have e2:((b.toNat:Int)==(c.toNat:Int))=false:=by
     rw[TS];exact fun h=>hbc ((SZ b c).1 h)
    rw[e2,cond_false];simp only[Ti];rw[az (n:=(i:Int)+1) (by omega) (by omega)];have e3:(i:Int)+1=((i+1:Nat):Int):=by omega
    rw[e3];have:=ih (i+1) f out (by omega) (by omega) (by omega) (by
     have h1:(s.data.toList.drop f).take (i+1 - f)=(s.data.toList.drop f).take (i - f)++[b]:=by
      rw[show i+1 - f=(i - f)+1 from by omega,Vg,U7,show f+(i - f)=i from by omega,hb];rfl
     rw[h1];intro h;rcases List.mem_append.1 h with h | h
     ·exact hfree h
     ·exact hbc (TH.1 h).symm)
    unfold lW at this;rw[this]
 unfold bR;have:=key s.size 0 0 [] (by omega) (TA _) (by simp) (by simp);rw[show(0:Int)=((0:Nat):Int)from rfl,this];simp[bn]
theorem EO(s:ByteArray)(hs:s.size<=4294967280):oR s=some (bn s 32):=by
 unfold oR strings_Split;have h:(Tj #[32]).data.toList=[32]:=rfl;rw[h];dsimp only;rw[decide_eq_true (by omega),cond_true];rfl
theorem xI(s:ByteArray)(c:UInt8):(bn s c).length<=s.size+1:=by
 unfold bn;rw[TM,sH];have h1:s.data.toList.count c<=s.data.toList.length:=List.count_le_length;have:=iw s;omega
theorem F6(s:ByteArray)(c:UInt8):bn s c≠[]:=by
 unfold bn;intro h;exact lU c _ (List.map_eq_nil_iff.1 h)
def lA(s:ByteArray):Bool:=decide ((bn s 32).length<=8)&&(bn s 32).all df
theorem nj(L:List ByteArray)(hL:L.length<=9223372036854775807)(h: ∀x∈L,x.size<=maxLen):hJ L=some (L.all df):=by
 unfold hJ;rw[iv hL (fun x=> !df x) false (fun j x hx=>by
  rw[aG,hx,Ti,qj x (h x (Tm hx)),Ti]),<-VA]
 cases L.all df<;>rfl
theorem EI(s:ByteArray)(hs:s.size<=4294967280):nt s=some (lA s):=by
 unfold nt lA;have hl:=xI s 32;rw[EO s hs,Ti,nj _ (by omega) (fun x hx=>by have:=fK hx;unfold maxLen;omega)];by_cases h:(bn s 32).length<=8
 ·rw[decide_eq_true (show((bn s 32).length:Int)<=8 by omega),decide_eq_true h];rfl
 ·rw[decide_eq_false (show ¬((bn s 32).length:Int)<=8 by omega),decide_eq_false h];rfl
def Li(s:ByteArray):List ByteArray×Bool:=bif(bn s 32).all df then(bn s 32,decide ((bn s 32).length<=8))else([],false)
theorem Ea(s:ByteArray)(hs:s.size<=4294967280):mG s=some (Li s):=by
 unfold mG Li;have hl:=xI s 32;rw[show(32:Int)=((32:UInt8).toNat:Int)from rfl,dJ s 32 hs,Ti,iv (by omega) (fun x=> !df x) (([]:List ByteArray),false) (fun j x hx=>by
  rw[aG,hx,Ti,iM x (by have:=fK (Tm hx);unfold maxLen;omega),Ti]),<-VA]
 have e:decide (((bn s 32).length:Int)<=8)=decide ((bn s 32).length<=8):=by
  by_cases h:(bn s 32).length<=8
  ·rw[decide_eq_true (show((bn s 32).length:Int)<=8 by omega),decide_eq_true h]
  ·rw[decide_eq_false (show ¬((bn s 32).length:Int)<=8 by omega),decide_eq_false h]
 rw[e];cases (bn s 32).all df<;>rfl
theorem E3(s:ByteArray)(hs:s.size<=4294967280):nC s=some (lA s):=by
 unfold nC lA;rw[Ea s hs,Ti];unfold Li;cases (bn s 32).all df
 ·simp
 ·simp
theorem sM{s:ByteArray}(h:df s=true):1<=s.size/\s.size<=16:=by
 unfold df at h;rw[Tp,io]at h;omega
theorem G0{s:ByteArray}(h:lA s=true):1<=s.size:=by
 unfold lA at h;rw[Tp]at h;have h1:=F6 s 32;obtain⟨x,l,hx⟩:=List.exists_cons_of_ne_nil h1;have h2:=Tt.1 h.2 x (by rw[hx];simp);have h3:=sM h2;have:=fK (s:=s) (c:=32) (x:=x) (by rw[hx];simp);omega
theorem qF(s:ByteArray):s.toList=s.data.toList:=by
 have: ∀n i (r:List UInt8),s.size - i=n->ByteArray.toList.loop s i r=r.reverse++s.data.toList.drop i:=by
  intro n
  induction n with
  | zero=>
   intro i r h;unfold ByteArray.toList.loop;have h2:s.data.toList.length=s.size:=by rw[TB];rfl
   rw[if_neg (by omega),UL (by omega),Up]
  | succ n ih=>
   intro i r h;unfold ByteArray.toList.loop;have h2:s.data.toList.length=s.size:=by rw[TB];rfl
   rw[if_pos (by omega),ih (i+1) _ (by omega),List.reverse_cons,TX,Uc (show i<s.data.toList.length by omega)];congr 1;show[s.get! i]++_=_;rw[List.singleton_append];congr 1;rw[Array.getElem_toList];show s.data[i]! =_;rw[getElem!_pos s.data i (by rw[<-TB];omega)]
 have h:=this _ 0 [] rfl;rw[List.reverse_nil,UD,VJ]at h;exact h
theorem fV(s:ByteArray):s.data.toList.length=s.size:=by rw[TB];rfl
theorem Ch: ∀(k fuel n:Nat),n<10^(k+1)->k<fuel->k<=15-> ∃t:ByteArray,jx fuel (n:Int)=some t/\t.data.toList=decDigits n/\t.size<=k+1
 | k,0,n,_,h,_=>by omega
 | k,fuel+1,n,hn,hf,hk=>by
  have hp:10^(k+1)<=10^16:=Ua (by omega) (by omega);unfold jx;by_cases h:n<10
  ·rw[decide_eq_true (show(n:Int)<10 by omega),cond_true];refine⟨_,rfl,?_,?_⟩
   ·rw[az (by omega) (by omega),decDigits,dif_pos h];have:n=0\/n=1\/n=2\/n=3\/n=4\/n=5\/n=6\/n=7\/n=8\/n=9:=by omega
    rcases this with rfl | rfl | rfl | rfl | rfl | rfl | rfl | rfl | rfl | rfl<;>decide+kernel
   ·rw[strOfNums_size];simp
  ·rw[decide_eq_false (show ¬(n:Int)<10 by omega),cond_false];cases k with
   | zero=>omega
   | succ k=>
    have e1:Wn (n:Int) 10=((n/10:Nat):Int):=rfl;have e2:Ug (n:Int) 10=((n % 10:Nat):Int):=rfl;obtain⟨t,t1,t2,t3⟩:=Ch k fuel (n/10) (by rw[Nat.pow_succ]at hn;omega) (by omega) (by omega);have hm:n % 10<10:=Nat.mod_lt _ (by omega);have hs:=strOfNums_size [(IntKind.wrap .u8 (ap (48+((n % 10:Nat):Int))))];rw[U0]at hs;rw[e1,e2,az (n:=((n/10:Nat):Int)) (by omega) (by omega),t1,Ti];unfold bV;rw[if_pos (by omega),Ti];refine⟨_,rfl,?_,by rw[Tw];omega⟩;rw[decDigits,dif_neg h,ByteArray.data_append,Array.toList_append,t2];congr 1;rw[az (by omega) (by omega)];generalize n % 10=d at hm;have:d=0\/d=1\/d=2\/d=3\/d=4\/d=5\/d=6\/d=7\/d=8\/d=9:=by omega
    rcases this with rfl | rfl | rfl | rfl | rfl | rfl | rfl | rfl | rfl | rfl<;>decide+kernel
theorem byte_at{s:ByteArray}{i:Nat}(hi:i<s.size):cQ s (i:Int)=some ((s.data.toList[i]'(by rw[fV];exact hi)).toNat:Int):=by
 unfold cQ;rw[if_pos (by omega),TG,getElem?_pos s i hi];rfl
theorem PC{s:ByteArray}(hs:s.size<=13): ∃r:Int⊕(Int×Bool),de (s.size:Int) (fun(i3:Int) (s3:Int)=>((((cQ s i3).bind fun x7=>(bif(decide (x7<48))then some true else((cQ s i3).bind fun x8=>some (decide (x8>57)))))).bind fun(j9:Bool)=>(bif j9 then some (.inr (.inr (0,false)))else((cQ s i3).bind fun x11=>some (.inl (ap ((ap (10*s3))+(ap (IntKind.wrap .u8 (x11 - 48)))))))))) (fun(s3:Int)=>(.inl s3:Int⊕(Int×Bool))) 0 0=some r/\r=bif s.data.toList.all By then .inl (Ep s.data.toList 0:Int)else .inr (0,false):=by
 have hl:=fV s;rw[fM _ (by omega)];have key: ∀(m k a:Nat),k+m=s.size->a<10^k-> ∃r:Int⊕(Int×Bool),dm (fun(i3:Nat) (s3:Int)=>((((cQ s (i3:Int)).bind fun x7=>(bif(decide (x7<48))then some true else((cQ s (i3:Int)).bind fun x8=>some (decide (x8>57)))))).bind fun(j9:Bool)=>(bif j9 then some (.inr (.inr (0,false)))else((cQ s (i3:Int)).bind fun x11=>some (.inl (ap ((ap (10*s3))+(ap (IntKind.wrap .u8 (x11 - 48)))))))))) (fun(s3:Int)=>(.inl s3:Int⊕(Int×Bool))) m k (a:Int)=some r/\r=bif(s.data.toList.drop k).all By then .inl (Ep (s.data.toList.drop k) a:Int)else .inr (0,false):=by
  intro m
  induction m with
  | zero=>
   intro k a hk ha;rw[UL (by omega)];exact⟨_,rfl,rfl⟩
  | succ m ih=>
   intro k a hk ha;have hks:k<s.size:=by omega
   have hp:10^k<=10^13:=Ua (by omega) (by omega);have hx:=byte_at hks;have hlt:=(s.data.toList[k]'(by omega)).toNat_lt;rw[Uc (show k<s.data.toList.length by omega),Vw];generalize hc:s.data.toList[k]'(by omega)=c at hx hlt;unfold dm;simp only[hx,Ti];cases hd:By c
   ·have hnd: ¬(48<=c.toNat/\c.toNat<=57):=fun h=>by rw[rb.2 h]at hd;cases hd
    by_cases h1:c.toNat<48
    ·rw[decide_eq_true (show(c.toNat:Int)<48 by omega)];exact⟨_,rfl,rfl⟩
    ·rw[decide_eq_false (show ¬(c.toNat:Int)<48 by omega),decide_eq_true (show(c.toNat:Int)>57 by omega)];exact⟨_,rfl,rfl⟩
   ·have hdg:=rb.1 hd;obtain⟨r,r1,r2⟩:=ih (k+1) (a*10+(c.toNat - 48)) (by omega) (by rw[Nat.pow_succ];omega);have hw:IntKind.wrap .u8 ((c.toNat:Int)- 48)=((c.toNat - 48:Nat):Int):=by
     rw[IntKind.wrap_u8];omega
    rw[decide_eq_false (show ¬(c.toNat:Int)<48 by omega),decide_eq_false (show ¬(c.toNat:Int)>57 by omega),hw,az (n:=10*(a:Int)) (by omega) (by omega),az (n:=((c.toNat - 48:Nat):Int)) (by omega) (by omega),az (n:=10*(a:Int)+((c.toNat - 48:Nat):Int)) (by omega) (by omega),show 10*(a:Int)+((c.toNat - 48:Nat):Int)=((a*10+(c.toNat - 48):Nat):Int) by omega];refine⟨r,r1,?_⟩;rw[r2,Uy];rfl
 have:=key s.size 0 0 (by omega) (by simp);rw[VJ]at this;exact this
theorem jt(s:ByteArray): ∃n b,bJ s=some (n,b)/\(b=true↔can s.data.toList)/\0<=n/\n<10000000000000/\(b=true->n=Ep s.data.toList 0):=by
 have hl:=fV s;unfold bJ;by_cases h0:s.size<1\/13<s.size
 ·refine⟨0,false,?_,?_,by omega,by omega,fun h=>by cases h⟩
  ·have:(decide ((s.size:Int)<1) || decide ((s.size:Int)>13))=true:=by
    rw[TT,decide_eq_true_eq,decide_eq_true_eq];omega
   rw[this];rfl
  ·constructor
   ·intro h;cases h
   ·rintro⟨m,h1,h2⟩;have:=VX.2 (w7 m);rw[<-h1]at this;omega
 ·have:(decide ((s.size:Int)<1) || decide ((s.size:Int)>13))=false:=by
   rw[Uz,decide_eq_false_iff_not,decide_eq_false_iff_not];omega
  rw[this,cond_false];obtain⟨r,r1,r2⟩:=PC (s:=s) (by omega);rw[r1,Ti,r2];cases hd:s.data.toList.all By
  ·refine⟨0,false,rfl,?_,by omega,by omega,fun h=>by cases h⟩;constructor
   ·intro h;cases h
   ·rintro⟨m,h1,h2⟩;rw[h1,xZ]at hd;cases hd
  ·have hv:=Hl s.data.toList 0 0 hd (by simp);have hp:10^(0+s.data.toList.length)<=10^13:=Ua (by omega) (by omega);obtain⟨t,t1,t2,_⟩:=Ch 12 1000 (Ep s.data.toList 0) (by omega) (by omega) (by omega);have t1':bY (Ep s.data.toList 0:Int)=some t:=t1;rw[cond_true,T6,t1',Ti];refine⟨_,_,rfl,?_,by omega,by omega,fun _=>rfl⟩;rw[qF,qF,t2,beq_iff_eq];constructor
   ·intro h;exact⟨_,h.symm,by omega⟩
   ·rintro⟨m,h1,h2⟩;rw[h1,l9]
theorem ma(s:ByteArray)(i j:Nat):(s.extract i j).data.toList=(s.data.toList.take j).drop i:=by
 rw[ByteArray.data_extract,Array.toList_extract,List.extract_eq_take_drop,List.drop_take]
theorem Q6(s:ByteArray)(hs:s.size<=1048576): ∃t,strings_TrimPrefix s (Tj #[45])=some t/\(t.size:Int)=if s.data.toList.head?=some 45 then(s.size:Int)- 1 else s.size:=by
 have hl:=fV s;have hone:(Tj #[45]).size=1:=rfl;unfold strings_TrimPrefix ek cC;rw[hone];cases hd:s.data.toList with
 | nil=>
  rw[hd]at hl;have h0:s.size=0:=hl.symm;rw[decide_eq_false (show ¬(s.size:Int)>=((1:Nat):Int) by omega)];exact⟨s,rfl,by simp⟩
 | cons c r=>
  rw[hd,Ty]at hl;rw[decide_eq_true (show(s.size:Int)>=((1:Nat):Int) by omega),cond_true];unfold km;rw[if_pos (by omega),Ti];have e1:(s.extract (Tv 0) (Tv ((1:Nat):Int))).toList=[c]:=by
   rw[qF,ma,hd];rfl
  rw[e1,qF];by_cases hc:c=45
  ·subst hc;rw[if_pos (by omega)];refine⟨_,rfl,?_⟩;rw[<-fV,ma,hd];simp;omega
  ·have:([c]==(Tj #[45]).data.toList)=false:=by
    rw[beq_eq_false_iff_ne];intro h;injection h with h;exact hc h
   rw[this];refine⟨s,rfl,?_⟩;rw[if_neg (by simpa using hc)]
theorem vP(s:ByteArray)(hs:s.size<=1048576):cW s=some ((gO s).1,(gO s).2&&decide ((if s.data.toList.head?=some 45 then(s.size:Int)- 1 else s.size)<=13)):=by
 obtain⟨t,t1,t2⟩:=Q6 s hs;unfold cW bU;rw[if_pos (by omega),Ti,t1,Ti,t2];cases (gO s).2<;>rfl
theorem Cw{s:ByteArray}{v:Int}(h:parseIntB 64 s.data.toList= .ok v):gO s=(v,itoa v==s.data.toList):=by
 unfold gO;rw[h,qF]
theorem pf{s:ByteArray}(h:(gO s).2=true):itoa (gO s).1=s.data.toList:=by
 unfold gO at h⊢;cases hp:parseIntB 64 s.data.toList
 ·rw[hp]at h;rw[qF]at h;exact beq_iff_eq.1 h
 ·rw[hp]at h;cases h
 ·rw[hp]at h;cases h
theorem Dd{m:Nat}:(decDigits m).head?≠some 45:=by
 intro h;cases hd:decDigits m with
 | nil=>rw[hd]at h;cases h
 | cons c r=>
  rw[hd]at h;have:=(CY hd).1;simp only[List.head?_cons,Um.injEq]at h;rw[h]at this;exact this rfl
theorem On(s:ByteArray)(hs:s.size<=1048576): ∃b r,ml s=some b/\bJ s=some (r,b):=by
 have hl:=fV s;obtain⟨n,b,v1,v2,_,_,v5⟩:=jt s;refine⟨b,n,?_,v1⟩;unfold ml;rw[vP s hs,Ti];congr 1;rw[Va,v2,Tp,Tp,decide_eq_true_eq,decide_eq_true_eq];constructor
 ·rintro⟨⟨h1,h2⟩,h3⟩;have h4:=pf h1;have h3:0<=(gO s).1:=h3;rw[k9 h3]at h4;rw[<-h4,if_neg Dd]at h2;exact⟨_,h4.symm,by omega⟩
 ·rintro⟨m,h1,h2⟩;have hp:=Az (u:=m) (by rw[<-h1];exact h2);rw[<-h1]at hp;rw[Cw hp];refine⟨⟨?_,?_⟩,by show(m:Int)>=0;omega⟩
  ·show(itoa (m:Int)==s.data.toList)=true;rw[itoa_nonneg,h1];exact beq_self_eq_true _
  ·rw[h1,if_neg Dd];omega
theorem KA(s:ByteArray)(hs:s.size<=1048576): ∃b r,jX s=some b/\bH s=some (r,b):=by
 have hl:=fV s;unfold jX bH;rw[vP s hs,Ti];cases hd:s.data.toList with
 | nil=>
  rw[hd]at hl;have h0:s.size=0:=hl.symm;rw[decide_eq_false (show ¬(s.size:Int)>0 by omega)];obtain⟨n,b,v1,v2,_⟩:=jt s;refine⟨_,n,rfl,?_⟩;rw[cond_false,Ti,cond_false,v1,Ti];congr 2;rw[Va,v2,Tp];constructor
  ·rintro⟨m,h1,_⟩;rw[hd]at h1;exact absurd h1.symm (w7 m)
  ·rintro⟨h1,_⟩;have h4:=pf h1;rw[hd]at h4;unfold itoa at h4;split at h4
   ·cases h4
   ·exact absurd h4 (w7 _)
 | cons c r=>
  rw[hd,Ty]at hl;have hb:cQ s 0=some (c.toNat:Int):=by
   have:=byte_at (s:=s) (i:=0) (by omega);simp only[hd]at this;exact this
  rw[decide_eq_true (show(s.size:Int)>0 by omega),cond_true,hb,Ti,Ti];by_cases hc:c=45
  ·subst hc;have e45:(((45:UInt8).toNat:Int)==45)=true:=rfl;have hsub:km s 1 (s.size:Int)=some (s.extract 1 s.size):=by
    unfold km;rw[if_pos (by omega)];rfl
   have hex:(s.extract 1 s.size).data.toList=r:=by
    rw[ma,T4 (by rw[fV];exact TA _),hd];rfl
   obtain⟨n,b,v1,v2,v3,v4,v5⟩:=jt (s.extract 1 s.size);rw[hex]at v2 v5;rw[e45,cond_true,hsub,Ti,v1,Ti];refine⟨_,ap (0 - n),rfl,?_⟩;congr 2;rw[Va,Tp,Tp,decide_eq_true_eq,decide_eq_true_eq,v2];simp only[List.head?_cons,if_true];constructor
   ·rintro⟨⟨m,h1,h2⟩,h3⟩;have h5:=v5 (v2.2 ⟨m,h1,h2⟩);rw[h1,l9]at h5;have h6:=FW (u:=m) (by rw[<-h1];exact h2);rw[<-h1,<-hd]at h6;rw[Cw h6];refine⟨?_,by omega⟩;show(itoa (-(m:Int))==s.data.toList)=true;rw[itoa_neg m (by omega),hd,h1];exact beq_self_eq_true _
   ·rintro⟨h1,h2⟩;have h4:=pf h1;rw[hd]at h4;have hneg:(gO s).1<0:=by
     rcases Int.lt_or_le (gO s).1 0 with h | h
     ·exact h
     ·rw[k9 h]at h4;exact absurd (by rw[h4];rfl) (Dd (m:=(gO s).1.toNat))
    rw[vF hneg]at h4;injection h4 with _ h4;have hcan:can r:=⟨_,h4.symm,by omega⟩;refine⟨hcan,?_⟩;have h5:=v5 (v2.2 hcan);rw[<-h4,l9]at h5;omega
  ·have e45:((c.toNat:Int)==45)=false:=by
    rw[beq_eq_false_iff_ne];intro h;apply hc;apply VQ.1;show c.toNat=45;omega
   obtain⟨n,b,v1,v2,v3,v4,v5⟩:=jt s;rw[hd]at v2;rw[e45,cond_false,v1,Ti];refine⟨_,n,rfl,?_⟩;congr 2;have hh: ¬(c::r).head?=some 45:=by simpa using hc
   rw[if_neg hh,Va,v2,Tp,decide_eq_true_eq];constructor
   ·rintro⟨m,h1,h2⟩;have h6:=Az (u:=m) (by rw[<-h1];exact h2);rw[<-h1,<-hd]at h6;rw[Cw h6];rw[Ty]at h2;refine⟨?_,by omega⟩;show(itoa (m:Int)==s.data.toList)=true;rw[itoa_nonneg,hd,h1];exact beq_self_eq_true _
   ·rintro⟨h1,h2⟩;have h4:=pf h1;rw[hd]at h4;have hpos:0<=(gO s).1:=by
     rcases Int.lt_or_le (gO s).1 0 with h | h
     ·rw[vF h]at h4;injection h4 with h5 _;exact absurd h5.symm hc
     ·exact h
    rw[k9 hpos]at h4;exact⟨_,h4.symm,by rw[Ty];omega⟩
theorem mY{a b:ByteArray}(h:a.data.toList=b.data.toList):a=b:=by
 cases a with
 | mk x=>
  cases b with
  | mk y=>
   have h:x.toList=y.toList:=h;rw[VH.1 h]
def cK(v:Int):ByteArray:=⟨(itoa v).toArray⟩
theorem cL(v:Int):(cK v).data.toList=itoa v:=by
 unfold cK;simp
theorem vO(v:Int):(cK v).size=(itoa v).length:=by
 rw[<-fV,cL]
theorem rQ{u:Nat}(h:u<10000000000000):(decDigits u).length<=13:=by
 obtain⟨t,_,t2,t3⟩:=Ch 12 1000 u h (by omega) (by omega);have:=fV t;rw[t2]at this;omega
theorem Dq{v:Int}(h0: -10000000000000<v)(h1:v<10000000000000):(itoa v).length<=14:=by
 unfold itoa;split
 ·have:=rQ (u:=v.natAbs) (by omega);rw[Ty];omega
 ·have:=rQ (u:=v.toNat) (by omega);omega
theorem kZ(v:Int)(h0: -9223372036854775808<=v)(h1:v<=9223372036854775807):ct v=some (cK v):=by
 unfold ct;rw[if_pos ⟨h0,h1⟩];rfl
theorem iA{v:Int}(h0:0<=v)(h1:v<10000000000000000):bY v=some (cK v):=by
 obtain⟨u,rfl⟩:=Ui h0;obtain⟨t,t1,t2,_⟩:=Ch 15 1000 u (by omega) (by omega) (by omega);have e:t=cK u:=mY (by rw[t2,cL,k9 (by omega),TG]);rw[<-e];exact t1
theorem KU{v:Int}(h0: -10000000000000<v)(h1:v<10000000000000):parseIntB 64 (itoa v)= .ok v:=by
 unfold itoa;split
 ·rw[FW (rQ (by omega))];congr 1;omega
 ·rw[Az (rQ (by omega))];congr 1;omega
theorem kB{s:ByteArray}{v:Int}(hs:s.data.toList=itoa v)(h0: -10000000000000<v)(h1:v<10000000000000):gO s=(v,true):=by
 rw[Cw (v:=v) (by rw[hs];exact KU h0 h1),hs,beq_self_eq_true]
theorem xL{s:ByteArray}{v:Int}(hs:s.data.toList=itoa v)(h0:0<=v)(h1:v<10000000000000):bJ s=some (v,true):=by
 obtain⟨n,b,v1,v2,_,_,v5⟩:=jt s;rw[k9 h0]at hs;have hb:=v2.2 ⟨_,hs,by rw[hs];exact rQ (by omega)⟩;have h5:=v5 hb;rw[hs,l9]at h5;rw[v1,hb,h5];congr 2;omega
theorem ph(s:ByteArray)(hs:s.size<=1048576): ∃n b,bH s=some (n,b)/\(b=true->s.data.toList=itoa n/\ -10000000000000<n/\n<10000000000000)/\ ∀v,s.data.toList=itoa v-> -10000000000000<v->v<10000000000000->b=true/\n=v:=by
 have hl:=fV s;have hneg: ∀{m:Nat} {l:List UInt8},decDigits m≠45::l:=fun{m l} e=>(CY e).1 rfl;unfold bH;cases hd:s.data.toList with
 | nil=>
  rw[hd]at hl;have h0:s.size=0:=hl.symm;rw[decide_eq_false (show ¬(s.size:Int)>0 by omega)];obtain⟨n,b,v1,v2,_⟩:=jt s;rw[cond_false,Ti,cond_false,v1,Ti];refine⟨_,_,rfl,fun h=> ?_,fun v h=>absurd h.symm (GQ v)⟩;obtain⟨m,h1,_⟩:=v2.1 h;rw[hd]at h1;exact absurd h1.symm (w7 m)
 | cons c r=>
  rw[hd,Ty]at hl;have hb:cQ s 0=some (c.toNat:Int):=by
   have:=byte_at (s:=s) (i:=0) (by omega);simp only[hd]at this;exact this
  rw[decide_eq_true (show(s.size:Int)>0 by omega),cond_true,hb,Ti,Ti];by_cases hc:c=45
  ·subst hc;have e45:(((45:UInt8).toNat:Int)==45)=true:=rfl;have hsub:km s 1 (s.size:Int)=some (s.extract 1 s.size):=by
    unfold km;rw[if_pos (by omega)];rfl
   have hex:(s.extract 1 s.size).data.toList=r:=by
    rw[ma,T4 (by rw[fV];exact TA _),hd];rfl
   obtain⟨n,b,v1,v2,v3,v4,v5⟩:=jt (s.extract 1 s.size);rw[hex]at v2 v5;have hw:ap (0 - n)= -n:=by
    rw[az (by omega) (by omega)];omega
   rw[e45,cond_true,hsub,Ti,v1,Ti,hw];refine⟨_,_,rfl,fun h=> ?_,fun v h k1 k2=> ?_⟩
   ·rw[Tp,decide_eq_true_eq]at h;obtain⟨m,h1,h2⟩:=v2.1 h.1;have h5:=v5 h.1;rw[h1,l9]at h5;refine⟨?_,by omega,by omega⟩;rw[vF (by omega),h1];congr 2;omega
   ·have hv:v<0:=by
     rcases Int.lt_or_le v 0 with h3 | h3
     ·exact h3
     ·rw[k9 h3]at h;exact absurd h.symm hneg
    rw[vF hv]at h;injection h with _ h;have hcan:=v2.2 ⟨_,h,by rw[h];exact rQ (by omega)⟩;have h5:=v5 hcan;rw[h,l9]at h5;rw[hcan,decide_eq_true (show n>0 by omega)];exact⟨rfl,by omega⟩
  ·have e45:((c.toNat:Int)==45)=false:=by
    rw[beq_eq_false_iff_ne];intro h;apply hc;apply VQ.1;show c.toNat=45;omega
   obtain⟨n,b,v1,v2,v3,v4,v5⟩:=jt s;rw[hd]at v2 v5;rw[e45,cond_false,v1,Ti];refine⟨_,_,rfl,fun h=> ?_,fun v h k1 k2=> ?_⟩
   ·obtain⟨m,h1,h2⟩:=v2.1 h;have h5:=v5 h;rw[h1,l9]at h5;refine⟨?_,by omega,by omega⟩;rw[k9 v3,h1,h5,TG]
   ·have hv:0<=v:=by
     rcases Int.lt_or_le v 0 with h3 | h3
     ·rw[vF h3]at h;injection h with h _;exact absurd h hc
     ·exact h3
    rw[k9 hv]at h;have hcan:=v2.2 ⟨_,h,by rw[h];exact rQ (by omega)⟩;have h5:=v5 hcan;rw[h,l9]at h5;exact⟨hcan,by omega⟩
theorem qt{s:ByteArray}{v:Int}(hz:s.size<=1048576)(hs:s.data.toList=itoa v)(h0: -10000000000000<v)(h1:v<10000000000000):bH s=some (v,true):=by
 obtain⟨n,b,s1,_,s3⟩:=ph s hz;obtain⟨e1,e2⟩:=s3 v hs h0 h1;rw[s1,e1,e2]
def zK(c:List Int):Prop:=c.length<=4096/\ ∀x∈c,0<=x/\x<256
theorem OK{α:Type}(L:List α){i:Int}(h0:0<=i)(h:i<L.length\/i=0)(hL:0<L.length): ∃y,at' L i=some y/\y∈L:=by
 obtain⟨y,hy,hg⟩:=HD (L:=L) h0 (by omega);exact⟨y,hy,Tm hg⟩
def Gv{α:Type}(o:Option α)(P:α->Prop):Prop:= ∃y,o=some y/\P y
theorem Gv.bind{α β:Type}{o:Option α}{P:α->Prop}{f:α->Option β}{Q:β->Prop}(h:Gv o P)(k: ∀y,P y->Gv (f y) Q):Gv (o.bind f) Q:=by
 obtain⟨y,rfl,hy⟩:=h;exact k y hy
theorem Gv.some{α:Type}{y:α}{P:α->Prop}(h:P y):Gv (some y) P:=⟨y,rfl,h⟩
theorem Gv.cond{α:Type}{b:Bool}{x y:Option α}{P:α->Prop}(h:b=true->Gv x P)(k:b=false->Gv y P):Gv (bif b then x else y) P:=by
 cases b
 ·exact k rfl
 ·exact h rfl
theorem Gv.imp{α:Type}{o:Option α}{P Q:α->Prop}(h:Gv o P)(k: ∀y,P y->Q y):Gv o Q:=by
 obtain⟨y,e,hy⟩:=h;exact⟨y,e,k y hy⟩
theorem Gv.lp{α A:Type}{body:α->Option (α⊕A)}(I:α->Prop)(μ:α->Nat){Q:A->Prop}(h: ∀s,I s->Gv (body s) (fun r=>match r with
  | .inl s'=>I s'/\μ s'<μ s
  | .inr r=>Q r)) {s:α} (hs:I s):Gv (loop body s) Q:=by
 obtain⟨r,e,hr⟩:=yD I μ Q (fun s hs=>by
  obtain⟨y,e,hy⟩:=h s hs;cases y with
  | inl s'=>exact .inl ⟨s',e,hy⟩
  | inr r=>exact .inr ⟨r,e,hy⟩) hs
 exact⟨r,e,hr⟩
theorem Gv.Od{S A:Type}{n:Nat}(hn:n<=1000000000){B:Int->S->Option S}{D:S->A}(I:Nat->S->Prop)(hB: ∀(i:Nat) s,i<n->I i s->Gv (B (i:Int) s) (I (i+1))){s:S}(hs:I 0 s){Q:A->Prop}(hQ: ∀s,I n s->Q (D s)):Gv (cR (n:Int) B D 0 s) Q:=by
 have key: ∀(m i:Nat) s,i+m=n->I i s->Gv (cR (n:Int) B D (i:Int) s) Q:=by
  intro m
  induction m with
  | zero=>
   intro i s him hi;obtain rfl:i=n:=by omega
   unfold cR;rw[bT];simp only[decide_eq_false (show ¬(i:Int)<i by omega),cond_false];exact⟨_,rfl,hQ s hi⟩
  | succ m ih=>
   intro i s him hi;obtain⟨s',e,hs'⟩:=hB i s (by omega) hi;have:=ih (i+1) s' (by omega) hs';unfold cR at this⊢;rw[bT];simp only[decide_eq_true (show(i:Int)<n by omega),cond_true,e,Ti];rw[az (by omega) (by omega)];simpa using this
 exact key n 0 s (by omega) hs
theorem Gv.at{α:Type}{L:List α}{P:α->Prop}{i:Int}(h0:0<=i/\(i<L.length\/i=0))(hL:0<L.length)(hP: ∀x∈L,P x):Gv (at' L i) P:=by
 obtain⟨y,e,hy⟩:=OK L h0.1 h0.2 hL;exact⟨y,e,hP y hy⟩
theorem Gv.cat{u v:ByteArray}(h:u.size+v.size<=1000000):Gv (bV u v) (fun w=>w.size=u.size+v.size):=by
 refine⟨u++v,?_,Tw⟩;unfold bV;rw[if_pos (by omega)]
theorem Gv.app{α:Type}{L M:List α}(h:L.length+M.length<=1000000):Gv (bW L M) (fun r=>r=L++M):=⟨_,ci (by omega),rfl⟩
theorem Gv.sub{u:ByteArray}{l h:Int}(h0:0<=l)(h1:l<=h)(h2:h<=u.size):Gv (km u l h) (fun w=>w.size<=u.size):=by
 refine⟨_,by unfold km;rw[if_pos ⟨h0,h1,h2⟩],?_⟩;show(u.extract l.toNat h.toNat).size<=u.size;rw[V4];omega
theorem cq{s r:ByteArray}(h:s.size+r.size<=9223372036854775807):bV s r=some (s++r):=by
 unfold bV;rw[if_pos h]
theorem et(s r:ByteArray):(s++r).data.toList=s.data.toList++r.data.toList:=by
 rw[ByteArray.data_append,Array.toList_append]
theorem nk(L:List ByteArray)(c:ByteArray):(ee L c).data.toList=Lib.join (L.map (·.data.toList)) c.data.toList:=by
 unfold ee;simp
theorem FI(c x:List UInt8): ∀{L:List (List UInt8)},L≠[]->Lib.join (L++[x]) c=Lib.join L c++c++x
 | [],h=>absurd rfl h
 | [y],_=>by rw[List.singleton_append,join_cons,join_one,join_one]
 | y::z::L,_=>by
  rw[Vb,Vb,join_cons,join_cons,<-Vb,FI c x (L:=z::L) (by simp)];simp
theorem gz(x c:ByteArray):ee [x] c=x:=mY (by rw[nk,UK,VC,join_one])
theorem fe(x y:ByteArray)(L:List ByteArray)(c:ByteArray):ee (x::y::L) c=x++c++ee (y::L) c:=mY (by
 rw[nk,UK,UK,join_cons,et,et,nk];rfl)
theorem KB(x c:ByteArray){L:List ByteArray}(h:L≠[]):ee (L++[x]) c=ee L c++c++x:=mY (by
 rw[nk,U9,UK,VC,FI _ _ (by simpa using h),et,et,nk])
theorem lJ{k:Nat}(c:ByteArray): ∀(L:List ByteArray),(∀x∈L,x.size<=k)->(ee L c).size<=L.length*(k+c.size)
 | [],_=>by
  show 0<=_;exact Ul _
 | [x],h=>by
  rw[gz];have:=h x (by simp);rw[U0];omega
 | x::y::L,h=>by
  have h1:=lJ c (y::L) fun z hz=>h z (by simp[hz]);have h2:=h x (by simp);rw[fe,Tw,Tw,Ty,Nat.succ_mul];omega
theorem vG{α A:Type}{L:List α}{k:Nat}(hk:k<=1000000)(hL:L.length<=1000000){c:ByteArray}(hc:c.size<=100){t:α->ByteArray}(ht: ∀x∈L,(t x).size<=k){B:Int->ByteArray->Option ByteArray}{D:ByteArray->A}(h: ∀(i:Nat) x s,L[i]? =some x->s.size<=2000000000000->B (i:Int) s=some ((bif decide ((i:Int)>0)then s++c else s)++t x)):cR (L.length:Int) B D 0 (Tj #[])=some (D (ee (L.map t) c)):=by
 obtain⟨y,h1,h2⟩:=Gv.Od (show L.length<=1000000000 by omega) (B:=B) (D:=D) (fun i s=>s=ee ((L.take i).map t) c) (fun i s hi hs=>by
  have hx:L[i]? =some L[i]:=Tk hi;have hz:=lJ (k:=k) c ((L.take i).map t) (fun x hx=>by
   obtain⟨z,hz,rfl⟩:=TF.1 hx;exact ht z (U6 hz))
  rw[TM,TQ,VP (by omega),<-hs]at hz;have hz2:s.size<=1000000*(1000000+100):=Ut hz (Vx (by omega) (by omega));refine⟨_,h i L[i] s hx (by omega),?_⟩;rw[Vg,hx,Option.toList_some,U9,UK,VC];rcases Nat.eq_zero_or_pos i with h0 | h0
  ·subst h0;rw[decide_eq_false (by omega),hs,cond_false];exact mY (by simp[ee,Lib.join])
  ·rw[decide_eq_true (by omega),cond_true,hs,KB];intro e;have:=congrArg List.length e;rw[TM,TQ,UC]at this;omega) (s:=Tj #[]) (by simp[ee,Lib.join]) (Q:=fun y=>y=D (ee (L.map t) c)) (fun s hs=>by
  rw[hs,List.take_length])
 rw[h1,h2]
theorem og{v:Int}(h0: -10000000000000<v)(h1:v<10000000000000):ea v=some (cK v):=by
 unfold ea;by_cases h:v<0
 ·have hl:=Dq (v:=0 - v) (by omega) (by omega);have h1':(Tj #[45]).size=1:=rfl;rw[decide_eq_true h,cond_true,az (by omega) (by omega),iA (by omega) (by omega),Ti,cq (by
   rw[vO,h1'];omega),Ti]
  congr 1;refine mY ?_;have e:(0 - v).toNat=v.natAbs:=by omega
  rw[et,cL,cL,vF h,k9 (by omega),e];rfl
 ·rw[decide_eq_false h,cond_false,iA (by omega) (by omega),Ti]
def lS(R:List Int):ByteArray:=bif(R.length:Int)==0 then Tj #[45]else ee (R.map cK) (Tj #[44])
theorem si{R:List Int}(hR: ∀x∈R,0<=x/\x<1000000): ∀x∈R,(cK x).size<=14:=fun x hx=>by
 have:=hR x hx;rw[vO];exact Dq (by omega) (by omega)
theorem KN{R:List Int}(hl:R.length<=1000)(hR: ∀x∈R,0<=x/\x<1000000):(lS R).size<=20000:=by
 unfold lS;cases (R.length:Int)==0
 ·have h:=lJ (k:=14) (Tj #[44]) (R.map cK) (fun x hx=>by
   obtain⟨z,hz,rfl⟩:=TF.1 hx;exact si hR z hz)
  rw[TM]at h;have h2:R.length*(14+(Tj #[44]).size)<=1000*15:=Vx hl (TA _);rw[cond_false];omega
 ·rw[cond_true];show 1<=20000;omega
theorem zq{R:List Int}(hl:R.length<=1000)(hR: ∀x∈R,0<=x/\x<1000000):iY R=some (lS R):=by
 unfold iY lS sF;cases (R.length:Int)==0
 ·rw[cond_false,cond_false,vG (k:=14) (t:=cK) (c:=Tj #[44]) (by omega) (by omega) (by decide) (si hR) (fun i x s hx hs=>by
   have h1:=hR x (Tm hx);have h2:=si hR x (Tm hx);have hat:at' R (i:Int)=some x:=by rw[aG,hx]
   have hc:(Tj #[44]).size=1:=rfl;simp only[hat,Ti,og (v:=x) (by omega) (by omega)];cases decide ((i:Int)>0)
   ·rw[cond_false,Ti,cq (by omega)];rfl
   ·rw[cond_true,cq (by omega),Ti,Ti,cq (by rw[Tw];omega)];rfl)]
  rfl
 ·rfl
theorem ym{R:List Int}(hl:R.length<=1000)(hR: ∀x∈R,0<=x/\x<1000000):fC R=some (lS R):=by
 unfold fC lS Ag;cases (R.length:Int)==0
 ·obtain⟨y,h1,h2⟩:=Gv.Od (show R.length<=1000000000 by omega) (B:=fun(i4:Int) (s4:(List ByteArray))=>((at' R i4).bind fun x8=>((ct x8).bind fun x9=>((at' s4 i4).bind fun _=>some (T0 s4 (Tv i4) x9))))) (D:=fun s=>s) (fun i s=>s.length=R.length/\s.take i=(R.take i).map cK) (fun i s hi hs=>by
   have hx:at' R (i:Int)=some R[i]:=CN hi;have h3:=hR R[i] (Uo hi);have hy:at' s (i:Int)=some (s[i]'(by omega)):=CN (by omega);refine⟨s.set i (cK R[i]),?_,by rw[List.length_set];exact hs.1,?_⟩
   ·simp only[hx,Ti,kZ R[i] (by omega) (by omega),hy,TG]
   ·rw[Vg,List.take_set_of_le (TA _),UW (by omega),hs.2,Vg,Tk hi,U9];rfl) (s:=UH R.length (Tj #[])) ⟨by simp,by simp⟩ (Q:=fun y=>y=R.map cK) (fun s hs=>by
   have h3:=hs.2;rw[T4 (by omega),T4 (TA _)]at h3;exact h3)
  have h:=lJ (k:=14) (Tj #[44]) (R.map cK) (fun x hx=>by
   obtain⟨z,hz,rfl⟩:=TF.1 hx;exact si hR z hz)
  rw[TM]at h;have h4:R.length*(14+(Tj #[44]).size)<=1000*15:=Vx hl (TA _);rw[cond_false,cond_false,Cs _ (by omega),Ti,h1,h2,Ti];unfold strings_Join;rw[if_pos ⟨by rw[TM];omega,by omega⟩];rfl
 ·rfl
theorem mo{L:List ByteArray}(hl:L.length<=1000){k:Nat}(hk:k<=100000)(hL: ∀x∈L,x.size<=k){c:ByteArray}(hc:c.size=1):strings_Join L c=some (ee L c):=by
 have h:=lJ c L hL;have h2:L.length*(k+c.size)<=1000*(100000+1):=Vx hl (by omega);unfold strings_Join;rw[if_pos ⟨by omega,by omega⟩]
section
variable {α A : Type}
theorem MX{L:List α}(hL:L.length<=9223372036854775807){B:Int->Unit->Option (Unit⊕(Unit⊕A))}(h: ∀(i:Nat) x,L[i]? =some x->B (i:Int) ()=some (.inl ())){K:Option A}:(de (L.length:Int) B (fun _=> .inl ()) 0 ()).bind (TC (fun _=>K) some)=K:=by
 rw[lN L hL B (fun _ _ _=>some (.inl ())) _ () (fun j x _ hx=>h j x hx)];have: ∀(M:List α) (k:Nat),mV (fun _ _ (_:Unit)=>some (.inl ())) (fun _=>(.inl ():Unit⊕A)) M k ()=some (.inl ()):=by
  intro M
  induction M with
  | nil=>intro k;rfl
  | cons x M ih=>intro k;unfold mV;exact ih (k+1)
 rw[this];rfl
theorem LB{L:List α}(hL:L.length<=1000000000)(F:α->α->Option Bool)(hF: ∀x∈L,F x x=some true):(bif((L.length:Int) !=(L.length:Int))then some false else(((de (L.length:Int) (fun(i3:Int) (_:Unit)=>((at' L i3).bind fun x7=>((at' L i3).bind fun x8=>((F x7 x8).bind fun x9=>(bif(!x9)then some (.inr (.inr false))else some (.inl ())))))) (fun(_:Unit)=> .inl ()) 0 ())).bind (TC (fun(_:Unit)=>some true) some)))=some true:=by
 rw[bne_self_eq_false,cond_false];exact MX (by omega) (fun i x hx=>by
  rw[aG,hx];simp only[Ti,hF x (Tm hx),TO,cond_false])
def kd(f:Int->α->α)(c:α->Nat):Int->List α->List α
 | _,[]=>[]
 | k,x::l=>f k x::kd f c (k+c x) l
def kn(c:α->Nat):List α->Nat
 | []=>0
 | x::l=>c x+kn c l
theorem Hh{c:α->Nat}{C:Nat}: ∀{L:List α},(∀x∈L,c x<=C)->kn c L<=C*L.length
 | [],_=>by simp[kn]
 | x::l,h=>by
  have h1:=h x (by simp);have h2:=Hh (L:=l) (fun y hy=>h y (by simp[hy]));rw[Ty,Nat.mul_add,Nat.mul_one];unfold kn;omega
theorem FR(f:Int->α->α)(c:α->Nat): ∀(k:Int) (L:List α),(kd f c k L).length=L.length
 | _,[]=>rfl
 | k,x::l=>by simp[kd,FR f c]
theorem DA{B:Int->Int×List α->Option (Int×List α)}(f:Int->α->α)(c:α->Nat)
  (h: ∀(k:Int) (i:Nat) (L:List α) x,1<=k->k+c x<=1000000000000000->L.length<=1000000000000000->L[i]? =some x->B (i:Int) (k,L)=some (k+c x,L.set i (f k x))):
  ∀(L P:List α) (k:Int),1<=k->k+kn c L<=1000000000000000->P.length+L.length<=1000000000000000->lW (fun(i:Int) (s:Int×List α)=>decide (i<(s.2.length:Int))) B (fun s=>(s.1,s.2)) (P.length:Int) (k,P++L)=some (k+kn c L,P++kd f c k L)
 | [],P,k,_,_,_=>by
  unfold lW;rw[bT,Up];simp[kd,kn]
 | x::l,P,k,h1,h2,h3=>by
  have e1:(P++x::l)[P.length]? =some x:=by simp
  have e2:(P++x::l).set P.length (f k x)=(P++[f k x])++l:=by simp
  have e5:(P.length:Int)<((P++x::l).length:Int):=by simp;omega
  have h2':k+(c x+kn c l:Nat)<=1000000000000000:=h2;unfold lW;rw[bT];dsimp only;rw[decide_eq_true e5,cond_true,h k P.length (P++x::l) x h1 (by omega) (by simp;simp at h3;omega) e1,e2,az (n:=(P.length:Int)+1) (by omega) (by simp at h3;omega)];have e3:(P.length:Int)+1=((P++[f k x]).length:Int):=by simp
  have e4:k+((kn c (x::l):Nat):Int)=k+c x+(kn c l:Nat):=by
   show k+((c x+kn c l:Nat):Int)=_;omega
  rw[e3];have:=DA f c h l (P++[f k x]) (k+c x) (by omega) (by omega) (by simp;simp at h3;omega);unfold lW at this;simp only[Ti];rw[this,e4];simp[kd]
theorem FT{B:Int->Int×List α->Option (Int×List α)}(f:Int->α->α)(c:α->Nat)(L:List α)(k:Int)(h1:1<=k)(h2:k+kn c L<=1000000000000000)(h3:L.length<=1000000000000000)
  (h: ∀(k:Int) (i:Nat) (L:List α) x,1<=k->k+c x<=1000000000000000->L.length<=1000000000000000->L[i]? =some x->B (i:Int) (k,L)=some (k+c x,L.set i (f k x))):
  (lW (fun(i:Int) (s:Int×List α)=>decide (i<(s.2.length:Int))) B (fun s=>(s.1,s.2)) 0 (k,L)).bind (fun(j1:Int×List α)=>some (j1.1,j1.2))=some (k+kn c L,kd f c k L):=by
 have:=DA f c h L [] k h1 h2 (by simpa using h3);rw[UC,UD,UD]at this;rw[show(0:Int)=((0:Nat):Int)from rfl,this];rfl
theorem FC{L:List α}(f:Int->α->α)(c:α->Nat)(hL:L.length<=1000000000000000){B:Int->Int->Option (Int⊕(Int⊕Int))}(k0:Int)(hk:1<=k0)(hN:k0+kn c L<=1000000000000000)(h: ∀(i:Nat) (k:Int) x,1<=k->k+c x<=1000000000000000->(kd f c k0 L)[i]? =some (f k x)->B (i:Int) k=some (.inl (k+c x))):
  (de ((kd f c k0 L).length:Int) B (fun s=> .inl s) 0 k0).bind (TC (fun j=>some j) some)=some (k0+kn c L):=by
 have key: ∀(M:List α) (P:List α) (j:Int),1<=j->j+kn c M<=1000000000000000->kd f c k0 L=P++kd f c j M->mV (fun(i:Nat) (_:α) (s:Int)=>B (i:Int) s) (fun s=>(.inl s:Int⊕Int)) (kd f c j M) P.length j=some (.inl (j+kn c M)):=by
  intro M
  induction M with
  | nil=>intro P j _ _ _;simp[kd,mV,kn]
  | cons x M ih=>
   intro P j h1 h2 h3;have h2':j+(c x+kn c M:Nat)<=1000000000000000:=h2;have e4:j+((kn c (x::M):Nat):Int)=j+c x+(kn c M:Nat):=by
    show j+((c x+kn c M:Nat):Int)=_;omega
   unfold kd mV;rw[h P.length j x h1 (by omega) (by rw[h3];simp[kd]),Ti,T6];have:=ih (P++[f j x]) (j+c x) (by omega) (by omega) (by rw[h3];simp[kd]);rw[Tz,U0]at this;rw[this,e4]
 rw[lN (kd f c k0 L) (by rw[FR];omega) B (fun i _ s=>B (i:Int) s) _ k0 (fun j x s hx=>rfl)];have:=key L [] k0 hk hN rfl;rw[UC]at this;rw[this];rfl
end
theorem I3{k:Int}(h0:1<=k)(h1:k<=1000000000000001): ∃t,bF k=some t:=by
 unfold bF;rw[decide_eq_false (show ¬k<=0 by omega),cond_false];obtain⟨r,e,hr⟩:=yD (body:=fun(s3:Int×ByteArray)=>(bif(decide (s3.1>0))then((bV (strOfNums ([(IntKind.wrap .u8 (ap (48+(Ug s3.1 10))))]:List Int)) s3.2).bind fun x5=>some (.inl ((ap (Wn s3.1 10)),x5)))else some (.inr s3.2)))
  (fun s=>0<=s.1/\s.1<=1000000000000001/\(s.2.size:Int)+s.1<=1000000000000001) (fun s=>s.1.toNat) (fun r:ByteArray=>(r.size:Int)<=1000000000000001) (fun s hs=>by
   obtain⟨h2,h3,h4⟩:=hs;by_cases hp:s.1>0
   ·left;rw[decide_eq_true hp,cond_true,Int.tdiv_eq_ediv_of_nonneg h2,az (n:=s.1/10) (by omega) (by omega)];unfold bV;rw[if_pos (by rw[strOfNums_size];simp;omega)];refine⟨_,rfl,?_⟩;dsimp only;rw[Tw,strOfNums_size];simp;omega
   ·right;rw[decide_eq_false hp,cond_false];exact⟨_,rfl,by omega⟩) (s:=(k,Tj #[])) ⟨by dsimp only;omega,h1,by show((0:Nat):Int)+k<=_;omega⟩
 rw[e,Ti];unfold bV;rw[if_pos (by show 1+r.size<=_;omega)];exact⟨_,rfl⟩
def mt(k:Int):ByteArray:=(bF k).getD (Tj #[])
theorem iK{k:Int}(h0:1<=k)(h1:k<=1000000000000001):bF k=some (mt k):=by
 obtain⟨t,h⟩:=I3 h0 h1;unfold mt;rw[h];rfl
noncomputable abbrev S3:Int->ByteArray->ByteArray:=fun k _=>mt k
theorem H0(x:Span):ql x x=some true:=by
 unfold ql;simp
structure cJ (x:Claim):Prop where
 s0:x.Source.size<=1048576
 s2:x.Place.size<=1048576
 s3:x.Value.size<=1048576
theorem Gw(x:Claim):mw x x=some true:=by
 unfold mw;simp[H0 x.Years]
def zS(k:Int)(_:Claim):Claim:=Claim.mk (mt k) (k+1) (mt (k+2)) (mt (k+3)) (Span.mk (k+4) (k+5)) (k+6)
abbrev mZ:Claim->Nat:=fun _=>7
theorem ES(L:List Claim)(k:Int)(h1:1<=k)(h2:k+kn mZ L<=1000000000000000)(h3:L.length<=1000000000000000):jj L k=some (k+kn mZ L,kd zS mZ k L):=by
 unfold jj;refine FT zS mZ L k h1 h2 h3 fun k i L x h1 h2 hl hx=> ?_;have h2':k+(7:Nat)<=1000000000000000:=h2;have hi:=(Tl.1 hx).1;have e1:ap (k+1)=k+1:=az (by omega) (by omega);have e2:ap (k+1+1)=k+2:=by rw[az (by omega) (by omega)];omega
 have e3:ap (k+2+1)=k+3:=by rw[az (by omega) (by omega)];omega
 have e4:ap (k+3+1)=k+4:=by rw[az (by omega) (by omega)];omega
 have e5:ap (k+4+1)=k+5:=by rw[az (by omega) (by omega)];omega
 have e6:ap (k+5+1)=k+6:=by rw[az (by omega) (by omega)];omega
 have e7:ap (k+6+1)=k+7:=by rw[az (by omega) (by omega)];omega
 have m0:bF k=some (mt k):=iK (by omega) (by omega);have m2:bF (k+2)=some (mt (k+2)):=iK (by omega) (by omega);have m3:bF (k+3)=some (mt (k+3)):=iK (by omega) (by omega);simp only[m0,m2,m3,e1,e2,e3,e4,e5,e6,e7,aG,hx,Ti,TG,List.set_set,UW hi];rfl
theorem Ef(L:List Claim)(hl:L.length<=1048576)(_: ∀x∈L,cJ x):kn mZ L<=10000000000000:=by
 have h1:=Hh (c:=mZ) (C:=7) (L:=L) (fun _ _=>TA _);omega
theorem ED(L:List Claim)(k:Int)(h1:1<=k)(h2:k+kn mZ L<=1000000000000000)(h3:L.length<=1000000000000000):ji (kd zS mZ k L) k=some (k+kn mZ L):=by
 unfold ji;refine FC zS mZ h3 k h1 h2 fun i k x h1 h2 hx=> ?_;have h2':k+(7:Nat)<=1000000000000000:=h2;have e1:ap (k+1)=k+1:=az (by omega) (by omega);have e2:ap (k+1+1)=k+2:=by rw[az (by omega) (by omega)];omega
 have e3:ap (k+2+1)=k+3:=by rw[az (by omega) (by omega)];omega
 have e4:ap (k+3+1)=k+4:=by rw[az (by omega) (by omega)];omega
 have e5:ap (k+4+1)=k+5:=by rw[az (by omega) (by omega)];omega
 have e6:ap (k+5+1)=k+6:=by rw[az (by omega) (by omega)];omega
 have e7:ap (k+6+1)=k+7:=by rw[az (by omega) (by omega)];omega
 have m0:bF k=some (mt k):=iK (by omega) (by omega);have m2:bF (k+2)=some (mt (k+2)):=iK (by omega) (by omega);have m3:bF (k+3)=some (mt (k+3)):=iK (by omega) (by omega);simp only[m0,m2,m3,e1,e2,e3,e4,e5,e6,e7,aG,hx,Ti];simp only[zS,bne_self_eq_false,cond_false,beq_self_eq_true,TO]
 try rfl
theorem Ex(L:List Claim)(hL:L.length<=1000000000):nA L L=some true:=by
 unfold nA;exact LB hL mw (fun x _=>Gw x)
theorem Gx(x:aF):oS x x=some true:=by
 unfold oS;simp
structure uP (x:Site):Prop where
 s0:x.Code.size<=1048576
theorem HZ(x:Site):nW x x=some true:=by
 unfold nW;simp[Gx x.At]
def Fy(k:Int)(_:Site):Site:=Site.mk (mt k) (aF.mk (k+1) (k+2))
abbrev sO:Site->Nat:=fun _=>3
theorem GW(L:List Site)(k:Int)(h1:1<=k)(h2:k+kn sO L<=1000000000000000)(h3:L.length<=1000000000000000):mz L k=some (k+kn sO L,kd Fy sO k L):=by
 unfold mz;refine FT Fy sO L k h1 h2 h3 fun k i L x h1 h2 hl hx=> ?_;have h2':k+(3:Nat)<=1000000000000000:=h2;have hi:=(Tl.1 hx).1;have e1:ap (k+1)=k+1:=az (by omega) (by omega);have e2:ap (k+1+1)=k+2:=by rw[az (by omega) (by omega)];omega
 have e3:ap (k+2+1)=k+3:=by rw[az (by omega) (by omega)];omega
 have m0:bF k=some (mt k):=iK (by omega) (by omega);simp only[m0,e1,e2,e3,aG,hx,Ti,TG,List.set_set,UW hi];rfl
theorem Fi(L:List Site)(hl:L.length<=1048576)(_: ∀x∈L,uP x):kn sO L<=10000000000000:=by
 have h1:=Hh (c:=sO) (C:=3) (L:=L) (fun _ _=>TA _);omega
theorem GH(L:List Site)(k:Int)(h1:1<=k)(h2:k+kn sO L<=1000000000000000)(h3:L.length<=1000000000000000):mx (kd Fy sO k L) k=some (k+kn sO L):=by
 unfold mx;refine FC Fy sO h3 k h1 h2 fun i k x h1 h2 hx=> ?_;have h2':k+(3:Nat)<=1000000000000000:=h2;have e1:ap (k+1)=k+1:=az (by omega) (by omega);have e2:ap (k+1+1)=k+2:=by rw[az (by omega) (by omega)];omega
 have e3:ap (k+2+1)=k+3:=by rw[az (by omega) (by omega)];omega
 have m0:bF k=some (mt k):=iK (by omega) (by omega);simp only[m0,e1,e2,e3,aG,hx,Ti];simp only[Fy,bne_self_eq_false,cond_false,beq_self_eq_true,TO]
 try rfl
theorem Gy(L:List Site)(hL:L.length<=1000000000):oT L L=some true:=by
 unfold oT;exact LB hL nW (fun x _=>HZ x)
structure AG (x:bg):Prop where
 s0:x.Claims.length<=1048576
 s1:x.Sites.length<=1048576
 i0: ∀y∈x.Claims,cJ y
 i1: ∀y∈x.Sites,uP y
theorem HX(x:bg)(h:AG x):nV x x=some true:=by
 unfold nV;simp[Ex x.Claims (by have:=h.s0;omega),Gy x.Sites (by have:=h.s1;omega)]
theorem fT{a b:ByteArray}:(a.toList==b.toList)=true↔a=b:=by
 rw[beq_iff_eq,toList_eq,toList_eq];refine⟨fun h=> ?_,fun h=>by rw[h]⟩;obtain⟨a⟩:=a;obtain⟨b⟩:=b;have h:a.toList=b.toList:=h;rw[VH.1 h]
theorem xS{a:ByteArray}(h:1<=a.size):(a.toList==(Tj #[]).toList)=false:=by
 rw[TS];intro hc;rw[fT]at hc;rw[hc]at h;simp[ByteArray.size]at h
theorem yf{α:Type}(p:α->Bool): ∀L:List α,(iG p L= -1/\L.find? p=none)\/ ∃(i:Nat) (x:α),iG p L=i/\L[i]? =some x/\L.find? p=some x
 | []=> .inl ⟨rfl,rfl⟩
 | x::l=>by
  unfold iG;cases hp:p x
  ·rw[List.find?_cons_of_neg (by rw[hp];simp)];rcases yf p l with⟨h1,h2⟩ | ⟨i,y,h1,h2,h3⟩
   ·rw[h1];exact .inl ⟨rfl,h2⟩
   ·have hd:decide ((i:Int)<0)=false:=decide_eq_false (by omega);simp only[h1,cond_false,hd];exact .inr ⟨i+1,y,by simp,by simpa using h2,h3⟩
  ·rw[List.find?_cons_of_pos hp];exact .inr ⟨0,x,rfl,rfl,rfl⟩
theorem tN{α A:Type}(p:α->Bool)(f:α->A): ∀(L:List α) (k:Nat),cr (fun _ x=>p x) (fun _ x=>f x) L k=(L.find? p).map f
 | [],_=>rfl
 | x::l,k=>by
  unfold cr;cases hp:p x
  ·rw[List.find?_cons_of_neg (by rw[hp];simp)];exact tN p f l (k+1)
  ·rw[List.find?_cons_of_pos hp];rfl
def oG(s:Span):Bool:=inB s.From (-3000) 3000&&(inB s.To (-3000) 3000&&decide (s.From<=s.To))
theorem ux(s:Span):nQ s=some (oG s):=by
 unfold nQ lQ oG;simp only[gC,Ti];cases inB s.From (-3000) 3000<;>cases inB s.To (-3000) 3000<;>rfl
theorem uW(s:Span):n9 s=some (oG s):=by
 unfold n9 kF oG;simp only[kc,Ti];cases inB s.From (-3000) 3000<;>cases inB s.To (-3000) 3000<;>rfl
def JO(c:Claim):Bool:=bif c.Kind==0 then lA c.Value else bif c.Kind==1 then df c.Value&& !(c.Value.toList==c.Place.toList)else bif c.Kind==2 then c.Value.toList==(Tj #[]).toList else bif c.Kind==3 then c.Value.toList==(Tj #[]).toList else false
theorem Kx(c:Claim)(h:c.Value.size<=1048576):jD c=some (JO c):=by
 unfold jD JO;rw[EI _ (by omega),qj _ (by unfold maxLen;omega)];generalize df c.Value=w;generalize lA c.Value=f;generalize (c.Value.toList==c.Place.toList)=e;generalize (c.Value.toList==(Tj #[]).toList)=z;cases c.Kind==0<;>cases c.Kind==1<;>cases c.Kind==2<;>cases c.Kind==3<;>cases w<;>rfl
def cB(c:Claim):Bool:=df c.Source&&(df c.Place&&(JO c&&(oG c.Years&&inB c.Weight 1 100)))
theorem r6(c:Claim)(h:cJ c):mc c=some (cB c):=by
 have h0:=h.s0;have h2:=h.s2;unfold mc cB;rw[nj _ (by simp) (fun x hx=>by
  simp only[Tx,UA,or_false]at hx;unfold maxLen;rcases hx with rfl | rfl<;>omega),Kx c h.s3,ux,gC]
 simp only[Vw,List.all_nil];cases df c.Source<;>cases df c.Place<;>cases JO c<;>cases oG c.Years<;>rfl
theorem sE(c:Claim)(h:cJ c):mF c=some (cB c):=by
 have h0:=h.s0;have h2:=h.s2;have h3:=h.s3;unfold mF cB JO;rw[iM c.Source (by unfold maxLen;omega),iM c.Place (by unfold maxLen;omega),iM c.Value (by unfold maxLen;omega),E3 _ (by omega),uW,kc];generalize df c.Value=w;generalize lA c.Value=f;generalize (c.Value.toList==c.Place.toList)=e;generalize (c.Value.toList==(Tj #[]).toList)=z;generalize inB c.Weight 1 100=g;generalize oG c.Years=s;cases df c.Source
 ·rfl
 cases df c.Place
 ·rfl
 cases s<;>cases g
 ·simp
 ·simp
 ·simp
 cases c.Kind==0<;>cases c.Kind==1<;>cases c.Kind==2<;>cases c.Kind==3<;>cases w<;>cases f<;>cases e<;>cases z<;>rfl
def bh(L:List Claim):Bool:=decide (L.length<=12)&&L.all cB
theorem Rj(L:List Claim):decide ((L.length:Int)<=12)=decide (L.length<=12):=by
 by_cases h:L.length<=12
 ·rw[decide_eq_true h,decide_eq_true (by omega)]
 ·rw[decide_eq_false h,decide_eq_false (by omega)]
theorem fY{L:List Claim}(hL:L.length<=1048576)(h: ∀x∈L,cJ x):dN L=some (bh L):=by
 unfold dN cH cS nh bh;rw[gg (by omega) (fun c=> !cB c) (fun i x hx=>by
  rw[aG,hx,Ti,r6 x (h x (Tm hx))];rfl)]
 simp only[Ti,kW,Rj,<-VA,Bool.not_not];cases decide (L.length<=12)<;>rfl
theorem ki{L:List Claim}(hL:L.length<=1048576)(h: ∀x∈L,cJ x):eQ L=some (bh L):=by
 unfold eQ bh;rw[iv (by omega) (fun c=> !cB c) false (fun i x hx=>by
  rw[aG,hx,Ti,sE x (h x (Tm hx))];rfl),Rj,<-VA]
 cases L.all cB<;>simp
def q9(a b:Claim):Bool:=(decide (a.Years.From<=b.Years.To)&&decide (b.Years.From<=a.Years.To))&&(((a.Kind==1)&&((b.Kind==3)&&(a.Value.toList==b.Place.toList))) || ((b.Kind==1)&&((a.Kind==3)&&(b.Value.toList==a.Place.toList))) || ((a.Place.toList==b.Place.toList)&&(bif a.Kind==b.Kind then((a.Kind==0) || (a.Kind==1))&& !(a.Value.toList==b.Value.toList)else(a.Kind==3) || (b.Kind==3))))
theorem O9(a b:Claim):eF a b=some (q9 a b):=by
 unfold eF oW q9;simp only[Ti];generalize (decide (a.Years.From<=b.Years.To)&&decide (b.Years.From<=a.Years.To))=m;generalize (a.Value.toList==b.Place.toList)=x;generalize (b.Value.toList==a.Place.toList)=y;generalize (a.Place.toList==b.Place.toList)=z;generalize (a.Value.toList==b.Value.toList)=v;generalize (a.Kind==b.Kind)=k;generalize (a.Kind==1)=a1;generalize (a.Kind==0)=a0;generalize (a.Kind==3)=a3;generalize (b.Kind==1)=b1;generalize (b.Kind==3)=b3;cases m
 ·rfl
 cases z<;>cases k<;>cases a1<;>cases b1<;>cases a3<;>cases b3<;>cases x<;>cases y<;>simp
theorem Og(a b:Claim):dO a b=some (q9 a b):=by
 unfold dO lv eO q9;simp only[Ti];rw[BEq.comm (a:=b.Place.toList) (b:=a.Value.toList),BEq.comm (a:=a.Place.toList) (b:=b.Value.toList)];generalize (decide (a.Years.From<=b.Years.To)&&decide (b.Years.From<=a.Years.To))=m;generalize (a.Value.toList==b.Place.toList)=x;generalize (b.Value.toList==a.Place.toList)=y;generalize (a.Place.toList==b.Place.toList)=z;generalize (a.Value.toList==b.Value.toList)=v;cases m
 ·rfl
 by_cases hab:a.Kind=b.Kind
 ·rw[hab,beq_self_eq_true];generalize (b.Kind==1)=b1;generalize (b.Kind==0)=b0;generalize (b.Kind==3)=b3;cases z<;>cases b1<;>cases b3<;>cases x<;>cases y<;>cases b0<;>simp
 ·rw[beq_eq_false_iff_ne.2 hab];have h3:((a.Kind==3)&&(b.Kind==3))=false:=by
   rw[TS];intro h;rw[Tp,beq_iff_eq,beq_iff_eq]at h;exact hab (by rw[h.1,h.2])
  revert h3;generalize (a.Kind==1)=a1;generalize (a.Kind==3)=a3;generalize (b.Kind==1)=b1;generalize (b.Kind==3)=b3;cases z<;>cases a1<;>cases b1<;>cases a3<;>cases b3<;>cases x<;>cases y<;>simp
def p8(k:Int)(p:ByteArray)(y:Int)(c:Claim):Bool:=(c.Kind==k)&&((c.Place.toList==p.toList)&&inB y c.Years.From c.Years.To)
def tel(L:List Claim)(k:Int)(p:ByteArray)(y:Int):Option ByteArray:=(L.find? (p8 k p y)).map Claim.Value
def AV(o:Option ByteArray):ByteArray×Bool:=match o with | some v=>(v,true) | none=>(Tj #[],false)
theorem GO{L:List Claim}(hL:L.length<=1048576)(k:Int)(p:ByteArray)(y:Int):vC L k p y=some (AV (tel L k p y)):=by
 unfold vC dy uz gZ;rw[gg (by omega) (p8 k p y) (fun i x hx=>by
  rw[aG,hx,Ti,gC];unfold p8;cases x.Kind==k<;>cases x.Place.toList==p.toList<;>rfl)]
 unfold tel;rcases yf (p8 k p y) L with⟨h1,h2⟩ | ⟨i,x,h1,h2,h3⟩
 ·rw[h1,h2];rfl
 ·rw[h1,h3,Ti,decide_eq_false (by omega),cond_false,aG,h2];rfl
theorem mq{L:List Claim}(hL:L.length<=1048576)(p:ByteArray)(y:Int):fO L p y=some (AV (tel L 1 p y)):=by
 unfold fO cI lI gZ;rw[gg (by omega) (p8 1 p y) (fun i x hx=>by
  rw[aG,hx,Ti,gC];unfold p8;cases x.Kind==1<;>cases x.Place.toList==p.toList<;>rfl)]
 unfold tel;rcases yf (p8 1 p y) L with⟨h1,h2⟩ | ⟨i,x,h1,h2,h3⟩
 ·rw[h1,h2];rfl
 ·rw[h1,h3,Ti,decide_eq_false (by omega),cond_false,aG,h2];rfl
theorem pV{L:List Claim}(hL:L.length<=1048576)(p:ByteArray)(y:Int):iD L p y=some (AV (tel L 1 p y)).1:=by
 unfold iD;rw[gf (by omega) (fun _=>p8 1 p y) (fun _ x=>x.Value) (fun i x hx=>by
  rw[aG,hx,Ti,kc];unfold p8;cases x.Kind==1<;>cases x.Place.toList==p.toList<;>rfl),tN (p8 1 p y) Claim.Value]
 unfold tel;cases L.find? (p8 1 p y)<;>rfl
theorem He{L:List Claim}(hL:L.length<=1048576)(p:ByteArray)(y:Int):o4 L p y=some (AV (tel L 0 p y)).1:=by
 unfold o4;rw[gf (by omega) (fun _=>p8 0 p y) (fun _ x=>x.Value) (fun i x hx=>by
  rw[aG,hx,Ti,kc];unfold p8;cases x.Kind==0<;>cases x.Place.toList==p.toList<;>rfl),tN (p8 0 p y) Claim.Value]
 unfold tel;cases L.find? (p8 0 p y)<;>rfl
theorem zF{L:List Claim}(h: ∀x∈L,cB x=true){k:Int}(hk:k=0\/k=1){p:ByteArray}{y:Int}{v:ByteArray}(hv:tel L k p y=some v):1<=v.size/\v∈L.map Claim.Value:=by
 unfold tel at hv;rw[Tn]at hv;obtain⟨c,hc,rfl⟩:=hv;have hm:=Vd hc;refine⟨?_,TF.2 ⟨c,hm,rfl⟩⟩;have hk':=Wp hc;unfold p8 at hk';rw[Tp,beq_iff_eq]at hk';have hcl:=h c hm;unfold cB at hcl;rw[Tp,Tp,Tp]at hcl;have hval:=hcl.2.2.1;unfold JO at hval;rcases hk with rfl | rfl
 ·rw[hk'.1]at hval;exact G0 hval
 ·rw[hk'.1]at hval;simp only[Int.reduceBEq,cond_false,cond_true,Tp]at hval;exact(sM hval.1).1
theorem Lu{L:List ByteArray}(hL:L.length<=1000000000)(v:ByteArray):bt L v=some (L.any fun x=>v.toList==x.toList):=by
 unfold bt dh;rw[gg (by omega) (fun x=>v.toList==x.toList) (fun i x hx=>by rw[aG,hx];rfl),Ti,kW]
def w9:List ByteArray:=[(Tj #[97,116]),(Tj #[110,101,97,114]),(Tj #[111,102]),(Tj #[98,101,116,119,101,101,110]),(Tj #[97,110,100]),(Tj #[109,105,108,101]),(Tj #[109,105,108,101,115]),(Tj #[108,101,97,103,117,101]),(Tj #[108,101,97,103,117,101,115])]
theorem RS(s:ByteArray):mn s=some ((w9.any fun x=>s.toList==x.toList) || da.any fun x=>s.toList==x.toList):=by
 unfold mn;have e:bt ([(Tj #[97,116]),(Tj #[110,101,97,114]),(Tj #[111,102]),(Tj #[98,101,116,119,101,101,110]),(Tj #[97,110,100]),(Tj #[109,105,108,101]),(Tj #[109,105,108,101,115]),(Tj #[108,101,97,103,117,101]),(Tj #[108,101,97,103,117,101,115])]:List ByteArray) s=some (w9.any fun x=>s.toList==x.toList):=Lu (L:=w9) (by decide) s;rw[e,Lu (L:=da) (by decide) s];cases (w9.any fun x=>s.toList==x.toList)<;>rfl
def jO(s:ByteArray):Bool:=df s&& !((w9.any fun x=>s.toList==x.toList) || da.any fun x=>s.toList==x.toList)
theorem zY(s:ByteArray)(hs:s.size<=maxLen):lP s=some (jO s):=by
 unfold lP jO;rw[qj s hs,RS];cases df s<;>rfl
theorem J9(s:ByteArray):fb s=some (iG (fun x:ByteArray=>x.toList==s.toList) da):=by
 unfold fb;exact gg (L:=da) (by decide) (fun x:ByteArray=>x.toList==s.toList) (fun i x hx=>by
  have e:fu (i:Int)=some x:=by
   have h:at' da (i:Int)=some x:=by rw[aG,hx]
   show((at' da (i:Int)).bind fun x1=>some x1)=some x;rw[h];rfl
  rw[e];rfl)
theorem AK(s:ByteArray)(hs:s.size<=maxLen):kK s=some (jO s):=by
 unfold kK jO;rw[iM s hs,J9];have hd:decide (iG (fun x:ByteArray=>x.toList==s.toList) da<0)= !(da.any fun x=>s.toList==x.toList):=by
  rw[ri];congr 1;congr 1;funext x;exact BEq.comm
 simp only[Ti,hd,w9,List.any_cons,List.any_nil,Bool.or_false];generalize (da.any fun x=>s.toList==x.toList)=g;generalize (s.toList==(Tj #[97,116]).toList)=b1;generalize (s.toList==(Tj #[110,101,97,114]).toList)=b2;generalize (s.toList==(Tj #[111,102]).toList)=b3;generalize (s.toList==(Tj #[98,101,116,119,101,101,110]).toList)=b4;generalize (s.toList==(Tj #[97,110,100]).toList)=b5;generalize (s.toList==(Tj #[109,105,108,101]).toList)=b6;generalize (s.toList==(Tj #[109,105,108,101,115]).toList)=b7;generalize (s.toList==(Tj #[108,101,97,103,117,101]).toList)=b8;generalize (s.toList==(Tj #[108,101,97,103,117,101,115]).toList)=b9;generalize df s=w;cases b1
 ·cases b2
  ·cases b3
   ·cases b4
    ·cases b5
     ·cases b6
      ·cases b7
       ·cases b8
        ·cases b9<;>cases w<;>cases g<;>rfl
        ·cases w<;>rfl
       ·cases w<;>rfl
      ·cases w<;>rfl
     ·cases w<;>rfl
    ·cases w<;>rfl
   ·cases w<;>rfl
  ·cases w<;>rfl
 ·cases w<;>rfl
def jw(p:aF):Bool:=inB p.X (-1000) 1000&&inB p.Y (-1000) 1000
theorem yp(p:aF):iU p=some (jw p):=by
 unfold iU jw;rw[gC,gC];cases inB p.X (-1000) 1000<;>rfl
theorem CB(p:aF):kD p=some (jw p):=by
 unfold kD jw;rw[kc,kc];cases inB p.X (-1000) 1000<;>rfl
def nZ(L:List Site)(i:Nat)(x:Site):Bool:= !jO x.Code || (!jw x.At || (decide ((i:Int)>0)&&match L[i - 1]? with
 | some y=> !(Op.bytesLess y.Code.toList x.Code.toList)
 | none=>false))
def mE(L:List Site):Option Bool:=match cr (nZ L) (fun _ _=>false) L 0 with
 | some r=>some r
 | none=>some (decide ((L.length:Int)<=10))
theorem sc{L:List Site}(hL:L.length<=1048576)(h: ∀x∈L,uP x):gY L=mE L:=by
 unfold gY;rw[gf (by omega) (nZ L) (fun _ _=>false) (fun i x hx=>by
  have hi:i<L.length:=(Tl.1 hx).1;have hs:=(h x (Tm hx)).s0;rw[aG,hx,Ti,zY x.Code (by unfold maxLen;omega),yp];unfold nZ;by_cases h0:(i:Int)>0
  ·have hy:L[i - 1]? =some (L[i - 1]'(by omega)):=Tk _;have e:at' L (ap ((i:Int)- 1))=some (L[i - 1]'(by omega)):=by
    rw[az (by omega) (by omega),show(i:Int)- 1=((i - 1:Nat):Int) by omega,aG,hy]
   rw[decide_eq_true h0,e,hy];cases jO x.Code<;>cases jw x.At<;>rfl
  ·rw[decide_eq_false h0];cases jO x.Code<;>cases jw x.At<;>rfl)]
 unfold mE;cases cr (nZ L) (fun _ _=>false) L 0<;>rfl
theorem xF{L:List Site}(hL:L.length<=1048576)(h: ∀x∈L,uP x):fF L=mE L:=by
 unfold fF;rw[gf (by omega) (nZ L) (fun _ _=>false) (fun i x hx=>by
  have hi:i<L.length:=(Tl.1 hx).1;have hs:=(h x (Tm hx)).s0;rw[aG,hx,Ti,AK x.Code (by unfold maxLen;omega)];simp only[Ti,CB];unfold nZ;by_cases h0:(i:Int)>0
  ·have hy:L[i - 1]? =some (L[i - 1]'(by omega)):=Tk _;have e:at' L (ap ((i:Int)- 1))=some (L[i - 1]'(by omega)):=by
    rw[az (by omega) (by omega),show(i:Int)- 1=((i - 1:Nat):Int) by omega,aG,hy]
   rw[decide_eq_true h0,e,hy];cases jO x.Code<;>cases jw x.At<;>rfl
  ·rw[decide_eq_false h0];cases jO x.Code<;>cases jw x.At<;>rfl)]
 unfold mE;cases cr (nZ L) (fun _ _=>false) L 0<;>rfl
theorem xH{c b:UInt8}: ∀{l:List UInt8},b∈l->b=c\/ ∃p∈cn c l,b∈p
 | [],h=>by simp at h
 | x::l,h=>by
  unfold cn;by_cases hx:x=c
  ·rw[if_pos hx];rcases Tx.1 h with h | h
   ·exact .inl (h.trans hx)
   ·rcases xH h with h2 | ⟨p,hp,hb⟩
    ·exact .inl h2
    ·exact .inr ⟨p,by simp[hp],hb⟩
  ·rw[if_neg hx];cases hs:cn c l with
   | nil=>exact absurd hs (lU c l)
   | cons q r=>
    rcases Tx.1 h with h | h
    ·exact .inr ⟨x::q,by simp,by simp[h]⟩
    ·rcases xH h with h2 | ⟨p,hp,hb⟩
     ·exact .inl h2
     ·rw[hs]at hp;rcases Tx.1 hp with rfl | hp
      ·exact .inr ⟨x::p,by simp,by simp[hb]⟩
      ·exact .inr ⟨p,by simp[hp],hb⟩
theorem rL{s:ByteArray}(h:df s=true){c:UInt8}(hc:small c=false):c∉s.data.toList:=fun hm=>by
 unfold df at h;rw[Tp]at h;have:=Tt.1 h.2 c hm;rw[hc]at this;cases this
theorem Jd{s:ByteArray}(h:lA s=true){c:UInt8}(hc:small c=false)(h32:c≠32):c∉s.data.toList:=fun hm=>by
 unfold lA at h;rw[Tp]at h;rcases xH (c:=32) hm with h1 | ⟨p,hp,hb⟩
 ·exact h32 h1
 ·refine rL (Tt.1 h.2 ⟨p.toArray⟩ (TF.2 ⟨p,hp,rfl⟩)) hc ?_;simpa using hb
theorem pG{c:UInt8}(h:c≠45)(hd:By c=false)(v:Int):c∉(cK v).data.toList:=by
 rw[cL];exact ru h hd v
theorem qB{c:UInt8}{L:List ByteArray}(hL:L≠[])(h: ∀x∈L,c∉x.data.toList):bn (ee L ⟨#[c]⟩) c=L:=by
 unfold bn;have e:(ee L ⟨#[c]⟩).data.toList=Lib.join (L.map (·.data.toList)) [c]:=nk L ⟨#[c]⟩;rw[e,Ec (by simpa using hL) (fun x hx=>by
  obtain⟨y,hy,rfl⟩:=TF.1 hx;exact h y hy),List.map_map]
 refine(List.map_congr_left fun x _=> ?_).trans (List.map_id _);rfl
theorem Mr{s sep x y:List UInt8}{b:Bool}(h:Lib.cut s sep=(x,y,b))(hy:y≠[]):s=x++sep++y:=by
 unfold Lib.cut at h;split at h
 ·rename_i h0;injection h with h1 h;injection h with h2 h;rcases Lib.index_spec s sep with⟨h3,_⟩ | ⟨i,h3,h4,h5,_⟩
  ·omega
  ·rw[h3,TG]at h1 h2;have h6:sep<+:s.drop i:=List.isPrefixOf_iff_prefix.1 h5;obtain⟨t,ht⟩:=h6;have h7:s=s.take i++(sep++t):=by rw[ht,V8]
   have h8:t=y:=by
    rw[<-h2,<-WB,<-ht,List.drop_left]
   rw[<-h1,<-h8,TX];exact h7
 ·injection h with h1 h;injection h with h2 h;exact absurd h2.symm hy
theorem dU(s:ByteArray)(hs:s.size<=1048576):bU s=some (gO s):=by
 unfold bU;rw[if_pos (by omega)]
theorem bO{v:Int}(h0: -10000000000000<v)(h1:v<10000000000000):(cK v).size<=14:=by
 rw[vO];exact Dq h0 h1
def pI(p:aF):ByteArray:=ee [cK p.X,cK p.Y] (Tj #[58])
theorem G1{p:aF}(h:jw p=true):(-1000<=p.X/\p.X<=1000)/\ -1000<=p.Y/\p.Y<=1000:=by
 unfold jw at h;rw[Tp,io,io]at h;exact h
theorem Bj(p:aF):(pI p).data.toList=itoa p.X++[58]++itoa p.Y:=by
 unfold pI;rw[fe,gz,et,et,cL,cL]
theorem qz{p:aF}(h:jw p=true):kH p=some (pI p):=by
 have h1:=G1 h;have z1:=bO (v:=p.X) (by omega) (by omega);have z2:=bO (v:=p.Y) (by omega) (by omega);have z3:(Tj #[58]).size=1:=rfl;unfold kH pI;rw[og (by omega) (by omega),Ti,cq (by omega),Ti,og (by omega) (by omega),Ti,cq (by rw[Tw];omega),fe,gz];rfl
theorem EL{s:ByteArray}{p:aF}(h:jw p=true)(hs:s=pI p)(hz:s.size<=1048576):dR s=some (p,0):=by
 have h1:=G1 h;have hcut:Lib.cut s.data.toList [58]=(itoa p.X,itoa p.Y,true):=by
  rw[hs,Bj];exact NZ _ (ru (by decide) (by decide) _)
 have hC:=ra s (Tj #[58]);have e1:(tg s (Tj #[58])).1.data.toList=itoa p.X:=by
  show((Lib.cut s.data.toList [58]).1.toArray).toList=_;rw[hcut]
 have e2:(tg s (Tj #[58])).2.1.data.toList=itoa p.Y:=by
  show((Lib.cut s.data.toList [58]).2.1.toArray).toList=_;rw[hcut]
 unfold dR jY strings_Cut;rw[decide_eq_true (by omega),cond_true,Ti,dU _ (by omega),Ti,dU _ (by omega),Ti,kB e1 (by omega) (by omega),kB e2 (by omega) (by omega)];simp only[cond_true,yp,Ti];have:jw ⟨p.X,p.Y⟩=true:=h;rw[this];rfl
theorem Ff{s:ByteArray}{p:aF}(h:jw p=true)(hs:s=pI p)(hz:s.size<=1048576):dY s=some (p,0):=by
 have h1:=G1 h;have hw:bn s 58=[cK p.X,cK p.Y]:=by
  rw[hs];exact qB (by simp) (by
   intro x hx;simp only[Tx,UA,or_false]at hx;rcases hx with rfl | rfl
   ·exact pG (by decide) (by decide) _
   ·exact pG (by decide) (by decide) _)
 have a0:at' [cK p.X,cK p.Y] 0=some (cK p.X):=rfl;have a1:at' [cK p.X,cK p.Y] 1=some (cK p.Y):=rfl;have z1:=bO (v:=p.X) (by omega) (by omega);have z2:=bO (v:=p.Y) (by omega) (by omega);have hsp:bR s 58=some (bn s 58):=dJ s 58 (by omega);have hp:(aF.mk p.X p.Y)=p:=rfl;unfold dY;rw[hsp,hw,Ti];simp only[Ty,UC,a0,a1,Ti,qt (s:=cK p.X) (by omega) (cL _) (show -10000000000000<p.X by omega) (by omega),qt (s:=cK p.Y) (by omega) (cL _) (show -10000000000000<p.Y by omega) (by omega),hp,CB,h,qz h,<-hs];simp
theorem BL(s:ByteArray)(hz:s.size<=1048576):dR s=some (⟨0,0⟩,6)\/ ∃p,dR s=some (p,0)/\jw p=true/\s=pI p:=by
 have hC:=ra s (Tj #[58]);unfold dR jY strings_Cut;rw[decide_eq_true (by omega),cond_true,Ti,dU _ (by omega),Ti,dU _ (by omega),Ti];cases h1:(gO (tg s (Tj #[58])).1).2
 ·exact .inl rfl
 ·cases h2:(gO (tg s (Tj #[58])).2.1).2
  ·exact .inl rfl
  ·simp only[cond_true,yp,Ti];cases h3:jw ⟨(gO (tg s (Tj #[58])).1).1,(gO (tg s (Tj #[58])).2.1).1⟩
   ·exact .inl rfl
   ·refine .inr ⟨_,rfl,h3,mY ?_⟩;have e1:=pf h1;have e2:=pf h2;have e3:(Lib.cut s.data.toList [58]).1=itoa (gO (tg s (Tj #[58])).1).1:=by
     rw[e1];show _=((Lib.cut s.data.toList [58]).1.toArray).toList;simp
    have e4:(Lib.cut s.data.toList [58]).2.1=itoa (gO (tg s (Tj #[58])).2.1).1:=by
     rw[e2];show _=((Lib.cut s.data.toList [58]).2.1.toArray).toList;simp
    have:=Mr (s:=s.data.toList) (sep:=[58]) (x:=(Lib.cut s.data.toList [58]).1) (y:=(Lib.cut s.data.toList [58]).2.1) (b:=(Lib.cut s.data.toList [58]).2.2) rfl (by rw[e4];exact GQ _);rw[Bj,<-e3,<-e4];exact this
theorem Py{α:Type}{L:List α}(h:L.length=2): ∃a b,L=[a,b]:=by
 match L,h with
 | [a,b],_=>exact⟨a,b,rfl⟩
theorem Ce(s:ByteArray)(hz:s.size<=1048576):dY s=some (⟨0,0⟩,6)\/ ∃p,dY s=some (p,0)/\jw p=true/\s=pI p:=by
 have hsp:bR s 58=some (bn s 58):=dJ s 58 (by omega);have hws: ∀x∈bn s 58,x.size<=s.size:=fun x hx=>fK hx;unfold dY;rw[hsp,Ti];generalize bn s 58=W at hws;by_cases hl:W.length=2
 ·obtain⟨a,b,rfl⟩:=Py hl;have ha:=hws a (by simp);have hb:=hws b (by simp);obtain⟨x,f,x1,_,_⟩:=ph a (by omega);obtain⟨y,g,y1,_,_⟩:=ph b (by omega);have a0:at' [a,b] 0=some a:=rfl;have a1:at' [a,b] 1=some b:=rfl;simp only[Ty,UC,a0,a1,Ti,x1,y1,CB];cases f
  ·exact .inl (by simp)
  ·cases g
   ·exact .inl (by simp)
   ·cases h3:jw ⟨x,y⟩
    ·exact .inl (by simp)
    ·rw[qz h3];cases h4:((pI ⟨x,y⟩).toList==s.toList)
     ·exact .inl (by simp[h4])
     ·refine .inr ⟨⟨x,y⟩,by simp[h4],h3,(fT.1 h4).symm⟩
 ·have:((W.length:Int) !=2)=true:=by
   rw[bne_iff_ne];omega
  rw[this];exact .inl rfl
theorem y3(s:ByteArray)(hz:s.size<=1048576): ∃p e,dR s=some (p,e)/\dY s=some (p,e)/\(e=6\/e=0/\jw p=true):=by
 rcases BL s hz with h | ⟨p,h1,h2,h3⟩
 ·rcases Ce s hz with k | ⟨p,k1,k2,k3⟩
  ·exact⟨_,_,h,k,.inl rfl⟩
  ·rw[EL k2 k3 hz]at h;cases h
 ·exact⟨p,0,h1,Ff h2 h3 hz,.inr ⟨rfl,h2⟩⟩
def iL(s:Span):ByteArray:=cK s.From++Tj #[46,46]++cK s.To
theorem uT{s:Span}(h:oG s=true):(-3000<=s.From/\s.From<=3000)/\ -3000<=s.To/\s.To<=3000:=by
 unfold oG at h;rw[Tp,Tp,io,io]at h;exact⟨h.1,h.2.1⟩
theorem xC(s:Span):(iL s).data.toList=itoa s.From++[46,46]++itoa s.To:=by
 unfold iL;rw[et,et,cL,cL]
theorem sx{s:Span}(h:oG s=true):(iL s).size<=30:=by
 have h1:=uT h;have z1:=bO (v:=s.From) (by omega) (by omega);have z2:=bO (v:=s.To) (by omega) (by omega);have z3:(Tj #[46,46]).size=2:=rfl;unfold iL;rw[Tw,Tw];omega
theorem Ky{s:Span}(h:oG s=true):nz s=some (iL s):=by
 have h1:=uT h;have z1:=bO (v:=s.From) (by omega) (by omega);have z2:=bO (v:=s.To) (by omega) (by omega);have z3:(Tj #[46,46]).size=2:=rfl;unfold nz iL;rw[kZ _ (by omega) (by omega),Ti,cq (by omega),Ti,kZ _ (by omega) (by omega),Ti,cq (by rw[Tw];omega)];rfl
theorem xG{s:Span}(h:oG s=true):iZ s=some (iL s):=by
 have h1:=uT h;have z1:=bO (v:=s.From) (by omega) (by omega);have z2:=bO (v:=s.To) (by omega) (by omega);have z3:(Tj #[46,46]).size=2:=rfl;unfold iZ iL;rw[og (by omega) (by omega),Ti,cq (by omega),Ti,og (by omega) (by omega),Ti,cq (by rw[Tw];omega)];rfl
theorem EM(s:ByteArray)(hz:s.size<=1048576): ∃sp b,hU s=some (sp,b):=by
 have hC:=ra s (Tj #[46,46]);unfold hU strings_Cut;rw[decide_eq_true (by omega),cond_true,Ti,dU _ (by omega),Ti,dU _ (by omega),Ti];cases (gO (tg s (Tj #[46,46])).1).2
 ·exact⟨_,_,rfl⟩
 ·cases (gO (tg s (Tj #[46,46])).2.1).2
  ·exact⟨_,_,rfl⟩
  ·rw[ux];exact⟨_,_,rfl⟩
theorem GN{s:Span}(h:oG s=true):hU (iL s)=some (s,true):=by
 have h1:=uT h;have hz:=sx h;have hcut:Lib.cut (iL s).data.toList [46,46]=(itoa s.From,itoa s.To,true):=by
  rw[xC];exact NZ _ (ru (by decide) (by decide) _)
 have e1:(tg (iL s) (Tj #[46,46])).1.data.toList=itoa s.From:=by
  show((Lib.cut (iL s).data.toList [46,46]).1.toArray).toList=_;rw[hcut]
 have e2:(tg (iL s) (Tj #[46,46])).2.1.data.toList=itoa s.To:=by
  show((Lib.cut (iL s).data.toList [46,46]).2.1.toArray).toList=_;rw[hcut]
 have hC:=ra (iL s) (Tj #[46,46]);have hs:(Span.mk s.From s.To)=s:=rfl;unfold hU strings_Cut;rw[decide_eq_true (by omega),cond_true,Ti,dU _ (by omega),Ti,dU _ (by omega),Ti,kB e1 (by omega) (by omega),kB e2 (by omega) (by omega)];simp only[cond_true,hs,ux,h,Ti]
theorem Fg(s:ByteArray)(hz:s.size<=1048576): ∃sp e,ig s=some (sp,e):=by
 have hsp:bR s 46=some (bn s 46):=dJ s 46 (by omega);have hws: ∀x∈bn s 46,x.size<=s.size:=fun x hx=>fK hx;unfold ig;rw[hsp,Ti];generalize bn s 46=W at hws;by_cases hl:W.length=3
 ·match W,hl with
  | [a,b,c],_=>
   have ha:=hws a (by simp);have hc:=hws c (by simp);obtain⟨x,f,x1,_,_⟩:=ph a (by omega);obtain⟨y,g,y1,_,_⟩:=ph c (by omega);have a0:at' [a,b,c] 0=some a:=rfl;have a1:at' [a,b,c] 1=some b:=rfl;have a2:at' [a,b,c] 2=some c:=rfl;have hn:((([a,b,c]:List ByteArray).length:Int) !=3)=false:=rfl;simp only[hn,cond_false,a0,a1,a2,Ti,x1,y1,uW];cases (b.toList==(Tj #[]).toList)
   ·exact⟨_,_,rfl⟩
   ·cases f
    ·exact⟨_,_,rfl⟩
    ·cases g
     ·exact⟨_,_,rfl⟩
     ·cases h3:oG ⟨x,y⟩
      ·exact⟨_,_,rfl⟩
      ·simp only[xG h3,TO,cond_false,Ti];cases ((iL ⟨x,y⟩).toList==s.toList)
       ·exact⟨_,_,rfl⟩
       ·exact⟨_,_,rfl⟩
 ·have:((W.length:Int) !=3)=true:=by
   rw[bne_iff_ne];omega
  rw[this];exact⟨_,_,rfl⟩
theorem Hf{s:Span}(h:oG s=true):ig (iL s)=some (s,0):=by
 have h1:=uT h;have hz:=sx h;have z1:=bO (v:=s.From) (by omega) (by omega);have z2:=bO (v:=s.To) (by omega) (by omega);have hw:bn (iL s) 46=[cK s.From,Tj #[],cK s.To]:=by
  have e:iL s=ee [cK s.From,Tj #[],cK s.To] (Tj #[46]):=mY (by
   rw[xC,fe,fe,gz,et,et,et,et,cL,cL];simp)
  rw[e];refine qB (by simp) fun x hx=> ?_;simp only[Tx,UA,or_false]at hx;rcases hx with rfl | rfl | rfl
  ·exact pG (by decide) (by decide) _
  ·simp
  ·exact pG (by decide) (by decide) _
 have a0:at' [cK s.From,Tj #[],cK s.To] 0=some (cK s.From):=rfl;have a1:at' [cK s.From,Tj #[],cK s.To] 1=some (Tj #[]):=rfl;have a2:at' [cK s.From,Tj #[],cK s.To] 2=some (cK s.To):=rfl;have hn:((([cK s.From,Tj #[],cK s.To]:List ByteArray).length:Int) !=3)=false:=rfl;have hsp:bR (iL s) 46=some (bn (iL s) 46):=dJ _ 46 (by omega);have hs:(Span.mk s.From s.To)=s:=rfl;unfold ig;rw[hsp,hw,Ti];simp only[hn,cond_false,a0,a1,a2,Ti,beq_self_eq_true,TO,qt (s:=cK s.From) (by omega) (cL _) (show -10000000000000<s.From by omega) (by omega),qt (s:=cK s.To) (by omega) (cL _) (show -10000000000000<s.To by omega) (by omega),hs,uW,h,xG h]
def C1(v:ByteArray):ByteArray:=bif v.toList==(Tj #[]).toList then Tj #[46]else v
def mC(c:Claim):List ByteArray:=[c.Source,cK c.Kind,c.Place,C1 c.Value,iL c.Years,cK c.Weight]
def pZ(c:Claim):ByteArray:=ee (mC c) (Tj #[47])
theorem C2(v:ByteArray):r8 v=some (C1 v):=by
 unfold r8 C1;cases v.toList==(Tj #[]).toList<;>rfl
theorem C3(v:ByteArray):(C1 v).size<=v.size+1:=by
 unfold C1;cases v.toList==(Tj #[]).toList
 ·exact Nat.le_succ _
 ·show 1<=_;omega
structure PJ (c:Claim):Prop where
 s:df c.Source=true
 p:df c.Place=true
 v:JO c=true
 y:oG c.Years=true
 w:1<=c.Weight/\c.Weight<=100
 k:0<=c.Kind/\c.Kind<=3
 f: ∀b∈c.Value.data.toList,small b=true\/b=32
theorem nK{c:Claim}(h:cB c=true):PJ c:=by
 unfold cB at h;rw[Tp,Tp,Tp,Tp,io]at h;obtain⟨h1,h2,h3,h4,h5⟩:=h;have hv:=h3;unfold JO at hv;have hnil:(c.Value.toList==(Tj #[]).toList)=true-> ∀b∈c.Value.data.toList,small b=true\/b=32:=fun h b hb=>by
  rw[fT.1 h]at hb;simp at hb
 have hw:df c.Value=true-> ∀b∈c.Value.data.toList,small b=true\/b=32:=fun h b hb=>by
  unfold df at h;rw[Tp]at h;exact .inl (Tt.1 h.2 b hb)
 have hp:lA c.Value=true-> ∀b∈c.Value.data.toList,small b=true\/b=32:=fun h b hb=>by
  cases hs:small b
  ·by_cases h32:b=32
   ·exact .inr h32
   ·exact absurd hb (Jd h hs h32)
  ·exact .inl rfl
 by_cases k0:c.Kind=0
 ·rw[k0]at hv;exact⟨h1,h2,h3,h4,h5,by omega,hp hv⟩
 ·rw[beq_eq_false_iff_ne.2 k0,cond_false]at hv;by_cases k1:c.Kind=1
  ·rw[k1]at hv;have hv:(df c.Value&& !(c.Value.toList==c.Place.toList))=true:=hv;rw[Tp]at hv;exact⟨h1,h2,h3,h4,h5,by omega,hw hv.1⟩
  ·rw[beq_eq_false_iff_ne.2 k1,cond_false]at hv;by_cases k2:c.Kind=2
   ·rw[k2]at hv;exact⟨h1,h2,h3,h4,h5,by omega,hnil hv⟩
   ·rw[beq_eq_false_iff_ne.2 k2,cond_false]at hv;by_cases k3:c.Kind=3
    ·rw[k3]at hv;exact⟨h1,h2,h3,h4,h5,by omega,hnil hv⟩
    ·rw[beq_eq_false_iff_ne.2 k3,cond_false]at hv;cases hv
theorem Jc{c:Claim}(h:cB c=true)(hs:cJ c): ∀x∈mC c,x.size<=1048577:=by
 have hi:=nK h;have z1:=bO (v:=c.Kind) (by have:=hi.k;omega) (by have:=hi.k;omega);have z2:=bO (v:=c.Weight) (by have:=hi.w;omega) (by have:=hi.w;omega);have z3:=C3 c.Value;have z4:=sx hi.y;have h1:=hs.s0;have h2:=hs.s2;have h3:=hs.s3;intro x hx;unfold mC at hx;simp only[Tx,UA,or_false]at hx;rcases hx with rfl | rfl | rfl | rfl | rfl | rfl<;>omega
theorem Ba{c:Claim}(h:cB c=true)(hs:cJ c):mh c=some (pZ c):=by
 have hi:=nK h;have h1:=hi.k;have h2:=hi.w;have hz:=lJ (Tj #[47]) (mC c) (Jc h hs);have hl:(mC c).length=6:=rfl;have h1':(Tj #[47]).size=1:=rfl;rw[hl,h1']at hz;unfold mh;rw[kZ _ (by omega) (by omega),Ti,C2,Ti,Ky hi.y,Ti,kZ _ (by omega) (by omega),Ti];have:strings_Join (mC c) (Tj #[47])=some (pZ c):=by
  unfold strings_Join;rw[if_pos ⟨by omega,by omega⟩];rfl
 exact congrArg (fun o:Option ByteArray=>o.bind fun x5=>some x5) this
theorem Bp{c:Claim}(h:cB c=true)(hs:cJ c):ja c=some (pZ c):=by
 have hi:=nK h;have h1:=hi.k;have h2:=hi.w;have z1:=bO (v:=c.Kind) (by omega) (by omega);have z2:=bO (v:=c.Weight) (by omega) (by omega);have z3:=C3 c.Value;have z4:=sx hi.y;have s1:=hs.s0;have s2:=hs.s2;have s3:=hs.s3;have z5:(Tj #[47]).size=1:=rfl;have hd:oX c.Value=some (C1 c.Value):=C2 c.Value;unfold ja;rw[cq (by omega),Ti,iA (by omega) (by omega),Ti,cq (by simp only[Tw];omega),Ti,cq (by simp only[Tw];omega),Ti,cq (by simp only[Tw];omega),Ti,cq (by simp only[Tw];omega),Ti,hd,Ti,cq (by simp only[Tw];omega),Ti,cq (by simp only[Tw];omega),Ti,xG hi.y,Ti,cq (by simp only[Tw];omega),Ti,cq (by simp only[Tw];omega),Ti,iA (by omega) (by omega),Ti,cq (by simp only[Tw];omega),Ti];congr 1;refine mY ?_;unfold pZ mC;simp only[fe,gz,et,TX]
theorem A2{c:Claim}(h:cB c=true):bn (pZ c) 47=mC c:=by
 have hi:=nK h;have hsm:small 47=false:=by decide
 refine qB (by unfold mC;simp) fun x hx=> ?_;unfold mC at hx;simp only[Tx,UA,or_false]at hx;rcases hx with rfl | rfl | rfl | rfl | rfl | rfl
 ·exact rL hi.s hsm
 ·exact pG (by decide) (by decide) _
 ·exact rL hi.p hsm
 ·unfold C1;cases c.Value.toList==(Tj #[]).toList
  ·intro hm;rcases hi.f _ hm with h | h
   ·rw[hsm]at h;cases h
   ·cases h
  ·show ¬(47:UInt8)∈(Tj #[46]).data.toList;decide
 ·rw[xC];have h1:=ru (c:=47) (by decide) (by decide) c.Years.From;have h2:=ru (c:=47) (by decide) (by decide) c.Years.To;simp[h1,h2]
 ·exact pG (by decide) (by decide) _
theorem Ix{c:Claim}(h:cB c=true):kx (C1 c.Value)=some c.Value:=by
 have hi:=nK h;unfold kx C1;cases hn:(c.Value.toList==(Tj #[]).toList)
 ·have:(c.Value.toList==(Tj #[46]).toList)=false:=TS.2 fun e=>by
   have e2:=fT.1 e;rcases hi.f 46 (by rw[e2];simp)with h | h
   ·revert h;decide
   ·cases h
  rw[cond_false,this,cond_false]
 ·rw[cond_true,fT.2 rfl,cond_true,fT.1 hn]
theorem six{α:Type}{L:List α}(h:L.length=6): ∃a b c d e f,L=[a,b,c,d,e,f]:=by
 match L,h with
 | [a,b,c,d,e,f],_=>exact⟨a,b,c,d,e,f,rfl⟩
section
variable {a b c d e f : ByteArray}
theorem x0:at' [a,b,c,d,e,f] 0=some a:=rfl
theorem x1':at' [a,b,c,d,e,f] 1=some b:=rfl
theorem x2':at' [a,b,c,d,e,f] 2=some c:=rfl
theorem x3':at' [a,b,c,d,e,f] 3=some d:=rfl
theorem x4':at' [a,b,c,d,e,f] 4=some e:=rfl
theorem x5':at' [a,b,c,d,e,f] 5=some f:=rfl
theorem xl:((([a,b,c,d,e,f]:List ByteArray).length:Int) !=6)=false:=rfl
end
abbrev LS:Claim:=Claim.mk (Tj #[]) 0 (Tj #[]) (Tj #[]) (Span.mk 0 0) 0
theorem EG{c:Claim}(h:cB c=true)(hs:cJ c)(hz:(pZ c).size<=1048576):dQ (pZ c)=some (c,0):=by
 have hi:=nK h;have hk:=hi.k;have hw:=hi.w;have z1:=bO (v:=c.Kind) (by omega) (by omega);have z2:=bO (v:=c.Weight) (by omega) (by omega);have hsp:strings_Split (pZ c) (Tj #[47])=some (mC c):=by
  rw[<-A2 h];unfold strings_Split;have h0:(Tj #[47]).data.toList=[47]:=rfl;rw[h0];dsimp only;rw[decide_eq_true (by omega),cond_true]
 have hc:(Claim.mk c.Source c.Kind c.Place c.Value c.Years c.Weight)=c:=rfl;unfold dQ;rw[hsp,Ti];unfold mC;simp only[xl,cond_false,x0,x1',x2',x3',x4',x5',Ti,dU (cK c.Kind) (by omega),dU (cK c.Weight) (by omega),kB (cL c.Kind) (by omega) (by omega),kB (cL c.Weight) (by omega) (by omega),GN hi.y,Ix h,hc,r6 c hs,h,Ba h hs,beq_self_eq_true,TO]
theorem E2{c:Claim}(h:cB c=true)(hs:cJ c)(hz:(pZ c).size<=1048576):dX (pZ c)=some (c,0):=by
 have hi:=nK h;have hk:=hi.k;have hw:=hi.w;have hsp:bR (pZ c) 47=some (mC c):=by
  rw[<-A2 h];exact dJ _ 47 (by omega)
 have hd:mH (C1 c.Value)=some c.Value:=Ix h;have hc:(Claim.mk c.Source c.Kind c.Place c.Value c.Years c.Weight)=c:=rfl;unfold dX;rw[hsp,Ti];unfold mC;simp only[xl,cond_false,x0,x1',x2',x3',x4',x5',Ti,xL (cL c.Kind) (by omega) (by omega),xL (cL c.Weight) (by omega) (by omega),Hf hi.y,hd,hc,sE c hs,h,Bp h hs,beq_self_eq_true,TO,bne_self_eq_false]
theorem BH(s:ByteArray)(hz:s.size<=1048576):dQ s=some (LS,6)\/ ∃c,dQ s=some (c,0)/\cB c=true/\cJ c/\s=pZ c:=by
 have hsp:strings_Split s (Tj #[47])=some (bn s 47):=by
  unfold strings_Split;have h0:(Tj #[47]).data.toList=[47]:=rfl;rw[h0];dsimp only;rw[decide_eq_true (by omega),cond_true]
 have hws: ∀x∈bn s 47,x.size<=1048576:=fun x hx=>Ut (fK hx) hz;unfold dQ;rw[hsp,Ti];generalize bn s 47=W at hws;by_cases hl:W.length=6
 ·obtain⟨a,b,c,d,e,f,rfl⟩:=six hl;have ha:=hws a (by simp);have hb:=hws b (by simp);have hc:=hws c (by simp);have hd:=hws d (by simp);have hf:=hws f (by simp);obtain⟨sp,g,g1⟩:=EM e (hws e (by simp));obtain⟨v,v1,v2⟩: ∃v,kx d=some v/\v.size<=1048576:=by
   unfold kx;cases d.toList==(Tj #[46]).toList
   ·exact⟨_,rfl,hd⟩
   ·exact⟨_,rfl,by show 0<=_;omega⟩
  simp only[xl,cond_false,x0,x1',x2',x3',x4',x5',Ti,dU b hb,dU f hf,g1,v1];have hsm:cJ (Claim.mk a (gO b).1 c v sp (gO f).1):=⟨ha,hc,v2⟩;rw[r6 _ hsm];cases h3:cB (Claim.mk a (gO b).1 c v sp (gO f).1)
  ·exact .inl rfl
  ·simp only[Ba h3 hsm,Ti,TO,cond_false];cases h4:((pZ (Claim.mk a (gO b).1 c v sp (gO f).1)).toList==s.toList)
   ·exact .inl rfl
   ·exact .inr ⟨_,rfl,h3,hsm,(fT.1 h4).symm⟩
 ·have:((W.length:Int) !=6)=true:=by
   rw[bne_iff_ne];omega
  rw[this];exact .inl rfl
theorem B2(s:ByteArray)(hz:s.size<=1048576):dX s=some (LS,6)\/ ∃c,dX s=some (c,0)/\cB c=true/\cJ c/\s=pZ c:=by
 have hsp:bR s 47=some (bn s 47):=dJ s 47 (by omega);have hws: ∀x∈bn s 47,x.size<=1048576:=fun x hx=>Ut (fK hx) hz;unfold dX;rw[hsp,Ti];generalize bn s 47=W at hws;by_cases hl:W.length=6
 ·obtain⟨a,b,c,d,e,f,rfl⟩:=six hl;have ha:=hws a (by simp);have hc:=hws c (by simp);have hd:=hws d (by simp);obtain⟨sp,g,g1⟩:=Fg e (hws e (by simp));obtain⟨k,kb,k1,_⟩:=jt b;obtain⟨w,wb,w1,_⟩:=jt f;obtain⟨v,v1,v2⟩: ∃v,mH d=some v/\v.size<=1048576:=by
   unfold mH;cases d.toList==(Tj #[46]).toList
   ·exact⟨_,rfl,hd⟩
   ·exact⟨_,rfl,by show 0<=_;omega⟩
  simp only[xl,cond_false,x0,x1',x2',x3',x4',x5',Ti,k1,w1,g1,v1];have hsm:cJ (Claim.mk a k c v sp w):=⟨ha,hc,v2⟩;rw[sE _ hsm];cases kb
  ·exact .inl rfl
  cases wb
  ·exact .inl rfl
  cases (g !=0)
  ·cases h3:cB (Claim.mk a k c v sp w)
   ·exact .inl rfl
   ·simp only[Bp h3 hsm,Ti,TO,cond_false];cases h4:((pZ (Claim.mk a k c v sp w)).toList==s.toList)
    ·exact .inl rfl
    ·exact .inr ⟨_,rfl,h3,hsm,(fT.1 h4).symm⟩
  ·exact .inl rfl
 ·have:((W.length:Int) !=6)=true:=by
   rw[bne_iff_ne];omega
  rw[this];exact .inl rfl
theorem G2(s:ByteArray)(hz:s.size<=1048576): ∃c e,dQ s=some (c,e)/\dX s=some (c,e)/\(e=6\/e=0/\cB c=true/\cJ c):=by
 rcases BH s hz with h | ⟨c,h1,h2,h3,h4⟩
 ·rcases B2 s hz with k | ⟨c,k1,k2,k3,k4⟩
  ·exact⟨_,_,h,k,.inl rfl⟩
  ·rw[k4,EG k2 k3 (k4▸hz)]at h;cases h
 ·refine⟨c,0,h1,?_,.inr ⟨rfl,h2,h3⟩⟩;rw[h4];exact E2 h2 h3 (h4▸hz)
section
variable {S A : Type}
theorem Db{n:Nat}(hn:n<=1000000000){B:Int->S->Option S}{D:S->A}(R:Nat->S)(hB: ∀i:Nat,i<n->B (i:Int) (R i)=some (R (i+1))):cR (n:Int) B D 0 (R 0)=some (D (R n)):=by
 have key: ∀(m i:Nat),i+m=n->cR (n:Int) B D (i:Int) (R i)=some (D (R n)):=by
  intro m
  induction m with
  | zero=>
   intro i h;unfold cR;rw[bT];simp only[decide_eq_false (show ¬(i:Int)<n by omega),cond_false];rw[show i=n by omega]
  | succ m ih=>
   intro i h;unfold cR;rw[bT];simp only[decide_eq_true (show(i:Int)<n by omega),cond_true,hB i (by omega),Ti,az (show -9223372036854775808<=(i:Int)+1 by omega) (by omega)];have:=ih (i+1) (by omega);unfold cR at this;simpa using this
 simpa using key n 0 (by omega)
theorem Da{n i0:Nat}(hn:n<=1000000000)(h0:i0<=n+1){B:Int->S->Option S}{D:S->A}(R:Nat->S)(hB: ∀i:Nat,i0<=i->i<=n->B (i:Int) (R i)=some (R (i+1))):lW (fun(i:Int) (_:S)=>decide (i<=(n:Int))) B D (i0:Int) (R i0)=some (D (R (n+1))):=by
 have key: ∀(m i:Nat),i0<=i->i+m=n+1->lW (fun(i:Int) (_:S)=>decide (i<=(n:Int))) B D (i:Int) (R i)=some (D (R (n+1))):=by
  intro m
  induction m with
  | zero=>
   intro i _ h;unfold lW;rw[bT];simp only[decide_eq_false (show ¬(i:Int)<=n by omega),cond_false];rw[show i=n+1 by omega]
  | succ m ih=>
   intro i hi h;unfold lW;rw[bT];simp only[decide_eq_true (show(i:Int)<=n by omega),cond_true,hB i hi (by omega),Ti,az (show -9223372036854775808<=(i:Int)+1 by omega) (by omega)];have:=ih (i+1) (by omega) (by omega);unfold lW at this;simpa using this
 exact key (n+1 - i0) i0 (TA _) (by omega)
end
def lev:List UInt8->List UInt8->Nat
 | [],ys=>ys.length
 | x::xs,[]=>xs.length+1
 | x::xs,y::ys=>min (min (lev xs ys+(if x=y then 0 else 1)) (lev xs (y::ys)+1)) (lev (x::xs) ys+1)
termination_by xs ys=>xs.length+ys.length
theorem LP(xs:List UInt8):lev xs []=xs.length:=by
 cases xs<;>simp[lev]
theorem IV(x y:UInt8)(xs ys:List UInt8):lev (x::xs) (y::ys)=min (min (lev xs ys+(if x=y then 0 else 1)) (lev xs (y::ys)+1)) (lev (x::xs) ys+1):=by
 rw[lev]
theorem Ow: ∀(n:Nat) (xs ys:List UInt8),xs.length+ys.length<=n->lev xs ys<=xs.length+ys.length
 | n,[],ys,_=>by simp[lev]
 | n,x::xs,[],_=>by rw[LP];simp
 | 0,x::xs,y::ys,h=>by simp at h
 | n+1,x::xs,y::ys,h=>by
  simp only[Ty]at h;have:=Ow n (x::xs) ys (by simp;omega);rw[IV];simp only[Ty]at this⊢;omega
def jz(A B:List UInt8)(i k:Nat):Nat:=lev (A.take i).reverse (B.take k).reverse
theorem RO(A B:List UInt8){k:Nat}(h:k<=B.length):jz A B 0 k=k:=by
 unfold jz;simp[lev,VP h]
theorem LO(A B:List UInt8){i:Nat}(h:i<=A.length):jz A B i 0=i:=by
 unfold jz;rw[List.take_zero,List.reverse_nil,LP];simp[VP h]
theorem JF{A:List UInt8}{i:Nat}{x:UInt8}(h:A[i]? =some x):(A.take (i+1)).reverse=x::(A.take i).reverse:=by
 obtain⟨hi,rfl⟩:=Tl.1 h;rw[List.take_succ_eq_append_getElem hi,List.reverse_append];rfl
theorem MS{A B:List UInt8}{i k:Nat}{x y:UInt8}(hx:A[i]? =some x)(hy:B[k]? =some y):jz A B (i+1) (k+1)=min (min (jz A B i k+(if x=y then 0 else 1)) (jz A B i (k+1)+1)) (jz A B (i+1) k+1):=by
 unfold jz;rw[JF hx,JF hy,IV]
theorem Cp(A B:List UInt8)(i k:Nat):jz A B i k<=A.length+B.length:=by
 unfold jz;have:=Ow _ (A.take i).reverse (B.take k).reverse (TA _);simp only[List.length_reverse,TQ]at this;omega
def rowP(A B:List UInt8)(i k:Nat):List Int:=(TU k).map fun j=>(jz A B i j:Int)
theorem Jn(A B:List UInt8)(i k:Nat):(rowP A B i k).length=k:=by simp[rowP]
theorem qp{A B:List UInt8}{i k j:Nat}(h:j<k):(rowP A B i k)[j]? =some (jz A B i j:Int):=by
 unfold rowP;rw[List.getElem?_map,List.getElem?_range h];rfl
theorem FZ(A B:List UInt8)(i k:Nat):rowP A B i k++[(jz A B i k:Int)]=rowP A B i (k+1):=by
 unfold rowP;rw[Wq,U9];rfl
theorem I5(a b:Nat):sg (a:Int) (b:Int)=((min a b:Nat):Int):=by
 unfold sg;split<;>omega
theorem entry{A B:List UInt8}(hA:A.length+B.length<=2097152){i k:Nat}{x y:UInt8}(hx:A[i]? =some x)(hy:B[k]? =some y):
  sg (sg (bif(x.toNat:Int) !=(y.toNat:Int)then ap ((jz A B i k:Int)+1)else(jz A B i k:Int)) (ap ((jz A B i (k+1):Int)+1))) (ap ((jz A B (i+1) k:Int)+1))=(jz A B (i+1) (k+1):Int):=by
 have h1:=Cp A B i k;have h2:=Cp A B i (k+1);have h3:=Cp A B (i+1) k;rw[az (by omega) (by omega),az (by omega) (by omega),az (by omega) (by omega),MS hx hy];have e:(bif(x.toNat:Int) !=(y.toNat:Int)then((jz A B i k:Int)+1)else(jz A B i k:Int))=((jz A B i k+(if x=y then 0 else 1):Nat):Int):=by
  by_cases h:x=y
  ·subst h;simp
  ·rw[if_neg h];have:((x.toNat:Int) !=(y.toNat:Int))=true:=by
    rw[bne_iff_ne];intro e;exact h (VQ.1 (by omega))
   rw[this];rfl
 rw[e,show((jz A B i (k+1):Int)+1)=((jz A B i (k+1)+1:Nat):Int) by omega,show((jz A B (i+1) k:Int)+1)=((jz A B (i+1) k+1:Nat):Int) by omega,I5,I5]
theorem SA(A B:List UInt8):rowP A B 0 (B.length+1)=(TU (B.length+1)).map fun j:Nat=>(j:Int):=by
 unfold rowP;refine List.map_congr_left fun j hj=> ?_;have:=List.mem_range.1 hj;rw[RO A B (by omega)]
theorem MF(a b:ByteArray)(ha:a.size<=1000000)(hb:b.size<=1000000):e9 a b=some (jz a.data.toList b.data.toList a.size b.size:Int):=by
 have sa:=iw a;have sb:=iw b;unfold e9;rw[show ap ((b.size:Int)+1)=((b.size+1:Nat):Int) by rw[az (by omega) (by omega)];omega,Cs 0 (by omega),Ti,List.length_replicate];generalize hA:a.data.toList=A at*;generalize hB:b.data.toList=B at*;have e0:cR ((b.size+1:Nat):Int) (fun(i4:Int) (s4:(List Int))=>((at' s4 i4).bind fun _=>some (T0 s4 (Tv i4) i4))) (fun(s4:(List Int))=>s4) 0 (UH (b.size+1) (0:Int))=some (rowP A B 0 (b.size+1)):=by
  have:=Db (n:=b.size+1) (by omega) (B:=fun(i4:Int) (s4:(List Int))=>((at' s4 i4).bind fun _=>some (T0 s4 (Tv i4) i4))) (D:=fun(s4:(List Int))=>s4) (fun k=>((TU k).map fun j:Nat=>(j:Int))++UH (b.size+1 - k) 0) (fun i hi=>by
   have hr:UH (b.size+1 - i) (0:Int)=0::UH (b.size+1 -(i+1)) 0:=by
    rw[show b.size+1 - i=(b.size+1 -(i+1))+1 by omega,List.replicate_succ]
   have hl:((TU i).map fun j:Nat=>(j:Int)).length=i:=by simp
   simp only[aG,hr];rw[Ts (by omega),hl,VD];simp only[V0,Ti,TG];rw[List.set_append_right _ _ (by omega),hl,VD,List.set_cons_zero,Wq,U9,TX];rfl)
  simp only[List.range_zero,VC,UD,VT,VD,List.replicate_zero,Up]at this;rw[this,<-sb,SA]
 rw[e0,Ti];have e1:=Db (n:=a.size) (by omega) (B:=fun(i11:Int) (s11:(List Int))=>(((cR (b.size:Int) (fun(i17:Int) (s17:(List Int))=>((at' s11 i17).bind fun x21=>((cQ a i11).bind fun x22=>((cQ b i17).bind fun x23=>(((bif(x22 !=x23)then some (ap (x21+1))else some x21)).bind fun(j24:Int)=>((at' s11 (ap (i17+1))).bind fun x26=>((at' s17 i17).bind fun x27=>((bW s17 ([(sg (sg j24 (ap (x26+1))) (ap (x27+1)))]:List Int)).bind fun x29=>some x29)))))))) (fun(s17:(List Int))=>s17) 0 ([(ap (i11+1))]:List Int))).bind fun(j15:(List Int))=>some j15)) (D:=fun(s11:(List Int))=>s11) (fun i=>rowP A B i (b.size+1)) (fun i hi=>by
  have hx:A[i]? =some (A[i]'(by omega)):=Tk _;generalize A[i]'(by omega)=x at hx;have e2:=Db (n:=b.size) (by omega) (B:=fun(i17:Int) (s17:(List Int))=>((at' (rowP A B i (b.size+1)) i17).bind fun x21=>((cQ a (i:Int)).bind fun x22=>((cQ b i17).bind fun x23=>(((bif(x22 !=x23)then some (ap (x21+1))else some x21)).bind fun(j24:Int)=>((at' (rowP A B i (b.size+1)) (ap (i17+1))).bind fun x26=>((at' s17 i17).bind fun x27=>((bW s17 ([(sg (sg j24 (ap (x26+1))) (ap (x27+1)))]:List Int)).bind fun x29=>some x29)))))))) (D:=fun(s17:(List Int))=>s17) (fun k=>rowP A B (i+1) (k+1)) (fun k hk=>by
   have hy:B[k]? =some (B[k]'(by omega)):=Tk _;generalize B[k]'(by omega)=y at hy;simp only[aG,qp (show k<b.size+1 by omega),pr (show a.data.toList[i]? =some x by rw[hA];exact hx),pr (show b.data.toList[k]? =some y by rw[hB];exact hy),Ti];rw[show ap ((k:Int)+1)=((k+1:Nat):Int) by rw[az (by omega) (by omega)];omega,aG,qp (show k+1<b.size+1 by omega),qp (show k<k+1 by omega)];have he:=entry (A:=A) (B:=B) (by omega) hx hy;have hbif:(bif((x.toNat:Int) !=(y.toNat:Int))then some (ap ((jz A B i k:Int)+1))else some (jz A B i k:Int))=some (bif((x.toNat:Int) !=(y.toNat:Int))then ap ((jz A B i k:Int)+1)else(jz A B i k:Int)):=by
    cases ((x.toNat:Int) !=(y.toNat:Int))<;>rfl
   rw[hbif];simp only[Ti];rw[he,ci (by rw[Jn];simp;omega),Ti,FZ])
  have hst:([(ap ((i:Int)+1))]:List Int)=rowP A B (i+1) (0+1):=by
   unfold rowP;rw[az (by omega) (by omega)];simp[LO A B (show i+1<=A.length by omega)]
  try simp only[]
  rw[hst,e2];rfl)
 try simp only[]at e1
 rw[e1,Ti,aG,qp (by omega),Ti]
theorem Nk(a b:ByteArray)(ha:a.size<=1000000)(hb:b.size<=1000000):fP a b=some (jz a.data.toList b.data.toList a.size b.size:Int):=by
 have sa:=iw a;have sb:=iw b;unfold fP;generalize hA:a.data.toList=A at*;generalize hB:b.data.toList=B at*;have e0:=Da (n:=b.size) (i0:=0) (by omega) (by omega) (B:=fun(i3:Int) (s3:(List Int))=>((bW s3 ([i3]:List Int)).bind fun x7=>some x7)) (D:=fun(s3:(List Int))=>s3) (fun k=>(TU k).map fun j:Nat=>(j:Int)) (fun i _ hi=>by
  rw[ci (by simp;omega),Ti,Wq,U9];rfl)
 simp only[List.range_zero,VC]at e0;rw[show((0:Nat):Int)=0 from rfl]at e0;rw[e0,Ti,<-sb,<-SA A B,sb];have e1:=Da (n:=a.size) (i0:=1) (by omega) (by omega) (B:=fun(i10:Int) (s10:(List Int))=>(((lW (fun(i16:Int) (_:(List Int))=>(decide (i16<=(b.size:Int)))) (fun(i16:Int) (s16:(List Int))=>((at' s10 (ap (i16 - 1))).bind fun x20=>((cQ a (ap (i10 - 1))).bind fun x21=>((cQ b (ap (i16 - 1))).bind fun x22=>(((bif(x21 !=x22)then some (ap (x20+1))else some x20)).bind fun(j23:Int)=>((at' s10 i16).bind fun x25=>((at' s16 (ap (i16 - 1))).bind fun x26=>((bW s16 ([(sg (sg j23 (ap (x25+1))) (ap (x26+1)))]:List Int)).bind fun x28=>some x28)))))))) (fun(s16:(List Int))=>s16) 1 ([i10]:List Int))).bind fun(j14:(List Int))=>some j14)) (D:=fun(s10:(List Int))=>s10) (fun i=>rowP A B (i - 1) (b.size+1)) (fun i h1 hi=>by
  obtain⟨i,rfl⟩: ∃j,i=j+1:=⟨i - 1,by omega⟩;have hx:A[i]? =some (A[i]'(by omega)):=Tk _;generalize A[i]'(by omega)=x at hx;have w1:ap (((i+1:Nat):Int)- 1)=(i:Int):=by rw[az (by omega) (by omega)];omega
  simp only[Nat.add_sub_cancel];have e2:=Da (n:=b.size) (i0:=1) (by omega) (by omega) (B:=fun(i16:Int) (s16:(List Int))=>((at' (rowP A B i (b.size+1)) (ap (i16 - 1))).bind fun x20=>((cQ a (ap (((i+1:Nat):Int)- 1))).bind fun x21=>((cQ b (ap (i16 - 1))).bind fun x22=>(((bif(x21 !=x22)then some (ap (x20+1))else some x20)).bind fun(j23:Int)=>((at' (rowP A B i (b.size+1)) i16).bind fun x25=>((at' s16 (ap (i16 - 1))).bind fun x26=>((bW s16 ([(sg (sg j23 (ap (x25+1))) (ap (x26+1)))]:List Int)).bind fun x28=>some x28)))))))) (D:=fun(s16:(List Int))=>s16) (fun k=>rowP A B (i+1) k) (fun k h1 hk=>by
   obtain⟨k,rfl⟩: ∃j,k=j+1:=⟨k - 1,by omega⟩;have hy:B[k]? =some (B[k]'(by omega)):=Tk _;generalize B[k]'(by omega)=y at hy;have w2:ap (((k+1:Nat):Int)- 1)=(k:Int):=by rw[az (by omega) (by omega)];omega
   simp only[w1,w2,aG,qp (show k<b.size+1 by omega),qp (show k+1<b.size+1 by omega),qp (show k<k+1 by omega),pr (show a.data.toList[i]? =some x by rw[hA];exact hx),pr (show b.data.toList[k]? =some y by rw[hB];exact hy),Ti];have he:=entry (A:=A) (B:=B) (by omega) hx hy;have hbif:(bif((x.toNat:Int) !=(y.toNat:Int))then some (ap ((jz A B i k:Int)+1))else some (jz A B i k:Int))=some (bif((x.toNat:Int) !=(y.toNat:Int))then ap ((jz A B i k:Int)+1)else(jz A B i k:Int)):=by
    cases ((x.toNat:Int) !=(y.toNat:Int))<;>rfl
   rw[hbif];simp only[Ti];rw[he,ci (by rw[Jn];simp;omega),Ti,FZ])
  have hst:([((i+1:Nat):Int)]:List Int)=rowP A B (i+1) 1:=by
   unfold rowP;simp[LO A B (show i+1<=A.length by omega)]
  try simp only[]at e2
  rw[show((1:Nat):Int)=1 from rfl]at e2;rw[hst,e2];rfl)
 simp only[VD,Nat.add_sub_cancel]at e1;rw[show((1:Nat):Int)=1 from rfl]at e1;rw[e1,Ti,aG,qp (by omega),Ti]
def N1(a b:ByteArray):Int:=(jz a.data.toList b.data.toList a.size b.size:Int)
theorem HV(a b:ByteArray):0<=N1 a b/\N1 a b<=a.size+b.size:=by
 unfold N1;have:=Cp a.data.toList b.data.toList a.size b.size;rw[iw,iw]at this;omega
def lg(x y:ByteArray):Bool:=Op.bytesLess x.toList y.toList
theorem pc: ∀x:List UInt8,Op.bytesLess x x=false
 | []=>rfl
 | a::x=>by
  unfold Op.bytesLess;rw[pc x,Bool.and_false,Bool.or_false,decide_eq_false_iff_not];intro h;have:=Vi.1 h;omega
theorem xU{a b:UInt8}{x y:List UInt8}:Op.bytesLess (a::x) (b::y)=true↔a.toNat<b.toNat\/(a=b/\Op.bytesLess x y=true):=by
 conv=>lhs;unfold Op.bytesLess
 rw[TT,Tp,decide_eq_true_eq,beq_iff_eq,Vi]
theorem tC: ∀{x y z:List UInt8},Op.bytesLess x y=true->Op.bytesLess y z=true->Op.bytesLess x z=true
 | [],[],_,h,_=>by cases h
 | _::_,[],_,h,_=>by cases h
 | [],_::_,[],_,h=>by cases h
 | _::_,_::_,[],_,h=>by cases h
 | [],_::_,_::_,_,_=>rfl
 | a::x,b::y,c::z,h,k=>by
  rw[xU]at h k⊢;rcases h with h | ⟨rfl,h⟩
  ·rcases k with k | ⟨rfl,_⟩
   ·exact .inl (by omega)
   ·exact .inl h
  ·rcases k with k | ⟨rfl,k⟩
   ·exact .inl k
   ·exact .inr ⟨rfl,tC h k⟩
theorem xV: ∀{x y:List UInt8},Op.bytesLess x y=false->Op.bytesLess y x=false->x=y
 | [],[],_,_=>rfl
 | [],_::_,h,_=>by cases h
 | _::_,[],_,h=>by cases h
 | a::x,b::y,h,k=>by
  rw[TS,ne_eq,xU]at h k;have e:a=b:=VQ.1 (by
   have h1: ¬a.toNat<b.toNat:=fun e=>h (.inl e);have h2: ¬b.toNat<a.toNat:=fun e=>k (.inl e);omega)
  subst e;rw[xV (x:=x) (y:=y) (by rw[TS];exact fun e=>h (.inr ⟨rfl,e⟩)) (by rw[TS];exact fun e=>k (.inr ⟨rfl,e⟩))]
theorem HP: ∀(x y:List UInt8),(compareBytes x y<0↔Op.bytesLess x y=true)/\(compareBytes x y=0↔x=y)/\(0<compareBytes x y↔Op.bytesLess y x=true)
 | [],[]=>by decide
 | [],b::y=>⟨by simp[compareBytes,Op.bytesLess],by simp[compareBytes],by simp[compareBytes,Op.bytesLess]⟩
 | a::x,[]=>⟨by simp[compareBytes,Op.bytesLess],by simp[compareBytes],by simp[compareBytes,Op.bytesLess]⟩
 | a::x,b::y=>by
  obtain⟨h1,h2,h3⟩:=HP x y;unfold compareBytes;rw[xU,xU];by_cases hab:a<b
  ·rw[if_pos hab];have:=Vi.1 hab;refine⟨⟨fun _=> .inl this,fun _=>by omega⟩,⟨fun h=>by omega,fun h=> ?_⟩,⟨fun h=>by omega,fun h=> ?_⟩⟩
   ·injection h with h;subst h;omega
   ·rcases h with h | ⟨h,_⟩
    ·omega
    ·subst h;omega
  ·rw[if_neg hab];by_cases hba:b<a
   ·rw[if_pos hba];have:=Vi.1 hba;refine⟨⟨fun h=>by omega,fun h=> ?_⟩,⟨fun h=>by omega,fun h=> ?_⟩,⟨fun _=> .inl this,fun _=>by omega⟩⟩
    ·rcases h with h | ⟨h,_⟩
     ·omega
     ·subst h;omega
    ·injection h with h;subst h;omega
   ·rw[if_neg hba];have e:a=b:=VQ.1 (by
     have k1: ¬a.toNat<b.toNat:=fun h=>hab (Vi.2 h);have k2: ¬b.toNat<a.toNat:=fun h=>hba (Vi.2 h);omega)
    subst e;rw[h1,h2,h3];simp
theorem CD(x y:ByteArray): ∃r,strings_Compare x y=some r/\decide (r<0)=lg x y/\(r==0)=(x.toList==y.toList):=by
 obtain⟨h1,h2,_⟩:=HP x.data.toList y.data.toList;refine⟨_,rfl,?_,?_⟩
 ·unfold lg;rw[toList_eq,toList_eq];cases hb:Op.bytesLess x.data.toList y.data.toList
  ·rw[decide_eq_false_iff_not,h1,hb];simp
  ·rw[decide_eq_true_eq,h1,hb]
 ·rw[toList_eq,toList_eq];cases hb:(x.data.toList==y.data.toList)
  ·rw[beq_eq_false_iff_ne]at hb;rw[beq_eq_false_iff_ne];exact fun h=>hb (h2.1 h)
  ·rw[beq_iff_eq]at hb;rw[beq_iff_eq];exact h2.2 hb
theorem xy(x:ByteArray):lg x x=false:=pc _
theorem FO{x y z:ByteArray}(h:lg x y=true)(k:lg y z=true):lg x z=true:=tC h k
theorem RP{a b:Nat}(h:a+b<=1000000000):ap (VB (IntKind.wrap .u64 (ap ((a:Int)+(b:Int)))) (2^1))=(((a+b)/2:Nat):Int):=by
 rw[az (n:=(a:Int)+(b:Int)) (by omega) (by omega)];have e:IntKind.wrap .u64 ((a:Int)+(b:Int))=((a+b:Nat):Int):=by
  rw[IntKind.wrap_u64];omega
 rw[e,show(2:Int)^1=2 from rfl,Int.fdiv_eq_ediv_of_nonneg _ (by omega)];have:((a+b:Nat):Int)/2=(((a+b)/2:Nat):Int):=by omega
 rw[this];exact az (by omega) (by omega)
theorem Sn{α:Type}{L:List α}(hL:L.length<=1000000)(p:α->Bool)(hmono: ∀(i j:Nat) x y,i<=j->L[i]? =some x->L[j]? =some y->p y=true->p x=true)
  {B:Int×Int->Option ((Int×Int)⊕Int)} (hB: ∀(lo hi:Nat) (x:α),lo<hi->hi<=L.length->L[(lo+hi)/2]? =some x->B ((lo:Int),(hi:Int))=some (.inl (bif p x then((((lo+hi)/2+1:Nat):Int),(hi:Int))else((lo:Int),(((lo+hi)/2:Nat):Int))))) (hE: ∀(lo:Nat),B ((lo:Int),(lo:Int))=some (.inr (lo:Int))):
  ∃k:Nat,loop B (0,(L.length:Int))=some (k:Int)/\k<=L.length/\(∀(i:Nat) x,i<k->L[i]? =some x->p x=true)/\ ∀(i:Nat) x,k<=i->L[i]? =some x->p x=false:=by
 have:=yD (body:=B) (fun s=> ∃lo hi:Nat,s=((lo:Int),(hi:Int))/\lo<=hi/\hi<=L.length/\(∀(i:Nat) x,i<lo->L[i]? =some x->p x=true)/\ ∀(i:Nat) x,hi<=i->L[i]? =some x->p x=false)
  (fun s=>(s.2 - s.1).toNat) (fun r=> ∃k:Nat,r=(k:Int)/\k<=L.length/\(∀(i:Nat) x,i<k->L[i]? =some x->p x=true)/\ ∀(i:Nat) x,k<=i->L[i]? =some x->p x=false)
  (fun s ⟨lo,hi,hs,h1,h2,h3,h4⟩=>by
   subst hs;by_cases hlt:lo<hi
   ·have hx:L[(lo+hi)/2]? =some (L[(lo+hi)/2]'(by omega)):=Tk _;generalize L[(lo+hi)/2]'(by omega)=x at hx;refine .inl ⟨_,hB lo hi x hlt h2 hx,?_,?_⟩
    ·cases hp:p x
     ·exact⟨lo,(lo+hi)/2,rfl,by omega,by omega,h3,fun i y hi' hy=>by
       cases hq:p y with
       | false=>rfl
       | true=>
        have:=hmono ((lo+hi)/2) i x y hi' hx hy hq;rw[hp]at this;cases this⟩
     ·exact⟨(lo+hi)/2+1,hi,rfl,by omega,h2,fun i y hi' hy=>hmono i ((lo+hi)/2) y x (by omega) hy hx hp,h4⟩
    ·cases p x<;>simp<;>omega
   ·obtain rfl:lo=hi:=by omega
    exact .inr ⟨_,hE lo,lo,rfl,h2,h3,h4⟩)
  (s:=(0,(L.length:Int))) ⟨0,L.length,rfl,Ul _,TA _,fun i x h=>by omega,fun i x h hx=>by
   have:=(Tl.1 hx).1;omega⟩
 obtain⟨r,h1,k,rfl,h2,h3,h4⟩:=this;exact⟨k,h1,h2,h3,h4⟩
def K2(L:List Site):Prop:= ∀(i j:Nat) x y,i<j->L[i]? =some x->L[j]? =some y->lg x.Code y.Code=true
theorem fr{L:List Site}(h:mE L=some true):K2 L/\(∀x∈L,jO x.Code=true/\jw x.At=true)/\L.length<=10:=by
 unfold mE at h;have hf: ∀(M:List Site) (k:Nat),cr (nZ L) (fun _ _=>false) M k=none\/cr (nZ L) (fun _ _=>false) M k=some false:=by
  intro M
  induction M with
  | nil=>exact fun k=> .inl rfl
  | cons x M ih=>
   intro k;unfold cr;cases nZ L k x
   ·exact ih (k+1)
   ·exact .inr rfl
 have hall: ∀(M:List Site) (k:Nat),cr (nZ L) (fun _ _=>false) M k=none-> ∀(i:Nat) x,M[i]? =some x->nZ L (k+i) x=false:=by
  intro M
  induction M with
  | nil=>intro k _ i x hx;simp at hx
  | cons y M ih=>
   intro k hn i x hx;unfold cr at hn;cases hs:nZ L k y
   ·rw[hs,cond_false]at hn;cases i with
    | zero=>
     injection hx with hx;subst hx;exact hs
    | succ i=>
     have:=ih (k+1) hn i x (by simpa using hx)
     rwa [show k+1+i=k+(i+1) by omega]at this
   ·rw[hs]at hn;cases hn
 rcases hf L 0 with h0 | h0
 ·rw[h0]at h;have h10:=of_decide_eq_true (Um.inj h);have hn:=hall L 0 h0;have hstep: ∀(i:Nat) x y,L[i]? =some x->L[i+1]? =some y->lg x.Code y.Code=true:=by
   intro i x y hx hy;have:=hn (i+1) y hy;unfold nZ at this;rw[Uz,Uz]at this;have h3:=this.2.2;rw[decide_eq_true (by omega:((0+(i+1):Nat):Int)>0),Uy,show 0+(i+1)- 1=i by omega,hx]at h3;unfold lg;simpa using h3
  refine⟨?_,fun x hx=> ?_,by omega⟩
  ·intro i j x y hij hx hy;obtain⟨d,rfl⟩: ∃d,j=i+1+d:=⟨j - i - 1,by omega⟩
   induction d generalizing y with
   | zero=>exact hstep i x y hx hy
   | succ d ih=>
    have hlt:i+1+d<L.length:=by
     have:=(Tl.1 hy).1;omega
    have hz:L[i+1+d]? =some (L[i+1+d]'hlt):=Tk _;exact FO (ih (L[i+1+d]'hlt) (by omega) hz) (hstep (i+1+d) _ y hz hy)
  ·obtain⟨i,hi⟩:=Uq.1 hx;have:=hn i x hi;unfold nZ at this;rw[Uz,Uz]at this;exact⟨by simpa using this.1,by simpa using this.2.1⟩
 ·rw[h0]at h;cases h
def gX(c:ByteArray)(s:Site):Bool:=s.Code.toList==c.toList
theorem uM{L:List Site}(hL:L.length<=1048576)(c:ByteArray):fx L c=some (iG (gX c) L):=by
 unfold fx;exact gg (by omega) (gX c) (fun i x hx=>by rw[aG,hx];rfl)
def qS(L:List Site)(c:ByteArray):aF×Bool:=match L.find? (gX c)with
 | some s=>(s.At,true)
 | none=>(aF.mk 0 0,false)
theorem qf{L:List Site}(hL:L.length<=10)(hs:K2 L)(c:ByteArray):eH L c=some (qS L c):=by
 have hmono: ∀(i j:Nat) (x y:Site),i<=j->L[i]? =some x->L[j]? =some y->lg y.Code c=true->lg x.Code c=true:=by
  intro i j x y hij hx hy h;rcases Nat.lt_or_eq_of_le hij with hlt | rfl
  ·exact FO (hs i j x y hlt hx hy) h
  ·rw[hx]at hy;injection hy with hy;rw[hy];exact h
 have hcmp: ∀x:Site,∃r,gy x c=some r/\decide (r<0)=lg x.Code c/\(r==0)=gX c x:=by
  intro x;obtain⟨r,h1,h2,h3⟩:=CD x.Code c;exact⟨r,by unfold gy;rw[h1];rfl,h2,h3⟩
 have hloop:=Sn (L:=L) (by omega) (fun x=>lg x.Code c) hmono (B:=fun(s3:Int×Int)=>(bif(decide (s3.1<s3.2))then((at' L (ap (VB (IntKind.wrap .u64 (ap (s3.1+s3.2))) (2^1)))).bind fun x5=>((gy x5 c).bind fun x6=>(bif(decide (x6<0))then some (.inl ((ap ((ap (VB (IntKind.wrap .u64 (ap (s3.1+s3.2))) (2^1)))+1)),s3.2))else some (.inl (s3.1,(ap (VB (IntKind.wrap .u64 (ap (s3.1+s3.2))) (2^1))))))))else some (.inr s3.1)))
  (fun lo hi x hlt hhi hx=>by
   simp only[RP (show lo+hi<=1000000000 by omega),aG,hx,Ti,decide_eq_true (show(lo:Int)<hi by omega),cond_true];obtain⟨r,h1,h2,_⟩:=hcmp x;rw[h1,Ti,h2,az (by omega) (by omega)];cases lg x.Code c
   ·rfl
   ·simp only[cond_true];congr 3)
  (fun lo=>by simp only[decide_eq_false (show ¬(lo:Int)<lo by omega),cond_false])
 obtain⟨k,h1,h2,h3,h4⟩:=hloop;unfold eH cw;rw[h1,Ti];by_cases hk:k<L.length
 ·have hx:L[k]? =some (L[k]'hk):=Tk _;generalize L[k]'hk=x at hx;obtain⟨r,e1,_,e3⟩:=hcmp x;rw[decide_eq_true (show(k:Int)<L.length by omega),cond_true,aG,hx,Ti,e1,Ti,e3];simp only[Ti];cases hc:gX c x
  ·have hnone:L.find? (gX c)=none:=by
    rw[Vs];intro y hy;obtain⟨i,hi⟩:=Uq.1 hy;intro hcy;have hyc:y.Code=c:=fT.1 hcy;rcases Vf i k with h | h | h
    ·have:=h3 i y h hi;rw[hyc,xy]at this;cases this
    ·subst h;rw[hx]at hi;injection hi with hi;rw[hi,hcy]at hc;cases hc
    ·have h5:=hs k i x y h hx hi;rw[hyc]at h5;have:=h4 k x (TA _) hx;rw[h5]at this;cases this
   unfold qS;rw[hnone];rfl
  ·have hsome:L.find? (gX c)=some x:=by
    rw[List.find?_eq_some_iff_getElem];refine⟨hc,k,hk,?_,fun j hj=> ?_⟩
    ·rw[Tk hk]at hx;exact Um.inj hx
    ·have hy:L[j]? =some (L[j]'(by omega)):=Tk _;have:=h3 j _ hj hy;generalize L[j]'(by omega)=y at this;cases hcy:gX c y with
     | false=>rfl
     | true=>
      rw[show y.Code=c from fT.1 hcy,xy]at this;cases this
   unfold qS;rw[hsome];simp only[TO,cond_false,aG,hx,Ti]
 ·have hnone:L.find? (gX c)=none:=by
   rw[Vs];intro y hy;obtain⟨i,hi⟩:=Uq.1 hy;intro hcy;have:=h3 i y (by have:=(Tl.1 hi).1;omega) hi;rw[show y.Code=c from fT.1 hcy,xy]at this;cases this
  rw[decide_eq_false (show ¬(k:Int)<L.length by omega),cond_false,Ti];unfold qS;rw[hnone];rfl
section
variable {α A : Type}
theorem MV{L:List α}(hL:L.length<=9223372036854775807){B:Int->Unit->Option (Unit⊕A)}{D:Unit->A}(p:α->Bool)(a:A)(h: ∀(i:Nat) x,L[i]? =some x->B (i:Int) ()=bif p x then some (.inr a)else some (.inl ())):
  de (L.length:Int) B D 0 ()=bif L.any p then some a else some (D ()):=by
 rw[lN L hL B (fun _ x _=>bif p x then some (.inr a)else some (.inl ())) _ () (fun j x _ hx=>h j x hx),Ax];cases L.any p<;>rfl
end
abbrev kQ:ByteArray:=Tj #[109,105,108,101]
abbrev qW:ByteArray:=Tj #[109,105,108,101,115]
abbrev nI:ByteArray:=Tj #[108,101,97,103,117,101]
abbrev ln:ByteArray:=Tj #[108,101,97,103,117,101,115]
abbrev tNo:ByteArray:=Tj #[]
def qG(u:ByteArray)(c:Int):Bool:=bif c==1 then(u.toList==kQ.toList) || (u.toList==nI.toList)else(u.toList==qW.toList) || (u.toList==ln.toList)
def lq(u:ByteArray)(c:Int):Int:=bif c==1 then(bif u.toList==kQ.toList then 4 else bif u.toList==nI.toList then 12 else 0)else(bif u.toList==qW.toList then 4 else bif u.toList==ln.toList then 12 else 0)
theorem MI(u:ByteArray)(c:Int):nT u c=some (qG u c):=by
 unfold nT qG;cases (c==1)<;>rfl
theorem Nu(u:ByteArray)(c:Int):decide (lq u c>0)=qG u c:=by
 unfold lq qG;cases (c==1)<;>simp only[cond_true,cond_false]
 ·cases (u.toList==qW.toList)<;>cases (u.toList==ln.toList)<;>rfl
 ·cases (u.toList==kQ.toList)<;>cases (u.toList==nI.toList)<;>rfl
theorem Ju(l m:List UInt8)(b:UInt8):((l++[b])==(m++[b]))=(l==m):=by
 rw[Va,beq_iff_eq,beq_iff_eq,List.append_left_inj]
theorem yN(l:List UInt8):(Tj l.toArray).toList=l:=by rw[toList_eq]
theorem OY:kQ.toList=[109,105,108,101]:=yN _
theorem LZ:qW.toList=[109,105,108,101]++[115]:=yN _
theorem Jg:nI.toList=[108,101,97,103,117,101]:=yN _
theorem FY:ln.toList=[108,101,97,103,117,101]++[115]:=yN _
theorem F5(u:ByteArray)(c:Int)(hu:u.size<=1048576):mM u c=some (lq u c):=by
 unfold mM lq;rw[OY,LZ,Jg,FY];cases hc:(c==1)with
 | true=>
  rw[show(c !=1)=false by rw[bne,hc];rfl];simp only[cond_false,cond_true,Ti,T6];cases (u.toList==[109,105,108,101])<;>cases (u.toList==[108,101,97,103,117,101])<;>rfl
 | false=>
  rw[show(c !=1)=true by rw[bne,hc];rfl];simp only[cond_false,cond_true];have hsz:=iw u;rcases List.eq_nil_or_concat u.data.toList with hn | ⟨l,b,hl⟩
  ·have h0:u.size=0:=by rw[<-hsz,hn];rfl
   have hu0:u.toList=[]:=by rw[toList_eq,hn]
   rw[h0,hu0];rfl
  ·rw[List.concat_eq_append]at hl;have hs:u.size=l.length+1:=by rw[<-hsz,hl];simp
   have e0:((u.size:Int)==0)=false:=by rw[beq_eq_false_iff_ne];omega
   have e1:ap ((u.size:Int)- 1)=(l.length:Int):=by rw[az (by omega) (by omega)];omega
   have e2:cQ u (l.length:Int)=some (b.toNat:Int):=pr (by rw[hl,Ts (TA _)];simp);have e3:km u 0 (l.length:Int)=some ⟨l.toArray⟩:=by
    have:=AT (s:=u) (a:=0) (b:=l.length) (Ul _) (by omega);rw[hl]at this;simpa using this
   rw[e0,cond_false,e1,e2,e3];simp only[Ti];have e4:u.toList=l++[b]:=by rw[toList_eq,hl]
   by_cases hb:b=115
   ·subst hb;rw[show(((115:UInt8).toNat:Int) !=115)=false from rfl];simp only[cond_false,Ti,T6,yN];rw[e4,Ju,Ju];cases (l==[109,105,108,101])<;>cases (l==[108,101,97,103,117,101])<;>rfl
   ·have hne:((b.toNat:Int) !=115)=true:=by
     rw[bne_iff_ne];intro h;exact hb (VQ.1 (by rw[show(115:UInt8).toNat=115 from rfl];omega))
    have hx: ∀m:List UInt8,((l++[b])==(m++[115]))=false:=fun m=>by
     rw[beq_eq_false_iff_ne];intro h;have:=List.append_inj_right' h rfl;injection this with this;exact hb this
    rw[hne];simp only[cond_true,Ti,TZ];rw[e4,hx,hx];rfl
structure EW (d:ak):Prop where
 u:d.Unit.size<=1048576
 a:d.A.size<=1048576
 b:d.B.size<=1048576
def noB(s:ByteArray):Bool:=s.toList==tNo.toList
def eN(d:ak):Bool:=jO d.A&&bif d.Kind==2 then inB d.Count 1 99&&(qG d.Unit d.Count&&(inB d.Direction 0 7&&noB d.B))else(d.Count==0)&&(noB d.Unit&&((d.Direction==0)&&bif(d.Kind==0) || (d.Kind==1)then noB d.B else(d.Kind==3)&&(jO d.B&& !(d.A.toList==d.B.toList))))
theorem FD(d:ak)(h:EW d):fX d=some (eN d):=by
 unfold fX eN;have h1:=h.a;have h2:=h.b;simp only[zY d.A (by unfold maxLen;omega),zY d.B (by unfold maxLen;omega),gC,MI,Ti,beq_self_eq_true,Uy,V6];rw[show(d.B.toList==tNo.toList)=noB d.B from rfl,show(d.Unit.toList==tNo.toList)=noB d.Unit from rfl];generalize jO d.A=ca;generalize jO d.B=cb;generalize noB d.B=nb;generalize noB d.Unit=nu;generalize (d.A.toList==d.B.toList)=ab;generalize inB d.Count 1 99=w;generalize qG d.Unit d.Count=u;generalize inB d.Direction 0 7=dr;generalize (d.Count==0)=c0;generalize (d.Direction==0)=d0;cases ca
 ·rfl
 ·cases h2:(d.Kind==2)with
  | true=>
   have hk:d.Kind=2:=by simpa using h2
   rw[hk,show((2:Int)==0)=false from rfl,show((2:Int)==1)=false from rfl];cases w<;>cases u<;>cases dr<;>rfl
  | false=>
   generalize (d.Kind==0)=k0;generalize (d.Kind==1)=k1;generalize (d.Kind==3)=k3;cases k0<;>cases k1<;>cases k3<;>cases c0<;>cases nu<;>cases d0<;>cases cb<;>rfl
theorem F4(d:ak)(h:EW d):eE d=some (eN d):=by
 unfold eE eN;have h1:=h.a;have h2:=h.b;simp only[AK d.A (by unfold maxLen;omega),AK d.B (by unfold maxLen;omega),kc,F5 d.Unit d.Count h.u,Ti,Nu,bne];rw[show(d.B.toList==tNo.toList)=noB d.B from rfl,show(d.Unit.toList==tNo.toList)=noB d.Unit from rfl];generalize jO d.A=ca;generalize jO d.B=cb;generalize noB d.B=nb;generalize noB d.Unit=nu;generalize (d.A.toList==d.B.toList)=ab;generalize inB d.Count 1 99=w;generalize qG d.Unit d.Count=u;generalize inB d.Direction 0 7=dr;generalize (d.Count==0)=c0;generalize (d.Direction==0)=d0;cases ca
 ·rfl
 ·cases (d.Kind==2)with
  | true=>cases w<;>cases u<;>cases dr<;>rfl
  | false=>
   generalize (d.Kind==0)=k0;generalize (d.Kind==1)=k1;generalize (d.Kind==3)=k3;cases k0<;>cases k1<;>cases k3<;>cases c0<;>cases nu<;>cases d0<;>cases cb<;>rfl
theorem DN(L:List Site)(c:ByteArray):(qS L c).2=L.any (gX c):=by
 unfold qS;rw[<-List.isSome_find?];cases L.find? (gX c)<;>rfl
def An(L:List Site)(d:ak):Bool:= !L.any (gX d.A) || ((d.Kind==3)&& !L.any (gX d.B))
def Fu(L:List Site)(ds:List ak)(s ok:Bool):Int:=bif !s || (!ok || ds.any fun d=> !eN d)then 1 else bif ds.any (An L)then 4 else bif decide ((ds.length:Int)>8)then 3 else 0
theorem Nb(d:ak):e8 d=some (bif d.Kind==3 then[d.A,d.B]else[d.A]):=by
 unfold e8;cases (d.Kind==3)<;>rfl
theorem Jt(L:List Site): ∃b,mE L=some b:=by
 unfold mE;cases cr (nZ L) (fun _ _=>false) L 0 with
 | none=>exact⟨_,rfl⟩
 | some r=>exact⟨_,rfl⟩
theorem Aj{L:List Site}{ds:List ak}(hL:L.length<=1048576)(h: ∀x∈L,uP x)(hd:ds.length<=1048576)(hds: ∀x∈ds,EW x)(ok:Bool){s:Bool}(hs:mE L=some s):k8 L ds ok=some (Fu L ds s ok):=by
 unfold k8 Fu cv cD ox;rw[sc hL h,hs,Ti,gg (by omega) (fun d=> !eN d) (fun i x hx=>by rw[aG,hx,Ti,FD x (hds x (Tm hx))];rfl),Ti,kW];cases s
 ·rfl
 ·cases ok
  ·rfl
  ·cases hany:(ds.any fun d=> !eN d)with
   | true=>rfl
   | false=>
    simp only[TO,VW,cond_false,Ti];obtain⟨h1,_,h3⟩:=fr hs;rw[iv (by omega) (An L) 4 (fun i x hx=>by
     rw[aG,hx,Ti,Nb,Ti];have hloop:=MV (L:=bif x.Kind==3 then[x.A,x.B]else[x.A]) (A:=Unit⊕(Unit⊕Int)) (D:=fun _=> .inl ()) (B:=fun(i13:Int) (_:Unit)=>((at' (bif x.Kind==3 then[x.A,x.B]else[x.A]) i13).bind fun x17=>((eH L x17).bind fun x18=>(bif(!x18.2)then some (.inr (.inr (.inr 4)))else some (.inl ()))))) (by cases (x.Kind==3)<;>simp) (fun c=> !L.any (gX c)) (.inr (.inr 4)) (fun j c hc=>by
      rw[aG,hc,Ti,qf h3 h1 c,Ti,DN])
     rw[hloop];unfold An;cases (x.Kind==3)<;>simp)]
    cases ds.any (An L)<;>cases decide ((ds.length:Int)>8)<;>rfl
theorem AQ{L:List Site}{ds:List ak}(hL:L.length<=1048576)(h: ∀x∈L,uP x)(hd:ds.length<=1048576)(hds: ∀x∈ds,EW x){s:Bool}(hs:mE L=some s):o7 L ds=some (Fu L ds s true):=by
 unfold o7 Fu;rw[xF hL h,hs,Ti];cases s
 ·rfl
 ·simp only[TO,cond_false,VW];rw[iv (by omega) (fun d=> !eN d) 1 (fun i x hx=>by rw[aG,hx,Ti,F4 x (hds x (Tm hx))];rfl)];cases hany:(ds.any fun d=> !eN d)with
  | true=>rfl
  | false=>
   simp only[cond_false];rw[iv (by omega) (An L) 4 (fun i x hx=>by
    have hm:=Tm hx;have hdx:eN x=true:=by
     have:=List.any_eq_false.1 hany x hm;simpa using this
    rw[aG,hx,Ti,uM hL,uM hL,Ti,ri,Ti,ri];unfold An;have hB:(!(x.B.toList==tNo.toList))=(x.Kind==3):=by
     unfold eN at hdx;rw[Tp]at hdx;have h4:=hdx.2;cases h2:(x.Kind==2)with
     | true=>
      rw[h2,cond_true]at h4;have hk:x.Kind=2:=by simpa using h2
      simp only[Tp]at h4;have h5:(x.B.toList==tNo.toList)=true:=h4.2.2.2;rw[h5,hk];rfl
     | false=>
      rw[h2,cond_false]at h4;simp only[Tp]at h4;have h5:=h4.2.2.2;cases h01:((x.Kind==0) || (x.Kind==1))with
      | true=>
       rw[h01,cond_true]at h5;have h6:(x.B.toList==tNo.toList)=true:=h5;rw[h6];have hk:x.Kind=0\/x.Kind=1:=by simpa using h01
       rcases hk with hk | hk<;>rw[hk]<;>rfl
      | false=>
       rw[h01,cond_false,Tp,Tp]at h5;rw[h5.1];have hcb:=h5.2.1;unfold jO at hcb;rw[Tp]at hcb;have:=(sM hcb.1).1;rw[xS this];rfl
    rw[hB];cases L.any (gX x.A)<;>cases (x.Kind==3)<;>cases L.any (gX x.B)<;>rfl)]
   cases ds.any (An L)<;>cases decide ((ds.length:Int)>8)<;>rfl
theorem getD_some{x:List ByteArray}{i:Nat}{b:ByteArray}(h:x[i]? =some b):x.getD i tNo=b:=by
 rw[TL,h];rfl
theorem uJ{x y:Int}{m n:Nat}(hx:x.natAbs<=m)(hy:y.natAbs<=n):(x*y).natAbs<=m*n:=by
 rw[Int.natAbs_mul];exact Vx hx hy
theorem bu{x:Int}(h:x.natAbs<=1000000000000000000):ap x=x:=az (by omega) (by omega)
theorem kh{p:aF}(h:jw p=true):p.X.natAbs<=1000/\p.Y.natAbs<=1000:=by
 unfold jw at h;rw[Tp,io,io]at h;omega
theorem rB(x:Int):0<=x*x:=by
 rcases Int.le_total 0 x with h | h
 ·exact Int.mul_nonneg h h
 ·have:=Int.mul_nonneg (a:= -x) (b:= -x) (by omega) (by omega)
  rwa [Int.neg_mul_neg]at this
def sqN(a p:aF):Int:=(a.X - p.X)*(a.X - p.X)+(a.Y - p.Y)*(a.Y - p.Y)
def tuN(a b c:aF):Int:=(b.X - a.X)*(c.Y - a.Y)-(b.Y - a.Y)*(c.X - a.X)
section
variable {a b p : aF}
theorem zu(ha:jw a=true)(hp:jw p=true):0<=sqN a p/\(sqN a p).natAbs<=8000000:=by
 have h1:=kh ha;have h2:=kh hp;have b1:=uJ (x:=a.X - p.X) (y:=a.X - p.X) (m:=2000) (n:=2000) (by omega) (by omega);have b2:=uJ (x:=a.Y - p.Y) (y:=a.Y - p.Y) (m:=2000) (n:=2000) (by omega) (by omega);have c1:=rB (a.X - p.X);have c2:=rB (a.Y - p.Y);unfold sqN;omega
theorem SD(ha:jw a=true)(hp:jw p=true):ap ((ap ((ap (a.X - p.X))*(ap (a.X - p.X))))+(ap ((ap (a.Y - p.Y))*(ap (a.Y - p.Y)))))=sqN a p:=by
 have h1:=kh ha;have h2:=kh hp;have b1:=uJ (x:=a.X - p.X) (y:=a.X - p.X) (m:=2000) (n:=2000) (by omega) (by omega);have b2:=uJ (x:=a.Y - p.Y) (y:=a.Y - p.Y) (m:=2000) (n:=2000) (by omega) (by omega);rw[bu (x:=a.X - p.X) (by omega),bu (x:=a.Y - p.Y) (by omega),bu (x:=(a.X - p.X)*(a.X - p.X)) (by omega),bu (x:=(a.Y - p.Y)*(a.Y - p.Y)) (by omega),bu (by omega)];rfl
theorem Cl(ha:jw a=true)(hp:jw p=true):gK a p=some (sqN a p):=congrArg some (SD ha hp)
theorem Hg(ha:jw a=true)(hp:jw p=true):gB a p=some (sqN a p):=congrArg some (SD ha hp)
theorem JL(ha:jw a=true)(hb:jw b=true)(hp:jw p=true):(tuN a b p).natAbs<=8000000:=by
 have h1:=kh ha;have h2:=kh hp;have h3:=kh hb;have b1:=uJ (x:=b.X - a.X) (y:=p.Y - a.Y) (m:=2000) (n:=2000) (by omega) (by omega);have b2:=uJ (x:=b.Y - a.Y) (y:=p.X - a.X) (m:=2000) (n:=2000) (by omega) (by omega);unfold tuN;omega
theorem SY(ha:jw a=true)(hb:jw b=true)(hp:jw p=true):ap ((ap ((ap (b.X - a.X))*(ap (p.Y - a.Y))))-(ap ((ap (b.Y - a.Y))*(ap (p.X - a.X)))))=tuN a b p:=by
 have h1:=kh ha;have h2:=kh hp;have h3:=kh hb;have b1:=uJ (x:=b.X - a.X) (y:=p.Y - a.Y) (m:=2000) (n:=2000) (by omega) (by omega);have b2:=uJ (x:=b.Y - a.Y) (y:=p.X - a.X) (m:=2000) (n:=2000) (by omega) (by omega);rw[bu (x:=b.X - a.X) (by omega),bu (x:=b.Y - a.Y) (by omega),bu (x:=p.X - a.X) (by omega),bu (x:=p.Y - a.Y) (by omega),bu (x:=(b.X - a.X)*(p.Y - a.Y)) (by omega),bu (x:=(b.Y - a.Y)*(p.X - a.X)) (by omega),bu (by omega)];rfl
theorem Qr(ha:jw a=true)(hb:jw b=true)(hp:jw p=true):vD a b p=some (tuN a b p):=congrArg some (SY ha hb hp)
theorem QX(ha:jw a=true)(hb:jw b=true)(hp:jw p=true):oZ a b p=some (tuN a b p):=congrArg some (SY ha hb hp)
end
def cZ(x:Int):Int:=if x<0 then -x else x
theorem Rb{x:Int}(h:x.natAbs<=1000000000):M1 x (ap (0 - x))=cZ x:=by
 rw[bu (by omega)];unfold M1 cZ;split<;>split<;>omega
theorem uv{x:Int}(h:x.natAbs<=1000000000):nR x=some (cZ x):=congrArg some (Rb h)
theorem Bo{x:Int}(h:x.natAbs<=1000000000):eV x=some (cZ x):=congrArg some (Rb h)
def sgI(x:Int):Int:=if x<0 then -1 else if x=0 then 0 else 1
theorem GM(x:Int):pe x=some (sgI x):=by
 unfold pe sgI;congr 1;unfold M1 sg;split<;>split<;>split<;>(try split)<;>omega
def Q2(i j:Int):Int:=if i= -1 then(if j= -1 then 5 else if j=0 then 4 else 3)else if i=0 then(if j= -1 then 6 else if j=0 then 0 else 2)else(if j= -1 then 7 else if j=0 then 0 else 1)
theorem pg(x:Int):sgI x= -1\/sgI x=0\/sgI x=1:=by
 unfold sgI;split
 ·exact .inl rfl
 ·split
  ·exact .inr (.inl rfl)
  ·exact .inr (.inr rfl)
theorem La(i j:Int)(hi:i= -1\/i=0\/i=1)(hj:j= -1\/j=0\/j=1):((Mg 3 (ap (i+1))).bind fun _=>((Mg 3 (ap (j+1))).bind fun _=>((PS 9 ((0+(Tv (ap (i+1)))*3)+(Tv (ap (j+1)))*1)).bind fun _=>some (LW [5,4,3,6,0,2,7,0,1] ((0+(Tv (ap (i+1)))*3)+(Tv (ap (j+1)))*1)))))=some (Q2 i j):=by
 rw[bu (x:=i+1) (by omega),bu (x:=j+1) (by omega)];rcases hi with rfl | rfl | rfl<;>rcases hj with rfl | rfl | rfl<;>rfl
def qJ(x y:Int):Int:=if 2*cZ x<cZ y/\y>0 then 0 else if 2*cZ x<cZ y then 4 else if 2*cZ y<cZ x/\x>0 then 2 else if 2*cZ y<cZ x then 6 else if x>0/\y>0 then 1 else if x>0 then 3 else if y<0 then 5 else 7
theorem w8(x y:Int):0<=qJ x y/\qJ x y<=7:=by
 unfold qJ
 repeat' split
 all_goals omega
theorem AE{x:Int}(h:x>0):sgI x=1:=by unfold sgI;rw[if_neg (by omega),if_neg (by omega)]
theorem AD{x:Int}(h:x<0):sgI x= -1:=by unfold sgI;rw[if_pos h]
theorem Sd{x y:Int}(c1:2*cZ x<cZ y):Q2 (sgI y) (sgI 0)=qJ x y:=by
 have hy:y≠0:=fun h=>by
  subst h;unfold cZ at c1;split at c1<;>simp at c1<;>omega
 unfold qJ;rcases Wr hy with h | h
 ·rw[if_neg (by omega),if_pos c1,AD h];rfl
 ·rw[if_pos ⟨c1,h⟩,AE h];rfl
theorem Se{x y:Int}(c1: ¬2*cZ x<cZ y)(c2:2*cZ y<cZ x):Q2 (sgI 0) (sgI x)=qJ x y:=by
 have hx:x≠0:=fun h=>by
  subst h;unfold cZ at c2;split at c2<;>simp at c2<;>omega
 unfold qJ;rw[if_neg (fun h=>c1 h.1),if_neg c1];rcases Wr hx with h | h
 ·rw[if_neg (by omega),if_pos c2,AD h];rfl
 ·rw[if_pos ⟨c2,h⟩,AE h];rfl
theorem Sf{x y:Int}(c1: ¬2*cZ x<cZ y)(c2: ¬2*cZ y<cZ x)(hz: ¬(x=0/\y=0)):Q2 (sgI y) (sgI x)=qJ x y:=by
 have ha: ∀z:Int,0<=cZ z/\(cZ z=0↔z=0):=fun z=>by unfold cZ;split<;>omega
 have hx:=ha x;have hy:=ha y;have nx:x≠0:=fun h=>by
  have:=hx.2.2 h;have:cZ y=0:=by omega
  exact hz ⟨h,hy.2.1 this⟩
 have ny:y≠0:=fun h=>by
  have:=hy.2.2 h;have:cZ x=0:=by omega
  exact hz ⟨hx.2.1 this,h⟩
 unfold qJ;rw[if_neg (fun h=>c1 h.1),if_neg c1,if_neg (fun h=>c2 h.1),if_neg c2];rcases Wr nx with h | h<;>rcases Wr ny with k | k
 ·rw[AD h,AD k,if_neg (by omega),if_neg (by omega),if_pos k];rfl
 ·rw[AD h,AE k,if_neg (by omega),if_neg (by omega),if_neg (by omega)];rfl
 ·rw[AE h,AD k,if_neg (by omega),if_pos h];rfl
 ·rw[AE h,AE k,if_pos ⟨h,k⟩];rfl
section
variable {a p : aF}
theorem IB(ha:jw a=true)(hp:jw p=true)(hne: ¬(p.X=a.X/\p.Y=a.Y)):jU a p=some (qJ (p.X - a.X) (p.Y - a.Y)):=by
 have h1:=kh ha;have h2:=kh hp;unfold jU;rw[bu (x:=p.X - a.X) (by omega),bu (x:=p.Y - a.Y) (by omega)];have hx:(p.X - a.X).natAbs<=2000:=by omega
 have hy:(p.Y - a.Y).natAbs<=2000:=by omega
 have hz: ¬(p.X - a.X=0/\p.Y - a.Y=0):=by omega
 generalize p.X - a.X=x at*;generalize p.Y - a.Y=y at*;have ax:(cZ x).natAbs<=2000:=by unfold cZ;split<;>omega
 have ay:(cZ y).natAbs<=2000:=by unfold cZ;split<;>omega
 simp only[uv (show x.natAbs<=1000000000 by omega),uv (show y.natAbs<=1000000000 by omega),Ti,bu (show(2*cZ x).natAbs<=1000000000000000000 by omega),bu (show(2*cZ y).natAbs<=1000000000000000000 by omega)];by_cases c1:2*cZ x<cZ y
 ·simp only[decide_eq_true c1,cond_true,Ti,GM];rw[La _ _ (pg _) (pg _),Sd c1]
 ·simp only[decide_eq_false c1,cond_false];by_cases c2:2*cZ y<cZ x
  ·simp only[decide_eq_true c2,cond_true,Ti,GM];rw[La _ _ (pg _) (pg _),Se c1 c2]
  ·simp only[decide_eq_false c2,cond_false,Ti,GM];rw[La _ _ (pg _) (pg _),Sf c1 c2 hz]
theorem Jy(ha:jw a=true)(hp:jw p=true):dn a p=some (qJ (p.X - a.X) (p.Y - a.Y)):=by
 have h1:=kh ha;have h2:=kh hp;unfold dn;rw[bu (x:=p.X - a.X) (by omega),bu (x:=p.Y - a.Y) (by omega)];have hx:(p.X - a.X).natAbs<=2000:=by omega
 have hy:(p.Y - a.Y).natAbs<=2000:=by omega
 generalize p.X - a.X=x at*;generalize p.Y - a.Y=y at*;have ax:(cZ x).natAbs<=2000:=by unfold cZ;split<;>omega
 have ay:(cZ y).natAbs<=2000:=by unfold cZ;split<;>omega
 simp only[Bo (show x.natAbs<=1000000000 by omega),Bo (show y.natAbs<=1000000000 by omega),Ti,bu (show(2*cZ x).natAbs<=1000000000000000000 by omega),bu (show(2*cZ y).natAbs<=1000000000000000000 by omega)];unfold qJ;by_cases c1:2*cZ x<cZ y<;>by_cases c2:2*cZ y<cZ x<;>by_cases c3:x>0<;>by_cases c4:y>0<;>by_cases c5:y<0<;>simp[c1,c2,c3,c4,c5]
end

theorem GG(s p:ByteArray):strings_HasPrefix s p=some (decide (p.size<=s.size)&&(s.data.toList.take p.size==p.data.toList)):=by
 unfold strings_HasPrefix cC;by_cases h:p.size<=s.size
 ·rw[decide_eq_true (show(s.size:Int)>=(p.size:Int) by omega),decide_eq_true h];have:=AT (s:=s) (a:=0) (b:=p.size) (Ul _) h;rw[show((0:Nat):Int)=0 from rfl]at this;simp only[cond_true,this,Ti,toList_eq,VJ,VT,Uy]
 ·rw[decide_eq_false (show ¬(s.size:Int)>=(p.size:Int) by omega),decide_eq_false h];rfl
theorem Kz(d:ak)(hu:qG d.Unit d.Count=true)(h1:1<=d.Count)(h2:d.Count<=99):fq d=some (d.Count*lq d.Unit d.Count):=by
 unfold fq;rw[GG,Ti];unfold qG lq at*;have e1:ap (4*d.Count)=d.Count*4:=by rw[bu (by omega)];omega
 have e2:ap (12*d.Count)=d.Count*12:=by rw[bu (by omega)];omega
 cases hc:(d.Count==1)
 ·rw[hc,cond_false,TT,fT,fT]at hu;rcases hu with hu | hu
  ·rw[hu,show(decide (kQ.size<=qW.size)&&(qW.data.toList.take kQ.size==kQ.data.toList))=true from rfl,fT.2 rfl];simp only[cond_true,cond_false,e1]
  ·have:(ln.toList==qW.toList)=false:=by rw[FY,LZ];rfl
   rw[hu,show(decide (kQ.size<=ln.size)&&(ln.data.toList.take kQ.size==kQ.data.toList))=false from rfl,fT.2 rfl,this];simp only[cond_true,cond_false,e2]
 ·rw[hc,cond_true,TT,fT,fT]at hu;rcases hu with hu | hu
  ·rw[hu,show(decide (kQ.size<=kQ.size)&&(kQ.data.toList.take kQ.size==kQ.data.toList))=true from rfl,fT.2 rfl];simp only[cond_true,e1]
  ·have:(nI.toList==kQ.toList)=false:=by rw[Jg,OY];rfl
   rw[hu,show(decide (kQ.size<=nI.size)&&(nI.data.toList.take kQ.size==kQ.data.toList))=false from rfl,fT.2 rfl,this];simp only[cond_true,cond_false,e2]
def xB(a p:aF):Bool:=(p.X==a.X)&&(p.Y==a.Y)
theorem O4{a p:aF}(h:xB a p=false): ¬(p.X=a.X/\p.Y=a.Y):=by
 unfold xB at h;rw[Bool.and_eq_false_iff]at h;simp only[beq_eq_false_iff_ne]at h;omega
def EU(x y:Int):Int:=(x - y) % 8
def GX(t:Int):Bool:=(t==0) || ((t==1) || (t==7))
def Iw(d:ak)(a p:aF):Bool:= !xB a p&&(inB (16*sqN a p) (9*(d.Count*lq d.Unit d.Count)*(d.Count*lq d.Unit d.Count)) (25*(d.Count*lq d.Unit d.Count)*(d.Count*lq d.Unit d.Count))&&GX (EU (qJ (p.X - a.X) (p.Y - a.Y)) d.Direction))
theorem Pz(u:ByteArray)(c:Int):0<=lq u c/\lq u c<=12:=by
 unfold lq;cases (c==1)<;>simp only[cond_true,cond_false]
 ·cases (u.toList==qW.toList)<;>cases (u.toList==ln.toList)<;>simp
 ·cases (u.toList==kQ.toList)<;>cases (u.toList==nI.toList)<;>simp
theorem OI{x y:Int}(hx:0<=x/\x<=7)(hy:0<=y/\y<=7):Ug (ap ((ap (x - y))+8)) 8=EU x y:=by
 rw[bu (x:=x - y) (by omega),bu (by omega),US (by omega)];unfold EU;omega
theorem OJ{x y:Int}(hx:0<=x/\x<=7)(hy:0<=y/\y<=7):ob (ap (x - y)) 8=some (EU x y):=by
 unfold ob;rw[Rk (by decide),Ti,Ti,bu (x:=x - y) (by omega)];congr 1;unfold EU;have h1:Ug (x - y) 8=x - y:=by
  rcases Int.le_total 0 (x - y)with h | h
  ·rw[US h];omega
  ·have:=Int.neg_tmod (x - y) 8;have h2:Ug (-(x - y)) 8= -(x - y):=by rw[US (by omega)];omega
   rw[h2]at this;omega
 rw[h1,bu (by omega),US (by omega)];omega
section
variable {a b p : aF} {d : ak}
theorem Ga(hu:1<=d.Count/\d.Count<=99):0<=d.Count*lq d.Unit d.Count/\(d.Count*lq d.Unit d.Count).natAbs<=1188:=by
 have h:=Pz d.Unit d.Count;exact⟨Int.mul_nonneg (by omega) h.1,uJ (m:=99) (n:=12) (by omega) (by omega)⟩
theorem MG(ha:jw a=true)(hp:jw p=true)(hu:qG d.Unit d.Count=true)(h1:1<=d.Count/\d.Count<=99)(h2:0<=d.Direction/\d.Direction<=7):dB d a p=some (Iw d a p):=by
 unfold dB Iw;obtain⟨w0,w1⟩:=Ga h1;obtain⟨s0,s1⟩:=zu ha hp;rw[Kz d hu h1.1 h1.2,Ti,Cl ha hp,Ti,show((p.X==a.X)&&(p.Y==a.Y))=xB a p from rfl];generalize hn:d.Count*lq d.Unit d.Count=n at*;have b1:=uJ (x:=9*n) (y:=n) (m:=10692) (n:=1188) (by omega) (by omega);have b2:=uJ (x:=25*n) (y:=n) (m:=29700) (n:=1188) (by omega) (by omega);rw[bu (x:=16*sqN a p) (by omega),bu (x:=9*n) (by omega),bu (x:=25*n) (by omega),bu (x:=9*n*n) (by omega),bu (x:=25*n*n) (by omega),gC];cases hs:xB a p with
 | true=>rfl
 | false=>
  rw[IB ha hp (O4 hs)];simp only[cond_false,Ti,OI (w8 _ _) h2];cases inB (16*sqN a p) (9*n*n) (25*n*n)<;>rfl
theorem DP(ha:jw a=true)(hp:jw p=true)(h1:1<=d.Count/\d.Count<=99)(h2:0<=d.Direction/\d.Direction<=7){R:Type}:
  (bif((decide ((ap (16*sqN a p))<(ap ((ap (9*(ap (d.Count*lq d.Unit d.Count))))*(ap (d.Count*lq d.Unit d.Count)))))) || ((decide ((ap (16*sqN a p))>(ap ((ap (25*(ap (d.Count*lq d.Unit d.Count))))*(ap (d.Count*lq d.Unit d.Count)))))) || ((p.X==a.X)&&(p.Y==a.Y))))then some (U4 false:R⊕Bool)else((dn a p).bind fun x7=>((ob (ap (x7 - d.Direction)) 8).bind fun x8=>some (.inr ((x8==0) || ((x8==1) || (x8==7)))))))=some (.inr (Iw d a p)):=by
 obtain⟨w0,w1⟩:=Ga h1;obtain⟨s0,s1⟩:=zu ha hp;unfold Iw;rw[show((p.X==a.X)&&(p.Y==a.Y))=xB a p from rfl];generalize hn:d.Count*lq d.Unit d.Count=n at*;have b1:=uJ (x:=9*n) (y:=n) (m:=10692) (n:=1188) (by omega) (by omega);have b2:=uJ (x:=25*n) (y:=n) (m:=29700) (n:=1188) (by omega) (by omega);rw[bu (x:=16*sqN a p) (by omega),bu (x:=n) (by omega),bu (x:=9*n) (by omega),bu (x:=25*n) (by omega),bu (x:=9*n*n) (by omega),bu (x:=25*n*n) (by omega),Jy ha hp,Ti,OJ (w8 _ _) h2,Ti];rw[show inB (16*sqN a p) (9*n*n) (25*n*n)= !(decide (16*sqN a p<9*n*n) || decide (16*sqN a p>25*n*n)) by
  rw[Va,io];simp<;>omega]
 rw[show((EU (qJ (p.X - a.X) (p.Y - a.Y)) d.Direction==0) || ((EU (qJ (p.X - a.X) (p.Y - a.Y)) d.Direction==1) || (EU (qJ (p.X - a.X) (p.Y - a.Y)) d.Direction==7)))=GX (EU (qJ (p.X - a.X) (p.Y - a.Y)) d.Direction)from rfl];generalize decide (16*sqN a p<9*n*n)=q1;generalize decide (16*sqN a p>25*n*n)=q2;generalize GX (EU (qJ (p.X - a.X) (p.Y - a.Y)) d.Direction)=q3;cases q1<;>cases q2<;>cases xB a p<;>cases q3<;>rfl
def Gh(a b p:aF):Int:=(p.X - a.X)*(b.X - a.X)+(p.Y - a.Y)*(b.Y - a.Y)
def HE(a b p:aF):Bool:=bif xB b a then xB a p else inB (Gh a b p) 0 (sqN a b)&&decide (4*cZ (tuN a b p)<=sqN a b)
theorem Ln(ha:jw a=true)(hb:jw b=true)(hp:jw p=true):ap ((ap ((ap (p.X - a.X))*(ap (b.X - a.X))))+(ap ((ap (p.Y - a.Y))*(ap (b.Y - a.Y)))))=Gh a b p:=by
 have h1:=kh ha;have h2:=kh hp;have h3:=kh hb;have b1:=uJ (x:=p.X - a.X) (y:=b.X - a.X) (m:=2000) (n:=2000) (by omega) (by omega);have b2:=uJ (x:=p.Y - a.Y) (y:=b.Y - a.Y) (m:=2000) (n:=2000) (by omega) (by omega);rw[bu (x:=p.X - a.X) (by omega),bu (x:=b.X - a.X) (by omega),bu (x:=p.Y - a.Y) (by omega),bu (x:=b.Y - a.Y) (by omega),bu (x:=(p.X - a.X)*(b.X - a.X)) (by omega),bu (x:=(p.Y - a.Y)*(b.Y - a.Y)) (by omega),bu (by omega)];rfl
theorem ME(ha:jw a=true)(hb:jw b=true)(hp:jw p=true):jV a b p=some (HE a b p):=by
 unfold jV HE;have ht:=JL ha hb hp;have hab:(cZ (tuN a b p)).natAbs<=8000000:=by unfold cZ;split<;>omega
 rw[show((a.X==b.X)&&(a.Y==b.Y))=xB b a from rfl,Ln ha hb hp,Cl ha hb,Qr ha hb hp];simp only[Ti,gC,uv (show(tuN a b p).natAbs<=1000000000 by omega),bu (show(4*cZ (tuN a b p)).natAbs<=1000000000000000000 by omega)];cases xB b a
 ·cases inB (Gh a b p) 0 (sqN a b)<;>rfl
 ·rfl
theorem SC(t A:Int)(hA:0<=A):decide (16*t*t<=A*A)=decide (4*cZ t<=A):=by
 have e1:16*t*t=(4*cZ t)*(4*cZ t):=by
  have:cZ t*cZ t=t*t:=by
   unfold cZ;split
   ·rw[Int.neg_mul_neg]
   ·rfl
  rw[show(4*cZ t)*(4*cZ t)=16*(cZ t*cZ t) by rw[Int.mul_assoc,show cZ t*(4*cZ t)=4*(cZ t*cZ t)from Int.mul_left_comm _ _ _];omega,this,Int.mul_assoc]
 have h0:0<=4*cZ t:=by unfold cZ;split<;>omega
 rw[e1];generalize 4*cZ t=x at*;obtain⟨m,rfl⟩:=Ui h0;obtain⟨n,rfl⟩:=Ui hA;rw[decide_eq_decide];constructor
 ·intro h;have h2:m*m<=n*n:=by exact_mod_cast h
  have:=Nat.mul_self_le_mul_self_iff.1 h2;omega
 ·intro h;have h2:m<=n:=by omega
  have:=Nat.mul_self_le_mul_self h2
  exact_mod_cast this
theorem Nj(ha:jw a=true)(hb:jw b=true)(hp:jw p=true):lE a b p=some (HE a b p):=by
 unfold lE HE;have ht:=JL ha hb hp;obtain⟨s0,s1⟩:=zu ha hb;have b1:=uJ (x:=16*tuN a b p) (y:=tuN a b p) (m:=128000000) (n:=8000000) (by omega) (by omega);have b2:=uJ (x:=sqN a b) (y:=sqN a b) (m:=8000000) (n:=8000000) (by omega) (by omega);rw[show((a.X==b.X)&&(a.Y==b.Y))=xB b a from rfl,Ln ha hb hp,Hg ha hb,QX ha hb hp];simp only[Ti,kc];rw[bu (x:=16*tuN a b p) (by omega),bu (x:=16*tuN a b p*tuN a b p) (by omega),bu (x:=sqN a b*sqN a b) (by omega),SC _ _ s0];cases xB b a
 ·cases inB (Gh a b p) 0 (sqN a b)<;>rfl
 ·rfl
end
def QU(L:List Site)(d:ak)(p:aF):Bool:=
 let a:=(qS L d.A).1
 bif d.Kind==0 then xB a p else bif d.Kind==1 then decide (sqN a p<=64)else bif d.Kind==2 then Iw d a p else HE a (qS L d.B).1 p
theorem vT{L:List Site}{c:ByteArray}(h:L.any (gX c)=true): ∃s,s∈L/\at' L (iG (gX c) L)=some s/\qS L c=(s.At,true):=by
 rcases yf (gX c) L with⟨_,h2⟩ | ⟨i,x,h1,h2,h3⟩
 ·rw[<-List.isSome_find?,h2]at h;cases h
 ·refine⟨x,Tm h2,by rw[h1,aG,h2],?_⟩;unfold qS;rw[h3]
theorem pd{d:ak}(h:eN d=true)(hk:d.Kind=2):qG d.Unit d.Count=true/\(1<=d.Count/\d.Count<=99)/\0<=d.Direction/\d.Direction<=7:=by
 unfold eN at h;rw[hk,show((2:Int)==2)=true from rfl,cond_true]at h;simp only[Tp,io]at h;exact⟨h.2.2.1,h.2.1,h.2.2.2.1⟩
theorem nd{d:ak}(h:eN d=true):d.Kind=0\/d.Kind=1\/d.Kind=2\/d.Kind=3:=by
 unfold eN at h;cases h2:(d.Kind==2)
 ·rw[h2,cond_false]at h;simp only[Tp]at h;have h5:=h.2.2.2.2;cases h01:((d.Kind==0) || (d.Kind==1))with
  | true=>
   simp only[TT,beq_iff_eq]at h01;omega
  | false=>
   rw[h01,cond_false,Tp]at h5;have:d.Kind=3:=by simpa using h5.1
   omega
 ·have:d.Kind=2:=by simpa using h2
  omega
section
variable {L : List Site} {d : ak} {p : aF}
theorem Ol(hL:L.length<=10)(hs:K2 L)(hpt: ∀x∈L,jO x.Code=true/\jw x.At=true)(hd:eN d=true)(hl:An L d=false)(hp:jw p=true):mr L d p=some (QU L d p):=by
 unfold An at hl;rw[Uz]at hl;obtain⟨sA,mA,_,eA⟩:=vT (L:=L) (c:=d.A) (by simpa using hl.1);have pA:=(hpt sA mA).2;unfold mr QU;rw[qf hL hs,qf hL hs,Ti,eA,Cl pA hp];simp only[Ti];rw[show((p.X==sA.At.X)&&(p.Y==sA.At.Y))=xB sA.At p from rfl];rcases nd hd with hk | hk | hk | hk
 ·rw[hk];rfl
 ·rw[hk];rfl
 ·obtain⟨h1,h2,h3⟩:=pd hd hk;rw[MG pA hp h1 h2 h3,hk];rfl
 ·obtain⟨sB,mB,_,eB⟩:=vT (L:=L) (c:=d.B) (by rw[hk]at hl;simpa using hl.2);have pB:=(hpt sB mB).2;rw[eB,ME pA pB hp,hk];rfl
theorem Pe(hL:L.length<=10)(hpt: ∀x∈L,jO x.Code=true/\jw x.At=true)(hu:d.Unit.size<=1048576)(hd:eN d=true)(hl:An L d=false)(hp:jw p=true):gV L d p=some (QU L d p):=by
 unfold An at hl;rw[Uz]at hl;obtain⟨sA,mA,aA,eA⟩:=vT (L:=L) (c:=d.A) (by simpa using hl.1);have pA:=(hpt sA mA).2;unfold gV QU;rw[uM (by omega),uM (by omega),Ti,aA,Ti,eA,Hg pA hp,Ti];rcases nd hd with hk | hk | hk | hk
 ·rw[hk];rfl
 ·rw[hk];rfl
 ·obtain⟨h1,h2,h3⟩:=pd hd hk;rw[F5 d.Unit d.Count hu,Ti,DP pA hp h2 h3,hk];rfl
 ·obtain⟨sB,mB,aB,eB⟩:=vT (L:=L) (c:=d.B) (by rw[hk]at hl;simpa using hl.2);have pB:=(hpt sB mB).2;simp only[Ti,aB];rw[eB,Nj pA pB hp,hk];rfl
end
abbrev tAt:ByteArray:=Tj #[97,116]
abbrev oK:ByteArray:=Tj #[110,101,97,114]
abbrev tz:ByteArray:=Tj #[98,101,116,119,101,101,110]
abbrev wH:ByteArray:=Tj #[97,110,100]
abbrev tOf:ByteArray:=Tj #[111,102]
def mQ(i:Int):ByteArray:=da.getD i.toNat tNo
theorem xN{i:Int}(h0:0<=i)(h7:i<=7):at' da i=some (mQ i)/\(mQ i).size<=9/\32∉(mQ i).data.toList/\iG (fun x:ByteArray=>x.toList==(mQ i).toList) da=i:=by
 obtain⟨m,rfl⟩:=Ui h0;have hm:m<8:=by omega
 have h9: ∀k:Fin 8,(da.getD k.val tNo).size<=9/\32∉(da.getD k.val tNo).data.toList:=by decide
 have hl:da.length=8:=rfl;have hd: ∀i j:Fin 8,((da.getD i.val tNo).data.toList==(da.getD j.val tNo).data.toList)=decide (i=j):=by decide
 have h1:=h9 ⟨m,hm⟩;have hget: ∀(k:Nat) (h:k<da.length),da.getD k tNo=da[k]:=fun k h=>by
  rw[TL,Tk h];rfl
 refine⟨?_,h1.1,h1.2,?_⟩
 ·rw[aG,Tk (by omega),<-hget m (by omega)];rfl
 ·have key: ∀(L:List ByteArray) (p:ByteArray->Bool) (m:Nat),m<L.length->(∀k,k<L.length->p (L.getD k tNo)=decide (k=m))->iG p L=(m:Int):=by
   intro L p
   induction L with
   | nil=>intro m h;simp at h
   | cons x L ih=>
    intro m hm hp;unfold iG;have h0:=hp 0 (by simp);rw[List.getD_cons_zero]at h0;rw[h0];cases m with
    | zero=>rfl
    | succ m=>
     have:=ih m (by simpa using hm) (fun k hk=>by
      have:=hp (k+1) (by simpa using hk);rw[List.getD_cons_succ]at this;rw[this];simp)
     rw[decide_eq_false (by omega),cond_false];dsimp only;rw[this,decide_eq_false (by omega),cond_false];omega
  refine key da _ m (by omega) fun k hk=> ?_;have:=hd ⟨k,by omega⟩ ⟨m,hm⟩;simp only[Fin.mk.injEq]at this;rw[<-this,toList_eq,toList_eq];rfl
theorem Dm(s:ByteArray):dh da s=some (iG (fun x:ByteArray=>x.toList==s.toList) da):=by
 unfold dh;rw[gg (by decide) (fun x:ByteArray=>s.toList==x.toList) (fun i x hx=>by rw[aG,hx];rfl)];congr 2;funext x;exact BEq.comm
def sk(d:ak):List ByteArray:=bif d.Kind==0 then[tAt,d.A]else bif d.Kind==1 then[oK,d.A]else bif d.Kind==2 then[cK d.Count,d.Unit,mQ d.Direction,tOf,d.A]else[tz,d.A,wH,d.B]
def vr(d:ak):ByteArray:=ee (sk d) (Tj #[32])
theorem lH{d:ak}(h:eN d=true)(hk:d.Kind≠2):d.Count=0/\d.Unit=tNo/\d.Direction=0/\(d.Kind=3->jO d.B=true)/\(d.Kind≠3->d.B=tNo):=by
 unfold eN at h;rw[Tp,beq_eq_false_iff_ne.2 hk,cond_false,Tp,Tp,Tp,beq_iff_eq,beq_iff_eq]at h;obtain⟨_,h1,h2,h3,h4⟩:=h;refine⟨h1,fT.1 h2,h3,fun h5=> ?_,fun h5=> ?_⟩
 ·rw[h5]at h4;have h4:((3:Int)==3&&(jO d.B&& !(d.A.toList==d.B.toList)))=true:=h4;rw[Tp,Tp]at h4;exact h4.2.1
 ·cases hb:(d.Kind==0) || (d.Kind==1)
  ·rw[hb,cond_false,beq_eq_false_iff_ne.2 h5]at h4;cases h4
  ·rw[hb,cond_true]at h4;exact fT.1 h4
theorem Fv{s:ByteArray}(h:jO s=true):df s=true:=by
 unfold jO at h;rw[Tp]at h;exact h.1
theorem Mu{d:ak}(h:eN d=true):df d.A=true:=by
 unfold eN at h;rw[Tp]at h;exact Fv h.1
theorem CZ{d:ak}(h:eN d=true)(hk:d.Kind=2):d.B=tNo:=by
 unfold eN at h;rw[Tp,hk]at h;have h2:=h.2;have h2:(inB d.Count 1 99&&(qG d.Unit d.Count&&(inB d.Direction 0 7&&noB d.B)))=true:=h2;rw[Tp,Tp,Tp]at h2;exact fT.1 h2.2.2.2
theorem Q8{u:ByteArray}{c:Int}(h:qG u c=true):32∉u.data.toList/\u.size<=7:=by
 have key: ∀t∈[kQ,qW,nI,ln],32∉t.data.toList/\t.size<=7:=by decide
 unfold qG at h;cases hc:(c==1)<;>rw[hc]at h
 ·have h:((u.toList==qW.toList) || (u.toList==ln.toList))=true:=h;rw[TT]at h;rcases h with h | h<;>rw[fT.1 h]<;>exact key _ (by simp)
 ·have h:((u.toList==kQ.toList) || (u.toList==nI.toList))=true:=h;rw[TT]at h;rcases h with h | h<;>rw[fT.1 h]<;>exact key _ (by simp)
theorem Rg{d:ak}(h:eN d=true)(hz:EW d):gJ d=some (vr d)/\jb d=some (vr d):=by
 have ha:=hz.a;have hb:=hz.b;have hu:=hz.u;have z1:(Tj #[97,116,32]).size=3:=rfl;have z2:(Tj #[110,101,97,114,32]).size=5:=rfl;have z3:(Tj #[98,101,116,119,101,101,110,32]).size=8:=rfl;have z4:(Tj #[32,97,110,100,32]).size=5:=rfl;have z5:(Tj #[32]).size=1:=rfl;have z6:(Tj #[32,111,102,32]).size=4:=rfl;unfold gJ jb vr sk;rcases nd h with hk | hk | hk | hk
 ·have e:Tj #[97,116,32]++d.A=ee [tAt,d.A] (Tj #[32]):=mY (by
   rw[fe,gz,et,et,et];rfl)
  have k0:((0:Int)==0)=true:=rfl;simp only[hk,k0,cond_true];rw[cq (by omega),e];exact⟨rfl,rfl⟩
 ·have e:Tj #[110,101,97,114,32]++d.A=ee [oK,d.A] (Tj #[32]):=mY (by
   rw[fe,gz,et,et,et];rfl)
  have k0:((1:Int)==0)=false:=rfl;have k1:((1:Int)==1)=true:=rfl;simp only[hk,k0,k1,cond_true,cond_false];rw[cq (by omega),e];exact⟨rfl,rfl⟩
 ·obtain⟨_,h1,h2⟩:=pd h hk;obtain⟨w1,w2,_,_⟩:=xN h2.1 h2.2;have z7:=bO (v:=d.Count) (by omega) (by omega);have hw:fu d.Direction=some (mQ d.Direction):=by
   show((at' da d.Direction).bind fun x1=>some x1)=_;rw[w1];rfl
  have e:cK d.Count++Tj #[32]++d.Unit++Tj #[32]++mQ d.Direction++Tj #[32,111,102,32]++d.A=ee [cK d.Count,d.Unit,mQ d.Direction,tOf,d.A] (Tj #[32]):=mY (by
   simp only[fe,gz,et,TX];rfl)
  have k0:((2:Int)==0)=false:=rfl;have k1:((2:Int)==1)=false:=rfl;have k2:((2:Int)==2)=true:=rfl;rw[hk,kZ d.Count (by omega) (by omega),iA (v:=d.Count) (by omega) (by omega),w1,hw];simp only[k0,k1,k2,cond_true,cond_false,Ti];rw[cq (by omega)];simp only[Ti];rw[cq (by simp only[Tw];omega)];simp only[Ti];rw[cq (by simp only[Tw];omega)];simp only[Ti];rw[cq (by simp only[Tw];omega)];simp only[Ti];rw[cq (by simp only[Tw];omega)];simp only[Ti];rw[cq (by simp only[Tw];omega),e];exact⟨rfl,rfl⟩
 ·have e:Tj #[98,101,116,119,101,101,110,32]++d.A++Tj #[32,97,110,100,32]++d.B=ee [tz,d.A,wH,d.B] (Tj #[32]):=mY (by
   simp only[fe,gz,et,TX];rfl)
  have k0:((3:Int)==0)=false:=rfl;have k1:((3:Int)==1)=false:=rfl;have k2:((3:Int)==2)=false:=rfl;rw[hk];simp only[k0,k1,k2,cond_false,Ti,T6];rw[cq (by omega)];simp only[Ti];rw[cq (by simp only[Tw];omega)];simp only[Ti];rw[cq (by simp only[Tw];omega),e];exact⟨rfl,rfl⟩
theorem C0{d:ak}(h:eN d=true):bn (vr d) 32=sk d:=by
 have hs:small 32=false:=by decide
 have hA:=rL (Mu h) hs;have c1:(32:UInt8)∉tAt.data.toList:=by decide
 have c2:(32:UInt8)∉oK.data.toList:=by decide
 have c3:(32:UInt8)∉tz.data.toList:=by decide
 have c4:(32:UInt8)∉wH.data.toList:=by decide
 have c5:(32:UInt8)∉tOf.data.toList:=by decide
 unfold vr;refine qB ?_ ?_
 ·unfold sk;rcases nd h with hk | hk | hk | hk<;>rw[hk]<;>exact List.cons_ne_nil _ _
 ·intro x hx;unfold sk at hx;rcases nd h with hk | hk | hk | hk<;>rw[hk]at hx
  ·have hx:x∈[tAt,d.A]:=hx;simp only[Tx,UA,or_false]at hx;rcases hx with rfl | rfl<;>assumption
  ·have hx:x∈[oK,d.A]:=hx;simp only[Tx,UA,or_false]at hx;rcases hx with rfl | rfl<;>assumption
  ·obtain⟨h1,h2,h3⟩:=pd h hk;have hx:x∈[cK d.Count,d.Unit,mQ d.Direction,tOf,d.A]:=hx;simp only[Tx,UA,or_false]at hx;rcases hx with rfl | rfl | rfl | rfl | rfl
   ·exact pG (by decide) (by decide) _
   ·exact(Q8 h1).1
   ·exact(xN h3.1 h3.2).2.2.1
   ·exact c5
   ·exact hA
  ·have hB:=rL (Fv ((lH h (by omega)).2.2.2.1 hk)) hs;have hx:x∈[tz,d.A,wH,d.B]:=hx;simp only[Tx,UA,or_false]at hx;rcases hx with rfl | rfl | rfl | rfl<;>assumption
theorem nM{d:ak}{k c w:Int}{u a b:ByteArray}(h1:d.Kind=k)(h2:d.Count=c)(h3:d.Unit=u)(h4:d.Direction=w)(h5:d.A=a)(h6:d.B=b):ak.mk k c u w a b=d:=by
 cases d;simp only at h1 h2 h3 h4 h5 h6;rw[h1,h2,h3,h4,h5,h6]
abbrev OC:ak:=ak.mk 0 0 (Tj #[]) 0 (Tj #[]) (Tj #[])
theorem OU{d:ak}(h:eN d=true):bB (sk d)=some d:=by
 have f1:(oK.toList==tAt.toList)=false:=by rw[toList_eq,toList_eq];rfl
 unfold sk;rcases nd h with hk | hk | hk | hk
 ·obtain⟨d1,d2,d3,_,d4⟩:=lH h (by omega);have e:=nM hk d1 d2 d3 rfl (d4 (by omega));rw[hk];show bB [tAt,d.A]=_;unfold bB;have a0:at' [tAt,d.A] 0=some tAt:=rfl;have a1:at' [tAt,d.A] 1=some d.A:=rfl;have l2:((([tAt,d.A]:List ByteArray).length:Int)==2)=true:=rfl;simp only[a0,a1,l2,cond_true,Ti,beq_self_eq_true,TZ];exact congrArg some e
 ·obtain⟨d1,d2,d3,_,d4⟩:=lH h (by omega);have e:=nM hk d1 d2 d3 rfl (d4 (by omega));rw[hk];show bB [oK,d.A]=_;unfold bB;have a0:at' [oK,d.A] 0=some oK:=rfl;have a1:at' [oK,d.A] 1=some d.A:=rfl;have l2:((([oK,d.A]:List ByteArray).length:Int)==2)=true:=rfl;simp only[a0,a1,l2,f1,cond_true,cond_false,Ti,beq_self_eq_true,TZ];exact congrArg some e
 ·obtain⟨h1,h2,h3⟩:=pd h hk;have z:=bO (v:=d.Count) (by omega) (by omega);have e:=nM hk rfl rfl rfl rfl (CZ h hk);rw[hk];show bB [cK d.Count,d.Unit,mQ d.Direction,tOf,d.A]=_;unfold bB;have a0:at' [cK d.Count,d.Unit,mQ d.Direction,tOf,d.A] 0=some (cK d.Count):=rfl;have a1:at' [cK d.Count,d.Unit,mQ d.Direction,tOf,d.A] 1=some d.Unit:=rfl;have a2:at' [cK d.Count,d.Unit,mQ d.Direction,tOf,d.A] 2=some (mQ d.Direction):=rfl;have a4:at' [cK d.Count,d.Unit,mQ d.Direction,tOf,d.A] 4=some d.A:=rfl;have l2:((([cK d.Count,d.Unit,mQ d.Direction,tOf,d.A]:List ByteArray).length:Int)==2)=false:=rfl;have l4:((([cK d.Count,d.Unit,mQ d.Direction,tOf,d.A]:List ByteArray).length:Int)==4)=false:=rfl;have l5:((([cK d.Count,d.Unit,mQ d.Direction,tOf,d.A]:List ByteArray).length:Int)==5)=true:=rfl;simp only[a0,a1,a2,a4,l2,l4,l5,cond_true,cond_false,Ti,dU (cK d.Count) (by omega),kB (cL d.Count) (show -10000000000000<d.Count by omega) (by omega),Dm,(xN h3.1 h3.2).2.2.2,TZ];exact congrArg some e
 ·obtain⟨d1,d2,d3,_,_⟩:=lH h (by omega);have e:=nM hk d1 d2 d3 rfl rfl;rw[hk];show bB [tz,d.A,wH,d.B]=_;unfold bB;have a0:at' [tz,d.A,wH,d.B] 0=some tz:=rfl;have a1:at' [tz,d.A,wH,d.B] 1=some d.A:=rfl;have a3:at' [tz,d.A,wH,d.B] 3=some d.B:=rfl;have l2:((([tz,d.A,wH,d.B]:List ByteArray).length:Int)==2)=false:=rfl;have l4:((([tz,d.A,wH,d.B]:List ByteArray).length:Int)==4)=true:=rfl;simp only[a0,a1,a3,l2,l4,cond_true,cond_false,Ti,beq_self_eq_true,TZ];exact congrArg some e
def oA(x1:List ByteArray):Option ak:=(((bif((x1.length:Int)==2)then((at' x1 0).bind fun x4=>some (x4.toList==(Tj #[97,116]).toList))else some false)).bind fun(j5:Bool)=>(bif j5 then((at' x1 1).bind fun x7=>some (ak.mk 0 0 (Tj #[]) 0 x7 (Tj #[])))else(((bif((x1.length:Int)==2)then((at' x1 0).bind fun x8=>some (x8.toList==(Tj #[110,101,97,114]).toList))else some false)).bind fun(j9:Bool)=>(bif j9 then((at' x1 1).bind fun x11=>some (ak.mk 1 0 (Tj #[]) 0 x11 (Tj #[])))else(((bif((x1.length:Int)==4)then((at' x1 0).bind fun x12=>some (x12.toList==(Tj #[98,101,116,119,101,101,110]).toList))else some false)).bind fun(j13:Bool)=>(bif j13 then((at' x1 1).bind fun x15=>((at' x1 3).bind fun x16=>some (ak.mk 3 0 (Tj #[]) 0 x15 x16)))else(bif((x1.length:Int)==5)then((at' x1 0).bind fun x17=>((bJ x17).bind fun x18=>((at' x1 1).bind fun x19=>((at' x1 2).bind fun x20=>((fb x20).bind fun x21=>((at' x1 4).bind fun x22=>some (ak.mk 2 x18.1 x19 x21 x22 (Tj #[]))))))))else some (ak.mk (-1) 0 (Tj #[]) 0 (Tj #[]) (Tj #[])))))))))
theorem M7{d:ak}(h:eN d=true):oA (sk d)=some d:=by
 have f1:(oK.toList==tAt.toList)=false:=by rw[toList_eq,toList_eq];rfl
 unfold sk;rcases nd h with hk | hk | hk | hk
 ·obtain⟨d1,d2,d3,_,d4⟩:=lH h (by omega);have e:=nM hk d1 d2 d3 rfl (d4 (by omega));rw[hk];show oA [tAt,d.A]=_;unfold oA;have a0:at' [tAt,d.A] 0=some tAt:=rfl;have a1:at' [tAt,d.A] 1=some d.A:=rfl;have l2:((([tAt,d.A]:List ByteArray).length:Int)==2)=true:=rfl;simp only[a0,a1,l2,cond_true,Ti,beq_self_eq_true];exact congrArg some e
 ·obtain⟨d1,d2,d3,_,d4⟩:=lH h (by omega);have e:=nM hk d1 d2 d3 rfl (d4 (by omega));rw[hk];show oA [oK,d.A]=_;unfold oA;have a0:at' [oK,d.A] 0=some oK:=rfl;have a1:at' [oK,d.A] 1=some d.A:=rfl;have l2:((([oK,d.A]:List ByteArray).length:Int)==2)=true:=rfl;simp only[a0,a1,l2,f1,cond_true,cond_false,Ti,beq_self_eq_true];exact congrArg some e
 ·obtain⟨h1,h2,h3⟩:=pd h hk;have e:=nM hk rfl rfl rfl rfl (CZ h hk);rw[hk];show oA [cK d.Count,d.Unit,mQ d.Direction,tOf,d.A]=_;unfold oA;have a0:at' [cK d.Count,d.Unit,mQ d.Direction,tOf,d.A] 0=some (cK d.Count):=rfl;have a1:at' [cK d.Count,d.Unit,mQ d.Direction,tOf,d.A] 1=some d.Unit:=rfl;have a2:at' [cK d.Count,d.Unit,mQ d.Direction,tOf,d.A] 2=some (mQ d.Direction):=rfl;have a4:at' [cK d.Count,d.Unit,mQ d.Direction,tOf,d.A] 4=some d.A:=rfl;have l2:((([cK d.Count,d.Unit,mQ d.Direction,tOf,d.A]:List ByteArray).length:Int)==2)=false:=rfl;have l4:((([cK d.Count,d.Unit,mQ d.Direction,tOf,d.A]:List ByteArray).length:Int)==4)=false:=rfl;have l5:((([cK d.Count,d.Unit,mQ d.Direction,tOf,d.A]:List ByteArray).length:Int)==5)=true:=rfl;simp only[a0,a1,a2,a4,l2,l4,l5,cond_true,cond_false,Ti,xL (cL d.Count) (show 0<=d.Count by omega) (by omega),J9,(xN h3.1 h3.2).2.2.2];exact congrArg some e
 ·obtain⟨d1,d2,d3,_,_⟩:=lH h (by omega);have e:=nM hk d1 d2 d3 rfl rfl;rw[hk];show oA [tz,d.A,wH,d.B]=_;unfold oA;have a0:at' [tz,d.A,wH,d.B] 0=some tz:=rfl;have a1:at' [tz,d.A,wH,d.B] 1=some d.A:=rfl;have a3:at' [tz,d.A,wH,d.B] 3=some d.B:=rfl;have l2:((([tz,d.A,wH,d.B]:List ByteArray).length:Int)==2)=false:=rfl;have l4:((([tz,d.A,wH,d.B]:List ByteArray).length:Int)==4)=true:=rfl;simp only[a0,a1,a3,l2,l4,cond_true,cond_false,Ti,beq_self_eq_true];exact congrArg some e
theorem M8{W:List ByteArray}(hW: ∀x∈W,x.size<=1048576):(∃d,bB W=some d/\EW d)/\ ∃d,oA W=some d/\EW d:=by
 have z:(Tj #[]).size=0:=rfl;have oz: ∀{k c w:Int} {u a b:ByteArray},u.size<=1048576->a.size<=1048576->b.size<=1048576->EW (ak.mk k c u w a b):=fun h1 h2 h3=>⟨h1,h2,h3⟩;unfold bB oA;by_cases h2:W.length=2
 ·obtain⟨a,b,rfl⟩:=Py h2;have hb:=hW b (by simp);have a0:at' [a,b] 0=some a:=rfl;have a1:at' [a,b] 1=some b:=rfl;have l2:((([a,b]:List ByteArray).length:Int)==2)=true:=rfl;have l4:((([a,b]:List ByteArray).length:Int)==4)=false:=rfl;have l5:((([a,b]:List ByteArray).length:Int)==5)=false:=rfl;simp only[a0,a1,l2,l4,l5,cond_true,cond_false,Ti];cases (a.toList==(Tj #[97,116]).toList)
  ·cases (a.toList==(Tj #[110,101,97,114]).toList)
   ·exact⟨⟨_,rfl,oz (by omega) (by omega) (by omega)⟩,_,rfl,oz (by omega) (by omega) (by omega)⟩
   ·exact⟨⟨_,rfl,oz (by omega) hb (by omega)⟩,_,rfl,oz (by omega) hb (by omega)⟩
  ·exact⟨⟨_,rfl,oz (by omega) hb (by omega)⟩,_,rfl,oz (by omega) hb (by omega)⟩
 have l2:((W.length:Int)==2)=false:=by
  rw[beq_eq_false_iff_ne];omega
 by_cases h5:W.length=5
 ·match W,h5 with
  | [a,b,c,d,e],_=>
   have ha:=hW a (by simp);have hb:=hW b (by simp);have he:=hW e (by simp);have a0:at' [a,b,c,d,e] 0=some a:=rfl;have a1:at' [a,b,c,d,e] 1=some b:=rfl;have a2:at' [a,b,c,d,e] 2=some c:=rfl;have a4:at' [a,b,c,d,e] 4=some e:=rfl;have l4:((([a,b,c,d,e]:List ByteArray).length:Int)==4)=false:=rfl;have l5:((([a,b,c,d,e]:List ByteArray).length:Int)==5)=true:=rfl;obtain⟨n,f,n1,_⟩:=jt a;simp only[a0,a1,a2,a4,l2,l4,l5,cond_true,cond_false,Ti,dU a ha,Dm,J9,n1];exact⟨⟨_,rfl,oz hb he (by omega)⟩,_,rfl,oz hb he (by omega)⟩
 have l5:((W.length:Int)==5)=false:=by
  rw[beq_eq_false_iff_ne];omega
 by_cases h4:W.length=4
 ·match W,h4 with
  | [a,b,c,d],_=>
   have hb:=hW b (by simp);have hd:=hW d (by simp);have a0:at' [a,b,c,d] 0=some a:=rfl;have a1:at' [a,b,c,d] 1=some b:=rfl;have a3:at' [a,b,c,d] 3=some d:=rfl;have l4:((([a,b,c,d]:List ByteArray).length:Int)==4)=true:=rfl;simp only[a0,a1,a3,l2,l4,l5,cond_true,cond_false,Ti];cases (a.toList==(Tj #[98,101,116,119,101,101,110]).toList)
   ·exact⟨⟨_,rfl,oz (by omega) (by omega) (by omega)⟩,_,rfl,oz (by omega) (by omega) (by omega)⟩
   ·exact⟨⟨_,rfl,oz (by omega) hb hd⟩,_,rfl,oz (by omega) hb hd⟩
 have l4:((W.length:Int)==4)=false:=by
  rw[beq_eq_false_iff_ne];omega
 simp only[l2,l4,l5,cond_false,Ti];exact⟨⟨_,rfl,oz (by omega) (by omega) (by omega)⟩,_,rfl,oz (by omega) (by omega) (by omega)⟩
theorem Jh(s:ByteArray)(hz:s.size<=1048576): ∃d e,eP s=some (d,e)/\eT s=some (d,e)/\(e=6\/e=0/\eN d=true/\EW d):=by
 have hsp:strings_Split s (Tj #[32])=some (bn s 32):=by
  unfold strings_Split;have h0:(Tj #[32]).data.toList=[32]:=rfl;rw[h0];dsimp only;rw[decide_eq_true (by omega),cond_true]
 have hsp2:bR s 32=some (bn s 32):=dJ s 32 (by omega);have hws: ∀x∈bn s 32,x.size<=1048576:=fun x hx=>Ut (fK hx) hz;obtain⟨⟨d,d1,d2⟩,⟨e,e1,e2⟩⟩:=M8 hws;have hS:eT s=some (bif eN e&&(vr e).toList==s.toList then(e,0)else(OC,6)):=by
  unfold eT;rw[hsp2,Ti];show((oA (bn s 32)).bind _)=_;rw[e1,Ti,F4 e e2,Ti];cases h:eN e
  ·rfl
  ·rw[(Rg h e2).2];cases h2:((vr e).toList==s.toList)<;>simp[h2]
 have hI:eP s=some (bif eN d&&(vr d).toList==s.toList then(d,0)else(OC,6)):=by
  unfold eP;rw[hsp,Ti,d1,Ti,FD d d2,Ti];cases h:eN d
  ·rfl
  ·rw[(Rg h d2).1];cases h2:((vr d).toList==s.toList)<;>simp[h2]
 rw[hI,hS];cases hd:(eN d&&(vr d).toList==s.toList)
 ·cases he:(eN e&&(vr e).toList==s.toList)
  ·exact⟨_,_,rfl,rfl,.inl rfl⟩
  ·exfalso;rw[Tp]at he;have h3:=C0 he.1;rw[fT.1 he.2]at h3;rw[h3,OU he.1]at d1;injection d1 with d1;subst d1;rw[he.1,he.2]at hd;cases hd
 ·rw[Tp]at hd;have h3:=C0 hd.1;rw[fT.1 hd.2]at h3;rw[h3,M7 hd.1]at e1;injection e1 with e1;subst e1;rw[hd.1,hd.2];exact⟨_,_,rfl,rfl,.inr ⟨rfl,hd.1,d2⟩⟩
theorem vZ{a b:ByteArray}:(a.toList==b.toList)=true↔a=b:=by
 rw[beq_iff_eq,qF,qF];refine⟨fun h=> ?_,fun h=>by rw[h]⟩;obtain⟨a⟩:=a;obtain⟨b⟩:=b;have h:a.toList=b.toList:=h;rw[VH.1 h]
theorem BA{x c d:ByteArray}(h:(x.toList==c.toList)=true)(hcd: ¬c=d):(x.toList==d.toList)=false:=by
 rw[TS];intro h2;exact hcd ((vZ.1 h).symm.trans (vZ.1 h2))
def yz(W:List ByteArray)(K:ByteArray):Option (Int×Bool):=cR (K.size:Int) (fun(i5:Int) (s5:Int×Bool)=>((cQ K i5).bind fun x9=>(bif(x9==73)then((at' W (ap (i5+1))).bind fun x10=>((bJ x10).bind fun x11=>some (x11.1,x11.2)))else(bif(x9==74)then((at' W (ap (i5+1))).bind fun x12=>((bH x12).bind fun x13=>some (x13.1,x13.2)))else some (s5.1,s5.2))))) (fun(s5:Int×Bool)=>(s5.1,s5.2)) 0 (0,true)
theorem FN(W:List ByteArray){K:ByteArray}(hs:K.size<=100)(hK: ∀c∈K.data.toList,c=84):yz W K=some (0,true):=by
 unfold yz;obtain⟨h1,h2⟩:=Kv (n:=K.size) (by omega) (B:=fun(i5:Int) (s5:Int×Bool)=>((cQ K i5).bind fun x9=>(bif(x9==73)then((at' W (ap (i5+1))).bind fun x10=>((bJ x10).bind fun x11=>some (x11.1,x11.2)))else(bif(x9==74)then((at' W (ap (i5+1))).bind fun x12=>((bH x12).bind fun x13=>some (x13.1,x13.2)))else some (s5.1,s5.2))))) (D:=fun(s5:Int×Bool)=>(s5.1,s5.2)) (fun s=>s=(0,true)) (fun s _=>s) (0,true) (fun i s hi hI=>by
  have hx:=byte_at hi;rw[hK _ (Uo _)]at hx;refine⟨?_,hI⟩;simp only[hx,Ti];rfl) rfl
 rw[h1,h2]
theorem Sr{W:List ByteArray}{y:ByteArray}{r:Int}{b:Bool}(hy:W[1]? =some y)(hv:bJ y=some (r,b)):yz W (Tj #[73])=some (r,b):=by
 unfold yz;have hb:cQ (Tj #[73]) ((0:Nat):Int)=some 73:=rfl;have ha:at' W (ap (((0:Nat):Int)+1))=some y:=by
  have:=aG (L:=W) 1;rw[hy]at this;exact this
 have:=fM (A:=Int×Bool) 1 (by omega) (fun(i5:Int) (s5:Int×Bool)=>(((cQ (Tj #[73]) i5).bind fun x9=>(bif(x9==73)then((at' W (ap (i5+1))).bind fun x10=>((bJ x10).bind fun x11=>some (x11.1,x11.2)))else(bif(x9==74)then((at' W (ap (i5+1))).bind fun x12=>((bH x12).bind fun x13=>some (x13.1,x13.2)))else some (s5.1,s5.2))))).map (Sum.inl (β:=Int×Bool))) (fun s5=>(s5.1,s5.2)) (0,true);rw[eZ];refine Eq.trans this ?_;unfold dm;simp only[hb,Ti,ha,hv];rfl
theorem Ss{W:List ByteArray}{y:ByteArray}{r:Int}{b:Bool}(hy:W[2]? =some y)(hv:bH y=some (r,b)):yz W (Tj #[84,74])=some (r,b):=by
 unfold yz;have hb0:cQ (Tj #[84,74]) ((0:Nat):Int)=some 84:=rfl;have hb1:cQ (Tj #[84,74]) ((1:Nat):Int)=some 74:=rfl;have ha:at' W (ap (((1:Nat):Int)+1))=some y:=by
  have:=aG (L:=W) 2;rw[hy]at this;exact this
 have:=fM (A:=Int×Bool) 2 (by omega) (fun(i5:Int) (s5:Int×Bool)=>(((cQ (Tj #[84,74]) i5).bind fun x9=>(bif(x9==73)then((at' W (ap (i5+1))).bind fun x10=>((bJ x10).bind fun x11=>some (x11.1,x11.2)))else(bif(x9==74)then((at' W (ap (i5+1))).bind fun x12=>((bH x12).bind fun x13=>some (x13.1,x13.2)))else some (s5.1,s5.2))))).map (Sum.inl (β:=Int×Bool))) (fun s5=>(s5.1,s5.2)) (0,true);rw[eZ];refine Eq.trans this ?_;unfold dm;simp only[hb0,Ti,show((84:Int)==73)=false from rfl,show((84:Int)==74)=false from rfl,cond_false,UO,T6,Nat.zero_add];unfold dm;simp only[hb1,Ti,ha,hv];rfl
abbrev zQ:ByteArray:=Tj #[45]
theorem Ov{W:List ByteArray}(_hW:W.length<=1048577)(K:ByteArray){k:Nat}(hk:K.size=k)(hk9:k<=9):(bif((W.length:Int) !=(ap ((K.size:Int)+1)))then some zQ else some K:Option ByteArray)=bif decide (W.length=k+1)then some K else some zQ:=by
 rw[hk,az (by omega) (by omega)];by_cases h:W.length=k+1
 ·rw[decide_eq_true h,show((W.length:Int) !=(k:Int)+1)=false by rw[bne_eq_false_iff_eq];omega];rfl
 ·rw[decide_eq_false h,show((W.length:Int) !=(k:Int)+1)=true by rw[bne_iff_ne];omega];rfl
def sj(W:List ByteArray)(o:Option ByteArray):Option (List ByteArray×Int×Bool):=o.bind fun x2=>(bif(x2.toList==zQ.toList)then some (([]:List ByteArray),(0:Int),false)else((yz W x2).bind fun(j3:Int×Bool)=>some (W,j3.1,j3.2)))
theorem xz(W:List ByteArray):sj W (some zQ)=some ([],0,false):=by
 unfold sj;rw[Ti,vZ.2 rfl];rfl
theorem DG{W:List ByteArray}{K:ByteArray}(hne: ¬K=zQ){r:Int}{b:Bool}(h:yz W K=some (r,b)):sj W (some K)=some (W,r,b):=by
 unfold sj;have:(K.toList==zQ.toList)=false:=by
  rw[TS];exact fun h=>hne (vZ.1 h)
 rw[Ti,this,cond_false,h];rfl
theorem ky{W:List ByteArray}(hW:W.length<=1048577)(K:ByteArray){k:Nat}(hk:K.size=k)(hk9:k<=9)(hne: ¬K=zQ){b:Bool}{P:Int->Prop}(hb:W.length=k+1-> ∃r,yz W K=some (r,b)/\(b=true->P r)): ∃V n,sj W (bif((W.length:Int) !=(ap ((K.size:Int)+1)))then some zQ else some K)=some (V,n,decide (W.length=k+1)&&b)/\((decide (W.length=k+1)&&b)=true->V=W/\W.length=k+1/\P n):=by
 rw[Ov hW K hk hk9];by_cases h:W.length=k+1
 ·obtain⟨r,hr,hp⟩:=hb h;rw[decide_eq_true h,cond_true,DG hne hr,Uy];exact⟨_,_,rfl,fun h2=>⟨rfl,h,hp h2⟩⟩
 ·rw[decide_eq_false h,cond_false,xz,Wj];exact⟨_,_,rfl,fun h=>by cases h⟩
theorem vI{n k:Nat}:((n:Int)==(k:Int))=decide (n=k):=by
 rw[Va,beq_iff_eq,decide_eq_true_eq];omega
abbrev sJ:ByteArray:=Tj #[99,111,114,101,115]
abbrev pa:ByteArray:=Tj #[114,101,112,97,105,114]
abbrev mO:ByteArray:=Tj #[115,111,117,114,99,101,115]
abbrev vp:ByteArray:=Tj #[99,108,97,105,109]
abbrev zC:ByteArray:=Tj #[100,114,111,112]
abbrev wW:ByteArray:=Tj #[110,97,109,101]
abbrev nJ:ByteArray:=Tj #[112,97,114,101,110,116]
abbrev vq:ByteArray:=Tj #[115,105,116,101]
abbrev zD:ByteArray:=Tj #[119,97,121]
abbrev xK:ByteArray:=Tj #[102,97,114]
abbrev oC:ByteArray:=Tj #[97,112,97,114,116]
abbrev pY:ByteArray:=Tj #[116,101,115,116]
inductive Shape:List ByteArray->Int->Prop
 | one (x:ByteArray) (n:Int) (h:x=sJ\/x=pa\/x=mO):Shape [x] n
 | claim (a:ByteArray) (n:Int):Shape [vp,a] n
 | drop (a:ByteArray) (n:Int) (h:gO a=(n,true)) (h0:0<=n) (h1:n<10000000000000):Shape [zC,a] n
 | told (x a b:ByteArray) (n:Int) (h:x=wW\/x=nJ) (hn:gO b=(n,true)):Shape [x,a,b] n
 | two (x a b:ByteArray) (n:Int) (h:x=vq\/x=zD\/x=xK\/x=oC):Shape [x,a,b] n
 | test (M:List ByteArray) (n:Int) (h:M.length=3\/M.length=5\/M.length=6):Shape (pY::M) n
theorem l1{W:List ByteArray}{x:ByteArray}(h:at' W 0=some x)(hl:W.length=1):W=[x]:=by
 match W,hl with
 | [a],_=>
  have h:some a=some x:=h;injection h with h;rw[h]
theorem l2{W:List ByteArray}{x:ByteArray}(h:at' W 0=some x)(hl:W.length=2): ∃a,W=[x,a]:=by
 match W,hl with
 | [a,b],_=>
  have h:some a=some x:=h;injection h with h;exact⟨b,by rw[h]⟩
theorem l3{W:List ByteArray}{x:ByteArray}(h:at' W 0=some x)(hl:W.length=3): ∃a b,W=[x,a,b]:=by
 match W,hl with
 | [a,b,c],_=>
  have h:some a=some x:=h;injection h with h;exact⟨b,c,by rw[h]⟩
theorem Nv{s:ByteArray}{n:Int}{b:Bool}(h:bJ s=some (n,b))(hb:b=true):gO s=(n,true)/\0<=n/\n<10000000000000:=by
 obtain⟨m,c,v1,v2,v3,v4,v5⟩:=jt s;rw[h]at v1;injection v1 with v1;injection v1 with e1 e2;rw[e1];rw[<-e2]at v2 v5;obtain⟨u,u1,u2⟩:=v2.1 hb;have h5:=v5 hb;rw[u1,l9]at h5;refine⟨kB (v:=m) ?_ (by omega) (by omega),v3,v4⟩;rw[k9 v3,u1,h5,TG]
theorem KZ{s:ByteArray}(hs:s.size<=1048576){n:Int}{b:Bool}(h:bH s=some (n,b))(hb:b=true):gO s=(n,true):=by
 obtain⟨m,c,v1,v2,_⟩:=ph s hs;rw[h]at v1;injection v1 with v1;injection v1 with e1 e2;rw[<-e2,<-e1]at v2;obtain⟨u1,u2,u3⟩:=v2 hb;exact kB u1 u2 u3
theorem Mm{x:ByteArray}{M:List ByteArray}(hW:(x::M).length<=1048577)(hs: ∀y∈x::M,y.size<=1048576): ∃b V n,jW (x::M)=some b/\sj (x::M) (kM (x::M))=some (V,n,b)/\(b=true->V=x::M/\Shape (x::M) n):=by
 generalize hWe:x::M=W at hW hs;have h0:at' W 0=some x:=by rw[<-hWe];exact aG (L:=x::M) 0
 have hT: ∀k,k<=6-> ∀c∈((Tj #[84,84,84,84,84,84]).extract 0 k).data.toList,c=84:=by
  intro k hk c hc;rw[ma]at hc;have hc:=U6 (List.mem_of_mem_drop hc);simp at hc;exact hc
 unfold jW kM;simp only[h0,Ti];have hcases: ∀c:ByteArray,(x.toList==c.toList)=true\/(x.toList==c.toList)=false:=fun c=>by cases x.toList==c.toList<;>simp
 rcases hcases (Tj #[99,111,114,101,115])with c1 | c1
 ·simp only[c1,cond_true,Ti,T6,TZ];obtain⟨V,n,e1,e2⟩:=ky hW (Tj #[]) (k:=0) rfl (by omega) (by decide) (b:=true) (P:=fun _=>True) (fun _=>⟨0,FN W (by decide) (by simp),fun _=>trivial⟩);rw[V6]at e1 e2;exact⟨_,V,n,congrArg some (vI (k:=1)),e1,fun h=>⟨(e2 h).1,by rw[l1 h0 (e2 h).2.1];exact .one _ _ (.inl (vZ.1 c1))⟩⟩
 rcases hcases (Tj #[114,101,112,97,105,114])with c2 | c2
 ·simp only[c1,c2,cond_true,cond_false,Ti,T6,TZ];obtain⟨V,n,e1,e2⟩:=ky hW (Tj #[]) (k:=0) rfl (by omega) (by decide) (b:=true) (P:=fun _=>True) (fun _=>⟨0,FN W (by decide) (by simp),fun _=>trivial⟩);rw[V6]at e1 e2;exact⟨_,V,n,congrArg some (vI (k:=1)),e1,fun h=>⟨(e2 h).1,by rw[l1 h0 (e2 h).2.1];exact .one _ _ (.inr (.inl (vZ.1 c2)))⟩⟩
 rcases hcases (Tj #[115,111,117,114,99,101,115])with c3 | c3
 ·simp only[c1,c2,c3,cond_true,cond_false,Ti,T6,TZ];obtain⟨V,n,e1,e2⟩:=ky hW (Tj #[]) (k:=0) rfl (by omega) (by decide) (b:=true) (P:=fun _=>True) (fun _=>⟨0,FN W (by decide) (by simp),fun _=>trivial⟩);rw[V6]at e1 e2;exact⟨_,V,n,congrArg some (vI (k:=1)),e1,fun h=>⟨(e2 h).1,by rw[l1 h0 (e2 h).2.1];exact .one _ _ (.inr (.inr (vZ.1 c3)))⟩⟩
 rcases hcases (Tj #[99,108,97,105,109])with c4 | c4
 ·simp only[c1,c2,c3,c4,cond_true,cond_false,Ti,T6,TZ];obtain⟨V,n,e1,e2⟩:=ky hW (Tj #[84]) (k:=1) rfl (by omega) (by decide) (b:=true) (P:=fun _=>True) (fun _=>⟨0,FN W (by decide) (by simp),fun _=>trivial⟩);rw[V6]at e1 e2;refine⟨_,V,n,congrArg some (vI (k:=2)),e1,fun h=>⟨(e2 h).1,?_⟩⟩;obtain⟨a,ha⟩:=l2 h0 (e2 h).2.1;rw[ha,vZ.1 c4];exact .claim a n
 rcases hcases (Tj #[100,114,111,112])with c5 | c5
 ·have d1:=BA c5 (d:=Tj #[115,105,116,101]) (by decide);have d2:=BA c5 (d:=Tj #[119,97,121]) (by decide);have d3:=BA c5 (d:=Tj #[102,97,114]) (by decide);have d4:=BA c5 (d:=Tj #[97,112,97,114,116]) (by decide);simp only[c1,c2,c3,c4,c5,d1,d2,d3,d4,cond_true,cond_false,Ti,T6];by_cases hl:W.length=2
  ·have hy:W[1]? =some W[1]:=Tk (by omega);obtain⟨b,r,b1,b2⟩:=On W[1] (hs _ (Uo _));have ha:at' W 1=some W[1]:=(aG (L:=W) 1).trans hy;have e2:((W.length:Int)==2)=true:=by rw[beq_iff_eq];omega
   simp only[e2,cond_true,ha,Ti,b1,TZ];obtain⟨V,n,f1,f2⟩:=ky hW (Tj #[73]) (k:=1) rfl (by omega) (by decide) (b:=b) (P:=fun n=>gO W[1]=(n,true)/\0<=n/\n<10000000000000) (fun _=>⟨r,Sr hy b2,Nv b2⟩);rw[decide_eq_true hl,Uy]at f1 f2;refine⟨_,V,n,rfl,f1,fun h=>⟨(f2 h).1,?_⟩⟩;obtain⟨a,ha2⟩:=l2 h0 hl;obtain⟨g1,g2,g3⟩:=(f2 h).2.2;have hWa:W[1]=a:=by
    have:=congrArg (fun l:List ByteArray=>l[1]?) ha2;simp only[U1,V0]at this;rw[hy]at this;injection this
   rw[hWa]at g1;rw[ha2,vZ.1 c5];exact .drop a n g1 g2 g3
  ·have e2:((W.length:Int)==2)=false:=by rw[beq_eq_false_iff_ne];omega
   simp only[e2,cond_false,Ti,TZ];obtain⟨V,n,f1,f2⟩:=ky hW (Tj #[73]) (k:=1) rfl (by omega) (by decide) (b:=true) (P:=fun _=>True) (fun h=>absurd h hl);rw[decide_eq_false hl]at f1;exact⟨_,V,n,rfl,f1,fun h=>by cases h⟩
 have hname:(x=wW\/x=nJ)-> ∃b V n,(bif((W.length:Int)==3)then((at' W 2).bind fun x14=>((jX x14).bind fun x15=>some x15))else some false:Option Bool)=some b/\sj W (bif((W.length:Int) !=(ap (((Tj #[84,74]).size:Int)+1)))then some zQ else some (Tj #[84,74]))=some (V,n,b)/\(b=true->V=W/\Shape W n):=by
  intro hx;by_cases hl:W.length=3
  ·have hy:W[2]? =some W[2]:=Tk (by omega);obtain⟨b,r,b1,b2⟩:=KA W[2] (hs _ (Uo _));have ha:at' W 2=some W[2]:=(aG (L:=W) 2).trans hy;have e2:((W.length:Int)==3)=true:=by rw[beq_iff_eq];omega
   simp only[e2,cond_true,ha,Ti,b1];obtain⟨V,n,f1,f2⟩:=ky hW (Tj #[84,74]) (k:=2) rfl (by omega) (by decide) (b:=b) (P:=fun n=>gO W[2]=(n,true)) (fun _=>⟨r,Ss hy b2,KZ (hs _ (Uo _)) b2⟩);rw[decide_eq_true hl,Uy]at f1 f2;refine⟨_,V,n,rfl,f1,fun h=>⟨(f2 h).1,?_⟩⟩;obtain⟨a,c,ha2⟩:=l3 h0 hl;have g1:=(f2 h).2.2;have hWa:W[2]=c:=by
    have:=congrArg (fun l:List ByteArray=>l[2]?) ha2;simp only[U1,V0]at this;rw[hy]at this;injection this
   rw[hWa]at g1;rw[ha2];exact .told x a c n hx g1
  ·have e2:((W.length:Int)==3)=false:=by rw[beq_eq_false_iff_ne];omega
   simp only[e2,cond_false];obtain⟨V,n,f1,f2⟩:=ky hW (Tj #[84,74]) (k:=2) rfl (by omega) (by decide) (b:=true) (P:=fun _=>True) (fun h=>absurd h hl);rw[decide_eq_false hl]at f1;exact⟨_,V,n,rfl,f1,fun h=>by cases h⟩
 rcases hcases (Tj #[110,97,109,101])with c6 | c6
 ·have d1:=BA c6 (d:=Tj #[115,105,116,101]) (by decide);have d2:=BA c6 (d:=Tj #[119,97,121]) (by decide);have d3:=BA c6 (d:=Tj #[102,97,114]) (by decide);have d4:=BA c6 (d:=Tj #[97,112,97,114,116]) (by decide);obtain⟨b,V,n,b1,b2⟩:=hname (.inl (vZ.1 c6));simp only[c1,c2,c3,c4,c5,c6,d1,d2,d3,d4,cond_true,cond_false,Ti,T6,b1,TZ];exact⟨_,V,n,rfl,b2⟩
 rcases hcases (Tj #[112,97,114,101,110,116])with c7 | c7
 ·have d1:=BA c7 (d:=Tj #[115,105,116,101]) (by decide);have d2:=BA c7 (d:=Tj #[119,97,121]) (by decide);have d3:=BA c7 (d:=Tj #[102,97,114]) (by decide);have d4:=BA c7 (d:=Tj #[97,112,97,114,116]) (by decide);obtain⟨b,V,n,b1,b2⟩:=hname (.inr (vZ.1 c7));simp only[c1,c2,c3,c4,c5,c6,c7,d1,d2,d3,d4,cond_true,cond_false,Ti,T6,b1,TZ];exact⟨_,V,n,rfl,b2⟩
 have hTT:(x=vq\/x=zD\/x=xK\/x=oC)-> ∃V n,sj W (bif((W.length:Int) !=(ap (((Tj #[84,84]).size:Int)+1)))then some zQ else some (Tj #[84,84]))=some (V,n,(W.length:Int)==3)/\(((W.length:Int)==3)=true->V=W/\Shape W n):=by
  intro hx;obtain⟨V,n,f1,f2⟩:=ky hW (Tj #[84,84]) (k:=2) rfl (by omega) (by decide) (b:=true) (P:=fun _=>True) (fun _=>⟨0,FN W (by decide) (by simp),fun _=>trivial⟩);rw[V6]at f1 f2;refine⟨V,n,f1.trans ?_,fun h=> ?_⟩
  ·rw[show((W.length:Int)==3)=decide (W.length=2+1)from vI (k:=3)]
  ·have h:decide (W.length=2+1)=true:=(vI (k:=3)).symm.trans h;obtain⟨a,c,ha2⟩:=l3 h0 (f2 h).2.1;exact⟨(f2 h).1,by rw[ha2];exact .two x a c n hx⟩
 rcases hcases (Tj #[115,105,116,101])with c8 | c8
 ·simp only[c1,c2,c3,c4,c5,c6,c7,c8,cond_true,cond_false,Ti,T6,TZ];obtain⟨V,n,f1,f2⟩:=hTT (.inl (vZ.1 c8));exact⟨_,V,n,rfl,f1,f2⟩
 rcases hcases (Tj #[119,97,121])with c9 | c9
 ·simp only[c1,c2,c3,c4,c5,c6,c7,c8,c9,cond_true,cond_false,Ti,T6,TZ];obtain⟨V,n,f1,f2⟩:=hTT (.inr (.inl (vZ.1 c9)));exact⟨_,V,n,rfl,f1,f2⟩
 rcases hcases (Tj #[102,97,114])with c10 | c10
 ·simp only[c1,c2,c3,c4,c5,c6,c7,c8,c9,c10,cond_true,cond_false,Ti,T6,TZ];obtain⟨V,n,f1,f2⟩:=hTT (.inr (.inr (.inl (vZ.1 c10))));exact⟨_,V,n,rfl,f1,f2⟩
 rcases hcases (Tj #[97,112,97,114,116])with c11 | c11
 ·simp only[c1,c2,c3,c4,c5,c6,c7,c8,c9,c10,c11,cond_true,cond_false,Ti,T6,TZ];obtain⟨V,n,f1,f2⟩:=hTT (.inr (.inr (.inr (vZ.1 c11))));exact⟨_,V,n,rfl,f1,f2⟩
 have hdash:sj W (bif((W.length:Int) !=(ap (((Tj #[45]).size:Int)+1)))then some zQ else some (Tj #[45]))=some ([],0,false):=by
  cases ((W.length:Int) !=(ap (((Tj #[45]).size:Int)+1)))
  ·exact xz W
  ·exact xz W
 rcases hcases (Tj #[116,101,115,116])with c12 | c12
 ·have hw:ap ((W.length:Int)- 2)=(W.length:Int)- 2:=az (by omega) (by omega);simp only[c1,c2,c3,c4,c5,c6,c7,c8,c9,c10,c11,c12,cond_true,cond_false,Ti,TZ,hw];by_cases hl:W.length=4\/W.length=6\/W.length=7
  ·have e1:((((W.length:Int)- 2)==2) || ((((W.length:Int)- 2)==4) || (((W.length:Int)- 2)==5)))=true:=by
    rw[TT,TT,beq_iff_eq,beq_iff_eq,beq_iff_eq];omega
   have e2:(((W.length:Int)==4) || (((W.length:Int)==6) || ((W.length:Int)==7)))=true:=by
    rw[TT,TT,beq_iff_eq,beq_iff_eq,beq_iff_eq];omega
   refine⟨_,W,0,rfl,?_,fun _=>⟨rfl,?_⟩⟩
   rotate_left
   ·rw[<-hWe]at hl⊢;rw[vZ.1 c12];exact .test M 0 (by rw[Ty]at hl;omega)
   have hw2:ap ((W.length:Int)- 2+1)=(W.length:Int)- 2+1:=az (by omega) (by omega);have h6:(Tj #[84,84,84,84,84,84]).size=6:=rfl;rw[e1,e2,cond_true,hw2];unfold km;rw[h6,if_pos (by omega),Ti,Ti,TZ,show((W.length:Int)- 2+1).toNat=W.length - 1 by omega];have hsz:((Tj #[84,84,84,84,84,84]).extract 0 (W.length - 1)).size=W.length - 1:=by
    rw[V4,h6];omega
   refine DG (fun h=> ?_) (FN W (by show((Tj #[84,84,84,84,84,84]).extract 0 (W.length - 1)).size<=100;omega) (hT _ (by omega)));have h:(Tj #[84,84,84,84,84,84]).extract 0 (W.length - 1)=zQ:=h;rw[h]at hsz;have:zQ.size=1:=rfl;omega
  ·have e1:((((W.length:Int)- 2)==2) || ((((W.length:Int)- 2)==4) || (((W.length:Int)- 2)==5)))=false:=by
    rw[Uz,Uz,beq_eq_false_iff_ne,beq_eq_false_iff_ne,beq_eq_false_iff_ne];omega
   have e2:(((W.length:Int)==4) || (((W.length:Int)==6) || ((W.length:Int)==7)))=false:=by
    rw[Uz,Uz,beq_eq_false_iff_ne,beq_eq_false_iff_ne,beq_eq_false_iff_ne];omega
   refine⟨_,[],0,rfl,?_,fun h=> ?_⟩
   ·rw[e1,e2,cond_false,Ti,T6];exact hdash
   ·rw[e2]at h;cases h
 ·simp only[c1,c2,c3,c4,c5,c6,c7,c8,c9,c10,c11,c12,cond_false,Ti,T6];exact⟨_,[],0,rfl,hdash,fun h=>by cases h⟩
def q7(n:Nat):Nat->Nat->List Int->List (List Int)
 | 0,_,R=>[R]
 | m+1,f,R=>(List.range' f (n - f)).flatMap fun i=>q7 n m (i+1) (R++[(i:Int)])
theorem q8{n:Nat}: ∀(m f:Nat) (R:List Int),ik n R->fS R f-> ∀Q,Q∈q7 n m f R↔ik n Q/\R<+:Q/\Q.length=R.length+m:=by
 intro m
 induction m with
 | zero=>
  intro f R hR _ Q;unfold q7;rw[TH];constructor
  ·rintro rfl;exact⟨hR,WM _,rfl⟩
  ·rintro⟨_,h2,h3⟩;exact(h2.eq_of_length h3.symm).symm
 | succ m ih=>
  intro f R hR hf Q;unfold q7;rw[TK];constructor
  ·rintro⟨i,hi,hq⟩;rw[Vy]at hi;have hs:ik n (R++[(i:Int)]):=hR.snoc (by omega) (by omega) fun x hx=>by have:=hf.1 x hx;omega
   obtain⟨q1,q2,q3⟩:=(ih (i+1) _ hs (hf.snoc hi.1) Q).1 hq;refine⟨q1,(V3 R [(i:Int)]).trans q2,?_⟩;rw[Tz,U0]at q3;omega
  ·rintro⟨q1,⟨t,rfl⟩,q3⟩;cases t with
   | nil=>simp at q3
   | cons i t=>
    have hp:=List.pairwise_append.1 q1.1;have hi:=q1.2 i (by simp);obtain⟨k,rfl⟩: ∃k:Nat,i=k:=⟨i.toNat,by omega⟩;have hfi:=hf.2 k hi.1 fun x hx=>hp.2.2 x hx k (by simp);have hs:ik n (R++[(k:Int)]):=hR.snoc hi.1 hi.2 fun x hx=>hp.2.2 x hx k (by simp);rw[Tz,Ty]at q3;refine⟨k,Vy.2 ⟨by omega,by omega⟩,(ih (k+1) _ hs (hf.snoc (by omega)) _).2 ⟨q1,⟨t,by simp⟩,?_⟩⟩;rw[Tz,Tz,Ty,U0];omega
theorem A5{n:Nat}: ∀(m f:Nat) (R Q:List Int),Q∈q7 n m f R->R<+:Q:=by
 intro m
 induction m with
 | zero=>
  intro f R Q h;unfold q7 at h;rw[TH.1 h];exact WM _
 | succ m ih=>
  intro f R Q h;unfold q7 at h;rw[TK]at h;obtain⟨i,_,hq⟩:=h;exact(V3 R [(i:Int)]).trans (ih _ _ _ hq)
theorem HQ{n:Nat}: ∀(m f:Nat) (R:List Int),(q7 n m f R).Pairwise fun a b=>cmpL a b<0:=by
 intro m
 induction m with
 | zero=>intro f R;simp[q7]
 | succ m ih=>
  intro f R;unfold q7;refine nB (fun i _=>ih _ _) ((Ww (s:=f) (n:=n - f)).imp fun{i j} hij a ha b hb=> ?_);obtain⟨s,rfl⟩:=A5 _ _ _ _ ha;obtain⟨t,rfl⟩:=A5 _ _ _ _ hb;rw[TX,TX,tG];show cmpL ((i:Int)::s) ((j:Int)::t)<0;unfold cmpL;rw[if_pos (by omega)];omega
def wK(n:Nat):List (List Int):=(List.range' 1 n).flatMap fun m=>q7 n m 0 []
theorem zO{n:Nat}{Q:List Int}:Q∈wK n↔ik n Q/\Q≠[]:=by
 unfold wK;rw[TK];constructor
 ·rintro⟨m,hm,hq⟩;rw[Vy]at hm;obtain⟨q1,_,q3⟩:=(q8 m 0 [] (ik.nil n) fS.nil Q).1 hq;refine⟨q1,fun h=> ?_⟩;subst h;simp at q3;omega
 ·rintro⟨q1,q2⟩;have hl:=q1.len;have hp:=VX.2 q2;exact⟨Q.length,Vy.2 ⟨by omega,by omega⟩,(q8 _ 0 [] (ik.nil n) fS.nil Q).2 ⟨q1,List.nil_prefix,by simp⟩⟩
theorem Gq(n:Nat):(wK n).Pairwise (mT fun _=>0):=by
 refine nB (fun m _=> ?_) ((Ww (s:=1) (n:=n)).imp fun{i j} hij a ha b hb=> ?_)
 ·refine List.Pairwise.imp_of_mem (fun{a b} ha hb h=> ?_) (HQ m 0 []);have h1:=((q8 m 0 [] (ik.nil n) fS.nil a).1 ha).2.2;have h2:=((q8 m 0 [] (ik.nil n) fS.nil b).1 hb).2.2;exact .inr ⟨rfl,.inr ⟨by omega,h⟩⟩
 ·have h1:=((q8 i 0 [] (ik.nil n) fS.nil a).1 ha).2.2;have h2:=((q8 j 0 [] (ik.nil n) fS.nil b).1 hb).2.2;exact .inr ⟨rfl,.inl (by omega)⟩
theorem C5{w:List Int->Int}{p:List Int->Bool}: ∀{l:List (List Int)} {b:List Int},l.Pairwise (mT w)->l.find? p=some b->il w (l.filter p) b
 | [],b,_,h=>by simp at h
 | x::l,b,hp,h=>by
  have h2:=List.pairwise_cons.1 hp;rw[List.find?_cons]at h;cases hx:p x
  ·rw[hx]at h;rw[Vn (by simp[hx])];exact C5 h2.2 h
  ·rw[hx]at h;injection h with h;subst h;rw[U2 hx];exact⟨by simp,fun r hr=>by
    rcases Tx.1 hr with rfl | hr
    ·exact .inl rfl
    ·exact .inr (h2.1 r (Tu.1 hr).1)⟩
theorem BB{n:Nat}{p:List Int->Bool}(h0:p []=false){b:List Int}(h:(wK n).find? p=some b){l:List (List Int)}(hl: ∀x,x∈l↔ik n x/\p x=true){c:List Int}(hc:il (fun _=>0) l c):c=b:=by
 refine il.unique (m:=(wK n).filter p) (fun x=> ?_) hc (C5 (Gq n) h);rw[hl,Tu,zO];constructor
 ·rintro⟨h1,h2⟩;exact⟨⟨h1,fun e=>by rw[e,h0]at h2;cases h2⟩,h2⟩
 ·rintro⟨⟨h1,_⟩,h2⟩;exact⟨h1,h2⟩
theorem uF{w:List Int->Int}(lt:List Int->List Int->Bool)(hlt: ∀a b,lt a b=true↔mT w a b)(p:List Int->Bool): ∀(l done:List (List Int)) (b:List Int),il w done b->il w (done++l.filter p) (l.foldl (fun b a=>bif lt a b&&p a then a else b) b)
 | [],done,b,h=>by simpa using h
 | a::l,done,b,h=>by
  rw[List.foldl_cons];cases hp:p a
  ·rw[Vn (by simp[hp]),Bool.and_false,cond_false];exact uF lt hlt p l done b h
  ·rw[U2 hp,V6];have h2:=xu lt hlt [a] done b h;have:=uF lt hlt p l (done++[a]) _ h2;simpa using this
theorem filter_lt{α:Type}{p q:α->Bool}(h: ∀x,q x=true->p x=true){a:α}(hp:p a=true)(hq:q a=false): ∀{L:List α},a∈L->(L.filter q).length<(L.filter p).length
 | [],ha=>by cases ha
 | x::l,ha=>by
  have hle: ∀M:List α,(M.filter q).length<=(M.filter p).length:=by
   intro M
   induction M with
   | nil=>simp
   | cons y m ih=>
    rw[V1,V1];cases hy:q y
    ·cases p y<;>simp<;>omega
    ·rw[h y hy];simp;omega
  have h1:=hle l;rw[V1,V1];rcases Tx.1 ha with rfl | ha
  ·rw[hp,hq];simp;omega
  ·have h2:=filter_lt h hp hq ha;cases hy:q x
   ·cases p x<;>simp<;>omega
   ·rw[h x hy];simp;omega
theorem any_eq{L:List ByteArray}{v:ByteArray}:(L.any fun x=>v.toList==x.toList)=true↔v∈L:=by
 rw[Uh];refine⟨fun⟨x,h1,h2⟩=> ?_,fun h=>⟨v,h,fT.2 rfl⟩⟩;rw[fT.1 h2];exact h1
theorem any_eq'{L:List ByteArray}{v:ByteArray}:(L.any fun x=>x.toList==v.toList)=true↔v∈L:=by
 rw[Uh];refine⟨fun⟨x,h1,h2⟩=> ?_,fun h=>⟨v,h,fT.2 rfl⟩⟩;rw[<-fT.1 h2];exact h1
theorem contains_eq{L:List ByteArray}(hL:L.length<=1000000000)(v:ByteArray):bt L v=some (L.any fun x=>v.toList==x.toList):=by
 unfold bt dh;rw[gg (by omega) (fun x=>v.toList==x.toList) (fun i x hx=>by rw[aG,hx];rfl),Ti,kW]
theorem GD{L:List ByteArray}(hL:L.length<=1000000000)(v:ByteArray): ∃n:Int,kG L v=some n/\(n<0↔v∉L):=by
 unfold kG;rw[gg (by omega) (fun x=>x.toList==v.toList) (fun i x hx=>by rw[aG,hx];rfl)];refine⟨_,rfl,?_⟩;have h1:=ri (fun x:ByteArray=>x.toList==v.toList) L;rw[<-any_eq'];constructor
 ·intro h;rw[decide_eq_true h]at h1;intro hc;rw[hc]at h1;cases h1
 ·intro h;rw[Bool.not_eq_true]at h;rw[h]at h1;simpa using h1
def R6(a b:List ByteArray×Bool):Prop:=a.2=b.2/\(b.2=true->a=b)
def vt(C out:List ByteArray):Nat:=(C.filter fun v=> !(out.any fun x=>v.toList==x.toList)).length
theorem zG{C out:List ByteArray}{v:ByteArray}(h1:v∈C)(h2:v∉out):vt C (out++[v])<vt C out:=by
 unfold vt;have hf: ∀{M:List ByteArray} {x:ByteArray},(!(M.any fun z=>x.toList==z.toList))=true↔x∉M:=fun{M x}=>by
  rw[Un,TS,ne_eq,any_eq]
 refine filter_lt (fun x hx=> ?_) (a:=v) (hf.2 h2) ?_ h1
 ·rw[hf]at hx⊢;exact fun h=>hx (T7 _ h)
 ·rw[TS,ne_eq,hf];simp
theorem Ft{L:List Claim}(hL:L.length<=100)(hc: ∀x∈L,cB x=true)(place:ByteArray)(y:Int): ∃a b,fA L place y=some a/\mK L place y=some b/\R6 a b/\b.1.length<=101:=by
 have key: ∀(n:Nat) (out:List ByteArray) (v:ByteArray),vt (place::L.map Claim.Value) out<=n->v∈place::L.map Claim.Value->v∉out->(place∈out\/v=place)->out.length+vt (place::L.map Claim.Value) out<=101->
   ∃a b,loop (fun(s1:(List ByteArray))=>((at' s1 (ap ((s1.length:Int)- 1))).bind fun x3=>((fO L x3 y).bind fun x4=>(((bif(x4.2&&(x4.1.toList==place.toList))then some (.inr (.inr (s1,true)))else(((bif(!x4.2)then some true else((bt s1 x4.1).bind fun x7=>some x7))).bind fun(j8:Bool)=>(bif j8 then some (.inr (.inr (([]:List ByteArray),false)))else some (.inl ()))))).bind (TC (fun(_:Unit)=>((bW s1 ([x4.1]:List ByteArray)).bind fun x10=>some (.inl x10))) some))))) (out++[v])=some a/\
   ((loop (fun(s3:ByteArray×(List ByteArray))=>((kG s3.2 s3.1).bind fun x5=>(bif(decide (x5<0))then((bW s3.2 ([s3.1]:List ByteArray)).bind fun x6=>((iD L s3.1 y).bind fun x7=>(bif(x7.toList==(Tj #[]).toList)then some (.inr (.inr (([]:List ByteArray),false)))else some (.inl (x7,x6)))))else some (.inr (.inl (s3.1,s3.2)))))) (v,out))).bind (TC (fun(j1:ByteArray×(List ByteArray))=>some (j1.2,(j1.1.toList==place.toList))) some)=some b/\R6 a b/\b.1.length<=101:=by
  intro n
  induction n with
  | zero=>
   intro out v h1 h2 h3;have:=zG h2 h3;omega
  | succ n ih=>
   intro out v h1 h2 h3 hp h13;have hlt:=zG h2 h3;have hl:out.length<=101:=by omega
   have hlen:(out++[v]).length=out.length+1:=by simp
   have hat:at' (out++[v]) (ap (((out++[v]).length:Int)- 1))=some v:=by
    rw[az (by omega) (by omega),hlen,show((out.length+1:Nat):Int)- 1=(out.length:Int) by omega,aG];simp
   have hpl:place∈out++[v]:=by
    rcases hp with hp | rfl
    ·exact T7 _ hp
    ·simp
   obtain⟨m,hm,hm'⟩:=GD (L:=out) (by omega) v;rw[bT]
   conv in loop _ (v,out)=>rw[bT]
   simp only[hat,Ti,mq (show L.length<=1048576 by omega),hm,decide_eq_true (hm'.2 h3),cond_true,ci (show out.length+[v].length<=68719476736 by simp;omega),pV (show L.length<=1048576 by omega)];cases ht:tel L 1 v y with
   | none=>
    have e0:AV none=(Tj #[],false):=rfl;have e2:((Tj #[]).toList==(Tj #[]).toList)=true:=fT.2 rfl;simp only[e0,e2,Wj,cond_false,cond_true,Uj,Ti,TZ];refine⟨([],false),([],false),rfl,rfl,⟨rfl,fun _=>rfl⟩,by simp⟩
   | some u=>
    obtain⟨hu1,hu2⟩:=zF hc (.inr rfl) ht;have e1:AV (some u)=(u,true):=rfl;simp only[e1,Uy,xS hu1,cond_false,TO,contains_eq (show(out++[v]).length<=1000000000 by omega),Ti];by_cases hin:u∈out++[v]
    ·obtain⟨m2,hm2,hm2'⟩:=GD (L:=out++[v]) (by omega) u;rw[bT];have hge: ¬m2<0:=fun h=>hm2'.1 h hin;simp only[hm2,Ti,decide_eq_false hge,cond_false,T6,any_eq.2 hin,cond_true];cases hpu:(u.toList==place.toList)
     ·refine⟨([],false),_,rfl,rfl,⟨rfl,fun h=>by cases h⟩,by simp;omega⟩
     ·refine⟨(out++[v],true),_,rfl,rfl,⟨rfl,fun _=>rfl⟩,by simp;omega⟩
    ·have hne:(u.toList==place.toList)=false:=by
      rw[TS];intro h;rw[fT.1 h]at hin;exact hin hpl
     have hnot:((out++[v]).any fun x=>u.toList==x.toList)=false:=by
      rw[TS,ne_eq,any_eq];exact hin
     simp only[hne,cond_false,hnot,Ti,T6,ci (show(out++[v]).length+[u].length<=68719476736 by simp;omega)];have h9:=ih (out++[v]) u (by omega) (T1 _ hu2) hin (.inl hpl) (by omega);simp only[mq (show L.length<=1048576 by omega),pV (show L.length<=1048576 by omega),Ti]at h9;exact h9
 have h0:vt (place::L.map Claim.Value) []<=101:=by
  unfold vt;have:=UN (fun v=> !(([]:List ByteArray).any fun x=>v.toList==x.toList)) (place::L.map Claim.Value);simp only[Ty,TM]at this;omega
 obtain⟨a,b,h1,h2,h3,h4⟩:=key 101 [] place h0 TP (by simp) (.inr rfl) (by simpa using h0);exact⟨a,b,h1,h2,h3,h4⟩
theorem oM{α A:Type}(p:Nat->α->Bool)(a:A): ∀(L:List α) (k:Nat),cr p (fun _ _=>a) L k=bif(cr p (fun _ _=>()) L k).isSome then some a else none
 | [],_=>rfl
 | x::l,k=>by
  unfold cr;cases p k x
  ·exact oM p a l (k+1)
  ·rfl
def sX(L:List Claim):Bool:=(cr (fun i x=>(L.take i).any (q9 x)) (fun _ _=>()) L 0).isSome
theorem BI{L:List Claim}(hL:L.length<=1048576):oQ L=some (sX L):=by
 unfold oQ cm cz sX;rw[gf (by omega) (fun i x=>(L.take i).any (q9 x)) (fun _ _=>true) (fun i x hx=>by
  have hi:i<L.length:=(Tl.1 hx).1;rw[aG,hx,Ti,lz (by omega) (by omega) (by omega),Ti];simp only[Int.toNat_zero,VJ,TG,VT];rw[gg (L:=L.take i) (by rw[TQ];omega) (q9 x) (fun k z hz=>by rw[aG,hz,Ti,Og,Ti])];simp only[Ti,kW]),oM]
 cases (cr (fun i x=>(L.take i).any (q9 x)) (fun _ _=>()) L 0).isSome<;>rfl
theorem MW{α A:Type}{L:List α}(hL:L.length<=1048576){body:Int->Option (Int⊕(Unit⊕A))}(p:α->Bool)(a:A)(hend:body (L.length:Int)=some (.inr (.inl ())))(h: ∀(i:Nat) x,L[i]? =some x->body (i:Int)=bif p x then some (.inr (.inr a))else some (.inl (ap ((i:Int)+1)))):loop body 0=some (bif L.any p then .inr a else .inl ()):=by
 have key: ∀(M:List α) (k:Nat),L.drop k=M->k<=L.length->loop body (k:Int)=some (bif M.any p then .inr a else .inl ()):=by
  intro M
  induction M with
  | nil=>
   intro k hk hkl;have:L.length<=k:=List.drop_eq_nil_iff.1 hk;obtain rfl:k=L.length:=by omega
   rw[bT,hend];rfl
  | cons x M ih=>
   intro k hk hkl;have hx:L[k]? =some x:=by
    have:=U7 (xs:=L) (i:=k) (j:=0);rw[hk]at this;simpa using this.symm
   have hlt:k<L.length:=(Tl.1 hx).1;rw[bT,h k x hx];cases hp:p x
   ·rw[cond_false,List.any_cons,hp,VW,az (by omega) (by omega)];have h2:=ih (k+1) (by rw[<-WB,hk];rfl) (by omega);exact h2
   ·rw[cond_true,List.any_cons,hp];rfl
 exact key L 0 rfl (by omega)
def tf(L:List Claim)(p:ByteArray)(y:Int):Bool:=((fA L p y).map Prod.snd).getD false
theorem HN{L:List Claim}(hL:L.length<=100)(hc: ∀x∈L,cB x=true)(p:ByteArray)(y:Int): ∃l,fA L p y=some (l,tf L p y):=by
 obtain⟨a,b,h1,h2,h3,h4⟩:=Ft hL hc p y;refine⟨a.1,?_⟩;unfold tf;rw[h1];rfl
theorem NW{L:List Claim}(hL:L.length<=100)(hc: ∀x∈L,cB x=true)(p:ByteArray)(y:Int): ∃l,mK L p y=some (l,tf L p y):=by
 obtain⟨a,b,h1,h2,h3,h4⟩:=Ft hL hc p y;refine⟨b.1,?_⟩;unfold tf;rw[h1,h2];simp[h3.1]
theorem NX{L:List Claim}(hL:L.length<=100){p:ByteArray}{y:Int}(h:tf L p y=true): ∃d∈L,d.Kind=1/\d.Place=p/\inB y d.Years.From d.Years.To=true:=by
 cases ht:L.find? (p8 1 p y)with
 | none=>
  exfalso;unfold tf fA at h;have hat:at' [p] (ap ((([p]:List ByteArray).length:Int)- 1))=some p:=rfl;have e0:AV (tel L 1 p y)=(Tj #[],false):=by unfold tel;rw[ht];rfl
  rw[bT]at h;simp only[hat,Ti,mq (show L.length<=1048576 by omega),e0,Wj,cond_false,Uj,cond_true,TZ,UO,Option.getD_some]at h;cases h
 | some d=>
  have h1:=Wp ht;unfold p8 at h1;rw[Tp,Tp,beq_iff_eq]at h1;exact⟨d,Vd ht,h1.1,fT.1 h1.2.1,h1.2.2⟩
def wJ(L:List Claim):Bool:=L.any fun c=>(c.Kind==1)&&L.any fun d=>tf L d.Place c.Years.From
theorem PV{L:List Claim}(hL:L.length<=100):(L.any fun c=>L.any fun d=>((c.Kind==1)&&((d.Kind==1)&&inB c.Years.From d.Years.From d.Years.To))&&tf L d.Place c.Years.From)=wJ L:=by
 unfold wJ;rw[Va,Uh,Uh];constructor
 ·rintro⟨c,hc,h⟩;obtain⟨d,hd,h⟩:=Uh.1 h;rw[Tp,Tp]at h;exact⟨c,hc,Bool.and_eq_true_iff.2 ⟨h.1.1,Uh.2 ⟨d,hd,h.2⟩⟩⟩
 ·rintro⟨c,hc,h⟩;rw[Tp]at h;obtain⟨d,hd,h2⟩:=Uh.1 h.2;obtain⟨e,he,h3,h4,h5⟩:=NX hL h2;refine⟨c,hc,Uh.2 ⟨e,he,?_⟩⟩;rw[h.1,h5,h4,h2,h3];rfl
theorem FE{α A:Type}{L:List α}(hL:L.length<=1048576){B:Int->Unit->Option (Unit⊕(Unit⊕A))}(p:α->Bool)(a:A)(h: ∀(i:Nat) x,L[i]? =some x->B (i:Int) ()=bif p x then some (.inr (.inr a))else some (.inl ())):
  de (L.length:Int) B (fun _=> .inl ()) 0 ()=bif L.any p then some (.inr a)else some (.inl ()):=by
 rw[lN L (by omega) B (fun _ x _=>bif p x then some (.inr (.inr a))else some (.inl ())) _ () (fun j x _ hx=>h j x hx),Ax];cases L.any p<;>rfl
theorem yk{L:List Claim}(hL:L.length<=100)(hc: ∀x∈L,cB x=true):mj L=some (wJ L):=by
 unfold mj gZ;rw[iv (by omega) (fun c=>L.any fun d=>((c.Kind==1)&&((d.Kind==1)&&inB c.Years.From d.Years.From d.Years.To))&&tf L d.Place c.Years.From) true (fun i c hx=>by
  rw[aG,hx,Ti,FE (by omega) (fun d=>((c.Kind==1)&&((d.Kind==1)&&inB c.Years.From d.Years.From d.Years.To))&&tf L d.Place c.Years.From) (.inr true) (fun k d hd=>by
   obtain⟨l,hl⟩:=HN hL hc d.Place c.Years.From;rw[aG,hd,Ti,gC,hl];unfold bne;cases c.Kind==1<;>cases d.Kind==1<;>cases inB c.Years.From d.Years.From d.Years.To<;>rfl)]),PV hL]
 cases wJ L<;>rfl
theorem pN{L:List Claim}(hL:L.length<=100)(hc: ∀x∈L,cB x=true):bP L=some (!sX L&& !wJ L):=by
 unfold bP;rw[gf (by omega) (fun i x=>(L.take i).any (q9 x)) (fun _ _=>false) (fun i x hx=>by
  have hi:i<L.length:=(Tl.1 hx).1;have hl:(L.take i).length=i:=by rw[TQ];omega
  have:=FE (A:=Unit⊕Bool) (L:=L.take i) (by omega) (B:=fun(i7:Int) (_:Unit)=>((at' L (i:Int)).bind fun x11=>((at' L i7).bind fun x12=>((eF x11 x12).bind fun x13=>(bif x13 then some (.inr (.inr (.inr false)))else some (.inl ())))))) (q9 x) (.inr false) (fun k z hz=>by
   have hz':L[k]? =some z:=by
    have hk:k<i:=by have:=(Tl.1 hz).1;omega
    rw[<-hz,List.getElem?_take_of_lt hk]
   simp only[aG,hx,hz',Ti,O9])
  rw[hl]at this;exact this),oM]
 unfold sX;rw[iv (by omega) (fun c=>(c.Kind==1)&&L.any fun d=>tf L d.Place c.Years.From) false (fun i c hx=>by
  cases hk:(c.Kind==1)
  ·rw[bT];simp only[aG,hx,Ti,hk,Wj,cond_false];cases decide ((0:Int)<(L.length:Int))<;>rfl
  ·rw[MW (L:=L) (by omega) (fun d:Claim=>tf L d.Place c.Years.From) (.inr false) (by
    rw[decide_eq_false (by omega)];rfl) (fun k d hd=>by
    obtain⟨l,hl⟩:=NW hL hc d.Place c.Years.From;have hkl:k<L.length:=(Tl.1 hd).1;rw[decide_eq_true (by omega),cond_true];simp only[aG,hx,hd,Ti,hk,cond_true,hl];cases tf L d.Place c.Years.From<;>rfl)]
   cases (L.any fun d=>tf L d.Place c.Years.From)<;>rfl)]
 unfold wJ;cases (cr (fun i x=>(L.take i).any (q9 x)) (fun _ _=>()) L 0).isSome
 ·cases (L.any fun c=>(c.Kind==1)&&L.any fun d=>tf L d.Place c.Years.From)<;>rfl
 ·rfl
def nL(L:List Claim):Bool:= !sX L&& !wJ L
theorem fZ{L:List Claim}(hL:L.length<=100)(hc: ∀x∈L,cB x=true):cd L=some (nL L):=by
 unfold cd nL;rw[BI (by omega),yk hL hc];cases sX L<;>rfl
theorem aH{L:List Claim}:bh L=true↔L.length<=12/\ ∀x∈L,cB x=true:=by
 unfold bh;rw[Tp,decide_eq_true_eq,Tt]
def abC(L:List Claim)(p:ByteArray)(y:Int):Int:=bif bh L&&df p then bif inB y (-3000) 3000 then 0 else 2 else 1
theorem EE{L:List Claim}(hL:L.length<=1048576)(h: ∀x∈L,cJ x){p:ByteArray}(hp:p.size<=1048576)(y:Int):mf L p y=some (abC L p y):=by
 unfold mf lQ abC;rw[fY hL h,qj p (by unfold maxLen;omega),gC];cases bh L<;>cases df p<;>cases inB y (-3000) 3000<;>rfl
theorem sD{L:List Claim}(hL:L.length<=1048576)(h: ∀x∈L,cJ x){p:ByteArray}(hp:p.size<=1048576)(y:Int):kI L p y=some (abC L p y):=by
 unfold kI kF abC;rw[ki hL h,iM p (by unfold maxLen;omega),kc];cases bh L<;>cases df p<;>cases inB y (-3000) 3000<;>rfl
def soC(L:List Claim)(p:ByteArray)(y:Int):Int:=bif abC L p y==0 then bif nL L then 0 else 5 else abC L p y
theorem qX{L:List Claim}{p:ByteArray}{y:Int}(h:(abC L p y==0)=true):bh L=true:=by
 unfold abC at h;cases hc:bh L
 ·rw[hc]at h;simp at h
 ·rfl
theorem wU{L:List Claim}(hL:L.length<=1048576)(h: ∀x∈L,cJ x){p:ByteArray}(hp:p.size<=1048576)(y:Int):lk L p y=some (soC L p y):=by
 unfold lk soC;rw[sD hL h hp,Ti];cases h0:(abC L p y==0)
 ·rfl
 ·obtain⟨h1,h2⟩:=aH.1 (qX h0);rw[pN (by omega) h2,<-nL];cases nL L
  ·rfl
  ·simp only[cond_true,Ti,TO,cond_false,beq_iff_eq.1 h0]
theorem Jv{L:List Claim}{p:ByteArray}{y:Int}(h:(soC L p y !=0)=false):bh L=true:=by
 unfold soC at h;cases h0:(abC L p y==0)
 ·rw[h0,cond_false,bne,h0]at h;cases h
 ·exact qX h0
def Ns(L:List Claim)(k:Int)(p:ByteArray)(y:Int):ByteArray×Int:=bif soC L p y !=0 then(Tj #[],soC L p y)else match tel L k p y with | some v=>(v,0) | none=>(Tj #[],4)
theorem D9{L:List Claim}(hL:L.length<=1048576)(h: ∀x∈L,cJ x){p:ByteArray}(hp:p.size<=1048576)(y:Int):qv L p y=some (Ns L 0 p y):=by
 unfold qv Ns;rw[wU hL h hp,Ti,He hL,Ti];cases h0:(soC L p y !=0)
 ·obtain⟨h1,h2⟩:=aH.1 (Jv h0);cases ht:tel L 0 p y with
  | none=>
   have e2:((AV none).1.toList==(Tj #[]).toList)=true:=fT.2 rfl;rw[e2];rfl
  | some v=>
   have e2:((AV (some v)).1.toList==(Tj #[]).toList)=false:=xS (zF h2 (.inl rfl) ht).1;rw[e2];rfl
 ·rfl
theorem AP{L:List Claim}(hL:L.length<=1048576)(h: ∀x∈L,cJ x){p:ByteArray}(hp:p.size<=1048576)(y:Int):nD L p y=some (Ns L 1 p y):=by
 unfold nD Ns;rw[wU hL h hp,Ti,pV hL,Ti];cases h0:(soC L p y !=0)
 ·obtain⟨h1,h2⟩:=aH.1 (Jv h0);cases ht:tel L 1 p y with
  | none=>
   have e2:((AV none).1.toList==(Tj #[]).toList)=true:=fT.2 rfl;rw[e2];rfl
  | some v=>
   have e2:((AV (some v)).1.toList==(Tj #[]).toList)=false:=xS (zF h2 (.inr rfl) ht).1;rw[e2];rfl
 ·rfl
theorem Mp(x:Claim):q9 x x=false:=by
 unfold q9;have h:(x.Kind==1&&(x.Kind==3&&x.Value.toList==x.Place.toList))=false:=by
  rw[TS];intro h;rw[Tp,Tp,beq_iff_eq,beq_iff_eq]at h;omega
 rw[h];simp
theorem Mo(x y:Claim):q9 x y=q9 y x:=by
 unfold q9;rw[BEq.comm (a:=x.Place.toList),BEq.comm (a:=x.Kind) (b:=y.Kind),BEq.comm (a:=x.Value.toList) (b:=y.Value.toList)];have h:(bif y.Kind==x.Kind then((x.Kind==0) || (x.Kind==1))&& !(y.Value.toList==x.Value.toList)else(x.Kind==3) || (y.Kind==3))=(bif y.Kind==x.Kind then((y.Kind==0) || (y.Kind==1))&& !(y.Value.toList==x.Value.toList)else(y.Kind==3) || (x.Kind==3)):=by
  by_cases hk:y.Kind=x.Kind
  ·rw[hk]
  ·rw[beq_eq_false_iff_ne.2 hk,cond_false,cond_false,Bool.or_comm]
 rw[h];generalize (bif y.Kind==x.Kind then((y.Kind==0) || (y.Kind==1))&& !(y.Value.toList==x.Value.toList)else(y.Kind==3) || (x.Kind==3))=c;generalize (x.Kind==1&&(y.Kind==3&&x.Value.toList==y.Place.toList))=a;generalize (y.Kind==1&&(x.Kind==3&&y.Value.toList==x.Place.toList))=b;generalize (y.Place.toList==x.Place.toList)=z;generalize decide (x.Years.From<=y.Years.To)=m;generalize decide (y.Years.From<=x.Years.To)=n;cases m<;>cases n<;>cases a<;>cases b<;>cases c<;>cases z<;>rfl
theorem tO{α:Type}(p:Nat->α->Bool): ∀(L:List α) (k:Nat),(cr p (fun _ _=>()) L k).isSome=true↔ ∃i x,L[i]? =some x/\p (k+i) x=true
 | [],k=>by simp[cr]
 | x::l,k=>by
  unfold cr;cases hp:p k x
  ·rw[cond_false,tO p l (k+1)];constructor
   ·rintro⟨i,y,h1,h2⟩;exact⟨i+1,y,by simpa using h1,by rw[<-h2];congr 1;omega⟩
   ·rintro⟨i,y,h1,h2⟩;cases i with
    | zero=>
     have:x=y:=by simpa using h1
     subst this;rw[Nat.add_zero,hp]at h2;cases h2
    | succ i=>exact⟨i,y,by simpa using h1,by rw[<-h2];congr 1;omega⟩
  ·simp only[cond_true,Option.isSome_some,true_iff];exact⟨0,x,rfl,hp⟩
theorem Ay{L:List Claim}:sX L=true↔ ∃x∈L,∃y∈L,q9 x y=true:=by
 unfold sX;rw[tO];simp only[Nat.zero_add,Uh];constructor
 ·rintro⟨i,x,h1,y,h2,h3⟩;exact⟨x,Tm h1,y,U6 h2,h3⟩
 ·rintro⟨x,hx,y,hy,h⟩;obtain⟨i,hi,rfl⟩:=VU.1 hx;obtain⟨k,hk,rfl⟩:=VU.1 hy;rcases Vf i k with hik | rfl | hik
  ·refine⟨k,L[k],Tk hk,L[i],?_,by rw[Mo];exact h⟩;exact List.mem_take_iff_getElem.2 ⟨i,by omega,rfl⟩
  ·rw[Mp]at h;cases h
  ·exact⟨i,L[i],Tk hi,L[k],List.mem_take_iff_getElem.2 ⟨k,by omega,rfl⟩,h⟩
theorem OR{L:List Claim}(h:sX L=false){x y:Claim}(hx:x∈L)(hy:y∈L):q9 x y=false:=by
 rw[TS];intro hc;rw[Ay.2 ⟨x,hx,y,hy,hc⟩]at h;cases h
theorem Om{y a b c d:Int}(h1:inB y a b=true)(h2:inB y c d=true):(decide (a<=d)&&decide (c<=b))=true:=by
 rw[io]at h1 h2;rw[Tp,decide_eq_true_eq,decide_eq_true_eq];omega
theorem Q4{k:Int}(hk:k=0\/k=1){x y:Claim}{p:ByteArray}{t:Int}(h:q9 x y=false)(h1:p8 k p t x=true)(h2:p8 k p t y=true):x.Value=y.Value:=by
 unfold p8 at h1 h2;rw[Tp,Tp,beq_iff_eq]at h1 h2;unfold q9 at h;rw[Om h1.2.2 h2.2.2,Uy,h1.1,h2.1,fT.1 h1.2.1,fT.1 h2.2.1,fT.2 rfl]at h;have hv:(x.Value.toList==y.Value.toList)=true:=by
  rcases hk with rfl | rfl<;>simpa using h
 exact fT.1 hv
theorem Pr{L M:List Claim}(hs: ∀x∈M,x∈L)(h:sX L=false){k:Int}(hk:k=0\/k=1){p:ByteArray}{t:Int}{v:ByteArray}(hv:tel M k p t=some v):tel L k p t=some v:=by
 unfold tel at hv⊢;rw[Tn]at hv⊢;obtain⟨c,hc,rfl⟩:=hv;have h1:=Wp hc;have h2:=hs c (Vd hc);cases hf:L.find? (p8 k p t)with
 | none=>
  rw[Vs]at hf;exact absurd h1 (hf c h2)
 | some d=>exact⟨d,rfl,Q4 hk (OR h (Vd hf) h2) (Wp hf) h1⟩
def HO(L:List Claim)(p:ByteArray)(y:Int)(s1:List ByteArray):Option (List ByteArray⊕(List ByteArray×Bool)):=((at' s1 (ap ((s1.length:Int)- 1))).bind fun x3=>((fO L x3 y).bind fun x4=>(((bif(x4.2&&(x4.1.toList==p.toList))then some (.inr (.inr (s1,true)))else(((bif(!x4.2)then some true else((bt s1 x4.1).bind fun x7=>some x7))).bind fun(j8:Bool)=>(bif j8 then some (.inr (.inr (([]:List ByteArray),false)))else some (.inl ()))))).bind (TC (fun(_:Unit)=>((bW s1 ([x4.1]:List ByteArray)).bind fun x10=>some (.inl x10))) some))))
theorem Fs(L:List Claim)(p:ByteArray)(y:Int):fA L p y=loop (HO L p y) [p]:=rfl
theorem CS{L:List Claim}(hL:L.length<=100)(_hc: ∀x∈L,cB x=true){p:ByteArray}{y:Int}{out:List ByteArray}{v:ByteArray}(hl:out.length<=101):HO L p y (out++[v])=match tel L 1 v y with
  | none=>some (.inr ([],false))
  | some u=>bif u.toList==p.toList then some (.inr (out++[v],true))else bif(out++[v]).any (fun x=>u.toList==x.toList)then some (.inr ([],false))else some (.inl (out++[v]++[u])):=by
 have hlen:(out++[v]).length=out.length+1:=by simp
 have hat:at' (out++[v]) (ap (((out++[v]).length:Int)- 1))=some v:=by
  rw[az (by omega) (by omega),hlen,show((out.length+1:Nat):Int)- 1=(out.length:Int) by omega,aG];simp
 unfold HO;simp only[hat,Ti,mq (show L.length<=1048576 by omega)];cases ht:tel L 1 v y with
 | none=>
  have e0:AV none=(Tj #[],false):=rfl;simp only[e0,Wj,cond_false,cond_true,Uj,Ti,TZ]
 | some u=>
  have e1:AV (some u)=(u,true):=rfl;simp only[e1,Uy,TO,cond_false,contains_eq (show(out++[v]).length<=1000000000 by omega),Ti];cases u.toList==p.toList
  ·rw[cond_false,cond_false];cases (out++[v]).any (fun x=>u.toList==x.toList)
   ·rw[cond_false,cond_false,Ti,T6,ci (show(out++[v]).length+[u].length<=68719476736 by simp;omega),Ti]
   ·rw[cond_true,cond_true,Ti,TZ]
  ·rw[cond_true,cond_true,Ti,TZ]
theorem NV{L M:List Claim}(hL:L.length<=100)(hM:M.length<=100)(hs: ∀x∈M,x∈L)(hc: ∀x∈L,cB x=true)(h:sX L=false){p:ByteArray}{y:Int}(hb:tf M p y=true):tf L p y=true:=by
 have hcM: ∀x∈M,cB x=true:=fun x hx=>hc x (hs x hx);obtain⟨l,hl⟩:=HN hM hcM p y;rw[hb]at hl;have key: ∀(n:Nat) (out:List ByteArray) (v:ByteArray),vt (p::M.map Claim.Value) out<=n->v∈p::M.map Claim.Value->v∉out->out.length+vt (p::M.map Claim.Value) out<=101-> ∀l,loop (HO M p y) (out++[v])=some (l,true)->loop (HO L p y) (out++[v])=some (l,true):=by
  intro n
  induction n with
  | zero=>
   intro out v h1 h2 h3;have:=zG h2 h3;omega
  | succ n ih=>
   intro out v h1 h2 h3 h13 l hl;have hlt:=zG h2 h3;have hlen:(out++[v]).length=out.length+1:=by simp
   rw[bT,CS hM hcM (by omega)]at hl;rw[bT,CS hL hc (by omega)];cases ht:tel M 1 v y with
   | none=>
    rw[ht]at hl;simp at hl
   | some u=>
    rw[ht]at hl;rw[Pr hs h (.inr rfl) ht];dsimp only at hl⊢;cases hu:(u.toList==p.toList)
    ·rw[hu]at hl;rw[cond_false]at hl⊢;cases hin:(out++[v]).any (fun x=>u.toList==x.toList)
     ·rw[hin]at hl;rw[cond_false]at hl⊢;refine ih (out++[v]) u (by omega) (T1 _ (zF hcM (.inr rfl) ht).2) (fun h=> ?_) (by omega) l hl;rw[any_eq.2 h]at hin;cases hin
     ·rw[hin]at hl;simp at hl
    ·rw[hu]at hl;exact hl
 have h0:vt (p::M.map Claim.Value) []<=101:=by
  unfold vt;have:=UN (fun v=> !(([]:List ByteArray).any fun x=>v.toList==x.toList)) (p::M.map Claim.Value);simp only[Ty,TM]at this;omega
 rw[Fs]at hl;have hl':=key 101 [] p h0 TP (by simp) (by simpa using h0) l hl;unfold tf;rw[Fs,show([p]:List ByteArray)=[]++[p]from rfl,hl'];rfl
theorem J5{L M:List Claim}(hL:L.length<=100)(hM:M.length<=100)(hs: ∀x∈M,x∈L)(hc: ∀x∈L,cB x=true)(h:sX L=false)(hb:wJ M=true):wJ L=true:=by
 unfold wJ at hb⊢;obtain⟨c,h1,h2⟩:=Uh.1 hb;rw[Tp]at h2;obtain⟨d,h3,h4⟩:=Uh.1 h2.2;exact Uh.2 ⟨c,hs c h1,Bool.and_eq_true_iff.2 ⟨h2.1,Uh.2 ⟨d,hs d h3,NV hL hM hs hc h h4⟩⟩⟩
theorem w6{L M:List Claim}(hL:L.length<=100)(hM:M.length<=100)(hs: ∀x∈M,x∈L)(hc: ∀x∈L,cB x=true)(h:nL L=true):nL M=true:=by
 unfold nL at h⊢;rw[Tp,Un,Un]at h⊢;constructor
 ·rw[TS];intro hp;obtain⟨x,hx,y,hy,hxy⟩:=Ay.1 hp;rw[Ay.2 ⟨x,hs x hx,y,hs y hy,hxy⟩]at h;cases h.1
 ·rw[TS];intro hp;rw[J5 hL hM hs hc h.1 hp]at h;cases h.2
def tF(L:List Claim)(I:List Int):List Claim:=(TU I.length).flatMap fun i=>((I[i]?).bind fun x=>L[x.toNat]?).toList
theorem HM{L:List Claim}{I:List Int}{x:Claim}(h:x∈tF L I):x∈L:=by
 unfold tF at h;obtain⟨i,_,h⟩:=TK.1 h;rw[Option.mem_toList]at h;obtain⟨k,_,h⟩:=Option.bind_eq_some_iff.1 h;exact Tm h
theorem HL(L:List Claim)(I:List Int):(tF L I).length<=I.length:=by
 unfold tF;have key: ∀R:List Nat,(R.flatMap fun i=>((I[i]?).bind fun x=>L[x.toNat]?).toList).length<=R.length:=by
  intro R
  induction R with
  | nil=>simp
  | cons i r ih=>
   rw[List.flatMap_cons,Tz,Ty];have:(((I[i]?).bind fun x=>L[x.toNat]?).toList).length<=1:=by
    cases ((I[i]?).bind fun x=>L[x.toNat]?)<;>simp
   omega
 have:=key (TU I.length)
 rwa [List.length_range]at this
theorem uw{L:List Claim}{I:List Int}(hI:I.length<=100)(h: ∀x∈I,0<=x/\x<L.length):lO L I=some (tF L I):=by
 unfold lO;rw[rU 1000 (by omega) (by omega) (fun i=>((I[i]?).bind fun x=>L[x.toNat]?).toList) (fun i=>by cases ((I[i]?).bind fun x=>L[x.toNat]?)<;>simp) [] (by simp;omega) (fun i s hi hs=>by
  have h1:=h _ (Uo hi);rw[aG,Tk hi,Ti];obtain⟨c,h2,h3⟩:=HD (L:=L) h1.1 h1.2;rw[h2,Ti,Ti,h3,ci (by simp;omega)];rfl)]
 rfl
theorem pM{L:List Claim}{I:List Int}(hI:I.length<=100)(h: ∀x∈I,0<=x/\x<L.length):eW L I=some (tF L I):=uw hI h
theorem q5{L:List Claim}{I:List Int}(hI:I.length<=100)(hc:bh L=true):(tF L I).length<=100/\ ∀x∈tF L I,cB x=true:=by
 have:=HL L I;exact⟨by omega,fun x hx=>(aH.1 hc).2 x (HM hx)⟩
theorem kS{L:List Claim}(hL:L.length<=100)(hc: ∀x∈L,cB x=true):bP L=some (nL L):=pN hL hc
