/- Parts of the proof, in order: GA, SF, GB, MW1, MWP, MIC2, MCN4, MD1, MGV, MCN5, QA, QM, MN1, MDS1, MCN6, MCN7, MLC3, MPL2, MLC1, MLC2, MLC4, MLC5, MN5, MLC6, MCN8, MCN9, SS1, MN2, MN3, MN6, MN7, MMR2, MMR3, MMR4. -/
import Derived.Test.YtbdbpakffniboaaGreatDoorCGAp1
import Derived.Test.YtbdbpakffniboaaGreatDoorCJ0
import Derived.Test.YtbdbpakffniboaaGreatDoorCJ1
import Derived.Test.YtbdbpakffniboaaGreatDoorCSB
noncomputable section
open Array renaming length_toList->Rf,toList_inj->TK
open BitVec renaming ofInt->R6,ofNat->Um,toNat_ofNat->Us,ofInt_natCast->UU
open Bool renaming and_eq_true->Q4,not_true->Rs,eq_false_iff->Rv,or_eq_true->Rw,not_false->RU,not_eq_true'->RZ,true_and->Se,or_eq_false_iff->Sf,eq_iff_iff->S7,false_or->TZ,and_true->T9,false_and->Ul,not_eq_false'->Ut
open ByteArray renaming mk->QZ,size_append->Q9,size_extract->T7
open Int renaming toNat_natCast->Rk,toNat->Rl,eq_ofNat_of_zero_le->RT,tmod->RW,tmod_eq_emod_of_nonneg->SB,fdiv->TF,lt_or_gt_of_ne->Ur
open List renaming getElem?_eq_getElem->Q0,getElem?_eq_some_iff->Q1,mem_of_getElem?->Q3,getElem?_append_right->Q6,all_eq_true->Q7,mem_filter->Q8,mem_cons->Ra,length_append->Rb,length_cons->Rc,mem_map->Rh,mem_singleton->Rj,mem_flatMap->Rn,getD_eq_getElem?_getD->Ro,length_map->Rp,mem_append->Rq,mem_cons_self->Rr,length_take->Rt,range->Rx,append_assoc->Ry,mem_cons_of_mem->RC,mem_range->RD,take_of_length_le->RF,mem_append_left->RI,drop_eq_getElem_cons->RP,any_eq_true->RS,getElem_mem->R2,mem_iff_getElem?->R3,append_nil->R4,pairwise_append->R5,length_drop->Sb,set->Sd,not_mem_nil->Sg,flatMap_cons->Sj,replicate->Sm,map_cons->Sq,nil_append->Sr,foldl_cons->Ss,drop_eq_nil_of_le->St,range'->Su,length_filter_le->Sv,length_nil->Sw,cons_append->Sy,map_append->SI,eq_nil_or_concat->SM,getElem?_cons_succ->SQ,filter_cons_of_pos->SU,mem_of_mem_take->S4,getElem?_drop->S5,mem_of_find?_eq_some->S9,take_add_one->Td,length_singleton->Te,filter_cons_of_neg->Tk,find?_eq_none->Tt,range'_succ->Tx,all_cons->Ty,mem_range'_1->TA,not_all_eq_any_not->TC,map_nil->TG,drop_zero->TL,concat_eq_append->TN,length_set->TP,mem_iff_getElem->TX,length_pos_iff->T0,getElem?_cons_zero->T3,filter_cons->T4,prefix_append->T6,take_append_drop->Ub,length_range->Ud,find?_some->Up,range_succ->Uq,pairwise_lt_range'->Ux,drop_drop->UD,any_eq_false->UG,getElem?_set->UH,singleton_append->UK,prefix_refl->UP
open Nat renaming le_refl->Re,pow_le_pow_right->RN,lt_of_lt_of_le->RQ,zero_add->RR,zero_le->R0,le_trans->R7,add_zero->Sa,lt_trichotomy->Tc,sub_self->Tp,mod_eq_of_lt->Tv,mul_le_mul->Tz,min_eq_left->TR,pow_succ->TU,sub_zero->TW
open Option renaming bind_some->QY,map_eq_some_iff->Q2,some->RY,map_some->Sx
open Sum renaming elim->Ri,elim_inr->RB,elim_inl->RH,inr->S1,inl->Tm
open UInt8 renaming lt_iff_toNat_lt->Tf,toNat_inj->TE
namespace Go.Proofs.YtbdbpakffniboaaGreatDoor.Sh
open Go.RowKit
set_option maxRecDepth 100000
set_option maxHeartbeats 4000000
section
variable {P : Program} {tb : Tb} {ops : Array Oper} {o : Oper} {ν : SS}
theorem KO(hP:bh P tb){d e m n:Nat}{es:List (List Tr)}(hdst:o.dst=some d)(hgd:gd ops ν o=some true)(hn:d<ν.n)(hf:(SS.mk ν.n ν.t []).names.contains d=false)(h:aop tb ⟨ν.n,ν.t,[]⟩ d o.type o.op=some (.own d,.arr e m n es)):bJ P ops o ν (some (.tr (.sl n es),none)):=by
 intro σ c a w hs _ ⟨S,β,hr⟩;have hν:=hs.rel hr;unfold iI;rw[oU hν hgd,if_pos rfl];have hf':d∉(SS.mk ν.n ν.t []).names:=fun hm=>by
  rw[List.contains_iff_mem.2 hm]at hf;cases hf
 have hr1:Rel ⟨w,S,[],fun _ _=>False,fun j v h=>(by cases h),⟨hr.wv,fun p _ ⟨_,_,h,_⟩=>by cases h⟩,false⟩ S β ⟨ν.n,ν.t,[]⟩ a w:=
  ⟨hν.defers,hν.size,hν.one,du.refl _ _,fun _ h=>h,fun _ h=> .inl h,hν.lt,hν.tmp,fun d x hd=>(by cases hd),fun j v hj=>(by cases hj),fun d x g hd _=>(by cases hd),fun d x d' x' g hd _ _ _=>(by cases hd)⟩
 obtain⟨u,w',hrun,⟨S2,β2,hr2⟩,hg⟩:=LD hP hr1 hr1 (fun _ h=>h) hdst hn hf' h;rw[hdst]at hr2;have hmem:(d,SO.arr e m n es)∈((SS.mk ν.n ν.t []).add d (.own d) (.arr e m n es)).o:= .head _;have hob:=hr2.obj d _ hmem;have hpv:=fun g hg=>hr2.priv d _ g hmem hg;have hu:β2 d=u:=by
  have h1:=hr2.tmp d (.own d) (.head _);rw[J1 a u (by have:=hν.size;omega)]at h1;cases h1.2;rfl
 have htree:TV w' (fun b=>S2 b\/(SO.arr e m n es).aU w' (β2 d) b) (.sl n es) (β2 d):=xW hr2 (fun _ hb=> .inl hb) hmem fun _ hg=> .inr hg;rw[hu]at htree hpv hob;have hr':=hr.world hg;have hold: ∀b,S b->S2 b:=hr2.s0;have hnew: ∀b,(S2 b\/(SO.arr e m n es).aU w' u b)->S b\/w.heap.size<=b:=fun b hb=>by
  rcases hb with hb | hb
  ·rcases hr2.s1 b hb with h | h | ⟨h,_⟩
   ·exact .inl h
   ·exact .inr h
   ·cases h
  ·rcases(hpv b hb).2 with⟨_,h⟩ | ⟨_,h⟩
   ·exact .inr h
   ·obtain⟨⟨_,_,h,_⟩,_⟩:=h;cases h
 unfold Oper.wp;rw[hrun];refine⟨fun b=>S2 b\/(SO.arr e m n es).aU w' u b,β,?_⟩;have hr3:Rel c (fun b=>S2 b\/(SO.arr e m n es).aU w' u b) β σ a w':=
  ⟨hr'.defers,hr'.size,hr'.one,hr'.grew,fun b hb=> .inl (hold b (hr.s0 b hb)),fun b hb=>by
   rcases hnew b hb with h | h
   ·exact hr.s1 b h
   ·exact .inr (.inl (R7 hr.grew.size h)),fun b hb=>by
   rcases hb with hb | hb
   ·exact hr2.lt b hb
   ·exact hob.lt hb,fun i v hi=>⟨(hr'.tmp i v hi).1,(hr'.tmp i v hi).2.keep (fun _ _=>rfl) fun b hb=> .inl (hold b hb)⟩,
   fun k x hk=>(hr'.obj k x hk).keep (fun _ _=>rfl) fun b hb=> .inl (hold b hb),hr'.pin,fun k x g hk hg2=>by
   refine⟨fun hb=> ?_,(hr'.priv k x g hk hg2).2⟩;have hlt:g<w.heap.size:=(hr.obj k x hk).lt (((hr.obj k x hk).aU fun b hb=>hg.block b ((hr.obj k x hk).lt hb) id).1 hg2);rcases hnew g hb with h | h
   ·exact(hr'.priv k x g hk hg2).1 h
   ·omega,hr'.apart⟩
 have hdσ:d<σ.n:=by rw[<-hs.n];exact hn
 rw[hdst];exact hr3.put hdσ (.tr _ _ htree)
theorem QH(hP:bh P tb)(n:Nat)(es:List (List Tr)){d e m:Nat}(hdst:o.dst=some d:=by kernel_rfl)(hgd:gd ops ν o=some true:=by kernel_rfl)(hn:Nat.blt d ν.n=true:=by kernel_rfl)(hf:(SS.mk ν.n ν.t []).names.contains d=false:=by kernel_rfl)(h:aop tb ⟨ν.n,ν.t,[]⟩ d o.type o.op=some (.own d,.arr e m n es):=by kernel_rfl):bJ P ops o ν (some (.tr (.sl n es),none)):=KO hP hdst hgd (by simpa using hn) hf h
end
set_option maxRecDepth 100000
set_option maxHeartbeats 4000000
structure ar where
 code:(List Int)
 at':Int
 seed:Int
def bO(x:ar):List Tr:=[.sl x.code.length (x.code.map (eI .u8)),.int .i64 x.at',.int .i64 x.seed]
def QV:TI:=⟨3,40,.struct [(0,28),(1,3),(2,2)],[.sl ([]:List Int).length (([]:List Int).map (eI .u8)),.int .i64 0,.int .i64 0]⟩
def O8:Tb:=[(2,ti2),(3,ti3),(4,ti4),(5,ti5),(9,ti9),(22,F4),(28,OS),(31,Ei),(32,HX),(34,vu),(63,HY),(65,Ej),(67,Dt),(69,Du),(83,QV),(91,QC),(126,O9)]
theorem rQ:bh Tryz.prog O8:=bh.cons ⟨by kernel_rfl,show Tryz.prog.underlying 2=some (.int .i64)from by kernel_rfl⟩ (bh.cons ⟨by kernel_rfl,show Tryz.prog.underlying 3=some (.int .i64)from by kernel_rfl⟩ (bh.cons ⟨by kernel_rfl,show Tryz.prog.underlying 4=some (.bool)from by kernel_rfl⟩ (bh.cons ⟨by kernel_rfl,show Tryz.prog.underlying 5=some (.int .u8)from by kernel_rfl⟩ (bh.cons ⟨by kernel_rfl,show Tryz.prog.underlying 9=some (.string)from by kernel_rfl⟩ (bh.cons ⟨by kernel_rfl,show Tryz.prog.underlying 22=some (.slice 9)from by kernel_rfl⟩ (bh.cons ⟨by kernel_rfl,show Tryz.prog.underlying 28=some (.slice 5)from by kernel_rfl⟩ (bh.cons ⟨by kernel_rfl,show Tryz.prog.underlying 31=some (.slice 65)from by kernel_rfl⟩ (bh.cons ⟨by kernel_rfl,show Tryz.prog.underlying 32=some (.slice 69)from by kernel_rfl⟩ (bh.cons ⟨by kernel_rfl,show structOf Tryz.prog 34=some [(0,31),(1,32)]from by kernel_rfl⟩ (bh.cons ⟨by kernel_rfl,show structOf Tryz.prog 63=some [(0,2),(1,2)]from by kernel_rfl⟩ (bh.cons ⟨by kernel_rfl,show structOf Tryz.prog 65=some [(0,9),(1,2),(2,9),(3,9),(4,63),(6,2)]from by kernel_rfl⟩ (bh.cons ⟨by kernel_rfl,show structOf Tryz.prog 67=some [(0,2),(1,2)]from by kernel_rfl⟩ (bh.cons ⟨by kernel_rfl,show structOf Tryz.prog 69=some [(0,9),(1,67)]from by kernel_rfl⟩ (bh.cons ⟨by kernel_rfl,show structOf Tryz.prog 83=some [(0,28),(1,3),(2,2)]from by kernel_rfl⟩ (bh.cons ⟨by kernel_rfl,show structOf Tryz.prog 91=some [(0,2),(1,2),(2,9),(3,2),(4,9),(5,9)]from by kernel_rfl⟩ (bh.cons ⟨by kernel_rfl,show Tryz.prog.underlying 126=some (.slice 2)from by kernel_rfl⟩ (bh.nil _)))))))))))))))))
instance:TbI Tryz.prog O8:=⟨rQ⟩
def xJ(bx:(List Int)):Option (Bool):=
 some (decide ((bx.length:Int)>4096))
theorem IP{bx:(List Int)}:Ct Tryz.prog 12 (xJ bx) [.v (vl (eI .u8) bx)] (fun r=>⟨[.v (vb r)],[],false⟩):=Ct.i Tryz.func12 rfl fun r h=>by
 unfold xJ at h;exact Z
def iR(bx:(List Int)):Option (ar):=
 (((oT (fun(i3:Int) (_:ar)=>((decide (i3<(bx.length:Int)))&&(decide (i3<64)))) (fun(i3:Int) (s3:ar)=>((at' bx i3).bind fun x7=>some (ar.mk s3.code s3.at' (RW (ao ((ao (s3.seed*73))+(ao x7))) 2147483647)))) (fun(s3:ar)=>s3) 0 (ar.mk bx 0 51031))).bind fun(j1:ar)=>some j1)
theorem tS{bx:(List Int)}:Ct Tryz.prog 35 (iR bx) [.v (vl (eI .u8) bx)] (fun r=>⟨[.box [vl (eI .u8) r.code,vi r.at',vi r.seed]],[],true⟩):=Ct.i Tryz.func35 rfl fun r h=>by
 unfold iR at h;refine sr ?_;refine k0 0 (Gb rfl) ?_;refine ba ?_;refine aq ?_;refine sr ?_;refine k0 1 yV ?_;refine ba ?_;refine aq ?_;refine ac ?_;refine sl ?_;refine dps [7,6,5] ?_;refine iz (fun _=>[]) (fun j1=>[(7,.box (tc bO j1))]) h (fun v2 h=> ?_) fun j1 h=>sl (ey (zf h (P0 (by kernel_rfl) (P1 (d:=7) (pE (by kernel_rfl)) (by kernel_rfl) rfl (by kernel_rfl)))));refine ai (a:=v2) ?_;refine lpo (fun s3=>[(4,vi s3.1)]) (fun s3=>[(7,.box (tc bO s3.2))]) h (fun s3 v4 h=> ?_);refine ac ?_;refine ac ?_;refine cB ⟨34,[(0,vl (eI .u8) bx),(3,.ref 7 0),(4,vi s3.1),(15,vb ((decide (s3.1<(bx.length:Int)))&&(decide (s3.1<64))))],[(7,.box (tc bO s3.2))]⟩ ?_ (ad h (fun h=>sn (jJo (fun _=>[]) (fun j5=>[(7,.box (tc bO j5))]) h (fun v6 h=>ai (a:=v6) (bk mixed (gb 8 h (yI (eI .u8)) fun x7 h=>gh false 6 (bN.seq (by kernel_rfl) (by kernel_rfl) Z)))) fun j5 h=>Z)) fun h=>Z);refine aj.ck rQ 5 ⟨34,[(0,vl (eI .u8) bx),(3,.ref 7 0),(4,vi s3.1),(12,vb (decide (s3.1<(bx.length:Int))))],[(7,.box (tc bO s3.2))]⟩ ?_;generalize (decide (s3.1<(bx.length:Int)))=bb;cases bb;exact aj.ck rQ 3 ⟨34,[(0,vl (eI .u8) bx),(3,.ref 7 0),(4,vi s3.1),(15,vb false)],[(7,.box (tc bO s3.2))]⟩ (aj.nil (Le.aR));exact aj.ck rQ 3 ⟨34,[(0,vl (eI .u8) bx),(3,.ref 7 0),(4,vi s3.1),(15,vb (decide (s3.1<64)))],[(7,.box (tc bO s3.2))]⟩ (aj.nil (Le.aR))
def aE(aS:ar)(aN:Int):Option (Int×ar):=
 (bif(decide (aN<=1))then some (0,aS)else(((bif(decide (aS.at'<(aS.code.length:Int)))then((at' aS.code aS.at').bind fun x3=>(bif((decide (aN<=256))&&((RW (ao (aS.at'+1)) 2)==0))then((at' aS.code (ao ((ao (aS.at'+1))- 1))).bind fun x4=>some ((ao x4),(ar.mk aS.code (ao (aS.at'+1)) (RW (ao ((ao (aS.seed*48271))+29)) 2147483647))))else some ((ao ((ao (Int.tdiv (RW (ao ((ao (aS.seed*48271))+29)) 2147483647) 31))+(ao x3))),(ar.mk aS.code (ao (aS.at'+1)) (RW (ao ((ao (aS.seed*48271))+29)) 2147483647)))))else some ((ao (Int.tdiv (RW (ao ((ao (aS.seed*48271))+29)) 2147483647) 31)),(ar.mk aS.code aS.at' (RW (ao ((ao (aS.seed*48271))+29)) 2147483647))))).bind fun(j1:Int×ar)=>((nz' aN).bind fun _=>some ((RW j1.1 aN),j1.2))))
theorem au{aS:ar}{aN:Int}:Ct Tryz.prog 37 (aE aS aN) [.o (.box [vl (eI .u8) aS.code,vi aS.at',vi aS.seed]),.v (vi aN)] (fun r=>⟨[.v (vi r.1)],[(0,.box (tc bO r.2))],false⟩):=Ct.i Tryz.func37 rfl fun r h=>by
 unfold aE at h;refine sl ?_;refine ac ?_;refine sl ?_;refine ad h (fun h=>Z) fun h=> ?_;refine sn ?_;refine sl ?_;refine sl ?_;refine ac ?_;refine ac ?_;refine bk mixed ?_;refine gh false 10 ?_;refine bN.nil (by kernel_rfl) ?_;refine aq ?_;refine dps [31,30,29,28,27,26,25,24,23,22,21,20,19,18,17,16,15,14,13,12,11,10,9,8,7,6,4] ?_;refine iz (fun j1=>[(5,vi j1.1),(32,.any)]) (fun j1=>[(1000000,.box (tc bO j1.2))]) h (fun v2 h=> ?_) fun j1 h=>sr (kb 2 h (yQ true j1.1) fun x5 h=>Z);refine ad h (fun h=> ?_) fun h=>Z;refine ac ?_;refine bk mixed ?_;refine gb 9 h (yI (eI .u8)) fun x3 h=> ?_;refine gh false 4 ?_;refine bN.nil (by kernel_rfl) ?_;refine aq ?_;refine sl ?_;refine ac ?_;refine cB ⟨78,[(0,.ref 1000000 0),(1,vi aN),(5,vi (ao ((ao (Int.tdiv (RW (ao ((ao (aS.seed*48271))+29)) 2147483647) 31))+(ao x3)))),(62,vb ((decide (aN<=256))&&((RW (ao (aS.at'+1)) 2)==0)))],[(1000000,.box [vl (eI .u8) aS.code,vi (ao (aS.at'+1)),vi (RW (ao ((ao (aS.seed*48271))+29)) 2147483647)])]⟩ ?_ (ad h (fun h=>bk mixed (gb 9 h (yI (eI .u8)) fun x4 h=>gh false 3 (bN.nil (by kernel_rfl) Z))) fun h=>Z);refine aj.ck rQ 3 ⟨78,[(0,.ref 1000000 0),(1,vi aN),(5,vi (ao ((ao (Int.tdiv (RW (ao ((ao (aS.seed*48271))+29)) 2147483647) 31))+(ao x3)))),(55,vb (decide (aN<=256)))],[(1000000,.box [vl (eI .u8) aS.code,vi (ao (aS.at'+1)),vi (RW (ao ((ao (aS.seed*48271))+29)) 2147483647)])]⟩ ?_;generalize (decide (aN<=256))=bb;cases bb;exact aj.ck rQ 7 ⟨78,[(0,.ref 1000000 0),(1,vi aN),(5,vi (ao ((ao (Int.tdiv (RW (ao ((ao (aS.seed*48271))+29)) 2147483647) 31))+(ao x3)))),(62,vb false)],[(1000000,.box [vl (eI .u8) aS.code,vi (ao (aS.at'+1)),vi (RW (ao ((ao (aS.seed*48271))+29)) 2147483647)])]⟩ (aj.nil (Le.aR));exact aj.ck rQ 7 ⟨78,[(0,.ref 1000000 0),(1,vi aN),(5,vi (ao ((ao (Int.tdiv (RW (ao ((ao (aS.seed*48271))+29)) 2147483647) 31))+(ao x3)))),(62,vb ((RW (ao (aS.at'+1)) 2)==0))],[(1000000,.box [vl (eI .u8) aS.code,vi (ao (aS.at'+1)),vi (RW (ao ((ao (aS.seed*48271))+29)) 2147483647)])]⟩ (aj.nil (Le.aR))
theorem p7:ei Tryz.prog 37:=bQ Tryz.func37 (by kernel_rfl) rfl
def ky(aS:ar)(ae:(List Int)):Option (Int×ar):=
 ((aE aS (ae.length:Int)).bind fun x1=>((at' ae x1.1).bind fun x2=>some (x2,x1.2)))
theorem tU{aS:ar}{ae:(List Int)}:Ct Tryz.prog 100 (ky aS ae) [.o (.box [vl (eI .u8) aS.code,vi aS.at',vi aS.seed]),.v (vl (eI .i64) ae)] (fun r=>⟨[.v (vi r.1)],[(0,.box (tc bO r.2))],false⟩):=Ct.i Tryz.func100 rfl fun r h=>sl (sr (ke 4 h (yX au) fun x1 h=>kb 0 h (yI (eI .i64)) fun x2 h=>Z))
theorem NN:ei Tryz.prog 100:=bQ Tryz.func100 (by kernel_rfl) rfl
def mq(aS:ar):Option (Claim×ar):=
 ((aE aS 4).bind fun x1=>((at' ([(QZ #[97,116,108,97,115]),(QZ #[99,104,97,114,116,101,114]),(QZ #[100,105,97,114,121]),(QZ #[114,111,108,108])]:List ByteArray) x1.1).bind fun x2=>((ky x1.2 ([0,0,1,1,2,3]:List Int)).bind fun x3=>((aE x3.2 3).bind fun x4=>((at' ([(QZ #[97,115,104]),(QZ #[98,114,105,103]),(QZ #[99,111,114,107])]:List ByteArray) x4.1).bind fun x5=>((aE x4.2 60).bind fun x6=>((aE x6.2 9).bind fun x7=>((aE x7.2 60).bind fun x8=>(((bif(x3.1==0)then((aE x8.2 3).bind fun x11=>((at' ([(QZ #[111,108,100,32,97,115,104]),(QZ #[110,101,119,116,111,110]),(QZ #[97,115,104,98,121])]:List ByteArray) x11.1).bind fun x12=>some ((Claim.mk x2 x3.1 x5 x12 (Span.mk (ao (1200+x6.1)) (ao ((ao (1200+x6.1))+x8.1))) (ao (1+x7.1))),x11.2)))else(bif(x3.1==1)then((aE x8.2 4).bind fun x13=>((at' ([(QZ #[97,115,104]),(QZ #[98,114,105,103]),(QZ #[99,111,114,107]),(QZ #[100,101,118,97])]:List ByteArray) x13.1).bind fun x14=>(bif(x14.toList==x5.toList)then some ((Claim.mk x2 x3.1 x5 (QZ #[100,101,118,97]) (Span.mk (ao (1200+x6.1)) (ao ((ao (1200+x6.1))+x8.1))) (ao (1+x7.1))),x13.2)else some ((Claim.mk x2 x3.1 x5 x14 (Span.mk (ao (1200+x6.1)) (ao ((ao (1200+x6.1))+x8.1))) (ao (1+x7.1))),x13.2))))else some ((Claim.mk x2 x3.1 x5 (QZ #[]) (Span.mk (ao (1200+x6.1)) (ao ((ao (1200+x6.1))+x8.1))) (ao (1+x7.1))),x8.2)))).bind fun(j9:Claim×ar)=>some (j9.1,j9.2))))))))))
theorem C9{aS:ar}:Ct Tryz.prog 61 (mq aS) [.o (.box [vl (eI .u8) aS.code,vi aS.at',vi aS.seed])] (fun r=>⟨[.v (.agg (tc aa r.1))],[(0,.box (tc bO r.2))],false⟩):=Ct.i Tryz.func61 rfl fun r h=>by
 unfold mq at h;refine sl ?_;refine sl ?_;refine ac ?_;refine uU [1000000] mixed ?_;refine gh false 2 ?_;refine bs h fun x1 hx1 h=> ?_;refine bN.write [] (xw p7 (au.c _ hx1)) ?_;refine bs h fun x2 hx2 h=> ?_;refine bN.lH false [6] (fZ eS (hX:=hx2)) ?_;refine bN.lH false [6] (hU eS hx2) ?_;refine g0 1 (QH rQ (d:=12) (e:=2) (m:=1) (([0,0,1,1,2,3]:List Int).length) (([0,0,1,1,2,3]:List Int).map (eI .i64))) ?_;refine bs h fun x3 hx3 h=> ?_;refine bN.write [] (xw NN (tU.c _ hx3)) ?_;refine gh false 2 ?_;refine bs h fun x4 hx4 h=> ?_;refine bN.write [] (xw p7 (au.c _ hx4)) ?_;exact gbh 0 h (fZ eS) fun x5 hx5 h=>g0 0 (hU eS hx5) (gh false 1 (bs h fun x6 hx6 h=>bN.write [] (xw p7 (au.c _ hx6)) (g0 1 yV (gh false 1 (bs h fun x7 hx7 h=>bN.write [] (xw p7 (au.c _ hx7)) (g0 1 yV (gh false 1 (bN.seq (by kernel_rfl) (by kernel_rfl) (ba (aq (ac (uU [1000000] mixed (gh false 4 (bs h fun x8 hx8 h=>bN.write [] (xw p7 (au.c _ hx8)) (gh false 3 (bN.seq (by kernel_rfl) (by kernel_rfl) (ba (aq (ac (sl (iz (fun _=>[]) (fun j9=>[(4,.box (tc aa j9.1)),(1000000,.box (tc bO j9.2))]) h (fun v10 h=>ai (a:=v10) (sl (ad h (fun h=>aQ (ke 2 h (yX au) fun x11 h=>kbh 0 h (fZ eS) fun x12 hx12 h=>k0 0 (hU eS hx12) Z)) fun h=>sl (ad h (fun h=>sr (ke 2 h (yX au) fun x13 h=>kbh 0 h (fZ eS) fun x14 hx14 h=>k0 0 (hU eS hx14) (ba (aq (sl (ad h (fun h=>Z) fun h=>Z)))))) fun h=>Z)))) fun j9 h=>Z)))))))))))))))))))))
def mn(aS:ar):Option (aH×ar):=
 ((aE aS 3).bind fun x1=>(bif(x1.1==0)then((aE x1.2 2001).bind fun x2=>((aE x2.2 2001).bind fun x3=>some ((aH.mk (ao (x2.1 - 1000)) (ao (x3.1 - 1000))),x3.2)))else((aE x1.2 9).bind fun x4=>((aE x4.2 9).bind fun x5=>some ((aH.mk (ao (x4.1 - 4)) (ao (x5.1 - 4))),x5.2)))))
theorem tX{aS:ar}:Ct Tryz.prog 66 (mn aS) [.o (.box [vl (eI .u8) aS.code,vi aS.at',vi aS.seed])] (fun r=>⟨[.v (.agg (tc bm r.1))],[(0,.box (tc bO r.2))],false⟩):=Ct.i Tryz.func66 rfl fun r h=>sl (ac (sr (ke 1 h (yX au) fun x1 h=>ba (aq (ad h (fun h=>sr (ke 1 h (yX au) fun x2 h=>ke 2 h (yX au) fun x3 h=>k0 1 yV Z)) fun h=>sn (sr (ke 1 h (yX au) fun x4 h=>ke 2 h (yX au) fun x5 h=>k0 1 yV Z)))))))
def ov(aS:ar):Option (ak×ar):=
 ((aE aS 4).bind fun x1=>((aE x1.2 3).bind fun x2=>((at' ([(QZ #[97,115,104]),(QZ #[98,114,105,103]),(QZ #[99,111,114,107]),(QZ #[100,101,118,97])]:List ByteArray) x2.1).bind fun x3=>(((bif(x1.1==2)then((aE x2.2 12).bind fun x6=>((ky x6.2 ([1,2,3,(ao (1+x6.1))]:List Int)).bind fun x7=>((aE x7.2 3).bind fun x8=>((at' ([(QZ #[109,105,108,101]),(QZ #[109,105,108,101]),(QZ #[108,101,97,103,117,101])]:List ByteArray) x8.1).bind fun x9=>(((bif(x7.1 !=1)then((bU x9 (QZ #[115])).bind fun x12=>some (ak.mk x1.1 x7.1 x12 0 x3 (QZ #[])))else some (ak.mk x1.1 x7.1 x9 0 x3 (QZ #[])))).bind fun(j10:ak)=>((aE x8.2 8).bind fun x13=>some ((ak.mk j10.Kind j10.Count j10.Unit x13.1 j10.A j10.B),x13.2)))))))else(bif(x1.1==3)then((at' ([(QZ #[97,115,104]),(QZ #[98,114,105,103]),(QZ #[99,111,114,107]),(QZ #[100,101,118,97])]:List ByteArray) 3).bind fun x14=>some ((ak.mk x1.1 0 (QZ #[]) 0 x3 x14),x2.2))else some ((ak.mk x1.1 0 (QZ #[]) 0 x3 (QZ #[])),x2.2)))).bind fun(j4:ak×ar)=>some (j4.1,j4.2)))))
theorem Dc{aS:ar}:Ct Tryz.prog 68 (ov aS) [.o (.box [vl (eI .u8) aS.code,vi aS.at',vi aS.seed])] (fun r=>⟨[.v (.agg (tc aw r.1))],[(0,.box (tc bO r.2))],false⟩):=Ct.i Tryz.func68 rfl fun r h=>sl (sl (sr (ke 1 h (yX au) fun x1 h=>ke 2 h (yX au) fun x2 h=>kbh 0 h (fZ eS) fun x3 hx3 h=>k0 0 (hU eS hx3) (k0 0 yV (ba (aq (ac (sl (iz (fun _=>[]) (fun j4=>[(4,.box (tc aw j4.1)),(1000000,.box (tc bO j4.2))]) h (fun v5 h=>ai (a:=v5) (sl (ad h (fun h=>sr (ke 2 h (yX au) fun x6 h=>ch 2 (aj.le (Le.lT (d:=22) (e:=2) (m:=1) (n:=([1,2,3,(ao (1+x6.1))]:List Int).length) (es:=([1,2,3,(ao (1+x6.1))]:List Int).map (eI .i64)) (by kernel_rfl) (by kernel_rfl)) (ke 0 h (yX tU) fun x7 h=>ba (aq (sr (ke 2 h (yX au) fun x8 h=>kbh 0 h (fZ eS) fun x9 hx9 h=>k0 0 (hU eS hx9) (ba (aq (ac (sl (iz (fun _=>[]) (fun j10=>[(4,.box (tc aw j10))]) h (fun v11 h=>ad h (fun h=>aQ (kb 2 h yA fun x12 h=>Z)) fun h=>Z) fun j10 h=>aQ (ke 1 h (yX au) fun x13 h=>Z))))))))))))) fun h=>sl (ad h (fun h=>aQ (kbh 1 h (fZ eS) fun x14 hx14 h=>k0 0 (hU eS hx14) Z)) fun h=>Z)))) fun j4 h=>Z)))))))))
def gv(aS:ar):Option (ByteArray×ar):=
 ((aE aS 3).bind fun x1=>((at' ([(QZ #[97,115,104]),(QZ #[98,114,105,103]),(QZ #[99,111,114,107])]:List ByteArray) x1.1).bind fun x2=>((aE x1.2 3).bind fun x3=>((at' ([(QZ #[97,115,104]),(QZ #[98,114,105,103]),(QZ #[99,111,114,107])]:List ByteArray) x3.1).bind fun x4=>((aE x3.2 12).bind fun x5=>(((((bif(x5.1==0)then some (x5.1==0)else(bif(x5.1==1)then some (x5.1==1)else some (x5.1==2)))).bind fun(j8:Bool)=>(bif j8 then((mq x5.2).bind fun x10=>(((bif(x10.1.Kind==0)then((aE x10.2 2).bind fun x13=>((at' ([(QZ #[97,115,104,98,121]),(QZ #[110,101,119,116,111,110])]:List ByteArray) x13.1).bind fun x14=>some ((Claim.mk x10.1.Source x10.1.Kind x10.1.Place x14 x10.1.Years x10.1.Weight),x13.2)))else some (x10.1,x10.2))).bind fun(j11:Claim×ar)=>((iU j11.1).bind fun x15=>((bU (QZ #[99,108,97,105,109,32]) x15).bind fun x16=>some (.inr (x16,j11.2))))))else(bif(x5.1==3)then((aE x5.2 4).bind fun x17=>((bT x17.1).bind fun x18=>((bU (QZ #[100,114,111,112,32]) x18).bind fun x19=>some (.inr (x19,x17.2)))))else(bif(x5.1==4)then((aE x5.2 3).bind fun x20=>((at' ([(QZ #[99,111,114,101,115]),(QZ #[114,101,112,97,105,114]),(QZ #[115,111,117,114,99,101,115])]:List ByteArray) x20.1).bind fun x21=>some (.inr (x21,x20.2))))else(bif(x5.1==5)then((aE x5.2 2).bind fun x22=>((at' ([(QZ #[110,97,109,101,32]),(QZ #[112,97,114,101,110,116,32])]:List ByteArray) x22.1).bind fun x23=>((bU x23 x2).bind fun x24=>((bU x24 (QZ #[32])).bind fun x25=>((aE x22.2 90).bind fun x26=>((dV (ao (1200+x26.1))).bind fun x27=>((bU x25 x27).bind fun x28=>some (.inr (x28,x26.2)))))))))else(((bif(x5.1==6)then some (x5.1==6)else some (x5.1==7))).bind fun(j29:Bool)=>(bif j29 then((bU (QZ #[115,105,116,101,32]) x2).bind fun x31=>((bU x31 (QZ #[32])).bind fun x32=>((mn x5.2).bind fun x33=>((kB x33.1).bind fun x34=>((bU x32 x34).bind fun x35=>some (.inr (x35,x33.2)))))))else(bif(x5.1==8)then((aE x5.2 3).bind fun x36=>((at' ([(QZ #[119,97,121,32]),(QZ #[102,97,114,32]),(QZ #[97,112,97,114,116,32])]:List ByteArray) x36.1).bind fun x37=>((bU x37 x2).bind fun x38=>((bU x38 (QZ #[32])).bind fun x39=>((bU x39 x4).bind fun x40=>some (.inr (x40,x36.2)))))))else(bif(x5.1==9)then((mn x5.2).bind fun x41=>((kB x41.1).bind fun x42=>((bU (QZ #[116,101,115,116,32]) x42).bind fun x43=>((bU x43 (QZ #[32])).bind fun x44=>((ov x41.2).bind fun x45=>((iV x45.1).bind fun x46=>((bU x44 x46).bind fun x47=>some (.inr (x47,x45.2)))))))))else some (.inl x5.2))))))))))).bind (Ri (fun(j6:ar)=>((aE j6 3).bind fun x48=>((at' ([(QZ #[99,111,114,101,115]),(QZ #[114,101,112,97,105,114]),(QZ #[115,111,117,114,99,101,115])]:List ByteArray) x48.1).bind fun x49=>some (x49,x48.2)))) some)))))))
theorem pU{aS:ar}:Ct Tryz.prog 36 (gv aS) [.o (.box [vl (eI .u8) aS.code,vi aS.at',vi aS.seed])] (fun r=>⟨[.v (vs r.1)],[(0,.box (tc bO r.2))],false⟩):=Ct.i Tryz.func36 rfl fun r h=>by
 unfold gv at h;refine sl ?_;refine sl ?_;refine ac ?_;refine uU [1000000] mixed ?_;refine gh false 2 ?_;refine bs h fun x1 hx1 h=> ?_;refine bN.write [] (xw p7 (au.c _ hx1)) ?_;refine gbh 0 h (fZ eS) fun x2 hx2 h=> ?_;refine g0 0 (hU eS hx2) ?_;refine gh false 2 ?_;refine bs h fun x3 hx3 h=> ?_;exact bN.write [] (xw p7 (au.c _ hx3)) (gbh 0 h (fZ eS) fun x4 hx4 h=>g0 0 (hU eS hx4) (gh false 2 (bN.nil (by kernel_rfl) (aq (ac (sr (ke 1 h (yX au) fun x5 h=>ba (aq (Oj (fun _=>[]) (fun j6=>[(1000000,.box (tc bO j6))]) h (fun v7 h=>ai (a:=v7) (ac (sl (jJn (fun j8=>[(20,vb j8)]) h (fun v9 h=>ad h (fun h=>Z) fun h=>sl (ad h (fun h=>Z) fun h=>Z)) fun j8 h=>ad h (fun h=>sr (ke 1 h (yX C9) fun x10 h=>ba (aq (ac (sl (iz (fun _=>[]) (fun j11=>[(6,.box (tc aa j11.1)),(1000000,.box (tc bO j11.2))]) h (fun v12 h=>ad h (fun h=>aQ (ke 2 h (yX au) fun x13 h=>kbh 0 h (fZ eS) fun x14 hx14 h=>k0 0 (hU eS hx14) Z)) fun h=>Z) fun j11 h=>sr (kb 1 h (yC tZ) fun x15 h=>kb 0 h yA fun x16 h=>Z))))))) fun h=>sl (ad h (fun h=>sr (ke 1 h (yX au) fun x17 h=>kb 0 h (yC cJ) fun x18 h=>kb 0 h yA fun x19 h=>Z)) fun h=>sl (ad h (fun h=>sr (ke 2 h (yX au) fun x20 h=>kbh 0 h (fZ eS) fun x21 hx21 h=>k0 0 (hU eS hx21) Z)) fun h=>sl (ad h (fun h=>ac (uU [1000000] mixed (gh false 2 (bs h fun x22 hx22 h=>bN.write [] (xw p7 (au.c _ hx22)) (bs h fun x23 hx23 h=>bN.lH false [53] (fZ eS (hX:=hx23)) (bN.lH false [53] (hU eS hx23) (gb 1 h yA fun x24 h=>gb 0 h yA fun x25 h=>gh false 1 (bs h fun x26 hx26 h=>bN.write [] (xw p7 (au.c _ hx26)) (gb 1 h (yC fL) fun x27 h=>gb 0 h yA fun x28 h=>gh false 1 (bN.nil (by kernel_rfl) Z)))))))))) fun h=>ac (sl (jJn (fun j29=>[(66,vb j29)]) h (fun v30 h=>ad h (fun h=>Z) fun h=>Z) fun j29 h=>ad h (fun h=>sr (kb 1 h yA fun x31 h=>kb 0 h yA fun x32 h=>ke 1 h (yX tX) fun x33 h=>kb 0 h (yC pc) fun x34 h=>kb 0 h yA fun x35 h=>Z)) fun h=>sl (ad h (fun h=>sr (ke 2 h (yX au) fun x36 h=>kbh 0 h (fZ eS) fun x37 hx37 h=>k0 0 (hU eS hx37) (kb 1 h yA fun x38 h=>kb 0 h yA fun x39 h=>kb 1 h yA fun x40 h=>Z))) fun h=>sl (ad h (fun h=>sr (ke 1 h (yX tX) fun x41 h=>kb 0 h (yC pc) fun x42 h=>kb 0 h yA fun x43 h=>kb 0 h yA fun x44 h=>ke 1 h (yX Dc) fun x45 h=>kb 0 h (yC uf) fun x46 h=>kb 0 h yA fun x47 h=>Z)) fun h=>Z))))))))))) fun j6 h=>sr (ke 2 h (yX au) fun x48 h=>kbh 0 h (fZ eS) fun x49 hx49 h=>k0 0 (hU eS hx49) Z))))))))))
def io(aS:ar)(aT:ByteArray):Option (ByteArray×ar):=
 ((aE aS (ao ((aT.size:Int)+1))).bind fun x1=>((aE x1.2 8).bind fun x2=>(((bif(x2.1==0)then((kG aT 0 x1.1).bind fun x5=>some (.inr (x5,x2.2)))else(bif(x2.1==1)then((kG aT 0 x1.1).bind fun x6=>((aE x2.2 8).bind fun x7=>((at' ([(QZ #[48]),(QZ #[35]),(QZ #[46]),(QZ #[47]),(QZ #[32]),(QZ #[97]),(QZ #[45]),(QZ #[10])]:List ByteArray) x7.1).bind fun x8=>((bU x6 x8).bind fun x9=>((kG aT x1.1 (aT.size:Int)).bind fun x10=>((bU x9 x10).bind fun x11=>some (.inr (x11,x7.2))))))))else(bif(x2.1==2)then(bif(decide (x1.1<(aT.size:Int)))then((kG aT 0 x1.1).bind fun x12=>((kG aT (ao (x1.1+1)) (aT.size:Int)).bind fun x13=>((bU x12 x13).bind fun x14=>some (.inr (x14,x2.2)))))else some (.inl x2.2))else some (.inl x2.2))))).bind (Ri (fun(j3:ar)=>some (aT,j3)) some))))
theorem qV{aS:ar}{aT:ByteArray}:Ct Tryz.prog 38 (io aS aT) [.o (.box [vl (eI .u8) aS.code,vi aS.at',vi aS.seed]),.v (vs aT)] (fun r=>⟨[.v (vs r.1)],[(0,.box (tc bO r.2))],false⟩):=Ct.i Tryz.func38 rfl fun r h=>sl (sr (ke 4 h (yX au) fun x1 h=>ba (aq (ac (sr (ke 1 h (yX au) fun x2 h=>ba (aq (Oj (fun _=>[]) (fun j3=>[(1000000,.box (tc bO j3))]) h (fun v4 h=>ai (a:=v4) (sl (ad h (fun h=>sr (kb 2 h yU fun x5 h=>Z)) fun h=>sl (ad h (fun h=>ac (uU [1000000] mixed (gb 2 h yU fun x6 h=>gh false 2 (bs h fun x7 hx7 h=>bN.write [] (xw p7 (au.c _ hx7)) (bs h fun x8 hx8 h=>bN.lH false [23] (fZ eS (hX:=hx8)) (bN.lH false [23] (hU eS hx8) (gb 0 h yA fun x9 h=>gb 2 h yU fun x10 h=>gb 0 h yA fun x11 h=>gh false 1 (bN.nil (by kernel_rfl) Z)))))))) fun h=>sl (ad h (fun h=>sl (ad h (fun h=>ac (bk mixed (gb 2 h yU fun x12 h=>gb 3 h yU fun x13 h=>gb 0 h yA fun x14 h=>gh false 1 (bN.nil (by kernel_rfl) Z)))) fun h=>Z)) fun h=>Z))))) fun j3 h=>Z))))))))
def ox(aS:ar):Option (ByteArray×ar):=
 ((aE aS 12).bind fun x1=>(((loop (fun(s4:ByteArray×Int×ar)=>(bif(decide (s4.2.1>0))then((((gv s4.2.2).bind fun x8=>((aE x8.2 16).bind fun x9=>(((bif(x9.1==0)then((io x9.2 x8.1).bind fun x12=>some (x12.1,x12.2))else some (x8.1,x9.2))).bind fun(j10:ByteArray×ar)=>((bU s4.1 j10.1).bind fun x13=>((bU x13 (QZ #[10])).bind fun x14=>some (x14,j10.2))))))).bind fun(j6:ByteArray×ar)=>some (.inl (j6.1,(ao (s4.2.1 - 1)),j6.2)))else some (.inr (s4.1,s4.2.2)))) ((QZ #[]),x1.1,x1.2))).bind fun(j2:ByteArray×ar)=>((aE j2.2 40).bind fun x15=>(((bif(x15.1==0)then(cN 36 (fun(_:Int) (s18:ByteArray)=>((bU s18 (QZ #[99,111,114,101,115,10])).bind fun x22=>some x22)) (fun(s18:ByteArray)=> .inl s18) 0 j2.1)else(bif(x15.1==1)then((bU j2.1 (QZ #[114,101,112,97,105,114])).bind fun x23=>some (.inr (x23,x15.2)))else some (.inl j2.1)))).bind (Ri (fun(j16:ByteArray)=>some (j16,x15.2)) some)))))
theorem De{aS:ar}:Ct Tryz.prog 34 (ox aS) [.o (.box [vl (eI .u8) aS.code,vi aS.at',vi aS.seed])] (fun r=>⟨[.v (vs r.1)],[(0,.box (tc bO r.2))],false⟩):=Ct.i Tryz.func34 rfl fun r h=>sl (sl (ac (sr (ke 1 h (yX au) fun x1 h=>ba (aq (iz (fun j2=>[(3,vs j2.1)]) (fun j2=>[(1000000,.box (tc bO j2.2))]) h (fun v3 h=>ai (a:=v3) (lpo (fun s4=>[(3,vs s4.1),(4,vi s4.2.1)]) (fun s4=>[(1000000,.box (tc bO s4.2.2))]) h (fun s4 v5 h=>ac (sl (ad h (fun h=>sn (jJo (fun j6=>[(3,vs j6.1)]) (fun j6=>[(1000000,.box (tc bO j6.2))]) h (fun v7 h=>ai (a:=v7) (sr (ke 1 h (yX pU) fun x8 h=>ba (aq (ac (sr (ke 1 h (yX au) fun x9 h=>ba (aq (iz (fun j10=>[(5,vs j10.1)]) (fun j10=>[(1000000,.box (tc bO j10.2))]) h (fun v11 h=>ad h (fun h=>aQ (ke 2 h (yX qV) fun x12 h=>Z)) fun h=>Z) fun j10 h=>aQ (kb 2 h yA fun x13 h=>kb 0 h yA fun x14 h=>Z)))))))))) fun j6 h=>Z)) fun h=>Z))))) fun j2 h=>ac (sr (ke 1 h (yX au) fun x15 h=>ba (aq (mF (fun j16=>[(3,vs j16)]) h (fun v17 h=>ai (a:=v17) (sl (ad h (fun h=>sl (ai (a:=v17) (lp (fun s18=>[(3,vs s18.2),(6,vi s18.1)]) h (fun s18 v19 h=>ac (sl (ad h (fun h=>sn (jJ (fun j20=>[(3,vs j20)]) h (fun v21 h=>ai (a:=v21) (aQ (kb 1 h yA fun x22 h=>Z))) fun j20 h=>Z)) fun h=>Z)))))) fun h=>sl (ad h (fun h=>sr (kb 1 h yA fun x23 h=>Z)) fun h=>Z)))) fun j16 h=>Z))))))))))
def ig(bx:(List Int)):Option (ByteArray):=
 ((iR bx).bind fun x1=>((ox x1).bind fun x2=>some x2.1))
theorem sF{bx:(List Int)}:Ct Tryz.prog 13 (ig bx) [.v (vl (eI .u8) bx)] (fun r=>⟨[.v (vs r)],[],false⟩):=Ct.i Tryz.func13 rfl fun r h=>sl (sr (kb 1 h (yC tS) fun x1 h=>ke 0 h (yX De) fun x2 h=>Z))
def fm(bx:(List Int)):Option (ByteArray):=
 ((iR bx).bind fun x1=>((gv x1).bind fun x2=>((aE x2.2 2).bind fun x3=>(bif(x3.1==0)then((io x3.2 x2.1).bind fun x4=>some x4.1)else some x2.1))))
theorem qi{bx:(List Int)}:Ct Tryz.prog 14 (fm bx) [.v (vl (eI .u8) bx)] (fun r=>⟨[.v (vs r)],[],false⟩):=Ct.i Tryz.func14 rfl fun r h=>sl (sr (kb 1 h (yC tS) fun x1 h=>ba (aq (sr (ke 1 h (yX pU) fun x2 h=>ba (aq (ac (sr (ke 1 h (yX au) fun x3 h=>ba (aq (ad h (fun h=>sr (ke 2 h (yX qV) fun x4 h=>Z)) fun h=>Z)))))))))))
def ij(aA:(List ByteArray))(aB:(List ByteArray)):Option (Bool):=
 (bif((aA.length:Int) !=(aB.length:Int))then some false else(((dD (aA.length:Int) (fun(i3:Int) (_:Unit)=>((at' aA i3).bind fun x7=>((at' aB i3).bind fun x8=>(bif(!(x7.toList==x8.toList))then some (.inr (.inr false))else some (.inl ()))))) (fun(_:Unit)=> .inl ()) 0 ())).bind (Ri (fun(_:Unit)=>some true) some)))
theorem qM{aA:(List ByteArray)}{aB:(List ByteArray)}:Ct Tryz.prog 15 (ij aA aB) [.v (vl eS aA),.v (vl eS aB)] (fun r=>⟨[.v (vb r)],[],false⟩):=Ct.i Tryz.func15 rfl fun r h=>sl (ac (sl (ad h (fun h=>Z) fun h=>sn (ac (sl (mF (fun _=>[]) h (fun v2 h=>ai (a:=v2) (lp (fun s3=>[(5,vi s3.1)]) h (fun s3 v4 h=>ac (sl (ad h (fun h=>sn (jL (fun _=>[]) h (fun v6 h=>ai (a:=v6) (ac (bk mixed (gb 2 h (yI eS) fun x7 h=>gb 3 h (yI eS) fun x8 h=>gh false 2 (bN.nil (by kernel_rfl) (aq (ad h (fun h=>Z) fun h=>Z))))))) fun j5 h=>Z)) fun h=>Z))))) fun j1 h=>Z))))))
def iL(jw:ByteArray):Option (Bool):=
 ((strings_Split jw (QZ #[32])).bind fun x1=>((eK x1).bind fun x2=>some x2))
theorem te{jw:ByteArray}:Ct Tryz.prog 16 (iL jw) [.v (vs jw)] (fun r=>⟨[.v (vb r)],[],false⟩):=Ct.i Tryz.func16 rfl fun r h=>sl (sr (kb 1 h (yC (jj _ _)) fun x1 h=>kb 0 h (yC qG) fun x2 h=>Z))
def iQ(jw:ByteArray):Option (Bool):=
 ((kZ jw).bind fun x1=>some x1.2.2)
theorem tQ{jw:ByteArray}:Ct Tryz.prog 17 (iQ jw) [.v (vs jw)] (fun r=>⟨[.v (vb r)],[],false⟩):=Ct.i Tryz.func17 rfl fun r h=>sl (sr (kb 1 h (yC se) fun x1 h=>Z))
def fj(bx:(List Int)):Option (Bool):=
 ((xJ bx).bind fun x1=>(bif x1 then some true else((ig bx).bind fun x2=>((eZ x2).bind fun x3=>((lm x2).bind fun x4=>((fm bx).bind fun x5=>(((bif(x3.2 !=x4.2)then some true else((ij x3.1 x4.1).bind fun x6=>(bif(!x6)then some true else((iL x5).bind fun x7=>((iQ x5).bind fun x8=>some (!(x7==x8)))))))).bind fun(j9:Bool)=>(bif j9 then some false else(((bif(x3.2 !=0)then some true else(bif(decide ((x2.size:Int)>0))then((cG x2 (ao ((x2.size:Int)- 1))).bind fun x11=>some (x11 !=10))else some false))).bind fun(j12:Bool)=>(bif j12 then some true else((bU x2 (QZ #[110,111,105,115,101,10])).bind fun x14=>((eZ x14).bind fun x15=>(bif(x15.2 !=0)then some (x15.2==3)else(((bif((x15.1.length:Int)==(ao ((x3.1.length:Int)+1)))then((at' x15.1 (x3.1.length:Int)).bind fun x16=>(bif(x16.toList==(QZ #[101,114,114,111,114,32,54]).toList)then((eX x15.1 0 (x3.1.length:Int)).bind fun x18=>((ij x18 x3.1).bind fun x19=>some x19))else some false))else some false)).bind fun(j20:Bool)=>some j20))))))))))))))
theorem sz{bx:(List Int)}:Ct Tryz.prog 4 (fj bx) [.v (vl (eI .u8) bx)] (fun r=>⟨[.v (vb r)],[],false⟩):=Ct.i Tryz.func4 rfl fun r h=>by
 unfold fj at h;refine sl ?_;refine ac ?_;refine sr ?_;refine kb 1 h (yC IP) fun x1 h=> ?_;refine ba ?_;refine aq ?_;refine ad h (fun h=>Z) fun h=> ?_;refine sn ?_;refine sr ?_;refine kb 1 h (yC sF) fun x2 h=> ?_;refine ba ?_;refine aq ?_;refine sr ?_;refine kb 1 h (yC pF) fun x3 h=> ?_;refine ba ?_;refine aq ?_;refine sr ?_;refine kb 1 h (yC yi) fun x4 h=> ?_;refine ba ?_;refine aq ?_;refine sr ?_;refine kb 1 h (yC qi) fun x5 h=> ?_;refine ba ?_;refine aq ?_;refine ac ?_;refine ac ?_;refine uk h (fun j9=>⟨90,[(3,vs x2),(4,.own 4),(5,vi x3.2),(42,vb j9)],[(4,oa 9 1 eS x3.1)]⟩) (fun v10 h=> ?_) (fun j9 h=> ?_);refine ch 4 ?_;refine aj.cu [(30,fun b=>b)] h (fun h=> ?_) fun h=> ?_;refine ba ?_;obtain rfl:=inj h;exact Le.rr [17] [(17,4)];refine kb 2 h (yC qM) fun x6 h=> ?_;refine ch 3 ?_;refine aj.cu [(36,fun b=>b)] h (fun h=> ?_) fun h=> ?_;refine ba ?_;obtain rfl:=inj h;exact Le.rr [17] [(17,4)];refine kb 1 h (yC te) fun x7 h=> ?_;refine kb 1 h (yC tQ) fun x8 h=> ?_;refine k0 0 (AP rQ (ti:=ti4) (i:=x7) (j:=x8) true rfl) ?_;refine ba ?_;obtain rfl:=inj h;exact Le.rr [17] [(17,4)];refine ad h (fun h=>Z) fun h=> ?_;refine sn ?_;refine ac ?_;refine rJ (fun j12=>[(57,vb j12)]) h (fun v13 h=>ch 3 (aj.cu [(45,fun b=>b)] h (fun h=>Z) fun h=>ch 4 (aj.cu [(49,fun b=>b)] h (fun h=>kb 4 h yB fun x11 h=>Z) fun h=>Z))) fun j12 h=> ?_;refine ad h (fun h=>Z) fun h=> ?_;refine sn ?_;refine sr ?_;refine kb 1 h yA fun x14 h=> ?_;refine kb 0 h (yC pF) fun x15 h=> ?_;refine ba ?_;refine aq ?_;refine ac ?_;refine sl ?_;refine ad h (fun h=>Z) fun h=> ?_;refine sn ?_;refine ac ?_;refine uk h (fun j20=>⟨90,[(2,vb j20)],[]⟩) (fun v21 h=> ?_) (fun j20 h=>Z);refine ch 7 ?_;refine aj.cu [(74,fun b=>b)] h (fun h=> ?_) fun h=> ?_;refine kbh 3 h (fZ eS) fun x16 hx16 h=> ?_;refine k0 0 (hU eS hx16) ?_;refine ch 3 ?_;refine aj.cu [(82,fun b=>b)] h (fun h=> ?_) fun h=> ?_;refine ch 3 ?_;refine aj.le (Le.lT (d:=61) (e:=9) (m:=1) (n:=x15.1.length) (es:=x15.1.map eS) (by kernel_rfl) (by kernel_rfl)) ?_;refine kb 0 h (yS eS) fun x18 h=> ?_;refine kb 1 h (yC qM) fun x19 h=> ?_;refine ba ?_;obtain rfl:=inj h;exact Le.aR;refine ba ?_;obtain rfl:=inj h;exact Le.aR;refine ba ?_;obtain rfl:=inj h;exact Le.aR
theorem qL(bx:(List Int))(r:Bool)(h:fj bx=some r):eC Tryz.prog 4 [.v (vl (eI .u8) bx)] ⟨[.v (vb r)],[],false⟩:=sz.c r h
open Go.RowKit Go.Lib
section
variable {α A S : Type}
theorem jd{L:List α}(hL:L.length<=9223372036854775807){B:Int->Unit->Option (Unit⊕(Unit⊕A))}(p:α->Bool)(a:A)(h: ∀(i:Nat) x,L[i]? =some x->B (i:Int) ()=bif p x then some (.inr (.inr a))else some (.inl ())){K:Option A}:
  (dD (L.length:Int) B (fun _=> .inl ()) 0 ()).bind (Ri (fun _=>K) some)=bif L.any p then some a else K:=by
 rw[oE L hL B (fun _ x _=>bif p x then some (.inr (.inr a))else some (.inl ())) _ () (fun j x _ hx=>h j x hx),zH];cases L.any p<;>rfl
theorem fU{L:List α}(hL:L.length<=9223372036854775807){B:Int->Unit->Option (Unit⊕(Unit⊕A))}(p:Nat->α->Bool)(a:Nat->α->A)(h: ∀(i:Nat) x,L[i]? =some x->B (i:Int) ()=bif p i x then some (.inr (.inr (a i x)))else some (.inl ())){K:Option A}:
  (dD (L.length:Int) B (fun _=> .inl ()) 0 ()).bind (Ri (fun _=>K) some)=match cn p a L 0 with | some r=>some r | none=>K:=by
 rw[oE L hL B (fun i x _=>bif p i x then some (.inr (.inr (a i x)))else some (.inl ())) _ () (fun j x _ hx=>h j x hx),tF p (fun i x=>S1 (a i x))];have:cn p (fun i x=>(S1 (a i x):Unit⊕A)) L 0=(cn p a L 0).map .inr:=by
  generalize 0=k
  induction L generalizing k with
  | nil=>rfl
  | cons x l ih=>
   unfold cn;cases p k x
   ·simp only[cond_false];clear h;have: ∀(M:List α) (k:Nat),cn p (fun i x=>(S1 (a i x):Unit⊕A)) M k=(cn p a M k).map .inr:=by
     intro M
     induction M with
     | nil=>intro k;rfl
     | cons y m ih2=>
      intro k;unfold cn;cases p k y
      ·exact ih2 (k+1)
      ·rfl
    exact this l (k+1)
   ·rfl
 rw[this];cases cn p a L 0<;>rfl
def iy(p:α->Bool):List α->Int
 | []=> -1
 | x::l=>bif p x then 0 else(let r:=iy p l;bif decide (r<0)then -1 else r+1)
theorem xx(p:α->Bool): ∀L:List α,-1<=iy p L/\iy p L<L.length
 | []=>by simp[iy]
 | x::l=>by
  have:=xx p l;unfold iy;cases p x
  ·simp only[cond_false];by_cases h:iy p l<0
   ·simp[h];omega
   ·simp[h];omega
  ·simp
theorem kO(p:α->Bool): ∀L:List α,decide (iy p L>=0)=L.any p
 | []=>rfl
 | x::l=>by
  have h:=kO p l;have h1:=xx p l;unfold iy;rw[List.any_cons,<-h];cases p x
  ·simp only[cond_false,TZ];by_cases h2:iy p l<0
   ·simp[h2]
   ·simp[h2];omega
  ·simp
theorem qC(p:α->Bool)(L:List α):decide (iy p L<0)= !L.any p:=by
 rw[<-kO];by_cases h:iy p L<0
 ·simp[h]
 ·simp[h];omega
theorem Cp(p:α->Bool): ∀(L:List α) (k:Nat),(match cn (fun _ x=>p x) (fun i _=>(i:Int)) L k with | some r=>r | none=> -1)=bif decide (iy p L<0)then -1 else iy p L+k
 | [],k=>rfl
 | x::l,k=>by
  have h:=Cp p l (k+1);have h1:=xx p l;unfold cn iy;cases p x
  ·simp only[cond_false];rw[h];by_cases h2:iy p l<0
   ·simp[h2]
   ·simp[h2];have h3: ¬(iy p l+1<0):=by omega
    simp[h3];omega
  ·simp
theorem fV{L:List α}(hL:L.length<=9223372036854775807){B:Int->Unit->Option (Unit⊕(Unit⊕Int))}(p:α->Bool)(h: ∀(i:Nat) x,L[i]? =some x->B (i:Int) ()=bif p x then some (.inr (.inr (i:Int)))else some (.inl ())):
  (dD (L.length:Int) B (fun _=> .inl ()) 0 ()).bind (Ri (fun _=>some (-1)) some)=some (iy p L):=by
 rw[fU hL (fun _ x=>p x) (fun i _=>(i:Int)) h];have h1:=Cp p L 0;have h2:=xx p L;have h3:(bif decide (iy p L<0)then -1 else iy p L+((0:Nat):Int))=iy p L:=by
  by_cases h:iy p L<0
  ·simp[h];omega
  ·simp[h]
 rw[h3]at h1;cases hf:cn (fun _ x=>p x) (fun i _=>(i:Int)) L 0 with
 | none=>rw[hf]at h1;exact congrArg some h1
 | some r=>rw[hf]at h1;exact congrArg some h1
end
theorem ni{s:ByteArray}{j:Nat}{b:UInt8}(h:s.data.toList[j]? =some b):cG s (j:Int)=some (b.toNat:Int):=by
 unfold cG;rw[if_pos (by omega)];have:s[(j:Int).toNat]? =some b:=by
  rw[Rk];rw[Array.getElem?_toList]at h;exact h
 rw[this];rfl
def inB(x l h:Int):Bool:=decide (x>=l)&&decide (x<=h)
theorem gw(x l h:Int):dx x l h=some (inB x l h):=rfl
theorem jW(x l h:Int):dt x l h=some (inB x l h):=rfl
theorem ic{x l h:Int}:inB x l h=true↔l<=x/\x<=h:=by unfold inB;simp
def small(b:UInt8):Bool:=decide (97<=b.toNat)&&decide (b.toNat<=122)
def da(s:ByteArray):Bool:=inB s.size 1 16&&s.data.toList.all small
def abc:List UInt8:=[97,98,99,100,101,102,103,104,105,106,107,108,109,110,111,112,113,114,115,116,117,118,119,120,121,122]
theorem Kg(b:UInt8):abc.contains b=small b:=by
 have h: ∀i:Fin 256,abc.contains (UInt8.ofNat i.val)=small (UInt8.ofNat i.val):=by decide+kernel
 have:=h ⟨b.toNat,b.toNat_lt⟩;simpa using this
theorem Jm(l:List UInt8):(trimS l abc).isEmpty=l.all small:=by
 have h1: ∀(p:UInt8->Bool) (l:List UInt8),(l.dropWhile p).isEmpty=l.all p:=by
  intro p l
  induction l with
  | nil=>rfl
  | cons x r ih=>
   rw[List.dropWhile_cons];by_cases h:p x=true
   ·rw[if_pos h,ih,Ty,h,Se]
   ·rw[if_neg h,Ty,Rv.2 h];rfl
 have h3:(fun b=>abc.contains b)=small:=funext Kg;unfold trimS trimLeftS trimRightS;rw[h3,h1];by_cases h:l.all small=true
 ·have:(l.reverse.dropWhile small)=[]:=by
   have:=h1 small l.reverse;rw[List.all_reverse,h]at this;exact List.isEmpty_iff.1 this
  rw[this,h];rfl
 ·have h4:l.all small=false:=Rv.2 h;rw[h4,Rv];intro h5;have h6:=h1 small l.reverse;rw[List.all_reverse,h4]at h6;rcases hd:l.reverse.dropWhile small with _ | ⟨x,r⟩
  ·rw[hd]at h6;cases h6
  ·have h7:small x=false:=by
    have:=List.head?_dropWhile_not small l.reverse;rw[hd]at this;simpa using this
   rw[hd,List.all_reverse]at h5;simp[h7]at h5
theorem toList_eq(s:ByteArray):s.toList=s.data.toList:=Lib.toList_data s
theorem pI(s:ByteArray)(hs:s.size<=maxLen):jN s=some (da s):=by
 unfold jN rk da;rw[gw,QY];cases inB (s.size:Int) 1 16
 ·rfl
 ·have h1:iX s (QZ #[97,98,99,100,101,102,103,104,105,106,107,108,109,110,111,112,113,114,115,116,117,118,119,120,121,122])=some ⟨(trimS s.data.toList abc).toArray⟩:=by
   unfold iX;have h2:((QZ #[97,98,99,100,101,102,103,104,105,106,107,108,109,110,111,112,113,114,115,116,117,118,119,120,121,122]).data.toList.all (fun b=>decide (b.toNat<128)))=true:=by decide
   have h3:(decide ((QZ #[97,98,99,100,101,102,103,104,105,106,107,108,109,110,111,112,113,114,115,116,117,118,119,120,121,122]).size<=1000))=true:=by decide
   rw[h2,h3,decide_eq_true hs];rfl
  rw[h1];simp only[cond_true,QY,Se];congr 1;rw[toList_eq,toList_eq,<-Jm];cases trimS s.data.toList abc<;>rfl
theorem CM{A:Type}{s:ByteArray}(hL:s.size<=9223372036854775807){B:Int->Unit->Option (Unit⊕(Unit⊕A))}(p:UInt8->Bool)(a:A)(h: ∀(i:Nat) x,s.data.toList[i]? =some x->B (i:Int) ()=bif p x then some (.inr (.inr a))else some (.inl ())){K:Option A}:
  (dD (s.size:Int) B (fun _=> .inl ()) 0 ()).bind (Ri (fun _=>K) some)=bif s.data.toList.any p then some a else K:=by
 have hl:s.size=s.data.toList.length:=by rw[Rf];rfl
 rw[hl]at hL⊢;exact jd hL p a h
theorem iE(s:ByteArray)(hs:s.size<=maxLen):eM s=some (da s):=by
 unfold eM;rw[CM (by unfold maxLen at hs;omega) (fun x=> !small x) false (fun j x hx=> ?_)]
 ·rw[<-TC];unfold da;cases s.data.toList.all small
  ·simp
  ·simp[jW]
 ·rw[ni hx];simp only[QY];unfold small;by_cases h1:(x.toNat:Int)<97
  ·have h2: ¬97<=x.toNat:=by omega
   simp[h1,h2]
  ·have h2:97<=x.toNat:=by omega
   by_cases h3:(x.toNat:Int)>122
   ·have h4: ¬x.toNat<=122:=by omega
    simp[h1,h2,h3,h4]
   ·have h4:x.toNat<=122:=by omega
    simp[h1,h2,h3,h4]
theorem ik(s:ByteArray):s.data.toList.length=s.size:=by rw[Rf];rfl
theorem GJ(s:ByteArray)(a b:Nat):s.extract a b=⟨((s.data.toList.drop a).take (b - a)).toArray⟩:=by
 rw[<-extract_data]
theorem Ac{s:ByteArray}{a b:Nat}(h:a<=b)(hb:b<=s.size):kG s (a:Int) (b:Int)=some ⟨((s.data.toList.drop a).take (b - a)).toArray⟩:=by
 unfold kG;rw[if_pos ⟨by omega,by omega,by omega⟩,Rk,Rk,GJ]
theorem QG(b c:UInt8):(((b.toNat:Int)==(c.toNat:Int))=true)↔b=c:=by
 rw[beq_iff_eq];constructor
 ·intro h;have:b.toNat=c.toNat:=by omega
  exact TE.1 this
 ·intro h;rw[h]
theorem HP{c:UInt8}{l:List UInt8}{f i:Nat}(hf:f<=i)(hfree:c∉(l.drop f).take (i - f))(hi:l[i]? =some c):bo c (l.drop f)=(l.drop f).take (i - f)::bo c (l.drop (i+1)):=by
 have hlt:=(Q1.1 hi).1;have h1:l.drop f=(l.drop f).take (i - f)++c::l.drop (i+1):=by
  have h2:(l.drop f).drop (i - f)=c::l.drop (i+1):=by
   rw[UD,show f+(i - f)=i from by omega,RP hlt];congr 1;exact(Q1.1 hi).2
  rw[<-h2,Ub]
 conv=>lhs;rw[h1]
 exact lA hfree
theorem dj(s:ByteArray)(c:UInt8)(hs:s.size<=4294967280):bG s (c.toNat:Int)=some (aZ s c):=by
 have hn:s.data.toList.length=s.size:=ik s;have key: ∀(k i f:Nat) (out:List ByteArray),i+k=s.size->f<=i->out.length<=i->c∉(s.data.toList.drop f).take (i - f)->
   oT (fun(i3:Int) (_:Int×(List ByteArray))=>(decide (i3<=(s.size:Int)))) (fun(i3:Int) (s3:Int×(List ByteArray))=>(((bif(i3==(s.size:Int))then some true else((cG s i3).bind fun x7=>some (x7==(c.toNat:Int))))).bind fun(j8:Bool)=>(bif j8 then((kG s s3.1 i3).bind fun x10=>((bZ s3.2 ([x10]:List ByteArray)).bind fun x11=>some ((ao (i3+1)),x11)))else some (s3.1,s3.2)))) (fun(s3:Int×(List ByteArray))=>s3.2) (i:Int) ((f:Int),out)=some (out++(bo c (s.data.toList.drop f)).map fun l=>⟨l.toArray⟩):=by
  intro k
  induction k with
  | zero=>
   intro i f out hk hf hout hfree;have hi:i=s.size:=by omega
   unfold oT;rw[bR];dsimp only;have e1:((i:Int)==(s.size:Int))=true:=by rw[hi];simp
   rw[decide_eq_true (by omega),cond_true,e1,cond_true,QY,cond_true,Ac hf (by omega),QY,cd (by simp;omega)];simp only[QY];rw[aO (by omega) (by omega),bR];dsimp only;rw[decide_eq_false (by omega),cond_false];have h1:(s.data.toList.drop f).take (i - f)=s.data.toList.drop f:=RF (by rw[Sb];omega);rw[h1]at hfree;rw[gM hfree,h1];rfl
  | succ k ih=>
   intro i f out hk hf hout hfree;have hlt:i<s.data.toList.length:=by omega
   have hb:s.data.toList[i]? =some s.data.toList[i]:=Q0 hlt;generalize s.data.toList[i]=b at hb;unfold oT;rw[bR];dsimp only;have e1:((i:Int)==(s.size:Int))=false:=by rw[beq_eq_false_iff_ne];omega
   rw[decide_eq_true (by omega),cond_true,e1,cond_false,ni hb,QY,QY];by_cases hbc:b=c
   ·subst hbc;have e2:((b.toNat:Int)==(b.toNat:Int))=true:=beq_self_eq_true _;rw[e2,cond_true,Ac hf (by omega),QY,cd (by simp;omega)];simp only[QY];rw[aO (n:=(i:Int)+1) (by omega) (by omega)];have e3:(i:Int)+1=((i+1:Nat):Int):=by omega
    rw[e3];have:=ih (i+1) (i+1) (out++[⟨((s.data.toList.drop f).take (i - f)).toArray⟩]) (by omega) (Re _) (by simp;omega) (by simp);unfold oT at this;rw[this,HP hf hfree hb];simp
   ·have e2:((b.toNat:Int)==(c.toNat:Int))=false:=by
     rw[Rv];exact fun h=>hbc ((QG b c).1 h)
    rw[e2,cond_false];simp only[QY];rw[aO (n:=(i:Int)+1) (by omega) (by omega)];have e3:(i:Int)+1=((i+1:Nat):Int):=by omega
    rw[e3];have:=ih (i+1) f out (by omega) (by omega) (by omega) (by
     have h1:(s.data.toList.drop f).take (i+1 - f)=(s.data.toList.drop f).take (i - f)++[b]:=by
      rw[show i+1 - f=(i - f)+1 from by omega,Td,S5,show f+(i - f)=i from by omega,hb];rfl
     rw[h1];intro h;rcases Rq.1 h with h | h
     ·exact hfree h
     ·exact hbc (Rj.1 h).symm)
    unfold oT at this;rw[this]
 unfold bG;have:=key s.size 0 0 [] (by omega) (Re _) (by simp) (by simp);rw[show(0:Int)=((0:Nat):Int)from rfl,this];simp[aZ]
theorem DT(s:ByteArray)(hs:s.size<=4294967280):oj s=some (aZ s 32):=by
 unfold oj strings_Split;have h:(QZ #[32]).data.toList=[32]:=rfl;rw[h];dsimp only;rw[decide_eq_true (by omega),cond_true];rfl
theorem rN(s:ByteArray)(c:UInt8):(aZ s c).length<=s.size+1:=by
 unfold aZ;rw[Rp,rM];have h1:s.data.toList.count c<=s.data.toList.length:=List.count_le_length;have:=ik s;omega
theorem zZ(s:ByteArray)(c:UInt8):aZ s c≠[]:=by
 unfold aZ;intro h;exact kF c _ (List.map_eq_nil_iff.1 h)
def lk(s:ByteArray):Bool:=decide ((aZ s 32).length<=8)&&(aZ s 32).all da
theorem mO(L:List ByteArray)(hL:L.length<=9223372036854775807)(h: ∀x∈L,x.size<=maxLen):gQ L=some (L.all da):=by
 unfold gQ;rw[jd hL (fun x=> !da x) false (fun j x hx=>by
  rw[aF,hx,QY,pI x (h x (Q3 hx)),QY]),<-TC]
 cases L.all da<;>rfl
theorem DN(s:ByteArray)(hs:s.size<=4294967280):mV s=some (lk s):=by
 unfold mV lk;have hl:=rN s 32;rw[DT s hs,QY,mO _ (by omega) (fun x hx=>by have:=eR hx;unfold maxLen;omega)];by_cases h:(aZ s 32).length<=8
 ·rw[decide_eq_true (show((aZ s 32).length:Int)<=8 by omega),decide_eq_true h];rfl
 ·rw[decide_eq_false (show ¬((aZ s 32).length:Int)<=8 by omega),decide_eq_false h];rfl
def Jq(s:ByteArray):List ByteArray×Bool:=bif(aZ s 32).all da then(aZ s 32,decide ((aZ s 32).length<=8))else([],false)
theorem Dk(s:ByteArray)(hs:s.size<=4294967280):mj s=some (Jq s):=by
 unfold mj Jq;have hl:=rN s 32;rw[show(32:Int)=((32:UInt8).toNat:Int)from rfl,dj s 32 hs,QY,jd (by omega) (fun x=> !da x) (([]:List ByteArray),false) (fun j x hx=>by
  rw[aF,hx,QY,iE x (by have:=eR (Q3 hx);unfold maxLen;omega),QY]),<-TC]
 have e:decide (((aZ s 32).length:Int)<=8)=decide ((aZ s 32).length<=8):=by
  by_cases h:(aZ s 32).length<=8
  ·rw[decide_eq_true (show((aZ s 32).length:Int)<=8 by omega),decide_eq_true h]
  ·rw[decide_eq_false (show ¬((aZ s 32).length:Int)<=8 by omega),decide_eq_false h]
 rw[e];cases (aZ s 32).all da<;>rfl
theorem D4(s:ByteArray)(hs:s.size<=4294967280):mZ s=some (lk s):=by
 unfold mZ lk;rw[Dk s hs,QY];unfold Jq;cases (aZ s 32).all da
 ·simp
 ·simp
theorem rR{s:ByteArray}(h:da s=true):1<=s.size/\s.size<=16:=by
 unfold da at h;rw[Q4,ic]at h;omega
theorem FK{s:ByteArray}(h:lk s=true):1<=s.size:=by
 unfold lk at h;rw[Q4]at h;have h1:=zZ s 32;obtain⟨x,l,hx⟩:=List.exists_cons_of_ne_nil h1;have h2:=Q7.1 h.2 x (by rw[hx];simp);have h3:=rR h2;have:=eR (s:=s) (c:=32) (x:=x) (by rw[hx];simp);omega
theorem pY(s:ByteArray):s.toList=s.data.toList:=by
 have: ∀n i (r:List UInt8),s.size - i=n->ByteArray.toList.loop s i r=r.reverse++s.data.toList.drop i:=by
  intro n
  induction n with
  | zero=>
   intro i r h;unfold ByteArray.toList.loop;have h2:s.data.toList.length=s.size:=by rw[Rf];rfl
   rw[if_neg (by omega),St (by omega),R4]
  | succ n ih=>
   intro i r h;unfold ByteArray.toList.loop;have h2:s.data.toList.length=s.size:=by rw[Rf];rfl
   rw[if_pos (by omega),ih (i+1) _ (by omega),List.reverse_cons,Ry,RP (show i<s.data.toList.length by omega)];congr 1;show[s.get! i]++_=_;rw[UK];congr 1;rw[Array.getElem_toList];show s.data[i]! =_;rw[getElem!_pos s.data i (by rw[<-Rf];omega)]
 have h:=this _ 0 [] rfl;rw[List.reverse_nil,Sr,TL]at h;exact h
theorem eD(s:ByteArray):s.data.toList.length=s.size:=by rw[Rf];rfl
theorem BA: ∀(k fuel n:Nat),n<10^(k+1)->k<fuel->k<=15-> ∃t:ByteArray,js fuel (n:Int)=some t/\t.data.toList=decDigits n/\t.size<=k+1
 | k,0,n,_,h,_=>by omega
 | k,fuel+1,n,hn,hf,hk=>by
  have hp:10^(k+1)<=10^16:=RN (by omega) (by omega);unfold js;by_cases h:n<10
  ·rw[decide_eq_true (show(n:Int)<10 by omega),cond_true];refine⟨_,rfl,?_,?_⟩
   ·rw[aO (by omega) (by omega),decDigits,dif_pos h];have:n=0\/n=1\/n=2\/n=3\/n=4\/n=5\/n=6\/n=7\/n=8\/n=9:=by omega
    rcases this with rfl | rfl | rfl | rfl | rfl | rfl | rfl | rfl | rfl | rfl<;>decide+kernel
   ·rw[strOfNums_size];simp
  ·rw[decide_eq_false (show ¬(n:Int)<10 by omega),cond_false];cases k with
   | zero=>omega
   | succ k=>
    have e1:Int.tdiv (n:Int) 10=((n/10:Nat):Int):=rfl;have e2:RW (n:Int) 10=((n % 10:Nat):Int):=rfl;obtain⟨t,t1,t2,t3⟩:=BA k fuel (n/10) (by rw[TU]at hn;omega) (by omega) (by omega);have hm:n % 10<10:=Nat.mod_lt _ (by omega);have hs:=strOfNums_size [(IntKind.wrap .u8 (ao (48+((n % 10:Nat):Int))))];rw[Te]at hs;rw[e1,e2,aO (n:=((n/10:Nat):Int)) (by omega) (by omega),t1,QY];unfold bU;rw[if_pos (by omega),QY];refine⟨_,rfl,?_,by rw[Q9];omega⟩;rw[decDigits,dif_neg h,ByteArray.data_append,Array.toList_append,t2];congr 1;rw[aO (by omega) (by omega)];generalize n % 10=d at hm;have:d=0\/d=1\/d=2\/d=3\/d=4\/d=5\/d=6\/d=7\/d=8\/d=9:=by omega
    rcases this with rfl | rfl | rfl | rfl | rfl | rfl | rfl | rfl | rfl | rfl<;>decide+kernel
theorem byte_at{s:ByteArray}{i:Nat}(hi:i<s.size):cG s (i:Int)=some ((s.data.toList[i]'(by rw[eD];exact hi)).toNat:Int):=by
 unfold cG;rw[if_pos (by omega),Rk,getElem?_pos s i hi];rfl
theorem Nt{s:ByteArray}(hs:s.size<=13): ∃r:Int⊕(Int×Bool),dD (s.size:Int) (fun(i3:Int) (s3:Int)=>((((cG s i3).bind fun x7=>(bif(decide (x7<48))then some true else((cG s i3).bind fun x8=>some (decide (x8>57)))))).bind fun(j9:Bool)=>(bif j9 then some (.inr (.inr (0,false)))else((cG s i3).bind fun x11=>some (.inl (ao ((ao (10*s3))+(ao (IntKind.wrap .u8 (x11 - 48)))))))))) (fun(s3:Int)=>(.inl s3:Int⊕(Int×Bool))) 0 0=some r/\r=bif s.data.toList.all AT then .inl (Dz s.data.toList 0:Int)else .inr (0,false):=by
 have hl:=eD s;rw[fH _ (by omega)];have key: ∀(m k a:Nat),k+m=s.size->a<10^k-> ∃r:Int⊕(Int×Bool),dd (fun(i3:Nat) (s3:Int)=>((((cG s (i3:Int)).bind fun x7=>(bif(decide (x7<48))then some true else((cG s (i3:Int)).bind fun x8=>some (decide (x8>57)))))).bind fun(j9:Bool)=>(bif j9 then some (.inr (.inr (0,false)))else((cG s (i3:Int)).bind fun x11=>some (.inl (ao ((ao (10*s3))+(ao (IntKind.wrap .u8 (x11 - 48)))))))))) (fun(s3:Int)=>(.inl s3:Int⊕(Int×Bool))) m k (a:Int)=some r/\r=bif(s.data.toList.drop k).all AT then .inl (Dz (s.data.toList.drop k) a:Int)else .inr (0,false):=by
  intro m
  induction m with
  | zero=>
   intro k a hk ha;rw[St (by omega)];exact⟨_,rfl,rfl⟩
  | succ m ih=>
   intro k a hk ha;have hks:k<s.size:=by omega
   have hp:10^k<=10^13:=RN (by omega) (by omega);have hx:=byte_at hks;have hlt:=(s.data.toList[k]'(by omega)).toNat_lt;rw[RP (show k<s.data.toList.length by omega),Ty];generalize hc:s.data.toList[k]'(by omega)=c at hx hlt;unfold dd;simp only[hx,QY];cases hd:AT c
   ·have hnd: ¬(48<=c.toNat/\c.toNat<=57):=fun h=>by rw[qw.2 h]at hd;cases hd
    by_cases h1:c.toNat<48
    ·rw[decide_eq_true (show(c.toNat:Int)<48 by omega)];exact⟨_,rfl,rfl⟩
    ·rw[decide_eq_false (show ¬(c.toNat:Int)<48 by omega),decide_eq_true (show(c.toNat:Int)>57 by omega)];exact⟨_,rfl,rfl⟩
   ·have hdg:=qw.1 hd;obtain⟨r,r1,r2⟩:=ih (k+1) (a*10+(c.toNat - 48)) (by omega) (by rw[TU];omega);have hw:IntKind.wrap .u8 ((c.toNat:Int)- 48)=((c.toNat - 48:Nat):Int):=by
     rw[IntKind.wrap_u8];omega
    rw[decide_eq_false (show ¬(c.toNat:Int)<48 by omega),decide_eq_false (show ¬(c.toNat:Int)>57 by omega),hw,aO (n:=10*(a:Int)) (by omega) (by omega),aO (n:=((c.toNat - 48:Nat):Int)) (by omega) (by omega),aO (n:=10*(a:Int)+((c.toNat - 48:Nat):Int)) (by omega) (by omega),show 10*(a:Int)+((c.toNat - 48:Nat):Int)=((a*10+(c.toNat - 48):Nat):Int) by omega];refine⟨r,r1,?_⟩;rw[r2,Se];rfl
 have:=key s.size 0 0 (by omega) (by simp);rw[TL]at this;exact this
theorem jl(s:ByteArray): ∃n b,bE s=some (n,b)/\(b=true↔can s.data.toList)/\0<=n/\n<10000000000000/\(b=true->n=Dz s.data.toList 0):=by
 have hl:=eD s;unfold bE;by_cases h0:s.size<1\/13<s.size
 ·refine⟨0,false,?_,?_,by omega,by omega,fun h=>by cases h⟩
  ·have:(decide ((s.size:Int)<1) || decide ((s.size:Int)>13))=true:=by
    rw[Rw,decide_eq_true_eq,decide_eq_true_eq];omega
   rw[this];rfl
  ·constructor
   ·intro h;cases h
   ·rintro⟨m,h1,h2⟩;have:=T0.2 (vN m);rw[<-h1]at this;omega
 ·have:(decide ((s.size:Int)<1) || decide ((s.size:Int)>13))=false:=by
   rw[Sf,decide_eq_false_iff_not,decide_eq_false_iff_not];omega
  rw[this,cond_false];obtain⟨r,r1,r2⟩:=Nt (s:=s) (by omega);rw[r1,QY,r2];cases hd:s.data.toList.all AT
  ·refine⟨0,false,rfl,?_,by omega,by omega,fun h=>by cases h⟩;constructor
   ·intro h;cases h
   ·rintro⟨m,h1,h2⟩;rw[h1,xd]at hd;cases hd
  ·have hv:=F6 s.data.toList 0 0 hd (by simp);have hp:10^(0+s.data.toList.length)<=10^13:=RN (by omega) (by omega);obtain⟨t,t1,t2,_⟩:=BA 12 1000 (Dz s.data.toList 0) (by omega) (by omega) (by omega);have t1':bT (Dz s.data.toList 0:Int)=some t:=t1;rw[cond_true,RH,t1',QY];refine⟨_,_,rfl,?_,by omega,by omega,fun _=>rfl⟩;rw[pY,pY,t2,beq_iff_eq];constructor
   ·intro h;exact⟨_,h.symm,by omega⟩
   ·rintro⟨m,h1,h2⟩;rw[h1,lQ]
theorem lS(s:ByteArray)(i j:Nat):(s.extract i j).data.toList=(s.data.toList.take j).drop i:=by
 rw[ByteArray.data_extract,Array.toList_extract,List.extract_eq_take_drop,List.drop_take]
theorem OT(s:ByteArray)(hs:s.size<=1048576): ∃t,strings_TrimPrefix s (QZ #[45])=some t/\(t.size:Int)=if s.data.toList.head?=some 45 then(s.size:Int)- 1 else s.size:=by
 have hl:=eD s;have hone:(QZ #[45]).size=1:=rfl;unfold strings_TrimPrefix dZ cy;rw[hone];cases hd:s.data.toList with
 | nil=>
  rw[hd]at hl;have h0:s.size=0:=hl.symm;rw[decide_eq_false (show ¬(s.size:Int)>=((1:Nat):Int) by omega)];exact⟨s,rfl,by simp⟩
 | cons c r=>
  rw[hd,Rc]at hl;rw[decide_eq_true (show(s.size:Int)>=((1:Nat):Int) by omega),cond_true];unfold kG;rw[if_pos (by omega),QY];have e1:(s.extract (Rl 0) (Rl ((1:Nat):Int))).toList=[c]:=by
   rw[pY,lS,hd];rfl
  rw[e1,pY];by_cases hc:c=45
  ·subst hc;rw[if_pos (by omega)];refine⟨_,rfl,?_⟩;rw[<-eD,lS,hd];simp;omega
  ·have:([c]==(QZ #[45]).data.toList)=false:=by
    rw[beq_eq_false_iff_ne];intro h;injection h with h;exact hc h
   rw[this];refine⟨s,rfl,?_⟩;rw[if_neg (by simpa using hc)]
theorem uN(s:ByteArray)(hs:s.size<=1048576):cT s=some ((gG s).1,(gG s).2&&decide ((if s.data.toList.head?=some 45 then(s.size:Int)- 1 else s.size)<=13)):=by
 obtain⟨t,t1,t2⟩:=OT s hs;unfold cT bP;rw[if_pos (by omega),QY,t1,QY,t2];cases (gG s).2<;>rfl
theorem BN{s:ByteArray}{v:Int}(h:parseIntB 64 s.data.toList= .ok v):gG s=(v,itoa v==s.data.toList):=by
 unfold gG;rw[h,pY]
theorem oG{s:ByteArray}(h:(gG s).2=true):itoa (gG s).1=s.data.toList:=by
 unfold gG at h⊢;cases hp:parseIntB 64 s.data.toList
 ·rw[hp]at h;rw[pY]at h;exact beq_iff_eq.1 h
 ·rw[hp]at h;cases h
 ·rw[hp]at h;cases h
theorem Cv{m:Nat}:(decDigits m).head?≠some 45:=by
 intro h;cases hd:decDigits m with
 | nil=>rw[hd]at h;cases h
 | cons c r=>
  rw[hd]at h;have:=(Cf hd).1;simp only[List.head?_cons,RY.injEq]at h;rw[h]at this;exact this rfl
theorem Mh(s:ByteArray)(hs:s.size<=1048576): ∃b r,l6 s=some b/\bE s=some (r,b):=by
 have hl:=eD s;obtain⟨n,b,v1,v2,_,_,v5⟩:=jl s;refine⟨b,n,?_,v1⟩;unfold l6;rw[uN s hs,QY];congr 1;rw[S7,v2,Q4,Q4,decide_eq_true_eq,decide_eq_true_eq];constructor
 ·rintro⟨⟨h1,h2⟩,h3⟩;have h4:=oG h1;have h3:0<=(gG s).1:=h3;rw[jV h3]at h4;rw[<-h4,if_neg Cv]at h2;exact⟨_,h4.symm,by omega⟩
 ·rintro⟨m,h1,h2⟩;have hp:=zJ (u:=m) (by rw[<-h1];exact h2);rw[<-h1]at hp;rw[BN hp];refine⟨⟨?_,?_⟩,by show(m:Int)>=0;omega⟩
  ·show(itoa (m:Int)==s.data.toList)=true;rw[itoa_nonneg,h1];exact beq_self_eq_true _
  ·rw[h1,if_neg Cv];omega
theorem II(s:ByteArray)(hs:s.size<=1048576): ∃b r,jR s=some b/\bu s=some (r,b):=by
 have hl:=eD s;unfold jR bu;rw[uN s hs,QY];cases hd:s.data.toList with
 | nil=>
  rw[hd]at hl;have h0:s.size=0:=hl.symm;rw[decide_eq_false (show ¬(s.size:Int)>0 by omega)];obtain⟨n,b,v1,v2,_⟩:=jl s;refine⟨_,n,rfl,?_⟩;rw[cond_false,QY,cond_false,v1,QY];congr 2;rw[S7,v2,Q4];constructor
  ·rintro⟨m,h1,_⟩;rw[hd]at h1;exact absurd h1.symm (vN m)
  ·rintro⟨h1,_⟩;have h4:=oG h1;rw[hd]at h4;unfold itoa at h4;split at h4
   ·cases h4
   ·exact absurd h4 (vN _)
 | cons c r=>
  rw[hd,Rc]at hl;have hb:cG s 0=some (c.toNat:Int):=by
   have:=byte_at (s:=s) (i:=0) (by omega);simp only[hd]at this;exact this
  rw[decide_eq_true (show(s.size:Int)>0 by omega),cond_true,hb,QY,QY];by_cases hc:c=45
  ·subst hc;have e45:(((45:UInt8).toNat:Int)==45)=true:=rfl;have hsub:kG s 1 (s.size:Int)=some (s.extract 1 s.size):=by
    unfold kG;rw[if_pos (by omega)];rfl
   have hex:(s.extract 1 s.size).data.toList=r:=by
    rw[lS,RF (by rw[eD];exact Re _),hd];rfl
   obtain⟨n,b,v1,v2,v3,v4,v5⟩:=jl (s.extract 1 s.size);rw[hex]at v2 v5;rw[e45,cond_true,hsub,QY,v1,QY];refine⟨_,ao (0 - n),rfl,?_⟩;congr 2;rw[S7,Q4,Q4,decide_eq_true_eq,decide_eq_true_eq,v2];simp only[List.head?_cons,if_true];constructor
   ·rintro⟨⟨m,h1,h2⟩,h3⟩;have h5:=v5 (v2.2 ⟨m,h1,h2⟩);rw[h1,lQ]at h5;have h6:=EO (u:=m) (by rw[<-h1];exact h2);rw[<-h1,<-hd]at h6;rw[BN h6];refine⟨?_,by omega⟩;show(itoa (-(m:Int))==s.data.toList)=true;rw[itoa_neg m (by omega),hd,h1];exact beq_self_eq_true _
   ·rintro⟨h1,h2⟩;have h4:=oG h1;rw[hd]at h4;have hneg:(gG s).1<0:=by
     rcases Int.lt_or_le (gG s).1 0 with h | h
     ·exact h
     ·rw[jV h]at h4;exact absurd (by rw[h4];rfl) (Cv (m:=(gG s).1.toNat))
    rw[uD hneg]at h4;injection h4 with _ h4;have hcan:can r:=⟨_,h4.symm,by omega⟩;refine⟨hcan,?_⟩;have h5:=v5 (v2.2 hcan);rw[<-h4,lQ]at h5;omega
  ·have e45:((c.toNat:Int)==45)=false:=by
    rw[beq_eq_false_iff_ne];intro h;apply hc;apply TE.1;show c.toNat=45;omega
   obtain⟨n,b,v1,v2,v3,v4,v5⟩:=jl s;rw[hd]at v2;rw[e45,cond_false,v1,QY];refine⟨_,n,rfl,?_⟩;congr 2;have hh: ¬(c::r).head?=some 45:=by simpa using hc
   rw[if_neg hh,S7,v2,Q4,decide_eq_true_eq];constructor
   ·rintro⟨m,h1,h2⟩;have h6:=zJ (u:=m) (by rw[<-h1];exact h2);rw[<-h1,<-hd]at h6;rw[BN h6];rw[Rc]at h2;refine⟨?_,by omega⟩;show(itoa (m:Int)==s.data.toList)=true;rw[itoa_nonneg,hd,h1];exact beq_self_eq_true _
   ·rintro⟨h1,h2⟩;have h4:=oG h1;rw[hd]at h4;have hpos:0<=(gG s).1:=by
     rcases Int.lt_or_le (gG s).1 0 with h | h
     ·rw[uD h]at h4;injection h4 with h5 _;exact absurd h5.symm hc
     ·exact h
    rw[jV hpos]at h4;exact⟨_,h4.symm,by rw[Rc];omega⟩
theorem lP{a b:ByteArray}(h:a.data.toList=b.data.toList):a=b:=by
 cases a with
 | mk x=>
  cases b with
  | mk y=>
   have h:x.toList=y.toList:=h;rw[TK.1 h]
def cI(v:Int):ByteArray:=⟨(itoa v).toArray⟩
theorem cE(v:Int):(cI v).data.toList=itoa v:=by
 unfold cI;simp
theorem uM(v:Int):(cI v).size=(itoa v).length:=by
 rw[<-eD,cE]
theorem q9{u:Nat}(h:u<10000000000000):(decDigits u).length<=13:=by
 obtain⟨t,_,t2,t3⟩:=BA 12 1000 u h (by omega) (by omega);have:=eD t;rw[t2]at this;omega
theorem CJ{v:Int}(h0: -10000000000000<v)(h1:v<10000000000000):(itoa v).length<=14:=by
 unfold itoa;split
 ·have:=q9 (u:=v.natAbs) (by omega);rw[Rc];omega
 ·have:=q9 (u:=v.toNat) (by omega);omega
theorem kR(v:Int)(h0: -9223372036854775808<=v)(h1:v<=9223372036854775807):cj v=some (cI v):=by
 unfold cj;rw[if_pos ⟨h0,h1⟩];rfl
theorem im{v:Int}(h0:0<=v)(h1:v<10000000000000000):bT v=some (cI v):=by
 obtain⟨u,rfl⟩:=RT h0;obtain⟨t,t1,t2,_⟩:=BA 15 1000 u (by omega) (by omega) (by omega);have e:t=cI u:=lP (by rw[t2,cE,jV (by omega),Rk]);rw[<-e];exact t1
theorem I3{v:Int}(h0: -10000000000000<v)(h1:v<10000000000000):parseIntB 64 (itoa v)= .ok v:=by
 unfold itoa;split
 ·rw[EO (q9 (by omega))];congr 1;omega
 ·rw[zJ (q9 (by omega))];congr 1;omega
theorem kq{s:ByteArray}{v:Int}(hs:s.data.toList=itoa v)(h0: -10000000000000<v)(h1:v<10000000000000):gG s=(v,true):=by
 rw[BN (v:=v) (by rw[hs];exact I3 h0 h1),hs,beq_self_eq_true]
theorem wT{s:ByteArray}{v:Int}(hs:s.data.toList=itoa v)(h0:0<=v)(h1:v<10000000000000):bE s=some (v,true):=by
 obtain⟨n,b,v1,v2,_,_,v5⟩:=jl s;rw[jV h0]at hs;have hb:=v2.2 ⟨_,hs,by rw[hs];exact q9 (by omega)⟩;have h5:=v5 hb;rw[hs,lQ]at h5;rw[v1,hb,h5];congr 2;omega
theorem oI(s:ByteArray)(hs:s.size<=1048576): ∃n b,bu s=some (n,b)/\(b=true->s.data.toList=itoa n/\ -10000000000000<n/\n<10000000000000)/\ ∀v,s.data.toList=itoa v-> -10000000000000<v->v<10000000000000->b=true/\n=v:=by
 have hl:=eD s;have hneg: ∀{m:Nat} {l:List UInt8},decDigits m≠45::l:=fun{m l} e=>(Cf e).1 rfl;unfold bu;cases hd:s.data.toList with
 | nil=>
  rw[hd]at hl;have h0:s.size=0:=hl.symm;rw[decide_eq_false (show ¬(s.size:Int)>0 by omega)];obtain⟨n,b,v1,v2,_⟩:=jl s;rw[cond_false,QY,cond_false,v1,QY];refine⟨_,_,rfl,fun h=> ?_,fun v h=>absurd h.symm (FB v)⟩;obtain⟨m,h1,_⟩:=v2.1 h;rw[hd]at h1;exact absurd h1.symm (vN m)
 | cons c r=>
  rw[hd,Rc]at hl;have hb:cG s 0=some (c.toNat:Int):=by
   have:=byte_at (s:=s) (i:=0) (by omega);simp only[hd]at this;exact this
  rw[decide_eq_true (show(s.size:Int)>0 by omega),cond_true,hb,QY,QY];by_cases hc:c=45
  ·subst hc;have e45:(((45:UInt8).toNat:Int)==45)=true:=rfl;have hsub:kG s 1 (s.size:Int)=some (s.extract 1 s.size):=by
    unfold kG;rw[if_pos (by omega)];rfl
   have hex:(s.extract 1 s.size).data.toList=r:=by
    rw[lS,RF (by rw[eD];exact Re _),hd];rfl
   obtain⟨n,b,v1,v2,v3,v4,v5⟩:=jl (s.extract 1 s.size);rw[hex]at v2 v5;have hw:ao (0 - n)= -n:=by
    rw[aO (by omega) (by omega)];omega
   rw[e45,cond_true,hsub,QY,v1,QY,hw];refine⟨_,_,rfl,fun h=> ?_,fun v h k1 k2=> ?_⟩
   ·rw[Q4,decide_eq_true_eq]at h;obtain⟨m,h1,h2⟩:=v2.1 h.1;have h5:=v5 h.1;rw[h1,lQ]at h5;refine⟨?_,by omega,by omega⟩;rw[uD (by omega),h1];congr 2;omega
   ·have hv:v<0:=by
     rcases Int.lt_or_le v 0 with h3 | h3
     ·exact h3
     ·rw[jV h3]at h;exact absurd h.symm hneg
    rw[uD hv]at h;injection h with _ h;have hcan:=v2.2 ⟨_,h,by rw[h];exact q9 (by omega)⟩;have h5:=v5 hcan;rw[h,lQ]at h5;rw[hcan,decide_eq_true (show n>0 by omega)];exact⟨rfl,by omega⟩
  ·have e45:((c.toNat:Int)==45)=false:=by
    rw[beq_eq_false_iff_ne];intro h;apply hc;apply TE.1;show c.toNat=45;omega
   obtain⟨n,b,v1,v2,v3,v4,v5⟩:=jl s;rw[hd]at v2 v5;rw[e45,cond_false,v1,QY];refine⟨_,_,rfl,fun h=> ?_,fun v h k1 k2=> ?_⟩
   ·obtain⟨m,h1,h2⟩:=v2.1 h;have h5:=v5 h;rw[h1,lQ]at h5;refine⟨?_,by omega,by omega⟩;rw[jV v3,h1,h5,Rk]
   ·have hv:0<=v:=by
     rcases Int.lt_or_le v 0 with h3 | h3
     ·rw[uD h3]at h;injection h with h _;exact absurd h hc
     ·exact h3
    rw[jV hv]at h;have hcan:=v2.2 ⟨_,h,by rw[h];exact q9 (by omega)⟩;have h5:=v5 hcan;rw[h,lQ]at h5;exact⟨hcan,by omega⟩
theorem pP{s:ByteArray}{v:Int}(hz:s.size<=1048576)(hs:s.data.toList=itoa v)(h0: -10000000000000<v)(h1:v<10000000000000):bu s=some (v,true):=by
 obtain⟨n,b,s1,_,s3⟩:=oI s hz;obtain⟨e1,e2⟩:=s3 v hs h0 h1;rw[s1,e1,e2]
def BT(c:List Int):Prop:=c.length<=4096/\ ∀x∈c,0<=x/\x<256
theorem MB{α:Type}(L:List α){i:Int}(h0:0<=i)(h:i<L.length\/i=0)(hL:0<L.length): ∃y,at' L i=some y/\y∈L:=by
 obtain⟨y,hy,hg⟩:=Gk (L:=L) h0 (by omega);exact⟨y,hy,Q3 hg⟩
def Gv{α:Type}(o:Option α)(P:α->Prop):Prop:= ∃y,o=some y/\P y
theorem Gv.bind{α β:Type}{o:Option α}{P:α->Prop}{f:α->Option β}{Q:β->Prop}(h:Gv o P)(k: ∀y,P y->Gv (f y) Q):Gv (o.bind f) Q:=by
 obtain⟨y,rfl,hy⟩:=h;exact k y hy
theorem Gv.some{α:Type}{y:α}{P:α->Prop}(h:P y):Gv (some y) P:=⟨y,rfl,h⟩
theorem Gv.cond{α:Type}{b:Bool}{x y:Option α}{P:α->Prop}(h:b=true->Gv x P)(k:b=false->Gv y P):Gv (bif b then x else y) P:=by
 cases b
 ·exact k rfl
 ·exact h rfl
theorem Gv.imp{α:Type}{o:Option α}{P Q:α->Prop}(h:Gv o P)(k: ∀y,P y->Q y):Gv o Q:=by
 obtain⟨y,e,hy⟩:=h;exact⟨y,e,k y hy⟩
theorem Gv.lp{α A:Type}{body:α->Option (α⊕A)}(I:α->Prop)(μ:α->Nat){Q:A->Prop}(h: ∀s,I s->Gv (body s) (fun r=>match r with
  | .inl s'=>I s'/\μ s'<μ s
  | .inr r=>Q r)) {s:α} (hs:I s):Gv (loop body s) Q:=by
 obtain⟨r,e,hr⟩:=CN I μ Q (fun s hs=>by
  obtain⟨y,e,hy⟩:=h s hs;cases y with
  | inl s'=>exact .inl ⟨s',e,hy⟩
  | inr r=>exact .inr ⟨r,e,hy⟩) hs
 exact⟨r,e,hr⟩
theorem Gv.Od{S A:Type}{n:Nat}(hn:n<=1000000000){B:Int->S->Option S}{D:S->A}(I:Nat->S->Prop)(hB: ∀(i:Nat) s,i<n->I i s->Gv (B (i:Int) s) (I (i+1))){s:S}(hs:I 0 s){Q:A->Prop}(hQ: ∀s,I n s->Q (D s)):Gv (cN (n:Int) B D 0 s) Q:=by
 have key: ∀(m i:Nat) s,i+m=n->I i s->Gv (cN (n:Int) B D (i:Int) s) Q:=by
  intro m
  induction m with
  | zero=>
   intro i s him hi;obtain rfl:i=n:=by omega
   unfold cN;rw[bR];simp only[decide_eq_false (show ¬(i:Int)<i by omega),cond_false];exact⟨_,rfl,hQ s hi⟩
  | succ m ih=>
   intro i s him hi;obtain⟨s',e,hs'⟩:=hB i s (by omega) hi;have:=ih (i+1) s' (by omega) hs';unfold cN at this⊢;rw[bR];simp only[decide_eq_true (show(i:Int)<n by omega),cond_true,e,QY];rw[aO (by omega) (by omega)];simpa using this
 exact key n 0 s (by omega) hs
theorem Gv.at{α:Type}{L:List α}{P:α->Prop}{i:Int}(h0:0<=i/\(i<L.length\/i=0))(hL:0<L.length)(hP: ∀x∈L,P x):Gv (at' L i) P:=by
 obtain⟨y,e,hy⟩:=MB L h0.1 h0.2 hL;exact⟨y,e,hP y hy⟩
theorem Gv.cat{u v:ByteArray}(h:u.size+v.size<=1000000):Gv (bU u v) (fun w=>w.size=u.size+v.size):=by
 refine⟨u++v,?_,Q9⟩;unfold bU;rw[if_pos (by omega)]
theorem Gv.app{α:Type}{L M:List α}(h:L.length+M.length<=1000000):Gv (bZ L M) (fun r=>r=L++M):=⟨_,cd (by omega),rfl⟩
theorem Gv.sub{u:ByteArray}{l h:Int}(h0:0<=l)(h1:l<=h)(h2:h<=u.size):Gv (kG u l h) (fun w=>w.size<=u.size):=by
 refine⟨_,by unfold kG;rw[if_pos ⟨h0,h1,h2⟩],?_⟩;show(u.extract l.toNat h.toNat).size<=u.size;rw[T7];omega
theorem cg{s r:ByteArray}(h:s.size+r.size<=9223372036854775807):bU s r=some (s++r):=by
 unfold bU;rw[if_pos h]
theorem dA(s r:ByteArray):(s++r).data.toList=s.data.toList++r.data.toList:=by
 rw[ByteArray.data_append,Array.toList_append]
theorem mP(L:List ByteArray)(c:ByteArray):(dW L c).data.toList=Lib.join (L.map (·.data.toList)) c.data.toList:=by
 unfold dW;simp
theorem EE(c x:List UInt8): ∀{L:List (List UInt8)},L≠[]->Lib.join (L++[x]) c=Lib.join L c++c++x
 | [],h=>absurd rfl h
 | [y],_=>by rw[UK,join_cons,join_one,join_one]
 | y::z::L,_=>by
  rw[Sy,Sy,join_cons,join_cons,<-Sy,EE c x (L:=z::L) (by simp)];simp
theorem gq(x c:ByteArray):dW [x] c=x:=lP (by rw[mP,Sq,TG,join_one])
theorem e8(x y:ByteArray)(L:List ByteArray)(c:ByteArray):dW (x::y::L) c=x++c++dW (y::L) c:=lP (by
 rw[mP,Sq,Sq,join_cons,dA,dA,mP];rfl)
theorem IJ(x c:ByteArray){L:List ByteArray}(h:L≠[]):dW (L++[x]) c=dW L c++c++x:=lP (by
 rw[mP,SI,Sq,TG,EE _ _ (by simpa using h),dA,dA,mP])
theorem ly{k:Nat}(c:ByteArray): ∀(L:List ByteArray),(∀x∈L,x.size<=k)->(dW L c).size<=L.length*(k+c.size)
 | [],_=>by
  show 0<=_;exact R0 _
 | [x],h=>by
  rw[gq];have:=h x (by simp);rw[Te];omega
 | x::y::L,h=>by
  have h1:=ly c (y::L) fun z hz=>h z (by simp[hz]);have h2:=h x (by simp);rw[e8,Q9,Q9,Rc,Nat.succ_mul];omega
theorem uE{α A:Type}{L:List α}{k:Nat}(hk:k<=1000000)(hL:L.length<=1000000){c:ByteArray}(hc:c.size<=100){t:α->ByteArray}(ht: ∀x∈L,(t x).size<=k){B:Int->ByteArray->Option ByteArray}{D:ByteArray->A}(h: ∀(i:Nat) x s,L[i]? =some x->s.size<=2000000000000->B (i:Int) s=some ((bif decide ((i:Int)>0)then s++c else s)++t x)):cN (L.length:Int) B D 0 (QZ #[])=some (D (dW (L.map t) c)):=by
 obtain⟨y,h1,h2⟩:=Gv.Od (show L.length<=1000000000 by omega) (B:=B) (D:=D) (fun i s=>s=dW ((L.take i).map t) c) (fun i s hi hs=>by
  have hx:L[i]? =some L[i]:=Q0 hi;have hz:=ly (k:=k) c ((L.take i).map t) (fun x hx=>by
   obtain⟨z,hz,rfl⟩:=Rh.1 hx;exact ht z (S4 hz))
  rw[Rp,Rt,TR (by omega),<-hs]at hz;have hz2:s.size<=1000000*(1000000+100):=R7 hz (Tz (by omega) (by omega));refine⟨_,h i L[i] s hx (by omega),?_⟩;rw[Td,hx,Option.toList_some,SI,Sq,TG];rcases Nat.eq_zero_or_pos i with h0 | h0
  ·subst h0;rw[decide_eq_false (by omega),hs,cond_false];exact lP (by simp[dW,Lib.join])
  ·rw[decide_eq_true (by omega),cond_true,hs,IJ];intro e;have:=congrArg List.length e;rw[Rp,Rt,Sw]at this;omega) (s:=QZ #[]) (by simp[dW,Lib.join]) (Q:=fun y=>y=D (dW (L.map t) c)) (fun s hs=>by
  rw[hs,List.take_length])
 rw[h1,h2]
theorem nM{v:Int}(h0: -10000000000000<v)(h1:v<10000000000000):dV v=some (cI v):=by
 unfold dV;by_cases h:v<0
 ·have hl:=CJ (v:=0 - v) (by omega) (by omega);have h1':(QZ #[45]).size=1:=rfl;rw[decide_eq_true h,cond_true,aO (by omega) (by omega),im (by omega) (by omega),QY,cg (by
   rw[uM,h1'];omega),QY]
  congr 1;refine lP ?_;have e:(0 - v).toNat=v.natAbs:=by omega
  rw[dA,cE,cE,uD h,jV (by omega),e];rfl
 ·rw[decide_eq_false h,cond_false,im (by omega) (by omega),QY]
def lF(R:List Int):ByteArray:=bif(R.length:Int)==0 then QZ #[45]else dW (R.map cI) (QZ #[44])
theorem ru{R:List Int}(hR: ∀x∈R,0<=x/\x<1000000): ∀x∈R,(cI x).size<=14:=fun x hx=>by
 have:=hR x hx;rw[uM];exact CJ (by omega) (by omega)
theorem IV{R:List Int}(hl:R.length<=1000)(hR: ∀x∈R,0<=x/\x<1000000):(lF R).size<=20000:=by
 unfold lF;cases (R.length:Int)==0
 ·have h:=ly (k:=14) (QZ #[44]) (R.map cI) (fun x hx=>by
   obtain⟨z,hz,rfl⟩:=Rh.1 hx;exact ru hR z hz)
  rw[Rp]at h;have h2:R.length*(14+(QZ #[44]).size)<=1000*15:=Tz hl (Re _);rw[cond_false];omega
 ·rw[cond_true];show 1<=20000;omega
theorem yq{R:List Int}(hl:R.length<=1000)(hR: ∀x∈R,0<=x/\x<1000000):iS R=some (lF R):=by
 unfold iS lF rL;cases (R.length:Int)==0
 ·rw[cond_false,cond_false,uE (k:=14) (t:=cI) (c:=QZ #[44]) (by omega) (by omega) (by decide) (ru hR) (fun i x s hx hs=>by
   have h1:=hR x (Q3 hx);have h2:=ru hR x (Q3 hx);have hat:at' R (i:Int)=some x:=by rw[aF,hx]
   have hc:(QZ #[44]).size=1:=rfl;simp only[hat,QY,nM (v:=x) (by omega) (by omega)];cases decide ((i:Int)>0)
   ·rw[cond_false,QY,cg (by omega)];rfl
   ·rw[cond_true,cg (by omega),QY,QY,cg (by rw[Q9];omega)];rfl)]
  rfl
 ·rfl
theorem xF{R:List Int}(hl:R.length<=1000)(hR: ∀x∈R,0<=x/\x<1000000):fy R=some (lF R):=by
 unfold fy lF zt;cases (R.length:Int)==0
 ·obtain⟨y,h1,h2⟩:=Gv.Od (show R.length<=1000000000 by omega) (B:=fun(i4:Int) (s4:(List ByteArray))=>((at' R i4).bind fun x8=>((cj x8).bind fun x9=>((at' s4 i4).bind fun _=>some (Sd s4 (Rl i4) x9))))) (D:=fun s=>s) (fun i s=>s.length=R.length/\s.take i=(R.take i).map cI) (fun i s hi hs=>by
   have hx:at' R (i:Int)=some R[i]:=B4 hi;have h3:=hR R[i] (R2 hi);have hy:at' s (i:Int)=some (s[i]'(by omega)):=B4 (by omega);refine⟨s.set i (cI R[i]),?_,by rw[TP];exact hs.1,?_⟩
   ·simp only[hx,QY,kR R[i] (by omega) (by omega),hy,Rk]
   ·rw[Td,List.take_set_of_le (Re _),List.getElem?_set_self (by omega),hs.2,Td,Q0 hi,SI];rfl) (s:=Sm R.length (QZ #[])) ⟨by simp,by simp⟩ (Q:=fun y=>y=R.map cI) (fun s hs=>by
   have h3:=hs.2;rw[RF (by omega),RF (Re _)]at h3;exact h3)
  have h:=ly (k:=14) (QZ #[44]) (R.map cI) (fun x hx=>by
   obtain⟨z,hz,rfl⟩:=Rh.1 hx;exact ru hR z hz)
  rw[Rp]at h;have h4:R.length*(14+(QZ #[44]).size)<=1000*15:=Tz hl (Re _);rw[cond_false,cond_false,BK _ (by omega),QY,h1,h2,QY];unfold strings_Join;rw[if_pos ⟨by rw[Rp];omega,by omega⟩];rfl
 ·rfl
theorem l8{L:List ByteArray}(hl:L.length<=1000){k:Nat}(hk:k<=100000)(hL: ∀x∈L,x.size<=k){c:ByteArray}(hc:c.size=1):strings_Join L c=some (dW L c):=by
 have h:=ly c L hL;have h2:L.length*(k+c.size)<=1000*(100000+1):=Tz hl (by omega);unfold strings_Join;rw[if_pos ⟨by omega,by omega⟩]

structure de (x:Claim):Prop where
 s0:x.Source.size<=1048576
 s2:x.Place.size<=1048576
 s3:x.Value.size<=1048576
structure zP (x:Site):Prop where
 s0:x.Code.size<=1048576
theorem fO{a b:ByteArray}:(a.toList==b.toList)=true↔a=b:=by
 rw[beq_iff_eq,toList_eq,toList_eq];refine⟨fun h=> ?_,fun h=>by rw[h]⟩;obtain⟨a⟩:=a;obtain⟨b⟩:=b;have h:a.toList=b.toList:=h;rw[TK.1 h]
theorem w4{a:ByteArray}(h:1<=a.size):(a.toList==(QZ #[]).toList)=false:=by
 rw[Rv];intro hc;rw[fO]at hc;rw[hc]at h;simp[ByteArray.size]at h
theorem xy{α:Type}(p:α->Bool): ∀L:List α,(iy p L= -1/\L.find? p=none)\/ ∃(i:Nat) (x:α),iy p L=i/\L[i]? =some x/\L.find? p=some x
 | []=> .inl ⟨rfl,rfl⟩
 | x::l=>by
  unfold iy;cases hp:p x
  ·rw[List.find?_cons_of_neg (by rw[hp];simp)];rcases xy p l with⟨h1,h2⟩ | ⟨i,y,h1,h2,h3⟩
   ·rw[h1];exact .inl ⟨rfl,h2⟩
   ·have hd:decide ((i:Int)<0)=false:=decide_eq_false (by omega);simp only[h1,cond_false,hd];exact .inr ⟨i+1,y,by simp,by simpa using h2,h3⟩
  ·rw[List.find?_cons_of_pos hp];exact .inr ⟨0,x,rfl,rfl,rfl⟩
theorem sV{α A:Type}(p:α->Bool)(f:α->A): ∀(L:List α) (k:Nat),cn (fun _ x=>p x) (fun _ x=>f x) L k=(L.find? p).map f
 | [],_=>rfl
 | x::l,k=>by
  unfold cn;cases hp:p x
  ·rw[List.find?_cons_of_neg (by rw[hp];simp)];exact sV p f l (k+1)
  ·rw[List.find?_cons_of_pos hp];rfl
def n5(s:Span):Bool:=inB s.From (-3000) 3000&&(inB s.To (-3000) 3000&&decide (s.From<=s.To))
theorem th(s:Span):nv s=some (n5 s):=by
 unfold nv lD n5;simp only[gw,QY];cases inB s.From (-3000) 3000<;>cases inB s.To (-3000) 3000<;>rfl
theorem tR(s:Span):nH s=some (n5 s):=by
 unfold nH kz n5;simp only[jW,QY];cases inB s.From (-3000) 3000<;>cases inB s.To (-3000) 3000<;>rfl
def H5(c:Claim):Bool:=bif c.Kind==0 then lk c.Value else bif c.Kind==1 then da c.Value&& !(c.Value.toList==c.Place.toList)else bif c.Kind==2 then c.Value.toList==(QZ #[]).toList else bif c.Kind==3 then c.Value.toList==(QZ #[]).toList else false
theorem IF(c:Claim)(h:c.Value.size<=1048576):jz c=some (H5 c):=by
 unfold jz H5;rw[DN _ (by omega),pI _ (by unfold maxLen;omega)];generalize da c.Value=w;generalize lk c.Value=f;generalize (c.Value.toList==c.Place.toList)=e;generalize (c.Value.toList==(QZ #[]).toList)=z;cases c.Kind==0<;>cases c.Kind==1<;>cases c.Kind==2<;>cases c.Kind==3<;>cases w<;>rfl
def cw(c:Claim):Bool:=da c.Source&&(da c.Place&&(H5 c&&(n5 c.Years&&inB c.Weight 1 100)))
theorem rj(c:Claim)(h:de c):lV c=some (cw c):=by
 have h0:=h.s0;have h2:=h.s2;unfold lV cw;rw[mO _ (by simp) (fun x hx=>by
  simp only[Ra,Sg,or_false]at hx;unfold maxLen;rcases hx with rfl | rfl<;>omega),IF c h.s3,th,gw]
 simp only[Ty,List.all_nil];cases da c.Source<;>cases da c.Place<;>cases H5 c<;>cases n5 c.Years<;>rfl
theorem rK(c:Claim)(h:de c):mh c=some (cw c):=by
 have h0:=h.s0;have h2:=h.s2;have h3:=h.s3;unfold mh cw H5;rw[iE c.Source (by unfold maxLen;omega),iE c.Place (by unfold maxLen;omega),iE c.Value (by unfold maxLen;omega),D4 _ (by omega),tR,jW];generalize da c.Value=w;generalize lk c.Value=f;generalize (c.Value.toList==c.Place.toList)=e;generalize (c.Value.toList==(QZ #[]).toList)=z;generalize inB c.Weight 1 100=g;generalize n5 c.Years=s;cases da c.Source
 ·rfl
 cases da c.Place
 ·rfl
 cases s<;>cases g
 ·simp
 ·simp
 ·simp
 cases c.Kind==0<;>cases c.Kind==1<;>cases c.Kind==2<;>cases c.Kind==3<;>cases w<;>cases f<;>cases e<;>cases z<;>rfl
def bf(L:List Claim):Bool:=decide (L.length<=12)&&L.all cw
theorem O5(L:List Claim):decide ((L.length:Int)<=12)=decide (L.length<=12):=by
 by_cases h:L.length<=12
 ·rw[decide_eq_true h,decide_eq_true (by omega)]
 ·rw[decide_eq_false h,decide_eq_false (by omega)]
theorem jO{L:List Claim}(hL:L.length<=1048576)(h: ∀x∈L,de x):eG L=some (bf L):=by
 unfold eG cF cP mM bf;rw[fV (by omega) (fun c=> !cw c) (fun i x hx=>by
  rw[aF,hx,QY,rj x (h x (Q3 hx))];rfl)]
 simp only[QY,kO,O5,<-TC,Bool.not_not];cases decide (L.length<=12)<;>rfl
theorem mi{L:List Claim}(hL:L.length<=1048576)(h: ∀x∈L,de x):fX L=some (bf L):=by
 unfold fX bf;rw[jd (by omega) (fun c=> !cw c) false (fun i x hx=>by
  rw[aF,hx,QY,rK x (h x (Q3 hx))];rfl),O5,<-TC]
 cases L.all cw<;>simp
def qu(a b:Claim):Bool:=(decide (a.Years.From<=b.Years.To)&&decide (b.Years.From<=a.Years.To))&&(((a.Kind==1)&&((b.Kind==3)&&(a.Value.toList==b.Place.toList))) || ((b.Kind==1)&&((a.Kind==3)&&(b.Value.toList==a.Place.toList))) || ((a.Place.toList==b.Place.toList)&&(bif a.Kind==b.Kind then((a.Kind==0) || (a.Kind==1))&& !(a.Value.toList==b.Value.toList)else(a.Kind==3) || (b.Kind==3))))
theorem M3(a b:Claim):er a b=some (qu a b):=by
 unfold er om qu;simp only[QY];generalize (decide (a.Years.From<=b.Years.To)&&decide (b.Years.From<=a.Years.To))=m;generalize (a.Value.toList==b.Place.toList)=x;generalize (b.Value.toList==a.Place.toList)=y;generalize (a.Place.toList==b.Place.toList)=z;generalize (a.Value.toList==b.Value.toList)=v;generalize (a.Kind==b.Kind)=k;generalize (a.Kind==1)=a1;generalize (a.Kind==0)=a0;generalize (a.Kind==3)=a3;generalize (b.Kind==1)=b1;generalize (b.Kind==3)=b3;cases m
 ·rfl
 cases z<;>cases k<;>cases a1<;>cases b1<;>cases a3<;>cases b3<;>cases x<;>cases y<;>simp
theorem Mb(a b:Claim):dJ a b=some (qu a b):=by
 unfold dJ lh eH qu;simp only[QY];rw[BEq.comm (a:=b.Place.toList) (b:=a.Value.toList),BEq.comm (a:=a.Place.toList) (b:=b.Value.toList)];generalize (decide (a.Years.From<=b.Years.To)&&decide (b.Years.From<=a.Years.To))=m;generalize (a.Value.toList==b.Place.toList)=x;generalize (b.Value.toList==a.Place.toList)=y;generalize (a.Place.toList==b.Place.toList)=z;generalize (a.Value.toList==b.Value.toList)=v;cases m
 ·rfl
 by_cases hab:a.Kind=b.Kind
 ·rw[hab,beq_self_eq_true];generalize (b.Kind==1)=b1;generalize (b.Kind==0)=b0;generalize (b.Kind==3)=b3;cases z<;>cases b1<;>cases b3<;>cases x<;>cases y<;>cases b0<;>simp
 ·rw[beq_eq_false_iff_ne.2 hab];have h3:((a.Kind==3)&&(b.Kind==3))=false:=by
   rw[Rv];intro h;rw[Q4,beq_iff_eq,beq_iff_eq]at h;exact hab (by rw[h.1,h.2])
  revert h3;generalize (a.Kind==1)=a1;generalize (a.Kind==3)=a3;generalize (b.Kind==1)=b1;generalize (b.Kind==3)=b3;cases z<;>cases a1<;>cases b1<;>cases a3<;>cases b3<;>cases x<;>cases y<;>simp
def pw(k:Int)(p:ByteArray)(y:Int)(c:Claim):Bool:=(c.Kind==k)&&((c.Place.toList==p.toList)&&inB y c.Years.From c.Years.To)
def tel(L:List Claim)(k:Int)(p:ByteArray)(y:Int):Option ByteArray:=(L.find? (pw k p y)).map Claim.Value
def Ae(o:Option ByteArray):ByteArray×Bool:=match o with | some v=>(v,true) | none=>(QZ #[],false)
theorem Fz{L:List Claim}(hL:L.length<=1048576)(k:Int)(p:ByteArray)(y:Int):uA L k p y=some (Ae (tel L k p y)):=by
 unfold uA dq to gP;rw[fV (by omega) (pw k p y) (fun i x hx=>by
  rw[aF,hx,QY,gw];unfold pw;cases x.Kind==k<;>cases x.Place.toList==p.toList<;>rfl)]
 unfold tel;rcases xy (pw k p y) L with⟨h1,h2⟩ | ⟨i,x,h1,h2,h3⟩
 ·rw[h1,h2];rfl
 ·rw[h1,h3,QY,decide_eq_false (by omega),cond_false,aF,h2];rfl
theorem l9{L:List Claim}(hL:L.length<=1048576)(p:ByteArray)(y:Int):fJ L p y=some (Ae (tel L 1 p y)):=by
 unfold fJ cH lx gP;rw[fV (by omega) (pw 1 p y) (fun i x hx=>by
  rw[aF,hx,QY,gw];unfold pw;cases x.Kind==1<;>cases x.Place.toList==p.toList<;>rfl)]
 unfold tel;rcases xy (pw 1 p y) L with⟨h1,h2⟩ | ⟨i,x,h1,h2,h3⟩
 ·rw[h1,h2];rfl
 ·rw[h1,h3,QY,decide_eq_false (by omega),cond_false,aF,h2];rfl
theorem ph{L:List Claim}(hL:L.length<=1048576)(p:ByteArray)(y:Int):iu L p y=some (Ae (tel L 1 p y)).1:=by
 unfold iu;rw[fU (by omega) (fun _=>pw 1 p y) (fun _ x=>x.Value) (fun i x hx=>by
  rw[aF,hx,QY,jW];unfold pw;cases x.Kind==1<;>cases x.Place.toList==p.toList<;>rfl),sV (pw 1 p y) Claim.Value]
 unfold tel;cases L.find? (pw 1 p y)<;>rfl
theorem F0{L:List Claim}(hL:L.length<=1048576)(p:ByteArray)(y:Int):ot L p y=some (Ae (tel L 0 p y)).1:=by
 unfold ot;rw[fU (by omega) (fun _=>pw 0 p y) (fun _ x=>x.Value) (fun i x hx=>by
  rw[aF,hx,QY,jW];unfold pw;cases x.Kind==0<;>cases x.Place.toList==p.toList<;>rfl),sV (pw 0 p y) Claim.Value]
 unfold tel;cases L.find? (pw 0 p y)<;>rfl
theorem yD{L:List Claim}(h: ∀x∈L,cw x=true){k:Int}(hk:k=0\/k=1){p:ByteArray}{y:Int}{v:ByteArray}(hv:tel L k p y=some v):1<=v.size/\v∈L.map Claim.Value:=by
 unfold tel at hv;rw[Q2]at hv;obtain⟨c,hc,rfl⟩:=hv;have hm:=S9 hc;refine⟨?_,Rh.2 ⟨c,hm,rfl⟩⟩;have hk':=Up hc;unfold pw at hk';rw[Q4,beq_iff_eq]at hk';have hcl:=h c hm;unfold cw at hcl;rw[Q4,Q4,Q4]at hcl;have hval:=hcl.2.2.1;unfold H5 at hval;rcases hk with rfl | rfl
 ·rw[hk'.1]at hval;exact FK hval
 ·rw[hk'.1]at hval;simp only[Int.reduceBEq,cond_false,cond_true,Q4]at hval;exact(rR hval.1).1
theorem JD{L:List ByteArray}(hL:L.length<=1000000000)(v:ByteArray):bp L v=some (L.any fun x=>v.toList==x.toList):=by
 unfold bp db;rw[fV (by omega) (fun x=>v.toList==x.toList) (fun i x hx=>by rw[aF,hx];rfl),QY,kO]
def w9:List ByteArray:=[(QZ #[97,116]),(QZ #[110,101,97,114]),(QZ #[111,102]),(QZ #[98,101,116,119,101,101,110]),(QZ #[97,110,100]),(QZ #[109,105,108,101]),(QZ #[109,105,108,101,115]),(QZ #[108,101,97,103,117,101]),(QZ #[108,101,97,103,117,101,115])]
theorem PC(s:ByteArray):l7 s=some ((w9.any fun x=>s.toList==x.toList) || cX.any fun x=>s.toList==x.toList):=by
 unfold l7;have e:bp ([(QZ #[97,116]),(QZ #[110,101,97,114]),(QZ #[111,102]),(QZ #[98,101,116,119,101,101,110]),(QZ #[97,110,100]),(QZ #[109,105,108,101]),(QZ #[109,105,108,101,115]),(QZ #[108,101,97,103,117,101]),(QZ #[108,101,97,103,117,101,115])]:List ByteArray) s=some (w9.any fun x=>s.toList==x.toList):=JD (L:=w9) (by decide) s;rw[e,JD (L:=cX) (by decide) s];cases (w9.any fun x=>s.toList==x.toList)<;>rfl
def jI(s:ByteArray):Bool:=da s&& !((w9.any fun x=>s.toList==x.toList) || cX.any fun x=>s.toList==x.toList)
theorem zg(s:ByteArray)(hs:s.size<=maxLen):lC s=some (jI s):=by
 unfold lC jI;rw[pI s hs,PC];cases da s<;>rfl
theorem Iu(s:ByteArray):eY s=some (iy (fun x:ByteArray=>x.toList==s.toList) cX):=by
 unfold eY;exact fV (L:=cX) (by decide) (fun x:ByteArray=>x.toList==s.toList) (fun i x hx=>by
  have e:fq (i:Int)=some x:=by
   have h:at' cX (i:Int)=some x:=by rw[aF,hx]
   show((at' cX (i:Int)).bind fun x1=>some x1)=some x;rw[h];rfl
  rw[e];rfl)
theorem zT(s:ByteArray)(hs:s.size<=maxLen):kE s=some (jI s):=by
 unfold kE jI;rw[iE s hs,Iu];have hd:decide (iy (fun x:ByteArray=>x.toList==s.toList) cX<0)= !(cX.any fun x=>s.toList==x.toList):=by
  rw[qC];congr 1;congr 1;funext x;exact BEq.comm
 simp only[QY,hd,w9,List.any_cons,List.any_nil,Bool.or_false];generalize (cX.any fun x=>s.toList==x.toList)=g;generalize (s.toList==(QZ #[97,116]).toList)=b1;generalize (s.toList==(QZ #[110,101,97,114]).toList)=b2;generalize (s.toList==(QZ #[111,102]).toList)=b3;generalize (s.toList==(QZ #[98,101,116,119,101,101,110]).toList)=b4;generalize (s.toList==(QZ #[97,110,100]).toList)=b5;generalize (s.toList==(QZ #[109,105,108,101]).toList)=b6;generalize (s.toList==(QZ #[109,105,108,101,115]).toList)=b7;generalize (s.toList==(QZ #[108,101,97,103,117,101]).toList)=b8;generalize (s.toList==(QZ #[108,101,97,103,117,101,115]).toList)=b9;generalize da s=w;cases b1
 ·cases b2
  ·cases b3
   ·cases b4
    ·cases b5
     ·cases b6
      ·cases b7
       ·cases b8
        ·cases b9<;>cases w<;>cases g<;>rfl
        ·cases w<;>rfl
       ·cases w<;>rfl
      ·cases w<;>rfl
     ·cases w<;>rfl
    ·cases w<;>rfl
   ·cases w<;>rfl
  ·cases w<;>rfl
 ·cases w<;>rfl
def jr(p:aH):Bool:=inB p.X (-1000) 1000&&inB p.Y (-1000) 1000
theorem xG(p:aH):iM p=some (jr p):=by
 unfold iM jr;rw[gw,gw];cases inB p.X (-1000) 1000<;>rfl
theorem BR(p:aH):kv p=some (jr p):=by
 unfold kv jr;rw[jW,jW];cases inB p.X (-1000) 1000<;>rfl
def n3(L:List Site)(i:Nat)(x:Site):Bool:= !jI x.Code || (!jr x.At || (decide ((i:Int)>0)&&match L[i - 1]? with
 | some y=> !(Op.bytesLess y.Code.toList x.Code.toList)
 | none=>false))
def nW(L:List Site):Option Bool:=match cn (n3 L) (fun _ _=>false) L 0 with
 | some r=>some r
 | none=>some (decide ((L.length:Int)<=10))
theorem CE{L:List Site}(hL:L.length<=1048576)(h: ∀x∈L,zP x):jo L=nW L:=by
 unfold jo;rw[fU (by omega) (n3 L) (fun _ _=>false) (fun i x hx=>by
  have hi:i<L.length:=(Q1.1 hx).1;have hs:=(h x (Q3 hx)).s0;rw[aF,hx,QY,zg x.Code (by unfold maxLen;omega),xG];unfold n3;by_cases h0:(i:Int)>0
  ·have hy:L[i - 1]? =some (L[i - 1]'(by omega)):=Q0 _;have e:at' L (ao ((i:Int)- 1))=some (L[i - 1]'(by omega)):=by
    rw[aO (by omega) (by omega),show(i:Int)- 1=((i - 1:Nat):Int) by omega,aF,hy]
   rw[decide_eq_true h0,e,hy];cases jI x.Code<;>cases jr x.At<;>rfl
  ·rw[decide_eq_false h0];cases jI x.Code<;>cases jr x.At<;>rfl)]
 unfold nW;cases cn (n3 L) (fun _ _=>false) L 0<;>rfl
theorem Dl{L:List Site}(hL:L.length<=1048576)(h: ∀x∈L,zP x):gX L=nW L:=by
 unfold gX;rw[fU (by omega) (n3 L) (fun _ _=>false) (fun i x hx=>by
  have hi:i<L.length:=(Q1.1 hx).1;have hs:=(h x (Q3 hx)).s0;rw[aF,hx,QY,zT x.Code (by unfold maxLen;omega)];simp only[QY,BR];unfold n3;by_cases h0:(i:Int)>0
  ·have hy:L[i - 1]? =some (L[i - 1]'(by omega)):=Q0 _;have e:at' L (ao ((i:Int)- 1))=some (L[i - 1]'(by omega)):=by
    rw[aO (by omega) (by omega),show(i:Int)- 1=((i - 1:Nat):Int) by omega,aF,hy]
   rw[decide_eq_true h0,e,hy];cases jI x.Code<;>cases jr x.At<;>rfl
  ·rw[decide_eq_false h0];cases jI x.Code<;>cases jr x.At<;>rfl)]
 unfold nW;cases cn (n3 L) (fun _ _=>false) L 0<;>rfl
theorem wQ{c b:UInt8}: ∀{l:List UInt8},b∈l->b=c\/ ∃p∈bo c l,b∈p
 | [],h=>by simp at h
 | x::l,h=>by
  unfold bo;by_cases hx:x=c
  ·rw[if_pos hx];rcases Ra.1 h with h | h
   ·exact .inl (h.trans hx)
   ·rcases wQ h with h2 | ⟨p,hp,hb⟩
    ·exact .inl h2
    ·exact .inr ⟨p,by simp[hp],hb⟩
  ·rw[if_neg hx];cases hs:bo c l with
   | nil=>exact absurd hs (kF c l)
   | cons q r=>
    rcases Ra.1 h with h | h
    ·exact .inr ⟨x::q,by simp,by simp[h]⟩
    ·rcases wQ h with h2 | ⟨p,hp,hb⟩
     ·exact .inl h2
     ·rw[hs]at hp;rcases Ra.1 hp with rfl | hp
      ·exact .inr ⟨x::p,by simp,by simp[hb]⟩
      ·exact .inr ⟨p,by simp[hp],hb⟩
theorem q5{s:ByteArray}(h:da s=true){c:UInt8}(hc:small c=false):c∉s.data.toList:=fun hm=>by
 unfold da at h;rw[Q4]at h;have:=Q7.1 h.2 c hm;rw[hc]at this;cases this
theorem Hq{s:ByteArray}(h:lk s=true){c:UInt8}(hc:small c=false)(h32:c≠32):c∉s.data.toList:=fun hm=>by
 unfold lk at h;rw[Q4]at h;rcases wQ (c:=32) hm with h1 | ⟨p,hp,hb⟩
 ·exact h32 h1
 ·refine q5 (Q7.1 h.2 ⟨p.toArray⟩ (Rh.2 ⟨p,hp,rfl⟩)) hc ?_;simpa using hb
theorem o3{c:UInt8}(h:c≠45)(hd:AT c=false)(v:Int):c∉(cI v).data.toList:=by
 rw[cE];exact qK h hd v
theorem pW{c:UInt8}{L:List ByteArray}(hL:L≠[])(h: ∀x∈L,c∉x.data.toList):aZ (dW L ⟨#[c]⟩) c=L:=by
 unfold aZ;have e:(dW L ⟨#[c]⟩).data.toList=Lib.join (L.map (·.data.toList)) [c]:=mP L ⟨#[c]⟩;rw[e,Dn (by simpa using hL) (fun x hx=>by
  obtain⟨y,hy,rfl⟩:=Rh.1 hx;exact h y hy),List.map_map]
 refine(List.map_congr_left fun x _=> ?_).trans (List.map_id _);rfl
theorem Kr{s sep x y:List UInt8}{b:Bool}(h:Lib.cut s sep=(x,y,b))(hy:y≠[]):s=x++sep++y:=by
 unfold Lib.cut at h;split at h
 ·rename_i h0;injection h with h1 h;injection h with h2 h;rcases Lib.index_spec s sep with⟨h3,_⟩ | ⟨i,h3,h4,h5,_⟩
  ·omega
  ·rw[h3,Rk]at h1 h2;have h6:sep<+:s.drop i:=List.isPrefixOf_iff_prefix.1 h5;obtain⟨t,ht⟩:=h6;have h7:s=s.take i++(sep++t):=by rw[ht,Ub]
   have h8:t=y:=by
    rw[<-h2,<-UD,<-ht,List.drop_left]
   rw[<-h1,<-h8,Ry];exact h7
 ·injection h with h1 h;injection h with h2 h;exact absurd h2.symm hy
theorem dP(s:ByteArray)(hs:s.size<=1048576):bP s=some (gG s):=by
 unfold bP;rw[if_pos (by omega)]
theorem bK{v:Int}(h0: -10000000000000<v)(h1:v<10000000000000):(cI v).size<=14:=by
 rw[uM];exact CJ h0 h1
def o5(p:aH):ByteArray:=dW [cI p.X,cI p.Y] (QZ #[58])
theorem FL{p:aH}(h:jr p=true):(-1000<=p.X/\p.X<=1000)/\ -1000<=p.Y/\p.Y<=1000:=by
 unfold jr at h;rw[Q4,ic,ic]at h;exact h
theorem AE(p:aH):(o5 p).data.toList=itoa p.X++[58]++itoa p.Y:=by
 unfold o5;rw[e8,gq,dA,dA,cE,cE]
theorem pV{p:aH}(h:jr p=true):kB p=some (o5 p):=by
 have h1:=FL h;have z1:=bK (v:=p.X) (by omega) (by omega);have z2:=bK (v:=p.Y) (by omega) (by omega);have z3:(QZ #[58]).size=1:=rfl;unfold kB o5;rw[nM (by omega) (by omega),QY,cg (by omega),QY,nM (by omega) (by omega),QY,cg (by rw[Q9];omega),e8,gq];rfl
theorem DQ{s:ByteArray}{p:aH}(h:jr p=true)(hs:s=o5 p)(hz:s.size<=1048576):dM s=some (p,0):=by
 have h1:=FL h;have hcut:Lib.cut s.data.toList [58]=(itoa p.X,itoa p.Y,true):=by
  rw[hs,AE];exact LW _ (qK (by decide) (by decide) _)
 have hC:=qv s (QZ #[58]);have e1:(sj s (QZ #[58])).1.data.toList=itoa p.X:=by
  show((Lib.cut s.data.toList [58]).1.toArray).toList=_;rw[hcut]
 have e2:(sj s (QZ #[58])).2.1.data.toList=itoa p.Y:=by
  show((Lib.cut s.data.toList [58]).2.1.toArray).toList=_;rw[hcut]
 unfold dM jS strings_Cut;rw[decide_eq_true (by omega),cond_true,QY,dP _ (by omega),QY,dP _ (by omega),QY,kq e1 (by omega) (by omega),kq e2 (by omega) (by omega)];simp only[cond_true,xG,QY];have:jr ⟨p.X,p.Y⟩=true:=h;rw[this];rfl
theorem Ef{s:ByteArray}{p:aH}(h:jr p=true)(hs:s=o5 p)(hz:s.size<=1048576):dT s=some (p,0):=by
 have h1:=FL h;have hw:aZ s 58=[cI p.X,cI p.Y]:=by
  rw[hs];exact pW (by simp) (by
   intro x hx;simp only[Ra,Sg,or_false]at hx;rcases hx with rfl | rfl
   ·exact o3 (by decide) (by decide) _
   ·exact o3 (by decide) (by decide) _)
 have a0:at' [cI p.X,cI p.Y] 0=some (cI p.X):=rfl;have a1:at' [cI p.X,cI p.Y] 1=some (cI p.Y):=rfl;have z1:=bK (v:=p.X) (by omega) (by omega);have z2:=bK (v:=p.Y) (by omega) (by omega);have hsp:bG s 58=some (aZ s 58):=dj s 58 (by omega);have hp:(aH.mk p.X p.Y)=p:=rfl;unfold dT;rw[hsp,hw,QY];simp only[Rc,Sw,a0,a1,QY,pP (s:=cI p.X) (by omega) (cE _) (show -10000000000000<p.X by omega) (by omega),pP (s:=cI p.Y) (by omega) (cE _) (show -10000000000000<p.Y by omega) (by omega),hp,BR,h,pV h,<-hs];simp
theorem A7(s:ByteArray)(hz:s.size<=1048576):dM s=some (⟨0,0⟩,6)\/ ∃p,dM s=some (p,0)/\jr p=true/\s=o5 p:=by
 have hC:=qv s (QZ #[58]);unfold dM jS strings_Cut;rw[decide_eq_true (by omega),cond_true,QY,dP _ (by omega),QY,dP _ (by omega),QY];cases h1:(gG (sj s (QZ #[58])).1).2
 ·exact .inl rfl
 ·cases h2:(gG (sj s (QZ #[58])).2.1).2
  ·exact .inl rfl
  ·simp only[cond_true,xG,QY];cases h3:jr ⟨(gG (sj s (QZ #[58])).1).1,(gG (sj s (QZ #[58])).2.1).1⟩
   ·exact .inl rfl
   ·refine .inr ⟨_,rfl,h3,lP ?_⟩;have e1:=oG h1;have e2:=oG h2;have e3:(Lib.cut s.data.toList [58]).1=itoa (gG (sj s (QZ #[58])).1).1:=by
     rw[e1];show _=((Lib.cut s.data.toList [58]).1.toArray).toList;simp
    have e4:(Lib.cut s.data.toList [58]).2.1=itoa (gG (sj s (QZ #[58])).2.1).1:=by
     rw[e2];show _=((Lib.cut s.data.toList [58]).2.1.toArray).toList;simp
    have:=Kr (s:=s.data.toList) (sep:=[58]) (x:=(Lib.cut s.data.toList [58]).1) (y:=(Lib.cut s.data.toList [58]).2.1) (b:=(Lib.cut s.data.toList [58]).2.2) rfl (by rw[e4];exact FB _);rw[AE,<-e3,<-e4];exact this
theorem Np{α:Type}{L:List α}(h:L.length=2): ∃a b,L=[a,b]:=by
 match L,h with
 | [a,b],_=>exact⟨a,b,rfl⟩
theorem Bx(s:ByteArray)(hz:s.size<=1048576):dT s=some (⟨0,0⟩,6)\/ ∃p,dT s=some (p,0)/\jr p=true/\s=o5 p:=by
 have hsp:bG s 58=some (aZ s 58):=dj s 58 (by omega);have hws: ∀x∈aZ s 58,x.size<=s.size:=fun x hx=>eR hx;unfold dT;rw[hsp,QY];generalize aZ s 58=W at hws;by_cases hl:W.length=2
 ·obtain⟨a,b,rfl⟩:=Np hl;have ha:=hws a (by simp);have hb:=hws b (by simp);obtain⟨x,f,x1,_,_⟩:=oI a (by omega);obtain⟨y,g,y1,_,_⟩:=oI b (by omega);have a0:at' [a,b] 0=some a:=rfl;have a1:at' [a,b] 1=some b:=rfl;simp only[Rc,Sw,a0,a1,QY,x1,y1,BR];cases f
  ·exact .inl (by simp)
  ·cases g
   ·exact .inl (by simp)
   ·cases h3:jr ⟨x,y⟩
    ·exact .inl (by simp)
    ·rw[pV h3];cases h4:((o5 ⟨x,y⟩).toList==s.toList)
     ·exact .inl (by simp[h4])
     ·refine .inr ⟨⟨x,y⟩,by simp[h4],h3,(fO.1 h4).symm⟩
 ·have:((W.length:Int) !=2)=true:=by
   rw[bne_iff_ne];omega
  rw[this];exact .inl rfl
theorem xY(s:ByteArray)(hz:s.size<=1048576): ∃p e,dM s=some (p,e)/\dT s=some (p,e)/\(e=6\/e=0/\jr p=true):=by
 rcases A7 s hz with h | ⟨p,h1,h2,h3⟩
 ·rcases Bx s hz with k | ⟨p,k1,k2,k3⟩
  ·exact⟨_,_,h,k,.inl rfl⟩
  ·rw[DQ k2 k3 hz]at h;cases h
 ·exact⟨p,0,h1,Ef h2 h3 hz,.inr ⟨rfl,h2⟩⟩
def iD(s:Span):ByteArray:=cI s.From++QZ #[46,46]++cI s.To
theorem tN{s:Span}(h:n5 s=true):(-3000<=s.From/\s.From<=3000)/\ -3000<=s.To/\s.To<=3000:=by
 unfold n5 at h;rw[Q4,Q4,ic,ic]at h;exact⟨h.1,h.2.1⟩
theorem wL(s:Span):(iD s).data.toList=itoa s.From++[46,46]++itoa s.To:=by
 unfold iD;rw[dA,dA,cE,cE]
theorem rE{s:Span}(h:n5 s=true):(iD s).size<=30:=by
 have h1:=tN h;have z1:=bK (v:=s.From) (by omega) (by omega);have z2:=bK (v:=s.To) (by omega) (by omega);have z3:(QZ #[46,46]).size=2:=rfl;unfold iD;rw[Q9,Q9];omega
theorem IG{s:Span}(h:n5 s=true):mX s=some (iD s):=by
 have h1:=tN h;have z1:=bK (v:=s.From) (by omega) (by omega);have z2:=bK (v:=s.To) (by omega) (by omega);have z3:(QZ #[46,46]).size=2:=rfl;unfold mX iD;rw[kR _ (by omega) (by omega),QY,cg (by omega),QY,kR _ (by omega) (by omega),QY,cg (by rw[Q9];omega)];rfl
theorem wO{s:Span}(h:n5 s=true):iT s=some (iD s):=by
 have h1:=tN h;have z1:=bK (v:=s.From) (by omega) (by omega);have z2:=bK (v:=s.To) (by omega) (by omega);have z3:(QZ #[46,46]).size=2:=rfl;unfold iT iD;rw[nM (by omega) (by omega),QY,cg (by omega),QY,nM (by omega) (by omega),QY,cg (by rw[Q9];omega)];rfl
theorem DR(s:ByteArray)(hz:s.size<=1048576): ∃sp b,gR s=some (sp,b):=by
 have hC:=qv s (QZ #[46,46]);unfold gR strings_Cut;rw[decide_eq_true (by omega),cond_true,QY,dP _ (by omega),QY,dP _ (by omega),QY];cases (gG (sj s (QZ #[46,46])).1).2
 ·exact⟨_,_,rfl⟩
 ·cases (gG (sj s (QZ #[46,46])).2.1).2
  ·exact⟨_,_,rfl⟩
  ·rw[th];exact⟨_,_,rfl⟩
theorem Fy{s:Span}(h:n5 s=true):gR (iD s)=some (s,true):=by
 have h1:=tN h;have hz:=rE h;have hcut:Lib.cut (iD s).data.toList [46,46]=(itoa s.From,itoa s.To,true):=by
  rw[wL];exact LW _ (qK (by decide) (by decide) _)
 have e1:(sj (iD s) (QZ #[46,46])).1.data.toList=itoa s.From:=by
  show((Lib.cut (iD s).data.toList [46,46]).1.toArray).toList=_;rw[hcut]
 have e2:(sj (iD s) (QZ #[46,46])).2.1.data.toList=itoa s.To:=by
  show((Lib.cut (iD s).data.toList [46,46]).2.1.toArray).toList=_;rw[hcut]
 have hC:=qv (iD s) (QZ #[46,46]);have hs:(Span.mk s.From s.To)=s:=rfl;unfold gR strings_Cut;rw[decide_eq_true (by omega),cond_true,QY,dP _ (by omega),QY,dP _ (by omega),QY,kq e1 (by omega) (by omega),kq e2 (by omega) (by omega)];simp only[cond_true,hs,th,h,QY]
theorem Eg(s:ByteArray)(hz:s.size<=1048576): ∃sp e,gY s=some (sp,e):=by
 have hsp:bG s 46=some (aZ s 46):=dj s 46 (by omega);have hws: ∀x∈aZ s 46,x.size<=s.size:=fun x hx=>eR hx;unfold gY;rw[hsp,QY];generalize aZ s 46=W at hws;by_cases hl:W.length=3
 ·match W,hl with
  | [a,b,c],_=>
   have ha:=hws a (by simp);have hc:=hws c (by simp);obtain⟨x,f,x1,_,_⟩:=oI a (by omega);obtain⟨y,g,y1,_,_⟩:=oI c (by omega);have a0:at' [a,b,c] 0=some a:=rfl;have a1:at' [a,b,c] 1=some b:=rfl;have a2:at' [a,b,c] 2=some c:=rfl;have hn:((([a,b,c]:List ByteArray).length:Int) !=3)=false:=rfl;simp only[hn,cond_false,a0,a1,a2,QY,x1,y1,tR];cases (b.toList==(QZ #[]).toList)
   ·exact⟨_,_,rfl⟩
   ·cases f
    ·exact⟨_,_,rfl⟩
    ·cases g
     ·exact⟨_,_,rfl⟩
     ·cases h3:n5 ⟨x,y⟩
      ·exact⟨_,_,rfl⟩
      ·simp only[wO h3,Rs,cond_false,QY];cases ((iD ⟨x,y⟩).toList==s.toList)
       ·exact⟨_,_,rfl⟩
       ·exact⟨_,_,rfl⟩
 ·have:((W.length:Int) !=3)=true:=by
   rw[bne_iff_ne];omega
  rw[this];exact⟨_,_,rfl⟩
theorem F1{s:Span}(h:n5 s=true):gY (iD s)=some (s,0):=by
 have h1:=tN h;have hz:=rE h;have z1:=bK (v:=s.From) (by omega) (by omega);have z2:=bK (v:=s.To) (by omega) (by omega);have hw:aZ (iD s) 46=[cI s.From,QZ #[],cI s.To]:=by
  have e:iD s=dW [cI s.From,QZ #[],cI s.To] (QZ #[46]):=lP (by
   rw[wL,e8,e8,gq,dA,dA,dA,dA,cE,cE];simp)
  rw[e];refine pW (by simp) fun x hx=> ?_;simp only[Ra,Sg,or_false]at hx;rcases hx with rfl | rfl | rfl
  ·exact o3 (by decide) (by decide) _
  ·simp
  ·exact o3 (by decide) (by decide) _
 have a0:at' [cI s.From,QZ #[],cI s.To] 0=some (cI s.From):=rfl;have a1:at' [cI s.From,QZ #[],cI s.To] 1=some (QZ #[]):=rfl;have a2:at' [cI s.From,QZ #[],cI s.To] 2=some (cI s.To):=rfl;have hn:((([cI s.From,QZ #[],cI s.To]:List ByteArray).length:Int) !=3)=false:=rfl;have hsp:bG (iD s) 46=some (aZ (iD s) 46):=dj _ 46 (by omega);have hs:(Span.mk s.From s.To)=s:=rfl;unfold gY;rw[hsp,hw,QY];simp only[hn,cond_false,a0,a1,a2,QY,beq_self_eq_true,Rs,pP (s:=cI s.From) (by omega) (cE _) (show -10000000000000<s.From by omega) (by omega),pP (s:=cI s.To) (by omega) (cE _) (show -10000000000000<s.To by omega) (by omega),hs,tR,h,wO h]
def Ci(v:ByteArray):ByteArray:=bif v.toList==(QZ #[]).toList then QZ #[46]else v
def mc(c:Claim):List ByteArray:=[c.Source,cI c.Kind,c.Place,Ci c.Value,iD c.Years,cI c.Weight]
def pq(c:Claim):ByteArray:=dW (mc c) (QZ #[47])
theorem Cj(v:ByteArray):rl v=some (Ci v):=by
 unfold rl Ci;cases v.toList==(QZ #[]).toList<;>rfl
theorem Ck(v:ByteArray):(Ci v).size<=v.size+1:=by
 unfold Ci;cases v.toList==(QZ #[]).toList
 ·exact Nat.le_succ _
 ·show 1<=_;omega
structure NA (c:Claim):Prop where
 s:da c.Source=true
 p:da c.Place=true
 v:H5 c=true
 y:n5 c.Years=true
 w:1<=c.Weight/\c.Weight<=100
 k:0<=c.Kind/\c.Kind<=3
 f: ∀b∈c.Value.data.toList,small b=true\/b=32
theorem nj{c:Claim}(h:cw c=true):NA c:=by
 unfold cw at h;rw[Q4,Q4,Q4,Q4,ic]at h;obtain⟨h1,h2,h3,h4,h5⟩:=h;have hv:=h3;unfold H5 at hv;have hnil:(c.Value.toList==(QZ #[]).toList)=true-> ∀b∈c.Value.data.toList,small b=true\/b=32:=fun h b hb=>by
  rw[fO.1 h]at hb;simp at hb
 have hw:da c.Value=true-> ∀b∈c.Value.data.toList,small b=true\/b=32:=fun h b hb=>by
  unfold da at h;rw[Q4]at h;exact .inl (Q7.1 h.2 b hb)
 have hp:lk c.Value=true-> ∀b∈c.Value.data.toList,small b=true\/b=32:=fun h b hb=>by
  cases hs:small b
  ·by_cases h32:b=32
   ·exact .inr h32
   ·exact absurd hb (Hq h hs h32)
  ·exact .inl rfl
 by_cases k0:c.Kind=0
 ·rw[k0]at hv;exact⟨h1,h2,h3,h4,h5,by omega,hp hv⟩
 ·rw[beq_eq_false_iff_ne.2 k0,cond_false]at hv;by_cases k1:c.Kind=1
  ·rw[k1]at hv;have hv:(da c.Value&& !(c.Value.toList==c.Place.toList))=true:=hv;rw[Q4]at hv;exact⟨h1,h2,h3,h4,h5,by omega,hw hv.1⟩
  ·rw[beq_eq_false_iff_ne.2 k1,cond_false]at hv;by_cases k2:c.Kind=2
   ·rw[k2]at hv;exact⟨h1,h2,h3,h4,h5,by omega,hnil hv⟩
   ·rw[beq_eq_false_iff_ne.2 k2,cond_false]at hv;by_cases k3:c.Kind=3
    ·rw[k3]at hv;exact⟨h1,h2,h3,h4,h5,by omega,hnil hv⟩
    ·rw[beq_eq_false_iff_ne.2 k3,cond_false]at hv;cases hv
theorem Hp{c:Claim}(h:cw c=true)(hs:de c): ∀x∈mc c,x.size<=1048577:=by
 have hi:=nj h;have z1:=bK (v:=c.Kind) (by have:=hi.k;omega) (by have:=hi.k;omega);have z2:=bK (v:=c.Weight) (by have:=hi.w;omega) (by have:=hi.w;omega);have z3:=Ck c.Value;have z4:=rE hi.y;have h1:=hs.s0;have h2:=hs.s2;have h3:=hs.s3;intro x hx;unfold mc at hx;simp only[Ra,Sg,or_false]at hx;rcases hx with rfl | rfl | rfl | rfl | rfl | rfl<;>omega
theorem Au{c:Claim}(h:cw c=true)(hs:de c):lY c=some (pq c):=by
 have hi:=nj h;have h1:=hi.k;have h2:=hi.w;have hz:=ly (QZ #[47]) (mc c) (Hp h hs);have hl:(mc c).length=6:=rfl;have h1':(QZ #[47]).size=1:=rfl;rw[hl,h1']at hz;unfold lY;rw[kR _ (by omega) (by omega),QY,Cj,QY,IG hi.y,QY,kR _ (by omega) (by omega),QY];have:strings_Join (mc c) (QZ #[47])=some (pq c):=by
  unfold strings_Join;rw[if_pos ⟨by omega,by omega⟩];rfl
 exact congrArg (fun o:Option ByteArray=>o.bind fun x5=>some x5) this
theorem AK{c:Claim}(h:cw c=true)(hs:de c):iU c=some (pq c):=by
 have hi:=nj h;have h1:=hi.k;have h2:=hi.w;have z1:=bK (v:=c.Kind) (by omega) (by omega);have z2:=bK (v:=c.Weight) (by omega) (by omega);have z3:=Ck c.Value;have z4:=rE hi.y;have s1:=hs.s0;have s2:=hs.s2;have s3:=hs.s3;have z5:(QZ #[47]).size=1:=rfl;have hd:oo c.Value=some (Ci c.Value):=Cj c.Value;unfold iU;rw[cg (by omega),QY,im (by omega) (by omega),QY,cg (by simp only[Q9];omega),QY,cg (by simp only[Q9];omega),QY,cg (by simp only[Q9];omega),QY,cg (by simp only[Q9];omega),QY,hd,QY,cg (by simp only[Q9];omega),QY,cg (by simp only[Q9];omega),QY,wO hi.y,QY,cg (by simp only[Q9];omega),QY,cg (by simp only[Q9];omega),QY,im (by omega) (by omega),QY,cg (by simp only[Q9];omega),QY];congr 1;refine lP ?_;unfold pq mc;simp only[e8,gq,dA,Ry]
theorem Ak{c:Claim}(h:cw c=true):aZ (pq c) 47=mc c:=by
 have hi:=nj h;have hsm:small 47=false:=by decide
 refine pW (by unfold mc;simp) fun x hx=> ?_;unfold mc at hx;simp only[Ra,Sg,or_false]at hx;rcases hx with rfl | rfl | rfl | rfl | rfl | rfl
 ·exact q5 hi.s hsm
 ·exact o3 (by decide) (by decide) _
 ·exact q5 hi.p hsm
 ·unfold Ci;cases c.Value.toList==(QZ #[]).toList
  ·intro hm;rcases hi.f _ hm with h | h
   ·rw[hsm]at h;cases h
   ·cases h
  ·show ¬(47:UInt8)∈(QZ #[46]).data.toList;decide
 ·rw[wL];have h1:=qK (c:=47) (by decide) (by decide) c.Years.From;have h2:=qK (c:=47) (by decide) (by decide) c.Years.To;simp[h1,h2]
 ·exact o3 (by decide) (by decide) _
theorem GN{c:Claim}(h:cw c=true):kl (Ci c.Value)=some c.Value:=by
 have hi:=nj h;unfold kl Ci;cases hn:(c.Value.toList==(QZ #[]).toList)
 ·have:(c.Value.toList==(QZ #[46]).toList)=false:=Rv.2 fun e=>by
   have e2:=fO.1 e;rcases hi.f 46 (by rw[e2];simp)with h | h
   ·revert h;decide
   ·cases h
  rw[cond_false,this,cond_false]
 ·rw[cond_true,fO.2 rfl,cond_true,fO.1 hn]
theorem six{α:Type}{L:List α}(h:L.length=6): ∃a b c d e f,L=[a,b,c,d,e,f]:=by
 match L,h with
 | [a,b,c,d,e,f],_=>exact⟨a,b,c,d,e,f,rfl⟩
section
variable {a b c d e f : ByteArray}
theorem x0:at' [a,b,c,d,e,f] 0=some a:=rfl
theorem x1':at' [a,b,c,d,e,f] 1=some b:=rfl
theorem x2':at' [a,b,c,d,e,f] 2=some c:=rfl
theorem x3':at' [a,b,c,d,e,f] 3=some d:=rfl
theorem x4':at' [a,b,c,d,e,f] 4=some e:=rfl
theorem x5':at' [a,b,c,d,e,f] 5=some f:=rfl
theorem xl:((([a,b,c,d,e,f]:List ByteArray).length:Int) !=6)=false:=rfl
end
abbrev JW:Claim:=Claim.mk (QZ #[]) 0 (QZ #[]) (QZ #[]) (Span.mk 0 0) 0
theorem DL{c:Claim}(h:cw c=true)(hs:de c)(hz:(pq c).size<=1048576):dL (pq c)=some (c,0):=by
 have hi:=nj h;have hk:=hi.k;have hw:=hi.w;have z1:=bK (v:=c.Kind) (by omega) (by omega);have z2:=bK (v:=c.Weight) (by omega) (by omega);have hsp:strings_Split (pq c) (QZ #[47])=some (mc c):=by
  rw[<-Ak h];unfold strings_Split;have h0:(QZ #[47]).data.toList=[47]:=rfl;rw[h0];dsimp only;rw[decide_eq_true (by omega),cond_true]
 have hc:(Claim.mk c.Source c.Kind c.Place c.Value c.Years c.Weight)=c:=rfl;unfold dL;rw[hsp,QY];unfold mc;simp only[xl,cond_false,x0,x1',x2',x3',x4',x5',QY,dP (cI c.Kind) (by omega),dP (cI c.Weight) (by omega),kq (cE c.Kind) (by omega) (by omega),kq (cE c.Weight) (by omega) (by omega),Fy hi.y,GN h,hc,rj c hs,h,Au h hs,beq_self_eq_true,Rs]
theorem D3{c:Claim}(h:cw c=true)(hs:de c)(hz:(pq c).size<=1048576):dS (pq c)=some (c,0):=by
 have hi:=nj h;have hk:=hi.k;have hw:=hi.w;have hsp:bG (pq c) 47=some (mc c):=by
  rw[<-Ak h];exact dj _ 47 (by omega)
 have hd:ml (Ci c.Value)=some c.Value:=GN h;have hc:(Claim.mk c.Source c.Kind c.Place c.Value c.Years c.Weight)=c:=rfl;unfold dS;rw[hsp,QY];unfold mc;simp only[xl,cond_false,x0,x1',x2',x3',x4',x5',QY,wT (cE c.Kind) (by omega) (by omega),wT (cE c.Weight) (by omega) (by omega),F1 hi.y,hd,hc,rK c hs,h,AK h hs,beq_self_eq_true,Rs,bne_self_eq_false]
theorem A3(s:ByteArray)(hz:s.size<=1048576):dL s=some (JW,6)\/ ∃c,dL s=some (c,0)/\cw c=true/\de c/\s=pq c:=by
 have hsp:strings_Split s (QZ #[47])=some (aZ s 47):=by
  unfold strings_Split;have h0:(QZ #[47]).data.toList=[47]:=rfl;rw[h0];dsimp only;rw[decide_eq_true (by omega),cond_true]
 have hws: ∀x∈aZ s 47,x.size<=1048576:=fun x hx=>R7 (eR hx) hz;unfold dL;rw[hsp,QY];generalize aZ s 47=W at hws;by_cases hl:W.length=6
 ·obtain⟨a,b,c,d,e,f,rfl⟩:=six hl;have ha:=hws a (by simp);have hb:=hws b (by simp);have hc:=hws c (by simp);have hd:=hws d (by simp);have hf:=hws f (by simp);obtain⟨sp,g,g1⟩:=DR e (hws e (by simp));obtain⟨v,v1,v2⟩: ∃v,kl d=some v/\v.size<=1048576:=by
   unfold kl;cases d.toList==(QZ #[46]).toList
   ·exact⟨_,rfl,hd⟩
   ·exact⟨_,rfl,by show 0<=_;omega⟩
  simp only[xl,cond_false,x0,x1',x2',x3',x4',x5',QY,dP b hb,dP f hf,g1,v1];have hsm:de (Claim.mk a (gG b).1 c v sp (gG f).1):=⟨ha,hc,v2⟩;rw[rj _ hsm];cases h3:cw (Claim.mk a (gG b).1 c v sp (gG f).1)
  ·exact .inl rfl
  ·simp only[Au h3 hsm,QY,Rs,cond_false];cases h4:((pq (Claim.mk a (gG b).1 c v sp (gG f).1)).toList==s.toList)
   ·exact .inl rfl
   ·exact .inr ⟨_,rfl,h3,hsm,(fO.1 h4).symm⟩
 ·have:((W.length:Int) !=6)=true:=by
   rw[bne_iff_ne];omega
  rw[this];exact .inl rfl
theorem Bm(s:ByteArray)(hz:s.size<=1048576):dS s=some (JW,6)\/ ∃c,dS s=some (c,0)/\cw c=true/\de c/\s=pq c:=by
 have hsp:bG s 47=some (aZ s 47):=dj s 47 (by omega);have hws: ∀x∈aZ s 47,x.size<=1048576:=fun x hx=>R7 (eR hx) hz;unfold dS;rw[hsp,QY];generalize aZ s 47=W at hws;by_cases hl:W.length=6
 ·obtain⟨a,b,c,d,e,f,rfl⟩:=six hl;have ha:=hws a (by simp);have hc:=hws c (by simp);have hd:=hws d (by simp);obtain⟨sp,g,g1⟩:=Eg e (hws e (by simp));obtain⟨k,kb,k1,_⟩:=jl b;obtain⟨w,wb,w1,_⟩:=jl f;obtain⟨v,v1,v2⟩: ∃v,ml d=some v/\v.size<=1048576:=by
   unfold ml;cases d.toList==(QZ #[46]).toList
   ·exact⟨_,rfl,hd⟩
   ·exact⟨_,rfl,by show 0<=_;omega⟩
  simp only[xl,cond_false,x0,x1',x2',x3',x4',x5',QY,k1,w1,g1,v1];have hsm:de (Claim.mk a k c v sp w):=⟨ha,hc,v2⟩;rw[rK _ hsm];cases kb
  ·exact .inl rfl
  cases wb
  ·exact .inl rfl
  cases (g !=0)
  ·cases h3:cw (Claim.mk a k c v sp w)
   ·exact .inl rfl
   ·simp only[AK h3 hsm,QY,Rs,cond_false];cases h4:((pq (Claim.mk a k c v sp w)).toList==s.toList)
    ·exact .inl rfl
    ·exact .inr ⟨_,rfl,h3,hsm,(fO.1 h4).symm⟩
  ·exact .inl rfl
 ·have:((W.length:Int) !=6)=true:=by
   rw[bne_iff_ne];omega
  rw[this];exact .inl rfl
theorem FM(s:ByteArray)(hz:s.size<=1048576): ∃c e,dL s=some (c,e)/\dS s=some (c,e)/\(e=6\/e=0/\cw c=true/\de c):=by
 rcases A3 s hz with h | ⟨c,h1,h2,h3,h4⟩
 ·rcases Bm s hz with k | ⟨c,k1,k2,k3,k4⟩
  ·exact⟨_,_,h,k,.inl rfl⟩
  ·rw[k4,DL k2 k3 (k4▸hz)]at h;cases h
 ·refine⟨c,0,h1,?_,.inr ⟨rfl,h2,h3⟩⟩;rw[h4];exact D3 h2 h3 (h4▸hz)
section
variable {S A : Type}
theorem Cs{n:Nat}(hn:n<=1000000000){B:Int->S->Option S}{D:S->A}(R:Nat->S)(hB: ∀i:Nat,i<n->B (i:Int) (R i)=some (R (i+1))):cN (n:Int) B D 0 (R 0)=some (D (R n)):=by
 have key: ∀(m i:Nat),i+m=n->cN (n:Int) B D (i:Int) (R i)=some (D (R n)):=by
  intro m
  induction m with
  | zero=>
   intro i h;unfold cN;rw[bR];simp only[decide_eq_false (show ¬(i:Int)<n by omega),cond_false];rw[show i=n by omega]
  | succ m ih=>
   intro i h;unfold cN;rw[bR];simp only[decide_eq_true (show(i:Int)<n by omega),cond_true,hB i (by omega),QY,aO (show -9223372036854775808<=(i:Int)+1 by omega) (by omega)];have:=ih (i+1) (by omega);unfold cN at this;simpa using this
 simpa using key n 0 (by omega)
theorem Cr{n i0:Nat}(hn:n<=1000000000)(h0:i0<=n+1){B:Int->S->Option S}{D:S->A}(R:Nat->S)(hB: ∀i:Nat,i0<=i->i<=n->B (i:Int) (R i)=some (R (i+1))):oT (fun(i:Int) (_:S)=>decide (i<=(n:Int))) B D (i0:Int) (R i0)=some (D (R (n+1))):=by
 have key: ∀(m i:Nat),i0<=i->i+m=n+1->oT (fun(i:Int) (_:S)=>decide (i<=(n:Int))) B D (i:Int) (R i)=some (D (R (n+1))):=by
  intro m
  induction m with
  | zero=>
   intro i _ h;unfold oT;rw[bR];simp only[decide_eq_false (show ¬(i:Int)<=n by omega),cond_false];rw[show i=n+1 by omega]
  | succ m ih=>
   intro i hi h;unfold oT;rw[bR];simp only[decide_eq_true (show(i:Int)<=n by omega),cond_true,hB i hi (by omega),QY,aO (show -9223372036854775808<=(i:Int)+1 by omega) (by omega)];have:=ih (i+1) (by omega) (by omega);unfold oT at this;simpa using this
 exact key (n+1 - i0) i0 (Re _) (by omega)
end
def lev:List UInt8->List UInt8->Nat
 | [],ys=>ys.length
 | x::xs,[]=>xs.length+1
 | x::xs,y::ys=>min (min (lev xs ys+(if x=y then 0 else 1)) (lev xs (y::ys)+1)) (lev (x::xs) ys+1)
termination_by xs ys=>xs.length+ys.length
theorem JT(xs:List UInt8):lev xs []=xs.length:=by
 cases xs<;>simp[lev]
theorem Ha(x y:UInt8)(xs ys:List UInt8):lev (x::xs) (y::ys)=min (min (lev xs ys+(if x=y then 0 else 1)) (lev xs (y::ys)+1)) (lev (x::xs) ys+1):=by
 rw[lev]
theorem Mn: ∀(n:Nat) (xs ys:List UInt8),xs.length+ys.length<=n->lev xs ys<=xs.length+ys.length
 | n,[],ys,_=>by simp[lev]
 | n,x::xs,[],_=>by rw[JT];simp
 | 0,x::xs,y::ys,h=>by simp at h
 | n+1,x::xs,y::ys,h=>by
  simp only[Rc]at h;have:=Mn n (x::xs) ys (by simp;omega);rw[Ha];simp only[Rc]at this⊢;omega
def ju(A B:List UInt8)(i k:Nat):Nat:=lev (A.take i).reverse (B.take k).reverse
theorem Py(A B:List UInt8){k:Nat}(h:k<=B.length):ju A B 0 k=k:=by
 unfold ju;simp[lev,TR h]
theorem JS(A B:List UInt8){i:Nat}(h:i<=A.length):ju A B i 0=i:=by
 unfold ju;rw[List.take_zero,List.reverse_nil,JT];simp[TR h]
theorem HV{A:List UInt8}{i:Nat}{x:UInt8}(h:A[i]? =some x):(A.take (i+1)).reverse=x::(A.take i).reverse:=by
 obtain⟨hi,rfl⟩:=Q1.1 h;rw[List.take_succ_eq_append_getElem hi,List.reverse_append];rfl
theorem KI{A B:List UInt8}{i k:Nat}{x y:UInt8}(hx:A[i]? =some x)(hy:B[k]? =some y):ju A B (i+1) (k+1)=min (min (ju A B i k+(if x=y then 0 else 1)) (ju A B i (k+1)+1)) (ju A B (i+1) k+1):=by
 unfold ju;rw[HV hx,HV hy,Ha]
theorem BH(A B:List UInt8)(i k:Nat):ju A B i k<=A.length+B.length:=by
 unfold ju;have:=Mn _ (A.take i).reverse (B.take k).reverse (Re _);simp only[List.length_reverse,Rt]at this;omega
def rowP(A B:List UInt8)(i k:Nat):List Int:=(Rx k).map fun j=>(ju A B i j:Int)
theorem HC(A B:List UInt8)(i k:Nat):(rowP A B i k).length=k:=by simp[rowP]
theorem pN{A B:List UInt8}{i k j:Nat}(h:j<k):(rowP A B i k)[j]? =some (ju A B i j:Int):=by
 unfold rowP;rw[List.getElem?_map,List.getElem?_range h];rfl
theorem ER(A B:List UInt8)(i k:Nat):rowP A B i k++[(ju A B i k:Int)]=rowP A B i (k+1):=by
 unfold rowP;rw[Uq,SI];rfl
theorem Hj(a b:Nat):sC (a:Int) (b:Int)=((min a b:Nat):Int):=by
 unfold sC;split<;>omega
theorem entry{A B:List UInt8}(hA:A.length+B.length<=2097152){i k:Nat}{x y:UInt8}(hx:A[i]? =some x)(hy:B[k]? =some y):
  sC (sC (bif(x.toNat:Int) !=(y.toNat:Int)then ao ((ju A B i k:Int)+1)else(ju A B i k:Int)) (ao ((ju A B i (k+1):Int)+1))) (ao ((ju A B (i+1) k:Int)+1))=(ju A B (i+1) (k+1):Int):=by
 have h1:=BH A B i k;have h2:=BH A B i (k+1);have h3:=BH A B (i+1) k;rw[aO (by omega) (by omega),aO (by omega) (by omega),aO (by omega) (by omega),KI hx hy];have e:(bif(x.toNat:Int) !=(y.toNat:Int)then((ju A B i k:Int)+1)else(ju A B i k:Int))=((ju A B i k+(if x=y then 0 else 1):Nat):Int):=by
  by_cases h:x=y
  ·subst h;simp
  ·rw[if_neg h];have:((x.toNat:Int) !=(y.toNat:Int))=true:=by
    rw[bne_iff_ne];intro e;exact h (TE.1 (by omega))
   rw[this];rfl
 rw[e,show((ju A B i (k+1):Int)+1)=((ju A B i (k+1)+1:Nat):Int) by omega,show((ju A B (i+1) k:Int)+1)=((ju A B (i+1) k+1:Nat):Int) by omega,Hj,Hj]
theorem Qj(A B:List UInt8):rowP A B 0 (B.length+1)=(Rx (B.length+1)).map fun j:Nat=>(j:Int):=by
 unfold rowP;refine List.map_congr_left fun j hj=> ?_;have:=RD.1 hj;rw[Py A B (by omega)]
theorem KA(a b:ByteArray)(ha:a.size<=1000000)(hb:b.size<=1000000):eW a b=some (ju a.data.toList b.data.toList a.size b.size:Int):=by
 have sa:=ik a;have sb:=ik b;unfold eW;rw[show ao ((b.size:Int)+1)=((b.size+1:Nat):Int) by rw[aO (by omega) (by omega)];omega,BK 0 (by omega),QY,List.length_replicate];generalize hA:a.data.toList=A at*;generalize hB:b.data.toList=B at*;have e0:cN ((b.size+1:Nat):Int) (fun(i4:Int) (s4:(List Int))=>((at' s4 i4).bind fun _=>some (Sd s4 (Rl i4) i4))) (fun(s4:(List Int))=>s4) 0 (Sm (b.size+1) (0:Int))=some (rowP A B 0 (b.size+1)):=by
  have:=Cs (n:=b.size+1) (by omega) (B:=fun(i4:Int) (s4:(List Int))=>((at' s4 i4).bind fun _=>some (Sd s4 (Rl i4) i4))) (D:=fun(s4:(List Int))=>s4) (fun k=>((Rx k).map fun j:Nat=>(j:Int))++Sm (b.size+1 - k) 0) (fun i hi=>by
   have hr:Sm (b.size+1 - i) (0:Int)=0::Sm (b.size+1 -(i+1)) 0:=by
    rw[show b.size+1 - i=(b.size+1 -(i+1))+1 by omega,List.replicate_succ]
   have hl:((Rx i).map fun j:Nat=>(j:Int)).length=i:=by simp
   simp only[aF,hr];rw[Q6 (by omega),hl,Tp];simp only[T3,QY,Rk];rw[List.set_append_right _ _ (by omega),hl,Tp,List.set_cons_zero,Uq,SI,Ry];rfl)
  simp only[List.range_zero,TG,Sr,TW,Tp,List.replicate_zero,R4]at this;rw[this,<-sb,Qj]
 rw[e0,QY];have e1:=Cs (n:=a.size) (by omega) (B:=fun(i11:Int) (s11:(List Int))=>(((cN (b.size:Int) (fun(i17:Int) (s17:(List Int))=>((at' s11 i17).bind fun x21=>((cG a i11).bind fun x22=>((cG b i17).bind fun x23=>(((bif(x22 !=x23)then some (ao (x21+1))else some x21)).bind fun(j24:Int)=>((at' s11 (ao (i17+1))).bind fun x26=>((at' s17 i17).bind fun x27=>((bZ s17 ([(sC (sC j24 (ao (x26+1))) (ao (x27+1)))]:List Int)).bind fun x29=>some x29)))))))) (fun(s17:(List Int))=>s17) 0 ([(ao (i11+1))]:List Int))).bind fun(j15:(List Int))=>some j15)) (D:=fun(s11:(List Int))=>s11) (fun i=>rowP A B i (b.size+1)) (fun i hi=>by
  have hx:A[i]? =some (A[i]'(by omega)):=Q0 _;generalize A[i]'(by omega)=x at hx;have e2:=Cs (n:=b.size) (by omega) (B:=fun(i17:Int) (s17:(List Int))=>((at' (rowP A B i (b.size+1)) i17).bind fun x21=>((cG a (i:Int)).bind fun x22=>((cG b i17).bind fun x23=>(((bif(x22 !=x23)then some (ao (x21+1))else some x21)).bind fun(j24:Int)=>((at' (rowP A B i (b.size+1)) (ao (i17+1))).bind fun x26=>((at' s17 i17).bind fun x27=>((bZ s17 ([(sC (sC j24 (ao (x26+1))) (ao (x27+1)))]:List Int)).bind fun x29=>some x29)))))))) (D:=fun(s17:(List Int))=>s17) (fun k=>rowP A B (i+1) (k+1)) (fun k hk=>by
   have hy:B[k]? =some (B[k]'(by omega)):=Q0 _;generalize B[k]'(by omega)=y at hy;simp only[aF,pN (show k<b.size+1 by omega),ni (show a.data.toList[i]? =some x by rw[hA];exact hx),ni (show b.data.toList[k]? =some y by rw[hB];exact hy),QY];rw[show ao ((k:Int)+1)=((k+1:Nat):Int) by rw[aO (by omega) (by omega)];omega,aF,pN (show k+1<b.size+1 by omega),pN (show k<k+1 by omega)];have he:=entry (A:=A) (B:=B) (by omega) hx hy;have hbif:(bif((x.toNat:Int) !=(y.toNat:Int))then some (ao ((ju A B i k:Int)+1))else some (ju A B i k:Int))=some (bif((x.toNat:Int) !=(y.toNat:Int))then ao ((ju A B i k:Int)+1)else(ju A B i k:Int)):=by
    cases ((x.toNat:Int) !=(y.toNat:Int))<;>rfl
   rw[hbif];simp only[QY];rw[he,cd (by rw[HC];simp;omega),QY,ER])
  have hst:([(ao ((i:Int)+1))]:List Int)=rowP A B (i+1) (0+1):=by
   unfold rowP;rw[aO (by omega) (by omega)];simp[JS A B (show i+1<=A.length by omega)]
  try simp only[]
  rw[hst,e2];rfl)
 try simp only[]at e1
 rw[e1,QY,aF,pN (by omega),QY]
theorem Lb(a b:ByteArray)(ha:a.size<=1000000)(hb:b.size<=1000000):fK a b=some (ju a.data.toList b.data.toList a.size b.size:Int):=by
 have sa:=ik a;have sb:=ik b;unfold fK;generalize hA:a.data.toList=A at*;generalize hB:b.data.toList=B at*;have e0:=Cr (n:=b.size) (i0:=0) (by omega) (by omega) (B:=fun(i3:Int) (s3:(List Int))=>((bZ s3 ([i3]:List Int)).bind fun x7=>some x7)) (D:=fun(s3:(List Int))=>s3) (fun k=>(Rx k).map fun j:Nat=>(j:Int)) (fun i _ hi=>by
  rw[cd (by simp;omega),QY,Uq,SI];rfl)
 simp only[List.range_zero,TG]at e0;rw[show((0:Nat):Int)=0 from rfl]at e0;rw[e0,QY,<-sb,<-Qj A B,sb];have e1:=Cr (n:=a.size) (i0:=1) (by omega) (by omega) (B:=fun(i10:Int) (s10:(List Int))=>(((oT (fun(i16:Int) (_:(List Int))=>(decide (i16<=(b.size:Int)))) (fun(i16:Int) (s16:(List Int))=>((at' s10 (ao (i16 - 1))).bind fun x20=>((cG a (ao (i10 - 1))).bind fun x21=>((cG b (ao (i16 - 1))).bind fun x22=>(((bif(x21 !=x22)then some (ao (x20+1))else some x20)).bind fun(j23:Int)=>((at' s10 i16).bind fun x25=>((at' s16 (ao (i16 - 1))).bind fun x26=>((bZ s16 ([(sC (sC j23 (ao (x25+1))) (ao (x26+1)))]:List Int)).bind fun x28=>some x28)))))))) (fun(s16:(List Int))=>s16) 1 ([i10]:List Int))).bind fun(j14:(List Int))=>some j14)) (D:=fun(s10:(List Int))=>s10) (fun i=>rowP A B (i - 1) (b.size+1)) (fun i h1 hi=>by
  obtain⟨i,rfl⟩: ∃j,i=j+1:=⟨i - 1,by omega⟩;have hx:A[i]? =some (A[i]'(by omega)):=Q0 _;generalize A[i]'(by omega)=x at hx;have w1:ao (((i+1:Nat):Int)- 1)=(i:Int):=by rw[aO (by omega) (by omega)];omega
  simp only[Nat.add_sub_cancel];have e2:=Cr (n:=b.size) (i0:=1) (by omega) (by omega) (B:=fun(i16:Int) (s16:(List Int))=>((at' (rowP A B i (b.size+1)) (ao (i16 - 1))).bind fun x20=>((cG a (ao (((i+1:Nat):Int)- 1))).bind fun x21=>((cG b (ao (i16 - 1))).bind fun x22=>(((bif(x21 !=x22)then some (ao (x20+1))else some x20)).bind fun(j23:Int)=>((at' (rowP A B i (b.size+1)) i16).bind fun x25=>((at' s16 (ao (i16 - 1))).bind fun x26=>((bZ s16 ([(sC (sC j23 (ao (x25+1))) (ao (x26+1)))]:List Int)).bind fun x28=>some x28)))))))) (D:=fun(s16:(List Int))=>s16) (fun k=>rowP A B (i+1) k) (fun k h1 hk=>by
   obtain⟨k,rfl⟩: ∃j,k=j+1:=⟨k - 1,by omega⟩;have hy:B[k]? =some (B[k]'(by omega)):=Q0 _;generalize B[k]'(by omega)=y at hy;have w2:ao (((k+1:Nat):Int)- 1)=(k:Int):=by rw[aO (by omega) (by omega)];omega
   simp only[w1,w2,aF,pN (show k<b.size+1 by omega),pN (show k+1<b.size+1 by omega),pN (show k<k+1 by omega),ni (show a.data.toList[i]? =some x by rw[hA];exact hx),ni (show b.data.toList[k]? =some y by rw[hB];exact hy),QY];have he:=entry (A:=A) (B:=B) (by omega) hx hy;have hbif:(bif((x.toNat:Int) !=(y.toNat:Int))then some (ao ((ju A B i k:Int)+1))else some (ju A B i k:Int))=some (bif((x.toNat:Int) !=(y.toNat:Int))then ao ((ju A B i k:Int)+1)else(ju A B i k:Int)):=by
    cases ((x.toNat:Int) !=(y.toNat:Int))<;>rfl
   rw[hbif];simp only[QY];rw[he,cd (by rw[HC];simp;omega),QY,ER])
  have hst:([((i+1:Nat):Int)]:List Int)=rowP A B (i+1) 1:=by
   unfold rowP;simp[JS A B (show i+1<=A.length by omega)]
  try simp only[]at e2
  rw[show((1:Nat):Int)=1 from rfl]at e2;rw[hst,e2];rfl)
 simp only[Tp,Nat.add_sub_cancel]at e1;rw[show((1:Nat):Int)=1 from rfl]at e1;rw[e1,QY,aF,pN (by omega),QY]
def LX(a b:ByteArray):Int:=(ju a.data.toList b.data.toList a.size b.size:Int)
theorem GD(a b:ByteArray):0<=LX a b/\LX a b<=a.size+b.size:=by
 unfold LX;have:=BH a.data.toList b.data.toList a.size b.size;rw[ik,ik]at this;omega
def kU(x y:ByteArray):Bool:=Op.bytesLess x.toList y.toList
theorem oC: ∀x:List UInt8,Op.bytesLess x x=false
 | []=>rfl
 | a::x=>by
  unfold Op.bytesLess;rw[oC x,Bool.and_false,Bool.or_false,decide_eq_false_iff_not];intro h;have:=Tf.1 h;omega
theorem w6{a b:UInt8}{x y:List UInt8}:Op.bytesLess (a::x) (b::y)=true↔a.toNat<b.toNat\/(a=b/\Op.bytesLess x y=true):=by
 conv=>lhs;unfold Op.bytesLess
 rw[Rw,Q4,decide_eq_true_eq,beq_iff_eq,Tf]
theorem sJ: ∀{x y z:List UInt8},Op.bytesLess x y=true->Op.bytesLess y z=true->Op.bytesLess x z=true
 | [],[],_,h,_=>by cases h
 | _::_,[],_,h,_=>by cases h
 | [],_::_,[],_,h=>by cases h
 | _::_,_::_,[],_,h=>by cases h
 | [],_::_,_::_,_,_=>rfl
 | a::x,b::y,c::z,h,k=>by
  rw[w6]at h k⊢;rcases h with h | ⟨rfl,h⟩
  ·rcases k with k | ⟨rfl,_⟩
   ·exact .inl (by omega)
   ·exact .inl h
  ·rcases k with k | ⟨rfl,k⟩
   ·exact .inl k
   ·exact .inr ⟨rfl,sJ h k⟩
theorem w7: ∀{x y:List UInt8},Op.bytesLess x y=false->Op.bytesLess y x=false->x=y
 | [],[],_,_=>rfl
 | [],_::_,h,_=>by cases h
 | _::_,[],_,h=>by cases h
 | a::x,b::y,h,k=>by
  rw[Rv,ne_eq,w6]at h k;have e:a=b:=TE.1 (by
   have h1: ¬a.toNat<b.toNat:=fun e=>h (.inl e);have h2: ¬b.toNat<a.toNat:=fun e=>k (.inl e);omega)
  subst e;rw[w7 (x:=x) (y:=y) (by rw[Rv];exact fun e=>h (.inr ⟨rfl,e⟩)) (by rw[Rv];exact fun e=>k (.inr ⟨rfl,e⟩))]
theorem Gx: ∀(x y:List UInt8),(compareBytes x y<0↔Op.bytesLess x y=true)/\(compareBytes x y=0↔x=y)/\(0<compareBytes x y↔Op.bytesLess y x=true)
 | [],[]=>by decide
 | [],b::y=>⟨by simp[compareBytes,Op.bytesLess],by simp[compareBytes],by simp[compareBytes,Op.bytesLess]⟩
 | a::x,[]=>⟨by simp[compareBytes,Op.bytesLess],by simp[compareBytes],by simp[compareBytes,Op.bytesLess]⟩
 | a::x,b::y=>by
  obtain⟨h1,h2,h3⟩:=Gx x y;unfold compareBytes;rw[w6,w6];by_cases hab:a<b
  ·rw[if_pos hab];have:=Tf.1 hab;refine⟨⟨fun _=> .inl this,fun _=>by omega⟩,⟨fun h=>by omega,fun h=> ?_⟩,⟨fun h=>by omega,fun h=> ?_⟩⟩
   ·injection h with h;subst h;omega
   ·rcases h with h | ⟨h,_⟩
    ·omega
    ·subst h;omega
  ·rw[if_neg hab];by_cases hba:b<a
   ·rw[if_pos hba];have:=Tf.1 hba;refine⟨⟨fun h=>by omega,fun h=> ?_⟩,⟨fun h=>by omega,fun h=> ?_⟩,⟨fun _=> .inl this,fun _=>by omega⟩⟩
    ·rcases h with h | ⟨h,_⟩
     ·omega
     ·subst h;omega
    ·injection h with h;subst h;omega
   ·rw[if_neg hba];have e:a=b:=TE.1 (by
     have k1: ¬a.toNat<b.toNat:=fun h=>hab (Tf.2 h);have k2: ¬b.toNat<a.toNat:=fun h=>hba (Tf.2 h);omega)
    subst e;rw[h1,h2,h3];simp
theorem BU(x y:ByteArray): ∃r,strings_Compare x y=some r/\decide (r<0)=kU x y/\(r==0)=(x.toList==y.toList):=by
 obtain⟨h1,h2,_⟩:=Gx x.data.toList y.data.toList;refine⟨_,rfl,?_,?_⟩
 ·unfold kU;rw[toList_eq,toList_eq];cases hb:Op.bytesLess x.data.toList y.data.toList
  ·rw[decide_eq_false_iff_not,h1,hb];simp
  ·rw[decide_eq_true_eq,h1,hb]
 ·rw[toList_eq,toList_eq];cases hb:(x.data.toList==y.data.toList)
  ·rw[beq_eq_false_iff_ne]at hb;rw[beq_eq_false_iff_ne];exact fun h=>hb (h2.1 h)
  ·rw[beq_iff_eq]at hb;rw[beq_iff_eq];exact h2.2 hb
theorem wH(x:ByteArray):kU x x=false:=oC _
theorem EK{x y z:ByteArray}(h:kU x y=true)(k:kU y z=true):kU x z=true:=sJ h k
theorem Pz{a b:Nat}(h:a+b<=1000000000):ao (TF (IntKind.wrap .u64 (ao ((a:Int)+(b:Int)))) (2^1))=(((a+b)/2:Nat):Int):=by
 rw[aO (n:=(a:Int)+(b:Int)) (by omega) (by omega)];have e:IntKind.wrap .u64 ((a:Int)+(b:Int))=((a+b:Nat):Int):=by
  rw[IntKind.wrap_u64];omega
 rw[e,show(2:Int)^1=2 from rfl,Int.fdiv_eq_ediv_of_nonneg _ (by omega)];have:((a+b:Nat):Int)/2=(((a+b)/2:Nat):Int):=by omega
 rw[this];exact aO (by omega) (by omega)
theorem P7{α:Type}{L:List α}(hL:L.length<=1000000)(p:α->Bool)(hmono: ∀(i j:Nat) x y,i<=j->L[i]? =some x->L[j]? =some y->p y=true->p x=true)
  {B:Int×Int->Option ((Int×Int)⊕Int)} (hB: ∀(lo hi:Nat) (x:α),lo<hi->hi<=L.length->L[(lo+hi)/2]? =some x->B ((lo:Int),(hi:Int))=some (.inl (bif p x then((((lo+hi)/2+1:Nat):Int),(hi:Int))else((lo:Int),(((lo+hi)/2:Nat):Int))))) (hE: ∀(lo:Nat),B ((lo:Int),(lo:Int))=some (.inr (lo:Int))):
  ∃k:Nat,loop B (0,(L.length:Int))=some (k:Int)/\k<=L.length/\(∀(i:Nat) x,i<k->L[i]? =some x->p x=true)/\ ∀(i:Nat) x,k<=i->L[i]? =some x->p x=false:=by
 have:=CN (body:=B) (fun s=> ∃lo hi:Nat,s=((lo:Int),(hi:Int))/\lo<=hi/\hi<=L.length/\(∀(i:Nat) x,i<lo->L[i]? =some x->p x=true)/\ ∀(i:Nat) x,hi<=i->L[i]? =some x->p x=false)
  (fun s=>(s.2 - s.1).toNat) (fun r=> ∃k:Nat,r=(k:Int)/\k<=L.length/\(∀(i:Nat) x,i<k->L[i]? =some x->p x=true)/\ ∀(i:Nat) x,k<=i->L[i]? =some x->p x=false)
  (fun s ⟨lo,hi,hs,h1,h2,h3,h4⟩=>by
   subst hs;by_cases hlt:lo<hi
   ·have hx:L[(lo+hi)/2]? =some (L[(lo+hi)/2]'(by omega)):=Q0 _;generalize L[(lo+hi)/2]'(by omega)=x at hx;refine .inl ⟨_,hB lo hi x hlt h2 hx,?_,?_⟩
    ·cases hp:p x
     ·exact⟨lo,(lo+hi)/2,rfl,by omega,by omega,h3,fun i y hi' hy=>by
       cases hq:p y with
       | false=>rfl
       | true=>
        have:=hmono ((lo+hi)/2) i x y hi' hx hy hq;rw[hp]at this;cases this⟩
     ·exact⟨(lo+hi)/2+1,hi,rfl,by omega,h2,fun i y hi' hy=>hmono i ((lo+hi)/2) y x (by omega) hy hx hp,h4⟩
    ·cases p x<;>simp<;>omega
   ·obtain rfl:lo=hi:=by omega
    exact .inr ⟨_,hE lo,lo,rfl,h2,h3,h4⟩)
  (s:=(0,(L.length:Int))) ⟨0,L.length,rfl,R0 _,Re _,fun i x h=>by omega,fun i x h hx=>by
   have:=(Q1.1 hx).1;omega⟩
 obtain⟨r,h1,k,rfl,h2,h3,h4⟩:=this;exact⟨k,h1,h2,h3,h4⟩
def Jc(L:List Site):Prop:= ∀(i j:Nat) x y,i<j->L[i]? =some x->L[j]? =some y->kU x.Code y.Code=true
theorem mg{L:List Site}(h:nW L=some true):Jc L/\(∀x∈L,jI x.Code=true/\jr x.At=true)/\L.length<=10:=by
 unfold nW at h;have hf: ∀(M:List Site) (k:Nat),cn (n3 L) (fun _ _=>false) M k=none\/cn (n3 L) (fun _ _=>false) M k=some false:=by
  intro M
  induction M with
  | nil=>exact fun k=> .inl rfl
  | cons x M ih=>
   intro k;unfold cn;cases n3 L k x
   ·exact ih (k+1)
   ·exact .inr rfl
 have hall: ∀(M:List Site) (k:Nat),cn (n3 L) (fun _ _=>false) M k=none-> ∀(i:Nat) x,M[i]? =some x->n3 L (k+i) x=false:=by
  intro M
  induction M with
  | nil=>intro k _ i x hx;simp at hx
  | cons y M ih=>
   intro k hn i x hx;unfold cn at hn;cases hs:n3 L k y
   ·rw[hs,cond_false]at hn;cases i with
    | zero=>
     injection hx with hx;subst hx;exact hs
    | succ i=>
     have:=ih (k+1) hn i x (by simpa using hx)
     rwa [show k+1+i=k+(i+1) by omega]at this
   ·rw[hs]at hn;cases hn
 rcases hf L 0 with h0 | h0
 ·rw[h0]at h;have h10:=of_decide_eq_true (RY.inj h);have hn:=hall L 0 h0;have hstep: ∀(i:Nat) x y,L[i]? =some x->L[i+1]? =some y->kU x.Code y.Code=true:=by
   intro i x y hx hy;have:=hn (i+1) y hy;unfold n3 at this;rw[Sf,Sf]at this;have h3:=this.2.2;rw[decide_eq_true (by omega:((0+(i+1):Nat):Int)>0),Se,show 0+(i+1)- 1=i by omega,hx]at h3;unfold kU;simpa using h3
  refine⟨?_,fun x hx=> ?_,by omega⟩
  ·intro i j x y hij hx hy;obtain⟨d,rfl⟩: ∃d,j=i+1+d:=⟨j - i - 1,by omega⟩
   induction d generalizing y with
   | zero=>exact hstep i x y hx hy
   | succ d ih=>
    have hlt:i+1+d<L.length:=by
     have:=(Q1.1 hy).1;omega
    have hz:L[i+1+d]? =some (L[i+1+d]'hlt):=Q0 _;exact EK (ih (L[i+1+d]'hlt) (by omega) hz) (hstep (i+1+d) _ y hz hy)
  ·obtain⟨i,hi⟩:=R3.1 hx;have:=hn i x hi;unfold n3 at this;rw[Sf,Sf]at this;exact⟨by simpa using this.1,by simpa using this.2.1⟩
 ·rw[h0]at h;cases h
def gO(c:ByteArray)(s:Site):Bool:=s.Code.toList==c.toList
theorem tH{L:List Site}(hL:L.length<=1048576)(c:ByteArray):fr L c=some (iy (gO c) L):=by
 unfold fr;exact fV (by omega) (gO c) (fun i x hx=>by rw[aF,hx];rfl)
def qf(L:List Site)(c:ByteArray):aH×Bool:=match L.find? (gO c)with
 | some s=>(s.At,true)
 | none=>(aH.mk 0 0,false)
theorem pD{L:List Site}(hL:L.length<=10)(hs:Jc L)(c:ByteArray):et L c=some (qf L c):=by
 have hmono: ∀(i j:Nat) (x y:Site),i<=j->L[i]? =some x->L[j]? =some y->kU y.Code c=true->kU x.Code c=true:=by
  intro i j x y hij hx hy h;rcases Nat.lt_or_eq_of_le hij with hlt | rfl
  ·exact EK (hs i j x y hlt hx hy) h
  ·rw[hx]at hy;injection hy with hy;rw[hy];exact h
 have hcmp: ∀x:Site,∃r,gp x c=some r/\decide (r<0)=kU x.Code c/\(r==0)=gO c x:=by
  intro x;obtain⟨r,h1,h2,h3⟩:=BU x.Code c;exact⟨r,by unfold gp;rw[h1];rfl,h2,h3⟩
 have hloop:=P7 (L:=L) (by omega) (fun x=>kU x.Code c) hmono (B:=fun(s3:Int×Int)=>(bif(decide (s3.1<s3.2))then((at' L (ao (TF (IntKind.wrap .u64 (ao (s3.1+s3.2))) (2^1)))).bind fun x5=>((gp x5 c).bind fun x6=>(bif(decide (x6<0))then some (.inl ((ao ((ao (TF (IntKind.wrap .u64 (ao (s3.1+s3.2))) (2^1)))+1)),s3.2))else some (.inl (s3.1,(ao (TF (IntKind.wrap .u64 (ao (s3.1+s3.2))) (2^1))))))))else some (.inr s3.1)))
  (fun lo hi x hlt hhi hx=>by
   simp only[Pz (show lo+hi<=1000000000 by omega),aF,hx,QY,decide_eq_true (show(lo:Int)<hi by omega),cond_true];obtain⟨r,h1,h2,_⟩:=hcmp x;rw[h1,QY,h2,aO (by omega) (by omega)];cases kU x.Code c
   ·rfl
   ·simp only[cond_true];congr 3)
  (fun lo=>by simp only[decide_eq_false (show ¬(lo:Int)<lo by omega),cond_false])
 obtain⟨k,h1,h2,h3,h4⟩:=hloop;unfold et cq;rw[h1,QY];by_cases hk:k<L.length
 ·have hx:L[k]? =some (L[k]'hk):=Q0 _;generalize L[k]'hk=x at hx;obtain⟨r,e1,_,e3⟩:=hcmp x;rw[decide_eq_true (show(k:Int)<L.length by omega),cond_true,aF,hx,QY,e1,QY,e3];simp only[QY];cases hc:gO c x
  ·have hnone:L.find? (gO c)=none:=by
    rw[Tt];intro y hy;obtain⟨i,hi⟩:=R3.1 hy;intro hcy;have hyc:y.Code=c:=fO.1 hcy;rcases Tc i k with h | h | h
    ·have:=h3 i y h hi;rw[hyc,wH]at this;cases this
    ·subst h;rw[hx]at hi;injection hi with hi;rw[hi,hcy]at hc;cases hc
    ·have h5:=hs k i x y h hx hi;rw[hyc]at h5;have:=h4 k x (Re _) hx;rw[h5]at this;cases this
   unfold qf;rw[hnone];rfl
  ·have hsome:L.find? (gO c)=some x:=by
    rw[List.find?_eq_some_iff_getElem];refine⟨hc,k,hk,?_,fun j hj=> ?_⟩
    ·rw[Q0 hk]at hx;exact RY.inj hx
    ·have hy:L[j]? =some (L[j]'(by omega)):=Q0 _;have:=h3 j _ hj hy;generalize L[j]'(by omega)=y at this;cases hcy:gO c y with
     | false=>rfl
     | true=>
      rw[show y.Code=c from fO.1 hcy,wH]at this;cases this
   unfold qf;rw[hsome];simp only[Rs,cond_false,aF,hx,QY]
 ·have hnone:L.find? (gO c)=none:=by
   rw[Tt];intro y hy;obtain⟨i,hi⟩:=R3.1 hy;intro hcy;have:=h3 i y (by have:=(Q1.1 hi).1;omega) hi;rw[show y.Code=c from fO.1 hcy,wH]at this;cases this
  rw[decide_eq_false (show ¬(k:Int)<L.length by omega),cond_false,QY];unfold qf;rw[hnone];rfl
section
variable {α A : Type}
theorem KL{L:List α}(hL:L.length<=9223372036854775807){B:Int->Unit->Option (Unit⊕A)}{D:Unit->A}(p:α->Bool)(a:A)(h: ∀(i:Nat) x,L[i]? =some x->B (i:Int) ()=bif p x then some (.inr a)else some (.inl ())):
  dD (L.length:Int) B D 0 ()=bif L.any p then some a else some (D ()):=by
 rw[oE L hL B (fun _ x _=>bif p x then some (.inr a)else some (.inl ())) _ () (fun j x _ hx=>h j x hx),zH];cases L.any p<;>rfl
end
abbrev kI:ByteArray:=QZ #[109,105,108,101]
abbrev qk:ByteArray:=QZ #[109,105,108,101,115]
abbrev ng:ByteArray:=QZ #[108,101,97,103,117,101]
abbrev k8:ByteArray:=QZ #[108,101,97,103,117,101,115]
abbrev tNo:ByteArray:=QZ #[]
def pZ(u:ByteArray)(c:Int):Bool:=bif c==1 then(u.toList==kI.toList) || (u.toList==ng.toList)else(u.toList==qk.toList) || (u.toList==k8.toList)
def lc(u:ByteArray)(c:Int):Int:=bif c==1 then(bif u.toList==kI.toList then 4 else bif u.toList==ng.toList then 12 else 0)else(bif u.toList==qk.toList then 4 else bif u.toList==k8.toList then 12 else 0)
theorem KD(u:ByteArray)(c:Int):nB u c=some (pZ u c):=by
 unfold nB pZ;cases (c==1)<;>rfl
theorem Lm(u:ByteArray)(c:Int):decide (lc u c>0)=pZ u c:=by
 unfold lc pZ;cases (c==1)<;>simp only[cond_true,cond_false]
 ·cases (u.toList==qk.toList)<;>cases (u.toList==k8.toList)<;>rfl
 ·cases (u.toList==kI.toList)<;>cases (u.toList==ng.toList)<;>rfl
theorem HJ(l m:List UInt8)(b:UInt8):((l++[b])==(m++[b]))=(l==m):=by
 rw[S7,beq_iff_eq,beq_iff_eq,List.append_left_inj]
theorem xS(l:List UInt8):(QZ l.toArray).toList=l:=by rw[toList_eq]
theorem MP:kI.toList=[109,105,108,101]:=xS _
theorem J2:qk.toList=[109,105,108,101]++[115]:=xS _
theorem Hs:ng.toList=[108,101,97,103,117,101]:=xS _
theorem EQ:k8.toList=[108,101,97,103,117,101]++[115]:=xS _
theorem EW(u:ByteArray)(c:Int)(hu:u.size<=1048576):mv u c=some (lc u c):=by
 unfold mv lc;rw[MP,J2,Hs,EQ];cases hc:(c==1)with
 | true=>
  rw[show(c !=1)=false by rw[bne,hc];rfl];simp only[cond_false,cond_true,QY,RH];cases (u.toList==[109,105,108,101])<;>cases (u.toList==[108,101,97,103,117,101])<;>rfl
 | false=>
  rw[show(c !=1)=true by rw[bne,hc];rfl];simp only[cond_false,cond_true];have hsz:=ik u;rcases SM u.data.toList with hn | ⟨l,b,hl⟩
  ·have h0:u.size=0:=by rw[<-hsz,hn];rfl
   have hu0:u.toList=[]:=by rw[toList_eq,hn]
   rw[h0,hu0];rfl
  ·rw[TN]at hl;have hs:u.size=l.length+1:=by rw[<-hsz,hl];simp
   have e0:((u.size:Int)==0)=false:=by rw[beq_eq_false_iff_ne];omega
   have e1:ao ((u.size:Int)- 1)=(l.length:Int):=by rw[aO (by omega) (by omega)];omega
   have e2:cG u (l.length:Int)=some (b.toNat:Int):=ni (by rw[hl,Q6 (Re _)];simp);have e3:kG u 0 (l.length:Int)=some ⟨l.toArray⟩:=by
    have:=Ac (s:=u) (a:=0) (b:=l.length) (R0 _) (by omega);rw[hl]at this;simpa using this
   rw[e0,cond_false,e1,e2,e3];simp only[QY];have e4:u.toList=l++[b]:=by rw[toList_eq,hl]
   by_cases hb:b=115
   ·subst hb;rw[show(((115:UInt8).toNat:Int) !=115)=false from rfl];simp only[cond_false,QY,RH,xS];rw[e4,HJ,HJ];cases (l==[109,105,108,101])<;>cases (l==[108,101,97,103,117,101])<;>rfl
   ·have hne:((b.toNat:Int) !=115)=true:=by
     rw[bne_iff_ne];intro h;exact hb (TE.1 (by rw[show(115:UInt8).toNat=115 from rfl];omega))
    have hx: ∀m:List UInt8,((l++[b])==(m++[115]))=false:=fun m=>by
     rw[beq_eq_false_iff_ne];intro h;have:=List.append_inj_right' h rfl;injection this with this;exact hb this
    rw[hne];simp only[cond_true,QY,RB];rw[e4,hx,hx];rfl
structure DY (d:ak):Prop where
 u:d.Unit.size<=1048576
 a:d.A.size<=1048576
 b:d.B.size<=1048576
def noB(s:ByteArray):Bool:=s.toList==tNo.toList
def eE(d:ak):Bool:=jI d.A&&bif d.Kind==2 then inB d.Count 1 99&&(pZ d.Unit d.Count&&(inB d.Direction 0 7&&noB d.B))else(d.Count==0)&&(noB d.Unit&&((d.Direction==0)&&bif(d.Kind==0) || (d.Kind==1)then noB d.B else(d.Kind==3)&&(jI d.B&& !(d.A.toList==d.B.toList))))
theorem EA(d:ak)(h:DY d):fR d=some (eE d):=by
 unfold fR eE;have h1:=h.a;have h2:=h.b;simp only[zg d.A (by unfold maxLen;omega),zg d.B (by unfold maxLen;omega),gw,KD,QY,beq_self_eq_true,Se,T9];rw[show(d.B.toList==tNo.toList)=noB d.B from rfl,show(d.Unit.toList==tNo.toList)=noB d.Unit from rfl];generalize jI d.A=ca;generalize jI d.B=cb;generalize noB d.B=nb;generalize noB d.Unit=nu;generalize (d.A.toList==d.B.toList)=ab;generalize inB d.Count 1 99=w;generalize pZ d.Unit d.Count=u;generalize inB d.Direction 0 7=dr;generalize (d.Count==0)=c0;generalize (d.Direction==0)=d0;cases ca
 ·rfl
 ·cases h2:(d.Kind==2)with
  | true=>
   have hk:d.Kind=2:=by simpa using h2
   rw[hk,show((2:Int)==0)=false from rfl,show((2:Int)==1)=false from rfl];cases w<;>cases u<;>cases dr<;>rfl
  | false=>
   generalize (d.Kind==0)=k0;generalize (d.Kind==1)=k1;generalize (d.Kind==3)=k3;cases k0<;>cases k1<;>cases k3<;>cases c0<;>cases nu<;>cases d0<;>cases cb<;>rfl
theorem EU(d:ak)(h:DY d):ep d=some (eE d):=by
 unfold ep eE;have h1:=h.a;have h2:=h.b;simp only[zT d.A (by unfold maxLen;omega),zT d.B (by unfold maxLen;omega),jW,EW d.Unit d.Count h.u,QY,Lm,bne];rw[show(d.B.toList==tNo.toList)=noB d.B from rfl,show(d.Unit.toList==tNo.toList)=noB d.Unit from rfl];generalize jI d.A=ca;generalize jI d.B=cb;generalize noB d.B=nb;generalize noB d.Unit=nu;generalize (d.A.toList==d.B.toList)=ab;generalize inB d.Count 1 99=w;generalize pZ d.Unit d.Count=u;generalize inB d.Direction 0 7=dr;generalize (d.Count==0)=c0;generalize (d.Direction==0)=d0;cases ca
 ·rfl
 ·cases (d.Kind==2)with
  | true=>cases w<;>cases u<;>cases dr<;>rfl
  | false=>
   generalize (d.Kind==0)=k0;generalize (d.Kind==1)=k1;generalize (d.Kind==3)=k3;cases k0<;>cases k1<;>cases k3<;>cases c0<;>cases nu<;>cases d0<;>cases cb<;>rfl
theorem C1(L:List Site)(c:ByteArray):(qf L c).2=L.any (gO c):=by
 unfold qf;rw[<-List.isSome_find?];cases L.find? (gO c)<;>rfl
def zA(L:List Site)(d:ak):Bool:= !L.any (gO d.A) || ((d.Kind==3)&& !L.any (gO d.B))
def Et(L:List Site)(ds:List ak)(s ok:Bool):Int:=bif !s || (!ok || ds.any fun d=> !eE d)then 1 else bif ds.any (zA L)then 4 else bif decide ((ds.length:Int)>8)then 3 else 0
theorem K0(d:ak):eV d=some (bif d.Kind==3 then[d.A,d.B]else[d.A]):=by
 unfold eV;cases (d.Kind==3)<;>rfl
theorem HI(L:List Site): ∃b,nW L=some b:=by
 unfold nW;cases cn (n3 L) (fun _ _=>false) L 0 with
 | none=>exact⟨_,rfl⟩
 | some r=>exact⟨_,rfl⟩
theorem zx{L:List Site}{ds:List ak}(hL:L.length<=1048576)(h: ∀x∈L,zP x)(hd:ds.length<=1048576)(hds: ∀x∈ds,DY x)(ok:Bool){s:Bool}(hs:nW L=some s):kT L ds ok=some (Et L ds s ok):=by
 unfold kT Et cm cz nT;rw[CE hL h,hs,QY,fV (by omega) (fun d=> !eE d) (fun i x hx=>by rw[aF,hx,QY,EA x (hds x (Q3 hx))];rfl),QY,kO];cases s
 ·rfl
 ·cases ok
  ·rfl
  ·cases hany:(ds.any fun d=> !eE d)with
   | true=>rfl
   | false=>
    simp only[Rs,TZ,cond_false,QY];obtain⟨h1,_,h3⟩:=mg hs;rw[jd (by omega) (zA L) 4 (fun i x hx=>by
     rw[aF,hx,QY,K0,QY];have hloop:=KL (L:=bif x.Kind==3 then[x.A,x.B]else[x.A]) (A:=Unit⊕(Unit⊕Int)) (D:=fun _=> .inl ()) (B:=fun(i13:Int) (_:Unit)=>((at' (bif x.Kind==3 then[x.A,x.B]else[x.A]) i13).bind fun x17=>((et L x17).bind fun x18=>(bif(!x18.2)then some (.inr (.inr (.inr 4)))else some (.inl ()))))) (by cases (x.Kind==3)<;>simp) (fun c=> !L.any (gO c)) (.inr (.inr 4)) (fun j c hc=>by
      rw[aF,hc,QY,pD h3 h1 c,QY,C1])
     rw[hloop];unfold zA;cases (x.Kind==3)<;>simp)]
    cases ds.any (zA L)<;>cases decide ((ds.length:Int)>8)<;>rfl
theorem zY{L:List Site}{ds:List ak}(hL:L.length<=1048576)(h: ∀x∈L,zP x)(hd:ds.length<=1048576)(hds: ∀x∈ds,DY x){s:Bool}(hs:nW L=some s):ow L ds=some (Et L ds s true):=by
 unfold ow Et;rw[Dl hL h,hs,QY];cases s
 ·rfl
 ·simp only[Rs,cond_false,TZ];rw[jd (by omega) (fun d=> !eE d) 1 (fun i x hx=>by rw[aF,hx,QY,EU x (hds x (Q3 hx))];rfl)];cases hany:(ds.any fun d=> !eE d)with
  | true=>rfl
  | false=>
   simp only[cond_false];rw[jd (by omega) (zA L) 4 (fun i x hx=>by
    have hm:=Q3 hx;have hdx:eE x=true:=by
     have:=UG.1 hany x hm;simpa using this
    rw[aF,hx,QY,tH hL,tH hL,QY,qC,QY,qC];unfold zA;have hB:(!(x.B.toList==tNo.toList))=(x.Kind==3):=by
     unfold eE at hdx;rw[Q4]at hdx;have h4:=hdx.2;cases h2:(x.Kind==2)with
     | true=>
      rw[h2,cond_true]at h4;have hk:x.Kind=2:=by simpa using h2
      simp only[Q4]at h4;have h5:(x.B.toList==tNo.toList)=true:=h4.2.2.2;rw[h5,hk];rfl
     | false=>
      rw[h2,cond_false]at h4;simp only[Q4]at h4;have h5:=h4.2.2.2;cases h01:((x.Kind==0) || (x.Kind==1))with
      | true=>
       rw[h01,cond_true]at h5;have h6:(x.B.toList==tNo.toList)=true:=h5;rw[h6];have hk:x.Kind=0\/x.Kind=1:=by simpa using h01
       rcases hk with hk | hk<;>rw[hk]<;>rfl
      | false=>
       rw[h01,cond_false,Q4,Q4]at h5;rw[h5.1];have hcb:=h5.2.1;unfold jI at hcb;rw[Q4]at hcb;have:=(rR hcb.1).1;rw[w4 this];rfl
    rw[hB];cases L.any (gO x.A)<;>cases (x.Kind==3)<;>cases L.any (gO x.B)<;>rfl)]
   cases ds.any (zA L)<;>cases decide ((ds.length:Int)>8)<;>rfl
theorem getD_some{x:List ByteArray}{i:Nat}{b:ByteArray}(h:x[i]? =some b):x.getD i tNo=b:=by
 rw[Ro,h];rfl
theorem tE{x y:Int}{m n:Nat}(hx:x.natAbs<=m)(hy:y.natAbs<=n):(x*y).natAbs<=m*n:=by
 rw[Int.natAbs_mul];exact Tz hx hy
theorem br{x:Int}(h:x.natAbs<=1000000000000000000):ao x=x:=aO (by omega) (by omega)
theorem jZ{p:aH}(h:jr p=true):p.X.natAbs<=1000/\p.Y.natAbs<=1000:=by
 unfold jr at h;rw[Q4,ic,ic]at h;omega
theorem qP(x:Int):0<=x*x:=by
 rcases Int.le_total 0 x with h | h
 ·exact Int.mul_nonneg h h
 ·have:=Int.mul_nonneg (a:= -x) (b:= -x) (by omega) (by omega)
  rwa [Int.neg_mul_neg]at this
def sqN(a p:aH):Int:=(a.X - p.X)*(a.X - p.X)+(a.Y - p.Y)*(a.Y - p.Y)
def tuN(a b c:aH):Int:=(b.X - a.X)*(c.Y - a.Y)-(b.Y - a.Y)*(c.X - a.X)
section
variable {a b p : aH}
theorem yt(ha:jr a=true)(hp:jr p=true):0<=sqN a p/\(sqN a p).natAbs<=8000000:=by
 have h1:=jZ ha;have h2:=jZ hp;have b1:=tE (x:=a.X - p.X) (y:=a.X - p.X) (m:=2000) (n:=2000) (by omega) (by omega);have b2:=tE (x:=a.Y - p.Y) (y:=a.Y - p.Y) (m:=2000) (n:=2000) (by omega) (by omega);have c1:=qP (a.X - p.X);have c2:=qP (a.Y - p.Y);unfold sqN;omega
theorem Qm(ha:jr a=true)(hp:jr p=true):ao ((ao ((ao (a.X - p.X))*(ao (a.X - p.X))))+(ao ((ao (a.Y - p.Y))*(ao (a.Y - p.Y)))))=sqN a p:=by
 have h1:=jZ ha;have h2:=jZ hp;have b1:=tE (x:=a.X - p.X) (y:=a.X - p.X) (m:=2000) (n:=2000) (by omega) (by omega);have b2:=tE (x:=a.Y - p.Y) (y:=a.Y - p.Y) (m:=2000) (n:=2000) (by omega) (by omega);rw[br (x:=a.X - p.X) (by omega),br (x:=a.Y - p.Y) (by omega),br (x:=(a.X - p.X)*(a.X - p.X)) (by omega),br (x:=(a.Y - p.Y)*(a.Y - p.Y)) (by omega),br (by omega)];rfl
theorem BE(ha:jr a=true)(hp:jr p=true):gD a p=some (sqN a p):=congrArg some (Qm ha hp)
theorem F2(ha:jr a=true)(hp:jr p=true):gu a p=some (sqN a p):=congrArg some (Qm ha hp)
theorem H2(ha:jr a=true)(hb:jr b=true)(hp:jr p=true):(tuN a b p).natAbs<=8000000:=by
 have h1:=jZ ha;have h2:=jZ hp;have h3:=jZ hb;have b1:=tE (x:=b.X - a.X) (y:=p.Y - a.Y) (m:=2000) (n:=2000) (by omega) (by omega);have b2:=tE (x:=b.Y - a.Y) (y:=p.X - a.X) (m:=2000) (n:=2000) (by omega) (by omega);unfold tuN;omega
theorem QD(ha:jr a=true)(hb:jr b=true)(hp:jr p=true):ao ((ao ((ao (b.X - a.X))*(ao (p.Y - a.Y))))-(ao ((ao (b.Y - a.Y))*(ao (p.X - a.X)))))=tuN a b p:=by
 have h1:=jZ ha;have h2:=jZ hp;have h3:=jZ hb;have b1:=tE (x:=b.X - a.X) (y:=p.Y - a.Y) (m:=2000) (n:=2000) (by omega) (by omega);have b2:=tE (x:=b.Y - a.Y) (y:=p.X - a.X) (m:=2000) (n:=2000) (by omega) (by omega);rw[br (x:=b.X - a.X) (by omega),br (x:=b.Y - a.Y) (by omega),br (x:=p.X - a.X) (by omega),br (x:=p.Y - a.Y) (by omega),br (x:=(b.X - a.X)*(p.Y - a.Y)) (by omega),br (x:=(b.Y - a.Y)*(p.X - a.X)) (by omega),br (by omega)];rfl
theorem Og(ha:jr a=true)(hb:jr b=true)(hp:jr p=true):uB a b p=some (tuN a b p):=congrArg some (QD ha hb hp)
theorem OJ(ha:jr a=true)(hb:jr b=true)(hp:jr p=true):oq a b p=some (tuN a b p):=congrArg some (QD ha hb hp)
end
def cW(x:Int):Int:=if x<0 then -x else x
theorem OY{x:Int}(h:x.natAbs<=1000000000):KQ x (ao (0 - x))=cW x:=by
 rw[br (by omega)];unfold KQ cW;split<;>split<;>omega
theorem tf{x:Int}(h:x.natAbs<=1000000000):nz x=some (cW x):=congrArg some (OY h)
theorem AJ{x:Int}(h:x.natAbs<=1000000000):eP x=some (cW x):=congrArg some (OY h)
def sgI(x:Int):Int:=if x<0 then -1 else if x=0 then 0 else 1
theorem Fx(x:Int):oF x=some (sgI x):=by
 unfold oF sgI;congr 1;unfold KQ sC;split<;>split<;>split<;>(try split)<;>omega
def OO(i j:Int):Int:=if i= -1 then(if j= -1 then 5 else if j=0 then 4 else 3)else if i=0 then(if j= -1 then 6 else if j=0 then 0 else 2)else(if j= -1 then 7 else if j=0 then 0 else 1)
theorem oH(x:Int):sgI x= -1\/sgI x=0\/sgI x=1:=by
 unfold sgI;split
 ·exact .inl rfl
 ·split
  ·exact .inr (.inl rfl)
  ·exact .inr (.inr rfl)
theorem Jk(i j:Int)(hi:i= -1\/i=0\/i=1)(hj:j= -1\/j=0\/j=1):((Ki 3 (ao (i+1))).bind fun _=>((Ki 3 (ao (j+1))).bind fun _=>((NI 9 ((0+(Rl (ao (i+1)))*3)+(Rl (ao (j+1)))*1)).bind fun _=>some (JZ [5,4,3,6,0,2,7,0,1] ((0+(Rl (ao (i+1)))*3)+(Rl (ao (j+1)))*1)))))=some (OO i j):=by
 rw[br (x:=i+1) (by omega),br (x:=j+1) (by omega)];rcases hi with rfl | rfl | rfl<;>rcases hj with rfl | rfl | rfl<;>rfl
def p6(x y:Int):Int:=if 2*cW x<cW y/\y>0 then 0 else if 2*cW x<cW y then 4 else if 2*cW y<cW x/\x>0 then 2 else if 2*cW y<cW x then 6 else if x>0/\y>0 then 1 else if x>0 then 3 else if y<0 then 5 else 7
theorem vO(x y:Int):0<=p6 x y/\p6 x y<=7:=by
 unfold p6
 repeat' split
 all_goals omega
theorem zN{x:Int}(h:x>0):sgI x=1:=by unfold sgI;rw[if_neg (by omega),if_neg (by omega)]
theorem zM{x:Int}(h:x<0):sgI x= -1:=by unfold sgI;rw[if_pos h]
theorem PW{x y:Int}(c1:2*cW x<cW y):OO (sgI y) (sgI 0)=p6 x y:=by
 have hy:y≠0:=fun h=>by
  subst h;unfold cW at c1;split at c1<;>simp at c1<;>omega
 unfold p6;rcases Ur hy with h | h
 ·rw[if_neg (by omega),if_pos c1,zM h];rfl
 ·rw[if_pos ⟨c1,h⟩,zN h];rfl
theorem PX{x y:Int}(c1: ¬2*cW x<cW y)(c2:2*cW y<cW x):OO (sgI 0) (sgI x)=p6 x y:=by
 have hx:x≠0:=fun h=>by
  subst h;unfold cW at c2;split at c2<;>simp at c2<;>omega
 unfold p6;rw[if_neg (fun h=>c1 h.1),if_neg c1];rcases Ur hx with h | h
 ·rw[if_neg (by omega),if_pos c2,zM h];rfl
 ·rw[if_pos ⟨c2,h⟩,zN h];rfl
theorem PY{x y:Int}(c1: ¬2*cW x<cW y)(c2: ¬2*cW y<cW x)(hz: ¬(x=0/\y=0)):OO (sgI y) (sgI x)=p6 x y:=by
 have ha: ∀z:Int,0<=cW z/\(cW z=0↔z=0):=fun z=>by unfold cW;split<;>omega
 have hx:=ha x;have hy:=ha y;have nx:x≠0:=fun h=>by
  have:=hx.2.2 h;have:cW y=0:=by omega
  exact hz ⟨h,hy.2.1 this⟩
 have ny:y≠0:=fun h=>by
  have:=hy.2.2 h;have:cW x=0:=by omega
  exact hz ⟨hx.2.1 this,h⟩
 unfold p6;rw[if_neg (fun h=>c1 h.1),if_neg c1,if_neg (fun h=>c2 h.1),if_neg c2];rcases Ur nx with h | h<;>rcases Ur ny with k | k
 ·rw[zM h,zM k,if_neg (by omega),if_neg (by omega),if_pos k];rfl
 ·rw[zM h,zN k,if_neg (by omega),if_neg (by omega),if_neg (by omega)];rfl
 ·rw[zN h,zM k,if_neg (by omega),if_pos h];rfl
 ·rw[zN h,zN k,if_pos ⟨h,k⟩];rfl
section
variable {a p : aH}
theorem GR(ha:jr a=true)(hp:jr p=true)(hne: ¬(p.X=a.X/\p.Y=a.Y)):jP a p=some (p6 (p.X - a.X) (p.Y - a.Y)):=by
 have h1:=jZ ha;have h2:=jZ hp;unfold jP;rw[br (x:=p.X - a.X) (by omega),br (x:=p.Y - a.Y) (by omega)];have hx:(p.X - a.X).natAbs<=2000:=by omega
 have hy:(p.Y - a.Y).natAbs<=2000:=by omega
 have hz: ¬(p.X - a.X=0/\p.Y - a.Y=0):=by omega
 generalize p.X - a.X=x at*;generalize p.Y - a.Y=y at*;have ax:(cW x).natAbs<=2000:=by unfold cW;split<;>omega
 have ay:(cW y).natAbs<=2000:=by unfold cW;split<;>omega
 simp only[tf (show x.natAbs<=1000000000 by omega),tf (show y.natAbs<=1000000000 by omega),QY,br (show(2*cW x).natAbs<=1000000000000000000 by omega),br (show(2*cW y).natAbs<=1000000000000000000 by omega)];by_cases c1:2*cW x<cW y
 ·simp only[decide_eq_true c1,cond_true,QY,Fx];rw[Jk _ _ (oH _) (oH _),PW c1]
 ·simp only[decide_eq_false c1,cond_false];by_cases c2:2*cW y<cW x
  ·simp only[decide_eq_true c2,cond_true,QY,Fx];rw[Jk _ _ (oH _) (oH _),PX c1 c2]
  ·simp only[decide_eq_false c2,cond_false,QY,Fx];rw[Jk _ _ (oH _) (oH _),PY c1 c2 hz]
theorem HN(ha:jr a=true)(hp:jr p=true):df a p=some (p6 (p.X - a.X) (p.Y - a.Y)):=by
 have h1:=jZ ha;have h2:=jZ hp;unfold df;rw[br (x:=p.X - a.X) (by omega),br (x:=p.Y - a.Y) (by omega)];have hx:(p.X - a.X).natAbs<=2000:=by omega
 have hy:(p.Y - a.Y).natAbs<=2000:=by omega
 generalize p.X - a.X=x at*;generalize p.Y - a.Y=y at*;have ax:(cW x).natAbs<=2000:=by unfold cW;split<;>omega
 have ay:(cW y).natAbs<=2000:=by unfold cW;split<;>omega
 simp only[AJ (show x.natAbs<=1000000000 by omega),AJ (show y.natAbs<=1000000000 by omega),QY,br (show(2*cW x).natAbs<=1000000000000000000 by omega),br (show(2*cW y).natAbs<=1000000000000000000 by omega)];unfold p6;by_cases c1:2*cW x<cW y<;>by_cases c2:2*cW y<cW x<;>by_cases c3:x>0<;>by_cases c4:y>0<;>by_cases c5:y<0<;>simp[c1,c2,c3,c4,c5]
end

theorem Fs(s p:ByteArray):strings_HasPrefix s p=some (decide (p.size<=s.size)&&(s.data.toList.take p.size==p.data.toList)):=by
 unfold strings_HasPrefix cy;by_cases h:p.size<=s.size
 ·rw[decide_eq_true (show(s.size:Int)>=(p.size:Int) by omega),decide_eq_true h];have:=Ac (s:=s) (a:=0) (b:=p.size) (R0 _) h;rw[show((0:Nat):Int)=0 from rfl]at this;simp only[cond_true,this,QY,toList_eq,TL,TW,Se]
 ·rw[decide_eq_false (show ¬(s.size:Int)>=(p.size:Int) by omega),decide_eq_false h];rfl
theorem IH(d:ak)(hu:pZ d.Unit d.Count=true)(h1:1<=d.Count)(h2:d.Count<=99):fk d=some (d.Count*lc d.Unit d.Count):=by
 unfold fk;rw[Fs,QY];unfold pZ lc at*;have e1:ao (4*d.Count)=d.Count*4:=by rw[br (by omega)];omega
 have e2:ao (12*d.Count)=d.Count*12:=by rw[br (by omega)];omega
 cases hc:(d.Count==1)
 ·rw[hc,cond_false,Rw,fO,fO]at hu;rcases hu with hu | hu
  ·rw[hu,show(decide (kI.size<=qk.size)&&(qk.data.toList.take kI.size==kI.data.toList))=true from rfl,fO.2 rfl];simp only[cond_true,cond_false,e1]
  ·have:(k8.toList==qk.toList)=false:=by rw[EQ,J2];rfl
   rw[hu,show(decide (kI.size<=k8.size)&&(k8.data.toList.take kI.size==kI.data.toList))=false from rfl,fO.2 rfl,this];simp only[cond_true,cond_false,e2]
 ·rw[hc,cond_true,Rw,fO,fO]at hu;rcases hu with hu | hu
  ·rw[hu,show(decide (kI.size<=kI.size)&&(kI.data.toList.take kI.size==kI.data.toList))=true from rfl,fO.2 rfl];simp only[cond_true,e1]
  ·have:(ng.toList==kI.toList)=false:=by rw[Hs,MP];rfl
   rw[hu,show(decide (kI.size<=ng.size)&&(ng.data.toList.take kI.size==kI.data.toList))=false from rfl,fO.2 rfl,this];simp only[cond_true,cond_false,e2]
def wK(a p:aH):Bool:=(p.X==a.X)&&(p.Y==a.Y)
theorem MX{a p:aH}(h:wK a p=false): ¬(p.X=a.X/\p.Y=a.Y):=by
 unfold wK at h;rw[Bool.and_eq_false_iff]at h;simp only[beq_eq_false_iff_ne]at h;omega
def DX(x y:Int):Int:=(x - y) % 8
def FH(t:Int):Bool:=(t==0) || ((t==1) || (t==7))
def GM(d:ak)(a p:aH):Bool:= !wK a p&&(inB (16*sqN a p) (9*(d.Count*lc d.Unit d.Count)*(d.Count*lc d.Unit d.Count)) (25*(d.Count*lc d.Unit d.Count)*(d.Count*lc d.Unit d.Count))&&FH (DX (p6 (p.X - a.X) (p.Y - a.Y)) d.Direction))
theorem Nq(u:ByteArray)(c:Int):0<=lc u c/\lc u c<=12:=by
 unfold lc;cases (c==1)<;>simp only[cond_true,cond_false]
 ·cases (u.toList==qk.toList)<;>cases (u.toList==k8.toList)<;>simp
 ·cases (u.toList==kI.toList)<;>cases (u.toList==ng.toList)<;>simp
theorem Mz{x y:Int}(hx:0<=x/\x<=7)(hy:0<=y/\y<=7):RW (ao ((ao (x - y))+8)) 8=DX x y:=by
 rw[br (x:=x - y) (by omega),br (by omega),SB (by omega)];unfold DX;omega
theorem MA{x y:Int}(hx:0<=x/\x<=7)(hy:0<=y/\y<=7):nI (ao (x - y)) 8=some (DX x y):=by
 unfold nI;rw[O6 (by decide),QY,QY,br (x:=x - y) (by omega)];congr 1;unfold DX;have h1:RW (x - y) 8=x - y:=by
  rcases Int.le_total 0 (x - y)with h | h
  ·rw[SB h];omega
  ·have:=Int.neg_tmod (x - y) 8;have h2:RW (-(x - y)) 8= -(x - y):=by rw[SB (by omega)];omega
   rw[h2]at this;omega
 rw[h1,br (by omega),SB (by omega)];omega
section
variable {a b p : aH} {d : ak}
theorem E0(hu:1<=d.Count/\d.Count<=99):0<=d.Count*lc d.Unit d.Count/\(d.Count*lc d.Unit d.Count).natAbs<=1188:=by
 have h:=Nq d.Unit d.Count;exact⟨Int.mul_nonneg (by omega) h.1,tE (m:=99) (n:=12) (by omega) (by omega)⟩
theorem KB(ha:jr a=true)(hp:jr p=true)(hu:pZ d.Unit d.Count=true)(h1:1<=d.Count/\d.Count<=99)(h2:0<=d.Direction/\d.Direction<=7):dw d a p=some (GM d a p):=by
 unfold dw GM;obtain⟨w0,w1⟩:=E0 h1;obtain⟨s0,s1⟩:=yt ha hp;rw[IH d hu h1.1 h1.2,QY,BE ha hp,QY,show((p.X==a.X)&&(p.Y==a.Y))=wK a p from rfl];generalize hn:d.Count*lc d.Unit d.Count=n at*;have b1:=tE (x:=9*n) (y:=n) (m:=10692) (n:=1188) (by omega) (by omega);have b2:=tE (x:=25*n) (y:=n) (m:=29700) (n:=1188) (by omega) (by omega);rw[br (x:=16*sqN a p) (by omega),br (x:=9*n) (by omega),br (x:=25*n) (by omega),br (x:=9*n*n) (by omega),br (x:=25*n*n) (by omega),gw];cases hs:wK a p with
 | true=>rfl
 | false=>
  rw[GR ha hp (MX hs)];simp only[cond_false,QY,Mz (vO _ _) h2];cases inB (16*sqN a p) (9*n*n) (25*n*n)<;>rfl
theorem C3(ha:jr a=true)(hp:jr p=true)(h1:1<=d.Count/\d.Count<=99)(h2:0<=d.Direction/\d.Direction<=7){R:Type}:
  (bif((decide ((ao (16*sqN a p))<(ao ((ao (9*(ao (d.Count*lc d.Unit d.Count))))*(ao (d.Count*lc d.Unit d.Count)))))) || ((decide ((ao (16*sqN a p))>(ao ((ao (25*(ao (d.Count*lc d.Unit d.Count))))*(ao (d.Count*lc d.Unit d.Count)))))) || ((p.X==a.X)&&(p.Y==a.Y))))then some (S1 false:R⊕Bool)else((df a p).bind fun x7=>((nI (ao (x7 - d.Direction)) 8).bind fun x8=>some (.inr ((x8==0) || ((x8==1) || (x8==7)))))))=some (.inr (GM d a p)):=by
 obtain⟨w0,w1⟩:=E0 h1;obtain⟨s0,s1⟩:=yt ha hp;unfold GM;rw[show((p.X==a.X)&&(p.Y==a.Y))=wK a p from rfl];generalize hn:d.Count*lc d.Unit d.Count=n at*;have b1:=tE (x:=9*n) (y:=n) (m:=10692) (n:=1188) (by omega) (by omega);have b2:=tE (x:=25*n) (y:=n) (m:=29700) (n:=1188) (by omega) (by omega);rw[br (x:=16*sqN a p) (by omega),br (x:=n) (by omega),br (x:=9*n) (by omega),br (x:=25*n) (by omega),br (x:=9*n*n) (by omega),br (x:=25*n*n) (by omega),HN ha hp,QY,MA (vO _ _) h2,QY];rw[show inB (16*sqN a p) (9*n*n) (25*n*n)= !(decide (16*sqN a p<9*n*n) || decide (16*sqN a p>25*n*n)) by
  rw[S7,ic];simp<;>omega]
 rw[show((DX (p6 (p.X - a.X) (p.Y - a.Y)) d.Direction==0) || ((DX (p6 (p.X - a.X) (p.Y - a.Y)) d.Direction==1) || (DX (p6 (p.X - a.X) (p.Y - a.Y)) d.Direction==7)))=FH (DX (p6 (p.X - a.X) (p.Y - a.Y)) d.Direction)from rfl];generalize decide (16*sqN a p<9*n*n)=q1;generalize decide (16*sqN a p>25*n*n)=q2;generalize FH (DX (p6 (p.X - a.X) (p.Y - a.Y)) d.Direction)=q3;cases q1<;>cases q2<;>cases wK a p<;>cases q3<;>rfl
def E6(a b p:aH):Int:=(p.X - a.X)*(b.X - a.X)+(p.Y - a.Y)*(b.Y - a.Y)
def Gl(a b p:aH):Bool:=bif wK b a then wK a p else inB (E6 a b p) 0 (sqN a b)&&decide (4*cW (tuN a b p)<=sqN a b)
theorem Jw(ha:jr a=true)(hb:jr b=true)(hp:jr p=true):ao ((ao ((ao (p.X - a.X))*(ao (b.X - a.X))))+(ao ((ao (p.Y - a.Y))*(ao (b.Y - a.Y)))))=E6 a b p:=by
 have h1:=jZ ha;have h2:=jZ hp;have h3:=jZ hb;have b1:=tE (x:=p.X - a.X) (y:=b.X - a.X) (m:=2000) (n:=2000) (by omega) (by omega);have b2:=tE (x:=p.Y - a.Y) (y:=b.Y - a.Y) (m:=2000) (n:=2000) (by omega) (by omega);rw[br (x:=p.X - a.X) (by omega),br (x:=b.X - a.X) (by omega),br (x:=p.Y - a.Y) (by omega),br (x:=b.Y - a.Y) (by omega),br (x:=(p.X - a.X)*(b.X - a.X)) (by omega),br (x:=(p.Y - a.Y)*(b.Y - a.Y)) (by omega),br (by omega)];rfl
theorem Kz(ha:jr a=true)(hb:jr b=true)(hp:jr p=true):jQ a b p=some (Gl a b p):=by
 unfold jQ Gl;have ht:=H2 ha hb hp;have hab:(cW (tuN a b p)).natAbs<=8000000:=by unfold cW;split<;>omega
 rw[show((a.X==b.X)&&(a.Y==b.Y))=wK b a from rfl,Jw ha hb hp,BE ha hb,Og ha hb hp];simp only[QY,gw,tf (show(tuN a b p).natAbs<=1000000000 by omega),br (show(4*cW (tuN a b p)).natAbs<=1000000000000000000 by omega)];cases wK b a
 ·cases inB (E6 a b p) 0 (sqN a b)<;>rfl
 ·rfl
theorem Ql(t A:Int)(hA:0<=A):decide (16*t*t<=A*A)=decide (4*cW t<=A):=by
 have e1:16*t*t=(4*cW t)*(4*cW t):=by
  have:cW t*cW t=t*t:=by
   unfold cW;split
   ·rw[Int.neg_mul_neg]
   ·rfl
  rw[show(4*cW t)*(4*cW t)=16*(cW t*cW t) by rw[Int.mul_assoc,show cW t*(4*cW t)=4*(cW t*cW t)from Int.mul_left_comm _ _ _];omega,this,Int.mul_assoc]
 have h0:0<=4*cW t:=by unfold cW;split<;>omega
 rw[e1];generalize 4*cW t=x at*;obtain⟨m,rfl⟩:=RT h0;obtain⟨n,rfl⟩:=RT hA;rw[decide_eq_decide];constructor
 ·intro h;have h2:m*m<=n*n:=by exact_mod_cast h
  have:=Nat.mul_self_le_mul_self_iff.1 h2;omega
 ·intro h;have h2:m<=n:=by omega
  have:=Nat.mul_self_le_mul_self h2
  exact_mod_cast this
theorem La(ha:jr a=true)(hb:jr b=true)(hp:jr p=true):lq a b p=some (Gl a b p):=by
 unfold lq Gl;have ht:=H2 ha hb hp;obtain⟨s0,s1⟩:=yt ha hb;have b1:=tE (x:=16*tuN a b p) (y:=tuN a b p) (m:=128000000) (n:=8000000) (by omega) (by omega);have b2:=tE (x:=sqN a b) (y:=sqN a b) (m:=8000000) (n:=8000000) (by omega) (by omega);rw[show((a.X==b.X)&&(a.Y==b.Y))=wK b a from rfl,Jw ha hb hp,F2 ha hb,OJ ha hb hp];simp only[QY,jW];rw[br (x:=16*tuN a b p) (by omega),br (x:=16*tuN a b p*tuN a b p) (by omega),br (x:=sqN a b*sqN a b) (by omega),Ql _ _ s0];cases wK b a
 ·cases inB (E6 a b p) 0 (sqN a b)<;>rfl
 ·rfl
end
def OH(L:List Site)(d:ak)(p:aH):Bool:=
 let a:=(qf L d.A).1
 bif d.Kind==0 then wK a p else bif d.Kind==1 then decide (sqN a p<=64)else bif d.Kind==2 then GM d a p else Gl a (qf L d.B).1 p
theorem uR{L:List Site}{c:ByteArray}(h:L.any (gO c)=true): ∃s,s∈L/\at' L (iy (gO c) L)=some s/\qf L c=(s.At,true):=by
 rcases xy (gO c) L with⟨_,h2⟩ | ⟨i,x,h1,h2,h3⟩
 ·rw[<-List.isSome_find?,h2]at h;cases h
 ·refine⟨x,Q3 h2,by rw[h1,aF,h2],?_⟩;unfold qf;rw[h3]
theorem oD{d:ak}(h:eE d=true)(hk:d.Kind=2):pZ d.Unit d.Count=true/\(1<=d.Count/\d.Count<=99)/\0<=d.Direction/\d.Direction<=7:=by
 unfold eE at h;rw[hk,show((2:Int)==2)=true from rfl,cond_true]at h;simp only[Q4,ic]at h;exact⟨h.2.2.1,h.2.1,h.2.2.2.1⟩
theorem mK{d:ak}(h:eE d=true):d.Kind=0\/d.Kind=1\/d.Kind=2\/d.Kind=3:=by
 unfold eE at h;cases h2:(d.Kind==2)
 ·rw[h2,cond_false]at h;simp only[Q4]at h;have h5:=h.2.2.2.2;cases h01:((d.Kind==0) || (d.Kind==1))with
  | true=>
   simp only[Rw,beq_iff_eq]at h01;omega
  | false=>
   rw[h01,cond_false,Q4]at h5;have:d.Kind=3:=by simpa using h5.1
   omega
 ·have:d.Kind=2:=by simpa using h2
  omega
section
variable {L : List Site} {d : ak} {p : aH}
theorem Mf(hL:L.length<=10)(hs:Jc L)(hpt: ∀x∈L,jI x.Code=true/\jr x.At=true)(hd:eE d=true)(hl:zA L d=false)(hp:jr p=true):ma L d p=some (OH L d p):=by
 unfold zA at hl;rw[Sf]at hl;obtain⟨sA,mA,_,eA⟩:=uR (L:=L) (c:=d.A) (by simpa using hl.1);have pA:=(hpt sA mA).2;unfold ma OH;rw[pD hL hs,pD hL hs,QY,eA,BE pA hp];simp only[QY];rw[show((p.X==sA.At.X)&&(p.Y==sA.At.Y))=wK sA.At p from rfl];rcases mK hd with hk | hk | hk | hk
 ·rw[hk];rfl
 ·rw[hk];rfl
 ·obtain⟨h1,h2,h3⟩:=oD hd hk;rw[KB pA hp h1 h2 h3,hk];rfl
 ·obtain⟨sB,mB,_,eB⟩:=uR (L:=L) (c:=d.B) (by rw[hk]at hl;simpa using hl.2);have pB:=(hpt sB mB).2;rw[eB,Kz pA pB hp,hk];rfl
theorem M6(hL:L.length<=10)(hpt: ∀x∈L,jI x.Code=true/\jr x.At=true)(hu:d.Unit.size<=1048576)(hd:eE d=true)(hl:zA L d=false)(hp:jr p=true):gL L d p=some (OH L d p):=by
 unfold zA at hl;rw[Sf]at hl;obtain⟨sA,mA,aA,eA⟩:=uR (L:=L) (c:=d.A) (by simpa using hl.1);have pA:=(hpt sA mA).2;unfold gL OH;rw[tH (by omega),tH (by omega),QY,aA,QY,eA,F2 pA hp,QY];rcases mK hd with hk | hk | hk | hk
 ·rw[hk];rfl
 ·rw[hk];rfl
 ·obtain⟨h1,h2,h3⟩:=oD hd hk;rw[EW d.Unit d.Count hu,QY,C3 pA hp h2 h3,hk];rfl
 ·obtain⟨sB,mB,aB,eB⟩:=uR (L:=L) (c:=d.B) (by rw[hk]at hl;simpa using hl.2);have pB:=(hpt sB mB).2;simp only[QY,aB];rw[eB,La pA pB hp,hk];rfl
end
abbrev tAt:ByteArray:=QZ #[97,116]
abbrev oc:ByteArray:=QZ #[110,101,97,114]
abbrev sG:ByteArray:=QZ #[98,101,116,119,101,101,110]
abbrev vr:ByteArray:=QZ #[97,110,100]
abbrev tOf:ByteArray:=QZ #[111,102]
def mz(i:Int):ByteArray:=cX.getD i.toNat tNo
theorem wV{i:Int}(h0:0<=i)(h7:i<=7):at' cX i=some (mz i)/\(mz i).size<=9/\32∉(mz i).data.toList/\iy (fun x:ByteArray=>x.toList==(mz i).toList) cX=i:=by
 obtain⟨m,rfl⟩:=RT h0;have hm:m<8:=by omega
 have h9: ∀k:Fin 8,(cX.getD k.val tNo).size<=9/\32∉(cX.getD k.val tNo).data.toList:=by decide
 have hl:cX.length=8:=rfl;have hd: ∀i j:Fin 8,((cX.getD i.val tNo).data.toList==(cX.getD j.val tNo).data.toList)=decide (i=j):=by decide
 have h1:=h9 ⟨m,hm⟩;have hget: ∀(k:Nat) (h:k<cX.length),cX.getD k tNo=cX[k]:=fun k h=>by
  rw[Ro,Q0 h];rfl
 refine⟨?_,h1.1,h1.2,?_⟩
 ·rw[aF,Q0 (by omega),<-hget m (by omega)];rfl
 ·have key: ∀(L:List ByteArray) (p:ByteArray->Bool) (m:Nat),m<L.length->(∀k,k<L.length->p (L.getD k tNo)=decide (k=m))->iy p L=(m:Int):=by
   intro L p
   induction L with
   | nil=>intro m h;simp at h
   | cons x L ih=>
    intro m hm hp;unfold iy;have h0:=hp 0 (by simp);rw[List.getD_cons_zero]at h0;rw[h0];cases m with
    | zero=>rfl
    | succ m=>
     have:=ih m (by simpa using hm) (fun k hk=>by
      have:=hp (k+1) (by simpa using hk);rw[List.getD_cons_succ]at this;rw[this];simp)
     rw[decide_eq_false (by omega),cond_false];dsimp only;rw[this,decide_eq_false (by omega),cond_false];omega
  refine key cX _ m (by omega) fun k hk=> ?_;have:=hd ⟨k,by omega⟩ ⟨m,hm⟩;simp only[Fin.mk.injEq]at this;rw[<-this,toList_eq,toList_eq];rfl
theorem CG(s:ByteArray):db cX s=some (iy (fun x:ByteArray=>x.toList==s.toList) cX):=by
 unfold db;rw[fV (by decide) (fun x:ByteArray=>s.toList==x.toList) (fun i x hx=>by rw[aF,hx];rfl)];congr 2;funext x;exact BEq.comm
def rz(d:ak):List ByteArray:=bif d.Kind==0 then[tAt,d.A]else bif d.Kind==1 then[oc,d.A]else bif d.Kind==2 then[cI d.Count,d.Unit,mz d.Direction,tOf,d.A]else[sG,d.A,vr,d.B]
def uo(d:ak):ByteArray:=dW (rz d) (QZ #[32])
theorem lu{d:ak}(h:eE d=true)(hk:d.Kind≠2):d.Count=0/\d.Unit=tNo/\d.Direction=0/\(d.Kind=3->jI d.B=true)/\(d.Kind≠3->d.B=tNo):=by
 unfold eE at h;rw[Q4,beq_eq_false_iff_ne.2 hk,cond_false,Q4,Q4,Q4,beq_iff_eq,beq_iff_eq]at h;obtain⟨_,h1,h2,h3,h4⟩:=h;refine⟨h1,fO.1 h2,h3,fun h5=> ?_,fun h5=> ?_⟩
 ·rw[h5]at h4;have h4:((3:Int)==3&&(jI d.B&& !(d.A.toList==d.B.toList)))=true:=h4;rw[Q4,Q4]at h4;exact h4.2.1
 ·cases hb:(d.Kind==0) || (d.Kind==1)
  ·rw[hb,cond_false,beq_eq_false_iff_ne.2 h5]at h4;cases h4
  ·rw[hb,cond_true]at h4;exact fO.1 h4
theorem Eu{s:ByteArray}(h:jI s=true):da s=true:=by
 unfold jI at h;rw[Q4]at h;exact h.1
theorem Ku{d:ak}(h:eE d=true):da d.A=true:=by
 unfold eE at h;rw[Q4]at h;exact Eu h.1
theorem Cg{d:ak}(h:eE d=true)(hk:d.Kind=2):d.B=tNo:=by
 unfold eE at h;rw[Q4,hk]at h;have h2:=h.2;have h2:(inB d.Count 1 99&&(pZ d.Unit d.Count&&(inB d.Direction 0 7&&noB d.B)))=true:=h2;rw[Q4,Q4,Q4]at h2;exact fO.1 h2.2.2.2
theorem OV{u:ByteArray}{c:Int}(h:pZ u c=true):32∉u.data.toList/\u.size<=7:=by
 have key: ∀t∈[kI,qk,ng,k8],32∉t.data.toList/\t.size<=7:=by decide
 unfold pZ at h;cases hc:(c==1)<;>rw[hc]at h
 ·have h:((u.toList==qk.toList) || (u.toList==k8.toList))=true:=h;rw[Rw]at h;rcases h with h | h<;>rw[fO.1 h]<;>exact key _ (by simp)
 ·have h:((u.toList==kI.toList) || (u.toList==ng.toList))=true:=h;rw[Rw]at h;rcases h with h | h<;>rw[fO.1 h]<;>exact key _ (by simp)
theorem O2{d:ak}(h:eE d=true)(hz:DY d):gC d=some (uo d)/\iV d=some (uo d):=by
 have ha:=hz.a;have hb:=hz.b;have hu:=hz.u;have z1:(QZ #[97,116,32]).size=3:=rfl;have z2:(QZ #[110,101,97,114,32]).size=5:=rfl;have z3:(QZ #[98,101,116,119,101,101,110,32]).size=8:=rfl;have z4:(QZ #[32,97,110,100,32]).size=5:=rfl;have z5:(QZ #[32]).size=1:=rfl;have z6:(QZ #[32,111,102,32]).size=4:=rfl;unfold gC iV uo rz;rcases mK h with hk | hk | hk | hk
 ·have e:QZ #[97,116,32]++d.A=dW [tAt,d.A] (QZ #[32]):=lP (by
   rw[e8,gq,dA,dA,dA];rfl)
  have k0:((0:Int)==0)=true:=rfl;simp only[hk,k0,cond_true];rw[cg (by omega),e];exact⟨rfl,rfl⟩
 ·have e:QZ #[110,101,97,114,32]++d.A=dW [oc,d.A] (QZ #[32]):=lP (by
   rw[e8,gq,dA,dA,dA];rfl)
  have k0:((1:Int)==0)=false:=rfl;have k1:((1:Int)==1)=true:=rfl;simp only[hk,k0,k1,cond_true,cond_false];rw[cg (by omega),e];exact⟨rfl,rfl⟩
 ·obtain⟨_,h1,h2⟩:=oD h hk;obtain⟨w1,w2,_,_⟩:=wV h2.1 h2.2;have z7:=bK (v:=d.Count) (by omega) (by omega);have hw:fq d.Direction=some (mz d.Direction):=by
   show((at' cX d.Direction).bind fun x1=>some x1)=_;rw[w1];rfl
  have e:cI d.Count++QZ #[32]++d.Unit++QZ #[32]++mz d.Direction++QZ #[32,111,102,32]++d.A=dW [cI d.Count,d.Unit,mz d.Direction,tOf,d.A] (QZ #[32]):=lP (by
   simp only[e8,gq,dA,Ry];rfl)
  have k0:((2:Int)==0)=false:=rfl;have k1:((2:Int)==1)=false:=rfl;have k2:((2:Int)==2)=true:=rfl;rw[hk,kR d.Count (by omega) (by omega),im (v:=d.Count) (by omega) (by omega),w1,hw];simp only[k0,k1,k2,cond_true,cond_false,QY];rw[cg (by omega)];simp only[QY];rw[cg (by simp only[Q9];omega)];simp only[QY];rw[cg (by simp only[Q9];omega)];simp only[QY];rw[cg (by simp only[Q9];omega)];simp only[QY];rw[cg (by simp only[Q9];omega)];simp only[QY];rw[cg (by simp only[Q9];omega),e];exact⟨rfl,rfl⟩
 ·have e:QZ #[98,101,116,119,101,101,110,32]++d.A++QZ #[32,97,110,100,32]++d.B=dW [sG,d.A,vr,d.B] (QZ #[32]):=lP (by
   simp only[e8,gq,dA,Ry];rfl)
  have k0:((3:Int)==0)=false:=rfl;have k1:((3:Int)==1)=false:=rfl;have k2:((3:Int)==2)=false:=rfl;rw[hk];simp only[k0,k1,k2,cond_false,QY,RH];rw[cg (by omega)];simp only[QY];rw[cg (by simp only[Q9];omega)];simp only[QY];rw[cg (by simp only[Q9];omega),e];exact⟨rfl,rfl⟩
theorem Ch{d:ak}(h:eE d=true):aZ (uo d) 32=rz d:=by
 have hs:small 32=false:=by decide
 have hA:=q5 (Ku h) hs;have c1:(32:UInt8)∉tAt.data.toList:=by decide
 have c2:(32:UInt8)∉oc.data.toList:=by decide
 have c3:(32:UInt8)∉sG.data.toList:=by decide
 have c4:(32:UInt8)∉vr.data.toList:=by decide
 have c5:(32:UInt8)∉tOf.data.toList:=by decide
 unfold uo;refine pW ?_ ?_
 ·unfold rz;rcases mK h with hk | hk | hk | hk<;>rw[hk]<;>exact List.cons_ne_nil _ _
 ·intro x hx;unfold rz at hx;rcases mK h with hk | hk | hk | hk<;>rw[hk]at hx
  ·have hx:x∈[tAt,d.A]:=hx;simp only[Ra,Sg,or_false]at hx;rcases hx with rfl | rfl<;>assumption
  ·have hx:x∈[oc,d.A]:=hx;simp only[Ra,Sg,or_false]at hx;rcases hx with rfl | rfl<;>assumption
  ·obtain⟨h1,h2,h3⟩:=oD h hk;have hx:x∈[cI d.Count,d.Unit,mz d.Direction,tOf,d.A]:=hx;simp only[Ra,Sg,or_false]at hx;rcases hx with rfl | rfl | rfl | rfl | rfl
   ·exact o3 (by decide) (by decide) _
   ·exact(OV h1).1
   ·exact(wV h3.1 h3.2).2.2.1
   ·exact c5
   ·exact hA
  ·have hB:=q5 (Eu ((lu h (by omega)).2.2.2.1 hk)) hs;have hx:x∈[sG,d.A,vr,d.B]:=hx;simp only[Ra,Sg,or_false]at hx;rcases hx with rfl | rfl | rfl | rfl<;>assumption
theorem nn{d:ak}{k c w:Int}{u a b:ByteArray}(h1:d.Kind=k)(h2:d.Count=c)(h3:d.Unit=u)(h4:d.Direction=w)(h5:d.A=a)(h6:d.B=b):ak.mk k c u w a b=d:=by
 cases d;simp only at h1 h2 h3 h4 h5 h6;rw[h1,h2,h3,h4,h5,h6]
abbrev Mt:ak:=ak.mk 0 0 (QZ #[]) 0 (QZ #[]) (QZ #[])
theorem ML{d:ak}(h:eE d=true):bt (rz d)=some d:=by
 have f1:(oc.toList==tAt.toList)=false:=by rw[toList_eq,toList_eq];rfl
 unfold rz;rcases mK h with hk | hk | hk | hk
 ·obtain⟨d1,d2,d3,_,d4⟩:=lu h (by omega);have e:=nn hk d1 d2 d3 rfl (d4 (by omega));rw[hk];show bt [tAt,d.A]=_;unfold bt;have a0:at' [tAt,d.A] 0=some tAt:=rfl;have a1:at' [tAt,d.A] 1=some d.A:=rfl;have l2:((([tAt,d.A]:List ByteArray).length:Int)==2)=true:=rfl;simp only[a0,a1,l2,cond_true,QY,beq_self_eq_true,RB];exact congrArg some e
 ·obtain⟨d1,d2,d3,_,d4⟩:=lu h (by omega);have e:=nn hk d1 d2 d3 rfl (d4 (by omega));rw[hk];show bt [oc,d.A]=_;unfold bt;have a0:at' [oc,d.A] 0=some oc:=rfl;have a1:at' [oc,d.A] 1=some d.A:=rfl;have l2:((([oc,d.A]:List ByteArray).length:Int)==2)=true:=rfl;simp only[a0,a1,l2,f1,cond_true,cond_false,QY,beq_self_eq_true,RB];exact congrArg some e
 ·obtain⟨h1,h2,h3⟩:=oD h hk;have z:=bK (v:=d.Count) (by omega) (by omega);have e:=nn hk rfl rfl rfl rfl (Cg h hk);rw[hk];show bt [cI d.Count,d.Unit,mz d.Direction,tOf,d.A]=_;unfold bt;have a0:at' [cI d.Count,d.Unit,mz d.Direction,tOf,d.A] 0=some (cI d.Count):=rfl;have a1:at' [cI d.Count,d.Unit,mz d.Direction,tOf,d.A] 1=some d.Unit:=rfl;have a2:at' [cI d.Count,d.Unit,mz d.Direction,tOf,d.A] 2=some (mz d.Direction):=rfl;have a4:at' [cI d.Count,d.Unit,mz d.Direction,tOf,d.A] 4=some d.A:=rfl;have l2:((([cI d.Count,d.Unit,mz d.Direction,tOf,d.A]:List ByteArray).length:Int)==2)=false:=rfl;have l4:((([cI d.Count,d.Unit,mz d.Direction,tOf,d.A]:List ByteArray).length:Int)==4)=false:=rfl;have l5:((([cI d.Count,d.Unit,mz d.Direction,tOf,d.A]:List ByteArray).length:Int)==5)=true:=rfl;simp only[a0,a1,a2,a4,l2,l4,l5,cond_true,cond_false,QY,dP (cI d.Count) (by omega),kq (cE d.Count) (show -10000000000000<d.Count by omega) (by omega),CG,(wV h3.1 h3.2).2.2.2,RB];exact congrArg some e
 ·obtain⟨d1,d2,d3,_,_⟩:=lu h (by omega);have e:=nn hk d1 d2 d3 rfl rfl;rw[hk];show bt [sG,d.A,vr,d.B]=_;unfold bt;have a0:at' [sG,d.A,vr,d.B] 0=some sG:=rfl;have a1:at' [sG,d.A,vr,d.B] 1=some d.A:=rfl;have a3:at' [sG,d.A,vr,d.B] 3=some d.B:=rfl;have l2:((([sG,d.A,vr,d.B]:List ByteArray).length:Int)==2)=false:=rfl;have l4:((([sG,d.A,vr,d.B]:List ByteArray).length:Int)==4)=true:=rfl;simp only[a0,a1,a3,l2,l4,cond_true,cond_false,QY,beq_self_eq_true,RB];exact congrArg some e
def nV(x1:List ByteArray):Option ak:=(((bif((x1.length:Int)==2)then((at' x1 0).bind fun x4=>some (x4.toList==(QZ #[97,116]).toList))else some false)).bind fun(j5:Bool)=>(bif j5 then((at' x1 1).bind fun x7=>some (ak.mk 0 0 (QZ #[]) 0 x7 (QZ #[])))else(((bif((x1.length:Int)==2)then((at' x1 0).bind fun x8=>some (x8.toList==(QZ #[110,101,97,114]).toList))else some false)).bind fun(j9:Bool)=>(bif j9 then((at' x1 1).bind fun x11=>some (ak.mk 1 0 (QZ #[]) 0 x11 (QZ #[])))else(((bif((x1.length:Int)==4)then((at' x1 0).bind fun x12=>some (x12.toList==(QZ #[98,101,116,119,101,101,110]).toList))else some false)).bind fun(j13:Bool)=>(bif j13 then((at' x1 1).bind fun x15=>((at' x1 3).bind fun x16=>some (ak.mk 3 0 (QZ #[]) 0 x15 x16)))else(bif((x1.length:Int)==5)then((at' x1 0).bind fun x17=>((bE x17).bind fun x18=>((at' x1 1).bind fun x19=>((at' x1 2).bind fun x20=>((eY x20).bind fun x21=>((at' x1 4).bind fun x22=>some (ak.mk 2 x18.1 x19 x21 x22 (QZ #[]))))))))else some (ak.mk (-1) 0 (QZ #[]) 0 (QZ #[]) (QZ #[])))))))))
theorem KW{d:ak}(h:eE d=true):nV (rz d)=some d:=by
 have f1:(oc.toList==tAt.toList)=false:=by rw[toList_eq,toList_eq];rfl
 unfold rz;rcases mK h with hk | hk | hk | hk
 ·obtain⟨d1,d2,d3,_,d4⟩:=lu h (by omega);have e:=nn hk d1 d2 d3 rfl (d4 (by omega));rw[hk];show nV [tAt,d.A]=_;unfold nV;have a0:at' [tAt,d.A] 0=some tAt:=rfl;have a1:at' [tAt,d.A] 1=some d.A:=rfl;have l2:((([tAt,d.A]:List ByteArray).length:Int)==2)=true:=rfl;simp only[a0,a1,l2,cond_true,QY,beq_self_eq_true];exact congrArg some e
 ·obtain⟨d1,d2,d3,_,d4⟩:=lu h (by omega);have e:=nn hk d1 d2 d3 rfl (d4 (by omega));rw[hk];show nV [oc,d.A]=_;unfold nV;have a0:at' [oc,d.A] 0=some oc:=rfl;have a1:at' [oc,d.A] 1=some d.A:=rfl;have l2:((([oc,d.A]:List ByteArray).length:Int)==2)=true:=rfl;simp only[a0,a1,l2,f1,cond_true,cond_false,QY,beq_self_eq_true];exact congrArg some e
 ·obtain⟨h1,h2,h3⟩:=oD h hk;have e:=nn hk rfl rfl rfl rfl (Cg h hk);rw[hk];show nV [cI d.Count,d.Unit,mz d.Direction,tOf,d.A]=_;unfold nV;have a0:at' [cI d.Count,d.Unit,mz d.Direction,tOf,d.A] 0=some (cI d.Count):=rfl;have a1:at' [cI d.Count,d.Unit,mz d.Direction,tOf,d.A] 1=some d.Unit:=rfl;have a2:at' [cI d.Count,d.Unit,mz d.Direction,tOf,d.A] 2=some (mz d.Direction):=rfl;have a4:at' [cI d.Count,d.Unit,mz d.Direction,tOf,d.A] 4=some d.A:=rfl;have l2:((([cI d.Count,d.Unit,mz d.Direction,tOf,d.A]:List ByteArray).length:Int)==2)=false:=rfl;have l4:((([cI d.Count,d.Unit,mz d.Direction,tOf,d.A]:List ByteArray).length:Int)==4)=false:=rfl;have l5:((([cI d.Count,d.Unit,mz d.Direction,tOf,d.A]:List ByteArray).length:Int)==5)=true:=rfl;simp only[a0,a1,a2,a4,l2,l4,l5,cond_true,cond_false,QY,wT (cE d.Count) (show 0<=d.Count by omega) (by omega),Iu,(wV h3.1 h3.2).2.2.2];exact congrArg some e
 ·obtain⟨d1,d2,d3,_,_⟩:=lu h (by omega);have e:=nn hk d1 d2 d3 rfl rfl;rw[hk];show nV [sG,d.A,vr,d.B]=_;unfold nV;have a0:at' [sG,d.A,vr,d.B] 0=some sG:=rfl;have a1:at' [sG,d.A,vr,d.B] 1=some d.A:=rfl;have a3:at' [sG,d.A,vr,d.B] 3=some d.B:=rfl;have l2:((([sG,d.A,vr,d.B]:List ByteArray).length:Int)==2)=false:=rfl;have l4:((([sG,d.A,vr,d.B]:List ByteArray).length:Int)==4)=true:=rfl;simp only[a0,a1,a3,l2,l4,cond_true,cond_false,QY,beq_self_eq_true];exact congrArg some e
theorem KX{W:List ByteArray}(hW: ∀x∈W,x.size<=1048576):(∃d,bt W=some d/\DY d)/\ ∃d,nV W=some d/\DY d:=by
 have z:(QZ #[]).size=0:=rfl;have oz: ∀{k c w:Int} {u a b:ByteArray},u.size<=1048576->a.size<=1048576->b.size<=1048576->DY (ak.mk k c u w a b):=fun h1 h2 h3=>⟨h1,h2,h3⟩;unfold bt nV;by_cases h2:W.length=2
 ·obtain⟨a,b,rfl⟩:=Np h2;have hb:=hW b (by simp);have a0:at' [a,b] 0=some a:=rfl;have a1:at' [a,b] 1=some b:=rfl;have l2:((([a,b]:List ByteArray).length:Int)==2)=true:=rfl;have l4:((([a,b]:List ByteArray).length:Int)==4)=false:=rfl;have l5:((([a,b]:List ByteArray).length:Int)==5)=false:=rfl;simp only[a0,a1,l2,l4,l5,cond_true,cond_false,QY];cases (a.toList==(QZ #[97,116]).toList)
  ·cases (a.toList==(QZ #[110,101,97,114]).toList)
   ·exact⟨⟨_,rfl,oz (by omega) (by omega) (by omega)⟩,_,rfl,oz (by omega) (by omega) (by omega)⟩
   ·exact⟨⟨_,rfl,oz (by omega) hb (by omega)⟩,_,rfl,oz (by omega) hb (by omega)⟩
  ·exact⟨⟨_,rfl,oz (by omega) hb (by omega)⟩,_,rfl,oz (by omega) hb (by omega)⟩
 have l2:((W.length:Int)==2)=false:=by
  rw[beq_eq_false_iff_ne];omega
 by_cases h5:W.length=5
 ·match W,h5 with
  | [a,b,c,d,e],_=>
   have ha:=hW a (by simp);have hb:=hW b (by simp);have he:=hW e (by simp);have a0:at' [a,b,c,d,e] 0=some a:=rfl;have a1:at' [a,b,c,d,e] 1=some b:=rfl;have a2:at' [a,b,c,d,e] 2=some c:=rfl;have a4:at' [a,b,c,d,e] 4=some e:=rfl;have l4:((([a,b,c,d,e]:List ByteArray).length:Int)==4)=false:=rfl;have l5:((([a,b,c,d,e]:List ByteArray).length:Int)==5)=true:=rfl;obtain⟨n,f,n1,_⟩:=jl a;simp only[a0,a1,a2,a4,l2,l4,l5,cond_true,cond_false,QY,dP a ha,CG,Iu,n1];exact⟨⟨_,rfl,oz hb he (by omega)⟩,_,rfl,oz hb he (by omega)⟩
 have l5:((W.length:Int)==5)=false:=by
  rw[beq_eq_false_iff_ne];omega
 by_cases h4:W.length=4
 ·match W,h4 with
  | [a,b,c,d],_=>
   have hb:=hW b (by simp);have hd:=hW d (by simp);have a0:at' [a,b,c,d] 0=some a:=rfl;have a1:at' [a,b,c,d] 1=some b:=rfl;have a3:at' [a,b,c,d] 3=some d:=rfl;have l4:((([a,b,c,d]:List ByteArray).length:Int)==4)=true:=rfl;simp only[a0,a1,a3,l2,l4,l5,cond_true,cond_false,QY];cases (a.toList==(QZ #[98,101,116,119,101,101,110]).toList)
   ·exact⟨⟨_,rfl,oz (by omega) (by omega) (by omega)⟩,_,rfl,oz (by omega) (by omega) (by omega)⟩
   ·exact⟨⟨_,rfl,oz (by omega) hb hd⟩,_,rfl,oz (by omega) hb hd⟩
 have l4:((W.length:Int)==4)=false:=by
  rw[beq_eq_false_iff_ne];omega
 simp only[l2,l4,l5,cond_false,QY];exact⟨⟨_,rfl,oz (by omega) (by omega) (by omega)⟩,_,rfl,oz (by omega) (by omega) (by omega)⟩
theorem Ht(s:ByteArray)(hz:s.size<=1048576): ∃d e,eJ s=some (d,e)/\eN s=some (d,e)/\(e=6\/e=0/\eE d=true/\DY d):=by
 have hsp:strings_Split s (QZ #[32])=some (aZ s 32):=by
  unfold strings_Split;have h0:(QZ #[32]).data.toList=[32]:=rfl;rw[h0];dsimp only;rw[decide_eq_true (by omega),cond_true]
 have hsp2:bG s 32=some (aZ s 32):=dj s 32 (by omega);have hws: ∀x∈aZ s 32,x.size<=1048576:=fun x hx=>R7 (eR hx) hz;obtain⟨⟨d,d1,d2⟩,⟨e,e1,e2⟩⟩:=KX hws;have hS:eN s=some (bif eE e&&(uo e).toList==s.toList then(e,0)else(Mt,6)):=by
  unfold eN;rw[hsp2,QY];show((nV (aZ s 32)).bind _)=_;rw[e1,QY,EU e e2,QY];cases h:eE e
  ·rfl
  ·rw[(O2 h e2).2];cases h2:((uo e).toList==s.toList)<;>simp[h2]
 have hI:eJ s=some (bif eE d&&(uo d).toList==s.toList then(d,0)else(Mt,6)):=by
  unfold eJ;rw[hsp,QY,d1,QY,EA d d2,QY];cases h:eE d
  ·rfl
  ·rw[(O2 h d2).1];cases h2:((uo d).toList==s.toList)<;>simp[h2]
 rw[hI,hS];cases hd:(eE d&&(uo d).toList==s.toList)
 ·cases he:(eE e&&(uo e).toList==s.toList)
  ·exact⟨_,_,rfl,rfl,.inl rfl⟩
  ·exfalso;rw[Q4]at he;have h3:=Ch he.1;rw[fO.1 he.2]at h3;rw[h3,ML he.1]at d1;injection d1 with d1;subst d1;rw[he.1,he.2]at hd;cases hd
 ·rw[Q4]at hd;have h3:=Ch hd.1;rw[fO.1 hd.2]at h3;rw[h3,KW hd.1]at e1;injection e1 with e1;subst e1;rw[hd.1,hd.2];exact⟨_,_,rfl,rfl,.inr ⟨rfl,hd.1,d2⟩⟩
theorem u7{a b:ByteArray}:(a.toList==b.toList)=true↔a=b:=by
 rw[beq_iff_eq,pY,pY];refine⟨fun h=> ?_,fun h=>by rw[h]⟩;obtain⟨a⟩:=a;obtain⟨b⟩:=b;have h:a.toList=b.toList:=h;rw[TK.1 h]
theorem AV{x c d:ByteArray}(h:(x.toList==c.toList)=true)(hcd: ¬c=d):(x.toList==d.toList)=false:=by
 rw[Rv];intro h2;exact hcd ((u7.1 h).symm.trans (u7.1 h2))
def xL(W:List ByteArray)(K:ByteArray):Option (Int×Bool):=cN (K.size:Int) (fun(i5:Int) (s5:Int×Bool)=>((cG K i5).bind fun x9=>(bif(x9==73)then((at' W (ao (i5+1))).bind fun x10=>((bE x10).bind fun x11=>some (x11.1,x11.2)))else(bif(x9==74)then((at' W (ao (i5+1))).bind fun x12=>((bu x12).bind fun x13=>some (x13.1,x13.2)))else some (s5.1,s5.2))))) (fun(s5:Int×Bool)=>(s5.1,s5.2)) 0 (0,true)
theorem EJ(W:List ByteArray){K:ByteArray}(hs:K.size<=100)(hK: ∀c∈K.data.toList,c=84):xL W K=some (0,true):=by
 unfold xL;obtain⟨h1,h2⟩:=ID (n:=K.size) (by omega) (B:=fun(i5:Int) (s5:Int×Bool)=>((cG K i5).bind fun x9=>(bif(x9==73)then((at' W (ao (i5+1))).bind fun x10=>((bE x10).bind fun x11=>some (x11.1,x11.2)))else(bif(x9==74)then((at' W (ao (i5+1))).bind fun x12=>((bu x12).bind fun x13=>some (x13.1,x13.2)))else some (s5.1,s5.2))))) (D:=fun(s5:Int×Bool)=>(s5.1,s5.2)) (fun s=>s=(0,true)) (fun s _=>s) (0,true) (fun i s hi hI=>by
  have hx:=byte_at hi;rw[hK _ (R2 _)]at hx;refine⟨?_,hI⟩;simp only[hx,QY];rfl) rfl
 rw[h1,h2]
theorem Qa{W:List ByteArray}{y:ByteArray}{r:Int}{b:Bool}(hy:W[1]? =some y)(hv:bE y=some (r,b)):xL W (QZ #[73])=some (r,b):=by
 unfold xL;have hb:cG (QZ #[73]) ((0:Nat):Int)=some 73:=rfl;have ha:at' W (ao (((0:Nat):Int)+1))=some y:=by
  have:=aF (L:=W) 1;rw[hy]at this;exact this
 have:=fH (A:=Int×Bool) 1 (by omega) (fun(i5:Int) (s5:Int×Bool)=>(((cG (QZ #[73]) i5).bind fun x9=>(bif(x9==73)then((at' W (ao (i5+1))).bind fun x10=>((bE x10).bind fun x11=>some (x11.1,x11.2)))else(bif(x9==74)then((at' W (ao (i5+1))).bind fun x12=>((bu x12).bind fun x13=>some (x13.1,x13.2)))else some (s5.1,s5.2))))).map (Tm (β:=Int×Bool))) (fun s5=>(s5.1,s5.2)) (0,true);rw[eU];refine Eq.trans this ?_;unfold dd;simp only[hb,QY,ha,hv];rfl
theorem Qb{W:List ByteArray}{y:ByteArray}{r:Int}{b:Bool}(hy:W[2]? =some y)(hv:bu y=some (r,b)):xL W (QZ #[84,74])=some (r,b):=by
 unfold xL;have hb0:cG (QZ #[84,74]) ((0:Nat):Int)=some 84:=rfl;have hb1:cG (QZ #[84,74]) ((1:Nat):Int)=some 74:=rfl;have ha:at' W (ao (((1:Nat):Int)+1))=some y:=by
  have:=aF (L:=W) 2;rw[hy]at this;exact this
 have:=fH (A:=Int×Bool) 2 (by omega) (fun(i5:Int) (s5:Int×Bool)=>(((cG (QZ #[84,74]) i5).bind fun x9=>(bif(x9==73)then((at' W (ao (i5+1))).bind fun x10=>((bE x10).bind fun x11=>some (x11.1,x11.2)))else(bif(x9==74)then((at' W (ao (i5+1))).bind fun x12=>((bu x12).bind fun x13=>some (x13.1,x13.2)))else some (s5.1,s5.2))))).map (Tm (β:=Int×Bool))) (fun s5=>(s5.1,s5.2)) (0,true);rw[eU];refine Eq.trans this ?_;unfold dd;simp only[hb0,QY,show((84:Int)==73)=false from rfl,show((84:Int)==74)=false from rfl,cond_false,Sx,RH,RR];unfold dd;simp only[hb1,QY,ha,hv];rfl
abbrev yZ:ByteArray:=QZ #[45]
theorem Mm{W:List ByteArray}(_hW:W.length<=1048577)(K:ByteArray){k:Nat}(hk:K.size=k)(hk9:k<=9):(bif((W.length:Int) !=(ao ((K.size:Int)+1)))then some yZ else some K:Option ByteArray)=bif decide (W.length=k+1)then some K else some yZ:=by
 rw[hk,aO (by omega) (by omega)];by_cases h:W.length=k+1
 ·rw[decide_eq_true h,show((W.length:Int) !=(k:Int)+1)=false by rw[bne_eq_false_iff_eq];omega];rfl
 ·rw[decide_eq_false h,show((W.length:Int) !=(k:Int)+1)=true by rw[bne_iff_ne];omega];rfl
def ry(W:List ByteArray)(o:Option ByteArray):Option (List ByteArray×Int×Bool):=o.bind fun x2=>(bif(x2.toList==yZ.toList)then some (([]:List ByteArray),(0:Int),false)else((xL W x2).bind fun(j3:Int×Bool)=>some (W,j3.1,j3.2)))
theorem wI(W:List ByteArray):ry W (some yZ)=some ([],0,false):=by
 unfold ry;rw[QY,u7.2 rfl];rfl
theorem CU{W:List ByteArray}{K:ByteArray}(hne: ¬K=yZ){r:Int}{b:Bool}(h:xL W K=some (r,b)):ry W (some K)=some (W,r,b):=by
 unfold ry;have:(K.toList==yZ.toList)=false:=by
  rw[Rv];exact fun h=>hne (u7.1 h)
 rw[QY,this,cond_false,h];rfl
theorem km{W:List ByteArray}(hW:W.length<=1048577)(K:ByteArray){k:Nat}(hk:K.size=k)(hk9:k<=9)(hne: ¬K=yZ){b:Bool}{P:Int->Prop}(hb:W.length=k+1-> ∃r,xL W K=some (r,b)/\(b=true->P r)): ∃V n,ry W (bif((W.length:Int) !=(ao ((K.size:Int)+1)))then some yZ else some K)=some (V,n,decide (W.length=k+1)&&b)/\((decide (W.length=k+1)&&b)=true->V=W/\W.length=k+1/\P n):=by
 rw[Mm hW K hk hk9];by_cases h:W.length=k+1
 ·obtain⟨r,hr,hp⟩:=hb h;rw[decide_eq_true h,cond_true,CU hne hr,Se];exact⟨_,_,rfl,fun h2=>⟨rfl,h,hp h2⟩⟩
 ·rw[decide_eq_false h,cond_false,wI,Ul];exact⟨_,_,rfl,fun h=>by cases h⟩
theorem uG{n k:Nat}:((n:Int)==(k:Int))=decide (n=k):=by
 rw[S7,beq_iff_eq,decide_eq_true_eq];omega
abbrev qj:ByteArray:=QZ #[99,111,114,101,115]
abbrev nh:ByteArray:=QZ #[114,101,112,97,105,114]
abbrev k9:ByteArray:=QZ #[115,111,117,114,99,101,115]
abbrev rO:ByteArray:=QZ #[99,108,97,105,109]
abbrev vG:ByteArray:=QZ #[100,114,111,112]
abbrev um:ByteArray:=QZ #[110,97,109,101]
abbrev mx:ByteArray:=QZ #[112,97,114,101,110,116]
abbrev sf:ByteArray:=QZ #[115,105,116,101]
abbrev wS:ByteArray:=QZ #[119,97,121]
abbrev vt:ByteArray:=QZ #[102,97,114]
abbrev mU:ByteArray:=QZ #[97,112,97,114,116]
abbrev od:ByteArray:=QZ #[116,101,115,116]
inductive Shape:List ByteArray->Int->Prop
 | one (x:ByteArray) (n:Int) (h:x=qj\/x=nh\/x=k9):Shape [x] n
 | claim (a:ByteArray) (n:Int):Shape [rO,a] n
 | drop (a:ByteArray) (n:Int) (h:gG a=(n,true)) (h0:0<=n) (h1:n<10000000000000):Shape [vG,a] n
 | told (x a b:ByteArray) (n:Int) (h:x=um\/x=mx) (hn:gG b=(n,true)):Shape [x,a,b] n
 | two (x a b:ByteArray) (n:Int) (h:x=sf\/x=wS\/x=vt\/x=mU):Shape [x,a,b] n
 | test (M:List ByteArray) (n:Int) (h:M.length=3\/M.length=5\/M.length=6):Shape (od::M) n
theorem l1{W:List ByteArray}{x:ByteArray}(h:at' W 0=some x)(hl:W.length=1):W=[x]:=by
 match W,hl with
 | [a],_=>
  have h:some a=some x:=h;injection h with h;rw[h]
theorem l2{W:List ByteArray}{x:ByteArray}(h:at' W 0=some x)(hl:W.length=2): ∃a,W=[x,a]:=by
 match W,hl with
 | [a,b],_=>
  have h:some a=some x:=h;injection h with h;exact⟨b,by rw[h]⟩
theorem l3{W:List ByteArray}{x:ByteArray}(h:at' W 0=some x)(hl:W.length=3): ∃a b,W=[x,a,b]:=by
 match W,hl with
 | [a,b,c],_=>
  have h:some a=some x:=h;injection h with h;exact⟨b,c,by rw[h]⟩
theorem Ln{s:ByteArray}{n:Int}{b:Bool}(h:bE s=some (n,b))(hb:b=true):gG s=(n,true)/\0<=n/\n<10000000000000:=by
 obtain⟨m,c,v1,v2,v3,v4,v5⟩:=jl s;rw[h]at v1;injection v1 with v1;injection v1 with e1 e2;rw[e1];rw[<-e2]at v2 v5;obtain⟨u,u1,u2⟩:=v2.1 hb;have h5:=v5 hb;rw[u1,lQ]at h5;refine⟨kq (v:=m) ?_ (by omega) (by omega),v3,v4⟩;rw[jV v3,u1,h5,Rk]
theorem I9{s:ByteArray}(hs:s.size<=1048576){n:Int}{b:Bool}(h:bu s=some (n,b))(hb:b=true):gG s=(n,true):=by
 obtain⟨m,c,v1,v2,_⟩:=oI s hs;rw[h]at v1;injection v1 with v1;injection v1 with e1 e2;rw[<-e2,<-e1]at v2;obtain⟨u1,u2,u3⟩:=v2 hb;exact kq u1 u2 u3
theorem Es{x:ByteArray}{M:List ByteArray}(hW:(x::M).length<=1048577)(hs: ∀y∈x::M,y.size<=1048576): ∃b V n,eK (x::M)=some b/\ry (x::M) (iW (x::M))=some (V,n,b)/\(b=true->V=x::M/\Shape (x::M) n):=by
 generalize hWe:x::M=W at hW hs;have h0:at' W 0=some x:=by rw[<-hWe];exact aF (L:=x::M) 0
 have hT: ∀k,k<=6-> ∀c∈((QZ #[84,84,84,84,84,84]).extract 0 k).data.toList,c=84:=by
  intro k hk c hc;rw[lS]at hc;have hc:=S4 (List.mem_of_mem_drop hc);simp at hc;exact hc
 unfold eK iW;simp only[h0,QY];have hcases: ∀c:ByteArray,(x.toList==c.toList)=true\/(x.toList==c.toList)=false:=fun c=>by cases x.toList==c.toList<;>simp
 rcases hcases (QZ #[99,111,114,101,115])with c1 | c1
 ·simp only[c1,cond_true,QY,RH,RB];obtain⟨V,n,e1,e2⟩:=km hW (QZ #[]) (k:=0) rfl (by omega) (by decide) (b:=true) (P:=fun _=>True) (fun _=>⟨0,EJ W (by decide) (by simp),fun _=>trivial⟩);rw[T9]at e1 e2;exact⟨_,V,n,congrArg some (uG (k:=1)),e1,fun h=>⟨(e2 h).1,by rw[l1 h0 (e2 h).2.1];exact .one _ _ (.inl (u7.1 c1))⟩⟩
 rcases hcases (QZ #[114,101,112,97,105,114])with c2 | c2
 ·simp only[c1,c2,cond_true,cond_false,QY,RH,RB];obtain⟨V,n,e1,e2⟩:=km hW (QZ #[]) (k:=0) rfl (by omega) (by decide) (b:=true) (P:=fun _=>True) (fun _=>⟨0,EJ W (by decide) (by simp),fun _=>trivial⟩);rw[T9]at e1 e2;exact⟨_,V,n,congrArg some (uG (k:=1)),e1,fun h=>⟨(e2 h).1,by rw[l1 h0 (e2 h).2.1];exact .one _ _ (.inr (.inl (u7.1 c2)))⟩⟩
 rcases hcases (QZ #[115,111,117,114,99,101,115])with c3 | c3
 ·simp only[c1,c2,c3,cond_true,cond_false,QY,RH,RB];obtain⟨V,n,e1,e2⟩:=km hW (QZ #[]) (k:=0) rfl (by omega) (by decide) (b:=true) (P:=fun _=>True) (fun _=>⟨0,EJ W (by decide) (by simp),fun _=>trivial⟩);rw[T9]at e1 e2;exact⟨_,V,n,congrArg some (uG (k:=1)),e1,fun h=>⟨(e2 h).1,by rw[l1 h0 (e2 h).2.1];exact .one _ _ (.inr (.inr (u7.1 c3)))⟩⟩
 rcases hcases (QZ #[99,108,97,105,109])with c4 | c4
 ·simp only[c1,c2,c3,c4,cond_true,cond_false,QY,RH,RB];obtain⟨V,n,e1,e2⟩:=km hW (QZ #[84]) (k:=1) rfl (by omega) (by decide) (b:=true) (P:=fun _=>True) (fun _=>⟨0,EJ W (by decide) (by simp),fun _=>trivial⟩);rw[T9]at e1 e2;refine⟨_,V,n,congrArg some (uG (k:=2)),e1,fun h=>⟨(e2 h).1,?_⟩⟩;obtain⟨a,ha⟩:=l2 h0 (e2 h).2.1;rw[ha,u7.1 c4];exact .claim a n
 rcases hcases (QZ #[100,114,111,112])with c5 | c5
 ·have d1:=AV c5 (d:=QZ #[115,105,116,101]) (by decide);have d2:=AV c5 (d:=QZ #[119,97,121]) (by decide);have d3:=AV c5 (d:=QZ #[102,97,114]) (by decide);have d4:=AV c5 (d:=QZ #[97,112,97,114,116]) (by decide);simp only[c1,c2,c3,c4,c5,d1,d2,d3,d4,cond_true,cond_false,QY,RH];by_cases hl:W.length=2
  ·have hy:W[1]? =some W[1]:=Q0 (by omega);obtain⟨b,r,b1,b2⟩:=Mh W[1] (hs _ (R2 _));have ha:at' W 1=some W[1]:=(aF (L:=W) 1).trans hy;have e2:((W.length:Int)==2)=true:=by rw[beq_iff_eq];omega
   simp only[e2,cond_true,ha,QY,b1,RB];obtain⟨V,n,f1,f2⟩:=km hW (QZ #[73]) (k:=1) rfl (by omega) (by decide) (b:=b) (P:=fun n=>gG W[1]=(n,true)/\0<=n/\n<10000000000000) (fun _=>⟨r,Qa hy b2,Ln b2⟩);rw[decide_eq_true hl,Se]at f1 f2;refine⟨_,V,n,rfl,f1,fun h=>⟨(f2 h).1,?_⟩⟩;obtain⟨a,ha2⟩:=l2 h0 hl;obtain⟨g1,g2,g3⟩:=(f2 h).2.2;have hWa:W[1]=a:=by
    have:=congrArg (fun l:List ByteArray=>l[1]?) ha2;simp only[SQ,T3]at this;rw[hy]at this;injection this
   rw[hWa]at g1;rw[ha2,u7.1 c5];exact .drop a n g1 g2 g3
  ·have e2:((W.length:Int)==2)=false:=by rw[beq_eq_false_iff_ne];omega
   simp only[e2,cond_false,QY,RB];obtain⟨V,n,f1,f2⟩:=km hW (QZ #[73]) (k:=1) rfl (by omega) (by decide) (b:=true) (P:=fun _=>True) (fun h=>absurd h hl);rw[decide_eq_false hl]at f1;exact⟨_,V,n,rfl,f1,fun h=>by cases h⟩
 have hname:(x=um\/x=mx)-> ∃b V n,(bif((W.length:Int)==3)then((at' W 2).bind fun x14=>((jR x14).bind fun x15=>some x15))else some false:Option Bool)=some b/\ry W (bif((W.length:Int) !=(ao (((QZ #[84,74]).size:Int)+1)))then some yZ else some (QZ #[84,74]))=some (V,n,b)/\(b=true->V=W/\Shape W n):=by
  intro hx;by_cases hl:W.length=3
  ·have hy:W[2]? =some W[2]:=Q0 (by omega);obtain⟨b,r,b1,b2⟩:=II W[2] (hs _ (R2 _));have ha:at' W 2=some W[2]:=(aF (L:=W) 2).trans hy;have e2:((W.length:Int)==3)=true:=by rw[beq_iff_eq];omega
   simp only[e2,cond_true,ha,QY,b1];obtain⟨V,n,f1,f2⟩:=km hW (QZ #[84,74]) (k:=2) rfl (by omega) (by decide) (b:=b) (P:=fun n=>gG W[2]=(n,true)) (fun _=>⟨r,Qb hy b2,I9 (hs _ (R2 _)) b2⟩);rw[decide_eq_true hl,Se]at f1 f2;refine⟨_,V,n,rfl,f1,fun h=>⟨(f2 h).1,?_⟩⟩;obtain⟨a,c,ha2⟩:=l3 h0 hl;have g1:=(f2 h).2.2;have hWa:W[2]=c:=by
    have:=congrArg (fun l:List ByteArray=>l[2]?) ha2;simp only[SQ,T3]at this;rw[hy]at this;injection this
   rw[hWa]at g1;rw[ha2];exact .told x a c n hx g1
  ·have e2:((W.length:Int)==3)=false:=by rw[beq_eq_false_iff_ne];omega
   simp only[e2,cond_false];obtain⟨V,n,f1,f2⟩:=km hW (QZ #[84,74]) (k:=2) rfl (by omega) (by decide) (b:=true) (P:=fun _=>True) (fun h=>absurd h hl);rw[decide_eq_false hl]at f1;exact⟨_,V,n,rfl,f1,fun h=>by cases h⟩
 rcases hcases (QZ #[110,97,109,101])with c6 | c6
 ·have d1:=AV c6 (d:=QZ #[115,105,116,101]) (by decide);have d2:=AV c6 (d:=QZ #[119,97,121]) (by decide);have d3:=AV c6 (d:=QZ #[102,97,114]) (by decide);have d4:=AV c6 (d:=QZ #[97,112,97,114,116]) (by decide);obtain⟨b,V,n,b1,b2⟩:=hname (.inl (u7.1 c6));simp only[c1,c2,c3,c4,c5,c6,d1,d2,d3,d4,cond_true,cond_false,QY,RH,b1,RB];exact⟨_,V,n,rfl,b2⟩
 rcases hcases (QZ #[112,97,114,101,110,116])with c7 | c7
 ·have d1:=AV c7 (d:=QZ #[115,105,116,101]) (by decide);have d2:=AV c7 (d:=QZ #[119,97,121]) (by decide);have d3:=AV c7 (d:=QZ #[102,97,114]) (by decide);have d4:=AV c7 (d:=QZ #[97,112,97,114,116]) (by decide);obtain⟨b,V,n,b1,b2⟩:=hname (.inr (u7.1 c7));simp only[c1,c2,c3,c4,c5,c6,c7,d1,d2,d3,d4,cond_true,cond_false,QY,RH,b1,RB];exact⟨_,V,n,rfl,b2⟩
 have hTT:(x=sf\/x=wS\/x=vt\/x=mU)-> ∃V n,ry W (bif((W.length:Int) !=(ao (((QZ #[84,84]).size:Int)+1)))then some yZ else some (QZ #[84,84]))=some (V,n,(W.length:Int)==3)/\(((W.length:Int)==3)=true->V=W/\Shape W n):=by
  intro hx;obtain⟨V,n,f1,f2⟩:=km hW (QZ #[84,84]) (k:=2) rfl (by omega) (by decide) (b:=true) (P:=fun _=>True) (fun _=>⟨0,EJ W (by decide) (by simp),fun _=>trivial⟩);rw[T9]at f1 f2;refine⟨V,n,f1.trans ?_,fun h=> ?_⟩
  ·rw[show((W.length:Int)==3)=decide (W.length=2+1)from uG (k:=3)]
  ·have h:decide (W.length=2+1)=true:=(uG (k:=3)).symm.trans h;obtain⟨a,c,ha2⟩:=l3 h0 (f2 h).2.1;exact⟨(f2 h).1,by rw[ha2];exact .two x a c n hx⟩
 rcases hcases (QZ #[115,105,116,101])with c8 | c8
 ·simp only[c1,c2,c3,c4,c5,c6,c7,c8,cond_true,cond_false,QY,RH,RB];obtain⟨V,n,f1,f2⟩:=hTT (.inl (u7.1 c8));exact⟨_,V,n,rfl,f1,f2⟩
 rcases hcases (QZ #[119,97,121])with c9 | c9
 ·simp only[c1,c2,c3,c4,c5,c6,c7,c8,c9,cond_true,cond_false,QY,RH,RB];obtain⟨V,n,f1,f2⟩:=hTT (.inr (.inl (u7.1 c9)));exact⟨_,V,n,rfl,f1,f2⟩
 rcases hcases (QZ #[102,97,114])with c10 | c10
 ·simp only[c1,c2,c3,c4,c5,c6,c7,c8,c9,c10,cond_true,cond_false,QY,RH,RB];obtain⟨V,n,f1,f2⟩:=hTT (.inr (.inr (.inl (u7.1 c10))));exact⟨_,V,n,rfl,f1,f2⟩
 rcases hcases (QZ #[97,112,97,114,116])with c11 | c11
 ·simp only[c1,c2,c3,c4,c5,c6,c7,c8,c9,c10,c11,cond_true,cond_false,QY,RH,RB];obtain⟨V,n,f1,f2⟩:=hTT (.inr (.inr (.inr (u7.1 c11))));exact⟨_,V,n,rfl,f1,f2⟩
 have hdash:ry W (bif((W.length:Int) !=(ao (((QZ #[45]).size:Int)+1)))then some yZ else some (QZ #[45]))=some ([],0,false):=by
  cases ((W.length:Int) !=(ao (((QZ #[45]).size:Int)+1)))
  ·exact wI W
  ·exact wI W
 rcases hcases (QZ #[116,101,115,116])with c12 | c12
 ·have hw:ao ((W.length:Int)- 2)=(W.length:Int)- 2:=aO (by omega) (by omega);simp only[c1,c2,c3,c4,c5,c6,c7,c8,c9,c10,c11,c12,cond_true,cond_false,QY,RB,hw];by_cases hl:W.length=4\/W.length=6\/W.length=7
  ·have e1:((((W.length:Int)- 2)==2) || ((((W.length:Int)- 2)==4) || (((W.length:Int)- 2)==5)))=true:=by
    rw[Rw,Rw,beq_iff_eq,beq_iff_eq,beq_iff_eq];omega
   have e2:(((W.length:Int)==4) || (((W.length:Int)==6) || ((W.length:Int)==7)))=true:=by
    rw[Rw,Rw,beq_iff_eq,beq_iff_eq,beq_iff_eq];omega
   refine⟨_,W,0,rfl,?_,fun _=>⟨rfl,?_⟩⟩
   rotate_left
   ·rw[<-hWe]at hl⊢;rw[u7.1 c12];exact .test M 0 (by rw[Rc]at hl;omega)
   have hw2:ao ((W.length:Int)- 2+1)=(W.length:Int)- 2+1:=aO (by omega) (by omega);have h6:(QZ #[84,84,84,84,84,84]).size=6:=rfl;rw[e1,e2,cond_true,hw2];unfold kG;rw[h6,if_pos (by omega),QY,QY,RB,show((W.length:Int)- 2+1).toNat=W.length - 1 by omega];have hsz:((QZ #[84,84,84,84,84,84]).extract 0 (W.length - 1)).size=W.length - 1:=by
    rw[T7,h6];omega
   refine CU (fun h=> ?_) (EJ W (by show((QZ #[84,84,84,84,84,84]).extract 0 (W.length - 1)).size<=100;omega) (hT _ (by omega)));have h:(QZ #[84,84,84,84,84,84]).extract 0 (W.length - 1)=yZ:=h;rw[h]at hsz;have:yZ.size=1:=rfl;omega
  ·have e1:((((W.length:Int)- 2)==2) || ((((W.length:Int)- 2)==4) || (((W.length:Int)- 2)==5)))=false:=by
    rw[Sf,Sf,beq_eq_false_iff_ne,beq_eq_false_iff_ne,beq_eq_false_iff_ne];omega
   have e2:(((W.length:Int)==4) || (((W.length:Int)==6) || ((W.length:Int)==7)))=false:=by
    rw[Sf,Sf,beq_eq_false_iff_ne,beq_eq_false_iff_ne,beq_eq_false_iff_ne];omega
   refine⟨_,[],0,rfl,?_,fun h=> ?_⟩
   ·rw[e1,e2,cond_false,QY,RH];exact hdash
   ·rw[e2]at h;cases h
 ·simp only[c1,c2,c3,c4,c5,c6,c7,c8,c9,c10,c11,c12,cond_false,QY,RH];exact⟨_,[],0,rfl,hdash,fun h=>by cases h⟩
def qq(n:Nat):Nat->Nat->List Int->List (List Int)
 | 0,_,R=>[R]
 | m+1,f,R=>(Su f (n - f)).flatMap fun i=>qq n m (i+1) (R++[(i:Int)])
theorem qt{n:Nat}: ∀(m f:Nat) (R:List Int),hZ n R->fN R f-> ∀Q,Q∈qq n m f R↔hZ n Q/\R<+:Q/\Q.length=R.length+m:=by
 intro m
 induction m with
 | zero=>
  intro f R hR _ Q;unfold qq;rw[Rj];constructor
  ·rintro rfl;exact⟨hR,UP _,rfl⟩
  ·rintro⟨_,h2,h3⟩;exact(h2.eq_of_length h3.symm).symm
 | succ m ih=>
  intro f R hR hf Q;unfold qq;rw[Rn];constructor
  ·rintro⟨i,hi,hq⟩;rw[TA]at hi;have hs:hZ n (R++[(i:Int)]):=hR.snoc (by omega) (by omega) fun x hx=>by have:=hf.1 x hx;omega
   obtain⟨q1,q2,q3⟩:=(ih (i+1) _ hs (hf.snoc hi.1) Q).1 hq;refine⟨q1,(T6 R [(i:Int)]).trans q2,?_⟩;rw[Rb,Te]at q3;omega
  ·rintro⟨q1,⟨t,rfl⟩,q3⟩;cases t with
   | nil=>simp at q3
   | cons i t=>
    have hp:=R5.1 q1.1;have hi:=q1.2 i (by simp);obtain⟨k,rfl⟩: ∃k:Nat,i=k:=⟨i.toNat,by omega⟩;have hfi:=hf.2 k hi.1 fun x hx=>hp.2.2 x hx k (by simp);have hs:hZ n (R++[(k:Int)]):=hR.snoc hi.1 hi.2 fun x hx=>hp.2.2 x hx k (by simp);rw[Rb,Rc]at q3;refine⟨k,TA.2 ⟨by omega,by omega⟩,(ih (k+1) _ hs (hf.snoc (by omega)) _).2 ⟨q1,⟨t,by simp⟩,?_⟩⟩;rw[Rb,Rb,Rc,Te];omega
theorem An{n:Nat}: ∀(m f:Nat) (R Q:List Int),Q∈qq n m f R->R<+:Q:=by
 intro m
 induction m with
 | zero=>
  intro f R Q h;unfold qq at h;rw[Rj.1 h];exact UP _
 | succ m ih=>
  intro f R Q h;unfold qq at h;rw[Rn]at h;obtain⟨i,_,hq⟩:=h;exact(T6 R [(i:Int)]).trans (ih _ _ _ hq)
theorem Gy{n:Nat}: ∀(m f:Nat) (R:List Int),(qq n m f R).Pairwise fun a b=>cmpL a b<0:=by
 intro m
 induction m with
 | zero=>intro f R;simp[qq]
 | succ m ih=>
  intro f R;unfold qq;refine mY (fun i _=>ih _ _) ((Ux (s:=f) (n:=n - f)).imp fun{i j} hij a ha b hb=> ?_);obtain⟨s,rfl⟩:=An _ _ _ _ ha;obtain⟨t,rfl⟩:=An _ _ _ _ hb;rw[Ry,Ry,sO];show cmpL ((i:Int)::s) ((j:Int)::t)<0;unfold cmpL;rw[if_pos (by omega)];omega
def vw(n:Nat):List (List Int):=(Su 1 n).flatMap fun m=>qq n m 0 []
theorem yT{n:Nat}{Q:List Int}:Q∈vw n↔hZ n Q/\Q≠[]:=by
 unfold vw;rw[Rn];constructor
 ·rintro⟨m,hm,hq⟩;rw[TA]at hm;obtain⟨q1,_,q3⟩:=(qt m 0 [] (hZ.nil n) fN.nil Q).1 hq;refine⟨q1,fun h=> ?_⟩;subst h;simp at q3;omega
 ·rintro⟨q1,q2⟩;have hl:=q1.len;have hp:=T0.2 q2;exact⟨Q.length,TA.2 ⟨by omega,by omega⟩,(qt _ 0 [] (hZ.nil n) fN.nil Q).2 ⟨q1,List.nil_prefix,by simp⟩⟩
theorem Ff(n:Nat):(vw n).Pairwise (mD fun _=>0):=by
 refine mY (fun m _=> ?_) ((Ux (s:=1) (n:=n)).imp fun{i j} hij a ha b hb=> ?_)
 ·refine List.Pairwise.imp_of_mem (fun{a b} ha hb h=> ?_) (Gy m 0 []);have h1:=((qt m 0 [] (hZ.nil n) fN.nil a).1 ha).2.2;have h2:=((qt m 0 [] (hZ.nil n) fN.nil b).1 hb).2.2;exact .inr ⟨rfl,.inr ⟨by omega,h⟩⟩
 ·have h1:=((qt i 0 [] (hZ.nil n) fN.nil a).1 ha).2.2;have h2:=((qt j 0 [] (hZ.nil n) fN.nil b).1 hb).2.2;exact .inr ⟨rfl,.inl (by omega)⟩
theorem Cn{w:List Int->Int}{p:List Int->Bool}: ∀{l:List (List Int)} {b:List Int},l.Pairwise (mD w)->l.find? p=some b->ia w (l.filter p) b
 | [],b,_,h=>by simp at h
 | x::l,b,hp,h=>by
  have h2:=List.pairwise_cons.1 hp;rw[List.find?_cons]at h;cases hx:p x
  ·rw[hx]at h;rw[Tk (by simp[hx])];exact Cn h2.2 h
  ·rw[hx]at h;injection h with h;subst h;rw[SU hx];exact⟨by simp,fun r hr=>by
    rcases Ra.1 hr with rfl | hr
    ·exact .inl rfl
    ·exact .inr (h2.1 r (Q8.1 hr).1)⟩
theorem AW{n:Nat}{p:List Int->Bool}(h0:p []=false){b:List Int}(h:(vw n).find? p=some b){l:List (List Int)}(hl: ∀x,x∈l↔hZ n x/\p x=true){c:List Int}(hc:ia (fun _=>0) l c):c=b:=by
 refine ia.unique (m:=(vw n).filter p) (fun x=> ?_) hc (Cn (Ff n) h);rw[hl,Q8,yT];constructor
 ·rintro⟨h1,h2⟩;exact⟨⟨h1,fun e=>by rw[e,h0]at h2;cases h2⟩,h2⟩
 ·rintro⟨⟨h1,_⟩,h2⟩;exact⟨h1,h2⟩
theorem tA{w:List Int->Int}(lt:List Int->List Int->Bool)(hlt: ∀a b,lt a b=true↔mD w a b)(p:List Int->Bool): ∀(l done:List (List Int)) (b:List Int),ia w done b->ia w (done++l.filter p) (l.foldl (fun b a=>bif lt a b&&p a then a else b) b)
 | [],done,b,h=>by simpa using h
 | a::l,done,b,h=>by
  rw[Ss];cases hp:p a
  ·rw[Tk (by simp[hp]),Bool.and_false,cond_false];exact tA lt hlt p l done b h
  ·rw[SU hp,T9];have h2:=wF lt hlt [a] done b h;have:=tA lt hlt p l (done++[a]) _ h2;simpa using this
theorem filter_lt{α:Type}{p q:α->Bool}(h: ∀x,q x=true->p x=true){a:α}(hp:p a=true)(hq:q a=false): ∀{L:List α},a∈L->(L.filter q).length<(L.filter p).length
 | [],ha=>by cases ha
 | x::l,ha=>by
  have hle: ∀M:List α,(M.filter q).length<=(M.filter p).length:=by
   intro M
   induction M with
   | nil=>simp
   | cons y m ih=>
    rw[T4,T4];cases hy:q y
    ·cases p y<;>simp<;>omega
    ·rw[h y hy];simp;omega
  have h1:=hle l;rw[T4,T4];rcases Ra.1 ha with rfl | ha
  ·rw[hp,hq];simp;omega
  ·have h2:=filter_lt h hp hq ha;cases hy:q x
   ·cases p x<;>simp<;>omega
   ·rw[h x hy];simp;omega
theorem any_eq{L:List ByteArray}{v:ByteArray}:(L.any fun x=>v.toList==x.toList)=true↔v∈L:=by
 rw[RS];refine⟨fun⟨x,h1,h2⟩=> ?_,fun h=>⟨v,h,fO.2 rfl⟩⟩;rw[fO.1 h2];exact h1
theorem any_eq'{L:List ByteArray}{v:ByteArray}:(L.any fun x=>x.toList==v.toList)=true↔v∈L:=by
 rw[RS];refine⟨fun⟨x,h1,h2⟩=> ?_,fun h=>⟨v,h,fO.2 rfl⟩⟩;rw[<-fO.1 h2];exact h1
theorem contains_eq{L:List ByteArray}(hL:L.length<=1000000000)(v:ByteArray):bp L v=some (L.any fun x=>v.toList==x.toList):=by
 unfold bp db;rw[fV (by omega) (fun x=>v.toList==x.toList) (fun i x hx=>by rw[aF,hx];rfl),QY,kO]
theorem Fp{L:List ByteArray}(hL:L.length<=1000000000)(v:ByteArray): ∃n:Int,kA L v=some n/\(n<0↔v∉L):=by
 unfold kA;rw[fV (by omega) (fun x=>x.toList==v.toList) (fun i x hx=>by rw[aF,hx];rfl)];refine⟨_,rfl,?_⟩;have h1:=qC (fun x:ByteArray=>x.toList==v.toList) L;rw[<-any_eq'];constructor
 ·intro h;rw[decide_eq_true h]at h1;intro hc;rw[hc]at h1;cases h1
 ·intro h;rw[Bool.not_eq_true]at h;rw[h]at h1;simpa using h1
def PQ(a b:List ByteArray×Bool):Prop:=a.2=b.2/\(b.2=true->a=b)
def uq(C out:List ByteArray):Nat:=(C.filter fun v=> !(out.any fun x=>v.toList==x.toList)).length
theorem yF{C out:List ByteArray}{v:ByteArray}(h1:v∈C)(h2:v∉out):uq C (out++[v])<uq C out:=by
 unfold uq;have hf: ∀{M:List ByteArray} {x:ByteArray},(!(M.any fun z=>x.toList==z.toList))=true↔x∉M:=fun{M x}=>by
  rw[RZ,Rv,ne_eq,any_eq]
 refine filter_lt (fun x hx=> ?_) (a:=v) (hf.2 h2) ?_ h1
 ·rw[hf]at hx⊢;exact fun h=>hx (RI _ h)
 ·rw[Rv,ne_eq,hf];simp
theorem Er{L:List Claim}(hL:L.length<=100)(hc: ∀x∈L,cw x=true)(place:ByteArray)(y:Int): ∃a b,fx L place y=some a/\mr L place y=some b/\PQ a b/\b.1.length<=101:=by
 have key: ∀(n:Nat) (out:List ByteArray) (v:ByteArray),uq (place::L.map Claim.Value) out<=n->v∈place::L.map Claim.Value->v∉out->(place∈out\/v=place)->out.length+uq (place::L.map Claim.Value) out<=101->
   ∃a b,loop (fun(s1:(List ByteArray))=>((at' s1 (ao ((s1.length:Int)- 1))).bind fun x3=>((fJ L x3 y).bind fun x4=>(((bif(x4.2&&(x4.1.toList==place.toList))then some (.inr (.inr (s1,true)))else(((bif(!x4.2)then some true else((bp s1 x4.1).bind fun x7=>some x7))).bind fun(j8:Bool)=>(bif j8 then some (.inr (.inr (([]:List ByteArray),false)))else some (.inl ()))))).bind (Ri (fun(_:Unit)=>((bZ s1 ([x4.1]:List ByteArray)).bind fun x10=>some (.inl x10))) some))))) (out++[v])=some a/\
   ((loop (fun(s3:ByteArray×(List ByteArray))=>((kA s3.2 s3.1).bind fun x5=>(bif(decide (x5<0))then((bZ s3.2 ([s3.1]:List ByteArray)).bind fun x6=>((iu L s3.1 y).bind fun x7=>(bif(x7.toList==(QZ #[]).toList)then some (.inr (.inr (([]:List ByteArray),false)))else some (.inl (x7,x6)))))else some (.inr (.inl (s3.1,s3.2)))))) (v,out))).bind (Ri (fun(j1:ByteArray×(List ByteArray))=>some (j1.2,(j1.1.toList==place.toList))) some)=some b/\PQ a b/\b.1.length<=101:=by
  intro n
  induction n with
  | zero=>
   intro out v h1 h2 h3;have:=yF h2 h3;omega
  | succ n ih=>
   intro out v h1 h2 h3 hp h13;have hlt:=yF h2 h3;have hl:out.length<=101:=by omega
   have hlen:(out++[v]).length=out.length+1:=by simp
   have hat:at' (out++[v]) (ao (((out++[v]).length:Int)- 1))=some v:=by
    rw[aO (by omega) (by omega),hlen,show((out.length+1:Nat):Int)- 1=(out.length:Int) by omega,aF];simp
   have hpl:place∈out++[v]:=by
    rcases hp with hp | rfl
    ·exact RI _ hp
    ·simp
   obtain⟨m,hm,hm'⟩:=Fp (L:=out) (by omega) v;rw[bR]
   conv in loop _ (v,out)=>rw[bR]
   simp only[hat,QY,l9 (show L.length<=1048576 by omega),hm,decide_eq_true (hm'.2 h3),cond_true,cd (show out.length+[v].length<=68719476736 by simp;omega),ph (show L.length<=1048576 by omega)];cases ht:tel L 1 v y with
   | none=>
    have e0:Ae none=(QZ #[],false):=rfl;have e2:((QZ #[]).toList==(QZ #[]).toList)=true:=fO.2 rfl;simp only[e0,e2,Ul,cond_false,cond_true,RU,QY,RB];refine⟨([],false),([],false),rfl,rfl,⟨rfl,fun _=>rfl⟩,by simp⟩
   | some u=>
    obtain⟨hu1,hu2⟩:=yD hc (.inr rfl) ht;have e1:Ae (some u)=(u,true):=rfl;simp only[e1,Se,w4 hu1,cond_false,Rs,contains_eq (show(out++[v]).length<=1000000000 by omega),QY];by_cases hin:u∈out++[v]
    ·obtain⟨m2,hm2,hm2'⟩:=Fp (L:=out++[v]) (by omega) u;rw[bR];have hge: ¬m2<0:=fun h=>hm2'.1 h hin;simp only[hm2,QY,decide_eq_false hge,cond_false,RH,any_eq.2 hin,cond_true];cases hpu:(u.toList==place.toList)
     ·refine⟨([],false),_,rfl,rfl,⟨rfl,fun h=>by cases h⟩,by simp;omega⟩
     ·refine⟨(out++[v],true),_,rfl,rfl,⟨rfl,fun _=>rfl⟩,by simp;omega⟩
    ·have hne:(u.toList==place.toList)=false:=by
      rw[Rv];intro h;rw[fO.1 h]at hin;exact hin hpl
     have hnot:((out++[v]).any fun x=>u.toList==x.toList)=false:=by
      rw[Rv,ne_eq,any_eq];exact hin
     simp only[hne,cond_false,hnot,QY,RH,cd (show(out++[v]).length+[u].length<=68719476736 by simp;omega)];have h9:=ih (out++[v]) u (by omega) (RC _ hu2) hin (.inl hpl) (by omega);simp only[l9 (show L.length<=1048576 by omega),ph (show L.length<=1048576 by omega),QY]at h9;exact h9
 have h0:uq (place::L.map Claim.Value) []<=101:=by
  unfold uq;have:=Sv (fun v=> !(([]:List ByteArray).any fun x=>v.toList==x.toList)) (place::L.map Claim.Value);simp only[Rc,Rp]at this;omega
 obtain⟨a,b,h1,h2,h3,h4⟩:=key 101 [] place h0 Rr (by simp) (.inr rfl) (by simpa using h0);exact⟨a,b,h1,h2,h3,h4⟩
theorem og{α A:Type}(p:Nat->α->Bool)(a:A): ∀(L:List α) (k:Nat),cn p (fun _ _=>a) L k=bif(cn p (fun _ _=>()) L k).isSome then some a else none
 | [],_=>rfl
 | x::l,k=>by
  unfold cn;cases p k x
  ·exact og p a l (k+1)
  ·rfl
def r7(L:List Claim):Bool:=(cn (fun i x=>(L.take i).any (qu x)) (fun _ _=>()) L 0).isSome
theorem A4{L:List Claim}(hL:L.length<=1048576):oi L=some (r7 L):=by
 unfold oi ci ct r7;rw[fU (by omega) (fun i x=>(L.take i).any (qu x)) (fun _ _=>true) (fun i x hx=>by
  have hi:i<L.length:=(Q1.1 hx).1;rw[aF,hx,QY,kr (by omega) (by omega) (by omega),QY];simp only[Int.toNat_zero,TL,Rk,TW];rw[fV (L:=L.take i) (by rw[Rt];omega) (qu x) (fun k z hz=>by rw[aF,hz,QY,Mb,QY])];simp only[QY,kO]),og]
 cases (cn (fun i x=>(L.take i).any (qu x)) (fun _ _=>()) L 0).isSome<;>rfl
theorem KM{α A:Type}{L:List α}(hL:L.length<=1048576){body:Int->Option (Int⊕(Unit⊕A))}(p:α->Bool)(a:A)(hend:body (L.length:Int)=some (.inr (.inl ())))(h: ∀(i:Nat) x,L[i]? =some x->body (i:Int)=bif p x then some (.inr (.inr a))else some (.inl (ao ((i:Int)+1)))):loop body 0=some (bif L.any p then .inr a else .inl ()):=by
 have key: ∀(M:List α) (k:Nat),L.drop k=M->k<=L.length->loop body (k:Int)=some (bif M.any p then .inr a else .inl ()):=by
  intro M
  induction M with
  | nil=>
   intro k hk hkl;have:L.length<=k:=List.drop_eq_nil_iff.1 hk;obtain rfl:k=L.length:=by omega
   rw[bR,hend];rfl
  | cons x M ih=>
   intro k hk hkl;have hx:L[k]? =some x:=by
    have:=S5 (xs:=L) (i:=k) (j:=0);rw[hk]at this;simpa using this.symm
   have hlt:k<L.length:=(Q1.1 hx).1;rw[bR,h k x hx];cases hp:p x
   ·rw[cond_false,List.any_cons,hp,TZ,aO (by omega) (by omega)];have h2:=ih (k+1) (by rw[<-UD,hk];rfl) (by omega);exact h2
   ·rw[cond_true,List.any_cons,hp];rfl
 exact key L 0 rfl (by omega)
def si(L:List Claim)(p:ByteArray)(y:Int):Bool:=((fx L p y).map Prod.snd).getD false
theorem Gu{L:List Claim}(hL:L.length<=100)(hc: ∀x∈L,cw x=true)(p:ByteArray)(y:Int): ∃l,fx L p y=some (l,si L p y):=by
 obtain⟨a,b,h1,h2,h3,h4⟩:=Er hL hc p y;refine⟨a.1,?_⟩;unfold si;rw[h1];rfl
theorem LS{L:List Claim}(hL:L.length<=100)(hc: ∀x∈L,cw x=true)(p:ByteArray)(y:Int): ∃l,mr L p y=some (l,si L p y):=by
 obtain⟨a,b,h1,h2,h3,h4⟩:=Er hL hc p y;refine⟨b.1,?_⟩;unfold si;rw[h1,h2];simp[h3.1]
theorem LU{L:List Claim}(hL:L.length<=100){p:ByteArray}{y:Int}(h:si L p y=true): ∃d∈L,d.Kind=1/\d.Place=p/\inB y d.Years.From d.Years.To=true:=by
 cases ht:L.find? (pw 1 p y)with
 | none=>
  exfalso;unfold si fx at h;have hat:at' [p] (ao ((([p]:List ByteArray).length:Int)- 1))=some p:=rfl;have e0:Ae (tel L 1 p y)=(QZ #[],false):=by unfold tel;rw[ht];rfl
  rw[bR]at h;simp only[hat,QY,l9 (show L.length<=1048576 by omega),e0,Ul,cond_false,RU,cond_true,RB,Sx,Option.getD_some]at h;cases h
 | some d=>
  have h1:=Up ht;unfold pw at h1;rw[Q4,Q4,beq_iff_eq]at h1;exact⟨d,S9 ht,h1.1,fO.1 h1.2.1,h1.2.2⟩
def vv(L:List Claim):Bool:=L.any fun c=>(c.Kind==1)&&L.any fun d=>si L d.Place c.Years.From
theorem NL{L:List Claim}(hL:L.length<=100):(L.any fun c=>L.any fun d=>((c.Kind==1)&&((d.Kind==1)&&inB c.Years.From d.Years.From d.Years.To))&&si L d.Place c.Years.From)=vv L:=by
 unfold vv;rw[S7,RS,RS];constructor
 ·rintro⟨c,hc,h⟩;obtain⟨d,hd,h⟩:=RS.1 h;rw[Q4,Q4]at h;exact⟨c,hc,Bool.and_eq_true_iff.2 ⟨h.1.1,RS.2 ⟨d,hd,h.2⟩⟩⟩
 ·rintro⟨c,hc,h⟩;rw[Q4]at h;obtain⟨d,hd,h2⟩:=RS.1 h.2;obtain⟨e,he,h3,h4,h5⟩:=LU hL h2;refine⟨c,hc,RS.2 ⟨e,he,?_⟩⟩;rw[h.1,h5,h4,h2,h3];rfl
theorem EB{α A:Type}{L:List α}(hL:L.length<=1048576){B:Int->Unit->Option (Unit⊕(Unit⊕A))}(p:α->Bool)(a:A)(h: ∀(i:Nat) x,L[i]? =some x->B (i:Int) ()=bif p x then some (.inr (.inr a))else some (.inl ())):
  dD (L.length:Int) B (fun _=> .inl ()) 0 ()=bif L.any p then some (.inr a)else some (.inl ()):=by
 rw[oE L (by omega) B (fun _ x _=>bif p x then some (.inr (.inr a))else some (.inl ())) _ () (fun j x _ hx=>h j x hx),zH];cases L.any p<;>rfl
theorem xD{L:List Claim}(hL:L.length<=100)(hc: ∀x∈L,cw x=true):l0 L=some (vv L):=by
 unfold l0 gP;rw[jd (by omega) (fun c=>L.any fun d=>((c.Kind==1)&&((d.Kind==1)&&inB c.Years.From d.Years.From d.Years.To))&&si L d.Place c.Years.From) true (fun i c hx=>by
  rw[aF,hx,QY,EB (by omega) (fun d=>((c.Kind==1)&&((d.Kind==1)&&inB c.Years.From d.Years.From d.Years.To))&&si L d.Place c.Years.From) (.inr true) (fun k d hd=>by
   obtain⟨l,hl⟩:=Gu hL hc d.Place c.Years.From;rw[aF,hd,QY,gw,hl];unfold bne;cases c.Kind==1<;>cases d.Kind==1<;>cases inB c.Years.From d.Years.From d.Years.To<;>rfl)]),NL hL]
 cases vv L<;>rfl
theorem pa{L:List Claim}(hL:L.length<=100)(hc: ∀x∈L,cw x=true):bL L=some (!r7 L&& !vv L):=by
 unfold bL;rw[fU (by omega) (fun i x=>(L.take i).any (qu x)) (fun _ _=>false) (fun i x hx=>by
  have hi:i<L.length:=(Q1.1 hx).1;have hl:(L.take i).length=i:=by rw[Rt];omega
  have:=EB (A:=Unit⊕Bool) (L:=L.take i) (by omega) (B:=fun(i7:Int) (_:Unit)=>((at' L (i:Int)).bind fun x11=>((at' L i7).bind fun x12=>((er x11 x12).bind fun x13=>(bif x13 then some (.inr (.inr (.inr false)))else some (.inl ())))))) (qu x) (.inr false) (fun k z hz=>by
   have hz':L[k]? =some z:=by
    have hk:k<i:=by have:=(Q1.1 hz).1;omega
    rw[<-hz,List.getElem?_take_of_lt hk]
   simp only[aF,hx,hz',QY,M3])
  rw[hl]at this;exact this),og]
 unfold r7;rw[jd (by omega) (fun c=>(c.Kind==1)&&L.any fun d=>si L d.Place c.Years.From) false (fun i c hx=>by
  cases hk:(c.Kind==1)
  ·rw[bR];simp only[aF,hx,QY,hk,Ul,cond_false];cases decide ((0:Int)<(L.length:Int))<;>rfl
  ·rw[KM (L:=L) (by omega) (fun d:Claim=>si L d.Place c.Years.From) (.inr false) (by
    rw[decide_eq_false (by omega)];rfl) (fun k d hd=>by
    obtain⟨l,hl⟩:=LS hL hc d.Place c.Years.From;have hkl:k<L.length:=(Q1.1 hd).1;rw[decide_eq_true (by omega),cond_true];simp only[aF,hx,hd,QY,hk,cond_true,hl];cases si L d.Place c.Years.From<;>rfl)]
   cases (L.any fun d=>si L d.Place c.Years.From)<;>rfl)]
 unfold vv;cases (cn (fun i x=>(L.take i).any (qu x)) (fun _ _=>()) L 0).isSome
 ·cases (L.any fun c=>(c.Kind==1)&&L.any fun d=>si L d.Place c.Years.From)<;>rfl
 ·rfl
def nk(L:List Claim):Bool:= !r7 L&& !vv L
theorem fS{L:List Claim}(hL:L.length<=100)(hc: ∀x∈L,cw x=true):bV L=some (nk L):=by
 unfold bV nk;rw[A4 (by omega),xD hL hc];cases r7 L<;>rfl
theorem aG{L:List Claim}:bf L=true↔L.length<=12/\ ∀x∈L,cw x=true:=by
 unfold bf;rw[Q4,decide_eq_true_eq,Q7]
def abC(L:List Claim)(p:ByteArray)(y:Int):Int:=bif bf L&&da p then bif inB y (-3000) 3000 then 0 else 2 else 1
theorem DJ{L:List Claim}(hL:L.length<=1048576)(h: ∀x∈L,de x){p:ByteArray}(hp:p.size<=1048576)(y:Int):lW L p y=some (abC L p y):=by
 unfold lW lD abC;rw[jO hL h,pI p (by unfold maxLen;omega),gw];cases bf L<;>cases da p<;>cases inB y (-3000) 3000<;>rfl
theorem rI{L:List Claim}(hL:L.length<=1048576)(h: ∀x∈L,de x){p:ByteArray}(hp:p.size<=1048576)(y:Int):kC L p y=some (abC L p y):=by
 unfold kC kz abC;rw[mi hL h,iE p (by unfold maxLen;omega),jW];cases bf L<;>cases da p<;>cases inB y (-3000) 3000<;>rfl
def soC(L:List Claim)(p:ByteArray)(y:Int):Int:=bif abC L p y==0 then bif nk L then 0 else 5 else abC L p y
theorem ql{L:List Claim}{p:ByteArray}{y:Int}(h:(abC L p y==0)=true):bf L=true:=by
 unfold abC at h;cases hc:bf L
 ·rw[hc]at h;simp at h
 ·rfl
theorem vE{L:List Claim}(hL:L.length<=1048576)(h: ∀x∈L,de x){p:ByteArray}(hp:p.size<=1048576)(y:Int):kX L p y=some (soC L p y):=by
 unfold kX soC;rw[rI hL h hp,QY];cases h0:(abC L p y==0)
 ·rfl
 ·obtain⟨h1,h2⟩:=aG.1 (ql h0);rw[pa (by omega) h2,<-nk];cases nk L
  ·rfl
  ·simp only[cond_true,QY,Rs,cond_false,beq_iff_eq.1 h0]
theorem HK{L:List Claim}{p:ByteArray}{y:Int}(h:(soC L p y !=0)=false):bf L=true:=by
 unfold soC at h;cases h0:(abC L p y==0)
 ·rw[h0,cond_false,bne,h0]at h;cases h
 ·exact ql h0
def Lk(L:List Claim)(k:Int)(p:ByteArray)(y:Int):ByteArray×Int:=bif soC L p y !=0 then(QZ #[],soC L p y)else match tel L k p y with | some v=>(v,0) | none=>(QZ #[],4)
theorem Dj{L:List Claim}(hL:L.length<=1048576)(h: ∀x∈L,de x){p:ByteArray}(hp:p.size<=1048576)(y:Int):pQ L p y=some (Lk L 0 p y):=by
 unfold pQ Lk;rw[vE hL h hp,QY,F0 hL,QY];cases h0:(soC L p y !=0)
 ·obtain⟨h1,h2⟩:=aG.1 (HK h0);cases ht:tel L 0 p y with
  | none=>
   have e2:((Ae none).1.toList==(QZ #[]).toList)=true:=fO.2 rfl;rw[e2];rfl
  | some v=>
   have e2:((Ae (some v)).1.toList==(QZ #[]).toList)=false:=w4 (yD h2 (.inl rfl) ht).1;rw[e2];rfl
 ·rfl
theorem zX{L:List Claim}(hL:L.length<=1048576)(h: ∀x∈L,de x){p:ByteArray}(hp:p.size<=1048576)(y:Int):na L p y=some (Lk L 1 p y):=by
 unfold na Lk;rw[vE hL h hp,QY,ph hL,QY];cases h0:(soC L p y !=0)
 ·obtain⟨h1,h2⟩:=aG.1 (HK h0);cases ht:tel L 1 p y with
  | none=>
   have e2:((Ae none).1.toList==(QZ #[]).toList)=true:=fO.2 rfl;rw[e2];rfl
  | some v=>
   have e2:((Ae (some v)).1.toList==(QZ #[]).toList)=false:=w4 (yD h2 (.inr rfl) ht).1;rw[e2];rfl
 ·rfl
theorem Kp(x:Claim):qu x x=false:=by
 unfold qu;have h:(x.Kind==1&&(x.Kind==3&&x.Value.toList==x.Place.toList))=false:=by
  rw[Rv];intro h;rw[Q4,Q4,beq_iff_eq,beq_iff_eq]at h;omega
 rw[h];simp
theorem Ko(x y:Claim):qu x y=qu y x:=by
 unfold qu;rw[BEq.comm (a:=x.Place.toList),BEq.comm (a:=x.Kind) (b:=y.Kind),BEq.comm (a:=x.Value.toList) (b:=y.Value.toList)];have h:(bif y.Kind==x.Kind then((x.Kind==0) || (x.Kind==1))&& !(y.Value.toList==x.Value.toList)else(x.Kind==3) || (y.Kind==3))=(bif y.Kind==x.Kind then((y.Kind==0) || (y.Kind==1))&& !(y.Value.toList==x.Value.toList)else(y.Kind==3) || (x.Kind==3)):=by
  by_cases hk:y.Kind=x.Kind
  ·rw[hk]
  ·rw[beq_eq_false_iff_ne.2 hk,cond_false,cond_false,Bool.or_comm]
 rw[h];generalize (bif y.Kind==x.Kind then((y.Kind==0) || (y.Kind==1))&& !(y.Value.toList==x.Value.toList)else(y.Kind==3) || (x.Kind==3))=c;generalize (x.Kind==1&&(y.Kind==3&&x.Value.toList==y.Place.toList))=a;generalize (y.Kind==1&&(x.Kind==3&&y.Value.toList==x.Place.toList))=b;generalize (y.Place.toList==x.Place.toList)=z;generalize decide (x.Years.From<=y.Years.To)=m;generalize decide (y.Years.From<=x.Years.To)=n;cases m<;>cases n<;>cases a<;>cases b<;>cases c<;>cases z<;>rfl
theorem sW{α:Type}(p:Nat->α->Bool): ∀(L:List α) (k:Nat),(cn p (fun _ _=>()) L k).isSome=true↔ ∃i x,L[i]? =some x/\p (k+i) x=true
 | [],k=>by simp[cn]
 | x::l,k=>by
  unfold cn;cases hp:p k x
  ·rw[cond_false,sW p l (k+1)];constructor
   ·rintro⟨i,y,h1,h2⟩;exact⟨i+1,y,by simpa using h1,by rw[<-h2];congr 1;omega⟩
   ·rintro⟨i,y,h1,h2⟩;cases i with
    | zero=>
     have:x=y:=by simpa using h1
     subst this;rw[Sa,hp]at h2;cases h2
    | succ i=>exact⟨i,y,by simpa using h1,by rw[<-h2];congr 1;omega⟩
  ·simp only[cond_true,Option.isSome_some,true_iff];exact⟨0,x,rfl,hp⟩
theorem zI{L:List Claim}:r7 L=true↔ ∃x∈L,∃y∈L,qu x y=true:=by
 unfold r7;rw[sW];simp only[RR,RS];constructor
 ·rintro⟨i,x,h1,y,h2,h3⟩;exact⟨x,Q3 h1,y,S4 h2,h3⟩
 ·rintro⟨x,hx,y,hy,h⟩;obtain⟨i,hi,rfl⟩:=TX.1 hx;obtain⟨k,hk,rfl⟩:=TX.1 hy;rcases Tc i k with hik | rfl | hik
  ·refine⟨k,L[k],Q0 hk,L[i],?_,by rw[Ko];exact h⟩;exact List.mem_take_iff_getElem.2 ⟨i,by omega,rfl⟩
  ·rw[Kp]at h;cases h
  ·exact⟨i,L[i],Q0 hi,L[k],List.mem_take_iff_getElem.2 ⟨k,by omega,rfl⟩,h⟩
theorem MI{L:List Claim}(h:r7 L=false){x y:Claim}(hx:x∈L)(hy:y∈L):qu x y=false:=by
 rw[Rv];intro hc;rw[zI.2 ⟨x,hx,y,hy,hc⟩]at h;cases h
theorem Mg{y a b c d:Int}(h1:inB y a b=true)(h2:inB y c d=true):(decide (a<=d)&&decide (c<=b))=true:=by
 rw[ic]at h1 h2;rw[Q4,decide_eq_true_eq,decide_eq_true_eq];omega
theorem OQ{k:Int}(hk:k=0\/k=1){x y:Claim}{p:ByteArray}{t:Int}(h:qu x y=false)(h1:pw k p t x=true)(h2:pw k p t y=true):x.Value=y.Value:=by
 unfold pw at h1 h2;rw[Q4,Q4,beq_iff_eq]at h1 h2;unfold qu at h;rw[Mg h1.2.2 h2.2.2,Se,h1.1,h2.1,fO.1 h1.2.1,fO.1 h2.2.1,fO.2 rfl]at h;have hv:(x.Value.toList==y.Value.toList)=true:=by
  rcases hk with rfl | rfl<;>simpa using h
 exact fO.1 hv
theorem Ni{L M:List Claim}(hs: ∀x∈M,x∈L)(h:r7 L=false){k:Int}(hk:k=0\/k=1){p:ByteArray}{t:Int}{v:ByteArray}(hv:tel M k p t=some v):tel L k p t=some v:=by
 unfold tel at hv⊢;rw[Q2]at hv⊢;obtain⟨c,hc,rfl⟩:=hv;have h1:=Up hc;have h2:=hs c (S9 hc);cases hf:L.find? (pw k p t)with
 | none=>
  rw[Tt]at hf;exact absurd h1 (hf c h2)
 | some d=>exact⟨d,rfl,OQ hk (MI h (S9 hf) h2) (Up hf) h1⟩
def Gw(L:List Claim)(p:ByteArray)(y:Int)(s1:List ByteArray):Option (List ByteArray⊕(List ByteArray×Bool)):=((at' s1 (ao ((s1.length:Int)- 1))).bind fun x3=>((fJ L x3 y).bind fun x4=>(((bif(x4.2&&(x4.1.toList==p.toList))then some (.inr (.inr (s1,true)))else(((bif(!x4.2)then some true else((bp s1 x4.1).bind fun x7=>some x7))).bind fun(j8:Bool)=>(bif j8 then some (.inr (.inr (([]:List ByteArray),false)))else some (.inl ()))))).bind (Ri (fun(_:Unit)=>((bZ s1 ([x4.1]:List ByteArray)).bind fun x10=>some (.inl x10))) some))))
theorem Ep(L:List Claim)(p:ByteArray)(y:Int):fx L p y=loop (Gw L p y) [p]:=rfl
theorem B9{L:List Claim}(hL:L.length<=100)(_hc: ∀x∈L,cw x=true){p:ByteArray}{y:Int}{out:List ByteArray}{v:ByteArray}(hl:out.length<=101):Gw L p y (out++[v])=match tel L 1 v y with
  | none=>some (.inr ([],false))
  | some u=>bif u.toList==p.toList then some (.inr (out++[v],true))else bif(out++[v]).any (fun x=>u.toList==x.toList)then some (.inr ([],false))else some (.inl (out++[v]++[u])):=by
 have hlen:(out++[v]).length=out.length+1:=by simp
 have hat:at' (out++[v]) (ao (((out++[v]).length:Int)- 1))=some v:=by
  rw[aO (by omega) (by omega),hlen,show((out.length+1:Nat):Int)- 1=(out.length:Int) by omega,aF];simp
 unfold Gw;simp only[hat,QY,l9 (show L.length<=1048576 by omega)];cases ht:tel L 1 v y with
 | none=>
  have e0:Ae none=(QZ #[],false):=rfl;simp only[e0,Ul,cond_false,cond_true,RU,QY,RB]
 | some u=>
  have e1:Ae (some u)=(u,true):=rfl;simp only[e1,Se,Rs,cond_false,contains_eq (show(out++[v]).length<=1000000000 by omega),QY];cases u.toList==p.toList
  ·rw[cond_false,cond_false];cases (out++[v]).any (fun x=>u.toList==x.toList)
   ·rw[cond_false,cond_false,QY,RH,cd (show(out++[v]).length+[u].length<=68719476736 by simp;omega),QY]
   ·rw[cond_true,cond_true,QY,RB]
  ·rw[cond_true,cond_true,QY,RB]
theorem LR{L M:List Claim}(hL:L.length<=100)(hM:M.length<=100)(hs: ∀x∈M,x∈L)(hc: ∀x∈L,cw x=true)(h:r7 L=false){p:ByteArray}{y:Int}(hb:si M p y=true):si L p y=true:=by
 have hcM: ∀x∈M,cw x=true:=fun x hx=>hc x (hs x hx);obtain⟨l,hl⟩:=Gu hM hcM p y;rw[hb]at hl;have key: ∀(n:Nat) (out:List ByteArray) (v:ByteArray),uq (p::M.map Claim.Value) out<=n->v∈p::M.map Claim.Value->v∉out->out.length+uq (p::M.map Claim.Value) out<=101-> ∀l,loop (Gw M p y) (out++[v])=some (l,true)->loop (Gw L p y) (out++[v])=some (l,true):=by
  intro n
  induction n with
  | zero=>
   intro out v h1 h2 h3;have:=yF h2 h3;omega
  | succ n ih=>
   intro out v h1 h2 h3 h13 l hl;have hlt:=yF h2 h3;have hlen:(out++[v]).length=out.length+1:=by simp
   rw[bR,B9 hM hcM (by omega)]at hl;rw[bR,B9 hL hc (by omega)];cases ht:tel M 1 v y with
   | none=>
    rw[ht]at hl;simp at hl
   | some u=>
    rw[ht]at hl;rw[Ni hs h (.inr rfl) ht];dsimp only at hl⊢;cases hu:(u.toList==p.toList)
    ·rw[hu]at hl;rw[cond_false]at hl⊢;cases hin:(out++[v]).any (fun x=>u.toList==x.toList)
     ·rw[hin]at hl;rw[cond_false]at hl⊢;refine ih (out++[v]) u (by omega) (RC _ (yD hcM (.inr rfl) ht).2) (fun h=> ?_) (by omega) l hl;rw[any_eq.2 h]at hin;cases hin
     ·rw[hin]at hl;simp at hl
    ·rw[hu]at hl;exact hl
 have h0:uq (p::M.map Claim.Value) []<=101:=by
  unfold uq;have:=Sv (fun v=> !(([]:List ByteArray).any fun x=>v.toList==x.toList)) (p::M.map Claim.Value);simp only[Rc,Rp]at this;omega
 rw[Ep]at hl;have hl':=key 101 [] p h0 Rr (by simp) (by simpa using h0) l hl;unfold si;rw[Ep,show([p]:List ByteArray)=[]++[p]from rfl,hl'];rfl
theorem Iq{L M:List Claim}(hL:L.length<=100)(hM:M.length<=100)(hs: ∀x∈M,x∈L)(hc: ∀x∈L,cw x=true)(h:r7 L=false)(hb:vv M=true):vv L=true:=by
 unfold vv at hb⊢;obtain⟨c,h1,h2⟩:=RS.1 hb;rw[Q4]at h2;obtain⟨d,h3,h4⟩:=RS.1 h2.2;exact RS.2 ⟨c,hs c h1,Bool.and_eq_true_iff.2 ⟨h2.1,RS.2 ⟨d,hs d h3,LR hL hM hs hc h h4⟩⟩⟩
theorem vM{L M:List Claim}(hL:L.length<=100)(hM:M.length<=100)(hs: ∀x∈M,x∈L)(hc: ∀x∈L,cw x=true)(h:nk L=true):nk M=true:=by
 unfold nk at h⊢;rw[Q4,RZ,RZ]at h⊢;constructor
 ·rw[Rv];intro hp;obtain⟨x,hx,y,hy,hxy⟩:=zI.1 hp;rw[zI.2 ⟨x,hs x hx,y,hs y hy,hxy⟩]at h;cases h.1
 ·rw[Rv];intro hp;rw[Iq hL hM hs hc h.1 hp]at h;cases h.2
def sM(L:List Claim)(I:List Int):List Claim:=(Rx I.length).flatMap fun i=>((I[i]?).bind fun x=>L[x.toNat]?).toList
theorem Gt{L:List Claim}{I:List Int}{x:Claim}(h:x∈sM L I):x∈L:=by
 unfold sM at h;obtain⟨i,_,h⟩:=Rn.1 h;rw[Option.mem_toList]at h;obtain⟨k,_,h⟩:=Option.bind_eq_some_iff.1 h;exact Q3 h
theorem Gs(L:List Claim)(I:List Int):(sM L I).length<=I.length:=by
 unfold sM;have key: ∀R:List Nat,(R.flatMap fun i=>((I[i]?).bind fun x=>L[x.toNat]?).toList).length<=R.length:=by
  intro R
  induction R with
  | nil=>simp
  | cons i r ih=>
   rw[Sj,Rb,Rc];have:(((I[i]?).bind fun x=>L[x.toNat]?).toList).length<=1:=by
    cases ((I[i]?).bind fun x=>L[x.toNat]?)<;>simp
   omega
 have:=key (Rx I.length)
 rwa [Ud]at this
theorem tg{L:List Claim}{I:List Int}(hI:I.length<=100)(h: ∀x∈I,0<=x/\x<L.length):lB L I=some (sM L I):=by
 unfold lB;rw[rb 1000 (by omega) (by omega) (fun i=>((I[i]?).bind fun x=>L[x.toNat]?).toList) (fun i=>by cases ((I[i]?).bind fun x=>L[x.toNat]?)<;>simp) [] (by simp;omega) (fun i s hi hs=>by
  have h1:=h _ (R2 hi);rw[aF,Q0 hi,QY];obtain⟨c,h2,h3⟩:=Gk (L:=L) h1.1 h1.2;rw[h2,QY,QY,h3,cd (by simp;omega)];rfl)]
 rfl
theorem o9{L:List Claim}{I:List Int}(hI:I.length<=100)(h: ∀x∈I,0<=x/\x<L.length):eQ L I=some (sM L I):=tg hI h
theorem qo{L:List Claim}{I:List Int}(hI:I.length<=100)(hc:bf L=true):(sM L I).length<=100/\ ∀x∈sM L I,cw x=true:=by
 have:=Gs L I;exact⟨by omega,fun x hx=>(aG.1 hc).2 x (Gt hx)⟩
theorem kK{L:List Claim}(hL:L.length<=100)(hc: ∀x∈L,cw x=true):bL L=some (nk L):=pa hL hc
def sZ(R:List Int)(i:Int):Bool:=R.any fun x=>i==x
theorem GQ{R:List Int}{i:Int}:sZ R i=true↔i∈R:=by
 unfold sZ;rw[RS];exact⟨fun⟨x,h1,h2⟩=>by rw[beq_iff_eq.1 h2];exact h1,fun h=>⟨i,h,beq_self_eq_true _⟩⟩
theorem Mc{R:List Int}(hR:R.length<=1000000)(i:Int):ga R i=some (sZ R i):=by
 unfold ga lz sZ;rw[fV (by omega) (fun x=>i==x) (fun k x hx=>by rw[aF,hx];rfl),QY,kO]
theorem M4{R:List Int}(hR:R.length<=1000000)(i:Int):pR R i=some (sZ R i):=by
 unfold pR sZ;rw[jd (by omega) (fun x=>i==x) true (fun k x hx=>by rw[aF,hx,QY,BEq.comm])];cases R.any fun x=>i==x<;>rfl
def AG(n:Nat)(R:List Int):List Int:=(Rx n).flatMap fun(i:Nat)=>bif sZ R (i:Int)then[]else[(i:Int)]
theorem xQ{n:Nat}{R:List Int}{x:Int}:x∈AG n R↔ ∃i:Nat,x=i/\i<n/\(i:Int)∉R:=by
 unfold AG;rw[Rn];constructor
 ·rintro⟨i,hi,hx⟩;cases h:sZ R (i:Int)
  ·rw[h]at hx;have:x=i:=by simpa using hx
   exact⟨i,this,RD.1 hi,fun hm=>by rw[GQ.2 hm]at h;cases h⟩
  ·rw[h]at hx;simp at hx
 ·rintro⟨i,rfl,hi,hn⟩;refine⟨i,RD.2 hi,?_⟩;have:sZ R (i:Int)=false:=by
   rw[Rv,ne_eq,GQ];exact hn
  rw[this];simp
theorem JL{α β:Type}{f:α->List β}(hf: ∀x,(f x).length<=1): ∀(M:List α),(M.flatMap f).length<=M.length
 | []=>by simp
 | x::M=>by
  have h1:=hf x;have h2:=JL hf M;rw[Sj,Rb,Rc];omega
theorem Hz(R:List Int)(i:Nat):(bif sZ R (i:Int)then([]:List Int)else[(i:Int)]).length<=1:=by cases sZ R (i:Int)<;>simp
theorem xZ(n:Nat)(R:List Int):(AG n R).length<=n:=by
 have:=JL (Hz R) (Rx n);rw[Ud]at this;exact this
theorem yr{L:List Claim}(hL:L.length<=1000000){R:List Int}(hR:R.length<=1000000):kD L R=some (AG L.length R):=by
 unfold kD;rw[rb 1000000 hL (by omega) (fun(i:Nat)=>bif sZ R (i:Int)then[]else[(i:Int)]) (Hz R) [] (by simpa using hL) (fun i s hi hs=>by
  rw[M4 hR,QY];cases sZ R (i:Int)
  ·rw[RU,cond_true,cond_false,cd (by simp;omega)];rfl
  ·simp)]
 rfl
theorem vP{α β:Type}(g:α->Option β): ∀(I:List α),(Rx I.length).flatMap (fun i=>((I[i]?).bind g).toList)=I.flatMap fun x=>(g x).toList
 | []=>rfl
 | x::I=>by
  rw[Rc,List.range_succ_eq_map,Sj,Sj,List.flatMap_map,<-vP g I];rfl
theorem Eo(L:List Claim)(I:List Int):sM L I=I.flatMap fun x=>(L[x.toNat]?).toList:=vP (fun x:Int=>L[x.toNat]?) I
theorem B7{L:List Claim}{I:List Int}{c:Claim}:c∈sM L I↔ ∃x∈I,L[x.toNat]? =some c:=by
 rw[Eo,Rn];constructor
 ·rintro⟨x,hx,hc⟩;rw[Option.mem_toList]at hc;exact⟨x,hx,hc⟩
 ·rintro⟨x,hx,hc⟩;exact⟨x,hx,by rw[Option.mem_toList];exact hc⟩
def lE(L:List Claim)(R:List Int):List Claim:=sM L (AG L.length R)
theorem CR{L:List Claim}{R:List Int}{c:Claim}:c∈lE L R↔ ∃i:Nat,(i:Int)∉R/\L[i]? =some c:=by
 unfold lE;rw[B7];constructor
 ·rintro⟨x,hx,hc⟩;obtain⟨i,rfl,hi,hn⟩:=xQ.1 hx;exact⟨i,hn,by simpa using hc⟩
 ·rintro⟨i,hn,hc⟩;exact⟨i,xQ.2 ⟨i,rfl,(Q1.1 hc).1,hn⟩,by simpa using hc⟩
theorem xE{L:List Claim}(hL:L.length<=1000000){R:List Int}(hR:R.length<=1000000):qH L R=some (lE L R):=by
 unfold qH;rw[rb 1000000 hL (by omega) (fun(i:Nat)=>bif sZ R (i:Int)then[]else(L[i]?).toList) (fun(i:Nat)=>by
  cases sZ R (i:Int)
  ·cases L[i]? <;>simp
  ·simp) [] (by simpa using hL) (fun i s hi hs=>by
  rw[aF,Q0 hi,QY,Mc hR,QY];cases sZ R (i:Int)
  ·rw[RU,cond_true,cond_false,cd (by simp;omega)];rfl
  ·simp)]
 unfold lE AG;rw[Eo,List.flatMap_assoc,Sr,QY];congr 2;funext i;cases sZ R (i:Int)<;>simp
theorem pJ{L:List Claim}(hc:bf L=true)(R:List Int):(lE L R).length<=100/\ ∀x∈lE L R,cw x=true:=by
 have h1:=(aG.1 hc).1;have h2:=xZ L.length R;exact qo (I:=AG L.length R) (by omega) hc
def gf(L:List Claim)(R:List Int):Bool:=nk (lE L R)
theorem CD{L:List Claim}(hc:bf L=true){R:List Int}(hR:R.length<=1000000):kS L R=some (gf L R):=by
 have h1:=(aG.1 hc).1;obtain⟨h2,h3⟩:=pJ hc R;unfold kS gf;rw[xE (by omega) hR,QY,fS h2 h3];rfl
theorem pj{L:List Claim}(hc:bf L=true){R:List Int}(hR:R.length<=1000000):iv L R=some (gf L R):=by
 have h1:=(aG.1 hc).1;obtain⟨h2,h3⟩:=pJ hc R;have h4:=xZ L.length R;unfold iv gf;rw[yr (by omega) hR,QY,o9 (by omega) (fun x hx=>by
  obtain⟨i,rfl,hi,_⟩:=xQ.1 hx;omega),QY]
 show((bL (lE L R)).bind _)=_;rw[kK h2 h3];rfl
theorem CW{L:List Claim}(hc:bf L=true):BW L.length (gf L):=fun R Q _ _ hs h=>by
 obtain⟨h2,h3⟩:=pJ hc R;obtain⟨h4,_⟩:=pJ hc Q;unfold gf at h⊢;refine vM h2 h4 (fun x hx=> ?_) h3 h;obtain⟨i,hn,hi⟩:=CR.1 hx;exact CR.2 ⟨i,fun hm=>hn (hs _ hm),hi⟩
theorem DA{R:List Int}(hR:R.length<=1000000){i:Nat}(hi:i<R.length):jh R (i:Int)=some (R.eraseIdx i):=by
 unfold jh;rw[kr (by omega) (by omega) (by omega),QY,aO (n:=(i:Int)+1) (by omega) (by omega),kr (by omega) (by omega) (by omega)];simp only[Int.toNat_zero,TL,Rk,TW,QY];rw[cd (by simp;omega),QY,Sr,show Rl ((i:Int)+1)=i+1 by omega,cd (by simp;omega),QY,RF (l:=R.drop (i+1)) (by rw[Sb];omega),List.eraseIdx_eq_take_drop_succ]
theorem Ez{α A:Type}(q:Nat->Bool)(a b:A)(R:List α):(match cn (fun i _=>q i) (fun _ _=>a) R 0 with | some r=>some r | none=>some b)=some (bif(Rx R.length).all fun i=> !q i then b else a):=by
 rw[og];have h:=sW (fun i (_:α)=>q i) R 0;cases hs:(cn (fun i (_:α)=>q i) (fun _ _=>()) R 0).isSome
 ·have hall:((Rx R.length).all fun i=> !q i)=true:=by
   rw[Q7];intro i hi;have hi:=RD.1 hi;rw[RZ];cases hq:q i with
   | false=>rfl
   | true=>
    rw[h.2 ⟨i,R[i],Q0 hi,by rw[RR];exact hq⟩]at hs;cases hs
  rw[hall];rfl
 ·obtain⟨i,x,hx,hq⟩:=h.1 hs;have hi:=(Q1.1 hx).1;have hall:((Rx R.length).all fun i=> !q i)=false:=by
   rw[Rv,ne_eq,Q7];intro hh;have:=hh i (RD.2 hi);rw[RR]at hq;rw[hq]at this;cases this
  rw[hall];rfl
theorem Bw{L:List Claim}(hc:bf L=true){R:List Int}(hR:R.length<=1000000):ln L R=some (jD (gf L) R):=by
 unfold ln jD;rw[pj hc hR,QY];cases gf L R
 ·rfl
 ·rw[Rs,cond_false,fU (by omega) (fun i _=>gf L (R.eraseIdx i)) (fun _ _=>false) (fun i x hx=>by
   have hi:=(Q1.1 hx).1;have h3:=List.length_eraseIdx_of_lt hi;rw[DA hR hi,QY,pj hc (by omega),QY])]
  refine(Ez (A:=Bool) (fun i=>gf L (R.eraseIdx i)) false true R).trans ?_;cases (Rx R.length).all fun i=> !gf L (R.eraseIdx i)<;>rfl
theorem JY{R:List Int}(hR:R.length<=1000000):gK R=some R:=by
 unfold gK;rw[cd (by simp;omega)];rfl
theorem B2{n:Nat}{rep:List Int->Bool}: ∀(k f:Nat) (R:List Int),n - f<k->(kN rep n k f R).length<=2^(n - f):=by
 intro k
 induction k with
 | zero=>intro f R h;omega
 | succ k ih=>
  intro f R hk;unfold kN;cases rep R
  ·rw[cond_false];have key: ∀(m g:Nat),g+m=n->f<=g->((Su g m).flatMap fun i=>kN rep n k (i+1) (R++[(i:Int)])).length+1<=2^m:=by
    intro m
    induction m with
    | zero=>intro g _ _;simp
    | succ m ihm=>
     intro g hg hf;rw[Tx,Sj,Rb];have h1:=ih (g+1) (R++[(g:Int)]) (by omega);have h2:=ihm (g+1) (by omega) (by omega);have e:n -(g+1)=m:=by omega
     rw[e]at h1;rw[TU];omega
   by_cases hfn:f<=n
   ·have:=key (n - f) f (by omega) (Re _);omega
   ·have:n - f=0:=by omega
    rw[this];simp
  ·have:1<=2^(n - f):=Nat.one_le_two_pow;cases jD rep R<;>simp<;>omega
theorem JU{R:List Int}{n f:Nat}(hR:hZ n R)(hn:n<=1000000)(hf:fN R f):(bif(decide ((R.length:Int)>0))then((at' R (ao ((R.length:Int)- 1))).bind fun x5=>some (ao (x5+1)))else some 0)=some (f:Int):=by
 have hl:=hR.len;rcases SM R with h | ⟨l,x,h⟩
 ·subst h;have:=hf.2 0 (Int.le_refl _) (by simp);have hf0:f=0:=by omega
  rw[hf0];rfl
 ·rw[TN]at h;subst h;have hx:=hR.2 x (by simp);have h1:=hf.1 x (by simp);have h2:=hf.2 (x+1) (by omega) (fun y hy=>by
   rcases Rq.1 hy with hy | hy
   ·have:=(R5.1 hR.1).2.2 y hy x (by simp);omega
   ·rw[Rj.1 hy];omega)
  have hlen:(l++[x]).length=l.length+1:=by simp
  rw[hlen]at hl;rw[decide_eq_true (show(((l++[x]).length:Int))>0 by rw[hlen];omega),cond_true,hlen,aO (by omega) (by omega),show((l.length+1:Nat):Int)- 1=(l.length:Int) by omega,aF];have:(l++[x])[l.length]? =some x:=by simp
  rw[this,QY,aO (by omega) (by omega)];congr 1;omega
theorem HM{L:List Claim}(hc:bf L=true): ∀(k f fuel:Nat) (R:List Int),L.length - f<k->k<=fuel->hZ L.length R->fN R f->fE fuel L R=some (kN (gf L) L.length k f R):=by
 have h12:=(aG.1 hc).1;intro k
 induction k with
 | zero=>intro f fuel R h;omega
 | succ k ih=>
  intro f fuel R hk hfu hR hf;obtain⟨fuel,rfl⟩: ∃q,fuel=q+1:=⟨fuel - 1,by omega⟩;have hl:=hR.len;unfold fE kN;rw[pj hc (by omega),QY];cases hrep:gf L R
  ·rw[cond_false,cond_false,JU hR (by omega) hf,QY];rw[eU,uz f (by omega)];have e:((L.length:Int)-(f:Int)).toNat=L.length - f:=by omega
   rw[e];have key: ∀(m g:Nat) (s:List (List Int)),g+m=L.length->f<=g->s.length+2^m<=100000->dd (fun i (s8:List (List Int))=>(((gK R).bind fun x12=>((bZ x12 ([(i:Int)]:List Int)).bind fun x13=>((fE fuel L x13).bind fun x14=>((bZ s8 x14).bind fun x15=>some x15))))).map (Tm (β:=List (List Int)))) (fun s=>s) m g s=some (s++(Su g m).flatMap fun i=>kN (gf L) L.length k (i+1) (R++[(i:Int)])):=by
    intro m
    induction m with
    | zero=>intro g s _ _ _;simp[dd]
    | succ m ihm=>
     intro g s hg hfg hs;have hs2:hZ L.length (R++[(g:Int)]):=hR.snoc (by omega) (by omega) fun x hx=>by have:=hf.1 x hx;omega
     have hal:=B2 (n:=L.length) (rep:=gf L) k (g+1) (R++[(g:Int)]) (by omega);have e2:L.length -(g+1)=m:=by omega
     rw[e2]at hal;have hp:2^(m+1)=2^m+2^m:=by rw[TU];omega
     have hstep:((gK R).bind fun x12=>((bZ x12 ([(g:Int)]:List Int)).bind fun x13=>((fE fuel L x13).bind fun x14=>((bZ s x14).bind fun x15=>some x15))))=some (s++kN (gf L) L.length k (g+1) (R++[(g:Int)])):=by
      rw[JY (by omega),QY,cd (by simp;omega),QY,ih (g+1) fuel _ (by omega) (by omega) hs2 (hf.snoc hfg),QY,cd (by omega),QY]
     unfold dd;simp only[hstep,Sx];show dd _ _ m (g+1) (s++kN (gf L) L.length k (g+1) (R++[(g:Int)]))=_;rw[ihm (g+1) _ (by omega) (by omega) (by rw[Rb];omega),Tx,Sj,Ry]
   by_cases hfl:f<=L.length
   ·have hpow:2^(L.length - f)<=2^12:=RN (by omega) (by omega);rw[key (L.length - f) f [] (by omega) (Re _) (by simp;omega)];rfl
   ·have e3:L.length - f=0:=by omega
    rw[e3];rfl
  ·rw[cond_true,cond_true,Bw hc (by omega),QY];cases jD (gf L) R<;>rfl
theorem M1{L:List Claim}(hc:bf L=true):ua L []=some (kN (gf L) L.length (L.length+1) 0 []):=by
 have h12:=(aG.1 hc).1;exact HM hc (L.length+1) 0 1000 [] (by omega) (by omega) (hZ.nil _) fN.nil
theorem BM{L:List Claim}(hc:bf L=true){Q:List Int}:Q∈kN (gf L) L.length (L.length+1) 0 []↔hZ L.length Q/\jD (gf L) Q=true:=by
 rw[CQ (CW hc) _ _ _ (by omega) (hZ.nil _) fN.nil];exact⟨fun⟨h1,_,h3⟩=>⟨h1,h3⟩,fun⟨h1,h3⟩=>⟨h1,List.nil_prefix,h3⟩⟩
theorem J4(b i:Nat)(hi:i<=64):TF (b:Int) (2^min (Rl (i:Int)) 64)=((b/2^i:Nat):Int):=by
 rw[Rk,TR hi,Int.fdiv_eq_ediv_of_nonneg _ (Int.le_of_lt (Int.pow_pos (by omega)))];rw[show(2:Int)^i=((2^i:Nat):Int) by rw[Int.natCast_pow];rfl];rfl
theorem BQ(i:Nat)(hi:i<=62):ao (1*2^min (Rl (i:Int)) 64)=((2^i:Nat):Int):=by
 rw[Rk,TR (by omega),Int.one_mul,show(2:Int)^i=((2^i:Nat):Int) by rw[Int.natCast_pow];rfl];have:2^i<=2^62:=RN (by omega) hi;generalize 2^i=q at this⊢;exact aO (by omega) (by omega)
theorem Ph(b i:Nat)(hb:b<2^62):((ao ((R6 64 ((b/2^i:Nat):Int)&&&R6 64 1).toNat:Int))==1)=b.testBit i:=by
 have h1:b/2^i<=b:=Nat.div_le_self _ _;rw[UU,show R6 64 1=Um 64 1 from rfl,BitVec.toNat_and,Us,Us,Tv (show b/2^i<2^64 by omega),show 1 % 2^64=1 from rfl,Nat.and_one_is_mod];have h2:b/2^i % 2<2:=Nat.mod_lt _ (by omega);rw[aO (by omega) (by omega),Nat.testBit_eq_decide_div_mod_eq];by_cases h:b/2^i % 2=1
 ·rw[h];rfl
 ·have:b/2^i % 2=0:=by omega
  rw[this];rfl
theorem HR{n i b:Nat}(hi:i<=n)(hb:b<2^i):eh n b=eh i b:=by
 induction n with
 | zero=>
  have:i=0:=by omega
  rw[this]
 | succ n ih=>
  rcases Nat.lt_or_ge i (n+1)with h | h
  ·have hb2:b<2^n:=RQ hb (RN (by omega) (by omega));rw[uT,Nat.testBit_lt_two_pow hb2,cond_false,R4,ih (by omega)]
  ·have:i=n+1:=by omega
   rw[this]
theorem uj(n b:Nat):(eh n b).length<=n:=(qX n b).len
theorem oZ{n b:Nat}(hn:n<=60)(hb:b<2^n):gE (b:Int)=some (eh n b):=by
 have hb62:b<2^62:=RQ hb (RN (by omega) (by omega));unfold gE;have key: ∀(k i:Nat),i+k=n->loop (fun(s3:Int×(List Int))=>((sh' s3.1).bind fun _=>(bif(decide ((TF (b:Int) (2^min (Rl s3.1) 64))>0))then((((sh' s3.1).bind fun _=>(bif((ao ((R6 64 (TF (b:Int) (2^min (Rl s3.1) 64))&&&R6 64 1).toNat:Int))==1)then((bZ s3.2 ([s3.1]:List Int)).bind fun x9=>some x9)else some s3.2))).bind fun(j6:(List Int))=>some (.inl ((ao (s3.1+1)),j6)))else some (.inr s3.2)))) ((i:Int),eh i b)=some (eh n b):=by
  intro k
  induction k with
  | zero=>
   intro i hi;have hin:i=n:=by omega
   subst hin;rw[bR];have h0:sh' (i:Int)=some ():=by unfold sh';rw[if_pos (by omega)]
   simp only[h0,QY,J4 b i (by omega),Nat.div_eq_of_lt hb];rfl
  | succ k ih=>
   intro i hi;rw[bR];have h0:sh' (i:Int)=some ():=by unfold sh';rw[if_pos (by omega)]
   simp only[h0,QY,J4 b i (by omega),Ph b i hb62];by_cases hp:b/2^i>0
   ·rw[decide_eq_true (show((b/2^i:Nat):Int)>0 by omega),cond_true];have hl:=uj i b;have:=ih (i+1) (by omega);rw[uT]at this;cases ht:b.testBit i
    ·rw[ht,cond_false,R4]at this;simp only[cond_false,QY];rw[aO (by omega) (by omega)];exact this
    ·rw[ht,cond_true]at this;simp only[cond_true];rw[cd (by simp;omega)];simp only[QY];rw[aO (by omega) (by omega)];exact this
   ·rw[decide_eq_false (show ¬((b/2^i:Nat):Int)>0 by omega),cond_false];have hbi:b<2^i:=by
     rcases Nat.lt_or_ge b (2^i)with h | h
     ·exact h
     ·exact absurd (Nat.div_pos h (Nat.pow_pos (by omega))) hp
    rw[HR (n:=n) (i:=i) (by omega) hbi]
 have:=key n 0 (by omega);have e0:eh 0 b=[]:=rfl;rw[e0]at this;rw[show((0:Nat):Int)=0 from rfl]at this;rw[this];rfl
theorem Pm(b i n:Nat)(hb:b<2^n)(hn:n<=60)(hi:i<n)(ht:b.testBit i=true): ∃c,c<b/\ao ((R6 64 (b:Int)&&& ~~~R6 64 (ao (1*2^min (Rl (i:Int)) 64))).toNat:Int)=(c:Int)/\ ∀j,j<n->c.testBit j=(b.testBit j&& !decide (i=j)):=by
 have hb62:b<2^62:=RQ hb (RN (by omega) (by omega));have hi62:2^i<=2^62:=RN (by omega) (by omega);rw[BQ i (by omega),UU,UU];have hle:(Um 64 b&&& ~~~Um 64 (2^i)).toNat<=b:=by
  rw[BitVec.toNat_and,Us,Tv (show b<2^64 by omega)];exact Nat.and_le_left
 have hbit: ∀j,j<n->(Um 64 b&&& ~~~Um 64 (2^i)).toNat.testBit j=(b.testBit j&& !decide (i=j)):=fun j hj=>by
  rw[BitVec.toNat_and,Nat.testBit_and,Us,Tv (show b<2^64 by omega),BitVec.testBit_toNat,BitVec.getLsbD_not,BitVec.getLsbD_ofNat,Nat.testBit_two_pow];rw[decide_eq_true (show j<64 by omega),Se,Se]
 refine⟨(Um 64 b&&& ~~~Um 64 (2^i)).toNat,?_,aO (by omega) (by omega),hbit⟩;refine Nat.lt_of_le_of_ne hle fun e=> ?_;have:=hbit i hi;rw[e,ht]at this;simp at this
theorem M9{n b c i:Nat}(h: ∀j,j<n->c.testBit j=(b.testBit j&& !decide (i=j))):eh n c=(eh n b).filter fun x=> !((i:Int)==x):=by
 unfold eh;rw[List.filter_map,List.filter_filter];congr 1;refine List.filter_congr fun j hj=> ?_;rw[h j (RD.1 hj),Bool.and_comm];congr 1;show(!decide (i=j))= !((i:Int)==(j:Int));congr 1;by_cases e:i=j
 ·subst e;simp
 ·have: ¬(i:Int)=(j:Int):=by omega
  rw[decide_eq_false e,beq_eq_false_iff_ne.2 this]
theorem erase_filter: ∀{R:List Int},R.Nodup-> ∀{i:Nat} (hi:i<R.length),R.eraseIdx i=R.filter fun x=> !(R[i]==x)
 | [],_,i,hi=>by simp at hi
 | x::R,h,0,hi=>by
  have h1:=List.nodup_cons.1 h;show R=(x::R).filter fun y=> !(x==y);rw[T4,if_neg (by simp)];exact(List.filter_eq_self.2 fun y hy=>by
   have: ¬x=y:=fun e=>h1.1 (e▸hy);rw[beq_eq_false_iff_ne.2 this];rfl).symm
 | x::R,h,i+1,hi=>by
  have h1:=List.nodup_cons.1 h;have hi2:i<R.length:=by simpa using hi
  show x::R.eraseIdx i=(x::R).filter fun y=> !(R[i]==y);have: ¬R[i]=x:=fun e=>h1.1 (e▸R2 hi2);rw[T4,if_pos (by rw[beq_eq_false_iff_ne.2 this];rfl),erase_filter h1.2 hi2]
def vB(rep:List Int->Bool)(R:List Int):Bool:=R.any fun i=>rep (R.filter fun x=> !(i==x))
theorem Hk{rep:List Int->Bool}{R:List Int}(hR:R.Nodup):jD rep R=(rep R&& !vB rep R):=by
 unfold jD vB;congr 1;rw[S7,Q7,RZ,UG];constructor
 ·intro h x hx;obtain⟨i,hi,rfl⟩:=TX.1 hx;have:=h i (RD.2 hi);rw[erase_filter hR hi]at this;simpa using this
 ·intro h i hi;have hi:=RD.1 hi;have:=h R[i] (R2 hi);rw[erase_filter hR hi];simpa using this
theorem G9{n:Nat}{rep:List Int->Bool}(hr:BW n rep){R:List Int}(hR:hZ n R)(h:vB rep R=true):rep R=true:=by
 unfold vB at h;obtain⟨i,hi,h⟩:=RS.1 h;exact hr _ R (hR.sub List.filter_sublist) hR (fun x hx=>(Q8.1 hx).1) h
def outs(rep:List Int->Bool)(n b:Nat):List (List Int):=((Rx b).filter fun c=>jD rep (eh n c)).map (eh n)
theorem KV(rep:List Int->Bool)(n b:Nat):outs rep n (b+1)=outs rep n b++(bif jD rep (eh n b)then[eh n b]else[]):=by
 unfold outs;rw[Uq,List.filter_append,SI];congr 1;cases h:jD rep (eh n b)<;>simp[h]
theorem xV(rep:List Int->Bool)(n b:Nat):(outs rep n b).length<=b:=by
 unfold outs;rw[Rp];have:=Sv (fun c=>jD rep (eh n c)) (Rx b);rw[Ud]at this;exact this
theorem xP{rep:List Int->Bool}{n:Nat}{Q:List Int}:Q∈outs rep n (2^n)↔hZ n Q/\jD rep Q=true:=by
 unfold outs;rw[Rh];constructor
 ·rintro⟨b,hb,rfl⟩;rw[Q8]at hb;exact⟨qX n b,hb.2⟩
 ·rintro⟨h1,h2⟩;obtain⟨b,hb,rfl⟩:=yx n h1;exact⟨b,Q8.2 ⟨RD.2 hb,h2⟩,rfl⟩
def Gf(rep:List Int->Bool)(n b:Nat)(g:List Bool):Prop:=g.length=2^n/\ ∀c,c<b->g[c]? =some (rep (eh n c))
theorem yO{A:Type}{D:List (List Int)×List Bool->A}{rep:List Int->Bool}{n:Nat}{B:Int->List (List Int)×List Bool->Option (List (List Int)×List Bool)}
  (hB: ∀(b:Nat) (o:List (List Int)) (g:List Bool),b<2^n->o.length<=b->Gf rep n b g->B (b:Int) (o,g)=some (o++(bif jD rep (eh n b)then[eh n b]else[]),g.set b (rep (eh n b)))):
  ∀(k b:Nat) (g:List Bool),b+k=2^n->Gf rep n b g-> ∃g',dd (fun i s=>(B (i:Int) s).map (Tm (β:=A))) D k b (outs rep n b,g)=some (D (outs rep n (2^n),g'))
 | 0,b,g,hb,hg=>⟨g,by rw[show b=2^n by omega];rfl⟩
 | k+1,b,g,hb,hg=>by
  obtain⟨g',h⟩:=yO hB k (b+1) (g.set b (rep (eh n b))) (by omega) ⟨by rw[TP];exact hg.1,fun c hc=>by
   rw[UH];by_cases e:b=c
   ·subst e;rw[if_pos rfl,if_pos (by rw[hg.1];omega)]
   ·rw[if_neg e];exact hg.2 c (by omega)⟩
  refine⟨g',?_⟩;unfold dd;rw[hB b _ g (by omega) (xV rep n b) hg,<-KV];exact h
theorem JR{rep:List Int->Bool}{n b:Nat}(hb:b<2^n)(hn:n<=60){g:List Bool}(hg:Gf rep n b g){i:Int}(hi:i∈eh n b):sh' i=some ()/\at' g (ao ((R6 64 (b:Int)&&& ~~~R6 64 (ao (1*2^min (Rl i) 64))).toNat:Int))=some (rep ((eh n b).filter fun x=> !(i==x))):=by
 obtain⟨m,rfl,hm,ht⟩:=xR.1 hi;obtain⟨c,h1,h2,h3⟩:=Pm b m n hb hn hm ht;refine⟨by unfold sh';rw[if_pos (by omega)],?_⟩;rw[h2,aF,hg.2 c h1,M9 h3]
theorem Fv{rep:List Int->Bool}{n b:Nat}(hb:b<2^n)(hn:n<=60){g:List Bool}(hg:Gf rep n b g):bn (eh n b) g (b:Int)=some (vB rep (eh n b)):=by
 have hl:=uj n b;unfold bn cA jt vB;rw[fV (by omega) (fun i=>rep ((eh n b).filter fun x=> !(i==x))) (fun k x hx=>by
  obtain⟨h1,h2⟩:=JR hb hn hg (Q3 hx);rw[aF,hx,QY,h1,QY,h2];rfl),QY,kO]
theorem A6{L:List Claim}(hc:bf L=true):fi L=some (nF (outs (gf L) L.length (2^L.length))):=by
 have h12:=(aG.1 hc).1;have hpow:2^L.length<=2^12:=RN (by omega) h12;have hpos:1<=2^L.length:=Nat.one_le_two_pow;have h0:sh' (L.length:Int)=some ():=by unfold sh';rw[if_pos (by omega)]
 unfold fi;rw[h0,QY,BQ L.length (by omega),BK _ (by omega),QY,QY,eU,fH _ (by omega)];have hlo:=xV (gf L) L.length (2^L.length);obtain⟨g',h⟩:=yO (A:=List (List Int)) (D:=fun s=>s.1) (rep:=gf L) (n:=L.length) (B:=fun(i6:Int) (s6:(List (List Int))×(List Bool))=>((gE i6).bind fun x10=>((bn x10 s6.2 i6).bind fun x11=>(((bif x11 then((at' s6.2 i6).bind fun _=>some (true,(Sd s6.2 (Rl i6) true)))else((kS L x10).bind fun x13=>((at' s6.2 i6).bind fun _=>some (false,(Sd s6.2 (Rl i6) x13)))))).bind fun(j15:Bool×(List Bool))=>((((at' j15.2 i6).bind fun x17=>(bif x17 then some (!j15.1)else some false))).bind fun(j18:Bool)=>(bif j18 then((bZ s6.1 ([x10]:List (List Int))).bind fun x20=>some (x20,j15.2))else some (s6.1,j15.2))))))) (fun b o g hb ho hg=>by
  have hl:=uj L.length b;have hgl:=hg.1;have hinc:=qX L.length b;have hat:at' g (b:Int)=some (g[b]'(by omega)):=by rw[aF,Q0]
  have hset: ∀v:Bool,at' (g.set b v) (b:Int)=some v:=fun v=>by rw[aF,UH,if_pos rfl,if_pos (by omega)]
  rw[oZ (n:=L.length) (by omega) hb,QY,Fv hb (by omega) hg,QY,Hk hinc.nodup,CD hc (by omega)];cases hls:vB (gf L) (eh L.length b)
  ·simp only[cond_false,QY,hat,Rk,hset,RU];cases gf L (eh L.length b)
   ·simp
   ·simp only[cond_true,Bool.and_self];rw[cd (by simp;omega)];rfl
  ·rw[G9 (CW hc) hinc hls];simp only[cond_true,QY,hat,Rk,hset,Rs,Bool.and_false,cond_false,R4])
  (2^L.length) 0 (Sm (2^L.length) false) (by omega) ⟨by simp,fun c hc=>by omega⟩
 have e0:outs (gf L) L.length 0=[]:=rfl;rw[e0]at h;rw[h,QY];unfold aL;rw[if_pos (by show(outs (gf L) L.length (2^L.length)).length<=1000000000;omega)];rfl
def OW(L:List Claim)(x:Int):Int:=((L[x.toNat]?).map Claim.Weight).getD 0
def wt(L:List Claim)(R:List Int):Int:=R.foldl (fun s x=>s+OW L x) 0
theorem uW{L:List Claim}(hc:bf L=true){R:List Int}(hR:hZ L.length R):jq L R=some (wt L R):=by
 have h12:=(aG.1 hc).1;have hl:=hR.len;unfold jq wt;rw[Oc R (by omega) (fun(_:Int) x7 (s3:Int)=>((at' L x7).bind fun x8=>some (ao (s3+x8.Weight))))];have key: ∀(M:List Int) (k:Nat) (s:Int),(∀x∈M,x∈R)->0<=s->s+100*M.length<=100000->qQ (fun(_:Nat) (x7:Int) (s3:Int)=>((at' L x7).bind fun x8=>some (ao (s3+x8.Weight))).map (Tm (β:=Int))) (fun s=>s) M k s=some (M.foldl (fun s x=>s+OW L x) s):=by
  intro M
  induction M with
  | nil=>intro k s _ _ _;rfl
  | cons x M ih=>
   intro k s hM h0 hs;have hx:=hR.2 x (hM x (by simp));have hlt:x.toNat<L.length:=by omega
   have hat:at' L x=some L[x.toNat]:=by
    have:=aF (L:=L) x.toNat;rw[show((x.toNat:Nat):Int)=x by omega]at this;rw[this,Q0 hlt]
   have hw:OW L x=L[x.toNat].Weight:=by unfold OW;rw[Q0 hlt];rfl
   have hcl:=(aG.1 hc).2 _ (R2 hlt);unfold cw at hcl;simp only[Q4]at hcl;have hwt:=ic.1 hcl.2.2.2.2;simp only[Rc]at hs;unfold qQ;rw[hat,QY,aO (by omega) (by omega),Ss,hw];exact ih (k+1) _ (fun y hy=>hM y (by simp[hy])) (by omega) (by omega)
 rw[key R 0 0 (fun _ h=>h) (Int.le_refl _) (by omega)];rfl
theorem pk{L:List Claim}(hc:bf L=true){R:List Int}(hR:hZ L.length R):fY L R=some (wt L R):=uW hc hR
theorem Fe(x y:Int):dH x y=some (if x<y then -1 else if y<x then 1 else 0):=by
 unfold dH iZ;simp only[bne_self_eq_false,QY,cond_false];by_cases h1:x<y
 ·rw[decide_eq_true h1,if_pos h1];rfl
 ·rw[decide_eq_false h1,if_neg h1];by_cases h2:y<x
  ·rw[decide_eq_true (show x>y from h2),if_pos h2];rfl
  ·rw[decide_eq_false (show ¬x>y from h2),if_neg h2];rfl
theorem JC(x y:Int):iY x y=some (if x<y then -1 else if y<x then 1 else 0):=Fe x y
theorem Is{a b:List Int}(ha:a.length<=1000000)(_hb:b.length<=1000000):gH a b=some (cmpL a b):=by
 unfold gH;rw[Ob (A:=Unit⊕Int) a (by omega) (fun(i3:Int) x7 (_:Unit)=>(bif(decide (i3>=(b.length:Int)))then some (S1 (S1 1))else((at' b i3).bind fun x8=>((dH x7 x8).bind fun x9=>(bif(x9 !=0)then some (S1 (S1 x9))else some (Tm ()))))))];have key: ∀(M:List Int) (k:Nat),k+M.length=a.length->k<=b.length-> ∃r,qQ (fun(i3:Nat) x7 (_:Unit)=>(bif(decide ((i3:Int)>=(b.length:Int)))then some (S1 (S1 1))else((at' b (i3:Int)).bind fun x8=>((dH x7 x8).bind fun x9=>(bif(x9 !=0)then some (S1 (S1 x9))else some (Tm ())))))) (fun _=>(Tm ():Unit⊕Int)) M k ()=some r/\Ri (fun(_:Unit)=>(bif(decide ((a.length:Int)<(b.length:Int)))then some (-1)else some 0)) some r=some (cmpL M (b.drop k)):=by
  intro M
  induction M with
  | nil=>
   intro k hk hkb;refine⟨.inl (),rfl,?_⟩;simp only[RH];simp only[Sw,Sa]at hk;by_cases h:a.length<b.length
   ·rw[decide_eq_true (show(a.length:Int)<b.length by omega)];rw[RP (show k<b.length by omega)];rfl
   ·rw[decide_eq_false (show ¬(a.length:Int)<b.length by omega),St (by omega)];rfl
  | cons x M ih=>
   intro k hk hkb;simp only[Rc]at hk;unfold qQ;by_cases h:k<b.length
   ·rw[decide_eq_false (show ¬(k:Int)>=b.length by omega),cond_false,aF,Q0 h,QY,Fe,QY,RP h,qp];by_cases h1:x<b[k]
    ·rw[if_pos h1,if_pos h1];exact⟨_,rfl,rfl⟩
    ·by_cases h2:b[k]<x
     ·rw[if_neg h1,if_pos h2,if_neg h1,if_pos h2];exact⟨_,rfl,rfl⟩
     ·rw[if_neg h1,if_neg h2,if_neg h1,if_neg h2];exact ih (k+1) (by omega) (by omega)
   ·rw[decide_eq_true (show(k:Int)>=b.length by omega),St (by omega)];exact⟨_,rfl,rfl⟩
 obtain⟨r,h1,h2⟩:=key a 0 (by omega) (R0 _);rw[h1,QY,h2];rfl
theorem LN{L:List Claim}(hc:bf L=true){a b:List Int}(ha:hZ L.length a)(hb:hZ L.length b): ∃r,dN a b L=some r/\(decide (r<0)=true↔mD (wt L) a b):=by
 have h12:=(aG.1 hc).1;have hla:=ha.len;have hlb:=hb.len;unfold dN;rw[uW hc ha,uW hc hb,QY,QY,Fe,QY,JC,QY,Is (by omega) (by omega),QY];generalize hp:(if wt L a<wt L b then(-1:Int)else if wt L b<wt L a then 1 else 0)=p;generalize hq:(if(a.length:Int)<(b.length:Int)then(-1:Int)else if(b.length:Int)<(a.length:Int)then 1 else 0)=q;generalize hr:cmpL a b=r;have hor:jH [p,q,r]=some (if p≠0 then p else if q≠0 then q else r):=by
  unfold jH;rw[fU (L:=[p,q,r]) (by simp) (fun _ x=>x !=0) (fun _ x=>x) (fun i x hx=>by rw[aF,hx];rfl)];by_cases h1:p=0
  ·subst h1;by_cases h2:q=0
   ·subst h2;by_cases h3:r=0
    ·subst h3;rfl
    ·have e3:(r !=0)=true:=by simpa using h3
     simp only[cn,bne_self_eq_false,cond_false,e3,cond_true];simp
   ·have e2:(q !=0)=true:=by simpa using h2
    simp only[cn,bne_self_eq_false,cond_false,e2,cond_true];simp[h2]
  ·have e1:(p !=0)=true:=by simpa using h1
   simp only[cn,e1,cond_true];simp[h1]
 rw[hor,QY];refine⟨_,rfl,?_⟩;rw[decide_eq_true_eq];unfold mD;rw[hr];by_cases h1:wt L a<wt L b
 ·rw[if_pos h1]at hp;subst hp;exact⟨fun _=> .inl h1,fun _=>by simp⟩
 ·by_cases h2:wt L b<wt L a
  ·rw[if_neg h1,if_pos h2]at hp;subst hp;exact⟨fun h=>by simp at h,fun h=>by omega⟩
  ·rw[if_neg h1,if_neg h2]at hp;subst hp;have hw:wt L a=wt L b:=by omega
   by_cases h3:a.length<b.length
   ·rw[if_pos (show(a.length:Int)<b.length by omega)]at hq;subst hq;exact⟨fun _=> .inr ⟨hw,.inl h3⟩,fun _=>by simp⟩
   ·by_cases h4:b.length<a.length
    ·rw[if_neg (by omega),if_pos (show(b.length:Int)<a.length by omega)]at hq;subst hq;exact⟨fun h=>by simp at h,fun h=>by omega⟩
    ·rw[if_neg (by omega),if_neg (by omega)]at hq;subst hq;have hle:a.length=b.length:=by omega
     simp only[ne_eq,not_true_eq_false,if_false];exact⟨fun h=> .inr ⟨hw,.inr ⟨hle,h⟩⟩,fun h=>by omega⟩
theorem EC{α S A:Type}{B:Int->S->Option S}{D:S->A}(I:S->Prop)(g:S->α->S): ∀(M:List α) (k:Nat) (s:S),(∀j x s,M[j]? =some x->I s->B ((k+j:Nat):Int) s=some (g s x)/\I (g s x))->I s->dd (fun i s=>(B (i:Int) s).map (Tm (β:=A))) D M.length k s=some (D (M.foldl g s))/\I (M.foldl g s)
 | [],_,_,_,h=>⟨rfl,h⟩
 | x::l,k,s,h,h2=>by
  have h3:=h 0 x s rfl h2;rw[Sa]at h3;rw[Rc];unfold dd;rw[h3.1];exact EC I g l (k+1) _ (fun j y s hy hs=>by
   have:=h (j+1) y s (by rw[SQ];exact hy) hs;rw[show k+1+j=k+(j+1) by omega];exact this) h3.2
theorem CS{L:List Claim}(_hc:bf L=true): ∃Q,hZ L.length Q/\jD (gf L) Q=true:=by
 have hI:hZ L.length ((Rx L.length).map fun(i:Nat)=>(i:Int)):=by
  refine⟨?_,fun x hx=> ?_⟩
  ·rw[List.pairwise_map];exact(List.pairwise_lt_range (n:=L.length)).imp fun h=>by omega
  ·obtain⟨i,hi,rfl⟩:=Rh.1 hx;have:=RD.1 hi;omega
 have hk:lE L ((Rx L.length).map fun(i:Nat)=>(i:Int))=[]:=by
  rw[List.eq_nil_iff_forall_not_mem];intro c hc;obtain⟨i,hn,hi⟩:=CR.1 hc;exact hn (Rh.2 ⟨i,RD.2 (Q1.1 hi).1,rfl⟩)
 have hr:gf L ((Rx L.length).map fun(i:Nat)=>(i:Int))=true:=by
  unfold gf;rw[hk];rfl
 obtain⟨Q,h1,h2,_⟩:=IB _ _ (Re _) hI hr;exact⟨Q,h1,h2⟩
theorem K9{L:List Claim}(hc:bf L=true): ∃b,ew L=some (b,wt L b)/\ia (wt L) (kN (gf L) L.length (L.length+1) 0 []) b:=by
 have h12:=(aG.1 hc).1;obtain⟨Q,q1,q2⟩:=CS hc;have hQ:=(BM hc).2 ⟨q1,q2⟩;have hsort:=Ai (rep:=gf L) (n:=L.length) (L.length+1) 0 [];have hlen:=B2 (n:=L.length) (rep:=gf L) (L.length+1) 0 [] (by omega);have hinc: ∀x∈kN (gf L) L.length (L.length+1) 0 [],hZ L.length x:=fun x hx=>((BM hc).1 hx).1;have hpow:2^(L.length - 0)<=2^12:=RN (by omega) (by omega);unfold ew;rw[M1 hc,QY];generalize kN (gf L) L.length (L.length+1) 0 []=l at*;cases l with
 | nil=>simp at hQ
 | cons a l=>
  have h0:at' (a::l) 0=some a:=aF (L:=a::l) 0;have ha:=hinc a (by simp);obtain⟨h1,h2⟩:=AX (L:=a::l) (by omega) (B:=fun(i5:Int) (s5:(List Int))=>((at' (a::l) i5).bind fun x9=>((fY L x9).bind fun x10=>((fY L s5).bind fun x11=>(((bif(decide (x10<x11))then some true else(bif(x10==x11)then((at' (a::l) i5).bind fun x12=>some (decide ((x12.length:Int)<(s5.length:Int))))else some false))).bind fun(j13:Bool)=>(bif j13 then((at' (a::l) i5).bind fun x15=>some x15)else some s5)))))) (D:=fun s=>s) (hZ L.length) (fun b a=>if wt L a<wt L b\/(wt L a=wt L b/\a.length<b.length)then a else b) a (fun i x s hx hs=>by
   have hxi:=hinc x (Q3 hx);have hat:at' (a::l) (i:Int)=some x:=by rw[aF,hx]
   simp only[hat,QY,pk hc hxi,pk hc hs];by_cases c1:wt L x<wt L s
   ·rw[decide_eq_true c1,if_pos (.inl c1)];exact⟨rfl,hxi⟩
   ·rw[decide_eq_false c1,cond_false];by_cases c2:wt L x=wt L s
    ·rw[beq_iff_eq.2 c2,cond_true,QY];by_cases c3:x.length<s.length
     ·rw[decide_eq_true (show(x.length:Int)<s.length by omega),if_pos (.inr ⟨c2,c3⟩)];exact⟨rfl,hxi⟩
     ·rw[decide_eq_false (show ¬(x.length:Int)<s.length by omega),if_neg (by omega)];exact⟨rfl,hs⟩
    ·rw[beq_eq_false_iff_ne.2 c2,if_neg (by omega)];exact⟨rfl,hs⟩) ha
  rw[h0,QY,h1,QY,pk hc h2,QY];refine⟨_,rfl,?_⟩;rw[Ss,if_neg (by omega)];exact xK (w:=wt L) l [a] a hsort ⟨by simp,fun r hr=> .inl (Rj.1 hr)⟩
theorem Ky{L:List Claim}(hc:bf L=true): ∃b,cV L=some b/\ia (wt L) (nF (outs (gf L) L.length (2^L.length))) b:=by
 have h12:=(aG.1 hc).1;obtain⟨Q,q1,q2⟩:=CS hc;have hQ:Q∈nF (outs (gf L) L.length (2^L.length)):=(mR _).mem_iff.2 (xP.2 ⟨q1,q2⟩);have hpow:2^L.length<=2^12:=RN (by omega) h12;have hlen:(nF (outs (gf L) L.length (2^L.length))).length<=2^L.length:=by
  rw[zQ];exact xV _ _ _
 have hinc: ∀x∈nF (outs (gf L) L.length (2^L.length)),hZ L.length x:=fun x hx=>(xP.1 ((mR _).mem_iff.1 hx)).1;unfold cV;rw[A6 hc,QY];generalize nF (outs (gf L) L.length (2^L.length))=l at*;cases l with
 | nil=>simp at hQ
 | cons a l=>
  rw[Rc]at hlen;have h0:at' (a::l) 0=some a:=aF (L:=a::l) 0;have ha:=hinc a (by simp);have hcl: ∀x y,hZ L.length x->hZ L.length y-> ∃r,dN x y L=some r/\(decide (r<0)=true↔mD (wt L) x y):=fun x y hx hy=>LN hc hx hy;obtain⟨h1,h2⟩:=EC (A:=List Int) (B:=fun(i6:Int) (s6:(List Int))=>((at' (a::l) i6).bind fun x10=>((dN x10 s6 L).bind fun x11=>(bif(decide (x11<0))then((at' (a::l) i6).bind fun x12=>some x12)else some s6)))) (D:=fun s=>s) (hZ L.length) (fun b a=>bif @decide (mD (wt L) a b) (Classical.propDecidable _)then a else b) l 1 a (fun j x s hx hs=>by
   have hxi:=hinc x (RC _ (Q3 hx));have hat:at' (a::l) ((1+j:Nat):Int)=some x:=by rw[aF,Nat.add_comm,SQ,hx]
   obtain⟨r,r1,r2⟩:=hcl x s hxi hs;simp only[hat,QY,r1];cases hr:decide (r<0)
   ·have: ¬mD (wt L) x s:=fun h=>by rw[r2.2 h]at hr;cases hr
    rw[@decide_eq_false _ (Classical.propDecidable _) this];exact⟨rfl,hs⟩
   ·rw[@decide_eq_true _ (Classical.propDecidable _) (r2.1 hr)];exact⟨rfl,hxi⟩) ha
  unfold cU;rw[decide_eq_false (show ¬((a::l).length:Int)<1 by rw[Rc];omega),cond_false,QY,h0,QY,eU];have hfr:=uz (n:=((a::l).length:Int)) 1 (by rw[Rc];omega) (fun(i:Int) (s:List Int)=>(((at' (a::l) i).bind fun x10=>((dN x10 s L).bind fun x11=>(bif(decide (x11<0))then((at' (a::l) i).bind fun x12=>some x12)else some s)))).map (Tm (β:=List Int))) (fun s=>s) a;rw[show(((a::l).length:Int)-(1:Nat)).toNat=l.length by rw[Rc];omega]at hfr;refine⟨_,(congrArg (fun o:Option (List Int)=>(o.bind fun j4=>some j4).bind fun x2=>some x2) (hfr.trans h1)).trans rfl,?_⟩;exact wF (w:=wt L) _ (fun a b=>by rw[@decide_eq_true_eq _ (Classical.propDecidable _)]) l [a] a ⟨by simp,fun r hr=> .inl (Rj.1 hr)⟩
theorem Jz{L:List Claim}(hc:bf L=true): ∃b,cV L=some b/\ew L=some (b,wt L b)/\hZ L.length b/\jD (gf L) b=true:=by
 obtain⟨b,b1,b2⟩:=Ky hc;obtain⟨c,c1,c2⟩:=K9 hc;have hbc:b=c:=ia.unique (fun x=>by rw[(mR _).mem_iff,xP,BM hc]) b2 c2;subst hbc;have hm:=(BM hc).1 c2.1;exact⟨b,b1,c1,hm.1,hm.2⟩
theorem yj{L:List Claim}(hc:bf L=true){b:List Int}(hb:ew L=some (b,wt L b))(hi:hZ L.length b):mu L=some (lE L b):=by
 have h1:=(aG.1 hc).1;have h4:=xZ L.length b;have h5:=hi.len;unfold mu;rw[hb,QY];show((kD L b).bind _)=_;rw[yr (by omega) (by omega),QY,o9 (by omega) (fun x hx=>by
  obtain⟨i,rfl,hi,_⟩:=xQ.1 hx;omega),QY]
 rfl
theorem GX{L:List Claim}(hc:bf L=true)(b:List Int):bf (lE L b)=true:=by
 have h1:=(aG.1 hc).1;have h2:=Gs L (AG L.length b);have h4:=xZ L.length b;exact aG.2 ⟨by unfold lE;omega,(pJ hc b).2⟩
theorem GY{L:List Claim}{b:List Int}{x:Claim}(h:x∈lE L b):x∈L:=Gt h
def qn(L:List Claim)(b:List Int)(k:Int)(p:ByteArray)(y:Int):ByteArray×Int:=bif abC L p y !=0 then(QZ #[],abC L p y)else match tel (lE L b) k p y with | some v=>(v,0) | none=>(QZ #[],4)
theorem HZ{L:List Claim}{b:List Int}{p:ByteArray}{y:Int}(h0:(abC L p y !=0)=false)(hm:jD (gf L) b=true)(k:Int):Lk (lE L b) k p y=qn L b k p y:=by
 have hz:(abC L p y==0)=true:=by
  rw[bne,Ut]at h0;exact h0
 have hc:=ql hz;have hz':abC (lE L b) p y=0:=by
  unfold abC at hz⊢;rw[GX hc b];rw[hc]at hz;exact beq_iff_eq.1 hz
 have hso:soC (lE L b) p y=0:=by
  unfold soC;rw[hz'];have:nk (lE L b)=true:=Hi hm;rw[this];rfl
 unfold Lk qn;rw[hso,h0];rfl
theorem tp{L:List Claim}(hL:L.length<=1048576)(h: ∀x∈L,de x){p:ByteArray}(hp:p.size<=1048576)(k y:Int){b:List Int}(hb:bf L=true->cV L=some b/\hZ L.length b):kQ L k p y=some (qn L b k p y):=by
 unfold kQ qn;rw[DJ hL h hp,QY];cases h0:(abC L p y !=0)
 ·have hc:bf L=true:=ql (p:=p) (y:=y) (by rw[bne,Ut]at h0;exact h0);have h12:=(aG.1 hc).1;obtain⟨b1,b2⟩:=hb hc;have h5:=b2.len;have h6:=(pJ hc b).1;rw[cond_false,cond_false,b1,QY,xE (by omega) (by omega),QY,Fz (by omega),QY];cases tel (lE L b) k p y<;>rfl
 ·rfl
theorem NJ(L:List Claim): ∃b,bf L=true->cV L=some b/\ew L=some (b,wt L b)/\hZ L.length b/\jD (gf L) b=true:=by
 cases hc:bf L
 ·exact⟨[],fun h=>by cases h⟩
 ·obtain⟨b,h⟩:=Jz hc;exact⟨b,fun _=>h⟩
theorem Im{L:List Claim}(hL:L.length<=1048576)(h: ∀x∈L,de x){p:ByteArray}(hp:p.size<=1048576)(y:Int){b:List Int}(hb:bf L=true->cV L=some b/\ew L=some (b,wt L b)/\hZ L.length b/\jD (gf L) b=true):kP L p y=some (qn L b 0 p y)/\kW L p y=some (qn L b 0 p y):=by
 constructor
 ·unfold kP;rw[tp hL h hp 0 y fun hc=>⟨(hb hc).1,(hb hc).2.2.1⟩];rfl
 ·unfold kW;rw[rI hL h hp,QY];cases h0:(abC L p y !=0)
  ·have hc:bf L=true:=ql (p:=p) (y:=y) (by rw[bne,Ut]at h0;exact h0);obtain⟨_,b2,b3,b4⟩:=hb hc;have h6:=(pJ hc b).1;rw[cond_false,yj hc b2 b3,QY,Dj (by omega) (fun x hx=>h x (GY hx)) hp,HZ h0 b4];rfl
  ·unfold qn;rw[h0];rfl
theorem E8{L:List Claim}(hL:L.length<=1048576)(h: ∀x∈L,de x){p:ByteArray}(hp:p.size<=1048576)(y:Int){b:List Int}(hb:bf L=true->cV L=some b/\ew L=some (b,wt L b)/\hZ L.length b/\jD (gf L) b=true):ja L p y=some (qn L b 1 p y)/\jg L p y=some (qn L b 1 p y):=by
 constructor
 ·unfold ja;rw[tp hL h hp 1 y fun hc=>⟨(hb hc).1,(hb hc).2.2.1⟩];rfl
 ·unfold jg;rw[rI hL h hp,QY];cases h0:(abC L p y !=0)
  ·have hc:bf L=true:=ql (p:=p) (y:=y) (by rw[bne,Ut]at h0;exact h0);obtain⟨_,b2,b3,b4⟩:=hb hc;have h6:=(pJ hc b).1;rw[cond_false,yj hc b2 b3,QY,zX (by omega) (fun x hx=>h x (GY hx)) hp,HZ h0 b4];rfl
  ·unfold qn;rw[h0];rfl
