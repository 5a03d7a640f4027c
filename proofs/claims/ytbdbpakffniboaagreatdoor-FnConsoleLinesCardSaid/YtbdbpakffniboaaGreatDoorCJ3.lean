/- Parts of the proof, in order: MMR5, MIS, MST1, MSS2, MSS3, MCNA, MCNB, MCN2, MCN3, MCNC, MCND, MCF1, MCF2, MCF3. -/
import Derived.Test.YtbdbpakffniboaaGreatDoorCJ2
import Derived.Test.YtbdbpakffniboaaGreatDoorCJ0
noncomputable section
open Array renaming toList_inj->TK
open Bool renaming and_eq_true->Q4,not_true->Rs,eq_false_iff->Rv,not_false->RU,not_eq_true'->RZ,true_and->Se,eq_iff_iff->S7,and_self->Uo,not_not->UE
open ByteArray renaming mk->QZ,size_append->Q9
open Int renaming toNat_natCast->Rk,toNat->Rl,eq_ofNat_of_zero_le->RT,tmod->RW,tmod_eq_emod_of_nonneg->SB
open List renaming getElem?_eq_getElem->Q0,getElem?_eq_some_iff->Q1,mem_of_getElem?->Q3,getElem?_append_right->Q6,mem_filter->Q8,mem_cons->Ra,length_append->Rb,length_cons->Rc,mem_map->Rh,mem_singleton->Rj,getD_eq_getElem?_getD->Ro,length_map->Rp,mem_append->Rq,mem_cons_self->Rr,length_take->Rt,range->Rx,append_assoc->Ry,mem_cons_of_mem->RC,mem_range->RD,take_of_length_le->RF,eq_nil_of_length_eq_zero->RM,drop_eq_getElem_cons->RP,size_toArray->RX,getElem_mem->R2,append_nil->R4,pairwise_append->R5,length_drop->Sb,set->Sd,not_mem_nil->Sg,flatMap_cons->Sj,pairwise_cons->Sn,length_eq_zero_iff->Sp,map_cons->Sq,nil_append->Sr,foldl_cons->Ss,drop_eq_nil_of_le->St,range'->Su,length_filter_le->Sv,length_nil->Sw,cons_append->Sy,map_append->SI,eq_nil_or_concat->SM,filter_cons_of_pos->SU,mem_of_mem_take->S4,pairwise_iff_getElem->Ta,take_add_one->Td,filter_append->Tj,filter_cons_of_neg->Tk,takeWhile_append_dropWhile->Ts,find?_eq_none->Tt,range'_succ->Tx,pairwise_map->TB,pairwise_lt_range->TH,drop_zero->TL,map_map->TT,length_pos_iff->T0,filter_eq_self->T1,foldl_append->UA,drop_left->UB,drop_drop->UD,any_eq_false->UG,set_append_right->UL,take_length->UQ
open Nat renaming le_refl->Re,pow_le_pow_right->RN,zero_add->RR,zero_le->R0,add_zero->Sa,sub_self->Tp,eq_zero_or_pos->Tu,testBit_lt_two_pow->TJ,sub_zero->TW
open Option renaming bind_some->QY,bind_assoc->Sk,bind_fun_some->SG,bind_eq_some_iff->SZ,getD_some->Tw
open Sum renaming elim->Ri,elim_inr->RB,elim_inl->RH,inr->S1,inl->Tm
namespace Go.Proofs.YtbdbpakffniboaaGreatDoor.Sh
open Go.RowKit Go.Lib
def gk(L:List Claim)(R:List Int):Bool:= !nk (sM L R)
theorem sQ{L:List Claim}(hc:bf L=true):BW L.length (gk L):=fun R Q hR hQ hs h=>by
 have h12:=(aG.1 hc).1;have hq:=hQ.len;have hr:=hR.len;unfold gk at h⊢;rw[RZ]at h⊢;rw[Rv];intro hk;rw[vM (M:=sM L R) (qo (by omega) hc).1 (qo (by omega) hc).1 (fun x hx=>by
  obtain⟨i,hi,hx⟩:=B7.1 hx;exact B7.2 ⟨i,hs _ hi,hx⟩) (qo (by omega) hc).2 hk]at h
 cases h
theorem xC{L:List Claim}(hc:bf L=true){R:List Int}(hR:hZ L.length R):lB L R=some (sM L R)/\bV (sM L R)=some (!gk L R):=by
 have h12:=(aG.1 hc).1;have hl:=hR.len;obtain⟨h1,h2⟩:=qo (L:=L) (I:=R) (by omega) hc;refine⟨tg (by omega) hR.2,?_⟩;rw[fS h1 h2];unfold gk;rw[UE]
theorem kx{L:List Claim}(hc:bf L=true){R:List Int}(hR:hZ L.length R):eQ L R=some (sM L R)/\bL (sM L R)=some (!gk L R):=by
 have h12:=(aG.1 hc).1;have hl:=hR.len;obtain⟨h1,h2⟩:=qo (L:=L) (I:=R) (by omega) hc;refine⟨o9 (by omega) hR.2,?_⟩;rw[kK h1 h2];unfold gk;rw[UE]
theorem DP{rep:List Int->Bool}{n b:Nat}(hb:b<2^n)(hn:n<=60){g:List Bool}(hg:Gf rep n b g):bH (eh n b) g (b:Int)=some (vB rep (eh n b)):=by
 have hl:=uj n b;unfold bH cZ oY vB;rw[fV (by omega) (fun i=>rep ((eh n b).filter fun x=> !(i==x))) (fun k x hx=>by
  obtain⟨h1,h2⟩:=JR hb hn hg (Q3 hx);rw[aF,hx,QY,h1,QY,h2];rfl),QY,kO]
theorem DM{L:List Claim}(hc:bf L=true):lZ L=some (nF (outs (gk L) L.length (2^L.length))):=by
 have h12:=(aG.1 hc).1;have hpow:2^L.length<=2^12:=RN (by omega) h12;have hpos:1<=2^L.length:=Nat.one_le_two_pow;have h0:sh' (L.length:Int)=some ():=by unfold sh';rw[if_pos (by omega)]
 unfold lZ;rw[h0,QY,BQ L.length (by omega),BK _ (by omega),QY,QY,eU,fH _ (by omega)];have hlo:=xV (gk L) L.length (2^L.length);obtain⟨g',h⟩:=yO (A:=List (List Int)) (D:=fun s=>s.1) (rep:=gk L) (n:=L.length) (B:=fun(i6:Int) (s6:(List (List Int))×(List Bool))=>((gE i6).bind fun x10=>((bH x10 s6.2 i6).bind fun x11=>(((bif x11 then((at' s6.2 i6).bind fun _=>some (true,(Sd s6.2 (Rl i6) true)))else((lB L x10).bind fun x13=>((bV x13).bind fun x14=>((at' s6.2 i6).bind fun _=>some (false,(Sd s6.2 (Rl i6) (!x14)))))))).bind fun(j16:Bool×(List Bool))=>((((at' j16.2 i6).bind fun x18=>(bif x18 then some (!j16.1)else some false))).bind fun(j19:Bool)=>(bif j19 then((bZ s6.1 ([x10]:List (List Int))).bind fun x21=>some (x21,j16.2))else some (s6.1,j16.2))))))) (fun b o g hb ho hg=>by
  have hl:=uj L.length b;have hgl:=hg.1;have hinc:=qX L.length b;have hat:at' g (b:Int)=some (g[b]'(by omega)):=by rw[aF,Q0]
  have hset: ∀v:Bool,at' (g.set b v) (b:Int)=some v:=fun v=>by rw[aF,List.getElem?_set,if_pos rfl,if_pos (by omega)]
  rw[oZ (n:=L.length) (by omega) hb,QY,DP hb (by omega) hg,QY,Hk hinc.nodup,(xC hc hinc).1];simp only[QY,(xC hc hinc).2,UE];cases hls:vB (gk L) (eh L.length b)
  ·simp only[cond_false,QY,hat,Rk,hset,RU];cases gk L (eh L.length b)
   ·simp
   ·simp only[cond_true,Uo];rw[cd (by simp;omega)];rfl
  ·rw[G9 (sQ hc) hinc hls];simp only[cond_true,QY,hat,Rk,hset,Rs,Bool.and_false,cond_false,R4])
  (2^L.length) 0 (List.replicate (2^L.length) false) (by omega) ⟨by simp,fun c hc=>by omega⟩
 have e0:outs (gk L) L.length 0=[]:=rfl;rw[e0]at h;rw[h,QY];unfold aL;rw[if_pos (by show(outs (gk L) L.length (2^L.length)).length<=1000000000;omega)];rfl
theorem FY{L:List Claim}(hc:bf L=true){R:List Int}(hR:hZ L.length R):ou L R=some (jD (gk L) R):=by
 have h12:=(aG.1 hc).1;have hl:=hR.len;unfold ou jD;rw[(kx hc hR).1,QY,(kx hc hR).2,QY];cases gk L R
 ·rfl
 ·rw[Rs,cond_false,fU (by omega) (fun i _=>gk L (R.eraseIdx i)) (fun _ _=>false) (fun i x hx=>by
   have hi:=(Q1.1 hx).1;rw[DA (by omega) hi,QY,(kx hc (hR.erase i)).1,QY,(kx hc (hR.erase i)).2,QY,UE])]
  refine(Ez (A:=Bool) (fun i=>gk L (R.eraseIdx i)) false true R).trans ?_;cases (Rx R.length).all fun i=> !gk L (R.eraseIdx i)<;>rfl
theorem GL{S A:Type}{B:Int->S->Option S}{D:S->A}{s a b:S}(h0:B 0 s=some a)(h1:B 1 a=some b):cN 2 B D 0 s=some (D b):=by
 have:=fH (A:=A) 2 (by omega) (fun i s=>(B i s).map Tm) D s;rw[eU];refine this.trans ?_;have h1':B ((0+1:Nat):Int) a=some b:=h1;have h0':B ((0:Nat):Int) s=some a:=h0;simp[dd,h0,h1]
theorem FX{L:List Claim}(hc:bf L=true): ∀(k f fuel:Nat) (R:List Int),L.length - f<k->k<=fuel->hZ L.length R->fN R f->fF fuel L R=some (kN (gk L) L.length k f R):=by
 have h12:=(aG.1 hc).1;intro k
 induction k with
 | zero=>intro f fuel R h;omega
 | succ k ih=>
  intro f fuel R hk hfu hR hf;obtain⟨fuel,rfl⟩: ∃q,fuel=q+1:=⟨fuel - 1,by omega⟩;have hl:=hR.len;unfold fF kN;rw[(kx hc hR).1,QY,(kx hc hR).2,QY];cases hrep:gk L R
  ·rw[RU,Rs,cond_false,cond_false,JU hR (by omega) hf,QY];rw[eU,uz f (by omega)];have e:((L.length:Int)-(f:Int)).toNat=L.length - f:=by omega
   rw[e];have key: ∀(m g:Nat) (s:List (List Int)),g+m=L.length->f<=g->s.length+2^m<=100000->dd (fun i (s8:List (List Int))=>(((gK R).bind fun x12=>((bZ x12 ([(i:Int)]:List Int)).bind fun x13=>((fF fuel L x13).bind fun x14=>((bZ s8 x14).bind fun x15=>some x15))))).map (Tm (β:=List (List Int)))) (fun s=>s) m g s=some (s++(Su g m).flatMap fun i=>kN (gk L) L.length k (i+1) (R++[(i:Int)])):=by
    intro m
    induction m with
    | zero=>intro g s _ _ _;simp[dd]
    | succ m ihm=>
     intro g s hg hfg hs;have hs2:hZ L.length (R++[(g:Int)]):=hR.snoc (by omega) (by omega) fun x hx=>by have:=hf.1 x hx;omega
     have hal:=B2 (n:=L.length) (rep:=gk L) k (g+1) (R++[(g:Int)]) (by omega);have e2:L.length -(g+1)=m:=by omega
     rw[e2]at hal;have hp:2^(m+1)=2^m+2^m:=by rw[Nat.pow_succ];omega
     have hstep:((gK R).bind fun x12=>((bZ x12 ([(g:Int)]:List Int)).bind fun x13=>((fF fuel L x13).bind fun x14=>((bZ s x14).bind fun x15=>some x15))))=some (s++kN (gk L) L.length k (g+1) (R++[(g:Int)])):=by
      rw[JY (by omega),QY,cd (by simp;omega),QY,ih (g+1) fuel _ (by omega) (by omega) hs2 (hf.snoc hfg),QY,cd (by omega),QY]
     unfold dd;simp only[hstep,Option.map_some];show dd _ _ m (g+1) (s++kN (gk L) L.length k (g+1) (R++[(g:Int)]))=_;rw[ihm (g+1) _ (by omega) (by omega) (by rw[Rb];omega),Tx,Sj,Ry]
   by_cases hfl:f<=L.length
   ·have hpow:2^(L.length - f)<=2^12:=RN (by omega) (by omega);rw[key (L.length - f) f [] (by omega) (Re _) (by simp;omega)];rfl
   ·have e3:L.length - f=0:=by omega
    rw[e3];rfl
  ·rw[Rs,RU,cond_true,cond_true,FY hc hR,QY];cases jD (gk L) R<;>rfl
theorem K8{L:List Claim}(hc:bf L=true):ud L []=some (kN (gk L) L.length (L.length+1) 0 []):=by
 have h12:=(aG.1 hc).1;exact FX hc (L.length+1) 0 1000 [] (by omega) (by omega) (hZ.nil _) fN.nil
theorem Mq{L:List Claim}(hc:bf L=true){Q:List Int}:Q∈kN (gk L) L.length (L.length+1) 0 []↔hZ L.length Q/\jD (gk L) Q=true:=by
 rw[CQ (sQ hc) _ _ _ (by omega) (hZ.nil _) fN.nil];exact⟨fun⟨h1,_,h3⟩=>⟨h1,h3⟩,fun⟨h1,h3⟩=>⟨h1,List.nil_prefix,h3⟩⟩
theorem Na{n b c:Nat}(hb:b<2^n)(hc:c<2^n)(h:eh n b=eh n c):b=c:=by
 apply Nat.eq_of_testBit_eq;intro i;by_cases hi:i<n
 ·have h1:(i:Int)∈eh n b↔(i:Int)∈eh n c:=by rw[h]
  rw[xR,xR]at h1;rw[S7];constructor
  ·intro ht;obtain⟨j,h2,_,h3⟩:=h1.1 ⟨i,rfl,hi,ht⟩;rw[show i=j by omega];exact h3
  ·intro ht;obtain⟨j,h2,_,h3⟩:=h1.2 ⟨i,rfl,hi,ht⟩;rw[show i=j by omega];exact h3
 ·have hp:2^n<=2^i:=RN (by omega) (by omega);rw[TJ (by omega),TJ (by omega)]
theorem I2(rep:List Int->Bool)(n:Nat):(outs rep n (2^n)).Nodup:=by
 unfold outs;show List.Pairwise _ _;rw[TB];refine((TH (n:=2^n)).filter _).imp_of_mem fun{a b} ha hb h e=> ?_;have h1:=RD.1 (Q8.1 ha).1;have h2:=RD.1 (Q8.1 hb).1;have:=Na h1 h2 e;omega
theorem K7{rep:List Int->Bool}{n:Nat}(hr:BW n rep):nF (outs rep n (2^n))=kN rep n (n+1) 0 []:=by
 refine Cc ?_ (Ai _ _ _) fun Q=> ?_
 ·have h1:=FR (outs rep n (2^n));have h2:(nF (outs rep n (2^n))).Nodup:=(mR _).nodup_iff.2 (I2 rep n);refine(h1.and h2).imp fun{a b} h=> ?_;rcases Cb h.2 with h3 | h3
  ·exact h3
  ·exact absurd h3 h.1
 ·rw[(mR _).mem_iff,xP,CQ hr _ _ _ (by omega) (hZ.nil _) fN.nil];exact⟨fun⟨h1,h3⟩=>⟨h1,List.nil_prefix,h3⟩,fun⟨h1,_,h3⟩=>⟨h1,h3⟩⟩
section
variable {α : Type}
def kH(lt:α->α->Bool)(A:List α)(x:α):List α:=A.takeWhile (fun y=>lt y x)++x::A.dropWhile (fun y=>lt y x)
def lG(lt:α->α->Bool)(L:List α):List α:=L.foldl (kH lt) []
theorem qR{lt:α->α->Bool}{A:List α}{x z:α}:z∈kH lt A x↔z=x\/z∈A:=by
 unfold kH;have:=Ts (p:=fun y=>lt y x) (l:=A)
 conv=>rhs;rw[<-this]
 simp only[Rq,Ra];constructor
 ·rintro(h | h | h)
  ·exact .inr (.inl h)
  ·exact .inl h
  ·exact .inr (.inr h)
 ·rintro(h | h | h)
  ·exact .inr (.inl h)
  ·exact .inl h
  ·exact .inr (.inr h)
theorem zL{lt:α->α->Bool}{A:List α}{x:α}:(kH lt A x).length=A.length+1:=by
 unfold kH;have:=congrArg List.length (Ts (p:=fun y=>lt y x) (l:=A));rw[Rb]at this;rw[Rb,Rc];omega
theorem rV{lt:α->α->Bool}{z:α}: ∀{L A:List α},z∈L.foldl (kH lt) A↔z∈A\/z∈L
 | [],A=>by simp
 | x::L,A=>by
  rw[Ss,rV,qR,Ra];constructor
  ·rintro((h | h) | h)
   ·exact .inr (.inl h)
   ·exact .inl h
   ·exact .inr (.inr h)
  ·rintro(h | h | h)
   ·exact .inl (.inr h)
   ·exact .inl (.inl h)
   ·exact .inr h
theorem ET{lt:α->α->Bool}{z:α}{L:List α}:z∈lG lt L↔z∈L:=by
 unfold lG;rw[rV];simp
theorem rU{lt:α->α->Bool}: ∀{L A:List α},(L.foldl (kH lt) A).length=A.length+L.length
 | [],A=>by simp
 | x::L,A=>by
  rw[Ss,rU,zL,Rc];omega
theorem K6{lt:α->α->Bool}{L:List α}:(lG lt L).length=L.length:=by
 unfold lG;rw[rU];simp
theorem vz{lt:α->α->Bool}(tr: ∀a b c,lt a b=true->lt b c=true->lt a c=true){x:α}: ∀{A:List α},A.Pairwise (fun a b=>lt a b=true)->(∀y∈A,lt y x=true\/lt x y=true)-> ∀y∈A.dropWhile (fun y=>lt y x),lt x y=true
 | [],_,_,y,hy=>by cases hy
 | a::A,hp,ht,y,hy=>by
  rw[List.dropWhile_cons]at hy;have hp2:=Sn.1 hp;split at hy
  ·exact vz tr hp2.2 (fun z hz=>ht z (RC _ hz)) y hy
  ·rename_i hn;have hx:lt x a=true:=(ht a Rr).resolve_left (by simpa using hn);rcases Ra.1 hy with rfl | hy
   ·exact hx
   ·exact tr _ _ _ hx (hp2.1 y hy)
theorem rA{lt:α->α->Bool}(tr: ∀a b c,lt a b=true->lt b c=true->lt a c=true){x:α}{A:List α}(hp:A.Pairwise (fun a b=>lt a b=true))(ht: ∀y∈A,lt y x=true\/lt x y=true):(kH lt A x).Pairwise (fun a b=>lt a b=true):=by
 have hd:=vz tr hp ht;have hs:=Ts (p:=fun y=>lt y x) (l:=A);have htw: ∀y∈A.takeWhile (fun y=>lt y x),lt y x=true:=fun y hy=>by
  have:=List.all_takeWhile (p:=fun y=>lt y x) (l:=A);exact List.all_eq_true.1 this y hy
 unfold kH;rw[<-hs]at hp;obtain⟨h1,h2,h3⟩:=R5.1 hp;refine R5.2 ⟨h1,Sn.2 ⟨hd,h2⟩,fun a ha b hb=> ?_⟩;rcases Ra.1 hb with rfl | hb
 ·exact htw a ha
 ·exact tr _ _ _ (htw a ha) (hd b hb)
def Ag(lt:α->α->Bool)(L:List α):Prop:=L.Pairwise (fun a b=>lt a b=true\/lt b a=true)
theorem xu{lt:α->α->Bool}(tr: ∀a b c,lt a b=true->lt b c=true->lt a c=true): ∀{L A:List α},A.Pairwise (fun a b=>lt a b=true)->(∀y∈A,∀x∈L,lt y x=true\/lt x y=true)->Ag lt L->(L.foldl (kH lt) A).Pairwise (fun a b=>lt a b=true)
 | [],A,h,_,_=>h
 | x::L,A,h,h2,h3=>by
  have h4:=Sn.1 h3;rw[Ss];refine xu tr (rA tr h fun y hy=>h2 y hy x Rr) (fun y hy z hz=> ?_) h4.2;rcases qR.1 hy with rfl | hy
  ·exact h4.1 z hz
  ·exact h2 y hy z (RC _ hz)
theorem yf{lt:α->α->Bool}(tr: ∀a b c,lt a b=true->lt b c=true->lt a c=true){L:List α}(h:Ag lt L):(lG lt L).Pairwise (fun a b=>lt a b=true):=xu tr List.Pairwise.nil (by simp) h
theorem JB{T:α->α->Option Bool}{lt:α->α->Bool}{P:α->Prop}(hC: ∀x y,P x->P y->T x y=some (lt x y)){x:α}(hx:P x): ∀(m:Nat) (A B:List α),A.length=m->m<=100000000->(∀y∈A,P y)->
  ∃F G,A=F++G/\(∀y∈G,lt x y=true)/\(∀y,F.getLast?=some y->lt x y=false)/\
  loop (fun(s5:Int×(List α))=>(((bif(decide (s5.1>0))then((at' s5.2 s5.1).bind fun x7=>((at' s5.2 (ao (s5.1 - 1))).bind fun x8=>(T x7 x8)))else some false)).bind fun(j10:Bool)=>(bif j10 then((((at' s5.2 (ao (s5.1 - 1))).bind fun x14=>((at' s5.2 s5.1).bind fun x15=>((at' s5.2 s5.1).bind fun _=>((at' (Sd s5.2 (Rl s5.1) x14) (ao (s5.1 - 1))).bind fun _=>some (Sd (Sd s5.2 (Rl s5.1) x14) (Rl (ao (s5.1 - 1))) x15)))))).bind fun(j12:(List α))=>some (.inl ((ao (s5.1 - 1)),j12)))else some (.inr s5.2)))) ((A.length:Int),A++x::B)=some (F++x::(G++B))
 | 0,A,B,hm,_,_=>by
  have:A=[]:=Sp.1 hm;subst this;refine⟨[],[],rfl,by simp,by simp,?_⟩;rw[bR];rfl
 | m+1,A,B,hm,hm2,hA=>by
  obtain⟨D,y,rfl⟩: ∃D y,A=D++[y]:=by
   rcases SM A with rfl | ⟨D,y,h⟩
   ·simp at hm
   ·exact⟨D,y,by simpa using h⟩
  have hB:D.length=m:=by simp at hm;omega
  have hy:P y:=hA y (by simp);have e1:((D++[y]).length:Int)=(D.length:Int)+1:=by simp
  have e2:ao ((D.length:Int)+1 - 1)=(D.length:Int):=by rw[aO (by omega) (by omega)];omega
  have e0:D++[y]++x::B=D++y::x::B:=by simp
  have g1:at' (D++y::x::B) ((D.length:Int)+1)=some x:=by
   rw[show(D.length:Int)+1=((D.length+1:Nat):Int) by omega,aF,Q6 (by omega)];simp
  have g2:at' (D++y::x::B) (D.length:Int)=some y:=by
   rw[aF,Q6 (by omega)];simp
  have t1:Rl ((D.length:Int)+1)=D.length+1:=by omega
  have s1:(D++y::x::B).set (D.length+1) y=D++y::y::B:=by
   rw[UL _ _ (by omega)];simp
  have s2:(D++y::y::B).set D.length x=D++x::y::B:=by
   rw[UL _ _ (by omega)];simp
  have g3:at' (D++y::y::B) (D.length:Int)=some y:=by
   rw[aF,Q6 (by omega)];simp
  rw[e1,e0];cases hlt:lt x y with
  | true=>
   obtain⟨F,G,h1,h2,h3,h4⟩:=JB hC hx m D (y::B) hB (by omega) (fun z hz=>hA z (by simp[hz]));refine⟨F,G++[y],by rw[h1];simp,fun z hz=> ?_,h3,?_⟩
   ·rcases Rq.1 hz with hz | hz
    ·exact h2 z hz
    ·rw[Rj.1 hz];exact hlt
   ·rw[bR];have hg:decide ((D.length:Int)+1>0)=true:=decide_eq_true (by omega);simp only[hg,cond_true,g1,e2,g2,QY,hC x y hx hy,hlt,t1,s1,g3,Rk,s2];rw[h4];simp
  | false=>
   refine⟨D++[y],[],by simp,by simp,fun z hz=> ?_,?_⟩
   ·simp at hz;subst hz;exact hlt
   ·rw[bR];have hg:decide ((D.length:Int)+1>0)=true:=decide_eq_true (by omega);simp only[hg,cond_true,g1,e2,g2,QY,hC x y hx hy,hlt,cond_false];simp
theorem MO{lt:α->α->Bool}(tr: ∀a b c,lt a b=true->lt b c=true->lt a c=true)(asy: ∀a b,lt a b=true->lt b a=false){A F G:List α}{x:α}(hA:A.Pairwise (fun a b=>lt a b=true))(ht: ∀y∈A,lt y x=true\/lt x y=true)(h:A=F++G)(hG: ∀y∈G,lt x y=true)(hF: ∀y,F.getLast?=some y->lt x y=false):F++x::G=kH lt A x:=by
 subst h;have hFx: ∀y∈F,lt y x=true:=by
  intro y hy;rcases SM F with rfl | ⟨D,z,hz⟩
  ·cases hy
  ·rw[List.concat_eq_append]at hz;subst hz;have hzx:lt z x=true:=(ht z (by simp)).resolve_right (by rw[hF z (by simp)];simp);rcases Rq.1 hy with hy | hy
   ·have h1:=(R5.1 hA).1;exact tr _ _ _ ((R5.1 h1).2.2 y hy z (by simp)) hzx
   ·rw[Rj.1 hy];exact hzx
 have key: ∀F:List α,(∀y∈F,lt y x=true)->(F++G).takeWhile (fun y=>lt y x)=F/\(F++G).dropWhile (fun y=>lt y x)=G:=by
  intro F
  induction F with
  | nil=>
   intro _;cases G with
   | nil=>exact⟨rfl,rfl⟩
   | cons g G=>
    have:=asy _ _ (hG g (by simp));simp[this]
  | cons f F ih=>
   intro hf;have h1:=hf f (by simp);obtain⟨h2,h3⟩:=ih fun y hy=>hf y (by simp[hy]);simp[h1,h2,h3]
 obtain⟨h1,h2⟩:=key F hFx;unfold kH;rw[h1,h2]
theorem Mk{T:α->α->Option Bool}{lt:α->α->Bool}{P:α->Prop}(hC: ∀x y,P x->P y->T x y=some (lt x y))(tr: ∀a b c,lt a b=true->lt b c=true->lt a c=true)(asy: ∀a b,lt a b=true->lt b a=false){L:List α}(hL:L.length<=100000000)(hP: ∀x∈L,P x)(hap:Ag lt L):
  cN (L.length:Int) (fun(i1:Int) (s1:(List α))=>(loop (fun(s5:Int×(List α))=>(((bif(decide (s5.1>0))then((at' s5.2 s5.1).bind fun x7=>((at' s5.2 (ao (s5.1 - 1))).bind fun x8=>(T x7 x8)))else some false)).bind fun(j10:Bool)=>(bif j10 then((((at' s5.2 (ao (s5.1 - 1))).bind fun x14=>((at' s5.2 s5.1).bind fun x15=>((at' s5.2 s5.1).bind fun _=>((at' (Sd s5.2 (Rl s5.1) x14) (ao (s5.1 - 1))).bind fun _=>some (Sd (Sd s5.2 (Rl s5.1) x14) (Rl (ao (s5.1 - 1))) x15)))))).bind fun(j12:(List α))=>some (.inl ((ao (s5.1 - 1)),j12)))else some (.inr s5.2)))) (i1,s1))) (fun(s1:(List α))=>s1) (ao (0+1)) L=some (lG lt L):=by
 have e1:ao (0+1)=1:=by rw[aO (by omega) (by omega)];rfl
 rw[e1];have hstep: ∀k,k<L.length-> ∀x,L[k]? =some x->lG lt (L.take (k+1))=kH lt (lG lt (L.take k)) x:=by
  intro k hk x hx;unfold lG;rw[Td,hx,UA];rfl
 have key: ∀(m k:Nat),k+m=L.length->1<=k->cN (L.length:Int) (fun(i1:Int) (s1:(List α))=>(loop (fun(s5:Int×(List α))=>(((bif(decide (s5.1>0))then((at' s5.2 s5.1).bind fun x7=>((at' s5.2 (ao (s5.1 - 1))).bind fun x8=>(T x7 x8)))else some false)).bind fun(j10:Bool)=>(bif j10 then((((at' s5.2 (ao (s5.1 - 1))).bind fun x14=>((at' s5.2 s5.1).bind fun x15=>((at' s5.2 s5.1).bind fun _=>((at' (Sd s5.2 (Rl s5.1) x14) (ao (s5.1 - 1))).bind fun _=>some (Sd (Sd s5.2 (Rl s5.1) x14) (Rl (ao (s5.1 - 1))) x15)))))).bind fun(j12:(List α))=>some (.inl ((ao (s5.1 - 1)),j12)))else some (.inr s5.2)))) (i1,s1))) (fun(s1:(List α))=>s1) (k:Int) (lG lt (L.take k)++L.drop k)=some (lG lt L):=by
  intro m
  induction m with
  | zero=>
   intro k hkm _;obtain rfl:k=L.length:=by omega
   unfold cN;rw[bR];simp only[decide_eq_false (show ¬((L.length:Int)<L.length) by omega),cond_false,UQ,List.drop_length,R4]
  | succ m ih=>
   intro k hkm h1;have hkl:k<L.length:=by omega
   have hx:L[k]? =some (L[k]'hkl):=Q0 _;rw[RP hkl];generalize L[k]'hkl=x at hx⊢;have hap1:Ag lt (L.take k):=List.Pairwise.sublist (List.take_sublist _ _) hap;have hxm:=Q3 hx;have hlen:(lG lt (L.take k)).length=k:=by rw[K6,Rt];omega
   have hmem: ∀y∈lG lt (L.take k),y∈L.take k:=fun y hy=>ET.1 hy;have htot: ∀y∈lG lt (L.take k),lt y x=true\/lt x y=true:=by
    intro y hy;obtain⟨i,hi⟩:=List.mem_iff_getElem?.1 (hmem y hy);have hik:i<k:=by
     have:=(Q1.1 hi).1;rw[Rt]at this;omega
    rw[List.getElem?_take_of_lt hik]at hi;have:=Ta.1 hap i k (by omega) hkl hik;rw[Q0 (by omega)]at hi hx;injection hi with hi;injection hx with hx;rw[hi,hx]at this;exact this
   obtain⟨F,G,q1,q2,q3,q4⟩:=JB hC (hP x hxm) k (lG lt (L.take k)) (L.drop (k+1)) hlen (by omega) (fun y hy=>hP y (S4 (hmem y hy)));rw[hlen]at q4;unfold cN;rw[bR];simp only[decide_eq_true (show((k:Int)<L.length) by omega),cond_true,q4,QY,aO (show -9223372036854775808<=(k:Int)+1 by omega) (by omega)];have hp:=MO tr asy (yf tr hap1) htot q1 q2 q3;have hs:=hstep k hkl x hx;rw[show F++x::(G++L.drop (k+1))=(F++x::G)++L.drop (k+1) by simp,hp,<-hs];have:=ih (k+1) (by omega) (by omega);unfold cN at this;simpa using this
 by_cases h0:L.length=0
 ·have:L=[]:=Sp.1 h0;subst this;unfold cN;rw[bR];rfl
 ·have:=key (L.length - 1) 1 (by omega) (Re _);rw[show((1:Nat):Int)=1 from rfl]at this;have e:lG lt (L.take 1)++L.drop 1=L:=by
   cases L with
   | nil=>simp at h0
   | cons x l=>simp[lG,kH]
  rwa [e]at this
theorem Oi{C:α->α->Option Int}{lt:α->α->Bool}{P:α->Prop}(hC: ∀x y,P x->P y->((C x y).bind fun x9=>some (decide (x9<0)))=some (lt x y))(tr: ∀a b c,lt a b=true->lt b c=true->lt a c=true)(asy: ∀a b,lt a b=true->lt b a=false){L:List α}(hL:L.length<=100000000)(hP: ∀x∈L,P x)(hap:Ag lt L):
  cN (L.length:Int) (fun(i1:Int) (s1:(List α))=>(loop (fun(s5:Int×(List α))=>(((bif(decide (s5.1>0))then((at' s5.2 s5.1).bind fun x7=>((at' s5.2 (ao (s5.1 - 1))).bind fun x8=>((C x7 x8).bind fun x9=>some (decide (x9<0)))))else some false)).bind fun(j10:Bool)=>(bif j10 then((((at' s5.2 (ao (s5.1 - 1))).bind fun x14=>((at' s5.2 s5.1).bind fun x15=>((at' s5.2 s5.1).bind fun _=>((at' (Sd s5.2 (Rl s5.1) x14) (ao (s5.1 - 1))).bind fun _=>some (Sd (Sd s5.2 (Rl s5.1) x14) (Rl (ao (s5.1 - 1))) x15)))))).bind fun(j12:(List α))=>some (.inl ((ao (s5.1 - 1)),j12)))else some (.inr s5.2)))) (i1,s1))) (fun(s1:(List α))=>s1) (ao (0+1)) L=some (lG lt L):=
 Mk (T:=fun x y=>(C x y).bind fun x9=>some (decide (x9<0))) hC tr asy hL hP hap
theorem qh{lt:α->α->Bool}(asy: ∀a b,lt a b=true->lt b a=false): ∀{A B:List α},A.Pairwise (fun a b=>lt a b=true)->B.Pairwise (fun a b=>lt a b=true)->(∀z,z∈A↔z∈B)->A=B
 | [],[],_,_,_=>rfl
 | [],b::B,_,_,h=>by have:=(h b).2 Rr;cases this
 | a::A,[],_,_,h=>by have:=(h a).1 Rr;cases this
 | a::A,b::B,hA,hB,h=>by
  have hA2:=Sn.1 hA;have hB2:=Sn.1 hB;have irr: ∀x,lt x x=true->False:=fun x hx=>by
   have:=asy x x hx;rw[hx]at this;cases this
  have e:a=b:=by
   rcases Ra.1 ((h a).1 Rr)with h1 | h1
   ·exact h1
   ·rcases Ra.1 ((h b).2 Rr)with h2 | h2
    ·exact h2.symm
    ·have:=asy _ _ (hB2.1 a h1);rw[hA2.1 b h2]at this;cases this
  subst e;congr 1;refine qh asy hA2.2 hB2.2 fun z=> ?_;constructor
  ·intro hz;rcases Ra.1 ((h z).1 (RC _ hz))with h1 | h1
   ·subst h1;exact(irr _ (hA2.1 _ hz)).elim
   ·exact h1
  ·intro hz;rcases Ra.1 ((h z).2 (RC _ hz))with h1 | h1
   ·subst h1;exact(irr _ (hB2.1 _ hz)).elim
   ·exact h1
end
theorem LO: ∀{x y:List UInt8},Op.bytesLess x y=true↔x<y
 | [],[]=>by simp[Op.bytesLess]
 | [],b::y=>by simp[Op.bytesLess]
 | a::x,[]=>by simp[Op.bytesLess]
 | a::x,b::y=>by
  rw[w6,List.cons_lt_cons_iff,LO,UInt8.lt_iff_toNat_lt]
theorem JA{x y:List UInt8}:decide (x<=y)= !Op.bytesLess y x:=by
 rw[S7,decide_eq_true_eq,RZ,Rv,ne_eq,LO,List.not_lt]
theorem B6{x y:List UInt8}(h:Op.bytesLess x y=true):Op.bytesLess y x=false:=by
 rw[Rv];intro k;have:=sJ h k;rw[oC]at this;cases this
theorem Gm{x y z:List UInt8}(h:Op.bytesLess y x=false)(k:Op.bytesLess y z=true):Op.bytesLess x z=true:=by
 cases hxy:Op.bytesLess x y
 ·rw[w7 hxy h];exact k
 ·exact sJ hxy k
theorem DW(L:List (List UInt8)):(L.mergeSort fun x y=>decide (x<=y)).Pairwise fun a b=>Op.bytesLess b a=false:=by
 have:=List.pairwise_mergeSort (le:=fun x y:List UInt8=>decide (x<=y)) (fun a b c h1 h2=> ?_) (fun a b=> ?_) L
 ·exact this.imp fun{a b} h=>by rw[JA]at h;simpa using h
 ·rw[JA,RZ]at*;cases hca:Op.bytesLess c a with
  | false=>rfl
  | true=>
   have:=Gm h2 hca;rw[h1]at this;cases this
 ·rw[JA,JA];cases hab:Op.bytesLess a b
  ·simp
  ·rw[B6 hab];simp
theorem Cd{D:List (List UInt8)}(h:D.Pairwise fun a b=>Op.bytesLess b a=false):(Lib.compact D).Pairwise (fun a b=>Op.bytesLess a b=true):=by
 have hat: ∀j,j<D.length->D.toArray[j]! =D.getD j []:=fun j hj=>by
  rw[getElem!_pos D.toArray j (by simpa using hj)];simp[Ro,Q0 hj]
 have hle: ∀i j,i<j->j<D.length->Op.bytesLess (D.getD j []) (D.getD i [])=false:=fun i j hij hj=>by
  rw[Ta]at h;have:=h i j (by omega) hj hij;simpa [Ro,Q0 hj,Q0 (show i<D.length by omega)]using this
 unfold Lib.compact Lib.compactUpTo;rw[TB,List.pairwise_filter];refine(TH (n:=D.length)).imp_of_mem fun{i j} hi hj hij _ hk=> ?_;have hj:=RD.1 hj;unfold Lib.keeps at hk;rw[decide_eq_true_eq]at hk;have hk:=hk.resolve_left (by omega);rw[hat j hj,hat (j - 1) (by omega)]at hk;rw[hat i (by omega),hat j hj];have h1:=hle (j - 1) j (by omega) hj;have h2:Op.bytesLess (D.getD (j - 1) []) (D.getD j [])=true:=by
  cases hb:Op.bytesLess (D.getD (j - 1) []) (D.getD j [])with
  | true=>rfl
  | false=>exact absurd (w7 h1 hb) hk
 by_cases hi1:i=j - 1
 ·rw[hi1];exact h2
 ·exact Gm (hle i (j - 1) (by omega) (by omega)) h2
theorem Ap{D:List (List UInt8)}{x:List UInt8}:x∈Lib.compact D↔x∈D:=by
 unfold Lib.compact Lib.compactUpTo;rw[Rh];constructor
 ·rintro⟨j,hj,rfl⟩;rw[Q8,RD]at hj;rw[getElem!_pos D.toArray j (by simpa using hj.1)];simp
 ·intro hx;obtain⟨j,hj,rfl⟩:=List.mem_iff_getElem.1 hx;have key: ∀k (hk:k<D.length),∃i,i<D.length/\Lib.keeps D.toArray i=true/\D.toArray[i]! =D[k]:=by
   intro k
   induction k with
   | zero=>
    intro hk;refine⟨0,hk,Lib.keeps_lt_one _ 0 (by omega),?_⟩;rw[getElem!_pos D.toArray 0 (by simpa using hk)];simp
   | succ k ih=>
    intro hk;have e1:D.toArray[k+1]! =D[k+1]:=by
     rw[getElem!_pos D.toArray (k+1) (by simpa using hk)];simp
    have e2:D.toArray[k]! =D[k]:=by
     rw[getElem!_pos D.toArray k (by simp;omega)];simp
    by_cases he:D[k+1]=D[k]
    ·obtain⟨i,h1,h2,h3⟩:=ih (by omega);exact⟨i,h1,h2,by rw[h3,he]⟩
    ·refine⟨k+1,hk,Lib.keeps_pos ?_,e1⟩;rw[e1,show k+1 - 1=k by omega,e2];exact he
  obtain⟨i,h1,h2,h3⟩:=key j hj;exact⟨i,by rw[Q8,RD];exact⟨h1,h2⟩,h3⟩
theorem Hh(x y:ByteArray):kU x y=Op.bytesLess x.data.toList y.data.toList:=by
 unfold kU;rw[Lib.toList_data,Lib.toList_data]
theorem tM(L:List ByteArray):(gJ L).Pairwise fun a b=>kU a b=true:=by
 unfold gJ Ao o7;rw[TB,TT];have e:((fun s:ByteArray=>s.data.toList)∘fun l:List UInt8=>(⟨l.toArray⟩:ByteArray))=id:=by funext l;rfl
 rw[e,List.map_id];refine(Cd (DW (L.map fun s=>s.data.toList))).imp fun{a b} h=> ?_;rw[Hh];simpa using h
theorem tL{L:List ByteArray}{s:ByteArray}:s∈gJ L↔s∈L:=by
 unfold gJ Ao;rw[Rh];constructor
 ·rintro⟨l,hl,rfl⟩;rw[Ap]at hl;obtain⟨t,ht,rfl⟩:=Rh.1 hl;exact zR.1 ht
 ·intro h;refine⟨s.data.toList,Ap.2 (Rh.2 ⟨s,zR.2 h,rfl⟩),rfl⟩
theorem o0(x:ByteArray):kU x x=false:=oC _
theorem EL{x y z:ByteArray}(h:kU x y=true)(k:kU y z=true):kU x z=true:=sJ h k
theorem uJ{x y:ByteArray}(h:kU x y=true):kU y x=false:=B6 h
theorem uK{x y:ByteArray}(h:x≠y):kU x y=true\/kU y x=true:=by
 cases h1:kU x y with
 | true=>exact .inl rfl
 | false=>
  cases h2:kU y x with
  | true=>exact .inr rfl
  | false=>
   rw[Hh]at h1 h2;have:=w7 h1 h2;exfalso;apply h;obtain⟨x⟩:=x;obtain⟨y⟩:=y;exact congrArg QZ (TK.1 this)
theorem Jp{A B:List ByteArray}(hA:A.Pairwise fun a b=>kU a b=true)(hB:B.Pairwise fun a b=>kU a b=true)(h: ∀z,z∈A↔z∈B):A=B:=qh (fun _ _=>uJ) hA hB h
open Classical in
def zz(A:List ByteArray)(x:ByteArray):List ByteArray:=if x∈A then A else kH kU A x
theorem Mj{A:List ByteArray}{x z:ByteArray}:z∈zz A x↔z=x\/z∈A:=by
 unfold zz;by_cases h:x∈A
 ·rw[if_pos h];exact⟨.inr,fun h2=>h2.elim (fun e=>e▸h) id⟩
 ·rw[if_neg h,qR]
theorem Mi(A:List ByteArray)(x:ByteArray):(zz A x).length<=A.length+1:=by
 unfold zz;split
 ·omega
 ·rw[zL];omega
theorem Ax{A:List ByteArray}{x:ByteArray}(h:A.Pairwise fun a b=>kU a b=true):(zz A x).Pairwise fun a b=>kU a b=true:=by
 unfold zz;split
 ·exact h
 ·rename_i hx;exact rA (lt:=kU) (fun _ _ _=>EL) h fun y hy=>uK fun e=>hx (by rw[<-e];exact hy)
theorem Pc{x:ByteArray}: ∀{A:List ByteArray},A.Pairwise (fun a b=>kU a b=true)->x∈A->A[(A.takeWhile fun y=>kU y x).length]? =some x
 | [],_,h=>by cases h
 | a::A,hp,h=>by
  have hp2:=Sn.1 hp;rw[List.takeWhile_cons];rcases Ra.1 h with rfl | h
  ·rw[o0];rfl
  ·rw[hp2.1 x h];simpa using Pc hp2.2 h
theorem Ld{A:List ByteArray}{x:ByteArray}(hA:A.length<=1000000)(hs:A.Pairwise fun a b=>kU a b=true):ka A x=some (zz A x):=by
 unfold ka;have key: ∀(M D:List ByteArray),A=D++M->loop (fun(s3:Int)=>(((bif(decide (s3<(A.length:Int)))then((at' A s3).bind fun x5=>some (Op.bytesLess x5.toList x.toList))else some false)).bind fun(j6:Bool)=>(bif j6 then some (.inl (ao (s3+1)))else some (.inr s3)))) (D.length:Int)=some (((D.length+(M.takeWhile fun y=>kU y x).length:Nat)):Int):=by
  intro M
  induction M with
  | nil=>
   intro D hD;rw[bR,decide_eq_false (show ¬(D.length:Int)<(A.length:Int) by rw[hD];simp)];rfl
  | cons y M ih=>
   intro D hD;have hy:A[D.length]? =some y:=by rw[hD];simp
   have hlt:D.length<A.length:=(Q1.1 hy).1;rw[bR,decide_eq_true (show(D.length:Int)<(A.length:Int) by omega),cond_true,aF,hy,QY,QY,List.takeWhile_cons];have e:Op.bytesLess y.toList x.toList=kU y x:=rfl;rw[e];cases hb:kU y x
   ·simp
   ·simp only[cond_true];rw[aO (by omega) (by omega)];have:=ih (D++[y]) (by rw[hD];simp);rw[Rb,List.length_singleton]at this;rw[show(D.length:Int)+1=((D.length+1:Nat):Int) by omega,this];congr 2;simp;omega
 have k0:=key A [] rfl;rw[Sw,RR]at k0;rw[show(0:Int)=((0:Nat):Int)from rfl,k0,QY];have hs1:=Ts (p:=fun y=>kU y x) (l:=A);have hl:=congrArg List.length hs1;rw[Rb]at hl;unfold zz;by_cases hx:x∈A
 ·have h1:=Pc hs hx;have hlt:=(Q1.1 h1).1;rw[if_pos hx,decide_eq_true (show(((A.takeWhile fun y=>kU y x).length:Nat):Int)<(A.length:Int) by omega),cond_true,aF,h1,QY,QY];simp
 ·rw[if_neg hx];have e1:A.take (A.takeWhile fun y=>kU y x).length=A.takeWhile fun y=>kU y x:=by
   conv=>lhs;arg 2;rw[<-hs1]
   rw[List.take_left]
  have e2:A.drop (A.takeWhile fun y=>kU y x).length=A.dropWhile fun y=>kU y x:=by
   conv=>lhs;arg 2;rw[<-hs1]
   rw[UB]
  have ht:(((bif(decide (((A.takeWhile fun y=>kU y x).length:Int)<(A.length:Int)))then((at' A ((A.takeWhile fun y=>kU y x).length:Int)).bind fun x8=>some (x8.toList==x.toList))else some false)):Option Bool)=some false:=by
   by_cases hlt:(A.takeWhile fun y=>kU y x).length<A.length
   ·have hy:A[(A.takeWhile fun y=>kU y x).length]? =some (A[(A.takeWhile fun y=>kU y x).length]'hlt):=Q0 _;generalize A[(A.takeWhile fun y=>kU y x).length]'hlt=y at hy;rw[decide_eq_true (by omega),cond_true,aF,hy,QY];cases hq:y.toList==x.toList with
    | false=>rfl
    | true=>
     exfalso;apply hx;have:y=x:=by
      rw[beq_iff_eq,Lib.toList_data,Lib.toList_data]at hq;obtain⟨x⟩:=x;obtain⟨y⟩:=y;exact congrArg QZ (TK.1 hq)
     rw[<-this];exact Q3 hy
   ·rw[decide_eq_false (by omega)];rfl
  rw[ht];simp only[QY,cond_false];rw[kr (by omega) (by omega) (by omega),QY];simp only[Rk,TL,TW,e1];rw[cd (by simp;omega),QY,Sr,cd (by simp;omega),QY,kr (by omega) (by omega) (by omega),QY];simp only[Rk,e2];have e3:(A.dropWhile fun y=>kU y x).take (A.length -(A.takeWhile fun y=>kU y x).length)=A.dropWhile fun y=>kU y x:=RF (by omega);rw[e3,cd (by simp;omega),QY];unfold kH;simp
theorem Cq: ∀(L A:List ByteArray),A.Pairwise (fun a b=>kU a b=true)->(L.foldl zz A).Pairwise (fun a b=>kU a b=true)/\ ∀z,z∈L.foldl zz A↔z∈A\/z∈L
 | [],A,h=>⟨h,by simp⟩
 | x::L,A,h=>by
  rw[Ss];obtain⟨h1,h2⟩:=Cq L (zz A x) (Ax h);refine⟨h1,fun z=> ?_⟩;rw[h2,Mj,Ra];constructor
  ·rintro((h | h) | h)
   ·exact .inr (.inl h)
   ·exact .inl h
   ·exact .inr (.inr h)
  ·rintro(h | h | h)
   ·exact .inl (.inr h)
   ·exact .inl (.inl h)
   ·exact .inr h
theorem DH(L:List ByteArray):L.foldl zz []=gJ L:=by
 obtain⟨h1,h2⟩:=Cq L [] List.Pairwise.nil;refine Jp h1 (tM L) fun z=> ?_;rw[h2,tL];simp
theorem HL(L:List ByteArray):(gJ L).length<=L.length:=by
 unfold gJ Ao;rw[Rp];have:=Gz ((o7 L).map fun s=>s.data.toList);rw[Rp,uS]at this;exact this
theorem oh{α β A:Type}{L:List α}(hL:L.length<=100000)(f:α->Option β){B:Int->List β->Option (List β)}{D:List β->A}(h: ∀(i:Nat) x s,L[i]? =some x->s.length<=1000000->B (i:Int) s=some (s++(f x).toList)):cN (L.length:Int) B D 0 []=some (D (L.filterMap f)):=by
 have h1:=rb 200000 (show L.length<=1000000 by omega) (by omega) (B:=B) (D:=D) (fun i=>((L[i]?).bind f).toList) (fun i=>by cases (L[i]?).bind f<;>simp) [] (by simp;omega) (fun i s hi hs=>by
  rw[h i L[i] s (Q0 hi) (by omega),Q0 hi];rfl)
 rw[h1,Sr,vP];congr 2;clear h h1 hL
 induction L with
 | nil=>rfl
 | cons x L ih=>
  rw[Sj,ih];cases hx:f x
  ·rw[List.filterMap_cons_none hx];rfl
  ·rw[List.filterMap_cons_some hx];rfl
theorem Fo{α:Type}(p:α->Bool)(L:List α):L.filterMap (fun x=>bif p x then some x else none)=L.filter p:=by
 induction L with
 | nil=>rfl
 | cons x L ih=>
  cases hx:p x
  ·rw[List.filterMap_cons_none (by rw[hx];rfl),Tk (by simp[hx]),ih]
  ·rw[List.filterMap_cons_some (b:=x) (by rw[hx];rfl),SU hx,ih]
theorem Fq{α S A:Type}{L:List α}(hL:L.length<=9223372036854775807){B:Int->S->Option S}{D:S->A}(I:Nat->S->Prop)(g:S->α->S){s:S}(h: ∀(i:Nat) x s,L[i]? =some x->I i s->B (i:Int) s=some (g s x)/\I (i+1) (g s x))(h2:I 0 s):cN (L.length:Int) B D 0 s=some (D (L.foldl g s))/\I L.length (L.foldl g s):=by
 have key: ∀(M:List α) (k:Nat) (s:S),(∀j x s,M[j]? =some x->I (k+j) s->B ((k+j:Nat):Int) s=some (g s x)/\I (k+j+1) (g s x))->I k s->dd (fun i s=>(B (i:Int) s).map .inl) D M.length k s=some (D (M.foldl g s))/\I (k+M.length) (M.foldl g s):=by
  intro M
  induction M with
  | nil=>exact fun k s _ h=>⟨rfl,h⟩
  | cons x l ih=>
   intro k s h h2;have h3:=h 0 x s rfl h2;rw[Sa]at h3;show((B (k:Int) s).map .inl).bind (Ri (dd (fun i s=>(B (i:Int) s).map .inl) D l.length (k+1)) some)=_/\_;rw[h3.1];have:=ih (k+1) _ (fun j y s hy h5=>by
    have:=h (j+1) y s (by simpa using hy) (by rw[show k+(j+1)=k+1+j by omega];exact h5);rw[show k+1+j=k+(j+1)from by omega];exact this) h3.2
   rw[Rc,show k+(l.length+1)=k+1+l.length by omega];exact this
 rw[eU,fH _ hL];have:=key L 0 s (fun j x s hx hI=>by
  rw[RR]at hI⊢;exact h j x s hx hI) h2
 rw[RR]at this;exact this
theorem GC{α:Type}{L:List α}(hL:L.length<=1000000)(q:α->Bool){T:α->Option Bool}(hT: ∀x∈L,T x=some (q x)): ∀(m i k:Nat) (M:List α),i+m=L.length->k<=i->M.length=L.length->M.drop i=L.drop i->M.take k=(L.take i).filter (fun x=> !q x)->
  ∃r:Int×List α,oT (fun(i4:Int) (s4:Int×(List α))=>(decide (i4<(s4.2.length:Int)))) (fun(i4:Int) (s4:Int×(List α))=>((at' s4.2 i4).bind fun x8=>((T x8).bind fun x9=>(bif(!x9)then((at' s4.2 s4.1).bind fun _=>some ((ao (s4.1+1)),(Sd s4.2 (Rl s4.1) x8)))else some (s4.1,s4.2))))) (fun(s4:Int×(List α))=>(s4.1,s4.2)) (i:Int) ((k:Int),M)=some r/\ ∃k':Nat,r.1=(k':Int)/\k'<=L.length/\r.2.length=L.length/\r.2.take k'=L.filter (fun x=> !q x):=by
 intro m
 induction m with
 | zero=>
  intro i k M hi hk hM _ ht;unfold oT;rw[bR];dsimp only;rw[decide_eq_false (by omega),cond_false];exact⟨_,rfl,k,rfl,by omega,hM,by rw[ht,RF (by omega)]⟩
 | succ m ih=>
  intro i k M hi hk hM hd ht;have hlt:i<L.length:=by omega
  have hx:M[i]? =some L[i]:=by
   have h1:=congrArg (fun l:List α=>l[0]?) hd;simp only[List.getElem?_drop,Sa]at h1;rw[h1,Q0 hlt]
  have htk:L.take (i+1)=L.take i++[L[i]]:=by
   rw[Td,Q0 hlt];rfl
  have hdr:M.drop (i+1)=L.drop (i+1):=by
   have:=congrArg (List.drop 1) hd;rw[UD,UD]at this;exact this
  unfold oT;rw[bR];dsimp only;have hat:at' M (i:Int)=some L[i]:=by rw[aF,hx]
  rw[decide_eq_true (by omega),cond_true,hat];simp only[QY,hT L[i] (R2 hlt)];have hwi:ao ((i:Int)+1)=((i+1:Nat):Int):=by
   rw[aO (by omega) (by omega)];omega
  cases hq:q L[i]
  ·have hk2:at' M (k:Int)=some (M[k]'(by omega)):=B4 (by omega);have hwk:ao ((k:Int)+1)=((k+1:Nat):Int):=by
    rw[aO (by omega) (by omega)];omega
   simp only[RU,cond_true,hk2,QY,hwk,hwi,Rk];exact ih (i+1) (k+1) (M.set k L[i]) (by omega) (by omega) (by rw[List.length_set];exact hM) (by rw[List.drop_set_of_lt (by omega)];exact hdr) (by
    rw[Td,List.take_set_of_le (Re _),List.getElem?_set_self (by omega),ht,htk,Tj,SU (by simp[hq])];rfl)
  ·simp only[Rs,cond_false,QY,hwi];exact ih (i+1) k M (by omega) (by omega) hM hdr (by
    rw[ht,htk,Tj,Tk (by simp[hq])];simp)
theorem Ex{α:Type}(z:α){L:List α}(hL:L.length<=1000000)(q:α->Bool){T:α->Option Bool}(hT: ∀x∈L,T x=some (q x)):
  ((((dD (L.length:Int) (fun(i3:Int) (_:Unit)=>((at' L i3).bind fun x7=>((T x7).bind fun x8=>(bif x8 then some (.inr (.inr i3))else some (.inl ()))))) (fun(_:Unit)=> .inl ()) 0 ())).bind (Ri (fun(_:Unit)=>some (-1)) some)).bind fun x1=>(bif(x1==(-1))then some L else(((oT (fun(i4:Int) (s4:Int×(List α))=>(decide (i4<(s4.2.length:Int)))) (fun(i4:Int) (s4:Int×(List α))=>((at' s4.2 i4).bind fun x8=>((T x8).bind fun x9=>(bif(!x9)then((at' s4.2 s4.1).bind fun _=>some ((ao (s4.1+1)),(Sd s4.2 (Rl s4.1) x8)))else some (s4.1,s4.2))))) (fun(s4:Int×(List α))=>(s4.1,s4.2)) (ao (x1+1)) (x1,L))).bind fun(j2:Int×(List α))=>((Lu z j2.2 j2.1).bind fun x11=>((eX x11 0 j2.1).bind fun x12=>some x12)))))=some (L.filter fun x=> !q x):=by
 rw[fV (by omega) q (fun i x hx=>by
  rw[aF,hx,QY,hT x (Q3 hx),QY]),QY]
 have hlt:=xx q L;have hany:=qC q L;by_cases hneg:iy q L<0
 ·rw[decide_eq_true hneg]at hany;rw[beq_iff_eq.2 (show iy q L= -1 by omega),cond_true];congr 1;refine(T1.2 fun x hx=> ?_).symm;have h3:L.any q=false:=by simpa using hany.symm
  have:=UG.1 h3 x hx;simpa using this
 ·rw[beq_eq_false_iff_ne.2 (show iy q L≠ -1 by omega),cond_false];obtain⟨i,hi⟩:=RT (show 0<=iy q L by omega);have hil:i<L.length:=by omega
  rw[hi];have hpre: ∀{M:List α} {i:Nat},iy q M=(i:Int)->(M.take i).filter (fun x=> !q x)=M.take i/\ ∃x,M[i]? =some x/\q x=true:=by
   intro M
   induction M with
   | nil=>intro i h;simp[iy]at h
   | cons x M ih=>
    intro i h;unfold iy at h;cases hx:q x
    ·rw[hx,cond_false]at h;dsimp only at h;by_cases h2:iy q M<0
     ·rw[decide_eq_true h2,cond_true]at h;omega
     ·rw[decide_eq_false h2,cond_false]at h;obtain⟨j,rfl⟩: ∃j,i=j+1:=⟨i - 1,by omega⟩;obtain⟨h3,y,h4,h5⟩:=ih (i:=j) (by omega);refine⟨?_,y,by rw[List.getElem?_cons_succ];exact h4,h5⟩;rw[List.take_succ_cons,SU (by simp[hx]),h3]
    ·rw[hx,cond_true]at h;have:i=0:=by omega
     subst this;exact⟨rfl,x,rfl,hx⟩
  obtain⟨h3,y,h4,h5⟩:=hpre hi;have hwi:ao ((i:Int)+1)=((i+1:Nat):Int):=by
   rw[aO (by omega) (by omega)];omega
  have htk:L.take (i+1)=L.take i++[y]:=by
   rw[Td,h4];rfl
  obtain⟨r,r1,k',k1,k2,k3,k4⟩:=GC hL q hT (L.length -(i+1)) (i+1) i L (by omega) (by omega) rfl rfl (by
   rw[htk,Tj,h3,Tk (by simp[h5])];simp)
  rw[hwi,r1,QY,k1];by_cases hk:k'<L.length
  ·unfold Lu;have hk3:(k':Int)<r.2.length:=by omega
   rw[if_pos ⟨by omega,hk3⟩,QY,Rk,kr (by omega) (by omega) (by rw[Rb,Rt,List.length_replicate];omega),QY];congr 1;rw[show(0:Int).toNat=0 from rfl,TL,TW,Rk,List.take_append_of_le_length (by rw[Rt];omega),List.take_take,Nat.min_self,k4]
  ·exfalso;have h6:(L.filter fun x=> !q x).length=L.length:=by
    rw[<-k4,Rt];omega
   have h7:=List.length_filter_eq_length_iff.1 h6 y (Q3 h4);rw[h5]at h7;cases h7
def byS(L:List Claim)(S:List ByteArray):List Claim:=L.filter fun c=>S.any fun x=>c.Source.toList==x.toList
theorem Fb{L:List Claim}{S:List ByteArray}{c:Claim}:c∈byS L S↔c∈L/\c.Source∈S:=by
 unfold byS;rw[Q8,any_eq]
theorem Fu{L:List Claim}(hL:L.length<=1000){S:List ByteArray}(hS:S.length<=1000):fI L S=some (byS L S):=by
 have h1:eo L=some L:=by
  unfold eo;rw[if_pos (by omega)]
 unfold fI;rw[h1,QY];have h2:=Ex (Claim.mk (QZ #[]) 0 (QZ #[]) (QZ #[]) (Span.mk 0 0) 0) (L:=L) (by omega) (fun c=> !(S.any fun x=>c.Source.toList==x.toList)) (T:=fun c=>fT c S) (fun c _=>by
  unfold fT;rw[contains_eq (by omega),QY])
 have h3:bS L S=some (L.filter fun c=> !!(S.any fun x=>c.Source.toList==x.toList)):=h2;rw[h3,QY];congr 2;funext c;rw[UE]
theorem Jg{L:List Claim}(hL:L.length<=1000){S:List ByteArray}(hS:S.length<=1000):pe L S=some (byS L S):=by
 unfold pe;rw[oh (by omega) (fun c=>bif S.any (fun x=>c.Source.toList==x.toList)then some c else none) (fun i c s hc hs=>by
  obtain⟨n,n1,n2⟩:=Fp (L:=S) (by omega) c.Source;have hat:at' L (i:Int)=some c:=by rw[aF,hc]
  simp only[hat,QY,n1];cases hb:S.any (fun x=>c.Source.toList==x.toList)
  ·have:c.Source∉S:=fun h=>by rw[any_eq.2 h]at hb;cases hb
   rw[decide_eq_false (show ¬n>=0 by have:=n2.2 this;omega)];simp
  ·have: ¬n<0:=fun h=>n2.1 h (any_eq.1 hb);rw[decide_eq_true (show n>=0 by omega),cond_true,cd (by simp;omega)];rfl),QY,Fo]
 rfl
def pick(A:List ByteArray)(R:List Int):List ByteArray:=R.map fun x=>A.getD x.toNat (QZ #[])
theorem mf(A:List ByteArray)(R:List Int):(pick A R).length=R.length:=Rp _
theorem KZ(A:List ByteArray)(R:List Int){i:Nat}(h:i<A.length):pick A (R++[(i:Int)])=pick A R++[A[i]]:=by
 unfold pick;rw[SI,Sq,List.map_nil,Rk,Ro,Q0 h];rfl
theorem MM{A:List ByteArray}{R:List Int}(hR:hZ A.length R){s:ByteArray}(h:s∈pick A R):s∈A:=by
 obtain⟨x,hx,rfl⟩:=Rh.1 h;have:=hR.2 x hx;rw[Ro,Q0 (by omega)];exact R2 _
theorem J0{A:List ByteArray}{R:List Int}{k:Nat}(hk:k<R.length):at' (pick A R) (k:Int)=some (A.getD R[k].toNat (QZ #[])):=by
 rw[aF];unfold pick;rw[List.getElem?_map,Q0 hk];rfl
def allI(n:Nat):List Int:=(Rx n).map fun(i:Nat)=>(i:Int)
theorem B1(n:Nat):hZ n (allI n):=by
 refine⟨?_,fun x hx=> ?_⟩
 ·unfold allI;rw[TB];exact(TH (n:=n)).imp fun h=>by omega
 ·obtain⟨i,hi,rfl⟩:=Rh.1 hx;have:=RD.1 hi;omega
theorem Hr(A:List ByteArray):pick A (allI A.length)=A:=by
 unfold pick allI;rw[TT];refine List.ext_getElem (by simp) fun i h1 h2=> ?_;simp[Q0 h2]
def oO(L:List Claim)(A:List ByteArray)(R:List Int):Bool:= !nk (byS L (pick A R))
section
variable {L : List Claim} {A : List ByteArray}
theorem Ip(hc:bf L=true)(S:List ByteArray):(byS L S).length<=100/\ ∀x∈byS L S,cw x=true:=by
 have h:=aG.1 hc;have h1:(byS L S).length<=L.length:=Sv _ _;exact⟨by omega,fun x hx=>h.2 x (Fb.1 hx).1⟩
theorem LL(hc:bf L=true){R:List Int}(hR:R.length<=1000):((fI L (pick A R)).bind fun x26=>((bV x26).bind fun x27=>some (!x27)))=some (oO L A R):=by
 have h:=aG.1 hc;have h2:=Ip hc (pick A R);rw[Fu (by omega) (by rw[mf];omega),QY,fS h2.1 h2.2];rfl
theorem LM(hc:bf L=true){R:List Int}(hR:R.length<=1000):((pe L (pick A R)).bind fun x1=>((bL x1).bind fun x2=>some (pick A R,(!x2))))=some (pick A R,oO L A R):=by
 have h:=aG.1 hc;have h2:=Ip hc (pick A R);rw[Jg (by omega) (by rw[mf];omega),QY,kK h2.1 h2.2];rfl
theorem Jy:oO L A []=false:=by
 have:byS L (pick A [])=[]:=List.eq_nil_iff_forall_not_mem.2 fun x hx=>by
  have:=(Fb.1 hx).2;simp[pick]at this
 unfold oO;rw[this];rfl
theorem L9(hc:bf L=true)(h:nk L=true)(R:List Int):oO L A R=false:=by
 have h1:=aG.1 hc;unfold oO;rw[vM (by omega) (Ip hc (pick A R)).1 (fun x hx=>(Fb.1 hx).1) h1.2 h];rfl
theorem Jx(h:nk L=false)(hA: ∀c∈L,c.Source∈A):oO L A (allI A.length)=true:=by
 have:byS L A=L:=T1.2 fun c hc=>any_eq.2 (hA c hc);unfold oO;rw[Hr,this,h];rfl
theorem NM(hA:A.Pairwise fun a b=>kU a b=true){x y:Int}(hx:0<=x/\x<A.length)(hy:0<=y/\y<A.length):fP (A.getD x.toNat (QZ #[])) (A.getD y.toNat (QZ #[]))=some (if x<y then -1 else if y<x then 1 else 0):=by
 obtain⟨i,rfl⟩:=RT hx.1;obtain⟨j,rfl⟩:=RT hy.1;have hi:i<A.length:=by omega
 have hj:j<A.length:=by omega
 have hlt: ∀{i j:Nat} (hi:i<A.length) (hj:j<A.length),i<j->Op.bytesLess A[i].toList A[j].toList=true:=fun hi hj h=>Ta.1 hA _ _ hi hj h;rw[Rk,Rk,Ro,Ro,Q0 hi,Q0 hj,Tw,Tw];unfold fP cmp_isNaN_string;simp only[beq_self_eq_true,Rs,QY,cond_false];rcases Nat.lt_trichotomy i j with h | h | h
 ·rw[hlt hi hj h,if_pos (by omega)];rfl
 ·subst h;rw[show Op.bytesLess A[i].toList A[i].toList=false from oC _,beq_self_eq_true,if_neg (by omega),if_neg (by omega)];rfl
 ·have h1:=hlt hj hi h;have h2:Op.bytesLess A[i].toList A[j].toList=false:=B6 h1;have h3:(A[i].toList==A[j].toList)=false:=by
   rw[beq_eq_false_iff_ne];intro e;rw[e,oC]at h1;cases h1
  rw[h2,h3,if_neg (by omega),if_pos (by omega)];rfl
theorem HF(hA:A.Pairwise fun a b=>kU a b=true)(hn:A.length<=1000){a b:List Int}(ha:hZ A.length a)(hb:hZ A.length b):ef (pick A a) (pick A b)=some (cmpL a b):=by
 have la:=ha.len;have lb:=hb.len;unfold ef;rw[fH _ (by rw[mf];omega)];simp only[mf];have key: ∀(M:List Int) (k:Nat),a.drop k=M->k+M.length=a.length->k<=b.length-> ∃r,dd (fun(i3:Nat) (_:Unit)=>((at' (pick A a) (i3:Int)).bind fun x7=>(bif(decide ((i3:Int)>=(b.length:Int)))then some (S1 (S1 1))else((at' (pick A b) (i3:Int)).bind fun x8=>((fP x7 x8).bind fun x9=>(bif(x9 !=0)then some (S1 (S1 x9))else some (Tm ()))))))) (fun _=>(Tm ():Unit⊕Int)) M.length k ()=some r/\Ri (fun(_:Unit)=>(bif(decide ((a.length:Int)<(b.length:Int)))then some (-1)else some 0)) some r=some (cmpL M (b.drop k)):=by
  intro M
  induction M with
  | nil=>
   intro k _ hk hkb;refine⟨.inl (),rfl,?_⟩;simp only[RH];simp only[Sw,Sa]at hk;by_cases h:a.length<b.length
   ·rw[decide_eq_true (show(a.length:Int)<b.length by omega),RP (show k<b.length by omega)];rfl
   ·rw[decide_eq_false (show ¬(a.length:Int)<b.length by omega),St (by omega)];rfl
  | cons x M ih=>
   intro k hd hk hkb;simp only[Rc]at hk;have hka:k<a.length:=by omega
   rw[RP hka]at hd;injection hd with hx hd;rw[Rc];unfold dd;rw[J0 hka,QY,hx];by_cases h:k<b.length
   ·rw[decide_eq_false (show ¬(k:Int)>=b.length by omega),cond_false,J0 h,QY,NM hA (hx▸ha.2 _ (R2 hka)) (hb.2 _ (R2 h)),QY,RP h,qp];by_cases h1:x<b[k]
    ·rw[if_pos h1,if_pos h1];exact⟨_,rfl,rfl⟩
    ·by_cases h2:b[k]<x
     ·rw[if_neg h1,if_pos h2,if_neg h1,if_pos h2];exact⟨_,rfl,rfl⟩
     ·rw[if_neg h1,if_neg h2,if_neg h1,if_neg h2];exact ih (k+1) hd (by omega) (by omega)
   ·rw[decide_eq_true (show(k:Int)>=b.length by omega),St (by omega)];exact⟨_,rfl,rfl⟩
 obtain⟨r,h1,h2⟩:=key a 0 rfl (by omega) (R0 _);rw[h1,QY,h2];rfl
theorem PB(p q:Int):jH [p,q]=some (if p≠0 then p else q):=by
 unfold jH;rw[fU (L:=[p,q]) (by simp) (fun _ x=>x !=0) (fun _ x=>x) (fun i x hx=>by rw[aF,hx];rfl)];by_cases h1:p=0
 ·subst h1;by_cases h2:q=0
  ·subst h2;rfl
  ·have e2:(q !=0)=true:=by simpa using h2
   simp only[cn,bne_self_eq_false,cond_false,e2,cond_true];simp
 ·have e1:(p !=0)=true:=by simpa using h1
  simp only[cn,e1,cond_true];simp[h1]
theorem Ol(a b:List Int):decide ((if(if(a.length:Int)<(b.length:Int)then(-1:Int)else if(b.length:Int)<(a.length:Int)then 1 else 0)≠0 then(if(a.length:Int)<(b.length:Int)then(-1:Int)else if(b.length:Int)<(a.length:Int)then 1 else 0)else cmpL a b)<0)=true↔mD (fun _=>0) a b:=by
 rw[decide_eq_true_eq];unfold mD;by_cases h1:a.length<b.length
 ·rw[if_pos (show(a.length:Int)<b.length by omega),if_pos (by decide)];exact⟨fun _=> .inr ⟨rfl,.inl h1⟩,fun _=>by omega⟩
 ·rw[if_neg (show ¬(a.length:Int)<b.length by omega)];by_cases h2:b.length<a.length
  ·rw[if_pos (show(b.length:Int)<a.length by omega),if_pos (by decide)];exact⟨fun h=>by omega,fun h=>by
    rcases h with h | ⟨_,h | ⟨h,_⟩⟩
    ·exact absurd h (Int.lt_irrefl 0)
    ·omega
    ·omega⟩
  ·rw[if_neg (show ¬(b.length:Int)<a.length by omega),if_neg (by decide)];exact⟨fun h=> .inr ⟨rfl,.inr ⟨by omega,h⟩⟩,fun h=>by
    rcases h with h | ⟨_,h | ⟨_,h⟩⟩
    ·exact absurd h (Int.lt_irrefl 0)
    ·omega
    ·exact h⟩
theorem L8{S T D':Type}{n:Nat}(hn:n<=9223372036854775807){B:Int->S->Option S}{D:S->D'}(f:T->S)(I:T->Prop)(g:T->Nat->T)(t:T)(h: ∀(i:Nat) t,i<n->I t->B (i:Int) (f t)=some (f (g t i))/\I (g t i))(h2:I t):cN (n:Int) B D 0 (f t)=some (D (f ((Rx n).foldl g t)))/\I ((Rx n).foldl g t):=by
 have key: ∀(m k:Nat) (t:T),k+m<=n->I t->dd (fun i s=>(B (i:Int) s).map (Tm (β:=D'))) D m k (f t)=some (D (f ((Su k m).foldl g t)))/\I ((Su k m).foldl g t):=by
  intro m
  induction m with
  | zero=>intro k t _ h;exact⟨rfl,h⟩
  | succ m ih=>
   intro k t hk hI;have h3:=h k t (by omega) hI;unfold dd;rw[h3.1,Tx,Ss];exact ih (k+1) _ (by omega) h3.2
 rw[eU,fH n hn,List.range_eq_range'];exact key n 0 t (by omega) h2
theorem KY{R:List Int}(hR:hZ A.length R)(hn:A.length<=1000):((cN (R.length:Int) (fun(i16:Int) (s16:(List ByteArray))=>((at' R i16).bind fun x20=>((at' A x20).bind fun x21=>((bZ s16 ([x21]:List ByteArray)).bind fun x22=>some x22)))) (fun(s16:(List ByteArray))=>s16) 0 ([]:List ByteArray)))=some (pick A R):=by
 have:=hR.len;rw[oh (by omega) (fun x=>some (A.getD x.toNat (QZ #[]))) (fun i x s hx hs=>by
  have hat:at' R (i:Int)=some x:=by rw[aF,hx]
  have h2:=hR.2 x (Q3 hx);obtain⟨k,rfl⟩:=RT h2.1;have hk:k<A.length:=by omega
  rw[hat,QY,B4 hk,QY,cd (by simp;omega),QY,Rk,Ro,Q0 hk];rfl)]
 congr 1;unfold pick;exact congrFun (List.filterMap_eq_map (f:=fun x:Int=>A.getD x.toNat (QZ #[]))) R
theorem Bb{n:Nat}(hc:bf L=true)(hsm: ∀x∈L,de x)(hco:nk L=false)(hA:A.Pairwise fun a b=>kU a b=true)(hAm: ∀c∈L,c.Source∈A)(hn:A.length=n)(h12:n<=12)(hs:jT L=some A): ∃R,cD L=some (pick A R,0)/\ia (fun _=>0) (allI n::((Rx (2^n)).map (eh n)).filter (oO L A)) R:=by
 have hcl:=aG.1 hc;have hpow:2^n<=2^12:=RN (by omega) h12;have hbad:=Jx (A:=A) hco hAm;have e0:(sh' ((A.length:Nat):Int))=some ():=by unfold sh';rw[if_pos (by omega)]
 unfold cD;have hcl2:eG L=some true:=by rw[jO (by omega) hsm,hc]
 rw[hcl2,QY,fS (by omega) hcl.2,QY,hco];simp only[Rs,cond_false,QY,RH,hs,hn];rw[BQ n (by omega)];obtain⟨h1,h2⟩:=L8 (D':=List ByteArray) (n:=2^n) (by omega) (B:=fun(i9:Int) (s9:(List ByteArray))=>((gE i9).bind fun x13=>(((cN (x13.length:Int) (fun(i16:Int) (s16:(List ByteArray))=>((at' x13 i16).bind fun x20=>((at' A x20).bind fun x21=>((bZ s16 ([x21]:List ByteArray)).bind fun x22=>some x22)))) (fun(s16:(List ByteArray))=>s16) 0 ([]:List ByteArray))).bind fun(j14:(List ByteArray))=>((((iY (j14.length:Int) (s9.length:Int)).bind fun x23=>((ef j14 s9).bind fun x24=>((jH ([x23,x24]:List Int)).bind fun x25=>(bif(decide (x25<0))then((fI L j14).bind fun x26=>((bV x26).bind fun x27=>some (!x27)))else some false))))).bind fun(j28:Bool)=>(bif j28 then some j14 else some s9))))) (D:=fun s=>s) (pick A) (hZ n) (fun R b=>bif @decide (mD (fun _=>0) (eh n b) R) (Classical.propDecidable _)&&oO L A (eh n b)then eh n b else R) (allI n) (fun b R hb hR=>by
  have hI:=qX n b;have hl:=hI.len;rw[oZ (by omega) hb,QY,KY (hn▸hI) (by omega),QY,mf,mf,JC,QY,HF hA (by omega) (hn▸hI) (hn▸hR),QY,PB,QY,LL hc (by omega)];have hk:=Ol (eh n b) R;generalize hd:decide (_<(0:Int))=d at hk⊢;cases d
  ·have: ¬mD (fun _=>0) (eh n b) R:=fun h=>by have:=hk.2 h;cases this
   rw[@decide_eq_false _ (Classical.propDecidable _) this];exact⟨rfl,hR⟩
  ·rw[@decide_eq_true _ (Classical.propDecidable _) (hk.1 rfl),cond_true,QY,Se];cases oO L A (eh n b)
   ·exact⟨rfl,hR⟩
   ·exact⟨rfl,hI⟩) (B1 n)
 have e1:pick A (allI n)=A:=by rw[<-hn];exact Hr A
 rw[e1]at h1;rw[h1,QY];refine⟨_,rfl,?_⟩;have hl:=tA (w:=fun _=>0) (fun a b=> @decide (mD (fun _=>0) a b) (Classical.propDecidable _)) (fun a b=>by rw[@decide_eq_true_eq _ (Classical.propDecidable _)]) (oO L A) ((Rx (2^n)).map (eh n)) [allI n] (allI n) ⟨by simp,fun r hr=> .inl (Rj.1 hr)⟩;rw[List.foldl_map]at hl;exact hl
theorem KC(hL:L.length<=1000):jT L=some (gJ (L.map Claim.Source)):=by
 unfold jT;rw[oh (by omega) (fun c=>some c.Source) (fun i c s hc hs=>by
  rw[aF,hc,QY,cd (by simp;omega)];rfl),QY,List.filterMap_eq_map']
 unfold nC;rw[if_pos (by rw[Rp];omega)];rfl
theorem Lf(hL:L.length<=1000):ji L=some (gJ (L.map Claim.Source)):=by
 unfold ji;rw[(Fq (L:=L) (by omega) (B:=fun(i3:Int) (s3:(List ByteArray))=>((at' L i3).bind fun x7=>((ka s3 x7.Source).bind fun x8=>some x8))) (D:=fun s=>s) (fun i s=>s.Pairwise (fun a b=>kU a b=true)/\s.length<=i) (fun s c=>zz s c.Source) (s:=[]) (fun i c s hc hs=>by
  have hi:=(Q1.1 hc).1;have hl:=Mi s c.Source;rw[aF,hc,QY,Ld (by omega) hs.1];exact⟨rfl,Ax hs.1,by omega⟩) ⟨List.Pairwise.nil,by simp⟩).1,QY]
 congr 1;rw[<-DH,List.foldl_map]
theorem GK{α:Type}(p:α->Bool)(x y:List α):(x++y).find? p=match x.find? p with | some r=>some r | none=>y.find? p:=by
 rw[List.find?_append];cases x.find? p<;>rfl
def Few(A:List ByteArray)(o:Option (List Int))(r:Option (List ByteArray×Bool)):Prop:=match o with
 | some Q=>r=some (pick A Q,true)
 | none=> ∃l,r=some (l,false)
theorem L7(hc:bf L=true)(h12:A.length<=12): ∀(m fuel f:Nat) (R:List Int),m<fuel->hZ A.length R->fN R f->m<=100->Few A ((qq A.length m f R).find? (oO L A)) (di fuel L A (pick A R) f m)
 | m,0,f,R,h,_,_,_=>by omega
 | 0,fuel+1,f,R,_,hR,_,_=>by
  have hl:=hR.len;unfold qq di;rw[show(((0:Nat):Int)==0)=true from rfl,cond_true,LM hc (by omega),List.find?_cons];cases oO L A R
  ·exact⟨_,rfl⟩
  ·rfl
 | m+1,fuel+1,f,R,hf,hR,hN,hm=>by
  have hl:=hR.len;have key: ∀(j i:Nat),i+j=A.length->f<=i->match((Su i j).flatMap fun i=>qq A.length m (i+1) (R++[(i:Int)])).find? (oO L A)with
    | some Q=>dd (fun(i5:Nat) (_:Unit)=>((bZ ([]:List ByteArray) (pick A R)).bind fun x9=>((at' A (i5:Int)).bind fun x10=>((bZ x9 ([x10]:List ByteArray)).bind fun x11=>((di fuel L A x11 (ao ((i5:Int)+1)) (ao (((m+1:Nat):Int)- 1))).bind fun x12=>(bif x12.2 then some (S1 (S1 (x12.1,true)))else some (Tm ()))))))) (fun(_:Unit)=>(Tm ():Unit⊕(List ByteArray×Bool))) j i ()=some (.inr (pick A Q,true))
    | none=>dd (fun(i5:Nat) (_:Unit)=>((bZ ([]:List ByteArray) (pick A R)).bind fun x9=>((at' A (i5:Int)).bind fun x10=>((bZ x9 ([x10]:List ByteArray)).bind fun x11=>((di fuel L A x11 (ao ((i5:Int)+1)) (ao (((m+1:Nat):Int)- 1))).bind fun x12=>(bif x12.2 then some (S1 (S1 (x12.1,true)))else some (Tm ()))))))) (fun(_:Unit)=>(Tm ():Unit⊕(List ByteArray×Bool))) j i ()=some (.inl ()):=by
   intro j
   induction j with
   | zero=>intro i _ _;rfl
   | succ j ih=>
    intro i hi hfi;have hlt:i<A.length:=by omega
    have h2:=L7 hc h12 m fuel (i+1) (R++[(i:Int)]) (by omega) (hR.snoc (by omega) (by omega) fun x hx=>by have:=hN.1 x hx;omega) (hN.snoc hfi) (by omega);rw[KZ A R hlt]at h2;have hb:((bZ ([]:List ByteArray) (pick A R)).bind fun x9=>((at' A (i:Int)).bind fun x10=>((bZ x9 ([x10]:List ByteArray)).bind fun x11=>((di fuel L A x11 (ao ((i:Int)+1)) (ao (((m+1:Nat):Int)- 1))).bind fun x12=>(bif x12.2 then some (S1 (S1 (x12.1,true)))else some (Tm ()))))))=((di fuel L A (pick A R++[A[i]]) ((i+1:Nat):Int) (m:Int)).bind fun x12=>(bif x12.2 then some (S1 (S1 (x12.1,true)))else some (Tm ())):Option (Unit⊕(Unit⊕(List ByteArray×Bool)))):=by
     rw[cd (by rw[mf];simp;omega),QY,Sr,B4 hlt,QY,cd (by rw[mf];simp;omega),QY,aO (by omega) (by omega),aO (by omega) (by omega)];congr 2;omega
    have ih:=ih (i+1) (by omega) (by omega);rw[Tx,Sj,GK];generalize qq A.length m (i+1) (R++[(i:Int)])=C at h2⊢;unfold Few at h2;cases hC:C.find? (oO L A)with
    | some Q=>
     rw[hC]at h2;simp only;unfold dd;rw[hb,h2];rfl
    | none=>
     rw[hC]at h2;obtain⟨l,h2⟩:=h2;simp only;unfold dd;rw[hb,h2];exact ih
  have hkey:=key (A.length - f) f;unfold qq di;rw[beq_eq_false_iff_ne.2 (show((m+1:Nat):Int)≠0 by omega),cond_false,uz f (by omega),show((A.length:Int)-(f:Int)).toNat=A.length - f by omega];by_cases hfl:f<=A.length
  ·have hkey:=hkey (by omega) (Re _);unfold Few;cases hC:((Su f (A.length - f)).flatMap fun i=>qq A.length m (i+1) (R++[(i:Int)])).find? (oO L A)with
   | some Q=>
    rw[hC]at hkey;simp only at hkey⊢;rw[hkey];rfl
   | none=>
    rw[hC]at hkey;simp only at hkey⊢;rw[hkey];exact⟨_,rfl⟩
  ·rw[show A.length - f=0 by omega];exact⟨_,rfl⟩
theorem By(hc:bf L=true)(hsm: ∀x∈L,de x)(h12:A.length<=12)(hs:ji L=some A):eO L=match(vw A.length).find? (oO L A)with | some Q=>some (pick A Q,0) | none=>some ([],4):=by
 have hcl:=aG.1 hc;unfold eO;rw[mi (by omega) hsm,hc,QY,hs,QY];simp only[Rs,cond_false];have key: ∀(j i:Nat),i+j=A.length+1->match((Su i j).flatMap fun m=>qq A.length m 0 []).find? (oO L A)with
   | some Q=>IC (fun(i5:Int) (_:Unit)=>(decide (i5<=(A.length:Int)))) (fun(i5:Int) (_:Unit)=>((nJ L A ([]:List ByteArray) 0 i5).bind fun x9=>(bif x9.2 then some (S1 (S1 (x9.1,0)))else some (Tm ())))) (fun(_:Unit)=>(Tm ():Unit⊕(List ByteArray×Int))) (i:Int) ()=some (.inr (pick A Q,0))
   | none=>IC (fun(i5:Int) (_:Unit)=>(decide (i5<=(A.length:Int)))) (fun(i5:Int) (_:Unit)=>((nJ L A ([]:List ByteArray) 0 i5).bind fun x9=>(bif x9.2 then some (S1 (S1 (x9.1,0)))else some (Tm ())))) (fun(_:Unit)=>(Tm ():Unit⊕(List ByteArray×Int))) (i:Int) ()=some (.inl ()):=by
  intro j
  induction j with
  | zero=>
   intro i hi;show IC _ _ _ _ _=_;unfold IC;rw[bR];dsimp only;rw[decide_eq_false (by omega)];rfl
  | succ j ih=>
   intro i hi;have h2:Few A _ (nJ L A ([]:List ByteArray) 0 (i:Int)):=L7 hc h12 i 1000 0 [] (by omega) (hZ.nil _) fN.nil (by omega);have ih:=ih (i+1) (by omega);have hw:ao ((i:Int)+1)=((i+1:Nat):Int):=by
    rw[aO (by omega) (by omega)];omega
   rw[Tx,Sj,GK];generalize qq A.length i 0 []=C at h2⊢;unfold Few at h2;cases hC:C.find? (oO L A)with
   | some Q=>
    rw[hC]at h2;simp only at h2⊢;unfold IC;rw[bR];dsimp only;rw[decide_eq_true (by omega),cond_true,h2];rfl
   | none=>
    rw[hC]at h2;obtain⟨l,h2⟩:=h2;unfold IC at ih⊢;rw[bR];dsimp only;rw[decide_eq_true (by omega),cond_true,h2];simp only[QY,cond_false,RH,hw];exact ih
 have hk:=key A.length 1 (by omega);unfold vw;cases hC:((Su 1 A.length).flatMap fun m=>qq A.length m 0 []).find? (oO L A)with
 | some Q=>
  rw[hC]at hk;rw[show(1:Int)=((1:Nat):Int)from rfl,hk];rfl
 | none=>
  rw[hC]at hk;rw[show(1:Int)=((1:Nat):Int)from rfl,hk];rfl
theorem Jf(hc:bf L=true)(hsm: ∀x∈L,de x): ∃S c,cD L=some (S,c)/\eO L=some (S,c)/\(c=0\/c=4)/\S.length<=12/\ ∀s∈S,s∈L.map Claim.Source:=by
 have hcl:=aG.1 hc;have h12:(gJ (L.map Claim.Source)).length<=12:=by
  have:=HL (L.map Claim.Source);rw[Rp]at this;omega
 have hs:=By hc hsm h12 (Lf (by omega));have hA:=tM (L.map Claim.Source);have hAm: ∀c∈L,c.Source∈gJ (L.map Claim.Source):=fun c h=>tL.2 (List.mem_map_of_mem h);have hAs: ∀s∈gJ (L.map Claim.Source),s∈L.map Claim.Source:=fun s h=>tL.1 h;have hi:=KC (L:=L) (by omega);generalize gJ (L.map Claim.Source)=A at*;cases hco:nk L
 ·obtain⟨R,r1,r2⟩:=Bb hc hsm hco hA hAm rfl h12 hi;have hbad:=Jx (A:=A) hco hAm;have hall:allI A.length∈vw A.length:=yT.2 ⟨B1 _,fun h=>by rw[h,Jy]at hbad;cases hbad⟩;cases hf:(vw A.length).find? (oO L A)with
  | none=>
   have:=Tt.1 hf _ hall;exact absurd hbad this
  | some Q=>
   have hRQ:R=Q:=AW Jy hf (fun x=>by
    rw[Ra,Q8,Rh];constructor
    ·rintro(rfl | ⟨⟨b,_,rfl⟩,h⟩)
     ·exact⟨B1 _,hbad⟩
     ·exact⟨qX _ _,h⟩
    ·rintro⟨h1,h2⟩;obtain⟨b,b1,b2⟩:=yx _ h1;exact .inr ⟨⟨b,RD.2 b1,b2⟩,h2⟩) r2
   subst hRQ;rw[hf]at hs;have hI:hZ A.length R:=(yT.1 (List.mem_of_find?_eq_some hf)).1;refine⟨_,_,r1,hs,.inl rfl,by rw[mf];have:=hI.len;omega,fun s h=>hAs s (MM hI h)⟩
 ·have hf:(vw A.length).find? (oO L A)=none:=Tt.2 fun R _=>by rw[L9 hc hco R];decide
  rw[hf]at hs;refine⟨[],4,?_,hs,.inr rfl,by simp,by simp⟩;unfold cD;rw[jO (by omega) hsm,hc,QY,fS (by omega) hcl.2,QY,hco];rfl
end
structure ez (d:bC):Prop where
 c:bf d.Claims=true
 cs: ∀x∈d.Claims,de x
 s:nW d.Sites=some true
 ss: ∀x∈d.Sites,zP x
theorem ez.P5:ez (bC.mk [] []):=⟨rfl,by simp,rfl,by simp⟩
abbrev okT:ByteArray:=QZ #[111,107]
abbrev OM:ByteArray:=QZ #[101,114,114,111,114,32]
def va(e:Int):ByteArray:=OM++cI e
theorem gn{e:Int}(h0:0<=e)(h9:e<=9):cY e=some (va e):=by
 have z:=bK (v:=e) (by omega) (by omega);have z1:(QZ #[101,114,114,111,114,32]).size=6:=rfl;unfold cY va;rw[kR _ (by omega) (by omega),QY,cg (by omega)];rfl
theorem Kw{e:Int}(h0:0<=e)(h9:e<=9):((bT e).bind fun x18=>bU OM x18)=some (va e):=by
 have z:=bK (v:=e) (by omega) (by omega);have z1:OM.size=6:=rfl;unfold va;rw[im (by omega) (by omega),QY,cg (by omega)]
def KU(t:ByteArray)(e:Int):ByteArray:=bif e !=0 then va e else t
theorem je(t:ByteArray){e:Int}(h0:0<=e)(h9:e<=9):cL t e=some (KU t e):=by
 unfold cL KU;cases (e !=0)
 ·rfl
 ·rw[cond_true,cond_true,gn h0 h9];rfl
def Did(d:bC)(i:Option (ByteArray×bC))(s:Option (bC×Int)):Prop:= ∃d' e,s=some (d',e)/\(0<=e/\e<=9)/\i=some (KU okT e,bif e !=0 then d else d')/\(e=0->ez d')
theorem Kl{d:bC}(h:ez d){w:ByteArray}(hw:w.size<=1048576):Did d (fQ d w) (kY d w):=by
 obtain⟨c,e,r1,r2,r3⟩:=FM w hw;have h12:=aG.1 h.c;unfold fQ kY;rw[r1,r2,QY,QY];rcases r3 with rfl | ⟨rfl,r4,r5⟩
 ·refine⟨d,6,rfl,by omega,?_,fun h=>by cases h⟩;have h6:(((6:Int) !=0))=true:=rfl;simp only[h6,cond_true,gn (e:=6) (by omega) (by omega),QY,RB];rfl
 ·have h0:(((0:Int) !=0))=false:=rfl;by_cases hl:d.Claims.length=12
  ·have hb:((d.Claims.length:Int)==12)=true:=by rw[beq_iff_eq];omega
   refine⟨d,3,?_,by omega,?_,fun h=>by cases h⟩
   ·simp only[h0,cond_false,hb,cond_true]
   ·simp only[h0,cond_false,hb,cond_true,gn (e:=3) (by omega) (by omega),QY,RB];rfl
  ·have hb:((d.Claims.length:Int)==12)=false:=by rw[beq_eq_false_iff_ne];omega
   refine⟨bC.mk (d.Claims++[c]) d.Sites,0,?_,by omega,?_,fun _=>⟨aG.2 ⟨by simp;omega,fun x hx=> ?_⟩,fun x hx=> ?_,h.s,h.ss⟩⟩
   ·simp only[h0,cond_false,hb];rw[cd (by simp;omega),QY,Sr,cd (by simp;omega)];rfl
   ·simp only[h0,cond_false,hb,QY,RH];rw[cd (by simp;omega)];rfl
   ·rcases Rq.1 hx with hx | hx
    ·exact h12.2 x hx
    ·rw[Rj.1 hx];exact r4
   ·rcases Rq.1 hx with hx | hx
    ·exact h.cs x hx
    ·rw[Rj.1 hx];exact r5
theorem DD{x y:List Claim}(h:x.length+y.length<=1000000):ie [x,y]=some (x++y):=by
 unfold ie;have a0:at' [x,y] 0=some x:=aF (L:=[x,y]) 0;have a1:at' [x,y] 1=some y:=aF (L:=[x,y]) 1;have e1:=GL (A:=Int) (B:=fun(i3:Int) (s3:Int)=>((at' [x,y] i3).bind fun x7=>(bif(decide ((ao (s3+(x7.length:Int)))<0))then none else some (ao (s3+(x7.length:Int)))))) (D:=fun(s3:Int)=>s3) (s:=0) (a:=(x.length:Int)) (b:=(x.length:Int)+y.length) (by
  simp only[a0,QY];rw[aO (by omega) (by omega),decide_eq_false (by omega),cond_false,Int.zero_add]) (by
  simp only[a1,QY];rw[aO (by omega) (by omega),decide_eq_false (by omega),cond_false])
 have e2:=GL (A:=List Claim) (B:=fun(i11:Int) (s11:(List Claim))=>((at' [x,y] i11).bind fun x15=>((bZ s11 x15).bind fun x16=>some x16))) (D:=fun(s11:(List Claim))=>s11) (s:=[]) (a:=x) (b:=x++y) (by
  simp only[a0,QY];rw[cd (by simp;omega)];rfl) (by
  simp only[a1,QY];rw[cd (by omega)];rfl)
 rw[show((([x,y]:List (List Claim)).length:Nat):Int)=2 from rfl,e1,QY,e2];have h3:GP ((x.length:Int)+y.length)=some ():=by
  unfold GP;rw[decide_eq_true (by omega),decide_eq_true (by omega)];rfl
 rw[h3];rfl
def JE(aD:bC)(n:Int):Option (ByteArray×Int×bC):=((dt n 0 (ao ((aD.Claims.length:Int)- 1))).bind fun x12=>(bif(!x12)then some ((QZ #[111,107]),2,aD)else((eX aD.Claims 0 n).bind fun x13=>((bZ ([]:List Claim) x13).bind fun x14=>((eX aD.Claims (ao (n+1)) (aD.Claims.length:Int)).bind fun x15=>((bZ x14 x15).bind fun x16=>some ((QZ #[111,107]),0,(bC.mk x16 aD.Sites))))))))
theorem LY{d:bC}(h:ez d){w:ByteArray}(hw:w.size<=1048576){n:Int}(hn:gG w=(n,true))(h0:0<=n)(h1:n<10000000000000):Did d (fh d w) ((JE d n).map fun x=>(x.2.2,x.2.1))/\ ∃x,JE d n=some (okT,x):=by
 have h12:=aG.1 h.c;obtain⟨m,rfl⟩:=RT h0;have hz:(0:Int)=((0:Nat):Int):=rfl;unfold fh JE jA;rw[uN w hw,QY,QY,hn,jW,QY,aO (n:=(d.Claims.length:Int)- 1) (by omega) (by omega),aO (n:=(m:Int)+1) (by omega) (by omega)];by_cases hl:m<d.Claims.length
 ·have hb:inB (m:Int) 0 ((d.Claims.length:Int)- 1)=true:=ic.2 ⟨by omega,by omega⟩;have hc:decide ((m:Int)>=(d.Claims.length:Int))=false:=decide_eq_false (by omega);have p1:eX d.Claims 0 (m:Int)=some (d.Claims.take m):=by
   rw[kr (by omega) (by omega) (by omega)];simp
  have p2:eX d.Claims ((m:Int)+1) (d.Claims.length:Int)=some (d.Claims.drop (m+1)):=by
   rw[kr (by omega) (by omega) (by omega),show((m:Int)+1).toNat=m+1 by omega,RF (by rw[Sb];omega)]
  have hlen:(d.Claims.take m++d.Claims.drop (m+1)).length<=12:=by
   rw[Rb,Rt,Sb];omega
  have hm: ∀x∈d.Claims.take m++d.Claims.drop (m+1),x∈d.Claims:=fun x hx=>by
   rcases Rq.1 hx with hx | hx
   ·exact S4 hx
   ·exact List.mem_of_mem_drop hx
  have hlen2:=hlen;rw[Rb]at hlen2;simp only[hb,hc,Rs,cond_false,p1,p2,QY];rw[cd (by simp;omega),QY,Sr,cd (by omega),QY,DD (by omega)];exact⟨⟨_,0,rfl,by omega,rfl,fun _=>⟨aG.2 ⟨hlen,fun x hx=>h12.2 x (hm x hx)⟩,fun x hx=>h.cs x (hm x hx),h.s,h.ss⟩⟩,_,rfl⟩
 ·have hb:inB (m:Int) 0 ((d.Claims.length:Int)- 1)=false:=Rv.2 fun e=>by
   have:=ic.1 e;omega
  have hc:decide ((m:Int)>=(d.Claims.length:Int))=true:=decide_eq_true (by omega);simp only[hb,hc,RU,cond_true,gn (e:=2) (by omega) (by omega),QY];exact⟨⟨d,2,rfl,by omega,rfl,fun h=>by cases h⟩,_,rfl⟩
def ltC(a b:Site):Bool:=kU a.Code b.Code
theorem uI(a b c:Site)(h:ltC a b=true)(k:ltC b c=true):ltC a c=true:=EL h k
theorem zD(a b:Site)(h:ltC a b=true):ltC b a=false:=uJ h
theorem Ja{L:List Site}(h:nW L=some true):L.Pairwise fun a b=>ltC a b=true:=by
 rw[Ta];intro i j hi hj hij;exact(mg h).1 i j _ _ hij (Q0 hi) (Q0 hj)
def p5(L:List Site)(x:Site):List Site:=kH ltC (L.filter fun s=> !(s.Code.toList==x.Code.toList)) x
theorem LA(L:List Site)(x:Site):(p5 L x).length<=L.length+1:=by
 unfold p5;rw[zL];have:=Sv (fun s:Site=> !(s.Code.toList==x.Code.toList)) L;omega
theorem LB{L:List Site}{x z:Site}(h:z∈p5 L x):z=x\/z∈L:=by
 unfold p5 at h;rcases qR.1 h with h | h
 ·exact .inl h
 ·exact .inr (Q8.1 h).1
theorem Fh(x y:Site):((fg x y).bind fun x9=>some (decide (x9<0)))=some (ltC x y):=by
 obtain⟨r,r1,r2,_⟩:=BU x.Code y.Code;unfold fg;rw[r1,QY,QY,r2];rfl
theorem Ih{L:List Site}(hL:L.Pairwise fun a b=>ltC a b=true)(x:Site):Ag ltC (L.filter (fun s=> !(s.Code.toList==x.Code.toList))++[x])/\ ∀y∈L.filter (fun s=> !(s.Code.toList==x.Code.toList)),ltC y x=true\/ltC x y=true:=by
 have hx: ∀y∈L.filter (fun s=> !(s.Code.toList==x.Code.toList)),ltC y x=true\/ltC x y=true:=fun y hy=>by
  have h:=(Q8.1 hy).2;have h2: ¬y.Code=x.Code:=fun e=>by
   rw[e,fO.2 rfl]at h;cases h
  exact uK h2
 refine⟨?_,hx⟩;unfold Ag;refine R5.2 ⟨(hL.filter _).imp fun h=> .inl h,List.pairwise_singleton _ _,fun a ha b hb=> ?_⟩;rw[Rj.1 hb];exact hx a ha
theorem Jb{L:List Site}(h12:L.length<=12)(ha:Ag ltC L):bI L=some (lG ltC L):=by
 unfold bI;obtain⟨l,hl⟩: ∃l,bits_Len (IntKind.wrap .u64 (L.length:Int))=some l:=by
  have key: ∀n:Fin 13,(bits_Len (IntKind.wrap .u64 (n.val:Int))).isSome=true:=by decide+kernel
  exact Option.isSome_iff_exists.1 (key ⟨L.length,by omega⟩)
 rw[hl,QY];unfold bM;rw[bR];have e:ao ((L.length:Int)- 0)=(L.length:Int):=by rw[aO (by omega) (by omega)];omega
 simp only[e,decide_eq_true (show(L.length:Int)<=12 by omega),cond_true];have:=Oi (C:=fg) (lt:=ltC) (P:=fun _=>True) (fun x y _ _=>Fh x y) uI zD (L:=L) (by omega) (fun _ _=>trivial) ha;rw[show bw L 0 (L.length:Int)=some (lG ltC L)from this];rfl
theorem Md{L:List Site}(h10:L.length<=10)(hL:L.Pairwise fun a b=>ltC a b=true)(x:Site):((dR L).bind fun x3=>((bF x3 x.Code).bind fun x4=>((bZ x4 ([x]:List Site)).bind fun x5=>bI x5)))=some (p5 L x):=by
 have h1:dR L=some L:=by
  unfold dR;rw[if_pos (by omega)]
 have h2:=Ex (Site.mk (QZ #[]) (aH.mk 0 0)) (L:=L) (by omega) (fun s=>s.Code.toList==x.Code.toList) (T:=fun s=>ff s x.Code) (fun s _=>rfl);have h3:bF L x.Code=some (L.filter fun s=> !(s.Code.toList==x.Code.toList)):=h2;have hl:=Sv (fun s:Site=> !(s.Code.toList==x.Code.toList)) L;obtain⟨a1,a2⟩:=Ih hL x;rw[h1,QY,h3,QY,cd (by simp;omega),QY,Jb (by simp;omega) a1];congr 1;refine qh zD (yf uI a1) (rA uI (hL.filter _) a2) fun z=> ?_;rw[ET,Rq,Rj];unfold p5;rw[qR];exact or_comm
theorem Jo{α:Type}(p:α->Bool): ∀{M:List α},(∀y∈M,p y=true)->M.takeWhile p=M/\M.dropWhile p=[]
 | [],_=>⟨rfl,rfl⟩
 | x::M,h=>by
  have hx:=h x (by simp);have ih:=Jo p (M:=M) fun y hy=>h y (by simp[hy]);rw[List.takeWhile_cons_of_pos hx,List.dropWhile_cons_of_pos hx,ih.1];exact⟨rfl,ih.2⟩
theorem M5{L:List Site}(hl:L.length<=1000)(hL:L.Pairwise fun a b=>ltC a b=true)(x:Site):
  ((cN (L.length:Int) (fun(i4:Int) (s4:Bool×(List Site))=>(((bif(!s4.1)then((at' L i4).bind fun x8=>some ((Op.bytesLess x.Code.toList x8.Code.toList) || (x.Code.toList==x8.Code.toList)))else some false)).bind fun(j9:Bool)=>(((bif j9 then((bZ s4.2 ([x]:List Site)).bind fun x13=>some (true,x13))else some (s4.1,s4.2))).bind fun(j11:Bool×(List Site))=>((at' L i4).bind fun x14=>(bif(!(x14.Code.toList==x.Code.toList))then((at' L i4).bind fun x15=>((bZ j11.2 ([x15]:List Site)).bind fun x16=>some (j11.1,x16)))else some (j11.1,j11.2)))))) (fun(s4:Bool×(List Site))=>(s4.1,s4.2)) 0 (false,([]:List Site))).bind fun(j2:Bool×(List Site))=>(bif(!j2.1)then((bZ j2.2 ([x]:List Site)).bind fun x19=>some x19)else some j2.2))=some (p5 L x):=by
 have ntk: ∀{M:List Site},(∀y∈M,ltC y x=true)->M.filter (fun s=> !(s.Code.toList==x.Code.toList))=M/\M.takeWhile (fun y=>ltC y x)=M/\M.dropWhile (fun y=>ltC y x)=[]:=fun{M} hM=>by
  refine⟨T1.2 fun y hy=> ?_,(Jo _ hM).1,(Jo _ hM).2⟩
  ·have: ¬y.Code=x.Code:=fun e=>by
    have h:=hM y hy;unfold ltC at h;rw[e,o0]at h;cases h
   have h2:(y.Code.toList==x.Code.toList)=false:=Rv.2 fun h=>this (fO.1 h);rw[h2];rfl
 obtain⟨⟨b,M⟩,h1,h2⟩:=Gv.Od (show L.length<=1000000000 by omega) (B:=fun(i4:Int) (s4:Bool×(List Site))=>(((bif(!s4.1)then((at' L i4).bind fun x8=>some ((Op.bytesLess x.Code.toList x8.Code.toList) || (x.Code.toList==x8.Code.toList)))else some false)).bind fun(j9:Bool)=>(((bif j9 then((bZ s4.2 ([x]:List Site)).bind fun x13=>some (true,x13))else some (s4.1,s4.2))).bind fun(j11:Bool×(List Site))=>((at' L i4).bind fun x14=>(bif(!(x14.Code.toList==x.Code.toList))then((at' L i4).bind fun x15=>((bZ j11.2 ([x15]:List Site)).bind fun x16=>some (j11.1,x16)))else some (j11.1,j11.2)))))) (D:=fun(s4:Bool×(List Site))=>(s4.1,s4.2)) (fun i s=>s.2.length<=i+1/\((s.1=false/\s.2=L.take i/\ ∀y∈L.take i,ltC y x=true)\/(s.1=true/\s.2=p5 (L.take i) x/\ ∃y∈L.take i,ltC y x=false))) (fun i s hi hs=>by
  have hat:at' L (i:Int)=some L[i]:=B4 hi;have htk:L.take (i+1)=L.take i++[L[i]]:=by
   rw[Td,Q0 hi];rfl
  have hlt: ∀y∈L.take i,ltC y L[i]=true:=fun y hy=>by
   obtain⟨j,hj,rfl⟩:=List.getElem_of_mem hy;rw[Rt]at hj;rw[List.getElem_take];exact Ta.1 hL j i (by omega) hi (by omega)
  obtain⟨hl1,hs⟩:=hs;generalize L[i]=y at hat htk hlt;obtain⟨b,M⟩:=s;simp only at hl1 hs;have hle:(Op.bytesLess x.Code.toList y.Code.toList || (x.Code.toList==y.Code.toList))= !ltC y x:=by
   have hc:(x.Code.toList==y.Code.toList)=(y.Code.toList==x.Code.toList):=BEq.comm;rw[hc];by_cases h:y.Code=x.Code
   ·rw[fO.2 h,Bool.or_true];unfold ltC;rw[h,o0];rfl
   ·have h2:(y.Code.toList==x.Code.toList)=false:=Rv.2 fun e=>h (fO.1 e);rw[h2,Bool.or_false];rcases uK h with h3 | h3
    ·show kU x.Code y.Code= !kU y.Code x.Code;rw[h3,uJ h3];rfl
    ·show kU x.Code y.Code= !kU y.Code x.Code;rw[h3,uJ h3];rfl
  rcases hs with⟨rfl,hM,hall⟩ | ⟨rfl,hM,z,hz,hzx⟩
  ·simp only[RU,cond_true,hat,QY,hle];cases hyx:ltC y x
   ·have hP:=ntk hall;have hMl:M.length<=i:=by
     rw[hM,Rt];omega
    have hput:p5 (L.take i++[y]) x=M++[x]++(bif !(y.Code.toList==x.Code.toList)then[y]else[]):=by
     unfold p5 kH;rw[Tj,hP.1];cases hq:(y.Code.toList==x.Code.toList)
     ·rw[SU (by simp[hq]),List.filter_nil,List.takeWhile_append_of_pos hall,List.dropWhile_append_of_pos hall,List.takeWhile_cons_of_neg (by simp[hyx]),List.dropWhile_cons_of_neg (by simp[hyx]),hM];simp
     ·rw[Tk (by simp[hq]),List.filter_nil,R4,hP.2.1,hP.2.2,hM];simp
    rw[RU,cond_true,cd (by simp;omega)];simp only[QY];cases hq:(y.Code.toList==x.Code.toList)
    ·rw[hq]at hput;simp only[RU,cond_true]at hput⊢;rw[cd (by simp;omega)];refine⟨_,rfl,by simp;omega,.inr ⟨rfl,?_,y,by rw[htk];simp,hyx⟩⟩;rw[htk,hput]
    ·rw[hq]at hput;simp only[Rs,cond_false,R4]at hput⊢;refine⟨_,rfl,by simp;omega,.inr ⟨rfl,?_,y,by rw[htk];simp,hyx⟩⟩;rw[htk,hput]
   ·have hq:(y.Code.toList==x.Code.toList)=false:=Rv.2 fun e=>by
     unfold ltC at hyx;rw[fO.1 e,o0]at hyx;cases hyx
    simp only[Rs,cond_false,QY,hq,RU,cond_true];rw[cd (by simp;omega)];refine⟨_,rfl,by simp;omega,.inl ⟨rfl,by rw[htk,hM],fun u hu=> ?_⟩⟩;rw[htk]at hu;rcases Rq.1 hu with hu | hu
    ·exact hall u hu
    ·rw[Rj.1 hu];exact hyx
  ·have hxy:ltC x y=true:=by
    by_cases h:z.Code=x.Code
    ·have:=hlt z hz;unfold ltC at this⊢;rw[h]at this;exact this
    ·rcases uK h with h3 | h3
     ·exfalso;unfold ltC at hzx;rw[h3]at hzx;cases hzx
     ·exact uI _ _ _ h3 (hlt z hz)
   have hyx:=zD _ _ hxy;have hq:(y.Code.toList==x.Code.toList)=false:=Rv.2 fun e=>by
    unfold ltC at hxy;rw[fO.1 e,o0]at hxy;cases hxy
   have hput:p5 (L.take i++[y]) x=p5 (L.take i) x++[y]:=by
    have hd: ∀{F:List Site},kH ltC (F++[y]) x=kH ltC F x++[y]:=fun{F}=>by
     unfold kH
     induction F with
     | nil=>simp[hyx]
     | cons f F ih=>
      cases hf:ltC f x
      ·simp[hf]
      ·have h1: ∀G:List Site,(f::G).takeWhile (fun y=>ltC y x)=f::G.takeWhile (fun y=>ltC y x):=fun G=>List.takeWhile_cons_of_pos (p:=fun y=>ltC y x) hf;have h2: ∀G:List Site,(f::G).dropWhile (fun y=>ltC y x)=G.dropWhile (fun y=>ltC y x):=fun G=>List.dropWhile_cons_of_pos (p:=fun y=>ltC y x) hf;rw[Sy,h1,h2,h1,h2,Sy,Sy,ih];rfl
    unfold p5;rw[Tj,SU (by simp[hq]),List.filter_nil,hd]
   simp only[Rs,cond_false,QY,hat,hq,RU,cond_true];rw[cd (by simp;omega)];exact⟨_,rfl,by simp;omega,.inr ⟨rfl,by rw[htk,hput,hM],z,by rw[htk];simp[hz],hzx⟩⟩) (s:=(false,[])) ⟨by simp,.inl ⟨rfl,by simp,by simp⟩⟩ (Q:=fun r=>r.2.length<=L.length+1/\((r.1=false/\r.2=L/\ ∀y∈L,ltC y x=true)\/(r.1=true/\r.2=p5 L x))) (fun s hs=>by
  rw[UQ]at hs;exact⟨hs.1,hs.2.imp id fun h=>⟨h.1,h.2.1⟩⟩)
 rw[h1,QY];rcases h2.2 with⟨hb,hM,hall⟩ | ⟨hb,hM⟩
 ·simp only at hb hM;have hP:=ntk hall;simp only[hb,hM,RU,cond_true];rw[cd (by simp;omega)];show some (L++[x])=_;unfold p5 kH;rw[hP.1,hP.2.1,hP.2.2]
 ·simp only at hb hM;simp only[hb,hM,Rs,cond_false]
theorem MY{d:bC}(h:ez d){c w:ByteArray}(hc:c.size<=1048576)(hw:w.size<=1048576):Did d (gz d c w) (oy d c w):=by
 obtain⟨p,e,r1,r2,r3⟩:=xY w hw;have hp:=Ja h.s;have h10:=(mg h.s).2.2;have hi:=Md h10 hp (Site.mk c p);have hs:=M5 (by omega) hp (Site.mk c p);have hlen:=LA d.Sites (Site.mk c p);have hsm: ∀x∈p5 d.Sites (Site.mk c p),zP x:=fun x hx=>by
  rcases LB hx with rfl | hx
  ·exact⟨hc⟩
  ·exact h.ss x hx
 have hA:=CE (L:=p5 d.Sites (Site.mk c p)) (by omega) hsm;have hB:=Dl (L:=p5 d.Sites (Site.mk c p)) (by omega) hsm;obtain⟨v,hv⟩:=HI (p5 d.Sites (Site.mk c p));rw[hv]at hA hB;have hfin:v=true->ez (bC.mk d.Claims (p5 d.Sites (Site.mk c p))):=fun e=>⟨h.c,h.cs,by rw[hv,e],hsm⟩;unfold gz oy;rw[r1,r2,QY,QY];rcases r3 with rfl | ⟨rfl,_⟩
 ·refine⟨d,6,rfl,by omega,?_,fun h=>by cases h⟩;have h6:(((6:Int) !=0))=true:=rfl;simp only[h6,cond_true,gn (e:=6) (by omega) (by omega),QY];rfl
 ·have h0:(((0:Int) !=0))=false:=rfl;obtain⟨l1,hl1,hl2⟩:=SZ.1 hi;obtain⟨l2,hl3,hl4⟩:=SZ.1 hl2;obtain⟨l3,hl5,hl6⟩:=SZ.1 hl4;obtain⟨⟨b,M⟩,hm1,hm2⟩:=SZ.1 hs;simp only[h0,cond_false,hl1,hl3,hl5,hl6,QY,hA];rw[hm1];simp only[QY];have hm3:(((bif(!b)then((bZ M ([Site.mk c p]:List Site)).bind fun x19=>some x19)else some M)).bind fun(j17:(List Site))=>((gX j17).bind fun x20=>(bif(!x20)then some (d,(1:Int))else some ((bC.mk d.Claims j17),0))))=(bif(!v)then some (d,(1:Int))else some ((bC.mk d.Claims (p5 d.Sites (Site.mk c p))),0)):=by
   rw[hm2,QY,hB,QY]
  unfold Did;rw[hm3];cases v
  ·refine⟨d,1,rfl,by omega,?_,fun h=>by cases h⟩;simp only[RU,cond_true,gn (e:=1) (by omega) (by omega),QY];rfl
  ·exact⟨_,0,rfl,by omega,rfl,fun _=>hfin rfl⟩
theorem lI{a b:ByteArray}(h: ¬a=b):(a.toList==b.toList)=false:=Rv.2 fun e=>h (fO.1 e)
theorem teq(a:ByteArray):(a.toList==a.toList)=true:=fO.2 rfl
def Told(i:Option ByteArray)(s:Option (ByteArray×Int)):Prop:= ∃t e,s=some (t,e)/\(0<=e/\e<=9)/\i=some (KU t e)
theorem ED{x:ByteArray}(h:1<=x.size)(c:ByteArray): ∀L:List ByteArray,1<=(dW (x::L) c).size
 | []=>by rw[gq];exact h
 | y::L=>by
  rw[e8,Q9,Q9];omega
theorem Mu(v:Int):1<=(cI v).size:=by
 rw[uM];exact T0.2 (FB v)
theorem KK(R:List Int):1<=(lF R).size:=by
 unfold lF;cases R with
 | nil=>exact Re 1
 | cons x R=>exact ED (Mu x) _ _
theorem uC{n:Nat}{R:List Int}(h:hZ n R)(hn:n<=12):R.length<=1000/\ ∀x∈R,0<=x/\x<1000000:=by
 have hl:=h.len;exact⟨by omega,fun x hx=>by have:=h.2 x hx;omega⟩
theorem It{d:bC}(h:ez d):Told (ib d) (nd d):=by
 have hc:=h.c;have h12:=(aG.1 hc).1;have hI:=DM hc;rw[K7 (sQ hc)]at hI;have hm: ∀R∈kN (gk d.Claims) d.Claims.length (d.Claims.length+1) 0 [],hZ d.Claims.length R:=fun R hR=>((Mq hc).1 hR).1;unfold ib nd rc rF;rw[jO (by omega) h.cs,mi (by omega) h.cs,hc,QY,QY,hI,K8 hc];generalize kN (gk d.Claims) d.Claims.length (d.Claims.length+1) 0 []=C at hm;simp only[Rs,cond_false,QY];by_cases h60:C.length>60
 ·have h3:((3:Int) !=0)=true:=rfl;have e0:cN (((([]:List (List Int)).length:Nat):Int)) (fun(i4:Int) (s4:(List ByteArray))=>((at' ([]:List (List Int)) i4).bind fun x8=>((fy x8).bind fun x9=>((bZ s4 ([x9]:List ByteArray)).bind fun x10=>some x10)))) (fun(s4:(List ByteArray))=>s4) 0 ([]:List ByteArray)=some []:=by
   unfold cN;rw[bR];rfl
  rw[decide_eq_true (show(C.length:Int)>60 by omega),cond_true];refine⟨_,3,rfl,by omega,?_⟩;simp only[QY,e0];have el:(((([]:List ByteArray).length:Nat):Int)==0)=true:=rfl;rw[el,cond_true];simp only[QY];rw[l8 (k:=10) (c:=QZ #[59]) (by decide) (by omega) (by decide) rfl,QY,je _ (by omega) (by omega)];rfl
 ·rw[decide_eq_false (show ¬(C.length:Int)>60 by omega),cond_false];have h0:((0:Int) !=0)=false:=rfl;have hsz: ∀R∈C,(lF R).size<=20000:=fun R hR=>by
   have:=uC (hm R hR) h12;exact IV this.1 this.2
  have e1:cN (C.length:Int) (fun(i4:Int) (s4:(List ByteArray))=>((at' C i4).bind fun x8=>((fy x8).bind fun x9=>((bZ s4 ([x9]:List ByteArray)).bind fun x10=>some x10)))) (fun(s4:(List ByteArray))=>s4) 0 ([]:List ByteArray)=some (C.map lF):=by
   rw[oh (by omega) (fun R=>some (lF R)) (fun i R s hR hs=>by
    have:=uC (hm R (Q3 hR)) h12;rw[aF,hR,QY,xF this.1 this.2,QY,cd (by simp;omega)];rfl)]
   congr 1;exact congrFun (List.filterMap_eq_map (f:=lF)) C
  have e2:cN (C.length:Int) (fun(i4:Int) (s4:ByteArray)=>(((bif(decide (i4>0))then((bU s4 (QZ #[59])).bind fun x10=>some x10)else some s4)).bind fun(j8:ByteArray)=>((at' C i4).bind fun x11=>((iS x11).bind fun x12=>((bU j8 x12).bind fun x13=>some x13))))) (fun(s4:ByteArray)=>s4) 0 (QZ #[])=some (dW (C.map lF) (QZ #[59])):=by
   rw[uE (k:=20000) (t:=lF) (c:=QZ #[59]) (by omega) (by omega) (by decide) hsz (fun i R s hR hs=>by
    have h1:=uC (hm R (Q3 hR)) h12;have h2:=hsz R (Q3 hR);have hat:at' C (i:Int)=some R:=by rw[aF,hR]
    have hc:(QZ #[59]).size=1:=rfl;simp only[hat,QY,yq h1.1 h1.2];cases decide ((i:Int)>0)
    ·rw[cond_false,QY,cg (by omega)];rfl
    ·rw[cond_true,cg (by omega),QY,QY,cg (by rw[Q9];omega)];rfl)]
  simp only[h0,cond_false,e1,e2,QY,Rp];cases hC:C with
  | nil=>
   have el:(((([]:List (List Int)).length:Nat):Int)==0)=true:=rfl;have ej:dW (List.map lF []) (QZ #[59])=QZ #[]:=rfl;refine⟨QZ #[45],0,?_,by omega,?_⟩
   ·rw[ej,teq,cond_true]
   ·rw[el,cond_true,QY,l8 (k:=10) (c:=QZ #[59]) (by decide) (by omega) (by decide) rfl,QY,je _ (by omega) (by omega),gq];rfl
  | cons R C'=>
   have hsz': ∀x∈(R::C').map lF,x.size<=20000:=fun x hx=>by
    obtain⟨Q,hQ,rfl⟩:=Rh.1 hx;exact hsz Q (hC▸hQ)
   have hl:((R::C').map lF).length<=1000:=by
    rw[Rp,<-hC];omega
   have el:((((R::C').length:Nat):Int)==0)=false:=by
    rw[beq_eq_false_iff_ne,Rc];omega
   have hp:=ED (KK R) (QZ #[59]) (C'.map lF);have ej:((dW ((R::C').map lF) (QZ #[59])).toList==(QZ #[]).toList)=false:=lI fun e=>by
    rw[Sq]at e;rw[e]at hp;exact absurd hp (by decide)
   refine⟨dW ((R::C').map lF) (QZ #[59]),0,?_,by omega,?_⟩
   ·rw[ej,cond_false]
   ·rw[el,cond_false,QY,l8 (k:=20000) (c:=QZ #[59]) hl (by omega) hsz' rfl,QY,je _ (by omega) (by omega)];rfl
theorem Hw{d:bC}(h:ez d):Told ((lg d.Claims).bind fun x5=>((fy x5.1).bind fun x6=>cL x6 x5.2.2)) ((ll d.Claims).bind fun x5=>((iS x5.1).bind fun x6=>some (x6,x5.2.2))):=by
 have hc:=h.c;have h12:=(aG.1 hc).1;obtain⟨b,b1,b2,b3,_⟩:=Jz hc;have hs:=uC b3 h12;unfold lg ll;rw[jO (by omega) h.cs,mi (by omega) h.cs,hc];simp only[QY,Rs,cond_false,b1,b2,uW hc b3,xF hs.1 hs.2,yq hs.1 hs.2];exact⟨_,0,rfl,by omega,je _ (by omega) (by omega)⟩
theorem Ls{s:ByteArray}(h:da s=true):s.size<=16:=(rR h).2
theorem FW{d:bC}(h:ez d):Told ((cD d.Claims).bind fun x8=>((strings_Join x8.1 (QZ #[44])).bind fun x9=>cL x9 x8.2)) (lr d):=by
 obtain⟨S,c,s1,s2,s3,s4,s5⟩:=Jf h.c h.cs;have hz: ∀s∈S,s.size<=16:=fun s hs=>by
  obtain⟨x,hx,rfl⟩:=Rh.1 (s5 s hs);exact Ls (nj ((aG.1 h.c).2 x hx)).s
 have hc:0<=c/\c<=9:=by omega
 unfold lr;rw[s1,s2,QY,QY];simp only;rw[l8 (k:=16) (c:=QZ #[44]) (by omega) (by omega) hz rfl,QY,je _ hc.1 hc.2];rw[uE (k:=16) (t:=fun x=>x) (c:=QZ #[44]) (by omega) (by omega) (by decide) hz (fun i x s hx hs=>by
  have h2:=hz x (Q3 hx);have hat:at' S (i:Int)=some x:=by rw[aF,hx]
  have hc:(QZ #[44]).size=1:=rfl;simp only[hat,QY];cases decide ((i:Int)>0)
  ·rw[cond_false,QY,cg (by omega)];rfl
  ·rw[cond_true,cg (by omega),QY,QY,cg (by rw[Q9];omega)];rfl),List.map_id',QY]
 exact⟨_,c,rfl,hc,rfl⟩
theorem B5(L:List Claim)(b:List Int)(k:Int)(p:ByteArray)(y:Int):0<=(qn L b k p y).2/\(qn L b k p y).2<=9:=by
 have ha:0<=abC L p y/\abC L p y<=9:=by
  unfold abC;cases bf L&&da p
  ·exact⟨show(0:Int)<=1 by omega,show(1:Int)<=9 by omega⟩
  ·cases inB y (-3000) 3000
   ·exact⟨show(0:Int)<=2 by omega,show(2:Int)<=9 by omega⟩
   ·exact⟨show(0:Int)<=0 by omega,show(0:Int)<=9 by omega⟩
 unfold qn;cases abC L p y !=0
 ·rw[cond_false];cases tel (lE L b) k p y
  ·exact⟨show(0:Int)<=4 by omega,show(4:Int)<=9 by omega⟩
  ·exact⟨show(0:Int)<=0 by omega,show(0:Int)<=9 by omega⟩
 ·rw[cond_true];exact ha
theorem KS{d:bC}(h:ez d){p:ByteArray}(hp:p.size<=1048576)(y:Int):Told ((kP d.Claims p y).bind fun x5=>cL x5.1 x5.2) (kW d.Claims p y)/\Told ((ja d.Claims p y).bind fun x5=>cL x5.1 x5.2) (jg d.Claims p y):=by
 have h12:=(aG.1 h.c).1;obtain⟨b,hb⟩:=NJ d.Claims;obtain⟨n1,n2⟩:=Im (by omega) h.cs hp y hb;obtain⟨m1,m2⟩:=E8 (by omega) h.cs hp y hb;have k1:=B5 d.Claims b 0 p y;have k2:=B5 d.Claims b 1 p y;rw[n1,n2,m1,m2,QY,QY,je _ k1.1 k1.2,je _ k2.1 k2.2];exact⟨⟨_,_,rfl,k1,rfl⟩,⟨_,_,rfl,k2,rfl⟩⟩
theorem I4(a b:aH):lX [a,b]=some (jr a&&jr b):=by
 unfold lX;rw[jd (L:=[a,b]) (by simp) (fun x=> !jr x) false (fun i x hx=>by
  rw[aF,hx,QY,xG,QY])]
 cases ha:jr a<;>cases hb:jr b<;>simp[ha,hb]
theorem Ny{p q:aH}(d:bC)(hp:jr p=true)(hq:jr q=true):Told (jx d p q) (bif((p.X==q.X)&&(p.Y==q.Y))then some ((QZ #[]),5)else((df p q).bind fun x10=>((fq x10).bind fun x11=>some (x11,0)))):=by
 unfold jx mN;rw[I4,hp,hq];cases he:((p.X==q.X)&&(p.Y==q.Y))
 ·have hne: ¬(q.X=p.X/\q.Y=p.Y):=fun e=>by
   rw[e.1,e.2,beq_self_eq_true,beq_self_eq_true]at he;cases he
  have hr:=vO (q.X - p.X) (q.Y - p.Y);obtain⟨w1,_,_,_⟩:=wV hr.1 hr.2;have hw:fq (p6 (q.X - p.X) (q.Y - p.Y))=some (mz (p6 (q.X - p.X) (q.Y - p.Y))):=by
   show((at' cX (p6 (q.X - p.X) (q.Y - p.Y))).bind fun x1=>some x1)=_;rw[w1];rfl
  simp only[Uo,Rs,cond_false,QY,RH,GR hp hq hne,HN hp hq,w1,hw,je _ (show(0:Int)<=0 by omega) (show(0:Int)<=9 by omega)];exact⟨_,0,rfl,by omega,rfl⟩
 ·obtain⟨w1,_,_,_⟩:=wV (i:=0) (by omega) (by omega);simp only[Uo,Rs,cond_false,cond_true,QY,RB,w1,je _ (show(0:Int)<=5 by omega) (show(5:Int)<=9 by omega)];exact⟨_,5,rfl,by omega,rfl⟩
theorem H3{d:bC}(h:ez d){x a b:ByteArray}(hx:x=wS\/x=vt):Told (dK d [x,a,b]) (nL d [x,a,b]):=by
 have hs:=mg h.s;have a0:at' [x,a,b] 0=some x:=rfl;have a1:at' [x,a,b] 1=some a:=rfl;have a2:at' [x,a,b] 2=some b:=rfl;unfold dK nL;simp only[a0,a1,a2,QY,pD hs.2.2 hs.1,tH (L:=d.Sites) (by omega),C1,qC];cases hA:d.Sites.any (gO a)
 ·simp only[RU,Bool.true_or,cond_true,gn (e:=4) (by omega) (by omega),QY,RB];exact⟨_,4,rfl,by omega,rfl⟩
 cases hB:d.Sites.any (gO b)
 ·simp only[RU,Rs,Bool.or_true,cond_true,gn (e:=4) (by omega) (by omega),QY,RB];exact⟨_,4,rfl,by omega,rfl⟩
 obtain⟨s,s1,s2,s3⟩:=uR hA;obtain⟨t,t1,t2,t3⟩:=uR hB;have hp:=(hs.2.1 s s1).2;have hq:=(hs.2.1 t t1).2;have hb:=yt hp hq;simp only[Rs,Bool.or_self,cond_false,s2,s3,t2,t3,QY];rcases hx with rfl | rfl
 ·obtain⟨t,e,w1,w2,w3⟩:=Ny d hp hq;have f1:(wS.toList==(QZ #[102,97,114]).toList)=false:=lI (by decide);rw[teq,f1,cond_true,cond_false,w3,w1];exact⟨t,e,rfl,w2,rfl⟩
 ·have f1:(vt.toList==(QZ #[119,97,121]).toList)=false:=lI (by decide);have f2:(vt.toList==(QZ #[102,97,114]).toList)=true:=teq _;rw[f1,f2,cond_true,cond_false,BE hp hq,F2 hp hq];simp only[QY,RH];rw[kR _ (by omega) (by omega),im (by omega) (by omega)];exact⟨_,0,rfl,by omega,rfl⟩
theorem I8{d:bC}(h:ez d){x:ak}(hx:eE x=true)(hz:DY x){p:aH}(hp:jr p=true): ∃b e,kk d.Sites x p=some (b,e)/\ku d.Sites x p=some (b,e)/\(0<=e/\e<=9)/\(b=true->e=0):=by
 have hs:=mg h.s;have hc:=zx (ds:=[x]) (by omega) h.ss (by simp) (fun y hy=>by rw[Rj.1 hy];exact hz) true h.s;have hd:=zY (ds:=[x]) (by omega) h.ss (by simp) (fun y hy=>by rw[Rj.1 hy];exact hz) h.s;have hcode:Et d.Sites [x] true true=bif zA d.Sites x then 4 else 0:=by
  unfold Et;simp[hx]
 rw[hcode]at hc hd;unfold kk ku;rw[xG,BR,hp];simp only[QY,Rs,cond_false,hc,hd];cases hl:zA d.Sites x
 ·have h0:((0:Int) !=0)=false:=rfl;simp only[cond_false,h0,Mf hs.2.2 hs.1 hs.2.1 hx hl hp,M6 hs.2.2 hs.2.1 hz.u hx hl hp,QY];exact⟨_,0,rfl,rfl,by omega,fun _=>rfl⟩
 ·have h4:((4:Int) !=0)=true:=rfl;simp only[cond_true,h4];exact⟨false,4,rfl,rfl,by omega,fun h=>by cases h⟩
theorem Nz{R:List ByteArray}(hl:R.length<=10)(hR: ∀x∈R,x.size<=10000):strings_Join R (QZ #[32])=some (dW R (QZ #[32]))/\nc R=some (dW R (QZ #[32]))/\(dW R (QZ #[32])).size<=1048576:=by
 have hz:=ly (QZ #[32]) R hR;have h1:(QZ #[32]).size=1:=rfl;have h2:R.length*(10000+(QZ #[32]).size)<=10*(10000+1):=Nat.mul_le_mul hl (by omega);refine⟨l8 (k:=10000) (by omega) (by omega) hR rfl,?_,by omega⟩;unfold nc;rw[uE (k:=10000) (t:=fun x=>x) (c:=QZ #[32]) (by omega) (by omega) (by decide) hR (fun i x s hx hs=>by
  have h2:=hR x (Q3 hx);have hat:at' R (i:Int)=some x:=by rw[aF,hx]
  simp only[hat,QY];cases decide ((i:Int)>0)
  ·rw[cond_false,QY,cg (by omega)];rfl
  ·rw[cond_true,cg (by omega),QY,QY,cg (by rw[Q9];omega)];rfl),List.map_id',QY]
theorem Lj{d:bC}(h:ez d){x w:ByteArray}{R:List ByteArray}(hl:R.length<=10)(hw:w.size<=10000)(hR: ∀x∈R,x.size<=10000):Told (iK d (w::R)) (oA d (x::w::R)):=by
 obtain⟨p,e,p1,p2,p3⟩:=xY w (by omega);obtain⟨j1,j2,j3⟩:=Nz hl hR;obtain⟨t,f,t1,t2,t3⟩:=Ht _ j3;have a0:at' (w::R) 0=some w:=rfl;have a1:at' (x::w::R) 1=some w:=rfl;have q1:eX (w::R) 1 ((w::R).length:Int)=some R:=by
  rw[kr (by omega) (by rw[Rc];omega) (by omega)];simp
 have q2:eX (x::w::R) 2 ((x::w::R).length:Int)=some R:=by
  rw[kr (by omega) (by rw[Rc,Rc];omega) (by omega),show(((x::w::R).length:Nat):Int).toNat=R.length+2 from Rk _];show some (List.take (R.length+2 - 2) R)=some R;rw[RF (by omega)]
 have h6:((6:Int) !=0)=true:=rfl;have h0:((0:Int) !=0)=false:=rfl;unfold iK oA;simp only[a0,a1,QY,p1,p2];rcases p3 with rfl | ⟨rfl,p3⟩
 ·simp only[h6,cond_true,gn (e:=6) (by omega) (by omega),QY];exact⟨_,6,rfl,by omega,rfl⟩
 simp only[h0,cond_false,q1,q2,QY,j1,j2,t1,t2];rcases t3 with rfl | ⟨rfl,t3,t4⟩
 ·simp only[h6,cond_true,gn (e:=6) (by omega) (by omega),QY];exact⟨_,6,rfl,by omega,rfl⟩
 obtain⟨b,g,s1,s2,s3,s4⟩:=I8 h t3 t4 p3;simp only[h0,cond_false,s1,s2,QY];cases b
 ·simp only[cond_false,je _ s3.1 s3.2,QY];exact⟨_,g,rfl,s3,rfl⟩
 ·have:=s4 rfl;subst this;exact⟨_,0,rfl,s3,rfl⟩
theorem Ii{a b:ByteArray}(ha:a.size<=10000)(hb:b.size<=10000):Told ((jy a b).bind fun x21=>((cj x21.1).bind fun x22=>cL x22 x21.2)) ((jC a b).bind fun x15=>((bT x15.1).bind fun x16=>some (x16,x15.2))):=by
 have hb2:=GD a b;have hd1:eW a b=some (LX a b):=KA a b (by omega) (by omega);have hd2:fK a b=some (LX a b):=Lb a b (by omega) (by omega);have hw:gQ [a,b]=some ([a,b].all da):=mO [a,b] (by simp) (fun x hx=>by
  simp only[Ra,Sg,or_false]at hx;unfold maxLen;rcases hx with rfl | rfl<;>omega)
 have hs:pS a b=some (bif[a,b].all da then 0 else 1):=by
  unfold pS;rw[iE a (by unfold maxLen;omega),iE b (by unfold maxLen;omega)];cases h1:da a<;>cases h2:da b<;>simp[h1,h2]
 unfold jy jC;rw[hw,hs];cases [a,b].all da
 ·have h1:((1:Int) !=0)=true:=rfl;simp only[QY,RU,cond_true,cond_false,h1];rw[kR _ (by omega) (by omega),im (by omega) (by omega),QY,QY,je _ (by omega) (by omega)];exact⟨_,1,rfl,by omega,rfl⟩
 ·have h0:((0:Int) !=0)=false:=rfl;simp only[QY,Rs,cond_true,cond_false,h0,hd1,hd2];rw[kR _ (by omega) (by omega),im (by omega) (by omega),QY,QY,je _ (by omega) (by omega)];exact⟨_,0,rfl,by omega,rfl⟩
theorem PT{a b:ByteArray}:(a.toList==b.toList)=decide (a=b):=by
 have h:(a.toList==b.toList)=true↔a=b:=by
  rw[beq_iff_eq,toList_eq,toList_eq];constructor
  ·intro h;have h2:=TK.1 h;cases a;cases b;simp at h2;rw[h2]
  ·intro h;rw[h]
 by_cases hab:a=b
 ·rw[h.2 hab,decide_eq_true hab]
 ·rw[decide_eq_false hab];exact Rv.2 fun e=>hab (h.1 e)
theorem Ek(s:ByteArray)(hs:s.size<4294967296):strings_TrimSuffix s (QZ #[10])=some ⟨(nX s.data.toList).toArray⟩:=by
 have hsl:s.data.toList.length=s.size:=ik s;have h1:(QZ #[10]).size=1:=rfl;unfold strings_TrimSuffix ea ek;rw[h1];rcases Tu s.size with h0 | h0
 ·have hd:decide ((s.size:Int)>=((1:Nat):Int))=false:=decide_eq_false (by omega);rw[hd];have hn:s.data.toList=[]:=RM (by omega);have hse:s=⟨#[]⟩:=by
   cases s with
   | mk d=>simp at hn;rw[hn]
  subst hse;rfl
 ·have hd:decide ((s.size:Int)>=((1:Nat):Int))=true:=decide_eq_true (by omega);have hw:ao ((s.size:Int)-((1:Nat):Int))=((s.size - 1:Nat):Int):=by
   rw[aO (by omega) (by omega)];omega
  rw[hd,hw,Ac (by omega) (Re _)];obtain⟨l,c,hl⟩: ∃l c,s.data.toList=l++[c]:=by
   rcases SM s.data.toList with h | ⟨l,c,h⟩
   ·rw[h]at hsl;simp at hsl;omega
   ·exact⟨l,c,by simpa using h⟩
  have hll:l.length=s.size - 1:=by
   rw[hl]at hsl;simp at hsl;omega
  have e1:(s.data.toList.drop (s.size - 1)).take (s.size -(s.size - 1))=[c]:=by
   rw[hl,<-hll,UB,RF];simp;omega
  rw[e1];simp only[cond_true,QY];rw[PT];by_cases hc:c=10
  ·subst hc;have hz:(0:Int)=((0:Nat):Int):=rfl;rw[decide_eq_true rfl,cond_true,hz,Ac (R0 _) (by omega),hl,Dw,TL,TW,<-hll,List.take_left];rfl
  ·have hne: ¬(QZ [c].toArray=QZ #[10]):=fun e=>hc (by
    injection e with e;simpa using e)
   rw[decide_eq_false hne,cond_false];have ht:nX s.data.toList=s.data.toList:=by
    unfold nX;rw[hl];simp[hc]
   rw[ht];simp
def Dv(l:List UInt8):ByteArray:=⟨l.toArray⟩
theorem GZ(s:ByteArray)(hs:s.size<=4294967280):gZ s=some ((qx (bo 10 s.data.toList)).map Dv):=by
 have h1:bG s 10=some (aZ s 10):=dj s 10 hs;have hlen:(aZ s 10).length=(bo 10 s.data.toList).length:=by simp[aZ]
 have hl2:=rM 10 s.data.toList;have hcnt:s.data.toList.count 10<=s.size:=by rw[<-ik s];exact List.count_le_length
 have hpos:0<(aZ s 10).length:=by omega
 have hw:ao (((aZ s 10).length:Int)- 1)=(((aZ s 10).length - 1:Nat):Int):=by
  rw[aO (by omega) (by omega)];omega
 unfold gZ;rw[h1];simp only[QY];rw[hw,B4 (by omega)];simp only[QY];rw[PT];obtain⟨L,x,hL⟩: ∃L x,bo 10 s.data.toList=L++[x]:=by
  rcases SM (bo 10 s.data.toList)with h | ⟨L,x,h⟩
  ·exact absurd h (kF 10 _)
  ·exact⟨L,x,by simpa using h⟩
 have hS:aZ s 10=L.map Dv++[Dv x]:=by
  show(bo 10 s.data.toList).map Dv=_;rw[hL];simp
 have hn:(aZ s 10).length - 1=(L.map Dv).length:=by
  rw[hS];simp
 have hget:(aZ s 10)[(aZ s 10).length - 1]'(by omega)=Dv x:=by
  have h2:(aZ s 10)[(aZ s 10).length - 1]? =some (Dv x):=by
   rw[hn,hS,Q6 (Re _),Tp];rfl
  rw[Q0 (by omega)]at h2;injection h2
 rw[hget,hL];unfold qx;by_cases hx:x=[]
 ·subst hx;have hd:decide (Dv []=QZ #[])=true:=decide_eq_true rfl;rw[hd,cond_true,kr (by omega) (by omega) (by omega)];simp only[QY];rw[if_pos (by simp),List.dropLast_concat,Rk,hn,hS];simp
 ·have hd:decide (Dv x=QZ #[])=false:=decide_eq_false fun e=>hx (by
   unfold Dv at e;injection e with e;simpa using e)
  rw[hd,cond_false,if_neg (by simpa using hx),hS];simp
theorem ki{α β:Type}(o:Option (α×β)):(o.bind fun x=>some (x.1,x.2))=o:=by cases o<;>rfl
theorem LK{d:bC}(h:ez d){W:List ByteArray}{n:Int}(hs:Shape W n)(hW: ∀y∈W,y.size<=10000)(hx: ∀x∈W.head?,x≠rO/\x≠vG/\x≠sf):Told (fu d W) (iF d W n):=by
 cases hs with
 | one x n hx1=>
  have a0:at' [x] 0=some x:=rfl;unfold fu iF;simp only[a0,QY];rcases hx1 with rfl | rfl | rfl
  ·simp only[teq,cond_true,Sk,QY,RB,SG,ki];exact It h
  ·have f1:(nh.toList==qj.toList)=false:=lI (by decide);simp only[f1,teq,cond_true,cond_false,Sk,QY,RB,SG,ki];exact Hw h
  ·have f1:(k9.toList==qj.toList)=false:=lI (by decide);have f2:(k9.toList==nh.toList)=false:=lI (by decide);simp only[f1,f2,teq,cond_true,cond_false,Sk,QY,RB,SG,ki];exact FW h
 | claim a n=>exact absurd rfl (hx rO rfl).1
 | drop a n=>exact absurd rfl (hx vG rfl).2.1
 | told x a b n hx1 hn=>
  have a0:at' [x,a,b] 0=some x:=rfl;have a1:at' [x,a,b] 1=some a:=rfl;have a2:at' [x,a,b] 2=some b:=rfl;have hb:=hW b (by simp);have ht:=KS h (p:=a) (by have:=hW a (by simp);omega) n;have hcn:cT b=some (n,(gG b).2&&decide ((if b.data.toList.head?=some 45 then(b.size:Int)- 1 else b.size)<=13)):=by
   rw[uN b (by omega),hn]
  unfold fu iF oW;simp only[a0,a1,a2,QY,hcn];rcases hx1 with rfl | rfl
  ·have f1:(um.toList==qj.toList)=false:=lI (by decide);have f2:(um.toList==nh.toList)=false:=lI (by decide);have f3:(um.toList==k9.toList)=false:=lI (by decide);simp only[f1,f2,f3,teq,cond_true,cond_false,Sk,QY,RB,SG,ki];exact ht.1
  ·have f1:(mx.toList==qj.toList)=false:=lI (by decide);have f2:(mx.toList==nh.toList)=false:=lI (by decide);have f3:(mx.toList==k9.toList)=false:=lI (by decide);have f4:(mx.toList==um.toList)=false:=lI (by decide);simp only[f1,f2,f3,f4,teq,cond_true,cond_false,Sk,QY,RB,SG,ki];exact ht.2
 | two x a b n hx1=>
  have a0:at' [x,a,b] 0=some x:=rfl;have a1:at' [x,a,b] 1=some a:=rfl;have a2:at' [x,a,b] 2=some b:=rfl;have ha:=hW a (by simp);have hb:=hW b (by simp);unfold fu iF;simp only[a0,a1,a2,QY];rcases hx1 with rfl | rfl | rfl | rfl
  ·exact absurd rfl (hx sf rfl).2.2
  ·have f1:(wS.toList==qj.toList)=false:=lI (by decide);have f2:(wS.toList==nh.toList)=false:=lI (by decide);have f3:(wS.toList==k9.toList)=false:=lI (by decide);have f4:(wS.toList==um.toList)=false:=lI (by decide);have f5:(wS.toList==mx.toList)=false:=lI (by decide);have f6:(wS.toList==od.toList)=false:=lI (by decide);have f7:(wS.toList==mU.toList)=false:=lI (by decide);simp only[f1,f2,f3,f4,f5,f6,f7,teq,cond_true,cond_false,Sk,QY,RB,RH,SG,ki];exact H3 h (.inl rfl)
  ·have f1:(vt.toList==qj.toList)=false:=lI (by decide);have f2:(vt.toList==nh.toList)=false:=lI (by decide);have f3:(vt.toList==k9.toList)=false:=lI (by decide);have f4:(vt.toList==um.toList)=false:=lI (by decide);have f5:(vt.toList==mx.toList)=false:=lI (by decide);have f6:(vt.toList==od.toList)=false:=lI (by decide);have f7:(vt.toList==mU.toList)=false:=lI (by decide);have f8:(vt.toList==wS.toList)=false:=lI (by decide);simp only[f1,f2,f3,f4,f5,f6,f7,f8,teq,cond_true,cond_false,Sk,QY,RB,RH,SG,ki];exact H3 h (.inr rfl)
  ·have f1:(mU.toList==qj.toList)=false:=lI (by decide);have f2:(mU.toList==nh.toList)=false:=lI (by decide);have f3:(mU.toList==k9.toList)=false:=lI (by decide);have f4:(mU.toList==um.toList)=false:=lI (by decide);have f5:(mU.toList==mx.toList)=false:=lI (by decide);have f6:(mU.toList==od.toList)=false:=lI (by decide);have f7:(mU.toList==vt.toList)=false:=lI (by decide);have f8:(mU.toList==wS.toList)=false:=lI (by decide);simp only[f1,f2,f3,f4,f5,f6,f7,f8,teq,cond_true,cond_false,Sk,QY,RB,RH,SG,ki];exact Ii ha hb
 | test M n hM=>
  have a0:at' (od::M) 0=some od:=rfl;have f1:(od.toList==qj.toList)=false:=lI (by decide);have f2:(od.toList==nh.toList)=false:=lI (by decide);have f3:(od.toList==k9.toList)=false:=lI (by decide);have f4:(od.toList==um.toList)=false:=lI (by decide);have f5:(od.toList==mx.toList)=false:=lI (by decide);have f7:(od.toList==vt.toList)=false:=lI (by decide);have f8:(od.toList==wS.toList)=false:=lI (by decide);have q1:eX (od::M) 1 ((od::M).length:Int)=some M:=by
   rw[kr (by omega) (by rw[Rc];omega) (by omega)];simp
  unfold fu iF;simp only[a0,q1,f1,f2,f3,f4,f5,f7,f8,teq,cond_true,cond_false,Sk,QY,RB,SG,ki];cases M with
  | nil=>simp at hM
  | cons w R=>
   rw[Rc]at hM;exact Lj h (by omega) (hW w (by simp)) (fun y hy=>hW y (by simp[hy]))
theorem Mo{d:bC}(h:ez d){l:ByteArray}(hl:l.size<=10000): ∃d' t,cC d l=some (t,d')/\iG d l=some (d',t)/\ez d':=by
 have hsl:=rN l 32;have h1:strings_Split l (QZ #[32])=some (aZ l 32):=by
  unfold strings_Split;have h:(QZ #[32]).data.toList=[32]:=rfl;rw[h];dsimp only;rw[decide_eq_true (by omega),cond_true]
 have h2:bG l 32=some (aZ l 32):=dj l 32 (by omega);have hz: ∀y∈aZ l 32,y.size<=10000:=fun y hy=>by have:=eR hy;omega
 have hne:=zZ l 32;unfold cC iG kZ;rw[h1,h2];generalize aZ l 32=W at hsl hz hne;cases W with
 | nil=>exact absurd rfl hne
 | cons x M=>
  obtain⟨b,V,n,b1,b2,b3⟩:=Es (x:=x) (M:=M) (by omega) (fun y hy=>by have:=hz y hy;omega);have b2':((iW (x::M)).bind fun x2=>(bif(x2.toList==(QZ #[45]).toList)then some (([]:List ByteArray),(0:Int),false)else(((cN (x2.size:Int) (fun(i5:Int) (s5:Int×Bool)=>((cG x2 i5).bind fun x9=>(bif(x9==73)then((at' (x::M) (ao (i5+1))).bind fun x10=>((bE x10).bind fun x11=>some (x11.1,x11.2)))else(bif(x9==74)then((at' (x::M) (ao (i5+1))).bind fun x12=>((bu x12).bind fun x13=>some (x13.1,x13.2)))else some (s5.1,s5.2))))) (fun(s5:Int×Bool)=>(s5.1,s5.2)) 0 (0,true))).bind fun(j3:Int×Bool)=>some ((x::M),j3.1,j3.2))))=some (V,n,b):=b2;simp only[QY,b1,b2'];have hfail: ∀{e:Int},0<=e->e<=9->((bT e).bind fun x2=>((bU (QZ #[101,114,114,111,114,32]) x2).bind fun x3=>some (d,x3)))=some (d,va e):=fun{e} h0 h9=>by
   have:=Kw h0 h9;have h3:((bT e).bind fun x2=>((bU (QZ #[101,114,114,111,114,32]) x2).bind fun x3=>some (d,x3)))=(((bT e).bind fun x18=>bU OM x18).bind fun x3=>some (d,x3)):=by rw[Sk]
   rw[h3,this];rfl
  cases b
  ·simp only[RU,cond_true,hfail (e:=6) (by omega) (by omega),gn (e:=6) (by omega) (by omega),QY];exact⟨d,_,rfl,rfl,h⟩
  ·obtain⟨rfl,hs⟩:=b3 rfl;simp only[Rs,cond_false];have a0:at' (x::M) 0=some x:=rfl;simp only[a0,QY];have hdid: ∀{i:Option (ByteArray×bC)} {s:Option (bC×Int)},Did d i s-> ∃d' t,i=some (t,d')/\(s.bind fun x8=>(bif(x8.2 !=0)then((bT x8.2).bind fun x18=>((bU (QZ #[101,114,114,111,114,32]) x18).bind fun x19=>some (d,x19)))else some (x8.1,okT)))=some (d',t)/\ez d':=fun{i s} hd=>by
    obtain⟨d',e,e1,e2,e3,e4⟩:=hd;rw[e1,e3,QY,hfail e2.1 e2.2];unfold KU;cases he:(e !=0)
    ·have:e=0:=by simpa using he
     exact⟨d',okT,rfl,rfl,e4 this⟩
    ·exact⟨d,va e,rfl,rfl,h⟩
   have hask:(x≠rO/\x≠vG/\x≠sf)-> ∃t,fu d (x::M)=some t/\((iF d (x::M) n).bind fun x8=>(bif(x8.2 !=0)then((bT x8.2).bind fun x18=>((bU (QZ #[101,114,114,111,114,32]) x18).bind fun x19=>some (d,x19)))else some (d,x8.1)))=some (d,t):=fun hx=>by
    obtain⟨t,e,e1,e2,e3⟩:=LK h hs hz (fun y hy=>by
     have:x=y:=by simpa using hy
     rw[<-this];exact hx)
    rw[e1,QY,hfail e2.1 e2.2];refine⟨_,e3,?_⟩;unfold KU;cases e !=0<;>rfl
   by_cases c1:x=rO
   ·subst c1;cases hs with
    | one _ _ hx=>rcases hx with hx | hx | hx<;>exact absurd hx (by decide)
    | told _ a b _ hx _=>rcases hx with hx | hx<;>exact absurd hx (by decide)
    | two _ a b _ hx=>rcases hx with hx | hx | hx | hx<;>exact absurd hx (by decide)
    | claim a n=>
     have a1:at' [rO,a] 1=some a:=rfl;obtain⟨d',t,e1,e2,e3⟩:=hdid (Kl h (w:=a) (by have:=hz a (by simp);omega));simp only[teq,cond_true,a1,Sk,QY,RB,e1];exact⟨d',t,rfl,e2,e3⟩
   by_cases c2:x=vG
   ·subst c2;cases hs with
    | one _ _ hx=>rcases hx with hx | hx | hx<;>exact absurd hx (by decide)
    | told _ a b _ hx _=>rcases hx with hx | hx<;>exact absurd hx (by decide)
    | two _ a b _ hx=>rcases hx with hx | hx | hx | hx<;>exact absurd hx (by decide)
    | drop a n hn h0 h9=>
     have f1:(vG.toList==rO.toList)=false:=lI (by decide);have f2:(vG.toList==sf.toList)=false:=lI (by decide);have a1:at' [vG,a] 1=some a:=rfl;obtain⟨hd,⟨e,d2⟩,hx⟩:=LY h (w:=a) (by have:=hz a (by simp);omega) hn h0 h9;obtain⟨d',t,e1,e2,e3⟩:=hdid hd;have hx2:=hx;unfold JE at hx2;rw[hx]at e2;simp only[f1,f2,teq,cond_true,cond_false,a1,QY,e1,hx2,RB];exact⟨d',t,rfl,e2,e3⟩
   by_cases c3:x=sf
   ·subst c3;cases hs with
    | one _ _ hx=>rcases hx with hx | hx | hx<;>exact absurd hx (by decide)
    | told _ a b _ hx _=>rcases hx with hx | hx<;>exact absurd hx (by decide)
    | two _ a b _ hx=>
     have f1:(sf.toList==rO.toList)=false:=lI (by decide);have f2:(sf.toList==vG.toList)=false:=lI (by decide);have a1:at' [sf,a,b] 1=some a:=rfl;have a2:at' [sf,a,b] 2=some b:=rfl;obtain⟨d',t,e1,e2,e3⟩:=hdid (MY h (c:=a) (w:=b) (by have:=hz a (by simp);omega) (by have:=hz b (by simp);omega));simp only[f1,f2,teq,cond_true,cond_false,a1,a2,Sk,QY,RB,e1];exact⟨d',t,rfl,e2,e3⟩
   obtain⟨t,t1,t2⟩:=hask ⟨c1,c2,c3⟩;have f1:=lI c1;have f2:=lI c2;have f3:=lI c3;simp only[f1,f2,f3,cond_false,Sk,QY,RH,t1];exact⟨d,t,rfl,t2,h⟩
def pn(d:bC)(l:ByteArray):bC×ByteArray:=(iG d l).getD (d,QZ #[])
theorem step_eq{d:bC}(h:ez d){l:ByteArray}(hl:l.size<=10000):cC d l=some ((pn d l).2,(pn d l).1)/\iG d l=some (pn d l)/\ez (pn d l).1:=by
 obtain⟨d',t,e1,e2,e3⟩:=Mo h hl;have:pn d l=(d',t):=by
  unfold pn;rw[e2];rfl
 rw[this];exact⟨e1,e2,e3⟩
def stepG(s:bC×List ByteArray)(l:ByteArray):bC×List ByteArray:=((pn s.1 l).1,s.2++[(pn s.1 l).2])
def mQ(M:List ByteArray):bC×List ByteArray:=M.foldl stepG (bC.mk [] [],[])
theorem HO{M:List ByteArray}(hM:M.length<=1000)(hz: ∀l∈M,l.size<=10000):nK M=some (mQ M)/\ez (mQ M).1/\(mQ M).2.length=M.length:=by
 obtain⟨h1,h2⟩:=Fq (L:=M) (by omega) (B:=fun(i4:Int) (s4:bC×(List ByteArray))=>((at' M i4).bind fun x8=>((iG s4.1 x8).bind fun x9=>((bZ s4.2 ([x9.2]:List ByteArray)).bind fun x10=>some (x9.1,x10))))) (D:=fun(s4:bC×(List ByteArray))=>(s4.1,s4.2)) (fun i s=>ez s.1/\s.2.length=i) stepG (s:=(bC.mk [] [],[])) (fun i l s hl hs=>by
  have hi:=(Q1.1 hl).1;obtain⟨_,e2,e3⟩:=step_eq hs.1 (hz l (Q3 hl));rw[aF,hl,QY,e2,QY,cd (by simp;omega)];refine⟨rfl,e3,?_⟩;unfold stepG;rw[Rb,hs.2];rfl) ⟨ez.P5,rfl⟩
 unfold nK nf;rw[QY,h1];exact⟨rfl,h2.1,h2.2⟩
def my(l:ByteArray):ByteArray:=⟨(nX l.data.toList).toArray⟩
theorem Dx(l:ByteArray):(my l).size<=l.size:=by
 have h1:(my l).size=(nX l.data.toList).length:=by
  unfold my;show(List.toArray _).size=_;rw[RX]
 have h2:=eD l;rw[h1];unfold nX;split
 ·rw[List.length_dropLast];omega
 ·omega
theorem Me{L:List ByteArray}(hL:L.length<=1000)(hz: ∀l∈L,l.size<=10000):cN (L.length:Int) (fun(i4:Int) (s4:(List ByteArray)×(List Site)×(List Claim))=>((at' L i4).bind fun x8=>((strings_TrimSuffix x8 (QZ #[10])).bind fun x9=>((cC (bC.mk s4.2.2 s4.2.1) x9).bind fun x10=>((bZ s4.1 ([x10.1]:List ByteArray)).bind fun x11=>some (x11,x10.2.Sites,x10.2.Claims)))))) (fun(s4:(List ByteArray)×(List Site)×(List Claim))=>(s4.1,s4.2.1,s4.2.2)) 0 (([]:List ByteArray),([]:List Site),([]:List Claim))=some ((mQ (L.map my)).2,(mQ (L.map my)).1.Sites,(mQ (L.map my)).1.Claims):=by
 obtain⟨h1,_⟩:=Fq (L:=L) (by omega) (B:=fun(i4:Int) (s4:(List ByteArray)×(List Site)×(List Claim))=>((at' L i4).bind fun x8=>((strings_TrimSuffix x8 (QZ #[10])).bind fun x9=>((cC (bC.mk s4.2.2 s4.2.1) x9).bind fun x10=>((bZ s4.1 ([x10.1]:List ByteArray)).bind fun x11=>some (x11,x10.2.Sites,x10.2.Claims)))))) (D:=fun(s4:(List ByteArray)×(List Site)×(List Claim))=>(s4.1,s4.2.1,s4.2.2)) (fun i s=>ez (bC.mk s.2.2 s.2.1)/\s.1.length=i) (fun s l=>(s.1++[(pn (bC.mk s.2.2 s.2.1) (my l)).2],(pn (bC.mk s.2.2 s.2.1) (my l)).1.Sites,(pn (bC.mk s.2.2 s.2.1) (my l)).1.Claims)) (s:=([],[],[])) (fun i l s hl hs=>by
  have hi:=(Q1.1 hl).1;have hzl:=hz l (Q3 hl);have ht:=Dx l;obtain⟨e1,_,e3⟩:=step_eq hs.1 (l:=my l) (by omega);have htr:strings_TrimSuffix l (QZ #[10])=some (my l):=Ek l (by omega);rw[aF,hl,QY,htr,QY,e1,QY,cd (by simp;omega)];refine⟨rfl,e3,?_⟩;rw[Rb,hs.2];rfl) ⟨ez.P5,rfl⟩
 rw[h1];have key: ∀(M:List ByteArray) (d:bC) (out:List ByteArray),M.foldl (fun s l=>(s.1++[(pn (bC.mk s.2.2 s.2.1) (my l)).2],(pn (bC.mk s.2.2 s.2.1) (my l)).1.Sites,(pn (bC.mk s.2.2 s.2.1) (my l)).1.Claims)) (out,d.Sites,d.Claims)=(((M.map my).foldl stepG (d,out)).2,((M.map my).foldl stepG (d,out)).1.Sites,((M.map my).foldl stepG (d,out)).1.Claims):=by
  intro M
  induction M with
  | nil=>intro d out;rfl
  | cons l M ih=>
   intro d out;rw[Ss,Sq,Ss];exact ih _ _
 have:=key L (bC.mk [] []) [];exact congrArg some this
def cO(s:ByteArray):List ByteArray:=(qx (bo 10 s.data.toList)).map Dv
def nq(s:ByteArray):Bool:=decide (s.size<=2000)&&decide ((cO s).length<=40)
theorem tB(s:ByteArray):((eb s.data.toList).map fun x=>(⟨x.toArray⟩:ByteArray)).map my=cO s:=by
 unfold cO;rw[<-IU,TT,TT];rfl
theorem AB{s l:ByteArray}(h:l∈cO s):l.size<=s.size:=by
 rw[<-tB]at h;obtain⟨x,hx,rfl⟩:=Rh.1 h;obtain⟨y,hy,rfl⟩:=Rh.1 hx;have h1:=Dx (⟨y.toArray⟩:ByteArray);have h2:=tC _ _ _ hy;have h3:(⟨y.toArray⟩:ByteArray).size=y.length:=by
  show y.toArray.size=_;rw[RX]
 have h4:=eD s;simp only[Sw,RR]at h2;omega
theorem Aq(s:ByteArray)(hs:s.size<=1048576):jc s=some (bif nq s then((mQ (cO s)).1,(mQ (cO s)).2,0)else(bC.mk [] [],[],3))/\lm s=some (bif nq s then((mQ (cO s)).2,0)else([],3))/\tO s=some (bif nq s then((mQ (cO s)).1,0)else(bC.mk [] [],3))/\(nq s=true->ez (mQ (cO s)).1/\(mQ (cO s)).2.length=(cO s).length/\(cO s).length<=40):=by
 have hl:CK s=some ((eb s.data.toList).map fun x=>⟨x.toArray⟩):=by
  unfold CK;rw[if_pos (by omega)]
 have hlen:((eb s.data.toList).map fun x=>(⟨x.toArray⟩:ByteArray)).length=(cO s).length:=by
  rw[<-tB,Rp (f:=my)]
 have h2:gZ s=some (cO s):=GZ s (by omega);have hfit:mw s=some (nq s):=by
  unfold mw nq;by_cases h:s.size<=2000
  ·rw[decide_eq_true (show(s.size:Int)<=2000 by omega),decide_eq_true h,cond_true,h2,QY,Se,QY];congr 1;by_cases h4:(cO s).length<=40
   ·rw[decide_eq_true h4,decide_eq_true (show((cO s).length:Int)<=40 by omega)]
   ·rw[decide_eq_false h4,decide_eq_false (show ¬((cO s).length:Int)<=40 by omega)]
  ·rw[decide_eq_false (show ¬(s.size:Int)<=2000 by omega),decide_eq_false h];rfl
 have hcond:(decide ((s.size:Int)>2000) || decide (((cO s).length:Int)>40))= !nq s:=by
  unfold nq;rw[Bool.not_and,<-decide_not,<-decide_not];congr 1
  ·exact decide_eq_decide.2 (by omega)
  ·exact decide_eq_decide.2 (by omega)
 unfold jc lm tO;rw[hl,hfit,h2,QY,hlen,hcond];cases hf:nq s
 ·exact⟨rfl,rfl,rfl,fun h=>by cases h⟩
 ·have hf2:=hf;unfold nq at hf2;rw[Q4,decide_eq_true_eq,decide_eq_true_eq]at hf2;have hz: ∀l∈cO s,l.size<=10000:=fun l h=>by have:=AB h;omega
  obtain⟨r1,r2,r3⟩:=HO (by omega) hz;have hi:=Me (L:=(eb s.data.toList).map fun x=>(⟨x.toArray⟩:ByteArray)) (by omega) (fun l h=>by
   obtain⟨y,hy,rfl⟩:=Rh.1 h;have h2:=tC _ _ _ hy;have h3:(⟨y.toArray⟩:ByteArray).size=y.length:=by
    show y.toArray.size=_;rw[RX]
   have h4:=eD s;simp only[Sw,RR]at h2;omega)
  rw[tB,hlen]at hi;simp only[Rs,cond_false,hi,r1,QY,cond_true];exact⟨trivial,trivial,trivial,fun _=>⟨r2,r3,hf2.2⟩⟩
def dm(s:ar):Prop:=0<=s.at'/\s.at'<=s.code.length/\s.code.length<=4096/\(∀x∈s.code,0<=x/\x<256)/\0<=s.seed/\s.seed<2147483647
theorem xT{s:ar}(hs:dm s)(n:Int)(hn:n<9223372036854775808): ∃x s',aE s n=some (x,s')/\0<=x/\(x<n\/x=0)/\dm s':=by
 obtain⟨h1,h2,h3,h4,h5,h6⟩:=hs;unfold aE;by_cases hn1:n<=1
 ·rw[decide_eq_true hn1];exact⟨0,s,rfl,by omega,.inr rfl,h1,h2,h3,h4,h5,h6⟩
 ·rw[decide_eq_false hn1,cond_false];have hz:nz' n=some ():=O6 (by omega);have e1:ao (s.seed*48271)=s.seed*48271:=aO (by omega) (by omega);have e2:ao (s.seed*48271+29)=s.seed*48271+29:=aO (by omega) (by omega);rw[e1,e2];have hsd:0<=RW (s.seed*48271+29) 2147483647/\RW (s.seed*48271+29) 2147483647<2147483647:=by
   rw[SB (by omega)];omega
  generalize RW (s.seed*48271+29) 2147483647=sd at*;have e3:ao (Int.tdiv sd 31)=sd/31:=by
   rw[Int.tdiv_eq_ediv_of_nonneg hsd.1];exact aO (by omega) (by omega)
  rw[e3];have fin: ∀(y:Int) (s':ar),0<=y->dm s'-> ∃x s'',((nz' n).bind fun _=>some (RW y n,s'))=some (x,s'')/\0<=x/\(x<n\/x=0)/\dm s'':=by
   intro y s' hy hs';rw[hz];exact⟨_,_,rfl,Int.tmod_nonneg _ hy,.inl (Int.tmod_lt_of_pos _ (by omega)),hs'⟩
  by_cases hat:s.at'<(s.code.length:Int)
  ·rw[decide_eq_true hat,cond_true];obtain⟨x3,hx3,hg3⟩:=Gk h1 hat;have hb3:=h4 x3 (Q3 hg3);have e4:ao (s.at'+1)=s.at'+1:=aO (by omega) (by omega);have e5:ao (s.at'+1 - 1)=s.at':=by rw[aO (by omega) (by omega)];omega
   have e6:ao x3=x3:=aO (by omega) (by omega);rw[hx3,QY,e4,e5,hx3,e6];have hsrc:dm (ar.mk s.code (s.at'+1) sd):=⟨by simp;omega,by simp;omega,h3,h4,hsd.1,hsd.2⟩;have e7:ao (sd/31+x3)=sd/31+x3:=aO (by omega) (by omega);rw[e7];cases (decide (n<=256)&&RW (s.at'+1) 2==0)
   ·exact fin _ _ (by omega) hsrc
   ·rw[cond_true,QY,e6];exact fin _ _ (by omega) hsrc
  ·rw[decide_eq_false hat,cond_false];exact fin _ _ (by omega) ⟨h1,h2,h3,h4,hsd.1,hsd.2⟩
theorem Oe{c:List Int}(hc:BT c): ∃s,iR c=some s/\dm s:=by
 unfold iR oT;generalize hb:loop _ _=m;have key: ∃r,m=some r/\dm r:=by
  rw[<-hb];refine CN (fun s:Int×ar=>0<=s.1/\s.1<=64/\dm s.2) (fun s=>(64 - s.1).toNat) dm (fun s hs=> ?_) ⟨by simp,by simp,by simp,by simp,hc.1,hc.2,by simp,by simp⟩;obtain⟨h0,h64,h1,h2,h3,h4,h5,h6⟩:=hs;by_cases hb:s.1<(c.length:Int)/\s.1<64
  ·left;obtain⟨x,hx,hg⟩:=Gk h0 hb.1;have hxb:=hc.2 x (Q3 hg);have e1:ao (s.2.seed*73)=s.2.seed*73:=aO (by omega) (by omega);have e2:ao x=x:=aO (by omega) (by omega);have e3:ao (s.2.seed*73+x)=s.2.seed*73+x:=aO (by omega) (by omega);have e4:ao (s.1+1)=s.1+1:=aO (by omega) (by omega);refine⟨(s.1+1,ar.mk s.2.code s.2.at' (RW (s.2.seed*73+x) 2147483647)),?_,⟨?_,?_,h1,h2,h3,h4,?_,?_⟩,?_⟩
   ·simp only[hb.1,hb.2,decide_true,Uo,cond_true,hx,QY,e1,e2,e3,e4]
   ·dsimp only;omega
   ·dsimp only;omega
   ·dsimp only;rw[SB (by omega)];omega
   ·dsimp only;rw[SB (by omega)];omega
   ·dsimp only;omega
  ·right;refine⟨s.2,?_,h1,h2,h3,h4,h5,h6⟩;have:(decide (s.1<(c.length:Int))&&decide (s.1<64))=false:=by
    rw[Bool.and_eq_false_iff];by_cases h7:s.1<(c.length:Int)
    ·exact .inr (by simp;omega)
    ·exact .inl (by simpa using h7)
   simp only[this,cond_false]
 clear hb;obtain⟨r,rfl,h⟩:=key;exact⟨r,rfl,h⟩
theorem OF{s:ar}(hs:dm s){l:List Int}(hl:l≠[])(hl2:l.length<=4096): ∃x s',ky s l=some (x,s')/\x∈l/\dm s':=by
 unfold ky;have h0:0<l.length:=T0.2 hl;obtain⟨x,s',h1,h2,h3,h4⟩:=xT hs (l.length:Int) (by omega);rw[h1,QY];obtain⟨y,hy,hg⟩:=Gk (L:=l) h2 (by omega);rw[hy];exact⟨y,s',rfl,Q3 hg,h4⟩
theorem Gv.next{s:ar}(hs:dm s)(n:Int)(hn:n<9223372036854775808):Gv (aE s n) (fun r=>(0<=r.1/\(r.1<n\/r.1=0))/\dm r.2):=by
 obtain⟨x,s',h1,h2,h3,h4⟩:=xT hs n hn;exact⟨_,h1,⟨h2,h3⟩,h4⟩
theorem Gv.pick{s:ar}(hs:dm s){l:List Int}(hl:l≠[])(hl2:l.length<=4096):Gv (ky s l) (fun r=>r.1∈l/\dm r.2):=by
 obtain⟨x,s',h1,h2,h3⟩:=OF hs hl hl2;exact⟨_,h1,h2,h3⟩
theorem Gv.from{c:List Int}(hc:BT c):Gv (iR c) dm:=by
 obtain⟨s,h1,h2⟩:=Oe hc;exact⟨_,h1,h2⟩
theorem Ks{s:ar}(hs:dm s){t:ByteArray}(ht:t.size<=1000000): ∃u s',io s t=some (u,s')/\u.size<=t.size+10/\dm s':=by
 unfold io;rw[aO (n:=(t.size:Int)+1) (by omega) (by omega)];obtain⟨x1,s1,h1,a1,b1,c1⟩:=xT hs ((t.size:Int)+1) (by omega);obtain⟨x2,s2,h2,a2,b2,c2⟩:=xT c1 8 (by omega);obtain⟨k,rfl⟩:=RT a1;have hk:k<=t.size:=by omega
 have e1: ∀(a b:Nat),a<=b->b<=t.size-> ∃u,kG t (a:Int) (b:Int)=some u/\u.size=b - a:=fun a b h1 h2=>by
  unfold kG;rw[if_pos ⟨by omega,by omega,by omega⟩];refine⟨_,rfl,?_⟩;rw[ByteArray.size_extract];simp only[Rk];omega
 have ec: ∀(u v:ByteArray),u.size<=10000000->v.size<=10000000-> ∃w,bU u v=some w/\w.size=u.size+v.size:=fun u v h1 h2=>by
  unfold bU;rw[if_pos (by omega)];exact⟨_,rfl,Q9⟩
 obtain⟨u1,f1,g1⟩:=e1 0 k (by omega) hk;obtain⟨u2,f2,g2⟩:=e1 k t.size hk (Re _);rw[show((0:Nat):Int)=0 from rfl]at f1;simp only[h1,h2,QY,f1,f2];cases x2==0
 ·cases x2==1
  ·cases x2==2
   ·exact⟨_,_,rfl,by omega,c2⟩
   ·by_cases hlt:(k:Int)<(t.size:Int)
    ·have e3:ao ((k:Int)+1)=((k+1:Nat):Int):=by rw[aO (by omega) (by omega)];omega
     obtain⟨u3,f3,g3⟩:=e1 (k+1) t.size (by omega) (Re _);obtain⟨u4,f4,g4⟩:=ec u1 u3 (by omega) (by omega);simp only[cond_false,cond_true,decide_eq_true hlt,e3,f3,f4,QY];exact⟨_,_,rfl,by omega,c2⟩
    ·simp only[cond_false,cond_true,decide_eq_false hlt];exact⟨_,_,rfl,by omega,c2⟩
  ·obtain⟨x3,s3,h3,a3,b3,c3⟩:=xT c2 8 (by omega);have hl: ∀(L:List ByteArray),L.length=8->(∀y∈L,y.size<=1)-> ∃u s',((at' L x3).bind fun x8=>((bU u1 x8).bind fun x9=>((bU x9 u2).bind fun x11=>some (S1 (x11,s3):ar⊕(ByteArray×ar))))).bind (Ri (fun(j3:ar)=>some (t,j3)) some)=some (u,s')/\u.size<=t.size+10/\dm s':=fun L hL hy=>by
    obtain⟨y,e,hm⟩:=MB L a3 (by omega) (by omega);have hys:=hy y hm;obtain⟨u5,f5,g5⟩:=ec u1 y (by omega) (by omega);obtain⟨u6,f6,g6⟩:=ec u5 u2 (by omega) (by omega);simp only[e,f5,f6,QY];exact⟨_,_,rfl,by omega,c3⟩
   simp only[cond_false,cond_true,h3,QY];exact hl _ rfl (by decide)
 ·simp only[cond_true,QY];exact⟨_,_,rfl,by omega,c2⟩
def Ig(c:Claim):Prop:=c.Source.size<=100/\c.Place.size<=100/\c.Value.size<=100
def yK(n:Nat)(L:List Claim):Prop:=L.length<=n/\ ∀x∈L,Ig x
theorem yK.snoc{n:Nat}{L:List Claim}{x:Claim}(h:yK n L)(hx:Ig x):yK (n+1) (L++[x]):=by
 refine⟨by simp;exact h.1,fun y hy=> ?_⟩;rcases Rq.1 hy with hy | hy
 ·exact h.2 y hy
 ·rw[Rj.1 hy];exact hx
theorem yK.mono{n m:Nat}{L:List Claim}(h:yK n L)(k:n<=m):yK m L:=⟨Nat.le_trans h.1 k,h.2⟩
def yL(n:Nat)(L:List Site):Prop:=L.length<=n/\ ∀x∈L,x.Code.size<=100
theorem yL.snoc{n:Nat}{L:List Site}{x:Site}(h:yL n L)(hx:x.Code.size<=100):yL (n+1) (L++[x]):=by
 refine⟨by simp;exact h.1,fun y hy=> ?_⟩;rcases Rq.1 hy with hy | hy
 ·exact h.2 y hy
 ·rw[Rj.1 hy];exact hx
theorem yL.mono{n m:Nat}{L:List Site}(h:yL n L)(k:n<=m):yL m L:=⟨Nat.le_trans h.1 k,h.2⟩
structure Gg (c:Claim):Prop where
 s:Ig c
 k:0<=c.Kind/\c.Kind<=3
 f:0<=c.Years.From/\c.Years.From<=5000
 t:0<=c.Years.To/\c.Years.To<=5000
 w:0<=c.Weight/\c.Weight<=100
theorem KF{s:ar}(hs:dm s):Gv (mq s) (fun r=>Gg r.1/\dm r.2):=by
 unfold mq;refine(Gv.next hs 4 (by omega)).bind fun x1 h1=>Gv.bind (Gv.at (P:=fun x:ByteArray=>x.size<=100) ⟨h1.1.1,by simpa using h1.1.2⟩ (by simp) (by decide)) fun a ha=> ?_;refine(Gv.pick h1.2 (by simp) (by simp)).bind fun x3 h3=>(Gv.next h3.2 3 (by omega)).bind fun x4 h4=>Gv.bind (Gv.at (P:=fun x:ByteArray=>x.size<=100) ⟨h4.1.1,by simpa using h4.1.2⟩ (by simp) (by decide)) fun b hb=> ?_;refine(Gv.next h4.2 60 (by omega)).bind fun x6 h6=>(Gv.next h6.2 9 (by omega)).bind fun x7 h7=>(Gv.next h7.2 60 (by omega)).bind fun x8 h8=> ?_;have hk:0<=x3.1/\x3.1<=3:=by
  have:=h3.1;simp only[Ra,Sg,or_false]at this;omega
 have e1:ao (1200+x6.1)=1200+x6.1:=aO (by omega) (by omega);have e2:ao (1200+x6.1+x8.1)=1200+x6.1+x8.1:=aO (by omega) (by omega);have e3:ao (1+x7.1)=1+x7.1:=aO (by omega) (by omega);have fin: ∀v:ByteArray,v.size<=100->Gg (Claim.mk a x3.1 b v (Span.mk (1200+x6.1) (1200+x6.1+x8.1)) (1+x7.1)):=fun v hv=>⟨⟨ha,hb,hv⟩,hk,by show 0<=1200+x6.1/\1200+x6.1<=5000;omega,by show 0<=1200+x6.1+x8.1/\1200+x6.1+x8.1<=5000;omega,by show 0<=1+x7.1/\1+x7.1<=100;omega⟩;rw[e1,e2,e3];refine Gv.bind (P:=fun r:Claim×ar=>Gg r.1/\dm r.2) (Gv.cond (fun _=> ?_) fun _=>Gv.cond (fun _=> ?_) fun _=> .some ⟨fin _ (R0 _),h8.2⟩) fun r hr=> .some hr
 ·exact(Gv.next h8.2 3 (by omega)).bind fun x11 h11=>Gv.bind (Gv.at (P:=fun x:ByteArray=>x.size<=100) ⟨h11.1.1,by simpa using h11.1.2⟩ (by simp) (by decide)) fun v hv=> .some ⟨fin v hv,h11.2⟩
 ·have z:(QZ #[100,101,118,97]).size<=100:=by decide
  exact(Gv.next h8.2 4 (by omega)).bind fun x11 h11=>Gv.bind (Gv.at (P:=fun x:ByteArray=>x.size<=100) ⟨h11.1.1,by simpa using h11.1.2⟩ (by simp) (by decide)) fun v hv=>Gv.cond (fun _=> .some ⟨fin _ z,h11.2⟩) fun _=> .some ⟨fin v hv,h11.2⟩
theorem Qq{c:Claim}(h:Gg c):Gv (iU c) (fun t=>t.size<=500):=by
 have hk:=h.k;have hf:=h.f;have ht:=h.t;have hw:=h.w;have hs:=h.s.1;have hp:=h.s.2.1;have hv:=h.s.2.2;have z1:=bK (v:=c.Kind) (by omega) (by omega);have z2:=bK (v:=c.Weight) (by omega) (by omega);have z3:=bK (v:=c.Years.From) (by omega) (by omega);have z4:=bK (v:=c.Years.To) (by omega) (by omega);have z5:=Ck c.Value;have z6:(QZ #[47]).size=1:=rfl;have z7:(QZ #[46,46]).size=2:=rfl;have hd:oo c.Value=some (Ci c.Value):=Cj c.Value;have hy:iT c.Years=some (iD c.Years):=by
  unfold iT iD;rw[nM (by omega) (by omega),QY,cg (by omega),QY,nM (by omega) (by omega),QY,cg (by rw[Q9];omega)];rfl
 have z8:(iD c.Years).size<=30:=by
  unfold iD;rw[Q9,Q9];omega
 unfold iU;rw[hd,hy,im (v:=c.Kind) (by omega) (by omega),im (v:=c.Weight) (by omega) (by omega)];simp only[QY];exact(Gv.cat (by omega)).bind fun a1 h1=>(Gv.cat (by omega)).bind fun a2 h2=>(Gv.cat (by omega)).bind fun a3 h3=>(Gv.cat (by omega)).bind fun a4 h4=>(Gv.cat (by omega)).bind fun a5 h5=>(Gv.cat (by omega)).bind fun a6 h6=>(Gv.cat (by omega)).bind fun a7 h7=>(Gv.cat (by omega)).bind fun a8 h8=>(Gv.cat (by omega)).bind fun a9 h9=>(Gv.cat (by omega)).bind fun a10 h10=> .some (by omega)
theorem EF{s:ar}(hs:dm s):Gv (mn s) (fun r=>jr r.1=true/\dm r.2):=by
 have hp: ∀{a b:Int},-1000<=a->a<=1000-> -1000<=b->b<=1000->jr (aH.mk a b)=true:=fun h1 h2 h3 h4=>by
  unfold jr;rw[Q4,ic,ic];exact⟨⟨h1,h2⟩,h3,h4⟩
 unfold mn;refine(Gv.next hs 3 (by omega)).bind fun y hy=>Gv.cond (fun _=> ?_) fun _=> ?_
 ·refine(Gv.next hy.2 2001 (by omega)).bind fun a ha=>(Gv.next ha.2 2001 (by omega)).bind fun b hb=> .some ⟨?_,hb.2⟩;rw[aO (by omega) (by omega),aO (by omega) (by omega)];exact hp (by omega) (by omega) (by omega) (by omega)
 ·refine(Gv.next hy.2 9 (by omega)).bind fun a ha=>(Gv.next ha.2 9 (by omega)).bind fun b hb=> .some ⟨?_,hb.2⟩;rw[aO (by omega) (by omega),aO (by omega) (by omega)];exact hp (by omega) (by omega) (by omega) (by omega)
theorem AF{p:aH}(h:jr p=true):(o5 p).size<=30:=by
 have h1:=FL h;have z1:=bK (v:=p.X) (by omega) (by omega);have z2:=bK (v:=p.Y) (by omega) (by omega);have z3:(QZ #[58]).size=1:=rfl;unfold o5;rw[e8,gq,Q9,Q9];omega
structure Jt (d:ak):Prop where
 c:0<=d.Count/\d.Count<=100
 w:0<=d.Direction/\d.Direction<=7
 u:d.Unit.size<=100
 a:d.A.size<=100
 b:d.B.size<=100
theorem KG{s:ar}(hs:dm s):Gv (ov s) (fun r=>Jt r.1/\dm r.2):=by
 have k1:(0:Int)<=0/\(0:Int)<=100:=by decide
 have k2:(0:Int)<=0/\(0:Int)<=7:=by decide
 have z0:(QZ #[]).size<=100:=by decide
 have z1:(QZ #[115]).size=1:=rfl;unfold ov;refine(Gv.next hs 4 (by omega)).bind fun x1 h1=>(Gv.next h1.2 3 (by omega)).bind fun x2 h2=>Gv.bind (Gv.at (P:=fun x:ByteArray=>x.size<=100) ⟨h2.1.1,by simp;omega⟩ (by simp) (by decide)) fun a ha=> ?_;refine Gv.bind (P:=fun r:ak×ar=>Jt r.1/\dm r.2) (Gv.cond (fun _=> ?_) fun _=>Gv.cond (fun _=> ?_) fun _=> .some ⟨⟨k1,k2,z0,ha,z0⟩,h2.2⟩) fun r hr=> .some hr
 ·refine(Gv.next h2.2 12 (by omega)).bind fun x6 h6=> ?_;rw[aO (n:=1+x6.1) (by omega) (by omega)];refine(Gv.pick h6.2 (by simp) (by simp)).bind fun x7 h7=>(Gv.next h7.2 3 (by omega)).bind fun x8 h8=>Gv.bind (Gv.at (P:=fun x:ByteArray=>x.size<=50) ⟨h8.1.1,by simpa using h8.1.2⟩ (by simp) (by decide)) fun u hu=> ?_;have hc:0<=x7.1/\x7.1<=100:=by
   have:=h7.1;simp only[Ra,Sg,or_false]at this;omega
  refine Gv.bind (P:=fun d:ak=>Jt d) (Gv.cond (fun _=>(Gv.cat (by omega)).bind fun v hv=> .some ⟨hc,k2,by show v.size<=100;omega,ha,z0⟩) fun _=> .some ⟨hc,k2,by show u.size<=100;omega,ha,z0⟩) fun d hd=> ?_;exact(Gv.next h8.2 8 (by omega)).bind fun x13 h13=> .some ⟨⟨hd.c,by show 0<=x13.1/\x13.1<=7;omega,hd.u,hd.a,hd.b⟩,h13.2⟩
 ·exact Gv.bind (Gv.at (P:=fun x:ByteArray=>x.size<=100) ⟨by omega,.inl (by simp)⟩ (by simp) (by decide)) fun b hb=> .some ⟨⟨k1,k2,z0,ha,hb⟩,h2.2⟩
theorem OR{d:ak}(h:Jt d):Gv (iV d) (fun t=>t.size<=500):=by
 have hc:=h.c;have hu:=h.u;have ha:=h.a;have hb:=h.b;have z1:(QZ #[97,116,32]).size=3:=rfl;have z2:(QZ #[110,101,97,114,32]).size=5:=rfl;have z3:(QZ #[98,101,116,119,101,101,110,32]).size=8:=rfl;have z4:(QZ #[32,97,110,100,32]).size=5:=rfl;have z5:(QZ #[32]).size=1:=rfl;have z6:(QZ #[32,111,102,32]).size=4:=rfl;have z7:=bK (v:=d.Count) (by omega) (by omega);obtain⟨w1,w2,_,_⟩:=wV h.w.1 h.w.2;have hw:fq d.Direction=some (mz d.Direction):=by
  show((at' cX d.Direction).bind fun x1=>some x1)=_;rw[w1];rfl
 unfold iV;refine Gv.bind (P:=fun r:Unit⊕ByteArray=> ∀t,r= .inr t->t.size<=500) ?_ fun r hr=> ?_
 ·refine Gv.cond (fun _=>(Gv.cat (by omega)).bind fun a h1=> .some fun t e=> ?_) fun _=>Gv.cond (fun _=>(Gv.cat (by omega)).bind fun a h1=> .some fun t e=> ?_) fun _=>Gv.cond (fun _=> ?_) fun _=> .some fun t e=>by cases e
  ·injection e with e;subst e;omega
  ·injection e with e;subst e;omega
  ·rw[im (v:=d.Count) (by omega) (by omega),hw];simp only[QY];refine(Gv.cat (by omega)).bind fun a1 h1=>(Gv.cat (by omega)).bind fun a2 h2=>(Gv.cat (by omega)).bind fun a3 h3=>(Gv.cat (by omega)).bind fun a4 h4=>(Gv.cat (by omega)).bind fun a5 h5=>(Gv.cat (by omega)).bind fun a6 h6=> .some fun t e=> ?_;injection e with e;subst e;omega
 ·cases r with
  | inl u=>exact(Gv.cat (by omega)).bind fun a1 h1=>(Gv.cat (by omega)).bind fun a2 h2=>(Gv.cat (by omega)).bind fun a3 h3=> .some (by omega)
  | inr t=>exact .some (hr t rfl)
theorem GB{s:ar}(hs:dm s){t:ByteArray}(ht:t.size<=1000000):Gv (io s t) (fun r=>r.1.size<=t.size+10/\dm r.2):=by
 obtain⟨u,s',h1,h2,h3⟩:=Ks hs ht;exact⟨_,h1,h2,h3⟩
abbrev Cm(r:ar⊕(ByteArray×ar)):Prop:=(∀s,r= .inl s->dm s)/\ ∀p,r= .inr p->p.1.size<=1200/\dm p.2
theorem Cm.r{t:ByteArray}{s:ar}(h:t.size<=1200)(k:dm s):Cm (.inr (t,s)):=⟨fun s e=>(by cases e),fun p e=>by injection e with e;subst e;exact⟨h,k⟩⟩
theorem Ev{s:ar}(hs:dm s):Gv (gv s) (fun r=>r.1.size<=1200/\dm r.2):=by
 have z1:(QZ #[32]).size=1:=rfl;unfold gv;refine(Gv.next hs 3 (by omega)).bind fun x1 h1=>Gv.bind (Gv.at (P:=fun x:ByteArray=>x.size<=100) ⟨h1.1.1,by simpa using h1.1.2⟩ (by simp) (by decide)) fun a ha=> ?_;refine(Gv.next h1.2 3 (by omega)).bind fun x3 h3=>Gv.bind (Gv.at (P:=fun x:ByteArray=>x.size<=100) ⟨h3.1.1,by simpa using h3.1.2⟩ (by simp) (by decide)) fun b hb=> ?_;refine(Gv.next h3.2 12 (by omega)).bind fun x5 h5=>Gv.bind (P:=Cm) ?_ fun r hr=> ?_
 ·refine Gv.bind (P:=fun _:Bool=>True) (Gv.cond (fun _=> .some trivial) fun _=>Gv.cond (fun _=> .some trivial) fun _=> .some trivial) fun j8 _=>Gv.cond (fun _=> ?_) fun _=>Gv.cond (fun _=> ?_) fun _=>Gv.cond (fun _=> ?_) fun _=>Gv.cond (fun _=> ?_) fun _=>Gv.bind (P:=fun _:Bool=>True) (Gv.cond (fun _=> .some trivial) fun _=> .some trivial) fun j29 _=>Gv.cond (fun _=> ?_) fun _=>Gv.cond (fun _=> ?_) fun _=>Gv.cond (fun _=> ?_) fun _=> .some ⟨fun s e=>by injection e with e;subst e;exact h5.2,fun p e=>by cases e⟩
  ·refine(KF h5.2).bind fun x10 h10=>Gv.bind (P:=fun r:Claim×ar=>Gg r.1/\dm r.2) (Gv.cond (fun _=> ?_) fun _=> .some h10) fun j11 h11=> ?_
   ·exact(Gv.next h10.2 2 (by omega)).bind fun x13 h13=>Gv.bind (Gv.at (P:=fun x:ByteArray=>x.size<=100) ⟨h13.1.1,by simpa using h13.1.2⟩ (by simp) (by decide)) fun v hv=> .some ⟨⟨⟨h10.1.s.1,h10.1.s.2.1,hv⟩,h10.1.k,h10.1.f,h10.1.t,h10.1.w⟩,h13.2⟩
   ·have z:(QZ #[99,108,97,105,109,32]).size=6:=rfl;exact(Qq h11.1).bind fun t ht=>(Gv.cat (by omega)).bind fun u hu=> .some (.r (by omega) h11.2)
  ·have z:(QZ #[100,114,111,112,32]).size=5:=rfl;refine(Gv.next h5.2 4 (by omega)).bind fun x17 h17=> ?_;have z2:=bK (v:=x17.1) (by omega) (by omega);rw[im (by omega) (by omega),QY];exact(Gv.cat (by omega)).bind fun u hu=> .some (.r (by omega) h17.2)
  ·exact(Gv.next h5.2 3 (by omega)).bind fun x20 h20=>Gv.bind (Gv.at (P:=fun x:ByteArray=>x.size<=100) ⟨h20.1.1,by simpa using h20.1.2⟩ (by simp) (by decide)) fun v hv=> .some (.r (by omega) h20.2)
  ·refine(Gv.next h5.2 2 (by omega)).bind fun x22 h22=>Gv.bind (Gv.at (P:=fun x:ByteArray=>x.size<=100) ⟨h22.1.1,by simpa using h22.1.2⟩ (by simp) (by decide)) fun v hv=>(Gv.cat (by omega)).bind fun u1 hu1=>(Gv.cat (by omega)).bind fun u2 hu2=>(Gv.next h22.2 90 (by omega)).bind fun x26 h26=> ?_;have z2:=bK (v:=1200+x26.1) (by omega) (by omega);rw[aO (by omega) (by omega),nM (by omega) (by omega),QY];exact(Gv.cat (by omega)).bind fun u hu=> .some (.r (by omega) h26.2)
  ·have z:(QZ #[115,105,116,101,32]).size=5:=rfl;refine(Gv.cat (by omega)).bind fun u1 hu1=>(Gv.cat (by omega)).bind fun u2 hu2=>(EF h5.2).bind fun p hp=> ?_;have z2:=AF hp.1;rw[pV hp.1,QY];exact(Gv.cat (by omega)).bind fun u hu=> .some (.r (by omega) hp.2)
  ·exact(Gv.next h5.2 3 (by omega)).bind fun x36 h36=>Gv.bind (Gv.at (P:=fun x:ByteArray=>x.size<=100) ⟨h36.1.1,by simpa using h36.1.2⟩ (by simp) (by decide)) fun v hv=>(Gv.cat (by omega)).bind fun u1 hu1=>(Gv.cat (by omega)).bind fun u2 hu2=>(Gv.cat (by omega)).bind fun u3 hu3=> .some (.r (by omega) h36.2)
  ·have z:(QZ #[116,101,115,116,32]).size=5:=rfl;refine(EF h5.2).bind fun p hp=> ?_;have z2:=AF hp.1;rw[pV hp.1,QY];exact(Gv.cat (by omega)).bind fun u1 hu1=>(Gv.cat (by omega)).bind fun u2 hu2=>(KG hp.2).bind fun d hd=>(OR hd.1).bind fun t ht=>(Gv.cat (by omega)).bind fun u3 hu3=> .some (.r (by omega) hd.2)
 ·cases r with
  | inl s=>exact(Gv.next (hr.1 s rfl) 3 (by omega)).bind fun x48 h48=>Gv.bind (Gv.at (P:=fun x:ByteArray=>x.size<=100) ⟨h48.1.1,by simpa using h48.1.2⟩ (by simp) (by decide)) fun v hv=> .some ⟨by show v.size<=1200;omega,h48.2⟩
  | inr p=>exact .some (hr.2 p rfl)
theorem Pn{s:ar}(hs:dm s):Gv (ox s) (fun r=>r.1.size<=30000/\dm r.2):=by
 unfold ox;refine(Gv.next hs 12 (by omega)).bind fun x1 h1=>Gv.bind (P:=fun r:ByteArray×ar=>r.1.size<=20000/\dm r.2) ?_ fun j hj=> ?_
 ·refine Gv.lp (fun s:ByteArray×Int×ar=>(0<=s.2.1/\s.2.1<=12)/\(s.1.size:Int)<=(12 - s.2.1)*1300/\dm s.2.2) (fun s=>s.2.1.toNat) (fun s h=> ?_) ⟨⟨h1.1.1,by show x1.1<=12;omega⟩,by show((0:Nat):Int)<=(12 - x1.1)*1300;omega,h1.2⟩;obtain⟨⟨h0,h4⟩,h2,h3⟩:=h;refine Gv.cond (fun hp=> ?_) fun _=> .some ⟨by show s.1.size<=20000;omega,h3⟩;have hp':s.2.1>0:=by simpa using hp
  rw[aO (n:=s.2.1 - 1) (by omega) (by omega)];have z1:(QZ #[10]).size=1:=rfl;refine Gv.bind (P:=fun r:ByteArray×ar=>r.1.size<=s.1.size+1300/\dm r.2) ?_ fun r hr=> .some ⟨⟨⟨by show 0<=s.2.1 - 1;omega,by show s.2.1 - 1<=12;omega⟩,by show(r.1.size:Int)<=(12 -(s.2.1 - 1))*1300;have:=hr.1;omega,hr.2⟩,by show(s.2.1 - 1).toNat<s.2.1.toNat;omega⟩;refine(Ev h3).bind fun x8 h8=>(Gv.next h8.2 16 (by omega)).bind fun x9 h9=>Gv.bind (P:=fun r:ByteArray×ar=>r.1.size<=1250/\dm r.2) (Gv.cond (fun _=> ?_) fun _=> .some ⟨by show x8.1.size<=1250;omega,h9.2⟩) fun j10 h10=> ?_
  ·exact(GB h9.2 (by omega)).bind fun x12 h12=> .some ⟨by show x12.1.size<=1250;omega,h12.2⟩
  ·exact(Gv.cat (by omega)).bind fun u1 hu1=>(Gv.cat (by omega)).bind fun u2 hu2=> .some ⟨by show u2.size<=s.1.size+1300;omega,h10.2⟩
 ·refine(Gv.next hj.2 40 (by omega)).bind fun x15 h15=>Gv.bind (P:=fun r:ByteArray⊕(ByteArray×ar)=>(∀t,r= .inl t->t.size<=30000)/\ ∀p,r= .inr p->p.1.size<=30000/\dm p.2) (Gv.cond (fun _=> ?_) fun _=>Gv.cond (fun _=> ?_) fun _=> .some ⟨fun t e=>by injection e with e;subst e;omega,fun p e=>by cases e⟩) fun r hr=> ?_
  ·have z:(QZ #[99,111,114,101,115,10]).size=6:=rfl;refine Gv.Od (n:=36) (by omega) (fun i (t:ByteArray)=>t.size<=20000+6*i) (fun i t hi h=>(Gv.cat (by omega)).bind fun u hu=> .some (by omega)) (by omega) fun t h=>⟨fun u e=>by injection e with e;subst e;omega,fun p e=>by cases e⟩
  ·have z:(QZ #[114,101,112,97,105,114]).size=6:=rfl;exact(Gv.cat (by omega)).bind fun u hu=> .some ⟨fun t e=>(by cases e),fun p e=>by injection e with e;subst e;exact⟨by show u.size<=30000;omega,h15.2⟩⟩
  ·cases r with
   | inl t=>exact .some ⟨hr.1 t rfl,h15.2⟩
   | inr p=>exact .some (hr.2 p rfl)
theorem Iw{c:List Int}(hc:BT c):Gv (ig c) (fun t=>t.size<=30000):=by
 unfold ig;exact(Gv.from hc).bind fun s hs=>(Pn hs).bind fun r hr=> .some hr.1
theorem Iv{c:List Int}(hc:BT c):Gv (fm c) (fun t=>t.size<=30000):=by
 unfold fm;refine(Gv.from hc).bind fun s hs=>(Ev hs).bind fun r hr=>(Gv.next hr.2 2 (by omega)).bind fun x3 h3=>Gv.cond (fun _=> ?_) fun _=> .some (by omega);exact(GB h3.2 (by omega)).bind fun x4 h4=> .some (by omega)
theorem wP(c:UInt8): ∀(p r:List UInt8),bo c (p++c::r)=bo c p++bo c r
 | [],r=>by
  show bo c (c::r)=bo c []++_;have h1:bo c (c::r)=[]::bo c r:=lA (p:=[]) (by simp);rw[h1,gM (l:=[]) (by simp)];rfl
 | x::p,r=>by
  have ih:=wP c p r;by_cases hx:x=c
  ·subst hx;have h1:bo x (x::(p++x::r))=[]::bo x (p++x::r):=lA (p:=[]) (by simp);have h2:bo x (x::p)=[]::bo x p:=lA (p:=[]) (by simp);rw[Sy,h1,h2,ih];rfl
  ·have h1: ∀l,bo c (x::l)=match bo c l with
     | []=>[[x]]
     | q::t=>(x::q)::t:=fun l=>by
    conv=>lhs;unfold bo
    rw[if_neg hx];cases bo c l<;>rfl
   rw[Sy,h1,h1,ih];cases hp:bo c p with
   | nil=>exact absurd hp (kF c p)
   | cons q t=>rfl
theorem zB(p:List UInt8):qx (bo 10 (p++[10]))=bo 10 p:=by
 have h:=wP 10 p [];rw[gM (l:=[]) (by simp)]at h;rw[h];unfold qx;rw[List.getLast?_concat,if_pos rfl,List.dropLast_concat]
abbrev fe:ByteArray:=QZ #[110,111,105,115,101]
abbrev kd:ByteArray:=QZ #[110,111,105,115,101,10]
theorem IT{s:ByteArray}(h:s.size=0\/ ∃p,s.data.toList=p++[10]):cO (s++kd)=cO s++[fe]:=by
 have hn:kd.data.toList=[110,111,105,115,101]++[10]:=rfl;have hf:bo 10 [110,111,105,115,101]=[[110,111,105,115,101]]:=gM (by decide);unfold cO;rw[dA,hn];rcases h with h | ⟨p,h⟩
 ·have h0:s.data.toList=[]:=RM (by rw[eD];exact h);rw[h0,Sr,zB,hf,gM (l:=[]) (by simp)];rfl
 ·rw[h,<-Ry,zB,zB,Ry,List.singleton_append,wP,hf,SI];rfl
theorem KT(d:bC):cC d fe=some (va 6,d):=by
 have h1:strings_Split fe (QZ #[32])=some [fe]:=by
  have h2:aZ fe 32=[fe]:=by
   have hf:bo 32 [110,111,105,115,101]=[[110,111,105,115,101]]:=gM (by decide);unfold aZ;show(bo 32 [110,111,105,115,101]).map _=_;rw[hf];rfl
  have hz:fe.size=5:=rfl;unfold strings_Split;have h:(QZ #[32]).data.toList=[32]:=rfl;rw[h];dsimp only;rw[decide_eq_true (by omega),cond_true,h2]
 have h2:eK [fe]=some false:=by
  have a0:at' [fe] 0=some fe:=rfl;have f1:(fe.toList==qj.toList)=false:=lI (by decide);have f2:(fe.toList==nh.toList)=false:=lI (by decide);have f3:(fe.toList==k9.toList)=false:=lI (by decide);have f4:(fe.toList==rO.toList)=false:=lI (by decide);have f5:(fe.toList==sf.toList)=false:=lI (by decide);have f6:(fe.toList==wS.toList)=false:=lI (by decide);have f7:(fe.toList==vt.toList)=false:=lI (by decide);have f8:(fe.toList==mU.toList)=false:=lI (by decide);have f9:(fe.toList==vG.toList)=false:=lI (by decide);have g1:(fe.toList==um.toList)=false:=lI (by decide);have g2:(fe.toList==mx.toList)=false:=lI (by decide);have g3:(fe.toList==od.toList)=false:=lI (by decide);unfold eK;simp only[a0,QY,f1,f2,f3,f4,f5,f6,f7,f8,f9,g1,g2,g3,cond_false,RH]
 unfold cC;rw[h1,QY,h2,QY,RU,cond_true,gn (by omega) (by omega)];rfl
theorem MW{M:List ByteArray}(hM:M.length<=1000)(hz: ∀l∈M,l.size<=10000):(mQ (M++[fe])).2=(mQ M).2++[va 6]:=by
 obtain⟨_,h2,_⟩:=HO hM hz;obtain⟨h3,_,_⟩:=step_eq h2 (l:=fe) (by decide);rw[KT]at h3;injection h3 with h3;injection h3 with h3 _;unfold mQ at*;rw[UA,Ss,List.foldl_nil];show _++[(pn _ fe).2]=_;rw[<-h3]
theorem PZ:va 6=QZ #[101,114,114,111,114,32,54]:=by
 refine lP ?_;unfold va;rw[dA,cE,jV (by omega),show(6:Int).toNat=6 from rfl,decDigits,dif_pos (by omega)];rfl
theorem EG(L:List ByteArray)(hL:L.length<=1000000):ij L L=some true:=by
 unfold ij;rw[bne_self_eq_false,cond_false];rw[jd (by omega) (fun _=>false) false (fun i x hx=>by
  rw[aF,hx,QY,QY,beq_self_eq_true];rfl)]
 have h0:L.any (fun _=>false)=false:=UG.2 (fun _ _ h=>absurd h (by decide));rw[h0];rfl
theorem KE{s:ByteArray}(hs:s.size<=1048576): ∃b,iL s=some b/\iQ s=some b:=by
 have hsl:=rN s 32;have h1:strings_Split s (QZ #[32])=some (aZ s 32):=by
  unfold strings_Split;have h:(QZ #[32]).data.toList=[32]:=rfl;rw[h];dsimp only;rw[decide_eq_true (by omega),cond_true]
 have h2:bG s 32=some (aZ s 32):=dj s 32 (by omega);have hz: ∀y∈aZ s 32,y.size<=1048576:=fun y hy=>by have:=eR hy;omega
 have hne:=zZ s 32;unfold iL iQ kZ;rw[h1,h2,QY,QY];generalize aZ s 32=W at hsl hz hne;cases W with
 | nil=>exact absurd rfl hne
 | cons x M=>
  obtain⟨b,V,n,b1,b2,_⟩:=Es (x:=x) (M:=M) (by omega) hz;refine⟨b,by rw[b1];rfl,?_⟩;have b2':((iW (x::M)).bind fun x2=>(bif(x2.toList==(QZ #[45]).toList)then some (([]:List ByteArray),(0:Int),false)else(((cN (x2.size:Int) (fun(i5:Int) (s5:Int×Bool)=>((cG x2 i5).bind fun x9=>(bif(x9==73)then((at' (x::M) (ao (i5+1))).bind fun x10=>((bE x10).bind fun x11=>some (x11.1,x11.2)))else(bif(x9==74)then((at' (x::M) (ao (i5+1))).bind fun x12=>((bu x12).bind fun x13=>some (x13.1,x13.2)))else some (s5.1,s5.2))))) (fun(s5:Int×Bool)=>(s5.1,s5.2)) 0 (0,true))).bind fun(j3:Int×Bool)=>some ((x::M),j3.1,j3.2))))=some (V,n,b):=b2;rw[b2'];rfl
theorem uX(p0:List Int)(k0:p0.length<=maxLen/\ ∀x∈p0,Qe x):fj p0=some true:=by
 unfold fj xJ;by_cases g0:(p0.length:Int)>4096
 ·rw[decide_eq_true g0];rfl
 rw[decide_eq_false g0];simp only[QY,cond_false];have hc:BT p0:=⟨by omega,fun x hx=>by have h:=k0.2 x hx;exact⟨h.1,by have:=h.2;omega⟩⟩;obtain⟨s,s1,s2⟩:=Iw hc;obtain⟨l,l1,l2⟩:=Iv hc;obtain⟨h1,h2,_,h4⟩:=Aq s (by omega);obtain⟨b,b1,b2⟩:=KE (s:=l) (by omega);have hI:eZ s=some (bif nq s then((mQ (cO s)).2,0)else([],3)):=by
  unfold eZ;rw[h1,QY];cases nq s<;>rfl
 simp only[s1,l1,hI,h2,b1,b2,QY,bne_self_eq_false,cond_false,beq_self_eq_true,Rs];cases hf:nq s
 ·have hL:ij [] []=some true:=EG [] (by simp);simp only[cond_false,hL,QY,Rs];rfl
 ·obtain⟨h5,h6,h7⟩:=h4 hf;have hL:=EG (mQ (cO s)).2 (by omega);simp only[cond_true,hL,QY,Rs,cond_false,bne_self_eq_false];have hz: ∀l∈cO s,l.size<=10000:=fun l h=>by
   have:=AB h;unfold nq at hf;rw[Q4,decide_eq_true_eq]at hf;omega
  have hend: ∃e,(bif decide ((s.size:Int)>0)then((cG s (ao ((s.size:Int)- 1))).bind fun x11=>some (x11 !=10))else some false)=some e/\(e=false->s.size=0\/ ∃p,s.data.toList=p++[10]):=by
   rcases Tu s.size with h0 | h0
   ·rw[decide_eq_false (by omega)];exact⟨_,rfl,fun _=> .inl h0⟩
   ·have hl:=eD s;obtain⟨p,c,hp⟩: ∃p c,s.data.toList=p++[c]:=by
     rcases SM s.data.toList with h | ⟨p,c,h⟩
     ·rw[h]at hl;simp at hl;omega
     ·exact⟨p,c,by simpa using h⟩
    have hpl:p.length=s.size - 1:=by
     rw[hp]at hl;simp at hl;omega
    have hg:s.data.toList[s.size - 1]? =some c:=by
     rw[hp,<-hpl,Q6 (Re _),Tp];rfl
    rw[decide_eq_true (by omega),cond_true,aO (by omega) (by omega),show(s.size:Int)- 1=((s.size - 1:Nat):Int) by omega,ni hg,QY];refine⟨_,rfl,fun h=> .inr ⟨p,?_⟩⟩;have h10:(c.toNat:Int)=10:=by simpa using h
    have hc10:c=10:=UInt8.toNat_inj.1 (by show c.toNat=10;omega);rw[hp,hc10]
  obtain⟨e,e1,e2⟩:=hend;rw[e1];simp only[QY];cases e
  ·have hmore:=IT (e2 rfl);have hn:kd.size=6:=rfl;have hcat:bU s (QZ #[110,111,105,115,101,10])=some (s++kd):=cg (by show s.size+6<=_;omega);have hsz:(s++kd).size=s.size+6:=Q9;obtain⟨m1,_,_,m4⟩:=Aq (s++kd) (by omega);have hJ:eZ (s++kd)=some (bif nq (s++kd)then((mQ (cO (s++kd))).2,0)else([],3)):=by
    unfold eZ;rw[m1,QY];cases nq (s++kd)<;>rfl
   simp only[cond_false,hcat,hJ,QY];cases hg:nq (s++kd)
   ·rfl
   ·have hr:=MW (M:=cO s) (by omega) hz;rw[hmore,hr];have hw:ao (((mQ (cO s)).2.length:Int)+1)=((mQ (cO s)).2.length:Int)+1:=aO (by omega) (by omega);have hlen:((((mQ (cO s)).2++[va 6]).length:Int)==((mQ (cO s)).2.length:Int)+1)=true:=by
     rw[beq_iff_eq,Rb];rfl
    have hat:at' ((mQ (cO s)).2++[va 6]) ((mQ (cO s)).2.length:Int)=some (va 6):=by
     rw[aF,Q6 (Re _),Tp];rfl
    have hpt:eX ((mQ (cO s)).2++[va 6]) 0 ((mQ (cO s)).2.length:Int)=some (mQ (cO s)).2:=by
     rw[kr (by omega) (by omega) (by rw[Rb];omega)];simp
    have he:((va 6).toList==(QZ #[101,114,114,111,114,32,54]).toList)=true:=by rw[PZ];exact teq _
    simp only[cond_true,bne_self_eq_false,cond_false,hw,hlen,hat,hpt,he,hL,QY]
  ·rfl
