/- Parts of the proof, in order: MMR2, MMR3, MMR4, MMR5, MIS, MST1, MSS2, MSS3, MCNA, MCNB, MCN2, MCN3, MCNC, MCND, MCF1, MCF2, MCF4, MCNE. -/
import Derived.Test.YtbdbpakffniboaaGreatDoorJ2
import Derived.Test.YtbdbpakffniboaaGreatDoorJ1
import Derived.Test.YtbdbpakffniboaaGreatDoorJ0
noncomputable section
open Array renaming toList_inj->VH
open BitVec renaming ofInt->Us,ofNat->Wl,toNat_ofNat->Ws,ofInt_natCast->WS
open Bool renaming and_eq_true->Tp,not_true->TO,eq_false_iff->TS,not_false->Uj,not_eq_true'->Un,true_and->Uy,eq_iff_iff->Va,and_self->Wo,not_eq_false'->Wt,not_not->WC
open ByteArray renaming mk->Tj,size_append->Tw
open Int renaming toNat->Tv,toNat_natCast->TG,tmod->Ug,eq_ofNat_of_zero_le->Ui,tmod_eq_emod_of_nonneg->US,fdiv->VB,le_refl->Wk
open List renaming getElem?_eq_getElem->Tk,getElem?_eq_some_iff->Tl,mem_of_getElem?->Tm,getElem?_append_right->Ts,all_eq_true->Tt,mem_filter->Tu,mem_cons->Tx,length_cons->Ty,length_append->Tz,mem_map->TF,mem_singleton->TH,mem_flatMap->TK,getD_eq_getElem?_getD->TL,length_map->TM,mem_append->TN,mem_cons_self->TP,length_take->TQ,range->TU,append_assoc->TX,set->T0,mem_cons_of_mem->T1,mem_range->T2,take_of_length_le->T4,drop_eq_getElem_cons->Uc,any_eq_true->Uh,size_toArray->Uk,getElem_mem->Uo,append_nil->Up,pairwise_append->Ur,length_drop->Ux,not_mem_nil->UA,eq_nil_iff_forall_not_mem->UB,length_nil->UC,nil_append->UD,flatMap_cons->UE,replicate->UH,pairwise_cons->UI,length_eq_zero_iff->UJ,map_cons->UK,drop_eq_nil_of_le->UL,range'->UM,length_filter_le->UN,foldl_cons->UP,getElem?_cons_succ->U1,filter_cons_of_pos->U2,mem_of_mem_take->U6,map_append->U9,cons_append->Vb,pairwise_iff_getElem->Ve,take_add_one->Vg,eq_nil_or_concat->Vh,filter_append->Vm,filter_cons_of_neg->Vn,takeWhile_append_dropWhile->Vr,find?_eq_none->Vs,range'_succ->Vv,pairwise_map->Vz,pairwise_lt_range->VE,drop_zero->VJ,concat_eq_append->VL,length_set->VN,map_map->VR,mem_iff_getElem->VU,length_pos_iff->VX,filter_eq_self->VY,filter_cons->V1,any_eq_false->Wa,length_range->Wb,drop_left->Wz,drop_drop->WB,getElem?_set->WE,set_append_right->WI,take_length->WN
open Nat renaming le_refl->TA,pow_le_pow_right->Ua,lt_of_lt_of_le->Ud,zero_add->Ue,zero_le->Ul,add_zero->Uw,mod_eq_of_lt->Vt,testBit_lt_two_pow->VF,min_eq_left->VP,pow_succ->VS,sub_zero->VT
open Option renaming bind_some->Ti,bind_assoc->UF,map_some->UO,bind_fun_some->UU,bind_eq_some_iff->U3,getD_some->Vu
open Sum renaming elim->TC,elim_inr->TZ,elim_inl->T6,inr->U4,inl->Vp
namespace Go.Proofs.YtbdbpakffniboaaGreatDoor.Sh
open Go.RowKit Go.Lib
def uq(R:List Int)(i:Int):Bool:=R.any fun x=>i==x
theorem IA{R:List Int}{i:Int}:uq R i=true↔i∈R:=by
 unfold uq;rw[Uh];exact⟨fun⟨x,h1,h2⟩=>by rw[beq_iff_eq.1 h2];exact h1,fun h=>⟨i,h,beq_self_eq_true _⟩⟩
theorem Oh{R:List Int}(hR:R.length<=1000000)(i:Int):gn R i=some (uq R i):=by
 unfold gn lK uq;rw[gg (by omega) (fun x=>i==x) (fun k x hx=>by rw[aG,hx];rfl),Ti,kW]
theorem Pb{R:List Int}(hR:R.length<=1000000)(i:Int):qw R i=some (uq R i):=by
 unfold qw uq;rw[iv (by omega) (fun x=>i==x) true (fun k x hx=>by rw[aG,hx,Ti,BEq.comm])];cases R.any fun x=>i==x<;>rfl
def Bl(n:Nat)(R:List Int):List Int:=(TU n).flatMap fun(i:Nat)=>bif uq R (i:Int)then[]else[(i:Int)]
theorem yK{n:Nat}{R:List Int}{x:Int}:x∈Bl n R↔ ∃i:Nat,x=i/\i<n/\(i:Int)∉R:=by
 unfold Bl;rw[TK];constructor
 ·rintro⟨i,hi,hx⟩;cases h:uq R (i:Int)
  ·rw[h]at hx;have:x=i:=by simpa using hx
   exact⟨i,this,T2.1 hi,fun hm=>by rw[IA.2 hm]at h;cases h⟩
  ·rw[h]at hx;simp at hx
 ·rintro⟨i,rfl,hi,hn⟩;refine⟨i,T2.2 hi,?_⟩;have:uq R (i:Int)=false:=by
   rw[TS,ne_eq,IA];exact hn
  rw[this];simp
theorem LG{α β:Type}{f:α->List β}(hf: ∀x,(f x).length<=1): ∀(M:List α),(M.flatMap f).length<=M.length
 | []=>by simp
 | x::M=>by
  have h1:=hf x;have h2:=LG hf M;rw[UE,Tz,Ty];omega
theorem Jm(R:List Int)(i:Nat):(bif uq R (i:Int)then([]:List Int)else[(i:Int)]).length<=1:=by cases uq R (i:Int)<;>simp
theorem y4(n:Nat)(R:List Int):(Bl n R).length<=n:=by
 have:=LG (Jm R) (TU n);rw[Wb]at this;exact this
theorem zt{L:List Claim}(hL:L.length<=1000000){R:List Int}(hR:R.length<=1000000):kJ L R=some (Bl L.length R):=by
 unfold kJ;rw[rU 1000000 hL (by omega) (fun(i:Nat)=>bif uq R (i:Int)then[]else[(i:Int)]) (Jm R) [] (by simpa using hL) (fun i s hi hs=>by
  rw[Pb hR,Ti];cases uq R (i:Int)
  ·rw[Uj,cond_true,cond_false,ci (by simp;omega)];rfl
  ·simp)]
 rfl
theorem xa{α β:Type}(g:α->Option β): ∀(I:List α),(TU I.length).flatMap (fun i=>((I[i]?).bind g).toList)=I.flatMap fun x=>(g x).toList
 | []=>rfl
 | x::I=>by
  rw[Ty,List.range_succ_eq_map,UE,UE,List.flatMap_map,<-xa g I];rfl
theorem Fq(L:List Claim)(I:List Int):tF L I=I.flatMap fun x=>(L[x.toNat]?).toList:=xa (fun x:Int=>L[x.toNat]?) I
theorem CQ{L:List Claim}{I:List Int}{c:Claim}:c∈tF L I↔ ∃x∈I,L[x.toNat]? =some c:=by
 rw[Fq,TK];constructor
 ·rintro⟨x,hx,hc⟩;rw[Option.mem_toList]at hc;exact⟨x,hx,hc⟩
 ·rintro⟨x,hx,hc⟩;exact⟨x,hx,by rw[Option.mem_toList];exact hc⟩
def lR(L:List Claim)(R:List Int):List Claim:=tF L (Bl L.length R)
theorem DC{L:List Claim}{R:List Int}{c:Claim}:c∈lR L R↔ ∃i:Nat,(i:Int)∉R/\L[i]? =some c:=by
 unfold lR;rw[CQ];constructor
 ·rintro⟨x,hx,hc⟩;obtain⟨i,rfl,hi,hn⟩:=yK.1 hx;exact⟨i,hn,by simpa using hc⟩
 ·rintro⟨i,hn,hc⟩;exact⟨i,yK.2 ⟨i,rfl,(Tl.1 hc).1,hn⟩,by simpa using hc⟩
theorem yl{L:List Claim}(hL:L.length<=1000000){R:List Int}(hR:R.length<=1000000):rm L R=some (lR L R):=by
 unfold rm;rw[rU 1000000 hL (by omega) (fun(i:Nat)=>bif uq R (i:Int)then[]else(L[i]?).toList) (fun(i:Nat)=>by
  cases uq R (i:Int)
  ·cases L[i]? <;>simp
  ·simp) [] (by simpa using hL) (fun i s hi hs=>by
  rw[aG,Tk hi,Ti,Oh hR,Ti];cases uq R (i:Int)
  ·rw[Uj,cond_true,cond_false,ci (by simp;omega)];rfl
  ·simp)]
 unfold lR Bl;rw[Fq,List.flatMap_assoc,UD,Ti];congr 2;funext i;cases uq R (i:Int)<;>simp
theorem qk{L:List Claim}(hc:bh L=true)(R:List Int):(lR L R).length<=100/\ ∀x∈lR L R,cB x=true:=by
 have h1:=(aH.1 hc).1;have h2:=y4 L.length R;exact q5 (I:=Bl L.length R) (by omega) hc
def gp(L:List Claim)(R:List Int):Bool:=nL (lR L R)
theorem Dk{L:List Claim}(hc:bh L=true){R:List Int}(hR:R.length<=1000000):k7 L R=some (gp L R):=by
 have h1:=(aH.1 hc).1;obtain⟨h2,h3⟩:=qk hc R;unfold k7 gp;rw[yl (by omega) hR,Ti,fZ h2 h3];rfl
theorem pW{L:List Claim}(hc:bh L=true){R:List Int}(hR:R.length<=1000000):iE L R=some (gp L R):=by
 have h1:=(aH.1 hc).1;obtain⟨h2,h3⟩:=qk hc R;have h4:=y4 L.length R;unfold iE gp;rw[zt (by omega) hR,Ti,pM (by omega) (fun x hx=>by
  obtain⟨i,rfl,hi,_⟩:=yK.1 hx;omega),Ti]
 show((bP (lR L R)).bind _)=_;rw[kS h2 h3];rfl
theorem DI{L:List Claim}(hc:bh L=true):CF L.length (gp L):=fun R Q _ _ hs h=>by
 obtain⟨h2,h3⟩:=qk hc R;obtain⟨h4,_⟩:=qk hc Q;unfold gp at h⊢;refine w6 h2 h4 (fun x hx=> ?_) h3 h;obtain⟨i,hn,hi⟩:=DC.1 hx;exact DC.2 ⟨i,fun hm=>hn (hs _ hm),hi⟩
theorem Er{R:List Int}(hR:R.length<=1000000){i:Nat}(hi:i<R.length):jo R (i:Int)=some (R.eraseIdx i):=by
 unfold jo;rw[lz (by omega) (by omega) (by omega),Ti,az (n:=(i:Int)+1) (by omega) (by omega),lz (by omega) (by omega) (by omega)];simp only[Int.toNat_zero,VJ,TG,VT,Ti];rw[ci (by simp;omega),Ti,UD,show Tv ((i:Int)+1)=i+1 by omega,ci (by simp;omega),Ti,T4 (l:=R.drop (i+1)) (by rw[Ux];omega),List.eraseIdx_eq_take_drop_succ]
theorem FA{α A:Type}(q:Nat->Bool)(a b:A)(R:List α):(match cr (fun i _=>q i) (fun _ _=>a) R 0 with | some r=>some r | none=>some b)=some (bif(TU R.length).all fun i=> !q i then b else a):=by
 rw[oM];have h:=tO (fun i (_:α)=>q i) R 0;cases hs:(cr (fun i (_:α)=>q i) (fun _ _=>()) R 0).isSome
 ·have hall:((TU R.length).all fun i=> !q i)=true:=by
   rw[Tt];intro i hi;have hi:=T2.1 hi;rw[Un];cases hq:q i with
   | false=>rfl
   | true=>
    rw[h.2 ⟨i,R[i],Tk hi,by rw[Ue];exact hq⟩]at hs;cases hs
  rw[hall];rfl
 ·obtain⟨i,x,hx,hq⟩:=h.1 hs;have hi:=(Tl.1 hx).1;have hall:((TU R.length).all fun i=> !q i)=false:=by
   rw[TS,ne_eq,Tt];intro hh;have:=hh i (T2.2 hi);rw[Ue]at hq;rw[hq]at this;cases this
  rw[hall];rfl
theorem Cd{L:List Claim}(hc:bh L=true){R:List Int}(hR:R.length<=1000000):lD L R=some (jI (gp L) R):=by
 unfold lD jI;rw[pW hc hR,Ti];cases gp L R
 ·rfl
 ·rw[TO,cond_false,gf (by omega) (fun i _=>gp L (R.eraseIdx i)) (fun _ _=>false) (fun i x hx=>by
   have hi:=(Tl.1 hx).1;have h3:=List.length_eraseIdx_of_lt hi;rw[Er hR hi,Ti,pW hc (by omega),Ti])]
  refine(FA (A:=Bool) (fun i=>gp L (R.eraseIdx i)) false true R).trans ?_;cases (TU R.length).all fun i=> !gp L (R.eraseIdx i)<;>rfl
theorem LV{R:List Int}(hR:R.length<=1000000):gT R=some R:=by
 unfold gT;rw[ci (by simp;omega)];rfl
theorem CL{n:Nat}{rep:List Int->Bool}: ∀(k f:Nat) (R:List Int),n - f<k->(kV rep n k f R).length<=2^(n - f):=by
 intro k
 induction k with
 | zero=>intro f R h;omega
 | succ k ih=>
  intro f R hk;unfold kV;cases rep R
  ·rw[cond_false];have key: ∀(m g:Nat),g+m=n->f<=g->((UM g m).flatMap fun i=>kV rep n k (i+1) (R++[(i:Int)])).length+1<=2^m:=by
    intro m
    induction m with
    | zero=>intro g _ _;simp
    | succ m ihm=>
     intro g hg hf;rw[Vv,UE,Tz];have h1:=ih (g+1) (R++[(g:Int)]) (by omega);have h2:=ihm (g+1) (by omega) (by omega);have e:n -(g+1)=m:=by omega
     rw[e]at h1;rw[VS];omega
   by_cases hfn:f<=n
   ·have:=key (n - f) f (by omega) (TA _);omega
   ·have:n - f=0:=by omega
    rw[this];simp
  ·have:1<=2^(n - f):=Nat.one_le_two_pow;cases jI rep R<;>simp<;>omega
theorem LQ{R:List Int}{n f:Nat}(hR:ik n R)(hn:n<=1000000)(hf:fS R f):(bif(decide ((R.length:Int)>0))then((at' R (ap ((R.length:Int)- 1))).bind fun x5=>some (ap (x5+1)))else some 0)=some (f:Int):=by
 have hl:=hR.len;rcases Vh R with h | ⟨l,x,h⟩
 ·subst h;have:=hf.2 0 (Wk _) (by simp);have hf0:f=0:=by omega
  rw[hf0];rfl
 ·rw[VL]at h;subst h;have hx:=hR.2 x (by simp);have h1:=hf.1 x (by simp);have h2:=hf.2 (x+1) (by omega) (fun y hy=>by
   rcases TN.1 hy with hy | hy
   ·have:=(Ur.1 hR.1).2.2 y hy x (by simp);omega
   ·rw[TH.1 hy];omega)
  have hlen:(l++[x]).length=l.length+1:=by simp
  rw[hlen]at hl;rw[decide_eq_true (show(((l++[x]).length:Int))>0 by rw[hlen];omega),cond_true,hlen,az (by omega) (by omega),show((l.length+1:Nat):Int)- 1=(l.length:Int) by omega,aG];have:(l++[x])[l.length]? =some x:=by simp
  rw[this,Ti,az (by omega) (by omega)];congr 1;omega
theorem Jx{L:List Claim}(hc:bh L=true): ∀(k f fuel:Nat) (R:List Int),L.length - f<k->k<=fuel->ik L.length R->fS R f->fI fuel L R=some (kV (gp L) L.length k f R):=by
 have h12:=(aH.1 hc).1;intro k
 induction k with
 | zero=>intro f fuel R h;omega
 | succ k ih=>
  intro f fuel R hk hfu hR hf;obtain⟨fuel,rfl⟩: ∃q,fuel=q+1:=⟨fuel - 1,by omega⟩;have hl:=hR.len;unfold fI kV;rw[pW hc (by omega),Ti];cases hrep:gp L R
  ·rw[cond_false,cond_false,LQ hR (by omega) hf,Ti];rw[eZ,vB f (by omega)];have e:((L.length:Int)-(f:Int)).toNat=L.length - f:=by omega
   rw[e];have key: ∀(m g:Nat) (s:List (List Int)),g+m=L.length->f<=g->s.length+2^m<=100000->dm (fun i (s8:List (List Int))=>(((gT R).bind fun x12=>((bW x12 ([(i:Int)]:List Int)).bind fun x13=>((fI fuel L x13).bind fun x14=>((bW s8 x14).bind fun x15=>some x15))))).map (Vp (β:=List (List Int)))) (fun s=>s) m g s=some (s++(UM g m).flatMap fun i=>kV (gp L) L.length k (i+1) (R++[(i:Int)])):=by
    intro m
    induction m with
    | zero=>intro g s _ _ _;simp[dm]
    | succ m ihm=>
     intro g s hg hfg hs;have hs2:ik L.length (R++[(g:Int)]):=hR.snoc (by omega) (by omega) fun x hx=>by have:=hf.1 x hx;omega
     have hal:=CL (n:=L.length) (rep:=gp L) k (g+1) (R++[(g:Int)]) (by omega);have e2:L.length -(g+1)=m:=by omega
     rw[e2]at hal;have hp:2^(m+1)=2^m+2^m:=by rw[VS];omega
     have hstep:((gT R).bind fun x12=>((bW x12 ([(g:Int)]:List Int)).bind fun x13=>((fI fuel L x13).bind fun x14=>((bW s x14).bind fun x15=>some x15))))=some (s++kV (gp L) L.length k (g+1) (R++[(g:Int)])):=by
      rw[LV (by omega),Ti,ci (by simp;omega),Ti,ih (g+1) fuel _ (by omega) (by omega) hs2 (hf.snoc hfg),Ti,ci (by omega),Ti]
     unfold dm;simp only[hstep,UO];show dm _ _ m (g+1) (s++kV (gp L) L.length k (g+1) (R++[(g:Int)]))=_;rw[ihm (g+1) _ (by omega) (by omega) (by rw[Tz];omega),Vv,UE,TX]
   by_cases hfl:f<=L.length
   ·have hpow:2^(L.length - f)<=2^12:=Ua (by omega) (by omega);rw[key (L.length - f) f [] (by omega) (TA _) (by simp;omega)];rfl
   ·have e3:L.length - f=0:=by omega
    rw[e3];rfl
  ·rw[cond_true,cond_true,Cd hc (by omega),Ti];cases jI (gp L) R<;>rfl
theorem O8{L:List Claim}(hc:bh L=true):vc L []=some (kV (gp L) L.length (L.length+1) 0 []):=by
 have h12:=(aH.1 hc).1;exact Jx hc (L.length+1) 0 1000 [] (by omega) (by omega) (ik.nil _) fS.nil
theorem Cv{L:List Claim}(hc:bh L=true){Q:List Int}:Q∈kV (gp L) L.length (L.length+1) 0 []↔ik L.length Q/\jI (gp L) Q=true:=by
 rw[DB (DI hc) _ _ _ (by omega) (ik.nil _) fS.nil];exact⟨fun⟨h1,_,h3⟩=>⟨h1,h3⟩,fun⟨h1,h3⟩=>⟨h1,List.nil_prefix,h3⟩⟩
theorem L2(b i:Nat)(hi:i<=64):VB (b:Int) (2^min (Tv (i:Int)) 64)=((b/2^i:Nat):Int):=by
 rw[TG,VP hi,Int.fdiv_eq_ediv_of_nonneg _ (Int.le_of_lt (Int.pow_pos (by omega)))];rw[show(2:Int)^i=((2^i:Nat):Int) by rw[Int.natCast_pow];rfl];rfl
theorem CA(i:Nat)(hi:i<=62):ap (1*2^min (Tv (i:Int)) 64)=((2^i:Nat):Int):=by
 rw[TG,VP (by omega),Int.one_mul,show(2:Int)^i=((2^i:Nat):Int) by rw[Int.natCast_pow];rfl];have:2^i<=2^62:=Ua (by omega) hi;generalize 2^i=q at this⊢;exact az (by omega) (by omega)
theorem Ru(b i:Nat)(hb:b<2^62):((ap ((Us 64 ((b/2^i:Nat):Int)&&&Us 64 1).toNat:Int))==1)=b.testBit i:=by
 have h1:b/2^i<=b:=Nat.div_le_self _ _;rw[WS,show Us 64 1=Wl 64 1 from rfl,BitVec.toNat_and,Ws,Ws,Vt (show b/2^i<2^64 by omega),show 1 % 2^64=1 from rfl,Nat.and_one_is_mod];have h2:b/2^i % 2<2:=Nat.mod_lt _ (by omega);rw[az (by omega) (by omega),Nat.testBit_eq_decide_div_mod_eq];by_cases h:b/2^i % 2=1
 ·rw[h];rfl
 ·have:b/2^i % 2=0:=by omega
  rw[this];rfl
theorem JB{n i b:Nat}(hi:i<=n)(hb:b<2^i):ey n b=ey i b:=by
 induction n with
 | zero=>
  have:i=0:=by omega
  rw[this]
 | succ n ih=>
  rcases Nat.lt_or_ge i (n+1)with h | h
  ·have hb2:b<2^n:=Ud hb (Ua (by omega) (by omega));rw[vV,VF hb2,cond_false,Up,ih (by omega)]
  ·have:i=n+1:=by omega
   rw[this]
theorem vo(n b:Nat):(ey n b).length<=n:=(rH n b).len
theorem pE{n b:Nat}(hn:n<=60)(hb:b<2^n):gL (b:Int)=some (ey n b):=by
 have hb62:b<2^62:=Ud hb (Ua (by omega) (by omega));unfold gL;have key: ∀(k i:Nat),i+k=n->loop (fun(s3:Int×(List Int))=>((sh' s3.1).bind fun _=>(bif(decide ((VB (b:Int) (2^min (Tv s3.1) 64))>0))then((((sh' s3.1).bind fun _=>(bif((ap ((Us 64 (VB (b:Int) (2^min (Tv s3.1) 64))&&&Us 64 1).toNat:Int))==1)then((bW s3.2 ([s3.1]:List Int)).bind fun x9=>some x9)else some s3.2))).bind fun(j6:(List Int))=>some (.inl ((ap (s3.1+1)),j6)))else some (.inr s3.2)))) ((i:Int),ey i b)=some (ey n b):=by
  intro k
  induction k with
  | zero=>
   intro i hi;have hin:i=n:=by omega
   subst hin;rw[bT];have h0:sh' (i:Int)=some ():=by unfold sh';rw[if_pos (by omega)]
   simp only[h0,Ti,L2 b i (by omega),Nat.div_eq_of_lt hb];rfl
  | succ k ih=>
   intro i hi;rw[bT];have h0:sh' (i:Int)=some ():=by unfold sh';rw[if_pos (by omega)]
   simp only[h0,Ti,L2 b i (by omega),Ru b i hb62];by_cases hp:b/2^i>0
   ·rw[decide_eq_true (show((b/2^i:Nat):Int)>0 by omega),cond_true];have hl:=vo i b;have:=ih (i+1) (by omega);rw[vV]at this;cases ht:b.testBit i
    ·rw[ht,cond_false,Up]at this;simp only[cond_false,Ti];rw[az (by omega) (by omega)];exact this
    ·rw[ht,cond_true]at this;simp only[cond_true];rw[ci (by simp;omega)];simp only[Ti];rw[az (by omega) (by omega)];exact this
   ·rw[decide_eq_false (show ¬((b/2^i:Nat):Int)>0 by omega),cond_false];have hbi:b<2^i:=by
     rcases Nat.lt_or_ge b (2^i)with h | h
     ·exact h
     ·exact absurd (Nat.div_pos h (Nat.pow_pos (by omega))) hp
    rw[JB (n:=n) (i:=i) (by omega) hbi]
 have:=key n 0 (by omega);have e0:ey 0 b=[]:=rfl;rw[e0]at this;rw[show((0:Nat):Int)=0 from rfl]at this;rw[this];rfl
theorem Rx(b i n:Nat)(hb:b<2^n)(hn:n<=60)(hi:i<n)(ht:b.testBit i=true): ∃c,c<b/\ap ((Us 64 (b:Int)&&& ~~~Us 64 (ap (1*2^min (Tv (i:Int)) 64))).toNat:Int)=(c:Int)/\ ∀j,j<n->c.testBit j=(b.testBit j&& !decide (i=j)):=by
 have hb62:b<2^62:=Ud hb (Ua (by omega) (by omega));have hi62:2^i<=2^62:=Ua (by omega) (by omega);rw[CA i (by omega),WS,WS];have hle:(Wl 64 b&&& ~~~Wl 64 (2^i)).toNat<=b:=by
  rw[BitVec.toNat_and,Ws,Vt (show b<2^64 by omega)];exact Nat.and_le_left
 have hbit: ∀j,j<n->(Wl 64 b&&& ~~~Wl 64 (2^i)).toNat.testBit j=(b.testBit j&& !decide (i=j)):=fun j hj=>by
  rw[BitVec.toNat_and,Nat.testBit_and,Ws,Vt (show b<2^64 by omega),BitVec.testBit_toNat,BitVec.getLsbD_not,BitVec.getLsbD_ofNat,Nat.testBit_two_pow];rw[decide_eq_true (show j<64 by omega),Uy,Uy]
 refine⟨(Wl 64 b&&& ~~~Wl 64 (2^i)).toNat,?_,az (by omega) (by omega),hbit⟩;refine Nat.lt_of_le_of_ne hle fun e=> ?_;have:=hbit i hi;rw[e,ht]at this;simp at this
theorem Ph{n b c i:Nat}(h: ∀j,j<n->c.testBit j=(b.testBit j&& !decide (i=j))):ey n c=(ey n b).filter fun x=> !((i:Int)==x):=by
 unfold ey;rw[List.filter_map,List.filter_filter];congr 1;refine List.filter_congr fun j hj=> ?_;rw[h j (T2.1 hj),Bool.and_comm];congr 1;show(!decide (i=j))= !((i:Int)==(j:Int));congr 1;by_cases e:i=j
 ·subst e;simp
 ·have: ¬(i:Int)=(j:Int):=by omega
  rw[decide_eq_false e,beq_eq_false_iff_ne.2 this]
theorem erase_filter: ∀{R:List Int},R.Nodup-> ∀{i:Nat} (hi:i<R.length),R.eraseIdx i=R.filter fun x=> !(R[i]==x)
 | [],_,i,hi=>by simp at hi
 | x::R,h,0,hi=>by
  have h1:=List.nodup_cons.1 h;show R=(x::R).filter fun y=> !(x==y);rw[V1,if_neg (by simp)];exact(VY.2 fun y hy=>by
   have: ¬x=y:=fun e=>h1.1 (e▸hy);rw[beq_eq_false_iff_ne.2 this];rfl).symm
 | x::R,h,i+1,hi=>by
  have h1:=List.nodup_cons.1 h;have hi2:i<R.length:=by simpa using hi
  show x::R.eraseIdx i=(x::R).filter fun y=> !(R[i]==y);have: ¬R[i]=x:=fun e=>h1.1 (e▸Uo hi2);rw[V1,if_pos (by rw[beq_eq_false_iff_ne.2 this];rfl),erase_filter h1.2 hi2]
def wR(rep:List Int->Bool)(R:List Int):Bool:=R.any fun i=>rep (R.filter fun x=> !(i==x))
theorem I6{rep:List Int->Bool}{R:List Int}(hR:R.Nodup):jI rep R=(rep R&& !wR rep R):=by
 unfold jI wR;congr 1;rw[Va,Tt,Un,Wa];constructor
 ·intro h x hx;obtain⟨i,hi,rfl⟩:=VU.1 hx;have:=h i (T2.2 hi);rw[erase_filter hR hi]at this;simpa using this
 ·intro h i hi;have hi:=T2.1 hi;have:=h R[i] (Uo hi);rw[erase_filter hR hi];simpa using this
theorem IU{n:Nat}{rep:List Int->Bool}(hr:CF n rep){R:List Int}(hR:ik n R)(h:wR rep R=true):rep R=true:=by
 unfold wR at h;obtain⟨i,hi,h⟩:=Uh.1 h;exact hr _ R (hR.sub List.filter_sublist) hR (fun x hx=>(Tu.1 hx).1) h
def outs(rep:List Int->Bool)(n b:Nat):List (List Int):=((TU b).filter fun c=>jI rep (ey n c)).map (ey n)
theorem M6(rep:List Int->Bool)(n b:Nat):outs rep n (b+1)=outs rep n b++(bif jI rep (ey n b)then[ey n b]else[]):=by
 unfold outs;rw[List.range_succ,Vm,U9];congr 1;cases h:jI rep (ey n b)<;>simp[h]
theorem yT(rep:List Int->Bool)(n b:Nat):(outs rep n b).length<=b:=by
 unfold outs;rw[TM];have:=UN (fun c=>jI rep (ey n c)) (TU b);rw[Wb]at this;exact this
theorem yJ{rep:List Int->Bool}{n:Nat}{Q:List Int}:Q∈outs rep n (2^n)↔ik n Q/\jI rep Q=true:=by
 unfold outs;rw[TF];constructor
 ·rintro⟨b,hb,rfl⟩;rw[Tu]at hb;exact⟨rH n b,hb.2⟩
 ·rintro⟨h1,h2⟩;obtain⟨b,hb,rfl⟩:=zz n h1;exact⟨b,Tu.2 ⟨T2.2 hb,h2⟩,rfl⟩
def Hu(rep:List Int->Bool)(n b:Nat)(g:List Bool):Prop:=g.length=2^n/\ ∀c,c<b->g[c]? =some (rep (ey n c))
theorem zM{A:Type}{D:List (List Int)×List Bool->A}{rep:List Int->Bool}{n:Nat}{B:Int->List (List Int)×List Bool->Option (List (List Int)×List Bool)}
  (hB: ∀(b:Nat) (o:List (List Int)) (g:List Bool),b<2^n->o.length<=b->Hu rep n b g->B (b:Int) (o,g)=some (o++(bif jI rep (ey n b)then[ey n b]else[]),g.set b (rep (ey n b)))):
  ∀(k b:Nat) (g:List Bool),b+k=2^n->Hu rep n b g-> ∃g',dm (fun i s=>(B (i:Int) s).map (Vp (β:=A))) D k b (outs rep n b,g)=some (D (outs rep n (2^n),g'))
 | 0,b,g,hb,hg=>⟨g,by rw[show b=2^n by omega];rfl⟩
 | k+1,b,g,hb,hg=>by
  obtain⟨g',h⟩:=zM hB k (b+1) (g.set b (rep (ey n b))) (by omega) ⟨by rw[VN];exact hg.1,fun c hc=>by
   rw[WE];by_cases e:b=c
   ·subst e;rw[if_pos rfl,if_pos (by rw[hg.1];omega)]
   ·rw[if_neg e];exact hg.2 c (by omega)⟩
  refine⟨g',?_⟩;unfold dm;rw[hB b _ g (by omega) (yT rep n b) hg,<-M6];exact h
theorem LN{rep:List Int->Bool}{n b:Nat}(hb:b<2^n)(hn:n<=60){g:List Bool}(hg:Hu rep n b g){i:Int}(hi:i∈ey n b):sh' i=some ()/\at' g (ap ((Us 64 (b:Int)&&& ~~~Us 64 (ap (1*2^min (Tv i) 64))).toNat:Int))=some (rep ((ey n b).filter fun x=> !(i==x))):=by
 obtain⟨m,rfl,hm,ht⟩:=yL.1 hi;obtain⟨c,h1,h2,h3⟩:=Rx b m n hb hn hm ht;refine⟨by unfold sh';rw[if_pos (by omega)],?_⟩;rw[h2,aG,hg.2 c h1,Ph h3]
theorem GK{rep:List Int->Bool}{n b:Nat}(hb:b<2^n)(hn:n<=60){g:List Bool}(hg:Hu rep n b g):br (ey n b) g (b:Int)=some (wR rep (ey n b)):=by
 have hl:=vo n b;unfold br cE jy wR;rw[gg (by omega) (fun i=>rep ((ey n b).filter fun x=> !(i==x))) (fun k x hx=>by
  obtain⟨h1,h2⟩:=LN hb hn hg (Tm hx);rw[aG,hx,Ti,h1,Ti,h2];rfl),Ti,kW]
theorem BK{L:List Claim}(hc:bh L=true):fk L=some (n3 (outs (gp L) L.length (2^L.length))):=by
 have h12:=(aH.1 hc).1;have hpow:2^L.length<=2^12:=Ua (by omega) h12;have hpos:1<=2^L.length:=Nat.one_le_two_pow;have h0:sh' (L.length:Int)=some ():=by unfold sh';rw[if_pos (by omega)]
 unfold fk;rw[h0,Ti,CA L.length (by omega),Cs _ (by omega),Ti,Ti,eZ,fM _ (by omega)];have hlo:=yT (gp L) L.length (2^L.length);obtain⟨g',h⟩:=zM (A:=List (List Int)) (D:=fun s=>s.1) (rep:=gp L) (n:=L.length) (B:=fun(i6:Int) (s6:(List (List Int))×(List Bool))=>((gL i6).bind fun x10=>((br x10 s6.2 i6).bind fun x11=>(((bif x11 then((at' s6.2 i6).bind fun _=>some (true,(T0 s6.2 (Tv i6) true)))else((k7 L x10).bind fun x13=>((at' s6.2 i6).bind fun _=>some (false,(T0 s6.2 (Tv i6) x13)))))).bind fun(j15:Bool×(List Bool))=>((((at' j15.2 i6).bind fun x17=>(bif x17 then some (!j15.1)else some false))).bind fun(j18:Bool)=>(bif j18 then((bW s6.1 ([x10]:List (List Int))).bind fun x20=>some (x20,j15.2))else some (s6.1,j15.2))))))) (fun b o g hb ho hg=>by
  have hl:=vo L.length b;have hgl:=hg.1;have hinc:=rH L.length b;have hat:at' g (b:Int)=some (g[b]'(by omega)):=by rw[aG,Tk]
  have hset: ∀v:Bool,at' (g.set b v) (b:Int)=some v:=fun v=>by rw[aG,WE,if_pos rfl,if_pos (by omega)]
  rw[pE (n:=L.length) (by omega) hb,Ti,GK hb (by omega) hg,Ti,I6 hinc.nodup,Dk hc (by omega)];cases hls:wR (gp L) (ey L.length b)
  ·simp only[cond_false,Ti,hat,TG,hset,Uj];cases gp L (ey L.length b)
   ·simp
   ·simp only[cond_true,Wo];rw[ci (by simp;omega)];rfl
  ·rw[IU (DI hc) hinc hls];simp only[cond_true,Ti,hat,TG,hset,TO,Bool.and_false,cond_false,Up])
  (2^L.length) 0 (UH (2^L.length) false) (by omega) ⟨by simp,fun c hc=>by omega⟩
 have e0:outs (gp L) L.length 0=[]:=rfl;rw[e0]at h;rw[h,Ti];unfold aU;rw[if_pos (by show(outs (gp L) L.length (2^L.length)).length<=1000000000;omega)];rfl
def Q9(L:List Claim)(x:Int):Int:=((L[x.toNat]?).map Claim.Weight).getD 0
def wt(L:List Claim)(R:List Int):Int:=R.foldl (fun s x=>s+Q9 L x) 0
theorem vW{L:List Claim}(hc:bh L=true){R:List Int}(hR:ik L.length R):jv L R=some (wt L R):=by
 have h12:=(aH.1 hc).1;have hl:=hR.len;unfold jv wt;rw[Qo R (by omega) (fun(_:Int) x7 (s3:Int)=>((at' L x7).bind fun x8=>some (ap (s3+x8.Weight))))];have key: ∀(M:List Int) (k:Nat) (s:Int),(∀x∈M,x∈R)->0<=s->s+100*M.length<=100000->mV (fun(_:Nat) (x7:Int) (s3:Int)=>((at' L x7).bind fun x8=>some (ap (s3+x8.Weight))).map (Vp (β:=Int))) (fun s=>s) M k s=some (M.foldl (fun s x=>s+Q9 L x) s):=by
  intro M
  induction M with
  | nil=>intro k s _ _ _;rfl
  | cons x M ih=>
   intro k s hM h0 hs;have hx:=hR.2 x (hM x (by simp));have hlt:x.toNat<L.length:=by omega
   have hat:at' L x=some L[x.toNat]:=by
    have:=aG (L:=L) x.toNat;rw[show((x.toNat:Nat):Int)=x by omega]at this;rw[this,Tk hlt]
   have hw:Q9 L x=L[x.toNat].Weight:=by unfold Q9;rw[Tk hlt];rfl
   have hcl:=(aH.1 hc).2 _ (Uo hlt);unfold cB at hcl;simp only[Tp]at hcl;have hwt:=io.1 hcl.2.2.2.2;simp only[Ty]at hs;unfold mV;rw[hat,Ti,az (by omega) (by omega),UP,hw];exact ih (k+1) _ (fun y hy=>hM y (by simp[hy])) (by omega) (by omega)
 rw[key R 0 0 (fun _ h=>h) (Wk _) (by omega)];rfl
theorem pX{L:List Claim}(hc:bh L=true){R:List Int}(hR:ik L.length R):gm L R=some (wt L R):=vW hc hR
theorem Gp(x y:Int):dL x y=some (if x<y then -1 else if y<x then 1 else 0):=by
 unfold dL je;simp only[bne_self_eq_false,Ti,cond_false];by_cases h1:x<y
 ·rw[decide_eq_true h1,if_pos h1];rfl
 ·rw[decide_eq_false h1,if_neg h1];by_cases h2:y<x
  ·rw[decide_eq_true (show x>y from h2),if_pos h2];rfl
  ·rw[decide_eq_false (show ¬x>y from h2),if_neg h2];rfl
theorem Lt(x y:Int):jd x y=some (if x<y then -1 else if y<x then 1 else 0):=Gp x y
theorem J7{a b:List Int}(ha:a.length<=1000000)(_hb:b.length<=1000000):gP a b=some (cmpL a b):=by
 unfold gP;rw[Qn (A:=Unit⊕Int) a (by omega) (fun(i3:Int) x7 (_:Unit)=>(bif(decide (i3>=(b.length:Int)))then some (U4 (U4 1))else((at' b i3).bind fun x8=>((dL x7 x8).bind fun x9=>(bif(x9 !=0)then some (U4 (U4 x9))else some (Vp ()))))))];have key: ∀(M:List Int) (k:Nat),k+M.length=a.length->k<=b.length-> ∃r,mV (fun(i3:Nat) x7 (_:Unit)=>(bif(decide ((i3:Int)>=(b.length:Int)))then some (U4 (U4 1))else((at' b (i3:Int)).bind fun x8=>((dL x7 x8).bind fun x9=>(bif(x9 !=0)then some (U4 (U4 x9))else some (Vp ())))))) (fun _=>(Vp ():Unit⊕Int)) M k ()=some r/\TC (fun(_:Unit)=>(bif(decide ((a.length:Int)<(b.length:Int)))then some (-1)else some 0)) some r=some (cmpL M (b.drop k)):=by
  intro M
  induction M with
  | nil=>
   intro k hk hkb;refine⟨.inl (),rfl,?_⟩;simp only[T6];simp only[UC,Uw]at hk;by_cases h:a.length<b.length
   ·rw[decide_eq_true (show(a.length:Int)<b.length by omega)];rw[Uc (show k<b.length by omega)];rfl
   ·rw[decide_eq_false (show ¬(a.length:Int)<b.length by omega),UL (by omega)];rfl
  | cons x M ih=>
   intro k hk hkb;simp only[Ty]at hk;unfold mV;by_cases h:k<b.length
   ·rw[decide_eq_false (show ¬(k:Int)>=b.length by omega),cond_false,aG,Tk h,Ti,Gp,Ti,Uc h,q6];by_cases h1:x<b[k]
    ·rw[if_pos h1,if_pos h1];exact⟨_,rfl,rfl⟩
    ·by_cases h2:b[k]<x
     ·rw[if_neg h1,if_pos h2,if_neg h1,if_pos h2];exact⟨_,rfl,rfl⟩
     ·rw[if_neg h1,if_neg h2,if_neg h1,if_neg h2];exact ih (k+1) (by omega) (by omega)
   ·rw[decide_eq_true (show(k:Int)>=b.length by omega),UL (by omega)];exact⟨_,rfl,rfl⟩
 obtain⟨r,h1,h2⟩:=key a 0 (by omega) (Ul _);rw[h1,Ti,h2];rfl
theorem NR{L:List Claim}(hc:bh L=true){a b:List Int}(ha:ik L.length a)(hb:ik L.length b): ∃r,dS a b L=some r/\(decide (r<0)=true↔mT (wt L) a b):=by
 have h12:=(aH.1 hc).1;have hla:=ha.len;have hlb:=hb.len;unfold dS;rw[vW hc ha,vW hc hb,Ti,Ti,Gp,Ti,Lt,Ti,J7 (by omega) (by omega),Ti];generalize hp:(if wt L a<wt L b then(-1:Int)else if wt L b<wt L a then 1 else 0)=p;generalize hq:(if(a.length:Int)<(b.length:Int)then(-1:Int)else if(b.length:Int)<(a.length:Int)then 1 else 0)=q;generalize hr:cmpL a b=r;have hor:jN [p,q,r]=some (if p≠0 then p else if q≠0 then q else r):=by
  unfold jN;rw[gf (L:=[p,q,r]) (by simp) (fun _ x=>x !=0) (fun _ x=>x) (fun i x hx=>by rw[aG,hx];rfl)];by_cases h1:p=0
  ·subst h1;by_cases h2:q=0
   ·subst h2;by_cases h3:r=0
    ·subst h3;rfl
    ·have e3:(r !=0)=true:=by simpa using h3
     simp only[cr,bne_self_eq_false,cond_false,e3,cond_true];simp
   ·have e2:(q !=0)=true:=by simpa using h2
    simp only[cr,bne_self_eq_false,cond_false,e2,cond_true];simp[h2]
  ·have e1:(p !=0)=true:=by simpa using h1
   simp only[cr,e1,cond_true];simp[h1]
 rw[hor,Ti];refine⟨_,rfl,?_⟩;rw[decide_eq_true_eq];unfold mT;rw[hr];by_cases h1:wt L a<wt L b
 ·rw[if_pos h1]at hp;subst hp;exact⟨fun _=> .inl h1,fun _=>by simp⟩
 ·by_cases h2:wt L b<wt L a
  ·rw[if_neg h1,if_pos h2]at hp;subst hp;exact⟨fun h=>by simp at h,fun h=>by omega⟩
  ·rw[if_neg h1,if_neg h2]at hp;subst hp;have hw:wt L a=wt L b:=by omega
   by_cases h3:a.length<b.length
   ·rw[if_pos (show(a.length:Int)<b.length by omega)]at hq;subst hq;exact⟨fun _=> .inr ⟨hw,.inl h3⟩,fun _=>by simp⟩
   ·by_cases h4:b.length<a.length
    ·rw[if_neg (by omega),if_pos (show(b.length:Int)<a.length by omega)]at hq;subst hq;exact⟨fun h=>by simp at h,fun h=>by omega⟩
    ·rw[if_neg (by omega),if_neg (by omega)]at hq;subst hq;have hle:a.length=b.length:=by omega
     simp only[ne_eq,not_true_eq_false,if_false];exact⟨fun h=> .inr ⟨hw,.inr ⟨hle,h⟩⟩,fun h=>by omega⟩
theorem FF{α S A:Type}{B:Int->S->Option S}{D:S->A}(I:S->Prop)(g:S->α->S): ∀(M:List α) (k:Nat) (s:S),(∀j x s,M[j]? =some x->I s->B ((k+j:Nat):Int) s=some (g s x)/\I (g s x))->I s->dm (fun i s=>(B (i:Int) s).map (Vp (β:=A))) D M.length k s=some (D (M.foldl g s))/\I (M.foldl g s)
 | [],_,_,_,h=>⟨rfl,h⟩
 | x::l,k,s,h,h2=>by
  have h3:=h 0 x s rfl h2;rw[Uw]at h3;rw[Ty];unfold dm;rw[h3.1];exact FF I g l (k+1) _ (fun j y s hy hs=>by
   have:=h (j+1) y s (by rw[U1];exact hy) hs;rw[show k+1+j=k+(j+1) by omega];exact this) h3.2
theorem DD{L:List Claim}(_hc:bh L=true): ∃Q,ik L.length Q/\jI (gp L) Q=true:=by
 have hI:ik L.length ((TU L.length).map fun(i:Nat)=>(i:Int)):=by
  refine⟨?_,fun x hx=> ?_⟩
  ·rw[Vz];exact(VE (n:=L.length)).imp fun h=>by omega
  ·obtain⟨i,hi,rfl⟩:=TF.1 hx;have:=T2.1 hi;omega
 have hk:lR L ((TU L.length).map fun(i:Nat)=>(i:Int))=[]:=by
  rw[UB];intro c hc;obtain⟨i,hn,hi⟩:=DC.1 hc;exact hn (TF.2 ⟨i,T2.2 (Tl.1 hi).1,rfl⟩)
 have hr:gp L ((TU L.length).map fun(i:Nat)=>(i:Int))=true:=by
  unfold gp;rw[hk];rfl
 obtain⟨Q,h1,h2,_⟩:=Kj _ _ (TA _) hI hr;exact⟨Q,h1,h2⟩
theorem Ni{L:List Claim}(hc:bh L=true): ∃b,eM L=some (b,wt L b)/\il (wt L) (kV (gp L) L.length (L.length+1) 0 []) b:=by
 have h12:=(aH.1 hc).1;obtain⟨Q,q1,q2⟩:=DD hc;have hQ:=(Cv hc).2 ⟨q1,q2⟩;have hsort:=AZ (rep:=gp L) (n:=L.length) (L.length+1) 0 [];have hlen:=CL (n:=L.length) (rep:=gp L) (L.length+1) 0 [] (by omega);have hinc: ∀x∈kV (gp L) L.length (L.length+1) 0 [],ik L.length x:=fun x hx=>((Cv hc).1 hx).1;have hpow:2^(L.length - 0)<=2^12:=Ua (by omega) (by omega);unfold eM;rw[O8 hc,Ti];generalize kV (gp L) L.length (L.length+1) 0 []=l at*;cases l with
 | nil=>simp at hQ
 | cons a l=>
  have h0:at' (a::l) 0=some a:=aG (L:=a::l) 0;have ha:=hinc a (by simp);obtain⟨h1,h2⟩:=BC (L:=a::l) (by omega) (B:=fun(i5:Int) (s5:(List Int))=>((at' (a::l) i5).bind fun x9=>((gm L x9).bind fun x10=>((gm L s5).bind fun x11=>(((bif(decide (x10<x11))then some true else(bif(x10==x11)then((at' (a::l) i5).bind fun x12=>some (decide ((x12.length:Int)<(s5.length:Int))))else some false))).bind fun(j13:Bool)=>(bif j13 then((at' (a::l) i5).bind fun x15=>some x15)else some s5)))))) (D:=fun s=>s) (ik L.length) (fun b a=>if wt L a<wt L b\/(wt L a=wt L b/\a.length<b.length)then a else b) a (fun i x s hx hs=>by
   have hxi:=hinc x (Tm hx);have hat:at' (a::l) (i:Int)=some x:=by rw[aG,hx]
   simp only[hat,Ti,pX hc hxi,pX hc hs];by_cases c1:wt L x<wt L s
   ·rw[decide_eq_true c1,if_pos (.inl c1)];exact⟨rfl,hxi⟩
   ·rw[decide_eq_false c1,cond_false];by_cases c2:wt L x=wt L s
    ·rw[beq_iff_eq.2 c2,cond_true,Ti];by_cases c3:x.length<s.length
     ·rw[decide_eq_true (show(x.length:Int)<s.length by omega),if_pos (.inr ⟨c2,c3⟩)];exact⟨rfl,hxi⟩
     ·rw[decide_eq_false (show ¬(x.length:Int)<s.length by omega),if_neg (by omega)];exact⟨rfl,hs⟩
    ·rw[beq_eq_false_iff_ne.2 c2,if_neg (by omega)];exact⟨rfl,hs⟩) ha
  rw[h0,Ti,h1,Ti,pX hc h2,Ti];refine⟨_,rfl,?_⟩;rw[UP,if_neg (by omega)];exact yy (w:=wt L) l [a] a hsort ⟨by simp,fun r hr=> .inl (TH.1 hr)⟩
theorem MD{L:List Claim}(hc:bh L=true): ∃b,cY L=some b/\il (wt L) (n3 (outs (gp L) L.length (2^L.length))) b:=by
 have h12:=(aH.1 hc).1;obtain⟨Q,q1,q2⟩:=DD hc;have hQ:Q∈n3 (outs (gp L) L.length (2^L.length)):=(nn _).mem_iff.2 (yJ.2 ⟨q1,q2⟩);have hpow:2^L.length<=2^12:=Ua (by omega) h12;have hlen:(n3 (outs (gp L) L.length (2^L.length))).length<=2^L.length:=by
  rw[AH];exact yT _ _ _
 have hinc: ∀x∈n3 (outs (gp L) L.length (2^L.length)),ik L.length x:=fun x hx=>(yJ.1 ((nn _).mem_iff.1 hx)).1;unfold cY;rw[BK hc,Ti];generalize n3 (outs (gp L) L.length (2^L.length))=l at*;cases l with
 | nil=>simp at hQ
 | cons a l=>
  rw[Ty]at hlen;have h0:at' (a::l) 0=some a:=aG (L:=a::l) 0;have ha:=hinc a (by simp);have hcl: ∀x y,ik L.length x->ik L.length y-> ∃r,dS x y L=some r/\(decide (r<0)=true↔mT (wt L) x y):=fun x y hx hy=>NR hc hx hy;obtain⟨h1,h2⟩:=FF (A:=List Int) (B:=fun(i6:Int) (s6:(List Int))=>((at' (a::l) i6).bind fun x10=>((dS x10 s6 L).bind fun x11=>(bif(decide (x11<0))then((at' (a::l) i6).bind fun x12=>some x12)else some s6)))) (D:=fun s=>s) (ik L.length) (fun b a=>bif @decide (mT (wt L) a b) (Classical.propDecidable _)then a else b) l 1 a (fun j x s hx hs=>by
   have hxi:=hinc x (T1 _ (Tm hx));have hat:at' (a::l) ((1+j:Nat):Int)=some x:=by rw[aG,Nat.add_comm,U1,hx]
   obtain⟨r,r1,r2⟩:=hcl x s hxi hs;simp only[hat,Ti,r1];cases hr:decide (r<0)
   ·have: ¬mT (wt L) x s:=fun h=>by rw[r2.2 h]at hr;cases hr
    rw[@decide_eq_false _ (Classical.propDecidable _) this];exact⟨rfl,hs⟩
   ·rw[@decide_eq_true _ (Classical.propDecidable _) (r2.1 hr)];exact⟨rfl,hxi⟩) ha
  unfold cX;rw[decide_eq_false (show ¬((a::l).length:Int)<1 by rw[Ty];omega),cond_false,Ti,h0,Ti,eZ];have hfr:=vB (n:=((a::l).length:Int)) 1 (by rw[Ty];omega) (fun(i:Int) (s:List Int)=>(((at' (a::l) i).bind fun x10=>((dS x10 s L).bind fun x11=>(bif(decide (x11<0))then((at' (a::l) i).bind fun x12=>some x12)else some s)))).map (Vp (β:=List Int))) (fun s=>s) a;rw[show(((a::l).length:Int)-(1:Nat)).toNat=l.length by rw[Ty];omega]at hfr;refine⟨_,(congrArg (fun o:Option (List Int)=>(o.bind fun j4=>some j4).bind fun x2=>some x2) (hfr.trans h1)).trans rfl,?_⟩;exact xu (w:=wt L) _ (fun a b=>by rw[@decide_eq_true_eq _ (Classical.propDecidable _)]) l [a] a ⟨by simp,fun r hr=> .inl (TH.1 hr)⟩
theorem Lq{L:List Claim}(hc:bh L=true): ∃b,cY L=some b/\eM L=some (b,wt L b)/\ik L.length b/\jI (gp L) b=true:=by
 obtain⟨b,b1,b2⟩:=MD hc;obtain⟨c,c1,c2⟩:=Ni hc;have hbc:b=c:=il.unique (fun x=>by rw[(nn _).mem_iff,yJ,Cv hc]) b2 c2;subst hbc;have hm:=(Cv hc).1 c2.1;exact⟨b,b1,c1,hm.1,hm.2⟩
theorem zg{L:List Claim}(hc:bh L=true){b:List Int}(hb:eM L=some (b,wt L b))(hi:ik L.length b):mL L=some (lR L b):=by
 have h1:=(aH.1 hc).1;have h4:=y4 L.length b;have h5:=hi.len;unfold mL;rw[hb,Ti];show((kJ L b).bind _)=_;rw[zt (by omega) (by omega),Ti,pM (by omega) (fun x hx=>by
  obtain⟨i,rfl,hi,_⟩:=yK.1 hx;omega),Ti]
 rfl
theorem IG{L:List Claim}(hc:bh L=true)(b:List Int):bh (lR L b)=true:=by
 have h1:=(aH.1 hc).1;have h2:=HL L (Bl L.length b);have h4:=y4 L.length b;exact aH.2 ⟨by unfold lR;omega,(qk hc b).2⟩
theorem IH{L:List Claim}{b:List Int}{x:Claim}(h:x∈lR L b):x∈L:=HM h
def qZ(L:List Claim)(b:List Int)(k:Int)(p:ByteArray)(y:Int):ByteArray×Int:=bif abC L p y !=0 then(Tj #[],abC L p y)else match tel (lR L b) k p y with | some v=>(v,0) | none=>(Tj #[],4)
theorem JJ{L:List Claim}{b:List Int}{p:ByteArray}{y:Int}(h0:(abC L p y !=0)=false)(hm:jI (gp L) b=true)(k:Int):Ns (lR L b) k p y=qZ L b k p y:=by
 have hz:(abC L p y==0)=true:=by
  rw[bne,Wt]at h0;exact h0
 have hc:=qX hz;have hz':abC (lR L b) p y=0:=by
  unfold abC at hz⊢;rw[IG hc b];rw[hc]at hz;exact beq_iff_eq.1 hz
 have hso:soC (lR L b) p y=0:=by
  unfold soC;rw[hz'];have:nL (lR L b)=true:=I4 hm;rw[this];rfl
 unfold Ns qZ;rw[hso,h0];rfl
theorem uA{L:List Claim}(hL:L.length<=1048576)(h: ∀x∈L,cJ x){p:ByteArray}(hp:p.size<=1048576)(k y:Int){b:List Int}(hb:bh L=true->cY L=some b/\ik L.length b):kY L k p y=some (qZ L b k p y):=by
 unfold kY qZ;rw[EE hL h hp,Ti];cases h0:(abC L p y !=0)
 ·have hc:bh L=true:=qX (p:=p) (y:=y) (by rw[bne,Wt]at h0;exact h0);have h12:=(aH.1 hc).1;obtain⟨b1,b2⟩:=hb hc;have h5:=b2.len;have h6:=(qk hc b).1;rw[cond_false,cond_false,b1,Ti,yl (by omega) (by omega),Ti,GO (by omega),Ti];cases tel (lR L b) k p y<;>rfl
 ·rfl
theorem PT(L:List Claim): ∃b,bh L=true->cY L=some b/\eM L=some (b,wt L b)/\ik L.length b/\jI (gp L) b=true:=by
 cases hc:bh L
 ·exact⟨[],fun h=>by cases h⟩
 ·obtain⟨b,h⟩:=Lq hc;exact⟨b,fun _=>h⟩
theorem J2{L:List Claim}(hL:L.length<=1048576)(h: ∀x∈L,cJ x){p:ByteArray}(hp:p.size<=1048576)(y:Int){b:List Int}(hb:bh L=true->cY L=some b/\eM L=some (b,wt L b)/\ik L.length b/\jI (gp L) b=true):kX L p y=some (qZ L b 0 p y)/\lj L p y=some (qZ L b 0 p y):=by
 constructor
 ·unfold kX;rw[uA hL h hp 0 y fun hc=>⟨(hb hc).1,(hb hc).2.2.1⟩];rfl
 ·unfold lj;rw[sD hL h hp,Ti];cases h0:(abC L p y !=0)
  ·have hc:bh L=true:=qX (p:=p) (y:=y) (by rw[bne,Wt]at h0;exact h0);obtain⟨_,b2,b3,b4⟩:=hb hc;have h6:=(qk hc b).1;rw[cond_false,zg hc b2 b3,Ti,D9 (by omega) (fun x hx=>h x (IH hx)) hp,JJ h0 b4];rfl
  ·unfold qZ;rw[h0];rfl
theorem Gj{L:List Claim}(hL:L.length<=1048576)(h: ∀x∈L,cJ x){p:ByteArray}(hp:p.size<=1048576)(y:Int){b:List Int}(hb:bh L=true->cY L=some b/\eM L=some (b,wt L b)/\ik L.length b/\jI (gp L) b=true):jf L p y=some (qZ L b 1 p y)/\jm L p y=some (qZ L b 1 p y):=by
 constructor
 ·unfold jf;rw[uA hL h hp 1 y fun hc=>⟨(hb hc).1,(hb hc).2.2.1⟩];rfl
 ·unfold jm;rw[sD hL h hp,Ti];cases h0:(abC L p y !=0)
  ·have hc:bh L=true:=qX (p:=p) (y:=y) (by rw[bne,Wt]at h0;exact h0);obtain⟨_,b2,b3,b4⟩:=hb hc;have h6:=(qk hc b).1;rw[cond_false,zg hc b2 b3,Ti,AP (by omega) (fun x hx=>h x (IH hx)) hp,JJ h0 b4];rfl
  ·unfold qZ;rw[h0];rfl
def gv(L:List Claim)(R:List Int):Bool:= !nL (tF L R)
theorem tI{L:List Claim}(hc:bh L=true):CF L.length (gv L):=fun R Q hR hQ hs h=>by
 have h12:=(aH.1 hc).1;have hq:=hQ.len;have hr:=hR.len;unfold gv at h⊢;rw[Un]at h⊢;rw[TS];intro hk;rw[w6 (M:=tF L R) (q5 (by omega) hc).1 (q5 (by omega) hc).1 (fun x hx=>by
  obtain⟨i,hi,hx⟩:=CQ.1 hx;exact CQ.2 ⟨i,hs _ hi,hx⟩) (q5 (by omega) hc).2 hk]at h
 cases h
theorem yj{L:List Claim}(hc:bh L=true){R:List Int}(hR:ik L.length R):lO L R=some (tF L R)/\cd (tF L R)=some (!gv L R):=by
 have h12:=(aH.1 hc).1;have hl:=hR.len;obtain⟨h1,h2⟩:=q5 (L:=L) (I:=R) (by omega) hc;refine⟨uw (by omega) hR.2,?_⟩;rw[fZ h1 h2];unfold gv;rw[WC]
theorem kE{L:List Claim}(hc:bh L=true){R:List Int}(hR:ik L.length R):eW L R=some (tF L R)/\bP (tF L R)=some (!gv L R):=by
 have h12:=(aH.1 hc).1;have hl:=hR.len;obtain⟨h1,h2⟩:=q5 (L:=L) (I:=R) (by omega) hc;refine⟨pM (by omega) hR.2,?_⟩;rw[kS h1 h2];unfold gv;rw[WC]
theorem EK{rep:List Int->Bool}{n b:Nat}(hb:b<2^n)(hn:n<=60){g:List Bool}(hg:Hu rep n b g):bL (ey n b) g (b:Int)=some (wR rep (ey n b)):=by
 have hl:=vo n b;unfold bL dc pD wR;rw[gg (by omega) (fun i=>rep ((ey n b).filter fun x=> !(i==x))) (fun k x hx=>by
  obtain⟨h1,h2⟩:=LN hb hn hg (Tm hx);rw[aG,hx,Ti,h1,Ti,h2];rfl),Ti,kW]
theorem EH{L:List Claim}(hc:bh L=true):mi L=some (n3 (outs (gv L) L.length (2^L.length))):=by
 have h12:=(aH.1 hc).1;have hpow:2^L.length<=2^12:=Ua (by omega) h12;have hpos:1<=2^L.length:=Nat.one_le_two_pow;have h0:sh' (L.length:Int)=some ():=by unfold sh';rw[if_pos (by omega)]
 unfold mi;rw[h0,Ti,CA L.length (by omega),Cs _ (by omega),Ti,Ti,eZ,fM _ (by omega)];have hlo:=yT (gv L) L.length (2^L.length);obtain⟨g',h⟩:=zM (A:=List (List Int)) (D:=fun s=>s.1) (rep:=gv L) (n:=L.length) (B:=fun(i6:Int) (s6:(List (List Int))×(List Bool))=>((gL i6).bind fun x10=>((bL x10 s6.2 i6).bind fun x11=>(((bif x11 then((at' s6.2 i6).bind fun _=>some (true,(T0 s6.2 (Tv i6) true)))else((lO L x10).bind fun x13=>((cd x13).bind fun x14=>((at' s6.2 i6).bind fun _=>some (false,(T0 s6.2 (Tv i6) (!x14)))))))).bind fun(j16:Bool×(List Bool))=>((((at' j16.2 i6).bind fun x18=>(bif x18 then some (!j16.1)else some false))).bind fun(j19:Bool)=>(bif j19 then((bW s6.1 ([x10]:List (List Int))).bind fun x21=>some (x21,j16.2))else some (s6.1,j16.2))))))) (fun b o g hb ho hg=>by
  have hl:=vo L.length b;have hgl:=hg.1;have hinc:=rH L.length b;have hat:at' g (b:Int)=some (g[b]'(by omega)):=by rw[aG,Tk]
  have hset: ∀v:Bool,at' (g.set b v) (b:Int)=some v:=fun v=>by rw[aG,WE,if_pos rfl,if_pos (by omega)]
  rw[pE (n:=L.length) (by omega) hb,Ti,EK hb (by omega) hg,Ti,I6 hinc.nodup,(yj hc hinc).1];simp only[Ti,(yj hc hinc).2,WC];cases hls:wR (gv L) (ey L.length b)
  ·simp only[cond_false,Ti,hat,TG,hset,Uj];cases gv L (ey L.length b)
   ·simp
   ·simp only[cond_true,Wo];rw[ci (by simp;omega)];rfl
  ·rw[IU (tI hc) hinc hls];simp only[cond_true,Ti,hat,TG,hset,TO,Bool.and_false,cond_false,Up])
  (2^L.length) 0 (UH (2^L.length) false) (by omega) ⟨by simp,fun c hc=>by omega⟩
 have e0:outs (gv L) L.length 0=[]:=rfl;rw[e0]at h;rw[h,Ti];unfold aU;rw[if_pos (by show(outs (gv L) L.length (2^L.length)).length<=1000000000;omega)];rfl
theorem Hc{L:List Claim}(hc:bh L=true){R:List Int}(hR:ik L.length R):o5 L R=some (jI (gv L) R):=by
 have h12:=(aH.1 hc).1;have hl:=hR.len;unfold o5 jI;rw[(kE hc hR).1,Ti,(kE hc hR).2,Ti];cases gv L R
 ·rfl
 ·rw[TO,cond_false,gf (by omega) (fun i _=>gv L (R.eraseIdx i)) (fun _ _=>false) (fun i x hx=>by
   have hi:=(Tl.1 hx).1;rw[Er (by omega) hi,Ti,(kE hc (hR.erase i)).1,Ti,(kE hc (hR.erase i)).2,Ti,WC])]
  refine(FA (A:=Bool) (fun i=>gv L (R.eraseIdx i)) false true R).trans ?_;cases (TU R.length).all fun i=> !gv L (R.eraseIdx i)<;>rfl
theorem Iv{S A:Type}{B:Int->S->Option S}{D:S->A}{s a b:S}(h0:B 0 s=some a)(h1:B 1 a=some b):cR 2 B D 0 s=some (D b):=by
 have:=fM (A:=A) 2 (by omega) (fun i s=>(B i s).map Vp) D s;rw[eZ];refine this.trans ?_;have h1':B ((0+1:Nat):Int) a=some b:=h1;have h0':B ((0:Nat):Int) s=some a:=h0;simp[dm,h0,h1]
theorem Hb{L:List Claim}(hc:bh L=true): ∀(k f fuel:Nat) (R:List Int),L.length - f<k->k<=fuel->ik L.length R->fS R f->fJ fuel L R=some (kV (gv L) L.length k f R):=by
 have h12:=(aH.1 hc).1;intro k
 induction k with
 | zero=>intro f fuel R h;omega
 | succ k ih=>
  intro f fuel R hk hfu hR hf;obtain⟨fuel,rfl⟩: ∃q,fuel=q+1:=⟨fuel - 1,by omega⟩;have hl:=hR.len;unfold fJ kV;rw[(kE hc hR).1,Ti,(kE hc hR).2,Ti];cases hrep:gv L R
  ·rw[Uj,TO,cond_false,cond_false,LQ hR (by omega) hf,Ti];rw[eZ,vB f (by omega)];have e:((L.length:Int)-(f:Int)).toNat=L.length - f:=by omega
   rw[e];have key: ∀(m g:Nat) (s:List (List Int)),g+m=L.length->f<=g->s.length+2^m<=100000->dm (fun i (s8:List (List Int))=>(((gT R).bind fun x12=>((bW x12 ([(i:Int)]:List Int)).bind fun x13=>((fJ fuel L x13).bind fun x14=>((bW s8 x14).bind fun x15=>some x15))))).map (Vp (β:=List (List Int)))) (fun s=>s) m g s=some (s++(UM g m).flatMap fun i=>kV (gv L) L.length k (i+1) (R++[(i:Int)])):=by
    intro m
    induction m with
    | zero=>intro g s _ _ _;simp[dm]
    | succ m ihm=>
     intro g s hg hfg hs;have hs2:ik L.length (R++[(g:Int)]):=hR.snoc (by omega) (by omega) fun x hx=>by have:=hf.1 x hx;omega
     have hal:=CL (n:=L.length) (rep:=gv L) k (g+1) (R++[(g:Int)]) (by omega);have e2:L.length -(g+1)=m:=by omega
     rw[e2]at hal;have hp:2^(m+1)=2^m+2^m:=by rw[VS];omega
     have hstep:((gT R).bind fun x12=>((bW x12 ([(g:Int)]:List Int)).bind fun x13=>((fJ fuel L x13).bind fun x14=>((bW s x14).bind fun x15=>some x15))))=some (s++kV (gv L) L.length k (g+1) (R++[(g:Int)])):=by
      rw[LV (by omega),Ti,ci (by simp;omega),Ti,ih (g+1) fuel _ (by omega) (by omega) hs2 (hf.snoc hfg),Ti,ci (by omega),Ti]
     unfold dm;simp only[hstep,UO];show dm _ _ m (g+1) (s++kV (gv L) L.length k (g+1) (R++[(g:Int)]))=_;rw[ihm (g+1) _ (by omega) (by omega) (by rw[Tz];omega),Vv,UE,TX]
   by_cases hfl:f<=L.length
   ·have hpow:2^(L.length - f)<=2^12:=Ua (by omega) (by omega);rw[key (L.length - f) f [] (by omega) (TA _) (by simp;omega)];rfl
   ·have e3:L.length - f=0:=by omega
    rw[e3];rfl
  ·rw[TO,Uj,cond_true,cond_true,Hc hc hR,Ti];cases jI (gv L) R<;>rfl
theorem Nh{L:List Claim}(hc:bh L=true):vf L []=some (kV (gv L) L.length (L.length+1) 0 []):=by
 have h12:=(aH.1 hc).1;exact Hb hc (L.length+1) 0 1000 [] (by omega) (by omega) (ik.nil _) fS.nil
theorem Oz{L:List Claim}(hc:bh L=true){Q:List Int}:Q∈kV (gv L) L.length (L.length+1) 0 []↔ik L.length Q/\jI (gv L) Q=true:=by
 rw[DB (tI hc) _ _ _ (by omega) (ik.nil _) fS.nil];exact⟨fun⟨h1,_,h3⟩=>⟨h1,h3⟩,fun⟨h1,h3⟩=>⟨h1,List.nil_prefix,h3⟩⟩
theorem Pj{n b c:Nat}(hb:b<2^n)(hc:c<2^n)(h:ey n b=ey n c):b=c:=by
 apply Nat.eq_of_testBit_eq;intro i;by_cases hi:i<n
 ·have h1:(i:Int)∈ey n b↔(i:Int)∈ey n c:=by rw[h]
  rw[yL,yL]at h1;rw[Va];constructor
  ·intro ht;obtain⟨j,h2,_,h3⟩:=h1.1 ⟨i,rfl,hi,ht⟩;rw[show i=j by omega];exact h3
  ·intro ht;obtain⟨j,h2,_,h3⟩:=h1.2 ⟨i,rfl,hi,ht⟩;rw[show i=j by omega];exact h3
 ·have hp:2^n<=2^i:=Ua (by omega) (by omega);rw[VF (by omega),VF (by omega)]
theorem KT(rep:List Int->Bool)(n:Nat):(outs rep n (2^n)).Nodup:=by
 unfold outs;show List.Pairwise _ _;rw[Vz];refine((VE (n:=2^n)).filter _).imp_of_mem fun{a b} ha hb h e=> ?_;have h1:=T2.1 (Tu.1 ha).1;have h2:=T2.1 (Tu.1 hb).1;have:=Pj h1 h2 e;omega
theorem Ng{rep:List Int->Bool}{n:Nat}(hr:CF n rep):n3 (outs rep n (2^n))=kV rep n (n+1) 0 []:=by
 refine CV ?_ (AZ _ _ _) fun Q=> ?_
 ·have h1:=G6 (outs rep n (2^n));have h2:(n3 (outs rep n (2^n))).Nodup:=(nn _).nodup_iff.2 (KT rep n);refine(h1.and h2).imp fun{a b} h=> ?_;rcases CU h.2 with h3 | h3
  ·exact h3
  ·exact absurd h3 h.1
 ·rw[(nn _).mem_iff,yJ,DB hr _ _ _ (by omega) (ik.nil _) fS.nil];exact⟨fun⟨h1,h3⟩=>⟨h1,List.nil_prefix,h3⟩,fun⟨h1,_,h3⟩=>⟨h1,h3⟩⟩
section
variable {α : Type}
def kO(lt:α->α->Bool)(A:List α)(x:α):List α:=A.takeWhile (fun y=>lt y x)++x::A.dropWhile (fun y=>lt y x)
def lT(lt:α->α->Bool)(L:List α):List α:=L.foldl (kO lt) []
theorem rC{lt:α->α->Bool}{A:List α}{x z:α}:z∈kO lt A x↔z=x\/z∈A:=by
 unfold kO;have:=Vr (p:=fun y=>lt y x) (l:=A)
 conv=>rhs;rw[<-this]
 simp only[TN,Tx];constructor
 ·rintro(h | h | h)
  ·exact .inr (.inl h)
  ·exact .inl h
  ·exact .inr (.inr h)
 ·rintro(h | h | h)
  ·exact .inr (.inl h)
  ·exact .inl h
  ·exact .inr (.inr h)
theorem AB{lt:α->α->Bool}{A:List α}{x:α}:(kO lt A x).length=A.length+1:=by
 unfold kO;have:=congrArg List.length (Vr (p:=fun y=>lt y x) (l:=A));rw[Tz]at this;rw[Tz,Ty];omega
theorem sR{lt:α->α->Bool}{z:α}: ∀{L A:List α},z∈L.foldl (kO lt) A↔z∈A\/z∈L
 | [],A=>by simp
 | x::L,A=>by
  rw[UP,sR,rC,Tx];constructor
  ·rintro((h | h) | h)
   ·exact .inr (.inl h)
   ·exact .inl h
   ·exact .inr (.inr h)
  ·rintro(h | h | h)
   ·exact .inl (.inr h)
   ·exact .inl (.inl h)
   ·exact .inr h
theorem F3{lt:α->α->Bool}{z:α}{L:List α}:z∈lT lt L↔z∈L:=by
 unfold lT;rw[sR];simp
theorem sQ{lt:α->α->Bool}: ∀{L A:List α},(L.foldl (kO lt) A).length=A.length+L.length
 | [],A=>by simp
 | x::L,A=>by
  rw[UP,sQ,AB,Ty];omega
theorem Nf{lt:α->α->Bool}{L:List α}:(lT lt L).length=L.length:=by
 unfold lT;rw[sQ];simp
theorem wN{lt:α->α->Bool}(tr: ∀a b c,lt a b=true->lt b c=true->lt a c=true){x:α}: ∀{A:List α},A.Pairwise (fun a b=>lt a b=true)->(∀y∈A,lt y x=true\/lt x y=true)-> ∀y∈A.dropWhile (fun y=>lt y x),lt x y=true
 | [],_,_,y,hy=>by cases hy
 | a::A,hp,ht,y,hy=>by
  rw[List.dropWhile_cons]at hy;have hp2:=UI.1 hp;split at hy
  ·exact wN tr hp2.2 (fun z hz=>ht z (T1 _ hz)) y hy
  ·rename_i hn;have hx:lt x a=true:=(ht a TP).resolve_left (by simpa using hn);rcases Tx.1 hy with rfl | hy
   ·exact hx
   ·exact tr _ _ _ hx (hp2.1 y hy)
theorem sq{lt:α->α->Bool}(tr: ∀a b c,lt a b=true->lt b c=true->lt a c=true){x:α}{A:List α}(hp:A.Pairwise (fun a b=>lt a b=true))(ht: ∀y∈A,lt y x=true\/lt x y=true):(kO lt A x).Pairwise (fun a b=>lt a b=true):=by
 have hd:=wN tr hp ht;have hs:=Vr (p:=fun y=>lt y x) (l:=A);have htw: ∀y∈A.takeWhile (fun y=>lt y x),lt y x=true:=fun y hy=>by
  have:=List.all_takeWhile (p:=fun y=>lt y x) (l:=A);exact Tt.1 this y hy
 unfold kO;rw[<-hs]at hp;obtain⟨h1,h2,h3⟩:=Ur.1 hp;refine Ur.2 ⟨h1,UI.2 ⟨hd,h2⟩,fun a ha b hb=> ?_⟩;rcases Tx.1 hb with rfl | hb
 ·exact htw a ha
 ·exact tr _ _ _ (htw a ha) (hd b hb)
def AX(lt:α->α->Bool)(L:List α):Prop:=L.Pairwise (fun a b=>lt a b=true\/lt b a=true)
theorem yd{lt:α->α->Bool}(tr: ∀a b c,lt a b=true->lt b c=true->lt a c=true): ∀{L A:List α},A.Pairwise (fun a b=>lt a b=true)->(∀y∈A,∀x∈L,lt y x=true\/lt x y=true)->AX lt L->(L.foldl (kO lt) A).Pairwise (fun a b=>lt a b=true)
 | [],A,h,_,_=>h
 | x::L,A,h,h2,h3=>by
  have h4:=UI.1 h3;rw[UP];refine yd tr (sq tr h fun y hy=>h2 y hy x TP) (fun y hy z hz=> ?_) h4.2;rcases rC.1 hy with rfl | hy
  ·exact h4.1 z hz
  ·exact h2 y hy z (T1 _ hz)
theorem za{lt:α->α->Bool}(tr: ∀a b c,lt a b=true->lt b c=true->lt a c=true){L:List α}(h:AX lt L):(lT lt L).Pairwise (fun a b=>lt a b=true):=yd tr List.Pairwise.nil (by simp) h
theorem Ls{T:α->α->Option Bool}{lt:α->α->Bool}{P:α->Prop}(hC: ∀x y,P x->P y->T x y=some (lt x y)){x:α}(hx:P x): ∀(m:Nat) (A B:List α),A.length=m->m<=100000000->(∀y∈A,P y)->
  ∃F G,A=F++G/\(∀y∈G,lt x y=true)/\(∀y,F.getLast?=some y->lt x y=false)/\
  loop (fun(s5:Int×(List α))=>(((bif(decide (s5.1>0))then((at' s5.2 s5.1).bind fun x7=>((at' s5.2 (ap (s5.1 - 1))).bind fun x8=>(T x7 x8)))else some false)).bind fun(j10:Bool)=>(bif j10 then((((at' s5.2 (ap (s5.1 - 1))).bind fun x14=>((at' s5.2 s5.1).bind fun x15=>((at' s5.2 s5.1).bind fun _=>((at' (T0 s5.2 (Tv s5.1) x14) (ap (s5.1 - 1))).bind fun _=>some (T0 (T0 s5.2 (Tv s5.1) x14) (Tv (ap (s5.1 - 1))) x15)))))).bind fun(j12:(List α))=>some (.inl ((ap (s5.1 - 1)),j12)))else some (.inr s5.2)))) ((A.length:Int),A++x::B)=some (F++x::(G++B))
 | 0,A,B,hm,_,_=>by
  have:A=[]:=UJ.1 hm;subst this;refine⟨[],[],rfl,by simp,by simp,?_⟩;rw[bT];rfl
 | m+1,A,B,hm,hm2,hA=>by
  obtain⟨D,y,rfl⟩: ∃D y,A=D++[y]:=by
   rcases Vh A with rfl | ⟨D,y,h⟩
   ·simp at hm
   ·exact⟨D,y,by simpa using h⟩
  have hB:D.length=m:=by simp at hm;omega
  have hy:P y:=hA y (by simp);have e1:((D++[y]).length:Int)=(D.length:Int)+1:=by simp
  have e2:ap ((D.length:Int)+1 - 1)=(D.length:Int):=by rw[az (by omega) (by omega)];omega
  have e0:D++[y]++x::B=D++y::x::B:=by simp
  have g1:at' (D++y::x::B) ((D.length:Int)+1)=some x:=by
   rw[show(D.length:Int)+1=((D.length+1:Nat):Int) by omega,aG,Ts (by omega)];simp
  have g2:at' (D++y::x::B) (D.length:Int)=some y:=by
   rw[aG,Ts (by omega)];simp
  have t1:Tv ((D.length:Int)+1)=D.length+1:=by omega
  have s1:(D++y::x::B).set (D.length+1) y=D++y::y::B:=by
   rw[WI _ _ (by omega)];simp
  have s2:(D++y::y::B).set D.length x=D++x::y::B:=by
   rw[WI _ _ (by omega)];simp
  have g3:at' (D++y::y::B) (D.length:Int)=some y:=by
   rw[aG,Ts (by omega)];simp
  rw[e1,e0];cases hlt:lt x y with
  | true=>
   obtain⟨F,G,h1,h2,h3,h4⟩:=Ls hC hx m D (y::B) hB (by omega) (fun z hz=>hA z (by simp[hz]));refine⟨F,G++[y],by rw[h1];simp,fun z hz=> ?_,h3,?_⟩
   ·rcases TN.1 hz with hz | hz
    ·exact h2 z hz
    ·rw[TH.1 hz];exact hlt
   ·rw[bT];have hg:decide ((D.length:Int)+1>0)=true:=decide_eq_true (by omega);simp only[hg,cond_true,g1,e2,g2,Ti,hC x y hx hy,hlt,t1,s1,g3,TG,s2];rw[h4];simp
  | false=>
   refine⟨D++[y],[],by simp,by simp,fun z hz=> ?_,?_⟩
   ·simp at hz;subst hz;exact hlt
   ·rw[bT];have hg:decide ((D.length:Int)+1>0)=true:=decide_eq_true (by omega);simp only[hg,cond_true,g1,e2,g2,Ti,hC x y hx hy,hlt,cond_false];simp
theorem OX{lt:α->α->Bool}(tr: ∀a b c,lt a b=true->lt b c=true->lt a c=true)(asy: ∀a b,lt a b=true->lt b a=false){A F G:List α}{x:α}(hA:A.Pairwise (fun a b=>lt a b=true))(ht: ∀y∈A,lt y x=true\/lt x y=true)(h:A=F++G)(hG: ∀y∈G,lt x y=true)(hF: ∀y,F.getLast?=some y->lt x y=false):F++x::G=kO lt A x:=by
 subst h;have hFx: ∀y∈F,lt y x=true:=by
  intro y hy;rcases Vh F with rfl | ⟨D,z,hz⟩
  ·cases hy
  ·rw[VL]at hz;subst hz;have hzx:lt z x=true:=(ht z (by simp)).resolve_right (by rw[hF z (by simp)];simp);rcases TN.1 hy with hy | hy
   ·have h1:=(Ur.1 hA).1;exact tr _ _ _ ((Ur.1 h1).2.2 y hy z (by simp)) hzx
   ·rw[TH.1 hy];exact hzx
 have key: ∀F:List α,(∀y∈F,lt y x=true)->(F++G).takeWhile (fun y=>lt y x)=F/\(F++G).dropWhile (fun y=>lt y x)=G:=by
  intro F
  induction F with
  | nil=>
   intro _;cases G with
   | nil=>exact⟨rfl,rfl⟩
   | cons g G=>
    have:=asy _ _ (hG g (by simp));simp[this]
  | cons f F ih=>
   intro hf;have h1:=hf f (by simp);obtain⟨h2,h3⟩:=ih fun y hy=>hf y (by simp[hy]);simp[h1,h2,h3]
 obtain⟨h1,h2⟩:=key F hFx;unfold kO;rw[h1,h2]
theorem Ot{T:α->α->Option Bool}{lt:α->α->Bool}{P:α->Prop}(hC: ∀x y,P x->P y->T x y=some (lt x y))(tr: ∀a b c,lt a b=true->lt b c=true->lt a c=true)(asy: ∀a b,lt a b=true->lt b a=false){L:List α}(hL:L.length<=100000000)(hP: ∀x∈L,P x)(hap:AX lt L):
  cR (L.length:Int) (fun(i1:Int) (s1:(List α))=>(loop (fun(s5:Int×(List α))=>(((bif(decide (s5.1>0))then((at' s5.2 s5.1).bind fun x7=>((at' s5.2 (ap (s5.1 - 1))).bind fun x8=>(T x7 x8)))else some false)).bind fun(j10:Bool)=>(bif j10 then((((at' s5.2 (ap (s5.1 - 1))).bind fun x14=>((at' s5.2 s5.1).bind fun x15=>((at' s5.2 s5.1).bind fun _=>((at' (T0 s5.2 (Tv s5.1) x14) (ap (s5.1 - 1))).bind fun _=>some (T0 (T0 s5.2 (Tv s5.1) x14) (Tv (ap (s5.1 - 1))) x15)))))).bind fun(j12:(List α))=>some (.inl ((ap (s5.1 - 1)),j12)))else some (.inr s5.2)))) (i1,s1))) (fun(s1:(List α))=>s1) (ap (0+1)) L=some (lT lt L):=by
 have e1:ap (0+1)=1:=by rw[az (by omega) (by omega)];rfl
 rw[e1];have hstep: ∀k,k<L.length-> ∀x,L[k]? =some x->lT lt (L.take (k+1))=kO lt (lT lt (L.take k)) x:=by
  intro k hk x hx;unfold lT;rw[Vg,hx,List.foldl_append];rfl
 have key: ∀(m k:Nat),k+m=L.length->1<=k->cR (L.length:Int) (fun(i1:Int) (s1:(List α))=>(loop (fun(s5:Int×(List α))=>(((bif(decide (s5.1>0))then((at' s5.2 s5.1).bind fun x7=>((at' s5.2 (ap (s5.1 - 1))).bind fun x8=>(T x7 x8)))else some false)).bind fun(j10:Bool)=>(bif j10 then((((at' s5.2 (ap (s5.1 - 1))).bind fun x14=>((at' s5.2 s5.1).bind fun x15=>((at' s5.2 s5.1).bind fun _=>((at' (T0 s5.2 (Tv s5.1) x14) (ap (s5.1 - 1))).bind fun _=>some (T0 (T0 s5.2 (Tv s5.1) x14) (Tv (ap (s5.1 - 1))) x15)))))).bind fun(j12:(List α))=>some (.inl ((ap (s5.1 - 1)),j12)))else some (.inr s5.2)))) (i1,s1))) (fun(s1:(List α))=>s1) (k:Int) (lT lt (L.take k)++L.drop k)=some (lT lt L):=by
  intro m
  induction m with
  | zero=>
   intro k hkm _;obtain rfl:k=L.length:=by omega
   unfold cR;rw[bT];simp only[decide_eq_false (show ¬((L.length:Int)<L.length) by omega),cond_false,WN,List.drop_length,Up]
  | succ m ih=>
   intro k hkm h1;have hkl:k<L.length:=by omega
   have hx:L[k]? =some (L[k]'hkl):=Tk _;rw[Uc hkl];generalize L[k]'hkl=x at hx⊢;have hap1:AX lt (L.take k):=List.Pairwise.sublist (List.take_sublist _ _) hap;have hxm:=Tm hx;have hlen:(lT lt (L.take k)).length=k:=by rw[Nf,TQ];omega
   have hmem: ∀y∈lT lt (L.take k),y∈L.take k:=fun y hy=>F3.1 hy;have htot: ∀y∈lT lt (L.take k),lt y x=true\/lt x y=true:=by
    intro y hy;obtain⟨i,hi⟩:=List.mem_iff_getElem?.1 (hmem y hy);have hik:i<k:=by
     have:=(Tl.1 hi).1;rw[TQ]at this;omega
    rw[List.getElem?_take_of_lt hik]at hi;have:=Ve.1 hap i k (by omega) hkl hik;rw[Tk (by omega)]at hi hx;injection hi with hi;injection hx with hx;rw[hi,hx]at this;exact this
   obtain⟨F,G,q1,q2,q3,q4⟩:=Ls hC (hP x hxm) k (lT lt (L.take k)) (L.drop (k+1)) hlen (by omega) (fun y hy=>hP y (U6 (hmem y hy)));rw[hlen]at q4;unfold cR;rw[bT];simp only[decide_eq_true (show((k:Int)<L.length) by omega),cond_true,q4,Ti,az (show -9223372036854775808<=(k:Int)+1 by omega) (by omega)];have hp:=OX tr asy (za tr hap1) htot q1 q2 q3;have hs:=hstep k hkl x hx;rw[show F++x::(G++L.drop (k+1))=(F++x::G)++L.drop (k+1) by simp,hp,<-hs];have:=ih (k+1) (by omega) (by omega);unfold cR at this;simpa using this
 by_cases h0:L.length=0
 ·have:L=[]:=UJ.1 h0;subst this;unfold cR;rw[bT];rfl
 ·have:=key (L.length - 1) 1 (by omega) (TA _);rw[show((1:Nat):Int)=1 from rfl]at this;have e:lT lt (L.take 1)++L.drop 1=L:=by
   cases L with
   | nil=>simp at h0
   | cons x l=>simp[lT,kO]
  rwa [e]at this
theorem Qt{C:α->α->Option Int}{lt:α->α->Bool}{P:α->Prop}(hC: ∀x y,P x->P y->((C x y).bind fun x9=>some (decide (x9<0)))=some (lt x y))(tr: ∀a b c,lt a b=true->lt b c=true->lt a c=true)(asy: ∀a b,lt a b=true->lt b a=false){L:List α}(hL:L.length<=100000000)(hP: ∀x∈L,P x)(hap:AX lt L):
  cR (L.length:Int) (fun(i1:Int) (s1:(List α))=>(loop (fun(s5:Int×(List α))=>(((bif(decide (s5.1>0))then((at' s5.2 s5.1).bind fun x7=>((at' s5.2 (ap (s5.1 - 1))).bind fun x8=>((C x7 x8).bind fun x9=>some (decide (x9<0)))))else some false)).bind fun(j10:Bool)=>(bif j10 then((((at' s5.2 (ap (s5.1 - 1))).bind fun x14=>((at' s5.2 s5.1).bind fun x15=>((at' s5.2 s5.1).bind fun _=>((at' (T0 s5.2 (Tv s5.1) x14) (ap (s5.1 - 1))).bind fun _=>some (T0 (T0 s5.2 (Tv s5.1) x14) (Tv (ap (s5.1 - 1))) x15)))))).bind fun(j12:(List α))=>some (.inl ((ap (s5.1 - 1)),j12)))else some (.inr s5.2)))) (i1,s1))) (fun(s1:(List α))=>s1) (ap (0+1)) L=some (lT lt L):=
 Ot (T:=fun x y=>(C x y).bind fun x9=>some (decide (x9<0))) hC tr asy hL hP hap
theorem qU{lt:α->α->Bool}(asy: ∀a b,lt a b=true->lt b a=false): ∀{A B:List α},A.Pairwise (fun a b=>lt a b=true)->B.Pairwise (fun a b=>lt a b=true)->(∀z,z∈A↔z∈B)->A=B
 | [],[],_,_,_=>rfl
 | [],b::B,_,_,h=>by have:=(h b).2 TP;cases this
 | a::A,[],_,_,h=>by have:=(h a).1 TP;cases this
 | a::A,b::B,hA,hB,h=>by
  have hA2:=UI.1 hA;have hB2:=UI.1 hB;have irr: ∀x,lt x x=true->False:=fun x hx=>by
   have:=asy x x hx;rw[hx]at this;cases this
  have e:a=b:=by
   rcases Tx.1 ((h a).1 TP)with h1 | h1
   ·exact h1
   ·rcases Tx.1 ((h b).2 TP)with h2 | h2
    ·exact h2.symm
    ·have:=asy _ _ (hB2.1 a h1);rw[hA2.1 b h2]at this;cases this
  subst e;congr 1;refine qU asy hA2.2 hB2.2 fun z=> ?_;constructor
  ·intro hz;rcases Tx.1 ((h z).1 (T1 _ hz))with h1 | h1
   ·subst h1;exact(irr _ (hA2.1 _ hz)).elim
   ·exact h1
  ·intro hz;rcases Tx.1 ((h z).2 (T1 _ hz))with h1 | h1
   ·subst h1;exact(irr _ (hB2.1 _ hz)).elim
   ·exact h1
end
theorem NS: ∀{x y:List UInt8},Op.bytesLess x y=true↔x<y
 | [],[]=>by simp[Op.bytesLess]
 | [],b::y=>by simp[Op.bytesLess]
 | a::x,[]=>by simp[Op.bytesLess]
 | a::x,b::y=>by
  rw[xU,List.cons_lt_cons_iff,NS,UInt8.lt_iff_toNat_lt]
theorem Lr{x y:List UInt8}:decide (x<=y)= !Op.bytesLess y x:=by
 rw[Va,decide_eq_true_eq,Un,TS,ne_eq,NS,List.not_lt]
theorem CP{x y:List UInt8}(h:Op.bytesLess x y=true):Op.bytesLess y x=false:=by
 rw[TS];intro k;have:=tC h k;rw[pc]at this;cases this
theorem HF{x y z:List UInt8}(h:Op.bytesLess y x=false)(k:Op.bytesLess y z=true):Op.bytesLess x z=true:=by
 cases hxy:Op.bytesLess x y
 ·rw[xV hxy h];exact k
 ·exact tC hxy k
theorem ET(L:List (List UInt8)):(L.mergeSort fun x y=>decide (x<=y)).Pairwise fun a b=>Op.bytesLess b a=false:=by
 have:=List.pairwise_mergeSort (le:=fun x y:List UInt8=>decide (x<=y)) (fun a b c h1 h2=> ?_) (fun a b=> ?_) L
 ·exact this.imp fun{a b} h=>by rw[Lr]at h;simpa using h
 ·rw[Lr,Un]at*;cases hca:Op.bytesLess c a with
  | false=>rfl
  | true=>
   have:=HF h2 hca;rw[h1]at this;cases this
 ·rw[Lr,Lr];cases hab:Op.bytesLess a b
  ·simp
  ·rw[CP hab];simp
theorem CW{D:List (List UInt8)}(h:D.Pairwise fun a b=>Op.bytesLess b a=false):(Lib.compact D).Pairwise (fun a b=>Op.bytesLess a b=true):=by
 have hat: ∀j,j<D.length->D.toArray[j]! =D.getD j []:=fun j hj=>by
  rw[getElem!_pos D.toArray j (by simpa using hj)];simp[TL,Tk hj]
 have hle: ∀i j,i<j->j<D.length->Op.bytesLess (D.getD j []) (D.getD i [])=false:=fun i j hij hj=>by
  rw[Ve]at h;have:=h i j (by omega) hj hij;simpa [TL,Tk hj,Tk (show i<D.length by omega)]using this
 unfold Lib.compact Lib.compactUpTo;rw[Vz,List.pairwise_filter];refine(VE (n:=D.length)).imp_of_mem fun{i j} hi hj hij _ hk=> ?_;have hj:=T2.1 hj;unfold Lib.keeps at hk;rw[decide_eq_true_eq]at hk;have hk:=hk.resolve_left (by omega);rw[hat j hj,hat (j - 1) (by omega)]at hk;rw[hat i (by omega),hat j hj];have h1:=hle (j - 1) j (by omega) hj;have h2:Op.bytesLess (D.getD (j - 1) []) (D.getD j [])=true:=by
  cases hb:Op.bytesLess (D.getD (j - 1) []) (D.getD j [])with
  | true=>rfl
  | false=>exact absurd (xV h1 hb) hk
 by_cases hi1:i=j - 1
 ·rw[hi1];exact h2
 ·exact HF (hle i (j - 1) (by omega) (by omega)) h2
theorem A7{D:List (List UInt8)}{x:List UInt8}:x∈Lib.compact D↔x∈D:=by
 unfold Lib.compact Lib.compactUpTo;rw[TF];constructor
 ·rintro⟨j,hj,rfl⟩;rw[Tu,T2]at hj;rw[getElem!_pos D.toArray j (by simpa using hj.1)];simp
 ·intro hx;obtain⟨j,hj,rfl⟩:=VU.1 hx;have key: ∀k (hk:k<D.length),∃i,i<D.length/\Lib.keeps D.toArray i=true/\D.toArray[i]! =D[k]:=by
   intro k
   induction k with
   | zero=>
    intro hk;refine⟨0,hk,Lib.keeps_lt_one _ 0 (by omega),?_⟩;rw[getElem!_pos D.toArray 0 (by simpa using hk)];simp
   | succ k ih=>
    intro hk;have e1:D.toArray[k+1]! =D[k+1]:=by
     rw[getElem!_pos D.toArray (k+1) (by simpa using hk)];simp
    have e2:D.toArray[k]! =D[k]:=by
     rw[getElem!_pos D.toArray k (by simp;omega)];simp
    by_cases he:D[k+1]=D[k]
    ·obtain⟨i,h1,h2,h3⟩:=ih (by omega);exact⟨i,h1,h2,by rw[h3,he]⟩
    ·refine⟨k+1,hk,Lib.keeps_pos ?_,e1⟩;rw[e1,show k+1 - 1=k by omega,e2];exact he
  obtain⟨i,h1,h2,h3⟩:=key j hj;exact⟨i,by rw[Tu,T2];exact⟨h1,h2⟩,h3⟩
theorem I2(x y:ByteArray):lg x y=Op.bytesLess x.data.toList y.data.toList:=by
 unfold lg;rw[Lib.toList_data,Lib.toList_data]
theorem uS(L:List ByteArray):(gR L).Pairwise fun a b=>lg a b=true:=by
 unfold gR A6 pK;rw[Vz,VR];have e:((fun s:ByteArray=>s.data.toList)∘fun l:List UInt8=>(⟨l.toArray⟩:ByteArray))=id:=by funext l;rfl
 rw[e,List.map_id];refine(CW (ET (L.map fun s=>s.data.toList))).imp fun{a b} h=> ?_;rw[I2];simpa using h
theorem uR{L:List ByteArray}{s:ByteArray}:s∈gR L↔s∈L:=by
 unfold gR A6;rw[TF];constructor
 ·rintro⟨l,hl,rfl⟩;rw[A7]at hl;obtain⟨t,ht,rfl⟩:=TF.1 hl;exact AI.1 ht
 ·intro h;refine⟨s.data.toList,A7.2 (TF.2 ⟨s,AI.2 h,rfl⟩),rfl⟩
theorem pF(x:ByteArray):lg x x=false:=pc _
theorem FQ{x y z:ByteArray}(h:lg x y=true)(k:lg y z=true):lg x z=true:=tC h k
theorem vL{x y:ByteArray}(h:lg x y=true):lg y x=false:=CP h
theorem vM{x y:ByteArray}(h:x≠y):lg x y=true\/lg y x=true:=by
 cases h1:lg x y with
 | true=>exact .inl rfl
 | false=>
  cases h2:lg y x with
  | true=>exact .inr rfl
  | false=>
   rw[I2]at h1 h2;have:=xV h1 h2;exfalso;apply h;obtain⟨x⟩:=x;obtain⟨y⟩:=y;exact congrArg Tj (VH.1 this)
theorem Lh{A B:List ByteArray}(hA:A.Pairwise fun a b=>lg a b=true)(hB:B.Pairwise fun a b=>lg a b=true)(h: ∀z,z∈A↔z∈B):A=B:=qU (fun _ _=>vL) hA hB h
open Classical in
def Al(A:List ByteArray)(x:ByteArray):List ByteArray:=if x∈A then A else kO lg A x
theorem Oq{A:List ByteArray}{x z:ByteArray}:z∈Al A x↔z=x\/z∈A:=by
 unfold Al;by_cases h:x∈A
 ·rw[if_pos h];exact⟨.inr,fun h2=>h2.elim (fun e=>e▸h) id⟩
 ·rw[if_neg h,rC]
theorem Oo(A:List ByteArray)(x:ByteArray):(Al A x).length<=A.length+1:=by
 unfold Al;split
 ·omega
 ·rw[AB];omega
theorem Bd{A:List ByteArray}{x:ByteArray}(h:A.Pairwise fun a b=>lg a b=true):(Al A x).Pairwise fun a b=>lg a b=true:=by
 unfold Al;split
 ·exact h
 ·rename_i hx;exact sq (lt:=lg) (fun _ _ _=>FQ) h fun y hy=>vM fun e=>hx (by rw[<-e];exact hy)
theorem Rp{x:ByteArray}: ∀{A:List ByteArray},A.Pairwise (fun a b=>lg a b=true)->x∈A->A[(A.takeWhile fun y=>lg y x).length]? =some x
 | [],_,h=>by cases h
 | a::A,hp,h=>by
  have hp2:=UI.1 hp;rw[List.takeWhile_cons];rcases Tx.1 h with rfl | h
  ·rw[pF];rfl
  ·rw[hp2.1 x h];simpa using Rp hp2.2 h
theorem Nl{A:List ByteArray}{x:ByteArray}(hA:A.length<=1000000)(hs:A.Pairwise fun a b=>lg a b=true):kk A x=some (Al A x):=by
 unfold kk;have key: ∀(M D:List ByteArray),A=D++M->loop (fun(s3:Int)=>(((bif(decide (s3<(A.length:Int)))then((at' A s3).bind fun x5=>some (Op.bytesLess x5.toList x.toList))else some false)).bind fun(j6:Bool)=>(bif j6 then some (.inl (ap (s3+1)))else some (.inr s3)))) (D.length:Int)=some (((D.length+(M.takeWhile fun y=>lg y x).length:Nat)):Int):=by
  intro M
  induction M with
  | nil=>
   intro D hD;rw[bT,decide_eq_false (show ¬(D.length:Int)<(A.length:Int) by rw[hD];simp)];rfl
  | cons y M ih=>
   intro D hD;have hy:A[D.length]? =some y:=by rw[hD];simp
   have hlt:D.length<A.length:=(Tl.1 hy).1;rw[bT,decide_eq_true (show(D.length:Int)<(A.length:Int) by omega),cond_true,aG,hy,Ti,Ti,List.takeWhile_cons];have e:Op.bytesLess y.toList x.toList=lg y x:=rfl;rw[e];cases hb:lg y x
   ·simp
   ·simp only[cond_true];rw[az (by omega) (by omega)];have:=ih (D++[y]) (by rw[hD];simp);rw[Tz,List.length_singleton]at this;rw[show(D.length:Int)+1=((D.length+1:Nat):Int) by omega,this];congr 2;simp;omega
 have k0:=key A [] rfl;rw[UC,Ue]at k0;rw[show(0:Int)=((0:Nat):Int)from rfl,k0,Ti];have hs1:=Vr (p:=fun y=>lg y x) (l:=A);have hl:=congrArg List.length hs1;rw[Tz]at hl;unfold Al;by_cases hx:x∈A
 ·have h1:=Rp hs hx;have hlt:=(Tl.1 h1).1;rw[if_pos hx,decide_eq_true (show(((A.takeWhile fun y=>lg y x).length:Nat):Int)<(A.length:Int) by omega),cond_true,aG,h1,Ti,Ti];simp
 ·rw[if_neg hx];have e1:A.take (A.takeWhile fun y=>lg y x).length=A.takeWhile fun y=>lg y x:=by
   conv=>lhs;arg 2;rw[<-hs1]
   rw[List.take_left]
  have e2:A.drop (A.takeWhile fun y=>lg y x).length=A.dropWhile fun y=>lg y x:=by
   conv=>lhs;arg 2;rw[<-hs1]
   rw[Wz]
  have ht:(((bif(decide (((A.takeWhile fun y=>lg y x).length:Int)<(A.length:Int)))then((at' A ((A.takeWhile fun y=>lg y x).length:Int)).bind fun x8=>some (x8.toList==x.toList))else some false)):Option Bool)=some false:=by
   by_cases hlt:(A.takeWhile fun y=>lg y x).length<A.length
   ·have hy:A[(A.takeWhile fun y=>lg y x).length]? =some (A[(A.takeWhile fun y=>lg y x).length]'hlt):=Tk _;generalize A[(A.takeWhile fun y=>lg y x).length]'hlt=y at hy;rw[decide_eq_true (by omega),cond_true,aG,hy,Ti];cases hq:y.toList==x.toList with
    | false=>rfl
    | true=>
     exfalso;apply hx;have:y=x:=by
      rw[beq_iff_eq,Lib.toList_data,Lib.toList_data]at hq;obtain⟨x⟩:=x;obtain⟨y⟩:=y;exact congrArg Tj (VH.1 hq)
     rw[<-this];exact Tm hy
   ·rw[decide_eq_false (by omega)];rfl
  rw[ht];simp only[Ti,cond_false];rw[lz (by omega) (by omega) (by omega),Ti];simp only[TG,VJ,VT,e1];rw[ci (by simp;omega),Ti,UD,ci (by simp;omega),Ti,lz (by omega) (by omega) (by omega),Ti];simp only[TG,e2];have e3:(A.dropWhile fun y=>lg y x).take (A.length -(A.takeWhile fun y=>lg y x).length)=A.dropWhile fun y=>lg y x:=T4 (by omega);rw[e3,ci (by simp;omega),Ti];unfold kO;simp
theorem C9: ∀(L A:List ByteArray),A.Pairwise (fun a b=>lg a b=true)->(L.foldl Al A).Pairwise (fun a b=>lg a b=true)/\ ∀z,z∈L.foldl Al A↔z∈A\/z∈L
 | [],A,h=>⟨h,by simp⟩
 | x::L,A,h=>by
  rw[UP];obtain⟨h1,h2⟩:=C9 L (Al A x) (Bd h);refine⟨h1,fun z=> ?_⟩;rw[h2,Oq,Tx];constructor
  ·rintro((h | h) | h)
   ·exact .inr (.inl h)
   ·exact .inl h
   ·exact .inr (.inr h)
  ·rintro(h | h | h)
   ·exact .inl (.inr h)
   ·exact .inl (.inl h)
   ·exact .inr h
theorem EB(L:List ByteArray):L.foldl Al []=gR L:=by
 obtain⟨h1,h2⟩:=C9 L [] List.Pairwise.nil;refine Lh h1 (uS L) fun z=> ?_;rw[h2,uR];simp
theorem Jw(L:List ByteArray):(gR L).length<=L.length:=by
 unfold gR A6;rw[TM];have:=HR ((pK L).map fun s=>s.data.toList);rw[TM,vU]at this;exact this
theorem oP{α β A:Type}{L:List α}(hL:L.length<=100000)(f:α->Option β){B:Int->List β->Option (List β)}{D:List β->A}(h: ∀(i:Nat) x s,L[i]? =some x->s.length<=1000000->B (i:Int) s=some (s++(f x).toList)):cR (L.length:Int) B D 0 []=some (D (L.filterMap f)):=by
 have h1:=rU 200000 (show L.length<=1000000 by omega) (by omega) (B:=B) (D:=D) (fun i=>((L[i]?).bind f).toList) (fun i=>by cases (L[i]?).bind f<;>simp) [] (by simp;omega) (fun i s hi hs=>by
  rw[h i L[i] s (Tk hi) (by omega),Tk hi];rfl)
 rw[h1,UD,xa];congr 2;clear h h1 hL
 induction L with
 | nil=>rfl
 | cons x L ih=>
  rw[UE,ih];cases hx:f x
  ·rw[List.filterMap_cons_none hx];rfl
  ·rw[List.filterMap_cons_some hx];rfl
theorem GC{α:Type}(p:α->Bool)(L:List α):L.filterMap (fun x=>bif p x then some x else none)=L.filter p:=by
 induction L with
 | nil=>rfl
 | cons x L ih=>
  cases hx:p x
  ·rw[List.filterMap_cons_none (by rw[hx];rfl),Vn (by simp[hx]),ih]
  ·rw[List.filterMap_cons_some (b:=x) (by rw[hx];rfl),U2 hx,ih]
theorem GF{α S A:Type}{L:List α}(hL:L.length<=9223372036854775807){B:Int->S->Option S}{D:S->A}(I:Nat->S->Prop)(g:S->α->S){s:S}(h: ∀(i:Nat) x s,L[i]? =some x->I i s->B (i:Int) s=some (g s x)/\I (i+1) (g s x))(h2:I 0 s):cR (L.length:Int) B D 0 s=some (D (L.foldl g s))/\I L.length (L.foldl g s):=by
 have key: ∀(M:List α) (k:Nat) (s:S),(∀j x s,M[j]? =some x->I (k+j) s->B ((k+j:Nat):Int) s=some (g s x)/\I (k+j+1) (g s x))->I k s->dm (fun i s=>(B (i:Int) s).map .inl) D M.length k s=some (D (M.foldl g s))/\I (k+M.length) (M.foldl g s):=by
  intro M
  induction M with
  | nil=>exact fun k s _ h=>⟨rfl,h⟩
  | cons x l ih=>
   intro k s h h2;have h3:=h 0 x s rfl h2;rw[Uw]at h3;show((B (k:Int) s).map .inl).bind (TC (dm (fun i s=>(B (i:Int) s).map .inl) D l.length (k+1)) some)=_/\_;rw[h3.1];have:=ih (k+1) _ (fun j y s hy h5=>by
    have:=h (j+1) y s (by simpa using hy) (by rw[show k+(j+1)=k+1+j by omega];exact h5);rw[show k+1+j=k+(j+1)from by omega];exact this) h3.2
   rw[Ty,show k+(l.length+1)=k+1+l.length by omega];exact this
 rw[eZ,fM _ hL];have:=key L 0 s (fun j x s hx hI=>by
  rw[Ue]at hI⊢;exact h j x s hx hI) h2
 rw[Ue]at this;exact this
theorem HU{α:Type}{L:List α}(hL:L.length<=1000000)(q:α->Bool){T:α->Option Bool}(hT: ∀x∈L,T x=some (q x)): ∀(m i k:Nat) (M:List α),i+m=L.length->k<=i->M.length=L.length->M.drop i=L.drop i->M.take k=(L.take i).filter (fun x=> !q x)->
  ∃r:Int×List α,lW (fun(i4:Int) (s4:Int×(List α))=>(decide (i4<(s4.2.length:Int)))) (fun(i4:Int) (s4:Int×(List α))=>((at' s4.2 i4).bind fun x8=>((T x8).bind fun x9=>(bif(!x9)then((at' s4.2 s4.1).bind fun _=>some ((ap (s4.1+1)),(T0 s4.2 (Tv s4.1) x8)))else some (s4.1,s4.2))))) (fun(s4:Int×(List α))=>(s4.1,s4.2)) (i:Int) ((k:Int),M)=some r/\ ∃k':Nat,r.1=(k':Int)/\k'<=L.length/\r.2.length=L.length/\r.2.take k'=L.filter (fun x=> !q x):=by
 intro m
 induction m with
 | zero=>
  intro i k M hi hk hM _ ht;unfold lW;rw[bT];dsimp only;rw[decide_eq_false (by omega),cond_false];exact⟨_,rfl,k,rfl,by omega,hM,by rw[ht,T4 (by omega)]⟩
 | succ m ih=>
  intro i k M hi hk hM hd ht;have hlt:i<L.length:=by omega
  have hx:M[i]? =some L[i]:=by
   have h1:=congrArg (fun l:List α=>l[0]?) hd;simp only[List.getElem?_drop,Uw]at h1;rw[h1,Tk hlt]
  have htk:L.take (i+1)=L.take i++[L[i]]:=by
   rw[Vg,Tk hlt];rfl
  have hdr:M.drop (i+1)=L.drop (i+1):=by
   have:=congrArg (List.drop 1) hd;rw[WB,WB]at this;exact this
  unfold lW;rw[bT];dsimp only;have hat:at' M (i:Int)=some L[i]:=by rw[aG,hx]
  rw[decide_eq_true (by omega),cond_true,hat];simp only[Ti,hT L[i] (Uo hlt)];have hwi:ap ((i:Int)+1)=((i+1:Nat):Int):=by
   rw[az (by omega) (by omega)];omega
  cases hq:q L[i]
  ·have hk2:at' M (k:Int)=some (M[k]'(by omega)):=CN (by omega);have hwk:ap ((k:Int)+1)=((k+1:Nat):Int):=by
    rw[az (by omega) (by omega)];omega
   simp only[Uj,cond_true,hk2,Ti,hwk,hwi,TG];exact ih (i+1) (k+1) (M.set k L[i]) (by omega) (by omega) (by rw[VN];exact hM) (by rw[List.drop_set_of_lt (by omega)];exact hdr) (by
    rw[Vg,List.take_set_of_le (TA _),List.getElem?_set_self (by omega),ht,htk,Vm,U2 (by simp[hq])];rfl)
  ·simp only[TO,cond_false,Ti,hwi];exact ih (i+1) k M (by omega) (by omega) hM hdr (by
    rw[ht,htk,Vm,Vn (by simp[hq])];simp)
theorem Fx{α:Type}(z:α){L:List α}(hL:L.length<=1000000)(q:α->Bool){T:α->Option Bool}(hT: ∀x∈L,T x=some (q x)):
  ((((de (L.length:Int) (fun(i3:Int) (_:Unit)=>((at' L i3).bind fun x7=>((T x7).bind fun x8=>(bif x8 then some (.inr (.inr i3))else some (.inl ()))))) (fun(_:Unit)=> .inl ()) 0 ())).bind (TC (fun(_:Unit)=>some (-1)) some)).bind fun x1=>(bif(x1==(-1))then some L else(((lW (fun(i4:Int) (s4:Int×(List α))=>(decide (i4<(s4.2.length:Int)))) (fun(i4:Int) (s4:Int×(List α))=>((at' s4.2 i4).bind fun x8=>((T x8).bind fun x9=>(bif(!x9)then((at' s4.2 s4.1).bind fun _=>some ((ap (s4.1+1)),(T0 s4.2 (Tv s4.1) x8)))else some (s4.1,s4.2))))) (fun(s4:Int×(List α))=>(s4.1,s4.2)) (ap (x1+1)) (x1,L))).bind fun(j2:Int×(List α))=>((NC z j2.2 j2.1).bind fun x11=>((fE x11 0 j2.1).bind fun x12=>some x12)))))=some (L.filter fun x=> !q x):=by
 rw[gg (by omega) q (fun i x hx=>by
  rw[aG,hx,Ti,hT x (Tm hx),Ti]),Ti]
 have hlt:=ye q L;have hany:=ri q L;by_cases hneg:iG q L<0
 ·rw[decide_eq_true hneg]at hany;rw[beq_iff_eq.2 (show iG q L= -1 by omega),cond_true];congr 1;refine(VY.2 fun x hx=> ?_).symm;have h3:L.any q=false:=by simpa using hany.symm
  have:=Wa.1 h3 x hx;simpa using this
 ·rw[beq_eq_false_iff_ne.2 (show iG q L≠ -1 by omega),cond_false];obtain⟨i,hi⟩:=Ui (show 0<=iG q L by omega);have hil:i<L.length:=by omega
  rw[hi];have hpre: ∀{M:List α} {i:Nat},iG q M=(i:Int)->(M.take i).filter (fun x=> !q x)=M.take i/\ ∃x,M[i]? =some x/\q x=true:=by
   intro M
   induction M with
   | nil=>intro i h;simp[iG]at h
   | cons x M ih=>
    intro i h;unfold iG at h;cases hx:q x
    ·rw[hx,cond_false]at h;dsimp only at h;by_cases h2:iG q M<0
     ·rw[decide_eq_true h2,cond_true]at h;omega
     ·rw[decide_eq_false h2,cond_false]at h;obtain⟨j,rfl⟩: ∃j,i=j+1:=⟨i - 1,by omega⟩;obtain⟨h3,y,h4,h5⟩:=ih (i:=j) (by omega);refine⟨?_,y,by rw[U1];exact h4,h5⟩;rw[List.take_succ_cons,U2 (by simp[hx]),h3]
    ·rw[hx,cond_true]at h;have:i=0:=by omega
     subst this;exact⟨rfl,x,rfl,hx⟩
  obtain⟨h3,y,h4,h5⟩:=hpre hi;have hwi:ap ((i:Int)+1)=((i+1:Nat):Int):=by
   rw[az (by omega) (by omega)];omega
  have htk:L.take (i+1)=L.take i++[y]:=by
   rw[Vg,h4];rfl
  obtain⟨r,r1,k',k1,k2,k3,k4⟩:=HU hL q hT (L.length -(i+1)) (i+1) i L (by omega) (by omega) rfl rfl (by
   rw[htk,Vm,h3,Vn (by simp[h5])];simp)
  rw[hwi,r1,Ti,k1];by_cases hk:k'<L.length
  ·unfold NC;have hk3:(k':Int)<r.2.length:=by omega
   rw[if_pos ⟨by omega,hk3⟩,Ti,TG,lz (by omega) (by omega) (by rw[Tz,TQ,List.length_replicate];omega),Ti];congr 1;rw[show(0:Int).toNat=0 from rfl,VJ,VT,TG,List.take_append_of_le_length (by rw[TQ];omega),List.take_take,Nat.min_self,k4]
  ·exfalso;have h6:(L.filter fun x=> !q x).length=L.length:=by
    rw[<-k4,TQ];omega
   have h7:=List.length_filter_eq_length_iff.1 h6 y (Tm h4);rw[h5]at h7;cases h7
def byS(L:List Claim)(S:List ByteArray):List Claim:=L.filter fun c=>S.any fun x=>c.Source.toList==x.toList
theorem Gm{L:List Claim}{S:List ByteArray}{c:Claim}:c∈byS L S↔c∈L/\c.Source∈S:=by
 unfold byS;rw[Tu,any_eq]
theorem GJ{L:List Claim}(hL:L.length<=1000){S:List ByteArray}(hS:S.length<=1000):fN L S=some (byS L S):=by
 have h1:eD L=some L:=by
  unfold eD;rw[if_pos (by omega)]
 unfold fN;rw[h1,Ti];have h2:=Fx (Claim.mk (Tj #[]) 0 (Tj #[]) (Tj #[]) (Span.mk 0 0) 0) (L:=L) (by omega) (fun c=> !(S.any fun x=>c.Source.toList==x.toList)) (T:=fun c=>ga c S) (fun c _=>by
  unfold ga;rw[contains_eq (by omega),Ti])
 have h3:bX L S=some (L.filter fun c=> !!(S.any fun x=>c.Source.toList==x.toList)):=h2;rw[h3,Ti];congr 2;funext c;rw[WC]
theorem K6{L:List Claim}(hL:L.length<=1000){S:List ByteArray}(hS:S.length<=1000):pS L S=some (byS L S):=by
 unfold pS;rw[oP (by omega) (fun c=>bif S.any (fun x=>c.Source.toList==x.toList)then some c else none) (fun i c s hc hs=>by
  obtain⟨n,n1,n2⟩:=GD (L:=S) (by omega) c.Source;have hat:at' L (i:Int)=some c:=by rw[aG,hc]
  simp only[hat,Ti,n1];cases hb:S.any (fun x=>c.Source.toList==x.toList)
  ·have:c.Source∉S:=fun h=>by rw[any_eq.2 h]at hb;cases hb
   rw[decide_eq_false (show ¬n>=0 by have:=n2.2 this;omega)];simp
  ·have: ¬n<0:=fun h=>n2.1 h (any_eq.1 hb);rw[decide_eq_true (show n>=0 by omega),cond_true,ci (by simp;omega)];rfl),Ti,GC]
 rfl
def pick(A:List ByteArray)(R:List Int):List ByteArray:=R.map fun x=>A.getD x.toNat (Tj #[])
theorem mD(A:List ByteArray)(R:List Int):(pick A R).length=R.length:=TM _
theorem Na(A:List ByteArray)(R:List Int){i:Nat}(h:i<A.length):pick A (R++[(i:Int)])=pick A R++[A[i]]:=by
 unfold pick;rw[U9,UK,List.map_nil,TG,TL,Tk h];rfl
theorem OV{A:List ByteArray}{R:List Int}(hR:ik A.length R){s:ByteArray}(h:s∈pick A R):s∈A:=by
 obtain⟨x,hx,rfl⟩:=TF.1 h;have:=hR.2 x hx;rw[TL,Tk (by omega)];exact Uo _
theorem LX{A:List ByteArray}{R:List Int}{k:Nat}(hk:k<R.length):at' (pick A R) (k:Int)=some (A.getD R[k].toNat (Tj #[])):=by
 rw[aG];unfold pick;rw[List.getElem?_map,Tk hk];rfl
def allI(n:Nat):List Int:=(TU n).map fun(i:Nat)=>(i:Int)
theorem CK(n:Nat):ik n (allI n):=by
 refine⟨?_,fun x hx=> ?_⟩
 ·unfold allI;rw[Vz];exact(VE (n:=n)).imp fun h=>by omega
 ·obtain⟨i,hi,rfl⟩:=TF.1 hx;have:=T2.1 hi;omega
theorem Je(A:List ByteArray):pick A (allI A.length)=A:=by
 unfold pick allI;rw[VR];refine List.ext_getElem (by simp) fun i h1 h2=> ?_;simp[Tk h2]
def pq(L:List Claim)(A:List ByteArray)(R:List Int):Bool:= !nL (byS L (pick A R))
section
variable {L : List Claim} {A : List ByteArray}
theorem J4(hc:bh L=true)(S:List ByteArray):(byS L S).length<=100/\ ∀x∈byS L S,cB x=true:=by
 have h:=aH.1 hc;have h1:(byS L S).length<=L.length:=UN _ _;exact⟨by omega,fun x hx=>h.2 x (Gm.1 hx).1⟩
theorem NP(hc:bh L=true){R:List Int}(hR:R.length<=1000):((fN L (pick A R)).bind fun x26=>((cd x26).bind fun x27=>some (!x27)))=some (pq L A R):=by
 have h:=aH.1 hc;have h2:=J4 hc (pick A R);rw[GJ (by omega) (by rw[mD];omega),Ti,fZ h2.1 h2.2];rfl
theorem NQ(hc:bh L=true){R:List Int}(hR:R.length<=1000):((pS L (pick A R)).bind fun x1=>((bP x1).bind fun x2=>some (pick A R,(!x2))))=some (pick A R,pq L A R):=by
 have h:=aH.1 hc;have h2:=J4 hc (pick A R);rw[K6 (by omega) (by rw[mD];omega),Ti,kS h2.1 h2.2];rfl
theorem Lp:pq L A []=false:=by
 have:byS L (pick A [])=[]:=UB.2 fun x hx=>by
  have:=(Gm.1 hx).2;simp[pick]at this
 unfold pq;rw[this];rfl
theorem Oe(hc:bh L=true)(h:nL L=true)(R:List Int):pq L A R=false:=by
 have h1:=aH.1 hc;unfold pq;rw[w6 (by omega) (J4 hc (pick A R)).1 (fun x hx=>(Gm.1 hx).1) h1.2 h];rfl
theorem Lo(h:nL L=false)(hA: ∀c∈L,c.Source∈A):pq L A (allI A.length)=true:=by
 have:byS L A=L:=VY.2 fun c hc=>any_eq.2 (hA c hc);unfold pq;rw[Je,this,h];rfl
theorem PW(hA:A.Pairwise fun a b=>lg a b=true){x y:Int}(hx:0<=x/\x<A.length)(hy:0<=y/\y<A.length):fU (A.getD x.toNat (Tj #[])) (A.getD y.toNat (Tj #[]))=some (if x<y then -1 else if y<x then 1 else 0):=by
 obtain⟨i,rfl⟩:=Ui hx.1;obtain⟨j,rfl⟩:=Ui hy.1;have hi:i<A.length:=by omega
 have hj:j<A.length:=by omega
 have hlt: ∀{i j:Nat} (hi:i<A.length) (hj:j<A.length),i<j->Op.bytesLess A[i].toList A[j].toList=true:=fun hi hj h=>Ve.1 hA _ _ hi hj h;rw[TG,TG,TL,TL,Tk hi,Tk hj,Vu,Vu];unfold fU cmp_isNaN_string;simp only[beq_self_eq_true,TO,Ti,cond_false];rcases Nat.lt_trichotomy i j with h | h | h
 ·rw[hlt hi hj h,if_pos (by omega)];rfl
 ·subst h;rw[show Op.bytesLess A[i].toList A[i].toList=false from pc _,beq_self_eq_true,if_neg (by omega),if_neg (by omega)];rfl
 ·have h1:=hlt hj hi h;have h2:Op.bytesLess A[i].toList A[j].toList=false:=CP h1;have h3:(A[i].toList==A[j].toList)=false:=by
   rw[beq_eq_false_iff_ne];intro e;rw[e,pc]at h1;cases h1
  rw[h2,h3,if_neg (by omega),if_pos (by omega)];rfl
theorem Jr(hA:A.Pairwise fun a b=>lg a b=true)(hn:A.length<=1000){a b:List Int}(ha:ik A.length a)(hb:ik A.length b):ew (pick A a) (pick A b)=some (cmpL a b):=by
 have la:=ha.len;have lb:=hb.len;unfold ew;rw[fM _ (by rw[mD];omega)];simp only[mD];have key: ∀(M:List Int) (k:Nat),a.drop k=M->k+M.length=a.length->k<=b.length-> ∃r,dm (fun(i3:Nat) (_:Unit)=>((at' (pick A a) (i3:Int)).bind fun x7=>(bif(decide ((i3:Int)>=(b.length:Int)))then some (U4 (U4 1))else((at' (pick A b) (i3:Int)).bind fun x8=>((fU x7 x8).bind fun x9=>(bif(x9 !=0)then some (U4 (U4 x9))else some (Vp ()))))))) (fun _=>(Vp ():Unit⊕Int)) M.length k ()=some r/\TC (fun(_:Unit)=>(bif(decide ((a.length:Int)<(b.length:Int)))then some (-1)else some 0)) some r=some (cmpL M (b.drop k)):=by
  intro M
  induction M with
  | nil=>
   intro k _ hk hkb;refine⟨.inl (),rfl,?_⟩;simp only[T6];simp only[UC,Uw]at hk;by_cases h:a.length<b.length
   ·rw[decide_eq_true (show(a.length:Int)<b.length by omega),Uc (show k<b.length by omega)];rfl
   ·rw[decide_eq_false (show ¬(a.length:Int)<b.length by omega),UL (by omega)];rfl
  | cons x M ih=>
   intro k hd hk hkb;simp only[Ty]at hk;have hka:k<a.length:=by omega
   rw[Uc hka]at hd;injection hd with hx hd;rw[Ty];unfold dm;rw[LX hka,Ti,hx];by_cases h:k<b.length
   ·rw[decide_eq_false (show ¬(k:Int)>=b.length by omega),cond_false,LX h,Ti,PW hA (hx▸ha.2 _ (Uo hka)) (hb.2 _ (Uo h)),Ti,Uc h,q6];by_cases h1:x<b[k]
    ·rw[if_pos h1,if_pos h1];exact⟨_,rfl,rfl⟩
    ·by_cases h2:b[k]<x
     ·rw[if_neg h1,if_pos h2,if_neg h1,if_pos h2];exact⟨_,rfl,rfl⟩
     ·rw[if_neg h1,if_neg h2,if_neg h1,if_neg h2];exact ih (k+1) hd (by omega) (by omega)
   ·rw[decide_eq_true (show(k:Int)>=b.length by omega),UL (by omega)];exact⟨_,rfl,rfl⟩
 obtain⟨r,h1,h2⟩:=key a 0 rfl (by omega) (Ul _);rw[h1,Ti,h2];rfl
theorem RR(p q:Int):jN [p,q]=some (if p≠0 then p else q):=by
 unfold jN;rw[gf (L:=[p,q]) (by simp) (fun _ x=>x !=0) (fun _ x=>x) (fun i x hx=>by rw[aG,hx];rfl)];by_cases h1:p=0
 ·subst h1;by_cases h2:q=0
  ·subst h2;rfl
  ·have e2:(q !=0)=true:=by simpa using h2
   simp only[cr,bne_self_eq_false,cond_false,e2,cond_true];simp
 ·have e1:(p !=0)=true:=by simpa using h1
  simp only[cr,e1,cond_true];simp[h1]
theorem Qv(a b:List Int):decide ((if(if(a.length:Int)<(b.length:Int)then(-1:Int)else if(b.length:Int)<(a.length:Int)then 1 else 0)≠0 then(if(a.length:Int)<(b.length:Int)then(-1:Int)else if(b.length:Int)<(a.length:Int)then 1 else 0)else cmpL a b)<0)=true↔mT (fun _=>0) a b:=by
 rw[decide_eq_true_eq];unfold mT;by_cases h1:a.length<b.length
 ·rw[if_pos (show(a.length:Int)<b.length by omega),if_pos (by decide)];exact⟨fun _=> .inr ⟨rfl,.inl h1⟩,fun _=>by omega⟩
 ·rw[if_neg (show ¬(a.length:Int)<b.length by omega)];by_cases h2:b.length<a.length
  ·rw[if_pos (show(b.length:Int)<a.length by omega),if_pos (by decide)];exact⟨fun h=>by omega,fun h=>by
    rcases h with h | ⟨_,h | ⟨h,_⟩⟩
    ·exact absurd h (Int.lt_irrefl 0)
    ·omega
    ·omega⟩
  ·rw[if_neg (show ¬(b.length:Int)<a.length by omega),if_neg (by decide)];exact⟨fun h=> .inr ⟨rfl,.inr ⟨by omega,h⟩⟩,fun h=>by
    rcases h with h | ⟨_,h | ⟨_,h⟩⟩
    ·exact absurd h (Int.lt_irrefl 0)
    ·omega
    ·exact h⟩
theorem Oc{S T D':Type}{n:Nat}(hn:n<=9223372036854775807){B:Int->S->Option S}{D:S->D'}(f:T->S)(I:T->Prop)(g:T->Nat->T)(t:T)(h: ∀(i:Nat) t,i<n->I t->B (i:Int) (f t)=some (f (g t i))/\I (g t i))(h2:I t):cR (n:Int) B D 0 (f t)=some (D (f ((TU n).foldl g t)))/\I ((TU n).foldl g t):=by
 have key: ∀(m k:Nat) (t:T),k+m<=n->I t->dm (fun i s=>(B (i:Int) s).map (Vp (β:=D'))) D m k (f t)=some (D (f ((UM k m).foldl g t)))/\I ((UM k m).foldl g t):=by
  intro m
  induction m with
  | zero=>intro k t _ h;exact⟨rfl,h⟩
  | succ m ih=>
   intro k t hk hI;have h3:=h k t (by omega) hI;unfold dm;rw[h3.1,Vv,UP];exact ih (k+1) _ (by omega) h3.2
 rw[eZ,fM n hn,List.range_eq_range'];exact key n 0 t (by omega) h2
theorem M9{R:List Int}(hR:ik A.length R)(hn:A.length<=1000):((cR (R.length:Int) (fun(i16:Int) (s16:(List ByteArray))=>((at' R i16).bind fun x20=>((at' A x20).bind fun x21=>((bW s16 ([x21]:List ByteArray)).bind fun x22=>some x22)))) (fun(s16:(List ByteArray))=>s16) 0 ([]:List ByteArray)))=some (pick A R):=by
 have:=hR.len;rw[oP (by omega) (fun x=>some (A.getD x.toNat (Tj #[]))) (fun i x s hx hs=>by
  have hat:at' R (i:Int)=some x:=by rw[aG,hx]
  have h2:=hR.2 x (Tm hx);obtain⟨k,rfl⟩:=Ui h2.1;have hk:k<A.length:=by omega
  rw[hat,Ti,CN hk,Ti,ci (by simp;omega),Ti,TG,TL,Tk hk];rfl)]
 congr 1;unfold pick;exact congrFun (List.filterMap_eq_map (f:=fun x:Int=>A.getD x.toNat (Tj #[]))) R
theorem BP{n:Nat}(hc:bh L=true)(hsm: ∀x∈L,cJ x)(hco:nL L=false)(hA:A.Pairwise fun a b=>lg a b=true)(hAm: ∀c∈L,c.Source∈A)(hn:A.length=n)(h12:n<=12)(hs:jZ L=some A): ∃R,cG L=some (pick A R,0)/\il (fun _=>0) (allI n::((TU (2^n)).map (ey n)).filter (pq L A)) R:=by
 have hcl:=aH.1 hc;have hpow:2^n<=2^12:=Ua (by omega) h12;have hbad:=Lo (A:=A) hco hAm;have e0:(sh' ((A.length:Nat):Int))=some ():=by unfold sh';rw[if_pos (by omega)]
 unfold cG;have hcl2:dN L=some true:=by rw[fY (by omega) hsm,hc]
 rw[hcl2,Ti,fZ (by omega) hcl.2,Ti,hco];simp only[TO,cond_false,Ti,T6,hs,hn];rw[CA n (by omega)];obtain⟨h1,h2⟩:=Oc (D':=List ByteArray) (n:=2^n) (by omega) (B:=fun(i9:Int) (s9:(List ByteArray))=>((gL i9).bind fun x13=>(((cR (x13.length:Int) (fun(i16:Int) (s16:(List ByteArray))=>((at' x13 i16).bind fun x20=>((at' A x20).bind fun x21=>((bW s16 ([x21]:List ByteArray)).bind fun x22=>some x22)))) (fun(s16:(List ByteArray))=>s16) 0 ([]:List ByteArray))).bind fun(j14:(List ByteArray))=>((((jd (j14.length:Int) (s9.length:Int)).bind fun x23=>((ew j14 s9).bind fun x24=>((jN ([x23,x24]:List Int)).bind fun x25=>(bif(decide (x25<0))then((fN L j14).bind fun x26=>((cd x26).bind fun x27=>some (!x27)))else some false))))).bind fun(j28:Bool)=>(bif j28 then some j14 else some s9))))) (D:=fun s=>s) (pick A) (ik n) (fun R b=>bif @decide (mT (fun _=>0) (ey n b) R) (Classical.propDecidable _)&&pq L A (ey n b)then ey n b else R) (allI n) (fun b R hb hR=>by
  have hI:=rH n b;have hl:=hI.len;rw[pE (by omega) hb,Ti,M9 (hn▸hI) (by omega),Ti,mD,mD,Lt,Ti,Jr hA (by omega) (hn▸hI) (hn▸hR),Ti,RR,Ti,NP hc (by omega)];have hk:=Qv (ey n b) R;generalize hd:decide (_<(0:Int))=d at hk⊢;cases d
  ·have: ¬mT (fun _=>0) (ey n b) R:=fun h=>by have:=hk.2 h;cases this
   rw[@decide_eq_false _ (Classical.propDecidable _) this];exact⟨rfl,hR⟩
  ·rw[@decide_eq_true _ (Classical.propDecidable _) (hk.1 rfl),cond_true,Ti,Uy];cases pq L A (ey n b)
   ·exact⟨rfl,hR⟩
   ·exact⟨rfl,hI⟩) (CK n)
 have e1:pick A (allI n)=A:=by rw[<-hn];exact Je A
 rw[e1]at h1;rw[h1,Ti];refine⟨_,rfl,?_⟩;have hl:=uF (w:=fun _=>0) (fun a b=> @decide (mT (fun _=>0) a b) (Classical.propDecidable _)) (fun a b=>by rw[@decide_eq_true_eq _ (Classical.propDecidable _)]) (pq L A) ((TU (2^n)).map (ey n)) [allI n] (allI n) ⟨by simp,fun r hr=> .inl (TH.1 hr)⟩;rw[List.foldl_map]at hl;exact hl
theorem MH(hL:L.length<=1000):jZ L=some (gR (L.map Claim.Source)):=by
 unfold jZ;rw[oP (by omega) (fun c=>some c.Source) (fun i c s hc hs=>by
  rw[aG,hc,Ti,ci (by simp;omega)];rfl),Ti,List.filterMap_eq_map']
 unfold nU;rw[if_pos (by rw[TM];omega)];rfl
theorem Nn(hL:L.length<=1000):jq L=some (gR (L.map Claim.Source)):=by
 unfold jq;rw[(GF (L:=L) (by omega) (B:=fun(i3:Int) (s3:(List ByteArray))=>((at' L i3).bind fun x7=>((kk s3 x7.Source).bind fun x8=>some x8))) (D:=fun s=>s) (fun i s=>s.Pairwise (fun a b=>lg a b=true)/\s.length<=i) (fun s c=>Al s c.Source) (s:=[]) (fun i c s hc hs=>by
  have hi:=(Tl.1 hc).1;have hl:=Oo s c.Source;rw[aG,hc,Ti,Nl (by omega) hs.1];exact⟨rfl,Bd hs.1,by omega⟩) ⟨List.Pairwise.nil,by simp⟩).1,Ti]
 congr 1;rw[<-EB,List.foldl_map]
theorem H5{α:Type}(p:α->Bool)(x y:List α):(x++y).find? p=match x.find? p with | some r=>some r | none=>y.find? p:=by
 rw[List.find?_append];cases x.find? p<;>rfl
def Few(A:List ByteArray)(o:Option (List Int))(r:Option (List ByteArray×Bool)):Prop:=match o with
 | some Q=>r=some (pick A Q,true)
 | none=> ∃l,r=some (l,false)
theorem Ob(hc:bh L=true)(h12:A.length<=12): ∀(m fuel f:Nat) (R:List Int),m<fuel->ik A.length R->fS R f->m<=100->Few A ((q7 A.length m f R).find? (pq L A)) (du fuel L A (pick A R) f m)
 | m,0,f,R,h,_,_,_=>by omega
 | 0,fuel+1,f,R,_,hR,_,_=>by
  have hl:=hR.len;unfold q7 du;rw[show(((0:Nat):Int)==0)=true from rfl,cond_true,NQ hc (by omega),List.find?_cons];cases pq L A R
  ·exact⟨_,rfl⟩
  ·rfl
 | m+1,fuel+1,f,R,hf,hR,hN,hm=>by
  have hl:=hR.len;have key: ∀(j i:Nat),i+j=A.length->f<=i->match((UM i j).flatMap fun i=>q7 A.length m (i+1) (R++[(i:Int)])).find? (pq L A)with
    | some Q=>dm (fun(i5:Nat) (_:Unit)=>((bW ([]:List ByteArray) (pick A R)).bind fun x9=>((at' A (i5:Int)).bind fun x10=>((bW x9 ([x10]:List ByteArray)).bind fun x11=>((du fuel L A x11 (ap ((i5:Int)+1)) (ap (((m+1:Nat):Int)- 1))).bind fun x12=>(bif x12.2 then some (U4 (U4 (x12.1,true)))else some (Vp ()))))))) (fun(_:Unit)=>(Vp ():Unit⊕(List ByteArray×Bool))) j i ()=some (.inr (pick A Q,true))
    | none=>dm (fun(i5:Nat) (_:Unit)=>((bW ([]:List ByteArray) (pick A R)).bind fun x9=>((at' A (i5:Int)).bind fun x10=>((bW x9 ([x10]:List ByteArray)).bind fun x11=>((du fuel L A x11 (ap ((i5:Int)+1)) (ap (((m+1:Nat):Int)- 1))).bind fun x12=>(bif x12.2 then some (U4 (U4 (x12.1,true)))else some (Vp ()))))))) (fun(_:Unit)=>(Vp ():Unit⊕(List ByteArray×Bool))) j i ()=some (.inl ()):=by
   intro j
   induction j with
   | zero=>intro i _ _;rfl
   | succ j ih=>
    intro i hi hfi;have hlt:i<A.length:=by omega
    have h2:=Ob hc h12 m fuel (i+1) (R++[(i:Int)]) (by omega) (hR.snoc (by omega) (by omega) fun x hx=>by have:=hN.1 x hx;omega) (hN.snoc hfi) (by omega);rw[Na A R hlt]at h2;have hb:((bW ([]:List ByteArray) (pick A R)).bind fun x9=>((at' A (i:Int)).bind fun x10=>((bW x9 ([x10]:List ByteArray)).bind fun x11=>((du fuel L A x11 (ap ((i:Int)+1)) (ap (((m+1:Nat):Int)- 1))).bind fun x12=>(bif x12.2 then some (U4 (U4 (x12.1,true)))else some (Vp ()))))))=((du fuel L A (pick A R++[A[i]]) ((i+1:Nat):Int) (m:Int)).bind fun x12=>(bif x12.2 then some (U4 (U4 (x12.1,true)))else some (Vp ())):Option (Unit⊕(Unit⊕(List ByteArray×Bool)))):=by
     rw[ci (by rw[mD];simp;omega),Ti,UD,CN hlt,Ti,ci (by rw[mD];simp;omega),Ti,az (by omega) (by omega),az (by omega) (by omega)];congr 2;omega
    have ih:=ih (i+1) (by omega) (by omega);rw[Vv,UE,H5];generalize q7 A.length m (i+1) (R++[(i:Int)])=C at h2⊢;unfold Few at h2;cases hC:C.find? (pq L A)with
    | some Q=>
     rw[hC]at h2;simp only;unfold dm;rw[hb,h2];rfl
    | none=>
     rw[hC]at h2;obtain⟨l,h2⟩:=h2;simp only;unfold dm;rw[hb,h2];exact ih
  have hkey:=key (A.length - f) f;unfold q7 du;rw[beq_eq_false_iff_ne.2 (show((m+1:Nat):Int)≠0 by omega),cond_false,vB f (by omega),show((A.length:Int)-(f:Int)).toNat=A.length - f by omega];by_cases hfl:f<=A.length
  ·have hkey:=hkey (by omega) (TA _);unfold Few;cases hC:((UM f (A.length - f)).flatMap fun i=>q7 A.length m (i+1) (R++[(i:Int)])).find? (pq L A)with
   | some Q=>
    rw[hC]at hkey;simp only at hkey⊢;rw[hkey];rfl
   | none=>
    rw[hC]at hkey;simp only at hkey⊢;rw[hkey];exact⟨_,rfl⟩
  ·rw[show A.length - f=0 by omega];exact⟨_,rfl⟩
theorem Cf(hc:bh L=true)(hsm: ∀x∈L,cJ x)(h12:A.length<=12)(hs:jq L=some A):eU L=match(wK A.length).find? (pq L A)with | some Q=>some (pick A Q,0) | none=>some ([],4):=by
 have hcl:=aH.1 hc;unfold eU;rw[ki (by omega) hsm,hc,Ti,hs,Ti];simp only[TO,cond_false];have key: ∀(j i:Nat),i+j=A.length+1->match((UM i j).flatMap fun m=>q7 A.length m 0 []).find? (pq L A)with
   | some Q=>Ku (fun(i5:Int) (_:Unit)=>(decide (i5<=(A.length:Int)))) (fun(i5:Int) (_:Unit)=>((oc L A ([]:List ByteArray) 0 i5).bind fun x9=>(bif x9.2 then some (U4 (U4 (x9.1,0)))else some (Vp ())))) (fun(_:Unit)=>(Vp ():Unit⊕(List ByteArray×Int))) (i:Int) ()=some (.inr (pick A Q,0))
   | none=>Ku (fun(i5:Int) (_:Unit)=>(decide (i5<=(A.length:Int)))) (fun(i5:Int) (_:Unit)=>((oc L A ([]:List ByteArray) 0 i5).bind fun x9=>(bif x9.2 then some (U4 (U4 (x9.1,0)))else some (Vp ())))) (fun(_:Unit)=>(Vp ():Unit⊕(List ByteArray×Int))) (i:Int) ()=some (.inl ()):=by
  intro j
  induction j with
  | zero=>
   intro i hi;show Ku _ _ _ _ _=_;unfold Ku;rw[bT];dsimp only;rw[decide_eq_false (by omega)];rfl
  | succ j ih=>
   intro i hi;have h2:Few A _ (oc L A ([]:List ByteArray) 0 (i:Int)):=Ob hc h12 i 1000 0 [] (by omega) (ik.nil _) fS.nil (by omega);have ih:=ih (i+1) (by omega);have hw:ap ((i:Int)+1)=((i+1:Nat):Int):=by
    rw[az (by omega) (by omega)];omega
   rw[Vv,UE,H5];generalize q7 A.length i 0 []=C at h2⊢;unfold Few at h2;cases hC:C.find? (pq L A)with
   | some Q=>
    rw[hC]at h2;simp only at h2⊢;unfold Ku;rw[bT];dsimp only;rw[decide_eq_true (by omega),cond_true,h2];rfl
   | none=>
    rw[hC]at h2;obtain⟨l,h2⟩:=h2;unfold Ku at ih⊢;rw[bT];dsimp only;rw[decide_eq_true (by omega),cond_true,h2];simp only[Ti,cond_false,T6,hw];exact ih
 have hk:=key A.length 1 (by omega);unfold wK;cases hC:((UM 1 A.length).flatMap fun m=>q7 A.length m 0 []).find? (pq L A)with
 | some Q=>
  rw[hC]at hk;rw[show(1:Int)=((1:Nat):Int)from rfl,hk];rfl
 | none=>
  rw[hC]at hk;rw[show(1:Int)=((1:Nat):Int)from rfl,hk];rfl
theorem K5(hc:bh L=true)(hsm: ∀x∈L,cJ x): ∃S c,cG L=some (S,c)/\eU L=some (S,c)/\(c=0\/c=4)/\S.length<=12/\ ∀s∈S,s∈L.map Claim.Source:=by
 have hcl:=aH.1 hc;have h12:(gR (L.map Claim.Source)).length<=12:=by
  have:=Jw (L.map Claim.Source);rw[TM]at this;omega
 have hs:=Cf hc hsm h12 (Nn (by omega));have hA:=uS (L.map Claim.Source);have hAm: ∀c∈L,c.Source∈gR (L.map Claim.Source):=fun c h=>uR.2 (List.mem_map_of_mem h);have hAs: ∀s∈gR (L.map Claim.Source),s∈L.map Claim.Source:=fun s h=>uR.1 h;have hi:=MH (L:=L) (by omega);generalize gR (L.map Claim.Source)=A at*;cases hco:nL L
 ·obtain⟨R,r1,r2⟩:=BP hc hsm hco hA hAm rfl h12 hi;have hbad:=Lo (A:=A) hco hAm;have hall:allI A.length∈wK A.length:=zO.2 ⟨CK _,fun h=>by rw[h,Lp]at hbad;cases hbad⟩;cases hf:(wK A.length).find? (pq L A)with
  | none=>
   have:=Vs.1 hf _ hall;exact absurd hbad this
  | some Q=>
   have hRQ:R=Q:=BB Lp hf (fun x=>by
    rw[Tx,Tu,TF];constructor
    ·rintro(rfl | ⟨⟨b,_,rfl⟩,h⟩)
     ·exact⟨CK _,hbad⟩
     ·exact⟨rH _ _,h⟩
    ·rintro⟨h1,h2⟩;obtain⟨b,b1,b2⟩:=zz _ h1;exact .inr ⟨⟨b,T2.2 b1,b2⟩,h2⟩) r2
   subst hRQ;rw[hf]at hs;have hI:ik A.length R:=(zO.1 (List.mem_of_find?_eq_some hf)).1;refine⟨_,_,r1,hs,.inl rfl,by rw[mD];have:=hI.len;omega,fun s h=>hAs s (OV hI h)⟩
 ·have hf:(wK A.length).find? (pq L A)=none:=Vs.2 fun R _=>by rw[Oe hc hco R];decide
  rw[hf]at hs;refine⟨[],4,?_,hs,.inr rfl,by simp,by simp⟩;unfold cG;rw[fY (by omega) hsm,hc,Ti,fZ (by omega) hcl.2,Ti,hco];rfl
end
structure dx (d:bg):Prop where
 c:bh d.Claims=true
 cs: ∀x∈d.Claims,cJ x
 s:mE d.Sites=some true
 ss: ∀x∈d.Sites,uP x
theorem dx.RN:dx (bg.mk [] []):=⟨rfl,by simp,rfl,by simp⟩
abbrev okT:ByteArray:=Tj #[111,107]
abbrev Q0:ByteArray:=Tj #[101,114,114,111,114,32]
def Ki(e:Int):ByteArray:=Q0++cK e
theorem ir{e:Int}(h0:0<=e)(h9:e<=9):db e=some (Ki e):=by
 have z:=bO (v:=e) (by omega) (by omega);have z1:(Tj #[101,114,114,111,114,32]).size=6:=rfl;unfold db Ki;rw[kZ _ (by omega) (by omega),Ti,cq (by omega)];rfl
theorem Mw{e:Int}(h0:0<=e)(h9:e<=9):((bY e).bind fun x18=>bV Q0 x18)=some (Ki e):=by
 have z:=bO (v:=e) (by omega) (by omega);have z1:Q0.size=6:=rfl;unfold Ki;rw[iA (by omega) (by omega),Ti,cq (by omega)]
def M5(t:ByteArray)(e:Int):ByteArray:=bif e !=0 then Ki e else t
theorem jk(t:ByteArray){e:Int}(h0:0<=e)(h9:e<=9):cO t e=some (M5 t e):=by
 unfold cO M5;cases (e !=0)
 ·rfl
 ·rw[cond_true,cond_true,ir h0 h9];rfl
def Did(d:bg)(i:Option (ByteArray×bg))(s:Option (bg×Int)):Prop:= ∃d' e,s=some (d',e)/\(0<=e/\e<=9)/\i=some (M5 okT e,bif e !=0 then d else d')/\(e=0->dx d')
theorem Mj{d:bg}(h:dx d){w:ByteArray}(hw:w.size<=1048576):Did d (fW d w) (ll d w):=by
 obtain⟨c,e,r1,r2,r3⟩:=G2 w hw;have h12:=aH.1 h.c;unfold fW ll;rw[r1,r2,Ti,Ti];rcases r3 with rfl | ⟨rfl,r4,r5⟩
 ·refine⟨d,6,rfl,by omega,?_,fun h=>by cases h⟩;have h6:(((6:Int) !=0))=true:=rfl;simp only[h6,cond_true,ir (e:=6) (by omega) (by omega),Ti,TZ];rfl
 ·have h0:(((0:Int) !=0))=false:=rfl;by_cases hl:d.Claims.length=12
  ·have hb:((d.Claims.length:Int)==12)=true:=by rw[beq_iff_eq];omega
   refine⟨d,3,?_,by omega,?_,fun h=>by cases h⟩
   ·simp only[h0,cond_false,hb,cond_true]
   ·simp only[h0,cond_false,hb,cond_true,ir (e:=3) (by omega) (by omega),Ti,TZ];rfl
  ·have hb:((d.Claims.length:Int)==12)=false:=by rw[beq_eq_false_iff_ne];omega
   refine⟨bg.mk (d.Claims++[c]) d.Sites,0,?_,by omega,?_,fun _=>⟨aH.2 ⟨by simp;omega,fun x hx=> ?_⟩,fun x hx=> ?_,h.s,h.ss⟩⟩
   ·simp only[h0,cond_false,hb];rw[ci (by simp;omega),Ti,UD,ci (by simp;omega)];rfl
   ·simp only[h0,cond_false,hb,Ti,T6];rw[ci (by simp;omega)];rfl
   ·rcases TN.1 hx with hx | hx
    ·exact h12.2 x hx
    ·rw[TH.1 hx];exact r4
   ·rcases TN.1 hx with hx | hx
    ·exact h.cs x hx
    ·rw[TH.1 hx];exact r5
theorem Ev{x y:List Claim}(h:x.length+y.length<=1000000):iq [x,y]=some (x++y):=by
 unfold iq;have a0:at' [x,y] 0=some x:=aG (L:=[x,y]) 0;have a1:at' [x,y] 1=some y:=aG (L:=[x,y]) 1;have e1:=Iv (A:=Int) (B:=fun(i3:Int) (s3:Int)=>((at' [x,y] i3).bind fun x7=>(bif(decide ((ap (s3+(x7.length:Int)))<0))then none else some (ap (s3+(x7.length:Int)))))) (D:=fun(s3:Int)=>s3) (s:=0) (a:=(x.length:Int)) (b:=(x.length:Int)+y.length) (by
  simp only[a0,Ti];rw[az (by omega) (by omega),decide_eq_false (by omega),cond_false,Int.zero_add]) (by
  simp only[a1,Ti];rw[az (by omega) (by omega),decide_eq_false (by omega),cond_false])
 have e2:=Iv (A:=List Claim) (B:=fun(i11:Int) (s11:(List Claim))=>((at' [x,y] i11).bind fun x15=>((bW s11 x15).bind fun x16=>some x16))) (D:=fun(s11:(List Claim))=>s11) (s:=[]) (a:=x) (b:=x++y) (by
  simp only[a0,Ti];rw[ci (by simp;omega)];rfl) (by
  simp only[a1,Ti];rw[ci (by omega)];rfl)
 rw[show((([x,y]:List (List Claim)).length:Nat):Int)=2 from rfl,e1,Ti,e2];have h3:Iz ((x.length:Int)+y.length)=some ():=by
  unfold Iz;rw[decide_eq_true (by omega),decide_eq_true (by omega)];rfl
 rw[h3];rfl
def Lv(aD:bg)(n:Int):Option (ByteArray×Int×bg):=((dz n 0 (ap ((aD.Claims.length:Int)- 1))).bind fun x12=>(bif(!x12)then some ((Tj #[111,107]),2,aD)else((fE aD.Claims 0 n).bind fun x13=>((bW ([]:List Claim) x13).bind fun x14=>((fE aD.Claims (ap (n+1)) (aD.Claims.length:Int)).bind fun x15=>((bW x14 x15).bind fun x16=>some ((Tj #[111,107]),0,(bg.mk x16 aD.Sites))))))))
theorem N3{d:bg}(h:dx d){w:ByteArray}(hw:w.size<=1048576){n:Int}(hn:gO w=(n,true))(h0:0<=n)(h1:n<10000000000000):Did d (fj d w) ((Lv d n).map fun x=>(x.2.2,x.2.1))/\ ∃x,Lv d n=some (okT,x):=by
 have h12:=aH.1 h.c;obtain⟨m,rfl⟩:=Ui h0;have hz:(0:Int)=((0:Nat):Int):=rfl;unfold fj Lv jF;rw[vP w hw,Ti,Ti,hn,kc,Ti,az (n:=(d.Claims.length:Int)- 1) (by omega) (by omega),az (n:=(m:Int)+1) (by omega) (by omega)];by_cases hl:m<d.Claims.length
 ·have hb:inB (m:Int) 0 ((d.Claims.length:Int)- 1)=true:=io.2 ⟨by omega,by omega⟩;have hc:decide ((m:Int)>=(d.Claims.length:Int))=false:=decide_eq_false (by omega);have p1:fE d.Claims 0 (m:Int)=some (d.Claims.take m):=by
   rw[lz (by omega) (by omega) (by omega)];simp
  have p2:fE d.Claims ((m:Int)+1) (d.Claims.length:Int)=some (d.Claims.drop (m+1)):=by
   rw[lz (by omega) (by omega) (by omega),show((m:Int)+1).toNat=m+1 by omega,T4 (by rw[Ux];omega)]
  have hlen:(d.Claims.take m++d.Claims.drop (m+1)).length<=12:=by
   rw[Tz,TQ,Ux];omega
  have hm: ∀x∈d.Claims.take m++d.Claims.drop (m+1),x∈d.Claims:=fun x hx=>by
   rcases TN.1 hx with hx | hx
   ·exact U6 hx
   ·exact List.mem_of_mem_drop hx
  have hlen2:=hlen;rw[Tz]at hlen2;simp only[hb,hc,TO,cond_false,p1,p2,Ti];rw[ci (by simp;omega),Ti,UD,ci (by omega),Ti,Ev (by omega)];exact⟨⟨_,0,rfl,by omega,rfl,fun _=>⟨aH.2 ⟨hlen,fun x hx=>h12.2 x (hm x hx)⟩,fun x hx=>h.cs x (hm x hx),h.s,h.ss⟩⟩,_,rfl⟩
 ·have hb:inB (m:Int) 0 ((d.Claims.length:Int)- 1)=false:=TS.2 fun e=>by
   have:=io.1 e;omega
  have hc:decide ((m:Int)>=(d.Claims.length:Int))=true:=decide_eq_true (by omega);simp only[hb,hc,Uj,cond_true,ir (e:=2) (by omega) (by omega),Ti];exact⟨⟨d,2,rfl,by omega,rfl,fun h=>by cases h⟩,_,rfl⟩
def ltC(a b:Site):Bool:=lg a.Code b.Code
theorem vK(a b c:Site)(h:ltC a b=true)(k:ltC b c=true):ltC a c=true:=FQ h k
theorem Au(a b:Site)(h:ltC a b=true):ltC b a=false:=vL h
theorem K0{L:List Site}(h:mE L=some true):L.Pairwise fun a b=>ltC a b=true:=by
 rw[Ve];intro i j hi hj hij;exact(fr h).1 i j _ _ hij (Tk hi) (Tk hj)
def qI(L:List Site)(x:Site):List Site:=kO ltC (L.filter fun s=> !(s.Code.toList==x.Code.toList)) x
theorem NG(L:List Site)(x:Site):(qI L x).length<=L.length+1:=by
 unfold qI;rw[AB];have:=UN (fun s:Site=> !(s.Code.toList==x.Code.toList)) L;omega
theorem NH{L:List Site}{x z:Site}(h:z∈qI L x):z=x\/z∈L:=by
 unfold qI at h;rcases rC.1 h with h | h
 ·exact .inl h
 ·exact .inr (Tu.1 h).1
theorem Gs(x y:Site):((fi x y).bind fun x9=>some (decide (x9<0)))=some (ltC x y):=by
 obtain⟨r,r1,r2,_⟩:=CD x.Code y.Code;unfold fi;rw[r1,Ti,Ti,r2];rfl
theorem JX{L:List Site}(hL:L.Pairwise fun a b=>ltC a b=true)(x:Site):AX ltC (L.filter (fun s=> !(s.Code.toList==x.Code.toList))++[x])/\ ∀y∈L.filter (fun s=> !(s.Code.toList==x.Code.toList)),ltC y x=true\/ltC x y=true:=by
 have hx: ∀y∈L.filter (fun s=> !(s.Code.toList==x.Code.toList)),ltC y x=true\/ltC x y=true:=fun y hy=>by
  have h:=(Tu.1 hy).2;have h2: ¬y.Code=x.Code:=fun e=>by
   rw[e,fT.2 rfl]at h;cases h
  exact vM h2
 refine⟨?_,hx⟩;unfold AX;refine Ur.2 ⟨(hL.filter _).imp fun h=> .inl h,List.pairwise_singleton _ _,fun a ha b hb=> ?_⟩;rw[TH.1 hb];exact hx a ha
theorem K1{L:List Site}(h12:L.length<=12)(ha:AX ltC L):bM L=some (lT ltC L):=by
 unfold bM;obtain⟨l,hl⟩: ∃l,bits_Len (IntKind.wrap .u64 (L.length:Int))=some l:=by
  have key: ∀n:Fin 13,(bits_Len (IntKind.wrap .u64 (n.val:Int))).isSome=true:=by decide+kernel
  exact Option.isSome_iff_exists.1 (key ⟨L.length,by omega⟩)
 rw[hl,Ti];unfold bQ;rw[bT];have e:ap ((L.length:Int)- 0)=(L.length:Int):=by rw[az (by omega) (by omega)];omega
 simp only[e,decide_eq_true (show(L.length:Int)<=12 by omega),cond_true];have:=Qt (C:=fi) (lt:=ltC) (P:=fun _=>True) (fun x y _ _=>Gs x y) vK Au (L:=L) (by omega) (fun _ _=>trivial) ha;rw[show bC L 0 (L.length:Int)=some (lT ltC L)from this];rfl
theorem Oi{L:List Site}(h10:L.length<=10)(hL:L.Pairwise fun a b=>ltC a b=true)(x:Site):((dW L).bind fun x3=>((bG x3 x.Code).bind fun x4=>((bW x4 ([x]:List Site)).bind fun x5=>bM x5)))=some (qI L x):=by
 have h1:dW L=some L:=by
  unfold dW;rw[if_pos (by omega)]
 have h2:=Fx (Site.mk (Tj #[]) (aF.mk 0 0)) (L:=L) (by omega) (fun s=>s.Code.toList==x.Code.toList) (T:=fun s=>fh s x.Code) (fun s _=>rfl);have h3:bG L x.Code=some (L.filter fun s=> !(s.Code.toList==x.Code.toList)):=h2;have hl:=UN (fun s:Site=> !(s.Code.toList==x.Code.toList)) L;obtain⟨a1,a2⟩:=JX hL x;rw[h1,Ti,h3,Ti,ci (by simp;omega),Ti,K1 (by simp;omega) a1];congr 1;refine qU Au (za vK a1) (sq vK (hL.filter _) a2) fun z=> ?_;rw[F3,TN,TH];unfold qI;rw[rC];exact or_comm
theorem Lg{α:Type}(p:α->Bool): ∀{M:List α},(∀y∈M,p y=true)->M.takeWhile p=M/\M.dropWhile p=[]
 | [],_=>⟨rfl,rfl⟩
 | x::M,h=>by
  have hx:=h x (by simp);have ih:=Lg p (M:=M) fun y hy=>h y (by simp[hy]);rw[List.takeWhile_cons_of_pos hx,List.dropWhile_cons_of_pos hx,ih.1];exact⟨rfl,ih.2⟩
theorem Pc{L:List Site}(hl:L.length<=1000)(hL:L.Pairwise fun a b=>ltC a b=true)(x:Site):
  ((cR (L.length:Int) (fun(i4:Int) (s4:Bool×(List Site))=>(((bif(!s4.1)then((at' L i4).bind fun x8=>some ((Op.bytesLess x.Code.toList x8.Code.toList) || (x.Code.toList==x8.Code.toList)))else some false)).bind fun(j9:Bool)=>(((bif j9 then((bW s4.2 ([x]:List Site)).bind fun x13=>some (true,x13))else some (s4.1,s4.2))).bind fun(j11:Bool×(List Site))=>((at' L i4).bind fun x14=>(bif(!(x14.Code.toList==x.Code.toList))then((at' L i4).bind fun x15=>((bW j11.2 ([x15]:List Site)).bind fun x16=>some (j11.1,x16)))else some (j11.1,j11.2)))))) (fun(s4:Bool×(List Site))=>(s4.1,s4.2)) 0 (false,([]:List Site))).bind fun(j2:Bool×(List Site))=>(bif(!j2.1)then((bW j2.2 ([x]:List Site)).bind fun x19=>some x19)else some j2.2))=some (qI L x):=by
 have ntk: ∀{M:List Site},(∀y∈M,ltC y x=true)->M.filter (fun s=> !(s.Code.toList==x.Code.toList))=M/\M.takeWhile (fun y=>ltC y x)=M/\M.dropWhile (fun y=>ltC y x)=[]:=fun{M} hM=>by
  refine⟨VY.2 fun y hy=> ?_,(Lg _ hM).1,(Lg _ hM).2⟩
  ·have: ¬y.Code=x.Code:=fun e=>by
    have h:=hM y hy;unfold ltC at h;rw[e,pF]at h;cases h
   have h2:(y.Code.toList==x.Code.toList)=false:=TS.2 fun h=>this (fT.1 h);rw[h2];rfl
 obtain⟨⟨b,M⟩,h1,h2⟩:=Gv.Od (show L.length<=1000000000 by omega) (B:=fun(i4:Int) (s4:Bool×(List Site))=>(((bif(!s4.1)then((at' L i4).bind fun x8=>some ((Op.bytesLess x.Code.toList x8.Code.toList) || (x.Code.toList==x8.Code.toList)))else some false)).bind fun(j9:Bool)=>(((bif j9 then((bW s4.2 ([x]:List Site)).bind fun x13=>some (true,x13))else some (s4.1,s4.2))).bind fun(j11:Bool×(List Site))=>((at' L i4).bind fun x14=>(bif(!(x14.Code.toList==x.Code.toList))then((at' L i4).bind fun x15=>((bW j11.2 ([x15]:List Site)).bind fun x16=>some (j11.1,x16)))else some (j11.1,j11.2)))))) (D:=fun(s4:Bool×(List Site))=>(s4.1,s4.2)) (fun i s=>s.2.length<=i+1/\((s.1=false/\s.2=L.take i/\ ∀y∈L.take i,ltC y x=true)\/(s.1=true/\s.2=qI (L.take i) x/\ ∃y∈L.take i,ltC y x=false))) (fun i s hi hs=>by
  have hat:at' L (i:Int)=some L[i]:=CN hi;have htk:L.take (i+1)=L.take i++[L[i]]:=by
   rw[Vg,Tk hi];rfl
  have hlt: ∀y∈L.take i,ltC y L[i]=true:=fun y hy=>by
   obtain⟨j,hj,rfl⟩:=List.getElem_of_mem hy;rw[TQ]at hj;rw[List.getElem_take];exact Ve.1 hL j i (by omega) hi (by omega)
  obtain⟨hl1,hs⟩:=hs;generalize L[i]=y at hat htk hlt;obtain⟨b,M⟩:=s;simp only at hl1 hs;have hle:(Op.bytesLess x.Code.toList y.Code.toList || (x.Code.toList==y.Code.toList))= !ltC y x:=by
   have hc:(x.Code.toList==y.Code.toList)=(y.Code.toList==x.Code.toList):=BEq.comm;rw[hc];by_cases h:y.Code=x.Code
   ·rw[fT.2 h,Bool.or_true];unfold ltC;rw[h,pF];rfl
   ·have h2:(y.Code.toList==x.Code.toList)=false:=TS.2 fun e=>h (fT.1 e);rw[h2,Bool.or_false];rcases vM h with h3 | h3
    ·show lg x.Code y.Code= !lg y.Code x.Code;rw[h3,vL h3];rfl
    ·show lg x.Code y.Code= !lg y.Code x.Code;rw[h3,vL h3];rfl
  rcases hs with⟨rfl,hM,hall⟩ | ⟨rfl,hM,z,hz,hzx⟩
  ·simp only[Uj,cond_true,hat,Ti,hle];cases hyx:ltC y x
   ·have hP:=ntk hall;have hMl:M.length<=i:=by
     rw[hM,TQ];omega
    have hput:qI (L.take i++[y]) x=M++[x]++(bif !(y.Code.toList==x.Code.toList)then[y]else[]):=by
     unfold qI kO;rw[Vm,hP.1];cases hq:(y.Code.toList==x.Code.toList)
     ·rw[U2 (by simp[hq]),List.filter_nil,List.takeWhile_append_of_pos hall,List.dropWhile_append_of_pos hall,List.takeWhile_cons_of_neg (by simp[hyx]),List.dropWhile_cons_of_neg (by simp[hyx]),hM];simp
     ·rw[Vn (by simp[hq]),List.filter_nil,Up,hP.2.1,hP.2.2,hM];simp
    rw[Uj,cond_true,ci (by simp;omega)];simp only[Ti];cases hq:(y.Code.toList==x.Code.toList)
    ·rw[hq]at hput;simp only[Uj,cond_true]at hput⊢;rw[ci (by simp;omega)];refine⟨_,rfl,by simp;omega,.inr ⟨rfl,?_,y,by rw[htk];simp,hyx⟩⟩;rw[htk,hput]
    ·rw[hq]at hput;simp only[TO,cond_false,Up]at hput⊢;refine⟨_,rfl,by simp;omega,.inr ⟨rfl,?_,y,by rw[htk];simp,hyx⟩⟩;rw[htk,hput]
   ·have hq:(y.Code.toList==x.Code.toList)=false:=TS.2 fun e=>by
     unfold ltC at hyx;rw[fT.1 e,pF]at hyx;cases hyx
    simp only[TO,cond_false,Ti,hq,Uj,cond_true];rw[ci (by simp;omega)];refine⟨_,rfl,by simp;omega,.inl ⟨rfl,by rw[htk,hM],fun u hu=> ?_⟩⟩;rw[htk]at hu;rcases TN.1 hu with hu | hu
    ·exact hall u hu
    ·rw[TH.1 hu];exact hyx
  ·have hxy:ltC x y=true:=by
    by_cases h:z.Code=x.Code
    ·have:=hlt z hz;unfold ltC at this⊢;rw[h]at this;exact this
    ·rcases vM h with h3 | h3
     ·exfalso;unfold ltC at hzx;rw[h3]at hzx;cases hzx
     ·exact vK _ _ _ h3 (hlt z hz)
   have hyx:=Au _ _ hxy;have hq:(y.Code.toList==x.Code.toList)=false:=TS.2 fun e=>by
    unfold ltC at hxy;rw[fT.1 e,pF]at hxy;cases hxy
   have hput:qI (L.take i++[y]) x=qI (L.take i) x++[y]:=by
    have hd: ∀{F:List Site},kO ltC (F++[y]) x=kO ltC F x++[y]:=fun{F}=>by
     unfold kO
     induction F with
     | nil=>simp[hyx]
     | cons f F ih=>
      cases hf:ltC f x
      ·simp[hf]
      ·have h1: ∀G:List Site,(f::G).takeWhile (fun y=>ltC y x)=f::G.takeWhile (fun y=>ltC y x):=fun G=>List.takeWhile_cons_of_pos (p:=fun y=>ltC y x) hf;have h2: ∀G:List Site,(f::G).dropWhile (fun y=>ltC y x)=G.dropWhile (fun y=>ltC y x):=fun G=>List.dropWhile_cons_of_pos (p:=fun y=>ltC y x) hf;rw[Vb,h1,h2,h1,h2,Vb,Vb,ih];rfl
    unfold qI;rw[Vm,U2 (by simp[hq]),List.filter_nil,hd]
   simp only[TO,cond_false,Ti,hat,hq,Uj,cond_true];rw[ci (by simp;omega)];exact⟨_,rfl,by simp;omega,.inr ⟨rfl,by rw[htk,hput,hM],z,by rw[htk];simp[hz],hzx⟩⟩) (s:=(false,[])) ⟨by simp,.inl ⟨rfl,by simp,by simp⟩⟩ (Q:=fun r=>r.2.length<=L.length+1/\((r.1=false/\r.2=L/\ ∀y∈L,ltC y x=true)\/(r.1=true/\r.2=qI L x))) (fun s hs=>by
  rw[WN]at hs;exact⟨hs.1,hs.2.imp id fun h=>⟨h.1,h.2.1⟩⟩)
 rw[h1,Ti];rcases h2.2 with⟨hb,hM,hall⟩ | ⟨hb,hM⟩
 ·simp only at hb hM;have hP:=ntk hall;simp only[hb,hM,Uj,cond_true];rw[ci (by simp;omega)];show some (L++[x])=_;unfold qI kO;rw[hP.1,hP.2.1,hP.2.2]
 ·simp only at hb hM;simp only[hb,hM,TO,cond_false]
theorem O5{d:bg}(h:dx d){c w:ByteArray}(hc:c.size<=1048576)(hw:w.size<=1048576):Did d (gG d c w) (o8 d c w):=by
 obtain⟨p,e,r1,r2,r3⟩:=y3 w hw;have hp:=K0 h.s;have h10:=(fr h.s).2.2;have hi:=Oi h10 hp (Site.mk c p);have hs:=Pc (by omega) hp (Site.mk c p);have hlen:=NG d.Sites (Site.mk c p);have hsm: ∀x∈qI d.Sites (Site.mk c p),uP x:=fun x hx=>by
  rcases NH hx with rfl | hx
  ·exact⟨hc⟩
  ·exact h.ss x hx
 have hA:=sc (L:=qI d.Sites (Site.mk c p)) (by omega) hsm;have hB:=xF (L:=qI d.Sites (Site.mk c p)) (by omega) hsm;obtain⟨v,hv⟩:=Jt (qI d.Sites (Site.mk c p));rw[hv]at hA hB;have hfin:v=true->dx (bg.mk d.Claims (qI d.Sites (Site.mk c p))):=fun e=>⟨h.c,h.cs,by rw[hv,e],hsm⟩;unfold gG o8;rw[r1,r2,Ti,Ti];rcases r3 with rfl | ⟨rfl,_⟩
 ·refine⟨d,6,rfl,by omega,?_,fun h=>by cases h⟩;have h6:(((6:Int) !=0))=true:=rfl;simp only[h6,cond_true,ir (e:=6) (by omega) (by omega),Ti];rfl
 ·have h0:(((0:Int) !=0))=false:=rfl;obtain⟨l1,hl1,hl2⟩:=U3.1 hi;obtain⟨l2,hl3,hl4⟩:=U3.1 hl2;obtain⟨l3,hl5,hl6⟩:=U3.1 hl4;obtain⟨⟨b,M⟩,hm1,hm2⟩:=U3.1 hs;simp only[h0,cond_false,hl1,hl3,hl5,hl6,Ti,hA];rw[hm1];simp only[Ti];have hm3:(((bif(!b)then((bW M ([Site.mk c p]:List Site)).bind fun x19=>some x19)else some M)).bind fun(j17:(List Site))=>((fF j17).bind fun x20=>(bif(!x20)then some (d,(1:Int))else some ((bg.mk d.Claims j17),0))))=(bif(!v)then some (d,(1:Int))else some ((bg.mk d.Claims (qI d.Sites (Site.mk c p))),0)):=by
   rw[hm2,Ti,hB,Ti]
  unfold Did;rw[hm3];cases v
  ·refine⟨d,1,rfl,by omega,?_,fun h=>by cases h⟩;simp only[Uj,cond_true,ir (e:=1) (by omega) (by omega),Ti];rfl
  ·exact⟨_,0,rfl,by omega,rfl,fun _=>hfin rfl⟩
theorem tne{a b:ByteArray}(h: ¬a=b):(a.toList==b.toList)=false:=TS.2 fun e=>h (fT.1 e)
theorem teq(a:ByteArray):(a.toList==a.toList)=true:=fT.2 rfl
def Told(i:Option ByteArray)(s:Option (ByteArray×Int)):Prop:= ∃t e,s=some (t,e)/\(0<=e/\e<=9)/\i=some (M5 t e)
theorem FH{x:ByteArray}(h:1<=x.size)(c:ByteArray): ∀L:List ByteArray,1<=(ee (x::L) c).size
 | []=>by rw[gz];exact h
 | y::L=>by
  rw[fe,Tw,Tw];omega
theorem OD(v:Int):1<=(cK v).size:=by
 rw[vO];exact VX.2 (GQ v)
theorem MU(R:List Int):1<=(lS R).size:=by
 unfold lS;cases R with
 | nil=>exact TA 1
 | cons x R=>exact FH (OD x) _ _
theorem vE{n:Nat}{R:List Int}(h:ik n R)(hn:n<=12):R.length<=1000/\ ∀x∈R,0<=x/\x<1000000:=by
 have hl:=h.len;exact⟨by omega,fun x hx=>by have:=h.2 x hx;omega⟩
theorem J8{d:bg}(h:dx d):Told (im d) (nG d):=by
 have hc:=h.c;have h12:=(aH.1 hc).1;have hI:=EH hc;rw[Ng (tI hc)]at hI;have hm: ∀R∈kV (gv d.Claims) d.Claims.length (d.Claims.length+1) 0 [],ik d.Claims.length R:=fun R hR=>((Oz hc).1 hR).1;unfold im nG rV sy;rw[fY (by omega) h.cs,ki (by omega) h.cs,hc,Ti,Ti,hI,Nh hc];generalize kV (gv d.Claims) d.Claims.length (d.Claims.length+1) 0 []=C at hm;simp only[TO,cond_false,Ti];by_cases h60:C.length>60
 ·have h3:((3:Int) !=0)=true:=rfl;have e0:cR (((([]:List (List Int)).length:Nat):Int)) (fun(i4:Int) (s4:(List ByteArray))=>((at' ([]:List (List Int)) i4).bind fun x8=>((fC x8).bind fun x9=>((bW s4 ([x9]:List ByteArray)).bind fun x10=>some x10)))) (fun(s4:(List ByteArray))=>s4) 0 ([]:List ByteArray)=some []:=by
   unfold cR;rw[bT];rfl
  rw[decide_eq_true (show(C.length:Int)>60 by omega),cond_true];refine⟨_,3,rfl,by omega,?_⟩;simp only[Ti,e0];have el:(((([]:List ByteArray).length:Nat):Int)==0)=true:=rfl;rw[el,cond_true];simp only[Ti];rw[mo (k:=10) (c:=Tj #[59]) (by decide) (by omega) (by decide) rfl,Ti,jk _ (by omega) (by omega)];rfl
 ·rw[decide_eq_false (show ¬(C.length:Int)>60 by omega),cond_false];have h0:((0:Int) !=0)=false:=rfl;have hsz: ∀R∈C,(lS R).size<=20000:=fun R hR=>by
   have:=vE (hm R hR) h12;exact KN this.1 this.2
  have e1:cR (C.length:Int) (fun(i4:Int) (s4:(List ByteArray))=>((at' C i4).bind fun x8=>((fC x8).bind fun x9=>((bW s4 ([x9]:List ByteArray)).bind fun x10=>some x10)))) (fun(s4:(List ByteArray))=>s4) 0 ([]:List ByteArray)=some (C.map lS):=by
   rw[oP (by omega) (fun R=>some (lS R)) (fun i R s hR hs=>by
    have:=vE (hm R (Tm hR)) h12;rw[aG,hR,Ti,ym this.1 this.2,Ti,ci (by simp;omega)];rfl)]
   congr 1;exact congrFun (List.filterMap_eq_map (f:=lS)) C
  have e2:cR (C.length:Int) (fun(i4:Int) (s4:ByteArray)=>(((bif(decide (i4>0))then((bV s4 (Tj #[59])).bind fun x10=>some x10)else some s4)).bind fun(j8:ByteArray)=>((at' C i4).bind fun x11=>((iY x11).bind fun x12=>((bV j8 x12).bind fun x13=>some x13))))) (fun(s4:ByteArray)=>s4) 0 (Tj #[])=some (ee (C.map lS) (Tj #[59])):=by
   rw[vG (k:=20000) (t:=lS) (c:=Tj #[59]) (by omega) (by omega) (by decide) hsz (fun i R s hR hs=>by
    have h1:=vE (hm R (Tm hR)) h12;have h2:=hsz R (Tm hR);have hat:at' C (i:Int)=some R:=by rw[aG,hR]
    have hc:(Tj #[59]).size=1:=rfl;simp only[hat,Ti,zq h1.1 h1.2];cases decide ((i:Int)>0)
    ·rw[cond_false,Ti,cq (by omega)];rfl
    ·rw[cond_true,cq (by omega),Ti,Ti,cq (by rw[Tw];omega)];rfl)]
  simp only[h0,cond_false,e1,e2,Ti,TM];cases hC:C with
  | nil=>
   have el:(((([]:List (List Int)).length:Nat):Int)==0)=true:=rfl;have ej:ee (List.map lS []) (Tj #[59])=Tj #[]:=rfl;refine⟨Tj #[45],0,?_,by omega,?_⟩
   ·rw[ej,teq,cond_true]
   ·rw[el,cond_true,Ti,mo (k:=10) (c:=Tj #[59]) (by decide) (by omega) (by decide) rfl,Ti,jk _ (by omega) (by omega),gz];rfl
  | cons R C'=>
   have hsz': ∀x∈(R::C').map lS,x.size<=20000:=fun x hx=>by
    obtain⟨Q,hQ,rfl⟩:=TF.1 hx;exact hsz Q (hC▸hQ)
   have hl:((R::C').map lS).length<=1000:=by
    rw[TM,<-hC];omega
   have el:((((R::C').length:Nat):Int)==0)=false:=by
    rw[beq_eq_false_iff_ne,Ty];omega
   have hp:=FH (MU R) (Tj #[59]) (C'.map lS);have ej:((ee ((R::C').map lS) (Tj #[59])).toList==(Tj #[]).toList)=false:=tne fun e=>by
    rw[UK]at e;rw[e]at hp;exact absurd hp (by decide)
   refine⟨ee ((R::C').map lS) (Tj #[59]),0,?_,by omega,?_⟩
   ·rw[ej,cond_false]
   ·rw[el,cond_false,Ti,mo (k:=20000) (c:=Tj #[59]) hl (by omega) hsz' rfl,Ti,jk _ (by omega) (by omega)];rfl
theorem Jl{d:bg}(h:dx d):Told ((lu d.Claims).bind fun x5=>((fC x5.1).bind fun x6=>cO x6 x5.2.2)) ((lB d.Claims).bind fun x5=>((iY x5.1).bind fun x6=>some (x6,x5.2.2))):=by
 have hc:=h.c;have h12:=(aH.1 hc).1;obtain⟨b,b1,b2,b3,_⟩:=Lq hc;have hs:=vE b3 h12;unfold lu lB;rw[fY (by omega) h.cs,ki (by omega) h.cs,hc];simp only[Ti,TO,cond_false,b1,b2,vW hc b3,ym hs.1 hs.2,zq hs.1 hs.2];exact⟨_,0,rfl,by omega,jk _ (by omega) (by omega)⟩
theorem NA{s:ByteArray}(h:df s=true):s.size<=16:=(sM h).2
theorem Ha{d:bg}(h:dx d):Told ((cG d.Claims).bind fun x8=>((strings_Join x8.1 (Tj #[44])).bind fun x9=>cO x9 x8.2)) (lF d):=by
 obtain⟨S,c,s1,s2,s3,s4,s5⟩:=K5 h.c h.cs;have hz: ∀s∈S,s.size<=16:=fun s hs=>by
  obtain⟨x,hx,rfl⟩:=TF.1 (s5 s hs);exact NA (nK ((aH.1 h.c).2 x hx)).s
 have hc:0<=c/\c<=9:=by omega
 unfold lF;rw[s1,s2,Ti,Ti];simp only;rw[mo (k:=16) (c:=Tj #[44]) (by omega) (by omega) hz rfl,Ti,jk _ hc.1 hc.2];rw[vG (k:=16) (t:=fun x=>x) (c:=Tj #[44]) (by omega) (by omega) (by decide) hz (fun i x s hx hs=>by
  have h2:=hz x (Tm hx);have hat:at' S (i:Int)=some x:=by rw[aG,hx]
  have hc:(Tj #[44]).size=1:=rfl;simp only[hat,Ti];cases decide ((i:Int)>0)
  ·rw[cond_false,Ti,cq (by omega)];rfl
  ·rw[cond_true,cq (by omega),Ti,Ti,cq (by rw[Tw];omega)];rfl),List.map_id',Ti]
 exact⟨_,c,rfl,hc,rfl⟩
theorem CO(L:List Claim)(b:List Int)(k:Int)(p:ByteArray)(y:Int):0<=(qZ L b k p y).2/\(qZ L b k p y).2<=9:=by
 have ha:0<=abC L p y/\abC L p y<=9:=by
  unfold abC;cases bh L&&df p
  ·exact⟨show(0:Int)<=1 by omega,show(1:Int)<=9 by omega⟩
  ·cases inB y (-3000) 3000
   ·exact⟨show(0:Int)<=2 by omega,show(2:Int)<=9 by omega⟩
   ·exact⟨show(0:Int)<=0 by omega,show(0:Int)<=9 by omega⟩
 unfold qZ;cases abC L p y !=0
 ·rw[cond_false];cases tel (lR L b) k p y
  ·exact⟨show(0:Int)<=4 by omega,show(4:Int)<=9 by omega⟩
  ·exact⟨show(0:Int)<=0 by omega,show(0:Int)<=9 by omega⟩
 ·rw[cond_true];exact ha
theorem M4{d:bg}(h:dx d){p:ByteArray}(hp:p.size<=1048576)(y:Int):Told ((kX d.Claims p y).bind fun x5=>cO x5.1 x5.2) (lj d.Claims p y)/\Told ((jf d.Claims p y).bind fun x5=>cO x5.1 x5.2) (jm d.Claims p y):=by
 have h12:=(aH.1 h.c).1;obtain⟨b,hb⟩:=PT d.Claims;obtain⟨n1,n2⟩:=J2 (by omega) h.cs hp y hb;obtain⟨m1,m2⟩:=Gj (by omega) h.cs hp y hb;have k1:=CO d.Claims b 0 p y;have k2:=CO d.Claims b 1 p y;rw[n1,n2,m1,m2,Ti,Ti,jk _ k1.1 k1.2,jk _ k2.1 k2.2];exact⟨⟨_,_,rfl,k1,rfl⟩,⟨_,_,rfl,k2,rfl⟩⟩
theorem KV(a b:aF):mg [a,b]=some (jw a&&jw b):=by
 unfold mg;rw[iv (L:=[a,b]) (by simp) (fun x=> !jw x) false (fun i x hx=>by
  rw[aG,hx,Ti,yp,Ti])]
 cases ha:jw a<;>cases hb:jw b<;>simp[ha,hb]
theorem PH{p q:aF}(d:bg)(hp:jw p=true)(hq:jw q=true):Told (jB d p q) (bif((p.X==q.X)&&(p.Y==q.Y))then some ((Tj #[]),5)else((dn p q).bind fun x10=>((fu x10).bind fun x11=>some (x11,0)))):=by
 unfold jB ni;rw[KV,hp,hq];cases he:((p.X==q.X)&&(p.Y==q.Y))
 ·have hne: ¬(q.X=p.X/\q.Y=p.Y):=fun e=>by
   rw[e.1,e.2,beq_self_eq_true,beq_self_eq_true]at he;cases he
  have hr:=w8 (q.X - p.X) (q.Y - p.Y);obtain⟨w1,_,_,_⟩:=xN hr.1 hr.2;have hw:fu (qJ (q.X - p.X) (q.Y - p.Y))=some (mQ (qJ (q.X - p.X) (q.Y - p.Y))):=by
   show((at' da (qJ (q.X - p.X) (q.Y - p.Y))).bind fun x1=>some x1)=_;rw[w1];rfl
  simp only[Wo,TO,cond_false,Ti,T6,IB hp hq hne,Jy hp hq,w1,hw,jk _ (show(0:Int)<=0 by omega) (show(0:Int)<=9 by omega)];exact⟨_,0,rfl,by omega,rfl⟩
 ·obtain⟨w1,_,_,_⟩:=xN (i:=0) (by omega) (by omega);simp only[Wo,TO,cond_false,cond_true,Ti,TZ,w1,jk _ (show(0:Int)<=5 by omega) (show(5:Int)<=9 by omega)];exact⟨_,5,rfl,by omega,rfl⟩
theorem JM{d:bg}(h:dx d){x a b:ByteArray}(hx:x=zD\/x=xK):Told (dP d [x,a,b]) (oe d [x,a,b]):=by
 have hs:=fr h.s;have a0:at' [x,a,b] 0=some x:=rfl;have a1:at' [x,a,b] 1=some a:=rfl;have a2:at' [x,a,b] 2=some b:=rfl;unfold dP oe;simp only[a0,a1,a2,Ti,qf hs.2.2 hs.1,uM (L:=d.Sites) (by omega),DN,ri];cases hA:d.Sites.any (gX a)
 ·simp only[Uj,Bool.true_or,cond_true,ir (e:=4) (by omega) (by omega),Ti,TZ];exact⟨_,4,rfl,by omega,rfl⟩
 cases hB:d.Sites.any (gX b)
 ·simp only[Uj,TO,Bool.or_true,cond_true,ir (e:=4) (by omega) (by omega),Ti,TZ];exact⟨_,4,rfl,by omega,rfl⟩
 obtain⟨s,s1,s2,s3⟩:=vT hA;obtain⟨t,t1,t2,t3⟩:=vT hB;have hp:=(hs.2.1 s s1).2;have hq:=(hs.2.1 t t1).2;have hb:=zu hp hq;simp only[TO,Bool.or_self,cond_false,s2,s3,t2,t3,Ti];rcases hx with rfl | rfl
 ·obtain⟨t,e,w1,w2,w3⟩:=PH d hp hq;have f1:(zD.toList==(Tj #[102,97,114]).toList)=false:=tne (by decide);rw[teq,f1,cond_true,cond_false,w3,w1];exact⟨t,e,rfl,w2,rfl⟩
 ·have f1:(xK.toList==(Tj #[119,97,121]).toList)=false:=tne (by decide);have f2:(xK.toList==(Tj #[102,97,114]).toList)=true:=teq _;rw[f1,f2,cond_true,cond_false,Cl hp hq,Hg hp hq];simp only[Ti,T6];rw[kZ _ (by omega) (by omega),iA (by omega) (by omega)];exact⟨_,0,rfl,by omega,rfl⟩
theorem KY{d:bg}(h:dx d){x:ak}(hx:eN x=true)(hz:EW x){p:aF}(hp:jw p=true): ∃b e,kv d.Sites x p=some (b,e)/\kC d.Sites x p=some (b,e)/\(0<=e/\e<=9)/\(b=true->e=0):=by
 have hs:=fr h.s;have hc:=Aj (ds:=[x]) (by omega) h.ss (by simp) (fun y hy=>by rw[TH.1 hy];exact hz) true h.s;have hd:=AQ (ds:=[x]) (by omega) h.ss (by simp) (fun y hy=>by rw[TH.1 hy];exact hz) h.s;have hcode:Fu d.Sites [x] true true=bif An d.Sites x then 4 else 0:=by
  unfold Fu;simp[hx]
 rw[hcode]at hc hd;unfold kv kC;rw[yp,CB,hp];simp only[Ti,TO,cond_false,hc,hd];cases hl:An d.Sites x
 ·have h0:((0:Int) !=0)=false:=rfl;simp only[cond_false,h0,Ol hs.2.2 hs.1 hs.2.1 hx hl hp,Pe hs.2.2 hs.2.1 hz.u hx hl hp,Ti];exact⟨_,0,rfl,rfl,by omega,fun _=>rfl⟩
 ·have h4:((4:Int) !=0)=true:=rfl;simp only[cond_true,h4];exact⟨false,4,rfl,rfl,by omega,fun h=>by cases h⟩
theorem PI{R:List ByteArray}(hl:R.length<=10)(hR: ∀x∈R,x.size<=10000):strings_Join R (Tj #[32])=some (ee R (Tj #[32]))/\nE R=some (ee R (Tj #[32]))/\(ee R (Tj #[32])).size<=1048576:=by
 have hz:=lJ (Tj #[32]) R hR;have h1:(Tj #[32]).size=1:=rfl;have h2:R.length*(10000+(Tj #[32]).size)<=10*(10000+1):=Nat.mul_le_mul hl (by omega);refine⟨mo (k:=10000) (by omega) (by omega) hR rfl,?_,by omega⟩;unfold nE;rw[vG (k:=10000) (t:=fun x=>x) (c:=Tj #[32]) (by omega) (by omega) (by decide) hR (fun i x s hx hs=>by
  have h2:=hR x (Tm hx);have hat:at' R (i:Int)=some x:=by rw[aG,hx]
  simp only[hat,Ti];cases decide ((i:Int)>0)
  ·rw[cond_false,Ti,cq (by omega)];rfl
  ·rw[cond_true,cq (by omega),Ti,Ti,cq (by rw[Tw];omega)];rfl),List.map_id',Ti]
theorem Nr{d:bg}(h:dx d){x w:ByteArray}{R:List ByteArray}(hl:R.length<=10)(hw:w.size<=10000)(hR: ∀x∈R,x.size<=10000):Told (iT d (w::R)) (o9 d (x::w::R)):=by
 obtain⟨p,e,p1,p2,p3⟩:=y3 w (by omega);obtain⟨j1,j2,j3⟩:=PI hl hR;obtain⟨t,f,t1,t2,t3⟩:=Jh _ j3;have a0:at' (w::R) 0=some w:=rfl;have a1:at' (x::w::R) 1=some w:=rfl;have q1:fE (w::R) 1 ((w::R).length:Int)=some R:=by
  rw[lz (by omega) (by rw[Ty];omega) (by omega)];simp
 have q2:fE (x::w::R) 2 ((x::w::R).length:Int)=some R:=by
  rw[lz (by omega) (by rw[Ty,Ty];omega) (by omega),show(((x::w::R).length:Nat):Int).toNat=R.length+2 from TG _];show some (List.take (R.length+2 - 2) R)=some R;rw[T4 (by omega)]
 have h6:((6:Int) !=0)=true:=rfl;have h0:((0:Int) !=0)=false:=rfl;unfold iT o9;simp only[a0,a1,Ti,p1,p2];rcases p3 with rfl | ⟨rfl,p3⟩
 ·simp only[h6,cond_true,ir (e:=6) (by omega) (by omega),Ti];exact⟨_,6,rfl,by omega,rfl⟩
 simp only[h0,cond_false,q1,q2,Ti,j1,j2,t1,t2];rcases t3 with rfl | ⟨rfl,t3,t4⟩
 ·simp only[h6,cond_true,ir (e:=6) (by omega) (by omega),Ti];exact⟨_,6,rfl,by omega,rfl⟩
 obtain⟨b,g,s1,s2,s3,s4⟩:=KY h t3 t4 p3;simp only[h0,cond_false,s1,s2,Ti];cases b
 ·simp only[cond_false,jk _ s3.1 s3.2,Ti];exact⟨_,g,rfl,s3,rfl⟩
 ·have:=s4 rfl;subst this;exact⟨_,0,rfl,s3,rfl⟩
theorem JY{a b:ByteArray}(ha:a.size<=10000)(hb:b.size<=10000):Told ((jC a b).bind fun x21=>((ct x21.1).bind fun x22=>cO x22 x21.2)) ((jH a b).bind fun x15=>((bY x15.1).bind fun x16=>some (x16,x15.2))):=by
 have hb2:=HV a b;have hd1:e9 a b=some (N1 a b):=MF a b (by omega) (by omega);have hd2:fP a b=some (N1 a b):=Nk a b (by omega) (by omega);have hw:hJ [a,b]=some ([a,b].all df):=nj [a,b] (by simp) (fun x hx=>by
  simp only[Tx,UA,or_false]at hx;unfold maxLen;rcases hx with rfl | rfl<;>omega)
 have hs:qx a b=some (bif[a,b].all df then 0 else 1):=by
  unfold qx;rw[iM a (by unfold maxLen;omega),iM b (by unfold maxLen;omega)];cases h1:df a<;>cases h2:df b<;>simp[h1,h2]
 unfold jC jH;rw[hw,hs];cases [a,b].all df
 ·have h1:((1:Int) !=0)=true:=rfl;simp only[Ti,Uj,cond_true,cond_false,h1];rw[kZ _ (by omega) (by omega),iA (by omega) (by omega),Ti,Ti,jk _ (by omega) (by omega)];exact⟨_,1,rfl,by omega,rfl⟩
 ·have h0:((0:Int) !=0)=false:=rfl;simp only[Ti,TO,cond_true,cond_false,h0,hd1,hd2];rw[kZ _ (by omega) (by omega),iA (by omega) (by omega),Ti,Ti,jk _ (by omega) (by omega)];exact⟨_,0,rfl,by omega,rfl⟩
theorem R9{a b:ByteArray}:(a.toList==b.toList)=decide (a=b):=by
 have h:(a.toList==b.toList)=true↔a=b:=by
  rw[beq_iff_eq,toList_eq,toList_eq];constructor
  ·intro h;have h2:=VH.1 h;cases a;cases b;simp at h2;rw[h2]
  ·intro h;rw[h]
 by_cases hab:a=b
 ·rw[h.2 hab,decide_eq_true hab]
 ·rw[decide_eq_false hab];exact TS.2 fun e=>hab (h.1 e)
theorem Fl(s:ByteArray)(hs:s.size<4294967296):strings_TrimSuffix s (Tj #[10])=some ⟨(oD s.data.toList).toArray⟩:=by
 have hsl:s.data.toList.length=s.size:=iw s;have h1:(Tj #[10]).size=1:=rfl;unfold strings_TrimSuffix eo eC;rw[h1];rcases Nat.eq_zero_or_pos s.size with h0 | h0
 ·have hd:decide ((s.size:Int)>=((1:Nat):Int))=false:=decide_eq_false (by omega);rw[hd];have hn:s.data.toList=[]:=List.eq_nil_of_length_eq_zero (by omega);have hse:s=⟨#[]⟩:=by
   cases s with
   | mk d=>simp at hn;rw[hn]
  subst hse;rfl
 ·have hd:decide ((s.size:Int)>=((1:Nat):Int))=true:=decide_eq_true (by omega);have hw:ap ((s.size:Int)-((1:Nat):Int))=((s.size - 1:Nat):Int):=by
   rw[az (by omega) (by omega)];omega
  rw[hd,hw,AT (by omega) (TA _)];obtain⟨l,c,hl⟩: ∃l c,s.data.toList=l++[c]:=by
   rcases Vh s.data.toList with h | ⟨l,c,h⟩
   ·rw[h]at hsl;simp at hsl;omega
   ·exact⟨l,c,by simpa using h⟩
  have hll:l.length=s.size - 1:=by
   rw[hl]at hsl;simp at hsl;omega
  have e1:(s.data.toList.drop (s.size - 1)).take (s.size -(s.size - 1))=[c]:=by
   rw[hl,<-hll,Wz,T4];simp;omega
  rw[e1];simp only[cond_true,Ti];rw[R9];by_cases hc:c=10
  ·subst hc;have hz:(0:Int)=((0:Nat):Int):=rfl;rw[decide_eq_true rfl,cond_true,hz,AT (Ul _) (by omega),hl,Em,VJ,VT,<-hll,List.take_left];rfl
  ·have hne: ¬(Tj [c].toArray=Tj #[10]):=fun e=>hc (by
    injection e with e;simpa using e)
   rw[decide_eq_false hne,cond_false];have ht:oD s.data.toList=s.data.toList:=by
    unfold oD;rw[hl];simp[hc]
   rw[ht];simp
def El(l:List UInt8):ByteArray:=⟨l.toArray⟩
theorem II(s:ByteArray)(hs:s.size<=4294967280):ij s=some ((tJ (cn 10 s.data.toList)).map El):=by
 have h1:bR s 10=some (bn s 10):=dJ s 10 hs;have hlen:(bn s 10).length=(cn 10 s.data.toList).length:=by simp[bn]
 have hl2:=sH 10 s.data.toList;have hcnt:s.data.toList.count 10<=s.size:=by rw[<-iw s];exact List.count_le_length
 have hpos:0<(bn s 10).length:=by omega
 have hw:ap (((bn s 10).length:Int)- 1)=(((bn s 10).length - 1:Nat):Int):=by
  rw[az (by omega) (by omega)];omega
 unfold ij;rw[h1];simp only[Ti];rw[hw,CN (by omega)];simp only[Ti];rw[R9];obtain⟨L,x,hL⟩: ∃L x,cn 10 s.data.toList=L++[x]:=by
  rcases Vh (cn 10 s.data.toList)with h | ⟨L,x,h⟩
  ·exact absurd h (lU 10 _)
  ·exact⟨L,x,by simpa using h⟩
 have hS:bn s 10=L.map El++[El x]:=by
  show(cn 10 s.data.toList).map El=_;rw[hL];simp
 have hn:(bn s 10).length - 1=(L.map El).length:=by
  rw[hS];simp
 have hget:(bn s 10)[(bn s 10).length - 1]'(by omega)=El x:=by
  have h2:(bn s 10)[(bn s 10).length - 1]? =some (El x):=by
   rw[hn,hS,Ts (TA _),Nat.sub_self];rfl
  rw[Tk (by omega)]at h2;injection h2
 rw[hget,hL];unfold tJ;by_cases hx:x=[]
 ·subst hx;have hd:decide (El []=Tj #[])=true:=decide_eq_true rfl;rw[hd,cond_true,lz (by omega) (by omega) (by omega)];simp only[Ti];rw[if_pos (by simp),List.dropLast_concat,TG,hn,hS];simp
 ·have hd:decide (El x=Tj #[])=false:=decide_eq_false fun e=>hx (by
   unfold El at e;injection e with e;simpa using e)
  rw[hd,cond_false,if_neg (by simpa using hx),hS];simp
theorem ku{α β:Type}(o:Option (α×β)):(o.bind fun x=>some (x.1,x.2))=o:=by cases o<;>rfl
theorem NO{d:bg}(h:dx d){W:List ByteArray}{n:Int}(hs:Shape W n)(hW: ∀y∈W,y.size<=10000)(hx: ∀x∈W.head?,x≠vp/\x≠zC/\x≠vq):Told (fy d W) (iN d W n):=by
 cases hs with
 | one x n hx1=>
  have a0:at' [x] 0=some x:=rfl;unfold fy iN;simp only[a0,Ti];rcases hx1 with rfl | rfl | rfl
  ·simp only[teq,cond_true,UF,Ti,TZ,UU,ku];exact J8 h
  ·have f1:(pa.toList==sJ.toList)=false:=tne (by decide);simp only[f1,teq,cond_true,cond_false,UF,Ti,TZ,UU,ku];exact Jl h
  ·have f1:(mO.toList==sJ.toList)=false:=tne (by decide);have f2:(mO.toList==pa.toList)=false:=tne (by decide);simp only[f1,f2,teq,cond_true,cond_false,UF,Ti,TZ,UU,ku];exact Ha h
 | claim a n=>exact absurd rfl (hx vp rfl).1
 | drop a n=>exact absurd rfl (hx zC rfl).2.1
 | told x a b n hx1 hn=>
  have a0:at' [x,a,b] 0=some x:=rfl;have a1:at' [x,a,b] 1=some a:=rfl;have a2:at' [x,a,b] 2=some b:=rfl;have hb:=hW b (by simp);have ht:=M4 h (p:=a) (by have:=hW a (by simp);omega) n;have hcn:cW b=some (n,(gO b).2&&decide ((if b.data.toList.head?=some 45 then(b.size:Int)- 1 else b.size)<=13)):=by
   rw[vP b (by omega),hn]
  unfold fy iN pz;simp only[a0,a1,a2,Ti,hcn];rcases hx1 with rfl | rfl
  ·have f1:(wW.toList==sJ.toList)=false:=tne (by decide);have f2:(wW.toList==pa.toList)=false:=tne (by decide);have f3:(wW.toList==mO.toList)=false:=tne (by decide);simp only[f1,f2,f3,teq,cond_true,cond_false,UF,Ti,TZ,UU,ku];exact ht.1
  ·have f1:(nJ.toList==sJ.toList)=false:=tne (by decide);have f2:(nJ.toList==pa.toList)=false:=tne (by decide);have f3:(nJ.toList==mO.toList)=false:=tne (by decide);have f4:(nJ.toList==wW.toList)=false:=tne (by decide);simp only[f1,f2,f3,f4,teq,cond_true,cond_false,UF,Ti,TZ,UU,ku];exact ht.2
 | two x a b n hx1=>
  have a0:at' [x,a,b] 0=some x:=rfl;have a1:at' [x,a,b] 1=some a:=rfl;have a2:at' [x,a,b] 2=some b:=rfl;have ha:=hW a (by simp);have hb:=hW b (by simp);unfold fy iN;simp only[a0,a1,a2,Ti];rcases hx1 with rfl | rfl | rfl | rfl
  ·exact absurd rfl (hx vq rfl).2.2
  ·have f1:(zD.toList==sJ.toList)=false:=tne (by decide);have f2:(zD.toList==pa.toList)=false:=tne (by decide);have f3:(zD.toList==mO.toList)=false:=tne (by decide);have f4:(zD.toList==wW.toList)=false:=tne (by decide);have f5:(zD.toList==nJ.toList)=false:=tne (by decide);have f6:(zD.toList==pY.toList)=false:=tne (by decide);have f7:(zD.toList==oC.toList)=false:=tne (by decide);simp only[f1,f2,f3,f4,f5,f6,f7,teq,cond_true,cond_false,UF,Ti,TZ,T6,UU,ku];exact JM h (.inl rfl)
  ·have f1:(xK.toList==sJ.toList)=false:=tne (by decide);have f2:(xK.toList==pa.toList)=false:=tne (by decide);have f3:(xK.toList==mO.toList)=false:=tne (by decide);have f4:(xK.toList==wW.toList)=false:=tne (by decide);have f5:(xK.toList==nJ.toList)=false:=tne (by decide);have f6:(xK.toList==pY.toList)=false:=tne (by decide);have f7:(xK.toList==oC.toList)=false:=tne (by decide);have f8:(xK.toList==zD.toList)=false:=tne (by decide);simp only[f1,f2,f3,f4,f5,f6,f7,f8,teq,cond_true,cond_false,UF,Ti,TZ,T6,UU,ku];exact JM h (.inr rfl)
  ·have f1:(oC.toList==sJ.toList)=false:=tne (by decide);have f2:(oC.toList==pa.toList)=false:=tne (by decide);have f3:(oC.toList==mO.toList)=false:=tne (by decide);have f4:(oC.toList==wW.toList)=false:=tne (by decide);have f5:(oC.toList==nJ.toList)=false:=tne (by decide);have f6:(oC.toList==pY.toList)=false:=tne (by decide);have f7:(oC.toList==xK.toList)=false:=tne (by decide);have f8:(oC.toList==zD.toList)=false:=tne (by decide);simp only[f1,f2,f3,f4,f5,f6,f7,f8,teq,cond_true,cond_false,UF,Ti,TZ,T6,UU,ku];exact JY ha hb
 | test M n hM=>
  have a0:at' (pY::M) 0=some pY:=rfl;have f1:(pY.toList==sJ.toList)=false:=tne (by decide);have f2:(pY.toList==pa.toList)=false:=tne (by decide);have f3:(pY.toList==mO.toList)=false:=tne (by decide);have f4:(pY.toList==wW.toList)=false:=tne (by decide);have f5:(pY.toList==nJ.toList)=false:=tne (by decide);have f7:(pY.toList==xK.toList)=false:=tne (by decide);have f8:(pY.toList==zD.toList)=false:=tne (by decide);have q1:fE (pY::M) 1 ((pY::M).length:Int)=some M:=by
   rw[lz (by omega) (by rw[Ty];omega) (by omega)];simp
  unfold fy iN;simp only[a0,q1,f1,f2,f3,f4,f5,f7,f8,teq,cond_true,cond_false,UF,Ti,TZ,UU,ku];cases M with
  | nil=>simp at hM
  | cons w R=>
   rw[Ty]at hM;exact Nr h (by omega) (hW w (by simp)) (fun y hy=>hW y (by simp[hy]))
theorem Ox{d:bg}(h:dx d){l:ByteArray}(hl:l.size<=10000): ∃d' t,di d l=some (t,d')/\iO d l=some (d',t)/\dx d':=by
 have hsl:=xI l 32;have h1:strings_Split l (Tj #[32])=some (bn l 32):=by
  unfold strings_Split;have h:(Tj #[32]).data.toList=[32]:=rfl;rw[h];dsimp only;rw[decide_eq_true (by omega),cond_true]
 have h2:bR l 32=some (bn l 32):=dJ l 32 (by omega);have hz: ∀y∈bn l 32,y.size<=10000:=fun y hy=>by have:=fK hy;omega
 have hne:=F6 l 32;unfold di iO qV;rw[h1,h2];generalize bn l 32=W at hsl hz hne;cases W with
 | nil=>exact absurd rfl hne
 | cons x M=>
  obtain⟨b,V,n,b1,b2,b3⟩:=Mm (x:=x) (M:=M) (by omega) (fun y hy=>by have:=hz y hy;omega);have b2':((kM (x::M)).bind fun x2=>(bif(x2.toList==(Tj #[45]).toList)then some (([]:List ByteArray),(0:Int),false)else(((cR (x2.size:Int) (fun(i5:Int) (s5:Int×Bool)=>((cQ x2 i5).bind fun x9=>(bif(x9==73)then((at' (x::M) (ap (i5+1))).bind fun x10=>((bJ x10).bind fun x11=>some (x11.1,x11.2)))else(bif(x9==74)then((at' (x::M) (ap (i5+1))).bind fun x12=>((bH x12).bind fun x13=>some (x13.1,x13.2)))else some (s5.1,s5.2))))) (fun(s5:Int×Bool)=>(s5.1,s5.2)) 0 (0,true))).bind fun(j3:Int×Bool)=>some ((x::M),j3.1,j3.2))))=some (V,n,b):=b2;simp only[Ti,b1,b2'];have hfail: ∀{e:Int},0<=e->e<=9->((bY e).bind fun x2=>((bV (Tj #[101,114,114,111,114,32]) x2).bind fun x3=>some (d,x3)))=some (d,Ki e):=fun{e} h0 h9=>by
   have:=Mw h0 h9;have h3:((bY e).bind fun x2=>((bV (Tj #[101,114,114,111,114,32]) x2).bind fun x3=>some (d,x3)))=(((bY e).bind fun x18=>bV Q0 x18).bind fun x3=>some (d,x3)):=by rw[UF]
   rw[h3,this];rfl
  cases b
  ·simp only[Uj,cond_true,hfail (e:=6) (by omega) (by omega),ir (e:=6) (by omega) (by omega),Ti];exact⟨d,_,rfl,rfl,h⟩
  ·obtain⟨rfl,hs⟩:=b3 rfl;simp only[TO,cond_false];have a0:at' (x::M) 0=some x:=rfl;simp only[a0,Ti];have hdid: ∀{i:Option (ByteArray×bg)} {s:Option (bg×Int)},Did d i s-> ∃d' t,i=some (t,d')/\(s.bind fun x8=>(bif(x8.2 !=0)then((bY x8.2).bind fun x18=>((bV (Tj #[101,114,114,111,114,32]) x18).bind fun x19=>some (d,x19)))else some (x8.1,okT)))=some (d',t)/\dx d':=fun{i s} hd=>by
    obtain⟨d',e,e1,e2,e3,e4⟩:=hd;rw[e1,e3,Ti,hfail e2.1 e2.2];unfold M5;cases he:(e !=0)
    ·have:e=0:=by simpa using he
     exact⟨d',okT,rfl,rfl,e4 this⟩
    ·exact⟨d,Ki e,rfl,rfl,h⟩
   have hask:(x≠vp/\x≠zC/\x≠vq)-> ∃t,fy d (x::M)=some t/\((iN d (x::M) n).bind fun x8=>(bif(x8.2 !=0)then((bY x8.2).bind fun x18=>((bV (Tj #[101,114,114,111,114,32]) x18).bind fun x19=>some (d,x19)))else some (d,x8.1)))=some (d,t):=fun hx=>by
    obtain⟨t,e,e1,e2,e3⟩:=NO h hs hz (fun y hy=>by
     have:x=y:=by simpa using hy
     rw[<-this];exact hx)
    rw[e1,Ti,hfail e2.1 e2.2];refine⟨_,e3,?_⟩;unfold M5;cases e !=0<;>rfl
   by_cases c1:x=vp
   ·subst c1;cases hs with
    | one _ _ hx=>rcases hx with hx | hx | hx<;>exact absurd hx (by decide)
    | told _ a b _ hx _=>rcases hx with hx | hx<;>exact absurd hx (by decide)
    | two _ a b _ hx=>rcases hx with hx | hx | hx | hx<;>exact absurd hx (by decide)
    | claim a n=>
     have a1:at' [vp,a] 1=some a:=rfl;obtain⟨d',t,e1,e2,e3⟩:=hdid (Mj h (w:=a) (by have:=hz a (by simp);omega));simp only[teq,cond_true,a1,UF,Ti,TZ,e1];exact⟨d',t,rfl,e2,e3⟩
   by_cases c2:x=zC
   ·subst c2;cases hs with
    | one _ _ hx=>rcases hx with hx | hx | hx<;>exact absurd hx (by decide)
    | told _ a b _ hx _=>rcases hx with hx | hx<;>exact absurd hx (by decide)
    | two _ a b _ hx=>rcases hx with hx | hx | hx | hx<;>exact absurd hx (by decide)
    | drop a n hn h0 h9=>
     have f1:(zC.toList==vp.toList)=false:=tne (by decide);have f2:(zC.toList==vq.toList)=false:=tne (by decide);have a1:at' [zC,a] 1=some a:=rfl;obtain⟨hd,⟨e,d2⟩,hx⟩:=N3 h (w:=a) (by have:=hz a (by simp);omega) hn h0 h9;obtain⟨d',t,e1,e2,e3⟩:=hdid hd;have hx2:=hx;unfold Lv at hx2;rw[hx]at e2;simp only[f1,f2,teq,cond_true,cond_false,a1,Ti,e1,hx2,TZ];exact⟨d',t,rfl,e2,e3⟩
   by_cases c3:x=vq
   ·subst c3;cases hs with
    | one _ _ hx=>rcases hx with hx | hx | hx<;>exact absurd hx (by decide)
    | told _ a b _ hx _=>rcases hx with hx | hx<;>exact absurd hx (by decide)
    | two _ a b _ hx=>
     have f1:(vq.toList==vp.toList)=false:=tne (by decide);have f2:(vq.toList==zC.toList)=false:=tne (by decide);have a1:at' [vq,a,b] 1=some a:=rfl;have a2:at' [vq,a,b] 2=some b:=rfl;obtain⟨d',t,e1,e2,e3⟩:=hdid (O5 h (c:=a) (w:=b) (by have:=hz a (by simp);omega) (by have:=hz b (by simp);omega));simp only[f1,f2,teq,cond_true,cond_false,a1,a2,UF,Ti,TZ,e1];exact⟨d',t,rfl,e2,e3⟩
   obtain⟨t,t1,t2⟩:=hask ⟨c1,c2,c3⟩;have f1:=tne c1;have f2:=tne c2;have f3:=tne c3;simp only[f1,f2,f3,cond_false,UF,Ti,T6,t1];exact⟨d,t,rfl,t2,h⟩
def qC(d:bg)(l:ByteArray):bg×ByteArray:=(iO d l).getD (d,Tj #[])
theorem step_eq{d:bg}(h:dx d){l:ByteArray}(hl:l.size<=10000):di d l=some ((qC d l).2,(qC d l).1)/\iO d l=some (qC d l)/\dx (qC d l).1:=by
 obtain⟨d',t,e1,e2,e3⟩:=Ox h hl;have:qC d l=(d',t):=by
  unfold qC;rw[e2];rfl
 rw[this];exact⟨e1,e2,e3⟩
def stepG(s:bg×List ByteArray)(l:ByteArray):bg×List ByteArray:=((qC s.1 l).1,s.2++[(qC s.1 l).2])
def BW(M:List ByteArray):bg×List ByteArray:=M.foldl stepG (bg.mk [] [],[])
theorem Pd{M:List ByteArray}(hM:M.length<=1000)(hz: ∀l∈M,l.size<=10000):od M=some (BW M)/\dx (BW M).1/\(BW M).2.length=M.length:=by
 obtain⟨h1,h2⟩:=GF (L:=M) (by omega) (B:=fun(i4:Int) (s4:bg×(List ByteArray))=>((at' M i4).bind fun x8=>((iO s4.1 x8).bind fun x9=>((bW s4.2 ([x9.2]:List ByteArray)).bind fun x10=>some (x9.1,x10))))) (D:=fun(s4:bg×(List ByteArray))=>(s4.1,s4.2)) (fun i s=>dx s.1/\s.2.length=i) stepG (s:=(bg.mk [] [],[])) (fun i l s hl hs=>by
  have hi:=(Tl.1 hl).1;obtain⟨_,e2,e3⟩:=step_eq hs.1 (hz l (Tm hl));rw[aG,hl,Ti,e2,Ti,ci (by simp;omega)];refine⟨rfl,e3,?_⟩;unfold stepG;rw[Tz,hs.2];rfl) ⟨dx.RN,rfl⟩
 unfold od nH;rw[Ti,h1];exact⟨rfl,h2.1,h2.2⟩
def mP(l:ByteArray):ByteArray:=⟨(oD l.data.toList).toArray⟩
theorem En(l:ByteArray):(mP l).size<=l.size:=by
 have h1:(mP l).size=(oD l.data.toList).length:=by
  unfold mP;show(List.toArray _).size=_;rw[Uk]
 have h2:=fV l;rw[h1];unfold oD;split
 ·rw[List.length_dropLast];omega
 ·omega
theorem Oj{L:List ByteArray}(hL:L.length<=1000)(hz: ∀l∈L,l.size<=10000):cR (L.length:Int) (fun(i4:Int) (s4:(List ByteArray)×(List Site)×(List Claim))=>((at' L i4).bind fun x8=>((strings_TrimSuffix x8 (Tj #[10])).bind fun x9=>((di (bg.mk s4.2.2 s4.2.1) x9).bind fun x10=>((bW s4.1 ([x10.1]:List ByteArray)).bind fun x11=>some (x11,x10.2.Sites,x10.2.Claims)))))) (fun(s4:(List ByteArray)×(List Site)×(List Claim))=>(s4.1,s4.2.1,s4.2.2)) 0 (([]:List ByteArray),([]:List Site),([]:List Claim))=some ((BW (L.map mP)).2,(BW (L.map mP)).1.Sites,(BW (L.map mP)).1.Claims):=by
 obtain⟨h1,_⟩:=GF (L:=L) (by omega) (B:=fun(i4:Int) (s4:(List ByteArray)×(List Site)×(List Claim))=>((at' L i4).bind fun x8=>((strings_TrimSuffix x8 (Tj #[10])).bind fun x9=>((di (bg.mk s4.2.2 s4.2.1) x9).bind fun x10=>((bW s4.1 ([x10.1]:List ByteArray)).bind fun x11=>some (x11,x10.2.Sites,x10.2.Claims)))))) (D:=fun(s4:(List ByteArray)×(List Site)×(List Claim))=>(s4.1,s4.2.1,s4.2.2)) (fun i s=>dx (bg.mk s.2.2 s.2.1)/\s.1.length=i) (fun s l=>(s.1++[(qC (bg.mk s.2.2 s.2.1) (mP l)).2],(qC (bg.mk s.2.2 s.2.1) (mP l)).1.Sites,(qC (bg.mk s.2.2 s.2.1) (mP l)).1.Claims)) (s:=([],[],[])) (fun i l s hl hs=>by
  have hi:=(Tl.1 hl).1;have hzl:=hz l (Tm hl);have ht:=En l;obtain⟨e1,_,e3⟩:=step_eq hs.1 (l:=mP l) (by omega);have htr:strings_TrimSuffix l (Tj #[10])=some (mP l):=Fl l (by omega);rw[aG,hl,Ti,htr,Ti,e1,Ti,ci (by simp;omega)];refine⟨rfl,e3,?_⟩;rw[Tz,hs.2];rfl) ⟨dx.RN,rfl⟩
 rw[h1];have key: ∀(M:List ByteArray) (d:bg) (out:List ByteArray),M.foldl (fun s l=>(s.1++[(qC (bg.mk s.2.2 s.2.1) (mP l)).2],(qC (bg.mk s.2.2 s.2.1) (mP l)).1.Sites,(qC (bg.mk s.2.2 s.2.1) (mP l)).1.Claims)) (out,d.Sites,d.Claims)=(((M.map mP).foldl stepG (d,out)).2,((M.map mP).foldl stepG (d,out)).1.Sites,((M.map mP).foldl stepG (d,out)).1.Claims):=by
  intro M
  induction M with
  | nil=>intro d out;rfl
  | cons l M ih=>
   intro d out;rw[UP,UK,UP];exact ih _ _
 have:=key L (bg.mk [] []) [];exact congrArg some this
def iV(s:ByteArray):List ByteArray:=(tJ (cn 10 s.data.toList)).map El
def tP(s:ByteArray):Bool:=decide (s.size<=2000)&&decide ((iV s).length<=40)
theorem uG(s:ByteArray):((ep s.data.toList).map fun x=>(⟨x.toArray⟩:ByteArray)).map mP=iV s:=by
 unfold iV;rw[<-KM,VR,VR];rfl
theorem IX{s l:ByteArray}(h:l∈iV s):l.size<=s.size:=by
 rw[<-uG]at h;obtain⟨x,hx,rfl⟩:=TF.1 h;obtain⟨y,hy,rfl⟩:=TF.1 hx;have h1:=En (⟨y.toArray⟩:ByteArray);have h2:=uH _ _ _ hy;have h3:(⟨y.toArray⟩:ByteArray).size=y.length:=by
  show y.toArray.size=_;rw[Uk]
 have h4:=fV s;simp only[UC,Ue]at h2;omega
theorem HT(s:ByteArray)(hs:s.size<=1048576):jh s=some (bif tP s then((BW (iV s)).1,(BW (iV s)).2,0)else(bg.mk [] [],[],3))/\sY s=some (bif tP s then((BW (iV s)).2,0)else([],3))/\gk s=some (bif tP s then((BW (iV s)).1,0)else(bg.mk [] [],3))/\(tP s=true->dx (BW (iV s)).1/\(BW (iV s)).2.length=(iV s).length/\(iV s).length<=40):=by
 have hl:Dv s=some ((ep s.data.toList).map fun x=>⟨x.toArray⟩):=by
  unfold Dv;rw[if_pos (by omega)]
 have hlen:((ep s.data.toList).map fun x=>(⟨x.toArray⟩:ByteArray)).length=(iV s).length:=by
  rw[<-uG,TM (f:=mP)]
 have h2:ij s=some (iV s):=II s (by omega);have hfit:mN s=some (tP s):=by
  unfold mN tP;by_cases h:s.size<=2000
  ·rw[decide_eq_true (show(s.size:Int)<=2000 by omega),decide_eq_true h,cond_true,h2,Ti,Uy,Ti];congr 1;by_cases h4:(iV s).length<=40
   ·rw[decide_eq_true h4,decide_eq_true (show((iV s).length:Int)<=40 by omega)]
   ·rw[decide_eq_false h4,decide_eq_false (show ¬((iV s).length:Int)<=40 by omega)]
  ·rw[decide_eq_false (show ¬(s.size:Int)<=2000 by omega),decide_eq_false h];rfl
 have hcond:(decide ((s.size:Int)>2000) || decide (((iV s).length:Int)>40))= !tP s:=by
  unfold tP;rw[Bool.not_and,<-decide_not,<-decide_not];congr 1
  ·exact decide_eq_decide.2 (by omega)
  ·exact decide_eq_decide.2 (by omega)
 unfold jh sY gk;rw[hl,hfit,h2,Ti,hlen,hcond];cases hf:tP s
 ·exact⟨rfl,rfl,rfl,fun h=>by cases h⟩
 ·have hf2:=hf;unfold tP at hf2;rw[Tp,decide_eq_true_eq,decide_eq_true_eq]at hf2;have hz: ∀l∈iV s,l.size<=10000:=fun l h=>by have:=IX h;omega
  obtain⟨r1,r2,r3⟩:=Pd (by omega) hz;have hi:=Oj (L:=(ep s.data.toList).map fun x=>(⟨x.toArray⟩:ByteArray)) (by omega) (fun l h=>by
   obtain⟨y,hy,rfl⟩:=TF.1 h;have h2:=uH _ _ _ hy;have h3:(⟨y.toArray⟩:ByteArray).size=y.length:=by
    show y.toArray.size=_;rw[Uk]
   have h4:=fV s;simp only[UC,Ue]at h2;omega)
  rw[uG,hlen]at hi;simp only[TO,cond_false,hi,r1,Ti,cond_true];exact⟨trivial,trivial,trivial,fun _=>⟨r2,r3,hf2.2⟩⟩
theorem rR(s:ByteArray)(hs:s.size<=1048576): ∃r,ez s=some r/\gk s=some r/\dx r.1:=by
 obtain⟨h1,_,h3,h4⟩:=HT s hs;unfold ez;rw[h1,h3,Ti];cases hf:tP s
 ·exact⟨_,rfl,rfl,dx.RN⟩
 ·exact⟨_,rfl,rfl,(h4 hf).1⟩
def bS(s:an):Prop:=0<=s.at'/\s.at'<=s.code.length/\s.code.length<=4096/\(∀x∈s.code,0<=x/\x<256)/\0<=s.seed/\s.seed<2147483647
theorem yO{s:an}(hs:bS s)(n:Int)(hn:n<9223372036854775808): ∃x s',aw s n=some (x,s')/\0<=x/\(x<n\/x=0)/\bS s':=by
 obtain⟨h1,h2,h3,h4,h5,h6⟩:=hs;unfold aw;by_cases hn1:n<=1
 ·rw[decide_eq_true hn1];exact⟨0,s,rfl,by omega,.inr rfl,h1,h2,h3,h4,h5,h6⟩
 ·rw[decide_eq_false hn1,cond_false];have hz:nz' n=some ():=Rk (by omega);have e1:ap (s.seed*48271)=s.seed*48271:=az (by omega) (by omega);have e2:ap (s.seed*48271+29)=s.seed*48271+29:=az (by omega) (by omega);rw[e1,e2];have hsd:0<=Ug (s.seed*48271+29) 2147483647/\Ug (s.seed*48271+29) 2147483647<2147483647:=by
   rw[US (by omega)];omega
  generalize Ug (s.seed*48271+29) 2147483647=sd at*;have e3:ap (Int.tdiv sd 31)=sd/31:=by
   rw[Int.tdiv_eq_ediv_of_nonneg hsd.1];exact az (by omega) (by omega)
  rw[e3];have fin: ∀(y:Int) (s':an),0<=y->bS s'-> ∃x s'',((nz' n).bind fun _=>some (Ug y n,s'))=some (x,s'')/\0<=x/\(x<n\/x=0)/\bS s'':=by
   intro y s' hy hs';rw[hz];exact⟨_,_,rfl,Int.tmod_nonneg _ hy,.inl (Int.tmod_lt_of_pos _ (by omega)),hs'⟩
  by_cases hat:s.at'<(s.code.length:Int)
  ·rw[decide_eq_true hat,cond_true];obtain⟨x3,hx3,hg3⟩:=HD h1 hat;have hb3:=h4 x3 (Tm hg3);have e4:ap (s.at'+1)=s.at'+1:=az (by omega) (by omega);have e5:ap (s.at'+1 - 1)=s.at':=by rw[az (by omega) (by omega)];omega
   have e6:ap x3=x3:=az (by omega) (by omega);rw[hx3,Ti,e4,e5,hx3,e6];have hsrc:bS (an.mk s.code (s.at'+1) sd):=⟨by simp;omega,by simp;omega,h3,h4,hsd.1,hsd.2⟩;have e7:ap (sd/31+x3)=sd/31+x3:=az (by omega) (by omega);rw[e7];cases (decide (n<=256)&&Ug (s.at'+1) 2==0)
   ·exact fin _ _ (by omega) hsrc
   ·rw[cond_true,Ti,e6];exact fin _ _ (by omega) hsrc
  ·rw[decide_eq_false hat,cond_false];exact fin _ _ (by omega) ⟨h1,h2,h3,h4,hsd.1,hsd.2⟩
theorem Qp{c:List Int}(hc:zK c): ∃s,gS c=some s/\bS s:=by
 unfold gS lW;generalize hb:loop _ _=m;have key: ∃r,m=some r/\bS r:=by
  rw[<-hb];refine yD (fun s:Int×an=>0<=s.1/\s.1<=64/\bS s.2) (fun s=>(64 - s.1).toNat) bS (fun s hs=> ?_) ⟨by simp,by simp,by simp,by simp,hc.1,hc.2,by simp,by simp⟩;obtain⟨h0,h64,h1,h2,h3,h4,h5,h6⟩:=hs;by_cases hb:s.1<(c.length:Int)/\s.1<64
  ·left;obtain⟨x,hx,hg⟩:=HD h0 hb.1;have hxb:=hc.2 x (Tm hg);have e1:ap (s.2.seed*73)=s.2.seed*73:=az (by omega) (by omega);have e2:ap x=x:=az (by omega) (by omega);have e3:ap (s.2.seed*73+x)=s.2.seed*73+x:=az (by omega) (by omega);have e4:ap (s.1+1)=s.1+1:=az (by omega) (by omega);refine⟨(s.1+1,an.mk s.2.code s.2.at' (Ug (s.2.seed*73+x) 2147483647)),?_,⟨?_,?_,h1,h2,h3,h4,?_,?_⟩,?_⟩
   ·simp only[hb.1,hb.2,decide_true,Wo,cond_true,hx,Ti,e1,e2,e3,e4]
   ·dsimp only;omega
   ·dsimp only;omega
   ·dsimp only;rw[US (by omega)];omega
   ·dsimp only;rw[US (by omega)];omega
   ·dsimp only;omega
  ·right;refine⟨s.2,?_,h1,h2,h3,h4,h5,h6⟩;have:(decide (s.1<(c.length:Int))&&decide (s.1<64))=false:=by
    rw[Bool.and_eq_false_iff];by_cases h7:s.1<(c.length:Int)
    ·exact .inr (by simp;omega)
    ·exact .inl (by simpa using h7)
   simp only[this,cond_false]
 clear hb;obtain⟨r,rfl,h⟩:=key;exact⟨r,rfl,h⟩
theorem QS{s:an}(hs:bS s){l:List Int}(hl:l≠[])(hl2:l.length<=4096): ∃x s',eb s l=some (x,s')/\x∈l/\bS s':=by
 unfold eb;have h0:0<l.length:=VX.2 hl;obtain⟨x,s',h1,h2,h3,h4⟩:=yO hs (l.length:Int) (by omega);rw[h1,Ti];obtain⟨y,hy,hg⟩:=HD (L:=l) h2 (by omega);rw[hy];exact⟨y,s',rfl,Tm hg,h4⟩
theorem Gv.next{s:an}(hs:bS s)(n:Int)(hn:n<9223372036854775808):Gv (aw s n) (fun r=>(0<=r.1/\(r.1<n\/r.1=0))/\bS r.2):=by
 obtain⟨x,s',h1,h2,h3,h4⟩:=yO hs n hn;exact⟨_,h1,⟨h2,h3⟩,h4⟩
theorem Gv.pick{s:an}(hs:bS s){l:List Int}(hl:l≠[])(hl2:l.length<=4096):Gv (eb s l) (fun r=>r.1∈l/\bS r.2):=by
 obtain⟨x,s',h1,h2,h3⟩:=QS hs hl hl2;exact⟨_,h1,h2,h3⟩
theorem Gv.from{c:List Int}(hc:zK c):Gv (gS c) bS:=by
 obtain⟨s,h1,h2⟩:=Qp hc;exact⟨_,h1,h2⟩
theorem Ms{s:an}(hs:bS s){t:ByteArray}(ht:t.size<=1000000): ∃u s',kj s t=some (u,s')/\u.size<=t.size+10/\bS s':=by
 unfold kj;rw[az (n:=(t.size:Int)+1) (by omega) (by omega)];obtain⟨x1,s1,h1,a1,b1,c1⟩:=yO hs ((t.size:Int)+1) (by omega);obtain⟨x2,s2,h2,a2,b2,c2⟩:=yO c1 8 (by omega);obtain⟨k,rfl⟩:=Ui a1;have hk:k<=t.size:=by omega
 have e1: ∀(a b:Nat),a<=b->b<=t.size-> ∃u,km t (a:Int) (b:Int)=some u/\u.size=b - a:=fun a b h1 h2=>by
  unfold km;rw[if_pos ⟨by omega,by omega,by omega⟩];refine⟨_,rfl,?_⟩;rw[ByteArray.size_extract];simp only[TG];omega
 have ec: ∀(u v:ByteArray),u.size<=10000000->v.size<=10000000-> ∃w,bV u v=some w/\w.size=u.size+v.size:=fun u v h1 h2=>by
  unfold bV;rw[if_pos (by omega)];exact⟨_,rfl,Tw⟩
 obtain⟨u1,f1,g1⟩:=e1 0 k (by omega) hk;obtain⟨u2,f2,g2⟩:=e1 k t.size hk (TA _);rw[show((0:Nat):Int)=0 from rfl]at f1;simp only[h1,h2,Ti,f1,f2];cases x2==0
 ·cases x2==1
  ·cases x2==2
   ·exact⟨_,_,rfl,by omega,c2⟩
   ·by_cases hlt:(k:Int)<(t.size:Int)
    ·have e3:ap ((k:Int)+1)=((k+1:Nat):Int):=by rw[az (by omega) (by omega)];omega
     obtain⟨u3,f3,g3⟩:=e1 (k+1) t.size (by omega) (TA _);obtain⟨u4,f4,g4⟩:=ec u1 u3 (by omega) (by omega);simp only[cond_false,cond_true,decide_eq_true hlt,e3,f3,f4,Ti];exact⟨_,_,rfl,by omega,c2⟩
    ·simp only[cond_false,cond_true,decide_eq_false hlt];exact⟨_,_,rfl,by omega,c2⟩
  ·obtain⟨x3,s3,h3,a3,b3,c3⟩:=yO c2 8 (by omega);have hl: ∀(L:List ByteArray),L.length=8->(∀y∈L,y.size<=1)-> ∃u s',((at' L x3).bind fun x8=>((bV u1 x8).bind fun x9=>((bV x9 u2).bind fun x11=>some (U4 (x11,s3):an⊕(ByteArray×an))))).bind (TC (fun(j3:an)=>some (t,j3)) some)=some (u,s')/\u.size<=t.size+10/\bS s':=fun L hL hy=>by
    obtain⟨y,e,hm⟩:=OK L a3 (by omega) (by omega);have hys:=hy y hm;obtain⟨u5,f5,g5⟩:=ec u1 y (by omega) (by omega);obtain⟨u6,f6,g6⟩:=ec u5 u2 (by omega) (by omega);simp only[e,f5,f6,Ti];exact⟨_,_,rfl,by omega,c3⟩
   simp only[cond_false,cond_true,h3,Ti];exact hl _ rfl (by decide)
 ·simp only[cond_true,Ti];exact⟨_,_,rfl,by omega,c2⟩
def rM(c:Claim):Prop:=c.Source.size<=100/\c.Place.size<=100/\c.Value.size<=100
theorem rM.sm{c:Claim}(h:rM c):cJ c:=⟨by have:=h.1;omega,by have:=h.2.1;omega,by have:=h.2.2;omega⟩
def l8(n:Nat)(L:List Claim):Prop:=L.length<=n/\ ∀x∈L,rM x
theorem l8.snoc{n:Nat}{L:List Claim}{x:Claim}(h:l8 n L)(hx:rM x):l8 (n+1) (L++[x]):=by
 refine⟨by simp;exact h.1,fun y hy=> ?_⟩;rcases TN.1 hy with hy | hy
 ·exact h.2 y hy
 ·rw[TH.1 hy];exact hx
theorem l8.mono{n m:Nat}{L:List Claim}(h:l8 n L)(k:n<=m):l8 m L:=⟨Nat.le_trans h.1 k,h.2⟩
theorem l8.sm{n:Nat}{L:List Claim}(h:l8 n L): ∀x∈L,cJ x:=fun x hx=>(h.2 x hx).sm
theorem Am{s:an}(hs:bS s):Gv (eK s) (fun r=>rM r.1/\bS r.2):=by
 unfold eK;refine(Gv.next hs 4 (by omega)).bind fun x1 h1=>Gv.bind (Gv.at (P:=fun x:ByteArray=>x.size<=100) ⟨h1.1.1,by simpa using h1.1.2⟩ (by simp) (by decide)) fun a ha=> ?_;refine(Gv.pick h1.2 (by simp) (by simp)).bind fun x3 h3=>(Gv.next h3.2 3 (by omega)).bind fun x4 h4=>Gv.bind (Gv.at (P:=fun x:ByteArray=>x.size<=100) ⟨h4.1.1,by simpa using h4.1.2⟩ (by simp) (by decide)) fun b hb=> ?_;refine(Gv.next h4.2 60 (by omega)).bind fun x6 h6=>(Gv.next h6.2 9 (by omega)).bind fun x7 h7=>(Gv.next h7.2 60 (by omega)).bind fun x8 h8=> ?_;refine Gv.bind (P:=fun r:Claim×an=>rM r.1/\bS r.2) (Gv.cond (fun _=> ?_) fun _=>Gv.cond (fun _=> ?_) fun _=> .some ⟨⟨ha,hb,Ul _⟩,h8.2⟩) fun r hr=> .some hr
 ·exact(Gv.next h8.2 3 (by omega)).bind fun x11 h11=>Gv.bind (Gv.at (P:=fun x:ByteArray=>x.size<=100) ⟨h11.1.1,by simpa using h11.1.2⟩ (by simp) (by decide)) fun v hv=> .some ⟨⟨ha,hb,hv⟩,h11.2⟩
 ·have z:(Tj #[100,101,118,97]).size<=100:=by decide
  exact(Gv.next h8.2 4 (by omega)).bind fun x11 h11=>Gv.bind (Gv.at (P:=fun x:ByteArray=>x.size<=100) ⟨h11.1.1,by simpa using h11.1.2⟩ (by simp) (by decide)) fun v hv=>Gv.cond (fun _=> .some ⟨⟨ha,hb,z⟩,h11.2⟩) fun _=> .some ⟨⟨ha,hb,hv⟩,h11.2⟩
theorem ML{s:an}(hs:bS s):Gv (oV s) (fun r=>bS r.2):=by
 unfold oV;exact(Gv.next hs _ (by omega)).bind fun x1 h1=>(Gv.next h1.2 _ (by omega)).bind fun x2 h2=>(Gv.next h2.2 _ (by omega)).bind fun x3 h3=>(Gv.pick h3.2 (by simp) (by simp)).bind fun x4 h4=> .some h4.2
theorem MK{s:an}(hs:bS s):Gv (oU s) (fun r=>bS r.2):=by
 unfold oU;refine(ML hs).bind fun x1 h1=>(Gv.next h1 20 (by omega)).bind fun x2 h2=>Gv.bind (P:=fun r:Span×an=>bS r.2) ?_ fun r hr=> .some hr;refine Gv.cond (fun _=> .some h2.2) fun _=>Gv.cond (fun _=> ?_) fun _=>Gv.cond (fun _=> ?_) fun _=> .some h2.2
 ·exact(Gv.pick h2.2 (by simp) (by simp)).bind fun x5 h5=> .some h5.2
 ·exact(Gv.pick h2.2 (by simp) (by simp)).bind fun x5 h5=> .some h5.2
theorem MO{s:an}(hs:bS s):Gv (o0 s) (fun r=>rM r.1/\bS r.2):=by
 unfold o0;refine(Am hs).bind fun x1 h1=>(Gv.next h1.2 24 (by omega)).bind fun x2 h2=>Gv.bind (P:=fun r:Claim×an=>rM r.1/\bS r.2) ?_ fun r hr=> .some hr;refine Gv.cond (fun _=> ?_) fun _=>Gv.cond (fun _=> ?_) fun _=>Gv.cond (fun _=> ?_) fun _=>Gv.cond (fun _=> ?_) fun _=> .some ⟨h1.1,h2.2⟩
 ·exact(Gv.pick h2.2 (by simp) (by simp)).bind fun x5 h5=> .some ⟨h1.1,h5.2⟩
 ·exact(Gv.next h2.2 3 (by omega)).bind fun x6 h6=>Gv.bind (Gv.at (P:=fun x:ByteArray=>x.size<=100) ⟨h6.1.1,by simpa using h6.1.2⟩ (by simp) (by decide)) fun b hb=> .some ⟨⟨h1.1.1,h1.1.2.1,hb⟩,h6.2⟩
 ·exact(Gv.next h2.2 6 (by omega)).bind fun x8 h8=> .some ⟨h1.1,h8.2⟩
 ·exact(MK h2.2).bind fun x9 h9=> .some ⟨h1.1,h9⟩
theorem MQ{s:an}(hs:bS s):Gv (o3 s) (fun r=>l8 20 r.1/\bS r.2):=by
 unfold o3;refine(Gv.next hs 9 (by omega)).bind fun x1 h1=> ?_;refine Gv.bind (P:=fun r:(List Claim)×an=>l8 9 r.1/\bS r.2) ?_ fun j hj=> ?_
 ·refine Gv.lp (fun s:Int×(List Claim)×an=>(0<=s.1/\s.1<=9)/\l8 (9 - s.1.toNat) s.2.1/\bS s.2.2) (fun s=>s.1.toNat) (fun s h=> ?_) ⟨⟨h1.1.1,by show x1.1<=9;omega⟩,⟨Ul _,by simp⟩,h1.2⟩;obtain⟨⟨h0,h4⟩,h2,h3⟩:=h;refine Gv.cond (fun hp=> ?_) fun _=> .some ⟨h2.mono (by omega),h3⟩;have hp':s.1>0:=by simpa using hp
  rw[az (n:=s.1 - 1) (by omega) (by omega)];refine Gv.bind (P:=fun r:(List Claim)×an=>l8 (9 -(s.1 - 1).toNat) r.1/\bS r.2) ?_ fun r hr=> .some ⟨⟨⟨by show 0<=s.1 - 1;omega,by show s.1 - 1<=9;omega⟩,hr.1,hr.2⟩,by show(s.1 - 1).toNat<s.1.toNat;omega⟩;refine(Am h3).bind fun x8 h8=>(Gv.app (by have:=h2.1;simp;omega)).bind fun r hr=> ?_;subst hr;exact .some ⟨(h2.snoc h8.1).mono (by omega),h8.2⟩
 ·refine(Gv.next hj.2 24 (by omega)).bind fun x10 h10=>Gv.bind (P:=fun r:(List Claim)×an=>l8 20 r.1/\bS r.2) (Gv.cond (fun _=> ?_) fun _=>Gv.cond (fun _=> ?_) fun _=> .some ⟨hj.1.mono (by omega),h10.2⟩) fun r hr=> .some hr
  ·refine(MO h10.2).bind fun x13 h13=>(Gv.app (by have:=hj.1.1;simp;omega)).bind fun r hr=> ?_;subst hr;exact .some ⟨(hj.1.snoc h13.1).mono (by omega),h13.2⟩
  ·refine Gv.lp (fun s:(List Claim)×an=>l8 14 s.1/\bS s.2) (fun s=>20 - s.1.length) (fun s h=> ?_) ⟨hj.1.mono (by omega),h10.2⟩;refine(Gv.next h.2 2 (by omega)).bind fun x17 h17=>Gv.cond (fun hc=> ?_) fun _=> .some ⟨h.1.mono (by omega),h17.2⟩;rw[az (n:=12+x17.1) (by omega) (by omega)]at hc;have hc':(s.1.length:Int)<12+x17.1:=by simpa using hc
   refine(Am h17.2).bind fun x18 h18=>(Gv.app (by simp;omega)).bind fun r hr=> ?_;subst hr;have hl:(s.1++[x18.1]).length=s.1.length+1:=by simp
   exact .some ⟨⟨⟨by rw[hl];omega,(h.1.snoc h18.1).2⟩,h18.2⟩,by show 20 -(s.1++[x18.1]).length<20 - s.1.length;rw[hl];omega⟩
theorem MN{s:an}(hs:bS s):Gv (gU s) (fun r=>bS r.2):=by
 unfold gU;refine(Gv.next hs 3 (by omega)).bind fun y hy=>Gv.cond (fun _=> ?_) fun _=> ?_
 ·exact(Gv.next hy.2 _ (by omega)).bind fun a ha=>(Gv.next ha.2 _ (by omega)).bind fun b hb=> .some hb.2
 ·exact(Gv.next hy.2 _ (by omega)).bind fun a ha=>(Gv.next ha.2 _ (by omega)).bind fun b hb=> .some hb.2
theorem MM{s:an}(hs:bS s):Gv (oY s) (fun r=>bS r.2):=by
 unfold oY;refine(MN hs).bind fun y hy=>(Gv.next hy _ (by omega)).bind fun a ha=>Gv.bind (P:=fun r:aF×an=>bS r.2) (Gv.cond (fun _=> ?_) fun _=> .some ha.2) fun j hj=> .some hj;exact(Gv.pick ha.2 (by simp) (by simp)).bind fun b hb=> .some hb.2
def oo(n:Nat)(L:List Site):Prop:=L.length<=n/\ ∀x∈L,x.Code.size<=100
theorem oo.snoc{n:Nat}{L:List Site}{x:Site}(h:oo n L)(hx:x.Code.size<=100):oo (n+1) (L++[x]):=by
 refine⟨by simp;exact h.1,fun y hy=> ?_⟩;rcases TN.1 hy with hy | hy
 ·exact h.2 y hy
 ·rw[TH.1 hy];exact hx
theorem oo.mono{n m:Nat}{L:List Site}(h:oo n L)(k:n<=m):oo m L:=⟨Nat.le_trans h.1 k,h.2⟩
theorem KG{s:an}(hs:bS s):Gv (nF s) (fun r=>oo 30 r.1/\bS r.2):=by
 unfold nF;refine Gv.bind (P:=fun r:(List Site)×an=>oo 5 r.1/\bS r.2) ?_ fun j hj=> ?_
 ·refine Gv.Od (n:=5) (by omega) (fun i (s:(List Site)×an)=>oo i s.1/\bS s.2) (fun i s hi h=> ?_) ⟨⟨TA _,by simp⟩,hs⟩ fun s h=>h;refine(Gv.next h.2 _ (by omega)).bind fun y hy=>Gv.cond (fun _=> ?_) fun _=> .some ⟨h.1.mono (by omega),hy.2⟩;refine Gv.bind (Gv.at (P:=fun x:ByteArray=>x.size<=100) ⟨by omega,.inl (by simp;omega)⟩ (by simp) (by decide)) fun c hc=> ?_;refine(Gv.next hy.2 _ (by omega)).bind fun a ha=>(Gv.next ha.2 _ (by omega)).bind fun b hb=>(Gv.app (by have:=h.1.1;simp;omega)).bind fun r hr=> ?_;subst hr;exact .some ⟨h.1.snoc hc,hb.2⟩
 ·refine(Gv.next hj.2 _ (by omega)).bind fun y hy=>Gv.bind (P:=fun r:(List Site)×an=>oo 30 r.1/\bS r.2) (Gv.cond (fun _=> ?_) fun _=>Gv.cond (fun _=> ?_) fun _=> .some ⟨hj.1.mono (by omega),hy.2⟩) fun r hr=> .some hr
  ·refine(Gv.next hy.2 3 (by omega)).bind fun a ha=>Gv.bind (Gv.at (P:=fun x:ByteArray=>x.size<=100) ⟨ha.1.1,by simpa using ha.1.2⟩ (by simp) (by decide)) fun c hc=>(MM ha.2).bind fun p hp=>(Gv.app (by have:=hj.1.1;simp;omega)).bind fun r hr=> ?_;subst hr;exact .some ⟨(hj.1.snoc hc).mono (by omega),hp⟩
  ·refine Gv.lp (fun s:Int×(List Site)×an=>(0<=s.1/\s.1<=12)/\oo (5+s.1.toNat) s.2.1/\bS s.2.2) (fun s=>12 - s.1.toNat) (fun s h=> ?_) ⟨⟨Wk _,by omega⟩,hj.1,hy.2⟩;obtain⟨⟨h0,h1⟩,h2,h3⟩:=h;refine Gv.bind (P:=fun r:Bool×an=>(r.1=true->s.1<12)/\bS r.2) ?_ fun j24 h24=>Gv.cond (fun ht=> ?_) fun _=> .some ⟨h2.mono (by omega),h24.2⟩
   ·refine(Gv.next h3 _ (by omega)).bind fun a ha=>Gv.cond (fun _=> .some ⟨fun h=>by simpa using h,ha.2⟩) fun _=> .some ⟨fun h=>(by cases h),ha.2⟩
   ·have hlt:=h24.1 ht;rw[az (n:=s.1+1) (by omega) (by omega)];refine Gv.bind (P:=fun r:List Site=>oo (5+(s.1+1).toNat) r) ?_ fun r hr=> .some ⟨⟨⟨by show 0<=s.1+1;omega,by show s.1+1<=12;omega⟩,hr,h24.2⟩,by show 12 -(s.1+1).toNat<12 - s.1.toNat;omega⟩;have z:(Tj #[97,98,99,100,101,102,103,104,105,106,107,108]).size=12:=rfl;have z1:(Tj #[122]).size=1:=rfl;refine(Gv.sub h0 (by omega) (by omega)).bind fun u hu=>(Gv.cat (by omega)).bind fun v hv=>(Gv.app (by have:=h2.1;simp;omega)).bind fun r hr=> ?_;subst hr;refine .some ((h2.snoc (x:=Site.mk v (aF.mk 0 0)) (by show v.size<=100;omega)).mono (by omega))
theorem PX(d:bg)(h:AG d): ∃r,jR d=some r/\qu d=some r:=by
 unfold jR qu;rw[fY h.s0 h.i0,ki h.s0 h.i0,sc h.s1 h.i1,xF h.s1 h.i1];have hs: ∃b,mE d.Sites=some b:=by
  unfold mE;cases cr (nZ d.Sites) (fun _ _=>false) d.Sites 0 with
  | none=>exact⟨_,rfl⟩
  | some r=>exact⟨_,rfl⟩
 obtain⟨b,hb⟩:=hs;rw[hb];cases bh d.Claims<;>exact⟨_,rfl,rfl⟩
structure Hv (c:Claim):Prop where
 s:rM c
 k:0<=c.Kind/\c.Kind<=3
 f:0<=c.Years.From/\c.Years.From<=5000
 t:0<=c.Years.To/\c.Years.To<=5000
 w:0<=c.Weight/\c.Weight<=100
theorem MP{s:an}(hs:bS s):Gv (eK s) (fun r=>Hv r.1/\bS r.2):=by
 unfold eK;refine(Gv.next hs 4 (by omega)).bind fun x1 h1=>Gv.bind (Gv.at (P:=fun x:ByteArray=>x.size<=100) ⟨h1.1.1,by simpa using h1.1.2⟩ (by simp) (by decide)) fun a ha=> ?_;refine(Gv.pick h1.2 (by simp) (by simp)).bind fun x3 h3=>(Gv.next h3.2 3 (by omega)).bind fun x4 h4=>Gv.bind (Gv.at (P:=fun x:ByteArray=>x.size<=100) ⟨h4.1.1,by simpa using h4.1.2⟩ (by simp) (by decide)) fun b hb=> ?_;refine(Gv.next h4.2 60 (by omega)).bind fun x6 h6=>(Gv.next h6.2 9 (by omega)).bind fun x7 h7=>(Gv.next h7.2 60 (by omega)).bind fun x8 h8=> ?_;have hk:0<=x3.1/\x3.1<=3:=by
  have:=h3.1;simp only[Tx,UA,or_false]at this;omega
 have e1:ap (1200+x6.1)=1200+x6.1:=az (by omega) (by omega);have e2:ap (1200+x6.1+x8.1)=1200+x6.1+x8.1:=az (by omega) (by omega);have e3:ap (1+x7.1)=1+x7.1:=az (by omega) (by omega);have fin: ∀v:ByteArray,v.size<=100->Hv (Claim.mk a x3.1 b v (Span.mk (1200+x6.1) (1200+x6.1+x8.1)) (1+x7.1)):=fun v hv=>⟨⟨ha,hb,hv⟩,hk,by show 0<=1200+x6.1/\1200+x6.1<=5000;omega,by show 0<=1200+x6.1+x8.1/\1200+x6.1+x8.1<=5000;omega,by show 0<=1+x7.1/\1+x7.1<=100;omega⟩;rw[e1,e2,e3];refine Gv.bind (P:=fun r:Claim×an=>Hv r.1/\bS r.2) (Gv.cond (fun _=> ?_) fun _=>Gv.cond (fun _=> ?_) fun _=> .some ⟨fin _ (Ul _),h8.2⟩) fun r hr=> .some hr
 ·exact(Gv.next h8.2 3 (by omega)).bind fun x11 h11=>Gv.bind (Gv.at (P:=fun x:ByteArray=>x.size<=100) ⟨h11.1.1,by simpa using h11.1.2⟩ (by simp) (by decide)) fun v hv=> .some ⟨fin v hv,h11.2⟩
 ·have z:(Tj #[100,101,118,97]).size<=100:=by decide
  exact(Gv.next h8.2 4 (by omega)).bind fun x11 h11=>Gv.bind (Gv.at (P:=fun x:ByteArray=>x.size<=100) ⟨h11.1.1,by simpa using h11.1.2⟩ (by simp) (by decide)) fun v hv=>Gv.cond (fun _=> .some ⟨fin _ z,h11.2⟩) fun _=> .some ⟨fin v hv,h11.2⟩
theorem SH{c:Claim}(h:Hv c):Gv (ja c) (fun t=>t.size<=500):=by
 have hk:=h.k;have hf:=h.f;have ht:=h.t;have hw:=h.w;have hs:=h.s.1;have hp:=h.s.2.1;have hv:=h.s.2.2;have z1:=bO (v:=c.Kind) (by omega) (by omega);have z2:=bO (v:=c.Weight) (by omega) (by omega);have z3:=bO (v:=c.Years.From) (by omega) (by omega);have z4:=bO (v:=c.Years.To) (by omega) (by omega);have z5:=C3 c.Value;have z6:(Tj #[47]).size=1:=rfl;have z7:(Tj #[46,46]).size=2:=rfl;have hd:oX c.Value=some (C1 c.Value):=C2 c.Value;have hy:iZ c.Years=some (iL c.Years):=by
  unfold iZ iL;rw[og (by omega) (by omega),Ti,cq (by omega),Ti,og (by omega) (by omega),Ti,cq (by rw[Tw];omega)];rfl
 have z8:(iL c.Years).size<=30:=by
  unfold iL;rw[Tw,Tw];omega
 unfold ja;rw[hd,hy,iA (v:=c.Kind) (by omega) (by omega),iA (v:=c.Weight) (by omega) (by omega)];simp only[Ti];exact(Gv.cat (by omega)).bind fun a1 h1=>(Gv.cat (by omega)).bind fun a2 h2=>(Gv.cat (by omega)).bind fun a3 h3=>(Gv.cat (by omega)).bind fun a4 h4=>(Gv.cat (by omega)).bind fun a5 h5=>(Gv.cat (by omega)).bind fun a6 h6=>(Gv.cat (by omega)).bind fun a7 h7=>(Gv.cat (by omega)).bind fun a8 h8=>(Gv.cat (by omega)).bind fun a9 h9=>(Gv.cat (by omega)).bind fun a10 h10=> .some (by omega)
theorem FJ{s:an}(hs:bS s):Gv (gU s) (fun r=>jw r.1=true/\bS r.2):=by
 have hp: ∀{a b:Int},-1000<=a->a<=1000-> -1000<=b->b<=1000->jw (aF.mk a b)=true:=fun h1 h2 h3 h4=>by
  unfold jw;rw[Tp,io,io];exact⟨⟨h1,h2⟩,h3,h4⟩
 unfold gU;refine(Gv.next hs 3 (by omega)).bind fun y hy=>Gv.cond (fun _=> ?_) fun _=> ?_
 ·refine(Gv.next hy.2 2001 (by omega)).bind fun a ha=>(Gv.next ha.2 2001 (by omega)).bind fun b hb=> .some ⟨?_,hb.2⟩;rw[az (by omega) (by omega),az (by omega) (by omega)];exact hp (by omega) (by omega) (by omega) (by omega)
 ·refine(Gv.next hy.2 9 (by omega)).bind fun a ha=>(Gv.next ha.2 9 (by omega)).bind fun b hb=> .some ⟨?_,hb.2⟩;rw[az (by omega) (by omega),az (by omega) (by omega)];exact hp (by omega) (by omega) (by omega) (by omega)
theorem Bk{p:aF}(h:jw p=true):(pI p).size<=30:=by
 have h1:=G1 h;have z1:=bO (v:=p.X) (by omega) (by omega);have z2:=bO (v:=p.Y) (by omega) (by omega);have z3:(Tj #[58]).size=1:=rfl;unfold pI;rw[fe,gz,Tw,Tw];omega
structure Lk (d:ak):Prop where
 c:0<=d.Count/\d.Count<=100
 w:0<=d.Direction/\d.Direction<=7
 u:d.Unit.size<=100
 a:d.A.size<=100
 b:d.B.size<=100
theorem MR{s:an}(hs:bS s):Gv (o6 s) (fun r=>Lk r.1/\bS r.2):=by
 have k1:(0:Int)<=0/\(0:Int)<=100:=by decide
 have k2:(0:Int)<=0/\(0:Int)<=7:=by decide
 have z0:(Tj #[]).size<=100:=by decide
 have z1:(Tj #[115]).size=1:=rfl;unfold o6;refine(Gv.next hs 4 (by omega)).bind fun x1 h1=>(Gv.next h1.2 3 (by omega)).bind fun x2 h2=>Gv.bind (Gv.at (P:=fun x:ByteArray=>x.size<=100) ⟨h2.1.1,by simp;omega⟩ (by simp) (by decide)) fun a ha=> ?_;refine Gv.bind (P:=fun r:ak×an=>Lk r.1/\bS r.2) (Gv.cond (fun _=> ?_) fun _=>Gv.cond (fun _=> ?_) fun _=> .some ⟨⟨k1,k2,z0,ha,z0⟩,h2.2⟩) fun r hr=> .some hr
 ·refine(Gv.next h2.2 12 (by omega)).bind fun x6 h6=> ?_;rw[az (n:=1+x6.1) (by omega) (by omega)];refine(Gv.pick h6.2 (by simp) (by simp)).bind fun x7 h7=>(Gv.next h7.2 3 (by omega)).bind fun x8 h8=>Gv.bind (Gv.at (P:=fun x:ByteArray=>x.size<=50) ⟨h8.1.1,by simpa using h8.1.2⟩ (by simp) (by decide)) fun u hu=> ?_;have hc:0<=x7.1/\x7.1<=100:=by
   have:=h7.1;simp only[Tx,UA,or_false]at this;omega
  refine Gv.bind (P:=fun d:ak=>Lk d) (Gv.cond (fun _=>(Gv.cat (by omega)).bind fun v hv=> .some ⟨hc,k2,by show v.size<=100;omega,ha,z0⟩) fun _=> .some ⟨hc,k2,by show u.size<=100;omega,ha,z0⟩) fun d hd=> ?_;exact(Gv.next h8.2 8 (by omega)).bind fun x13 h13=> .some ⟨⟨hd.c,by show 0<=x13.1/\x13.1<=7;omega,hd.u,hd.a,hd.b⟩,h13.2⟩
 ·exact Gv.bind (Gv.at (P:=fun x:ByteArray=>x.size<=100) ⟨by omega,.inl (by simp)⟩ (by simp) (by decide)) fun b hb=> .some ⟨⟨k1,k2,z0,ha,hb⟩,h2.2⟩
theorem Q5{d:ak}(h:Lk d):Gv (jb d) (fun t=>t.size<=500):=by
 have hc:=h.c;have hu:=h.u;have ha:=h.a;have hb:=h.b;have z1:(Tj #[97,116,32]).size=3:=rfl;have z2:(Tj #[110,101,97,114,32]).size=5:=rfl;have z3:(Tj #[98,101,116,119,101,101,110,32]).size=8:=rfl;have z4:(Tj #[32,97,110,100,32]).size=5:=rfl;have z5:(Tj #[32]).size=1:=rfl;have z6:(Tj #[32,111,102,32]).size=4:=rfl;have z7:=bO (v:=d.Count) (by omega) (by omega);obtain⟨w1,w2,_,_⟩:=xN h.w.1 h.w.2;have hw:fu d.Direction=some (mQ d.Direction):=by
  show((at' da d.Direction).bind fun x1=>some x1)=_;rw[w1];rfl
 unfold jb;refine Gv.bind (P:=fun r:Unit⊕ByteArray=> ∀t,r= .inr t->t.size<=500) ?_ fun r hr=> ?_
 ·refine Gv.cond (fun _=>(Gv.cat (by omega)).bind fun a h1=> .some fun t e=> ?_) fun _=>Gv.cond (fun _=>(Gv.cat (by omega)).bind fun a h1=> .some fun t e=> ?_) fun _=>Gv.cond (fun _=> ?_) fun _=> .some fun t e=>by cases e
  ·injection e with e;subst e;omega
  ·injection e with e;subst e;omega
  ·rw[iA (v:=d.Count) (by omega) (by omega),hw];simp only[Ti];refine(Gv.cat (by omega)).bind fun a1 h1=>(Gv.cat (by omega)).bind fun a2 h2=>(Gv.cat (by omega)).bind fun a3 h3=>(Gv.cat (by omega)).bind fun a4 h4=>(Gv.cat (by omega)).bind fun a5 h5=>(Gv.cat (by omega)).bind fun a6 h6=> .some fun t e=> ?_;injection e with e;subst e;omega
 ·cases r with
  | inl u=>exact(Gv.cat (by omega)).bind fun a1 h1=>(Gv.cat (by omega)).bind fun a2 h2=>(Gv.cat (by omega)).bind fun a3 h3=> .some (by omega)
  | inr t=>exact .some (hr t rfl)
theorem N0{s:an}(hs:bS s){t:ByteArray}(ht:t.size<=1000000):Gv (kj s t) (fun r=>r.1.size<=t.size+10/\bS r.2):=by
 obtain⟨u,s',h1,h2,h3⟩:=Ms hs ht;exact⟨_,h1,h2,h3⟩
abbrev Cm(r:an⊕(ByteArray×an)):Prop:=(∀s,r= .inl s->bS s)/\ ∀p,r= .inr p->p.1.size<=1200/\bS p.2
theorem Cm.r{t:ByteArray}{s:an}(h:t.size<=1200)(k:bS s):Cm (.inr (t,s)):=⟨fun s e=>(by cases e),fun p e=>by injection e with e;subst e;exact⟨h,k⟩⟩
theorem Mn{s:an}(hs:bS s):Gv (jr s) (fun r=>r.1.size<=1200/\bS r.2):=by
 have z1:(Tj #[32]).size=1:=rfl;unfold jr;refine(Gv.next hs 3 (by omega)).bind fun x1 h1=>Gv.bind (Gv.at (P:=fun x:ByteArray=>x.size<=100) ⟨h1.1.1,by simpa using h1.1.2⟩ (by simp) (by decide)) fun a ha=> ?_;refine(Gv.next h1.2 3 (by omega)).bind fun x3 h3=>Gv.bind (Gv.at (P:=fun x:ByteArray=>x.size<=100) ⟨h3.1.1,by simpa using h3.1.2⟩ (by simp) (by decide)) fun b hb=> ?_;refine(Gv.next h3.2 12 (by omega)).bind fun x5 h5=>Gv.bind (P:=Cm) ?_ fun r hr=> ?_
 ·refine Gv.bind (P:=fun _:Bool=>True) (Gv.cond (fun _=> .some trivial) fun _=>Gv.cond (fun _=> .some trivial) fun _=> .some trivial) fun j8 _=>Gv.cond (fun _=> ?_) fun _=>Gv.cond (fun _=> ?_) fun _=>Gv.cond (fun _=> ?_) fun _=>Gv.cond (fun _=> ?_) fun _=>Gv.bind (P:=fun _:Bool=>True) (Gv.cond (fun _=> .some trivial) fun _=> .some trivial) fun j29 _=>Gv.cond (fun _=> ?_) fun _=>Gv.cond (fun _=> ?_) fun _=>Gv.cond (fun _=> ?_) fun _=> .some ⟨fun s e=>by injection e with e;subst e;exact h5.2,fun p e=>by cases e⟩
  ·refine(MP h5.2).bind fun x10 h10=>Gv.bind (P:=fun r:Claim×an=>Hv r.1/\bS r.2) (Gv.cond (fun _=> ?_) fun _=> .some h10) fun j11 h11=> ?_
   ·exact(Gv.next h10.2 2 (by omega)).bind fun x13 h13=>Gv.bind (Gv.at (P:=fun x:ByteArray=>x.size<=100) ⟨h13.1.1,by simpa using h13.1.2⟩ (by simp) (by decide)) fun v hv=> .some ⟨⟨⟨h10.1.s.1,h10.1.s.2.1,hv⟩,h10.1.k,h10.1.f,h10.1.t,h10.1.w⟩,h13.2⟩
   ·have z:(Tj #[99,108,97,105,109,32]).size=6:=rfl;exact(SH h11.1).bind fun t ht=>(Gv.cat (by omega)).bind fun u hu=> .some (.r (by omega) h11.2)
  ·have z:(Tj #[100,114,111,112,32]).size=5:=rfl;refine(Gv.next h5.2 4 (by omega)).bind fun x17 h17=> ?_;have z2:=bO (v:=x17.1) (by omega) (by omega);rw[iA (by omega) (by omega),Ti];exact(Gv.cat (by omega)).bind fun u hu=> .some (.r (by omega) h17.2)
  ·exact(Gv.next h5.2 3 (by omega)).bind fun x20 h20=>Gv.bind (Gv.at (P:=fun x:ByteArray=>x.size<=100) ⟨h20.1.1,by simpa using h20.1.2⟩ (by simp) (by decide)) fun v hv=> .some (.r (by omega) h20.2)
  ·refine(Gv.next h5.2 2 (by omega)).bind fun x22 h22=>Gv.bind (Gv.at (P:=fun x:ByteArray=>x.size<=100) ⟨h22.1.1,by simpa using h22.1.2⟩ (by simp) (by decide)) fun v hv=>(Gv.cat (by omega)).bind fun u1 hu1=>(Gv.cat (by omega)).bind fun u2 hu2=>(Gv.next h22.2 90 (by omega)).bind fun x26 h26=> ?_;have z2:=bO (v:=1200+x26.1) (by omega) (by omega);rw[az (by omega) (by omega),og (by omega) (by omega),Ti];exact(Gv.cat (by omega)).bind fun u hu=> .some (.r (by omega) h26.2)
  ·have z:(Tj #[115,105,116,101,32]).size=5:=rfl;refine(Gv.cat (by omega)).bind fun u1 hu1=>(Gv.cat (by omega)).bind fun u2 hu2=>(FJ h5.2).bind fun p hp=> ?_;have z2:=Bk hp.1;rw[qz hp.1,Ti];exact(Gv.cat (by omega)).bind fun u hu=> .some (.r (by omega) hp.2)
  ·exact(Gv.next h5.2 3 (by omega)).bind fun x36 h36=>Gv.bind (Gv.at (P:=fun x:ByteArray=>x.size<=100) ⟨h36.1.1,by simpa using h36.1.2⟩ (by simp) (by decide)) fun v hv=>(Gv.cat (by omega)).bind fun u1 hu1=>(Gv.cat (by omega)).bind fun u2 hu2=>(Gv.cat (by omega)).bind fun u3 hu3=> .some (.r (by omega) h36.2)
  ·have z:(Tj #[116,101,115,116,32]).size=5:=rfl;refine(FJ h5.2).bind fun p hp=> ?_;have z2:=Bk hp.1;rw[qz hp.1,Ti];exact(Gv.cat (by omega)).bind fun u1 hu1=>(Gv.cat (by omega)).bind fun u2 hu2=>(MR hp.2).bind fun d hd=>(Q5 hd.1).bind fun t ht=>(Gv.cat (by omega)).bind fun u3 hu3=> .some (.r (by omega) hd.2)
 ·cases r with
  | inl s=>exact(Gv.next (hr.1 s rfl) 3 (by omega)).bind fun x48 h48=>Gv.bind (Gv.at (P:=fun x:ByteArray=>x.size<=100) ⟨h48.1.1,by simpa using h48.1.2⟩ (by simp) (by decide)) fun v hv=> .some ⟨by show v.size<=1200;omega,h48.2⟩
  | inr p=>exact .some (hr.2 p rfl)
theorem N2{s:an}(hs:bS s):Gv (kL s) (fun r=>r.1.size<=30000/\bS r.2):=by
 unfold kL;refine(Gv.next hs 12 (by omega)).bind fun x1 h1=>Gv.bind (P:=fun r:ByteArray×an=>r.1.size<=20000/\bS r.2) ?_ fun j hj=> ?_
 ·refine Gv.lp (fun s:ByteArray×Int×an=>(0<=s.2.1/\s.2.1<=12)/\(s.1.size:Int)<=(12 - s.2.1)*1300/\bS s.2.2) (fun s=>s.2.1.toNat) (fun s h=> ?_) ⟨⟨h1.1.1,by show x1.1<=12;omega⟩,by show((0:Nat):Int)<=(12 - x1.1)*1300;omega,h1.2⟩;obtain⟨⟨h0,h4⟩,h2,h3⟩:=h;refine Gv.cond (fun hp=> ?_) fun _=> .some ⟨by show s.1.size<=20000;omega,h3⟩;have hp':s.2.1>0:=by simpa using hp
  rw[az (n:=s.2.1 - 1) (by omega) (by omega)];have z1:(Tj #[10]).size=1:=rfl;refine Gv.bind (P:=fun r:ByteArray×an=>r.1.size<=s.1.size+1300/\bS r.2) ?_ fun r hr=> .some ⟨⟨⟨by show 0<=s.2.1 - 1;omega,by show s.2.1 - 1<=12;omega⟩,by show(r.1.size:Int)<=(12 -(s.2.1 - 1))*1300;have:=hr.1;omega,hr.2⟩,by show(s.2.1 - 1).toNat<s.2.1.toNat;omega⟩;refine(Mn h3).bind fun x8 h8=>(Gv.next h8.2 16 (by omega)).bind fun x9 h9=>Gv.bind (P:=fun r:ByteArray×an=>r.1.size<=1250/\bS r.2) (Gv.cond (fun _=> ?_) fun _=> .some ⟨by show x8.1.size<=1250;omega,h9.2⟩) fun j10 h10=> ?_
  ·exact(N0 h9.2 (by omega)).bind fun x12 h12=> .some ⟨by show x12.1.size<=1250;omega,h12.2⟩
  ·exact(Gv.cat (by omega)).bind fun u1 hu1=>(Gv.cat (by omega)).bind fun u2 hu2=> .some ⟨by show u2.size<=s.1.size+1300;omega,h10.2⟩
 ·refine(Gv.next hj.2 40 (by omega)).bind fun x15 h15=>Gv.bind (P:=fun r:ByteArray⊕(ByteArray×an)=>(∀t,r= .inl t->t.size<=30000)/\ ∀p,r= .inr p->p.1.size<=30000/\bS p.2) (Gv.cond (fun _=> ?_) fun _=>Gv.cond (fun _=> ?_) fun _=> .some ⟨fun t e=>by injection e with e;subst e;omega,fun p e=>by cases e⟩) fun r hr=> ?_
  ·have z:(Tj #[99,111,114,101,115,10]).size=6:=rfl;refine Gv.Od (n:=36) (by omega) (fun i (t:ByteArray)=>t.size<=20000+6*i) (fun i t hi h=>(Gv.cat (by omega)).bind fun u hu=> .some (by omega)) (by omega) fun t h=>⟨fun u e=>by injection e with e;subst e;omega,fun p e=>by cases e⟩
  ·have z:(Tj #[114,101,112,97,105,114]).size=6:=rfl;exact(Gv.cat (by omega)).bind fun u hu=> .some ⟨fun t e=>(by cases e),fun p e=>by injection e with e;subst e;exact⟨by show u.size<=30000;omega,h15.2⟩⟩
  ·cases r with
   | inl t=>exact .some ⟨hr.1 t rfl,h15.2⟩
   | inr p=>exact .some (hr.2 p rfl)
theorem Kc{c:List Int}(hc:zK c):Gv (oH c) (fun t=>t.size<=30000):=by
 unfold oH;exact(Gv.from hc).bind fun s hs=>(N2 hs).bind fun r hr=> .some hr.1
theorem Kb{c:List Int}(hc:zK c):Gv (lL c) (fun t=>t.size<=30000):=Kc hc
theorem Ka{c:List Int}(hc:zK c):Gv (lC c) AG:=by
 unfold lC;refine(Gv.from hc).bind fun s hs=>(N2 hs).bind fun r hr=> ?_;obtain⟨d,_,d2,d3⟩:=rR r.1 (by omega);rw[d2,Ti];have h12:=(aH.1 d3.c).1;have h10:=(fr d3.s).2.2;refine(Gv.next hr.2 12 (by omega)).bind fun x4 h4=>Gv.bind (P:=AG) (Gv.cond (fun _=> ?_) fun _=>Gv.cond (fun _=> ?_) fun _=> .some ⟨by omega,by omega,d3.cs,d3.ss⟩) fun j hj=> .some hj
 ·exact(MQ h4.2).bind fun x7 h7=> .some ⟨by have:=h7.1.1;show x7.1.length<=1048576;omega,by show d.1.Sites.length<=1048576;omega,h7.1.sm,d3.ss⟩
 ·exact(KG h4.2).bind fun x8 h8=> .some ⟨by show d.1.Claims.length<=1048576;omega,by have:=h8.1.1;show x8.1.length<=1048576;omega,d3.cs,fun y hy=>⟨by have:=h8.1.2 y hy;omega⟩⟩
theorem KJ(L:List Claim)(hL:L.length<=1000000):lx L L=some true:=by
 unfold lx;rw[bne_self_eq_false,cond_false];rw[iv (by omega) (fun _=>false) false (fun i x hx=>by
  rw[aG,hx,Ti,Ti];simp)]
 have h0:L.any (fun _=>false)=false:=Wa.2 (fun _ _ h=>absurd h (by decide));rw[h0];rfl
theorem KK(L:List Site)(hL:L.length<=1000000):my L L=some true:=by
 unfold my;rw[bne_self_eq_false,cond_false];rw[iv (by omega) (fun _=>false) false (fun i x hx=>by
  rw[aG,hx,Ti,Ti];simp)]
 have h0:L.any (fun _=>false)=false:=Wa.2 (fun _ _ h=>absurd h (by decide));rw[h0];rfl
theorem MJ{d:bg}(h:dx d):jR d=some true:=by
 have h1:=(aH.1 h.c).1;have h2:=(fr h.s).2.2;unfold jR;rw[fY (by omega) h.cs,sc (by omega) h.ss,h.c,h.s];rfl
theorem Gd(p0:List Int)(k0:p0.length<=maxLen/\ ∀x∈p0,Sw x):mv p0=some true:=by
 unfold mv yt;by_cases g0:(p0.length:Int)>4096
 ·rw[decide_eq_true g0];rfl
 rw[decide_eq_false g0];simp only[Ti,cond_false];have hc:zK p0:=⟨by omega,fun x hx=>by have h:=k0.2 x hx;exact⟨h.1,by have:=h.2;omega⟩⟩;obtain⟨s,s1,s2⟩:=Kb hc;obtain⟨x,x1,x2⟩:=Ka hc;obtain⟨d,d1,d2,d3⟩:=rR s (by omega);obtain⟨b,b1,b2⟩:=PX x x2;have h1:=(aH.1 d3.c).1;have h2:=(fr d3.s).2.2;simp only[s1,x1,d1,d2,b1,b2,KJ d.1.Claims (by omega),KK d.1.Sites (by omega),MJ d3,Ti,bne_self_eq_false,cond_false,beq_self_eq_true,TO];cases (d.2 !=0)<;>rfl
theorem dx.sm{d:bg}(h:dx d):AG d:=by
 have h1:=(aH.1 h.c).1;have h2:=(fr h.s).2.2;exact⟨by omega,by omega,h.cs,h.ss⟩
theorem St{d:bg}(h:AG d): ∃m Z,lf d 1=some (m,Z)/\lc Z 1=some m/\decide (m<0)=false:=by
 have h1:=Ef d.Claims h.s0 h.i0;have h2:=Fi d.Sites h.s1 h.i1;have l1:=h.s0;have l2:=h.s1;refine⟨1+kn mZ d.Claims+kn sO d.Sites,bg.mk (kd zS mZ 1 d.Claims) (kd Fy sO (1+kn mZ d.Claims) d.Sites),?_,?_,decide_eq_false (by omega)⟩
 ·unfold lf;rw[ES d.Claims 1 (by omega) (by omega) (by omega),Ti];dsimp only;rw[GW d.Sites _ (by omega) (by omega) (by omega),Ti]
 ·unfold lc;dsimp only;rw[ED d.Claims 1 (by omega) (by omega) (by omega),Ti,decide_eq_false (by omega),cond_false,GH d.Sites _ (by omega) (by omega) (by omega),Ti,decide_eq_false (by omega),cond_false]
theorem te(p0:ByteArray)(_k0:p0.size<=maxLen):eu p0=some true:=by
 unfold eu;by_cases g0:(p0.size:Int)>1048576
 ·rw[decide_eq_true g0];rfl
 rw[decide_eq_false g0,cond_false];obtain⟨r,r1,r2,r3⟩:=rR p0 (by omega);have q:=HX r.1 r3.sm;obtain⟨m,Z,m1,w1,d1⟩:=St r3.sm;simp only[r1,r2,Ti,q,m1,w1,d1];simp
