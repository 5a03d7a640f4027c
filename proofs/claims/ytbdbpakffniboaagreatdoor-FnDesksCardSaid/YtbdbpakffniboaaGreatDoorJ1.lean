/- Parts of the proof, in order: MR1, KQ, KU, SN. -/
import Derived.Test.YtbdbpakffniboaaGreatDoorJ0
import Derived.ProofKit
import Derived.Lib.Hide
import Derived.Shelf.SlSortCmp.Whole1
import Derived.Shelf.SlSortCmp.NoneTotal
import Derived.Shelf.SlSortFunc.HeapSort
import Derived.Shelf.Strings.Cut
import Derived.Shelf.Strings.OnBuilder
import Derived.Lib.ItoaLen
open Array renaming length_toList->TB,range->VV
open Bool renaming and_eq_true->Tp
open List renaming getElem?_eq_getElem->Tk,getElem?_eq_some_iff->Tl,mem_of_getElem?->Tm,getElem?_map->Tq,all_eq_true->Tt,mem_filter->Tu,mem_cons->Tx,mem_map->TF,mem_singleton->TH,mem_flatMap->TK,getD_eq_getElem?_getD->TL,mem_append->TN,range->TU,append_assoc->TX,mem_range->T2,mem_append_left->T7,size_toArray->Uk,append_nil->Up,pairwise_append->Ur,pairwise_cons->UI,length_eq_zero_iff->UJ,drop_eq_nil_of_le->UL,foldl_cons->UP,getElem?_eq_none->UZ,mem_range'_1->Vy,pairwise_map->Vz,concat_eq_append->VL,prefix_append->V3,prefix_refl->WM
open Nat renaming le_refl->TA,zero_le->Ul,add_zero->Uw,testBit_lt_two_pow->VF,mul_one->VG
open Option renaming map_eq_some_iff->Tn
namespace Go.Proofs.YtbdbpakffniboaaGreatDoor.Sh
open Go.RowKit
def ik(n:Nat)(R:List Int):Prop:=R.Pairwise (· < ·)/\ ∀x∈R,0<=x/\x<n
theorem ik.nodup{n:Nat}{R:List Int}(h:ik n R):R.Nodup:=h.1.imp fun h e=>by omega
theorem ik.nil(n:Nat):ik n []:=⟨List.Pairwise.nil,by simp⟩
theorem ik.sub{n:Nat}{R Q:List Int}(h:ik n R)(hs:List.Sublist Q R):ik n Q:=⟨h.1.sublist hs,fun x hx=>h.2 x (hs.subset hx)⟩
theorem ik.erase{n:Nat}{R:List Int}(h:ik n R)(i:Nat):ik n (R.eraseIdx i):=h.sub (List.eraseIdx_sublist R i)
theorem ik.snoc{n:Nat}{R:List Int}(h:ik n R){i:Int}(h0:0<=i)(hi:i<n)(hl: ∀x∈R,x<i):ik n (R++[i]):=by
 refine⟨Ur.2 ⟨h.1,by simp,fun a ha b hb=> ?_⟩,fun x hx=> ?_⟩
 ·rw[TH.1 hb];exact hl a ha
 ·rcases TN.1 hx with hx | hx
  ·exact h.2 x hx
  ·rw[TH.1 hx];omega
theorem ik.len{n:Nat}{R:List Int}(h:ik n R):R.length<=n:=by
 have key: ∀(M:List Int) (k:Int),M.Pairwise (· < ·)->(∀x∈M,k<=x/\x<n)->0<=k->k+M.length<=n\/M=[]:=by
  intro M
  induction M with
  | nil=>intro k _ _ _;exact .inr rfl
  | cons x M ih=>
   intro k hp hb hk;have h1:=UI.1 hp;have h2:=hb x (by simp);rcases ih (x+1) h1.2 (fun y hy=>⟨by have:=h1.1 y hy;omega,(hb y (by simp[hy])).2⟩) (by omega)with h3 | h3
   ·left;simp only[List.length_cons];omega
   ·left;rw[h3];simp;omega
 rcases key R 0 h.1 h.2 (Int.le_refl _)with h1 | h1
 ·omega
 ·rw[h1];simp
def CF(n:Nat)(rep:List Int->Bool):Prop:= ∀R Q,ik n R->ik n Q->(∀x∈R,x∈Q)->rep R=true->rep Q=true
def jI(rep:List Int->Bool)(R:List Int):Bool:=rep R&&(TU R.length).all fun i=> !rep (R.eraseIdx i)
theorem I4{rep:List Int->Bool}{R:List Int}(h:jI rep R=true):rep R=true:=by
 unfold jI at h;rw[Tp]at h;exact h.1
theorem M3{rep:List Int->Bool}{R:List Int}(h:jI rep R=true){i:Nat}(hi:i<R.length):rep (R.eraseIdx i)=false:=by
 unfold jI at h;rw[Tp]at h;have:=Tt.1 h.2 i (T2.2 hi);simpa using this
theorem Kj{n:Nat}{rep:List Int->Bool}: ∀(k:Nat) (R:List Int),R.length<=k->ik n R->rep R=true-> ∃Q,ik n Q/\jI rep Q=true/\ ∀x∈Q,x∈R:=by
 intro k
 induction k with
 | zero=>
  intro R hl hi hr;have:R=[]:=UJ.1 (by omega);subst this;exact⟨[],hi,by unfold jI;rw[hr];rfl,fun x h=>h⟩
 | succ k ih=>
  intro R hl hi hr;cases hm:jI rep R
  ·unfold jI at hm;rw[hr,Bool.true_and,<-Bool.not_eq_true,Tt]at hm;have: ∃i,i<R.length/\rep (R.eraseIdx i)=true:=by
    rcases Classical.em (∃i,i<R.length/\rep (R.eraseIdx i)=true)with h | h
    ·exact h
    ·exact absurd (fun i hi=>by
      have: ¬rep (R.eraseIdx i)=true:=fun h2=>h ⟨i,T2.1 hi,h2⟩;simpa using this) hm
   obtain⟨i,h1,h2⟩:=this;have h3:=List.length_eraseIdx_of_lt h1;obtain⟨Q,q1,q2,q3⟩:=ih (R.eraseIdx i) (by omega) (hi.erase i) h2;exact⟨Q,q1,q2,fun x hx=>(List.eraseIdx_sublist R i).subset (q3 x hx)⟩
  ·exact⟨R,hi,hm,fun x h=>h⟩
def kV(rep:List Int->Bool)(n:Nat):Nat->Nat->List Int->List (List Int)
 | 0,_,_=>[]
 | k+1,f,R=>bif rep R then(bif jI rep R then[R]else[])else(List.range' f (n - f)).flatMap fun i=>kV rep n k (i+1) (R++[(i:Int)])
def fS(R:List Int)(f:Nat):Prop:=(∀x∈R,x<f)/\ ∀i:Int,0<=i->(∀x∈R,x<i)->f<=i
theorem fS.snoc{R:List Int}{f i:Nat}(h:fS R f)(hi:f<=i):fS (R++[(i:Int)]) (i+1):=by
 refine⟨fun x hx=> ?_,fun j _ hj=> ?_⟩
 ·rcases TN.1 hx with hx | hx
  ·have:=h.1 x hx;omega
  ·rw[TH.1 hx];omega
 ·have:=hj i (by simp);omega
theorem fS.nil:fS [] 0:=⟨by simp,fun i hi _=>by omega⟩
theorem DB{n:Nat}{rep:List Int->Bool}(hr:CF n rep): ∀(k f:Nat) (R:List Int),n - f<k->ik n R->fS R f-> ∀Q,Q∈kV rep n k f R↔ik n Q/\R<+:Q/\jI rep Q=true:=by
 intro k
 induction k with
 | zero=>intro f R h;omega
 | succ k ih=>
  intro f R hk hR hf Q;unfold kV;cases hrep:rep R
  ·rw[cond_false,TK];constructor
   ·rintro⟨i,hi,hq⟩;rw[Vy]at hi;have hs:ik n (R++[(i:Int)]):=hR.snoc (by omega) (by omega) fun x hx=>by have:=hf.1 x hx;omega
    obtain⟨q1,q2,q3⟩:=(ih (i+1) _ (by omega) hs (hf.snoc hi.1) Q).1 hq;exact⟨q1,(V3 R [(i:Int)]).trans q2,q3⟩
   ·rintro⟨q1,⟨t,rfl⟩,q3⟩;cases t with
    | nil=>
     rw[Up]at q3;rw[I4 q3]at hrep;cases hrep
    | cons i t=>
     have hp:=Ur.1 q1.1;have hi:=q1.2 i (by simp);obtain⟨m,rfl⟩: ∃m:Nat,i=m:=⟨i.toNat,by omega⟩;have hfi:=hf.2 m hi.1 fun x hx=>hp.2.2 x hx m (by simp);have hs:ik n (R++[(m:Int)]):=hR.snoc hi.1 hi.2 fun x hx=>hp.2.2 x hx m (by simp);refine⟨m,Vy.2 ⟨by omega,by omega⟩,(ih (m+1) _ (by omega) hs (hf.snoc (by omega)) _).2 ⟨q1,⟨t,by simp⟩,q3⟩⟩
  ·rw[cond_true];constructor
   ·intro h;cases hm:jI rep R
    ·rw[hm]at h;simp at h
    ·rw[hm]at h;have:Q=R:=by simpa using h
     subst this;exact⟨hR,WM _,hm⟩
   ·rintro⟨q1,⟨t,rfl⟩,q3⟩;have ht:t=[]:=by
     rcases List.eq_nil_or_concat t with h | ⟨l,x,h⟩
     ·exact h
     ·exfalso;subst h;have hlen:(R++l.concat x).length=(R++l).length+1:=by simp;omega
      have h1:=M3 q3 (i:=(R++l).length) (by omega);have e1:(R++l.concat x).eraseIdx (R++l).length=R++l:=by
       rw[VL,<-TX,List.eraseIdx_append_of_length_le (TA _),Nat.sub_self];show(R++l)++[]=R++l;rw[Up]
      rw[e1]at h1;have hsub:ik n (R++l):=q1.sub (by rw[VL,<-TX];exact List.sublist_append_left _ _);rw[hr R (R++l) hR hsub (fun x hx=>T7 _ hx) hrep]at h1;cases h1
    subst ht;rw[Up]at q3⊢;rw[q3];simp
def cmpL:List Int->List Int->Int
 | [],[]=>0
 | [],_::_=> -1
 | _::_,[]=>1
 | x::a,y::b=>if x<y then -1 else if y<x then 1 else cmpL a b
theorem na: ∀a:List Int,cmpL a a=0
 | []=>rfl
 | x::a=>by
  unfold cmpL;rw[if_neg (by omega),if_neg (by omega)];exact na a
theorem vw: ∀{a b:List Int},cmpL a b=0->a=b
 | [],[],_=>rfl
 | [],y::b,h=>by simp[cmpL]at h
 | x::a,[],h=>by simp[cmpL]at h
 | x::a,y::b,h=>by
  unfold cmpL at h;by_cases h1:x<y
  ·rw[if_pos h1]at h;omega
  ·by_cases h2:y<x
   ·rw[if_neg h1,if_pos h2]at h;omega
   ·rw[if_neg h1,if_neg h2]at h;rw[vw h,show x=y by omega]
theorem vv: ∀a b:List Int,cmpL b a= - cmpL a b
 | [],[]=>rfl
 | [],y::b=>rfl
 | x::a,[]=>rfl
 | x::a,y::b=>by
  unfold cmpL;by_cases h1:x<y
  ·rw[if_pos h1,if_neg (by omega),if_pos h1];rfl
  ·by_cases h2:y<x
   ·rw[if_pos h2,if_neg h1,if_pos h2]
   ·rw[if_neg h2,if_neg h1,if_neg h1,if_neg h2];exact vv a b
theorem nc: ∀{a b c:List Int},cmpL a b<0->cmpL b c<0->cmpL a c<0
 | [],[],c,h,_=>by simp[cmpL]at h
 | [],y::b,[],_,h=>by simp[cmpL]at h
 | [],y::b,z::c,_,_=>by simp[cmpL]
 | x::a,[],c,h,_=>by simp[cmpL]at h
 | x::a,y::b,[],_,h=>by simp[cmpL]at h
 | x::a,y::b,z::c,h1,h2=>by
  unfold cmpL at h1 h2⊢;by_cases a1:x<y
  ·by_cases a2:y<z
   ·rw[if_pos (by omega)];omega
   ·by_cases a3:z<y
    ·rw[if_neg a2,if_pos a3]at h2;omega
    ·rw[if_pos (by omega)];omega
  ·by_cases b1:y<x
   ·rw[if_neg a1,if_pos b1]at h1;omega
   ·rw[if_neg a1,if_neg b1]at h1;have:x=y:=by omega
    subst this;by_cases a2:x<z
    ·rw[if_pos a2];omega
    ·by_cases a3:z<x
     ·rw[if_neg a2,if_pos a3]at h2;omega
     ·rw[if_neg a2,if_neg a3]at h2⊢;exact nc h1 h2
theorem tG: ∀(R a b:List Int),cmpL (R++a) (R++b)=cmpL a b
 | [],_,_=>rfl
 | x::R,a,b=>by
  show(if x<x then -1 else if x<x then 1 else cmpL (R++a) (R++b))=cmpL a b;rw[if_neg (by omega),if_neg (by omega)];exact tG R a b
theorem CU{a b:List Int}(h:a≠b):cmpL a b<0\/cmpL b a<0:=by
 have h1:=vv a b;rcases Int.lt_trichotomy (cmpL a b) 0 with h2 | h2 | h2
 ·exact .inl h2
 ·exact absurd (vw h2) h
 ·exact .inr (by omega)
theorem AY{n:Nat}{rep:List Int->Bool}: ∀(k f:Nat) (R Q:List Int),Q∈kV rep n k f R->R<+:Q:=by
 intro k
 induction k with
 | zero=>intro f R Q h;simp[kV]at h
 | succ k ih=>
  intro f R Q h;unfold kV at h;cases hrep:rep R
  ·rw[hrep,cond_false,TK]at h;obtain⟨i,_,hq⟩:=h;exact(V3 R [(i:Int)]).trans (ih _ _ _ hq)
  ·rw[hrep,cond_true]at h;cases hm:jI rep R
   ·rw[hm]at h;simp at h
   ·rw[hm]at h;have:Q=R:=by simpa using h
    rw[this];exact WM _
theorem nB{α β:Type}{P:β->β->Prop}{g:α->List β}: ∀{L:List α},(∀x∈L,(g x).Pairwise P)->L.Pairwise (fun x y=> ∀a∈g x,∀b∈g y,P a b)->(L.flatMap g).Pairwise P
 | [],_,_=>by simp
 | x::L,h1,h2=>by
  rw[List.flatMap_cons];have h3:=UI.1 h2;refine Ur.2 ⟨h1 x (by simp),nB (fun y hy=>h1 y (by simp[hy])) h3.2,fun a ha b hb=> ?_⟩;obtain⟨y,hy,hb⟩:=TK.1 hb;exact h3.1 y hy a ha b hb
theorem AZ{n:Nat}{rep:List Int->Bool}: ∀(k f:Nat) (R:List Int),(kV rep n k f R).Pairwise fun a b=>cmpL a b<0:=by
 intro k
 induction k with
 | zero=>intro f R;simp[kV]
 | succ k ih=>
  intro f R;unfold kV;cases rep R
  ·rw[cond_false];refine nB (fun i _=>ih _ _) ((List.pairwise_lt_range' (s:=f) (n:=n - f)).imp fun{i j} hij a ha b hb=> ?_);obtain⟨s,rfl⟩:=AY _ _ _ _ ha;obtain⟨t,rfl⟩:=AY _ _ _ _ hb;rw[TX,TX,tG];show cmpL ((i:Int)::s) ((j:Int)::t)<0;unfold cmpL;rw[if_pos (by omega)];omega
  ·cases jI rep R<;>simp
def mT(w:List Int->Int)(a b:List Int):Prop:=w a<w b\/(w a=w b/\(a.length<b.length\/(a.length=b.length/\cmpL a b<0)))
theorem xt{w:List Int->Int}{a b c:List Int}(h1:mT w a b)(h2:mT w b c):mT w a c:=by
 unfold mT at*;rcases h1 with h1 | ⟨h1,h1' | ⟨h1',h1''⟩⟩<;>rcases h2 with h2 | ⟨h2,h2' | ⟨h2',h2''⟩⟩
 ·left;omega
 ·left;omega
 ·left;omega
 ·left;omega
 ·right;exact⟨by omega,.inl (by omega)⟩
 ·right;exact⟨by omega,.inl (by omega)⟩
 ·left;omega
 ·right;exact⟨by omega,.inl (by omega)⟩
 ·right;exact⟨by omega,.inr ⟨by omega,nc h1'' h2''⟩⟩
theorem KD{w:List Int->Int}{a b:List Int}(h1:mT w a b)(h2:mT w b a):False:=by
 have:=xt h1 h2;unfold mT at this;rw[na]at this;omega
theorem KE{w:List Int->Int}{a b:List Int}(h: ¬mT w a b):a=b\/mT w b a:=by
 unfold mT at*;rcases Int.lt_trichotomy (w a) (w b)with h1 | h1 | h1
 ·exact absurd (.inl h1) h
 ·rcases Nat.lt_trichotomy a.length b.length with h2 | h2 | h2
  ·exact absurd (.inr ⟨h1,.inl h2⟩) h
  ·by_cases e:a=b
   ·exact .inl e
   ·rcases CU e with h3 | h3
    ·exact absurd (.inr ⟨h1,.inr ⟨h2,h3⟩⟩) h
    ·exact .inr (.inr ⟨h1.symm,.inr ⟨h2.symm,h3⟩⟩)
  ·exact .inr (.inr ⟨h1.symm,.inl h2⟩)
 ·exact .inr (.inl h1)
def il(w:List Int->Int)(l:List (List Int))(b:List Int):Prop:=b∈l/\ ∀r∈l,r=b\/mT w b r
theorem il.unique{w:List Int->Int}{l m:List (List Int)}(hlm: ∀x,x∈l↔x∈m){b c:List Int}(h1:il w l b)(h2:il w m c):b=c:=by
 rcases h1.2 c ((hlm c).2 h2.1)with h | h
 ·exact h.symm
 ·rcases h2.2 b ((hlm b).1 h1.1)with h3 | h3
  ·exact h3
  ·exact(KD h h3).elim
theorem yy{w:List Int->Int}: ∀(l done:List (List Int)) (b:List Int),(done++l).Pairwise (fun x y=>cmpL x y<0)->il w done b->il w (done++l) (l.foldl (fun b a=>if w a<w b\/(w a=w b/\a.length<b.length)then a else b) b)
 | [],done,b,_,h=>by simpa using h
 | a::l,done,b,hp,h=>by
  have e:done++a::l=(done++[a])++l:=by simp
  rw[e]at hp⊢;rw[UP];refine yy l (done++[a]) _ hp ?_;have hlt: ∀r∈done,cmpL r a<0:=fun r hr=>(Ur.1 (Ur.1 hp).1).2.2 r hr a (by simp);by_cases hc:w a<w b\/(w a=w b/\a.length<b.length)
  ·rw[if_pos hc];have hk:mT w a b:=by
    unfold mT;rcases hc with hc | hc
    ·exact .inl hc
    ·exact .inr ⟨hc.1,.inl hc.2⟩
   refine⟨by simp,fun r hr=> ?_⟩;rcases TN.1 hr with hr | hr
   ·rcases h.2 r hr with rfl | h3
    ·exact .inr hk
    ·exact .inr (xt hk h3)
   ·exact .inl (TH.1 hr)
  ·rw[if_neg hc];refine⟨T7 _ h.1,fun r hr=> ?_⟩;rcases TN.1 hr with hr | hr
   ·exact h.2 r hr
   ·rw[TH.1 hr];right;have h4:=hlt b h.1;unfold mT;by_cases h5:w b<w a
    ·exact .inl h5
    ·have h6:w b=w a:=by omega
     refine .inr ⟨h6,?_⟩;by_cases h7:b.length<a.length
     ·exact .inl h7
     ·exact .inr ⟨by omega,h4⟩
theorem xu{w:List Int->Int}(lt:List Int->List Int->Bool)(hlt: ∀a b,lt a b=true↔mT w a b): ∀(l done:List (List Int)) (b:List Int),il w done b->il w (done++l) (l.foldl (fun b a=>bif lt a b then a else b) b)
 | [],done,b,h=>by simpa using h
 | a::l,done,b,h=>by
  have e:done++a::l=(done++[a])++l:=by simp
  rw[e,UP];refine xu lt hlt l (done++[a]) _ ?_;cases hc:lt a b
  ·rw[cond_false];refine⟨T7 _ h.1,fun r hr=> ?_⟩;rcases TN.1 hr with hr | hr
   ·exact h.2 r hr
   ·rw[TH.1 hr];exact KE fun h=>by rw[(hlt a b).2 h]at hc;cases hc
  ·have hk:=(hlt a b).1 hc;rw[cond_true];refine⟨by simp,fun r hr=> ?_⟩;rcases TN.1 hr with hr | hr
   ·rcases h.2 r hr with rfl | h3
    ·exact .inr hk
    ·exact .inr (xt hk h3)
   ·exact .inl (TH.1 hr)
def ey(n b:Nat):List Int:=((TU n).filter fun i=>b.testBit i).map fun(i:Nat)=>(i:Int)
theorem yL{n b:Nat}{x:Int}:x∈ey n b↔ ∃i:Nat,x=i/\i<n/\b.testBit i=true:=by
 unfold ey;rw[TF];constructor
 ·rintro⟨i,hi,rfl⟩;rw[Tu,T2]at hi;exact⟨i,rfl,hi⟩
 ·rintro⟨i,rfl,h⟩;exact⟨i,by rw[Tu,T2];exact h,rfl⟩
theorem rH(n b:Nat):ik n (ey n b):=by
 refine⟨?_,fun x hx=> ?_⟩
 ·unfold ey;rw[Vz];exact((List.pairwise_lt_range (n:=n)).filter _).imp fun h=>by omega
 ·obtain⟨i,rfl,h,_⟩:=yL.1 hx;omega
theorem vV(n b:Nat):ey (n+1) b=ey n b++(bif b.testBit n then[(n:Int)]else[]):=by
 unfold ey;rw[List.range_succ,List.filter_append,List.map_append];congr 1;cases h:b.testBit n<;>simp[h]
theorem K9{n b c:Nat}(h: ∀i,i<n->b.testBit i=c.testBit i):ey n b=ey n c:=by
 unfold ey;congr 1;exact List.filter_congr fun i hi=>h i (T2.1 hi)
theorem zz: ∀(n:Nat) {Q:List Int},ik n Q-> ∃b,b<2^n/\ey n b=Q
 | 0,Q,h=>by
  have:Q=[]:=by
   cases Q with
   | nil=>rfl
   | cons x Q=>have:=h.2 x (by simp);omega
  subst this;exact⟨0,by simp,rfl⟩
 | n+1,Q,h=>by
  by_cases hn:(n:Int)∈Q
  ·obtain⟨l,t,rfl⟩:=List.append_of_mem hn;have hp:=Ur.1 h.1;have ht:t=[]:=by
    cases t with
    | nil=>rfl
    | cons y t=>
     have h1:=(UI.1 hp.2.1).1 y (by simp);have h2:=h.2 y (by simp);omega
   subst ht;have hl:ik n l:=⟨hp.1,fun x hx=>⟨(h.2 x (by simp[hx])).1,hp.2.2 x hx n (by simp)⟩⟩;obtain⟨b,hb,rfl⟩:=zz n hl;refine⟨2^n+b,by rw[Nat.pow_succ];omega,?_⟩;have h0:b.testBit n=false:=VF hb;rw[vV,Nat.testBit_two_pow_add_eq,h0,Bool.not_false,cond_true];congr 1;exact K9 fun i hi=>Nat.testBit_two_pow_add_gt hi b
  ·have hl:ik n Q:=⟨h.1,fun x hx=>⟨(h.2 x hx).1,by
    have h1:=(h.2 x hx).2;have h2:x≠n:=fun e=>hn (e▸hx);omega⟩⟩
   obtain⟨b,hb,rfl⟩:=zz n hl;refine⟨b,by rw[Nat.pow_succ];omega,?_⟩;have h0:b.testBit n=false:=VF hb;rw[vV,h0,cond_false,Up]
theorem CV: ∀{a b:List (List Int)},a.Pairwise (fun x y=>cmpL x y<0)->b.Pairwise (fun x y=>cmpL x y<0)->(∀x,x∈a↔x∈b)->a=b
 | [],[],_,_,_=>rfl
 | [],y::b,_,_,h=>by have:=(h y).2 (by simp);simp at this
 | x::a,[],_,_,h=>by have:=(h x).1 (by simp);simp at this
 | x::a,y::b,h1,h2,h=>by
  have p1:=UI.1 h1;have p2:=UI.1 h2;have hxy:x=y:=by
   rcases Tx.1 ((h x).1 (by simp))with e | e
   ·exact e
   ·rcases Tx.1 ((h y).2 (by simp))with e2 | e2
    ·exact e2.symm
    ·have:=nc (p1.1 y e2) (p2.1 x e);rw[na]at this;omega
  subst hxy;congr 1;refine CV p1.2 p2.2 fun z=>⟨fun hz=> ?_,fun hz=> ?_⟩
  ·rcases Tx.1 ((h z).1 (by simp[hz]))with rfl | e
   ·have:=p1.1 z hz;rw[na]at this;omega
   ·exact e
  ·rcases Tx.1 ((h z).2 (by simp[hz]))with rfl | e
   ·have:=p2.1 z hz;rw[na]at this;omega
   ·exact e
open Go.RowKit Go.Shelf Go.Lib
def RdI(w:World)(A:Option Addr)(a:List Int):Prop:= ∀(i:Nat) x,a[i]? =some x-> ∃b o,A=some ⟨b,o,none⟩/\w.cell? ⟨b,o+i,none⟩=some (.int .i64 x)
theorem uL{k:IntKind}{a b:Int}(h:a=b):Ending.returned (.int k a)= .returned (.int k b):=by rw[h]
theorem nN{α:Type}{L:List α}{k:Nat}{x:α}(hx:L[k]? =some x):L.drop k=x::L.drop (k+1):=by
 obtain⟨h,rfl⟩:=Tl.1 hx;exact List.drop_eq_getElem_cons h
theorem q6(x y:Int)(a b:List Int):cmpL (x::a) (y::b)=if x<y then -1 else if y<x then 1 else cmpL a b:=rfl
set_option maxHeartbeats 400000 in
set_option maxRecDepth 100000 in
theorem xr(x:Int)(w:World):Calls Tryz.prog 321 #[.int .i64 x] w fun e w'=>e= .returned (.bool false)/\w'=w:=by
 have h:(x !=x)=false:=by simp
 go_enter Tryz.func321,Tryz.ntmps321
 go_wp2
 go_ret
 exact⟨by simp,rfl⟩
set_option maxHeartbeats 400000 in
set_option maxRecDepth 100000 in
theorem zN(x y:Int)(w:World):Calls Tryz.prog 262 #[.int .i64 x,.int .i64 y] w fun e w'=>e= .returned (.int .i64 (if x<y then -1 else if y<x then 1 else 0))/\w'=w:=by
 by_cases h1:x<y
 ·rw[if_pos h1]
  go_enter Tryz.func262,Tryz.ntmps262
  go_wp2_with (go_at_call 321;refine(xr _ _).mono ?_;rintro e w' ⟨rfl,rfl⟩)
  go_ret
  exact⟨rfl,rfl⟩
 ·by_cases h2:y<x
  ·rw[if_neg h1,if_pos h2]
   go_enter Tryz.func262,Tryz.ntmps262
   go_wp2_with (go_at_call 321;refine(xr _ _).mono ?_;rintro e w' ⟨rfl,rfl⟩)
   go_ret
   exact⟨rfl,rfl⟩
  ·rw[if_neg h1,if_neg h2]
   go_enter Tryz.func262,Tryz.ntmps262
   go_wp2_with (go_at_call 321;refine(xr _ _).mono ?_;rintro e w' ⟨rfl,rfl⟩)
   go_ret
   exact⟨rfl,rfl⟩
set_option maxHeartbeats 4000000 in
set_option maxRecDepth 100000 in
theorem Gr(A B:Option Addr)(n m c c':Nat)(a b:List Int)(w:World)(ha:RdI w A a)(hb:RdI w B b)(hn:a.length=n)(hm:b.length=m)(hnl:n<=9223372036854775807)(_hml:m<=9223372036854775807):
  Calls Tryz.prog 263 #[.slice A n c,.slice B m c'] w fun e w'=>e= .returned (.int .i64 (cmpL a b))/\w'=w:=by
 have HA:=Lib.hid ha;have HB:=Lib.hid hb;clear ha hb
 go_enter Tryz.func263,Tryz.ntmps263
 go_wp2
 go_loopw [11] (fun ii wr=>wr=w/\ ∃k:Nat,(k<=n/\k<=m)/\ii= .int .i64 k/\Hid (cmpL (a.drop k) (b.drop k)=cmpL a b)) (fun ii _=>n -(RowKit.intOf ii).toNat)
 case atStart=>exact⟨rfl,0,⟨Ul _,Ul _⟩,rfl,by simp[Hid]⟩
 case round=>
  obtain⟨rfl,k,⟨hk,hkm⟩,rfl,H⟩:=hrel;by_cases hlt:k<n
  ·obtain⟨x,hx⟩: ∃x,a[k]? =some x:=⟨a[k]'(by omega),Tk _⟩;obtain⟨b1,o1,rfl,c1⟩:=HA.out k x hx;have Hx:=Lib.hid hx;clear hx;by_cases hlm:k<m
   ·obtain⟨y,hy⟩: ∃y,b[k]? =some y:=⟨b[k]'(by omega),Tk _⟩;obtain⟨b2,o2,rfl,c2⟩:=HB.out k y hy;have Hy:=Lib.hid hy;clear hy;rcases Int.lt_trichotomy x y with h1 | h1 | h1
    ·have hc:=fun W=>zN x y W;rw[if_pos h1]at hc
     go_wp2_with (go_at_call 262;refine(hc _).mono ?_;rintro e w' ⟨rfl,rfl⟩)
     go_ret
     exact⟨uL (by rw[<-H.out,nN Hx.out,nN Hy.out,q6,if_pos h1]),rfl⟩
    ·subst h1;have hc:=fun W=>zN x x W;rw[if_neg (by omega),if_neg (by omega)]at hc
     go_wp2_with (go_at_call 262;refine(hc _).mono ?_;rintro e w' ⟨rfl,rfl⟩)
     clear hc;have h:=H.out;rw[nN Hx.out,nN Hy.out,q6,if_neg (by omega),if_neg (by omega)]at h;have hk1:k+1<=n/\k+1<=m:=⟨by omega,by omega⟩;have hm1:n -(k+1)<n - k:=by omega
     clear Hx Hy HA HB H c1 c2;refine⟨⟨by first | trivial | rfl,k+1,hk1,by go_num,?_⟩,?_⟩
     ·exact h
     ·simp[RowKit.intOf];omega
    ·have hc:=fun W=>zN x y W;rw[if_neg (by omega),if_pos h1]at hc
     go_wp2_with (go_at_call 262;refine(hc _).mono ?_;rintro e w' ⟨rfl,rfl⟩)
     go_ret
     exact⟨uL (by rw[<-H.out,nN Hx.out,nN Hy.out,q6,if_neg (by omega),if_pos h1]),rfl⟩
   ·go_wp2
    go_ret
    exact⟨uL (by rw[<-H.out,nN Hx.out,show b.drop k=[]from UL (by omega)];rfl),rfl⟩
  ·have hkn:k=n:=by omega
   have h:=H.out;rw[show a.drop k=[]from UL (by omega)]at h;by_cases hlm:n<m
   ·obtain⟨y,hy⟩: ∃y,b[k]? =some y:=⟨b[k]'(by omega),Tk _⟩;rw[nN hy]at h;clear hy;have HH:=Lib.hid h;clear h
    go_wp2
    go_ret
    exact⟨uL HH.out,rfl⟩
   ·rw[show b.drop k=[]from UL (by omega)]at h;have HH:=Lib.hid h;clear h
    go_wp2
    go_ret
    exact⟨uL HH.out,rfl⟩
def qT(L:List (List Int)):Array Nat:=Sort.pdq (ltOf fun i j:Nat=>cmpL (L.getD i []) (L.getD j [])) (VV L.length) 0 L.length (Lib.bitLen L.length) true true
def n3(L:List (List Int)):List (List Int):=(qT L).toList.map fun i=>L.getD i []
theorem L8(L:List (List Int)):Sort.SWO (ltOf fun i j:Nat=>cmpL (L.getD i []) (L.getD j [])):=by
 refine⟨fun i=> ?_,fun i j k h1 h2=> ?_,fun i j k h1 h2=> ?_⟩
 ·simp only[ltOf,na];rfl
 ·simp only[ltOf,decide_eq_true_eq]at h1 h2⊢;exact nc h1 h2
 ·simp only[ltOf,decide_eq_false_iff_not]at h1 h2⊢;intro h3;have s1:=vv (L.getD i []) (L.getD j []);have s2:=vv (L.getD j []) (L.getD k []);by_cases e1:cmpL (L.getD i []) (L.getD j [])=0
  ·rw[<-vw e1]at h2;exact h2 h3
  ·by_cases e2:cmpL (L.getD j []) (L.getD k [])=0
   ·rw[vw e2]at h1;exact h1 h3
   ·have h4:cmpL (L.getD k []) (L.getD j [])<0:=by omega
    have h5:cmpL (L.getD j []) (L.getD i [])<0:=by omega
    have:=nc h3 (nc h4 h5);rw[na]at this;omega
theorem uQ(L:List (List Int)):(qT L).size=L.length/\(qT L).toList.Perm (TU L.length)/\ ∀i j,i<j->j<L.length-> ¬cmpL (L.getD (qT L)[j]! []) (L.getD (qT L)[i]! [])<0:=by
 have h:=Sort.pdq_sorts (ltOf fun i j:Nat=>cmpL (L.getD i []) (L.getD j [])) (L8 L) (VV L.length) 0 L.length (Lib.bitLen L.length) true true (Ul _) (by simp) (.inl rfl);obtain⟨⟨h1,_,h2⟩,h3⟩:=h;rw[Array.size_range]at h1;refine⟨h1,?_,fun i j hij hj=> ?_⟩
 ·have e1: ∀d:Array Nat,d.size=L.length->d.extract 0 L.length=d:=fun d hd=>by
   rw[<-hd];simp
  rw[e1 _ h1,e1 _ (by simp),Array.toList_range]at h2;exact h2
 ·have:=h3 i j (Ul _) hij hj;unfold ltOf at this;rw[decide_eq_false_iff_not]at this;exact this
theorem nn(L:List (List Int)):(n3 L).Perm L:=by
 have h:=(uQ L).2.1.map fun i=>L.getD i [];have e:(TU L.length).map (fun i=>L.getD i [])=L:=by
  apply List.ext_getElem
  ·simp
  ·intro i h1 h2;simp[TL,Tk h2]
 rw[e]at h;exact h
theorem AH(L:List (List Int)):(n3 L).length=L.length:=(nn L).length_eq
theorem G6(L:List (List Int)):(n3 L).Pairwise fun a b=> ¬cmpL b a<0:=by
 obtain⟨h1,_,h3⟩:=uQ L;unfold n3;rw[Vz,List.pairwise_iff_getElem];intro i j hi hj hij;rw[TB]at hi hj;have:=h3 i j hij (by omega);rw[getElem!_pos (qT L) i hi,getElem!_pos (qT L) j hj]at this;simpa using this
def aU(L:List (List Int)):Option (List (List Int)):=if L.length<=1000000000 then some (n3 L)else none
theorem Q7{w:World}{S:Nat->Prop}{l:List Int}{v:Value}(h:TV w S (.sl l.length (l.map (eI .i64))) v): ∃A c,v= .slice A l.length c/\RdI w A l/\l.length<=maxLen/\(∀b,(∃o,A=some ⟨b,o,none⟩)->l≠[]->S b):=by
 generalize hes:l.map (eI .i64)=es at h;generalize hn:l.length=n at h;cases h with
 | sl es A n c m u hl hc hm he hu ha=>
  refine⟨A,c,rfl,fun i x hx=> ?_,by omega,fun b ⟨o,hA⟩ hne=> ?_⟩
  ·have hxe:es[i]? =some (eI .i64 x):=by rw[<-hes,Tq,hx];rfl
   have hne:es≠[]:=by rintro rfl;simp at hxe
   obtain⟨b,o,hA,_,hcell⟩:=ha hne;have hm1:m=1:=by
    have:=he _ (Tm hxe);simpa [eI]using this.symm
   subst hm1;have h1:=hcell i _ 0 _ hxe rfl;have h2:=hu i _ 0 _ hxe rfl;generalize u i 0=q at h1 h2;cases h2;exact⟨b,o,hA,by simpa using h1⟩
  ·have hne2:es≠[]:=by rw[<-hes];simpa using hne
   obtain⟨b',o',hA',hS,_⟩:=ha hne2;rw[hA']at hA;injection hA with hA;injection hA with hA;rw[<-hA];exact hS
theorem Iy(xs:List Value)(j:Nat)(h:j<xs.length):xs.getD j (.slice none 0 0)=xs[j]:=by
 simp[TL,Tk h]
theorem G9{ρ:Ren}(Ly:SlLaysF.n6 Tryz.prog ρ)(hk:ρ.f 6=318)(e:Nat)(eg:dH Tryz.prog 263)(L r:List (List Int))(h:aU L=some r):
  eG Tryz.prog 318 [.o (oa e 1 (eL (eI .i64)) L),.v (.clo 263 [])] ⟨[],[(0,oa e 1 (eL (eI .i64)) r)],false⟩:=by
 unfold aU at h;split at h
 ·rename_i hlen;injection h with h;subst h;intro w S vs hn hS hv ho hap hgl;obtain⟨v0,v1,rfl⟩: ∃v0 v1,vs= #[v0,v1]:=⟨vs.getD 0 undef,vs.getD 1 undef,by
   simp at hn;apply Array.ext
   ·simp[hn]
   ·intro i h1 h2;have:i=0\/i=1:=by omega
    rcases this with rfl | rfl<;>simp[Array.getD,h1]⟩
  have h1v:=hv 1 _ v1 rfl rfl;obtain⟨hc,hobj,hft⟩:=ho 0 _ v0 rfl rfl;have hv1:v1= .func (.func 263) #[] #[]:=by
   cases h1v with
   | clo f caps us hl hh=>
    have:us= #[]:=Array.eq_empty_of_size_eq_zero (by simpa using hl.symm);rw[this]
  subst hv1;unfold oa at hobj hft;generalize hes:L.map (eL (eI .i64))=es at hobj hft;generalize hln:L.length=n at hobj hft;cases hobj with
  | arr _ _ _ _ v xs hn2 hown he hh=>
   have hxl:xs.length=n:=by rw[hown.1];omega
   have hat: ∀(i:Nat) (hi:i<n),TV w S (.sl (L.getD i []).length ((L.getD i []).map (eI .i64))) (xs.getD i (.slice none 0 0)):=fun i hi=>by
    have h3:es[i]? =some (eL (eI .i64) (L.getD i [])):=by
     rw[<-hes,Tq,Tk (by omega)];simp[TL,Tk (show i<L.length by omega)]
    have h4:xs[i*1+0]? =some (xs.getD i (.slice none 0 0)):=by
     rw[VG,Uw,Iy xs i (by omega),Tk]
    exact hh i _ 0 _ _ h3 rfl h4
   rw[<-hk];rcases hown.2 with⟨rfl,h0⟩ | ⟨g,cap,cur,rfl,_,hg,hcap,hmax,hcs,hcur⟩
   ·have hL:L=[]:=UJ.1 (by omega);subst hL;refine(AnyF.slices_SortFunc_none (P:=Tryz.prog) (ρ:=ρ) {Ly with} none 0 _ w).mono fun en w' hw=> ?_;obtain⟨rfl,rfl⟩:=hw;have e0:n3 []=[]:=UJ.1 (AH []);rw[e0];refine⟨_,fun _=>False,rfl,dA.refl _ _,fun b hb=>hb.elim,fun b hb=>hb.elim,⟨#[],rfl,rfl,fun i r u hr=>by simp at hr⟩,fun j x u hj hu=> ?_⟩;simp only[TH,Prod.mk.injEq]at hj;obtain⟨rfl,rfl⟩:=hj;have:u= .slice none 0 0:=by simpa using hu.symm
    subst this;exact⟨.arr _ _ _ _ _ [] rfl ⟨rfl,.inl ⟨rfl,rfl⟩⟩ (by simp) (fun i x j t u h1=>by simp at h1),fun g hg=>by cases hg⟩
   ·have hlt:g<w.heap.size:=(Array.getElem?_eq_some_iff.1 hg).1;have hgS: ¬S g:=hft g rfl;have hone:OneCell (fun i:Nat=>xs.getD i (.slice none 0 0)):=fun i=>by
     by_cases hi:i<n
     ·exact Hk (hat i hi)
     ·have:xs.getD i (.slice none 0 0)= .slice none 0 0:=by
       rw[TL,UZ (by omega)];rfl
      show(xs.getD i (.slice none 0 0)).oneCell'=true;rw[this];rfl
    have hH:Sort.Holds (fun i:Nat=>xs.getD i (.slice none 0 0)) w g 0 (VV n):=fun j hj=>by
     have hj':j<n:=by simpa using hj
     have h6:(VV n)[j]! =j:=by
      rw[getElem!_pos (VV n) j hj];simp
     have h5:cur[j]? =some (xs.getD j (.slice none 0 0)):=by
      rw[<-Array.getElem?_toList,<-List.getElem?_take_of_lt (show j<n*1 by omega),hcur,Iy xs j (by omega),Tk]
     rw[h6];constructor
     ·unfold World.cell?;rw[hg,Nat.zero_add];exact h5
     ·unfold World.frozen?;rw[hg];simp
    have hcmp:CmpLays1 Tryz.prog 263 #[] (fun i:Nat=>xs.getD i (.slice none 0 0)) (fun i j=>cmpL (L.getD i []) (L.getD j [])) g 0 (VV n).size w:=fun m os dk hdk i j=>by
     have hrd: ∀i:Nat,∃A c,xs.getD i (.slice none 0 0)= .slice A (L.getD i []).length c/\RdI (sortWorld (fun i:Nat=>xs.getD i (.slice none 0 0)) w g 0 m dk os) A (L.getD i [])/\(L.getD i []).length<=maxLen:=fun i=>by
      by_cases hi:i<n
      ·obtain⟨A,c,h1,h2,h3,h4⟩:=Q7 (hat i hi);refine⟨A,c,h1,fun q x hq=> ?_,h3⟩;obtain⟨b,o,hA,hb⟩:=h2 q x hq;refine⟨b,o,hA,?_⟩;have hSb:=h4 b ⟨o,hA⟩ (by rintro hnil;rw[hnil]at hq;simp at hq);rw[cell?_sortWorld_other _ w g 0 m dk os ⟨b,o+q,none⟩ (fun e2=>hgS (e2▸hSb)) (hS b hSb)];exact hb
      ·have e1:xs.getD i (.slice none 0 0)= .slice none 0 0:=by
        rw[TL,UZ (by omega)];rfl
       have e2:L.getD i []=[]:=by
        rw[TL,UZ (by omega)];rfl
       rw[e1,e2];exact⟨none,0,rfl,fun q x hq=>by simp at hq,by simp⟩
     obtain⟨A,c,a1,a2,a3⟩:=hrd i;obtain⟨B,c',b1,b2,b3⟩:=hrd j;show Calls _ _ (#[xs.getD i (.slice none 0 0),xs.getD j (.slice none 0 0)]++ #[]) _ _;rw[a1,b1,Array.append_empty];unfold maxLen at a3 b3;refine(Gr A B _ _ c c' _ _ _ a2 b2 rfl rfl (by omega) (by omega)).mono fun en w' hw=> ?_;exact⟨hw.1,0, #[],by rw[hw.2];exact(Sort.grow_empty _).symm⟩
    have key:=Any.slices_SortFunc_eq Ly (fun i:Nat=>xs.getD i (.slice none 0 0)) hone (fun i j=>cmpL (L.getD i []) (L.getD j [])) (L8 L) 263 #[] g 0 cap (VV n) w eg hcmp hH hlt (by simp;omega);rw[Array.size_range]at key;refine key.mono fun en w' hw=> ?_;obtain⟨rfl,q,os,hw⟩:=hw;obtain⟨s1,s2,s3⟩:=uQ L;have hix:Sort.pdq (ltOf fun i j:Nat=>cmpL (L.getD i []) (L.getD j [])) (VV n) 0 n (Lib.bitLen n) true true=qT L:=by
     unfold qT;rw[hln]
    rw[hix]at hw;obtain⟨hrow,hgr⟩:=G4 (fun i:Nat=>xs.getD i (.slice none 0 0)) (n:=n) (m:=n) hg hcap hmax hcs (qT L) (by rw[s1,hln]) (TA _) q os hw;have hkeep: ∀b,S b->w'.heap[b]? =w.heap[b]? :=fun b hb=>hgr.block b (hS b hb) fun e2=>hgS (by injection e2 with e2;rw[e2];exact hb);refine⟨_,fun _=>False,rfl,⟨hgr.os,hgr.tape,hgr.output,hgr.size,fun b hb hx=>hgr.block b hb fun e2=>hx ⟨0,_,_,rfl,rfl,e2⟩⟩,fun b hb=>hb.elim,fun b hb=>hb.elim,⟨#[],rfl,rfl,fun i r u hr=>by simp at hr⟩,fun j x u hj hu=> ?_⟩;simp only[TH,Prod.mk.injEq]at hj;obtain⟨rfl,rfl⟩:=hj;have:u= .slice (some ⟨g,0,none⟩) n cap:=by simpa using hu.symm
    subst this;have e6:(n3 L).length=n:=by rw[AH,hln]
    unfold oa;rw[e6];refine⟨.arr _ _ _ _ _ _ (by rw[List.length_map,e6]) hrow (fun x hx=> ?_) (fun i x j t u h1 h2 h3=> ?_),fun g' hg'=>⟨fun h=>h,0,_,_,rfl,rfl,hg'⟩⟩
    ·obtain⟨y,_,rfl⟩:=TF.1 hx;rfl
    ·rw[Tq,Tn]at h1;obtain⟨y,hy,rfl⟩:=h1;unfold n3 at hy;rw[Tq,Tn]at hy;obtain⟨ix,hix2,rfl⟩:=hy;have hixn:ix<n:=by
      have:=s2.mem_iff.1 (Tm hix2);rw[T2,hln]at this;exact this
     cases j with
     | zero=>
      injection h2 with h2;subst h2;rw[VG,Uw,List.take_of_length_le (by rw[TB,s1,hln];exact TA _),Tq,hix2]at h3;injection h3 with h3;subst h3;exact(hat ix hixn).keep hkeep fun _ h=> .inl h
     | succ j=>cases h2
 ·cases h
def tg(s sep:ByteArray):ByteArray×ByteArray×Bool:=(⟨(Lib.cut s.data.toList sep.data.toList).1.toArray⟩,⟨(Lib.cut s.data.toList sep.data.toList).2.1.toArray⟩,(Lib.cut s.data.toList sep.data.toList).2.2)
theorem ra(s sep:ByteArray):(tg s sep).1.size<=s.size/\(tg s sep).2.1.size<=s.size:=by
 have h4:s.data.toList.length=s.size:=by rw[TB];rfl
 have:((Lib.cut s.data.toList sep.data.toList).1.length<=s.size)/\(Lib.cut s.data.toList sep.data.toList).2.1.length<=s.size:=by
  unfold Lib.cut;split
  ·exact⟨by rw[List.length_take];omega,by rw[List.length_drop];omega⟩
  ·exact⟨by simp only;omega,by simp⟩
 exact⟨by show(List.toArray _).size<=_;rw[Uk];exact this.1,by show(List.toArray _).size<=_;rw[Uk];exact this.2⟩
def strings_Cut(s sep:ByteArray):Option (ByteArray×ByteArray×Bool):=bif decide (s.size<4294967281)then some (tg s sep)else none
theorem J1(w:World)(n:Nat):Below w.heap.size w (w.drewN n):=⟨rfl,rfl,rfl,TA _,fun _ _=>rfl⟩
theorem Mq(s sep:ByteArray)(r:ByteArray×ByteArray×Bool)(h:strings_Cut s sep=some r):eG Tryz.prog 244 [.v (.tr (.str s)),.v (.tr (.str sep))] ⟨[.v (.tr (.str r.1)),.v (.tr (.str r.2.1)),.v (.tr (.bool r.2.2))],[],false⟩:=by
 unfold strings_Cut at h;cases hb:decide (s.size<4294967281)
 ·rw[hb]at h;cases h
 ·rw[hb]at h;injection h with h;subst h;have hs:s.size<4294967281:=by simpa using hb
  have hz:=ra s sep;refine y6 [.str s,.str sep] (by simp[Tr.flat]) (.str (tg s sep).1) (.str (tg s sep).2.1) [.bool (tg s sep).2.2] (by simp[Tr.flat]) (by simp[Tr.small,maxLen];omega) fun w S hgl=> ?_;obtain⟨_,_,m,hm⟩:=hgl.2.2.2 1 (by unfold ints;simp);exact(Any.strings_Cut Tryz.LL.ton145 s sep m w hs hm).mono fun e w' ⟨he,n,hw⟩=>⟨by rw[he];rfl,by rw[hw];exact J1 w n⟩
def ct(n:Int):Option ByteArray:=if -9223372036854775808<=n/\n<=9223372036854775807 then some ⟨(Lib.itoa n).toArray⟩else none
theorem Ew(n:Int)(r:ByteArray)(h:ct n=some r):eG Tryz.prog 134 [.v (.tr (.int .i64 n))] ⟨[.v (.tr (.str r))],[],false⟩:=by
 unfold ct at h;split at h
 ·rename_i hh;injection h with h;subst h;have hs:(⟨(Lib.itoa n).toArray⟩:ByteArray).size<=maxLen:=by
   have:=Lib.itoa_length_le n hh.1 hh.2;show(Lib.itoa n).toArray.size<=maxLen;rw[Uk];unfold maxLen;omega
  intro w S vs hn hS hv _ _ hgl;rw[vA (ts:=[.int .i64 n]) (by simp[Tr.flat]) (by simpa using hn) hv];obtain⟨_,_,t0,x0,e0⟩:=hgl.2.2.1 (4,_) (by unfold Q3;exact TH.2 rfl);have htab:Lib.TabIs Tryz.prog w "internal/strconv.uint64pow10" .u64 Lib.pow10Tab:=by
   unfold Lib.TabIs World.var?;rw[show Tryz.prog.globalNamed "internal/strconv.uint64pow10" =some 4 by kernel_rfl,Option.bind_some,e0];rfl
  refine(wM n hh.1 hh.2 w htab).mono fun e w' h=> ?_;obtain⟨rfl,hb⟩:=h;exact⟨_,fun _=>False,rfl,dA.pH hb _,fun b hb=>hb.elim,fun b hb=>hb.elim,⟨rfl,.tr _ _ (Hm (t:= .str ⟨(Lib.itoa n).toArray⟩) rfl hs)⟩,fun j x u hj=>by simp at hj⟩
 ·cases h
theorem HG:Builder.Extra Tryz.prog Tryz.uE:={sizeBuilder:=by kernel_rfl,liesBuilder:=by kernel_rfl,t5:=by kernel_rfl,a5:=run_isAgg_plain (show Tryz.prog.underlying (Tryz.uE.t 5)=some (.int .u8) by kernel_rfl) rfl,z5:=fun w=>by kernel_rfl,v5:=fun w=>by kernel_rfl,infoByte:=by kernel_rfl,cellsByte:=by kernel_rfl,sizeByte:=by kernel_rfl,neB5:=by decide}
def ee(L:List ByteArray)(c:ByteArray):ByteArray:=⟨(Lib.join (L.map (·.data.toList)) c.data.toList).toArray⟩
def strings_Join(L:List ByteArray)(c:ByteArray):Option ByteArray:=if L.length<=1000000/\(ee L c).size<=1000000000 then some (ee L c)else none
theorem KC(L:List ByteArray)(c r:ByteArray)(h:strings_Join L c=some r):eG Tryz.prog 150 [.v (.tr (.sl L.length (L.map eS))),.v (.tr (.str c))] ⟨[.v (.tr (.str r))],[],false⟩:=by
 unfold strings_Join at h;split at h
 ·rename_i hh;injection h with h;subst h;intro w S vs hn hS hv _ _ _;obtain⟨v0,v1,rfl⟩: ∃a b,vs= #[a,b]:=⟨vs.getD 0 undef,vs.getD 1 undef,by
   simp at hn;apply Array.ext
   ·simp[hn]
   ·intro i h1 h2;have:i=0\/i=1:=by omega
    rcases this with rfl | rfl<;>simp[Array.getD,hn]⟩
  have h0:=hv 0 _ v0 rfl rfl;have h1:=hv 1 _ v1 rfl rfl;cases h1 with
  | tr _ _ h1=>
  cases h1;have hlen:(Lib.join (L.map (·.data.toList)) c.data.toList).length<=140737488355328:=by
   have:=hh.2;unfold ee at this;have h5:(⟨(Lib.join (L.map (·.data.toList)) c.data.toList).toArray⟩:ByteArray).size=(Lib.join (L.map (·.data.toList)) c.data.toList).length:=Uk ..;omega
  have key:Calls Tryz.prog 150 #[v0,.string c] w fun e w'=>e= .returned (.string (ee L c))/\Below w.heap.size w w':=by
   cases h0 with
   | tr _ _ h0=>
   rcases hL:L with _ | ⟨x0,L'⟩
   ·subst hL;cases h0 with
    | sl es A n cc m u hl hc hmx he hu ha=>exact(Any.strings_Join_none Tryz.LM HG A cc c w).mono fun e w' ⟨h1,h2⟩=>⟨by rw[h1];rfl,h2▸Below.refl _ _⟩
   ·rw[<-hL];have hne:L.map eS≠[]:=by rw[hL];simp
    generalize hln:L.length=n at h0;generalize hes:L.map eS=es at h0 hne;cases h0 with
    | sl es A n cc m u hl hc hmx he hu ha=>
     obtain⟨b,o,rfl,hb,hcell⟩:=ha hne;have hget: ∀(j:Nat) x,L[j]? =some x->es[j]? =some (eS x):=fun j x hx=>by rw[<-hes,Tq,hx];rfl
     have hm:m=1:=by
      have h3:=he (eS x0) (by rw[<-hes,hL];simp);rw[<-h3];rfl
     subst hm hln;refine Any.strings_Join Tryz.LM HG b o cc L c w (fun j x hx=> ?_) (hS b hb) (by omega) hc hlen;have h3:=hcell j _ 0 _ (hget j x hx) rfl;have h4:=hu j _ 0 _ (hget j x hx) rfl;rw[VG,Uw]at h3;rw[h3];generalize u j 0=z at h4;cases h4;rfl
  refine key.mono fun e w' h=> ?_;obtain⟨rfl,hb⟩:=h;exact⟨_,fun _=>False,rfl,dA.pH hb _,fun b hb=>hb.elim,fun b hb=>hb.elim,⟨rfl,.tr _ _ (Hm (t:= .str (ee L c)) rfl (by have:=hh.2;unfold Tr.small maxLen;omega))⟩,fun j x u hj=>by simp at hj⟩
 ·cases h
section
variable {P : Program} {tb : Tb} {c : Cx} {S : Nat -> Prop} {β : Nat -> Value} {σ : SS} {a : Act} {w : World} {ops : Array Oper} {o : Oper}
def LW(l:List Int)(i:Nat):Int:=l.getD i 0
def Mg(n:Nat)(i:Int):Option Unit:=if 0<=i/\i<n then some ()else none
theorem Le.PM{d j k:Nat}{cs:List SV}(hf:find d σ.o=some (.box cs))(hj:cs[j]? =some (.own k)):Le σ {σ with o:=(d,.box (cs.set j .any))::σ.o.filter (fun p=>p.1 !=d)}:=by
 intro c a w ⟨S,β,hr⟩;have hm:=aJ hf;have ho:=hr.obj d _ hm;generalize hb:β d=b at ho;cases ho with
 | box cs g vs T hg hl h=>
  have hnew:cP w S β (.box (cs.set j .any)) (.pointer (some ⟨g,0,none⟩)):= .box _ g vs T hg (by rw[List.length_set];exact hl) fun i x v hx hv=>by
   by_cases hij:j=i
   ·subst hij;rw[List.getElem?_set_self (Tl.1 hj).1]at hx;injection hx with hx;subst hx;have:=h j _ v hj hv;cases this with
    | own k=>exact .any _ (hr.one k)
   ·rw[List.getElem?_set_ne hij]at hx;exact h i x v hx hv
  exact hr.view hm (by rw[hb];exact hnew) fun g' hg'=>hg'
theorem rA(hP:bm P tb){t g:Nat}(ho:o.op= .slice t (.global g) none none none){ν:SS}(hgd:gd ops ν o=some true)(hok:kf ν o=true){L:List ByteArray}(hp:(g,L.map Value.string)∈pins){n e:Nat}{ti tj:TI}
  (ht:find t tb=some ti) (hd:ti.d= .array n e) (hj:find e tb=some tj) (hn:L.length=n) (hs0:L.all (fun s=>decide (s.size<=maxLen))=true) (hm0:Nat.ble n maxLen=true):bN P ops o ν (some (.tr (.sl n (L.map eS)),none)):=by
 have hs: ∀s∈L,s.size<=maxLen:=fun s h=>of_decide_eq_true (Tt.1 hs0 s h);have hm:n<=maxLen:=Nat.le_of_ble_eq_true hm0;refine cg hgd hok fun c S β a w hr=> ?_;obtain⟨h1,h2,h3⟩:=hr.xj.1 _ hp;have hu:=(bc hP ht).array hd;have hrun:(Instr.sliceAt t (.pointer (some ⟨g,0,none⟩)) none none none).run P w= .ok (.slice (some ⟨g,0,none⟩) n n) w:=by
  have hb:=xA (P:=P) hr false (n:=n) (cap:=n) (lo:=none) (hi:=none) (l:=0) (h:=n) rfl rfl (by omega) (by omega) (Int.le_refl _) (TA _);simp only[Option.map_none]at hb;simp only[Instr.sliceAt,Sem.run_bind,run_underlying hu,Result.andThen_ok,Instr.sureAddr,Sem.run_pure,hb,(bc hP hj).size];simp[Addr.add]
 refine .mk (s:=Instr.sliceAt t (.pointer (some ⟨g,0,none⟩)) none none none) (by simp only[execOp,ho];rfl) hrun (.tr _ _ ?_);refine .sl (L.map eS) _ n n 1 (fun i _=> .string (L.getD i ⟨#[]⟩)) (by simpa using hn) (TA _) hm (fun x hx=> ?_) (fun i x j u hi hj=> ?_) fun _=>⟨g,0,rfl,h1,fun i x j u hi hj=> ?_⟩
 ·obtain⟨y,_,rfl⟩:=TF.1 hx;rfl
 ·rw[Tq,Tn]at hi;obtain⟨y,hy,rfl⟩:=hi;cases j with
  | zero=>
   injection hj with hj;subst hj;rw[TL,hy];exact .str y (hs y (Tm hy))
  | succ j=>cases hj
 ·rw[Tq,Tn]at hi;obtain⟨y,hy,rfl⟩:=hi;cases j with
  | zero=>
   have:=h3 i (.string y) (by rw[Tq,hy];rfl);rw[TL,hy,show 0+i*1+0=i by omega];exact this
  | succ j=>cases hj
theorem yF(hP:bm P tb){t:Nat}{x y:Operand}{i:Int}{u:Unit}(ho:o.op= .indexAddr t x y){ν:SS}{d q n e m:Nat}{k:IntKind}{ti tj:TI}(h:Mg n i=some u)(hgd:gd ops ν o=some true:=by kernel_rfl)(hok:kf ν o=true:=by kernel_rfl)(ht:find t tb=some ti:=by kernel_rfl)(hd:ti.d= .array n e:=by kernel_rfl)(he:find e tb=some tj:=by kernel_rfl)(hm:tj.size=m:=by kernel_rfl)(hx:ev ν x=some (.ref d q):=by kernel_rfl)(hy:ev ν y=some (.tr (.int k i)):=by kernel_rfl):bN P ops o ν (some (.ref d (q+i.toNat*m),none)):=by
 unfold Mg at h;split at h
 ·rename_i hh;refine cg hgd hok fun c S β a w hr=>wY hP hr ho ?_;simp only[vop,ht,hx,hy,hd,he,if_pos hh,hm,DL]
 ·cases h
def PS(n q:Nat):Option Unit:=if q<n then some ()else none
theorem Dz(hP:bm P tb){t:Nat}{x:Operand}(ho:o.op= .load t x){ν:SS}{d q:Nat}(L:List Int){k:IntKind}{ti:TI}{u:Unit}(h:PS L.length q=some u)(hl: ∀(cs:List SV) (q:Nat),ldc ti cs q=cs[q]?)(hgd:gd ops ν o=some true:=by kernel_rfl)(hok:kf ν o=true:=by kernel_rfl)(ht:find t tb=some ti:=by kernel_rfl)(hx:ev ν x=some (.ref d q):=by kernel_rfl)(hob:find d ν.o=some (.box (L.map fun n=> .tr (.int k n))):=by kernel_rfl):bN P ops o ν (some (.tr (.int k (LW L q)),none)):=by
 unfold PS at h;split at h
 ·rename_i hh;refine cg hgd hok fun c S β a w hr=>JR hP hr ho ?_;simp only[vop,ht,hx,hob,hl,Tq,Tk hh,Option.map_some,LW,TL,Option.getD_some]
 ·cases h
theorem rz(hP:bm P tb){t g:Nat}{y:Operand}(ho:o.op= .indexAddr t (.global g) y){ν:SS}{L:List ByteArray}{x:ByteArray}{i:Int}{k:IntKind}(h:at' L i=some x)(hp:(g,L.map Value.string)∈pins){n e:Nat}{ti tj:TI}(hgd:gd ops ν o=some true:=by kernel_rfl)(hok:kf ν o=true:=by kernel_rfl)
  (ht:find t tb=some ti:=by kernel_rfl) (hd:ti.d= .array n e:=by kernel_rfl) (hj:find e tb=some tj:=by kernel_rfl) (hsz:tj.size=1:=by kernel_rfl) (hn:L.length=n:=by kernel_rfl) (hs0:L.all (fun s=>decide (s.size<=maxLen))=true:=by kernel_rfl) (hy:ev ν y=some (.tr (.int k i)):=by kernel_rfl):bN P ops o ν (some (.ptr [.tr (.str x)] 0,none)):=by
 have hs: ∀s∈L,s.size<=maxLen:=fun s h=>of_decide_eq_true (Tt.1 hs0 s h);obtain⟨h4,h5⟩:=qb h;have hlt:i.toNat<L.length:=(Tl.1 h5).1;refine cg hgd hok fun c S β a w hr=> ?_;obtain⟨h1,h2,h3⟩:=hr.xj.1 _ hp;have hu:=(bc hP ht).array hd;have hw:=bD hr hy;generalize hy2:a.eval y=y2 at hw;cases hw with
 | tr _ _ hw=>cases hw with
  | int k i=>
   refine .mk (s:=Instr.indexAt t (.pointer (some ⟨g,0,none⟩)) (.int k i)) (u:= .pointer (some ⟨g,0+i.toNat,none⟩)) (by simp only[execOp,ho,hy2];rfl) (by simp[Instr.indexAt,Instr.sureAddr,asIntOf,run_underlying hu,h4,(show i<n by omega),(bc hP hj).size,hsz,Addr.add];try omega) ?_;have:=cT.ptr (w:=w) (S:=S) (β:=β) [.tr (.str x)] 0 g i.toNat (fun _=> .string x) h1 (fun j c hj=> ?_) fun j c hj=> ?_
   ·simpa using this
   ·cases j with
    | zero=>injection hj with hj;subst hj;exact .tr _ _ (.str x (hs x (Tm h5)))
    | succ j=>cases hj
   ·cases j with
    | zero=>exact h3 i.toNat (.string x) (by rw[Tq,h5];rfl)
    | succ j=>cases hj
end
