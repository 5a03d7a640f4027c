/- Parts of the proof, in order: KQ, KU, SN. -/
import Derived.Test.YtbdbpakffniboaaGreatDoorJ0
import Derived.ProofKit
import Derived.Lib.Hide
import Derived.Shelf.SlSortCmp.Whole1
import Derived.Shelf.SlSortCmp.NoneTotal
import Derived.Shelf.SlSortFunc.HeapSort
import Derived.Shelf.Strings.Cut
import Derived.Shelf.Strings.OnBuilder
import Derived.Lib.ItoaLen
namespace Go.Proofs.YtbdbpakffniboaaGreatDoor.Sh
open Go.RowKit Go.Shelf Go.Lib
def RdI(w:World)(A:Option Addr)(a:List Int):Prop:= ∀(i:Nat) x,a[i]? =some x-> ∃b o,A=some ⟨b,o,none⟩/\w.cell? ⟨b,o+i,none⟩=some (.int .i64 x)
theorem tE{k:IntKind}{a b:Int}(h:a=b):Ending.returned (.int k a)= .returned (.int k b):=by rw[h]
theorem mJ{α:Type}{L:List α}{k:Nat}{x:α}(hx:L[k]? =some x):L.drop k=x::L.drop (k+1):=by
 obtain⟨h,rfl⟩:=List.getElem?_eq_some_iff.1 hx;exact List.drop_eq_getElem_cons h
theorem pT(x y:Int)(a b:List Int):cmpL (x::a) (y::b)=if x<y then -1 else if y<x then 1 else cmpL a b:=rfl
set_option maxHeartbeats 400000 in
set_option maxRecDepth 100000 in
theorem vN(x:Int)(w:World):Calls Tryz.prog 321 #[.int .i64 x] w fun e w'=>e= .returned (.bool false)/\w'=w:=by
 have h:(x !=x)=false:=by simp
 go_enter Tryz.func321,Tryz.ntmps321
 go_wp2
 go_ret
 exact⟨by simp,rfl⟩
set_option maxHeartbeats 400000 in
set_option maxRecDepth 100000 in
theorem xN(x y:Int)(w:World):Calls Tryz.prog 262 #[.int .i64 x,.int .i64 y] w fun e w'=>e= .returned (.int .i64 (if x<y then -1 else if y<x then 1 else 0))/\w'=w:=by
 by_cases h1:x<y
 ·rw[if_pos h1]
  go_enter Tryz.func262,Tryz.ntmps262
  go_wp2_with (go_at_call 321;refine(vN _ _).mono ?_;rintro e w' ⟨rfl,rfl⟩)
  go_ret
  exact⟨rfl,rfl⟩
 ·by_cases h2:y<x
  ·rw[if_neg h1,if_pos h2]
   go_enter Tryz.func262,Tryz.ntmps262
   go_wp2_with (go_at_call 321;refine(vN _ _).mono ?_;rintro e w' ⟨rfl,rfl⟩)
   go_ret
   exact⟨rfl,rfl⟩
  ·rw[if_neg h1,if_neg h2]
   go_enter Tryz.func262,Tryz.ntmps262
   go_wp2_with (go_at_call 321;refine(vN _ _).mono ?_;rintro e w' ⟨rfl,rfl⟩)
   go_ret
   exact⟨rfl,rfl⟩
set_option maxHeartbeats 4000000 in
set_option maxRecDepth 100000 in
theorem Em(A B:Option Addr)(n m c c':Nat)(a b:List Int)(w:World)(ha:RdI w A a)(hb:RdI w B b)(hn:a.length=n)(hm:b.length=m)(hnl:n<=9223372036854775807)(hml:m<=9223372036854775807):
  Calls Tryz.prog 263 #[.slice A n c,.slice B m c'] w fun e w'=>e= .returned (.int .i64 (cmpL a b))/\w'=w:=by
 have HA:=Lib.hid ha;have HB:=Lib.hid hb;clear ha hb
 go_enter Tryz.func263,Tryz.ntmps263
 go_wp2
 go_loopw [11] (fun ii wr=>wr=w/\ ∃k:Nat,(k<=n/\k<=m)/\ii= .int .i64 k/\Hid (cmpL (a.drop k) (b.drop k)=cmpL a b)) (fun ii _=>n -(RowKit.intOf ii).toNat)
 case atStart=>exact⟨rfl,0,⟨Nat.zero_le _,Nat.zero_le _⟩,rfl,by simp[Hid]⟩
 case round=>
  obtain⟨rfl,k,⟨hk,hkm⟩,rfl,H⟩:=hrel;by_cases hlt:k<n
  ·obtain⟨x,hx⟩: ∃x,a[k]? =some x:=⟨a[k]'(by omega),List.getElem?_eq_getElem _⟩;obtain⟨b1,o1,rfl,c1⟩:=HA.out k x hx;have Hx:=Lib.hid hx;clear hx;by_cases hlm:k<m
   ·obtain⟨y,hy⟩: ∃y,b[k]? =some y:=⟨b[k]'(by omega),List.getElem?_eq_getElem _⟩;obtain⟨b2,o2,rfl,c2⟩:=HB.out k y hy;have Hy:=Lib.hid hy;clear hy;rcases Int.lt_trichotomy x y with h1 | h1 | h1
    ·have hc:=fun W=>xN x y W;rw[if_pos h1]at hc
     go_wp2_with (go_at_call 262;refine(hc _).mono ?_;rintro e w' ⟨rfl,rfl⟩)
     go_ret
     exact⟨tE (by rw[<-H.out,mJ Hx.out,mJ Hy.out,pT,if_pos h1]),rfl⟩
    ·subst h1;have hc:=fun W=>xN x x W;rw[if_neg (by omega),if_neg (by omega)]at hc
     go_wp2_with (go_at_call 262;refine(hc _).mono ?_;rintro e w' ⟨rfl,rfl⟩)
     clear hc;have h:=H.out;rw[mJ Hx.out,mJ Hy.out,pT,if_neg (by omega),if_neg (by omega)]at h;have hk1:k+1<=n/\k+1<=m:=⟨by omega,by omega⟩;have hm1:n -(k+1)<n - k:=by omega
     clear Hx Hy HA HB H c1 c2;refine⟨⟨by first | trivial | rfl,k+1,hk1,by go_num,?_⟩,?_⟩
     ·exact h
     ·simp[RowKit.intOf];omega
    ·have hc:=fun W=>xN x y W;rw[if_neg (by omega),if_pos h1]at hc
     go_wp2_with (go_at_call 262;refine(hc _).mono ?_;rintro e w' ⟨rfl,rfl⟩)
     go_ret
     exact⟨tE (by rw[<-H.out,mJ Hx.out,mJ Hy.out,pT,if_neg (by omega),if_pos h1]),rfl⟩
   ·go_wp2
    go_ret
    exact⟨tE (by rw[<-H.out,mJ Hx.out,show b.drop k=[]from List.drop_eq_nil_of_le (by omega)];rfl),rfl⟩
  ·have hkn:k=n:=by omega
   have h:=H.out;rw[show a.drop k=[]from List.drop_eq_nil_of_le (by omega)]at h;by_cases hlm:n<m
   ·obtain⟨y,hy⟩: ∃y,b[k]? =some y:=⟨b[k]'(by omega),List.getElem?_eq_getElem _⟩;rw[mJ hy]at h;clear hy;have HH:=Lib.hid h;clear h
    go_wp2
    go_ret
    exact⟨tE HH.out,rfl⟩
   ·rw[show b.drop k=[]from List.drop_eq_nil_of_le (by omega)]at h;have HH:=Lib.hid h;clear h
    go_wp2
    go_ret
    exact⟨tE HH.out,rfl⟩
end Go.Proofs.YtbdbpakffniboaaGreatDoor.Sh
namespace Go.Proofs.YtbdbpakffniboaaGreatDoor.Sh
open Go.RowKit Go.Shelf
def pK(L:List (List Int)):Array Nat:=Sort.pdq (ltOf fun i j:Nat=>cmpL (L.getD i []) (L.getD j [])) (Array.range L.length) 0 L.length (Lib.bitLen L.length) true true
def mR(L:List (List Int)):List (List Int):=(pK L).toList.map fun i=>L.getD i []
theorem Je(L:List (List Int)):Sort.SWO (ltOf fun i j:Nat=>cmpL (L.getD i []) (L.getD j [])):=by
 refine⟨fun i=> ?_,fun i j k h1 h2=> ?_,fun i j k h1 h2=> ?_⟩
 ·simp only[ltOf,l7];rfl
 ·simp only[ltOf,decide_eq_true_eq]at h1 h2⊢;exact l8 h1 h2
 ·simp only[ltOf,decide_eq_false_iff_not]at h1 h2⊢;intro h3;have s1:=ui (L.getD i []) (L.getD j []);have s2:=ui (L.getD j []) (L.getD k []);by_cases e1:cmpL (L.getD i []) (L.getD j [])=0
  ·rw[<-uj e1]at h2;exact h2 h3
  ·by_cases e2:cmpL (L.getD j []) (L.getD k [])=0
   ·rw[uj e2]at h1;exact h1 h3
   ·have h4:cmpL (L.getD k []) (L.getD j [])<0:=by omega
    have h5:cmpL (L.getD j []) (L.getD i [])<0:=by omega
    have:=l8 h3 (l8 h4 h5);rw[l7]at this;omega
theorem tI(L:List (List Int)):(pK L).size=L.length/\(pK L).toList.Perm (List.range L.length)/\ ∀i j,i<j->j<L.length-> ¬cmpL (L.getD (pK L)[j]! []) (L.getD (pK L)[i]! [])<0:=by
 have h:=Sort.pdq_sorts (ltOf fun i j:Nat=>cmpL (L.getD i []) (L.getD j [])) (Je L) (Array.range L.length) 0 L.length (Lib.bitLen L.length) true true (Nat.zero_le _) (by simp) (.inl rfl);obtain⟨⟨h1,_,h2⟩,h3⟩:=h;rw[Array.size_range]at h1;refine⟨h1,?_,fun i j hij hj=> ?_⟩
 ·have e1: ∀d:Array Nat,d.size=L.length->d.extract 0 L.length=d:=fun d hd=>by
   rw[<-hd];simp
  rw[e1 _ h1,e1 _ (by simp),Array.toList_range]at h2;exact h2
 ·have:=h3 i j (Nat.zero_le _) hij hj;unfold ltOf at this;rw[decide_eq_false_iff_not]at this;exact this
theorem mj(L:List (List Int)):(mR L).Perm L:=by
 have h:=(tI L).2.1.map fun i=>L.getD i [];have e:(List.range L.length).map (fun i=>L.getD i [])=L:=by
  apply List.ext_getElem
  ·simp
  ·intro i h1 h2;simp[List.getD_eq_getElem?_getD,List.getElem?_eq_getElem h2]
 rw[e]at h;exact h
theorem yJ(L:List (List Int)):(mR L).length=L.length:=(mj L).length_eq
theorem ET(L:List (List Int)):(mR L).Pairwise fun a b=> ¬cmpL b a<0:=by
 obtain⟨h1,_,h3⟩:=tI L;unfold mR;rw[List.pairwise_map,List.pairwise_iff_getElem];intro i j hi hj hij;rw[Array.length_toList]at hi hj;have:=h3 i j hij (by omega);rw[getElem!_pos (pK L) i hi,getElem!_pos (pK L) j hj]at this;simpa using this
def aH(L:List (List Int)):Option (List (List Int)):=if L.length<=1000000000 then some (mR L)else none
theorem NJ{w:World}{S:Nat->Prop}{l:List Int}{v:Value}(h:TV w S (.sl l.length (l.map (eI .i64))) v): ∃A c,v= .slice A l.length c/\RdI w A l/\l.length<=maxLen/\(∀b,(∃o,A=some ⟨b,o,none⟩)->l≠[]->S b):=by
 generalize hes:l.map (eI .i64)=es at h;generalize hn:l.length=n at h;cases h with
 | sl es A n c m u hl hc hm he hu ha=>
  refine⟨A,c,rfl,fun i x hx=> ?_,by omega,fun b ⟨o,hA⟩ hne=> ?_⟩
  ·have hxe:es[i]? =some (eI .i64 x):=by rw[<-hes,List.getElem?_map,hx];rfl
   have hne:es≠[]:=by rintro rfl;simp at hxe
   obtain⟨b,o,hA,_,hcell⟩:=ha hne;have hm1:m=1:=by
    have:=he _ (List.mem_of_getElem? hxe);simpa [eI]using this.symm
   subst hm1;have h1:=hcell i _ 0 _ hxe rfl;have h2:=hu i _ 0 _ hxe rfl;generalize u i 0=q at h1 h2;cases h2;exact⟨b,o,hA,by simpa using h1⟩
  ·have hne2:es≠[]:=by rw[<-hes];simpa using hne
   obtain⟨b',o',hA',hS,_⟩:=ha hne2;rw[hA']at hA;injection hA with hA;injection hA with hA;rw[<-hA];exact hS
theorem FU(xs:List Value)(j:Nat)(h:j<xs.length):xs.getD j (.slice none 0 0)=xs[j]:=by
 simp[List.getD_eq_getElem?_getD,List.getElem?_eq_getElem h]
theorem EX{ρ:Ren}(Ly:SlLaysF.n6 Tryz.prog ρ)(hk:ρ.f 6=318)(e:Nat)(eg:eC Tryz.prog 263)(L r:List (List Int))(h:aH L=some r):
  eE Tryz.prog 318 [.o (oa e 1 (eL (eI .i64)) L),.v (.clo 263 [])] ⟨[],[(0,oa e 1 (eL (eI .i64)) r)],false⟩:=by
 unfold aH at h;split at h
 ·rename_i hlen;injection h with h;subst h;intro w S vs hn hS hv ho hap hgl;obtain⟨v0,v1,rfl⟩: ∃v0 v1,vs= #[v0,v1]:=⟨vs.getD 0 undef,vs.getD 1 undef,by
   simp at hn;apply Array.ext
   ·simp[hn]
   ·intro i h1 h2;have:i=0\/i=1:=by omega
    rcases this with rfl | rfl<;>simp[Array.getD,h1]⟩
  have h1v:=hv 1 _ v1 rfl rfl;obtain⟨hc,hobj,hft⟩:=ho 0 _ v0 rfl rfl;have hv1:v1= .func (.func 263) #[] #[]:=by
   cases h1v with
   | clo f caps us hl hh=>
    have:us= #[]:=Array.eq_empty_of_size_eq_zero (by simpa using hl.symm);rw[this]
  subst hv1;unfold oa at hobj hft;generalize hes:L.map (eL (eI .i64))=es at hobj hft;generalize hln:L.length=n at hobj hft;cases hobj with
  | arr _ _ _ _ v xs hn2 hown he hh=>
   have hxl:xs.length=n:=by rw[hown.1];omega
   have hat: ∀(i:Nat) (hi:i<n),TV w S (.sl (L.getD i []).length ((L.getD i []).map (eI .i64))) (xs.getD i (.slice none 0 0)):=fun i hi=>by
    have h3:es[i]? =some (eL (eI .i64) (L.getD i [])):=by
     rw[<-hes,List.getElem?_map,List.getElem?_eq_getElem (by omega)];simp[List.getD_eq_getElem?_getD,List.getElem?_eq_getElem (show i<L.length by omega)]
    have h4:xs[i*1+0]? =some (xs.getD i (.slice none 0 0)):=by
     rw[Nat.mul_one,Nat.add_zero,FU xs i (by omega),List.getElem?_eq_getElem]
    exact hh i _ 0 _ _ h3 rfl h4
   rw[<-hk];rcases hown.2 with⟨rfl,h0⟩ | ⟨g,cap,cur,rfl,_,hg,hcap,hmax,hcs,hcur⟩
   ·have hL:L=[]:=List.length_eq_zero_iff.1 (by omega);subst hL;refine(AnyF.slices_SortFunc_none (P:=Tryz.prog) (ρ:=ρ) {Ly with} none 0 _ w).mono fun en w' hw=> ?_;obtain⟨rfl,rfl⟩:=hw;have e0:mR []=[]:=List.length_eq_zero_iff.1 (yJ []);rw[e0];refine⟨_,fun _=>False,rfl,dn.refl _ _,fun b hb=>hb.elim,fun b hb=>hb.elim,⟨#[],rfl,rfl,fun i r u hr=>by simp at hr⟩,fun j x u hj hu=> ?_⟩;simp only[List.mem_singleton,Prod.mk.injEq]at hj;obtain⟨rfl,rfl⟩:=hj;have:u= .slice none 0 0:=by simpa using hu.symm
    subst this;exact⟨.arr _ _ _ _ _ [] rfl ⟨rfl,.inl ⟨rfl,rfl⟩⟩ (by simp) (fun i x j t u h1=>by simp at h1),fun g hg=>by cases hg⟩
   ·have hlt:g<w.heap.size:=(Array.getElem?_eq_some_iff.1 hg).1;have hgS: ¬S g:=hft g rfl;have hone:OneCell (fun i:Nat=>xs.getD i (.slice none 0 0)):=fun i=>by
     by_cases hi:i<n
     ·exact E8 (hat i hi)
     ·have:xs.getD i (.slice none 0 0)= .slice none 0 0:=by
       rw[List.getD_eq_getElem?_getD,List.getElem?_eq_none (by omega)];rfl
      show(xs.getD i (.slice none 0 0)).oneCell'=true;rw[this];rfl
    have hH:Sort.Holds (fun i:Nat=>xs.getD i (.slice none 0 0)) w g 0 (Array.range n):=fun j hj=>by
     have hj':j<n:=by simpa using hj
     have h6:(Array.range n)[j]! =j:=by
      rw[getElem!_pos (Array.range n) j hj];simp
     have h5:cur[j]? =some (xs.getD j (.slice none 0 0)):=by
      rw[<-Array.getElem?_toList,<-List.getElem?_take_of_lt (show j<n*1 by omega),hcur,FU xs j (by omega),List.getElem?_eq_getElem]
     rw[h6];constructor
     ·unfold World.cell?;rw[hg,Nat.zero_add];exact h5
     ·unfold World.frozen?;rw[hg];simp
    have hcmp:CmpLays1 Tryz.prog 263 #[] (fun i:Nat=>xs.getD i (.slice none 0 0)) (fun i j=>cmpL (L.getD i []) (L.getD j [])) g 0 (Array.range n).size w:=fun m os dk hdk i j=>by
     have hrd: ∀i:Nat,∃A c,xs.getD i (.slice none 0 0)= .slice A (L.getD i []).length c/\RdI (sortWorld (fun i:Nat=>xs.getD i (.slice none 0 0)) w g 0 m dk os) A (L.getD i [])/\(L.getD i []).length<=maxLen:=fun i=>by
      by_cases hi:i<n
      ·obtain⟨A,c,h1,h2,h3,h4⟩:=NJ (hat i hi);refine⟨A,c,h1,fun q x hq=> ?_,h3⟩;obtain⟨b,o,hA,hb⟩:=h2 q x hq;refine⟨b,o,hA,?_⟩;have hSb:=h4 b ⟨o,hA⟩ (by rintro hnil;rw[hnil]at hq;simp at hq);rw[cell?_sortWorld_other _ w g 0 m dk os ⟨b,o+q,none⟩ (fun e2=>hgS (e2▸hSb)) (hS b hSb)];exact hb
      ·have e1:xs.getD i (.slice none 0 0)= .slice none 0 0:=by
        rw[List.getD_eq_getElem?_getD,List.getElem?_eq_none (by omega)];rfl
       have e2:L.getD i []=[]:=by
        rw[List.getD_eq_getElem?_getD,List.getElem?_eq_none (by omega)];rfl
       rw[e1,e2];exact⟨none,0,rfl,fun q x hq=>by simp at hq,by simp⟩
     obtain⟨A,c,a1,a2,a3⟩:=hrd i;obtain⟨B,c',b1,b2,b3⟩:=hrd j;show Calls _ _ (#[xs.getD i (.slice none 0 0),xs.getD j (.slice none 0 0)]++ #[]) _ _;rw[a1,b1,Array.append_empty];unfold maxLen at a3 b3;refine(Em A B _ _ c c' _ _ _ a2 b2 rfl rfl (by omega) (by omega)).mono fun en w' hw=> ?_;exact⟨hw.1,0, #[],by rw[hw.2];exact(Sort.grow_empty _).symm⟩
    have key:=Any.slices_SortFunc_eq Ly (fun i:Nat=>xs.getD i (.slice none 0 0)) hone (fun i j=>cmpL (L.getD i []) (L.getD j [])) (Je L) 263 #[] g 0 cap (Array.range n) w eg hcmp hH hlt (by simp;omega);rw[Array.size_range]at key;refine key.mono fun en w' hw=> ?_;obtain⟨rfl,q,os,hw⟩:=hw;obtain⟨s1,s2,s3⟩:=tI L;have hix:Sort.pdq (ltOf fun i j:Nat=>cmpL (L.getD i []) (L.getD j [])) (Array.range n) 0 n (Lib.bitLen n) true true=pK L:=by
     unfold pK;rw[hln]
    rw[hix]at hw;obtain⟨hrow,hgr⟩:=ER (fun i:Nat=>xs.getD i (.slice none 0 0)) (n:=n) (m:=n) hg hcap hmax hcs (pK L) (by rw[s1,hln]) (Nat.le_refl _) q os hw;have hkeep: ∀b,S b->w'.heap[b]? =w.heap[b]? :=fun b hb=>hgr.block b (hS b hb) fun e2=>hgS (by injection e2 with e2;rw[e2];exact hb);refine⟨_,fun _=>False,rfl,⟨hgr.os,hgr.tape,hgr.output,hgr.size,fun b hb hx=>hgr.block b hb fun e2=>hx ⟨0,_,_,rfl,rfl,e2⟩⟩,fun b hb=>hb.elim,fun b hb=>hb.elim,⟨#[],rfl,rfl,fun i r u hr=>by simp at hr⟩,fun j x u hj hu=> ?_⟩;simp only[List.mem_singleton,Prod.mk.injEq]at hj;obtain⟨rfl,rfl⟩:=hj;have:u= .slice (some ⟨g,0,none⟩) n cap:=by simpa using hu.symm
    subst this;have e6:(mR L).length=n:=by rw[yJ,hln]
    unfold oa;rw[e6];refine⟨.arr _ _ _ _ _ _ (by rw[List.length_map,e6]) hrow (fun x hx=> ?_) (fun i x j t u h1 h2 h3=> ?_),fun g' hg'=>⟨fun h=>h,0,_,_,rfl,rfl,hg'⟩⟩
    ·obtain⟨y,_,rfl⟩:=List.mem_map.1 hx;rfl
    ·rw[List.getElem?_map,Option.map_eq_some_iff]at h1;obtain⟨y,hy,rfl⟩:=h1;unfold mR at hy;rw[List.getElem?_map,Option.map_eq_some_iff]at hy;obtain⟨ix,hix2,rfl⟩:=hy;have hixn:ix<n:=by
      have:=s2.mem_iff.1 (List.mem_of_getElem? hix2);rw[List.mem_range,hln]at this;exact this
     cases j with
     | zero=>
      injection h2 with h2;subst h2;rw[Nat.mul_one,Nat.add_zero,List.take_of_length_le (by rw[Array.length_toList,s1,hln];exact Nat.le_refl _),List.getElem?_map,hix2]at h3;injection h3 with h3;subst h3;exact(hat ix hixn).keep hkeep fun _ h=> .inl h
     | succ j=>cases h2
 ·cases h
end Go.Proofs.YtbdbpakffniboaaGreatDoor.Sh
namespace Go.Proofs.YtbdbpakffniboaaGreatDoor.Sh
open Go.RowKit Go.Shelf Go.Lib
def rF(s sep:ByteArray):ByteArray×ByteArray×Bool:=(⟨(Lib.cut s.data.toList sep.data.toList).1.toArray⟩,⟨(Lib.cut s.data.toList sep.data.toList).2.1.toArray⟩,(Lib.cut s.data.toList sep.data.toList).2.2)
theorem pX(s sep:ByteArray):(rF s sep).1.size<=s.size/\(rF s sep).2.1.size<=s.size:=by
 have h4:s.data.toList.length=s.size:=by rw[Array.length_toList];rfl
 have:((Lib.cut s.data.toList sep.data.toList).1.length<=s.size)/\(Lib.cut s.data.toList sep.data.toList).2.1.length<=s.size:=by
  unfold Lib.cut;split
  ·exact⟨by rw[List.length_take];omega,by rw[List.length_drop];omega⟩
  ·exact⟨by simp only;omega,by simp⟩
 exact⟨by show(List.toArray _).size<=_;rw[List.size_toArray];exact this.1,by show(List.toArray _).size<=_;rw[List.size_toArray];exact this.2⟩
def strings_Cut(s sep:ByteArray):Option (ByteArray×ByteArray×Bool):=bif decide (s.size<4294967281)then some (rF s sep)else none
theorem Hl(w:World)(n:Nat):Below w.heap.size w (w.drewN n):=⟨rfl,rfl,rfl,Nat.le_refl _,fun _ _=>rfl⟩
theorem Jv(s sep:ByteArray)(r:ByteArray×ByteArray×Bool)(h:strings_Cut s sep=some r):eE Tryz.prog 244 [.v (.tr (.str s)),.v (.tr (.str sep))] ⟨[.v (.tr (.str r.1)),.v (.tr (.str r.2.1)),.v (.tr (.bool r.2.2))],[],false⟩:=by
 unfold strings_Cut at h;cases hb:decide (s.size<4294967281)
 ·rw[hb]at h;cases h
 ·rw[hb]at h;injection h with h;subst h;have hs:s.size<4294967281:=by simpa using hb
  have hz:=pX s sep;refine xf [.str s,.str sep] (by simp[Tr.flat]) (.str (rF s sep).1) (.str (rF s sep).2.1) [.bool (rF s sep).2.2] (by simp[Tr.flat]) (by simp[Tr.small,maxLen];omega) fun w S hgl=> ?_;obtain⟨_,_,m,hm⟩:=hgl.2.2.2 1 (by unfold ints;simp);exact(Any.strings_Cut Tryz.IT.ton145 s sep m w hs hm).mono fun e w' ⟨he,n,hw⟩=>⟨by rw[he];rfl,by rw[hw];exact Hl w n⟩
def bU(n:Int):Option ByteArray:=if -9223372036854775808<=n/\n<=9223372036854775807 then some ⟨(Lib.itoa n).toArray⟩else none
theorem CL(n:Int)(r:ByteArray)(h:bU n=some r):eE Tryz.prog 134 [.v (.tr (.int .i64 n))] ⟨[.v (.tr (.str r))],[],false⟩:=by
 unfold bU at h;split at h
 ·rename_i hh;injection h with h;subst h;have hs:(⟨(Lib.itoa n).toArray⟩:ByteArray).size<=maxLen:=by
   have:=Lib.itoa_length_le n hh.1 hh.2;show(Lib.itoa n).toArray.size<=maxLen;rw[List.size_toArray];unfold maxLen;omega
  intro w S vs hn hS hv _ _ hgl;rw[uq (ts:=[.int .i64 n]) (by simp[Tr.flat]) (by simpa using hn) hv];obtain⟨_,_,t0,x0,e0⟩:=hgl.2.2.1 (4,_) (by unfold NF;exact List.mem_singleton.2 rfl);have htab:Lib.TabIs Tryz.prog w "internal/strconv.uint64pow10" .u64 Lib.pow10Tab:=by
   unfold Lib.TabIs World.var?;rw[show Tryz.prog.globalNamed "internal/strconv.uint64pow10" =some 4 by kernel_rfl,Option.bind_some,e0];rfl
  refine(vo n hh.1 hh.2 w htab).mono fun e w' h=> ?_;obtain⟨rfl,hb⟩:=h;exact⟨_,fun _=>False,rfl,dn.ox hb _,fun b hb=>hb.elim,fun b hb=>hb.elim,⟨rfl,.tr _ _ (Fa (t:= .str ⟨(Lib.itoa n).toArray⟩) rfl hs)⟩,fun j x u hj=>by simp at hj⟩
 ·cases h
theorem Fq:Builder.Extra Tryz.prog Tryz.tu:={sizeBuilder:=by kernel_rfl,liesBuilder:=by kernel_rfl,t5:=by kernel_rfl,a5:=run_isAgg_plain (show Tryz.prog.underlying (Tryz.tu.t 5)=some (.int .u8) by kernel_rfl) rfl,z5:=fun w=>by kernel_rfl,v5:=fun w=>by kernel_rfl,infoByte:=by kernel_rfl,cellsByte:=by kernel_rfl,sizeByte:=by kernel_rfl,neB5:=by decide}
def dN(L:List ByteArray)(c:ByteArray):ByteArray:=⟨(Lib.join (L.map (·.data.toList)) c.data.toList).toArray⟩
def strings_Join(L:List ByteArray)(c:ByteArray):Option ByteArray:=if L.length<=1000000/\(dN L c).size<=1000000000 then some (dN L c)else none
theorem HN(L:List ByteArray)(c r:ByteArray)(h:strings_Join L c=some r):eE Tryz.prog 150 [.v (.tr (.sl L.length (L.map eS))),.v (.tr (.str c))] ⟨[.v (.tr (.str r))],[],false⟩:=by
 unfold strings_Join at h;split at h
 ·rename_i hh;injection h with h;subst h;intro w S vs hn hS hv _ _ _;obtain⟨v0,v1,rfl⟩: ∃a b,vs= #[a,b]:=⟨vs.getD 0 undef,vs.getD 1 undef,by
   simp at hn;apply Array.ext
   ·simp[hn]
   ·intro i h1 h2;have:i=0\/i=1:=by omega
    rcases this with rfl | rfl<;>simp[Array.getD,hn]⟩
  have h0:=hv 0 _ v0 rfl rfl;have h1:=hv 1 _ v1 rfl rfl;cases h1 with
  | tr _ _ h1=>
  cases h1;have hlen:(Lib.join (L.map (·.data.toList)) c.data.toList).length<=140737488355328:=by
   have:=hh.2;unfold dN at this;have h5:(⟨(Lib.join (L.map (·.data.toList)) c.data.toList).toArray⟩:ByteArray).size=(Lib.join (L.map (·.data.toList)) c.data.toList).length:=List.size_toArray ..;omega
  have key:Calls Tryz.prog 150 #[v0,.string c] w fun e w'=>e= .returned (.string (dN L c))/\Below w.heap.size w w':=by
   cases h0 with
   | tr _ _ h0=>
   rcases hL:L with _ | ⟨x0,L'⟩
   ·subst hL;cases h0 with
    | sl es A n cc m u hl hc hmx he hu ha=>exact(Any.strings_Join_none Tryz.IU Fq A cc c w).mono fun e w' ⟨h1,h2⟩=>⟨by rw[h1];rfl,h2▸Below.refl _ _⟩
   ·rw[<-hL];have hne:L.map eS≠[]:=by rw[hL];simp
    generalize hln:L.length=n at h0;generalize hes:L.map eS=es at h0 hne;cases h0 with
    | sl es A n cc m u hl hc hmx he hu ha=>
     obtain⟨b,o,rfl,hb,hcell⟩:=ha hne;have hget: ∀(j:Nat) x,L[j]? =some x->es[j]? =some (eS x):=fun j x hx=>by rw[<-hes,List.getElem?_map,hx];rfl
     have hm:m=1:=by
      have h3:=he (eS x0) (by rw[<-hes,hL];simp);rw[<-h3];rfl
     subst hm hln;refine Any.strings_Join Tryz.IU Fq b o cc L c w (fun j x hx=> ?_) (hS b hb) (by omega) hc hlen;have h3:=hcell j _ 0 _ (hget j x hx) rfl;have h4:=hu j _ 0 _ (hget j x hx) rfl;rw[Nat.mul_one,Nat.add_zero]at h3;rw[h3];generalize u j 0=z at h4;cases h4;rfl
  refine key.mono fun e w' h=> ?_;obtain⟨rfl,hb⟩:=h;exact⟨_,fun _=>False,rfl,dn.ox hb _,fun b hb=>hb.elim,fun b hb=>hb.elim,⟨rfl,.tr _ _ (Fa (t:= .str (dN L c)) rfl (by have:=hh.2;unfold Tr.small maxLen;omega))⟩,fun j x u hj=>by simp at hj⟩
 ·cases h
end Go.Proofs.YtbdbpakffniboaaGreatDoor.Sh
namespace Go.Proofs.YtbdbpakffniboaaGreatDoor.Sh
open Go.RowKit
section
variable {P : Program} {tb : Tb} {c : Cx} {S : Nat -> Prop} {β : Nat -> Value} {σ : SS} {a : Act} {w : World} {ops : Array Oper} {o : Oper}
def I3(l:List Int)(i:Nat):Int:=l.getD i 0
def Jm(n:Nat)(i:Int):Option Unit:=if 0<=i/\i<n then some ()else none
theorem Le.Mx{d j k:Nat}{cs:List SV}(hf:find d σ.o=some (.box cs))(hj:cs[j]? =some (.own k)):Le σ {σ with o:=(d,.box (cs.set j .any))::σ.o.filter (fun p=>p.1 !=d)}:=by
 intro c a w ⟨S,β,hr⟩;have hm:=aw hf;have ho:=hr.obj d _ hm;generalize hb:β d=b at ho;cases ho with
 | box cs g vs T hg hl h=>
  have hnew:cB w S β (.box (cs.set j .any)) (.pointer (some ⟨g,0,none⟩)):= .box _ g vs T hg (by rw[List.length_set];exact hl) fun i x v hx hv=>by
   by_cases hij:j=i
   ·subst hij;rw[List.getElem?_set_self (List.getElem?_eq_some_iff.1 hj).1]at hx;injection hx with hx;subst hx;have:=h j _ v hj hv;cases this with
    | own k=>exact .any _ (hr.one k)
   ·rw[List.getElem?_set_ne hij]at hx;exact h i x v hx hv
  exact hr.view hm (by rw[hb];exact hnew) fun g' hg'=>hg'
theorem qj(hP:bk P tb){t g:Nat}(ho:o.op= .slice t (.global g) none none none){ν:SS}(hgd:gd ops ν o=some true)(hok:js ν o=true){L:List ByteArray}(hp:(g,L.map Value.string)∈pins){n e:Nat}{ti tj:TI}
  (ht:find t tb=some ti) (hd:ti.d= .array n e) (hj:find e tb=some tj) (hn:L.length=n) (hs0:L.all (fun s=>decide (s.size<=maxLen))=true) (hm0:Nat.ble n maxLen=true):bE P ops o ν (some (.tr (.sl n (L.map eS)),none)):=by
 have hs: ∀s∈L,s.size<=maxLen:=fun s h=>of_decide_eq_true (List.all_eq_true.1 hs0 s h);have hm:n<=maxLen:=Nat.le_of_ble_eq_true hm0;refine bL hgd hok fun c S β a w hr=> ?_;obtain⟨h1,h2,h3⟩:=hr.xS.1 _ hp;have hu:=(aJ hP ht).array hd;have hrun:(Instr.sliceAt t (.pointer (some ⟨g,0,none⟩)) none none none).run P w= .ok (.slice (some ⟨g,0,none⟩) n n) w:=by
  have hb:=vU (P:=P) hr false (n:=n) (cap:=n) (lo:=none) (hi:=none) (l:=0) (h:=n) rfl rfl (by omega) (by omega) (Int.le_refl _) (Nat.le_refl _);simp only[Option.map_none]at hb;simp only[Instr.sliceAt,Sem.run_bind,run_underlying hu,Result.andThen_ok,Instr.sureAddr,Sem.run_pure,hb,(aJ hP hj).size];simp[Addr.add]
 refine .mk (s:=Instr.sliceAt t (.pointer (some ⟨g,0,none⟩)) none none none) (by simp only[execOp,ho];rfl) hrun (.tr _ _ ?_);refine .sl (L.map eS) _ n n 1 (fun i _=> .string (L.getD i ⟨#[]⟩)) (by simpa using hn) (Nat.le_refl _) hm (fun x hx=> ?_) (fun i x j u hi hj=> ?_) fun _=>⟨g,0,rfl,h1,fun i x j u hi hj=> ?_⟩
 ·obtain⟨y,_,rfl⟩:=List.mem_map.1 hx;rfl
 ·rw[List.getElem?_map,Option.map_eq_some_iff]at hi;obtain⟨y,hy,rfl⟩:=hi;cases j with
  | zero=>
   injection hj with hj;subst hj;rw[List.getD_eq_getElem?_getD,hy];exact .str y (hs y (List.mem_of_getElem? hy))
  | succ j=>cases hj
 ·rw[List.getElem?_map,Option.map_eq_some_iff]at hi;obtain⟨y,hy,rfl⟩:=hi;cases j with
  | zero=>
   have:=h3 i (.string y) (by rw[List.getElem?_map,hy];rfl);rw[List.getD_eq_getElem?_getD,hy,show 0+i*1+0=i by omega];exact this
  | succ j=>cases hj
theorem wV(hP:bk P tb){t:Nat}{x y:Operand}{i:Int}{u:Unit}(ho:o.op= .indexAddr t x y){ν:SS}{d q n e m:Nat}{k:IntKind}{ti tj:TI}(h:Jm n i=some u)(hgd:gd ops ν o=some true:=by kernel_rfl)(hok:js ν o=true:=by kernel_rfl)(ht:find t tb=some ti:=by kernel_rfl)(hd:ti.d= .array n e:=by kernel_rfl)(he:find e tb=some tj:=by kernel_rfl)(hm:tj.size=m:=by kernel_rfl)(hx:ev ν x=some (.ref d q):=by kernel_rfl)(hy:ev ν y=some (.tr (.int k i)):=by kernel_rfl):bE P ops o ν (some (.ref d (q+i.toNat*m),none)):=by
 unfold Jm at h;split at h
 ·rename_i hh;refine bL hgd hok fun c S β a w hr=>vz hP hr ho ?_;simp only[vop,ht,hx,hy,hd,he,if_pos hh,hm,B7]
 ·cases h
def MC(n q:Nat):Option Unit:=if q<n then some ()else none
theorem BU(hP:bk P tb){t:Nat}{x:Operand}(ho:o.op= .load t x){ν:SS}{d q:Nat}(L:List Int){k:IntKind}{ti:TI}{u:Unit}(h:MC L.length q=some u)(hl: ∀(cs:List SV) (q:Nat),ldc ti cs q=cs[q]?)(hgd:gd ops ν o=some true:=by kernel_rfl)(hok:js ν o=true:=by kernel_rfl)(ht:find t tb=some ti:=by kernel_rfl)(hx:ev ν x=some (.ref d q):=by kernel_rfl)(hob:find d ν.o=some (.box (L.map fun n=> .tr (.int k n))):=by kernel_rfl):bE P ops o ν (some (.tr (.int k (I3 L q)),none)):=by
 unfold MC at h;split at h
 ·rename_i hh;refine bL hgd hok fun c S β a w hr=>Ha hP hr ho ?_;simp only[vop,ht,hx,hob,hl,List.getElem?_map,List.getElem?_eq_getElem hh,Option.map_some,I3,List.getD_eq_getElem?_getD,Option.getD_some]
 ·cases h
theorem qi(hP:bk P tb){t g:Nat}{y:Operand}(ho:o.op= .indexAddr t (.global g) y){ν:SS}{L:List ByteArray}{x:ByteArray}{i:Int}{k:IntKind}(h:at' L i=some x)(hp:(g,L.map Value.string)∈pins){n e:Nat}{ti tj:TI}(hgd:gd ops ν o=some true:=by kernel_rfl)(hok:js ν o=true:=by kernel_rfl)
  (ht:find t tb=some ti:=by kernel_rfl) (hd:ti.d= .array n e:=by kernel_rfl) (hj:find e tb=some tj:=by kernel_rfl) (hsz:tj.size=1:=by kernel_rfl) (hn:L.length=n:=by kernel_rfl) (hs0:L.all (fun s=>decide (s.size<=maxLen))=true:=by kernel_rfl) (hy:ev ν y=some (.tr (.int k i)):=by kernel_rfl):bE P ops o ν (some (.ptr [.tr (.str x)] 0,none)):=by
 have hs: ∀s∈L,s.size<=maxLen:=fun s h=>of_decide_eq_true (List.all_eq_true.1 hs0 s h);obtain⟨h4,h5⟩:=oX h;have hlt:i.toNat<L.length:=(List.getElem?_eq_some_iff.1 h5).1;refine bL hgd hok fun c S β a w hr=> ?_;obtain⟨h1,h2,h3⟩:=hr.xS.1 _ hp;have hu:=(aJ hP ht).array hd;have hw:=bn hr hy;generalize hy2:a.eval y=y2 at hw;cases hw with
 | tr _ _ hw=>cases hw with
  | int k i=>
   refine .mk (s:=Instr.indexAt t (.pointer (some ⟨g,0,none⟩)) (.int k i)) (u:= .pointer (some ⟨g,0+i.toNat,none⟩)) (by simp only[execOp,ho,hy2];rfl) (by simp[Instr.indexAt,Instr.sureAddr,asIntOf,run_underlying hu,h4,(show i<n by omega),(aJ hP hj).size,hsz,Addr.add];try omega) ?_;have:=cE.ptr (w:=w) (S:=S) (β:=β) [.tr (.str x)] 0 g i.toNat (fun _=> .string x) h1 (fun j c hj=> ?_) fun j c hj=> ?_
   ·simpa using this
   ·cases j with
    | zero=>injection hj with hj;subst hj;exact .tr _ _ (.str x (hs x (List.mem_of_getElem? h5)))
    | succ j=>cases hj
   ·cases j with
    | zero=>exact h3 i.toNat (.string x) (by rw[List.getElem?_map,h5];rfl)
    | succ j=>cases hj
end
