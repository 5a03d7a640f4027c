/- Parts of the proof, in order: MST1, MSS2, MSS3, MCNA, MCNB, MCNC, MCND, YA. -/
import Derived.Test.YtbdbpakffniboaaGreatDoorJ2
import Derived.Test.YtbdbpakffniboaaGreatDoorJ0
noncomputable section
namespace Go.Proofs.YtbdbpakffniboaaGreatDoor.Sh
open Go.RowKit Go.Lib
theorem KI: ∀{x y:List UInt8},Op.bytesLess x y=true↔x<y
 | [],[]=>by simp[Op.bytesLess]
 | [],b::y=>by simp[Op.bytesLess]
 | a::x,[]=>by simp[Op.bytesLess]
 | a::x,b::y=>by
  rw[wv,List.cons_lt_cons_iff,KI,UInt8.lt_iff_toNat_lt]
theorem ID{x y:List UInt8}:decide (x<=y)= !Op.bytesLess y x:=by
 rw[Bool.eq_iff_iff,decide_eq_true_eq,Bool.not_eq_true',Bool.eq_false_iff,ne_eq,KI,List.not_lt]
theorem Be{x y:List UInt8}(h:Op.bytesLess x y=true):Op.bytesLess y x=false:=by
 rw[Bool.eq_false_iff];intro k;have:=sw h k;rw[nU]at this;cases this
theorem Fp{x y z:List UInt8}(h:Op.bytesLess y x=false)(k:Op.bytesLess y z=true):Op.bytesLess x z=true:=by
 cases hxy:Op.bytesLess x y
 ·rw[ww hxy h];exact k
 ·exact sw hxy k
theorem C2(L:List (List UInt8)):(L.mergeSort fun x y=>decide (x<=y)).Pairwise fun a b=>Op.bytesLess b a=false:=by
 have:=List.pairwise_mergeSort (le:=fun x y:List UInt8=>decide (x<=y)) (fun a b c h1 h2=> ?_) (fun a b=> ?_) L
 ·exact this.imp fun{a b} h=>by rw[ID]at h;simpa using h
 ·rw[ID,Bool.not_eq_true']at*;cases hca:Op.bytesLess c a with
  | false=>rfl
  | true=>
   have:=Fp h2 hca;rw[h1]at this;cases this
 ·rw[ID,ID];cases hab:Op.bytesLess a b
  ·simp
  ·rw[Be hab];simp
theorem Bl{D:List (List UInt8)}(h:D.Pairwise fun a b=>Op.bytesLess b a=false):(Lib.compact D).Pairwise (fun a b=>Op.bytesLess a b=true):=by
 have hat: ∀j,j<D.length->D.toArray[j]! =D.getD j []:=fun j hj=>by
  rw[getElem!_pos D.toArray j (by simpa using hj)];simp[List.getD_eq_getElem?_getD,List.getElem?_eq_getElem hj]
 have hle: ∀i j,i<j->j<D.length->Op.bytesLess (D.getD j []) (D.getD i [])=false:=fun i j hij hj=>by
  rw[List.pairwise_iff_getElem]at h;have:=h i j (by omega) hj hij;simpa [List.getD_eq_getElem?_getD,List.getElem?_eq_getElem hj,List.getElem?_eq_getElem (show i<D.length by omega)]using this
 unfold Lib.compact Lib.compactUpTo;rw[List.pairwise_map,List.pairwise_filter];refine(List.pairwise_lt_range (n:=D.length)).imp_of_mem fun{i j} hi hj hij _ hk=> ?_;have hj:=List.mem_range.1 hj;unfold Lib.keeps at hk;rw[decide_eq_true_eq]at hk;have hk:=hk.resolve_left (by omega);rw[hat j hj,hat (j - 1) (by omega)]at hk;rw[hat i (by omega),hat j hj];have h1:=hle (j - 1) j (by omega) hj;have h2:Op.bytesLess (D.getD (j - 1) []) (D.getD j [])=true:=by
  cases hb:Op.bytesLess (D.getD (j - 1) []) (D.getD j [])with
  | true=>rfl
  | false=>exact absurd (ww h1 hb) hk
 by_cases hi1:i=j - 1
 ·rw[hi1];exact h2
 ·exact Fp (hle i (j - 1) (by omega) (by omega)) h2
theorem zp{D:List (List UInt8)}{x:List UInt8}:x∈Lib.compact D↔x∈D:=by
 unfold Lib.compact Lib.compactUpTo;rw[List.mem_map];constructor
 ·rintro⟨j,hj,rfl⟩;rw[List.mem_filter,List.mem_range]at hj;rw[getElem!_pos D.toArray j (by simpa using hj.1)];simp
 ·intro hx;obtain⟨j,hj,rfl⟩:=List.mem_iff_getElem.1 hx;have key: ∀k (hk:k<D.length),∃i,i<D.length/\Lib.keeps D.toArray i=true/\D.toArray[i]! =D[k]:=by
   intro k
   induction k with
   | zero=>
    intro hk;refine⟨0,hk,Lib.keeps_lt_one _ 0 (by omega),?_⟩;rw[getElem!_pos D.toArray 0 (by simpa using hk)];simp
   | succ k ih=>
    intro hk;have e1:D.toArray[k+1]! =D[k+1]:=by
     rw[getElem!_pos D.toArray (k+1) (by simpa using hk)];simp
    have e2:D.toArray[k]! =D[k]:=by
     rw[getElem!_pos D.toArray k (by simp;omega)];simp
    by_cases he:D[k+1]=D[k]
    ·obtain⟨i,h1,h2,h3⟩:=ih (by omega);exact⟨i,h1,h2,by rw[h3,he]⟩
    ·refine⟨k+1,hk,Lib.keeps_pos ?_,e1⟩;rw[e1,show k+1 - 1=k by omega,e2];exact he
  obtain⟨i,h1,h2,h3⟩:=key j hj;exact⟨i,by rw[List.mem_filter,List.mem_range];exact⟨h1,h2⟩,h3⟩
theorem Gn(x y:ByteArray):kr x y=Op.bytesLess x.data.toList y.data.toList:=by
 unfold kr;rw[Lib.toList_data,Lib.toList_data]
theorem tK(L:List ByteArray):(gm L).Pairwise fun a b=>kr a b=true:=by
 unfold gm zo oA;rw[List.pairwise_map,List.map_map];have e:((fun s:ByteArray=>s.data.toList)∘fun l:List UInt8=>(⟨l.toArray⟩:ByteArray))=id:=by funext l;rfl
 rw[e,List.map_id];refine(Bl (C2 (L.map fun s=>s.data.toList))).imp fun{a b} h=> ?_;rw[Gn];simpa using h
theorem tJ{L:List ByteArray}{s:ByteArray}:s∈gm L↔s∈L:=by
 unfold gm zo;rw[List.mem_map];constructor
 ·rintro⟨l,hl,rfl⟩;rw[zp]at hl;obtain⟨t,ht,rfl⟩:=List.mem_map.1 hl;exact yK.1 ht
 ·intro h;refine⟨s.data.toList,zp.2 (List.mem_map.2 ⟨s,yK.2 h,rfl⟩),rfl⟩
theorem ov(x:ByteArray):kr x x=false:=nU _
theorem DQ{x y z:ByteArray}(h:kr x y=true)(k:kr y z=true):kr x z=true:=sw h k
theorem uD{x y:ByteArray}(h:kr x y=true):kr y x=false:=Be h
theorem uE{x y:ByteArray}(h:x≠y):kr x y=true\/kr y x=true:=by
 cases h1:kr x y with
 | true=>exact .inl rfl
 | false=>
  cases h2:kr y x with
  | true=>exact .inr rfl
  | false=>
   rw[Gn]at h1 h2;have:=ww h1 h2;exfalso;apply h;obtain⟨x⟩:=x;obtain⟨y⟩:=y;exact congrArg ByteArray.mk (Array.toList_inj.1 this)
theorem It{A B:List ByteArray}(hA:A.Pairwise fun a b=>kr a b=true)(hB:B.Pairwise fun a b=>kr a b=true)(h: ∀z,z∈A↔z∈B):A=B:=pL (fun _ _=>uD) hA hB h
open Classical in
def yl(A:List ByteArray)(x:ByteArray):List ByteArray:=if x∈A then A else jW kr A x
theorem La{A:List ByteArray}{x z:ByteArray}:z∈yl A x↔z=x\/z∈A:=by
 unfold yl;by_cases h:x∈A
 ·rw[if_pos h];exact⟨.inr,fun h2=>h2.elim (fun e=>e▸h) id⟩
 ·rw[if_neg h,ql]
theorem K9(A:List ByteArray)(x:ByteArray):(yl A x).length<=A.length+1:=by
 unfold yl;split
 ·omega
 ·rw[yy];omega
theorem zy{A:List ByteArray}{x:ByteArray}(h:A.Pairwise fun a b=>kr a b=true):(yl A x).Pairwise fun a b=>kr a b=true:=by
 unfold yl;split
 ·exact h
 ·rename_i hx;exact qT (lt:=kr) (fun _ _ _=>DQ) h fun y hy=>uE fun e=>hx (by rw[<-e];exact hy)
theorem NX{x:ByteArray}: ∀{A:List ByteArray},A.Pairwise (fun a b=>kr a b=true)->x∈A->A[(A.takeWhile fun y=>kr y x).length]? =some x
 | [],_,h=>by cases h
 | a::A,hp,h=>by
  have hp2:=List.pairwise_cons.1 hp;rw[List.takeWhile_cons];rcases List.mem_cons.1 h with rfl | h
  ·rw[ov];rfl
  ·rw[hp2.1 x h];simpa using NX hp2.2 h
theorem Ke{A:List ByteArray}{x:ByteArray}(hA:A.length<=1000000)(hs:A.Pairwise fun a b=>kr a b=true):jv A x=some (yl A x):=by
 unfold jv;have key: ∀(M D:List ByteArray),A=D++M->loop (fun(s3:Int)=>(((bif(decide (s3<(A.length:Int)))then((at' A s3).bind fun x5=>some (Op.bytesLess x5.toList x.toList))else some false)).bind fun(j6:Bool)=>(bif j6 then some (.inl (ap (s3+1)))else some (.inr s3)))) (D.length:Int)=some (((D.length+(M.takeWhile fun y=>kr y x).length:Nat)):Int):=by
  intro M
  induction M with
  | nil=>
   intro D hD;rw[bF,decide_eq_false (show ¬(D.length:Int)<(A.length:Int) by rw[hD];simp)];rfl
  | cons y M ih=>
   intro D hD;have hy:A[D.length]? =some y:=by rw[hD];simp
   have hlt:D.length<A.length:=(List.getElem?_eq_some_iff.1 hy).1;rw[bF,decide_eq_true (show(D.length:Int)<(A.length:Int) by omega),cond_true,ar,hy,Option.bind_some,Option.bind_some,List.takeWhile_cons];have e:Op.bytesLess y.toList x.toList=kr y x:=rfl;rw[e];cases hb:kr y x
   ·simp
   ·simp only[cond_true];rw[bg (by omega) (by omega)];have:=ih (D++[y]) (by rw[hD];simp);rw[List.length_append,List.length_singleton]at this;rw[show(D.length:Int)+1=((D.length+1:Nat):Int) by omega,this];congr 2;simp;omega
 have k0:=key A [] rfl;rw[List.length_nil,Nat.zero_add]at k0;rw[show(0:Int)=((0:Nat):Int)from rfl,k0,Option.bind_some];have hs1:=List.takeWhile_append_dropWhile (p:=fun y=>kr y x) (l:=A);have hl:=congrArg List.length hs1;rw[List.length_append]at hl;unfold yl;by_cases hx:x∈A
 ·have h1:=NX hs hx;have hlt:=(List.getElem?_eq_some_iff.1 h1).1;rw[if_pos hx,decide_eq_true (show(((A.takeWhile fun y=>kr y x).length:Nat):Int)<(A.length:Int) by omega),cond_true,ar,h1,Option.bind_some,Option.bind_some];simp
 ·rw[if_neg hx];have e1:A.take (A.takeWhile fun y=>kr y x).length=A.takeWhile fun y=>kr y x:=by
   conv=>lhs;arg 2;rw[<-hs1]
   rw[List.take_left]
  have e2:A.drop (A.takeWhile fun y=>kr y x).length=A.dropWhile fun y=>kr y x:=by
   conv=>lhs;arg 2;rw[<-hs1]
   rw[List.drop_left]
  have ht:(((bif(decide (((A.takeWhile fun y=>kr y x).length:Int)<(A.length:Int)))then((at' A ((A.takeWhile fun y=>kr y x).length:Int)).bind fun x8=>some (x8.toList==x.toList))else some false)):Option Bool)=some false:=by
   by_cases hlt:(A.takeWhile fun y=>kr y x).length<A.length
   ·have hy:A[(A.takeWhile fun y=>kr y x).length]? =some (A[(A.takeWhile fun y=>kr y x).length]'hlt):=List.getElem?_eq_getElem _;generalize A[(A.takeWhile fun y=>kr y x).length]'hlt=y at hy;rw[decide_eq_true (by omega),cond_true,ar,hy,Option.bind_some];cases hq:y.toList==x.toList with
    | false=>rfl
    | true=>
     exfalso;apply hx;have:y=x:=by
      rw[beq_iff_eq,Lib.toList_data,Lib.toList_data]at hq;obtain⟨x⟩:=x;obtain⟨y⟩:=y;exact congrArg ByteArray.mk (Array.toList_inj.1 hq)
     rw[<-this];exact List.mem_of_getElem? hy
   ·rw[decide_eq_false (by omega)];rfl
  rw[ht];simp only[Option.bind_some,cond_false];rw[kE (by omega) (by omega) (by omega),Option.bind_some];simp only[Int.toNat_natCast,List.drop_zero,Nat.sub_zero,e1];rw[bQ (by simp;omega),Option.bind_some,List.nil_append,bQ (by simp;omega),Option.bind_some,kE (by omega) (by omega) (by omega),Option.bind_some];simp only[Int.toNat_natCast,e2];have e3:(A.dropWhile fun y=>kr y x).take (A.length -(A.takeWhile fun y=>kr y x).length)=A.dropWhile fun y=>kr y x:=List.take_of_length_le (by omega);rw[e3,bQ (by simp;omega),Option.bind_some];unfold jW;simp
theorem Bw: ∀(L A:List ByteArray),A.Pairwise (fun a b=>kr a b=true)->(L.foldl yl A).Pairwise (fun a b=>kr a b=true)/\ ∀z,z∈L.foldl yl A↔z∈A\/z∈L
 | [],A,h=>⟨h,by simp⟩
 | x::L,A,h=>by
  rw[List.foldl_cons];obtain⟨h1,h2⟩:=Bw L (yl A x) (zy h);refine⟨h1,fun z=> ?_⟩;rw[h2,La,List.mem_cons];constructor
  ·rintro((h | h) | h)
   ·exact .inr (.inl h)
   ·exact .inl h
   ·exact .inr (.inr h)
  ·rintro(h | h | h)
   ·exact .inl (.inr h)
   ·exact .inl (.inl h)
   ·exact .inr h
theorem CO(L:List ByteArray):L.foldl yl []=gm L:=by
 obtain⟨h1,h2⟩:=Bw L [] List.Pairwise.nil;refine It h1 (tK L) fun z=> ?_;rw[h2,tJ];simp
theorem GP(L:List ByteArray):(gm L).length<=L.length:=by
 unfold gm zo;rw[List.length_map];have:=FB ((oA L).map fun s=>s.data.toList);rw[List.length_map,uM]at this;exact this
theorem nE{α β A:Type}{L:List α}(hL:L.length<=100000)(f:α->Option β){B:Int->List β->Option (List β)}{D:List β->A}(h: ∀(i:Nat) x s,L[i]? =some x->s.length<=1000000->B (i:Int) s=some (s++(f x).toList)):cG (L.length:Int) B D 0 []=some (D (L.filterMap f)):=by
 have h1:=qC 200000 (show L.length<=1000000 by omega) (by omega) (B:=B) (D:=D) (fun i=>((L[i]?).bind f).toList) (fun i=>by cases (L[i]?).bind f<;>simp) [] (by simp;omega) (fun i s hi hs=>by
  rw[h i L[i] s (List.getElem?_eq_getElem hi) (by omega),List.getElem?_eq_getElem hi];rfl)
 rw[h1,List.nil_append,vG];congr 2;clear h h1 hL
 induction L with
 | nil=>rfl
 | cons x L ih=>
  rw[List.flatMap_cons,ih];cases hx:f x
  ·rw[List.filterMap_cons_none hx];rfl
  ·rw[List.filterMap_cons_some hx];rfl
theorem Eu{α:Type}(p:α->Bool)(L:List α):L.filterMap (fun x=>bif p x then some x else none)=L.filter p:=by
 induction L with
 | nil=>rfl
 | cons x L ih=>
  cases hx:p x
  ·rw[List.filterMap_cons_none (by rw[hx];rfl),List.filter_cons_of_neg (by simp[hx]),ih]
  ·rw[List.filterMap_cons_some (b:=x) (by rw[hx];rfl),List.filter_cons_of_pos hx,ih]
theorem Ew{α S A:Type}{L:List α}(hL:L.length<=9223372036854775807){B:Int->S->Option S}{D:S->A}(I:Nat->S->Prop)(g:S->α->S){s:S}(h: ∀(i:Nat) x s,L[i]? =some x->I i s->B (i:Int) s=some (g s x)/\I (i+1) (g s x))(h2:I 0 s):cG (L.length:Int) B D 0 s=some (D (L.foldl g s))/\I L.length (L.foldl g s):=by
 have key: ∀(M:List α) (k:Nat) (s:S),(∀j x s,M[j]? =some x->I (k+j) s->B ((k+j:Nat):Int) s=some (g s x)/\I (k+j+1) (g s x))->I k s->cV (fun i s=>(B (i:Int) s).map .inl) D M.length k s=some (D (M.foldl g s))/\I (k+M.length) (M.foldl g s):=by
  intro M
  induction M with
  | nil=>exact fun k s _ h=>⟨rfl,h⟩
  | cons x l ih=>
   intro k s h h2;have h3:=h 0 x s rfl h2;rw[Nat.add_zero]at h3;show((B (k:Int) s).map .inl).bind (Sum.elim (cV (fun i s=>(B (i:Int) s).map .inl) D l.length (k+1)) some)=_/\_;rw[h3.1];have:=ih (k+1) _ (fun j y s hy h5=>by
    have:=h (j+1) y s (by simpa using hy) (by rw[show k+(j+1)=k+1+j by omega];exact h5);rw[show k+1+j=k+(j+1)from by omega];exact this) h3.2
   rw[List.length_cons,show k+(l.length+1)=k+1+l.length by omega];exact this
 rw[eF,fg _ hL];have:=key L 0 s (fun j x s hx hI=>by
  rw[Nat.zero_add]at hI⊢;exact h j x s hx hI) h2
 rw[Nat.zero_add]at this;exact this
theorem FE{α:Type}{L:List α}(hL:L.length<=1000000)(q:α->Bool){T:α->Option Bool}(hT: ∀x∈L,T x=some (q x)): ∀(m i k:Nat) (M:List α),i+m=L.length->k<=i->M.length=L.length->M.drop i=L.drop i->M.take k=(L.take i).filter (fun x=> !q x)->
  ∃r:Int×List α,mb (fun(i4:Int) (s4:Int×(List α))=>(decide (i4<(s4.2.length:Int)))) (fun(i4:Int) (s4:Int×(List α))=>((at' s4.2 i4).bind fun x8=>((T x8).bind fun x9=>(bif(!x9)then((at' s4.2 s4.1).bind fun _=>some ((ap (s4.1+1)),(List.set s4.2 (Int.toNat s4.1) x8)))else some (s4.1,s4.2))))) (fun(s4:Int×(List α))=>(s4.1,s4.2)) (i:Int) ((k:Int),M)=some r/\ ∃k':Nat,r.1=(k':Int)/\k'<=L.length/\r.2.length=L.length/\r.2.take k'=L.filter (fun x=> !q x):=by
 intro m
 induction m with
 | zero=>
  intro i k M hi hk hM _ ht;unfold mb;rw[bF];dsimp only;rw[decide_eq_false (by omega),cond_false];exact⟨_,rfl,k,rfl,by omega,hM,by rw[ht,List.take_of_length_le (by omega)]⟩
 | succ m ih=>
  intro i k M hi hk hM hd ht;have hlt:i<L.length:=by omega
  have hx:M[i]? =some L[i]:=by
   have h1:=congrArg (fun l:List α=>l[0]?) hd;simp only[List.getElem?_drop,Nat.add_zero]at h1;rw[h1,List.getElem?_eq_getElem hlt]
  have htk:L.take (i+1)=L.take i++[L[i]]:=by
   rw[List.take_add_one,List.getElem?_eq_getElem hlt];rfl
  have hdr:M.drop (i+1)=L.drop (i+1):=by
   have:=congrArg (List.drop 1) hd;rw[List.drop_drop,List.drop_drop]at this;exact this
  unfold mb;rw[bF];dsimp only;have hat:at' M (i:Int)=some L[i]:=by rw[ar,hx]
  rw[decide_eq_true (by omega),cond_true,hat];simp only[Option.bind_some,hT L[i] (List.getElem_mem hlt)];have hwi:ap ((i:Int)+1)=((i+1:Nat):Int):=by
   rw[bg (by omega) (by omega)];omega
  cases hq:q L[i]
  ·have hk2:at' M (k:Int)=some (M[k]'(by omega)):=Bc (by omega);have hwk:ap ((k:Int)+1)=((k+1:Nat):Int):=by
    rw[bg (by omega) (by omega)];omega
   simp only[Bool.not_false,cond_true,hk2,Option.bind_some,hwk,hwi,Int.toNat_natCast];exact ih (i+1) (k+1) (M.set k L[i]) (by omega) (by omega) (by rw[List.length_set];exact hM) (by rw[List.drop_set_of_lt (by omega)];exact hdr) (by
    rw[List.take_add_one,List.take_set_of_le (Nat.le_refl _),List.getElem?_set_self (by omega),ht,htk,List.filter_append,List.filter_cons_of_pos (by simp[hq])];rfl)
  ·simp only[Bool.not_true,cond_false,Option.bind_some,hwi];exact ih (i+1) k M (by omega) (by omega) hM hdr (by
    rw[ht,htk,List.filter_append,List.filter_cons_of_neg (by simp[hq])];simp)
theorem DD{α:Type}(z:α){L:List α}(hL:L.length<=1000000)(q:α->Bool){T:α->Option Bool}(hT: ∀x∈L,T x=some (q x)):
  ((((dc (L.length:Int) (fun(i3:Int) (_:Unit)=>((at' L i3).bind fun x7=>((T x7).bind fun x8=>(bif x8 then some (.inr (.inr i3))else some (.inl ()))))) (fun(_:Unit)=> .inl ()) 0 ())).bind (Sum.elim (fun(_:Unit)=>some (-1)) some)).bind fun x1=>(bif(x1==(-1))then some L else(((mb (fun(i4:Int) (s4:Int×(List α))=>(decide (i4<(s4.2.length:Int)))) (fun(i4:Int) (s4:Int×(List α))=>((at' s4.2 i4).bind fun x8=>((T x8).bind fun x9=>(bif(!x9)then((at' s4.2 s4.1).bind fun _=>some ((ap (s4.1+1)),(List.set s4.2 (Int.toNat s4.1) x8)))else some (s4.1,s4.2))))) (fun(s4:Int×(List α))=>(s4.1,s4.2)) (ap (x1+1)) (x1,L))).bind fun(j2:Int×(List α))=>((Ku z j2.2 j2.1).bind fun x11=>((eZ x11 0 j2.1).bind fun x12=>some x12)))))=some (L.filter fun x=> !q x):=by
 rw[fE (by omega) q (fun i x hx=>by
  rw[ar,hx,Option.bind_some,hT x (List.mem_of_getElem? hx),Option.bind_some]),Option.bind_some]
 have hlt:=wG q L;have hany:=p9 q L;by_cases hneg:gX q L<0
 ·rw[decide_eq_true hneg]at hany;rw[beq_iff_eq.2 (show gX q L= -1 by omega),cond_true];congr 1;refine(List.filter_eq_self.2 fun x hx=> ?_).symm;have h3:L.any q=false:=by simpa using hany.symm
  have:=List.any_eq_false.1 h3 x hx;simpa using this
 ·rw[beq_eq_false_iff_ne.2 (show gX q L≠ -1 by omega),cond_false];obtain⟨i,hi⟩:=Int.eq_ofNat_of_zero_le (show 0<=gX q L by omega);have hil:i<L.length:=by omega
  rw[hi];have hpre: ∀{M:List α} {i:Nat},gX q M=(i:Int)->(M.take i).filter (fun x=> !q x)=M.take i/\ ∃x,M[i]? =some x/\q x=true:=by
   intro M
   induction M with
   | nil=>intro i h;simp[gX]at h
   | cons x M ih=>
    intro i h;unfold gX at h;cases hx:q x
    ·rw[hx,cond_false]at h;dsimp only at h;by_cases h2:gX q M<0
     ·rw[decide_eq_true h2,cond_true]at h;omega
     ·rw[decide_eq_false h2,cond_false]at h;obtain⟨j,rfl⟩: ∃j,i=j+1:=⟨i - 1,by omega⟩;obtain⟨h3,y,h4,h5⟩:=ih (i:=j) (by omega);refine⟨?_,y,by rw[List.getElem?_cons_succ];exact h4,h5⟩;rw[List.take_succ_cons,List.filter_cons_of_pos (by simp[hx]),h3]
    ·rw[hx,cond_true]at h;have:i=0:=by omega
     subst this;exact⟨rfl,x,rfl,hx⟩
  obtain⟨h3,y,h4,h5⟩:=hpre hi;have hwi:ap ((i:Int)+1)=((i+1:Nat):Int):=by
   rw[bg (by omega) (by omega)];omega
  have htk:L.take (i+1)=L.take i++[y]:=by
   rw[List.take_add_one,h4];rfl
  obtain⟨r,r1,k',k1,k2,k3,k4⟩:=FE hL q hT (L.length -(i+1)) (i+1) i L (by omega) (by omega) rfl rfl (by
   rw[htk,List.filter_append,h3,List.filter_cons_of_neg (by simp[h5])];simp)
  rw[hwi,r1,Option.bind_some,k1];by_cases hk:k'<L.length
  ·unfold Ku;have hk3:(k':Int)<r.2.length:=by omega
   rw[if_pos ⟨by omega,hk3⟩,Option.bind_some,Int.toNat_natCast,kE (by omega) (by omega) (by rw[List.length_append,List.length_take,List.length_replicate];omega),Option.bind_some];congr 1;rw[show(0:Int).toNat=0 from rfl,List.drop_zero,Nat.sub_zero,Int.toNat_natCast,List.take_append_of_le_length (by rw[List.length_take];omega),List.take_take,Nat.min_self,k4]
  ·exfalso;have h6:(L.filter fun x=> !q x).length=L.length:=by
    rw[<-k4,List.length_take];omega
   have h7:=List.length_filter_eq_length_iff.1 h6 y (List.mem_of_getElem? h4);rw[h5]at h7;cases h7
def byS(L:List Claim)(S:List ByteArray):List Claim:=L.filter fun c=>S.any fun x=>c.Source.toList==x.toList
theorem Ei{L:List Claim}{S:List ByteArray}{c:Claim}:c∈byS L S↔c∈L/\c.Source∈S:=by
 unfold byS;rw[List.mem_filter,any_eq]
theorem Ez{L:List Claim}(hL:L.length<=1000){S:List ByteArray}(hS:S.length<=1000):fh L S=some (byS L S):=by
 have h1:dZ L=some L:=by
  unfold dZ;rw[if_pos (by omega)]
 unfold fh;rw[h1,Option.bind_some];have h2:=DD (Claim.mk (ByteArray.mk #[]) 0 (ByteArray.mk #[]) (ByteArray.mk #[]) (Span.mk 0 0) 0) (L:=L) (by omega) (fun c=> !(S.any fun x=>c.Source.toList==x.toList)) (T:=fun c=>fA c S) (fun c _=>by
  unfold fA;rw[contains_eq (by omega),Option.bind_some])
 have h3:bH L S=some (L.filter fun c=> !!(S.any fun x=>c.Source.toList==x.toList)):=h2;rw[h3,Option.bind_some];congr 2;funext c;rw[Bool.not_not]
theorem Ih{L:List Claim}(hL:L.length<=1000){S:List ByteArray}(hS:S.length<=1000):oG L S=some (byS L S):=by
 unfold oG;rw[nE (by omega) (fun c=>bif S.any (fun x=>c.Source.toList==x.toList)then some c else none) (fun i c s hc hs=>by
  obtain⟨n,n1,n2⟩:=Ev (L:=S) (by omega) c.Source;have hat:at' L (i:Int)=some c:=by rw[ar,hc]
  simp only[hat,Option.bind_some,n1];cases hb:S.any (fun x=>c.Source.toList==x.toList)
  ·have:c.Source∉S:=fun h=>by rw[any_eq.2 h]at hb;cases hb
   rw[decide_eq_false (show ¬n>=0 by have:=n2.2 this;omega)];simp
  ·have: ¬n<0:=fun h=>n2.1 h (any_eq.1 hb);rw[decide_eq_true (show n>=0 by omega),cond_true,bQ (by simp;omega)];rfl),Option.bind_some,Eu]
 rfl
def pick(A:List ByteArray)(R:List Int):List ByteArray:=R.map fun x=>A.getD x.toNat (ByteArray.mk #[])
theorem lC(A:List ByteArray)(R:List Int):(pick A R).length=R.length:=List.length_map _
theorem J1(A:List ByteArray)(R:List Int){i:Nat}(h:i<A.length):pick A (R++[(i:Int)])=pick A R++[A[i]]:=by
 unfold pick;rw[List.map_append,List.map_cons,List.map_nil,Int.toNat_natCast,List.getD_eq_getElem?_getD,List.getElem?_eq_getElem h];rfl
theorem LG{A:List ByteArray}{R:List Int}(hR:gG A.length R){s:ByteArray}(h:s∈pick A R):s∈A:=by
 obtain⟨x,hx,rfl⟩:=List.mem_map.1 h;have:=hR.2 x hx;rw[List.getD_eq_getElem?_getD,List.getElem?_eq_getElem (by omega)];exact List.getElem_mem _
theorem I4{A:List ByteArray}{R:List Int}{k:Nat}(hk:k<R.length):at' (pick A R) (k:Int)=some (A.getD R[k].toNat (ByteArray.mk #[])):=by
 rw[ar];unfold pick;rw[List.getElem?_map,List.getElem?_eq_getElem hk];rfl
def allI(n:Nat):List Int:=(List.range n).map fun(i:Nat)=>(i:Int)
theorem A9(n:Nat):gG n (allI n):=by
 refine⟨?_,fun x hx=> ?_⟩
 ·unfold allI;rw[List.pairwise_map];exact(List.pairwise_lt_range (n:=n)).imp fun h=>by omega
 ·obtain⟨i,hi,rfl⟩:=List.mem_map.1 hx;have:=List.mem_range.1 hi;omega
theorem Gz(A:List ByteArray):pick A (allI A.length)=A:=by
 unfold pick allI;rw[List.map_map];refine List.ext_getElem (by simp) fun i h1 h2=> ?_;simp[List.getElem?_eq_getElem h2]
def ob(L:List Claim)(A:List ByteArray)(R:List Int):Bool:= !mH (byS L (pick A R))
section
variable {L : List Claim} {A : List ByteArray}
theorem Ho(hc:aU L=true)(S:List ByteArray):(byS L S).length<=100/\ ∀x∈byS L S,cg x=true:=by
 have h:=az.1 hc;have h1:(byS L S).length<=L.length:=List.length_filter_le _ _;exact⟨by omega,fun x hx=>h.2 x (Ei.1 hx).1⟩
theorem KF(hc:aU L=true){R:List Int}(hR:R.length<=1000):((fh L (pick A R)).bind fun x26=>((bJ x26).bind fun x27=>some (!x27)))=some (ob L A R):=by
 have h:=az.1 hc;have h2:=Ho hc (pick A R);rw[Ez (by omega) (by rw[lC];omega),Option.bind_some,fy h2.1 h2.2];rfl
theorem KG(hc:aU L=true){R:List Int}(hR:R.length<=1000):((oG L (pick A R)).bind fun x1=>((bB x1).bind fun x2=>some (pick A R,(!x2))))=some (pick A R,ob L A R):=by
 have h:=az.1 hc;have h2:=Ho hc (pick A R);rw[Ih (by omega) (by rw[lC];omega),Option.bind_some,kd h2.1 h2.2];rfl
theorem IB:ob L A []=false:=by
 have:byS L (pick A [])=[]:=List.eq_nil_iff_forall_not_mem.2 fun x hx=>by
  have:=(Ei.1 hx).2;simp[pick]at this
 unfold ob;rw[this];rfl
theorem K0(hc:aU L=true)(h:mH L=true)(R:List Int):ob L A R=false:=by
 have h1:=az.1 hc;unfold ob;rw[vD (by omega) (Ho hc (pick A R)).1 (fun x hx=>(Ei.1 hx).1) h1.2 h];rfl
theorem IA(h:mH L=false)(hA: ∀c∈L,c.Source∈A):ob L A (allI A.length)=true:=by
 have:byS L A=L:=List.filter_eq_self.2 fun c hc=>any_eq.2 (hA c hc);unfold ob;rw[Gz,this,h];rfl
theorem MG(hA:A.Pairwise fun a b=>kr a b=true){x y:Int}(hx:0<=x/\x<A.length)(hy:0<=y/\y<A.length):fq (A.getD x.toNat (ByteArray.mk #[])) (A.getD y.toNat (ByteArray.mk #[]))=some (if x<y then -1 else if y<x then 1 else 0):=by
 obtain⟨i,rfl⟩:=Int.eq_ofNat_of_zero_le hx.1;obtain⟨j,rfl⟩:=Int.eq_ofNat_of_zero_le hy.1;have hi:i<A.length:=by omega
 have hj:j<A.length:=by omega
 have hlt: ∀{i j:Nat} (hi:i<A.length) (hj:j<A.length),i<j->Op.bytesLess A[i].toList A[j].toList=true:=fun hi hj h=>List.pairwise_iff_getElem.1 hA _ _ hi hj h;rw[Int.toNat_natCast,Int.toNat_natCast,List.getD_eq_getElem?_getD,List.getD_eq_getElem?_getD,List.getElem?_eq_getElem hi,List.getElem?_eq_getElem hj,Option.getD_some,Option.getD_some];unfold fq cmp_isNaN_string;simp only[beq_self_eq_true,Bool.not_true,Option.bind_some,cond_false];rcases Nat.lt_trichotomy i j with h | h | h
 ·rw[hlt hi hj h,if_pos (by omega)];rfl
 ·subst h;rw[show Op.bytesLess A[i].toList A[i].toList=false from nU _,beq_self_eq_true,if_neg (by omega),if_neg (by omega)];rfl
 ·have h1:=hlt hj hi h;have h2:Op.bytesLess A[i].toList A[j].toList=false:=Be h1;have h3:(A[i].toList==A[j].toList)=false:=by
   rw[beq_eq_false_iff_ne];intro e;rw[e,nU]at h1;cases h1
  rw[h2,h3,if_neg (by omega),if_pos (by omega)];rfl
theorem GK(hA:A.Pairwise fun a b=>kr a b=true)(hn:A.length<=1000){a b:List Int}(ha:gG A.length a)(hb:gG A.length b):dW (pick A a) (pick A b)=some (cmpL a b):=by
 have la:=ha.len;have lb:=hb.len;unfold dW;rw[fg _ (by rw[lC];omega)];simp only[lC];have key: ∀(M:List Int) (k:Nat),a.drop k=M->k+M.length=a.length->k<=b.length-> ∃r,cV (fun(i3:Nat) (_:Unit)=>((at' (pick A a) (i3:Int)).bind fun x7=>(bif(decide ((i3:Int)>=(b.length:Int)))then some (Sum.inr (Sum.inr 1))else((at' (pick A b) (i3:Int)).bind fun x8=>((fq x7 x8).bind fun x9=>(bif(x9 !=0)then some (Sum.inr (Sum.inr x9))else some (Sum.inl ()))))))) (fun _=>(Sum.inl ():Unit⊕Int)) M.length k ()=some r/\Sum.elim (fun(_:Unit)=>(bif(decide ((a.length:Int)<(b.length:Int)))then some (-1)else some 0)) some r=some (cmpL M (b.drop k)):=by
  intro M
  induction M with
  | nil=>
   intro k _ hk hkb;refine⟨.inl (),rfl,?_⟩;simp only[Sum.elim_inl];simp only[List.length_nil,Nat.add_zero]at hk;by_cases h:a.length<b.length
   ·rw[decide_eq_true (show(a.length:Int)<b.length by omega),List.drop_eq_getElem_cons (show k<b.length by omega)];rfl
   ·rw[decide_eq_false (show ¬(a.length:Int)<b.length by omega),List.drop_eq_nil_of_le (by omega)];rfl
  | cons x M ih=>
   intro k hd hk hkb;simp only[List.length_cons]at hk;have hka:k<a.length:=by omega
   rw[List.drop_eq_getElem_cons hka]at hd;injection hd with hx hd;rw[List.length_cons];unfold cV;rw[I4 hka,Option.bind_some,hx];by_cases h:k<b.length
   ·rw[decide_eq_false (show ¬(k:Int)>=b.length by omega),cond_false,I4 h,Option.bind_some,MG hA (hx▸ha.2 _ (List.getElem_mem hka)) (hb.2 _ (List.getElem_mem h)),Option.bind_some,List.drop_eq_getElem_cons h,pT];by_cases h1:x<b[k]
    ·rw[if_pos h1,if_pos h1];exact⟨_,rfl,rfl⟩
    ·by_cases h2:b[k]<x
     ·rw[if_neg h1,if_pos h2,if_neg h1,if_pos h2];exact⟨_,rfl,rfl⟩
     ·rw[if_neg h1,if_neg h2,if_neg h1,if_neg h2];exact ih (k+1) hd (by omega) (by omega)
   ·rw[decide_eq_true (show(k:Int)>=b.length by omega),List.drop_eq_nil_of_le (by omega)];exact⟨_,rfl,rfl⟩
 obtain⟨r,h1,h2⟩:=key a 0 rfl (by omega) (Nat.zero_le _);rw[h1,Option.bind_some,h2];rfl
theorem Ol(p q:Int):ja [p,q]=some (if p≠0 then p else q):=by
 unfold ja;rw[fD (L:=[p,q]) (by simp) (fun _ x=>x !=0) (fun _ x=>x) (fun i x hx=>by rw[ar,hx];rfl)];by_cases h1:p=0
 ·subst h1;by_cases h2:q=0
  ·subst h2;rfl
  ·have e2:(q !=0)=true:=by simpa using h2
   simp only[bW,bne_self_eq_false,cond_false,e2,cond_true];simp
 ·have e1:(p !=0)=true:=by simpa using h1
  simp only[bW,e1,cond_true];simp[h1]
theorem Nb(a b:List Int):decide ((if(if(a.length:Int)<(b.length:Int)then(-1:Int)else if(b.length:Int)<(a.length:Int)then 1 else 0)≠0 then(if(a.length:Int)<(b.length:Int)then(-1:Int)else if(b.length:Int)<(a.length:Int)then 1 else 0)else cmpL a b)<0)=true↔lU (fun _=>0) a b:=by
 rw[decide_eq_true_eq];unfold lU;by_cases h1:a.length<b.length
 ·rw[if_pos (show(a.length:Int)<b.length by omega),if_pos (by decide)];exact⟨fun _=> .inr ⟨rfl,.inl h1⟩,fun _=>by omega⟩
 ·rw[if_neg (show ¬(a.length:Int)<b.length by omega)];by_cases h2:b.length<a.length
  ·rw[if_pos (show(b.length:Int)<a.length by omega),if_pos (by decide)];exact⟨fun h=>by omega,fun h=>by
    rcases h with h | ⟨_,h | ⟨h,_⟩⟩
    ·exact absurd h (Int.lt_irrefl 0)
    ·omega
    ·omega⟩
  ·rw[if_neg (show ¬(b.length:Int)<a.length by omega),if_neg (by decide)];exact⟨fun h=> .inr ⟨rfl,.inr ⟨by omega,h⟩⟩,fun h=>by
    rcases h with h | ⟨_,h | ⟨_,h⟩⟩
    ·exact absurd h (Int.lt_irrefl 0)
    ·omega
    ·exact h⟩
theorem KZ{S T D':Type}{n:Nat}(hn:n<=9223372036854775807){B:Int->S->Option S}{D:S->D'}(f:T->S)(I:T->Prop)(g:T->Nat->T)(t:T)(h: ∀(i:Nat) t,i<n->I t->B (i:Int) (f t)=some (f (g t i))/\I (g t i))(h2:I t):cG (n:Int) B D 0 (f t)=some (D (f ((List.range n).foldl g t)))/\I ((List.range n).foldl g t):=by
 have key: ∀(m k:Nat) (t:T),k+m<=n->I t->cV (fun i s=>(B (i:Int) s).map (Sum.inl (β:=D'))) D m k (f t)=some (D (f ((List.range' k m).foldl g t)))/\I ((List.range' k m).foldl g t):=by
  intro m
  induction m with
  | zero=>intro k t _ h;exact⟨rfl,h⟩
  | succ m ih=>
   intro k t hk hI;have h3:=h k t (by omega) hI;unfold cV;rw[h3.1,List.range'_succ,List.foldl_cons];exact ih (k+1) _ (by omega) h3.2
 rw[eF,fg n hn,List.range_eq_range'];exact key n 0 t (by omega) h2
theorem J0{R:List Int}(hR:gG A.length R)(hn:A.length<=1000):((cG (R.length:Int) (fun(i16:Int) (s16:(List ByteArray))=>((at' R i16).bind fun x20=>((at' A x20).bind fun x21=>((bP s16 ([x21]:List ByteArray)).bind fun x22=>some x22)))) (fun(s16:(List ByteArray))=>s16) 0 ([]:List ByteArray)))=some (pick A R):=by
 have:=hR.len;rw[nE (by omega) (fun x=>some (A.getD x.toNat (ByteArray.mk #[]))) (fun i x s hx hs=>by
  have hat:at' R (i:Int)=some x:=by rw[ar,hx]
  have h2:=hR.2 x (List.mem_of_getElem? hx);obtain⟨k,rfl⟩:=Int.eq_ofNat_of_zero_le h2.1;have hk:k<A.length:=by omega
  rw[hat,Option.bind_some,Bc hk,Option.bind_some,bQ (by simp;omega),Option.bind_some,Int.toNat_natCast,List.getD_eq_getElem?_getD,List.getElem?_eq_getElem hk];rfl)]
 congr 1;unfold pick;exact congrFun (List.filterMap_eq_map (f:=fun x:Int=>A.getD x.toNat (ByteArray.mk #[]))) R
theorem Ai{n:Nat}(hc:aU L=true)(hsm: ∀x∈L,cW x)(hco:mH L=false)(hA:A.Pairwise fun a b=>kr a b=true)(hAm: ∀c∈L,c.Source∈A)(hn:A.length=n)(h12:n<=12)(hs:jl L=some A): ∃R,cn L=some (pick A R,0)/\gH (fun _=>0) (allI n::((List.range (2^n)).map (dX n)).filter (ob L A)) R:=by
 have hcl:=az.1 hc;have hpow:2^n<=2^12:=Nat.pow_le_pow_right (by omega) h12;have hbad:=IA (A:=A) hco hAm;have e0:(sh' ((A.length:Nat):Int))=some ():=by unfold sh';rw[if_pos (by omega)]
 unfold cn;have hcl2:ek L=some true:=by rw[jf (by omega) hsm,hc]
 rw[hcl2,Option.bind_some,fy (by omega) hcl.2,Option.bind_some,hco];simp only[Bool.not_true,cond_false,Option.bind_some,Sum.elim_inl,hs,e0,hn];rw[AZ n (by omega)];obtain⟨h1,h2⟩:=KZ (D':=List ByteArray) (n:=2^n) (by omega) (B:=fun(i9:Int) (s9:(List ByteArray))=>((gg i9).bind fun x13=>(((cG (x13.length:Int) (fun(i16:Int) (s16:(List ByteArray))=>((at' x13 i16).bind fun x20=>((at' A x20).bind fun x21=>((bP s16 ([x21]:List ByteArray)).bind fun x22=>some x22)))) (fun(s16:(List ByteArray))=>s16) 0 ([]:List ByteArray))).bind fun(j14:(List ByteArray))=>((((ir (j14.length:Int) (s9.length:Int)).bind fun x23=>((dW j14 s9).bind fun x24=>((ja ([x23,x24]:List Int)).bind fun x25=>(bif(decide (x25<0))then((fh L j14).bind fun x26=>((bJ x26).bind fun x27=>some (!x27)))else some false))))).bind fun(j28:Bool)=>(bif j28 then some j14 else some s9))))) (D:=fun s=>s) (pick A) (gG n) (fun R b=>bif @decide (lU (fun _=>0) (dX n b) R) (Classical.propDecidable _)&&ob L A (dX n b)then dX n b else R) (allI n) (fun b R hb hR=>by
  have hI:=qq n b;have hl:=hI.len;rw[oq (by omega) hb,Option.bind_some,J0 (hn▸hI) (by omega),Option.bind_some,lC,lC,IF,Option.bind_some,GK hA (by omega) (hn▸hI) (hn▸hR),Option.bind_some,Ol,Option.bind_some,KF hc (by omega)];have hk:=Nb (dX n b) R;generalize hd:decide (_<(0:Int))=d at hk⊢;cases d
  ·have: ¬lU (fun _=>0) (dX n b) R:=fun h=>by have:=hk.2 h;cases this
   rw[@decide_eq_false _ (Classical.propDecidable _) this];exact⟨rfl,hR⟩
  ·rw[@decide_eq_true _ (Classical.propDecidable _) (hk.1 rfl),cond_true,Option.bind_some,Bool.true_and];cases ob L A (dX n b)
   ·exact⟨rfl,hR⟩
   ·exact⟨rfl,hI⟩) (A9 n)
 have e1:pick A (allI n)=A:=by rw[<-hn];exact Gz A
 rw[e1]at h1;rw[h1,Option.bind_some];refine⟨_,rfl,?_⟩;have hl:=tx (w:=fun _=>0) (fun a b=> @decide (lU (fun _=>0) a b) (Classical.propDecidable _)) (fun a b=>by rw[@decide_eq_true_eq _ (Classical.propDecidable _)]) (ob L A) ((List.range (2^n)).map (dX n)) [allI n] (allI n) ⟨by simp,fun r hr=> .inl (List.mem_singleton.1 hr)⟩;rw[List.foldl_map]at hl;exact hl
theorem JH(hL:L.length<=1000):jl L=some (gm (L.map Claim.Source)):=by
 unfold jl;rw[nE (by omega) (fun c=>some c.Source) (fun i c s hc hs=>by
  rw[ar,hc,Option.bind_some,bQ (by simp;omega)];rfl),Option.bind_some,List.filterMap_eq_map']
 unfold mQ;rw[if_pos (by rw[List.length_map];omega)];rfl
theorem Kf(hL:L.length<=1000):iF L=some (gm (L.map Claim.Source)):=by
 unfold iF;rw[(Ew (L:=L) (by omega) (B:=fun(i3:Int) (s3:(List ByteArray))=>((at' L i3).bind fun x7=>((jv s3 x7.Source).bind fun x8=>some x8))) (D:=fun s=>s) (fun i s=>s.Pairwise (fun a b=>kr a b=true)/\s.length<=i) (fun s c=>yl s c.Source) (s:=[]) (fun i c s hc hs=>by
  have hi:=(List.getElem?_eq_some_iff.1 hc).1;have hl:=K9 s c.Source;rw[ar,hc,Option.bind_some,Ke (by omega) hs.1];exact⟨rfl,zy hs.1,by omega⟩) ⟨List.Pairwise.nil,by simp⟩).1,Option.bind_some]
 congr 1;rw[<-CO,List.foldl_map]
theorem FO{α:Type}(p:α->Bool)(x y:List α):(x++y).find? p=match x.find? p with | some r=>some r | none=>y.find? p:=by
 rw[List.find?_append];cases x.find? p<;>rfl
def Few(A:List ByteArray)(o:Option (List Int))(r:Option (List ByteArray×Bool)):Prop:=match o with
 | some Q=>r=some (pick A Q,true)
 | none=> ∃l,r=some (l,false)
theorem KY(hc:aU L=true)(h12:A.length<=12): ∀(m fuel f:Nat) (R:List Int),m<fuel->gG A.length R->fk R f->m<=100->Few A ((pU A.length m f R).find? (ob L A)) (da fuel L A (pick A R) f m)
 | m,0,f,R,h,_,_,_=>by omega
 | 0,fuel+1,f,R,_,hR,_,_=>by
  have hl:=hR.len;unfold pU da;rw[show(((0:Nat):Int)==0)=true from rfl,cond_true,KG hc (by omega),List.find?_cons];cases ob L A R
  ·exact⟨_,rfl⟩
  ·rfl
 | m+1,fuel+1,f,R,hf,hR,hN,hm=>by
  have hl:=hR.len;have key: ∀(j i:Nat),i+j=A.length->f<=i->match((List.range' i j).flatMap fun i=>pU A.length m (i+1) (R++[(i:Int)])).find? (ob L A)with
    | some Q=>cV (fun(i5:Nat) (_:Unit)=>((bP ([]:List ByteArray) (pick A R)).bind fun x9=>((at' A (i5:Int)).bind fun x10=>((bP x9 ([x10]:List ByteArray)).bind fun x11=>((da fuel L A x11 (ap ((i5:Int)+1)) (ap (((m+1:Nat):Int)- 1))).bind fun x12=>(bif x12.2 then some (Sum.inr (Sum.inr (x12.1,true)))else some (Sum.inl ()))))))) (fun(_:Unit)=>(Sum.inl ():Unit⊕(List ByteArray×Bool))) j i ()=some (.inr (pick A Q,true))
    | none=>cV (fun(i5:Nat) (_:Unit)=>((bP ([]:List ByteArray) (pick A R)).bind fun x9=>((at' A (i5:Int)).bind fun x10=>((bP x9 ([x10]:List ByteArray)).bind fun x11=>((da fuel L A x11 (ap ((i5:Int)+1)) (ap (((m+1:Nat):Int)- 1))).bind fun x12=>(bif x12.2 then some (Sum.inr (Sum.inr (x12.1,true)))else some (Sum.inl ()))))))) (fun(_:Unit)=>(Sum.inl ():Unit⊕(List ByteArray×Bool))) j i ()=some (.inl ()):=by
   intro j
   induction j with
   | zero=>intro i _ _;rfl
   | succ j ih=>
    intro i hi hfi;have hlt:i<A.length:=by omega
    have h2:=KY hc h12 m fuel (i+1) (R++[(i:Int)]) (by omega) (hR.snoc (by omega) (by omega) fun x hx=>by have:=hN.1 x hx;omega) (hN.snoc hfi) (by omega);rw[J1 A R hlt]at h2;have hb:((bP ([]:List ByteArray) (pick A R)).bind fun x9=>((at' A (i:Int)).bind fun x10=>((bP x9 ([x10]:List ByteArray)).bind fun x11=>((da fuel L A x11 (ap ((i:Int)+1)) (ap (((m+1:Nat):Int)- 1))).bind fun x12=>(bif x12.2 then some (Sum.inr (Sum.inr (x12.1,true)))else some (Sum.inl ()))))))=((da fuel L A (pick A R++[A[i]]) ((i+1:Nat):Int) (m:Int)).bind fun x12=>(bif x12.2 then some (Sum.inr (Sum.inr (x12.1,true)))else some (Sum.inl ())):Option (Unit⊕(Unit⊕(List ByteArray×Bool)))):=by
     rw[bQ (by rw[lC];simp;omega),Option.bind_some,List.nil_append,Bc hlt,Option.bind_some,bQ (by rw[lC];simp;omega),Option.bind_some,bg (by omega) (by omega),bg (by omega) (by omega)];congr 2;omega
    have ih:=ih (i+1) (by omega) (by omega);rw[List.range'_succ,List.flatMap_cons,FO];generalize pU A.length m (i+1) (R++[(i:Int)])=C at h2⊢;unfold Few at h2;cases hC:C.find? (ob L A)with
    | some Q=>
     rw[hC]at h2;simp only;unfold cV;rw[hb,h2];rfl
    | none=>
     rw[hC]at h2;obtain⟨l,h2⟩:=h2;simp only;unfold cV;rw[hb,h2];exact ih
  have hkey:=key (A.length - f) f;unfold pU da;rw[beq_eq_false_iff_ne.2 (show((m+1:Nat):Int)≠0 by omega),cond_false,ur f (by omega),show((A.length:Int)-(f:Int)).toNat=A.length - f by omega];by_cases hfl:f<=A.length
  ·have hkey:=hkey (by omega) (Nat.le_refl _);unfold Few;cases hC:((List.range' f (A.length - f)).flatMap fun i=>pU A.length m (i+1) (R++[(i:Int)])).find? (ob L A)with
   | some Q=>
    rw[hC]at hkey;simp only at hkey⊢;rw[hkey];rfl
   | none=>
    rw[hC]at hkey;simp only at hkey⊢;rw[hkey];exact⟨_,rfl⟩
  ·rw[show A.length - f=0 by omega];exact⟨_,rfl⟩
theorem AG(hc:aU L=true)(hsm: ∀x∈L,cW x)(h12:A.length<=12)(hs:iF L=some A):eu L=match(vm A.length).find? (ob L A)with | some Q=>some (pick A Q,0) | none=>some ([],4):=by
 have hcl:=az.1 hc;unfold eu;rw[lF (by omega) hsm,hc,Option.bind_some,hs,Option.bind_some];simp only[Bool.not_true,cond_false];have key: ∀(j i:Nat),i+j=A.length+1->match((List.range' i j).flatMap fun m=>pU A.length m 0 []).find? (ob L A)with
   | some Q=>HE (fun(i5:Int) (_:Unit)=>(decide (i5<=(A.length:Int)))) (fun(i5:Int) (_:Unit)=>((mV L A ([]:List ByteArray) 0 i5).bind fun x9=>(bif x9.2 then some (Sum.inr (Sum.inr (x9.1,0)))else some (Sum.inl ())))) (fun(_:Unit)=>(Sum.inl ():Unit⊕(List ByteArray×Int))) (i:Int) ()=some (.inr (pick A Q,0))
   | none=>HE (fun(i5:Int) (_:Unit)=>(decide (i5<=(A.length:Int)))) (fun(i5:Int) (_:Unit)=>((mV L A ([]:List ByteArray) 0 i5).bind fun x9=>(bif x9.2 then some (Sum.inr (Sum.inr (x9.1,0)))else some (Sum.inl ())))) (fun(_:Unit)=>(Sum.inl ():Unit⊕(List ByteArray×Int))) (i:Int) ()=some (.inl ()):=by
  intro j
  induction j with
  | zero=>
   intro i hi;show HE _ _ _ _ _=_;unfold HE;rw[bF];dsimp only;rw[decide_eq_false (by omega)];rfl
  | succ j ih=>
   intro i hi;have h2:Few A _ (mV L A ([]:List ByteArray) 0 (i:Int)):=KY hc h12 i 1000 0 [] (by omega) (gG.nil _) fk.nil (by omega);have ih:=ih (i+1) (by omega);have hw:ap ((i:Int)+1)=((i+1:Nat):Int):=by
    rw[bg (by omega) (by omega)];omega
   rw[List.range'_succ,List.flatMap_cons,FO];generalize pU A.length i 0 []=C at h2⊢;unfold Few at h2;cases hC:C.find? (ob L A)with
   | some Q=>
    rw[hC]at h2;simp only at h2⊢;unfold HE;rw[bF];dsimp only;rw[decide_eq_true (by omega),cond_true,h2];rfl
   | none=>
    rw[hC]at h2;obtain⟨l,h2⟩:=h2;unfold HE at ih⊢;rw[bF];dsimp only;rw[decide_eq_true (by omega),cond_true,h2];simp only[Option.bind_some,cond_false,Sum.elim_inl,hw];exact ih
 have hk:=key A.length 1 (by omega);unfold vm;cases hC:((List.range' 1 A.length).flatMap fun m=>pU A.length m 0 []).find? (ob L A)with
 | some Q=>
  rw[hC]at hk;rw[show(1:Int)=((1:Nat):Int)from rfl,hk];rfl
 | none=>
  rw[hC]at hk;rw[show(1:Int)=((1:Nat):Int)from rfl,hk];rfl
theorem Ig(hc:aU L=true)(hsm: ∀x∈L,cW x): ∃S c,cn L=some (S,c)/\eu L=some (S,c)/\(c=0\/c=4)/\S.length<=12/\ ∀s∈S,s∈L.map Claim.Source:=by
 have hcl:=az.1 hc;have h12:(gm (L.map Claim.Source)).length<=12:=by
  have:=GP (L.map Claim.Source);rw[List.length_map]at this;omega
 have hs:=AG hc hsm h12 (Kf (by omega));have hA:=tK (L.map Claim.Source);have hAm: ∀c∈L,c.Source∈gm (L.map Claim.Source):=fun c h=>tJ.2 (List.mem_map_of_mem h);have hAs: ∀s∈gm (L.map Claim.Source),s∈L.map Claim.Source:=fun s h=>tJ.1 h;have hi:=JH (L:=L) (by omega);generalize gm (L.map Claim.Source)=A at*;cases hco:mH L
 ·obtain⟨R,r1,r2⟩:=Ai hc hsm hco hA hAm rfl h12 hi;have hbad:=IA (A:=A) hco hAm;have hall:allI A.length∈vm A.length:=xO.2 ⟨A9 _,fun h=>by rw[h,IB]at hbad;cases hbad⟩;cases hf:(vm A.length).find? (ob L A)with
  | none=>
   have:=List.find?_eq_none.1 hf _ hall;exact absurd hbad this
  | some Q=>
   have hRQ:R=Q:=zV IB hf (fun x=>by
    rw[List.mem_cons,List.mem_filter,List.mem_map];constructor
    ·rintro(rfl | ⟨⟨b,_,rfl⟩,h⟩)
     ·exact⟨A9 _,hbad⟩
     ·exact⟨qq _ _,h⟩
    ·rintro⟨h1,h2⟩;obtain⟨b,b1,b2⟩:=xB _ h1;exact .inr ⟨⟨b,List.mem_range.2 b1,b2⟩,h2⟩) r2
   subst hRQ;rw[hf]at hs;have hI:gG A.length R:=(xO.1 (List.mem_of_find?_eq_some hf)).1;refine⟨_,_,r1,hs,.inl rfl,by rw[lC];have:=hI.len;omega,fun s h=>hAs s (LG hI h)⟩
 ·have hf:(vm A.length).find? (ob L A)=none:=List.find?_eq_none.2 fun R _=>by rw[K0 hc hco R];decide
  rw[hf]at hs;refine⟨[],4,?_,hs,.inr rfl,by simp,by simp⟩;unfold cn;rw[jf (by omega) hsm,hc,Option.bind_some,fy (by omega) hcl.2,Option.bind_some,hco];rfl
end
structure ef (d:bo):Prop where
 c:aU d.Claims=true
 cs: ∀x∈d.Claims,cW x
 s:nj d.Sites=some true
 ss: ∀x∈d.Sites,yH x
theorem ef.OQ:ef (bo.mk [] []):=⟨rfl,by simp,rfl,by simp⟩
abbrev okT:ByteArray:=ByteArray.mk #[111,107]
abbrev NC:ByteArray:=ByteArray.mk #[101,114,114,111,114,32]
def HC(e:Int):ByteArray:=NC++cw e
theorem gK{e:Int}(h0:0<=e)(h9:e<=9):cO e=some (HC e):=by
 have z:=cq (v:=e) (by omega) (by omega);have z1:(ByteArray.mk #[101,114,114,111,114,32]).size=6:=rfl;unfold cO HC;rw[kl _ (by omega) (by omega),Option.bind_some,bZ (by omega)];rfl
theorem JA{e:Int}(h0:0<=e)(h9:e<=9):((bO e).bind fun x18=>cI NC x18)=some (HC e):=by
 have z:=cq (v:=e) (by omega) (by omega);have z1:NC.size=6:=rfl;unfold HC;rw[lG (by omega) (by omega),Option.bind_some,bZ (by omega)]
def JW(t:ByteArray)(e:Int):ByteArray:=bif e !=0 then HC e else t
theorem iA(t:ByteArray){e:Int}(h0:0<=e)(h9:e<=9):cA t e=some (JW t e):=by
 unfold cA JW;cases (e !=0)
 ·rfl
 ·rw[cond_true,cond_true,gK h0 h9];rfl
def Did(d:bo)(i:Option (ByteArray×bo))(s:Option (bo×Int)):Prop:= ∃d' e,s=some (d',e)/\(0<=e/\e<=9)/\i=some (JW okT e,bif e !=0 then d else d')/\(e=0->ef d')
theorem Jp{d:bo}(h:ef d){w:ByteArray}(hw:w.size<=1048576):Did d (fu d w) (kx d w):=by
 obtain⟨c,e,r1,r2,r3⟩:=EP w hw;have h12:=az.1 h.c;unfold fu kx;rw[r1,r2,Option.bind_some,Option.bind_some];rcases r3 with rfl | ⟨rfl,r4,r5⟩
 ·refine⟨d,6,rfl,by omega,?_,fun h=>by cases h⟩;have h6:(((6:Int) !=0))=true:=rfl;simp only[h6,cond_true,gK (e:=6) (by omega) (by omega),Option.bind_some,Sum.elim_inr];rfl
 ·have h0:(((0:Int) !=0))=false:=rfl;by_cases hl:d.Claims.length=12
  ·have hb:((d.Claims.length:Int)==12)=true:=by rw[beq_iff_eq];omega
   refine⟨d,3,?_,by omega,?_,fun h=>by cases h⟩
   ·simp only[h0,cond_false,hb,cond_true]
   ·simp only[h0,cond_false,hb,cond_true,gK (e:=3) (by omega) (by omega),Option.bind_some,Sum.elim_inr];rfl
  ·have hb:((d.Claims.length:Int)==12)=false:=by rw[beq_eq_false_iff_ne];omega
   refine⟨bo.mk (d.Claims++[c]) d.Sites,0,?_,by omega,?_,fun _=>⟨az.2 ⟨by simp;omega,fun x hx=> ?_⟩,fun x hx=> ?_,h.s,h.ss⟩⟩
   ·simp only[h0,cond_false,hb];rw[bQ (by simp;omega),Option.bind_some,List.nil_append,bQ (by simp;omega)];rfl
   ·simp only[h0,cond_false,hb,Option.bind_some,Sum.elim_inl];rw[bQ (by simp;omega)];rfl
   ·rcases List.mem_append.1 hx with hx | hx
    ·exact h12.2 x hx
    ·rw[List.mem_singleton.1 hx];exact r4
   ·rcases List.mem_append.1 hx with hx | hx
    ·exact h.cs x hx
    ·rw[List.mem_singleton.1 hx];exact r5
theorem CK{x y:List Claim}(h:x.length+y.length<=1000000):gJ [x,y]=some (x++y):=by
 unfold gJ;have a0:at' [x,y] 0=some x:=ar (L:=[x,y]) 0;have a1:at' [x,y] 1=some y:=ar (L:=[x,y]) 1;have e1:=FQ (A:=Int) (B:=fun(i3:Int) (s3:Int)=>((at' [x,y] i3).bind fun x7=>(bif(decide ((ap (s3+(x7.length:Int)))<0))then none else some (ap (s3+(x7.length:Int)))))) (D:=fun(s3:Int)=>s3) (s:=0) (a:=(x.length:Int)) (b:=(x.length:Int)+y.length) (by
  simp only[a0,Option.bind_some];rw[bg (by omega) (by omega),decide_eq_false (by omega),cond_false,Int.zero_add]) (by
  simp only[a1,Option.bind_some];rw[bg (by omega) (by omega),decide_eq_false (by omega),cond_false])
 have e2:=FQ (A:=List Claim) (B:=fun(i11:Int) (s11:(List Claim))=>((at' [x,y] i11).bind fun x15=>((bP s11 x15).bind fun x16=>some x16))) (D:=fun(s11:(List Claim))=>s11) (s:=[]) (a:=x) (b:=x++y) (by
  simp only[a0,Option.bind_some];rw[bQ (by simp;omega)];rfl) (by
  simp only[a1,Option.bind_some];rw[bQ (by omega)];rfl)
 rw[show((([x,y]:List (List Claim)).length:Nat):Int)=2 from rfl,e1,Option.bind_some,e2];have h3:FV ((x.length:Int)+y.length)=some ():=by
  unfold FV;rw[decide_eq_true (by omega),decide_eq_true (by omega)];rfl
 rw[h3];rfl
def IH(aD:bo)(n:Int):Option (ByteArray×Int×bo):=((de n 0 (ap ((aD.Claims.length:Int)- 1))).bind fun x12=>(bif(!x12)then some ((ByteArray.mk #[111,107]),2,aD)else((eZ aD.Claims 0 n).bind fun x13=>((bP ([]:List Claim) x13).bind fun x14=>((eZ aD.Claims (ap (n+1)) (aD.Claims.length:Int)).bind fun x15=>((bP x14 x15).bind fun x16=>some ((ByteArray.mk #[111,107]),0,(bo.mk x16 aD.Sites))))))))
theorem KR{d:bo}(h:ef d){w:ByteArray}(hw:w.size<=1048576){n:Int}(hn:gj w=(n,true))(h0:0<=n)(h1:n<10000000000000):Did d (eQ d w) ((IH d n).map fun x=>(x.2.2,x.2.1))/\ ∃x,IH d n=some (okT,x):=by
 have h12:=az.1 h.c;obtain⟨m,rfl⟩:=Int.eq_ofNat_of_zero_le h0;have hz:(0:Int)=((0:Nat):Int):=rfl;unfold eQ IH iT;rw[uH w hw,Option.bind_some,Option.bind_some,hn,jo,Option.bind_some,bg (n:=(d.Claims.length:Int)- 1) (by omega) (by omega),bg (n:=(m:Int)+1) (by omega) (by omega)];by_cases hl:m<d.Claims.length
 ·have hb:inB (m:Int) 0 ((d.Claims.length:Int)- 1)=true:=iU.2 ⟨by omega,by omega⟩;have hc:decide ((m:Int)>=(d.Claims.length:Int))=false:=decide_eq_false (by omega);have p1:eZ d.Claims 0 (m:Int)=some (d.Claims.take m):=by
   rw[kE (by omega) (by omega) (by omega)];simp
  have p2:eZ d.Claims ((m:Int)+1) (d.Claims.length:Int)=some (d.Claims.drop (m+1)):=by
   rw[kE (by omega) (by omega) (by omega),show((m:Int)+1).toNat=m+1 by omega,List.take_of_length_le (by rw[List.length_drop];omega)]
  have hlen:(d.Claims.take m++d.Claims.drop (m+1)).length<=12:=by
   rw[List.length_append,List.length_take,List.length_drop];omega
  have hm: ∀x∈d.Claims.take m++d.Claims.drop (m+1),x∈d.Claims:=fun x hx=>by
   rcases List.mem_append.1 hx with hx | hx
   ·exact List.mem_of_mem_take hx
   ·exact List.mem_of_mem_drop hx
  have hlen2:=hlen;rw[List.length_append]at hlen2;simp only[hb,hc,Bool.not_true,cond_false,p1,p2,Option.bind_some];rw[bQ (by simp;omega),Option.bind_some,List.nil_append,bQ (by omega),Option.bind_some,CK (by omega)];exact⟨⟨_,0,rfl,by omega,rfl,fun _=>⟨az.2 ⟨hlen,fun x hx=>h12.2 x (hm x hx)⟩,fun x hx=>h.cs x (hm x hx),h.s,h.ss⟩⟩,_,rfl⟩
 ·have hb:inB (m:Int) 0 ((d.Claims.length:Int)- 1)=false:=Bool.eq_false_iff.2 fun e=>by
   have:=iU.1 e;omega
  have hc:decide ((m:Int)>=(d.Claims.length:Int))=true:=decide_eq_true (by omega);simp only[hb,hc,Bool.not_false,cond_true,gK (e:=2) (by omega) (by omega),Option.bind_some];exact⟨⟨d,2,rfl,by omega,rfl,fun h=>by cases h⟩,_,rfl⟩
def ltC(a b:Site):Bool:=kr a.Code b.Code
theorem uC(a b c:Site)(h:ltC a b=true)(k:ltC b c=true):ltC a c=true:=DQ h k
theorem yq(a b:Site)(h:ltC a b=true):ltC b a=false:=uD h
theorem H9{L:List Site}(h:nj L=some true):L.Pairwise fun a b=>ltC a b=true:=by
 rw[List.pairwise_iff_getElem];intro i j hi hj hij;exact(lD h).1 i j _ _ hij (List.getElem?_eq_getElem hi) (List.getElem?_eq_getElem hj)
def pw(L:List Site)(x:Site):List Site:=jW ltC (L.filter fun s=> !(s.Code.toList==x.Code.toList)) x
theorem Kx(L:List Site)(x:Site):(pw L x).length<=L.length+1:=by
 unfold pw;rw[yy];have:=List.length_filter_le (fun s:Site=> !(s.Code.toList==x.Code.toList)) L;omega
theorem Ky{L:List Site}{x z:Site}(h:z∈pw L x):z=x\/z∈L:=by
 unfold pw at h;rcases ql.1 h with h | h
 ·exact .inl h
 ·exact .inr (List.mem_filter.1 h).1
theorem En(x y:Site):((eP x y).bind fun x9=>some (decide (x9<0)))=some (ltC x y):=by
 obtain⟨r,r1,r2,_⟩:=A2 x.Code y.Code;unfold eP;rw[r1,Option.bind_some,Option.bind_some,r2];rfl
theorem Hh{L:List Site}(hL:L.Pairwise fun a b=>ltC a b=true)(x:Site):za ltC (L.filter (fun s=> !(s.Code.toList==x.Code.toList))++[x])/\ ∀y∈L.filter (fun s=> !(s.Code.toList==x.Code.toList)),ltC y x=true\/ltC x y=true:=by
 have hx: ∀y∈L.filter (fun s=> !(s.Code.toList==x.Code.toList)),ltC y x=true\/ltC x y=true:=fun y hy=>by
  have h:=(List.mem_filter.1 hy).2;have h2: ¬y.Code=x.Code:=fun e=>by
   rw[e,fm.2 rfl]at h;cases h
  exact uE h2
 refine⟨?_,hx⟩;unfold za;refine List.pairwise_append.2 ⟨(hL.filter _).imp fun h=> .inl h,List.pairwise_singleton _ _,fun a ha b hb=> ?_⟩;rw[List.mem_singleton.1 hb];exact hx a ha
theorem Ia{L:List Site}(h12:L.length<=12)(ha:za ltC L):bx L=some (kW ltC L):=by
 unfold bx;obtain⟨l,hl⟩: ∃l,bits_Len (IntKind.wrap .u64 (L.length:Int))=some l:=by
  have key: ∀n:Fin 13,(bits_Len (IntKind.wrap .u64 (n.val:Int))).isSome=true:=by decide+kernel
  exact Option.isSome_iff_exists.1 (key ⟨L.length,by omega⟩)
 rw[hl,Option.bind_some];unfold bC;rw[bF];have e:ap ((L.length:Int)- 0)=(L.length:Int):=by rw[bg (by omega) (by omega)];omega
 simp only[e,decide_eq_true (show(L.length:Int)<=12 by omega),cond_true];have:=Na (C:=eP) (lt:=ltC) (P:=fun _=>True) (fun x y _ _=>En x y) uC yq (L:=L) (by omega) (fun _ _=>trivial) ha;rw[show bm L 0 (L.length:Int)=some (kW ltC L)from this];rfl
theorem K4{L:List Site}(h10:L.length<=10)(hL:L.Pairwise fun a b=>ltC a b=true)(x:Site):((dJ L).bind fun x3=>((br x3 x.Code).bind fun x4=>((bP x4 ([x]:List Site)).bind fun x5=>bx x5)))=some (pw L x):=by
 have h1:dJ L=some L:=by
  unfold dJ;rw[if_pos (by omega)]
 have h2:=DD (Site.mk (ByteArray.mk #[]) (aF.mk 0 0)) (L:=L) (by omega) (fun s=>s.Code.toList==x.Code.toList) (T:=fun s=>eO s x.Code) (fun s _=>rfl);have h3:br L x.Code=some (L.filter fun s=> !(s.Code.toList==x.Code.toList)):=h2;have hl:=List.length_filter_le (fun s:Site=> !(s.Code.toList==x.Code.toList)) L;obtain⟨a1,a2⟩:=Hh hL x;rw[h1,Option.bind_some,h3,Option.bind_some,bQ (by simp;omega),Option.bind_some,Ia (by simp;omega) a1];congr 1;refine pL yq (xj uC a1) (qT uC (hL.filter _) a2) fun z=> ?_;rw[D0,List.mem_append,List.mem_singleton];unfold pw;rw[ql];exact or_comm
theorem Is{α:Type}(p:α->Bool): ∀{M:List α},(∀y∈M,p y=true)->M.takeWhile p=M/\M.dropWhile p=[]
 | [],_=>⟨rfl,rfl⟩
 | x::M,h=>by
  have hx:=h x (by simp);have ih:=Is p (M:=M) fun y hy=>h y (by simp[hy]);rw[List.takeWhile_cons_of_pos hx,List.dropWhile_cons_of_pos hx,ih.1];exact⟨rfl,ih.2⟩
theorem LZ{L:List Site}(hl:L.length<=1000)(hL:L.Pairwise fun a b=>ltC a b=true)(x:Site):
  ((cG (L.length:Int) (fun(i4:Int) (s4:Bool×(List Site))=>(((bif(!s4.1)then((at' L i4).bind fun x8=>some ((Op.bytesLess x.Code.toList x8.Code.toList) || (x.Code.toList==x8.Code.toList)))else some false)).bind fun(j9:Bool)=>(((bif j9 then((bP s4.2 ([x]:List Site)).bind fun x13=>some (true,x13))else some (s4.1,s4.2))).bind fun(j11:Bool×(List Site))=>((at' L i4).bind fun x14=>(bif(!(x14.Code.toList==x.Code.toList))then((at' L i4).bind fun x15=>((bP j11.2 ([x15]:List Site)).bind fun x16=>some (j11.1,x16)))else some (j11.1,j11.2)))))) (fun(s4:Bool×(List Site))=>(s4.1,s4.2)) 0 (false,([]:List Site))).bind fun(j2:Bool×(List Site))=>(bif(!j2.1)then((bP j2.2 ([x]:List Site)).bind fun x19=>some x19)else some j2.2))=some (pw L x):=by
 have ntk: ∀{M:List Site},(∀y∈M,ltC y x=true)->M.filter (fun s=> !(s.Code.toList==x.Code.toList))=M/\M.takeWhile (fun y=>ltC y x)=M/\M.dropWhile (fun y=>ltC y x)=[]:=fun{M} hM=>by
  refine⟨List.filter_eq_self.2 fun y hy=> ?_,(Is _ hM).1,(Is _ hM).2⟩
  ·have: ¬y.Code=x.Code:=fun e=>by
    have h:=hM y hy;unfold ltC at h;rw[e,ov]at h;cases h
   have h2:(y.Code.toList==x.Code.toList)=false:=Bool.eq_false_iff.2 fun h=>this (fm.1 h);rw[h2];rfl
 obtain⟨⟨b,M⟩,h1,h2⟩:=Gv.Of (show L.length<=1000000000 by omega) (B:=fun(i4:Int) (s4:Bool×(List Site))=>(((bif(!s4.1)then((at' L i4).bind fun x8=>some ((Op.bytesLess x.Code.toList x8.Code.toList) || (x.Code.toList==x8.Code.toList)))else some false)).bind fun(j9:Bool)=>(((bif j9 then((bP s4.2 ([x]:List Site)).bind fun x13=>some (true,x13))else some (s4.1,s4.2))).bind fun(j11:Bool×(List Site))=>((at' L i4).bind fun x14=>(bif(!(x14.Code.toList==x.Code.toList))then((at' L i4).bind fun x15=>((bP j11.2 ([x15]:List Site)).bind fun x16=>some (j11.1,x16)))else some (j11.1,j11.2)))))) (D:=fun(s4:Bool×(List Site))=>(s4.1,s4.2)) (fun i s=>s.2.length<=i+1/\((s.1=false/\s.2=L.take i/\ ∀y∈L.take i,ltC y x=true)\/(s.1=true/\s.2=pw (L.take i) x/\ ∃y∈L.take i,ltC y x=false))) (fun i s hi hs=>by
  have hat:at' L (i:Int)=some L[i]:=Bc hi;have htk:L.take (i+1)=L.take i++[L[i]]:=by
   rw[List.take_add_one,List.getElem?_eq_getElem hi];rfl
  have hlt: ∀y∈L.take i,ltC y L[i]=true:=fun y hy=>by
   obtain⟨j,hj,rfl⟩:=List.getElem_of_mem hy;rw[List.length_take]at hj;rw[List.getElem_take];exact List.pairwise_iff_getElem.1 hL j i (by omega) hi (by omega)
  obtain⟨hl1,hs⟩:=hs;generalize L[i]=y at hat htk hlt;obtain⟨b,M⟩:=s;simp only at hl1 hs;have hle:(Op.bytesLess x.Code.toList y.Code.toList || (x.Code.toList==y.Code.toList))= !ltC y x:=by
   have hc:(x.Code.toList==y.Code.toList)=(y.Code.toList==x.Code.toList):=BEq.comm;rw[hc];by_cases h:y.Code=x.Code
   ·rw[fm.2 h,Bool.or_true];unfold ltC;rw[h,ov];rfl
   ·have h2:(y.Code.toList==x.Code.toList)=false:=Bool.eq_false_iff.2 fun e=>h (fm.1 e);rw[h2,Bool.or_false];rcases uE h with h3 | h3
    ·show kr x.Code y.Code= !kr y.Code x.Code;rw[h3,uD h3];rfl
    ·show kr x.Code y.Code= !kr y.Code x.Code;rw[h3,uD h3];rfl
  rcases hs with⟨rfl,hM,hall⟩ | ⟨rfl,hM,z,hz,hzx⟩
  ·simp only[Bool.not_false,cond_true,hat,Option.bind_some,hle];cases hyx:ltC y x
   ·have hP:=ntk hall;have hMl:M.length<=i:=by
     rw[hM,List.length_take];omega
    have hput:pw (L.take i++[y]) x=M++[x]++(bif !(y.Code.toList==x.Code.toList)then[y]else[]):=by
     unfold pw jW;rw[List.filter_append,hP.1];cases hq:(y.Code.toList==x.Code.toList)
     ·rw[List.filter_cons_of_pos (by simp[hq]),List.filter_nil,List.takeWhile_append_of_pos hall,List.dropWhile_append_of_pos hall,List.takeWhile_cons_of_neg (by simp[hyx]),List.dropWhile_cons_of_neg (by simp[hyx]),hM];simp
     ·rw[List.filter_cons_of_neg (by simp[hq]),List.filter_nil,List.append_nil,hP.2.1,hP.2.2,hM];simp
    rw[Bool.not_false,cond_true,bQ (by simp;omega)];simp only[Option.bind_some];cases hq:(y.Code.toList==x.Code.toList)
    ·rw[hq]at hput;simp only[Bool.not_false,cond_true]at hput⊢;rw[bQ (by simp;omega)];refine⟨_,rfl,by simp;omega,.inr ⟨rfl,?_,y,by rw[htk];simp,hyx⟩⟩;rw[htk,hput]
    ·rw[hq]at hput;simp only[Bool.not_true,cond_false,List.append_nil]at hput⊢;refine⟨_,rfl,by simp;omega,.inr ⟨rfl,?_,y,by rw[htk];simp,hyx⟩⟩;rw[htk,hput]
   ·have hq:(y.Code.toList==x.Code.toList)=false:=Bool.eq_false_iff.2 fun e=>by
     unfold ltC at hyx;rw[fm.1 e,ov]at hyx;cases hyx
    simp only[Bool.not_true,cond_false,Option.bind_some,hq,Bool.not_false,cond_true];rw[bQ (by simp;omega)];refine⟨_,rfl,by simp;omega,.inl ⟨rfl,by rw[htk,hM],fun u hu=> ?_⟩⟩;rw[htk]at hu;rcases List.mem_append.1 hu with hu | hu
    ·exact hall u hu
    ·rw[List.mem_singleton.1 hu];exact hyx
  ·have hxy:ltC x y=true:=by
    by_cases h:z.Code=x.Code
    ·have:=hlt z hz;unfold ltC at this⊢;rw[h]at this;exact this
    ·rcases uE h with h3 | h3
     ·exfalso;unfold ltC at hzx;rw[h3]at hzx;cases hzx
     ·exact uC _ _ _ h3 (hlt z hz)
   have hyx:=yq _ _ hxy;have hq:(y.Code.toList==x.Code.toList)=false:=Bool.eq_false_iff.2 fun e=>by
    unfold ltC at hxy;rw[fm.1 e,ov]at hxy;cases hxy
   have hput:pw (L.take i++[y]) x=pw (L.take i) x++[y]:=by
    have hd: ∀{F:List Site},jW ltC (F++[y]) x=jW ltC F x++[y]:=fun{F}=>by
     unfold jW
     induction F with
     | nil=>simp[hyx]
     | cons f F ih=>
      cases hf:ltC f x
      ·simp[hf]
      ·have h1: ∀G:List Site,(f::G).takeWhile (fun y=>ltC y x)=f::G.takeWhile (fun y=>ltC y x):=fun G=>List.takeWhile_cons_of_pos (p:=fun y=>ltC y x) hf;have h2: ∀G:List Site,(f::G).dropWhile (fun y=>ltC y x)=G.dropWhile (fun y=>ltC y x):=fun G=>List.dropWhile_cons_of_pos (p:=fun y=>ltC y x) hf;rw[List.cons_append,h1,h2,h1,h2,List.cons_append,List.cons_append,ih];rfl
    unfold pw;rw[List.filter_append,List.filter_cons_of_pos (by simp[hq]),List.filter_nil,hd]
   simp only[Bool.not_true,cond_false,Option.bind_some,hat,hq,Bool.not_false,cond_true];rw[bQ (by simp;omega)];exact⟨_,rfl,by simp;omega,.inr ⟨rfl,by rw[htk,hput,hM],z,by rw[htk];simp[hz],hzx⟩⟩) (s:=(false,[])) ⟨by simp,.inl ⟨rfl,by simp,by simp⟩⟩ (Q:=fun r=>r.2.length<=L.length+1/\((r.1=false/\r.2=L/\ ∀y∈L,ltC y x=true)\/(r.1=true/\r.2=pw L x))) (fun s hs=>by
  rw[List.take_length]at hs;exact⟨hs.1,hs.2.imp id fun h=>⟨h.1,h.2.1⟩⟩)
 rw[h1,Option.bind_some];rcases h2.2 with⟨hb,hM,hall⟩ | ⟨hb,hM⟩
 ·simp only at hb hM;have hP:=ntk hall;simp only[hb,hM,Bool.not_false,cond_true];rw[bQ (by simp;omega)];show some (L++[x])=_;unfold pw jW;rw[hP.1,hP.2.1,hP.2.2]
 ·simp only at hb hM;simp only[hb,hM,Bool.not_true,cond_false]
theorem LS{d:bo}(h:ef d){c w:ByteArray}(hc:c.size<=1048576)(hw:w.size<=1048576):Did d (fX d c w) (nQ d c w):=by
 obtain⟨p,e,r1,r2,r3⟩:=xa w hw;have hp:=H9 h.s;have h10:=(lD h.s).2.2;have hi:=K4 h10 hp (Site.mk c p);have hs:=LZ (by omega) hp (Site.mk c p);have hlen:=Kx d.Sites (Site.mk c p);have hsm: ∀x∈pw d.Sites (Site.mk c p),yH x:=fun x hx=>by
  rcases Ky hx with rfl | hx
  ·exact⟨hc⟩
  ·exact h.ss x hx
 have hA:=BJ (L:=pw d.Sites (Site.mk c p)) (by omega) hsm;have hB:=Cu (L:=pw d.Sites (Site.mk c p)) (by omega) hsm;obtain⟨v,hv⟩:=GM (pw d.Sites (Site.mk c p));rw[hv]at hA hB;have hfin:v=true->ef (bo.mk d.Claims (pw d.Sites (Site.mk c p))):=fun e=>⟨h.c,h.cs,by rw[hv,e],hsm⟩;unfold fX nQ;rw[r1,r2,Option.bind_some,Option.bind_some];rcases r3 with rfl | ⟨rfl,_⟩
 ·refine⟨d,6,rfl,by omega,?_,fun h=>by cases h⟩;have h6:(((6:Int) !=0))=true:=rfl;simp only[h6,cond_true,gK (e:=6) (by omega) (by omega),Option.bind_some];rfl
 ·have h0:(((0:Int) !=0))=false:=rfl;obtain⟨l1,hl1,hl2⟩:=Option.bind_eq_some_iff.1 hi;obtain⟨l2,hl3,hl4⟩:=Option.bind_eq_some_iff.1 hl2;obtain⟨l3,hl5,hl6⟩:=Option.bind_eq_some_iff.1 hl4;obtain⟨⟨b,M⟩,hm1,hm2⟩:=Option.bind_eq_some_iff.1 hs;simp only[h0,cond_false,hl1,hl3,hl5,hl6,Option.bind_some,hA];rw[hm1];simp only[Option.bind_some];have hm3:(((bif(!b)then((bP M ([Site.mk c p]:List Site)).bind fun x19=>some x19)else some M)).bind fun(j17:(List Site))=>((gD j17).bind fun x20=>(bif(!x20)then some (d,(1:Int))else some ((bo.mk d.Claims j17),0))))=(bif(!v)then some (d,(1:Int))else some ((bo.mk d.Claims (pw d.Sites (Site.mk c p))),0)):=by
   rw[hm2,Option.bind_some,hB,Option.bind_some]
  unfold Did;rw[hm3];cases v
  ·refine⟨d,1,rfl,by omega,?_,fun h=>by cases h⟩;simp only[Bool.not_false,cond_true,gK (e:=1) (by omega) (by omega),Option.bind_some];rfl
  ·exact⟨_,0,rfl,by omega,rfl,fun _=>hfin rfl⟩
theorem tne{a b:ByteArray}(h: ¬a=b):(a.toList==b.toList)=false:=Bool.eq_false_iff.2 fun e=>h (fm.1 e)
theorem teq(a:ByteArray):(a.toList==a.toList)=true:=fm.2 rfl
def Told(i:Option ByteArray)(s:Option (ByteArray×Int)):Prop:= ∃t e,s=some (t,e)/\(0<=e/\e<=9)/\i=some (JW t e)
theorem DK{x:ByteArray}(h:1<=x.size)(c:ByteArray): ∀L:List ByteArray,1<=(dN (x::L) c).size
 | []=>by rw[gL];exact h
 | y::L=>by
  rw[fC,ByteArray.size_append,ByteArray.size_append];omega
theorem Ln(v:Int):1<=(cw v).size:=by
 rw[uG];exact List.length_pos_iff.2 (EG v)
theorem JM(R:List Int):1<=(kV R).size:=by
 unfold kV;cases R with
 | nil=>exact Nat.le_refl 1
 | cons x R=>exact DK (Ln x) _ _
theorem uw{n:Nat}{R:List Int}(h:gG n R)(hn:n<=12):R.length<=1000/\ ∀x∈R,0<=x/\x<1000000:=by
 have hl:=h.len;exact⟨by omega,fun x hx=>by have:=h.2 x hx;omega⟩
theorem Hs{d:bo}(h:ef d):Told (gI d) (mC d):=by
 have hc:=h.c;have h12:=(az.1 hc).1;have hI:=CT hc;rw[J9 (sE hc)]at hI;have hm: ∀R∈kh (fO d.Claims) d.Claims.length (d.Claims.length+1) 0 [],gG d.Claims.length R:=fun R hR=>((Lj hc).1 hR).1;unfold gI mC qE qY;rw[jf (by omega) h.cs,lF (by omega) h.cs,hc,Option.bind_some,Option.bind_some,hI,Ka hc];generalize kh (fO d.Claims) d.Claims.length (d.Claims.length+1) 0 []=C at hm;simp only[Bool.not_true,cond_false,Option.bind_some];by_cases h60:C.length>60
 ·have h3:((3:Int) !=0)=true:=rfl;have e0:cG (((([]:List (List Int)).length:Nat):Int)) (fun(i4:Int) (s4:(List ByteArray))=>((at' ([]:List (List Int)) i4).bind fun x8=>((eX x8).bind fun x9=>((bP s4 ([x9]:List ByteArray)).bind fun x10=>some x10)))) (fun(s4:(List ByteArray))=>s4) 0 ([]:List ByteArray)=some []:=by
   unfold cG;rw[bF];rfl
  rw[decide_eq_true (show(C.length:Int)>60 by omega),cond_true];refine⟨_,3,rfl,by omega,?_⟩;simp only[Option.bind_some,e0];have el:(((([]:List ByteArray).length:Nat):Int)==0)=true:=rfl;rw[el,cond_true];simp only[Option.bind_some];rw[lv (k:=10) (c:=ByteArray.mk #[59]) (by decide) (by omega) (by decide) rfl,Option.bind_some,iA _ (by omega) (by omega)];rfl
 ·rw[decide_eq_false (show ¬(C.length:Int)>60 by omega),cond_false];have h0:((0:Int) !=0)=false:=rfl;have hsz: ∀R∈C,(kV R).size<=20000:=fun R hR=>by
   have:=uw (hm R hR) h12;exact HU this.1 this.2
  have e1:cG (C.length:Int) (fun(i4:Int) (s4:(List ByteArray))=>((at' C i4).bind fun x8=>((eX x8).bind fun x9=>((bP s4 ([x9]:List ByteArray)).bind fun x10=>some x10)))) (fun(s4:(List ByteArray))=>s4) 0 ([]:List ByteArray)=some (C.map kV):=by
   rw[nE (by omega) (fun R=>some (kV R)) (fun i R s hR hs=>by
    have:=uw (hm R (List.mem_of_getElem? hR)) h12;rw[ar,hR,Option.bind_some,wO this.1 this.2,Option.bind_some,bQ (by simp;omega)];rfl)]
   congr 1;exact congrFun (List.filterMap_eq_map (f:=kV)) C
  have e2:cG (C.length:Int) (fun(i4:Int) (s4:ByteArray)=>(((bif(decide (i4>0))then((cI s4 (ByteArray.mk #[59])).bind fun x10=>some x10)else some s4)).bind fun(j8:ByteArray)=>((at' C i4).bind fun x11=>((io x11).bind fun x12=>((cI j8 x12).bind fun x13=>some x13))))) (fun(s4:ByteArray)=>s4) 0 (ByteArray.mk #[])=some (dN (C.map kV) (ByteArray.mk #[59])):=by
   rw[uy (k:=20000) (t:=kV) (c:=ByteArray.mk #[59]) (by omega) (by omega) (by decide) hsz (fun i R s hR hs=>by
    have h1:=uw (hm R (List.mem_of_getElem? hR)) h12;have h2:=hsz R (List.mem_of_getElem? hR);have hat:at' C (i:Int)=some R:=by rw[ar,hR]
    have hc:(ByteArray.mk #[59]).size=1:=rfl;simp only[hat,Option.bind_some,xu h1.1 h1.2];cases decide ((i:Int)>0)
    ·rw[cond_false,Option.bind_some,bZ (by omega)];rfl
    ·rw[cond_true,bZ (by omega),Option.bind_some,Option.bind_some,bZ (by rw[ByteArray.size_append];omega)];rfl)]
  simp only[h0,cond_false,e1,e2,Option.bind_some,List.length_map];cases hC:C with
  | nil=>
   have el:(((([]:List (List Int)).length:Nat):Int)==0)=true:=rfl;have ej:dN (List.map kV []) (ByteArray.mk #[59])=ByteArray.mk #[]:=rfl;refine⟨ByteArray.mk #[45],0,?_,by omega,?_⟩
   ·rw[ej,teq,cond_true]
   ·rw[el,cond_true,Option.bind_some,lv (k:=10) (c:=ByteArray.mk #[59]) (by decide) (by omega) (by decide) rfl,Option.bind_some,iA _ (by omega) (by omega),gL];rfl
  | cons R C'=>
   have hsz': ∀x∈(R::C').map kV,x.size<=20000:=fun x hx=>by
    obtain⟨Q,hQ,rfl⟩:=List.mem_map.1 hx;exact hsz Q (hC▸hQ)
   have hl:((R::C').map kV).length<=1000:=by
    rw[List.length_map,<-hC];omega
   have el:((((R::C').length:Nat):Int)==0)=false:=by
    rw[beq_eq_false_iff_ne,List.length_cons];omega
   have hp:=DK (JM R) (ByteArray.mk #[59]) (C'.map kV);have ej:((dN ((R::C').map kV) (ByteArray.mk #[59])).toList==(ByteArray.mk #[]).toList)=false:=tne fun e=>by
    rw[List.map_cons]at e;rw[e]at hp;exact absurd hp (by decide)
   refine⟨dN ((R::C').map kV) (ByteArray.mk #[59]),0,?_,by omega,?_⟩
   ·rw[ej,cond_false]
   ·rw[el,cond_false,Option.bind_some,lv (k:=20000) (c:=ByteArray.mk #[59]) hl (by omega) hsz' rfl,Option.bind_some,iA _ (by omega) (by omega)];rfl
theorem GF{d:bo}(h:ef d):Told ((kB d.Claims).bind fun x5=>((eX x5.1).bind fun x6=>cA x6 x5.2.2)) ((kG d.Claims).bind fun x5=>((io x5.1).bind fun x6=>some (x6,x5.2.2))):=by
 have hc:=h.c;have h12:=(az.1 hc).1;obtain⟨b,b1,b2,b3,_⟩:=IC hc;have hs:=uw b3 h12;unfold kB kG;rw[jf (by omega) h.cs,lF (by omega) h.cs,hc];simp only[Option.bind_some,Bool.not_true,cond_false,b1,b2,uP hc b3,wO hs.1 hs.2,xu hs.1 hs.2];exact⟨_,0,rfl,by omega,iA _ (by omega) (by omega)⟩
theorem Ks{s:ByteArray}(h:cR s=true):s.size<=16:=(rf h).2
theorem EY{d:bo}(h:ef d):Told ((cn d.Claims).bind fun x8=>((strings_Join x8.1 (ByteArray.mk #[44])).bind fun x9=>cA x9 x8.2)) (kJ d):=by
 obtain⟨S,c,s1,s2,s3,s4,s5⟩:=Ig h.c h.cs;have hz: ∀s∈S,s.size<=16:=fun s hs=>by
  obtain⟨x,hx,rfl⟩:=List.mem_map.1 (s5 s hs);exact Ks (mG ((az.1 h.c).2 x hx)).s
 have hc:0<=c/\c<=9:=by omega
 unfold kJ;rw[s1,s2,Option.bind_some,Option.bind_some];simp only;rw[lv (k:=16) (c:=ByteArray.mk #[44]) (by omega) (by omega) hz rfl,Option.bind_some,iA _ hc.1 hc.2];rw[uy (k:=16) (t:=fun x=>x) (c:=ByteArray.mk #[44]) (by omega) (by omega) (by decide) hz (fun i x s hx hs=>by
  have h2:=hz x (List.mem_of_getElem? hx);have hat:at' S (i:Int)=some x:=by rw[ar,hx]
  have hc:(ByteArray.mk #[44]).size=1:=rfl;simp only[hat,Option.bind_some];cases decide ((i:Int)>0)
  ·rw[cond_false,Option.bind_some,bZ (by omega)];rfl
  ·rw[cond_true,bZ (by omega),Option.bind_some,Option.bind_some,bZ (by rw[ByteArray.size_append];omega)];rfl),List.map_id',Option.bind_some]
 exact⟨_,c,rfl,hc,rfl⟩
theorem Bd(L:List Claim)(b:List Int)(k:Int)(p:ByteArray)(y:Int):0<=(pR L b k p y).2/\(pR L b k p y).2<=9:=by
 have ha:0<=abC L p y/\abC L p y<=9:=by
  unfold abC;cases aU L&&cR p
  ·exact⟨show(0:Int)<=1 by omega,show(1:Int)<=9 by omega⟩
  ·cases inB y (-3000) 3000
   ·exact⟨show(0:Int)<=2 by omega,show(2:Int)<=9 by omega⟩
   ·exact⟨show(0:Int)<=0 by omega,show(0:Int)<=9 by omega⟩
 unfold pR;cases abC L p y !=0
 ·rw[cond_false];cases tel (kU L b) k p y
  ·exact⟨show(0:Int)<=4 by omega,show(4:Int)<=9 by omega⟩
  ·exact⟨show(0:Int)<=0 by omega,show(0:Int)<=9 by omega⟩
 ·rw[cond_true];exact ha
theorem JV{d:bo}(h:ef d){p:ByteArray}(hp:p.size<=1048576)(y:Int):Told ((kj d.Claims p y).bind fun x5=>cA x5.1 x5.2) (ku d.Claims p y)/\Told ((iv d.Claims p y).bind fun x5=>cA x5.1 x5.2) (iC d.Claims p y):=by
 have h12:=(az.1 h.c).1;obtain⟨b,hb⟩:=MD d.Claims;obtain⟨n1,n2⟩:=Hm (by omega) h.cs hp y hb;obtain⟨m1,m2⟩:=Ef (by omega) h.cs hp y hb;have k1:=Bd d.Claims b 0 p y;have k2:=Bd d.Claims b 1 p y;rw[n1,n2,m1,m2,Option.bind_some,Option.bind_some,iA _ k1.1 k1.2,iA _ k2.1 k2.2];exact⟨⟨_,_,rfl,k1,rfl⟩,⟨_,_,rfl,k2,rfl⟩⟩
theorem H2(a b:aF):ll [a,b]=some (iZ a&&iZ b):=by
 unfold ll;rw[jr (L:=[a,b]) (by simp) (fun x=> !iZ x) false (fun i x hx=>by
  rw[ar,hx,Option.bind_some,wP,Option.bind_some])]
 cases ha:iZ a<;>cases hb:iZ b<;>simp[ha,hb]
theorem Ms{p q:aF}(d:bo)(hp:iZ p=true)(hq:iZ q=true):Told (iQ d p q) (bif((p.X==q.X)&&(p.Y==q.Y))then some ((ByteArray.mk #[]),5)else((cX p q).bind fun x10=>((gp x10).bind fun x11=>some (x11,0)))):=by
 unfold iQ mg;rw[H2,hp,hq];cases he:((p.X==q.X)&&(p.Y==q.Y))
 ·have hne: ¬(q.X=p.X/\q.Y=p.Y):=fun e=>by
   rw[e.1,e.2,beq_self_eq_true,beq_self_eq_true]at he;cases he
  have hr:=vF (q.X - p.X) (q.Y - p.Y);obtain⟨w1,_,_,_⟩:=y9 hr.1 hr.2;have hw:gp (px (q.X - p.X) (q.Y - p.Y))=some (lV (px (q.X - p.X) (q.Y - p.Y))):=by
   show((at' cQ (px (q.X - p.X) (q.Y - p.Y))).bind fun x1=>some x1)=_;rw[w1];rfl
  simp only[Bool.and_self,Bool.not_true,cond_false,Option.bind_some,Sum.elim_inl,FX hp hq hne,GR hp hq,w1,hw,iA _ (show(0:Int)<=0 by omega) (show(0:Int)<=9 by omega)];exact⟨_,0,rfl,by omega,rfl⟩
 ·obtain⟨w1,_,_,_⟩:=y9 (i:=0) (by omega) (by omega);simp only[Bool.and_self,Bool.not_true,cond_false,cond_true,Option.bind_some,Sum.elim_inr,w1,iA _ (show(0:Int)<=5 by omega) (show(5:Int)<=9 by omega)];exact⟨_,5,rfl,by omega,rfl⟩
theorem G5{d:bo}(h:ef d){x a b:ByteArray}(hx:x=xG\/x=wg):Told (dA d [x,a,b]) (mX d [x,a,b]):=by
 have hs:=lD h.s;have a0:at' [x,a,b] 0=some x:=rfl;have a1:at' [x,a,b] 1=some a:=rfl;have a2:at' [x,a,b] 2=some b:=rfl;unfold dA mX;simp only[a0,a1,a2,Option.bind_some,o3 hs.2.2 hs.1,tF (L:=d.Sites) (by omega),B9,p9];cases hA:d.Sites.any (gr a)
 ·simp only[Bool.not_false,Bool.true_or,cond_true,gK (e:=4) (by omega) (by omega),Option.bind_some,Sum.elim_inr];exact⟨_,4,rfl,by omega,rfl⟩
 cases hB:d.Sites.any (gr b)
 ·simp only[Bool.not_false,Bool.not_true,Bool.or_true,cond_true,gK (e:=4) (by omega) (by omega),Option.bind_some,Sum.elim_inr];exact⟨_,4,rfl,by omega,rfl⟩
 obtain⟨s,s1,s2,s3⟩:=uL hA;obtain⟨t,t1,t2,t3⟩:=uL hB;have hp:=(hs.2.1 s s1).2;have hq:=(hs.2.1 t t1).2;have hb:=xx hp hq;simp only[Bool.not_true,Bool.or_self,cond_false,s2,s3,t2,t3,Option.bind_some];rcases hx with rfl | rfl
 ·obtain⟨t,e,w1,w2,w3⟩:=Ms d hp hq;have f1:(xG.toList==(ByteArray.mk #[102,97,114]).toList)=false:=tne (by decide);rw[teq,f1,cond_true,cond_false,w3,w1];exact⟨t,e,rfl,w2,rfl⟩
 ·have f1:(wg.toList==(ByteArray.mk #[119,97,121]).toList)=false:=tne (by decide);have f2:(wg.toList==(ByteArray.mk #[102,97,114]).toList)=true:=teq _;rw[f1,f2,cond_true,cond_false,AN hp hq,E4 hp hq];simp only[Option.bind_some,Sum.elim_inl];rw[kl _ (by omega) (by omega),lG (by omega) (by omega)];exact⟨_,0,rfl,by omega,rfl⟩
theorem H7{d:bo}(h:ef d){x:ak}(hx:eh x=true)(hz:C5 x){p:aF}(hp:iZ p=true): ∃b e,jC d.Sites x p=some (b,e)/\jM d.Sites x p=some (b,e)/\(0<=e/\e<=9)/\(b=true->e=0):=by
 have hs:=lD h.s;have hc:=yj (ds:=[x]) (by omega) h.ss (by simp) (fun y hy=>by rw[List.mem_singleton.1 hy];exact hz) true h.s;have hd:=yZ (ds:=[x]) (by omega) h.ss (by simp) (fun y hy=>by rw[List.mem_singleton.1 hy];exact hz) h.s;have hcode:DA d.Sites [x] true true=bif ym d.Sites x then 4 else 0:=by
  unfold DA;simp[hx]
 rw[hcode]at hc hd;unfold jC jM;rw[wP,A0,hp];simp only[Option.bind_some,Bool.not_true,cond_false,hc,hd];cases hl:ym d.Sites x
 ·have h0:((0:Int) !=0)=false:=rfl;simp only[cond_false,h0,K6 hs.2.2 hs.1 hs.2.1 hx hl hp,L2 hs.2.2 hs.2.1 hz.u hx hl hp,Option.bind_some];exact⟨_,0,rfl,rfl,by omega,fun _=>rfl⟩
 ·have h4:((4:Int) !=0)=true:=rfl;simp only[cond_true,h4];exact⟨false,4,rfl,rfl,by omega,fun h=>by cases h⟩
theorem Mt{R:List ByteArray}(hl:R.length<=10)(hR: ∀x∈R,x.size<=10000):strings_Join R (ByteArray.mk #[32])=some (dN R (ByteArray.mk #[32]))/\mz R=some (dN R (ByteArray.mk #[32]))/\(dN R (ByteArray.mk #[32])).size<=1048576:=by
 have hz:=kO (ByteArray.mk #[32]) R hR;have h1:(ByteArray.mk #[32]).size=1:=rfl;have h2:R.length*(10000+(ByteArray.mk #[32]).size)<=10*(10000+1):=Nat.mul_le_mul hl (by omega);refine⟨lv (k:=10000) (by omega) (by omega) hR rfl,?_,by omega⟩;unfold mz;rw[uy (k:=10000) (t:=fun x=>x) (c:=ByteArray.mk #[32]) (by omega) (by omega) (by decide) hR (fun i x s hx hs=>by
  have h2:=hR x (List.mem_of_getElem? hx);have hat:at' R (i:Int)=some x:=by rw[ar,hx]
  simp only[hat,Option.bind_some];cases decide ((i:Int)>0)
  ·rw[cond_false,Option.bind_some,bZ (by omega)];rfl
  ·rw[cond_true,bZ (by omega),Option.bind_some,Option.bind_some,bZ (by rw[ByteArray.size_append];omega)];rfl),List.map_id',Option.bind_some]
theorem Kj{d:bo}(h:ef d){x w:ByteArray}{R:List ByteArray}(hl:R.length<=10)(hw:w.size<=10000)(hR: ∀x∈R,x.size<=10000):Told (ig d (w::R)) (nR d (x::w::R)):=by
 obtain⟨p,e,p1,p2,p3⟩:=xa w (by omega);obtain⟨j1,j2,j3⟩:=Mt hl hR;obtain⟨t,f,t1,t2,t3⟩:=GB _ j3;have a0:at' (w::R) 0=some w:=rfl;have a1:at' (x::w::R) 1=some w:=rfl;have q1:eZ (w::R) 1 ((w::R).length:Int)=some R:=by
  rw[kE (by omega) (by rw[List.length_cons];omega) (by omega)];simp
 have q2:eZ (x::w::R) 2 ((x::w::R).length:Int)=some R:=by
  rw[kE (by omega) (by rw[List.length_cons,List.length_cons];omega) (by omega),show(((x::w::R).length:Nat):Int).toNat=R.length+2 from Int.toNat_natCast _];show some (List.take (R.length+2 - 2) R)=some R;rw[List.take_of_length_le (by omega)]
 have h6:((6:Int) !=0)=true:=rfl;have h0:((0:Int) !=0)=false:=rfl;unfold ig nR;simp only[a0,a1,Option.bind_some,p1,p2];rcases p3 with rfl | ⟨rfl,p3⟩
 ·simp only[h6,cond_true,gK (e:=6) (by omega) (by omega),Option.bind_some];exact⟨_,6,rfl,by omega,rfl⟩
 simp only[h0,cond_false,q1,q2,Option.bind_some,j1,j2,t1,t2];rcases t3 with rfl | ⟨rfl,t3,t4⟩
 ·simp only[h6,cond_true,gK (e:=6) (by omega) (by omega),Option.bind_some];exact⟨_,6,rfl,by omega,rfl⟩
 obtain⟨b,g,s1,s2,s3,s4⟩:=H7 h t3 t4 p3;simp only[h0,cond_false,s1,s2,Option.bind_some];cases b
 ·simp only[cond_false,iA _ s3.1 s3.2,Option.bind_some];exact⟨_,g,rfl,s3,rfl⟩
 ·have:=s4 rfl;subst this;exact⟨_,0,rfl,s3,rfl⟩
theorem Hi{a b:ByteArray}(ha:a.size<=10000)(hb:b.size<=10000):Told ((iR a b).bind fun x21=>((bU x21.1).bind fun x22=>cA x22 x21.2)) ((iW a b).bind fun x15=>((bO x15.1).bind fun x16=>some (x16,x15.2))):=by
 have hb2:=FF a b;have hd1:eH a b=some (KQ a b):=JF a b (by omega) (by omega);have hd2:fj a b=some (KQ a b):=Kd a b (by omega) (by omega);have hw:gv [a,b]=some ([a,b].all cR):=mh [a,b] (by simp) (fun x hx=>by
  simp only[List.mem_cons,List.not_mem_nil,or_false]at hx;unfold maxLen;rcases hx with rfl | rfl<;>omega)
 have hs:ph a b=some (bif[a,b].all cR then 0 else 1):=by
  unfold ph;rw[hU a (by unfold maxLen;omega),hU b (by unfold maxLen;omega)];cases h1:cR a<;>cases h2:cR b<;>simp[h1,h2]
 unfold iR iW;rw[hw,hs];cases [a,b].all cR
 ·have h1:((1:Int) !=0)=true:=rfl;simp only[Option.bind_some,Bool.not_false,cond_true,cond_false,h1];rw[kl _ (by omega) (by omega),lG (by omega) (by omega),Option.bind_some,Option.bind_some,iA _ (by omega) (by omega)];exact⟨_,1,rfl,by omega,rfl⟩
 ·have h0:((0:Int) !=0)=false:=rfl;simp only[Option.bind_some,Bool.not_true,cond_true,cond_false,h0,hd1,hd2];rw[kl _ (by omega) (by omega),lG (by omega) (by omega),Option.bind_some,Option.bind_some,iA _ (by omega) (by omega)];exact⟨_,0,rfl,by omega,rfl⟩
theorem jA{α β:Type}(o:Option (α×β)):(o.bind fun x=>some (x.1,x.2))=o:=by cases o<;>rfl
theorem KE{d:bo}(h:ef d){W:List ByteArray}{n:Int}(hs:Shape W n)(hW: ∀y∈W,y.size<=10000)(hx: ∀x∈W.head?,x≠ud/\x≠xF/\x≠ue):Told (eV d W) (hZ d W n):=by
 cases hs with
 | one x n hx1=>
  have a0:at' [x] 0=some x:=rfl;unfold eV hZ;simp only[a0,Option.bind_some];rcases hx1 with rfl | rfl | rfl
  ·simp only[teq,cond_true,Option.bind_assoc,Option.bind_some,Sum.elim_inr,Option.bind_fun_some,jA];exact Hs h
  ·have f1:(nS.toList==rc.toList)=false:=tne (by decide);simp only[f1,teq,cond_true,cond_false,Option.bind_assoc,Option.bind_some,Sum.elim_inr,Option.bind_fun_some,jA];exact GF h
  ·have f1:(lP.toList==rc.toList)=false:=tne (by decide);have f2:(lP.toList==nS.toList)=false:=tne (by decide);simp only[f1,f2,teq,cond_true,cond_false,Option.bind_assoc,Option.bind_some,Sum.elim_inr,Option.bind_fun_some,jA];exact EY h
 | claim a n=>exact absurd rfl (hx ud rfl).1
 | drop a n=>exact absurd rfl (hx xF rfl).2.1
 | told x a b n hx1 hn=>
  have a0:at' [x,a,b] 0=some x:=rfl;have a1:at' [x,a,b] 1=some a:=rfl;have a2:at' [x,a,b] 2=some b:=rfl;have hb:=hW b (by simp);have ht:=JV h (p:=a) (by have:=hW a (by simp);omega) n;have hcn:cJ b=some (n,(gj b).2&&decide ((if b.data.toList.head?=some 45 then(b.size:Int)- 1 else b.size)<=13)):=by
   rw[uH b (by omega),hn]
  unfold eV hZ oj;simp only[a0,a1,a2,Option.bind_some,hcn];rcases hx1 with rfl | rfl
  ·have f1:(vx.toList==rc.toList)=false:=tne (by decide);have f2:(vx.toList==nS.toList)=false:=tne (by decide);have f3:(vx.toList==lP.toList)=false:=tne (by decide);simp only[f1,f2,f3,teq,cond_true,cond_false,Option.bind_assoc,Option.bind_some,Sum.elim_inr,Option.bind_fun_some,jA];exact ht.1
  ·have f1:(mF.toList==rc.toList)=false:=tne (by decide);have f2:(mF.toList==nS.toList)=false:=tne (by decide);have f3:(mF.toList==lP.toList)=false:=tne (by decide);have f4:(mF.toList==vx.toList)=false:=tne (by decide);simp only[f1,f2,f3,f4,teq,cond_true,cond_false,Option.bind_assoc,Option.bind_some,Sum.elim_inr,Option.bind_fun_some,jA];exact ht.2
 | two x a b n hx1=>
  have a0:at' [x,a,b] 0=some x:=rfl;have a1:at' [x,a,b] 1=some a:=rfl;have a2:at' [x,a,b] 2=some b:=rfl;have ha:=hW a (by simp);have hb:=hW b (by simp);unfold eV hZ;simp only[a0,a1,a2,Option.bind_some];rcases hx1 with rfl | rfl | rfl | rfl
  ·exact absurd rfl (hx ue rfl).2.2
  ·have f1:(xG.toList==rc.toList)=false:=tne (by decide);have f2:(xG.toList==nS.toList)=false:=tne (by decide);have f3:(xG.toList==lP.toList)=false:=tne (by decide);have f4:(xG.toList==vx.toList)=false:=tne (by decide);have f5:(xG.toList==mF.toList)=false:=tne (by decide);have f6:(xG.toList==oO.toList)=false:=tne (by decide);have f7:(xG.toList==nk.toList)=false:=tne (by decide);simp only[f1,f2,f3,f4,f5,f6,f7,teq,cond_true,cond_false,Option.bind_assoc,Option.bind_some,Sum.elim_inr,Sum.elim_inl,Option.bind_fun_some,jA];exact G5 h (.inl rfl)
  ·have f1:(wg.toList==rc.toList)=false:=tne (by decide);have f2:(wg.toList==nS.toList)=false:=tne (by decide);have f3:(wg.toList==lP.toList)=false:=tne (by decide);have f4:(wg.toList==vx.toList)=false:=tne (by decide);have f5:(wg.toList==mF.toList)=false:=tne (by decide);have f6:(wg.toList==oO.toList)=false:=tne (by decide);have f7:(wg.toList==nk.toList)=false:=tne (by decide);have f8:(wg.toList==xG.toList)=false:=tne (by decide);simp only[f1,f2,f3,f4,f5,f6,f7,f8,teq,cond_true,cond_false,Option.bind_assoc,Option.bind_some,Sum.elim_inr,Sum.elim_inl,Option.bind_fun_some,jA];exact G5 h (.inr rfl)
  ·have f1:(nk.toList==rc.toList)=false:=tne (by decide);have f2:(nk.toList==nS.toList)=false:=tne (by decide);have f3:(nk.toList==lP.toList)=false:=tne (by decide);have f4:(nk.toList==vx.toList)=false:=tne (by decide);have f5:(nk.toList==mF.toList)=false:=tne (by decide);have f6:(nk.toList==oO.toList)=false:=tne (by decide);have f7:(nk.toList==wg.toList)=false:=tne (by decide);have f8:(nk.toList==xG.toList)=false:=tne (by decide);simp only[f1,f2,f3,f4,f5,f6,f7,f8,teq,cond_true,cond_false,Option.bind_assoc,Option.bind_some,Sum.elim_inr,Sum.elim_inl,Option.bind_fun_some,jA];exact Hi ha hb
 | test M n hM=>
  have a0:at' (oO::M) 0=some oO:=rfl;have f1:(oO.toList==rc.toList)=false:=tne (by decide);have f2:(oO.toList==nS.toList)=false:=tne (by decide);have f3:(oO.toList==lP.toList)=false:=tne (by decide);have f4:(oO.toList==vx.toList)=false:=tne (by decide);have f5:(oO.toList==mF.toList)=false:=tne (by decide);have f7:(oO.toList==wg.toList)=false:=tne (by decide);have f8:(oO.toList==xG.toList)=false:=tne (by decide);have q1:eZ (oO::M) 1 ((oO::M).length:Int)=some M:=by
   rw[kE (by omega) (by rw[List.length_cons];omega) (by omega)];simp
  unfold eV hZ;simp only[a0,q1,f1,f2,f3,f4,f5,f7,f8,teq,cond_true,cond_false,Option.bind_assoc,Option.bind_some,Sum.elim_inr,Sum.elim_inl,Option.bind_fun_some,jA];cases M with
  | nil=>simp at hM
  | cons w R=>
   rw[List.length_cons]at hM;exact Kj h (by omega) (hW w (by simp)) (fun y hy=>hW y (by simp[hy]))
theorem Lh{d:bo}(h:ef d){l:ByteArray}(hl:l.size<=10000): ∃d' t,cT d l=some (t,d')/\ia d l=some (d',t)/\ef d':=by
 have hsl:=wc l 32;have h1:strings_Split l (ByteArray.mk #[32])=some (aZ l 32):=by
  unfold strings_Split;have h:(ByteArray.mk #[32]).data.toList=[32]:=rfl;rw[h];dsimp only;rw[decide_eq_true (by omega),cond_true]
 have h2:bD l 32=some (aZ l 32):=du l 32 (by omega);have hz: ∀y∈aZ l 32,y.size<=10000:=fun y hy=>by have:=fe hy;omega
 have hne:=D3 l 32;unfold cT ia pM;rw[h1,h2];generalize aZ l 32=W at hsl hz hne;cases W with
 | nil=>exact absurd rfl hne
 | cons x M=>
  obtain⟨b,V,n,b1,b2,b3⟩:=Js (x:=x) (M:=M) (by omega) (fun y hy=>by have:=hz y hy;omega);have b2':((jU (x::M)).bind fun x2=>(bif(x2.toList==(ByteArray.mk #[45]).toList)then some (([]:List ByteArray),(0:Int),false)else(((cG (x2.size:Int) (fun(i5:Int) (s5:Int×Bool)=>((cC x2 i5).bind fun x9=>(bif(x9==73)then((at' (x::M) (ap (i5+1))).bind fun x10=>((bu x10).bind fun x11=>some (x11.1,x11.2)))else(bif(x9==74)then((at' (x::M) (ap (i5+1))).bind fun x12=>((bt x12).bind fun x13=>some (x13.1,x13.2)))else some (s5.1,s5.2))))) (fun(s5:Int×Bool)=>(s5.1,s5.2)) 0 (0,true))).bind fun(j3:Int×Bool)=>some ((x::M),j3.1,j3.2))))=some (V,n,b):=b2;simp only[Option.bind_some,b1,b2'];have hfail: ∀{e:Int},0<=e->e<=9->((bO e).bind fun x2=>((cI (ByteArray.mk #[101,114,114,111,114,32]) x2).bind fun x3=>some (d,x3)))=some (d,HC e):=fun{e} h0 h9=>by
   have:=JA h0 h9;have h3:((bO e).bind fun x2=>((cI (ByteArray.mk #[101,114,114,111,114,32]) x2).bind fun x3=>some (d,x3)))=(((bO e).bind fun x18=>cI NC x18).bind fun x3=>some (d,x3)):=by rw[Option.bind_assoc]
   rw[h3,this];rfl
  cases b
  ·simp only[Bool.not_false,cond_true,hfail (e:=6) (by omega) (by omega),gK (e:=6) (by omega) (by omega),Option.bind_some];exact⟨d,_,rfl,rfl,h⟩
  ·obtain⟨rfl,hs⟩:=b3 rfl;simp only[Bool.not_true,cond_false];have a0:at' (x::M) 0=some x:=rfl;simp only[a0,Option.bind_some];have hdid: ∀{i:Option (ByteArray×bo)} {s:Option (bo×Int)},Did d i s-> ∃d' t,i=some (t,d')/\(s.bind fun x8=>(bif(x8.2 !=0)then((bO x8.2).bind fun x18=>((cI (ByteArray.mk #[101,114,114,111,114,32]) x18).bind fun x19=>some (d,x19)))else some (x8.1,okT)))=some (d',t)/\ef d':=fun{i s} hd=>by
    obtain⟨d',e,e1,e2,e3,e4⟩:=hd;rw[e1,e3,Option.bind_some,hfail e2.1 e2.2];unfold JW;cases he:(e !=0)
    ·have:e=0:=by simpa using he
     exact⟨d',okT,rfl,rfl,e4 this⟩
    ·exact⟨d,HC e,rfl,rfl,h⟩
   have hask:(x≠ud/\x≠xF/\x≠ue)-> ∃t,eV d (x::M)=some t/\((hZ d (x::M) n).bind fun x8=>(bif(x8.2 !=0)then((bO x8.2).bind fun x18=>((cI (ByteArray.mk #[101,114,114,111,114,32]) x18).bind fun x19=>some (d,x19)))else some (d,x8.1)))=some (d,t):=fun hx=>by
    obtain⟨t,e,e1,e2,e3⟩:=KE h hs hz (fun y hy=>by
     have:x=y:=by simpa using hy
     rw[<-this];exact hx)
    rw[e1,Option.bind_some,hfail e2.1 e2.2];refine⟨_,e3,?_⟩;unfold JW;cases e !=0<;>rfl
   by_cases c1:x=ud
   ·subst c1;cases hs with
    | one _ _ hx=>rcases hx with hx | hx | hx<;>exact absurd hx (by decide)
    | told _ a b _ hx _=>rcases hx with hx | hx<;>exact absurd hx (by decide)
    | two _ a b _ hx=>rcases hx with hx | hx | hx | hx<;>exact absurd hx (by decide)
    | claim a n=>
     have a1:at' [ud,a] 1=some a:=rfl;obtain⟨d',t,e1,e2,e3⟩:=hdid (Jp h (w:=a) (by have:=hz a (by simp);omega));simp only[teq,cond_true,a1,Option.bind_assoc,Option.bind_some,Sum.elim_inr,e1];exact⟨d',t,rfl,e2,e3⟩
   by_cases c2:x=xF
   ·subst c2;cases hs with
    | one _ _ hx=>rcases hx with hx | hx | hx<;>exact absurd hx (by decide)
    | told _ a b _ hx _=>rcases hx with hx | hx<;>exact absurd hx (by decide)
    | two _ a b _ hx=>rcases hx with hx | hx | hx | hx<;>exact absurd hx (by decide)
    | drop a n hn h0 h9=>
     have f1:(xF.toList==ud.toList)=false:=tne (by decide);have f2:(xF.toList==ue.toList)=false:=tne (by decide);have a1:at' [xF,a] 1=some a:=rfl;obtain⟨hd,⟨e,d2⟩,hx⟩:=KR h (w:=a) (by have:=hz a (by simp);omega) hn h0 h9;obtain⟨d',t,e1,e2,e3⟩:=hdid hd;have hx2:=hx;unfold IH at hx2;rw[hx]at e2;simp only[f1,f2,teq,cond_true,cond_false,a1,Option.bind_some,e1,hx2,Sum.elim_inr];exact⟨d',t,rfl,e2,e3⟩
   by_cases c3:x=ue
   ·subst c3;cases hs with
    | one _ _ hx=>rcases hx with hx | hx | hx<;>exact absurd hx (by decide)
    | told _ a b _ hx _=>rcases hx with hx | hx<;>exact absurd hx (by decide)
    | two _ a b _ hx=>
     have f1:(ue.toList==ud.toList)=false:=tne (by decide);have f2:(ue.toList==xF.toList)=false:=tne (by decide);have a1:at' [ue,a,b] 1=some a:=rfl;have a2:at' [ue,a,b] 2=some b:=rfl;obtain⟨d',t,e1,e2,e3⟩:=hdid (LS h (c:=a) (w:=b) (by have:=hz a (by simp);omega) (by have:=hz b (by simp);omega));simp only[f1,f2,teq,cond_true,cond_false,a1,a2,Option.bind_assoc,Option.bind_some,Sum.elim_inr,e1];exact⟨d',t,rfl,e2,e3⟩
   obtain⟨t,t1,t2⟩:=hask ⟨c1,c2,c3⟩;have f1:=tne c1;have f2:=tne c2;have f3:=tne c3;simp only[f1,f2,f3,cond_false,Option.bind_assoc,Option.bind_some,Sum.elim_inl,t1];exact⟨d,t,rfl,t2,h⟩
def po(d:bo)(l:ByteArray):bo×ByteArray:=(ia d l).getD (d,ByteArray.mk #[])
theorem step_eq{d:bo}(h:ef d){l:ByteArray}(hl:l.size<=10000):cT d l=some ((po d l).2,(po d l).1)/\ia d l=some (po d l)/\ef (po d l).1:=by
 obtain⟨d',t,e1,e2,e3⟩:=Lh h hl;have:po d l=(d',t):=by
  unfold po;rw[e2];rfl
 rw[this];exact⟨e1,e2,e3⟩
def stepG(s:bo×List ByteArray)(l:ByteArray):bo×List ByteArray:=((po s.1 l).1,s.2++[(po s.1 l).2])
def yz(M:List ByteArray):bo×List ByteArray:=M.foldl stepG (bo.mk [] [],[])
theorem L1{M:List ByteArray}(hM:M.length<=1000)(hz: ∀l∈M,l.size<=10000):mW M=some (yz M)/\ef (yz M).1/\(yz M).2.length=M.length:=by
 obtain⟨h1,h2⟩:=Ew (L:=M) (by omega) (B:=fun(i4:Int) (s4:bo×(List ByteArray))=>((at' M i4).bind fun x8=>((ia s4.1 x8).bind fun x9=>((bP s4.2 ([x9.2]:List ByteArray)).bind fun x10=>some (x9.1,x10))))) (D:=fun(s4:bo×(List ByteArray))=>(s4.1,s4.2)) (fun i s=>ef s.1/\s.2.length=i) stepG (s:=(bo.mk [] [],[])) (fun i l s hl hs=>by
  have hi:=(List.getElem?_eq_some_iff.1 hl).1;obtain⟨_,e2,e3⟩:=step_eq hs.1 (hz l (List.mem_of_getElem? hl));rw[ar,hl,Option.bind_some,e2,Option.bind_some,bQ (by simp;omega)];refine⟨rfl,e3,?_⟩;unfold stepG;rw[List.length_append,hs.2];rfl) ⟨ef.OQ,rfl⟩
 unfold mW mD;rw[Option.bind_some,h1];exact⟨rfl,h2.1,h2.2⟩
def lQ(l:ByteArray):ByteArray:=⟨(nn l.data.toList).toArray⟩
theorem CE(l:ByteArray):(lQ l).size<=l.size:=by
 have h1:(lQ l).size=(nn l.data.toList).length:=by
  unfold lQ;show(List.toArray _).size=_;rw[List.size_toArray]
 have h2:=fr l;rw[h1];unfold nn;split
 ·rw[List.length_dropLast];omega
 ·omega
theorem K5{L:List ByteArray}(hL:L.length<=1000)(hz: ∀l∈L,l.size<=10000):cG (L.length:Int) (fun(i4:Int) (s4:(List ByteArray)×(List Site)×(List Claim))=>((at' L i4).bind fun x8=>((strings_TrimSuffix x8 (ByteArray.mk #[10])).bind fun x9=>((cT (bo.mk s4.2.2 s4.2.1) x9).bind fun x10=>((bP s4.1 ([x10.1]:List ByteArray)).bind fun x11=>some (x11,x10.2.Sites,x10.2.Claims)))))) (fun(s4:(List ByteArray)×(List Site)×(List Claim))=>(s4.1,s4.2.1,s4.2.2)) 0 (([]:List ByteArray),([]:List Site),([]:List Claim))=some ((yz (L.map lQ)).2,(yz (L.map lQ)).1.Sites,(yz (L.map lQ)).1.Claims):=by
 obtain⟨h1,_⟩:=Ew (L:=L) (by omega) (B:=fun(i4:Int) (s4:(List ByteArray)×(List Site)×(List Claim))=>((at' L i4).bind fun x8=>((strings_TrimSuffix x8 (ByteArray.mk #[10])).bind fun x9=>((cT (bo.mk s4.2.2 s4.2.1) x9).bind fun x10=>((bP s4.1 ([x10.1]:List ByteArray)).bind fun x11=>some (x11,x10.2.Sites,x10.2.Claims)))))) (D:=fun(s4:(List ByteArray)×(List Site)×(List Claim))=>(s4.1,s4.2.1,s4.2.2)) (fun i s=>ef (bo.mk s.2.2 s.2.1)/\s.1.length=i) (fun s l=>(s.1++[(po (bo.mk s.2.2 s.2.1) (lQ l)).2],(po (bo.mk s.2.2 s.2.1) (lQ l)).1.Sites,(po (bo.mk s.2.2 s.2.1) (lQ l)).1.Claims)) (s:=([],[],[])) (fun i l s hl hs=>by
  have hi:=(List.getElem?_eq_some_iff.1 hl).1;have hzl:=hz l (List.mem_of_getElem? hl);have ht:=CE l;obtain⟨e1,_,e3⟩:=step_eq hs.1 (l:=lQ l) (by omega);have htr:strings_TrimSuffix l (ByteArray.mk #[10])=some (lQ l):=Dt l (by omega);rw[ar,hl,Option.bind_some,htr,Option.bind_some,e1,Option.bind_some,bQ (by simp;omega)];refine⟨rfl,e3,?_⟩;rw[List.length_append,hs.2];rfl) ⟨ef.OQ,rfl⟩
 rw[h1];have key: ∀(M:List ByteArray) (d:bo) (out:List ByteArray),M.foldl (fun s l=>(s.1++[(po (bo.mk s.2.2 s.2.1) (lQ l)).2],(po (bo.mk s.2.2 s.2.1) (lQ l)).1.Sites,(po (bo.mk s.2.2 s.2.1) (lQ l)).1.Claims)) (out,d.Sites,d.Claims)=(((M.map lQ).foldl stepG (d,out)).2,((M.map lQ).foldl stepG (d,out)).1.Sites,((M.map lQ).foldl stepG (d,out)).1.Claims):=by
  intro M
  induction M with
  | nil=>intro d out;rfl
  | cons l M ih=>
   intro d out;rw[List.foldl_cons,List.map_cons,List.foldl_cons];exact ih _ _
 have:=key L (bo.mk [] []) [];exact congrArg some this
def gO(s:ByteArray):List ByteArray:=(sF (bT 10 s.data.toList)).map CC
def sL(s:ByteArray):Bool:=decide (s.size<=2000)&&decide ((gO s).length<=40)
theorem tz(s:ByteArray):((dS s.data.toList).map fun x=>(⟨x.toArray⟩:ByteArray)).map lQ=gO s:=by
 unfold gO;rw[<-HT,List.map_map,List.map_map];rfl
theorem Gi{s l:ByteArray}(h:l∈gO s):l.size<=s.size:=by
 rw[<-tz]at h;obtain⟨x,hx,rfl⟩:=List.mem_map.1 h;obtain⟨y,hy,rfl⟩:=List.mem_map.1 hx;have h1:=CE (⟨y.toArray⟩:ByteArray);have h2:=tA _ _ _ hy;have h3:(⟨y.toArray⟩:ByteArray).size=y.length:=by
  show y.toArray.size=_;rw[List.size_toArray]
 have h4:=fr s;simp only[List.length_nil,Nat.zero_add]at h2;omega
theorem FD(s:ByteArray)(hs:s.size<=1048576):iz s=some (bif sL s then((yz (gO s)).1,(yz (gO s)).2,0)else(bo.mk [] [],[],3))/\iD s=some (bif sL s then((yz (gO s)).2,0)else([],3))/\tM s=some (bif sL s then((yz (gO s)).1,0)else(bo.mk [] [],3))/\(sL s=true->ef (yz (gO s)).1/\(yz (gO s)).2.length=(gO s).length/\(gO s).length<=40):=by
 have hl:BP s=some ((dS s.data.toList).map fun x=>⟨x.toArray⟩):=by
  unfold BP;rw[if_pos (by omega)]
 have hlen:((dS s.data.toList).map fun x=>(⟨x.toArray⟩:ByteArray)).length=(gO s).length:=by
  rw[<-tz,List.length_map (f:=lQ)]
 have h2:gF s=some (gO s):=F4 s (by omega);have hfit:lO s=some (sL s):=by
  unfold lO sL;by_cases h:s.size<=2000
  ·rw[decide_eq_true (show(s.size:Int)<=2000 by omega),decide_eq_true h,cond_true,h2,Option.bind_some,Bool.true_and,Option.bind_some];congr 1;by_cases h4:(gO s).length<=40
   ·rw[decide_eq_true h4,decide_eq_true (show((gO s).length:Int)<=40 by omega)]
   ·rw[decide_eq_false h4,decide_eq_false (show ¬((gO s).length:Int)<=40 by omega)]
  ·rw[decide_eq_false (show ¬(s.size:Int)<=2000 by omega),decide_eq_false h];rfl
 have hcond:(decide ((s.size:Int)>2000) || decide (((gO s).length:Int)>40))= !sL s:=by
  unfold sL;rw[Bool.not_and,<-decide_not,<-decide_not];congr 1
  ·exact decide_eq_decide.2 (by omega)
  ·exact decide_eq_decide.2 (by omega)
 unfold iz iD tM;rw[hl,hfit,h2,Option.bind_some,hlen,hcond];cases hf:sL s
 ·exact⟨rfl,rfl,rfl,fun h=>by cases h⟩
 ·have hf2:=hf;unfold sL at hf2;rw[Bool.and_eq_true,decide_eq_true_eq,decide_eq_true_eq]at hf2;have hz: ∀l∈gO s,l.size<=10000:=fun l h=>by have:=Gi h;omega
  obtain⟨r1,r2,r3⟩:=L1 (by omega) hz;have hi:=K5 (L:=(dS s.data.toList).map fun x=>(⟨x.toArray⟩:ByteArray)) (by omega) (fun l h=>by
   obtain⟨y,hy,rfl⟩:=List.mem_map.1 h;have h2:=tA _ _ _ hy;have h3:(⟨y.toArray⟩:ByteArray).size=y.length:=by
    show y.toArray.size=_;rw[List.size_toArray]
   have h4:=fr s;simp only[List.length_nil,Nat.zero_add]at h2;omega)
  rw[tz,hlen]at hi;simp only[Bool.not_true,cond_false,hi,r1,Option.bind_some,cond_true];exact⟨trivial,trivial,trivial,fun _=>⟨r2,r3,hf2.2⟩⟩
theorem C9(s:ByteArray)(hs:s.size<=1048576): ∃r,iw s=some r/\iD s=some r/\r.1.length<=40:=by
 obtain⟨h1,h2,_,h4⟩:=FD s hs;unfold iw;rw[h1,h2,Option.bind_some];cases hf:sL s
 ·exact⟨_,rfl,rfl,by simp⟩
 ·obtain⟨_,h5,h6⟩:=h4 hf;exact⟨_,rfl,rfl,by show(yz (gO s)).2.length<=40;omega⟩
theorem qw(p0:ByteArray)(k0:p0.size<=maxLen):dG p0=some true:=by
 unfold dG;by_cases g0:(p0.size:Int)>1048576
 ·rw[decide_eq_true g0];rfl
 rw[decide_eq_false g0,cond_false];obtain⟨r,r1,r2,r3⟩:=C9 p0 (by omega);have hl:r.1.length<=1048576:=by omega
 have q:=Bq r.1 (by omega);have b:=Jc (c:=mq) (C:=1) (L:=r.1) (fun _ _=>Nat.le_refl _);have m:=BV r.1 1 (by omega) (by omega) (by omega);have w:=BB r.1 1 (by omega) (by omega) (by omega);have d1:decide (1+((mo mq r.1:Nat):Int)<0)=false:=decide_eq_false (by omega);simp only[r1,r2,Option.bind_some,q,m,w,d1];simp
