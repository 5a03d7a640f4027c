/- Parts of the proof, in order: GA, MW1, MWP, MCN2, MCN3, MIC2, MCN4, MD1, MGV, MCN5, QA, QM, MN1, MDS1, MCN6, MCN7, MLC3, MPL2, MLC1, MLC2, MLC4, MLC5, MN5, MLC6, MCN8, MCN9, SS1, MN2, MN3, MN6, MN7, MMR2, MMR3, MMR4, MMR5, MIS. -/
import Derived.Test.YtbdbpakffniboaaGreatDoorGAp1
import Derived.Test.YtbdbpakffniboaaGreatDoorJ0
import Derived.Test.YtbdbpakffniboaaGreatDoorJ1
noncomputable section
namespace Go.Proofs.YtbdbpakffniboaaGreatDoor.Sh
open Go.RowKit
set_option maxRecDepth 100000
set_option maxHeartbeats 4000000
end Go.Proofs.YtbdbpakffniboaaGreatDoor.Sh
namespace Go.Proofs.YtbdbpakffniboaaGreatDoor.Sh
open Go.RowKit Go.Lib
section
variable {α A S : Type}
theorem jr{L:List α}(hL:L.length<=9223372036854775807){B:Int->Unit->Option (Unit⊕(Unit⊕A))}(p:α->Bool)(a:A)(h: ∀(i:Nat) x,L[i]? =some x->B (i:Int) ()=bif p x then some (.inr (.inr a))else some (.inl ())){K:Option A}:
  (dc (L.length:Int) B (fun _=> .inl ()) 0 ()).bind (Sum.elim (fun _=>K) some)=bif L.any p then some a else K:=by
 rw[kQ L hL B (fun _ x _=>bif p x then some (.inr (.inr a))else some (.inl ())) _ () (fun j x _ hx=>h j x hx),yu];cases L.any p<;>rfl
theorem fD{L:List α}(hL:L.length<=9223372036854775807){B:Int->Unit->Option (Unit⊕(Unit⊕A))}(p:Nat->α->Bool)(a:Nat->α->A)(h: ∀(i:Nat) x,L[i]? =some x->B (i:Int) ()=bif p i x then some (.inr (.inr (a i x)))else some (.inl ())){K:Option A}:
  (dc (L.length:Int) B (fun _=> .inl ()) 0 ()).bind (Sum.elim (fun _=>K) some)=match bW p a L 0 with | some r=>some r | none=>K:=by
 rw[kQ L hL B (fun i x _=>bif p i x then some (.inr (.inr (a i x)))else some (.inl ())) _ () (fun j x _ hx=>h j x hx),tD p (fun i x=>Sum.inr (a i x))];have:bW p (fun i x=>(Sum.inr (a i x):Unit⊕A)) L 0=(bW p a L 0).map .inr:=by
  generalize 0=k
  induction L generalizing k with
  | nil=>rfl
  | cons x l ih=>
   unfold bW;cases p k x
   ·simp only[cond_false];clear h;have: ∀(M:List α) (k:Nat),bW p (fun i x=>(Sum.inr (a i x):Unit⊕A)) M k=(bW p a M k).map .inr:=by
     intro M
     induction M with
     | nil=>intro k;rfl
     | cons y m ih2=>
      intro k;unfold bW;cases p k y
      ·exact ih2 (k+1)
      ·rfl
    exact this l (k+1)
   ·rfl
 rw[this];cases bW p a L 0<;>rfl
def gX(p:α->Bool):List α->Int
 | []=> -1
 | x::l=>bif p x then 0 else(let r:=gX p l;bif decide (r<0)then -1 else r+1)
theorem wG(p:α->Bool): ∀L:List α,-1<=gX p L/\gX p L<L.length
 | []=>by simp[gX]
 | x::l=>by
  have:=wG p l;unfold gX;cases p x
  ·simp only[cond_false];by_cases h:gX p l<0
   ·simp[h];omega
   ·simp[h];omega
  ·simp
theorem ki(p:α->Bool): ∀L:List α,decide (gX p L>=0)=L.any p
 | []=>rfl
 | x::l=>by
  have h:=ki p l;have h1:=wG p l;unfold gX;rw[List.any_cons,<-h];cases p x
  ·simp only[cond_false,Bool.false_or];by_cases h2:gX p l<0
   ·simp[h2]
   ·simp[h2];omega
  ·simp
theorem p9(p:α->Bool)(L:List α):decide (gX p L<0)= !L.any p:=by
 rw[<-ki];by_cases h:gX p L<0
 ·simp[h]
 ·simp[h];omega
theorem Bv(p:α->Bool): ∀(L:List α) (k:Nat),(match bW (fun _ x=>p x) (fun i _=>(i:Int)) L k with | some r=>r | none=> -1)=bif decide (gX p L<0)then -1 else gX p L+k
 | [],k=>rfl
 | x::l,k=>by
  have h:=Bv p l (k+1);have h1:=wG p l;unfold bW gX;cases p x
  ·simp only[cond_false];rw[h];by_cases h2:gX p l<0
   ·simp[h2]
   ·simp[h2];have h3: ¬(gX p l+1<0):=by omega
    simp[h3];omega
  ·simp
theorem fE{L:List α}(hL:L.length<=9223372036854775807){B:Int->Unit->Option (Unit⊕(Unit⊕Int))}(p:α->Bool)(h: ∀(i:Nat) x,L[i]? =some x->B (i:Int) ()=bif p x then some (.inr (.inr (i:Int)))else some (.inl ())):
  (dc (L.length:Int) B (fun _=> .inl ()) 0 ()).bind (Sum.elim (fun _=>some (-1)) some)=some (gX p L):=by
 rw[fD hL (fun _ x=>p x) (fun i _=>(i:Int)) h];have h1:=Bv p L 0;have h2:=wG p L;have h3:(bif decide (gX p L<0)then -1 else gX p L+((0:Nat):Int))=gX p L:=by
  by_cases h:gX p L<0
  ·simp[h];omega
  ·simp[h]
 rw[h3]at h1;cases hf:bW (fun _ x=>p x) (fun i _=>(i:Int)) L 0 with
 | none=>rw[hf]at h1;exact congrArg some h1
 | some r=>rw[hf]at h1;exact congrArg some h1
end
theorem oc{s:ByteArray}{j:Nat}{b:UInt8}(h:s.data.toList[j]? =some b):cC s (j:Int)=some (b.toNat:Int):=by
 unfold cC;rw[if_pos (by omega)];have:s[(j:Int).toNat]? =some b:=by
  rw[Int.toNat_natCast];rw[Array.getElem?_toList]at h;exact h
 rw[this];rfl
def inB(x l h:Int):Bool:=decide (x>=l)&&decide (x<=h)
theorem fU(x l h:Int):dh x l h=some (inB x l h):=rfl
theorem jo(x l h:Int):de x l h=some (inB x l h):=rfl
theorem iU{x l h:Int}:inB x l h=true↔l<=x/\x<=h:=by unfold inB;simp
def small(b:UInt8):Bool:=decide (97<=b.toNat)&&decide (b.toNat<=122)
def cR(s:ByteArray):Bool:=inB s.size 1 16&&s.data.toList.all small
def abc:List UInt8:=[97,98,99,100,101,102,103,104,105,106,107,108,109,110,111,112,113,114,115,116,117,118,119,120,121,122]
theorem Jk(b:UInt8):abc.contains b=small b:=by
 have h: ∀i:Fin 256,abc.contains (UInt8.ofNat i.val)=small (UInt8.ofNat i.val):=by decide+kernel
 have:=h ⟨b.toNat,b.toNat_lt⟩;simpa using this
theorem Iq(l:List UInt8):(trimS l abc).isEmpty=l.all small:=by
 have h1: ∀(p:UInt8->Bool) (l:List UInt8),(l.dropWhile p).isEmpty=l.all p:=by
  intro p l
  induction l with
  | nil=>rfl
  | cons x r ih=>
   rw[List.dropWhile_cons];by_cases h:p x=true
   ·rw[if_pos h,ih,List.all_cons,h,Bool.true_and]
   ·rw[if_neg h,List.all_cons,Bool.eq_false_iff.2 h];rfl
 have h3:(fun b=>abc.contains b)=small:=funext Jk;unfold trimS trimLeftS trimRightS;rw[h3,h1];by_cases h:l.all small=true
 ·have:(l.reverse.dropWhile small)=[]:=by
   have:=h1 small l.reverse;rw[List.all_reverse,h]at this;exact List.isEmpty_iff.1 this
  rw[this,h];rfl
 ·have h4:l.all small=false:=Bool.eq_false_iff.2 h;rw[h4,Bool.eq_false_iff];intro h5;have h6:=h1 small l.reverse;rw[List.all_reverse,h4]at h6;rcases hd:l.reverse.dropWhile small with _ | ⟨x,r⟩
  ·rw[hd]at h6;cases h6
  ·have h7:small x=false:=by
    have:=List.head?_dropWhile_not small l.reverse;rw[hd]at this;simpa using this
   rw[hd,List.all_reverse]at h5;simp[h7]at h5
theorem toList_eq(s:ByteArray):s.toList=s.data.toList:=Lib.toList_data s
theorem o7(s:ByteArray)(hs:s.size<=maxLen):je s=some (cR s):=by
 unfold je qK cR;rw[fU,Option.bind_some];cases inB (s.size:Int) 1 16
 ·rfl
 ·have h1:iq s (ByteArray.mk #[97,98,99,100,101,102,103,104,105,106,107,108,109,110,111,112,113,114,115,116,117,118,119,120,121,122])=some ⟨(trimS s.data.toList abc).toArray⟩:=by
   unfold iq;have h2:((ByteArray.mk #[97,98,99,100,101,102,103,104,105,106,107,108,109,110,111,112,113,114,115,116,117,118,119,120,121,122]).data.toList.all (fun b=>decide (b.toNat<128)))=true:=by decide
   have h3:(decide ((ByteArray.mk #[97,98,99,100,101,102,103,104,105,106,107,108,109,110,111,112,113,114,115,116,117,118,119,120,121,122]).size<=1000))=true:=by decide
   rw[h2,h3,decide_eq_true hs];rfl
  rw[h1];simp only[cond_true,Option.bind_some,Bool.true_and];congr 1;rw[toList_eq,toList_eq,<-Iq];cases trimS s.data.toList abc<;>rfl
theorem BR{A:Type}{s:ByteArray}(hL:s.size<=9223372036854775807){B:Int->Unit->Option (Unit⊕(Unit⊕A))}(p:UInt8->Bool)(a:A)(h: ∀(i:Nat) x,s.data.toList[i]? =some x->B (i:Int) ()=bif p x then some (.inr (.inr a))else some (.inl ())){K:Option A}:
  (dc (s.size:Int) B (fun _=> .inl ()) 0 ()).bind (Sum.elim (fun _=>K) some)=bif s.data.toList.any p then some a else K:=by
 have hl:s.size=s.data.toList.length:=by rw[Array.length_toList];rfl
 rw[hl]at hL⊢;exact jr hL p a h
theorem hU(s:ByteArray)(hs:s.size<=maxLen):er s=some (cR s):=by
 unfold er;rw[BR (by unfold maxLen at hs;omega) (fun x=> !small x) false (fun j x hx=> ?_)]
 ·rw[<-List.not_all_eq_any_not];unfold cR;cases s.data.toList.all small
  ·simp
  ·simp[jo]
 ·rw[oc hx];simp only[Option.bind_some];unfold small;by_cases h1:(x.toNat:Int)<97
  ·have h2: ¬97<=x.toNat:=by omega
   simp[h1,h2]
  ·have h2:97<=x.toNat:=by omega
   by_cases h3:(x.toNat:Int)>122
   ·have h4: ¬x.toNat<=122:=by omega
    simp[h1,h2,h3,h4]
   ·have h4:x.toNat<=122:=by omega
    simp[h1,h2,h3,h4]
theorem gP(s:ByteArray):s.data.toList.length=s.size:=by rw[Array.length_toList];rfl
theorem FN(s:ByteArray)(a b:Nat):s.extract a b=⟨((s.data.toList.drop a).take (b - a)).toArray⟩:=by
 rw[<-extract_data]
theorem y5{s:ByteArray}{a b:Nat}(h:a<=b)(hb:b<=s.size):mn s (a:Int) (b:Int)=some ⟨((s.data.toList.drop a).take (b - a)).toArray⟩:=by
 unfold mn;rw[if_pos ⟨by omega,by omega,by omega⟩,Int.toNat_natCast,Int.toNat_natCast,FN]
theorem Po(b c:UInt8):(((b.toNat:Int)==(c.toNat:Int))=true)↔b=c:=by
 rw[beq_iff_eq];constructor
 ·intro h;have:b.toNat=c.toNat:=by omega
  exact UInt8.toNat_inj.1 this
 ·intro h;rw[h]
theorem GS{c:UInt8}{l:List UInt8}{f i:Nat}(hf:f<=i)(hfree:c∉(l.drop f).take (i - f))(hi:l[i]? =some c):bT c (l.drop f)=(l.drop f).take (i - f)::bT c (l.drop (i+1)):=by
 have hlt:=(List.getElem?_eq_some_iff.1 hi).1;have h1:l.drop f=(l.drop f).take (i - f)++c::l.drop (i+1):=by
  have h2:(l.drop f).drop (i - f)=c::l.drop (i+1):=by
   rw[List.drop_drop,show f+(i - f)=i from by omega,List.drop_eq_getElem_cons hlt];congr 1;exact(List.getElem?_eq_some_iff.1 hi).2
  rw[<-h2,List.take_append_drop]
 conv=>lhs;rw[h1]
 exact ra hfree
theorem du(s:ByteArray)(c:UInt8)(hs:s.size<=4294967280):bD s (c.toNat:Int)=some (aZ s c):=by
 have hn:s.data.toList.length=s.size:=gP s;have key: ∀(k i f:Nat) (out:List ByteArray),i+k=s.size->f<=i->out.length<=i->c∉(s.data.toList.drop f).take (i - f)->
   mb (fun(i3:Int) (_:Int×(List ByteArray))=>(decide (i3<=(s.size:Int)))) (fun(i3:Int) (s3:Int×(List ByteArray))=>(((bif(i3==(s.size:Int))then some true else((cC s i3).bind fun x7=>some (x7==(c.toNat:Int))))).bind fun(j8:Bool)=>(bif j8 then((mn s s3.1 i3).bind fun x10=>((bP s3.2 ([x10]:List ByteArray)).bind fun x11=>some ((ap (i3+1)),x11)))else some (s3.1,s3.2)))) (fun(s3:Int×(List ByteArray))=>s3.2) (i:Int) ((f:Int),out)=some (out++(bT c (s.data.toList.drop f)).map fun l=>⟨l.toArray⟩):=by
  intro k
  induction k with
  | zero=>
   intro i f out hk hf hout hfree;have hi:i=s.size:=by omega
   unfold mb;rw[bF];dsimp only;have e1:((i:Int)==(s.size:Int))=true:=by rw[hi];simp
   rw[decide_eq_true (by omega),cond_true,e1,cond_true,Option.bind_some,cond_true,y5 hf (by omega),Option.bind_some,bQ (by simp;omega)];simp only[Option.bind_some];rw[bg (by omega) (by omega),bF];dsimp only;rw[decide_eq_false (by omega),cond_false];have h1:(s.data.toList.drop f).take (i - f)=s.data.toList.drop f:=List.take_of_length_le (by rw[List.length_drop];omega);rw[h1]at hfree;rw[pk hfree,h1];rfl
  | succ k ih=>
   intro i f out hk hf hout hfree;have hlt:i<s.data.toList.length:=by omega
   have hb:s.data.toList[i]? =some s.data.toList[i]:=List.getElem?_eq_getElem hlt;generalize s.data.toList[i]=b at hb;unfold mb;rw[bF];dsimp only;have e1:((i:Int)==(s.size:Int))=false:=by rw[beq_eq_false_iff_ne];omega
   rw[decide_eq_true (by omega),cond_true,e1,cond_false,oc hb,Option.bind_some,Option.bind_some];by_cases hbc:b=c
   ·subst hbc;have e2:((b.toNat:Int)==(b.toNat:Int))=true:=beq_self_eq_true _;rw[e2,cond_true,y5 hf (by omega),Option.bind_some,bQ (by simp;omega)];simp only[Option.bind_some];rw[bg (n:=(i:Int)+1) (by omega) (by omega)];have e3:(i:Int)+1=((i+1:Nat):Int):=by omega
    rw[e3];have:=ih (i+1) (i+1) (out++[⟨((s.data.toList.drop f).take (i - f)).toArray⟩]) (by omega) (Nat.le_refl _) (by simp;omega) (by simp);unfold mb at this;rw[this,GS hf hfree hb];simp
   ·have e2:((b.toNat:Int)==(c.toNat:Int))=false:=by
     rw[Bool.eq_false_iff];exact fun h=>hbc ((Po b c).1 h)
    rw[e2,cond_false];simp only[Option.bind_some];rw[bg (n:=(i:Int)+1) (by omega) (by omega)];have e3:(i:Int)+1=((i+1:Nat):Int):=by omega
    rw[e3];have:=ih (i+1) f out (by omega) (by omega) (by omega) (by
     have h1:(s.data.toList.drop f).take (i+1 - f)=(s.data.toList.drop f).take (i - f)++[b]:=by
      rw[show i+1 - f=(i - f)+1 from by omega,List.take_add_one,List.getElem?_drop,show f+(i - f)=i from by omega,hb];rfl
     rw[h1];intro h;rcases List.mem_append.1 h with h | h
     ·exact hfree h
     ·exact hbc (List.mem_singleton.1 h).symm)
    unfold mb at this;rw[this]
 unfold bD;have:=key s.size 0 0 [] (by omega) (Nat.le_refl _) (by simp) (by simp);rw[show(0:Int)=((0:Nat):Int)from rfl,this];simp[aZ]
theorem C0(s:ByteArray)(hs:s.size<=4294967280):nG s=some (aZ s 32):=by
 unfold nG strings_Split;have h:(ByteArray.mk #[32]).data.toList=[32]:=rfl;rw[h];dsimp only;rw[decide_eq_true (by omega),cond_true];rfl
theorem wc(s:ByteArray)(c:UInt8):(aZ s c).length<=s.size+1:=by
 unfold aZ;rw[List.length_map,rb];have h1:s.data.toList.count c<=s.data.toList.length:=List.count_le_length;have:=gP s;omega
theorem D3(s:ByteArray)(c:UInt8):aZ s c≠[]:=by
 unfold aZ;intro h;exact kX c _ (List.map_eq_nil_iff.1 h)
def kF(s:ByteArray):Bool:=decide ((aZ s 32).length<=8)&&(aZ s 32).all cR
theorem mh(L:List ByteArray)(hL:L.length<=9223372036854775807)(h: ∀x∈L,x.size<=maxLen):gv L=some (L.all cR):=by
 unfold gv;rw[jr hL (fun x=> !cR x) false (fun j x hx=>by
  rw[ar,hx,Option.bind_some,o7 x (h x (List.mem_of_getElem? hx)),Option.bind_some]),<-List.not_all_eq_any_not]
 cases L.all cR<;>rfl
theorem CU(s:ByteArray)(hs:s.size<=4294967280):mr s=some (kF s):=by
 unfold mr kF;have hl:=wc s 32;rw[C0 s hs,Option.bind_some,mh _ (by omega) (fun x hx=>by have:=fe hx;unfold maxLen;omega)];by_cases h:(aZ s 32).length<=8
 ·rw[decide_eq_true (show((aZ s 32).length:Int)<=8 by omega),decide_eq_true h];rfl
 ·rw[decide_eq_false (show ¬((aZ s 32).length:Int)<=8 by omega),decide_eq_false h];rfl
def Iu(s:ByteArray):List ByteArray×Bool:=bif(aZ s 32).all cR then(aZ s 32,decide ((aZ s 32).length<=8))else([],false)
theorem Cs(s:ByteArray)(hs:s.size<=4294967280):lH s=some (Iu s):=by
 unfold lH Iu;have hl:=wc s 32;rw[show(32:Int)=((32:UInt8).toNat:Int)from rfl,du s 32 hs,Option.bind_some,jr (by omega) (fun x=> !cR x) (([]:List ByteArray),false) (fun j x hx=>by
  rw[ar,hx,Option.bind_some,hU x (by have:=fe (List.mem_of_getElem? hx);unfold maxLen;omega),Option.bind_some]),<-List.not_all_eq_any_not]
 have e:decide (((aZ s 32).length:Int)<=8)=decide ((aZ s 32).length<=8):=by
  by_cases h:(aZ s 32).length<=8
  ·rw[decide_eq_true (show((aZ s 32).length:Int)<=8 by omega),decide_eq_true h]
  ·rw[decide_eq_false (show ¬((aZ s 32).length:Int)<=8 by omega),decide_eq_false h]
 rw[e];cases (aZ s 32).all cR<;>rfl
theorem Dc(s:ByteArray)(hs:s.size<=4294967280):mx s=some (kF s):=by
 unfold mx kF;rw[Cs s hs,Option.bind_some];unfold Iu;cases (aZ s 32).all cR
 ·simp
 ·simp
theorem rf{s:ByteArray}(h:cR s=true):1<=s.size/\s.size<=16:=by
 unfold cR at h;rw[Bool.and_eq_true,iU]at h;omega
theorem EO{s:ByteArray}(h:kF s=true):1<=s.size:=by
 unfold kF at h;rw[Bool.and_eq_true]at h;have h1:=D3 s 32;obtain⟨x,l,hx⟩:=List.exists_cons_of_ne_nil h1;have h2:=List.all_eq_true.1 h.2 x (by rw[hx];simp);have h3:=rf h2;have:=fe (s:=s) (c:=32) (x:=x) (by rw[hx];simp);omega
theorem OG{a b:ByteArray}:(a.toList==b.toList)=decide (a=b):=by
 have h:(a.toList==b.toList)=true↔a=b:=by
  rw[beq_iff_eq,toList_eq,toList_eq];constructor
  ·intro h;have h2:=Array.toList_inj.1 h;cases a;cases b;simp at h2;rw[h2]
  ·intro h;rw[h]
 by_cases hab:a=b
 ·rw[h.2 hab,decide_eq_true hab]
 ·rw[decide_eq_false hab];exact Bool.eq_false_iff.2 fun e=>hab (h.1 e)
theorem Dt(s:ByteArray)(hs:s.size<4294967296):strings_TrimSuffix s (ByteArray.mk #[10])=some ⟨(nn s.data.toList).toArray⟩:=by
 have hsl:s.data.toList.length=s.size:=gP s;have h1:(ByteArray.mk #[10]).size=1:=rfl;unfold strings_TrimSuffix dR dY;rw[h1];rcases Nat.eq_zero_or_pos s.size with h0 | h0
 ·have hd:decide ((s.size:Int)>=((1:Nat):Int))=false:=decide_eq_false (by omega);rw[hd];have hn:s.data.toList=[]:=List.eq_nil_of_length_eq_zero (by omega);have hse:s=⟨#[]⟩:=by
   cases s with
   | mk d=>simp at hn;rw[hn]
  subst hse;rfl
 ·have hd:decide ((s.size:Int)>=((1:Nat):Int))=true:=decide_eq_true (by omega);have hw:ap ((s.size:Int)-((1:Nat):Int))=((s.size - 1:Nat):Int):=by
   rw[bg (by omega) (by omega)];omega
  rw[hd,hw,y5 (by omega) (Nat.le_refl _)];obtain⟨l,c,hl⟩: ∃l c,s.data.toList=l++[c]:=by
   rcases List.eq_nil_or_concat s.data.toList with h | ⟨l,c,h⟩
   ·rw[h]at hsl;simp at hsl;omega
   ·exact⟨l,c,by simpa using h⟩
  have hll:l.length=s.size - 1:=by
   rw[hl]at hsl;simp at hsl;omega
  have e1:(s.data.toList.drop (s.size - 1)).take (s.size -(s.size - 1))=[c]:=by
   rw[hl,<-hll,List.drop_left,List.take_of_length_le];simp;omega
  rw[e1];simp only[cond_true,Option.bind_some];rw[OG];by_cases hc:c=10
  ·subst hc;have hz:(0:Int)=((0:Nat):Int):=rfl;rw[decide_eq_true rfl,cond_true,hz,y5 (Nat.zero_le _) (by omega),hl,CD,List.drop_zero,Nat.sub_zero,<-hll,List.take_left];rfl
  ·have hne: ¬(ByteArray.mk [c].toArray=ByteArray.mk #[10]):=fun e=>hc (by
    injection e with e;simpa using e)
   rw[decide_eq_false hne,cond_false];have ht:nn s.data.toList=s.data.toList:=by
    unfold nn;rw[hl];simp[hc]
   rw[ht];simp
def CC(l:List UInt8):ByteArray:=⟨l.toArray⟩
theorem F4(s:ByteArray)(hs:s.size<=4294967280):gF s=some ((sF (bT 10 s.data.toList)).map CC):=by
 have h1:bD s 10=some (aZ s 10):=du s 10 hs;have hlen:(aZ s 10).length=(bT 10 s.data.toList).length:=by simp[aZ]
 have hl2:=rb 10 s.data.toList;have hcnt:s.data.toList.count 10<=s.size:=by rw[<-gP s];exact List.count_le_length
 have hpos:0<(aZ s 10).length:=by omega
 have hw:ap (((aZ s 10).length:Int)- 1)=(((aZ s 10).length - 1:Nat):Int):=by
  rw[bg (by omega) (by omega)];omega
 unfold gF;rw[h1];simp only[Option.bind_some];rw[hw,Bc (by omega)];simp only[Option.bind_some];rw[OG];obtain⟨L,x,hL⟩: ∃L x,bT 10 s.data.toList=L++[x]:=by
  rcases List.eq_nil_or_concat (bT 10 s.data.toList)with h | ⟨L,x,h⟩
  ·exact absurd h (kX 10 _)
  ·exact⟨L,x,by simpa using h⟩
 have hS:aZ s 10=L.map CC++[CC x]:=by
  show(bT 10 s.data.toList).map CC=_;rw[hL];simp
 have hn:(aZ s 10).length - 1=(L.map CC).length:=by
  rw[hS];simp
 have hget:(aZ s 10)[(aZ s 10).length - 1]'(by omega)=CC x:=by
  have h2:(aZ s 10)[(aZ s 10).length - 1]? =some (CC x):=by
   rw[hn,hS,List.getElem?_append_right (Nat.le_refl _),Nat.sub_self];rfl
  rw[List.getElem?_eq_getElem (by omega)]at h2;injection h2
 rw[hget,hL];unfold sF;by_cases hx:x=[]
 ·subst hx;have hd:decide (CC []=ByteArray.mk #[])=true:=decide_eq_true rfl;rw[hd,cond_true,kE (by omega) (by omega) (by omega)];simp only[Option.bind_some];rw[if_pos (by simp),List.dropLast_concat,Int.toNat_natCast,hn,hS];simp
 ·have hd:decide (CC x=ByteArray.mk #[])=false:=decide_eq_false fun e=>hx (by
   unfold CC at e;injection e with e;simpa using e)
  rw[hd,cond_false,if_neg (by simpa using hx),hS];simp
theorem pt(s:ByteArray):s.toList=s.data.toList:=by
 have: ∀n i (r:List UInt8),s.size - i=n->ByteArray.toList.loop s i r=r.reverse++s.data.toList.drop i:=by
  intro n
  induction n with
  | zero=>
   intro i r h;unfold ByteArray.toList.loop;have h2:s.data.toList.length=s.size:=by rw[Array.length_toList];rfl
   rw[if_neg (by omega),List.drop_eq_nil_of_le (by omega),List.append_nil]
  | succ n ih=>
   intro i r h;unfold ByteArray.toList.loop;have h2:s.data.toList.length=s.size:=by rw[Array.length_toList];rfl
   rw[if_pos (by omega),ih (i+1) _ (by omega),List.reverse_cons,List.append_assoc,List.drop_eq_getElem_cons (show i<s.data.toList.length by omega)];congr 1;show[s.get! i]++_=_;rw[List.singleton_append];congr 1;rw[Array.getElem_toList];show s.data[i]! =_;rw[getElem!_pos s.data i (by rw[<-Array.length_toList];omega)]
 have h:=this _ 0 [] rfl;rw[List.reverse_nil,List.nil_append,List.drop_zero]at h;exact h
theorem fr(s:ByteArray):s.data.toList.length=s.size:=by rw[Array.length_toList];rfl
theorem AI: ∀(k fuel n:Nat),n<10^(k+1)->k<fuel->k<=15-> ∃t:ByteArray,iL fuel (n:Int)=some t/\t.data.toList=decDigits n/\t.size<=k+1
 | k,0,n,_,h,_=>by omega
 | k,fuel+1,n,hn,hf,hk=>by
  have hp:10^(k+1)<=10^16:=Nat.pow_le_pow_right (by omega) (by omega);unfold iL;by_cases h:n<10
  ·rw[decide_eq_true (show(n:Int)<10 by omega),cond_true];refine⟨_,rfl,?_,?_⟩
   ·rw[bg (by omega) (by omega),decDigits,dif_pos h];have:n=0\/n=1\/n=2\/n=3\/n=4\/n=5\/n=6\/n=7\/n=8\/n=9:=by omega
    rcases this with rfl | rfl | rfl | rfl | rfl | rfl | rfl | rfl | rfl | rfl<;>decide+kernel
   ·rw[strOfNums_size];simp
  ·rw[decide_eq_false (show ¬(n:Int)<10 by omega),cond_false];cases k with
   | zero=>omega
   | succ k=>
    have e1:Int.tdiv (n:Int) 10=((n/10:Nat):Int):=rfl;have e2:Int.tmod (n:Int) 10=((n % 10:Nat):Int):=rfl;obtain⟨t,t1,t2,t3⟩:=AI k fuel (n/10) (by rw[Nat.pow_succ]at hn;omega) (by omega) (by omega);have hm:n % 10<10:=Nat.mod_lt _ (by omega);have hs:=strOfNums_size [(IntKind.wrap .u8 (ap (48+((n % 10:Nat):Int))))];rw[List.length_singleton]at hs;rw[e1,e2,bg (n:=((n/10:Nat):Int)) (by omega) (by omega),t1,Option.bind_some];unfold cI;rw[if_pos (by omega),Option.bind_some];refine⟨_,rfl,?_,by rw[ByteArray.size_append];omega⟩;rw[decDigits,dif_neg h,ByteArray.data_append,Array.toList_append,t2];congr 1;rw[bg (by omega) (by omega)];generalize n % 10=d at hm;have:d=0\/d=1\/d=2\/d=3\/d=4\/d=5\/d=6\/d=7\/d=8\/d=9:=by omega
    rcases this with rfl | rfl | rfl | rfl | rfl | rfl | rfl | rfl | rfl | rfl<;>decide+kernel
theorem byte_at{s:ByteArray}{i:Nat}(hi:i<s.size):cC s (i:Int)=some ((s.data.toList[i]'(by rw[fr];exact hi)).toNat:Int):=by
 unfold cC;rw[if_pos (by omega),Int.toNat_natCast,getElem?_pos s i hi];rfl
theorem Mn{s:ByteArray}(hs:s.size<=13): ∃r:Int⊕(Int×Bool),dc (s.size:Int) (fun(i3:Int) (s3:Int)=>((((cC s i3).bind fun x7=>(bif(decide (x7<48))then some true else((cC s i3).bind fun x8=>some (decide (x8>57)))))).bind fun(j9:Bool)=>(bif j9 then some (.inr (.inr (0,false)))else((cC s i3).bind fun x11=>some (.inl (ap ((ap (10*s3))+(ap (IntKind.wrap .u8 (x11 - 48)))))))))) (fun(s3:Int)=>(.inl s3:Int⊕(Int×Bool))) 0 0=some r/\r=bif s.data.toList.all zS then .inl (CG s.data.toList 0:Int)else .inr (0,false):=by
 have hl:=fr s;rw[fg _ (by omega)];have key: ∀(m k a:Nat),k+m=s.size->a<10^k-> ∃r:Int⊕(Int×Bool),cV (fun(i3:Nat) (s3:Int)=>((((cC s (i3:Int)).bind fun x7=>(bif(decide (x7<48))then some true else((cC s (i3:Int)).bind fun x8=>some (decide (x8>57)))))).bind fun(j9:Bool)=>(bif j9 then some (.inr (.inr (0,false)))else((cC s (i3:Int)).bind fun x11=>some (.inl (ap ((ap (10*s3))+(ap (IntKind.wrap .u8 (x11 - 48)))))))))) (fun(s3:Int)=>(.inl s3:Int⊕(Int×Bool))) m k (a:Int)=some r/\r=bif(s.data.toList.drop k).all zS then .inl (CG (s.data.toList.drop k) a:Int)else .inr (0,false):=by
  intro m
  induction m with
  | zero=>
   intro k a hk ha;rw[List.drop_eq_nil_of_le (by omega)];exact⟨_,rfl,rfl⟩
  | succ m ih=>
   intro k a hk ha;have hks:k<s.size:=by omega
   have hp:10^k<=10^13:=Nat.pow_le_pow_right (by omega) (by omega);have hx:=byte_at hks;have hlt:=(s.data.toList[k]'(by omega)).toNat_lt;rw[List.drop_eq_getElem_cons (show k<s.data.toList.length by omega),List.all_cons];generalize hc:s.data.toList[k]'(by omega)=c at hx hlt;unfold cV;simp only[hx,Option.bind_some];cases hd:zS c
   ·have hnd: ¬(48<=c.toNat/\c.toNat<=57):=fun h=>by rw[pY.2 h]at hd;cases hd
    by_cases h1:c.toNat<48
    ·rw[decide_eq_true (show(c.toNat:Int)<48 by omega)];exact⟨_,rfl,rfl⟩
    ·rw[decide_eq_false (show ¬(c.toNat:Int)<48 by omega),decide_eq_true (show(c.toNat:Int)>57 by omega)];exact⟨_,rfl,rfl⟩
   ·have hdg:=pY.1 hd;obtain⟨r,r1,r2⟩:=ih (k+1) (a*10+(c.toNat - 48)) (by omega) (by rw[Nat.pow_succ];omega);have hw:IntKind.wrap .u8 ((c.toNat:Int)- 48)=((c.toNat - 48:Nat):Int):=by
     rw[IntKind.wrap_u8];omega
    rw[decide_eq_false (show ¬(c.toNat:Int)<48 by omega),decide_eq_false (show ¬(c.toNat:Int)>57 by omega),hw,bg (n:=10*(a:Int)) (by omega) (by omega),bg (n:=((c.toNat - 48:Nat):Int)) (by omega) (by omega),bg (n:=10*(a:Int)+((c.toNat - 48:Nat):Int)) (by omega) (by omega),show 10*(a:Int)+((c.toNat - 48:Nat):Int)=((a*10+(c.toNat - 48):Nat):Int) by omega];refine⟨r,r1,?_⟩;rw[r2,Bool.true_and];rfl
 have:=key s.size 0 0 (by omega) (by simp);rw[List.drop_zero]at this;exact this
theorem iH(s:ByteArray): ∃n b,bu s=some (n,b)/\(b=true↔can s.data.toList)/\0<=n/\n<10000000000000/\(b=true->n=CG s.data.toList 0):=by
 have hl:=fr s;unfold bu;by_cases h0:s.size<1\/13<s.size
 ·refine⟨0,false,?_,?_,by omega,by omega,fun h=>by cases h⟩
  ·have:(decide ((s.size:Int)<1) || decide ((s.size:Int)>13))=true:=by
    rw[Bool.or_eq_true,decide_eq_true_eq,decide_eq_true_eq];omega
   rw[this];rfl
  ·constructor
   ·intro h;cases h
   ·rintro⟨m,h1,h2⟩;have:=List.length_pos_iff.2 (vE m);rw[<-h1]at this;omega
 ·have:(decide ((s.size:Int)<1) || decide ((s.size:Int)>13))=false:=by
   rw[Bool.or_eq_false_iff,decide_eq_false_iff_not,decide_eq_false_iff_not];omega
  rw[this,cond_false];obtain⟨r,r1,r2⟩:=Mn (s:=s) (by omega);rw[r1,Option.bind_some,r2];cases hd:s.data.toList.all zS
  ·refine⟨0,false,rfl,?_,by omega,by omega,fun h=>by cases h⟩;constructor
   ·intro h;cases h
   ·rintro⟨m,h1,h2⟩;rw[h1,wA]at hd;cases hd
  ·have hv:=E9 s.data.toList 0 0 hd (by simp);have hp:10^(0+s.data.toList.length)<=10^13:=Nat.pow_le_pow_right (by omega) (by omega);obtain⟨t,t1,t2,_⟩:=AI 12 1000 (CG s.data.toList 0) (by omega) (by omega) (by omega);have t1':bO (CG s.data.toList 0:Int)=some t:=t1;rw[cond_true,Sum.elim_inl,t1',Option.bind_some];refine⟨_,_,rfl,?_,by omega,by omega,fun _=>rfl⟩;rw[pt,pt,t2,beq_iff_eq];constructor
   ·intro h;exact⟨_,h.symm,by omega⟩
   ·rintro⟨m,h1,h2⟩;rw[h1,lc]
theorem lg(s:ByteArray)(i j:Nat):(s.extract i j).data.toList=(s.data.toList.take j).drop i:=by
 rw[ByteArray.data_extract,Array.toList_extract,List.extract_eq_take_drop,List.drop_take]
theorem NI(s:ByteArray)(hs:s.size<=1048576): ∃t,strings_TrimPrefix s (ByteArray.mk #[45])=some t/\(t.size:Int)=if s.data.toList.head?=some 45 then(s.size:Int)- 1 else s.size:=by
 have hl:=fr s;have hone:(ByteArray.mk #[45]).size=1:=rfl;unfold strings_TrimPrefix dQ ci;rw[hone];cases hd:s.data.toList with
 | nil=>
  rw[hd]at hl;have h0:s.size=0:=hl.symm;rw[decide_eq_false (show ¬(s.size:Int)>=((1:Nat):Int) by omega)];exact⟨s,rfl,by simp⟩
 | cons c r=>
  rw[hd,List.length_cons]at hl;rw[decide_eq_true (show(s.size:Int)>=((1:Nat):Int) by omega),cond_true];unfold mn;rw[if_pos (by omega),Option.bind_some];have e1:(s.extract (Int.toNat 0) (Int.toNat ((1:Nat):Int))).toList=[c]:=by
   rw[pt,lg,hd];rfl
  rw[e1,pt];by_cases hc:c=45
  ·subst hc;rw[if_pos (by omega)];refine⟨_,rfl,?_⟩;rw[<-fr,lg,hd];simp;omega
  ·have:([c]==(ByteArray.mk #[45]).data.toList)=false:=by
    rw[beq_eq_false_iff_ne];intro h;injection h with h;exact hc h
   rw[this];refine⟨s,rfl,?_⟩;rw[if_neg (by simpa using hc)]
theorem uH(s:ByteArray)(hs:s.size<=1048576):cJ s=some ((gj s).1,(gj s).2&&decide ((if s.data.toList.head?=some 45 then(s.size:Int)- 1 else s.size)<=13)):=by
 obtain⟨t,t1,t2⟩:=NI s hs;unfold cJ bG;rw[if_pos (by omega),Option.bind_some,t1,Option.bind_some,t2];cases (gj s).2<;>rfl
theorem AW{s:ByteArray}{v:Int}(h:parseIntB 64 s.data.toList= .ok v):gj s=(v,itoa v==s.data.toList):=by
 unfold gj;rw[h,pt]
theorem nX{s:ByteArray}(h:(gj s).2=true):itoa (gj s).1=s.data.toList:=by
 unfold gj at h⊢;cases hp:parseIntB 64 s.data.toList
 ·rw[hp]at h;rw[pt]at h;exact beq_iff_eq.1 h
 ·rw[hp]at h;cases h
 ·rw[hp]at h;cases h
theorem BA{m:Nat}:(decDigits m).head?≠some 45:=by
 intro h;cases hd:decDigits m with
 | nil=>rw[hd]at h;cases h
 | cons c r=>
  rw[hd]at h;have:=(Bn hd).1;simp only[List.head?_cons,Option.some.injEq]at h;rw[h]at this;exact this rfl
theorem K8(s:ByteArray)(hs:s.size<=1048576): ∃b r,lr s=some b/\bu s=some (r,b):=by
 have hl:=fr s;obtain⟨n,b,v1,v2,_,_,v5⟩:=iH s;refine⟨b,n,?_,v1⟩;unfold lr;rw[uH s hs,Option.bind_some];congr 1;rw[Bool.eq_iff_iff,v2,Bool.and_eq_true,Bool.and_eq_true,decide_eq_true_eq,decide_eq_true_eq];constructor
 ·rintro⟨⟨h1,h2⟩,h3⟩;have h4:=nX h1;have h3:0<=(gj s).1:=h3;rw[kq h3]at h4;rw[<-h4,if_neg BA]at h2;exact⟨_,h4.symm,by omega⟩
 ·rintro⟨m,h1,h2⟩;have hp:=yw (u:=m) (by rw[<-h1];exact h2);rw[<-h1]at hp;rw[AW hp];refine⟨⟨?_,?_⟩,by show(m:Int)>=0;omega⟩
  ·show(itoa (m:Int)==s.data.toList)=true;rw[itoa_nonneg,h1];exact beq_self_eq_true _
  ·rw[h1,if_neg BA];omega
theorem HL(s:ByteArray)(hs:s.size<=1048576): ∃b r,jj s=some b/\bt s=some (r,b):=by
 have hl:=fr s;unfold jj bt;rw[uH s hs,Option.bind_some];cases hd:s.data.toList with
 | nil=>
  rw[hd]at hl;have h0:s.size=0:=hl.symm;rw[decide_eq_false (show ¬(s.size:Int)>0 by omega)];obtain⟨n,b,v1,v2,_⟩:=iH s;refine⟨_,n,rfl,?_⟩;rw[cond_false,Option.bind_some,cond_false,v1,Option.bind_some];congr 2;rw[Bool.eq_iff_iff,v2,Bool.and_eq_true];constructor
  ·rintro⟨m,h1,_⟩;rw[hd]at h1;exact absurd h1.symm (vE m)
  ·rintro⟨h1,_⟩;have h4:=nX h1;rw[hd]at h4;unfold itoa at h4;split at h4
   ·cases h4
   ·exact absurd h4 (vE _)
 | cons c r=>
  rw[hd,List.length_cons]at hl;have hb:cC s 0=some (c.toNat:Int):=by
   have:=byte_at (s:=s) (i:=0) (by omega);simp only[hd]at this;exact this
  rw[decide_eq_true (show(s.size:Int)>0 by omega),cond_true,hb,Option.bind_some,Option.bind_some];by_cases hc:c=45
  ·subst hc;have e45:(((45:UInt8).toNat:Int)==45)=true:=rfl;have hsub:mn s 1 (s.size:Int)=some (s.extract 1 s.size):=by
    unfold mn;rw[if_pos (by omega)];rfl
   have hex:(s.extract 1 s.size).data.toList=r:=by
    rw[lg,List.take_of_length_le (by rw[fr];exact Nat.le_refl _),hd];rfl
   obtain⟨n,b,v1,v2,v3,v4,v5⟩:=iH (s.extract 1 s.size);rw[hex]at v2 v5;rw[e45,cond_true,hsub,Option.bind_some,v1,Option.bind_some];refine⟨_,ap (0 - n),rfl,?_⟩;congr 2;rw[Bool.eq_iff_iff,Bool.and_eq_true,Bool.and_eq_true,decide_eq_true_eq,decide_eq_true_eq,v2];simp only[List.head?_cons,if_true];constructor
   ·rintro⟨⟨m,h1,h2⟩,h3⟩;have h5:=v5 (v2.2 ⟨m,h1,h2⟩);rw[h1,lc]at h5;have h6:=DU (u:=m) (by rw[<-h1];exact h2);rw[<-h1,<-hd]at h6;rw[AW h6];refine⟨?_,by omega⟩;show(itoa (-(m:Int))==s.data.toList)=true;rw[itoa_neg m (by omega),hd,h1];exact beq_self_eq_true _
   ·rintro⟨h1,h2⟩;have h4:=nX h1;rw[hd]at h4;have hneg:(gj s).1<0:=by
     rcases Int.lt_or_le (gj s).1 0 with h | h
     ·exact h
     ·rw[kq h]at h4;exact absurd (by rw[h4];rfl) (BA (m:=(gj s).1.toNat))
    rw[ux hneg]at h4;injection h4 with _ h4;have hcan:can r:=⟨_,h4.symm,by omega⟩;refine⟨hcan,?_⟩;have h5:=v5 (v2.2 hcan);rw[<-h4,lc]at h5;omega
  ·have e45:((c.toNat:Int)==45)=false:=by
    rw[beq_eq_false_iff_ne];intro h;apply hc;apply UInt8.toNat_inj.1;show c.toNat=45;omega
   obtain⟨n,b,v1,v2,v3,v4,v5⟩:=iH s;rw[hd]at v2;rw[e45,cond_false,v1,Option.bind_some];refine⟨_,n,rfl,?_⟩;congr 2;have hh: ¬(c::r).head?=some 45:=by simpa using hc
   rw[if_neg hh,Bool.eq_iff_iff,v2,Bool.and_eq_true,decide_eq_true_eq];constructor
   ·rintro⟨m,h1,h2⟩;have h6:=yw (u:=m) (by rw[<-h1];exact h2);rw[<-h1,<-hd]at h6;rw[AW h6];rw[List.length_cons]at h2;refine⟨?_,by omega⟩;show(itoa (m:Int)==s.data.toList)=true;rw[itoa_nonneg,hd,h1];exact beq_self_eq_true _
   ·rintro⟨h1,h2⟩;have h4:=nX h1;rw[hd]at h4;have hpos:0<=(gj s).1:=by
     rcases Int.lt_or_le (gj s).1 0 with h | h
     ·rw[ux h]at h4;injection h4 with h5 _;exact absurd h5.symm hc
     ·exact h
    rw[kq hpos]at h4;exact⟨_,h4.symm,by rw[List.length_cons];omega⟩
theorem l6{a b:ByteArray}(h:a.data.toList=b.data.toList):a=b:=by
 cases a with
 | mk x=>
  cases b with
  | mk y=>
   have h:x.toList=y.toList:=h;rw[Array.toList_inj.1 h]
def cw(v:Int):ByteArray:=⟨(itoa v).toArray⟩
theorem cy(v:Int):(cw v).data.toList=itoa v:=by
 unfold cw;simp
theorem uG(v:Int):(cw v).size=(itoa v).length:=by
 rw[<-fr,cy]
theorem qA{u:Nat}(h:u<10000000000000):(decDigits u).length<=13:=by
 obtain⟨t,_,t2,t3⟩:=AI 12 1000 u h (by omega) (by omega);have:=fr t;rw[t2]at this;omega
theorem BO{v:Int}(h0: -10000000000000<v)(h1:v<10000000000000):(itoa v).length<=14:=by
 unfold itoa;split
 ·have:=qA (u:=v.natAbs) (by omega);rw[List.length_cons];omega
 ·have:=qA (u:=v.toNat) (by omega);omega
theorem kl(v:Int)(h0: -9223372036854775808<=v)(h1:v<=9223372036854775807):bU v=some (cw v):=by
 unfold bU;rw[if_pos ⟨h0,h1⟩];rfl
theorem lG{v:Int}(h0:0<=v)(h1:v<10000000000000000):bO v=some (cw v):=by
 obtain⟨u,rfl⟩:=Int.eq_ofNat_of_zero_le h0;obtain⟨t,t1,t2,_⟩:=AI 15 1000 u (by omega) (by omega) (by omega);have e:t=cw u:=l6 (by rw[t2,cy,kq (by omega),Int.toNat_natCast]);rw[<-e];exact t1
theorem H0{v:Int}(h0: -10000000000000<v)(h1:v<10000000000000):parseIntB 64 (itoa v)= .ok v:=by
 unfold itoa;split
 ·rw[DU (qA (by omega))];congr 1;omega
 ·rw[yw (qA (by omega))];congr 1;omega
theorem jI{s:ByteArray}{v:Int}(hs:s.data.toList=itoa v)(h0: -10000000000000<v)(h1:v<10000000000000):gj s=(v,true):=by
 rw[AW (v:=v) (by rw[hs];exact H0 h0 h1),hs,beq_self_eq_true]
theorem wi{s:ByteArray}{v:Int}(hs:s.data.toList=itoa v)(h0:0<=v)(h1:v<10000000000000):bu s=some (v,true):=by
 obtain⟨n,b,v1,v2,_,_,v5⟩:=iH s;rw[kq h0]at hs;have hb:=v2.2 ⟨_,hs,by rw[hs];exact qA (by omega)⟩;have h5:=v5 hb;rw[hs,lc]at h5;rw[v1,hb,h5];congr 2;omega
theorem nZ(s:ByteArray)(hs:s.size<=1048576): ∃n b,bt s=some (n,b)/\(b=true->s.data.toList=itoa n/\ -10000000000000<n/\n<10000000000000)/\ ∀v,s.data.toList=itoa v-> -10000000000000<v->v<10000000000000->b=true/\n=v:=by
 have hl:=fr s;have hneg: ∀{m:Nat} {l:List UInt8},decDigits m≠45::l:=fun{m l} e=>(Bn e).1 rfl;unfold bt;cases hd:s.data.toList with
 | nil=>
  rw[hd]at hl;have h0:s.size=0:=hl.symm;rw[decide_eq_false (show ¬(s.size:Int)>0 by omega)];obtain⟨n,b,v1,v2,_⟩:=iH s;rw[cond_false,Option.bind_some,cond_false,v1,Option.bind_some];refine⟨_,_,rfl,fun h=> ?_,fun v h=>absurd h.symm (EG v)⟩;obtain⟨m,h1,_⟩:=v2.1 h;rw[hd]at h1;exact absurd h1.symm (vE m)
 | cons c r=>
  rw[hd,List.length_cons]at hl;have hb:cC s 0=some (c.toNat:Int):=by
   have:=byte_at (s:=s) (i:=0) (by omega);simp only[hd]at this;exact this
  rw[decide_eq_true (show(s.size:Int)>0 by omega),cond_true,hb,Option.bind_some,Option.bind_some];by_cases hc:c=45
  ·subst hc;have e45:(((45:UInt8).toNat:Int)==45)=true:=rfl;have hsub:mn s 1 (s.size:Int)=some (s.extract 1 s.size):=by
    unfold mn;rw[if_pos (by omega)];rfl
   have hex:(s.extract 1 s.size).data.toList=r:=by
    rw[lg,List.take_of_length_le (by rw[fr];exact Nat.le_refl _),hd];rfl
   obtain⟨n,b,v1,v2,v3,v4,v5⟩:=iH (s.extract 1 s.size);rw[hex]at v2 v5;have hw:ap (0 - n)= -n:=by
    rw[bg (by omega) (by omega)];omega
   rw[e45,cond_true,hsub,Option.bind_some,v1,Option.bind_some,hw];refine⟨_,_,rfl,fun h=> ?_,fun v h k1 k2=> ?_⟩
   ·rw[Bool.and_eq_true,decide_eq_true_eq]at h;obtain⟨m,h1,h2⟩:=v2.1 h.1;have h5:=v5 h.1;rw[h1,lc]at h5;refine⟨?_,by omega,by omega⟩;rw[ux (by omega),h1];congr 2;omega
   ·have hv:v<0:=by
     rcases Int.lt_or_le v 0 with h3 | h3
     ·exact h3
     ·rw[kq h3]at h;exact absurd h.symm hneg
    rw[ux hv]at h;injection h with _ h;have hcan:=v2.2 ⟨_,h,by rw[h];exact qA (by omega)⟩;have h5:=v5 hcan;rw[h,lc]at h5;rw[hcan,decide_eq_true (show n>0 by omega)];exact⟨rfl,by omega⟩
  ·have e45:((c.toNat:Int)==45)=false:=by
    rw[beq_eq_false_iff_ne];intro h;apply hc;apply UInt8.toNat_inj.1;show c.toNat=45;omega
   obtain⟨n,b,v1,v2,v3,v4,v5⟩:=iH s;rw[hd]at v2 v5;rw[e45,cond_false,v1,Option.bind_some];refine⟨_,_,rfl,fun h=> ?_,fun v h k1 k2=> ?_⟩
   ·obtain⟨m,h1,h2⟩:=v2.1 h;have h5:=v5 h;rw[h1,lc]at h5;refine⟨?_,by omega,by omega⟩;rw[kq v3,h1,h5,Int.toNat_natCast]
   ·have hv:0<=v:=by
     rcases Int.lt_or_le v 0 with h3 | h3
     ·rw[ux h3]at h;injection h with h _;exact absurd h hc
     ·exact h3
    rw[kq hv]at h;have hcan:=v2.2 ⟨_,h,by rw[h];exact qA (by omega)⟩;have h5:=v5 hcan;rw[h,lc]at h5;exact⟨hcan,by omega⟩
theorem pe{s:ByteArray}{v:Int}(hz:s.size<=1048576)(hs:s.data.toList=itoa v)(h0: -10000000000000<v)(h1:v<10000000000000):bt s=some (v,true):=by
 obtain⟨n,b,s1,_,s3⟩:=nZ s hz;obtain⟨e1,e2⟩:=s3 v hs h0 h1;rw[s1,e1,e2]
end Go.Proofs.YtbdbpakffniboaaGreatDoor.Sh
namespace Go.Proofs.YtbdbpakffniboaaGreatDoor.Sh
open Go.RowKit
theorem Oi{α:Type}(L:List α){i:Int}(h0:0<=i)(h:i<L.length\/i=0)(hL:0<L.length): ∃y,at' L i=some y/\y∈L:=by
 obtain⟨y,hy,hg⟩:=NQ (L:=L) h0 (by omega);exact⟨y,hy,List.mem_of_getElem? hg⟩
def Gv{α:Type}(o:Option α)(P:α->Prop):Prop:= ∃y,o=some y/\P y
theorem Gv.bind{α β:Type}{o:Option α}{P:α->Prop}{f:α->Option β}{Q:β->Prop}(h:Gv o P)(k: ∀y,P y->Gv (f y) Q):Gv (o.bind f) Q:=by
 obtain⟨y,rfl,hy⟩:=h;exact k y hy
theorem Gv.some{α:Type}{y:α}{P:α->Prop}(h:P y):Gv (some y) P:=⟨y,rfl,h⟩
theorem Gv.cond{α:Type}{b:Bool}{x y:Option α}{P:α->Prop}(h:b=true->Gv x P)(k:b=false->Gv y P):Gv (bif b then x else y) P:=by
 cases b
 ·exact k rfl
 ·exact h rfl
theorem Gv.imp{α:Type}{o:Option α}{P Q:α->Prop}(h:Gv o P)(k: ∀y,P y->Q y):Gv o Q:=by
 obtain⟨y,e,hy⟩:=h;exact⟨y,e,k y hy⟩
theorem Gv.lp{α A:Type}{body:α->Option (α⊕A)}(I:α->Prop)(μ:α->Nat){Q:A->Prop}(h: ∀s,I s->Gv (body s) (fun r=>match r with
  | .inl s'=>I s'/\μ s'<μ s
  | .inr r=>Q r)) {s:α} (hs:I s):Gv (loop body s) Q:=by
 obtain⟨r,e,hr⟩:=BS I μ Q (fun s hs=>by
  obtain⟨y,e,hy⟩:=h s hs;cases y with
  | inl s'=>exact .inl ⟨s',e,hy⟩
  | inr r=>exact .inr ⟨r,e,hy⟩) hs
 exact⟨r,e,hr⟩
theorem Gv.Of{S A:Type}{n:Nat}(hn:n<=1000000000){B:Int->S->Option S}{D:S->A}(I:Nat->S->Prop)(hB: ∀(i:Nat) s,i<n->I i s->Gv (B (i:Int) s) (I (i+1))){s:S}(hs:I 0 s){Q:A->Prop}(hQ: ∀s,I n s->Q (D s)):Gv (cG (n:Int) B D 0 s) Q:=by
 have key: ∀(m i:Nat) s,i+m=n->I i s->Gv (cG (n:Int) B D (i:Int) s) Q:=by
  intro m
  induction m with
  | zero=>
   intro i s him hi;obtain rfl:i=n:=by omega
   unfold cG;rw[bF];simp only[decide_eq_false (show ¬(i:Int)<i by omega),cond_false];exact⟨_,rfl,hQ s hi⟩
  | succ m ih=>
   intro i s him hi;obtain⟨s',e,hs'⟩:=hB i s (by omega) hi;have:=ih (i+1) s' (by omega) hs';unfold cG at this⊢;rw[bF];simp only[decide_eq_true (show(i:Int)<n by omega),cond_true,e,Option.bind_some];rw[bg (by omega) (by omega)];simpa using this
 exact key n 0 s (by omega) hs
theorem Gv.at{α:Type}{L:List α}{P:α->Prop}{i:Int}(h0:0<=i/\(i<L.length\/i=0))(hL:0<L.length)(hP: ∀x∈L,P x):Gv (at' L i) P:=by
 obtain⟨y,e,hy⟩:=Oi L h0.1 h0.2 hL;exact⟨y,e,hP y hy⟩
theorem Gv.app{α:Type}{L M:List α}(h:L.length+M.length<=1000000):Gv (bP L M) (fun r=>r=L++M):=⟨_,bQ (by omega),rfl⟩
theorem Gv.sub{u:ByteArray}{l h:Int}(h0:0<=l)(h1:l<=h)(h2:h<=u.size):Gv (mn u l h) (fun w=>w.size<=u.size):=by
 refine⟨_,by unfold mn;rw[if_pos ⟨h0,h1,h2⟩],?_⟩;show(u.extract l.toNat h.toNat).size<=u.size;rw[ByteArray.size_extract];omega
end Go.Proofs.YtbdbpakffniboaaGreatDoor.Sh
namespace Go.Proofs.YtbdbpakffniboaaGreatDoor.Sh
open Go.RowKit Go.Lib
theorem bZ{s r:ByteArray}(h:s.size+r.size<=9223372036854775807):cI s r=some (s++r):=by
 unfold cI;rw[if_pos h]
theorem dU(s r:ByteArray):(s++r).data.toList=s.data.toList++r.data.toList:=by
 rw[ByteArray.data_append,Array.toList_append]
theorem mi(L:List ByteArray)(c:ByteArray):(dN L c).data.toList=Lib.join (L.map (·.data.toList)) c.data.toList:=by
 unfold dN;simp
theorem DL(c x:List UInt8): ∀{L:List (List UInt8)},L≠[]->Lib.join (L++[x]) c=Lib.join L c++c++x
 | [],h=>absurd rfl h
 | [y],_=>by rw[List.singleton_append,join_cons,join_one,join_one]
 | y::z::L,_=>by
  rw[List.cons_append,List.cons_append,join_cons,join_cons,<-List.cons_append,DL c x (L:=z::L) (by simp)];simp
theorem gL(x c:ByteArray):dN [x] c=x:=l6 (by rw[mi,List.map_cons,List.map_nil,join_one])
theorem fC(x y:ByteArray)(L:List ByteArray)(c:ByteArray):dN (x::y::L) c=x++c++dN (y::L) c:=l6 (by
 rw[mi,List.map_cons,List.map_cons,join_cons,dU,dU,mi];rfl)
theorem HM(x c:ByteArray){L:List ByteArray}(h:L≠[]):dN (L++[x]) c=dN L c++c++x:=l6 (by
 rw[mi,List.map_append,List.map_cons,List.map_nil,DL _ _ (by simpa using h),dU,dU,mi])
theorem kO{k:Nat}(c:ByteArray): ∀(L:List ByteArray),(∀x∈L,x.size<=k)->(dN L c).size<=L.length*(k+c.size)
 | [],_=>by
  show 0<=_;exact Nat.zero_le _
 | [x],h=>by
  rw[gL];have:=h x (by simp);rw[List.length_singleton];omega
 | x::y::L,h=>by
  have h1:=kO c (y::L) fun z hz=>h z (by simp[hz]);have h2:=h x (by simp);rw[fC,ByteArray.size_append,ByteArray.size_append,List.length_cons,Nat.succ_mul];omega
theorem uy{α A:Type}{L:List α}{k:Nat}(hk:k<=1000000)(hL:L.length<=1000000){c:ByteArray}(hc:c.size<=100){t:α->ByteArray}(ht: ∀x∈L,(t x).size<=k){B:Int->ByteArray->Option ByteArray}{D:ByteArray->A}(h: ∀(i:Nat) x s,L[i]? =some x->s.size<=2000000000000->B (i:Int) s=some ((bif decide ((i:Int)>0)then s++c else s)++t x)):cG (L.length:Int) B D 0 (ByteArray.mk #[])=some (D (dN (L.map t) c)):=by
 obtain⟨y,h1,h2⟩:=Gv.Of (show L.length<=1000000000 by omega) (B:=B) (D:=D) (fun i s=>s=dN ((L.take i).map t) c) (fun i s hi hs=>by
  have hx:L[i]? =some L[i]:=List.getElem?_eq_getElem hi;have hz:=kO (k:=k) c ((L.take i).map t) (fun x hx=>by
   obtain⟨z,hz,rfl⟩:=List.mem_map.1 hx;exact ht z (List.mem_of_mem_take hz))
  rw[List.length_map,List.length_take,Nat.min_eq_left (by omega),<-hs]at hz;have hz2:s.size<=1000000*(1000000+100):=Nat.le_trans hz (Nat.mul_le_mul (by omega) (by omega));refine⟨_,h i L[i] s hx (by omega),?_⟩;rw[List.take_add_one,hx,Option.toList_some,List.map_append,List.map_cons,List.map_nil];rcases Nat.eq_zero_or_pos i with h0 | h0
  ·subst h0;rw[decide_eq_false (by omega),hs,cond_false];exact l6 (by simp[dN,Lib.join])
  ·rw[decide_eq_true (by omega),cond_true,hs,HM];intro e;have:=congrArg List.length e;rw[List.length_map,List.length_take,List.length_nil]at this;omega) (s:=ByteArray.mk #[]) (by simp[dN,Lib.join]) (Q:=fun y=>y=D (dN (L.map t) c)) (fun s hs=>by
  rw[hs,List.take_length])
 rw[h1,h2]
theorem tZ{v:Int}(h0: -10000000000000<v)(h1:v<10000000000000):ey v=some (cw v):=by
 unfold ey;by_cases h:v<0
 ·have hl:=BO (v:=0 - v) (by omega) (by omega);have h1':(ByteArray.mk #[45]).size=1:=rfl;rw[decide_eq_true h,cond_true,bg (by omega) (by omega),lG (by omega) (by omega),Option.bind_some,bZ (by
   rw[uG,h1'];omega),Option.bind_some]
  congr 1;refine l6 ?_;have e:(0 - v).toNat=v.natAbs:=by omega
  rw[dU,cy,cy,ux h,kq (by omega),e];rfl
 ·rw[decide_eq_false h,cond_false,lG (by omega) (by omega),Option.bind_some]
def kV(R:List Int):ByteArray:=bif(R.length:Int)==0 then ByteArray.mk #[45]else dN (R.map cw) (ByteArray.mk #[44])
theorem qP{R:List Int}(hR: ∀x∈R,0<=x/\x<1000000): ∀x∈R,(cw x).size<=14:=fun x hx=>by
 have:=hR x hx;rw[uG];exact BO (by omega) (by omega)
theorem HU{R:List Int}(hl:R.length<=1000)(hR: ∀x∈R,0<=x/\x<1000000):(kV R).size<=20000:=by
 unfold kV;cases (R.length:Int)==0
 ·have h:=kO (k:=14) (ByteArray.mk #[44]) (R.map cw) (fun x hx=>by
   obtain⟨z,hz,rfl⟩:=List.mem_map.1 hx;exact qP hR z hz)
  rw[List.length_map]at h;have h2:R.length*(14+(ByteArray.mk #[44]).size)<=1000*15:=Nat.mul_le_mul hl (Nat.le_refl _);rw[cond_false];omega
 ·rw[cond_true];show 1<=20000;omega
theorem xu{R:List Int}(hl:R.length<=1000)(hR: ∀x∈R,0<=x/\x<1000000):io R=some (kV R):=by
 unfold io kV q8;cases (R.length:Int)==0
 ·rw[cond_false,cond_false,uy (k:=14) (t:=cw) (c:=ByteArray.mk #[44]) (by omega) (by omega) (by decide) (qP hR) (fun i x s hx hs=>by
   have h1:=hR x (List.mem_of_getElem? hx);have h2:=qP hR x (List.mem_of_getElem? hx);have hat:at' R (i:Int)=some x:=by rw[ar,hx]
   have hc:(ByteArray.mk #[44]).size=1:=rfl;simp only[hat,Option.bind_some,tZ (v:=x) (by omega) (by omega)];cases decide ((i:Int)>0)
   ·rw[cond_false,Option.bind_some,bZ (by omega)];rfl
   ·rw[cond_true,bZ (by omega),Option.bind_some,Option.bind_some,bZ (by rw[ByteArray.size_append];omega)];rfl)]
  rfl
 ·rfl
theorem wO{R:List Int}(hl:R.length<=1000)(hR: ∀x∈R,0<=x/\x<1000000):eX R=some (kV R):=by
 unfold eX kV yg;cases (R.length:Int)==0
 ·obtain⟨y,h1,h2⟩:=Gv.Of (show R.length<=1000000000 by omega) (B:=fun(i4:Int) (s4:(List ByteArray))=>((at' R i4).bind fun x8=>((bU x8).bind fun x9=>((at' s4 i4).bind fun _=>some (List.set s4 (Int.toNat i4) x9))))) (D:=fun s=>s) (fun i s=>s.length=R.length/\s.take i=(R.take i).map cw) (fun i s hi hs=>by
   have hx:at' R (i:Int)=some R[i]:=Bc hi;have h3:=hR R[i] (List.getElem_mem hi);have hy:at' s (i:Int)=some (s[i]'(by omega)):=Bc (by omega);refine⟨s.set i (cw R[i]),?_,by rw[List.length_set];exact hs.1,?_⟩
   ·simp only[hx,Option.bind_some,kl R[i] (by omega) (by omega),hy,Int.toNat_natCast]
   ·rw[List.take_add_one,List.take_set_of_le (Nat.le_refl _),List.getElem?_set_self (by omega),hs.2,List.take_add_one,List.getElem?_eq_getElem hi,List.map_append];rfl) (s:=List.replicate R.length (ByteArray.mk #[])) ⟨by simp,by simp⟩ (Q:=fun y=>y=R.map cw) (fun s hs=>by
   have h3:=hs.2;rw[List.take_of_length_le (by omega),List.take_of_length_le (Nat.le_refl _)]at h3;exact h3)
  have h:=kO (k:=14) (ByteArray.mk #[44]) (R.map cw) (fun x hx=>by
   obtain⟨z,hz,rfl⟩:=List.mem_map.1 hx;exact qP hR z hz)
  rw[List.length_map]at h;have h4:R.length*(14+(ByteArray.mk #[44]).size)<=1000*15:=Nat.mul_le_mul hl (Nat.le_refl _);rw[cond_false,cond_false,AT _ (by omega),Option.bind_some,h1,h2,Option.bind_some];unfold strings_Join;rw[if_pos ⟨by rw[List.length_map];omega,by omega⟩];rfl
 ·rfl
theorem lv{L:List ByteArray}(hl:L.length<=1000){k:Nat}(hk:k<=100000)(hL: ∀x∈L,x.size<=k){c:ByteArray}(hc:c.size=1):strings_Join L c=some (dN L c):=by
 have h:=kO c L hL;have h2:L.length*(k+c.size)<=1000*(100000+1):=Nat.mul_le_mul hl (by omega);unfold strings_Join;rw[if_pos ⟨by omega,by omega⟩]
section
variable {α A : Type}
theorem JP{L:List α}(hL:L.length<=9223372036854775807){B:Int->Unit->Option (Unit⊕(Unit⊕A))}(h: ∀(i:Nat) x,L[i]? =some x->B (i:Int) ()=some (.inl ())){K:Option A}:(dc (L.length:Int) B (fun _=> .inl ()) 0 ()).bind (Sum.elim (fun _=>K) some)=K:=by
 rw[kQ L hL B (fun _ _ _=>some (.inl ())) _ () (fun j x _ hx=>h j x hx)];have: ∀(M:List α) (k:Nat),lY (fun _ _ (_:Unit)=>some (.inl ())) (fun _=>(.inl ():Unit⊕A)) M k ()=some (.inl ()):=by
  intro M
  induction M with
  | nil=>intro k;rfl
  | cons x M ih=>intro k;unfold lY;exact ih (k+1)
 rw[this];rfl
def lA(f:Int->α->α)(c:α->Nat):Int->List α->List α
 | _,[]=>[]
 | k,x::l=>f k x::lA f c (k+c x) l
def mo(c:α->Nat):List α->Nat
 | []=>0
 | x::l=>c x+mo c l
theorem Jc{c:α->Nat}{C:Nat}: ∀{L:List α},(∀x∈L,c x<=C)->mo c L<=C*L.length
 | [],_=>by simp[mo]
 | x::l,h=>by
  have h1:=h x (by simp);have h2:=Jc (L:=l) (fun y hy=>h y (by simp[hy]));rw[List.length_cons,Nat.mul_add,Nat.mul_one];unfold mo;omega
theorem DR(f:Int->α->α)(c:α->Nat): ∀(k:Int) (L:List α),(lA f c k L).length=L.length
 | _,[]=>rfl
 | k,x::l=>by simp[lA,DR f c]
theorem BW{B:Int->Int×List α->Option (Int×List α)}(f:Int->α->α)(c:α->Nat)
  (h: ∀(k:Int) (i:Nat) (L:List α) x,1<=k->k+c x<=1000000000000000->L.length<=1000000000000000->L[i]? =some x->B (i:Int) (k,L)=some (k+c x,L.set i (f k x))):
  ∀(L P:List α) (k:Int),1<=k->k+mo c L<=1000000000000000->P.length+L.length<=1000000000000000->mb (fun(i:Int) (s:Int×List α)=>decide (i<(s.2.length:Int))) B (fun s=>(s.1,s.2)) (P.length:Int) (k,P++L)=some (k+mo c L,P++lA f c k L)
 | [],P,k,_,_,_=>by
  unfold mb;rw[bF,List.append_nil];simp[lA,mo]
 | x::l,P,k,h1,h2,h3=>by
  have e1:(P++x::l)[P.length]? =some x:=by simp
  have e2:(P++x::l).set P.length (f k x)=(P++[f k x])++l:=by simp
  have e5:(P.length:Int)<((P++x::l).length:Int):=by simp;omega
  have h2':k+(c x+mo c l:Nat)<=1000000000000000:=h2;unfold mb;rw[bF];dsimp only;rw[decide_eq_true e5,cond_true,h k P.length (P++x::l) x h1 (by omega) (by simp;simp at h3;omega) e1,e2,bg (n:=(P.length:Int)+1) (by omega) (by simp at h3;omega)];have e3:(P.length:Int)+1=((P++[f k x]).length:Int):=by simp
  have e4:k+((mo c (x::l):Nat):Int)=k+c x+(mo c l:Nat):=by
   show k+((c x+mo c l:Nat):Int)=_;omega
  rw[e3];have:=BW f c h l (P++[f k x]) (k+c x) (by omega) (by omega) (by simp;simp at h3;omega);unfold mb at this;simp only[Option.bind_some];rw[this,e4];simp[lA]
theorem JS{B:Int->Int×List α->Option (Int×List α)}(f:Int->α->α)(c:α->Nat)(L:List α)(k:Int)(h1:1<=k)(h2:k+mo c L<=1000000000000000)(h3:L.length<=1000000000000000)
  (h: ∀(k:Int) (i:Nat) (L:List α) x,1<=k->k+c x<=1000000000000000->L.length<=1000000000000000->L[i]? =some x->B (i:Int) (k,L)=some (k+c x,L.set i (f k x))):
  (mb (fun(i:Int) (s:Int×List α)=>decide (i<(s.2.length:Int))) B (fun s=>(s.1,s.2)) 0 (k,L)).bind (fun(j1:Int×List α)=>some (j1.1,j1.2))=some (k+mo c L,lA f c k L):=by
 have:=BW f c h L [] k h1 h2 (by simpa using h3);rw[List.length_nil,List.nil_append,List.nil_append]at this;rw[show(0:Int)=((0:Nat):Int)from rfl,this];rfl
theorem JC{L:List α}(f:Int->α->α)(c:α->Nat)(hL:L.length<=1000000000000000){B:Int->Int->Option (Int⊕(Int⊕Int))}(k0:Int)(hk:1<=k0)(hN:k0+mo c L<=1000000000000000)(h: ∀(i:Nat) (k:Int) x,1<=k->k+c x<=1000000000000000->(lA f c k0 L)[i]? =some (f k x)->B (i:Int) k=some (.inl (k+c x))):
  (dc ((lA f c k0 L).length:Int) B (fun s=> .inl s) 0 k0).bind (Sum.elim (fun j=>some j) some)=some (k0+mo c L):=by
 have key: ∀(M:List α) (P:List α) (j:Int),1<=j->j+mo c M<=1000000000000000->lA f c k0 L=P++lA f c j M->lY (fun(i:Nat) (_:α) (s:Int)=>B (i:Int) s) (fun s=>(.inl s:Int⊕Int)) (lA f c j M) P.length j=some (.inl (j+mo c M)):=by
  intro M
  induction M with
  | nil=>intro P j _ _ _;simp[lA,lY,mo]
  | cons x M ih=>
   intro P j h1 h2 h3;have h2':j+(c x+mo c M:Nat)<=1000000000000000:=h2;have e4:j+((mo c (x::M):Nat):Int)=j+c x+(mo c M:Nat):=by
    show j+((c x+mo c M:Nat):Int)=_;omega
   unfold lA lY;rw[h P.length j x h1 (by omega) (by rw[h3];simp[lA]),Option.bind_some,Sum.elim_inl];have:=ih (P++[f j x]) (j+c x) (by omega) (by omega) (by rw[h3];simp[lA]);rw[List.length_append,List.length_singleton]at this;rw[this,e4]
 rw[kQ (lA f c k0 L) (by rw[DR];omega) B (fun i _ s=>B (i:Int) s) _ k0 (fun j x s hx=>rfl)];have:=key L [] k0 hk hN rfl;rw[List.length_nil]at this;rw[this];rfl
end
theorem Gp{k:Int}(h0:1<=k)(h1:k<=1000000000000001): ∃t,gx k=some t:=by
 unfold gx;rw[decide_eq_false (show ¬k<=0 by omega),cond_false];obtain⟨r,e,hr⟩:=BS (body:=fun(s3:Int×ByteArray)=>(bif(decide (s3.1>0))then((cI (strOfNums ([(IntKind.wrap .u8 (ap (48+(Int.tmod s3.1 10))))]:List Int)) s3.2).bind fun x5=>some (.inl ((ap (Int.tdiv s3.1 10)),x5)))else some (.inr s3.2)))
  (fun s=>0<=s.1/\s.1<=1000000000000001/\(s.2.size:Int)+s.1<=1000000000000001) (fun s=>s.1.toNat) (fun r:ByteArray=>(r.size:Int)<=1000000000000001) (fun s hs=>by
   obtain⟨h2,h3,h4⟩:=hs;by_cases hp:s.1>0
   ·left;rw[decide_eq_true hp,cond_true,Int.tdiv_eq_ediv_of_nonneg h2,bg (n:=s.1/10) (by omega) (by omega)];unfold cI;rw[if_pos (by rw[strOfNums_size];simp;omega)];refine⟨_,rfl,?_⟩;dsimp only;rw[ByteArray.size_append,strOfNums_size];simp;omega
   ·right;rw[decide_eq_false hp,cond_false];exact⟨_,rfl,by omega⟩) (s:=(k,ByteArray.mk #[])) ⟨by dsimp only;omega,h1,by show((0:Nat):Int)+k<=_;omega⟩
 rw[e,Option.bind_some];unfold cI;rw[if_pos (by show 1+r.size<=_;omega)];exact⟨_,rfl⟩
def mt(k:Int):ByteArray:=(gx k).getD (ByteArray.mk #[])
theorem zD{k:Int}(h0:1<=k)(h1:k<=1000000000000001):gx k=some (mt k):=by
 obtain⟨t,h⟩:=Gp h0 h1;unfold mt;rw[h];rfl
noncomputable abbrev AK:Int->ByteArray->ByteArray:=fun k _=>mt k
abbrev mq:ByteArray->Nat:=fun _=>1
structure cW (x:Claim):Prop where
 s0:x.Source.size<=1048576
 s2:x.Place.size<=1048576
 s3:x.Value.size<=1048576
structure yH (x:Site):Prop where
 s0:x.Code.size<=1048576
theorem BV(L:List ByteArray)(k:Int)(h1:1<=k)(h2:k+mo mq L<=1000000000000000)(h3:L.length<=1000000000000000):jG L k=some (k+mo mq L,lA AK mq k L):=by
 unfold jG;refine JS AK mq L k h1 h2 h3 fun k i L x h1 h2 hl hx=> ?_;have h2':k+(1:Nat)<=1000000000000000:=h2;simp only[ar,hx,bg (n:=k+1) (by omega) (by omega),zD (k:=k) (by omega) (by omega),Option.bind_some];rfl
theorem BB(L:List ByteArray)(k:Int)(h1:1<=k)(h2:k+mo mq L<=1000000000000000)(h3:L.length<=1000000000000000):gM (lA AK mq k L) k=some (k+mo mq L):=by
 unfold gM;refine JC AK mq h3 k h1 h2 fun i k x h1 h2 hx=> ?_;have h2':k+(1:Nat)<=1000000000000000:=h2;simp only[ar,hx,zD (k:=k) (by omega) (by omega),Option.bind_some,beq_self_eq_true,Bool.not_true,cond_false];rw[bg (by omega) (by omega)];rfl
theorem Bq(L:List ByteArray)(hL:L.length<=1000000000):jq L L=some true:=by
 unfold jq;rw[bne_self_eq_false,cond_false];exact JP (by omega) (fun i x hx=>by rw[ar,hx];simp)
theorem fm{a b:ByteArray}:(a.toList==b.toList)=true↔a=b:=by
 rw[beq_iff_eq,toList_eq,toList_eq];refine⟨fun h=> ?_,fun h=>by rw[h]⟩;obtain⟨a⟩:=a;obtain⟨b⟩:=b;have h:a.toList=b.toList:=h;rw[Array.toList_inj.1 h]
theorem wq{a:ByteArray}(h:1<=a.size):(a.toList==(ByteArray.mk #[]).toList)=false:=by
 rw[Bool.eq_false_iff];intro hc;rw[fm]at hc;rw[hc]at h;simp[ByteArray.size]at h
theorem wH{α:Type}(p:α->Bool): ∀L:List α,(gX p L= -1/\L.find? p=none)\/ ∃(i:Nat) (x:α),gX p L=i/\L[i]? =some x/\L.find? p=some x
 | []=> .inl ⟨rfl,rfl⟩
 | x::l=>by
  unfold gX;cases hp:p x
  ·rw[List.find?_cons_of_neg (by rw[hp];simp)];rcases wH p l with⟨h1,h2⟩ | ⟨i,y,h1,h2,h3⟩
   ·rw[h1];exact .inl ⟨rfl,h2⟩
   ·have hd:decide ((i:Int)<0)=false:=decide_eq_false (by omega);simp only[h1,cond_false,hd];exact .inr ⟨i+1,y,by simp,by simpa using h2,h3⟩
  ·rw[List.find?_cons_of_pos hp];exact .inr ⟨0,x,rfl,rfl,rfl⟩
theorem sJ{α A:Type}(p:α->Bool)(f:α->A): ∀(L:List α) (k:Nat),bW (fun _ x=>p x) (fun _ x=>f x) L k=(L.find? p).map f
 | [],_=>rfl
 | x::l,k=>by
  unfold bW;cases hp:p x
  ·rw[List.find?_cons_of_neg (by rw[hp];simp)];exact sJ p f l (k+1)
  ·rw[List.find?_cons_of_pos hp];rfl
def nv(s:Span):Bool:=inB s.From (-3000) 3000&&(inB s.To (-3000) 3000&&decide (s.From<=s.To))
theorem tf(s:Span):mM s=some (nv s):=by
 unfold mM kT nv;simp only[fU,Option.bind_some];cases inB s.From (-3000) 3000<;>cases inB s.To (-3000) 3000<;>rfl
theorem tO(s:Span):mT s=some (nv s):=by
 unfold mT jP nv;simp only[jo,Option.bind_some];cases inB s.From (-3000) 3000<;>cases inB s.To (-3000) 3000<;>rfl
def G7(c:Claim):Bool:=bif c.Kind==0 then kF c.Value else bif c.Kind==1 then cR c.Value&& !(c.Value.toList==c.Place.toList)else bif c.Kind==2 then c.Value.toList==(ByteArray.mk #[]).toList else bif c.Kind==3 then c.Value.toList==(ByteArray.mk #[]).toList else false
theorem HI(c:Claim)(h:c.Value.size<=1048576):iS c=some (G7 c):=by
 unfold iS G7;rw[CU _ (by omega),o7 _ (by unfold maxLen;omega)];generalize cR c.Value=w;generalize kF c.Value=f;generalize (c.Value.toList==c.Place.toList)=e;generalize (c.Value.toList==(ByteArray.mk #[]).toList)=z;cases c.Kind==0<;>cases c.Kind==1<;>cases c.Kind==2<;>cases c.Kind==3<;>cases w<;>rfl
def cg(c:Claim):Bool:=cR c.Source&&(cR c.Place&&(G7 c&&(nv c.Years&&inB c.Weight 1 100)))
theorem qJ(c:Claim)(h:cW c):lj c=some (cg c):=by
 have h0:=h.s0;have h2:=h.s2;unfold lj cg;rw[mh _ (by simp) (fun x hx=>by
  simp only[List.mem_cons,List.not_mem_nil,or_false]at hx;unfold maxLen;rcases hx with rfl | rfl<;>omega),HI c h.s3,tf,fU]
 simp only[List.all_cons,List.all_nil];cases cR c.Source<;>cases cR c.Place<;>cases G7 c<;>cases nv c.Years<;>rfl
theorem q7(c:Claim)(h:cW c):lE c=some (cg c):=by
 have h0:=h.s0;have h2:=h.s2;have h3:=h.s3;unfold lE cg G7;rw[hU c.Source (by unfold maxLen;omega),hU c.Place (by unfold maxLen;omega),hU c.Value (by unfold maxLen;omega),Dc _ (by omega),tO,jo];generalize cR c.Value=w;generalize kF c.Value=f;generalize (c.Value.toList==c.Place.toList)=e;generalize (c.Value.toList==(ByteArray.mk #[]).toList)=z;generalize inB c.Weight 1 100=g;generalize nv c.Years=s;cases cR c.Source
 ·rfl
 cases cR c.Place
 ·rfl
 cases s<;>cases g
 ·simp
 ·simp
 ·simp
 cases c.Kind==0<;>cases c.Kind==1<;>cases c.Kind==2<;>cases c.Kind==3<;>cases w<;>cases f<;>cases e<;>cases z<;>rfl
def aU(L:List Claim):Bool:=decide (L.length<=12)&&L.all cg
theorem NU(L:List Claim):decide ((L.length:Int)<=12)=decide (L.length<=12):=by
 by_cases h:L.length<=12
 ·rw[decide_eq_true h,decide_eq_true (by omega)]
 ·rw[decide_eq_false h,decide_eq_false (by omega)]
theorem jf{L:List Claim}(hL:L.length<=1048576)(h: ∀x∈L,cW x):ek L=some (aU L):=by
 unfold ek cr cD mf aU;rw[fE (by omega) (fun c=> !cg c) (fun i x hx=>by
  rw[ar,hx,Option.bind_some,qJ x (h x (List.mem_of_getElem? hx))];rfl)]
 simp only[Option.bind_some,ki,NU,<-List.not_all_eq_any_not,Bool.not_not];cases decide (L.length<=12)<;>rfl
theorem lF{L:List Claim}(hL:L.length<=1048576)(h: ∀x∈L,cW x):fG L=some (aU L):=by
 unfold fG aU;rw[jr (by omega) (fun c=> !cg c) false (fun i x hx=>by
  rw[ar,hx,Option.bind_some,q7 x (h x (List.mem_of_getElem? hx))];rfl),NU,<-List.not_all_eq_any_not]
 cases L.all cg<;>simp
def pW(a b:Claim):Bool:=(decide (a.Years.From<=b.Years.To)&&decide (b.Years.From<=a.Years.To))&&(((a.Kind==1)&&((b.Kind==3)&&(a.Value.toList==b.Place.toList))) || ((b.Kind==1)&&((a.Kind==3)&&(b.Value.toList==a.Place.toList))) || ((a.Place.toList==b.Place.toList)&&(bif a.Kind==b.Kind then((a.Kind==0) || (a.Kind==1))&& !(a.Value.toList==b.Value.toList)else(a.Kind==3) || (b.Kind==3))))
theorem LX(a b:Claim):eb a b=some (pW a b):=by
 unfold eb nI pW;simp only[Option.bind_some];generalize (decide (a.Years.From<=b.Years.To)&&decide (b.Years.From<=a.Years.To))=m;generalize (a.Value.toList==b.Place.toList)=x;generalize (b.Value.toList==a.Place.toList)=y;generalize (a.Place.toList==b.Place.toList)=z;generalize (a.Value.toList==b.Value.toList)=v;generalize (a.Kind==b.Kind)=k;generalize (a.Kind==1)=a1;generalize (a.Kind==0)=a0;generalize (a.Kind==3)=a3;generalize (b.Kind==1)=b1;generalize (b.Kind==3)=b3;cases m
 ·rfl
 cases z<;>cases k<;>cases a1<;>cases b1<;>cases a3<;>cases b3<;>cases x<;>cases y<;>simp
theorem K2(a b:Claim):dz a b=some (pW a b):=by
 unfold dz kC eo pW;simp only[Option.bind_some];rw[BEq.comm (a:=b.Place.toList) (b:=a.Value.toList),BEq.comm (a:=a.Place.toList) (b:=b.Value.toList)];generalize (decide (a.Years.From<=b.Years.To)&&decide (b.Years.From<=a.Years.To))=m;generalize (a.Value.toList==b.Place.toList)=x;generalize (b.Value.toList==a.Place.toList)=y;generalize (a.Place.toList==b.Place.toList)=z;generalize (a.Value.toList==b.Value.toList)=v;cases m
 ·rfl
 by_cases hab:a.Kind=b.Kind
 ·rw[hab,beq_self_eq_true];generalize (b.Kind==1)=b1;generalize (b.Kind==0)=b0;generalize (b.Kind==3)=b3;cases z<;>cases b1<;>cases b3<;>cases x<;>cases y<;>cases b0<;>simp
 ·rw[beq_eq_false_iff_ne.2 hab];have h3:((a.Kind==3)&&(b.Kind==3))=false:=by
   rw[Bool.eq_false_iff];intro h;rw[Bool.and_eq_true,beq_iff_eq,beq_iff_eq]at h;exact hab (by rw[h.1,h.2])
  revert h3;generalize (a.Kind==1)=a1;generalize (a.Kind==3)=a3;generalize (b.Kind==1)=b1;generalize (b.Kind==3)=b3;cases z<;>cases a1<;>cases b1<;>cases a3<;>cases b3<;>cases x<;>cases y<;>simp
def oV(k:Int)(p:ByteArray)(y:Int)(c:Claim):Bool:=(c.Kind==k)&&((c.Place.toList==p.toList)&&inB y c.Years.From c.Years.To)
def tel(L:List Claim)(k:Int)(p:ByteArray)(y:Int):Option ByteArray:=(L.find? (oV k p y)).map Claim.Value
def y7(o:Option ByteArray):ByteArray×Bool:=match o with | some v=>(v,true) | none=>(ByteArray.mk #[],false)
theorem EE{L:List Claim}(hL:L.length<=1048576)(k:Int)(p:ByteArray)(y:Int):uu L k p y=some (y7 (tel L k p y)):=by
 unfold uu dd th gu;rw[fE (by omega) (oV k p y) (fun i x hx=>by
  rw[ar,hx,Option.bind_some,fU];unfold oV;cases x.Kind==k<;>cases x.Place.toList==p.toList<;>rfl)]
 unfold tel;rcases wH (oV k p y) L with⟨h1,h2⟩ | ⟨i,x,h1,h2,h3⟩
 ·rw[h1,h2];rfl
 ·rw[h1,h3,Option.bind_some,decide_eq_false (by omega),cond_false,ar,h2];rfl
theorem lx{L:List Claim}(hL:L.length<=1048576)(p:ByteArray)(y:Int):fi L p y=some (y7 (tel L 1 p y)):=by
 unfold fi ct kN gu;rw[fE (by omega) (oV 1 p y) (fun i x hx=>by
  rw[ar,hx,Option.bind_some,fU];unfold oV;cases x.Kind==1<;>cases x.Place.toList==p.toList<;>rfl)]
 unfold tel;rcases wH (oV 1 p y) L with⟨h1,h2⟩ | ⟨i,x,h1,h2,h3⟩
 ·rw[h1,h2];rfl
 ·rw[h1,h3,Option.bind_some,decide_eq_false (by omega),cond_false,ar,h2];rfl
theorem oJ{L:List Claim}(hL:L.length<=1048576)(p:ByteArray)(y:Int):gU L p y=some (y7 (tel L 1 p y)).1:=by
 unfold gU;rw[fD (by omega) (fun _=>oV 1 p y) (fun _ x=>x.Value) (fun i x hx=>by
  rw[ar,hx,Option.bind_some,jo];unfold oV;cases x.Kind==1<;>cases x.Place.toList==p.toList<;>rfl),sJ (oV 1 p y) Claim.Value]
 unfold tel;cases L.find? (oV 1 p y)<;>rfl
theorem E2{L:List Claim}(hL:L.length<=1048576)(p:ByteArray)(y:Int):nM L p y=some (y7 (tel L 0 p y)).1:=by
 unfold nM;rw[fD (by omega) (fun _=>oV 0 p y) (fun _ x=>x.Value) (fun i x hx=>by
  rw[ar,hx,Option.bind_some,jo];unfold oV;cases x.Kind==0<;>cases x.Place.toList==p.toList<;>rfl),sJ (oV 0 p y) Claim.Value]
 unfold tel;cases L.find? (oV 0 p y)<;>rfl
theorem xH{L:List Claim}(h: ∀x∈L,cg x=true){k:Int}(hk:k=0\/k=1){p:ByteArray}{y:Int}{v:ByteArray}(hv:tel L k p y=some v):1<=v.size/\v∈L.map Claim.Value:=by
 unfold tel at hv;rw[Option.map_eq_some_iff]at hv;obtain⟨c,hc,rfl⟩:=hv;have hm:=List.mem_of_find?_eq_some hc;refine⟨?_,List.mem_map.2 ⟨c,hm,rfl⟩⟩;have hk':=List.find?_some hc;unfold oV at hk';rw[Bool.and_eq_true,beq_iff_eq]at hk';have hcl:=h c hm;unfold cg at hcl;rw[Bool.and_eq_true,Bool.and_eq_true,Bool.and_eq_true]at hcl;have hval:=hcl.2.2.1;unfold G7 at hval;rcases hk with rfl | rfl
 ·rw[hk'.1]at hval;exact EO hval
 ·rw[hk'.1]at hval;simp only[Int.reduceBEq,cond_false,cond_true,Bool.and_eq_true]at hval;exact(rf hval.1).1
theorem IG{L:List ByteArray}(hL:L.length<=1000000000)(v:ByteArray):bh L v=some (L.any fun x=>v.toList==x.toList):=by
 unfold bh cS;rw[fE (by omega) (fun x=>v.toList==x.toList) (fun i x hx=>by rw[ar,hx];rfl),Option.bind_some,ki]
def w9:List ByteArray:=[(ByteArray.mk #[97,116]),(ByteArray.mk #[110,101,97,114]),(ByteArray.mk #[111,102]),(ByteArray.mk #[98,101,116,119,101,101,110]),(ByteArray.mk #[97,110,100]),(ByteArray.mk #[109,105,108,101]),(ByteArray.mk #[109,105,108,101,115]),(ByteArray.mk #[108,101,97,103,117,101]),(ByteArray.mk #[108,101,97,103,117,101,115])]
theorem Om(s:ByteArray):lu s=some ((w9.any fun x=>s.toList==x.toList) || cQ.any fun x=>s.toList==x.toList):=by
 unfold lu;have e:bh ([(ByteArray.mk #[97,116]),(ByteArray.mk #[110,101,97,114]),(ByteArray.mk #[111,102]),(ByteArray.mk #[98,101,116,119,101,101,110]),(ByteArray.mk #[97,110,100]),(ByteArray.mk #[109,105,108,101]),(ByteArray.mk #[109,105,108,101,115]),(ByteArray.mk #[108,101,97,103,117,101]),(ByteArray.mk #[108,101,97,103,117,101,115])]:List ByteArray) s=some (w9.any fun x=>s.toList==x.toList):=IG (L:=w9) (by decide) s;rw[e,IG (L:=cQ) (by decide) s];cases (w9.any fun x=>s.toList==x.toList)<;>rfl
def jb(s:ByteArray):Bool:=cR s&& !((w9.any fun x=>s.toList==x.toList) || cQ.any fun x=>s.toList==x.toList)
theorem xY(s:ByteArray)(hs:s.size<=maxLen):kS s=some (jb s):=by
 unfold kS jb;rw[o7 s hs,Om];cases cR s<;>rfl
theorem Ht(s:ByteArray):eJ s=some (gX (fun x:ByteArray=>x.toList==s.toList) cQ):=by
 unfold eJ;exact fE (L:=cQ) (by decide) (fun x:ByteArray=>x.toList==s.toList) (fun i x hx=>by
  have e:gp (i:Int)=some x:=by
   have h:at' cQ (i:Int)=some x:=by rw[ar,hx]
   show((at' cQ (i:Int)).bind fun x1=>some x1)=some x;rw[h];rfl
  rw[e];rfl)
theorem yN(s:ByteArray)(hs:s.size<=maxLen):jT s=some (jb s):=by
 unfold jT jb;rw[hU s hs,Ht];have hd:decide (gX (fun x:ByteArray=>x.toList==s.toList) cQ<0)= !(cQ.any fun x=>s.toList==x.toList):=by
  rw[p9];congr 1;congr 1;funext x;exact BEq.comm
 simp only[Option.bind_some,hd,w9,List.any_cons,List.any_nil,Bool.or_false];generalize (cQ.any fun x=>s.toList==x.toList)=g;generalize (s.toList==(ByteArray.mk #[97,116]).toList)=b1;generalize (s.toList==(ByteArray.mk #[110,101,97,114]).toList)=b2;generalize (s.toList==(ByteArray.mk #[111,102]).toList)=b3;generalize (s.toList==(ByteArray.mk #[98,101,116,119,101,101,110]).toList)=b4;generalize (s.toList==(ByteArray.mk #[97,110,100]).toList)=b5;generalize (s.toList==(ByteArray.mk #[109,105,108,101]).toList)=b6;generalize (s.toList==(ByteArray.mk #[109,105,108,101,115]).toList)=b7;generalize (s.toList==(ByteArray.mk #[108,101,97,103,117,101]).toList)=b8;generalize (s.toList==(ByteArray.mk #[108,101,97,103,117,101,115]).toList)=b9;generalize cR s=w;cases b1
 ·cases b2
  ·cases b3
   ·cases b4
    ·cases b5
     ·cases b6
      ·cases b7
       ·cases b8
        ·cases b9<;>cases w<;>cases g<;>rfl
        ·cases w<;>rfl
       ·cases w<;>rfl
      ·cases w<;>rfl
     ·cases w<;>rfl
    ·cases w<;>rfl
   ·cases w<;>rfl
  ·cases w<;>rfl
 ·cases w<;>rfl
def iZ(p:aF):Bool:=inB p.X (-1000) 1000&&inB p.Y (-1000) 1000
theorem wP(p:aF):ij p=some (iZ p):=by
 unfold ij iZ;rw[fU,fU];cases inB p.X (-1000) 1000<;>rfl
theorem A0(p:aF):jN p=some (iZ p):=by
 unfold jN iZ;rw[jo,jo];cases inB p.X (-1000) 1000<;>rfl
def nt(L:List Site)(i:Nat)(x:Site):Bool:= !jb x.Code || (!iZ x.At || (decide ((i:Int)>0)&&match L[i - 1]? with
 | some y=> !(Op.bytesLess y.Code.toList x.Code.toList)
 | none=>false))
def nj(L:List Site):Option Bool:=match bW (nt L) (fun _ _=>false) L 0 with
 | some r=>some r
 | none=>some (decide ((L.length:Int)<=10))
theorem BJ{L:List Site}(hL:L.length<=1048576)(h: ∀x∈L,yH x):iJ L=nj L:=by
 unfold iJ;rw[fD (by omega) (nt L) (fun _ _=>false) (fun i x hx=>by
  have hi:i<L.length:=(List.getElem?_eq_some_iff.1 hx).1;have hs:=(h x (List.mem_of_getElem? hx)).s0;rw[ar,hx,Option.bind_some,xY x.Code (by unfold maxLen;omega),wP];unfold nt;by_cases h0:(i:Int)>0
  ·have hy:L[i - 1]? =some (L[i - 1]'(by omega)):=List.getElem?_eq_getElem _;have e:at' L (ap ((i:Int)- 1))=some (L[i - 1]'(by omega)):=by
    rw[bg (by omega) (by omega),show(i:Int)- 1=((i - 1:Nat):Int) by omega,ar,hy]
   rw[decide_eq_true h0,e,hy];cases jb x.Code<;>cases iZ x.At<;>rfl
  ·rw[decide_eq_false h0];cases jb x.Code<;>cases iZ x.At<;>rfl)]
 unfold nj;cases bW (nt L) (fun _ _=>false) L 0<;>rfl
theorem Cu{L:List Site}(hL:L.length<=1048576)(h: ∀x∈L,yH x):gD L=nj L:=by
 unfold gD;rw[fD (by omega) (nt L) (fun _ _=>false) (fun i x hx=>by
  have hi:i<L.length:=(List.getElem?_eq_some_iff.1 hx).1;have hs:=(h x (List.mem_of_getElem? hx)).s0;rw[ar,hx,Option.bind_some,yN x.Code (by unfold maxLen;omega)];simp only[Option.bind_some,A0];unfold nt;by_cases h0:(i:Int)>0
  ·have hy:L[i - 1]? =some (L[i - 1]'(by omega)):=List.getElem?_eq_getElem _;have e:at' L (ap ((i:Int)- 1))=some (L[i - 1]'(by omega)):=by
    rw[bg (by omega) (by omega),show(i:Int)- 1=((i - 1:Nat):Int) by omega,ar,hy]
   rw[decide_eq_true h0,e,hy];cases jb x.Code<;>cases iZ x.At<;>rfl
  ·rw[decide_eq_false h0];cases jb x.Code<;>cases iZ x.At<;>rfl)]
 unfold nj;cases bW (nt L) (fun _ _=>false) L 0<;>rfl
theorem wa{c b:UInt8}: ∀{l:List UInt8},b∈l->b=c\/ ∃p∈bT c l,b∈p
 | [],h=>by simp at h
 | x::l,h=>by
  unfold bT;by_cases hx:x=c
  ·rw[if_pos hx];rcases List.mem_cons.1 h with h | h
   ·exact .inl (h.trans hx)
   ·rcases wa h with h2 | ⟨p,hp,hb⟩
    ·exact .inl h2
    ·exact .inr ⟨p,by simp[hp],hb⟩
  ·rw[if_neg hx];cases hs:bT c l with
   | nil=>exact absurd hs (kX c l)
   | cons q r=>
    rcases List.mem_cons.1 h with h | h
    ·exact .inr ⟨x::q,by simp,by simp[h]⟩
    ·rcases wa h with h2 | ⟨p,hp,hb⟩
     ·exact .inl h2
     ·rw[hs]at hp;rcases List.mem_cons.1 hp with rfl | hp
      ·exact .inr ⟨x::p,by simp,by simp[hb]⟩
      ·exact .inr ⟨p,by simp[hp],hb⟩
theorem qv{s:ByteArray}(h:cR s=true){c:UInt8}(hc:small c=false):c∉s.data.toList:=fun hm=>by
 unfold cR at h;rw[Bool.and_eq_true]at h;have:=List.all_eq_true.1 h.2 c hm;rw[hc]at this;cases this
theorem Gy{s:ByteArray}(h:kF s=true){c:UInt8}(hc:small c=false)(h32:c≠32):c∉s.data.toList:=fun hm=>by
 unfold kF at h;rw[Bool.and_eq_true]at h;rcases wa (c:=32) hm with h1 | ⟨p,hp,hb⟩
 ·exact h32 h1
 ·refine qv (List.all_eq_true.1 h.2 ⟨p.toArray⟩ (List.mem_map.2 ⟨p,hp,rfl⟩)) hc ?_;simpa using hb
theorem ow{c:UInt8}(h:c≠45)(hd:zS c=false)(v:Int):c∉(cw v).data.toList:=by
 rw[cy];exact qg h hd v
theorem pn{c:UInt8}{L:List ByteArray}(hL:L≠[])(h: ∀x∈L,c∉x.data.toList):aZ (dN L ⟨#[c]⟩) c=L:=by
 unfold aZ;have e:(dN L ⟨#[c]⟩).data.toList=Lib.join (L.map (·.data.toList)) [c]:=mi L ⟨#[c]⟩;rw[e,Cw (by simpa using hL) (fun x hx=>by
  obtain⟨y,hy,rfl⟩:=List.mem_map.1 hx;exact h y hy),List.map_map]
 refine(List.map_congr_left fun x _=> ?_).trans (List.map_id _);rfl
theorem Jw{s sep x y:List UInt8}{b:Bool}(h:Lib.cut s sep=(x,y,b))(hy:y≠[]):s=x++sep++y:=by
 unfold Lib.cut at h;split at h
 ·rename_i h0;injection h with h1 h;injection h with h2 h;rcases Lib.index_spec s sep with⟨h3,_⟩ | ⟨i,h3,h4,h5,_⟩
  ·omega
  ·rw[h3,Int.toNat_natCast]at h1 h2;have h6:sep<+:s.drop i:=List.isPrefixOf_iff_prefix.1 h5;obtain⟨t,ht⟩:=h6;have h7:s=s.take i++(sep++t):=by rw[ht,List.take_append_drop]
   have h8:t=y:=by
    rw[<-h2,<-List.drop_drop,<-ht,List.drop_left]
   rw[<-h1,<-h8,List.append_assoc];exact h7
 ·injection h with h1 h;injection h with h2 h;exact absurd h2.symm hy
theorem dH(s:ByteArray)(hs:s.size<=1048576):bG s=some (gj s):=by
 unfold bG;rw[if_pos (by omega)]
theorem cq{v:Int}(h0: -10000000000000<v)(h1:v<10000000000000):(cw v).size<=14:=by
 rw[uG];exact BO h0 h1
def qS(p:aF):ByteArray:=dN [cw p.X,cw p.Y] (ByteArray.mk #[58])
theorem H3{p:aF}(h:iZ p=true):(-1000<=p.X/\p.X<=1000)/\ -1000<=p.Y/\p.Y<=1000:=by
 unfold iZ at h;rw[Bool.and_eq_true,iU,iU]at h;exact h
theorem zF(p:aF):(qS p).data.toList=itoa p.X++[58]++itoa p.Y:=by
 unfold qS;rw[fC,gL,dU,dU,cy,cy]
theorem zL{p:aF}(h:iZ p=true):nJ p=some (qS p):=by
 have h1:=H3 h;have z1:=cq (v:=p.X) (by omega) (by omega);have z2:=cq (v:=p.Y) (by omega) (by omega);have z3:(ByteArray.mk #[58]).size=1:=rfl;unfold nJ qS;rw[tZ (by omega) (by omega),Option.bind_some,bZ (by omega),Option.bind_some,tZ (by omega) (by omega),Option.bind_some,bZ (by rw[ByteArray.size_append];omega),fC,gL];rfl
theorem CX{s:ByteArray}{p:aF}(h:iZ p=true)(hs:s=qS p)(hz:s.size<=1048576):dC s=some (p,0):=by
 have h1:=H3 h;have hcut:Lib.cut s.data.toList [58]=(itoa p.X,itoa p.Y,true):=by
  rw[hs,zF];exact KP _ (qg (by decide) (by decide) _)
 have hC:=pX s (ByteArray.mk #[58]);have e1:(rF s (ByteArray.mk #[58])).1.data.toList=itoa p.X:=by
  show((Lib.cut s.data.toList [58]).1.toArray).toList=_;rw[hcut]
 have e2:(rF s (ByteArray.mk #[58])).2.1.data.toList=itoa p.Y:=by
  show((Lib.cut s.data.toList [58]).2.1.toArray).toList=_;rw[hcut]
 unfold dC jk strings_Cut;rw[decide_eq_true (by omega),cond_true,Option.bind_some,dH _ (by omega),Option.bind_some,dH _ (by omega),Option.bind_some,jI e1 (by omega) (by omega),jI e2 (by omega) (by omega)];simp only[cond_true,wP,Option.bind_some];have:iZ ⟨p.X,p.Y⟩=true:=h;rw[this];rfl
theorem Dn{s:ByteArray}{p:aF}(h:iZ p=true)(hs:s=qS p)(hz:s.size<=1048576):dL s=some (p,0):=by
 have h1:=H3 h;have hw:aZ s 58=[cw p.X,cw p.Y]:=by
  rw[hs];exact pn (by simp) (by
   intro x hx;simp only[List.mem_cons,List.not_mem_nil,or_false]at hx;rcases hx with rfl | rfl
   ·exact ow (by decide) (by decide) _
   ·exact ow (by decide) (by decide) _)
 have a0:at' [cw p.X,cw p.Y] 0=some (cw p.X):=rfl;have a1:at' [cw p.X,cw p.Y] 1=some (cw p.Y):=rfl;have z1:=cq (v:=p.X) (by omega) (by omega);have z2:=cq (v:=p.Y) (by omega) (by omega);have hsp:bD s 58=some (aZ s 58):=du s 58 (by omega);have hp:(aF.mk p.X p.Y)=p:=rfl;unfold dL;rw[hsp,hw,Option.bind_some];simp only[List.length_cons,List.length_nil,a0,a1,Option.bind_some,pe (s:=cw p.X) (by omega) (cy _) (show -10000000000000<p.X by omega) (by omega),pe (s:=cw p.Y) (by omega) (cy _) (show -10000000000000<p.Y by omega) (by omega),hp,A0,h,zL h,<-hs];simp
theorem Ae(s:ByteArray)(hz:s.size<=1048576):dC s=some (⟨0,0⟩,6)\/ ∃p,dC s=some (p,0)/\iZ p=true/\s=qS p:=by
 have hC:=pX s (ByteArray.mk #[58]);unfold dC jk strings_Cut;rw[decide_eq_true (by omega),cond_true,Option.bind_some,dH _ (by omega),Option.bind_some,dH _ (by omega),Option.bind_some];cases h1:(gj (rF s (ByteArray.mk #[58])).1).2
 ·exact .inl rfl
 ·cases h2:(gj (rF s (ByteArray.mk #[58])).2.1).2
  ·exact .inl rfl
  ·simp only[cond_true,wP,Option.bind_some];cases h3:iZ ⟨(gj (rF s (ByteArray.mk #[58])).1).1,(gj (rF s (ByteArray.mk #[58])).2.1).1⟩
   ·exact .inl rfl
   ·refine .inr ⟨_,rfl,h3,l6 ?_⟩;have e1:=nX h1;have e2:=nX h2;have e3:(Lib.cut s.data.toList [58]).1=itoa (gj (rF s (ByteArray.mk #[58])).1).1:=by
     rw[e1];show _=((Lib.cut s.data.toList [58]).1.toArray).toList;simp
    have e4:(Lib.cut s.data.toList [58]).2.1=itoa (gj (rF s (ByteArray.mk #[58])).2.1).1:=by
     rw[e2];show _=((Lib.cut s.data.toList [58]).2.1.toArray).toList;simp
    have:=Jw (s:=s.data.toList) (sep:=[58]) (x:=(Lib.cut s.data.toList [58]).1) (y:=(Lib.cut s.data.toList [58]).2.1) (b:=(Lib.cut s.data.toList [58]).2.2) rfl (by rw[e4];exact EG _);rw[zF,<-e3,<-e4];exact this
theorem Mj{α:Type}{L:List α}(h:L.length=2): ∃a b,L=[a,b]:=by
 match L,h with
 | [a,b],_=>exact⟨a,b,rfl⟩
theorem AF(s:ByteArray)(hz:s.size<=1048576):dL s=some (⟨0,0⟩,6)\/ ∃p,dL s=some (p,0)/\iZ p=true/\s=qS p:=by
 have hsp:bD s 58=some (aZ s 58):=du s 58 (by omega);have hws: ∀x∈aZ s 58,x.size<=s.size:=fun x hx=>fe hx;unfold dL;rw[hsp,Option.bind_some];generalize aZ s 58=W at hws;by_cases hl:W.length=2
 ·obtain⟨a,b,rfl⟩:=Mj hl;have ha:=hws a (by simp);have hb:=hws b (by simp);obtain⟨x,f,x1,_,_⟩:=nZ a (by omega);obtain⟨y,g,y1,_,_⟩:=nZ b (by omega);have a0:at' [a,b] 0=some a:=rfl;have a1:at' [a,b] 1=some b:=rfl;simp only[List.length_cons,List.length_nil,a0,a1,Option.bind_some,x1,y1,A0];cases f
  ·exact .inl (by simp)
  ·cases g
   ·exact .inl (by simp)
   ·cases h3:iZ ⟨x,y⟩
    ·exact .inl (by simp)
    ·rw[zL h3];cases h4:((qS ⟨x,y⟩).toList==s.toList)
     ·exact .inl (by simp[h4])
     ·refine .inr ⟨⟨x,y⟩,by simp[h4],h3,(fm.1 h4).symm⟩
 ·have:((W.length:Int) !=2)=true:=by
   rw[bne_iff_ne];omega
  rw[this];exact .inl rfl
theorem xa(s:ByteArray)(hz:s.size<=1048576): ∃p e,dC s=some (p,e)/\dL s=some (p,e)/\(e=6\/e=0/\iZ p=true):=by
 rcases Ae s hz with h | ⟨p,h1,h2,h3⟩
 ·rcases AF s hz with k | ⟨p,k1,k2,k3⟩
  ·exact⟨_,_,h,k,.inl rfl⟩
  ·rw[CX k2 k3 hz]at h;cases h
 ·exact⟨p,0,h1,Dn h2 h3 hz,.inr ⟨rfl,h2⟩⟩
def jX(s:Span):ByteArray:=cw s.From++ByteArray.mk #[46,46]++cw s.To
theorem tL{s:Span}(h:nv s=true):(-3000<=s.From/\s.From<=3000)/\ -3000<=s.To/\s.To<=3000:=by
 unfold nv at h;rw[Bool.and_eq_true,Bool.and_eq_true,iU,iU]at h;exact⟨h.1,h.2.1⟩
theorem vW(s:Span):(jX s).data.toList=itoa s.From++[46,46]++itoa s.To:=by
 unfold jX;rw[dU,dU,cy,cy]
theorem qX{s:Span}(h:nv s=true):(jX s).size<=30:=by
 have h1:=tL h;have z1:=cq (v:=s.From) (by omega) (by omega);have z2:=cq (v:=s.To) (by omega) (by omega);have z3:(ByteArray.mk #[46,46]).size=2:=rfl;unfold jX;rw[ByteArray.size_append,ByteArray.size_append];omega
theorem HJ{s:Span}(h:nv s=true):mv s=some (jX s):=by
 have h1:=tL h;have z1:=cq (v:=s.From) (by omega) (by omega);have z2:=cq (v:=s.To) (by omega) (by omega);have z3:(ByteArray.mk #[46,46]).size=2:=rfl;unfold mv jX;rw[kl _ (by omega) (by omega),Option.bind_some,bZ (by omega),Option.bind_some,kl _ (by omega) (by omega),Option.bind_some,bZ (by rw[ByteArray.size_append];omega)];rfl
theorem vZ{s:Span}(h:nv s=true):lI s=some (jX s):=by
 have h1:=tL h;have z1:=cq (v:=s.From) (by omega) (by omega);have z2:=cq (v:=s.To) (by omega) (by omega);have z3:(ByteArray.mk #[46,46]).size=2:=rfl;unfold lI jX;rw[tZ (by omega) (by omega),Option.bind_some,bZ (by omega),Option.bind_some,tZ (by omega) (by omega),Option.bind_some,bZ (by rw[ByteArray.size_append];omega)];rfl
theorem CY(s:ByteArray)(hz:s.size<=1048576): ∃sp b,gw s=some (sp,b):=by
 have hC:=pX s (ByteArray.mk #[46,46]);unfold gw strings_Cut;rw[decide_eq_true (by omega),cond_true,Option.bind_some,dH _ (by omega),Option.bind_some,dH _ (by omega),Option.bind_some];cases (gj (rF s (ByteArray.mk #[46,46])).1).2
 ·exact⟨_,_,rfl⟩
 ·cases (gj (rF s (ByteArray.mk #[46,46])).2.1).2
  ·exact⟨_,_,rfl⟩
  ·rw[tf];exact⟨_,_,rfl⟩
theorem ED{s:Span}(h:nv s=true):gw (jX s)=some (s,true):=by
 have h1:=tL h;have hz:=qX h;have hcut:Lib.cut (jX s).data.toList [46,46]=(itoa s.From,itoa s.To,true):=by
  rw[vW];exact KP _ (qg (by decide) (by decide) _)
 have e1:(rF (jX s) (ByteArray.mk #[46,46])).1.data.toList=itoa s.From:=by
  show((Lib.cut (jX s).data.toList [46,46]).1.toArray).toList=_;rw[hcut]
 have e2:(rF (jX s) (ByteArray.mk #[46,46])).2.1.data.toList=itoa s.To:=by
  show((Lib.cut (jX s).data.toList [46,46]).2.1.toArray).toList=_;rw[hcut]
 have hC:=pX (jX s) (ByteArray.mk #[46,46]);have hs:(Span.mk s.From s.To)=s:=rfl;unfold gw strings_Cut;rw[decide_eq_true (by omega),cond_true,Option.bind_some,dH _ (by omega),Option.bind_some,dH _ (by omega),Option.bind_some,jI e1 (by omega) (by omega),jI e2 (by omega) (by omega)];simp only[cond_true,hs,tf,h,Option.bind_some]
theorem Dp(s:ByteArray)(hz:s.size<=1048576): ∃sp e,gE s=some (sp,e):=by
 have hsp:bD s 46=some (aZ s 46):=du s 46 (by omega);have hws: ∀x∈aZ s 46,x.size<=s.size:=fun x hx=>fe hx;unfold gE;rw[hsp,Option.bind_some];generalize aZ s 46=W at hws;by_cases hl:W.length=3
 ·match W,hl with
  | [a,b,c],_=>
   have ha:=hws a (by simp);have hc:=hws c (by simp);obtain⟨x,f,x1,_,_⟩:=nZ a (by omega);obtain⟨y,g,y1,_,_⟩:=nZ c (by omega);have a0:at' [a,b,c] 0=some a:=rfl;have a1:at' [a,b,c] 1=some b:=rfl;have a2:at' [a,b,c] 2=some c:=rfl;have hn:((([a,b,c]:List ByteArray).length:Int) !=3)=false:=rfl;simp only[hn,cond_false,a0,a1,a2,Option.bind_some,x1,y1,tO];cases (b.toList==(ByteArray.mk #[]).toList)
   ·exact⟨_,_,rfl⟩
   ·cases f
    ·exact⟨_,_,rfl⟩
    ·cases g
     ·exact⟨_,_,rfl⟩
     ·cases h3:nv ⟨x,y⟩
      ·exact⟨_,_,rfl⟩
      ·simp only[vZ h3,Bool.not_true,cond_false,Option.bind_some];cases ((jX ⟨x,y⟩).toList==s.toList)
       ·exact⟨_,_,rfl⟩
       ·exact⟨_,_,rfl⟩
 ·have:((W.length:Int) !=3)=true:=by
   rw[bne_iff_ne];omega
  rw[this];exact⟨_,_,rfl⟩
theorem E3{s:Span}(h:nv s=true):gE (jX s)=some (s,0):=by
 have h1:=tL h;have hz:=qX h;have z1:=cq (v:=s.From) (by omega) (by omega);have z2:=cq (v:=s.To) (by omega) (by omega);have hw:aZ (jX s) 46=[cw s.From,ByteArray.mk #[],cw s.To]:=by
  have e:jX s=dN [cw s.From,ByteArray.mk #[],cw s.To] (ByteArray.mk #[46]):=l6 (by
   rw[vW,fC,fC,gL,dU,dU,dU,dU,cy,cy];simp)
  rw[e];refine pn (by simp) fun x hx=> ?_;simp only[List.mem_cons,List.not_mem_nil,or_false]at hx;rcases hx with rfl | rfl | rfl
  ·exact ow (by decide) (by decide) _
  ·simp
  ·exact ow (by decide) (by decide) _
 have a0:at' [cw s.From,ByteArray.mk #[],cw s.To] 0=some (cw s.From):=rfl;have a1:at' [cw s.From,ByteArray.mk #[],cw s.To] 1=some (ByteArray.mk #[]):=rfl;have a2:at' [cw s.From,ByteArray.mk #[],cw s.To] 2=some (cw s.To):=rfl;have hn:((([cw s.From,ByteArray.mk #[],cw s.To]:List ByteArray).length:Int) !=3)=false:=rfl;have hsp:bD (jX s) 46=some (aZ (jX s) 46):=du _ 46 (by omega);have hs:(Span.mk s.From s.To)=s:=rfl;unfold gE;rw[hsp,hw,Option.bind_some];simp only[hn,cond_false,a0,a1,a2,Option.bind_some,beq_self_eq_true,Bool.not_true,pe (s:=cw s.From) (by omega) (cy _) (show -10000000000000<s.From by omega) (by omega),pe (s:=cw s.To) (by omega) (cy _) (show -10000000000000<s.To by omega) (by omega),hs,tO,h,vZ h]
def CM(v:ByteArray):ByteArray:=bif v.toList==(ByteArray.mk #[]).toList then ByteArray.mk #[46]else v
def lB(c:Claim):List ByteArray:=[c.Source,cw c.Kind,c.Place,CM c.Value,jX c.Years,cw c.Weight]
def oP(c:Claim):ByteArray:=dN (lB c) (ByteArray.mk #[47])
theorem FH(v:ByteArray):qL v=some (CM v):=by
 unfold qL CM;cases v.toList==(ByteArray.mk #[]).toList<;>rfl
theorem FI(v:ByteArray):(CM v).size<=v.size+1:=by
 unfold CM;cases v.toList==(ByteArray.mk #[]).toList
 ·exact Nat.le_succ _
 ·show 1<=_;omega
structure Mu (c:Claim):Prop where
 s:cR c.Source=true
 p:cR c.Place=true
 v:G7 c=true
 y:nv c.Years=true
 w:1<=c.Weight/\c.Weight<=100
 k:0<=c.Kind/\c.Kind<=3
 f: ∀b∈c.Value.data.toList,small b=true\/b=32
theorem mG{c:Claim}(h:cg c=true):Mu c:=by
 unfold cg at h;rw[Bool.and_eq_true,Bool.and_eq_true,Bool.and_eq_true,Bool.and_eq_true,iU]at h;obtain⟨h1,h2,h3,h4,h5⟩:=h;have hv:=h3;unfold G7 at hv;have hnil:(c.Value.toList==(ByteArray.mk #[]).toList)=true-> ∀b∈c.Value.data.toList,small b=true\/b=32:=fun h b hb=>by
  rw[fm.1 h]at hb;simp at hb
 have hw:cR c.Value=true-> ∀b∈c.Value.data.toList,small b=true\/b=32:=fun h b hb=>by
  unfold cR at h;rw[Bool.and_eq_true]at h;exact .inl (List.all_eq_true.1 h.2 b hb)
 have hp:kF c.Value=true-> ∀b∈c.Value.data.toList,small b=true\/b=32:=fun h b hb=>by
  cases hs:small b
  ·by_cases h32:b=32
   ·exact .inr h32
   ·exact absurd hb (Gy h hs h32)
  ·exact .inl rfl
 by_cases k0:c.Kind=0
 ·rw[k0]at hv;exact⟨h1,h2,h3,h4,h5,by omega,hp hv⟩
 ·rw[beq_eq_false_iff_ne.2 k0,cond_false]at hv;by_cases k1:c.Kind=1
  ·rw[k1]at hv;have hv:(cR c.Value&& !(c.Value.toList==c.Place.toList))=true:=hv;rw[Bool.and_eq_true]at hv;exact⟨h1,h2,h3,h4,h5,by omega,hw hv.1⟩
  ·rw[beq_eq_false_iff_ne.2 k1,cond_false]at hv;by_cases k2:c.Kind=2
   ·rw[k2]at hv;exact⟨h1,h2,h3,h4,h5,by omega,hnil hv⟩
   ·rw[beq_eq_false_iff_ne.2 k2,cond_false]at hv;by_cases k3:c.Kind=3
    ·rw[k3]at hv;exact⟨h1,h2,h3,h4,h5,by omega,hnil hv⟩
    ·rw[beq_eq_false_iff_ne.2 k3,cond_false]at hv;cases hv
theorem Gx{c:Claim}(h:cg c=true)(hs:cW c): ∀x∈lB c,x.size<=1048577:=by
 have hi:=mG h;have z1:=cq (v:=c.Kind) (by have:=hi.k;omega) (by have:=hi.k;omega);have z2:=cq (v:=c.Weight) (by have:=hi.w;omega) (by have:=hi.w;omega);have z3:=FI c.Value;have z4:=qX hi.y;have h1:=hs.s0;have h2:=hs.s2;have h3:=hs.s3;intro x hx;unfold lB at hx;simp only[List.mem_cons,List.not_mem_nil,or_false]at hx;rcases hx with rfl | rfl | rfl | rfl | rfl | rfl<;>omega
theorem zu{c:Claim}(h:cg c=true)(hs:cW c):lm c=some (oP c):=by
 have hi:=mG h;have h1:=hi.k;have h2:=hi.w;have hz:=kO (ByteArray.mk #[47]) (lB c) (Gx h hs);have hl:(lB c).length=6:=rfl;have h1':(ByteArray.mk #[47]).size=1:=rfl;rw[hl,h1']at hz;unfold lm;rw[kl _ (by omega) (by omega),Option.bind_some,FH,Option.bind_some,HJ hi.y,Option.bind_some,kl _ (by omega) (by omega),Option.bind_some];have:strings_Join (lB c) (ByteArray.mk #[47])=some (oP c):=by
  unfold strings_Join;rw[if_pos ⟨by omega,by omega⟩];rfl
 exact congrArg (fun o:Option ByteArray=>o.bind fun x5=>some x5) this
theorem zK{c:Claim}(h:cg c=true)(hs:cW c):nL c=some (oP c):=by
 have hi:=mG h;have h1:=hi.k;have h2:=hi.w;have z1:=cq (v:=c.Kind) (by omega) (by omega);have z2:=cq (v:=c.Weight) (by omega) (by omega);have z3:=FI c.Value;have z4:=qX hi.y;have s1:=hs.s0;have s2:=hs.s2;have s3:=hs.s3;have z5:(ByteArray.mk #[47]).size=1:=rfl;have hd:q9 c.Value=some (CM c.Value):=FH c.Value;unfold nL;rw[bZ (by omega),Option.bind_some,lG (by omega) (by omega),Option.bind_some,bZ (by simp only[ByteArray.size_append];omega),Option.bind_some,bZ (by simp only[ByteArray.size_append];omega),Option.bind_some,bZ (by simp only[ByteArray.size_append];omega),Option.bind_some,bZ (by simp only[ByteArray.size_append];omega),Option.bind_some,hd,Option.bind_some,bZ (by simp only[ByteArray.size_append];omega),Option.bind_some,bZ (by simp only[ByteArray.size_append];omega),Option.bind_some,vZ hi.y,Option.bind_some,bZ (by simp only[ByteArray.size_append];omega),Option.bind_some,bZ (by simp only[ByteArray.size_append];omega),Option.bind_some,lG (by omega) (by omega),Option.bind_some,bZ (by simp only[ByteArray.size_append];omega),Option.bind_some];congr 1;refine l6 ?_;unfold oP lB;simp only[fC,gL,dU,List.append_assoc]
theorem zg{c:Claim}(h:cg c=true):aZ (oP c) 47=lB c:=by
 have hi:=mG h;have hsm:small 47=false:=by decide
 refine pn (by unfold lB;simp) fun x hx=> ?_;unfold lB at hx;simp only[List.mem_cons,List.not_mem_nil,or_false]at hx;rcases hx with rfl | rfl | rfl | rfl | rfl | rfl
 ·exact qv hi.s hsm
 ·exact ow (by decide) (by decide) _
 ·exact qv hi.p hsm
 ·unfold CM;cases c.Value.toList==(ByteArray.mk #[]).toList
  ·intro hm;rcases hi.f _ hm with h | h
   ·rw[hsm]at h;cases h
   ·cases h
  ·show ¬(47:UInt8)∈(ByteArray.mk #[46]).data.toList;decide
 ·rw[vW];have h1:=qg (c:=47) (by decide) (by decide) c.Years.From;have h2:=qg (c:=47) (by decide) (by decide) c.Years.To;simp[h1,h2]
 ·exact ow (by decide) (by decide) _
theorem FT{c:Claim}(h:cg c=true):jD (CM c.Value)=some c.Value:=by
 have hi:=mG h;unfold jD CM;cases hn:(c.Value.toList==(ByteArray.mk #[]).toList)
 ·have:(c.Value.toList==(ByteArray.mk #[46]).toList)=false:=Bool.eq_false_iff.2 fun e=>by
   have e2:=fm.1 e;rcases hi.f 46 (by rw[e2];simp)with h | h
   ·revert h;decide
   ·cases h
  rw[cond_false,this,cond_false]
 ·rw[cond_true,fm.2 rfl,cond_true,fm.1 hn]
theorem six{α:Type}{L:List α}(h:L.length=6): ∃a b c d e f,L=[a,b,c,d,e,f]:=by
 match L,h with
 | [a,b,c,d,e,f],_=>exact⟨a,b,c,d,e,f,rfl⟩
section
variable {a b c d e f : ByteArray}
theorem x0:at' [a,b,c,d,e,f] 0=some a:=rfl
theorem x1':at' [a,b,c,d,e,f] 1=some b:=rfl
theorem x2':at' [a,b,c,d,e,f] 2=some c:=rfl
theorem x3':at' [a,b,c,d,e,f] 3=some d:=rfl
theorem x4':at' [a,b,c,d,e,f] 4=some e:=rfl
theorem x5':at' [a,b,c,d,e,f] 5=some f:=rfl
theorem xl:((([a,b,c,d,e,f]:List ByteArray).length:Int) !=6)=false:=rfl
end
abbrev I0:Claim:=Claim.mk (ByteArray.mk #[]) 0 (ByteArray.mk #[]) (ByteArray.mk #[]) (Span.mk 0 0) 0
theorem CS{c:Claim}(h:cg c=true)(hs:cW c)(hz:(oP c).size<=1048576):dB (oP c)=some (c,0):=by
 have hi:=mG h;have hk:=hi.k;have hw:=hi.w;have z1:=cq (v:=c.Kind) (by omega) (by omega);have z2:=cq (v:=c.Weight) (by omega) (by omega);have hsp:strings_Split (oP c) (ByteArray.mk #[47])=some (lB c):=by
  rw[<-zg h];unfold strings_Split;have h0:(ByteArray.mk #[47]).data.toList=[47]:=rfl;rw[h0];dsimp only;rw[decide_eq_true (by omega),cond_true]
 have hc:(Claim.mk c.Source c.Kind c.Place c.Value c.Years c.Weight)=c:=rfl;unfold dB;rw[hsp,Option.bind_some];unfold lB;simp only[xl,cond_false,x0,x1',x2',x3',x4',x5',Option.bind_some,dH (cw c.Kind) (by omega),dH (cw c.Weight) (by omega),jI (cy c.Kind) (by omega) (by omega),jI (cy c.Weight) (by omega) (by omega),ED hi.y,FT h,hc,qJ c hs,h,zu h hs,beq_self_eq_true,Bool.not_true]
theorem Db{c:Claim}(h:cg c=true)(hs:cW c)(hz:(oP c).size<=1048576):dK (oP c)=some (c,0):=by
 have hi:=mG h;have hk:=hi.k;have hw:=hi.w;have hsp:bD (oP c) 47=some (lB c):=by
  rw[<-zg h];exact du _ 47 (by omega)
 have hd:lJ (CM c.Value)=some c.Value:=FT h;have hc:(Claim.mk c.Source c.Kind c.Place c.Value c.Years c.Weight)=c:=rfl;unfold dK;rw[hsp,Option.bind_some];unfold lB;simp only[xl,cond_false,x0,x1',x2',x3',x4',x5',Option.bind_some,wi (cy c.Kind) (by omega) (by omega),wi (cy c.Weight) (by omega) (by omega),E3 hi.y,hd,hc,q7 c hs,h,zK h hs,beq_self_eq_true,Bool.not_true,bne_self_eq_false]
theorem Aa(s:ByteArray)(hz:s.size<=1048576):dB s=some (I0,6)\/ ∃c,dB s=some (c,0)/\cg c=true/\cW c/\s=oP c:=by
 have hsp:strings_Split s (ByteArray.mk #[47])=some (aZ s 47):=by
  unfold strings_Split;have h0:(ByteArray.mk #[47]).data.toList=[47]:=rfl;rw[h0];dsimp only;rw[decide_eq_true (by omega),cond_true]
 have hws: ∀x∈aZ s 47,x.size<=1048576:=fun x hx=>Nat.le_trans (fe hx) hz;unfold dB;rw[hsp,Option.bind_some];generalize aZ s 47=W at hws;by_cases hl:W.length=6
 ·obtain⟨a,b,c,d,e,f,rfl⟩:=six hl;have ha:=hws a (by simp);have hb:=hws b (by simp);have hc:=hws c (by simp);have hd:=hws d (by simp);have hf:=hws f (by simp);obtain⟨sp,g,g1⟩:=CY e (hws e (by simp));obtain⟨v,v1,v2⟩: ∃v,jD d=some v/\v.size<=1048576:=by
   unfold jD;cases d.toList==(ByteArray.mk #[46]).toList
   ·exact⟨_,rfl,hd⟩
   ·exact⟨_,rfl,by show 0<=_;omega⟩
  simp only[xl,cond_false,x0,x1',x2',x3',x4',x5',Option.bind_some,dH b hb,dH f hf,g1,v1];have hsm:cW (Claim.mk a (gj b).1 c v sp (gj f).1):=⟨ha,hc,v2⟩;rw[qJ _ hsm];cases h3:cg (Claim.mk a (gj b).1 c v sp (gj f).1)
  ·exact .inl rfl
  ·simp only[zu h3 hsm,Option.bind_some,Bool.not_true,cond_false];cases h4:((oP (Claim.mk a (gj b).1 c v sp (gj f).1)).toList==s.toList)
   ·exact .inl rfl
   ·exact .inr ⟨_,rfl,h3,hsm,(fm.1 h4).symm⟩
 ·have:((W.length:Int) !=6)=true:=by
   rw[bne_iff_ne];omega
  rw[this];exact .inl rfl
theorem As(s:ByteArray)(hz:s.size<=1048576):dK s=some (I0,6)\/ ∃c,dK s=some (c,0)/\cg c=true/\cW c/\s=oP c:=by
 have hsp:bD s 47=some (aZ s 47):=du s 47 (by omega);have hws: ∀x∈aZ s 47,x.size<=1048576:=fun x hx=>Nat.le_trans (fe hx) hz;unfold dK;rw[hsp,Option.bind_some];generalize aZ s 47=W at hws;by_cases hl:W.length=6
 ·obtain⟨a,b,c,d,e,f,rfl⟩:=six hl;have ha:=hws a (by simp);have hc:=hws c (by simp);have hd:=hws d (by simp);obtain⟨sp,g,g1⟩:=Dp e (hws e (by simp));obtain⟨k,kb,k1,_⟩:=iH b;obtain⟨w,wb,w1,_⟩:=iH f;obtain⟨v,v1,v2⟩: ∃v,lJ d=some v/\v.size<=1048576:=by
   unfold lJ;cases d.toList==(ByteArray.mk #[46]).toList
   ·exact⟨_,rfl,hd⟩
   ·exact⟨_,rfl,by show 0<=_;omega⟩
  simp only[xl,cond_false,x0,x1',x2',x3',x4',x5',Option.bind_some,k1,w1,g1,v1];have hsm:cW (Claim.mk a k c v sp w):=⟨ha,hc,v2⟩;rw[q7 _ hsm];cases kb
  ·exact .inl rfl
  cases wb
  ·exact .inl rfl
  cases (g !=0)
  ·cases h3:cg (Claim.mk a k c v sp w)
   ·exact .inl rfl
   ·simp only[zK h3 hsm,Option.bind_some,Bool.not_true,cond_false];cases h4:((oP (Claim.mk a k c v sp w)).toList==s.toList)
    ·exact .inl rfl
    ·exact .inr ⟨_,rfl,h3,hsm,(fm.1 h4).symm⟩
  ·exact .inl rfl
 ·have:((W.length:Int) !=6)=true:=by
   rw[bne_iff_ne];omega
  rw[this];exact .inl rfl
theorem EP(s:ByteArray)(hz:s.size<=1048576): ∃c e,dB s=some (c,e)/\dK s=some (c,e)/\(e=6\/e=0/\cg c=true/\cW c):=by
 rcases Aa s hz with h | ⟨c,h1,h2,h3,h4⟩
 ·rcases As s hz with k | ⟨c,k1,k2,k3,k4⟩
  ·exact⟨_,_,h,k,.inl rfl⟩
  ·rw[k4,CS k2 k3 (k4▸hz)]at h;cases h
 ·refine⟨c,0,h1,?_,.inr ⟨rfl,h2,h3⟩⟩;rw[h4];exact Db h2 h3 (h4▸hz)
section
variable {S A : Type}
theorem By{n:Nat}(hn:n<=1000000000){B:Int->S->Option S}{D:S->A}(R:Nat->S)(hB: ∀i:Nat,i<n->B (i:Int) (R i)=some (R (i+1))):cG (n:Int) B D 0 (R 0)=some (D (R n)):=by
 have key: ∀(m i:Nat),i+m=n->cG (n:Int) B D (i:Int) (R i)=some (D (R n)):=by
  intro m
  induction m with
  | zero=>
   intro i h;unfold cG;rw[bF];simp only[decide_eq_false (show ¬(i:Int)<n by omega),cond_false];rw[show i=n by omega]
  | succ m ih=>
   intro i h;unfold cG;rw[bF];simp only[decide_eq_true (show(i:Int)<n by omega),cond_true,hB i (by omega),Option.bind_some,bg (show -9223372036854775808<=(i:Int)+1 by omega) (by omega)];have:=ih (i+1) (by omega);unfold cG at this;simpa using this
 simpa using key n 0 (by omega)
theorem Bx{n i0:Nat}(hn:n<=1000000000)(h0:i0<=n+1){B:Int->S->Option S}{D:S->A}(R:Nat->S)(hB: ∀i:Nat,i0<=i->i<=n->B (i:Int) (R i)=some (R (i+1))):mb (fun(i:Int) (_:S)=>decide (i<=(n:Int))) B D (i0:Int) (R i0)=some (D (R (n+1))):=by
 have key: ∀(m i:Nat),i0<=i->i+m=n+1->mb (fun(i:Int) (_:S)=>decide (i<=(n:Int))) B D (i:Int) (R i)=some (D (R (n+1))):=by
  intro m
  induction m with
  | zero=>
   intro i _ h;unfold mb;rw[bF];simp only[decide_eq_false (show ¬(i:Int)<=n by omega),cond_false];rw[show i=n+1 by omega]
  | succ m ih=>
   intro i hi h;unfold mb;rw[bF];simp only[decide_eq_true (show(i:Int)<=n by omega),cond_true,hB i hi (by omega),Option.bind_some,bg (show -9223372036854775808<=(i:Int)+1 by omega) (by omega)];have:=ih (i+1) (by omega) (by omega);unfold mb at this;simpa using this
 exact key (n+1 - i0) i0 (Nat.le_refl _) (by omega)
end
def lev:List UInt8->List UInt8->Nat
 | [],ys=>ys.length
 | x::xs,[]=>xs.length+1
 | x::xs,y::ys=>min (min (lev xs ys+(if x=y then 0 else 1)) (lev xs (y::ys)+1)) (lev (x::xs) ys+1)
termination_by xs ys=>xs.length+ys.length
theorem IX(xs:List UInt8):lev xs []=xs.length:=by
 cases xs<;>simp[lev]
theorem Gf(x y:UInt8)(xs ys:List UInt8):lev (x::xs) (y::ys)=min (min (lev xs ys+(if x=y then 0 else 1)) (lev xs (y::ys)+1)) (lev (x::xs) ys+1):=by
 rw[lev]
theorem Lg: ∀(n:Nat) (xs ys:List UInt8),xs.length+ys.length<=n->lev xs ys<=xs.length+ys.length
 | n,[],ys,_=>by simp[lev]
 | n,x::xs,[],_=>by rw[IX];simp
 | 0,x::xs,y::ys,h=>by simp at h
 | n+1,x::xs,y::ys,h=>by
  simp only[List.length_cons]at h;have:=Lg n (x::xs) ys (by simp;omega);rw[Gf];simp only[List.length_cons]at this⊢;omega
def iO(A B:List UInt8)(i k:Nat):Nat:=lev (A.take i).reverse (B.take k).reverse
theorem Og(A B:List UInt8){k:Nat}(h:k<=B.length):iO A B 0 k=k:=by
 unfold iO;simp[lev,Nat.min_eq_left h]
theorem IW(A B:List UInt8){i:Nat}(h:i<=A.length):iO A B i 0=i:=by
 unfold iO;rw[List.take_zero,List.reverse_nil,IX];simp[Nat.min_eq_left h]
theorem GZ{A:List UInt8}{i:Nat}{x:UInt8}(h:A[i]? =some x):(A.take (i+1)).reverse=x::(A.take i).reverse:=by
 obtain⟨hi,rfl⟩:=List.getElem?_eq_some_iff.1 h;rw[List.take_succ_eq_append_getElem hi,List.reverse_append];rfl
theorem JK{A B:List UInt8}{i k:Nat}{x y:UInt8}(hx:A[i]? =some x)(hy:B[k]? =some y):iO A B (i+1) (k+1)=min (min (iO A B i k+(if x=y then 0 else 1)) (iO A B i (k+1)+1)) (iO A B (i+1) k+1):=by
 unfold iO;rw[GZ hx,GZ hy,Gf]
theorem AQ(A B:List UInt8)(i k:Nat):iO A B i k<=A.length+B.length:=by
 unfold iO;have:=Lg _ (A.take i).reverse (B.take k).reverse (Nat.le_refl _);simp only[List.length_reverse,List.length_take]at this;omega
def rowP(A B:List UInt8)(i k:Nat):List Int:=(List.range k).map fun j=>(iO A B i j:Int)
theorem GH(A B:List UInt8)(i k:Nat):(rowP A B i k).length=k:=by simp[rowP]
theorem pc{A B:List UInt8}{i k j:Nat}(h:j<k):(rowP A B i k)[j]? =some (iO A B i j:Int):=by
 unfold rowP;rw[List.getElem?_map,List.getElem?_range h];rfl
theorem DY(A B:List UInt8)(i k:Nat):rowP A B i k++[(iO A B i k:Int)]=rowP A B i (k+1):=by
 unfold rowP;rw[List.range_succ,List.map_append];rfl
theorem Gr(a b:Nat):sg (a:Int) (b:Int)=((min a b:Nat):Int):=by
 unfold sg;split<;>omega
theorem entry{A B:List UInt8}(hA:A.length+B.length<=2097152){i k:Nat}{x y:UInt8}(hx:A[i]? =some x)(hy:B[k]? =some y):
  sg (sg (bif(x.toNat:Int) !=(y.toNat:Int)then ap ((iO A B i k:Int)+1)else(iO A B i k:Int)) (ap ((iO A B i (k+1):Int)+1))) (ap ((iO A B (i+1) k:Int)+1))=(iO A B (i+1) (k+1):Int):=by
 have h1:=AQ A B i k;have h2:=AQ A B i (k+1);have h3:=AQ A B (i+1) k;rw[bg (by omega) (by omega),bg (by omega) (by omega),bg (by omega) (by omega),JK hx hy];have e:(bif(x.toNat:Int) !=(y.toNat:Int)then((iO A B i k:Int)+1)else(iO A B i k:Int))=((iO A B i k+(if x=y then 0 else 1):Nat):Int):=by
  by_cases h:x=y
  ·subst h;simp
  ·rw[if_neg h];have:((x.toNat:Int) !=(y.toNat:Int))=true:=by
    rw[bne_iff_ne];intro e;exact h (UInt8.toNat_inj.1 (by omega))
   rw[this];rfl
 rw[e,show((iO A B i (k+1):Int)+1)=((iO A B i (k+1)+1:Nat):Int) by omega,show((iO A B (i+1) k:Int)+1)=((iO A B (i+1) k+1:Nat):Int) by omega,Gr,Gr]
theorem O4(A B:List UInt8):rowP A B 0 (B.length+1)=(List.range (B.length+1)).map fun j:Nat=>(j:Int):=by
 unfold rowP;refine List.map_congr_left fun j hj=> ?_;have:=List.mem_range.1 hj;rw[Og A B (by omega)]
theorem JF(a b:ByteArray)(ha:a.size<=1000000)(hb:b.size<=1000000):eH a b=some (iO a.data.toList b.data.toList a.size b.size:Int):=by
 have sa:=gP a;have sb:=gP b;unfold eH;rw[show ap ((b.size:Int)+1)=((b.size+1:Nat):Int) by rw[bg (by omega) (by omega)];omega,AT 0 (by omega),Option.bind_some,List.length_replicate];generalize hA:a.data.toList=A at*;generalize hB:b.data.toList=B at*;have e0:cG ((b.size+1:Nat):Int) (fun(i4:Int) (s4:(List Int))=>((at' s4 i4).bind fun _=>some (List.set s4 (Int.toNat i4) i4))) (fun(s4:(List Int))=>s4) 0 (List.replicate (b.size+1) (0:Int))=some (rowP A B 0 (b.size+1)):=by
  have:=By (n:=b.size+1) (by omega) (B:=fun(i4:Int) (s4:(List Int))=>((at' s4 i4).bind fun _=>some (List.set s4 (Int.toNat i4) i4))) (D:=fun(s4:(List Int))=>s4) (fun k=>((List.range k).map fun j:Nat=>(j:Int))++List.replicate (b.size+1 - k) 0) (fun i hi=>by
   have hr:List.replicate (b.size+1 - i) (0:Int)=0::List.replicate (b.size+1 -(i+1)) 0:=by
    rw[show b.size+1 - i=(b.size+1 -(i+1))+1 by omega,List.replicate_succ]
   have hl:((List.range i).map fun j:Nat=>(j:Int)).length=i:=by simp
   simp only[ar,hr];rw[List.getElem?_append_right (by omega),hl,Nat.sub_self];simp only[List.getElem?_cons_zero,Option.bind_some,Int.toNat_natCast];rw[List.set_append_right _ _ (by omega),hl,Nat.sub_self,List.set_cons_zero,List.range_succ,List.map_append,List.append_assoc];rfl)
  simp only[List.range_zero,List.map_nil,List.nil_append,Nat.sub_zero,Nat.sub_self,List.replicate_zero,List.append_nil]at this;rw[this,<-sb,O4]
 rw[e0,Option.bind_some];have e1:=By (n:=a.size) (by omega) (B:=fun(i11:Int) (s11:(List Int))=>(((cG (b.size:Int) (fun(i17:Int) (s17:(List Int))=>((at' s11 i17).bind fun x21=>((cC a i11).bind fun x22=>((cC b i17).bind fun x23=>(((bif(x22 !=x23)then some (ap (x21+1))else some x21)).bind fun(j24:Int)=>((at' s11 (ap (i17+1))).bind fun x26=>((at' s17 i17).bind fun x27=>((bP s17 ([(sg (sg j24 (ap (x26+1))) (ap (x27+1)))]:List Int)).bind fun x29=>some x29)))))))) (fun(s17:(List Int))=>s17) 0 ([(ap (i11+1))]:List Int))).bind fun(j15:(List Int))=>some j15)) (D:=fun(s11:(List Int))=>s11) (fun i=>rowP A B i (b.size+1)) (fun i hi=>by
  have hx:A[i]? =some (A[i]'(by omega)):=List.getElem?_eq_getElem _;generalize A[i]'(by omega)=x at hx;have e2:=By (n:=b.size) (by omega) (B:=fun(i17:Int) (s17:(List Int))=>((at' (rowP A B i (b.size+1)) i17).bind fun x21=>((cC a (i:Int)).bind fun x22=>((cC b i17).bind fun x23=>(((bif(x22 !=x23)then some (ap (x21+1))else some x21)).bind fun(j24:Int)=>((at' (rowP A B i (b.size+1)) (ap (i17+1))).bind fun x26=>((at' s17 i17).bind fun x27=>((bP s17 ([(sg (sg j24 (ap (x26+1))) (ap (x27+1)))]:List Int)).bind fun x29=>some x29)))))))) (D:=fun(s17:(List Int))=>s17) (fun k=>rowP A B (i+1) (k+1)) (fun k hk=>by
   have hy:B[k]? =some (B[k]'(by omega)):=List.getElem?_eq_getElem _;generalize B[k]'(by omega)=y at hy;simp only[ar,pc (show k<b.size+1 by omega),oc (show a.data.toList[i]? =some x by rw[hA];exact hx),oc (show b.data.toList[k]? =some y by rw[hB];exact hy),Option.bind_some];rw[show ap ((k:Int)+1)=((k+1:Nat):Int) by rw[bg (by omega) (by omega)];omega,ar,pc (show k+1<b.size+1 by omega),pc (show k<k+1 by omega)];have he:=entry (A:=A) (B:=B) (by omega) hx hy;have hbif:(bif((x.toNat:Int) !=(y.toNat:Int))then some (ap ((iO A B i k:Int)+1))else some (iO A B i k:Int))=some (bif((x.toNat:Int) !=(y.toNat:Int))then ap ((iO A B i k:Int)+1)else(iO A B i k:Int)):=by
    cases ((x.toNat:Int) !=(y.toNat:Int))<;>rfl
   rw[hbif];simp only[Option.bind_some];rw[he,bQ (by rw[GH];simp;omega),Option.bind_some,DY])
  have hst:([(ap ((i:Int)+1))]:List Int)=rowP A B (i+1) (0+1):=by
   unfold rowP;rw[bg (by omega) (by omega)];simp[IW A B (show i+1<=A.length by omega)]
  try simp only[]
  rw[hst,e2];rfl)
 try simp only[]at e1
 rw[e1,Option.bind_some,ar,pc (by omega),Option.bind_some]
theorem Kd(a b:ByteArray)(ha:a.size<=1000000)(hb:b.size<=1000000):fj a b=some (iO a.data.toList b.data.toList a.size b.size:Int):=by
 have sa:=gP a;have sb:=gP b;unfold fj;generalize hA:a.data.toList=A at*;generalize hB:b.data.toList=B at*;have e0:=Bx (n:=b.size) (i0:=0) (by omega) (by omega) (B:=fun(i3:Int) (s3:(List Int))=>((bP s3 ([i3]:List Int)).bind fun x7=>some x7)) (D:=fun(s3:(List Int))=>s3) (fun k=>(List.range k).map fun j:Nat=>(j:Int)) (fun i _ hi=>by
  rw[bQ (by simp;omega),Option.bind_some,List.range_succ,List.map_append];rfl)
 simp only[List.range_zero,List.map_nil]at e0;rw[show((0:Nat):Int)=0 from rfl]at e0;rw[e0,Option.bind_some,<-sb,<-O4 A B,sb];have e1:=Bx (n:=a.size) (i0:=1) (by omega) (by omega) (B:=fun(i10:Int) (s10:(List Int))=>(((mb (fun(i16:Int) (_:(List Int))=>(decide (i16<=(b.size:Int)))) (fun(i16:Int) (s16:(List Int))=>((at' s10 (ap (i16 - 1))).bind fun x20=>((cC a (ap (i10 - 1))).bind fun x21=>((cC b (ap (i16 - 1))).bind fun x22=>(((bif(x21 !=x22)then some (ap (x20+1))else some x20)).bind fun(j23:Int)=>((at' s10 i16).bind fun x25=>((at' s16 (ap (i16 - 1))).bind fun x26=>((bP s16 ([(sg (sg j23 (ap (x25+1))) (ap (x26+1)))]:List Int)).bind fun x28=>some x28)))))))) (fun(s16:(List Int))=>s16) 1 ([i10]:List Int))).bind fun(j14:(List Int))=>some j14)) (D:=fun(s10:(List Int))=>s10) (fun i=>rowP A B (i - 1) (b.size+1)) (fun i h1 hi=>by
  obtain⟨i,rfl⟩: ∃j,i=j+1:=⟨i - 1,by omega⟩;have hx:A[i]? =some (A[i]'(by omega)):=List.getElem?_eq_getElem _;generalize A[i]'(by omega)=x at hx;have w1:ap (((i+1:Nat):Int)- 1)=(i:Int):=by rw[bg (by omega) (by omega)];omega
  simp only[Nat.add_sub_cancel];have e2:=Bx (n:=b.size) (i0:=1) (by omega) (by omega) (B:=fun(i16:Int) (s16:(List Int))=>((at' (rowP A B i (b.size+1)) (ap (i16 - 1))).bind fun x20=>((cC a (ap (((i+1:Nat):Int)- 1))).bind fun x21=>((cC b (ap (i16 - 1))).bind fun x22=>(((bif(x21 !=x22)then some (ap (x20+1))else some x20)).bind fun(j23:Int)=>((at' (rowP A B i (b.size+1)) i16).bind fun x25=>((at' s16 (ap (i16 - 1))).bind fun x26=>((bP s16 ([(sg (sg j23 (ap (x25+1))) (ap (x26+1)))]:List Int)).bind fun x28=>some x28)))))))) (D:=fun(s16:(List Int))=>s16) (fun k=>rowP A B (i+1) k) (fun k h1 hk=>by
   obtain⟨k,rfl⟩: ∃j,k=j+1:=⟨k - 1,by omega⟩;have hy:B[k]? =some (B[k]'(by omega)):=List.getElem?_eq_getElem _;generalize B[k]'(by omega)=y at hy;have w2:ap (((k+1:Nat):Int)- 1)=(k:Int):=by rw[bg (by omega) (by omega)];omega
   simp only[w1,w2,ar,pc (show k<b.size+1 by omega),pc (show k+1<b.size+1 by omega),pc (show k<k+1 by omega),oc (show a.data.toList[i]? =some x by rw[hA];exact hx),oc (show b.data.toList[k]? =some y by rw[hB];exact hy),Option.bind_some];have he:=entry (A:=A) (B:=B) (by omega) hx hy;have hbif:(bif((x.toNat:Int) !=(y.toNat:Int))then some (ap ((iO A B i k:Int)+1))else some (iO A B i k:Int))=some (bif((x.toNat:Int) !=(y.toNat:Int))then ap ((iO A B i k:Int)+1)else(iO A B i k:Int)):=by
    cases ((x.toNat:Int) !=(y.toNat:Int))<;>rfl
   rw[hbif];simp only[Option.bind_some];rw[he,bQ (by rw[GH];simp;omega),Option.bind_some,DY])
  have hst:([((i+1:Nat):Int)]:List Int)=rowP A B (i+1) 1:=by
   unfold rowP;simp[IW A B (show i+1<=A.length by omega)]
  try simp only[]at e2
  rw[show((1:Nat):Int)=1 from rfl]at e2;rw[hst,e2];rfl)
 simp only[Nat.sub_self,Nat.add_sub_cancel]at e1;rw[show((1:Nat):Int)=1 from rfl]at e1;rw[e1,Option.bind_some,ar,pc (by omega),Option.bind_some]
def KQ(a b:ByteArray):Int:=(iO a.data.toList b.data.toList a.size b.size:Int)
theorem FF(a b:ByteArray):0<=KQ a b/\KQ a b<=a.size+b.size:=by
 unfold KQ;have:=AQ a.data.toList b.data.toList a.size b.size;rw[gP,gP]at this;omega
end Go.Proofs.YtbdbpakffniboaaGreatDoor.Sh
namespace Go.Proofs.YtbdbpakffniboaaGreatDoor.Sh
open Go.RowKit
def kr(x y:ByteArray):Bool:=Op.bytesLess x.toList y.toList
theorem nU: ∀x:List UInt8,Op.bytesLess x x=false
 | []=>rfl
 | a::x=>by
  unfold Op.bytesLess;rw[nU x,Bool.and_false,Bool.or_false,decide_eq_false_iff_not];intro h;have:=UInt8.lt_iff_toNat_lt.1 h;omega
theorem wv{a b:UInt8}{x y:List UInt8}:Op.bytesLess (a::x) (b::y)=true↔a.toNat<b.toNat\/(a=b/\Op.bytesLess x y=true):=by
 conv=>lhs;unfold Op.bytesLess
 rw[Bool.or_eq_true,Bool.and_eq_true,decide_eq_true_eq,beq_iff_eq,UInt8.lt_iff_toNat_lt]
theorem sw: ∀{x y z:List UInt8},Op.bytesLess x y=true->Op.bytesLess y z=true->Op.bytesLess x z=true
 | [],[],_,h,_=>by cases h
 | _::_,[],_,h,_=>by cases h
 | [],_::_,[],_,h=>by cases h
 | _::_,_::_,[],_,h=>by cases h
 | [],_::_,_::_,_,_=>rfl
 | a::x,b::y,c::z,h,k=>by
  rw[wv]at h k⊢;rcases h with h | ⟨rfl,h⟩
  ·rcases k with k | ⟨rfl,_⟩
   ·exact .inl (by omega)
   ·exact .inl h
  ·rcases k with k | ⟨rfl,k⟩
   ·exact .inl k
   ·exact .inr ⟨rfl,sw h k⟩
theorem ww: ∀{x y:List UInt8},Op.bytesLess x y=false->Op.bytesLess y x=false->x=y
 | [],[],_,_=>rfl
 | [],_::_,h,_=>by cases h
 | _::_,[],_,h=>by cases h
 | a::x,b::y,h,k=>by
  rw[Bool.eq_false_iff,ne_eq,wv]at h k;have e:a=b:=UInt8.toNat_inj.1 (by
   have h1: ¬a.toNat<b.toNat:=fun e=>h (.inl e);have h2: ¬b.toNat<a.toNat:=fun e=>k (.inl e);omega)
  subst e;rw[ww (x:=x) (y:=y) (by rw[Bool.eq_false_iff];exact fun e=>h (.inr ⟨rfl,e⟩)) (by rw[Bool.eq_false_iff];exact fun e=>k (.inr ⟨rfl,e⟩))]
end Go.Proofs.YtbdbpakffniboaaGreatDoor.Sh
namespace Go.Proofs.YtbdbpakffniboaaGreatDoor.Sh
open Go.RowKit Go.Lib
theorem Fz: ∀(x y:List UInt8),(compareBytes x y<0↔Op.bytesLess x y=true)/\(compareBytes x y=0↔x=y)/\(0<compareBytes x y↔Op.bytesLess y x=true)
 | [],[]=>by decide
 | [],b::y=>⟨by simp[compareBytes,Op.bytesLess],by simp[compareBytes],by simp[compareBytes,Op.bytesLess]⟩
 | a::x,[]=>⟨by simp[compareBytes,Op.bytesLess],by simp[compareBytes],by simp[compareBytes,Op.bytesLess]⟩
 | a::x,b::y=>by
  obtain⟨h1,h2,h3⟩:=Fz x y;unfold compareBytes;rw[wv,wv];by_cases hab:a<b
  ·rw[if_pos hab];have:=UInt8.lt_iff_toNat_lt.1 hab;refine⟨⟨fun _=> .inl this,fun _=>by omega⟩,⟨fun h=>by omega,fun h=> ?_⟩,⟨fun h=>by omega,fun h=> ?_⟩⟩
   ·injection h with h;subst h;omega
   ·rcases h with h | ⟨h,_⟩
    ·omega
    ·subst h;omega
  ·rw[if_neg hab];by_cases hba:b<a
   ·rw[if_pos hba];have:=UInt8.lt_iff_toNat_lt.1 hba;refine⟨⟨fun h=>by omega,fun h=> ?_⟩,⟨fun h=>by omega,fun h=> ?_⟩,⟨fun _=> .inl this,fun _=>by omega⟩⟩
    ·rcases h with h | ⟨h,_⟩
     ·omega
     ·subst h;omega
    ·injection h with h;subst h;omega
   ·rw[if_neg hba];have e:a=b:=UInt8.toNat_inj.1 (by
     have k1: ¬a.toNat<b.toNat:=fun h=>hab (UInt8.lt_iff_toNat_lt.2 h);have k2: ¬b.toNat<a.toNat:=fun h=>hba (UInt8.lt_iff_toNat_lt.2 h);omega)
    subst e;rw[h1,h2,h3];simp
theorem A2(x y:ByteArray): ∃r,strings_Compare x y=some r/\decide (r<0)=kr x y/\(r==0)=(x.toList==y.toList):=by
 obtain⟨h1,h2,_⟩:=Fz x.data.toList y.data.toList;refine⟨_,rfl,?_,?_⟩
 ·unfold kr;rw[toList_eq,toList_eq];cases hb:Op.bytesLess x.data.toList y.data.toList
  ·rw[decide_eq_false_iff_not,h1,hb];simp
  ·rw[decide_eq_true_eq,h1,hb]
 ·rw[toList_eq,toList_eq];cases hb:(x.data.toList==y.data.toList)
  ·rw[beq_eq_false_iff_ne]at hb;rw[beq_eq_false_iff_ne];exact fun h=>hb (h2.1 h)
  ·rw[beq_iff_eq]at hb;rw[beq_iff_eq];exact h2.2 hb
theorem vS(x:ByteArray):kr x x=false:=nU _
theorem DP{x y z:ByteArray}(h:kr x y=true)(k:kr y z=true):kr x z=true:=sw h k
theorem Oh{a b:Nat}(h:a+b<=1000000000):ap (Int.fdiv (IntKind.wrap .u64 (ap ((a:Int)+(b:Int)))) (2^1))=(((a+b)/2:Nat):Int):=by
 rw[bg (n:=(a:Int)+(b:Int)) (by omega) (by omega)];have e:IntKind.wrap .u64 ((a:Int)+(b:Int))=((a+b:Nat):Int):=by
  rw[IntKind.wrap_u64];omega
 rw[e,show(2:Int)^1=2 from rfl,Int.fdiv_eq_ediv_of_nonneg _ (by omega)];have:((a+b:Nat):Int)/2=(((a+b)/2:Nat):Int):=by omega
 rw[this];exact bg (by omega) (by omega)
theorem OS{α:Type}{L:List α}(hL:L.length<=1000000)(p:α->Bool)(hmono: ∀(i j:Nat) x y,i<=j->L[i]? =some x->L[j]? =some y->p y=true->p x=true)
  {B:Int×Int->Option ((Int×Int)⊕Int)} (hB: ∀(lo hi:Nat) (x:α),lo<hi->hi<=L.length->L[(lo+hi)/2]? =some x->B ((lo:Int),(hi:Int))=some (.inl (bif p x then((((lo+hi)/2+1:Nat):Int),(hi:Int))else((lo:Int),(((lo+hi)/2:Nat):Int))))) (hE: ∀(lo:Nat),B ((lo:Int),(lo:Int))=some (.inr (lo:Int))):
  ∃k:Nat,loop B (0,(L.length:Int))=some (k:Int)/\k<=L.length/\(∀(i:Nat) x,i<k->L[i]? =some x->p x=true)/\ ∀(i:Nat) x,k<=i->L[i]? =some x->p x=false:=by
 have:=BS (body:=B) (fun s=> ∃lo hi:Nat,s=((lo:Int),(hi:Int))/\lo<=hi/\hi<=L.length/\(∀(i:Nat) x,i<lo->L[i]? =some x->p x=true)/\ ∀(i:Nat) x,hi<=i->L[i]? =some x->p x=false)
  (fun s=>(s.2 - s.1).toNat) (fun r=> ∃k:Nat,r=(k:Int)/\k<=L.length/\(∀(i:Nat) x,i<k->L[i]? =some x->p x=true)/\ ∀(i:Nat) x,k<=i->L[i]? =some x->p x=false)
  (fun s ⟨lo,hi,hs,h1,h2,h3,h4⟩=>by
   subst hs;by_cases hlt:lo<hi
   ·have hx:L[(lo+hi)/2]? =some (L[(lo+hi)/2]'(by omega)):=List.getElem?_eq_getElem _;generalize L[(lo+hi)/2]'(by omega)=x at hx;refine .inl ⟨_,hB lo hi x hlt h2 hx,?_,?_⟩
    ·cases hp:p x
     ·exact⟨lo,(lo+hi)/2,rfl,by omega,by omega,h3,fun i y hi' hy=>by
       cases hq:p y with
       | false=>rfl
       | true=>
        have:=hmono ((lo+hi)/2) i x y hi' hx hy hq;rw[hp]at this;cases this⟩
     ·exact⟨(lo+hi)/2+1,hi,rfl,by omega,h2,fun i y hi' hy=>hmono i ((lo+hi)/2) y x (by omega) hy hx hp,h4⟩
    ·cases p x<;>simp<;>omega
   ·obtain rfl:lo=hi:=by omega
    exact .inr ⟨_,hE lo,lo,rfl,h2,h3,h4⟩)
  (s:=(0,(L.length:Int))) ⟨0,L.length,rfl,Nat.zero_le _,Nat.le_refl _,fun i x h=>by omega,fun i x h hx=>by
   have:=(List.getElem?_eq_some_iff.1 hx).1;omega⟩
 obtain⟨r,h1,k,rfl,h2,h3,h4⟩:=this;exact⟨k,h1,h2,h3,h4⟩
def Ib(L:List Site):Prop:= ∀(i j:Nat) x y,i<j->L[i]? =some x->L[j]? =some y->kr x.Code y.Code=true
theorem lD{L:List Site}(h:nj L=some true):Ib L/\(∀x∈L,jb x.Code=true/\iZ x.At=true)/\L.length<=10:=by
 unfold nj at h;have hf: ∀(M:List Site) (k:Nat),bW (nt L) (fun _ _=>false) M k=none\/bW (nt L) (fun _ _=>false) M k=some false:=by
  intro M
  induction M with
  | nil=>exact fun k=> .inl rfl
  | cons x M ih=>
   intro k;unfold bW;cases nt L k x
   ·exact ih (k+1)
   ·exact .inr rfl
 have hall: ∀(M:List Site) (k:Nat),bW (nt L) (fun _ _=>false) M k=none-> ∀(i:Nat) x,M[i]? =some x->nt L (k+i) x=false:=by
  intro M
  induction M with
  | nil=>intro k _ i x hx;simp at hx
  | cons y M ih=>
   intro k hn i x hx;unfold bW at hn;cases hs:nt L k y
   ·rw[hs,cond_false]at hn;cases i with
    | zero=>
     injection hx with hx;subst hx;exact hs
    | succ i=>
     have:=ih (k+1) hn i x (by simpa using hx)
     rwa [show k+1+i=k+(i+1) by omega]at this
   ·rw[hs]at hn;cases hn
 rcases hf L 0 with h0 | h0
 ·rw[h0]at h;have h10:=of_decide_eq_true (Option.some.inj h);have hn:=hall L 0 h0;have hstep: ∀(i:Nat) x y,L[i]? =some x->L[i+1]? =some y->kr x.Code y.Code=true:=by
   intro i x y hx hy;have:=hn (i+1) y hy;unfold nt at this;rw[Bool.or_eq_false_iff,Bool.or_eq_false_iff]at this;have h3:=this.2.2;rw[decide_eq_true (by omega:((0+(i+1):Nat):Int)>0),Bool.true_and,show 0+(i+1)- 1=i by omega,hx]at h3;unfold kr;simpa using h3
  refine⟨?_,fun x hx=> ?_,by omega⟩
  ·intro i j x y hij hx hy;obtain⟨d,rfl⟩: ∃d,j=i+1+d:=⟨j - i - 1,by omega⟩
   induction d generalizing y with
   | zero=>exact hstep i x y hx hy
   | succ d ih=>
    have hlt:i+1+d<L.length:=by
     have:=(List.getElem?_eq_some_iff.1 hy).1;omega
    have hz:L[i+1+d]? =some (L[i+1+d]'hlt):=List.getElem?_eq_getElem _;exact DP (ih (L[i+1+d]'hlt) (by omega) hz) (hstep (i+1+d) _ y hz hy)
  ·obtain⟨i,hi⟩:=List.mem_iff_getElem?.1 hx;have:=hn i x hi;unfold nt at this;rw[Bool.or_eq_false_iff,Bool.or_eq_false_iff]at this;exact⟨by simpa using this.1,by simpa using this.2.1⟩
 ·rw[h0]at h;cases h
def gr(c:ByteArray)(s:Site):Bool:=s.Code.toList==c.toList
theorem tF{L:List Site}(hL:L.length<=1048576)(c:ByteArray):eU L c=some (gX (gr c) L):=by
 unfold eU;exact fE (by omega) (gr c) (fun i x hx=>by rw[ar,hx];rfl)
def pJ(L:List Site)(c:ByteArray):aF×Bool:=match L.find? (gr c)with
 | some s=>(s.At,true)
 | none=>(aF.mk 0 0,false)
theorem o3{L:List Site}(hL:L.length<=10)(hs:Ib L)(c:ByteArray):ec L c=some (pJ L c):=by
 have hmono: ∀(i j:Nat) (x y:Site),i<=j->L[i]? =some x->L[j]? =some y->kr y.Code c=true->kr x.Code c=true:=by
  intro i j x y hij hx hy h;rcases Nat.lt_or_eq_of_le hij with hlt | rfl
  ·exact DP (hs i j x y hlt hx hy) h
  ·rw[hx]at hy;injection hy with hy;rw[hy];exact h
 have hcmp: ∀x:Site,∃r,fR x c=some r/\decide (r<0)=kr x.Code c/\(r==0)=gr c x:=by
  intro x;obtain⟨r,h1,h2,h3⟩:=A2 x.Code c;exact⟨r,by unfold fR;rw[h1];rfl,h2,h3⟩
 have hloop:=OS (L:=L) (by omega) (fun x=>kr x.Code c) hmono (B:=fun(s3:Int×Int)=>(bif(decide (s3.1<s3.2))then((at' L (ap (Int.fdiv (IntKind.wrap .u64 (ap (s3.1+s3.2))) (2^1)))).bind fun x5=>((fR x5 c).bind fun x6=>(bif(decide (x6<0))then some (.inl ((ap ((ap (Int.fdiv (IntKind.wrap .u64 (ap (s3.1+s3.2))) (2^1)))+1)),s3.2))else some (.inl (s3.1,(ap (Int.fdiv (IntKind.wrap .u64 (ap (s3.1+s3.2))) (2^1))))))))else some (.inr s3.1)))
  (fun lo hi x hlt hhi hx=>by
   simp only[Oh (show lo+hi<=1000000000 by omega),ar,hx,Option.bind_some,decide_eq_true (show(lo:Int)<hi by omega),cond_true];obtain⟨r,h1,h2,_⟩:=hcmp x;rw[h1,Option.bind_some,h2,bg (by omega) (by omega)];cases kr x.Code c
   ·rfl
   ·simp only[cond_true];congr 3)
  (fun lo=>by simp only[decide_eq_false (show ¬(lo:Int)<lo by omega),cond_false])
 obtain⟨k,h1,h2,h3,h4⟩:=hloop;unfold ec bX;rw[h1,Option.bind_some];by_cases hk:k<L.length
 ·have hx:L[k]? =some (L[k]'hk):=List.getElem?_eq_getElem _;generalize L[k]'hk=x at hx;obtain⟨r,e1,_,e3⟩:=hcmp x;rw[decide_eq_true (show(k:Int)<L.length by omega),cond_true,ar,hx,Option.bind_some,e1,Option.bind_some,e3];simp only[Option.bind_some];cases hc:gr c x
  ·have hnone:L.find? (gr c)=none:=by
    rw[List.find?_eq_none];intro y hy;obtain⟨i,hi⟩:=List.mem_iff_getElem?.1 hy;intro hcy;have hyc:y.Code=c:=fm.1 hcy;rcases Nat.lt_trichotomy i k with h | h | h
    ·have:=h3 i y h hi;rw[hyc,vS]at this;cases this
    ·subst h;rw[hx]at hi;injection hi with hi;rw[hi,hcy]at hc;cases hc
    ·have h5:=hs k i x y h hx hi;rw[hyc]at h5;have:=h4 k x (Nat.le_refl _) hx;rw[h5]at this;cases this
   unfold pJ;rw[hnone];rfl
  ·have hsome:L.find? (gr c)=some x:=by
    rw[List.find?_eq_some_iff_getElem];refine⟨hc,k,hk,?_,fun j hj=> ?_⟩
    ·rw[List.getElem?_eq_getElem hk]at hx;exact Option.some.inj hx
    ·have hy:L[j]? =some (L[j]'(by omega)):=List.getElem?_eq_getElem _;have:=h3 j _ hj hy;generalize L[j]'(by omega)=y at this;cases hcy:gr c y with
     | false=>rfl
     | true=>
      rw[show y.Code=c from fm.1 hcy,vS]at this;cases this
   unfold pJ;rw[hsome];simp only[Bool.not_true,cond_false,ar,hx,Option.bind_some]
 ·have hnone:L.find? (gr c)=none:=by
   rw[List.find?_eq_none];intro y hy;obtain⟨i,hi⟩:=List.mem_iff_getElem?.1 hy;intro hcy;have:=h3 i y (by have:=(List.getElem?_eq_some_iff.1 hi).1;omega) hi;rw[show y.Code=c from fm.1 hcy,vS]at this;cases this
  rw[decide_eq_false (show ¬(k:Int)<L.length by omega),cond_false,Option.bind_some];unfold pJ;rw[hnone];rfl
section
variable {α A : Type}
theorem JN{L:List α}(hL:L.length<=9223372036854775807){B:Int->Unit->Option (Unit⊕A)}{D:Unit->A}(p:α->Bool)(a:A)(h: ∀(i:Nat) x,L[i]? =some x->B (i:Int) ()=bif p x then some (.inr a)else some (.inl ())):
  dc (L.length:Int) B D 0 ()=bif L.any p then some a else some (D ()):=by
 rw[kQ L hL B (fun _ x _=>bif p x then some (.inr a)else some (.inl ())) _ () (fun j x _ hx=>h j x hx),yu];cases L.any p<;>rfl
end
abbrev jY:ByteArray:=ByteArray.mk #[109,105,108,101]
abbrev pN:ByteArray:=ByteArray.mk #[109,105,108,101,115]
abbrev mE:ByteArray:=ByteArray.mk #[108,101,97,103,117,101]
abbrev kz:ByteArray:=ByteArray.mk #[108,101,97,103,117,101,115]
abbrev tNo:ByteArray:=ByteArray.mk #[]
def pu(u:ByteArray)(c:Int):Bool:=bif c==1 then(u.toList==jY.toList) || (u.toList==mE.toList)else(u.toList==pN.toList) || (u.toList==kz.toList)
def kA(u:ByteArray)(c:Int):Int:=bif c==1 then(bif u.toList==jY.toList then 4 else bif u.toList==mE.toList then 12 else 0)else(bif u.toList==pN.toList then 4 else bif u.toList==kz.toList then 12 else 0)
theorem JI(u:ByteArray)(c:Int):mP u c=some (pu u c):=by
 unfold mP pu;cases (c==1)<;>rfl
theorem Km(u:ByteArray)(c:Int):decide (kA u c>0)=pu u c:=by
 unfold kA pu;cases (c==1)<;>simp only[cond_true,cond_false]
 ·cases (u.toList==pN.toList)<;>cases (u.toList==kz.toList)<;>rfl
 ·cases (u.toList==jY.toList)<;>cases (u.toList==mE.toList)<;>rfl
theorem GN(l m:List UInt8)(b:UInt8):((l++[b])==(m++[b]))=(l==m):=by
 rw[Bool.eq_iff_iff,beq_iff_eq,beq_iff_eq,List.append_left_inj]
theorem w5(l:List UInt8):(ByteArray.mk l.toArray).toList=l:=by rw[toList_eq]
theorem LK:jY.toList=[109,105,108,101]:=w5 _
theorem I5:pN.toList=[109,105,108,101]++[115]:=w5 _
theorem GA:mE.toList=[108,101,97,103,117,101]:=w5 _
theorem DX:kz.toList=[108,101,97,103,117,101]++[115]:=w5 _
theorem D2(u:ByteArray)(c:Int)(hu:u.size<=1048576):lN u c=some (kA u c):=by
 unfold lN kA;rw[LK,I5,GA,DX];cases hc:(c==1)with
 | true=>
  rw[show(c !=1)=false by rw[bne,hc];rfl];simp only[cond_false,cond_true,Option.bind_some,Sum.elim_inl];cases (u.toList==[109,105,108,101])<;>cases (u.toList==[108,101,97,103,117,101])<;>rfl
 | false=>
  rw[show(c !=1)=true by rw[bne,hc];rfl];simp only[cond_false,cond_true];have hsz:=gP u;rcases List.eq_nil_or_concat u.data.toList with hn | ⟨l,b,hl⟩
  ·have h0:u.size=0:=by rw[<-hsz,hn];rfl
   have hu0:u.toList=[]:=by rw[toList_eq,hn]
   rw[h0,hu0];rfl
  ·rw[List.concat_eq_append]at hl;have hs:u.size=l.length+1:=by rw[<-hsz,hl];simp
   have e0:((u.size:Int)==0)=false:=by rw[beq_eq_false_iff_ne];omega
   have e1:ap ((u.size:Int)- 1)=(l.length:Int):=by rw[bg (by omega) (by omega)];omega
   have e2:cC u (l.length:Int)=some (b.toNat:Int):=oc (by rw[hl,List.getElem?_append_right (Nat.le_refl _)];simp);have e3:mn u 0 (l.length:Int)=some ⟨l.toArray⟩:=by
    have:=y5 (s:=u) (a:=0) (b:=l.length) (Nat.zero_le _) (by omega);rw[hl]at this;simpa using this
   rw[e0,cond_false,e1,e2,e3];simp only[Option.bind_some];have e4:u.toList=l++[b]:=by rw[toList_eq,hl]
   by_cases hb:b=115
   ·subst hb;rw[show(((115:UInt8).toNat:Int) !=115)=false from rfl];simp only[cond_false,Option.bind_some,Sum.elim_inl,w5];rw[e4,GN,GN];cases (l==[109,105,108,101])<;>cases (l==[108,101,97,103,117,101])<;>rfl
   ·have hne:((b.toNat:Int) !=115)=true:=by
     rw[bne_iff_ne];intro h;exact hb (UInt8.toNat_inj.1 (by rw[show(115:UInt8).toNat=115 from rfl];omega))
    have hx: ∀m:List UInt8,((l++[b])==(m++[115]))=false:=fun m=>by
     rw[beq_eq_false_iff_ne];intro h;have:=List.append_inj_right' h rfl;injection this with this;exact hb this
    rw[hne];simp only[cond_true,Option.bind_some,Sum.elim_inr];rw[e4,hx,hx];rfl
structure C5 (d:ak):Prop where
 u:d.Unit.size<=1048576
 a:d.A.size<=1048576
 b:d.B.size<=1048576
def noB(s:ByteArray):Bool:=s.toList==tNo.toList
def eh(d:ak):Bool:=jb d.A&&bif d.Kind==2 then inB d.Count 1 99&&(pu d.Unit d.Count&&(inB d.Direction 0 7&&noB d.B))else(d.Count==0)&&(noB d.Unit&&((d.Direction==0)&&bif(d.Kind==0) || (d.Kind==1)then noB d.B else(d.Kind==3)&&(jb d.B&& !(d.A.toList==d.B.toList))))
theorem DH(d:ak)(h:C5 d):fx d=some (eh d):=by
 unfold fx eh;have h1:=h.a;have h2:=h.b;simp only[xY d.A (by unfold maxLen;omega),xY d.B (by unfold maxLen;omega),fU,JI,Option.bind_some,beq_self_eq_true,Bool.true_and,Bool.and_true];rw[show(d.B.toList==tNo.toList)=noB d.B from rfl,show(d.Unit.toList==tNo.toList)=noB d.Unit from rfl];generalize jb d.A=ca;generalize jb d.B=cb;generalize noB d.B=nb;generalize noB d.Unit=nu;generalize (d.A.toList==d.B.toList)=ab;generalize inB d.Count 1 99=w;generalize pu d.Unit d.Count=u;generalize inB d.Direction 0 7=dr;generalize (d.Count==0)=c0;generalize (d.Direction==0)=d0;cases ca
 ·rfl
 ·cases h2:(d.Kind==2)with
  | true=>
   have hk:d.Kind=2:=by simpa using h2
   rw[hk,show((2:Int)==0)=false from rfl,show((2:Int)==1)=false from rfl];cases w<;>cases u<;>cases dr<;>rfl
  | false=>
   generalize (d.Kind==0)=k0;generalize (d.Kind==1)=k1;generalize (d.Kind==3)=k3;cases k0<;>cases k1<;>cases k3<;>cases c0<;>cases nu<;>cases d0<;>cases cb<;>rfl
theorem D1(d:ak)(h:C5 d):ea d=some (eh d):=by
 unfold ea eh;have h1:=h.a;have h2:=h.b;simp only[yN d.A (by unfold maxLen;omega),yN d.B (by unfold maxLen;omega),jo,D2 d.Unit d.Count h.u,Option.bind_some,Km,bne];rw[show(d.B.toList==tNo.toList)=noB d.B from rfl,show(d.Unit.toList==tNo.toList)=noB d.Unit from rfl];generalize jb d.A=ca;generalize jb d.B=cb;generalize noB d.B=nb;generalize noB d.Unit=nu;generalize (d.A.toList==d.B.toList)=ab;generalize inB d.Count 1 99=w;generalize pu d.Unit d.Count=u;generalize inB d.Direction 0 7=dr;generalize (d.Count==0)=c0;generalize (d.Direction==0)=d0;cases ca
 ·rfl
 ·cases (d.Kind==2)with
  | true=>cases w<;>cases u<;>cases dr<;>rfl
  | false=>
   generalize (d.Kind==0)=k0;generalize (d.Kind==1)=k1;generalize (d.Kind==3)=k3;cases k0<;>cases k1<;>cases k3<;>cases c0<;>cases nu<;>cases d0<;>cases cb<;>rfl
theorem B9(L:List Site)(c:ByteArray):(pJ L c).2=L.any (gr c):=by
 unfold pJ;rw[<-List.isSome_find?];cases L.find? (gr c)<;>rfl
def ym(L:List Site)(d:ak):Bool:= !L.any (gr d.A) || ((d.Kind==3)&& !L.any (gr d.B))
def DA(L:List Site)(ds:List ak)(s ok:Bool):Int:=bif !s || (!ok || ds.any fun d=> !eh d)then 1 else bif ds.any (ym L)then 4 else bif decide ((ds.length:Int)>8)then 3 else 0
theorem J2(d:ak):eG d=some (bif d.Kind==3 then[d.A,d.B]else[d.A]):=by
 unfold eG;cases (d.Kind==3)<;>rfl
theorem GM(L:List Site): ∃b,nj L=some b:=by
 unfold nj;cases bW (nt L) (fun _ _=>false) L 0 with
 | none=>exact⟨_,rfl⟩
 | some r=>exact⟨_,rfl⟩
theorem yj{L:List Site}{ds:List ak}(hL:L.length<=1048576)(h: ∀x∈L,yH x)(hd:ds.length<=1048576)(hds: ∀x∈ds,C5 x)(ok:Bool){s:Bool}(hs:nj L=some s):kn L ds ok=some (DA L ds s ok):=by
 unfold kn DA bV cj ng;rw[BJ hL h,hs,Option.bind_some,fE (by omega) (fun d=> !eh d) (fun i x hx=>by rw[ar,hx,Option.bind_some,DH x (hds x (List.mem_of_getElem? hx))];rfl),Option.bind_some,ki];cases s
 ·rfl
 ·cases ok
  ·rfl
  ·cases hany:(ds.any fun d=> !eh d)with
   | true=>rfl
   | false=>
    simp only[Bool.not_true,Bool.false_or,cond_false,Option.bind_some];obtain⟨h1,_,h3⟩:=lD hs;rw[jr (by omega) (ym L) 4 (fun i x hx=>by
     rw[ar,hx,Option.bind_some,J2,Option.bind_some];have hloop:=JN (L:=bif x.Kind==3 then[x.A,x.B]else[x.A]) (A:=Unit⊕(Unit⊕Int)) (D:=fun _=> .inl ()) (B:=fun(i13:Int) (_:Unit)=>((at' (bif x.Kind==3 then[x.A,x.B]else[x.A]) i13).bind fun x17=>((ec L x17).bind fun x18=>(bif(!x18.2)then some (.inr (.inr (.inr 4)))else some (.inl ()))))) (by cases (x.Kind==3)<;>simp) (fun c=> !L.any (gr c)) (.inr (.inr 4)) (fun j c hc=>by
      rw[ar,hc,Option.bind_some,o3 h3 h1 c,Option.bind_some,B9])
     rw[hloop];unfold ym;cases (x.Kind==3)<;>simp)]
    cases ds.any (ym L)<;>cases decide ((ds.length:Int)>8)<;>rfl
theorem yZ{L:List Site}{ds:List ak}(hL:L.length<=1048576)(h: ∀x∈L,yH x)(hd:ds.length<=1048576)(hds: ∀x∈ds,C5 x){s:Bool}(hs:nj L=some s):nP L ds=some (DA L ds s true):=by
 unfold nP DA;rw[Cu hL h,hs,Option.bind_some];cases s
 ·rfl
 ·simp only[Bool.not_true,cond_false,Bool.false_or];rw[jr (by omega) (fun d=> !eh d) 1 (fun i x hx=>by rw[ar,hx,Option.bind_some,D1 x (hds x (List.mem_of_getElem? hx))];rfl)];cases hany:(ds.any fun d=> !eh d)with
  | true=>rfl
  | false=>
   simp only[cond_false];rw[jr (by omega) (ym L) 4 (fun i x hx=>by
    have hm:=List.mem_of_getElem? hx;have hdx:eh x=true:=by
     have:=List.any_eq_false.1 hany x hm;simpa using this
    rw[ar,hx,Option.bind_some,tF hL,tF hL,Option.bind_some,p9,Option.bind_some,p9];unfold ym;have hB:(!(x.B.toList==tNo.toList))=(x.Kind==3):=by
     unfold eh at hdx;rw[Bool.and_eq_true]at hdx;have h4:=hdx.2;cases h2:(x.Kind==2)with
     | true=>
      rw[h2,cond_true]at h4;have hk:x.Kind=2:=by simpa using h2
      simp only[Bool.and_eq_true]at h4;have h5:(x.B.toList==tNo.toList)=true:=h4.2.2.2;rw[h5,hk];rfl
     | false=>
      rw[h2,cond_false]at h4;simp only[Bool.and_eq_true]at h4;have h5:=h4.2.2.2;cases h01:((x.Kind==0) || (x.Kind==1))with
      | true=>
       rw[h01,cond_true]at h5;have h6:(x.B.toList==tNo.toList)=true:=h5;rw[h6];have hk:x.Kind=0\/x.Kind=1:=by simpa using h01
       rcases hk with hk | hk<;>rw[hk]<;>rfl
      | false=>
       rw[h01,cond_false,Bool.and_eq_true,Bool.and_eq_true]at h5;rw[h5.1];have hcb:=h5.2.1;unfold jb at hcb;rw[Bool.and_eq_true]at hcb;have:=(rf hcb.1).1;rw[wq this];rfl
    rw[hB];cases L.any (gr x.A)<;>cases (x.Kind==3)<;>cases L.any (gr x.B)<;>rfl)]
   cases ds.any (ym L)<;>cases decide ((ds.length:Int)>8)<;>rfl
theorem getD_some{x:List ByteArray}{i:Nat}{b:ByteArray}(h:x[i]? =some b):x.getD i tNo=b:=by
 rw[List.getD_eq_getElem?_getD,h];rfl
theorem tC{x y:Int}{m n:Nat}(hx:x.natAbs<=m)(hy:y.natAbs<=n):(x*y).natAbs<=m*n:=by
 rw[Int.natAbs_mul];exact Nat.mul_le_mul hx hy
theorem bi{x:Int}(h:x.natAbs<=1000000000000000000):ap x=x:=bg (by omega) (by omega)
theorem ju{p:aF}(h:iZ p=true):p.X.natAbs<=1000/\p.Y.natAbs<=1000:=by
 unfold iZ at h;rw[Bool.and_eq_true,iU,iU]at h;omega
theorem qk(x:Int):0<=x*x:=by
 rcases Int.le_total 0 x with h | h
 ·exact Int.mul_nonneg h h
 ·have:=Int.mul_nonneg (a:= -x) (b:= -x) (by omega) (by omega)
  rwa [Int.neg_mul_neg]at this
def sqN(a p:aF):Int:=(a.X - p.X)*(a.X - p.X)+(a.Y - p.Y)*(a.Y - p.Y)
def tuN(a b c:aF):Int:=(b.X - a.X)*(c.Y - a.Y)-(b.Y - a.Y)*(c.X - a.X)
section
variable {a b p : aF}
theorem xx(ha:iZ a=true)(hp:iZ p=true):0<=sqN a p/\(sqN a p).natAbs<=8000000:=by
 have h1:=ju ha;have h2:=ju hp;have b1:=tC (x:=a.X - p.X) (y:=a.X - p.X) (m:=2000) (n:=2000) (by omega) (by omega);have b2:=tC (x:=a.Y - p.Y) (y:=a.Y - p.Y) (m:=2000) (n:=2000) (by omega) (by omega);have c1:=qk (a.X - p.X);have c2:=qk (a.Y - p.Y);unfold sqN;omega
theorem O7(ha:iZ a=true)(hp:iZ p=true):ap ((ap ((ap (a.X - p.X))*(ap (a.X - p.X))))+(ap ((ap (a.Y - p.Y))*(ap (a.Y - p.Y)))))=sqN a p:=by
 have h1:=ju ha;have h2:=ju hp;have b1:=tC (x:=a.X - p.X) (y:=a.X - p.X) (m:=2000) (n:=2000) (by omega) (by omega);have b2:=tC (x:=a.Y - p.Y) (y:=a.Y - p.Y) (m:=2000) (n:=2000) (by omega) (by omega);rw[bi (x:=a.X - p.X) (by omega),bi (x:=a.Y - p.Y) (by omega),bi (x:=(a.X - p.X)*(a.X - p.X)) (by omega),bi (x:=(a.Y - p.Y)*(a.Y - p.Y)) (by omega),bi (by omega)];rfl
theorem AN(ha:iZ a=true)(hp:iZ p=true):gf a p=some (sqN a p):=congrArg some (O7 ha hp)
theorem E4(ha:iZ a=true)(hp:iZ p=true):fT a p=some (sqN a p):=congrArg some (O7 ha hp)
theorem G4(ha:iZ a=true)(hb:iZ b=true)(hp:iZ p=true):(tuN a b p).natAbs<=8000000:=by
 have h1:=ju ha;have h2:=ju hp;have h3:=ju hb;have b1:=tC (x:=b.X - a.X) (y:=p.Y - a.Y) (m:=2000) (n:=2000) (by omega) (by omega);have b2:=tC (x:=b.Y - a.Y) (y:=p.X - a.X) (m:=2000) (n:=2000) (by omega) (by omega);unfold tuN;omega
theorem Pn(ha:iZ a=true)(hb:iZ b=true)(hp:iZ p=true):ap ((ap ((ap (b.X - a.X))*(ap (p.Y - a.Y))))-(ap ((ap (b.Y - a.Y))*(ap (p.X - a.X)))))=tuN a b p:=by
 have h1:=ju ha;have h2:=ju hp;have h3:=ju hb;have b1:=tC (x:=b.X - a.X) (y:=p.Y - a.Y) (m:=2000) (n:=2000) (by omega) (by omega);have b2:=tC (x:=b.Y - a.Y) (y:=p.X - a.X) (m:=2000) (n:=2000) (by omega) (by omega);rw[bi (x:=b.X - a.X) (by omega),bi (x:=b.Y - a.Y) (by omega),bi (x:=p.X - a.X) (by omega),bi (x:=p.Y - a.Y) (by omega),bi (x:=(b.X - a.X)*(p.Y - a.Y)) (by omega),bi (x:=(b.Y - a.Y)*(p.X - a.X)) (by omega),bi (by omega)];rfl
theorem M8(ha:iZ a=true)(hb:iZ b=true)(hp:iZ p=true):uv a b p=some (tuN a b p):=congrArg some (Pn ha hb hp)
theorem Ny(ha:iZ a=true)(hb:iZ b=true)(hp:iZ p=true):nK a b p=some (tuN a b p):=congrArg some (Pn ha hb hp)
end
def cN(x:Int):Int:=if x<0 then -x else x
theorem NN{x:Int}(h:x.natAbs<=1000000000):JT x (ap (0 - x))=cN x:=by
 rw[bi (by omega)];unfold JT cN;split<;>split<;>omega
theorem td{x:Int}(h:x.natAbs<=1000000000):mN x=some (cN x):=congrArg some (NN h)
theorem zJ{x:Int}(h:x.natAbs<=1000000000):ew x=some (cN x):=congrArg some (NN h)
def sgI(x:Int):Int:=if x<0 then -1 else if x=0 then 0 else 1
theorem EC(x:Int):nW x=some (sgI x):=by
 unfold nW sgI;congr 1;unfold JT sg;split<;>split<;>split<;>(try split)<;>omega
def NE(i j:Int):Int:=if i= -1 then(if j= -1 then 5 else if j=0 then 4 else 3)else if i=0 then(if j= -1 then 6 else if j=0 then 0 else 2)else(if j= -1 then 7 else if j=0 then 0 else 1)
theorem nY(x:Int):sgI x= -1\/sgI x=0\/sgI x=1:=by
 unfold sgI;split
 ·exact .inl rfl
 ·split
  ·exact .inr (.inl rfl)
  ·exact .inr (.inr rfl)
theorem Il(i j:Int)(hi:i= -1\/i=0\/i=1)(hj:j= -1\/j=0\/j=1):((Jm 3 (ap (i+1))).bind fun _=>((Jm 3 (ap (j+1))).bind fun _=>((MC 9 ((0+(Int.toNat (ap (i+1)))*3)+(Int.toNat (ap (j+1)))*1)).bind fun _=>some (I3 [5,4,3,6,0,2,7,0,1] ((0+(Int.toNat (ap (i+1)))*3)+(Int.toNat (ap (j+1)))*1)))))=some (NE i j):=by
 rw[bi (x:=i+1) (by omega),bi (x:=j+1) (by omega)];rcases hi with rfl | rfl | rfl<;>rcases hj with rfl | rfl | rfl<;>rfl
def px(x y:Int):Int:=if 2*cN x<cN y/\y>0 then 0 else if 2*cN x<cN y then 4 else if 2*cN y<cN x/\x>0 then 2 else if 2*cN y<cN x then 6 else if x>0/\y>0 then 1 else if x>0 then 3 else if y<0 then 5 else 7
theorem vF(x y:Int):0<=px x y/\px x y<=7:=by
 unfold px
 repeat' split
 all_goals omega
theorem yF{x:Int}(h:x>0):sgI x=1:=by unfold sgI;rw[if_neg (by omega),if_neg (by omega)]
theorem yD{x:Int}(h:x<0):sgI x= -1:=by unfold sgI;rw[if_pos h]
theorem OJ{x y:Int}(c1:2*cN x<cN y):NE (sgI y) (sgI 0)=px x y:=by
 have hy:y≠0:=fun h=>by
  subst h;unfold cN at c1;split at c1<;>simp at c1<;>omega
 unfold px;rcases Int.lt_or_gt_of_ne hy with h | h
 ·rw[if_neg (by omega),if_pos c1,yD h];rfl
 ·rw[if_pos ⟨c1,h⟩,yF h];rfl
theorem OK{x y:Int}(c1: ¬2*cN x<cN y)(c2:2*cN y<cN x):NE (sgI 0) (sgI x)=px x y:=by
 have hx:x≠0:=fun h=>by
  subst h;unfold cN at c2;split at c2<;>simp at c2<;>omega
 unfold px;rw[if_neg (fun h=>c1 h.1),if_neg c1];rcases Int.lt_or_gt_of_ne hx with h | h
 ·rw[if_neg (by omega),if_pos c2,yD h];rfl
 ·rw[if_pos ⟨c2,h⟩,yF h];rfl
theorem OL{x y:Int}(c1: ¬2*cN x<cN y)(c2: ¬2*cN y<cN x)(hz: ¬(x=0/\y=0)):NE (sgI y) (sgI x)=px x y:=by
 have ha: ∀z:Int,0<=cN z/\(cN z=0↔z=0):=fun z=>by unfold cN;split<;>omega
 have hx:=ha x;have hy:=ha y;have nx:x≠0:=fun h=>by
  have:=hx.2.2 h;have:cN y=0:=by omega
  exact hz ⟨h,hy.2.1 this⟩
 have ny:y≠0:=fun h=>by
  have:=hy.2.2 h;have:cN x=0:=by omega
  exact hz ⟨hx.2.1 this,h⟩
 unfold px;rw[if_neg (fun h=>c1 h.1),if_neg c1,if_neg (fun h=>c2 h.1),if_neg c2];rcases Int.lt_or_gt_of_ne nx with h | h<;>rcases Int.lt_or_gt_of_ne ny with k | k
 ·rw[yD h,yD k,if_neg (by omega),if_neg (by omega),if_pos k];rfl
 ·rw[yD h,yF k,if_neg (by omega),if_neg (by omega),if_neg (by omega)];rfl
 ·rw[yF h,yD k,if_neg (by omega),if_pos h];rfl
 ·rw[yF h,yF k,if_pos ⟨h,k⟩];rfl
section
variable {a p : aF}
theorem FX(ha:iZ a=true)(hp:iZ p=true)(hne: ¬(p.X=a.X/\p.Y=a.Y)):jg a p=some (px (p.X - a.X) (p.Y - a.Y)):=by
 have h1:=ju ha;have h2:=ju hp;unfold jg;rw[bi (x:=p.X - a.X) (by omega),bi (x:=p.Y - a.Y) (by omega)];have hx:(p.X - a.X).natAbs<=2000:=by omega
 have hy:(p.Y - a.Y).natAbs<=2000:=by omega
 have hz: ¬(p.X - a.X=0/\p.Y - a.Y=0):=by omega
 generalize p.X - a.X=x at*;generalize p.Y - a.Y=y at*;have ax:(cN x).natAbs<=2000:=by unfold cN;split<;>omega
 have ay:(cN y).natAbs<=2000:=by unfold cN;split<;>omega
 simp only[td (show x.natAbs<=1000000000 by omega),td (show y.natAbs<=1000000000 by omega),Option.bind_some,bi (show(2*cN x).natAbs<=1000000000000000000 by omega),bi (show(2*cN y).natAbs<=1000000000000000000 by omega)];by_cases c1:2*cN x<cN y
 ·simp only[decide_eq_true c1,cond_true,Option.bind_some,EC];rw[Il _ _ (nY _) (nY _),OJ c1]
 ·simp only[decide_eq_false c1,cond_false];by_cases c2:2*cN y<cN x
  ·simp only[decide_eq_true c2,cond_true,Option.bind_some,EC];rw[Il _ _ (nY _) (nY _),OK c1 c2]
  ·simp only[decide_eq_false c2,cond_false,Option.bind_some,EC];rw[Il _ _ (nY _) (nY _),OL c1 c2 hz]
theorem GR(ha:iZ a=true)(hp:iZ p=true):cX a p=some (px (p.X - a.X) (p.Y - a.Y)):=by
 have h1:=ju ha;have h2:=ju hp;unfold cX;rw[bi (x:=p.X - a.X) (by omega),bi (x:=p.Y - a.Y) (by omega)];have hx:(p.X - a.X).natAbs<=2000:=by omega
 have hy:(p.Y - a.Y).natAbs<=2000:=by omega
 generalize p.X - a.X=x at*;generalize p.Y - a.Y=y at*;have ax:(cN x).natAbs<=2000:=by unfold cN;split<;>omega
 have ay:(cN y).natAbs<=2000:=by unfold cN;split<;>omega
 simp only[zJ (show x.natAbs<=1000000000 by omega),zJ (show y.natAbs<=1000000000 by omega),Option.bind_some,bi (show(2*cN x).natAbs<=1000000000000000000 by omega),bi (show(2*cN y).natAbs<=1000000000000000000 by omega)];unfold px;by_cases c1:2*cN x<cN y<;>by_cases c2:2*cN y<cN x<;>by_cases c3:x>0<;>by_cases c4:y>0<;>by_cases c5:y<0<;>simp[c1,c2,c3,c4,c5]
end

theorem Ex(s p:ByteArray):strings_HasPrefix s p=some (decide (p.size<=s.size)&&(s.data.toList.take p.size==p.data.toList)):=by
 unfold strings_HasPrefix ci;by_cases h:p.size<=s.size
 ·rw[decide_eq_true (show(s.size:Int)>=(p.size:Int) by omega),decide_eq_true h];have:=y5 (s:=s) (a:=0) (b:=p.size) (Nat.zero_le _) h;rw[show((0:Nat):Int)=0 from rfl]at this;simp only[cond_true,this,Option.bind_some,toList_eq,List.drop_zero,Nat.sub_zero,Bool.true_and]
 ·rw[decide_eq_false (show ¬(s.size:Int)>=(p.size:Int) by omega),decide_eq_false h];rfl
theorem HK(d:ak)(hu:pu d.Unit d.Count=true)(h1:1<=d.Count)(h2:d.Count<=99):eT d=some (d.Count*kA d.Unit d.Count):=by
 unfold eT;rw[Ex,Option.bind_some];unfold pu kA at*;have e1:ap (4*d.Count)=d.Count*4:=by rw[bi (by omega)];omega
 have e2:ap (12*d.Count)=d.Count*12:=by rw[bi (by omega)];omega
 cases hc:(d.Count==1)
 ·rw[hc,cond_false,Bool.or_eq_true,fm,fm]at hu;rcases hu with hu | hu
  ·rw[hu,show(decide (jY.size<=pN.size)&&(pN.data.toList.take jY.size==jY.data.toList))=true from rfl,fm.2 rfl];simp only[cond_true,cond_false,e1]
  ·have:(kz.toList==pN.toList)=false:=by rw[DX,I5];rfl
   rw[hu,show(decide (jY.size<=kz.size)&&(kz.data.toList.take jY.size==jY.data.toList))=false from rfl,fm.2 rfl,this];simp only[cond_true,cond_false,e2]
 ·rw[hc,cond_true,Bool.or_eq_true,fm,fm]at hu;rcases hu with hu | hu
  ·rw[hu,show(decide (jY.size<=jY.size)&&(jY.data.toList.take jY.size==jY.data.toList))=true from rfl,fm.2 rfl];simp only[cond_true,e1]
  ·have:(mE.toList==jY.toList)=false:=by rw[GA,LK];rfl
   rw[hu,show(decide (jY.size<=mE.size)&&(mE.data.toList.take jY.size==jY.data.toList))=false from rfl,fm.2 rfl,this];simp only[cond_true,cond_false,e2]
def vV(a p:aF):Bool:=(p.X==a.X)&&(p.Y==a.Y)
theorem LR{a p:aF}(h:vV a p=false): ¬(p.X=a.X/\p.Y=a.Y):=by
 unfold vV at h;rw[Bool.and_eq_false_iff]at h;simp only[beq_eq_false_iff_ne]at h;omega
def C4(x y:Int):Int:=(x - y) % 8
def EL(t:Int):Bool:=(t==0) || ((t==1) || (t==7))
def FR(d:ak)(a p:aF):Bool:= !vV a p&&(inB (16*sqN a p) (9*(d.Count*kA d.Unit d.Count)*(d.Count*kA d.Unit d.Count)) (25*(d.Count*kA d.Unit d.Count)*(d.Count*kA d.Unit d.Count))&&EL (C4 (px (p.X - a.X) (p.Y - a.Y)) d.Direction))
theorem Mk(u:ByteArray)(c:Int):0<=kA u c/\kA u c<=12:=by
 unfold kA;cases (c==1)<;>simp only[cond_true,cond_false]
 ·cases (u.toList==pN.toList)<;>cases (u.toList==kz.toList)<;>simp
 ·cases (u.toList==jY.toList)<;>cases (u.toList==mE.toList)<;>simp
theorem Ls{x y:Int}(hx:0<=x/\x<=7)(hy:0<=y/\y<=7):Int.tmod (ap ((ap (x - y))+8)) 8=C4 x y:=by
 rw[bi (x:=x - y) (by omega),bi (by omega),Int.tmod_eq_emod_of_nonneg (by omega)];unfold C4;omega
theorem Lt{x y:Int}(hx:0<=x/\x<=7)(hy:0<=y/\y<=7):mU (ap (x - y)) 8=some (C4 x y):=by
 unfold mU;rw[O0 (by decide),Option.bind_some,Option.bind_some,bi (x:=x - y) (by omega)];congr 1;unfold C4;have h1:Int.tmod (x - y) 8=x - y:=by
  rcases Int.le_total 0 (x - y)with h | h
  ·rw[Int.tmod_eq_emod_of_nonneg h];omega
  ·have:=Int.neg_tmod (x - y) 8;have h2:Int.tmod (-(x - y)) 8= -(x - y):=by rw[Int.tmod_eq_emod_of_nonneg (by omega)];omega
   rw[h2]at this;omega
 rw[h1,bi (by omega),Int.tmod_eq_emod_of_nonneg (by omega)];omega
section
variable {a b p : aF} {d : ak}
theorem D7(hu:1<=d.Count/\d.Count<=99):0<=d.Count*kA d.Unit d.Count/\(d.Count*kA d.Unit d.Count).natAbs<=1188:=by
 have h:=Mk d.Unit d.Count;exact⟨Int.mul_nonneg (by omega) h.1,tC (m:=99) (n:=12) (by omega) (by omega)⟩
theorem JG(ha:iZ a=true)(hp:iZ p=true)(hu:pu d.Unit d.Count=true)(h1:1<=d.Count/\d.Count<=99)(h2:0<=d.Direction/\d.Direction<=7):df d a p=some (FR d a p):=by
 unfold df FR;obtain⟨w0,w1⟩:=D7 h1;obtain⟨s0,s1⟩:=xx ha hp;rw[HK d hu h1.1 h1.2,Option.bind_some,AN ha hp,Option.bind_some,show((p.X==a.X)&&(p.Y==a.Y))=vV a p from rfl];generalize hn:d.Count*kA d.Unit d.Count=n at*;have b1:=tC (x:=9*n) (y:=n) (m:=10692) (n:=1188) (by omega) (by omega);have b2:=tC (x:=25*n) (y:=n) (m:=29700) (n:=1188) (by omega) (by omega);rw[bi (x:=16*sqN a p) (by omega),bi (x:=9*n) (by omega),bi (x:=25*n) (by omega),bi (x:=9*n*n) (by omega),bi (x:=25*n*n) (by omega),fU];cases hs:vV a p with
 | true=>rfl
 | false=>
  rw[FX ha hp (LR hs)];simp only[cond_false,Option.bind_some,Ls (vF _ _) h2];cases inB (16*sqN a p) (9*n*n) (25*n*n)<;>rfl
theorem Cb(ha:iZ a=true)(hp:iZ p=true)(h1:1<=d.Count/\d.Count<=99)(h2:0<=d.Direction/\d.Direction<=7){R:Type}:
  (bif((decide ((ap (16*sqN a p))<(ap ((ap (9*(ap (d.Count*kA d.Unit d.Count))))*(ap (d.Count*kA d.Unit d.Count)))))) || ((decide ((ap (16*sqN a p))>(ap ((ap (25*(ap (d.Count*kA d.Unit d.Count))))*(ap (d.Count*kA d.Unit d.Count)))))) || ((p.X==a.X)&&(p.Y==a.Y))))then some (Sum.inr false:R⊕Bool)else((cX a p).bind fun x7=>((mU (ap (x7 - d.Direction)) 8).bind fun x8=>some (.inr ((x8==0) || ((x8==1) || (x8==7)))))))=some (.inr (FR d a p)):=by
 obtain⟨w0,w1⟩:=D7 h1;obtain⟨s0,s1⟩:=xx ha hp;unfold FR;rw[show((p.X==a.X)&&(p.Y==a.Y))=vV a p from rfl];generalize hn:d.Count*kA d.Unit d.Count=n at*;have b1:=tC (x:=9*n) (y:=n) (m:=10692) (n:=1188) (by omega) (by omega);have b2:=tC (x:=25*n) (y:=n) (m:=29700) (n:=1188) (by omega) (by omega);rw[bi (x:=16*sqN a p) (by omega),bi (x:=n) (by omega),bi (x:=9*n) (by omega),bi (x:=25*n) (by omega),bi (x:=9*n*n) (by omega),bi (x:=25*n*n) (by omega),GR ha hp,Option.bind_some,Lt (vF _ _) h2,Option.bind_some];rw[show inB (16*sqN a p) (9*n*n) (25*n*n)= !(decide (16*sqN a p<9*n*n) || decide (16*sqN a p>25*n*n)) by
  rw[Bool.eq_iff_iff,iU];simp<;>omega]
 rw[show((C4 (px (p.X - a.X) (p.Y - a.Y)) d.Direction==0) || ((C4 (px (p.X - a.X) (p.Y - a.Y)) d.Direction==1) || (C4 (px (p.X - a.X) (p.Y - a.Y)) d.Direction==7)))=EL (C4 (px (p.X - a.X) (p.Y - a.Y)) d.Direction)from rfl];generalize decide (16*sqN a p<9*n*n)=q1;generalize decide (16*sqN a p>25*n*n)=q2;generalize EL (C4 (px (p.X - a.X) (p.Y - a.Y)) d.Direction)=q3;cases q1<;>cases q2<;>cases vV a p<;>cases q3<;>rfl
def Ed(a b p:aF):Int:=(p.X - a.X)*(b.X - a.X)+(p.Y - a.Y)*(b.Y - a.Y)
def Fo(a b p:aF):Bool:=bif vV b a then vV a p else inB (Ed a b p) 0 (sqN a b)&&decide (4*cN (tuN a b p)<=sqN a b)
theorem Iz(ha:iZ a=true)(hb:iZ b=true)(hp:iZ p=true):ap ((ap ((ap (p.X - a.X))*(ap (b.X - a.X))))+(ap ((ap (p.Y - a.Y))*(ap (b.Y - a.Y)))))=Ed a b p:=by
 have h1:=ju ha;have h2:=ju hp;have h3:=ju hb;have b1:=tC (x:=p.X - a.X) (y:=b.X - a.X) (m:=2000) (n:=2000) (by omega) (by omega);have b2:=tC (x:=p.Y - a.Y) (y:=b.Y - a.Y) (m:=2000) (n:=2000) (by omega) (by omega);rw[bi (x:=p.X - a.X) (by omega),bi (x:=b.X - a.X) (by omega),bi (x:=p.Y - a.Y) (by omega),bi (x:=b.Y - a.Y) (by omega),bi (x:=(p.X - a.X)*(b.X - a.X)) (by omega),bi (x:=(p.Y - a.Y)*(b.Y - a.Y)) (by omega),bi (by omega)];rfl
theorem JE(ha:iZ a=true)(hb:iZ b=true)(hp:iZ p=true):jh a b p=some (Fo a b p):=by
 unfold jh Fo;have ht:=G4 ha hb hp;have hab:(cN (tuN a b p)).natAbs<=8000000:=by unfold cN;split<;>omega
 rw[show((a.X==b.X)&&(a.Y==b.Y))=vV b a from rfl,Iz ha hb hp,AN ha hb,M8 ha hb hp];simp only[Option.bind_some,fU,td (show(tuN a b p).natAbs<=1000000000 by omega),bi (show(4*cN (tuN a b p)).natAbs<=1000000000000000000 by omega)];cases vV b a
 ·cases inB (Ed a b p) 0 (sqN a b)<;>rfl
 ·rfl
theorem O6(t A:Int)(hA:0<=A):decide (16*t*t<=A*A)=decide (4*cN t<=A):=by
 have e1:16*t*t=(4*cN t)*(4*cN t):=by
  have:cN t*cN t=t*t:=by
   unfold cN;split
   ·rw[Int.neg_mul_neg]
   ·rfl
  rw[show(4*cN t)*(4*cN t)=16*(cN t*cN t) by rw[Int.mul_assoc,show cN t*(4*cN t)=4*(cN t*cN t)from Int.mul_left_comm _ _ _];omega,this,Int.mul_assoc]
 have h0:0<=4*cN t:=by unfold cN;split<;>omega
 rw[e1];generalize 4*cN t=x at*;obtain⟨m,rfl⟩:=Int.eq_ofNat_of_zero_le h0;obtain⟨n,rfl⟩:=Int.eq_ofNat_of_zero_le hA;rw[decide_eq_decide];constructor
 ·intro h;have h2:m*m<=n*n:=by exact_mod_cast h
  have:=Nat.mul_self_le_mul_self_iff.1 h2;omega
 ·intro h;have h2:m<=n:=by omega
  have:=Nat.mul_self_le_mul_self h2
  exact_mod_cast this
theorem Kc(ha:iZ a=true)(hb:iZ b=true)(hp:iZ p=true):kI a b p=some (Fo a b p):=by
 unfold kI Fo;have ht:=G4 ha hb hp;obtain⟨s0,s1⟩:=xx ha hb;have b1:=tC (x:=16*tuN a b p) (y:=tuN a b p) (m:=128000000) (n:=8000000) (by omega) (by omega);have b2:=tC (x:=sqN a b) (y:=sqN a b) (m:=8000000) (n:=8000000) (by omega) (by omega);rw[show((a.X==b.X)&&(a.Y==b.Y))=vV b a from rfl,Iz ha hb hp,E4 ha hb,Ny ha hb hp];simp only[Option.bind_some,jo];rw[bi (x:=16*tuN a b p) (by omega),bi (x:=16*tuN a b p*tuN a b p) (by omega),bi (x:=sqN a b*sqN a b) (by omega),O6 _ _ s0];cases vV b a
 ·cases inB (Ed a b p) 0 (sqN a b)<;>rfl
 ·rfl
end
def Nw(L:List Site)(d:ak)(p:aF):Bool:=
 let a:=(pJ L d.A).1
 bif d.Kind==0 then vV a p else bif d.Kind==1 then decide (sqN a p<=64)else bif d.Kind==2 then FR d a p else Fo a (pJ L d.B).1 p
theorem uL{L:List Site}{c:ByteArray}(h:L.any (gr c)=true): ∃s,s∈L/\at' L (gX (gr c) L)=some s/\pJ L c=(s.At,true):=by
 rcases wH (gr c) L with⟨_,h2⟩ | ⟨i,x,h1,h2,h3⟩
 ·rw[<-List.isSome_find?,h2]at h;cases h
 ·refine⟨x,List.mem_of_getElem? h2,by rw[h1,ar,h2],?_⟩;unfold pJ;rw[h3]
theorem nV{d:ak}(h:eh d=true)(hk:d.Kind=2):pu d.Unit d.Count=true/\(1<=d.Count/\d.Count<=99)/\0<=d.Direction/\d.Direction<=7:=by
 unfold eh at h;rw[hk,show((2:Int)==2)=true from rfl,cond_true]at h;simp only[Bool.and_eq_true,iU]at h;exact⟨h.2.2.1,h.2.1,h.2.2.2.1⟩
theorem l9{d:ak}(h:eh d=true):d.Kind=0\/d.Kind=1\/d.Kind=2\/d.Kind=3:=by
 unfold eh at h;cases h2:(d.Kind==2)
 ·rw[h2,cond_false]at h;simp only[Bool.and_eq_true]at h;have h5:=h.2.2.2.2;cases h01:((d.Kind==0) || (d.Kind==1))with
  | true=>
   simp only[Bool.or_eq_true,beq_iff_eq]at h01;omega
  | false=>
   rw[h01,cond_false,Bool.and_eq_true]at h5;have:d.Kind=3:=by simpa using h5.1
   omega
 ·have:d.Kind=2:=by simpa using h2
  omega
section
variable {L : List Site} {d : ak} {p : aF}
theorem K6(hL:L.length<=10)(hs:Ib L)(hpt: ∀x∈L,jb x.Code=true/\iZ x.At=true)(hd:eh d=true)(hl:ym L d=false)(hp:iZ p=true):ly L d p=some (Nw L d p):=by
 unfold ym at hl;rw[Bool.or_eq_false_iff]at hl;obtain⟨sA,mA,_,eA⟩:=uL (L:=L) (c:=d.A) (by simpa using hl.1);have pA:=(hpt sA mA).2;unfold ly Nw;rw[o3 hL hs,o3 hL hs,Option.bind_some,eA,AN pA hp];simp only[Option.bind_some];rw[show((p.X==sA.At.X)&&(p.Y==sA.At.Y))=vV sA.At p from rfl];rcases l9 hd with hk | hk | hk | hk
 ·rw[hk];rfl
 ·rw[hk];rfl
 ·obtain⟨h1,h2,h3⟩:=nV hd hk;rw[JG pA hp h1 h2 h3,hk];rfl
 ·obtain⟨sB,mB,_,eB⟩:=uL (L:=L) (c:=d.B) (by rw[hk]at hl;simpa using hl.2);have pB:=(hpt sB mB).2;rw[eB,JE pA pB hp,hk];rfl
theorem L2(hL:L.length<=10)(hpt: ∀x∈L,jb x.Code=true/\iZ x.At=true)(hu:d.Unit.size<=1048576)(hd:eh d=true)(hl:ym L d=false)(hp:iZ p=true):gq L d p=some (Nw L d p):=by
 unfold ym at hl;rw[Bool.or_eq_false_iff]at hl;obtain⟨sA,mA,aA,eA⟩:=uL (L:=L) (c:=d.A) (by simpa using hl.1);have pA:=(hpt sA mA).2;unfold gq Nw;rw[tF (by omega),tF (by omega),Option.bind_some,aA,Option.bind_some,eA,E4 pA hp,Option.bind_some];rcases l9 hd with hk | hk | hk | hk
 ·rw[hk];rfl
 ·rw[hk];rfl
 ·obtain⟨h1,h2,h3⟩:=nV hd hk;rw[D2 d.Unit d.Count hu,Option.bind_some,Cb pA hp h2 h3,hk];rfl
 ·obtain⟨sB,mB,aB,eB⟩:=uL (L:=L) (c:=d.B) (by rw[hk]at hl;simpa using hl.2);have pB:=(hpt sB mB).2;simp only[Option.bind_some,aB];rw[eB,Kc pA pB hp,hk];rfl
end
abbrev tAt:ByteArray:=ByteArray.mk #[97,116]
abbrev nB:ByteArray:=ByteArray.mk #[110,101,97,114]
abbrev sk:ByteArray:=ByteArray.mk #[98,101,116,119,101,101,110]
abbrev vj:ByteArray:=ByteArray.mk #[97,110,100]
abbrev tOf:ByteArray:=ByteArray.mk #[111,102]
def lV(i:Int):ByteArray:=cQ.getD i.toNat tNo
theorem y9{i:Int}(h0:0<=i)(h7:i<=7):at' cQ i=some (lV i)/\(lV i).size<=9/\32∉(lV i).data.toList/\gX (fun x:ByteArray=>x.toList==(lV i).toList) cQ=i:=by
 obtain⟨m,rfl⟩:=Int.eq_ofNat_of_zero_le h0;have hm:m<8:=by omega
 have h9: ∀k:Fin 8,(cQ.getD k.val tNo).size<=9/\32∉(cQ.getD k.val tNo).data.toList:=by decide
 have hl:cQ.length=8:=rfl;have hd: ∀i j:Fin 8,((cQ.getD i.val tNo).data.toList==(cQ.getD j.val tNo).data.toList)=decide (i=j):=by decide
 have h1:=h9 ⟨m,hm⟩;have hget: ∀(k:Nat) (h:k<cQ.length),cQ.getD k tNo=cQ[k]:=fun k h=>by
  rw[List.getD_eq_getElem?_getD,List.getElem?_eq_getElem h];rfl
 refine⟨?_,h1.1,h1.2,?_⟩
 ·rw[ar,List.getElem?_eq_getElem (by omega),<-hget m (by omega)];rfl
 ·have key: ∀(L:List ByteArray) (p:ByteArray->Bool) (m:Nat),m<L.length->(∀k,k<L.length->p (L.getD k tNo)=decide (k=m))->gX p L=(m:Int):=by
   intro L p
   induction L with
   | nil=>intro m h;simp at h
   | cons x L ih=>
    intro m hm hp;unfold gX;have h0:=hp 0 (by simp);rw[List.getD_cons_zero]at h0;rw[h0];cases m with
    | zero=>rfl
    | succ m=>
     have:=ih m (by simpa using hm) (fun k hk=>by
      have:=hp (k+1) (by simpa using hk);rw[List.getD_cons_succ]at this;rw[this];simp)
     rw[decide_eq_false (by omega),cond_false];dsimp only;rw[this,decide_eq_false (by omega),cond_false];omega
  refine key cQ _ m (by omega) fun k hk=> ?_;have:=hd ⟨k,by omega⟩ ⟨m,hm⟩;simp only[Fin.mk.injEq]at this;rw[<-this,toList_eq,toList_eq];rfl
theorem BL(s:ByteArray):cS cQ s=some (gX (fun x:ByteArray=>x.toList==s.toList) cQ):=by
 unfold cS;rw[fE (by decide) (fun x:ByteArray=>s.toList==x.toList) (fun i x hx=>by rw[ar,hx];rfl)];congr 2;funext x;exact BEq.comm
def qR(d:ak):List ByteArray:=bif d.Kind==0 then[tAt,d.A]else bif d.Kind==1 then[nB,d.A]else bif d.Kind==2 then[cw d.Count,d.Unit,lV d.Direction,tOf,d.A]else[sk,d.A,vj,d.B]
def uf(d:ak):ByteArray:=dN (qR d) (ByteArray.mk #[32])
theorem kL{d:ak}(h:eh d=true)(hk:d.Kind≠2):d.Count=0/\d.Unit=tNo/\d.Direction=0/\(d.Kind=3->jb d.B=true)/\(d.Kind≠3->d.B=tNo):=by
 unfold eh at h;rw[Bool.and_eq_true,beq_eq_false_iff_ne.2 hk,cond_false,Bool.and_eq_true,Bool.and_eq_true,Bool.and_eq_true,beq_iff_eq,beq_iff_eq]at h;obtain⟨_,h1,h2,h3,h4⟩:=h;refine⟨h1,fm.1 h2,h3,fun h5=> ?_,fun h5=> ?_⟩
 ·rw[h5]at h4;have h4:((3:Int)==3&&(jb d.B&& !(d.A.toList==d.B.toList)))=true:=h4;rw[Bool.and_eq_true,Bool.and_eq_true]at h4;exact h4.2.1
 ·cases hb:(d.Kind==0) || (d.Kind==1)
  ·rw[hb,cond_false,beq_eq_false_iff_ne.2 h5]at h4;cases h4
  ·rw[hb,cond_true]at h4;exact fm.1 h4
theorem DB{s:ByteArray}(h:jb s=true):cR s=true:=by
 unfold jb at h;rw[Bool.and_eq_true]at h;exact h.1
theorem Jy{d:ak}(h:eh d=true):cR d.A=true:=by
 unfold eh at h;rw[Bool.and_eq_true]at h;exact DB h.1
theorem Bo{d:ak}(h:eh d=true)(hk:d.Kind=2):d.B=tNo:=by
 unfold eh at h;rw[Bool.and_eq_true,hk]at h;have h2:=h.2;have h2:(inB d.Count 1 99&&(pu d.Unit d.Count&&(inB d.Direction 0 7&&noB d.B)))=true:=h2;rw[Bool.and_eq_true,Bool.and_eq_true,Bool.and_eq_true]at h2;exact fm.1 h2.2.2.2
theorem NK{u:ByteArray}{c:Int}(h:pu u c=true):32∉u.data.toList/\u.size<=7:=by
 have key: ∀t∈[jY,pN,mE,kz],32∉t.data.toList/\t.size<=7:=by decide
 unfold pu at h;cases hc:(c==1)<;>rw[hc]at h
 ·have h:((u.toList==pN.toList) || (u.toList==kz.toList))=true:=h;rw[Bool.or_eq_true]at h;rcases h with h | h<;>rw[fm.1 h]<;>exact key _ (by simp)
 ·have h:((u.toList==jY.toList) || (u.toList==mE.toList))=true:=h;rw[Bool.or_eq_true]at h;rcases h with h | h<;>rw[fm.1 h]<;>exact key _ (by simp)
theorem NS{d:ak}(h:eh d=true)(hz:C5 d):ga d=some (uf d)/\nO d=some (uf d):=by
 have ha:=hz.a;have hb:=hz.b;have hu:=hz.u;have z1:(ByteArray.mk #[97,116,32]).size=3:=rfl;have z2:(ByteArray.mk #[110,101,97,114,32]).size=5:=rfl;have z3:(ByteArray.mk #[98,101,116,119,101,101,110,32]).size=8:=rfl;have z4:(ByteArray.mk #[32,97,110,100,32]).size=5:=rfl;have z5:(ByteArray.mk #[32]).size=1:=rfl;have z6:(ByteArray.mk #[32,111,102,32]).size=4:=rfl;unfold ga nO uf qR;rcases l9 h with hk | hk | hk | hk
 ·have e:ByteArray.mk #[97,116,32]++d.A=dN [tAt,d.A] (ByteArray.mk #[32]):=l6 (by
   rw[fC,gL,dU,dU,dU];rfl)
  have k0:((0:Int)==0)=true:=rfl;simp only[hk,k0,cond_true];rw[bZ (by omega),e];exact⟨rfl,rfl⟩
 ·have e:ByteArray.mk #[110,101,97,114,32]++d.A=dN [nB,d.A] (ByteArray.mk #[32]):=l6 (by
   rw[fC,gL,dU,dU,dU];rfl)
  have k0:((1:Int)==0)=false:=rfl;have k1:((1:Int)==1)=true:=rfl;simp only[hk,k0,k1,cond_true,cond_false];rw[bZ (by omega),e];exact⟨rfl,rfl⟩
 ·obtain⟨_,h1,h2⟩:=nV h hk;obtain⟨w1,w2,_,_⟩:=y9 h2.1 h2.2;have z7:=cq (v:=d.Count) (by omega) (by omega);have hw:gp d.Direction=some (lV d.Direction):=by
   show((at' cQ d.Direction).bind fun x1=>some x1)=_;rw[w1];rfl
  have e:cw d.Count++ByteArray.mk #[32]++d.Unit++ByteArray.mk #[32]++lV d.Direction++ByteArray.mk #[32,111,102,32]++d.A=dN [cw d.Count,d.Unit,lV d.Direction,tOf,d.A] (ByteArray.mk #[32]):=l6 (by
   simp only[fC,gL,dU,List.append_assoc];rfl)
  have k0:((2:Int)==0)=false:=rfl;have k1:((2:Int)==1)=false:=rfl;have k2:((2:Int)==2)=true:=rfl;rw[hk,kl d.Count (by omega) (by omega),lG (v:=d.Count) (by omega) (by omega),w1,hw];simp only[k0,k1,k2,cond_true,cond_false,Option.bind_some];rw[bZ (by omega)];simp only[Option.bind_some];rw[bZ (by simp only[ByteArray.size_append];omega)];simp only[Option.bind_some];rw[bZ (by simp only[ByteArray.size_append];omega)];simp only[Option.bind_some];rw[bZ (by simp only[ByteArray.size_append];omega)];simp only[Option.bind_some];rw[bZ (by simp only[ByteArray.size_append];omega)];simp only[Option.bind_some];rw[bZ (by simp only[ByteArray.size_append];omega),e];exact⟨rfl,rfl⟩
 ·have e:ByteArray.mk #[98,101,116,119,101,101,110,32]++d.A++ByteArray.mk #[32,97,110,100,32]++d.B=dN [sk,d.A,vj,d.B] (ByteArray.mk #[32]):=l6 (by
   simp only[fC,gL,dU,List.append_assoc];rfl)
  have k0:((3:Int)==0)=false:=rfl;have k1:((3:Int)==1)=false:=rfl;have k2:((3:Int)==2)=false:=rfl;rw[hk];simp only[k0,k1,k2,cond_false,Option.bind_some,Sum.elim_inl];rw[bZ (by omega)];simp only[Option.bind_some];rw[bZ (by simp only[ByteArray.size_append];omega)];simp only[Option.bind_some];rw[bZ (by simp only[ByteArray.size_append];omega),e];exact⟨rfl,rfl⟩
theorem Bp{d:ak}(h:eh d=true):aZ (uf d) 32=qR d:=by
 have hs:small 32=false:=by decide
 have hA:=qv (Jy h) hs;have c1:(32:UInt8)∉tAt.data.toList:=by decide
 have c2:(32:UInt8)∉nB.data.toList:=by decide
 have c3:(32:UInt8)∉sk.data.toList:=by decide
 have c4:(32:UInt8)∉vj.data.toList:=by decide
 have c5:(32:UInt8)∉tOf.data.toList:=by decide
 unfold uf;refine pn ?_ ?_
 ·unfold qR;rcases l9 h with hk | hk | hk | hk<;>rw[hk]<;>exact List.cons_ne_nil _ _
 ·intro x hx;unfold qR at hx;rcases l9 h with hk | hk | hk | hk<;>rw[hk]at hx
  ·have hx:x∈[tAt,d.A]:=hx;simp only[List.mem_cons,List.not_mem_nil,or_false]at hx;rcases hx with rfl | rfl<;>assumption
  ·have hx:x∈[nB,d.A]:=hx;simp only[List.mem_cons,List.not_mem_nil,or_false]at hx;rcases hx with rfl | rfl<;>assumption
  ·obtain⟨h1,h2,h3⟩:=nV h hk;have hx:x∈[cw d.Count,d.Unit,lV d.Direction,tOf,d.A]:=hx;simp only[List.mem_cons,List.not_mem_nil,or_false]at hx;rcases hx with rfl | rfl | rfl | rfl | rfl
   ·exact ow (by decide) (by decide) _
   ·exact(NK h1).1
   ·exact(y9 h3.1 h3.2).2.2.1
   ·exact c5
   ·exact hA
  ·have hB:=qv (DB ((kL h (by omega)).2.2.2.1 hk)) hs;have hx:x∈[sk,d.A,vj,d.B]:=hx;simp only[List.mem_cons,List.not_mem_nil,or_false]at hx;rcases hx with rfl | rfl | rfl | rfl<;>assumption
theorem mI{d:ak}{k c w:Int}{u a b:ByteArray}(h1:d.Kind=k)(h2:d.Count=c)(h3:d.Unit=u)(h4:d.Direction=w)(h5:d.A=a)(h6:d.B=b):ak.mk k c u w a b=d:=by
 cases d;simp only at h1 h2 h3 h4 h5 h6;rw[h1,h2,h3,h4,h5,h6]
abbrev Lm:ak:=ak.mk 0 0 (ByteArray.mk #[]) 0 (ByteArray.mk #[]) (ByteArray.mk #[])
theorem LF{d:ak}(h:eh d=true):bj (qR d)=some d:=by
 have f1:(nB.toList==tAt.toList)=false:=by rw[toList_eq,toList_eq];rfl
 unfold qR;rcases l9 h with hk | hk | hk | hk
 ·obtain⟨d1,d2,d3,_,d4⟩:=kL h (by omega);have e:=mI hk d1 d2 d3 rfl (d4 (by omega));rw[hk];show bj [tAt,d.A]=_;unfold bj;have a0:at' [tAt,d.A] 0=some tAt:=rfl;have a1:at' [tAt,d.A] 1=some d.A:=rfl;have l2:((([tAt,d.A]:List ByteArray).length:Int)==2)=true:=rfl;simp only[a0,a1,l2,cond_true,Option.bind_some,beq_self_eq_true,Sum.elim_inr];exact congrArg some e
 ·obtain⟨d1,d2,d3,_,d4⟩:=kL h (by omega);have e:=mI hk d1 d2 d3 rfl (d4 (by omega));rw[hk];show bj [nB,d.A]=_;unfold bj;have a0:at' [nB,d.A] 0=some nB:=rfl;have a1:at' [nB,d.A] 1=some d.A:=rfl;have l2:((([nB,d.A]:List ByteArray).length:Int)==2)=true:=rfl;simp only[a0,a1,l2,f1,cond_true,cond_false,Option.bind_some,beq_self_eq_true,Sum.elim_inr];exact congrArg some e
 ·obtain⟨h1,h2,h3⟩:=nV h hk;have z:=cq (v:=d.Count) (by omega) (by omega);have e:=mI hk rfl rfl rfl rfl (Bo h hk);rw[hk];show bj [cw d.Count,d.Unit,lV d.Direction,tOf,d.A]=_;unfold bj;have a0:at' [cw d.Count,d.Unit,lV d.Direction,tOf,d.A] 0=some (cw d.Count):=rfl;have a1:at' [cw d.Count,d.Unit,lV d.Direction,tOf,d.A] 1=some d.Unit:=rfl;have a2:at' [cw d.Count,d.Unit,lV d.Direction,tOf,d.A] 2=some (lV d.Direction):=rfl;have a4:at' [cw d.Count,d.Unit,lV d.Direction,tOf,d.A] 4=some d.A:=rfl;have l2:((([cw d.Count,d.Unit,lV d.Direction,tOf,d.A]:List ByteArray).length:Int)==2)=false:=rfl;have l4:((([cw d.Count,d.Unit,lV d.Direction,tOf,d.A]:List ByteArray).length:Int)==4)=false:=rfl;have l5:((([cw d.Count,d.Unit,lV d.Direction,tOf,d.A]:List ByteArray).length:Int)==5)=true:=rfl;simp only[a0,a1,a2,a4,l2,l4,l5,cond_true,cond_false,Option.bind_some,dH (cw d.Count) (by omega),jI (cy d.Count) (show -10000000000000<d.Count by omega) (by omega),BL,(y9 h3.1 h3.2).2.2.2,Sum.elim_inr];exact congrArg some e
 ·obtain⟨d1,d2,d3,_,_⟩:=kL h (by omega);have e:=mI hk d1 d2 d3 rfl rfl;rw[hk];show bj [sk,d.A,vj,d.B]=_;unfold bj;have a0:at' [sk,d.A,vj,d.B] 0=some sk:=rfl;have a1:at' [sk,d.A,vj,d.B] 1=some d.A:=rfl;have a3:at' [sk,d.A,vj,d.B] 3=some d.B:=rfl;have l2:((([sk,d.A,vj,d.B]:List ByteArray).length:Int)==2)=false:=rfl;have l4:((([sk,d.A,vj,d.B]:List ByteArray).length:Int)==4)=true:=rfl;simp only[a0,a1,a3,l2,l4,cond_true,cond_false,Option.bind_some,beq_self_eq_true,Sum.elim_inr];exact congrArg some e
def ni(x1:List ByteArray):Option ak:=(((bif((x1.length:Int)==2)then((at' x1 0).bind fun x4=>some (x4.toList==(ByteArray.mk #[97,116]).toList))else some false)).bind fun(j5:Bool)=>(bif j5 then((at' x1 1).bind fun x7=>some (ak.mk 0 0 (ByteArray.mk #[]) 0 x7 (ByteArray.mk #[])))else(((bif((x1.length:Int)==2)then((at' x1 0).bind fun x8=>some (x8.toList==(ByteArray.mk #[110,101,97,114]).toList))else some false)).bind fun(j9:Bool)=>(bif j9 then((at' x1 1).bind fun x11=>some (ak.mk 1 0 (ByteArray.mk #[]) 0 x11 (ByteArray.mk #[])))else(((bif((x1.length:Int)==4)then((at' x1 0).bind fun x12=>some (x12.toList==(ByteArray.mk #[98,101,116,119,101,101,110]).toList))else some false)).bind fun(j13:Bool)=>(bif j13 then((at' x1 1).bind fun x15=>((at' x1 3).bind fun x16=>some (ak.mk 3 0 (ByteArray.mk #[]) 0 x15 x16)))else(bif((x1.length:Int)==5)then((at' x1 0).bind fun x17=>((bu x17).bind fun x18=>((at' x1 1).bind fun x19=>((at' x1 2).bind fun x20=>((eJ x20).bind fun x21=>((at' x1 4).bind fun x22=>some (ak.mk 2 x18.1 x19 x21 x22 (ByteArray.mk #[]))))))))else some (ak.mk (-1) 0 (ByteArray.mk #[]) 0 (ByteArray.mk #[]) (ByteArray.mk #[])))))))))
theorem JY{d:ak}(h:eh d=true):ni (qR d)=some d:=by
 have f1:(nB.toList==tAt.toList)=false:=by rw[toList_eq,toList_eq];rfl
 unfold qR;rcases l9 h with hk | hk | hk | hk
 ·obtain⟨d1,d2,d3,_,d4⟩:=kL h (by omega);have e:=mI hk d1 d2 d3 rfl (d4 (by omega));rw[hk];show ni [tAt,d.A]=_;unfold ni;have a0:at' [tAt,d.A] 0=some tAt:=rfl;have a1:at' [tAt,d.A] 1=some d.A:=rfl;have l2:((([tAt,d.A]:List ByteArray).length:Int)==2)=true:=rfl;simp only[a0,a1,l2,cond_true,Option.bind_some,beq_self_eq_true];exact congrArg some e
 ·obtain⟨d1,d2,d3,_,d4⟩:=kL h (by omega);have e:=mI hk d1 d2 d3 rfl (d4 (by omega));rw[hk];show ni [nB,d.A]=_;unfold ni;have a0:at' [nB,d.A] 0=some nB:=rfl;have a1:at' [nB,d.A] 1=some d.A:=rfl;have l2:((([nB,d.A]:List ByteArray).length:Int)==2)=true:=rfl;simp only[a0,a1,l2,f1,cond_true,cond_false,Option.bind_some,beq_self_eq_true];exact congrArg some e
 ·obtain⟨h1,h2,h3⟩:=nV h hk;have e:=mI hk rfl rfl rfl rfl (Bo h hk);rw[hk];show ni [cw d.Count,d.Unit,lV d.Direction,tOf,d.A]=_;unfold ni;have a0:at' [cw d.Count,d.Unit,lV d.Direction,tOf,d.A] 0=some (cw d.Count):=rfl;have a1:at' [cw d.Count,d.Unit,lV d.Direction,tOf,d.A] 1=some d.Unit:=rfl;have a2:at' [cw d.Count,d.Unit,lV d.Direction,tOf,d.A] 2=some (lV d.Direction):=rfl;have a4:at' [cw d.Count,d.Unit,lV d.Direction,tOf,d.A] 4=some d.A:=rfl;have l2:((([cw d.Count,d.Unit,lV d.Direction,tOf,d.A]:List ByteArray).length:Int)==2)=false:=rfl;have l4:((([cw d.Count,d.Unit,lV d.Direction,tOf,d.A]:List ByteArray).length:Int)==4)=false:=rfl;have l5:((([cw d.Count,d.Unit,lV d.Direction,tOf,d.A]:List ByteArray).length:Int)==5)=true:=rfl;simp only[a0,a1,a2,a4,l2,l4,l5,cond_true,cond_false,Option.bind_some,wi (cy d.Count) (show 0<=d.Count by omega) (by omega),Ht,(y9 h3.1 h3.2).2.2.2];exact congrArg some e
 ·obtain⟨d1,d2,d3,_,_⟩:=kL h (by omega);have e:=mI hk d1 d2 d3 rfl rfl;rw[hk];show ni [sk,d.A,vj,d.B]=_;unfold ni;have a0:at' [sk,d.A,vj,d.B] 0=some sk:=rfl;have a1:at' [sk,d.A,vj,d.B] 1=some d.A:=rfl;have a3:at' [sk,d.A,vj,d.B] 3=some d.B:=rfl;have l2:((([sk,d.A,vj,d.B]:List ByteArray).length:Int)==2)=false:=rfl;have l4:((([sk,d.A,vj,d.B]:List ByteArray).length:Int)==4)=true:=rfl;simp only[a0,a1,a3,l2,l4,cond_true,cond_false,Option.bind_some,beq_self_eq_true];exact congrArg some e
theorem JZ{W:List ByteArray}(hW: ∀x∈W,x.size<=1048576):(∃d,bj W=some d/\C5 d)/\ ∃d,ni W=some d/\C5 d:=by
 have z:(ByteArray.mk #[]).size=0:=rfl;have oz: ∀{k c w:Int} {u a b:ByteArray},u.size<=1048576->a.size<=1048576->b.size<=1048576->C5 (ak.mk k c u w a b):=fun h1 h2 h3=>⟨h1,h2,h3⟩;unfold bj ni;by_cases h2:W.length=2
 ·obtain⟨a,b,rfl⟩:=Mj h2;have hb:=hW b (by simp);have a0:at' [a,b] 0=some a:=rfl;have a1:at' [a,b] 1=some b:=rfl;have l2:((([a,b]:List ByteArray).length:Int)==2)=true:=rfl;have l4:((([a,b]:List ByteArray).length:Int)==4)=false:=rfl;have l5:((([a,b]:List ByteArray).length:Int)==5)=false:=rfl;simp only[a0,a1,l2,l4,l5,cond_true,cond_false,Option.bind_some];cases (a.toList==(ByteArray.mk #[97,116]).toList)
  ·cases (a.toList==(ByteArray.mk #[110,101,97,114]).toList)
   ·exact⟨⟨_,rfl,oz (by omega) (by omega) (by omega)⟩,_,rfl,oz (by omega) (by omega) (by omega)⟩
   ·exact⟨⟨_,rfl,oz (by omega) hb (by omega)⟩,_,rfl,oz (by omega) hb (by omega)⟩
  ·exact⟨⟨_,rfl,oz (by omega) hb (by omega)⟩,_,rfl,oz (by omega) hb (by omega)⟩
 have l2:((W.length:Int)==2)=false:=by
  rw[beq_eq_false_iff_ne];omega
 by_cases h5:W.length=5
 ·match W,h5 with
  | [a,b,c,d,e],_=>
   have ha:=hW a (by simp);have hb:=hW b (by simp);have he:=hW e (by simp);have a0:at' [a,b,c,d,e] 0=some a:=rfl;have a1:at' [a,b,c,d,e] 1=some b:=rfl;have a2:at' [a,b,c,d,e] 2=some c:=rfl;have a4:at' [a,b,c,d,e] 4=some e:=rfl;have l4:((([a,b,c,d,e]:List ByteArray).length:Int)==4)=false:=rfl;have l5:((([a,b,c,d,e]:List ByteArray).length:Int)==5)=true:=rfl;obtain⟨n,f,n1,_⟩:=iH a;simp only[a0,a1,a2,a4,l2,l4,l5,cond_true,cond_false,Option.bind_some,dH a ha,BL,Ht,n1];exact⟨⟨_,rfl,oz hb he (by omega)⟩,_,rfl,oz hb he (by omega)⟩
 have l5:((W.length:Int)==5)=false:=by
  rw[beq_eq_false_iff_ne];omega
 by_cases h4:W.length=4
 ·match W,h4 with
  | [a,b,c,d],_=>
   have hb:=hW b (by simp);have hd:=hW d (by simp);have a0:at' [a,b,c,d] 0=some a:=rfl;have a1:at' [a,b,c,d] 1=some b:=rfl;have a3:at' [a,b,c,d] 3=some d:=rfl;have l4:((([a,b,c,d]:List ByteArray).length:Int)==4)=true:=rfl;simp only[a0,a1,a3,l2,l4,l5,cond_true,cond_false,Option.bind_some];cases (a.toList==(ByteArray.mk #[98,101,116,119,101,101,110]).toList)
   ·exact⟨⟨_,rfl,oz (by omega) (by omega) (by omega)⟩,_,rfl,oz (by omega) (by omega) (by omega)⟩
   ·exact⟨⟨_,rfl,oz (by omega) hb hd⟩,_,rfl,oz (by omega) hb hd⟩
 have l4:((W.length:Int)==4)=false:=by
  rw[beq_eq_false_iff_ne];omega
 simp only[l2,l4,l5,cond_false,Option.bind_some];exact⟨⟨_,rfl,oz (by omega) (by omega) (by omega)⟩,_,rfl,oz (by omega) (by omega) (by omega)⟩
theorem GB(s:ByteArray)(hz:s.size<=1048576): ∃d e,ep s=some (d,e)/\et s=some (d,e)/\(e=6\/e=0/\eh d=true/\C5 d):=by
 have hsp:strings_Split s (ByteArray.mk #[32])=some (aZ s 32):=by
  unfold strings_Split;have h0:(ByteArray.mk #[32]).data.toList=[32]:=rfl;rw[h0];dsimp only;rw[decide_eq_true (by omega),cond_true]
 have hsp2:bD s 32=some (aZ s 32):=du s 32 (by omega);have hws: ∀x∈aZ s 32,x.size<=1048576:=fun x hx=>Nat.le_trans (fe hx) hz;obtain⟨⟨d,d1,d2⟩,⟨e,e1,e2⟩⟩:=JZ hws;have hS:et s=some (bif eh e&&(uf e).toList==s.toList then(e,0)else(Lm,6)):=by
  unfold et;rw[hsp2,Option.bind_some];show((ni (aZ s 32)).bind _)=_;rw[e1,Option.bind_some,D1 e e2,Option.bind_some];cases h:eh e
  ·rfl
  ·rw[(NS h e2).2];cases h2:((uf e).toList==s.toList)<;>simp[h2]
 have hI:ep s=some (bif eh d&&(uf d).toList==s.toList then(d,0)else(Lm,6)):=by
  unfold ep;rw[hsp,Option.bind_some,d1,Option.bind_some,DH d d2,Option.bind_some];cases h:eh d
  ·rfl
  ·rw[(NS h d2).1];cases h2:((uf d).toList==s.toList)<;>simp[h2]
 rw[hI,hS];cases hd:(eh d&&(uf d).toList==s.toList)
 ·cases he:(eh e&&(uf e).toList==s.toList)
  ·exact⟨_,_,rfl,rfl,.inl rfl⟩
  ·exfalso;rw[Bool.and_eq_true]at he;have h3:=Bp he.1;rw[fm.1 he.2]at h3;rw[h3,LF he.1]at d1;injection d1 with d1;subst d1;rw[he.1,he.2]at hd;cases hd
 ·rw[Bool.and_eq_true]at hd;have h3:=Bp hd.1;rw[fm.1 hd.2]at h3;rw[h3,JY hd.1]at e1;injection e1 with e1;subst e1;rw[hd.1,hd.2];exact⟨_,_,rfl,rfl,.inr ⟨rfl,hd.1,d2⟩⟩
theorem uS{a b:ByteArray}:(a.toList==b.toList)=true↔a=b:=by
 rw[beq_iff_eq,pt,pt];refine⟨fun h=> ?_,fun h=>by rw[h]⟩;obtain⟨a⟩:=a;obtain⟨b⟩:=b;have h:a.toList=b.toList:=h;rw[Array.toList_inj.1 h]
theorem zU{x c d:ByteArray}(h:(x.toList==c.toList)=true)(hcd: ¬c=d):(x.toList==d.toList)=false:=by
 rw[Bool.eq_false_iff];intro h2;exact hcd ((uS.1 h).symm.trans (uS.1 h2))
def wU(W:List ByteArray)(K:ByteArray):Option (Int×Bool):=cG (K.size:Int) (fun(i5:Int) (s5:Int×Bool)=>((cC K i5).bind fun x9=>(bif(x9==73)then((at' W (ap (i5+1))).bind fun x10=>((bu x10).bind fun x11=>some (x11.1,x11.2)))else(bif(x9==74)then((at' W (ap (i5+1))).bind fun x12=>((bt x12).bind fun x13=>some (x13.1,x13.2)))else some (s5.1,s5.2))))) (fun(s5:Int×Bool)=>(s5.1,s5.2)) 0 (0,true)
theorem DO(W:List ByteArray){K:ByteArray}(hs:K.size<=100)(hK: ∀c∈K.data.toList,c=84):wU W K=some (0,true):=by
 unfold wU;obtain⟨h1,h2⟩:=HF (n:=K.size) (by omega) (B:=fun(i5:Int) (s5:Int×Bool)=>((cC K i5).bind fun x9=>(bif(x9==73)then((at' W (ap (i5+1))).bind fun x10=>((bu x10).bind fun x11=>some (x11.1,x11.2)))else(bif(x9==74)then((at' W (ap (i5+1))).bind fun x12=>((bt x12).bind fun x13=>some (x13.1,x13.2)))else some (s5.1,s5.2))))) (D:=fun(s5:Int×Bool)=>(s5.1,s5.2)) (fun s=>s=(0,true)) (fun s _=>s) (0,true) (fun i s hi hI=>by
  have hx:=byte_at hi;rw[hK _ (List.getElem_mem _)]at hx;refine⟨?_,hI⟩;simp only[hx,Option.bind_some];rfl) rfl
 rw[h1,h2]
theorem OW{W:List ByteArray}{y:ByteArray}{r:Int}{b:Bool}(hy:W[1]? =some y)(hv:bu y=some (r,b)):wU W (ByteArray.mk #[73])=some (r,b):=by
 unfold wU;have hb:cC (ByteArray.mk #[73]) ((0:Nat):Int)=some 73:=rfl;have ha:at' W (ap (((0:Nat):Int)+1))=some y:=by
  have:=ar (L:=W) 1;rw[hy]at this;exact this
 have:=fg (A:=Int×Bool) 1 (by omega) (fun(i5:Int) (s5:Int×Bool)=>(((cC (ByteArray.mk #[73]) i5).bind fun x9=>(bif(x9==73)then((at' W (ap (i5+1))).bind fun x10=>((bu x10).bind fun x11=>some (x11.1,x11.2)))else(bif(x9==74)then((at' W (ap (i5+1))).bind fun x12=>((bt x12).bind fun x13=>some (x13.1,x13.2)))else some (s5.1,s5.2))))).map (Sum.inl (β:=Int×Bool))) (fun s5=>(s5.1,s5.2)) (0,true);rw[eF];refine Eq.trans this ?_;unfold cV;simp only[hb,Option.bind_some,ha,hv];rfl
theorem OX{W:List ByteArray}{y:ByteArray}{r:Int}{b:Bool}(hy:W[2]? =some y)(hv:bt y=some (r,b)):wU W (ByteArray.mk #[84,74])=some (r,b):=by
 unfold wU;have hb0:cC (ByteArray.mk #[84,74]) ((0:Nat):Int)=some 84:=rfl;have hb1:cC (ByteArray.mk #[84,74]) ((1:Nat):Int)=some 74:=rfl;have ha:at' W (ap (((1:Nat):Int)+1))=some y:=by
  have:=ar (L:=W) 2;rw[hy]at this;exact this
 have:=fg (A:=Int×Bool) 2 (by omega) (fun(i5:Int) (s5:Int×Bool)=>(((cC (ByteArray.mk #[84,74]) i5).bind fun x9=>(bif(x9==73)then((at' W (ap (i5+1))).bind fun x10=>((bu x10).bind fun x11=>some (x11.1,x11.2)))else(bif(x9==74)then((at' W (ap (i5+1))).bind fun x12=>((bt x12).bind fun x13=>some (x13.1,x13.2)))else some (s5.1,s5.2))))).map (Sum.inl (β:=Int×Bool))) (fun s5=>(s5.1,s5.2)) (0,true);rw[eF];refine Eq.trans this ?_;unfold cV;simp only[hb0,Option.bind_some,show((84:Int)==73)=false from rfl,show((84:Int)==74)=false from rfl,cond_false,Option.map_some,Sum.elim_inl,Nat.zero_add];unfold cV;simp only[hb1,Option.bind_some,ha,hv];rfl
abbrev xQ:ByteArray:=ByteArray.mk #[45]
theorem Lf{W:List ByteArray}(hW:W.length<=1048577)(K:ByteArray){k:Nat}(hk:K.size=k)(hk9:k<=9):(bif((W.length:Int) !=(ap ((K.size:Int)+1)))then some xQ else some K:Option ByteArray)=bif decide (W.length=k+1)then some K else some xQ:=by
 rw[hk,bg (by omega) (by omega)];by_cases h:W.length=k+1
 ·rw[decide_eq_true h,show((W.length:Int) !=(k:Int)+1)=false by rw[bne_eq_false_iff_eq];omega];rfl
 ·rw[decide_eq_false h,show((W.length:Int) !=(k:Int)+1)=true by rw[bne_iff_ne];omega];rfl
def qQ(W:List ByteArray)(o:Option ByteArray):Option (List ByteArray×Int×Bool):=o.bind fun x2=>(bif(x2.toList==xQ.toList)then some (([]:List ByteArray),(0:Int),false)else((wU W x2).bind fun(j3:Int×Bool)=>some (W,j3.1,j3.2)))
theorem vT(W:List ByteArray):qQ W (some xQ)=some ([],0,false):=by
 unfold qQ;rw[Option.bind_some,uS.2 rfl];rfl
theorem B2{W:List ByteArray}{K:ByteArray}(hne: ¬K=xQ){r:Int}{b:Bool}(h:wU W K=some (r,b)):qQ W (some K)=some (W,r,b):=by
 unfold qQ;have:(K.toList==xQ.toList)=false:=by
  rw[Bool.eq_false_iff];exact fun h=>hne (uS.1 h)
 rw[Option.bind_some,this,cond_false,h];rfl
theorem jF{W:List ByteArray}(hW:W.length<=1048577)(K:ByteArray){k:Nat}(hk:K.size=k)(hk9:k<=9)(hne: ¬K=xQ){b:Bool}{P:Int->Prop}(hb:W.length=k+1-> ∃r,wU W K=some (r,b)/\(b=true->P r)): ∃V n,qQ W (bif((W.length:Int) !=(ap ((K.size:Int)+1)))then some xQ else some K)=some (V,n,decide (W.length=k+1)&&b)/\((decide (W.length=k+1)&&b)=true->V=W/\W.length=k+1/\P n):=by
 rw[Lf hW K hk hk9];by_cases h:W.length=k+1
 ·obtain⟨r,hr,hp⟩:=hb h;rw[decide_eq_true h,cond_true,B2 hne hr,Bool.true_and];exact⟨_,_,rfl,fun h2=>⟨rfl,h,hp h2⟩⟩
 ·rw[decide_eq_false h,cond_false,vT,Bool.false_and];exact⟨_,_,rfl,fun h=>by cases h⟩
theorem uA{n k:Nat}:((n:Int)==(k:Int))=decide (n=k):=by
 rw[Bool.eq_iff_iff,beq_iff_eq,decide_eq_true_eq];omega
abbrev rc:ByteArray:=ByteArray.mk #[99,111,114,101,115]
abbrev nS:ByteArray:=ByteArray.mk #[114,101,112,97,105,114]
abbrev lP:ByteArray:=ByteArray.mk #[115,111,117,114,99,101,115]
abbrev ud:ByteArray:=ByteArray.mk #[99,108,97,105,109]
abbrev xF:ByteArray:=ByteArray.mk #[100,114,111,112]
abbrev vx:ByteArray:=ByteArray.mk #[110,97,109,101]
abbrev mF:ByteArray:=ByteArray.mk #[112,97,114,101,110,116]
abbrev ue:ByteArray:=ByteArray.mk #[115,105,116,101]
abbrev xG:ByteArray:=ByteArray.mk #[119,97,121]
abbrev wg:ByteArray:=ByteArray.mk #[102,97,114]
abbrev nk:ByteArray:=ByteArray.mk #[97,112,97,114,116]
abbrev oO:ByteArray:=ByteArray.mk #[116,101,115,116]
inductive Shape:List ByteArray->Int->Prop
 | one (x:ByteArray) (n:Int) (h:x=rc\/x=nS\/x=lP):Shape [x] n
 | claim (a:ByteArray) (n:Int):Shape [ud,a] n
 | drop (a:ByteArray) (n:Int) (h:gj a=(n,true)) (h0:0<=n) (h1:n<10000000000000):Shape [xF,a] n
 | told (x a b:ByteArray) (n:Int) (h:x=vx\/x=mF) (hn:gj b=(n,true)):Shape [x,a,b] n
 | two (x a b:ByteArray) (n:Int) (h:x=ue\/x=xG\/x=wg\/x=nk):Shape [x,a,b] n
 | test (M:List ByteArray) (n:Int) (h:M.length=3\/M.length=5\/M.length=6):Shape (oO::M) n
theorem l1{W:List ByteArray}{x:ByteArray}(h:at' W 0=some x)(hl:W.length=1):W=[x]:=by
 match W,hl with
 | [a],_=>
  have h:some a=some x:=h;injection h with h;rw[h]
theorem l2{W:List ByteArray}{x:ByteArray}(h:at' W 0=some x)(hl:W.length=2): ∃a,W=[x,a]:=by
 match W,hl with
 | [a,b],_=>
  have h:some a=some x:=h;injection h with h;exact⟨b,by rw[h]⟩
theorem l3{W:List ByteArray}{x:ByteArray}(h:at' W 0=some x)(hl:W.length=3): ∃a b,W=[x,a,b]:=by
 match W,hl with
 | [a,b,c],_=>
  have h:some a=some x:=h;injection h with h;exact⟨b,c,by rw[h]⟩
theorem Kn{s:ByteArray}{n:Int}{b:Bool}(h:bu s=some (n,b))(hb:b=true):gj s=(n,true)/\0<=n/\n<10000000000000:=by
 obtain⟨m,c,v1,v2,v3,v4,v5⟩:=iH s;rw[h]at v1;injection v1 with v1;injection v1 with e1 e2;rw[e1];rw[<-e2]at v2 v5;obtain⟨u,u1,u2⟩:=v2.1 hb;have h5:=v5 hb;rw[u1,lc]at h5;refine⟨jI (v:=m) ?_ (by omega) (by omega),v3,v4⟩;rw[kq v3,u1,h5,Int.toNat_natCast]
theorem H8{s:ByteArray}(hs:s.size<=1048576){n:Int}{b:Bool}(h:bt s=some (n,b))(hb:b=true):gj s=(n,true):=by
 obtain⟨m,c,v1,v2,_⟩:=nZ s hs;rw[h]at v1;injection v1 with v1;injection v1 with e1 e2;rw[<-e2,<-e1]at v2;obtain⟨u1,u2,u3⟩:=v2 hb;exact jI u1 u2 u3
theorem Js{x:ByteArray}{M:List ByteArray}(hW:(x::M).length<=1048577)(hs: ∀y∈x::M,y.size<=1048576): ∃b V n,ji (x::M)=some b/\qQ (x::M) (jU (x::M))=some (V,n,b)/\(b=true->V=x::M/\Shape (x::M) n):=by
 generalize hWe:x::M=W at hW hs;have h0:at' W 0=some x:=by rw[<-hWe];exact ar (L:=x::M) 0
 have hT: ∀k,k<=6-> ∀c∈((ByteArray.mk #[84,84,84,84,84,84]).extract 0 k).data.toList,c=84:=by
  intro k hk c hc;rw[lg]at hc;have hc:=List.mem_of_mem_take (List.mem_of_mem_drop hc);simp at hc;exact hc
 unfold ji jU;simp only[h0,Option.bind_some];have hcases: ∀c:ByteArray,(x.toList==c.toList)=true\/(x.toList==c.toList)=false:=fun c=>by cases x.toList==c.toList<;>simp
 rcases hcases (ByteArray.mk #[99,111,114,101,115])with c1 | c1
 ·simp only[c1,cond_true,Option.bind_some,Sum.elim_inl,Sum.elim_inr];obtain⟨V,n,e1,e2⟩:=jF hW (ByteArray.mk #[]) (k:=0) rfl (by omega) (by decide) (b:=true) (P:=fun _=>True) (fun _=>⟨0,DO W (by decide) (by simp),fun _=>trivial⟩);rw[Bool.and_true]at e1 e2;exact⟨_,V,n,congrArg some (uA (k:=1)),e1,fun h=>⟨(e2 h).1,by rw[l1 h0 (e2 h).2.1];exact .one _ _ (.inl (uS.1 c1))⟩⟩
 rcases hcases (ByteArray.mk #[114,101,112,97,105,114])with c2 | c2
 ·simp only[c1,c2,cond_true,cond_false,Option.bind_some,Sum.elim_inl,Sum.elim_inr];obtain⟨V,n,e1,e2⟩:=jF hW (ByteArray.mk #[]) (k:=0) rfl (by omega) (by decide) (b:=true) (P:=fun _=>True) (fun _=>⟨0,DO W (by decide) (by simp),fun _=>trivial⟩);rw[Bool.and_true]at e1 e2;exact⟨_,V,n,congrArg some (uA (k:=1)),e1,fun h=>⟨(e2 h).1,by rw[l1 h0 (e2 h).2.1];exact .one _ _ (.inr (.inl (uS.1 c2)))⟩⟩
 rcases hcases (ByteArray.mk #[115,111,117,114,99,101,115])with c3 | c3
 ·simp only[c1,c2,c3,cond_true,cond_false,Option.bind_some,Sum.elim_inl,Sum.elim_inr];obtain⟨V,n,e1,e2⟩:=jF hW (ByteArray.mk #[]) (k:=0) rfl (by omega) (by decide) (b:=true) (P:=fun _=>True) (fun _=>⟨0,DO W (by decide) (by simp),fun _=>trivial⟩);rw[Bool.and_true]at e1 e2;exact⟨_,V,n,congrArg some (uA (k:=1)),e1,fun h=>⟨(e2 h).1,by rw[l1 h0 (e2 h).2.1];exact .one _ _ (.inr (.inr (uS.1 c3)))⟩⟩
 rcases hcases (ByteArray.mk #[99,108,97,105,109])with c4 | c4
 ·simp only[c1,c2,c3,c4,cond_true,cond_false,Option.bind_some,Sum.elim_inl,Sum.elim_inr];obtain⟨V,n,e1,e2⟩:=jF hW (ByteArray.mk #[84]) (k:=1) rfl (by omega) (by decide) (b:=true) (P:=fun _=>True) (fun _=>⟨0,DO W (by decide) (by simp),fun _=>trivial⟩);rw[Bool.and_true]at e1 e2;refine⟨_,V,n,congrArg some (uA (k:=2)),e1,fun h=>⟨(e2 h).1,?_⟩⟩;obtain⟨a,ha⟩:=l2 h0 (e2 h).2.1;rw[ha,uS.1 c4];exact .claim a n
 rcases hcases (ByteArray.mk #[100,114,111,112])with c5 | c5
 ·have d1:=zU c5 (d:=ByteArray.mk #[115,105,116,101]) (by decide);have d2:=zU c5 (d:=ByteArray.mk #[119,97,121]) (by decide);have d3:=zU c5 (d:=ByteArray.mk #[102,97,114]) (by decide);have d4:=zU c5 (d:=ByteArray.mk #[97,112,97,114,116]) (by decide);simp only[c1,c2,c3,c4,c5,d1,d2,d3,d4,cond_true,cond_false,Option.bind_some,Sum.elim_inl,Sum.elim_inr];by_cases hl:W.length=2
  ·have hy:W[1]? =some W[1]:=List.getElem?_eq_getElem (by omega);obtain⟨b,r,b1,b2⟩:=K8 W[1] (hs _ (List.getElem_mem _));have ha:at' W 1=some W[1]:=(ar (L:=W) 1).trans hy;have e2:((W.length:Int)==2)=true:=by rw[beq_iff_eq];omega
   simp only[e2,cond_true,ha,Option.bind_some,b1,Sum.elim_inr];obtain⟨V,n,f1,f2⟩:=jF hW (ByteArray.mk #[73]) (k:=1) rfl (by omega) (by decide) (b:=b) (P:=fun n=>gj W[1]=(n,true)/\0<=n/\n<10000000000000) (fun _=>⟨r,OW hy b2,Kn b2⟩);rw[decide_eq_true hl,Bool.true_and]at f1 f2;refine⟨_,V,n,rfl,f1,fun h=>⟨(f2 h).1,?_⟩⟩;obtain⟨a,ha2⟩:=l2 h0 hl;obtain⟨g1,g2,g3⟩:=(f2 h).2.2;have hWa:W[1]=a:=by
    have:=congrArg (fun l:List ByteArray=>l[1]?) ha2;simp only[List.getElem?_cons_succ,List.getElem?_cons_zero]at this;rw[hy]at this;injection this
   rw[hWa]at g1;rw[ha2,uS.1 c5];exact .drop a n g1 g2 g3
  ·have e2:((W.length:Int)==2)=false:=by rw[beq_eq_false_iff_ne];omega
   simp only[e2,cond_false,Option.bind_some,Sum.elim_inr];obtain⟨V,n,f1,f2⟩:=jF hW (ByteArray.mk #[73]) (k:=1) rfl (by omega) (by decide) (b:=true) (P:=fun _=>True) (fun h=>absurd h hl);rw[decide_eq_false hl]at f1;exact⟨_,V,n,rfl,f1,fun h=>by cases h⟩
 have hname:(x=vx\/x=mF)-> ∃b V n,(bif((W.length:Int)==3)then((at' W 2).bind fun x14=>((jj x14).bind fun x15=>some x15))else some false:Option Bool)=some b/\qQ W (bif((W.length:Int) !=(ap (((ByteArray.mk #[84,74]).size:Int)+1)))then some xQ else some (ByteArray.mk #[84,74]))=some (V,n,b)/\(b=true->V=W/\Shape W n):=by
  intro hx;by_cases hl:W.length=3
  ·have hy:W[2]? =some W[2]:=List.getElem?_eq_getElem (by omega);obtain⟨b,r,b1,b2⟩:=HL W[2] (hs _ (List.getElem_mem _));have ha:at' W 2=some W[2]:=(ar (L:=W) 2).trans hy;have e2:((W.length:Int)==3)=true:=by rw[beq_iff_eq];omega
   simp only[e2,cond_true,ha,Option.bind_some,b1];obtain⟨V,n,f1,f2⟩:=jF hW (ByteArray.mk #[84,74]) (k:=2) rfl (by omega) (by decide) (b:=b) (P:=fun n=>gj W[2]=(n,true)) (fun _=>⟨r,OX hy b2,H8 (hs _ (List.getElem_mem _)) b2⟩);rw[decide_eq_true hl,Bool.true_and]at f1 f2;refine⟨_,V,n,rfl,f1,fun h=>⟨(f2 h).1,?_⟩⟩;obtain⟨a,c,ha2⟩:=l3 h0 hl;have g1:=(f2 h).2.2;have hWa:W[2]=c:=by
    have:=congrArg (fun l:List ByteArray=>l[2]?) ha2;simp only[List.getElem?_cons_succ,List.getElem?_cons_zero]at this;rw[hy]at this;injection this
   rw[hWa]at g1;rw[ha2];exact .told x a c n hx g1
  ·have e2:((W.length:Int)==3)=false:=by rw[beq_eq_false_iff_ne];omega
   simp only[e2,cond_false];obtain⟨V,n,f1,f2⟩:=jF hW (ByteArray.mk #[84,74]) (k:=2) rfl (by omega) (by decide) (b:=true) (P:=fun _=>True) (fun h=>absurd h hl);rw[decide_eq_false hl]at f1;exact⟨_,V,n,rfl,f1,fun h=>by cases h⟩
 rcases hcases (ByteArray.mk #[110,97,109,101])with c6 | c6
 ·have d1:=zU c6 (d:=ByteArray.mk #[115,105,116,101]) (by decide);have d2:=zU c6 (d:=ByteArray.mk #[119,97,121]) (by decide);have d3:=zU c6 (d:=ByteArray.mk #[102,97,114]) (by decide);have d4:=zU c6 (d:=ByteArray.mk #[97,112,97,114,116]) (by decide);obtain⟨b,V,n,b1,b2⟩:=hname (.inl (uS.1 c6));simp only[c1,c2,c3,c4,c5,c6,d1,d2,d3,d4,cond_true,cond_false,Option.bind_some,Sum.elim_inl,b1,Sum.elim_inr];exact⟨_,V,n,rfl,b2⟩
 rcases hcases (ByteArray.mk #[112,97,114,101,110,116])with c7 | c7
 ·have d1:=zU c7 (d:=ByteArray.mk #[115,105,116,101]) (by decide);have d2:=zU c7 (d:=ByteArray.mk #[119,97,121]) (by decide);have d3:=zU c7 (d:=ByteArray.mk #[102,97,114]) (by decide);have d4:=zU c7 (d:=ByteArray.mk #[97,112,97,114,116]) (by decide);obtain⟨b,V,n,b1,b2⟩:=hname (.inr (uS.1 c7));simp only[c1,c2,c3,c4,c5,c6,c7,d1,d2,d3,d4,cond_true,cond_false,Option.bind_some,Sum.elim_inl,b1,Sum.elim_inr];exact⟨_,V,n,rfl,b2⟩
 have hTT:(x=ue\/x=xG\/x=wg\/x=nk)-> ∃V n,qQ W (bif((W.length:Int) !=(ap (((ByteArray.mk #[84,84]).size:Int)+1)))then some xQ else some (ByteArray.mk #[84,84]))=some (V,n,(W.length:Int)==3)/\(((W.length:Int)==3)=true->V=W/\Shape W n):=by
  intro hx;obtain⟨V,n,f1,f2⟩:=jF hW (ByteArray.mk #[84,84]) (k:=2) rfl (by omega) (by decide) (b:=true) (P:=fun _=>True) (fun _=>⟨0,DO W (by decide) (by simp),fun _=>trivial⟩);rw[Bool.and_true]at f1 f2;refine⟨V,n,f1.trans ?_,fun h=> ?_⟩
  ·rw[show((W.length:Int)==3)=decide (W.length=2+1)from uA (k:=3)]
  ·have h:decide (W.length=2+1)=true:=(uA (k:=3)).symm.trans h;obtain⟨a,c,ha2⟩:=l3 h0 (f2 h).2.1;exact⟨(f2 h).1,by rw[ha2];exact .two x a c n hx⟩
 rcases hcases (ByteArray.mk #[115,105,116,101])with c8 | c8
 ·simp only[c1,c2,c3,c4,c5,c6,c7,c8,cond_true,cond_false,Option.bind_some,Sum.elim_inl,Sum.elim_inr];obtain⟨V,n,f1,f2⟩:=hTT (.inl (uS.1 c8));exact⟨_,V,n,rfl,f1,f2⟩
 rcases hcases (ByteArray.mk #[119,97,121])with c9 | c9
 ·simp only[c1,c2,c3,c4,c5,c6,c7,c8,c9,cond_true,cond_false,Option.bind_some,Sum.elim_inl,Sum.elim_inr];obtain⟨V,n,f1,f2⟩:=hTT (.inr (.inl (uS.1 c9)));exact⟨_,V,n,rfl,f1,f2⟩
 rcases hcases (ByteArray.mk #[102,97,114])with c10 | c10
 ·simp only[c1,c2,c3,c4,c5,c6,c7,c8,c9,c10,cond_true,cond_false,Option.bind_some,Sum.elim_inl,Sum.elim_inr];obtain⟨V,n,f1,f2⟩:=hTT (.inr (.inr (.inl (uS.1 c10))));exact⟨_,V,n,rfl,f1,f2⟩
 rcases hcases (ByteArray.mk #[97,112,97,114,116])with c11 | c11
 ·simp only[c1,c2,c3,c4,c5,c6,c7,c8,c9,c10,c11,cond_true,cond_false,Option.bind_some,Sum.elim_inl,Sum.elim_inr];obtain⟨V,n,f1,f2⟩:=hTT (.inr (.inr (.inr (uS.1 c11))));exact⟨_,V,n,rfl,f1,f2⟩
 have hdash:qQ W (bif((W.length:Int) !=(ap (((ByteArray.mk #[45]).size:Int)+1)))then some xQ else some (ByteArray.mk #[45]))=some ([],0,false):=by
  cases ((W.length:Int) !=(ap (((ByteArray.mk #[45]).size:Int)+1)))
  ·exact vT W
  ·exact vT W
 rcases hcases (ByteArray.mk #[116,101,115,116])with c12 | c12
 ·have hw:ap ((W.length:Int)- 2)=(W.length:Int)- 2:=bg (by omega) (by omega);simp only[c1,c2,c3,c4,c5,c6,c7,c8,c9,c10,c11,c12,cond_true,cond_false,Option.bind_some,Sum.elim_inl,Sum.elim_inr,hw];by_cases hl:W.length=4\/W.length=6\/W.length=7
  ·have e1:((((W.length:Int)- 2)==2) || ((((W.length:Int)- 2)==4) || (((W.length:Int)- 2)==5)))=true:=by
    rw[Bool.or_eq_true,Bool.or_eq_true,beq_iff_eq,beq_iff_eq,beq_iff_eq];omega
   have e2:(((W.length:Int)==4) || (((W.length:Int)==6) || ((W.length:Int)==7)))=true:=by
    rw[Bool.or_eq_true,Bool.or_eq_true,beq_iff_eq,beq_iff_eq,beq_iff_eq];omega
   refine⟨_,W,0,rfl,?_,fun _=>⟨rfl,?_⟩⟩
   rotate_left
   ·rw[<-hWe]at hl⊢;rw[uS.1 c12];exact .test M 0 (by rw[List.length_cons]at hl;omega)
   have hw2:ap ((W.length:Int)- 2+1)=(W.length:Int)- 2+1:=bg (by omega) (by omega);have h6:(ByteArray.mk #[84,84,84,84,84,84]).size=6:=rfl;rw[e1,e2,cond_true,hw2];unfold mn;rw[h6,if_pos (by omega),Option.bind_some,Option.bind_some,Sum.elim_inr,show((W.length:Int)- 2+1).toNat=W.length - 1 by omega];have hsz:((ByteArray.mk #[84,84,84,84,84,84]).extract 0 (W.length - 1)).size=W.length - 1:=by
    rw[ByteArray.size_extract,h6];omega
   refine B2 (fun h=> ?_) (DO W (by show((ByteArray.mk #[84,84,84,84,84,84]).extract 0 (W.length - 1)).size<=100;omega) (hT _ (by omega)));have h:(ByteArray.mk #[84,84,84,84,84,84]).extract 0 (W.length - 1)=xQ:=h;rw[h]at hsz;have:xQ.size=1:=rfl;omega
  ·have e1:((((W.length:Int)- 2)==2) || ((((W.length:Int)- 2)==4) || (((W.length:Int)- 2)==5)))=false:=by
    rw[Bool.or_eq_false_iff,Bool.or_eq_false_iff,beq_eq_false_iff_ne,beq_eq_false_iff_ne,beq_eq_false_iff_ne];omega
   have e2:(((W.length:Int)==4) || (((W.length:Int)==6) || ((W.length:Int)==7)))=false:=by
    rw[Bool.or_eq_false_iff,Bool.or_eq_false_iff,beq_eq_false_iff_ne,beq_eq_false_iff_ne,beq_eq_false_iff_ne];omega
   refine⟨_,[],0,rfl,?_,fun h=> ?_⟩
   ·rw[e1,e2,cond_false,Option.bind_some,Sum.elim_inl];exact hdash
   ·rw[e2]at h;cases h
 ·simp only[c1,c2,c3,c4,c5,c6,c7,c8,c9,c10,c11,c12,cond_true,cond_false,Option.bind_some,Sum.elim_inl,Sum.elim_inr];exact⟨_,[],0,rfl,hdash,fun h=>by cases h⟩
end Go.Proofs.YtbdbpakffniboaaGreatDoor.Sh
namespace Go.Proofs.YtbdbpakffniboaaGreatDoor.Sh
open Go.RowKit
def pU(n:Nat):Nat->Nat->List Int->List (List Int)
 | 0,_,R=>[R]
 | m+1,f,R=>(List.range' f (n - f)).flatMap fun i=>pU n m (i+1) (R++[(i:Int)])
theorem pV{n:Nat}: ∀(m f:Nat) (R:List Int),gG n R->fk R f-> ∀Q,Q∈pU n m f R↔gG n Q/\R<+:Q/\Q.length=R.length+m:=by
 intro m
 induction m with
 | zero=>
  intro f R hR _ Q;unfold pU;rw[List.mem_singleton];constructor
  ·rintro rfl;exact⟨hR,List.prefix_refl _,rfl⟩
  ·rintro⟨_,h2,h3⟩;exact(h2.eq_of_length h3.symm).symm
 | succ m ih=>
  intro f R hR hf Q;unfold pU;rw[List.mem_flatMap];constructor
  ·rintro⟨i,hi,hq⟩;rw[List.mem_range'_1]at hi;have hs:gG n (R++[(i:Int)]):=hR.snoc (by omega) (by omega) fun x hx=>by have:=hf.1 x hx;omega
   obtain⟨q1,q2,q3⟩:=(ih (i+1) _ hs (hf.snoc hi.1) Q).1 hq;refine⟨q1,(List.prefix_append R [(i:Int)]).trans q2,?_⟩;rw[List.length_append,List.length_singleton]at q3;omega
  ·rintro⟨q1,⟨t,rfl⟩,q3⟩;cases t with
   | nil=>simp at q3
   | cons i t=>
    have hp:=List.pairwise_append.1 q1.1;have hi:=q1.2 i (by simp);obtain⟨k,rfl⟩: ∃k:Nat,i=k:=⟨i.toNat,by omega⟩;have hfi:=hf.2 k hi.1 fun x hx=>hp.2.2 x hx k (by simp);have hs:gG n (R++[(k:Int)]):=hR.snoc hi.1 hi.2 fun x hx=>hp.2.2 x hx k (by simp);rw[List.length_append,List.length_cons]at q3;refine⟨k,List.mem_range'_1.2 ⟨by omega,by omega⟩,(ih (k+1) _ hs (hf.snoc (by omega)) _).2 ⟨q1,⟨t,by simp⟩,?_⟩⟩;rw[List.length_append,List.length_append,List.length_cons,List.length_singleton];omega
theorem zk{n:Nat}: ∀(m f:Nat) (R Q:List Int),Q∈pU n m f R->R<+:Q:=by
 intro m
 induction m with
 | zero=>
  intro f R Q h;unfold pU at h;rw[List.mem_singleton.1 h];exact List.prefix_refl _
 | succ m ih=>
  intro f R Q h;unfold pU at h;rw[List.mem_flatMap]at h;obtain⟨i,_,hq⟩:=h;exact(List.prefix_append R [(i:Int)]).trans (ih _ _ _ hq)
theorem FA{n:Nat}: ∀(m f:Nat) (R:List Int),(pU n m f R).Pairwise fun a b=>cmpL a b<0:=by
 intro m
 induction m with
 | zero=>intro f R;simp[pU]
 | succ m ih=>
  intro f R;unfold pU;refine mw (fun i _=>ih _ _) ((List.pairwise_lt_range' (s:=f) (n:=n - f)).imp fun{i j} hij a ha b hb=> ?_);obtain⟨s,rfl⟩:=zk _ _ _ _ ha;obtain⟨t,rfl⟩:=zk _ _ _ _ hb;rw[List.append_assoc,List.append_assoc,sC];show cmpL ((i:Int)::s) ((j:Int)::t)<0;unfold cmpL;rw[if_pos (by omega)];omega
def vm(n:Nat):List (List Int):=(List.range' 1 n).flatMap fun m=>pU n m 0 []
theorem xO{n:Nat}{Q:List Int}:Q∈vm n↔gG n Q/\Q≠[]:=by
 unfold vm;rw[List.mem_flatMap];constructor
 ·rintro⟨m,hm,hq⟩;rw[List.mem_range'_1]at hm;obtain⟨q1,_,q3⟩:=(pV m 0 [] (gG.nil n) fk.nil Q).1 hq;refine⟨q1,fun h=> ?_⟩;subst h;simp at q3;omega
 ·rintro⟨q1,q2⟩;have hl:=q1.len;have hp:=List.length_pos_iff.2 q2;exact⟨Q.length,List.mem_range'_1.2 ⟨by omega,by omega⟩,(pV _ 0 [] (gG.nil n) fk.nil Q).2 ⟨q1,List.nil_prefix,by simp⟩⟩
theorem El(n:Nat):(vm n).Pairwise (lU fun _=>0):=by
 refine mw (fun m _=> ?_) ((List.pairwise_lt_range' (s:=1) (n:=n)).imp fun{i j} hij a ha b hb=> ?_)
 ·refine List.Pairwise.imp_of_mem (fun{a b} ha hb h=> ?_) (FA m 0 []);have h1:=((pV m 0 [] (gG.nil n) fk.nil a).1 ha).2.2;have h2:=((pV m 0 [] (gG.nil n) fk.nil b).1 hb).2.2;exact .inr ⟨rfl,.inr ⟨by omega,h⟩⟩
 ·have h1:=((pV i 0 [] (gG.nil n) fk.nil a).1 ha).2.2;have h2:=((pV j 0 [] (gG.nil n) fk.nil b).1 hb).2.2;exact .inr ⟨rfl,.inl (by omega)⟩
theorem Bt{w:List Int->Int}{p:List Int->Bool}: ∀{l:List (List Int)} {b:List Int},l.Pairwise (lU w)->l.find? p=some b->gH w (l.filter p) b
 | [],b,_,h=>by simp at h
 | x::l,b,hp,h=>by
  have h2:=List.pairwise_cons.1 hp;rw[List.find?_cons]at h;cases hx:p x
  ·rw[hx]at h;rw[List.filter_cons_of_neg (by simp[hx])];exact Bt h2.2 h
  ·rw[hx]at h;injection h with h;subst h;rw[List.filter_cons_of_pos hx];exact⟨by simp,fun r hr=>by
    rcases List.mem_cons.1 hr with rfl | hr
    ·exact .inl rfl
    ·exact .inr (h2.1 r (List.mem_filter.1 hr).1)⟩
theorem zV{n:Nat}{p:List Int->Bool}(h0:p []=false){b:List Int}(h:(vm n).find? p=some b){l:List (List Int)}(hl: ∀x,x∈l↔gG n x/\p x=true){c:List Int}(hc:gH (fun _=>0) l c):c=b:=by
 refine gH.unique (m:=(vm n).filter p) (fun x=> ?_) hc (Bt (El n) h);rw[hl,List.mem_filter,xO];constructor
 ·rintro⟨h1,h2⟩;exact⟨⟨h1,fun e=>by rw[e,h0]at h2;cases h2⟩,h2⟩
 ·rintro⟨⟨h1,_⟩,h2⟩;exact⟨h1,h2⟩
theorem tx{w:List Int->Int}(lt:List Int->List Int->Bool)(hlt: ∀a b,lt a b=true↔lU w a b)(p:List Int->Bool): ∀(l done:List (List Int)) (b:List Int),gH w done b->gH w (done++l.filter p) (l.foldl (fun b a=>bif lt a b&&p a then a else b) b)
 | [],done,b,h=>by simpa using h
 | a::l,done,b,h=>by
  rw[List.foldl_cons];cases hp:p a
  ·rw[List.filter_cons_of_neg (by simp[hp]),Bool.and_false,cond_false];exact tx lt hlt p l done b h
  ·rw[List.filter_cons_of_pos hp,Bool.and_true];have h2:=vQ lt hlt [a] done b h;have:=tx lt hlt p l (done++[a]) _ h2;simpa using this
end Go.Proofs.YtbdbpakffniboaaGreatDoor.Sh
namespace Go.Proofs.YtbdbpakffniboaaGreatDoor.Sh
open Go.RowKit Go.Lib
theorem filter_lt{α:Type}{p q:α->Bool}(h: ∀x,q x=true->p x=true){a:α}(hp:p a=true)(hq:q a=false): ∀{L:List α},a∈L->(L.filter q).length<(L.filter p).length
 | [],ha=>by cases ha
 | x::l,ha=>by
  have hle: ∀M:List α,(M.filter q).length<=(M.filter p).length:=by
   intro M
   induction M with
   | nil=>simp
   | cons y m ih=>
    rw[List.filter_cons,List.filter_cons];cases hy:q y
    ·cases p y<;>simp<;>omega
    ·rw[h y hy];simp;omega
  have h1:=hle l;rw[List.filter_cons,List.filter_cons];rcases List.mem_cons.1 ha with rfl | ha
  ·rw[hp,hq];simp;omega
  ·have h2:=filter_lt h hp hq ha;cases hy:q x
   ·cases p x<;>simp<;>omega
   ·rw[h x hy];simp;omega
theorem any_eq{L:List ByteArray}{v:ByteArray}:(L.any fun x=>v.toList==x.toList)=true↔v∈L:=by
 rw[List.any_eq_true];refine⟨fun⟨x,h1,h2⟩=> ?_,fun h=>⟨v,h,fm.2 rfl⟩⟩;rw[fm.1 h2];exact h1
theorem any_eq'{L:List ByteArray}{v:ByteArray}:(L.any fun x=>x.toList==v.toList)=true↔v∈L:=by
 rw[List.any_eq_true];refine⟨fun⟨x,h1,h2⟩=> ?_,fun h=>⟨v,h,fm.2 rfl⟩⟩;rw[<-fm.1 h2];exact h1
theorem contains_eq{L:List ByteArray}(hL:L.length<=1000000000)(v:ByteArray):bh L v=some (L.any fun x=>v.toList==x.toList):=by
 unfold bh cS;rw[fE (by omega) (fun x=>v.toList==x.toList) (fun i x hx=>by rw[ar,hx];rfl),Option.bind_some,ki]
theorem Ev{L:List ByteArray}(hL:L.length<=1000000000)(v:ByteArray): ∃n:Int,jQ L v=some n/\(n<0↔v∉L):=by
 unfold jQ;rw[fE (by omega) (fun x=>x.toList==v.toList) (fun i x hx=>by rw[ar,hx];rfl)];refine⟨_,rfl,?_⟩;have h1:=p9 (fun x:ByteArray=>x.toList==v.toList) L;rw[<-any_eq'];constructor
 ·intro h;rw[decide_eq_true h]at h1;intro hc;rw[hc]at h1;cases h1
 ·intro h;rw[Bool.not_eq_true]at h;rw[h]at h1;simpa using h1
def OC(a b:List ByteArray×Bool):Prop:=a.2=b.2/\(b.2=true->a=b)
def ug(C out:List ByteArray):Nat:=(C.filter fun v=> !(out.any fun x=>v.toList==x.toList)).length
theorem xI{C out:List ByteArray}{v:ByteArray}(h1:v∈C)(h2:v∉out):ug C (out++[v])<ug C out:=by
 unfold ug;have hf: ∀{M:List ByteArray} {x:ByteArray},(!(M.any fun z=>x.toList==z.toList))=true↔x∉M:=fun{M x}=>by
  rw[Bool.not_eq_true',Bool.eq_false_iff,ne_eq,any_eq]
 refine filter_lt (fun x hx=> ?_) (a:=v) (hf.2 h2) ?_ h1
 ·rw[hf]at hx⊢;exact fun h=>hx (List.mem_append_left _ h)
 ·rw[Bool.eq_false_iff,ne_eq,hf];simp
theorem Dz{L:List Claim}(hL:L.length<=100)(hc: ∀x∈L,cg x=true)(place:ByteArray)(y:Int): ∃a b,eW L place y=some a/\lL L place y=some b/\OC a b/\b.1.length<=101:=by
 have key: ∀(n:Nat) (out:List ByteArray) (v:ByteArray),ug (place::L.map Claim.Value) out<=n->v∈place::L.map Claim.Value->v∉out->(place∈out\/v=place)->out.length+ug (place::L.map Claim.Value) out<=101->
   ∃a b,loop (fun(s1:(List ByteArray))=>((at' s1 (ap ((s1.length:Int)- 1))).bind fun x3=>((fi L x3 y).bind fun x4=>(((bif(x4.2&&(x4.1.toList==place.toList))then some (.inr (.inr (s1,true)))else(((bif(!x4.2)then some true else((bh s1 x4.1).bind fun x7=>some x7))).bind fun(j8:Bool)=>(bif j8 then some (.inr (.inr (([]:List ByteArray),false)))else some (.inl ()))))).bind (Sum.elim (fun(_:Unit)=>((bP s1 ([x4.1]:List ByteArray)).bind fun x10=>some (.inl x10))) some))))) (out++[v])=some a/\
   ((loop (fun(s3:ByteArray×(List ByteArray))=>((jQ s3.2 s3.1).bind fun x5=>(bif(decide (x5<0))then((bP s3.2 ([s3.1]:List ByteArray)).bind fun x6=>((gU L s3.1 y).bind fun x7=>(bif(x7.toList==(ByteArray.mk #[]).toList)then some (.inr (.inr (([]:List ByteArray),false)))else some (.inl (x7,x6)))))else some (.inr (.inl (s3.1,s3.2)))))) (v,out))).bind (Sum.elim (fun(j1:ByteArray×(List ByteArray))=>some (j1.2,(j1.1.toList==place.toList))) some)=some b/\OC a b/\b.1.length<=101:=by
  intro n
  induction n with
  | zero=>
   intro out v h1 h2 h3;have:=xI h2 h3;omega
  | succ n ih=>
   intro out v h1 h2 h3 hp h13;have hlt:=xI h2 h3;have hl:out.length<=101:=by omega
   have hlen:(out++[v]).length=out.length+1:=by simp
   have hat:at' (out++[v]) (ap (((out++[v]).length:Int)- 1))=some v:=by
    rw[bg (by omega) (by omega),hlen,show((out.length+1:Nat):Int)- 1=(out.length:Int) by omega,ar];simp
   have hpl:place∈out++[v]:=by
    rcases hp with hp | rfl
    ·exact List.mem_append_left _ hp
    ·simp
   obtain⟨m,hm,hm'⟩:=Ev (L:=out) (by omega) v;rw[bF]
   conv in loop _ (v,out)=>rw[bF]
   simp only[hat,Option.bind_some,lx (show L.length<=1048576 by omega),hm,decide_eq_true (hm'.2 h3),cond_true,bQ (show out.length+[v].length<=68719476736 by simp;omega),oJ (show L.length<=1048576 by omega)];cases ht:tel L 1 v y with
   | none=>
    have e0:y7 none=(ByteArray.mk #[],false):=rfl;have e2:((ByteArray.mk #[]).toList==(ByteArray.mk #[]).toList)=true:=fm.2 rfl;simp only[e0,e2,Bool.false_and,cond_false,cond_true,Bool.not_false,Option.bind_some,Sum.elim_inr];refine⟨([],false),([],false),rfl,rfl,⟨rfl,fun _=>rfl⟩,by simp⟩
   | some u=>
    obtain⟨hu1,hu2⟩:=xH hc (.inr rfl) ht;have e1:y7 (some u)=(u,true):=rfl;simp only[e1,Bool.true_and,wq hu1,cond_false,Bool.not_true,contains_eq (show(out++[v]).length<=1000000000 by omega),Option.bind_some];by_cases hin:u∈out++[v]
    ·obtain⟨m2,hm2,hm2'⟩:=Ev (L:=out++[v]) (by omega) u;rw[bF];have hge: ¬m2<0:=fun h=>hm2'.1 h hin;simp only[hm2,Option.bind_some,decide_eq_false hge,cond_false,Sum.elim_inl,any_eq.2 hin,cond_true];cases hpu:(u.toList==place.toList)
     ·refine⟨([],false),_,rfl,rfl,⟨rfl,fun h=>by cases h⟩,by simp;omega⟩
     ·refine⟨(out++[v],true),_,rfl,rfl,⟨rfl,fun _=>rfl⟩,by simp;omega⟩
    ·have hne:(u.toList==place.toList)=false:=by
      rw[Bool.eq_false_iff];intro h;rw[fm.1 h]at hin;exact hin hpl
     have hnot:((out++[v]).any fun x=>u.toList==x.toList)=false:=by
      rw[Bool.eq_false_iff,ne_eq,any_eq];exact hin
     simp only[hne,cond_false,hnot,Option.bind_some,Sum.elim_inl,bQ (show(out++[v]).length+[u].length<=68719476736 by simp;omega)];have h9:=ih (out++[v]) u (by omega) (List.mem_cons_of_mem _ hu2) hin (.inl hpl) (by omega);simp only[lx (show L.length<=1048576 by omega),oJ (show L.length<=1048576 by omega),Option.bind_some]at h9;exact h9
 have h0:ug (place::L.map Claim.Value) []<=101:=by
  unfold ug;have:=List.length_filter_le (fun v=> !(([]:List ByteArray).any fun x=>v.toList==x.toList)) (place::L.map Claim.Value);simp only[List.length_cons,List.length_map]at this;omega
 obtain⟨a,b,h1,h2,h3,h4⟩:=key 101 [] place h0 List.mem_cons_self (by simp) (.inr rfl) (by simpa using h0);exact⟨a,b,h1,h2,h3,h4⟩
theorem nD{α A:Type}(p:Nat->α->Bool)(a:A): ∀(L:List α) (k:Nat),bW p (fun _ _=>a) L k=bif(bW p (fun _ _=>()) L k).isSome then some a else none
 | [],_=>rfl
 | x::l,k=>by
  unfold bW;cases p k x
  ·exact nD p a l (k+1)
  ·rfl
def rz(L:List Claim):Bool:=(bW (fun i x=>(L.take i).any (pW x)) (fun _ _=>()) L 0).isSome
theorem Ab{L:List Claim}(hL:L.length<=1048576):nF L=some (rz L):=by
 unfold nF bS cd rz;rw[fD (by omega) (fun i x=>(L.take i).any (pW x)) (fun _ _=>true) (fun i x hx=>by
  have hi:i<L.length:=(List.getElem?_eq_some_iff.1 hx).1;rw[ar,hx,Option.bind_some,kE (by omega) (by omega) (by omega),Option.bind_some];simp only[Int.toNat_zero,List.drop_zero,Int.toNat_natCast,Nat.sub_zero];rw[fE (L:=L.take i) (by rw[List.length_take];omega) (pW x) (fun k z hz=>by rw[ar,hz,Option.bind_some,K2,Option.bind_some])];simp only[Option.bind_some,ki]),nD]
 cases (bW (fun i x=>(L.take i).any (pW x)) (fun _ _=>()) L 0).isSome<;>rfl
theorem JO{α A:Type}{L:List α}(hL:L.length<=1048576){body:Int->Option (Int⊕(Unit⊕A))}(p:α->Bool)(a:A)(hend:body (L.length:Int)=some (.inr (.inl ())))(h: ∀(i:Nat) x,L[i]? =some x->body (i:Int)=bif p x then some (.inr (.inr a))else some (.inl (ap ((i:Int)+1)))):loop body 0=some (bif L.any p then .inr a else .inl ()):=by
 have key: ∀(M:List α) (k:Nat),L.drop k=M->k<=L.length->loop body (k:Int)=some (bif M.any p then .inr a else .inl ()):=by
  intro M
  induction M with
  | nil=>
   intro k hk hkl;have:L.length<=k:=List.drop_eq_nil_iff.1 hk;obtain rfl:k=L.length:=by omega
   rw[bF,hend];rfl
  | cons x M ih=>
   intro k hk hkl;have hx:L[k]? =some x:=by
    have:=List.getElem?_drop (xs:=L) (i:=k) (j:=0);rw[hk]at this;simpa using this.symm
   have hlt:k<L.length:=(List.getElem?_eq_some_iff.1 hx).1;rw[bF,h k x hx];cases hp:p x
   ·rw[cond_false,List.any_cons,hp,Bool.false_or,bg (by omega) (by omega)];have h2:=ih (k+1) (by rw[<-List.drop_drop,hk];rfl) (by omega);exact h2
   ·rw[cond_true,List.any_cons,hp];rfl
 exact key L 0 rfl (by omega)
def rE(L:List Claim)(p:ByteArray)(y:Int):Bool:=((eW L p y).map Prod.snd).getD false
theorem Fx{L:List Claim}(hL:L.length<=100)(hc: ∀x∈L,cg x=true)(p:ByteArray)(y:Int): ∃l,eW L p y=some (l,rE L p y):=by
 obtain⟨a,b,h1,h2,h3,h4⟩:=Dz hL hc p y;refine⟨a.1,?_⟩;unfold rE;rw[h1];rfl
theorem KM{L:List Claim}(hL:L.length<=100)(hc: ∀x∈L,cg x=true)(p:ByteArray)(y:Int): ∃l,lL L p y=some (l,rE L p y):=by
 obtain⟨a,b,h1,h2,h3,h4⟩:=Dz hL hc p y;refine⟨b.1,?_⟩;unfold rE;rw[h1,h2];simp[h3.1]
theorem KN{L:List Claim}(hL:L.length<=100){p:ByteArray}{y:Int}(h:rE L p y=true): ∃d∈L,d.Kind=1/\d.Place=p/\inB y d.Years.From d.Years.To=true:=by
 cases ht:L.find? (oV 1 p y)with
 | none=>
  exfalso;unfold rE eW at h;have hat:at' [p] (ap ((([p]:List ByteArray).length:Int)- 1))=some p:=rfl;have e0:y7 (tel L 1 p y)=(ByteArray.mk #[],false):=by unfold tel;rw[ht];rfl
  rw[bF]at h;simp only[hat,Option.bind_some,lx (show L.length<=1048576 by omega),e0,Bool.false_and,cond_false,Bool.not_false,cond_true,Sum.elim_inr,Option.map_some,Option.getD_some]at h;cases h
 | some d=>
  have h1:=List.find?_some ht;unfold oV at h1;rw[Bool.and_eq_true,Bool.and_eq_true,beq_iff_eq]at h1;exact⟨d,List.mem_of_find?_eq_some ht,h1.1,fm.1 h1.2.1,h1.2.2⟩
def vk(L:List Claim):Bool:=L.any fun c=>(c.Kind==1)&&L.any fun d=>rE L d.Place c.Years.From
theorem MF{L:List Claim}(hL:L.length<=100):(L.any fun c=>L.any fun d=>((c.Kind==1)&&((d.Kind==1)&&inB c.Years.From d.Years.From d.Years.To))&&rE L d.Place c.Years.From)=vk L:=by
 unfold vk;rw[Bool.eq_iff_iff,List.any_eq_true,List.any_eq_true];constructor
 ·rintro⟨c,hc,h⟩;obtain⟨d,hd,h⟩:=List.any_eq_true.1 h;rw[Bool.and_eq_true,Bool.and_eq_true]at h;exact⟨c,hc,Bool.and_eq_true_iff.2 ⟨h.1.1,List.any_eq_true.2 ⟨d,hd,h.2⟩⟩⟩
 ·rintro⟨c,hc,h⟩;rw[Bool.and_eq_true]at h;obtain⟨d,hd,h2⟩:=List.any_eq_true.1 h.2;obtain⟨e,he,h3,h4,h5⟩:=KN hL h2;refine⟨c,hc,List.any_eq_true.2 ⟨e,he,?_⟩⟩;rw[h.1,h5,h4,h2,h3];rfl
theorem DI{α A:Type}{L:List α}(hL:L.length<=1048576){B:Int->Unit->Option (Unit⊕(Unit⊕A))}(p:α->Bool)(a:A)(h: ∀(i:Nat) x,L[i]? =some x->B (i:Int) ()=bif p x then some (.inr (.inr a))else some (.inl ())):
  dc (L.length:Int) B (fun _=> .inl ()) 0 ()=bif L.any p then some (.inr a)else some (.inl ()):=by
 rw[kQ L (by omega) B (fun _ x _=>bif p x then some (.inr (.inr a))else some (.inl ())) _ () (fun j x _ hx=>h j x hx),yu];cases L.any p<;>rfl
theorem wM{L:List Claim}(hL:L.length<=100)(hc: ∀x∈L,cg x=true):lq L=some (vk L):=by
 unfold lq gu;rw[jr (by omega) (fun c=>L.any fun d=>((c.Kind==1)&&((d.Kind==1)&&inB c.Years.From d.Years.From d.Years.To))&&rE L d.Place c.Years.From) true (fun i c hx=>by
  rw[ar,hx,Option.bind_some,DI (by omega) (fun d=>((c.Kind==1)&&((d.Kind==1)&&inB c.Years.From d.Years.From d.Years.To))&&rE L d.Place c.Years.From) (.inr true) (fun k d hd=>by
   obtain⟨l,hl⟩:=Fx hL hc d.Place c.Years.From;rw[ar,hd,Option.bind_some,fU,hl];unfold bne;cases c.Kind==1<;>cases d.Kind==1<;>cases inB c.Years.From d.Years.From d.Years.To<;>rfl)]),MF hL]
 cases vk L<;>rfl
theorem oD{L:List Claim}(hL:L.length<=100)(hc: ∀x∈L,cg x=true):bB L=some (!rz L&& !vk L):=by
 unfold bB;rw[fD (by omega) (fun i x=>(L.take i).any (pW x)) (fun _ _=>false) (fun i x hx=>by
  have hi:i<L.length:=(List.getElem?_eq_some_iff.1 hx).1;have hl:(L.take i).length=i:=by rw[List.length_take];omega
  have:=DI (A:=Unit⊕Bool) (L:=L.take i) (by omega) (B:=fun(i7:Int) (_:Unit)=>((at' L (i:Int)).bind fun x11=>((at' L i7).bind fun x12=>((eb x11 x12).bind fun x13=>(bif x13 then some (.inr (.inr (.inr false)))else some (.inl ())))))) (pW x) (.inr false) (fun k z hz=>by
   have hz':L[k]? =some z:=by
    have hk:k<i:=by have:=(List.getElem?_eq_some_iff.1 hz).1;omega
    rw[<-hz,List.getElem?_take_of_lt hk]
   simp only[ar,hx,hz',Option.bind_some,LX])
  rw[hl]at this;exact this),nD]
 unfold rz;rw[jr (by omega) (fun c=>(c.Kind==1)&&L.any fun d=>rE L d.Place c.Years.From) false (fun i c hx=>by
  cases hk:(c.Kind==1)
  ·rw[bF];simp only[ar,hx,Option.bind_some,hk,Bool.false_and,cond_false];cases decide ((0:Int)<(L.length:Int))<;>rfl
  ·rw[JO (L:=L) (by omega) (fun d:Claim=>rE L d.Place c.Years.From) (.inr false) (by
    rw[decide_eq_false (by omega)];rfl) (fun k d hd=>by
    obtain⟨l,hl⟩:=KM hL hc d.Place c.Years.From;have hkl:k<L.length:=(List.getElem?_eq_some_iff.1 hd).1;rw[decide_eq_true (by omega),cond_true];simp only[ar,hx,hd,Option.bind_some,hk,cond_true,hl];cases rE L d.Place c.Years.From<;>rfl)]
   cases (L.any fun d=>rE L d.Place c.Years.From)<;>rfl)]
 unfold vk;cases (bW (fun i x=>(L.take i).any (pW x)) (fun _ _=>()) L 0).isSome
 ·cases (L.any fun c=>(c.Kind==1)&&L.any fun d=>rE L d.Place c.Years.From)<;>rfl
 ·rfl
def mH(L:List Claim):Bool:= !rz L&& !vk L
theorem fy{L:List Claim}(hL:L.length<=100)(hc: ∀x∈L,cg x=true):bJ L=some (mH L):=by
 unfold bJ mH;rw[Ab (by omega),wM hL hc];cases rz L<;>rfl
theorem az{L:List Claim}:aU L=true↔L.length<=12/\ ∀x∈L,cg x=true:=by
 unfold aU;rw[Bool.and_eq_true,decide_eq_true_eq,List.all_eq_true]
def abC(L:List Claim)(p:ByteArray)(y:Int):Int:=bif aU L&&cR p then bif inB y (-3000) 3000 then 0 else 2 else 1
theorem CQ{L:List Claim}(hL:L.length<=1048576)(h: ∀x∈L,cW x){p:ByteArray}(hp:p.size<=1048576)(y:Int):lk L p y=some (abC L p y):=by
 unfold lk kT abC;rw[jf hL h,o7 p (by unfold maxLen;omega),fU];cases aU L<;>cases cR p<;>cases inB y (-3000) 3000<;>rfl
theorem q6{L:List Claim}(hL:L.length<=1048576)(h: ∀x∈L,cW x){p:ByteArray}(hp:p.size<=1048576)(y:Int):jR L p y=some (abC L p y):=by
 unfold jR jP abC;rw[lF hL h,hU p (by unfold maxLen;omega),jo];cases aU L<;>cases cR p<;>cases inB y (-3000) 3000<;>rfl
def soC(L:List Claim)(p:ByteArray)(y:Int):Int:=bif abC L p y==0 then bif mH L then 0 else 5 else abC L p y
theorem pP{L:List Claim}{p:ByteArray}{y:Int}(h:(abC L p y==0)=true):aU L=true:=by
 unfold abC at h;cases hc:aU L
 ·rw[hc]at h;simp at h
 ·rfl
theorem vv{L:List Claim}(hL:L.length<=1048576)(h: ∀x∈L,cW x){p:ByteArray}(hp:p.size<=1048576)(y:Int):kv L p y=some (soC L p y):=by
 unfold kv soC;rw[q6 hL h hp,Option.bind_some];cases h0:(abC L p y==0)
 ·rfl
 ·obtain⟨h1,h2⟩:=az.1 (pP h0);rw[oD (by omega) h2,<-mH];cases mH L
  ·rfl
  ·simp only[cond_true,Option.bind_some,Bool.not_true,cond_false,beq_iff_eq.1 h0]
theorem GO{L:List Claim}{p:ByteArray}{y:Int}(h:(soC L p y !=0)=false):aU L=true:=by
 unfold soC at h;cases h0:(abC L p y==0)
 ·rw[h0,cond_false,bne,h0]at h;cases h
 ·exact pP h0
def Kk(L:List Claim)(k:Int)(p:ByteArray)(y:Int):ByteArray×Int:=bif soC L p y !=0 then(ByteArray.mk #[],soC L p y)else match tel L k p y with | some v=>(v,0) | none=>(ByteArray.mk #[],4)
theorem Cr{L:List Claim}(hL:L.length<=1048576)(h: ∀x∈L,cW x){p:ByteArray}(hp:p.size<=1048576)(y:Int):pf L p y=some (Kk L 0 p y):=by
 unfold pf Kk;rw[vv hL h hp,Option.bind_some,E2 hL,Option.bind_some];cases h0:(soC L p y !=0)
 ·obtain⟨h1,h2⟩:=az.1 (GO h0);cases ht:tel L 0 p y with
  | none=>
   have e2:((y7 none).1.toList==(ByteArray.mk #[]).toList)=true:=fm.2 rfl;rw[e2];rfl
  | some v=>
   have e2:((y7 (some v)).1.toList==(ByteArray.mk #[]).toList)=false:=wq (xH h2 (.inl rfl) ht).1;rw[e2];rfl
 ·rfl
theorem yY{L:List Claim}(hL:L.length<=1048576)(h: ∀x∈L,cW x){p:ByteArray}(hp:p.size<=1048576)(y:Int):my L p y=some (Kk L 1 p y):=by
 unfold my Kk;rw[vv hL h hp,Option.bind_some,oJ hL,Option.bind_some];cases h0:(soC L p y !=0)
 ·obtain⟨h1,h2⟩:=az.1 (GO h0);cases ht:tel L 1 p y with
  | none=>
   have e2:((y7 none).1.toList==(ByteArray.mk #[]).toList)=true:=fm.2 rfl;rw[e2];rfl
  | some v=>
   have e2:((y7 (some v)).1.toList==(ByteArray.mk #[]).toList)=false:=wq (xH h2 (.inr rfl) ht).1;rw[e2];rfl
 ·rfl
theorem Ju(x:Claim):pW x x=false:=by
 unfold pW;have h:(x.Kind==1&&(x.Kind==3&&x.Value.toList==x.Place.toList))=false:=by
  rw[Bool.eq_false_iff];intro h;rw[Bool.and_eq_true,Bool.and_eq_true,beq_iff_eq,beq_iff_eq]at h;omega
 rw[h];simp
theorem Jt(x y:Claim):pW x y=pW y x:=by
 unfold pW;rw[BEq.comm (a:=x.Place.toList),BEq.comm (a:=x.Kind) (b:=y.Kind),BEq.comm (a:=x.Value.toList) (b:=y.Value.toList)];have h:(bif y.Kind==x.Kind then((x.Kind==0) || (x.Kind==1))&& !(y.Value.toList==x.Value.toList)else(x.Kind==3) || (y.Kind==3))=(bif y.Kind==x.Kind then((y.Kind==0) || (y.Kind==1))&& !(y.Value.toList==x.Value.toList)else(y.Kind==3) || (x.Kind==3)):=by
  by_cases hk:y.Kind=x.Kind
  ·rw[hk]
  ·rw[beq_eq_false_iff_ne.2 hk,cond_false,cond_false,Bool.or_comm]
 rw[h];generalize (bif y.Kind==x.Kind then((y.Kind==0) || (y.Kind==1))&& !(y.Value.toList==x.Value.toList)else(y.Kind==3) || (x.Kind==3))=c;generalize (x.Kind==1&&(y.Kind==3&&x.Value.toList==y.Place.toList))=a;generalize (y.Kind==1&&(x.Kind==3&&y.Value.toList==x.Place.toList))=b;generalize (y.Place.toList==x.Place.toList)=z;generalize decide (x.Years.From<=y.Years.To)=m;generalize decide (y.Years.From<=x.Years.To)=n;cases m<;>cases n<;>cases a<;>cases b<;>cases c<;>cases z<;>rfl
theorem sK{α:Type}(p:Nat->α->Bool): ∀(L:List α) (k:Nat),(bW p (fun _ _=>()) L k).isSome=true↔ ∃i x,L[i]? =some x/\p (k+i) x=true
 | [],k=>by simp[bW]
 | x::l,k=>by
  unfold bW;cases hp:p k x
  ·rw[cond_false,sK p l (k+1)];constructor
   ·rintro⟨i,y,h1,h2⟩;exact⟨i+1,y,by simpa using h1,by rw[<-h2];congr 1;omega⟩
   ·rintro⟨i,y,h1,h2⟩;cases i with
    | zero=>
     have:x=y:=by simpa using h1
     subst this;rw[Nat.add_zero,hp]at h2;cases h2
    | succ i=>exact⟨i,y,by simpa using h1,by rw[<-h2];congr 1;omega⟩
  ·simp only[cond_true,Option.isSome_some,true_iff];exact⟨0,x,rfl,hp⟩
theorem yv{L:List Claim}:rz L=true↔ ∃x∈L,∃y∈L,pW x y=true:=by
 unfold rz;rw[sK];simp only[Nat.zero_add,List.any_eq_true];constructor
 ·rintro⟨i,x,h1,y,h2,h3⟩;exact⟨x,List.mem_of_getElem? h1,y,List.mem_of_mem_take h2,h3⟩
 ·rintro⟨x,hx,y,hy,h⟩;obtain⟨i,hi,rfl⟩:=List.mem_iff_getElem.1 hx;obtain⟨k,hk,rfl⟩:=List.mem_iff_getElem.1 hy;rcases Nat.lt_trichotomy i k with hik | rfl | hik
  ·refine⟨k,L[k],List.getElem?_eq_getElem hk,L[i],?_,by rw[Jt];exact h⟩;exact List.mem_take_iff_getElem.2 ⟨i,by omega,rfl⟩
  ·rw[Ju]at h;cases h
  ·exact⟨i,L[i],List.getElem?_eq_getElem hi,L[k],List.mem_take_iff_getElem.2 ⟨k,by omega,rfl⟩,h⟩
theorem LB{L:List Claim}(h:rz L=false){x y:Claim}(hx:x∈L)(hy:y∈L):pW x y=false:=by
 rw[Bool.eq_false_iff];intro hc;rw[yv.2 ⟨x,hx,y,hy,hc⟩]at h;cases h
theorem K7{y a b c d:Int}(h1:inB y a b=true)(h2:inB y c d=true):(decide (a<=d)&&decide (c<=b))=true:=by
 rw[iU]at h1 h2;rw[Bool.and_eq_true,decide_eq_true_eq,decide_eq_true_eq];omega
theorem NG{k:Int}(hk:k=0\/k=1){x y:Claim}{p:ByteArray}{t:Int}(h:pW x y=false)(h1:oV k p t x=true)(h2:oV k p t y=true):x.Value=y.Value:=by
 unfold oV at h1 h2;rw[Bool.and_eq_true,Bool.and_eq_true,beq_iff_eq]at h1 h2;unfold pW at h;rw[K7 h1.2.2 h2.2.2,Bool.true_and,h1.1,h2.1,fm.1 h1.2.1,fm.1 h2.2.1,fm.2 rfl]at h;have hv:(x.Value.toList==y.Value.toList)=true:=by
  rcases hk with rfl | rfl<;>simpa using h
 exact fm.1 hv
theorem Md{L M:List Claim}(hs: ∀x∈M,x∈L)(h:rz L=false){k:Int}(hk:k=0\/k=1){p:ByteArray}{t:Int}{v:ByteArray}(hv:tel M k p t=some v):tel L k p t=some v:=by
 unfold tel at hv⊢;rw[Option.map_eq_some_iff]at hv⊢;obtain⟨c,hc,rfl⟩:=hv;have h1:=List.find?_some hc;have h2:=hs c (List.mem_of_find?_eq_some hc);cases hf:L.find? (oV k p t)with
 | none=>
  rw[List.find?_eq_none]at hf;exact absurd h1 (hf c h2)
 | some d=>exact⟨d,rfl,NG hk (LB h (List.mem_of_find?_eq_some hf) h2) (List.find?_some hf) h1⟩
def Fy(L:List Claim)(p:ByteArray)(y:Int)(s1:List ByteArray):Option (List ByteArray⊕(List ByteArray×Bool)):=((at' s1 (ap ((s1.length:Int)- 1))).bind fun x3=>((fi L x3 y).bind fun x4=>(((bif(x4.2&&(x4.1.toList==p.toList))then some (.inr (.inr (s1,true)))else(((bif(!x4.2)then some true else((bh s1 x4.1).bind fun x7=>some x7))).bind fun(j8:Bool)=>(bif j8 then some (.inr (.inr (([]:List ByteArray),false)))else some (.inl ()))))).bind (Sum.elim (fun(_:Unit)=>((bP s1 ([x4.1]:List ByteArray)).bind fun x10=>some (.inl x10))) some))))
theorem Dy(L:List Claim)(p:ByteArray)(y:Int):eW L p y=loop (Fy L p y) [p]:=rfl
theorem Bh{L:List Claim}(hL:L.length<=100)(_hc: ∀x∈L,cg x=true){p:ByteArray}{y:Int}{out:List ByteArray}{v:ByteArray}(hl:out.length<=101):Fy L p y (out++[v])=match tel L 1 v y with
  | none=>some (.inr ([],false))
  | some u=>bif u.toList==p.toList then some (.inr (out++[v],true))else bif(out++[v]).any (fun x=>u.toList==x.toList)then some (.inr ([],false))else some (.inl (out++[v]++[u])):=by
 have hlen:(out++[v]).length=out.length+1:=by simp
 have hat:at' (out++[v]) (ap (((out++[v]).length:Int)- 1))=some v:=by
  rw[bg (by omega) (by omega),hlen,show((out.length+1:Nat):Int)- 1=(out.length:Int) by omega,ar];simp
 unfold Fy;simp only[hat,Option.bind_some,lx (show L.length<=1048576 by omega)];cases ht:tel L 1 v y with
 | none=>
  have e0:y7 none=(ByteArray.mk #[],false):=rfl;simp only[e0,Bool.false_and,cond_false,cond_true,Bool.not_false,Option.bind_some,Sum.elim_inr]
 | some u=>
  have e1:y7 (some u)=(u,true):=rfl;simp only[e1,Bool.true_and,Bool.not_true,cond_false,contains_eq (show(out++[v]).length<=1000000000 by omega),Option.bind_some];cases u.toList==p.toList
  ·rw[cond_false,cond_false];cases (out++[v]).any (fun x=>u.toList==x.toList)
   ·rw[cond_false,cond_false,Option.bind_some,Sum.elim_inl,bQ (show(out++[v]).length+[u].length<=68719476736 by simp;omega),Option.bind_some]
   ·rw[cond_true,cond_true,Option.bind_some,Sum.elim_inr]
  ·rw[cond_true,cond_true,Option.bind_some,Sum.elim_inr]
theorem KL{L M:List Claim}(hL:L.length<=100)(hM:M.length<=100)(hs: ∀x∈M,x∈L)(hc: ∀x∈L,cg x=true)(h:rz L=false){p:ByteArray}{y:Int}(hb:rE M p y=true):rE L p y=true:=by
 have hcM: ∀x∈M,cg x=true:=fun x hx=>hc x (hs x hx);obtain⟨l,hl⟩:=Fx hM hcM p y;rw[hb]at hl;have key: ∀(n:Nat) (out:List ByteArray) (v:ByteArray),ug (p::M.map Claim.Value) out<=n->v∈p::M.map Claim.Value->v∉out->out.length+ug (p::M.map Claim.Value) out<=101-> ∀l,loop (Fy M p y) (out++[v])=some (l,true)->loop (Fy L p y) (out++[v])=some (l,true):=by
  intro n
  induction n with
  | zero=>
   intro out v h1 h2 h3;have:=xI h2 h3;omega
  | succ n ih=>
   intro out v h1 h2 h3 h13 l hl;have hlt:=xI h2 h3;have hlen:(out++[v]).length=out.length+1:=by simp
   rw[bF,Bh hM hcM (by omega)]at hl;rw[bF,Bh hL hc (by omega)];cases ht:tel M 1 v y with
   | none=>
    rw[ht]at hl;simp at hl
   | some u=>
    rw[ht]at hl;rw[Md hs h (.inr rfl) ht];dsimp only at hl⊢;cases hu:(u.toList==p.toList)
    ·rw[hu]at hl;rw[cond_false]at hl⊢;cases hin:(out++[v]).any (fun x=>u.toList==x.toList)
     ·rw[hin]at hl;rw[cond_false]at hl⊢;refine ih (out++[v]) u (by omega) (List.mem_cons_of_mem _ (xH hcM (.inr rfl) ht).2) (fun h=> ?_) (by omega) l hl;rw[any_eq.2 h]at hin;cases hin
     ·rw[hin]at hl;simp at hl
    ·rw[hu]at hl;exact hl
 have h0:ug (p::M.map Claim.Value) []<=101:=by
  unfold ug;have:=List.length_filter_le (fun v=> !(([]:List ByteArray).any fun x=>v.toList==x.toList)) (p::M.map Claim.Value);simp only[List.length_cons,List.length_map]at this;omega
 rw[Dy]at hl;have hl':=key 101 [] p h0 List.mem_cons_self (by simp) (by simpa using h0) l hl;unfold rE;rw[Dy,show([p]:List ByteArray)=[]++[p]from rfl,hl'];rfl
theorem Hp{L M:List Claim}(hL:L.length<=100)(hM:M.length<=100)(hs: ∀x∈M,x∈L)(hc: ∀x∈L,cg x=true)(h:rz L=false)(hb:vk M=true):vk L=true:=by
 unfold vk at hb⊢;obtain⟨c,h1,h2⟩:=List.any_eq_true.1 hb;rw[Bool.and_eq_true]at h2;obtain⟨d,h3,h4⟩:=List.any_eq_true.1 h2.2;exact List.any_eq_true.2 ⟨c,hs c h1,Bool.and_eq_true_iff.2 ⟨h2.1,List.any_eq_true.2 ⟨d,hs d h3,KL hL hM hs hc h h4⟩⟩⟩
theorem vD{L M:List Claim}(hL:L.length<=100)(hM:M.length<=100)(hs: ∀x∈M,x∈L)(hc: ∀x∈L,cg x=true)(h:mH L=true):mH M=true:=by
 unfold mH at h⊢;rw[Bool.and_eq_true,Bool.not_eq_true',Bool.not_eq_true']at h⊢;constructor
 ·rw[Bool.eq_false_iff];intro hp;obtain⟨x,hx,y,hy,hxy⟩:=yv.1 hp;rw[yv.2 ⟨x,hs x hx,y,hs y hy,hxy⟩]at h;cases h.1
 ·rw[Bool.eq_false_iff];intro hp;rw[Hp hL hM hs hc h.1 hp]at h;cases h.2
def sz(L:List Claim)(I:List Int):List Claim:=(List.range I.length).flatMap fun i=>((I[i]?).bind fun x=>L[x.toNat]?).toList
theorem Fw{L:List Claim}{I:List Int}{x:Claim}(h:x∈sz L I):x∈L:=by
 unfold sz at h;obtain⟨i,_,h⟩:=List.mem_flatMap.1 h;rw[Option.mem_toList]at h;obtain⟨k,_,h⟩:=Option.bind_eq_some_iff.1 h;exact List.mem_of_getElem? h
theorem Fv(L:List Claim)(I:List Int):(sz L I).length<=I.length:=by
 unfold sz;have key: ∀R:List Nat,(R.flatMap fun i=>((I[i]?).bind fun x=>L[x.toNat]?).toList).length<=R.length:=by
  intro R
  induction R with
  | nil=>simp
  | cons i r ih=>
   rw[List.flatMap_cons,List.length_append,List.length_cons];have:(((I[i]?).bind fun x=>L[x.toNat]?).toList).length<=1:=by
    cases ((I[i]?).bind fun x=>L[x.toNat]?)<;>simp
   omega
 have:=key (List.range I.length)
 rwa [List.length_range]at this
theorem te{L:List Claim}{I:List Int}(hI:I.length<=100)(h: ∀x∈I,0<=x/\x<L.length):kR L I=some (sz L I):=by
 unfold kR;rw[qC 1000 (by omega) (by omega) (fun i=>((I[i]?).bind fun x=>L[x.toNat]?).toList) (fun i=>by cases ((I[i]?).bind fun x=>L[x.toNat]?)<;>simp) [] (by simp;omega) (fun i s hi hs=>by
  have h1:=h _ (List.getElem_mem hi);rw[ar,List.getElem?_eq_getElem hi,Option.bind_some];obtain⟨c,h2,h3⟩:=NQ (L:=L) h1.1 h1.2;rw[h2,Option.bind_some,Option.bind_some,h3,bQ (by simp;omega)];rfl)]
 rfl
theorem oC{L:List Claim}{I:List Int}(hI:I.length<=100)(h: ∀x∈I,0<=x/\x<L.length):ez L I=some (sz L I):=te hI h
theorem pS{L:List Claim}{I:List Int}(hI:I.length<=100)(hc:aU L=true):(sz L I).length<=100/\ ∀x∈sz L I,cg x=true:=by
 have:=Fv L I;exact⟨by omega,fun x hx=>(az.1 hc).2 x (Fw hx)⟩
theorem kd{L:List Claim}(hL:L.length<=100)(hc: ∀x∈L,cg x=true):bB L=some (mH L):=oD hL hc
def sY(R:List Int)(i:Int):Bool:=R.any fun x=>i==x
theorem FW{R:List Int}{i:Int}:sY R i=true↔i∈R:=by
 unfold sY;rw[List.any_eq_true];exact⟨fun⟨x,h1,h2⟩=>by rw[beq_iff_eq.1 h2];exact h1,fun h=>⟨i,h,beq_self_eq_true _⟩⟩
theorem K3{R:List Int}(hR:R.length<=1000000)(i:Int):fJ R i=some (sY R i):=by
 unfold fJ kP sY;rw[fE (by omega) (fun x=>i==x) (fun k x hx=>by rw[ar,hx];rfl),Option.bind_some,ki]
theorem LY{R:List Int}(hR:R.length<=1000000)(i:Int):pg R i=some (sY R i):=by
 unfold pg sY;rw[jr (by omega) (fun x=>i==x) true (fun k x hx=>by rw[ar,hx,Option.bind_some,BEq.comm])];cases R.any fun x=>i==x<;>rfl
def zG(n:Nat)(R:List Int):List Int:=(List.range n).flatMap fun(i:Nat)=>bif sY R (i:Int)then[]else[(i:Int)]
theorem wZ{n:Nat}{R:List Int}{x:Int}:x∈zG n R↔ ∃i:Nat,x=i/\i<n/\(i:Int)∉R:=by
 unfold zG;rw[List.mem_flatMap];constructor
 ·rintro⟨i,hi,hx⟩;cases h:sY R (i:Int)
  ·rw[h]at hx;have:x=i:=by simpa using hx
   exact⟨i,this,List.mem_range.1 hi,fun hm=>by rw[FW.2 hm]at h;cases h⟩
  ·rw[h]at hx;simp at hx
 ·rintro⟨i,rfl,hi,hn⟩;refine⟨i,List.mem_range.2 hi,?_⟩;have:sY R (i:Int)=false:=by
   rw[Bool.eq_false_iff,ne_eq,FW];exact hn
  rw[this];simp
theorem IN{α β:Type}{f:α->List β}(hf: ∀x,(f x).length<=1): ∀(M:List α),(M.flatMap f).length<=M.length
 | []=>by simp
 | x::M=>by
  have h1:=hf x;have h2:=IN hf M;rw[List.flatMap_cons,List.length_append,List.length_cons];omega
theorem GG(R:List Int)(i:Nat):(bif sY R (i:Int)then([]:List Int)else[(i:Int)]).length<=1:=by cases sY R (i:Int)<;>simp
theorem xb(n:Nat)(R:List Int):(zG n R).length<=n:=by
 have:=IN (GG R) (List.range n);rw[List.length_range]at this;exact this
theorem xw{L:List Claim}(hL:L.length<=1000000){R:List Int}(hR:R.length<=1000000):jS L R=some (zG L.length R):=by
 unfold jS;rw[qC 1000000 hL (by omega) (fun(i:Nat)=>bif sY R (i:Int)then[]else[(i:Int)]) (GG R) [] (by simpa using hL) (fun i s hi hs=>by
  rw[LY hR,Option.bind_some];cases sY R (i:Int)
  ·rw[Bool.not_false,cond_true,cond_false,bQ (by simp;omega)];rfl
  ·simp)]
 rfl
theorem vG{α β:Type}(g:α->Option β): ∀(I:List α),(List.range I.length).flatMap (fun i=>((I[i]?).bind g).toList)=I.flatMap fun x=>(g x).toList
 | []=>rfl
 | x::I=>by
  rw[List.length_cons,List.range_succ_eq_map,List.flatMap_cons,List.flatMap_cons,List.flatMap_map,<-vG g I];rfl
theorem Dx(L:List Claim)(I:List Int):sz L I=I.flatMap fun x=>(L[x.toNat]?).toList:=vG (fun x:Int=>L[x.toNat]?) I
theorem Bf{L:List Claim}{I:List Int}{c:Claim}:c∈sz L I↔ ∃x∈I,L[x.toNat]? =some c:=by
 rw[Dx,List.mem_flatMap];constructor
 ·rintro⟨x,hx,hc⟩;rw[Option.mem_toList]at hc;exact⟨x,hx,hc⟩
 ·rintro⟨x,hx,hc⟩;exact⟨x,hx,by rw[Option.mem_toList];exact hc⟩
def kU(L:List Claim)(R:List Int):List Claim:=sz L (zG L.length R)
theorem BY{L:List Claim}{R:List Int}{c:Claim}:c∈kU L R↔ ∃i:Nat,(i:Int)∉R/\L[i]? =some c:=by
 unfold kU;rw[Bf];constructor
 ·rintro⟨x,hx,hc⟩;obtain⟨i,rfl,hi,hn⟩:=wZ.1 hx;exact⟨i,hn,by simpa using hc⟩
 ·rintro⟨i,hn,hc⟩;exact⟨i,wZ.2 ⟨i,rfl,(List.getElem?_eq_some_iff.1 hc).1,hn⟩,by simpa using hc⟩
theorem wN{L:List Claim}(hL:L.length<=1000000){R:List Int}(hR:R.length<=1000000):qd L R=some (kU L R):=by
 unfold qd;rw[qC 1000000 hL (by omega) (fun(i:Nat)=>bif sY R (i:Int)then[]else(L[i]?).toList) (fun(i:Nat)=>by
  cases sY R (i:Int)
  ·cases L[i]? <;>simp
  ·simp) [] (by simpa using hL) (fun i s hi hs=>by
  rw[ar,List.getElem?_eq_getElem hi,Option.bind_some,K3 hR,Option.bind_some];cases sY R (i:Int)
  ·rw[Bool.not_false,cond_true,cond_false,bQ (by simp;omega)];rfl
  ·simp)]
 unfold kU zG;rw[Dx,List.flatMap_assoc,List.nil_append,Option.bind_some];congr 2;funext i;cases sY R (i:Int)<;>simp
theorem o8{L:List Claim}(hc:aU L=true)(R:List Int):(kU L R).length<=100/\ ∀x∈kU L R,cg x=true:=by
 have h1:=(az.1 hc).1;have h2:=xb L.length R;exact pS (I:=zG L.length R) (by omega) hc
def fK(L:List Claim)(R:List Int):Bool:=mH (kU L R)
theorem BI{L:List Claim}(hc:aU L=true){R:List Int}(hR:R.length<=1000000):km L R=some (fK L R):=by
 have h1:=(az.1 hc).1;obtain⟨h2,h3⟩:=o8 hc R;unfold km fK;rw[wN (by omega) hR,Option.bind_some,fy h2 h3];rfl
theorem oK{L:List Claim}(hc:aU L=true){R:List Int}(hR:R.length<=1000000):gV L R=some (fK L R):=by
 have h1:=(az.1 hc).1;obtain⟨h2,h3⟩:=o8 hc R;have h4:=xb L.length R;unfold gV fK;rw[xw (by omega) hR,Option.bind_some,oC (by omega) (fun x hx=>by
  obtain⟨i,rfl,hi,_⟩:=wZ.1 hx;omega),Option.bind_some]
 show((bB (kU L R)).bind _)=_;rw[kd h2 h3];rfl
theorem B4{L:List Claim}(hc:aU L=true):A4 L.length (fK L):=fun R Q _ _ hs h=>by
 obtain⟨h2,h3⟩:=o8 hc R;obtain⟨h4,_⟩:=o8 hc Q;unfold fK at h⊢;refine vD h2 h4 (fun x hx=> ?_) h3 h;obtain⟨i,hn,hi⟩:=BY.1 hx;exact BY.2 ⟨i,fun hm=>hn (hs _ hm),hi⟩
theorem CH{R:List Int}(hR:R.length<=1000000){i:Nat}(hi:i<R.length):iE R (i:Int)=some (R.eraseIdx i):=by
 unfold iE;rw[kE (by omega) (by omega) (by omega),Option.bind_some,bg (n:=(i:Int)+1) (by omega) (by omega),kE (by omega) (by omega) (by omega)];simp only[Int.toNat_zero,List.drop_zero,Int.toNat_natCast,Nat.sub_zero,Option.bind_some];rw[bQ (by simp;omega),Option.bind_some,List.nil_append,show Int.toNat ((i:Int)+1)=i+1 by omega,bQ (by simp;omega),Option.bind_some,List.take_of_length_le (l:=R.drop (i+1)) (by rw[List.length_drop];omega),List.eraseIdx_eq_take_drop_succ]
theorem DG{α A:Type}(q:Nat->Bool)(a b:A)(R:List α):(match bW (fun i _=>q i) (fun _ _=>a) R 0 with | some r=>some r | none=>some b)=some (bif(List.range R.length).all fun i=> !q i then b else a):=by
 rw[nD];have h:=sK (fun i (_:α)=>q i) R 0;cases hs:(bW (fun i (_:α)=>q i) (fun _ _=>()) R 0).isSome
 ·have hall:((List.range R.length).all fun i=> !q i)=true:=by
   rw[List.all_eq_true];intro i hi;have hi:=List.mem_range.1 hi;rw[Bool.not_eq_true'];cases hq:q i with
   | false=>rfl
   | true=>
    rw[h.2 ⟨i,R[i],List.getElem?_eq_getElem hi,by rw[Nat.zero_add];exact hq⟩]at hs;cases hs
  rw[hall];rfl
 ·obtain⟨i,x,hx,hq⟩:=h.1 hs;have hi:=(List.getElem?_eq_some_iff.1 hx).1;have hall:((List.range R.length).all fun i=> !q i)=false:=by
   rw[Bool.eq_false_iff,ne_eq,List.all_eq_true];intro hh;have:=hh i (List.mem_range.2 hi);rw[Nat.zero_add]at hq;rw[hq]at this;cases this
  rw[hall];rfl
theorem AE{L:List Claim}(hc:aU L=true){R:List Int}(hR:R.length<=1000000):kH L R=some (iX (fK L) R):=by
 unfold kH iX;rw[oK hc hR,Option.bind_some];cases fK L R
 ·rfl
 ·rw[Bool.not_true,cond_false,fD (by omega) (fun i _=>fK L (R.eraseIdx i)) (fun _ _=>false) (fun i x hx=>by
   have hi:=(List.getElem?_eq_some_iff.1 hx).1;have h3:=List.length_eraseIdx_of_lt hi;rw[CH hR hi,Option.bind_some,oK hc (by omega),Option.bind_some])]
  refine(DG (A:=Bool) (fun i=>fK L (R.eraseIdx i)) false true R).trans ?_;cases (List.range R.length).all fun i=> !fK L (R.eraseIdx i)<;>rfl
theorem I2{R:List Int}(hR:R.length<=1000000):gn R=some R:=by
 unfold gn;rw[bQ (by simp;omega)];rfl
theorem Ba{n:Nat}{rep:List Int->Bool}: ∀(k f:Nat) (R:List Int),n - f<k->(kh rep n k f R).length<=2^(n - f):=by
 intro k
 induction k with
 | zero=>intro f R h;omega
 | succ k ih=>
  intro f R hk;unfold kh;cases rep R
  ·rw[cond_false];have key: ∀(m g:Nat),g+m=n->f<=g->((List.range' g m).flatMap fun i=>kh rep n k (i+1) (R++[(i:Int)])).length+1<=2^m:=by
    intro m
    induction m with
    | zero=>intro g _ _;simp
    | succ m ihm=>
     intro g hg hf;rw[List.range'_succ,List.flatMap_cons,List.length_append];have h1:=ih (g+1) (R++[(g:Int)]) (by omega);have h2:=ihm (g+1) (by omega) (by omega);have e:n -(g+1)=m:=by omega
     rw[e]at h1;rw[Nat.pow_succ];omega
   by_cases hfn:f<=n
   ·have:=key (n - f) f (by omega) (Nat.le_refl _);omega
   ·have:n - f=0:=by omega
    rw[this];simp
  ·have:1<=2^(n - f):=Nat.one_le_two_pow;cases iX rep R<;>simp<;>omega
theorem IY{R:List Int}{n f:Nat}(hR:gG n R)(hn:n<=1000000)(hf:fk R f):(bif(decide ((R.length:Int)>0))then((at' R (ap ((R.length:Int)- 1))).bind fun x5=>some (ap (x5+1)))else some 0)=some (f:Int):=by
 have hl:=hR.len;rcases List.eq_nil_or_concat R with h | ⟨l,x,h⟩
 ·subst h;have:=hf.2 0 (Int.le_refl _) (by simp);have hf0:f=0:=by omega
  rw[hf0];rfl
 ·rw[List.concat_eq_append]at h;subst h;have hx:=hR.2 x (by simp);have h1:=hf.1 x (by simp);have h2:=hf.2 (x+1) (by omega) (fun y hy=>by
   rcases List.mem_append.1 hy with hy | hy
   ·have:=(List.pairwise_append.1 hR.1).2.2 y hy x (by simp);omega
   ·rw[List.mem_singleton.1 hy];omega)
  have hlen:(l++[x]).length=l.length+1:=by simp
  rw[hlen]at hl;rw[decide_eq_true (show(((l++[x]).length:Int))>0 by rw[hlen];omega),cond_true,hlen,bg (by omega) (by omega),show((l.length+1:Nat):Int)- 1=(l.length:Int) by omega,ar];have:(l++[x])[l.length]? =some x:=by simp
  rw[this,Option.bind_some,bg (by omega) (by omega)];congr 1;omega
theorem GQ{L:List Claim}(hc:aU L=true): ∀(k f fuel:Nat) (R:List Int),L.length - f<k->k<=fuel->gG L.length R->fk R f->e9 fuel L R=some (kh (fK L) L.length k f R):=by
 have h12:=(az.1 hc).1;intro k
 induction k with
 | zero=>intro f fuel R h;omega
 | succ k ih=>
  intro f fuel R hk hfu hR hf;obtain⟨fuel,rfl⟩: ∃q,fuel=q+1:=⟨fuel - 1,by omega⟩;have hl:=hR.len;unfold e9 kh;rw[oK hc (by omega),Option.bind_some];cases hrep:fK L R
  ·rw[cond_false,cond_false,IY hR (by omega) hf,Option.bind_some];rw[eF,ur f (by omega)];have e:((L.length:Int)-(f:Int)).toNat=L.length - f:=by omega
   rw[e];have key: ∀(m g:Nat) (s:List (List Int)),g+m=L.length->f<=g->s.length+2^m<=100000->cV (fun i (s8:List (List Int))=>(((gn R).bind fun x12=>((bP x12 ([(i:Int)]:List Int)).bind fun x13=>((e9 fuel L x13).bind fun x14=>((bP s8 x14).bind fun x15=>some x15))))).map (Sum.inl (β:=List (List Int)))) (fun s=>s) m g s=some (s++(List.range' g m).flatMap fun i=>kh (fK L) L.length k (i+1) (R++[(i:Int)])):=by
    intro m
    induction m with
    | zero=>intro g s _ _ _;simp[cV]
    | succ m ihm=>
     intro g s hg hfg hs;have hs2:gG L.length (R++[(g:Int)]):=hR.snoc (by omega) (by omega) fun x hx=>by have:=hf.1 x hx;omega
     have hal:=Ba (n:=L.length) (rep:=fK L) k (g+1) (R++[(g:Int)]) (by omega);have e2:L.length -(g+1)=m:=by omega
     rw[e2]at hal;have hp:2^(m+1)=2^m+2^m:=by rw[Nat.pow_succ];omega
     have hstep:((gn R).bind fun x12=>((bP x12 ([(g:Int)]:List Int)).bind fun x13=>((e9 fuel L x13).bind fun x14=>((bP s x14).bind fun x15=>some x15))))=some (s++kh (fK L) L.length k (g+1) (R++[(g:Int)])):=by
      rw[I2 (by omega),Option.bind_some,bQ (by simp;omega),Option.bind_some,ih (g+1) fuel _ (by omega) (by omega) hs2 (hf.snoc hfg),Option.bind_some,bQ (by omega),Option.bind_some]
     unfold cV;simp only[hstep,Option.map_some];show cV _ _ m (g+1) (s++kh (fK L) L.length k (g+1) (R++[(g:Int)]))=_;rw[ihm (g+1) _ (by omega) (by omega) (by rw[List.length_append];omega),List.range'_succ,List.flatMap_cons,List.append_assoc]
   by_cases hfl:f<=L.length
   ·have hpow:2^(L.length - f)<=2^12:=Nat.pow_le_pow_right (by omega) (by omega);rw[key (L.length - f) f [] (by omega) (Nat.le_refl _) (by simp;omega)];rfl
   ·have e3:L.length - f=0:=by omega
    rw[e3];rfl
  ·rw[cond_true,cond_true,AE hc (by omega),Option.bind_some];cases iX (fK L) R<;>rfl
theorem LW{L:List Claim}(hc:aU L=true):tT L []=some (kh (fK L) L.length (L.length+1) 0 []):=by
 have h12:=(az.1 hc).1;exact GQ hc (L.length+1) 0 1000 [] (by omega) (by omega) (gG.nil _) fk.nil
theorem AV{L:List Claim}(hc:aU L=true){Q:List Int}:Q∈kh (fK L) L.length (L.length+1) 0 []↔gG L.length Q/\iX (fK L) Q=true:=by
 rw[BX (B4 hc) _ _ _ (by omega) (gG.nil _) fk.nil];exact⟨fun⟨h1,_,h3⟩=>⟨h1,h3⟩,fun⟨h1,h3⟩=>⟨h1,List.nil_prefix,h3⟩⟩
theorem I7(b i:Nat)(hi:i<=64):Int.fdiv (b:Int) (2^min (Int.toNat (i:Int)) 64)=((b/2^i:Nat):Int):=by
 rw[Int.toNat_natCast,Nat.min_eq_left hi,Int.fdiv_eq_ediv_of_nonneg _ (Int.le_of_lt (Int.pow_pos (by omega)))];rw[show(2:Int)^i=((2^i:Nat):Int) by rw[Int.natCast_pow];rfl];rfl
theorem AZ(i:Nat)(hi:i<=62):ap (1*2^min (Int.toNat (i:Int)) 64)=((2^i:Nat):Int):=by
 rw[Int.toNat_natCast,Nat.min_eq_left (by omega),Int.one_mul,show(2:Int)^i=((2^i:Nat):Int) by rw[Int.natCast_pow];rfl];have:2^i<=2^62:=Nat.pow_le_pow_right (by omega) hi;generalize 2^i=q at this⊢;exact bg (by omega) (by omega)
theorem N2(b i:Nat)(hb:b<2^62):((ap ((BitVec.ofInt 64 ((b/2^i:Nat):Int)&&&BitVec.ofInt 64 1).toNat:Int))==1)=b.testBit i:=by
 have h1:b/2^i<=b:=Nat.div_le_self _ _;rw[BitVec.ofInt_natCast,show BitVec.ofInt 64 1=BitVec.ofNat 64 1 from rfl,BitVec.toNat_and,BitVec.toNat_ofNat,BitVec.toNat_ofNat,Nat.mod_eq_of_lt (show b/2^i<2^64 by omega),show 1 % 2^64=1 from rfl,Nat.and_one_is_mod];have h2:b/2^i % 2<2:=Nat.mod_lt _ (by omega);rw[bg (by omega) (by omega),Nat.testBit_eq_decide_div_mod_eq];by_cases h:b/2^i % 2=1
 ·rw[h];rfl
 ·have:b/2^i % 2=0:=by omega
  rw[this];rfl
theorem GV{n i b:Nat}(hi:i<=n)(hb:b<2^i):dX n b=dX i b:=by
 induction n with
 | zero=>
  have:i=0:=by omega
  rw[this]
 | succ n ih=>
  rcases Nat.lt_or_ge i (n+1)with h | h
  ·have hb2:b<2^n:=Nat.lt_of_lt_of_le hb (Nat.pow_le_pow_right (by omega) (by omega));rw[uN,Nat.testBit_lt_two_pow hb2,cond_false,List.append_nil,ih (by omega)]
  ·have:i=n+1:=by omega
   rw[this]
theorem uc(n b:Nat):(dX n b).length<=n:=(qq n b).len
theorem oq{n b:Nat}(hn:n<=60)(hb:b<2^n):gg (b:Int)=some (dX n b):=by
 have hb62:b<2^62:=Nat.lt_of_lt_of_le hb (Nat.pow_le_pow_right (by omega) (by omega));unfold gg;have key: ∀(k i:Nat),i+k=n->loop (fun(s3:Int×(List Int))=>((sh' s3.1).bind fun _=>(bif(decide ((Int.fdiv (b:Int) (2^min (Int.toNat s3.1) 64))>0))then((((sh' s3.1).bind fun _=>(bif((ap ((BitVec.ofInt 64 (Int.fdiv (b:Int) (2^min (Int.toNat s3.1) 64))&&&BitVec.ofInt 64 1).toNat:Int))==1)then((bP s3.2 ([s3.1]:List Int)).bind fun x9=>some x9)else some s3.2))).bind fun(j6:(List Int))=>some (.inl ((ap (s3.1+1)),j6)))else some (.inr s3.2)))) ((i:Int),dX i b)=some (dX n b):=by
  intro k
  induction k with
  | zero=>
   intro i hi;have hin:i=n:=by omega
   subst hin;rw[bF];have h0:sh' (i:Int)=some ():=by unfold sh';rw[if_pos (by omega)]
   simp only[h0,Option.bind_some,I7 b i (by omega),Nat.div_eq_of_lt hb];rfl
  | succ k ih=>
   intro i hi;rw[bF];have h0:sh' (i:Int)=some ():=by unfold sh';rw[if_pos (by omega)]
   simp only[h0,Option.bind_some,I7 b i (by omega),N2 b i hb62];by_cases hp:b/2^i>0
   ·rw[decide_eq_true (show((b/2^i:Nat):Int)>0 by omega),cond_true];have hl:=uc i b;have:=ih (i+1) (by omega);rw[uN]at this;cases ht:b.testBit i
    ·rw[ht,cond_false,List.append_nil]at this;simp only[cond_false,Option.bind_some];rw[bg (by omega) (by omega)];exact this
    ·rw[ht,cond_true]at this;simp only[cond_true];rw[bQ (by simp;omega)];simp only[Option.bind_some];rw[bg (by omega) (by omega)];exact this
   ·rw[decide_eq_false (show ¬((b/2^i:Nat):Int)>0 by omega),cond_false];have hbi:b<2^i:=by
     rcases Nat.lt_or_ge b (2^i)with h | h
     ·exact h
     ·exact absurd (Nat.div_pos h (Nat.pow_pos (by omega))) hp
    rw[GV (n:=n) (i:=i) (by omega) hbi]
 have:=key n 0 (by omega);have e0:dX 0 b=[]:=rfl;rw[e0]at this;rw[show((0:Nat):Int)=0 from rfl]at this;rw[this];rfl
theorem N4(b i n:Nat)(hb:b<2^n)(hn:n<=60)(hi:i<n)(ht:b.testBit i=true): ∃c,c<b/\ap ((BitVec.ofInt 64 (b:Int)&&& ~~~BitVec.ofInt 64 (ap (1*2^min (Int.toNat (i:Int)) 64))).toNat:Int)=(c:Int)/\ ∀j,j<n->c.testBit j=(b.testBit j&& !decide (i=j)):=by
 have hb62:b<2^62:=Nat.lt_of_lt_of_le hb (Nat.pow_le_pow_right (by omega) (by omega));have hi62:2^i<=2^62:=Nat.pow_le_pow_right (by omega) (by omega);rw[AZ i (by omega),BitVec.ofInt_natCast,BitVec.ofInt_natCast];have hle:(BitVec.ofNat 64 b&&& ~~~BitVec.ofNat 64 (2^i)).toNat<=b:=by
  rw[BitVec.toNat_and,BitVec.toNat_ofNat,Nat.mod_eq_of_lt (show b<2^64 by omega)];exact Nat.and_le_left
 have hbit: ∀j,j<n->(BitVec.ofNat 64 b&&& ~~~BitVec.ofNat 64 (2^i)).toNat.testBit j=(b.testBit j&& !decide (i=j)):=fun j hj=>by
  rw[BitVec.toNat_and,Nat.testBit_and,BitVec.toNat_ofNat,Nat.mod_eq_of_lt (show b<2^64 by omega),BitVec.testBit_toNat,BitVec.getLsbD_not,BitVec.getLsbD_ofNat,Nat.testBit_two_pow];rw[decide_eq_true (show j<64 by omega),Bool.true_and,Bool.true_and]
 refine⟨(BitVec.ofNat 64 b&&& ~~~BitVec.ofNat 64 (2^i)).toNat,?_,bg (by omega) (by omega),hbit⟩;refine Nat.lt_of_le_of_ne hle fun e=> ?_;have:=hbit i hi;rw[e,ht]at this;simp at this
theorem L5{n b c i:Nat}(h: ∀j,j<n->c.testBit j=(b.testBit j&& !decide (i=j))):dX n c=(dX n b).filter fun x=> !((i:Int)==x):=by
 unfold dX;rw[List.filter_map,List.filter_filter];congr 1;refine List.filter_congr fun j hj=> ?_;rw[h j (List.mem_range.1 hj),Bool.and_comm];congr 1;show(!decide (i=j))= !((i:Int)==(j:Int));congr 1;by_cases e:i=j
 ·subst e;simp
 ·have: ¬(i:Int)=(j:Int):=by omega
  rw[decide_eq_false e,beq_eq_false_iff_ne.2 this]
theorem erase_filter: ∀{R:List Int},R.Nodup-> ∀{i:Nat} (hi:i<R.length),R.eraseIdx i=R.filter fun x=> !(R[i]==x)
 | [],_,i,hi=>by simp at hi
 | x::R,h,0,hi=>by
  have h1:=List.nodup_cons.1 h;show R=(x::R).filter fun y=> !(x==y);rw[List.filter_cons,if_neg (by simp)];exact(List.filter_eq_self.2 fun y hy=>by
   have: ¬x=y:=fun e=>h1.1 (e▸hy);rw[beq_eq_false_iff_ne.2 this];rfl).symm
 | x::R,h,i+1,hi=>by
  have h1:=List.nodup_cons.1 h;have hi2:i<R.length:=by simpa using hi
  show x::R.eraseIdx i=(x::R).filter fun y=> !(R[i]==y);have: ¬R[i]=x:=fun e=>h1.1 (e▸List.getElem_mem hi2);rw[List.filter_cons,if_pos (by rw[beq_eq_false_iff_ne.2 this];rfl),erase_filter h1.2 hi2]
def vr(rep:List Int->Bool)(R:List Int):Bool:=R.any fun i=>rep (R.filter fun x=> !(i==x))
theorem Gs{rep:List Int->Bool}{R:List Int}(hR:R.Nodup):iX rep R=(rep R&& !vr rep R):=by
 unfold iX vr;congr 1;rw[Bool.eq_iff_iff,List.all_eq_true,Bool.not_eq_true',List.any_eq_false];constructor
 ·intro h x hx;obtain⟨i,hi,rfl⟩:=List.mem_iff_getElem.1 hx;have:=h i (List.mem_range.2 hi);rw[erase_filter hR hi]at this;simpa using this
 ·intro h i hi;have hi:=List.mem_range.1 hi;have:=h R[i] (List.getElem_mem hi);rw[erase_filter hR hi];simpa using this
theorem Ge{n:Nat}{rep:List Int->Bool}(hr:A4 n rep){R:List Int}(hR:gG n R)(h:vr rep R=true):rep R=true:=by
 unfold vr at h;obtain⟨i,hi,h⟩:=List.any_eq_true.1 h;exact hr _ R (hR.sub List.filter_sublist) hR (fun x hx=>(List.mem_filter.1 hx).1) h
def outs(rep:List Int->Bool)(n b:Nat):List (List Int):=((List.range b).filter fun c=>iX rep (dX n c)).map (dX n)
theorem JX(rep:List Int->Bool)(n b:Nat):outs rep n (b+1)=outs rep n b++(bif iX rep (dX n b)then[dX n b]else[]):=by
 unfold outs;rw[List.range_succ,List.filter_append,List.map_append];congr 1;cases h:iX rep (dX n b)<;>simp[h]
theorem w7(rep:List Int->Bool)(n b:Nat):(outs rep n b).length<=b:=by
 unfold outs;rw[List.length_map];have:=List.length_filter_le (fun c=>iX rep (dX n c)) (List.range b);rw[List.length_range]at this;exact this
theorem wY{rep:List Int->Bool}{n:Nat}{Q:List Int}:Q∈outs rep n (2^n)↔gG n Q/\iX rep Q=true:=by
 unfold outs;rw[List.mem_map];constructor
 ·rintro⟨b,hb,rfl⟩;rw[List.mem_filter]at hb;exact⟨qq n b,hb.2⟩
 ·rintro⟨h1,h2⟩;obtain⟨b,hb,rfl⟩:=xB n h1;exact⟨b,List.mem_filter.2 ⟨List.mem_range.2 hb,h2⟩,rfl⟩
def Fi(rep:List Int->Bool)(n b:Nat)(g:List Bool):Prop:=g.length=2^n/\ ∀c,c<b->g[c]? =some (rep (dX n c))
theorem xM{A:Type}{D:List (List Int)×List Bool->A}{rep:List Int->Bool}{n:Nat}{B:Int->List (List Int)×List Bool->Option (List (List Int)×List Bool)}
  (hB: ∀(b:Nat) (o:List (List Int)) (g:List Bool),b<2^n->o.length<=b->Fi rep n b g->B (b:Int) (o,g)=some (o++(bif iX rep (dX n b)then[dX n b]else[]),g.set b (rep (dX n b)))):
  ∀(k b:Nat) (g:List Bool),b+k=2^n->Fi rep n b g-> ∃g',cV (fun i s=>(B (i:Int) s).map (Sum.inl (β:=A))) D k b (outs rep n b,g)=some (D (outs rep n (2^n),g'))
 | 0,b,g,hb,hg=>⟨g,by rw[show b=2^n by omega];rfl⟩
 | k+1,b,g,hb,hg=>by
  obtain⟨g',h⟩:=xM hB k (b+1) (g.set b (rep (dX n b))) (by omega) ⟨by rw[List.length_set];exact hg.1,fun c hc=>by
   rw[List.getElem?_set];by_cases e:b=c
   ·subst e;rw[if_pos rfl,if_pos (by rw[hg.1];omega)]
   ·rw[if_neg e];exact hg.2 c (by omega)⟩
  refine⟨g',?_⟩;unfold cV;rw[hB b _ g (by omega) (w7 rep n b) hg,<-JX];exact h
theorem IV{rep:List Int->Bool}{n b:Nat}(hb:b<2^n)(hn:n<=60){g:List Bool}(hg:Fi rep n b g){i:Int}(hi:i∈dX n b):sh' i=some ()/\at' g (ap ((BitVec.ofInt 64 (b:Int)&&& ~~~BitVec.ofInt 64 (ap (1*2^min (Int.toNat i) 64))).toNat:Int))=some (rep ((dX n b).filter fun x=> !(i==x))):=by
 obtain⟨m,rfl,hm,ht⟩:=w4.1 hi;obtain⟨c,h1,h2,h3⟩:=N4 b m n hb hn hm ht;refine⟨by unfold sh';rw[if_pos (by omega)],?_⟩;rw[h2,ar,hg.2 c h1,L5 h3]
theorem EA{rep:List Int->Bool}{n b:Nat}(hb:b<2^n)(hn:n<=60){g:List Bool}(hg:Fi rep n b g):bc (dX n b) g (b:Int)=some (vr rep (dX n b)):=by
 have hl:=uc n b;unfold bc cm iN vr;rw[fE (by omega) (fun i=>rep ((dX n b).filter fun x=> !(i==x))) (fun k x hx=>by
  obtain⟨h1,h2⟩:=IV hb hn hg (List.mem_of_getElem? hx);rw[ar,hx,Option.bind_some,h1,Option.bind_some,h2];rfl),Option.bind_some,ki]
theorem Ad{L:List Claim}(hc:aU L=true):eR L=some (mR (outs (fK L) L.length (2^L.length))):=by
 have h12:=(az.1 hc).1;have hpow:2^L.length<=2^12:=Nat.pow_le_pow_right (by omega) h12;have hpos:1<=2^L.length:=Nat.one_le_two_pow;have h0:sh' (L.length:Int)=some ():=by unfold sh';rw[if_pos (by omega)]
 unfold eR;rw[h0,Option.bind_some,AZ L.length (by omega),AT _ (by omega),Option.bind_some,Option.bind_some,eF,fg _ (by omega)];have hlo:=w7 (fK L) L.length (2^L.length);obtain⟨g',h⟩:=xM (A:=List (List Int)) (D:=fun s=>s.1) (rep:=fK L) (n:=L.length) (B:=fun(i6:Int) (s6:(List (List Int))×(List Bool))=>((gg i6).bind fun x10=>((bc x10 s6.2 i6).bind fun x11=>(((bif x11 then((at' s6.2 i6).bind fun _=>some (true,(List.set s6.2 (Int.toNat i6) true)))else((km L x10).bind fun x13=>((at' s6.2 i6).bind fun _=>some (false,(List.set s6.2 (Int.toNat i6) x13)))))).bind fun(j15:Bool×(List Bool))=>((((at' j15.2 i6).bind fun x17=>(bif x17 then some (!j15.1)else some false))).bind fun(j18:Bool)=>(bif j18 then((bP s6.1 ([x10]:List (List Int))).bind fun x20=>some (x20,j15.2))else some (s6.1,j15.2))))))) (fun b o g hb ho hg=>by
  have hl:=uc L.length b;have hgl:=hg.1;have hinc:=qq L.length b;have hat:at' g (b:Int)=some (g[b]'(by omega)):=by rw[ar,List.getElem?_eq_getElem]
  have hset: ∀v:Bool,at' (g.set b v) (b:Int)=some v:=fun v=>by rw[ar,List.getElem?_set,if_pos rfl,if_pos (by omega)]
  rw[oq (n:=L.length) (by omega) hb,Option.bind_some,EA hb (by omega) hg,Option.bind_some,Gs hinc.nodup,BI hc (by omega)];cases hls:vr (fK L) (dX L.length b)
  ·simp only[cond_false,Option.bind_some,hat,Int.toNat_natCast,hset,Bool.not_false];cases fK L (dX L.length b)
   ·simp
   ·simp only[cond_true,Bool.and_self];rw[bQ (by simp;omega)];rfl
  ·rw[Ge (B4 hc) hinc hls];simp only[cond_true,Option.bind_some,hat,Int.toNat_natCast,hset,Bool.not_true,Bool.and_false,cond_false,List.append_nil])
  (2^L.length) 0 (List.replicate (2^L.length) false) (by omega) ⟨by simp,fun c hc=>by omega⟩
 have e0:outs (fK L) L.length 0=[]:=rfl;rw[e0]at h;rw[h,Option.bind_some];unfold aH;rw[if_pos (by show(outs (fK L) L.length (2^L.length)).length<=1000000000;omega)];rfl
def NL(L:List Claim)(x:Int):Int:=((L[x.toNat]?).map Claim.Weight).getD 0
def wt(L:List Claim)(R:List Int):Int:=R.foldl (fun s x=>s+NL L x) 0
theorem uP{L:List Claim}(hc:aU L=true){R:List Int}(hR:gG L.length R):iK L R=some (wt L R):=by
 have h12:=(az.1 hc).1;have hl:=hR.len;unfold iK wt;rw[M6 R (by omega) (fun(_:Int) x7 (s3:Int)=>((at' L x7).bind fun x8=>some (ap (s3+x8.Weight))))];have key: ∀(M:List Int) (k:Nat) (s:Int),(∀x∈M,x∈R)->0<=s->s+100*M.length<=100000->lY (fun(_:Nat) (x7:Int) (s3:Int)=>((at' L x7).bind fun x8=>some (ap (s3+x8.Weight))).map (Sum.inl (β:=Int))) (fun s=>s) M k s=some (M.foldl (fun s x=>s+NL L x) s):=by
  intro M
  induction M with
  | nil=>intro k s _ _ _;rfl
  | cons x M ih=>
   intro k s hM h0 hs;have hx:=hR.2 x (hM x (by simp));have hlt:x.toNat<L.length:=by omega
   have hat:at' L x=some L[x.toNat]:=by
    have:=ar (L:=L) x.toNat;rw[show((x.toNat:Nat):Int)=x by omega]at this;rw[this,List.getElem?_eq_getElem hlt]
   have hw:NL L x=L[x.toNat].Weight:=by unfold NL;rw[List.getElem?_eq_getElem hlt];rfl
   have hcl:=(az.1 hc).2 _ (List.getElem_mem hlt);unfold cg at hcl;simp only[Bool.and_eq_true]at hcl;have hwt:=iU.1 hcl.2.2.2.2;simp only[List.length_cons]at hs;unfold lY;rw[hat,Option.bind_some,bg (by omega) (by omega),List.foldl_cons,hw];exact ih (k+1) _ (fun y hy=>hM y (by simp[hy])) (by omega) (by omega)
 rw[key R 0 0 (fun _ h=>h) (Int.le_refl _) (by omega)];rfl
theorem oL{L:List Claim}(hc:aU L=true){R:List Int}(hR:gG L.length R):fH L R=some (wt L R):=uP hc hR
theorem Ek(x y:Int):dx x y=some (if x<y then -1 else if y<x then 1 else 0):=by
 unfold dx iu;simp only[bne_self_eq_false,Option.bind_some,cond_false];by_cases h1:x<y
 ·rw[decide_eq_true h1,if_pos h1];rfl
 ·rw[decide_eq_false h1,if_neg h1];by_cases h2:y<x
  ·rw[decide_eq_true (show x>y from h2),if_pos h2];rfl
  ·rw[decide_eq_false (show ¬x>y from h2),if_neg h2];rfl
theorem IF(x y:Int):ir x y=some (if x<y then -1 else if y<x then 1 else 0):=Ek x y
theorem Hr{a b:List Int}(ha:a.length<=1000000)(hb:b.length<=1000000):gk a b=some (cmpL a b):=by
 unfold gk;rw[M5 (A:=Unit⊕Int) a (by omega) (fun(i3:Int) x7 (_:Unit)=>(bif(decide (i3>=(b.length:Int)))then some (Sum.inr (Sum.inr 1))else((at' b i3).bind fun x8=>((dx x7 x8).bind fun x9=>(bif(x9 !=0)then some (Sum.inr (Sum.inr x9))else some (Sum.inl ()))))))];have key: ∀(M:List Int) (k:Nat),k+M.length=a.length->k<=b.length-> ∃r,lY (fun(i3:Nat) x7 (_:Unit)=>(bif(decide ((i3:Int)>=(b.length:Int)))then some (Sum.inr (Sum.inr 1))else((at' b (i3:Int)).bind fun x8=>((dx x7 x8).bind fun x9=>(bif(x9 !=0)then some (Sum.inr (Sum.inr x9))else some (Sum.inl ())))))) (fun _=>(Sum.inl ():Unit⊕Int)) M k ()=some r/\Sum.elim (fun(_:Unit)=>(bif(decide ((a.length:Int)<(b.length:Int)))then some (-1)else some 0)) some r=some (cmpL M (b.drop k)):=by
  intro M
  induction M with
  | nil=>
   intro k hk hkb;refine⟨.inl (),rfl,?_⟩;simp only[Sum.elim_inl];simp only[List.length_nil,Nat.add_zero]at hk;by_cases h:a.length<b.length
   ·rw[decide_eq_true (show(a.length:Int)<b.length by omega)];rw[List.drop_eq_getElem_cons (show k<b.length by omega)];rfl
   ·rw[decide_eq_false (show ¬(a.length:Int)<b.length by omega),List.drop_eq_nil_of_le (by omega)];rfl
  | cons x M ih=>
   intro k hk hkb;simp only[List.length_cons]at hk;unfold lY;by_cases h:k<b.length
   ·rw[decide_eq_false (show ¬(k:Int)>=b.length by omega),cond_false,ar,List.getElem?_eq_getElem h,Option.bind_some,Ek,Option.bind_some,List.drop_eq_getElem_cons h,pT];by_cases h1:x<b[k]
    ·rw[if_pos h1,if_pos h1];exact⟨_,rfl,rfl⟩
    ·by_cases h2:b[k]<x
     ·rw[if_neg h1,if_pos h2,if_neg h1,if_pos h2];exact⟨_,rfl,rfl⟩
     ·rw[if_neg h1,if_neg h2,if_neg h1,if_neg h2];exact ih (k+1) (by omega) (by omega)
   ·rw[decide_eq_true (show(k:Int)>=b.length by omega),List.drop_eq_nil_of_le (by omega)];exact⟨_,rfl,rfl⟩
 obtain⟨r,h1,h2⟩:=key a 0 (by omega) (Nat.zero_le _);rw[h1,Option.bind_some,h2];rfl
theorem KH{L:List Claim}(hc:aU L=true){a b:List Int}(ha:gG L.length a)(hb:gG L.length b): ∃r,dD a b L=some r/\(decide (r<0)=true↔lU (wt L) a b):=by
 have h12:=(az.1 hc).1;have hla:=ha.len;have hlb:=hb.len;unfold dD;rw[uP hc ha,uP hc hb,Option.bind_some,Option.bind_some,Ek,Option.bind_some,IF,Option.bind_some,Hr (by omega) (by omega),Option.bind_some];generalize hp:(if wt L a<wt L b then(-1:Int)else if wt L b<wt L a then 1 else 0)=p;generalize hq:(if(a.length:Int)<(b.length:Int)then(-1:Int)else if(b.length:Int)<(a.length:Int)then 1 else 0)=q;generalize hr:cmpL a b=r;have hor:ja [p,q,r]=some (if p≠0 then p else if q≠0 then q else r):=by
  unfold ja;rw[fD (L:=[p,q,r]) (by simp) (fun _ x=>x !=0) (fun _ x=>x) (fun i x hx=>by rw[ar,hx];rfl)];by_cases h1:p=0
  ·subst h1;by_cases h2:q=0
   ·subst h2;by_cases h3:r=0
    ·subst h3;rfl
    ·have e3:(r !=0)=true:=by simpa using h3
     simp only[bW,bne_self_eq_false,cond_false,e3,cond_true];simp
   ·have e2:(q !=0)=true:=by simpa using h2
    simp only[bW,bne_self_eq_false,cond_false,e2,cond_true];simp[h2]
  ·have e1:(p !=0)=true:=by simpa using h1
   simp only[bW,e1,cond_true];simp[h1]
 rw[hor,Option.bind_some];refine⟨_,rfl,?_⟩;rw[decide_eq_true_eq];unfold lU;rw[hr];by_cases h1:wt L a<wt L b
 ·rw[if_pos h1]at hp;subst hp;exact⟨fun _=> .inl h1,fun _=>by simp⟩
 ·by_cases h2:wt L b<wt L a
  ·rw[if_neg h1,if_pos h2]at hp;subst hp;exact⟨fun h=>by simp at h,fun h=>by omega⟩
  ·rw[if_neg h1,if_neg h2]at hp;subst hp;have hw:wt L a=wt L b:=by omega
   by_cases h3:a.length<b.length
   ·rw[if_pos (show(a.length:Int)<b.length by omega)]at hq;subst hq;exact⟨fun _=> .inr ⟨hw,.inl h3⟩,fun _=>by simp⟩
   ·by_cases h4:b.length<a.length
    ·rw[if_neg (by omega),if_pos (show(b.length:Int)<a.length by omega)]at hq;subst hq;exact⟨fun h=>by simp at h,fun h=>by omega⟩
    ·rw[if_neg (by omega),if_neg (by omega)]at hq;subst hq;have hle:a.length=b.length:=by omega
     simp only[ne_eq,not_true_eq_false,if_false];exact⟨fun h=> .inr ⟨hw,.inr ⟨hle,h⟩⟩,fun h=>by omega⟩
theorem DJ{α S A:Type}{B:Int->S->Option S}{D:S->A}(I:S->Prop)(g:S->α->S): ∀(M:List α) (k:Nat) (s:S),(∀j x s,M[j]? =some x->I s->B ((k+j:Nat):Int) s=some (g s x)/\I (g s x))->I s->cV (fun i s=>(B (i:Int) s).map (Sum.inl (β:=A))) D M.length k s=some (D (M.foldl g s))/\I (M.foldl g s)
 | [],_,_,_,h=>⟨rfl,h⟩
 | x::l,k,s,h,h2=>by
  have h3:=h 0 x s rfl h2;rw[Nat.add_zero]at h3;rw[List.length_cons];unfold cV;rw[h3.1];exact DJ I g l (k+1) _ (fun j y s hy hs=>by
   have:=h (j+1) y s (by rw[List.getElem?_cons_succ];exact hy) hs;rw[show k+1+j=k+(j+1) by omega];exact this) h3.2
theorem BZ{L:List Claim}(hc:aU L=true): ∃Q,gG L.length Q/\iX (fK L) Q=true:=by
 have hI:gG L.length ((List.range L.length).map fun(i:Nat)=>(i:Int)):=by
  refine⟨?_,fun x hx=> ?_⟩
  ·rw[List.pairwise_map];exact(List.pairwise_lt_range (n:=L.length)).imp fun h=>by omega
  ·obtain⟨i,hi,rfl⟩:=List.mem_map.1 hx;have:=List.mem_range.1 hi;omega
 have hk:kU L ((List.range L.length).map fun(i:Nat)=>(i:Int))=[]:=by
  rw[List.eq_nil_iff_forall_not_mem];intro c hc;obtain⟨i,hn,hi⟩:=BY.1 hc;exact hn (List.mem_map.2 ⟨i,List.mem_range.2 (List.getElem?_eq_some_iff.1 hi).1,rfl⟩)
 have hr:fK L ((List.range L.length).map fun(i:Nat)=>(i:Int))=true:=by
  unfold fK;rw[hk];rfl
 obtain⟨Q,h1,h2,_⟩:=HD _ _ (Nat.le_refl _) hI hr;exact⟨Q,h1,h2⟩
theorem Kb{L:List Claim}(hc:aU L=true): ∃b,ee L=some (b,wt L b)/\gH (wt L) (kh (fK L) L.length (L.length+1) 0 []) b:=by
 have h12:=(az.1 hc).1;obtain⟨Q,q1,q2⟩:=BZ hc;have hQ:=(AV hc).2 ⟨q1,q2⟩;have hsort:=zc (rep:=fK L) (n:=L.length) (L.length+1) 0 [];have hlen:=Ba (n:=L.length) (rep:=fK L) (L.length+1) 0 [] (by omega);have hinc: ∀x∈kh (fK L) L.length (L.length+1) 0 [],gG L.length x:=fun x hx=>((AV hc).1 hx).1;have hpow:2^(L.length - 0)<=2^12:=Nat.pow_le_pow_right (by omega) (by omega);unfold ee;rw[LW hc,Option.bind_some];generalize kh (fK L) L.length (L.length+1) 0 []=l at*;cases l with
 | nil=>simp at hQ
 | cons a l=>
  have h0:at' (a::l) 0=some a:=ar (L:=a::l) 0;have ha:=hinc a (by simp);obtain⟨h1,h2⟩:=zW (L:=a::l) (by omega) (B:=fun(i5:Int) (s5:(List Int))=>((at' (a::l) i5).bind fun x9=>((fH L x9).bind fun x10=>((fH L s5).bind fun x11=>(((bif(decide (x10<x11))then some true else(bif(x10==x11)then((at' (a::l) i5).bind fun x12=>some (decide ((x12.length:Int)<(s5.length:Int))))else some false))).bind fun(j13:Bool)=>(bif j13 then((at' (a::l) i5).bind fun x15=>some x15)else some s5)))))) (D:=fun s=>s) (gG L.length) (fun b a=>if wt L a<wt L b\/(wt L a=wt L b/\a.length<b.length)then a else b) a (fun i x s hx hs=>by
   have hxi:=hinc x (List.mem_of_getElem? hx);have hat:at' (a::l) (i:Int)=some x:=by rw[ar,hx]
   simp only[hat,Option.bind_some,oL hc hxi,oL hc hs];by_cases c1:wt L x<wt L s
   ·rw[decide_eq_true c1,if_pos (.inl c1)];exact⟨rfl,hxi⟩
   ·rw[decide_eq_false c1,cond_false];by_cases c2:wt L x=wt L s
    ·rw[beq_iff_eq.2 c2,cond_true,Option.bind_some];by_cases c3:x.length<s.length
     ·rw[decide_eq_true (show(x.length:Int)<s.length by omega),if_pos (.inr ⟨c2,c3⟩)];exact⟨rfl,hxi⟩
     ·rw[decide_eq_false (show ¬(x.length:Int)<s.length by omega),if_neg (by omega)];exact⟨rfl,hs⟩
    ·rw[beq_eq_false_iff_ne.2 c2,if_neg (by omega)];exact⟨rfl,hs⟩) ha
  rw[h0,Option.bind_some,h1,Option.bind_some,oL hc h2,Option.bind_some];refine⟨_,rfl,?_⟩;rw[List.foldl_cons,if_neg (by omega)];exact wT (w:=wt L) l [a] a hsort ⟨by simp,fun r hr=> .inl (List.mem_singleton.1 hr)⟩
theorem JD{L:List Claim}(hc:aU L=true): ∃b,cL L=some b/\gH (wt L) (mR (outs (fK L) L.length (2^L.length))) b:=by
 have h12:=(az.1 hc).1;obtain⟨Q,q1,q2⟩:=BZ hc;have hQ:Q∈mR (outs (fK L) L.length (2^L.length)):=(mj _).mem_iff.2 (wY.2 ⟨q1,q2⟩);have hpow:2^L.length<=2^12:=Nat.pow_le_pow_right (by omega) h12;have hlen:(mR (outs (fK L) L.length (2^L.length))).length<=2^L.length:=by
  rw[yJ];exact w7 _ _ _
 have hinc: ∀x∈mR (outs (fK L) L.length (2^L.length)),gG L.length x:=fun x hx=>(wY.1 ((mj _).mem_iff.1 hx)).1;unfold cL;rw[Ad hc,Option.bind_some];generalize mR (outs (fK L) L.length (2^L.length))=l at*;cases l with
 | nil=>simp at hQ
 | cons a l=>
  rw[List.length_cons]at hlen;have h0:at' (a::l) 0=some a:=ar (L:=a::l) 0;have ha:=hinc a (by simp);have hcl: ∀x y,gG L.length x->gG L.length y-> ∃r,dD x y L=some r/\(decide (r<0)=true↔lU (wt L) x y):=fun x y hx hy=>KH hc hx hy;obtain⟨h1,h2⟩:=DJ (A:=List Int) (B:=fun(i6:Int) (s6:(List Int))=>((at' (a::l) i6).bind fun x10=>((dD x10 s6 L).bind fun x11=>(bif(decide (x11<0))then((at' (a::l) i6).bind fun x12=>some x12)else some s6)))) (D:=fun s=>s) (gG L.length) (fun b a=>bif @decide (lU (wt L) a b) (Classical.propDecidable _)then a else b) l 1 a (fun j x s hx hs=>by
   have hxi:=hinc x (List.mem_cons_of_mem _ (List.mem_of_getElem? hx));have hat:at' (a::l) ((1+j:Nat):Int)=some x:=by rw[ar,Nat.add_comm,List.getElem?_cons_succ,hx]
   obtain⟨r,r1,r2⟩:=hcl x s hxi hs;simp only[hat,Option.bind_some,r1];cases hr:decide (r<0)
   ·have: ¬lU (wt L) x s:=fun h=>by rw[r2.2 h]at hr;cases hr
    rw[@decide_eq_false _ (Classical.propDecidable _) this];exact⟨rfl,hs⟩
   ·rw[@decide_eq_true _ (Classical.propDecidable _) (r2.1 hr)];exact⟨rfl,hxi⟩) ha
  unfold cK;rw[decide_eq_false (show ¬((a::l).length:Int)<1 by rw[List.length_cons];omega),cond_false,Option.bind_some,h0,Option.bind_some,eF];have hfr:=ur (n:=((a::l).length:Int)) 1 (by rw[List.length_cons];omega) (fun(i:Int) (s:List Int)=>(((at' (a::l) i).bind fun x10=>((dD x10 s L).bind fun x11=>(bif(decide (x11<0))then((at' (a::l) i).bind fun x12=>some x12)else some s)))).map (Sum.inl (β:=List Int))) (fun s=>s) a;rw[show(((a::l).length:Int)-(1:Nat)).toNat=l.length by rw[List.length_cons];omega]at hfr;refine⟨_,(congrArg (fun o:Option (List Int)=>(o.bind fun j4=>some j4).bind fun x2=>some x2) (hfr.trans h1)).trans rfl,?_⟩;exact vQ (w:=wt L) _ (fun a b=>by rw[@decide_eq_true_eq _ (Classical.propDecidable _)]) l [a] a ⟨by simp,fun r hr=> .inl (List.mem_singleton.1 hr)⟩
theorem IC{L:List Claim}(hc:aU L=true): ∃b,cL L=some b/\ee L=some (b,wt L b)/\gG L.length b/\iX (fK L) b=true:=by
 obtain⟨b,b1,b2⟩:=JD hc;obtain⟨c,c1,c2⟩:=Kb hc;have hbc:b=c:=gH.unique (fun x=>by rw[(mj _).mem_iff,wY,AV hc]) b2 c2;subst hbc;have hm:=(AV hc).1 c2.1;exact⟨b,b1,c1,hm.1,hm.2⟩
theorem xo{L:List Claim}(hc:aU L=true){b:List Int}(hb:ee L=some (b,wt L b))(hi:gG L.length b):lM L=some (kU L b):=by
 have h1:=(az.1 hc).1;have h4:=xb L.length b;have h5:=hi.len;unfold lM;rw[hb,Option.bind_some];show((jS L b).bind _)=_;rw[xw (by omega) (by omega),Option.bind_some,oC (by omega) (fun x hx=>by
  obtain⟨i,rfl,hi,_⟩:=wZ.1 hx;omega),Option.bind_some]
 rfl
theorem F2{L:List Claim}(hc:aU L=true)(b:List Int):aU (kU L b)=true:=by
 have h1:=(az.1 hc).1;have h2:=Fv L (zG L.length b);have h4:=xb L.length b;exact az.2 ⟨by unfold kU;omega,(o8 hc b).2⟩
theorem F3{L:List Claim}{b:List Int}{x:Claim}(h:x∈kU L b):x∈L:=Fw h
def pR(L:List Claim)(b:List Int)(k:Int)(p:ByteArray)(y:Int):ByteArray×Int:=bif abC L p y !=0 then(ByteArray.mk #[],abC L p y)else match tel (kU L b) k p y with | some v=>(v,0) | none=>(ByteArray.mk #[],4)
theorem G2{L:List Claim}{b:List Int}{p:ByteArray}{y:Int}(h0:(abC L p y !=0)=false)(hm:iX (fK L) b=true)(k:Int):Kk (kU L b) k p y=pR L b k p y:=by
 have hz:(abC L p y==0)=true:=by
  rw[bne,Bool.not_eq_false']at h0;exact h0
 have hc:=pP hz;have hz':abC (kU L b) p y=0:=by
  unfold abC at hz⊢;rw[F2 hc b];rw[hc]at hz;exact beq_iff_eq.1 hz
 have hso:soC (kU L b) p y=0:=by
  unfold soC;rw[hz'];have:mH (kU L b)=true:=Gq hm;rw[this];rfl
 unfold Kk pR;rw[hso,h0];rfl
theorem tm{L:List Claim}(hL:L.length<=1048576)(h: ∀x∈L,cW x){p:ByteArray}(hp:p.size<=1048576)(k y:Int){b:List Int}(hb:aU L=true->cL L=some b/\gG L.length b):kk L k p y=some (pR L b k p y):=by
 unfold kk pR;rw[CQ hL h hp,Option.bind_some];cases h0:(abC L p y !=0)
 ·have hc:aU L=true:=pP (p:=p) (y:=y) (by rw[bne,Bool.not_eq_false']at h0;exact h0);have h12:=(az.1 hc).1;obtain⟨b1,b2⟩:=hb hc;have h5:=b2.len;have h6:=(o8 hc b).1;rw[cond_false,cond_false,b1,Option.bind_some,wN (by omega) (by omega),Option.bind_some,EE (by omega),Option.bind_some];cases tel (kU L b) k p y<;>rfl
 ·rfl
theorem MD(L:List Claim): ∃b,aU L=true->cL L=some b/\ee L=some (b,wt L b)/\gG L.length b/\iX (fK L) b=true:=by
 cases hc:aU L
 ·exact⟨[],fun h=>by cases h⟩
 ·obtain⟨b,h⟩:=IC hc;exact⟨b,fun _=>h⟩
theorem Hm{L:List Claim}(hL:L.length<=1048576)(h: ∀x∈L,cW x){p:ByteArray}(hp:p.size<=1048576)(y:Int){b:List Int}(hb:aU L=true->cL L=some b/\ee L=some (b,wt L b)/\gG L.length b/\iX (fK L) b=true):kj L p y=some (pR L b 0 p y)/\ku L p y=some (pR L b 0 p y):=by
 constructor
 ·unfold kj;rw[tm hL h hp 0 y fun hc=>⟨(hb hc).1,(hb hc).2.2.1⟩];rfl
 ·unfold ku;rw[q6 hL h hp,Option.bind_some];cases h0:(abC L p y !=0)
  ·have hc:aU L=true:=pP (p:=p) (y:=y) (by rw[bne,Bool.not_eq_false']at h0;exact h0);obtain⟨_,b2,b3,b4⟩:=hb hc;have h6:=(o8 hc b).1;rw[cond_false,xo hc b2 b3,Option.bind_some,Cr (by omega) (fun x hx=>h x (F3 hx)) hp,G2 h0 b4];rfl
  ·unfold pR;rw[h0];rfl
theorem Ef{L:List Claim}(hL:L.length<=1048576)(h: ∀x∈L,cW x){p:ByteArray}(hp:p.size<=1048576)(y:Int){b:List Int}(hb:aU L=true->cL L=some b/\ee L=some (b,wt L b)/\gG L.length b/\iX (fK L) b=true):iv L p y=some (pR L b 1 p y)/\iC L p y=some (pR L b 1 p y):=by
 constructor
 ·unfold iv;rw[tm hL h hp 1 y fun hc=>⟨(hb hc).1,(hb hc).2.2.1⟩];rfl
 ·unfold iC;rw[q6 hL h hp,Option.bind_some];cases h0:(abC L p y !=0)
  ·have hc:aU L=true:=pP (p:=p) (y:=y) (by rw[bne,Bool.not_eq_false']at h0;exact h0);obtain⟨_,b2,b3,b4⟩:=hb hc;have h6:=(o8 hc b).1;rw[cond_false,xo hc b2 b3,Option.bind_some,yY (by omega) (fun x hx=>h x (F3 hx)) hp,G2 h0 b4];rfl
  ·unfold pR;rw[h0];rfl
def fO(L:List Claim)(R:List Int):Bool:= !mH (sz L R)
theorem sE{L:List Claim}(hc:aU L=true):A4 L.length (fO L):=fun R Q hR hQ hs h=>by
 have h12:=(az.1 hc).1;have hq:=hQ.len;have hr:=hR.len;unfold fO at h⊢;rw[Bool.not_eq_true']at h⊢;rw[Bool.eq_false_iff];intro hk;rw[vD (M:=sz L R) (pS (by omega) hc).1 (pS (by omega) hc).1 (fun x hx=>by
  obtain⟨i,hi,hx⟩:=Bf.1 hx;exact Bf.2 ⟨i,hs _ hi,hx⟩) (pS (by omega) hc).2 hk]at h
 cases h
theorem wL{L:List Claim}(hc:aU L=true){R:List Int}(hR:gG L.length R):kR L R=some (sz L R)/\bJ (sz L R)=some (!fO L R):=by
 have h12:=(az.1 hc).1;have hl:=hR.len;obtain⟨h1,h2⟩:=pS (L:=L) (I:=R) (by omega) hc;refine⟨te (by omega) hR.2,?_⟩;rw[fy h1 h2];unfold fO;rw[Bool.not_not]
theorem jO{L:List Claim}(hc:aU L=true){R:List Int}(hR:gG L.length R):ez L R=some (sz L R)/\bB (sz L R)=some (!fO L R):=by
 have h12:=(az.1 hc).1;have hl:=hR.len;obtain⟨h1,h2⟩:=pS (L:=L) (I:=R) (by omega) hc;refine⟨oC (by omega) hR.2,?_⟩;rw[kd h1 h2];unfold fO;rw[Bool.not_not]
theorem CW{rep:List Int->Bool}{n b:Nat}(hb:b<2^n)(hn:n<=60){g:List Bool}(hg:Fi rep n b g):bw (dX n b) g (b:Int)=some (vr rep (dX n b)):=by
 have hl:=uc n b;unfold bw cP oo vr;rw[fE (by omega) (fun i=>rep ((dX n b).filter fun x=> !(i==x))) (fun k x hx=>by
  obtain⟨h1,h2⟩:=IV hb hn hg (List.mem_of_getElem? hx);rw[ar,hx,Option.bind_some,h1,Option.bind_some,h2];rfl),Option.bind_some,ki]
theorem CT{L:List Claim}(hc:aU L=true):ln L=some (mR (outs (fO L) L.length (2^L.length))):=by
 have h12:=(az.1 hc).1;have hpow:2^L.length<=2^12:=Nat.pow_le_pow_right (by omega) h12;have hpos:1<=2^L.length:=Nat.one_le_two_pow;have h0:sh' (L.length:Int)=some ():=by unfold sh';rw[if_pos (by omega)]
 unfold ln;rw[h0,Option.bind_some,AZ L.length (by omega),AT _ (by omega),Option.bind_some,Option.bind_some,eF,fg _ (by omega)];have hlo:=w7 (fO L) L.length (2^L.length);obtain⟨g',h⟩:=xM (A:=List (List Int)) (D:=fun s=>s.1) (rep:=fO L) (n:=L.length) (B:=fun(i6:Int) (s6:(List (List Int))×(List Bool))=>((gg i6).bind fun x10=>((bw x10 s6.2 i6).bind fun x11=>(((bif x11 then((at' s6.2 i6).bind fun _=>some (true,(List.set s6.2 (Int.toNat i6) true)))else((kR L x10).bind fun x13=>((bJ x13).bind fun x14=>((at' s6.2 i6).bind fun _=>some (false,(List.set s6.2 (Int.toNat i6) (!x14)))))))).bind fun(j16:Bool×(List Bool))=>((((at' j16.2 i6).bind fun x18=>(bif x18 then some (!j16.1)else some false))).bind fun(j19:Bool)=>(bif j19 then((bP s6.1 ([x10]:List (List Int))).bind fun x21=>some (x21,j16.2))else some (s6.1,j16.2))))))) (fun b o g hb ho hg=>by
  have hl:=uc L.length b;have hgl:=hg.1;have hinc:=qq L.length b;have hat:at' g (b:Int)=some (g[b]'(by omega)):=by rw[ar,List.getElem?_eq_getElem]
  have hset: ∀v:Bool,at' (g.set b v) (b:Int)=some v:=fun v=>by rw[ar,List.getElem?_set,if_pos rfl,if_pos (by omega)]
  rw[oq (n:=L.length) (by omega) hb,Option.bind_some,CW hb (by omega) hg,Option.bind_some,Gs hinc.nodup,(wL hc hinc).1];simp only[Option.bind_some,(wL hc hinc).2,Bool.not_not];cases hls:vr (fO L) (dX L.length b)
  ·simp only[cond_false,Option.bind_some,hat,Int.toNat_natCast,hset,Bool.not_false];cases fO L (dX L.length b)
   ·simp
   ·simp only[cond_true,Bool.and_self];rw[bQ (by simp;omega)];rfl
  ·rw[Ge (sE hc) hinc hls];simp only[cond_true,Option.bind_some,hat,Int.toNat_natCast,hset,Bool.not_true,Bool.and_false,cond_false,List.append_nil])
  (2^L.length) 0 (List.replicate (2^L.length) false) (by omega) ⟨by simp,fun c hc=>by omega⟩
 have e0:outs (fO L) L.length 0=[]:=rfl;rw[e0]at h;rw[h,Option.bind_some];unfold aH;rw[if_pos (by show(outs (fO L) L.length (2^L.length)).length<=1000000000;omega)];rfl
theorem E0{L:List Claim}(hc:aU L=true){R:List Int}(hR:gG L.length R):nN L R=some (iX (fO L) R):=by
 have h12:=(az.1 hc).1;have hl:=hR.len;unfold nN iX;rw[(jO hc hR).1,Option.bind_some,(jO hc hR).2,Option.bind_some];cases fO L R
 ·rfl
 ·rw[Bool.not_true,cond_false,fD (by omega) (fun i _=>fO L (R.eraseIdx i)) (fun _ _=>false) (fun i x hx=>by
   have hi:=(List.getElem?_eq_some_iff.1 hx).1;rw[CH (by omega) hi,Option.bind_some,(jO hc (hR.erase i)).1,Option.bind_some,(jO hc (hR.erase i)).2,Option.bind_some,Bool.not_not])]
  refine(DG (A:=Bool) (fun i=>fO L (R.eraseIdx i)) false true R).trans ?_;cases (List.range R.length).all fun i=> !fO L (R.eraseIdx i)<;>rfl
theorem FQ{S A:Type}{B:Int->S->Option S}{D:S->A}{s a b:S}(h0:B 0 s=some a)(h1:B 1 a=some b):cG 2 B D 0 s=some (D b):=by
 have:=fg (A:=A) 2 (by omega) (fun i s=>(B i s).map Sum.inl) D s;rw[eF];refine this.trans ?_;have h1':B ((0+1:Nat):Int) a=some b:=h1;have h0':B ((0:Nat):Int) s=some a:=h0;simp[cV,h0,h1]
theorem EZ{L:List Claim}(hc:aU L=true): ∀(k f fuel:Nat) (R:List Int),L.length - f<k->k<=fuel->gG L.length R->fk R f->fb fuel L R=some (kh (fO L) L.length k f R):=by
 have h12:=(az.1 hc).1;intro k
 induction k with
 | zero=>intro f fuel R h;omega
 | succ k ih=>
  intro f fuel R hk hfu hR hf;obtain⟨fuel,rfl⟩: ∃q,fuel=q+1:=⟨fuel - 1,by omega⟩;have hl:=hR.len;unfold fb kh;rw[(jO hc hR).1,Option.bind_some,(jO hc hR).2,Option.bind_some];cases hrep:fO L R
  ·rw[Bool.not_false,Bool.not_true,cond_false,cond_false,IY hR (by omega) hf,Option.bind_some];rw[eF,ur f (by omega)];have e:((L.length:Int)-(f:Int)).toNat=L.length - f:=by omega
   rw[e];have key: ∀(m g:Nat) (s:List (List Int)),g+m=L.length->f<=g->s.length+2^m<=100000->cV (fun i (s8:List (List Int))=>(((gn R).bind fun x12=>((bP x12 ([(i:Int)]:List Int)).bind fun x13=>((fb fuel L x13).bind fun x14=>((bP s8 x14).bind fun x15=>some x15))))).map (Sum.inl (β:=List (List Int)))) (fun s=>s) m g s=some (s++(List.range' g m).flatMap fun i=>kh (fO L) L.length k (i+1) (R++[(i:Int)])):=by
    intro m
    induction m with
    | zero=>intro g s _ _ _;simp[cV]
    | succ m ihm=>
     intro g s hg hfg hs;have hs2:gG L.length (R++[(g:Int)]):=hR.snoc (by omega) (by omega) fun x hx=>by have:=hf.1 x hx;omega
     have hal:=Ba (n:=L.length) (rep:=fO L) k (g+1) (R++[(g:Int)]) (by omega);have e2:L.length -(g+1)=m:=by omega
     rw[e2]at hal;have hp:2^(m+1)=2^m+2^m:=by rw[Nat.pow_succ];omega
     have hstep:((gn R).bind fun x12=>((bP x12 ([(g:Int)]:List Int)).bind fun x13=>((fb fuel L x13).bind fun x14=>((bP s x14).bind fun x15=>some x15))))=some (s++kh (fO L) L.length k (g+1) (R++[(g:Int)])):=by
      rw[I2 (by omega),Option.bind_some,bQ (by simp;omega),Option.bind_some,ih (g+1) fuel _ (by omega) (by omega) hs2 (hf.snoc hfg),Option.bind_some,bQ (by omega),Option.bind_some]
     unfold cV;simp only[hstep,Option.map_some];show cV _ _ m (g+1) (s++kh (fO L) L.length k (g+1) (R++[(g:Int)]))=_;rw[ihm (g+1) _ (by omega) (by omega) (by rw[List.length_append];omega),List.range'_succ,List.flatMap_cons,List.append_assoc]
   by_cases hfl:f<=L.length
   ·have hpow:2^(L.length - f)<=2^12:=Nat.pow_le_pow_right (by omega) (by omega);rw[key (L.length - f) f [] (by omega) (Nat.le_refl _) (by simp;omega)];rfl
   ·have e3:L.length - f=0:=by omega
    rw[e3];rfl
  ·rw[Bool.not_true,Bool.not_false,cond_true,cond_true,E0 hc hR,Option.bind_some];cases iX (fO L) R<;>rfl
theorem Ka{L:List Claim}(hc:aU L=true):tW L []=some (kh (fO L) L.length (L.length+1) 0 []):=by
 have h12:=(az.1 hc).1;exact EZ hc (L.length+1) 0 1000 [] (by omega) (by omega) (gG.nil _) fk.nil
theorem Lj{L:List Claim}(hc:aU L=true){Q:List Int}:Q∈kh (fO L) L.length (L.length+1) 0 []↔gG L.length Q/\iX (fO L) Q=true:=by
 rw[BX (sE hc) _ _ _ (by omega) (gG.nil _) fk.nil];exact⟨fun⟨h1,_,h3⟩=>⟨h1,h3⟩,fun⟨h1,h3⟩=>⟨h1,List.nil_prefix,h3⟩⟩
theorem L6{n b c:Nat}(hb:b<2^n)(hc:c<2^n)(h:dX n b=dX n c):b=c:=by
 apply Nat.eq_of_testBit_eq;intro i;by_cases hi:i<n
 ·have h1:(i:Int)∈dX n b↔(i:Int)∈dX n c:=by rw[h]
  rw[w4,w4]at h1;rw[Bool.eq_iff_iff];constructor
  ·intro ht;obtain⟨j,h2,_,h3⟩:=h1.1 ⟨i,rfl,hi,ht⟩;rw[show i=j by omega];exact h3
  ·intro ht;obtain⟨j,h2,_,h3⟩:=h1.2 ⟨i,rfl,hi,ht⟩;rw[show i=j by omega];exact h3
 ·have hp:2^n<=2^i:=Nat.pow_le_pow_right (by omega) (by omega);rw[Nat.testBit_lt_two_pow (by omega),Nat.testBit_lt_two_pow (by omega)]
theorem HZ(rep:List Int->Bool)(n:Nat):(outs rep n (2^n)).Nodup:=by
 unfold outs;show List.Pairwise _ _;rw[List.pairwise_map];refine((List.pairwise_lt_range (n:=2^n)).filter _).imp_of_mem fun{a b} ha hb h e=> ?_;have h1:=List.mem_range.1 (List.mem_filter.1 ha).1;have h2:=List.mem_range.1 (List.mem_filter.1 hb).1;have:=L6 h1 h2 e;omega
theorem J9{rep:List Int->Bool}{n:Nat}(hr:A4 n rep):mR (outs rep n (2^n))=kh rep n (n+1) 0 []:=by
 refine Bk ?_ (zc _ _ _) fun Q=> ?_
 ·have h1:=ET (outs rep n (2^n));have h2:(mR (outs rep n (2^n))).Nodup:=(mj _).nodup_iff.2 (HZ rep n);refine(h1.and h2).imp fun{a b} h=> ?_;rcases Bj h.2 with h3 | h3
  ·exact h3
  ·exact absurd h3 h.1
 ·rw[(mj _).mem_iff,wY,BX hr _ _ _ (by omega) (gG.nil _) fk.nil];exact⟨fun⟨h1,h3⟩=>⟨h1,List.nil_prefix,h3⟩,fun⟨h1,_,h3⟩=>⟨h1,h3⟩⟩
end Go.Proofs.YtbdbpakffniboaaGreatDoor.Sh
namespace Go.Proofs.YtbdbpakffniboaaGreatDoor.Sh
open Go.RowKit
section
variable {α : Type}
def jW(lt:α->α->Bool)(A:List α)(x:α):List α:=A.takeWhile (fun y=>lt y x)++x::A.dropWhile (fun y=>lt y x)
def kW(lt:α->α->Bool)(L:List α):List α:=L.foldl (jW lt) []
theorem ql{lt:α->α->Bool}{A:List α}{x z:α}:z∈jW lt A x↔z=x\/z∈A:=by
 unfold jW;have:=List.takeWhile_append_dropWhile (p:=fun y=>lt y x) (l:=A)
 conv=>rhs;rw[<-this]
 simp only[List.mem_append,List.mem_cons];constructor
 ·rintro(h | h | h)
  ·exact .inr (.inl h)
  ·exact .inl h
  ·exact .inr (.inr h)
 ·rintro(h | h | h)
  ·exact .inr (.inl h)
  ·exact .inl h
  ·exact .inr (.inr h)
theorem yy{lt:α->α->Bool}{A:List α}{x:α}:(jW lt A x).length=A.length+1:=by
 unfold jW;have:=congrArg List.length (List.takeWhile_append_dropWhile (p:=fun y=>lt y x) (l:=A));rw[List.length_append]at this;rw[List.length_append,List.length_cons];omega
theorem rk{lt:α->α->Bool}{z:α}: ∀{L A:List α},z∈L.foldl (jW lt) A↔z∈A\/z∈L
 | [],A=>by simp
 | x::L,A=>by
  rw[List.foldl_cons,rk,ql,List.mem_cons];constructor
  ·rintro((h | h) | h)
   ·exact .inr (.inl h)
   ·exact .inl h
   ·exact .inr (.inr h)
  ·rintro(h | h | h)
   ·exact .inl (.inr h)
   ·exact .inl (.inl h)
   ·exact .inr h
theorem D0{lt:α->α->Bool}{z:α}{L:List α}:z∈kW lt L↔z∈L:=by
 unfold kW;rw[rk];simp
theorem rj{lt:α->α->Bool}: ∀{L A:List α},(L.foldl (jW lt) A).length=A.length+L.length
 | [],A=>by simp
 | x::L,A=>by
  rw[List.foldl_cons,rj,yy,List.length_cons];omega
theorem J8{lt:α->α->Bool}{L:List α}:(kW lt L).length=L.length:=by
 unfold kW;rw[rj];simp
theorem vp{lt:α->α->Bool}(tr: ∀a b c,lt a b=true->lt b c=true->lt a c=true){x:α}: ∀{A:List α},A.Pairwise (fun a b=>lt a b=true)->(∀y∈A,lt y x=true\/lt x y=true)-> ∀y∈A.dropWhile (fun y=>lt y x),lt x y=true
 | [],_,_,y,hy=>by cases hy
 | a::A,hp,ht,y,hy=>by
  rw[List.dropWhile_cons]at hy;have hp2:=List.pairwise_cons.1 hp;split at hy
  ·exact vp tr hp2.2 (fun z hz=>ht z (List.mem_cons_of_mem _ hz)) y hy
  ·rename_i hn;have hx:lt x a=true:=(ht a List.mem_cons_self).resolve_left (by simpa using hn);rcases List.mem_cons.1 hy with rfl | hy
   ·exact hx
   ·exact tr _ _ _ hx (hp2.1 y hy)
theorem qT{lt:α->α->Bool}(tr: ∀a b c,lt a b=true->lt b c=true->lt a c=true){x:α}{A:List α}(hp:A.Pairwise (fun a b=>lt a b=true))(ht: ∀y∈A,lt y x=true\/lt x y=true):(jW lt A x).Pairwise (fun a b=>lt a b=true):=by
 have hd:=vp tr hp ht;have hs:=List.takeWhile_append_dropWhile (p:=fun y=>lt y x) (l:=A);have htw: ∀y∈A.takeWhile (fun y=>lt y x),lt y x=true:=fun y hy=>by
  have:=List.all_takeWhile (p:=fun y=>lt y x) (l:=A);exact List.all_eq_true.1 this y hy
 unfold jW;rw[<-hs]at hp;obtain⟨h1,h2,h3⟩:=List.pairwise_append.1 hp;refine List.pairwise_append.2 ⟨h1,List.pairwise_cons.2 ⟨hd,h2⟩,fun a ha b hb=> ?_⟩;rcases List.mem_cons.1 hb with rfl | hb
 ·exact htw a ha
 ·exact tr _ _ _ (htw a ha) (hd b hb)
def za(lt:α->α->Bool)(L:List α):Prop:=L.Pairwise (fun a b=>lt a b=true\/lt b a=true)
theorem wF{lt:α->α->Bool}(tr: ∀a b c,lt a b=true->lt b c=true->lt a c=true): ∀{L A:List α},A.Pairwise (fun a b=>lt a b=true)->(∀y∈A,∀x∈L,lt y x=true\/lt x y=true)->za lt L->(L.foldl (jW lt) A).Pairwise (fun a b=>lt a b=true)
 | [],A,h,_,_=>h
 | x::L,A,h,h2,h3=>by
  have h4:=List.pairwise_cons.1 h3;rw[List.foldl_cons];refine wF tr (qT tr h fun y hy=>h2 y hy x List.mem_cons_self) (fun y hy z hz=> ?_) h4.2;rcases ql.1 hy with rfl | hy
  ·exact h4.1 z hz
  ·exact h2 y hy z (List.mem_cons_of_mem _ hz)
theorem xj{lt:α->α->Bool}(tr: ∀a b c,lt a b=true->lt b c=true->lt a c=true){L:List α}(h:za lt L):(kW lt L).Pairwise (fun a b=>lt a b=true):=wF tr List.Pairwise.nil (by simp) h
theorem IE{T:α->α->Option Bool}{lt:α->α->Bool}{P:α->Prop}(hC: ∀x y,P x->P y->T x y=some (lt x y)){x:α}(hx:P x): ∀(m:Nat) (A B:List α),A.length=m->m<=100000000->(∀y∈A,P y)->
  ∃F G,A=F++G/\(∀y∈G,lt x y=true)/\(∀y,F.getLast?=some y->lt x y=false)/\
  loop (fun(s5:Int×(List α))=>(((bif(decide (s5.1>0))then((at' s5.2 s5.1).bind fun x7=>((at' s5.2 (ap (s5.1 - 1))).bind fun x8=>(T x7 x8)))else some false)).bind fun(j10:Bool)=>(bif j10 then((((at' s5.2 (ap (s5.1 - 1))).bind fun x14=>((at' s5.2 s5.1).bind fun x15=>((at' s5.2 s5.1).bind fun _=>((at' (List.set s5.2 (Int.toNat s5.1) x14) (ap (s5.1 - 1))).bind fun _=>some (List.set (List.set s5.2 (Int.toNat s5.1) x14) (Int.toNat (ap (s5.1 - 1))) x15)))))).bind fun(j12:(List α))=>some (.inl ((ap (s5.1 - 1)),j12)))else some (.inr s5.2)))) ((A.length:Int),A++x::B)=some (F++x::(G++B))
 | 0,A,B,hm,_,_=>by
  have:A=[]:=List.length_eq_zero_iff.1 hm;subst this;refine⟨[],[],rfl,by simp,by simp,?_⟩;rw[bF];rfl
 | m+1,A,B,hm,hm2,hA=>by
  obtain⟨D,y,rfl⟩: ∃D y,A=D++[y]:=by
   rcases List.eq_nil_or_concat A with rfl | ⟨D,y,h⟩
   ·simp at hm
   ·exact⟨D,y,by simpa using h⟩
  have hB:D.length=m:=by simp at hm;omega
  have hy:P y:=hA y (by simp);have e1:((D++[y]).length:Int)=(D.length:Int)+1:=by simp
  have e2:ap ((D.length:Int)+1 - 1)=(D.length:Int):=by rw[bg (by omega) (by omega)];omega
  have e0:D++[y]++x::B=D++y::x::B:=by simp
  have g1:at' (D++y::x::B) ((D.length:Int)+1)=some x:=by
   rw[show(D.length:Int)+1=((D.length+1:Nat):Int) by omega,ar,List.getElem?_append_right (by omega)];simp
  have g2:at' (D++y::x::B) (D.length:Int)=some y:=by
   rw[ar,List.getElem?_append_right (by omega)];simp
  have t1:Int.toNat ((D.length:Int)+1)=D.length+1:=by omega
  have s1:(D++y::x::B).set (D.length+1) y=D++y::y::B:=by
   rw[List.set_append_right _ _ (by omega)];simp
  have s2:(D++y::y::B).set D.length x=D++x::y::B:=by
   rw[List.set_append_right _ _ (by omega)];simp
  have g3:at' (D++y::y::B) (D.length:Int)=some y:=by
   rw[ar,List.getElem?_append_right (by omega)];simp
  rw[e1,e0];cases hlt:lt x y with
  | true=>
   obtain⟨F,G,h1,h2,h3,h4⟩:=IE hC hx m D (y::B) hB (by omega) (fun z hz=>hA z (by simp[hz]));refine⟨F,G++[y],by rw[h1];simp,fun z hz=> ?_,h3,?_⟩
   ·rcases List.mem_append.1 hz with hz | hz
    ·exact h2 z hz
    ·rw[List.mem_singleton.1 hz];exact hlt
   ·rw[bF];have hg:decide ((D.length:Int)+1>0)=true:=decide_eq_true (by omega);simp only[hg,cond_true,g1,e2,g2,Option.bind_some,hC x y hx hy,hlt,t1,s1,g3,Int.toNat_natCast,s2];rw[h4];simp
  | false=>
   refine⟨D++[y],[],by simp,by simp,fun z hz=> ?_,?_⟩
   ·simp at hz;subst hz;exact hlt
   ·rw[bF];have hg:decide ((D.length:Int)+1>0)=true:=decide_eq_true (by omega);simp only[hg,cond_true,g1,e2,g2,Option.bind_some,hC x y hx hy,hlt,cond_false];simp
theorem LI{lt:α->α->Bool}(tr: ∀a b c,lt a b=true->lt b c=true->lt a c=true)(asy: ∀a b,lt a b=true->lt b a=false){A F G:List α}{x:α}(hA:A.Pairwise (fun a b=>lt a b=true))(ht: ∀y∈A,lt y x=true\/lt x y=true)(h:A=F++G)(hG: ∀y∈G,lt x y=true)(hF: ∀y,F.getLast?=some y->lt x y=false):F++x::G=jW lt A x:=by
 subst h;have hFx: ∀y∈F,lt y x=true:=by
  intro y hy;rcases List.eq_nil_or_concat F with rfl | ⟨D,z,hz⟩
  ·cases hy
  ·rw[List.concat_eq_append]at hz;subst hz;have hzx:lt z x=true:=(ht z (by simp)).resolve_right (by rw[hF z (by simp)];simp);rcases List.mem_append.1 hy with hy | hy
   ·have h1:=(List.pairwise_append.1 hA).1;exact tr _ _ _ ((List.pairwise_append.1 h1).2.2 y hy z (by simp)) hzx
   ·rw[List.mem_singleton.1 hy];exact hzx
 have key: ∀F:List α,(∀y∈F,lt y x=true)->(F++G).takeWhile (fun y=>lt y x)=F/\(F++G).dropWhile (fun y=>lt y x)=G:=by
  intro F
  induction F with
  | nil=>
   intro _;cases G with
   | nil=>exact⟨rfl,rfl⟩
   | cons g G=>
    have:=asy _ _ (hG g (by simp));simp[List.takeWhile_cons,List.dropWhile_cons,this]
  | cons f F ih=>
   intro hf;have h1:=hf f (by simp);obtain⟨h2,h3⟩:=ih fun y hy=>hf y (by simp[hy]);simp[List.takeWhile_cons,List.dropWhile_cons,h1,h2,h3]
 obtain⟨h1,h2⟩:=key F hFx;unfold jW;rw[h1,h2]
theorem Lb{T:α->α->Option Bool}{lt:α->α->Bool}{P:α->Prop}(hC: ∀x y,P x->P y->T x y=some (lt x y))(tr: ∀a b c,lt a b=true->lt b c=true->lt a c=true)(asy: ∀a b,lt a b=true->lt b a=false){L:List α}(hL:L.length<=100000000)(hP: ∀x∈L,P x)(hap:za lt L):
  cG (L.length:Int) (fun(i1:Int) (s1:(List α))=>(loop (fun(s5:Int×(List α))=>(((bif(decide (s5.1>0))then((at' s5.2 s5.1).bind fun x7=>((at' s5.2 (ap (s5.1 - 1))).bind fun x8=>(T x7 x8)))else some false)).bind fun(j10:Bool)=>(bif j10 then((((at' s5.2 (ap (s5.1 - 1))).bind fun x14=>((at' s5.2 s5.1).bind fun x15=>((at' s5.2 s5.1).bind fun _=>((at' (List.set s5.2 (Int.toNat s5.1) x14) (ap (s5.1 - 1))).bind fun _=>some (List.set (List.set s5.2 (Int.toNat s5.1) x14) (Int.toNat (ap (s5.1 - 1))) x15)))))).bind fun(j12:(List α))=>some (.inl ((ap (s5.1 - 1)),j12)))else some (.inr s5.2)))) (i1,s1))) (fun(s1:(List α))=>s1) (ap (0+1)) L=some (kW lt L):=by
 have e1:ap (0+1)=1:=by rw[bg (by omega) (by omega)];rfl
 rw[e1];have hstep: ∀k,k<L.length-> ∀x,L[k]? =some x->kW lt (L.take (k+1))=jW lt (kW lt (L.take k)) x:=by
  intro k hk x hx;unfold kW;rw[List.take_add_one,hx,List.foldl_append];rfl
 have key: ∀(m k:Nat),k+m=L.length->1<=k->cG (L.length:Int) (fun(i1:Int) (s1:(List α))=>(loop (fun(s5:Int×(List α))=>(((bif(decide (s5.1>0))then((at' s5.2 s5.1).bind fun x7=>((at' s5.2 (ap (s5.1 - 1))).bind fun x8=>(T x7 x8)))else some false)).bind fun(j10:Bool)=>(bif j10 then((((at' s5.2 (ap (s5.1 - 1))).bind fun x14=>((at' s5.2 s5.1).bind fun x15=>((at' s5.2 s5.1).bind fun _=>((at' (List.set s5.2 (Int.toNat s5.1) x14) (ap (s5.1 - 1))).bind fun _=>some (List.set (List.set s5.2 (Int.toNat s5.1) x14) (Int.toNat (ap (s5.1 - 1))) x15)))))).bind fun(j12:(List α))=>some (.inl ((ap (s5.1 - 1)),j12)))else some (.inr s5.2)))) (i1,s1))) (fun(s1:(List α))=>s1) (k:Int) (kW lt (L.take k)++L.drop k)=some (kW lt L):=by
  intro m
  induction m with
  | zero=>
   intro k hkm _;obtain rfl:k=L.length:=by omega
   unfold cG;rw[bF];simp only[decide_eq_false (show ¬((L.length:Int)<L.length) by omega),cond_false,List.take_length,List.drop_length,List.append_nil]
  | succ m ih=>
   intro k hkm h1;have hkl:k<L.length:=by omega
   have hx:L[k]? =some (L[k]'hkl):=List.getElem?_eq_getElem _;rw[List.drop_eq_getElem_cons hkl];generalize L[k]'hkl=x at hx⊢;have hap1:za lt (L.take k):=List.Pairwise.sublist (List.take_sublist _ _) hap;have hxm:=List.mem_of_getElem? hx;have hlen:(kW lt (L.take k)).length=k:=by rw[J8,List.length_take];omega
   have hmem: ∀y∈kW lt (L.take k),y∈L.take k:=fun y hy=>D0.1 hy;have htot: ∀y∈kW lt (L.take k),lt y x=true\/lt x y=true:=by
    intro y hy;obtain⟨i,hi⟩:=List.mem_iff_getElem?.1 (hmem y hy);have hik:i<k:=by
     have:=(List.getElem?_eq_some_iff.1 hi).1;rw[List.length_take]at this;omega
    rw[List.getElem?_take_of_lt hik]at hi;have:=List.pairwise_iff_getElem.1 hap i k (by omega) hkl hik;rw[List.getElem?_eq_getElem (by omega)]at hi hx;injection hi with hi;injection hx with hx;rw[hi,hx]at this;exact this
   obtain⟨F,G,q1,q2,q3,q4⟩:=IE hC (hP x hxm) k (kW lt (L.take k)) (L.drop (k+1)) hlen (by omega) (fun y hy=>hP y (List.mem_of_mem_take (hmem y hy)));rw[hlen]at q4;unfold cG;rw[bF];simp only[decide_eq_true (show((k:Int)<L.length) by omega),cond_true,q4,Option.bind_some,bg (show -9223372036854775808<=(k:Int)+1 by omega) (by omega)];have hp:=LI tr asy (xj tr hap1) htot q1 q2 q3;have hs:=hstep k hkl x hx;rw[show F++x::(G++L.drop (k+1))=(F++x::G)++L.drop (k+1) by simp,hp,<-hs];have:=ih (k+1) (by omega) (by omega);unfold cG at this;simpa using this
 by_cases h0:L.length=0
 ·have:L=[]:=List.length_eq_zero_iff.1 h0;subst this;unfold cG;rw[bF];rfl
 ·have:=key (L.length - 1) 1 (by omega) (Nat.le_refl _);rw[show((1:Nat):Int)=1 from rfl]at this;have e:kW lt (L.take 1)++L.drop 1=L:=by
   cases L with
   | nil=>simp at h0
   | cons x l=>simp[kW,jW]
  rwa [e]at this
theorem Na{C:α->α->Option Int}{lt:α->α->Bool}{P:α->Prop}(hC: ∀x y,P x->P y->((C x y).bind fun x9=>some (decide (x9<0)))=some (lt x y))(tr: ∀a b c,lt a b=true->lt b c=true->lt a c=true)(asy: ∀a b,lt a b=true->lt b a=false){L:List α}(hL:L.length<=100000000)(hP: ∀x∈L,P x)(hap:za lt L):
  cG (L.length:Int) (fun(i1:Int) (s1:(List α))=>(loop (fun(s5:Int×(List α))=>(((bif(decide (s5.1>0))then((at' s5.2 s5.1).bind fun x7=>((at' s5.2 (ap (s5.1 - 1))).bind fun x8=>((C x7 x8).bind fun x9=>some (decide (x9<0)))))else some false)).bind fun(j10:Bool)=>(bif j10 then((((at' s5.2 (ap (s5.1 - 1))).bind fun x14=>((at' s5.2 s5.1).bind fun x15=>((at' s5.2 s5.1).bind fun _=>((at' (List.set s5.2 (Int.toNat s5.1) x14) (ap (s5.1 - 1))).bind fun _=>some (List.set (List.set s5.2 (Int.toNat s5.1) x14) (Int.toNat (ap (s5.1 - 1))) x15)))))).bind fun(j12:(List α))=>some (.inl ((ap (s5.1 - 1)),j12)))else some (.inr s5.2)))) (i1,s1))) (fun(s1:(List α))=>s1) (ap (0+1)) L=some (kW lt L):=
 Lb (T:=fun x y=>(C x y).bind fun x9=>some (decide (x9<0))) hC tr asy hL hP hap
theorem pL{lt:α->α->Bool}(asy: ∀a b,lt a b=true->lt b a=false): ∀{A B:List α},A.Pairwise (fun a b=>lt a b=true)->B.Pairwise (fun a b=>lt a b=true)->(∀z,z∈A↔z∈B)->A=B
 | [],[],_,_,_=>rfl
 | [],b::B,_,_,h=>by have:=(h b).2 List.mem_cons_self;cases this
 | a::A,[],_,_,h=>by have:=(h a).1 List.mem_cons_self;cases this
 | a::A,b::B,hA,hB,h=>by
  have hA2:=List.pairwise_cons.1 hA;have hB2:=List.pairwise_cons.1 hB;have irr: ∀x,lt x x=true->False:=fun x hx=>by
   have:=asy x x hx;rw[hx]at this;cases this
  have e:a=b:=by
   rcases List.mem_cons.1 ((h a).1 List.mem_cons_self)with h1 | h1
   ·exact h1
   ·rcases List.mem_cons.1 ((h b).2 List.mem_cons_self)with h2 | h2
    ·exact h2.symm
    ·have:=asy _ _ (hB2.1 a h1);rw[hA2.1 b h2]at this;cases this
  subst e;congr 1;refine pL asy hA2.2 hB2.2 fun z=> ?_;constructor
  ·intro hz;rcases List.mem_cons.1 ((h z).1 (List.mem_cons_of_mem _ hz))with h1 | h1
   ·subst h1;exact(irr _ (hA2.1 _ hz)).elim
   ·exact h1
  ·intro hz;rcases List.mem_cons.1 ((h z).2 (List.mem_cons_of_mem _ hz))with h1 | h1
   ·subst h1;exact(irr _ (hB2.1 _ hz)).elim
   ·exact h1
end
