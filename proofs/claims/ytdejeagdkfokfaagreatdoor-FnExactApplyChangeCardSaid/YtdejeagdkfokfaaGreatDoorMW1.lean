/- Plain laws: loops that search, words; no condition but bounds on lengths. -/
import Derived.Test.YtdejeagdkfokfaaGreatDoorGA
import Derived.Test.YtdejeagdkfokfaaGreatDoorGD
import Derived.Test.YtdejeagdkfokfaaGreatDoorGE
namespace Go.Proofs.YtdejeagdkfokfaaGreatDoor.Sh
open Go.RowKit Go.Lib
section
variable {α A S : Type}
theorem kk{L:List α}(hL:L.length≤9223372036854775807){B:Int→Unit→Option (Unit⊕(Unit⊕A))}(p:α→Bool)(a:A)(h: ∀(i:Nat) x,L[i]? =some x→B (i:Int) ()=bif p x then some (.inr (.inr a))else some (.inl ())){K:Option A}:
  (cW (L.length:Int) B (fun _=> .inl ()) 0 ()).bind (Sum.elim (fun _=>K) some)=bif L.any p then some a else K:=by
 rw[gS L hL B (fun _ x _=>bif p x then some (.inr (.inr a))else some (.inl ())) _ () (fun j x _ hx=>h j x hx),sg]
 cases L.any p<;>rfl
theorem eZ{L:List α}(hL:L.length≤9223372036854775807){B:Int→Unit→Option (Unit⊕(Unit⊕A))}(p:Nat→α→Bool)(a:Nat→α→A)(h: ∀(i:Nat) x,L[i]? =some x→B (i:Int) ()=bif p i x then some (.inr (.inr (a i x)))else some (.inl ())){K:Option A}:
  (cW (L.length:Int) B (fun _=> .inl ()) 0 ()).bind (Sum.elim (fun _=>K) some)=match bY p a L 0 with | some r=>some r | none=>K:=by
 rw[gS L hL B (fun i x _=>bif p i x then some (.inr (.inr (a i x)))else some (.inl ())) _ () (fun j x _ hx=>h j x hx),ma p (fun i x=>Sum.inr (a i x))]
 have:bY p (fun i x=>(Sum.inr (a i x):Unit⊕A)) L 0=(bY p a L 0).map .inr:=by
  generalize 0=k
  induction L generalizing k with
  | nil=>rfl
  | cons x l ih=>
   unfold bY
   cases p k x
   ·simp only[cond_false]
    clear h
    have: ∀(M:List α) (k:Nat),bY p (fun i x=>(Sum.inr (a i x):Unit⊕A)) M k=(bY p a M k).map .inr:=by
     intro M
     induction M with
     | nil=>intro k;rfl
     | cons y m ih2=>
      intro k
      unfold bY
      cases p k y
      ·exact ih2 (k+1)
      ·rfl
    exact this l (k+1)
   ·rfl
 rw[this]
 cases bY p a L 0<;>rfl
def cr(p:α→Bool):List α→Int
 | []=> -1
 | x::l=>bif p x then 0 else(let r:=cr p l;bif decide (r<0)then -1 else r+1)
theorem lu(p:α→Bool): ∀L:List α,-1≤cr p L∧cr p L<L.length
 | []=>by simp[cr]
 | x::l=>by
  have:=lu p l
  unfold cr
  cases p x
  ·simp only[cond_false]
   by_cases h:cr p l<0
   ·simp[h];omega
   ·simp[h];omega
  ·simp
theorem ie(p:α→Bool): ∀L:List α,decide (cr p L≥0)=L.any p
 | []=>rfl
 | x::l=>by
  have h:=ie p l
  have h1:=lu p l
  unfold cr
  rw[List.any_cons,←h]
  cases p x
  ·simp only[cond_false,Bool.false_or]
   by_cases h2:cr p l<0
   ·simp[h2]
   ·simp[h2]
    omega
  ·simp
theorem zl(p:α→Bool)(L:List α):decide (cr p L<0)= !L.any p:=by
 rw[←ie]
 by_cases h:cr p L<0
 ·simp[h]
 ·simp[h];omega
theorem qD(p:α→Bool): ∀(L:List α) (k:Nat),(match bY (fun _ x=>p x) (fun i _=>(i:Int)) L k with | some r=>r | none=> -1)=bif decide (cr p L<0)then -1 else cr p L+k
 | [],k=>rfl
 | x::l,k=>by
  have h:=qD p l (k+1)
  have h1:=lu p l
  unfold bY cr
  cases p x
  ·simp only[cond_false]
   rw[h]
   by_cases h2:cr p l<0
   ·simp[h2]
   ·simp[h2]
    have h3: ¬(cr p l+1<0):=by omega
    simp[h3]
    omega
  ·simp
theorem qH(p:α→Bool): ∀{L:List α} {i:Nat},cr p L=i→ ∃x,L[i]? =some x∧p x=true
 | [],i,h=>by simp[cr]at h
 | x::l,i,h=>by
  unfold cr at h
  cases hp:p x
  ·rw[hp]at h
   simp only[cond_false]at h
   by_cases h2:cr p l<0
   ·simp[h2]at h
   ·simp[h2]at h
    obtain⟨j,rfl⟩: ∃j,i=j+1:=⟨i - 1,by omega⟩
    obtain⟨y,h3,h4⟩:=qH p (L:=l) (i:=j) (by omega)
    exact⟨y,by simpa using h3,h4⟩
  ·rw[hp]at h
   simp at h
   have:i=0:=by omega
   subst this
   exact⟨x,rfl,hp⟩
theorem iD{L:List α}(hL:L.length≤9223372036854775807){B:Int→Unit→Option (Unit⊕(Unit⊕Int))}(p:α→Bool)(h: ∀(i:Nat) x,L[i]? =some x→B (i:Int) ()=bif p x then some (.inr (.inr (i:Int)))else some (.inl ())):
  (cW (L.length:Int) B (fun _=> .inl ()) 0 ()).bind (Sum.elim (fun _=>some (-1)) some)=some (cr p L):=by
 rw[eZ hL (fun _ x=>p x) (fun i _=>(i:Int)) h]
 have h1:=qD p L 0
 have h2:=lu p L
 have h3:(bif decide (cr p L<0)then -1 else cr p L+((0:Nat):Int))=cr p L:=by
  by_cases h:cr p L<0
  ·simp[h];omega
  ·simp[h]
 rw[h3]at h1
 cases hf:bY (fun _ x=>p x) (fun i _=>(i:Int)) L 0 with
 | none=>rw[hf]at h1;exact congrArg some h1
 | some r=>rw[hf]at h1;exact congrArg some h1
end
theorem qp{s:ByteArray}{j:Nat}{b:UInt8}(h:s.data.toList[j]? =some b):lD s (j:Int)=some (b.toNat:Int):=by
 unfold lD
 rw[if_pos (by omega)]
 have:s[(j:Int).toNat]? =some b:=by
  rw[Int.toNat_natCast]
  rw[Array.getElem?_toList]at h
  exact h
 rw[this]
 rfl
def dy(x l h:Int):Bool:=decide (x≥l)&&decide (x≤h)
theorem c7(x l h:Int):dF x l h=some (dy x l h):=rfl
theorem dY(x l h:Int):c5 x l h=some (dy x l h):=rfl
theorem eX{x l h:Int}:dy x l h=true↔l≤x∧x≤h:=by unfold dy;simp
def small(b:UInt8):Bool:=decide (97≤b.toNat)&&decide (b.toNat≤122)
def cz(s:ByteArray):Bool:=dy s.size 1 16&&s.data.toList.all small
def abc:List UInt8:=[97,98,99,100,101,102,103,104,105,106,107,108,109,110,111,112,113,114,115,116,117,118,119,120,121,122]
theorem xF(b:UInt8):abc.contains b=small b:=by
 have h: ∀i:Fin 256,abc.contains (UInt8.ofNat i.val)=small (UInt8.ofNat i.val):=by decide+kernel
 have:=h ⟨b.toNat,b.toNat_lt⟩
 simpa using this
theorem rp(l:List UInt8):(trimS l abc).isEmpty=l.all small:=by
 have h1: ∀(p:UInt8→Bool) (l:List UInt8),(l.dropWhile p).isEmpty=l.all p:=by
  intro p l
  induction l with
  | nil=>rfl
  | cons x r ih=>
   rw[List.dropWhile_cons]
   by_cases h:p x=true
   ·rw[if_pos h,ih,List.all_cons,h,Bool.true_and]
   ·rw[if_neg h,List.all_cons,Bool.eq_false_iff.2 h];rfl
 have h3:(fun b=>abc.contains b)=small:=funext xF
 unfold trimS trimLeftS trimRightS
 rw[h3,h1]
 by_cases h:l.all small=true
 ·have:(l.reverse.dropWhile small)=[]:=by
   have:=h1 small l.reverse
   rw[List.all_reverse,h]at this
   exact List.isEmpty_iff.1 this
  rw[this,h];rfl
 ·have h4:l.all small=false:=Bool.eq_false_iff.2 h
  rw[h4,Bool.eq_false_iff]
  intro h5
  have h6:=h1 small l.reverse
  rw[List.all_reverse,h4]at h6
  rcases hd:l.reverse.dropWhile small with _ | ⟨x,r⟩
  ·rw[hd]at h6;cases h6
  ·have h7:small x=false:=by
    have:=List.head?_dropWhile_not small l.reverse
    rw[hd]at this
    simpa using this
   rw[hd,List.all_reverse]at h5
   simp[h7]at h5
theorem toList_eq(s:ByteArray):s.toList=s.data.toList:=Lib.toList_data s
theorem kA(s:ByteArray)(hs:s.size≤maxLen):eT s=some (cz s):=by
 unfold eT gg cz
 rw[c7,Option.bind_some]
 cases dy (s.size:Int) 1 16
 ·rfl
 ·have h1:ec s (ByteArray.mk #[97,98,99,100,101,102,103,104,105,106,107,108,109,110,111,112,113,114,115,116,117,118,119,120,121,122])=some ⟨(trimS s.data.toList abc).toArray⟩:=by
   unfold ec
   have h2:((ByteArray.mk #[97,98,99,100,101,102,103,104,105,106,107,108,109,110,111,112,113,114,115,116,117,118,119,120,121,122]).data.toList.all (fun b=>decide (b.toNat<128)))=true:=by decide
   have h3:(decide ((ByteArray.mk #[97,98,99,100,101,102,103,104,105,106,107,108,109,110,111,112,113,114,115,116,117,118,119,120,121,122]).size≤1000))=true:=by decide
   rw[h2,h3,decide_eq_true hs]
   rfl
  rw[h1]
  simp only[cond_true,Option.bind_some,Bool.true_and]
  congr 1
  rw[toList_eq,toList_eq,←rp]
  cases trimS s.data.toList abc<;>rfl
theorem l7{A:Type}{s:ByteArray}(hL:s.size≤9223372036854775807){B:Int→Unit→Option (Unit⊕(Unit⊕A))}(p:UInt8→Bool)(a:A)(h: ∀(i:Nat) x,s.data.toList[i]? =some x→B (i:Int) ()=bif p x then some (.inr (.inr a))else some (.inl ())){K:Option A}:
  (cW (s.size:Int) B (fun _=> .inl ()) 0 ()).bind (Sum.elim (fun _=>K) some)=bif s.data.toList.any p then some a else K:=by
 have hl:s.size=s.data.toList.length:=by rw[Array.length_toList];rfl
 rw[hl]at hL⊢
 exact kk hL p a h
theorem eU(s:ByteArray)(hs:s.size≤maxLen):cX s=some (cz s):=by
 unfold cX
 rw[l7 (by unfold maxLen at hs;omega) (fun x=> !small x) false (fun j x hx=> ?_)]
 ·rw[←List.not_all_eq_any_not]
  unfold cz
  cases s.data.toList.all small
  ·simp
  ·simp[dY]
 ·rw[qp hx]
  simp only[Option.bind_some]
  unfold small
  by_cases h1:(x.toNat:Int)<97
  ·have h2: ¬97≤x.toNat:=by omega
   simp[h1,h2]
  ·have h2:97≤x.toNat:=by omega
   by_cases h3:(x.toNat:Int)>122
   ·have h4: ¬x.toNat≤122:=by omega
    simp[h1,h2,h3,h4]
   ·have h4:x.toNat≤122:=by omega
    simp[h1,h2,h3,h4]
end Go.Proofs.YtdejeagdkfokfaaGreatDoor.Sh
