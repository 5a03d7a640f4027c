/- Names: AreNames of both; bounds on lengths alone. -/
import Derived.Test.YtdejeagdkfokfaaGreatDoorMWP
import Derived.Test.YtdejeagdkfokfaaGreatDoorRD
namespace Go.Proofs.YtdejeagdkfokfaaGreatDoor.Sh
open Go.RowKit Go.Lib
theorem mM{a b:ByteArray}:(a.toList==b.toList)=true↔a=b:=by
 rw[beq_iff_eq,toList_eq,toList_eq]
 refine⟨fun h=> ?_,fun h=>by rw[h]⟩
 obtain⟨a⟩:=a
 obtain⟨b⟩:=b
 have h:a.toList=b.toList:=h
 rw[Array.toList_inj.1 h]
theorem pE{a:ByteArray}(h:1≤a.size):(a.toList==(ByteArray.mk #[]).toList)=false:=by
 rw[Bool.eq_false_iff]
 intro hc
 rw[mM]at hc
 rw[hc]at h
 simp[ByteArray.size]at h
theorem ew{α A:Type}(p:Nat→α→Bool)(a:A): ∀(L:List α) (k:Nat),bV p (fun _ _=>a) L k=bif(bV p (fun _ _=>()) L k).isSome then some a else none
 | [],_=>rfl
 | x::l,k=>by
  unfold bV
  cases p k x
  ·exact ew p a l (k+1)
  ·rfl
theorem nJ{α:Type}{p:Nat→α→Bool}: ∀{L:List α} {k:Nat},(bV p (fun _ _=>()) L k).isSome=false→ ∀i x,L[i]? =some x→p (k+i) x=false
 | [],_,_,i,x,h=>by simp at h
 | y::l,k,h,i,x,hx=>by
  unfold bV at h
  cases hp:p k y
  ·rw[hp,cond_false]at h
   cases i with
   | zero=>simp at hx;subst hx;exact hp
   | succ i=>
    have:=nJ h i x (by simpa using hx)
    rwa [show k+(i+1)=k+1+i by omega]
  ·rw[hp]at h
   cases h
theorem lH{α A:Type}{L:List α}(hL:L.length≤1048576){B:Int→Unit→Option (Unit⊕(Unit⊕A))}(p:α→Bool)(a:A)(h: ∀(i:Nat) x,L[i]? =some x→B (i:Int) ()=bif p x then some (.inr (.inr a))else some (.inl ())):
  cY (L.length:Int) B (fun _=> .inl ()) 0 ()=bif L.any p then some (.inr a)else some (.inl ()):=by
 rw[ir L (by omega) B (fun _ x _=>bif p x then some (.inr (.inr a))else some (.inl ())) _ () (fun j x _ hx=>h j x hx),q8]
 cases L.any p<;>rfl
def mj(s:Span):Bool:=c6 s.From (-3000) 3000&&(c6 s.To (-3000) 3000&&decide (s.From≤s.To))
theorem ln(s:Span):fj s=some (mj s):=by
 unfold fj dI mj
 simp only[cX,Option.bind_some]
 cases c6 s.From (-3000) 3000<;>cases c6 s.To (-3000) 3000<;>rfl
theorem ly(s:Span):fr s=some (mj s):=by
 unfold fr cK mj
 simp only[dJ,Option.bind_some]
 cases c6 s.From (-3000) 3000<;>cases c6 s.To (-3000) 3000<;>rfl
def im(s:ByteArray):Bool:=c6 s.size 2 3&&s.data.toList.all small
theorem nM(s:ByteArray)(hs:s.size≤maxLen):da s=some (im s):=by
 unfold da fH im
 rw[cX,Option.bind_some]
 cases c6 (s.size:Int) 2 3
 ·rfl
 ·have h1:dM s (ByteArray.mk #[97,98,99,100,101,102,103,104,105,106,107,108,109,110,111,112,113,114,115,116,117,118,119,120,121,122])=some ⟨(trimS s.data.toList abc).toArray⟩:=by
   unfold dM
   have h2:((ByteArray.mk #[97,98,99,100,101,102,103,104,105,106,107,108,109,110,111,112,113,114,115,116,117,118,119,120,121,122]).data.toList.all (fun b=>decide (b.toNat<128)))=true:=by decide
   have h3:(decide ((ByteArray.mk #[97,98,99,100,101,102,103,104,105,106,107,108,109,110,111,112,113,114,115,116,117,118,119,120,121,122]).size≤1000))=true:=by decide
   rw[h2,h3,decide_eq_true hs]
   rfl
  rw[h1]
  simp only[cond_true,Option.bind_some,Bool.true_and]
  congr 1
  rw[toList_eq,toList_eq,←qu]
  cases trimS s.data.toList abc<;>rfl
theorem oj(s:ByteArray)(hs:s.size≤maxLen):cV s=some (im s):=by
 unfold cV iy
 rw[lr (by unfold maxLen at hs;omega) (fun x=> !small x) false (fun j x hx=> ?_)]
 ·rw[←List.not_all_eq_any_not]
  unfold im
  cases s.data.toList.all small
  ·simp
  ·simp[dJ]
 ·rw[pG hx]
  simp only[Option.bind_some]
  unfold small
  by_cases h1:(x.toNat:Int)<97
  ·have h2: ¬97≤x.toNat:=by omega
   simp[h1,h2]
  ·have h2:97≤x.toNat:=by omega
   by_cases h3:(x.toNat:Int)>122
   ·have h4: ¬x.toNat≤122:=by omega
    simp[h1,h2,h3,h4]
   ·have h4:x.toNat≤122:=by omega
    simp[h1,h2,h3,h4]
structure NmR (n:Name):Prop where
 t:n.Text.size≤1048576
 l:n.Language.size≤1048576
def oD(n:Name):Bool:=eC n.Text&&(im n.Language&&(c6 n.Status 0 2&&mj n.Years))
theorem wo{n:Name}(h:NmR n):iB n=some (oD n):=by
 have h1:=h.t
 have h2:=h.l
 unfold iB oD
 rw[jZ _ (by omega),nM _ (by unfold maxLen;omega),cX,ln]
 cases eC n.Text<;>cases im n.Language<;>cases c6 n.Status 0 2<;>rfl
theorem wM{n:Name}(h:NmR n):iI n=some (oD n):=by
 have h1:=h.t
 have h2:=h.l
 unfold iI oD
 rw[ke _ (by omega),oj _ (by unfold maxLen;omega),dJ,ly]
 cases eC n.Text<;>cases im n.Language<;>cases c6 n.Status 0 2<;>rfl
end Go.Proofs.YtdejeagdkfokfaaGreatDoor.Sh
