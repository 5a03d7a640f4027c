/- Names: AreNames of both; bounds on lengths alone. -/
import Derived.Test.YtdejeagdkfokfaaGreatDoorMWP
import Derived.Test.YtdejeagdkfokfaaGreatDoorRD
namespace Go.Proofs.YtdejeagdkfokfaaGreatDoor.Sh
open Go.RowKit Go.Lib
theorem nV{a b:ByteArray}:(a.toList==b.toList)=true↔a=b:=by
 rw[beq_iff_eq,toList_eq,toList_eq]
 refine⟨fun h=> ?_,fun h=>by rw[h]⟩
 obtain⟨a⟩:=a
 obtain⟨b⟩:=b
 have h:a.toList=b.toList:=h
 rw[Array.toList_inj.1 h]
theorem qS{a:ByteArray}(h:1≤a.size):(a.toList==(ByteArray.mk #[]).toList)=false:=by
 rw[Bool.eq_false_iff]
 intro hc
 rw[nV]at hc
 rw[hc]at h
 simp[ByteArray.size]at h
theorem eZ{α A:Type}(p:Nat→α→Bool)(a:A): ∀(L:List α) (k:Nat),cb p (fun _ _=>a) L k=bif(cb p (fun _ _=>()) L k).isSome then some a else none
 | [],_=>rfl
 | x::l,k=>by
  unfold cb
  cases p k x
  ·exact eZ p a l (k+1)
  ·rfl
theorem oZ{α:Type}{p:Nat→α→Bool}: ∀{L:List α} {k:Nat},(cb p (fun _ _=>()) L k).isSome=false→ ∀i x,L[i]? =some x→p (k+i) x=false
 | [],_,_,i,x,h=>by simp at h
 | y::l,k,h,i,x,hx=>by
  unfold cb at h
  cases hp:p k y
  ·rw[hp,cond_false]at h
   cases i with
   | zero=>simp at hx;subst hx;exact hp
   | succ i=>
    have:=oZ h i x (by simpa using hx)
    rwa [show k+(i+1)=k+1+i by omega]
  ·rw[hp]at h
   cases h
theorem mI{α A:Type}{L:List α}(hL:L.length≤1048576){B:Int→Unit→Option (Unit⊕(Unit⊕A))}(p:α→Bool)(a:A)(h: ∀(i:Nat) x,L[i]? =some x→B (i:Int) ()=bif p x then some (.inr (.inr a))else some (.inl ())):
  cQ (L.length:Int) B (fun _=> .inl ()) 0 ()=bif L.any p then some (.inr a)else some (.inl ()):=by
 rw[ie L (by omega) B (fun _ x _=>bif p x then some (.inr (.inr a))else some (.inl ())) _ () (fun j x _ hx=>h j x hx),s6]
 cases L.any p<;>rfl
def nk(s:Span):Bool:=dD s.From (-3000) 3000&&(dD s.To (-3000) 3000&&decide (s.From≤s.To))
theorem mo(s:Span):fS s=some (nk s):=by
 unfold fS ea nk
 simp only[dd,Option.bind_some]
 cases dD s.From (-3000) 3000<;>cases dD s.To (-3000) 3000<;>rfl
theorem mz(s:Span):ga s=some (nk s):=by
 unfold ga cY nk
 simp only[eb,Option.bind_some]
 cases dD s.From (-3000) 3000<;>cases dD s.To (-3000) 3000<;>rfl
def jc(s:ByteArray):Bool:=dD s.size 2 3&&s.data.toList.all small
theorem o5(s:ByteArray)(hs:s.size≤maxLen):dy s=some (jc s):=by
 unfold dy gu jc
 rw[dd,Option.bind_some]
 cases dD (s.size:Int) 2 3
 ·rfl
 ·have h1:ef s (ByteArray.mk #[97,98,99,100,101,102,103,104,105,106,107,108,109,110,111,112,113,114,115,116,117,118,119,120,121,122])=some ⟨(trimS s.data.toList abc).toArray⟩:=by
   unfold ef
   have h2:((ByteArray.mk #[97,98,99,100,101,102,103,104,105,106,107,108,109,110,111,112,113,114,115,116,117,118,119,120,121,122]).data.toList.all (fun b=>decide (b.toNat<128)))=true:=by decide
   have h3:(decide ((ByteArray.mk #[97,98,99,100,101,102,103,104,105,106,107,108,109,110,111,112,113,114,115,116,117,118,119,120,121,122]).size≤1000))=true:=by decide
   rw[h2,h3,decide_eq_true hs]
   rfl
  rw[h1]
  simp only[cond_true,Option.bind_some,Bool.true_and]
  congr 1
  rw[toList_eq,toList_eq,←r7]
  cases trimS s.data.toList abc<;>rfl
theorem pA(s:ByteArray)(hs:s.size≤maxLen):db s=some (jc s):=by
 unfold db jl
 rw[mv (by unfold maxLen at hs;omega) (fun x=> !small x) false (fun j x hx=> ?_)]
 ·rw[←List.not_all_eq_any_not]
  unfold jc
  cases s.data.toList.all small
  ·simp
  ·simp[eb]
 ·rw[qU hx]
  simp only[Option.bind_some]
  unfold small
  by_cases h1:(x.toNat:Int)<97
  ·have h2: ¬97≤x.toNat:=by omega
   simp[h1,h2]
  ·have h2:97≤x.toNat:=by omega
   by_cases h3:(x.toNat:Int)>122
   ·have h4: ¬x.toNat≤122:=by omega
    simp[h1,h2,h3,h4]
   ·have h4:x.toNat≤122:=by omega
    simp[h1,h2,h3,h4]
structure NmR (n:Name):Prop where
 t:n.Text.size≤1048576
 l:n.Language.size≤1048576
def pQ(n:Name):Bool:=fe n.Text&&(jc n.Language&&(dD n.Status 0 2&&nk n.Years))
theorem yC{n:Name}(h:NmR n):jr n=some (pQ n):=by
 have h1:=h.t
 have h2:=h.l
 unfold jr pQ
 rw[kS _ (by omega),o5 _ (by unfold maxLen;omega),dd,mo]
 cases fe n.Text<;>cases jc n.Language<;>cases dD n.Status 0 2<;>rfl
theorem yT{n:Name}(h:NmR n):jx n=some (pQ n):=by
 have h1:=h.t
 have h2:=h.l
 unfold jx pQ
 rw[kX _ (by omega),pA _ (by unfold maxLen;omega),eb,mz]
 cases fe n.Text<;>cases jc n.Language<;>cases dD n.Status 0 2<;>rfl
end Go.Proofs.YtdejeagdkfokfaaGreatDoor.Sh
