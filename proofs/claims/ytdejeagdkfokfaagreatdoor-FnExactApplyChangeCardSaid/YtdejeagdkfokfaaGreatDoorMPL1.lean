/- Names: AreNames of both; bounds on lengths alone. -/
import Derived.Test.YtdejeagdkfokfaaGreatDoorMWP
import Derived.Test.YtdejeagdkfokfaaGreatDoorRD
namespace Go.Proofs.YtdejeagdkfokfaaGreatDoor.Sh
open Go.RowKit Go.Lib
theorem nu{a b:ByteArray}:(a.toList==b.toList)=true↔a=b:=by
 rw[beq_iff_eq,toList_eq,toList_eq]
 refine⟨fun h=> ?_,fun h=>by rw[h]⟩
 obtain⟨a⟩:=a
 obtain⟨b⟩:=b
 have h:a.toList=b.toList:=h
 rw[Array.toList_inj.1 h]
theorem qn{a:ByteArray}(h:1≤a.size):(a.toList==(ByteArray.mk #[]).toList)=false:=by
 rw[Bool.eq_false_iff]
 intro hc
 rw[nu]at hc
 rw[hc]at h
 simp[ByteArray.size]at h
theorem eW{α A:Type}(p:Nat→α→Bool)(a:A): ∀(L:List α) (k:Nat),bY p (fun _ _=>a) L k=bif(bY p (fun _ _=>()) L k).isSome then some a else none
 | [],_=>rfl
 | x::l,k=>by
  unfold bY
  cases p k x
  ·exact eW p a l (k+1)
  ·rfl
theorem ow{α:Type}{p:Nat→α→Bool}: ∀{L:List α} {k:Nat},(bY p (fun _ _=>()) L k).isSome=false→ ∀i x,L[i]? =some x→p (k+i) x=false
 | [],_,_,i,x,h=>by simp at h
 | y::l,k,h,i,x,hx=>by
  unfold bY at h
  cases hp:p k y
  ·rw[hp,cond_false]at h
   cases i with
   | zero=>simp at hx;subst hx;exact hp
   | succ i=>
    have:=ow h i x (by simpa using hx)
    rwa [show k+(i+1)=k+1+i by omega]
  ·rw[hp]at h
   cases h
theorem mo{α A:Type}{L:List α}(hL:L.length≤1048576){B:Int→Unit→Option (Unit⊕(Unit⊕A))}(p:α→Bool)(a:A)(h: ∀(i:Nat) x,L[i]? =some x→B (i:Int) ()=bif p x then some (.inr (.inr a))else some (.inl ())):
  cW (L.length:Int) B (fun _=> .inl ()) 0 ()=bif L.any p then some (.inr a)else some (.inl ()):=by
 rw[gS L (by omega) B (fun _ x _=>bif p x then some (.inr (.inr a))else some (.inl ())) _ () (fun j x _ hx=>h j x hx),sg]
 cases L.any p<;>rfl
def mU(s:Span):Bool:=dy s.From (-3000) 3000&&(dy s.To (-3000) 3000&&decide (s.From≤s.To))
theorem l4(s:Span):fJ s=some (mU s):=by
 unfold fJ dX mU
 simp only[c7,Option.bind_some]
 cases dy s.From (-3000) 3000<;>cases dy s.To (-3000) 3000<;>rfl
theorem mc(s:Span):fP s=some (mU s):=by
 unfold fP cU mU
 simp only[dY,Option.bind_some]
 cases dy s.From (-3000) 3000<;>cases dy s.To (-3000) 3000<;>rfl
def iU(s:ByteArray):Bool:=dy s.size 2 3&&s.data.toList.all small
theorem oB(s:ByteArray)(hs:s.size≤maxLen):dj s=some (iU s):=by
 unfold dj gg iU
 rw[c7,Option.bind_some]
 cases dy (s.size:Int) 2 3
 ·rfl
 ·have h1:ec s (ByteArray.mk #[97,98,99,100,101,102,103,104,105,106,107,108,109,110,111,112,113,114,115,116,117,118,119,120,121,122])=some ⟨(trimS s.data.toList abc).toArray⟩:=by
   unfold ec
   have h2:((ByteArray.mk #[97,98,99,100,101,102,103,104,105,106,107,108,109,110,111,112,113,114,115,116,117,118,119,120,121,122]).data.toList.all (fun b=>decide (b.toNat<128)))=true:=by decide
   have h3:(decide ((ByteArray.mk #[97,98,99,100,101,102,103,104,105,106,107,108,109,110,111,112,113,114,115,116,117,118,119,120,121,122]).size≤1000))=true:=by decide
   rw[h2,h3,decide_eq_true hs]
   rfl
  rw[h1]
  simp only[cond_true,Option.bind_some,Bool.true_and]
  congr 1
  rw[toList_eq,toList_eq,←rp]
  cases trimS s.data.toList abc<;>rfl
theorem o4(s:ByteArray)(hs:s.size≤maxLen):c6 s=some (iU s):=by
 unfold c6 jc
 rw[l7 (by unfold maxLen at hs;omega) (fun x=> !small x) false (fun j x hx=> ?_)]
 ·rw[←List.not_all_eq_any_not]
  unfold iU
  cases s.data.toList.all small
  ·simp
  ·simp[dY]
 ·rw[qp hx]
  simp only[Option.bind_some]
  unfold small
  by_cases h1:(x.toNat:Int)<97
  ·have h2: ¬97≤x.toNat:=by omega
   simp[h1,h2]
  ·have h2:97≤x.toNat:=by omega
   by_cases h3:(x.toNat:Int)>122
   ·have h4: ¬x.toNat≤122:=by omega
    simp[h1,h2,h3,h4]
   ·have h4:x.toNat≤122:=by omega
    simp[h1,h2,h3,h4]
structure NmR (n:Name):Prop where
 t:n.Text.size≤1048576
 l:n.Language.size≤1048576
def pk(n:Name):Bool:=e7 n.Text&&(iU n.Language&&(dy n.Status 0 2&&mU n.Years))
theorem xT{n:Name}(h:NmR n):jg n=some (pk n):=by
 have h1:=h.t
 have h2:=h.l
 unfold jg pk
 rw[kN _ (by omega),oB _ (by unfold maxLen;omega),c7,l4]
 cases e7 n.Text<;>cases iU n.Language<;>cases dy n.Status 0 2<;>rfl
theorem yk{n:Name}(h:NmR n):jo n=some (pk n):=by
 have h1:=h.t
 have h2:=h.l
 unfold jo pk
 rw[kR _ (by omega),o4 _ (by unfold maxLen;omega),dY,mc]
 cases e7 n.Text<;>cases iU n.Language<;>cases dy n.Status 0 2<;>rfl
end Go.Proofs.YtdejeagdkfokfaaGreatDoor.Sh
