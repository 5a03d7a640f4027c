/- Copies, comparisons, sizes and marks of lists of structs: the loops of the laws; bounds on lengths alone. -/
import Derived.Test.YtdejeagdkfokfaaGreatDoorL0
namespace Go.Proofs.YtdejeagdkfokfaaGreatDoor.Sh
open Go.RowKit Go.Lib
section
variable {α A : Type}
theorem yx{L:List α}(hL:L.length≤9223372036854775807){B:Int→List α→Option (List α)}{z:α}(h: ∀(i:Nat) x (s:List α),L[i]? =some x→s.length=L.length→B (i:Int) s=some (s.set i x)):jq (L.length:Int) B (fun s=>s) 0 (List.replicate L.length z)=some L:=by
 rw[mH,k7 _ hL]
 obtain⟨r,e,h1,h2⟩:=sV (B:=fun(i:Nat) (s:List α)=>(B (i:Int) s).map (Sum.inl (β:=List α))) (D:=fun s=>s) (fun k (s:List α)=>s.length=L.length∧ ∀v,v<k→s[v]? =L[v]?) (fun s=>s.length=L.length∧ ∀v,v<L.length→s[v]? =L[v]?) L.length 0 (List.replicate L.length z) (fun i s _ hi hs=>by
  have hx:L[i]? =some L[i]:=List.getElem?_eq_getElem (by omega)
  refine .inl ⟨s.set i L[i],by rw[h i _ s hx hs.1];rfl,by simp[hs.1],fun v hv=> ?_⟩
  rw[List.getElem?_set]
  by_cases e:i=v
  ·subst e
   rw[if_pos rfl,if_pos (by omega)]
   exact hx.symm
  ·rw[if_neg e]
   exact hs.2 v (by omega)) (fun s hs=>⟨hs.1,fun v hv=>hs.2 v (by omega)⟩) ⟨by simp,fun v hv=>absurd hv (Nat.not_lt_zero _)⟩
 rw[e]
 congr 1
 apply List.ext_getElem?
 intro v
 by_cases hv:v<L.length
 ·exact h2 v hv
 ·rw[List.getElem?_eq_none (by omega),List.getElem?_eq_none (by omega)]
theorem mG{L:List α}(hL:L.length≤1048576)(F:α→Option α)(hF: ∀x∈L,F x=some x)(z:α):((lR z (L.length:Int)).bind fun x1=>(((jq (L.length:Int) (fun(i4:Int) (s4:List α)=>((at' L i4).bind fun x8=>((F x8).bind fun x9=>((at' s4 i4).bind fun _=>some (List.set s4 (Int.toNat i4) x9))))) (fun(s4:List α)=>s4) 0 x1)).bind fun(j2:List α)=>some j2))=some L:=by
 rw[B5 _ (by omega),Option.bind_some,yx (by omega) (fun i x s hx hs=>by
  have hi:=(List.getElem?_eq_some_iff.1 hx).1
  rw[bk,hx,Option.bind_some,hF x (List.mem_of_getElem? hx),Option.bind_some,bk,List.getElem?_eq_getElem (by omega)]
  rfl)]
 rfl
theorem yF{L:List α}(hL:L.length≤9223372036854775807){B:Int→Unit→Option (Unit⊕(Unit⊕A))}(h: ∀(i:Nat) x,L[i]? =some x→B (i:Int) ()=some (.inl ())){K:Option A}:(cQ (L.length:Int) B (fun _=> .inl ()) 0 ()).bind (Sum.elim (fun _=>K) some)=K:=by
 rw[ie L hL B (fun _ _ _=>some (.inl ())) _ () (fun j x _ hx=>h j x hx)]
 have: ∀(M:List α) (k:Nat),fm (fun _ _ (_:Unit)=>some (.inl ())) (fun _=>(.inl ():Unit⊕A)) M k ()=some (.inl ()):=by
  intro M
  induction M with
  | nil=>intro k;rfl
  | cons x M ih=>intro k;unfold fm;exact ih (k+1)
 rw[this]
 rfl
theorem qC{L:List α}(hL:L.length≤1000000000)(F:α→α→Option Bool)(hF: ∀x∈L,F x x=some true):(bif((L.length:Int) !=(L.length:Int))then some false else(((cQ (L.length:Int) (fun(i3:Int) (_:Unit)=>((at' L i3).bind fun x7=>((at' L i3).bind fun x8=>((F x7 x8).bind fun x9=>(bif(!x9)then some (.inr (.inr false))else some (.inl ())))))) (fun(_:Unit)=> .inl ()) 0 ())).bind (Sum.elim (fun(_:Unit)=>some true) some)))=some true:=by
 rw[bne_self_eq_false,cond_false]
 exact yF (by omega) (fun i x hx=>by
  rw[bk,hx]
  simp only[Option.bind_some,hF x (List.mem_of_getElem? hx),Bool.not_true,cond_false])
theorem qN{L:List α}(hL:L.length≤maxLen)(F:α→Int→Option Int)(P:α→Prop)(hF: ∀x∈L,∀s,0≤s→s≤1048576→ ∃v,F x s=some v∧(v<0∨(0≤v∧v≤s∧P x)))(l:Int)(h0:0≤l)(h1:l≤1048576):
  ∃v,(bif(decide ((aO (l -(L.length:Int)))<0))then some (-1)else(((cQ (L.length:Int) (fun(i3:Int) (s3:Int)=>((at' L i3).bind fun x7=>((F x7 s3).bind fun x8=>(bif(decide (x8<0))then some (.inr (.inr (-1)))else some (.inl x8))))) (fun(s3:Int)=> .inl s3) 0 (aO (l -(L.length:Int))))).bind (Sum.elim (fun(j1:Int)=>some j1) some)))=some v∧(v<0∨(0≤v∧v≤l∧(L.length:Int)≤l∧ ∀x∈L,P x)):=by
 unfold maxLen at hL
 rw[bq (by omega) (by omega)]
 by_cases h:l -(L.length:Int)<0
 ·rw[decide_eq_true h]
  exact⟨_,rfl,.inl (by omega)⟩
 ·rw[decide_eq_false h,cond_false]
  have key: ∀(M:List α) (k:Nat) (s:Int),0≤s→s≤1048576→(∀x∈M,x∈L)→ ∃r,fm (fun _ x (s:Int)=>(F x s).bind fun x8=>(bif(decide (x8<0))then some (Sum.inr (Sum.inr (-1)))else some (Sum.inl x8))) (fun s=>(.inl s:Int⊕Int)) M k s=some r∧(match r with | .inl v=>0≤v∧v≤s∧ ∀x∈M,P x | .inr v=>v<0):=by
   intro M
   induction M with
   | nil=>exact fun k s h0 h1 _=>⟨_,rfl,h0,Int.le_refl _,by simp⟩
   | cons x M ih=>
    intro k s h0 h1 hM
    obtain⟨v,e,hv⟩:=hF x (hM x (by simp)) s h0 h1
    unfold fm
    rw[e,Option.bind_some]
    by_cases hn:v<0
    ·rw[decide_eq_true hn]
     exact⟨_,rfl,by show(-1:Int)<0;omega⟩
    ·obtain⟨q1,q2,q3⟩:=hv.resolve_left hn
     rw[decide_eq_false hn,cond_false,Option.bind_some,Sum.elim_inl]
     obtain⟨r,e2,h2⟩:=ih (k+1) v q1 (by omega) (fun y hy=>hM y (by simp[hy]))
     refine⟨r,e2,?_⟩
     cases r with
     | inl v2=>exact⟨h2.1,by have:=h2.2.1;omega,fun y hy=>(List.mem_cons.1 hy).elim (fun e=>e▸q3) (h2.2.2 y)⟩
     | inr v2=>exact h2
  rw[tX (A:=Int⊕Int) L (by omega) (fun(_:Int) x7 (s3:Int)=>((F x7 s3).bind fun x8=>(bif(decide (x8<0))then some (Sum.inr (Sum.inr (-1)))else some (Sum.inl x8))))]
  obtain⟨r,e,hr⟩:=key L 0 (l -(L.length:Int)) (by omega) (by omega) (fun _ h=>h)
  rw[e]
  cases r with
  | inl v=>exact⟨v,rfl,.inr ⟨hr.1,by have:=hr.2.1;omega,by omega,hr.2.2⟩⟩
  | inr v=>exact⟨v,rfl,.inl hr⟩
def er(f:Int→α→α)(c:α→Nat):Int→List α→List α
 | _,[]=>[]
 | k,x::l=>f k x::er f c (k+c x) l
def dg(c:α→Nat):List α→Nat
 | []=>0
 | x::l=>c x+dg c l
theorem oS{c:α→Nat}{C:Nat}: ∀{L:List α},(∀x∈L,c x≤C)→dg c L≤C*L.length
 | [],_=>by simp[dg]
 | x::l,h=>by
  have h1:=h x (by simp)
  have h2:=oS (L:=l) (fun y hy=>h y (by simp[hy]))
  rw[List.length_cons,Nat.mul_add,Nat.mul_one]
  unfold dg
  omega
theorem sY(f:Int→α→α)(c:α→Nat): ∀(k:Int) (L:List α),(er f c k L).length=L.length
 | _,[]=>rfl
 | k,x::l=>by simp[er,sY f c]
theorem rC{B:Int→Int×List α→Option (Int×List α)}(f:Int→α→α)(c:α→Nat)
  (h: ∀(k:Int) (i:Nat) (L:List α) x,1≤k→k+c x≤1000000000000000→L.length≤1000000000000000→L[i]? =some x→B (i:Int) (k,L)=some (k+c x,L.set i (f k x))):
  ∀(L P:List α) (k:Int),1≤k→k+dg c L≤1000000000000000→P.length+L.length≤1000000000000000→ny (fun(i:Int) (s:Int×List α)=>decide (i<(s.2.length:Int))) B (fun s=>(s.1,s.2)) (P.length:Int) (k,P++L)=some (k+dg c L,P++er f c k L)
 | [],P,k,_,_,_=>by
  unfold ny
  rw[et,List.append_nil]
  simp[er,dg]
 | x::l,P,k,h1,h2,h3=>by
  have e1:(P++x::l)[P.length]? =some x:=by simp
  have e2:(P++x::l).set P.length (f k x)=(P++[f k x])++l:=by simp
  have e5:(P.length:Int)<((P++x::l).length:Int):=by simp;omega
  have h2':k+(c x+dg c l:Nat)≤1000000000000000:=h2
  unfold ny
  rw[et]
  dsimp only
  rw[decide_eq_true e5,cond_true,h k P.length (P++x::l) x h1 (by omega) (by simp;simp at h3;omega) e1,e2,bq (n:=(P.length:Int)+1) (by omega) (by simp at h3;omega)]
  have e3:(P.length:Int)+1=((P++[f k x]).length:Int):=by simp
  have e4:k+((dg c (x::l):Nat):Int)=k+c x+(dg c l:Nat):=by
   show k+((c x+dg c l:Nat):Int)=_
   omega
  rw[e3]
  have:=rC f c h l (P++[f k x]) (k+c x) (by omega) (by omega) (by simp;simp at h3;omega)
  unfold ny at this
  simp only[Option.bind_some]
  rw[this,e4]
  simp[er]
theorem mK{B:Int→Int×List α→Option (Int×List α)}(f:Int→α→α)(c:α→Nat)(L:List α)(k:Int)(h1:1≤k)(h2:k+dg c L≤1000000000000000)(h3:L.length≤1000000000000000)
  (h: ∀(k:Int) (i:Nat) (L:List α) x,1≤k→k+c x≤1000000000000000→L.length≤1000000000000000→L[i]? =some x→B (i:Int) (k,L)=some (k+c x,L.set i (f k x))):
  (ny (fun(i:Int) (s:Int×List α)=>decide (i<(s.2.length:Int))) B (fun s=>(s.1,s.2)) 0 (k,L)).bind (fun(j1:Int×List α)=>some (j1.1,j1.2))=some (k+dg c L,er f c k L):=by
 have:=rC f c h L [] k h1 h2 (by simpa using h3)
 rw[List.length_nil,List.nil_append,List.nil_append]at this
 rw[show(0:Int)=((0:Nat):Int)from rfl,this]
 rfl
theorem o2{L:List α}(f:Int→α→α)(c:α→Nat)(hL:L.length≤1000000000000000){B:Int→Int→Option (Int⊕(Int⊕Int))}(k0:Int)(hk:1≤k0)(hN:k0+dg c L≤1000000000000000)(h: ∀(i:Nat) (k:Int) x,1≤k→k+c x≤1000000000000000→(er f c k0 L)[i]? =some (f k x)→B (i:Int) k=some (.inl (k+c x))):
  (cQ ((er f c k0 L).length:Int) B (fun s=> .inl s) 0 k0).bind (Sum.elim (fun j=>some j) some)=some (k0+dg c L):=by
 have key: ∀(M:List α) (P:List α) (j:Int),1≤j→j+dg c M≤1000000000000000→er f c k0 L=P++er f c j M→fm (fun(i:Nat) (_:α) (s:Int)=>B (i:Int) s) (fun s=>(.inl s:Int⊕Int)) (er f c j M) P.length j=some (.inl (j+dg c M)):=by
  intro M
  induction M with
  | nil=>intro P j _ _ _;simp[er,fm,dg]
  | cons x M ih=>
   intro P j h1 h2 h3
   have h2':j+(c x+dg c M:Nat)≤1000000000000000:=h2
   have e4:j+((dg c (x::M):Nat):Int)=j+c x+(dg c M:Nat):=by
    show j+((c x+dg c M:Nat):Int)=_
    omega
   unfold er fm
   rw[h P.length j x h1 (by omega) (by rw[h3];simp[er]),Option.bind_some,Sum.elim_inl]
   have:=ih (P++[f j x]) (j+c x) (by omega) (by omega) (by rw[h3];simp[er])
   rw[List.length_append,List.length_singleton]at this
   rw[this,e4]
 rw[ie (er f c k0 L) (by rw[sY];omega) B (fun i _ s=>B (i:Int) s) _ k0 (fun j x s hx=>rfl)]
 have:=key L [] k0 hk hN rfl
 rw[List.length_nil]at this
 rw[this]
 rfl
end
end Go.Proofs.YtdejeagdkfokfaaGreatDoor.Sh
