/- Copies, comparisons, sizes and marks of lists of structs: the loops of the laws; bounds on lengths alone. -/
import Derived.Test.YtdejeagdkfokfaaGreatDoorL0
namespace Go.Proofs.YtdejeagdkfokfaaGreatDoor.Sh
open Go.RowKit Go.Lib
section
variable {α A : Type}
theorem wh{L:List α}(hL:L.length≤9223372036854775807){B:Int→List α→Option (List α)}{z:α}(h: ∀(i:Nat) x (s:List α),L[i]? =some x→s.length=L.length→B (i:Int) s=some (s.set i x)):iQ (L.length:Int) B (fun s=>s) 0 (List.replicate L.length z)=some L:=by
 rw[lF,kh _ hL]
 obtain⟨r,e,h1,h2⟩:=qY (B:=fun(i:Nat) (s:List α)=>(B (i:Int) s).map (Sum.inl (β:=List α))) (D:=fun s=>s) (fun k (s:List α)=>s.length=L.length∧ ∀v,v<k→s[v]? =L[v]?) (fun s=>s.length=L.length∧ ∀v,v<L.length→s[v]? =L[v]?) L.length 0 (List.replicate L.length z) (fun i s _ hi hs=>by
  have hx:L[i]? =some L[i]:=List.getElem?_eq_getElem (by omega)
  refine .inl ⟨s.set i L[i],by rw[h i _ s hx hs.1];rfl,by simp[hs.1],fun v hv=> ?_⟩
  rw[List.getElem?_set]
  by_cases e:i=v
  ·subst e
   rw[if_pos rfl,if_pos (by omega)]
   exact hx.symm
  ·rw[if_neg e]
   exact hs.2 v (by omega)) (fun s hs=>⟨hs.1,fun v hv=>hs.2 v (by omega)⟩) ⟨by simp,fun v hv=>absurd hv (Nat.not_lt_zero _)⟩
 rw[e]
 congr 1
 apply List.ext_getElem?
 intro v
 by_cases hv:v<L.length
 ·exact h2 v hv
 ·rw[List.getElem?_eq_none (by omega),List.getElem?_eq_none (by omega)]
theorem nE{L:List α}(hL:L.length≤1048576)(F:α→Option α)(hF: ∀x∈L,F x=some x)(z:α):((lu z (L.length:Int)).bind fun x1=>(((iQ (L.length:Int) (fun(i4:Int) (s4:List α)=>((at' L i4).bind fun x8=>((F x8).bind fun x9=>((at' s4 i4).bind fun _=>some (List.set s4 (Int.toNat i4) x9))))) (fun(s4:List α)=>s4) 0 x1)).bind fun(j2:List α)=>some j2))=some L:=by
 rw[zV _ (by omega),Option.bind_some,wh (by omega) (fun i x s hx hs=>by
  have hi:=(List.getElem?_eq_some_iff.1 hx).1
  rw[bh,hx,Option.bind_some,hF x (List.mem_of_getElem? hx),Option.bind_some,bh,List.getElem?_eq_getElem (by omega)]
  rfl)]
 rfl
theorem ww{L:List α}(hL:L.length≤9223372036854775807){B:Int→Unit→Option (Unit⊕(Unit⊕A))}(h: ∀(i:Nat) x,L[i]? =some x→B (i:Int) ()=some (.inl ())){K:Option A}:(cY (L.length:Int) B (fun _=> .inl ()) 0 ()).bind (Sum.elim (fun _=>K) some)=K:=by
 rw[ir L hL B (fun _ _ _=>some (.inl ())) _ () (fun j x _ hx=>h j x hx)]
 have: ∀(M:List α) (k:Nat),iH (fun _ _ (_:Unit)=>some (.inl ())) (fun _=>(.inl ():Unit⊕A)) M k ()=some (.inl ()):=by
  intro M
  induction M with
  | nil=>intro k;rfl
  | cons x M ih=>intro k;unfold iH;exact ih (k+1)
 rw[this]
 rfl
theorem rL{L:List α}(hL:L.length≤1000000000)(F:α→α→Option Bool)(hF: ∀x∈L,F x x=some true):(bif((L.length:Int) !=(L.length:Int))then some false else(((cY (L.length:Int) (fun(i3:Int) (_:Unit)=>((at' L i3).bind fun x7=>((at' L i3).bind fun x8=>((F x7 x8).bind fun x9=>(bif(!x9)then some (.inr (.inr false))else some (.inl ())))))) (fun(_:Unit)=> .inl ()) 0 ())).bind (Sum.elim (fun(_:Unit)=>some true) some)))=some true:=by
 rw[bne_self_eq_false,cond_false]
 exact ww (by omega) (fun i x hx=>by
  rw[bh,hx]
  simp only[Option.bind_some,hF x (List.mem_of_getElem? hx),Bool.not_true,cond_false])
theorem sn{L:List α}(hL:L.length≤maxLen)(F:α→Int→Option Int)(P:α→Prop)(hF: ∀x∈L,∀s,0≤s→s≤1048576→ ∃v,F x s=some v∧(v<0∨(0≤v∧v≤s∧P x)))(l:Int)(h0:0≤l)(h1:l≤1048576):
  ∃v,(bif(decide ((aZ (l -(L.length:Int)))<0))then some (-1)else(((cY (L.length:Int) (fun(i3:Int) (s3:Int)=>((at' L i3).bind fun x7=>((F x7 s3).bind fun x8=>(bif(decide (x8<0))then some (.inr (.inr (-1)))else some (.inl x8))))) (fun(s3:Int)=> .inl s3) 0 (aZ (l -(L.length:Int))))).bind (Sum.elim (fun(j1:Int)=>some j1) some)))=some v∧(v<0∨(0≤v∧v≤l∧(L.length:Int)≤l∧ ∀x∈L,P x)):=by
 unfold maxLen at hL
 rw[cM (by omega) (by omega)]
 by_cases h:l -(L.length:Int)<0
 ·rw[decide_eq_true h]
  exact⟨_,rfl,.inl (by omega)⟩
 ·rw[decide_eq_false h,cond_false]
  have key: ∀(M:List α) (k:Nat) (s:Int),0≤s→s≤1048576→(∀x∈M,x∈L)→ ∃r,iH (fun _ x (s:Int)=>(F x s).bind fun x8=>(bif(decide (x8<0))then some (Sum.inr (Sum.inr (-1)))else some (Sum.inl x8))) (fun s=>(.inl s:Int⊕Int)) M k s=some r∧(match r with | .inl v=>0≤v∧v≤s∧ ∀x∈M,P x | .inr v=>v<0):=by
   intro M
   induction M with
   | nil=>exact fun k s h0 h1 _=>⟨_,rfl,h0,Int.le_refl _,by simp⟩
   | cons x M ih=>
    intro k s h0 h1 hM
    obtain⟨v,e,hv⟩:=hF x (hM x (by simp)) s h0 h1
    unfold iH
    rw[e,Option.bind_some]
    by_cases hn:v<0
    ·rw[decide_eq_true hn]
     exact⟨_,rfl,by show(-1:Int)<0;omega⟩
    ·obtain⟨q1,q2,q3⟩:=hv.resolve_left hn
     rw[decide_eq_false hn,cond_false,Option.bind_some,Sum.elim_inl]
     obtain⟨r,e2,h2⟩:=ih (k+1) v q1 (by omega) (fun y hy=>hM y (by simp[hy]))
     refine⟨r,e2,?_⟩
     cases r with
     | inl v2=>exact⟨h2.1,by have:=h2.2.1;omega,fun y hy=>(List.mem_cons.1 hy).elim (fun e=>e▸q3) (h2.2.2 y)⟩
     | inr v2=>exact h2
  rw[zN (A:=Int⊕Int) L (by omega) (fun(_:Int) x7 (s3:Int)=>((F x7 s3).bind fun x8=>(bif(decide (x8<0))then some (Sum.inr (Sum.inr (-1)))else some (Sum.inl x8))))]
  obtain⟨r,e,hr⟩:=key L 0 (l -(L.length:Int)) (by omega) (by omega) (fun _ h=>h)
  rw[e]
  cases r with
  | inl v=>exact⟨v,rfl,.inr ⟨hr.1,by have:=hr.2.1;omega,by omega,hr.2.2⟩⟩
  | inr v=>exact⟨v,rfl,.inl hr⟩
end
end Go.Proofs.YtdejeagdkfokfaaGreatDoor.Sh
