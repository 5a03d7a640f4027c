/- Changes: ApplyChanges of both. -/
import Derived.Test.YtdejeagdkfokfaaGreatDoorMCHC
namespace Go.Proofs.YtdejeagdkfokfaaGreatDoor.Sh
open Go.RowKit Go.Lib
theorem D4{A J:World}: ∀(L:List Change) (i:Nat) (W:World),WlR W→(∀x∈L,ChR x)→
  (∃V,WlR V∧fm (fun(i:Nat) x (s7:World×(List ax)×(List Place))=>((bC (World.mk s7.2.2 s7.2.1) x).bind fun x12=>(bif(x12.2 !=0)then some (.inr (.inr ((World.mk s7.2.2 s7.2.1),(i:Int),x12.2)))else some (.inl (s7.1,x12.1.Links,x12.1.Places))))) (fun(s7:World×(List ax)×(List Place))=>(.inl (s7.1,s7.2.1,s7.2.2):(World×(List ax)×(List Place))⊕(World×Int×Int))) L i (J,W.Links,W.Places)=some (.inl (J,V.Links,V.Places))∧
   fm (fun(i:Nat) x (s4:World×World)=>((cy s4.1 x).bind fun x9=>(bif(x9.2 !=0)then((dM s4.1).bind fun x10=>some (.inr (.inr (x10,(i:Int),x9.2))))else some (.inl (x9.1,s4.2))))) (fun(s4:World×World)=>(.inl (s4.1,s4.2):(World×World)⊕(World×Int×Int))) L i (W,A)=some (.inl (V,A)))∨
  (∃V k e,WlR V∧fm (fun(i:Nat) x (s7:World×(List ax)×(List Place))=>((bC (World.mk s7.2.2 s7.2.1) x).bind fun x12=>(bif(x12.2 !=0)then some (.inr (.inr ((World.mk s7.2.2 s7.2.1),(i:Int),x12.2)))else some (.inl (s7.1,x12.1.Links,x12.1.Places))))) (fun(s7:World×(List ax)×(List Place))=>(.inl (s7.1,s7.2.1,s7.2.2):(World×(List ax)×(List Place))⊕(World×Int×Int))) L i (J,W.Links,W.Places)=some (.inr (V,k,e))∧
   fm (fun(i:Nat) x (s4:World×World)=>((cy s4.1 x).bind fun x9=>(bif(x9.2 !=0)then((dM s4.1).bind fun x10=>some (.inr (.inr (x10,(i:Int),x9.2))))else some (.inl (x9.1,s4.2))))) (fun(s4:World×World)=>(.inl (s4.1,s4.2):(World×World)⊕(World×Int×Int))) L i (W,A)=some (.inr (V,k,e)))
 | [],_,W,hW,_=> .inl ⟨W,hW,rfl,rfl⟩
 | x::l,i,W,hW,h=>by
  obtain⟨V,Z,e,e1,e2,_,e4,_⟩:=wG hW (h x (by simp))
  unfold fm
  cases he:e==0
  ·right
   refine⟨W,i,e,hW,?_,?_⟩
   ·show((bC W x).bind _).bind _=_
    rw[e1,Option.bind_some,bne,he]
    rfl
   ·show((cy W x).bind _).bind _=_
    rw[e2,Option.bind_some,bne,he,Bool.not_false,cond_true,ya hW]
    rfl
  ·obtain⟨h1,h2,_⟩:=e4 (by simpa using he)
   have e1':((bC (World.mk W.Places W.Links) x).bind fun x12=>(bif(x12.2 !=0)then some (.inr (.inr ((World.mk W.Places W.Links),(i:Int),x12.2)))else some (.inl (J,x12.1.Links,x12.1.Places)):Option ((World×(List ax)×(List Place))⊕((World×(List ax)×(List Place))⊕(World×Int×Int)))))=some (.inl (J,V.Links,V.Places)):=by
    show((bC W x).bind _)=_
    rw[e1,Option.bind_some,bne,he]
    rfl
   have e2':((cy W x).bind fun x9=>(bif(x9.2 !=0)then((dM W).bind fun x10=>some (.inr (.inr (x10,(i:Int),x9.2))))else some (.inl (x9.1,A)):Option ((World×World)⊕((World×World)⊕(World×Int×Int)))))=some (.inl (V,A)):=by
    rw[e2,Option.bind_some,bne,he,h1]
    rfl
   dsimp only
   rw[e1',e2']
   exact D4 l (i+1) V h2 fun y hy=>h y (by simp[hy])
theorem wI{W:World}{L:List Change}(hW:WlR W)(hL:L.length≤1048576)(h: ∀x∈L,ChR x): ∃r,c4 W L=some r∧ed W L=some r∧lN r.1:=by
 unfold c4 ed e7
 rw[oo hW,oJ hW]
 cases ic W
 ·exact⟨_,rfl,rfl,Cr.sm⟩
 simp only[Option.bind_some,Bool.not_true,cond_false]
 cases decide ((L.length:Int)>12)
 ·simp only[cond_false,Option.bind_some,Sum.elim_inl,sP hW]
  rw[tX L (by omega) (fun(i:Int) (x:Change) (s7:World×(List ax)×(List Place))=>(((bC (World.mk s7.2.2 s7.2.1) x).bind fun x12=>(bif(x12.2 !=0)then some (.inr (.inr ((World.mk s7.2.2 s7.2.1),i,x12.2)))else some (.inl (s7.1,x12.1.Links,x12.1.Places)))):Option ((World×(List ax)×(List Place))⊕((World×(List ax)×(List Place))⊕(World×Int×Int)))))]
  rw[tX L (by omega) (fun(i:Int) (x:Change) (s4:World×World)=>(((cy s4.1 x).bind fun x9=>(bif(x9.2 !=0)then((dM s4.1).bind fun x10=>some (.inr (.inr (x10,i,x9.2))))else some (.inl (x9.1,s4.2)))):Option ((World×World)⊕((World×World)⊕(World×Int×Int)))))]
  rcases D4 (A:=World.mk [] []) (J:=World.mk [] []) L 0 W hW h with⟨V,h1,h2,h3⟩ | ⟨V,k,e,h1,h2,h3⟩
  ·rw[h2,h3]
   simp only[Option.bind_some,Sum.elim_inl]
   rw[ya h1]
   exact⟨_,rfl,rfl,h1.sm⟩
  ·rw[h2,h3]
   exact⟨_,rfl,rfl,h1.sm⟩
 ·exact⟨_,rfl,rfl,Cr.sm⟩
end Go.Proofs.YtdejeagdkfokfaaGreatDoor.Sh
