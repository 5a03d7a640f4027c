/- Calls without results that change several objects which name each other (closures that call themselves and change captured variables). -/
import Derived.Test.YtdejeagdkfokfaaGreatDoorSB
namespace Go.Proofs.YtdejeagdkfokfaaGreatDoor.Sh
open Go.RowKit
def pz:SO→Bool
 | .box _=>true
 | .arr .. =>true
 | _=>false
theorem sI{x:SO}(h:pz x=true){w:World}{v:Value}{g:Nat}:x.bm w v g↔cJ v=some g:=by
 cases x<;>first | exact Iff.rfl | cases h
section
variable {P : Program}
variable {ops : Array Oper} {o : Oper} {σ : SS}
def SV.mp(ρ:Nat→Nat):SV→SV
 | .tr t=> .tr t
 | .agg cs=> .agg (mpL cs)
 | .tup cs=> .tup (mpL cs)
 | .ptr cs o=> .ptr (mpL cs) o
 | .ref d o=> .ref (ρ d) o
 | .eref d m i j=> .eref (ρ d) m i j
 | .own d=> .own (ρ d)
 | .clo f cs=> .clo f (mpL cs)
 | .mth f cs=> .mth f (mpL cs)
 | .any=> .any
where mpL:List SV→List SV
 | []=>[]
 | c::cs=>c.mp ρ::mpL cs
theorem nS(ρ:Nat→Nat): ∀(cs:List SV) (j:Nat),(SV.mp.mpL ρ cs)[j]? =(cs[j]?).map (SV.mp ρ)
 | [],j=>by simp[SV.mp.mpL]
 | c::cs,0=>by simp[SV.mp.mpL]
 | c::cs,j+1=>by simpa [SV.mp.mpL]using nS ρ cs j
theorem iN(ρ:Nat→Nat): ∀cs:List SV,(SV.mp.mpL ρ cs).length=cs.length
 | []=>rfl
 | c::cs=>by simp[SV.mp.mpL,iN ρ cs]
theorem u9{w:World}{S:Nat→Prop}{β:Nat→Value}{ρ:Nat→Nat}{x:SV}{v:Value}(h:cM w S (fun d=>β (ρ d)) x v):cM w S β (x.mp ρ) v:=by
 have key: ∀{cs:List SV} {Q:Nat→SV→Prop},(∀j c,cs[j]? =some c→Q j (c.mp ρ))→ ∀j c,(SV.mp.mpL ρ cs)[j]? =some c→Q j c:=fun hq j c hc=>by
  rw[nS,Option.map_eq_some_iff]at hc
  obtain⟨c0,h1,rfl⟩:=hc
  exact hq j c0 h1
 induction h with
 | tr t v h=>exact .tr t v h
 | agg cs vs hl h ih=>exact .agg _ vs (by rw[iN];exact hl) fun j c v hc hv=>key (Q:=fun j c=> ∀v,vs[j]? =some v→cM w S β c v) (fun j c hc v hv=>ih j c v hc hv) j c hc v hv
 | tup cs vs hl h ih=>exact .tup _ vs (by rw[iN];exact hl) fun j c v hc hv=>key (Q:=fun j c=> ∀v,vs[j]? =some v→cM w S β c v) (fun j c hc v hv=>ih j c v hc hv) j c hc v hv
 | ptr cs o g b u hg h hc ih=>exact .ptr _ o g b u hg (fun j c hj=>key (Q:=fun j c=>cM w S β c (u j)) (fun j c hj=>ih j c hj) j c hj) fun j c hj=>key (Q:=fun j _=>w.cell? ⟨g,b+j,none⟩=some (u j)) (fun j c hj=>hc j c hj) j c hj
 | ref d o g h=>exact .ref _ o g h
 | eref d m i j g n c h=>exact .eref _ m i j g n c h
 | own d=>exact .own (ρ d)
 | clo f cs vs hl h ih=>exact .clo f _ vs (by rw[iN];exact hl) fun j c v hc hv=>key (Q:=fun j c=> ∀v,vs[j]? =some v→cM w S β c v) (fun j c hc v hv=>ih j c v hc hv) j c hc v hv
 | mth f cs vs hl h ih=>exact .mth f _ vs (by rw[iN];exact hl) fun j c v hc hv=>key (Q:=fun j c=> ∀v,vs[j]? =some v→cM w S β c v) (fun j c hc v hv=>ih j c v hc hv) j c hc v hv
 | any v h=>exact .any v h
theorem yU{w:World}{S:Nat→Prop}{β:Nat→Value}{ρ:Nat→Nat}{y:SV}{v:Value}(h:cM w S β y v): ∀x:SV,x.mp ρ=y→cM w S (fun d=>β (ρ d)) x v:=by
 have get: ∀{cs:List SV} {j:Nat} {c:SV},cs[j]? =some c→(SV.mp.mpL ρ cs)[j]? =some (c.mp ρ):=fun h=>by rw[nS,h];rfl
 induction h with
 | tr t v h=>
  intro x hx
  cases x<;>simp only[SV.mp,reduceCtorEq]at hx
  exact .tr _ v (by injection hx with hx;rw[hx];exact h)
 | agg cs vs hl h ih=>
  intro x hx
  cases x<;>simp only[SV.mp,reduceCtorEq]at hx
  injection hx with hx
  subst hx
  exact .agg _ vs (by rw[←hl,iN]) fun j c v hc hv=>ih j _ v (get hc) hv c rfl
 | tup cs vs hl h ih=>
  intro x hx
  cases x<;>simp only[SV.mp,reduceCtorEq]at hx
  injection hx with hx
  subst hx
  exact .tup _ vs (by rw[←hl,iN]) fun j c v hc hv=>ih j _ v (get hc) hv c rfl
 | ptr cs o g b u hg h hc ih=>
  intro x hx
  cases x<;>simp only[SV.mp,reduceCtorEq]at hx
  injection hx with hx hx2
  subst hx hx2
  exact .ptr _ _ g b u hg (fun j c hj=>ih j _ (get hj) c rfl) fun j c hj=>hc j _ (get hj)
 | ref d o g h=>
  intro x hx
  cases x<;>simp only[SV.mp,reduceCtorEq]at hx
  injection hx with hx hx2
  subst hx hx2
  exact .ref _ _ g h
 | eref d m i j g n c h=>
  intro x hx
  cases x<;>simp only[SV.mp,reduceCtorEq]at hx
  injection hx with hx hx2 hx3 hx4
  subst hx hx2 hx3 hx4
  exact .eref _ _ _ _ g n c h
 | own d=>
  intro x hx
  cases x<;>simp only[SV.mp,reduceCtorEq]at hx
  injection hx with hx
  subst hx
  exact .own (β:=fun d=>β (ρ d)) _
 | clo f cs vs hl h ih=>
  intro x hx
  cases x<;>simp only[SV.mp,reduceCtorEq]at hx
  injection hx with hx hx2
  subst hx hx2
  exact .clo _ _ vs (by rw[←hl,iN]) fun j c v hc hv=>ih j _ v (get hc) hv c rfl
 | mth f cs vs hl h ih=>
  intro x hx
  cases x<;>simp only[SV.mp,reduceCtorEq]at hx
  injection hx with hx hx2
  subst hx hx2
  exact .mth _ _ vs (by rw[←hl,iN]) fun j c v hc hv=>ih j _ v (get hc) hv c rfl
 | any v h=>
  intro x hx
  cases x<;>simp only[SV.mp,reduceCtorEq]at hx
  exact .any v h
def SO.mp(ρ:Nat→Nat):SO→SO
 | .box cs=> .box (SV.mp.mpL ρ cs)
 | .arr e m n es=> .arr e m n es
 | .deep e m n ss es=> .deep e m n ss es
 | .hol e m n ss es i j d=> .hol e m n ss es i j (ρ d)
theorem yC{ρ:Nat→Nat}{x:SO}{w:World}{v:Value}{g:Nat}:(x.mp ρ).bm w v g↔x.bm w v g:=by
 cases x<;>exact Iff.rfl
theorem Dk{w:World}{S:Nat→Prop}{β:Nat→Value}{ρ:Nat→Nat}{x:SO}{v:Value}(h:cP w S (fun d=>β (ρ d)) x v):cP w S β (x.mp ρ) v:=by
 cases h with
 | box cs g vs T hg hl h=>
  refine .box _ g vs T hg (by rw[iN];exact hl) fun j c v hc hv=> ?_
  rw[nS,Option.map_eq_some_iff]at hc
  obtain⟨c0,h1,rfl⟩:=hc
  exact u9 (h j c0 v h1 hv)
 | arr e m n es v xs hn hown he h=>exact .arr e m n es v xs hn hown he h
 | deep e m n ss es v h=>exact .deep e m n ss es v h
 | hol e m n ss es i j d v xs h hu=>exact .hol e m n ss es i j _ v xs h hu
theorem Dl{w:World}{S:Nat→Prop}{β:Nat→Value}{ρ:Nat→Nat}{x:SO}{v:Value}(h:cP w S β (x.mp ρ) v):cP w S (fun d=>β (ρ d)) x v:=by
 cases x with
 | box cs=>
  cases h with
  | box _ g vs T hg hl h=>exact .box cs g vs T hg (by rw[←hl,iN]) fun j c v hc hv=>yU (h j (c.mp ρ) v (by rw[nS,hc];rfl) hv) c rfl
 | arr e m n es=>cases h with | arr _ _ _ _ _ xs hn hown he h=>exact .arr e m n es v xs hn hown he h
 | deep e m n ss es=>cases h with | deep _ _ _ _ _ _ h=>exact .deep e m n ss es v h
 | hol e m n ss es i j d=>cases h with | hol _ _ _ _ _ _ _ _ _ xs h hu=>exact .hol e m n ss es i j d v xs h hu
variable {tb : Tb} {ν : SS}
end
end Go.Proofs.YtdejeagdkfokfaaGreatDoor.Sh
