/- Changes: a merge, an end, a renaming, and a whole change, of both. -/
import Derived.Test.YtdejeagdkfokfaaGreatDoorMCH8
namespace Go.Proofs.YtdejeagdkfokfaaGreatDoor.Sh
open Go.RowKit Go.Lib
theorem zX{L:List Name}{k:Nat}{x z:Name}{y:Int}(hz:z∈jS L k x y):z∈L∨(z.Text=x.Text∧z.Language=x.Language):=by
 unfold jS at hz
 rw[List.mem_append,List.mem_append]at hz
 rcases hz with(hz | hz) | hz
 ·exact .inl (List.mem_of_mem_take hz)
 ·cases hb:x.Years.From==y
  ·rw[hb]at hz
   have:z=Name.mk x.Text x.Language x.Status (Span.mk x.Years.From (y - 1)):=by simpa using hz
   rw[this]
   exact .inr ⟨rfl,rfl⟩
  ·rw[hb]at hz
   simp at hz
 ·exact .inl (List.mem_of_mem_drop hz)
theorem Dq{L:List Name}(h: ∀x∈L,NmR x){c t:ByteArray}(ht:t.size≤1048576)(y:Int):(sF L c y t).1.length≤1048576∧ ∀x∈(sF L c y t).1,NmR x:=by
 unfold sF
 cases fe t
 ·exact⟨by simp,by simp⟩
 rw[cond_true]
 cases kY L c y==0
 ·exact⟨by simp,by simp⟩
 rw[cond_true]
 cases hx:L[(cB (ib c y) L).toNat]? with
 | none=>exact⟨by simp,by simp⟩
 | some x=>
  show((bif decide (cB (ib c y) L<0)then(([],4):List Name×Int)else bif decide ((jS L (cB (ib c y) L).toNat x y++[kT x y t]).length>12)then([],3)else(jS L (cB (ib c y) L).toNat x y++[kT x y t],0)).1.length≤1048576)∧ ∀z∈(bif decide (cB (ib c y) L<0)then(([],4):List Name×Int)else bif decide ((jS L (cB (ib c y) L).toNat x y++[kT x y t]).length>12)then([],3)else(jS L (cB (ib c y) L).toNat x y++[kT x y t],0)).1,NmR z
  cases decide (cB (ib c y) L<0)
  ·cases hd:decide ((jS L (cB (ib c y) L).toNat x y++[kT x y t]).length>12)
   ·have:=of_decide_eq_false hd
    refine⟨by show(jS L (cB (ib c y) L).toNat x y++[kT x y t]).length≤1048576;omega,fun z hz=> ?_⟩
    have hz:z∈jS L (cB (ib c y) L).toNat x y++[kT x y t]:=hz
    have hxm:=h x (List.mem_of_getElem? hx)
    rcases List.mem_append.1 hz with hz | hz
    ·rcases zX hz with hz | ⟨e1,e2⟩
     ·exact h z hz
     ·exact⟨e1▸hxm.t,e2▸hxm.l⟩
    ·have:z=kT x y t:=by simpa using hz
     rw[this]
     exact⟨ht,hxm.l⟩
   ·exact⟨by simp,by simp⟩
  ·exact⟨by simp,by simp⟩
theorem Cd{L:List Name}{c t:ByteArray}{y:Int}(h1:fe t=true)(h2:ia L=true)(h3:jc c=true)(h4:dD y (-3000) 3000=true):(sF L c y t).2≠1:=by
 have:kY L c y=0:=by
  unfold kY
  rw[h2,h3,h4]
  rfl
 unfold sF
 rw[h1,this]
 simp only[cond_true,BEq.rfl]
 cases hx:L[(cB (ib c y) L).toNat]? with
 | none=>simp
 | some x=>
  dsimp only
  cases decide (cB (ib c y) L<0)
  ·cases decide ((jS L (cB (ib c y) L).toNat x y++[kT x y t]).length>12)<;>exact fun h=>by cases h
  ·exact fun h=>by cases h
structure wF (P:List Place) (L:List ax):Prop where
 r:jT P=true
 p: ∀x∈P,PlR x
 ll:L.length≤20
 l: ∀x∈L,LkR x
theorem zo{c:ByteArray}{y:Int}{l x:ax}(hx:x∈pW c y l):x.Child=l.Child∧x.Parent=l.Parent:=by
 unfold pW at hx
 cases hb:(l.Child.toList==c.toList) || (l.Parent.toList==c.toList)<;>rw[hb]at hx
 ·cases hd:decide (l.Years.From≤l.Years.To)<;>rw[hd]at hx
  ·simp at hx
  ·have:x=l:=by simpa using hx
   rw[this]
   exact⟨rfl,rfl⟩
 ·cases hd:decide (l.Years.From≤cE l.Years.To (y - 1))<;>rw[hd]at hx
  ·simp at hx
  ·have:x=ax.mk l.Child l.Parent (Span.mk l.Years.From (cE l.Years.To (y - 1))):=by simpa using hx
   rw[this]
   exact⟨rfl,rfl⟩
theorem Cv{P:List Place}(h: ∀x∈P,PlR x){k:Nat}{p:Place}(hp:PlR p): ∀x∈P.set k p,PlR x:=fun x hx=>by
 rcases List.mem_or_eq_of_mem_set hx with hx | rfl
 ·exact h x hx
 ·exact hp
theorem vj{P:List Place}{M:List ax}(h:wF P M){c:ByteArray}(hw:cG c=true){p:Place}(hp:P.find? (bU c)=some p){y:Int}(hy:dD y (-2999) 3000=true)(hh:dD (y - 1) p.Years.From p.Years.To=true): ∃V,eB (World.mk P M) c y=some V∧((fH P c y).bind fun x18=>((iv M c y).bind fun x19=>some ((World.mk x18.1 x19),(0:Int))))=some (V,0)∧WlR V:=by
 obtain⟨k,h1,h2,h3,h4,h5⟩:=pn h.r hp
 have hl:=(oD.1 h.r).2.2
 have hll:=h.ll
 have hy':dD y (-3000) 3000=true:=by
  obtain⟨a,b⟩:=e8.1 hy
  exact e8.2 ⟨by omega,b⟩
 have hc:c.size≤1048576:=by
  have:=(jh hw).2
  omega
 refine⟨World.mk (P.set k (tA y p)) (M.flatMap (pW c y)),?_,?_,?_⟩
 ·unfold eB
  rw[h4]
  simp only[Option.bind_some,bk,h1,sy (h.p p h2) hy',yz (show M.length≤1048576 by omega) c hy',Int.toNat_natCast]
 ·rw[oI (by omega) h.p hc,yR (by omega) c hy']
  have e:=lD (show P.length≤1048576 by omega) c
  rw[h5]at e
  have e:cB (bU c) P=(k:Int):=(Option.some.inj e).symm
  have e2:P.any (bU c)=true:=List.any_eq_true.2 ⟨p,h2,h3⟩
  unfold CI uy
  rw[h.r,hw,hy',e,e2]
  simp only[Bool.and_self,cond_true,BEq.rfl,Int.toNat_natCast,h1,hh,Option.bind_some]
 ·refine⟨by show(P.set k (tA y p)).length≤1048576;rw[List.length_set];omega,Cv h.p (zw (h.p p h2) y),?_,fun x hx=> ?_⟩
  ·have:=oe _ (qY c y) M
   show(M.flatMap (pW c y)).length≤1048576
   omega
  ·obtain⟨l,hl,hx⟩:=List.mem_flatMap.1 hx
   have:=h.l l hl
   exact⟨(zo hx).1▸this.c,(zo hx).2▸this.p⟩
theorem w6{P:List Place}{M:List ax}(h:wF P M){x:Change}(hx:ChR x)(hb:gn x=true)(hk:(x.Kind==0)=true){p:Place}(hp:P.find? (bU x.Code)=some p): ∃V Z e,dZ (World.mk P M) x=some (e,V)∧gi (World.mk P M) x=some (Z,e)∧e≠1∧(e=0→Z=V∧WlR V):=by
 obtain⟨k,h1,h2,h3,h4,h5⟩:=pn h.r hp
 obtain⟨_,hp2,hl⟩:=oD.1 h.r
 have hll:=h.ll
 obtain⟨b1,_,_,_,_,b6⟩:=jn hb
 obtain⟨b7,b8⟩:=b6 hk
 have hpr:=h.p p h2
 have hxt:=hx.t
 obtain⟨r1,r2⟩:=vQ hpr.l hpr.n hx.l (show x.Text.size≤4294967280 by omega) x.Year
 have r3:=Dq hpr.n (c:=x.Language) hx.t x.Year
 have r4:(sF p.Names x.Language x.Year x.Text).2≠1:=Cd b8 (by
  have:=hp2 p h2
  unfold kr at this
  simp only[Bool.and_eq_true]at this
  exact this.2.2.2.1) b7 (by
  obtain⟨a,b⟩:=e8.1 b1
  exact e8.2 ⟨by omega,b⟩)
 unfold dZ gi
 rw[h4,h5]
 simp only[Option.bind_some,bk,h1,r1,r2,Int.toNat_natCast]
 generalize sF p.Names x.Language x.Year x.Text=r at r3 r4
 rw[dj (by rw[List.length_nil];omega)]
 simp only[Option.bind_some,List.nil_append,bk,h1]
 cases he:r.2==0
 ·refine⟨_,_,_,rfl,by rw[bne,he];rfl,r4,fun h0=> ?_⟩
  rw[h0]at he
  cases he
 ·refine⟨_,_,_,rfl,by rw[bne,he,show r.2=0 from by simpa using he];rfl,r4,fun _=>⟨rfl,?_⟩⟩
  exact⟨by show(P.set k _).length≤1048576;rw[List.length_set];omega,Cv h.p ⟨hpr.c,r3.1,r3.2⟩,by show M.length≤1048576;omega,h.l⟩
noncomputable def runK(P:List Place)(q:Place)(o:ByteArray)(y:Int):List ByteArray→List ax→List ax⊕(Int×List ax)
 | [],L=> .inl L
 | k::ks,L=>bif k.toList==o.toList then .inr (5,L)else match P.find? (bU k)with
  | none=> .inr (9,L)
  | some p=>bif mvC (mvL L k o y (cE p.Years.To q.Years.To))==0 then runK P q o y ks (mvL L k o y (cE p.Years.To q.Years.To))else .inr (mvC (mvL L k o y (cE p.Years.To q.Years.To)),L)
theorem vK{L:List ax}(h:(mvC L==0)=true):L.length≤20:=by
 unfold mvC at h
 cases hd:decide ((L.length:Int)>20)
 ·have:=of_decide_eq_false hd
  omega
 ·rw[hd]at h
  cases h
theorem zZ(L:List ax):mvC L≠1:=by
 unfold mvC
 cases decide ((L.length:Int)>20)<;>cases fa L<;>decide
def D5(P:List Place):List ax⊕(Int×List ax)→(List Place×List ax)⊕(Int×World)
 | .inl M=> .inl (P,M)
 | .inr (e,M)=> .inr (e,World.mk P M)
theorem vt{P:List Place}{q:Place}{o:ByteArray}{y:Int}(hq:P.find? (bU o)=some q)(ho:o.size≤1048576)(hy:dD y (-2999) 3000=true): ∀(ks:List ByteArray) (i:Nat) (L:List ax),wF P L→(∀k∈ks,k.size≤1048576∧ ∃p,P.find? (bU k)=some p)→fm (fun _ x (s:List Place×List ax)=>((cM (World.mk s.1 s.2) x o y).bind fun x9=>(bif(x9.1 !=0)then some (.inr (.inr (x9.1,x9.2)))else some (.inl (x9.2.Places,x9.2.Links))))) (fun s=>(.inl (s.1,s.2):(List Place×List ax)⊕(Int×World))) ks i (P,L)=some (D5 P (runK P q o y ks L))∧ ∀M,runK P q o y ks L= .inl M→wF P M
 | [],_,L,h,_=>⟨rfl,fun M e=>by
  unfold runK at e
  cases e
  exact h⟩
 | k::ks,i,L,h,hk=>by
  obtain⟨k1,p,k2⟩:=hk k (by simp)
  have hll:=h.ll
  unfold fm runK
  cases hne:k.toList==o.toList
  ·rw[ot h.r (by omega) h.l k1 ho hne k2 hq hy,k2]
   simp only[cond_false,Option.bind_some]
   have hR:=xX h.l k1 ho y (cE p.Years.To q.Years.To)
   generalize mvL L k o y (cE p.Years.To q.Years.To)=M at hR⊢
   cases he:mvC M==0
   ·rw[bne,he]
    exact⟨rfl,fun M e=>by cases e⟩
   ·rw[bne,he]
    exact vt hq ho hy ks (i+1) M ⟨h.r,h.p,vK he,hR⟩ fun k hk'=>hk k (by simp[hk'])
  ·have:cM (World.mk P L) k o y=some (5,World.mk P L):=by
    unfold cM
    rw[hne]
    rfl
   rw[this]
   exact⟨rfl,fun M e=>by cases e⟩
def Ds(W A:World):List ax⊕(Int×List ax)→(World×World)⊕(World×Int)
 | .inl M=> .inl (A,World.mk W.Places M)
 | .inr (e,_)=> .inr (W,e)
theorem vX{W A:World}{P:List Place}(hP:W.Places=P){q:Place}{o:ByteArray}{y:Int}(hq:P.find? (bU o)=some q)(ho:o.size≤1048576)(hy:dD y (-2999) 3000=true): ∀(ks:List ByteArray) (i:Nat) (L:List ax),wF P L→(∀k∈ks,k.size≤1048576∧ ∃p,P.find? (bU k)=some p)→fm (fun _ x (s:World×World)=>(bif(x.toList==o.toList)then some (.inr (.inr (W,5)))else((ee s.2 x o y).bind fun x16=>((dL s.2 x16).bind fun x17=>(bif(x17.2 !=0)then some (.inr (.inr (W,x17.2)))else some (.inl (s.1,x17.1))))))) (fun s=>(.inl (s.1,s.2):(World×World)⊕(World×Int))) ks i (A,World.mk P L)=some (Ds W A (runK P q o y ks L))
 | [],_,L,h,_=>by
  unfold fm runK Ds
  rw[hP]
 | k::ks,i,L,h,hk=>by
  obtain⟨k1,p,k2⟩:=hk k (by simp)
  have hll:=h.ll
  unfold fm runK
  cases hne:k.toList==o.toList
  ·rw[oN h.r (by omega) k2 hq hy,k2]
   simp only[cond_false,Option.bind_some]
   have hR:=xX h.l k1 ho y (cE p.Years.To q.Years.To)
   have hM:=uj L k o y (cE p.Years.To q.Years.To)
   generalize mvL L k o y (cE p.Years.To q.Years.To)=M at hR hM⊢
   rw[np P (by omega) hR,Option.bind_some]
   cases he:mvC M==0
   ·rw[bne,he]
    rfl
   ·rw[bne,he]
    exact vX hP hq ho hy ks (i+1) M ⟨h.r,h.p,vK he,hR⟩ fun k hk'=>hk k (by simp[hk'])
  ·rfl
theorem ye(P:List Place)(q:Place)(o:ByteArray)(y:Int): ∀(ks:List ByteArray) (L:List ax) (e:Int) (M:List ax),runK P q o y ks L= .inr (e,M)→e≠0∧e≠1
 | [],_,_,_,h=>by
  unfold runK at h
  cases h
 | k::ks,L,e,M,h=>by
  unfold runK at h
  cases hne:k.toList==o.toList
  ·rw[hne,cond_false]at h
   cases hp:P.find? (bU k)with
   | none=>
    rw[hp]at h
    cases h
    exact⟨by decide,by decide⟩
   | some p=>
    rw[hp]at h
    simp only at h
    cases he:mvC (mvL L k o y (cE p.Years.To q.Years.To))==0
    ·rw[he,cond_false]at h
     cases h
     exact⟨fun h0=>(by rw[h0]at he;cases he),zZ _⟩
    ·rw[he,cond_true]at h
     exact ye P q o y ks _ e M h
  ·rw[hne,cond_true]at h
   cases h
   exact⟨by decide,by decide⟩
end Go.Proofs.YtdejeagdkfokfaaGreatDoor.Sh
