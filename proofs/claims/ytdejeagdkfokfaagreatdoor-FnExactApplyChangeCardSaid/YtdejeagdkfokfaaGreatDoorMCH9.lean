/- Changes: a merge, an end, a renaming, and a whole change, of both. -/
import Derived.Test.YtdejeagdkfokfaaGreatDoorMCH8
namespace Go.Proofs.YtdejeagdkfokfaaGreatDoor.Sh
open Go.RowKit Go.Lib
theorem zp{L:List Name}{k:Nat}{x z:Name}{y:Int}(hz:z∈jO L k x y):z∈L∨(z.Text=x.Text∧z.Language=x.Language):=by
 unfold jO at hz
 rw[List.mem_append,List.mem_append]at hz
 rcases hz with(hz | hz) | hz
 ·exact .inl (List.mem_of_mem_take hz)
 ·cases hb:x.Years.From==y
  ·rw[hb]at hz
   have:z=Name.mk x.Text x.Language x.Status (Span.mk x.Years.From (y - 1)):=by simpa using hz
   rw[this]
   exact .inr ⟨rfl,rfl⟩
  ·rw[hb]at hz
   simp at hz
 ·exact .inl (List.mem_of_mem_drop hz)
theorem CK{L:List Name}(h: ∀x∈L,NmR x){c t:ByteArray}(ht:t.size≤1048576)(y:Int):(rQ L c y t).1.length≤1048576∧ ∀x∈(rQ L c y t).1,NmR x:=by
 unfold rQ
 cases e7 t
 ·exact⟨by simp,by simp⟩
 rw[cond_true]
 cases kT L c y==0
 ·exact⟨by simp,by simp⟩
 rw[cond_true]
 cases hx:L[(cr (gR c y) L).toNat]? with
 | none=>exact⟨by simp,by simp⟩
 | some x=>
  show((bif decide (cr (gR c y) L<0)then(([],4):List Name×Int)else bif decide ((jO L (cr (gR c y) L).toNat x y++[kO x y t]).length>12)then([],3)else(jO L (cr (gR c y) L).toNat x y++[kO x y t],0)).1.length≤1048576)∧ ∀z∈(bif decide (cr (gR c y) L<0)then(([],4):List Name×Int)else bif decide ((jO L (cr (gR c y) L).toNat x y++[kO x y t]).length>12)then([],3)else(jO L (cr (gR c y) L).toNat x y++[kO x y t],0)).1,NmR z
  cases decide (cr (gR c y) L<0)
  ·cases hd:decide ((jO L (cr (gR c y) L).toNat x y++[kO x y t]).length>12)
   ·have:=of_decide_eq_false hd
    refine⟨by show(jO L (cr (gR c y) L).toNat x y++[kO x y t]).length≤1048576;omega,fun z hz=> ?_⟩
    have hz:z∈jO L (cr (gR c y) L).toNat x y++[kO x y t]:=hz
    have hxm:=h x (List.mem_of_getElem? hx)
    rcases List.mem_append.1 hz with hz | hz
    ·rcases zp hz with hz | ⟨e1,e2⟩
     ·exact h z hz
     ·exact⟨e1▸hxm.t,e2▸hxm.l⟩
    ·have:z=kO x y t:=by simpa using hz
     rw[this]
     exact⟨ht,hxm.l⟩
   ·exact⟨by simp,by simp⟩
  ·exact⟨by simp,by simp⟩
theorem BE{L:List Name}{c t:ByteArray}{y:Int}(h1:e7 t=true)(h2:gQ L=true)(h3:iU c=true)(h4:dy y (-3000) 3000=true):(rQ L c y t).2≠1:=by
 have:kT L c y=0:=by
  unfold kT
  rw[h2,h3,h4]
  rfl
 unfold rQ
 rw[h1,this]
 simp only[cond_true,BEq.rfl]
 cases hx:L[(cr (gR c y) L).toNat]? with
 | none=>simp
 | some x=>
  dsimp only
  cases decide (cr (gR c y) L<0)
  ·cases decide ((jO L (cr (gR c y) L).toNat x y++[kO x y t]).length>12)<;>exact fun h=>by cases h
  ·exact fun h=>by cases h
structure vO (P:List Place) (L:List aw):Prop where
 r:jP P=true
 p: ∀x∈P,PlR x
 ll:L.length≤20
 l: ∀x∈L,LkR x
theorem yQ{c:ByteArray}{y:Int}{l x:aw}(hx:x∈pv c y l):x.Child=l.Child∧x.Parent=l.Parent:=by
 unfold pv at hx
 cases hb:(l.Child.toList==c.toList) || (l.Parent.toList==c.toList)<;>rw[hb]at hx
 ·cases hd:decide (l.Years.From≤l.Years.To)<;>rw[hd]at hx
  ·simp at hx
  ·have:x=l:=by simpa using hx
   rw[this]
   exact⟨rfl,rfl⟩
 ·cases hd:decide (l.Years.From≤cw l.Years.To (y - 1))<;>rw[hd]at hx
  ·simp at hx
  ·have:x=aw.mk l.Child l.Parent (Span.mk l.Years.From (cw l.Years.To (y - 1))):=by simpa using hx
   rw[this]
   exact⟨rfl,rfl⟩
theorem BX{P:List Place}(h: ∀x∈P,PlR x){k:Nat}{p:Place}(hp:PlR p): ∀x∈P.set k p,PlR x:=fun x hx=>by
 rcases List.mem_or_eq_of_mem_set hx with hx | rfl
 ·exact h x hx
 ·exact hp
theorem uD{P:List Place}{M:List aw}(h:vO P M){c:ByteArray}(hw:cz c=true){p:Place}(hp:P.find? (bN c)=some p){y:Int}(hy:dy y (-2999) 3000=true)(hh:dy (y - 1) p.Years.From p.Years.To=true): ∃V,ez (World.mk P M) c y=some V∧((fy P c y).bind fun x18=>((ia M c y).bind fun x19=>some ((World.mk x18.1 x19),(0:Int))))=some (V,0)∧WlR V:=by
 obtain⟨k,h1,h2,h3,h4,h5⟩:=oR h.r hp
 have hl:=(nZ.1 h.r).2.2
 have hll:=h.ll
 have hy':dy y (-3000) 3000=true:=by
  obtain⟨a,b⟩:=eX.1 hy
  exact eX.2 ⟨by omega,b⟩
 have hc:c.size≤1048576:=by
  have:=(iZ hw).2
  omega
 refine⟨World.mk (P.set k (sH y p)) (M.flatMap (pv c y)),?_,?_,?_⟩
 ·unfold ez
  rw[h4]
  simp only[Option.bind_some,bg,h1,rJ (h.p p h2) hy',xQ (show M.length≤1048576 by omega) c hy',Int.toNat_natCast]
 ·rw[n8 (by omega) h.p hc,yi (by omega) c hy']
  have e:=lq (show P.length≤1048576 by omega) c
  rw[h5]at e
  have e:cr (bN c) P=(k:Int):=(Option.some.inj e).symm
  have e2:P.any (bN c)=true:=List.any_eq_true.2 ⟨p,h2,h3⟩
  unfold B9 tK
  rw[h.r,hw,hy',e,e2]
  simp only[Bool.and_self,cond_true,BEq.rfl,Int.toNat_natCast,h1,hh,Option.bind_some]
 ·refine⟨by show(P.set k (sH y p)).length≤1048576;rw[List.length_set];omega,BX h.p (yX (h.p p h2) y),?_,fun x hx=> ?_⟩
  ·have:=nK _ (qv c y) M
   show(M.flatMap (pv c y)).length≤1048576
   omega
  ·obtain⟨l,hl,hx⟩:=List.mem_flatMap.1 hx
   have:=h.l l hl
   exact⟨(yQ hx).1▸this.c,(yQ hx).2▸this.p⟩
theorem ww{P:List Place}{M:List aw}(h:vO P M){x:Change}(hx:ChR x)(hb:fZ x=true)(hk:(x.Kind==0)=true){p:Place}(hp:P.find? (bN x.Code)=some p): ∃V Z e,dW (World.mk P M) x=some (e,V)∧fU (World.mk P M) x=some (Z,e)∧e≠1∧(e=0→Z=V∧WlR V):=by
 obtain⟨k,h1,h2,h3,h4,h5⟩:=oR h.r hp
 obtain⟨_,hp2,hl⟩:=nZ.1 h.r
 have hll:=h.ll
 obtain⟨b1,_,_,_,_,b6⟩:=jd hb
 obtain⟨b7,b8⟩:=b6 hk
 have hpr:=h.p p h2
 have hxt:=hx.t
 obtain⟨r1,r2⟩:=vf hpr.l hpr.n hx.l (show x.Text.size≤4294967280 by omega) x.Year
 have r3:=CK hpr.n (c:=x.Language) hx.t x.Year
 have r4:(rQ p.Names x.Language x.Year x.Text).2≠1:=BE b8 (by
  have:=hp2 p h2
  unfold kl at this
  simp only[Bool.and_eq_true]at this
  exact this.2.2.2.1) b7 (by
  obtain⟨a,b⟩:=eX.1 b1
  exact eX.2 ⟨by omega,b⟩)
 unfold dW fU
 rw[h4,h5]
 simp only[Option.bind_some,bg,h1,r1,r2,Int.toNat_natCast]
 generalize rQ p.Names x.Language x.Year x.Text=r at r3 r4
 rw[da (by rw[List.length_nil];omega)]
 simp only[Option.bind_some,List.nil_append,bg,h1]
 cases he:r.2==0
 ·refine⟨_,_,_,rfl,by rw[bne,he];rfl,r4,fun h0=> ?_⟩
  rw[h0]at he
  cases he
 ·refine⟨_,_,_,rfl,by rw[bne,he,show r.2=0 from by simpa using he];rfl,r4,fun _=>⟨rfl,?_⟩⟩
  exact⟨by show(P.set k _).length≤1048576;rw[List.length_set];omega,BX h.p ⟨hpr.c,r3.1,r3.2⟩,by show M.length≤1048576;omega,h.l⟩
noncomputable def runK(P:List Place)(q:Place)(o:ByteArray)(y:Int):List ByteArray→List aw→List aw⊕(Int×List aw)
 | [],L=> .inl L
 | k::ks,L=>bif k.toList==o.toList then .inr (5,L)else match P.find? (bN k)with
  | none=> .inr (9,L)
  | some p=>bif mvC (mvL L k o y (cw p.Years.To q.Years.To))==0 then runK P q o y ks (mvL L k o y (cw p.Years.To q.Years.To))else .inr (mvC (mvL L k o y (cw p.Years.To q.Years.To)),L)
theorem u6{L:List aw}(h:(mvC L==0)=true):L.length≤20:=by
 unfold mvC at h
 cases hd:decide ((L.length:Int)>20)
 ·have:=of_decide_eq_false hd
  omega
 ·rw[hd]at h
  cases h
theorem zr(L:List aw):mvC L≠1:=by
 unfold mvC
 cases decide ((L.length:Int)>20)<;>cases eY L<;>decide
def Dj(P:List Place):List aw⊕(Int×List aw)→(List Place×List aw)⊕(Int×World)
 | .inl M=> .inl (P,M)
 | .inr (e,M)=> .inr (e,World.mk P M)
theorem uL{P:List Place}{q:Place}{o:ByteArray}{y:Int}(hq:P.find? (bN o)=some q)(ho:o.size≤1048576)(hy:dy y (-2999) 3000=true): ∀(ks:List ByteArray) (i:Nat) (L:List aw),vO P L→(∀k∈ks,k.size≤1048576∧ ∃p,P.find? (bN k)=some p)→hJ (fun _ x (s:List Place×List aw)=>((cJ (World.mk s.1 s.2) x o y).bind fun x9=>(bif(x9.1 !=0)then some (.inr (.inr (x9.1,x9.2)))else some (.inl (x9.2.Places,x9.2.Links))))) (fun s=>(.inl (s.1,s.2):(List Place×List aw)⊕(Int×World))) ks i (P,L)=some (Dj P (runK P q o y ks L))∧ ∀M,runK P q o y ks L= .inl M→vO P M
 | [],_,L,h,_=>⟨rfl,fun M e=>by
  unfold runK at e
  cases e
  exact h⟩
 | k::ks,i,L,h,hk=>by
  obtain⟨k1,p,k2⟩:=hk k (by simp)
  have hll:=h.ll
  unfold hJ runK
  cases hne:k.toList==o.toList
  ·rw[nS h.r (by omega) h.l k1 ho hne k2 hq hy,k2]
   simp only[cond_false,Option.bind_some]
   have hR:=xl h.l k1 ho y (cw p.Years.To q.Years.To)
   generalize mvL L k o y (cw p.Years.To q.Years.To)=M at hR⊢
   cases he:mvC M==0
   ·rw[bne,he]
    exact⟨rfl,fun M e=>by cases e⟩
   ·rw[bne,he]
    exact uL hq ho hy ks (i+1) M ⟨h.r,h.p,u6 he,hR⟩ fun k hk'=>hk k (by simp[hk'])
  ·have:cJ (World.mk P L) k o y=some (5,World.mk P L):=by
    unfold cJ
    rw[hne]
    rfl
   rw[this]
   exact⟨rfl,fun M e=>by cases e⟩
def CM(W A:World):List aw⊕(Int×List aw)→(World×World)⊕(World×Int)
 | .inl M=> .inl (A,World.mk W.Places M)
 | .inr (e,_)=> .inr (W,e)
theorem vp{W A:World}{P:List Place}(hP:W.Places=P){q:Place}{o:ByteArray}{y:Int}(hq:P.find? (bN o)=some q)(ho:o.size≤1048576)(hy:dy y (-2999) 3000=true): ∀(ks:List ByteArray) (i:Nat) (L:List aw),vO P L→(∀k∈ks,k.size≤1048576∧ ∃p,P.find? (bN k)=some p)→hJ (fun _ x (s:World×World)=>(bif(x.toList==o.toList)then some (.inr (.inr (W,5)))else((eb s.2 x o y).bind fun x16=>((dH s.2 x16).bind fun x17=>(bif(x17.2 !=0)then some (.inr (.inr (W,x17.2)))else some (.inl (s.1,x17.1))))))) (fun s=>(.inl (s.1,s.2):(World×World)⊕(World×Int))) ks i (A,World.mk P L)=some (CM W A (runK P q o y ks L))
 | [],_,L,h,_=>by
  unfold hJ runK CM
  rw[hP]
 | k::ks,i,L,h,hk=>by
  obtain⟨k1,p,k2⟩:=hk k (by simp)
  have hll:=h.ll
  unfold hJ runK
  cases hne:k.toList==o.toList
  ·rw[od h.r (by omega) k2 hq hy,k2]
   simp only[cond_false,Option.bind_some]
   have hR:=xl h.l k1 ho y (cw p.Years.To q.Years.To)
   have hM:=tA L k o y (cw p.Years.To q.Years.To)
   generalize mvL L k o y (cw p.Years.To q.Years.To)=M at hR hM⊢
   rw[mW P (by omega) hR,Option.bind_some]
   cases he:mvC M==0
   ·rw[bne,he]
    rfl
   ·rw[bne,he]
    exact vp hP hq ho hy ks (i+1) M ⟨h.r,h.p,u6 he,hR⟩ fun k hk'=>hk k (by simp[hk'])
  ·rfl
theorem xr(P:List Place)(q:Place)(o:ByteArray)(y:Int): ∀(ks:List ByteArray) (L:List aw) (e:Int) (M:List aw),runK P q o y ks L= .inr (e,M)→e≠0∧e≠1
 | [],_,_,_,h=>by
  unfold runK at h
  cases h
 | k::ks,L,e,M,h=>by
  unfold runK at h
  cases hne:k.toList==o.toList
  ·rw[hne,cond_false]at h
   cases hp:P.find? (bN k)with
   | none=>
    rw[hp]at h
    cases h
    exact⟨by decide,by decide⟩
   | some p=>
    rw[hp]at h
    simp only at h
    cases he:mvC (mvL L k o y (cw p.Years.To q.Years.To))==0
    ·rw[he,cond_false]at h
     cases h
     exact⟨fun h0=>(by rw[h0]at he;cases he),zr _⟩
    ·rw[he,cond_true]at h
     exact xr P q o y ks _ e M h
  ·rw[hne,cond_true]at h
   cases h
   exact⟨by decide,by decide⟩
end Go.Proofs.YtdejeagdkfokfaaGreatDoor.Sh
