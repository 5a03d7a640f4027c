/- Changes: ApplyChange's heart and CanApply of both. -/
import Derived.Test.YtdejeagdkfokfaaGreatDoorMCH9
namespace Go.Proofs.YtdejeagdkfokfaaGreatDoor.Sh
open Go.RowKit Go.Lib
theorem sa{W:World}:ic W=true↔jT W.Places=true∧fa W.Links=true∧ ∀l∈W.Links,inW W.Places l=true:=by
 unfold ic
 rw[Bool.and_eq_true,Bool.and_eq_true,List.all_eq_true]
theorem yE{P:List Place}{c:ByteArray}{s:Span}(h:ue P c s=true): ∃p,P.find? (bU c)=some p:=by
 unfold ue at h
 cases hp:P.find? (bU c)with
 | none=>
  rw[hp]at h
  cases h
 | some p=>exact⟨p,rfl⟩
theorem BZ{W:World}(hW:WlR W)(hw:ic W=true)(c:ByteArray)(y:Int):(nh W.Links c y).1.length≤1048576∧ ∀k∈(nh W.Links c y).1,k.size≤1048576∧ ∃p,W.Places.find? (bU k)=some p:=by
 obtain⟨_,h1,h2⟩:=sa.1 hw
 have hl:=hW.ll
 unfold nh
 cases mb W.Links c y==0
 ·exact⟨by simp,by simp⟩
 ·rw[cond_true]
  unfold kids
  constructor
  ·have:=vT ((W.Links.filter (vw W.Links c y)).map ax.Child)
   have h3:=List.length_filter_le (vw W.Links c y) W.Links
   rw[List.length_map]at this
   show(hG _).length≤_
   omega
  ·intro k hk
   have hk:=pT.1 hk
   obtain⟨l,hl,rfl⟩:=List.mem_map.1 hk
   have hl:=(List.mem_filter.1 hl).1
   refine⟨(hW.l l hl).c,?_⟩
   have:=h2 l hl
   unfold inW at this
   rw[Bool.and_eq_true]at this
   exact yE this.1
theorem zk{W:World}{x:Change}(h:(chC W x==0)=true):ic W=true∧gn x=true∧ ∃p,W.Places.find? (bU x.Code)=some p∧dD (x.Year - 1) p.Years.From p.Years.To=true∧((x.Kind==1)=false→dD x.Year p.Years.From p.Years.To=true)∧(mT x=true→ ∃q,W.Places.find? (bU x.Other)=some q∧dD x.Year q.Years.From q.Years.To=true):=by
 unfold chC at h
 cases hb:ic W&&gn x
 ·rw[hb]at h
  cases h
 rw[hb,cond_true]at h
 rw[Bool.and_eq_true]at hb
 refine⟨hb.1,hb.2,?_⟩
 cases hp:W.Places.find? (bU x.Code)with
 | none=>
  rw[hp]at h
  cases h
 | some p=>
  rw[hp]at h
  dsimp only at h
  refine⟨p,rfl,?_⟩
  cases ho:mT x
  ·rw[ho,cond_false]at h
   cases h1:dD (x.Year - 1) p.Years.From p.Years.To
   ·rw[h1]at h
    cases h
   ·rw[h1,Bool.true_and]at h
    refine⟨rfl,fun hk=> ?_,fun h=>by cases h⟩
    rw[hk,Bool.false_or]at h
    cases h2:dD x.Year p.Years.From p.Years.To
    ·rw[h2]at h
     cases h
    ·rfl
  ·rw[ho,cond_true]at h
   cases hq:W.Places.find? (bU x.Other)with
   | none=>
    rw[hq]at h
    cases h
   | some q=>
    rw[hq]at h
    dsimp only at h
    cases h1:dD (x.Year - 1) p.Years.From p.Years.To
    ·rw[h1]at h
     cases h
    cases h2:dD x.Year p.Years.From p.Years.To
    ·rw[h1,h2]at h
     cases h
    cases h3:dD x.Year q.Years.From q.Years.To
    ·rw[h1,h2,h3]at h
     cases h
    exact⟨rfl,fun _=>rfl,fun _=>⟨q,rfl,h3⟩⟩
theorem sP{W:World}(hW:WlR W):dw W=some W:=by
 have:=hW.ll
 unfold dw fN
 rw[ve hW.pl hW.p,if_pos (by omega)]
 rfl
theorem AZ{W:World}{x:Change}(hW:WlR W)(hx:ChR x)(hz:(chC W x==0)=true): ∃V Z e,dN W x=some (e,V)∧cy W x=some (Z,e)∧e≠1∧(e=0→Z=V∧WlR V):=by
 obtain⟨hw,hc,p,hp,hy1,hy2,ho⟩:=zk hz
 obtain⟨hr,hl,hin⟩:=sa.1 hw
 obtain⟨b1,b2,b3,b4,_,_⟩:=jn hc
 have hR:wF W.Places W.Links:=⟨hr,hW.p,(ry hl).2.1,hW.l⟩
 obtain⟨P,L⟩:=W
 have hR:wF P L:=hR
 have hz0:(chC (World.mk P L) x !=0)=false:=by rw[bne,hz];rfl
 unfold dN cy
 rw[vU hW hx,Option.bind_some,hz0,cond_false]
 cases h0:x.Kind==0
 ·cases h2:x.Kind==2
  ·simp only[cond_false,Option.bind_some,Sum.elim_inl]
   cases h3:x.Kind==3
   ·obtain⟨V,e1,e2,e3⟩:=vj hR b3 hp b1 hy1
    simp only[cond_false,Option.bind_some,Sum.elim_inl]
    rw[e1,e2]
    exact⟨_,_,_,rfl,rfl,(show(0:Int)≠1 by decide),fun _=>⟨rfl,e3⟩⟩
   ·have hO:mT x=true:=by
     unfold mT
     rw[h3,Bool.or_true]
    obtain⟨q,hq,_⟩:=ho hO
    have hos:x.Other.size≤1048576:=hx.o
    obtain⟨k1,k2⟩:=BZ hW hw x.Code x.Year
    simp only[cond_true,Option.bind_some]
    unfold gq
    dsimp only
    rw[sw (show L.length≤1048576 from hW.ll) hW.l hx.c,sH (show L.length≤1048576 from hW.ll) hW.l hx.c]
    simp only[Option.bind_some]
    have k1:(nh L x.Code x.Year).1.length≤1048576:=k1
    have k2: ∀k∈(nh L x.Code x.Year).1,k.size≤1048576∧ ∃p,P.find? (bU k)=some p:=k2
    generalize (nh L x.Code x.Year).1=ks at k1 k2⊢
    obtain⟨r1,r2⟩:=vt hq hos b1 ks 0 L hR k2
    have r3:=vX (W:=World.mk P L) (A:=World.mk [] []) rfl hq hos b1 ks 0 L hR k2
    rw[ie ks (by omega) _ _ _ _ (fun j z s hz=>by rw[bk,hz,Option.bind_some])]
    rw[r1]
    rw[ie ks (by omega) _ (fun _ x_1 (s:World×World)=>(bif(x_1.toList==x.Other.toList)then some (.inr (.inr (World.mk P L,5)))else((ee s.2 x_1 x.Other x.Year).bind fun x16=>((dL s.2 x16).bind fun x17=>(bif(x17.2 !=0)then some (.inr (.inr (World.mk P L,x17.2)))else some (.inl (s.1,x17.1))))))) _ _ (fun j z s hz=>by rw[bk,hz,Option.bind_some];cases z.toList==x.Other.toList<;>rfl)]
    rw[r3]
    have hne:=ye P q x.Other x.Year ks L
    cases hk:runK P q x.Other x.Year ks L with
    | inl M=>
     obtain⟨V,e1,e2,e3⟩:=vj (r2 M hk) b3 hp b1 hy1
     unfold D5 Ds
     simp only[Option.bind_some,Sum.elim_inl]
     rw[e1,e2]
     exact⟨_,_,_,rfl,rfl,(show(0:Int)≠1 by decide),fun _=>⟨rfl,e3⟩⟩
    | inr eM=>
     obtain⟨e,M⟩:=eM
     obtain⟨n0,n1⟩:=hne e M hk
     exact⟨_,_,_,rfl,rfl,n1,fun h=>absurd h n0⟩
  ·have hO:mT x=true:=by
    unfold mT
    rw[h2,Bool.true_or]
   obtain⟨q,hq,_⟩:=ho hO
   have hos:x.Other.size≤1048576:=hx.o
   have hll:=hR.ll
   have hne:(x.Code.toList==x.Other.toList)=false:=by
    rw[Bool.eq_false_iff]
    intro h
    have h5:=(b4 hO).2
    rw[nV.1 h]at h5
    rw[nV.2 rfl]at h5
    cases h5
   have hM:=uj L x.Code x.Other x.Year (cE p.Years.To q.Years.To)
   have hMR:=xX hR.l hx.c hos x.Year (cE p.Years.To q.Years.To)
   simp only[cond_false,cond_true]
   rw[ot hr (show L.length≤1000000 by omega) hR.l hx.c hos hne hp hq b1,oN hr (show L.length≤1000000 by omega) hp hq b1]
   generalize mvL L x.Code x.Other x.Year (cE p.Years.To q.Years.To)=M at hM hMR
   simp only[Option.bind_some]
   rw[np P (by omega) hMR]
   refine⟨_,_,_,rfl,rfl,zZ M,fun h=> ?_⟩
   have h5:(mvC M==0)=true:=by rw[h];rfl
   rw[h5,cond_true]
   exact⟨rfl,hW.pl,hW.p,by show M.length≤1048576;omega,hMR⟩
 ·obtain⟨V,Z,e,e1,e2,e3,e4⟩:=w6 hR hx hc h0 hp
  simp only[cond_true]
  rw[e1,e2]
  exact⟨_,_,_,rfl,rfl,e3,e4⟩
theorem wG{W:World}{x:Change}(hW:WlR W)(hx:ChR x): ∃V Z e,bC W x=some (bif e==0 then V else World.mk [] [],e)∧cy W x=some (Z,e)∧(e=1→chC W x=1)∧(e=0→Z=V∧WlR V∧(chC W x==0)=true)∧((chC W x==0)=false→e=chC W x):=by
 cases hz:chC W x==0
 ·refine⟨World.mk [] [],W,chC W x,?_,?_,fun h=>h,fun h=> ?_,fun _=>rfl⟩
  ·unfold bC
   rw[vr hW hx,Option.bind_some,bne,hz]
   rfl
  ·unfold cy
   rw[vU hW hx,Option.bind_some,bne,hz]
   rfl
  ·rw[h]at hz
   cases hz
 ·obtain⟨V,Z,e,e1,e2,e3,e4⟩:=AZ hW hx hz
  refine⟨V,Z,e,?_,e2,fun h=>absurd h e3,fun h=>⟨(e4 h).1,(e4 h).2,rfl⟩,fun h=>by cases h⟩
  unfold bC
  rw[vr hW hx,Option.bind_some,bne,hz,Bool.not_true,cond_false,sP hW,Option.bind_some,e1,Option.bind_some]
  show(bif e !=0 then some (World.mk [] [],e)else some (V,0))=_
  cases he:e==0
  ·rw[bne,he]
   rfl
  ·rw[bne,he,show e=0 by simpa using he]
   rfl
end Go.Proofs.YtdejeagdkfokfaaGreatDoor.Sh
