/- Changes: ApplyChange's heart and CanApply of both. -/
import Derived.Test.YtdejeagdkfokfaaGreatDoorMCH9
namespace Go.Proofs.YtdejeagdkfokfaaGreatDoor.Sh
open Go.RowKit Go.Lib
theorem qx{W:World}:eE W=true↔jc W.Places=true∧eA W.Links=true∧ ∀l∈W.Links,inW W.Places l=true:=by
 unfold eE
 rw[Bool.and_eq_true,Bool.and_eq_true,List.all_eq_true]
theorem wv{P:List Place}{c:ByteArray}{s:Span}(h:rS P c s=true): ∃p,P.find? (bK c)=some p:=by
 unfold rS at h
 cases hp:P.find? (bK c)with
 | none=>
  rw[hp]at h
  cases h
 | some p=>exact⟨p,rfl⟩
theorem zP{W:World}(hW:WlR W)(hw:eE W=true)(c:ByteArray)(y:Int):(mg W.Links c y).1.length≤1048576∧ ∀k∈(mg W.Links c y).1,k.size≤1048576∧ ∃p,W.Places.find? (bK k)=some p:=by
 obtain⟨_,h1,h2⟩:=qx.1 hw
 have hl:=hW.ll
 unfold mg
 cases la W.Links c y==0
 ·exact⟨by simp,by simp⟩
 ·rw[cond_true]
  unfold kids
  constructor
  ·have:=tJ ((W.Links.filter (te W.Links c y)).map au.Child)
   have h3:=List.length_filter_le (te W.Links c y) W.Links
   rw[List.length_map]at this
   show(gr _).length≤_
   omega
  ·intro k hk
   have hk:=oG.1 hk
   obtain⟨l,hl,rfl⟩:=List.mem_map.1 hk
   have hl:=(List.mem_filter.1 hl).1
   refine⟨(hW.l l hl).c,?_⟩
   have:=h2 l hl
   unfold inW at this
   rw[Bool.and_eq_true]at this
   exact wv this.1
theorem xf{W:World}{x:Change}(h:(chC W x==0)=true):eE W=true∧dF x=true∧ ∃p,W.Places.find? (bK x.Code)=some p∧c6 (x.Year - 1) p.Years.From p.Years.To=true∧((x.Kind==1)=false→c6 x.Year p.Years.From p.Years.To=true)∧(lg x=true→ ∃q,W.Places.find? (bK x.Other)=some q∧c6 x.Year q.Years.From q.Years.To=true):=by
 unfold chC at h
 cases hb:eE W&&dF x
 ·rw[hb]at h
  cases h
 rw[hb,cond_true]at h
 rw[Bool.and_eq_true]at hb
 refine⟨hb.1,hb.2,?_⟩
 cases hp:W.Places.find? (bK x.Code)with
 | none=>
  rw[hp]at h
  cases h
 | some p=>
  rw[hp]at h
  dsimp only at h
  refine⟨p,rfl,?_⟩
  cases ho:lg x
  ·rw[ho,cond_false]at h
   cases h1:c6 (x.Year - 1) p.Years.From p.Years.To
   ·rw[h1]at h
    cases h
   ·rw[h1,Bool.true_and]at h
    refine⟨rfl,fun hk=> ?_,fun h=>by cases h⟩
    rw[hk,Bool.false_or]at h
    cases h2:c6 x.Year p.Years.From p.Years.To
    ·rw[h2]at h
     cases h
    ·rfl
  ·rw[ho,cond_true]at h
   cases hq:W.Places.find? (bK x.Other)with
   | none=>
    rw[hq]at h
    cases h
   | some q=>
    rw[hq]at h
    dsimp only at h
    cases h1:c6 (x.Year - 1) p.Years.From p.Years.To
    ·rw[h1]at h
     cases h
    cases h2:c6 x.Year p.Years.From p.Years.To
    ·rw[h1,h2]at h
     cases h
    cases h3:c6 x.Year q.Years.From q.Years.To
    ·rw[h1,h2,h3]at h
     cases h
    exact⟨rfl,fun _=>rfl,fun _=>⟨q,rfl,h3⟩⟩
theorem yM{W:World}{x:Change}(h:(eE W&&dF x)=true):chC W x≠1:=by
 unfold chC
 rw[h,cond_true]
 cases W.Places.find? (bK x.Code)with
 | none=>exact fun h=>by cases h
 | some p=>
  dsimp only
  cases lg x
  ·cases c6 (x.Year - 1) p.Years.From p.Years.To&&((x.Kind==1) || c6 x.Year p.Years.From p.Years.To)<;>exact fun h=>by cases h
  ·cases W.Places.find? (bK x.Other)with
   | none=>exact fun h=>by cases h
   | some q=>
    dsimp only
    cases c6 (x.Year - 1) p.Years.From p.Years.To&&(c6 x.Year p.Years.From p.Years.To&&c6 x.Year q.Years.From q.Years.To)<;>exact fun h=>by cases h
theorem we{W:World}(hW:WlR W):eJ W=some W:=by
 have:=hW.ll
 unfold eJ fg
 rw[sN hW.pl hW.p,if_pos (by omega)]
 rfl
theorem yO{W:World}{x:Change}(hW:WlR W)(hx:ChR x)(hz:(chC W x==0)=true): ∃V Z e,ea W x=some (e,V)∧dT W x=some (Z,e)∧e≠1∧(e=0→Z=V∧WlR V):=by
 obtain⟨hw,hc,p,hp,hy1,hy2,ho⟩:=xf hz
 obtain⟨hr,hl,hin⟩:=qx.1 hw
 obtain⟨b1,b2,b3,b4,_,_⟩:=iz hc
 have hR:um W.Places W.Links:=⟨hr,hW.p,(p4 hl).2.1,hW.l⟩
 obtain⟨P,L⟩:=W
 have hR:um P L:=hR
 have hz0:(chC (World.mk P L) x !=0)=false:=by rw[bne,hz];rfl
 unfold ea dT
 rw[tK hW hx,Option.bind_some,hz0,cond_false]
 cases h0:x.Kind==0
 ·cases h2:x.Kind==2
  ·simp only[cond_false,Option.bind_some,Sum.elim_inl]
   cases h3:x.Kind==3
   ·obtain⟨V,e1,e2,e3⟩:=sR hR b3 hp b1 hy1
    simp only[cond_false,Option.bind_some,Sum.elim_inl]
    rw[e1,e2]
    exact⟨_,_,_,rfl,rfl,(show(0:Int)≠1 by decide),fun _=>⟨rfl,e3⟩⟩
   ·have hO:lg x=true:=by
     unfold lg
     rw[h3,Bool.or_true]
    obtain⟨q,hq,_⟩:=ho hO
    have hos:x.Other.size≤1048576:=hx.o
    obtain⟨k1,k2⟩:=zP hW hw x.Code x.Year
    simp only[cond_true,Option.bind_some]
    unfold fF
    dsimp only
    rw[qF (show L.length≤1048576 from hW.ll) hW.l hx.c,qM (show L.length≤1048576 from hW.ll) hW.l hx.c]
    simp only[Option.bind_some]
    have k1:(mg L x.Code x.Year).1.length≤1048576:=k1
    have k2: ∀k∈(mg L x.Code x.Year).1,k.size≤1048576∧ ∃p,P.find? (bK k)=some p:=k2
    generalize (mg L x.Code x.Year).1=ks at k1 k2⊢
    obtain⟨r1,r2⟩:=s6 hq hos b1 ks 0 L hR k2
    have r3:=tN (W:=World.mk P L) (A:=World.mk [] []) rfl hq hos b1 ks 0 L hR k2
    rw[ir ks (by omega) _ _ _ _ (fun j z s hz=>by rw[bh,hz,Option.bind_some])]
    rw[r1]
    rw[ir ks (by omega) _ (fun _ x_1 (s:World×World)=>(bif(x_1.toList==x.Other.toList)then some (.inr (.inr (World.mk P L,5)))else((dL s.2 x_1 x.Other x.Year).bind fun x16=>((dp s.2 x16).bind fun x17=>(bif(x17.2 !=0)then some (.inr (.inr (World.mk P L,x17.2)))else some (.inl (s.1,x17.1))))))) _ _ (fun j z s hz=>by rw[bh,hz,Option.bind_some];cases z.toList==x.Other.toList<;>rfl)]
    rw[r3]
    have hne:=vO P q x.Other x.Year ks L
    cases hk:runK P q x.Other x.Year ks L with
    | inl M=>
     obtain⟨V,e1,e2,e3⟩:=sR (r2 M hk) b3 hp b1 hy1
     unfold BN Bd
     simp only[Option.bind_some,Sum.elim_inl]
     rw[e1,e2]
     exact⟨_,_,_,rfl,rfl,(show(0:Int)≠1 by decide),fun _=>⟨rfl,e3⟩⟩
    | inr eM=>
     obtain⟨e,M⟩:=eM
     obtain⟨n0,n1⟩:=hne e M hk
     exact⟨_,_,_,rfl,rfl,n1,fun h=>absurd h n0⟩
  ·have hO:lg x=true:=by
    unfold lg
    rw[h2,Bool.true_or]
   obtain⟨q,hq,_⟩:=ho hO
   have hos:x.Other.size≤1048576:=hx.o
   have hll:=hR.ll
   have hne:(x.Code.toList==x.Other.toList)=false:=by
    rw[Bool.eq_false_iff]
    intro h
    have h5:=(b4 hO).2
    rw[mM.1 h]at h5
    rw[mM.2 rfl]at h5
    cases h5
   have hM:=rU L x.Code x.Other x.Year (bL p.Years.To q.Years.To)
   have hMR:=vJ hR.l hx.c hos x.Year (bL p.Years.To q.Years.To)
   simp only[cond_false,cond_true]
   rw[na hr (show L.length≤1000000 by omega) hR.l hx.c hos hne hp hq b1,nv hr (show L.length≤1000000 by omega) hp hq b1]
   generalize mvL L x.Code x.Other x.Year (bL p.Years.To q.Years.To)=M at hM hMR
   simp only[Option.bind_some]
   rw[mn P (by omega) hMR]
   refine⟨_,_,_,rfl,rfl,xQ M,fun h=> ?_⟩
   have h5:(mvC M==0)=true:=by rw[h];rfl
   rw[h5,cond_true]
   exact⟨rfl,hW.pl,hW.p,by show M.length≤1048576;omega,hMR⟩
 ·obtain⟨V,Z,e,e1,e2,e3,e4⟩:=uR hR hx hc h0 hp
  simp only[cond_true]
  rw[e1,e2]
  exact⟨_,_,_,rfl,rfl,e3,e4⟩
theorem uq{W:World}{x:Change}(hW:WlR W)(hx:ChR x): ∃V Z e,cS W x=some (bif e==0 then V else World.mk [] [],e)∧dT W x=some (Z,e)∧(e=1→chC W x=1)∧(e=0→Z=V∧WlR V∧(chC W x==0)=true)∧((chC W x==0)=false→e=chC W x):=by
 cases hz:chC W x==0
 ·refine⟨World.mk [] [],W,chC W x,?_,?_,fun h=>h,fun h=> ?_,fun _=>rfl⟩
  ·unfold cS
   rw[sZ hW hx,Option.bind_some,bne,hz]
   rfl
  ·unfold dT
   rw[tK hW hx,Option.bind_some,bne,hz]
   rfl
  ·rw[h]at hz
   cases hz
 ·obtain⟨V,Z,e,e1,e2,e3,e4⟩:=yO hW hx hz
  refine⟨V,Z,e,?_,e2,fun h=>absurd h e3,fun h=>⟨(e4 h).1,(e4 h).2,rfl⟩,fun h=>by cases h⟩
  unfold cS
  rw[sZ hW hx,Option.bind_some,bne,hz,Bool.not_true,cond_false,we hW,Option.bind_some,e1,Option.bind_some]
  show(bif e !=0 then some (World.mk [] [],e)else some (V,0))=_
  cases he:e==0
  ·rw[bne,he]
   rfl
  ·rw[bne,he,show e=0 by simpa using he]
   rfl
theorem xe{W:World}{x:Change}(hW:WlR W)(hx:ChR x): ∃r,fT W x=some r∧gf W x=some r:=by
 obtain⟨V,Z,e,e1,e2,e3,e4,e5⟩:=uq hW hx
 unfold fT gf
 rw[m8 hW,mf hx,e1,e2]
 have hv:((some (eE W)).bind fun x1=>(bif(!x1)then some true else((some (dF x)).bind fun x2=>some (!x2))))=some (!(eE W&&dF x)):=by
  cases eE W<;>rfl
 rw[hv]
 cases hb:eE W&&dF x
 ·have h1:chC W x=1:=by
   unfold chC
   rw[hb]
   rfl
  have h2:=e5 (by rw[h1];rfl)
  rw[h1]at h2
  rw[h2]
  exact⟨_,rfl,rfl⟩
 ·have h1:(e==1)=false:=by
   rw[Bool.eq_false_iff]
   intro h
   exact yM hb (e3 (by simpa using h))
  simp only[Option.bind_some,Bool.not_true,cond_false,h1]
  exact⟨_,rfl,rfl⟩
end Go.Proofs.YtdejeagdkfokfaaGreatDoor.Sh
