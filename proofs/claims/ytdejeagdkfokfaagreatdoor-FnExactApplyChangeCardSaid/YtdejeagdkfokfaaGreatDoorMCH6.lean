/- Worlds and changes: IsWorld, IsChange, the codes ahead of a change, of both; bounds on lengths alone. -/
import Derived.Test.YtdejeagdkfokfaaGreatDoorMCH5
import Derived.Test.YtdejeagdkfokfaaGreatDoorMPL5
namespace Go.Proofs.YtdejeagdkfokfaaGreatDoor.Sh
open Go.RowKit Go.Lib
structure WlR (w:World):Prop where
 pl:w.Places.length≤1048576
 p: ∀x∈w.Places,PlR x
 ll:w.Links.length≤1048576
 l: ∀x∈w.Links,LkR x
structure ChR (x:Change):Prop where
 c:x.Code.size≤1048576
 o:x.Other.size≤1048576
 l:x.Language.size≤1048576
 t:x.Text.size≤1048576
theorem eF{L:List Place}(hr:jP L=true)(c:ByteArray):(L.any (bN c)=false∧L.find? (bN c)=none∧(∃k:Nat,b9 L c=some ((k:Int),false))∧bW L c=some (-1))∨ ∃(k:Nat) (p:Place),L.any (bN c)=true∧L[k]? =some p∧p∈L∧bN c p=true∧L.find? (bN c)=some p∧b9 L c=some ((k:Int),true)∧bW L c=some (k:Int):=by
 obtain⟨hs,_,hl⟩:=nZ.1 hr
 obtain⟨k,h1,_,_,_,h2⟩:=qB hl hs c
 have h3:=lq (show L.length≤1048576 by omega) c
 rcases qI (bN c) L with⟨h4,h5⟩ | ⟨i,p,h4,h5,h6⟩
 ·left
  have ha:L.any (bN c)=false:=by
   rw[List.find?_eq_none]at h5
   rw[List.any_eq_false]
   exact fun x hx=>h5 x hx
  rw[ha]at h1
  exact⟨ha,h5,⟨k,h1⟩,by rw[h3,h4]⟩
 ·right
  have ha:L.any (bN c)=true:=List.any_eq_true.2 ⟨p,List.mem_of_find?_eq_some h6,List.find?_some h6⟩
  obtain⟨h7,h8⟩:=h2 ha
  rw[h4]at h7
  have h7:i=k:=by omega
  subst h7
  rw[ha]at h1
  exact⟨i,p,ha,h5,List.mem_of_find?_eq_some h6,List.find?_some h6,h6,h1,by rw[h3,h4]⟩
def tp(P:List Place)(c:ByteArray)(s:Span):Bool:=match P.find? (bN c)with
 | some p=>decide (p.Years.From≤s.From)&&decide (s.To≤p.Years.To)
 | none=>false
theorem ph{W:World}(hr:jP W.Places=true)(c:ByteArray)(s:Span):de W c s=some (tp W.Places c s):=by
 unfold de ey tp
 rcases eF hr c with⟨_,h2,⟨k,h3⟩,_⟩ | ⟨k,p,_,h2,_,_,h4,h5,_⟩
 ·rw[h2,h3]
  rfl
 ·rw[h4,h5]
  simp only[Option.bind_some,cond_true,bg,h2]
def inW(P:List Place)(l:aw):Bool:=tp P l.Child l.Years&&tp P l.Parent l.Years
noncomputable def iP(W:World):Bool:=jP W.Places&&(eY W.Links&&W.Links.all (inW W.Places))
theorem tn{W:World}(h:WlR W):im W=some (iP W):=by
 unfold im iP
 rw[wi h.pl h.p,kM h.ll h.l]
 cases hr:jP W.Places
 ·rfl
 cases eY W.Links
 ·rfl
 unfold bJ bU io
 have hl:=h.ll
 rw[iD (by omega) (fun l=> !inW W.Places l) (fun i x hx=>by
  rw[bg,hx,Option.bind_some,ph hr,ph hr]
  unfold inW
  cases tp W.Places x.Child x.Years<;>cases tp W.Places x.Parent x.Years<;>rfl)]
 simp only[Option.bind_some,ie,cond_true,Bool.true_and]
 congr 1
 rw[Bool.eq_iff_iff]
 simp
theorem tS{W:World}(h:WlR W):iI W=some (iP W):=by
 unfold iI iP
 rw[ra h.pl h.p,kQ h.ll h.l]
 cases hr:jP W.Places
 ·rfl
 cases eY W.Links
 ·rfl
 have hl:=h.ll
 simp only[Bool.not_true,cond_false,Option.bind_some,Bool.true_and]
 rw[kk (by omega) (fun l=> !inW W.Places l) false (fun i x hx=>by
  rw[bg,hx,Option.bind_some]
  unfold inW tp
  rcases eF hr x.Child with⟨_,h2,_,h3⟩ | ⟨k,p,_,h2,_,_,h4,_,h5⟩
  ·have:decide ((-1:Int)<0)=true:=rfl
   rw[h2,h3,Option.bind_some]
   rcases eF hr x.Parent with⟨_,k2,_,k3⟩ | ⟨k',p',_,k2,_,_,k4,_,k5⟩
   ·rw[k3]
    rfl
   ·rw[k5]
    rfl
  ·rw[h4,h5,Option.bind_some,decide_eq_false (show ¬((k:Int)<0) by omega)]
   rcases eF hr x.Parent with⟨_,k2,_,k3⟩ | ⟨k',p',_,k2,_,_,k4,_,k5⟩
   ·rw[k2,k3]
    simp
   ·rw[k4,k5,Option.bind_some,decide_eq_false (show ¬((k':Int)<0) by omega)]
    simp only[cond_false,bg,h2,k2,Option.bind_some]
    have e:((bif decide (x.Years.From<CI p.Years.From p'.Years.From)then some true else some (decide (x.Years.To>cw p.Years.To p'.Years.To))):Option Bool)=some (!((decide (p.Years.From≤x.Years.From)&&decide (x.Years.To≤p.Years.To))&&(decide (p'.Years.From≤x.Years.From)&&decide (x.Years.To≤p'.Years.To)))):=by
     rw[←Bool.apply_cond some]
     congr 1
     rw[Bool.eq_iff_iff]
     unfold CI cw
     by_cases a1:p'.Years.From>p.Years.From<;>by_cases a2:p'.Years.To<p.Years.To<;>simp[a1,a2]<;>omega
    rw[e]
    rfl)]
 rw[Bool.eq_iff_iff.2 (show(W.Links.any fun l=> !inW W.Places l)=true↔(!(W.Links.all (inW W.Places)))=true by simp)]
 cases W.Links.all (inW W.Places)<;>rfl
end Go.Proofs.YtdejeagdkfokfaaGreatDoor.Sh
