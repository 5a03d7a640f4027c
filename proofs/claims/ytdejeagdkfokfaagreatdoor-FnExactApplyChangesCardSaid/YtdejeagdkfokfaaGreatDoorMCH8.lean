/- Changes: a move of both. -/
import Derived.Test.YtdejeagdkfokfaaGreatDoorMCH7
namespace Go.Proofs.YtdejeagdkfokfaaGreatDoor.Sh
open Go.RowKit Go.Lib
theorem pn{L:List Place}(hr:jT L=true){c:ByteArray}{p:Place}(hp:L.find? (bU c)=some p): ∃k:Nat,L[k]? =some p∧p∈L∧bU c p=true∧cg L c=some ((k:Int),true)∧ca L c=some (k:Int):=by
 rcases eJ hr c with⟨_,h2,_,_⟩ | ⟨k,q,_,h2,h3,h4,h5,h6,h7⟩
 ·rw[hp]at h2
  cases h2
 ·rw[hp]at h5
  cases h5
  exact⟨k,h2,h3,h4,h6,h7⟩
def toL(c:ByteArray)(y:Int)(t:Int)(l:ax):Int:=bif(l.Child.toList==c.toList)&&decide (l.Years.From>y)then cE t (aO (l.Years.From - 1))else t
def qq(c:ByteArray)(y:Int)(l:ax):ax:=bif(l.Child.toList==c.toList)&&dD y l.Years.From l.Years.To then ax.mk l.Child l.Parent (Span.mk l.Years.From (y - 1))else l
def n3(c:ByteArray)(y:Int)(l:ax):List ax:=bif decide ((qq c y l).Years.From≤(qq c y l).Years.To)then[qq c y l]else[]
theorem n5(c:ByteArray)(y:Int)(l:ax):(n3 c y l).length≤1:=by
 unfold n3
 cases decide ((qq c y l).Years.From≤(qq c y l).Years.To)<;>simp
def mvL(L:List ax)(c o:ByteArray)(y t:Int):List ax:=L.flatMap (n3 c y)++[ax.mk c o (Span.mk y (L.foldl (toL c y) t))]
noncomputable def mvC(L:List ax):Int:=bif decide ((L.length:Int)>20)then 3 else bif fa L then 0 else 5
theorem oe{α β:Type}(f:α→List β)(hf: ∀x,(f x).length≤1): ∀L:List α,(L.flatMap f).length≤L.length
 | []=>by simp
 | x::l=>by
  rw[List.flatMap_cons,List.length_append,List.length_cons]
  have:=hf x
  have:=oe f hf l
  omega
theorem xY{L:List ax}(hL:L.length≤1048576){c o:ByteArray}{y t:Int}:eg (L.flatMap (n3 c y)) [ax.mk c o (Span.mk y (L.foldl (toL c y) t))]=some (mvL L c o y t):=by
 have:=oe _ (n5 c y) L
 exact dj (by rw[List.length_singleton];omega)
theorem uj(L:List ax)(c o:ByteArray)(y t:Int):(mvL L c o y t).length≤L.length+1:=by
 unfold mvL
 have:=oe _ (n5 c y) L
 rw[List.length_append]
 simpa using this
theorem CG{c:ByteArray}{y:Int}{l x:ax}(hx:x∈n3 c y l):x.Child=l.Child∧x.Parent=l.Parent:=by
 unfold n3 at hx
 cases hd:decide ((qq c y l).Years.From≤(qq c y l).Years.To)
 ·rw[hd]at hx
  simp at hx
 ·rw[hd]at hx
  have:x=qq c y l:=by simpa using hx
  rw[this]
  unfold qq
  cases (l.Child.toList==c.toList)&&dD y l.Years.From l.Years.To<;>exact⟨rfl,rfl⟩
theorem B6{L:List ax}{c o:ByteArray}{y t:Int}{x:ax}(hx:x∈mvL L c o y t):(∃l∈L,x.Child=l.Child∧x.Parent=l.Parent)∨(x.Child=c∧x.Parent=o):=by
 unfold mvL at hx
 rcases List.mem_append.1 hx with hx | hx
 ·obtain⟨l,hl,hx⟩:=List.mem_flatMap.1 hx
  exact .inl ⟨l,hl,CG hx⟩
 ·have:x=ax.mk c o (Span.mk y (L.foldl (toL c y) t)):=by simpa using hx
  rw[this]
  exact .inr ⟨rfl,rfl⟩
theorem xX{L:List ax}(h: ∀x∈L,LkR x){c o:ByteArray}(hc:c.size≤1048576)(ho:o.size≤1048576)(y t:Int): ∀x∈mvL L c o y t,LkR x:=fun x hx=>by
 rcases B6 hx with⟨l,hl,e1,e2⟩ | ⟨e1,e2⟩
 ·exact⟨e1▸(h l hl).c,e2▸(h l hl).p⟩
 ·exact⟨e1▸hc,e2▸ho⟩
theorem p4{P:List Place}{L:List ax}(hr:jT P=true)(hL:L.length≤1048576){c o:ByteArray}{p q:Place}(hp:P.find? (bU c)=some p)(hq:P.find? (bU o)=some q)(y:Int):dP (World.mk P L) c o y=some (ax.mk c o (Span.mk y (L.foldl (toL c y) (cE p.Years.To q.Years.To)))):=by
 obtain⟨k,h1,_,_,h2,_⟩:=pn hr hp
 obtain⟨m,h3,_,_,h4,_⟩:=pn hr hq
 unfold dP cS
 rw[h2,h4]
 simp only[Option.bind_some,bk,h1,h3]
 rw[(lE (L:=L) (by omega) (fun _ _=>True) (toL c y) (s:=cE p.Years.To q.Years.To) (fun i x s hx _=>by
  refine⟨?_,trivial⟩
  rw[bk,hx,Option.bind_some]
  unfold toL
  cases (x.Child.toList==c.toList)&&decide (x.Years.From>y)<;>rfl) trivial).1]
 rfl
theorem ot{P:List Place}{L:List ax}(hr:jT P=true)(hL:L.length≤1000000)(h: ∀x∈L,LkR x){c o:ByteArray}(hc:c.size≤1048576)(ho:o.size≤1048576)(hne:(c.toList==o.toList)=false){p q:Place}(hp:P.find? (bU c)=some p)(hq:P.find? (bU o)=some q){y:Int}(hy:dD y (-2999) 3000=true):cM (World.mk P L) c o y=some (mvC (mvL L c o y (cE p.Years.To q.Years.To)),bif mvC (mvL L c o y (cE p.Years.To q.Years.To))==0 then World.mk P (mvL L c o y (cE p.Years.To q.Years.To))else World.mk P L):=by
 unfold cM
 rw[hne,cond_false,p4 hr (by omega) hp hq,Option.bind_some]
 rw[fQ (L:=L) (by omega) (fun s=>s) (n3 c y) (fun x _=>n5 c y x) (fun i x s hx hs=>by
  rw[bk,hx,Option.bind_some,uO hy (by omega) (by omega)]
  unfold n3 qq bN
  rw[dd]
  have ha: ∀z:ax,eg s [z]=some (s++[z]):=fun z=>dj (by simp;omega)
  cases hc:x.Child.toList==c.toList
  ·simp only[cond_false,Bool.false_and,Option.bind_some,ha]
   cases decide (x.Years.From≤x.Years.To)<;>simp
  ·simp only[cond_true,Bool.true_and,Option.bind_some]
   cases dD y x.Years.From x.Years.To
   ·simp only[cond_false,Option.bind_some,ha]
    cases decide (x.Years.From≤x.Years.To)<;>simp
   ·simp only[cond_true,Option.bind_some,ha]
    cases decide (x.Years.From≤y - 1)<;>simp)]
 have hM:=uj L c o y (cE p.Years.To q.Years.To)
 have hR:=xX h hc ho y (cE p.Years.To q.Years.To)
 rw[Option.bind_some,xY (by omega),Option.bind_some]
 generalize mvL L c o y (cE p.Years.To q.Years.To)=M at hM hR⊢
 unfold mvC
 rw[kR (by omega) hR]
 cases decide ((M.length:Int)>20)
 ·cases fa M<;>rfl
 ·rfl
theorem vq{c:ByteArray}{y:Int}: ∀(L:List ax) (t:Int) (M:List ax),L.foldl (fun(s:Int×List ax) x=>(toL c y s.1 x,s.2++n3 c y x)) (t,M)=(L.foldl (toL c y) t,M++L.flatMap (n3 c y))
 | [],t,M=>by simp
 | x::l,t,M=>by
  rw[List.foldl_cons,List.foldl_cons,List.flatMap_cons,vq l,List.append_assoc]
theorem oN{P:List Place}{L:List ax}(hr:jT P=true)(hL:L.length≤1000000){c o:ByteArray}{p q:Place}(hp:P.find? (bU c)=some p)(hq:P.find? (bU o)=some q){y:Int}(hy:dD y (-2999) 3000=true):ee (World.mk P L) c o y=some (mvL L c o y (cE p.Years.To q.Years.To)):=by
 obtain⟨k,h1,_,_,_,h2⟩:=pn hr hp
 obtain⟨m,h3,_,_,_,h4⟩:=pn hr hq
 unfold ee
 simp only[h2,h4,Option.bind_some,bk,h1,h3]
 obtain⟨e1,e2⟩:=lE (L:=L) (by omega) (B:=(fun(i7:Int) (s7:Int×(List ax))=>((at' L i7).bind fun x11=>(((bif(x11.Child.toList==c.toList)then(bif(decide (x11.Years.From>y))then some ((cE s7.1 (aO (x11.Years.From - 1))),x11)else some (s7.1,(ax.mk x11.Child x11.Parent (Span.mk x11.Years.From (cE x11.Years.To (aO (y - 1)))))))else some (s7.1,x11))).bind fun(j12:Int×ax)=>(bif(decide (j12.2.Years.From≤j12.2.Years.To))then((eg s7.2 ([j12.2]:List ax)).bind fun x14=>some (j12.1,x14))else some (j12.1,s7.2)))))) (D:=fun(s7:Int×(List ax))=>(s7.1,s7.2)) (fun i (s:Int×List ax)=>s.2.length≤i) (fun s x=>(toL c y s.1 x,s.2++n3 c y x)) (s:=(cE p.Years.To q.Years.To,[])) (fun i x s hx hI=>by
  have hi:=(List.getElem?_eq_some_iff.1 hx).1
  refine⟨?_,by
   show(s.2++n3 c y x).length≤i+1
   have:=n5 c y x
   rw[List.length_append]
   omega⟩
  rw[bk,hx,Option.bind_some,uO hy (by omega) (by omega)]
  have ha: ∀z:ax,eg s.2 [z]=some (s.2++[z]):=fun z=>dj (by simp;omega)
  have hset:qq c y x=bif(x.Child.toList==c.toList)then(bif decide (x.Years.From>y)then x else ax.mk x.Child x.Parent (Span.mk x.Years.From (cE x.Years.To (y - 1))))else x:=by
   unfold qq
   cases x.Child.toList==c.toList
   ·rfl
   ·by_cases hF:x.Years.From>y
    ·rw[decide_eq_true hF]
     have:dD y x.Years.From x.Years.To=false:=by
      rw[Bool.eq_false_iff]
      intro h5
      have:=(e8.1 h5).1
      omega
     rw[this]
     rfl
    ·rw[decide_eq_false hF]
     by_cases hT:y≤x.Years.To
     ·rw[e8.2 ⟨by omega,hT⟩]
      unfold cE
      rw[if_pos (by omega)]
      rfl
     ·have:dD y x.Years.From x.Years.To=false:=by
       rw[Bool.eq_false_iff]
       intro h5
       have:=(e8.1 h5).2
       omega
      rw[this]
      unfold cE
      rw[if_neg (by omega)]
      rfl
  unfold n3 toL
  rw[hset]
  cases x.Child.toList==c.toList
  ·simp only[cond_false,Bool.false_and,Option.bind_some,ha]
   cases decide (x.Years.From≤x.Years.To)<;>simp
  ·simp only[cond_true,Bool.true_and]
   cases decide (x.Years.From>y)
   ·simp only[cond_false,Option.bind_some,ha]
    cases decide (x.Years.From≤cE x.Years.To (y - 1))<;>simp
   ·simp only[cond_true,Option.bind_some,ha]
    cases decide (x.Years.From≤x.Years.To)<;>simp) (by simp)
 rw[e1,Option.bind_some,vq]
 show(eg ([]++L.flatMap (n3 c y)) [ax.mk c o (Span.mk y (L.foldl (toL c y) (cE p.Years.To q.Years.To)))]).bind _=_
 rw[List.nil_append,xY (by omega)]
 rfl
theorem np(P:List Place){L M:List ax}(hM:M.length≤1048576)(hR: ∀x∈M,LkR x):dL (World.mk P L) M=some (bif mvC M==0 then World.mk P M else World.mk P L,mvC M):=by
 unfold dL mvC
 rw[kW hM hR]
 cases decide ((M.length:Int)>20)
 ·cases fa M<;>rfl
 ·rfl
end Go.Proofs.YtdejeagdkfokfaaGreatDoor.Sh
