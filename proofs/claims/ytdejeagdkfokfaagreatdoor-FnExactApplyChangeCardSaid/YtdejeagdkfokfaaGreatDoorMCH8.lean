/- Changes: a move of both. -/
import Derived.Test.YtdejeagdkfokfaaGreatDoorMCH7
namespace Go.Proofs.YtdejeagdkfokfaaGreatDoor.Sh
open Go.RowKit Go.Lib
theorem oR{L:List Place}(hr:jP L=true){c:ByteArray}{p:Place}(hp:L.find? (bN c)=some p): ∃k:Nat,L[k]? =some p∧p∈L∧bN c p=true∧b9 L c=some ((k:Int),true)∧bW L c=some (k:Int):=by
 rcases eF hr c with⟨_,h2,_,_⟩ | ⟨k,q,_,h2,h3,h4,h5,h6,h7⟩
 ·rw[hp]at h2
  cases h2
 ·rw[hp]at h5
  cases h5
  exact⟨k,h2,h3,h4,h6,h7⟩
def toL(c:ByteArray)(y:Int)(t:Int)(l:aw):Int:=bif(l.Child.toList==c.toList)&&decide (l.Years.From>y)then cw t (aJ (l.Years.From - 1))else t
def pV(c:ByteArray)(y:Int)(l:aw):aw:=bif(l.Child.toList==c.toList)&&dy y l.Years.From l.Years.To then aw.mk l.Child l.Parent (Span.mk l.Years.From (y - 1))else l
def nB(c:ByteArray)(y:Int)(l:aw):List aw:=bif decide ((pV c y l).Years.From≤(pV c y l).Years.To)then[pV c y l]else[]
theorem nC(c:ByteArray)(y:Int)(l:aw):(nB c y l).length≤1:=by
 unfold nB
 cases decide ((pV c y l).Years.From≤(pV c y l).Years.To)<;>simp
def mvL(L:List aw)(c o:ByteArray)(y t:Int):List aw:=L.flatMap (nB c y)++[aw.mk c o (Span.mk y (L.foldl (toL c y) t))]
noncomputable def mvC(L:List aw):Int:=bif decide ((L.length:Int)>20)then 3 else bif eY L then 0 else 5
theorem nK{α β:Type}(f:α→List β)(hf: ∀x,(f x).length≤1): ∀L:List α,(L.flatMap f).length≤L.length
 | []=>by simp
 | x::l=>by
  rw[List.flatMap_cons,List.length_append,List.length_cons]
  have:=hf x
  have:=nK f hf l
  omega
theorem xm{L:List aw}(hL:L.length≤1048576){c o:ByteArray}{y t:Int}:ed (L.flatMap (nB c y)) [aw.mk c o (Span.mk y (L.foldl (toL c y) t))]=some (mvL L c o y t):=by
 have:=nK _ (nC c y) L
 exact da (by rw[List.length_singleton];omega)
theorem tA(L:List aw)(c o:ByteArray)(y t:Int):(mvL L c o y t).length≤L.length+1:=by
 unfold mvL
 have:=nK _ (nC c y) L
 rw[List.length_append]
 simpa using this
theorem B7{c:ByteArray}{y:Int}{l x:aw}(hx:x∈nB c y l):x.Child=l.Child∧x.Parent=l.Parent:=by
 unfold nB at hx
 cases hd:decide ((pV c y l).Years.From≤(pV c y l).Years.To)
 ·rw[hd]at hx
  simp at hx
 ·rw[hd]at hx
  have:x=pV c y l:=by simpa using hx
  rw[this]
  unfold pV
  cases (l.Child.toList==c.toList)&&dy y l.Years.From l.Years.To<;>exact⟨rfl,rfl⟩
theorem Bw{L:List aw}{c o:ByteArray}{y t:Int}{x:aw}(hx:x∈mvL L c o y t):(∃l∈L,x.Child=l.Child∧x.Parent=l.Parent)∨(x.Child=c∧x.Parent=o):=by
 unfold mvL at hx
 rcases List.mem_append.1 hx with hx | hx
 ·obtain⟨l,hl,hx⟩:=List.mem_flatMap.1 hx
  exact .inl ⟨l,hl,B7 hx⟩
 ·have:x=aw.mk c o (Span.mk y (L.foldl (toL c y) t)):=by simpa using hx
  rw[this]
  exact .inr ⟨rfl,rfl⟩
theorem xl{L:List aw}(h: ∀x∈L,LkR x){c o:ByteArray}(hc:c.size≤1048576)(ho:o.size≤1048576)(y t:Int): ∀x∈mvL L c o y t,LkR x:=fun x hx=>by
 rcases Bw hx with⟨l,hl,e1,e2⟩ | ⟨e1,e2⟩
 ·exact⟨e1▸(h l hl).c,e2▸(h l hl).p⟩
 ·exact⟨e1▸hc,e2▸ho⟩
theorem pA{P:List Place}{L:List aw}(hr:jP P=true)(hL:L.length≤1048576){c o:ByteArray}{p q:Place}(hp:P.find? (bN c)=some p)(hq:P.find? (bN o)=some q)(y:Int):dL (World.mk P L) c o y=some (aw.mk c o (Span.mk y (L.foldl (toL c y) (cw p.Years.To q.Years.To)))):=by
 obtain⟨k,h1,_,_,h2,_⟩:=oR hr hp
 obtain⟨m,h3,_,_,h4,_⟩:=oR hr hq
 unfold dL cO
 rw[h2,h4]
 simp only[Option.bind_some,bg,h1,h3]
 rw[(lr (L:=L) (by omega) (fun _ _=>True) (toL c y) (s:=cw p.Years.To q.Years.To) (fun i x s hx _=>by
  refine⟨?_,trivial⟩
  rw[bg,hx,Option.bind_some]
  unfold toL
  cases (x.Child.toList==c.toList)&&decide (x.Years.From>y)<;>rfl) trivial).1]
 rfl
theorem nS{P:List Place}{L:List aw}(hr:jP P=true)(hL:L.length≤1000000)(h: ∀x∈L,LkR x){c o:ByteArray}(hc:c.size≤1048576)(ho:o.size≤1048576)(hne:(c.toList==o.toList)=false){p q:Place}(hp:P.find? (bN c)=some p)(hq:P.find? (bN o)=some q){y:Int}(hy:dy y (-2999) 3000=true):cJ (World.mk P L) c o y=some (mvC (mvL L c o y (cw p.Years.To q.Years.To)),bif mvC (mvL L c o y (cw p.Years.To q.Years.To))==0 then World.mk P (mvL L c o y (cw p.Years.To q.Years.To))else World.mk P L):=by
 unfold cJ
 rw[hne,cond_false,pA hr (by omega) hp hq,Option.bind_some]
 rw[fH (L:=L) (by omega) (fun s=>s) (nB c y) (fun x _=>nC c y x) (fun i x s hx hs=>by
  rw[bg,hx,Option.bind_some,ua hy (by omega) (by omega)]
  unfold nB pV bH
  rw[c7]
  have ha: ∀z:aw,ed s [z]=some (s++[z]):=fun z=>da (by simp;omega)
  cases hc:x.Child.toList==c.toList
  ·simp only[cond_false,Bool.false_and,Option.bind_some,ha]
   cases decide (x.Years.From≤x.Years.To)<;>simp
  ·simp only[cond_true,Bool.true_and,Option.bind_some]
   cases dy y x.Years.From x.Years.To
   ·simp only[cond_false,Option.bind_some,ha]
    cases decide (x.Years.From≤x.Years.To)<;>simp
   ·simp only[cond_true,Option.bind_some,ha]
    cases decide (x.Years.From≤y - 1)<;>simp)]
 have hM:=tA L c o y (cw p.Years.To q.Years.To)
 have hR:=xl h hc ho y (cw p.Years.To q.Years.To)
 rw[Option.bind_some,xm (by omega),Option.bind_some]
 generalize mvL L c o y (cw p.Years.To q.Years.To)=M at hM hR⊢
 unfold mvC
 rw[kM (by omega) hR]
 cases decide ((M.length:Int)>20)
 ·cases eY M<;>rfl
 ·rfl
theorem uJ{c:ByteArray}{y:Int}: ∀(L:List aw) (t:Int) (M:List aw),L.foldl (fun(s:Int×List aw) x=>(toL c y s.1 x,s.2++nB c y x)) (t,M)=(L.foldl (toL c y) t,M++L.flatMap (nB c y))
 | [],t,M=>by simp
 | x::l,t,M=>by
  rw[List.foldl_cons,List.foldl_cons,List.flatMap_cons,uJ l,List.append_assoc]
theorem od{P:List Place}{L:List aw}(hr:jP P=true)(hL:L.length≤1000000){c o:ByteArray}{p q:Place}(hp:P.find? (bN c)=some p)(hq:P.find? (bN o)=some q){y:Int}(hy:dy y (-2999) 3000=true):eb (World.mk P L) c o y=some (mvL L c o y (cw p.Years.To q.Years.To)):=by
 obtain⟨k,h1,_,_,_,h2⟩:=oR hr hp
 obtain⟨m,h3,_,_,_,h4⟩:=oR hr hq
 unfold eb
 simp only[h2,h4,Option.bind_some,bg,h1,h3]
 obtain⟨e1,e2⟩:=lr (L:=L) (by omega) (B:=(fun(i7:Int) (s7:Int×(List aw))=>((at' L i7).bind fun x11=>(((bif(x11.Child.toList==c.toList)then(bif(decide (x11.Years.From>y))then some ((cw s7.1 (aJ (x11.Years.From - 1))),x11)else some (s7.1,(aw.mk x11.Child x11.Parent (Span.mk x11.Years.From (cw x11.Years.To (aJ (y - 1)))))))else some (s7.1,x11))).bind fun(j12:Int×aw)=>(bif(decide (j12.2.Years.From≤j12.2.Years.To))then((ed s7.2 ([j12.2]:List aw)).bind fun x14=>some (j12.1,x14))else some (j12.1,s7.2)))))) (D:=fun(s7:Int×(List aw))=>(s7.1,s7.2)) (fun i (s:Int×List aw)=>s.2.length≤i) (fun s x=>(toL c y s.1 x,s.2++nB c y x)) (s:=(cw p.Years.To q.Years.To,[])) (fun i x s hx hI=>by
  have hi:=(List.getElem?_eq_some_iff.1 hx).1
  refine⟨?_,by
   show(s.2++nB c y x).length≤i+1
   have:=nC c y x
   rw[List.length_append]
   omega⟩
  rw[bg,hx,Option.bind_some,ua hy (by omega) (by omega)]
  have ha: ∀z:aw,ed s.2 [z]=some (s.2++[z]):=fun z=>da (by simp;omega)
  have hset:pV c y x=bif(x.Child.toList==c.toList)then(bif decide (x.Years.From>y)then x else aw.mk x.Child x.Parent (Span.mk x.Years.From (cw x.Years.To (y - 1))))else x:=by
   unfold pV
   cases x.Child.toList==c.toList
   ·rfl
   ·by_cases hF:x.Years.From>y
    ·rw[decide_eq_true hF]
     have:dy y x.Years.From x.Years.To=false:=by
      rw[Bool.eq_false_iff]
      intro h5
      have:=(eX.1 h5).1
      omega
     rw[this]
     rfl
    ·rw[decide_eq_false hF]
     by_cases hT:y≤x.Years.To
     ·rw[eX.2 ⟨by omega,hT⟩]
      unfold cw
      rw[if_pos (by omega)]
      rfl
     ·have:dy y x.Years.From x.Years.To=false:=by
       rw[Bool.eq_false_iff]
       intro h5
       have:=(eX.1 h5).2
       omega
      rw[this]
      unfold cw
      rw[if_neg (by omega)]
      rfl
  unfold nB toL
  rw[hset]
  cases x.Child.toList==c.toList
  ·simp only[cond_false,Bool.false_and,Option.bind_some,ha]
   cases decide (x.Years.From≤x.Years.To)<;>simp
  ·simp only[cond_true,Bool.true_and]
   cases decide (x.Years.From>y)
   ·simp only[cond_false,Option.bind_some,ha]
    cases decide (x.Years.From≤cw x.Years.To (y - 1))<;>simp
   ·simp only[cond_true,Option.bind_some,ha]
    cases decide (x.Years.From≤x.Years.To)<;>simp) (by simp)
 rw[e1,Option.bind_some,uJ]
 show(ed ([]++L.flatMap (nB c y)) [aw.mk c o (Span.mk y (L.foldl (toL c y) (cw p.Years.To q.Years.To)))]).bind _=_
 rw[List.nil_append,xm (by omega)]
 rfl
theorem mW(P:List Place){L M:List aw}(hM:M.length≤1048576)(hR: ∀x∈M,LkR x):dH (World.mk P L) M=some (bif mvC M==0 then World.mk P M else World.mk P L,mvC M):=by
 unfold dH mvC
 rw[kQ hM hR]
 cases decide ((M.length:Int)>20)
 ·cases eY M<;>rfl
 ·rfl
end Go.Proofs.YtdejeagdkfokfaaGreatDoor.Sh
