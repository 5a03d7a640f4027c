/- Changes: a move of both. -/
import Derived.Test.YtdejeagdkfokfaaGreatDoorMCH7
namespace Go.Proofs.YtdejeagdkfokfaaGreatDoor.Sh
open Go.RowKit Go.Lib
theorem n6{L:List Place}(hr:jc L=true){c:ByteArray}{p:Place}(hp:L.find? (bK c)=some p): ∃k:Nat,L[k]? =some p∧p∈L∧bK c p=true∧bZ L c=some ((k:Int),true)∧bR L c=some (k:Int):=by
 rcases ec hr c with⟨_,h2,_,_⟩ | ⟨k,q,_,h2,h3,h4,h5,h6,h7⟩
 ·rw[hp]at h2
  cases h2
 ·rw[hp]at h5
  cases h5
  exact⟨k,h2,h3,h4,h6,h7⟩
def toL(c:ByteArray)(y:Int)(t:Int)(l:au):Int:=bif(l.Child.toList==c.toList)&&decide (l.Years.From>y)then bL t (aZ (l.Years.From - 1))else t
def pa(c:ByteArray)(y:Int)(l:au):au:=bif(l.Child.toList==c.toList)&&c6 y l.Years.From l.Years.To then au.mk l.Child l.Parent (Span.mk l.Years.From (y - 1))else l
def mR(c:ByteArray)(y:Int)(l:au):List au:=bif decide ((pa c y l).Years.From≤(pa c y l).Years.To)then[pa c y l]else[]
theorem mS(c:ByteArray)(y:Int)(l:au):(mR c y l).length≤1:=by
 unfold mR
 cases decide ((pa c y l).Years.From≤(pa c y l).Years.To)<;>simp
def mvL(L:List au)(c o:ByteArray)(y t:Int):List au:=L.flatMap (mR c y)++[au.mk c o (Span.mk y (L.foldl (toL c y) t))]
noncomputable def mvC(L:List au):Int:=bif decide ((L.length:Int)>20)then 3 else bif eA L then 0 else 5
theorem m0{α β:Type}(f:α→List β)(hf: ∀x,(f x).length≤1): ∀L:List α,(L.flatMap f).length≤L.length
 | []=>by simp
 | x::l=>by
  rw[List.flatMap_cons,List.length_append,List.length_cons]
  have:=hf x
  have:=m0 f hf l
  omega
theorem vK{L:List au}(hL:L.length≤1048576){c o:ByteArray}{y t:Int}:dU (L.flatMap (mR c y)) [au.mk c o (Span.mk y (L.foldl (toL c y) t))]=some (mvL L c o y t):=by
 have:=m0 _ (mS c y) L
 exact c9 (by rw[List.length_singleton];omega)
theorem rU(L:List au)(c o:ByteArray)(y t:Int):(mvL L c o y t).length≤L.length+1:=by
 unfold mvL
 have:=m0 _ (mS c y) L
 rw[List.length_append]
 simpa using this
theorem AA{c:ByteArray}{y:Int}{l x:au}(hx:x∈mR c y l):x.Child=l.Child∧x.Parent=l.Parent:=by
 unfold mR at hx
 cases hd:decide ((pa c y l).Years.From≤(pa c y l).Years.To)
 ·rw[hd]at hx
  simp at hx
 ·rw[hd]at hx
  have:x=pa c y l:=by simpa using hx
  rw[this]
  unfold pa
  cases (l.Child.toList==c.toList)&&c6 y l.Years.From l.Years.To<;>exact⟨rfl,rfl⟩
theorem zX{L:List au}{c o:ByteArray}{y t:Int}{x:au}(hx:x∈mvL L c o y t):(∃l∈L,x.Child=l.Child∧x.Parent=l.Parent)∨(x.Child=c∧x.Parent=o):=by
 unfold mvL at hx
 rcases List.mem_append.1 hx with hx | hx
 ·obtain⟨l,hl,hx⟩:=List.mem_flatMap.1 hx
  exact .inl ⟨l,hl,AA hx⟩
 ·have:x=au.mk c o (Span.mk y (L.foldl (toL c y) t)):=by simpa using hx
  rw[this]
  exact .inr ⟨rfl,rfl⟩
theorem vJ{L:List au}(h: ∀x∈L,LkR x){c o:ByteArray}(hc:c.size≤1048576)(ho:o.size≤1048576)(y t:Int): ∀x∈mvL L c o y t,LkR x:=fun x hx=>by
 rcases zX hx with⟨l,hl,e1,e2⟩ | ⟨e1,e2⟩
 ·exact⟨e1▸(h l hl).c,e2▸(h l hl).p⟩
 ·exact⟨e1▸hc,e2▸ho⟩
theorem oQ{P:List Place}{L:List au}(hr:jc P=true)(hL:L.length≤1048576){c o:ByteArray}{p q:Place}(hp:P.find? (bK c)=some p)(hq:P.find? (bK o)=some q)(y:Int):du (World.mk P L) c o y=some (au.mk c o (Span.mk y (L.foldl (toL c y) (bL p.Years.To q.Years.To)))):=by
 obtain⟨k,h1,_,_,h2,_⟩:=n6 hr hp
 obtain⟨m,h3,_,_,h4,_⟩:=n6 hr hq
 unfold du cB
 rw[h2,h4]
 simp only[Option.bind_some,bh,h1,h3]
 rw[(kB (L:=L) (by omega) (fun _ _=>True) (toL c y) (s:=bL p.Years.To q.Years.To) (fun i x s hx _=>by
  refine⟨?_,trivial⟩
  rw[bh,hx,Option.bind_some]
  unfold toL
  cases (x.Child.toList==c.toList)&&decide (x.Years.From>y)<;>rfl) trivial).1]
 rfl
theorem na{P:List Place}{L:List au}(hr:jc P=true)(hL:L.length≤1000000)(h: ∀x∈L,LkR x){c o:ByteArray}(hc:c.size≤1048576)(ho:o.size≤1048576)(hne:(c.toList==o.toList)=false){p q:Place}(hp:P.find? (bK c)=some p)(hq:P.find? (bK o)=some q){y:Int}(hy:c6 y (-2999) 3000=true):cz (World.mk P L) c o y=some (mvC (mvL L c o y (bL p.Years.To q.Years.To)),bif mvC (mvL L c o y (bL p.Years.To q.Years.To))==0 then World.mk P (mvL L c o y (bL p.Years.To q.Years.To))else World.mk P L):=by
 unfold cz
 rw[hne,cond_false,oQ hr (by omega) hp hq,Option.bind_some]
 rw[fi (L:=L) (by omega) (fun s=>s) (mR c y) (fun x _=>mS c y x) (fun i x s hx hs=>by
  rw[bh,hx,Option.bind_some,sB hy (by omega) (by omega)]
  unfold mR pa bF
  rw[cX]
  have ha: ∀z:au,dU s [z]=some (s++[z]):=fun z=>c9 (by simp;omega)
  cases hc:x.Child.toList==c.toList
  ·simp only[cond_false,Bool.false_and,Option.bind_some,ha]
   cases decide (x.Years.From≤x.Years.To)<;>simp
  ·simp only[cond_true,Bool.true_and,Option.bind_some]
   cases c6 y x.Years.From x.Years.To
   ·simp only[cond_false,Option.bind_some,ha]
    cases decide (x.Years.From≤x.Years.To)<;>simp
   ·simp only[cond_true,Option.bind_some,ha]
    cases decide (x.Years.From≤y - 1)<;>simp)]
 have hM:=rU L c o y (bL p.Years.To q.Years.To)
 have hR:=vJ h hc ho y (bL p.Years.To q.Years.To)
 rw[Option.bind_some,vK (by omega),Option.bind_some]
 generalize mvL L c o y (bL p.Years.To q.Years.To)=M at hM hR⊢
 unfold mvC
 rw[jY (by omega) hR]
 cases decide ((M.length:Int)>20)
 ·cases eA M<;>rfl
 ·rfl
theorem sX{c:ByteArray}{y:Int}: ∀(L:List au) (t:Int) (M:List au),L.foldl (fun(s:Int×List au) x=>(toL c y s.1 x,s.2++mR c y x)) (t,M)=(L.foldl (toL c y) t,M++L.flatMap (mR c y))
 | [],t,M=>by simp
 | x::l,t,M=>by
  rw[List.foldl_cons,List.foldl_cons,List.flatMap_cons,sX l,List.append_assoc]
theorem nv{P:List Place}{L:List au}(hr:jc P=true)(hL:L.length≤1000000){c o:ByteArray}{p q:Place}(hp:P.find? (bK c)=some p)(hq:P.find? (bK o)=some q){y:Int}(hy:c6 y (-2999) 3000=true):dL (World.mk P L) c o y=some (mvL L c o y (bL p.Years.To q.Years.To)):=by
 obtain⟨k,h1,_,_,_,h2⟩:=n6 hr hp
 obtain⟨m,h3,_,_,_,h4⟩:=n6 hr hq
 unfold dL
 simp only[h2,h4,Option.bind_some,bh,h1,h3]
 obtain⟨e1,e2⟩:=kB (L:=L) (by omega) (B:=(fun(i7:Int) (s7:Int×(List au))=>((at' L i7).bind fun x11=>(((bif(x11.Child.toList==c.toList)then(bif(decide (x11.Years.From>y))then some ((bL s7.1 (aZ (x11.Years.From - 1))),x11)else some (s7.1,(au.mk x11.Child x11.Parent (Span.mk x11.Years.From (bL x11.Years.To (aZ (y - 1)))))))else some (s7.1,x11))).bind fun(j12:Int×au)=>(bif(decide (j12.2.Years.From≤j12.2.Years.To))then((dU s7.2 ([j12.2]:List au)).bind fun x14=>some (j12.1,x14))else some (j12.1,s7.2)))))) (D:=fun(s7:Int×(List au))=>(s7.1,s7.2)) (fun i (s:Int×List au)=>s.2.length≤i) (fun s x=>(toL c y s.1 x,s.2++mR c y x)) (s:=(bL p.Years.To q.Years.To,[])) (fun i x s hx hI=>by
  have hi:=(List.getElem?_eq_some_iff.1 hx).1
  refine⟨?_,by
   show(s.2++mR c y x).length≤i+1
   have:=mS c y x
   rw[List.length_append]
   omega⟩
  rw[bh,hx,Option.bind_some,sB hy (by omega) (by omega)]
  have ha: ∀z:au,dU s.2 [z]=some (s.2++[z]):=fun z=>c9 (by simp;omega)
  have hset:pa c y x=bif(x.Child.toList==c.toList)then(bif decide (x.Years.From>y)then x else au.mk x.Child x.Parent (Span.mk x.Years.From (bL x.Years.To (y - 1))))else x:=by
   unfold pa
   cases x.Child.toList==c.toList
   ·rfl
   ·by_cases hF:x.Years.From>y
    ·rw[decide_eq_true hF]
     have:c6 y x.Years.From x.Years.To=false:=by
      rw[Bool.eq_false_iff]
      intro h5
      have:=(ey.1 h5).1
      omega
     rw[this]
     rfl
    ·rw[decide_eq_false hF]
     by_cases hT:y≤x.Years.To
     ·rw[ey.2 ⟨by omega,hT⟩]
      unfold bL
      rw[if_pos (by omega)]
      rfl
     ·have:c6 y x.Years.From x.Years.To=false:=by
       rw[Bool.eq_false_iff]
       intro h5
       have:=(ey.1 h5).2
       omega
      rw[this]
      unfold bL
      rw[if_neg (by omega)]
      rfl
  unfold mR toL
  rw[hset]
  cases x.Child.toList==c.toList
  ·simp only[cond_false,Bool.false_and,Option.bind_some,ha]
   cases decide (x.Years.From≤x.Years.To)<;>simp
  ·simp only[cond_true,Bool.true_and]
   cases decide (x.Years.From>y)
   ·simp only[cond_false,Option.bind_some,ha]
    cases decide (x.Years.From≤bL x.Years.To (y - 1))<;>simp
   ·simp only[cond_true,Option.bind_some,ha]
    cases decide (x.Years.From≤x.Years.To)<;>simp) (by simp)
 rw[e1,Option.bind_some,sX]
 show(dU ([]++L.flatMap (mR c y)) [au.mk c o (Span.mk y (L.foldl (toL c y) (bL p.Years.To q.Years.To)))]).bind _=_
 rw[List.nil_append,vK (by omega)]
 rfl
theorem mn(P:List Place){L M:List au}(hM:M.length≤1048576)(hR: ∀x∈M,LkR x):dp (World.mk P L) M=some (bif mvC M==0 then World.mk P M else World.mk P L,mvC M):=by
 unfold dp mvC
 rw[kd hM hR]
 cases decide ((M.length:Int)>20)
 ·cases eA M<;>rfl
 ·rfl
end Go.Proofs.YtdejeagdkfokfaaGreatDoor.Sh
