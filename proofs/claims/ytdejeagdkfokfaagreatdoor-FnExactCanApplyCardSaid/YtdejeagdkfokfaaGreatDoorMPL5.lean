/- Places: EndPlace of both; bounds on lengths alone. -/
import Derived.Test.YtdejeagdkfokfaaGreatDoorMPL4
namespace Go.Proofs.YtdejeagdkfokfaaGreatDoor.Sh
open Go.RowKit Go.Lib
theorem fi{α β S A:Type}{L:List α}(hL:L.length≤1048576){B:Int→S→Option S}{D:S→A}(mk:List β→S)(f:α→List β)(hf: ∀x∈L,(f x).length≤1)(h: ∀(i:Nat) x (s:List β),L[i]? =some x→s.length≤1048576→B (i:Int) (mk s)=some (mk (s++f x))):iQ (L.length:Int) B D 0 (mk [])=some (D (mk (L.flatMap f))):=by
 have key: ∀(M:List α) (k:Nat) (s:List β),L.drop k=M→k+M.length=L.length→s.length≤k→gx (fun i s=>(B (i:Int) s).map .inl) D M.length k (mk s)=some (D (mk (s++M.flatMap f))):=by
  intro M
  induction M with
  | nil=>intro k s _ _ _;simp[gx]
  | cons x M ih=>
   intro k s hd hk hs
   have hx:L[k]? =some x:=by
    have:=List.getElem?_drop (xs:=L) (i:=k) (j:=0)
    rw[hd]at this
    simpa using this.symm
   have hlt:=(List.getElem?_eq_some_iff.1 hx).1
   rw[List.length_cons]
   unfold gx
   rw[h k x s hx (by omega)]
   show gx _ D M.length (k+1) (mk (s++f x))=_
   have hfx:=hf x (List.mem_of_getElem? hx)
   rw[ih (k+1) _ (by rw[←List.drop_drop,hd];rfl) (by simp at hk;omega) (by rw[List.length_append];omega),List.flatMap_cons,List.append_assoc]
 rw[lF,kh _ (by omega)]
 exact key L 0 [] rfl (by simp) (by simp)
theorem qS{α β S A:Type}{L:List α}(hL:L.length≤1048576){B:Int→S→Option S}{D:S→A}(mk:List β→S)(f:α→β)(h: ∀(i:Nat) x (s:List β),L[i]? =some x→s.length≤1048576→B (i:Int) (mk s)=some (mk (s++[f x]))):iQ (L.length:Int) B D 0 (mk [])=some (D (mk (L.map f))):=by
 rw[fi hL mk (fun x=>[f x]) (fun _ _=>by simp) h]
 rw[List.map_eq_flatMap]
def rm(y:Int)(n:Name):List Name:=bif decide (n.Years.From<y)then[Name.mk n.Text n.Language n.Status (Span.mk n.Years.From (bL n.Years.To (y - 1)))]else[]
theorem pL(y:Int)(n:Name):(rm y n).length≤1:=by
 unfold rm
 cases decide (n.Years.From<y)<;>simp
def rn(y:Int)(p:Place):Place:=Place.mk p.Code p.Class (Span.mk p.Years.From (y - 1)) (p.Names.flatMap (rm y))
theorem qG{p:Place}(h:PlR p){y:Int}(hy:c6 y (-3000) 3000=true):dY p y=some (rn y p):=by
 have hl:=h.l
 rw[ey]at hy
 unfold dY
 rw[cM (n:=y - 1) (by omega) (by omega)]
 rw[fi (S:=ByteArray×Int×Int×Int×List Name) hl (fun s=>(p.Code,p.Class,p.Years.From,y - 1,s)) (rm y) (fun x _=>pL y x) (fun i x s hx hs=>by
  rw[bh,hx,Option.bind_some]
  unfold rm
  cases decide (x.Years.From<y)
  ·simp
  ·rw[cond_true,cond_true,c9 (by simp;omega),Option.bind_some])]
 rfl
theorem tL{p:Place}(h:PlR p)(hp:jx p=true){y:Int}(hy:c6 y (-3000) 3000=true)(hh:c6 (y - 1) p.Years.From p.Years.To=true):iJ p y=some (rn y p):=by
 have hl:=h.l
 rw[ey]at hy hh
 have hn: ∀n∈p.Names,n.Years.From≤n.Years.To:=fun n hn=>by
  unfold jx at hp
  simp only[Bool.and_eq_true]at hp
  have h1:=hp.2.2.2.1
  unfold gu at h1
  rw[Bool.and_eq_true,Bool.not_eq_true']at h1
  obtain⟨i,hi⟩:=List.mem_iff_getElem?.1 hn
  have h2:=nJ h1.1 i n hi
  unfold sH at h2
  rw[Bool.or_eq_false_iff,Bool.not_eq_false']at h2
  have h3:=h2.1
  unfold oD mj at h3
  simp only[Bool.and_eq_true,decide_eq_true_eq]at h3
  exact h3.2.2.2.2.2
 unfold iJ
 rw[cM (n:=y - 1) (by omega) (by omega)]
 rw[fi (S:=List Name) hl (fun s=>s) (rm y) (fun x _=>pL y x) (fun i x s hx hs=>by
  rw[bh,hx,Option.bind_some]
  unfold rm
  have h1:=hn x (List.mem_of_getElem? hx)
  by_cases h2:x.Years.From<y
  ·rw[decide_eq_true h2,decide_eq_true (show x.Years.From≤bL x.Years.To (y - 1) by unfold bL;split<;>omega),cond_true,cond_true,c9 (by simp;omega),Option.bind_some]
  ·rw[decide_eq_false h2,decide_eq_false (show ¬x.Years.From≤bL x.Years.To (y - 1) by unfold bL;split<;>omega),cond_false,cond_false,List.append_nil])]
 have hm:bL p.Years.To (y - 1)=y - 1:=by unfold bL;split<;>omega
 rw[hm]
 rfl
theorem xh{p:Place}(h:PlR p):dX p=some p:=by
 have hl:=h.l
 unfold dX c8
 rw[if_pos (by omega)]
 rfl
theorem sN{L:List Place}(hL:L.length≤1048576)(h: ∀x∈L,PlR x):dw L=some L:=by
 unfold dw
 rw[qS (S:=List Place) hL (fun s=>s) (fun x=>x) (fun i x s hx hs=>by
  rw[bh,hx,Option.bind_some,xh (h x (List.mem_of_getElem? hx)),Option.bind_some,c9 (by simp;omega)]
  rfl),List.map_id']
 rfl
theorem Ba{L:List Place}(hL:L.length≤1048576)(h: ∀x∈L,PlR x):iK L=some L:=by
 unfold iK
 rw[qS (S:=List Place) hL (fun s=>s) (fun x=>x) (fun i x s hx hs=>by
  have hl:=(h x (List.mem_of_getElem? hx)).l
  rw[bh,hx,Option.bind_some,c9 (by simp;omega),Option.bind_some,c9 (by simp;omega)]
  rfl),List.map_id']
 rfl
theorem xp{p:Place}(h:PlR p)(y:Int):PlR (rn y p):=by
 refine⟨h.c,?_,fun x hx=> ?_⟩
 ·have h1:(p.Names.flatMap (rm y)).length≤p.Names.length:=by
   induction p.Names with
   | nil=>simp
   | cons x l ih=>
    have:=pL y x
    rw[List.flatMap_cons,List.length_append,List.length_cons]
    omega
  exact Nat.le_trans h1 h.l
 ·obtain⟨n,hn,hx⟩:=List.mem_flatMap.1 hx
  have h1:=h.n n hn
  unfold rm at hx
  cases hd:decide (n.Years.From<y)
  ·rw[hd]at hx
   simp at hx
  ·rw[hd]at hx
   have:x=Name.mk n.Text n.Language n.Status (Span.mk n.Years.From (bL n.Years.To (y - 1))):=by simpa using hx
   rw[this]
   exact⟨h1.t,h1.l⟩
def sa(L:List Place)(c:ByteArray)(y:Int):Int:=bif jc L&&cq c then bif c6 y (-3000) 3000 then 0 else 2 else 1
def AD(L:List Place)(c:ByteArray)(y:Int):List Place×Int:=bif sa L c y==0 then(match L[(ci (bK c) L).toNat]? with
  | some p=>bif L.any (bK c)then bif c6 (y - 1) p.Years.From p.Years.To then(L.set (ci (bK c) L).toNat (rn y p),0)else([],5)else([],4)
  | none=>([],4))else([],sa L c y)
theorem wH{L:List Place}{c:ByteArray}{y:Int}(h:(sa L c y==0)=true):jc L=true∧c6 y (-3000) 3000=true:=by
 unfold sa at h
 cases h1:jc L&&cq c
 ·rw[h1]at h
  simp at h
 ·rw[Bool.and_eq_true]at h1
  refine⟨h1.1,?_⟩
  cases h2:c6 y (-3000) 3000
  ·rw[h1.1,h1.2,h2]at h
   simp at h
  ·rfl
theorem pc{L:List Place}(hL:L.length≤1048576)(h: ∀x∈L,PlR x){c:ByteArray}(hc:c.size≤1048576)(y:Int):ia L c y=some (bif sa L c y==0 then bif L.any (bK c)then 0 else 4 else sa L c y):=by
 unfold ia cK sa
 rw[qi hL h,eu _ (by unfold maxLen;omega),dJ,kz hL]
 simp only[Option.bind_some,xJ]
 cases jc L<;>cases cq c<;>cases c6 y (-3000) 3000<;>cases L.any (bK c)<;>rfl
theorem nr{L:List Place}(hL:L.length≤1048576)(h: ∀x∈L,PlR x){c:ByteArray}(hc:c.size≤1048576)(y:Int):eY L c y=some (AD L c y):=by
 unfold eY AD
 rw[pc hL h hc,Option.bind_some,kz hL]
 cases h0:(sa L c y==0)
 ·rw[cond_false,cond_false,bne,h0]
  rfl
 ·obtain⟨h1,h2⟩:=wH h0
  obtain⟨h3,h4,h5⟩:=ni.1 h1
  obtain⟨k,e1,e2,e3,e4,e5⟩:=pQ h5 h3 c
  rw[cond_true,cond_true]
  cases ha:L.any (bK c)
  ·rw[cond_false]
   cases L[(ci (bK c) L).toNat]? <;>rfl
  ·obtain⟨q1,q2⟩:=e5 ha
   have hp:L[k]? =some L[k]:=List.getElem?_eq_getElem q2
   generalize L[k]=p at hp
   have hr:=h p (List.mem_of_getElem? hp)
   have hpl:=h4 p (List.mem_of_getElem? hp)
   have hy:=ey.1 h2
   rw[cond_true,q1,Int.toNat_natCast,hp]
   have e0:((0:Int) !=0)=false:=rfl
   rw[e0,cond_false,Option.bind_some,bh,hp,Option.bind_some]
   unfold cL
   rw[dJ,cM (n:=y - 1) (by omega) (by omega),Option.bind_some,Option.bind_some]
   show _=some (bif c6 (y - 1) p.Years.From p.Years.To then(L.set k (rn y p),0)else([],5))
   cases hh:c6 (y - 1) p.Years.From p.Years.To
   ·rfl
   ·have hset: ∀x∈L.set k (rn y p),PlR x:=fun x hx=>by
     rcases List.mem_or_eq_of_mem_set hx with hx | rfl
     ·exact h x hx
     ·exact xp hr y
    simp only[Bool.not_true,cond_false,cond_true,c9 (show([]:List Place).length+L.length≤68719476736 by simp;omega),Option.bind_some,List.nil_append,bh,hp,tL hr hpl h2 hh,Int.toNat_natCast,Ba (show(L.set k (rn y p)).length≤1048576 by simpa using hL) hset]
end Go.Proofs.YtdejeagdkfokfaaGreatDoor.Sh
