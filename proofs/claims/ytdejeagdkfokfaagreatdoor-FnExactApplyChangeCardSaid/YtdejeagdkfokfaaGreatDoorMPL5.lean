/- Places: EndPlace of both; bounds on lengths alone. -/
import Derived.Test.YtdejeagdkfokfaaGreatDoorMPL4
namespace Go.Proofs.YtdejeagdkfokfaaGreatDoor.Sh
open Go.RowKit Go.Lib
theorem fH{α β S A:Type}{L:List α}(hL:L.length≤1048576){B:Int→S→Option S}{D:S→A}(mk:List β→S)(f:α→List β)(hf: ∀x∈L,(f x).length≤1)(h: ∀(i:Nat) x (s:List β),L[i]? =some x→s.length≤1048576→B (i:Int) (mk s)=some (mk (s++f x))):jx (L.length:Int) B D 0 (mk [])=some (D (mk (L.flatMap f))):=by
 have key: ∀(M:List α) (k:Nat) (s:List β),L.drop k=M→k+M.length=L.length→s.length≤k→gU (fun i s=>(B (i:Int) s).map .inl) D M.length k (mk s)=some (D (mk (s++M.flatMap f))):=by
  intro M
  induction M with
  | nil=>intro k s _ _ _;simp[gU]
  | cons x M ih=>
   intro k s hd hk hs
   have hx:L[k]? =some x:=by
    have:=List.getElem?_drop (xs:=L) (i:=k) (j:=0)
    rw[hd]at this
    simpa using this.symm
   have hlt:=(List.getElem?_eq_some_iff.1 hx).1
   rw[List.length_cons]
   unfold gU
   rw[h k x s hx (by omega)]
   show gU _ D M.length (k+1) (mk (s++f x))=_
   have hfx:=hf x (List.mem_of_getElem? hx)
   rw[ih (k+1) _ (by rw[←List.drop_drop,hd];rfl) (by simp at hk;omega) (by rw[List.length_append];omega),List.flatMap_cons,List.append_assoc]
 rw[mn,kW _ (by omega)]
 exact key L 0 [] rfl (by simp) (by simp)
theorem rZ{α β S A:Type}{L:List α}(hL:L.length≤1048576){B:Int→S→Option S}{D:S→A}(mk:List β→S)(f:α→β)(h: ∀(i:Nat) x (s:List β),L[i]? =some x→s.length≤1048576→B (i:Int) (mk s)=some (mk (s++[f x]))):jx (L.length:Int) B D 0 (mk [])=some (D (mk (L.map f))):=by
 rw[fH hL mk (fun x=>[f x]) (fun _ _=>by simp) h]
 rw[List.map_eq_flatMap]
def sG(y:Int)(n:Name):List Name:=bif decide (n.Years.From<y)then[Name.mk n.Text n.Language n.Status (Span.mk n.Years.From (cw n.Years.To (y - 1)))]else[]
theorem qw(y:Int)(n:Name):(sG y n).length≤1:=by
 unfold sG
 cases decide (n.Years.From<y)<;>simp
def sH(y:Int)(p:Place):Place:=Place.mk p.Code p.Class (Span.mk p.Years.From (y - 1)) (p.Names.flatMap (sG y))
theorem rJ{p:Place}(h:PlR p){y:Int}(hy:dy y (-3000) 3000=true):ew p y=some (sH y p):=by
 have hl:=h.l
 rw[eX]at hy
 unfold ew
 rw[bp (n:=y - 1) (by omega) (by omega)]
 rw[fH (S:=ByteArray×Int×Int×Int×List Name) hl (fun s=>(p.Code,p.Class,p.Years.From,y - 1,s)) (sG y) (fun x _=>qw y x) (fun i x s hx hs=>by
  rw[bg,hx,Option.bind_some]
  unfold sG
  cases decide (x.Years.From<y)
  ·simp
  ·rw[cond_true,cond_true,da (by simp;omega),Option.bind_some])]
 rfl
theorem vn{p:Place}(h:PlR p)(hp:kl p=true){y:Int}(hy:dy y (-3000) 3000=true)(hh:dy (y - 1) p.Years.From p.Years.To=true):jq p y=some (sH y p):=by
 have hl:=h.l
 rw[eX]at hy hh
 have hn: ∀n∈p.Names,n.Years.From≤n.Years.To:=fun n hn=>by
  unfold kl at hp
  simp only[Bool.and_eq_true]at hp
  have h1:=hp.2.2.2.1
  unfold gQ at h1
  rw[Bool.and_eq_true,Bool.not_eq_true']at h1
  obtain⟨i,hi⟩:=List.mem_iff_getElem?.1 hn
  have h2:=ow h1.1 i n hi
  unfold uo at h2
  rw[Bool.or_eq_false_iff,Bool.not_eq_false']at h2
  have h3:=h2.1
  unfold pk mU at h3
  simp only[Bool.and_eq_true,decide_eq_true_eq]at h3
  exact h3.2.2.2.2.2
 unfold jq
 rw[bp (n:=y - 1) (by omega) (by omega)]
 rw[fH (S:=List Name) hl (fun s=>s) (sG y) (fun x _=>qw y x) (fun i x s hx hs=>by
  rw[bg,hx,Option.bind_some]
  unfold sG
  have h1:=hn x (List.mem_of_getElem? hx)
  by_cases h2:x.Years.From<y
  ·rw[decide_eq_true h2,decide_eq_true (show x.Years.From≤cw x.Years.To (y - 1) by unfold cw;split<;>omega),cond_true,cond_true,da (by simp;omega),Option.bind_some]
  ·rw[decide_eq_false h2,decide_eq_false (show ¬x.Years.From≤cw x.Years.To (y - 1) by unfold cw;split<;>omega),cond_false,cond_false,List.append_nil])]
 have hm:cw p.Years.To (y - 1)=y - 1:=by unfold cw;split<;>omega
 rw[hm]
 rfl
theorem yO{p:Place}(h:PlR p):eu p=some p:=by
 have hl:=h.l
 unfold eu dg
 rw[if_pos (by omega)]
 rfl
theorem uz{L:List Place}(hL:L.length≤1048576)(h: ∀x∈L,PlR x):dM L=some L:=by
 unfold dM
 rw[rZ (S:=List Place) hL (fun s=>s) (fun x=>x) (fun i x s hx hs=>by
  rw[bg,hx,Option.bind_some,yO (h x (List.mem_of_getElem? hx)),Option.bind_some,da (by simp;omega)]
  rfl),List.map_id']
 rfl
theorem zz{L:List Place}(hL:L.length≤1048576)(h: ∀x∈L,PlR x):hU L=some L:=by
 unfold hU
 rw[rZ (S:=List Place) hL (fun s=>s) (fun x=>x) (fun i x s hx hs=>by
  have hl:=(h x (List.mem_of_getElem? hx)).l
  rw[bg,hx,Option.bind_some,da (by simp;omega),Option.bind_some,da (by simp;omega)]
  rfl),List.map_id']
 rfl
theorem yX{p:Place}(h:PlR p)(y:Int):PlR (sH y p):=by
 refine⟨h.c,?_,fun x hx=> ?_⟩
 ·have h1:(p.Names.flatMap (sG y)).length≤p.Names.length:=by
   induction p.Names with
   | nil=>simp
   | cons x l ih=>
    have:=qw y x
    rw[List.flatMap_cons,List.length_append,List.length_cons]
    omega
  exact Nat.le_trans h1 h.l
 ·obtain⟨n,hn,hx⟩:=List.mem_flatMap.1 hx
  have h1:=h.n n hn
  unfold sG at hx
  cases hd:decide (n.Years.From<y)
  ·rw[hd]at hx
   simp at hx
  ·rw[hd]at hx
   have:x=Name.mk n.Text n.Language n.Status (Span.mk n.Years.From (cw n.Years.To (y - 1))):=by simpa using hx
   rw[this]
   exact⟨h1.t,h1.l⟩
def tK(L:List Place)(c:ByteArray)(y:Int):Int:=bif jP L&&cz c then bif dy y (-3000) 3000 then 0 else 2 else 1
def B9(L:List Place)(c:ByteArray)(y:Int):List Place×Int:=bif tK L c y==0 then(match L[(cr (bN c) L).toNat]? with
  | some p=>bif L.any (bN c)then bif dy (y - 1) p.Years.From p.Years.To then(L.set (cr (bN c) L).toNat (sH y p),0)else([],5)else([],4)
  | none=>([],4))else([],tK L c y)
theorem yf{L:List Place}{c:ByteArray}{y:Int}(h:(tK L c y==0)=true):jP L=true∧dy y (-3000) 3000=true:=by
 unfold tK at h
 cases h1:jP L&&cz c
 ·rw[h1]at h
  simp at h
 ·rw[Bool.and_eq_true]at h1
  refine⟨h1.1,?_⟩
  cases h2:dy y (-3000) 3000
  ·rw[h1.1,h1.2,h2]at h
   simp at h
  ·rfl
theorem pX{L:List Place}(hL:L.length≤1048576)(h: ∀x∈L,PlR x){c:ByteArray}(hc:c.size≤1048576)(y:Int):iK L c y=some (bif tK L c y==0 then bif L.any (bN c)then 0 else 4 else tK L c y):=by
 unfold iK cU tK
 rw[ra hL h,eU _ (by unfold maxLen;omega),dY,lq hL]
 simp only[Option.bind_some,zl]
 cases jP L<;>cases cz c<;>cases dy y (-3000) 3000<;>cases L.any (bN c)<;>rfl
theorem n8{L:List Place}(hL:L.length≤1048576)(h: ∀x∈L,PlR x){c:ByteArray}(hc:c.size≤1048576)(y:Int):fy L c y=some (B9 L c y):=by
 unfold fy B9
 rw[pX hL h hc,Option.bind_some,lq hL]
 cases h0:(tK L c y==0)
 ·rw[cond_false,cond_false,bne,h0]
  rfl
 ·obtain⟨h1,h2⟩:=yf h0
  obtain⟨h3,h4,h5⟩:=nZ.1 h1
  obtain⟨k,e1,e2,e3,e4,e5⟩:=qB h5 h3 c
  rw[cond_true,cond_true]
  cases ha:L.any (bN c)
  ·rw[cond_false]
   cases L[(cr (bN c) L).toNat]? <;>rfl
  ·obtain⟨q1,q2⟩:=e5 ha
   have hp:L[k]? =some L[k]:=List.getElem?_eq_getElem q2
   generalize L[k]=p at hp
   have hr:=h p (List.mem_of_getElem? hp)
   have hpl:=h4 p (List.mem_of_getElem? hp)
   have hy:=eX.1 h2
   rw[cond_true,q1,Int.toNat_natCast,hp]
   have e0:((0:Int) !=0)=false:=rfl
   rw[e0,cond_false,Option.bind_some,bg,hp,Option.bind_some]
   unfold cV
   rw[dY,bp (n:=y - 1) (by omega) (by omega),Option.bind_some,Option.bind_some]
   show _=some (bif dy (y - 1) p.Years.From p.Years.To then(L.set k (sH y p),0)else([],5))
   cases hh:dy (y - 1) p.Years.From p.Years.To
   ·rfl
   ·have hset: ∀x∈L.set k (sH y p),PlR x:=fun x hx=>by
     rcases List.mem_or_eq_of_mem_set hx with hx | rfl
     ·exact h x hx
     ·exact yX hr y
    simp only[Bool.not_true,cond_false,cond_true,da (show([]:List Place).length+L.length≤68719476736 by simp;omega),Option.bind_some,List.nil_append,bg,hp,vn hr hpl h2 hh,Int.toNat_natCast,zz (show(L.set k (sH y p)).length≤1048576 by simpa using hL) hset]
end Go.Proofs.YtdejeagdkfokfaaGreatDoor.Sh
