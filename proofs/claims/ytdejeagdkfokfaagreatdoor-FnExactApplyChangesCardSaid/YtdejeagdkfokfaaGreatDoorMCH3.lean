/- Links: ChildrenIn of both, the end of links; bounds on lengths alone. -/
import Derived.Test.YtdejeagdkfokfaaGreatDoorMCH2
namespace Go.Proofs.YtdejeagdkfokfaaGreatDoor.Sh
open Go.RowKit Go.Lib
noncomputable def mb(L:List ax)(c:ByteArray)(y:Int):Int:=bif fa L&&cG c then bif dD y (-3000) 3000 then 0 else 2 else 1
theorem wV{L:List ax}(hL:L.length≤1048576)(h: ∀x∈L,LkR x){c:ByteArray}(hc:c.size≤1048576)(y:Int):gM L y [c]=some (mb L c y):=by
 unfold gM mb
 rw[kR hL h,Option.bind_some,jg _ (by simp) (fun x hx=>by
  obtain rfl:=List.mem_singleton.1 hx
  simp only[maxLen];omega)]
 unfold ea
 simp only[Option.bind_some,dd,List.all_cons,List.all_nil,Bool.and_true]
 cases fa L<;>cases cG c<;>cases dD y (-3000) 3000<;>rfl
theorem xa{L:List ax}(hL:L.length≤1048576)(h: ∀x∈L,LkR x){c:ByteArray}(hc:c.size≤1048576)(y:Int):iX L c y=some (mb L c y):=by
 unfold iX mb
 rw[kW hL h,Option.bind_some,eX _ (by simp only[maxLen];omega)]
 unfold cY
 simp only[Option.bind_some,eb]
 cases fa L<;>cases cG c<;>cases dD y (-3000) 3000<;>rfl
def vw(L:List ax)(c:ByteArray)(y:Int)(l:ax):Bool:=dD y l.Years.From l.Years.To&&((qm (par L l.Child y)).1.toList==c.toList)
noncomputable def kids(L:List ax)(c:ByteArray)(y:Int):List ByteArray:=hG ((L.filter (vw L c y)).map ax.Child)
theorem mh{α β:Type}(p:α→Bool)(f:α→β): ∀L:List α,(L.flatMap fun x=>bif p x then[f x]else[])=(L.filter p).map f
 | []=>rfl
 | x::L=>by
  rw[List.flatMap_cons,mh p f L,List.filter_cons]
  cases p x<;>rfl
theorem qA{α:Type}(b:Bool)(x:α):(bif b then[x]else[]).length≤1:=by cases b<;>simp
theorem yA{L:List ax}(hL:L.length≤1048576)(c:ByteArray)(y:Int):bO L y L y c=some (kids L c y):=by
 unfold bO fL bN
 rw[fQ hL (fun s=>s) (fun l=>bif vw L c y l then[l.Child]else[]) (fun x _=>qA _ _) (fun i x s hx hs=>by
  simp only[bk,hx,Option.bind_some,dd,mq (show L.length≤1048577 by omega)]
  unfold vw
  rw[dj (by simp;omega)]
  cases dD y x.Years.From x.Years.To<;>cases (qm (par L x.Child y)).1.toList==c.toList<;>simp)]
 rw[mh,Option.bind_some]
 unfold jv kids
 rw[if_pos (by
  rw[List.length_map]
  have:=List.length_filter_le (vw L c y) L
  omega)]
 rfl
noncomputable def places(L:List ax):List ByteArray:=L.foldl (fun s l=>lg (lg s l.Child) l.Parent) []
theorem Af: ∀(L:List ax) (A:List ByteArray),A.Pairwise (fun a b=>gH a b=true)→(L.foldl (fun s l=>lg (lg s l.Child) l.Parent) A).Pairwise (fun a b=>gH a b=true)∧ ∀z,z∈L.foldl (fun s l=>lg (lg s l.Child) l.Parent) A↔z∈A∨ ∃l∈L,z=l.Child∨z=l.Parent
 | [],A,h=>⟨h,fun z=>by simp⟩
 | l::L,A,h=>by
  obtain⟨h1,h2⟩:=Af L (lg (lg A l.Child) l.Parent) (jw (jw h))
  refine⟨h1,fun z=> ?_⟩
  rw[List.foldl_cons,h2,vv,vv]
  constructor
  ·rintro((rfl | rfl | h) | ⟨m,hm,h⟩)
   ·exact .inr ⟨l,List.mem_cons_self,.inr rfl⟩
   ·exact .inr ⟨l,List.mem_cons_self,.inl rfl⟩
   ·exact .inl h
   ·exact .inr ⟨m,List.mem_cons_of_mem _ hm,h⟩
  ·rintro(h | ⟨m,hm,h⟩)
   ·exact .inl (.inr (.inr h))
   ·rcases List.mem_cons.1 hm with rfl | hm
    ·rcases h with rfl | rfl
     ·exact .inl (.inr (.inl rfl))
     ·exact .inl (.inl rfl)
    ·exact .inr ⟨m,hm,h⟩
theorem lE{α S A:Type}{L:List α}(hL:L.length≤9223372036854775807){B:Int→S→Option S}{D:S→A}(I:Nat→S→Prop)(g:S→α→S){s:S}(h: ∀(i:Nat) x s,L[i]? =some x→I i s→B (i:Int) s=some (g s x)∧I (i+1) (g s x))(h2:I 0 s):jq (L.length:Int) B D 0 s=some (D (L.foldl g s))∧I L.length (L.foldl g s):=by
 have key: ∀(M:List α) (k:Nat) (s:S),(∀j x s,M[j]? =some x→I (k+j) s→B ((k+j:Nat):Int) s=some (g s x)∧I (k+j+1) (g s x))→I k s→ij (fun i s=>(B (i:Int) s).map .inl) D M.length k s=some (D (M.foldl g s))∧I (k+M.length) (M.foldl g s):=by
  intro M
  induction M with
  | nil=>exact fun k s _ h=>⟨rfl,h⟩
  | cons x l ih=>
   intro k s h h2
   have h3:=h 0 x s rfl h2
   rw[Nat.add_zero]at h3
   show((B (k:Int) s).map .inl).bind (Sum.elim (ij (fun i s=>(B (i:Int) s).map .inl) D l.length (k+1)) some)=_∧_
   rw[h3.1]
   have:=ih (k+1) _ (fun j y s hy h5=>by
    have:=h (j+1) y s (by simpa using hy) (by rw[show k+(j+1)=k+1+j by omega];exact h5)
    rw[show k+1+j=k+(j+1)from by omega]
    exact this) h3.2
   rw[List.length_cons,show k+(l.length+1)=k+1+l.length by omega]
   exact this
 rw[mH,k7 _ hL]
 have:=key L 0 s (fun j x s hx hI=>by
  rw[Nat.zero_add]at hI⊢
  exact h j x s hx hI) h2
 rw[Nat.zero_add]at this
 exact this
theorem vW{L:List ax}(hL:L.length≤20):gh L=some (places L)∧(places L).length≤2*L.length:=by
 unfold gh
 obtain⟨h1,h2⟩:=lE (L:=L) (by omega) (B:=fun(i3:Int) (s3:(List ByteArray))=>((at' L i3).bind fun x7=>((dm s3 x7.Child).bind fun x8=>((at' L i3).bind fun x9=>((dm x8 x9.Parent).bind fun x10=>some x10))))) (D:=fun s=>s) (fun i (s:List ByteArray)=>s.Pairwise (fun a b=>gH a b=true)∧s.length≤2*i) (fun s l=>lg (lg s l.Child) l.Parent) (s:=[]) (fun i l s hl hs=>by
  have hi:=(List.getElem?_eq_some_iff.1 hl).1
  have e1:=vu s l.Child
  have e2:=vu (lg s l.Child) l.Parent
  simp only[bk,hl,Option.bind_some,tf (show s.length≤1000000 by omega) hs.1,tf (show(lg s l.Child).length≤1000000 by omega) (jw hs.1)]
  refine⟨?_,jw (jw hs.1),by omega⟩
  first | trivial | rfl) ⟨List.Pairwise.nil,by simp⟩
 rw[h1]
 exact⟨rfl,h2.2⟩
theorem AN{c:ByteArray}(h:cG c=true):c≠ByteArray.mk #[]:=fun e=>by
 have:=(jh h).1
 rw[e]at this
 simp[ByteArray.size]at this
theorem yK{L:List ax}{z c:ByteArray}{y:Int}(hc:cG c=true)(h:((qm (par L z y)).1.toList==c.toList)=true): ∃l∈L,qe z y l=true:=by
 cases hp:par L z y with
 | none=>
  rw[hp]at h
  exact absurd (nV.1 h).symm (AN hc)
 | some v=>
  unfold par at hp
  rw[Option.map_eq_some_iff]at hp
  obtain⟨l,h1,_⟩:=hp
  exact⟨l,List.mem_of_find?_eq_some h1,List.find?_some h1⟩
theorem yD{L:List ax}{c:ByteArray}(hc:cG c=true)(y:Int):((places L).flatMap fun z=>bif(qm (par L z y)).1.toList==c.toList then[z]else[])=kids L c y:=by
 obtain⟨h1,h2⟩:=Af L [] List.Pairwise.nil
 have h1:(places L).Pairwise (fun a b=>gH a b=true):=h1
 rw[mh (fun z=>(qm (par L z y)).1.toList==c.toList) (fun z=>z),List.map_id']
 refine xq (h1.sublist List.filter_sublist) (rO _) fun z=> ?_
 unfold kids
 rw[List.mem_filter,pT,List.mem_map]
 constructor
 ·rintro⟨_,h⟩
  obtain⟨l,hl,h3⟩:=yK hc h
  unfold qe at h3
  rw[Bool.and_eq_true]at h3
  have h4:=nV.1 h3.1
  refine⟨l,List.mem_filter.2 ⟨hl,?_⟩,h4⟩
  unfold vw
  rw[h3.2,h4,h]
  rfl
 ·rintro⟨l,hl,rfl⟩
  obtain⟨hl,h3⟩:=List.mem_filter.1 hl
  unfold vw at h3
  rw[Bool.and_eq_true]at h3
  exact⟨(h2 _).2 (.inr ⟨l,hl,.inl rfl⟩),h3.2⟩
noncomputable def nh(L:List ax)(c:ByteArray)(y:Int):List ByteArray×Int:=bif mb L c y==0 then(kids L c y,0)else([],mb L c y)
theorem wJ{L:List ax}{c:ByteArray}{y:Int}(h:(mb L c y==0)=true):fa L=true∧cG c=true∧dD y (-3000) 3000=true:=by
 unfold mb at h
 cases h1:fa L&&cG c
 ·rw[h1]at h
  simp at h
 ·rw[Bool.and_eq_true]at h1
  refine⟨h1.1,h1.2,?_⟩
  cases h2:dD y (-3000) 3000
  ·rw[h1.1,h1.2,h2]at h
   simp at h
  ·rfl
theorem ry{L:List ax}(h:fa L=true):okL L=true∧L.length≤20∧o0 L=false:=by
 unfold fa at h
 simp only[Bool.and_eq_true,decide_eq_true_eq,Bool.not_eq_true']at h
 exact⟨h.1,h.2.1,h.2.2⟩
theorem sw{L:List ax}(hL:L.length≤1048576)(h: ∀x∈L,LkR x){c:ByteArray}(hc:c.size≤1048576)(y:Int):fg L c y=some (nh L c y):=by
 unfold fg nh
 rw[wV hL h hc,Option.bind_some,yA hL]
 cases hz:mb L c y==0
 ·simp only[bne,hz,Bool.not_false,cond_true,cond_false]
 ·simp only[bne,hz,Bool.not_true,cond_true,cond_false,Option.bind_some]
theorem sH{L:List ax}(hL:L.length≤1048576)(h: ∀x∈L,LkR x){c:ByteArray}(hc:c.size≤1048576)(y:Int):fx L c y=some (nh L c y):=by
 unfold fx nh
 rw[xa hL h hc,Option.bind_some]
 cases hz:mb L c y==0
 ·simp only[bne,hz,Bool.not_false,cond_true,cond_false]
 ·obtain⟨h1,h2,_⟩:=wJ hz
  obtain⟨_,h3,_⟩:=ry h1
  obtain⟨h4,h5⟩:=vW h3
  simp only[bne,hz,Bool.not_true,cond_false,cond_true,h4,Option.bind_some]
  rw[fQ (L:=places L) (by omega) (fun s=>s) (fun z=>bif(qm (par L z y)).1.toList==c.toList then[z]else[]) (fun x _=>qA _ _) (fun i x s hx hs=>by
   simp only[bk,hx,Option.bind_some,rR (show L.length≤1048577 by omega)]
   rw[dj (by simp;omega)]
   cases (qm (par L x y)).1.toList==c.toList<;>simp),yD h2]
  rfl
def pW(c:ByteArray)(y:Int)(l:ax):List ax:=bif(l.Child.toList==c.toList) || (l.Parent.toList==c.toList)then(bif decide (l.Years.From≤cE l.Years.To (y - 1))then[ax.mk l.Child l.Parent (Span.mk l.Years.From (cE l.Years.To (y - 1)))]else[])else bif decide (l.Years.From≤l.Years.To)then[l]else[]
theorem qY(c:ByteArray)(y:Int)(l:ax):(pW c y l).length≤1:=by
 unfold pW
 cases (l.Child.toList==c.toList) || (l.Parent.toList==c.toList)<;>exact qA _ _
theorem vk{c:ByteArray}{y:Int}(hy:dD y (-3000) 3000=true){s:List ax}(hs:s.length≤1048576)(x:ax):((((bif((x.Child.toList==c.toList) || (x.Parent.toList==c.toList))then some (ax.mk x.Child x.Parent (Span.mk x.Years.From (cE x.Years.To (aO (y - 1)))))else some x)).bind fun(j8:ax)=>(bif(decide (j8.Years.From≤j8.Years.To))then((eg s ([j8]:List ax)).bind fun x10=>some x10)else some s)))=some (s++pW c y x):=by
 have h1:=e8.1 hy
 rw[bq (by omega) (by omega)]
 unfold pW
 cases (x.Child.toList==c.toList) || (x.Parent.toList==c.toList)
 ·simp only[cond_false,Option.bind_some]
  rw[dj (by simp;omega)]
  cases decide (x.Years.From≤x.Years.To)<;>simp
 ·simp only[cond_true,Option.bind_some]
  rw[dj (by simp;omega)]
  cases decide (x.Years.From≤cE x.Years.To (y - 1))<;>simp
theorem yz{L:List ax}(hL:L.length≤1048576)(c:ByteArray){y:Int}(hy:dD y (-3000) 3000=true):gL L c y=some (L.flatMap (pW c y)):=by
 unfold gL
 rw[fQ hL (fun s=>s) (pW c y) (fun x _=>qY c y x) (fun i x s hx hs=>by
  rw[bk,hx,Option.bind_some]
  exact vk hy hs x)]
 rfl
theorem yR{L:List ax}(hL:L.length≤1048576)(c:ByteArray){y:Int}(hy:dD y (-3000) 3000=true):iv L c y=some (L.flatMap (pW c y)):=by
 unfold iv
 rw[fQ hL (fun s=>s) (pW c y) (fun x _=>qY c y x) (fun i x s hx hs=>by
  rw[bk,hx,Option.bind_some]
  exact vk hy hs x)]
 rfl
end Go.Proofs.YtdejeagdkfokfaaGreatDoor.Sh
