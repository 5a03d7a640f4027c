/- Links: ChildrenIn of both, the end of links; bounds on lengths alone. -/
import Derived.Test.YtdejeagdkfokfaaGreatDoorMCH2
namespace Go.Proofs.YtdejeagdkfokfaaGreatDoor.Sh
open Go.RowKit Go.Lib
noncomputable def lT(L:List aw)(c:ByteArray)(y:Int):Int:=bif eY L&&cz c then bif dy y (-3000) 3000 then 0 else 2 else 1
theorem wh{L:List aw}(hL:L.length≤1048576)(h: ∀x∈L,LkR x){c:ByteArray}(hc:c.size≤1048576)(y:Int):gz L y [c]=some (lT L c y):=by
 unfold gz lT
 rw[kM hL h,Option.bind_some,iY _ (by simp) (fun x hx=>by
  obtain rfl:=List.mem_singleton.1 hx
  simp only[maxLen];omega)]
 unfold dX
 simp only[Option.bind_some,c7,List.all_cons,List.all_nil,Bool.and_true]
 cases eY L<;>cases cz c<;>cases dy y (-3000) 3000<;>rfl
theorem wA{L:List aw}(hL:L.length≤1048576)(h: ∀x∈L,LkR x){c:ByteArray}(hc:c.size≤1048576)(y:Int):iL L c y=some (lT L c y):=by
 unfold iL lT
 rw[kQ hL h,Option.bind_some,eU _ (by simp only[maxLen];omega)]
 unfold cU
 simp only[Option.bind_some,dY]
 cases eY L<;>cases cz c<;>cases dy y (-3000) 3000<;>rfl
def uO(L:List aw)(c:ByteArray)(y:Int)(l:aw):Bool:=dy y l.Years.From l.Years.To&&((pS (par L l.Child y)).1.toList==c.toList)
noncomputable def kids(L:List aw)(c:ByteArray)(y:Int):List ByteArray:=gO ((L.filter (uO L c y)).map aw.Child)
theorem lX{α β:Type}(p:α→Bool)(f:α→β): ∀L:List α,(L.flatMap fun x=>bif p x then[f x]else[])=(L.filter p).map f
 | []=>rfl
 | x::L=>by
  rw[List.flatMap_cons,lX p f L,List.filter_cons]
  cases p x<;>rfl
theorem p6{α:Type}(b:Bool)(x:α):(bif b then[x]else[]).length≤1:=by cases b<;>simp
theorem xR{L:List aw}(hL:L.length≤1048576)(c:ByteArray)(y:Int):bI L y L y c=some (kids L c y):=by
 unfold bI fD bH
 rw[fH hL (fun s=>s) (fun l=>bif uO L c y l then[l.Child]else[]) (fun x _=>p6 _ _) (fun i x s hx hs=>by
  simp only[bg,hx,Option.bind_some,c7,l5 (show L.length≤1048577 by omega)]
  unfold uO
  rw[da (by simp;omega)]
  cases dy y x.Years.From x.Years.To<;>cases (pS (par L x.Child y)).1.toList==c.toList<;>simp)]
 rw[lX,Option.bind_some]
 unfold jl kids
 rw[if_pos (by
  rw[List.length_map]
  have:=List.length_filter_le (uO L c y) L
  omega)]
 rfl
noncomputable def places(L:List aw):List ByteArray:=L.foldl (fun s l=>k9 (k9 s l.Child) l.Parent) []
theorem zB: ∀(L:List aw) (A:List ByteArray),A.Pairwise (fun a b=>gu a b=true)→(L.foldl (fun s l=>k9 (k9 s l.Child) l.Parent) A).Pairwise (fun a b=>gu a b=true)∧ ∀z,z∈L.foldl (fun s l=>k9 (k9 s l.Child) l.Parent) A↔z∈A∨ ∃l∈L,z=l.Child∨z=l.Parent
 | [],A,h=>⟨h,fun z=>by simp⟩
 | l::L,A,h=>by
  obtain⟨h1,h2⟩:=zB L (k9 (k9 A l.Child) l.Parent) (jm (jm h))
  refine⟨h1,fun z=> ?_⟩
  rw[List.foldl_cons,h2,uN,uN]
  constructor
  ·rintro((rfl | rfl | h) | ⟨m,hm,h⟩)
   ·exact .inr ⟨l,List.mem_cons_self,.inr rfl⟩
   ·exact .inr ⟨l,List.mem_cons_self,.inl rfl⟩
   ·exact .inl h
   ·exact .inr ⟨m,List.mem_cons_of_mem _ hm,h⟩
  ·rintro(h | ⟨m,hm,h⟩)
   ·exact .inl (.inr (.inr h))
   ·rcases List.mem_cons.1 hm with rfl | hm
    ·rcases h with rfl | rfl
     ·exact .inl (.inr (.inl rfl))
     ·exact .inl (.inl rfl)
    ·exact .inr ⟨m,hm,h⟩
theorem lr{α S A:Type}{L:List α}(hL:L.length≤9223372036854775807){B:Int→S→Option S}{D:S→A}(I:Nat→S→Prop)(g:S→α→S){s:S}(h: ∀(i:Nat) x s,L[i]? =some x→I i s→B (i:Int) s=some (g s x)∧I (i+1) (g s x))(h2:I 0 s):jx (L.length:Int) B D 0 s=some (D (L.foldl g s))∧I L.length (L.foldl g s):=by
 have key: ∀(M:List α) (k:Nat) (s:S),(∀j x s,M[j]? =some x→I (k+j) s→B ((k+j:Nat):Int) s=some (g s x)∧I (k+j+1) (g s x))→I k s→gU (fun i s=>(B (i:Int) s).map .inl) D M.length k s=some (D (M.foldl g s))∧I (k+M.length) (M.foldl g s):=by
  intro M
  induction M with
  | nil=>exact fun k s _ h=>⟨rfl,h⟩
  | cons x l ih=>
   intro k s h h2
   have h3:=h 0 x s rfl h2
   rw[Nat.add_zero]at h3
   show((B (k:Int) s).map .inl).bind (Sum.elim (gU (fun i s=>(B (i:Int) s).map .inl) D l.length (k+1)) some)=_∧_
   rw[h3.1]
   have:=ih (k+1) _ (fun j y s hy h5=>by
    have:=h (j+1) y s (by simpa using hy) (by rw[show k+(j+1)=k+1+j by omega];exact h5)
    rw[show k+1+j=k+(j+1)from by omega]
    exact this) h3.2
   rw[List.length_cons,show k+(l.length+1)=k+1+l.length by omega]
   exact this
 rw[mn,kW _ hL]
 have:=key L 0 s (fun j x s hx hI=>by
  rw[Nat.zero_add]at hI⊢
  exact h j x s hx hI) h2
 rw[Nat.zero_add]at this
 exact this
theorem vo{L:List aw}(hL:L.length≤20):fT L=some (places L)∧(places L).length≤2*L.length:=by
 unfold fT
 obtain⟨h1,h2⟩:=lr (L:=L) (by omega) (B:=fun(i3:Int) (s3:(List ByteArray))=>((at' L i3).bind fun x7=>((db s3 x7.Child).bind fun x8=>((at' L i3).bind fun x9=>((db x8 x9.Parent).bind fun x10=>some x10))))) (D:=fun s=>s) (fun i (s:List ByteArray)=>s.Pairwise (fun a b=>gu a b=true)∧s.length≤2*i) (fun s l=>k9 (k9 s l.Child) l.Parent) (s:=[]) (fun i l s hl hs=>by
  have hi:=(List.getElem?_eq_some_iff.1 hl).1
  have e1:=uM s l.Child
  have e2:=uM (k9 s l.Child) l.Parent
  simp only[bg,hl,Option.bind_some,su (show s.length≤1000000 by omega) hs.1,su (show(k9 s l.Child).length≤1000000 by omega) (jm hs.1)]
  refine⟨?_,jm (jm hs.1),by omega⟩
  first | trivial | rfl) ⟨List.Pairwise.nil,by simp⟩
 rw[h1]
 exact⟨rfl,h2.2⟩
theorem Ab{c:ByteArray}(h:cz c=true):c≠ByteArray.mk #[]:=fun e=>by
 have:=(iZ h).1
 rw[e]at this
 simp[ByteArray.size]at this
theorem yb{L:List aw}{z c:ByteArray}{y:Int}(hc:cz c=true)(h:((pS (par L z y)).1.toList==c.toList)=true): ∃l∈L,pK z y l=true:=by
 cases hp:par L z y with
 | none=>
  rw[hp]at h
  exact absurd (nu.1 h).symm (Ab hc)
 | some v=>
  unfold par at hp
  rw[Option.map_eq_some_iff]at hp
  obtain⟨l,h1,_⟩:=hp
  exact⟨l,List.mem_of_find?_eq_some h1,List.find?_some h1⟩
theorem xU{L:List aw}{c:ByteArray}(hc:cz c=true)(y:Int):((places L).flatMap fun z=>bif(pS (par L z y)).1.toList==c.toList then[z]else[])=kids L c y:=by
 obtain⟨h1,h2⟩:=zB L [] List.Pairwise.nil
 have h1:(places L).Pairwise (fun a b=>gu a b=true):=h1
 rw[lX (fun z=>(pS (par L z y)).1.toList==c.toList) (fun z=>z),List.map_id']
 refine wP (h1.sublist List.filter_sublist) (q9 _) fun z=> ?_
 unfold kids
 rw[List.mem_filter,pq,List.mem_map]
 constructor
 ·rintro⟨_,h⟩
  obtain⟨l,hl,h3⟩:=yb hc h
  unfold pK at h3
  rw[Bool.and_eq_true]at h3
  have h4:=nu.1 h3.1
  refine⟨l,List.mem_filter.2 ⟨hl,?_⟩,h4⟩
  unfold uO
  rw[h3.2,h4,h]
  rfl
 ·rintro⟨l,hl,rfl⟩
  obtain⟨hl,h3⟩:=List.mem_filter.1 hl
  unfold uO at h3
  rw[Bool.and_eq_true]at h3
  exact⟨(h2 _).2 (.inr ⟨l,hl,.inl rfl⟩),h3.2⟩
noncomputable def mR(L:List aw)(c:ByteArray)(y:Int):List ByteArray×Int:=bif lT L c y==0 then(kids L c y,0)else([],lT L c y)
theorem vR{L:List aw}{c:ByteArray}{y:Int}(h:(lT L c y==0)=true):eY L=true∧cz c=true∧dy y (-3000) 3000=true:=by
 unfold lT at h
 cases h1:eY L&&cz c
 ·rw[h1]at h
  simp at h
 ·rw[Bool.and_eq_true]at h1
  refine⟨h1.1,h1.2,?_⟩
  cases h2:dy y (-3000) 3000
  ·rw[h1.1,h1.2,h2]at h
   simp at h
  ·rfl
theorem qN{L:List aw}(h:eY L=true):okL L=true∧L.length≤20∧ox L=false:=by
 unfold eY at h
 simp only[Bool.and_eq_true,decide_eq_true_eq,Bool.not_eq_true']at h
 exact⟨h.1,h.2.1,h.2.2⟩
theorem rI{L:List aw}(hL:L.length≤1048576)(h: ∀x∈L,LkR x){c:ByteArray}(hc:c.size≤1048576)(y:Int):e9 L c y=some (mR L c y):=by
 unfold e9 mR
 rw[wh hL h hc,Option.bind_some,xR hL]
 cases hz:lT L c y==0
 ·simp only[bne,hz,Bool.not_false,cond_true,cond_false]
 ·simp only[bne,hz,Bool.not_true,cond_true,cond_false,Option.bind_some]
theorem rS{L:List aw}(hL:L.length≤1048576)(h: ∀x∈L,LkR x){c:ByteArray}(hc:c.size≤1048576)(y:Int):fj L c y=some (mR L c y):=by
 unfold fj mR
 rw[wA hL h hc,Option.bind_some]
 cases hz:lT L c y==0
 ·simp only[bne,hz,Bool.not_false,cond_true,cond_false]
 ·obtain⟨h1,h2,_⟩:=vR hz
  obtain⟨_,h3,_⟩:=qN h1
  obtain⟨h4,h5⟩:=vo h3
  simp only[bne,hz,Bool.not_true,cond_false,cond_true,h4,Option.bind_some]
  rw[fH (L:=places L) (by omega) (fun s=>s) (fun z=>bif(pS (par L z y)).1.toList==c.toList then[z]else[]) (fun x _=>p6 _ _) (fun i x s hx hs=>by
   simp only[bg,hx,Option.bind_some,rc (show L.length≤1048577 by omega)]
   rw[da (by simp;omega)]
   cases (pS (par L x y)).1.toList==c.toList<;>simp),xU h2]
  rfl
def pv(c:ByteArray)(y:Int)(l:aw):List aw:=bif(l.Child.toList==c.toList) || (l.Parent.toList==c.toList)then(bif decide (l.Years.From≤cw l.Years.To (y - 1))then[aw.mk l.Child l.Parent (Span.mk l.Years.From (cw l.Years.To (y - 1)))]else[])else bif decide (l.Years.From≤l.Years.To)then[l]else[]
theorem qv(c:ByteArray)(y:Int)(l:aw):(pv c y l).length≤1:=by
 unfold pv
 cases (l.Child.toList==c.toList) || (l.Parent.toList==c.toList)<;>exact p6 _ _
theorem uE{c:ByteArray}{y:Int}(hy:dy y (-3000) 3000=true){s:List aw}(hs:s.length≤1048576)(x:aw):((((bif((x.Child.toList==c.toList) || (x.Parent.toList==c.toList))then some (aw.mk x.Child x.Parent (Span.mk x.Years.From (cw x.Years.To (aJ (y - 1)))))else some x)).bind fun(j8:aw)=>(bif(decide (j8.Years.From≤j8.Years.To))then((ed s ([j8]:List aw)).bind fun x10=>some x10)else some s)))=some (s++pv c y x):=by
 have h1:=eX.1 hy
 rw[bp (by omega) (by omega)]
 unfold pv
 cases (x.Child.toList==c.toList) || (x.Parent.toList==c.toList)
 ·simp only[cond_false,Option.bind_some]
  rw[da (by simp;omega)]
  cases decide (x.Years.From≤x.Years.To)<;>simp
 ·simp only[cond_true,Option.bind_some]
  rw[da (by simp;omega)]
  cases decide (x.Years.From≤cw x.Years.To (y - 1))<;>simp
theorem xQ{L:List aw}(hL:L.length≤1048576)(c:ByteArray){y:Int}(hy:dy y (-3000) 3000=true):gy L c y=some (L.flatMap (pv c y)):=by
 unfold gy
 rw[fH hL (fun s=>s) (pv c y) (fun x _=>qv c y x) (fun i x s hx hs=>by
  rw[bg,hx,Option.bind_some]
  exact uE hy hs x)]
 rfl
theorem yi{L:List aw}(hL:L.length≤1048576)(c:ByteArray){y:Int}(hy:dy y (-3000) 3000=true):ia L c y=some (L.flatMap (pv c y)):=by
 unfold ia
 rw[fH hL (fun s=>s) (pv c y) (fun x _=>qv c y x) (fun i x s hx hs=>by
  rw[bg,hx,Option.bind_some]
  exact uE hy hs x)]
 rfl
end Go.Proofs.YtdejeagdkfokfaaGreatDoor.Sh
