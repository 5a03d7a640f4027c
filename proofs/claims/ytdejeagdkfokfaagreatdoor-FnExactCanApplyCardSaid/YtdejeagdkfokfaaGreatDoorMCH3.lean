/- Links: ChildrenIn of both, the end of links; bounds on lengths alone. -/
import Derived.Test.YtdejeagdkfokfaaGreatDoorMCH2
namespace Go.Proofs.YtdejeagdkfokfaaGreatDoor.Sh
open Go.RowKit Go.Lib
noncomputable def la(L:List au)(c:ByteArray)(y:Int):Int:=bif eA L&&cq c then bif c6 y (-3000) 3000 then 0 else 2 else 1
theorem uH{L:List au}(hL:L.length≤1048576)(h: ∀x∈L,LkR x){c:ByteArray}(hc:c.size≤1048576)(y:Int):fX L y [c]=some (la L c y):=by
 unfold fX la
 rw[jY hL h,Option.bind_some,iu _ (by simp) (fun x hx=>by
  obtain rfl:=List.mem_singleton.1 hx
  simp only[maxLen];omega)]
 unfold dI
 simp only[Option.bind_some,cX,List.all_cons,List.all_nil,Bool.and_true]
 cases eA L<;>cases cq c<;>cases c6 y (-3000) 3000<;>rfl
theorem uX{L:List au}(hL:L.length≤1048576)(h: ∀x∈L,LkR x){c:ByteArray}(hc:c.size≤1048576)(y:Int):ib L c y=some (la L c y):=by
 unfold ib la
 rw[kd hL h,Option.bind_some,eu _ (by simp only[maxLen];omega)]
 unfold cK
 simp only[Option.bind_some,dJ]
 cases eA L<;>cases cq c<;>cases c6 y (-3000) 3000<;>rfl
def te(L:List au)(c:ByteArray)(y:Int)(l:au):Bool:=c6 y l.Years.From l.Years.To&&((o8 (par L l.Child y)).1.toList==c.toList)
noncomputable def kids(L:List au)(c:ByteArray)(y:Int):List ByteArray:=gr ((L.filter (te L c y)).map au.Child)
theorem lf{α β:Type}(p:α→Bool)(f:α→β): ∀L:List α,(L.flatMap fun x=>bif p x then[f x]else[])=(L.filter p).map f
 | []=>rfl
 | x::L=>by
  rw[List.flatMap_cons,lf p f L,List.filter_cons]
  cases p x<;>rfl
theorem pj{α:Type}(b:Bool)(x:α):(bif b then[x]else[]).length≤1:=by cases b<;>simp
theorem wl{L:List au}(hL:L.length≤1048576)(c:ByteArray)(y:Int):bG L y L y c=some (kids L c y):=by
 unfold bG fb bF
 rw[fi hL (fun s=>s) (fun l=>bif te L c y l then[l.Child]else[]) (fun x _=>pj _ _) (fun i x s hx hs=>by
  simp only[bh,hx,Option.bind_some,cX,lp (show L.length≤1048577 by omega)]
  unfold te
  rw[c9 (by simp;omega)]
  cases c6 y x.Years.From x.Years.To<;>cases (o8 (par L x.Child y)).1.toList==c.toList<;>simp)]
 rw[lf,Option.bind_some]
 unfold iF kids
 rw[if_pos (by
  rw[List.length_map]
  have:=List.length_filter_le (te L c y) L
  omega)]
 rfl
noncomputable def places(L:List au):List ByteArray:=L.foldl (fun s l=>kl (kl s l.Child) l.Parent) []
theorem xW: ∀(L:List au) (A:List ByteArray),A.Pairwise (fun a b=>fS a b=true)→(L.foldl (fun s l=>kl (kl s l.Child) l.Parent) A).Pairwise (fun a b=>fS a b=true)∧ ∀z,z∈L.foldl (fun s l=>kl (kl s l.Child) l.Parent) A↔z∈A∨ ∃l∈L,z=l.Child∨z=l.Parent
 | [],A,h=>⟨h,fun z=>by simp⟩
 | l::L,A,h=>by
  obtain⟨h1,h2⟩:=xW L (kl (kl A l.Child) l.Parent) (iG (iG h))
  refine⟨h1,fun z=> ?_⟩
  rw[List.foldl_cons,h2,ta,ta]
  constructor
  ·rintro((rfl | rfl | h) | ⟨m,hm,h⟩)
   ·exact .inr ⟨l,List.mem_cons_self,.inr rfl⟩
   ·exact .inr ⟨l,List.mem_cons_self,.inl rfl⟩
   ·exact .inl h
   ·exact .inr ⟨m,List.mem_cons_of_mem _ hm,h⟩
  ·rintro(h | ⟨m,hm,h⟩)
   ·exact .inl (.inr (.inr h))
   ·rcases List.mem_cons.1 hm with rfl | hm
    ·rcases h with rfl | rfl
     ·exact .inl (.inr (.inl rfl))
     ·exact .inl (.inl rfl)
    ·exact .inr ⟨m,hm,h⟩
theorem kB{α S A:Type}{L:List α}(hL:L.length≤9223372036854775807){B:Int→S→Option S}{D:S→A}(I:Nat→S→Prop)(g:S→α→S){s:S}(h: ∀(i:Nat) x s,L[i]? =some x→I i s→B (i:Int) s=some (g s x)∧I (i+1) (g s x))(h2:I 0 s):iQ (L.length:Int) B D 0 s=some (D (L.foldl g s))∧I L.length (L.foldl g s):=by
 have key: ∀(M:List α) (k:Nat) (s:S),(∀j x s,M[j]? =some x→I (k+j) s→B ((k+j:Nat):Int) s=some (g s x)∧I (k+j+1) (g s x))→I k s→gx (fun i s=>(B (i:Int) s).map .inl) D M.length k s=some (D (M.foldl g s))∧I (k+M.length) (M.foldl g s):=by
  intro M
  induction M with
  | nil=>exact fun k s _ h=>⟨rfl,h⟩
  | cons x l ih=>
   intro k s h h2
   have h3:=h 0 x s rfl h2
   rw[Nat.add_zero]at h3
   show((B (k:Int) s).map .inl).bind (Sum.elim (gx (fun i s=>(B (i:Int) s).map .inl) D l.length (k+1)) some)=_∧_
   rw[h3.1]
   have:=ih (k+1) _ (fun j y s hy h5=>by
    have:=h (j+1) y s (by simpa using hy) (by rw[show k+(j+1)=k+1+j by omega];exact h5)
    rw[show k+1+j=k+(j+1)from by omega]
    exact this) h3.2
   rw[List.length_cons,show k+(l.length+1)=k+1+l.length by omega]
   exact this
 rw[lF,kh _ hL]
 have:=key L 0 s (fun j x s hx hI=>by
  rw[Nat.zero_add]at hI⊢
  exact h j x s hx hI) h2
 rw[Nat.zero_add]at this
 exact this
theorem tM{L:List au}(hL:L.length≤20):fz L=some (places L)∧(places L).length≤2*L.length:=by
 unfold fz
 obtain⟨h1,h2⟩:=kB (L:=L) (by omega) (B:=fun(i3:Int) (s3:(List ByteArray))=>((at' L i3).bind fun x7=>((c5 s3 x7.Child).bind fun x8=>((at' L i3).bind fun x9=>((c5 x8 x9.Parent).bind fun x10=>some x10))))) (D:=fun s=>s) (fun i (s:List ByteArray)=>s.Pairwise (fun a b=>fS a b=true)∧s.length≤2*i) (fun s l=>kl (kl s l.Child) l.Parent) (s:=[]) (fun i l s hl hs=>by
  have hi:=(List.getElem?_eq_some_iff.1 hl).1
  have e1:=s8 s l.Child
  have e2:=s8 (kl s l.Child) l.Parent
  simp only[bh,hl,Option.bind_some,re (show s.length≤1000000 by omega) hs.1,re (show(kl s l.Child).length≤1000000 by omega) (iG hs.1)]
  refine⟨?_,iG (iG hs.1),by omega⟩
  first | trivial | rfl) ⟨List.Pairwise.nil,by simp⟩
 rw[h1]
 exact⟨rfl,h2.2⟩
theorem yB{c:ByteArray}(h:cq c=true):c≠ByteArray.mk #[]:=fun e=>by
 have:=(iv h).1
 rw[e]at this
 simp[ByteArray.size]at this
theorem wD{L:List au}{z c:ByteArray}{y:Int}(hc:cq c=true)(h:((o8 (par L z y)).1.toList==c.toList)=true): ∃l∈L,oZ z y l=true:=by
 cases hp:par L z y with
 | none=>
  rw[hp]at h
  exact absurd (mM.1 h).symm (yB hc)
 | some v=>
  unfold par at hp
  rw[Option.map_eq_some_iff]at hp
  obtain⟨l,h1,_⟩:=hp
  exact⟨l,List.mem_of_find?_eq_some h1,List.find?_some h1⟩
theorem wu{L:List au}{c:ByteArray}(hc:cq c=true)(y:Int):((places L).flatMap fun z=>bif(o8 (par L z y)).1.toList==c.toList then[z]else[])=kids L c y:=by
 obtain⟨h1,h2⟩:=xW L [] List.Pairwise.nil
 have h1:(places L).Pairwise (fun a b=>fS a b=true):=h1
 rw[lf (fun z=>(o8 (par L z y)).1.toList==c.toList) (fun z=>z),List.map_id']
 refine vg (h1.sublist List.filter_sublist) (qh _) fun z=> ?_
 unfold kids
 rw[List.mem_filter,oG,List.mem_map]
 constructor
 ·rintro⟨_,h⟩
  obtain⟨l,hl,h3⟩:=wD hc h
  unfold oZ at h3
  rw[Bool.and_eq_true]at h3
  have h4:=mM.1 h3.1
  refine⟨l,List.mem_filter.2 ⟨hl,?_⟩,h4⟩
  unfold te
  rw[h3.2,h4,h]
  rfl
 ·rintro⟨l,hl,rfl⟩
  obtain⟨hl,h3⟩:=List.mem_filter.1 hl
  unfold te at h3
  rw[Bool.and_eq_true]at h3
  exact⟨(h2 _).2 (.inr ⟨l,hl,.inl rfl⟩),h3.2⟩
noncomputable def mg(L:List au)(c:ByteArray)(y:Int):List ByteArray×Int:=bif la L c y==0 then(kids L c y,0)else([],la L c y)
theorem uv{L:List au}{c:ByteArray}{y:Int}(h:(la L c y==0)=true):eA L=true∧cq c=true∧c6 y (-3000) 3000=true:=by
 unfold la at h
 cases h1:eA L&&cq c
 ·rw[h1]at h
  simp at h
 ·rw[Bool.and_eq_true]at h1
  refine⟨h1.1,h1.2,?_⟩
  cases h2:c6 y (-3000) 3000
  ·rw[h1.1,h1.2,h2]at h
   simp at h
  ·rfl
theorem p4{L:List au}(h:eA L=true):okL L=true∧L.length≤20∧nK L=false:=by
 unfold eA at h
 simp only[Bool.and_eq_true,decide_eq_true_eq,Bool.not_eq_true']at h
 exact⟨h.1,h.2.1,h.2.2⟩
theorem qF{L:List au}(hL:L.length≤1048576)(h: ∀x∈L,LkR x){c:ByteArray}(hc:c.size≤1048576)(y:Int):eF L c y=some (mg L c y):=by
 unfold eF mg
 rw[uH hL h hc,Option.bind_some,wl hL]
 cases hz:la L c y==0
 ·simp only[bne,hz,Bool.not_false,cond_true,cond_false]
 ·simp only[bne,hz,Bool.not_true,cond_true,cond_false,Option.bind_some]
theorem qM{L:List au}(hL:L.length≤1048576)(h: ∀x∈L,LkR x){c:ByteArray}(hc:c.size≤1048576)(y:Int):eQ L c y=some (mg L c y):=by
 unfold eQ mg
 rw[uX hL h hc,Option.bind_some]
 cases hz:la L c y==0
 ·simp only[bne,hz,Bool.not_false,cond_true,cond_false]
 ·obtain⟨h1,h2,_⟩:=uv hz
  obtain⟨_,h3,_⟩:=p4 h1
  obtain⟨h4,h5⟩:=tM h3
  simp only[bne,hz,Bool.not_true,cond_false,cond_true,h4,Option.bind_some]
  rw[fi (L:=places L) (by omega) (fun s=>s) (fun z=>bif(o8 (par L z y)).1.toList==c.toList then[z]else[]) (fun x _=>pj _ _) (fun i x s hx hs=>by
   simp only[bh,hx,Option.bind_some,qk (show L.length≤1048577 by omega)]
   rw[c9 (by simp;omega)]
   cases (o8 (par L x y)).1.toList==c.toList<;>simp),wu h2]
  rfl
def oL(c:ByteArray)(y:Int)(l:au):List au:=bif(l.Child.toList==c.toList) || (l.Parent.toList==c.toList)then(bif decide (l.Years.From≤bL l.Years.To (y - 1))then[au.mk l.Child l.Parent (Span.mk l.Years.From (bL l.Years.To (y - 1)))]else[])else bif decide (l.Years.From≤l.Years.To)then[l]else[]
theorem pK(c:ByteArray)(y:Int)(l:au):(oL c y l).length≤1:=by
 unfold oL
 cases (l.Child.toList==c.toList) || (l.Parent.toList==c.toList)<;>exact pj _ _
theorem sS{c:ByteArray}{y:Int}(hy:c6 y (-3000) 3000=true){s:List au}(hs:s.length≤1048576)(x:au):((((bif((x.Child.toList==c.toList) || (x.Parent.toList==c.toList))then some (au.mk x.Child x.Parent (Span.mk x.Years.From (bL x.Years.To (aZ (y - 1)))))else some x)).bind fun(j8:au)=>(bif(decide (j8.Years.From≤j8.Years.To))then((dU s ([j8]:List au)).bind fun x10=>some x10)else some s)))=some (s++oL c y x):=by
 have h1:=ey.1 hy
 rw[cM (by omega) (by omega)]
 unfold oL
 cases (x.Child.toList==c.toList) || (x.Parent.toList==c.toList)
 ·simp only[cond_false,Option.bind_some]
  rw[c9 (by simp;omega)]
  cases decide (x.Years.From≤x.Years.To)<;>simp
 ·simp only[cond_true,Option.bind_some]
  rw[c9 (by simp;omega)]
  cases decide (x.Years.From≤bL x.Years.To (y - 1))<;>simp
theorem wk{L:List au}(hL:L.length≤1048576)(c:ByteArray){y:Int}(hy:c6 y (-3000) 3000=true):fW L c y=some (L.flatMap (oL c y)):=by
 unfold fW
 rw[fi hL (fun s=>s) (oL c y) (fun x _=>pK c y x) (fun i x s hx hs=>by
  rw[bh,hx,Option.bind_some]
  exact sS hy hs x)]
 rfl
theorem wK{L:List au}(hL:L.length≤1048576)(c:ByteArray){y:Int}(hy:c6 y (-3000) 3000=true):gE L c y=some (L.flatMap (oL c y)):=by
 unfold gE
 rw[fi hL (fun s=>s) (oL c y) (fun x _=>pK c y x) (fun i x s hx hs=>by
  rw[bh,hx,Option.bind_some]
  exact sS hy hs x)]
 rfl
end Go.Proofs.YtdejeagdkfokfaaGreatDoor.Sh
