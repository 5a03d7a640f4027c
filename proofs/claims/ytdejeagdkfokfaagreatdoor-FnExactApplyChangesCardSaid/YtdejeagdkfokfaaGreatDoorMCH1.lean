/- Links: parents, the way up, circles, AreLinks of both; bounds on lengths alone. -/
import Derived.Test.YtdejeagdkfokfaaGreatDoorMPL5
namespace Go.Proofs.YtdejeagdkfokfaaGreatDoor.Sh
open Go.RowKit Go.Lib
structure LkR (l:ax):Prop where
 c:l.Child.size≤1048576
 p:l.Parent.size≤1048576
def kH(l:ax):Bool:=cG l.Child&&(cG l.Parent&&(!(l.Child.toList==l.Parent.toList)&&nk l.Years))
theorem yB{l:ax}(h:LkR l):ju l=some (kH l):=by
 have h1:=h.c
 have h2:=h.p
 unfold ju kH
 rw[jg _ (by simp) (fun x hx=>by
  rcases List.mem_cons.1 hx with rfl | hx
  ·simp only[maxLen];omega
  ·obtain rfl:=List.mem_singleton.1 hx
   simp only[maxLen];omega),Option.bind_some,mo]
 simp only[List.all_cons,List.all_nil,Bool.and_true]
 cases cG l.Child<;>cases cG l.Parent<;>cases l.Child.toList==l.Parent.toList<;>rfl
theorem yS{l:ax}(h:LkR l):ky l=some (kH l):=by
 have h1:=h.c
 have h2:=h.p
 unfold ky kH
 rw[eX _ (by simp only[maxLen];omega),eX _ (by simp only[maxLen];omega),mz]
 cases cG l.Child<;>cases cG l.Parent<;>cases l.Child.toList==l.Parent.toList<;>rfl
theorem rm{α:Type}(p:α→Bool): ∀L:List α,(cB p L= -1∧L.find? p=none)∨ ∃(i:Nat) (x:α),cB p L=i∧L[i]? =some x∧L.find? p=some x
 | []=> .inl ⟨rfl,rfl⟩
 | x::l=>by
  unfold cB
  cases hp:p x
  ·rw[List.find?_cons_of_neg (by rw[hp];simp)]
   rcases rm p l with⟨h1,h2⟩ | ⟨i,y,h1,h2,h3⟩
   ·rw[h1]
    exact .inl ⟨rfl,h2⟩
   ·have hd:decide ((i:Int)<0)=false:=decide_eq_false (by omega)
    simp only[h1,cond_false,hd]
    exact .inr ⟨i+1,y,by simp,by simpa using h2,h3⟩
  ·rw[List.find?_cons_of_pos hp]
   exact .inr ⟨0,x,rfl,rfl,rfl⟩
theorem pL{α A:Type}(p:α→Bool)(f:α→A): ∀(L:List α) (k:Nat),cb (fun _ x=>p x) (fun _ x=>f x) L k=(L.find? p).map f
 | [],_=>rfl
 | x::l,k=>by
  unfold cb
  cases hp:p x
  ·rw[List.find?_cons_of_neg (by rw[hp];simp)]
   exact pL p f l (k+1)
  ·rw[List.find?_cons_of_pos hp]
   rfl
def qe(c:ByteArray)(y:Int)(l:ax):Bool:=(l.Child.toList==c.toList)&&dD y l.Years.From l.Years.To
def par(L:List ax)(c:ByteArray)(y:Int):Option ByteArray:=(L.find? (qe c y)).map ax.Parent
def qm(o:Option ByteArray):ByteArray×Bool:=match o with | some v=>(v,true) | none=>(ByteArray.mk #[],false)
theorem mq{L:List ax}(hL:L.length≤1048577)(c:ByteArray)(y:Int):cW L c y=some (qm (par L c y)):=by
 unfold cW bW gY bN
 rw[iQ (by omega) (qe c y) (fun i x hx=>by
  rw[bk,hx,Option.bind_some,dd]
  unfold qe
  cases x.Child.toList==c.toList<;>rfl)]
 unfold par
 rcases rm (qe c y) L with⟨h1,h2⟩ | ⟨i,x,h1,h2,h3⟩
 ·rw[h1,h2]
  rfl
 ·rw[h1,h3,Option.bind_some,decide_eq_false (by omega),cond_false,bk,h2]
  rfl
theorem rR{L:List ax}(hL:L.length≤1048577)(c:ByteArray)(y:Int):dU L c y=some (qm (par L c y)).1:=by
 unfold dU
 rw[fb (by omega) (fun _=>qe c y) (fun _ x=>x.Parent) (fun i x hx=>by
  rw[bk,hx]
  simp only[Option.bind_some,eb]
  unfold qe
  cases x.Child.toList==c.toList<;>rfl),pL (qe c y) ax.Parent]
 unfold par
 cases L.find? (qe c y)<;>rfl
theorem any_eq{L:List ByteArray}{v:ByteArray}:(L.any fun x=>v.toList==x.toList)=true↔v∈L:=by
 rw[List.any_eq_true]
 refine⟨fun⟨x,h1,h2⟩=> ?_,fun h=>⟨v,h,nV.2 rfl⟩⟩
 rw[nV.1 h2]
 exact h1
theorem any_eq'{L:List ByteArray}{v:ByteArray}:(L.any fun x=>x.toList==v.toList)=true↔v∈L:=by
 rw[List.any_eq_true]
 refine⟨fun⟨x,h1,h2⟩=> ?_,fun h=>⟨v,h,nV.2 rfl⟩⟩
 rw[←nV.1 h2]
 exact h1
theorem contains_eq{L:List ByteArray}(hL:L.length≤1000000000)(v:ByteArray):cC L v=some (L.any fun x=>v.toList==x.toList):=by
 unfold cC eu
 rw[iQ (by omega) (fun x=>v.toList==x.toList) (fun i x hx=>by rw[bk,hx];rfl),Option.bind_some,iA]
theorem xS{L:List ByteArray}(hL:L.length≤1000000000)(v:ByteArray): ∃n:Int,gD L v=some n∧decide (n≥0)=L.any fun x=>x.toList==v.toList:=by
 unfold gD
 rw[iQ (by omega) (fun x=>x.toList==v.toList) (fun i x hx=>by rw[bk,hx];rfl)]
 exact⟨_,rfl,iA _ L⟩
theorem filter_lt{α:Type}{p q:α→Bool}(h: ∀x,q x=true→p x=true){a:α}(hp:p a=true)(hq:q a=false): ∀{L:List α},a∈L→(L.filter q).length<(L.filter p).length
 | x::L,ha=>by
  have hle: ∀M:List α,(M.filter q).length≤(M.filter p).length:=fun M=>by
   induction M with
   | nil=>exact Nat.le_refl _
   | cons z M ih=>
    rw[List.filter_cons,List.filter_cons]
    cases hz:q z
    ·cases p z<;>simp<;>omega
    ·rw[h z hz]
     simp
     omega
  rw[List.filter_cons,List.filter_cons]
  rcases List.mem_cons.1 ha with rfl | ha
  ·have:=hle L
   simp[hp,hq]
   omega
  ·have:=filter_lt h hp hq ha
   cases hz:q x
   ·cases p x<;>simp<;>omega
   ·rw[h x hz]
    simp
    omega
def r6(C out:List ByteArray):Nat:=(C.filter fun v=> !(out.any fun x=>v.toList==x.toList)).length
theorem wq{C out:List ByteArray}{v:ByteArray}(h1:v∈C)(h2:v∉out):r6 C (out++[v])<r6 C out:=by
 unfold r6
 have hf: ∀{M:List ByteArray} {x:ByteArray},(!(M.any fun z=>x.toList==z.toList))=true↔x∉M:=fun{M x}=>by
  rw[Bool.not_eq_true',Bool.eq_false_iff,ne_eq,any_eq]
 refine filter_lt (fun x hx=> ?_) (a:=v) (hf.2 h2) ?_ h1
 ·rw[hf]at hx⊢
  exact fun h=>hx (List.mem_append_left _ h)
 ·rw[Bool.eq_false_iff,ne_eq,hf]
  simp
theorem Ae{L:List ax}(h: ∀x∈L,kH x=true){c:ByteArray}{y:Int}{v:ByteArray}(hv:par L c y=some v):1≤v.size∧v∈L.map ax.Parent:=by
 unfold par at hv
 rw[Option.map_eq_some_iff]at hv
 obtain⟨l,h1,rfl⟩:=hv
 have hm:=List.mem_of_find?_eq_some h1
 have h2:=h l hm
 unfold kH at h2
 simp only[Bool.and_eq_true]at h2
 exact⟨(jh h2.2.1).1,List.mem_map.2 ⟨l,hm,rfl⟩⟩
theorem DL{L:List ax}(hL:L.length≤1048576)(hc: ∀x∈L,kH x=true){place:ByteArray}(hp0:1≤place.size)(y:Int): ∃way b l,kl L place y=some way∧((at' way (aO ((way.length:Int)- 1))).bind fun x2=>((cW L x2 y).bind fun x3=>some x3.2))=some b∧jz L place y=some (l,!b):=by
 have key: ∀(n:Nat) (out:List ByteArray) (v:ByteArray),r6 (place::L.map ax.Parent) out≤n→v∈place::L.map ax.Parent→v∉out→1≤v.size→out.length+r6 (place::L.map ax.Parent) out≤1048577→
   ∃way b l,loop (fun(s1:(List ByteArray))=>((at' s1 (aO ((s1.length:Int)- 1))).bind fun x3=>((cW L x3 y).bind fun x4=>(((bif(!x4.2)then some true else((cC s1 x4.1).bind fun x5=>some x5))).bind fun(j6:Bool)=>(bif j6 then some (.inr s1)else((eg s1 ([x4.1]:List ByteArray)).bind fun x8=>some (.inl x8))))))) (out++[v])=some way∧
   ((at' way (aO ((way.length:Int)- 1))).bind fun x2=>((cW L x2 y).bind fun x3=>some x3.2))=some b∧
   ((loop (fun(s3:ByteArray×(List ByteArray))=>(bif(!(s3.1.toList==(ByteArray.mk #[]).toList))then((gD s3.2 s3.1).bind fun x5=>(bif(decide (x5≥0))then some (.inr (.inr (([]:List ByteArray),false)))else((eg s3.2 ([s3.1]:List ByteArray)).bind fun x6=>((dU L s3.1 y).bind fun x7=>some (.inl (x7,x6))))))else some (.inr (.inl s3.2)))) (v,out))).bind (Sum.elim (fun(j1:(List ByteArray))=>some (j1,true)) some)=some (l,!b):=by
  intro n
  induction n with
  | zero=>
   intro out v h1 h2 h3
   have:=wq h2 h3
   omega
  | succ n ih=>
   intro out v h1 h2 h3 hv1 h13
   have hlt:=wq h2 h3
   have hl:out.length≤1048577:=by omega
   have hlen:(out++[v]).length=out.length+1:=by simp
   have hat:at' (out++[v]) (aO (((out++[v]).length:Int)- 1))=some v:=by
    rw[bq (by omega) (by omega),hlen,show((out.length+1:Nat):Int)- 1=(out.length:Int) by omega,bk]
    simp
   obtain⟨m,hm,hm'⟩:=xS (L:=out) (by omega) v
   have hno:(out.any fun x=>x.toList==v.toList)=false:=by
    rw[Bool.eq_false_iff,ne_eq,any_eq']
    exact h3
   rw[hno]at hm'
   rw[et]
   conv in loop _ (v,out)=>rw[et]
   simp only[hat,Option.bind_some,mq (show L.length≤1048577 by omega),qS hv1,Bool.not_false,cond_true,hm,hm',cond_false,dj (show out.length+[v].length≤68719476736 by simp;omega),rR (show L.length≤1048577 by omega)]
   cases ht:par L v y with
   | none=>
    have e0:qm none=(ByteArray.mk #[],false):=rfl
    have e2:((ByteArray.mk #[]).toList==(ByteArray.mk #[]).toList)=true:=nV.2 rfl
    rw[et]
    simp only[e0,e2,Bool.not_false,Bool.not_true,cond_false,cond_true,Option.bind_some]
    refine⟨out++[v],false,out++[v],rfl,?_,rfl⟩
    rw[hat,Option.bind_some,ht]
    rfl
   | some u=>
    obtain⟨hu1,hu2⟩:=Ae hc ht
    have e1:qm (some u)=(u,true):=rfl
    simp only[e1,Bool.not_true,cond_false,contains_eq (show(out++[v]).length≤1000000000 by omega),Option.bind_some]
    by_cases hin:u∈out++[v]
    ·obtain⟨m2,hm2,hm2'⟩:=xS (L:=out++[v]) (by omega) u
     rw[any_eq'.2 hin]at hm2'
     rw[et]
     simp only[any_eq.2 hin,cond_true,qS hu1,Bool.not_false,hm2,Option.bind_some,hm2']
     refine⟨out++[v],true,[],rfl,?_,rfl⟩
     rw[hat,Option.bind_some,ht]
     rfl
    ·have hnot:((out++[v]).any fun x=>u.toList==x.toList)=false:=by
      rw[Bool.eq_false_iff,ne_eq,any_eq]
      exact hin
     simp only[hnot,cond_false,dj (show(out++[v]).length+[u].length≤68719476736 by simp;omega),Option.bind_some]
     have h9:=ih (out++[v]) u (by omega) (List.mem_cons_of_mem _ hu2) hin hu1 (by omega)
     simp only[mq (show L.length≤1048577 by omega),rR (show L.length≤1048577 by omega),Option.bind_some]at h9
     exact h9
 have h0:r6 (place::L.map ax.Parent) []≤1048577:=by
  unfold r6
  have:=List.length_filter_le (fun v=> !(([]:List ByteArray).any fun x=>v.toList==x.toList)) (place::L.map ax.Parent)
  simp only[List.length_cons,List.length_map]at this
  omega
 exact key 1048577 [] place h0 List.mem_cons_self (by simp) hp0 (by simpa using h0)
noncomputable def nY(L:List ax)(p:ByteArray)(y:Int):Bool:=(dJ L p y).getD false
theorem vd{L:List ax}(hL:L.length≤1048576)(hc: ∀x∈L,kH x=true){p:ByteArray}(hp:1≤p.size)(y:Int):dJ L p y=some (nY L p y)∧ ∃l,jz L p y=some (l,!nY L p y):=by
 obtain⟨way,b,l,h1,h2,h3⟩:=DL hL hc hp y
 have h4:dJ L p y=some b:=by
  unfold dJ
  rw[h1,Option.bind_some,h2]
 unfold nY
 rw[h4]
 exact⟨rfl,l,h3⟩
theorem zl{L:List ax}(hL:L.length≤1048577){p:ByteArray}{y:Int}(h:nY L p y=true): ∃d∈L,qe p y d=true:=by
 cases hp:par L p y with
 | some v=>
  unfold par at hp
  rw[Option.map_eq_some_iff]at hp
  obtain⟨l,h1,_⟩:=hp
  exact⟨l,List.mem_of_find?_eq_some h1,List.find?_some h1⟩
 | none=>
  unfold nY dJ kl at h
  have e0:qm none=(ByteArray.mk #[],false):=rfl
  have hat:at' [p] (aO ((([p]:List ByteArray).length:Int)- 1))=some p:=by
   rw[bq (by simp) (by simp)]
   rfl
  rw[et,hat,Option.bind_some,mq hL,hp]at h
  simp only[e0,Option.bind_some,Bool.not_false,cond_true,hat,mq hL,hp]at h
  cases h
def rD(l m:ax):Bool:=(m.Child.toList==l.Child.toList)&&(decide (m.Years.From≤l.Years.To)&&decide (l.Years.From≤m.Years.To))
def uZ(L:List ax)(i:Nat)(l:ax):Bool:= !kH l || (L.take i).any (rD l)
def okL(L:List ax):Bool:= !(cb (uZ L) (fun _ _=>()) L 0).isSome
noncomputable def o0(L:List ax):Bool:=L.any fun l=>L.any fun m=>nY L m.Child l.Years.From
noncomputable def fa(L:List ax):Bool:=okL L&&(decide (L.length≤20)&& !o0 L)
theorem pM{α:Type}{p:Nat→α→Bool}: ∀{L:List α} {k:Nat},(cb p (fun _ _=>()) L k).isSome=false↔ ∀i x,L[i]? =some x→p (k+i) x=false
 | [],k=>by simp[cb]
 | z::L,k=>by
  unfold cb
  cases hz:p k z
  ·rw[cond_false,pM]
   constructor
   ·intro h i x hx
    cases i with
    | zero=>
     injection hx with hx
     subst hx
     exact hz
    | succ i=>rw[show k+(i+1)=k+1+i by omega];exact h i x hx
   ·intro h i x hx
    have:=h (i+1) x hx
    rwa [show k+(i+1)=k+1+i by omega]at this
  ·rw[cond_true]
   refine⟨fun h=>(by cases h),fun h=> ?_⟩
   have:=h 0 z rfl
   rw[Nat.add_zero,hz]at this
   cases this
theorem xZ{L:List ax}:okL L=true↔(∀x∈L,kH x=true)∧ ∀(i j:Nat) x z,i<j→L[i]? =some z→L[j]? =some x→rD x z=false:=by
 unfold okL
 rw[Bool.not_eq_true',pM]
 unfold uZ
 simp only[Nat.zero_add,Bool.or_eq_false_iff,Bool.not_eq_false',List.any_eq_false]
 constructor
 ·intro h
  refine⟨fun x hx=> ?_,fun i j x z hij hi hj=> ?_⟩
  ·obtain⟨i,hi,rfl⟩:=List.mem_iff_getElem.1 hx
   exact(h i _ (List.getElem?_eq_getElem hi)).1
  ·have:=(h j x hj).2 z (List.mem_of_getElem? (by rw[List.getElem?_take_of_lt hij];exact hi))
   simpa using this
 ·rintro⟨h1,h2⟩ i x hx
  refine⟨h1 x (List.mem_of_getElem? hx),fun z hz=> ?_⟩
  obtain⟨k,hk,rfl⟩:=List.mem_iff_getElem.1 hz
  rw[List.length_take]at hk
  have:=h2 k i x (L.take i)[k] (by omega) (by rw[List.getElem_take];exact List.getElem?_eq_getElem _) hx
  simpa using this
end Go.Proofs.YtdejeagdkfokfaaGreatDoor.Sh
