/- Links: parents, the way up, circles, AreLinks of both; bounds on lengths alone. -/
import Derived.Test.YtdejeagdkfokfaaGreatDoorMPL5
namespace Go.Proofs.YtdejeagdkfokfaaGreatDoor.Sh
open Go.RowKit Go.Lib
structure LkR (l:aw):Prop where
 c:l.Child.size≤1048576
 p:l.Parent.size≤1048576
def kD(l:aw):Bool:=cz l.Child&&(cz l.Parent&&(!(l.Child.toList==l.Parent.toList)&&mU l.Years))
theorem xS{l:aw}(h:LkR l):jk l=some (kD l):=by
 have h1:=h.c
 have h2:=h.p
 unfold jk kD
 rw[iY _ (by simp) (fun x hx=>by
  rcases List.mem_cons.1 hx with rfl | hx
  ·simp only[maxLen];omega
  ·obtain rfl:=List.mem_singleton.1 hx
   simp only[maxLen];omega),Option.bind_some,l4]
 simp only[List.all_cons,List.all_nil,Bool.and_true]
 cases cz l.Child<;>cases cz l.Parent<;>cases l.Child.toList==l.Parent.toList<;>rfl
theorem yj{l:aw}(h:LkR l):kt l=some (kD l):=by
 have h1:=h.c
 have h2:=h.p
 unfold kt kD
 rw[eU _ (by simp only[maxLen];omega),eU _ (by simp only[maxLen];omega),mc]
 cases cz l.Child<;>cases cz l.Parent<;>cases l.Child.toList==l.Parent.toList<;>rfl
theorem qI{α:Type}(p:α→Bool): ∀L:List α,(cr p L= -1∧L.find? p=none)∨ ∃(i:Nat) (x:α),cr p L=i∧L[i]? =some x∧L.find? p=some x
 | []=> .inl ⟨rfl,rfl⟩
 | x::l=>by
  unfold cr
  cases hp:p x
  ·rw[List.find?_cons_of_neg (by rw[hp];simp)]
   rcases qI p l with⟨h1,h2⟩ | ⟨i,y,h1,h2,h3⟩
   ·rw[h1]
    exact .inl ⟨rfl,h2⟩
   ·have hd:decide ((i:Int)<0)=false:=decide_eq_false (by omega)
    simp only[h1,cond_false,hd]
    exact .inr ⟨i+1,y,by simp,by simpa using h2,h3⟩
  ·rw[List.find?_cons_of_pos hp]
   exact .inr ⟨0,x,rfl,rfl,rfl⟩
theorem pe{α A:Type}(p:α→Bool)(f:α→A): ∀(L:List α) (k:Nat),bY (fun _ x=>p x) (fun _ x=>f x) L k=(L.find? p).map f
 | [],_=>rfl
 | x::l,k=>by
  unfold bY
  cases hp:p x
  ·rw[List.find?_cons_of_neg (by rw[hp];simp)]
   exact pe p f l (k+1)
  ·rw[List.find?_cons_of_pos hp]
   rfl
def pK(c:ByteArray)(y:Int)(l:aw):Bool:=(l.Child.toList==c.toList)&&dy y l.Years.From l.Years.To
def par(L:List aw)(c:ByteArray)(y:Int):Option ByteArray:=(L.find? (pK c y)).map aw.Parent
def pS(o:Option ByteArray):ByteArray×Bool:=match o with | some v=>(v,true) | none=>(ByteArray.mk #[],false)
theorem l5{L:List aw}(hL:L.length≤1048577)(c:ByteArray)(y:Int):cS L c y=some (pS (par L c y)):=by
 unfold cS bQ gM bH
 rw[iD (by omega) (pK c y) (fun i x hx=>by
  rw[bg,hx,Option.bind_some,c7]
  unfold pK
  cases x.Child.toList==c.toList<;>rfl)]
 unfold par
 rcases qI (pK c y) L with⟨h1,h2⟩ | ⟨i,x,h1,h2,h3⟩
 ·rw[h1,h2]
  rfl
 ·rw[h1,h3,Option.bind_some,decide_eq_false (by omega),cond_false,bg,h2]
  rfl
theorem rc{L:List aw}(hL:L.length≤1048577)(c:ByteArray)(y:Int):dQ L c y=some (pS (par L c y)).1:=by
 unfold dQ
 rw[eZ (by omega) (fun _=>pK c y) (fun _ x=>x.Parent) (fun i x hx=>by
  rw[bg,hx]
  simp only[Option.bind_some,dY]
  unfold pK
  cases x.Child.toList==c.toList<;>rfl),pe (pK c y) aw.Parent]
 unfold par
 cases L.find? (pK c y)<;>rfl
theorem any_eq{L:List ByteArray}{v:ByteArray}:(L.any fun x=>v.toList==x.toList)=true↔v∈L:=by
 rw[List.any_eq_true]
 refine⟨fun⟨x,h1,h2⟩=> ?_,fun h=>⟨v,h,nu.2 rfl⟩⟩
 rw[nu.1 h2]
 exact h1
theorem any_eq'{L:List ByteArray}{v:ByteArray}:(L.any fun x=>x.toList==v.toList)=true↔v∈L:=by
 rw[List.any_eq_true]
 refine⟨fun⟨x,h1,h2⟩=> ?_,fun h=>⟨v,h,nu.2 rfl⟩⟩
 rw[←nu.1 h2]
 exact h1
theorem contains_eq{L:List ByteArray}(hL:L.length≤1000000000)(v:ByteArray):ct L v=some (L.any fun x=>v.toList==x.toList):=by
 unfold ct er
 rw[iD (by omega) (fun x=>v.toList==x.toList) (fun i x hx=>by rw[bg,hx];rfl),Option.bind_some,ie]
theorem xg{L:List ByteArray}(hL:L.length≤1000000000)(v:ByteArray): ∃n:Int,gn L v=some n∧decide (n≥0)=L.any fun x=>x.toList==v.toList:=by
 unfold gn
 rw[iD (by omega) (fun x=>x.toList==v.toList) (fun i x hx=>by rw[bg,hx];rfl)]
 exact⟨_,rfl,ie _ L⟩
theorem filter_lt{α:Type}{p q:α→Bool}(h: ∀x,q x=true→p x=true){a:α}(hp:p a=true)(hq:q a=false): ∀{L:List α},a∈L→(L.filter q).length<(L.filter p).length
 | x::L,ha=>by
  have hle: ∀M:List α,(M.filter q).length≤(M.filter p).length:=fun M=>by
   induction M with
   | nil=>exact Nat.le_refl _
   | cons z M ih=>
    rw[List.filter_cons,List.filter_cons]
    cases hz:q z
    ·cases p z<;>simp<;>omega
    ·rw[h z hz]
     simp
     omega
  rw[List.filter_cons,List.filter_cons]
  rcases List.mem_cons.1 ha with rfl | ha
  ·have:=hle L
   simp[hp,hq]
   omega
  ·have:=filter_lt h hp hq ha
   cases hz:q x
   ·cases p x<;>simp<;>omega
   ·rw[h x hz]
    simp
    omega
def rn(C out:List ByteArray):Nat:=(C.filter fun v=> !(out.any fun x=>v.toList==x.toList)).length
theorem vC{C out:List ByteArray}{v:ByteArray}(h1:v∈C)(h2:v∉out):rn C (out++[v])<rn C out:=by
 unfold rn
 have hf: ∀{M:List ByteArray} {x:ByteArray},(!(M.any fun z=>x.toList==z.toList))=true↔x∉M:=fun{M x}=>by
  rw[Bool.not_eq_true',Bool.eq_false_iff,ne_eq,any_eq]
 refine filter_lt (fun x hx=> ?_) (a:=v) (hf.2 h2) ?_ h1
 ·rw[hf]at hx⊢
  exact fun h=>hx (List.mem_append_left _ h)
 ·rw[Bool.eq_false_iff,ne_eq,hf]
  simp
theorem zA{L:List aw}(h: ∀x∈L,kD x=true){c:ByteArray}{y:Int}{v:ByteArray}(hv:par L c y=some v):1≤v.size∧v∈L.map aw.Parent:=by
 unfold par at hv
 rw[Option.map_eq_some_iff]at hv
 obtain⟨l,h1,rfl⟩:=hv
 have hm:=List.mem_of_find?_eq_some h1
 have h2:=h l hm
 unfold kD at h2
 simp only[Bool.and_eq_true]at h2
 exact⟨(iZ h2.2.1).1,List.mem_map.2 ⟨l,hm,rfl⟩⟩
theorem C0{L:List aw}(hL:L.length≤1048576)(hc: ∀x∈L,kD x=true){place:ByteArray}(hp0:1≤place.size)(y:Int): ∃way b l,kh L place y=some way∧((at' way (aJ ((way.length:Int)- 1))).bind fun x2=>((cS L x2 y).bind fun x3=>some x3.2))=some b∧jr L place y=some (l,!b):=by
 have key: ∀(n:Nat) (out:List ByteArray) (v:ByteArray),rn (place::L.map aw.Parent) out≤n→v∈place::L.map aw.Parent→v∉out→1≤v.size→out.length+rn (place::L.map aw.Parent) out≤1048577→
   ∃way b l,loop (fun(s1:(List ByteArray))=>((at' s1 (aJ ((s1.length:Int)- 1))).bind fun x3=>((cS L x3 y).bind fun x4=>(((bif(!x4.2)then some true else((ct s1 x4.1).bind fun x5=>some x5))).bind fun(j6:Bool)=>(bif j6 then some (.inr s1)else((ed s1 ([x4.1]:List ByteArray)).bind fun x8=>some (.inl x8))))))) (out++[v])=some way∧
   ((at' way (aJ ((way.length:Int)- 1))).bind fun x2=>((cS L x2 y).bind fun x3=>some x3.2))=some b∧
   ((loop (fun(s3:ByteArray×(List ByteArray))=>(bif(!(s3.1.toList==(ByteArray.mk #[]).toList))then((gn s3.2 s3.1).bind fun x5=>(bif(decide (x5≥0))then some (.inr (.inr (([]:List ByteArray),false)))else((ed s3.2 ([s3.1]:List ByteArray)).bind fun x6=>((dQ L s3.1 y).bind fun x7=>some (.inl (x7,x6))))))else some (.inr (.inl s3.2)))) (v,out))).bind (Sum.elim (fun(j1:(List ByteArray))=>some (j1,true)) some)=some (l,!b):=by
  intro n
  induction n with
  | zero=>
   intro out v h1 h2 h3
   have:=vC h2 h3
   omega
  | succ n ih=>
   intro out v h1 h2 h3 hv1 h13
   have hlt:=vC h2 h3
   have hl:out.length≤1048577:=by omega
   have hlen:(out++[v]).length=out.length+1:=by simp
   have hat:at' (out++[v]) (aJ (((out++[v]).length:Int)- 1))=some v:=by
    rw[bp (by omega) (by omega),hlen,show((out.length+1:Nat):Int)- 1=(out.length:Int) by omega,bg]
    simp
   obtain⟨m,hm,hm'⟩:=xg (L:=out) (by omega) v
   have hno:(out.any fun x=>x.toList==v.toList)=false:=by
    rw[Bool.eq_false_iff,ne_eq,any_eq']
    exact h3
   rw[hno]at hm'
   rw[ep]
   conv in loop _ (v,out)=>rw[ep]
   simp only[hat,Option.bind_some,l5 (show L.length≤1048577 by omega),qn hv1,Bool.not_false,cond_true,hm,hm',cond_false,da (show out.length+[v].length≤68719476736 by simp;omega),rc (show L.length≤1048577 by omega)]
   cases ht:par L v y with
   | none=>
    have e0:pS none=(ByteArray.mk #[],false):=rfl
    have e2:((ByteArray.mk #[]).toList==(ByteArray.mk #[]).toList)=true:=nu.2 rfl
    rw[ep]
    simp only[e0,e2,Bool.not_false,Bool.not_true,cond_false,cond_true,Option.bind_some]
    refine⟨out++[v],false,out++[v],rfl,?_,rfl⟩
    rw[hat,Option.bind_some,ht]
    rfl
   | some u=>
    obtain⟨hu1,hu2⟩:=zA hc ht
    have e1:pS (some u)=(u,true):=rfl
    simp only[e1,Bool.not_true,cond_false,contains_eq (show(out++[v]).length≤1000000000 by omega),Option.bind_some]
    by_cases hin:u∈out++[v]
    ·obtain⟨m2,hm2,hm2'⟩:=xg (L:=out++[v]) (by omega) u
     rw[any_eq'.2 hin]at hm2'
     rw[ep]
     simp only[any_eq.2 hin,cond_true,qn hu1,Bool.not_false,hm2,Option.bind_some,hm2']
     refine⟨out++[v],true,[],rfl,?_,rfl⟩
     rw[hat,Option.bind_some,ht]
     rfl
    ·have hnot:((out++[v]).any fun x=>u.toList==x.toList)=false:=by
      rw[Bool.eq_false_iff,ne_eq,any_eq]
      exact hin
     simp only[hnot,cond_false,da (show(out++[v]).length+[u].length≤68719476736 by simp;omega),Option.bind_some]
     have h9:=ih (out++[v]) u (by omega) (List.mem_cons_of_mem _ hu2) hin hu1 (by omega)
     simp only[l5 (show L.length≤1048577 by omega),rc (show L.length≤1048577 by omega),Option.bind_some]at h9
     exact h9
 have h0:rn (place::L.map aw.Parent) []≤1048577:=by
  unfold rn
  have:=List.length_filter_le (fun v=> !(([]:List ByteArray).any fun x=>v.toList==x.toList)) (place::L.map aw.Parent)
  simp only[List.length_cons,List.length_map]at this
  omega
 exact key 1048577 [] place h0 List.mem_cons_self (by simp) hp0 (by simpa using h0)
noncomputable def nz(L:List aw)(p:ByteArray)(y:Int):Bool:=(dD L p y).getD false
theorem uy{L:List aw}(hL:L.length≤1048576)(hc: ∀x∈L,kD x=true){p:ByteArray}(hp:1≤p.size)(y:Int):dD L p y=some (nz L p y)∧ ∃l,jr L p y=some (l,!nz L p y):=by
 obtain⟨way,b,l,h1,h2,h3⟩:=C0 hL hc hp y
 have h4:dD L p y=some b:=by
  unfold dD
  rw[h1,Option.bind_some,h2]
 unfold nz
 rw[h4]
 exact⟨rfl,l,h3⟩
theorem yN{L:List aw}(hL:L.length≤1048577){p:ByteArray}{y:Int}(h:nz L p y=true): ∃d∈L,pK p y d=true:=by
 cases hp:par L p y with
 | some v=>
  unfold par at hp
  rw[Option.map_eq_some_iff]at hp
  obtain⟨l,h1,_⟩:=hp
  exact⟨l,List.mem_of_find?_eq_some h1,List.find?_some h1⟩
 | none=>
  unfold nz dD kh at h
  have e0:pS none=(ByteArray.mk #[],false):=rfl
  have hat:at' [p] (aJ ((([p]:List ByteArray).length:Int)- 1))=some p:=by
   rw[bp (by simp) (by simp)]
   rfl
  rw[ep,hat,Option.bind_some,l5 hL,hp]at h
  simp only[e0,Option.bind_some,Bool.not_false,cond_true,hat,l5 hL,hp]at h
  cases h
def qR(l m:aw):Bool:=(m.Child.toList==l.Child.toList)&&(decide (m.Years.From≤l.Years.To)&&decide (l.Years.From≤m.Years.To))
def um(L:List aw)(i:Nat)(l:aw):Bool:= !kD l || (L.take i).any (qR l)
def okL(L:List aw):Bool:= !(bY (um L) (fun _ _=>()) L 0).isSome
noncomputable def ox(L:List aw):Bool:=L.any fun l=>L.any fun m=>nz L m.Child l.Years.From
noncomputable def eY(L:List aw):Bool:=okL L&&(decide (L.length≤20)&& !ox L)
theorem pf{α:Type}{p:Nat→α→Bool}: ∀{L:List α} {k:Nat},(bY p (fun _ _=>()) L k).isSome=false↔ ∀i x,L[i]? =some x→p (k+i) x=false
 | [],k=>by simp[bY]
 | z::L,k=>by
  unfold bY
  cases hz:p k z
  ·rw[cond_false,pf]
   constructor
   ·intro h i x hx
    cases i with
    | zero=>
     injection hx with hx
     subst hx
     exact hz
    | succ i=>rw[show k+(i+1)=k+1+i by omega];exact h i x hx
   ·intro h i x hx
    have:=h (i+1) x hx
    rwa [show k+(i+1)=k+1+i by omega]at this
  ·rw[cond_true]
   refine⟨fun h=>(by cases h),fun h=> ?_⟩
   have:=h 0 z rfl
   rw[Nat.add_zero,hz]at this
   cases this
theorem xn{L:List aw}:okL L=true↔(∀x∈L,kD x=true)∧ ∀(i j:Nat) x z,i<j→L[i]? =some z→L[j]? =some x→qR x z=false:=by
 unfold okL
 rw[Bool.not_eq_true',pf]
 unfold um
 simp only[Nat.zero_add,Bool.or_eq_false_iff,Bool.not_eq_false',List.any_eq_false]
 constructor
 ·intro h
  refine⟨fun x hx=> ?_,fun i j x z hij hi hj=> ?_⟩
  ·obtain⟨i,hi,rfl⟩:=List.mem_iff_getElem.1 hx
   exact(h i _ (List.getElem?_eq_getElem hi)).1
  ·have:=(h j x hj).2 z (List.mem_of_getElem? (by rw[List.getElem?_take_of_lt hij];exact hi))
   simpa using this
 ·rintro⟨h1,h2⟩ i x hx
  refine⟨h1 x (List.mem_of_getElem? hx),fun z hz=> ?_⟩
  obtain⟨k,hk,rfl⟩:=List.mem_iff_getElem.1 hz
  rw[List.length_take]at hk
  have:=h2 k i x (L.take i)[k] (by omega) (by rw[List.getElem_take];exact List.getElem?_eq_getElem _) hx
  simpa using this
end Go.Proofs.YtdejeagdkfokfaaGreatDoor.Sh
