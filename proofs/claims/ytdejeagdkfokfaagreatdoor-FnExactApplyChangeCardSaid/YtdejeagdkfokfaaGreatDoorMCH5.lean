/- Names: RenameIn of both; bounds on lengths alone. -/
import Derived.Test.YtdejeagdkfokfaaGreatDoorMCH4
namespace Go.Proofs.YtdejeagdkfokfaaGreatDoor.Sh
open Go.RowKit Go.Lib
theorem q6{α:Type}{L:List α}{f:Nat→List α}: ∀(m a:Nat),a+m≤L.length→(∀i,a≤i→i<a+m→f i=(L[i]?).toList)→(List.range' a m).flatMap f=(L.drop a).take m
 | 0,a,_,_=>by simp
 | m+1,a,h,hf=>by
  rw[List.range'_succ,List.flatMap_cons,q6 m (a+1) (by omega) (fun i h1 h2=>hf i (by omega) (by omega)),hf a (Nat.le_refl _) (by omega),List.getElem?_eq_getElem (by omega)]
  rw[show(L.drop a)=L[a]::L.drop (a+1)from List.drop_eq_getElem_cons (by omega)]
  rfl
theorem Bo{α:Type}{L R:List α}{k:Nat}(hk:k<L.length){f:Nat→List α}(h1:f k=R)(h2: ∀i,i<L.length→i≠k→f i=(L[i]?).toList):(List.range L.length).flatMap f=L.take k++R++L.drop (k+1):=by
 have e:List.range L.length=List.range' 0 k++(k::List.range' (k+1) (L.length -(k+1))):=by
  rw[←List.range'_succ,show L.length -(k+1)+1=L.length - k by omega]
  have:=List.range'_append (s:=0) (m:=k) (n:=L.length - k) (step:=1)
  rw[Nat.one_mul,Nat.zero_add,show k+(L.length - k)=L.length by omega]at this
  rw[this,List.range_eq_range']
 have hd:(L.drop (k+1)).take (L.length -(k+1))=L.drop (k+1):=List.take_of_length_le (by rw[List.length_drop];exact Nat.le_refl _)
 rw[e,List.flatMap_append,List.flatMap_cons,h1,q6 k 0 (by omega) (fun i _ h=>h2 i (by omega) (by omega)),q6 (L.length -(k+1)) (k+1) (by omega) (fun i h h'=>h2 i (by omega) (by omega)),List.drop_zero,hd,List.append_assoc]
def jO(L:List Name)(k:Nat)(x:Name)(y:Int):List Name:=L.take k++(bif x.Years.From==y then[]else[Name.mk x.Text x.Language x.Status (Span.mk x.Years.From (y - 1))])++L.drop (k+1)
def kO(x:Name)(y:Int)(t:ByteArray):Name:=Name.mk t x.Language 0 (Span.mk y x.Years.To)
theorem u5{L:List Name}{k:Nat}(hk:k<L.length)(x:Name)(y:Int):(jO L k x y).length≤L.length:=by
 unfold jO
 have:(bif x.Years.From==y then[]else[Name.mk x.Text x.Language x.Status (Span.mk x.Years.From (y - 1))]).length≤1:=by
  cases x.Years.From==y<;>simp
 simp only[List.length_append,List.length_take,List.length_drop]
 omega
theorem BH{α:Type}{L:List α}{k:Nat}(hk:k<L.length)(x:α):L.set k x=L.take k++[x]++L.drop (k+1):=by
 rw[List.set_eq_take_append_cons_drop,if_pos hk,List.append_assoc]
 rfl
theorem pB{L:List Name}(hL:L.length≤12){k:Nat}{x:Name}(hx:L[k]? =some x){y:Int}(hy:dy y (-3000) 3000=true)(t:ByteArray):iu L (k:Int) y t=some (jO L k x y++[kO x y t]):=by
 have hk:=(List.getElem?_eq_some_iff.1 hx).1
 have h1:=eX.1 hy
 unfold iu dg
 rw[if_pos (by omega)]
 simp only[Option.bind_some,bg,hx,Int.toNat_natCast]
 rw[bp (n:=y - 1) (by omega) (by omega)]
 have hs:(L.set k (Name.mk x.Text x.Language x.Status (Span.mk x.Years.From (y - 1))))[k]? =some (Name.mk x.Text x.Language x.Status (Span.mk x.Years.From (y - 1))):=by
  rw[List.getElem?_set_self hk]
 rw[hs]
 have hm:=u5 hk x y
 have happ:=da (show(jO L k x y).length+[kO x y t].length≤68719476736 by simp;omega)
 unfold jO kO at*
 simp only[Option.bind_some]
 cases hf:x.Years.From==y
 ·simp only[cond_false,Option.bind_some]
  rw[hf]at happ
  rw[BH hk]
  simp only[cond_false]at happ
  rw[happ]
  rfl
 ·simp only[cond_true]
  rw[hf]at happ
  unfold dO
  rw[bp (by omega) (by omega),if_pos ⟨by omega,rfl,by rw[List.length_set];omega,by rw[List.length_set];omega⟩,Int.toNat_natCast]
  have he:(L.set k (Name.mk x.Text x.Language x.Status (Span.mk x.Years.From (y - 1)))).eraseIdx k=L.take k++[]++L.drop (k+1):=by
   rw[List.eraseIdx_set_eq,List.eraseIdx_eq_take_drop_succ,List.append_nil]
  simp only[Option.bind_some,he]
  simp only[cond_true]at happ
  rw[happ]
  rfl
theorem p5{L:List Name}(hL:L.length≤12){k:Nat}{x:Name}(hx:L[k]? =some x){y:Int}(hy:dy y (-3000) 3000=true)(t:ByteArray):fS L (k:Int) y t=some (jO L k x y++[kO x y t]):=by
 have hk:=(List.getElem?_eq_some_iff.1 hx).1
 have h1:=eX.1 hy
 unfold fS
 rw[bg,hx,Option.bind_some,bp (n:=y - 1) (by omega) (by omega)]
 rw[qF 100 (by omega) (by omega) (fun i=>if i=k then(bif x.Years.From==y then[]else[Name.mk x.Text x.Language x.Status (Span.mk x.Years.From (y - 1))])else(L[i]?).toList) (fun i=>by
  split
  ·cases x.Years.From==y<;>simp
  ·cases L[i]? <;>simp) [] (by simp;omega) (fun i s hi hs=>by
  have hz:L[i]? =some L[i]:=List.getElem?_eq_getElem hi
  rw[bg,hz,Option.bind_some]
  have happ: ∀z:Name,ed s [z]=some (s++[z]):=fun z=>da (by simp;omega)
  by_cases hik:i=k
  ·subst hik
   have hxz:L[i]=x:=by rw[hx]at hz;injection hz with hz;exact hz.symm
   have:((i:Int)==(i:Int))=true:=by simp
   rw[this,if_pos rfl,hxz]
   cases x.Years.From==y<;>simp[happ]
  ·have:((i:Int)==(k:Int))=false:=by simp;omega
   rw[this,if_neg hik]
   simp[happ])]
 rw[Bo hk (if_pos rfl) (fun i hi hne=>if_neg hne)]
 have hm:=u5 hk x y
 have happ:=da (show(jO L k x y).length+[kO x y t].length≤68719476736 by simp;omega)
 unfold jO kO at*
 simp only[List.nil_append,Option.bind_some]
 rw[happ]
 rfl
def rQ(L:List Name)(c:ByteArray)(y:Int)(t:ByteArray):List Name×Int:=bif e7 t then(bif kT L c y==0 then(match L[(cr (gR c y) L).toNat]? with
  | some x=>bif decide (cr (gR c y) L<0)then([],4)else bif decide ((jO L (cr (gR c y) L).toNat x y++[kO x y t]).length>12)then([],3)else(jO L (cr (gR c y) L).toNat x y++[kO x y t],0)
  | none=>([],4))else([],kT L c y))else([],1)
theorem vS{L:List Name}{c:ByteArray}{y:Int}(h:(kT L c y==0)=true):gQ L=true∧iU c=true∧dy y (-3000) 3000=true:=by
 unfold kT at h
 cases h1:gQ L&&iU c
 ·rw[h1]at h
  simp at h
 ·rw[Bool.and_eq_true]at h1
  refine⟨h1.1,h1.2,?_⟩
  cases h2:dy y (-3000) 3000
  ·rw[h1.1,h1.2,h2]at h
   simp at h
  ·rfl
theorem CH{α:Type}(L:List α)(k:Nat):decide ((L.length:Int)>(k:Int))=decide (L.length>k):=by
 by_cases h:L.length>k
 ·rw[decide_eq_true h,decide_eq_true (by omega)]
 ·rw[decide_eq_false h,decide_eq_false (by omega)]
theorem vf{L:List Name}(hL:L.length≤1048576)(h: ∀x∈L,NmR x){c t:ByteArray}(hc:c.size≤1048576)(ht:t.size≤4294967280)(y:Int):gx L c y t=some (rQ L c y t)∧gF L c y t=some (rQ L c y t):=by
 unfold gx gF rQ
 rw[kN t ht,kR t ht,Option.bind_some,Option.bind_some]
 cases e7 t
 ·exact⟨rfl,rfl⟩
 simp only[Bool.not_true,cond_false,cond_true]
 rw[zm hL h hc,wC hL h hc,Option.bind_some,Option.bind_some]
 cases hz:kT L c y==0
 ·simp only[cond_false,bne,hz,Bool.not_false,cond_true,and_self]
 obtain⟨hn,_,hy⟩:=vS hz
 have hl12:L.length≤12:=by
  unfold gQ at hn
  simp only[Bool.and_eq_true,decide_eq_true_eq]at hn
  exact hn.2
 simp only[cond_true,bne,hz,Bool.not_true,cond_false]
 rw[zJ hl12 c y,Option.bind_some]
 by_cases h0:cr (gR c y) L<0
 ·simp only[decide_eq_true h0,cond_true]
  cases L[(cr (gR c y) L).toNat]? <;>exact⟨rfl,rfl⟩
 ·obtain⟨k,hk⟩:=Int.eq_ofNat_of_zero_le (show 0≤cr (gR c y) L by omega)
  obtain⟨x,hx,_⟩:=qH (gR c y) hk
  simp only[decide_eq_false h0,cond_false]
  rw[hk]
  simp only[Int.toNat_natCast,hx,pB hl12 hx hy,p5 hl12 hx hy,Option.bind_some]
  have e:=CH (jO L k x y++[kO x y t]) 12
  have e:decide (((jO L k x y++[kO x y t]).length:Int)>12)=decide ((jO L k x y++[kO x y t]).length>12):=e
  rw[e]
  have e2:decide ((Int.ofNat k)<0)=false:=decide_eq_false (by simp)
  cases decide ((jO L k x y++[kO x y t]).length>12)<;>simp
end Go.Proofs.YtdejeagdkfokfaaGreatDoor.Sh
