/- Names: RenameIn of both; bounds on lengths alone. -/
import Derived.Test.YtdejeagdkfokfaaGreatDoorMCH4
namespace Go.Proofs.YtdejeagdkfokfaaGreatDoor.Sh
open Go.RowKit Go.Lib
theorem rL{α:Type}{L:List α}{f:Nat→List α}: ∀(m a:Nat),a+m≤L.length→(∀i,a≤i→i<a+m→f i=(L[i]?).toList)→(List.range' a m).flatMap f=(L.drop a).take m
 | 0,a,_,_=>by simp
 | m+1,a,h,hf=>by
  rw[List.range'_succ,List.flatMap_cons,rL m (a+1) (by omega) (fun i h1 h2=>hf i (by omega) (by omega)),hf a (Nat.le_refl _) (by omega),List.getElem?_eq_getElem (by omega)]
  rw[show(L.drop a)=L[a]::L.drop (a+1)from List.drop_eq_getElem_cons (by omega)]
  rfl
theorem BY{α:Type}{L R:List α}{k:Nat}(hk:k<L.length){f:Nat→List α}(h1:f k=R)(h2: ∀i,i<L.length→i≠k→f i=(L[i]?).toList):(List.range L.length).flatMap f=L.take k++R++L.drop (k+1):=by
 have e:List.range L.length=List.range' 0 k++(k::List.range' (k+1) (L.length -(k+1))):=by
  rw[←List.range'_succ,show L.length -(k+1)+1=L.length - k by omega]
  have:=List.range'_append (s:=0) (m:=k) (n:=L.length - k) (step:=1)
  rw[Nat.one_mul,Nat.zero_add,show k+(L.length - k)=L.length by omega]at this
  rw[this,List.range_eq_range']
 have hd:(L.drop (k+1)).take (L.length -(k+1))=L.drop (k+1):=List.take_of_length_le (by rw[List.length_drop];exact Nat.le_refl _)
 rw[e,List.flatMap_append,List.flatMap_cons,h1,rL k 0 (by omega) (fun i _ h=>h2 i (by omega) (by omega)),rL (L.length -(k+1)) (k+1) (by omega) (fun i h h'=>h2 i (by omega) (by omega)),List.drop_zero,hd,List.append_assoc]
def jS(L:List Name)(k:Nat)(x:Name)(y:Int):List Name:=L.take k++(bif x.Years.From==y then[]else[Name.mk x.Text x.Language x.Status (Span.mk x.Years.From (y - 1))])++L.drop (k+1)
def kT(x:Name)(y:Int)(t:ByteArray):Name:=Name.mk t x.Language 0 (Span.mk y x.Years.To)
theorem vJ{L:List Name}{k:Nat}(hk:k<L.length)(x:Name)(y:Int):(jS L k x y).length≤L.length:=by
 unfold jS
 have:(bif x.Years.From==y then[]else[Name.mk x.Text x.Language x.Status (Span.mk x.Years.From (y - 1))]).length≤1:=by
  cases x.Years.From==y<;>simp
 simp only[List.length_append,List.length_take,List.length_drop]
 omega
theorem Cg{α:Type}{L:List α}{k:Nat}(hk:k<L.length)(x:α):L.set k x=L.take k++[x]++L.drop (k+1):=by
 rw[List.set_eq_take_append_cons_drop,if_pos hk,List.append_assoc]
 rfl
theorem p5{L:List Name}(hL:L.length≤12){k:Nat}{x:Name}(hx:L[k]? =some x){y:Int}(hy:dD y (-3000) 3000=true)(t:ByteArray):iI L (k:Int) y t=some (jS L k x y++[kT x y t]):=by
 have hk:=(List.getElem?_eq_some_iff.1 hx).1
 have h1:=e8.1 hy
 unfold iI du
 rw[if_pos (by omega)]
 simp only[Option.bind_some,bk,hx,Int.toNat_natCast]
 rw[bq (n:=y - 1) (by omega) (by omega)]
 have hs:(L.set k (Name.mk x.Text x.Language x.Status (Span.mk x.Years.From (y - 1))))[k]? =some (Name.mk x.Text x.Language x.Status (Span.mk x.Years.From (y - 1))):=by
  rw[List.getElem?_set_self hk]
 rw[hs]
 have hm:=vJ hk x y
 have happ:=dj (show(jS L k x y).length+[kT x y t].length≤68719476736 by simp;omega)
 unfold jS kT at*
 simp only[Option.bind_some]
 cases hf:x.Years.From==y
 ·simp only[cond_false,Option.bind_some]
  rw[hf]at happ
  rw[Cg hk]
  simp only[cond_false]at happ
  rw[happ]
  rfl
 ·simp only[cond_true]
  rw[hf]at happ
  unfold dS
  rw[bq (by omega) (by omega),if_pos ⟨by omega,rfl,by rw[List.length_set];omega,by rw[List.length_set];omega⟩,Int.toNat_natCast]
  have he:(L.set k (Name.mk x.Text x.Language x.Status (Span.mk x.Years.From (y - 1)))).eraseIdx k=L.take k++[]++L.drop (k+1):=by
   rw[List.eraseIdx_set_eq,List.eraseIdx_eq_take_drop_succ,List.append_nil]
  simp only[Option.bind_some,he]
  simp only[cond_true]at happ
  rw[happ]
  rfl
theorem qy{L:List Name}(hL:L.length≤12){k:Nat}{x:Name}(hx:L[k]? =some x){y:Int}(hy:dD y (-3000) 3000=true)(t:ByteArray):gg L (k:Int) y t=some (jS L k x y++[kT x y t]):=by
 have hk:=(List.getElem?_eq_some_iff.1 hx).1
 have h1:=e8.1 hy
 unfold gg
 rw[bk,hx,Option.bind_some,bq (n:=y - 1) (by omega) (by omega)]
 rw[ri 100 (by omega) (by omega) (fun i=>if i=k then(bif x.Years.From==y then[]else[Name.mk x.Text x.Language x.Status (Span.mk x.Years.From (y - 1))])else(L[i]?).toList) (fun i=>by
  split
  ·cases x.Years.From==y<;>simp
  ·cases L[i]? <;>simp) [] (by simp;omega) (fun i s hi hs=>by
  have hz:L[i]? =some L[i]:=List.getElem?_eq_getElem hi
  rw[bk,hz,Option.bind_some]
  have happ: ∀z:Name,eg s [z]=some (s++[z]):=fun z=>dj (by simp;omega)
  by_cases hik:i=k
  ·subst hik
   have hxz:L[i]=x:=by rw[hx]at hz;injection hz with hz;exact hz.symm
   have:((i:Int)==(i:Int))=true:=by simp
   rw[this,if_pos rfl,hxz]
   cases x.Years.From==y<;>simp[happ]
  ·have:((i:Int)==(k:Int))=false:=by simp;omega
   rw[this,if_neg hik]
   simp[happ])]
 rw[BY hk (if_pos rfl) (fun i hi hne=>if_neg hne)]
 have hm:=vJ hk x y
 have happ:=dj (show(jS L k x y).length+[kT x y t].length≤68719476736 by simp;omega)
 unfold jS kT at*
 simp only[List.nil_append,Option.bind_some]
 rw[happ]
 rfl
def sF(L:List Name)(c:ByteArray)(y:Int)(t:ByteArray):List Name×Int:=bif fe t then(bif kY L c y==0 then(match L[(cB (ib c y) L).toNat]? with
  | some x=>bif decide (cB (ib c y) L<0)then([],4)else bif decide ((jS L (cB (ib c y) L).toNat x y++[kT x y t]).length>12)then([],3)else(jS L (cB (ib c y) L).toNat x y++[kT x y t],0)
  | none=>([],4))else([],kY L c y))else([],1)
theorem wK{L:List Name}{c:ByteArray}{y:Int}(h:(kY L c y==0)=true):ia L=true∧jc c=true∧dD y (-3000) 3000=true:=by
 unfold kY at h
 cases h1:ia L&&jc c
 ·rw[h1]at h
  simp at h
 ·rw[Bool.and_eq_true]at h1
  refine⟨h1.1,h1.2,?_⟩
  cases h2:dD y (-3000) 3000
  ·rw[h1.1,h1.2,h2]at h
   simp at h
  ·rfl
theorem Dm{α:Type}(L:List α)(k:Nat):decide ((L.length:Int)>(k:Int))=decide (L.length>k):=by
 by_cases h:L.length>k
 ·rw[decide_eq_true h,decide_eq_true (by omega)]
 ·rw[decide_eq_false h,decide_eq_false (by omega)]
theorem vQ{L:List Name}(hL:L.length≤1048576)(h: ∀x∈L,NmR x){c t:ByteArray}(hc:c.size≤1048576)(ht:t.size≤4294967280)(y:Int):gK L c y t=some (sF L c y t)∧gR L c y t=some (sF L c y t):=by
 unfold gK gR sF
 rw[kS t ht,kX t ht,Option.bind_some,Option.bind_some]
 cases fe t
 ·exact⟨rfl,rfl⟩
 simp only[Bool.not_true,cond_false,cond_true]
 rw[zU hL h hc,xb hL h hc,Option.bind_some,Option.bind_some]
 cases hz:kY L c y==0
 ·simp only[cond_false,bne,hz,Bool.not_false,cond_true,and_self]
 obtain⟨hn,_,hy⟩:=wK hz
 have hl12:L.length≤12:=by
  unfold ia at hn
  simp only[Bool.and_eq_true,decide_eq_true_eq]at hn
  exact hn.2
 simp only[cond_true,bne,hz,Bool.not_true,cond_false]
 rw[Am hl12 c y,Option.bind_some]
 by_cases h0:cB (ib c y) L<0
 ·simp only[decide_eq_true h0,cond_true]
  cases L[(cB (ib c y) L).toNat]? <;>exact⟨rfl,rfl⟩
 ·obtain⟨k,hk⟩:=Int.eq_ofNat_of_zero_le (show 0≤cB (ib c y) L by omega)
  obtain⟨x,hx,_⟩:=rl (ib c y) hk
  simp only[decide_eq_false h0,cond_false]
  rw[hk]
  simp only[Int.toNat_natCast,hx,p5 hl12 hx hy,qy hl12 hx hy,Option.bind_some]
  have e:=Dm (jS L k x y++[kT x y t]) 12
  have e:decide (((jS L k x y++[kT x y t]).length:Int)>12)=decide ((jS L k x y++[kT x y t]).length>12):=e
  rw[e]
  have e2:decide ((Int.ofNat k)<0)=false:=decide_eq_false (by simp)
  cases decide ((jS L k x y++[kT x y t]).length>12)<;>simp
end Go.Proofs.YtdejeagdkfokfaaGreatDoor.Sh
