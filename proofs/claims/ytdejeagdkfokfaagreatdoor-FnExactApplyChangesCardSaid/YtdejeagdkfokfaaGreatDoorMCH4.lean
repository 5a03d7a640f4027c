/- Names: RenameIn of both; bounds on lengths alone. -/
import Derived.Test.YtdejeagdkfokfaaGreatDoorMCH3
import Derived.Test.YtdejeagdkfokfaaGreatDoorKD
namespace Go.Proofs.YtdejeagdkfokfaaGreatDoor.Sh
open Go.RowKit Go.Lib
def mD(y:Int)(n:Name):Bool:=dD y n.Years.From n.Years.To
def ib(c:ByteArray)(y:Int)(n:Name):Bool:=((n.Status==0)&&(n.Language.toList==c.toList))&&mD y n
def kY(L:List Name)(c:ByteArray)(y:Int):Int:=bif ia L&&jc c then bif dD y (-3000) 3000 then 0 else 2 else 1
theorem zU{L:List Name}(hL:L.length≤1048576)(h: ∀x∈L,NmR x){c:ByteArray}(hc:c.size≤1048576)(y:Int):fi L c y=some (bif kY L c y==0 then(bif decide (cB (ib c y) L<0)then(0,4)else(cB (ib c y) L,0))else(0,kY L c y)):=by
 unfold fi bT fM cR bN ea kY
 rw[ng hL h,o5 _ (by simp only[maxLen];omega),iQ (by omega) (ib c y) (fun i x hx=>by
  simp only[bk,hx,Option.bind_some,dd]
  unfold ib mD
  cases x.Status==0<;>cases x.Language.toList==c.toList<;>rfl)]
 simp only[Option.bind_some,dd]
 generalize cB (ib c y) L=k
 cases ia L<;>cases jc c<;>cases dD y (-3000) 3000<;>cases decide (k<0)<;>rfl
theorem xb{L:List Name}(hL:L.length≤1048576)(h: ∀x∈L,NmR x){c:ByteArray}(hc:c.size≤1048576)(y:Int):iV L c y=some (kY L c y):=by
 unfold iV cY kY
 rw[nn hL h,Option.bind_some,pA _ (by simp only[maxLen];omega)]
 simp only[Option.bind_some,eb]
 cases ia L<;>cases jc c<;>cases dD y (-3000) 3000<;>rfl
def jL{α:Type}(L:List α)(u:α→Bool)(i:Nat):List Int:=match L[i]? with
 | some x=>bif u x then[(i:Int)]else[]
 | none=>[]
theorem r9{α:Type}(L:List α)(u:α→Bool)(i:Nat):(jL L u i).length≤1:=by
 unfold jL
 cases L[i]? with
 | none=>simp
 | some x=>exact qA _ _
theorem wu{α:Type}(L:List α)(u q:α→Bool): ∀(M:List α) (k m:Nat),L.drop k=M→cb (fun _ (i:Int)=>(L[i.toNat]?).any q) (fun _ i=>i) ((List.range' k M.length).flatMap (jL L u)) m=bif decide (cB (fun x=>q x&&u x) M<0)then none else some (cB (fun x=>q x&&u x) M+k)
 | [],k,m,_=>rfl
 | x::M,k,m,hd=>by
  have hx:L[k]? =some x:=by
   have:=List.getElem?_drop (xs:=L) (i:=k) (j:=0)
   rw[hd]at this
   simpa using this.symm
  have hd':L.drop (k+1)=M:=by rw[←List.drop_drop,hd];rfl
  have ih:=fun m=>wu L u q M (k+1) m hd'
  have hf:jL L u k=bif u x then[(k:Int)]else[]:=by unfold jL;rw[hx]
  rw[List.length_cons,List.range'_succ,List.flatMap_cons,hf]
  have hlt:=(lF (fun x=>q x&&u x) M).1
  unfold cB
  cases hu:u x
  ·simp only[Bool.and_false,cond_false,List.nil_append]
   rw[ih m]
   by_cases h0:cB (fun x=>q x&&u x) M<0
   ·simp only[decide_eq_true h0,cond_true]
    rfl
   ·simp only[decide_eq_false h0,cond_false]
    rw[decide_eq_false (by omega),cond_false]
    congr 1
    omega
  ·simp only[Bool.and_true,cond_true,List.singleton_append]
   unfold cb
   simp only[Int.toNat_natCast,hx,Option.any_some]
   cases hq:q x
   ·simp only[cond_false]
    rw[ih (m+1)]
    by_cases h0:cB (fun x=>q x&&u x) M<0
    ·simp only[decide_eq_true h0,cond_true]
     rfl
    ·simp only[decide_eq_false h0,cond_false]
     rw[decide_eq_false (by omega),cond_false]
     congr 1
     omega
   ·simp only[cond_true]
    rw[decide_eq_false (by omega),cond_false]
    simp
theorem Am{L:List Name}(hL:L.length≤12)(c:ByteArray)(y:Int):eP L c y=some (cB (ib c y) L):=by
 unfold eP jU
 rw[ri 100 (by omega) (by omega) (jL L (mD y)) (r9 L _) [] (by simp;omega) (fun i s hi hs=>by
  have hx:L[i]? =some L[i]:=List.getElem?_eq_getElem hi
  simp only[bk,hx,Option.bind_some,eb]
  rw[dj (by simp;omega)]
  have hu:jL L (mD y) i=bif dD y L[i].Years.From L[i].Years.To then[(i:Int)]else[]:=by
   unfold jL
   rw[hx]
   rfl
  rw[hu]
  cases dD y L[i].Years.From L[i].Years.To<;>simp)]
 have hmem: ∀(k:Nat) (i:Int),((List.range L.length).flatMap (jL L (mD y)))[k]? =some i→ ∃(j:Nat) (x:Name),i=j∧L[j]? =some x:=fun k i h=>by
  obtain⟨j,hj,hi⟩:=List.mem_flatMap.1 (List.mem_of_getElem? h)
  have hx:L[j]? =some (L[j]'(List.mem_range.1 hj)):=List.getElem?_eq_getElem _
  refine⟨j,_,?_,hx⟩
  unfold jL at hi
  rw[hx]at hi
  simp only at hi
  cases hu:mD y (L[j]'(List.mem_range.1 hj))<;>rw[hu]at hi<;>simp at hi
  all_goals exact hi
 have hlen:((List.range L.length).flatMap (jL L (mD y))).length≤1000:=by
  have: ∀M:List Nat,(M.flatMap (jL L (mD y))).length≤M.length:=fun M=>by
   induction M with
   | nil=>simp
   | cons i M ih=>
    rw[List.flatMap_cons,List.length_append,List.length_cons]
    have:=r9 L (mD y) i
    omega
  have:=this (List.range L.length)
  rw[List.length_range]at this
  omega
 simp only[List.nil_append,Option.bind_some]
 rw[fb (by omega) (fun _ (i:Int)=>(L[i.toNat]?).any fun n=>(n.Status==0)&&(n.Language.toList==c.toList)) (fun _ i=>i) (fun k i hk=>by
  obtain⟨j,x,rfl,hx⟩:=hmem k i hk
  simp only[bk,hk,hx,Option.bind_some,Int.toNat_natCast,Option.any_some])]
 rw[List.range_eq_range',wu L (mD y) (fun n=>(n.Status==0)&&(n.Language.toList==c.toList)) L 0 0 rfl]
 have e:cB (fun x=>((x.Status==0)&&(x.Language.toList==c.toList))&&mD y x) L=cB (ib c y) L:=rfl
 have hlt:=(lF (ib c y) L).1
 rw[e]
 by_cases h0:cB (ib c y) L<0
 ·rw[decide_eq_true h0]
  simp only[cond_true]
  congr 1
  omega
 ·rw[decide_eq_false h0]
  simp
end Go.Proofs.YtdejeagdkfokfaaGreatDoor.Sh
