/- Names: RenameIn of both; bounds on lengths alone. -/
import Derived.Test.YtdejeagdkfokfaaGreatDoorMCH3
import Derived.Test.YtdejeagdkfokfaaGreatDoorKD
namespace Go.Proofs.YtdejeagdkfokfaaGreatDoor.Sh
open Go.RowKit Go.Lib
def lC(y:Int)(n:Name):Bool:=c6 y n.Years.From n.Years.To
def gv(c:ByteArray)(y:Int)(n:Name):Bool:=((n.Status==0)&&(n.Language.toList==c.toList))&&lC y n
def kf(L:List Name)(c:ByteArray)(y:Int):Int:=bif gu L&&im c then bif c6 y (-3000) 3000 then 0 else 2 else 1
theorem xK{L:List Name}(hL:L.length≤1048576)(h: ∀x∈L,NmR x){c:ByteArray}(hc:c.size≤1048576)(y:Int):eK L c y=some (bif kf L c y==0 then(bif decide (ci (gv c y) L<0)then(0,4)else(ci (gv c y) L,0))else(0,kf L c y)):=by
 unfold eK bJ fe cA bF dI kf
 rw[mc hL h,nM _ (by simp only[maxLen];omega),gY (by omega) (gv c y) (fun i x hx=>by
  simp only[bh,hx,Option.bind_some,cX]
  unfold gv lC
  cases x.Status==0<;>cases x.Language.toList==c.toList<;>rfl)]
 simp only[Option.bind_some,cX]
 generalize ci (gv c y) L=k
 cases gu L<;>cases im c<;>cases c6 y (-3000) 3000<;>cases decide (k<0)<;>rfl
theorem uY{L:List Name}(hL:L.length≤1048576)(h: ∀x∈L,NmR x){c:ByteArray}(hc:c.size≤1048576)(y:Int):hU L c y=some (kf L c y):=by
 unfold hU cK kf
 rw[ml hL h,Option.bind_some,oj _ (by simp only[maxLen];omega)]
 simp only[Option.bind_some,dJ]
 cases gu L<;>cases im c<;>cases c6 y (-3000) 3000<;>rfl
def iV{α:Type}(L:List α)(u:α→Bool)(i:Nat):List Int:=match L[i]? with
 | some x=>bif u x then[(i:Int)]else[]
 | none=>[]
theorem qw{α:Type}(L:List α)(u:α→Bool)(i:Nat):(iV L u i).length≤1:=by
 unfold iV
 cases L[i]? with
 | none=>simp
 | some x=>exact pj _ _
theorem tZ{α:Type}(L:List α)(u q:α→Bool): ∀(M:List α) (k m:Nat),L.drop k=M→bV (fun _ (i:Int)=>(L[i.toNat]?).any q) (fun _ i=>i) ((List.range' k M.length).flatMap (iV L u)) m=bif decide (ci (fun x=>q x&&u x) M<0)then none else some (ci (fun x=>q x&&u x) M+k)
 | [],k,m,_=>rfl
 | x::M,k,m,hd=>by
  have hx:L[k]? =some x:=by
   have:=List.getElem?_drop (xs:=L) (i:=k) (j:=0)
   rw[hd]at this
   simpa using this.symm
  have hd':L.drop (k+1)=M:=by rw[←List.drop_drop,hd];rfl
  have ih:=fun m=>tZ L u q M (k+1) m hd'
  have hf:iV L u k=bif u x then[(k:Int)]else[]:=by unfold iV;rw[hx]
  rw[List.length_cons,List.range'_succ,List.flatMap_cons,hf]
  have hlt:=(kC (fun x=>q x&&u x) M).1
  unfold ci
  cases hu:u x
  ·simp only[Bool.and_false,cond_false,List.nil_append]
   rw[ih m]
   by_cases h0:ci (fun x=>q x&&u x) M<0
   ·simp only[decide_eq_true h0,cond_true]
    rfl
   ·simp only[decide_eq_false h0,cond_false]
    rw[decide_eq_false (by omega),cond_false]
    congr 1
    omega
  ·simp only[Bool.and_true,cond_true,List.singleton_append]
   unfold bV
   simp only[Int.toNat_natCast,hx,Option.any_some]
   cases hq:q x
   ·simp only[cond_false]
    rw[ih (m+1)]
    by_cases h0:ci (fun x=>q x&&u x) M<0
    ·simp only[decide_eq_true h0,cond_true]
     rfl
    ·simp only[decide_eq_false h0,cond_false]
     rw[decide_eq_false (by omega),cond_false]
     congr 1
     omega
   ·simp only[cond_true]
    rw[decide_eq_false (by omega),cond_false]
    simp
theorem yd{L:List Name}(hL:L.length≤12)(c:ByteArray)(y:Int):eg L c y=some (ci (gv c y) L):=by
 unfold eg je
 rw[pU 100 (by omega) (by omega) (iV L (lC y)) (qw L _) [] (by simp;omega) (fun i s hi hs=>by
  have hx:L[i]? =some L[i]:=List.getElem?_eq_getElem hi
  simp only[bh,hx,Option.bind_some,dJ]
  rw[c9 (by simp;omega)]
  have hu:iV L (lC y) i=bif c6 y L[i].Years.From L[i].Years.To then[(i:Int)]else[]:=by
   unfold iV
   rw[hx]
   rfl
  rw[hu]
  cases c6 y L[i].Years.From L[i].Years.To<;>simp)]
 have hmem: ∀(k:Nat) (i:Int),((List.range L.length).flatMap (iV L (lC y)))[k]? =some i→ ∃(j:Nat) (x:Name),i=j∧L[j]? =some x:=fun k i h=>by
  obtain⟨j,hj,hi⟩:=List.mem_flatMap.1 (List.mem_of_getElem? h)
  have hx:L[j]? =some (L[j]'(List.mem_range.1 hj)):=List.getElem?_eq_getElem _
  refine⟨j,_,?_,hx⟩
  unfold iV at hi
  rw[hx]at hi
  simp only at hi
  cases hu:lC y (L[j]'(List.mem_range.1 hj))<;>rw[hu]at hi<;>simp at hi
  all_goals exact hi
 have hlen:((List.range L.length).flatMap (iV L (lC y))).length≤1000:=by
  have: ∀M:List Nat,(M.flatMap (iV L (lC y))).length≤M.length:=fun M=>by
   induction M with
   | nil=>simp
   | cons i M ih=>
    rw[List.flatMap_cons,List.length_append,List.length_cons]
    have:=qw L (lC y) i
    omega
  have:=this (List.range L.length)
  rw[List.length_range]at this
  omega
 simp only[List.nil_append,Option.bind_some]
 rw[eB (by omega) (fun _ (i:Int)=>(L[i.toNat]?).any fun n=>(n.Status==0)&&(n.Language.toList==c.toList)) (fun _ i=>i) (fun k i hk=>by
  obtain⟨j,x,rfl,hx⟩:=hmem k i hk
  simp only[bh,hk,hx,Option.bind_some,Int.toNat_natCast,Option.any_some])]
 rw[List.range_eq_range',tZ L (lC y) (fun n=>(n.Status==0)&&(n.Language.toList==c.toList)) L 0 0 rfl]
 have e:ci (fun x=>((x.Status==0)&&(x.Language.toList==c.toList))&&lC y x) L=ci (gv c y) L:=rfl
 have hlt:=(kC (gv c y) L).1
 rw[e]
 by_cases h0:ci (gv c y) L<0
 ·rw[decide_eq_true h0]
  simp only[cond_true]
  congr 1
  omega
 ·rw[decide_eq_false h0]
  simp
end Go.Proofs.YtdejeagdkfokfaaGreatDoor.Sh
