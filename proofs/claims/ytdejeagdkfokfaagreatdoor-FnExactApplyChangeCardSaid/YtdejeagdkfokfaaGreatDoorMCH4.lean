/- Names: RenameIn of both; bounds on lengths alone. -/
import Derived.Test.YtdejeagdkfokfaaGreatDoorMCH3
import Derived.Test.YtdejeagdkfokfaaGreatDoorKD
namespace Go.Proofs.YtdejeagdkfokfaaGreatDoor.Sh
open Go.RowKit Go.Lib
def mi(y:Int)(n:Name):Bool:=dy y n.Years.From n.Years.To
def gR(c:ByteArray)(y:Int)(n:Name):Bool:=((n.Status==0)&&(n.Language.toList==c.toList))&&mi y n
def kT(L:List Name)(c:ByteArray)(y:Int):Int:=bif gQ L&&iU c then bif dy y (-3000) 3000 then 0 else 2 else 1
theorem zm{L:List Name}(hL:L.length≤1048576)(h: ∀x∈L,NmR x){c:ByteArray}(hc:c.size≤1048576)(y:Int):fb L c y=some (bif kT L c y==0 then(bif decide (cr (gR c y) L<0)then(0,4)else(cr (gR c y) L,0))else(0,kT L c y)):=by
 unfold fb bL fE cN bH dX kT
 rw[mQ hL h,oB _ (by simp only[maxLen];omega),iD (by omega) (gR c y) (fun i x hx=>by
  simp only[bg,hx,Option.bind_some,c7]
  unfold gR mi
  cases x.Status==0<;>cases x.Language.toList==c.toList<;>rfl)]
 simp only[Option.bind_some,c7]
 generalize cr (gR c y) L=k
 cases gQ L<;>cases iU c<;>cases dy y (-3000) 3000<;>cases decide (k<0)<;>rfl
theorem wC{L:List Name}(hL:L.length≤1048576)(h: ∀x∈L,NmR x){c:ByteArray}(hc:c.size≤1048576)(y:Int):iJ L c y=some (kT L c y):=by
 unfold iJ cU kT
 rw[mV hL h,Option.bind_some,o4 _ (by simp only[maxLen];omega)]
 simp only[Option.bind_some,dY]
 cases gQ L<;>cases iU c<;>cases dy y (-3000) 3000<;>rfl
def jD{α:Type}(L:List α)(u:α→Bool)(i:Nat):List Int:=match L[i]? with
 | some x=>bif u x then[(i:Int)]else[]
 | none=>[]
theorem ru{α:Type}(L:List α)(u:α→Bool)(i:Nat):(jD L u i).length≤1:=by
 unfold jD
 cases L[i]? with
 | none=>simp
 | some x=>exact p6 _ _
theorem vD{α:Type}(L:List α)(u q:α→Bool): ∀(M:List α) (k m:Nat),L.drop k=M→bY (fun _ (i:Int)=>(L[i.toNat]?).any q) (fun _ i=>i) ((List.range' k M.length).flatMap (jD L u)) m=bif decide (cr (fun x=>q x&&u x) M<0)then none else some (cr (fun x=>q x&&u x) M+k)
 | [],k,m,_=>rfl
 | x::M,k,m,hd=>by
  have hx:L[k]? =some x:=by
   have:=List.getElem?_drop (xs:=L) (i:=k) (j:=0)
   rw[hd]at this
   simpa using this.symm
  have hd':L.drop (k+1)=M:=by rw[←List.drop_drop,hd];rfl
  have ih:=fun m=>vD L u q M (k+1) m hd'
  have hf:jD L u k=bif u x then[(k:Int)]else[]:=by unfold jD;rw[hx]
  rw[List.length_cons,List.range'_succ,List.flatMap_cons,hf]
  have hlt:=(lu (fun x=>q x&&u x) M).1
  unfold cr
  cases hu:u x
  ·simp only[Bool.and_false,cond_false,List.nil_append]
   rw[ih m]
   by_cases h0:cr (fun x=>q x&&u x) M<0
   ·simp only[decide_eq_true h0,cond_true]
    rfl
   ·simp only[decide_eq_false h0,cond_false]
    rw[decide_eq_false (by omega),cond_false]
    congr 1
    omega
  ·simp only[Bool.and_true,cond_true,List.singleton_append]
   unfold bY
   simp only[Int.toNat_natCast,hx,Option.any_some]
   cases hq:q x
   ·simp only[cond_false]
    rw[ih (m+1)]
    by_cases h0:cr (fun x=>q x&&u x) M<0
    ·simp only[decide_eq_true h0,cond_true]
     rfl
    ·simp only[decide_eq_false h0,cond_false]
     rw[decide_eq_false (by omega),cond_false]
     congr 1
     omega
   ·simp only[cond_true]
    rw[decide_eq_false (by omega),cond_false]
    simp
theorem zJ{L:List Name}(hL:L.length≤12)(c:ByteArray)(y:Int):eN L c y=some (cr (gR c y) L):=by
 unfold eN jQ
 rw[qF 100 (by omega) (by omega) (jD L (mi y)) (ru L _) [] (by simp;omega) (fun i s hi hs=>by
  have hx:L[i]? =some L[i]:=List.getElem?_eq_getElem hi
  simp only[bg,hx,Option.bind_some,dY]
  rw[da (by simp;omega)]
  have hu:jD L (mi y) i=bif dy y L[i].Years.From L[i].Years.To then[(i:Int)]else[]:=by
   unfold jD
   rw[hx]
   rfl
  rw[hu]
  cases dy y L[i].Years.From L[i].Years.To<;>simp)]
 have hmem: ∀(k:Nat) (i:Int),((List.range L.length).flatMap (jD L (mi y)))[k]? =some i→ ∃(j:Nat) (x:Name),i=j∧L[j]? =some x:=fun k i h=>by
  obtain⟨j,hj,hi⟩:=List.mem_flatMap.1 (List.mem_of_getElem? h)
  have hx:L[j]? =some (L[j]'(List.mem_range.1 hj)):=List.getElem?_eq_getElem _
  refine⟨j,_,?_,hx⟩
  unfold jD at hi
  rw[hx]at hi
  simp only at hi
  cases hu:mi y (L[j]'(List.mem_range.1 hj))<;>rw[hu]at hi<;>simp at hi
  all_goals exact hi
 have hlen:((List.range L.length).flatMap (jD L (mi y))).length≤1000:=by
  have: ∀M:List Nat,(M.flatMap (jD L (mi y))).length≤M.length:=fun M=>by
   induction M with
   | nil=>simp
   | cons i M ih=>
    rw[List.flatMap_cons,List.length_append,List.length_cons]
    have:=ru L (mi y) i
    omega
  have:=this (List.range L.length)
  rw[List.length_range]at this
  omega
 simp only[List.nil_append,Option.bind_some]
 rw[eZ (by omega) (fun _ (i:Int)=>(L[i.toNat]?).any fun n=>(n.Status==0)&&(n.Language.toList==c.toList)) (fun _ i=>i) (fun k i hk=>by
  obtain⟨j,x,rfl,hx⟩:=hmem k i hk
  simp only[bg,hk,hx,Option.bind_some,Int.toNat_natCast,Option.any_some])]
 rw[List.range_eq_range',vD L (mi y) (fun n=>(n.Status==0)&&(n.Language.toList==c.toList)) L 0 0 rfl]
 have e:cr (fun x=>((x.Status==0)&&(x.Language.toList==c.toList))&&mi y x) L=cr (gR c y) L:=rfl
 have hlt:=(lu (gR c y) L).1
 rw[e]
 by_cases h0:cr (gR c y) L<0
 ·rw[decide_eq_true h0]
  simp only[cond_true]
  congr 1
  omega
 ·rw[decide_eq_false h0]
  simp
end Go.Proofs.YtdejeagdkfokfaaGreatDoor.Sh
