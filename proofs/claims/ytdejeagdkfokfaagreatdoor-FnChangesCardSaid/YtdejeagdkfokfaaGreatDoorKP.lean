/- An own row behind a call that has put other values into its cells; no condition. -/
import Derived.Test.YtdejeagdkfokfaaGreatDoorSB
import Derived.Sort.Grow
import Derived.Sort.Row
namespace Go.Proofs.YtdejeagdkfokfaaGreatDoor.Sh
open Go.RowKit
theorem to{α:Type}[Inhabited α](enc:α→Value)(d:Array α)(c:Array Value){n:Nat}(hd:d.size=n)(hc:n≤c.size):(Sort.putCells enc 0 d c).toList.take n=d.toList.map enc:=by
 apply List.ext_getElem?
 intro k
 unfold Sort.putCells
 by_cases hk:k<n
 ·rw[List.getElem?_take_of_lt hk,Array.getElem?_toList,Array.getElem?_mapIdx,List.getElem?_map,Array.getElem?_toList,Array.getElem?_eq_getElem (by omega),Array.getElem?_eq_getElem (by omega)]
  simp only[Option.map_some,Nat.zero_le,Nat.zero_add,true_and,Nat.sub_zero]
  rw[if_pos (by omega),getElem!_pos d k (by omega)]
 ·rw[List.getElem?_eq_none (by simp;omega),List.getElem?_eq_none (by simp;omega)]
theorem yQ{α:Type}[Inhabited α](enc:α→Value){w w':World}{e n m g cap:Nat}{cur:Array Value}(hg:w.heap[g]? =some (.cells cur e (0,0)))(hcap:n≤cap)(hmax:cap≤maxLen)(hcs:cur.size=cap*1)(d:Array α)(hd:d.size=n)(hm:m≤n)(q:Nat)(os:Array Obj)
  (hw:w'=Sort.grow (Sort.putRow enc (Sort.ahead w q) g 0 d) os):w'.ownsRow 0 e 1 (.slice (some ⟨g,0,none⟩) m cap) m ((d.toList.take m).map enc)∧dC (fun b=>some g=some b) w w':=by
 subst hw
 have hlt:g<w.heap.size:=(Array.getElem?_eq_some_iff.1 hg).1
 have hs:(Sort.putRow enc (Sort.ahead w q) g 0 d).heap.size=w.heap.size:=by simp
 have h1:(Sort.grow (Sort.putRow enc (Sort.ahead w q) g 0 d) os).heap[g]? =some (.cells (Sort.putCells enc 0 d cur) e (0,0)):=by
  rw[Sort.heap_grow_old _ _ (by rw[hs];exact hlt)]
  show(w.heap.modify g (Sort.onCells (Sort.putCells enc 0 d)))[g]? =_
  rw[Array.getElem?_modify,if_pos rfl,hg]
  rfl
 refine⟨⟨by simp;omega,.inr ⟨g,cap,_,rfl,Nat.zero_le _,h1,by omega,hmax,by simp[Sort.putCells,hcs],?_⟩⟩,rfl,rfl,rfl,by rw[Sort.size_grow,hs];omega,fun k hk hne=> ?_⟩
 ·have h2:=to enc d cur hd (by omega)
  rw[Nat.mul_one,List.map_take,←h2,List.take_take,Nat.min_eq_left hm]
 ·rw[Sort.heap_grow_old _ _ (by rw[hs];exact hk)]
  show(w.heap.modify g (Sort.onCells (Sort.putCells enc 0 d)))[k]? =_
  rw[Array.getElem?_modify,if_neg fun e=>hne (by rw[e])]
end Go.Proofs.YtdejeagdkfokfaaGreatDoor.Sh
