/- The library's sort of texts and its Compact: what is handed over comes back in order, without doubles, in the same memory; no condition. -/
import Derived.Test.YtdejeagdkfokfaaGreatDoorKP
import Derived.ProofKit
import Derived.Lib.Hide
import Derived.Shelf.Sort.Plain
import Derived.Shelf.Slices.In.SortNone
import Derived.Shelf.Slices.CompactS
namespace Go.Proofs.YtdejeagdkfokfaaGreatDoor.Sh
open Go.RowKit Go.Shelf Go.Lib
def lg(L:List ByteArray):List ByteArray:=((L.map fun s=>s.data.toList).mergeSort fun x y=>decide (x≤y)).map fun l=>⟨l.toArray⟩
theorem qj{L:List ByteArray}{s:ByteArray}:s∈lg L↔s∈L:=by
 unfold lg
 simp only[List.mem_map,List.mem_mergeSort]
 constructor
 ·rintro⟨l,⟨t,ht,rfl⟩,rfl⟩
  exact ht
 ·intro h
  exact⟨_,⟨s,h,rfl⟩,rfl⟩
theorem nY(L:List ByteArray):(lg L).length=L.length:=by
 unfold lg
 simp
def qE(L:List ByteArray):List ByteArray:=(Lib.compact (L.map fun s=>s.data.toList)).map fun l=>⟨l.toArray⟩
theorem vG{α:Type}[BEq α][LawfulBEq α][DecidableEq α][Inhabited α](L:List α):(Lib.compact L).length≤L.length:=by
 unfold Lib.compact Lib.compactUpTo
 rw[List.length_map]
 exact Nat.le_trans (List.length_filter_le _ _) (by simp)
def iP(L:List ByteArray):List ByteArray:=qE (lg L)
def qS(w:World)(e:Nat)(v:Value)(L:List ByteArray):Prop:=w.ownsRow 0 e 1 v L.length (L.map Value.string)
section
variable {P : Program} {ρ : Ren}
theorem tW{w:World}{e g n:Nat}{cur:Array Value}(hg:w.heap[g]? =some (.cells cur e (0,0))){L:List ByteArray}(hn:L.length=n)(hcur:cur.toList.take (n*1)=L.map Value.string):Sort.Holds encStr w g 0 (L.map fun s=>s.data.toList).toArray:=fun j hj=>by
 have hj':j<L.length:=by simpa using hj
 have h5:cur[j]? =some (.string L[j]):=by
  rw[←Array.getElem?_toList,←List.getElem?_take_of_lt (show j<n*1 by omega),hcur,List.getElem?_map,List.getElem?_eq_getElem hj']
  rfl
 have h6:((L.map fun s=>s.data.toList).toArray)[j]! =L[j].data.toList:=by
  rw[getElem!_pos ((L.map fun s=>s.data.toList).toArray) j hj]
  simp
 constructor
 ·unfold World.cell?
  rw[hg,h6,Nat.zero_add]
  show cur[j]? =some (Value.string ⟨L[j].data.toList.toArray⟩)
  rw[Array.toArray_toList,h5]
 ·unfold World.frozen?
  rw[hg]
  simp
theorem Bp(Ly:Lays.n190 P ρ)(e:Nat)(w:World)(v:Value)(L:List ByteArray)(hL:L.length≤1000000000)(h:qS w e v L):Calls P (ρ.f 190) #[v] w fun en w'=>en= .returned (.tuple #[])∧dC (fun b=>cJ v=some b) w w'∧qS w' e v (lg L):=by
 rcases h.2 with⟨rfl,h0⟩ | ⟨g,cap,cur,rfl,_,hg,hcap,hmax,hcs,hcur⟩
 ·have hL:L=[]:=List.length_eq_zero_iff.1 (by omega)
  subst hL
  refine(Any.slices_Sort_string_none Ly none 0 w).mono fun en w' hw=> ?_
  obtain⟨rfl,rfl⟩:=hw
  have e0:lg []=[]:=List.length_eq_zero_iff.1 (nY [])
  rw[e0]
  exact⟨rfl,dC.refl _ _,⟨rfl,.inl ⟨rfl,rfl⟩⟩⟩
 ·have hlt:g<w.heap.size:=(Array.getElem?_eq_some_iff.1 hg).1
  have key:=Any.slices_Sort_string Ly g 0 cap (L.map fun s=>s.data.toList) w (tW hg rfl hcur) hlt (by simp;omega)
  rw[List.length_map]at key
  refine key.mono fun en w' hw=> ?_
  obtain⟨rfl,q,os,hw⟩:=hw
  obtain⟨hrow,hgr⟩:=yQ encStr (n:=L.length) (m:=L.length) hg hcap hmax hcs _ (by simp) (Nat.le_refl _) q os hw
  refine⟨rfl,hgr,?_⟩
  unfold qS
  have e5:((((L.map fun s=>s.data.toList).mergeSort fun x y=>decide (x≤y)).toArray.toList.take L.length).map encStr)=(lg L).map Value.string:=by
   unfold lg
   rw[List.map_map,List.take_of_length_le (by simp)]
   rfl
  rw[e5]at hrow
  rw[nY]
  exact hrow
theorem Al(Ly:Lays.n194 P ρ)(e:Nat)(w:World)(v:Value)(L:List ByteArray)(hL:L.length≤1000000000)(h:qS w e v L):Calls P (ρ.f 194) #[v] w fun en w'=> ∃u,en= .returned u∧dC (fun b=>cJ v=some b) w w'∧qS w' e u (qE L)∧ ∀g,cJ u=some g→cJ v=some g:=by
 rcases h.2 with⟨rfl,h0⟩ | ⟨g,cap,cur,rfl,_,hg,hcap,hmax,hcs,hcur⟩
 ·have hL:L=[]:=List.length_eq_zero_iff.1 (by omega)
  subst hL
  refine(Any.slices_Compact_string_empty Ly none 0 w).mono fun en w' hw=> ?_
  obtain⟨rfl,rfl⟩:=hw
  exact⟨_,rfl,dC.refl _ _,⟨rfl,.inl ⟨rfl,rfl⟩⟩,fun g h=>h⟩
 ·have key:=Any.slices_Compact_string Ly g 0 cap (L.map fun s=>s.data.toList) w (tW hg rfl hcur) (by simp;omega) (by simpa using hcap)
  rw[List.length_map]at key
  have hcl:(Lib.compact (L.map fun s=>s.data.toList)).length≤L.length:=by
   have:=vG (L.map fun s=>s.data.toList)
   simpa using this
  refine key.mono fun en w' hw=> ?_
  obtain⟨rfl,q,hw⟩:=hw
  obtain⟨hrow,hgr⟩:=yQ encStr (n:=L.length) (m:=(Lib.compact (L.map fun s=>s.data.toList)).length) hg hcap hmax hcs _ (by simp;omega) hcl q #[] (hw.trans (Sort.grow_empty _).symm)
  refine⟨_,rfl,hgr,?_,fun g' h=>h⟩
  unfold qS
  have e5: ∀(C Z:List (List UInt8)),(((C++Z).toArray.toList.take C.length).map encStr)=(C.map fun l=>(⟨l.toArray⟩:ByteArray)).map Value.string:=fun C Z=>by
   rw[List.map_map,List.toList_toArray,List.take_left]
   rfl
  rw[e5]at hrow
  have e6:(qE L).length=(Lib.compact (L.map fun s=>s.data.toList)).length:=by unfold qE;simp
  rw[e6]
  exact hrow
end
end Go.Proofs.YtdejeagdkfokfaaGreatDoor.Sh
namespace Go.Proofs.YtdejeagdkfokfaaGreatDoor.Sh
open Go.RowKit Go.Shelf Go.Lib
set_option maxHeartbeats 1000000 in
set_option maxRecDepth 100000 in
theorem xC{ρ ρ':Ren}(Ly:Lays.n190 Tryz.prog ρ)(hk:ρ.f 190=227)(Lc:Lays.n194 Tryz.prog ρ')(hk':ρ'.f 194=228)(e:Nat)(w:World)(v:Value)(L:List ByteArray)(hL:L.length≤1000000000)(h:qS w e v L):
  Calls Tryz.prog 215 #[v] w fun en w'=> ∃u,en= .returned u∧dC (fun b=>cJ v=some b) w w'∧qS w' e u (iP L)∧ ∀g,cJ u=some g→cJ v=some g:=by
 have c1:=fun W h=>Bp Ly e W v L hL h
 rw[hk]at c1
 have c2:=fun W h=>Al Lc e W v (lg L) (by rw[nY];exact hL) h
 rw[hk']at c2
 go_enter Tryz.func215,Tryz.ntmps215
 go_wp2_with (first | (go_at_call 227;refine(c1 _ h).mono ?_;rintro e w' ⟨rfl,hg1,hr1⟩) | (go_at_call 228;refine(c2 _ hr1).mono ?_;rintro e w' ⟨u,rfl,hg2,hr2,hb2⟩))
 go_ret
 exact⟨_,rfl,hg1.trans hg2,hr2,hb2⟩
end Go.Proofs.YtdejeagdkfokfaaGreatDoor.Sh
namespace Go.Proofs.YtdejeagdkfokfaaGreatDoor.Sh
open Go.RowKit Go.Shelf
def ue(P:Program)(f:FuncId)(e m:Nat)(es es':List (List Tr)):Prop:=
 ∀(w:World) (v:Value),cP w (fun _=>False) bz (.arr e m es.length es) v→Calls P f #[v] w fun en w'=> ∃u,en= .returned u∧dC (fun g=>cJ v=some g) w w'∧cP w' (fun _=>False) bz (.arr e m es'.length es') u∧ ∀g,cJ u=some g→cJ v=some g
section
variable {P : Program} {tb : Tb} {ops : Array Oper} {o : Oper} {c : Cx} {S : Nat → Prop} {β : Nat → Value} {σ : SS} {a : Act} {w : World}
theorem FA{f:FuncId}{e m d n n' d0:Nat}{es es':List (List Tr)}(he:bg P f)(hc:ue P f e m es es')(hfl:kN es)(hfl':kN es'){fo s:Operand}{args:Array Operand}{ts:Array TypeId}(ho:o.op= .call {callee:= .value fo,args:=args,argTypes:=ts})(hargs:args= #[s])(hdst:o.dst=some d0)(hn:es.length=n)(hn':es'.length=n')(hgd:gd ops σ o=some true:=by kernel_rfl)(hd0:Nat.blt d0 σ.n=true:=by kernel_rfl)(hfo:ev σ fo=some (.clo f []):=by kernel_rfl)(hs:ev σ s=some (.own d):=by kernel_rfl)(hdn:Nat.blt d σ.n=true:=by kernel_rfl)(hob:find d σ.o=some (.arr e m n es):=by kernel_rfl)(hf:(σ.kill d).names.contains d0=false:=by kernel_rfl):
  ar P ops o σ ((σ.kill d).add d0 (.own d0) (.arr e m n' es')):=by
 have hd0:d0<σ.n:=by simpa using hd0
 have hdn:d<σ.n:=by simpa using hdn
 have hf:d0∉(σ.kill d).names:=by simpa using hf
 subst hargs hn hn'
 refine kW hgd fun c S β a w hr=> ?_
 have hv:=bH hr hs
 have hfv:=bH hr hfo
 have hmem:=a8 hob
 have hobj:=hr.obj d _ hmem
 generalize hsv:a.eval s=sv at hv
 generalize hfe:a.eval fo=fv at hfv
 cases hv with
 | own d=>
 cases hfv with
 | clo f caps vs hvl hvh=>
  have hvs:vs= #[]:=Array.eq_empty_of_size_eq_zero (by simpa using hvl.symm)
  subst hvs
  have hrun:(execOp a.eval o).run P w= .ok (.enter f #[β d]) w:=by
   simp only[execOp,ho,resolve,hfe,Deferred.ofValue,Sem.run_bind,Sem.run_pure,Result.andThen_ok,invoke]
   have:=he (#[]++ #[s].map a.eval++ #[]) w
   simp only[List.map_toArray,List.map_cons,List.map_nil,hsv,Array.append_empty,Array.empty_append]at this⊢
   exact this
  have hobF:cP w (fun _=>False) bz (.arr e m es.length es) (β d):=((hobj.free (S':=fun _=>False) hfl).agree fun k hk=>by simp[SO.names]at hk)
  unfold Oper.wp
  rw[hrun]
  refine(hc w (β d) hobF).mono fun en w' ⟨u,hen,hg,hou,hbl⟩=> ?_
  subst hen
  rw[hdst]
  have hpriv: ∀g,cJ (β d)=some g→ ¬S g∧c.w0.heap.size≤g:=fun g hgb=>by
   obtain⟨q1,q2⟩:=hr.priv d _ g hmem hgb
   rcases q2 with⟨_,q2⟩ | ⟨q2,_⟩
   ·exact⟨q1,q2⟩
   ·omega
  have hkeepS: ∀b,S b→w'.heap[b]? =w.heap[b]? :=fun b hb=>hg.block b (hr.lt b hb) fun e=>(hpriv b e).1 hb
  have hob': ∀{k x},(k,x)∈σ.o→k≠d→ ∀b,x.bm w (β k) b→w'.heap[b]? =w.heap[b]? :=fun{k x} hk hne b hb=>hg.block b ((hr.obj k x hk).lt hb) fun e=>hne (hr.apart k x d _ b hk hmem hb (kY e))
  have hof: ∀{k x},(k,x)∈σ.o→k≠d→ ∀{b},x.bm w' (β k) b→x.bm w (β k) b:=fun{k x} hk hne {b} hb=>((hr.obj k x hk).bm (hob' hk hne)).1 hb
  have hrk:Rel c S β (σ.kill d) a w':=by
   refine⟨hr.defers,hr.size,hr.one,hr.grew.of hg (fun g hgb hlt=> ?_),hr.s0,hr.s1,fun b hb=>Nat.lt_of_lt_of_le (hr.lt b hb) hg.size,fun i y hi=>⟨(hr.tmp i y (mJ hi)).1,(hr.tmp i y (mJ hi)).2.keep hkeepS fun _ h=>h⟩,fun k y hk=> ?_,fun j u hj=>⟨(hr.pin j u hj).1,fun y hy=>(hr.pin j u hj).2 y (b0 hy).1⟩,fun k y g hk hgb=>hr.priv k y g (b0 hk).1 (hof (b0 hk).1 (b0 hk).2 hgb),fun k y k' y' g hk hk' h h'=>hr.apart k y k' y' g (b0 hk).1 (b0 hk').1 (hof (b0 hk).1 (b0 hk).2 h) (hof (b0 hk').1 (b0 hk').2 h')⟩
   ·have:=(hpriv g hgb).2
    omega
   ·refine(hr.obj k y (b0 hk).1).keep (fun b hb=> ?_) fun _ h=>h
    rcases hb with hb | hb
    ·exact hkeepS b hb
    ·exact hob' (b0 hk).1 (b0 hk).2 b hb
  have hv1:u.cells= #[u]:=by
   cases hou with
   | arr _ _ _ _ _ xs hn hown he hh=>rcases hown.2 with⟨h,_⟩ | ⟨g,cap,cur,h,_⟩<;>rw[h]<;>rfl
  have hnew:cP w' S (gv β d0 u) (.arr e m es'.length es') u:=(hou.free (S':=S) hfl').agree fun k hk=>by simp[SO.names]at hk
  refine⟨S,_,Rel.put (Rel.new hrk hf hd0 hv1 hnew fun g hgb=> ?_) hd0 ?_⟩
  ·have h:=hbl g hgb
   exact⟨(hpriv g h).1,(hpriv g h).2,fun d' x' hm' e=>(b0 hm').2 (hr.apart d' x' d _ g (b0 hm').1 hmem (hof (b0 hm').1 (b0 hm').2 e) (kY h))⟩
  ·have:cM w' S (gv β d0 u) (.own d0) (gv β d0 u d0):= .own d0
   rwa [bP]at this
end
theorem Bm{w:World}{S:Nat→Prop}{β:Nat→Value}{e:Nat}{v:Value}{L:List ByteArray}(h:qS w e v L)(hs: ∀s∈L,s.size≤maxLen):cP w S β (.arr e 1 (L.map eS).length (L.map eS)) v:=by
 unfold qS at h
 rw[List.length_map]
 refine .arr _ _ _ _ _ _ (by simp) h (fun x hx=> ?_) (fun i x j t u h1 h2 h3=> ?_)
 ·obtain⟨y,_,rfl⟩:=List.mem_map.1 hx
  rfl
 ·rw[List.getElem?_map,Option.map_eq_some_iff]at h1
  obtain⟨y,hy,rfl⟩:=h1
  cases j with
  | zero=>
   injection h2 with h2
   subst h2
   rw[Nat.mul_one,Nat.add_zero,List.getElem?_map,hy]at h3
   injection h3 with h3
   subst h3
   exact .str y (hs y (List.mem_of_getElem? hy))
  | succ j=>cases h2
theorem EU{w:World}{S:Nat→Prop}{s:ByteArray}{v:Value}(h:TV w S (.str s) v):v= .string s∧s.size≤maxLen:=by
 cases h with
 | str _ h=>exact⟨rfl,h⟩
theorem A8{w:World}{S:Nat→Prop}{β:Nat→Value}{e:Nat}{v:Value}{L:List ByteArray}(h:cP w S β (.arr e 1 (L.map eS).length (L.map eS)) v):qS w e v L∧ ∀s∈L,s.size≤maxLen:=by
 generalize hes:L.map eS=es at h
 generalize hln:es.length=n at h
 cases h with
 | arr _ _ _ _ v xs hn2 hown he hh=>
  have hLn:L.length=n:=by rw[←hln,←hes,List.length_map]
  have hat: ∀(i:Nat) s u,L[i]? =some s→xs[i]? =some u→u= .string s∧s.size≤maxLen:=fun i s u h1 h2=>by
   have h3:es[i]? =some [.str s]:=by rw[←hes,List.getElem?_map,h1];rfl
   exact EU (hh i _ 0 _ u h3 rfl (by simpa using h2))
  have hxl:xs.length=L.length:=by rw[hown.1];omega
  have hxs:xs=L.map Value.string:=List.ext_getElem? fun i=>by
   by_cases hi:i<L.length
   ·rw[List.getElem?_eq_getElem (by omega),List.getElem?_map,List.getElem?_eq_getElem hi,(hat i _ _ (List.getElem?_eq_getElem hi) (List.getElem?_eq_getElem (by omega))).1]
    rfl
   ·rw[List.getElem?_eq_none (by omega),List.getElem?_eq_none (by simp;omega)]
  subst hxs
  refine⟨by unfold qS;rw[hLn];exact hown,fun s hs=> ?_⟩
  obtain⟨i,hi,rfl⟩:=List.mem_iff_getElem.1 hs
  exact(hat i _ _ (List.getElem?_eq_getElem hi) (List.getElem?_eq_getElem (by omega))).2
theorem u7{L:List ByteArray}{s:ByteArray}(h:s∈iP L):s∈L:=by
 unfold iP qE at h
 obtain⟨l,hl,rfl⟩:=List.mem_map.1 h
 unfold Lib.compact Lib.compactUpTo at hl
 obtain⟨j,hj,rfl⟩:=List.mem_map.1 hl
 rw[List.mem_filter,List.mem_range]at hj
 have hj':j<((lg L).map fun s=>s.data.toList).toArray.size:=by simpa using hj.1
 rw[getElem!_pos _ j hj']
 have h2:j<(lg L).length:=by simpa using hj.1
 have:(lg L)[j]∈L:=qj.1 (List.getElem_mem h2)
 simpa using this
def ke(L:List ByteArray):Option (List ByteArray):=if L.length≤1000000000 then some (iP L)else none
theorem xD{ρ ρ':Ren}(Ly:Lays.n190 Tryz.prog ρ)(hk:ρ.f 190=227)(Lc:Lays.n194 Tryz.prog ρ')(hk':ρ'.f 194=228)(e:Nat)(L r:List ByteArray)(h:ke L=some r):ue Tryz.prog 215 e 1 (L.map eS) (r.map eS):=by
 unfold ke at h
 split at h
 ·rename_i hL
  injection h with h
  subst h
  intro w v ho
  obtain⟨h1,h2⟩:=A8 ho
  refine(xC Ly hk Lc hk' e w v L hL h1).mono fun en w' ⟨u,h3,h4,h5,h6⟩=>⟨u,h3,h4,Bm h5 fun s hs=>h2 s (u7 hs),h6⟩
 ·cases h
end Go.Proofs.YtdejeagdkfokfaaGreatDoor.Sh
