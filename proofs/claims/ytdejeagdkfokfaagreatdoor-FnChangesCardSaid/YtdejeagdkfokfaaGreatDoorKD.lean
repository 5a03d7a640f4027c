/- The library's Delete at names: one element taken out of a slice, in its place; no condition. -/
import Derived.Test.YtdejeagdkfokfaaGreatDoorKA
import Derived.Test.YtdejeagdkfokfaaGreatDoorSW
import Derived.ProofKit
import Derived.Lib.Hide
import Derived.Laws.CopyRow
import Derived.Shelf.Spec.SlicesInsert
import Derived.Deep.RegionLaw
namespace Go.Proofs.YtdejeagdkfokfaaGreatDoor.Sh
open Go.RowKit Go.Shelf Go.Lib
section
variable {P : Program}
theorem qz{ops:Array Oper}{o:Oper}{a:Act}{w:World}{K:Act→World→Prop}{Q:Exit→Act→World→Prop}{E:Prop}
  (hg:o.guard=none) (s x:Operand) (t:TypeId) (hop:o.op=Op.call {callee:=Callee.builtin Builtin.append,args:= #[s,x],argTypes:= #[t,t]})
  (v u:Value) (hs:a.eval s=v) (hx:a.eval x=u) {v':Value} {w':World} (hr:(Builtin.append_ #[t,t] o.type #[v,u]).run P w= .ok v' w') (hK:K (a.put o.dst v') w'):
  if Region.wanted o (yielded ops a.tmps)=true then Oper.wp P o a w K Q else E:=by
 have hw:Region.wanted o (yielded ops a.tmps)=true:=by simp[Region.wanted,hg]
 rw[if_pos hw]
 unfold Oper.wp
 simp[execOp,hop,resolve,invoke,builtin,hs,hx,hr,Result.andThen]
 exact hK
theorem sF(w:World)(t e ty:TypeId)(z:Value)(size:Nat)(ht:P.underlying t=some (.slice e))(hv: ∀w,(zeroValue e).run P w= .ok z w)(hzs:z.cells.size=size)(h1: ∀v∈z.cells.toList,v.oneCell'=true)(b o n c:Nat)(cur:Array Value)(t':TypeId)(hg:w.heap[b]? =some (.cells cur t' (0,0)))(hfit:o+n*size≤cur.size)(hn:0<n):
  (Builtin.clear_ #[t] ty #[.slice (some ⟨b,o,none⟩) n c]).run P w= .ok (.tuple #[]) (w.setRow b (cur.toList.take o++(Builtin.zeroCells z.cells n).toList++cur.toList.drop (o+(Builtin.zeroCells z.cells n).toList.length)).toArray):=by
 have hl:(Builtin.zeroCells z.cells n).toList.length=n*size:=by rw[Array.length_toList];simp[Builtin.zeroCells,hzs]
 have hst:=run_storeCells_at P b o t' (Builtin.zeroCells z.cells n).toList 0 cur w hg (by rw[hl];simpa using hfit) (fun v hv'=>by
  rw[Array.mem_toList_iff]at hv'
  unfold Builtin.zeroCells at hv'
  obtain⟨i,hi,rfl⟩:=Array.mem_map.1 hv'
  refine h1 _ ?_
  have hp:0<z.cells.size:=by
   rw[Array.mem_range]at hi
   rcases Nat.eq_zero_or_pos z.cells.size with h | h
   ·simp[h]at hi
   ·exact h
  have hlt:i % z.cells.size<z.cells.size:=Nat.mod_lt _ hp
  rw[getElem!_pos z.cells (i % z.cells.size) hlt]
  exact Array.mem_toList_iff.2 (Array.getElem_mem hlt))
 simp only[Nat.add_zero]at hst
 obtain⟨m,rfl⟩: ∃m,n=m+1:=⟨n - 1,by omega⟩
 simp[Builtin.clear_,run_underlying ht,hv,hst]
end
abbrev E6:FuncId:=214
def s8:Value:= .agg #[.string ⟨#[]⟩,.string ⟨#[]⟩,.int .i64 0,.int .i64 0,.int .i64 0]
theorem tN: ∃i0,Tryz.prog.info? 169=some i0∧i0.zero=some s8∧i0.size=5∧i0.bytes=56:=by
 have h:(Tryz.prog.info? 169).map (fun i=>(i.zero,i.size,i.bytes))=some (some s8,5,56):=by kernel_rfl
 cases hi:Tryz.prog.info? 169 with
 | none=>rw[hi]at h;cases h
 | some i0=>
  rw[hi]at h
  simp only[Option.map_some,Option.some.injEq,Prod.mk.injEq]at h
  exact⟨i0,rfl,h.1,h.2.1,h.2.2⟩
theorem z6(w:World):(zeroValue 169).run Tryz.prog w= .ok s8 w:=by
 obtain⟨i0,h1,h2,_⟩:=tN
 simp[zeroValue,typeInfo,h1,h2]
theorem Ao{cur cur1 cur2 zs:List Value}{n c i:Nat}(hc1:cur1=cur.take (i*5)++(cur.take (n*5)).drop ((i+1)*5)++cur.drop (i*5+((cur.take (n*5)).drop ((i+1)*5)).length))
  (hc2:cur2=cur1.take ((n - 1)*5)++zs++cur1.drop ((n - 1)*5+zs.length)) (hcl:cur.length=c*5) (hi:i<n) (hn:n≤c):
  cur2.take ((n - 1)*5)=cur.take (i*5)++(cur.take (n*5)).drop ((i+1)*5):=by
 have ld:((cur.take (n*5)).drop ((i+1)*5)).length=(n -(i+1))*5:=by rw[List.length_drop,List.length_take,hcl];omega
 have lt:(cur.take (i*5)).length=i*5:=by rw[List.length_take];omega
 have l1:(cur1.take ((n - 1)*5))=cur.take (i*5)++(cur.take (n*5)).drop ((i+1)*5):=by
  rw[hc1]
  exact List.take_left' (by rw[List.length_append,lt,ld];omega)
 have l2:(cur1.take ((n - 1)*5)).length=(n - 1)*5:=by rw[l1,List.length_append,lt,ld];omega
 rw[hc2,List.append_assoc,List.take_left' l2,l1]
set_option maxHeartbeats 4000000 in
set_option maxRecDepth 100000 in
theorem w4(w:World)(b n c i:Nat)(cur:Array Value)(hg:w.heap[b]? =some (.cells cur 169 (0,0)))(hi:i<n)(hn:n≤c)(hc:c≤maxLen)(hcs:cur.size=c*5)(h1: ∀v∈cur.toList.take (n*5),v.oneCell'=true):
  Calls Tryz.prog E6 #[.slice (some ⟨b,0,none⟩) n c,.int .i64 i,.int .i64 (i+1)] w fun e w'=>e= .returned (.slice (some ⟨b,0,none⟩) (n - 1) c)∧ ∃cur',cur'.size=c*5∧cur'.toList.take ((n - 1)*5)=cur.toList.take (i*5)++(cur.toList.take (n*5)).drop ((i+1)*5)∧w'=w.drew.setRow b cur':=by
 obtain⟨i0,hi0,hz0,hzs,hzb⟩:=tN
 have hc63:c≤9223372036854775807:=by unfold maxLen at hc;omega
 have hcl:cur.toList.length=c*5:=by rw[Array.length_toList,hcs]
 have ld:((cur.toList.take (n*5)).drop ((i+1)*5)).length=(n -(i+1))*5:=by rw[List.length_drop,List.length_take,hcl];omega
 have hcell: ∀(j:Nat) v,cur.toList[j]? =some v→w.drew.cell? ⟨b,j,none⟩=some v:=fun j v hj=>by
  unfold World.cell?
  rw[show w.drew.heap[b]? =_ from hg]
  rw[Array.getElem?_toList]at hj
  exact hj
 obtain⟨cur1,hc1⟩: ∃cur1,cur1=(cur.toList.take (i*5)++(cur.toList.take (n*5)).drop ((i+1)*5)++cur.toList.drop (i*5+((cur.toList.take (n*5)).drop ((i+1)*5)).length)).toArray:=⟨_,rfl⟩
 obtain⟨A,hA,hsrc⟩: ∃A:Addr,(if c=i+1 then some (⟨b,0,none⟩:Addr)else some ⟨b,(i+1)*5,none⟩)=some A∧ ∀(t:Nat) u,((cur.toList.take (n*5)).drop ((i+1)*5))[t]? =some u→w.drew.cell? (A.add t)=some u:=by
  by_cases h:c=i+1
  ·refine⟨⟨b,0,none⟩,by simp[h],fun t u hu=> ?_⟩
   have:=(List.getElem?_eq_some_iff.1 hu).1
   rw[ld]at this
   omega
  ·refine⟨⟨b,(i+1)*5,none⟩,by simp[h],fun t u hu=> ?_⟩
   rw[Addr.add_lit]
   rw[List.getElem?_drop]at hu
   have hlt:=(List.getElem?_eq_some_iff.1 hu).1
   rw[List.length_take]at hlt
   rw[List.getElem?_take_of_lt (by omega)]at hu
   exact hcell _ u hu
 have hap: ∀ty,(Builtin.append_ #[89,89] ty #[.slice (some ⟨b,0,none⟩) i c,.slice (some A) (n -(i+1)) (c -(i+1))]).run Tryz.prog w.drew= .ok (.slice (some ⟨b,0,none⟩) (i+(n -(i+1))) c) (w.drew.setRow b cur1):=fun ty=>by
  have h:=run_append_room (P:=Tryz.prog) w.drew 89 ty 169 i0 Tryz.underlying89 hi0 b i c cur hg A (n -(i+1)) (c -(i+1)) ((cur.toList.take (n*5)).drop ((i+1)*5)) (by rw[hzs];exact ld) hsrc (fun u hu=>h1 u (List.mem_of_mem_drop hu)) (by omega) (by rw[hzs,ld,hcs];omega)
  rw[hzs,←hc1]at h
  exact h
 have hg1:(w.drew.setRow b cur1).heap[b]? =some (.cells cur1 169 (0,0)):=setRow_heap w.drew b cur cur1 _ _ hg
 have hl1:cur1.toList.length=c*5:=by
  rw[hc1]
  simp only[List.length_append,List.length_take,List.length_drop,hcl]
  omega
 obtain⟨zs,hzz⟩: ∃zs,zs=(Builtin.zeroCells s8.cells 1).toList:=⟨_,rfl⟩
 have hzl:zs.length=5:=by rw[hzz,Array.length_toList];simp[Builtin.zeroCells,s8,Value.cells]
 obtain⟨cur2,hc2⟩: ∃cur2,cur2=(cur1.toList.take ((n - 1)*5)++zs++cur1.toList.drop ((n - 1)*5+zs.length)).toArray:=⟨_,rfl⟩
 have hcl2: ∀ty,(Builtin.clear_ #[89] ty #[.slice (some ⟨b,(n - 1)*5,none⟩) 1 (c -(n - 1))]).run Tryz.prog (w.drew.setRow b cur1)= .ok (.tuple #[]) ((w.drew.setRow b cur1).setRow b cur2):=fun ty=>by
  have h:=sF (P:=Tryz.prog) (w.drew.setRow b cur1) 89 169 ty s8 5 Tryz.underlying89 z6 rfl (by simp[s8,Value.cells,Value.oneCell']) b ((n - 1)*5) 1 (c -(n - 1)) cur1 _ hg1 (by rw[←Array.length_toList,hl1];omega) (by omega)
  rw[←hzz,←hc2]at h
  exact h
 have HC1:=Lib.hid hc1
 have HC2:=Lib.hid hc2
 have HZ:=Lib.hid hzl
 clear hc1 hc2 hzz hzl hcell hsrc hz0 hzb
 have hw1:(0:Int)≤(i:Int)+1:=by omega
 have htn:((i:Int)+1).toNat=i+1:=by omega
 have hne: ¬((i:Int)=(i:Int)+1):=by omega
 have hle:(i:Int)+1≤(n:Int):=by omega
 have hle2:(i:Int)≤(c:Int):=by omega
 have hq1:i+(n -(i+1))=n - 1:=by omega
 have mixed:Tryz.prog.follows .mixedOrders=true:=by kernel_rfl
 go_enter Tryz.func214,Tryz.ntmps214
 go_wp2_with fail
 go_region_law_o (refine qz rfl (.tmp 22) (.tmp 25) 89 rfl (.slice (some ⟨b,0,none⟩) i c) (.slice (some A) (n -(i+1)) (c -(i+1))) (by simp[Act.eval,Act.put]) (by simp[Act.eval,Act.put,hA]) (hap _) ?_)
 have hk1: ¬(c=n - 1):=by omega
 have hk2:n -(n - 1)=1:=by omega
 have hk3:((n - 1:Nat):Int)≤(n:Int):=by omega
 have hk4:(n:Int)≤(c:Int):=by omega
 go_wp2
 go_ret
 refine⟨rfl,cur2,?_,?_,?_⟩
 ·rw[←Array.length_toList,HC2.out]
  simp only[List.length_append,List.length_take,List.length_drop,hl1,HZ.out]
  omega
 ·exact Ao (cur1:=cur1.toList) (zs:=zs) (congrArg Array.toList HC1.out) (congrArg Array.toList HC2.out) hcl hi hn
 ·rw[setRow_setRow]
def eD{α:Type}(L:List α)(i j:Int):Option (List α):=if 0≤i∧j=i+1∧i<L.length∧L.length≤1000000 then some (L.eraseIdx i.toNat)else none
theorem tS{α β:Type}(f:α→β): ∀(L:List α) (k:Nat),(L.eraseIdx k).map f=(L.map f).eraseIdx k
 | [],_=>rfl
 | _::_,0=>rfl
 | x::L,k+1=>by simp[List.eraseIdx,tS f L k]
theorem AM{α:Type}(L:List α)(i k:Nat):(L.eraseIdx i)[k]? =if k<i then L[k]? else L[k+1]? :=List.getElem?_eraseIdx
theorem Ap{α:Type}{f:α→List Tr}(hf: ∀x,∀t∈f x,t.flat=true)(L:List α)(i j:Int)(r:List α)(h:eD L i j=some r):kQ Tryz.prog E6 [.own 3000000,vi i,vi j] [(3000000,oa 169 5 f L)] [(3000000,oa 169 5 f r)] [.own 3000000]:=by
 unfold eD at h
 split at h
 ·rename_i hh
  injection h with h
  obtain⟨h0,rfl,hlt,_⟩:=hh
  obtain⟨k,rfl⟩:=Int.eq_ofNat_of_zero_le h0
  subst h
  rw[Int.toNat_natCast]
  have hkl:k<L.length:=by omega
  intro w S β vs hsz hS hone hargs hobj hpr hap hgl
  have hmem:(3000000,oa 169 5 f L)∈[(3000000,oa 169 5 f L)]:=List.mem_singleton.2 rfl
  have hob:=hobj 3000000 _ hmem
  have hsz3:vs.size=3:=hsz
  have a0:=hargs 0 _ (vs[0]'(by omega)) rfl (Array.getElem?_eq_getElem _)
  have a1:=hargs 1 _ (vs[1]'(by omega)) rfl (Array.getElem?_eq_getElem _)
  have a2:=hargs 2 _ (vs[2]'(by omega)) rfl (Array.getElem?_eq_getElem _)
  have e0:vs[0]'(by omega)=β 3000000:=by
   generalize vs[0]'(by omega)=q at a0
   cases a0 with | own=>rfl
  have e1:vs[1]'(by omega)= .int .i64 k:=by
   generalize vs[1]'(by omega)=q at a1
   cases a1 with | tr _ _ h=>cases h with | int=>rfl
  have e2:vs[2]'(by omega)= .int .i64 (k+1):=by
   generalize vs[2]'(by omega)=q at a2
   cases a2 with | tr _ _ h=>cases h with | int=>rfl
  have hvs:vs= #[β 3000000,.int .i64 k,.int .i64 (k+1)]:=by
   apply Array.ext
   ·simp[hsz3]
   ·intro j hj1 hj2
    have:j=0∨j=1∨j=2:=by omega
    rcases this with rfl | rfl | rfl
    ·exact e0
    ·exact e1
    ·exact e2
  subst hvs
  clear hargs a0 a1 a2 e0 e1 e2 hobj hsz hsz3
  have hfo: ∀g,(oa 169 5 f L).bm w (β 3000000) g→cJ (β 3000000)=some g:=fun g hg=>hg
  generalize hv:β 3000000=v at hob hfo
  unfold oa at hob
  generalize hes:L.map f=es at hob
  generalize hln:L.length=n at hob hkl
  cases hob with
  | arr _ _ _ _ v xs hn hown he hh=>
   rcases hown.2 with⟨_,h0⟩ | ⟨b,cap,cur,rfl,_,hg,hnc,hcm,hcs,hxs⟩
   ·omega
   ·have h1x: ∀u∈cur.toList.take (n*5),u.oneCell'=true:=fun u hu=>by
     rw[hxs]at hu
     obtain⟨q,hq,rfl⟩:=List.mem_iff_getElem.1 hu
     have hq5:q<n*5:=by rw[←hown.1];exact hq
     have hq1:q/5<es.length:=by omega
     have hxe:=he _ (List.getElem_mem hq1)
     have hq2:q % 5<(es[q/5]).length:=by rw[hxe];omega
     exact vc (hh (q/5) _ (q % 5) _ _ (List.getElem?_eq_getElem hq1) (List.getElem?_eq_getElem hq2) (by rw[show q/5*5+q % 5=q by omega];exact List.getElem?_eq_getElem hq))
    refine(w4 w b n cap k cur hg hkl hnc hcm hcs h1x).mono fun e w' ⟨he',cur',s1,s2,hw'⟩=> ?_
    have hbw:b<w.heap.size:=(Array.getElem?_eq_some_iff.1 hg).1
    have hgr:dC (fun g=>b=g) w w':=by
     subst hw'
     exact⟨rfl,rfl,rfl,Nat.le_of_eq (by simp only[World.setRow,Array.size_modify];rfl),fun q hq hne=>setRow_other w.drew b q cur' (fun e=>hne e.symm)⟩
    have hg':w'.heap[b]? =some (.cells cur' 169 (0,0)):=by
     subst hw'
     exact setRow_heap w.drew b cur cur' _ _ hg
    rw[hxs]at s2
    have hx1:cur.toList.take (k*5)=xs.take (k*5):=by rw[←hxs,List.take_take,Nat.min_eq_left (by omega)]
    rw[hx1]at s2
    have hlx:=hown.1
    have hat: ∀(q j:Nat),j<5→q<n - 1→(xs.take (k*5)++xs.drop ((k+1)*5))[q*5+j]? =if q<k then xs[q*5+j]? else xs[(q+1)*5+j]? :=fun q j hj hq=>by
     split
     ·rw[List.getElem?_append_left (by rw[List.length_take];omega),List.getElem?_take_of_lt (by omega)]
     ·rw[List.getElem?_append_right (by rw[List.length_take];omega),List.length_take,List.getElem?_drop]
      congr 1
      omega
    have hes':(L.eraseIdx k).map f=es.eraseIdx k:=by rw[←hes];exact tS f L k
    have hl':(L.eraseIdx k).length=n - 1:=by rw[List.length_eraseIdx_of_lt (by omega),hln]
    have hob': ∀β',cP w' (fun _=>False) β' (oa 169 5 f (L.eraseIdx k)) (.slice (some ⟨b,0,none⟩) (n - 1) cap):=fun β'=>by
     unfold oa
     rw[hes',hl']
     refine .arr _ _ _ _ _ (xs.take (k*5)++xs.drop ((k+1)*5)) (by rw[←hes',List.length_map,hl']) ⟨by simp only[List.length_append,List.length_take,List.length_drop];omega,.inr ⟨b,cap,cur',rfl,Nat.zero_le _,hg',by omega,hcm,s1,s2⟩⟩ (fun x hx=>he x (List.mem_of_mem_eraseIdx hx)) fun q x j t u h1 h2 h3=> ?_
     have hq:q<n - 1:=by
      have:=(List.getElem?_eq_some_iff.1 h1).1
      rw[←hes',List.length_map,hl']at this
      exact this
     have hx5:=he x (List.mem_of_mem_eraseIdx (List.mem_of_getElem? h1))
     have hj:j<5:=by
      have:=(List.getElem?_eq_some_iff.1 h2).1
      omega
     have hfl:t.flat=true:=by
      have hx:=List.mem_of_mem_eraseIdx (List.mem_of_getElem? h1)
      rw[←hes]at hx
      obtain⟨y,_,rfl⟩:=List.mem_map.1 hx
      exact hf y t (List.mem_of_getElem? h2)
     rw[hat q j hj hq]at h3
     rw[AM]at h1
     split at h1
     ·rename_i hlt
      rw[if_pos hlt]at h3
      exact(hh q x j t u h1 h2 h3).free hfl
     ·rename_i hlt
      rw[if_neg hlt]at h3
      exact(hh (q+1) x j t u h1 h2 h3).free hfl
    refine⟨gv β 3000000 (.slice (some ⟨b,0,none⟩) (n - 1) cap),[.slice (some ⟨b,0,none⟩) (n - 1) cap],he',⟨rfl,fun q x u h1 h2=> ?_⟩,fun d hd=>bJ _ _ (by omega),fun d=> ?_,⟨hgr.os,hgr.tape,hgr.output,hgr.size,fun q hq hne=>hgr.block q hq fun e=>hne ⟨3000000,_,hmem,by rw[hv,e];rfl⟩⟩,fun d x hd=> ?_,fun d x d' x' g hd hd' _ _=> ?_⟩
    ·cases q with
     | zero=>
      injection h1 with h1
      injection h2 with h2
      subst h1 h2
      have:cM w' (fun _=>False) (gv β 3000000 (.slice (some ⟨b,0,none⟩) (n - 1) cap)) (.own 3000000) (gv β 3000000 (.slice (some ⟨b,0,none⟩) (n - 1) cap) 3000000):= .own _
      rwa [bP]at this
     | succ q=>cases h1
    ·unfold gv
     split
     ·rfl
     ·exact hone d
    ·injection List.mem_singleton.1 hd with e1 e2
     subst e1 e2
     rw[bP]
     refine⟨hob' _,fun g hg2=> .inl ⟨3000000,_,hmem,?_,fun _=>by omega⟩⟩
     rw[hv]
     have hg2:some b=some g:=hg2
     exact hg2
    ·injection List.mem_singleton.1 hd with e1 e2
     injection List.mem_singleton.1 hd' with e3 e4
     rw[e1,e3]
 ·cases h
end Go.Proofs.YtdejeagdkfokfaaGreatDoor.Sh
