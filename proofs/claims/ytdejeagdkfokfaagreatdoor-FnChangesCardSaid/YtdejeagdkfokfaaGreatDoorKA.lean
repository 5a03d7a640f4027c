/- Library functions as typed calls: Clone, Trim, Grow; bounds on sizes alone. -/
import Derived.Test.YtdejeagdkfokfaaGreatDoorSB
import Derived.Shelf.SlicesE.Clone
import Derived.Shelf.Strings.SlTrimAscii
import Derived.Shelf.Spec.SlicesGrow
namespace Go.Proofs.YtdejeagdkfokfaaGreatDoor.Sh
open Go.RowKit Go.Shelf Go.Lib
variable {P : Program} {ρ : Ren}
set_option maxHeartbeats 2000000 in
set_option maxRecDepth 100000 in
theorem y5(L:SlLaysE0.n41 P ρ)(i0:TypeInfo)(z:Value)(size bytes:Nat)(hi:P.info? (ρ.t 23)=some i0)(hz0:i0.zero=some z)(hz1:i0.size=size)(hz2:i0.bytes=bytes)(hzs:z.cells.size=size)(hsz:0<size)
  (z23: ∀w,(Go.sizeOf (ρ.t 23)).run P w= .ok size w) (a:Addr) (n c:Nat) (news:List Value) (w:World) (hl:news.length=n*size) (hn:n≤maxLen) (hbig:n*bytes≤140737488355328)
  (hc: ∀j u,news[j]? =some u→w.cell? (a.add j)=some u) (h1: ∀u∈news,u.oneCell'=true):
  Calls P (ρ.f 41) #[.slice (some a) n c] w fun e w'=> ∃v',e= .returned v'∧w'.ownsRow w.heap.size (ρ.t 23) size v' n news∧Below w.heap.size w w':=by
 have mixed:=L.mixed
 have t4:=L.t4
 have a4:=L.a4
 have z4:=L.z4
 have v4:=L.v4
 have t22:=L.t22
 have a22:=L.a22
 have z22:=L.z22
 have v22:=L.v22
 have q22: ∀(w:World) (a:Option Addr) (n c n' c':Nat),(binOp .eql (ρ.t 22) (.slice a n c) (.slice none n' c')).run P w= .ok (.bool a.isNone) w:=fun w a n c n' c'=>Lib.run_eql_slice_nil w _ _ a n c n' c' L.t22
 have u22: ∀w,Sem.run P (underlying (ρ.t 22)) w= .ok (TypeDesc.slice (ρ.t 23)) w:=run_underlying t22
 have A:Aside (∀j u,news[j]? =some u→w.cell? (a.add j)=some u):=hc
 clear hc
 obtain⟨_,_,FG⟩:=L.f41
 go_enter FG,SlBodyN.n41_ntmps ρ
 go_wp2_with (at_builtin;refine wpList_append_own _ rfl _ _ (ρ.t 22) rfl w.heap.size (ρ.t 23) i0 z size bytes t22 hi hz0 hz1 hz2 hzs hsz _ _ _ rfl (World.ownsRow_made w #[] 0 (Nat.le_refl _) (Nat.zero_le _) (by simp)) a n c news rfl ?k1 ?k2 ?k3 ?k4 ?k5 ?k6 ?_)
 case k1=>exact hl
 case k2=>exact fun j u hj=>Lib.cell?_alloc_some _ (A.out j u hj)
 case k3=>exact h1
 case k4=>rw[Nat.zero_add];exact hn
 case k5=>rw[Nat.zero_add];exact hbig
 case k6=>simp
 intro v' w1 hown hgrow hnil
 go_wp2
 go_ret
 exact⟨v',rfl,by simpa using hown,((Below.refl _ w).alloc (Nat.le_refl _) _).grown hgrow (by simp) (by intro k hk;simp[Value.ownBlock]at hk;omega)⟩
theorem BI{w:World}{S:Nat→Prop}{t:Tr}{v:Value}(h:TV w S t v):v.oneCell'=true:=by
 cases h<;>rfl
theorem zJ{w:World}{S:Nat→Prop}{es:List (List Tr)}{m:Nat}{u:Nat→Nat→Value}(hm:0<m)(he: ∀e∈es,e.length=m)(_hu: ∀(i:Nat) e (j:Nat) t,es[i]? =some e→e[j]? =some t→TV w S t (u i j)):
  ∃xs:List Value,xs.length=es.length*m∧ ∀(i:Nat) e (j:Nat) t,es[i]? =some e→e[j]? =some t→xs[i*m+j]? =some (u i j):=by
 refine⟨(List.range (es.length*m)).map fun k=>u (k/m) (k % m),by simp,fun i e j t hi hj=> ?_⟩
 have h1:=(List.getElem?_eq_some_iff.1 hi).1
 have h2:=(List.getElem?_eq_some_iff.1 hj).1
 rw[he e (List.mem_of_getElem? hi)]at h2
 have h3:(i+1)*m≤es.length*m:=Nat.mul_le_mul_right _ h1
 rw[Nat.add_mul,Nat.one_mul]at h3
 rw[List.getElem?_map,List.getElem?_range (by omega)]
 have e1:(i*m+j)/m=i:=by rw[Nat.mul_comm,Nat.mul_add_div hm];simp[Nat.div_eq_of_lt h2]
 have e2:(i*m+j) % m=j:=by rw[Nat.mul_comm,Nat.mul_add_mod];exact Nat.mod_eq_of_lt h2
 simp[e1,e2]
theorem qD{α:Type}(f:α→List Tr)(L:SlLaysE0.n41 P ρ)(k e:Nat)(hk:ρ.f 41=k)(ht:ρ.t 23=e)(i0:TypeInfo)(z:Value)(size bytes:Nat)(hi:P.info? e=some i0)(hz0:i0.zero=some z)(hz1:i0.size=size)(hz2:i0.bytes=bytes)(hzs:z.cells.size=size)(hsz:0<size)
  (z23: ∀w,(Go.sizeOf e).run P w= .ok size w) (hm: ∀x,(f x).length=size) (M:List α) (hbig:M.length*bytes≤140737488355328):aR P k [.v (.tr (.sl M.length (M.map f)))] ⟨[.own e size M.length (M.map f)],[],true⟩:=by
 intro w S vs hn hS hv _ _ _
 subst ht
 subst hk
 have hvs:vs= #[vs.getD 0 undef]:=by
  simp at hn
  apply Array.ext
  ·simp[hn]
  ·intro i h1 h2
   have:i=0:=by omega
   subst this
   simp[Array.getD,h1]
 have h0:=hv 0 _ (vs.getD 0 undef) rfl (by
  simp at hn
  simp[Array.getD,hn])
 rw[hvs]
 generalize vs.getD 0 undef=v0 at h0⊢
 cases h0 with
 | tr _ _ h0=>
  generalize hln:M.length=n at h0 hbig⊢
  generalize hes:M.map f=es at h0⊢
  cases h0 with
  | sl es A n c m u hl hc hmx he hu ha=>
   have hmm:es≠[]→m=size:=by
    intro hne
    obtain⟨x,l,rfl⟩:=List.exists_cons_of_ne_nil hne
    have h1:=he x (by simp)
    have h2:x∈M.map f:=by rw[hes];simp
    obtain⟨y,_,rfl⟩:=List.mem_map.1 h2
    rw[←h1,hm]
   have hes2: ∀x∈es,x.length=size:=by
    intro x hx
    rw[←hes]at hx
    obtain⟨y,_,rfl⟩:=List.mem_map.1 hx
    exact hm y
   cases A with
   | none=>
    have h1:es=[]:=by
     rcases es with _ | ⟨x,l⟩
     ·rfl
     ·obtain⟨b,o,h2,_⟩:=ha (by simp)
      cases h2
    subst h1
    have h2:n=0:=by simpa using hl.symm
    subst h2
    refine(AnyE.slices_Clone_nil L 0 c w).mono fun r w' h=> ?_
    obtain⟨rfl,rfl⟩:=h
    exact⟨_,S,rfl,dC.refl _ _,fun b hb=> .inl ⟨rfl,hb⟩,hS,⟨.arr _ size 0 [] _ [] rfl ⟨by simp,.inl ⟨rfl,rfl⟩⟩ (by simp) (fun i x j t u hi=>by simp at hi),fun g hg=>by simp[cJ]at hg⟩,fun j x u hj=>by simp at hj⟩
   | some a=>
    obtain⟨xs,hx1,hx2⟩:=zJ (w:=w) (S:=S) (es:=es) (m:=size) hsz hes2 (u:=u) hu
    have hxs: ∀q v,xs[q]? =some v→ ∃i e j t,es[i]? =some e∧e[j]? =some t∧q=i*size+j∧v=u i j:=by
     intro q v hq
     have hql:=(List.getElem?_eq_some_iff.1 hq).1
     rw[hx1]at hql
     have hi:q/size<es.length:=Nat.div_lt_of_lt_mul (by rw[Nat.mul_comm];exact hql)
     have hj:q % size<(es[q/size]).length:=by rw[hes2 _ (List.getElem_mem hi)];exact Nat.mod_lt _ hsz
     have h3:=hx2 (q/size) _ (q % size) _ (List.getElem?_eq_getElem hi) (List.getElem?_eq_getElem hj)
     have h4:q/size*size+q % size=q:=by rw[Nat.mul_comm];exact Nat.div_add_mod q size
     rw[h4,hq]at h3
     injection h3 with h3
     exact⟨_,_,_,_,List.getElem?_eq_getElem hi,List.getElem?_eq_getElem hj,h4.symm,h3⟩
    refine(y5 L i0 z size bytes hi hz0 hz1 hz2 hzs hsz z23 a n c xs w (by rw[hx1,hl]) (by omega) hbig (fun q v hq=> ?_) (fun v hv=> ?_)).mono fun r w' h=> ?_
    ·obtain⟨i,e,j,t,h1,h2,rfl,rfl⟩:=hxs q v hq
     have hne:es≠[]:=by rintro rfl;simp at h1
     obtain⟨b,o,h3,_,h5⟩:=ha hne
     injection h3 with h3
     subst h3
     have:=hmm hne
     subst this
     rw[Addr.add_lit,←Nat.add_assoc]
     exact h5 i e j t h1 h2
    ·obtain⟨q,hq⟩:=List.mem_iff_getElem?.1 hv
     obtain⟨i,e,j,t,h1,h2,_,rfl⟩:=hxs q v hq
     exact BI (hu i e j t h1 h2)
    ·obtain⟨v',rfl,hown,hb⟩:=h
     refine⟨v',S,rfl,dC.sB hb _,fun b hb=> .inl ⟨rfl,hb⟩,fun b hb2=>Nat.lt_of_lt_of_le (hS b hb2) hb.size,⟨.arr _ size n es v' xs hl ⟨hown.1,?_⟩ hes2 (fun i x j t q h1 h2 h3=> ?_),fun g hg=> ?_⟩,fun j x u hj=>by simp at hj⟩
     ·rcases hown.2 with h | ⟨g,cap,cur,h3,h4,h5⟩
      ·exact .inl h
      ·exact .inr ⟨g,cap,cur,h3,Nat.zero_le _,h5⟩
     ·rw[hx2 i x j t h1 h2]at h3
      injection h3 with h3
      subst h3
      exact(hu i x j t h1 h2).keep (fun b hb3=>hb.block b (hS b hb3)) fun b hb=>hb
     ·rcases hown.2 with⟨h,_⟩ | ⟨g',cap,cur,h3,h4,h5⟩
      ·subst h;simp[cJ]at hg
      ·subst h3
       simp[cJ]at hg
       subst hg
       exact⟨h4,fun h6=>absurd (hS _ h6) (by omega)⟩
end Go.Proofs.YtdejeagdkfokfaaGreatDoor.Sh
namespace Go.Proofs.YtdejeagdkfokfaaGreatDoor.Sh
open Go.RowKit Go.Shelf Go.Lib
def Tr.val:Tr→Value
 | .int k n=> .int k n
 | .bool b=> .bool b
 | .str s=> .string s
 | .sl _ _=>undef
 | .nil=> .slice none 0 0
 | .nilf=> .nilFunc
theorem EW{w:World}{S:Nat→Prop}{t:Tr}{v:Value}(h:TV w S t v)(hf:t.flat=true):v=t.val:=by
 cases h with
 | int=>rfl
 | bool=>rfl
 | str=>rfl
 | sl=>cases hf
 | nil=>rfl
 | nilf=>rfl
def Tr.small:Tr→Prop
 | .str s=>s.size≤maxLen
 | _=>True
theorem EX{w:World}{S:Nat→Prop}{t:Tr}(hf:t.flat=true)(hs:t.small):TV w S t t.val:=by
 cases t with
 | int k n=>exact .int k n
 | bool b=>exact .bool b
 | str s=>exact .str s hs
 | sl=>cases hf
 | nil=>exact .nil
 | nilf=>exact .nilf
theorem tJ{w:World}{S:Nat→Prop}{ts:List Tr}(hf: ∀t∈ts,t.flat=true){vs:Array Value}(hn:vs.size=ts.length)(hv: ∀(j:Nat) x v,(ts.map fun t=>gE.v (.tr t))[j]? =some (gE.v x)→vs[j]? =some v→cM w S bz x v):vs=(ts.map Tr.val).toArray:=by
 apply Array.ext
 ·simp[hn]
 ·intro i h1 h2
  have h3:i<ts.length:=by omega
  have h4:=hv i (.tr ts[i]) vs[i] (by simp[List.getElem?_eq_getElem h3]) (Array.getElem?_eq_getElem h1)
  cases h4 with
  | tr _ _ h4=>
   rw[EW h4 (hf _ (List.getElem_mem h3))]
   simp
theorem sG{P:Program}{k:FuncId}(ts:List Tr)(hf: ∀t∈ts,t.flat=true)(r:Tr)(hr:r.flat=true)(hs:r.small)(h: ∀w,Calls P k (ts.map Tr.val).toArray w fun e w'=>e= .returned r.val∧Below w.heap.size w w'):aR P k (ts.map fun t=>gE.v (.tr t)) ⟨[.v (.tr r)],[],false⟩:=by
 intro w S vs hn hS hv _ _ _
 rw[tJ hf (by simpa using hn) hv]
 refine(h w).mono fun e w' h=> ?_
 obtain⟨rfl,hb⟩:=h
 exact⟨_,fun _=>False,rfl,dC.sB hb _,fun b hb=>hb.elim,fun b hb=>hb.elim,⟨rfl,.tr _ _ (EX hr hs)⟩,fun j x u hj=>by simp at hj⟩
def eX(s c:ByteArray):Option ByteArray:=bif c.data.toList.all (fun b=>decide (b.toNat<128))&&(decide (c.size≤1000)&&decide (s.size≤maxLen))then some ⟨(trimS s.data.toList c.data.toList).toArray⟩else none
theorem zU(l c:List UInt8):(trimS l c).length≤l.length:=by
 have hd: ∀(p:UInt8→Bool) (l:List UInt8),(l.dropWhile p).length≤l.length:=fun p l=>List.Sublist.length_le (List.dropWhile_sublist p)
 unfold trimS trimRightS trimLeftS
 have h1:=hd (fun b=>c.contains b) l.reverse
 have h2:=hd (fun b=>c.contains b) ((l.reverse.dropWhile (fun b=>c.contains b)).reverse)
 simp only[List.length_reverse]at h1 h2⊢
 omega
theorem BH{P:Program}{ρ:Ren}(L:Lays.n160 P ρ)(h116:(P.info? (ρ.t 116)).map (fun i=>(i.zero,i.size))=some (some (.agg (Array.replicate 256 (.bool false))),256))(k:FuncId)(hk:ρ.f 160=k)(s c r:ByteArray)(h:eX s c=some r):aR P k [.v (.tr (.str s)),.v (.tr (.str c))] ⟨[.v (.tr (.str r))],[],false⟩:=by
 unfold eX at h
 cases hb:(c.data.toList.all (fun b=>decide (b.toNat<128))&&(decide (c.size≤1000)&&decide (s.size≤maxLen)))
 ·rw[hb]at h;cases h
 ·rw[hb]at h
  injection h with h
  subst h
  simp only[Bool.and_eq_true,decide_eq_true_eq]at hb
  obtain⟨h1,h2,h3⟩:=hb
  subst hk
  refine sG [.str s,.str c] (by simp[Tr.flat]) _ rfl ?_ fun w=>Any.strings_Trim_laid L h116 s c w (by unfold maxLen at h3;omega) (by omega) (ascii_of_all h1)
  show(List.toArray _).size≤maxLen
  rw[List.size_toArray]
  have:=zU s.data.toList c.data.toList
  have h4:s.data.toList.length=s.size:=by rw[Array.length_toList];rfl
  omega
end Go.Proofs.YtdejeagdkfokfaaGreatDoor.Sh
namespace Go.Proofs.YtdejeagdkfokfaaGreatDoor.Sh
open Go.RowKit Go.Shelf Go.Lib
theorem yW(w:World)(o:Obj):(w.alloc o).heap[w.heap.size]? =some o:=by
 show(w.heap.push o)[w.heap.size]? =_
 simp
end Go.Proofs.YtdejeagdkfokfaaGreatDoor.Sh
