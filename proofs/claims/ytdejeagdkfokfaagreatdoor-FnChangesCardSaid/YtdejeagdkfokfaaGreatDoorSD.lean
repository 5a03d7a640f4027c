/- Deep objects: slices whose elements own their slices; no condition. -/
import Derived.Test.YtdejeagdkfokfaaGreatDoorSB
namespace Go.Proofs.YtdejeagdkfokfaaGreatDoor.Sh
open Go.RowKit
theorem kE.append{w w':World}{e m n k:Nat}{ss:List Sh}{es es2:List (List Tr)}{v v2 v':Value}{xs xs2:List Value}(h1:kE w e m ss n es v xs)(h2:kE w e m ss k es2 v2 xs2)(hap: ∀g,FP w (.sl e m ss) v g→ ¬FP w (.sl e m ss) v2 g)
  (hown:w'.ownsRow 0 e m v' (n+k) (xs++xs2)) (hg: ∀b,b<w.heap.size→cJ v≠some b→w'.heap[b]? =w.heap[b]?) (hbl: ∀g,cJ v'=some g→cJ v=some g∨w.heap.size≤g):
  kE w' e m ss (n+k) (es++es2) v' (xs++xs2)∧ ∀g,FP w' (.sl e m ss) v' g→FP w (.sl e m ss) v g∨FP w (.sl e m ss) v2 g∨w.heap.size≤g:=by
 have hx1:xs.length=n*m:=h1.hown.1
 have hl1:=h1.hn
 have place: ∀(i j:Nat) u,j<m→(xs++xs2)[i*m+j]? =some u→(i<n∧xs[i*m+j]? =some u)∨(n≤i∧xs2[(i - n)*m+j]? =some u):=by
  intro i j u hj hu
  by_cases hin:i<n
  ·have h8:(i+1)*m≤n*m:=Nat.mul_le_mul_right _ hin
   rw[Nat.add_mul]at h8
   rw[List.getElem?_append_left (by omega)]at hu
   exact .inl ⟨hin,hu⟩
  ·have h8:n*m≤i*m:=Nat.mul_le_mul_right _ (by omega)
   rw[List.getElem?_append_right (by omega)]at hu
   refine .inr ⟨by omega,?_⟩
   rw[←hu]
   congr 1
   rw[hx1,Nat.sub_mul]
   omega
 have keep1: ∀(i j:Nat) s t u,j<m→ss[j]? =some s→xs[i*m+j]? =some u→DV w s t u→DV w' s t u∧ ∀g,FP w' s u g↔FP w s u g:=fun i j s t u hj hs hu hd=>hd.keep fun g hgg=>hg g (FP.lt hd hgg) (h1.hs i j s u g hj hs hu hgg)
 have keep2: ∀(i j:Nat) s t u,j<m→ss[j]? =some s→xs2[i*m+j]? =some u→DV w s t u→DV w' s t u∧ ∀g,FP w' s u g↔FP w s u g:=fun i j s t u hj hs hu hd=>hd.keep fun g hgg=>hg g (FP.lt hd hgg) fun e=>hap g (.here _ _ _ _ _ e) (h2.fp hj hs hu hgg)
 have src: ∀(i j:Nat) s u g,j<m→ss[j]? =some s→(xs++xs2)[i*m+j]? =some u→FP w' s u g→(i<n∧xs[i*m+j]? =some u∧FP w s u g)∨(n≤i∧xs2[(i - n)*m+j]? =some u∧FP w s u g):=by
  intro i j s u g hj hs hu hgg
  rcases place i j u hj hu with⟨hi,h3⟩ | ⟨hi,h3⟩
  ·obtain⟨_,s',x,t,hs',_,_,hd⟩:=h1.at hj h3
   rw[hs]at hs'
   injection hs' with hs'
   subst hs'
   exact .inl ⟨hi,h3,((keep1 i j s t u hj hs h3 hd).2 g).1 hgg⟩
  ·obtain⟨_,s',x,t,hs',_,_,hd⟩:=h2.at hj h3
   rw[hs]at hs'
   injection hs' with hs'
   subst hs'
   exact .inr ⟨hi,h3,((keep2 (i - n) j s t u hj hs h3 hd).2 g).1 hgg⟩
 have hlt1: ∀{i j:Nat} {s u g},j<m→ss[j]? =some s→xs[i*m+j]? =some u→FP w s u g→g<w.heap.size:=fun hj hs hu hf=>FP.lt h1.dv (h1.fp hj hs hu hf)
 have hlt2: ∀{i j:Nat} {s u g},j<m→ss[j]? =some s→xs2[i*m+j]? =some u→FP w s u g→g<w.heap.size:=fun hj hs hu hf=>FP.lt h2.dv (h2.fp hj hs hu hf)
 have hrow:kE w' e m ss (n+k) (es++es2) v' (xs++xs2):=by
  refine⟨by simp[h1.hn,h2.hn],hown,h1.hc,fun x hx=>(List.mem_append.1 hx).elim (h1.he x) (h2.he x),fun i x j s t u hi hs ht hu=> ?_,fun i j s u g hj hs hu hgg hb=> ?_,fun i j i' j' s s' u u' g hj hj' hs hs' hu hu' hgg hgg'=> ?_⟩
  ·have hj:j<m:=by rw[←h1.hc];exact(List.getElem?_eq_some_iff.1 hs).1
   rcases place i j u hj hu with⟨hin,h3⟩ | ⟨hin,h3⟩
   ·rw[List.getElem?_append_left (by omega)]at hi
    exact(keep1 i j s t u hj hs h3 (h1.h i x j s t u hi hs ht h3)).1
   ·rw[List.getElem?_append_right (by omega),hl1]at hi
    exact(keep2 (i - n) j s t u hj hs h3 (h2.h (i - n) x j s t u hi hs ht h3)).1
  ·rcases src i j s u g hj hs hu hgg with⟨hin,h3,h4⟩ | ⟨hin,h3,h4⟩
   ·rcases hbl g hb with h5 | h5
    ·exact h1.hs i j s u g hj hs h3 h4 h5
    ·exact absurd (hlt1 hj hs h3 h4) (by omega)
   ·rcases hbl g hb with h5 | h5
    ·exact hap g (.here _ _ _ _ _ h5) (h2.fp hj hs h3 h4)
    ·exact absurd (hlt2 hj hs h3 h4) (by omega)
  ·rcases src i j s u g hj hs hu hgg with⟨hin,h3,h4⟩ | ⟨hin,h3,h4⟩<;>rcases src i' j' s' u' g hj' hs' hu' hgg' with⟨hin',h3',h4'⟩ | ⟨hin',h3',h4'⟩
   ·exact h1.ha i j i' j' s s' u u' g hj hj' hs hs' h3 h3' h4 h4'
   ·exact(hap g (h1.fp hj hs h3 h4) (h2.fp hj' hs' h3' h4')).elim
   ·exact(hap g (h1.fp hj' hs' h3' h4') (h2.fp hj hs h3 h4)).elim
   ·have:=h2.ha (i - n) j (i' - n) j' s s' u u' g hj hj' hs hs' h3 h3' h4 h4'
    omega
 refine⟨hrow,fun g hgg=> ?_⟩
 rcases hrow.fp' hgg with h3 | ⟨i,j,s,u,hj,hs,hu,hf⟩
 ·rcases hbl g h3 with h4 | h4
  ·exact .inl (.here _ _ _ _ _ h4)
  ·exact .inr (.inr h4)
 ·rcases src i j s u g hj hs hu hf with⟨_,h3,h4⟩ | ⟨_,h3,h4⟩
  ·exact .inl (h1.fp hj hs h3 h4)
  ·exact .inr (.inl (h2.fp hj hs h3 h4))
theorem kE.nil{w:World}{e m:Nat}{ss:List Sh}{v:Value}{xs:List Value}(hown:w.ownsRow 0 e m v 0 xs)(hc:ss.length=m):kE w e m ss 0 [] v xs:=by
 have hx:xs=[]:=List.eq_nil_of_length_eq_zero (by rw[hown.1];simp)
 subst hx
 exact⟨rfl,hown,hc,by simp,by simp,by simp,by simp⟩
section
variable {P : Program} {tb : Tb} {ops : Array Oper} {o : Oper} {c : Cx} {S : Nat → Prop} {β : Nat → Value} {σ : SS} {a : Act} {w : World}
theorem As{s:Sh}{t:Tr}{u:Value}(h:DV w s t u):u.oneCell'=true:=by
 cases h with
 | flat t v hf h=>exact vc h
 | sl _ _ _ _ _ _ _ _ hown=>rcases hown.2 with⟨rfl,_⟩ | ⟨g,cap,cur,rfl,_⟩<;>rfl
theorem Rel.view(hr:Rel c S β σ a w){d:Nat}{x x':SO}(hd:(d,x)∈σ.o)(hx:cP w S β x' (β d))(hft: ∀g',x'.bm w (β d) g'→x.bm w (β d) g'):eh c {σ with o:=(d,x')::σ.o.filter (fun p=>p.1 !=d)} a w:=
 ⟨_,_,hr.BG hd (dC.refl _ w) (S':=fun _=>False) (fun _ h=>h.elim) (fun _ h=>h.elim) (hx.keep (fun _ _=>rfl) fun _ h=> .inl h) hft⟩
theorem Le.qG{d e m:Nat}{ss:List Sh}(hf:find d σ.o=some (.arr e m 0 []))(hc:ss.length=m):Le σ {σ with o:=(d,.deep e m 0 ss [])::σ.o.filter (fun p=>p.1 !=d)}:=by
 intro c a w ⟨S,β,hr⟩
 have hm:=a8 hf
 have ho:=hr.obj d _ hm
 generalize hb:β d=b at ho
 cases ho with
 | arr _ _ _ _ v xs hn hown he h=>
  have hrow:=kE.nil (ss:=ss) hown hc
  refine hr.view hm (by rw[hb];exact .deep _ _ _ _ _ _ hrow.dv) fun g hg=> ?_
  rw[hb]at hg⊢
  rcases hrow.fp' hg with h1 | ⟨i,j,s,u,hj,_,hu,_⟩
  ·exact h1
  ·have:=(hrow.at hj hu).1
   omega
theorem pa(hP:ba P tb){s x:Operand}{t:Nat}{args:Array Operand}{ts:Array TypeId}(ho:o.op= .call {callee:= .builtin .append,args:=args,argTypes:=ts})(hargs:args= #[s,x])(hts:ts= #[t,t]){d0:Nat}(hdst:o.dst=some d0)(hd0:d0<σ.n)(hgd:gd ops σ o=some true)
  {ti tj:TI} {zs:List Value} {e m n k d dx:Nat} {ss:List Sh} {es es2 es':List (List Tr)} (ht:find t tb=some ti) (hti:ti.d= .slice e) (he:find e tb=some tj) (hz:ij tj.zero=some zs) (hzl:tj.zero.length=tj.size) (hpos:0<tj.size) (hm:m=tj.size) (hby:tj.bytes≤2048)
  (hs:ev σ s=some (.own d)) (hdn:d<σ.n) (hob:find d σ.o=some (.deep e m n ss es)) (hx:ev σ x=some (.own dx)) (hdxn:dx<σ.n) (hne:dx≠d) (hobx:find dx σ.o=some (.deep e m k ss es2)) (hlen:n+k≤68719476736) (hes:es++es2=es') (hf:d0∉((σ.kill d).kill dx).names):
  ar P ops o σ (((σ.kill d).kill dx).add d0 (.own d0) (.deep e m (n+k) ss es')):=by
 subst hargs hts hm hes
 refine kW hgd fun c S β a w hr=> ?_
 have hv:=bH hr hs
 have hxv:=bH hr hx
 have hmem:=a8 hob
 have hmemx:=a8 hobx
 have hobj:=hr.obj d _ hmem
 have hobjx:=hr.obj dx _ hmemx
 generalize hsv:a.eval s=sv at hv
 generalize hxe:a.eval x=sx at hxv
 cases hv with
 | own d=>
 cases hxv with
 | own dx=>
  have hapd: ∀g,FP w (.sl e tj.size ss) (β d) g→ ¬FP w (.sl e tj.size ss) (β dx) g:=fun g h1 h2=>hne (hr.apart dx _ d _ g hmemx hmem h2 h1)
  have hpd: ∀g,FP w (.sl e tj.size ss) (β d) g→ ¬S g∧c.w0.heap.size≤g:=fun g hg=>by
   obtain⟨q1,q2⟩:=hr.priv d _ g hmem hg
   exact⟨q1,q2.elim (fun h=>h.2) fun h=>by omega⟩
  have hpx: ∀g,FP w (.sl e tj.size ss) (β dx) g→ ¬S g∧c.w0.heap.size≤g:=fun g hg=>by
   obtain⟨q1,q2⟩:=hr.priv dx _ g hmemx hg
   exact⟨q1,q2.elim (fun h=>h.2) fun h=>by omega⟩
  cases hobj with
  | deep _ _ _ _ _ _ h=>
  cases hobjx with
  | deep _ _ _ _ _ _ hx2=>
   obtain⟨xs,hr1⟩:=h.row
   obtain⟨xs2,hr2⟩:=hx2.row
   obtain⟨q,h1,h2,h3,h4⟩:=(br hP he).nn
   obtain⟨z,h5,h6⟩:=h4 zs hz
   obtain⟨h7,_⟩:=lk (w:=w) (S:=S) hz
   have hzs:z.cells.size=tj.size:=by rw[←hzl,h7,←h6];simp
   have hb:(n+k)*tj.bytes≤140737488355328:=Nat.le_trans (Nat.mul_le_mul hlen hby) (by decide)
   have hone: ∀u∈xs2,u.oneCell'=true:=by
    intro u hu
    obtain⟨q,hq⟩:=List.mem_iff_getElem?.1 hu
    have e1:q/tj.size*tj.size+q % tj.size=q:=by have:=Nat.div_add_mod q tj.size;rw[Nat.mul_comm]at this;exact this
    obtain⟨_,s,x,t,_,_,_,hd⟩:=hr2.at (i:=q/tj.size) (j:=q % tj.size) (Nat.mod_lt _ hpos) (by rw[e1];exact hq)
    exact As hd
   have hsrc: ∃A cc,β dx= .slice A k cc∧(A=none→k=0)∧ ∀a,A=some a→ ∀(j:Nat) u,xs2[j]? =some u→w.cell? (a.add j)=some u:=by
    rcases hr2.hown.2 with⟨h8,h9⟩ | ⟨g,cap,cur,h8,_⟩
    ·exact⟨none,0,by rw[h8,h9],fun _=>h9,by simp⟩
    ·exact⟨_,cap,h8,by simp,fun a ha j u hu=>by
      injection ha with ha
      subst ha
      exact hr2.hown.cells (g:=g) (by rw[h8];rfl) j u hu⟩
   obtain⟨A,cc,hA0,hA,hnc⟩:=hsrc
   obtain⟨v',w',hrun,hown',hg,hbl⟩:=rR (P:=P) w t o.type e q z tj.size tj.bytes ((br hP ht).slice hti) h1 h5 h2 h3 hzs hpos (β d) n xs hr1.hown A k cc xs2 hA hr2.hown.1 hnc hone (by simp[maxLen];omega) hb
   have hexec:(execOp a.eval o).run P w= .ok (.value v') w':=by
    simp only[execOp,ho,resolve,invoke,builtin,Sem.run_bind,Sem.run_pure,Result.andThen_ok,List.map_toArray,List.map_cons,List.map_nil,hsv,hxe,hA0,hrun]
   refine iF hexec ?_
   have hbo:=yL hr1.hown
   have hkeepS: ∀b,S b→w'.heap[b]? =w.heap[b]? :=fun b hb=>hg.block b (hr.lt b hb) fun e=>(hpd b (.here _ _ _ _ _ (by rw[←hbo];exact e.symm))).1 hb
   have hko: ∀{k x},(k,x)∈((σ.kill d).kill dx).o→(k,x)∈σ.o∧k≠d∧k≠dx:=fun h=>⟨(b0 (b0 h).1).1,(b0 (b0 h).1).2,(b0 h).2⟩
   have hob': ∀{k x},(k,x)∈σ.o→k≠d→ ∀b,x.bm w (β k) b→w'.heap[b]? =w.heap[b]? :=fun{k x} hk hne b hb=>hg.block b ((hr.obj k x hk).lt hb) fun e=>hne (hr.apart k x d _ b hk hmem hb (kY (by rw[←hbo];exact e.symm)))
   have hof: ∀{k x},(k,x)∈σ.o→k≠d→ ∀{b},x.bm w' (β k) b→x.bm w (β k) b:=fun{k x} hk hne {b} hb=>((hr.obj k x hk).bm (hob' hk hne)).1 hb
   have hrk:Rel c S β ((σ.kill d).kill dx) a w':=by
    refine⟨hr.defers,hr.size,hr.one,hr.grew.of (dC.wq hg) (fun g hgb hlt=> ?_),hr.s0,hr.s1,fun b hb=>Nat.lt_of_lt_of_le (hr.lt b hb) hg.size,fun i y hi=>⟨(hr.tmp i y (mJ (mJ hi))).1,(hr.tmp i y (mJ (mJ hi))).2.keep hkeepS fun _ h=>h⟩,fun k y hk=> ?_,fun j u hj=>⟨(hr.pin j u hj).1,fun y hy=>(hr.pin j u hj).2 y (hko hy).1⟩,fun k y g hk hgb=>hr.priv k y g (hko hk).1 (hof (hko hk).1 (hko hk).2.1 hgb),fun k y k' y' g hk hk' h h'=>hr.apart k y k' y' g (hko hk).1 (hko hk').1 (hof (hko hk).1 (hko hk).2.1 h) (hof (hko hk').1 (hko hk').2.1 h')⟩
    ·have:=(hpd g (.here _ _ _ _ _ (by rw[←hbo];exact hgb))).2
     omega
    ·refine(hr.obj k y (hko hk).1).keep (fun b hb=> ?_) fun _ h=>h
     rcases hb with hb | hb
     ·exact hkeepS b hb
     ·exact hob' (hko hk).1 (hko hk).2.1 b hb
   obtain⟨hnew,hfoot⟩:=hr1.append hr2 hapd hown' (fun b hb hne=>hg.block b hb fun e=>hne (by rw[←hbo];exact e.symm)) hbl
   have hv1:v'.cells= #[v']:=by rcases hown'.2 with⟨h,_⟩ | ⟨g,cap,cur,h,_⟩<;>rw[h]<;>rfl
   rw[hdst]
   refine⟨S,_,Rel.put (Rel.new hrk hf hd0 hv1 (.deep _ _ _ _ _ _ hnew.dv) fun g hgb=> ?_) hd0 ?_⟩
   ·rcases hfoot g hgb with h | h | h
    ·exact⟨(hpd g h).1,(hpd g h).2,fun d' x' hm' e=>(hko hm').2.1 (hr.apart d' x' d _ g (hko hm').1 hmem (hof (hko hm').1 (hko hm').2.1 e) h)⟩
    ·exact⟨(hpx g h).1,(hpx g h).2,fun d' x' hm' e=>(hko hm').2.2 (hr.apart d' x' dx _ g (hko hm').1 hmemx (hof (hko hm').1 (hko hm').2.1 e) h)⟩
    ·exact⟨fun hS=>absurd (hr.lt g hS) (by omega),Nat.le_trans hr.grew.size h,fun d' x' hm' e=>absurd ((hr.obj d' x' (hko hm').1).lt (hof (hko hm').1 (hko hm').2.1 e)) (by omega)⟩
   ·have:cM w' S (gv β d0 v') (.own d0) (gv β d0 v' d0):= .own d0
    rwa [bP]at this
end
theorem wW{w:World}{S:Nat→Prop}{β:Nat→Value}{e m n:Nat}{es:List (List Tr)}{v:Value}(h:cP w S β (.arr e m n es) v)(hf:kN es):DV w (.sl e m (List.replicate m .flat)) (.sl n es) v:=by
 cases h with
 | arr _ _ _ _ v xs hn hown he h=>
  have hfl: ∀{j:Nat} {s:Sh},(List.replicate m Sh.flat)[j]? =some s→s= .flat:=fun{j s} hs=>by
   rw[List.getElem?_replicate]at hs
   split at hs
   ·injection hs with hs;exact hs.symm
   ·cases hs
  refine .sl e m _ n es v xs hn hown (by simp) he (fun i x j s t u hi hs ht hu=> ?_) (fun i j s u g hj hs hu hg=> ?_) (fun i j i' j' s s' u u' g hj hj' hs hs' hu hu' hg hg'=> ?_)
  ·rw[hfl hs]
   have h1:=hf x (List.mem_of_getElem? hi) t (List.mem_of_getElem? ht)
   exact .flat t u h1 ((h i x j t u hi ht hu).free h1)
  ·rw[hfl hs]at hg
   cases hg
  ·rw[hfl hs]at hg
   cases hg
theorem D3{w:World}{S:Nat→Prop}{β:Nat→Value}{e m n:Nat}{es:List (List Tr)}{v:Value}(h:DV w (.sl e m (List.replicate m .flat)) (.sl n es) v):cP w S β (.arr e m n es) v∧kN es:=by
 obtain⟨xs,hr⟩:=h.row
 have hat: ∀(i:Nat) x (j:Nat) t u,es[i]? =some x→x[j]? =some t→xs[i*m+j]? =some u→t.flat=true∧TV w S t u:=fun i x j t u hi ht hu=>by
  have hj:=(List.getElem?_eq_some_iff.1 ht).1
  rw[hr.he x (List.mem_of_getElem? hi)]at hj
  have hd:=hr.h i x j .flat t u hi (by rw[List.getElem?_replicate,if_pos hj]) ht hu
  cases hd with
  | flat _ _ hf hv=>exact⟨hf,hv.free hf⟩
 refine⟨.arr e m n es v xs hr.hn hr.hown hr.he fun i x j t u hi ht hu=>(hat i x j t u hi ht hu).2,fun x hx t ht=> ?_⟩
 obtain⟨i,hi⟩:=List.mem_iff_getElem?.1 hx
 obtain⟨j,hj⟩:=List.mem_iff_getElem?.1 ht
 have hi1:=(List.getElem?_eq_some_iff.1 hi).1
 have hj1:=(List.getElem?_eq_some_iff.1 hj).1
 have hxl:=hr.he x hx
 have hn:=hr.hn
 have hlen:=hr.hown.1
 have h8:(i+1)*m≤n*m:=Nat.mul_le_mul_right _ (by omega)
 rw[Nat.add_mul]at h8
 have hu:xs[i*m+j]? =some (xs[i*m+j]'(by omega)):=List.getElem?_eq_getElem _
 have hj2:j<m:=by omega
 have hd:=hr.h i x j .flat t _ hi (by rw[List.getElem?_replicate,if_pos hj2]) hj hu
 cases hd with
 | flat _ _ hf _=>exact hf
inductive qC (σ:SS):Sh→SV→Tr→List Nat→Prop
 | flat (t:Tr) (h:t.flat=true):qC σ .flat (.tr t) t []
 | arr (d e m n:Nat) (es:List (List Tr)) (hf:find d σ.o=some (.arr e m n es)) (hfl:kN es) (hn:d<σ.n):qC σ (.sl e m (List.replicate m .flat)) (.own d) (.sl n es) [d]
 | deep (d e m n:Nat) (ss:List Sh) (es:List (List Tr)) (hf:find d σ.o=some (.deep e m n ss es)) (hn:d<σ.n):qC σ (.sl e m ss) (.own d) (.sl n es) [d]
inductive mu (σ:SS):List Sh→List SV→List Tr→List Nat→Prop
 | nil:mu σ [] [] [] []
 | cons (s:Sh) (x:SV) (t:Tr) (ds:List Nat) (ss:List Sh) (xs:List SV) (ts:List Tr) (es:List Nat) (h:qC σ s x t ds) (k:mu σ ss xs ts es) (hd: ∀d∈ds,d∉es):mu σ (s::ss) (x::xs) (t::ts) (ds++es)
section
variable {c : Cx} {S : Nat → Prop} {β : Nat → Value} {σ : SS} {a : Act} {w : World}
theorem qC.ok(hr:Rel c S β σ a w){s:Sh}{x:SV}{t:Tr}{ds:List Nat}(h:qC σ s x t ds){u:Value}(hu:cM w S β x u):DV w s t u∧(∀d∈ds,d<σ.n)∧ ∀g,FP w s u g→ ∃d∈ds,∃y,(d,y)∈σ.o∧y.bm w (β d) g:=by
 cases h with
 | flat t h=>
  cases hu with
  | tr _ _ hv=>exact⟨.flat t u h (hv.free h),by simp,fun g hg=>by cases hg⟩
 | arr d e m n es hf hfl hn=>
  have hm:=a8 hf
  cases hu with
  | own _=>
   refine⟨wW (hr.obj d _ hm) hfl,by simpa using hn,fun g hg=>⟨d,by simp,_,hm,?_⟩⟩
   have:=wW (hr.obj d _ hm) hfl
   obtain⟨xs,hrow⟩:=this.row
   rcases hrow.fp' hg with h1 | ⟨i,j,s,u,hj,hs,_,h1⟩
   ·exact kY h1
   ·rw[List.getElem?_replicate,if_pos hj]at hs
    injection hs with hs
    subst hs
    cases h1
 | deep d e m n ss es hf hn=>
  have hm:=a8 hf
  cases hu with
  | own _=>
   have ho:=hr.obj d _ hm
   generalize hb:β d=b at ho
   cases ho with
   | deep _ _ _ _ _ _ h=>exact⟨h,by simpa using hn,fun g hg=>⟨d,by simp,_,hm,by rw[hb];exact hg⟩⟩
end
def SS.jJ(σ:SS):List Nat→SS
 | []=>σ
 | d::ds=>(σ.kill d).jJ ds
theorem lD: ∀{ds:List Nat} {σ:SS} {k:Nat} {x:SO},(k,x)∈(σ.jJ ds).o→(k,x)∈σ.o∧k∉ds
 | [],σ,k,x,h=>⟨h,by simp⟩
 | d::ds,σ,k,x,h=>by
  obtain⟨h1,h2⟩:=lD (ds:=ds) (σ:=σ.kill d) h
  obtain⟨h3,h4⟩:=b0 h1
  exact⟨h3,by simp[h4,h2]⟩
theorem Sub.jJ: ∀(ds:List Nat) (σ:SS),Sub (σ.jJ ds) σ
 | [],σ=>⟨rfl,fun _ h=>h,fun _ h=>h⟩
 | d::ds,σ=>by
  have h1:=Sub.jJ ds (σ.kill d)
  have h2:=Sub.kill σ d
  exact⟨h1.n.trans h2.n,fun x h=>h2.t x (h1.t x h),fun x h=>h2.o x (h1.o x h)⟩
theorem mu.parts{σ:SS}{ss:List Sh}{cs:List SV}{ts:List Tr}{ds:List Nat}(h:mu σ ss cs ts ds):ts.length=ss.length∧cs.length=ss.length∧ ∃f:Nat→List Nat,(∀j,∀d∈f j,d∈ds)∧(∀j j',j≠j'→ ∀d∈f j,d∉f j')∧ ∀(j:Nat) s x t,ss[j]? =some s→cs[j]? =some x→ts[j]? =some t→qC σ s x t (f j):=by
 induction h with
 | nil=>exact⟨rfl,rfl,fun _=>[],by simp,by simp,by simp⟩
 | cons s x t ds ss xs ts es h k hd ih=>
  obtain⟨h1,h2,f,h3,h4,h5⟩:=ih
  refine⟨by simp[h1],by simp[h2],fun j=>match j with | 0=>ds | j+1=>f j,fun j d hj=> ?_,fun j j' hne d hj hj'=> ?_,fun j s' x' t' hs hx ht=> ?_⟩
  ·cases j with
   | zero=>exact List.mem_append_left _ hj
   | succ j=>exact List.mem_append_right _ (h3 j d hj)
  ·cases j with
   | zero=>
    cases j' with
    | zero=>exact hne rfl
    | succ j'=>exact hd d hj (h3 j' d hj')
   | succ j=>
    cases j' with
    | zero=>exact hd d hj' (h3 j d hj)
    | succ j'=>exact h4 j j' (by omega) d hj hj'
  ·cases j with
   | zero=>simp at hs hx ht;subst hs hx ht;exact h
   | succ j=>exact h5 j s' x' t' (by simpa using hs) (by simpa using hx) (by simpa using ht)
section
variable {P : Program} {tb : Tb} {ops : Array Oper} {o : Oper} {c : Cx} {S : Nat → Prop} {β : Nat → Value} {σ : SS} {a : Act} {w : World}
theorem pZ(hP:ba P tb){t:Nat}{x:Operand}{ps:Array (Nat×Operand)}(ho:o.op= .buildSlice t 1 ps)(hps:ps= #[(0,x)]){d0:Nat}(hdst:o.dst=some d0)(hd0:d0<σ.n)(hgd:gd ops σ o=some true)
  {ti tj:TI} {zs:List Value} {e m:Nat} {v:SV} {cs:List SV} {ss:List Sh} {ts:List Tr} {ds:List Nat} (ht:find t tb=some ti) (hti:ti.d= .slice e) (he:find e tb=some tj) (hz:ij tj.zero=some zs) (hzl:zs.length=tj.size) (hpos:0<tj.size) (hsm:tj.size≤16777216) (hm:m=tj.size)
  (hv:ev σ x=some v) (hcs:v.cells=some cs) (hC:mu σ ss cs ts ds) (hl:ss.length=m) (hf:d0∉(σ.jJ ds).names):
  ar P ops o σ ((σ.jJ ds).add d0 (.own d0) (.deep e m 1 ss [ts])):=by
 subst hps hm
 refine kW hgd fun c S β a w hr=> ?_
 obtain⟨h6,h7⟩:=SV.kR hr.one hcs (bH hr hv)
 obtain⟨l1,l2,f,f1,f2,f3⟩:=hC.parts
 obtain⟨q,h3,hsz,_,h4⟩:=(br hP he).nn
 obtain⟨z,h5,h8⟩:=h4 zs hz
 have hu:P.underlying t=some (.slice e):=by have:=(br hP ht).d;rw[hti]at this;exact this
 have hzz:z.cells.size=tj.size:=by rw[←hzl,←h8];simp
 have hcl:(a.eval x).cells.size=tj.size:=by omega
 have g3: ∀v∈[a.eval x],v.cells.size=tj.size:=by simp[hcl]
 have hwh:=Go.Great.fill_whole hpos [a.eval x] ((Array.range (1*q.size)).map (z.cells[· % z.cells.size]!)) g3 (by simp[hsz])
 have hb:=run_buildSlice (P:=P) w t e 1 #[(0,a.eval x)] _ q z hu h3 h5 (by rw[hsz];omega) (by rw[hsz];omega) (by rw[hsz]at hwh⊢;exact hwh)
 have hexec:(execOp a.eval o).run P w= .ok (.value (.slice (some ⟨w.heap.size,0,none⟩) 1 1)) (w.alloc (.cells ([a.eval x].flatMap fun v=>v.cells.toList).toArray e)):=by
  rw[execOp,ho]
  simp only[Sem.run_bind,List.map_toArray,List.map_cons,List.map_nil,hb,Result.andThen_ok,Sem.run_pure]
 refine iF hexec ?_
 generalize hw:w.alloc (.cells ([a.eval x].flatMap fun v=>v.cells.toList).toArray e)=w'
 have hg:dC (fun _=>False) w w':=by rw[←hw];exact dC.alloc _ _ _
 have hnew:w'.heap[w.heap.size]? =some (.cells ([a.eval x].flatMap fun v=>v.cells.toList).toArray e (0,0)):=by rw[←hw];exact heap_alloc_new _ _
 have hfl:([a.eval x].flatMap fun v=>v.cells.toList)=(a.eval x).cells.toList:=by simp
 rw[hfl]at hnew
 have cell: ∀(j:Nat) s t u,ss[j]? =some s→ts[j]? =some t→(a.eval x).cells[j]? =some u→(DV w' s t u∧ ∀g,FP w' s u g↔FP w s u g)∧ ∀g,FP w s u g→g<w.heap.size∧ ∃d∈f j,∃y,(d,y)∈σ.o∧d<σ.n∧y.bm w (β d) g:=by
  intro j s t u hs ht hu
  have hj:=(List.getElem?_eq_some_iff.1 hs).1
  have hx:cs[j]? =some (cs[j]'(by omega)):=List.getElem?_eq_getElem _
  obtain⟨k1,k2,k3⟩:=(f3 j s _ t hs hx ht).ok hr (h7 j _ u hx hu)
  refine⟨k1.keep fun g hgg=>hg.block g (FP.lt k1 hgg) id,fun g hgg=>⟨FP.lt k1 hgg,?_⟩⟩
  obtain⟨d,hd,y,hy,hfo⟩:=k3 g hgg
  exact⟨d,hd,y,hy,k2 d hd,hfo⟩
 have hrow:kE w' e tj.size ss 1 [ts] (.slice (some ⟨w.heap.size,0,none⟩) 1 1) (a.eval x).cells.toList:=by
  have zero: ∀{i j:Nat} {u},j<tj.size→(a.eval x).cells.toList[i*tj.size+j]? =some u→i=0∧(a.eval x).cells[j]? =some u:=fun{i j u} hj h=>by
   have hlt:=(List.getElem?_eq_some_iff.1 h).1
   rw[Array.length_toList,hcl]at hlt
   have hi:i=0:=by
    rcases Nat.eq_zero_or_pos i with h0 | h0
    ·exact h0
    ·have:=Nat.le_mul_of_pos_left tj.size h0
     omega
   subst hi
   rw[Nat.zero_mul,Nat.zero_add,Array.getElem?_toList]at h
   exact⟨rfl,h⟩
  refine⟨rfl,⟨by rw[Array.length_toList,hcl,Nat.one_mul],.inr ⟨_,1,_,rfl,Nat.zero_le _,hnew,Nat.le_refl _,by decide,by simp[hcl],List.take_of_length_le (by simp[hcl])⟩⟩,hl,fun y hy=>by rw[List.mem_singleton.1 hy,l1,hl],fun i y j s t u hi hs ht hu=> ?_,fun i j s u g hj hs hu hgg hb=> ?_,fun i j i' j' s s' u u' g hj hj' hs hs' hu hu' hgg hgg'=> ?_⟩
  ·have hj:=(List.getElem?_eq_some_iff.1 hs).1
   obtain⟨rfl,hu1⟩:=zero (by omega) hu
   have:y=ts:=by simpa using hi.symm
   subst this
   exact(cell j s t u hs ht hu1).1.1
  ·obtain⟨rfl,hu1⟩:=zero hj hu
   have ht:ts[j]? =some (ts[j]'(by omega)):=List.getElem?_eq_getElem _
   have k:=cell j s _ u hs ht hu1
   have:=(k.2 g ((k.1.2 g).1 hgg)).1
   injection hb with hb
   dsimp only at hb
   omega
  ·obtain⟨rfl,hu1⟩:=zero hj hu
   obtain⟨rfl,hu1'⟩:=zero hj' hu'
   refine⟨rfl,?_⟩
   have ht:ts[j]? =some (ts[j]'(by omega)):=List.getElem?_eq_getElem _
   have ht':ts[j']? =some (ts[j']'(by omega)):=List.getElem?_eq_getElem _
   have k:=cell j s _ u hs ht hu1
   have k':=cell j' s' _ u' hs' ht' hu1'
   obtain⟨_,d,hd,y,hy,_,q1⟩:=k.2 g ((k.1.2 g).1 hgg)
   obtain⟨_,d',hd',y',hy',_,q2⟩:=k'.2 g ((k'.1.2 g).1 hgg')
   have:=hr.apart d y d' y' g hy hy' q1 q2
   subst this
   rcases Nat.decEq j j' with hne | he
   ·exact(f2 j j' hne d hd hd').elim
   ·exact he
 have hr':=((Sub.jJ ds σ).rel hr).world hg
 rw[hdst]
 refine⟨S,_,Rel.put (Rel.new hr' hf (by rw[(Sub.jJ ds σ).n];exact hd0) rfl (.deep _ _ _ _ _ _ hrow.dv) fun g hgb=> ?_) (by rw[show({(σ.jJ ds)with o:=_}:SS).n=σ.n from(Sub.jJ ds σ).n];exact hd0) ?_⟩
 ·have hof: ∀{k y},(k,y)∈σ.o→ ∀{b},y.bm w' (β k) b→y.bm w (β k) b:=fun{k y} hk {b} hb=>((hr.obj k y hk).bm fun b hb=>hg.block b ((hr.obj k y hk).lt hb) id).1 hb
  rcases hrow.fp' hgb with hb | ⟨i,j,s,u,hj,hs,hu,hgg⟩
  ·injection hb with hb
   dsimp only at hb
   subst hb
   exact⟨hr.fresh.1,hr.fresh.2.1,fun d' y' hm' e=>hr.fresh.2.2 d' y' (lD hm').1 (hof (lD hm').1 e)⟩
  ·obtain⟨hi,s',y,t,hs',hy,ht,_⟩:=hrow.at hj hu
   have hi0:i=0:=by omega
   subst hi0
   have:y=ts:=by simpa using hy.symm
   subst this
   rw[Nat.zero_mul,Nat.zero_add,Array.getElem?_toList]at hu
   have k:=cell j s t u hs ht hu
   obtain⟨_,d,hd,z,hz',hdn,q1⟩:=k.2 g ((k.1.2 g).1 hgg)
   obtain⟨p1,p2⟩:=hr.priv d z g hz' q1
   refine⟨p1,p2.elim (fun h=>h.2) (fun h=>by omega),fun d' y' hm' e=> ?_⟩
   have:=hr.apart d' y' d z g (lD hm').1 hz' (hof (lD hm').1 e) q1
   exact(lD hm').2 (this▸f1 j d hd)
 ·have:cM w' S (gv β d0 (.slice (some ⟨w.heap.size,0,none⟩) 1 1)) (.own d0) (gv β d0 (.slice (some ⟨w.heap.size,0,none⟩) 1 1) d0):= .own d0
  rwa [bP]at this
end
theorem Le.join{σ:SS}{d k e m n i j e' m' n':Nat}{ss ss':List Sh}{es es':List (List Tr)}{x:List Tr}{y:SO}(hd:find d σ.o=some (.hol e m n ss es i j k))(hk:find k σ.o=some y)
  (hy:y= .deep e' m' n' ss' es'∨(y= .arr e' m' n' es'∧kN es'∧ss'=List.replicate m' .flat)) (hne:k≠d) (hs:ss[j]? =some (.sl e' m' ss')) (hx:es[i]? =some x) (hn:k<σ.n↔d<σ.n) (h3:k<3000000∨3000000≤d):
  Le σ {σ.kill k with o:=(d,.deep e m n ss (es.set i (x.set j (.sl n' es'))))::(σ.kill k).o}:=by
 intro c a w ⟨S,β,hr⟩
 have hmd:=a8 hd
 have hmk:=a8 hk
 have hdv:DV w (.sl e' m' ss') (.sl n' es') (β k)∧ ∀g,FP w (.sl e' m' ss') (β k) g→y.bm w (β k) g:=by
  have ho:=hr.obj k y hmk
  rcases hy with rfl | ⟨rfl,hf,rfl⟩
  ·generalize β k=b at ho
   cases ho with
   | deep _ _ _ _ _ _ h=>exact⟨h,fun g hg=>hg⟩
  ·have h:=wW ho hf
   refine⟨h,fun g hg=> ?_⟩
   obtain⟨xs,hrow⟩:=h.row
   rcases hrow.fp' hg with h1 | ⟨i,j,s,u,hj,hs,_,h1⟩
   ·exact kY h1
   ·rw[List.getElem?_replicate,if_pos hj]at hs
    injection hs with hs
    subst hs
    cases h1
 obtain⟨hdv,hfy⟩:=hdv
 have hnew: ∃xs,kE w e m ss n (es.set i (x.set j (.sl n' es'))) (β d) xs∧ ∀g,FP w (.sl e m ss) (β d) g→SO.bm w (.hol e m n ss es i j k) (β d) g∨y.bm w (β k) g:=by
  have ho:=hr.obj d _ hmd
  have hap: ∀g,FP w (.sl e' m' ss') (β k) g→ ¬HFP w e m ss i j (β d) g:=fun g h1 h2=>hne (hr.apart k y d _ g hmk hmd (hfy g h1) h2)
  generalize hb:β d=b at ho hap
  cases ho with
  | hol _ _ _ _ _ _ _ _ _ xs h hu=>
   have hj:=h.join hs hx hu hdv hap
   refine⟨xs,hj,fun g hg=> ?_⟩
   rcases hj.fp' hg with h1 | ⟨i',j',s,u,hj',hs',hu',h1⟩
   ·exact .inl (.here _ _ h1)
   ·by_cases he:i'=i∧j'=j
    ·obtain⟨rfl,rfl⟩:=he
     rw[hs]at hs'
     injection hs' with hs'
     rw[hu]at hu'
     injection hu' with hu'
     subst hs' hu'
     exact .inr (hfy g h1)
    ·exact .inl (h.fp he hj' hs' hu' h1)
 obtain⟨xs,hrow,hfo⟩:=hnew
 have hr0:=(Sub.kill σ k).rel hr
 have hmem: ∀{l z},(l,z)∈(d,SO.deep e m n ss (es.set i (x.set j (.sl n' es'))))::(σ.kill k).o→(l=d∧z= .deep e m n ss (es.set i (x.set j (.sl n' es'))))∨((l,z)∈σ.o∧l≠k∧(l,z)∈(σ.kill k).o):=by
  intro l z h
  rcases List.mem_cons.1 h with h | h
  ·injection h with h1 h2
   exact .inl ⟨h1,h2⟩
  ·exact .inr ⟨(b0 h).1,(b0 h).2,h⟩
 have hpr: ∀g,FP w (.sl e m ss) (β d) g→ ¬S g∧(((d<σ.n∨3000000≤d)∧c.w0.heap.size≤g)∨(σ.n≤d∧c.X g)):=fun g hg=>by
  rcases hfo g hg with h | h
  ·exact hr.priv d _ g hmd h
  ·obtain⟨q1,q2⟩:=hr.priv k y g hmk h
   exact⟨q1,q2.imp (fun q=>⟨h3.elim (fun h3=> .inl (hn.1 (q.1.resolve_right (by omega)))) .inr,q.2⟩) fun q=>⟨by have:=hn;omega,q.2⟩⟩
 have hapt: ∀l z g,(l,z)∈σ.o→l≠k→z.bm w (β l) g→FP w (.sl e m ss) (β d) g→l=d:=fun l z g hl hlk h1 h2=>by
  rcases hfo g h2 with h | h
  ·exact hr.apart l z d _ g hl hmd h1 h
  ·exact absurd (hr.apart l z k y g hl hmk h1 h) hlk
 refine⟨S,β,hr0.defers,hr0.size,hr0.one,hr0.grew,hr0.s0,hr0.s1,hr0.lt,hr0.tmp,fun l z hl=> ?_,fun p v hp=>⟨(hr.pin p v hp).1,fun z hz=> ?_⟩,fun l z g hl hg=> ?_,fun l z l' z' g hl hl' hg hg'=> ?_⟩
 ·rcases hmem hl with⟨rfl,rfl⟩ | ⟨h1,_,_⟩
  ·exact .deep _ _ _ _ _ _ hrow.dv
  ·exact hr.obj l z h1
 ·rcases hmem hz with⟨rfl,rfl⟩ | ⟨h1,_,_⟩
  ·exact(hr.pin p v hp).2 _ hmd
  ·exact(hr.pin p v hp).2 _ h1
 ·rcases hmem hl with⟨rfl,rfl⟩ | ⟨h1,_,_⟩
  ·exact hpr g hg
  ·exact hr.priv l z g h1 hg
 ·rcases hmem hl with⟨rfl,rfl⟩ | ⟨h1,h2,_⟩<;>rcases hmem hl' with⟨rfl,rfl⟩ | ⟨h3,h4,_⟩
  ·rfl
  ·exact(hapt l' z' g h3 h4 hg' hg).symm
  ·exact hapt l z g h1 h2 hg hg'
  ·exact hr.apart l z l' z' g h1 h3 hg hg'
end Go.Proofs.YtdejeagdkfokfaaGreatDoor.Sh
