/- Deep objects: inner slices taken out, elements stored, zeros made; no condition. -/
import Derived.Test.YtdejeagdkfokfaaGreatDoorSD
namespace Go.Proofs.YtdejeagdkfokfaaGreatDoor.Sh
open Go.RowKit
section
variable {P : Program} {tb : Tb} {ops : Array Oper} {o : Oper} {c : Cx} {S : Nat → Prop} {β : Nat → Value} {ν σ : SS} {a : Act} {w : World}
theorem qf(hP:ba P tb){t:Nat}{x y:Operand}(ho:o.op= .indexAddr t x y)(hgd:gd ops ν o=some true)(hok:jK ν o=true){n e e' d m:Nat}{ss:List Sh}{es:List (List Tr)}{k:IntKind}{i:Int}{ti tj:TI}
  (ht:find t tb=some ti) (hd:ti.d= .slice e) (he:find e tb=some tj) (hx:ev ν x=some (.own d)) (hob:find d ν.o=some (.deep e' m n ss es)) (hy:ev ν y=some (.tr (.int k i))) (h0:0≤i) (hi:i<n) (hl:m=tj.size):
  cC P ops o ν (some (.eref d m i.toNat 0,none)):=by
 refine cS hgd hok fun c S β a w hr=> ?_
 have hv:=bH hr hx
 have hw:=bH hr hy
 generalize hy1:a.eval x=y1 at hv
 generalize hy2:a.eval y=y2 at hw
 have hobj:=hr.obj d _ (a8 hob)
 cases hw with
 | tr _ _ hw=>cases hw with
  | int k i=>
   cases hv with
   | own d=>
    cases hobj with
    | deep _ _ _ _ _ _ h=>
     obtain⟨xs,hrow⟩:=h.row
     rcases hrow.hown.2 with⟨h1,h2⟩ | ⟨g,cap,cur,h1,_⟩
     ·omega
     ·have hu':=(br hP ht).slice hd
      refine .mk (s:=Instr.indexAt t (a.eval x) (a.eval y)) (by simp only[execOp,ho]) (u:= .pointer (some ⟨g,i.toNat*m+0,none⟩)) ?_ (.eref d m i.toNat 0 g n cap h1)
      rw[hy1,hy2,h1]
      simp[Instr.indexAt,asIntOf,run_underlying hu',h0,hi,(br hP he).size,Addr.add_lit,hl]
theorem sO(hr:Rel c S β σ a w){d k e m n i j e' m' n' g n1 cp:Nat}{ss ss':List Sh}{es es':List (List Tr)}{cs:List Tr}{y:SO}(hg:β d= .slice (some ⟨g,0,none⟩) n1 cp)(hob:find d σ.o=some (.deep e m n ss es))
  (hi:es[i]? =some cs) (hs:ss[j]? =some (.sl e' m' ss')) (hc:cs[j]? =some (.sl n' es'))
  (hy:y= .deep e' m' n' ss' es'∨(y= .arr e' m' n' es'∧ss'=List.replicate m' .flat))
  (hk:k∉σ.names) (hn:(k<σ.n∧d<σ.n)∨(σ.n≤d∧2000000≤k∧σ.n≤k∧d<3000000)∨(3000000≤d∧3000000≤k∧σ.n≤k)):
  ∃u,w.cell? ⟨g,i*m+j,none⟩=some u∧(∀(q:Nat) t,q≠j→cs[q]? =some t→t.flat=true→ ∃v,w.cell? ⟨g,i*m+q,none⟩=some v∧TV w S t v)∧Rel c S (gv β k u) {σ with o:=(k,y)::(d,.hol e m n ss es i j k)::σ.o.filter (fun p=>p.1 !=d)} a w:=by
 have hmd:=a8 hob
 have hobj:=hr.obj d _ hmd
 have hkd:k≠d:=fun e=>hk (by
  subst e
  exact List.mem_append_right _ (List.mem_flatMap.2 ⟨(k,_),hmd,List.mem_cons_self⟩))
 cases hobj with
 | deep _ _ _ _ _ _ h=>
 obtain⟨xs,hrow⟩:=h.row
 have hj:j<m:=by rw[←hrow.hc];exact(List.getElem?_eq_some_iff.1 hs).1
 have hil:i<n:=by rw[←hrow.hn];exact(List.getElem?_eq_some_iff.1 hi).1
 have hlt:i*m+j<xs.length:=by
  rw[hrow.hown.1]
  have:(i+1)*m≤n*m:=Nat.mul_le_mul_right _ (by omega)
  rw[Nat.add_mul]at this
  omega
 obtain⟨u,hu⟩: ∃u,xs[i*m+j]? =some u:=⟨_,List.getElem?_eq_getElem hlt⟩
 have hdv:DV w (.sl e' m' ss') (.sl n' es') u:=hrow.h i cs j _ _ u hi hs hc hu
 have hcellu:w.cell? ⟨g,i*m+j,none⟩=some u:=by
  have h7:=hrow.hown.cells (g:=g) (by rw[hg];rfl) (i*m+j) u hu
  rwa [Addr.add_lit,Nat.zero_add]at h7
 have hoth: ∀(q:Nat) t,q≠j→cs[q]? =some t→t.flat=true→ ∃v,w.cell? ⟨g,i*m+q,none⟩=some v∧TV w S t v:=fun q t _ hq hf=>by
  have hcl:=hrow.he cs (List.mem_of_getElem? hi)
  have hqm:q<m:=by rw[←hcl];exact(List.getElem?_eq_some_iff.1 hq).1
  have hlq:i*m+q<xs.length:=by
   rw[hrow.hown.1]
   have:(i+1)*m≤n*m:=Nat.mul_le_mul_right _ (by omega)
   rw[Nat.add_mul]at this
   omega
  have hsq:ss[q]? =some (ss[q]'(by rw[hrow.hc];exact hqm)):=List.getElem?_eq_getElem _
  have hv:xs[i*m+q]? =some xs[i*m+q]:=List.getElem?_eq_getElem hlq
  have h7:=hrow.hown.cells (g:=g) (by rw[hg];rfl) (i*m+q) _ hv
  rw[Addr.add_lit,Nat.zero_add]at h7
  refine⟨_,h7,?_⟩
  have hd:=hrow.h i cs q _ t _ hi hsq hq hv
  generalize xs[i*m+q]=v at hd
  generalize ss[q]'(by rw[hrow.hc];exact hqm)=sq at hd
  cases hd with
  | flat _ _ _ h=>exact h.free hf
  | sl=>cases hf
 have hu1:u.cells= #[u]:=by
  cases hdv with
  | sl _ _ _ _ _ _ xs hn hown=>rcases hown.2 with⟨h1,_⟩ | ⟨g,cap,cur,h1,_⟩<;>rw[h1]<;>rfl
 have hY:cP w S (gv β k u) y u∧ ∀g,y.bm w u g→FP w (.sl e' m' ss') u g:=by
  rcases hy with rfl | ⟨rfl,rfl⟩
  ·exact⟨.deep _ _ _ _ _ _ hdv,fun g hg=>hg⟩
  ·exact⟨(D3 hdv).1,fun g hg=> .here _ _ _ _ _ hg⟩
 have hH:cP w S (gv β k u) (.hol e m n ss es i j k) (β d):= .hol _ _ _ _ _ _ _ _ _ xs (hrow.split i j) (by rw[bP];exact hu)
 have hf1: ∀g,HFP w e m ss i j (β d) g→FP w (.sl e m ss) (β d) g:=fun g hg=>by
  rcases(hrow.split i j).fp' hg with h1 | ⟨i',j',s,u',_,hj',hs',hu',h1⟩
  ·exact .here _ _ _ _ _ h1
  ·exact hrow.fp hj' hs' hu' h1
 have hf2: ∀g,y.bm w u g→FP w (.sl e m ss) (β d) g:=fun g hg=>hrow.fp hj hs hu (hY.2 g hg)
 have hf3: ∀g,y.bm w u g→ ¬HFP w e m ss i j (β d) g:=fun g hg hh=>by
  rcases(hrow.split i j).fp' hh with h1 | ⟨i',j',s,u',hne,hj',hs',hu',h1⟩
  ·exact hrow.hs i j _ u g hj hs hu (hY.2 g hg) h1
  ·have:=hrow.ha i j i' j' _ s u u' g hj hj' hs hs' hu hu' (hY.2 g hg) h1
   exact hne ⟨this.1.symm,this.2.symm⟩
 have hmem: ∀{l z},(l,z)∈(k,y)::(d,SO.hol e m n ss es i j k)::σ.o.filter (fun p=>p.1 !=d)→(l=k∧z=y)∨(l=d∧z= .hol e m n ss es i j k)∨((l,z)∈σ.o∧l≠d∧l≠k):=by
  intro l z h
  rcases List.mem_cons.1 h with h | h
  ·injection h with h1 h2
   exact .inl ⟨h1,h2⟩
  ·rcases List.mem_cons.1 h with h | h
   ·injection h with h1 h2
    exact .inr (.inl ⟨h1,h2⟩)
   ·have h2:=List.mem_filter.1 h
    refine .inr (.inr ⟨h2.1,by simpa using h2.2,fun e=>hk ?_⟩)
    subst e
    exact List.mem_append_right _ (List.mem_flatMap.2 ⟨(l,z),h2.1,List.mem_cons_self⟩)
 have hzn: ∀{l z},(l,z)∈σ.o→k∉z.names:=fun{l z} h h'=>hk (List.mem_append_right _ (List.mem_flatMap.2 ⟨(l,z),h,List.mem_cons_of_mem _ h'⟩))
 have hpd:=fun g=>hr.priv d _ g hmd
 have hr':Rel c S (gv β k u) {σ with o:=(k,y)::(d,.hol e m n ss es i j k)::σ.o.filter (fun p=>p.1 !=d)} a w:=by
  refine⟨hr.defers,hr.size,fun q=> ?_,hr.grew,hr.s0,hr.s1,hr.lt,fun q z hq=>⟨(hr.tmp q z hq).1,(hr.tmp q z hq).2.agree (iY β u fun h=>hk (List.mem_append_left _ (List.mem_flatMap.2 ⟨(q,z),hq,h⟩)))⟩,fun l z hl=> ?_,fun q v hq=>⟨(hr.pin q v hq).1,fun z hz=> ?_⟩,fun l z g' hl hg'=> ?_,fun l z l' z' g' hl hl' hg' hg2=> ?_⟩
  ·unfold gv
   split
   ·exact hu1
   ·exact hr.one q
  ·rcases hmem hl with⟨rfl,rfl⟩ | ⟨rfl,rfl⟩ | ⟨h1,h2,h3⟩
   ·rw[bP];exact hY.1
   ·rw[bJ _ _ hkd.symm];exact hH
   ·rw[bJ _ _ h3];exact(hr.obj l z h1).agree (iY β u (hzn h1))
  ·have hqn:=(hr.pin q v hq).1
   have hql:=c.lt q v hq
   have hqk:q≠k:=fun e=>by rcases hn with h | h | h<;>omega
   rw[bJ _ _ hqk]
   rcases hmem hz with⟨h1,_⟩ | ⟨h1,_⟩ | ⟨h1,_,_⟩
   ·exact absurd h1 hqk
   ·exact(hr.pin q v hq).2 _ (by rw[h1];exact hmd)
   ·exact(hr.pin q v hq).2 _ h1
  ·rcases hmem hl with⟨rfl,rfl⟩ | ⟨rfl,rfl⟩ | ⟨h1,h2,h3⟩
   ·rw[bP]at hg'
    obtain⟨p1,p2⟩:=hpd g' (hf2 g' hg')
    refine⟨p1,?_⟩
    rcases hn with h | h | h
    ·exact .inl ⟨.inl h.1,p2.elim (fun q=>q.2) fun q=>by omega⟩
    ·exact .inr ⟨h.2.2.1,p2.elim (fun q=>by omega) fun q=>q.2⟩
    ·exact p2.imp (fun q=>⟨.inr h.2.1,q.2⟩) fun q=>⟨h.2.2,q.2⟩
   ·rw[bJ _ _ hkd.symm]at hg'
    exact hpd g' (hf1 g' hg')
   ·rw[bJ _ _ h3]at hg'
    exact hr.priv l z g' h1 hg'
  ·have o1: ∀{l z},(l,z)∈σ.o→l≠d→z.bm w (β l) g'→ ¬FP w (.sl e m ss) (β d) g':=fun{l z} h1 h2 h3 h4=>h2 (hr.apart l z d _ g' h1 hmd h3 h4)
   rcases hmem hl with⟨rfl,rfl⟩ | ⟨rfl,rfl⟩ | ⟨h1,h2,h3⟩<;>rcases hmem hl' with⟨rfl,rfl⟩ | ⟨rfl,rfl⟩ | ⟨h4,h5,h6⟩
   ·rfl
   ·rw[bP]at hg'
    rw[bJ _ _ hkd.symm]at hg2
    exact(hf3 g' hg' hg2).elim
   ·rw[bP]at hg'
    rw[bJ _ _ h6]at hg2
    exact(o1 h4 h5 hg2 (hf2 g' hg')).elim
   ·rw[bP]at hg2
    rw[bJ _ _ hkd.symm]at hg'
    exact(hf3 g' hg2 hg').elim
   ·rfl
   ·rw[bJ _ _ hkd.symm]at hg'
    rw[bJ _ _ h6]at hg2
    exact(o1 h4 h5 hg2 (hf1 g' hg')).elim
   ·rw[bP]at hg2
    rw[bJ _ _ h3]at hg'
    exact(o1 h1 h2 hg' (hf2 g' hg2)).elim
   ·rw[bJ _ _ hkd.symm]at hg2
    rw[bJ _ _ h3]at hg'
    exact(o1 h1 h2 hg' (hf1 g' hg2)).elim
   ·rw[bJ _ _ h3]at hg'
    rw[bJ _ _ h6]at hg2
    exact hr.apart l z l' z' g' h1 h4 hg' hg2
 exact⟨u,hcellu,hoth,hr'⟩
theorem p3(hP:ba P tb){t:Nat}{x:Operand}(ho:o.op= .load t x){d0:Nat}(hdst:o.dst=some d0)(hd0:d0<σ.n)(hgd:gd ops σ o=some true)
  {ti:TI} {d k e m n i j e' m' n':Nat} {ss ss':List Sh} {es es':List (List Tr)} {cs:List Tr} {y:SO}
  (ht:find t tb=some ti) (hag:ti.d.isAgg=false) (hx:ev σ x=some (.eref d m i j)) (hob:find d σ.o=some (.deep e m n ss es))
  (hi:es[i]? =some cs) (hs:ss[j]? =some (.sl e' m' ss')) (hc:cs[j]? =some (.sl n' es'))
  (hy:y= .deep e' m' n' ss' es'∨(y= .arr e' m' n' es'∧ss'=List.replicate m' .flat))
  (hk:k∉σ.names) (hn:(k<σ.n∧d<σ.n)∨(σ.n≤d∧2000000≤k∧σ.n≤k∧d<3000000)∨(3000000≤d∧3000000≤k∧σ.n≤k)):
  ar P ops o σ (({σ with o:=(k,y)::(d,.hol e m n ss es i j k)::σ.o.filter (fun p=>p.1 !=d)}:SS).put d0 (.own k)):=by
 refine kW hgd fun c S β a w hr=> ?_
 have hv:=bH hr hx
 generalize hy1:a.eval x=y1 at hv
 cases hv with
 | eref d m i j g n1 cp hg=>
  obtain⟨u,hcellu,_,hr'⟩:=sO hr hg hob hi hs hc hy hk hn
  have hload:(execOp a.eval o).run P w= .ok (.value u) w:=by
   obtain⟨r,h1,h2⟩:=qe (w:=w) (S:=S) (β:=fun _=>u) (g:=g) (b:=i*m+j) (o:=0) (u:=fun _=>u) (br hP ht) (cs:=[.own 0]) (fun q z hz=>by
     cases q with
     | zero=>simp at hz;subst hz;exact .own 0
     | succ q=>simp at hz) (fun q z hz=>by
     cases q with
     | zero=>exact hcellu
     | succ q=>simp at hz) (v:= .own 0) (by unfold ldc;rw[hag];rfl)
   cases h2
   simp only[execOp,ho,hy1,Instr.loadAt,Instr.sureAddr,Sem.run_bind,Sem.run_pure,Result.andThen_ok]
   rw[Nat.add_zero]at h1
   rw[h1]
   rfl
  refine iF hload ?_
  rw[hdst]
  refine⟨S,_,Rel.put hr' hd0 ?_⟩
  have:cM w S (gv β k u) (.own k) (gv β k u k):= .own k
  rwa [bP]at this
theorem pb(hP:ba P tb){t:Nat}{x:Operand}(ho:o.op= .load t x){d0:Nat}(hdst:o.dst=some d0)(hd0:d0<σ.n)(hgd:gd ops σ o=some true)
  {ti:TI} {d k e m n i j e' m' n':Nat} {ss ss':List Sh} {es es':List (List Tr)} {cs:List Tr} {y:SO}
  (ht:find t tb=some ti) (hag:ti.d.isAgg=true) (hsz:cs.length=ti.size) (hx:ev σ x=some (.eref d m i 0)) (hob:find d σ.o=some (.deep e m n ss es))
  (hi:es[i]? =some cs) (hs:ss[j]? =some (.sl e' m' ss')) (hc:cs[j]? =some (.sl n' es')) (hfl:((cs.take j).all Tr.flat&&(cs.drop (j+1)).all Tr.flat)=true)
  (hy:y= .deep e' m' n' ss' es'∨(y= .arr e' m' n' es'∧ss'=List.replicate m' .flat))
  (hk:k∉σ.names) (hn:(k<σ.n∧d<σ.n)∨(σ.n≤d∧2000000≤k∧σ.n≤k∧d<3000000)∨(3000000≤d∧3000000≤k∧σ.n≤k)):
  ar P ops o σ (({σ with o:=(k,y)::(d,.hol e m n ss es i j k)::σ.o.filter (fun p=>p.1 !=d)}:SS).put d0 (.agg ((cs.map .tr).set j (.own k)))):=by
 refine kW hgd fun c S β a w hr=> ?_
 have hv:=bH hr hx
 generalize hy1:a.eval x=y1 at hv
 cases hv with
 | eref d m i j0 g n1 cp hg=>
  obtain⟨u,hcellu,hoth,hr'⟩:=sO hr hg hob hi hs hc hy hk hn
  have hflat: ∀(q:Nat) tq,q≠j→cs[q]? =some tq→tq.flat=true:=fun q tq hq hcq=>by
   rw[Bool.and_eq_true,List.all_eq_true,List.all_eq_true]at hfl
   rcases Nat.lt_or_gt_of_ne hq with h | h
   ·exact hfl.1 tq (List.mem_of_getElem? (by rw[List.getElem?_take_of_lt h];exact hcq))
   ·exact hfl.2 tq (List.mem_of_getElem? (i:=q -(j+1)) (by rw[List.getElem?_drop,show j+1+(q -(j+1))=q by omega];exact hcq))
  have hch: ∀q:Nat,∃v,∀tq,cs[q]? =some tq→w.cell? ⟨g,i*m+q,none⟩=some v∧(q=j→v=u)∧(q≠j→TV w S tq v):=fun q=>by
   rcases hq:cs[q]? with _ | tq
   ·exact⟨undef,fun tq h=>by cases h⟩
   ·by_cases hqj:q=j
    ·subst hqj
     exact⟨u,fun t' h=>⟨hcellu,fun _=>rfl,fun h=>absurd rfl h⟩⟩
    ·obtain⟨v,h1,h2⟩:=hoth q tq hqj hq (hflat q tq hqj hq)
     exact⟨v,fun t' h=>by injection h with h;subst h;exact⟨h1,fun h=>absurd h hqj,fun _=>h2⟩⟩
  obtain⟨f,hf⟩:=Classical.axiomOfChoice hch
  have hjl:=(List.getElem?_eq_some_iff.1 hc).1
  have hset: ∀(q:Nat) z,((cs.map SV.tr).set j (.own k))[q]? =some z→(q=j∧z= .own k)∨(q≠j∧ ∃tq,cs[q]? =some tq∧z= .tr tq):=fun q z hz=>by
   by_cases hqj:q=j
   ·subst hqj
    rw[List.getElem?_set_self (by simpa using hjl)]at hz
    injection hz with hz
    exact .inl ⟨rfl,hz.symm⟩
   ·rw[List.getElem?_set_ne (fun e=>hqj e.symm),List.getElem?_map,Option.map_eq_some_iff]at hz
    obtain⟨tq,h1,h2⟩:=hz
    exact .inr ⟨hqj,tq,h1,h2.symm⟩
  have hcq: ∀q,∃z,q<cs.length→cs[q]? =some z:=fun q=>by
   by_cases h:q<cs.length
   ·exact⟨cs[q],fun _=>List.getElem?_eq_getElem h⟩
   ·exact⟨.nil,fun h'=>absurd h' h⟩
  obtain⟨r,h1,h2⟩:=qe (w:=w) (S:=S) (β:=gv β k u) (g:=g) (b:=i*m) (o:=0) (u:=f) (br hP ht) (cs:=(cs.map SV.tr).set j (.own k)) (fun q z hz=>by
    rcases hset q z hz with⟨rfl,rfl⟩ | ⟨hq,tq,h3,rfl⟩
    ·have h4:=hf q _ hc
     rw[h4.2.1 rfl]
     have:cM w S (gv β k u) (.own k) (gv β k u k):= .own k
     rwa [bP]at this
    ·exact .tr _ _ ((hf q tq h3).2.2 hq)) (fun q z hz=>by
    rcases hset q z hz with⟨rfl,rfl⟩ | ⟨hq,tq,h3,rfl⟩
    ·exact(hf q _ hc).1
    ·exact(hf q tq h3).1) (v:= .agg ((cs.map SV.tr).set j (.own k))) (by
    unfold ldc
    rw[hag,if_pos rfl,if_pos (by rw[List.length_set,List.length_map,hsz];omega),List.drop_zero,List.take_of_length_le (by rw[List.length_set,List.length_map,hsz];exact Nat.le_refl _)])
  have hload:(execOp a.eval o).run P w= .ok (.value r) w:=by
   simp only[execOp,ho,hy1,Instr.loadAt,Instr.sureAddr,Sem.run_bind,Sem.run_pure,Result.andThen_ok]
   rw[Nat.add_zero]at h1⊢
   rw[h1]
   rfl
  refine iF hload ?_
  rw[hdst]
  exact⟨S,_,Rel.put hr' hd0 h2⟩
theorem Rel.ET(hr:Rel c S β σ a w){d g:Nat}{x x':SO}(hd:(d,x)∈σ.o)(hg:x.bm w (β d) g){w':World}(hos:w'.os=w.os)(htp:w'.tape=w.tape)(hou:w'.output=w.output)(hsz:w.heap.size≤w'.heap.size)(hoth: ∀k,k<w.heap.size→k≠g→w'.heap[k]? =w.heap[k]?)
  (hx:cP w' S β x' (β d)) {τ:SS} (hτ:Sub τ σ) (hft: ∀g',x'.bm w' (β d) g'→x.bm w (β d) g'∨(¬S g'∧(d<σ.n∨3000000≤d)∧c.w0.heap.size≤g'∧ ∀l z,(l,z)∈τ.o→l≠d→ ¬z.bm w (β l) g')):Rel c S β {τ with o:=(d,x')::τ.o.filter (fun p=>p.1 !=d)} a w':=by
 have hpr:=hr.priv d x g hd hg
 have hS: ∀b,S b→w'.heap[b]? =w.heap[b]? :=fun b hb=>hoth b (hr.lt b hb) fun e=>hpr.1 (e▸hb)
 have hmem: ∀{k y},(k,y)∈(d,x')::τ.o.filter (fun p=>p.1 !=d)→(k=d∧y=x')∨((k,y)∈σ.o∧k≠d∧(k,y)∈τ.o):=by
  intro k y h
  rcases List.mem_cons.1 h with h | h
  ·injection h with h1 h2
   exact .inl ⟨h1,h2⟩
  ·have h2:=List.mem_filter.1 h
   exact .inr ⟨hτ.o _ h2.1,by simpa using h2.2,h2.1⟩
 have hfo: ∀{k y},(k,y)∈σ.o→k≠d→ ∀b,y.bm w (β k) b→w'.heap[b]? =w.heap[b]? :=fun{k y} h1 h2 b hb=>hoth b ((hr.obj k y h1).lt hb) fun e=>h2 (hr.apart k y d x g h1 hd (e▸hb) hg)
 have hff: ∀{k y},(k,y)∈σ.o→k≠d→ ∀{b},y.bm w' (β k) b→y.bm w (β k) b:=fun{k y} h1 h2 {b} hb=>((hr.obj k y h1).bm (hfo h1 h2)).1 hb
 refine⟨hr.defers,hr.size.trans hτ.n.symm,hr.one,hr.grew.of (Y:=fun k=>k=g) ⟨hos,htp,hou,hsz,fun k hk hne=>hoth k hk hne⟩ (fun k hk hlt=> ?_),hr.s0,hr.s1,fun b hb=>Nat.lt_of_lt_of_le (hr.lt b hb) hsz,fun i y hi=>⟨(hr.tmp i y (hτ.t _ hi)).1,(hr.tmp i y (hτ.t _ hi)).2.keep hS fun _ h=>h⟩,fun k y hk=> ?_,fun j v hj=>⟨hτ.n▸(hr.pin j v hj).1,fun y hy=> ?_⟩,fun k y g' hk hg'=> ?_,fun k y k' y' g' hk hk' hg' hg2=> ?_⟩
 ·subst hk
  rcases hpr.2 with⟨_,h⟩ | ⟨_,h⟩
  ·omega
  ·exact h
 ·rcases hmem hk with⟨rfl,rfl⟩ | ⟨h1,h2,_⟩
  ·exact hx
  ·refine(hr.obj k y h1).keep (fun b hb=> ?_) fun _ h=>h
   rcases hb with hb | hb
   ·exact hS b hb
   ·exact hfo h1 h2 b hb
 ·rcases hmem hy with⟨rfl,rfl⟩ | ⟨h1,h2,_⟩
  ·exact(hr.pin j v hj).2 x hd
  ·exact(hr.pin j v hj).2 y h1
 ·show ¬S g'∧(((k<τ.n∨3000000≤k)∧c.w0.heap.size≤g')∨(τ.n≤k∧c.X g'))
  rw[hτ.n]
  rcases hmem hk with⟨rfl,rfl⟩ | ⟨h1,h2,_⟩
  ·rcases hft g' hg' with h | ⟨h3,h4,h5,_⟩
   ·exact hr.priv k x g' hd h
   ·exact⟨h3,.inl ⟨h4,h5⟩⟩
  ·exact hr.priv k y g' h1 (hff h1 h2 hg')
 ·rcases hmem hk with⟨rfl,rfl⟩ | ⟨h1,h2,h2'⟩<;>rcases hmem hk' with⟨rfl,rfl⟩ | ⟨h3,h4,h4'⟩
  ·rfl
  ·rcases hft g' hg' with h | ⟨_,_,_,h⟩
   ·exact hr.apart k x k' y' g' hd h3 h (hff h3 h4 hg2)
   ·exact(h k' y' h4' h4 (hff h3 h4 hg2)).elim
  ·rcases hft g' hg2 with h | ⟨_,_,_,h⟩
   ·exact hr.apart k y k' x g' h1 hd (hff h1 h2 hg') h
   ·exact(h k y h2' h2 (hff h1 h2 hg')).elim
  ·exact hr.apart k y k' y' g' h1 h3 (hff h1 h2 hg') (hff h3 h4 hg2)
theorem p4(hP:ba P tb){t:Nat}{x y:Operand}(ho:o.op= .store t x y)(hdst:o.dst=none)(hgd:gd ops σ o=some true){ti:TI}{d e m n i j:Nat}{ss ss2:List Sh}{es:List (List Tr)}{cs ts:List Tr}{v:SV}{vs:List SV}{ds:List Nat}
  (ht:find t tb=some ti) (hx:ev σ x=some (.eref d m i j)) (hob:find d σ.o=some (.deep e m n ss es)) (hy:ev σ y=some v) (hc:v.cells=some vs) (hC:mu σ ss2 vs ts ds) (hss:(ss.drop j).take ss2.length=ss2) (hl:ts.length=ti.size) (hi:es[i]? =some cs) (hk:j+ts.length≤cs.length)
  (hdd:d∉ds) (hds:ds=[]∨d<σ.n∨3000000≤d) {es':List (List Tr)} (hes:es.set i (cs.take j++ts++cs.drop (j+ts.length))=es'):
  ar P ops o σ {(σ.jJ ds)with o:=(d,.deep e m n ss es')::(σ.jJ ds).o.filter (fun p=>p.1 !=d)}:=by
 refine kW hgd fun c S β a w hr=> ?_
 have hv:=bH hr hx
 have hw:=bH hr hy
 have hm:=a8 hob
 have hobj:=hr.obj d _ hm
 generalize hy1:a.eval x=y1 at hv
 subst hes
 cases hv with
 | eref d m i j g n1 cp hg=>
  cases hobj with
  | deep _ _ _ _ _ _ h=>
  obtain⟨xs,hrow⟩:=h.row
  rw[hg]at hrow
  obtain⟨h1,h2⟩:=SV.kR hr.one hc hw
  obtain⟨l1,l2,f,f1,f2,f3⟩:=hC.parts
  rcases hrow.hown.2 with⟨h3,_⟩ | ⟨g',cap,cur,h3,_,hgg,hnc,hcm,hcs,htk⟩
  ·cases h3
  ·injection h3 with h3 h4 h5
   injection h3 with h3
   injection h3 with h3
   subst h3 h4 h5
   have hgf:SO.bm w (.deep e m n1 ss es) (β d) g:=kY (by rw[hg];rfl)
   have hlt:=(List.getElem?_eq_some_iff.1 hi).1
   have hcsl:=hrow.he cs (List.mem_of_getElem? hi)
   have hcl:(a.eval y).cells.toList.length=ts.length:=by rw[Array.length_toList,←h1,l2,l1]
   have hin:(i+1)*m≤n1*m:=Nat.mul_le_mul_right _ (by have:=hrow.hn;omega)
   have hnc':n1*m≤cp*m:=Nat.mul_le_mul_right _ hnc
   rw[Nat.add_mul]at hin
   have hfit:i*m+j+0+(a.eval y).cells.toList.length≤cur.size:=by rw[hcl,hcs];omega
   have cell: ∀(q:Nat) s t u,ss2[q]? =some s→ts[q]? =some t→(a.eval y).cells.toList[q]? =some u→DV w s t u∧ ∀g,FP w s u g→ ∃d∈f q,∃y,(d,y)∈σ.o∧d<σ.n∧y.bm w (β d) g:=by
    intro q s t u hs ht hu
    have hq:=(List.getElem?_eq_some_iff.1 hs).1
    have hx:vs[q]? =some (vs[q]'(by omega)):=List.getElem?_eq_getElem _
    obtain⟨k1,k2,k3⟩:=(f3 q s _ t hs hx ht).ok hr (h2 q _ u hx (by simpa using hu))
    refine⟨k1,fun g hgg=> ?_⟩
    obtain⟨d,hd,y,hy,hfo⟩:=k3 g hgg
    exact⟨d,hd,y,hy,k2 d hd,hfo⟩
   have cellg: ∀(q:Nat) s t u,ss2[q]? =some s→ts[q]? =some t→(a.eval y).cells.toList[q]? =some u→ ∀b,FP w s u b→ ¬SO.bm w (.deep e m n1 ss es) (β d) b:=by
    intro q s t u hs ht hu b hb hc
    obtain⟨_,h⟩:=cell q s t u hs ht hu
    obtain⟨d',hd',z,hz,_,hfo⟩:=h b hb
    have:=hr.apart d' z d _ b hz hm hfo hc
    subst this
    exact hdd (f1 q d' hd')
   have h1c: ∀u∈(a.eval y).cells.toList,u.oneCell'=true:=by
    intro u hu
    obtain⟨q,hq⟩:=List.mem_iff_getElem?.1 hu
    have hql:q<ts.length:=by rw[←hcl];exact(List.getElem?_eq_some_iff.1 hq).1
    exact As (cell q _ _ u (List.getElem?_eq_getElem (by omega)) (List.getElem?_eq_getElem hql) hq).1
   have hst:=run_storeCells_at P g (i*m+j) e (a.eval y).cells.toList 0 cur w hgg hfit h1c
   rw[Nat.add_zero,hcl]at hst
   refine sV (w':=w.setRow g (cur.toList.take (i*m+j)++(a.eval y).cells.toList++cur.toList.drop (i*m+j+ts.length)).toArray) ?_ ?_
   ·simp only[execOp,ho,Instr.storeAt,Instr.sureAddr,hy1,Sem.run_bind,Sem.run_pure,Result.andThen_ok,storeVar,(br hP ht).size]
    rw[if_neg (by rw[←hl,←hcl,Array.length_toList];simp)]
    simp only[hst,Result.andThen_ok]
   ·rw[hdst]
    have hxl:xs.length=n1*m:=hrow.hown.1
    have hlen:(cur.toList.take (i*m+j)++(a.eval y).cells.toList++cur.toList.drop (i*m+j+ts.length)).length=cur.size:=by
     simp only[List.length_append,List.length_take,List.length_drop,Array.length_toList]
     rw[Array.length_toList]at hcl
     omega
    have hnew: ∀q,(cur.toList.take (i*m+j)++(a.eval y).cells.toList++cur.toList.drop (i*m+j+ts.length))[q]? =if i*m+j≤q∧q<i*m+j+ts.length then(a.eval y).cells.toList[q -(i*m+j)]? else cur.toList[q]? :=by
     intro q
     have hlu:(cur.toList.take (i*m+j)).length=i*m+j:=by rw[List.length_take,Array.length_toList];omega
     by_cases hq:q<i*m+j
     ·rw[if_neg (by omega),List.append_assoc,List.getElem?_append_left (by omega),List.getElem?_take_of_lt hq]
     ·by_cases hq2:q<i*m+j+ts.length
      ·rw[if_pos ⟨by omega,hq2⟩,List.append_assoc,List.getElem?_append_right (by omega),List.getElem?_append_left (by omega),hlu]
      ·rw[if_neg (by omega),List.getElem?_append_right (by rw[List.length_append];omega),List.getElem?_drop,List.length_append,hlu,hcl,show i*m+j+ts.length+(q -(i*m+j+ts.length))=q from by omega]
    generalize hrw:(cur.toList.take (i*m+j)++(a.eval y).cells.toList++cur.toList.drop (i*m+j+ts.length))=row at hlen hnew
    generalize hw':w.setRow g row.toArray=w'
    have hoth: ∀q,q<w.heap.size→q≠g→w'.heap[q]? =w.heap[q]? :=fun q _ hq=>by rw[←hw'];exact setRow_other w g q _ hq
    have hkeep: ∀{s t u},DV w s t u→(∀b,FP w s u b→b≠g)→DV w' s t u∧ ∀b,FP w' s u b↔FP w s u b:=fun hd hb=>hd.keep fun b hbb=>hoth b (FP.lt hd hbb) (hb b hbb)
    have place: ∀(i' j':Nat) u,j'<m→(row.take (n1*m))[i'*m+j']? =some u→((i'=i∧j≤j'∧j'<j+ts.length)∧(a.eval y).cells.toList[j' - j]? =some u)∨(¬(i'=i∧j≤j'∧j'<j+ts.length)∧xs[i'*m+j']? =some u):=by
     intro i' j' u hj' hu
     rw[List.getElem?_take]at hu
     split at hu
     ·rename_i hq
      rw[hnew]at hu
      by_cases hin':i'=i∧j≤j'∧j'<j+ts.length
      ·refine .inl ⟨hin',?_⟩
       obtain⟨rfl,q1,q2⟩:=hin'
       rw[if_pos ⟨by omega,by omega⟩]at hu
       rw[←hu]
       congr 1
       omega
      ·refine .inr ⟨hin',?_⟩
       have hno: ¬(i*m+j≤i'*m+j'∧i'*m+j'<i*m+j+ts.length):=by
        rintro⟨q1,q2⟩
        rcases Nat.lt_trichotomy i' i with h | h | h
        ·have:(i'+1)*m≤i*m:=Nat.mul_le_mul_right _ h
         rw[Nat.add_mul]at this
         omega
        ·subst h
         exact hin' ⟨rfl,by omega,by omega⟩
        ·have:(i+1)*m≤i'*m:=Nat.mul_le_mul_right _ h
         rw[Nat.add_mul]at this
         omega
       rw[if_neg hno]at hu
       rw[←htk,List.getElem?_take_of_lt hq]
       exact hu
     ·cases hu
    have sh2: ∀(j':Nat) s,j≤j'→j'<j+ts.length→ss[j']? =some s→ss2[j' - j]? =some s:=fun j' s q1 q2 hs=>by
     rw[←hss,List.getElem?_take_of_lt (by omega),List.getElem?_drop,show j+(j' - j)=j' from by omega]
     exact hs
    have tsat: ∀{q:Nat} {u},(a.eval y).cells.toList[q]? =some u→ ∃t,ts[q]? =some t:=fun{q u} h=>⟨_,List.getElem?_eq_getElem (by rw[←hcl];exact(List.getElem?_eq_some_iff.1 h).1)⟩
    have at': ∀(i' j':Nat) s u,j'<m→ss[j']? =some s→(row.take (n1*m))[i'*m+j']? =some u→(∀b,FP w' s u b↔FP w s u b)∧ ∀b,FP w s u b→b≠g:=by
     intro i' j' s u hj' hs hu
     rcases place i' j' u hj' hu with⟨⟨_,q1,q2⟩,hu'⟩ | ⟨_,hu'⟩
     ·obtain⟨t,htt⟩:=tsat hu'
      have k1:=(cell _ s t u (sh2 j' s q1 q2 hs) htt hu').1
      have k2: ∀b,FP w s u b→b≠g:=fun b hb e=>cellg _ s t u (sh2 j' s q1 q2 hs) htt hu' b hb (e▸hgf)
      exact⟨(hkeep k1 k2).2,k2⟩
     ·obtain⟨_,s',x',t',hs',_,_,hd'⟩:=hrow.at hj' hu'
      rw[hs]at hs'
      injection hs' with hs'
      subst hs'
      have k2: ∀b,FP w s u b→b≠g:=fun b hb e=>hrow.hs i' j' s u b hj' hs hu' hb (by rw[e];rfl)
      exact⟨(hkeep hd' k2).2,k2⟩
    have hdrow:kE w' e m ss n1 (es.set i (cs.take j++ts++cs.drop (j+ts.length))) (.slice (some ⟨g,0,none⟩) n1 cp) (row.take (n1*m)):=by
     refine⟨by simp[hrow.hn],⟨by rw[List.length_take,hlen];omega,.inr ⟨g,cp,row.toArray,rfl,Nat.zero_le _,by rw[←hw'];exact setRow_heap w g cur _ e (0,0) hgg,hnc,hcm,by rw[List.size_toArray,hlen,hcs],rfl⟩⟩,hrow.hc,fun x hx=> ?_,fun i' x j' s t u hi' hs ht' hu=> ?_,fun i' j' s u b hj' hs hu hb hbb=> ?_,fun i' j' i2 j2 s s2 u u2 b hj' hj2 hs hs2 hu hu2 hb hb2=> ?_⟩
     ·rcases List.mem_or_eq_of_mem_set hx with hx | rfl
      ·exact hrow.he x hx
      ·simp only[List.length_append,List.length_take,List.length_drop]
       omega
     ·have hj':j'<m:=by rw[←hrow.hc];exact(List.getElem?_eq_some_iff.1 hs).1
      have hlk:(cs.take j).length=j:=by rw[List.length_take];omega
      rcases place i' j' u hj' hu with⟨⟨rfl,q1,q2⟩,hu'⟩ | ⟨hno,hu'⟩
      ·rw[List.getElem?_set_self (by omega)]at hi'
       injection hi' with hi'
       subst hi'
       rw[List.append_assoc,List.getElem?_append_right (by omega),List.getElem?_append_left (by omega),hlk]at ht'
       have k1:=(cell _ s t u (sh2 j' s q1 q2 hs) ht' hu').1
       exact(hkeep k1 fun b hb e=>cellg _ s t u (sh2 j' s q1 q2 hs) ht' hu' b hb (e▸hgf)).1
      ·have hold: ∃x0,es[i']? =some x0∧x0[j']? =some t:=by
        by_cases hii:i'=i
        ·subst hii
         rw[List.getElem?_set_self (by omega)]at hi'
         injection hi' with hi'
         subst hi'
         refine⟨cs,hi,?_⟩
         by_cases hj1:j'<j
         ·rw[List.append_assoc,List.getElem?_append_left (by omega),List.getElem?_take_of_lt hj1]at ht'
          exact ht'
         ·have hj2: ¬j'<j+ts.length:=fun h=>hno ⟨rfl,by omega,h⟩
          rw[List.getElem?_append_right (by rw[List.length_append];omega),List.getElem?_drop,List.length_append,hlk,show j+ts.length+(j' -(j+ts.length))=j' from by omega]at ht'
          exact ht'
        ·rw[List.getElem?_set_ne (Ne.symm hii)]at hi'
         exact⟨x,hi',ht'⟩
       obtain⟨x0,e1,e2⟩:=hold
       have k1:=hrow.h i' x0 j' s t u e1 hs e2 hu'
       exact(hkeep k1 fun b hb e=>hrow.hs i' j' s u b hj' hs hu' hb (by rw[e];rfl)).1
     ·injection hbb with hbb
      have:=at' i' j' s u hj' hs hu
      exact this.2 b ((this.1 b).1 hb) hbb.symm
     ·have e1:=at' i' j' s u hj' hs hu
      have e2:=at' i2 j2 s2 u2 hj2 hs2 hu2
      have b1:=(e1.1 b).1 hb
      have b2:=(e2.1 b).1 hb2
      rcases place i' j' u hj' hu with⟨⟨rfl,q1,q2⟩,hu'⟩ | ⟨hno,hu'⟩<;>rcases place i2 j2 u2 hj2 hu2 with⟨⟨hi2,q3,q4⟩,hu2'⟩ | ⟨hno2,hu2'⟩
      ·obtain⟨t,htt⟩:=tsat hu'
       obtain⟨t2,htt2⟩:=tsat hu2'
       obtain⟨d1,hd1,z1,hz1,_,hf1⟩:=(cell _ s t u (sh2 j' s q1 q2 hs) htt hu').2 b b1
       obtain⟨d2,hd2,z2,hz2,_,hf2⟩:=(cell _ s2 t2 u2 (sh2 j2 s2 q3 q4 hs2) htt2 hu2').2 b b2
       have:=hr.apart d1 z1 d2 z2 b hz1 hz2 hf1 hf2
       subst this
       refine⟨hi2.symm,?_⟩
       rcases Nat.decEq (j' - j) (j2 - j)with hne | he
       ·exact(f2 _ _ hne d1 hd1 hd2).elim
       ·omega
      ·obtain⟨t,htt⟩:=tsat hu'
       exact(cellg _ s t u (sh2 j' s q1 q2 hs) htt hu' b b1 (by rw[hg];exact hrow.fp hj2 hs2 hu2' b2)).elim
      ·obtain⟨t2,htt2⟩:=tsat hu2'
       exact(cellg _ s2 t2 u2 (sh2 j2 s2 q3 q4 hs2) htt2 hu2' b b2 (by rw[hg];exact hrow.fp hj' hs hu' b1)).elim
      ·exact hrow.ha i' j' i2 j2 s s2 u u2 b hj' hj2 hs hs2 hu' hu2' b1 b2
    refine⟨S,β,Rel.ET (g:=g) hr hm hgf (by rw[←hw'];rfl) (by rw[←hw'];rfl) (by rw[←hw'];rfl) (by rw[←hw'];simp) hoth (by rw[hg];exact .deep _ _ _ _ _ _ hdrow.dv) (Sub.jJ ds σ) fun g' hg'=> ?_⟩
    rw[hg]at hg'
    rcases hdrow.fp' hg' with h3 | ⟨i',j',s,u,hj',hs,hu,hf⟩
    ·injection h3 with h3
     subst h3
     exact .inl hgf
    ·have e1:=at' i' j' s u hj' hs hu
     have b1:=(e1.1 g').1 hf
     rcases place i' j' u hj' hu with⟨⟨_,q1,q2⟩,hu'⟩ | ⟨hno,hu'⟩
     ·obtain⟨t,htt⟩:=tsat hu'
      obtain⟨d1,hd1,z1,hz1,hn1,hf1⟩:=(cell _ s t u (sh2 j' s q1 q2 hs) htt hu').2 g' b1
      have hin':=f1 _ d1 hd1
      obtain⟨p1,p2⟩:=hr.priv d1 z1 g' hz1 hf1
      refine .inr ⟨p1,hds.resolve_left fun e=> ?_,p2.elim (fun h=>h.2) (fun h=>by omega),fun l z hl hld hlf=> ?_⟩
      ·rw[e]at hin'
       cases hin'
      ·have:=hr.apart l z d1 z1 g' (lD hl).1 hz1 hlf hf1
       exact(lD hl).2 (this▸hin')
     ·exact .inl (by rw[hg];exact hrow.fp hj' hs hu' b1)
inductive rN:List Tr→List Sh→Prop
 | nil:rN [] []
 | flat (t:Tr) (ts:List Tr) (ss:List Sh) (h:t.flat=true) (k:rN ts ss):rN (t::ts) (.flat::ss)
 | sl (e m:Nat) (ss':List Sh) (ts:List Tr) (ss:List Sh) (h:ss'.length=m) (k:rN ts ss):rN (.sl 0 []::ts) (.sl e m ss'::ss)
theorem rN.ok{ts:List Tr}{ss:List Sh}(h:rN ts ss){vs:List Value}(hz:ij ts=some vs):ts.length=ss.length∧ ∀(j:Nat) s t v,ss[j]? =some s→ts[j]? =some t→vs[j]? =some v→(∀w,DV w s t v)∧ ∀w g,¬FP w s v g:=by
 induction h generalizing vs with
 | nil=>exact⟨rfl,by simp⟩
 | flat t ts ss h k ih=>
  unfold ij at hz
  split at hz
  ·rename_i v vs' hv hvs
   injection hz with hz
   subst hz
   obtain⟨h1,h2⟩:=ih hvs
   refine⟨by simp[h1],fun j s t' v' hs ht hv'=> ?_⟩
   cases j with
   | zero=>
    simp at hs ht hv'
    subst hs ht hv'
    exact⟨fun w=> .flat _ _ h (vm hv),fun w g hg=>by cases hg⟩
   | succ j=>exact h2 j s t' v' (by simpa using hs) (by simpa using ht) (by simpa using hv')
  ·cases hz
 | sl e m ss' ts ss h k ih=>
  unfold ij at hz
  split at hz
  ·rename_i v vs' hv hvs
   injection hz with hz
   subst hz
   have hv2:v= .slice none 0 0:=by simpa [Tr.z7]using hv.symm
   subst hv2
   obtain⟨h1,h2⟩:=ih hvs
   refine⟨by simp[h1],fun j s t' v' hs ht hv'=> ?_⟩
   cases j with
   | zero=>
    simp at hs ht hv'
    subst hs ht hv'
    refine⟨fun w=>(kE.nil (xs:=[]) ⟨by simp,.inl ⟨rfl,rfl⟩⟩ h).dv,fun w g hg=> ?_⟩
    cases hg with
    | here _ _ _ _ _ hb=>cases hb
   | succ j=>exact h2 j s t' v' (by simpa using hs) (by simpa using ht) (by simpa using hv')
  ·cases hz
end
section
variable {P : Program} {tb : Tb} {ops : Array Oper} {o : Oper} {ν σ : SS} {α : Type} {f : α → List Tr}
theorem ug{d e m n:Nat}{es:List (List Tr)}{ss:List Sh}(hfl:kN es)(hf:find d σ.o=some (.arr e m n es):=by kernel_rfl)(hss:ss=List.replicate m .flat:=by kernel_rfl)(hn:Nat.blt d σ.n=true:=by kernel_rfl):qC σ (.sl e m ss) (.own d) (.sl n es) [d]:=by
 subst hss
 exact .arr d e m n es hf hfl (by simpa using hn)
theorem da{L:List α}{i:Int}{x:α}(hP:ba P tb){t:Nat}{p q:Operand}(ho:o.op= .indexAddr t p q){e e' d m:Nat}{k:IntKind}{ss:List Sh}{ti tj:TI}(h:at' L i=some x)
  (hgd:gd ops ν o=some true:=by kernel_rfl) (hok:jK ν o=true:=by kernel_rfl) (ht:find t tb=some ti:=by kernel_rfl) (hd:ti.d= .slice e:=by kernel_rfl) (he:find e tb=some tj:=by kernel_rfl) (hx:ev ν p=some (.own d):=by kernel_rfl) (hob:find d ν.o=some (.deep e' m L.length ss (L.map f)):=by kernel_rfl) (hy:ev ν q=some (.tr (.int k i)):=by kernel_rfl) (hl:m=tj.size:=by kernel_rfl):
  cC P ops o ν (some (.eref d m i.toNat 0,none)):=qf hP ho hgd hok ht hd he hx hob hy (gW h).1 (by
   have h1:=gW h
   have h2:=(List.getElem?_eq_some_iff.1 h1.2).1
   omega) hl
theorem lL{L:List α}{i:Int}{x:α}(h:at' L i=some x)(hP:ba P tb){t:Nat}{p:Operand}(ho:o.op= .load t p){d0:Nat}(hdst:o.dst=some d0){d k e m j e' m' n':Nat}{ss ss':List Sh}{es':List (List Tr)}{ti:TI}{y:SO}
  (hy:y= .deep e' m' n' ss' es'∨(y= .arr e' m' n' es'∧ss'=List.replicate m' .flat)) (hn:(Nat.blt k σ.n&&Nat.blt d σ.n || (Nat.ble σ.n d&&Nat.ble 2000000 k&&Nat.ble σ.n k&&Nat.blt d 3000000) || (Nat.ble 3000000 d&&Nat.ble 3000000 k&&Nat.ble σ.n k))=true:=by kernel_rfl) (hd0:Nat.blt d0 σ.n=true:=by kernel_rfl) (hgd:gd ops σ o=some true:=by kernel_rfl)
  (ht:find t tb=some ti:=by kernel_rfl) (hag:ti.d.isAgg=false:=by kernel_rfl) (hx:ev σ p=some (.eref d m i.toNat j):=by kernel_rfl) (hob:find d σ.o=some (.deep e m L.length ss (L.map f)):=by kernel_rfl) (hs:ss[j]? =some (.sl e' m' ss'):=by kernel_rfl) (hc:(f x)[j]? =some (.sl n' es'):=by kernel_rfl) (hk:σ.names.contains k=false:=by kernel_rfl):
  ar P ops o σ (({σ with o:=(k,y)::(d,.hol e m L.length ss (L.map f) i.toNat j k)::σ.o.filter (fun p=>p.1 !=d)}:SS).put d0 (.own k)):=
 p3 hP ho hdst (by simpa using hd0) hgd ht hag hx hob (mL f (gW h).2) hs hc hy (by simpa using hk) (by simpa [or_assoc,and_assoc]using hn)
theorem wT{L:List α}{i:Int}{x:α}(h:at' L i=some x)(hP:ba P tb){t:Nat}{p:Operand}(ho:o.op= .load t p){d0:Nat}(hdst:o.dst=some d0){d k e m j e' m' n':Nat}{ss ss':List Sh}{es':List (List Tr)}{ti:TI}{y:SO}
  (hy:y= .deep e' m' n' ss' es'∨(y= .arr e' m' n' es'∧ss'=List.replicate m' .flat)) (hn:(Nat.blt k σ.n&&Nat.blt d σ.n || (Nat.ble σ.n d&&Nat.ble 2000000 k&&Nat.ble σ.n k&&Nat.blt d 3000000) || (Nat.ble 3000000 d&&Nat.ble 3000000 k&&Nat.ble σ.n k))=true:=by kernel_rfl) (hd0:Nat.blt d0 σ.n=true:=by kernel_rfl) (hgd:gd ops σ o=some true:=by kernel_rfl)
  (ht:find t tb=some ti:=by kernel_rfl) (hag:ti.d.isAgg=true:=by kernel_rfl) (hsz:(f x).length=ti.size:=by kernel_rfl) (hx:ev σ p=some (.eref d m i.toNat 0):=by kernel_rfl) (hob:find d σ.o=some (.deep e m L.length ss (L.map f)):=by kernel_rfl) (hs:ss[j]? =some (.sl e' m' ss'):=by kernel_rfl) (hc:(f x)[j]? =some (.sl n' es'):=by kernel_rfl) (hfl:(((f x).take j).all Tr.flat&&((f x).drop (j+1)).all Tr.flat)=true:=by kernel_rfl) (hk:σ.names.contains k=false:=by kernel_rfl):
  ar P ops o σ (({σ with o:=(k,y)::(d,.hol e m L.length ss (L.map f) i.toNat j k)::σ.o.filter (fun p=>p.1 !=d)}:SS).put d0 (.agg (((f x).map .tr).set j (.own k)))):=
 pb hP ho hdst (by simpa using hd0) hgd ht hag hsz hx hob (mL f (gW h).2) hs hc hfl hy (by simpa using hk) (by simpa [or_assoc,and_assoc]using hn)
theorem E2{L:List α}{i:Int}{x x':α}(h:at' L i=some x){d k e m j e' m' n':Nat}{ss ss':List Sh}{es':List (List Tr)}(hfl:kN es')(hss:ss'=List.replicate m' .flat:=by kernel_rfl)(hd:find d σ.o=some (.hol e m L.length ss (L.map f) i.toNat j k):=by kernel_rfl)(hk:find k σ.o=some (.arr e' m' n' es'):=by kernel_rfl)(hne:(k !=d)=true:=by kernel_rfl)
  (hs:ss[j]? =some (.sl e' m' ss'):=by kernel_rfl) (hset:(f x).set j (.sl n' es')=f x':=by kernel_rfl) (hn:(Nat.blt k σ.n==Nat.blt d σ.n)=true:=by kernel_rfl) (hk3:(Nat.blt k 3000000 || Nat.ble 3000000 d)=true:=by kernel_rfl):
  Le σ {σ.kill k with o:=(d,.deep e m (L.set i.toNat x').length ss ((L.set i.toNat x').map f))::(σ.kill k).o}:=by
 have h1:=Le.join hd hk (.inr ⟨rfl,hfl,hss⟩) (by simpa using hne) hs (mL f (gW h).2) (by
  have:Nat.blt k σ.n=Nat.blt d σ.n:=by simpa using hn
  have h2:(Nat.blt k σ.n=true)↔(Nat.blt d σ.n=true):=by rw[this]
  simpa using h2) (by simpa using hk3)
 rw[hset,←List.map_set]at h1
 rw[List.length_set]
 exact h1
theorem pS{L:List α}{i:Int}{z x:α}(hP:ba P tb){t:Nat}{p q:Operand}(ho:o.op= .store t p q)(hdst:o.dst=none){ti:TI}{d e m j:Nat}{ss ss2:List Sh}{ts:List Tr}{v:SV}{vs:List SV}{ds:List Nat}(h:at' L i=some z)(hC:mu σ ss2 vs ts ds)
  (hgd:gd ops σ o=some true:=by kernel_rfl) (ht:find t tb=some ti:=by kernel_rfl) (hx:ev σ p=some (.eref d m i.toNat j):=by kernel_rfl) (hob:find d σ.o=some (.deep e m L.length ss (L.map f)):=by kernel_rfl) (hy:ev σ q=some v:=by kernel_rfl) (hc:v.cells=some vs:=by kernel_rfl) (hss:(ss.drop j).take ss2.length=ss2:=by kernel_rfl) (hl:ts.length=ti.size:=by kernel_rfl) (hk:Nat.ble (j+ts.length) (f z).length=true:=by kernel_rfl) (hdd:ds.contains d=false:=by kernel_rfl) (hds:(ds.isEmpty || (Nat.blt d σ.n || Nat.ble 3000000 d))=true:=by kernel_rfl)
  (hes:(f z).take j++ts++(f z).drop (j+ts.length)=f x:=by kernel_rfl):
  ar P ops o σ {(σ.jJ ds)with o:=(d,.deep e m (L.set i.toNat x).length ss ((L.set i.toNat x).map f))::(σ.jJ ds).o.filter (fun p=>p.1 !=d)}:=by
 rw[List.length_set]
 refine p4 hP ho hdst hgd ht hx hob hy hc hC hss hl (mL f (gW h).2) (by simpa using hk) (by simpa using hdd) (by simpa using hds) ?_
 rw[hes,List.map_set]
theorem pR(hP:ba P tb){t:Nat}{x:Operand}{ps:Array (Nat×Operand)}(ho:o.op= .buildSlice t 1 ps)(hps:ps= #[(0,x)]){d0:Nat}(hdst:o.dst=some d0)
  {ti tj:TI} {zs:List Value} {e m:Nat} {v:SV} {cs:List SV} {ss:List Sh} {ts:List Tr} {ds:List Nat} (hC:mu σ ss cs ts ds)
  (hd0:Nat.blt d0 σ.n=true:=by kernel_rfl) (hgd:gd ops σ o=some true:=by kernel_rfl) (ht:find t tb=some ti:=by kernel_rfl) (hti:ti.d= .slice e:=by kernel_rfl) (he:find e tb=some tj:=by kernel_rfl) (hz:ij tj.zero=some zs:=by kernel_rfl) (hzl:zs.length=tj.size:=by kernel_rfl) (hpos:Nat.blt 0 tj.size=true:=by kernel_rfl) (hsm:Nat.ble tj.size 16777216=true:=by kernel_rfl) (hm:m=tj.size:=by kernel_rfl)
  (hv:ev σ x=some v:=by kernel_rfl) (hcs:v.cells=some cs:=by kernel_rfl) (hl:ss.length=m:=by kernel_rfl) (hf:(σ.jJ ds).names.contains d0=false:=by kernel_rfl):
  ar P ops o σ ((σ.jJ ds).add d0 (.own d0) (.deep e m 1 ss [ts])):=
 pZ hP ho hps hdst (by simpa using hd0) hgd ht hti he hz hzl (by simpa using hpos) (by simpa using hsm) hm hv hcs hC hl (by simpa using hf)
theorem oz{L M R:List α}(h:c4 L M=some R)(hP:ba P tb){p q:Operand}{t:Nat}{args:Array Operand}{ts:Array TypeId}(ho:o.op= .call {callee:= .builtin .append,args:=args,argTypes:=ts})(hargs:args= #[p,q])(hts:ts= #[t,t]){d0:Nat}(hdst:o.dst=some d0)
  {ti tj:TI} {zs:List Value} {e m d dx:Nat} {ss:List Sh}
  (hd0:Nat.blt d0 σ.n=true:=by kernel_rfl) (hgd:gd ops σ o=some true:=by kernel_rfl) (ht:find t tb=some ti:=by kernel_rfl) (hti:ti.d= .slice e:=by kernel_rfl) (he:find e tb=some tj:=by kernel_rfl) (hz:ij tj.zero=some zs:=by kernel_rfl) (hzl:tj.zero.length=tj.size:=by kernel_rfl) (hpos:Nat.blt 0 tj.size=true:=by kernel_rfl) (hm:m=tj.size:=by kernel_rfl) (hby:Nat.ble tj.bytes 2048=true:=by kernel_rfl)
  (hs:ev σ p=some (.own d):=by kernel_rfl) (hdn:Nat.blt d σ.n=true:=by kernel_rfl) (hob:find d σ.o=some (.deep e m L.length ss (L.map f)):=by kernel_rfl) (hx:ev σ q=some (.own dx):=by kernel_rfl) (hdxn:Nat.blt dx σ.n=true:=by kernel_rfl) (hne:(dx !=d)=true:=by kernel_rfl) (hobx:find dx σ.o=some (.deep e m M.length ss (M.map f)):=by kernel_rfl) (hf:((σ.kill d).kill dx).names.contains d0=false:=by kernel_rfl):
  ar P ops o σ (((σ.kill d).kill dx).add d0 (.own d0) (.deep e m R.length ss (R.map f))):=by
 obtain⟨h1,rfl⟩:=vv h
 rw[List.length_append,List.map_append]
 exact pa hP ho hargs hts hdst (by simpa using hd0) hgd ht hti he hz hzl (by simpa using hpos) hm (by simpa using hby) hs (by simpa using hdn) hob hx (by simpa using hdxn) (by simpa using hne) hobx h1 rfl (by simpa using hf)
theorem Le.DJ{σ:SS}{d e m n:Nat}{ss:List Sh}{es:List (List Tr)}(hd:Nat.blt d σ.n=true)(hf:find d σ.o=some (.deep e m n ss es)):Le σ (σ.frz d n es):=Le.FF (by simpa using hd) hf
end
section
variable {P : Program} {s : SS}
theorem vQ{t:ResultVar}{d e m n:Nat}{ss:List Sh}{es:List (List Tr)}(h:Holds P s (.own d) t)(ho:find d s.o=some (.deep e m n ss es))(hd:Nat.blt d s.n=true){dep:Bool}:lM P s dep t (.deep e m n ss es):=⟨d,h,a8 ho,by simpa using hd⟩
theorem AP{t:ResultVar}{d e m n:Nat}{es:List (List Tr)}(pre post:List SV)(h:Holds P s (.agg (pre++ .own d::post)) t)(ho:find d s.o=some (.arr e m n es))(hfl:kN es)(h1:SV.names.namesL pre=[])(h2:SV.names.namesL post=[])(hf1:SV.Flat.FlatL pre)(hf2:SV.Flat.FlatL post)(hd:Nat.blt d s.n=true){dep:Bool}:lM P s dep t (.part pre post (.arr e m n es)):=
 ⟨d,h,a8 ho,h1,h2,.inr ⟨hf1,hf2⟩,.inr hfl,by simpa using hd⟩
end
end Go.Proofs.YtdejeagdkfokfaaGreatDoor.Sh
namespace Go.Proofs.YtdejeagdkfokfaaGreatDoor.Sh
open Go.RowKit
theorem Le.Fo{σ:SS}{d e m n:Nat}{ss:List Sh}{es:List (List Tr)}(hd:Nat.blt d σ.n=true)(hf:find d σ.o=some (.deep e m n ss es)):Le σ {σ with o:=(d,.arr e m n es)::σ.o.filter (fun p=>p.1 !=d)}:=by
 have hd:d<σ.n:=by simpa using hd
 intro c a w ⟨S,β,hr⟩
 have hmem:=a8 hf
 have hob:=hr.obj d _ hmem
 cases hob with
 | deep _ _ _ _ _ _ hdv=>
 obtain⟨xs,h1⟩:=hdv.row
 let S':Nat→Prop:=fun b=>S b∨(FP w (.sl e m ss) (β d) b∧cJ (β d)≠some b)
 have hS: ∀b,S b→S' b:=fun b hb=> .inl hb
 have hpd:=fun g hg=>hr.priv d _ g hmem hg
 have ho: ∀{k x},(k,x)∈(d,SO.arr e m n es)::σ.o.filter (fun p=>p.1 !=d)→(k=d∧x= .arr e m n es)∨((k,x)∈σ.o∧k≠d):=by
  intro k x h
  rcases List.mem_cons.1 h with h | h
  ·injection h with h2 h3
   exact .inl ⟨h2,h3⟩
  ·have h2:=List.mem_filter.1 h
   exact .inr ⟨h2.1,by simpa using h2.2⟩
 refine⟨S',β,hr.defers,hr.size,hr.one,hr.grew,fun b hb=> .inl (hr.s0 b hb),fun b hb=> ?_,fun b hb=> ?_,fun i v hi=>⟨(hr.tmp i v hi).1,(hr.tmp i v hi).2.keep (fun _ _=>rfl) hS⟩,fun k x hk=> ?_,fun j v hj=>⟨(hr.pin j v hj).1,fun x hx=> ?_⟩,fun k x g hk hg=> ?_,fun k x k' x' g hk hk' hg hg'=> ?_⟩
 ·rcases hb with hb | hb
  ·exact hr.s1 b hb
  ·rcases(hpd b hb.1).2 with⟨_,h⟩ | ⟨h,_⟩
   ·exact .inr h
   ·omega
 ·rcases hb with hb | hb
  ·exact hr.lt b hb
  ·exact(hr.obj d _ hmem).lt hb.1
 ·rcases ho hk with⟨rfl,rfl⟩ | ⟨hk,_⟩
  ·refine .arr _ _ _ _ _ xs h1.hn h1.hown h1.he fun i x j t u hi hj hu=> ?_
   have hjm:j<m:=by rw[←h1.he x (List.mem_of_getElem? hi)];exact(List.getElem?_eq_some_iff.1 hj).1
   have hs:ss[j]? =some (ss[j]'(by rw[h1.hc];exact hjm)):=List.getElem?_eq_getElem _
   exact(h1.h i x j _ t u hi hs hj hu).tree fun g hg=> .inr ⟨h1.fp hjm hs hu hg,h1.hs i j _ u g hjm hs hu hg⟩
  ·exact(hr.obj k x hk).keep (fun _ _=>rfl) hS
 ·rcases ho hx with⟨rfl,rfl⟩ | ⟨hx,_⟩
  ·exact(hr.pin _ v hj).2 _ hmem
  ·exact(hr.pin j v hj).2 x hx
 ·rcases ho hk with⟨rfl,rfl⟩ | ⟨hk,hne⟩
  ·have hg2:cJ (β k)=some g:=hg
   obtain⟨h3,h4⟩:=hpd g (.here _ _ _ _ _ hg2)
   refine⟨fun hb=> ?_,h4⟩
   rcases hb with hb | hb
   ·exact h3 hb
   ·exact hb.2 hg2
  ·obtain⟨h3,h4⟩:=hr.priv k x g hk hg
   refine⟨fun hb=> ?_,h4⟩
   rcases hb with hb | hb
   ·exact h3 hb
   ·exact hne (hr.apart k x d _ g hk hmem hg hb.1)
 ·rcases ho hk with⟨e1,e2⟩ | ⟨q1,_⟩<;>rcases ho hk' with⟨e3,e4⟩ | ⟨q3,_⟩
  ·rw[e1,e3]
  ·subst e1 e2
   exact hr.apart k _ k' x' g hmem q3 (.here _ _ _ _ _ hg) hg'
  ·subst e3 e4
   exact hr.apart k x k' _ g q1 hmem hg (.here _ _ _ _ _ hg')
  ·exact hr.apart k x k' x' g q1 q3 hg hg'
end Go.Proofs.YtdejeagdkfokfaaGreatDoor.Sh
