/- A part of the proof. -/
import Derived.Test.YtbdbpakffniboaaGreatDoorSA
import Derived.Laws.StructEq
import Derived.Laws.BytesArg
noncomputable section
open Array renaming length_toList->TB,getElem?_eq_some_iff->TR,getElem?_toList->Ub,getD->UR
open Bool renaming and_eq_true->Tp,or_eq_true->TT,not_eq_true'->Un
open List renaming getElem?_eq_getElem->Tk,getElem?_eq_some_iff->Tl,mem_of_getElem?->Tm,getElem?_map->Tq,getElem?_append_right->Ts,all_eq_true->Tt,mem_filter->Tu,mem_cons->Tx,length_append->Tz,getElem?_append_left->TE,mem_map->TF,mem_singleton->TH,mem_append_right->TJ,mem_flatMap->TK,mem_append->TN,mem_cons_self->TP,length_take->TQ,range->TU,append_assoc->TX,mem_range->T2,mem_append_left->T7,getElem?_take_of_lt->T9,drop_eq_getElem_cons->Uc,eq_nil_of_length_eq_zero->Uf,getElem_mem->Uo,mem_iff_getElem?->Uq,length_drop->Ux,map_cons->UK,range'->UM,isEmpty_iff->UX,getElem?_cons_succ->U1,getElem?_drop->U7,getElem?_range->Vq,length_set->VN,length_range->Wb
open Nat renaming le_refl->TA,mul_le_mul_right->TY,le_of_ble_eq_true->T3,blt->T8,lt_of_lt_of_le->Ud,zero_add->Ue,le_trans->Ut,ble->Uv,add_zero->Uw,eq_of_beq_eq_true->UY,mul_comm->Vc,lt_trichotomy->Vf,sub_self->VD,beq->V2,strongRecOn->V5,div_lt_of_lt_mul->WO
open Option renaming bind_some->Ti,map_eq_some_iff->Tn,isSome_iff_exists->T5,some->Um
open Sum renaming elim->TC
namespace Go.Proofs.YtbdbpakffniboaaGreatDoor.Sh
open Go.RowKit
theorem LU{w:World}{base e m n:Nat}{v:Value}{xs:List Value}(h:w.ownsRow base e m v n xs):v.ownBlock=cN v:=by
 rcases h.2 with⟨rfl,_⟩ | ⟨g,cap,cur,rfl,_⟩<;>rfl
theorem JZ{P:Program}(w:World)(t ty e:TypeId)(i:TypeInfo)(z:Value)(size bytes:Nat)(ht:P.underlying t=some (.slice e))(hi:P.info? e=some i)(hz:i.zero=some z)
  (hsize:i.size=size) (hby:i.bytes=bytes) (hzs:z.cells.size=size) (hsz:0<size)
  (v:Value) (n:Nat) (xs:List Value) (hown:w.ownsRow 0 e size v n xs)
  (A:Option Addr) (m c:Nat) (news:List Value) (hA:A=none->m=0) (hl:news.length=m*size) (hnews: ∀a,A=some a-> ∀(j:Nat) u,news[j]? =some u->w.cell? (a.add j)=some u) (h1: ∀u∈news,u.oneCell'=true)
  (h63:n+m<=maxLen) (hbytes:(n+m)*bytes<=140737488355328):
  ∃v' w',(Builtin.append_ #[t,t] ty #[v,.slice A m c]).run P w= .ok v' w'/\w'.ownsRow 0 e size v' (n+m) (xs++news)/\w.grownBy w' v.ownBlock/\
   ∀g,cN v'=some g->cN v=some g\/w.heap.size<=g:=by
 cases A with
 | none=>
  obtain rfl:=hA rfl;have:news=[]:=Uf (by simpa using hl);subst this;refine⟨v,w,?_,by simpa using hown,⟨rfl,rfl,rfl,TA _,fun _ _ _=>rfl⟩,fun g hg=> .inl hg⟩;rcases hown.2 with⟨rfl,rfl⟩ | ⟨g,cap,cur,rfl,_,_,hnc,_⟩
  ·simp[Builtin.append_,run_underlying ht,sizeOf,typeInfo,hi,Builtin.lenOf,Builtin.firstCells]
  ·simp[Builtin.append_,run_underlying ht,sizeOf,typeInfo,hi,Builtin.lenOf,Builtin.firstCells,hnc,storeCells]
 | some a=>
  have hn':=hnews a rfl;obtain⟨v',w',hr,ho,hg,_⟩:=run_append_own (P:=P) w 0 t ty e i z size bytes ht hi hz hsize hby hzs hsz v n xs hown a m c news hl hn' h1 h63 hbytes (Nat.zero_le _);refine⟨v',w',hr,ho,hg,fun g hgb=> ?_⟩;subst hsize hby;have hsmall:n+m<=9223372036854775807:=by simp only[maxLen]at h63;omega
  rcases hown.2 with⟨rfl,rfl⟩ | ⟨g0,cap,cur,rfl,hbg,hgg,hnc,hcm,hcs,htake⟩
  ·by_cases hm:m=0
   ·subst hm;have:news=[]:=Uf (by simpa using hl);subst this;have h2:(Builtin.append_ #[t,t] ty #[.slice none 0 0,.slice (some a) 0 c]).run P w= .ok (.slice none 0 0) w:=by
     simp[Builtin.append_,run_underlying ht,sizeOf,typeInfo,hi,Builtin.lenOf,Builtin.firstCells,loadCells,loadCellsFrom]
    rw[hr]at h2;injection h2 with h2;subst h2;simp[cN]at hgb
   ·have h2:=run_append_nil (P:=P) w t ty e i z ht hi hz a m c news hl hn' (by omega) (by omega) (by have hb:=hbytes;simp only[Ue]at hb;omega);rw[hr]at h2;injection h2 with h2;subst h2;simp[cN]at hgb;exact .inr (by omega)
  ·by_cases hroom:n+m<=cap
   ·have hfit:n*i.size+news.length<=cur.size:=by rw[hl,hcs,<-Nat.add_mul];exact TY _ hroom
    have h2:=run_append_room (P:=P) w t ty e i ht hi g0 n cap cur hgg a m c news hl hn' h1 hroom hfit;rw[hr]at h2;injection h2 with h2;subst h2;exact .inl hgb
   ·have h2:=run_append_grow (P:=P) w t ty e i z ht hi hz ⟨g0,0,none⟩ n cap xs hown.1 (hown.cells (g:=g0) rfl) a m c news hl hn' (by omega) (by omega) (growslice_fits (by omega) hbytes);rw[hr]at h2;injection h2 with h2;subst h2;simp[cN]at hgb;exact .inr (by omega)
def SS.kill(σ:SS)(d:Nat):SS:=⟨σ.n,σ.t.filter (fun p=> !p.2.names.contains d),σ.o.filter (fun p=>p.1 !=d&& !p.2.names.contains d)⟩
section
variable {P : Program} {tb : Tb} {ops : Array Oper} {o : Oper} {c : Cx} {S : Nat -> Prop} {β : Nat -> Value} {σ : SS} {a : Act} {w : World}
theorem bE{σ:SS}{d k:Nat}{x:SO}(h:(k,x)∈(σ.kill d).o):(k,x)∈σ.o/\k≠d:=by
 have h2:=Tu.1 h;simp only[Tp,bne_iff_ne,ne_eq]at h2;exact⟨h2.1,h2.2.1⟩
theorem se{σ:SS}{d:Nat}{p:Nat×SV}(h:p∈(σ.kill d).t):p∈σ.t:=(Tu.1 h).1
theorem Sub.kill(σ:SS)(d:Nat):Sub (σ.kill d) σ:=⟨rfl,fun _ h=>se h,fun _ h=>(bE h).1⟩
def Src(w:World)(S:Nat->Prop)(m:Nat)(v:Value)(k:Nat)(es:List (List Tr)):Prop:=
 ∃(A:Option Addr) (c:Nat) (news:List Value),v= .slice A k c/\(A=none->k=0)/\news.length=k*m/\(∀a,A=some a-> ∀(j:Nat) u,news[j]? =some u->w.cell? (a.add j)=some u)/\(∀u∈news,u.oneCell'=true)/\es.length=k/\(∀e∈es,e.length=m)/\
  ∀(i:Nat) e (j:Nat) t u,es[i]? =some e->e[j]? =some t->news[i*m+j]? =some u->TV w S t u
theorem Hk{t:Tr}{u:Value}(h:TV w S t u):u.oneCell'=true:=by cases h<;>rfl
theorem Pf{m:Nat}(hm:0<m){k:Nat}{es:List (List Tr)}{v:Value}(h:TV w S (.sl k es) v)(he: ∀e∈es,e.length=m):Src w S m v k es:=by
 cases h with
 | sl es A n cap m' u hln hc hmx hel hu ha=>
  subst hln;by_cases hes:es=[]
  ·subst hes;exact⟨A,cap,[],rfl,fun hA=>rfl,by simp,by simp,by simp,rfl,by simp,by simp⟩
  ·obtain⟨b,off,rfl,hb,hcell⟩:=ha hes;obtain⟨e0,he0⟩:=List.exists_mem_of_ne_nil es hes;have hmm:m'=m:=by rw[<-hel e0 he0,he e0 he0]
   subst hmm;have hidx: ∀q,q<es.length*m'-> ∃e t,es[q/m']? =some e/\e[q % m']? =some t:=by
    intro q hq;have h1:q/m'<es.length:=WO (by rwa [Vc]at hq);have h2:=he es[q/m'] (Uo _);have h3:q % m'<(es[q/m']).length:=by rw[h2];exact Nat.mod_lt _ hm
    exact⟨_,_,Tk h1,Tk h3⟩
   have hget: ∀(q:Nat) x,((TU (es.length*m')).map fun q=>u (q/m') (q % m'))[q]? =some x->q<es.length*m'/\x=u (q/m') (q % m'):=by
    intro q x hq;rw[Tq,Tn]at hq;obtain⟨r,h1,h2⟩:=hq;have h3:=(Tl.1 h1).1;rw[Wb]at h3;rw[Vq h3]at h1;injection h1 with h1;subst h1;exact⟨h3,h2.symm⟩
   refine⟨some ⟨b,off,none⟩,cap,(TU (es.length*m')).map (fun q=>u (q/m') (q % m')),rfl,by simp,by simp,fun x hx j y hy=> ?_,fun x hx=> ?_,rfl,he,fun i e j t x hi hj hx=> ?_⟩
   ·injection hx with hx;subst hx;obtain⟨h1,rfl⟩:=hget j y hy;obtain⟨e,t,h2,h3⟩:=hidx j h1;have:=hcell _ _ _ _ h2 h3;rw[Addr.add_lit]
    rwa [show off+j/m'*m'+j % m'=off+j from by have:=Nat.div_add_mod j m';rw[Vc]at this;omega]at this
   ·obtain⟨q,hq⟩:=Uq.1 hx;obtain⟨h1,rfl⟩:=hget q x hq;obtain⟨e,t,h2,h3⟩:=hidx q h1;exact Hk (hu _ _ _ _ h2 h3)
   ·obtain⟨h1,rfl⟩:=hget _ x hx;have hjl:j<m':=by rw[<-he e (Tm hi)];exact(Tl.1 hj).1
    rw[show(i*m'+j)/m'=i from by rw[Vc,Nat.mul_add_div hm,Nat.div_eq_of_lt hjl,Uw],show(i*m'+j) % m'=j from by rw[Vc,Nat.mul_add_mod,Nat.mod_eq_of_lt hjl]];exact hu i e j t hi hj
theorem QY(hr:Rel c S β σ a w){d e m k:Nat}{es:List (List Tr)}(hd:(d,SO.arr e m k es)∈σ.o):Src w S m (β d) k es:=by
 have ho:=hr.obj d _ hd;cases ho with
 | arr e m k es v xs hn hown he hh=>
  have hone: ∀u∈xs,u.oneCell'=true:=by
   intro u hu;obtain⟨q,hq⟩:=Uq.1 hu;have hql:=(Tl.1 hq).1;have hl:=hown.1;have hmpos:0<m:=by
    rcases Nat.eq_zero_or_pos m with h | h
    ·subst h;simp at hl;subst hl;simp at hq
    ·exact h
   have h1:q/m<es.length:=by rw[hn];exact WO (by rw[Vc,<-hl];exact hql)
   have h2:=he es[q/m] (Uo _);have h3:q % m<(es[q/m]).length:=by rw[h2];exact Nat.mod_lt _ hmpos
   refine Hk (hh _ _ _ _ u (Tk h1) (Tk h3) ?_);rw[show q/m*m+q % m=q from by have:=Nat.div_add_mod q m;rw[Vc]at this;exact this];exact hq
  rcases hown.2 with⟨h1,h2⟩ | ⟨g,cap,cur,h1,_⟩
  ·exact⟨none,0,xs,by rw[h1,h2],fun _=>h2,hown.1,by simp,hone,hn,he,hh⟩
  ·exact⟨_,cap,xs,h1,by simp,hown.1,fun a ha j u hu=>by
    injection ha with ha;subst ha;exact hown.cells (g:=g) (by rw[h1];rfl) j u hu,hone,hn,he,hh⟩
def K8(σ:SS)(m:Nat)(x:SV)(k:Nat)(es:List (List Tr)):Prop:=match x with
 | .own d=> ∃e,find d σ.o=some (.arr e m k es)
 | .tr t=>t= .sl k es/\ ∀e∈es,e.length=m
 | _=>False
theorem wO(hP:bm P tb){s x:Operand}{t:Nat}{args:Array Operand}{ts:Array TypeId}(ho:o.op= .call {callee:= .builtin .append,args:=args,argTypes:=ts})(hargs:args= #[s,x])(hts:ts= #[t,t]){d0 nm:Nat}(hdst:o.dst=some d0)(hd0:d0<σ.n)(hgd:gd ops σ o=some true)
  {ti tj:TI} {zs:List Value} {e m n k d:Nat} {es es2 es':List (List Tr)} {xv:SV} (ht:find t tb=some ti) (hti:ti.d= .slice e) (he:find e tb=some tj) (hz:iP tj.zero=some zs) (hzl:tj.zero.length=tj.size) (hpos:0<tj.size) (hm:m=tj.size) (hby:tj.bytes<=2048)
  (hs:ev σ s=some (.own d)) (hdn:(nm<σ.n/\d<σ.n)\/(nm=d/\3000000<=d)) (hob:find d σ.o=some (.arr e m n es)) (hx:ev σ x=some xv) (hsrc:K8 σ m xv k es2) (hlen:n+k<=68719476736) (hes:es++es2=es') (hf:nm∉(σ.kill d).names):
  af P ops o σ (({σ.kill d with o:=(nm,.arr e m (n+k) es')::(σ.kill d).o}:SS).put d0 (.own nm)):=by
 subst hargs hts hm hes;refine tL hgd fun c S β a w hr=> ?_;have hv:=bD hr hs;have hxv:=bD hr hx;have hmem:=aJ hob;have hobj:=hr.obj d _ hmem;have hsr:Src w S tj.size (a.eval x) k es2:=by
  generalize a.eval x=y at hxv;unfold K8 at hsrc;split at hsrc
  ·obtain⟨e',hd'⟩:=hsrc;cases hxv with | own d'=>exact QY hr (aJ hd')
  ·obtain⟨rfl,h3⟩:=hsrc;cases hxv with | tr _ _ hxv=>exact Pf hpos hxv h3
  ·exact hsrc.elim
 obtain⟨A,cc,news,hxe,hA,hnl,hnc,hn1,hel,hem,htv⟩:=hsr;generalize hsv:a.eval s=sv at hv;cases hv with
 | own d=>
  generalize hbd:β d=bd at hobj;cases hobj with
  | arr e m n es v xs hn hown hes hh=>
   obtain⟨q,h1,h2,h3,h4⟩:=(bc hP he).uC;obtain⟨z,h5,h6⟩:=h4 zs hz;obtain⟨h7,_⟩:=om (w:=w) (S:=S) hz;have hzs:z.cells.size=tj.size:=by rw[<-hzl,h7,<-h6];simp
   have hb:(n+k)*tj.bytes<=140737488355328:=Ut (Nat.mul_le_mul hlen hby) (by decide);obtain⟨v',w',hrun,hown',hg,hbl⟩:=JZ (P:=P) w t o.type e q z tj.size tj.bytes ((bc hP ht).slice hti) h1 h5 h2 h3 hzs hpos bd n xs hown A k cc news hA hnl hnc hn1 (by simp[maxLen];omega) hb;have hexec:(execOp a.eval o).run P w= .ok (.value v') w':=by
    simp only[execOp,ho,resolve,invoke,builtin,Sem.run_bind,Sem.run_pure,Result.andThen_ok,List.map_toArray,UK,List.map_nil,hsv,hbd,hxe,hrun]
   refine lr hexec ?_;have hbo:=LU hown;have hpriv: ∀g,cN bd=some g-> ¬S g/\(((nm<σ.n\/3000000<=nm)/\c.w0.heap.size<=g)\/(σ.n<=nm/\c.Y nm g)):=fun g hgb=>by
    obtain⟨q1,q2⟩:=hr.priv d _ g hmem (by rw[hbd];exact hgb);refine⟨q1,?_⟩;rcases hdn with⟨h8,h9⟩ | ⟨rfl,h8⟩
    ·rcases q2 with⟨_,q2⟩ | ⟨q2,_⟩
     ·exact .inl ⟨.inl h8,q2⟩
     ·omega
    ·exact q2
   have hkeepS: ∀b,S b->w'.heap[b]? =w.heap[b]? :=fun b hb=>hg.block b (hr.lt b hb) fun e=>(hpriv b (by rw[<-hbo];exact e.symm)).1 hb;have hob': ∀{k x},(k,x)∈σ.o->k≠d-> ∀b,x.ba w (β k) b->w'.heap[b]? =w.heap[b]? :=fun{k x} hk hne b hb=>hg.block b ((hr.obj k x hk).lt hb) fun e=>hne (hr.apart k x d _ b hk hmem hb (rf (by rw[hbd,<-hbo];exact e.symm)));have hof: ∀{k x},(k,x)∈σ.o->k≠d-> ∀{b},x.ba w' (β k) b->x.ba w (β k) b:=fun{k x} hk hne {b} hb=>((hr.obj k x hk).ba (hob' hk hne)).1 hb;have hrk:Rel c S β (σ.kill d) a w':=by
    refine⟨hr.defers,hr.size,hr.one,hr.grew.of (dA.OH hg) (fun g hgb hlt=> ?_),hr.s0,hr.s1,fun b hb=>Ud (hr.lt b hb) hg.size,fun i y hi=>⟨(hr.tmp i y (se hi)).1,(hr.tmp i y (se hi)).2.keep hkeepS fun _ h=>h⟩,fun k y hk=> ?_,fun j u hj=>⟨(hr.pin j u hj).1,fun y hy=>(hr.pin j u hj).2 y (bE hy).1⟩,fun k y g hk hgb=>hr.priv k y g (bE hk).1 (hof (bE hk).1 (bE hk).2 hgb),fun k y k' y' g hk hk' h h'=>hr.apart k y k' y' g (bE hk).1 (bE hk').1 (hof (bE hk).1 (bE hk).2 h) (hof (bE hk').1 (bE hk').2 h')⟩
    ·rcases(hpriv g (by rw[<-hbo];exact hgb)).2 with h | h
     ·omega
     ·exact h.2.1
    ·refine(hr.obj k y (bE hk).1).keep (fun b hb=> ?_) fun _ h=>h;rcases hb with hb | hb
     ·exact hkeepS b hb
     ·exact hob' (bE hk).1 (bE hk).2 b hb
   have hv1:v'.cells= #[v']:=by rcases hown'.2 with⟨h,_⟩ | ⟨g,cap,cur,h,_⟩<;>rw[h]<;>rfl
   have hxl:xs.length=n*tj.size:=hown.1;have hnew:cP w' S (kt β nm v') (.arr e tj.size (n+k) (es++es2)) v':=by
    refine .arr e tj.size (n+k) _ v' (xs++news) (by simp[hn,hel]) hown' (fun x hx=> ?_) fun i x j t u hi hj hu=> ?_
    ·rcases TN.1 hx with hx | hx
     ·exact hes x hx
     ·exact hem x hx
    ·have hkp: ∀{t u},TV w S t u->TV w' S t u:=fun h=>h.keep hkeepS fun _ h=>h;have hjl:j<tj.size:=by
      have:x.length=tj.size:=by
       rcases TN.1 (Tm hi)with hx | hx
       ·exact hes x hx
       ·exact hem x hx
      rw[<-this];exact(Tl.1 hj).1
     by_cases hin:i<n
     ·have h8:(i+1)*tj.size<=n*tj.size:=TY _ (by omega);rw[Nat.add_mul]at h8;rw[TE (by omega)]at hi hu;exact hkp (hh i x j t u hi hj hu)
     ·have h8:n*tj.size<=i*tj.size:=TY _ (by omega);rw[Ts (by omega)]at hi hu;rw[hn]at hi;refine hkp (htv (i - n) x j t u hi hj ?_);rw[<-hu];congr 1;rw[hxl,Nat.sub_mul];omega
   rw[hdst];refine⟨S,_,Rel.put (Rel.Sv hrk hf (hdn.imp (·.1) fun h=>by rw[h.1];exact h.2) hv1 hnew fun g hgb=> ?_) hd0 ?_⟩
   ·rcases hbl g hgb with h | h
    ·refine⟨(hpriv g h).1,(hpriv g h).2,fun d' x' hm' e=>(bE hm').2 (hr.apart d' x' d _ g (bE hm').1 hmem (hof (bE hm').1 (bE hm').2 e) (by rw[hbd];exact h))⟩
    ·exact⟨fun hS=>absurd (hr.lt g hS) (by omega),.inl ⟨hdn.imp (·.1) fun h=>by rw[h.1];exact h.2,Ut hr.grew.size h⟩,fun d' x' hm' e=>absurd ((hr.obj d' x' (bE hm').1).lt (hof (bE hm').1 (bE hm').2 e)) (by omega)⟩
   ·have:cT w' S (kt β nm v') (.own nm) (kt β nm v' nm):= .own nm
    rwa [cy]at this
theorem Gz(hP:bm P tb){s x:Operand}{t:Nat}{args:Array Operand}{ts:Array TypeId}(ho:o.op= .call {callee:= .builtin .append,args:=args,argTypes:=ts})(hargs:args= #[s,x])(hts:ts= #[t,t]){d0:Nat}(hdst:o.dst=some d0)(hd0:d0<σ.n)(hgd:gd ops σ o=some true)
  {ti tj:TI} {zs:List Value} {e m n k d:Nat} {es es2 es':List (List Tr)} {xv:SV} (ht:find t tb=some ti) (hti:ti.d= .slice e) (he:find e tb=some tj) (hz:iP tj.zero=some zs) (hzl:tj.zero.length=tj.size) (hpos:0<tj.size) (hm:m=tj.size) (hby:tj.bytes<=2048)
  (hs:ev σ s=some (.own d)) (hdn:d<σ.n) (hob:find d σ.o=some (.arr e m n es)) (hx:ev σ x=some xv) (hsrc:K8 σ m xv k es2) (hlen:n+k<=68719476736) (hes:es++es2=es') (hf:d0∉(σ.kill d).names):
  af P ops o σ ((σ.kill d).add d0 (.own d0) (.arr e m (n+k) es')):=wO hP ho hargs hts hdst hd0 hgd ht hti he hz hzl hpos hm hby hs (.inl ⟨hd0,hdn⟩) hob hx hsrc hlen hes hf
end
def fzV(d n:Nat)(es:List (List Tr)):SV->SV
 | .own k=>if k=d then .tr (.sl n es)else .own k
 | .agg cs=> .agg (fzL cs)
 | .tup cs=> .tup (fzL cs)
 | x=>x
where fzL:List SV->List SV
 | []=>[]
 | c::cs=>fzV d n es c::fzL cs
theorem Cj(d n:Nat)(es:List (List Tr)): ∀(cs:List SV) (j:Nat),(fzV.fzL d n es cs)[j]? =(cs[j]?).map (fzV d n es)
 | [],j=>by simp[fzV.fzL]
 | c::cs,0=>by simp[fzV.fzL]
 | c::cs,j+1=>by simp[fzV.fzL,Cj d n es cs j]
theorem Ck(d n:Nat)(es:List (List Tr)): ∀(cs:List SV),(fzV.fzL d n es cs).length=cs.length
 | []=>rfl
 | c::cs=>by simp[fzV.fzL,Ck d n es cs]
def fzO(d n:Nat)(es:List (List Tr)):SO->SO
 | .box cs=> .box (fzV.fzL d n es cs)
 | x=>x
def SS.frz(σ:SS)(d n:Nat)(es:List (List Tr)):SS:=
 ⟨σ.n,(σ.t.map fun p=>(p.1,fzV d n es p.2)).filter (fun p=> !p.2.names.contains d),(σ.o.map fun p=>(p.1,fzO d n es p.2)).filter (fun p=>p.1 !=d&& !p.2.names.contains d)⟩
def SS.keep(σ:SS)(ts os:List Nat):SS:=⟨σ.n,σ.t.filter (fun p=>ts.contains p.1),σ.o.filter (fun p=>os.contains p.1)⟩
theorem Le.keep(σ:SS)(ts os:List Nat):Le σ (σ.keep ts os):=Le.sub rfl (fun _ h=>(Tu.1 h).1) fun _ h=>(Tu.1 h).1
theorem Le.kill(σ:SS)(d:Nat):Le σ (σ.kill d):=Le.sub rfl (fun _ h=>(Sub.kill σ d).t _ h) fun _ h=>(Sub.kill σ d).o _ h
section
variable {P : Program} {tb : Tb} {ops : Array Oper} {o : Oper} {c : Cx} {S : Nat -> Prop} {β : Nat -> Value} {σ : SS} {a : Act} {w : World}
theorem Dc{w:World}{d n:Nat}{es:List (List Tr)}{y:SO}{v:Value}{g:Nat}:(fzO d n es y).ba w v g↔y.ba w v g:=by cases y<;>exact Iff.rfl
theorem Le.Sm{σ:SS}{d n:Nat}{es:List (List Tr)}{x:SO}(hd:d<σ.n\/3000000<=d)(hf:find d σ.o=some x)(htr: ∀{c S β a w},Rel c S β σ a w->TV w (fun b=>S b\/x.ba w (β d) b) (.sl n es) (β d)):Le σ (σ.frz d n es):=by
 intro c a w ⟨S,β,hr⟩;have hmem:=aJ hf
 let S':Nat->Prop:=fun b=>S b\/x.ba w (β d) b
 have hS: ∀b,S b->S' b:=fun b hb=> .inl hb;have htree:TV w S' (.sl n es) (β d):=htr hr;have hsv: ∀{x:SV} {v:Value},cT w S β x v->cT w S' β (fzV d n es x) v:=by
  intro x v h
  induction h with
  | tr t v h=>exact .tr t v (h.keep (fun _ _=>rfl) hS)
  | agg cs vs hl h ih=>
   refine .agg _ vs (by rw[Ck];exact hl) fun j y v hy hv=> ?_;rw[Cj,Tn]at hy;obtain⟨x,hx,rfl⟩:=hy;exact ih j x v hx hv
  | tup cs vs hl h ih=>
   refine .tup _ vs (by rw[Ck];exact hl) fun j y v hy hv=> ?_;rw[Cj,Tn]at hy;obtain⟨x,hx,rfl⟩:=hy;exact ih j x v hx hv
  | ptr cs o g b u hg h hc ih=>exact(cT.ptr cs o g b u hg h hc).keep (fun _ _=>rfl) hS
  | ref d o g h=>exact .ref d o g h
  | eref d m i j g n c h=>exact .eref d m i j g n c h
  | own k=>
   unfold fzV;split
   ·rename_i hk;subst hk;exact .tr _ _ htree
   ·exact .own k
  | clo f caps vs hl h ih=>exact(cT.clo f caps vs hl h).keep (fun _ _=>rfl) hS
  | mth f caps vs hl h ih=>exact(cT.mth f caps vs hl h).keep (fun _ _=>rfl) hS
  | any v h=>exact .any v h
 have hobj: ∀{x:SO} {v:Value},cP w S β x v->cP w S' β (fzO d n es x) v:=by
  intro x v h;cases h with
  | box cs g vs T hg hl h=>
   refine .box _ g vs T hg (by rw[Ck];exact hl) fun j y v hy hv=> ?_;rw[Cj,Tn]at hy;obtain⟨x,hx,rfl⟩:=hy;exact hsv (h j x v hx hv)
  | arr e m n es v xs hn hown he h=>exact(cP.arr e m n es v xs hn hown he h).keep (fun _ _=>rfl) hS
  | deep e m n ss es v h=>exact .deep e m n ss es v h
  | hol e m n ss es i j d v xs h hu=>exact .hol e m n ss es i j d v xs h hu
 have ho: ∀{k x},(k,x)∈(σ.frz d n es).o-> ∃y,(k,y)∈σ.o/\x=fzO d n es y/\k≠d:=by
  intro k x h;have h2:=Tu.1 h;obtain⟨⟨k',y⟩,h3,h4⟩:=TF.1 h2.1;injection h4 with h4 h5;subst h4;simp only[Tp,bne_iff_ne,ne_eq]at h2;exact⟨y,h3,h5.symm,h2.2.1⟩
 have hpd:=fun g hg=>hr.priv d _ g hmem hg;refine⟨S',β,hr.defers,hr.size,hr.one,hr.grew,fun b hb=> .inl (hr.s0 b hb),fun b hb=> ?_,fun b hb=> ?_,fun i v hi=> ?_,fun k x hk=> ?_,fun j v hj=>⟨(hr.pin j v hj).1,fun x hx=> ?_⟩,fun k x g hk hg=> ?_,fun k x k' x' g hk hk' hg hg'=> ?_⟩
 ·rcases hb with hb | hb
  ·exact hr.s1 b hb
  ·rcases(hpd b hb).2 with⟨_,h⟩ | ⟨h,h'⟩
   ·exact .inr (.inl h)
   ·exact .inr (.inr (hd.elim (fun h6=>absurd h6 (by omega)) fun h6=>⟨(h'.2 h6).1,h'.1⟩))
 ·rcases hb with hb | hb
  ·exact hr.lt b hb
  ·exact(hr.obj d _ hmem).lt hb
 ·have h2:=Tu.1 hi;obtain⟨⟨i',y⟩,h3,h4⟩:=TF.1 h2.1;injection h4 with h4 h5;subst h4 h5;exact⟨(hr.tmp i' y h3).1,hsv (hr.tmp i' y h3).2⟩
 ·obtain⟨y,h1,rfl,_⟩:=ho hk;exact hobj (hr.obj k y h1)
 ·obtain⟨y,h1,rfl,_⟩:=ho hx;exact(hr.pin j v hj).2 y h1
 ·obtain⟨y,h1,rfl,h2⟩:=ho hk;have hg:=Dc.1 hg;obtain⟨h3,h4⟩:=hr.priv k y g h1 hg;refine⟨fun hb=> ?_,h4⟩;rcases hb with hb | hb
  ·exact h3 hb
  ·exact h2 (hr.apart k y d _ g h1 hmem hg hb)
 ·obtain⟨y,h1,rfl,_⟩:=ho hk;obtain⟨y',h1',rfl,_⟩:=ho hk';exact hr.apart k y k' y' g h1 h1' (Dc.1 hg) (Dc.1 hg')
theorem Le.frz{σ:SS}{d e m n:Nat}{es:List (List Tr)}(hd:d<σ.n)(hf:find d σ.o=some (.arr e m n es)):Le σ (σ.frz d n es):=
 Le.Sm (.inl hd) hf fun hr=>yY hr (fun _ hb=> .inl hb) (aJ hf) fun _ hg=> .inr hg
theorem Le.Ta{σ:SS}{d e m n:Nat}{es:List (List Tr)}(hd:Uv 3000000 d=true)(hf:find d σ.o=some (.arr e m n es)):Le σ (σ.frz d n es):=
 Le.Sm (.inr (T3 hd)) hf fun hr=>yY hr (fun _ hb=> .inl hb) (aJ hf) fun _ hg=> .inr hg
def rnV(d e:Nat):SV->SV
 | .own k=> .own (if k=d then e else k)
 | .ref k o=> .ref (if k=d then e else k) o
 | .eref k m i j=> .eref (if k=d then e else k) m i j
 | .agg cs=> .agg (rnL cs)
 | .tup cs=> .tup (rnL cs)
 | .clo f cs=> .clo f (rnL cs)
 | .mth f cs=> .mth f (rnL cs)
 | .any=> .any
 | .ptr cs o=> .ptr (rnL cs) o
 | .tr t=> .tr t
where rnL:List SV->List SV
 | []=>[]
 | c::cs=>rnV d e c::rnL cs
theorem qo(d e:Nat): ∀(cs:List SV) (j:Nat),(rnV.rnL d e cs)[j]? =(cs[j]?).map (rnV d e)
 | [],j=>by simp[rnV.rnL]
 | c::cs,0=>by simp[rnV.rnL]
 | c::cs,j+1=>by simp[rnV.rnL,qo d e cs j]
theorem vS(d e:Nat): ∀(cs:List SV),(rnV.rnL d e cs).length=cs.length
 | []=>rfl
 | c::cs=>by simp[rnV.rnL,vS d e cs]
def rnO(d e:Nat):SO->SO
 | .box cs=> .box (rnV.rnL d e cs)
 | .hol e' m n ss es i j k=> .hol e' m n ss es i j (if k=d then e else k)
 | .arr e' m n es=> .arr e' m n es
 | .deep e' m n ss es=> .deep e' m n ss es
def SS.ren(σ:SS)(d e:Nat):SS:=⟨σ.n,σ.t.map fun p=>(p.1,rnV d e p.2),σ.o.map fun p=>(if p.1=d then e else p.1,rnO d e p.2)⟩
theorem Le.Sz{σ:SS}{d e:Nat}(hd:d<σ.n)(he:e<σ.n\/3000000<=e)(hf:σ.names.contains e=false):Le σ (σ.ren d e):=by
 have hf:e∉σ.names:=by simpa using hf
 intro c a w ⟨S,β,hr⟩
 let β':=kt β e (β d)
 have hb1: ∀k,k≠e->β' (if k=d then e else k)=β k:=by
  intro k hk;split
  ·rename_i h;rw[h];exact cy ..
  ·exact cU _ _ hk
 have hsv: ∀{x:SV} {v:Value},cT w S β x v->e∉x.names->cT w S β' (rnV d e x) v:=by
  intro x v h
  induction h with
  | tr t v h=>exact fun _=> .tr t v h
  | agg cs vs hl h ih=>
   intro hn;refine .agg _ vs (by rw[vS];exact hl) fun j y v hy hv=> ?_;rw[qo,Tn]at hy;obtain⟨x,hx,rfl⟩:=hy;exact ih j x v hx hv fun hm=>hn (SV.cf (Tm hx) hm)
  | tup cs vs hl h ih=>
   intro hn;refine .tup _ vs (by rw[vS];exact hl) fun j y v hy hv=> ?_;rw[qo,Tn]at hy;obtain⟨x,hx,rfl⟩:=hy;exact ih j x v hx hv fun hm=>hn (SV.cf (Tm hx) hm)
  | ptr cs o g b u hg h hc ih=>
   intro hn;refine .ptr _ o g b u hg (fun j y hy=> ?_) fun j y hy=> ?_
   ·rw[qo,Tn]at hy;obtain⟨x,hx,rfl⟩:=hy;exact ih j x hx fun hm=>hn (SV.cf (Tm hx) hm)
   ·rw[qo,Tn]at hy;obtain⟨x,hx,rfl⟩:=hy;exact hc j x hx
  | ref k o g h=>exact fun hn=> .ref _ o g ((hb1 k fun h=>hn (by simp[SV.names,h])).trans h)
  | eref k m i j g n c h=>exact fun hn=> .eref _ m i j g n c ((hb1 k fun h=>hn (by simp[SV.names,h])).trans h)
  | own k=>
   intro hn;rw[<-hb1 k fun h=>hn (by simp[SV.names,h])];exact .own _
  | clo f caps vs hl h ih=>
   intro hn;refine .clo f _ vs (by rw[vS];exact hl) fun j y v hy hv=> ?_;rw[qo,Tn]at hy;obtain⟨x,hx,rfl⟩:=hy;exact ih j x v hx hv fun hm=>hn (SV.cf (Tm hx) hm)
  | mth f caps vs hl h ih=>
   intro hn;refine .mth f _ vs (by rw[vS];exact hl) fun j y v hy hv=> ?_;rw[qo,Tn]at hy;obtain⟨x,hx,rfl⟩:=hy;exact ih j x v hx hv fun hm=>hn (SV.cf (Tm hx) hm)
  | any v h=>
   intro _;exact .any v h
 have hobj: ∀{x:SO} {v:Value},cP w S β x v->e∉x.names->cP w S β' (rnO d e x) v:=by
  intro x v h hn;cases h with
  | box cs g vs T hg hl h=>
   refine .box _ g vs T hg (by rw[vS];exact hl) fun j y v hy hv=> ?_;rw[qo,Tn]at hy;obtain⟨x,hx,rfl⟩:=hy;exact hsv (h j x v hx hv) fun hm=>hn (SV.cf (Tm hx) hm)
  | arr e m n es v xs hn' hown he h=>exact .arr e m n es v xs hn' hown he h
  | deep e m n ss es v h=>exact .deep e m n ss es v h
  | hol e' m n ss es i j k v xs h hu=>exact .hol e' m n ss es i j _ v xs h (hu.trans (congrArg some (hb1 k fun h=>hn (by simp[SO.names,h])).symm))
 have hrf: ∀{y:SO} {v:Value} {g:Nat},(rnO d e y).ba w v g↔y.ba w v g:=fun{y v g}=>by cases y<;>exact Iff.rfl
 have hkn: ∀{k x},(k,x)∈σ.o->k≠e/\e∉x.names:=fun{k x} h=>⟨fun h'=>hf (by
  subst h';exact TJ _ (TK.2 ⟨(k,x),h,TP⟩)),fun h'=>hf (TJ _ (TK.2 ⟨(k,x),h,List.mem_cons_of_mem _ h'⟩))⟩
 have ho: ∀{k x},(k,x)∈(σ.ren d e).o-> ∃k0 y,(k0,y)∈σ.o/\k=(if k0=d then e else k0)/\x=rnO d e y:=by
  intro k x h;obtain⟨⟨k',y⟩,h3,h4⟩:=TF.1 h;injection h4 with h4 h5;exact⟨k',y,h3,h4.symm,h5.symm⟩
 refine⟨S,β',hr.defers,hr.size,fun k=> ?_,hr.grew,hr.s0,hr.s1,hr.lt,fun i v hi=> ?_,fun k x hk=> ?_,fun j v hj=>⟨(hr.pin j v hj).1,fun x hx=> ?_⟩,fun k x g hk hg=> ?_,fun k x k' x' g hk hk' hg hg'=> ?_⟩
 ·simp only[β',kt];split
  ·exact hr.one d
  ·exact hr.one k
 ·obtain⟨⟨i',y⟩,h3,h4⟩:=TF.1 hi;injection h4 with h4 h5;subst h4 h5;exact⟨(hr.tmp i' y h3).1,hsv (hr.tmp i' y h3).2 fun h'=>hf (T7 _ (TK.2 ⟨(i',y),h3,h'⟩))⟩
 ·obtain⟨k0,y,h1,rfl,rfl⟩:=ho hk;rw[hb1 k0 (hkn h1).1];exact hobj (hr.obj k0 y h1) (hkn h1).2
 ·obtain⟨k0,y,h1,h2,rfl⟩:=ho hx;have hlt:=(hr.pin j v hj).1;have hlt2:=c.lt j v hj;have hk0:k0=j:=by
   split at h2
   ·omega
   ·exact h2.symm
  subst hk0;have:=hb1 k0 (hkn h1).1;rw[<-h2]at this;rw[this];exact(hr.pin k0 v hj).2 y h1
 ·obtain⟨k0,y,h1,rfl,rfl⟩:=ho hk;rw[hb1 k0 (hkn h1).1]at hg;obtain⟨h3,h4⟩:=hr.priv k0 y g h1 (hrf.1 hg);refine⟨h3,?_⟩;rcases h4 with⟨h5,h6⟩ | ⟨h5,h6⟩
  ·refine .inl ⟨?_,h6⟩;show(if k0=d then e else k0)<σ.n\/3000000<=(if k0=d then e else k0);split
   ·exact he
   ·exact h5
  ·refine .inr ?_;show σ.n<=(if k0=d then e else k0)/\c.Y (if k0=d then e else k0) g;rw[if_neg (by omega)];exact⟨h5,h6⟩
 ·obtain⟨k0,y,h1,rfl,rfl⟩:=ho hk;obtain⟨k1,y',h1',rfl,rfl⟩:=ho hk';rw[hb1 k0 (hkn h1).1]at hg;rw[hb1 k1 (hkn h1').1]at hg';rw[hr.apart k0 y k1 y' g h1 h1' (hrf.1 hg) (hrf.1 hg')]
theorem Le.ren{σ:SS}{d e:Nat}(hd:d<σ.n)(he:e<σ.n)(hf:σ.names.contains e=false):Le σ (σ.ren d e):=Le.Sz hd (.inl he) hf
def Fz(pl:List (Nat×Nat)):List SV->List (Nat×SV)->Option (List SV)
 | cells,[]=>some cells
 | cells,(i,v)::r=>match pl[i]?,v.cells with
  | some (off,size),some cs=>if cs.length=size/\off+cs.length<=cells.length then Fz pl (cells.take off++cs++cells.drop (off+cs.length)) r else none
  | _,_=>none
def yZ(tb:Tb):List (Nat×Nat)->Option (List (Nat×Nat))
 | []=>some []
 | (off,ft)::r=>match find ft tb,yZ tb r with
  | some j,some ps=>some ((off,j.size)::ps)
  | _,_=>none
def evP(σ:SS):List (Nat×Operand)->Option (List (Nat×SV))
 | []=>some []
 | (i,x)::r=>match ev σ x,evP σ r with
  | some v,some vs=>some ((i,v)::vs)
  | _,_=>none
def AW(tb:Tb)(σ:SS)(t:Nat)(ps:List (Nat×Operand)):Option SV:=match find t tb with
 | some i=>match iP i.zero,evP σ ps with
  | some _,some vs=>match i.d with
   | .struct fs=>match yZ tb fs with
    | some pl=>(Fz pl (i.zero.map .tr) vs).map .agg
    | none=>none
   | .array n e=>match find e tb with
    | some j=>(Fz ((TU n).map fun k=>(k*j.size,j.size)) (i.zero.map .tr) vs).map .agg
    | none=>none
   | _=>none
  | _,_=>none
 | none=>none
theorem LF(hone: ∀d,(β d).cells= #[β d]){place:Nat->Option (Nat×Nat)}{pl:List (Nat×Nat)}(hpl: ∀i p,pl[i]? =some p->place i=some p): ∀{vs:List (Nat×SV)} {us:List (Nat×Value)} {cells:List SV} {arr:Array Value} {out:List SV},
  Fz pl cells vs=some out->vs.length=us.length->(∀(k:Nat) x y,vs[k]? =some x->us[k]? =some y->x.1=y.1/\cT w S β x.2 y.2)->cells.length=arr.size->(∀(j:Nat) x y,cells[j]? =some x->arr[j]? =some y->cT w S β x y)->
  ∃r,Instr.fill place arr us=some r/\out.length=r.size/\ ∀(j:Nat) x y,out[j]? =some x->r[j]? =some y->cT w S β x y
 | [],[],cells,arr,out,h,_,_,hl,hc=>by
  injection h with h;subst h;exact⟨arr,rfl,hl,hc⟩
 | (i,v)::vs,(i',u)::us,cells,arr,out,h,hlen,hr,hl,hc=>by
  obtain⟨h1,h2⟩:=hr 0 (i,v) (i',u) rfl rfl;simp only at h1 h2;subst h1;unfold Fz at h;split at h
  ·rename_i off size cs hp hcs;split at h
   ·rename_i hh;obtain⟨h3,h4⟩:=hh;obtain⟨h5,h6⟩:=SV.tE hone hcs h2;have hset:=Go.Great.foldl_set off u.cells.toList 0 arr;have hz:(u.cells.zipIdx.foldl (fun cs (x:Value×Nat)=>cs.setIfInBounds (off+x.2) x.1) arr)=((u.cells.toList.zipIdx 0).foldl (fun cs (x:Value×Nat)=>cs.setIfInBounds (off+x.2) x.1) arr):=by
     rw[<-Array.foldl_toList,Array.toList_zipIdx]
    obtain⟨r,h7,h8,h9⟩:=LF hone hpl (arr:=(u.cells.toList.zipIdx 0).foldl (fun cs (x:Value×Nat)=>cs.setIfInBounds (off+x.2) x.1) arr) h (by simpa using hlen) (fun k x y hx hy=>hr (k+1) x y (by simpa using hx) (by simpa using hy)) (by
      rw[hset.1,<-hl];simp only[Tz,TQ,Ux];omega) (fun j x y hx hy=>by
      rw[hset.2 j]at hy;have hlt:(cells.take off).length=off:=by rw[TQ];omega
      by_cases hj:j<off
      ·rw[if_neg (by omega)]at hy;rw[TX,TE (by omega),T9 hj]at hx;exact hc j x y hx hy
      ·by_cases hj2:j<off+cs.length
       ·rw[if_pos ⟨by omega,by rw[TB];omega,by omega⟩]at hy;rw[TX,Ts (by omega),TE (by omega),hlt]at hx;exact h6 (j - off) x y hx (by simpa using hy)
       ·rw[if_neg (by rw[TB];omega)]at hy;rw[Ts (by rw[Tz];omega),U7,Tz,hlt,show off+cs.length+(j -(off+cs.length))=j from by omega]at hx;exact hc j x y hx hy)
    refine⟨r,?_,h8,h9⟩;unfold Instr.fill;rw[hpl i _ hp];have hcond:(u.cells.size≠size || off+u.cells.size>arr.size)=false:=by simp;omega
    simp only[hcond,Bool.false_eq_true,if_false];rw[<-h7];congr 1
   ·cases h
  ·cases h
theorem N9(hr:Rel c S β σ a w): ∀{ps:List (Nat×Operand)} {vs:List (Nat×SV)},evP σ ps=some vs->vs.length=ps.length/\ ∀(k:Nat) x y,vs[k]? =some x->(ps.map fun p=>(p.1,a.eval p.2))[k]? =some y->x.1=y.1/\cT w S β x.2 y.2
 | [],vs,h=>by injection h with h;subst h;simp
 | (i,x)::r,vs,h=>by
  unfold evP at h;split at h
  ·rename_i v vs' hv hvs;injection h with h;subst h;obtain⟨h1,h2⟩:=N9 hr hvs;refine⟨by simp[h1],fun k p q hp hq=> ?_⟩;cases k with
   | zero=>simp at hp hq;subst hp hq;exact⟨rfl,bD hr hv⟩
   | succ k=>exact h2 k p q (by simpa using hp) (by simpa using hq)
  ·cases h
theorem AA(hP:bm P tb): ∀{f:List Field} {pl:List (Nat×Nat)},yZ tb (f.map fun x=>(x.offset,x.type))=some pl->f.mapM (fun f=>(P.info? f.type).map fun i=>(f.offset,i.size))=some pl
 | [],pl,h=>by injection h with h;subst h;rfl
 | x::f,pl,h=>by
  simp only[UK,yZ]at h;split at h
  ·rename_i j ps hj hps;injection h with h;subst h;obtain⟨q,h1,h2,_⟩:=(bc hP hj).uC;rw[List.mapM_cons,h1,AA hP hps];simp[h2]
  ·cases h
theorem Nw(hP:bm P tb)(hr:Rel c S β σ a w){t:Nat}{ps:Array (Nat×Operand)}(ho:o.op= .build t ps){v:SV}(h:AW tb σ t ps.toList=some v):VOk P S β a w o v:=by
 unfold AW at h;split at h
 ·rename_i i hi;split at h
  ·rename_i zs vs hz hvs;obtain⟨q,g1,g2,g3,g4⟩:=(bc hP hi).uC;obtain⟨z,g5,g6⟩:=g4 zs hz;obtain⟨g7,g8⟩:=om (w:=w) (S:=S) hz;obtain⟨g9,g10⟩:=N9 hr hvs;have hzl:(i.zero.map SV.tr).length=z.cells.size:=by rw[List.length_map,g7,<-g6,TB]
   have hzc: ∀(j:Nat) x y,(i.zero.map SV.tr)[j]? =some x->z.cells[j]? =some y->cT w S β x y:=by
    intro j x y hx hy;rw[Tq,Tn]at hx;obtain⟨t,ht,rfl⟩:=hx;exact .tr _ _ (g8 j t y ht (by rw[<-g6];simpa using hy))
   have fin: ∀{place:Nat->Option (Nat×Nat)} {pl:List (Nat×Nat)},(∀i p,pl[i]? =some p->place i=some p)->(Fz pl (i.zero.map .tr) vs).map SV.agg=some v->(∀cells,Instr.fill place z.cells (ps.map fun p=>(p.1,a.eval p.2)).toList=some cells->P.built t (ps.map fun p=>(p.1,a.eval p.2)).toList=some cells)->VOk P S β a w o v:=by
    intro place pl hpl hf hb;rw[Tn]at hf;obtain⟨out,hf,rfl⟩:=hf;obtain⟨r,h1,h2,h3⟩:=LF (w:=w) (S:=S) hr.one hpl (us:=(ps.map fun p=>(p.1,a.eval p.2)).toList) hf (by simp[g9]) (fun k x y hx hy=>g10 k x y hx (by simpa using hy)) hzl hzc;have hrun:=run_build (P:=P) w t _ r (hb r h1);exact .mk (s:=Instr.build t (ps.map fun p=>(p.1,a.eval p.2))) (by simp only[execOp,ho]) hrun (.agg out r h2 h3)
   split at h
   ·rename_i fs hd;split at h
    ·rename_i pl hpl;obtain⟨f,hu,hm⟩:=(bc hP hi).struct hd;have hpm:=AA hP (f:=f.toList) (by rw[hm];exact hpl);refine fin (place:=(pl.toArray[·]?)) (fun i p hp=>by simpa using hp) h fun cells hc=> ?_;unfold Program.built;simp only[g1,hu,g5,hpm];exact hc
    ·cases h
   ·rename_i n e hd;split at h
    ·rename_i j hj;obtain⟨q',k1,k2,_⟩:=(bc hP hj).uC;have hu:=(bc hP hi).array hd;refine fin (place:=fun i=>some (i*q'.size,q'.size)) (fun i p hp=>by
      rw[Tq,Tn]at hp;obtain⟨k,hk,rfl⟩:=hp;have:=(Tl.1 hk).1;rw[Wb]at this;rw[Vq this]at hk;injection hk with hk;subst hk;rw[k2]) h fun cells hc=> ?_
     unfold Program.built;simp only[g1,hu,g5,k1];exact hc
    ·cases h
   ·cases h
  ·cases h
 ·cases h
theorem Bi(hP:bm P tb){t:Nat}{ps:Array (Nat×Operand)}(ho:o.op= .build t ps){ν:SS}(hgd:gd ops ν o=some true)(hok:kf ν o=true){v:SV}(h:AW tb ν t ps.toList=some v):bN P ops o ν (some (v,none)):=
 cg hgd hok fun _ _ _ _ _ hr=>Nw hP hr ho h
end
def QJ{J:Type}(σJ:J->SS)(j:J)(e:Exit)(s:SS):Prop:=e= .normal/\Le s (σJ j)
def QE{J A:Type}(σJ:J->SS)(QA:A->Exit->SS->Prop):J⊕A->Exit->SS->Prop
 | .inl j,e,s=>e= .normal/\Le s (σJ j)
 | .inr a,e,s=>e≠ .normal/\QA a e s
def QB{A:Type}(id:Nat)(QA:A->Exit->SS->Prop)(a:A):Exit->SS->Prop:=atB id (QA a)
def QF{R:Type}(P:Program)(rs:List ResultVar)(ins:List fR)(res:R->jM)(r:R)(e:Exit)(s:SS):Prop:=(e= .normal\/e= .ret)/\td P rs ins (res r) s
theorem bind_some{α β:Type}{x:Option α}{f:α->Option β}{r:β}(h:x.bind f=some r): ∃y,x=some y/\f y=some r:=Option.bind_eq_some_iff.1 h
theorem w5{α:Type}{b:Bool}{x y z:α}(hb:b=true)(h:cond b x y=z):x=z:=by subst hb;exact h
theorem w4{α:Type}{b:Bool}{x y z:α}(hb:b=false)(h:cond b x y=z):y=z:=by subst hb;exact h
section
variable {P : Program} {tb : Tb} {A J : Type} {QA : A -> Exit -> SS -> Prop} {Q : Exit -> SS -> Prop} {σ σ1 s : SS} {σJ : J -> SS} {a : A} {j : J} {e : Exit} {id i : Nat} {x y z : Code} {ops : Array Oper}
theorem q_j(h:Le s (σJ j)):QJ σJ j .normal s:=⟨rfl,h⟩
theorem q_l(h:Le s (σJ j)):QE σJ QA (.inl j) .normal s:=⟨rfl,h⟩
theorem KW(h:QA a .ret s):QE σJ QA (.inr a) .ret s:=⟨by simp,h⟩
theorem OZ(h:QA a (.exit i) s):QE σJ QA (.inr a) (.exit i) s:=⟨by simp,h⟩
theorem gi(h:QA a .normal s):QB id QA a .normal s:=h
theorem Nc(h:QA a .ret s):QB id QA a .ret s:=h
theorem Jf(h:QA a .normal s):QB id QA a (.exit id) s:=by
 unfold QB atB;simpa using h
theorem Td(hi:(i==id)=false)(h:QA a (.exit i) s):QB id QA a (.exit i) s:=by
 unfold QB atB;simp only[beq_eq_false_iff_ne,ne_eq]at hi;simpa [hi]using h
theorem Sy{R:Type}{rs:List ResultVar}{ins:List fR}{res:R->jM}{r:R}(h:td P rs ins (res r) s):QF P rs ins res r .ret s:=⟨.inr rfl,h⟩
theorem Sx{R:Type}{rs:List ResultVar}{ins:List fR}{res:R->jM}{r:R}(h:td P rs ins (res r) s):QF P rs ins res r .normal s:=⟨.inl rfl,h⟩
theorem aq{k:SS->Prop}(h:k s):nx k Q .normal s:=h
theorem I9{k:SS->Prop}(h:Q .ret s):nx k Q .ret s:=h
theorem I8{k:SS->Prop}(h:Q (.exit i) s):nx k Q (.exit i) s:=h
theorem ah(h:swp P x (QB id QA a) σ):swp P (.block id x) (QA a) σ:=Nq h
theorem aL(h:aj P ops ops.toList (fun s=>Q .normal s) σ):swp P (.region id ops false) Q σ:=xJ h fun _ h=>h
theorem bf(hm:P.follows .mixedOrders=true)(h:bI P ops [] σ (fun s=>Q .normal s) [] σ ops.toList):swp P (.region id ops true) Q σ:=AU hm [] h fun _ h=>h
theorem qE(D:List Nat)(hm:P.follows .mixedOrders=true)(h:bI P ops D σ (fun s=>Q .normal s) [] σ ops.toList):swp P (.region id ops true) Q σ:=AU hm D h fun _ h=>h
theorem Eg{m:Option J}{B:Type}{k:J->Option B}{r:B}(h:m.bind k=some r)(σJ:J->SS)(h1: ∀v,m=some v->aj P ops ops.toList (fun s=>Le s (σJ v)) σ)(h2: ∀v,k v=some r->swp P y Q (σJ v)):swp P (.region id ops false) (nx (swp P y Q) Q) σ:=by
 obtain⟨v,hv,hk⟩:=bind_some h;exact xJ (h1 v hv) fun s hs=>dw hs (h2 v hk)
theorem cF(σ1:SS)(h1:aj P ops ops.toList (fun s=>Le s σ1) σ)(h2:swp P y Q σ1):swp P (.region id ops false) (nx (swp P y Q) Q) σ:=xJ h1 fun _s hs=>dw hs h2
theorem sI(hm:P.follows .mixedOrders=true){m:Option J}{B:Type}{k:J->Option B}{r:B}(h:m.bind k=some r)(σJ:J->SS)(h1: ∀v,m=some v->bI P ops [] σ (fun s=>Le s (σJ v)) [] σ ops.toList)(h2: ∀v,k v=some r->swp P y Q (σJ v)):swp P (.region id ops true) (nx (swp P y Q) Q) σ:=by
 obtain⟨v,hv,hk⟩:=bind_some h;exact AU hm [] (h1 v hv) fun s hs=>dw hs (h2 v hk)
theorem oj{m:Option J}{B:Type}{k:J->Option B}{r:B}(h:m.bind k=some r)(σJ:J->SS)(h1: ∀v,m=some v->swp P x (QJ σJ v) σ)(h2: ∀v,k v=some r->swp P y Q (σJ v)):swp P x (nx (swp P y Q) Q) σ:=by
 obtain⟨v,hv,hk⟩:=bind_some h;exact rI (h1 v hv) fun e s ⟨he,hs⟩=>by subst he;exact dw hs (h2 v hk)
theorem zB{m:Option (J⊕A)}{k:J->Option A}{r:A}(h:m.bind (TC k some)=some r)(σJ:J->SS)(h1: ∀v,m=some v->swp P x (QE σJ QA v) σ)(h2: ∀v,k v=some r->swp P y (QA r) (σJ v)):swp P x (nx (swp P y (QA r)) (QA r)) σ:=by
 obtain⟨v,hv,hk⟩:=bind_some h;cases v with
 | inl j=>
  exact rI (h1 _ hv) fun e s ⟨he,hs⟩=>by subst he;exact dw hs (h2 j hk)
 | inr r'=>
  injection hk with hk;subst hk;refine rI (h1 _ hv) fun e s ⟨he,hs⟩=> ?_;cases e with
  | normal=>exact absurd rfl he
  | _=>exact hs
theorem RY{α:Type}(body:α->Option (α⊕A))(st:α->SS)(QA:A->Exit->SS->Prop){s:α}{r:A}(h:loop body s=some r)(hb: ∀s x,body s=some x->swp P y (QE st QA x) (st s)):swp P (.loop y) (QA r) (st s):=
 Pn body st QA (fun s x hx=>by
  have:=hb s x hx;cases x<;>exact this) h
theorem zA{α:Type}(body:α->Option (α⊕A))(st:α->SS)(QA:A->Exit->SS->Prop){s:α}{r:A}(hl:Le σ (st s))(h:loop body s=some r)(hb: ∀s x,body s=some x->swp P y (QE st QA x) (st s)):swp P (.loop y) (QA r) σ:=
 dw hl (RY body st QA h hb)
theorem aj.split{todo:List Oper}(b:Bool)(σf:Bool->SS)(Qf:Bool->SS->Prop)(p:Bool->Prop)(h:p b)(h1:p true->aj P ops todo (Qf true) (σf true))(h2:p false->aj P ops todo (Qf false) (σf false)):aj P ops todo (Qf b) (σf b):=by
 cases b
 ·exact h2 h
 ·exact h1 h
theorem G5{f:FuncId}{fn:Func}{code:Code}(hf:P.funcs[f]? =some fn)(hb:fn.body=some code)(rs:List ResultVar)(hr:fn.results=rs.toArray){ins:List fR}(hn:Uv ins.length fn.ntmps=true)(hnn:Uv fn.ntmps 1000000=true)(hnm:yr ins=[]){R:Type}(res:R->jM){r:R}(harg:(res r).outs.all (NN ins)=true)
  (h:swp P code (QF P rs ins res r) (Sh.start fn.ntmps ins)):eG P f ins (res r):=Jq hf hb rs hr (by simpa using hn) (by simpa using hnn) hnm harg h
def xY(tb:Tb)(ops:Array Oper)(k0 D:List Nat)(ch:Bool)(n:Nat)(done:List (Oper×EV))(σ:SS)(todo:List Oper):List (Oper×EV):=match oF tb ops k0 D ch n done σ todo with
 | some (d,_)=>d
 | none=>done
def oh{α:Type}(k:List Nat)(l:List (Nat×α)):List (Nat×α):=k.filterMap fun i=>(find i l).map fun v=>(i,v)
theorem js{α:Type}{k:List Nat}{l:List (Nat×α)}{p:Nat×α}(h:p∈oh k l):p∈l:=by
 obtain⟨i,_,h2⟩:=List.mem_filterMap.1 h;rw[Tn]at h2;obtain⟨v,h3,rfl⟩:=h2;exact aJ h3
theorem Le.km{σ:SS}(t:List (Nat×SV))(o:List (Nat×SO))(ht:oh (t.map (·.1)) σ.t=t)(ho:oh (o.map (·.1)) σ.o=o):Le σ ⟨σ.n,t,o⟩:=Le.sub rfl (fun p hp=>js (k:=t.map (·.1)) (by rw[ht];exact hp)) fun p hp=>js (k:=o.map (·.1)) (by rw[ho];exact hp)
def sg(x y:Int):Int:=if y<x then y else x
def M1(x y:Int):Int:=if y>x then y else x
theorem Le.Tf{σ:SS}{d e:Nat}(hd:T8 d σ.n=true)(he:T8 e σ.n=true)(hf:σ.names.contains e=false):Le σ (σ.ren d e):=Le.ren (by simpa using hd) (by simpa using he) hf
theorem Le.jP{σ:SS}{d e m n:Nat}{es:List (List Tr)}(hd:T8 d σ.n=true)(hf:find d σ.o=some (.arr e m n es)):Le σ (σ.frz d n es):=Le.frz (by simpa using hd) hf
theorem GA(hP:bm P tb){o:Oper}{t:Nat}{x y:Operand}(ho:o.op= .store t x y)(hdst:o.dst=none)(hgd:gd ops σ o=some true){ti:TI}{d k:Nat}{cs vs:List SV}{v:SV}(ht:find t tb=some ti)(hx:ev σ x=some (.ref d k))(hob:find d σ.o=some (.box cs))
  (hy:ev σ y=some v) (hc:v.cells=some vs) (hone:vs.all (tD σ)=true) (hl:vs.length=ti.size) (hk:Uv (k+vs.length) cs.length=true):
  af P ops o σ {σ with o:=(d,.box (cs.take k++vs++cs.drop (k+vs.length)))::σ.o.filter (fun p=>p.1 !=d)}:=A8 hP ho hdst hgd ht hx hob hy hc hone hl (by simpa using hk)
def noO:List fR->Bool
 | []=>true
 | .v _::r=>noO r
 | .o _::_=>false
theorem DF: ∀{ins:List fR},noO ins=true-> ∀(j:Nat) x,ins[j]? =some (fR.o x)->False
 | [],_,j,x,h=>by simp at h
 | .v _::r,hn,0,x,h=>by simp at h
 | .v _::r,hn,j+1,x,h=>DF (ins:=r) hn j x (by simpa using h)
 | .o _::r,hn,_,_,_=>by cases hn
theorem S5{ins:List fR}(hn:noO ins=true){dep:Bool}:td P [] ins ⟨[],[],dep⟩ s:=
 ⟨rfl,fun i t r h=>by simp at h,fun j x h=>by simp at h,fun j x h=>(DF hn j x h).elim⟩
theorem Sg{ins:List fR}(hn:noO ins=true){dep:Bool}{t:ResultVar}{r:SR}(h:l7 P s dep t r):td P [t] ins ⟨[r],[],dep⟩ s:=
 ⟨rfl,fun i t' r' h1 h2=>by
  cases i with
  | zero=>simp at h1 h2;subst h1 h2;exact h
  | succ i=>simp at h1,fun j x h=>by simp at h,fun j x h=>(DF hn j x h).elim⟩
theorem S6{ins:List fR}(hn:noO ins=true){dep:Bool}{t u:ResultVar}{r q:SR}(h:l7 P s dep t r)(k:l7 P s dep u q):td P [t,u] ins ⟨[r,q],[],dep⟩ s:=
 ⟨rfl,fun i t' r' h1 h2=>by
  match i with
  | 0=>simp at h1 h2;subst h1 h2;exact h
  | 1=>simp at h1 h2;subst h1 h2;exact k
  | i+2=>simp at h1,fun j x h=>by simp at h,fun j x h=>(DF hn j x h).elim⟩
theorem S7{ins:List fR}(hn:noO ins=true){dep:Bool}{t u v:ResultVar}{r q p:SR}(h:l7 P s dep t r)(k:l7 P s dep u q)(l:l7 P s dep v p):td P [t,u,v] ins ⟨[r,q,p],[],dep⟩ s:=
 ⟨rfl,fun i t' r' h1 h2=>by
  match i with
  | 0=>simp at h1 h2;subst h1 h2;exact h
  | 1=>simp at h1 h2;subst h1 h2;exact k
  | 2=>simp at h1 h2;subst h1 h2;exact l
  | i+3=>simp at h1,fun j x h=>by simp at h,fun j x h=>(DF hn j x h).elim⟩
theorem qg{t:Nat}{x:SV}(h:find t s.t=some x):Holds P s x (.tmp t):=aJ h
theorem GI(hP:bm P tb){t T d:Nat}{x:SV}{cs:List SV}{ti:TI}(ht:find T tb=some ti)(h:find t s.t=some (.ref d 0))(ho:find d s.o=some (.box cs))(hl:ldc ti cs 0=some x):Holds P s x (.cell t T):=⟨d,cs,ti,aJ h,aJ ho,bc hP ht,hl⟩
theorem Sl{t:ResultVar}{x:SV}(hn:x.names=[])(hf:x.Flat)(h:Holds P s x t){dep:Bool}:l7 P s dep t (.v x):=⟨hn,.inr hf,h⟩
theorem Sk{t:ResultVar}{x:SV}(hn:x.names=[])(h:Holds P s x t):l7 P s true t (.v x):=⟨hn,.inl rfl,h⟩
theorem S9{t:ResultVar}{d e m n:Nat}{es:List (List Tr)}(h:Holds P s (.own d) t)(ho:find d s.o=some (.arr e m n es))(hf:tA es)(hd:T8 d s.n=true){dep:Bool}:l7 P s dep t (.own e m n es):=⟨d,h,aJ ho,.inr hf,by simpa using hd⟩
theorem Sj{t:ResultVar}{d e m n:Nat}{es:List (List Tr)}(h:Holds P s (.own d) t)(ho:find d s.o=some (.arr e m n es))(hd:T8 d s.n=true):l7 P s true t (.own e m n es):=⟨d,h,aJ ho,.inl rfl,by simpa using hd⟩
theorem dd{α:Type}{f:α->List Tr}(hf: ∀x,∀t∈f x,t.flat=true)(L:List α):tA (L.map f):=fun x hx t ht=>by
 obtain⟨y,_,rfl⟩:=TF.1 hx;exact hf y t ht
def eI(k:IntKind)(x:Int):List Tr:=[.int k x]
def eB(x:Bool):List Tr:=[.bool x]
def eS(x:ByteArray):List Tr:=[.str x]
def eL{α:Type}(f:α->List Tr)(x:List α):List Tr:=[.sl x.length (x.map f)]
theorem Gt(x:ByteArray): ∀t∈eS x,t.flat=true:=by simp[eS,Tr.flat]
def ap(n:Int):Int:=IntKind.i64.wrap n
def at'{α:Type}(L:List α)(i:Int):Option α:=if 0<=i then L[i.toNat]? else none
theorem qb{α:Type}{L:List α}{i:Int}{x:α}(h:at' L i=some x):0<=i/\L[i.toNat]? =some x:=by
 unfold at' at h;split at h
 ·exact⟨by assumption,h⟩
 ·cases h
theorem Cu{α:Type}{L:List α}{i:Nat}{x:α}(f:α->List Tr)(h:L[i]? =some x):(L.map f)[i]? =some (f x):=by rw[Tq,h];rfl
def bW{α:Type}(L M:List α):Option (List α):=if L.length+M.length<=68719476736 then some (L++M)else none
theorem HC{α:Type}{L M R:List α}(h:bW L M=some R):L.length+M.length<=68719476736/\R=L++M:=by
 unfold bW at h;split at h
 ·injection h with h;exact⟨by assumption,h.symm⟩
 ·cases h
def bV(s r:ByteArray):Option ByteArray:=if s.size+r.size<=9223372036854775807 then some (s++r)else none
theorem NU{s r q:ByteArray}(h:bV s r=some q):s.size+r.size<=9223372036854775807/\q=s++r:=by
 unfold bV at h;split at h
 ·injection h with h;exact⟨by assumption,h.symm⟩
 ·cases h
def cQ(s:ByteArray)(i:Int):Option Int:=if 0<=i then(s[i.toNat]?).map fun b=>(b.toNat:Int)else none
theorem Mh{s:ByteArray}{i x:Int}(h:cQ s i=some x):0<=i/\ ∃b:UInt8,s[i.toNat]? =some b/\x=b.toNat:=by
 unfold cQ at h;split at h
 ·rw[Tn]at h;obtain⟨b,h1,h2⟩:=h;exact⟨by assumption,b,h1,h2.symm⟩
 ·cases h
def fE{α:Type}(L:List α)(l h:Int):Option (List α):=if 0<=l/\l<=h/\h<=L.length then some ((L.drop l.toNat).take (h.toNat - l.toNat))else none
theorem vQ{α:Type}{L R:List α}{l h:Int}(hp:fE L l h=some R):0<=l/\l<=h/\h<=L.length/\R=(L.drop l.toNat).take (h.toNat - l.toNat):=by
 unfold fE at hp;split at hp
 ·rename_i hh;injection hp with hp;exact⟨hh.1,hh.2.1,hh.2.2,hp.symm⟩
 ·cases hp
def km(s:ByteArray)(l h:Int):Option ByteArray:=if 0<=l/\l<=h/\h<=s.size then some (s.extract l.toNat h.toNat)else none
theorem Pk{s r:ByteArray}{l h:Int}(hp:km s l h=some r):0<=l/\l<=h/\h<=s.size/\r=s.extract l.toNat h.toNat:=by
 unfold km at hp;split at hp
 ·rename_i hh;injection hp with hp;exact⟨hh.1,hh.2.1,hh.2.2,hp.symm⟩
 ·cases hp
def yH{α:Type}(z:α)(n:Int):Option (List α):=if 0<=n/\n<=68719476736 then some (List.replicate n.toNat z)else none
end
section
variable {P : Program} {tb : Tb} {ops : Array Oper} {o : Oper} {ν σ : SS} {α : Type} {f : α -> List Tr}
theorem Q1{L:List α}{i:Int}{x:α}(hP:bm P tb){t:Nat}{p q:Operand}(ho:o.op= .indexAddr t p q)(hgd:gd ops ν o=some true)(hok:kf ν o=true){e:Nat}{k:IntKind}{ti tj:TI}
  (ht:find t tb=some ti) (hd:ti.d= .slice e) (he:find e tb=some tj) (hx:ev ν p=some (.tr (.sl L.length (L.map f)))) (hy:ev ν q=some (.tr (.int k i))) (h:at' L i=some x) (hl:(f x).length=tj.size):
  bN P ops o ν (some (.ptr ((f x).map .tr) 0,none)):=I0 hP ho hgd hok ht hd he hx hy (qb h).1 (Cu f (qb h).2) hl
theorem Br{L:List α}{i:Int}{x:α}(hP:bm P tb){t:Nat}{p q:Operand}(ho:o.op= .indexAddr t p q)(hgd:gd ops ν o=some true)(hok:kf ν o=true){e e' d m:Nat}{k:IntKind}{ti tj:TI}
  (ht:find t tb=some ti) (hd:ti.d= .slice e) (he:find e tb=some tj) (hx:ev ν p=some (.own d)) (hob:find d ν.o=some (.arr e' m L.length (L.map f))) (hy:ev ν q=some (.tr (.int k i))) (h:at' L i=some x) (hl:m=tj.size):
  bN P ops o ν (some (.eref d m i.toNat 0,none)):=BS hP ho hgd hok ht hd he hx hob hy (qb h).1 (by
   have h1:=qb h;have h2:=(Tl.1 h1.2).1;omega) hl
theorem Eh{L:List α}{i:Int}{x:α}(hP:bm P tb){t:Nat}{p:Operand}(ho:o.op= .load t p)(hgd:gd ops ν o=some true)(hok:kf ν o=true){e d m j:Nat}{ti:TI}{v:SV}
  (ht:find t tb=some ti) (hx:ev ν p=some (.eref d m i.toNat j)) (hob:find d ν.o=some (.arr e m L.length (L.map f))) (h:at' L i=some x) (hl:ldc ti ((f x).map .tr) j=some v):bN P ops o ν (some (v,none)):=
 Dy hP ho hgd hok ht hx hob (Cu f (qb h).2) hl
theorem Bt{L:List α}{i:Int}{z x:α}(hP:bm P tb){t:Nat}{p q:Operand}(ho:o.op= .store t p q)(hdst:o.dst=none)(hgd:gd ops σ o=some true){ti:TI}{d e m j:Nat}{ts:List Tr}{v:SV}{vs:List SV}(ht:find t tb=some ti)(hx:ev σ p=some (.eref d m i.toNat j))(hob:find d σ.o=some (.arr e m L.length (L.map f)))
  (hy:ev σ q=some v) (hc:v.cells=some vs) (hts:trs vs=some ts) (hl:ts.length=ti.size) (h:at' L i=some z) (hk:Uv (j+ts.length) (f z).length=true) (hes:(f z).take j++ts++(f z).drop (j+ts.length)=f x):
  af P ops o σ {σ with o:=(d,.arr e m (L.set i.toNat x).length ((L.set i.toNat x).map f))::σ.o.filter (fun p=>p.1 !=d)}:=by
 rw[VN];refine Bz hP ho hdst hgd ht hx hob hy hc hts hl (Cu f (qb h).2) (by simpa using hk) ?_;rw[hes,List.map_set]
theorem JC{L M R:List α}(h:bW L M=some R)(hP:bm P tb){p q:Operand}{t:Nat}{args:Array Operand}{ts:Array TypeId}(ho:o.op= .call {callee:= .builtin .append,args:=args,argTypes:=ts})(hargs:args= #[p,q])(hts:ts= #[t,t]){d0:Nat}(hdst:o.dst=some d0)(hd0:T8 d0 σ.n=true)(hgd:gd ops σ o=some true)
  {ti tj:TI} {zs:List Value} {e m d:Nat} {xv:SV} (ht:find t tb=some ti) (hti:ti.d= .slice e) (he:find e tb=some tj) (hz:iP tj.zero=some zs) (hzl:tj.zero.length=tj.size) (hpos:T8 0 tj.size=true) (hm:m=tj.size) (hby:Uv tj.bytes 2048=true)
  (hs:ev σ p=some (.own d)) (hdn:T8 d σ.n=true) (hob:find d σ.o=some (.arr e m L.length (L.map f))) (hx:ev σ q=some xv) (hsrc:K8 σ m xv M.length (M.map f)) (hf:(σ.kill d).names.contains d0=false):
  af P ops o σ ((σ.kill d).add d0 (.own d0) (.arr e m R.length (R.map f))):=by
 obtain⟨h1,rfl⟩:=HC h;rw[Tz,List.map_append];exact Gz hP ho hargs hts hdst (by simpa using hd0) hgd ht hti he hz hzl (by simpa using hpos) hm (by simpa using hby) hs (by simpa using hdn) hob hx hsrc h1 rfl (by simpa using hf)
theorem L9{m:Nat}{L R:List α}{l h:Int}(hp:fE L l h=some R)(hm: ∀x,(f x).length=m)(hP:bm P tb){t:Nat}{p:Operand}{lo hi:Option Operand}(ho:o.op= .slice t p lo hi none)(hgd:gd ops ν o=some true)(hok:kf ν o=true){e:Nat}{ti tj:TI}
  (ht:find t tb=some ti) (hd:ti.d= .slice e) (he:find e tb=some tj) (hsz:m=tj.size) (hx:ev ν p=some (.tr (.sl L.length (L.map f)))) (hlo:sW ν lo=some l) (hhi:ot ν L.length hi=some h):bN P ops o ν (some (.tr (.sl R.length (R.map f)),none)):=by
 obtain⟨h1,h2,h3,rfl⟩:=vQ hp;refine I1 hP ho hgd hok ht hd he hx hlo hhi h1 h2 h3 (by rw[List.map_take,List.map_drop]) (fun e he=> ?_) (by rw[TQ,Ux];omega);obtain⟨x,_,rfl⟩:=TF.1 he;rw[hm,hsz]
theorem SF{s r:ByteArray}{l h:Int}(hp:km s l h=some r)(hP:bm P tb){t:Nat}{p:Operand}{lo hi:Option Operand}(ho:o.op= .slice t p lo hi none)(hgd:gd ops ν o=some true)(hok:kf ν o=true){ti:TI}
  (ht:find t tb=some ti) (hd:ti.d= .str) (hx:ev ν p=some (.tr (.str s))) (hlo:sW ν lo=some l) (hhi:ot ν s.size hi=some h):bN P ops o ν (some (.tr (.str r),none)):=by
 obtain⟨h1,h2,h3,rfl⟩:=Pk hp;exact BU hP ho hgd hok ht hd hx hlo hhi h1 h2 h3
theorem RZ{s:ByteArray}{i x:Int}(h:cQ s i=some x)(hP:bm P tb){t:Nat}{p q:Operand}(ho:o.op= .index t p q)(hgd:gd ops ν o=some true)(hok:kf ν o=true){k:IntKind}{ti:TI}
  (ht:find t tb=some ti) (hd:ti.d= .str) (hx:ev ν p=some (.tr (.str s))) (hy:ev ν q=some (.tr (.int k i))):bN P ops o ν (some (.tr (.int .u8 x),none)):=by
 obtain⟨h1,b,h2,rfl⟩:=Mh h;exact BT hP ho hgd hok ht hd hx hy h1 h2
theorem SE{s r q:ByteArray}(h:bV s r=some q){t t':Nat}{x y:Operand}(ho:o.op= .binOp .add t x y t')(hgd:gd ops ν o=some true)(hok:kf ν o=true)(hx:ev ν x=some (.tr (.str s)))(hy:ev ν y=some (.tr (.str r))):bN P ops o ν (some (.tr (.str q),none)):=by
 obtain⟨h1,rfl⟩:=NU h;exact GV ho hgd hok hx hy h1
theorem R0{m:Nat}{z:α}{n:Int}{R:List α}(h:yH z n=some R)(hP:bm P tb){t:Nat}{x y:Operand}{d:Nat}(ho:o.op= .makeSlice t x y)(hdst:o.dst=some d)(hgd:gd ops ν o=some true)(hok:kf ν o=true){e:Nat}{k k':IntKind}{ti tj:TI}{zs:List Value}
  (ht:find t tb=some ti) (hd:ti.d= .slice e) (he:find e tb=some tj) (hz:iP tj.zero=some zs) (hzl:tj.zero.length=tj.size) (hpos:T8 0 tj.size=true) (hx:ev ν x=some (.tr (.int k n))) (hy:ev ν y=some (.tr (.int k' n))) (hby:Uv tj.bytes 2048=true) (hfz:f z=tj.zero) (hm:m=tj.size):
  bN P ops o ν (some (.own d,some (.arr e m R.length (R.map f)))):=by
 unfold yH at h;split at h
 ·rename_i hh;injection h with h;subst h;subst hm;obtain⟨n',rfl⟩:=Int.eq_ofNat_of_zero_le hh.1;have:=KP hP ho hdst hgd hok ht hd he hz hzl (by simpa using hpos) hx hy (by omega) (by simpa using hby);rw[List.length_replicate,List.map_replicate,hfz];exact this
 ·cases h
end
def Mv:SV->SV->Option Bool
 | .tr (.int k a),.tr (.int k' b)=>if k=k' then some (a==b)else none
 | .tr (.bool a),.tr (.bool b)=>some (a==b)
 | .tr (.str a),.tr (.str b)=>some (a.toList==b.toList)
 | _,_=>none
def Qm(tb:Tb)(rec:Nat->SV->SV->Option Bool)(xs ys:List SV):List (Nat×Nat)->Option Bool
 | []=>some true
 | (off,t)::fs=>match find t tb with
  | none=>none
  | some ti=>match ldc ti xs off,ldc ti ys off with
   | some a,some b=>match rec t a b,fs with
    | some p,[]=>some p
    | some p,f::fs=>(Qm tb rec xs ys (f::fs)).map (p&& ·)
    | _,_=>none
   | _,_=>none
def eqS(tb:Tb):Nat->Nat->SV->SV->Option Bool
 | 0,_,_,_=>none
 | d+1,t,x,y=>match find t tb with
  | none=>none
  | some ti=>match ti.d,x,y with
   | .struct fs,.agg xs,.agg ys=>Qm tb (eqS tb d) xs ys fs
   | .int _,.tr (.int k a),.tr (.int k' b)=>Mv (.tr (.int k a)) (.tr (.int k' b))
   | .bool,.tr (.bool a),.tr (.bool b)=>Mv (.tr (.bool a)) (.tr (.bool b))
   | .str,.tr (.str a),.tr (.str b)=>Mv (.tr (.str a)) (.tr (.str b))
   | _,_,_=>none
def HY(P:Program):Nat->TypeId->Bool
 | 0,_=>false
 | d+1,t=>match P.underlying t with
  | some (.struct fs)=> !P.stoodInHeld t&&fs.toList.all fun f=>(f.name != "_")&&HY P d f.type
  | _=>true
section
variable {P : Program} {tb : Tb} {ops : Array Oper} {o : Oper} {c : Cx} {S : Nat -> Prop} {β : Nat -> Value} {ν σ : SS} {a : Act} {w : World}
theorem LA(hP:bm P tb){d n:Nat}{rec:Nat->SV->SV->Option Bool}(ih: ∀t x y b u v,rec t x y=some b->cT w S β x u->cT w S β y v->HY P d t=true->(Op.equalIn n t u v).run P w= .ok b w)
  {xs ys:List SV} {us vs:Array Value} (hl:xs.length=us.size) (hu: ∀(j:Nat) x y,xs[j]? =some x->us[j]? =some y->cT w S β x y) (hl':ys.length=vs.size) (hv: ∀(j:Nat) x y,ys[j]? =some x->vs[j]? =some y->cT w S β x y):
  ∀(fs:List Field) b,Qm tb rec xs ys (fs.map fun x=>(x.offset,x.type))=some b->(fs.all fun f=>(f.name != "_")&&HY P d f.type)=true->(Op.eqFields n us vs fs).run P w= .ok b w
 | [],b,h,_=>by
  injection h with h;subst h;simp[Op.eqFields]
 | f::fs,b,h,ha=>by
  simp only[List.all_cons,Tp,bne_iff_ne,ne_eq]at ha;simp only[UK,Qm]at h;split at h
  ·cases h
  ·rename_i ti hti;split at h
   ·rename_i a b' h1 h2;obtain⟨r1,h3,h4⟩:=Co (bc hP hti) hl hu h1;obtain⟨r2,h5,h6⟩:=Co (bc hP hti) hl' hv h2;split at h
    ·rename_i p hp hfs;injection h with h;subst h;have h7:=ih _ _ _ _ _ _ hp h4 h6 ha.1.2;have:fs=[]:=by simpa using hfs
     subst this;simp only[Op.eqFields,ne_eq,ha.1.1,not_false_eq_true,if_true,Sem.run_bind,h3,h5,h7,Result.andThen_ok];cases p<;>simp
    ·rename_i p g gs hp hfs;rw[Tn]at h;obtain⟨q,hq,rfl⟩:=h;have h7:=ih _ _ _ _ _ _ hp h4 h6 ha.1.2;rw[<-hfs]at hq;have h8:=LA hP ih hl hu hl' hv fs q hq ha.2;simp only[Op.eqFields,ne_eq,ha.1.1,not_false_eq_true,if_true,Sem.run_bind,h3,h5,h7,Result.andThen_ok];cases p
     ·simp
     ·simpa using h8
    ·cases h
   ·cases h
theorem N8(hP:bm P tb): ∀(d t:Nat) (x y:SV) (b:Bool) (u v:Value),eqS tb d t x y=some b->cT w S β x u->cT w S β y v->HY P d t=true-> ∀n,d<=n->(Op.equalIn n t u v).run P w= .ok b w
 | 0,t,x,y,b,u,v,h,_,_,_=>by cases h
 | d+1,t,x,y,b,u,v,h,hx,hy,ho=>by
  intro n hn;obtain⟨n,rfl⟩: ∃m,n=m+1:=⟨n - 1,by omega⟩;simp only[eqS]at h;split at h
  ·cases h
  ·rename_i ti hti;have hti':=bc hP hti;split at h
   ·rename_i fs xs ys hd;obtain⟨f,hu,hm⟩:=hti'.struct hd;cases hx with
    | agg _ us hl hus=>
    cases hy with
    | agg _ vs hl' hvs=>
     have hf:P.fieldsOf t=f:=by unfold Program.fieldsOf;rw[hu]
     have hst:P.stoodInHeld t=false/\(f.toList.all fun f=>(f.name != "_")&&HY P d f.type)=true:=by
      simp only[HY,hu,Tp,Un]at ho;exact ho
     rw[run_equalIn_struct w n t us vs (by rw[hf];exact hu) hst.1,hf];exact LA hP (d:=d) (fun t x y b u v h1 h2 h3 h4=>N8 hP d t x y b u v h1 h2 h3 h4 n (by omega)) hl hus hl' hvs f.toList b (by rw[hm];exact h) hst.2
   ·rename_i k0 k a k' b' hd;simp only[Mv]at h;split at h
    ·rename_i hk;subst hk;injection h with h;subst h;cases hx with | tr _ _ hx=>cases hx with | int=>
     cases hy with | tr _ _ hy=>cases hy with | int=>
     have:=hti'.d;rw[hd]at this;exact run_equalIn_int w n t k k0 a b' this
    ·cases h
   ·rename_i a b' hd;simp only[Mv]at h;injection h with h;subst h;cases hx with | tr _ _ hx=>cases hx with | bool=>
    cases hy with | tr _ _ hy=>cases hy with | bool=>
    have:=hti'.d;rw[hd]at this;exact run_equalIn_bool w n t a b' this
   ·rename_i a b' hd;simp only[Mv]at h;injection h with h;subst h;cases hx with | tr _ _ hx=>cases hx with | str=>
    cases hy with | tr _ _ hy=>cases hy with | str=>
    exact run_equalIn_string w n t a b' (hti'.str hd)
   ·cases h
theorem Oy(hP:bm P tb){t t':Nat}{x y:Operand}(neg:Bool)(ho:o.op= .binOp (cond neg .neq .eql) t x y t')(hgd:gd ops ν o=some true)(hok:kf ν o=true){xs ys:List SV}{b:Bool}(hx:ev ν x=some (.agg xs))(hy:ev ν y=some (.agg ys))
  (he:eqS tb 8 t (.agg xs) (.agg ys)=some b) (hq:HY P 8 t=true) (hm:P.eqGuardType P.depth t=false):bN P ops o ν (some (.tr (.bool (cond neg (!b) b)),none)):=by
 refine cg hgd hok fun c S β a w hr=> ?_;have hv:=bD hr hx;have hw:=bD hr hy;have h1:=N8 hP 8 t _ _ b _ _ he hv hw hq 10000 (by omega);generalize hy1:a.eval x=y1 at hv h1;generalize hy2:a.eval y=y2 at hw h1;cases hv with
 | agg _ us _ _=>
 cases hw with
 | agg _ vs _ _=>
  refine .mk (s:=(do eqGuard (cond neg .neq .eql) t x y (a.eval x) (a.eval y);binOp (cond neg .neq .eql) t (a.eval x) (a.eval y):Sem Value)) (u:= .bool (cond neg (!b) b)) (by simp only[execOp,ho]) ?_ (.tr _ _ (.bool _));rw[hy1,hy2,Sem.run_bind,run_eqGuard_agg w _ t x y us vs hm,Result.andThen_ok];cases neg
  ·simp only[cond_false];rw[run_eql_struct,h1];rfl
  ·simp only[cond_true];rw[run_neq_struct,h1];rfl
theorem dead{α:Type}{r:α}{p:Prop}(h:(none:Option α)=some r):p:=by cases h
end
section
variable {P : Program} {tb : Tb} {ops : Array Oper} {o : Oper} {c : Cx} {S : Nat -> Prop} {β : Nat -> Value} {ν σ : SS} {a : Act} {w : World}
theorem Rel.Pv(hr:Rel c S β σ a w){d:Nat}{x x':SO}(hd:(d,x)∈σ.o){w':World}(hg:dA (fun k=>x.ba w (β d) k) w w'){S':Nat->Prop}(h1: ∀b,S' b->S b\/w.heap.size<=b)(h2: ∀b,S' b->b<w'.heap.size)
  (hx:cP w' (fun b=>S b\/S' b) β x' (β d)) (hft: ∀g',x'.ba w' (β d) g'->x.ba w (β d) g'):Rel c (fun b=>S b\/S' b) β {σ with o:=(d,x')::σ.o.filter (fun p=>p.1 !=d)} a w':=by
 have hS: ∀b,S b->w'.heap[b]? =w.heap[b]? :=fun b hb=>hg.block b (hr.lt b hb) fun e=>(hr.priv d x b hd e).1 hb;have hmem: ∀{k y},(k,y)∈(d,x')::σ.o.filter (fun p=>p.1 !=d)->(k=d/\y=x')\/((k,y)∈σ.o/\k≠d):=by
  intro k y h;rcases Tx.1 h with h | h
  ·injection h with h1 h2;exact .inl ⟨h1,h2⟩
  ·have h2:=Tu.1 h;exact .inr ⟨h2.1,by simpa using h2.2⟩
 have hnew: ∀k y g,(k,y)∈σ.o->y.ba w (β k) g-> ¬(S g\/S' g):=fun k y g hk hgb hc=>by
  have hlt:=(hr.obj k y hk).lt hgb;rcases hc with hc | hc
  ·exact(hr.priv k y g hk hgb).1 hc
  ·rcases h1 g hc with h | h
   ·exact(hr.priv k y g hk hgb).1 h
   ·omega
 have hfo: ∀{k y},(k,y)∈σ.o->k≠d-> ∀b,y.ba w (β k) b->w'.heap[b]? =w.heap[b]? :=fun{k y} h3 h4 b hb=>hg.block b ((hr.obj k y h3).lt hb) fun e=>h4 (hr.apart k y d x b h3 hd hb e);have hff: ∀{k y},(k,y)∈σ.o->k≠d-> ∀{b},y.ba w' (β k) b->y.ba w (β k) b:=fun{k y} h3 h4 {b} hb=>((hr.obj k y h3).ba (hfo h3 h4)).1 hb;refine⟨hr.defers,hr.size,hr.one,hr.grew.of hg (fun k hk hlt=> ?_),fun b hb=> .inl (hr.s0 b hb),fun b hb=> ?_,fun b hb=>hb.elim (fun h=>Ud (hr.lt b h) hg.size) (h2 b),fun i y hi=>⟨(hr.tmp i y hi).1,(hr.tmp i y hi).2.keep hS fun _ h=> .inl h⟩,fun k y hk=> ?_,fun j v hj=>⟨(hr.pin j v hj).1,fun y hy=> ?_⟩,fun k y g' hk hg'=> ?_,fun k y k' y' g' hk hk' hg' hg2=> ?_⟩
 ·rcases(hr.priv d x k hd hk).2 with h | ⟨_,h⟩
  ·omega
  ·exact h.1
 ·have hw:=hr.grew.size;rcases hb with hb | hb
  ·exact hr.s1 b hb
  ·rcases h1 b hb with h | h
   ·exact hr.s1 b h
   ·exact .inr (.inl (Ut hw h))
 ·rcases hmem hk with⟨rfl,rfl⟩ | ⟨h3,h4⟩
  ·exact hx
  ·refine(hr.obj k y h3).keep (fun b hb=> ?_) fun _ h=> .inl h;rcases hb with hb | hb
   ·exact hS b hb
   ·exact hfo h3 h4 b hb
 ·rcases hmem hy with⟨rfl,rfl⟩ | ⟨h3,h4⟩
  ·exact(hr.pin j v hj).2 x hd
  ·exact(hr.pin j v hj).2 y h3
 ·rcases hmem hk with⟨rfl,rfl⟩ | ⟨h3,h4⟩
  ·exact⟨hnew k x g' hd (hft _ hg'),(hr.priv k x g' hd (hft _ hg')).2⟩
  ·exact⟨hnew k y g' h3 (hff h3 h4 hg'),(hr.priv k y g' h3 (hff h3 h4 hg')).2⟩
 ·rcases hmem hk with⟨rfl,rfl⟩ | ⟨h3,h4⟩<;>rcases hmem hk' with⟨rfl,rfl⟩ | ⟨h5,h6⟩
  ·rfl
  ·exact hr.apart k x k' y' g' hd h5 (hft _ hg') (hff h5 h6 hg2)
  ·exact hr.apart k y k' x g' h3 hd (hff h3 h4 hg') (hft _ hg2)
  ·exact hr.apart k y k' y' g' h3 h5 (hff h3 h4 hg') (hff h5 h6 hg2)
theorem Rel.QT{B:Nat}{av:Array Value}(hr:Rel c S β σ a w){o:Oper}(hok:kf σ o=true){d:Nat}(hd: ∀k,o.dst=some k->k=d){S':Nat->Prop}(hS: ∀b,S' b->S b)(hB: ∀b,S b->b<B\/S' b)(hBo: ∀d' x' g,(d',x')∈σ.o->x'.ba w (β d') g->g<B)(hB0:c.w0.heap.size<=B)
  {rs:List SR} {x:SV} {y:Option SO} {v:Value} (h:nY d rs=some (x,y)) (hf:pj (some (x,y)) o.dst σ) (hv:CG (vY av w S' B) rs v):eY c (σ.app o.dst (some (x,y))) (a.put o.dst v) w:=by
 obtain⟨u,h3,h4⟩:=L1 h hv;cases hdst:o.dst with
 | none=>cases y<;>exact⟨_,_,hr⟩
 | some k=>
  have hkd:=hd k hdst;subst hkd;have hk:k<σ.n:=by
   unfold kf at hok;rw[hdst]at hok;simpa using hok
  cases y with
  | none=>
   refine⟨_,_,Rel.put hr hk (v:=x) (((h3 β).keep (fun _ _=>rfl) hS).agree fun j hj=> ?_)⟩;have h5:x.names=[]:=h4;rw[h5]at hj;cases hj
  | some y=>
   obtain⟨h5,h6,h7,h8⟩:=h4;have hfr:k∉σ.names:=hf k hdst;have h9:cP w S (kt β k u) y u:=(h7.keep (fun _ _=>rfl) hS).agree fun j hj=>by rw[h6]at hj;cases hj
   have hnew:=Rel.new hr hfr hk h5 h9 (fun g hgb=>⟨fun hc=>by
    rcases hB g hc with hc | hc
    ·have:=(h8 g hgb).1;omega
    ·exact(h8 g hgb).2 hc,Ut hB0 (h8 g hgb).1,fun d' x' hm e=>by
     have:=hBo d' x' g hm e;have:=(h8 g hgb).1;omega⟩)
   exact⟨_,_,Rel.put hnew hk ((h3 β).keep (fun _ _=>rfl) hS)⟩
def nameOf:SV->Option Nat
 | .own d=>some d
 | .ref d 0=>some d
 | _=>none
def GP(qs:List SV)(pl:Nat)(y:SO):List fR:=(qs.take pl).map fR.v++fR.o y::(qs.drop pl).map fR.v
theorem rq{qs:List SV}{y:SO}{pl i:Nat}{x:fR}(hpl:pl<=qs.length)(h:(GP qs pl y)[i]? =some x):(i=pl/\x= .o y)\/(i<pl/\ ∃q,qs[i]? =some q/\x= .v q)\/(pl<i/\ ∃q,qs[i - 1]? =some q/\x= .v q):=by
 unfold GP at h;have hl:((qs.take pl).map fR.v).length=pl:=by simp;omega
 rcases Vf i pl with hi | hi | hi
 ·rw[TE (by omega),Tq,Tn]at h;obtain⟨q,hq,rfl⟩:=h;rw[T9 hi]at hq;exact .inr (.inl ⟨hi,q,hq,rfl⟩)
 ·subst hi;rw[Ts (by omega),hl,VD]at h;injection h with h;exact .inl ⟨rfl,h.symm⟩
 ·rw[Ts (by omega),hl,show i - pl=(i - 1 - pl)+1 from by omega,U1,Tq,Tn]at h;obtain⟨q,hq,rfl⟩:=h;rw[U7,show pl+(i - 1 - pl)=i - 1 from by omega]at hq;exact .inr (.inr ⟨hi,q,hq,rfl⟩)
theorem Qs{qs:List SV}{y:SO}{pl:Nat}(hpl:pl<=qs.length):(GP qs pl y)[pl]? =some (.o y):=by
 unfold GP;have hl:((qs.take pl).map fR.v).length=pl:=by simp;omega
 rw[Ts (by omega),hl,VD];rfl
def xO:SO->Prop
 | .box cs=>SV.Flat.FlatL cs
 | .arr _ _ _ es=>tA es
 | .deep .. =>True
 | .hol .. =>True
theorem cP.free{w:World}{S S':Nat->Prop}{β:Nat->Value}{x:SO}{v:Value}(h:cP w S β x v)(hf:xO x):cP w S' β x v:=by
 cases h with
 | box cs g vs T hg hl h=>exact .box cs g vs T hg hl fun j c v hc hv=>(h j c v hc hv).free (SV.nO hf (Tm hc))
 | arr e m n es v xs hn hown he h=>exact .arr e m n es v xs hn hown he fun i x j t u hi hj hu=>(h i x j t u hi hj hu).free (hf x (Tm hi) t (Tm hj))
 | deep e m n ss es v h=>exact .deep e m n ss es v h
 | hol e m n ss es i j d v xs h hu=>exact .hol e m n ss es i j d v xs h hu
def SB(σ:SS)(d:Nat)(l:List Nat):Bool:=l.all fun k=>k !=d&&σ.o.all fun p=>p.1 !=k || !p.2.names.contains d
theorem QV{d:Nat}{l:List Nat}(h:SB σ d l=true): ∀k∈l,k≠d/\ ∀x,(k,x)∈σ.o->d∉x.names:=by
 intro k hk;have h1:=Tt.1 h k hk;simp only[Tp,bne_iff_ne,ne_eq,Tt,TT,Un,List.contains_eq_mem,decide_eq_false_iff_not]at h1;refine⟨h1.1,fun x hx=> ?_⟩;rcases h1.2 _ hx with h2 | h2
 ·exact absurd rfl h2
 ·exact h2
theorem Kw{ν:SS}{fo:Operand}{args:Array Operand}{ts:Array TypeId}(ho:o.op= .call {callee:= .value fo,args:=args,argTypes:=ts})(hgd:gd ops ν o=some true)(hok:kf ν o=true)
  {f:FuncId} {caps xs pre post qs:List SV} {z:SV} {d pl:Nat} {y y':SO} (hfo:ev ν fo=some (.clo f caps)) (hxs:evL ν args.toList=some xs) (hzs:xs++caps=pre++z::post) (hz:nameOf z=some d) (hy:find d ν.o=some y) (hyn:y.names=[]) (hpl:pre.length=pl)
  (hro:EZ ν (pre++post)=some qs) (he:dH P f) {res:jM} (hc:eG P f (GP qs pl y) res) (hobj:res.objs=[(pl,y')]) (hyn':y'.names=[])
  (fl:Bool) (hfl:fl=false->SV.names.namesL (pre++post)=[]) (hfl':fl=true->res.dep=false/\xO y') {x:SV} {yo:Option SO} (hret:nY (o.dst.getD 0) res.outs=some (x,yo)\/(res.outs=[.arg pl]/\x=z/\yo=none))
  :
  ∀σ cx a w,Sub ν σ->(∀k∈SV.names.namesL (pre++post),k≠d/\ ∀x,(k,x)∈σ.o->d∉x.names)->pj (some (x,yo)) o.dst {σ with o:=(d,y')::σ.o.filter (fun p=>p.1 !=d)}->eY cx σ a w->iQ P ops o a w fun a' w'=>eY cx (SS.app {σ with o:=(d,y')::σ.o.filter (fun p=>p.1 !=d)} o.dst (some (x,yo))) a' w':=by
 intro σ cx a w hs hsep' hf ⟨S,β,hr⟩;have hν:=hs.rel hr;unfold iQ;rw[px hν hgd,if_pos rfl]
 let Sc:Nat->Prop:=fun b=>S b\/(fl=true/\ ∃k x,k≠d/\(k,x)∈σ.o/\x.ba w (β k) b)
 have hSc: ∀b,S b->Sc b:=fun b hb=> .inl hb;have hT:Ge w Sc β ν (SV.names.namesL (pre++post)):=by
  intro k hk q hq;have hfl1:fl=true:=by
   cases hb:fl with
   | true=>rfl
   | false=>rw[hfl hb]at hk;cases hk
  have h1:=hsep' k hk;exact⟨fun g hg=> .inr ⟨hfl1,k,q,h1.1,hs.o _ hq,hg⟩,fun k' hk' y hy g hg=> .inr ⟨hfl1,k',y,fun e=>h1.2 q (hs.o _ hq) (e▸hk'),hs.o _ hy,hg⟩⟩
 obtain⟨h1,h2,h3⟩:=y5 hν hSc hro hT;obtain⟨h4,h5⟩:=tM hν hxs;have hfv:=bD hν hfo;have hm:=hs.o _ (aJ hy);generalize hfe:a.eval fo=fv at hfv;cases hfv with
 | clo f caps vs hvl hvh=>
  have hrun:(execOp a.eval o).run P w= .ok (.enter f (args.map a.eval++vs)) w:=by
   simp only[execOp,ho,resolve,hfe,Deferred.ofValue,Sem.run_bind,Sem.run_pure,Result.andThen_ok,invoke];rw[show(#[]:Array Value)++args.map a.eval=args.map a.eval from by simp];exact he _ _
  have hlen:xs.length=args.size:=by simpa using h4
  have hval: ∀(j:Nat) p v,(pre++z::post)[j]? =some p->(args.map a.eval++vs)[j]? =some v->cT w S β p v:=by
   intro j p v hp hv;rw[<-hzs]at hp;by_cases hlt:j<xs.length
   ·rw[TE hlt]at hp;rw[Array.getElem?_append_left (by simp;omega),Array.getElem?_map,Tn]at hv;obtain⟨op,hop,rfl⟩:=hv;exact h5 j op p (by simpa using hop) hp
   ·rw[Ts (by omega)]at hp;rw[Array.getElem?_append_right (by simp;omega)]at hv;refine hvh (j - xs.length) p v hp ?_;simpa [hlen]using hv
  have hqs:qs.length=pl+post.length:=by rw[h1,Tz,hpl]
  have hple:pl<=qs.length:=by omega
  have hsz:(args.map a.eval++vs).size=(GP qs pl y).length:=by
   have h6:=congrArg List.length hzs;simp only[Tz,List.length_cons]at h6;simp[GP];omega
  have hbd: ∀v,(args.map a.eval++vs)[pl]? =some v->v=β d:=by
   intro v hv;have h6:=hval pl z v (by rw[<-hpl,Ts (TA _),VD];rfl) hv;cases z<;>simp only[nameOf,reduceCtorEq]at hz
   case own k=>
    injection hz with hz;subst hz;cases h6 with | own=>rfl
   case ref k off=>
    cases off with
    | zero=>
     injection hz with hz;subst hz;cases h6 with | ref _ _ g hg=>exact hg.symm
    | succ n=>simp at hz
  have hcall:=hc w Sc (args.map a.eval++vs) hsz (fun b hb=>by
    rcases hb with hb | ⟨_,k,q,_,hq,hg⟩
    ·exact hr.lt b hb
    ·exact(hr.obj k q hq).lt hg) (fun j q v hj hv=>by
    rcases rq hple hj with⟨_,h6⟩ | ⟨hlt,q',hq,h6⟩ | ⟨hlt,q',hq,h6⟩
    ·cases h6
    ·injection h6 with h6;subst h6;have hp:pre[j]? =some (pre[j]'(by omega)):=Tk _;exact h3 j _ q v (by rw[TE (by omega)];exact hp) hq (hval j _ v (by rw[TE (by omega)];exact hp) hv)
    ·injection h6 with h6;subst h6;have hjl:=(Tl.1 hq).1;have hp:post[j - 1 - pl]? =some (post[j - 1 - pl]'(by omega)):=Tk _;exact h3 (j - 1) _ q v (by rw[Ts (by omega),hpl];exact hp) hq (hval j _ v (by rw[Ts (by omega),hpl,show j - pl=(j - 1 - pl)+1 from by omega,U1];exact hp) hv)) (fun j q v hj hv=>by
    rcases rq hple hj with⟨h7,h6⟩ | ⟨hlt,q',hq,h6⟩ | ⟨hlt,q',hq,h6⟩
    ·injection h6 with h6;subst h6 h7;rw[hbd v hv];refine⟨hr.one d,((hr.obj d _ hm).keep (fun _ _=>rfl) hSc).agree (fun k hk=>by rw[hyn]at hk;cases hk),fun g hg hcc=> ?_⟩;rcases hcc with hcc | ⟨_,k,q,hne,hq,hgk⟩
     ·exact(hr.priv d _ g hm hg).1 hcc
     ·exact hne (hr.apart k q d _ g hq hm hgk hg)
    ·cases h6
    ·cases h6) (fun i j z z' u v g hi hj _ _ _ _=>by
    rcases rq hple hi with⟨h7,_⟩ | ⟨_,q',_,h6⟩ | ⟨_,q',_,h6⟩
    ·rcases rq hple hj with⟨h8,_⟩ | ⟨_,q',_,h6⟩ | ⟨_,q',_,h6⟩
     ·rw[h7,h8]
     ·cases h6
     ·cases h6
    ·cases h6
    ·cases h6)
  unfold Oper.wp;rw[hrun];refine(hcall (hr.xj.mono hSc)).mono fun e w' ⟨v,S',he',hg,hS1,hS2,hv,hob⟩=> ?_;subst he';have hpv:(args.map a.eval++vs)[pl]? =some ((args.map a.eval++vs)[pl]'(by rw[hsz];exact(Tl.1 (Qs hple)).1)):=Array.getElem?_eq_getElem _;have hgg:dA (fun k=>y.ba w (β d) k) w w':=by
   refine⟨hg.os,hg.tape,hg.output,hg.size,fun k hk hx=>hg.block k hk ?_⟩;rintro⟨j,q,u,hj,hu,hb⟩;rcases rq hple hj with⟨h7,h6⟩ | ⟨_,q',_,h6⟩ | ⟨_,q',_,h6⟩
   ·injection h6 with h6;subst h6 h7;rw[hbd u hu]at hb;exact hx hb
   ·cases h6
   ·cases h6
  have hS': ∀b,S' b->S b\/w.heap.size<=b:=by
   intro b hb;rcases hS1 b hb with⟨h6,h7⟩ | h6
   ·rcases h7 with h7 | ⟨h8,_⟩
    ·exact .inl h7
    ·rw[(hfl' h8).1]at h6;cases h6
   ·exact .inr h6
  have hob1:=hob pl y' _ (by rw[hobj];exact TH.2 rfl) hpv;rw[hbd _ hpv]at hob1;have hob2:cP w' (fun b=>S b\/S' b) β y' (β d):=by
   refine cP.agree (β:=bz) ?_ fun k hk=>by rw[hyn']at hk;cases hk
   cases hfc:fl with
   | true=>exact hob1.1.free (hfl' hfc).2
   | false=>
    refine hob1.1.keep (fun _ _=>rfl) fun b hb=> ?_;rcases hb with(hb | ⟨hb,_⟩) | hb
    ·exact .inl hb
    ·rw[hfc]at hb;cases hb
    ·exact .inr hb
  have hft: ∀g',y'.ba w' (β d) g'->y.ba w (β d) g':=fun g' hg'=>by
   obtain⟨j,x0,u0,hj,hu,hb⟩:=(hob1.2 g' hg').2;rcases rq hple hj with⟨h7,h6⟩ | ⟨_,q',_,h6⟩ | ⟨_,q',_,h6⟩
   ·injection h6 with h6;subst h6 h7
    rwa [hbd u0 hu]at hb
   ·cases h6
   ·cases h6
  have hr2:=hr.Pv hm hgg hS' hS2 hob2 hft;rcases hret with hret | ⟨ho1,hx1,hy1⟩
  ·refine hr2.QT (B:=w.heap.size) (by unfold kf at*;simp only[hs.n]at hok;exact hok) (d:=o.dst.getD 0) (fun k hk=>by rw[hk];rfl) (fun b hb=> .inr hb) (fun b hb=> ?_) (fun k q g hk hgk=> ?_) hr.grew.size hret hf hv
   ·rcases hb with hb | hb
    ·exact .inl (hr.lt b hb)
    ·exact .inr hb
   ·rcases Tx.1 hk with h6 | h6
    ·injection h6 with h6 h7;subst h6 h7;exact(hr.obj _ _ hm).lt (hft _ hgk)
    ·have h7:=Tu.1 h6;have h8:k≠d:=by simpa using h7.2
     exact(hr.obj k q h7.1).lt (((hr.obj k q h7.1).ba fun b hb=>hgg.block b ((hr.obj k q h7.1).lt hb) fun e=>h8 (hr.apart k q d _ b h7.1 hm hb e)).1 hgk)
  ·subst hx1 hy1;rw[ho1]at hv;have hvv:(args.map a.eval++vs)[pl]? =some v:=hv;have hvb:=hbd v hvv;have hzz:cT w' (fun b=>S b\/S' b) β x v:=by
    have h6:=hval pl x v (by rw[<-hpl,Ts (TA _),VD];rfl) hvv;cases x<;>simp only[nameOf,reduceCtorEq]at hz
    case own k=>cases h6;exact .own k
    case ref k off=>
     cases h6 with | ref _ _ g hg=>exact .ref k off g hg
   cases hdst:o.dst with
   | none=>exact⟨_,_,hr2⟩
   | some k=>
    refine⟨_,_,Rel.put hr2 ?_ hzz⟩;unfold kf at hok;rw[hdst]at hok;have:k<ν.n:=by simpa using hok
    rw[hs.n]at this;exact this
theorem pj.kt{r:RV}{d:Option Nat}{σ:SS}(h:pj r d σ){k:Nat}{y y':SO}(hy:(k,y)∈σ.o)(hn:y'.names=[]):pj r d {σ with o:=(k,y')::σ.o.filter (fun p=>p.1 !=k)}:=by
 unfold pj at*;split
 ·intro e he hm;rename_i v z;refine h e he ?_;unfold SS.names at*;rcases TN.1 hm with hm | hm
  ·exact T7 _ hm
  ·refine TJ _ ?_;obtain⟨p,hp,hm⟩:=TK.1 hm;rcases Tx.1 hp with rfl | hp
   ·rw[hn]at hm;rcases Tx.1 hm with rfl | hm
    ·exact TK.2 ⟨_,hy,TP⟩
    ·cases hm
   ·exact TK.2 ⟨p,(Tu.1 hp).1,hm⟩
 ·trivial
end
section
variable {P : Program} {s : SS}
def isO(ins:List fR)(j:Nat):Bool:=match ins[j]? with
 | some (.o _)=>true
 | _=>false
def OL(ins:List fR)(l:List Nat):Bool:=ins.zipIdx.all fun p=>match p.1 with
 | .v _=>true
 | .o _=>l.contains p.2
theorem OM{ins:List fR}{l:List Nat}(h:OL ins l=true){j:Nat}{x:SO}(hj:ins[j]? =some (.o x)):j∈l:=by
 have h1:=Tt.1 h (fR.o x,j) (dG.2 hj);simpa using h1
theorem RM{rs:List ResultVar}{ins:List fR}{outs:List SR}{dep:Bool}{j:Nat}{y:SO}(h:td P rs [] ⟨outs,[],dep⟩ s)(ho:find (hi j) s.o=some y)(hn:y.names=[])(hz:isO ins j=true)(hall:OL ins [j]=true):td P rs ins ⟨outs,[(j,y)],dep⟩ s:=by
 refine⟨h.len,h.out,fun i x hx=> ?_,fun i x hx=> ?_⟩
 ·have:=TH.1 hx;injection this with h1 h2;subst h1 h2;refine⟨aJ ho,hn,?_⟩;unfold isO at hz;split at hz
  ·rename_i z hz';exact⟨z,hz'⟩
  ·cases hz
 ·have:=OM hall hx;simp at this;subst this;exact⟨y,TH.2 rfl⟩
end
def pb(ops:Array Oper)(k i:Nat):Bool:=match ops[k]? with
 | some o=>waits o i
 | none=>false
def Rf(o:Oper)(q:Nat):Bool:=o.after.all fun e=> !Region.binds .any e || decide (e.on<q)
def Ei(ops:Array Oper)(m:Nat):Bool:=
 ((TU m).all fun i=>pb ops m i || (TU m).any fun k=>decide (i<k)&&pb ops k i)&&
 (TU ops.size).all fun q=>decide (q<m) || (decide (q=m) || pb ops q (q - 1))&&(match ops[q]? with | some o=>Rf o q | none=>false)
section
variable {P : Program} {ops : Array Oper}
theorem xM{k i:Nat}(h:pb ops k i=true): ∃o,ops[k]? =some o/\waits o i=true:=by
 unfold pb at h;split at h
 ·exact⟨_,by assumption,h⟩
 ·cases h
theorem JE{m:Nat}(h:Ei ops m=true){i:Nat}(hi:i<m):pb ops m i=true\/ ∃k,i<k/\k<m/\pb ops k i=true:=by
 unfold Ei at h;rw[Tp]at h;have:=Tt.1 h.1 i (T2.2 hi);rw[TT]at this;rcases this with h1 | h1
 ·exact .inl h1
 ·obtain⟨k,h2,h3⟩:=List.any_eq_true.1 h1;rw[Tp]at h3;exact .inr ⟨k,by simpa using h3.1,T2.1 h2,h3.2⟩
theorem sK{m:Nat}(h:Ei ops m=true){q:Nat}(hq:m<=q)(hs:q<ops.size):(q=m\/pb ops q (q - 1)=true)/\ ∃o,ops[q]? =some o/\ ∀e∈o.after,Region.binds .any e=true->e.on<q:=by
 unfold Ei at h;rw[Tp]at h;have:=Tt.1 h.2 q (T2.2 hs);rw[TT]at this;rcases this with h1 | h1
 ·have:q<m:=by simpa using h1
  omega
 ·rw[Tp,TT]at h1;refine⟨by simpa using h1.1,?_⟩;have h2:=h1.2;split at h2
  ·rename_i o ho;refine⟨o,ho,fun e he hb=> ?_⟩;unfold Rf at h2;rw[Array.all_eq_true']at h2;have h3:=h2 e he;rw[hb]at h3;exact of_decide_eq_true h3
  ·cases h2
theorem I7{listed:Array Bool}(_hsz:listed.size=ops.size){q i:Nat}(h:pb ops q i=true)(_hi:i<ops.size)(hl:listed.getD i false=false):q∉Region.ready .any ops listed:=by
 intro hm;obtain⟨h1,o,h2,h3⟩:=mem_ready.1 hm;obtain⟨o',h4,h5⟩:=xM h;rw[h2]at h4;injection h4 with h4;subst h4;obtain⟨e,h6,h7,h8⟩:=rK h5;have:=h3 e h6 h7;rw[h8,hl]at this;cases this
theorem Pq{m:Nat}(ht:Ei ops m=true){Q:Exit->Act->World->Prop}(_hp: ∀c a w,Q (.panic c) a w->Q (.panic c) a w):
  ∀(fuel:Nat) (k:Nat) (listed:Array Bool) (a:Act) (w:World),m<=k->ops.size<=k+fuel->listed.size=ops.size->(∀j,j<ops.size->(listed.getD j false=true↔j<k))->
   wpList P ops Q (ops.toList.drop k) a w->wpAny P .any ops Q fuel listed a w:=by
 intro fuel;have hend: ∀k listed a w,ops.size<=k->listed.size=ops.size->(∀j,j<ops.size->(listed.getD j false=true↔j<k))->wpList P ops Q (ops.toList.drop k) a w->Region.ready .any ops listed=[]/\Q .normal a w:=by
  intro k listed a w hk hsz hl hw;rw[List.drop_of_length_le (by simpa using hk)]at hw;refine⟨?_,hw⟩;apply List.eq_nil_iff_forall_not_mem.2;intro j hj;obtain⟨h1,o,h2,_⟩:=mem_ready.1 hj;have hlt:j<ops.size:=(TR.1 h2).1;rw[unl (by omega),(hl j hlt).2 (by omega)]at h1;cases h1
 induction fuel with
 | zero=>intro k listed a w hmk hk hsz hl hw;exact hend k listed a w (by omega) hsz hl hw
 | succ fuel ih=>
  intro k listed a w hmk hk hsz hl hw;by_cases hkk:ops.size<=k
  ·have:=hend k listed a w hkk hsz hl hw;exact⟨fun _=>this.2,fun i hi=>by rw[this.1]at hi;cases hi⟩
  ·have hk0:k<ops.size:=by omega
   have hun: ∀j,k<=j->j<ops.size->listed.getD j false=false:=fun j h1 h2=>by
    cases hb:listed.getD j false with
    | false=>rfl
    | true=>have:=(hl j h2).1 hb;omega
   obtain⟨_,o,ho,hback⟩:=sK ht hmk hk0;have hready:k∈Region.ready .any ops listed:=mem_ready.2 ⟨by rw[unl (by omega)];exact hun k (TA _) hk0,o,ho,fun e he hb=>(hl e.on (Nat.lt_trans (hback e he hb) hk0)).2 (hback e he hb)⟩;have honly: ∀i,i∈Region.ready .any ops listed->i=k:=by
    intro i hi;obtain⟨h1,o',h2,h3⟩:=mem_ready.1 hi;have hlt:i<ops.size:=(TR.1 h2).1;rw[unl (by omega)]at h1;have hik:k<=i:=by
     rcases Nat.lt_or_ge i k with h | h
     ·rw[(hl i hlt).2 h]at h1;cases h1
     ·exact h
    by_cases he:i=k
    ·exact he
    ·have hn:=(sK ht (q:=i) (by omega) hlt).1;rcases hn with hn | hn
     ·omega
     ·exact absurd hi (I7 hsz hn (by omega) (hun (i - 1) (by omega) (by omega)))
   refine⟨fun h0=>absurd hready (by rw[h0];exact List.not_mem_nil),fun i hi=> ?_⟩;obtain rfl:=honly i hi;have hdr:ops.toList.drop i=o::ops.toList.drop (i+1):=by
    have hh:i<ops.toList.length:=by simpa using hk0
    rw[Uc hh];congr 1;have:=(TR.1 ho).2;simpa using this
   rw[hdr]at hw;unfold wpOp;simp only[ho];unfold wpList at hw;have hgo: ∀a' w',wpList P ops Q (ops.toList.drop (i+1)) a' w'->wpAny P .any ops Q fuel (listed.setIfInBounds i true) a' w':=by
    intro a' w' h;refine ih (i+1) _ a' w' (by omega) (by omega) (by simp[hsz]) (fun j hj=> ?_) h;by_cases hij:i=j
    ·subst hij;rw[ju (by omega)];simp
    ·rw[getD_set_ne false hij,hl j hj];omega
   split
   ·rename_i hwn;rw[if_pos hwn]at hw;rcases hw with hw | hw
    ·exact .inl (Oper.wp_mono hgo hw)
    ·exact .inr hw
   ·rename_i hwn;rw[if_neg hwn]at hw;exact hgo _ _ hw
theorem NI{σ0:SS}{D:List Nat}{l:List (Oper×EV)}{Q:Exit->Act->World->Prop}{tl:List Oper}(hl:l.map (·.1)++tl=ops.toList)(htl:tl≠[])(ht:Ei ops l.length=true)(hord:Ord ops σ0 D l)
  (hst: ∀(j:Nat) o e,l[j]? =some (o,e)->pk P ops o (nuW ops (keys σ0) D e.ch e.nw o (stA σ0 l j)) e) {c:Cx} (hQ: ∀a w,eY c (stA σ0 l l.length) a w->wpList P ops Q tl a w):
  ∀(fuel:Nat) (listed:Array Bool) (a:Act) (w:World),listed.size=ops.size->((TU ops.size).filter fun j=> !listed.getD j false).length<=fuel->
   (∀(j:Nat) x,l[j]? =some x->listed.getD j false=true-> ∀e∈x.1.after,Region.binds .any e=true->listed.getD e.on false=true)->
   (∀j,l.length<=j->listed.getD j false=false)->
   eY c (stL σ0 l (lsd listed)) a w->wpAny P .any ops Q fuel listed a w:=by
 have hlen:l.length+tl.length=ops.size:=by rw[<-TB,<-hl];simp
 have hpos:l.length<ops.size:=by
  have:tl.length≠0:=fun h=>htl (Uf h);omega
 have hops: ∀(j:Nat) x,l[j]? =some x->ops[j]? =some x.1:=fun j x h=>by
  rw[<-Ub,<-hl,TE (by simpa using(Tl.1 h).1),Tq,h];rfl
 have hstep:=Hz (P:=P) (show l.length<=ops.size by omega) hord hst (c:=c);have hne: ∀(listed:Array Bool),listed.size=ops.size->(∀j,l.length<=j->listed.getD j false=false)->Region.ready .any ops listed≠[]:=by
  intro listed hsz hun h0;have hall: ∀j,j<l.length->listed.getD j false=true:=by
   intro j
   induction j using V5 with
   | _ j ih=>
    intro hj;cases hb:listed.getD j false with
    | true=>rfl
    | false=>
     have hx:l[j]? =some (l[j]'(by omega)):=Tk _;have:j∈Region.ready .any ops listed:=mem_ready.2 ⟨by rw[unl (by omega)];exact hb,_,hops j _ hx,fun e he hbd=>ih e.on (hord.back j _ hx e he hbd) (Nat.lt_trans (hord.back j _ hx e he hbd) hj)⟩;rw[h0]at this;cases this
  obtain⟨_,o,ho,hback⟩:=sK ht (TA _) hpos;have:l.length∈Region.ready .any ops listed:=mem_ready.2 ⟨by rw[unl (by omega)];exact hun _ (TA _),o,ho,fun e he hb=>hall e.on (hback e he hb)⟩;rw[h0]at this;cases this
 intro fuel
 induction fuel with
 | zero=>
  intro listed a w hsz hm hcl hun hr;exfalso;have h0:(TU ops.size).filter (fun j=> !listed.getD j false)=[]:=Uf (by omega);have:l.length∈(TU ops.size).filter (fun j=> !listed.getD j false):=Tu.2 ⟨T2.2 hpos,by rw[hun _ (TA _)];rfl⟩;rw[h0]at this;cases this
 | succ fuel ih=>
  intro listed a w hsz hm hcl hun hr;refine⟨fun h0=>absurd h0 (hne listed hsz hun),fun j hj=> ?_⟩;obtain⟨h1,o,h2,h3⟩:=mem_ready.1 hj;have hlt:j<ops.size:=(TR.1 h2).1;rw[unl (by omega)]at h1;have hcnt:((TU ops.size).filter fun i=> !(listed.setIfInBounds j true).getD i false).length<((TU ops.size).filter fun i=> !listed.getD i false).length:=by
   have hsub2:((TU ops.size).filter fun i=> !(listed.setIfInBounds j true).getD i false)=((TU ops.size).filter fun i=> !listed.getD i false).filter fun i=> !(listed.setIfInBounds j true).getD i false:=by
    rw[List.filter_filter];refine List.filter_congr fun i _=> ?_;by_cases hij:j=i
    ·subst hij;rw[ju (by omega)];simp
    ·rw[getD_set_ne false hij];simp
   rw[hsub2,List.length_filter_lt_length_iff_exists];refine⟨j,Tu.2 ⟨T2.2 hlt,by rw[h1];rfl⟩,?_⟩;rw[ju (by omega)];simp
  rcases Vf j l.length with hjl | hjl | hjl
  ·have hx:l[j]? =some (l[j]'(by omega)):=Tk _;generalize l[j]'(by omega)=x at hx;have hxo:x.1=o:=by
    have:=hops j x hx;rw[h2]at this;injection this with this;exact this.symm
   subst hxo;have hdo:=hstep listed a w j x hsz hx h1 h3 hcl hr;have hgo: ∀a' w',eY c (stL σ0 l (lsd (listed.setIfInBounds j true))) a' w'->wpAny P .any ops Q fuel (listed.setIfInBounds j true) a' w':=by
    intro a' w' hr';refine ih _ a' w' (by simp[hsz]) (by omega) ?_ (fun i hi=>by rw[getD_set_ne false (by omega)];exact hun i hi) hr';intro i y hi hL e he hb;by_cases hij:j=i
    ·subst hij;rw[hx]at hi;injection hi with hi;subst hi;exact getD_set_true (h3 e he hb)
    ·rw[getD_set_ne false hij]at hL;exact getD_set_true (hcl i y hi hL e he hb)
   unfold wpOp;simp only[h2];unfold iQ at hdo;split
   ·rename_i hw;rw[if_pos hw]at hdo;left;unfold Oper.wp at*;generalize (execOp a.eval x.1).run P w=r at*;cases r with
    | ok n w'=>
     cases n<;>simp only[Oper.upon]at hdo⊢ <;>
      first
       | exact hgo _ _ hdo
       | exact Calls.mono hdo (fun e w'' he=>by
         cases e with
         | returned v=>exact hgo _ _ he
         | panicked ch=>exact he.elim
         | outgrown=>obtain⟨a0,w0,h0⟩:=he;exact h0.elim)
       | exact Rows.mono hdo (fun _ _ he=>hgo _ _ he)
       | exact hdo.elim
    | halt z w'=>cases z<;>simp only[Oper.upon]at hdo⊢ <;>first | exact hdo.elim | exact(hdo:False).elim
   ·rename_i hw;rw[if_neg hw]at hdo;exact hgo _ _ hdo
  ·subst hjl;have hall: ∀d i,i+d=l.length->0<d->listed.getD i false=true:=by
    intro d
    induction d using V5 with
    | _ d ihd=>
     intro i hi hd;rcases JE ht (i:=i) (by omega)with hw | ⟨k,h4,h5,hw⟩
     ·obtain⟨o',h6,h7⟩:=xM hw;rw[h2]at h6;injection h6 with h6;subst h6;obtain⟨e,h8,h9,h10⟩:=rK h7;rw[<-h10];exact h3 e h8 h9
     ·have hk:=ihd (l.length - k) (by omega) k (by omega) (by omega);obtain⟨o',h6,h7⟩:=xM hw;have hx:l[k]? =some (l[k]'(by omega)):=Tk _;have h11:=hops k _ hx;rw[h6]at h11;injection h11 with h11;obtain⟨e,h8,h9,h10⟩:=rK h7;rw[<-h10];exact hcl k _ hx hk e (h11▸h8) h9
   have hwl:=hQ a w (L6 hord (fun i hi=>hall (l.length - i) i (by omega) (by omega)) c a w hr);have hdrop:ops.toList.drop l.length=tl:=by
    rw[<-hl];have:l.length=(l.map (·.1)).length:=by simp
    rw[this,List.drop_left]
   rw[<-hdrop]at hwl;have:=Pq (P:=P) ht (Q:=Q) (fun _ _ _ h=>h) (fuel+1) l.length listed a w (TA _) ?_ hsz (fun i hi=> ?_) hwl
   ·exact this.2 l.length hj
   ·have h5:ops.size - l.length<=((TU ops.size).filter fun i=> !listed.getD i false).length:=by
     have h6:TU ops.size=UM 0 l.length++UM l.length (ops.size - l.length):=by
      have:=List.range'_append (s:=0) (m:=l.length) (n:=ops.size - l.length) (step:=1);rw[Nat.one_mul,Ue,show l.length+(ops.size - l.length)=ops.size from by omega]at this;rw[this,List.range_eq_range']
     have h7:(UM l.length (ops.size - l.length)).filter (fun i=> !listed.getD i false)=UM l.length (ops.size - l.length):=
      List.filter_eq_self.2 fun i hi=>by rw[hun i (List.mem_range'_1.1 hi).1];rfl
     rw[h6,List.filter_append,Tz,h7,List.length_range'];omega
    omega
   ·constructor
    ·intro hb;rcases Nat.lt_or_ge i l.length with h | h
     ·exact h
     ·rw[hun i h]at hb;cases hb
    ·intro h;exact hall (l.length - i) i (by omega) (by omega)
  ·exfalso;have hn:=(sK ht (q:=j) (by omega) hlt).1;rcases hn with hn | hn
   ·omega
   ·exact I7 hsz hn (by omega) (hun (j - 1) (by omega)) hj
theorem bI.seq{σ0 σ:SS}{D:List Nat}{K:SS->Prop}{done:List (Oper×EV)}{o:Oper}{todo:List Oper}(hb:OO ops σ0 D done=true)(ht:Ei ops done.length=true)(h:aj P ops (o::todo) K σ):bI P ops D σ0 K done σ (o::todo):=by
 intro hd hl cx a w hr;obtain⟨h1,h2⟩:=hd.steps;have hr':eY cx σ0 a w.drew:=by
  obtain⟨S,β,hr⟩:=hr;exact⟨S,β,hr.world (dA.drew _ _)⟩
 refine NI (D:=D) hl (by simp) ht (OP hb) h2 (c:=cx) (fun a w hr=>h cx a w (Le.sub h1.n h1.t h1.o cx a w hr)) _ _ _ _ (by simp) (by
  refine Ut (List.length_filter_le _ _) (by simp)) (fun j x _ hL=> ?_) (fun j _=>by simp[UR]) (JA (fun j=>by simp[lsd,UR]) cx a w.drew hr')
 exfalso;simp[UR]at hL
end
def nz'(y:Int):Option Unit:=if y=0 then none else some ()
def sh'(y:Int):Option Unit:=if 0<=y then some ()else none
section
variable {P : Program} {tb : Tb} {ops : Array Oper} {o : Oper} {c : Cx} {S : Nat -> Prop} {β : Nat -> Value} {ν σ s : SS} {a : Act} {w : World}
theorem M0{t t':Nat}{x y:Operand}{i j:Int}{q:Unit}(h:nz' j=some q)(rem:Bool)(ho:o.op= .binOp (cond rem .rem .quo) t x y t')(hgd:gd ops ν o=some true)(hok:kf ν o=true){k:IntKind}(hx:ev ν x=some (.tr (.int k i)))(hy:ev ν y=some (.tr (.int k j))):
  bN P ops o ν (some (.tr (.int k (cond rem (i.tmod j) (k.wrap (i.tdiv j)))),none)):=by
 have h0:j≠0:=by
  unfold nz' at h;split at h
  ·cases h
  ·assumption
 refine cg hgd hok fun c S β a w hr=> ?_;have hv:=bD hr hx;have hw:=bD hr hy;generalize hy1:a.eval x=y1 at hv;generalize hy2:a.eval y=y2 at hw;cases hv with | tr _ _ hv=>cases hv with | int=>
 cases hw with | tr _ _ hw=>cases hw with | int=>
 refine .mk (s:=(do eqGuard (cond rem .rem .quo) t x y (a.eval x) (a.eval y);binOp (cond rem .rem .quo) t (a.eval x) (a.eval y):Sem Value)) (u:= .int k (cond rem (i.tmod j) (k.wrap (i.tdiv j)))) (by simp only[execOp,ho]) ?_ (.tr _ _ (.int _ _));rw[hy1,hy2];cases rem<;>simp[eqGuard,binOp,Op.intDiv,h0]
theorem kA{t t':Nat}{x y:Operand}{i j:Int}{q:Unit}(h:sh' j=some q)(left:Bool)(ho:o.op= .binOp (cond left .shl .shr) t x y t'){k k':IntKind}(hgd:gd ops ν o=some true:=by kernel_rfl)(hok:kf ν o=true:=by kernel_rfl)(hx:ev ν x=some (.tr (.int k i)):=by kernel_rfl)(hy:ev ν y=some (.tr (.int k' j)):=by kernel_rfl):
  bN P ops o ν (some (.tr (.int k (cond left (k.wrap (i*2^min j.toNat k.bits)) (i.fdiv (2^min j.toNat k.bits)))),none)):=by
 have h0: ¬j<0:=by
  unfold sh' at h;split at h
  ·omega
  ·cases h
 refine cg hgd hok fun c S β a w hr=> ?_;have hv:=bD hr hx;have hw:=bD hr hy;generalize hy1:a.eval x=y1 at hv;generalize hy2:a.eval y=y2 at hw;cases hv with | tr _ _ hv=>cases hv with | int=>
 cases hw with | tr _ _ hw=>cases hw with | int=>
 refine .mk (s:=(do eqGuard (cond left .shl .shr) t x y (a.eval x) (a.eval y);binOp (cond left .shl .shr) t (a.eval x) (a.eval y):Sem Value)) (u:= .int k (cond left (k.wrap (i*2^min j.toNat k.bits)) (i.fdiv (2^min j.toNat k.bits)))) (by simp only[execOp,ho]) ?_ (.tr _ _ (.int _ _));rw[hy1,hy2];cases left<;>simp[eqGuard,binOp,Op.shift,h0]
theorem KQ{v:Value}(ho:o.op= .assign (.const v))(hgd:gd ops ν o=some true):bN P ops o ν none:=by
 intro σ c a w hs _ ⟨S,β,hr⟩;have hν:=hs.rel hr;unfold iQ;rw[px hν hgd,if_pos rfl];have h1:(execOp a.eval o).run P w= .ok (.value v) w:=by simp[execOp,ho,Act.eval]
 refine lr h1 ?_;cases hdst:o.dst with
 | none=>exact⟨S,β,hr⟩
 | some d=>exact⟨S,β,Rel.drop hr d v⟩
theorem S8{t:ResultVar}{d:Nat}{cs:List SV}(h:Holds P s (.ref d 0) t)(ho:find d s.o=some (.box cs))(hn:SO.names (.box cs)=[])(hf:SV.Flat.FlatL cs)(hd:T8 d s.n=true){dep:Bool}:l7 P s dep t (.box cs):=⟨d,h,aJ ho,hn,.inr hf,by simpa using hd⟩
theorem Si{t:ResultVar}{d:Nat}{cs:List SV}(h:Holds P s (.ref d 0) t)(ho:find d s.o=some (.box cs))(hn:SO.names (.box cs)=[])(hd:T8 d s.n=true):l7 P s true t (.box cs):=⟨d,h,aJ ho,hn,.inl rfl,by simpa using hd⟩
end
def DE(P:Program)(ops:Array Oper)(K:SS->Prop)(fuel:Nat)(L:Array Bool)(σ:SS):Prop:=
 ∀c a w,eY c σ a w->wpAny P .any ops (fun e a' w'=>e= .normal/\ ∃s,K s/\eY c s a' w') fuel L a w
def DEs(P:Program)(ops:Array Oper)(K:SS->Prop)(fuel:Nat)(L:Array Bool)(σ:SS)(i:Nat):Prop:=
 ∀c a w,eY c σ a w->wpOp P ops (fun e a' w'=>e= .normal/\ ∃s,K s/\eY c s a' w') i (wpAny P .any ops (fun e a' w'=>e= .normal/\ ∃s,K s/\eY c s a' w') fuel (L.setIfInBounds i true)) a w
section
variable {P : Program} {tb : Tb} {ops : Array Oper} {o : Oper} {K : SS -> Prop} {L L' : Array Bool} {σ σ' : SS} {fuel i : Nat}
theorem DE.done(hr:Region.ready .any ops L=[])(h:K σ):DE P ops K fuel L σ:=fun _ _ _ hr'=>wpAny_done hr ⟨rfl,σ,h,hr'⟩ fuel
theorem DE.le(hl:Le σ σ')(h:DE P ops K fuel L σ'):DE P ops K fuel L σ:=fun c a w hr=>h c a w (hl c a w hr)
theorem DE.all(rs:List Nat)(hr:Region.ready .any ops L=rs)(hne:rs≠[])(h: ∀i∈rs,DEs P ops K fuel L σ i):DE P ops K (fuel+1) L σ:=fun c a w hr'=>wpAny_all hr hne fun i hi=>h i hi c a w hr'
theorem ya{rest:List Oper}(h:ops.toList.drop i=o::rest):ops[i]? =some o:=by
 have h1:(ops.toList.drop i)[0]? =some o:=by rw[h];rfl
 rw[U7,Uw,Ub]at h1;exact h1
theorem DEs.mk{rest:List Oper}(ho:ops.toList.drop i=o::rest)(he:af P ops o σ σ')(hL:L.setIfInBounds i true=L')(k:DE P ops K fuel L' σ'):DEs P ops K fuel L σ i:=by
 intro c a w hr;subst hL;replace ho:=ya ho;have hdo:=he c a w hr;have hgo:=fun a' w' h=>k c a' w' h;unfold wpOp;simp only[ho];unfold iQ at hdo;split
 ·rename_i hw;rw[if_pos hw]at hdo;left;unfold Oper.wp at*;generalize (execOp a.eval o).run P w=r at*;cases r with
  | ok n w'=>
   cases n<;>simp only[Oper.upon]at hdo⊢ <;>
    first
     | exact hgo _ _ hdo
     | exact Calls.mono hdo (fun e w'' he=>by
       cases e with
       | returned v=>exact hgo _ _ he
       | panicked ch=>exact he.elim
       | outgrown=>obtain⟨a0,w0,h0⟩:=he;exact h0.elim)
     | exact Rows.mono hdo (fun _ _ he=>hgo _ _ he)
     | exact hdo.elim
  | halt z w'=>cases z<;>simp only[Oper.upon]at hdo⊢ <;>first | exact hdo.elim | exact(hdo:False).elim
 ·rename_i hw;rw[if_neg hw]at hdo;exact hgo _ _ hdo
theorem af.ofL{r:RV}(h:bN P ops o σ r)(hf:iS r o.dst σ=true):af P ops o σ (σ.app o.dst r):=fun c a w hr=>h σ c a w (Sub.refl σ) (rh hf) hr
theorem af.ofN(hP:bm P tb){r:RV}(h:uI tb ops σ o=some r)(hf:iS r o.dst σ=true):af P ops o σ (σ.app o.dst r):=af.ofL (yG hP h) hf
theorem af.yR(hP:bm P tb)(h:(uI tb ops σ o).map (fun r=>(iS r o.dst σ,σ.app o.dst r))=some (true,σ')):af P ops o σ σ':=by
 rw[Tn]at h;obtain⟨r,h1,h2⟩:=h;injection h2 with h2 h3;subst h3;exact af.ofN hP h1 h2
theorem af.le(h:af P ops o σ σ'){σ2:SS}(hl:Le σ' σ2):af P ops o σ σ2:=by
 intro c a w hr;have h1:=h c a w hr;unfold iQ at*;split
 ·rename_i hw;rw[if_pos hw]at h1;exact Oper.wp_mono (fun a' w' h=>hl c a' w' h) h1
 ·rename_i hw;rw[if_neg hw]at h1;exact hl c _ _ h1
theorem DE.take{x:Operand}{rest:List Oper}(ho:ops.toList.drop i=o::rest)(hop:o.op= .move x\/o.op= .assign x)(hg:o.guard=none)(hs:Region.noSelect ops=true)(hf:Region.free .any ops L i=true)(hr:(Region.ready .any ops L).contains i=true)
  (he:af P ops o σ σ') (hL:L.setIfInBounds i true=L') (k:DE P ops K fuel L' σ'):DE P ops K (fuel+1) L σ:=by
 intro c a w hr';subst hL;replace ho:=ya ho;have hex: ∀a:Act,execOp a.eval o=pure (.value (a.eval x)):=by
  intro a;rcases hop with hop | hop<;>simp only[execOp,hop]
 have hdo:=he c a w hr';have hw:Region.wanted o (yielded ops a.tmps)=true:=by simp[Region.wanted,hg]
 unfold iQ at hdo;rw[if_pos hw]at hdo;unfold Oper.wp at hdo;rw[hex]at hdo;refine wpAny_take (v:=a.eval x) ho hs hf hr (fun _ _ _ h=>by simp at h) ?_ (k c _ w hdo);unfold Yields;exact .inl ⟨hw,fun w=>by rw[hex];rfl⟩
theorem bI.wa{σ0 σE:SS}{n:Nat}{L0:Array Bool}(hn:n=ops.size)(hL:L0=Array.replicate ops.size false)(h: ∀K:SS->Prop,K σE->DE P ops K n L0 σ0)(hK:K σE):bI P ops [] σ0 K [] σ0 ops.toList:=by
 intro _ _ cx a w hr;subst hn hL;have hr':eY cx σ0 a w.drew:=by
  obtain⟨S,β,hr⟩:=hr;exact⟨S,β,hr.world (dA.drew _ _)⟩
 exact h K hK cx a w.drew hr'
end
section
variable {P : Program} {tb : Tb} {ops : Array Oper} {o : Oper} {c : Cx} {S : Nat -> Prop} {β : Nat -> Value} {ν σ s : SS} {a : Act} {w : World}
theorem MY(hP:bm P tb){t t':Nat}{ti:TI}{x y:Operand}(neg:Bool)(ho:o.op= .binOp (cond neg .neq .eql) t x y t')(hgd:gd ops ν o=some true)(hok:kf ν o=true){i j:Bool}(ht:find t tb=some ti)(hd:ti.d= .bool)(hx:ev ν x=some (.tr (.bool i)))(hy:ev ν y=some (.tr (.bool j))):
  bN P ops o ν (some (.tr (.bool (cond neg (!(i==j)) (i==j))),none)):=by
 have hu:P.underlying t=some .bool:=by have:=(bc hP ht).d;rw[hd]at this;exact this
 refine cg hgd hok fun c S β a w hr=> ?_;have hv:=bD hr hx;have hw:=bD hr hy;generalize hy1:a.eval x=y1 at hv;generalize hy2:a.eval y=y2 at hw;cases hv with | tr _ _ hv=>cases hv with | bool=>
 cases hw with | tr _ _ hw=>cases hw with | bool=>
 refine .mk (s:=(do eqGuard (cond neg .neq .eql) t x y (a.eval x) (a.eval y);binOp (cond neg .neq .eql) t (a.eval x) (a.eval y):Sem Value)) (u:= .bool (cond neg (!(i==j)) (i==j))) (by simp only[execOp,ho]) ?_ (.tr _ _ (.bool _));rw[hy1,hy2];have h1:=run_equalIn_bool' (P:=P) w 9999 t i j hu;cases neg
 ·simp only[cond_false,eqGuard,binOp,Op.equal,Op.maxDepth,Sem.run_bind];simp[h1]
 ·simp only[cond_true,eqGuard,binOp,Op.equal,Op.maxDepth,Sem.run_bind];simp[h1]
end
@[reducible] def de {S A : Type} (n : Int) (B : Int -> S -> Option (S ⊕ A)) (D : S -> A) (i0 : Int) (s0 : S) : Option A :=
 loop (fun(z:Int×S)=>bif(decide (z.1<n))then(B z.1 z.2).bind (TC (fun(j:S)=>some (.inl (ap (z.1+1),j))) (fun a=>some (.inr a)))else some (.inr (D z.2))) (i0,s0)
@[reducible] def cR {S A : Type} (n : Int) (B : Int -> S -> Option S) (D : S -> A) (i0 : Int) (s0 : S) : Option A :=
 loop (fun(z:Int×S)=>bif(decide (z.1<n))then(B z.1 z.2).bind (fun(j:S)=>some (.inl (ap (z.1+1),j)))else some (.inr (D z.2))) (i0,s0)
theorem Po{P:Program}{A J α:Type}{st:α->SS}{QA:A->Exit->SS->Prop}{σ:SS}{x y:Code}{m:Option (J⊕A)}{k:J->Option (α⊕A)}{r:α⊕A}(h:m.bind (TC k (fun a=>some (.inr a)))=some r)(σJ:J->SS)(h1: ∀v,m=some v->swp P x (QE σJ (fun a=>QE st QA (.inr a)) v) σ)(h2: ∀v,k v=some r->swp P y (QE st QA r) (σJ v)):swp P x (nx (swp P y (QE st QA r)) (QE st QA r)) σ:=by
 obtain⟨v,hv,hk⟩:=bind_some h;cases v with
 | inl j=>exact rI (h1 _ hv) fun e s ⟨he,hs⟩=>by subst he;exact dw hs (h2 j hk)
 | inr r'=>
  injection hk with hk;subst hk;refine rI (h1 _ hv) fun e s ⟨he,hs⟩=> ?_;unfold nx;split
  ·exact absurd rfl he
  ·exact hs
def SS.y7(σ:SS)(ks:List (Nat×(Bool->Bool)))(b:Bool):SS:={σ with t:=σ.t.map fun p=>match find p.1 ks with | some f=>(p.1,.tr (.bool (f b))) | none=>p}
theorem aj.cut{P:Program}{ops:Array Oper}{todo:List Oper}{Q:SS->Prop}{σ:SS}(ks:List (Nat×(Bool->Bool))){b:Bool}(hk:σ.y7 ks b=σ)(h1:b=true->aj P ops todo Q (σ.y7 ks true))(h2:b=false->aj P ops todo Q (σ.y7 ks false)):aj P ops todo Q σ:=by
 rw[<-hk];cases b
 ·exact h2 rfl
 ·exact h1 rfl
theorem bI.cut{P:Program}{ops:Array Oper}{todo:List Oper}{K:SS->Prop}{done:List (Oper×EV)}{D:List Nat}{σ0 σ:SS}(ks:List (Nat×(Bool->Bool))){b:Bool}(hk:σ.y7 ks b=σ)(h1:b=true->bI P ops D σ0 K done (σ.y7 ks true) todo)(h2:b=false->bI P ops D σ0 K done (σ.y7 ks false) todo):bI P ops D σ0 K done σ todo:=by
 rw[<-hk];cases b
 ·exact h2 rfl
 ·exact h1 rfl
@[reducible] def Ku {S A : Type} (c : Int -> S -> Bool) (B : Int -> S -> Option (S ⊕ A)) (D : S -> A) (i0 : Int) (s0 : S) : Option A :=
 loop (fun(z:Int×S)=>bif c z.1 z.2 then(B z.1 z.2).bind (TC (fun(j:S)=>some (.inl (ap (z.1+1),j))) (fun a=>some (.inr a)))else some (.inr (D z.2))) (i0,s0)
@[reducible] def lW {S A : Type} (c : Int -> S -> Bool) (B : Int -> S -> Option S) (D : S -> A) (i0 : Int) (s0 : S) : Option A :=
 loop (fun(z:Int×S)=>bif c z.1 z.2 then(B z.1 z.2).bind (fun(j:S)=>some (.inl (ap (z.1+1),j)))else some (.inr (D z.2))) (i0,s0)
section
variable {S A α : Type}
def dm(B:Nat->S->Option (S⊕A))(D:S->A):Nat->Nat->S->Option A
 | 0,_,s=>some (D s)
 | k+1,i,s=>(B i s).bind (TC (dm B D k (i+1)) some)
def mV(B:Nat->α->S->Option (S⊕A))(D:S->A):List α->Nat->S->Option A
 | [],_,s=>some (D s)
 | x::l,i,s=>(B i x s).bind (TC (mV B D l (i+1)) some)
theorem R5(n:Int):ap n=(n+9223372036854775808) % 18446744073709551616 - 9223372036854775808:=by
 unfold ap;rw[IntKind.wrap_i64]
theorem az{n:Int}(h: -9223372036854775808<=n)(k:n<9223372036854775808):ap n=n:=by
 rw[R5];omega
theorem xi{n:Int}(B:Int->S->Option (S⊕A))(D:S->A)(hn:n<=9223372036854775807): ∀(k:Nat) (i:Nat) (s:S),n<=i+k->((i:Int)+k<=n\/k=0)->de n B D i s=dm (fun i=>B (i:Int)) D k i s
 | 0,i,s,h,_=>by
  unfold de;rw[bT];simp only[decide_eq_false (show ¬(i:Int)<n by omega),cond_false,dm]
 | k+1,i,s,h,h2=>by
  unfold de;rw[bT];simp only[decide_eq_true (show(i:Int)<n by omega),cond_true,dm];cases hb:B i s with
  | none=>rfl
  | some r=>
   cases r with
   | inr a=>rfl
   | inl s'=>
    simp only[Ti,Sum.elim_inl];rw[az (by omega) (by omega)];have:=xi B D hn k (i+1) s' (by omega) (by omega);unfold de at this;rw[<-this];rfl
theorem fM(n:Nat)(hn:n<=9223372036854775807)(B:Int->S->Option (S⊕A))(D:S->A)(s:S):de (n:Int) B D 0 s=dm (fun i=>B (i:Int)) D n 0 s:=xi B D (by omega) n 0 s (by omega) (by omega)
theorem vB{n:Int}(i:Nat)(hn:n<=9223372036854775807)(B:Int->S->Option (S⊕A))(D:S->A)(s:S):de n B D (i:Int) s=dm (fun i=>B (i:Int)) D (n - i).toNat i s:=xi B D hn _ i s (by omega) (by omega)
theorem eZ{n:Int}(B:Int->S->Option S)(D:S->A)(i:Int)(s:S):cR n B D i s=de n (fun i s=>(B i s).map .inl) D i s:=by
 unfold cR de;congr 1;funext z;cases decide (z.1<n)
 ·rfl
 ·simp only[cond_true];cases B z.1 z.2<;>rfl
theorem aG{L:List α}(i:Nat):at' L (i:Int)=L[i]? :=by
 unfold at';rw[if_pos (by omega)];simp
theorem Dp(B:Nat->S->Option (S⊕A))(B':Nat->α->S->Option (S⊕A))(D:S->A): ∀(M:List α) (k:Nat) (s:S),(∀j x s,M[j]? =some x->B (k+j) s=B' (k+j) x s)->dm B D M.length k s=mV B' D M k s
 | [],_,_,_=>rfl
 | x::l,k,s,h=>by
  show(B k s).bind (TC (dm B D l.length (k+1)) some)=(B' k x s).bind (TC (mV B' D l (k+1)) some);have h0:=h 0 x s rfl;rw[Uw]at h0;rw[h0];congr 2;funext s';exact Dp B B' D l (k+1) s' fun j y s'' hy=>by
   have:=h (j+1) y s'' (by simpa using hy);rw[show k+1+j=k+(j+1)from by omega];exact this
theorem lN(L:List α)(hL:L.length<=9223372036854775807)(B:Int->S->Option (S⊕A))(B':Nat->α->S->Option (S⊕A))(D:S->A)(s:S)(h: ∀(j:Nat) x s,L[j]? =some x->B (j:Int) s=B' j x s):de (L.length:Int) B D 0 s=mV B' D L 0 s:=by
 rw[fM _ hL];exact Dp _ B' D L 0 s fun j x s hx=>by
  rw[Ue];exact h j x s hx
theorem Qn(L:List α)(hL:L.length<=9223372036854775807)(B':Int->α->S->Option (S⊕A))(D:S->A)(s:S):de (L.length:Int) (fun i s=>(at' L i).bind fun x=>B' i x s) D 0 s=mV (fun i x s=>B' (i:Int) x s) D L 0 s:=
 lN L hL _ _ D s fun j x s hx=>by rw[aG,hx,Ti]
theorem Qo(L:List α)(hL:L.length<=9223372036854775807)(B':Int->α->S->Option S)(D:S->A)(s:S):cR (L.length:Int) (fun i s=>(at' L i).bind fun x=>B' i x s) D 0 s=mV (fun i x s=>(B' (i:Int) x s).map .inl) D L 0 s:=by
 rw[eZ];exact lN L hL _ _ D s fun j x s hx=>by rw[aG,hx,Ti]
def cr(p:Nat->α->Bool)(a:Nat->α->A):List α->Nat->Option A
 | [],_=>none
 | x::l,i=>bif p i x then some (a i x)else cr p a l (i+1)
theorem uK(p:Nat->α->Bool)(a:Nat->α->A)(D:S->A): ∀(L:List α) (k:Nat) (s:S),mV (fun i x s=>bif p i x then some (.inr (a i x))else some (.inl s)) D L k s=some ((cr p a L k).getD (D s))
 | [],_,_=>rfl
 | x::l,k,s=>by
  unfold mV cr;cases p k x
  ·exact uK p a D l (k+1) s
  ·rfl
theorem C6(p:α->Bool)(a:A): ∀(L:List α) (k:Nat),cr (fun _ x=>p x) (fun _ _=>a) L k=bif L.any p then some a else none
 | [],_=>rfl
 | x::l,k=>by
  unfold cr;rw[List.any_cons,C6 p a l (k+1)];cases p x<;>rfl
theorem Ax(p:α->Bool)(a:A)(D:S->A)(L:List α)(k:Nat)(s:S):mV (fun _ x s=>bif p x then some (.inr a)else some (.inl s)) D L k s=some (bif L.any p then a else D s):=by
 rw[uK (fun _ x=>p x) (fun _ _=>a),C6];cases L.any p<;>rfl
end
theorem HD{α:Type}{L:List α}{i:Int}(h0:0<=i)(h:i<L.length): ∃x,at' L i=some x/\L[i.toNat]? =some x:=by
 have hl:i.toNat<L.length:=by omega
 refine⟨L[i.toNat],?_,Tk hl⟩;unfold at';rw[if_pos h0,Tk hl]
theorem CN{α:Type}{L:List α}{i:Nat}(h:i<L.length):at' L (i:Int)=some L[i]:=by
 rw[aG,Tk h]
theorem ci{α:Type}{L M:List α}(h:L.length+M.length<=68719476736):bW L M=some (L++M):=by
 unfold bW;rw[if_pos h]
theorem Rk{y:Int}(h:y≠0):nz' y=some ():=by
 unfold nz';rw[if_neg h]
theorem af.y8{P:Program}{ops:Array Oper}{o:Oper}{σ σ':SS}(ks:List (Nat×(Bool->Bool))){b c:Bool}(hb:b=c)(hk:σ'.y7 ks b=σ')(h:af P ops o σ σ'):af P ops o σ (σ'.y7 ks c):=by
 subst hb;rw[hk];exact h
section
variable {P : Program} {tb : Tb} {ops : Array Oper} {o : Oper} {ν : SS}
theorem BX{w:World}{src dst e:Nat}(hs:P.underlying src=some (.slice e))(he:P.underlying e=some (.int .u8))(hd:P.underlying dst=some .string)(L:List Int)(a:Addr)(n c:Nat)(hn:L.length=n)
  (hc: ∀(j:Nat) x,L[j]? =some x->w.cell? (a.add j)=some (.int .u8 x)):(convert src dst (.slice (some a) n c)).run P w= .ok (.string (strOfNums L)) w:=by
 have hl:(loadCells a n).run P w= .ok (L.map (Value.int .u8)).toArray w:=by
  have:=run_loadCells_list (P:=P) w a (L.map (Value.int .u8)) (fun j v hj=>by
   rw[Tq,Tn]at hj;obtain⟨x,hx,rfl⟩:=hj;exact hc j x hx)
  simpa [hn]using this
 rw[run_convert_bytes_string w src dst e _ n c hs he hd,run_bytesToString w _ n c L hl,foldl_push_bytes];simp[strOfNums,ByteArray.empty,ByteArray.emptyWithCapacity];rfl
theorem JD{L:List Int}(hP:bm P tb){src dst:Nat}{x:Operand}(ho:o.op= .convert src dst x)(hgd:gd ops ν o=some true)(hok:kf ν o=true){e e' d:Nat}{ti tj tk:TI}
  (hs:find src tb=some ti) (hsd:ti.d= .slice e) (he:find e tb=some tj) (hed:tj.d= .int .u8) (hd:find dst tb=some tk) (hdd:tk.d= .str) (hx:ev ν x=some (.own d)) (hob:find d ν.o=some (.arr e' 1 L.length (L.map (eI .u8)))):bN P ops o ν (some (.tr (.str (strOfNums L)),none)):=by
 refine cg hgd hok fun c S β a w hr=> ?_;have hv:=bD hr hx;generalize hy1:a.eval x=y1 at hv;have u1:=(bc hP hs).slice hsd;have u2:=(bc hP he).int hed;have u3:=(bc hP hd).str hdd;have hobj:=hr.obj d _ (aJ hob);cases hv with
 | own d=>
  generalize hbd:β d=bd at hobj;generalize hn:L.length=n at hobj;generalize hes:L.map (eI .u8)=es at hobj;cases hobj with
  | arr e'' m n es v xs hn2 hown hes2 hh=>
   refine .mk (s:=convert src dst (a.eval x)) (by simp only[execOp,ho]) (u:= .string (strOfNums L)) ?_ (.tr _ _ (.str _ (by
    rw[strOfNums_size,hn];rcases hown.2 with⟨_,h2⟩ | ⟨g,cap,cur,_,_,_,h2,h3,_⟩
    ·omega
    ·omega)))
   rw[hy1,hbd];have h0:(convert src dst bd).run P w= .ok (.string (strOfNums L)) w:=by
    rcases hown.2 with⟨h1,h2⟩ | ⟨g,cap,cur,h1,h2,h3,h4,h5,h6,h7⟩
    ·rw[h1];have:L=[]:=List.length_eq_zero_iff.1 (by omega);subst this;exact run_convert_bytes_nil w src e u1 u2 _ _ dst u3
    ·rw[h1];refine BX u1 u2 u3 L _ n cap hn fun j z hz=> ?_;have hz2:es[j]? =some [.int .u8 z]:=by rw[<-hes,Tq,hz];rfl
     have hj:j<n:=by rw[<-hn];exact(Tl.1 hz).1
     have hxl:j<xs.length:=by have:=hown.1;omega
     have h8:=hh j _ 0 _ _ hz2 rfl (show xs[j*1+0]? =some xs[j] by rw[Nat.mul_one,Uw];exact Tk hxl);rw[hown.cells (g:=g) (by rw[h1];rfl) j _ (Tk hxl)];generalize xs[j]=q at h8;cases h8;rfl
   simp[h0]
end
def SV.tQ:SV->Bool
 | .tr t=>t.flat
 | .agg cs=>flatLB cs
 | .tup cs=>flatLB cs
 | .ptr _ _=>false
 | .ref _ _=>true
 | .eref _ _ _ _=>true
 | .own _=>true
 | .clo _ cs=>flatLB cs
 | .mth _ cs=>flatLB cs
 | .any=>false
where flatLB:List SV->Bool
 | []=>true
 | c::cs=>c.tQ&&flatLB cs
mutual
theorem SV.yc: ∀(x:SV),x.tQ=true->x.Flat
 | .tr _,h=>h
 | .agg cs,h=>SV.ng cs h
 | .tup cs,h=>SV.ng cs h
 | .ptr _ _,h=>by cases h
 | .ref _ _,_=>trivial
 | .eref _ _ _ _,_=>trivial
 | .own _,_=>trivial
 | .clo _ cs,h=>SV.ng cs h
 | .mth _ cs,h=>SV.ng cs h
 | .any,h=>by cases h
theorem SV.ng: ∀(cs:List SV),SV.tQ.flatLB cs=true->SV.Flat.FlatL cs
 | [],_=>trivial
 | c::cs,h=>by
  have h2:(c.tQ&&SV.tQ.flatLB cs)=true:=h;rw[Tp]at h2;exact⟨SV.yc c h2.1,SV.ng cs h2.2⟩
end
theorem SV.yb{cs:List SV}(h:SV.tQ.flatLB cs=true:=by kernel_rfl):SV.Flat.FlatL cs:=SV.ng cs h
@[reducible] def vi (n : Int) : SV := .tr (.int .i64 n)
@[reducible] def vb (b : Bool) : SV := .tr (.bool b)
@[reducible] def vs (s : ByteArray) : SV := .tr (.str s)
@[reducible] def vl {α : Type} (f : α -> List Tr) (L : List α) : SV := .tr (.sl L.length (L.map f))
@[reducible] def tc {α : Type} (f : α -> List Tr) (x : α) : List SV := (f x).map .tr
@[reducible] def oa {α : Type} (e m : Nat) (f : α -> List Tr) (L : List α) : SO := .arr e m L.length (L.map f)
def SS.only(σ:SS)(ts os:List Nat):SS:=⟨σ.n,oh ts σ.t,oh os σ.o⟩
theorem Le.only{σ:SS}(ts os:List Nat):Le σ (σ.only ts os):=Le.sub rfl (fun _ h=>js h) fun _ h=>js h
theorem Le.aZ{σ:SS}{n:Nat}{t:List (Nat×SV)}{o:List (Nat×SO)}(hn:σ.n=n:=by kernel_rfl)(ht:oh (t.map (·.1)) σ.t=t:=by kernel_rfl)(ho:oh (o.map (·.1)) σ.o=o:=by kernel_rfl):Le σ ⟨n,t,o⟩:=by
 subst hn;exact Le.km t o ht ho
def Jj(σ:SS):List (Nat×Nat)->Option SS
 | []=>some σ
 | (d,e)::r=>if(T8 d σ.n&&(T8 e σ.n&& !σ.names.contains e))=true then Jj (σ.ren d e) r else none
theorem Le.Jj: ∀{l:List (Nat×Nat)} {σ σ':SS},Sh.Jj σ l=some σ'->Le σ σ'
 | [],σ,σ',h=>by
  injection h with h;exact h▸Le.refl _
 | (d,e)::r,σ,σ',h=>by
  unfold Sh.Jj at h;split at h
  ·rename_i hc;rw[Tp,Tp,Un]at hc;exact(Le.Tf hc.1 hc.2.1 hc.2.2).trans (Le.Jj h)
  ·cases h
theorem Le.rr{σ:SS}(ko:List Nat)(l:List (Nat×Nat)){n:Nat}{t:List (Nat×SV)}{o:List (Nat×SO)}(h:(Sh.Jj ⟨σ.n,oh (t.map (·.1)) σ.t,oh ko σ.o⟩ l).map (fun s=>(s.n,oh (t.map (·.1)) s.t,oh (o.map (·.1)) s.o))=some (n,t,o):=by kernel_rfl):Le σ ⟨n,t,o⟩:=by
 rw[Tn]at h;obtain⟨s,h1,h2⟩:=h;simp only[Prod.mk.injEq]at h2;obtain⟨rfl,h3,h4⟩:=h2;exact(Le.sub (σ:=σ) (σ':=⟨σ.n,oh (t.map (·.1)) σ.t,oh ko σ.o⟩) rfl (fun p hp=>js (k:=t.map (·.1)) hp) fun p hp=>js (k:=ko) hp).trans ((Le.Jj h1).trans (Le.km t o h3 h4))
section
variable {P : Program} {tb : Tb} {ops : Array Oper} {o : Oper} {ν σ : SS} {α : Type} {f : α -> List Tr}
theorem bI.ck(hP:bm P tb){D:List Nat}{σ0:SS}{K:SS->Prop}{done:List (Oper×EV)}{todo:List Oper}(ch:Bool)(n:Nat)(σ':SS)(k:bI P ops D σ0 K (xY tb ops (keys σ0) D ch n done σ todo) σ' (todo.drop n))(h:(oF tb ops (keys σ0) D ch n done σ todo).map (fun s=>s.2.only (σ'.t.map (·.1)) (σ'.o.map (·.1)))=some σ':=by kernel_rfl):bI P ops D σ0 K done σ todo:=by
 rcases hd:oF tb ops (keys σ0) D ch n done σ todo with _ | ⟨d,s⟩
 ·rw[hd]at h;cases h
 ·rw[hd]at h;injection h with h;refine bI.chunk hP n hd ?_;unfold xY at k;rw[hd]at k;refine bI.sub (σ':=σ') ?_ k;rw[<-h];exact⟨rfl,fun _ h=>js h,fun _ h=>js h⟩
theorem aj.ls{Q:SS->Prop}{rest:List Oper}{r:RV}(h:bN P ops o σ r)(k:aj P ops rest Q (σ.app o.dst r))(hf:iS r o.dst σ=true:=by kernel_rfl):aj P ops (o::rest) Q σ:=aj.uI h hf k
theorem Mc{m d e k:Nat}{es:List (List Tr)}(h:find d σ.o=some (.arr e m k es):=by kernel_rfl):K8 σ m (.own d) k es:=⟨e,h⟩
theorem fL{L:List α}{i:Int}{x:α}(hP:bm P tb){t:Nat}{p q:Operand}(ho:o.op= .indexAddr t p q){e e' d m:Nat}{k:IntKind}{ti tj:TI}(h:at' L i=some x)(hgd:gd ops ν o=some true:=by kernel_rfl)(hok:kf ν o=true:=by kernel_rfl)(ht:find t tb=some ti:=by kernel_rfl)(hd:ti.d= .slice e:=by kernel_rfl)(he:find e tb=some tj:=by kernel_rfl)(hx:ev ν p=some (.own d):=by kernel_rfl)(hob:find d ν.o=some (.arr e' m L.length (L.map f)):=by kernel_rfl)(hy:ev ν q=some (.tr (.int k i)):=by kernel_rfl)(hl:m=tj.size:=by kernel_rfl):bN P ops o ν (some (.eref d m i.toNat 0,none)):=Br hP ho hgd hok ht hd he hx hob hy h hl
theorem kr{L:List α}{i:Int}{x:α}(hP:bm P tb){t:Nat}{p:Operand}(ho:o.op= .load t p){e d m j:Nat}{ti:TI}{v:SV}(h:at' L i=some x)(hgd:gd ops ν o=some true:=by kernel_rfl)(hok:kf ν o=true:=by kernel_rfl)(ht:find t tb=some ti:=by kernel_rfl)(hx:ev ν p=some (.eref d m i.toNat j):=by kernel_rfl)(hob:find d ν.o=some (.arr e m L.length (L.map f)):=by kernel_rfl)(hl:ldc ti ((f x).map .tr) j=some v:=by kernel_rfl):bN P ops o ν (some (v,none)):=Eh hP ho hgd hok ht hx hob h hl
theorem bp(hP:bm P tb){o:Oper}{t:Nat}{x y:Operand}(ho:o.op= .store t x y)(hdst:o.dst=none){ti:TI}{d k:Nat}{cs vs:List SV}{v:SV}(hgd:gd ops σ o=some true:=by kernel_rfl)(ht:find t tb=some ti:=by kernel_rfl)(hx:ev σ x=some (.ref d k):=by kernel_rfl)(hob:find d σ.o=some (.box cs):=by kernel_rfl)(hy:ev σ y=some v:=by kernel_rfl)(hc:v.cells=some vs:=by kernel_rfl)(hone:vs.all (tD σ)=true:=by kernel_rfl)(hl:vs.length=ti.size:=by kernel_rfl)(hk:Uv (k+vs.length) cs.length=true:=by kernel_rfl):af P ops o σ {σ with o:=(d,.box (cs.take k++vs++cs.drop (k+vs.length)))::σ.o.filter (fun p=>p.1 !=d)}:=GA hP ho hdst hgd ht hx hob hy hc hone hl hk
theorem Bv{L:List α}{i:Int}{z x:α}(hP:bm P tb){t:Nat}{p q:Operand}(ho:o.op= .store t p q)(hdst:o.dst=none){ti:TI}{d e m j:Nat}{ts:List Tr}{v:SV}{vs:List SV}(h:at' L i=some z)(hgd:gd ops σ o=some true:=by kernel_rfl)(ht:find t tb=some ti:=by kernel_rfl)(hx:ev σ p=some (.eref d m i.toNat j):=by kernel_rfl)(hob:find d σ.o=some (.arr e m L.length (L.map f)):=by kernel_rfl)(hy:ev σ q=some v:=by kernel_rfl)(hc:v.cells=some vs:=by kernel_rfl)(hts:trs vs=some ts:=by kernel_rfl)(hl:ts.length=ti.size:=by kernel_rfl)(hk:Uv (j+ts.length) (f z).length=true:=by kernel_rfl)(hes:(f z).take j++ts++(f z).drop (j+ts.length)=f x:=by kernel_rfl):af P ops o σ {σ with o:=(d,.arr e m (L.set i.toNat x).length ((L.set i.toNat x).map f))::σ.o.filter (fun p=>p.1 !=d)}:=Bt hP ho hdst hgd ht hx hob hy hc hts hl h hk hes
theorem zJ{ν:SS}{L:List α}{i:Int}{z x:α}(hP:bm P tb){t:Nat}{p q:Operand}(ho:o.op= .store t p q)(hdst:o.dst=none){ti:TI}{d e m j:Nat}{ts:List Tr}{v:SV}{vs:List SV}{nw:List Nat}(h:at' L i=some z)(hgd:gd ops ν o=some true:=by kernel_rfl)(ht:find t tb=some ti:=by kernel_rfl)(hx:ev ν p=some (.eref d m i.toNat j):=by kernel_rfl)(hob:find d ν.o=some (.arr e m L.length (L.map f)):=by kernel_rfl)(hy:ev ν q=some v:=by kernel_rfl)(hc:v.cells=some vs:=by kernel_rfl)(hts:trs vs=some ts:=by kernel_rfl)(hl:ts.length=ti.size:=by kernel_rfl)(hk:Uv (j+ts.length) (f z).length=true:=by kernel_rfl)(hes:(f z).take j++ts++(f z).drop (j+ts.length)=f x:=by kernel_rfl):pk P ops o ν ⟨none,true,some (d,.arr e m (L.set i.toNat x).length ((L.set i.toNat x).map f)),nw⟩:=fun σ c a w hs _ _ hr=>by
 have hset:(L.map f).set i.toNat ((f z).take j++ts++(f z).drop (j+ts.length))=(L.set i.toNat x).map f:=by rw[hes,List.map_set]
 have h0:=sS hP ho hdst hgd ht hx hob hy hc hts hl (Cu f (qb h).2) (by simpa using hk) hset σ c a w hs hr;unfold iQ at h0⊢;have hle: ∀a' w',eY c (({σ with o:=(d,.arr e m L.length ((L.set i.toNat x).map f))::σ.o.filter (fun p=>p.1 !=d)}:SS)) a' w'->eY c (σ.qY o.dst ⟨none,true,some (d,.arr e m (L.set i.toNat x).length ((L.set i.toNat x).map f)),nw⟩) a' w':=fun a' w' h=>by
  rw[VN,hdst];exact h
 split
 ·rename_i hw;rw[if_pos hw]at h0;exact Oper.wp_mono (fun a' w' h=>hle a' w' h) h0
 ·rename_i hw;rw[if_neg hw]at h0;exact hle _ _ h0
theorem Mb{m:Nat}{L R:List α}{l h:Int}(hp:fE L l h=some R)(hm: ∀x,(f x).length=m)(hP:bm P tb){t:Nat}{p:Operand}{lo hi:Option Operand}(ho:o.op= .slice t p lo hi none){e:Nat}{ti tj:TI}(hgd:gd ops ν o=some true:=by kernel_rfl)(hok:kf ν o=true:=by kernel_rfl)(ht:find t tb=some ti:=by kernel_rfl)(hd:ti.d= .slice e:=by kernel_rfl)(he:find e tb=some tj:=by kernel_rfl)(hsz:m=tj.size:=by kernel_rfl)(hx:ev ν p=some (.tr (.sl L.length (L.map f))):=by kernel_rfl)(hlo:sW ν lo=some l:=by kernel_rfl)(hhi:ot ν L.length hi=some h:=by kernel_rfl):bN P ops o ν (some (.tr (.sl R.length (R.map f)),none)):=L9 hp hm hP ho hgd hok ht hd he hsz hx hlo hhi
theorem Bu(hP:bm P tb){t t':Nat}{ti:TI}{x y:Operand}(neg:Bool)(ho:o.op= .binOp (cond neg .neq .eql) t x y t'){i j:Bool}(hgd:gd ops ν o=some true:=by kernel_rfl)(hok:kf ν o=true:=by kernel_rfl)(ht:find t tb=some ti:=by kernel_rfl)(hd:ti.d= .bool:=by kernel_rfl)(hx:ev ν x=some (.tr (.bool i)):=by kernel_rfl)(hy:ev ν y=some (.tr (.bool j)):=by kernel_rfl):bN P ops o ν (some (.tr (.bool (cond neg (!(i==j)) (i==j))),none)):=MY hP neg ho hgd hok ht hd hx hy
theorem Fo(hP:bm P tb){t:Nat}{ps:Array (Nat×Operand)}(ho:o.op= .build t ps){ν:SS}{v:SV}(hgd:gd ops ν o=some true:=by kernel_rfl)(hok:kf ν o=true:=by kernel_rfl)(h:AW tb ν t ps.toList=some v:=by kernel_rfl):bN P ops o ν (some (v,none)):=Bi hP ho hgd hok h
theorem Hq{v:Value}(ho:o.op= .assign (.const v))(hgd:gd ops ν o=some true:=by kernel_rfl):bN P ops o ν none:=KQ ho hgd
theorem JV{L M R:List α}(h:bW L M=some R)(hP:bm P tb){p q:Operand}{t:Nat}{args:Array Operand}{ts:Array TypeId}(ho:o.op= .call {callee:= .builtin .append,args:=args,argTypes:=ts})(hargs:args= #[p,q])(hts:ts= #[t,t]){d0:Nat}(hdst:o.dst=some d0){ti tj:TI}{zs:List Value}{e m d:Nat}{xv:SV}(hsrc:K8 σ m xv M.length (M.map f))(hd0:T8 d0 σ.n=true:=by kernel_rfl)(hgd:gd ops σ o=some true:=by kernel_rfl)(ht:find t tb=some ti:=by kernel_rfl)(hti:ti.d= .slice e:=by kernel_rfl)(he:find e tb=some tj:=by kernel_rfl)(hz:iP tj.zero=some zs:=by kernel_rfl)(hzl:tj.zero.length=tj.size:=by kernel_rfl)(hpos:T8 0 tj.size=true:=by kernel_rfl)(hm:m=tj.size:=by kernel_rfl)(hby:Uv tj.bytes 2048=true:=by kernel_rfl)(hs:ev σ p=some (.own d):=by kernel_rfl)(hdn:T8 d σ.n=true:=by kernel_rfl)(hob:find d σ.o=some (.arr e m L.length (L.map f)):=by kernel_rfl)(hx:ev σ q=some xv:=by kernel_rfl)(hf:(σ.kill d).names.contains d0=false:=by kernel_rfl):af P ops o σ ((σ.kill d).add d0 (.own d0) (.arr e m R.length (R.map f))):=JC h hP ho hargs hts hdst hd0 hgd ht hti he hz hzl hpos hm hby hs hdn hob hx hsrc hf
theorem vu{L:List Int}(hP:bm P tb){src dst:Nat}{x:Operand}(ho:o.op= .convert src dst x){e e' d:Nat}{ti tj tk:TI}(hgd:gd ops ν o=some true:=by kernel_rfl)(hok:kf ν o=true:=by kernel_rfl)(hs:find src tb=some ti:=by kernel_rfl)(hsd:ti.d= .slice e:=by kernel_rfl)(he:find e tb=some tj:=by kernel_rfl)(hed:tj.d= .int .u8:=by kernel_rfl)(hd:find dst tb=some tk:=by kernel_rfl)(hdd:tk.d= .str:=by kernel_rfl)(hx:ev ν x=some (.own d):=by kernel_rfl)(hob:find d ν.o=some (.arr e' 1 L.length (L.map (eI .u8))):=by kernel_rfl):bN P ops o ν (some (.tr (.str (strOfNums L)),none)):=JD hP ho hgd hok hs hsd he hed hd hdd hx hob
end
section
variable {P : Program} {tb : Tb} {ops : Array Oper} {o : Oper} {ν σ : SS}
def stS(tb:Tb)(ops:Array Oper)(σ:SS)(o:Oper):Option SS:=match o.op with
 | .store t x y=>match o.dst,gd ops σ o,find t tb,ev σ x,ev σ y with
  | none,some true,some ti,some (.ref d k),some v=>match find d σ.o,v.cells with
   | some (.box cs),some vs=>bif vs.all (tD σ)&&(V2 vs.length ti.size&&Uv (k+vs.length) cs.length)then some {σ with o:=(d,.box (cs.take k++vs++cs.drop (k+vs.length)))::σ.o.filter (fun p=>p.1 !=d)}else none
   | _,_=>none
  | _,_,_,_,_=>none
 | _=>none
theorem xT{α:Type}{b:Bool}{x y:α}(h:(bif b then some x else none)=some y):b=true/\x=y:=by
 cases b
 ·cases h
 ·exact⟨rfl,Um.inj h⟩
theorem RX(hP:bm P tb){σ':SS}(h:stS tb ops σ o=some σ'):af P ops o σ σ':=by
 unfold stS at h;split at h
 ·rename_i t x y ho;split at h
  ·rename_i ti d k v hdst hgd ht hx hy;split at h
   ·rename_i cs vs hob hc;obtain⟨h1,rfl⟩:=xT h;rw[Tp,Tp]at h1;exact A8 hP ho hdst hgd ht hx hob hy hc h1.1 (UY h1.2.1) (T3 h1.2.2)
   ·cases h
  ·cases h
 ·cases h
def l0(tb:Tb)(ops:Array Oper):Nat->List Oper->SS->Option SS
 | 0,_,σ=>some σ
 | n+1,o::rest,σ=>match uI tb ops σ o with
  | some r=>bif iS r o.dst σ then l0 tb ops n rest (σ.app o.dst r)else none
  | none=>match stS tb ops σ o with
   | some σ1=>l0 tb ops n rest σ1
   | none=>none
 | _+1,[],_=>none
theorem aj.CR(hP:bm P tb){Q:SS->Prop}{σ':SS}: ∀(n:Nat) {todo:List Oper} {σ:SS},l0 tb ops n todo σ=some σ'->aj P ops (todo.drop n) Q σ'->aj P ops todo Q σ
 | 0,todo,σ,h,k=>by
  injection h with h;subst h;exact k
 | n+1,[],σ,h,_=>by cases h
 | n+1,o::rest,σ,h,k=>by
  unfold l0 at h;split at h
  ·rename_i r hr;cases hf:iS r o.dst σ with
   | true=>
    rw[hf,cond_true]at h;exact aj.step (yG hP hr) (rh hf) (aj.CR hP n h k)
   | false=>rw[hf]at h;cases h
  ·split at h
   ·rename_i σ1 hs;exact aj.kN (RX hP hs) (aj.CR hP n h k)
   ·cases h
theorem aj.ck(hP:bm P tb){Q:SS->Prop}{todo:List Oper}(n:Nat)(σ':SS)(k:aj P ops (todo.drop n) Q σ')(h:(l0 tb ops n todo σ).map (fun s=>s.only (σ'.t.map (·.1)) (σ'.o.map (·.1)))=some σ':=by kernel_rfl):aj P ops todo Q σ:=by
 rw[Tn]at h;obtain⟨s,h1,h2⟩:=h;refine aj.CR hP n h1 ?_;rw[<-h2]at k;exact aj.le (Le.only _ _) k
variable {Q : Exit -> SS -> Prop} {id : Nat} {y : Code}
theorem sr(h:aj P ops ops.toList (fun s=>nx (swp P y Q) Q .normal s) σ):swp P (.seq (.region id ops false) y) Q σ:=ac (aL h)
theorem aj.nx{k:SS->Prop}(h:k σ):aj P ops [] (fun s=>nx k Q .normal s) σ:=aj.nil h
theorem bI.nx{D:List Nat}{σ0:SS}{k:SS->Prop}{done:List (Oper×EV)}(h:k σ)(hb:OO ops σ0 D done=true:=by kernel_rfl):bI P ops D σ0 (fun s=>nx k Q .normal s) done σ []:=bI.nil hb h
theorem ckn(hP:bm P tb){K:SS->Prop}{todo:List Oper}(n:Nat)(σ':SS)(k:K σ')(h:(l0 tb ops n todo σ).map (fun s=>s.only (σ'.t.map (·.1)) (σ'.o.map (·.1)))=some σ':=by kernel_rfl)(hz:(todo.drop n).isEmpty=true:=by kernel_rfl):aj P ops todo (fun s=>nx K Q .normal s) σ:=
 aj.ck hP n σ' (by rw[UX.1 hz];exact aj.nil k) h
theorem srk(hP:bm P tb)(σ':SS)(k:swp P y Q σ')(h:(l0 tb ops ops.toList.length ops.toList σ).map (fun s=>s.only (σ'.t.map (·.1)) (σ'.o.map (·.1)))=some σ':=by kernel_rfl):swp P (.seq (.region id ops false) y) Q σ:=
 sr (aj.ck hP ops.toList.length σ' (by rw[List.drop_length];exact aj.nil k) h)
theorem ad{c:Operand}{x y:Code}{b:Bool}{R:Type}{m1 m2:Option R}{r:R}(h:cond b m1 m2=some r)(ht:m1=some r->swp P x Q σ)(hf:m2=some r->swp P y Q σ)(hc:ev σ c=some (.tr (.bool b)):=by kernel_rfl):swp P (.cond c x y) Q σ:=Pm hc (fun hb=>ht (w5 hb h)) fun hb=>hf (w4 hb h)
theorem aj.cu{todo:List Oper}{K:SS->Prop}(ks:List (Nat×(Bool->Bool))){b:Bool}{R:Type}{m1 m2:Option R}{r:R}(h:cond b m1 m2=some r)(h1:m1=some r->aj P ops todo K (σ.y7 ks true))(h2:m2=some r->aj P ops todo K (σ.y7 ks false))(hk:σ.y7 ks b=σ:=by kernel_rfl):aj P ops todo K σ:=aj.cut ks hk (fun hb=>h1 (w5 hb h)) fun hb=>h2 (w4 hb h)
theorem bI.cu{todo:List Oper}{K:SS->Prop}{done:List (Oper×EV)}{D:List Nat}{σ0:SS}(ks:List (Nat×(Bool->Bool))){b:Bool}{R:Type}{m1 m2:Option R}{r:R}(h:cond b m1 m2=some r)(h1:m1=some r->bI P ops D σ0 K done (σ.y7 ks true) todo)(h2:m2=some r->bI P ops D σ0 K done (σ.y7 ks false) todo)(hk:σ.y7 ks b=σ:=by kernel_rfl):bI P ops D σ0 K done σ todo:=bI.cut ks hk (fun hb=>h1 (w5 hb h)) fun hb=>h2 (w4 hb h)
theorem inj{α:Type}{a b:α}(h:some a=some b):a=b:=Um.inj h
theorem fv{t:Nat}{x:SV}{dep:Bool}(hn:x.names=[]:=by kernel_rfl)(hf:x.tQ=true:=by kernel_rfl)(h:find t σ.t=some x:=by kernel_rfl):l7 P σ dep (.tmp t) (.v x):=Sl hn (SV.yc x hf) (qg h)
theorem ft{t:Nat}{x:SV}(hn:x.names=[]:=by kernel_rfl)(h:find t σ.t=some x:=by kernel_rfl):l7 P σ true (.tmp t) (.v x):=Sk hn (qg h)
def A1(tb:Tb)(σ:SS)(t T:Nat):Option SV:=match find t σ.t,find T tb with
 | some (.ref d 0),some ti=>match find d σ.o with
  | some (.box cs)=>ldc ti cs 0
  | _=>none
 | _,_=>none
def OQ(σ:SS)(t:Nat):Option SO:=match find t σ.t with
 | some (.own d)=>bif T8 d σ.n then find d σ.o else none
 | _=>none
theorem fc(hP:bm P tb){t T:Nat}{x:SV}{dep:Bool}(hn:x.names=[]:=by kernel_rfl)(hf:x.tQ=true:=by kernel_rfl)(h:A1 tb σ t T=some x:=by kernel_rfl):l7 P σ dep (.cell t T) (.v x):=by
 unfold A1 at h;split at h
 ·rename_i d ti ht hT;split at h
  ·rename_i cs ho;exact Sl hn (SV.yc x hf) (GI hP hT ht ho h)
  ·cases h
 ·cases h
theorem fo{t e m:Nat}{α:Type}{f:α->List Tr}{L:List α}{dep:Bool}(hf: ∀x,∀t∈f x,t.flat=true)(h:OQ σ t=some (oa e m f L):=by kernel_rfl):l7 P σ dep (.tmp t) (.own e m L.length (L.map f)):=by
 unfold OQ at h;split at h
 ·rename_i d ht;cases hb:T8 d σ.n with
  | true=>rw[hb,cond_true]at h;exact S9 (qg ht) h (dd hf L) hb
  | false=>rw[hb]at h;cases h
 ·cases h
theorem f1{ins:List fR}{dep:Bool}{t:ResultVar}{r:SR}(h:l7 P σ dep t r)(hn:noO ins=true:=by kernel_rfl):td P [t] ins ⟨[r],[],dep⟩ σ:=Sg hn h
theorem f2{ins:List fR}{dep:Bool}{t u:ResultVar}{r q:SR}(h:l7 P σ dep t r)(k:l7 P σ dep u q)(hn:noO ins=true:=by kernel_rfl):td P [t,u] ins ⟨[r,q],[],dep⟩ σ:=S6 hn h k
end
def xq:List fR->List SV
 | []=>[]
 | .v x::r=>x::xq r
 | .o _::r=> .any::xq r
theorem Dn: ∀{ins:List fR},noO ins=true->ins=(xq ins).map .v
 | [],_=>rfl
 | .v x::r,h=>by rw[xq,UK,<-Dn (ins:=r) h]
 | .o _::r,h=>by cases h
def HI(ν:SS)(o:Oper)(f:FuncId):Option (Bool×List SV):=match o.op with
 | .call {callee:= .value fo,args:=args,argTypes:=_}=>match ev ν fo,evL ν args.toList with
  | some (.clo f' caps),some xs=>bif V2 f' f then some (false,xs++caps)else none
  | some (.mth f' caps),some xs=>bif V2 f' f then some (true,caps++xs)else none
  | _,_=>none
 | _=>none
def lcT(ν:SS)(ops:Array Oper)(o:Oper)(f:FuncId)(ins:List fR)(res:jM):Option Bool×Bool×Bool×Bool×Bool×Option (List SV):=
 (gd ops ν o,kf ν o,noO ins,res.objs.isEmpty,(nY (o.dst.getD 0) res.outs).isSome,match HI ν o f with
  | some (_,zs)=>bif res.dep&& !(SV.names.namesL zs).isEmpty then none else EZ ν zs
  | none=>none)
section
variable {P : Program} {tb : Tb} {ops : Array Oper} {o : Oper} {ν σ : SS}
theorem HJ{f:FuncId}{me:Bool}{zs:List SV}(h:HI ν o f=some (me,zs)): ∃fo args ts caps xs,o.op= .call {callee:= .value fo,args:=args,argTypes:=ts}/\evL ν args.toList=some xs/\((me=false/\ev ν fo=some (.clo f caps)/\zs=xs++caps)\/(me=true/\ev ν fo=some (.mth f caps)/\zs=caps++xs)):=by
 unfold HI at h;split at h
 ·rename_i fo args ts ho;split at h
  ·rename_i f' caps xs hf hxs;obtain⟨h1,h2⟩:=xT h;injection h2 with h2 h3;have:=UY h1;subst this;exact⟨fo,args,ts,caps,xs,ho,hxs,.inl ⟨h2.symm,hf,h3.symm⟩⟩
  ·rename_i f' caps xs hf hxs;obtain⟨h1,h2⟩:=xT h;injection h2 with h2 h3;have:=UY h1;subst this;exact⟨fo,args,ts,caps,xs,ho,hxs,.inr ⟨h2.symm,hf,h3.symm⟩⟩
  ·cases h
 ·cases h
theorem xc{f:FuncId}(he:dH P f){ins:List fR}{res:jM}(hc:eG P f ins res)(h:lcT ν ops o f ins res=(some true,true,true,true,true,some (xq ins)):=by kernel_rfl):bN P ops o ν (nY (o.dst.getD 0) res.outs):=by
 unfold lcT at h;simp only[Prod.mk.injEq]at h;obtain⟨hgd,hok,hno,hobj,hret,hx⟩:=h;rw[Dn hno]at hc;have hobj:res.objs=[]:=UX.1 hobj;obtain⟨⟨x,y⟩,hp⟩:=T5.1 hret;rw[hp];split at hx
 ·rename_i me zs hz;obtain⟨fo,args,ts,caps,xs,ho,hxs,hcase⟩:=HJ hz;have hdr:(res.dep=true->SV.names.namesL zs=[])/\EZ ν zs=some (xq ins):=by
   cases hd:res.dep with
   | false=>rw[hd]at hx;exact⟨fun h=>(by cases h),hx⟩
   | true=>
    rw[hd]at hx;cases hn:(SV.names.namesL zs).isEmpty with
    | true=>rw[hn]at hx;exact⟨fun _=>UX.1 hn,hx⟩
    | false=>rw[hn]at hx;cases hx
  rcases hcase with⟨_,hf,rfl⟩ | ⟨_,hf,rfl⟩
  ·exact KO ho hgd hok hf hxs hdr.2 he hc hobj hdr.1 hp
  ·exact IY ho hgd hok hf hxs hdr.2 he hc hobj hdr.1 hp
 ·cases hx
def oAt:List fR->Nat->Option SO
 | .o y::_,0=>some y
 | _::r,n+1=>oAt r n
 | _,_=>none
def nX(res:jM):Nat:=match res.objs with
 | [(pl,_)]=>pl
 | _=>0
def BV(res:jM):SO:=match res.objs with
 | [(_,y)]=>y
 | _=> .box []
def zsE(ν:SS)(o:Oper)(f:FuncId):List SV:=match HI ν o f with
 | some (false,zs)=>zs
 | _=>[]
def dE(ν:SS)(o:Oper)(f:FuncId)(res:jM):Nat:=match(zsE ν o f)[nX res]? with
 | some z=>(nameOf z).getD 0
 | none=>0
def rsE(ν:SS)(o:Oper)(f:FuncId)(res:jM):List SV:=(zsE ν o f).take (nX res)++(zsE ν o f).drop (nX res+1)
def zE(ν:SS)(o:Oper)(f:FuncId)(res:jM):SV:=((zsE ν o f)[nX res]?).getD .any
def isArg(res:jM):Bool:=match res.outs with
 | [.arg k]=>V2 k (nX res)
 | _=>false
def ecT(al:Bool)(ν:SS)(ops:Array Oper)(o:Oper)(f:FuncId)(ins:List fR)(res:jM):Option Bool×Bool×(Bool×Bool×Bool×Bool×Bool×Bool)×Option SO×Option (List SV):=
 (gd ops ν o,kf ν o,(res.objs.length==1,(match(zsE ν o f)[nX res]? with | some z=>(nameOf z).isSome | none=>false),(match oAt ins (nX res)with | some y=>y.names.isEmpty | none=>false),(BV res).names.isEmpty,(bif al then isArg res else(nY (o.dst.getD 0) res.outs).isSome),noO (ins.eraseIdx (nX res))),find (dE ν o f res) ν.o,EZ ν (rsE ν o f res))
theorem OE: ∀{ins:List fR} {n:Nat} {y:SO},oAt ins n=some y->noO (ins.eraseIdx n)=true->ins=GP (xq (ins.eraseIdx n)) n y/\n<=(xq (ins.eraseIdx n)).length
 | .o y'::r,0,y,h,hn=>by
  injection h with h;subst h;have h1:=Dn (ins:=r) hn;refine⟨?_,Nat.zero_le _⟩;show fR.o y'::r=fR.o y'::(xq r).map .v;rw[<-h1]
 | .v x::r,n+1,y,h,hn=>by
  obtain⟨h1,h2⟩:=OE (ins:=r) (n:=n) h hn;refine⟨?_,Nat.succ_le_succ h2⟩;show fR.v x::r=fR.v x::GP (xq (r.eraseIdx n)) n y;rw[<-h1]
 | .o x::r,n+1,y,h,hn=>by cases hn
 | [],n,y,h,hn=>by cases n<;>cases h
 | .v x::r,0,y,h,hn=>by cases h
structure Rq (P:Program) (ν:SS) (ops:Array Oper) (o:Oper) (f:FuncId) (ins:List fR) (res:jM) (fl:Bool) (p:SV×Option SO):Prop where
 get: ∃y,find (dE ν o f res) ν.o=some y/\y.names=[]
 yn:(BV res).names=[]
 step: ∀σ cx a w,Sub ν σ->(∀k∈SV.names.namesL (rsE ν o f res),k≠dE ν o f res/\ ∀x,(k,x)∈σ.o->dE ν o f res∉x.names)->pj (some p) o.dst {σ with o:=(dE ν o f res,BV res)::σ.o.filter (fun q=>q.1 !=dE ν o f res)}->eY cx σ a w->iQ P ops o a w fun a' w'=>eY cx (SS.app {σ with o:=(dE ν o f res,BV res)::σ.o.filter (fun q=>q.1 !=dE ν o f res)} o.dst (some p)) a' w'
theorem Rh{al:Bool}{f:FuncId}(he:dH P f){ins:List fR}{res:jM}(hc:eG P f ins res)(fl:Bool)(hfl:fl=false->SV.names.namesL (rsE ν o f res)=[])(hfl':fl=true->res.dep=false/\xO (BV res))
  (h:ecT al ν ops o f ins res=(some true,true,(true,true,true,true,true,true),oAt ins (nX res),some (xq (ins.eraseIdx (nX res))))): ∃p,(nY (o.dst.getD 0) res.outs=some p\/(al=true/\p=(zE ν o f res,none)))/\(al=false->nY (o.dst.getD 0) res.outs=some p)/\Rq P ν ops o f ins res fl p:=by
 unfold ecT at h;simp only[Prod.mk.injEq]at h;obtain⟨hgd,hok,⟨hlen,hnm,hyn,hyn',hret,hno⟩,hfd,hro⟩:=h;obtain⟨⟨x,yo⟩,hp⟩: ∃p,(nY (o.dst.getD 0) res.outs=some p\/(res.outs=[.arg (nX res)]/\p=(zE ν o f res,none)))/\(al=false->nY (o.dst.getD 0) res.outs=some p)/\(al=true->p=(zE ν o f res,none)):=by
  cases al with
  | false=>
   obtain⟨p,hp⟩:=T5.1 hret;exact⟨p,.inl hp,fun _=>hp,fun h=>by cases h⟩
  | true=>
   have hret:isArg res=true:=hret;unfold isArg at hret;split at hret
   ·rename_i k hk;have:=UY hret;subst this;exact⟨_,.inr ⟨hk,rfl⟩,(fun h=>by cases h),fun _=>rfl⟩
   ·cases hret
 refine⟨(x,yo),?_,hp.2.1,?_⟩
 ·cases al with
  | false=>exact .inl (hp.2.1 rfl)
  | true=>exact .inr ⟨rfl,hp.2.2 rfl⟩
 replace hp:=hp.1;have hyn':(BV res).names=[]:=UX.1 hyn';split at hnm
 ·rename_i z hz;obtain⟨d,hd⟩:=T5.1 hnm;have hdE:dE ν o f res=d:=by unfold dE;rw[hz];simp only[];rw[hd];rfl
  split at hyn
  ·rename_i y hy;have hyn:y.names=[]:=UX.1 hyn;obtain⟨hins,hle⟩:=OE hy hno;have hzs: ∃zs,HI ν o f=some (false,zs)/\zsE ν o f=zs:=by
    unfold zsE at hz⊢;split at hz
    ·rename_i zs hc;exact⟨zs,hc,rfl⟩
    ·cases hz
   obtain⟨zs,hcz,hze⟩:=hzs;obtain⟨fo,args,ts,caps,xs,ho,hxs,hcase⟩:=HJ hcz;obtain⟨hf,hzz⟩:ev ν fo=some (.clo f caps)/\zs=xs++caps:=by
    rcases hcase with⟨_,h1,h2⟩ | ⟨h1,_⟩
    ·exact⟨h1,h2⟩
    ·cases h1
   have hlt:=(Tl.1 hz).1;have hsp:xs++caps=zs.take (nX res)++z::zs.drop (nX res+1):=by
    rw[<-hzz];rw[hze]at hz hlt
    conv=>lhs;rw[<-List.take_append_drop (nX res) zs]
    rw[Uc hlt];congr 2;rw[Tk hlt]at hz;exact Um.inj hz
   have hpl:(zs.take (nX res)).length=nX res:=by rw[TQ];rw[hze]at hlt;omega
   have hobj:res.objs=[(nX res,BV res)]:=by
    have hl:res.objs.length=1:=by simpa using hlen
    unfold nX BV
    match hq:res.objs,hl with
    | [(a,b)],_=>rfl
   have hrs:rsE ν o f res=zs.take (nX res)++zs.drop (nX res+1):=by unfold rsE;rw[hze]
   rw[hrs]at hro hfl;rw[hins]at hc;refine⟨⟨y,hfd.trans hy,hyn⟩,hyn',?_⟩;rw[hrs,hdE];rw[hdE]at hfd;refine Kw ho hgd hok hf hxs hsp hd (hfd.trans hy) hyn hpl hro he hc hobj hyn' fl hfl hfl' ?_;rcases hp with hp | ⟨hp1,hp2⟩
   ·exact .inl hp
   ·have hzE:zE ν o f res=z:=by unfold zE;rw[hz];rfl
    rw[hzE]at hp2;injection hp2 with hp2 hp3;exact .inr ⟨hp1,hp2,hp3⟩
  ·cases hyn
 ·cases hnm
def ecS(σ:SS)(o:Oper)(f:FuncId)(res:jM):SS:=SS.app {σ with o:=(dE σ o f res,BV res)::σ.o.filter (fun q=>q.1 !=dE σ o f res)} o.dst (nY (o.dst.getD 0) res.outs)
def fB(σ:SS)(o:Oper)(f:FuncId)(res:jM):Bool×Bool:=(SB σ (dE σ o f res) (SV.names.namesL (rsE σ o f res)),iS (nY (o.dst.getD 0) res.outs) o.dst {σ with o:=(dE σ o f res,BV res)::σ.o.filter (fun q=>q.1 !=dE σ o f res)})
theorem N5{f:FuncId}{ins:List fR}{res:jM}{fl:Bool}(h: ∃p,(nY (o.dst.getD 0) res.outs=some p\/(false=true/\p=(zE σ o f res,none)))/\(false=false->nY (o.dst.getD 0) res.outs=some p)/\Rq P σ ops o f ins res fl p)(hb:fB σ o f res=(true,true)):af P ops o σ (ecS σ o f res):=by
 obtain⟨p,_,hp,hk⟩:=h;replace hp:=hp rfl;unfold fB at hb;injection hb with hb1 hb2;unfold ecS;rw[hp]at hb2⊢;exact fun c a w hr=>hk.step σ c a w (Sub.refl σ) (QV hb1) (rh hb2) hr
theorem xe{f:FuncId}(he:dH P f){ins:List fR}{res:jM}(hc:eG P f ins res)(h:ecT false σ ops o f ins res=(some true,true,(true,true,true,true,true,true),oAt ins (nX res),some (xq (ins.eraseIdx (nX res)))):=by kernel_rfl)(hn:(SV.names.namesL (rsE σ o f res)).isEmpty=true:=by kernel_rfl)(hb:fB σ o f res=(true,true):=by kernel_rfl):af P ops o σ (ecS σ o f res):=
 N5 (Rh he hc false (fun _=>UX.1 hn) (fun h=>by cases h) h) hb
theorem fa{pl t:Nat}{dep:Bool}(h:find t σ.t=some (.own (hi pl)):=by kernel_rfl)(hx:(find (hi pl) σ.o).isSome=true:=by kernel_rfl):l7 P σ dep (.tmp t) (.arg pl):=by
 obtain⟨x,hx⟩:=T5.1 hx;exact⟨x,qg h,aJ hx⟩
theorem N6{f:FuncId}{ins:List fR}{res:jM}{fl:Bool}{nw:List Nat}(h: ∃p,(nY (o.dst.getD 0) res.outs=some p\/(false=true/\p=(zE ν o f res,none)))/\(false=false->nY (o.dst.getD 0) res.outs=some p)/\Rq P ν ops o f ins res fl p)(hb:(SV.names.namesL (rsE ν o f res)).all (fun k=>k !=dE ν o f res)=true):pk P ops o ν ⟨nY (o.dst.getD 0) res.outs,true,some (dE ν o f res,BV res),nw⟩:=by
 obtain⟨p,_,hp,hk⟩:=h;rw[hp rfl];obtain⟨y,hy,_⟩:=hk.get;exact fun σ c a w hs hq hf hr=>hk.step σ c a w hs (fun k hk'=>⟨by simpa using Tt.1 hb k hk',fun q hq'=>hq _ rfl (k,q) hq'⟩) (hf.kt (hs.o _ (aJ hy)) hk.yn) hr
theorem xw{f:FuncId}(he:dH P f){ins:List fR}{res:jM}{nw:List Nat}(hc:eG P f ins res)(h:ecT false ν ops o f ins res=(some true,true,(true,true,true,true,true,true),oAt ins (nX res),some (xq (ins.eraseIdx (nX res)))):=by kernel_rfl)(hn:(SV.names.namesL (rsE ν o f res)).isEmpty=true:=by kernel_rfl):pk P ops o ν ⟨nY (o.dst.getD 0) res.outs,true,some (dE ν o f res,BV res),nw⟩:=
 N6 (Rh he hc false (fun _=>UX.1 hn) (fun h=>by cases h) h) (by rw[UX.1 hn];rfl)
end
end Go.Proofs.YtbdbpakffniboaaGreatDoor.Sh
