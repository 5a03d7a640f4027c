/- A part of the proof. -/
import Derived.Test.YtbdbpakffniboaaGreatDoorRows
import Derived.WalkKit
import Derived.WalkSpells
import Derived.WalkLawsBesides
import Derived.Orders
import Derived.Laws.AppendOwn
import Derived.Laws.OwnMore
import Derived.Laws.MakeOwn
import Derived.KernelRfl
import Derived.Great.BuildSlice
open Array renaming length_toList->TB,getElem?_eq_some_iff->TR,getElem?_eq_getElem->TW,getElem?_toList->Ub,getD_eq_getD_getElem?->Uu,getElem?_append_left->UG,eq_empty_of_size_eq_zero->UQ,getD->UR,getElem?_map->U5,getElem?_append_right->Vo,replicate->VM
open BitVec renaming ofInt->Us
open Bool renaming and_eq_true->Tp,not_true->TO,or_eq_true->TT,not_eq_true'->Un,false_or->VW,false_eq_true->Wu
open ByteArray renaming mk->Tj
open List renaming getElem?_eq_getElem->Tk,getElem?_eq_some_iff->Tl,mem_of_getElem?->Tm,getElem?_map->Tq,getElem?_append_right->Ts,all_eq_true->Tt,mem_filter->Tu,mem_cons->Tx,length_append->Tz,getElem?_append_left->TE,mem_map->TF,mem_append_right->TJ,mem_flatMap->TK,getD_eq_getElem?_getD->TL,length_map->TM,mem_append->TN,mem_cons_self->TP,length_take->TQ,range->TU,append_assoc->TX,mem_cons_of_mem->T1,mem_range->T2,take_of_length_le->T4,mem_append_left->T7,getElem?_take_of_lt->T9,eq_nil_of_length_eq_zero->Uf,size_toArray->Uk,append_nil->Up,mem_iff_getElem?->Uq,length_drop->Ux,eq_nil_iff_forall_not_mem->UB,replicate->UH,getElem?_set_self->UW,getElem?_drop->U7,contains_eq_mem->U8,getElem?_take->Vl,getElem?_range->Vq,mem_filterMap->VK,getElem?_set_ne->Wd,getElem?_toArray->WH
open Nat renaming le_refl->TA,mul_le_mul_right->TY,lt_of_lt_of_le->Ud,zero_add->Ue,zero_le->Ul,le_trans->Ut,add_zero->Uw,add_mul->UT,mul_comm->Vc,lt_trichotomy->Vf,lt_or_ge->Vj,mod_eq_of_lt->Vt
open Option renaming bind_some->Ti,map_eq_some_iff->Tn,some->Um,map_some->UO,getD_some->Vu,map_none->VO
namespace Go.Proofs.YtbdbpakffniboaaGreatDoor.Sh
open Go.RowKit
inductive Tr where
 | int (k:IntKind) (n:Int)
 | bool (b:Bool)
 | str (s:ByteArray)
 | sl (n:Nat) (es:List (List Tr))
 | nil
 | nilf
inductive TV (w:World) (S:Nat->Prop):Tr->Value->Prop
 | int (k:IntKind) (n:Int):TV w S (.int k n) (.int k n)
 | bool (b:Bool):TV w S (.bool b) (.bool b)
 | str (s:ByteArray) (h:s.size<=maxLen):TV w S (.str s) (.string s)
 | sl (es:List (List Tr)) (A:Option Addr) (n c m:Nat) (u:Nat->Nat->Value) (hl:es.length=n) (hc:n<=c) (hm:c<=maxLen) (he: ∀e∈es,e.length=m)
    (hu: ∀(i:Nat) e (j:Nat) t,es[i]? =some e->e[j]? =some t->TV w S t (u i j))
    (ha:es≠[]-> ∃b o,A=some ⟨b,o,none⟩/\S b/\ ∀(i:Nat) e (j:Nat) t,es[i]? =some e->e[j]? =some t->w.cell? ⟨b,o+i*m+j,none⟩=some (u i j)):TV w S (.sl n es) (.slice A n c)
 | nil:TV w S .nil (.slice none 0 0)
 | nilf:TV w S .nilf .nilFunc
theorem TV.keep{w w':World}{S S':Nat->Prop}{t:Tr}{v:Value}(h:TV w S t v)(hk: ∀b,S b->w'.heap[b]? =w.heap[b]?)(hs: ∀b,S b->S' b):TV w' S' t v:=by
 induction h with
 | int k n=>exact .int k n
 | bool b=>exact .bool b
 | nil=>exact .nil
 | nilf=>exact .nilf
 | str s h=>exact .str s h
 | sl es A n c m u hl hc hm he hu ha ih=>
  refine .sl es A n c m u hl hc hm he ih fun h0=> ?_;obtain⟨b,o,h1,h2,h3⟩:=ha h0;exact⟨b,o,h1,hs b h2,fun i e j t hi hj=>(World.cell?_of_block (w:=w) (hk b h2)).trans (h3 i e j t hi hj)⟩
def Tr.flat:Tr->Bool
 | .sl _ _=>false
 | _=>true
theorem TV.free{w w':World}{S S':Nat->Prop}{t:Tr}{v:Value}(h:TV w S t v)(hf:t.flat=true):TV w' S' t v:=by
 cases h with
 | int k n=>exact .int k n
 | bool b=>exact .bool b
 | str s h=>exact .str s h
 | nil=>exact .nil
 | nilf=>exact .nilf
 | sl=>cases hf
inductive SV where
 | tr (t:Tr)
 | agg (cs:List SV)
 | tup (cs:List SV)
 | ptr (cs:List SV) (o:Nat)
 | ref (d o:Nat)
 | eref (d m i j:Nat)
 | own (d:Nat)
 | clo (f:FuncId) (caps:List SV)
 | mth (f:FuncId) (fs:List SV)
 | any
inductive Sh where
 | flat
 | sl (e m:Nat) (ss:List Sh)
inductive SO where
 | box (cs:List SV)
 | arr (e m n:Nat) (es:List (List Tr))
 | deep (e m n:Nat) (ss:List Sh) (es:List (List Tr))
 | hol (e m n:Nat) (ss:List Sh) (es:List (List Tr)) (i j d:Nat)
def cN:Value->Option Nat
 | .pointer (some a)=>some a.block
 | .slice (some a) _ _=>some a.block
 | _=>none
inductive cT (w:World) (S:Nat->Prop) (β:Nat->Value):SV->Value->Prop
 | tr (t:Tr) (v:Value) (h:TV w S t v):cT w S β (.tr t) v
 | agg (cs:List SV) (vs:Array Value) (hl:cs.length=vs.size) (h: ∀(j:Nat) c v,cs[j]? =some c->vs[j]? =some v->cT w S β c v):cT w S β (.agg cs) (.agg vs)
 | tup (cs:List SV) (vs:Array Value) (hl:cs.length=vs.size) (h: ∀(j:Nat) c v,cs[j]? =some c->vs[j]? =some v->cT w S β c v):cT w S β (.tup cs) (.tuple vs)
 | ptr (cs:List SV) (o g b:Nat) (u:Nat->Value) (hs:S g) (h: ∀(j:Nat) c,cs[j]? =some c->cT w S β c (u j)) (hc: ∀(j:Nat) c,cs[j]? =some c->w.cell? ⟨g,b+j,none⟩=some (u j)):cT w S β (.ptr cs o) (.pointer (some ⟨g,b+o,none⟩))
 | ref (d o g:Nat) (h:β d= .pointer (some ⟨g,0,none⟩)):cT w S β (.ref d o) (.pointer (some ⟨g,o,none⟩))
 | eref (d m i j g n c:Nat) (h:β d= .slice (some ⟨g,0,none⟩) n c):cT w S β (.eref d m i j) (.pointer (some ⟨g,i*m+j,none⟩))
 | own (d:Nat):cT w S β (.own d) (β d)
 | clo (f:FuncId) (caps:List SV) (vs:Array Value) (hl:caps.length=vs.size) (h: ∀(j:Nat) c v,caps[j]? =some c->vs[j]? =some v->cT w S β c v):cT w S β (.clo f caps) (.func (.func f) #[] vs)
 | mth (f:FuncId) (fs:List SV) (vs:Array Value) (hl:fs.length=vs.size) (h: ∀(j:Nat) c v,fs[j]? =some c->vs[j]? =some v->cT w S β c v):cT w S β (.mth f fs) (.func (.func f) vs #[])
 | any (v:Value) (h:v.cells= #[v]):cT w S β .any v
theorem cT.keep{w w':World}{S S':Nat->Prop}{β:Nat->Value}{t:SV}{v:Value}(h:cT w S β t v)(hk: ∀b,S b->w'.heap[b]? =w.heap[b]?)(hs: ∀b,S b->S' b):cT w' S' β t v:=by
 induction h with
 | tr t v h=>exact .tr t v (h.keep hk hs)
 | agg cs vs hl h ih=>exact .agg cs vs hl ih
 | tup cs vs hl h ih=>exact .tup cs vs hl ih
 | ptr cs o g b u hg h hc ih=>exact .ptr cs o g b u (hs g hg) ih fun j c hj=>(World.cell?_of_block (w:=w) (hk g hg)).trans (hc j c hj)
 | ref d o g h=>exact .ref d o g h
 | eref d m i j g n c h=>exact .eref d m i j g n c h
 | own d=>exact .own d
 | clo f caps vs hl h ih=>exact .clo f caps vs hl ih
 | mth f caps vs hl h ih=>exact .mth f caps vs hl ih
 | any v h=>exact .any v h
def SV.names:SV->List Nat
 | .tr _=>[]
 | .agg cs=>namesL cs
 | .tup cs=>namesL cs
 | .ptr cs _=>namesL cs
 | .ref d _=>[d]
 | .eref d _ _ _=>[d]
 | .own d=>[d]
 | .clo _ cs=>namesL cs
 | .mth _ cs=>namesL cs
 | .any=>[]
where namesL:List SV->List Nat
 | []=>[]
 | c::cs=>c.names++namesL cs
theorem SV.cf{c:SV}{cs:List SV}(h:c∈cs){d:Nat}(hd:d∈c.names):d∈SV.names.namesL cs:=by
 induction cs with
 | nil=>cases h
 | cons x xs ih=>
  unfold SV.names.namesL;rcases Tx.1 h with rfl | h
  · exact T7 _ hd
  · exact TJ _ (ih h)
theorem cT.agree{w:World}{S:Nat->Prop}{β β':Nat->Value}{t:SV}{v:Value}(h:cT w S β t v):(∀d∈t.names,β' d=β d)->cT w S β' t v:=by
 induction h with
 | tr t v h=>exact fun _=> .tr t v h
 | agg cs vs hl h ih=>exact fun hb=> .agg cs vs hl fun j c v hc hv=>ih j c v hc hv fun d hd=>hb d (SV.cf (Tm hc) hd)
 | tup cs vs hl h ih=>exact fun hb=> .tup cs vs hl fun j c v hc hv=>ih j c v hc hv fun d hd=>hb d (SV.cf (Tm hc) hd)
 | ptr cs o g b u hg h hc ih=>exact fun hb=> .ptr cs o g b u hg (fun j c hj=>ih j c hj fun d hd=>hb d (SV.cf (Tm hj) hd)) hc
 | ref d o g h=>exact fun hb=> .ref d o g ((hb d (by simp[SV.names])).trans h)
 | eref d m i j g n c h=>exact fun hb=> .eref d m i j g n c ((hb d (by simp[SV.names])).trans h)
 | own d=>exact fun hb=>by rw[<-hb d (by simp[SV.names])];exact .own d
 | clo f caps vs hl h ih=>exact fun hb=> .clo f caps vs hl fun j c v hc hv=>ih j c v hc hv fun d hd=>hb d (SV.cf (Tm hc) hd)
 | mth f caps vs hl h ih=>exact fun hb=> .mth f caps vs hl fun j c v hc hv=>ih j c v hc hv fun d hd=>hb d (SV.cf (Tm hc) hd)
 | any v h=>exact fun _=> .any v h
structure SS where
 n:Nat
 t:List (Nat×SV)
 o:List (Nat×SO)
structure dA (X:Nat->Prop) (w w':World):Prop where
 os:w'.os=w.os
 tape:w'.tape=w.tape
 output:w'.output=w.output
 size:w.heap.size<=w'.heap.size
 block: ∀k,k<w.heap.size-> ¬X k->w'.heap[k]? =w.heap[k]?
theorem dA.refl(X:Nat->Prop)(w:World):dA X w w:=⟨rfl,rfl,rfl,TA _,fun _ _ _=>rfl⟩
theorem dA.trans{X:Nat->Prop}{a b c:World}(h:dA X a b)(k:dA X b c):dA X a c:=
 ⟨k.os.trans h.os,k.tape.trans h.tape,k.output.trans h.output,Ut h.size k.size,fun i hi hx=>(k.block i (Ud hi h.size) hx).trans (h.block i hi hx)⟩
theorem dA.drew(X:Nat->Prop)(w:World):dA X w w.drew:=⟨rfl,rfl,rfl,TA _,fun _ _ _=>rfl⟩
theorem dA.alloc(X:Nat->Prop)(w:World)(o:Obj):dA X w (w.alloc o):=⟨rfl,rfl,rfl,by simp,fun k hk _=>Below.heap_alloc w o k hk⟩
theorem dA.of{X Y:Nat->Prop}{a b c:World}(h:dA X a b)(k:dA Y b c)(hy: ∀g,Y g->g<a.heap.size->X g):dA X a c:=
 ⟨k.os.trans h.os,k.tape.trans h.tape,k.output.trans h.output,Ut h.size k.size,fun i hi hx=>(k.block i (Ud hi h.size) fun hY=>hx (hy i hY hi)).trans (h.block i hi hx)⟩
theorem dA.below{w w':World}(h:dA (fun _=>False) w w'):Below w.heap.size w w':=⟨h.os,h.tape,h.output,h.size,fun k hk=>h.block k hk id⟩
theorem dA.pH{w w':World}(h:Below w.heap.size w w')(X:Nat->Prop):dA X w w':=⟨h.os,h.tape,h.output,h.size,fun k hk _=>h.block k hk⟩
theorem dA.OH{w w':World}{r:Option Nat}(h:w.grownBy w' r):dA (fun g=>r=some g) w w':=⟨h.os,h.tape,h.output,h.size,fun k hk hx=>h.block k hk fun e=>hx e.symm⟩
inductive FP (w:World):Sh->Value->Nat->Prop
 | here (e m:Nat) (ss:List Sh) (v:Value) (g:Nat) (h:cN v=some g):FP w (.sl e m ss) v g
 | sub (e m:Nat) (ss:List Sh) (b n c i j:Nat) (s:Sh) (u:Value) (g:Nat) (hi:i<n) (hj:j<m) (hs:ss[j]? =some s) (hu:w.cell? ⟨b,i*m+j,none⟩=some u) (h:FP w s u g):FP w (.sl e m ss) (.slice (some ⟨b,0,none⟩) n c) g
inductive DV (w:World):Sh->Tr->Value->Prop
 | flat (t:Tr) (v:Value) (hf:t.flat=true) (h:TV w (fun _=>False) t v):DV w .flat t v
 | sl (e m:Nat) (ss:List Sh) (n:Nat) (es:List (List Tr)) (v:Value) (xs:List Value) (hn:es.length=n) (hown:w.ownsRow 0 e m v n xs) (hc:ss.length=m) (he: ∀x∈es,x.length=m)
    (h: ∀(i:Nat) x (j:Nat) s t u,es[i]? =some x->ss[j]? =some s->x[j]? =some t->xs[i*m+j]? =some u->DV w s t u)
    (hs: ∀(i j:Nat) s u g,j<m->ss[j]? =some s->xs[i*m+j]? =some u->FP w s u g->cN v≠some g)
    (ha: ∀(i j i' j':Nat) s s' u u' g,j<m->j'<m->ss[j]? =some s->ss[j']? =some s'->xs[i*m+j]? =some u->xs[i'*m+j']? =some u'->FP w s u g->FP w s' u' g->i=i'/\j=j'):DV w (.sl e m ss) (.sl n es) v
theorem kg{w:World}{e m n:Nat}{b c:Nat}{xs:List Value}(h:w.ownsRow 0 e m (.slice (some ⟨b,0,none⟩) n c) n xs){i j:Nat}(hi:i<n)(hj:j<m):w.cell? ⟨b,i*m+j,none⟩=xs[i*m+j]? :=by
 rcases h.2 with h2 | ⟨g,cap,cur,hv,hb,hg,h3,h4,h5,h6⟩
 ·cases h2.1
 ·injection hv with hv1 _ _;injection hv1 with hv1;injection hv1 with hv1;subst hv1;have hlt:i*m+j<n*m:=by
    have:(i+1)*m<=n*m:=TY m hi;rw[UT,Nat.one_mul]at this;omega
  rw[cell_of_row w b _ cur e (0,0) hg,<-h6,Vl,if_pos hlt,Ub]
theorem FP.lt{w:World}{s:Sh}{t:Tr}{v:Value}(h:DV w s t v): ∀{g:Nat},FP w s v g->g<w.heap.size:=by
 induction h with
 | flat t v hf h=>intro g hg;cases hg
 | sl e m ss n es v xs hn hown hc he h hs ha ih=>
  intro g hg;cases hg with
  | here _ _ _ _ _ hb=>
    rcases hown.2 with⟨rfl,_⟩ | ⟨g',cap,cur,rfl,hb',hg',r⟩
    · cases hb
    · injection hb with hb;subst hb;exact(TR.1 hg').1
  | sub _ _ _ b k c i j s u _ hi hj hss hu hf=>
    have hk:k=n:=by
      rcases hown.2 with⟨h1,_⟩ | ⟨g',cap,cur,h1,_⟩
      ·cases h1
      ·injection h1 with _ h1
    subst hk;rw[kg hown hi hj]at hu;have hx:es[i]? =some es[i]:=Tk (by omega);have hxl:=he _ (Tm hx);exact ih i _ j s _ u hx hss (Tk (by omega)) hu hf
theorem DV.keep{w w':World}{s:Sh}{t:Tr}{v:Value}(h:DV w s t v):(∀g,FP w s v g->w'.heap[g]? =w.heap[g]?)->DV w' s t v/\ ∀g,FP w' s v g↔FP w s v g:=by
 induction h with
 | flat t v hf h=>exact fun _=>⟨.flat t v hf (h.free hf),fun g=>⟨fun h=>(by cases h),fun h=>(by cases h)⟩⟩
 | sl e m ss n es v xs hn hown hc he h hs ha ih=>
  intro hk;have hown':w'.ownsRow 0 e m v n xs:=by
    refine⟨hown.1,?_⟩;rcases hown.2 with h2 | ⟨g,cap,cur,hv,hb,hg,r⟩
    · exact .inl h2
    · subst hv;exact .inr ⟨g,cap,cur,rfl,hb,(hk g (.here _ _ _ _ _ rfl)).trans hg,r⟩
  have hsub: ∀(i:Nat) x (j:Nat) s t u,es[i]? =some x->ss[j]? =some s->x[j]? =some t->xs[i*m+j]? =some u->DV w' s t u/\ ∀g,FP w' s u g↔FP w s u g:=fun i x j s t u h1 h2 h3 h4=>ih i x j s t u h1 h2 h3 h4 fun g hg=>by
    have hi:=(Tl.1 h1).1;have hj:=(Tl.1 h2).1;rcases hown.2 with⟨rfl,h0⟩ | ⟨b,cap,cur,rfl,_⟩
    · omega
    · exact hk g (.sub _ _ _ b n cap i j s u g (by omega) (by omega) h2 (by rw[kg hown (by omega) (by omega)];exact h4) hg)
  have hat: ∀(i j:Nat) s u,j<m->ss[j]? =some s->xs[i*m+j]? =some u-> ∀g,FP w' s u g↔FP w s u g:=fun i j s u hj h2 h4=>by
    have hlt:=(Tl.1 h4).1;rw[hown.1]at hlt;have hi:i<n:=by
      rcases Vj i n with h | h
      ·exact h
      ·have:=TY m h;omega
    have hx:es[i]? =some es[i]:=Tk (by omega);have hxl:=he _ (Tm hx);exact(hsub i _ j s _ u hx h2 (Tk (by omega)) h4).2
  refine⟨.sl e m ss n es v xs hn hown' hc he (fun i x j s t u h1 h2 h3 h4=>(hsub i x j s t u h1 h2 h3 h4).1) (fun i j s u g hj h1 h2 h3=>hs i j s u g hj h1 h2 ((hat i j s u hj h1 h2 g).1 h3)) (fun i j i' j' s s' u u' g hj hj' h1 h2 h3 h4 h5 h6=>ha i j i' j' s s' u u' g hj hj' h1 h2 h3 h4 ((hat i j s u hj h1 h3 g).1 h5) ((hat i' j' s' u' hj' h2 h4 g).1 h6)),fun g=>⟨fun hg=> ?_,fun hg=> ?_⟩⟩
  · cases hg with
    | here _ _ _ _ _ hb=>exact .here _ _ _ _ _ hb
    | sub _ _ _ b k c i j s u _ hi hj hss hu hf=>
      have hkn:k=n:=by
       rcases hown.2 with⟨h1,_⟩ | ⟨g',cap,cur,h1,_⟩
       ·cases h1
       ·injection h1 with _ h1
      subst hkn;rw[kg hown' hi hj]at hu;exact .sub _ _ _ b k c i j s u g hi hj hss (by rw[kg hown hi hj];exact hu) ((hat i j s u hj hss hu g).1 hf)
  · cases hg with
    | here _ _ _ _ _ hb=>exact .here _ _ _ _ _ hb
    | sub _ _ _ b k c i j s u _ hi hj hss hu hf=>
      have hkn:k=n:=by
       rcases hown.2 with⟨h1,_⟩ | ⟨g',cap,cur,h1,_⟩
       ·cases h1
       ·injection h1 with _ h1
      subst hkn;rw[kg hown hi hj]at hu;exact .sub _ _ _ b k c i j s u g hi hj hss (by rw[kg hown' hi hj];exact hu) ((hat i j s u hj hss hu g).2 hf)
theorem Jo{w:World}{Sc:Nat->Prop}{e m n:Nat}{es:List (List Tr)}{v:Value}{xs:List Value}(hn:es.length=n)(hown:w.ownsRow 0 e m v n xs)(he: ∀x∈es,x.length=m)
  (hh: ∀(i:Nat) x (j:Nat) t u,es[i]? =some x->x[j]? =some t->xs[i*m+j]? =some u->TV w Sc t u) (hc: ∀g,cN v=some g->Sc g):TV w Sc (.sl n es) v:=by
 have hl:=hown.1;have hx: ∀(i:Nat) x (j:Nat) t,es[i]? =some x->x[j]? =some t-> ∃u,xs[i*m+j]? =some u:=by
  intro i x j t hi hj;have h1:=(Tl.1 hi).1;have h2:=(Tl.1 hj).1;have h3:=he x (Tm hi);have h4:i*m+j<n*m:=by
    have:(i+1)*m<=n*m:=TY _ (by omega);rw[UT]at this;omega
  exact⟨xs[i*m+j]'(by omega),Tk _⟩
 have hu: ∀(i:Nat) x (j:Nat) t,es[i]? =some x->x[j]? =some t->TV w Sc t (xs.getD (i*m+j) undef):=by
  intro i x j t hi hj;obtain⟨u,hu⟩:=hx i x j t hi hj;rw[TL,hu];exact hh i x j t u hi hj hu
 rcases hown.2 with⟨h1,h2⟩ | ⟨g,cap,cur,h1,_,h2,h3,h4,h5,h6⟩
 ·rw[h1];subst h2;have:es=[]:=Uf hn;subst this;exact .sl [] none 0 0 m (fun _ _=>default) rfl (TA _) (by simp[maxLen]) (by simp) (fun i x j t hi=>by simp at hi) (by simp)
 ·rw[h1];refine .sl es _ n cap m (fun i j=>xs.getD (i*m+j) undef) hn h3 h4 he hu fun _=>⟨g,0,rfl,hc g (by rw[h1];rfl),fun i x j t hi hj=> ?_⟩;obtain⟨u,hu'⟩:=hx i x j t hi hj;have h7:=hown.cells (g:=g) (by rw[h1];rfl) (i*m+j) u hu';rw[Addr.add_lit]at h7;rw[Ue]at h7⊢;rw[h7,TL,hu'];rfl
theorem DV.tree{w:World}{Sc:Nat->Prop}{s:Sh}{t:Tr}{v:Value}(h:DV w s t v):(∀g,FP w s v g->Sc g)->TV w Sc t v:=by
 induction h with
 | flat t v hf h=>exact fun _=>h.free hf
 | sl e m ss n es v xs hn hown hc he h hs ha ih=>
  intro hk;refine Jo hn hown he (fun i x j t u hi hj hu=> ?_) fun g hg=>hk g (.here _ _ _ _ _ hg);have h1:=(Tl.1 hi).1;have h2:=(Tl.1 hj).1;have h3:=he x (Tm hi);have hsj:ss[j]? =some ss[j]:=Tk (by omega);refine ih i x j _ t u hi hsj hj hu fun g hg=> ?_;rcases hown.2 with⟨rfl,h0⟩ | ⟨b,cap,cur,rfl,_⟩
  · omega
  · exact hk g (.sub _ _ _ b n cap i j _ u g (by omega) (by omega) hsj (by rw[kg hown (by omega) (by omega)];exact hu) hg)
structure qH (w:World) (e m:Nat) (ss:List Sh) (n:Nat) (es:List (List Tr)) (v:Value) (xs:List Value):Prop where
 hn:es.length=n
 hown:w.ownsRow 0 e m v n xs
 hc:ss.length=m
 he: ∀x∈es,x.length=m
 h: ∀(i:Nat) x (j:Nat) s t u,es[i]? =some x->ss[j]? =some s->x[j]? =some t->xs[i*m+j]? =some u->DV w s t u
 hs: ∀(i j:Nat) s u g,j<m->ss[j]? =some s->xs[i*m+j]? =some u->FP w s u g->cN v≠some g
 ha: ∀(i j i' j':Nat) s s' u u' g,j<m->j'<m->ss[j]? =some s->ss[j']? =some s'->xs[i*m+j]? =some u->xs[i'*m+j']? =some u'->FP w s u g->FP w s' u' g->i=i'/\j=j'
theorem DV.row{w:World}{e m n:Nat}{ss:List Sh}{es:List (List Tr)}{v:Value}(h:DV w (.sl e m ss) (.sl n es) v): ∃xs,qH w e m ss n es v xs:=by
 cases h with
 | sl _ _ _ _ _ _ xs hn hown hc he h hs ha=>exact⟨xs,hn,hown,hc,he,h,hs,ha⟩
theorem qH.dv{w:World}{e m n:Nat}{ss:List Sh}{es:List (List Tr)}{v:Value}{xs:List Value}(h:qH w e m ss n es v xs):DV w (.sl e m ss) (.sl n es) v:= .sl e m ss n es v xs h.hn h.hown h.hc h.he h.h h.hs h.ha
theorem qH.at{w:World}{e m n:Nat}{ss:List Sh}{es:List (List Tr)}{v:Value}{xs:List Value}(h:qH w e m ss n es v xs){i j:Nat}{u:Value}(hj:j<m)(hu:xs[i*m+j]? =some u):i<n/\ ∃s x t,ss[j]? =some s/\es[i]? =some x/\x[j]? =some t/\DV w s t u:=by
 have hlt:=(Tl.1 hu).1;rw[h.hown.1]at hlt;have hi:i<n:=by
  rcases Vj i n with h1 | h1
  · exact h1
  · have:=TY m h1;omega
 have h1:=h.hn;have h2:=h.hc;have hx:es[i]? =some es[i]:=Tk (by omega);have hxl:=h.he _ (Tm hx);have hs:ss[j]? =some ss[j]:=Tk (by omega);have ht:(es[i])[j]? =some (es[i])[j]:=Tk (by omega);exact⟨hi,_,_,_,hs,hx,ht,h.h i _ j _ _ u hx hs ht hu⟩
theorem qH.fp{w:World}{e m n:Nat}{ss:List Sh}{es:List (List Tr)}{v:Value}{xs:List Value}(h:qH w e m ss n es v xs){i j:Nat}{s:Sh}{u:Value}{g:Nat}(hj:j<m)(hs:ss[j]? =some s)(hu:xs[i*m+j]? =some u)(hg:FP w s u g):FP w (.sl e m ss) v g:=by
 obtain⟨hi,_⟩:=h.at hj hu;rcases h.hown.2 with⟨_,h0⟩ | ⟨b,cap,cur,rfl,_⟩
 ·omega
 ·exact .sub _ _ _ b n cap i j s u g hi hj hs (by rw[kg h.hown hi hj];exact hu) hg
theorem qH.fp'{w:World}{e m n:Nat}{ss:List Sh}{es:List (List Tr)}{v:Value}{xs:List Value}(h:qH w e m ss n es v xs){g:Nat}(hg:FP w (.sl e m ss) v g):cN v=some g\/ ∃(i j:Nat) (s:Sh) (u:Value),j<m/\ss[j]? =some s/\xs[i*m+j]? =some u/\FP w s u g:=by
 cases hg with
 | here _ _ _ _ _ hb=>exact .inl hb
 | sub _ _ _ b k c i j s u _ hi hj hs hu hf=>
  have hk:k=n:=by
    rcases h.hown.2 with⟨h1,_⟩ | ⟨g',cap,cur,h1,_⟩
    · cases h1
    · injection h1 with _ h1
  subst hk;have hown:=h.hown;rw[kg hown hi hj]at hu;exact .inr ⟨i,j,s,u,hj,hs,hu,hf⟩
structure vX (w:World) (e m:Nat) (ss:List Sh) (n:Nat) (es:List (List Tr)) (v:Value) (xs:List Value) (i0 j0:Nat):Prop where
 hn:es.length=n
 hown:w.ownsRow 0 e m v n xs
 hc:ss.length=m
 he: ∀x∈es,x.length=m
 h: ∀(i:Nat) x (j:Nat) s t u,¬(i=i0/\j=j0)->es[i]? =some x->ss[j]? =some s->x[j]? =some t->xs[i*m+j]? =some u->DV w s t u
 hs: ∀(i j:Nat) s u g,¬(i=i0/\j=j0)->j<m->ss[j]? =some s->xs[i*m+j]? =some u->FP w s u g->cN v≠some g
 ha: ∀(i j i' j':Nat) s s' u u' g,¬(i=i0/\j=j0)-> ¬(i'=i0/\j'=j0)->j<m->j'<m->ss[j]? =some s->ss[j']? =some s'->xs[i*m+j]? =some u->xs[i'*m+j']? =some u'->FP w s u g->FP w s' u' g->i=i'/\j=j'
inductive HFP (w:World) (e m:Nat) (ss:List Sh) (i0 j0:Nat):Value->Nat->Prop
 | here (v:Value) (g:Nat) (h:cN v=some g):HFP w e m ss i0 j0 v g
 | sub (b n c i j:Nat) (s:Sh) (u:Value) (g:Nat) (hi:i<n) (hj:j<m) (hne: ¬(i=i0/\j=j0)) (hs:ss[j]? =some s) (hu:w.cell? ⟨b,i*m+j,none⟩=some u) (h:FP w s u g):HFP w e m ss i0 j0 (.slice (some ⟨b,0,none⟩) n c) g
theorem vX.at{w:World}{e m n i0 j0:Nat}{ss:List Sh}{es:List (List Tr)}{v:Value}{xs:List Value}(h:vX w e m ss n es v xs i0 j0){i j:Nat}{u:Value}(hne: ¬(i=i0/\j=j0))(hj:j<m)(hu:xs[i*m+j]? =some u):i<n/\ ∃s x t,ss[j]? =some s/\es[i]? =some x/\x[j]? =some t/\DV w s t u:=by
 have hlt:=(Tl.1 hu).1;rw[h.hown.1]at hlt;have hi:i<n:=by
  rcases Vj i n with h1 | h1
  · exact h1
  · have:=TY m h1;omega
 have h1:=h.hn;have h2:=h.hc;have hx:es[i]? =some es[i]:=Tk (by omega);have hxl:=h.he _ (Tm hx);have hs:ss[j]? =some ss[j]:=Tk (by omega);have ht:(es[i])[j]? =some (es[i])[j]:=Tk (by omega);exact⟨hi,_,_,_,hs,hx,ht,h.h i _ j _ _ u hne hx hs ht hu⟩
theorem vX.fp{w:World}{e m n i0 j0:Nat}{ss:List Sh}{es:List (List Tr)}{v:Value}{xs:List Value}(h:vX w e m ss n es v xs i0 j0){i j:Nat}{s:Sh}{u:Value}{g:Nat}(hne: ¬(i=i0/\j=j0))(hj:j<m)(hs:ss[j]? =some s)(hu:xs[i*m+j]? =some u)(hg:FP w s u g):HFP w e m ss i0 j0 v g:=by
 obtain⟨hi,_⟩:=h.at hne hj hu;rcases h.hown.2 with⟨_,h0⟩ | ⟨b,cap,cur,rfl,_⟩
 ·omega
 ·exact .sub b n cap i j s u g hi hj hne hs (by rw[kg h.hown hi hj];exact hu) hg
theorem vX.fp'{w:World}{e m n i0 j0:Nat}{ss:List Sh}{es:List (List Tr)}{v:Value}{xs:List Value}(h:vX w e m ss n es v xs i0 j0){g:Nat}(hg:HFP w e m ss i0 j0 v g):cN v=some g\/ ∃(i j:Nat) (s:Sh) (u:Value),¬(i=i0/\j=j0)/\j<m/\ss[j]? =some s/\xs[i*m+j]? =some u/\FP w s u g:=by
 cases hg with
 | here _ _ hb=>exact .inl hb
 | sub b k c i j s u _ hi hj hne hs hu hf=>
  have hk:k=n:=by
    rcases h.hown.2 with⟨h1,_⟩ | ⟨g',cap,cur,h1,_⟩
    · cases h1
    · injection h1 with _ h1
  subst hk;have hown:=h.hown;rw[kg hown hi hj]at hu;exact .inr ⟨i,j,s,u,hne,hj,hs,hu,hf⟩
theorem vX.lt{w:World}{e m n i0 j0:Nat}{ss:List Sh}{es:List (List Tr)}{v:Value}{xs:List Value}(h:vX w e m ss n es v xs i0 j0){g:Nat}(hg:HFP w e m ss i0 j0 v g):g<w.heap.size:=by
 rcases h.fp' hg with hb | ⟨i,j,s,u,hne,hj,hs,hu,hf⟩
 ·rcases h.hown.2 with⟨rfl,_⟩ | ⟨g',cap,cur,rfl,hb',hg',r⟩
  · cases hb
  · injection hb with hb;subst hb;exact(TR.1 hg').1
 ·obtain⟨_,s',x,t,hs',_,_,hd⟩:=h.at hne hj hu;rw[hs]at hs';injection hs' with hs';subst hs';exact FP.lt hd hf
theorem vX.keep{w w':World}{e m n i0 j0:Nat}{ss:List Sh}{es:List (List Tr)}{v:Value}{xs:List Value}(h:vX w e m ss n es v xs i0 j0)(hk: ∀g,HFP w e m ss i0 j0 v g->w'.heap[g]? =w.heap[g]?):vX w' e m ss n es v xs i0 j0/\ ∀g,HFP w' e m ss i0 j0 v g↔HFP w e m ss i0 j0 v g:=by
 have hown':w'.ownsRow 0 e m v n xs:=by
  refine⟨h.hown.1,?_⟩;rcases h.hown.2 with h2 | ⟨g,cap,cur,hv,hb,hg,r⟩
  · exact .inl h2
  · subst hv;exact .inr ⟨g,cap,cur,rfl,hb,(hk g (.here _ _ rfl)).trans hg,r⟩
 have hat: ∀(i j:Nat) s u,¬(i=i0/\j=j0)->j<m->ss[j]? =some s->xs[i*m+j]? =some u-> ∀g,FP w' s u g↔FP w s u g:=fun i j s u hne hj hs hu=>by
  obtain⟨_,s',x,t,hs',_,_,hd⟩:=h.at hne hj hu;rw[hs]at hs';injection hs' with hs';subst hs';exact(hd.keep fun g hg=>hk g (h.fp hne hj hs hu hg)).2
 have hrow:vX w' e m ss n es v xs i0 j0:=by
  refine⟨h.hn,hown',h.hc,h.he,fun i x j s t u hne h1 h2 h3 h4=> ?_,fun i j s u g hne hj h1 h2 h3=>h.hs i j s u g hne hj h1 h2 ((hat i j s u hne hj h1 h2 g).1 h3),fun i j i' j' s s' u u' g hne hne' hj hj' h1 h2 h3 h4 h5 h6=>h.ha i j i' j' s s' u u' g hne hne' hj hj' h1 h2 h3 h4 ((hat i j s u hne hj h1 h3 g).1 h5) ((hat i' j' s' u' hne' hj' h2 h4 g).1 h6)⟩;have hj:j<m:=by rw[<-h.hc];exact(Tl.1 h2).1
  exact((h.h i x j s t u hne h1 h2 h3 h4).keep fun g hg=>hk g (h.fp hne hj h2 h4 hg)).1
 refine⟨hrow,fun g=>⟨fun hg=> ?_,fun hg=> ?_⟩⟩
 ·rcases hrow.fp' hg with hb | ⟨i,j,s,u,hne,hj,hs,hu,hf⟩
  · exact .here _ _ hb
  · exact h.fp hne hj hs hu ((hat i j s u hne hj hs hu g).1 hf)
 ·rcases h.fp' hg with hb | ⟨i,j,s,u,hne,hj,hs,hu,hf⟩
  · exact .here _ _ hb
  · exact hrow.fp hne hj hs hu ((hat i j s u hne hj hs hu g).2 hf)
theorem qH.split{w:World}{e m n:Nat}{ss:List Sh}{es:List (List Tr)}{v:Value}{xs:List Value}(h:qH w e m ss n es v xs)(i0 j0:Nat):vX w e m ss n es v xs i0 j0:=
 ⟨h.hn,h.hown,h.hc,h.he,fun i x j s t u _=>h.h i x j s t u,fun i j s u g _=>h.hs i j s u g,fun i j i' j' s s' u u' g _ _=>h.ha i j i' j' s s' u u' g⟩
theorem vX.join{w:World}{e m n i0 j0:Nat}{ss:List Sh}{es:List (List Tr)}{v:Value}{xs:List Value}(h:vX w e m ss n es v xs i0 j0){s:Sh}{x:List Tr}{t:Tr}{u:Value}(hs:ss[j0]? =some s)(hx:es[i0]? =some x)(hu:xs[i0*m+j0]? =some u)(hd:DV w s t u)(hap: ∀g,FP w s u g-> ¬HFP w e m ss i0 j0 v g):qH w e m ss n (es.set i0 (x.set j0 t)) v xs:=by
 have hj0:j0<m:=by rw[<-h.hc];exact(Tl.1 hs).1
 have hi0:=(Tl.1 hx).1;have hxl:=h.he x (Tm hx);refine⟨by simp[h.hn],h.hown,h.hc,fun y hy=> ?_,fun i y j s' t' u' hi hs' ht' hu'=> ?_,fun i j s' u' g hj hs' hu' hg hb=> ?_,fun i j i' j' s1 s2 u1 u2 g hj hj' hs1 hs2 hu1 hu2 hg1 hg2=> ?_⟩
 ·rcases List.mem_or_eq_of_mem_set hy with hy | rfl
  · exact h.he y hy
  · simp[hxl]
 ·rw[List.getElem?_set]at hi;by_cases he:i=i0/\j=j0
  · obtain⟨rfl,rfl⟩:=he;rw[if_pos rfl,if_pos hi0]at hi;injection hi with hi;subst hi;rw[UW (by omega)]at ht';injection ht' with ht';rw[hs]at hs';injection hs' with hs';rw[hu]at hu';injection hu' with hu';subst ht' hs' hu';exact hd
  · by_cases h1:i0=i
    · subst h1;rw[if_pos rfl,if_pos hi0]at hi;injection hi with hi;subst hi;rw[Wd (by omega)]at ht';exact h.h i0 x j s' t' u' he hx hs' ht' hu'
    · rw[if_neg h1]at hi;exact h.h i y j s' t' u' he hi hs' ht' hu'
 ·by_cases he:i=i0/\j=j0
  · obtain⟨rfl,rfl⟩:=he;rw[hs]at hs';injection hs' with hs';rw[hu]at hu';injection hu' with hu';subst hs' hu';exact hap g hg (.here _ _ hb)
  · exact h.hs i j s' u' g he hj hs' hu' hg hb
 ·by_cases he:i=i0/\j=j0<;>by_cases he':i'=i0/\j'=j0
  · omega
  · obtain⟨rfl,rfl⟩:=he;rw[hs]at hs1;injection hs1 with hs1;rw[hu]at hu1;injection hu1 with hu1;subst hs1 hu1;exact(hap g hg1 (h.fp he' hj' hs2 hu2 hg2)).elim
  · obtain⟨rfl,rfl⟩:=he';rw[hs]at hs2;injection hs2 with hs2;rw[hu]at hu2;injection hu2 with hu2;subst hs2 hu2;exact(hap g hg2 (h.fp he hj hs1 hu1 hg1)).elim
  · exact h.ha i j i' j' s1 s2 u1 u2 g he he' hj hj' hs1 hs2 hu1 hu2 hg1 hg2
inductive cP (w:World) (S:Nat->Prop) (β:Nat->Value):SO->Value->Prop
 | box (cs:List SV) (g:Nat) (vs:Array Value) (T:TypeId) (hg:w.heap[g]? =some (.cells vs T (0,0))) (hl:cs.length=vs.size) (h: ∀(j:Nat) c v,cs[j]? =some c->vs[j]? =some v->cT w S β c v):cP w S β (.box cs) (.pointer (some ⟨g,0,none⟩))
 | arr (e m n:Nat) (es:List (List Tr)) (v:Value) (xs:List Value) (hn:es.length=n) (hown:w.ownsRow 0 e m v n xs) (he: ∀x∈es,x.length=m)
    (h: ∀(i:Nat) x (j:Nat) t u,es[i]? =some x->x[j]? =some t->xs[i*m+j]? =some u->TV w S t u):cP w S β (.arr e m n es) v
 | deep (e m n:Nat) (ss:List Sh) (es:List (List Tr)) (v:Value) (h:DV w (.sl e m ss) (.sl n es) v):cP w S β (.deep e m n ss es) v
 | hol (e m n:Nat) (ss:List Sh) (es:List (List Tr)) (i j d:Nat) (v:Value) (xs:List Value) (h:vX w e m ss n es v xs i j) (hu:xs[i*m+j]? =some (β d)):cP w S β (.hol e m n ss es i j d) v
def SO.ba(w:World)(x:SO)(v:Value)(g:Nat):Prop:=match x with
 | .deep e m _ ss _=>FP w (.sl e m ss) v g
 | .hol e m _ ss _ i j _=>HFP w e m ss i j v g
 | _=>cN v=some g
theorem rf{w:World}{x:SO}{v:Value}{g:Nat}(h:cN v=some g):x.ba w v g:=by
 cases x with
 | deep e m n ss es=>exact .here _ _ _ _ _ h
 | hol e m n ss es i j d=>exact .here _ _ h
 | box cs=>exact h
 | arr e m n es=>exact h
theorem cP.keep{w w':World}{S S':Nat->Prop}{β:Nat->Value}{x:SO}{v:Value}(h:cP w S β x v)(hk: ∀b,S b\/x.ba w v b->w'.heap[b]? =w.heap[b]?)(hs: ∀b,S b->S' b):cP w' S' β x v:=by
 cases h with
 | box cs g vs T hg hl h=>exact .box cs g vs T ((hk g (.inr rfl)).trans hg) hl fun j c v hc hv=>(h j c v hc hv).keep (fun b hb=>hk b (.inl hb)) hs
 | arr e m n es v xs hn hown he h=>
  refine .arr e m n es v xs hn ⟨hown.1,?_⟩ he fun i x j t u hi hj hu=>(h i x j t u hi hj hu).keep (fun b hb=>hk b (.inl hb)) hs;rcases hown.2 with h2 | ⟨g,cap,cur,hv,hb,hg,r⟩
  · exact .inl h2
  · subst hv;exact .inr ⟨g,cap,cur,rfl,hb,(hk g (.inr rfl)).trans hg,r⟩
 | deep e m n ss es v h=>exact .deep e m n ss es v (h.keep fun g hg=>hk g (.inr hg)).1
 | hol e m n ss es i j d v xs h hu=>exact .hol e m n ss es i j d v xs (h.keep fun g hg=>hk g (.inr hg)).1 hu
theorem cP.ba{w w':World}{S:Nat->Prop}{β:Nat->Value}{x:SO}{v:Value}(h:cP w S β x v)(hk: ∀b,x.ba w v b->w'.heap[b]? =w.heap[b]?){g:Nat}:x.ba w' v g↔x.ba w v g:=by
 cases h with
 | box cs g vs T hg hl h=>exact Iff.rfl
 | arr e m n es v xs hn hown he h=>exact Iff.rfl
 | deep e m n ss es v h=>exact(h.keep hk).2 g
 | hol e m n ss es i j d v xs h hu=>exact(h.keep hk).2 g
theorem cP.lt{w:World}{S:Nat->Prop}{β:Nat->Value}{x:SO}{v:Value}(h:cP w S β x v){g:Nat}(hg:x.ba w v g):g<w.heap.size:=by
 cases h with
 | box cs g' vs T hg' hl h=>
  simp[SO.ba,cN]at hg;subst hg;exact(TR.1 hg').1
 | arr e m n es v xs hn hown he h=>
  rcases hown.2 with⟨rfl,_⟩ | ⟨g',cap,cur,rfl,hb,hg',r⟩
  · simp[SO.ba,cN]at hg
  · simp[SO.ba,cN]at hg;subst hg;exact(TR.1 hg').1
 | deep e m n ss es v h=>exact FP.lt h hg
 | hol e m n ss es i j d v xs h hu=>exact h.lt hg
def SO.names:SO->List Nat
 | .box cs=>SV.names.namesL cs
 | .arr .. =>[]
 | .deep .. =>[]
 | .hol _ _ _ _ _ _ _ d=>[d]
theorem cP.agree{w:World}{S:Nat->Prop}{β β':Nat->Value}{x:SO}{v:Value}(h:cP w S β x v)(hb: ∀d∈x.names,β' d=β d):cP w S β' x v:=by
 cases h with
 | box cs g vs T hg hl h=>exact .box cs g vs T hg hl fun j c v hc hv=>(h j c v hc hv).agree fun d hd=>hb d (SV.cf (Tm hc) hd)
 | arr e m n es v xs hn hown he h=>exact .arr e m n es v xs hn hown he h
 | deep e m n ss es v h=>exact .deep e m n ss es v h
 | hol e m n ss es i j d v xs h hu=>exact .hol e m n ss es i j d v xs h (hu.trans (congrArg some (hb d (by simp[SO.names])).symm))
def da:List ByteArray:=[Tj #[110,111,114,116,104],Tj #[110,111,114,116,104,101,97,115,116],Tj #[101,97,115,116],Tj #[115,111,117,116,104,101,97,115,116],Tj #[115,111,117,116,104],Tj #[115,111,117,116,104,119,101,115,116],Tj #[119,101,115,116],Tj #[110,111,114,116,104,119,101,115,116]]
def pins:List (Nat×List Value):=[(0,da.map Value.string)]
def Js:List Nat:=[5,6]
def Q3:List (Nat×Array Value):=[(4,([1,10,100,1000,10000,100000,1000000,10000000,100000000,1000000000,10000000000,100000000000,1000000000000,10000000000000,100000000000000,1000000000000000,10000000000000000,100000000000000000,1000000000000000000,10000000000000000000].map fun n:Int=>Value.int .u64 n).toArray)]
def ints:List Nat:=[1]
def Ri:List Nat:=pins.map (·.1)++(Js++(Q3.map (·.1)++ints))
def mX(S:Nat->Prop)(w:World):Prop:=(∀p∈pins,S p.1/\p.1<w.heap.size/\ ∀(j:Nat) v,p.2[j]? =some v->w.cell? ⟨p.1,j,none⟩=some v)/\(∀g∈Js,S g/\g<w.heap.size/\ ∃t u,w.cell? ⟨g,0,none⟩=some (.iface t u))/\(∀p∈Q3,S p.1/\p.1<w.heap.size/\ ∃t x,w.heap[p.1]? =some (.cells p.2 t x))/\ ∀g∈ints,S g/\g<w.heap.size/\ ∃m,w.cell? ⟨g,0,none⟩=some (.int .i64 m)
theorem mX.mono{S S':Nat->Prop}{w:World}(h:mX S w)(hs: ∀b,S b->S' b):mX S' w:=⟨fun p hp=>⟨hs _ (h.1 p hp).1,(h.1 p hp).2⟩,fun g hg=>⟨hs _ (h.2.1 g hg).1,(h.2.1 g hg).2⟩,fun p hp=>⟨hs _ (h.2.2.1 p hp).1,(h.2.2.1 p hp).2⟩,fun g hg=>⟨hs _ (h.2.2.2 g hg).1,(h.2.2.2 g hg).2⟩⟩
theorem mX.mem{S:Nat->Prop}{w:World}(h:mX S w){g:Nat}(hg:g∈Ri):S g:=by
 rcases TN.1 hg with hg | hg
 ·obtain⟨p,hp,rfl⟩:=TF.1 hg;exact(h.1 p hp).1
 rcases TN.1 hg with hg | hg
 ·exact(h.2.1 g hg).1
 rcases TN.1 hg with hg | hg
 ·obtain⟨p,hp,rfl⟩:=TF.1 hg;exact(h.2.2.1 p hp).1
 ·exact(h.2.2.2 g hg).1
structure Cx where
 w0:World
 S0:Nat->Prop
 pin:List (Nat×Value)
 ba:Nat->Nat->Prop
 lt: ∀j v,(j,v)∈pin->j<2000000
 glob:mX S0 w0/\ ∀g∈Ri,¬ ∃j v,(j,v)∈pin/\ba j g
 fz:Bool:=false
def Cx.X(c:Cx)(g:Nat):Prop:= ∃j v,(j,v)∈c.pin/\c.ba j g
def Cx.Y(c:Cx)(d g:Nat):Prop:=c.X g/\(3000000<=d->c.fz=true/\c.ba 1999999 g)
structure Rel (c:Cx) (S:Nat->Prop) (β:Nat->Value) (σ:SS) (a:Act) (w:World):Prop where
 defers:a.defers=[]
 size:a.tmps.size=σ.n
 one: ∀d,(β d).cells= #[β d]
 grew:dA c.X c.w0 w
 s0: ∀b,c.S0 b->S b
 s1: ∀b,S b->c.S0 b\/c.w0.heap.size<=b\/(c.fz=true/\c.X b)
 lt: ∀b,S b->b<w.heap.size
 tmp: ∀i v,(i,v)∈σ.t->i<a.tmps.size/\cT w S β v (a.tmps.getD i undef)
 obj: ∀d x,(d,x)∈σ.o->cP w S β x (β d)
 pin: ∀j v,(j,v)∈c.pin->σ.n<=j/\ ∀x,(j,x)∈σ.o->β j=v
 priv: ∀d x g,(d,x)∈σ.o->x.ba w (β d) g-> ¬S g/\(((d<σ.n\/3000000<=d)/\c.w0.heap.size<=g)\/(σ.n<=d/\c.Y d g))
 apart: ∀d x d' x' g,(d,x)∈σ.o->(d',x')∈σ.o->x.ba w (β d) g->x'.ba w (β d') g->d=d'
theorem Rel.xj{c:Cx}{S:Nat->Prop}{β:Nat->Value}{σ:SS}{a:Act}{w:World}(hr:Rel c S β σ a w):mX S w:=by
 refine⟨fun p hp=> ?_,fun g hg=> ?_,fun p hp=> ?_,fun g hg=> ?_⟩
 ·obtain⟨h1,h2,h3⟩:=c.glob.1.1 p hp;have hb:=hr.grew.block p.1 h2 (c.glob.2 p.1 (T7 _ (TF.2 ⟨p,hp,rfl⟩)));exact⟨hr.s0 _ h1,Ud h2 hr.grew.size,fun j v hj=>(World.cell?_of_block (w:=c.w0) hb).trans (h3 j v hj)⟩
 ·obtain⟨h1,h2,t,u,h3⟩:=c.glob.1.2.1 g hg;have hb:=hr.grew.block g h2 (c.glob.2 g (TJ _ (T7 _ hg)));exact⟨hr.s0 _ h1,Ud h2 hr.grew.size,t,u,(World.cell?_of_block (w:=c.w0) hb).trans h3⟩
 ·obtain⟨h1,h2,t,x,h3⟩:=c.glob.1.2.2.1 p hp;have hb:=hr.grew.block p.1 h2 (c.glob.2 p.1 (TJ _ (TJ _ (T7 _ (TF.2 ⟨p,hp,rfl⟩)))));exact⟨hr.s0 _ h1,Ud h2 hr.grew.size,t,x,hb.trans h3⟩
 ·obtain⟨h1,h2,m,h3⟩:=c.glob.1.2.2.2 g hg;have hb:=hr.grew.block g h2 (c.glob.2 g (TJ _ (TJ _ (TJ _ hg))));exact⟨hr.s0 _ h1,Ud h2 hr.grew.size,m,(World.cell?_of_block (w:=c.w0) hb).trans h3⟩
theorem Rel.OW{c:Cx}{S:Nat->Prop}{β:Nat->Value}{σ:SS}{a:Act}{w:World}(_hr:Rel c S β σ a w){j:Nat}{v:Value}(h:(j,v)∈c.pin):j<2000000:=c.lt j v h
def eY(c:Cx)(σ:SS)(a:Act)(w:World):Prop:= ∃S β,Rel c S β σ a w
def Le(σ σ':SS):Prop:= ∀c a w,eY c σ a w->eY c σ' a w
theorem Le.refl(σ:SS):Le σ σ:=fun _ _ _ h=>h
theorem Le.trans{a b c:SS}(h:Le a b)(k:Le b c):Le a c:=fun _ _ _ r=>k _ _ _ (h _ _ _ r)
theorem Le.sub{σ σ':SS}(hn:σ'.n=σ.n)(ht: ∀x∈σ'.t,x∈σ.t)(ho: ∀x∈σ'.o,x∈σ.o):Le σ σ':=fun _ _ _ ⟨S,β,h⟩=>
 ⟨S,β,h.defers,h.size.trans hn.symm,h.one,h.grew,h.s0,h.s1,h.lt,fun i v hi=>h.tmp i v (ht _ hi),fun d x hd=>h.obj d x (ho _ hd),fun j v hj=>⟨hn▸(h.pin j v hj).1,fun x hx=>(h.pin j v hj).2 x (ho _ hx)⟩,fun d x g hd hg=>by have:=h.priv d x g (ho _ hd) hg;rwa [<-hn]at this,fun d x d' x' g hd hd'=>h.apart d x d' x' g (ho _ hd) (ho _ hd')⟩
inductive TD where
 | int (k:IntKind)
 | bool
 | str
 | slice (e:Nat)
 | array (n e:Nat)
 | struct (fs:List (Nat×Nat))
 | ptr (e:Nat)
 | other
structure TI where
 size:Nat
 bytes:Nat
 d:TD
 zero:List Tr
def Tr.ND:Tr->Option Value
 | .int k n=>some (.int k n)
 | .bool b=>some (.bool b)
 | .str s=>if s.size=0 then some (.string s)else none
 | .sl 0 []=>some (.slice none 0 0)
 | .nilf=>some .nilFunc
 | _=>none
def iP:List Tr->Option (List Value)
 | []=>some []
 | t::ts=>match t.ND,iP ts with
  | some v,some vs=>some (v::vs)
  | _,_=>none
def structOf(P:Program)(t:TypeId):Option (List (Nat×Nat)):=match P.underlying t with
 | some (.struct f)=>some (f.toList.map fun x=>(x.offset,x.type))
 | _=>none
def PK(P:Program)(t:TypeId):TD->Prop
 | .int k=>P.underlying t=some (.int k)
 | .bool=>P.underlying t=some .bool
 | .str=>P.underlying t=some .string
 | .slice e=>P.underlying t=some (.slice e)
 | .array n e=>P.underlying t=some (.array n e)
 | .struct fs=>structOf P t=some fs
 | .ptr e=>P.underlying t=some (.pointer e)
 | .other=> ∃a b c,P.underlying t=some (.func a b c)
abbrev Tb:=List (Nat×TI)
def find{α:Type}(k:Nat):List (Nat×α)->Option α
 | []=>none
 | (i,x)::r=>if i==k then some x else find k r
theorem aJ{α:Type}{k:Nat}{l:List (Nat×α)}{x:α}(h:find k l=some x):(k,x)∈l:=by
 induction l with
 | nil=>cases h
 | cons y l ih=>
  obtain⟨i,y⟩:=y;unfold find at h;split at h
  · rename_i hi;have:i=k:=by simpa using hi
    subst this;injection h with h;subst h;exact TP
  · exact T1 _ (ih h)
structure oL (P:Program) (t:Nat) (i:TI):Prop where
 info:(P.info? t).map (fun j=>(j.size,j.bytes,(j.zero.map fun z=>z.cells.toList)))=some (i.size,i.bytes,iP i.zero)
 d:PK P t i.d
def bm(P:Program)(tb:Tb):Prop:= ∀t i,(t,i)∈tb->oL P t i
theorem bm.nil(P:Program):bm P []:=fun _ _ h=>by cases h
theorem bm.cons{P:Program}{t:Nat}{i:TI}{tb:Tb}(h:oL P t i)(k:bm P tb):bm P ((t,i)::tb):=fun t' i' hm=>by
 rcases Tx.1 hm with h' | h'
 ·injection h' with h1 h2;subst h1 h2;exact h
 ·exact k t' i' h'
def vx:Value->Option SV
 | .int k n=>some (.tr (.int k n))
 | .bool b=>some (.tr (.bool b))
 | .string s=>if s.size<=maxLen then some (.tr (.str s))else none
 | .slice none 0 0=>some (.tr (.sl 0 []))
 | _=>none
def zP:List Value->Option (List SV)
 | []=>some []
 | v::vs=>match vx v,zP vs with
  | some x,some xs=>some (x::xs)
  | _,_=>none
def ev(σ:SS):Operand->Option SV
 | .tmp t=>find t σ.t
 | .const (.agg cs)=>(zP cs.toList).map .agg
 | .const v=>vx v
 | .func f=>some (.clo f [])
 | .global _=>none
def evL(σ:SS):List Operand->Option (List SV)
 | []=>some []
 | x::xs=>match ev σ x,evL σ xs with
  | some v,some vs=>some (v::vs)
  | _,_=>none
def TD.isAgg:TD->Bool
 | .struct _ | .array _ _=>true
 | _=>false
def ldc(i:TI)(cs:List SV)(o:Nat):Option SV:=
 if i.d.isAgg then(if o+i.size<=cs.length then some (.agg ((cs.drop o).take i.size))else none)else cs[o]?
def bop:BinOp->Tr->Tr->Option Tr
 | .add,.int k x,.int k' y=>if k=k' then some (.int k (k.wrap (x+y)))else none
 | .sub,.int k x,.int k' y=>if k=k' then some (.int k (k.wrap (x - y)))else none
 | .mul,.int k x,.int k' y=>if k=k' then some (.int k (k.wrap (x*y)))else none
 | .eql,.int k x,.int k' y=>if k=k' then some (.bool (x==y))else none
 | .neq,.int k x,.int k' y=>if k=k' then some (.bool (x !=y))else none
 | .lss,.int k x,.int k' y=>if k=k' then some (.bool (x<y))else none
 | .leq,.int k x,.int k' y=>if k=k' then some (.bool (x<=y))else none
 | .gtr,.int k x,.int k' y=>if k=k' then some (.bool (x>y))else none
 | .geq,.int k x,.int k' y=>if k=k' then some (.bool (x>=y))else none
 | .and,.int k x,.int k' y=>if k=k' then some (.int k (k.wrap (Us k.bits x&&&Us k.bits y).toNat))else none
 | .or,.int k x,.int k' y=>if k=k' then some (.int k (k.wrap (Us k.bits x ||| Us k.bits y).toNat))else none
 | .xor,.int k x,.int k' y=>if k=k' then some (.int k (k.wrap (Us k.bits x^^^Us k.bits y).toNat))else none
 | .andNot,.int k x,.int k' y=>if k=k' then some (.int k (k.wrap (Us k.bits x&&& ~~~Us k.bits y).toNat))else none
 | .eql,.str x,.str y=>some (.bool (x.toList==y.toList))
 | .neq,.str x,.str y=>some (.bool (!x.toList==y.toList))
 | .lss,.str x,.str y=>some (.bool (Op.bytesLess x.toList y.toList))
 | .leq,.str x,.str y=>some (.bool (Op.bytesLess x.toList y.toList || x.toList==y.toList))
 | .gtr,.str x,.str y=>some (.bool (!(Op.bytesLess x.toList y.toList || x.toList==y.toList)))
 | .geq,.str x,.str y=>some (.bool (!Op.bytesLess x.toList y.toList))
 | _,_,_=>none
def Rw:BinOp->Tr->Value->Option Tr
 | .quo,.int k x,.int k' y=>if k=k'/\y≠0 then some (.int k (k.wrap (x.tdiv y)))else none
 | .rem,.int k x,.int k' y=>if k=k'/\y≠0 then some (.int k (x.tmod y))else none
 | .shl,.int k x,.int _ y=>if 0<=y then some (.int k (k.wrap (x*2^min y.toNat k.bits)))else none
 | .shr,.int k x,.int _ y=>if 0<=y then some (.int k (x.fdiv (2^min y.toNat k.bits)))else none
 | _,_,_=>none
def OA:Tr->Tr->Option Tr
 | .int k x,.int k' y=>if k=k' then some (.int k (if y<x then y else x))else none
 | _,_=>none
def Su:Tr->Tr->Option Tr
 | .int k x,.int k' y=>if k=k' then some (.int k (if y>x then y else x))else none
 | _,_=>none
def Sq:TD->SV->Option Tr
 | .slice _,.tr (.sl n _)=>some (.int .i64 n)
 | .str,.tr (.str s)=>some (.int .i64 s.size)
 | .array n _,_=>some (.int .i64 n)
 | _,_=>none
def DL:SV->Nat->Option SV
 | .ptr cs o,k=>some (.ptr cs (o+k))
 | .ref d o,k=>some (.ref d (o+k))
 | .eref d m i j,k=>some (.eref d m i (j+k))
 | _,_=>none
def vop(tb:Tb)(σ:SS):Op->Option SV
 | .move x=>ev σ x
 | .assign x=>ev σ x
 | .pick c a b=>match ev σ c with
  | some (.tr (.bool true))=>ev σ a
  | some (.tr (.bool false))=>ev σ b
  | _=>none
 | .load t x=>match find t tb,ev σ x with
  | some i,some (.ptr cs o)=>ldc i cs o
  | some i,some (.ref d o)=>match find d σ.o with
    | some (.box cs)=>ldc i cs o
    | _=>none
  | _,_=>none
 | .fieldAddr t x f=>match find t tb,ev σ x with
  | some i,some v=>match i.d with
    | .struct fs=>match fs[f]? with
      | some (off,ft)=>match find ft tb with
       | some j=>if j.size=0 then none else DL v off
       | none=>none
      | none=>none
    | _=>none
  | _,_=>none
 | .field t x f=>match find t tb,ev σ x with
  | some i,some (.agg cs)=>match i.d with
    | .struct fs=>match fs[f]? with
      | some (off,ft)=>match find ft tb with
       | some j=>ldc j cs off
       | none=>none
      | none=>none
    | _=>none
  | _,_=>none
 | .index t x y=>match find t tb,ev σ x,ev σ y with
  | some i,some (.agg cs),some (.tr (.int _ n))=>match i.d with
    | .array len e=>match find e tb with
      | some j=>if 0<=n/\n<len then ldc j cs (n.toNat*j.size)else none
      | none=>none
    | _=>none
  | _,_,_=>none
 | .indexAddr t x y=>match find t tb,ev σ x,ev σ y with
  | some i,some v,some (.tr (.int _ n))=>match i.d with
    | .array len e=>match find e tb with
      | some j=>if 0<=n/\n<len then DL v (n.toNat*j.size)else none
      | none=>none
    | _=>none
  | _,_,_=>none
 | .binOp op _ x y _=>match ev σ x,ev σ y with
  | some (.tr a),some (.tr b)=>match bop op a b with
    | some r=>some (.tr r)
    | none=>match y with
      | .const c=>(Rw op a c).map .tr
      | _=>none
  | _,_=>none
 | .unOp op _ x=>match op,ev σ x with
  | .not,some (.tr (.bool b))=>some (.tr (.bool !b))
  | .neg,some (.tr (.int k n))=>some (.tr (.int k (k.wrap (0 - n))))
  | _,_=>none
 | .convert src dst x=>match find src tb,find dst tb,ev σ x with
  | some _,some j,some (.tr (.int _ n))=>match j.d with
    | .int k=>some (.tr (.int k (k.wrap n)))
    | _=>none
  | _,_,_=>none
 | .extract x i=>match ev σ x with
  | some (.tup cs)=>cs[i]?
  | _=>none
 | .nilCheck x=>match ev σ x with
  | some (.ptr cs o)=>some (.ptr cs o)
  | some (.ref d o)=>some (.ref d o)
  | some (.eref d m i j)=>some (.eref d m i j)
  | some (.clo f cs)=>some (.clo f cs)
  | some (.mth f cs)=>some (.mth f cs)
  | _=>none
 | .makeFunc (.func f) first caps=>if first.size=0 then(evL σ caps.toList).map (.clo f)else if caps.size=0 then(evL σ first.toList).map (.mth f)else none
 | .call {callee:= .builtin b,args,argTypes}=>match b,args.toList with
  | .len,[x]=>match argTypes.toList,ev σ x with
    | [t],some (.own d)=>match find t tb,find d σ.o with
      | some i,some (.arr _ _ n _)=>match i.d with
       | .slice _=>some (.tr (.int .i64 n))
       | _=>none
      | _,_=>none
    | [t],some v=>match find t tb with
      | some i=>(Sq i.d v).map .tr
      | none=>none
    | _,_=>none
  | .min,[x,y]=>match ev σ x,ev σ y with
    | some (.tr a),some (.tr b)=>(OA a b).map .tr
    | _,_=>none
  | .max,[x,y]=>match ev σ x,ev σ y with
    | some (.tr a),some (.tr b)=>(Su a b).map .tr
    | _,_=>none
  | .min,[x,y,z]=>match ev σ x,ev σ y,ev σ z with
    | some (.tr a),some (.tr b),some (.tr d)=>match OA a b with
      | some m=>(OA m d).map .tr
      | none=>none
    | _,_,_=>none
  | _,_=>none
 | _=>none
section
variable {P : Program} {tb : Tb} {c : Cx} {S : Nat -> Prop} {β : Nat -> Value} {σ : SS} {a : Act} {w : World}
theorem CX{v:Value}{x:SV}(h:vx v=some x):cT w S β x v:=by
 unfold vx at h;split at h
 ·injection h with h;subst h;exact .tr _ _ (.int _ _)
 ·injection h with h;subst h;exact .tr _ _ (.bool _)
 ·split at h
  · injection h with h;subst h;exact .tr _ _ (.str _ (by assumption))
  · cases h
 ·injection h with h;subst h;exact .tr _ _ (.sl [] none 0 0 0 (fun _ _=>default) rfl (TA _) (by simp[maxLen]) (by simp) (by simp) (by simp))
 ·cases h
theorem Fw: ∀{vs:List Value} {xs:List SV},zP vs=some xs->xs.length=vs.length/\ ∀(j:Nat) x v,xs[j]? =some x->vs[j]? =some v->cT w S β x v
 | [],xs,h=>by injection h with h;subst h;simp
 | v::vs,xs,h=>by
  unfold zP at h;split at h
  · rename_i y ys hy hys;injection h with h;subst h;obtain⟨h1,h2⟩:=Fw hys;refine⟨by simp[h1],fun j x v hx hv=> ?_⟩;cases j with
    | zero=>simp at hx hv;subst hx hv;exact CX hy
    | succ j=>exact h2 j x v (by simpa using hx) (by simpa using hv)
  · cases h
theorem bD(hr:Rel c S β σ a w){x:Operand}{v:SV}(h:ev σ x=some v):cT w S β v (a.eval x):=by
 cases x with
 | tmp t=>exact(hr.tmp t v (aJ h)).2
 | const u=>
  unfold ev at h;cases u with
  | agg cs=>
    simp only[Tn]at h;obtain⟨xs,h1,rfl⟩:=h;obtain⟨h2,h3⟩:=Fw (w:=w) (S:=S) (β:=β) h1;exact .agg xs cs (by simpa using h2) fun j x v hx hv=>h3 j x v hx (by simpa using hv)
  | _=>exact CX h
 | global g=>cases h
 | func f=>injection h with h;subst h;exact .clo f [] #[] rfl (by simp)
theorem tM(hr:Rel c S β σ a w): ∀{xs:List Operand} {vs:List SV},evL σ xs=some vs->vs.length=xs.length/\ ∀(j:Nat) x v,xs[j]? =some x->vs[j]? =some v->cT w S β v (a.eval x)
 | [],vs,h=>by injection h with h;subst h;simp
 | x::xs,vs,h=>by
  unfold evL at h;split at h
  · rename_i y ys hy hys;injection h with h;subst h;obtain⟨h1,h2⟩:=tM hr hys;refine⟨by simp[h1],fun j x v hx hv=> ?_⟩;cases j with
    | zero=>simp at hx hv;subst hx hv;exact bD hr hy
    | succ j=>exact h2 j x v (by simpa using hx) (by simpa using hv)
  · cases h
end
section
variable {P : Program} {tb : Tb} {c : Cx} {S : Nat -> Prop} {β : Nat -> Value} {σ : SS} {a : Act} {w : World}
theorem oL.uC{t:Nat}{i:TI}(h:oL P t i): ∃j,P.info? t=some j/\j.size=i.size/\j.bytes=i.bytes/\ ∀vs,iP i.zero=some vs-> ∃z,j.zero=some z/\z.cells.toList=vs:=by
 have h1:=h.info;rcases hi:P.info? t with _ | j
 ·rw[hi]at h1;simp at h1
 ·rw[hi]at h1;simp only[UO,Um.injEq,Prod.mk.injEq]at h1;obtain⟨h2,h3,h4⟩:=h1;refine⟨j,rfl,h2,h3,fun vs hvs=> ?_⟩;rw[hvs]at h4;simpa [Tn]using h4
theorem oL.size{t:Nat}{i:TI}(h:oL P t i)(w:World):(sizeOf t).run P w= .ok i.size w:=by
 obtain⟨j,h1,h2,_⟩:=h.uC;simp[sizeOf,typeInfo,h1,h2]
theorem oL.agg{t:Nat}{i:TI}(h:oL P t i)(w:World):(isAgg t).run P w= .ok i.d.isAgg w:=by
 have hd:=h.d;unfold isAgg;cases hi:i.d<;>rw[hi]at hd<;>unfold PK at hd
 case other=>
  obtain⟨_,_,_,hu⟩:=hd;simp[run_underlying hu,TD.isAgg]
 case struct fs=>
  unfold structOf at hd;cases hu:P.underlying t with
  | none=>rw[hu]at hd;simp at hd
  | some d=>
    rw[hu]at hd;cases d<;>simp at hd;simp[run_underlying hu,TD.isAgg]
 all_goals simp[run_underlying hd,TD.isAgg]
theorem oL.struct{t:Nat}{i:TI}(h:oL P t i){fs:List (Nat×Nat)}(hd:i.d= .struct fs): ∃f:Array Field,P.underlying t=some (.struct f)/\f.toList.map (fun x=>(x.offset,x.type))=fs:=by
 have h1:=h.d;rw[hd]at h1;unfold PK structOf at h1;cases hu:P.underlying t with
 | none=>rw[hu]at h1;simp at h1
 | some d=>
  rw[hu]at h1;cases d<;>simp at h1;exact⟨_,rfl,h1⟩
theorem GB{fs:List (Nat×Nat)}{f:Array Field}(h:f.toList.map (fun x=>(x.offset,x.type))=fs){k off ft:Nat}(hk:fs[k]? =some (off,ft)): ∃y,f[k]? =some y/\y.offset=off/\y.type=ft:=by
 subst h;rw[Tq]at hk;rcases hf:f.toList[k]? with _ | y
 ·rw[hf]at hk;simp at hk
 ·rw[hf]at hk;simp at hk;exact⟨y,by simpa using hf,hk.1,hk.2⟩
theorem GS{t:Nat}{i:TI}(hi:oL P t i){cs:List SV}{g b o:Nat}{u:Nat->Value}(hu: ∀(j:Nat) x,cs[j]? =some x->cT w S β x (u j))(hc: ∀(j:Nat) x,cs[j]? =some x->w.cell? ⟨g,b+j,none⟩=some (u j))
  {v:SV} (h:ldc i cs o=some v): ∃r,(loadVar t ⟨g,b+o,none⟩).run P w= .ok r w/\cT w S β v r:=by
 unfold ldc at h;split at h
 ·rename_i hag;split at h
  · rename_i hlen;injection h with h;subst h;have h1:=run_loadCells (P:=P) w ⟨g,b+o,none⟩ i.size (fun j=>u (o+j)) (fun j hj=>by
      rw[Addr.add_lit,Nat.add_assoc];exact hc (o+j) (cs[o+j]'(by omega)) (Tk _))
    refine⟨_,by simp[loadVar,hi.agg,hag,hi.size,h1];rfl,.agg _ _ (by simp;omega) fun j x y hx hy=> ?_⟩;rw[Vl]at hx;split at hx
    · rename_i hj;rw[WH,Tq,Vq hj]at hy;injection hy with hy;subst hy;exact hu _ _ (by simpa using hx)
    · cases hx
  · cases h
 ·rename_i hag;exact⟨u o,by simp[loadVar,hi.agg,hag,load,Sem.run,hc o v h],hu o v h⟩
theorem Co{t:Nat}{i:TI}(hi:oL P t i){cs:List SV}{vs:Array Value}{o:Nat}(hl:cs.length=vs.size)(hu: ∀(j:Nat) x y,cs[j]? =some x->vs[j]? =some y->cT w S β x y)
  {v:SV} (h:ldc i cs o=some v): ∃r,(part t vs o).run P w= .ok r w/\cT w S β v r:=by
 unfold ldc at h;split at h
 ·rename_i hag;split at h
  · rename_i hlen;injection h with h;subst h;refine⟨_,by simp[part,hi.agg,hag,hi.size];rfl,.agg _ _ (by simp;omega) fun j x y hx hy=> ?_⟩;rw[Vl]at hx;split at hx
    · rw[Array.getElem?_extract]at hy;split at hy
      ·exact hu (o+j) x y (by simpa using hx) (by simpa using hy)
      ·cases hy
    · cases hx
  · cases h
 ·rename_i hag;have hlt:=(Tl.1 h).1;have hv:vs[o]? =some vs[o]:=TW (by omega);exact⟨vs[o],by simp[part,hi.agg,hag,hv],hu o v _ h hv⟩
theorem AF{x v:SV}{k:Nat}(h:DL x k=some v){y:Value}(hy:cT w S β x y): ∃g o,y= .pointer (some ⟨g,o,none⟩)/\cT w S β v (.pointer (some ⟨g,o+k,none⟩)):=by
 cases x<;>simp only[DL,Um.injEq,reduceCtorEq]at h<;>subst h
 case ptr cs o=>
  cases hy with
  | ptr cs o g b u hs hh hc=>exact⟨g,b+o,rfl,by rw[Nat.add_assoc];exact .ptr cs (o+k) g b u hs hh hc⟩
 case ref d o=>
  cases hy with
  | ref d o g hh=>exact⟨g,o,rfl,.ref d (o+k) g hh⟩
 case eref d m i j=>
  cases hy with
  | eref d m i j g n c hh=>exact⟨g,i*m+j,rfl,by rw[Nat.add_assoc];exact .eref d m i (j+k) g n c hh⟩
theorem NT{op:BinOp}{x y r:Tr}(h:bop op x y=some r){u v:Value}(hu:TV w S x u)(hv:TV w S y v)(t:TypeId)(p q:Operand):
  ∃z,(∀w':World,(do eqGuard op t p q u v;binOp op t u v:Sem Value).run P w'= .ok z w')/\TV w S r z:=by
 cases op<;>cases x<;>cases y<;>simp only[bop,reduceCtorEq]at h<;>(first | (split at h<;>simp only[Um.injEq,reduceCtorEq]at h) | simp only[Um.injEq]at h)<;>subst h<;>cases hu<;>cases hv<;>(try subst_vars)<;>
  first
    | exact⟨.int _ _,by simp[eqGuard,binOp,Op.intArith,Op.intCmp,Op.intBits,Op.stringOp],.int _ _⟩
    | exact⟨.bool _,by simp[eqGuard,binOp,Op.intCmp,Op.stringOp],.bool _⟩
theorem PU{op:BinOp}{x r:Tr}{v:Value}(h:Rw op x v=some r){u:Value}(hu:TV w S x u)(t:TypeId)(p q:Operand):
  ∃z,(do eqGuard op t p q u v;binOp op t u v:Sem Value).run P w= .ok z w/\TV w S r z:=by
 cases op<;>cases x<;>simp only[Rw,reduceCtorEq]at h<;>cases v<;>simp only[reduceCtorEq]at h<;>split at h<;>simp only[Um.injEq,reduceCtorEq]at h<;>subst h<;>cases hu<;>rename_i hh
 ·obtain⟨rfl,h0⟩:=hh;exact⟨.int _ _,by simp[eqGuard,binOp,Op.intDiv,h0],.int _ _⟩
 ·obtain⟨rfl,h0⟩:=hh;exact⟨.int _ _,by simp[eqGuard,binOp,Op.intDiv,h0],.int _ _⟩
 ·exact⟨.int _ _,by simp[eqGuard,binOp,Op.shift,Int.not_lt.2 hh],.int _ _⟩
 ·exact⟨.int _ _,by simp[eqGuard,binOp,Op.shift,Int.not_lt.2 hh],.int _ _⟩
end
section
variable {P : Program} {tb : Tb} {c : Cx} {S : Nat -> Prop} {β : Nat -> Value} {σ : SS} {a : Act} {w : World}
def VOk(P:Program)(S:Nat->Prop)(β:Nat->Value)(a:Act)(w:World)(o:Oper)(v:SV):Prop:= ∃u,(execOp a.eval o).run P w= .ok (.value u) w/\cT w S β v u
theorem bc(hP:bm P tb){t:Nat}{i:TI}(h:find t tb=some i):oL P t i:=hP t i (aJ h)
theorem VOk.mk{o:Oper}{v:SV}{s:Sem Value}{u:Value}(he:(execOp a.eval o)=(do pure (.value (<-s))))(hs:s.run P w= .ok u w)(hv:cT w S β v u):VOk P S β a w o v:=by
 refine⟨u,?_,hv⟩;rw[he];simp[hs]
theorem JR(hP:bm P tb)(hr:Rel c S β σ a w){o:Oper}{t:Nat}{x:Operand}(ho:o.op= .load t x){v:SV}(h:vop tb σ (.load t x)=some v):VOk P S β a w o v:=by
 simp only[vop]at h;split at h
 ·rename_i i cs k hi hx;have hv:=bD hr hx;generalize hy:a.eval x=y at hv;cases hv with
  | ptr cs k g b u hs hh hc=>
    obtain⟨r,h1,h2⟩:=GS (bc hP hi) hh hc h;exact .mk (s:=Instr.loadAt t (a.eval x)) (by simp only[execOp,ho]) (by rw[hy];simp[Instr.loadAt,Instr.sureAddr,h1]) h2
 ·rename_i i d k hi hx;have hv:=bD hr hx;generalize hy:a.eval x=y at hv;cases hv with
  | ref d k g hg=>
    split at h
    · rename_i cs hd;have ho2:=hr.obj d _ (aJ hd);rw[hg]at ho2;cases ho2 with
      | box cs g vs T hgg hl hh=>
       obtain⟨r,h1,h2⟩:=GS (S:=S) (β:=β) (w:=w) (g:=g) (b:=0) (u:=fun j=>vs.getD j undef) (bc hP hi) (cs:=cs) (fun j z hz=>hh j z _ hz (by
         have:=(Tl.1 hz).1;simp[UR,show j<vs.size by omega])) (fun j z hz=>by
         have:=(Tl.1 hz).1;rw[Ue,cell_of_row w g j vs T (0,0) hgg];simp[UR,show j<vs.size by omega]) h
       rw[Ue]at h1;exact .mk (s:=Instr.loadAt t (a.eval x)) (by simp only[execOp,ho]) (by rw[hy];simp[Instr.loadAt,Instr.sureAddr,h1]) h2
    · cases h
 ·cases h
theorem Fm(hP:bm P tb)(hr:Rel c S β σ a w){o:Oper}{t k:Nat}{x:Operand}(ho:o.op= .fieldAddr t x k){v:SV}(h:vop tb σ (.fieldAddr t x k)=some v):VOk P S β a w o v:=by
 simp only[vop]at h;split at h
 ·rename_i i y hi hx;split at h
  · rename_i fs hd;split at h
    · rename_i off ft hf;split at h
      ·rename_i j hj;split at h
       ·cases h
       ·rename_i hz;obtain⟨f,hu,hm⟩:=(bc hP hi).struct hd;obtain⟨y',h1,h2,h3⟩:=GB hm hf;subst h2 h3;obtain⟨g,o',h4,h5⟩:=AF h (bD hr hx);refine .mk (s:=Instr.fieldAt t (a.eval x) k) (by simp only[execOp,ho]) ?_ h5;rw[h4];simp[Instr.fieldAt,run_underlying hu,h1,Instr.sureAddr,fieldPlace,(bc hP hj).size,hz,Addr.add_lit]
      ·cases h
    · cases h
  · cases h
 ·cases h
theorem Ny(hP:bm P tb)(hr:Rel c S β σ a w){o:Oper}{t k:Nat}{x:Operand}(ho:o.op= .field t x k){v:SV}(h:vop tb σ (.field t x k)=some v):VOk P S β a w o v:=by
 simp only[vop]at h;split at h
 ·rename_i i cs hi hx;split at h
  · rename_i fs hd;split at h
    · rename_i off ft hf;split at h
      ·rename_i j hj;obtain⟨f,hu,hm⟩:=(bc hP hi).struct hd;obtain⟨y',h1,h2,h3⟩:=GB hm hf;subst h2 h3;have hv:=bD hr hx;generalize hy:a.eval x=y at hv;cases hv with
       | agg cs vs hl hh=>
        obtain⟨r,h4,h5⟩:=Co (bc hP hj) hl hh h;refine .mk (s:=Instr.field t (a.eval x) k) (by simp only[execOp,ho]) ?_ h5;rw[hy];simp[Instr.field,run_underlying hu,h1,asAgg,h4]
      ·cases h
    · cases h
  · cases h
 ·cases h
theorem oL.array{t:Nat}{i:TI}(h:oL P t i){n e:Nat}(hd:i.d= .array n e):P.underlying t=some (.array n e):=by
 have:=h.d;rw[hd]at this;exact this
theorem Nz(hP:bm P tb)(hr:Rel c S β σ a w){o:Oper}{t:Nat}{x y:Operand}(ho:o.op= .index t x y){v:SV}(h:vop tb σ (.index t x y)=some v):VOk P S β a w o v:=by
 simp only[vop]at h;split at h
 ·rename_i i cs k n hi hx hy;split at h
  · rename_i len e hd;split at h
    · rename_i j hj;split at h
      ·rename_i hn;have hv:=bD hr hx;have hw:=bD hr hy;generalize hy1:a.eval x=y1 at hv;generalize hy2:a.eval y=y2 at hw;cases hw with
       | tr _ _ hw=>cases hw with
        | int k n=>
         cases hv with
         | agg cs vs hl hh=>
          obtain⟨r,h4,h5⟩:=Co (bc hP hj) hl hh h;refine .mk (s:=Instr.index t (a.eval x) (a.eval y)) (by simp only[execOp,ho]) ?_ h5;rw[hy1,hy2];simp[Instr.index,asIntOf,run_underlying ((bc hP hi).array hd),hn.1,hn.2,(bc hP hj).size,h4]
      ·cases h
    · cases h
  · cases h
 ·cases h
theorem wY(hP:bm P tb)(hr:Rel c S β σ a w){o:Oper}{t:Nat}{x y:Operand}(ho:o.op= .indexAddr t x y){v:SV}(h:vop tb σ (.indexAddr t x y)=some v):VOk P S β a w o v:=by
 simp only[vop]at h;split at h
 ·rename_i i v1 k n hi hx hy;split at h
  · rename_i len e hd;split at h
    · rename_i j hj;split at h
      ·rename_i hn;have hw:=bD hr hy;generalize hy2:a.eval y=y2 at hw;cases hw with
       | tr _ _ hw=>cases hw with
        | int k n=>
         obtain⟨g,o',h4,h5⟩:=AF h (bD hr hx);refine .mk (s:=Instr.indexAt t (a.eval x) (a.eval y)) (by simp only[execOp,ho]) ?_ h5;rw[h4,hy2];simp[Instr.indexAt,Instr.sureAddr,asIntOf,run_underlying ((bc hP hi).array hd),hn.1,hn.2,(bc hP hj).size,Addr.add_lit]
      ·cases h
    · cases h
  · cases h
 ·cases h
theorem Nx(hr:Rel c S β σ a w){o:Oper}{op:BinOp}{t t':Nat}{x y:Operand}(ho:o.op= .binOp op t x y t'){v:SV}(h:vop tb σ (.binOp op t x y t')=some v):VOk P S β a w o v:=by
 simp only[vop]at h;split at h
 ·rename_i p q hx hy;have hv:=bD hr hx;have hw:=bD hr hy;have he:execOp a.eval o=(do pure (.value (<-(do eqGuard op t x y (a.eval x) (a.eval y);binOp op t (a.eval x) (a.eval y):Sem Value)))):=by simp only[execOp,ho]
  cases hv with
  | tr _ _ hv=>
  cases hw with
  | tr _ _ hw=>
  split at h
  · rename_i r hb;injection h with h;subst h;obtain⟨z,h1,h2⟩:=NT (P:=P) hb hv hw t x y;exact .mk he (h1 w) (.tr _ _ h2)
  · split at h
    · rename_i hb cc;rw[Tn]at h;obtain⟨r,hr',rfl⟩:=h;obtain⟨z,h1,h2⟩:=PU (P:=P) hr' hv t x (.const cc);exact .mk he h1 (.tr _ _ h2)
    · cases h
 ·cases h
theorem PF(hr:Rel c S β σ a w){o:Oper}{op:UnOp}{t:Nat}{x:Operand}(ho:o.op= .unOp op t x){v:SV}(h:vop tb σ (.unOp op t x)=some v):VOk P S β a w o v:=by
 simp only[vop]at h;split at h
 ·rename_i b hx;injection h with h;subst h;have hv:=bD hr hx;generalize hy:a.eval x=y at hv;cases hv with
  | tr _ _ hv=>cases hv with
    | bool b=>exact .mk (s:=Op.unary .not (a.eval x)) (by simp only[execOp,ho]) (by rw[hy];simp[Op.unary]) (.tr _ _ (.bool _))
 ·rename_i k n hx;injection h with h;subst h;have hv:=bD hr hx;generalize hy:a.eval x=y at hv;cases hv with
  | tr _ _ hv=>cases hv with
    | int k n=>exact .mk (s:=Op.unary .neg (a.eval x)) (by simp only[execOp,ho]) (by rw[hy];simp only[Op.unary,Op.intArith];rfl) (.tr _ _ (.int _ _))
 ·cases h
theorem oL.int{t:Nat}{i:TI}(h:oL P t i){k:IntKind}(hd:i.d= .int k):P.underlying t=some (.int k):=by
 have:=h.d;rw[hd]at this;exact this
theorem oL.und{t:Nat}{i:TI}(h:oL P t i):(P.underlying t).isSome=true:=by
 have:=h.d;cases hi:i.d<;>rw[hi]at this<;>unfold PK at this
 case other=>
  obtain⟨_,_,_,hu⟩:=this;rw[hu];rfl
 case struct fs=>
  unfold structOf at this;cases hu:P.underlying t with
  | none=>rw[hu]at this;simp at this
  | some d=>rfl
 all_goals simp[this]
theorem JP(hP:bm P tb)(hr:Rel c S β σ a w){o:Oper}{s d:Nat}{x:Operand}(ho:o.op= .convert s d x){v:SV}(h:vop tb σ (.convert s d x)=some v):VOk P S β a w o v:=by
 simp only[vop]at h;split at h
 ·rename_i i j k n hi hj hx;split at h
  · rename_i k' hd;injection h with h;subst h;have hv:=bD hr hx;generalize hy:a.eval x=y at hv;cases hv with
    | tr _ _ hv=>cases hv with
      | int k n=>
       refine .mk (s:=convert s d (a.eval x)) (by simp only[execOp,ho]) ?_ (.tr _ _ (.int _ _));rw[hy];have h1:=(bc hP hj).int hd;obtain⟨u,hu⟩:=Option.isSome_iff_exists.1 (bc hP hi).und;simp only[convert,Sem.run_bind,run_underlying hu,run_underlying h1,Result.andThen_ok];cases u<;>simp[Conv.intToInt]
  · cases h
 ·cases h
theorem JQ(hr:Rel c S β σ a w){o:Oper}{x:Operand}{k:Nat}(ho:o.op= .extract x k){v:SV}(h:vop tb σ (.extract x k)=some v):VOk P S β a w o v:=by
 simp only[vop]at h;split at h
 ·rename_i cs hx;have hv:=bD hr hx;generalize hy:a.eval x=y at hv;cases hv with
  | tup cs vs hl hh=>
    have:=(Tl.1 h).1;have h1:vs[k]? =some vs[k]:=TW (by omega);exact .mk (s:=Instr.extract (a.eval x) k) (by simp only[execOp,ho]) (by rw[hy];simp[Instr.extract,h1]) (hh k v _ h h1)
 ·cases h
theorem Ho(hr:Rel c S β σ a w){o:Oper}{x:Operand}(ho:o.op= .nilCheck x){v:SV}(h:vop tb σ (.nilCheck x)=some v):VOk P S β a w o v:=by
 simp only[vop]at h;have key: ∀z,ev σ x=some z->some z=some v->(∀y,cT w S β z y->(∃p,y= .pointer (some p))\/ ∃f fs cs,y= .func (.func f) fs cs)->VOk P S β a w o v:=by
  intro z hz he hy;injection he with he;subst he;have hv:=bD hr hz;refine⟨a.eval x,?_,hv⟩;rcases hy _ hv with⟨p,hp⟩ | ⟨f,fs,cs,hp⟩<;>simp only[execOp,ho,hp]<;>rfl
 split at h
 ·exact key _ (by assumption) h fun y hy=>by cases hy;exact .inl ⟨_,rfl⟩
 ·exact key _ (by assumption) h fun y hy=>by cases hy;exact .inl ⟨_,rfl⟩
 ·exact key _ (by assumption) h fun y hy=>by cases hy;exact .inl ⟨_,rfl⟩
 ·exact key _ (by assumption) h fun y hy=>by cases hy;exact .inr ⟨_,_,_,rfl⟩
 ·exact key _ (by assumption) h fun y hy=>by cases hy;exact .inr ⟨_,_,_,rfl⟩
 ·cases h
theorem Hn(hr:Rel c S β σ a w){o:Oper}{f:FuncId}{fs cs:Array Operand}(ho:o.op= .makeFunc (.func f) fs cs){v:SV}(h:vop tb σ (.makeFunc (.func f) fs cs)=some v):VOk P S β a w o v:=by
 simp only[vop]at h;split at h
 ·rename_i hf;rw[Tn]at h;obtain⟨xs,h1,rfl⟩:=h;obtain⟨h2,h3⟩:=tM hr h1;have hf':fs= #[]:=UQ hf;subst hf';refine .mk (s:=Instr.makeFunc (.func f) ((#[]:Array Operand).map a.eval) (cs.map a.eval)) (by simp only[execOp,ho]) (by simp[Instr.makeFunc];rfl) (.clo f xs _ (by simpa using h2) fun j x y hx hy=> ?_);rw[U5,Tn]at hy;obtain⟨z,hz,rfl⟩:=hy;exact h3 j z x (by simpa using hz) hx
 ·split at h
  · rename_i hc;rw[Tn]at h;obtain⟨xs,h1,rfl⟩:=h;obtain⟨h2,h3⟩:=tM hr h1;have hc':cs= #[]:=UQ hc;subst hc';refine .mk (s:=Instr.makeFunc (.func f) (fs.map a.eval) ((#[]:Array Operand).map a.eval)) (by simp only[execOp,ho]) (by simp[Instr.makeFunc];rfl) (.mth f xs _ (by simpa using h2) fun j x y hx hy=> ?_);rw[U5,Tn]at hy;obtain⟨z,hz,rfl⟩:=hy;exact h3 j z x (by simpa using hz) hx
  · cases h
theorem LC(args:Array Operand){xs:List Operand}(h:args.toList=xs)(f:Operand->Value):args.map f=(xs.map f).toArray:=by
 subst h;cases args;simp
theorem PD(hP:bm P tb)(hr:Rel c S β σ a w){o:Oper}{b:Builtin}{args:Array Operand}{ts:Array TypeId}(ho:o.op= .call {callee:= .builtin b,args:=args,argTypes:=ts}){v:SV}
  (h:vop tb σ (.call {callee:= .builtin b,args:=args,argTypes:=ts})=some v):VOk P S β a w o v:=by
 simp only[vop]at h;split at h
 ·rename_i x hargs;have ha:=LC args hargs a.eval;split at h
  · rename_i t d hts hx;split at h
    · rename_i i e m n es hi hd;split at h
      ·rename_i e' hdi;injection h with h;subst h;have hv:=bD hr hx;have hu:P.underlying t=some (.slice e'):=by have:=(bc hP hi).d;rw[hdi]at this;exact this
       have hob:=hr.obj d _ (aJ hd);generalize hy:a.eval x=y at hv;cases hv with
       | own d=>
        cases hob with
        | arr e m n es v xs hn hown he hh=>
         obtain⟨A,cp,hA⟩: ∃A cp,β d= .slice A n cp:=by
          rcases hown.2 with⟨h1,h2⟩ | ⟨g,cap,cur,h1,_⟩
          ·exact⟨none,0,by rw[h1,h2]⟩
          ·exact⟨_,_,h1⟩
         refine⟨.int .i64 n,?_,.tr _ _ (.int _ _)⟩;have ht:ts[0]? =some t:=by rw[<-Ub,hts];rfl
         simp[execOp,ho,resolve,invoke,builtin,ha,hy,hA,Builtin.len_,ht,run_underlying hu,goInt]
      ·cases h
    · cases h
  · rename_i t z hz hts hx;split at h
    · rename_i i hi;rw[Tn]at h;obtain⟨r,h1,rfl⟩:=h;have hv:=bD hr hx;have hdi:=(bc hP hi).d;have ht:ts[0]? =some t:=by rw[<-Ub,hts];rfl
      generalize hy:a.eval x=y at hv;unfold Sq at h1;split at h1
      ·rename_i e' n es hd';injection h1 with h1;subst h1;rw[hd']at hdi;have hu:P.underlying t=some (.slice e'):=hdi;cases hv with
       | tr _ _ hv=>cases hv with
        | sl es A n cp m u hl hc hm he hu' ha'=>
         exact⟨.int .i64 n,by simp[execOp,ho,resolve,invoke,builtin,ha,hy,Builtin.len_,ht,run_underlying hu,goInt],.tr _ _ (.int _ _)⟩
      ·rename_i s hd';injection h1 with h1;subst h1;rw[hd']at hdi;have hu:P.underlying t=some .string:=hdi;cases hv with
       | tr _ _ hv=>cases hv with
        | str s hs=>exact⟨.int .i64 s.size,by simp[execOp,ho,resolve,invoke,builtin,ha,hy,Builtin.len_,ht,run_underlying hu,goInt],.tr _ _ (.int _ _)⟩
      ·rename_i n e' hd';injection h1 with h1;subst h1;rw[hd']at hdi;have hu:P.underlying t=some (.array n e'):=hdi;exact⟨.int .i64 n,by simp[execOp,ho,resolve,invoke,builtin,ha,hy,Builtin.len_,ht,run_underlying hu,goInt],.tr _ _ (.int _ _)⟩
      ·cases h1
    · cases h
  · cases h
 ·rename_i x y hargs;have ha:=LC args hargs a.eval;split at h
  · rename_i p q hx hy;rw[Tn]at h;obtain⟨r,h1,rfl⟩:=h;have hv:=bD hr hx;have hw:=bD hr hy;generalize hz1:a.eval x=z1 at hv;generalize hz2:a.eval y=z2 at hw;unfold OA at h1;split at h1
    · split at h1
      ·injection h1 with h1;subst h1;cases hv with
       | tr _ _ hv=>cases hv with
        | int k n=>cases hw with
         | tr _ _ hw=>cases hw with
          | int k' n'=>exact⟨.int _ _,by simp[execOp,ho,resolve,invoke,builtin,ha,hz1,hz2,Builtin.min_,Builtin.min2],.tr _ _ (.int _ _)⟩
      ·cases h1
    · cases h1
  · cases h
 ·rename_i x y hargs;have ha:=LC args hargs a.eval;split at h
  · rename_i p q hx hy;rw[Tn]at h;obtain⟨r,h1,rfl⟩:=h;have hv:=bD hr hx;have hw:=bD hr hy;generalize hz1:a.eval x=z1 at hv;generalize hz2:a.eval y=z2 at hw;unfold Su at h1;split at h1
    · split at h1
      ·injection h1 with h1;subst h1;cases hv with
       | tr _ _ hv=>cases hv with
        | int k n=>cases hw with
         | tr _ _ hw=>cases hw with
          | int k' n'=>exact⟨.int _ _,by simp[execOp,ho,resolve,invoke,builtin,ha,hz1,hz2,Builtin.max_,Builtin.max2],.tr _ _ (.int _ _)⟩
      ·cases h1
    · cases h1
  · cases h
 ·rename_i x y z hargs;have ha:=LC args hargs a.eval;split at h
  · rename_i p q q' hx hy hz;split at h
    · rename_i m hm;rw[Tn]at h;obtain⟨r,h1,rfl⟩:=h;have hv:=bD hr hx;have hw:=bD hr hy;have hu:=bD hr hz;generalize hz1:a.eval x=z1 at hv;generalize hz2:a.eval y=z2 at hw;generalize hz3:a.eval z=z3 at hu;unfold OA at h1 hm;split at hm
      ·split at hm
       ·injection hm with hm;subst hm;split at h1
        ·rename_i he;injection he with he1 he2;split at h1
         ·injection h1 with h1;subst h1;cases hv with
          | tr _ _ hv=>cases hv with
           | int k n=>cases hw with
            | tr _ _ hw=>cases hw with
             | int k' n'=>cases hu with
              | tr _ _ hu=>cases hu with
               | int k2 n2=>exact⟨.int _ _,by simp[execOp,ho,resolve,invoke,builtin,ha,hz1,hz2,hz3,Builtin.min_,Builtin.min2,he1,he2],.tr _ _ (.int _ _)⟩
         ·cases h1
        ·cases h1
       ·cases hm
      ·cases hm
    · cases h
  · cases h
 ·cases h
theorem JS(hr:Rel c S β σ a w){o:Oper}{x:Operand}(ho:o.op= .move x\/o.op= .assign x){v:SV}(h:ev σ x=some v):VOk P S β a w o v:=by
 rcases ho with ho | ho<;>exact⟨a.eval x,by simp only[execOp,ho];rfl,bD hr h⟩
theorem PE(hr:Rel c S β σ a w){o:Oper}{x y z:Operand}(ho:o.op= .pick x y z){v:SV}(h:vop tb σ (.pick x y z)=some v):VOk P S β a w o v:=by
 simp only[vop]at h;split at h
 ·rename_i hx;have hv:=bD hr hx;generalize hy:a.eval x=y1 at hv;cases hv with
  | tr _ _ hv=>cases hv with
    | bool b=>exact⟨a.eval y,by simp[execOp,ho,hy,asBool],bD hr h⟩
 ·rename_i hx;have hv:=bD hr hx;generalize hy:a.eval x=y1 at hv;cases hv with
  | tr _ _ hv=>cases hv with
    | bool b=>exact⟨a.eval z,by simp[execOp,ho,hy,asBool],bD hr h⟩
 ·cases h
theorem R3(hP:bm P tb)(hr:Rel c S β σ a w){o:Oper}{v:SV}(h:vop tb σ o.op=some v):VOk P S β a w o v:=by
 cases ho:o.op
 case move x=>rw[ho]at h;exact JS hr (.inl ho) h
 case assign x=>rw[ho]at h;exact JS hr (.inr ho) h
 case pick=>rw[ho]at h;exact PE hr ho h
 case load=>rw[ho]at h;exact JR hP hr ho h
 case fieldAddr=>rw[ho]at h;exact Fm hP hr ho h
 case field=>rw[ho]at h;exact Ny hP hr ho h
 case index=>rw[ho]at h;exact Nz hP hr ho h
 case indexAddr=>rw[ho]at h;exact wY hP hr ho h
 case binOp=>rw[ho]at h;exact Nx hr ho h
 case unOp=>rw[ho]at h;exact PF hr ho h
 case convert=>rw[ho]at h;exact JP hP hr ho h
 case extract=>rw[ho]at h;exact JQ hr ho h
 case nilCheck=>rw[ho]at h;exact Ho hr ho h
 case makeFunc fn fs cs=>
  cases fn
  case func f=>rw[ho]at h;exact Hn hr ho h
  all_goals (rw[ho]at h;simp only[vop,reduceCtorEq]at h)
 case call k=>
  obtain⟨cal,args,ts⟩:=k;cases cal
  case builtin b=>rw[ho]at h;exact PD hP hr ho h
  all_goals (rw[ho]at h;simp only[vop,reduceCtorEq]at h)
 all_goals (rw[ho]at h;simp only[vop,reduceCtorEq]at h)
end
def SV.cells:SV->Option (List SV)
 | .agg cs=>some cs
 | .tup _=>none
 | v=>some [v]
theorem SV.tE{w:World}{S:Nat->Prop}{β:Nat->Value}(hβ: ∀d,(β d).cells= #[β d]){v:SV}{cs:List SV}(h:v.cells=some cs){u:Value}(hu:cT w S β v u):
  cs.length=u.cells.size/\ ∀(j:Nat) x y,cs[j]? =some x->u.cells[j]? =some y->cT w S β x y:=by
 have one: ∀{v:SV} {u:Value},u.cells= #[u]->cT w S β v u->[v].length=u.cells.size/\ ∀(j:Nat) x y,[v][j]? =some x->u.cells[j]? =some y->cT w S β x y:=by
  intro v u h1 h2;rw[h1];refine⟨rfl,fun j x y hx hy=> ?_⟩;cases j with
  | zero=>simp at hx hy;subst hx hy;exact h2
  | succ j=>simp at hx
 cases v<;>simp only[SV.cells,Um.injEq,reduceCtorEq]at h<;>subst h
 case tr t=>cases hu with | tr _ _ hv=>exact one (by cases hv<;>rfl) (.tr _ _ hv)
 case agg cs=>cases hu with | agg _ _ hl hh=>exact⟨hl,hh⟩
 case ptr cs o=>exact one (by cases hu;rfl) hu
 case ref d o=>exact one (by cases hu;rfl) hu
 case eref d m i j=>exact one (by cases hu;rfl) hu
 case own d=>exact one (by cases hu;exact hβ d) hu
 case clo f cs=>exact one (by cases hu;rfl) hu
 case mth f cs=>exact one (by cases hu;rfl) hu
 case any=>exact one (by cases hu;assumption) hu
def trs:List SV->Option (List Tr)
 | []=>some []
 | .tr t::r=>match trs r with
  | some ts=>some (t::ts)
  | none=>none
 | _=>none
theorem Lf: ∀{l:List SV} {ts:List Tr},trs l=some ts->l=ts.map .tr
 | [],ts,h=>by injection h with h;subst h;rfl
 | x::r,ts,h=>by
  cases x<;>simp only[trs,reduceCtorEq]at h;split at h
  · rename_i ts' h1;injection h with h;subst h;rw[List.map_cons,<-Lf h1]
  · cases h
def GZ(σ:SS)(m:Nat):Nat->List (Nat×Operand)->Option (List (List Tr))
 | _,[]=>some []
 | k,(i,x)::r=>if i==k then
    match ev σ x with
    | some v=>match v.cells with
      | some cs=>match trs cs,GZ σ m (k+1) r with
       | some ts,some es=>if ts.length==m then some (ts::es)else none
       | _,_=>none
      | none=>none
    | none=>none
  else none
def aop(tb:Tb)(σ:SS)(d:Nat)(ty:Nat):Op->Option (SV×SO)
 | .box _ x=>match ev σ x with
  | some v=>match v.cells with
    | some cs=>some (.ref d 0,.box cs)
    | none=>none
  | none=>none
 | .alloc e=>match find e tb with
  | some i=>match iP i.zero with
    | some _=>some (.ref d 0,.box (i.zero.map .tr))
    | none=>none
  | none=>none
 | .assign (.const (.slice none 0 0))=>match find ty tb with
  | some i=>match i.d with
    | .slice e=>match find e tb with
      | some j=>some (.own d,.arr e j.size 0 [])
      | none=>none
    | _=>none
  | none=>none
 | .buildSlice t len ps=>match find t tb with
  | some i=>match i.d with
    | .slice e=>match find e tb with
      | some j=>match GZ σ j.size 0 ps.toList,iP j.zero with
       | some es,some zs=>if es.length=len/\len*j.size<=16777216/\0<j.size/\zs.length=j.size then some (.own d,.arr e j.size len es)else none
       | _,_=>none
      | none=>none
    | _=>none
  | none=>none
 | _=>none
def SS.put(σ:SS)(d:Nat)(v:SV):SS:={σ with t:=(d,v)::σ.t.filter (fun p=>p.1 !=d)}
def SS.Tc(σ:SS)(d:Option Nat)(v:SV):SS:=match d with
 | some d=>σ.put d v
 | none=>σ
def SS.drop(σ:SS)(d:Option Nat):SS:=match d with
 | some d=>{σ with t:=σ.t.filter (fun p=>p.1 !=d)}
 | none=>σ
def SS.names(σ:SS):List Nat:=(σ.t.flatMap fun p=>p.2.names)++(σ.o.flatMap fun p=>p.1::p.2.names)
section
variable {P : Program} {tb : Tb} {c : Cx} {S : Nat -> Prop} {β : Nat -> Value} {σ : SS} {a : Act} {w : World}
theorem LY(a:Act){d:Nat}(u:Value)(h:d<a.tmps.size):(a.put (some d) u).tmps.getD d undef=u:=by
 simp[Act.put,UR,h]
theorem vR(a:Act){d i:Nat}(u:Value)(h:i≠d):(a.put (some d) u).tmps.getD i undef=a.tmps.getD i undef:=by
 simp only[Act.put,Uu];rw[Array.getElem?_setIfInBounds_ne (Ne.symm h)]
theorem pJ(a:Act)(d:Option Nat)(u:Value):(a.put d u).tmps.size=a.tmps.size:=by cases d<;>simp[Act.put]
theorem put_defers(a:Act)(d:Option Nat)(u:Value):(a.put d u).defers=a.defers:=by cases d<;>rfl
theorem Rel.put(hr:Rel c S β σ a w){d:Nat}(hd:d<σ.n){v:SV}{u:Value}(hv:cT w S β v u):Rel c S β (σ.put d v) (a.put (some d) u) w where
 defers:=(put_defers ..).trans hr.defers
 size:=(pJ ..).trans hr.size
 one:=hr.one
 grew:=hr.grew
 s0:=hr.s0
 s1:=hr.s1
 lt:=hr.lt
 tmp i x hi:=by
  have hd':d<a.tmps.size:=by rw[hr.size];exact hd
  rcases Tx.1 hi with h | h
  · injection h with h1 h2;subst h1 h2;exact⟨by rw[pJ];exact hd',by rw[LY a u hd'];exact hv⟩
  · have h2:=Tu.1 h;have hne:i≠d:=by simpa using h2.2
    obtain⟨h3,h4⟩:=hr.tmp i x h2.1;exact⟨by rw[pJ];exact h3,by rw[vR a u hne];exact h4⟩
 obj:=hr.obj
 pin:=hr.pin
 priv:=hr.priv
 apart:=hr.apart
theorem Rel.drop(hr:Rel c S β σ a w)(d:Option Nat)(u:Value):Rel c S β (σ.drop d) (a.put d u) w where
 defers:=(put_defers ..).trans hr.defers
 size:=by rw[pJ,hr.size];cases d<;>rfl
 one:=hr.one
 grew:=hr.grew
 s0:=hr.s0
 s1:=hr.s1
 lt:=hr.lt
 tmp i x hi:=by
  cases d with
  | none=>exact hr.tmp i x hi
  | some d=>
    have h2:=Tu.1 hi;have hne:i≠d:=by simpa using h2.2
    obtain⟨h3,h4⟩:=hr.tmp i x h2.1;exact⟨by rw[pJ];exact h3,by rw[vR a u hne];exact h4⟩
 obj:=by cases d<;>exact hr.obj
 pin:=by cases d<;>exact hr.pin
 priv:=by cases d<;>exact hr.priv
 apart:=by cases d<;>exact hr.apart
theorem Rel.world(hr:Rel c S β σ a w){w':World}(hg0:dA (fun _=>False) w w'):Rel c S β σ a w' where
 defers:=hr.defers
 size:=hr.size
 one:=hr.one
 grew:=hr.grew.trans ⟨hg0.os,hg0.tape,hg0.output,hg0.size,fun k hk _=>hg0.block k hk id⟩
 s0:=hr.s0
 s1:=hr.s1
 lt b hb:=Ud (hr.lt b hb) hg0.size
 tmp i x hi:=⟨(hr.tmp i x hi).1,(hr.tmp i x hi).2.keep (fun b hb=>hg0.block b (hr.lt b hb) id) fun _ h=>h⟩
 obj d x hd:=(hr.obj d x hd).keep (fun b hb=>hg0.block b (hb.elim (hr.lt b) fun h=>(hr.obj d x hd).lt h) id) fun _ h=>h
 pin:=hr.pin
 priv d x g hd hg:=hr.priv d x g hd (((hr.obj d x hd).ba fun b hb=>hg0.block b ((hr.obj d x hd).lt hb) id).1 hg)
 apart d x d' x' g hd hd' h h':=hr.apart d x d' x' g hd hd' (((hr.obj d x hd).ba fun b hb=>hg0.block b ((hr.obj d x hd).lt hb) id).1 h) (((hr.obj d' x' hd').ba fun b hb=>hg0.block b ((hr.obj d' x' hd').lt hb) id).1 h')
def kt(β:Nat->Value)(d:Nat)(v:Value):Nat->Value:=fun k=>if k=d then v else β k
theorem cy(β:Nat->Value)(d:Nat)(v:Value):kt β d v d=v:=by simp[kt]
theorem cU(β:Nat->Value){d k:Nat}(v:Value)(h:k≠d):kt β d v k=β k:=by simp[kt,h]
theorem lV(β:Nat->Value){d:Nat}(v:Value){l:List Nat}(h:d∉l): ∀k∈l,kt β d v k=β k:=fun _k hk=>cU β v fun e=>h (e▸hk)
theorem Rel.Sv(hr:Rel c S β σ a w){d:Nat}(hd:d∉σ.names)(hn:d<σ.n\/3000000<=d){x:SO}{v:Value}(h1:v.cells= #[v])(hx:cP w S (kt β d v) x v)
  (hb: ∀g,x.ba w v g-> ¬S g/\(((d<σ.n\/3000000<=d)/\c.w0.heap.size<=g)\/(σ.n<=d/\c.Y d g))/\ ∀d' x',(d',x')∈σ.o-> ¬x'.ba w (β d') g):Rel c S (kt β d v) {σ with o:=(d,x)::σ.o} a w where
 defers:=hr.defers
 size:=hr.size
 one k:=by
  unfold kt;split
  · exact h1
  · exact hr.one k
 grew:=hr.grew
 s0:=hr.s0
 s1:=hr.s1
 lt:=hr.lt
 tmp i y hi:=⟨(hr.tmp i y hi).1,(hr.tmp i y hi).2.agree (lV β v fun h=>hd (by
  unfold SS.names;exact T7 _ (TK.2 ⟨(i,y),hi,h⟩)))⟩
 obj k y hk:=by
  rcases Tx.1 hk with h | h
  · injection h with h1 h2;subst h1 h2;rw[cy];exact hx
  · have hne:k≠d:=fun e=>hd (by
      subst e;unfold SS.names;exact TJ _ (TK.2 ⟨(k,y),h,TP⟩))
    rw[cU β v hne];exact(hr.obj k y h).agree (lV β v fun h'=>hd (by
      unfold SS.names;exact TJ _ (TK.2 ⟨(k,y),h,T1 _ h'⟩)))
 pin j u hj:=⟨(hr.pin j u hj).1,fun y hy=>by
  have hlt:=(hr.pin j u hj).1;have hl2:=hr.OW hj;rw[cU β v (by omega)];rcases Tx.1 hy with h | h
  · injection h with h1 h2;omega
  · exact(hr.pin j u hj).2 y h⟩
 priv k y g hk hg:=by
  rcases Tx.1 hk with h | h
  · injection h with h1 h2;subst h1 h2;rw[cy]at hg;exact⟨(hb g hg).1,(hb g hg).2.1⟩
  · have hne:k≠d:=fun e=>hd (by
      subst e;unfold SS.names;exact TJ _ (TK.2 ⟨(k,y),h,TP⟩))
    rw[cU β v hne]at hg;exact hr.priv k y g h hg
 apart k y k' y' g hk hk' hg hg':=by
  have ne: ∀{k y},(k,y)∈σ.o->k≠d:=fun{k y} h e=>hd (by
    subst e;unfold SS.names;exact TJ _ (TK.2 ⟨(k,y),h,TP⟩))
  rcases Tx.1 hk with h | h<;>rcases Tx.1 hk' with h' | h'
  · injection h with h1 h2;injection h' with h3 h4;rw[h1,h3]
  · injection h with h1 h2;subst h1 h2;rw[cy]at hg;rw[cU β v (ne h')]at hg';exact((hb g hg).2.2 k' y' h' hg').elim
  · injection h' with h1 h2;subst h1 h2;rw[cy]at hg';rw[cU β v (ne h)]at hg;exact((hb g hg').2.2 k y h hg).elim
  · rw[cU β v (ne h)]at hg;rw[cU β v (ne h')]at hg';exact hr.apart k y k' y' g h h' hg hg'
theorem Rel.new(hr:Rel c S β σ a w){d:Nat}(hd:d∉σ.names)(hn:d<σ.n){x:SO}{v:Value}(h1:v.cells= #[v])(hx:cP w S (kt β d v) x v)
  (hb: ∀g,x.ba w v g-> ¬S g/\c.w0.heap.size<=g/\ ∀d' x',(d',x')∈σ.o-> ¬x'.ba w (β d') g):Rel c S (kt β d v) {σ with o:=(d,x)::σ.o} a w:=Rel.Sv hr hd (.inl hn) h1 hx fun g hg=>⟨(hb g hg).1,.inl ⟨.inl hn,(hb g hg).2.1⟩,(hb g hg).2.2⟩
theorem Rel.fresh(hr:Rel c S β σ a w): ¬S w.heap.size/\c.w0.heap.size<=w.heap.size/\ ∀d' x',(d',x')∈σ.o-> ¬x'.ba w (β d') w.heap.size:=
 ⟨fun h=>absurd (hr.lt _ h) (Nat.lt_irrefl _),hr.grew.size,fun d' x' h e=>absurd ((hr.obj d' x' h).lt e) (Nat.lt_irrefl _)⟩
end
section
variable {P : Program} {tb : Tb} {c : Cx} {S : Nat -> Prop} {β : Nat -> Value} {σ : SS} {a : Act} {w : World}
theorem Hr{t:Tr}{v:Value}(h:t.ND=some v):TV w S t v:=by
 unfold Tr.ND at h;split at h
 ·injection h with h;subst h;exact .int _ _
 ·injection h with h;subst h;exact .bool _
 ·split at h
  · injection h with h;subst h;exact .str _ (by simp[*])
  · cases h
 ·injection h with h;subst h;exact .sl [] none 0 0 0 (fun _ _=>default) rfl (TA _) (by simp[maxLen]) (by simp) (by simp) (by simp)
 ·injection h with h;subst h;exact .nilf
 ·cases h
theorem om: ∀{ts:List Tr} {vs:List Value},iP ts=some vs->ts.length=vs.length/\ ∀(j:Nat) t v,ts[j]? =some t->vs[j]? =some v->TV w S t v
 | [],vs,h=>by injection h with h;subst h;simp
 | t::ts,vs,h=>by
  unfold iP at h;split at h
  · rename_i y ys hy hys;injection h with h;subst h;obtain⟨h1,h2⟩:=om hys;refine⟨by simp[h1],fun j x v hx hv=> ?_⟩;cases j with
    | zero=>simp at hx hv;subst hx hv;exact Hr hy
    | succ j=>exact h2 j x v (by simpa using hx) (by simpa using hv)
  · cases h
theorem wL{v:Value}{x:SV}(h:vx v=some x):x.names=[]:=by
 unfold vx at h;split at h
 ·injection h with h;subst h;rfl
 ·injection h with h;subst h;rfl
 ·split at h
  · injection h with h;subst h;rfl
  · cases h
 ·injection h with h;subst h;rfl
 ·cases h
theorem xX: ∀{vs:List Value} {xs:List SV},zP vs=some xs->SV.names.namesL xs=[]
 | [],xs,h=>by injection h with h;subst h;rfl
 | v::vs,xs,h=>by
  unfold zP at h;split at h
  · rename_i y ys hy hys;injection h with h;subst h;unfold SV.names.namesL;rw[wL hy,xX hys];rfl
  · cases h
theorem Oa{x:Operand}{v:SV}(h:ev σ x=some v): ∀d∈v.names,d∈σ.names:=by
 cases x with
 | tmp t=>exact fun d hd=>T7 _ (TK.2 ⟨(t,v),aJ h,hd⟩)
 | const u=>
  unfold ev at h;cases u with
  | agg cs=>
    simp only[Tn]at h;obtain⟨xs,h1,rfl⟩:=h;intro d hd;rw[SV.names,xX h1]at hd;cases hd
  | _=>
    intro d hd;rw[wL h]at hd;cases hd
 | global g=>cases h
 | func f=>injection h with h;subst h;intro d hd;simp[SV.names,SV.names.namesL]at hd
theorem KR{cs:List SV}{d:Nat}(h:d∈SV.names.namesL cs): ∃c∈cs,d∈c.names:=by
 induction cs with
 | nil=>cases h
 | cons x xs ih=>
  unfold SV.names.namesL at h;rcases TN.1 h with h | h
  · exact⟨x,TP,h⟩
  · obtain⟨c,h1,h2⟩:=ih h;exact⟨c,T1 _ h1,h2⟩
theorem HK{v:SV}{cs:List SV}(h:v.cells=some cs): ∀d∈SV.names.namesL cs,d∈v.names:=by
 intro d hd;cases v<;>simp only[SV.cells,Um.injEq,reduceCtorEq]at h<;>subst h
 case agg cs=>exact hd
 all_goals
  obtain⟨c,h1,h2⟩:=KR hd;simp only[List.mem_singleton]at h1;subst h1;exact h2
def SS.add(σ:SS)(d:Nat)(v:SV)(x:SO):SS:=({σ with o:=(d,x)::σ.o}:SS).put d v
def AOk(P:Program)(c:Cx)(a:Act)(w:World)(o:Oper)(σ':SS):Prop:= ∃u w',(execOp a.eval o).run P w= .ok (.value u) w'/\eY c σ' (a.put o.dst u) w'/\dA (fun _=>False) w w'
theorem AOk.block(hr:Rel c S β σ a w){o:Oper}{d:Nat}(hd:o.dst=some d)(hn:d<σ.n)(hf:d∉σ.names){v:SV}{x:SO}{cs:Array Value}{T:TypeId}{u:Value}(h1:u.cells= #[u])(hb:cN u=some w.heap.size)
  (hrun:(execOp a.eval o).run P w= .ok (.value u) (w.alloc (.cells cs T))) (hx: ∀w',w'.heap[w.heap.size]? =some (.cells cs T (0,0))->(∀b,S b->w'.heap[b]? =w.heap[b]?)->cP w' S (kt β d u) x u)
  (hv: ∀w',cT w' S (kt β d u) v u) (hft: ∀w' g,x.ba w' u g->cN u=some g:=by exact fun _ _ h=>h):AOk P c a w o (σ.add d v x):=by
 have hg:dA (fun _=>False) w (w.alloc (.cells cs T)):=dA.alloc _ _ _;have hr':=hr.world hg;refine⟨u,_,hrun,⟨S,kt β d u,?_⟩,hg⟩;rw[hd];refine Rel.put (Rel.new hr' hf hn h1 (hx _ (heap_alloc_new _ _) fun b hb=>hg.block b (hr.lt b hb) id) fun g hgg=> ?_) hn (hv _);replace hgg:=hft _ _ hgg;rw[hb]at hgg;injection hgg with hgg;subst hgg;exact⟨hr.fresh.1,hr.fresh.2.1,fun d' x' hm e=>hr.fresh.2.2 d' x' hm (((hr.obj d' x' hm).ba fun b hb=>hg.block b ((hr.obj d' x' hm).lt hb) id).1 e)⟩
theorem PO(hr:Rel c S β σ a w){ν:SS}(hν:Rel c S β ν a w)(hsub: ∀d∈ν.names,d∈σ.names){o:Oper}{d e:Nat}{x:Operand}(hd:o.dst=some d)(hn:d<σ.n)(hf:d∉σ.names)(ho:o.op= .box e x){v:SV}{y:SO}(h:aop tb ν d o.type (.box e x)=some (v,y)):AOk P c a w o (σ.add d v y):=by
 simp only[aop]at h;split at h
 ·rename_i z hz;split at h
  · rename_i cs hcs;injection h with h;injection h with h1 h2;subst h1 h2;obtain⟨h3,h4⟩:=SV.tE hr.one hcs (bD hν hz);refine AOk.block hr hd hn hf (u:= .pointer (some ⟨w.heap.size,0,none⟩)) (cs:=(a.eval x).cells) (T:=e) rfl rfl (by simp[execOp,ho,Instr.box,newVar,newRow]) (fun w' hw hs=> ?_) fun w'=> .ref d 0 _ (cy ..);refine .box _ _ _ _ hw h3 fun j p q hp hq=>((h4 j p q hp hq).keep hs fun _ h=>h).agree (lV β _ fun hm=>hf ?_);exact hsub d (Oa hz d (HK hcs d (SV.cf (Tm hp) hm)))
  · cases h
 ·cases h
theorem Mf(hP:bm P tb)(hr:Rel c S β σ a w){ν:SS}{o:Oper}{d e:Nat}(hd:o.dst=some d)(hn:d<σ.n)(hf:d∉σ.names)(ho:o.op= .alloc e){v:SV}{y:SO}(h:aop tb ν d o.type (.alloc e)=some (v,y)):AOk P c a w o (σ.add d v y):=by
 simp only[aop]at h;split at h
 ·rename_i i hi;split at h
  · rename_i zs hzs;injection h with h;injection h with h1 h2;subst h1 h2;obtain⟨j,h3,_,_,h4⟩:=(bc hP hi).uC;obtain⟨z,h5,h6⟩:=h4 zs hzs;obtain⟨h7,h8⟩:=om (w:=w) (S:=S) hzs;have hsz:z.cells.size=zs.length:=by rw[<-h6];simp
    refine AOk.block hr hd hn hf (u:= .pointer (some ⟨w.heap.size,0,none⟩)) (cs:=z.cells) (T:=e) rfl rfl ?_ (fun w' hw hs=> ?_) fun w'=> .ref d 0 _ (cy ..)
    · have hzr:(zeroValue e).run P w= .ok z w:=by simp[zeroValue,typeInfo,h3,h5]
      simp only[execOp,ho,Instr.alloc,Sem.run_bind,hzr,Result.andThen_ok,newVar,newRow,run_newObj_alloc,Sem.run_pure]
    · refine .box _ _ _ _ hw (by simp[h7,hsz]) fun j p q hp hq=> ?_;rw[Tq,Tn]at hp;obtain⟨t,ht,rfl⟩:=hp;exact .tr _ _ ((h8 j t q ht (by rw[<-h6];simpa using hq)).keep hs fun _ h=>h)
  · cases h
 ·cases h
theorem PQ(_hP:bm P tb)(hr:Rel c S β σ a w){ν:SS}{o:Oper}{d:Nat}(hd:o.dst=some d)(hn:d<σ.n)(hf:d∉σ.names)(ho:o.op= .assign (.const (.slice none 0 0))){v:SV}{y:SO}(h:aop tb ν d o.type (.assign (.const (.slice none 0 0)))=some (v,y)):AOk P c a w o (σ.add d v y):=by
 simp only[aop]at h;split at h
 ·split at h
  · split at h
    · injection h with h;injection h with h1 h2;subst h1 h2;refine⟨.slice none 0 0,w,by simp only[execOp,ho];rfl,⟨S,kt β d (.slice none 0 0),?_⟩,dA.refl _ _⟩;rw[hd];refine Rel.put (Rel.new hr hf hn rfl (.arr _ _ 0 [] _ [] rfl (World.ownsRow_nil _ _ _ _) (by simp) (by simp)) fun g hg=>by simp[SO.ba,cN]at hg) hn ?_;have:cT w S (kt β d (.slice none 0 0)) (.own d) (kt β d (.slice none 0 0) d):= .own d
      rwa [cy]at this
    · cases h
  · cases h
 ·cases h
theorem FX(hr:Rel c S β σ a w){m:Nat}: ∀{k:Nat} {ps:List (Nat×Operand)} {es:List (List Tr)},GZ σ m k ps=some es->
  ∃vs:List Value,(ps.map fun(i,x)=>(i,a.eval x))=((vs.zipIdx k).map fun x=>(x.2,x.1))/\vs.length=es.length/\(∀v∈vs,v.cells.size=m)/\(∀e∈es,e.length=m)/\
    ∀(i:Nat) e v,es[i]? =some e->vs[i]? =some v-> ∀(j:Nat) t u,e[j]? =some t->v.cells[j]? =some u->TV w S t u
 | k,[],es,h=>by injection h with h;subst h;exact⟨[],by simp,rfl,by simp,by simp,by simp⟩
 | k,(i,x)::r,es,h=>by
  simp only[GZ]at h;split at h
  · rename_i hik;have hik:i=k:=by simpa using hik
    subst hik;split at h
    · rename_i v hv;split at h
      ·rename_i cs hcs;split at h
       ·rename_i ts es' hts hes;split at h
        ·rename_i hm;injection h with h;subst h;obtain⟨vs,h1,h2,h3,h4,h5⟩:=FX hr hes;obtain⟨h6,h7⟩:=SV.tE hr.one hcs (bD hr hv);have hcs':=Lf hts;have hm:ts.length=m:=by simpa using hm
         subst hcs';simp only[TM]at h6;refine⟨a.eval x::vs,by simp[h1],by simp[h2],?_,?_,?_⟩
         ·intro y hy;rcases Tx.1 hy with rfl | hy
          ·omega
          ·exact h3 y hy
         ·intro y hy;rcases Tx.1 hy with rfl | hy
          ·exact hm
          ·exact h4 y hy
         ·intro p e y he hy j t u ht hu;cases p with
          | zero=>
           simp at he hy;subst he hy;have:=h7 j (.tr t) u (by simp[ht]) hu;cases this with | tr _ _ q=>exact q
          | succ p=>exact h5 p e y (by simpa using he) (by simpa using hy) j t u ht hu
        ·cases h
       ·cases h
      ·cases h
    · cases h
  · cases h
theorem LH{m:Nat}: ∀{vs:List Value},(∀v∈vs,v.cells.size=m)->(vs.flatMap fun v=>v.cells.toList).length=vs.length*m
 | [],_=>by simp
 | v::vs,h=>by
  rw[List.flatMap_cons,Tz,LH fun u hu=>h u (T1 _ hu),TB,h v TP,List.length_cons,UT];omega
theorem CM(hP:bm P tb)(hr:Rel c S β σ a w){ν:SS}(hν:Rel c S β ν a w)(_hsub: ∀d∈ν.names,d∈σ.names){o:Oper}{d t len:Nat}{ps:Array (Nat×Operand)}(hd:o.dst=some d)(hn:d<σ.n)(hf:d∉σ.names)(ho:o.op= .buildSlice t len ps){v:SV}{y:SO}(h:aop tb ν d o.type (.buildSlice t len ps)=some (v,y)):AOk P c a w o (σ.add d v y):=by
 simp only[aop]at h;split at h
 ·rename_i i hi;split at h
  · rename_i e hdi;split at h
    · rename_i j hj;split at h
      ·rename_i es zs hes hzs;split at h
       ·rename_i hh;obtain⟨hlen,hsm,hpos,hzl⟩:=hh;injection h with h;injection h with h1 h2;subst h1 h2;subst hlen;obtain⟨vs,g1,g2,g3,g4,g5⟩:=FX hν hes;obtain⟨q,h3,hsz,_,h4⟩:=(bc hP hj).uC;obtain⟨z,h5,h6⟩:=h4 zs hzs;have hu:P.underlying t=some (.slice e):=by have:=(bc hP hi).d;rw[hdi]at this;exact this
        have hzz:z.cells.size=j.size:=by rw[<-hzl,<-h6];simp
        have hrow: ∀g cur,w.heap.size=g-> ∀w':World,w'.heap[g]? =some (.cells cur e (0,0))->cur.size=es.length*j.size->cur.toList=vs.flatMap (fun v=>v.cells.toList)->es.length<=maxLen->(∀b,S b->w'.heap[b]? =w.heap[b]?)->cP w' S (kt β d (.slice (some ⟨g,0,none⟩) es.length es.length)) (.arr e j.size es.length es) (.slice (some ⟨g,0,none⟩) es.length es.length):=by
         intro g cur _ w' hw hcs hcl hml hs;refine .arr _ _ _ es _ cur.toList rfl ⟨by rw[TB,hcs],.inr ⟨g,_,cur,rfl,Ul _,hw,TA _,hml,hcs,by rw[<-hcs,<-TB,List.take_length]⟩⟩ g4 fun i x k t u hi hk hu=> ?_;rw[hcl,Go.Great.flat_get hpos vs g3]at hu;have hkl:k<j.size:=by rw[<-g4 x (Tm hi)];exact(Tl.1 hk).1
         rw[show(i*j.size+k)/j.size=i from by rw[Vc,Nat.mul_add_div hpos,Nat.div_eq_of_lt hkl,Uw],show(i*j.size+k) % j.size=k from by rw[Vc,Nat.mul_add_mod,Vt hkl]]at hu;rw[Option.bind_eq_some_iff]at hu;obtain⟨v',hv',hu⟩:=hu;exact(g5 i x v' hi hv' k t u hk hu).keep hs fun _ h=>h
        have hml:es.length<=maxLen:=by
         have:es.length<=es.length*j.size:=Nat.le_mul_of_pos_right _ hpos;simp only[maxLen];omega
        by_cases h0:es.length*j.size=0
        ·have hes0:es.length=0:=by rcases Nat.mul_eq_zero.1 h0 with h | h<;>omega
         have hvs0:vs=[]:=Uf (by omega);have hps0:ps= #[]:=by
          subst hvs0;have:ps.toList=[]:=by simpa using g1
          simpa using this
         subst hvs0;subst hps0;refine AOk.block hr hd hn hf (u:= .slice (some ⟨w.heap.size,0,none⟩) es.length es.length) (cs:= #[]) (T:=e) rfl rfl ?_ (fun w' hw hs=>hrow _ _ rfl w' hw (by simp[h0]) (by simp) hml hs) fun w'=> ?_
         ·rw[execOp,ho];simp only[Instr.buildSlice,Sem.run_bind,run_underlying hu,Result.andThen_ok,(bc hP hj).size,h0,newRow,Sem.run_pure];simp[Instr.fill,hes0];rw[show(Array.range 0)= #[]from rfl,Array.map_empty]
         ·have:cT w' S (kt β d (.slice (some ⟨w.heap.size,0,none⟩) es.length es.length)) (.own d) (kt β d (.slice (some ⟨w.heap.size,0,none⟩) es.length es.length) d):= .own d
          rwa [cy]at this
        ·have hps:(ps.map fun(i,x)=>(i,a.eval x)).toList=(vs.zipIdx 0).map fun x=>(x.2,x.1):=by rw[Array.toList_map];exact g1
         have hwh:=Go.Great.fill_whole hpos vs ((Array.range (es.length*q.size)).map (z.cells[· % z.cells.size]!)) g3 (by simp[g2,hsz]);have hb:=run_buildSlice (P:=P) w t e es.length (ps.map fun(i,x)=>(i,a.eval x)) _ q z hu h3 h5 (by rw[hsz];omega) (by rw[hsz];exact h0) (by rw[hps,hsz];rw[hsz]at hwh;exact hwh);refine AOk.block hr hd hn hf (u:= .slice (some ⟨w.heap.size,0,none⟩) es.length es.length) (cs:=(vs.flatMap fun v=>v.cells.toList).toArray) (T:=e) rfl rfl ?_ (fun w' hw hs=>hrow _ _ rfl w' hw ?_ rfl hml hs) fun w'=> ?_
         ·rw[execOp,ho];simp only[Sem.run_bind,hb,Result.andThen_ok,Sem.run_pure]
         ·rw[Uk,LH g3,g2]
         ·have:cT w' S (kt β d (.slice (some ⟨w.heap.size,0,none⟩) es.length es.length)) (.own d) (kt β d (.slice (some ⟨w.heap.size,0,none⟩) es.length es.length) d):= .own d
          rwa [cy]at this
       ·cases h
      ·cases h
    · cases h
  · cases h
 ·cases h
theorem NJ(hP:bm P tb)(hr:Rel c S β σ a w){ν:SS}(hν:Rel c S β ν a w)(hsub: ∀d∈ν.names,d∈σ.names){o:Oper}{d:Nat}(hd:o.dst=some d)(hn:d<σ.n)(hf:d∉σ.names){v:SV}{y:SO}(h:aop tb ν d o.type o.op=some (v,y)):AOk P c a w o (σ.add d v y):=by
 cases ho:o.op
 case box=>rw[ho]at h;exact PO hr hν hsub hd hn hf ho h
 case alloc=>rw[ho]at h;exact Mf hP hr hd hn hf ho h
 case buildSlice=>rw[ho]at h;exact CM hP hr hν hsub hd hn hf ho h
 case assign x=>
  have hx:x= .const (.slice none 0 0):=by
    rw[ho]at h;unfold aop at h;split at h<;>simp_all
  subst hx;rw[ho]at h;exact PQ hP hr hd hn hf ho h
 all_goals (rw[ho]at h;simp only[aop,reduceCtorEq]at h)
end
def NoQ:Exit->Act->World->Prop:=fun _ _ _=>False
abbrev RV:=Option (SV×Option SO)
def SS.app(σ:SS)(d:Option Nat):RV->SS
 | none=>σ.drop d
 | some (v,none)=>σ.Tc d v
 | some (v,some x)=>match d with
  | some d=>σ.add d v x
  | none=>σ
structure Sub (ν σ:SS):Prop where
 n:ν.n=σ.n
 t: ∀x∈ν.t,x∈σ.t
 o: ∀x∈ν.o,x∈σ.o
theorem Sub.refl(σ:SS):Sub σ σ:=⟨rfl,fun _ h=>h,fun _ h=>h⟩
theorem Sub.rel{ν σ:SS}(h:Sub ν σ){c:Cx}{S:Nat->Prop}{β:Nat->Value}{a:Act}{w:World}(hr:Rel c S β σ a w):Rel c S β ν a w:=
 ⟨hr.defers,hr.size.trans h.n.symm,hr.one,hr.grew,hr.s0,hr.s1,hr.lt,fun i v hi=>hr.tmp i v (h.t _ hi),fun d x hd=>hr.obj d x (h.o _ hd),fun j v hj=>⟨h.n▸(hr.pin j v hj).1,fun x hx=>(hr.pin j v hj).2 x (h.o _ hx)⟩,fun d x g hd hg=>by have:=hr.priv d x g (h.o _ hd) hg;rwa [<-h.n]at this,fun d x d' x' g hd hd'=>hr.apart d x d' x' g (h.o _ hd) (h.o _ hd')⟩
theorem Sub.names{ν σ:SS}(h:Sub ν σ): ∀d∈ν.names,d∈σ.names:=fun d hd=>by
 unfold SS.names at hd⊢;rcases TN.1 hd with hd | hd
 ·obtain⟨x,hx,hd⟩:=TK.1 hd;exact T7 _ (TK.2 ⟨x,h.t x hx,hd⟩)
 ·obtain⟨x,hx,hd⟩:=TK.1 hd;exact TJ _ (TK.2 ⟨x,h.o x hx,hd⟩)
def pj(r:RV)(d:Option Nat)(σ:SS):Prop:=match r with
 | some (_,some _)=> ∀d',d=some d'->d'∉σ.names
 | _=>True
def iQ(P:Program)(ops:Array Oper)(o:Oper)(a:Act)(w:World)(K:Act->World->Prop):Prop:=
 if Region.wanted o (yielded ops a.tmps)then o.wp P a w K NoQ else K (a.put o.dst undef) w
def bN(P:Program)(ops:Array Oper)(o:Oper)(ν:SS)(r:RV):Prop:=
 ∀σ c a w,Sub ν σ->pj r o.dst σ->eY c σ a w->iQ P ops o a w fun a' w'=>eY c (σ.app o.dst r) a' w'
def gd(ops:Array Oper)(σ:SS)(o:Oper):Option Bool:=match o.guard with
 | none=>some true
 | some (j,want)=>match(ops[j]?).bind (·.dst)with
  | some g=>match find g σ.t with
    | some (.tr (.bool b))=>some (b==want)
    | some (.tup [])=>some false
    | _=>none
  | none=>none
def kf(σ:SS)(o:Oper):Bool:=match o.dst with
 | some d=>decide (d<σ.n)
 | none=>true
def uI(tb:Tb)(ops:Array Oper)(ν:SS)(o:Oper):Option RV:=
 match gd ops ν o with
 | some true=>
  if kf ν o then
    match o.dst with
    | some d=>match aop tb ν d o.type o.op with
      | some (v,x)=>some (some (v,some x))
      | none=>(vop tb ν o.op).map fun v=>some (v,none)
    | none=>(vop tb ν o.op).map fun v=>some (v,none)
  else none
 | some false=>if kf ν o then some (some (.tup [],none))else none
 | none=>none
section
variable {P : Program} {tb : Tb} {ops : Array Oper}
theorem px{c:Cx}{S:Nat->Prop}{β:Nat->Value}{σ:SS}{a:Act}{w:World}(hr:Rel c S β σ a w){o:Oper}{b:Bool}(h:gd ops σ o=some b):Region.wanted o (yielded ops a.tmps)=b:=by
 unfold gd at h;unfold Region.wanted;split at h
 ·rename_i hg;rw[hg];injection h
 ·rename_i j want hg;rw[hg];split at h
  · rename_i g hj;split at h
    · rename_i b' hf;injection h with h;obtain⟨h1,h2⟩:=hr.tmp g _ (aJ hf);have hy:yielded ops a.tmps j=some b':=by
       unfold yielded;rw[hj,Ti,TW h1];rw[Uu,TW h1,Vu]at h2;generalize a.tmps[g]=x at h2;cases h2 with | tr _ _ h3=>cases h3;rfl
      simp only[hy];rw[<-h];cases b'<;>cases want<;>rfl
    · rename_i hf;injection h with h;obtain⟨h1,h2⟩:=hr.tmp g _ (aJ hf);have hy:yielded ops a.tmps j=none:=by
       unfold yielded;rw[hj,Ti,TW h1];rw[Uu,TW h1,Vu]at h2;generalize a.tmps[g]=x at h2;cases h2;rfl
      simp only[hy];rw[<-h];cases want<;>rfl
    · cases h
  · cases h
theorem lr{o:Oper}{a:Act}{w w':World}{u:Value}{K:Act->World->Prop}(h:(execOp a.eval o).run P w= .ok (.value u) w')(hk:K (a.put o.dst u) w'):o.wp P a w K NoQ:=by
 unfold Oper.wp;rw[h];exact hk
theorem yG(hP:bm P tb){o:Oper}{ν:SS}{r:RV}(h:uI tb ops ν o=some r):bN P ops o ν r:=by
 intro σ c a w hs hf ⟨S,β,hr⟩;have hν:=hs.rel hr;unfold uI at h;unfold iQ;split at h
 ·rename_i hg;rw[px hν hg,if_pos rfl];split at h
  · rename_i hd;have hval: ∀v,vop tb ν o.op=some v->r=some (v,none)->o.wp P a w (fun a' w'=>eY c (σ.app o.dst r) a' w') NoQ:=by
      intro v hv he;subst he;obtain⟨u,h1,h2⟩:=R3 hP hν hv;refine lr h1 ⟨S,β,?_⟩;cases hdst:o.dst with
      | none=>exact hr
      | some d=>
       unfold kf at hd;rw[hdst]at hd;exact Rel.put hr (by rw[<-hs.n];simpa using hd) h2
    split at h
    · rename_i d hdst;split at h
      ·rename_i v x ha;injection h with h;subst h;unfold kf at hd;rw[hdst]at hd;obtain⟨u,w',h1,h2,_⟩:=NJ hP hr hν hs.names hdst (by rw[<-hs.n];simpa using hd) (hf d hdst) ha;refine lr h1 ?_;rw[hdst];rw[hdst]at h2;exact h2
      ·rw[Tn]at h;obtain⟨v,hv,he⟩:=h;exact hval v hv he.symm
    · rw[Tn]at h;obtain⟨v,hv,he⟩:=h;exact hval v hv he.symm
  · cases h
 ·rename_i hg;split at h
  · rename_i hd;injection h with h;subst h;rw[px hν hg];simp only[Wu,if_false];refine⟨S,β,?_⟩;cases hdst:o.dst with
    | none=>exact hr
    | some d=>
      unfold kf at hd;rw[hdst]at hd;exact Rel.put hr (by rw[<-hs.n];simpa using hd) (.tup [] #[] rfl (fun j c v h=>by simp at h))
  · cases h
 ·cases h
def aj(P:Program)(ops:Array Oper)(todo:List Oper)(Q:SS->Prop)(σ:SS):Prop:=
 ∀c a w,eY c σ a w->wpList P ops (fun e a' w'=>e= .normal/\ ∃σ',Q σ'/\eY c σ' a' w') todo a w
theorem aj.nil{Q:SS->Prop}{σ:SS}(h:Q σ):aj P ops [] Q σ:=fun _ _ _ hr=>⟨rfl,σ,h,hr⟩
theorem aj.le{todo:List Oper}{Q:SS->Prop}{σ σ':SS}(hl:Le σ σ')(h:aj P ops todo Q σ'):aj P ops todo Q σ:=fun c a w hr=>h c a w (hl c a w hr)
theorem aj.mono{todo:List Oper}{Q Q':SS->Prop}{σ:SS}(h:aj P ops todo Q σ)(hq: ∀σ,Q σ->Q' σ):aj P ops todo Q' σ:=by
 intro c a w hr;have h0:=h c a w hr;clear hr h;revert h0
 induction todo generalizing a w with
 | nil=>exact fun⟨h1,s,h2,h3⟩=>⟨h1,s,hq s h2,h3⟩
 | cons o rest ih=>
  intro h;unfold wpList at h⊢;split
  · rename_i hw;rw[if_pos hw]at h;rcases h with h | ⟨h,a0,w0,h0,_⟩
    · left;unfold Oper.wp at*;generalize (execOp a.eval o).run P w=r at*;cases r with
      | ok n w'=>
       cases n<;>simp only[Oper.upon]at h⊢ <;>
        first
         | exact ih _ _ h
         | exact Calls.mono h (fun e w'' he=>by
           cases e with
           | returned v=>exact ih _ _ he
           | panicked ch=>exact absurd he.1 (by simp)
           | outgrown=>obtain⟨a0,w0,h0,_⟩:=he;exact absurd h0 (by simp))
         | exact Rows.mono h (fun _ _ he=>ih _ _ he)
         | exact absurd h.1 (by simp)
         | exact h
      | halt x w'=>
       cases x<;>simp only[Oper.upon]at h⊢ <;>first | exact absurd h.1 (by simp) | exact h
    · exact absurd h0 (by simp)
  · rename_i hw;rw[if_neg hw]at h;exact ih _ _ h
theorem iQ.list{o:Oper}{rest:List Oper}{a:Act}{w:World}{Q:Exit->Act->World->Prop}{K:Act->World->Prop}(h:iQ P ops o a w K)(hk: ∀a w,K a w->wpList P ops Q rest a w):wpList P ops Q (o::rest) a w:=by
 unfold iQ at h;unfold wpList;split
 ·rename_i hw;rw[if_pos hw]at h;left;unfold Oper.wp at*;generalize (execOp a.eval o).run P w=r at*;cases r with
  | ok n w'=>
    cases n<;>simp only[Oper.upon]at h⊢ <;>
      first
       | exact hk _ _ h
       | exact Calls.mono h (fun e w'' he=>by
         cases e with
         | returned v=>exact hk _ _ he
         | panicked ch=>exact he.elim
         | outgrown=>obtain⟨a0,w0,h0⟩:=he;exact h0.elim)
       | exact Rows.mono h (fun _ _ he=>hk _ _ he)
       | exact h.elim
  | halt x w'=>cases x<;>simp only[Oper.upon]at h⊢ <;>first | exact h.elim | exact(h:False).elim
 ·rename_i hw;rw[if_neg hw]at h;exact hk _ _ h
theorem aj.step{o:Oper}{rest:List Oper}{Q:SS->Prop}{σ:SS}{r:RV}(h:bN P ops o σ r)(hf:pj r o.dst σ)(k:aj P ops rest Q (σ.app o.dst r)):aj P ops (o::rest) Q σ:=
 fun c a w hr=>(h σ c a w (Sub.refl σ) hf hr).list fun a' w' hr'=>k c a' w' hr'
def iS(r:RV)(d:Option Nat)(σ:SS):Bool:=match r,d with
 | some (_,some _),some d'=> !σ.names.contains d'
 | _,_=>true
theorem rh{r:RV}{d:Option Nat}{σ:SS}(h:iS r d σ=true):pj r d σ:=by
 unfold pj;split
 ·intro d' hd;subst hd;simp only[iS,Un,U8,decide_eq_false_iff_not]at h;exact h
 ·trivial
def RW(tb:Tb)(ops:Array Oper):Nat->List Oper->SS->Option SS
 | 0,_,σ=>some σ
 | n+1,o::rest,σ=>match uI tb ops σ o with
  | some r=>if iS r o.dst σ then RW tb ops n rest (σ.app o.dst r)else none
  | none=>none
 | _+1,[],_=>none
theorem aj.chunk(hP:bm P tb){Q:SS->Prop}{σ':SS}: ∀(n:Nat) {todo:List Oper} {σ:SS},RW tb ops n todo σ=some σ'->aj P ops (todo.drop n) Q σ'->aj P ops todo Q σ
 | 0,todo,σ,h,k=>by
  injection h with h;subst h;exact k
 | n+1,[],σ,h,_=>by cases h
 | n+1,o::rest,σ,h,k=>by
  unfold RW at h;split at h
  · rename_i r hr;split at h
    · rename_i hf;exact aj.step (yG hP hr) (rh hf) (aj.chunk hP n h k)
    · cases h
  · cases h
end
def nuW(ops:Array Oper)(k0 D:List Nat)(ch:Bool)(nw:List Nat)(o:Oper)(σ:SS):SS:=
 ⟨σ.n,σ.t.filter (fun p=>(o.looksAt ops).contains p.1),σ.o.filter (fun p=>bif D.contains p.1 then ch else k0.contains p.1 || nw.contains p.1)⟩
structure EV where
 r:RV
 ch:Bool
 up:Option (Nat×SO)
 nw:List Nat
def SS.kt(σ:SS):Option (Nat×SO)->SS
 | none=>σ
 | some p=>{σ with o:=p::σ.o.filter (fun q=>q.1 !=p.1)}
def SS.qY(σ:SS)(d:Option Nat)(e:EV):SS:=(σ.kt e.up).app d e.r
def pk(P:Program)(ops:Array Oper)(o:Oper)(ν:SS)(e:EV):Prop:=
 ∀σ c a w,Sub ν σ->(∀p,e.up=some p-> ∀q∈σ.o,p.1∉q.2.names)->pj e.r o.dst σ->eY c σ a w->iQ P ops o a w fun a' w'=>eY c (σ.qY o.dst e) a' w'
theorem bN.toW{P:Program}{ops:Array Oper}{o:Oper}{ν:SS}{r:RV}(h:bN P ops o ν r)(ch:Bool)(nw:List Nat):pk P ops o ν ⟨r,ch,none,nw⟩:=fun σ c a w hs _ hf hr=>h σ c a w hs hf hr
theorem pk.mono{P:Program}{ops:Array Oper}{o:Oper}{ν ν':SS}{e:EV}(h:pk P ops o ν e)(hs:Sub ν ν'):pk P ops o ν' e:=fun σ c a w hs' hp hf hr=>h σ c a w ⟨hs.n.trans hs'.n,fun x hx=>hs'.t x (hs.t x hx),fun x hx=>hs'.o x (hs.o x hx)⟩ hp hf hr
def keys(σ:SS):List Nat:=σ.o.map (·.1)
inductive Ht (P:Program) (ops:Array Oper) (D:List Nat) (σ0:SS):List (Oper×EV)->SS->Prop
 | nil:Ht P ops D σ0 [] σ0
 | snoc {l:List (Oper×EV)} {σ:SS} {o:Oper} {e:EV} (h:Ht P ops D σ0 l σ) (hs:pk P ops o (nuW ops (keys σ0) D e.ch e.nw o σ) e):Ht P ops D σ0 (l++[(o,e)]) (σ.qY o.dst e)
 | sub {l:List (Oper×EV)} {σ σ':SS} (h:Ht P ops D σ0 l σ) (hs:Sub σ' σ):Ht P ops D σ0 l σ'
def stA(σ0:SS)(l:List (Oper×EV))(j:Nat):SS:=(l.take j).foldl (fun σ x=>σ.qY x.1.dst x.2) σ0
def HW(x:Oper×EV):Option (Nat×SV):=match x.1.dst,x.2.r with
 | some d,some (v,_)=>some (d,v)
 | _,_=>none
def Ke(x:Oper×EV):Option (Nat×SO):=match x.1.dst,x.2.r with
 | some d,some (_,some y)=>some (d,y)
 | _,_=>none
def kq(x:Oper×EV):Option Nat:=x.2.up.map (·.1)
def waits(o:Oper)(i:Nat):Bool:=o.after.any fun e=>Region.binds .any e&&e.on==i
def kT(l:List (Oper×EV)):Nat->Oper->Nat->Bool
 | 0,_,_=>false
 | n+1,o,j=>waits o j || o.after.any fun e=>Region.binds .any e&&(match l[e.on]? with | some x=>kT l n x.1 j | none=>false)
def Cz:RV->List Nat
 | none=>[]
 | some (v,none)=>v.names
 | some (v,some x)=>v.names++x.names
def uD:RV->Bool
 | some (_,some _)=>true
 | _=>false
def lh:RV->List Nat
 | some (_,some x)=>x.names
 | _=>[]
def Rl(l:List (Oper×EV))(o:Oper)(j k:Nat):Bool:=l.zipIdx.all fun y=>y.2==j || (kq y.1 !=some k&& !y.1.2.nw.contains k&& !(lh y.1.2.r).contains k&&(!(y.1.1.dst==some k) || (decide (y.2<j)&&kT l 6 o y.2)))
def R8(σ0:SS)(D:List Nat)(l:List (Oper×EV))(x:Oper×EV)(j k:Nat):Prop:=
 k∉D/\k∉σ0.names/\k∉lh x.2.r/\x.1.dst≠some k/\ ∀(i:Nat) y,l[i]? =some y->i≠j->kq y≠some k/\k∉y.2.nw/\k∉lh y.2.r/\(y.1.dst=some k->i<j/\kT l 6 x.1 i=true)
def OO(ops:Array Oper)(σ0:SS)(D:List Nat)(l:List (Oper×EV)):Bool:=
 (σ0.o.all fun p=>p.2.names.all fun k=> !D.contains k)&&
 l.zipIdx.all fun p=>let o:=p.1.1;let j:=p.2
  (o.after.all fun e=> !Region.binds .any e || decide (e.on<j))&&
  ((match o.dst with | some d=> !uD p.1.2.r || (!σ0.names.contains d&& !D.contains d) | none=>true)&&
   (match p.1.2.up with | some q=>q.2.names.isEmpty&&(p.1.2.ch&&D.contains q.1 || (!D.contains q.1&& !σ0.names.contains q.1&& !(lh p.1.2.r).contains q.1&& !(p.1.1.dst==some q.1)&&Rl l p.1.1 j q.1)) | none=>true)&&
   ((lh p.1.2.r).all fun k=> !D.contains k))&&
  l.zipIdx.all fun q=>let o':=q.1.1;let i:=q.2
    (i==j ||
    ((match o.dst,o'.dst with | some d,some d'=>d !=d' | _,_=>true)&&
     (match o'.dst with | some d'=> !(o.looksAt ops).contains d' || (if i<j then waits o i else waits o' j) | none=>true)&&
     ((match o.dst with | some d=> !uD p.1.2.r || (!(Cz q.1.2.r).contains d || kT l 6 o' j) | none=>true)&&
      (match o'.dst with | some d=> !uD q.1.2.r || (!p.1.2.nw.contains d || kT l 6 o i) | none=>true)&&
      (!(decide (i<j)&&p.1.2.ch&&q.1.2.ch&&(p.1.2.up.isSome || q.1.2.up.isSome)) || (kT l 6 o i || l.zipIdx.any fun k=>decide (i<k.2)&&decide (k.2<j)&&k.1.2.ch&&k.1.2.up.isSome)))))
section
variable {P : Program} {ops : Array Oper}
theorem zw(σ0:SS)(l:List (Oper×EV)){j:Nat}{x:Oper×EV}(h:l[j]? =some x):stA σ0 l (j+1)=(stA σ0 l j).qY x.1.dst x.2:=by
 obtain⟨hj,rfl⟩:=Tl.1 h;unfold stA;rw[List.take_succ_eq_append_getElem hj,List.foldl_append];rfl
theorem F8{σ:SS}{u:Option (Nat×SO)}{p:Nat×SO}:p∈(σ.kt u).o↔u=some p\/(p∈σ.o/\ ∀y,u≠some (p.1,y)):=by
 cases u with
 | none=>simp[SS.kt]
 | some q=>
  simp only[SS.kt,Tx,Tu,bne_iff_ne,ne_eq,Um.injEq];constructor
  · rintro(h | ⟨h1,h2⟩)
    · exact .inl h.symm
    · exact .inr ⟨h1,fun y e=>h2 (by rw[e])⟩
  · rintro(h | ⟨h1,h2⟩)
    · exact .inl h.symm
    · exact .inr ⟨h1,fun e=>h2 q.2 (by rw[e])⟩
theorem PB(σ:SS)(u:Option (Nat×SO)):(σ.kt u).t=σ.t:=by cases u<;>rfl
theorem PA(σ:SS)(u:Option (Nat×SO)):(σ.kt u).n=σ.n:=by cases u<;>rfl
theorem Re{σ:SS}{d:Option Nat}{r:RV}{p:Nat×SV}(h:p∈(σ.app d r).t):(p∈σ.t/\d≠some p.1)\/(∃y,d=some p.1/\r=some (p.2,y)):=by
 have hput: ∀{d:Nat} {v:SV},p∈(σ.put d v).t->(p∈σ.t/\some d≠some p.1)\/p=(d,v):=fun{d v} h=>by
  rcases Tx.1 h with h | h
  · exact .inr h
  · have h2:=Tu.1 h;refine .inl ⟨h2.1,fun e=> ?_⟩;injection e with e;simp[e]at h2
 unfold SS.app at h;split at h
 ·cases d with
  | none=>exact .inl ⟨h,by simp⟩
  | some d=>
    have h2:=Tu.1 h;refine .inl ⟨h2.1,fun e=> ?_⟩;injection e with e;simp[e]at h2
 ·rename_i v;cases d with
  | none=>exact .inl ⟨h,by simp⟩
  | some d=>
    rcases hput h with h | rfl
    · exact .inl h
    · exact .inr ⟨_,rfl,rfl⟩
 ·rename_i v x;cases d with
  | none=>exact .inl ⟨h,by simp⟩
  | some d=>
    rcases Tx.1 h with rfl | h
    · exact .inr ⟨_,rfl,rfl⟩
    · have h2:=Tu.1 h;refine .inl ⟨h2.1,fun e=> ?_⟩;injection e with e;simp[e]at h2
theorem Rc{σ:SS}{d:Option Nat}{r:RV}{p:Nat×SO}(h:p∈(σ.app d r).o):p∈σ.o\/ ∃v,d=some p.1/\r=some (v,some p.2):=by
 unfold SS.app at h;split at h
 ·cases d<;>exact .inl h
 ·cases d<;>exact .inl h
 ·rename_i v x;cases d with
  | none=>exact .inl h
  | some d=>
    rcases Tx.1 h with rfl | h
    · exact .inr ⟨v,rfl,rfl⟩
    · exact .inl h
theorem NM(σ:SS)(d:Option Nat)(r:RV):(σ.app d r).n=σ.n:=by
 unfold SS.app;split<;>cases d<;>rfl
theorem Pp{σ:SS}{d:Option Nat}{r:RV}{p:Nat×SV}(h:p∈σ.t)(hd:d≠some p.1):p∈(σ.app d r).t:=by
 have hf: ∀d',d=some d'->p∈σ.t.filter (fun q=>q.1 !=d'):=fun d' e=>Tu.2 ⟨h,by
  simp only[bne_iff_ne,ne_eq];intro e';exact hd (by rw[e,e'])⟩
 unfold SS.app;split
 ·cases d with
  | none=>exact h
  | some d=>exact hf d rfl
 ·cases d with
  | none=>exact h
  | some d=>exact T1 _ (hf d rfl)
 ·cases d with
  | none=>exact h
  | some d=>exact T1 _ (hf d rfl)
theorem F7{σ:SS}{d:Nat}{v:SV}{y:Option SO}:(d,v)∈(σ.app (some d) (some (v,y))).t:=by
 cases y<;>exact TP
theorem OF{σ:SS}{d:Option Nat}{r:RV}{p:Nat×SO}(h:p∈σ.o):p∈(σ.app d r).o:=by
 unfold SS.app;split
 ·cases d<;>exact h
 ·cases d<;>exact h
 ·cases d with
  | none=>exact h
  | some d=>exact T1 _ h
theorem FU{σ:SS}{d:Nat}{v:SV}{y:SO}:(d,y)∈(σ.app (some d) (some (v,some y))).o:=TP
theorem NL(σ:SS)(d:Option Nat)(e:EV):(σ.qY d e).n=σ.n:=(NM _ _ _).trans (PA _ _)
theorem Rt{σ:SS}{d:Option Nat}{e:EV}{p:Nat×SV}(h:p∈(σ.qY d e).t):(p∈σ.t/\d≠some p.1)\/(∃y,d=some p.1/\e.r=some (p.2,y)):=by
 rcases Re h with h | h
 ·rw[PB]at h;exact .inl h
 ·exact .inr h
theorem Rs{σ:SS}{d:Option Nat}{e:EV}{p:Nat×SO}(h:p∈(σ.qY d e).o):(p∈σ.o/\ ∀y,e.up≠some (p.1,y))\/e.up=some p\/ ∃v,d=some p.1/\e.r=some (v,some p.2):=by
 rcases Rc h with h | h
 ·rcases F8.1 h with h | h
  · exact .inr (.inl h)
  · exact .inl h
 ·exact .inr (.inr h)
theorem Sub.qY{σ σ':SS}(h:Sub σ σ')(d:Option Nat)(e:EV):Sub (σ.qY d e) (σ'.qY d e):=by
 have hu:Sub (σ.kt e.up) (σ'.kt e.up):=by
  refine⟨by rw[PA,PA];exact h.n,fun p hp=>by rw[PB]at hp⊢;exact h.t p hp,fun p hp=> ?_⟩;rcases F8.1 hp with hp | ⟨h1,h2⟩
  · exact F8.2 (.inl hp)
  · exact F8.2 (.inr ⟨h.o p h1,h2⟩)
 unfold SS.qY;generalize σ.kt e.up=u at hu;generalize σ'.kt e.up=u' at hu;refine⟨by rw[NM,NM];exact hu.n,fun p hp=> ?_,fun p hp=> ?_⟩
 ·rcases Re hp with⟨h1,h2⟩ | ⟨y,h1,h2⟩
  · exact Pp (hu.t p h1) h2
  · rw[h1,h2];exact F7
 ·rcases Rc hp with h1 | ⟨v,h1,h2⟩
  · exact OF (hu.o p h1)
  · rw[h1,h2];exact FU
theorem Sub.nuW{σ σ':SS}(h:Sub σ σ'){k0 D:List Nat}{ch:Bool}{nw:List Nat}{o:Oper}:Sub (nuW ops k0 D ch nw o σ) (nuW ops k0 D ch nw o σ'):=
 ⟨h.n,fun p hp=>Tu.2 ⟨h.t p (Tu.1 hp).1,(Tu.1 hp).2⟩,fun p hp=>Tu.2 ⟨h.o p (Tu.1 hp).1,(Tu.1 hp).2⟩⟩
theorem Ht.steps{D:List Nat}{σ0 σ:SS}{l:List (Oper×EV)}(h:Ht P ops D σ0 l σ):Sub σ (stA σ0 l l.length)/\ ∀(j:Nat) o e,l[j]? =some (o,e)->pk P ops o (nuW ops (keys σ0) D e.ch e.nw o (stA σ0 l j)) e:=by
 induction h with
 | nil=>exact⟨Sub.refl _,by simp⟩
 | sub h hs ih=>exact⟨⟨hs.n.trans ih.1.n,fun x hx=>ih.1.t x (hs.t x hx),fun x hx=>ih.1.o x (hs.o x hx)⟩,ih.2⟩
 | @snoc l σ o e h hs ih=>
  obtain⟨h1,h2⟩:=ih;have hst: ∀j,j<=l.length->stA σ0 (l++[(o,e)]) j=stA σ0 l j:=fun j hj=>by
    unfold stA;rw[List.take_append_of_le_length hj]
  refine⟨?_,fun j o' r' hj=> ?_⟩
  · rw[Tz,List.length_singleton,zw σ0 _ (x:=(o,e)) (by simp),hst _ (TA _)];exact h1.qY _ _
  · by_cases hlt:j<l.length
    · rw[hst j (by omega)];exact h2 j o' r' (by rwa [TE hlt]at hj)
    · have hle:j<l.length+1:=by
       have:=(Tl.1 hj).1;simpa using this
      obtain rfl:j=l.length:=by omega
      simp at hj;obtain⟨rfl,rfl⟩:=hj;rw[hst _ (TA _)];exact hs.mono h1.nuW
theorem L4(σ0:SS)(l:List (Oper×EV)): ∀j,(stA σ0 l j).n=σ0.n
 | 0=>rfl
 | j+1=>by
  rcases hj:l[j]? with _ | x
  · have hl:=List.getElem?_eq_none_iff.1 hj;unfold stA;rw[T4 (by omega),<-T4 hl];exact L4 σ0 l j
  · rw[zw σ0 l hj,NL];exact L4 σ0 l j
theorem Pg(σ0:SS)(l:List (Oper×EV)): ∀(j:Nat) {p:Nat×SV},j<=l.length->p∈(stA σ0 l j).t->(p∈σ0.t/\ ∀i x,i<j->l[i]? =some x->x.1.dst≠some p.1)\/ ∃i x,i<j/\l[i]? =some x/\HW x=some p
 | 0,p,_,h=> .inl ⟨h,fun i x hi=>by omega⟩
 | j+1,p,hj,h=>by
  have hx:l[j]? =some (l[j]'(by omega)):=Tk _;rw[zw σ0 l hx]at h;rcases Rt h with⟨h1,h2⟩ | ⟨y,h1,h2⟩
  · rcases Pg σ0 l j (by omega) h1 with⟨h3,h4⟩ | ⟨i,x,h3,h4,h5⟩
    · refine .inl ⟨h3,fun i x hi hl=> ?_⟩;by_cases hij:i<j
      ·exact h4 i x hij hl
      ·obtain rfl:i=j:=by omega
       rw[hx]at hl;injection hl with hl;subst hl;exact h2
    · exact .inr ⟨i,x,by omega,h4,h5⟩
  · refine .inr ⟨j,_,by omega,hx,?_⟩;unfold HW;rw[h1,h2]
theorem L5(σ0:SS)(l:List (Oper×EV)): ∀(j:Nat) {p:Nat×SO},j<=l.length->p∈(stA σ0 l j).o->(p∈σ0.o/\ ∀i x,i<j->l[i]? =some x->kq x≠some p.1)\/(∃i x,i<j/\l[i]? =some x/\x.2.up=some p/\ ∀i' x',i<i'->i'<j->l[i']? =some x'->kq x'≠some p.1)\/ ∃i x,i<j/\l[i]? =some x/\Ke x=some p/\ ∀i' x',i<i'->i'<j->l[i']? =some x'->kq x'≠some p.1
 | 0,p,_,h=> .inl ⟨h,fun i x hi=>by omega⟩
 | j+1,p,hj,h=>by
  have hx:l[j]? =some (l[j]'(by omega)):=Tk _;rw[zw σ0 l hx]at h;have hat: ∀{i x},i<j+1->l[i]? =some x->i<j\/(i=j/\x=l[j]'(by omega)):=fun{i x} hi hl=>by
    by_cases hij:i<j
    · exact .inl hij
    · obtain rfl:i=j:=by omega
      rw[hx]at hl;injection hl with hl;exact .inr ⟨rfl,hl.symm⟩
  rcases Rs h with⟨h1,h2⟩ | h1 | ⟨y,h1,h2⟩
  · have hk:kq (l[j]'(by omega))≠some p.1:=fun e=>by
      unfold kq at e;rw[Tn]at e;obtain⟨q,h3,h4⟩:=e;exact h2 q.2 (by rw[h3,<-h4])
    rcases L5 σ0 l j (by omega) h1 with⟨h3,h4⟩ | ⟨i,x,h3,h4,h5,h6⟩ | ⟨i,x,h3,h4,h5,h6⟩
    · refine .inl ⟨h3,fun i x hi hl=> ?_⟩;rcases hat hi hl with h | ⟨rfl,rfl⟩
      ·exact h4 i x h hl
      ·exact hk
    · refine .inr (.inl ⟨i,x,by omega,h4,h5,fun i' x' h7 h8 h9=> ?_⟩);rcases hat h8 h9 with h | ⟨rfl,rfl⟩
      ·exact h6 i' x' h7 h h9
      ·exact hk
    · refine .inr (.inr ⟨i,x,by omega,h4,h5,fun i' x' h7 h8 h9=> ?_⟩);rcases hat h8 h9 with h | ⟨rfl,rfl⟩
      ·exact h6 i' x' h7 h h9
      ·exact hk
  · exact .inr (.inl ⟨j,_,by omega,hx,h1,fun i' x' h7 h8=>by omega⟩)
  · refine .inr (.inr ⟨j,_,by omega,hx,?_,fun i' x' h7 h8=>by omega⟩);unfold Ke;rw[h1,h2]
def stL(σ0:SS)(l:List (Oper×EV))(L:Nat->Bool):SS:=
 ⟨σ0.n,(σ0.t.filter fun p=>l.zipIdx.all fun x=> !L x.2 || x.1.1.dst !=some p.1)++l.zipIdx.filterMap (fun x=>if L x.2 then HW x.1 else none),
  (σ0.o.filter fun p=>l.zipIdx.all fun x=> !L x.2 || kq x.1 !=some p.1)++(l.zipIdx.filterMap (fun x=>if L x.2&&l.zipIdx.all (fun y=> !(L y.2&&decide (x.2<y.2)) || kq y.1 !=kq x.1)then x.1.2.up else none)++l.zipIdx.filterMap (fun x=>if L x.2&&l.zipIdx.all (fun y=> !L y.2 || kq y.1 !=(Ke x.1).map (·.1))then Ke x.1 else none))⟩
theorem dG{α:Type}{l:List α}{x:α}{i:Nat}:(x,i)∈l.zipIdx↔l[i]? =some x:=by
 rw[List.mem_zipIdx_iff_getElem?]
theorem Ed{σ0:SS}{l:List (Oper×EV)}{L:Nat->Bool}{p:Nat×SV}:p∈(stL σ0 l L).t↔(p∈σ0.t/\ ∀i x,l[i]? =some x->L i=true->x.1.dst≠some p.1)\/ ∃i x,l[i]? =some x/\L i=true/\HW x=some p:=by
 unfold stL;simp only[TN,Tu,VK,Tt];constructor
 ·rintro(⟨h1,h2⟩ | ⟨⟨x,i⟩,h1,h2⟩)
  · refine .inl ⟨h1,fun i x hi hL=> ?_⟩;have:=h2 (x,i) (dG.2 hi);simpa [hL]using this
  · split at h2
    · exact .inr ⟨i,x,dG.1 h1,by assumption,h2⟩
    · cases h2
 ·rintro(⟨h1,h2⟩ | ⟨i,x,h1,h2,h3⟩)
  · refine .inl ⟨h1,fun⟨x,i⟩ hx=> ?_⟩;cases hL:L i
    · simp
    · simpa [hL]using h2 i x (dG.1 hx) hL
  · exact .inr ⟨(x,i),dG.2 h1,by simp[h2,h3]⟩
theorem zx{σ0:SS}{l:List (Oper×EV)}{L:Nat->Bool}{p:Nat×SO}:p∈(stL σ0 l L).o↔(p∈σ0.o/\ ∀i x,l[i]? =some x->L i=true->kq x≠some p.1)\/(∃i x,l[i]? =some x/\L i=true/\x.2.up=some p/\ ∀i' x',l[i']? =some x'->L i'=true->i<i'->kq x'≠some p.1)\/ ∃i x,l[i]? =some x/\L i=true/\Ke x=some p/\ ∀i' x',l[i']? =some x'->L i'=true->kq x'≠some p.1:=by
 have hk: ∀{x:Oper×EV},x.2.up=some p->kq x=some p.1:=fun h=>by unfold kq;rw[h];rfl
 unfold stL;simp only[TN,Tu,VK,Tt];constructor
 ·rintro(⟨h1,h2⟩ | ⟨⟨x,i⟩,h1,h2⟩ | ⟨⟨x,i⟩,h1,h2⟩)
  · refine .inl ⟨h1,fun i x hi hL=> ?_⟩;have:=h2 (x,i) (dG.2 hi);simpa [hL]using this
  · split at h2
    · rename_i h3;simp only[Tp,Tt]at h3;refine .inr (.inl ⟨i,x,dG.1 h1,h3.1,h2,fun i' x' h4 h5 h6=> ?_⟩);have h7:=h3.2 (x',i') (dG.2 h4);simp only at h2 h7;rw[h5,decide_eq_true h6,hk h2]at h7;simpa using h7
    · cases h2
  · split at h2
    · rename_i h3;simp only[Tp,Tt]at h3;refine .inr (.inr ⟨i,x,dG.1 h1,h3.1,h2,fun i' x' h4 h5=> ?_⟩);have h7:=h3.2 (x',i') (dG.2 h4);simp only at h2 h7;rw[h5,h2]at h7;simpa using h7
    · cases h2
 ·rintro(⟨h1,h2⟩ | ⟨i,x,h1,h2,h3,h4⟩ | ⟨i,x,h1,h2,h3,h4⟩)
  · refine .inl ⟨h1,fun⟨x,i⟩ hx=> ?_⟩;cases hL:L i
    · simp
    · simpa [hL]using h2 i x (dG.1 hx) hL
  · refine .inr (.inl ⟨(x,i),dG.2 h1,?_⟩);rw[if_pos]
    · exact h3
    · simp only[Tp,Tt];refine⟨h2,fun⟨x',i'⟩ hx=> ?_⟩;simp only;cases hL:L i'
      ·rfl
      ·by_cases hlt:i<i'
       ·rw[decide_eq_true hlt,hk h3];simpa using h4 i' x' (dG.1 hx) hL hlt
       ·rw[decide_eq_false hlt];rfl
  · refine .inr (.inr ⟨(x,i),dG.2 h1,?_⟩);rw[if_pos]
    · exact h3
    · simp only[Tp,Tt];refine⟨h2,fun⟨x',i'⟩ hx=> ?_⟩;simp only;cases hL:L i'
      ·rfl
      ·rw[h3];simpa using h4 i' x' (dG.1 hx) hL
structure Ord (ops:Array Oper) (σ0:SS) (D:List Nat) (l:List (Oper×EV)):Prop where
 back: ∀(j:Nat) x,l[j]? =some x-> ∀e∈x.1.after,Region.binds .any e=true->e.on<j
 dst: ∀(j i:Nat) x y,l[j]? =some x->l[i]? =some y->i≠j-> ∀d,x.1.dst=some d->y.1.dst≠some d
 look: ∀(j i:Nat) x y,l[j]? =some x->l[i]? =some y->i≠j-> ∀d,y.1.dst=some d->d∈x.1.looksAt ops->if i<j then waits x.1 i=true else waits y.1 j=true
 new: ∀(j i:Nat) x y,l[j]? =some x->l[i]? =some y->i≠j-> ∀d,x.1.dst=some d->uD x.2.r=true->d∈Cz y.2.r->kT l 6 y.1 j=true
 new0: ∀(j:Nat) x,l[j]? =some x-> ∀d,x.1.dst=some d->uD x.2.r=true->d∉σ0.names/\d∉D
 nw: ∀(j i:Nat) x y,l[j]? =some x->l[i]? =some y->i≠j-> ∀d,y.1.dst=some d->uD y.2.r=true->d∈x.2.nw->kT l 6 x.1 i=true
 up: ∀(j:Nat) x,l[j]? =some x-> ∀q,x.2.up=some q->q.2.names=[]/\(x.2.ch=true/\q.1∈D\/R8 σ0 D l x j q.1)
 newD: ∀(j:Nat) x,l[j]? =some x-> ∀k∈lh x.2.r,k∉D
 d0: ∀p∈σ0.o,∀k∈p.2.names,k∉D
 chain: ∀(j i:Nat) x y,l[j]? =some x->l[i]? =some y->i<j->x.2.ch=true->y.2.ch=true->(x.2.up.isSome=true\/y.2.up.isSome=true)->kT l 6 x.1 i=true\/ ∃k z,i<k/\k<j/\l[k]? =some z/\z.2.ch=true/\z.2.up.isSome=true
theorem OP{σ0:SS}{D:List Nat}{l:List (Oper×EV)}(h:OO ops σ0 D l=true):Ord ops σ0 D l:=by
 unfold OO at h;rw[Tp]at h;obtain⟨hd0,h⟩:=h;rw[Tt]at h hd0;have hb: ∀(j:Nat) x,l[j]? =some x->(x.1.after.all fun e=> !Region.binds .any e || decide (e.on<j))=true/\((match x.1.dst with | some d=> !uD x.2.r || (!σ0.names.contains d&& !D.contains d) | none=>true)=true/\
   (match x.2.up with | some q=>q.2.names.isEmpty&&(x.2.ch&&D.contains q.1 || (!D.contains q.1&& !σ0.names.contains q.1&& !(lh x.2.r).contains q.1&& !(x.1.dst==some q.1)&&Rl l x.1 j q.1)) | none=>true)=true/\((lh x.2.r).all fun k=> !D.contains k)=true)/\ ∀(i:Nat) y,l[i]? =some y->i=j\/
    ((match x.1.dst,y.1.dst with | some d,some d'=>d !=d' | _,_=>true)=true/\
     (match y.1.dst with | some d'=> !(x.1.looksAt ops).contains d' || (if i<j then waits x.1 i else waits y.1 j) | none=>true)=true/\
     (match x.1.dst with | some d=> !uD x.2.r || (!(Cz y.2.r).contains d || kT l 6 y.1 j) | none=>true)=true/\
     (match y.1.dst with | some d=> !uD y.2.r || (!x.2.nw.contains d || kT l 6 x.1 i) | none=>true)=true/\
     (!(decide (i<j)&&x.2.ch&&y.2.ch&&(x.2.up.isSome || y.2.up.isSome)) || (kT l 6 x.1 i || l.zipIdx.any fun k=>decide (i<k.2)&&decide (k.2<j)&&k.1.2.ch&&k.1.2.up.isSome))=true):=by
  intro j x hj;have h1:=h (x,j) (dG.2 hj);rw[Tp,Tp]at h1;obtain⟨⟨h2,h3⟩,h4⟩:=h1;rw[Tp,Tp]at h3;refine⟨h2,⟨h3.1.1,h3.1.2,h3.2⟩,fun i y hi=> ?_⟩;have h5:=Tt.1 h4 (y,i) (dG.2 hi);rw[TT]at h5;rcases h5 with h5 | h5
  · exact .inl (by simpa using h5)
  · rw[Tp,Tp,Tp,Tp]at h5;exact .inr ⟨h5.1.1,h5.1.2,h5.2.1.1,h5.2.1.2,h5.2.2⟩
 have hp:=fun(j i:Nat) x y (hj:l[j]? =some x) (hi:l[i]? =some y) (hne:i≠j)=>((hb j x hj).2.2 i y hi).resolve_left hne;refine⟨fun j x hj e he hbd=> ?_,fun j i x y hj hi hne d hx hy=> ?_,fun j i x y hj hi hne d hy hl=> ?_,fun j i x y hj hi hne d hx hnew hm=> ?_,fun j x hj d hx hnew=> ?_,fun j i x y hj hi hne d hy hnew hm=> ?_,fun j x hj q hq=> ?_,fun j x hj k hk=> ?_,fun p hp k hk=> ?_,fun j i x y hj hi hlt hcx hcy hup=> ?_⟩
 ·have h1:=(hb j x hj).1;rw[Array.all_eq_true']at h1;have h3:=h1 e he;rw[hbd]at h3;exact of_decide_eq_true h3
 ·have h1:=(hp j i x y hj hi hne).1;rw[hx,hy]at h1;simp at h1
 ·have h1:=(hp j i x y hj hi hne).2.1;rw[hy]at h1;simp only[TT,Un,U8,decide_eq_false_iff_not]at h1;rcases h1 with h1 | h1
  · exact absurd hl h1
  · split at h1<;>rename_i hij
    · rw[if_pos hij];exact h1
    · rw[if_neg hij];exact h1
 ·have h1:=(hp j i x y hj hi hne).2.2.1;rw[hx,hnew]at h1;simp only[TO,VW,TT,Un,U8,decide_eq_false_iff_not]at h1;rcases h1 with h1 | h1
  · exact absurd hm h1
  · exact h1
 ·have h1:=(hb j x hj).2.1.1;rw[hx,hnew]at h1;simp only[TO,VW,Tp,Un,U8,decide_eq_false_iff_not]at h1;exact h1
 ·have h1:=(hp j i x y hj hi hne).2.2.2.1;rw[hy,hnew]at h1;simp only[TO,VW,TT,Un,U8,decide_eq_false_iff_not]at h1;rcases h1 with h1 | h1
  · exact absurd hm h1
  · exact h1
 ·have h1:=(hb j x hj).2.1.2.1;rw[hq]at h1;simp only[Tp,TT,Un,U8,decide_eq_true_eq,decide_eq_false_iff_not,List.isEmpty_iff,beq_eq_false_iff_ne,ne_eq]at h1;refine⟨h1.1,?_⟩;rcases h1.2 with h2 | h2
  · exact .inl h2
  · obtain⟨⟨⟨⟨h3,h4⟩,h5⟩,h6⟩,h7⟩:=h2;refine .inr ⟨h3,h4,h5,h6,fun i y hi hne=> ?_⟩;have h8:=Tt.1 h7 (y,i) (dG.2 hi);simp only[TT,beq_iff_eq,hne,false_or,Tp,bne_iff_ne,ne_eq,Un,U8,decide_eq_false_iff_not,beq_eq_false_iff_ne,decide_eq_true_eq]at h8;exact⟨h8.1.1.1,h8.1.1.2,h8.1.2,fun hd=>h8.2.resolve_left fun h=>h hd⟩
 ·have h1:=Tt.1 (hb j x hj).2.1.2.2 k hk;simpa using h1
 ·have h1:=Tt.1 (hd0 p hp) k hk;simpa using h1
 ·have h1:=(hp j i x y hj hi (by omega)).2.2.2.2;have hup':(x.2.up.isSome || y.2.up.isSome)=true:=by rw[TT];exact hup
  rw[decide_eq_true hlt,hcx,hcy,hup']at h1;simp only[Bool.and_self,TO,VW,TT]at h1;rcases h1 with h1 | h1
  · exact .inl h1
  · rw[List.any_eq_true]at h1;obtain⟨⟨z,k⟩,h2,h3⟩:=h1;simp only[Tp,decide_eq_true_eq]at h3;exact .inr ⟨k,z,h3.1.1.1,h3.1.1.2,dG.1 h2,h3.1.2,h3.2⟩
theorem rK{o:Oper}{i:Nat}(h:waits o i=true): ∃e∈o.after,Region.binds .any e=true/\e.on=i:=by
 unfold waits at h;rw[Array.any_eq_true']at h;obtain⟨e,h1,h2⟩:=h;simp only[Tp,beq_iff_eq]at h2;exact⟨e,h1,h2.1,h2.2⟩
end
section
variable {P : Program} {ops : Array Oper}
def lsd(listed:Array Bool)(j:Nat):Bool:=listed.getD j false
theorem unl{listed:Array Bool}{j:Nat}(hj:j<listed.size):listed.getD j true=listed.getD j false:=by simp[UR,hj]
theorem ju{listed:Array Bool}{i:Nat}(h:i<listed.size):(listed.setIfInBounds i true).getD i false=true:=by simp[UR,h]
theorem rc{x:Oper×EV}{p:Nat×SO}(h:Ke x=some p):x.1.dst=some p.1/\uD x.2.r=true/\lh x.2.r=p.2.names/\ ∃v,x.2.r=some (v,some p.2):=by
 unfold Ke at h;split at h
 ·rename_i d v z hd hz;injection h with h;subst h;exact⟨hd,by rw[hz];rfl,by rw[hz];rfl,v,hz⟩
 ·cases h
theorem Eo{x:Oper×EV}{p:Nat×SO}(h:x.2.up=some p):kq x=some p.1:=by unfold kq;rw[h];rfl
theorem KF{x:Oper×EV}{k:Nat}(h:kq x=some k): ∃y,x.2.up=some (k,y):=by
 unfold kq at h;rw[Tn]at h;obtain⟨q,h1,h2⟩:=h;exact⟨q.2,by rw[h1,<-h2]⟩
theorem Cr{l:List (Oper×EV)}{listed:Array Bool}(hcl: ∀(j:Nat) x,l[j]? =some x->listed.getD j false=true-> ∀e∈x.1.after,Region.binds .any e=true->listed.getD e.on false=true){i:Nat}:
  ∀(n:Nat) (o:Oper),kT l n o i=true->(∀e∈o.after,Region.binds .any e=true->listed.getD e.on false=true)->listed.getD i false=true
 | 0,_,h,_=>by cases h
 | n+1,o,h,ha=>by
  unfold kT at h;rw[TT]at h;rcases h with h | h
  · obtain⟨e,h1,h2,h3⟩:=rK h;rw[<-h3];exact ha e h1 h2
  · rw[Array.any_eq_true']at h;obtain⟨e,h1,h2⟩:=h;rw[Tp]at h2;obtain⟨h2,h3⟩:=h2;split at h3
    · rename_i x' hx';exact Cr hcl n x'.1 h3 (hcl e.on x' hx' (ha e h1 h2))
    · cases h3
theorem Cq{σ0:SS}{D:List Nat}{l:List (Oper×EV)}(hord:Ord ops σ0 D l){listed:Array Bool}(hcl: ∀(j:Nat) x,l[j]? =some x->listed.getD j false=true-> ∀e∈x.1.after,Region.binds .any e=true->listed.getD e.on false=true):
  ∀(n i m:Nat) x y,m<=i+n->i<m->l[m]? =some x->l[i]? =some y->x.2.ch=true->y.2.ch=true->(x.2.up.isSome=true\/y.2.up.isSome=true)->(∀e∈x.1.after,Region.binds .any e=true->listed.getD e.on false=true)->listed.getD i false=true
 | 0,i,m,x,y,h,hi,_,_,_,_,_,_=>by omega
 | n+1,i,m,x,y,h,hi,hx,hy,hcx,hcy,hup,ha=>by
  rcases hord.chain m i x y hx hy hi hcx hcy hup with h1 | ⟨k,z,h1,h2,h3,h4,h5⟩
  · exact Cr hcl 6 x.1 h1 ha
  · have hk:=Cq hord hcl n k m x z (by omega) h2 hx h3 hcx h4 (.inr h5) ha;exact Cq hord hcl n i k z y (by omega) h1 h3 hy h4 hcy (.inl h5) (hcl k z h3 hk)
theorem upD{σ0:SS}{D:List Nat}{l:List (Oper×EV)}{x:Oper×EV}{j:Nat}{q:Nat×SO}(h:q.2.names=[]/\(x.2.ch=true/\q.1∈D\/R8 σ0 D l x j q.1))(hD:q.1∈D):x.2.ch=true:=h.2.elim (·.1) fun h=>absurd hD h.1
theorem Hz{σ0:SS}{D:List Nat}{l:List (Oper×EV)}(hlen:l.length<=ops.size)(hord:Ord ops σ0 D l)
  (hst: ∀(j:Nat) o e,l[j]? =some (o,e)->pk P ops o (nuW ops (keys σ0) D e.ch e.nw o (stA σ0 l j)) e) {c:Cx}: ∀(listed:Array Bool) (a:Act) (w:World) (j:Nat) x,listed.size=ops.size->l[j]? =some x->listed.getD j false=false->(∀e∈x.1.after,Region.binds .any e=true->listed.getD e.on false=true)->
    (∀(j:Nat) x,l[j]? =some x->listed.getD j false=true-> ∀e∈x.1.after,Region.binds .any e=true->listed.getD e.on false=true)->
    eY c (stL σ0 l (lsd listed)) a w->iQ P ops x.1 a w fun a' w'=>eY c (stL σ0 l (lsd (listed.setIfInBounds j true))) a' w':=by
 intro listed a w j x hsz hx hun hrd hcl hr;have hj:j<l.length:=(Tl.1 hx).1;have hwT: ∀(n:Nat) (i:Nat) y,l[i]? =some y->kT l n y.1 j=true->listed.getD i false=false:=by
  intro n i y hi hw;cases hb:listed.getD i false with
  | false=>rfl
  | true=>
    have:=Cr hcl n y.1 hw (hcl i y hi hb);rw[hun]at this;cases this
 have hwl: ∀(i:Nat) y,l[i]? =some y->waits y.1 j=true->listed.getD i false=false:=fun i y hi hw=>hwT 1 i y hi (by unfold kT;rw[hw];rfl);have hc1: ∀(i:Nat) y,i<j->l[i]? =some y->x.2.ch=true->y.2.ch=true->y.2.up.isSome=true->listed.getD i false=true:=fun i y hi hy hcx hcy hup=>Cq hord hcl j i j x y (by omega) hi hx hy hcx hcy (.inr hup) hrd;have hc2: ∀(i:Nat) y,j<i->l[i]? =some y->x.2.ch=true->y.2.ch=true->y.2.up.isSome=true->listed.getD i false=false:=fun i y hi hy hcx hcy hup=>by
  cases hb:listed.getD i false with
  | false=>rfl
  | true=>
    have:=Cq hord hcl i j i y x (by omega) hi hy hx hcy hcx (.inl hup) (hcl i y hy hb);rw[hun]at this;cases this
 have hset: ∀i,lsd (listed.setIfInBounds j true) i=true->lsd listed i=true\/i=j:=by
  intro i hi;by_cases hij:j=i
  · exact .inr hij.symm
  · unfold lsd at*;rw[getD_set_ne false hij]at hi;exact .inl hi
 have hset2: ∀i,lsd listed i=true->lsd (listed.setIfInBounds j true) i=true:=by
  intro i hi;unfold lsd at*;exact getD_set_true hi
 have hset3:lsd (listed.setIfInBounds j true) j=true:=by
  unfold lsd;exact ju (by omega)
 have hnj: ∀i,lsd listed i=true->i≠j:=fun i hi e=>by
  subst e;unfold lsd at hi;rw[hun]at hi;cases hi
 have hsub:Sub (nuW ops (keys σ0) D x.2.ch x.2.nw x.1 (stA σ0 l j)) (stL σ0 l (lsd listed)):=by
  refine⟨L4 σ0 l j,fun p hp=> ?_,fun p hp=> ?_⟩
  · obtain⟨hp,hlk⟩:=Tu.1 hp;have hlk:p.1∈x.1.looksAt ops:=by simpa using hlk
    rw[Ed];rcases Pg σ0 l j (by omega) hp with⟨h1,h2⟩ | ⟨i,y,h1,h2,h3⟩
    · refine .inl ⟨h1,fun i y hi hL hd=> ?_⟩;have hij:=hnj i hL;have hw:=hord.look j i x y hx hi hij p.1 hd hlk;by_cases hlt:i<j
      ·exact h2 i y hlt hi hd
      ·rw[if_neg hlt]at hw;have:=hwl i y hi hw;unfold lsd at hL;rw[this]at hL;cases hL
    · have hd:y.1.dst=some p.1:=by
       unfold HW at h3;split at h3
       ·injection h3 with h3;subst h3;assumption
       ·cases h3
      have hw:=hord.look j i x y hx h2 (by omega) p.1 hd hlk;rw[if_pos h1]at hw;obtain⟨e,h4,h5,h6⟩:=rK hw;refine .inr ⟨i,y,h2,?_,h3⟩;unfold lsd;rw[<-h6];exact hrd e h4 h5
  · obtain⟨hp,hc⟩:=Tu.1 hp;rw[zx];by_cases hD:p.1∈D
    · have hcx:x.2.ch=true:=by
       rw[show D.contains p.1=true by simpa using hD]at hc;exact hc
      have hlater: ∀i y,l[i]? =some y->lsd listed i=true->j<i->kq y≠some p.1:=fun i y hi hL hlt hk=>by
       obtain⟨z,hz⟩:=KF hk;have:=hc2 i y hlt hi hcx (upD (hord.up i y hi _ hz) hD) (by rw[hz];rfl);unfold lsd at hL;rw[this]at hL;cases hL
      rcases L5 σ0 l j (by omega) hp with⟨h1,h2⟩ | ⟨i,y,h1,h2,h3,h4⟩ | ⟨i,y,h1,h2,h3,_⟩
      ·refine .inl ⟨h1,fun i y hi hL=> ?_⟩;rcases Vf i j with h | h | h
       ·exact h2 i y h hi
       ·exact absurd h (hnj i hL)
       ·exact hlater i y hi hL h
      ·refine .inr (.inl ⟨i,y,h2,hc1 i y h1 h2 hcx (upD (hord.up i y h2 _ h3) hD) (by rw[h3];rfl),h3,fun i' y' h5 h6 h7=> ?_⟩);rcases Vf i' j with h | h | h
       ·exact h4 i' y' h7 h h5
       ·exact absurd h (hnj i' h6)
       ·exact hlater i' y' h5 h6 h
      ·obtain⟨h4,h5,_⟩:=rc h3;exact absurd hD (hord.new0 i y h2 p.1 h4 h5).2
    · rw[show D.contains p.1=false by simpa using hD,cond_false,TT]at hc;have hin:p.1∈keys σ0->p.1∈σ0.names:=fun hc=>by
       obtain⟨q,hq,e⟩:=TF.1 hc;exact TJ _ (TK.2 ⟨q,hq,by rw[<-e];exact TP⟩)
      have hno: ∀i y,l[i]? =some y->i≠j->kq y≠some p.1:=fun i y hi hne hk=>by
       obtain⟨z,hz⟩:=KF hk;rcases(hord.up i y hi _ hz).2 with h | h
       ·exact hD h.2
       ·rcases hc with hc | hc
        ·exact h.2.1 (hin (by simpa using hc))
        ·exact(h.2.2.2.2 j x hx (Ne.symm hne)).2.1 (by simpa using hc)
      rcases L5 σ0 l j (by omega) hp with⟨h1,h2⟩ | ⟨i,y,h1,h2,h3,h4⟩ | ⟨i,y,h1,h2,h3,_⟩
      ·exact .inl ⟨h1,fun i y hi hL=>hno i y hi (hnj i hL)⟩
      ·exact absurd (Eo h3) (hno i y h2 (by omega))
      ·obtain⟨h4,h5,_⟩:=rc h3;rcases hc with hc | hc
       ·exfalso;refine(hord.new0 i y h2 p.1 h4 h5).1 ?_;have hc:p.1∈keys σ0:=by simpa using hc
        obtain⟨q,hq,e⟩:=TF.1 hc;exact TJ _ (TK.2 ⟨q,hq,by rw[<-e];exact TP⟩)
       ·refine .inr (.inr ⟨i,y,h2,?_,h3,fun i y hi hL=>hno i y hi (hnj i hL)⟩);exact Cr hcl 6 x.1 (hord.nw j i x y hx h2 (by omega) p.1 h4 h5 (by simpa using hc)) hrd
 have hnames: ∀d,x.1.dst=some d->uD x.2.r=true->d∉(stL σ0 l (lsd listed)).names:=by
  intro d hd hnew hm;have hn0:=hord.new0 j x hx d hd hnew;unfold SS.names at hm;have h0: ∀q,q∈σ0.names->q≠d:=fun q hq e=>hn0.1 (e▸hq);have hk: ∀(i:Nat) y,l[i]? =some y->lsd listed i=true->d∈Cz y.2.r->False:=by
    intro i y hi hL hmem;have:=hwT 6 i y hi (hord.new j i x y hx hi (hnj i hL) d hd hnew hmem);unfold lsd at hL;rw[this]at hL;cases hL
  rcases TN.1 hm with hm | hm
  · obtain⟨p,hp,hm⟩:=TK.1 hm;rcases Ed.1 hp with⟨h1,_⟩ | ⟨i,y,h1,h2,h3⟩
    · exact h0 d (T7 _ (TK.2 ⟨p,h1,hm⟩)) rfl
    · refine hk i y h1 h2 ?_;unfold HW at h3;split at h3
      ·rename_i v' z _ hz;injection h3 with h3;subst h3;rw[hz];cases z with
       | none=>exact hm
       | some z=>exact T7 _ hm
      ·cases h3
  · obtain⟨p,hp,hm⟩:=TK.1 hm;rcases zx.1 hp with⟨h1,_⟩ | ⟨i,y,h1,h2,h3,_⟩ | ⟨i,y,h1,h2,h3,_⟩
    · exact h0 d (TJ _ (TK.2 ⟨p,h1,hm⟩)) rfl
    · obtain⟨h6,h5⟩:=hord.up i y h1 _ h3;rw[h6]at hm;rcases Tx.1 hm with hm | hm
      ·rcases h5 with h5 | h5
       ·exact hn0.2 (hm▸h5.2)
       ·have h7:=((h5.2.2.2.2 j x hx (Ne.symm (hnj i h2))).2.2.2 (by rw[hd,hm])).2;have:=hwT 6 i y h1 h7;unfold lsd at h2;rw[this]at h2;cases h2
      ·cases hm
    · obtain⟨h4,h5,_,v,h6⟩:=rc h3;rcases Tx.1 hm with hm | hm
      ·exact hord.dst j i x y hx h1 (hnj i h2) d hd (by rw[h4,hm])
      ·refine hk i y h1 h2 ?_;rw[h6];exact TJ _ hm
 have hfresh:pj x.2.r x.1.dst (stL σ0 l (lsd listed)):=by
  unfold pj;split
  · rename_i v so hxr;intro d hd;exact hnames d hd (by rw[hxr];rfl)
  · trivial
 have hsep: ∀p,x.2.up=some p-> ∀q∈(stL σ0 l (lsd listed)).o,p.1∉q.2.names:=by
  intro p hp q hq hm;have hu:=(hord.up j x hx p hp).2;rcases zx.1 hq with⟨h1,_⟩ | ⟨i,y,h1,h2,h3,_⟩ | ⟨i,y,h1,h2,h3,_⟩
  · rcases hu with hu | hu
    · exact hord.d0 q h1 _ hm hu.2
    · exact hu.2.1 (TJ _ (TK.2 ⟨q,h1,T1 _ hm⟩))
  · rw[(hord.up i y h1 _ h3).1]at hm;cases hm
  · have hm':p.1∈lh y.2.r:=by rw[(rc h3).2.2.1];exact hm
    rcases hu with hu | hu
    · exact hord.newD i y h1 p.1 hm' hu.2
    · exact(hu.2.2.2.2 i y h1 (hnj i h2)).2.2.1 hm'
 have hdo:=hst j x.1 x.2 hx _ c a w hsub hsep hfresh hr;unfold iQ at hdo⊢;have hle:Le ((stL σ0 l (lsd listed)).qY x.1.dst x.2) (stL σ0 l (lsd (listed.setIfInBounds j true))):=by
  refine Le.sub ?_ (fun p hp=> ?_) (fun p hp=> ?_)
  · rw[NL];rfl
  · have hup: ∀{q},q∈(stL σ0 l (lsd listed)).t->q∈((stL σ0 l (lsd listed)).kt x.2.up).t:=fun{q} h=>by rw[PB];exact h
    rcases Ed.1 hp with⟨h1,h2⟩ | ⟨i,y,h1,h2,h3⟩
    · exact Pp (hup (Ed.2 (.inl ⟨h1,fun i y hi hL=>h2 i y hi (hset2 i hL)⟩))) (h2 j x hx hset3)
    · rcases hset i h2 with hL | rfl
      ·have hd:y.1.dst=some p.1:=by
        unfold HW at h3;split at h3
        ·injection h3 with h3;subst h3;assumption
        ·cases h3
       exact Pp (hup (Ed.2 (.inr ⟨i,y,h1,hL,h3⟩))) (fun e=>hord.dst j i x y hx h1 (hnj i hL) p.1 e hd)
      ·rw[hx]at h1;injection h1 with h1;subst h1;unfold HW at h3;split at h3
       ·rename_i d v z hd hz;injection h3 with h3;subst h3;unfold SS.qY;rw[hd,hz];exact F7
       ·cases h3
  · have hkeep:p∈(stL σ0 l (lsd listed)).o->(∀y,x.2.up≠some (p.1,y))->p∈((stL σ0 l (lsd listed)).qY x.1.dst x.2).o:=fun h1 h2=>OF (F8.2 (.inr ⟨h1,h2⟩));rcases zx.1 hp with⟨h1,h2⟩ | ⟨i,y,h1,h2,h3,h4⟩ | ⟨i,y,h1,h2,h3,h4⟩
    · exact hkeep (zx.2 (.inl ⟨h1,fun i y hi hL=>h2 i y hi (hset2 i hL)⟩)) fun y e=>h2 j x hx hset3 (Eo (p:=(p.1,y)) e)
    · rcases hset i h2 with hL | rfl
      ·refine hkeep (zx.2 (.inr (.inl ⟨i,y,h1,hL,h3,fun i' y' h5 h6 h7=>h4 i' y' h5 (hset2 i' h6) h7⟩))) fun z e=> ?_;rcases Vf i j with h | h | h
       ·exact h4 j x hx hset3 h (Eo (p:=(p.1,z)) e)
       ·exact hnj i hL h
       ·rcases(hord.up j x hx _ e).2 with h5 | h5
        ·have:=hc2 i y h h1 h5.1 (upD (hord.up i y h1 _ h3) h5.2) (by rw[h3];rfl);unfold lsd at hL;rw[this]at hL;cases hL
        ·exact(h5.2.2.2.2 i y h1 (by omega)).1 (show kq y=some p.1 from Eo h3)
      ·rw[hx]at h1;injection h1 with h1;subst h1;exact OF (F8.2 (.inl h3))
    · rcases hset i h2 with hL | rfl
      ·exact hkeep (zx.2 (.inr (.inr ⟨i,y,h1,hL,h3,fun i' y' h5 h6=>h4 i' y' h5 (hset2 i' h6)⟩))) fun z e=>h4 j x hx hset3 (Eo (p:=(p.1,z)) e)
      ·rw[hx]at h1;injection h1 with h1;subst h1;obtain⟨h4,_,_,v,h5⟩:=rc h3;unfold SS.qY;rw[h4,h5];exact FU
 split
 ·rename_i hw;rw[if_pos hw]at hdo;exact Oper.wp_mono (fun a' w' h=>hle c a' w' h) hdo
 ·rename_i hw;rw[if_neg hw]at hdo;exact hle c _ _ hdo
theorem L6{σ0:SS}{D:List Nat}{l:List (Oper×EV)}{L:Nat->Bool}(hord:Ord ops σ0 D l)(ha: ∀j,j<l.length->L j=true):Le (stL σ0 l L) (stA σ0 l l.length):=by
 have hlt: ∀{i x},l[i]? =some x->i<l.length:=fun h=>(Tl.1 h).1;refine Le.sub (L4 σ0 l _) (fun p hp=> ?_) (fun p hp=> ?_)
 ·rw[Ed];rcases Pg σ0 l _ (TA _) hp with⟨h1,h2⟩ | ⟨i,x,h1,h2,h3⟩
  · exact .inl ⟨h1,fun i x hi _=>h2 i x (hlt hi) hi⟩
  · exact .inr ⟨i,x,h2,ha i h1,h3⟩
 ·rw[zx];rcases L5 σ0 l _ (TA _) hp with⟨h1,h2⟩ | ⟨i,x,h1,h2,h3,h4⟩ | ⟨i,x,h1,h2,h3,h4⟩
  · exact .inl ⟨h1,fun i x hi _=>h2 i x (hlt hi) hi⟩
  · exact .inr (.inl ⟨i,x,h2,ha i h1,h3,fun i' x' h5 _ h7=>h4 i' x' h7 (hlt h5) h5⟩)
  · refine .inr (.inr ⟨i,x,h2,ha i h1,h3,fun i' x' h5 _ h7=> ?_⟩);obtain⟨z,hz⟩:=KF h7;obtain⟨h8,h9,_⟩:=rc h3;rcases(hord.up i' x' h5 _ hz).2 with h | h
    · exact(hord.new0 i x h2 p.1 h8 h9).2 h.2
    · by_cases hii:i=i'
      ·subst hii;rw[h2]at h5;injection h5 with h5;subst h5;exact h.2.2.2.1 h8
      ·exact h4 i' x' ((h.2.2.2.2 i x h2 hii).2.2.2 h8).1 (hlt h5) h5 h7
theorem JA{σ0:SS}{l:List (Oper×EV)}{L:Nat->Bool}(ha: ∀j,L j=false):Le σ0 (stL σ0 l L):=by
 refine Le.sub rfl (fun p hp=> ?_) (fun p hp=> ?_)
 ·rcases Ed.1 hp with⟨h1,_⟩ | ⟨i,x,_,hL,_⟩
  · exact h1
  · rw[ha]at hL;cases hL
 ·rcases zx.1 hp with⟨h1,_⟩ | ⟨i,x,_,hL,_⟩ | ⟨i,x,_,hL,_⟩
  · exact h1
  · rw[ha]at hL;cases hL
  · rw[ha]at hL;cases hL
theorem PN{σ0:SS}{D:List Nat}{l:List (Oper×EV)}{Q:Exit->Act->World->Prop}(hl:l.map (·.1)=ops.toList)(hord:Ord ops σ0 D l)
  (hst: ∀(j:Nat) o e,l[j]? =some (o,e)->pk P ops o (nuW ops (keys σ0) D e.ch e.nw o (stA σ0 l j)) e) {c:Cx} (hQ: ∀a w,eY c (stA σ0 l l.length) a w->Q .normal a w):
  ∀(fuel:Nat) (listed:Array Bool) (a:Act) (w:World),listed.size=ops.size->((TU ops.size).filter fun j=> !listed.getD j false).length<=fuel->
    (∀(j:Nat) x,l[j]? =some x->listed.getD j false=true-> ∀e∈x.1.after,Region.binds .any e=true->listed.getD e.on false=true)->
    eY c (stL σ0 l (lsd listed)) a w->wpAny P .any ops Q fuel listed a w:=by
 have hlen:l.length=ops.size:=by rw[<-TM (f:=(·.1)),hl,TB]
 have hops: ∀(j:Nat) x,l[j]? =some x->ops[j]? =some x.1:=fun j x h=>by
  rw[<-Ub,<-hl,Tq,h];rfl
 have hall: ∀(listed:Array Bool),listed.size=ops.size->Region.ready .any ops listed=[]-> ∀j,j<ops.size->listed.getD j false=true:=by
  intro listed hsz hr j
  induction j using Nat.strongRecOn with
  | _ j ih=>
    intro hj;cases hb:listed.getD j false with
    | true=>rfl
    | false=>
      have hx:l[j]? =some (l[j]'(by omega)):=Tk _;have:j∈Region.ready .any ops listed:=mem_ready.2 ⟨by rw[unl (by omega)];exact hb,_,hops j _ hx,fun e he hbd=>ih e.on (hord.back j _ hx e he hbd) (Nat.lt_trans (hord.back j _ hx e he hbd) hj)⟩;rw[hr]at this;cases this
 have hend: ∀(listed:Array Bool) a w,listed.size=ops.size->(∀j,j<ops.size->listed.getD j false=true)->eY c (stL σ0 l (lsd listed)) a w->Q .normal a w:=by
  intro listed a w hsz ha hr;exact hQ a w (L6 hord (fun j hj=>ha j (by omega)) c a w hr)
 have hstep:=Hz (P:=P) (show l.length<=ops.size by omega) hord hst (c:=c);intro fuel
 induction fuel with
 | zero=>
  intro listed a w hsz hm hcl hr;have hz: ∀j,j<ops.size->listed.getD j false=true:=by
    intro j hj;have h0:(TU ops.size).filter (fun j=> !listed.getD j false)=[]:=Uf (by omega);cases hb:listed.getD j false with
    | true=>rfl
    | false=>
      have:j∈(TU ops.size).filter (fun j=> !listed.getD j false):=Tu.2 ⟨T2.2 hj,by rw[hb];rfl⟩;rw[h0]at this;cases this
  refine⟨?_,hend listed a w hsz hz hr⟩;apply UB.2;intro j hj;obtain⟨h1,o,h2,_⟩:=mem_ready.1 hj;have hlt:j<ops.size:=(TR.1 h2).1;rw[unl (by omega),hz j hlt]at h1;cases h1
 | succ fuel ih=>
  intro listed a w hsz hm hcl hr;refine⟨fun h0=>hend listed a w hsz (hall listed hsz h0) hr,fun j hj=> ?_⟩;obtain⟨h1,o,h2,h3⟩:=mem_ready.1 hj;have hlt:j<ops.size:=(TR.1 h2).1;rw[unl (by omega)]at h1;have hx:l[j]? =some (l[j]'(by omega)):=Tk _;generalize l[j]'(by omega)=x at hx;have hxo:x.1=o:=by
    have:=hops j x hx;rw[h2]at this;injection this with this;exact this.symm
  subst hxo;have hdo:=hstep listed a w j x hsz hx h1 h3 hcl hr;have hgo: ∀a' w',eY c (stL σ0 l (lsd (listed.setIfInBounds j true))) a' w'->wpAny P .any ops Q fuel (listed.setIfInBounds j true) a' w':=by
    intro a' w' hr';refine ih _ a' w' (by simp[hsz]) ?_ ?_ hr'
    · have hsub2:((TU ops.size).filter fun i=> !(listed.setIfInBounds j true).getD i false)=((TU ops.size).filter fun i=> !listed.getD i false).filter fun i=> !(listed.setIfInBounds j true).getD i false:=by
       rw[List.filter_filter];refine List.filter_congr fun i _=> ?_;by_cases hij:j=i
       ·subst hij;rw[ju (by omega)];simp
       ·rw[getD_set_ne false hij];simp
      rw[hsub2];have:(((TU ops.size).filter fun i=> !listed.getD i false).filter fun i=> !(listed.setIfInBounds j true).getD i false).length<((TU ops.size).filter fun i=> !listed.getD i false).length:=by
       rw[List.length_filter_lt_length_iff_exists];refine⟨j,Tu.2 ⟨T2.2 hlt,by rw[h1];rfl⟩,?_⟩;rw[ju (by omega)];simp
      omega
    · intro i y hi hL e he hb;by_cases hij:j=i
      ·subst hij;rw[hx]at hi;injection hi with hi;subst hi;exact getD_set_true (h3 e he hb)
      ·rw[getD_set_ne false hij]at hL;exact getD_set_true (hcl i y hi hL e he hb)
  unfold wpOp;simp only[h2];unfold iQ at hdo;split
  · rename_i hw;rw[if_pos hw]at hdo;left;unfold Oper.wp at*;generalize (execOp a.eval x.1).run P w=r at*;cases r with
    | ok n w'=>
      cases n<;>simp only[Oper.upon]at hdo⊢ <;>
       first
        | exact hgo _ _ hdo
        | exact Calls.mono hdo (fun e w'' he=>by
          cases e with
          | returned v=>exact hgo _ _ he
          | panicked ch=>exact he.elim
          | outgrown=>obtain⟨a0,w0,h0⟩:=he;exact h0.elim)
        | exact Rows.mono hdo (fun _ _ he=>hgo _ _ he)
        | exact hdo.elim
    | halt z w'=>cases z<;>simp only[Oper.upon]at hdo⊢ <;>first | exact hdo.elim | exact(hdo:False).elim
  · rename_i hw;rw[if_neg hw]at hdo;exact hgo _ _ hdo
end
def swp(P:Program)(c:Code)(Q:Exit->SS->Prop)(σ:SS):Prop:= ∀cx a w,eY cx σ a w->c.wp P (fun e a' w'=> ∃σ',Q e σ'/\eY cx σ' a' w') a w
def nx(k:SS->Prop)(Q:Exit->SS->Prop):Exit->SS->Prop
 | .normal,σ=>k σ
 | e,σ=>Q e σ
def atB(id:Nat)(Q:Exit->SS->Prop):Exit->SS->Prop
 | .exit i,σ=>if i=id then Q .normal σ else Q (.exit i) σ
 | e,σ=>Q e σ
section
variable {P : Program} {Q Q' : Exit -> SS -> Prop} {σ σ' : SS}
theorem rI{c:Code}(h:swp P c Q σ)(hq: ∀e s,Q e s->Q' e s):swp P c Q' σ:=fun cx a w hr=>wp_mono (h cx a w hr) fun e _ _ ⟨s,h1,h2⟩=>⟨s,hq e s h1,h2⟩
theorem dw{c:Code}(hl:Le σ σ')(h:swp P c Q σ'):swp P c Q σ:=fun cx a w hr=>h cx a w (hl cx a w hr)
theorem lm(h:Q .normal σ):swp P .skip Q σ:=fun _ _ _ hr=>wp_skip ⟨σ,h,hr⟩
theorem ed(h:Q .ret σ):swp P .ret Q σ:=fun _ _ _ hr=>wp_ret ⟨σ,h,hr⟩
theorem oi{id:Nat}(h:Q (.exit id) σ):swp P (.exit id) Q σ:=fun _ _ _ hr=>wp_exit ⟨σ,h,hr⟩
theorem ac{x y:Code}(h:swp P x (nx (swp P y Q) Q) σ):swp P (.seq x y) Q σ:=fun cx a w hr=>wp_seq (wp_mono (h cx a w hr) fun e a' w' ⟨s,h1,h2⟩=>by
 cases e with
 | normal=>exact h1 cx a' w' h2
 | _=>exact⟨s,h1,h2⟩)
theorem Pm{c:Operand}{x y:Code}{b:Bool}(hc:ev σ c=some (.tr (.bool b)))(ht:b=true->swp P x Q σ)(hf:b=false->swp P y Q σ):swp P (.cond c x y) Q σ:=fun cx a w hr=>by
 obtain⟨S,β,hr'⟩:=hr;have h:=bD hr' hc;have hb:a.eval c= .bool b:=by
  generalize a.eval c=v at h;cases h with | tr _ _ h=>cases h;rfl
 exact wp_cond_split hb (fun hb=>ht hb cx a w ⟨S,β,hr'⟩) (fun hb=>hf hb cx a w ⟨S,β,hr'⟩)
theorem Nq{id:Nat}{c:Code}(h:swp P c (atB id Q) σ):swp P (.block id c) Q σ:=fun cx a w hr=>wp_block (wp_mono (h cx a w hr) fun e a' w' ⟨s,h1,h2⟩=>by
 cases e with
 | exit i=>
  unfold atB at h1;unfold Exit.inBlock;by_cases hi:i=id
  · simp only[hi,if_true]at h1⊢;exact⟨s,h1,h2⟩
  · simp only[hi,if_false]at h1⊢;exact⟨s,h1,h2⟩
 | _=>exact⟨s,h1,h2⟩)
def qm{α A:Type}(body:α->Option (α⊕A)):Nat->α->Option A
 | 0,_=>none
 | n+1,s=>match body s with
  | none=>none
  | some (.inl s')=>qm body n s'
  | some (.inr r)=>some r
theorem xx{α A:Type}{body:α->Option (α⊕A)}: ∀{n:Nat} {s:α} {r:A} {m:Nat},qm body n s=some r->n<=m->qm body m s=some r
 | 0,_,_,_,h,_=>by cases h
 | n+1,s,r,0,_,hm=>by omega
 | n+1,s,r,m+1,h,hm=>by
  unfold qm at h⊢;rcases hb:body s with _ | s' | r'
  · rw[hb]at h;cases h
  · rw[hb]at h;exact xx h (by omega)
  · rw[hb]at h;exact h
open Classical in
noncomputable def loop{α A:Type}(body:α->Option (α⊕A))(s:α):Option A:=if h: ∃r n,qm body n s=some r then some (Classical.choose h)else none
theorem GU{α A:Type}{body:α->Option (α⊕A)}{n:Nat}{s:α}{r:A}(h:qm body n s=some r):loop body s=some r:=by
 unfold loop;have hx: ∃r n,qm body n s=some r:=⟨r,n,h⟩;rw[dif_pos hx];obtain⟨m,hm⟩:=Classical.choose_spec hx;have h1:=xx h (Nat.le_max_left n m);have h2:=xx hm (Nat.le_max_right n m);rw[h1]at h2;exact h2.symm
theorem vJ{α A:Type}{body:α->Option (α⊕A)}{s:α}{r:A}(h:loop body s=some r): ∃n,qm body n s=some r:=by
 unfold loop at h;split at h
 ·rename_i hx;obtain⟨n,hn⟩:=Classical.choose_spec hx;injection h with h;exact⟨n,by rw[<-h];exact hn⟩
 ·cases h
theorem bT{α A:Type}(body:α->Option (α⊕A))(s:α):loop body s=match body s with
  | none=>none
  | some (.inl s')=>loop body s'
  | some (.inr r)=>some r:=by
 rcases hb:body s with _ | s' | r
 ·rcases hl:loop body s with _ | r
  · rfl
  · obtain⟨n,hn⟩:=vJ hl;cases n with
    | zero=>cases hn
    | succ n=>unfold qm at hn;rw[hb]at hn;cases hn
 ·simp only[];rcases hl:loop body s' with _ | r
  · rcases hl2:loop body s with _ | r
    · rfl
    · obtain⟨n,hn⟩:=vJ hl2;cases n with
      | zero=>cases hn
      | succ n=>
       unfold qm at hn;rw[hb]at hn;rw[GU hn]at hl;cases hl
  · obtain⟨n,hn⟩:=vJ hl;exact GU (n:=n+1) (by unfold qm;rw[hb];exact hn)
 ·exact GU (n:=1) (by unfold qm;rw[hb])
theorem Pn{α A:Type}{c:Code}(body:α->Option (α⊕A))(st:α->SS)(QA:A->Exit->SS->Prop)
  (hb: ∀s x,body s=some x->swp P c (match x with | .inl s'=>fun e σ'=>e= .normal/\Le σ' (st s') | .inr r=>fun e σ'=>e≠ .normal/\QA r e σ') (st s))
  {s:α} {r:A} (h:loop body s=some r):swp P (.loop c) (QA r) (st s):=by
 obtain⟨n,hn⟩:=vJ h;intro cx a w hr b k cs;have key: ∀n s a w,qm body n s=some r->eY cx (st s) a w->
    ∃e a' w',(∃σ',QA r e σ'/\eY cx σ' a' w')/\Arrives P (lone (b.at a (.code c:: .inLoop c::k)) cs w) b k cs e a' w':=by
  intro n
  induction n with
  | zero=>intro s a w h;cases h
  | succ n ih=>
    intro s a w hl hr;unfold qm at hl;split at hl
    · cases hl
    · rename_i s' hs;obtain⟨e,a₁,w₁,⟨σ',hq,hr'⟩,harr⟩:=hb s _ hs cx a w hr b (.inLoop c::k) cs;obtain⟨rfl,hle⟩:=hq;obtain⟨e₂,a₂,w₂,hq₂,harr₂⟩:=ih s' a₁ w₁ hl (hle cx a₁ w₁ hr');exact⟨e₂,a₂,w₂,hq₂,.of_steps (Steps.trans harr (.one step_inLoop)) harr₂⟩
    · rename_i r' hs;injection hl with hl;subst hl;obtain⟨e,a₁,w₁,⟨σ',hq,hr'⟩,harr⟩:=hb s _ hs cx a w hr b (.inLoop c::k) cs;obtain⟨hne,hq⟩:=hq;exact⟨e,a₁,w₁,⟨σ',hq,hr'⟩,.pass (x:= .inLoop c) rfl (fun _ _=> .inl hne) harr⟩
 obtain⟨e,a',w',hq,harr⟩:=key n s a w hn hr;exact⟨e,a',w',hq,.of_steps (.one step_loop) harr⟩
theorem xJ{id:Nat}{ops:Array Oper}{K:SS->Prop}(h:aj P ops ops.toList K σ)(hk: ∀s,K s->Q .normal s):swp P (.region id ops false) Q σ:=fun cx a w hr=>
 wp_mono (wp_region_list (h cx a w hr)) fun e _ _ ⟨he,s,h1,h2⟩=>by subst he;exact⟨s,hk s h1,h2⟩
def bI(P:Program)(ops:Array Oper)(D:List Nat)(σ0:SS)(K:SS->Prop)(done:List (Oper×EV))(σ:SS)(todo:List Oper):Prop:=
 Ht P ops D σ0 done σ->done.map (·.1)++todo=ops.toList-> ∀cx a w,eY cx σ0 a w->wpAny P .any ops (fun e a' w'=>e= .normal/\ ∃s,K s/\eY cx s a' w') ops.size (VM ops.size false) a w.drew
theorem bI.kP{ops:Array Oper}{D:List Nat}{σ0:SS}{K:SS->Prop}{done:List (Oper×EV)}{o:Oper}{todo:List Oper}{r:RV}{σ:SS}(ch:Bool)(nw:List Nat)(h:bN P ops o (nuW ops (keys σ0) D ch nw o σ) r)(k:bI P ops D σ0 K (done++[(o,⟨r,ch,none,nw⟩)]) (σ.app o.dst r) todo):bI P ops D σ0 K done σ (o::todo):=
 fun hd hl=>k (.snoc (e:=⟨r,ch,none,nw⟩) hd (h.toW ch nw)) (by rw[<-hl];simp)
theorem bI.step{ops:Array Oper}{D:List Nat}{σ0:SS}{K:SS->Prop}{done:List (Oper×EV)}{o:Oper}{todo:List Oper}{r:RV}{σ:SS}(h:bN P ops o (nuW ops (keys σ0) D false [] o σ) r)(k:bI P ops D σ0 K (done++[(o,⟨r,false,none,[]⟩)]) (σ.app o.dst r) todo):bI P ops D σ0 K done σ (o::todo):=bI.kP false [] h k
theorem bI.write{ops:Array Oper}{D:List Nat}{σ0:SS}{K:SS->Prop}{done:List (Oper×EV)}{o:Oper}{todo:List Oper}{r:RV}{q:Nat×SO}{σ:SS}(nw:List Nat)(h:pk P ops o (nuW ops (keys σ0) D true nw o σ) ⟨r,true,some q,nw⟩)(k:bI P ops D σ0 K (done++[(o,⟨r,true,some q,nw⟩)]) (σ.qY o.dst ⟨r,true,some q,nw⟩) todo):bI P ops D σ0 K done σ (o::todo):=
 fun hd hl=>k (.snoc (e:=⟨r,true,some q,nw⟩) hd h) (by rw[<-hl];simp)
theorem bI.Hp{ops:Array Oper}{D:List Nat}{σ0:SS}{K:SS->Prop}{done:List (Oper×EV)}{o:Oper}{todo:List Oper}{r:RV}{q:Nat×SO}{σ:SS}(nw:List Nat)(h:pk P ops o (nuW ops (keys σ0) D false nw o σ) ⟨r,false,some q,nw⟩)(k:bI P ops D σ0 K (done++[(o,⟨r,false,some q,nw⟩)]) (σ.qY o.dst ⟨r,false,some q,nw⟩) todo):bI P ops D σ0 K done σ (o::todo):=
 fun hd hl=>k (.snoc (e:=⟨r,false,some q,nw⟩) hd h) (by rw[<-hl];simp)
theorem bI.sub{ops:Array Oper}{D:List Nat}{σ0:SS}{K:SS->Prop}{done:List (Oper×EV)}{todo:List Oper}{σ σ':SS}(hs:Sub σ' σ)(k:bI P ops D σ0 K done σ' todo):bI P ops D σ0 K done σ todo:=fun hd hl=>k (.sub hd hs) hl
def nwA(ops:Array Oper)(k0 D:List Nat)(o:Oper)(σ:SS):List Nat:=
 let n1:=(σ.t.filter (fun p=>(o.looksAt ops).contains p.1)).flatMap fun p=>p.2.names
 (n1++(σ.o.filter fun p=>n1.contains p.1).flatMap fun p=>p.2.names).filter fun k=> !k0.contains k&& !D.contains k
def oF(tb:Tb)(ops:Array Oper)(k0 D:List Nat)(ch:Bool):Nat->List (Oper×EV)->SS->List Oper->Option (List (Oper×EV)×SS)
 | 0,done,σ,_=>some (done,σ)
 | n+1,done,σ,o::rest=>match uI tb ops (nuW ops k0 D ch (nwA ops k0 D o σ) o σ) o with
  | some r=>oF tb ops k0 D ch n (done++[(o,⟨r,ch,none,nwA ops k0 D o σ⟩)]) (σ.app o.dst r) rest
  | none=>none
 | _+1,_,_,[]=>none
theorem bI.chunk{tb:Tb}(hP:bm P tb){ops:Array Oper}{D:List Nat}{σ0:SS}{K:SS->Prop}{done':List (Oper×EV)}{ch:Bool}: ∀(n:Nat) {done:List (Oper×EV)} {todo:List Oper} {σ σ':SS},oF tb ops (keys σ0) D ch n done σ todo=some (done',σ')->bI P ops D σ0 K done' σ' (todo.drop n)->bI P ops D σ0 K done σ todo
 | 0,done,todo,σ,σ',h,k=>by
  injection h with h;injection h with h1 h2;subst h1 h2;exact k
 | n+1,done,[],σ,σ',h,_=>by cases h
 | n+1,done,o::rest,σ,σ',h,k=>by
  unfold oF at h;split at h
  · rename_i r hr;exact bI.kP ch _ (yG hP hr) (bI.chunk hP n h k)
  · cases h
theorem bI.nil{ops:Array Oper}{D:List Nat}{σ0:SS}{K:SS->Prop}{done:List (Oper×EV)}{σ:SS}(hb:OO ops σ0 D done=true)(h:K σ):bI P ops D σ0 K done σ []:=by
 intro hd hl cx a w hr;obtain⟨h1,h2⟩:=hd.steps;have hr':eY cx σ0 a w.drew:=by
  obtain⟨S,β,hr⟩:=hr;exact⟨S,β,hr.world (dA.drew _ _)⟩
 refine PN (D:=D) (by simpa using hl) (OP hb) h2 (c:=cx) (fun a w hr=>⟨rfl,σ,h,Le.sub h1.n h1.t h1.o cx a w hr⟩) _ _ _ _ (by simp) (by
  refine Ut (List.length_filter_le _ _) (by simp)) (fun j x _ hL=> ?_) (JA (fun j=>by simp[lsd,UR]) cx a w.drew hr')
 exfalso;simp[UR]at hL
theorem AU(hm:P.follows .mixedOrders=true){id:Nat}{ops:Array Oper}(D:List Nat){K:SS->Prop}(h:bI P ops D σ K [] σ ops.toList)(hk: ∀s,K s->Q .normal s):swp P (.region id ops true) Q σ:=fun cx a w hr=>
 wp_mono (wp_region_any hm (h .nil (by simp) cx a w hr)) fun e _ _ ⟨he,s,h1,h2⟩=>by subst he;exact⟨s,hk s h1,h2⟩
end
inductive fR where
 | v (x:SV)
 | o (x:SO)
inductive SR where
 | v (x:SV)
 | own (e m n:Nat) (es:List (List Tr))
 | box (cs:List SV)
 | deep (e m n:Nat) (ss:List Sh) (es:List (List Tr))
 | part (pre post:List SV) (y:SO)
 | arg (pl:Nat)
structure jM where
 outs:List SR
 objs:List (Nat×SO)
 dep:Bool
def bz:Nat->Value:=fun _=>undef
def vY(vs:Array Value)(w:World)(S:Nat->Prop)(B:Nat):SR->Value->Prop
 | .arg pl,u=>vs[pl]? =some u
 | .v x,u=>x.names=[]/\cT w S bz x u
 | .own e m n es,u=>cP w S bz (.arr e m n es) u/\ ∀g,cN u=some g->B<=g/\ ¬S g
 | .box cs,u=>SO.names (.box cs)=[]/\cP w S bz (.box cs) u/\ ∀g,cN u=some g->B<=g/\ ¬S g
 | .deep e m n ss es,u=>cP w S bz (.deep e m n ss es) u/\ ∀g,FP w (.sl e m ss) u g->B<=g/\ ¬S g
 | .part pre post y,u=>SV.names.namesL pre=[]/\SV.names.namesL post=[]/\SO.names y=[]/\ ∃o:Value,o.cells= #[o]/\cT w S (fun _=>o) (.agg (pre++ .own 0::post)) u/\cP w S bz y o/\ ∀g,y.ba w o g->B<=g/\ ¬S g
def CG(R:SR->Value->Prop):List SR->Value->Prop
 | [r],v=>R r v
 | rs,v=> ∃us:Array Value,v= .tuple us/\us.size=rs.length/\ ∀(i:Nat) r u,rs[i]? =some r->us[i]? =some u->R r u
def eG(P:Program)(f:FuncId)(ins:List fR)(res:jM):Prop:=
 ∀(w:World) (S:Nat->Prop) (vs:Array Value),vs.size=ins.length->(∀b,S b->b<w.heap.size)->
  (∀(j:Nat) x v,ins[j]? =some (fR.v x)->vs[j]? =some v->cT w S bz x v)->
  (∀(j:Nat) x v,ins[j]? =some (fR.o x)->vs[j]? =some v->v.cells= #[v]/\cP w S bz x v/\ ∀g,x.ba w v g-> ¬S g)->
  (∀(i j:Nat) x y u v (g:Nat),ins[i]? =some (fR.o x)->ins[j]? =some (fR.o y)->vs[i]? =some u->vs[j]? =some v->x.ba w u g->y.ba w v g->i=j)->mX S w->
  Calls P f vs w fun e w'=> ∃v S',e= .returned v/\dA (fun g=> ∃(j:Nat) (x:SO) (u:Value),ins[j]? =some (fR.o x)/\vs[j]? =some u/\x.ba w u g) w w'/\
    (∀b,S' b->(res.dep=true/\S b)\/w.heap.size<=b)/\(∀b,S' b->b<w'.heap.size)/\CG (vY vs w' S' w.heap.size) res.outs v/\
    ∀(j:Nat) x u,(j,x)∈res.objs->vs[j]? =some u->cP w' (fun b=>S b\/S' b) bz x u/\ ∀g,x.ba w' u g-> ¬S' g/\ ∃(j:Nat) (x0:SO) (u0:Value),ins[j]? =some (fR.o x0)/\vs[j]? =some u0/\x0.ba w u0 g
def hi(j:Nat):Nat:=1000000+j
def inT:fR×Nat->Nat×SV
 | (.v x,j)=>(j,x)
 | (.o (.box _),j)=>(j,.ref (hi j) 0)
 | (.o (.arr ..),j)=>(j,.own (hi j))
 | (.o (.deep ..),j)=>(j,.own (hi j))
 | (.o (.hol ..),j)=>(j,.own (hi j))
def inO:fR×Nat->Option (Nat×SO)
 | (.v _,_)=>none
 | (.o x,j)=>some (hi j,x)
def start(n:Nat)(ins:List fR):SS:=⟨n,ins.zipIdx.map inT,ins.zipIdx.filterMap inO⟩
def SV.Flat:SV->Prop
 | .tr t=>t.flat=true
 | .agg cs=>FlatL cs
 | .tup cs=>FlatL cs
 | .ptr _ _=>False
 | .ref _ _=>True
 | .eref _ _ _ _=>True
 | .own _=>True
 | .clo _ cs=>FlatL cs
 | .mth _ cs=>FlatL cs
 | .any=>False
where FlatL:List SV->Prop
 | []=>True
 | c::cs=>c.Flat/\FlatL cs
theorem SV.nO{cs:List SV}(h:SV.Flat.FlatL cs){c:SV}(hc:c∈cs):c.Flat:=by
 induction cs with
 | nil=>cases hc
 | cons x xs ih=>
  unfold SV.Flat.FlatL at h;rcases Tx.1 hc with rfl | hc
  · exact h.1
  · exact ih h.2 hc
theorem cT.free{w w':World}{S S':Nat->Prop}{β:Nat->Value}{x:SV}{v:Value}(h:cT w S β x v):x.Flat->cT w' S' β x v:=by
 induction h with
 | tr t v h=>exact fun hf=> .tr t v (h.free hf)
 | agg cs vs hl h ih=>exact fun hf=> .agg cs vs hl fun j c v hc hv=>ih j c v hc hv (SV.nO hf (Tm hc))
 | tup cs vs hl h ih=>exact fun hf=> .tup cs vs hl fun j c v hc hv=>ih j c v hc hv (SV.nO hf (Tm hc))
 | ptr cs o g b u hg h hc ih=>exact fun hf=>hf.elim
 | ref d o g h=>exact fun _=> .ref d o g h
 | eref d m i j g n c h=>exact fun _=> .eref d m i j g n c h
 | own d=>exact fun _=> .own d
 | clo f caps vs hl h ih=>exact fun hf=> .clo f caps vs hl fun j c v hc hv=>ih j c v hc hv (SV.nO hf (Tm hc))
 | mth f caps vs hl h ih=>exact fun hf=> .mth f caps vs hl fun j c v hc hv=>ih j c v hc hv (SV.nO hf (Tm hc))
 | any v h=>exact fun hf=>hf.elim
def tA(es:List (List Tr)):Prop:= ∀x∈es,∀t∈x,t.flat=true
def R7(dep:Bool):SO->Prop
 | .arr _ _ _ es=>dep=true\/tA es
 | .deep .. =>True
 | _=>False
theorem Jb{w:World}{S S':Nat->Prop}{β β':Nat->Value}{pre post:List SV}{d d':Nat}{v:Value}(h:cT w S β (.agg (pre++ .own d::post)) v)(hd:β' d'=β d)(h1: ∀x∈pre++post,∀u,cT w S β x u->cT w S' β' x u):cT w S' β' (.agg (pre++ .own d'::post)) v:=by
 cases h with
 | agg _ vs hl h=>
  refine .agg _ vs (by simpa using hl) fun j c u hc hu=> ?_;by_cases hj:j<pre.length
  · rw[TE hj]at hc;exact h1 c (T7 _ (Tm hc)) u (h j c u (by rw[TE hj];exact hc) hu)
  · rw[Ts (by omega)]at hc;cases hk:j - pre.length with
    | zero=>
      rw[hk]at hc;injection hc with hc;subst hc;have:=h j (.own d) u (by rw[Ts (by omega),hk];rfl) hu;cases this;rw[<-hd];exact .own d'
    | succ k=>
      rw[hk]at hc;exact h1 c (TJ _ (Tm (by simpa using hc))) u (h j c u (by rw[Ts (by omega),hk];simpa using hc) hu)
theorem GY{cs:List SV}(h:SV.names.namesL cs=[]){x:SV}(hx:x∈cs):x.names=[]:=by
 apply UB.2;intro d hd;have:=SV.cf hx hd;rw[h]at this;cases this
def Holds(P:Program)(σ:SS)(x:SV):ResultVar->Prop
 | .tmp t=>(t,x)∈σ.t
 | .cell t T=> ∃d cs ti,(t,SV.ref d 0)∈σ.t/\(d,SO.box cs)∈σ.o/\oL P T ti/\ldc ti cs 0=some x
def l7(P:Program)(σ:SS)(dep:Bool)(rv:ResultVar):SR->Prop
 | .arg pl=> ∃x,Holds P σ (.own (hi pl)) rv/\(hi pl,x)∈σ.o
 | .v x=>x.names=[]/\(dep=true\/x.Flat)/\Holds P σ x rv
 | .own e m n es=> ∃d,Holds P σ (.own d) rv/\(d,SO.arr e m n es)∈σ.o/\(dep=true\/tA es)/\d<σ.n
 | .box cs=> ∃d,Holds P σ (.ref d 0) rv/\(d,SO.box cs)∈σ.o/\SO.names (.box cs)=[]/\(dep=true\/SV.Flat.FlatL cs)/\d<σ.n
 | .deep e m n ss es=> ∃d,Holds P σ (.own d) rv/\(d,SO.deep e m n ss es)∈σ.o/\d<σ.n
 | .part pre post y=> ∃d,Holds P σ (.agg (pre++ .own d::post)) rv/\(d,y)∈σ.o/\SV.names.namesL pre=[]/\SV.names.namesL post=[]/\(dep=true\/SV.Flat.FlatL pre/\SV.Flat.FlatL post)/\R7 dep y/\d<σ.n
structure td (P:Program) (rs:List ResultVar) (ins:List fR) (res:jM) (σ:SS):Prop where
 len:rs.length=res.outs.length
 out: ∀(i:Nat) t r,rs[i]? =some t->res.outs[i]? =some r->l7 P σ res.dep t r
 obj: ∀(j:Nat) x,(j,x)∈res.objs->(hi j,x)∈σ.o/\SO.names x=[]/\ ∃z,ins[j]? =some (fR.o z)
 all: ∀(j:Nat) x,ins[j]? =some (fR.o x)-> ∃y,(j,y)∈res.objs
def fR.names:fR->List Nat
 | .v x=>x.names
 | .o x=>x.names
def yr(ins:List fR):List Nat:=ins.flatMap fR.names
def EY(us:List Value):Value:=match us with
 | [u]=>u
 | _=> .tuple us.toArray
def qn(tmps:Array Value):ResultVar->Sem Value
 | .tmp t=>pure (tmps.getD t undef)
 | .cell a t=>do loadVar t (<-asAddr (tmps.getD a undef))
section
variable {P : Program}
theorem QZ{n:Nat}{ins:List fR}{j:Nat}{x:SV}(h:(j,x)∈(start n ins).t): ∃y,ins[j]? =some y/\inT (y,j)=(j,x):=by
 obtain⟨⟨y,i⟩,h1,h2⟩:=TF.1 h;have h3:=dG.1 h1;have:i=j:=by
  cases y with
  | v _=>injection h2
  | o y=>cases y<;>injection h2
 subst this;exact⟨y,h3,h2⟩
theorem CC{n:Nat}{ins:List fR}{d:Nat}{x:SO}(h:(d,x)∈(start n ins).o): ∃j,d=hi j/\ins[j]? =some (fR.o x):=by
 obtain⟨⟨y,i⟩,h1,h2⟩:=VK.1 h;have h3:=dG.1 h1;cases y with
 | v _=>cases h2
 | o y=>
  injection h2 with h2;injection h2 with h4 h5;subst h5;exact⟨i,h4.symm,h3⟩
theorem Bm{fn:Func}{rs:List ResultVar}(hr:fn.results=rs.toArray){tmps:Array Value}{w:World}{us:List Value}(hl:us.length=rs.length)(hu: ∀(i:Nat) t u,rs[i]? =some t->us[i]? =some u->(qn tmps t).run P w= .ok u w):(results fn tmps).run P w= .ok (EY us) w:=by
 have hm: ∀(l:List ResultVar) (us:List Value),us.length=l.length->(∀(i:Nat) t u,l[i]? =some t->us[i]? =some u->(qn tmps t).run P w= .ok u w)->(l.mapM (qn tmps)).run P w= .ok us w:=by
  intro l
  induction l with
  | nil=>intro us h _;rw[Uf h];simp
  | cons t l ih=>
    intro us h hh;cases us with
    | nil=>cases h
    | cons u us=>
      rw[List.mapM_cons,Sem.run_bind,hh 0 t u rfl rfl,Result.andThen_ok,Sem.run_bind,ih us (by simpa using h) (fun i t u h1 h2=>hh (i+1) t u (by simpa using h1) (by simpa using h2)),Result.andThen_ok];rfl
 have hf:(results fn tmps)=(do let vs<-fn.results.mapM (qn tmps);pure (if h:vs.size=1 then vs[0]else .tuple vs)):=by
  unfold results;congr 2
 rw[hf,hr,Array.mapM_eq_mapM_toList];simp only[Sem.run_bind,map_eq_pure_bind];rw[hm rs us hl hu];simp only[Result.andThen_ok,Sem.run_pure];unfold EY
 match us with
 | []=>rfl
 | [t]=>rfl
 | t::t'::ts=>rw[dif_neg (by simp)]
theorem py{c:Cx}{S:Nat->Prop}{β:Nat->Value}{σ:SS}{a:Act}{w:World}(hr:Rel c S β σ a w){x:SV}{rv:ResultVar}(h:Holds P σ x rv): ∃u,(qn a.tmps rv).run P w= .ok u w/\cT w S β x u:=by
 cases rv with
 | tmp t=>exact⟨_,by simp[qn],(hr.tmp t x h).2⟩
 | cell t T=>
  obtain⟨d,cs,ti,h1,h2,h3,h4⟩:=h;have hv:=(hr.tmp t _ h1).2;generalize hy:a.tmps.getD t undef=y at hv;have ho2:=hr.obj d _ h2;cases hv with
  | ref d k g hg=>
    rw[hg]at ho2;cases ho2 with
    | box cs g vs T' hgg hl hh=>
      obtain⟨r,h5,h6⟩:=GS (S:=S) (β:=β) (w:=w) (g:=g) (b:=0) (o:=0) (u:=fun j=>vs.getD j undef) h3 (cs:=cs) (fun j z hz=>hh j z _ hz (by
        have:=(Tl.1 hz).1;simp[UR,show j<vs.size by omega])) (fun j z hz=>by
        have:=(Tl.1 hz).1;rw[Ue,cell_of_row w g j vs T' (0,0) hgg];simp[UR,show j<vs.size by omega]) h4
      exact⟨r,by simp only[qn,hy,Sem.run_bind];simpa [asAddr]using h5,h6⟩
def NN(ins:List fR):SR->Bool
 | .arg pl=>match ins[pl]? with
  | some (.o _)=>true
  | _=>false
 | _=>true
theorem Jq{f:FuncId}{fn:Func}{code:Code}(hf:P.funcs[f]? =some fn)(hb:fn.body=some code)(rs:List ResultVar)(hr:fn.results=rs.toArray){ins:List fR}(hn:ins.length<=fn.ntmps)(hnn:fn.ntmps<=1000000)(hnm:yr ins=[]){res:jM}(harg:res.outs.all (NN ins)=true)
  (h:swp P code (fun e σ=>(e= .normal\/e= .ret)/\td P rs ins res σ) (start fn.ntmps ins)):eG P f ins res:=by
 intro w S vs hsz hlt hv ho hap hgl;have hnames: ∀(j:Nat) x,ins[j]? =some x->x.names=[]:=fun j x hj=>by
  apply UB.2;intro d hd;have:d∈yr ins:=TK.2 ⟨x,Tm hj,hd⟩;rw[hnm]at this;cases this
 refine calls_of_wp hf hb ?_;have hget: ∀(j:Nat) v,vs[j]? =some v->(vs++VM (fn.ntmps - vs.size) undef).getD j undef=v:=by
  intro j v hj;rw[Uu,UG (TR.1 hj).1,hj];rfl
 obtain⟨pin,hpin⟩: ∃pin:List (Nat×Value),∀d v,(d,v)∈pin↔ ∃(j:Nat) (x:SO),d=hi j/\ins[j]? =some (fR.o x)/\vs[j]? =some v:=by
  refine⟨ins.zipIdx.filterMap fun x=>match x.1 with | .v _=>none | .o _=>(vs[x.2]?).map fun v=>(hi x.2,v),fun d v=>⟨fun hm=> ?_,?_⟩⟩
  · obtain⟨⟨x,j⟩,h1,h2⟩:=VK.1 hm;cases x with
    | v _=>cases h2
    | o x=>
      simp only[Tn]at h2;obtain⟨u,h3,h4⟩:=h2;injection h4 with h5 h6;subst h6;exact⟨j,x,h5.symm,dG.1 h1,h3⟩
  · rintro⟨j,x,rfl,h1,h2⟩;exact VK.2 ⟨(.o x,j),dG.2 h1,by simp[h2]⟩
 obtain⟨β,hβ,hone⟩: ∃β:Nat->Value,(∀(j:Nat) x v,ins[j]? =some (fR.o x)->vs[j]? =some v->β (hi j)=v)/\ ∀d,(β d).cells= #[β d]:=by
  refine⟨fun d=>if 1000000<=d then(match ins[d - 1000000]? with | some (.o _)=>vs.getD (d - 1000000) undef | _=>undef)else undef,fun j x v h1 h2=> ?_,fun d=> ?_⟩
  · simp only[hi,Nat.add_sub_cancel_left,Nat.le_add_right,if_true,h1];simp[Uu,h2]
  · dsimp only;split
    · split
      ·rename_i x hx;have hj:=(Tl.1 hx).1;have hv':vs[d - 1000000]? =some (vs[d - 1000000]'(by omega)):=TW _;have:=(ho _ _ _ hx hv').1;rw[Uu,hv',Vu];exact this
      ·rfl
    · rfl
 have hvs: ∀j,j<ins.length-> ∃v,vs[j]? =some v:=fun j hj=>⟨vs[j]'(by omega),TW _⟩;have hrel:Rel ⟨w,S,pin,fun d g=> ∃(j:Nat) (x:SO) (v:Value),d=hi j/\ins[j]? =some (fR.o x)/\vs[j]? =some v/\x.ba w v g,fun d v hd=>by
    obtain⟨j,x,rfl,h1,_⟩:=(hpin d v).1 hd;have:=(Tl.1 h1).1;simp only[hi];omega,⟨hgl,fun p hp ⟨j',v',_,j,x,v,_,h2,h3,h4⟩=>(ho j x v h2 h3).2.2 p h4 (hgl.mem hp)⟩,false⟩ S β (start fn.ntmps ins) ⟨vs++VM (fn.ntmps - vs.size) undef,[]⟩ w:=by
  refine⟨rfl,by simp[start,hsz];omega,hone,dA.refl _ _,fun _ h=>h,fun _ h=> .inl h,hlt,fun j x hj=> ?_,fun d x hd=> ?_,fun d v hd=> ?_,fun d x g hd hg=> ?_,fun d x d' x' g hd hd' hg hg'=> ?_⟩
  · obtain⟨y,h1,h2⟩:=QZ hj;have hlt':=(Tl.1 h1).1;obtain⟨v,hv1⟩:=hvs j hlt';refine⟨by simp;omega,?_⟩;rw[hget j v hv1];have hnm':=hnames j y h1;cases y with
    | v z=>
      injection h2 with _ h2;subst h2;exact(hv j z v h1 hv1).agree fun d hd=>by
       have:d∈([]:List Nat):=hnm'▸hd;cases this
    | o z=>
      have hz:=(ho j z v h1 hv1).2.1;have hb1:=hβ j z v h1 hv1;cases z with
      | box cs=>
       injection h2 with _ h2;subst h2;cases hz with | box _ g us T hg hl hh=>exact .ref _ 0 g hb1
      | arr e m n es=>
       injection h2 with _ h2;subst h2;rw[<-hb1];exact .own _
      | deep e m n ss es=>
       injection h2 with _ h2;subst h2;rw[<-hb1];exact .own _
      | hol e m n ss es i j d=>
       injection h2 with _ h2;subst h2;rw[<-hb1];exact .own _
  · obtain⟨j,rfl,h1⟩:=CC hd;obtain⟨v,hv1⟩:=hvs j (Tl.1 h1).1;rw[hβ j x v h1 hv1];have hnm':=hnames j _ h1;exact(ho j x v h1 hv1).2.1.agree fun d hd=>by
      have:d∈([]:List Nat):=hnm'▸hd;cases this
  · obtain⟨j,x,rfl,h1,h2⟩:=(hpin d v).1 hd;exact⟨by simp only[start,hi];omega,fun y hy=>hβ j x v h1 h2⟩
  · obtain⟨j,rfl,h1⟩:=CC hd;obtain⟨v,hv1⟩:=hvs j (Tl.1 h1).1;rw[hβ j x v h1 hv1]at hg;exact⟨(ho j x v h1 hv1).2.2 g hg,.inr ⟨by simp only[start,hi];omega,⟨hi j,v,(hpin _ _).2 ⟨j,x,rfl,h1,hv1⟩,j,x,v,rfl,h1,hv1,hg⟩,fun h=>by
      have:=(Tl.1 h1).1;simp only[hi]at h;omega⟩⟩
  · obtain⟨j,rfl,h1⟩:=CC hd;obtain⟨i,rfl,h2⟩:=CC hd';obtain⟨v,hv1⟩:=hvs j (Tl.1 h1).1;obtain⟨u,hu1⟩:=hvs i (Tl.1 h2).1;rw[hβ j x v h1 hv1]at hg;rw[hβ i x' u h2 hu1]at hg';rw[hap j i x x' v u g h1 h2 hv1 hu1 hg hg']
 refine wp_mono (h _ _ _ ⟨S,β,hrel⟩) fun e a w' ⟨σ,⟨he,hfin⟩,S2,β2,hr2⟩=> ?_;have hpost: ∃v,(results fn a.tmps).run P w'= .ok v w'/\ ∃v' S',Ending.returned v= .returned v'/\dA (fun g=> ∃(j:Nat) (x:SO) (u:Value),ins[j]? =some (fR.o x)/\vs[j]? =some u/\x.ba w u g) w w'/\
    (∀b,S' b->(res.dep=true/\S b)\/w.heap.size<=b)/\(∀b,S' b->b<w'.heap.size)/\CG (vY vs w' S' w.heap.size) res.outs v'/\
    ∀(j:Nat) x u,(j,x)∈res.objs->vs[j]? =some u->cP w' (fun b=>S b\/S' b) bz x u/\ ∀g,x.ba w' u g-> ¬S' g/\ ∃(j:Nat) (x0:SO) (u0:Value),ins[j]? =some (fR.o x0)/\vs[j]? =some u0/\x0.ba w u0 g:=by
  have hnew: ∀d x g,d<σ.n->(d,x)∈σ.o->x.ba w' (β2 d) g->w.heap.size<=g:=by
    intro d x g hd hm hg;rcases(hr2.priv d x g hm hg).2 with⟨_,h1⟩ | ⟨h1,_⟩
    · exact h1
    · omega
  have hS': ∀b,(S2 b/\(res.dep=true\/w.heap.size<=b))->(res.dep=true/\S b)\/w.heap.size<=b:=by
    intro b ⟨h1,h2⟩;rcases hr2.s1 b h1 with h3 | h3 | ⟨h3,_⟩
    · rcases h2 with h2 | h2
      ·exact .inl ⟨h2,h3⟩
      ·exact .inr h2
    · exact .inr h3
    · cases h3
  have hnodep: ∀{x:SV} {u:Value},cT w' S2 β2 x u->(res.dep=true\/x.Flat)->x.names=[]->cT w' (fun b=>S2 b/\(res.dep=true\/w.heap.size<=b)) bz x u:=by
    intro x u hx hd hnm;rcases hd with hd | hd
    · exact(hx.keep (fun _ _=>rfl) fun b hb=>⟨hb,.inl hd⟩).agree fun d hd=>by rw[hnm]at hd;cases hd
    · exact(hx.free hd).agree fun d hd=>by rw[hnm]at hd;cases hd
  have hres: ∀(i:Nat) t r,rs[i]? =some t->res.outs[i]? =some r-> ∃u,(qn a.tmps t).run P w'= .ok u w'/\vY vs w' (fun b=>S2 b/\(res.dep=true\/w.heap.size<=b)) w.heap.size r u:=by
    intro i t r h1 h2;have h3:=hfin.out i t r h1 h2;cases r with
    | arg pl=>
      obtain⟨x,h4,h5⟩:=h3;obtain⟨u,h11,h8⟩:=py hr2 h4;refine⟨u,h11,?_⟩;cases h8;have h6:(match ins[pl]? with | some (.o _)=>true | _=>false)=true:=Tt.1 harg _ (Tm h2);split at h6
      ·rename_i z hz;obtain⟨v,hv1⟩:=hvs pl (Tl.1 hz).1;have h7:=(hr2.pin (hi pl) v ((hpin _ _).2 ⟨pl,z,rfl,hz,hv1⟩)).2 x h5;show vs[pl]? =some (β2 (hi pl));rw[h7];exact hv1
      ·cases h6
    | v x=>
      obtain⟨h4,h5,h6⟩:=h3;obtain⟨u,h7,h8⟩:=py hr2 h6;exact⟨u,h7,h4,hnodep h8 h5 h4⟩
    | own e m n es=>
      obtain⟨d,h4,h5,h6,h7⟩:=h3;obtain⟨u,h11,h8⟩:=py hr2 h4;refine⟨u,h11,?_⟩;cases h8;refine⟨?_,fun g hg=>⟨hnew d _ g h7 h5 hg,fun hc=>(hr2.priv d _ g h5 hg).1 hc.1⟩⟩;have h9:=hr2.obj d _ h5;cases h9 with
      | arr e m n es v xs hn' hown he' hh=>
       refine .arr e m n es _ xs hn' hown he' fun i x j t u hi hj hu=> ?_;have h10:=hh i x j t u hi hj hu;rcases h6 with h6 | h6
       ·exact h10.keep (fun _ _=>rfl) fun b hb=>⟨hb,.inl h6⟩
       ·exact h10.free (h6 x (Tm hi) t (Tm hj))
    | deep e m n ss es=>
      obtain⟨d,h4,h5,h7⟩:=h3;obtain⟨u,h11,h8⟩:=py hr2 h4;refine⟨u,h11,?_⟩;cases h8;have h9:=hr2.obj d _ h5;refine⟨?_,fun g hg=>⟨hnew d _ g h7 h5 hg,fun hc=>(hr2.priv d _ g h5 hg).1 hc.1⟩⟩;cases h9 with
      | deep _ _ _ _ _ _ h=>exact .deep _ _ _ _ _ _ h
    | part pre post y=>
      obtain⟨d,h4,h5,h6,h6',h7,h7',h8⟩:=h3;obtain⟨u,h11,h12⟩:=py hr2 h4;have hyn:SO.names y=[]:=by
       cases y with
       | arr _ _ _ _=>rfl
       | deep _ _ _ _ _=>rfl
       | box _=>exact h7'.elim
       | hol _ _ _ _ _ _ _ _=>exact h7'.elim
      refine⟨u,h11,h6,h6',hyn,β2 d,hr2.one d,Jb h12 rfl fun x hx v hv=> ?_,?_,fun g hg=>⟨hnew d _ g h8 h5 hg,fun hc=>(hr2.priv d _ g h5 hg).1 hc.1⟩⟩
      ·have hxn:x.names=[]:=(TN.1 hx).elim (GY h6) (GY h6');have hxf:res.dep=true\/x.Flat:=h7.imp id fun h=>(TN.1 hx).elim (SV.nO h.1) (SV.nO h.2);exact(hnodep hv hxf hxn).agree fun d hd=>by rw[hxn]at hd;cases hd
      ·have h9:=hr2.obj d _ h5;generalize β2 d=b2 at h9⊢;cases h9 with
       | arr e m n es v xs hn' hown he' hh=>
        refine .arr e m n es _ xs hn' hown he' fun i x j t u hi hj hu=> ?_;have h10:=hh i x j t u hi hj hu;rcases h7' with h6 | h6
        ·exact h10.keep (fun _ _=>rfl) fun b hb=>⟨hb,.inl h6⟩
        ·exact h10.free (h6 x (Tm hi) t (Tm hj))
       | deep _ _ _ _ _ _ h=>exact .deep _ _ _ _ _ _ h
       | box _ _ _ _ _ _ _=>exact h7'.elim
       | hol _ _ _ _ _ _ _ _ _ _ _ _=>exact h7'.elim
    | box cs=>
      obtain⟨d,h4,h5,h5',h6,h7⟩:=h3;obtain⟨u,h11,h8⟩:=py hr2 h4;refine⟨u,h11,?_⟩;have h9:=hr2.obj d _ h5;have hg':=fun g=>hnew d _ g h7 h5;have hp':=fun g=>hr2.priv d _ g h5;cases h8 with
      | ref d o g hd=>
       rw[hd]at h9;refine⟨h5',?_,fun g' hg=>⟨hg' g' (by rw[hd];exact hg),fun hc=>(hp' g' (by rw[hd];exact hg)).1 hc.1⟩⟩;cases h9 with
       | box cs g us T hgg hl hh=>
        refine .box cs g us T hgg hl fun j c v hc hv=>hnodep (hh j c v hc hv) ?_ ?_
        ·rcases h6 with h6 | h6
         ·exact .inl h6
         ·exact .inr (SV.nO h6 (Tm hc))
        ·apply UB.2;intro k hk;have:k∈SV.names.namesL cs:=SV.cf (Tm hc) hk;have h11:SV.names.namesL cs=[]:=h5';rw[h11]at this;cases this
  obtain⟨us,hul,hus⟩: ∃us:List Value,us.length=rs.length/\ ∀(i:Nat) t r u,rs[i]? =some t->res.outs[i]? =some r->us[i]? =some u->(qn a.tmps t).run P w'= .ok u w'/\vY vs w' (fun b=>S2 b/\(res.dep=true\/w.heap.size<=b)) w.heap.size r u:=by
    have hch: ∀i:Nat,∃u,∀t r,rs[i]? =some t->res.outs[i]? =some r->(qn a.tmps t).run P w'= .ok u w'/\vY vs w' (fun b=>S2 b/\(res.dep=true\/w.heap.size<=b)) w.heap.size r u:=by
      intro i;rcases ht:rs[i]? with _ | t
      ·exact⟨undef,fun t r h=>by simp at h⟩
      ·rcases hrr:res.outs[i]? with _ | r
       ·exact⟨undef,fun t r _ h=>by simp at h⟩
       ·obtain⟨u,h1,h2⟩:=hres i t r ht hrr;exact⟨u,fun t' r' h3 h4=>by injection h3 with h3;injection h4 with h4;subst h3 h4;exact⟨h1,h2⟩⟩
    obtain⟨f,hf⟩:=Classical.axiomOfChoice hch;refine⟨(TU rs.length).map f,by simp,fun i t r u h1 h2 h3=> ?_⟩;rw[Tq,Vq (Tl.1 h1).1]at h3;injection h3 with h3;subst h3;exact hf i t r h1 h2
  have hread: ∀(i:Nat) t u,rs[i]? =some t->us[i]? =some u->(qn a.tmps t).run P w'= .ok u w':=fun i t u h1 h2=>by
    have hlt:=(Tl.1 h1).1;have hlen:=hfin.len;exact(hus i t (res.outs[i]'(by omega)) u h1 (Tk _) h2).1
  have hus': ∀(i:Nat) r u,res.outs[i]? =some r->us[i]? =some u->vY vs w' (fun b=>S2 b/\(res.dep=true\/w.heap.size<=b)) w.heap.size r u:=fun i r u h1 h2=>by
    have hlt:=(Tl.1 h2).1;exact(hus i (rs[i]'(by omega)) r u (Tk _) h1 h2).2
  refine⟨EY us,Bm hr hul hread,EY us,fun b=>S2 b/\(res.dep=true\/w.heap.size<=b),rfl,?_,hS',fun b hb=>hr2.lt b hb.1,?_,fun j x u hj hu=> ?_⟩
  · have hg:=hr2.grew;refine⟨hg.os,hg.tape,hg.output,hg.size,fun k hk hx=>hg.block k hk fun hX=>hx ?_⟩;obtain⟨_,_,_,j,x,v',_,h3,h4,h2⟩:=hX;exact⟨j,x,v',h3,h4,h2⟩
  · have hlen:=hfin.len;have htup: ∃tv:Array Value,Value.tuple us.toArray= .tuple tv/\tv.size=res.outs.length/\ ∀(i:Nat) r u,res.outs[i]? =some r->tv[i]? =some u->vY vs w' (fun b=>S2 b/\(res.dep=true\/w.heap.size<=b)) w.heap.size r u:=
      ⟨_,rfl,by simp[hul,hlen],fun i r u h1 h2=>hus' i r u h1 (by simpa using h2)⟩
    have hl3:us.length=res.outs.length:=hul.trans hlen;clear hus hread;unfold EY;generalize res.outs=outs at*
    match us,outs,hl3 with
    | [t],[r],_=>exact hus' 0 r t rfl rfl
    | [],[],_=>exact htup
    | t::t'::ts,r::r'::rs',_=>exact htup
  · obtain⟨h1,h2,z,h3⟩:=hfin.obj j x hj;have h4:=(hr2.pin (hi j) u ((hpin _ _).2 ⟨j,z,rfl,h3,hu⟩)).2 x h1;have h5:=hr2.obj _ _ h1;rw[h4]at h5;refine⟨(h5.keep (fun _ _=>rfl) fun b hb=> ?_).agree (fun d hd=>by rw[h2]at hd;cases hd),fun g hg=>⟨fun hc=> ?_,?_⟩⟩
    · rcases hr2.s1 b hb with h6 | h6 | ⟨h6,_⟩
      ·exact .inl h6
      ·exact .inr ⟨hb,.inr h6⟩
      ·cases h6
    · exact(hr2.priv _ x g h1 (by rw[h4];exact hg)).1 hc.1
    · have hn1:=(hr2.pin (hi j) u ((hpin _ _).2 ⟨j,z,rfl,h3,hu⟩)).1;have hn2:=hr2.OW ((hpin (hi j) u).2 ⟨j,z,rfl,h3,hu⟩);rcases(hr2.priv _ x g h1 (by rw[h4];exact hg)).2 with⟨h6,_⟩ | ⟨_,⟨_,_,_,i,x1,v1,_,h6,h7,h8⟩,_⟩
      ·omega
      ·exact⟨i,x1,v1,h6,h7,h8⟩
 obtain⟨v,h1,h2⟩:=hpost;rcases he with rfl | rfl
 ·exact⟨hr2.defers,v,h1,h2⟩
 ·exact⟨hr2.defers,v,h1,h2⟩
end
def ro0(σ:SS):SV->Option SV
 | .tr t=>some (.tr t)
 | .own d=>match find d σ.o with
  | some (.arr _ _ n es)=>some (.tr (.sl n es))
  | some (.deep _ _ n _ es)=>some (.tr (.sl n es))
  | _=>none
 | .ptr cs o=>if SV.names.namesL cs=[]then some (.ptr cs o)else none
 | .clo f cs=>if SV.names.namesL cs=[]then some (.clo f cs)else none
 | _=>none
def KX(σ:SS):List SV->Option (List SV)
 | []=>some []
 | x::r=>match ro0 σ x,KX σ r with
  | some y,some ys=>some (y::ys)
  | _,_=>none
def ro1(σ:SS):SV->Option SV
 | .ref d o=>match find d σ.o with
  | some (.box cs)=>(KX σ cs).map fun ys=> .ptr ys o
  | _=>none
 | .agg cs=>(KX σ cs).map .agg
 | x=>ro0 σ x
def O0(σ:SS):List SV->Option (List SV)
 | []=>some []
 | x::r=>match ro1 σ x,O0 σ r with
  | some y,some ys=>some (y::ys)
  | _,_=>none
def ro2(σ:SS):SV->Option SV
 | .clo f cs=>(O0 σ cs).map (.clo f)
 | .mth f cs=>(O0 σ cs).map (.mth f)
 | x=>ro1 σ x
def EZ(σ:SS):List SV->Option (List SV)
 | []=>some []
 | x::r=>match ro2 σ x,EZ σ r with
  | some y,some ys=>some (y::ys)
  | _,_=>none
def dH(P:Program)(g:FuncId):Prop:= ∀(args:Array Value) (w:World),(callFunc g args).run P w= .ok (.enter g args) w
theorem bK{P:Program}{f:FuncId}{fn:Func}{c:Code}(hf:P.funcs[f]? =some fn)(hname:(fn.name== "runtime.NumGoroutine")=false)(hb:fn.body=some c):dH P f:=by
 intro args w;have h1:fn.name≠ "runtime.NumGoroutine" :=by simpa using hname
 simp[callFunc,hf,h1,hb,mark]
def pu(d:Nat):List SR->Option (List SV×Option SO)
 | []=>some ([],none)
 | .v x::r=>match pu d r with
  | some (xs,y)=>some (x::xs,y)
  | none=>none
 | .own e m n es::r=>match pu d r with
  | some (xs,none)=>some (.own d::xs,some (.arr e m n es))
  | _=>none
 | .deep e m n ss es::r=>match pu d r with
  | some (xs,none)=>some (.own d::xs,some (.deep e m n ss es))
  | _=>none
 | .arg _::_=>none
 | .part pre post y::r=>match pu d r with
  | some (xs,none)=>some (.agg (pre++ .own d::post)::xs,some y)
  | _=>none
 | .box cs::r=>match pu d r with
  | some (xs,none)=>some (.ref d 0::xs,some (.box cs))
  | _=>none
def nY(d:Nat):List SR->Option (SV×Option SO)
 | [r]=>match pu d [r]with
  | some ([x],y)=>some (x,y)
  | _=>none
 | rs=>match pu d rs with
  | some (xs,y)=>some (.tup xs,y)
  | none=>none
section
variable {P : Program} {c : Cx} {S Sc : Nat -> Prop} {β : Nat -> Value} {ν σ : SS} {a : Act} {w : World}
theorem yY(hr:Rel c S β ν a w)(hS: ∀b,S b->Sc b){d e m n:Nat}{es:List (List Tr)}(hd:(d,SO.arr e m n es)∈ν.o)(hc: ∀g,cN (β d)=some g->Sc g):TV w Sc (.sl n es) (β d):=by
 have ho:=hr.obj d _ hd;cases ho with
 | arr e m n es v xs hn hown he hh=>exact Jo hn hown he (fun i x j t u hi hj hu=>(hh i x j t u hi hj hu).keep (fun _ _=>rfl) hS) hc
theorem Mt(hr:Rel c S β ν a w){d e m n:Nat}{ss:List Sh}{es:List (List Tr)}(hd:(d,SO.deep e m n ss es)∈ν.o)(hc: ∀g,FP w (.sl e m ss) (β d) g->Sc g):TV w Sc (.sl n es) (β d):=by
 have ho:=hr.obj d _ hd;cases ho with
 | deep _ _ _ _ _ _ h=>exact h.tree hc
def Ge(w:World)(Sc:Nat->Prop)(β:Nat->Value)(ν:SS)(l:List Nat):Prop:= ∀d∈l,∀x,(d,x)∈ν.o->(∀g,x.ba w (β d) g->Sc g)/\ ∀k∈x.names,∀y,(k,y)∈ν.o-> ∀g,y.ba w (β k) g->Sc g
theorem bzr{x:SV}{v:Value}(h:cT w S β x v)(hS: ∀b,S b->Sc b)(hn:x.names=[]):cT w Sc bz x v:=(h.keep (fun _ _=>rfl) hS).agree fun d hd=>by rw[hn]at hd;cases hd
theorem RT(hr:Rel c S β ν a w)(hS: ∀b,S b->Sc b){x y:SV}(h:ro0 ν x=some y)(hT: ∀d∈x.names,∀z,(d,z)∈ν.o-> ∀g,z.ba w (β d) g->Sc g){v:Value}(hv:cT w S β x v):cT w Sc bz y v/\y.names=[]:=by
 cases x<;>simp only[ro0,reduceCtorEq]at h
 case tr t=>injection h with h;subst h;exact⟨bzr hv hS rfl,rfl⟩
 case own d=>
  split at h
  · rename_i e m n es hd;injection h with h;subst h;have hm:=aJ hd;cases hv with
    | own d=>exact⟨.tr _ _ (yY hr hS hm fun g hg=>hT d (by simp[SV.names]) _ hm g hg),rfl⟩
  · rename_i e m n ss es hd;injection h with h;subst h;have hm:=aJ hd;cases hv with
    | own d=>exact⟨.tr _ _ (Mt hr hm fun g hg=>hT d (by simp[SV.names]) _ hm g hg),rfl⟩
  · cases h
 case ptr cs o=>
  split at h
  · rename_i hn;injection h with h;subst h;exact⟨bzr hv hS hn,hn⟩
  · cases h
 case clo f cs=>
  split at h
  · rename_i hn;injection h with h;subst h;exact⟨bzr hv hS hn,hn⟩
  · cases h
theorem Cy(hr:Rel c S β ν a w)(hS: ∀b,S b->Sc b): ∀{xs ys:List SV},KX ν xs=some ys->(∀d∈SV.names.namesL xs,∀z,(d,z)∈ν.o-> ∀g,z.ba w (β d) g->Sc g)->
  ys.length=xs.length/\SV.names.namesL ys=[]/\ ∀(j:Nat) x y v,xs[j]? =some x->ys[j]? =some y->cT w S β x v->cT w Sc bz y v
 | [],ys,h,_=>by injection h with h;subst h;simp[SV.names.namesL]
 | x::xs,ys,h,hT=>by
  unfold KX at h;split at h
  · rename_i y ys' hy hys;injection h with h;subst h;have h1: ∀d∈x.names,d∈SV.names.namesL (x::xs):=fun d hd=>SV.cf TP hd;have h2: ∀d∈SV.names.namesL xs,d∈SV.names.namesL (x::xs):=fun d hd=>by
      unfold SV.names.namesL;exact TJ _ hd
    obtain⟨h3,h4,h5⟩:=Cy hr hS hys fun d hd=>hT d (h2 d hd);have hyn:y.names=[]:=by
      cases x<;>simp only[ro0,reduceCtorEq]at hy
      case tr t=>injection hy with hy;subst hy;rfl
      case own d=>
       split at hy
       ·injection hy with hy;subst hy;rfl
       ·injection hy with hy;subst hy;rfl
       ·cases hy
      case ptr cs o=>
       split at hy
       ·injection hy with hy;subst hy;assumption
       ·cases hy
      case clo f cs=>
       split at hy
       ·injection hy with hy;subst hy;assumption
       ·cases hy
    refine⟨by simp[h3],by unfold SV.names.namesL;rw[hyn,h4];rfl,fun j p q v hp hq hv=> ?_⟩;cases j with
    | zero=>
      simp at hp hq;subst hp hq;exact(RT hr hS hy (fun d hd=>hT d (h1 d hd)) hv).1
    | succ j=>exact h5 j p q v (by simpa using hp) (by simpa using hq) hv
  · cases h
theorem O1(hr:Rel c S β ν a w)(hS: ∀b,S b->Sc b){x y:SV}(h:ro1 ν x=some y)(hT:Ge w Sc β ν x.names):y.names=[]/\ ∀v,cT w S β x v->cT w Sc bz y v:=by
 have hT0: ∀d∈x.names,∀z,(d,z)∈ν.o-> ∀g,z.ba w (β d) g->Sc g:=fun d hd z hz=>(hT d hd z hz).1;have base:ro0 ν x=some y->y.names=[]/\ ∀v,cT w S β x v->cT w Sc bz y v:=by
  intro h0;have h1:KX ν [x]=some [y]:=by simp[KX,h0]
  obtain⟨_,h3,h4⟩:=Cy hr hS h1 (by
    intro d hd;simp only[SV.names.namesL,Up]at hd;exact hT0 d hd)
  simp only[SV.names.namesL,Up]at h3;exact⟨h3,fun v hv=>h4 0 x y v rfl rfl hv⟩
 cases x
 case ref d o=>
  simp only[ro1]at h;split at h
  · rename_i cs hd;rw[Tn]at h;obtain⟨ys,h1,rfl⟩:=h;have hm:=aJ hd;have hdm:d∈(SV.ref d o).names:=by simp[SV.names]
    obtain⟨h2,h3,h4⟩:=Cy hr hS h1 fun k hk z hz=>(hT d hdm _ hm).2 k hk z hz;refine⟨h3,fun v hv=> ?_⟩;cases hv with
    | ref d o g hg=>
      have ho:=hr.obj d _ hm;have hb:cN (β d)=some g:=by rw[hg];rfl
      rw[hg]at ho;cases ho with
      | box cs g us T hgg hl hh=>
       have:=cT.ptr (w:=w) (S:=Sc) (β:=bz) ys o g 0 (fun j=>us.getD j undef) (hT0 d hdm _ hm g hb) (fun j y hy=> ?_) (fun j y hy=> ?_)
       ·rwa [Ue]at this
       ·have hj:=(Tl.1 hy).1;have hx:cs[j]? =some (cs[j]'(by omega)):=Tk _;refine h4 j _ y _ hx hy (hh j _ _ hx ?_);simp[UR,show j<us.size by omega]
       ·have hj:=(Tl.1 hy).1;rw[Ue,cell_of_row w g j us T (0,0) hgg];simp[UR,show j<us.size by omega]
  · cases h
 case agg cs=>
  simp only[ro1,Tn]at h;obtain⟨ys,h1,rfl⟩:=h;obtain⟨h2,h3,h4⟩:=Cy hr hS h1 hT0;refine⟨h3,fun v hv=> ?_⟩;cases hv with
  | agg cs us hl hh=>
    refine .agg ys us (by omega) fun j y u hy hu=> ?_;have hj:=(Tl.1 hy).1;have hx:cs[j]? =some (cs[j]'(by omega)):=Tk _;exact h4 j _ y u hx hy (hh j _ u hx hu)
 all_goals exact base h
theorem G3(hr:Rel c S β ν a w)(hS: ∀b,S b->Sc b): ∀{xs ys:List SV},O0 ν xs=some ys->Ge w Sc β ν (SV.names.namesL xs)->
  ys.length=xs.length/\SV.names.namesL ys=[]/\ ∀(j:Nat) x y v,xs[j]? =some x->ys[j]? =some y->cT w S β x v->cT w Sc bz y v
 | [],ys,h,_=>by injection h with h;subst h;simp[SV.names.namesL]
 | x::xs,ys,h,hT=>by
  unfold O0 at h;split at h
  · rename_i y ys' hy hys;injection h with h;subst h;have h1: ∀d∈x.names,d∈SV.names.namesL (x::xs):=fun d hd=>SV.cf TP hd;have h2: ∀d∈SV.names.namesL xs,d∈SV.names.namesL (x::xs):=fun d hd=>by
      unfold SV.names.namesL;exact TJ _ hd
    obtain⟨h3,h4,h5⟩:=G3 hr hS hys fun d hd=>hT d (h2 d hd);obtain⟨h6,h7⟩:=O1 hr hS hy fun d hd=>hT d (h1 d hd);refine⟨by simp[h3],by unfold SV.names.namesL;rw[h6,h4];rfl,fun j p q v hp hq hv=> ?_⟩;cases j with
    | zero=>
      simp at hp hq;subst hp hq;exact h7 v hv
    | succ j=>exact h5 j p q v (by simpa using hp) (by simpa using hq) hv
  · cases h
theorem O2(hr:Rel c S β ν a w)(hS: ∀b,S b->Sc b){x y:SV}(h:ro2 ν x=some y)(hT:Ge w Sc β ν x.names):y.names=[]/\ ∀v,cT w S β x v->cT w Sc bz y v:=by
 cases x
 case clo f cs=>
  simp only[ro2,Tn]at h;obtain⟨ys,h1,rfl⟩:=h;obtain⟨h2,h3,h4⟩:=G3 hr hS h1 hT;refine⟨h3,fun v hv=> ?_⟩;cases hv with
  | clo f cs us hl hh=>
    refine .clo f ys us (by omega) fun j y u hy hu=> ?_;have hj:=(Tl.1 hy).1;have hx:cs[j]? =some (cs[j]'(by omega)):=Tk _;exact h4 j _ y u hx hy (hh j _ u hx hu)
 case mth f cs=>
  simp only[ro2,Tn]at h;obtain⟨ys,h1,rfl⟩:=h;obtain⟨h2,h3,h4⟩:=G3 hr hS h1 hT;refine⟨h3,fun v hv=> ?_⟩;cases hv with
  | mth f cs us hl hh=>
    refine .mth f ys us (by omega) fun j y u hy hu=> ?_;have hj:=(Tl.1 hy).1;have hx:cs[j]? =some (cs[j]'(by omega)):=Tk _;exact h4 j _ y u hx hy (hh j _ u hx hu)
 all_goals exact O1 hr hS h hT
theorem y5(hr:Rel c S β ν a w)(hS: ∀b,S b->Sc b): ∀{xs ys:List SV},EZ ν xs=some ys->Ge w Sc β ν (SV.names.namesL xs)->
  ys.length=xs.length/\SV.names.namesL ys=[]/\ ∀(j:Nat) x y v,xs[j]? =some x->ys[j]? =some y->cT w S β x v->cT w Sc bz y v
 | [],ys,h,_=>by injection h with h;subst h;simp[SV.names.namesL]
 | x::xs,ys,h,hT=>by
  unfold EZ at h;split at h
  · rename_i y ys' hy hys;injection h with h;subst h;have h1: ∀d∈x.names,d∈SV.names.namesL (x::xs):=fun d hd=>SV.cf TP hd;have h2: ∀d∈SV.names.namesL xs,d∈SV.names.namesL (x::xs):=fun d hd=>by
      unfold SV.names.namesL;exact TJ _ hd
    obtain⟨h3,h4,h5⟩:=y5 hr hS hys fun d hd=>hT d (h2 d hd);obtain⟨h6,h7⟩:=O2 hr hS hy fun d hd=>hT d (h1 d hd);refine⟨by simp[h3],by unfold SV.names.namesL;rw[h6,h4];rfl,fun j p q v hp hq hv=> ?_⟩;cases j with
    | zero=>
      simp at hp hq;subst hp hq;exact h7 v hv
    | succ j=>exact h5 j p q v (by simpa using hp) (by simpa using hq) hv
  · cases h
theorem Rel.more(hr:Rel c S β σ a w){w':World}(hg:dA (fun _=>False) w w'){S':Nat->Prop}(h1: ∀b,S' b->S b\/w.heap.size<=b)(h2: ∀b,S' b->b<w'.heap.size):Rel c (fun b=>S b\/S' b) β σ a w' where
 defers:=hr.defers
 size:=hr.size
 one:=hr.one
 grew:=(hr.world hg).grew
 s0 b hb:= .inl (hr.s0 b hb)
 s1 b hb:=by
  have hw:=hr.grew.size;rcases hb with hb | hb
  · exact hr.s1 b hb
  · rcases h1 b hb with h | h
    · exact hr.s1 b h
    · exact .inr (.inl (Ut hw h))
 lt b hb:=hb.elim (fun h=>Ud (hr.lt b h) hg.size) (h2 b)
 tmp i x hi:=⟨(hr.tmp i x hi).1,(hr.tmp i x hi).2.keep (fun b hb=>hg.block b (hr.lt b hb) id) fun _ h=> .inl h⟩
 obj d x hd:=(hr.obj d x hd).keep (fun b hb=>hg.block b (hb.elim (hr.lt b) fun h=>(hr.obj d x hd).lt h) id) fun _ h=> .inl h
 pin:=(hr.world hg).pin
 priv d x g hd hgb:=⟨fun hb=>by
  have hgb':x.ba w (β d) g:=((hr.obj d x hd).ba fun b hb=>hg.block b ((hr.obj d x hd).lt hb) id).1 hgb;rcases hb with hb | hb
  · exact(hr.priv d x g hd hgb').1 hb
  · rcases h1 g hb with h | h
    · exact(hr.priv d x g hd hgb').1 h
    · exact absurd ((hr.obj d x hd).lt hgb') (by omega),((hr.world hg).priv d x g hd hgb).2⟩
 apart:=(hr.world hg).apart
end
section
variable {P : Program} {c : Cx} {S : Nat -> Prop} {β : Nat -> Value} {ν σ : SS} {a : Act} {w : World}
theorem Sb{w:World}{S:Nat->Prop}{x:SV}{v:Value}(h:cT w S bz x v)(hn:x.names=[])(β:Nat->Value):cT w S β x v:=h.agree fun d hd=>by rw[hn]at hd;cases hd
def YOk(w':World)(S':Nat->Prop)(B:Nat)(nm:List Nat)(o:Value):Option SO->Prop
 | none=>nm=[]
 | some y=>o.cells= #[o]/\SO.names y=[]/\cP w' S' bz y o/\ ∀g,y.ba w' o g->B<=g/\ ¬S' g
theorem pv{d B:Nat}{S':Nat->Prop}{w':World}{av:Array Value}: ∀{rs:List SR} {xs:List SV} {y:Option SO} {us:List Value},pu d rs=some (xs,y)->us.length=rs.length->(∀(i:Nat) r u,rs[i]? =some r->us[i]? =some u->vY av w' S' B r u)->
  xs.length=us.length/\ ∃o:Value,(∀(i:Nat) x u,xs[i]? =some x->us[i]? =some u-> ∀β,cT w' S' (kt β d o) x u)/\
    YOk w' S' B (SV.names.namesL xs) o y
 | [],xs,y,us,h,hl,_=>by
  injection h with h;injection h with h1 h2;subst h1 h2;exact⟨by simpa using hl.symm,undef,by simp,rfl⟩
 | r::rs,xs,y,u::us,h,hl,hr=>by
  have hr0:=hr 0 r u rfl rfl;have hrs: ∀(i:Nat) r u,rs[i]? =some r->us[i]? =some u->vY av w' S' B r u:=fun i r' u' h1 h2=>hr (i+1) r' u' (by simpa using h1) (by simpa using h2);have hl':us.length=rs.length:=by simpa using hl
  cases r with
  | arg pl=>simp[pu]at h
  | v x=>
    simp only[pu]at h;split at h
    · rename_i xs' y' hc;injection h with h;injection h with h1 h2;subst h1 h2;obtain⟨h3,o,h4,h5⟩:=pv hc hl' hrs;refine⟨by simp[h3],o,fun i x' u' h6 h7 β=> ?_,?_⟩
      ·cases i with
       | zero=>simp at h6 h7;subst h6 h7;exact Sb hr0.2 hr0.1 _
       | succ i=>exact h4 i x' u' (by simpa using h6) (by simpa using h7) β
      ·cases y' with
       | none=>
        show SV.names.namesL (x::xs')=[];unfold SV.names.namesL;rw[hr0.1];exact h5
       | some y'=>exact h5
    · cases h
  | own e m n es=>
    simp only[pu]at h;split at h
    · rename_i xs' hc;injection h with h;injection h with h1 h2;subst h1 h2;obtain⟨h3,o,h4,h5⟩:=pv hc hl' hrs;refine⟨by simp[h3],u,fun i x' u' h6 h7 β=> ?_,?_⟩
      ·cases i with
       | zero=>
        simp at h6 h7;subst h6 h7;have:cT w' S' (kt β d u) (.own d) (kt β d u d):= .own d
        rwa [cy]at this
       | succ i=>
        have h8:SV.names.namesL xs'=[]:=h5;refine(h4 i x' u' (by simpa using h6) (by simpa using h7) β).agree fun k hk=> ?_;have:=SV.cf (Tm (by simpa using h6)) hk;rw[h8]at this;cases this
      ·refine⟨?_,rfl,hr0.1,hr0.2⟩;have:=hr0.1;cases this with
       | arr e m n es v xs hn hown he hh=>
        rcases hown.2 with⟨h1,_⟩ | ⟨g,cap,cur,h1,_⟩<;>rw[h1]<;>rfl
    · cases h
  | deep e m n ss es=>
    simp only[pu]at h;split at h
    · rename_i xs' hc;injection h with h;injection h with h1 h2;subst h1 h2;obtain⟨h3,o,h4,h5⟩:=pv hc hl' hrs;refine⟨by simp[h3],u,fun i x' u' h6 h7 β=> ?_,?_⟩
      ·cases i with
       | zero=>
        simp at h6 h7;subst h6 h7;have:cT w' S' (kt β d u) (.own d) (kt β d u d):= .own d
        rwa [cy]at this
       | succ i=>
        have h8:SV.names.namesL xs'=[]:=h5;refine(h4 i x' u' (by simpa using h6) (by simpa using h7) β).agree fun k hk=> ?_;have:=SV.cf (Tm (by simpa using h6)) hk;rw[h8]at this;cases this
      ·refine⟨?_,rfl,hr0.1,hr0.2⟩;have:=hr0.1;cases this with
       | deep _ _ _ _ _ _ h=>
        cases h with
        | sl _ _ _ _ _ _ xs hn hown=>
         rcases hown.2 with⟨h1,_⟩ | ⟨g,cap,cur,h1,_⟩<;>rw[h1]<;>rfl
    · cases h
  | part pre post y0=>
    simp only[pu]at h;split at h
    · rename_i xs' hc;injection h with h;injection h with h1 h2;subst h1 h2;obtain⟨h3,o',h4,h5⟩:=pv hc hl' hrs;obtain⟨hb1,hb2,hb3,o,hb4,hb5,hb6,hb7⟩:=hr0;refine⟨by simp[h3],o,fun i x' u' h6 h7 β=> ?_,hb4,hb3,hb6,hb7⟩;cases i with
      | zero=>
       simp at h6 h7;subst h6 h7;exact Jb hb5 (cy ..) fun x hx v hv=>hv.agree fun k hk=>by
        have hxn:x.names=[]:=(TN.1 hx).elim (GY hb1) (GY hb2);rw[hxn]at hk;cases hk
      | succ i=>
       have h8:SV.names.namesL xs'=[]:=h5;refine(h4 i x' u' (by simpa using h6) (by simpa using h7) β).agree fun k hk=> ?_;have:=SV.cf (Tm (by simpa using h6)) hk;rw[h8]at this;cases this
    · cases h
  | box cs=>
    simp only[pu]at h;split at h
    · rename_i xs' hc;injection h with h;injection h with h1 h2;subst h1 h2;obtain⟨h3,o,h4,h5⟩:=pv hc hl' hrs;obtain⟨hb1,hb2,hb3⟩:=hr0;refine⟨by simp[h3],u,fun i x' u' h6 h7 β=> ?_,?_⟩
      ·cases i with
       | zero=>
        simp at h6 h7;subst h6 h7;cases hb2 with
        | box cs g vs T hg hl hh=>exact .ref d 0 g (cy ..)
       | succ i=>
        have h8:SV.names.namesL xs'=[]:=h5;refine(h4 i x' u' (by simpa using h6) (by simpa using h7) β).agree fun k hk=> ?_;have:=SV.cf (Tm (by simpa using h6)) hk;rw[h8]at this;cases this
      ·exact⟨by cases hb2;rfl,hb1,hb2,hb3⟩
    · cases h
theorem L1{d B:Nat}{S':Nat->Prop}{w':World}{av:Array Value}{rs:List SR}{x:SV}{y:Option SO}{v:Value}(h:nY d rs=some (x,y))(hv:CG (vY av w' S' B) rs v):
  ∃o:Value,(∀β,cT w' S' (kt β d o) x v)/\YOk w' S' B x.names o y:=by
 have tup: ∀{rs:List SR} {xs:List SV} {y:Option SO},pu d rs=some (xs,y)->(∃us:Array Value,v= .tuple us/\us.size=rs.length/\ ∀(i:Nat) r u,rs[i]? =some r->us[i]? =some u->vY av w' S' B r u)->
    ∃o:Value,(∀β,cT w' S' (kt β d o) (.tup xs) v)/\YOk w' S' B (SV.tup xs).names o y:=by
  intro rs xs y hc hus;obtain⟨us,rfl,h2,h3⟩:=hus;obtain⟨h4,o,h5,h6⟩:=pv hc (us:=us.toList) (by simpa using h2) fun i r u h7 h8=>h3 i r u h7 (by simpa using h8);exact⟨o,fun β=> .tup xs us (by simpa using h4) fun i x u h7 h8=>h5 i x u h7 (by simpa using h8) β,by cases y<;>exact h6⟩
 match rs,h,hv with
 | [r],h,hv=>
  simp only[nY]at h;split at h
  · rename_i x' y' hc;injection h with h;injection h with h1 h2;subst h1 h2;obtain⟨h4,o,h5,h6⟩:=pv hc (us:=[v]) rfl fun i r' u h7 h8=>by
      cases i with
      | zero=>simp at h7 h8;subst h7 h8;exact hv
      | succ i=>simp at h7
    refine⟨o,fun β=>h5 0 x' v rfl rfl β,?_⟩;cases y' with
    | none=>
      have h7:SV.names.namesL [x']=[]:=h6;show x'.names=[];simpa [SV.names.namesL]using h7
    | some y'=>exact h6
  · cases h
 | [],h,hv=>
  simp only[nY]at h;split at h
  · rename_i xs y' hc;injection h with h;injection h with h1 h2;subst h1 h2;exact tup hc hv
  · cases h
 | r::r'::rs,h,hv=>
  simp only[nY]at h;split at h
  · rename_i xs y' hc;injection h with h;injection h with h1 h2;subst h1 h2;exact tup hc hv
  · cases h
theorem Rel.result(hr:Rel c S β σ a w){o:Oper}(hok:kf σ o=true){d:Nat}(hd: ∀k,o.dst=some k->k=d){w':World}{av:Array Value}(hg:dA (fun _=>False) w w'){S':Nat->Prop}(h1: ∀b,S' b->S b\/w.heap.size<=b)(h2: ∀b,S' b->b<w'.heap.size)
  {rs:List SR} {x:SV} {y:Option SO} {v:Value} (h:nY d rs=some (x,y)) (hf:pj (some (x,y)) o.dst σ) (hv:CG (vY av w' S' w.heap.size) rs v):eY c (σ.app o.dst (some (x,y))) (a.put o.dst v) w':=by
 obtain⟨u,h3,h4⟩:=L1 h hv;have hr':=hr.more hg h1 h2;cases hdst:o.dst with
 | none=>cases y<;>exact⟨_,_,hr'⟩
 | some k=>
  have hkd:=hd k hdst;subst hkd;have hk:k<σ.n:=by
    unfold kf at hok;rw[hdst]at hok;simpa using hok
  cases y with
  | none=>
    refine⟨_,_,Rel.put hr' hk (v:=x) (((h3 β).keep (fun _ _=>rfl) fun b hb=> .inr hb).agree fun j hj=> ?_)⟩;have h5:x.names=[]:=h4;rw[h5]at hj;cases hj
  | some y=>
    obtain⟨h5,h6,h7,h8⟩:=h4;have hfr:k∉σ.names:=hf k hdst;have h9:cP w' (fun b=>S b\/S' b) (kt β k u) y u:=(h7.keep (fun _ _=>rfl) fun b hb=> .inr hb).agree fun j hj=>by rw[h6]at hj;cases hj
    have hnew:=Rel.new hr' hfr hk h5 h9 (fun g hgb=>⟨fun hc=>by
      rcases hc with hc | hc
      ·exact absurd (hr.lt g hc) (by have:=(h8 g hgb).1;omega)
      ·exact(h8 g hgb).2 hc,Ut hr.grew.size (h8 g hgb).1,fun d' x' hm e=>by
       have:=(hr.obj d' x' hm).lt (((hr.obj d' x' hm).ba fun b hb=>hg.block b ((hr.obj d' x' hm).lt hb) id).1 e);have:=(h8 g hgb).1;omega⟩)
    exact⟨_,_,Rel.put hnew hk ((h3 β).keep (fun _ _=>rfl) fun b hb=> .inr hb)⟩
theorem KO{ops:Array Oper}{o:Oper}{fo:Operand}{args:Array Operand}{ts:Array TypeId}(ho:o.op= .call {callee:= .value fo,args:=args,argTypes:=ts})(hgd:gd ops ν o=some true)(hok:kf ν o=true)
  {f:FuncId} {caps xs ys:List SV} (hfo:ev ν fo=some (.clo f caps)) (hxs:evL ν args.toList=some xs) (hro:EZ ν (xs++caps)=some ys) (he:dH P f) {res:jM} (hc:eG P f (ys.map .v) res) (_hobj:res.objs=[])
  (hdep:res.dep=true->SV.names.namesL (xs++caps)=[]) {x:SV} {y:Option SO} (hret:nY (o.dst.getD 0) res.outs=some (x,y)):bN P ops o ν (some (x,y)):=by
 intro σ cx a w hs hf ⟨S,β,hr⟩;have hν:=hs.rel hr;unfold iQ;rw[px hν hgd,if_pos rfl]
 let Sc:Nat->Prop:=fun b=>S b\/(res.dep=false/\ ∃d x,(d,x)∈ν.o/\x.ba w (β d) b)
 have hSc: ∀b,S b->Sc b:=fun b hb=> .inl hb;have hT:Ge w Sc β ν (SV.names.namesL (xs++caps)):=by
  intro d hd z hz;have hdep':res.dep=false:=by
    cases hb:res.dep with
    | false=>rfl
    | true=>
      rw[hdep hb]at hd;cases hd
  exact⟨fun g hg=> .inr ⟨hdep',d,z,hz,hg⟩,fun k _ y hy g hg=> .inr ⟨hdep',k,y,hy,hg⟩⟩
 obtain⟨h1,h2,h3⟩:=y5 hν hSc hro hT;obtain⟨h4,h5⟩:=tM hν hxs;have hfv:=bD hν hfo;generalize hfe:a.eval fo=fv at hfv;cases hfv with
 | clo f caps vs hvl hvh=>
  have hrun:(execOp a.eval o).run P w= .ok (.enter f (args.map a.eval++vs)) w:=by
    simp only[execOp,ho,resolve,hfe,Deferred.ofValue,Sem.run_bind,Sem.run_pure,Result.andThen_ok,invoke];rw[show(#[]:Array Value)++args.map a.eval=args.map a.eval from by simp];exact he _ _
  have hlen:xs.length=args.size:=by simpa using h4
  have hcall:=hc w Sc (args.map a.eval++vs) (by simp;simp at h1;omega) (fun b hb=>by
      rcases hb with hb | ⟨_,d,z,hz,hg⟩
      ·exact hr.lt b hb
      ·exact(hν.obj d z hz).lt hg) (fun j z v hj hv=>by
      rw[Tq,Tn]at hj;obtain⟨q,hq,hj⟩:=hj;injection hj with hj;subst hj;have hjl:=(Tl.1 hq).1;have hx:(xs++caps)[j]? =some ((xs++caps)[j]'(by omega)):=Tk _;refine h3 j _ q v hx hq ?_;generalize (xs++caps)[j]'(by omega)=p at hx;by_cases hlt:j<xs.length
      ·rw[TE hlt]at hx;rw[UG (by simp;omega),U5,Tn]at hv;obtain⟨op,hop,rfl⟩:=hv;exact h5 j op p (by simpa using hop) hx
      ·rw[Ts (by omega)]at hx;rw[Vo (by simp;omega)]at hv;refine hvh (j - xs.length) p v hx ?_;simpa [hlen]using hv) (fun j z v hj=>by
      rw[Tq,Tn]at hj;obtain⟨q,_,hj⟩:=hj;cases hj) (fun i j z z' u v g hi=>by
      rw[Tq,Tn]at hi;obtain⟨q,_,hi⟩:=hi;cases hi)
  unfold Oper.wp;rw[hrun];refine(hcall (hr.xj.mono hSc)).mono fun e w' ⟨v,S',he',hg,hS1,hS2,hv,_⟩=> ?_;subst he';refine Rel.result hr (by unfold kf at*;rwa [<-hs.n]) (d:=o.dst.getD 0) (fun k hk=>by rw[hk];rfl) ⟨hg.os,hg.tape,hg.output,hg.size,fun k hk _=>hg.block k hk ?_⟩ (fun b hb=> ?_) hS2 hret hf hv
  · rintro⟨j,z,u,hj,_⟩;rw[Tq,Tn]at hj;obtain⟨q,_,hj⟩:=hj;cases hj
  · rcases hS1 b hb with⟨h6,h7⟩ | h6
    · rcases h7 with h7 | ⟨h8,_⟩
      ·exact .inl h7
      ·rw[h6]at h8;cases h8
    · exact .inr h6
theorem IY{ops:Array Oper}{o:Oper}{fo:Operand}{args:Array Operand}{ts:Array TypeId}(ho:o.op= .call {callee:= .value fo,args:=args,argTypes:=ts})(hgd:gd ops ν o=some true)(hok:kf ν o=true)
  {f:FuncId} {caps xs ys:List SV} (hfo:ev ν fo=some (.mth f caps)) (hxs:evL ν args.toList=some xs) (hro:EZ ν (caps++xs)=some ys) (he:dH P f) {res:jM} (hc:eG P f (ys.map .v) res) (_hobj:res.objs=[])
  (hdep:res.dep=true->SV.names.namesL (caps++xs)=[]) {x:SV} {y:Option SO} (hret:nY (o.dst.getD 0) res.outs=some (x,y)):bN P ops o ν (some (x,y)):=by
 intro σ cx a w hs hf ⟨S,β,hr⟩;have hν:=hs.rel hr;unfold iQ;rw[px hν hgd,if_pos rfl]
 let Sc:Nat->Prop:=fun b=>S b\/(res.dep=false/\ ∃d x,(d,x)∈ν.o/\x.ba w (β d) b)
 have hSc: ∀b,S b->Sc b:=fun b hb=> .inl hb;have hT:Ge w Sc β ν (SV.names.namesL (caps++xs)):=by
  intro d hd z hz;have hdep':res.dep=false:=by
    cases hb:res.dep with
    | false=>rfl
    | true=>
      rw[hdep hb]at hd;cases hd
  exact⟨fun g hg=> .inr ⟨hdep',d,z,hz,hg⟩,fun k _ y hy g hg=> .inr ⟨hdep',k,y,hy,hg⟩⟩
 obtain⟨h1,h2,h3⟩:=y5 hν hSc hro hT;obtain⟨h4,h5⟩:=tM hν hxs;have hfv:=bD hν hfo;generalize hfe:a.eval fo=fv at hfv;cases hfv with
 | mth f caps vs hvl hvh=>
  have hrun:(execOp a.eval o).run P w= .ok (.enter f (vs++args.map a.eval)) w:=by
    simp only[execOp,ho,resolve,hfe,Deferred.ofValue,Sem.run_bind,Sem.run_pure,Result.andThen_ok,invoke];rw[show vs++args.map a.eval++(#[]:Array Value)=vs++args.map a.eval from by simp];exact he _ _
  have hlen:xs.length=args.size:=by simpa using h4
  have hcall:=hc w Sc (vs++args.map a.eval) (by simp;simp at h1;omega) (fun b hb=>by
      rcases hb with hb | ⟨_,d,z,hz,hg⟩
      ·exact hr.lt b hb
      ·exact(hν.obj d z hz).lt hg) (fun j z v hj hv=>by
      rw[Tq,Tn]at hj;obtain⟨q,hq,hj⟩:=hj;injection hj with hj;subst hj;have hjl:=(Tl.1 hq).1;have hx:(caps++xs)[j]? =some ((caps++xs)[j]'(by omega)):=Tk _;refine h3 j _ q v hx hq ?_;generalize (caps++xs)[j]'(by omega)=p at hx;by_cases hlt:j<caps.length
      ·rw[TE hlt]at hx;rw[UG (by omega)]at hv;exact hvh j p v hx hv
      ·rw[Ts (by omega)]at hx;rw[Vo (by omega),U5,Tn]at hv;obtain⟨op,hop,rfl⟩:=hv;exact h5 (j - caps.length) op p (by simpa [hvl]using hop) hx) (fun j z v hj=>by
      rw[Tq,Tn]at hj;obtain⟨q,_,hj⟩:=hj;cases hj) (fun i j z z' u v g hi=>by
      rw[Tq,Tn]at hi;obtain⟨q,_,hi⟩:=hi;cases hi)
  unfold Oper.wp;rw[hrun];refine(hcall (hr.xj.mono hSc)).mono fun e w' ⟨v,S',he',hg,hS1,hS2,hv,_⟩=> ?_;subst he';refine Rel.result hr (by unfold kf at*;rwa [<-hs.n]) (d:=o.dst.getD 0) (fun k hk=>by rw[hk];rfl) ⟨hg.os,hg.tape,hg.output,hg.size,fun k hk _=>hg.block k hk ?_⟩ (fun b hb=> ?_) hS2 hret hf hv
  · rintro⟨j,z,u,hj,_⟩;rw[Tq,Tn]at hj;obtain⟨q,_,hj⟩:=hj;cases hj
  · rcases hS1 b hb with⟨h6,h7⟩ | h6
    · rcases h7 with h7 | ⟨h8,_⟩
      ·exact .inl h7
      ·rw[h6]at h8;cases h8
    · exact .inr h6
end
section
variable {P : Program} {tb : Tb} {ops : Array Oper} {o : Oper} {ν : SS}
theorem cg(hgd:gd ops ν o=some true)(hok:kf ν o=true){v:SV}(h: ∀c S β a w,Rel c S β ν a w->VOk P S β a w o v):bN P ops o ν (some (v,none)):=by
 intro σ c a w hs _ ⟨S,β,hr⟩;have hν:=hs.rel hr;unfold iQ;rw[px hν hgd,if_pos rfl];obtain⟨u,h1,h2⟩:=h c S β a w hν;refine lr h1 ⟨S,β,?_⟩;cases hdst:o.dst with
 | none=>exact hr
 | some d=>
  unfold kf at hok;rw[hdst]at hok;exact Rel.put hr (by rw[<-hs.n];simpa using hok) h2
theorem oL.slice{t:Nat}{i:TI}(h:oL P t i){e:Nat}(hd:i.d= .slice e):P.underlying t=some (.slice e):=by
 have:=h.d;rw[hd]at this;exact this
theorem oL.str{t:Nat}{i:TI}(h:oL P t i)(hd:i.d= .str):P.underlying t=some .string:=by
 have:=h.d;rw[hd]at this;exact this
theorem I0(hP:bm P tb){t:Nat}{x y:Operand}(ho:o.op= .indexAddr t x y)(hgd:gd ops ν o=some true)(hok:kf ν o=true){n e:Nat}{es:List (List Tr)}{k:IntKind}{i:Int}{ti tj:TI}{cs:List Tr}
  (ht:find t tb=some ti) (hd:ti.d= .slice e) (he:find e tb=some tj) (hx:ev ν x=some (.tr (.sl n es))) (hy:ev ν y=some (.tr (.int k i))) (h0:0<=i) (hi:es[i.toNat]? =some cs) (hl:cs.length=tj.size):
  bN P ops o ν (some (.ptr (cs.map .tr) 0,none)):=by
 refine cg hgd hok fun c S β a w hr=> ?_;have hv:=bD hr hx;have hw:=bD hr hy;generalize hy1:a.eval x=y1 at hv;generalize hy2:a.eval y=y2 at hw;cases hw with
 | tr _ _ hw=>cases hw with
  | int k i=>
    cases hv with
    | tr _ _ hv=>cases hv with
      | sl es A n c m u hln hc hm hes hu ha=>
       have hlt:=(Tl.1 hi).1;have hne:es≠[]:=fun h=>by subst h;simp at hi
       obtain⟨b,off,rfl,hb,hcell⟩:=ha hne;have hmm:m=tj.size:=by rw[<-hl];exact(hes cs (Tm hi)).symm
       have hu':=(bc hP ht).slice hd;refine .mk (s:=Instr.indexAt t (a.eval x) (a.eval y)) (by simp only[execOp,ho]) (u:= .pointer (some ⟨b,(off+i.toNat*m)+0,none⟩)) ?_ ?_
       ·rw[hy1,hy2];simp[Instr.indexAt,asIntOf,run_underlying hu',h0,show i<(n:Int) by omega,(bc hP he).size,Addr.add_lit,hmm]
       ·refine .ptr _ 0 b (off+i.toNat*m) (fun j=>u i.toNat j) hb (fun j z hz=> ?_) fun j z hz=> ?_
        ·rw[Tq,Tn]at hz;obtain⟨q,hq,rfl⟩:=hz;exact .tr _ _ (hu _ _ _ _ hi hq)
        ·rw[Tq,Tn]at hz;obtain⟨q,hq,rfl⟩:=hz;exact hcell _ _ _ _ hi hq
theorem BS(hP:bm P tb){t:Nat}{x y:Operand}(ho:o.op= .indexAddr t x y)(hgd:gd ops ν o=some true)(hok:kf ν o=true){n e e' d m:Nat}{es:List (List Tr)}{k:IntKind}{i:Int}{ti tj:TI}
  (ht:find t tb=some ti) (hd:ti.d= .slice e) (he:find e tb=some tj) (hx:ev ν x=some (.own d)) (hob:find d ν.o=some (.arr e' m n es)) (hy:ev ν y=some (.tr (.int k i))) (h0:0<=i) (hi:i<n) (hl:m=tj.size):
  bN P ops o ν (some (.eref d m i.toNat 0,none)):=by
 refine cg hgd hok fun c S β a w hr=> ?_;have hv:=bD hr hx;have hw:=bD hr hy;generalize hy1:a.eval x=y1 at hv;generalize hy2:a.eval y=y2 at hw;have hobj:=hr.obj d _ (aJ hob);cases hw with
 | tr _ _ hw=>cases hw with
  | int k i=>
    cases hv with
    | own d=>
      cases hobj with
      | arr e m n es v xs hn hown hes hh=>
       rcases hown.2 with⟨h1,h2⟩ | ⟨g,cap,cur,h1,_⟩
       ·omega
       ·have hu':=(bc hP ht).slice hd;refine .mk (s:=Instr.indexAt t (a.eval x) (a.eval y)) (by simp only[execOp,ho]) (u:= .pointer (some ⟨g,i.toNat*m+0,none⟩)) ?_ (.eref d m i.toNat 0 g n cap h1);rw[hy1,hy2,h1];simp[Instr.indexAt,asIntOf,run_underlying hu',h0,hi,(bc hP he).size,Addr.add_lit,hl]
theorem Dy(hP:bm P tb){t:Nat}{x:Operand}(ho:o.op= .load t x)(hgd:gd ops ν o=some true)(hok:kf ν o=true){n e d m i j:Nat}{es:List (List Tr)}{ti:TI}{cs:List Tr}{v:SV}
  (ht:find t tb=some ti) (hx:ev ν x=some (.eref d m i j)) (hob:find d ν.o=some (.arr e m n es)) (hi:es[i]? =some cs) (hl:ldc ti (cs.map .tr) j=some v):bN P ops o ν (some (v,none)):=by
 refine cg hgd hok fun c S β a w hr=> ?_;have hv:=bD hr hx;generalize hy1:a.eval x=y1 at hv;have hobj:=hr.obj d _ (aJ hob);cases hv with
 | eref d m i j g n' cp hg=>
  generalize hbd:β d=bd at hobj;rw[hg]at hbd;subst hbd;cases hobj with
  | arr e m n es v xs hn hown hes hh=>
    have hlt:=(Tl.1 hi).1;have hcs:=hes cs (Tm hi);have hxs: ∀k t,cs[k]? =some t-> ∃u,xs[i*m+k]? =some u:=by
      intro k t hk;have h2:=(Tl.1 hk).1;have h4:(i+1)*m<=n*m:=TY _ (by omega);rw[UT]at h4;have:=hown.1;exact⟨xs[i*m+k]'(by omega),Tk _⟩
    obtain⟨r,h1,h2⟩:=GS (w:=w) (S:=S) (β:=β) (g:=g) (b:=i*m) (o:=j) (u:=fun k=>xs.getD (i*m+k) undef) (bc hP ht) (cs:=cs.map .tr) (fun k z hz=>by
       rw[Tq,Tn]at hz;obtain⟨q,hq,rfl⟩:=hz;obtain⟨u,hu⟩:=hxs k q hq;rw[TL,hu];exact .tr _ _ (hh i cs k q u hi hq hu)) (fun k z hz=>by
       rw[Tq,Tn]at hz;obtain⟨q,hq,rfl⟩:=hz;obtain⟨u,hu⟩:=hxs k q hq;have h7:=hown.cells (g:=g) rfl (i*m+k) u hu;rw[Addr.add_lit,Ue]at h7;rw[h7,TL,hu];rfl) hl
    exact .mk (s:=Instr.loadAt t (a.eval x)) (by simp only[execOp,ho]) (by rw[hy1];simp[Instr.loadAt,Instr.sureAddr,h1]) h2
def sW(ν:SS):Option Operand->Option Int
 | none=>some 0
 | some x=>match ev ν x with
  | some (.tr (.int _ i))=>some i
  | _=>none
def ot(ν:SS)(n:Nat):Option Operand->Option Int
 | none=>some n
 | some x=>match ev ν x with
  | some (.tr (.int _ i))=>some i
  | _=>none
theorem qq(w':World){c:Cx}{S:Nat->Prop}{β:Nat->Value}{a:Act}{w:World}(hr:Rel c S β ν a w)(isSl:Bool){n cap:Nat}{lo hi:Option Operand}{l h:Int}(hlo:sW ν lo=some l)(hhi:ot ν n hi=some h)(h0:0<=l)(hlh:l<=h)(hn:h<=n)(hc:n<=cap):
  (Instr.sliceBounds isSl n cap (lo.map a.eval) (hi.map a.eval) none).run P w'= .ok (l.toNat,h.toNat,cap) w':=by
 have h1: ∀x i,(match ev ν x with | some (.tr (.int _ i))=>some i | _=>none)=some i-> ∃k,a.eval x= .int k i:=by
  intro x i hx;split at hx
  · rename_i k i' he;injection hx with hx;subst hx;have hv:=bD hr he;generalize a.eval x=v at hv⊢;cases hv with | tr _ _ hv=>cases hv;exact⟨_,rfl⟩
  · cases hx
 have hh:((match(hi.map a.eval)with
    | some v=>Instr.sliceBound v cap (if isSl then .sliceAcap else .sliceAlen)
    | none=>pure n:Sem Nat)).run P w'= .ok h.toNat w':=by
  cases hi with
  | none=>
    simp only[ot,Um.injEq]at hhi;subst hhi;simp
  | some x=>
    obtain⟨k,hk⟩:=h1 x h hhi;simp only[UO,hk];exact run_sliceBound w' k h cap _ (by omega) (by omega)
 have hl:((match(lo.map a.eval)with
    | some v=>Instr.sliceBound v h.toNat .sliceB
    | none=>pure 0:Sem Nat)).run P w'= .ok l.toNat w':=by
  cases lo with
  | none=>
    simp only[sW,Um.injEq]at hlo;subst hlo;simp
  | some x=>
    obtain⟨k,hk⟩:=h1 x l hlo;simp only[UO,hk];exact run_sliceBound w' k l h.toNat _ h0 (by omega)
 unfold Instr.sliceBounds;cases hi<;>cases lo<;>simp only[VO,UO,Sem.run_bind,Sem.run_pure,Result.andThen_ok,Option.isSome_none,Wu,if_false]at hh hl⊢ <;>(try rw[hh])<;>(try simp only[Result.andThen_ok])<;>(try rw[hl])<;>simp_all
theorem xA{c:Cx}{S:Nat->Prop}{β:Nat->Value}{a:Act}{w:World}(hr:Rel c S β ν a w)(isSl:Bool){n cap:Nat}{lo hi:Option Operand}{l h:Int}(hlo:sW ν lo=some l)(hhi:ot ν n hi=some h)(h0:0<=l)(hlh:l<=h)(hn:h<=n)(hc:n<=cap):
  (Instr.sliceBounds isSl n cap (lo.map a.eval) (hi.map a.eval) none).run P w= .ok (l.toNat,h.toNat,cap) w:=qq w hr isSl hlo hhi h0 hlh hn hc
theorem I1(hP:bm P tb){t:Nat}{x:Operand}{lo hi:Option Operand}(ho:o.op= .slice t x lo hi none)(hgd:gd ops ν o=some true)(hok:kf ν o=true){n e:Nat}{es es':List (List Tr)}{l h:Int}{ti tj:TI}
  (ht:find t tb=some ti) (hd:ti.d= .slice e) (he:find e tb=some tj) (hx:ev ν x=some (.tr (.sl n es))) (hlo:sW ν lo=some l) (hhi:ot ν n hi=some h) (h0:0<=l) (hlh:l<=h) (hn:h<=n)
  (hes:(es.drop l.toNat).take (h.toNat - l.toNat)=es') (hsz: ∀e∈es,e.length=tj.size) {k:Nat} (hk:k=h.toNat - l.toNat):bN P ops o ν (some (.tr (.sl k es'),none)):=by
 refine cg hgd hok fun c S β a w hr=> ?_;have hv:=bD hr hx;generalize hy1:a.eval x=y1 at hv;cases hv with
 | tr _ _ hv=>cases hv with
  | sl es A n cap m u hln hc hm hel hu ha=>
    have hb:=xA (P:=P) hr true hlo hhi h0 hlh hn hc;have hu':=(bc hP ht).slice hd;have hget: ∀(i:Nat) e,es'[i]? =some e->es[l.toNat+i]? =some e/\i<h.toNat - l.toNat:=by
      intro i e hi;rw[<-hes,Vl]at hi;split at hi
      ·exact⟨by simpa using hi,by assumption⟩
      ·cases hi
    refine .mk (s:=Instr.sliceAt t (a.eval x) (lo.map a.eval) (hi.map a.eval) none) (by simp only[execOp,ho,VO]) (u:= .slice (if cap=l.toNat then A else A.map (·.add (l.toNat*tj.size))) (h.toNat - l.toNat) (cap - l.toNat)) ?_ ?_
    · rw[hy1];simp only[Instr.sliceAt,Sem.run_bind,run_underlying hu',Result.andThen_ok,Instr.slice,hb,(bc hP he).size,Sem.run_pure]
    · subst hk;refine .tr _ _ (.sl es' _ _ _ m (fun i j=>u (l.toNat+i) j) (by rw[<-hes,TQ,Ux];omega) (by omega) (by omega) (fun e' he'=> ?_) (fun i e' j t hi hj=>hu _ _ _ _ (hget i e' hi).1 hj) fun hne=> ?_)
      ·rw[<-hes]at he';exact hel e' (List.mem_of_mem_drop (List.mem_of_mem_take he'))
      ·have hes0:es≠[]:=fun h=>by subst h;rw[<-hes]at hne;simp at hne
       obtain⟨b,off,rfl,hbS,hcell⟩:=ha hes0;obtain⟨e0,he0⟩:=List.exists_mem_of_ne_nil es hes0;have hms:m=tj.size:=by rw[<-hel e0 he0,hsz e0 he0]
       have hlt:h.toNat - l.toNat≠0:=fun h=>by
        rw[<-hes,h]at hne;simp at hne
       refine⟨b,off+l.toNat*m,?_,hbS,fun i e' j t hi hj=> ?_⟩
       ·rw[if_neg (by omega),hms];simp[Addr.add_lit]
       ·have:=hcell (l.toNat+i) e' j t (hget i e' hi).1 hj
        rwa [show off+l.toNat*m+i*m+j=off+(l.toNat+i)*m+j from by rw[UT];omega]
theorem BU(hP:bm P tb){t:Nat}{x:Operand}{lo hi:Option Operand}(ho:o.op= .slice t x lo hi none)(hgd:gd ops ν o=some true)(hok:kf ν o=true){s:ByteArray}{l h:Int}{ti:TI}
  (ht:find t tb=some ti) (hd:ti.d= .str) (hx:ev ν x=some (.tr (.str s))) (hlo:sW ν lo=some l) (hhi:ot ν s.size hi=some h) (h0:0<=l) (hlh:l<=h) (hn:h<=s.size):bN P ops o ν (some (.tr (.str (s.extract l.toNat h.toNat)),none)):=by
 refine cg hgd hok fun c S β a w hr=> ?_;have hv:=bD hr hx;generalize hy1:a.eval x=y1 at hv;cases hv with
 | tr _ _ hv=>cases hv with
  | str s hs=>
    have hb:=xA (P:=P) hr false hlo hhi h0 hlh hn (TA _);have hu':=(bc hP ht).str hd;refine .mk (s:=Instr.sliceAt t (a.eval x) (lo.map a.eval) (hi.map a.eval) none) (by simp only[execOp,ho,VO]) (u:= .string (s.extract l.toNat h.toNat)) ?_ (.tr _ _ (.str _ ?_))
    · rw[hy1];simp only[Instr.sliceAt,Sem.run_bind,run_underlying hu',Result.andThen_ok,Instr.slice,Option.isSome_none,Wu,if_false,hb,Sem.run_pure]
    · have:(s.extract l.toNat h.toNat).size<=s.size:=by
       rw[ByteArray.size_extract];omega
      omega
theorem BT(hP:bm P tb){t:Nat}{x y:Operand}(ho:o.op= .index t x y)(hgd:gd ops ν o=some true)(hok:kf ν o=true){s:ByteArray}{k:IntKind}{i:Int}{ti:TI}{b:UInt8}
  (ht:find t tb=some ti) (hd:ti.d= .str) (hx:ev ν x=some (.tr (.str s))) (hy:ev ν y=some (.tr (.int k i))) (h0:0<=i) (hb:s[i.toNat]? =some b):bN P ops o ν (some (.tr (.int .u8 b.toNat),none)):=by
 refine cg hgd hok fun c S β a w hr=> ?_;have hv:=bD hr hx;have hw:=bD hr hy;generalize hy1:a.eval x=y1 at hv;generalize hy2:a.eval y=y2 at hw;cases hw with
 | tr _ _ hw=>cases hw with
  | int k i=>cases hv with
    | tr _ _ hv=>cases hv with
      | str s hs=>
       refine .mk (s:=Instr.index t (a.eval x) (a.eval y)) (by simp only[execOp,ho]) (u:= .int .u8 b.toNat) ?_ (.tr _ _ (.int _ _));rw[hy1,hy2];simp[Instr.index,asIntOf,run_underlying ((bc hP ht).str hd),h0,hb]
theorem GV{t t':Nat}{x y:Operand}(ho:o.op= .binOp .add t x y t')(hgd:gd ops ν o=some true)(hok:kf ν o=true){s r:ByteArray}(hx:ev ν x=some (.tr (.str s)))(hy:ev ν y=some (.tr (.str r)))(hs:s.size+r.size<=9223372036854775807):
  bN P ops o ν (some (.tr (.str (s++r)),none)):=by
 refine cg hgd hok fun c S β a w hr=> ?_;have hv:=bD hr hx;have hw:=bD hr hy;have he:execOp a.eval o=(do pure (.value (<-(do eqGuard .add t x y (a.eval x) (a.eval y);binOp .add t (a.eval x) (a.eval y):Sem Value)))):=by simp only[execOp,ho]
 generalize a.eval x=y1 at hv he;generalize a.eval y=y2 at hw he;cases hv with
 | tr _ _ hv=>cases hv with
  | str s h1=>cases hw with
    | tr _ _ hw=>cases hw with
      | str r h2=>
       refine .mk he (u:= .string (s++r)) ?_ (.tr _ _ (.str _ (by rw[ByteArray.size_append];simp[maxLen];omega)));have:=run_string_add_sum (P:=P) (w:=w) s r hs;simp[eqGuard,binOp,this]
theorem KP(hP:bm P tb){t:Nat}{x y:Operand}{d:Nat}(ho:o.op= .makeSlice t x y)(hdst:o.dst=some d)(hgd:gd ops ν o=some true)(hok:kf ν o=true){e:Nat}{k k':IntKind}{n:Nat}{ti tj:TI}{zs:List Value}
  (ht:find t tb=some ti) (hd:ti.d= .slice e) (he:find e tb=some tj) (hz:iP tj.zero=some zs) (hzl:tj.zero.length=tj.size) (hpos:0<tj.size) (hx:ev ν x=some (.tr (.int k n))) (hy:ev ν y=some (.tr (.int k' n))) (hn:n<=68719476736) (hby:tj.bytes<=2048):
  bN P ops o ν (some (.own d,some (.arr e tj.size n (UH n tj.zero)))):=by
 intro σ c a w hs hf ⟨S,β,hr⟩;have hν:=hs.rel hr;unfold iQ;rw[px hν hgd,if_pos rfl];have hv:=bD hν hx;have hw:=bD hν hy;generalize hy1:a.eval x=y1 at hv;generalize hy2:a.eval y=y2 at hw;cases hw with
 | tr _ _ hw=>cases hw with
  | int k' i=>cases hv with
    | tr _ _ hv=>cases hv with
      | int k j=>
       obtain⟨q,h1,h2,h3,h4⟩:=(bc hP he).uC;obtain⟨z,h5,h6⟩:=h4 zs hz;obtain⟨h7,h8⟩:=om (w:=w) (S:=S) hz;have hzs:z.cells.size=tj.size:=by rw[<-hzl,h7,<-h6];simp
       have hnb:(q.bytes:Int)*n<=281474976710656:=by
        have:q.bytes*n<=2048*68719476736:=Nat.mul_le_mul (by omega) hn;have h9:((q.bytes*n:Nat):Int)<=281474976710656:=by omega
        rwa [Int.natCast_mul]at h9
       have hrun:=run_make (P:=P) w t e q z ((bc hP ht).slice hd) h1 h5 k k' n n (by omega) (Int.le_refl _) hnb (by omega);simp only[Int.toNat_natCast]at hrun;have hmk:(execOp a.eval o).run P w= .ok (.value (.slice (some ⟨w.heap.size,0,none⟩) n n)) (w.alloc (.cells (madeCells z.cells (n*q.size)) e)):=by
        simp only[execOp,ho,hy1,hy2,Sem.run_bind,hrun,Result.andThen_ok,Sem.run_pure]
       have hmc: ∀i,i<n*q.size->(madeCells z.cells (n*q.size))[i]? =z.cells[i % z.cells.size]? :=by
        intro i hi;have hzpos:0<z.cells.size:=by omega
        have:=Nat.mod_lt i hzpos;simp[madeCells,hi,this]
       have hn63:n<=maxLen:=by simp[maxLen];omega
       have hdn:d<σ.n:=by
        unfold kf at hok;rw[hdst]at hok;rw[<-hs.n];simpa using hok
       obtain⟨u,w',g1,g2,_⟩:=AOk.block (o:=o) hr hdst hdn (hf d hdst) (v:= .own d) (x:= .arr e tj.size n (UH n tj.zero)) (u:= .slice (some ⟨w.heap.size,0,none⟩) n n) (cs:=madeCells z.cells (n*q.size)) (T:=e) rfl rfl hmk (fun w' hw' hs'=>by
         refine .arr _ _ _ _ _ (madeCells z.cells (n*q.size)).toList (by simp) ⟨by rw[TB,size_madeCells,h2],.inr ⟨w.heap.size,n,_,rfl,Ul _,hw',TA _,hn63,by rw[size_madeCells,h2],by rw[T4 (by rw[TB,size_madeCells,h2];exact TA _)]⟩⟩ (fun x hx=>by rw[List.eq_of_mem_replicate hx,hzl]) fun i x j' t u hi hj hu=> ?_;have hxz:x=tj.zero:=List.eq_of_mem_replicate (Tm hi);subst hxz;have hin:i<n:=by simpa using(Tl.1 hi).1
         have hjl:j'<tj.size:=by rw[<-hzl];exact(Tl.1 hj).1
         have hlt:i*tj.size+j'<n*q.size:=by
          rw[h2];have:(i+1)*tj.size<=n*tj.size:=TY _ (by omega);rw[UT]at this;omega
         rw[Ub,hmc _ hlt,hzs,Vc,Nat.mul_add_mod,Vt hjl]at hu;exact(h8 j' t u hj (by rw[<-h6];simpa using hu)).keep hs' fun _ h=>h) (fun w'=>by
         have:cT w' S (kt β d (.slice (some ⟨w.heap.size,0,none⟩) n n)) (.own d) (kt β d (.slice (some ⟨w.heap.size,0,none⟩) n n) d):= .own d
         rwa [cy]at this)
       refine lr g1 ?_;rw[hdst];rw[hdst]at g2;exact g2
end
def af(P:Program)(ops:Array Oper)(o:Oper)(σ σ':SS):Prop:= ∀c a w,eY c σ a w->iQ P ops o a w fun a' w'=>eY c σ' a' w'
section
variable {P : Program} {tb : Tb} {ops : Array Oper} {o : Oper} {c : Cx} {S : Nat -> Prop} {β : Nat -> Value} {σ : SS} {a : Act} {w : World}
theorem aj.kN{rest:List Oper}{Q:SS->Prop}{σ σ':SS}(h:af P ops o σ σ')(k:aj P ops rest Q σ'):aj P ops (o::rest) Q σ:=fun c a w hr=>(h c a w hr).list fun a' w' hr'=>k c a' w' hr'
theorem aj.uI{rest:List Oper}{Q:SS->Prop}{σ:SS}{r:RV}(h:bN P ops o σ r)(hf:iS r o.dst σ=true)(k:aj P ops rest Q (σ.app o.dst r)):aj P ops (o::rest) Q σ:=aj.step h (rh hf) k
theorem Rel.Pu(hr:Rel c S β σ a w){d g:Nat}{x x':SO}(hd:(d,x)∈σ.o)(hg:x.ba w (β d) g){w':World}(hos:w'.os=w.os)(htp:w'.tape=w.tape)(hou:w'.output=w.output)(hsz:w.heap.size<=w'.heap.size)(hoth: ∀k,k<w.heap.size->k≠g->w'.heap[k]? =w.heap[k]?)
  (hx:cP w' S β x' (β d)) (hft: ∀g',x'.ba w' (β d) g'->x.ba w (β d) g':=by exact fun _ h=>h):Rel c S β {σ with o:=(d,x')::σ.o.filter (fun p=>p.1 !=d)} a w':=by
 have hpr:=hr.priv d x g hd hg;have hS: ∀b,S b->w'.heap[b]? =w.heap[b]? :=fun b hb=>hoth b (hr.lt b hb) fun e=>hpr.1 (e▸hb);have hmem: ∀{k y},(k,y)∈(d,x')::σ.o.filter (fun p=>p.1 !=d)->(k=d/\y=x')\/((k,y)∈σ.o/\k≠d):=by
  intro k y h;rcases Tx.1 h with h | h
  · injection h with h1 h2;exact .inl ⟨h1,h2⟩
  · have h2:=Tu.1 h;exact .inr ⟨h2.1,by simpa using h2.2⟩
 have hfo: ∀{k y},(k,y)∈σ.o->k≠d-> ∀b,y.ba w (β k) b->w'.heap[b]? =w.heap[b]? :=fun{k y} h1 h2 b hb=>hoth b ((hr.obj k y h1).lt hb) fun e=>h2 (hr.apart k y d x g h1 hd (e▸hb) hg);have hff: ∀{k y},(k,y)∈σ.o->k≠d-> ∀{b},y.ba w' (β k) b->y.ba w (β k) b:=fun{k y} h1 h2 {b} hb=>((hr.obj k y h1).ba (hfo h1 h2)).1 hb;refine⟨hr.defers,hr.size,hr.one,hr.grew.of (Y:=fun k=>k=g) ⟨hos,htp,hou,hsz,fun k hk hne=>hoth k hk hne⟩ (fun k hk hlt=> ?_),hr.s0,hr.s1,fun b hb=>Ud (hr.lt b hb) hsz,fun i y hi=>⟨(hr.tmp i y hi).1,(hr.tmp i y hi).2.keep hS fun _ h=>h⟩,fun k y hk=> ?_,fun j v hj=>⟨(hr.pin j v hj).1,fun y hy=> ?_⟩,fun k y g' hk hg'=> ?_,fun k y k' y' g' hk hk' hg' hg2=> ?_⟩
 ·subst hk;rcases hpr.2 with⟨_,h⟩ | ⟨_,h⟩
  · omega
  · exact h.1
 ·rcases hmem hk with⟨rfl,rfl⟩ | ⟨h1,h2⟩
  · exact hx
  · refine(hr.obj k y h1).keep (fun b hb=> ?_) fun _ h=>h;rcases hb with hb | hb
    · exact hS b hb
    · exact hfo h1 h2 b hb
 ·rcases hmem hy with⟨rfl,rfl⟩ | ⟨h1,h2⟩
  · exact(hr.pin j v hj).2 x hd
  · exact(hr.pin j v hj).2 y h1
 ·rcases hmem hk with⟨rfl,rfl⟩ | ⟨h1,h2⟩
  · exact hr.priv k x g' hd (hft g' hg')
  · exact hr.priv k y g' h1 (hff h1 h2 hg')
 ·rcases hmem hk with⟨rfl,rfl⟩ | ⟨h1,h2⟩<;>rcases hmem hk' with⟨rfl,rfl⟩ | ⟨h3,h4⟩
  · rfl
  · exact hr.apart k x k' y' g' hd h3 (hft g' hg') (hff h3 h4 hg2)
  · exact hr.apart k y k' x g' h1 hd (hff h1 h2 hg') (hft g' hg2)
  · exact hr.apart k y k' y' g' h1 h3 (hff h1 h2 hg') (hff h3 h4 hg2)
def tD(σ:SS):SV->Bool
 | .tr _ | .ref _ _ | .eref _ _ _ _ | .ptr _ _ | .clo _ _ | .mth _ _=>true
 | .own d=>match find d σ.o with
  | some (.arr ..)=>true
  | some (.deep ..)=>true
  | _=>false
 | _=>false
theorem Mi(hr:Rel c S β σ a w){x:SV}(h:tD σ x=true){v:Value}(hv:cT w S β x v):v.oneCell'=true:=by
 cases hv with
 | tr t v h=>cases h<;>rfl
 | own d=>
  simp only[tD]at h;split at h
  · rename_i e m n es hd;have:=hr.obj d _ (aJ hd);cases this with
    | arr e m n es v xs hn hown he hh=>rcases hown.2 with⟨h1,_⟩ | ⟨g,cap,cur,h1,_⟩<;>rw[h1]<;>rfl
  · rename_i e m n ss es hd;have:=hr.obj d _ (aJ hd);cases this with
    | deep _ _ _ _ _ _ h=>
      obtain⟨xs,h⟩:=h.row;rcases h.hown.2 with⟨h1,_⟩ | ⟨g,cap,cur,h1,_⟩<;>rw[h1]<;>rfl
  · cases h
 | agg=>cases h
 | tup=>cases h
 | any=>cases h
 | _=>rfl
theorem tL{σ':SS}(hgd:gd ops σ o=some true)(h: ∀c S β a w,Rel c S β σ a w->o.wp P a w (fun a' w'=>eY c σ' a' w') NoQ):af P ops o σ σ':=by
 intro c a w ⟨S,β,hr⟩;unfold iQ;rw[px hr hgd,if_pos rfl];exact h c S β a w hr
theorem JU{w':World}{K:Act->World->Prop}(h:(execOp a.eval o).run P w= .ok .skip w')(hk:K (a.put o.dst undef) w'):o.wp P a w K NoQ:=by
 unfold Oper.wp;rw[h];exact hk
theorem A9{ν:SS}(hP:bm P tb){t:Nat}{x y:Operand}(ho:o.op= .store t x y)(hdst:o.dst=none)(hgd:gd ops ν o=some true){ti:TI}{d k:Nat}{cs vs:List SV}{v:SV}(ht:find t tb=some ti)(hx:ev ν x=some (.ref d k))(hob:find d ν.o=some (.box cs))
  (hy:ev ν y=some v) (hc:v.cells=some vs) (hone:vs.all (tD ν)=true) (hl:vs.length=ti.size) (hk:k+vs.length<=cs.length):
  ∀σ c a w,Sub ν σ->eY c σ a w->iQ P ops o a w fun a' w'=>eY c (({σ with o:=(d,.box (cs.take k++vs++cs.drop (k+vs.length)))::σ.o.filter (fun p=>p.1 !=d)}:SS)) a' w':=by
 intro σ c a w hs ⟨S,β,hr⟩;have hν:=hs.rel hr;unfold iQ;rw[px hν hgd,if_pos rfl];have hv:=bD hν hx;have hw:=bD hν hy;have hm:=hs.o _ (aJ hob);have hobj:=hr.obj d _ hm;generalize hy1:a.eval x=y1 at hv;generalize hbd:β d=bd at hobj;cases hv with
 | ref d k g hg=>
  have:bd= .pointer (some ⟨g,0,none⟩):=hbd.symm.trans hg;subst this;cases hobj with
  | box cs g us T hgg hln hh=>
    obtain⟨h1,h2⟩:=SV.tE hr.one hc hw;have hfit:k+0+(a.eval y).cells.toList.length<=us.size:=by rw[TB,<-h1];omega
    have h1c: ∀u∈(a.eval y).cells.toList,u.oneCell'=true:=by
      intro u hu;obtain⟨j,hj⟩:=Uq.1 hu;have hjl:j<vs.length:=by rw[h1,<-TB];exact(Tl.1 hj).1
      have hvj:vs[j]? =some vs[j]:=Tk _;exact Mi hν (Tt.1 hone _ (Tm hvj)) (h2 j _ u hvj (by simpa using hj))
    have hst:=run_storeCells_at P g k T (a.eval y).cells.toList 0 us w hgg hfit h1c;rw[Uw]at hst;refine JU (w':=w.setRow g (us.toList.take k++(a.eval y).cells.toList++us.toList.drop (k+(a.eval y).cells.toList.length)).toArray) ?_ ?_
    · simp only[execOp,ho,Instr.storeAt,Instr.sureAddr,hy1,Sem.run_bind,Sem.run_pure,Result.andThen_ok,storeVar,(bc hP ht).size];rw[if_neg (by rw[<-h1,hl];simp)];simp only[hst,Result.andThen_ok]
    · rw[hdst];refine⟨S,β,Rel.Pu (g:=g) hr hm (by rw[hbd];rfl) rfl rfl rfl (by simp) (fun q _ hq=>setRow_other w g q _ hq) ?_⟩;rw[hbd];refine .box _ g _ T (setRow_heap w g us _ T (0,0) hgg) ?_ fun j p u hp hu=> ?_
      ·simp only[Tz,TQ,Ux,Uk,TB,<-h1];omega
      ·have hkeep: ∀{p u},cT w S β p u->cT (w.setRow g (us.toList.take k++(a.eval y).cells.toList++us.toList.drop (k+(a.eval y).cells.toList.length)).toArray) S β p u:=fun h=>h.keep (fun b hb=>setRow_other w g b _ fun e=>(hr.priv d _ g hm (by rw[hbd];rfl)).1 (e▸hb)) fun _ h=>h;rw[WH]at hu;have hlk:(cs.take k).length=k:=by rw[TQ];omega
       have hlu:(us.toList.take k).length=k:=by rw[TQ,TB];omega
       have hcl:(a.eval y).cells.toList.length=vs.length:=by rw[TB,<-h1]
       by_cases hj:j<k
       ·rw[TX,TE (by omega),T9 hj]at hp hu;exact hkeep (hh j p u hp (by simpa using hu))
       ·by_cases hj2:j<k+vs.length
        ·rw[TX,Ts (by omega),TE (by omega)]at hp hu;rw[hlk]at hp;rw[hlu]at hu;exact hkeep (h2 (j - k) p u hp (by simpa using hu))
        ·rw[Ts (by rw[Tz];omega),U7,Tz]at hp hu;rw[hlk,show k+vs.length+(j -(k+vs.length))=j from by omega]at hp;rw[hlu,hcl,show k+vs.length+(j -(k+vs.length))=j from by omega]at hu;exact hkeep (hh j p u hp (by simpa using hu))
theorem A8(hP:bm P tb){t:Nat}{x y:Operand}(ho:o.op= .store t x y)(hdst:o.dst=none)(hgd:gd ops σ o=some true){ti:TI}{d k:Nat}{cs vs:List SV}{v:SV}(ht:find t tb=some ti)(hx:ev σ x=some (.ref d k))(hob:find d σ.o=some (.box cs))
  (hy:ev σ y=some v) (hc:v.cells=some vs) (hone:vs.all (tD σ)=true) (hl:vs.length=ti.size) (hk:k+vs.length<=cs.length):
  af P ops o σ {σ with o:=(d,.box (cs.take k++vs++cs.drop (k+vs.length)))::σ.o.filter (fun p=>p.1 !=d)}:=fun c a w hr=>A9 hP ho hdst hgd ht hx hob hy hc hone hl hk σ c a w (Sub.refl σ) hr
theorem sS{ν:SS}(hP:bm P tb){t:Nat}{x y:Operand}(ho:o.op= .store t x y)(hdst:o.dst=none)(hgd:gd ops ν o=some true){ti:TI}{d e m n i j:Nat}{es:List (List Tr)}{cs ts:List Tr}{v:SV}{vs:List SV}(ht:find t tb=some ti)(hx:ev ν x=some (.eref d m i j))(hob:find d ν.o=some (.arr e m n es))
  (hy:ev ν y=some v) (hc:v.cells=some vs) (hts:trs vs=some ts) (hl:ts.length=ti.size) (hi:es[i]? =some cs) (hk:j+ts.length<=cs.length) {es':List (List Tr)} (hes:es.set i (cs.take j++ts++cs.drop (j+ts.length))=es'):
  ∀σ c a w,Sub ν σ->eY c σ a w->iQ P ops o a w fun a' w'=>eY c (({σ with o:=(d,.arr e m n es')::σ.o.filter (fun p=>p.1 !=d)}:SS)) a' w':=by
 intro σ c a w hs ⟨S,β,hr⟩;have hν:=hs.rel hr;unfold iQ;rw[px hν hgd,if_pos rfl];have hv:=bD hν hx;have hw:=bD hν hy;have hm:=hs.o _ (aJ hob);have hobj:=hr.obj d _ hm;generalize hy1:a.eval x=y1 at hv;generalize hbd:β d=bd at hobj;have hvt:=Lf hts;subst hvt;subst hes;cases hv with
 | eref d m i j g n' cp hg=>
  have:bd= .slice (some ⟨g,0,none⟩) n' cp:=hbd.symm.trans hg;subst this;cases hobj with
  | arr e m n es v xs hn hown hes hh=>
    obtain⟨h1,h2⟩:=SV.tE hr.one hc hw;simp only[TM]at h1;rcases hown.2 with⟨h3,_⟩ | ⟨g',cap,cur,h3,_,hgg,hnc,hcm,hcs,htk⟩
    · cases h3
    · injection h3 with h3 h4 h5;injection h3 with h3;injection h3 with h3;subst h3 h4 h5;have hlt:=(Tl.1 hi).1;have hcsl:=hes cs (Tm hi);have hcl:(a.eval y).cells.toList.length=ts.length:=by rw[TB,<-h1]
      have hin:(i+1)*m<=n'*m:=TY _ (by omega);have hnc':n'*m<=cp*m:=TY _ hnc;rw[UT]at hin;have hfit:i*m+j+0+(a.eval y).cells.toList.length<=cur.size:=by rw[hcl,hcs];omega
      have h1c: ∀u∈(a.eval y).cells.toList,u.oneCell'=true:=by
       intro u hu;obtain⟨q,hq⟩:=Uq.1 hu;have hql:q<ts.length:=by rw[<-hcl];exact(Tl.1 hq).1
       have:=h2 q (.tr ts[q]) u (by simp[hql]) (by simpa using hq);generalize ts[q]=tq at this;cases this with | tr _ _ h=>cases h<;>rfl
      have hst:=run_storeCells_at P g (i*m+j) e (a.eval y).cells.toList 0 cur w hgg hfit h1c;rw[Uw,hcl]at hst;refine JU (w':=w.setRow g (cur.toList.take (i*m+j)++(a.eval y).cells.toList++cur.toList.drop (i*m+j+ts.length)).toArray) ?_ ?_
      ·simp only[execOp,ho,Instr.storeAt,Instr.sureAddr,hy1,Sem.run_bind,Sem.run_pure,Result.andThen_ok,storeVar,(bc hP ht).size];rw[if_neg (by rw[<-h1,hl];simp)];simp only[hst,Result.andThen_ok]
      ·rw[hdst];refine⟨S,β,Rel.Pu (g:=g) hr hm (by rw[hbd];rfl) rfl rfl rfl (by simp) (fun q _ hq=>setRow_other w g q _ hq) ?_⟩;rw[hbd];have hxl:xs.length=n'*m:=hown.1;have hlen:(cur.toList.take (i*m+j)++(a.eval y).cells.toList++cur.toList.drop (i*m+j+ts.length)).length=cur.size:=by
        simp only[Tz,TQ,Ux,TB,<-h1];omega
       have hnew: ∀q,(cur.toList.take (i*m+j)++(a.eval y).cells.toList++cur.toList.drop (i*m+j+ts.length))[q]? =if i*m+j<=q/\q<i*m+j+ts.length then(a.eval y).cells.toList[q -(i*m+j)]? else cur.toList[q]? :=by
        intro q;have hlu:(cur.toList.take (i*m+j)).length=i*m+j:=by rw[TQ,TB];omega
        by_cases hq:q<i*m+j
        ·rw[if_neg (by omega),TX,TE (by omega),T9 hq]
        ·by_cases hq2:q<i*m+j+ts.length
         ·rw[if_pos ⟨by omega,hq2⟩,TX,Ts (by omega),TE (by omega),hlu]
         ·rw[if_neg (by omega),Ts (by rw[Tz];omega),U7,Tz,hlu,hcl,show i*m+j+ts.length+(q -(i*m+j+ts.length))=q from by omega]
       refine .arr e m n' _ _ ((cur.toList.take (i*m+j)++(a.eval y).cells.toList++cur.toList.drop (i*m+j+ts.length)).take (n'*m)) (by simp[hn]) ⟨by rw[TQ,hlen];omega,.inr ⟨g,cp,_,rfl,Ul _,setRow_heap w g cur _ e (0,0) hgg,hnc,hcm,by rw[Uk,hlen,hcs],rfl⟩⟩ (fun x hx=> ?_) fun i' x j' t u hi' hj' hu=> ?_
       ·rcases List.mem_or_eq_of_mem_set hx with hx | rfl
        ·exact hes x hx
        ·simp only[Tz,TQ,Ux];omega
       ·have hkeep: ∀{p u},TV w S p u->TV (w.setRow g (cur.toList.take (i*m+j)++(a.eval y).cells.toList++cur.toList.drop (i*m+j+ts.length)).toArray) S p u:=fun h=>h.keep (fun b hb=>setRow_other w g b _ fun e=>(hr.priv d _ g hm (by rw[hbd];rfl)).1 (e▸hb)) fun _ h=>h;rw[Vl]at hu;split at hu
        ·rename_i hq;rw[hnew]at hu;have hxs: ∀q u,q<n'*m->cur.toList[q]? =some u->xs[q]? =some u:=by
          intro q u hq hu;rw[<-htk,T9 hq];exact hu
         by_cases hii:i'=i
         ·subst hii;rw[UW (by omega)]at hi';injection hi' with hi';subst hi';have hlk:(cs.take j).length=j:=by rw[TQ];omega
          by_cases hj1:j'<j
          ·rw[if_neg (by omega)]at hu;rw[TX,TE (by omega),T9 hj1]at hj';exact hkeep (hh i' cs j' t u hi hj' (hxs _ _ hq hu))
          ·by_cases hj2:j'<j+ts.length
           ·rw[if_pos ⟨by omega,by omega⟩]at hu;rw[TX,Ts (by omega),TE (by omega),hlk]at hj';have:=h2 (j' - j) (.tr t) u (by simp[hj']) (by rw[<-Ub,<-hu];congr 1;omega);cases this with | tr _ _ h=>exact hkeep h
           ·rw[if_neg (by omega)]at hu;rw[Ts (by rw[Tz];omega),U7,Tz,hlk,show j+ts.length+(j' -(j+ts.length))=j' from by omega]at hj';exact hkeep (hh i' cs j' t u hi hj' (hxs _ _ hq hu))
         ·rw[Wd (Ne.symm hii)]at hi';have hj'l:j'<m:=by rw[<-hes x (Tm hi')];exact(Tl.1 hj').1
          have hno: ¬(i*m+j<=i'*m+j'/\i'*m+j'<i*m+j+ts.length):=by
           rintro⟨q1,q2⟩;rcases Nat.lt_or_gt_of_ne hii with h | h
           ·have:(i'+1)*m<=i*m:=TY _ h;rw[UT]at this;omega
           ·have:(i+1)*m<=i'*m:=TY _ h;rw[UT]at this;omega
          rw[if_neg hno]at hu;exact hkeep (hh i' x j' t u hi' hj' (hxs _ _ hq hu))
        ·cases hu
theorem Bz(hP:bm P tb){t:Nat}{x y:Operand}(ho:o.op= .store t x y)(hdst:o.dst=none)(hgd:gd ops σ o=some true){ti:TI}{d e m n i j:Nat}{es:List (List Tr)}{cs ts:List Tr}{v:SV}{vs:List SV}(ht:find t tb=some ti)(hx:ev σ x=some (.eref d m i j))(hob:find d σ.o=some (.arr e m n es))
  (hy:ev σ y=some v) (hc:v.cells=some vs) (hts:trs vs=some ts) (hl:ts.length=ti.size) (hi:es[i]? =some cs) (hk:j+ts.length<=cs.length) {es':List (List Tr)} (hes:es.set i (cs.take j++ts++cs.drop (j+ts.length))=es'):
  af P ops o σ {σ with o:=(d,.arr e m n es')::σ.o.filter (fun p=>p.1 !=d)}:=fun c a w hr=>sS hP ho hdst hgd ht hx hob hy hc hts hl hi hk hes σ c a w (Sub.refl σ) hr
end
end Go.Proofs.YtbdbpakffniboaaGreatDoor.Sh
