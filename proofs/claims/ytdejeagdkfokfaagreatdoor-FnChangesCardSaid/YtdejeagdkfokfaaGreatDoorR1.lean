/- From the reading of the arguments to shadows, and what the row of a law asks, where the law's typed form answers true; no condition. -/
import Derived.Test.YtdejeagdkfokfaaGreatDoorSB
import Derived.ProofKit
import Derived.OpenShut
import Derived.Deep.Slices
namespace Go.Proofs.YtdejeagdkfokfaaGreatDoor.Sh
open Go.RowKit Go.ChangeShapes Go.WideShapes Go.ChangeAt Go.Deep
theorem own:ownKnob Tryz.prog.godebug=none:=by kernel_rfl
theorem laidOut:laidOutB Tryz.prog=true:=by kernel_rfl
def qU(w:World):Nat→Prop:=fun b=>b<w.heap.size
def z8(P:Program)(t:TypeId){α:Type}(f:α→List Tr)(ok:α→Prop):Prop:=
 ∀(H:Type) (enc:TypeId×Value→H) (w:World) (fuel:Nat) (cs:List Value) (x:DataW H×List MemPlace),
  DataW.trod enc P w 0 (fun _=>true) true fuel t cs=some x→ ∃a:α,ok a∧(f a).length=cs.length∧ ∀(j:Nat) tr u,(f a)[j]? =some tr→cs[j]? =some u→TV w (qU w) tr u
def Fh(n:Int):Prop:=0≤n∧n<256
section
variable {P : Program} {t e : TypeId}
theorem xu{w:World}{tr:Tr}{u:Value}(h:TV w (qU w) tr u): ∀(j:Nat) tr' u',[tr][j]? =some tr'→[u][j]? =some u'→TV w (qU w) tr' u':=by
 intro j tr' u' h1 h2
 cases j with
 | zero=>simp at h1 h2;subst h1 h2;exact h
 | succ j=>simp at h1
theorem Bc(ht:P.underlying t=some (.int .u8)):z8 P t (eI .u8) Fh:=by
 intro H enc w fuel cs x h
 obtain⟨n,rfl,_,hw⟩:=DataW.trod_int ht h
 have:=bounds_u8 hw
 exact⟨n,⟨by omega,by omega⟩,rfl,xu (.int _ _)⟩
theorem DZ{w:World}{b o:Nat}{s:Option Nat}{v:Value}(h:w.cell? ⟨b,o,s⟩=some v):b<w.heap.size∧s=none:=by
 unfold World.cell? at h
 split at h
 ·rename_i hh
  refine⟨(Array.getElem?_eq_some_iff.1 hh).1,?_⟩
  split at h
  ·cases h
  ·rename_i hs
   cases s
   ·rfl
   ·simp at hs
 ·cases h
theorem yy{α:Type}{p:Nat→α→Prop}: ∀n:Nat,(∀i,i<n→ ∃a,p i a)→ ∃L:List α,L.length=n∧ ∀i a,L[i]? =some a→p i a
 | 0,_=>⟨[],rfl,fun i a h=>by simp at h⟩
 | n+1,h=>by
  obtain⟨L,hL,hp⟩:=yy n (fun i hi=>h i (by omega))
  obtain⟨a,ha⟩:=h n (by omega)
  refine⟨L++[a],by simp[hL],fun i b hb=> ?_⟩
  rcases Nat.lt_or_ge i L.length with hi | hi
  ·rw[List.getElem?_append_left hi]at hb
   exact hp i b hb
  ·rw[List.getElem?_append_right hi]at hb
   have:i - L.length=0:=by
    rcases Nat.eq_zero_or_pos (i - L.length)with h0 | h0
    ·exact h0
    ·rw[List.getElem?_eq_none (by rw[List.length_singleton];omega)]at hb;cases hb
   rw[this]at hb
   simp only[List.getElem?_cons_zero,Option.some.injEq]at hb
   subst hb
   rw[show i=n from by omega]
   exact ha
theorem wu{α:Type}{f:α→List Tr}{ok:α→Prop}{m:Nat}(ht:P.underlying t=some (.slice e))(hC:P.cellsOf e=m)(hp:0<m)(hm: ∀a,(f a).length=m)(ho:z8 P e f ok):z8 P t (eL f) (fun L=>L.length≤maxLen∧ ∀x∈L,ok x):=by
 intro H enc w fuel cs x h
 rcases open_slice ht h with⟨rfl,_⟩ | ⟨a,len,cap,mm,n,D,Pl,rfl,hb,hl,hm1,hmm,hx,hi⟩
 ·exact⟨[],⟨by simp,by simp⟩,rfl,xu (.sl [] none 0 0 m (fun _ _=>default) rfl (Nat.le_refl _) (by simp[maxLen]) (by simp) (fun i x j t hi=>by simp at hi) (by simp))⟩
 ·have hm':mm=cap:=by simpa using hmm
  subst hm'
  have hel: ∀i,i<len→ ∃y:α,ok y∧ ∃ds:List Value,ds.length=m∧(∀(j:Nat) tr u,(f y)[j]? =some tr→ds[j]? =some u→TV w (qU w) tr u)∧ ∀j u,ds[j]? =some u→w.cell? ((a.add (i*m)).add j)=some u:=by
   intro i hil
   obtain⟨cs',hc,ht'⟩:=hi i (by omega)
   obtain⟨y,hy,hr,htv⟩:=ho H enc w n cs' _ ht'
   obtain⟨_,hcl,hat⟩:=World.cells?_some hc
   rw[hC]at hat hcl
   refine⟨y,hy,cs',hcl,htv,fun j u hu=> ?_⟩
   rw[hat j (by have:=(List.getElem?_eq_some_iff.1 hu).1;omega)]
   exact hu
  obtain⟨L,hL,hLp⟩:=yy len hel
  refine⟨L,⟨by omega,fun y hy=> ?_⟩,rfl,xu ?_⟩
  ·obtain⟨k,hk⟩:=List.mem_iff_getElem?.1 hy
   exact(hLp k y hk).1
  ·have hgo: ∀(i:Nat) x (j:Nat) t,(L.map f)[i]? =some x→x[j]? =some t→ ∃u,w.cell? ((a.add (i*m)).add j)=some u∧TV w (qU w) t u:=by
    intro i x j t hi hj
    rw[List.getElem?_map,Option.map_eq_some_iff]at hi
    obtain⟨y,hy,rfl⟩:=hi
    obtain⟨_,ds,h1,h2,h3⟩:=hLp i y hy
    have hjl:j<ds.length:=by rw[h1,←hm y];exact(List.getElem?_eq_some_iff.1 hj).1
    exact⟨ds[j],h3 j _ (List.getElem?_eq_getElem _),h2 j t _ hj (List.getElem?_eq_getElem _)⟩
   have hlen:L.length=len:=hL
   rw[hlen]
   refine .sl (L.map f) (some a) len mm m (fun i j=>(w.cell? ((a.add (i*m)).add j)).getD default) (by simp[hL]) hl hm1 (fun x hx=> ?_) (fun i x j t hi hj=> ?_) fun hne=> ?_
   ·obtain⟨y,_,rfl⟩:=List.mem_map.1 hx
    exact hm y
   ·obtain⟨u,h1,h2⟩:=hgo i x j t hi hj
    rw[h1]
    exact h2
   ·have h0:0<(L.map f).length:=List.length_pos_iff.2 hne
    have hx0:(L.map f)[0]? =some ((L.map f)[0]):=List.getElem?_eq_getElem _
    have hl0:0<((L.map f)[0]).length:=by rw[List.getElem_map,hm];exact hp
    obtain⟨u,h1,_⟩:=hgo 0 _ 0 _ hx0 (List.getElem?_eq_getElem hl0)
    obtain⟨b,o,s⟩:=a
    rw[Nat.zero_mul]at h1
    simp only[Addr.add,if_true]at h1
    obtain⟨hlt,rfl⟩:=DZ h1
    refine⟨b,o,rfl,hlt,fun i x j t hi hj=> ?_⟩
    obtain⟨u,h2,_⟩:=hgo i x j t hi hj
    rw[Addr.add_lit,Addr.add_lit]at h2
    rw[Addr.add_lit,Addr.add_lit,h2]
    rfl
theorem Bn{w:World}: ∀(j:Nat) x v,([]:List SV)[j]? =some x→([]:List Value)[j]? =some v→cM w (qU w) bz x v:=fun j x v h=>by simp at h
theorem zK{w:World}{x:SV}{v:Value}{xs:List SV}{vs:List Value}(h:cM w (qU w) bz x v)(k: ∀(j:Nat) x v,xs[j]? =some x→vs[j]? =some v→cM w (qU w) bz x v): ∀(j:Nat) x' v',(x::xs)[j]? =some x'→(v::vs)[j]? =some v'→cM w (qU w) bz x' v':=by
 intro j x' v' h1 h2
 cases j with
 | zero=>simp at h1 h2;subst h1 h2;exact h
 | succ j=>exact k j x' v' (by simpa using h1) (by simpa using h2)
theorem zI{k:FuncId}{ins:List SV}{vs:List Value}{W:World}(h:aR P k (ins.map .v) ⟨[.v (.tr (.bool true))],[],false⟩)(hs:vs.length=ins.length)(hv: ∀(j:Nat) x v,ins[j]? =some x→vs[j]? =some v→cM W (qU W) bz x v)(hgl:lN (qU W) W:=by refine⟨?_,?_,?_⟩<;>(intro p hp;cases hp)):
  Calls P k vs.toArray W fun e W'=>e= .returned (.bool true)∧Below W.heap.size W W':=by
 have hno: ∀(j:Nat) x,(ins.map gE.v)[j]? =some (gE.o x)→False:=fun j x hj=>by
  rw[List.getElem?_map,Option.map_eq_some_iff]at hj
  obtain⟨q,_,hq⟩:=hj
  cases hq
 have:=h W (qU W) vs.toArray (by simpa using hs) (fun b hb=>hb) (fun j x v hj hv'=>by
  rw[List.getElem?_map,Option.map_eq_some_iff]at hj
  obtain⟨q,hq,hj⟩:=hj
  injection hj with hj
  subst hj
  exact hv j q v hq (by simpa using hv')) (fun j x v hj=>(hno j x hj).elim) (fun i j x y u v g hi=>(hno i x hi).elim) hgl
 refine this.mono fun e W' ⟨v,S',he,hg,_,_,hv,_⟩=> ?_
 subst he
 have h1:o0 vs.toArray W' S' W.heap.size (.v (.tr (.bool true))) v:=hv
 obtain⟨_,h2⟩:=h1
 cases h2 with | tr _ _ h2=>cases h2 with | bool=>
 refine⟨rfl,hg.os,hg.tape,hg.output,hg.size,fun k hk=>hg.block k hk ?_⟩
 rintro⟨j,x,u,hj,_⟩
 exact hno j x hj
theorem oy{H:Type}{enc:TypeId×Value→H}{W W':World}(hl:laidOutB P=true)(hb:Below W.heap.size W W'){sp:Nat→Bool}:
  ∀{ts:List TypeId} {vs:List Value} {ds:List (DataW H)} {ps:List MemPlace},(∀t∈ts,P.readableRec t=true∧t<P.types.size)→DataW.TrodAll enc P W 0 (fun _=>true) true ts vs ds ps→
  (∀x∈ps,x.block<W.heap.size)→(∀p∈ps,sp p.block=true)→DataW.TrodAll enc P W' 0 sp true ts vs ds ps
 | [],vs,ds,ps,_,h,_,_=>by
  obtain⟨rfl,rfl,rfl⟩:=trodAll_nil h
  exact trodAll_mk0
 | t::ts,vs,ds,ps,hts,h,hlt,hsp=>by
  obtain⟨v,vs',d,ds',p,q,rfl,rfl,rfl,h1,h2⟩:=trodAll_cons h
  refine trodAll_cons_mk (WideElems.Trod_stays hl (hts t (by simp)).1 (hts t (by simp)).2 h1 (fun x hx=>hb.same (hlt x (by simp[hx]))) (fun x hx=>hsp x (by simp[hx])))
   (oy hl hb (fun u hu=>hts u (by simp[hu])) h2 (fun x hx=>hlt x (by simp[hx])) (fun x hx=>hsp x (by simp[hx])))
end
theorem AW{H:Type}{enc:TypeId×Value→H}{P:Program}{f:Func}{s:ChangeSpec}{W W':World}{args:Array Value}{v:Value}{ds gs:List (DataW H)}{before p q:List MemPlace}{tb:TypeId}
  (hW:DataW.Whole enc P f.params.toList s.vars false W args.toList ds gs before) (hl:laidOutB P=true) (hts: ∀t∈f.params.toList,P.readableRec t=true∧t<P.types.size)
  (hA:DataW.TrodAll enc P W 0 (fun _=>true) true f.params.toList args.toList ds p) (hq:q=[]) (hbef:before=p++q) (hb:Below W.heap.size W W')
  (hr:f.resultTypes= #[tb]) (ht:P.underlying tb=some .bool) (hv:v= .bool true) (h1:(s.fn H (ds++gs)).results=[.lit (.bool true)]) (h2:(s.fn H (ds++gs)).args=ds)
  (hvars: ∀sp:Nat→Bool,(∀p∈before,sp p.block=true)→DataW.TrodVars enc P W' sp s.vars (s.fn H (ds++gs)).vars []):
  s.post enc P f false true false false W args v W':=by
 have hlt: ∀x∈before,x.block<W.heap.size:=fun x hx=>hW.lt x hx
 subst hv hq
 have hsp: ∀x∈before,(fun b=>decide (b<W.heap.size)) x.block=true:=fun x hx=>by simpa using hlt x hx
 refine⟨ds,gs,before,[],p,[],hW,?_,?_,hvars _ hsp,hb.frame _,fun h=>by cases h⟩
 ·rw[h1,hr]
  exact trodAll_mk1 (shut_bool ht _)
 ·rw[h2]
  exact oy hl hb hts hA (fun x hx=>hlt x (by rw[hbef];simp[hx])) (fun x hx=>hsp x (by rw[hbef];simp[hx]))
end Go.Proofs.YtdejeagdkfokfaaGreatDoor.Sh
