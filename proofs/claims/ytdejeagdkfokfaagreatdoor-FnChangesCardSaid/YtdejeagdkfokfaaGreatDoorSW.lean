/- Calls that are handed values which name objects, change these objects, and give values which name objects (methods of worlds and desks; results with several slices of their own). -/
import Derived.Test.YtdejeagdkfokfaaGreatDoorSH
namespace Go.Proofs.YtdejeagdkfokfaaGreatDoor.Sh
open Go.RowKit
def kQ(P:Program)(f:FuncId)(args:List SV)(os os':List (Nat×SO))(outs:List SV):Prop:=
 ∀(w:World) (S:Nat→Prop) (β:Nat→Value) (vs:Array Value),vs.size=args.length→(∀b,S b→b<w.heap.size)→(∀d,(β d).cells= #[β d])→
  (∀(j:Nat) x v,args[j]? =some x→vs[j]? =some v→cM w S β x v)→
  (∀d x,(d,x)∈os→cP w S β x (β d))→(∀d x g,(d,x)∈os→x.bm w (β d) g→ ¬S g)→
  (∀d x d' x' g,(d,x)∈os→(d',x')∈os→x.bm w (β d) g→x'.bm w (β d') g→d=d')→lN S w→
  Calls P f vs w fun e w'=> ∃(β':Nat→Value) (us:List Value),e= .returned (tt us)∧(us.length=outs.length∧ ∀(i:Nat) x u,outs[i]? =some x→us[i]? =some u→cM w' (fun _=>False) β' x u)∧(∀d,d<3000000→β' d=β d)∧(∀d,(β' d).cells= #[β' d])∧dC (fun g=> ∃d x,(d,x)∈os∧x.bm w (β d) g) w w'∧
   (∀d x,(d,x)∈os'→cP w' (fun _=>False) β' x (β' d)∧ ∀g,x.bm w' (β' d) g→((∃d0 x0,(d0,x0)∈os∧x0.bm w (β d0) g∧(d<3000000→d0<3000000))∨(3000000≤d∧w.heap.size≤g)))∧
   ∀d x d' x' g,(d,x)∈os'→(d',x')∈os'→x.bm w' (β' d) g→x'.bm w' (β' d') g→d=d'
section
variable {P : Program}
theorem wR{f:FuncId}{fn:Func}{code:Code}(hf:P.funcs[f]? =some fn)(hb:fn.body=some code){rs:List ResultVar}(hr:fn.results=rs.toArray){args outs:List SV}{os os':List (Nat×SO)}(hn:args.length≤fn.ntmps)(hn2:fn.ntmps≤1999999)(hos: ∀p∈os,(fn.ntmps≤p.1∧p.1<1999999)∨3000000≤p.1)(hsm:((∀p∈os,p.1<3000000→pz p.2=true)∧ ∀p∈os',p.1<3000000→pz p.2=true)∨ ∀p∈os,p.1<3000000)(hnm: ∀p∈os',(p.1<3000000→ ∃x,(p.1,x)∈os)∧ ∀k∈p.2.names,∃x,(k,x)∈os')(hon: ∀x∈outs,x.Flat∧ ∀k∈x.names,∃y,(k,y)∈os')(hfl: ∀p∈os',oZ p.2)
  (h:swp P code (fun e σ=>(e= .normal∨e= .ret)∧(∀p∈os',p∈σ.o)∧rs.length=outs.length∧ ∀(i:Nat) t x,rs[i]? =some t→outs[i]? =some x→Holds P σ x t) ⟨fn.ntmps,args.zipIdx.map (fun p=>(p.2,p.1)),os⟩):kQ P f args os os' outs:=by
 intro w S β vs hsz hlt hone hv ho hpriv hap hgl
 refine calls_of_wp hf hb ?_
 have hget: ∀(j:Nat) v,vs[j]? =some v→(vs++Array.replicate (fn.ntmps - vs.size) undef).getD j undef=v:=by
  intro j v hj
  rw[Array.getD_eq_getD_getElem?,Array.getElem?_append_left (Array.getElem?_eq_some_iff.1 hj).1,hj]
  rfl
 let pin:List (Nat×Value):=(1999999,undef)::(os.filter (fun p=>decide (p.1<3000000))).map (fun p=>(p.1,β p.1))
 have hpin: ∀d v,(d,v)∈pin↔(d=1999999∧v=undef)∨((∃x,(d,x)∈os)∧d<3000000∧v=β d):=by
  intro d v
  constructor
  ·intro hm
   rcases List.mem_cons.1 hm with hm | hm
   ·injection hm with h1 h2
    exact .inl ⟨h1,h2⟩
   ·obtain⟨p,hp,e⟩:=List.mem_map.1 hm
    have hp:=List.mem_filter.1 hp
    injection e with e1 e2
    subst e1
    exact .inr ⟨⟨p.2,hp.1⟩,by simpa using hp.2,e2.symm⟩
  ·rintro(⟨rfl,rfl⟩ | ⟨⟨x,hx⟩,hd,rfl⟩)
   ·exact List.mem_cons_self
   ·exact List.mem_cons_of_mem _ (List.mem_map.2 ⟨(d,x),List.mem_filter.2 ⟨hx,by simpa using hd⟩,rfl⟩)
 let bm:Nat→Nat→Prop:=fun d g=>(∃x,(d,x)∈os∧d<1999999∧x.bm w (β d) g)∨(d=1999999∧ ∃d0 x,(d0,x)∈os∧3000000≤d0∧x.bm w (β d0) g)
 have hfoot: ∀{d g},bm d g→ ∃d0 x,(d0,x)∈os∧x.bm w (β d0) g:=fun{d g} h=>by
  rcases h with⟨x,h1,_,h2⟩ | ⟨_,d0,x,h1,_,h2⟩
  ·exact⟨_,x,h1,h2⟩
  ·exact⟨_,x,h1,h2⟩
 have hrel:Rel ⟨w,S,pin,bm,fun d v hd=>by
   rcases(hpin d v).1 hd with⟨rfl,_⟩ | ⟨⟨x,hx⟩,hd3,_⟩
   ·omega
   ·rcases hos _ hx with h | h
    ·have:=h.2
     omega
    ·have h:3000000≤d:=h
     omega,hgl,fun p hp ⟨j',v',_,h4⟩=>by
   obtain⟨d0,x,h5,h6⟩:=hfoot h4
   exact hpriv d0 x p h5 h6 (hgl.mem hp)⟩ S β ⟨fn.ntmps,args.zipIdx.map (fun p=>(p.2,p.1)),os⟩ ⟨vs++Array.replicate (fn.ntmps - vs.size) undef,[]⟩ w:=by
  refine⟨rfl,by simp[hsz];omega,hone,dC.refl _ _,fun _ h=>h,fun _ h=> .inl h,hlt,fun j x hj=> ?_,fun d x hd=>ho d x hd,fun d v hd=> ?_,fun d x g hd hg=> ?_,fun d x d' x' g hd hd' hg hg'=>hap d x d' x' g hd hd' hg hg'⟩
  ·obtain⟨⟨y,i⟩,h1,h2⟩:=List.mem_map.1 hj
   injection h2 with h2 h3
   subst h2 h3
   have h1:=dh.1 h1
   have hlt':=(List.getElem?_eq_some_iff.1 h1).1
   have hv1:vs[i]? =some (vs[i]'(by omega)):=Array.getElem?_eq_getElem _
   refine⟨by simp;omega,?_⟩
   rw[hget i _ hv1]
   exact hv i y _ h1 hv1
  ·rcases(hpin d v).1 hd with⟨rfl,_⟩ | ⟨⟨x,hx⟩,hd3,rfl⟩
   ·refine⟨hn2,fun x hx=> ?_⟩
    rcases hos _ hx with h | h
    ·have:=h.2
     omega
    ·have h:(3000000:Nat)≤1999999:=h
     omega
   ·rcases hos _ hx with h | h
    ·exact⟨h.1,fun _ _=>rfl⟩
    ·have h:3000000≤d:=h
     omega
  ·refine⟨hpriv d x g hd hg,.inr ?_⟩
   rcases hos _ hd with h | h
   ·have h2:d<1999999:=h.2
    exact⟨h.1,d,β d,(hpin d _).2 (.inr ⟨⟨x,hd⟩,by omega,rfl⟩),.inl ⟨x,hd,h2,hg⟩⟩
   ·have h:3000000≤d:=h
    exact⟨by show fn.ntmps≤d;omega,1999999,undef,(hpin _ _).2 (.inl ⟨rfl,rfl⟩),.inr ⟨rfl,d,x,hd,h,hg⟩⟩
 refine wp_mono (h _ _ _ ⟨S,β,hrel⟩) fun e a w' ⟨σ,⟨he,hfin,hrl,hres⟩,S2,β2,hr2⟩=> ?_
 let β':Nat→Value:=fun d=>if d<3000000 then β d else β2 d
 have hβ: ∀d x,(d,x)∈os'→β' d=β2 d:=fun d x hd=>by
  show(if d<3000000 then β d else β2 d)=β2 d
  split
  ·rename_i h3
   obtain⟨y,hy⟩:=(hnm _ hd).1 h3
   exact((hr2.pin d (β d) ((hpin d _).2 (.inr ⟨⟨y,hy⟩,h3,rfl⟩))).2 x (hfin _ hd)).symm
  ·rfl
 have hpost: ∃v,(results fn a.tmps).run P w'= .ok v w'∧ ∃(β':Nat→Value) (us:List Value),Ending.returned v= .returned (tt us)∧(us.length=outs.length∧ ∀(i:Nat) x u,outs[i]? =some x→us[i]? =some u→cM w' (fun _=>False) β' x u)∧(∀d,d<3000000→β' d=β d)∧(∀d,(β' d).cells= #[β' d])∧dC (fun g=> ∃d x,(d,x)∈os∧x.bm w (β d) g) w w'∧
   (∀d x,(d,x)∈os'→cP w' (fun _=>False) β' x (β' d)∧ ∀g,x.bm w' (β' d) g→((∃d0 x0,(d0,x0)∈os∧x0.bm w (β d0) g∧(d<3000000→d0<3000000))∨(3000000≤d∧w.heap.size≤g)))∧
   ∀d x d' x' g,(d,x)∈os'→(d',x')∈os'→x.bm w' (β' d) g→x'.bm w' (β' d') g→d=d':=by
  obtain⟨us,hul,hus⟩: ∃us:List Value,us.length=rs.length∧ ∀(i:Nat) t x u,rs[i]? =some t→outs[i]? =some x→us[i]? =some u→(lF a.tmps t).run P w'= .ok u w'∧cM w' S2 β2 x u:=by
   have hch: ∀i:Nat,∃u,∀t x,rs[i]? =some t→outs[i]? =some x→(lF a.tmps t).run P w'= .ok u w'∧cM w' S2 β2 x u:=by
    intro i
    rcases ht:rs[i]? with _ | t
    ·exact⟨undef,fun t r h=>by simp at h⟩
    ·rcases hrr:outs[i]? with _ | x
     ·exact⟨undef,fun t r _ h=>by simp at h⟩
     ·obtain⟨u,h1,h2⟩:=kZ hr2 (hres i t x ht hrr)
      exact⟨u,fun t' r' h3 h4=>by injection h3 with h3;injection h4 with h4;subst h3 h4;exact⟨h1,h2⟩⟩
   obtain⟨f,hf⟩:=Classical.axiomOfChoice hch
   refine⟨(List.range rs.length).map f,by simp,fun i t r u h1 h2 h3=> ?_⟩
   rw[List.getElem?_map,List.getElem?_range (List.getElem?_eq_some_iff.1 h1).1]at h3
   injection h3 with h3
   subst h3
   exact hf i t r h1 h2
  have hread: ∀(i:Nat) t u,rs[i]? =some t→us[i]? =some u→(lF a.tmps t).run P w'= .ok u w':=fun i t u h1 h2=>by
   have hlt:=(List.getElem?_eq_some_iff.1 h1).1
   exact(hus i t (outs[i]'(by omega)) u h1 (List.getElem?_eq_getElem _) h2).1
  refine⟨tt us,qQ hr hul hread,β',us,rfl,⟨by omega,fun i x u h1 h2=> ?_⟩,fun d hd=>if_pos hd,fun d=> ?_,?_,fun d x hd=> ?_,fun d x d' x' g hd hd' hg hg'=>hr2.apart d x d' x' g (hfin _ hd) (hfin _ hd') (by rw[←hβ d x hd];exact hg) (by rw[←hβ d' x' hd'];exact hg')⟩
  ·have hlt:=(List.getElem?_eq_some_iff.1 h2).1
   refine((hus i (rs[i]'(by omega)) x u (List.getElem?_eq_getElem _) h1 h2).2.free (hon x (List.mem_of_getElem? h1)).1).agree fun k hk=> ?_
   obtain⟨y,hy⟩:=(hon x (List.mem_of_getElem? h1)).2 k hk
   exact hβ k y hy
  ·show(if d<3000000 then β d else β2 d).cells= #[if d<3000000 then β d else β2 d]
   split
   ·exact hone d
   ·exact hr2.one d
  ·have hg:=hr2.grew
   refine⟨hg.os,hg.tape,hg.output,hg.size,fun k hk hx=>hg.block k hk fun hX=>hx ?_⟩
   obtain⟨j,_,_,h4⟩:=hX
   exact hfoot h4
  ·have h1:=hfin _ hd
   have h4:=hβ d x hd
   have h5:=hr2.obj d x h1
   rw[h4]
   refine⟨(h5.free (hfl _ hd)).agree fun k hk=> ?_,fun g hg=> ?_⟩
   ·obtain⟨y,hy⟩:=(hnm _ hd).2 k hk
    exact hβ k y hy
   ·have h6:=hr2.priv d x g h1 hg
    by_cases hd3:d<3000000
    ·obtain⟨y,hy⟩:=(hnm _ hd).1 hd3
     rcases hsm with hsm | hsm
     ·refine .inl ⟨d,y,hy,?_,fun _=>hd3⟩
      rw[sI (hsm.1 _ hy hd3)]
      have h7:=(sI (hsm.2 _ hd hd3)).1 hg
      rw[←h4,show β' d=β d from if_pos hd3]at h7
      exact h7
     ·rcases h6.2 with⟨h7,_⟩ | ⟨_,j,v,_,h8⟩
      ·have h9:=(hr2.pin d (β d) ((hpin d _).2 (.inr ⟨⟨y,hy⟩,hd3,rfl⟩))).1
       omega
      ·obtain⟨d0,x0,h10,h11⟩:=hfoot h8
       exact .inl ⟨d0,x0,h10,h11,fun _=>hsm _ h10⟩
    ·rcases h6.2 with⟨_,h7⟩ | ⟨_,j,v,h8,h9⟩
     ·exact .inr ⟨by omega,h7⟩
     ·obtain⟨d0,x0,h10,h11⟩:=hfoot h9
      exact .inl ⟨d0,x0,h10,h11,fun h=>absurd h hd3⟩
 obtain⟨v,h1,h2⟩:=hpost
 rcases he with rfl | rfl
 ·exact⟨hr2.defers,v,h1,h2⟩
 ·exact⟨hr2.defers,v,h1,h2⟩
variable {ops : Array Oper} {o : Oper} {σ : SS}
def Dn(ρ:Nat→Nat):List SV→SV
 | [x]=>x.mp ρ
 | xs=> .tup (SV.mp.mpL ρ xs)
theorem Dp{w:World}{S:Nat→Prop}{β:Nat→Value}{ρ:Nat→Nat}{outs:List SV}{us:List Value}(hl:us.length=outs.length)(h: ∀(i:Nat) x u,outs[i]? =some x→us[i]? =some u→cM w S (fun d=>β (ρ d)) x u):cM w S β (Dn ρ outs) (tt us):=by
 have htup:cM w S β (.tup (SV.mp.mpL ρ outs)) (.tuple us.toArray):=by
  refine .tup _ _ (by rw[iN];simpa using hl.symm) fun j c v hc hv=> ?_
  rw[nS,Option.map_eq_some_iff]at hc
  obtain⟨c0,h1,rfl⟩:=hc
  exact u9 (h j c0 v h1 (by simpa using hv))
 match us,outs,hl,htup with
 | [u],[x],_,_=>exact u9 (h 0 x u rfl rfl)
 | [],[],_,htup=>exact htup
 | u::u'::us,x::x'::xs,_,htup=>exact htup
theorem xN{fo:Operand}{args:Array Operand}{ts:Array TypeId}(ho:o.op= .call {callee:= .value fo,args:=args,argTypes:=ts})(hgd:gd ops σ o=some true)(hok:jK σ o=true)
  {f:FuncId} {caps xs zs outs:List SV} {os os' os2:List (Nat×SO)} (hfo:ev σ fo=some (.clo f caps)) (hxs:evL σ args.toList=some xs) (he:bg P f) (hc:kQ P f zs os os' outs) (ρ:Nat→Nat) (hlen:zs.length=xs.length+caps.length)
  (hA: ∀(c:Cx) (S Sc:Nat→Prop) (β:Nat→Value) (a:Act) (w:World),Rel c S β σ a w→(∀b,S b→Sc b)→(∀d z g,(d,z)∈σ.o→(∀p∈os,ρ p.1≠d)→z.bm w (β d) g→Sc g)→ ∀(j:Nat) x y v,(xs++caps)[j]? =some x→zs[j]? =some y→cM w S β x v→cM w Sc (fun d=>β (ρ d)) y v)
  (hO: ∀p∈os,∃z,(ρ p.1,z)∈σ.o∧(∀(w:World) (S:Nat→Prop) (β:Nat→Value) v,cP w S β z v→cP w S (fun d=>β (ρ d)) p.2 v)∧ ∀(w:World) v g,p.2.bm w v g→z.bm w v g)
  (hinj: ∀p∈os,∀q∈os,ρ p.1=ρ q.1→p.1=q.1) (hinj': ∀p∈os',∀q∈os',ρ p.1=ρ q.1→p.1=q.1) (hkey: ∀p∈os',p.1<3000000→ ∃x,(p.1,x)∈os)
  (hO2: ∀q∈os2,∃p∈os',q.1=ρ p.1∧(∀(w:World) (S:Nat→Prop) (β:Nat→Value) v,cP w S (fun d=>β (ρ d)) p.2 v→cP w S β q.2 v)∧ ∀(w:World) v g,q.2.bm w v g→p.2.bm w v g)
  (hnm: ∀p∈os',∀k,k=p.1∨k∈p.2.names→(3000000≤k∧ ∃y,(k,y)∈os')∨(k<3000000∧ ∀q∈os',3000000≤q.1→ρ q.1≠ρ k))
  (hon: ∀x∈outs,∀k∈x.names,(3000000≤k∧ ∃y,(k,y)∈os')∨(k<3000000∧ ∀q∈os',3000000≤q.1→ρ q.1≠ρ k))
  {t':List (Nat×SV)} (ht': ∀p∈t',p∈σ.t)
  (hfr:(∀p∈t',∀q∈os',3000000≤q.1→ρ q.1∉p.2.names)∧ ∀p∈σ.o.filter (fun p=> !(os.any fun q=>ρ q.1==p.1)),∀q∈os',3000000≤q.1→ρ q.1≠p.1∧ρ q.1∉p.2.names)
  (hside:((∀p∈os,ρ p.1<σ.n)∧ ∀p∈os',ρ p.1<σ.n∨3000000≤ρ p.1)∨((∀p∈os,σ.n≤ρ p.1∧(p.1<3000000→ρ p.1<3000000))∧ ∀p∈os',σ.n≤ρ p.1∧(3000000≤p.1→3000000≤ρ p.1))):
  ar P ops o σ (SS.app ⟨σ.n,t',os2++σ.o.filter (fun p=> !(os.any fun q=>ρ q.1==p.1))⟩ o.dst (some (Dn ρ outs,none))):=by
 intro cx a w ⟨S,β,hr⟩
 unfold iR
 rw[l4 hr hgd,if_pos rfl]
 obtain⟨h4,h5⟩:=oD hr hxs
 have hfv:=bH hr hfo
 generalize hfe:a.eval fo=fv at hfv
 cases hfv with
 | clo f caps vs hvl hvh=>
  have hrun:(execOp a.eval o).run P w= .ok (.enter f (args.map a.eval++vs)) w:=by
   simp only[execOp,ho,resolve,hfe,Deferred.ofValue,Sem.run_bind,Sem.run_pure,Result.andThen_ok,invoke]
   rw[show(#[]:Array Value)++args.map a.eval=args.map a.eval from by simp]
   exact he _ _
  have hxl:xs.length=args.size:=by simpa using h4
  have hval: ∀(j:Nat) p v,(xs++caps)[j]? =some p→(args.map a.eval++vs)[j]? =some v→cM w S β p v:=by
   intro j p v hp hv
   by_cases hlt:j<xs.length
   ·rw[List.getElem?_append_left hlt]at hp
    rw[Array.getElem?_append_left (by simp;omega),Array.getElem?_map,Option.map_eq_some_iff]at hv
    obtain⟨op,hop,rfl⟩:=hv
    exact h5 j op p (by simpa using hop) hp
   ·rw[List.getElem?_append_right (by omega)]at hp
    rw[Array.getElem?_append_right (by simp;omega)]at hv
    refine hvh (j - xs.length) p v hp ?_
    simpa [hxl]using hv
  have hsz:(args.map a.eval++vs).size=zs.length:=by simp;omega
  have hfz: ∀d x,(d,x)∈os→ ∀g,x.bm w (β (ρ d)) g→ ∃z,(ρ d,z)∈σ.o∧z.bm w (β (ρ d)) g:=fun d x hd g hg=>by
   obtain⟨z,hz,_,h7⟩:=hO _ hd
   exact⟨z,hz,h7 _ _ _ hg⟩
  let Sc:Nat→Prop:=fun b=>S b∨ ∃d z,(d,z)∈σ.o∧(∀p∈os,ρ p.1≠d)∧z.bm w (β d) b
  have hSc: ∀b,S b→Sc b:=fun b hb=> .inl hb
  have hcall:=hc w Sc (fun d=>β (ρ d)) (args.map a.eval++vs) hsz (fun b hb=>by
    rcases hb with hb | ⟨d,z,hz,_,hg⟩
    ·exact hr.lt b hb
    ·exact(hr.obj d z hz).lt hg) (fun d=>hr.one (ρ d)) (fun j y v hy hv=>by
    have hjl:=(List.getElem?_eq_some_iff.1 hy).1
    have hx:(xs++caps)[j]? =some ((xs++caps)[j]'(by simp;omega)):=List.getElem?_eq_getElem _
    exact hA cx S Sc β a w hr hSc (fun d z g hz hn hg=> .inr ⟨d,z,hz,hn,hg⟩) j _ y v hx hy (hval j _ v hx hv)) (fun d x hd=>by
    obtain⟨z,hz,h6,_⟩:=hO _ hd
    exact(h6 w S β _ (hr.obj _ z hz)).keep (fun _ _=>rfl) hSc) (fun d x g hd hg=>by
    obtain⟨z,hz,h6⟩:=hfz d x hd g hg
    rintro(h7 | ⟨d',z',hz',hn,h7⟩)
    ·exact(hr.priv _ z g hz h6).1 h7
    ·exact hn _ hd (hr.apart _ z _ z' g hz hz' h6 h7)) (fun d x d' x' g hd hd' hg hg'=>by
    obtain⟨z,hz,h6⟩:=hfz d x hd g hg
    obtain⟨z',hz',h6'⟩:=hfz d' x' hd' g hg'
    exact hinj _ hd _ hd' (hr.apart _ z _ z' g hz hz' h6 h6')) (hr.se.mono hSc)
  unfold Oper.wp
  rw[hrun]
  refine hcall.mono fun e w' ⟨βc,us,he',⟨hul,hus⟩,hβc,hβ1,hg,hob,hapt⟩=> ?_
  subst he'
  let β2:Nat→Value:=fun d=>match os'.find? (fun p=>decide (3000000≤p.1)&&(ρ p.1==d))with
   | some p=>βc p.1
   | none=>β d
  have hsame: ∀{k},(∀q∈os',3000000≤q.1→ρ q.1≠k)→β2 k=β k:=fun{k} h=>by
   show(match os'.find? (fun p=>decide (3000000≤p.1)&&(ρ p.1==k))with | some p=>βc p.1 | none=>β k)=β k
   rw[List.find?_eq_none.2 fun q hq=> ?_]
   intro h2
   rw[Bool.and_eq_true]at h2
   exact h q hq (by simpa using h2.1) (by simpa using h2.2)
  have hfree: ∀{k y},(k,y)∈os'→3000000≤k→β2 (ρ k)=βc k:=fun{k y} hk h3=>by
   show(match os'.find? (fun p=>decide (3000000≤p.1)&&(ρ p.1==ρ k))with | some p=>βc p.1 | none=>β (ρ k))=βc k
   rcases hfd:os'.find? (fun p=>decide (3000000≤p.1)&&(ρ p.1==ρ k))with _ | q
   ·have:=List.find?_eq_none.1 hfd _ hk
    simp[h3]at this
   ·have h1:=List.find?_some hfd
    have h2:=List.mem_of_find?_eq_some hfd
    rw[Bool.and_eq_true]at h1
    rw[hfd]
    show βc q.1=βc k
    rw[hinj' q h2 _ hk (by simpa using h1.2)]
  have hβ3: ∀k,((3000000≤k∧ ∃y,(k,y)∈os')∨(k<3000000∧ ∀q∈os',3000000≤q.1→ρ q.1≠ρ k))→β2 (ρ k)=βc k:=fun k hk=>by
   rcases hk with⟨h6,y,h7⟩ | ⟨h6,h7⟩
   ·exact hfree h7 h6
   ·rw[hβc k h6]
    exact hsame h7
  have hβ2: ∀p∈os',∀k,k=p.1∨k∈p.2.names→β2 (ρ k)=βc k:=fun p hp k hk=>hβ3 k (hnm p hp k hk)
  have hSk: ∀b,S b→w'.heap[b]? =w.heap[b]? :=fun b hb=>hg.block b (hr.lt b hb) fun⟨d,x,hd,hf⟩=>by
   obtain⟨z,hz,h6⟩:=hfz d x hd b hf
   exact(hr.priv _ z b hz h6).1 hb
  have hout: ∀{k y},(k,y)∈σ.o.filter (fun p=> !(os.any fun q=>ρ q.1==p.1))→(k,y)∈σ.o∧(∀p∈os,ρ p.1≠k)∧(∀q∈os',3000000≤q.1→ρ q.1≠k)∧ ∀q∈os',3000000≤q.1→ρ q.1∉y.names:=fun{k y} h=>by
   have h2:=List.mem_filter.1 h
   refine⟨h2.1,fun p hp e=> ?_,fun q hq h3=>(hfr.2 _ h q hq h3).1,fun q hq h3=>(hfr.2 _ h q hq h3).2⟩
   have h3:(os.any fun q=>ρ q.1==k)=true:=List.any_eq_true.2 ⟨p,hp,by simpa using e⟩
   have h4:=h2.2
   simp only[h3,Bool.not_true]at h4
   cases h4
  have hfo': ∀{k y},(k,y)∈σ.o→(∀p∈os,ρ p.1≠k)→ ∀b,y.bm w (β k) b→w'.heap[b]? =w.heap[b]? :=fun{k y} h1 h2 b hb=>hg.block b ((hr.obj k y h1).lt hb) fun⟨d,x,hd,hf⟩=>by
   obtain⟨z,hz,h6⟩:=hfz d x hd b hf
   exact h2 _ hd (hr.apart _ z k y b hz h1 h6 hb)
  have hff: ∀{k y},(k,y)∈σ.o→(∀p∈os,ρ p.1≠k)→ ∀{b},y.bm w' (β k) b→y.bm w (β k) b:=fun{k y} h1 h2 {b} hb=>((hr.obj k y h1).bm (hfo' h1 h2)).1 hb
  have hwas: ∀{k y},(k,y)∈os2→ ∃p∈os',k=ρ p.1∧β2 k=βc p.1∧cP w' S β2 y (β2 k)∧ ∀g,y.bm w' (β2 k) g→p.2.bm w' (βc p.1) g∧((∃d0 x0 z0,(d0,x0)∈os∧(ρ d0,z0)∈σ.o∧z0.bm w (β (ρ d0)) g∧(p.1<3000000→d0<3000000))∨(3000000≤p.1∧w.heap.size≤g)):=fun{k y} h=>by
   obtain⟨p,hp,hk1,h6,h7⟩:=hO2 _ h
   obtain⟨h8,h9⟩:=hob p.1 p.2 hp
   have hk1:k=ρ p.1:=hk1
   subst hk1
   have e1:=hβ2 p hp p.1 (.inl rfl)
   refine⟨p,hp,rfl,e1,?_,fun g hgf=> ?_⟩
   ·rw[e1]
    exact h6 _ _ _ _ ((h8.keep (fun _ _=>rfl) fun _ h=>h.elim).agree fun k hk=>hβ2 p hp k (.inr hk))
   ·rw[e1]at hgf
    have h11:=h9 g (h7 _ _ _ hgf)
    refine⟨h7 _ _ _ hgf,?_⟩
    rcases h11 with⟨d0,x0,h11,h12,h13⟩ | h11
    ·obtain⟨z,hz,h14⟩:=hfz d0 x0 h11 g h12
     exact .inl ⟨d0,x0,z,h11,hz,h14,h13⟩
    ·exact .inr h11
  have hw:=hr.grew.size
  have hpin2: ∀j v,(j,v)∈cx.pin→ ∀q∈os',3000000≤q.1→ρ q.1≠j:=fun j v hj q hq h3 e=>by
   have h6:=(hr.pin j v hj).1
   have h7:=cx.lt j v hj
   rcases hside with⟨_,h⟩ | ⟨_,h⟩
   ·have:=h q hq
    omega
   ·have:=(h q hq).2 h3
    omega
  have hr2:Rel cx S β2 ⟨σ.n,t',os2++σ.o.filter (fun p=> !(os.any fun q=>ρ q.1==p.1))⟩ a w':=by
   refine⟨hr.defers,hr.size,fun k=> ?_,hr.grew.of hg (fun k hX hlt=> ?_),hr.s0,hr.s1,fun b hb=>Nat.lt_of_lt_of_le (hr.lt b hb) hg.size,fun i y hi=>⟨(hr.tmp i y (ht' _ hi)).1,((hr.tmp i y (ht' _ hi)).2.keep hSk fun _ h=>h).agree fun d hd=>hsame fun q hq h3 e=>hfr.1 _ hi q hq h3 (e▸hd)⟩,fun k y hk=> ?_,fun j v hj=>⟨(hr.pin j v hj).1,fun y hy=> ?_⟩,fun k y g' hk hg'=> ?_,fun k y k' y' g' hk1 hk2 hg1 hg2=> ?_⟩
   ·have hcell: ∀z:Option (Nat×SO),(match z with | some p=>βc p.1 | none=>β k).cells= #[match z with | some p=>βc p.1 | none=>β k]:=fun z=>by
     cases z with
     | none=>exact hr.one k
     | some p=>exact hβ1 _
    exact hcell _
   ·obtain⟨d,x,hd,hf⟩:=hX
    obtain⟨z,hz,h6⟩:=hfz d x hd k hf
    rcases(hr.priv _ z k hz h6).2 with⟨_,h⟩ | ⟨_,h⟩
    ·omega
    ·exact h
   ·rcases List.mem_append.1 hk with hk | hk
    ·obtain⟨_,_,_,_,h6,_⟩:=hwas hk
     exact h6
    ·obtain⟨h1,h2,h3,h4⟩:=hout hk
     rw[hsame h3]
     refine((hr.obj k y h1).keep (fun b hb=> ?_) fun _ h=>h).agree fun d hd=>hsame fun q hq h5 e=>h4 q hq h5 (e▸hd)
     rcases hb with hb | hb
     ·exact hSk b hb
     ·exact hfo' h1 h2 b hb
   ·rw[hsame (hpin2 j v hj)]
    rcases List.mem_append.1 hy with hy | hy
    ·obtain⟨p,hp,hj1,_,_⟩:=hwas hy
     have hp3:p.1<3000000:=by
      rcases Nat.lt_or_ge p.1 3000000 with h | h
      ·exact h
      ·exact absurd hj1.symm (hpin2 j v hj p hp h)
     obtain⟨x,hx⟩:=hkey p hp hp3
     obtain⟨z,hz,_⟩:=hO _ hx
     have hz:(ρ p.1,z)∈σ.o:=hz
     rw[←hj1]at hz
     exact(hr.pin j v hj).2 z hz
    ·exact(hr.pin j v hj).2 y (hout hy).1
   ·rcases List.mem_append.1 hk with hk | hk
    ·obtain⟨p,hp,hj1,_,_,h7⟩:=hwas hk
     obtain⟨_,h9⟩:=h7 g' hg'
     rcases h9 with⟨d0,x0,z0,h9,h10,h11,h3m⟩ | ⟨h9,h10⟩
     ·refine⟨(hr.priv _ z0 g' h10 h11).1,?_⟩
      have h12:=(hr.priv _ z0 g' h10 h11).2
      show((k<σ.n∨3000000≤k)∧cx.w0.heap.size≤g')∨(σ.n≤k∧cx.X g')
      rcases hside with⟨hs,hs2⟩ | ⟨hs,hs2⟩
      ·have e1:ρ d0<σ.n:=hs (d0,x0) h9
       have e2:=hs2 p hp
       rcases h12 with⟨_,h13⟩ | ⟨h13,_⟩
       ·exact .inl ⟨by rw[hj1];exact e2,h13⟩
       ·omega
      ·have e1:=hs (d0,x0) h9
       have e2:=hs2 p hp
       have e1':σ.n≤ρ d0:=e1.1
       rcases h12 with⟨h14,h13⟩ | ⟨_,h13⟩
       ·rcases Nat.lt_or_ge p.1 3000000 with h15 | h15
        ·have e3:ρ d0<3000000:=e1.2 (h3m h15)
         omega
        ·exact .inl ⟨.inr (by rw[hj1];exact e2.2 h15),h13⟩
       ·exact .inr ⟨by rw[hj1];exact e2.1,h13⟩
     ·refine⟨fun h=>absurd (hr.lt g' h) (by omega),?_⟩
      show((k<σ.n∨3000000≤k)∧cx.w0.heap.size≤g')∨(σ.n≤k∧cx.X g')
      refine .inl ⟨?_,Nat.le_trans hw h10⟩
      rw[hj1]
      rcases hside with⟨_,h⟩ | ⟨_,h⟩
      ·exact h p hp
      ·exact .inr ((h p hp).2 h9)
    ·obtain⟨h1,h2,h3,_⟩:=hout hk
     rw[hsame h3]at hg'
     exact hr.priv k y g' h1 (hff h1 h2 hg')
   ·have hmix: ∀{k y k' y'},(k,y)∈os2→(k',y')∈σ.o.filter (fun p=> !(os.any fun q=>ρ q.1==p.1))→y.bm w' (β2 k) g'→y'.bm w' (β2 k') g'→False:=fun{k y k' y'} h1 h2 h3 h4=>by
     obtain⟨_,_,_,_,_,h7⟩:=hwas h1
     obtain⟨_,h8⟩:=h7 g' h3
     obtain⟨h12,h13,h14,_⟩:=hout h2
     rw[hsame h14]at h4
     rcases h8 with⟨d0,x0,z0,h9,h10,h11,_⟩ | ⟨_,h8⟩
     ·exact h13 _ h9 (hr.apart _ z0 k' y' g' h10 h12 h11 (hff h12 h13 h4))
     ·have:=(hr.obj k' y' h12).lt (hff h12 h13 h4)
      omega
    rcases List.mem_append.1 hk1 with hk1 | hk1<;>rcases List.mem_append.1 hk2 with hk2 | hk2
    ·obtain⟨p,hp,e1,_,_,h7⟩:=hwas hk1
     obtain⟨q,hq,e2,_,_,h8⟩:=hwas hk2
     rw[e1,e2,hapt p.1 p.2 q.1 q.2 g' hp hq (h7 g' hg1).1 (h8 g' hg2).1]
    ·exact(hmix hk1 hk2 hg1 hg2).elim
    ·exact(hmix hk2 hk1 hg2 hg1).elim
    ·obtain⟨h1,h2,h3,_⟩:=hout hk1
     obtain⟨h4,h5,h6,_⟩:=hout hk2
     rw[hsame h3]at hg1
     rw[hsame h6]at hg2
     exact hr.apart k y k' y' g' h1 h4 (hff h1 h2 hg1) (hff h4 h5 hg2)
  have hret:cM w' S β2 (Dn ρ outs) (tt us):=Dp hul fun i x u h1 h2=>((hus i x u h1 h2).keep (fun _ _=>rfl) fun _ h=>h.elim).agree fun k hk=>hβ3 k (hon x (List.mem_of_getElem? h1) k hk)
  cases hdst:o.dst with
  | none=>exact⟨_,_,hr2⟩
  | some k=>
   refine⟨_,_,Rel.put hr2 ?_ hret⟩
   unfold jK at hok
   rw[hdst]at hok
   simpa using hok
def xG(σ:SS):List Bool→List SV→List (Option SV)
 | true::fl,x::xs=>ro2 σ x::xG σ fl xs
 | false::fl,x::xs=>some x::xG σ fl xs
 | _,_=>[]
def xI(ρ:Nat→Nat):List Bool→List SV→List (Option SV)
 | true::fl,z::zs=>some z::xI ρ fl zs
 | false::fl,z::zs=>some (z.mp ρ)::xI ρ fl zs
 | _,_=>[]
def thB(σ:SS)(ks:List Nat)(l:List Nat):Bool:=l.all fun k=> !ks.contains k&&σ.o.all fun p=>p.1 !=k || p.2.names.all fun q=> !ks.contains q
def thA(σ:SS)(ks:List Nat):List Bool→List SV→Bool
 | true::fl,x::xs=>thB σ ks x.names&&thA σ ks fl xs
 | false::fl,_::xs=>thA σ ks fl xs
 | _,_=>true
theorem args_at{σ:SS}{ρ:Nat→Nat}{ks:List Nat}: ∀{fl:List Bool} {xs zs:List SV},xG σ fl xs=xI ρ fl zs→Nat.beq xs.length fl.length=true→Nat.beq zs.length fl.length=true→thA σ ks fl xs=true→ ∀(j:Nat) x z,xs[j]? =some x→zs[j]? =some z→(x=z.mp ρ)∨(ro2 σ x=some z∧thB σ ks x.names=true)
 | [],[],_,_,_,_,_=>fun j x z h=>by simp at h
 | true::fl,x0::xs,z0::zs,h,h1,h2,h3=>fun j x z hx hz=>by
  have h3:(thB σ ks x0.names&&thA σ ks fl xs)=true:=h3
  rw[Bool.and_eq_true]at h3
  have h:ro2 σ x0::xG σ fl xs=some z0::xI ρ fl zs:=h
  injection h with h4 h5
  match j with
  | 0=>
   injection hx with hx
   injection hz with hz
   subst hx hz
   exact .inr ⟨h4,h3.1⟩
  | j+1=>exact args_at h5 h1 h2 h3.2 j x z hx hz
 | false::fl,x0::xs,z0::zs,h,h1,h2,h3=>fun j x z hx hz=>by
  have h:some x0::xG σ fl xs=some (z0.mp ρ)::xI ρ fl zs:=h
  injection h with h4 h5
  match j with
  | 0=>
   injection hx with hx
   injection hz with hz
   subst hx hz
   injection h4 with h4
   exact .inl h4
  | j+1=>exact args_at h5 h1 h2 h3 j x z hx hz
def rho(l:List (Nat×Nat))(k:Nat):Nat:=match find k l with
 | some x=>x
 | none=>k
def kOk(ρ:Nat→Nat)(os':List (Nat×SO))(k:Nat):Bool:=bif Nat.ble 3000000 k then os'.any (fun q=>q.1==k)else os'.all fun q=> !(Nat.ble 3000000 q.1) || !(ρ q.1==ρ k)
def wOk(ρ:Nat→Nat)(σ:SS)(os os':List (Nat×SO))(outs:List SV):Bool:=
 ((os.all fun p=>os.all fun q=> !(ρ p.1==ρ q.1) || p.1==q.1)&&os'.all fun p=>os'.all fun q=> !(ρ p.1==ρ q.1) || p.1==q.1)&&
 ((os'.all fun p=>Nat.ble 3000000 p.1 || os.any fun q=>q.1==p.1)&&(os'.all fun p=>(p.1::p.2.names).all (kOk ρ os'))&&outs.all fun x=>x.names.all (kOk ρ os'))&&
 ((σ.o.filter (fun p=> !(os.any fun q=>ρ q.1==p.1))).all fun p=>os'.all fun q=> !(Nat.ble 3000000 q.1) || (!(ρ q.1==p.1)&& !p.2.names.contains (ρ q.1)))&&
 (((os.all fun p=>Nat.blt (ρ p.1) σ.n)&&os'.all fun p=>Nat.blt (ρ p.1) σ.n || Nat.ble 3000000 (ρ p.1)) || ((os.all fun p=>Nat.ble σ.n (ρ p.1)&&(Nat.ble 3000000 p.1 || Nat.blt (ρ p.1) 3000000))&&os'.all fun p=>Nat.ble σ.n (ρ p.1)&&(Nat.blt p.1 3000000 || Nat.ble 3000000 (ρ p.1))))
theorem AS{ρ:Nat→Nat}{os':List (Nat×SO)}{k:Nat}(h:kOk ρ os' k=true):(3000000≤k∧ ∃y,(k,y)∈os')∨(k<3000000∧ ∀q∈os',3000000≤q.1→ρ q.1≠ρ k):=by
 unfold kOk at h
 cases hb:Nat.ble 3000000 k with
 | true=>
  rw[hb]at h
  obtain⟨q,hq,e⟩:=List.any_eq_true.1 h
  have e:q.1=k:=by simpa using e
  exact .inl ⟨Nat.le_of_ble_eq_true hb,q.2,by rw[←e];exact hq⟩
 | false=>
  rw[hb]at h
  refine .inr ⟨?_,fun q hq h3 e=> ?_⟩
  ·rcases Nat.lt_or_ge k 3000000 with h1 | h1
   ·exact h1
   ·rw[Nat.ble_eq_true_of_le h1]at hb
    cases hb
  ·have h1:=List.all_eq_true.1 h q hq
   rw[Nat.ble_eq_true_of_le h3]at h1
   simp[e]at h1
theorem wno{ρ:Nat→Nat}{os':List (Nat×SO)}{f:Nat→Bool}{q:Nat×SO}(h:os'.all (fun q=> !(Nat.ble 3000000 q.1) || f q.1)=true)(hq:q∈os')(h3:3000000≤q.1):f q.1=true:=by
 have h1:=List.all_eq_true.1 h q hq
 rw[Nat.ble_eq_true_of_le h3]at h1
 simpa using h1
def wcT(ρ:Nat→Nat)(σ:SS)(os':List (Nat×SO)):List (Nat×SV):=σ.t.filter fun p=>os'.all fun q=> !(Nat.ble 3000000 q.1) || !p.2.names.contains (ρ q.1)
def wcS(ρ:Nat→Nat)(σ:SS)(o:Oper)(os os':List (Nat×SO))(outs:List SV):SS:=SS.app ⟨σ.n,wcT ρ σ os',os'.map (fun p=>(ρ p.1,p.2.mp ρ))++σ.o.filter (fun p=> !(os.any fun q=>ρ q.1==p.1))⟩ o.dst (some (Dn ρ outs,none))
def ud(σ:SS)(o:Oper)(f:FuncId):Option (List SV):=match o.op with
 | .call {callee:= .value fo,args:=args,argTypes:=_}=>match ev σ fo,evL σ args.toList with
  | some (.clo f' caps),some xs=>bif Nat.beq f' f then some (xs++caps)else none
  | _,_=>none
 | _=>none
theorem BQ{f:FuncId}{zs:List SV}(h:ud σ o f=some zs): ∃fo args ts caps xs,o.op= .call {callee:= .value fo,args:=args,argTypes:=ts}∧evL σ args.toList=some xs∧ev σ fo=some (.clo f caps)∧zs=xs++caps:=by
 unfold ud at h
 split at h
 ·rename_i fo args ts hop
  split at h
  ·rename_i f' caps xs h1 h2
   cases hb:Nat.beq f' f with
   | true=>
    rw[hb]at h
    injection h with h
    have:=Nat.eq_of_beq_eq_true hb
    subst this
    exact⟨fo,args,ts,caps,xs,hop,h2,h1,h.symm⟩
   | false=>
    rw[hb]at h
    cases h
  ·cases h
 ·cases h
theorem FL(ρl:List (Nat×Nat))(fl:List Bool){f:FuncId}{xs zs outs:List SV}{os os':List (Nat×SO)}(he:bg P f)(hc:kQ P f zs os os' outs)
  (hgd:gd ops σ o=some true:=by kernel_rfl) (hok:jK σ o=true:=by kernel_rfl) (hx:ud σ o f=some xs:=by kernel_rfl) (hz:xG σ fl xs=xI (rho ρl) fl zs:=by kernel_rfl) (hl:(Nat.beq xs.length fl.length,Nat.beq zs.length fl.length)=(true,true):=by kernel_rfl) (hth:thA σ (os.map fun p=>rho ρl p.1) fl xs=true:=by kernel_rfl)
  (hos:mo (os.map fun p=>rho ρl p.1) σ.o=os.map (fun p=>(rho ρl p.1,p.2.mp (rho ρl))):=by kernel_rfl) (hw:wOk (rho ρl) σ os os' outs=true:=by kernel_rfl):
  ar P ops o σ (wcS (rho ρl) σ o os os' outs):=by
 generalize rho ρl=ρ at*
 obtain⟨fo,args,ts,caps,xs0,hop,hxs,hfo,rfl⟩:=BQ hx
 have hl1:Nat.beq (xs0++caps).length fl.length=true:=congrArg Prod.fst hl
 have hl2:Nat.beq zs.length fl.length=true:=congrArg Prod.snd hl
 have hm: ∀p∈os,(ρ p.1,p.2.mp ρ)∈σ.o:=fun p hp=>gm (k:=os.map fun p=>ρ p.1) (by rw[hos];exact List.mem_map.2 ⟨p,hp,rfl⟩)
 unfold wOk at hw
 simp only[Bool.and_eq_true]at hw
 obtain⟨⟨⟨⟨hw1,hw2⟩,⟨hw3,hw4⟩,hw5⟩,hw7⟩,hw8⟩:=hw
 have hinj: ∀(l:List (Nat×SO)),(l.all fun p=>l.all fun q=> !(ρ p.1==ρ q.1) || p.1==q.1)=true→ ∀p∈l,∀q∈l,ρ p.1=ρ q.1→p.1=q.1:=fun l h p hp q hq e=>by
  have h1:=List.all_eq_true.1 (List.all_eq_true.1 h p hp) q hq
  rw[Bool.or_eq_true]at h1
  rcases h1 with h1 | h1
  ·simp[e]at h1
  ·simpa using h1
 refine xN (os2:=os'.map (fun p=>(ρ p.1,p.2.mp ρ))) hop hgd hok hfo hxs he hc ρ ?_ (fun c S Sc β a w hr hS hSc j x y v h1 h2 h3=> ?_) (fun p hp=>⟨_,hm p hp,fun w S β v h=>Dl h,fun w v g h=>yC.2 h⟩) (hinj os hw1) (hinj os' hw2) (fun p hp h3=> ?_) (fun q hq=> ?_) (fun p hp k hk=> ?_) (fun x hx k hk=> ?_) (t':=wcT ρ σ os') (fun p hp=>(List.mem_filter.1 hp).1) ⟨fun p hp q hq h3=> ?_,fun p hp q hq h3=> ?_⟩ ?_
 ·have e1:=Nat.eq_of_beq_eq_true hl1
  have e2:=Nat.eq_of_beq_eq_true hl2
  rw[List.length_append]at e1
  omega
 ·rcases args_at hz hl1 hl2 hth j x y h1 h2 with h4 | ⟨h4,h5⟩
  ·subst h4
   exact(yU h3 y rfl).keep (fun _ _=>rfl) hS
  ·have hT:vo w Sc β σ x.names:=fun d hd z hz=>by
    have h6:=List.all_eq_true.1 h5 d hd
    rw[Bool.and_eq_true]at h6
    have hno: ∀k,((os.map fun p=>ρ p.1).contains k)=false→ ∀p∈os,ρ p.1≠k:=fun k hk p hp e=>by
     have:(os.map fun p=>ρ p.1).contains k=true:=by
      rw[List.contains_iff_mem]
      exact List.mem_map.2 ⟨p,hp,e⟩
     rw[hk]at this
     cases this
    refine⟨fun g hg=>hSc d z g hz (hno d (by simpa using h6.1)) hg,fun k hk z' hz' g hg=>hSc k z' g hz' (hno k ?_) hg⟩
    have h7:=List.all_eq_true.1 h6.2 _ hz
    rw[Bool.or_eq_true]at h7
    rcases h7 with h7 | h7
    ·simp at h7
    ·have:=List.all_eq_true.1 h7 k hk
     simpa using this
   obtain⟨h6,h7⟩:=Bl hr hS h4 hT
   exact(h7 v h3).agree fun d hd=>by rw[h6]at hd;cases hd
 ·have h4:=List.all_eq_true.1 hw3 p hp
  rw[Bool.or_eq_true]at h4
  rcases h4 with h4 | h4
  ·have:=Nat.le_of_ble_eq_true h4
   omega
  ·obtain⟨q,hq,e⟩:=List.any_eq_true.1 h4
   have e:q.1=p.1:=by simpa using e
   exact⟨q.2,by rw[←e];exact hq⟩
 ·obtain⟨p,hp,rfl⟩:=List.mem_map.1 hq
  exact⟨p,hp,rfl,fun w S β v h=>Dk h,fun w v g h=>yC.1 h⟩
 ·refine AS (List.all_eq_true.1 (List.all_eq_true.1 hw4 p hp) k ?_)
  rcases hk with rfl | hk
  ·exact List.mem_cons_self
  ·exact List.mem_cons_of_mem _ hk
 ·exact AS (List.all_eq_true.1 (List.all_eq_true.1 hw5 x hx) k hk)
 ·have h4:=wno (ρ:=ρ) (f:=fun k=> !p.2.names.contains (ρ k)) (List.mem_filter.1 hp).2 hq h3
  simpa using h4
 ·have h4:=wno (ρ:=ρ) (f:=fun k=> !(ρ k==p.1)&& !p.2.names.contains (ρ k)) (List.all_eq_true.1 hw7 p hp) hq h3
  rw[Bool.and_eq_true]at h4
  exact⟨by simpa using h4.1,by simpa using h4.2⟩
 ·rw[Bool.or_eq_true,Bool.and_eq_true,Bool.and_eq_true,List.all_eq_true,List.all_eq_true,List.all_eq_true,List.all_eq_true]at hw8
  rcases hw8 with⟨h1,h2⟩ | ⟨h1,h2⟩
  ·refine .inl ⟨fun p hp=>by simpa using h1 p hp,fun p hp=> ?_⟩
   have:=h2 p hp
   rw[Bool.or_eq_true]at this
   exact this.imp (fun h=>by simpa using h) Nat.le_of_ble_eq_true
  ·refine .inr ⟨fun p hp=> ?_,fun p hp=> ?_⟩
   ·have:=h1 p hp
    rw[Bool.and_eq_true,Bool.or_eq_true]at this
    refine⟨Nat.le_of_ble_eq_true this.1,fun h3=> ?_⟩
    rcases this.2 with h4 | h4
    ·have:=Nat.le_of_ble_eq_true h4
     omega
    ·simpa using h4
   ·have:=h2 p hp
    rw[Bool.and_eq_true,Bool.or_eq_true]at this
    refine⟨Nat.le_of_ble_eq_true this.1,fun h3=> ?_⟩
    rcases this.2 with h4 | h4
    ·have:p.1<3000000:=by simpa using h4
     omega
    ·exact Nat.le_of_ble_eq_true h4
def wxs(σ:SS)(o:Oper)(f:FuncId):List SV:=(ud σ o f).getD []
theorem x_w(ρl:List (Nat×Nat))(fl:List Bool){f:FuncId}{zs outs:List SV}{os os':List (Nat×SO)}(he:bg P f)(hc:kQ P f zs os os' outs)
  (hgd:gd ops σ o=some true:=by kernel_rfl) (hok:jK σ o=true:=by kernel_rfl) (hx:(ud σ o f).isSome=true:=by kernel_rfl) (hz:xG σ fl (wxs σ o f)=xI (rho ρl) fl zs:=by kernel_rfl) (hl:(Nat.beq (wxs σ o f).length fl.length,Nat.beq zs.length fl.length)=(true,true):=by kernel_rfl) (hth:thA σ (os.map fun p=>rho ρl p.1) fl (wxs σ o f)=true:=by kernel_rfl)
  (hos:mo (os.map fun p=>rho ρl p.1) σ.o=os.map (fun p=>(rho ρl p.1,p.2.mp (rho ρl))):=by kernel_rfl) (hw:wOk (rho ρl) σ os os' outs=true:=by kernel_rfl):
  ar P ops o σ (wcS (rho ρl) σ o os os' outs):=FL ρl fl he hc hgd hok (by
   unfold wxs
   cases h:ud σ o f with
   | none=>rw[h]at hx;cases hx
   | some x=>rfl) hz hl hth hos hw
structure BV (P:Program) (rs:List ResultVar) (os':List (Nat×SO)) (outs:List SV) (σ:SS):Prop where
 obj: ∀p∈os',p∈σ.o
 len:rs.length=outs.length
 out: ∀(i:Nat) t x,rs[i]? =some t→outs[i]? =some x→Holds P σ x t
def QW{R:Type}(P:Program)(rs:List ResultVar)(os':R→List (Nat×SO))(outs:R→List SV)(r:R)(e:Exit)(s:SS):Prop:=(e= .normal∨e= .ret)∧BV P rs (os' r) (outs r) s
theorem mO{R:Type}{rs:List ResultVar}{os':R→List (Nat×SO)}{outs:R→List SV}{r:R}{s:SS}(h:BV P rs (os' r) (outs r) s):QW P rs os' outs r .ret s:=⟨.inr rfl,h⟩
theorem FI{R:Type}{rs:List ResultVar}{os':R→List (Nat×SO)}{outs:R→List SV}{r:R}{s:SS}(h:BV P rs (os' r) (outs r) s):QW P rs os' outs r .normal s:=⟨.inl rfl,h⟩
def rvx(tb:Tb)(σ:SS):ResultVar→Option SV
 | .tmp t=>find t σ.t
 | .cell t T=>vB tb σ t T
theorem EG{tb:Tb}(hP:ba P tb){t:ResultVar}{x:SV}(h:rvx tb σ t=some x):Holds P σ x t:=by
 cases t with
 | tmp t=>exact fP h
 | cell t T=>
  have h:vB tb σ t T=some x:=h
  unfold vB at h
  split at h
  ·rename_i d ti ht hT
   split at h
   ·rename_i cs ho
    exact cA hP hT ht ho h
   ·cases h
  ·cases h
theorem fw{tb:Tb}(hP:ba P tb){rs:List ResultVar}{os':List (Nat×SO)}{outs:List SV}(h1:mo (os'.map (·.1)) σ.o=os':=by kernel_rfl)(h2:rs.map (rvx tb σ)=outs.map some:=by kernel_rfl):BV P rs os' outs σ:=by
 refine⟨fun p hp=>gm (k:=os'.map (·.1)) (by rw[h1];exact hp),by simpa using congrArg List.length h2,fun i t x h3 h4=>EG hP ?_⟩
 have h5:(rs.map (rvx tb σ))[i]? =(outs.map some)[i]? :=by rw[h2]
 rw[List.getElem?_map,List.getElem?_map,h3,h4]at h5
 injection h5
theorem lx: ∀p∈([]:List (Nat×SO)),oZ p.2:=fun _ h=>by cases h
theorem c5{k:Nat}{x:SO}{l:List (Nat×SO)}(h:oZ x)(h2: ∀p∈l,oZ p.2): ∀p∈(k,x)::l,oZ p.2:=fun p hp=>by
 rcases List.mem_cons.1 hp with rfl | hp
 ·exact h
 ·exact h2 p hp
def wB(n:Nat)(os os':List (Nat×SO))(outs:List SV):Bool:=
 ((os.all fun p=>(Nat.ble n p.1&&Nat.blt p.1 1999999) || Nat.ble 3000000 p.1)&&(((os.all fun p=>Nat.ble 3000000 p.1 || pz p.2)&&os'.all fun p=>Nat.ble 3000000 p.1 || pz p.2) || os.all fun p=>Nat.blt p.1 3000000))&&
 ((os'.all fun p=>(Nat.ble 3000000 p.1 || os.any fun q=>q.1==p.1)&&p.2.names.all fun k=>os'.any fun q=>q.1==k)&&outs.all fun x=>x.pc&&x.names.all fun k=>os'.any fun q=>q.1==k)
theorem uf{os:List (Nat×SO)}{k:Nat}(h:(os.any fun q=>q.1==k)=true): ∃y,(k,y)∈os:=by
 obtain⟨q,hq,e⟩:=List.any_eq_true.1 h
 have e:q.1=k:=by simpa using e
 exact⟨q.2,by rw[←e];exact hq⟩
theorem kk{f:FuncId}{fn:Func}{code:Code}(hf:P.funcs[f]? =some fn)(hb:fn.body=some code)(rs:List ResultVar)(hr:fn.results=rs.toArray){args:List SV}{os:List (Nat×SO)}{R:Type}(os':R→List (Nat×SO))(outs:R→List SV){r:R}(hfl: ∀p∈os' r,oZ p.2)(h:swp P code (QW P rs os' outs r) ⟨fn.ntmps,args.zipIdx.map (fun p=>(p.2,p.1)),os⟩)
  (hn:(Nat.ble args.length fn.ntmps&&Nat.ble fn.ntmps 1999999)=true:=by kernel_rfl) (hw:wB fn.ntmps os (os' r) (outs r)=true:=by kernel_rfl):kQ P f args os (os' r) (outs r):=by
 rw[Bool.and_eq_true]at hn
 unfold wB at hw
 simp only[Bool.and_eq_true]at hw
 obtain⟨⟨h1,h2⟩,h4,h5⟩:=hw
 have hsm: ∀(l:List (Nat×SO)),(l.all fun p=>Nat.ble 3000000 p.1 || pz p.2)=true→ ∀p∈l,p.1<3000000→pz p.2=true:=fun l h p hp hlt=>by
  have h6:=List.all_eq_true.1 h p hp
  rw[Bool.or_eq_true]at h6
  rcases h6 with h6 | h6
  ·have:=Nat.le_of_ble_eq_true h6
   omega
  ·exact h6
 have hsm2:((∀p∈os,p.1<3000000→pz p.2=true)∧ ∀p∈os' r,p.1<3000000→pz p.2=true)∨ ∀p∈os,p.1<3000000:=by
  rw[Bool.or_eq_true,Bool.and_eq_true]at h2
  exact h2.imp (fun h=>⟨hsm _ h.1,hsm _ h.2⟩) fun h p hp=>by simpa using List.all_eq_true.1 h p hp
 refine wR hf hb hr (Nat.le_of_ble_eq_true hn.1) (Nat.le_of_ble_eq_true hn.2) (fun p hp=> ?_) hsm2 (fun p hp=> ?_) (fun x hx=> ?_) hfl (mq h fun e s ⟨he,hF⟩=>⟨he,hF.obj,hF.len,hF.out⟩)
 ·have h6:=List.all_eq_true.1 h1 p hp
  rw[Bool.or_eq_true,Bool.and_eq_true]at h6
  exact h6.imp (fun h=>⟨Nat.le_of_ble_eq_true h.1,by simpa using h.2⟩) Nat.le_of_ble_eq_true
 ·have h6:=List.all_eq_true.1 h4 p hp
  rw[Bool.and_eq_true,Bool.or_eq_true]at h6
  refine⟨fun hlt=> ?_,fun k hk=>uf (List.all_eq_true.1 h6.2 k hk)⟩
  rcases h6.1 with h7 | h7
  ·have:=Nat.le_of_ble_eq_true h7
   omega
  ·exact uf h7
 ·have h6:=List.all_eq_true.1 h5 x hx
  rw[Bool.and_eq_true]at h6
  exact⟨SV.pd x h6.1,fun k hk=>uf (List.all_eq_true.1 h6.2 k hk)⟩
theorem pT{ν:SS}{tb:Tb}(hP:ba P tb){t:Nat}{x y:Operand}(ho:o.op= .store t x y)(hdst:o.dst=none){ti:TI}{d k:Nat}{cs vs:List SV}{v:SV}{nw:List Nat}(hgd:gd ops ν o=some true:=by kernel_rfl)(ht:find t tb=some ti:=by kernel_rfl)(hx:ev ν x=some (.ref d k):=by kernel_rfl)(hob:find d ν.o=some (.box cs):=by kernel_rfl)(hy:ev ν y=some v:=by kernel_rfl)(hc:v.cells=some vs:=by kernel_rfl)(hone:vs.all (nb ν)=true:=by kernel_rfl)(hl:vs.length=ti.size:=by kernel_rfl)(hk:Nat.ble (k+vs.length) cs.length=true:=by kernel_rfl):lr P ops o ν ⟨none,false,some (d,.box (cs.take k++vs++cs.drop (k+vs.length))),nw⟩:=fun σ c a w hs _ _ hr=>by
 have h0:=qL hP ho hdst hgd ht hx hob hy hc hone hl (Nat.le_of_ble_eq_true hk) σ c a w hs hr
 unfold iR at h0⊢
 have hle: ∀a' w',eh c (({σ with o:=(d,.box (cs.take k++vs++cs.drop (k+vs.length)))::σ.o.filter (fun p=>p.1 !=d)}:SS)) a' w'→eh c (σ.mx o.dst ⟨none,false,some (d,.box (cs.take k++vs++cs.drop (k+vs.length))),nw⟩) a' w':=fun a' w' h=>by
  rw[hdst]
  exact h
 split
 ·rename_i hw
  rw[if_pos hw]at h0
  exact Oper.wp_mono (fun a' w' h=>hle a' w' h) h0
 ·rename_i hw
  rw[if_neg hw]at h0
  exact hle _ _ h0
end
end Go.Proofs.YtdejeagdkfokfaaGreatDoor.Sh
