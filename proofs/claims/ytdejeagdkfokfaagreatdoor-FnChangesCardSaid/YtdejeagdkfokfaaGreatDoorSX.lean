/- Addresses and checks may be taken first; a whole region run on what own slices show. -/
import Derived.Test.YtdejeagdkfokfaaGreatDoorSW
import Derived.Test.YtdejeagdkfokfaaGreatDoorSP
namespace Go.Proofs.YtdejeagdkfokfaaGreatDoor.Sh
open Go.RowKit
section
variable {P : Program} {tb : Tb} {ops : Array Oper} {o : Oper} {c : Cx} {S : Nat → Prop} {β : Nat → Value} {σ σ' : SS} {a : Act} {w : World} {K : SS → Prop} {L L' : Array Bool} {fuel i : Nat}
def wlB:Op→Bool
 | .nilCheck _=>true
 | .fieldAddr _ _ _=>true
 | _=>false
theorem EZ(hP:ba P tb)(hr:Rel c S β σ a w)(hw:wlB o.op=true){v:SV}(h:vop tb σ o.op=some v): ∃u,∀w',(execOp a.eval o).run P w'= .ok (.value u) w':=by
 cases hop:o.op<;>rw[hop]at hw h<;>first | (cases hw;done) | skip
 case nilCheck x=>
  simp only[vop]at h
  have key: ∀z,ev σ x=some z→(∀y,cM w S β z y→(∃p,y= .pointer (some p))∨ ∃f fs cs,y= .func (.func f) fs cs)→ ∃u,∀w',(execOp a.eval o).run P w'= .ok (.value u) w':=by
   intro z hz hy
   refine⟨a.eval x,fun w'=> ?_⟩
   rcases hy _ (bH hr hz)with⟨p,hp⟩ | ⟨f,fs,cs,hp⟩<;>simp only[execOp,hop,hp]<;>rfl
  split at h
  ·exact key _ (by assumption) fun y hy=>by cases hy;exact .inl ⟨_,rfl⟩
  ·exact key _ (by assumption) fun y hy=>by cases hy;exact .inl ⟨_,rfl⟩
  ·exact key _ (by assumption) fun y hy=>by cases hy;exact .inl ⟨_,rfl⟩
  ·exact key _ (by assumption) fun y hy=>by cases hy;exact .inr ⟨_,_,_,rfl⟩
  ·exact key _ (by assumption) fun y hy=>by cases hy;exact .inr ⟨_,_,_,rfl⟩
  ·cases h
 case fieldAddr t x k=>
  simp only[vop]at h
  split at h
  ·rename_i i y hi hx
   split at h
   ·rename_i fs hd
    split at h
    ·rename_i off ft hf
     split at h
     ·rename_i j hj
      split at h
      ·cases h
      ·rename_i hz
       obtain⟨f,hu,hm⟩:=(br hP hi).struct hd
       obtain⟨y',h1,h2,h3⟩:=uD hm hf
       subst h2 h3
       obtain⟨g,o',h4,h5⟩:=qi h (bH hr hx)
       refine⟨.pointer (some ⟨g,o'+y'.offset,none⟩),fun w'=> ?_⟩
       simp only[execOp,hop,h4,Sem.run_bind]
       simp[Instr.fieldAt,run_underlying hu,h1,Instr.sureAddr,fieldPlace,(br hP hj).size,hz,Addr.add_lit]
     ·cases h
    ·cases h
   ·cases h
  ·cases h
theorem DE.Ft(hP:ba P tb){rest:List Oper}{v:SV}(ho:ops.toList.drop i=o::rest)(hw:wlB o.op=true)(hv:vop tb σ o.op=some v)(hg:o.guard=none)(hs:Region.noSelect ops=true)(hf:Region.free .any ops L i=true)(hr:(Region.ready .any ops L).contains i=true)
  (he:ar P ops o σ σ') (hL:L.setIfInBounds i true=L') (k:DE P ops K fuel L' σ'):DE P ops K (fuel+1) L σ:=by
 intro c a w hr'
 subst hL
 replace ho:=rZ ho
 obtain⟨S,β,hrel⟩:=hr'
 obtain⟨u,hex⟩:=EZ hP hrel hw hv
 have hdo:=he c a w ⟨S,β,hrel⟩
 have hw:Region.wanted o (yielded ops a.tmps)=true:=by simp[Region.wanted,hg]
 unfold iR at hdo
 rw[if_pos hw]at hdo
 unfold Oper.wp at hdo
 rw[hex w]at hdo
 refine wpAny_take (v:=u) ho hs hf hr (fun _ _ _ h=>by simp at h) ?_ (k c _ w hdo)
 unfold Yields
 exact .inl ⟨hw,hex⟩
theorem Ar{o:Oper}{d:Nat}{i:Nat}(ho:ops[i]? =some o)(hd:o.dst=some d):d∈Aq ops.toList:=List.mem_flatMap.2 ⟨o,List.mem_of_getElem? (by rw[Array.getElem?_toList];exact ho),by simp[hd]⟩
theorem qg.step{a0 a b:Act}{i:Nat}(h:qg (Aq ops.toList) a0 a)(ho:ops[i]? =some o){u:Value}(hb:b.tmps=(a.put o.dst u).tmps):qg (Aq ops.toList) a0 b:=by
 refine⟨by rw[hb,lc];exact h.1,fun j hj=> ?_⟩
 rw[hb,←h.2 j hj]
 cases hd:o.dst with
 | none=>rfl
 | some d=>exact nW a u fun e=>hj (e▸Ar ho hd)
theorem Le.tp{σ:SS}(d e:Nat)(hd:Nat.blt d σ.n=true:=by kernel_rfl)(he:Nat.ble 3000000 e=true:=by kernel_rfl)(hf:σ.names.contains e=false:=by kernel_rfl):Le σ (σ.ren d e):=Le.Fk (by simpa using hd) (.inr (Nat.le_of_ble_eq_true he)) hf
def SS.less(σ:SS)(ks:List Nat):SS:=⟨σ.n,σ.t.filter (fun p=>p.2.names.all fun k=> !ks.contains k),σ.o.filter (fun p=> !ks.contains p.1)⟩
theorem Le.less(σ:SS)(ks:List Nat):Le σ (σ.less ks):=Le.sub rfl (fun _ h=>(List.mem_filter.1 h).1) fun _ h=>(List.mem_filter.1 h).1
theorem Le.nv{σ:SS}(d j k:Nat){e m:Nat}{ss:List Sh}{cs:List SV}(y:SO)(hy:y= .arr e m 0 []∨(y= .deep e m 0 ss []∧ss.length=m))(hc:cs[j]? =some (.tr .nil))(hob:find d σ.o=some (.box cs):=by kernel_rfl)(hk:σ.names.contains k=false:=by kernel_rfl)(hkn:(Nat.blt k σ.n || Nat.ble 3000000 k)=true:=by kernel_rfl):
  Le σ {σ with o:=(d,.box (cs.set j (.own k)))::(k,y)::σ.o.filter (fun p=>p.1 !=d)}:=by
 intro c a w ⟨S,β,hr⟩
 have hk:k∉σ.names:=by simpa using hk
 have hmd:=a8 hob
 have hkd:k≠d:=fun e=>hk (by
  subst e
  exact List.mem_append_right _ (List.mem_flatMap.2 ⟨(k,_),hmd,List.mem_cons_self⟩))
 have hzn: ∀{l z},(l,z)∈σ.o→k∉z.names∧l≠k:=fun{l z} h=>⟨fun h'=>hk (List.mem_append_right _ (List.mem_flatMap.2 ⟨(l,z),h,List.mem_cons_of_mem _ h'⟩)),fun e=>hk (by
  subst e
  exact List.mem_append_right _ (List.mem_flatMap.2 ⟨(l,z),h,List.mem_cons_self⟩))⟩
 have hnil:cP w S (gv β k (.slice none 0 0)) y (.slice none 0 0)∧ ∀g,¬y.bm w (.slice none 0 0) g:=by
  have hown:w.ownsRow 0 e m (.slice none 0 0) 0 []:=⟨by simp,.inl ⟨rfl,rfl⟩⟩
  rcases hy with rfl | ⟨rfl,hl⟩
  ·exact⟨.arr e m 0 [] _ [] rfl hown (by simp) (fun i x j t u h=>by simp at h),fun g h=>by cases h⟩
  ·refine⟨.deep e m 0 ss [] _ (.sl e m ss 0 [] _ [] rfl hown hl (by simp) (fun i x j s t u h=>by simp at h) (fun i j s u g _ _ h=>by simp at h) (fun i j i' j' s s' u u' g _ _ _ _ h=>by simp at h)),fun g h=> ?_⟩
   cases h with
   | here _ _ _ _ _ h=>cases h
 have hbox:cP w S (gv β k (.slice none 0 0)) (.box (cs.set j (.own k))) (β d):=by
  have ho:=hr.obj d _ hmd
  have hno:=(hzn hmd).1
  generalize β d=b at ho
  cases ho with
  | box _ g vs T hg hl h=>
   refine .box _ g vs T hg (by rw[List.length_set];exact hl) fun q x v hx hv=> ?_
   by_cases hq:q=j
   ·subst hq
    rw[List.getElem?_set_self (List.getElem?_eq_some_iff.1 hc).1]at hx
    injection hx with hx
    subst hx
    have h1:=h q _ v hc hv
    cases h1 with
    | tr _ _ h1=>
     cases h1
     have:cM w S (gv β k (.slice none 0 0)) (.own k) (gv β k (.slice none 0 0) k):= .own k
     rwa [bP]at this
   ·rw[List.getElem?_set_ne (fun e=>hq e.symm)]at hx
    exact(h q x v hx hv).agree (iY β _ fun h'=>hno (SV.bV (List.mem_of_getElem? hx) h'))
 have hmem: ∀{l z},(l,z)∈(d,SO.box (cs.set j (.own k)))::(k,y)::σ.o.filter (fun p=>p.1 !=d)→(l=d∧z= .box (cs.set j (.own k)))∨(l=k∧z=y)∨((l,z)∈σ.o∧l≠k):=by
  intro l z h
  rcases List.mem_cons.1 h with h | h
  ·injection h with h1 h2
   exact .inl ⟨h1,h2⟩
  ·rcases List.mem_cons.1 h with h | h
   ·injection h with h1 h2
    exact .inr (.inl ⟨h1,h2⟩)
   ·exact .inr (.inr ⟨(List.mem_filter.1 h).1,(hzn (List.mem_filter.1 h).1).2⟩)
 have hkp: ∀q v,(q,v)∈c.pin→q≠k:=fun q v hq e=>by
  have h1:=(hr.pin q v hq).1
  have h2:=c.lt q v hq
  rw[Bool.or_eq_true]at hkn
  rcases hkn with h | h
  ·have:k<σ.n:=by simpa using h
   omega
  ·have:=Nat.le_of_ble_eq_true h
   omega
 refine⟨S,gv β k (.slice none 0 0),hr.defers,hr.size,fun q=> ?_,hr.grew,hr.s0,hr.s1,hr.lt,fun q z hq=>⟨(hr.tmp q z hq).1,(hr.tmp q z hq).2.agree (iY β _ fun h=>hk (List.mem_append_left _ (List.mem_flatMap.2 ⟨(q,z),hq,h⟩)))⟩,fun l z hl=> ?_,fun q v hq=>⟨(hr.pin q v hq).1,fun z hz=> ?_⟩,fun l z g hl hg=> ?_,fun l z l' z' g hl hl' hg hg'=> ?_⟩
 ·unfold gv
  split
  ·rfl
  ·exact hr.one q
 ·rcases hmem hl with⟨rfl,rfl⟩ | ⟨rfl,rfl⟩ | ⟨h1,h3⟩
  ·rw[bJ _ _ hkd.symm]
   exact hbox
  ·rw[bP]
   exact hnil.1
  ·rw[bJ _ _ h3]
   exact(hr.obj l z h1).agree (iY β _ (hzn h1).1)
 ·rw[bJ _ _ (hkp q v hq)]
  rcases hmem hz with⟨rfl,_⟩ | ⟨h1,_⟩ | ⟨h1,_⟩
  ·exact(hr.pin q v hq).2 _ hmd
  ·exact absurd h1 (hkp q v hq)
  ·exact(hr.pin q v hq).2 z h1
 ·rcases hmem hl with⟨rfl,rfl⟩ | ⟨rfl,rfl⟩ | ⟨h1,h3⟩
  ·rw[bJ _ _ hkd.symm]at hg
   exact hr.priv l _ g hmd hg
  ·rw[bP]at hg
   exact(hnil.2 g hg).elim
  ·rw[bJ _ _ h3]at hg
   exact hr.priv l z g h1 hg
 ·have hold: ∀{l z},(l,z)∈(d,SO.box (cs.set j (.own k)))::(k,y)::σ.o.filter (fun p=>p.1 !=d)→z.bm w (gv β k (.slice none 0 0) l) g→ ∃x,(l,x)∈σ.o∧x.bm w (β l) g:=fun{l z} hl hg=>by
   rcases hmem hl with⟨rfl,rfl⟩ | ⟨rfl,rfl⟩ | ⟨h1,h3⟩
   ·rw[bJ _ _ hkd.symm]at hg
    exact⟨_,hmd,hg⟩
   ·rw[bP]at hg
    exact(hnil.2 g hg).elim
   ·rw[bJ _ _ h3]at hg
    exact⟨z,h1,hg⟩
  obtain⟨x,h1,h2⟩:=hold hl hg
  obtain⟨x',h3,h4⟩:=hold hl' hg'
  exact hr.apart l x l' x' g h1 h3 h2 h4
def Ff:Tr→Tr
 | .sl 0 []=> .nil
 | t=>t
theorem Dj{t:Tr}{v:Value}(h:t.z7=some v):TV w S (Ff t) v:=by
 cases t with
 | sl n es=>
  cases n with
  | zero=>
   cases es with
   | nil=>
    have h:some (Value.slice none 0 0)=some v:=h
    injection h with h
    subst h
    exact .nil
   | cons=>cases h
  | succ n=>cases h
 | _=>exact vm h
theorem wU: ∀{ts:List Tr} {vs:List Value},ij ts=some vs→ ∀(j:Nat) t v,ts[j]? =some t→vs[j]? =some v→t.z7=some v
 | [],vs,h=>fun j t v hj=>by simp at hj
 | t0::ts,vs,h=>fun j t v hj hv=>by
  unfold ij at h
  split at h
  ·rename_i v0 vs0 h1 h2
   injection h with h
   subst h
   cases j with
   | zero=>
    injection hj with hj
    injection hv with hv
    subst hj hv
    exact h1
   | succ j=>exact wU h2 j t v hj hv
  ·cases h
theorem lK(hP:ba P tb){t:Nat}{ps:Array (Nat×Operand)}(ho:o.op= .build t ps){ti:TI}{fs pl:List (Nat×Nat)}{zs:List Value}(hps:ps= #[]:=by kernel_rfl)(hgd:gd ops σ o=some true:=by kernel_rfl)(hok:jK σ o=true:=by kernel_rfl)(ht:find t tb=some ti:=by kernel_rfl)(hd:ti.d= .struct fs:=by kernel_rfl)(hpl:nU tb fs=some pl:=by kernel_rfl)(hz:ij ti.zero=some zs:=by kernel_rfl):
  cC P ops o σ (some (.agg (ti.zero.map fun t=> .tr (Ff t)),none)):=by
 subst hps
 refine cS hgd hok fun c S β a w hr=> ?_
 obtain⟨q,g1,g2,g3,g4⟩:=(br hP ht).nn
 obtain⟨z,g5,g6⟩:=g4 zs hz
 obtain⟨g7,g8⟩:=lk (w:=w) (S:=S) hz
 obtain⟨f,hu,hm⟩:=(br hP ht).struct hd
 have hpm:=nV hP (f:=f.toList) (by rw[hm];exact hpl)
 have hb:P.built t ((#[]:Array (Nat×Operand)).map fun p=>(p.1,a.eval p.2)).toList=some z.cells:=by
  unfold Program.built
  simp only[g1,hu,g5,hpm]
  simp[Instr.fill]
 have hrun:=run_build (P:=P) w t _ z.cells hb
 refine .mk (s:=Instr.build t ((#[]:Array (Nat×Operand)).map fun p=>(p.1,a.eval p.2))) (by simp only[execOp,ho]) hrun (.agg _ z.cells (by rw[List.length_map,g7,←g6,Array.length_toList]) fun j x v hx hv=> ?_)
 rw[List.getElem?_map,Option.map_eq_some_iff]at hx
 obtain⟨t0,h1,rfl⟩:=hx
 exact .tr _ _ (Dj (wU hz j t0 v h1 (by rw[←g6];simpa using hv)))
end
end Go.Proofs.YtdejeagdkfokfaaGreatDoor.Sh
namespace Go.Proofs.YtdejeagdkfokfaaGreatDoor.Sh
open Go.RowKit
section
variable {σ : SS} {α : Type} {f : α → List Tr}
theorem sY{L:List α}{i:Int}{x:α}(h:at' L i=some x){d k e m j e' m' n':Nat}{ss ss':List Sh}{es':List (List Tr)}(hfl:kN es')(hss:ss'=List.replicate m' .flat:=by kernel_rfl)(hd:find d σ.o=some (.hol e m L.length ss (L.map f) i.toNat j k):=by kernel_rfl)(hk:find k σ.o=some (.arr e' m' n' es'):=by kernel_rfl)(hne:(k !=d)=true:=by kernel_rfl)
  (hs:ss[j]? =some (.sl e' m' ss'):=by kernel_rfl) (hset:(f x).set j (.sl n' es')=f x:=by kernel_rfl) (hn:(Nat.blt k σ.n==Nat.blt d σ.n)=true:=by kernel_rfl) (hk3:(Nat.blt k 3000000 || Nat.ble 3000000 d)=true:=by kernel_rfl):
  Le σ {σ.kill k with o:=(d,.deep e m L.length ss (L.map f))::(σ.kill k).o}:=by
 have h1:=E2 h hfl hss hd hk hne hs hset hn hk3
 have h2:L.set i.toNat x=L:=by
  have h3:=(gW h).2
  obtain⟨hl,h4⟩:=List.getElem?_eq_some_iff.1 h3
  subst h4
  exact List.set_getElem_self hl
 rw[h2]at h1
 exact h1
end
def bl:Nat→Nat→List Bool
 | 0,_=>[]
 | n+1,m=>Nat.beq (m % 2) 1::bl n (m/2)
def bA(n m:Nat):Array Bool:=⟨bl n m⟩
section
variable {P : Program} {tb : Tb} {ops : Array Oper} {o : Oper} {K : SS → Prop} {L L' : Array Bool} {σ σ' : SS} {fuel : Nat} {rest : List Oper}
theorem DE.sh{σ0:SS}{L0:Array Bool}{n:Nat}(fuel:Nat)(L:Array Bool)(σ:SS)(h:DE P ops K fuel L σ)(k:DE P ops K fuel L σ→DE P ops K n L0 σ0):DE P ops K n L0 σ0:=k h
theorem ar.n(hP:ba P tb){n:Nat}{t:List (Nat×SV)}{u:List (Nat×SO)}(h:(pu tb ops σ o).map (fun r=>(kr r o.dst σ,(σ.app o.dst r).n,mo (t.map (·.1)) (σ.app o.dst r).t,mo (u.map (·.1)) (σ.app o.dst r).o))=some (true,n,t,u):=by kernel_rfl):ar P ops o σ ⟨n,t,u⟩:=by
 rw[Option.map_eq_some_iff]at h
 obtain⟨r,h1,h2⟩:=h
 simp only[Prod.mk.injEq]at h2
 obtain⟨h2,h3,h4,h5⟩:=h2
 exact ar.le (ar.ofN hP h1 h2) (Le.an h3 h4 h5)
theorem ar.l{r:RV}(h:cC P ops o σ r){n:Nat}{t:List (Nat×SV)}{u:List (Nat×SO)}(hh:(kr r o.dst σ,(σ.app o.dst r).n,mo (t.map (·.1)) (σ.app o.dst r).t,mo (u.map (·.1)) (σ.app o.dst r).o)=(true,n,t,u):=by kernel_rfl):ar P ops o σ ⟨n,t,u⟩:=by
 simp only[Prod.mk.injEq]at hh
 obtain⟨h2,h3,h4,h5⟩:=hh
 exact ar.le (ar.ofL h h2) (Le.an h3 h4 h5)
inductive DEl (P:Program) (ops:Array Oper) (K:SS→Prop) (fuel:Nat) (L:Array Bool) (σ:SS):List Nat→Prop
 | n:DEl P ops K fuel L σ []
 | c (i:Nat) {rs:List Nat} {o:Oper} {L':Array Bool} {σ':SS} {rest:List Oper} (k:DE P ops K fuel L' σ') (ho:ops.toList.drop i=o::rest) (he:ar P ops o σ σ') (t:DEl P ops K fuel L σ rs) (hL:L.setIfInBounds i true=L':=by kernel_rfl):DEl P ops K fuel L σ (i::rs)
theorem DEl.ok{rs:List Nat}(h:DEl P ops K fuel L σ rs): ∀i∈rs,DEs P ops K fuel L σ i:=by
 induction h with
 | n=>exact fun _ h=>absurd h List.not_mem_nil
 | c i k ho he t hL ih=>exact List.forall_mem_cons.2 ⟨DEs.mk ho he hL k,ih⟩
theorem DE.al{i:Nat}{rs:List Nat}(h:DEl P ops K fuel L σ (i::rs))(hr:Region.ready .any ops L=i::rs:=by kernel_rfl):DE P ops K (fuel+1) L σ:=DE.all (i::rs) hr (by simp) h.ok
theorem DE.a1(i:Nat)(k:DE P ops K fuel L' σ')(ho:ops.toList.drop i=o::rest)(he:ar P ops o σ σ')(hr:Region.ready .any ops L=[i]:=by kernel_rfl)(hL:L.setIfInBounds i true=L':=by kernel_rfl):DE P ops K (fuel+1) L σ:=DE.al (.c i k ho he .n hL) hr
theorem DE.tk(i:Nat){x:Operand}(k:DE P ops K fuel L' σ')(ho:ops.toList.drop i=o::rest)(hop:o.op= .move x∨o.op= .assign x)(he:ar P ops o σ σ')(hg:o.guard=none:=by kernel_rfl)(hs:Region.noSelect ops=true:=by kernel_rfl)(hf:Region.free .any ops L i=true:=by kernel_rfl)(hr:(Region.ready .any ops L).contains i=true:=by kernel_rfl)(hL:L.setIfInBounds i true=L':=by kernel_rfl):DE P ops K (fuel+1) L σ:=DE.take ho hop hg hs hf hr he hL k
theorem DE.tw(hP:ba P tb)(i:Nat)(k:DE P ops K fuel L' σ')(ho:ops.toList.drop i=o::rest)(he:ar P ops o σ σ')(hw:wlB o.op=true:=by kernel_rfl)(hv:(vop tb σ o.op).isSome=true:=by kernel_rfl)(hg:o.guard=none:=by kernel_rfl)(hs:Region.noSelect ops=true:=by kernel_rfl)(hf:Region.free .any ops L i=true:=by kernel_rfl)(hr:(Region.ready .any ops L).contains i=true:=by kernel_rfl)(hL:L.setIfInBounds i true=L':=by kernel_rfl):DE P ops K (fuel+1) L σ:=by
 obtain⟨v,hv⟩:=Option.isSome_iff_exists.1 hv
 exact DE.Ft hP ho hw hv hg hs hf hr he hL k
end
def kp(ks us:List Nat)(s:Option SS):SS:=(s.getD ⟨0,[],[]⟩).only ks us
section
variable {P : Program} {tb : Tb} {ops : Array Oper} {σ : SS}
theorem aa.cl(hP:ba P tb){Q:SS→Prop}{todo:List Oper}(n:Nat)(ks us:List Nat)(k:aa P ops (todo.drop n) Q (kp ks us (qh tb ops n todo σ)))(h:(qh tb ops n todo σ).isSome=true:=by kernel_rfl):aa P ops todo Q σ:=by
 obtain⟨s,h1⟩:=Option.isSome_iff_exists.1 h
 refine aa.uh hP n h1 ?_
 rw[h1]at k
 exact aa.le (Le.only _ _) k
variable {Q : Exit → SS → Prop} {id : Nat} {y : Code}
theorem bO(hP:ba P tb){K:SS→Prop}{todo:List Oper}(n:Nat)(ks us:List Nat)(k:K (kp ks us (qh tb ops n todo σ)))(h:(qh tb ops n todo σ).isSome=true:=by kernel_rfl)(hz:(todo.drop n).isEmpty=true:=by kernel_rfl):aa P ops todo (fun s=>nx K Q .normal s) σ:=
 aa.cl hP n ks us (by rw[List.isEmpty_iff.1 hz];exact aa.nil k) h
theorem aJ(hP:ba P tb)(ks us:List Nat)(k:swp P y Q (kp ks us (qh tb ops ops.toList.length ops.toList σ)))(h:(qh tb ops ops.toList.length ops.toList σ).isSome=true:=by kernel_rfl):swp P (.seq (.region id ops false) y) Q σ:=
 sr (aa.cl hP ops.toList.length ks us (by rw[List.drop_length];exact aa.nil k) h)
def dkp(ks us:List Nat)(s:Option (List (Oper×EV)×SS)):SS:=kp ks us (s.map (·.2))
theorem aH.cl(hP:ba P tb){D:List Nat}{σ0:SS}{K:SS→Prop}{done:List (Oper×EV)}{todo:List Oper}(ch:Bool)(n:Nat)(ks us:List Nat)(k:aH P ops D σ0 K (xS tb ops (keys σ0) D ch n done σ todo) (dkp ks us (qH tb ops (keys σ0) D ch n done σ todo)) (todo.drop n))(h:(qH tb ops (keys σ0) D ch n done σ todo).isSome=true:=by kernel_rfl):aH P ops D σ0 K done σ todo:=by
 obtain⟨s,h1⟩:=Option.isSome_iff_exists.1 h
 refine aH.chunk hP n h1 ?_
 unfold xS dkp at k
 rw[h1]at k
 refine aH.sub (σ':=kp ks us (some s.2)) ?_ k
 exact⟨rfl,fun _ h=>gm h,fun _ h=>gm h⟩
end
end Go.Proofs.YtdejeagdkfokfaaGreatDoor.Sh
