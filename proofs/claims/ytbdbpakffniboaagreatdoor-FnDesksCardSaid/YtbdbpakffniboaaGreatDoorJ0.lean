/- Parts of the proof, in order: SH, SW, SD, SE, SP, SX, H2, KL, KA, KS, CN1, R1, H1, COG, L0, IC1, CT1, FB, SY, KC, KE, KN, KP, KO. -/
import Derived.Test.YtbdbpakffniboaaGreatDoorSB
import Derived.WalkKit
import Derived.Shelf.SlGeneric
import Derived.Ground.NamesProg
import Derived.Ground.SlgnProg
import Derived.Ground.Names8Prog
import Derived.Shelf.SlIter.Collect
import Derived.Ground.GgzProg
import Derived.Shelf.Small.Strs
import Derived.Test.YtbdbpakffniboaaGreatDoorProg
import Derived.RangeFuncNested
import Derived.RangeFuncBound
import Derived.RangeFuncCalls
import Derived.RangeFuncLeaves
import Derived.Lib.IndexLaws
import Derived.RegionIn
import Derived.ProofKit
import Derived.Shelf.SlicesE.Clone
import Derived.Shelf.Strings.SlTrimAscii
import Derived.Shelf.Spec.SlicesGrow
import Derived.Shelf.Strings.Split
import Derived.OpenShut
import Derived.Deep.Slices
import Derived.Shelf.Slices.In.SortNone
import Derived.Shelf.Slices.CompactS
import Derived.Shelf.SlSortCmp.Whole1
import Derived.Shelf.Strconv.Itoa4
import Derived.Shelf.Strconv.ParseIntPublic10
import Derived.Shelf.Strings.Cut
import Derived.Shelf.Strings.OnBuilder
import Derived.Shelf.Strings.Prefix
import Derived.Test.YtbdbpakffniboaaGreatDoorCards
import Derived.Lib.LaidTab
import Derived.Lib.ItoaNum
import Derived.Stop.LaidErr
import Derived.ChangeMaps5
import Derived.SevenTiedAt
import Derived.Lay
import Derived.OpenVars
import Derived.Lib.ParseIntBCases
import Derived.Lib.ItoaMem
import Derived.Lib.IndexMore
import Derived.Lib.Join
import Derived.Lib.Hide
import Derived.Laws.CopyRow
import Derived.Shelf.Spec.SlicesInsert
import Derived.Deep.RegionLaw
import Derived.Lib.AppendIntMem
import Derived.Sort.Grow
import Derived.Sort.Row
import Derived.Shelf.Sort.Plain
open Go.Proofs.Tryz
open Go.Proofs.Tryz renaming prog->WW
open Array renaming length_toList->TB,getElem?_eq_some_iff->TR,getElem?_eq_getElem->TW,getElem?_toList->Ub,getD_eq_getD_getElem?->Uu,getElem?_append_left->UG,eq_empty_of_size_eq_zero->UQ,getD->UR,getElem?_map->U5,getElem?_append_right->Vo,replicate->VM,getElem?_modify->V7,replicate_succ->We,replicate_zero->Wf
open Bool renaming and_eq_true->Tp,or_eq_true->TT
open ByteArray renaming data_extract->Wy
open Int renaming toNat_natCast->TG,eq_ofNat_of_zero_le->Ui
open List renaming getElem?_eq_getElem->Tk,getElem?_eq_some_iff->Tl,mem_of_getElem?->Tm,getElem?_map->Tq,getElem?_append_right->Ts,all_eq_true->Tt,mem_filter->Tu,mem_cons->Tx,length_cons->Ty,length_append->Tz,getElem?_append_left->TE,mem_map->TF,mem_singleton->TH,mem_append_right->TJ,mem_flatMap->TK,length_map->TM,mem_append->TN,mem_cons_self->TP,length_take->TQ,range->TU,append_assoc->TX,mem_cons_of_mem->T1,take_of_length_le->T4,mem_append_left->T7,getElem?_take_of_lt->T9,drop_eq_getElem_cons->Uc,eq_nil_of_length_eq_zero->Uf,any_eq_true->Uh,size_toArray->Uk,getElem_mem->Uo,append_nil->Up,mem_iff_getElem?->Uq,length_drop->Ux,length_nil->UC,nil_append->UD,replicate->UH,length_eq_zero_iff->UJ,map_cons->UK,range'->UM,getElem?_eq_none->UZ,mem_of_mem_take->U6,cons_append->Vb,getElem?_take->Vl,getElem?_range->Vq,find?_eq_none->Vs,range'_succ->Vv,all_cons->Vw,map_nil->VC,map_map->VR,getElem?_replicate->VZ,exists_cons_of_ne_nil->Wg,range_eq_range'->Wi,append_toArray->Wm,push_toArray->Wx,drop_length->WJ,map_toArray->WK
open Nat renaming le_refl->TA,mul_le_mul_right->TY,le_of_ble_eq_true->T3,blt->T8,pow_le_pow_right->Ua,lt_of_lt_of_le->Ud,zero_add->Ue,zero_le->Ul,le_trans->Ut,ble->Uv,add_zero->Uw,add_mul->UT,eq_of_beq_eq_true->UY,mul_comm->Vc,lt_or_ge->Vj,mod_eq_of_lt->Vt,mul_one->VG,eq_zero_or_pos->VI,min_eq_left->VP,beq->V2,strongRecOn->V5,mod_lt->Wh,ble_eq_true_of_le->WG
open Option renaming bind_some->Ti,map_eq_some_iff->Tn,isSome_iff_exists->T5,some->Um,map_some->UO,map_none->VO
open Prod renaming mk->Vk
open Sum renaming elim->TC
open UInt8 renaming ofNat->Wv
namespace Go.Proofs.YtbdbpakffniboaaGreatDoor.Sh
open Go.RowKit
def y9:SO->Bool
 | .box _=>true
 | .arr .. =>true
 | _=>false
theorem DM{x:SO}(h:y9 x=true){w:World}{v:Value}{g:Nat}:x.ba w v g↔cN v=some g:=by
 cases x<;>first | exact Iff.rfl | cases h
section
variable {P : Program}
variable {ops : Array Oper} {o : Oper} {σ : SS}
def SV.mp(ρ:Nat->Nat):SV->SV
 | .tr t=> .tr t
 | .agg cs=> .agg (mpL cs)
 | .tup cs=> .tup (mpL cs)
 | .ptr cs o=> .ptr (mpL cs) o
 | .ref d o=> .ref (ρ d) o
 | .eref d m i j=> .eref (ρ d) m i j
 | .own d=> .own (ρ d)
 | .clo f cs=> .clo f (mpL cs)
 | .mth f cs=> .mth f (mpL cs)
 | .any=> .any
where mpL:List SV->List SV
 | []=>[]
 | c::cs=>c.mp ρ::mpL cs
theorem vN(ρ:Nat->Nat): ∀(cs:List SV) (j:Nat),(SV.mp.mpL ρ cs)[j]? =(cs[j]?).map (SV.mp ρ)
 | [],j=>by simp[SV.mp.mpL]
 | c::cs,0=>by simp[SV.mp.mpL]
 | c::cs,j+1=>by simpa [SV.mp.mpL]using vN ρ cs j
theorem ly(ρ:Nat->Nat): ∀cs:List SV,(SV.mp.mpL ρ cs).length=cs.length
 | []=>rfl
 | c::cs=>by simp[SV.mp.mpL,ly ρ cs]
theorem Hi{w:World}{S:Nat->Prop}{β:Nat->Value}{ρ:Nat->Nat}{x:SV}{v:Value}(h:cT w S (fun d=>β (ρ d)) x v):cT w S β (x.mp ρ) v:=by
 have key: ∀{cs:List SV} {Q:Nat->SV->Prop},(∀j c,cs[j]? =some c->Q j (c.mp ρ))-> ∀j c,(SV.mp.mpL ρ cs)[j]? =some c->Q j c:=fun hq j c hc=>by
  rw[vN,Tn]at hc;obtain⟨c0,h1,rfl⟩:=hc;exact hq j c0 h1
 induction h with
 | tr t v h=>exact .tr t v h
 | agg cs vs hl h ih=>exact .agg _ vs (by rw[ly];exact hl) fun j c v hc hv=>key (Q:=fun j c=> ∀v,vs[j]? =some v->cT w S β c v) (fun j c hc v hv=>ih j c v hc hv) j c hc v hv
 | tup cs vs hl h ih=>exact .tup _ vs (by rw[ly];exact hl) fun j c v hc hv=>key (Q:=fun j c=> ∀v,vs[j]? =some v->cT w S β c v) (fun j c hc v hv=>ih j c v hc hv) j c hc v hv
 | ptr cs o g b u hg h hc ih=>exact .ptr _ o g b u hg (fun j c hj=>key (Q:=fun j c=>cT w S β c (u j)) (fun j c hj=>ih j c hj) j c hj) fun j c hj=>key (Q:=fun j _=>w.cell? ⟨g,b+j,none⟩=some (u j)) (fun j c hj=>hc j c hj) j c hj
 | ref d o g h=>exact .ref _ o g h
 | eref d m i j g n c h=>exact .eref _ m i j g n c h
 | own d=>exact .own (ρ d)
 | clo f cs vs hl h ih=>exact .clo f _ vs (by rw[ly];exact hl) fun j c v hc hv=>key (Q:=fun j c=> ∀v,vs[j]? =some v->cT w S β c v) (fun j c hc v hv=>ih j c v hc hv) j c hc v hv
 | mth f cs vs hl h ih=>exact .mth f _ vs (by rw[ly];exact hl) fun j c v hc hv=>key (Q:=fun j c=> ∀v,vs[j]? =some v->cT w S β c v) (fun j c hc v hv=>ih j c v hc hv) j c hc v hv
 | any v h=>exact .any v h
theorem L7{w:World}{S:Nat->Prop}{β:Nat->Value}{ρ:Nat->Nat}{y:SV}{v:Value}(h:cT w S β y v): ∀x:SV,x.mp ρ=y->cT w S (fun d=>β (ρ d)) x v:=by
 have get: ∀{cs:List SV} {j:Nat} {c:SV},cs[j]? =some c->(SV.mp.mpL ρ cs)[j]? =some (c.mp ρ):=fun h=>by rw[vN,h];rfl
 induction h with
 | tr t v h=>
  intro x hx;cases x<;>simp only[SV.mp,reduceCtorEq]at hx;exact .tr _ v (by injection hx with hx;rw[hx];exact h)
 | agg cs vs hl h ih=>
  intro x hx;cases x<;>simp only[SV.mp,reduceCtorEq]at hx;injection hx with hx;subst hx;exact .agg _ vs (by rw[<-hl,ly]) fun j c v hc hv=>ih j _ v (get hc) hv c rfl
 | tup cs vs hl h ih=>
  intro x hx;cases x<;>simp only[SV.mp,reduceCtorEq]at hx;injection hx with hx;subst hx;exact .tup _ vs (by rw[<-hl,ly]) fun j c v hc hv=>ih j _ v (get hc) hv c rfl
 | ptr cs o g b u hg h hc ih=>
  intro x hx;cases x<;>simp only[SV.mp,reduceCtorEq]at hx;injection hx with hx hx2;subst hx hx2;exact .ptr _ _ g b u hg (fun j c hj=>ih j _ (get hj) c rfl) fun j c hj=>hc j _ (get hj)
 | ref d o g h=>
  intro x hx;cases x<;>simp only[SV.mp,reduceCtorEq]at hx;injection hx with hx hx2;subst hx hx2;exact .ref _ _ g h
 | eref d m i j g n c h=>
  intro x hx;cases x<;>simp only[SV.mp,reduceCtorEq]at hx;injection hx with hx hx2 hx3 hx4;subst hx hx2 hx3 hx4;exact .eref _ _ _ _ g n c h
 | own d=>
  intro x hx;cases x<;>simp only[SV.mp,reduceCtorEq]at hx;injection hx with hx;subst hx;exact .own (β:=fun d=>β (ρ d)) _
 | clo f cs vs hl h ih=>
  intro x hx;cases x<;>simp only[SV.mp,reduceCtorEq]at hx;injection hx with hx hx2;subst hx hx2;exact .clo _ _ vs (by rw[<-hl,ly]) fun j c v hc hv=>ih j _ v (get hc) hv c rfl
 | mth f cs vs hl h ih=>
  intro x hx;cases x<;>simp only[SV.mp,reduceCtorEq]at hx;injection hx with hx hx2;subst hx hx2;exact .mth _ _ vs (by rw[<-hl,ly]) fun j c v hc hv=>ih j _ v (get hc) hv c rfl
 | any v h=>
  intro x hx;cases x<;>simp only[SV.mp,reduceCtorEq]at hx;exact .any v h
def SO.mp(ρ:Nat->Nat):SO->SO
 | .box cs=> .box (SV.mp.mpL ρ cs)
 | .arr e m n es=> .arr e m n es
 | .deep e m n ss es=> .deep e m n ss es
 | .hol e m n ss es i j d=> .hol e m n ss es i j (ρ d)
theorem LI{ρ:Nat->Nat}{x:SO}{w:World}{v:Value}{g:Nat}:(x.mp ρ).ba w v g↔x.ba w v g:=by
 cases x<;>exact Iff.rfl
theorem QN{w:World}{S:Nat->Prop}{β:Nat->Value}{ρ:Nat->Nat}{x:SO}{v:Value}(h:cP w S (fun d=>β (ρ d)) x v):cP w S β (x.mp ρ) v:=by
 cases h with
 | box cs g vs T hg hl h=>
  refine .box _ g vs T hg (by rw[ly];exact hl) fun j c v hc hv=> ?_;rw[vN,Tn]at hc;obtain⟨c0,h1,rfl⟩:=hc;exact Hi (h j c0 v h1 hv)
 | arr e m n es v xs hn hown he h=>exact .arr e m n es v xs hn hown he h
 | deep e m n ss es v h=>exact .deep e m n ss es v h
 | hol e m n ss es i j d v xs h hu=>exact .hol e m n ss es i j _ v xs h hu
theorem QO{w:World}{S:Nat->Prop}{β:Nat->Value}{ρ:Nat->Nat}{x:SO}{v:Value}(h:cP w S β (x.mp ρ) v):cP w S (fun d=>β (ρ d)) x v:=by
 cases x with
 | box cs=>
  cases h with
  | box _ g vs T hg hl h=>exact .box cs g vs T hg (by rw[<-hl,ly]) fun j c v hc hv=>L7 (h j (c.mp ρ) v (by rw[vN,hc];rfl) hv) c rfl
 | arr e m n es=>cases h with | arr _ _ _ _ _ xs hn hown he h=>exact .arr e m n es v xs hn hown he h
 | deep e m n ss es=>cases h with | deep _ _ _ _ _ _ h=>exact .deep e m n ss es v h
 | hol e m n ss es i j d=>cases h with | hol _ _ _ _ _ _ _ _ _ xs h hu=>exact .hol e m n ss es i j d v xs h hu
variable {tb : Tb} {ν : SS}
end
def p9(P:Program)(f:FuncId)(args:List SV)(os os':List (Nat×SO))(outs:List SV):Prop:=
 ∀(w:World) (S:Nat->Prop) (β:Nat->Value) (vs:Array Value),vs.size=args.length->(∀b,S b->b<w.heap.size)->(∀d,(β d).cells= #[β d])->
  (∀(j:Nat) x v,args[j]? =some x->vs[j]? =some v->cT w S β x v)->
  (∀d x,(d,x)∈os->cP w S β x (β d))->(∀d x g,(d,x)∈os->x.ba w (β d) g-> ¬S g)->
  (∀d x d' x' g,(d,x)∈os->(d',x')∈os->x.ba w (β d) g->x'.ba w (β d') g->d=d')->mX S w->
  Calls P f vs w fun e w'=> ∃(β':Nat->Value) (us:List Value),e= .returned (EY us)/\(us.length=outs.length/\ ∀(i:Nat) x u,outs[i]? =some x->us[i]? =some u->cT w' (fun _=>False) β' x u)/\(∀d,d<3000000->β' d=β d)/\(∀d,(β' d).cells= #[β' d])/\dA (fun g=> ∃d x,(d,x)∈os/\x.ba w (β d) g) w w'/\
   (∀d x,(d,x)∈os'->cP w' (fun _=>False) β' x (β' d)/\ ∀g,x.ba w' (β' d) g->((∃d0 x0,(d0,x0)∈os/\x0.ba w (β d0) g/\(d<3000000↔d0<3000000))\/(3000000<=d/\w.heap.size<=g)))/\
   ∀d x d' x' g,(d,x)∈os'->(d',x')∈os'->x.ba w' (β' d) g->x'.ba w' (β' d') g->d=d'
section
variable {P : Program}
theorem JT{f:FuncId}{fn:Func}{code:Code}(hf:P.funcs[f]? =some fn)(hb:fn.body=some code){rs:List ResultVar}(hr:fn.results=rs.toArray){args outs:List SV}{os os':List (Nat×SO)}(hn:args.length<=fn.ntmps)(hn2:fn.ntmps<=1999999)(hos: ∀p∈os,(fn.ntmps<=p.1/\p.1<1999999)\/3000000<=p.1)(hsm:((∀p∈os,p.1<3000000->y9 p.2=true)/\ ∀p∈os',p.1<3000000->y9 p.2=true)\/ ∀p∈os,p.1<3000000)(hnm: ∀p∈os',(p.1<3000000-> ∃x,(p.1,x)∈os)/\ ∀k∈p.2.names,∃x,(k,x)∈os')(hon: ∀x∈outs,x.Flat/\ ∀k∈x.names,∃y,(k,y)∈os')(hfl: ∀p∈os',xO p.2)
  (h:swp P code (fun e σ=>(e= .normal\/e= .ret)/\(∀p∈os',p∈σ.o)/\rs.length=outs.length/\ ∀(i:Nat) t x,rs[i]? =some t->outs[i]? =some x->Holds P σ x t) ⟨fn.ntmps,args.zipIdx.map (fun p=>(p.2,p.1)),os⟩):p9 P f args os os' outs:=by
 intro w S β vs hsz hlt hone hv ho hpriv hap hgl;refine calls_of_wp hf hb ?_;have hget: ∀(j:Nat) v,vs[j]? =some v->(vs++VM (fn.ntmps - vs.size) undef).getD j undef=v:=by
  intro j v hj;rw[Uu,UG (TR.1 hj).1,hj];rfl
 let pin:List (Nat×Value):=(1999999,undef)::(os.filter (fun p=>decide (p.1<3000000))).map (fun p=>(p.1,β p.1))
 have hpin: ∀d v,(d,v)∈pin↔(d=1999999/\v=undef)\/((∃x,(d,x)∈os)/\d<3000000/\v=β d):=by
  intro d v;constructor
  ·intro hm;rcases Tx.1 hm with hm | hm
   ·injection hm with h1 h2;exact .inl ⟨h1,h2⟩
   ·obtain⟨p,hp,e⟩:=TF.1 hm;have hp:=Tu.1 hp;injection e with e1 e2;subst e1;exact .inr ⟨⟨p.2,hp.1⟩,by simpa using hp.2,e2.symm⟩
  ·rintro(⟨rfl,rfl⟩ | ⟨⟨x,hx⟩,hd,rfl⟩)
   ·exact TP
   ·exact T1 _ (TF.2 ⟨(d,x),Tu.2 ⟨hx,by simpa using hd⟩,rfl⟩)
 let ba:Nat->Nat->Prop:=fun d g=>(∃x,(d,x)∈os/\d<1999999/\x.ba w (β d) g)\/(d=1999999/\ ∃d0 x,(d0,x)∈os/\3000000<=d0/\x.ba w (β d0) g)
 have hfoot: ∀{d g},ba d g-> ∃d0 x,(d0,x)∈os/\x.ba w (β d0) g:=fun{d g} h=>by
  rcases h with⟨x,h1,_,h2⟩ | ⟨_,d0,x,h1,_,h2⟩
  ·exact⟨_,x,h1,h2⟩
  ·exact⟨_,x,h1,h2⟩
 have hrel:Rel ⟨w,S,pin,ba,fun d v hd=>by
   rcases(hpin d v).1 hd with⟨rfl,_⟩ | ⟨⟨x,hx⟩,hd3,_⟩
   ·omega
   ·rcases hos _ hx with h | h
    ·have:=h.2;omega
    ·have h:3000000<=d:=h;omega,⟨hgl,fun p hp ⟨j',v',_,h4⟩=>by
   obtain⟨d0,x,h5,h6⟩:=hfoot h4;exact hpriv d0 x p h5 h6 (hgl.mem hp)⟩,true⟩ S β ⟨fn.ntmps,args.zipIdx.map (fun p=>(p.2,p.1)),os⟩ ⟨vs++VM (fn.ntmps - vs.size) undef,[]⟩ w:=by
  refine⟨rfl,by simp[hsz];omega,hone,dA.refl _ _,fun _ h=>h,fun _ h=> .inl h,hlt,fun j x hj=> ?_,fun d x hd=>ho d x hd,fun d v hd=> ?_,fun d x g hd hg=> ?_,fun d x d' x' g hd hd' hg hg'=>hap d x d' x' g hd hd' hg hg'⟩
  ·obtain⟨⟨y,i⟩,h1,h2⟩:=TF.1 hj;injection h2 with h2 h3;subst h2 h3;have h1:=dG.1 h1;have hlt':=(Tl.1 h1).1;have hv1:vs[i]? =some (vs[i]'(by omega)):=TW _;refine⟨by simp;omega,?_⟩;rw[hget i _ hv1];exact hv i y _ h1 hv1
  ·rcases(hpin d v).1 hd with⟨rfl,_⟩ | ⟨⟨x,hx⟩,hd3,rfl⟩
   ·refine⟨hn2,fun x hx=> ?_⟩;rcases hos _ hx with h | h
    ·have:=h.2;omega
    ·have h:(3000000:Nat)<=1999999:=h;omega
   ·rcases hos _ hx with h | h
    ·exact⟨h.1,fun _ _=>rfl⟩
    ·have h:3000000<=d:=h;omega
  ·refine⟨hpriv d x g hd hg,.inr ?_⟩;rcases hos _ hd with h | h
   ·have h2:d<1999999:=h.2;exact⟨h.1,⟨d,β d,(hpin d _).2 (.inr ⟨⟨x,hd⟩,by omega,rfl⟩),.inl ⟨x,hd,h2,hg⟩⟩,fun h9=>by omega⟩
   ·have h:3000000<=d:=h;exact⟨by show fn.ntmps<=d;omega,⟨1999999,undef,(hpin _ _).2 (.inl ⟨rfl,rfl⟩),.inr ⟨rfl,d,x,hd,h,hg⟩⟩,fun _=>⟨rfl,.inr ⟨rfl,d,x,hd,h,hg⟩⟩⟩
 refine wp_mono (h _ _ _ ⟨S,β,hrel⟩) fun e a w' ⟨σ,⟨he,hfin,hrl,hres⟩,S2,β2,hr2⟩=> ?_
 let β':Nat->Value:=fun d=>if d<3000000 then β d else β2 d
 have hβ: ∀d x,(d,x)∈os'->β' d=β2 d:=fun d x hd=>by
  show(if d<3000000 then β d else β2 d)=β2 d;split
  ·rename_i h3;obtain⟨y,hy⟩:=(hnm _ hd).1 h3;exact((hr2.pin d (β d) ((hpin d _).2 (.inr ⟨⟨y,hy⟩,h3,rfl⟩))).2 x (hfin _ hd)).symm
  ·rfl
 have hpost: ∃v,(results fn a.tmps).run P w'= .ok v w'/\ ∃(β':Nat->Value) (us:List Value),Ending.returned v= .returned (EY us)/\(us.length=outs.length/\ ∀(i:Nat) x u,outs[i]? =some x->us[i]? =some u->cT w' (fun _=>False) β' x u)/\(∀d,d<3000000->β' d=β d)/\(∀d,(β' d).cells= #[β' d])/\dA (fun g=> ∃d x,(d,x)∈os/\x.ba w (β d) g) w w'/\
   (∀d x,(d,x)∈os'->cP w' (fun _=>False) β' x (β' d)/\ ∀g,x.ba w' (β' d) g->((∃d0 x0,(d0,x0)∈os/\x0.ba w (β d0) g/\(d<3000000↔d0<3000000))\/(3000000<=d/\w.heap.size<=g)))/\
   ∀d x d' x' g,(d,x)∈os'->(d',x')∈os'->x.ba w' (β' d) g->x'.ba w' (β' d') g->d=d':=by
  obtain⟨us,hul,hus⟩: ∃us:List Value,us.length=rs.length/\ ∀(i:Nat) t x u,rs[i]? =some t->outs[i]? =some x->us[i]? =some u->(qn a.tmps t).run P w'= .ok u w'/\cT w' S2 β2 x u:=by
   have hch: ∀i:Nat,∃u,∀t x,rs[i]? =some t->outs[i]? =some x->(qn a.tmps t).run P w'= .ok u w'/\cT w' S2 β2 x u:=by
    intro i;rcases ht:rs[i]? with _ | t
    ·exact⟨undef,fun t r h=>by simp at h⟩
    ·rcases hrr:outs[i]? with _ | x
     ·exact⟨undef,fun t r _ h=>by simp at h⟩
     ·obtain⟨u,h1,h2⟩:=py hr2 (hres i t x ht hrr);exact⟨u,fun t' r' h3 h4=>by injection h3 with h3;injection h4 with h4;subst h3 h4;exact⟨h1,h2⟩⟩
   obtain⟨f,hf⟩:=Classical.axiomOfChoice hch;refine⟨(TU rs.length).map f,by simp,fun i t r u h1 h2 h3=> ?_⟩;rw[Tq,Vq (Tl.1 h1).1]at h3;injection h3 with h3;subst h3;exact hf i t r h1 h2
  have hread: ∀(i:Nat) t u,rs[i]? =some t->us[i]? =some u->(qn a.tmps t).run P w'= .ok u w':=fun i t u h1 h2=>by
   have hlt:=(Tl.1 h1).1;exact(hus i t (outs[i]'(by omega)) u h1 (Tk _) h2).1
  refine⟨EY us,Bm hr hul hread,β',us,rfl,⟨by omega,fun i x u h1 h2=> ?_⟩,fun d hd=>if_pos hd,fun d=> ?_,?_,fun d x hd=> ?_,fun d x d' x' g hd hd' hg hg'=>hr2.apart d x d' x' g (hfin _ hd) (hfin _ hd') (by rw[<-hβ d x hd];exact hg) (by rw[<-hβ d' x' hd'];exact hg')⟩
  ·have hlt:=(Tl.1 h2).1;refine((hus i (rs[i]'(by omega)) x u (Tk _) h1 h2).2.free (hon x (Tm h1)).1).agree fun k hk=> ?_;obtain⟨y,hy⟩:=(hon x (Tm h1)).2 k hk;exact hβ k y hy
  ·show(if d<3000000 then β d else β2 d).cells= #[if d<3000000 then β d else β2 d];split
   ·exact hone d
   ·exact hr2.one d
  ·have hg:=hr2.grew;refine⟨hg.os,hg.tape,hg.output,hg.size,fun k hk hx=>hg.block k hk fun hX=>hx ?_⟩;obtain⟨j,_,_,h4⟩:=hX;exact hfoot h4
  ·have h1:=hfin _ hd;have h4:=hβ d x hd;have h5:=hr2.obj d x h1;rw[h4];refine⟨(h5.free (hfl _ hd)).agree fun k hk=> ?_,fun g hg=> ?_⟩
   ·obtain⟨y,hy⟩:=(hnm _ hd).2 k hk;exact hβ k y hy
   ·have h6:=hr2.priv d x g h1 hg;by_cases hd3:d<3000000
    ·obtain⟨y,hy⟩:=(hnm _ hd).1 hd3;rcases hsm with hsm | hsm
     ·refine .inl ⟨d,y,hy,?_,Iff.rfl⟩;rw[DM (hsm.1 _ hy hd3)];have h7:=(DM (hsm.2 _ hd hd3)).1 hg;rw[<-h4,show β' d=β d from if_pos hd3]at h7;exact h7
     ·rcases h6.2 with⟨h7,_⟩ | ⟨_,⟨j,v,_,h8⟩,_⟩
      ·have h9:=(hr2.pin d (β d) ((hpin d _).2 (.inr ⟨⟨y,hy⟩,hd3,rfl⟩))).1;omega
      ·obtain⟨d0,x0,h10,h11⟩:=hfoot h8;exact .inl ⟨d0,x0,h10,h11,⟨fun _=>hsm _ h10,fun _=>hd3⟩⟩
    ·rcases h6.2 with⟨_,h7⟩ | ⟨_,_,h8⟩
     ·exact .inr ⟨by omega,h7⟩
     ·rcases(h8 (by omega)).2 with⟨_,_,h9,_⟩ | ⟨_,d0,x0,h10,h12,h11⟩
      ·exact absurd h9 (by omega)
      ·exact .inl ⟨d0,x0,h10,h11,⟨fun h=>absurd h hd3,fun h=>absurd h12 (by omega)⟩⟩
 obtain⟨v,h1,h2⟩:=hpost;rcases he with rfl | rfl
 ·exact⟨hr2.defers,v,h1,h2⟩
 ·exact⟨hr2.defers,v,h1,h2⟩
variable {ops : Array Oper} {o : Oper} {σ : SS}
def QP(ρ:Nat->Nat):List SV->SV
 | [x]=>x.mp ρ
 | xs=> .tup (SV.mp.mpL ρ xs)
theorem QR{w:World}{S:Nat->Prop}{β:Nat->Value}{ρ:Nat->Nat}{outs:List SV}{us:List Value}(hl:us.length=outs.length)(h: ∀(i:Nat) x u,outs[i]? =some x->us[i]? =some u->cT w S (fun d=>β (ρ d)) x u):cT w S β (QP ρ outs) (EY us):=by
 have htup:cT w S β (.tup (SV.mp.mpL ρ outs)) (.tuple us.toArray):=by
  refine .tup _ _ (by rw[ly];simpa using hl.symm) fun j c v hc hv=> ?_;rw[vN,Tn]at hc;obtain⟨c0,h1,rfl⟩:=hc;exact Hi (h j c0 v h1 (by simpa using hv))
 match us,outs,hl,htup with
 | [u],[x],_,_=>exact Hi (h 0 x u rfl rfl)
 | [],[],_,htup=>exact htup
 | u::u'::us,x::x'::xs,_,htup=>exact htup
theorem Lj{fo:Operand}{args:Array Operand}{ts:Array TypeId}(ho:o.op= .call {callee:= .value fo,args:=args,argTypes:=ts})(hgd:gd ops σ o=some true)(hok:kf σ o=true)
  {f:FuncId} {caps xs zs outs:List SV} {os os' os2:List (Nat×SO)} (hfo:ev σ fo=some (.clo f caps)) (hxs:evL σ args.toList=some xs) (he:dH P f) (hc:p9 P f zs os os' outs) (ρ:Nat->Nat) (hlen:zs.length=xs.length+caps.length)
  (hA: ∀(c:Cx) (S Sc:Nat->Prop) (β:Nat->Value) (a:Act) (w:World),Rel c S β σ a w->(∀b,S b->Sc b)->(∀d z g,(d,z)∈σ.o->(∀p∈os,ρ p.1≠d)->z.ba w (β d) g->Sc g)-> ∀(j:Nat) x y v,(xs++caps)[j]? =some x->zs[j]? =some y->cT w S β x v->cT w Sc (fun d=>β (ρ d)) y v)
  (hO: ∀p∈os,∃z,(ρ p.1,z)∈σ.o/\(∀(w:World) (S:Nat->Prop) (β:Nat->Value) v,cP w S β z v->cP w S (fun d=>β (ρ d)) p.2 v)/\ ∀(w:World) v g,p.2.ba w v g->z.ba w v g)
  (hinj: ∀p∈os,∀q∈os,ρ p.1=ρ q.1->p.1=q.1) (hinj': ∀p∈os',∀q∈os',ρ p.1=ρ q.1->p.1=q.1) (hkey: ∀p∈os',p.1<3000000-> ∃x,(p.1,x)∈os)
  (hO2: ∀q∈os2,∃p∈os',q.1=ρ p.1/\(∀(w:World) (S:Nat->Prop) (β:Nat->Value) v,cP w S (fun d=>β (ρ d)) p.2 v->cP w S β q.2 v)/\ ∀(w:World) v g,q.2.ba w v g->p.2.ba w v g)
  (hnm: ∀p∈os',∀k,k=p.1\/k∈p.2.names->(3000000<=k/\ ∃y,(k,y)∈os')\/(k<3000000/\ ∀q∈os',3000000<=q.1->ρ q.1≠ρ k))
  (hon: ∀x∈outs,∀k∈x.names,(3000000<=k/\ ∃y,(k,y)∈os')\/(k<3000000/\ ∀q∈os',3000000<=q.1->ρ q.1≠ρ k))
  {t':List (Nat×SV)} (ht': ∀p∈t',p∈σ.t)
  (hfr:(∀p∈t',∀q∈os',3000000<=q.1->ρ q.1∉p.2.names)/\ ∀p∈σ.o.filter (fun p=> !(os.any fun q=>ρ q.1==p.1)),∀q∈os',3000000<=q.1->ρ q.1≠p.1/\ρ q.1∉p.2.names)
  (hside:((∀p∈os,ρ p.1<σ.n)/\ ∀p∈os',ρ p.1<σ.n\/3000000<=ρ p.1)\/((∀p∈os,σ.n<=ρ p.1/\(p.1<3000000↔ρ p.1<3000000))/\ ∀p∈os',σ.n<=ρ p.1/\(p.1<3000000↔ρ p.1<3000000))):
  af P ops o σ (SS.app ⟨σ.n,t',os2++σ.o.filter (fun p=> !(os.any fun q=>ρ q.1==p.1))⟩ o.dst (some (QP ρ outs,none))):=by
 intro cx a w ⟨S,β,hr⟩;unfold iQ;rw[px hr hgd,if_pos rfl];obtain⟨h4,h5⟩:=tM hr hxs;have hfv:=bD hr hfo;generalize hfe:a.eval fo=fv at hfv;cases hfv with
 | clo f caps vs hvl hvh=>
  have hrun:(execOp a.eval o).run P w= .ok (.enter f (args.map a.eval++vs)) w:=by
   simp only[execOp,ho,resolve,hfe,Deferred.ofValue,Sem.run_bind,Sem.run_pure,Result.andThen_ok,invoke];rw[show(#[]:Array Value)++args.map a.eval=args.map a.eval from by simp];exact he _ _
  have hxl:xs.length=args.size:=by simpa using h4
  have hval: ∀(j:Nat) p v,(xs++caps)[j]? =some p->(args.map a.eval++vs)[j]? =some v->cT w S β p v:=by
   intro j p v hp hv;by_cases hlt:j<xs.length
   ·rw[TE hlt]at hp;rw[UG (by simp;omega),U5,Tn]at hv;obtain⟨op,hop,rfl⟩:=hv;exact h5 j op p (by simpa using hop) hp
   ·rw[Ts (by omega)]at hp;rw[Vo (by simp;omega)]at hv;refine hvh (j - xs.length) p v hp ?_;simpa [hxl]using hv
  have hsz:(args.map a.eval++vs).size=zs.length:=by simp;omega
  have hfz: ∀d x,(d,x)∈os-> ∀g,x.ba w (β (ρ d)) g-> ∃z,(ρ d,z)∈σ.o/\z.ba w (β (ρ d)) g:=fun d x hd g hg=>by
   obtain⟨z,hz,_,h7⟩:=hO _ hd;exact⟨z,hz,h7 _ _ _ hg⟩
  let Sc:Nat->Prop:=fun b=>S b\/ ∃d z,(d,z)∈σ.o/\(∀p∈os,ρ p.1≠d)/\z.ba w (β d) b
  have hSc: ∀b,S b->Sc b:=fun b hb=> .inl hb;have hcall:=hc w Sc (fun d=>β (ρ d)) (args.map a.eval++vs) hsz (fun b hb=>by
    rcases hb with hb | ⟨d,z,hz,_,hg⟩
    ·exact hr.lt b hb
    ·exact(hr.obj d z hz).lt hg) (fun d=>hr.one (ρ d)) (fun j y v hy hv=>by
    have hjl:=(Tl.1 hy).1;have hx:(xs++caps)[j]? =some ((xs++caps)[j]'(by simp;omega)):=Tk _;exact hA cx S Sc β a w hr hSc (fun d z g hz hn hg=> .inr ⟨d,z,hz,hn,hg⟩) j _ y v hx hy (hval j _ v hx hv)) (fun d x hd=>by
    obtain⟨z,hz,h6,_⟩:=hO _ hd;exact(h6 w S β _ (hr.obj _ z hz)).keep (fun _ _=>rfl) hSc) (fun d x g hd hg=>by
    obtain⟨z,hz,h6⟩:=hfz d x hd g hg;rintro(h7 | ⟨d',z',hz',hn,h7⟩)
    ·exact(hr.priv _ z g hz h6).1 h7
    ·exact hn _ hd (hr.apart _ z _ z' g hz hz' h6 h7)) (fun d x d' x' g hd hd' hg hg'=>by
    obtain⟨z,hz,h6⟩:=hfz d x hd g hg;obtain⟨z',hz',h6'⟩:=hfz d' x' hd' g hg';exact hinj _ hd _ hd' (hr.apart _ z _ z' g hz hz' h6 h6')) (hr.xj.mono hSc)
  unfold Oper.wp;rw[hrun];refine hcall.mono fun e w' ⟨βc,us,he',⟨hul,hus⟩,hβc,hβ1,hg,hob,hapt⟩=> ?_;subst he'
  let β2:Nat->Value:=fun d=>match os'.find? (fun p=>decide (3000000<=p.1)&&(ρ p.1==d))with
   | some p=>βc p.1
   | none=>β d
  have hsame: ∀{k},(∀q∈os',3000000<=q.1->ρ q.1≠k)->β2 k=β k:=fun{k} h=>by
   show(match os'.find? (fun p=>decide (3000000<=p.1)&&(ρ p.1==k))with | some p=>βc p.1 | none=>β k)=β k;rw[Vs.2 fun q hq=> ?_];intro h2;rw[Tp]at h2;exact h q hq (by simpa using h2.1) (by simpa using h2.2)
  have hfree: ∀{k y},(k,y)∈os'->3000000<=k->β2 (ρ k)=βc k:=fun{k y} hk h3=>by
   show(match os'.find? (fun p=>decide (3000000<=p.1)&&(ρ p.1==ρ k))with | some p=>βc p.1 | none=>β (ρ k))=βc k;rcases hfd:os'.find? (fun p=>decide (3000000<=p.1)&&(ρ p.1==ρ k))with _ | q
   ·have:=Vs.1 hfd _ hk;simp[h3]at this
   ·have h1:=List.find?_some hfd;have h2:=List.mem_of_find?_eq_some hfd;rw[Tp]at h1;rw[hfd];show βc q.1=βc k;rw[hinj' q h2 _ hk (by simpa using h1.2)]
  have hβ3: ∀k,((3000000<=k/\ ∃y,(k,y)∈os')\/(k<3000000/\ ∀q∈os',3000000<=q.1->ρ q.1≠ρ k))->β2 (ρ k)=βc k:=fun k hk=>by
   rcases hk with⟨h6,y,h7⟩ | ⟨h6,h7⟩
   ·exact hfree h7 h6
   ·rw[hβc k h6];exact hsame h7
  have hβ2: ∀p∈os',∀k,k=p.1\/k∈p.2.names->β2 (ρ k)=βc k:=fun p hp k hk=>hβ3 k (hnm p hp k hk);have hSk: ∀b,S b->w'.heap[b]? =w.heap[b]? :=fun b hb=>hg.block b (hr.lt b hb) fun⟨d,x,hd,hf⟩=>by
   obtain⟨z,hz,h6⟩:=hfz d x hd b hf;exact(hr.priv _ z b hz h6).1 hb
  have hout: ∀{k y},(k,y)∈σ.o.filter (fun p=> !(os.any fun q=>ρ q.1==p.1))->(k,y)∈σ.o/\(∀p∈os,ρ p.1≠k)/\(∀q∈os',3000000<=q.1->ρ q.1≠k)/\ ∀q∈os',3000000<=q.1->ρ q.1∉y.names:=fun{k y} h=>by
   have h2:=Tu.1 h;refine⟨h2.1,fun p hp e=> ?_,fun q hq h3=>(hfr.2 _ h q hq h3).1,fun q hq h3=>(hfr.2 _ h q hq h3).2⟩;have h3:(os.any fun q=>ρ q.1==k)=true:=Uh.2 ⟨p,hp,by simpa using e⟩;have h4:=h2.2;simp only[h3,Bool.not_true]at h4;cases h4
  have hfo': ∀{k y},(k,y)∈σ.o->(∀p∈os,ρ p.1≠k)-> ∀b,y.ba w (β k) b->w'.heap[b]? =w.heap[b]? :=fun{k y} h1 h2 b hb=>hg.block b ((hr.obj k y h1).lt hb) fun⟨d,x,hd,hf⟩=>by
   obtain⟨z,hz,h6⟩:=hfz d x hd b hf;exact h2 _ hd (hr.apart _ z k y b hz h1 h6 hb)
  have hff: ∀{k y},(k,y)∈σ.o->(∀p∈os,ρ p.1≠k)-> ∀{b},y.ba w' (β k) b->y.ba w (β k) b:=fun{k y} h1 h2 {b} hb=>((hr.obj k y h1).ba (hfo' h1 h2)).1 hb;have hwas: ∀{k y},(k,y)∈os2-> ∃p∈os',k=ρ p.1/\β2 k=βc p.1/\cP w' S β2 y (β2 k)/\ ∀g,y.ba w' (β2 k) g->p.2.ba w' (βc p.1) g/\((∃d0 x0 z0,(d0,x0)∈os/\(ρ d0,z0)∈σ.o/\z0.ba w (β (ρ d0)) g/\(p.1<3000000↔d0<3000000))\/(3000000<=p.1/\w.heap.size<=g)):=fun{k y} h=>by
   obtain⟨p,hp,hk1,h6,h7⟩:=hO2 _ h;obtain⟨h8,h9⟩:=hob p.1 p.2 hp;have hk1:k=ρ p.1:=hk1;subst hk1;have e1:=hβ2 p hp p.1 (.inl rfl);refine⟨p,hp,rfl,e1,?_,fun g hgf=> ?_⟩
   ·rw[e1];exact h6 _ _ _ _ ((h8.keep (fun _ _=>rfl) fun _ h=>h.elim).agree fun k hk=>hβ2 p hp k (.inr hk))
   ·rw[e1]at hgf;have h11:=h9 g (h7 _ _ _ hgf);refine⟨h7 _ _ _ hgf,?_⟩;rcases h11 with⟨d0,x0,h11,h12,h13⟩ | h11
    ·obtain⟨z,hz,h14⟩:=hfz d0 x0 h11 g h12;exact .inl ⟨d0,x0,z,h11,hz,h14,h13⟩
    ·exact .inr h11
  have hw:=hr.grew.size;have hpin2: ∀j v,(j,v)∈cx.pin-> ∀q∈os',3000000<=q.1->ρ q.1≠j:=fun j v hj q hq h3 e=>by
   have h6:=(hr.pin j v hj).1;have h7:=cx.lt j v hj;rcases hside with⟨_,h⟩ | ⟨_,h⟩
   ·have:=h q hq;omega
   ·have:=(h q hq).2;omega
  have hr2:Rel cx S β2 ⟨σ.n,t',os2++σ.o.filter (fun p=> !(os.any fun q=>ρ q.1==p.1))⟩ a w':=by
   refine⟨hr.defers,hr.size,fun k=> ?_,hr.grew.of hg (fun k hX hlt=> ?_),hr.s0,hr.s1,fun b hb=>Ud (hr.lt b hb) hg.size,fun i y hi=>⟨(hr.tmp i y (ht' _ hi)).1,((hr.tmp i y (ht' _ hi)).2.keep hSk fun _ h=>h).agree fun d hd=>hsame fun q hq h3 e=>hfr.1 _ hi q hq h3 (e▸hd)⟩,fun k y hk=> ?_,fun j v hj=>⟨(hr.pin j v hj).1,fun y hy=> ?_⟩,fun k y g' hk hg'=> ?_,fun k y k' y' g' hk1 hk2 hg1 hg2=> ?_⟩
   ·have hcell: ∀z:Option (Nat×SO),(match z with | some p=>βc p.1 | none=>β k).cells= #[match z with | some p=>βc p.1 | none=>β k]:=fun z=>by
     cases z with
     | none=>exact hr.one k
     | some p=>exact hβ1 _
    exact hcell _
   ·obtain⟨d,x,hd,hf⟩:=hX;obtain⟨z,hz,h6⟩:=hfz d x hd k hf;rcases(hr.priv _ z k hz h6).2 with⟨_,h⟩ | ⟨_,h⟩
    ·omega
    ·exact h.1
   ·rcases TN.1 hk with hk | hk
    ·obtain⟨_,_,_,_,h6,_⟩:=hwas hk;exact h6
    ·obtain⟨h1,h2,h3,h4⟩:=hout hk;rw[hsame h3];refine((hr.obj k y h1).keep (fun b hb=> ?_) fun _ h=>h).agree fun d hd=>hsame fun q hq h5 e=>h4 q hq h5 (e▸hd);rcases hb with hb | hb
     ·exact hSk b hb
     ·exact hfo' h1 h2 b hb
   ·rw[hsame (hpin2 j v hj)];rcases TN.1 hy with hy | hy
    ·obtain⟨p,hp,hj1,_,_⟩:=hwas hy;have hp3:p.1<3000000:=by
      rcases Vj p.1 3000000 with h | h
      ·exact h
      ·exact absurd hj1.symm (hpin2 j v hj p hp h)
     obtain⟨x,hx⟩:=hkey p hp hp3;obtain⟨z,hz,_⟩:=hO _ hx;have hz:(ρ p.1,z)∈σ.o:=hz;rw[<-hj1]at hz;exact(hr.pin j v hj).2 z hz
    ·exact(hr.pin j v hj).2 y (hout hy).1
   ·rcases TN.1 hk with hk | hk
    ·obtain⟨p,hp,hj1,_,_,h7⟩:=hwas hk;obtain⟨_,h9⟩:=h7 g' hg';rcases h9 with⟨d0,x0,z0,h9,h10,h11,h3m⟩ | ⟨h9,h10⟩
     ·refine⟨(hr.priv _ z0 g' h10 h11).1,?_⟩;have h12:=(hr.priv _ z0 g' h10 h11).2;show((k<σ.n\/3000000<=k)/\cx.w0.heap.size<=g')\/(σ.n<=k/\cx.Y k g');rcases hside with⟨hs,hs2⟩ | ⟨hs,hs2⟩
      ·have e1:ρ d0<σ.n:=hs (d0,x0) h9;have e2:=hs2 p hp;rcases h12 with⟨_,h13⟩ | ⟨h13,_⟩
       ·exact .inl ⟨by rw[hj1];exact e2,h13⟩
       ·omega
      ·have e1:=hs (d0,x0) h9;have e2:=hs2 p hp;have e1':σ.n<=ρ d0:=e1.1;rcases h12 with⟨h14,h13⟩ | ⟨_,h13⟩
       ·rcases Vj p.1 3000000 with h15 | h15
        ·have e3:ρ d0<3000000:=e1.2.1 (h3m.1 h15);omega
        ·exact .inl ⟨.inr (by rw[hj1];have:=e2.2;omega),h13⟩
       ·exact .inr ⟨by rw[hj1];exact e2.1,h13.1,fun h15=>h13.2 (by
        rw[hj1]at h15;have e1b:d0<3000000↔ρ d0<3000000:=e1.2;have e2b:=e2.2;omega)⟩
     ·refine⟨fun h=>absurd (hr.lt g' h) (by omega),?_⟩;show((k<σ.n\/3000000<=k)/\cx.w0.heap.size<=g')\/(σ.n<=k/\cx.Y k g');refine .inl ⟨?_,Ut hw h10⟩;rw[hj1];rcases hside with⟨_,h⟩ | ⟨_,h⟩
      ·exact h p hp
      ·exact .inr (by have:=(h p hp).2;omega)
    ·obtain⟨h1,h2,h3,_⟩:=hout hk;rw[hsame h3]at hg';exact hr.priv k y g' h1 (hff h1 h2 hg')
   ·have hmix: ∀{k y k' y'},(k,y)∈os2->(k',y')∈σ.o.filter (fun p=> !(os.any fun q=>ρ q.1==p.1))->y.ba w' (β2 k) g'->y'.ba w' (β2 k') g'->False:=fun{k y k' y'} h1 h2 h3 h4=>by
     obtain⟨_,_,_,_,_,h7⟩:=hwas h1;obtain⟨_,h8⟩:=h7 g' h3;obtain⟨h12,h13,h14,_⟩:=hout h2;rw[hsame h14]at h4;rcases h8 with⟨d0,x0,z0,h9,h10,h11,_⟩ | ⟨_,h8⟩
     ·exact h13 _ h9 (hr.apart _ z0 k' y' g' h10 h12 h11 (hff h12 h13 h4))
     ·have:=(hr.obj k' y' h12).lt (hff h12 h13 h4);omega
    rcases TN.1 hk1 with hk1 | hk1<;>rcases TN.1 hk2 with hk2 | hk2
    ·obtain⟨p,hp,e1,_,_,h7⟩:=hwas hk1;obtain⟨q,hq,e2,_,_,h8⟩:=hwas hk2;rw[e1,e2,hapt p.1 p.2 q.1 q.2 g' hp hq (h7 g' hg1).1 (h8 g' hg2).1]
    ·exact(hmix hk1 hk2 hg1 hg2).elim
    ·exact(hmix hk2 hk1 hg2 hg1).elim
    ·obtain⟨h1,h2,h3,_⟩:=hout hk1;obtain⟨h4,h5,h6,_⟩:=hout hk2;rw[hsame h3]at hg1;rw[hsame h6]at hg2;exact hr.apart k y k' y' g' h1 h4 (hff h1 h2 hg1) (hff h4 h5 hg2)
  have hret:cT w' S β2 (QP ρ outs) (EY us):=QR hul fun i x u h1 h2=>((hus i x u h1 h2).keep (fun _ _=>rfl) fun _ h=>h.elim).agree fun k hk=>hβ3 k (hon x (Tm h1) k hk);cases hdst:o.dst with
  | none=>exact⟨_,_,hr2⟩
  | some k=>
   refine⟨_,_,Rel.put hr2 ?_ hret⟩;unfold kf at hok;rw[hdst]at hok;simpa using hok
def K7(σ:SS):List Bool->List SV->List (Option SV)
 | true::fl,x::xs=>ro2 σ x::K7 σ fl xs
 | false::fl,x::xs=>some x::K7 σ fl xs
 | _,_=>[]
def Lb(ρ:Nat->Nat):List Bool->List SV->List (Option SV)
 | true::fl,z::zs=>some z::Lb ρ fl zs
 | false::fl,z::zs=>some (z.mp ρ)::Lb ρ fl zs
 | _,_=>[]
def thB(σ:SS)(ks:List Nat)(l:List Nat):Bool:=l.all fun k=> !ks.contains k&&σ.o.all fun p=>p.1 !=k || p.2.names.all fun q=> !ks.contains q
def thA(σ:SS)(ks:List Nat):List Bool->List SV->Bool
 | true::fl,x::xs=>thB σ ks x.names&&thA σ ks fl xs
 | false::fl,_::xs=>thA σ ks fl xs
 | _,_=>true
theorem args_at{σ:SS}{ρ:Nat->Nat}{ks:List Nat}: ∀{fl:List Bool} {xs zs:List SV},K7 σ fl xs=Lb ρ fl zs->V2 xs.length fl.length=true->V2 zs.length fl.length=true->thA σ ks fl xs=true-> ∀(j:Nat) x z,xs[j]? =some x->zs[j]? =some z->(x=z.mp ρ)\/(ro2 σ x=some z/\thB σ ks x.names=true)
 | [],[],_,_,_,_,_=>fun j x z h=>by simp at h
 | true::fl,x0::xs,z0::zs,h,h1,h2,h3=>fun j x z hx hz=>by
  have h3:(thB σ ks x0.names&&thA σ ks fl xs)=true:=h3;rw[Tp]at h3;have h:ro2 σ x0::K7 σ fl xs=some z0::Lb ρ fl zs:=h;injection h with h4 h5
  match j with
  | 0=>
   injection hx with hx;injection hz with hz;subst hx hz;exact .inr ⟨h4,h3.1⟩
  | j+1=>exact args_at h5 h1 h2 h3.2 j x z hx hz
 | false::fl,x0::xs,z0::zs,h,h1,h2,h3=>fun j x z hx hz=>by
  have h:some x0::K7 σ fl xs=some (z0.mp ρ)::Lb ρ fl zs:=h;injection h with h4 h5
  match j with
  | 0=>
   injection hx with hx;injection hz with hz;subst hx hz;injection h4 with h4;exact .inl h4
  | j+1=>exact args_at h5 h1 h2 h3 j x z hx hz
def rho(l:List (Nat×Nat))(k:Nat):Nat:=match find k l with
 | some x=>x
 | none=>k
def kOk(ρ:Nat->Nat)(os':List (Nat×SO))(k:Nat):Bool:=bif Uv 3000000 k then os'.any (fun q=>q.1==k)else os'.all fun q=> !(Uv 3000000 q.1) || !(ρ q.1==ρ k)
def wOk(ρ:Nat->Nat)(σ:SS)(os os':List (Nat×SO))(outs:List SV):Bool:=
 ((os.all fun p=>os.all fun q=> !(ρ p.1==ρ q.1) || p.1==q.1)&&os'.all fun p=>os'.all fun q=> !(ρ p.1==ρ q.1) || p.1==q.1)&&
 ((os'.all fun p=>Uv 3000000 p.1 || os.any fun q=>q.1==p.1)&&(os'.all fun p=>(p.1::p.2.names).all (kOk ρ os'))&&outs.all fun x=>x.names.all (kOk ρ os'))&&
 ((σ.o.filter (fun p=> !(os.any fun q=>ρ q.1==p.1))).all fun p=>os'.all fun q=> !(Uv 3000000 q.1) || (!(ρ q.1==p.1)&& !p.2.names.contains (ρ q.1)))&&
 (((os.all fun p=>T8 (ρ p.1) σ.n)&&os'.all fun p=>T8 (ρ p.1) σ.n || Uv 3000000 (ρ p.1)) || ((os.all fun p=>Uv σ.n (ρ p.1)&&(T8 p.1 3000000==T8 (ρ p.1) 3000000))&&os'.all fun p=>Uv σ.n (ρ p.1)&&(T8 p.1 3000000==T8 (ρ p.1) 3000000)))
theorem Ou{ρ:Nat->Nat}{os':List (Nat×SO)}{k:Nat}(h:kOk ρ os' k=true):(3000000<=k/\ ∃y,(k,y)∈os')\/(k<3000000/\ ∀q∈os',3000000<=q.1->ρ q.1≠ρ k):=by
 unfold kOk at h;cases hb:Uv 3000000 k with
 | true=>
  rw[hb]at h;obtain⟨q,hq,e⟩:=Uh.1 h;have e:q.1=k:=by simpa using e
  exact .inl ⟨T3 hb,q.2,by rw[<-e];exact hq⟩
 | false=>
  rw[hb]at h;refine .inr ⟨?_,fun q hq h3 e=> ?_⟩
  ·rcases Vj k 3000000 with h1 | h1
   ·exact h1
   ·rw[WG h1]at hb;cases hb
  ·have h1:=Tt.1 h q hq;rw[WG h3]at h1;simp[e]at h1
theorem wno{os':List (Nat×SO)}{f:Nat->Bool}{q:Nat×SO}(h:os'.all (fun q=> !(Uv 3000000 q.1) || f q.1)=true)(hq:q∈os')(h3:3000000<=q.1):f q.1=true:=by
 have h1:=Tt.1 h q hq;rw[WG h3]at h1;simpa using h1
def wcT(ρ:Nat->Nat)(σ:SS)(os':List (Nat×SO)):List (Nat×SV):=σ.t.filter fun p=>os'.all fun q=> !(Uv 3000000 q.1) || !p.2.names.contains (ρ q.1)
def wcS(ρ:Nat->Nat)(σ:SS)(o:Oper)(os os':List (Nat×SO))(outs:List SV):SS:=SS.app ⟨σ.n,wcT ρ σ os',os'.map (fun p=>(ρ p.1,p.2.mp ρ))++σ.o.filter (fun p=> !(os.any fun q=>ρ q.1==p.1))⟩ o.dst (some (QP ρ outs,none))
def F9(σ:SS)(o:Oper)(f:FuncId):Option (List SV):=match o.op with
 | .call {callee:= .value fo,args:=args,argTypes:=_}=>match ev σ fo,evL σ args.toList with
  | some (.clo f' caps),some xs=>bif V2 f' f then some (xs++caps)else none
  | _,_=>none
 | _=>none
theorem PG{f:FuncId}{zs:List SV}(h:F9 σ o f=some zs): ∃fo args ts caps xs,o.op= .call {callee:= .value fo,args:=args,argTypes:=ts}/\evL σ args.toList=some xs/\ev σ fo=some (.clo f caps)/\zs=xs++caps:=by
 unfold F9 at h;split at h
 ·rename_i fo args ts hop;split at h
  ·rename_i f' caps xs h1 h2;cases hb:V2 f' f with
   | true=>
    rw[hb]at h;injection h with h;have:=UY hb;subst this;exact⟨fo,args,ts,caps,xs,hop,h2,h1,h.symm⟩
   | false=>
    rw[hb]at h;cases h
  ·cases h
 ·cases h
theorem Th(ρl:List (Nat×Nat))(fl:List Bool){f:FuncId}{xs zs outs:List SV}{os os':List (Nat×SO)}(he:dH P f)(hc:p9 P f zs os os' outs)
  (hgd:gd ops σ o=some true:=by kernel_rfl) (hok:kf σ o=true:=by kernel_rfl) (hx:F9 σ o f=some xs:=by kernel_rfl) (hz:K7 σ fl xs=Lb (rho ρl) fl zs:=by kernel_rfl) (hl:(V2 xs.length fl.length,V2 zs.length fl.length)=(true,true):=by kernel_rfl) (hth:thA σ (os.map fun p=>rho ρl p.1) fl xs=true:=by kernel_rfl)
  (hos:oh (os.map fun p=>rho ρl p.1) σ.o=os.map (fun p=>(rho ρl p.1,p.2.mp (rho ρl))):=by kernel_rfl) (hw:wOk (rho ρl) σ os os' outs=true:=by kernel_rfl):
  af P ops o σ (wcS (rho ρl) σ o os os' outs):=by
 generalize rho ρl=ρ at*;obtain⟨fo,args,ts,caps,xs0,hop,hxs,hfo,rfl⟩:=PG hx;have hl1:V2 (xs0++caps).length fl.length=true:=congrArg Prod.fst hl;have hl2:V2 zs.length fl.length=true:=congrArg Prod.snd hl;have hm: ∀p∈os,(ρ p.1,p.2.mp ρ)∈σ.o:=fun p hp=>js (k:=os.map fun p=>ρ p.1) (by rw[hos];exact TF.2 ⟨p,hp,rfl⟩);unfold wOk at hw;simp only[Tp]at hw;obtain⟨⟨⟨⟨hw1,hw2⟩,⟨hw3,hw4⟩,hw5⟩,hw7⟩,hw8⟩:=hw;have hinj: ∀(l:List (Nat×SO)),(l.all fun p=>l.all fun q=> !(ρ p.1==ρ q.1) || p.1==q.1)=true-> ∀p∈l,∀q∈l,ρ p.1=ρ q.1->p.1=q.1:=fun l h p hp q hq e=>by
  have h1:=Tt.1 (Tt.1 h p hp) q hq;rw[TT]at h1;rcases h1 with h1 | h1
  ·simp[e]at h1
  ·simpa using h1
 refine Lj (os2:=os'.map (fun p=>(ρ p.1,p.2.mp ρ))) hop hgd hok hfo hxs he hc ρ ?_ (fun c S Sc β a w hr hS hSc j x y v h1 h2 h3=> ?_) (fun p hp=>⟨_,hm p hp,fun w S β v h=>QO h,fun w v g h=>LI.2 h⟩) (hinj os hw1) (hinj os' hw2) (fun p hp h3=> ?_) (fun q hq=> ?_) (fun p hp k hk=> ?_) (fun x hx k hk=> ?_) (t':=wcT ρ σ os') (fun p hp=>(Tu.1 hp).1) ⟨fun p hp q hq h3=> ?_,fun p hp q hq h3=> ?_⟩ ?_
 ·have e1:=UY hl1;have e2:=UY hl2;rw[Tz]at e1;omega
 ·rcases args_at hz hl1 hl2 hth j x y h1 h2 with h4 | ⟨h4,h5⟩
  ·subst h4;exact(L7 h3 y rfl).keep (fun _ _=>rfl) hS
  ·have hT:Ge w Sc β σ x.names:=fun d hd z hz=>by
    have h6:=Tt.1 h5 d hd;rw[Tp]at h6;have hno: ∀k,((os.map fun p=>ρ p.1).contains k)=false-> ∀p∈os,ρ p.1≠k:=fun k hk p hp e=>by
     have:(os.map fun p=>ρ p.1).contains k=true:=by
      rw[List.contains_iff_mem];exact TF.2 ⟨p,hp,e⟩
     rw[hk]at this;cases this
    refine⟨fun g hg=>hSc d z g hz (hno d (by simpa using h6.1)) hg,fun k hk z' hz' g hg=>hSc k z' g hz' (hno k ?_) hg⟩;have h7:=Tt.1 h6.2 _ hz;rw[TT]at h7;rcases h7 with h7 | h7
    ·simp at h7
    ·have:=Tt.1 h7 k hk;simpa using this
   obtain⟨h6,h7⟩:=O2 hr hS h4 hT;exact(h7 v h3).agree fun d hd=>by rw[h6]at hd;cases hd
 ·have h4:=Tt.1 hw3 p hp;rw[TT]at h4;rcases h4 with h4 | h4
  ·have:=T3 h4;omega
  ·obtain⟨q,hq,e⟩:=Uh.1 h4;have e:q.1=p.1:=by simpa using e
   exact⟨q.2,by rw[<-e];exact hq⟩
 ·obtain⟨p,hp,rfl⟩:=TF.1 hq;exact⟨p,hp,rfl,fun w S β v h=>QN h,fun w v g h=>LI.1 h⟩
 ·refine Ou (Tt.1 (Tt.1 hw4 p hp) k ?_);rcases hk with rfl | hk
  ·exact TP
  ·exact T1 _ hk
 ·exact Ou (Tt.1 (Tt.1 hw5 x hx) k hk)
 ·have h4:=wno (f:=fun k=> !p.2.names.contains (ρ k)) (Tu.1 hp).2 hq h3;simpa using h4
 ·have h4:=wno (f:=fun k=> !(ρ k==p.1)&& !p.2.names.contains (ρ k)) (Tt.1 hw7 p hp) hq h3;rw[Tp]at h4;exact⟨by simpa using h4.1,by simpa using h4.2⟩
 ·rw[TT,Tp,Tp,Tt,Tt,Tt,Tt]at hw8;rcases hw8 with⟨h1,h2⟩ | ⟨h1,h2⟩
  ·refine .inl ⟨fun p hp=>by simpa using h1 p hp,fun p hp=> ?_⟩;have:=h2 p hp;rw[TT]at this;exact this.imp (fun h=>by simpa using h) T3
  ·have hib: ∀{a b:Nat},(T8 a 3000000==T8 b 3000000)=true->(a<3000000↔b<3000000):=fun{a b} h=>by
    have h:T8 a 3000000=T8 b 3000000:=by simpa using h
    have h2:(T8 a 3000000=true)↔(T8 b 3000000=true):=by rw[h]
    simpa using h2
   refine .inr ⟨fun p hp=> ?_,fun p hp=> ?_⟩
   ·have:=h1 p hp;rw[Tp]at this;exact⟨T3 this.1,hib this.2⟩
   ·have:=h2 p hp;rw[Tp]at this;exact⟨T3 this.1,hib this.2⟩
def wxs(σ:SS)(o:Oper)(f:FuncId):List SV:=(F9 σ o f).getD []
theorem x_w(ρl:List (Nat×Nat))(fl:List Bool){f:FuncId}{zs outs:List SV}{os os':List (Nat×SO)}(he:dH P f)(hc:p9 P f zs os os' outs)
  (hgd:gd ops σ o=some true:=by kernel_rfl) (hok:kf σ o=true:=by kernel_rfl) (hx:(F9 σ o f).isSome=true:=by kernel_rfl) (hz:K7 σ fl (wxs σ o f)=Lb (rho ρl) fl zs:=by kernel_rfl) (hl:(V2 (wxs σ o f).length fl.length,V2 zs.length fl.length)=(true,true):=by kernel_rfl) (hth:thA σ (os.map fun p=>rho ρl p.1) fl (wxs σ o f)=true:=by kernel_rfl)
  (hos:oh (os.map fun p=>rho ρl p.1) σ.o=os.map (fun p=>(rho ρl p.1,p.2.mp (rho ρl))):=by kernel_rfl) (hw:wOk (rho ρl) σ os os' outs=true:=by kernel_rfl):
  af P ops o σ (wcS (rho ρl) σ o os os' outs):=Th ρl fl he hc hgd hok (by
   unfold wxs;cases h:F9 σ o f with
   | none=>rw[h]at hx;cases hx
   | some x=>rfl) hz hl hth hos hw
structure Rr (P:Program) (rs:List ResultVar) (os':List (Nat×SO)) (outs:List SV) (σ:SS):Prop where
 obj: ∀p∈os',p∈σ.o
 len:rs.length=outs.length
 out: ∀(i:Nat) t x,rs[i]? =some t->outs[i]? =some x->Holds P σ x t
def QW{R:Type}(P:Program)(rs:List ResultVar)(os':R->List (Nat×SO))(outs:R->List SV)(r:R)(e:Exit)(s:SS):Prop:=(e= .normal\/e= .ret)/\Rr P rs (os' r) (outs r) s
theorem qR{R:Type}{rs:List ResultVar}{os':R->List (Nat×SO)}{outs:R->List SV}{r:R}{s:SS}(h:Rr P rs (os' r) (outs r) s):QW P rs os' outs r .ret s:=⟨.inr rfl,h⟩
def rvx(tb:Tb)(σ:SS):ResultVar->Option SV
 | .tmp t=>find t σ.t
 | .cell t T=>A1 tb σ t T
theorem RU{tb:Tb}(hP:bm P tb){t:ResultVar}{x:SV}(h:rvx tb σ t=some x):Holds P σ x t:=by
 cases t with
 | tmp t=>exact qg h
 | cell t T=>
  have h:A1 tb σ t T=some x:=h;unfold A1 at h;split at h
  ·rename_i d ti ht hT;split at h
   ·rename_i cs ho;exact GI hP hT ht ho h
   ·cases h
  ·cases h
theorem fw{tb:Tb}(hP:bm P tb){rs:List ResultVar}{os':List (Nat×SO)}{outs:List SV}(h1:oh (os'.map (·.1)) σ.o=os':=by kernel_rfl)(h2:rs.map (rvx tb σ)=outs.map some:=by kernel_rfl):Rr P rs os' outs σ:=by
 refine⟨fun p hp=>js (k:=os'.map (·.1)) (by rw[h1];exact hp),by simpa using congrArg List.length h2,fun i t x h3 h4=>RU hP ?_⟩;have h5:(rs.map (rvx tb σ))[i]? =(outs.map some)[i]? :=by rw[h2]
 rw[Tq,Tq,h3,h4]at h5;injection h5
theorem oO: ∀p∈([]:List (Nat×SO)),xO p.2:=fun _ h=>by cases h
theorem dq{k:Nat}{x:SO}{l:List (Nat×SO)}(h:xO x)(h2: ∀p∈l,xO p.2): ∀p∈(k,x)::l,xO p.2:=fun p hp=>by
 rcases Tx.1 hp with rfl | hp
 ·exact h
 ·exact h2 p hp
def wB(n:Nat)(os os':List (Nat×SO))(outs:List SV):Bool:=
 ((os.all fun p=>(Uv n p.1&&T8 p.1 1999999) || Uv 3000000 p.1)&&(((os.all fun p=>Uv 3000000 p.1 || y9 p.2)&&os'.all fun p=>Uv 3000000 p.1 || y9 p.2) || os.all fun p=>T8 p.1 3000000))&&
 ((os'.all fun p=>(Uv 3000000 p.1 || os.any fun q=>q.1==p.1)&&p.2.names.all fun k=>os'.any fun q=>q.1==k)&&outs.all fun x=>x.tQ&&x.names.all fun k=>os'.any fun q=>q.1==k)
theorem Gi{os:List (Nat×SO)}{k:Nat}(h:(os.any fun q=>q.1==k)=true): ∃y,(k,y)∈os:=by
 obtain⟨q,hq,e⟩:=Uh.1 h;have e:q.1=k:=by simpa using e
 exact⟨q.2,by rw[<-e];exact hq⟩
theorem mR{f:FuncId}{fn:Func}{code:Code}(hf:P.funcs[f]? =some fn)(hb:fn.body=some code)(rs:List ResultVar)(hr:fn.results=rs.toArray){args:List SV}{os:List (Nat×SO)}{R:Type}(os':R->List (Nat×SO))(outs:R->List SV){r:R}(hfl: ∀p∈os' r,xO p.2)(h:swp P code (QW P rs os' outs r) ⟨fn.ntmps,args.zipIdx.map (fun p=>(p.2,p.1)),os⟩)
  (hn:(Uv args.length fn.ntmps&&Uv fn.ntmps 1999999)=true:=by kernel_rfl) (hw:wB fn.ntmps os (os' r) (outs r)=true:=by kernel_rfl):p9 P f args os (os' r) (outs r):=by
 rw[Tp]at hn;unfold wB at hw;simp only[Tp]at hw;obtain⟨⟨h1,h2⟩,h4,h5⟩:=hw;have hsm: ∀(l:List (Nat×SO)),(l.all fun p=>Uv 3000000 p.1 || y9 p.2)=true-> ∀p∈l,p.1<3000000->y9 p.2=true:=fun l h p hp hlt=>by
  have h6:=Tt.1 h p hp;rw[TT]at h6;rcases h6 with h6 | h6
  ·have:=T3 h6;omega
  ·exact h6
 have hsm2:((∀p∈os,p.1<3000000->y9 p.2=true)/\ ∀p∈os' r,p.1<3000000->y9 p.2=true)\/ ∀p∈os,p.1<3000000:=by
  rw[TT,Tp]at h2;exact h2.imp (fun h=>⟨hsm _ h.1,hsm _ h.2⟩) fun h p hp=>by simpa using Tt.1 h p hp
 refine JT hf hb hr (T3 hn.1) (T3 hn.2) (fun p hp=> ?_) hsm2 (fun p hp=> ?_) (fun x hx=> ?_) hfl (rI h fun e s ⟨he,hF⟩=>⟨he,hF.obj,hF.len,hF.out⟩)
 ·have h6:=Tt.1 h1 p hp;rw[TT,Tp]at h6;exact h6.imp (fun h=>⟨T3 h.1,by simpa using h.2⟩) T3
 ·have h6:=Tt.1 h4 p hp;rw[Tp,TT]at h6;refine⟨fun hlt=> ?_,fun k hk=>Gi (Tt.1 h6.2 k hk)⟩;rcases h6.1 with h7 | h7
  ·have:=T3 h7;omega
  ·exact Gi h7
 ·have h6:=Tt.1 h5 x hx;rw[Tp]at h6;exact⟨SV.yc x h6.1,fun k hk=>Gi (Tt.1 h6.2 k hk)⟩
theorem zI{ν:SS}{tb:Tb}(hP:bm P tb){t:Nat}{x y:Operand}(ho:o.op= .store t x y)(hdst:o.dst=none){ti:TI}{d k:Nat}{cs vs:List SV}{v:SV}{nw:List Nat}(hgd:gd ops ν o=some true:=by kernel_rfl)(ht:find t tb=some ti:=by kernel_rfl)(hx:ev ν x=some (.ref d k):=by kernel_rfl)(hob:find d ν.o=some (.box cs):=by kernel_rfl)(hy:ev ν y=some v:=by kernel_rfl)(hc:v.cells=some vs:=by kernel_rfl)(hone:vs.all (tD ν)=true:=by kernel_rfl)(hl:vs.length=ti.size:=by kernel_rfl)(hk:Uv (k+vs.length) cs.length=true:=by kernel_rfl):pk P ops o ν ⟨none,false,some (d,.box (cs.take k++vs++cs.drop (k+vs.length))),nw⟩:=fun σ c a w hs _ _ hr=>by
 have h0:=A9 hP ho hdst hgd ht hx hob hy hc hone hl (T3 hk) σ c a w hs hr;unfold iQ at h0⊢;have hle: ∀a' w',eY c (({σ with o:=(d,.box (cs.take k++vs++cs.drop (k+vs.length)))::σ.o.filter (fun p=>p.1 !=d)}:SS)) a' w'->eY c (σ.qY o.dst ⟨none,false,some (d,.box (cs.take k++vs++cs.drop (k+vs.length))),nw⟩) a' w':=fun a' w' h=>by
  rw[hdst];exact h
 split
 ·rename_i hw;rw[if_pos hw]at h0;exact Oper.wp_mono (fun a' w' h=>hle a' w' h) h0
 ·rename_i hw;rw[if_neg hw]at h0;exact hle _ _ h0
end
theorem qH.append{w w':World}{e m n k:Nat}{ss:List Sh}{es es2:List (List Tr)}{v v2 v':Value}{xs xs2:List Value}(h1:qH w e m ss n es v xs)(h2:qH w e m ss k es2 v2 xs2)(hap: ∀g,FP w (.sl e m ss) v g-> ¬FP w (.sl e m ss) v2 g)
  (hown:w'.ownsRow 0 e m v' (n+k) (xs++xs2)) (hg: ∀b,b<w.heap.size->cN v≠some b->w'.heap[b]? =w.heap[b]?) (hbl: ∀g,cN v'=some g->cN v=some g\/w.heap.size<=g):
  qH w' e m ss (n+k) (es++es2) v' (xs++xs2)/\ ∀g,FP w' (.sl e m ss) v' g->FP w (.sl e m ss) v g\/FP w (.sl e m ss) v2 g\/w.heap.size<=g:=by
 have hx1:xs.length=n*m:=h1.hown.1;have hl1:=h1.hn;have place: ∀(i j:Nat) u,j<m->(xs++xs2)[i*m+j]? =some u->(i<n/\xs[i*m+j]? =some u)\/(n<=i/\xs2[(i - n)*m+j]? =some u):=by
  intro i j u hj hu;by_cases hin:i<n
  ·have h8:(i+1)*m<=n*m:=TY _ hin;rw[UT]at h8;rw[TE (by omega)]at hu;exact .inl ⟨hin,hu⟩
  ·have h8:n*m<=i*m:=TY _ (by omega);rw[Ts (by omega)]at hu;refine .inr ⟨by omega,?_⟩;rw[<-hu];congr 1;rw[hx1,Nat.sub_mul];omega
 have keep1: ∀(i j:Nat) s t u,j<m->ss[j]? =some s->xs[i*m+j]? =some u->DV w s t u->DV w' s t u/\ ∀g,FP w' s u g↔FP w s u g:=fun i j s t u hj hs hu hd=>hd.keep fun g hgg=>hg g (FP.lt hd hgg) (h1.hs i j s u g hj hs hu hgg);have keep2: ∀(i j:Nat) s t u,j<m->ss[j]? =some s->xs2[i*m+j]? =some u->DV w s t u->DV w' s t u/\ ∀g,FP w' s u g↔FP w s u g:=fun i j s t u hj hs hu hd=>hd.keep fun g hgg=>hg g (FP.lt hd hgg) fun e=>hap g (.here _ _ _ _ _ e) (h2.fp hj hs hu hgg);have src: ∀(i j:Nat) s u g,j<m->ss[j]? =some s->(xs++xs2)[i*m+j]? =some u->FP w' s u g->(i<n/\xs[i*m+j]? =some u/\FP w s u g)\/(n<=i/\xs2[(i - n)*m+j]? =some u/\FP w s u g):=by
  intro i j s u g hj hs hu hgg;rcases place i j u hj hu with⟨hi,h3⟩ | ⟨hi,h3⟩
  ·obtain⟨_,s',x,t,hs',_,_,hd⟩:=h1.at hj h3;rw[hs]at hs';injection hs' with hs';subst hs';exact .inl ⟨hi,h3,((keep1 i j s t u hj hs h3 hd).2 g).1 hgg⟩
  ·obtain⟨_,s',x,t,hs',_,_,hd⟩:=h2.at hj h3;rw[hs]at hs';injection hs' with hs';subst hs';exact .inr ⟨hi,h3,((keep2 (i - n) j s t u hj hs h3 hd).2 g).1 hgg⟩
 have hlt1: ∀{i j:Nat} {s u g},j<m->ss[j]? =some s->xs[i*m+j]? =some u->FP w s u g->g<w.heap.size:=fun hj hs hu hf=>FP.lt h1.dv (h1.fp hj hs hu hf);have hlt2: ∀{i j:Nat} {s u g},j<m->ss[j]? =some s->xs2[i*m+j]? =some u->FP w s u g->g<w.heap.size:=fun hj hs hu hf=>FP.lt h2.dv (h2.fp hj hs hu hf);have hrow:qH w' e m ss (n+k) (es++es2) v' (xs++xs2):=by
  refine⟨by simp[h1.hn,h2.hn],hown,h1.hc,fun x hx=>(TN.1 hx).elim (h1.he x) (h2.he x),fun i x j s t u hi hs ht hu=> ?_,fun i j s u g hj hs hu hgg hb=> ?_,fun i j i' j' s s' u u' g hj hj' hs hs' hu hu' hgg hgg'=> ?_⟩
  ·have hj:j<m:=by rw[<-h1.hc];exact(Tl.1 hs).1
   rcases place i j u hj hu with⟨hin,h3⟩ | ⟨hin,h3⟩
   ·rw[TE (by omega)]at hi;exact(keep1 i j s t u hj hs h3 (h1.h i x j s t u hi hs ht h3)).1
   ·rw[Ts (by omega),hl1]at hi;exact(keep2 (i - n) j s t u hj hs h3 (h2.h (i - n) x j s t u hi hs ht h3)).1
  ·rcases src i j s u g hj hs hu hgg with⟨hin,h3,h4⟩ | ⟨hin,h3,h4⟩
   ·rcases hbl g hb with h5 | h5
    ·exact h1.hs i j s u g hj hs h3 h4 h5
    ·exact absurd (hlt1 hj hs h3 h4) (by omega)
   ·rcases hbl g hb with h5 | h5
    ·exact hap g (.here _ _ _ _ _ h5) (h2.fp hj hs h3 h4)
    ·exact absurd (hlt2 hj hs h3 h4) (by omega)
  ·rcases src i j s u g hj hs hu hgg with⟨hin,h3,h4⟩ | ⟨hin,h3,h4⟩<;>rcases src i' j' s' u' g hj' hs' hu' hgg' with⟨hin',h3',h4'⟩ | ⟨hin',h3',h4'⟩
   ·exact h1.ha i j i' j' s s' u u' g hj hj' hs hs' h3 h3' h4 h4'
   ·exact(hap g (h1.fp hj hs h3 h4) (h2.fp hj' hs' h3' h4')).elim
   ·exact(hap g (h1.fp hj' hs' h3' h4') (h2.fp hj hs h3 h4)).elim
   ·have:=h2.ha (i - n) j (i' - n) j' s s' u u' g hj hj' hs hs' h3 h3' h4 h4';omega
 refine⟨hrow,fun g hgg=> ?_⟩;rcases hrow.fp' hgg with h3 | ⟨i,j,s,u,hj,hs,hu,hf⟩
 ·rcases hbl g h3 with h4 | h4
  ·exact .inl (.here _ _ _ _ _ h4)
  ·exact .inr (.inr h4)
 ·rcases src i j s u g hj hs hu hf with⟨_,h3,h4⟩ | ⟨_,h3,h4⟩
  ·exact .inl (h1.fp hj hs h3 h4)
  ·exact .inr (.inl (h2.fp hj hs h3 h4))
theorem qH.nil{w:World}{e m:Nat}{ss:List Sh}{v:Value}{xs:List Value}(hown:w.ownsRow 0 e m v 0 xs)(hc:ss.length=m):qH w e m ss 0 [] v xs:=by
 have hx:xs=[]:=Uf (by rw[hown.1];simp);subst hx;exact⟨rfl,hown,hc,by simp,by simp,by simp,by simp⟩
section
variable {P : Program} {tb : Tb} {ops : Array Oper} {o : Oper} {c : Cx} {S : Nat -> Prop} {β : Nat -> Value} {σ : SS} {a : Act} {w : World}
theorem Rel.view(hr:Rel c S β σ a w){d:Nat}{x x':SO}(hd:(d,x)∈σ.o)(hx:cP w S β x' (β d))(hft: ∀g',x'.ba w (β d) g'->x.ba w (β d) g'):eY c {σ with o:=(d,x')::σ.o.filter (fun p=>p.1 !=d)} a w:=
 ⟨_,_,hr.Pv hd (dA.refl _ w) (S':=fun _=>False) (fun _ h=>h.elim) (fun _ h=>h.elim) (hx.keep (fun _ _=>rfl) fun _ h=> .inl h) hft⟩
end
theorem J0{w:World}{S:Nat->Prop}{β:Nat->Value}{e m n:Nat}{es:List (List Tr)}{v:Value}(h:cP w S β (.arr e m n es) v)(hf:tA es):DV w (.sl e m (UH m .flat)) (.sl n es) v:=by
 cases h with
 | arr _ _ _ _ v xs hn hown he h=>
  have hfl: ∀{j:Nat} {s:Sh},(UH m Sh.flat)[j]? =some s->s= .flat:=fun{j s} hs=>by
   rw[VZ]at hs;split at hs
   ·injection hs with hs;exact hs.symm
   ·cases hs
  refine .sl e m _ n es v xs hn hown (by simp) he (fun i x j s t u hi hs ht hu=> ?_) (fun i j s u g hj hs hu hg=> ?_) (fun i j i' j' s s' u u' g hj hj' hs hs' hu hu' hg hg'=> ?_)
  ·rw[hfl hs];have h1:=hf x (Tm hi) t (Tm ht);exact .flat t u h1 ((h i x j t u hi ht hu).free h1)
  ·rw[hfl hs]at hg;cases hg
  ·rw[hfl hs]at hg;cases hg
inductive Hs (σ:SS):Sh->SV->Tr->List Nat->Prop
 | flat (t:Tr) (h:t.flat=true):Hs σ .flat (.tr t) t []
 | arr (d e m n:Nat) (es:List (List Tr)) (hf:find d σ.o=some (.arr e m n es)) (hfl:tA es) (hn:d<σ.n):Hs σ (.sl e m (UH m .flat)) (.own d) (.sl n es) [d]
 | deep (d e m n:Nat) (ss:List Sh) (es:List (List Tr)) (hf:find d σ.o=some (.deep e m n ss es)) (hn:d<σ.n):Hs σ (.sl e m ss) (.own d) (.sl n es) [d]
section
variable {c : Cx} {S : Nat -> Prop} {β : Nat -> Value} {σ : SS} {a : Act} {w : World}
theorem Hs.ok(hr:Rel c S β σ a w){s:Sh}{x:SV}{t:Tr}{ds:List Nat}(h:Hs σ s x t ds){u:Value}(hu:cT w S β x u):DV w s t u/\(∀d∈ds,d<σ.n)/\ ∀g,FP w s u g-> ∃d∈ds,∃y,(d,y)∈σ.o/\y.ba w (β d) g:=by
 cases h with
 | flat t h=>
  cases hu with
  | tr _ _ hv=>exact⟨.flat t u h (hv.free h),by simp,fun g hg=>by cases hg⟩
 | arr d e m n es hf hfl hn=>
  have hm:=aJ hf;cases hu with
  | own _=>
   refine⟨J0 (hr.obj d _ hm) hfl,by simpa using hn,fun g hg=>⟨d,by simp,_,hm,?_⟩⟩;have:=J0 (hr.obj d _ hm) hfl;obtain⟨xs,hrow⟩:=this.row;rcases hrow.fp' hg with h1 | ⟨i,j,s,u,hj,hs,_,h1⟩
   ·exact rf h1
   ·rw[VZ,if_pos hj]at hs;injection hs with hs;subst hs;cases h1
 | deep d e m n ss es hf hn=>
  have hm:=aJ hf;cases hu with
  | own _=>
   have ho:=hr.obj d _ hm;generalize hb:β d=b at ho;cases ho with
   | deep _ _ _ _ _ _ h=>exact⟨h,by simpa using hn,fun g hg=>⟨d,by simp,_,hm,by rw[hb];exact hg⟩⟩
end
theorem Le.join{σ:SS}{d k e m n i j e' m' n':Nat}{ss ss':List Sh}{es es':List (List Tr)}{x:List Tr}{y:SO}(hd:find d σ.o=some (.hol e m n ss es i j k))(hk:find k σ.o=some y)
  (hy:y= .deep e' m' n' ss' es'\/(y= .arr e' m' n' es'/\tA es'/\ss'=UH m' .flat)) (hne:k≠d) (hs:ss[j]? =some (.sl e' m' ss')) (hx:es[i]? =some x) (hn:k<σ.n↔d<σ.n) (h3:k<3000000↔d<3000000):
  Le σ {σ.kill k with o:=(d,.deep e m n ss (es.set i (x.set j (.sl n' es'))))::(σ.kill k).o}:=by
 intro c a w ⟨S,β,hr⟩;have hmd:=aJ hd;have hmk:=aJ hk;have hdv:DV w (.sl e' m' ss') (.sl n' es') (β k)/\ ∀g,FP w (.sl e' m' ss') (β k) g->y.ba w (β k) g:=by
  have ho:=hr.obj k y hmk;rcases hy with rfl | ⟨rfl,hf,rfl⟩
  ·generalize β k=b at ho;cases ho with
   | deep _ _ _ _ _ _ h=>exact⟨h,fun g hg=>hg⟩
  ·have h:=J0 ho hf;refine⟨h,fun g hg=> ?_⟩;obtain⟨xs,hrow⟩:=h.row;rcases hrow.fp' hg with h1 | ⟨i,j,s,u,hj,hs,_,h1⟩
   ·exact rf h1
   ·rw[VZ,if_pos hj]at hs;injection hs with hs;subst hs;cases h1
 obtain⟨hdv,hfy⟩:=hdv;have hnew: ∃xs,qH w e m ss n (es.set i (x.set j (.sl n' es'))) (β d) xs/\ ∀g,FP w (.sl e m ss) (β d) g->SO.ba w (.hol e m n ss es i j k) (β d) g\/y.ba w (β k) g:=by
  have ho:=hr.obj d _ hmd;have hap: ∀g,FP w (.sl e' m' ss') (β k) g-> ¬HFP w e m ss i j (β d) g:=fun g h1 h2=>hne (hr.apart k y d _ g hmk hmd (hfy g h1) h2);generalize hb:β d=b at ho hap;cases ho with
  | hol _ _ _ _ _ _ _ _ _ xs h hu=>
   have hj:=h.join hs hx hu hdv hap;refine⟨xs,hj,fun g hg=> ?_⟩;rcases hj.fp' hg with h1 | ⟨i',j',s,u,hj',hs',hu',h1⟩
   ·exact .inl (.here _ _ h1)
   ·by_cases he:i'=i/\j'=j
    ·obtain⟨rfl,rfl⟩:=he;rw[hs]at hs';injection hs' with hs';rw[hu]at hu';injection hu' with hu';subst hs' hu';exact .inr (hfy g h1)
    ·exact .inl (h.fp he hj' hs' hu' h1)
 obtain⟨xs,hrow,hfo⟩:=hnew;have hr0:=(Sub.kill σ k).rel hr;have hmem: ∀{l z},(l,z)∈(d,SO.deep e m n ss (es.set i (x.set j (.sl n' es'))))::(σ.kill k).o->(l=d/\z= .deep e m n ss (es.set i (x.set j (.sl n' es'))))\/((l,z)∈σ.o/\l≠k/\(l,z)∈(σ.kill k).o):=by
  intro l z h;rcases Tx.1 h with h | h
  ·injection h with h1 h2;exact .inl ⟨h1,h2⟩
  ·exact .inr ⟨(bE h).1,(bE h).2,h⟩
 have hpr: ∀g,FP w (.sl e m ss) (β d) g-> ¬S g/\(((d<σ.n\/3000000<=d)/\c.w0.heap.size<=g)\/(σ.n<=d/\c.Y d g)):=fun g hg=>by
  rcases hfo g hg with h | h
  ·exact hr.priv d _ g hmd h
  ·obtain⟨q1,q2⟩:=hr.priv k y g hmk h;exact⟨q1,q2.imp (fun q=>⟨(Classical.em (k<3000000)).elim (fun h4=> .inl (hn.1 (q.1.resolve_right (by omega)))) fun h4=> .inr (by omega),q.2⟩) fun q=>⟨by have:=hn;omega,q.2.1,fun h4=>q.2.2 (by omega)⟩⟩
 have hapt: ∀l z g,(l,z)∈σ.o->l≠k->z.ba w (β l) g->FP w (.sl e m ss) (β d) g->l=d:=fun l z g hl hlk h1 h2=>by
  rcases hfo g h2 with h | h
  ·exact hr.apart l z d _ g hl hmd h1 h
  ·exact absurd (hr.apart l z k y g hl hmk h1 h) hlk
 refine⟨S,β,hr0.defers,hr0.size,hr0.one,hr0.grew,hr0.s0,hr0.s1,hr0.lt,hr0.tmp,fun l z hl=> ?_,fun p v hp=>⟨(hr.pin p v hp).1,fun z hz=> ?_⟩,fun l z g hl hg=> ?_,fun l z l' z' g hl hl' hg hg'=> ?_⟩
 ·rcases hmem hl with⟨rfl,rfl⟩ | ⟨h1,_,_⟩
  ·exact .deep _ _ _ _ _ _ hrow.dv
  ·exact hr.obj l z h1
 ·rcases hmem hz with⟨rfl,rfl⟩ | ⟨h1,_,_⟩
  ·exact(hr.pin p v hp).2 _ hmd
  ·exact(hr.pin p v hp).2 _ h1
 ·rcases hmem hl with⟨rfl,rfl⟩ | ⟨h1,_,_⟩
  ·exact hpr g hg
  ·exact hr.priv l z g h1 hg
 ·rcases hmem hl with⟨rfl,rfl⟩ | ⟨h1,h2,_⟩<;>rcases hmem hl' with⟨rfl,rfl⟩ | ⟨h3,h4,_⟩
  ·rfl
  ·exact(hapt l' z' g h3 h4 hg' hg).symm
  ·exact hapt l z g h1 h2 hg hg'
  ·exact hr.apart l z l' z' g h1 h3 hg hg'
section
variable {P : Program} {tb : Tb} {ops : Array Oper} {o : Oper} {c : Cx} {S : Nat -> Prop} {β : Nat -> Value} {ν σ : SS} {a : Act} {w : World}
inductive CH:List Tr->List Sh->Prop
 | nil:CH [] []
 | flat (t:Tr) (ts:List Tr) (ss:List Sh) (h:t.flat=true) (k:CH ts ss):CH (t::ts) (.flat::ss)
 | sl (e m:Nat) (ss':List Sh) (ts:List Tr) (ss:List Sh) (h:ss'.length=m) (k:CH ts ss):CH (.sl 0 []::ts) (.sl e m ss'::ss)
theorem CH.ok{ts:List Tr}{ss:List Sh}(h:CH ts ss){vs:List Value}(hz:iP ts=some vs):ts.length=ss.length/\ ∀(j:Nat) s t v,ss[j]? =some s->ts[j]? =some t->vs[j]? =some v->(∀w,DV w s t v)/\ ∀w g,¬FP w s v g:=by
 induction h generalizing vs with
 | nil=>exact⟨rfl,by simp⟩
 | flat t ts ss h k ih=>
  unfold iP at hz;split at hz
  ·rename_i v vs' hv hvs;injection hz with hz;subst hz;obtain⟨h1,h2⟩:=ih hvs;refine⟨by simp[h1],fun j s t' v' hs ht hv'=> ?_⟩;cases j with
   | zero=>
    simp at hs ht hv';subst hs ht hv';exact⟨fun w=> .flat _ _ h (Hr hv),fun w g hg=>by cases hg⟩
   | succ j=>exact h2 j s t' v' (by simpa using hs) (by simpa using ht) (by simpa using hv')
  ·cases hz
 | sl e m ss' ts ss h k ih=>
  unfold iP at hz;split at hz
  ·rename_i v vs' hv hvs;injection hz with hz;subst hz;have hv2:v= .slice none 0 0:=by simpa [Tr.ND]using hv.symm
   subst hv2;obtain⟨h1,h2⟩:=ih hvs;refine⟨by simp[h1],fun j s t' v' hs ht hv'=> ?_⟩;cases j with
   | zero=>
    simp at hs ht hv';subst hs ht hv';refine⟨fun w=>(qH.nil (xs:=[]) ⟨by simp,.inl ⟨rfl,rfl⟩⟩ h).dv,fun w g hg=> ?_⟩;cases hg with
    | here _ _ _ _ _ hb=>cases hb
   | succ j=>exact h2 j s t' v' (by simpa using hs) (by simpa using ht) (by simpa using hv')
  ·cases hz
end
def Aw(D:List Nat)(a a':Act):Prop:=a'.tmps.size=a.tmps.size/\ ∀i,i∉D->a'.tmps.getD i undef=a.tmps.getD i undef
theorem Aw.put(a:Act)(d:Option Nat)(u:Value):Aw d.toList a (a.put d u):=by
 refine⟨pJ a d u,fun i hi=> ?_⟩;cases d with
 | none=>rfl
 | some d=>exact vR a u fun e=>hi (by simp[e])
theorem Aw.trans{D E:List Nat}{a b c:Act}(h:Aw D a b)(k:Aw E b c):Aw (D++E) a c:=⟨k.1.trans h.1,fun i hi=>(k.2 i fun e=>hi (TJ _ e)).trans (h.2 i fun e=>hi (T7 _ e))⟩
theorem Aw.tmps{D:List Nat}{a b b':Act}(h:Aw D a b)(e:b'.tmps=b.tmps):Aw D a b':=by
 unfold Aw;rw[e];exact h
def qe(l:List Oper):List Nat:=l.flatMap fun o=>o.dst.toList
section
variable {P : Program} {tb : Tb} {ops : Array Oper} {o : Oper} {c : Cx} {S : Nat -> Prop} {β : Nat -> Value} {σ σ' : SS} {a : Act} {w : World} {K : SS -> Prop} {L L' : Array Bool} {fuel i : Nat}
def wlB:Op->Bool
 | .nilCheck _=>true
 | .fieldAddr _ _ _=>true
 | _=>false
theorem R4(hP:bm P tb)(hr:Rel c S β σ a w)(hw:wlB o.op=true){v:SV}(h:vop tb σ o.op=some v): ∃u,∀w',(execOp a.eval o).run P w'= .ok (.value u) w':=by
 cases hop:o.op<;>rw[hop]at hw h<;>first | (cases hw;done) | skip
 case nilCheck x=>
  simp only[vop]at h;have key: ∀z,ev σ x=some z->(∀y,cT w S β z y->(∃p,y= .pointer (some p))\/ ∃f fs cs,y= .func (.func f) fs cs)-> ∃u,∀w',(execOp a.eval o).run P w'= .ok (.value u) w':=by
   intro z hz hy;refine⟨a.eval x,fun w'=> ?_⟩;rcases hy _ (bD hr hz)with⟨p,hp⟩ | ⟨f,fs,cs,hp⟩<;>simp only[execOp,hop,hp]<;>rfl
  split at h
  ·exact key _ (by assumption) fun y hy=>by cases hy;exact .inl ⟨_,rfl⟩
  ·exact key _ (by assumption) fun y hy=>by cases hy;exact .inl ⟨_,rfl⟩
  ·exact key _ (by assumption) fun y hy=>by cases hy;exact .inl ⟨_,rfl⟩
  ·exact key _ (by assumption) fun y hy=>by cases hy;exact .inr ⟨_,_,_,rfl⟩
  ·exact key _ (by assumption) fun y hy=>by cases hy;exact .inr ⟨_,_,_,rfl⟩
  ·cases h
 case fieldAddr t x k=>
  simp only[vop]at h;split at h
  ·rename_i i y hi hx;split at h
   ·rename_i fs hd;split at h
    ·rename_i off ft hf;split at h
     ·rename_i j hj;split at h
      ·cases h
      ·rename_i hz;obtain⟨f,hu,hm⟩:=(bc hP hi).struct hd;obtain⟨y',h1,h2,h3⟩:=GB hm hf;subst h2 h3;obtain⟨g,o',h4,h5⟩:=AF h (bD hr hx);refine⟨.pointer (some ⟨g,o'+y'.offset,none⟩),fun w'=> ?_⟩;simp only[execOp,hop,h4,Sem.run_bind];simp[Instr.fieldAt,run_underlying hu,h1,Instr.sureAddr,fieldPlace,(bc hP hj).size,hz,Addr.add_lit]
     ·cases h
    ·cases h
   ·cases h
  ·cases h
theorem DE.SG(hP:bm P tb){rest:List Oper}{v:SV}(ho:ops.toList.drop i=o::rest)(hw:wlB o.op=true)(hv:vop tb σ o.op=some v)(hg:o.guard=none)(hs:Region.noSelect ops=true)(hf:Region.free .any ops L i=true)(hr:(Region.ready .any ops L).contains i=true)
  (he:af P ops o σ σ') (hL:L.setIfInBounds i true=L') (k:DE P ops K fuel L' σ'):DE P ops K (fuel+1) L σ:=by
 intro c a w hr';subst hL;replace ho:=ya ho;obtain⟨S,β,hrel⟩:=hr';obtain⟨u,hex⟩:=R4 hP hrel hw hv;have hdo:=he c a w ⟨S,β,hrel⟩;have hw:Region.wanted o (yielded ops a.tmps)=true:=by simp[Region.wanted,hg]
 unfold iQ at hdo;rw[if_pos hw]at hdo;unfold Oper.wp at hdo;rw[hex w]at hdo;refine wpAny_take (v:=u) ho hs hf hr (fun _ _ _ h=>by simp at h) ?_ (k c _ w hdo);unfold Yields;exact .inl ⟨hw,hex⟩
theorem N4{o:Oper}{d:Nat}{i:Nat}(ho:ops[i]? =some o)(hd:o.dst=some d):d∈qe ops.toList:=TK.2 ⟨o,Tm (by rw[Ub];exact ho),by simp[hd]⟩
theorem Aw.step{a0 a b:Act}{i:Nat}(h:Aw (qe ops.toList) a0 a)(ho:ops[i]? =some o){u:Value}(hb:b.tmps=(a.put o.dst u).tmps):Aw (qe ops.toList) a0 b:=by
 refine⟨by rw[hb,pJ];exact h.1,fun j hj=> ?_⟩;rw[hb,<-h.2 j hj];cases hd:o.dst with
 | none=>rfl
 | some d=>exact vR a u fun e=>hj (e▸N4 ho hd)
theorem Le.Jk{σ:SS}(d e:Nat)(hd:T8 d σ.n=true:=by kernel_rfl)(he:Uv 3000000 e=true:=by kernel_rfl)(hf:σ.names.contains e=false:=by kernel_rfl):Le σ (σ.ren d e):=Le.Sz (by simpa using hd) (.inr (T3 he)) hf
def SS.less(σ:SS)(ks:List Nat):SS:=⟨σ.n,σ.t.filter (fun p=>p.2.names.all fun k=> !ks.contains k),σ.o.filter (fun p=> !ks.contains p.1)⟩
theorem Le.less(σ:SS)(ks:List Nat):Le σ (σ.less ks):=Le.sub rfl (fun _ h=>(Tu.1 h).1) fun _ h=>(Tu.1 h).1
theorem Le.Av{σ:SS}(d j k:Nat){e m:Nat}{ss:List Sh}{cs:List SV}(y:SO)(hy:y= .arr e m 0 []\/(y= .deep e m 0 ss []/\ss.length=m))(hc:cs[j]? =some (.tr .nil))(hob:find d σ.o=some (.box cs):=by kernel_rfl)(hk:σ.names.contains k=false:=by kernel_rfl)(hkn:(T8 k σ.n || Uv 3000000 k)=true:=by kernel_rfl):
  Le σ {σ with o:=(d,.box (cs.set j (.own k)))::(k,y)::σ.o.filter (fun p=>p.1 !=d)}:=by
 intro c a w ⟨S,β,hr⟩;have hk:k∉σ.names:=by simpa using hk
 have hmd:=aJ hob;have hkd:k≠d:=fun e=>hk (by
  subst e;exact TJ _ (TK.2 ⟨(k,_),hmd,TP⟩))
 have hzn: ∀{l z},(l,z)∈σ.o->k∉z.names/\l≠k:=fun{l z} h=>⟨fun h'=>hk (TJ _ (TK.2 ⟨(l,z),h,T1 _ h'⟩)),fun e=>hk (by
  subst e;exact TJ _ (TK.2 ⟨(l,z),h,TP⟩))⟩
 have hnil:cP w S (kt β k (.slice none 0 0)) y (.slice none 0 0)/\ ∀g,¬y.ba w (.slice none 0 0) g:=by
  have hown:w.ownsRow 0 e m (.slice none 0 0) 0 []:=⟨by simp,.inl ⟨rfl,rfl⟩⟩;rcases hy with rfl | ⟨rfl,hl⟩
  ·exact⟨.arr e m 0 [] _ [] rfl hown (by simp) (fun i x j t u h=>by simp at h),fun g h=>by cases h⟩
  ·refine⟨.deep e m 0 ss [] _ (.sl e m ss 0 [] _ [] rfl hown hl (by simp) (fun i x j s t u h=>by simp at h) (fun i j s u g _ _ h=>by simp at h) (fun i j i' j' s s' u u' g _ _ _ _ h=>by simp at h)),fun g h=> ?_⟩;cases h with
   | here _ _ _ _ _ h=>cases h
 have hbox:cP w S (kt β k (.slice none 0 0)) (.box (cs.set j (.own k))) (β d):=by
  have ho:=hr.obj d _ hmd;have hno:=(hzn hmd).1;generalize β d=b at ho;cases ho with
  | box _ g vs T hg hl h=>
   refine .box _ g vs T hg (by rw[List.length_set];exact hl) fun q x v hx hv=> ?_;by_cases hq:q=j
   ·subst hq;rw[List.getElem?_set_self (Tl.1 hc).1]at hx;injection hx with hx;subst hx;have h1:=h q _ v hc hv;cases h1 with
    | tr _ _ h1=>
     cases h1;have:cT w S (kt β k (.slice none 0 0)) (.own k) (kt β k (.slice none 0 0) k):= .own k
     rwa [cy]at this
   ·rw[List.getElem?_set_ne (fun e=>hq e.symm)]at hx;exact(h q x v hx hv).agree (lV β _ fun h'=>hno (SV.cf (Tm hx) h'))
 have hmem: ∀{l z},(l,z)∈(d,SO.box (cs.set j (.own k)))::(k,y)::σ.o.filter (fun p=>p.1 !=d)->(l=d/\z= .box (cs.set j (.own k)))\/(l=k/\z=y)\/((l,z)∈σ.o/\l≠k):=by
  intro l z h;rcases Tx.1 h with h | h
  ·injection h with h1 h2;exact .inl ⟨h1,h2⟩
  ·rcases Tx.1 h with h | h
   ·injection h with h1 h2;exact .inr (.inl ⟨h1,h2⟩)
   ·exact .inr (.inr ⟨(Tu.1 h).1,(hzn (Tu.1 h).1).2⟩)
 have hkp: ∀q v,(q,v)∈c.pin->q≠k:=fun q v hq e=>by
  have h1:=(hr.pin q v hq).1;have h2:=c.lt q v hq;rw[TT]at hkn;rcases hkn with h | h
  ·have:k<σ.n:=by simpa using h
   omega
  ·have:=T3 h;omega
 refine⟨S,kt β k (.slice none 0 0),hr.defers,hr.size,fun q=> ?_,hr.grew,hr.s0,hr.s1,hr.lt,fun q z hq=>⟨(hr.tmp q z hq).1,(hr.tmp q z hq).2.agree (lV β _ fun h=>hk (T7 _ (TK.2 ⟨(q,z),hq,h⟩)))⟩,fun l z hl=> ?_,fun q v hq=>⟨(hr.pin q v hq).1,fun z hz=> ?_⟩,fun l z g hl hg=> ?_,fun l z l' z' g hl hl' hg hg'=> ?_⟩
 ·unfold kt;split
  ·rfl
  ·exact hr.one q
 ·rcases hmem hl with⟨rfl,rfl⟩ | ⟨rfl,rfl⟩ | ⟨h1,h3⟩
  ·rw[cU _ _ hkd.symm];exact hbox
  ·rw[cy];exact hnil.1
  ·rw[cU _ _ h3];exact(hr.obj l z h1).agree (lV β _ (hzn h1).1)
 ·rw[cU _ _ (hkp q v hq)];rcases hmem hz with⟨rfl,_⟩ | ⟨h1,_⟩ | ⟨h1,_⟩
  ·exact(hr.pin q v hq).2 _ hmd
  ·exact absurd h1 (hkp q v hq)
  ·exact(hr.pin q v hq).2 z h1
 ·rcases hmem hl with⟨rfl,rfl⟩ | ⟨rfl,rfl⟩ | ⟨h1,h3⟩
  ·rw[cU _ _ hkd.symm]at hg;exact hr.priv l _ g hmd hg
  ·rw[cy]at hg;exact(hnil.2 g hg).elim
  ·rw[cU _ _ h3]at hg;exact hr.priv l z g h1 hg
 ·have hold: ∀{l z},(l,z)∈(d,SO.box (cs.set j (.own k)))::(k,y)::σ.o.filter (fun p=>p.1 !=d)->z.ba w (kt β k (.slice none 0 0) l) g-> ∃x,(l,x)∈σ.o/\x.ba w (β l) g:=fun{l z} hl hg=>by
   rcases hmem hl with⟨rfl,rfl⟩ | ⟨rfl,rfl⟩ | ⟨h1,h3⟩
   ·rw[cU _ _ hkd.symm]at hg;exact⟨_,hmd,hg⟩
   ·rw[cy]at hg;exact(hnil.2 g hg).elim
   ·rw[cU _ _ h3]at hg;exact⟨z,h1,hg⟩
  obtain⟨x,h1,h2⟩:=hold hl hg;obtain⟨x',h3,h4⟩:=hold hl' hg';exact hr.apart l x l' x' g h1 h3 h2 h4
def QM:Tr->Tr
 | .sl 0 []=> .nil
 | t=>t
theorem LR{t:Tr}{v:Value}(h:t.ND=some v):TV w S (QM t) v:=by
 cases t with
 | sl n es=>
  cases n with
  | zero=>
   cases es with
   | nil=>
    have h:some (Value.slice none 0 0)=some v:=h;injection h with h;subst h;exact .nil
   | cons=>cases h
  | succ n=>cases h
 | _=>exact Hr h
theorem Et: ∀{ts:List Tr} {vs:List Value},iP ts=some vs-> ∀(j:Nat) t v,ts[j]? =some t->vs[j]? =some v->t.ND=some v
 | [],vs,h=>fun j t v hj=>by simp at hj
 | t0::ts,vs,h=>fun j t v hj hv=>by
  unfold iP at h;split at h
  ·rename_i v0 vs0 h1 h2;injection h with h;subst h;cases j with
   | zero=>
    injection hj with hj;injection hv with hv;subst hj hv;exact h1
   | succ j=>exact Et h2 j t v hj hv
  ·cases h
theorem JW(hP:bm P tb){t:Nat}{ps:Array (Nat×Operand)}(ho:o.op= .build t ps){ti:TI}{fs pl:List (Nat×Nat)}{zs:List Value}(hps:ps= #[]:=by kernel_rfl)(hgd:gd ops σ o=some true:=by kernel_rfl)(hok:kf σ o=true:=by kernel_rfl)(ht:find t tb=some ti:=by kernel_rfl)(hd:ti.d= .struct fs:=by kernel_rfl)(hpl:yZ tb fs=some pl:=by kernel_rfl)(hz:iP ti.zero=some zs:=by kernel_rfl):
  bN P ops o σ (some (.agg (ti.zero.map fun t=> .tr (QM t)),none)):=by
 subst hps;refine cg hgd hok fun c S β a w hr=> ?_;obtain⟨q,g1,g2,g3,g4⟩:=(bc hP ht).uC;obtain⟨z,g5,g6⟩:=g4 zs hz;obtain⟨g7,g8⟩:=om (w:=w) (S:=S) hz;obtain⟨f,hu,hm⟩:=(bc hP ht).struct hd;have hpm:=AA hP (f:=f.toList) (by rw[hm];exact hpl);have hb:P.built t ((#[]:Array (Nat×Operand)).map fun p=>(p.1,a.eval p.2)).toList=some z.cells:=by
  unfold Program.built;simp only[g1,hu,g5,hpm];simp[Instr.fill]
 have hrun:=run_build (P:=P) w t _ z.cells hb;refine .mk (s:=Instr.build t ((#[]:Array (Nat×Operand)).map fun p=>(p.1,a.eval p.2))) (by simp only[execOp,ho]) hrun (.agg _ z.cells (by rw[TM,g7,<-g6,TB]) fun j x v hx hv=> ?_);rw[Tq,Tn]at hx;obtain⟨t0,h1,rfl⟩:=hx;exact .tr _ _ (LR (Et hz j t0 v h1 (by rw[<-g6];simpa using hv)))
end
def bl:Nat->Nat->List Bool
 | 0,_=>[]
 | n+1,m=>V2 (m % 2) 1::bl n (m/2)
def bA(n m:Nat):Array Bool:=⟨bl n m⟩
section
variable {P : Program} {tb : Tb} {ops : Array Oper} {o : Oper} {K : SS -> Prop} {L L' : Array Bool} {σ σ' : SS} {fuel : Nat} {rest : List Oper}
theorem DE.sh{σ0:SS}{L0:Array Bool}{n:Nat}(fuel:Nat)(L:Array Bool)(σ:SS)(h:DE P ops K fuel L σ)(k:DE P ops K fuel L σ->DE P ops K n L0 σ0):DE P ops K n L0 σ0:=k h
theorem af.n(hP:bm P tb){n:Nat}{t:List (Nat×SV)}{u:List (Nat×SO)}(h:(uI tb ops σ o).map (fun r=>(iS r o.dst σ,(σ.app o.dst r).n,oh (t.map (·.1)) (σ.app o.dst r).t,oh (u.map (·.1)) (σ.app o.dst r).o))=some (true,n,t,u):=by kernel_rfl):af P ops o σ ⟨n,t,u⟩:=by
 rw[Tn]at h;obtain⟨r,h1,h2⟩:=h;simp only[Vk.injEq]at h2;obtain⟨h2,h3,h4,h5⟩:=h2;exact af.le (af.ofN hP h1 h2) (Le.aZ h3 h4 h5)
theorem af.l{r:RV}(h:bN P ops o σ r){n:Nat}{t:List (Nat×SV)}{u:List (Nat×SO)}(hh:(iS r o.dst σ,(σ.app o.dst r).n,oh (t.map (·.1)) (σ.app o.dst r).t,oh (u.map (·.1)) (σ.app o.dst r).o)=(true,n,t,u):=by kernel_rfl):af P ops o σ ⟨n,t,u⟩:=by
 simp only[Vk.injEq]at hh;obtain⟨h2,h3,h4,h5⟩:=hh;exact af.le (af.ofL h h2) (Le.aZ h3 h4 h5)
inductive DEl (P:Program) (ops:Array Oper) (K:SS->Prop) (fuel:Nat) (L:Array Bool) (σ:SS):List Nat->Prop
 | n:DEl P ops K fuel L σ []
 | c (i:Nat) {rs:List Nat} {o:Oper} {L':Array Bool} {σ':SS} {rest:List Oper} (k:DE P ops K fuel L' σ') (ho:ops.toList.drop i=o::rest) (he:af P ops o σ σ') (t:DEl P ops K fuel L σ rs) (hL:L.setIfInBounds i true=L':=by kernel_rfl):DEl P ops K fuel L σ (i::rs)
theorem DEl.ok{rs:List Nat}(h:DEl P ops K fuel L σ rs): ∀i∈rs,DEs P ops K fuel L σ i:=by
 induction h with
 | n=>exact fun _ h=>absurd h List.not_mem_nil
 | c i k ho he t hL ih=>exact List.forall_mem_cons.2 ⟨DEs.mk ho he hL k,ih⟩
theorem DE.al{i:Nat}{rs:List Nat}(h:DEl P ops K fuel L σ (i::rs))(hr:Region.ready .any ops L=i::rs:=by kernel_rfl):DE P ops K (fuel+1) L σ:=DE.all (i::rs) hr (by simp) h.ok
theorem DE.a1(i:Nat)(k:DE P ops K fuel L' σ')(ho:ops.toList.drop i=o::rest)(he:af P ops o σ σ')(hr:Region.ready .any ops L=[i]:=by kernel_rfl)(hL:L.setIfInBounds i true=L':=by kernel_rfl):DE P ops K (fuel+1) L σ:=DE.al (.c i k ho he .n hL) hr
theorem DE.tk(i:Nat){x:Operand}(k:DE P ops K fuel L' σ')(ho:ops.toList.drop i=o::rest)(hop:o.op= .move x\/o.op= .assign x)(he:af P ops o σ σ')(hg:o.guard=none:=by kernel_rfl)(hs:Region.noSelect ops=true:=by kernel_rfl)(hf:Region.free .any ops L i=true:=by kernel_rfl)(hr:(Region.ready .any ops L).contains i=true:=by kernel_rfl)(hL:L.setIfInBounds i true=L':=by kernel_rfl):DE P ops K (fuel+1) L σ:=DE.take ho hop hg hs hf hr he hL k
theorem DE.tw(hP:bm P tb)(i:Nat)(k:DE P ops K fuel L' σ')(ho:ops.toList.drop i=o::rest)(he:af P ops o σ σ')(hw:wlB o.op=true:=by kernel_rfl)(hv:(vop tb σ o.op).isSome=true:=by kernel_rfl)(hg:o.guard=none:=by kernel_rfl)(hs:Region.noSelect ops=true:=by kernel_rfl)(hf:Region.free .any ops L i=true:=by kernel_rfl)(hr:(Region.ready .any ops L).contains i=true:=by kernel_rfl)(hL:L.setIfInBounds i true=L':=by kernel_rfl):DE P ops K (fuel+1) L σ:=by
 obtain⟨v,hv⟩:=T5.1 hv;exact DE.SG hP ho hw hv hg hs hf hr he hL k
end
def kp(ks us:List Nat)(s:Option SS):SS:=(s.getD ⟨0,[],[]⟩).only ks us
section
variable {P : Program} {tb : Tb} {ops : Array Oper} {σ : SS}
theorem aj.cl(hP:bm P tb){Q:SS->Prop}{todo:List Oper}(n:Nat)(ks us:List Nat)(k:aj P ops (todo.drop n) Q (kp ks us (l0 tb ops n todo σ)))(h:(l0 tb ops n todo σ).isSome=true:=by kernel_rfl):aj P ops todo Q σ:=by
 obtain⟨s,h1⟩:=T5.1 h;refine aj.CR hP n h1 ?_;rw[h1]at k;exact aj.le (Le.only _ _) k
variable {Q : Exit -> SS -> Prop} {id : Nat} {y : Code}
theorem cln(hP:bm P tb){K:SS->Prop}{todo:List Oper}(n:Nat)(ks us:List Nat)(k:K (kp ks us (l0 tb ops n todo σ)))(h:(l0 tb ops n todo σ).isSome=true:=by kernel_rfl)(hz:(todo.drop n).isEmpty=true:=by kernel_rfl):aj P ops todo (fun s=>nx K Q .normal s) σ:=
 aj.cl hP n ks us (by rw[List.isEmpty_iff.1 hz];exact aj.nil k) h
theorem srl(hP:bm P tb)(ks us:List Nat)(k:swp P y Q (kp ks us (l0 tb ops ops.toList.length ops.toList σ)))(h:(l0 tb ops ops.toList.length ops.toList σ).isSome=true:=by kernel_rfl):swp P (.seq (.region id ops false) y) Q σ:=
 sr (aj.cl hP ops.toList.length ks us (by rw[WJ];exact aj.nil k) h)
def dkp(ks us:List Nat)(s:Option (List (Oper×EV)×SS)):SS:=kp ks us (s.map (·.2))
theorem bI.cl(hP:bm P tb){D:List Nat}{σ0:SS}{K:SS->Prop}{done:List (Oper×EV)}{todo:List Oper}(ch:Bool)(n:Nat)(ks us:List Nat)(k:bI P ops D σ0 K (xY tb ops (keys σ0) D ch n done σ todo) (dkp ks us (oF tb ops (keys σ0) D ch n done σ todo)) (todo.drop n))(h:(oF tb ops (keys σ0) D ch n done σ todo).isSome=true:=by kernel_rfl):bI P ops D σ0 K done σ todo:=by
 obtain⟨s,h1⟩:=T5.1 h;refine bI.chunk hP n h1 ?_;unfold xY dkp at k;rw[h1]at k;refine bI.sub (σ':=kp ks us (some s.2)) ?_ k;exact⟨rfl,fun _ h=>js h,fun _ h=>js h⟩
end
section
variable {P : Program} {tb : Tb} {ops : Array Oper} {o : Oper} {σ : SS} {A B R : Type} {m : Option A} {k : A -> Option B} {r : B} {rest todo : List Oper} {V : A -> RV}
theorem lb{Q:SS->Prop}(h:m.bind k=some r)(c: ∀x,m=some x->bN P ops o σ (V x))(g: ∀x,k x=some r->aj P ops rest Q (σ.app o.dst (V x)))(hf: ∀x,iS (V x) o.dst σ=true:=by intro _;kernel_rfl):aj P ops (o::rest) Q σ:=by
 obtain⟨x,hx,h⟩:=bind_some h;exact aj.ls (c x hx) (g x h) (hf x)
theorem cb{Q:SS->Prop}(hP:bm P tb)(n:Nat)(ks us:List Nat)(h:m.bind k=some r)(hd:todo.drop n=o::rest)(c: ∀x,m=some x->bN P ops o (kp ks us (l0 tb ops n todo σ)) (V x))(g: ∀x,k x=some r->aj P ops rest Q ((kp ks us (l0 tb ops n todo σ)).app o.dst (V x)))(hs:(l0 tb ops n todo σ).isSome=true:=by kernel_rfl)(hf: ∀x,iS (V x) o.dst (kp ks us (l0 tb ops n todo σ))=true:=by intro _;kernel_rfl):aj P ops todo Q σ:=
 aj.cl hP n ks us (by rw[hd];exact lb h c g hf) hs
variable {Q : Exit -> SS -> Prop} {id : Nat} {y : Code}
theorem sb(hP:bm P tb)(n:Nat)(ks us:List Nat)(h:m.bind k=some r)(hd:ops.toList.drop n=o::rest)(c: ∀x,m=some x->bN P ops o (kp ks us (l0 tb ops n ops.toList σ)) (V x))(g: ∀x,k x=some r->aj P ops rest (fun s=>nx (swp P y Q) Q .normal s) ((kp ks us (l0 tb ops n ops.toList σ)).app o.dst (V x)))(hs:(l0 tb ops n ops.toList σ).isSome=true:=by kernel_rfl)(hf: ∀x,iS (V x) o.dst (kp ks us (l0 tb ops n ops.toList σ))=true:=by intro _;kernel_rfl):swp P (.seq (.region id ops false) y) Q σ:=sr (cb hP n ks us h hd c g hs hf)
variable {rs : List ResultVar} {ins : List fR} {res : R -> jM} {a b : R} {K : SS -> Prop}
theorem sn{k:SS->Prop}(h:k σ):swp P .skip (nx k Q) σ:=lm (aq h)
end
end Go.Proofs.YtbdbpakffniboaaGreatDoor.Sh
namespace Go.Proofs
open Go.Shelf
def Tryz.A4:Go.Shelf.Ren:=⟨fun | 8=>57 | 11=>91 | n=>n,fun | 26=>9 | 28=>78 | 24=>22 | 0=>0 | 33=>27 | 4=>4 | n=>n,fun | n=>n⟩
theorem Tryz.collect:Go.Proofs.SlLaysZ.n8 WW Tryz.A4:={
 mixed:=by kernel_rfl
 f8:=⟨Tryz.f57.name,by decide,func57.trans (congrArg some (by kernel_rfl))⟩
 f11:=⟨Tryz.f91.name,by decide,func91.trans (congrArg some (by kernel_rfl))⟩
 t0:=underlying0
 a0:=isAgg0
 z0:=sizeOf0
 v0:=zeroValue0
 t24:=underlying22
 a24:=isAgg22
 z24:=sizeOf22
 v24:=zeroValue22
 t26:=underlying9
 a26:=isAgg9
 z26:=sizeOf9
 v26:=zeroValue9
 t28:=underlying78
 a28:=isAgg78
 z28:=sizeOf78
 v28:=zeroValue78
 i26:=by kernel_rfl}
def Tryz.IK:Go.Shelf.Ren:=⟨fun | 137=>93 | 217=>133 | 266=>187 | n=>n,fun | 9=>9 | 5=>5 | 3=>3 | n=>n,fun | n=>n⟩
theorem Tryz.LK:Go.Proofs.Lays.n137 WW Tryz.IK:={
 mixed:=by kernel_rfl
 f137:=func93.trans (congrArg some (by kernel_rfl))
 f217:=func133.trans (congrArg some (by kernel_rfl))
 f266:=func187.trans (congrArg some (by kernel_rfl))
 t3:=underlying3
 a3:=isAgg3
 z3:=sizeOf3
 v3:=zeroValue3
 t5:=underlying5
 a5:=isAgg5
 z5:=sizeOf5
 v5:=zeroValue5
 t9:=underlying9
 a9:=isAgg9
 z9:=sizeOf9
 v9:=zeroValue9}
end Go.Proofs
namespace Go.Proofs.YtbdbpakffniboaaGreatDoor.Sh
open Go.RowKit Go.Shelf Go.Lib Go.Sort
attribute [local go_sem] Oper.semAt_some
def sf:List UInt8->List UInt8->List (List UInt8)
 | cur,[]=>if cur=[]then[]else[cur]
 | cur,c::s=>if c=10 then(cur++[c])::sf [] s else sf (cur++[c]) s
def ep(s:List UInt8):List (List UInt8):=sf [] s
theorem uB(b c:UInt8)(l:List UInt8):indexByte (b::l) c=if b=c then 0 else if indexByte l c= -1 then -1 else indexByte l c+1:=by
 simp[indexByte]
theorem FL: ∀(s cur:List UInt8),indexByte s 10= -1->sf cur s=if cur++s=[]then[]else[cur++s]
 | [],cur,_=>by simp[sf]
 | b::s,cur,h=>by
  rw[uB]at h;have hb: ¬b=10:=by
    intro e;simp[e]at h
  rw[if_neg hb]at h;have h2:indexByte s 10= -1:=by
    rcases Classical.em (indexByte s 10= -1)with h3 | h3
    ·exact h3
    ·rw[if_neg h3]at h;have:=indexByte_ge s 10;omega
  simp[sf,hb,FL s _ h2]
theorem FM: ∀(s cur:List UInt8) (i:Nat),indexByte s 10=i->sf cur s=(cur++s.take (i+1))::sf [] (s.drop (i+1))
 | [],cur,i,h=>by
  simp[indexByte]at h
 | b::s,cur,i,h=>by
  rw[uB]at h;by_cases hb:b=10
  · simp[hb]at h;have:i=0:=by omega
    subst this;simp[sf,hb]
  · rw[if_neg hb]at h;have h3: ¬indexByte s 10= -1:=by
     intro e;rw[if_pos e]at h;omega
    rw[if_neg h3]at h;have hi:1<=i:=by
     have:=indexByte_ge s 10;omega
    obtain⟨j,rfl⟩: ∃j,i=j+1:=⟨i - 1,by omega⟩;simp[sf,hb,FM s (cur++[b]) j (by omega)]
theorem KL:ep []=[]:=rfl
theorem Bg{s:List UInt8}(h0:s≠[])(h:indexByte s 10= -1):ep s=[s]:=by
 unfold ep;rw[FL s [] h];simp[h0]
theorem Bh{s:List UInt8}{i:Nat}(h:indexByte s 10=i):ep s=s.take (i+1)::ep (s.drop (i+1)):=by
 unfold ep;rw[FM s [] i h];rfl
theorem Dw: ∀(s cur:List UInt8),(sf cur s).length<=s.length+1
 | [],cur=>by
  unfold sf;split<;>simp
 | b::s,cur=>by
  unfold sf;split
  · have:=Dw s [];simp only[Ty];omega
  · have:=Dw s (cur++[b]);simp only[Ty];omega
theorem uH: ∀(s cur l:List UInt8),l∈sf cur s->l.length<=cur.length+s.length
 | [],cur,l,h=>by
  unfold sf at h;split at h
  · cases h
  · cases TH.1 h;simp
 | b::s,cur,l,h=>by
  unfold sf at h;split at h
  · rcases Tx.1 h with rfl | h
    ·simp
    ·have:=uH s [] l h;simp at this⊢;omega
  · have:=uH s (cur++[b]) l h;simp at this⊢;omega
def KI(B:Nat)(w:World):Nat:=match w.cell? ⟨B,0,none⟩with
 | some (.string s)=>s.size
 | _=>0
theorem vH{B:Nat}{w:World}{s:ByteArray}(h:w.cell? ⟨B,0,none⟩=some (.string s)):KI B w=s.size:=by
 unfold KI;rw[h]
theorem Gn{B:Nat}{w:World}{x:Value}{T:TypeId}(h:w.heap[B]? =some (.cells #[x] T (0,0))):w.cell? ⟨B,0,none⟩=some x/\w.frozen? ⟨B,0,none⟩=false:=cell_of_box_a h
theorem NK{ρ:Ren}{w0 W:World}{fn:FuncId}{sv v:Value}{Bs l D B:Nat}{ss:List (List UInt8)}(h:AnyZ.ApAt ρ w0 fn sv Bs l D ss W)(hB:B<w0.heap.size)(h1:w0.heap.size<=Bs)(h2:w0.heap.size<=l)(h3:w0.heap.size<=D):
  AnyZ.ApAt ρ (w0.setCell ⟨B,0,none⟩ v) fn sv Bs l D ss (W.setCell ⟨B,0,none⟩ v):=by
 obtain⟨u,hu,hrow,hn⟩:=h.box;have hsz:(w0.setCell ⟨B,0,none⟩ v).heap.size=w0.heap.size:=by simp[World.setCell]
 refine⟨⟨u,(Below.heap_setCell _ _ _ _ (by simp;omega)).trans hu,?_,hn⟩,(Below.heap_setCell _ _ _ _ (by simp;omega)).trans h.L,(Below.heap_setCell _ _ _ _ (by simp;omega)).trans h.K,?_⟩
 ·rw[hsz];exact hrow.kept (grownBy_setCell0_a W B v) (.inr fun e=>by have:=(hrow.lt B e).1;omega)
 ·have hb:=h.below;refine⟨hb.os,hb.tape,hb.output,by rw[hsz];simpa [World.setCell]using hb.size,fun k hk=> ?_⟩;rw[hsz]at hk;have:=hb.block k hk;simp only[World.setCell,V7,this]
theorem PR{ρ:Ren}{w0 W:World}{fn:FuncId}{sv:Value}{Bs l D:Nat}{ss:List (List UInt8)}(h:AnyZ.ApAt ρ w0 fn sv Bs l D ss W):AnyZ.ApAt ρ w0 fn sv Bs l D ss W.drew:=⟨h.box,h.L,h.K,h.below.drew⟩
theorem Lw(s:ByteArray):encStr s.data.toList= .string s:=by simp[encStr]
def CE(B:Nat)(w0 w1:World):Prop:=w1=w0\/ ∃u,w1=w0.setCell ⟨B,0,none⟩ u
theorem CE.set{B:Nat}{w0 w1:World}(h:CE B w0 w1)(v:Value):CE B w0 (w1.setCell ⟨B,0,none⟩ v):=by
 rcases h with rfl | ⟨u,rfl⟩
 ·exact .inr ⟨v,rfl⟩
 ·refine .inr ⟨v,?_⟩;simp only[World.setCell,World.mk.injEq,and_true];apply Array.ext_getElem?;intro i;simp only[V7];cases w0.heap[i]? with
  | none=>simp
  | some o=>
    by_cases hi:B=i
    ·cases o<;>simp[hi]
    ·simp[hi]
theorem CE.size{B:Nat}{w0 w1:World}(h:CE B w0 w1):w1.heap.size=w0.heap.size:=by
 rcases h with rfl | ⟨u,rfl⟩
 ·rfl
 ·simp[World.setCell]
theorem CE.block{B:Nat}{w0 w1:World}(h:CE B w0 w1){k:Nat}(hk:k≠B):w1.heap[k]? =w0.heap[k]? :=by
 rcases h with rfl | ⟨u,rfl⟩
 ·rfl
 ·exact Below.heap_setCell _ _ _ _ hk
set_option maxRecDepth 100000 in
set_option maxHeartbeats 2000000 in
theorem MT{ρ:Ren}(L:SlLaysZ.n11 WW ρ)(n:Nat)(hn:1<=n)(l Bs D B N:Nat)(w0:World)(fn:FuncId)(sv:Value)(T:TypeId)(text:ByteArray)(hB:B<w0.heap.size)(hcell:w0.heap[B]? =some (.cells #[.string text] T (0,0)))
  (hBl:Bs≠l) (hDl:D≠l) (hDB:D≠Bs) (h0B:w0.heap.size<=Bs) (h0l:w0.heap.size<=l) (h0D:w0.heap.size<=D) (hN:text.size+1<=N) (hNm:N<=maxLen) (hNb:N*16<=140737488355328)
  (W:World) (h:AnyZ.ApAt ρ w0 fn sv Bs l D [] W):
  CallsIn Fence.wide n WW 92 #[.func (.yield l) #[] #[],.pointer (some ⟨B,0,none⟩)] W fun e W'=>(∃v,e= .returned v)/\ ∃w1,CE B w0 w1/\AnyZ.ApAt ρ w1 fn sv Bs l D (ep text.data.toList) W':=by
 refine callsIn_of_wp func92 rfl trivial ?_ rfl;simp only[Tryz.ntmps92,Uk,Ty,UC,Nat.reduceAdd,Nat.reduceSub,We,Wf,Wx,Wm,UD,Vb]
 gi_wp2
 gi_loopw [3] (fun _ wr=> ∃(w1:World) (pre:List (List UInt8)) (s:ByteArray),CE B w0 w1/\w1.heap[B]? =some (.cells #[.string s] T (0,0))/\ep text.data.toList=pre++ep s.data.toList/\s.size<=text.size/\AnyZ.ApAt ρ w1 fn sv Bs l D pre wr)
  (fun _ wr=>KI B wr)
 case atStart=>
  exact⟨w0,[],text,.inl rfl,hcell,rfl,TA _,h⟩
 case round=>
  obtain⟨w1,pre,s,hoff,hs,hx,hle,hA⟩:=hrel;have hb:wr.heap[B]? =some (.cells #[.string s] T (0,0)):=(hA.below.block B (by rw[hoff.size];exact hB)).trans hs;obtain⟨hc,hf⟩:=Gn hb;have hBs:B<w1.heap.size:=by rw[hoff.size];exact hB
  have hBlt:B<wr.heap.size:=(TR.1 hb).1;have hsl:s.data.toList.length=s.size:=by rw[TB];rfl
  rcases VI s.size with h0 | h0
  · have c0: ¬(0:Int)<(s.size:Int):=by omega
    gi_wp2
    go_end0
    have hnil:s.data.toList=[]:=Uf (by omega);exact⟨⟨_,rfl⟩,w1,hoff,by rw[hnil,KL,Up];exact hA⟩
  · have c0:(0:Int)<(s.size:Int):=by omega
    have hlen:pre.length<N:=by
     have h1:=congrArg List.length hx;have h2:=Dw text.data.toList [];have h3:text.data.toList.length=text.size:=by rw[TB];rfl
     have h4:1<=(ep s.data.toList).length:=by
      rcases Classical.em (indexByte s.data.toList 10= -1)with h5 | h5
      ·rw[Bg (fun e=>by rw[e]at hsl;simp at hsl;omega) h5];simp
      ·have:=indexByte_ge s.data.toList 10;rw[Bh (i:=(indexByte s.data.toList 10).toNat) (by omega)];simp
     rw[Tz]at h1;unfold ep at h1 h4;omega
    rcases Classical.em (indexByte s.data.toList 10= -1)with hix | hix
    ·have hA2:=NK (v:= .string ⟨#[]⟩) hA hBs (by rw[hoff.size];exact h0B) (by rw[hoff.size];exact h0l) (by rw[hoff.size];exact h0D);have hsz2:(w1.setCell ⟨B,0,none⟩ (.string ⟨#[]⟩)).heap.size=w0.heap.size:=by rw[<-hoff.size];simp[World.setCell]
     have hY:=AnyZ.apYield L Fence.wide (n - 1) _ fn trivial sv Bs l D hBl hDl hDB (by rw[hsz2];exact h0B) (by rw[hsz2];exact h0l) N hNm hNb pre s.data.toList _ hA2 hlen;rw[Lw]at hY;obtain⟨fn',tmps,assign,body,hy,hR⟩:=hY;have hb2:(w1.setCell ⟨B,0,none⟩ (.string ⟨#[]⟩)).heap[B]? =some (.cells #[.string ⟨#[]⟩] T (0,0)):=heap_setCell_box_a _ hs;clear hA2
     gi_wp2_with (first
      | (refine⟨trivial,?_⟩;gi_at_call 93;refine(callsIn_wide.2 (Any.strings_IndexByte Tryz.LK s 10 _)).mono ?_;rintro e w' ⟨rfl,rfl⟩;rw[show Lib.indexByte s.data.toList (10:Int).toNat.toUInt8= -1 from hix])
      | gi_in)
     refine hR.mono ?_;rintro e W3 ⟨rfl,hJ3,hk3⟩
     gi_wp2
     have hc3:=(Gn ((hJ3.below.block B (by rw[hsz2];exact hB)).trans hb2)).1
     go_roundw
     case rel=>
      refine⟨_,_,⟨#[]⟩,hoff.set _,hb2,?_,Ul _,hJ3⟩;rw[Bg (fun e=>by rw[e]at hsl;simp at hsl;omega) hix]at hx;rw[hx];exact(Up _).symm
     case measure=>
      rw[vH hc3,vH hc];exact h0
    ·obtain⟨i,hi⟩: ∃i:Nat,indexByte s.data.toList 10=i:=⟨(indexByte s.data.toList 10).toNat,by have:=indexByte_ge s.data.toList 10;omega⟩;have hil:i<s.size:=by
      obtain⟨h1,_⟩:=indexByte_some hi;have:=(Tl.1 h1).1;omega
     have c1:(0:Int)<= ↑i:=by omega
     have c3:(0:Int)<= ↑i+1:=by omega
     have c4:(↑i+1:Int)<= ↑s.size:=by omega
     have c5:IntKind.i64.wrap (↑i+1)= ↑i+1:=by simp only[IntKind.wrap_i64];unfold maxLen at hNm;omega
     have e1:(s.extract 0 (i+1)).data.toList=s.data.toList.take (i+1):=by simp[Wy]
     have e2:(s.extract (i+1) s.size).data.toList=s.data.toList.drop (i+1):=by
      simp only[Wy,Array.toList_extract,List.extract_eq_take_drop];exact T4 (by rw[Ux,hsl];exact TA _)
     have hA2:=PR (NK (v:= .string (s.extract (i+1) s.size)) hA hBs (by rw[hoff.size];exact h0B) (by rw[hoff.size];exact h0l) (by rw[hoff.size];exact h0D));have hsz2:(w1.setCell ⟨B,0,none⟩ (.string (s.extract (i+1) s.size))).heap.size=w0.heap.size:=by rw[<-hoff.size];simp[World.setCell]
     have hY:=AnyZ.apYield L Fence.wide (n - 1) _ fn trivial sv Bs l D hBl hDl hDB (by rw[hsz2];exact h0B) (by rw[hsz2];exact h0l) N hNm hNb pre (s.extract 0 (i+1)).data.toList _ hA2 hlen;rw[Lw]at hY;obtain⟨fn',tmps,assign,body,hy,hR⟩:=hY;have hb2:(w1.setCell ⟨B,0,none⟩ (.string (s.extract (i+1) s.size))).heap[B]? =some (.cells #[.string (s.extract (i+1) s.size)] T (0,0)):=heap_setCell_box_a _ hs;clear hA2
     gi_wp2_with (first
      | (refine⟨trivial,?_⟩;gi_at_call 93;refine(callsIn_wide.2 (Any.strings_IndexByte Tryz.LK s 10 _)).mono ?_;rintro e w' ⟨rfl,rfl⟩;rw[show Lib.indexByte s.data.toList (10:Int).toNat.toUInt8=_ from hi])
      | gi_in)
     gi_region
     gi_wp2
     refine hR.mono ?_;rintro e W3 ⟨rfl,hJ3,hk3⟩
     gi_wp2
     have hc3:=(Gn ((hJ3.below.block B (by rw[hsz2];exact hB)).trans hb2)).1
     go_roundw
     case rel=>
      refine⟨_,_,_,hoff.set _,hb2,?_,?_,hJ3⟩
      ·rw[Bh hi]at hx;rw[hx,e1,e2,TX];rfl
      ·simp;omega
     case measure=>
      rw[vH hc3,vH hc];simp;omega
set_option maxRecDepth 100000 in
set_option maxHeartbeats 2000000 in
theorem IW{ρ:Ren}(L:SlLaysZ.n11 WW ρ)(n:Nat)(hn:2<=n)(B N:Nat)(w:World)(T:TypeId)(text:ByteArray)(hB:B<w.heap.size)(hcell:w.heap[B]? =some (.cells #[.string text] T (0,0)))
  (hN:text.size+1<=N) (hNm:N<=maxLen) (hNb:N*16<=140737488355328):
  CallsIn Fence.wide n WW (ρ.f 11) #[.slice none 0 0,.func (.func 92) #[] #[.pointer (some ⟨B,0,none⟩)]] w fun e w'=> ∃(v:Value) (w1:World),e= .returned v/\CE B w w1/\w'.ownsRow w.heap.size (ρ.t 26) 1 v (ep text.data.toList).length ((ep text.data.toList).map encStr)/\(v= .slice none 0 0↔ep text.data.toList=[])/\Below w.heap.size w1 w':=by
 have h1:1<=n:=by omega
 have mixed:=L.mixed;have t0:=L.t0;have a0:=L.a0;have z0:=L.z0;have v0:=L.v0;have t24:=L.t24;have a24:=L.a24;have z24:=L.z24;have v24:=L.v24;have t26:=L.t26;have a26:=L.a26;have z26:=L.z26;have v26:=L.v26;have t28:=L.t28;have a28:=L.a28;have z28:=L.z28;have v28:=L.v28;have hne:ρ.t 24≠ρ.t 26:=fun e=>by have h:=L.t24;rw[e,L.t26]at h;cases h
 have u0:=run_underlying L.t0;have u24:=run_underlying L.t24;have u26:=run_underlying L.t26;have u28:=run_underlying L.t28;obtain⟨_,_,FG⟩:=L.f11;refine callsIn_of_wp_marks FG rfl trivial ?_ rfl;simp only[SlBodyZ.n11_ntmps ρ,Uk,Ty,UC,Nat.reduceAdd,Nat.reduceSub,We,Wf,Wx,Wm,UD,Vb]
 gi_wp2
 refine wpIn_rangeFunc ?_;intro fn hfn;obtain⟨W0,hW0⟩: ∃W0,w.alloc (.cells #[.slice none 0 0] (ρ.t 24))=W0:=⟨_,rfl⟩;have hs0:W0.heap.size=w.heap.size+1:=by rw[<-hW0];simp
 have hv0:W0.heap[w.heap.size]? =some (.cells #[.slice none 0 0] (ρ.t 24) (0,0)):=by rw[<-hW0];exact World.alloc_heap_new w _
 have hb0:Below w.heap.size w W0:=by rw[<-hW0];exact(Below.refl _ w).alloc (TA _) _
 rw[hW0];obtain⟨W1,hW1⟩: ∃W1,(W0.alloc (.deferred (some []))).alloc (.loop (AnyZ.apRec ρ fn (.func (.func 92) #[] #[.pointer (some ⟨B,0,none⟩)]) w.heap.size W0.heap.size .ready none))=W1:=⟨_,rfl⟩;have hold: ∀k,k<W0.heap.size->W1.heap[k]? =W0.heap[k]? :=fun k hk=>by
  rw[<-hW1];exact(Below.heap_alloc _ _ k (by simp;omega)).trans (Below.heap_alloc _ _ k hk)
 have hb1:Below w.heap.size w W1:=by rw[<-hW1];exact(hb0.alloc hb0.size _).alloc (by have:=hb0.size;simp;omega) _
 have hM:AnyZ.ApAt ρ w fn (.func (.func 92) #[] #[.pointer (some ⟨B,0,none⟩)]) w.heap.size (W0.heap.size+1) W0.heap.size [] W1:=
  ⟨⟨_,(hold w.heap.size (by omega)).trans hv0,⟨rfl,.inl ⟨rfl,rfl⟩⟩,by simp⟩,
   by rw[<-hW1];have:=World.alloc_heap_new (W0.alloc (.deferred (some []))) (.loop (AnyZ.apRec ρ fn (.func (.func 92) #[] #[.pointer (some ⟨B,0,none⟩)]) w.heap.size W0.heap.size .ready none));rwa [World.size_alloc]at this,
   by rw[<-hW1];exact(Below.heap_alloc _ _ _ (by simp)).trans (World.alloc_heap_new W0 _),hb1⟩
 have e92: ∀args w,(callFunc 92 args).run WW w= .ok (.enter 92 args) w:=enters_of func92 (by kernel_rfl) rfl;refine⟨W0.heap.size+1,[{target:= .collected W0.heap.size,args:= #[]}],W1,{target:= .fn (.func 92) #[.pointer (some ⟨B,0,none⟩)],args:= #[.func (.yield (W0.heap.size+1)) #[] #[]]},W1,92,
  #[.func (.yield (W0.heap.size+1)) #[] #[]]++ #[.pointer (some ⟨B,0,none⟩)],W1,?_,?_,?_,?_,fun _=>h1,?_⟩
 ·rw[<-hW1];exact run_enterLoop_outer _ _ _ _ _
 ·simp[resolve,go_sem]
 ·intro f' hf';trivial
 ·simp[invoke,go_sem,e92]
 ·refine(MT {L with} (n - 1) (by omega) (W0.heap.size+1) w.heap.size W0.heap.size B N w fn _ T text hB hcell (by omega) (by omega) (by omega) (TA _) (by omega) (by omega) hN hNm hNb W1 hM).mono ?_;rintro e W2 ⟨⟨v0,rfl⟩,w1,hoff,h2⟩;obtain⟨v,hv,hrow,hnil⟩:=h2.box;have hend:=run_endLoop (P:=WW) h2.L (by simp[AnyZ.apRec]);obtain⟨W3,hW3⟩: ∃W3,W2.putObj (W0.heap.size+1) (.loop {AnyZ.apRec ρ fn (.func (.func 92) #[] #[.pointer (some ⟨B,0,none⟩)]) w.heap.size W0.heap.size .ready none with state:= .exhausted})=W3:=⟨_,rfl⟩;rw[hW3]at hend;have hg3:W2.grownBy W3 (some (W0.heap.size+1)):=by rw[<-hW3];exact grownBy_putObj_a _ _ _
  have hv3:W3.heap[w.heap.size]? =some (.cells #[v] (ρ.t 24) (0,0)):=by rw[<-hW3];exact(World.putObj_heap_other (by omega)).trans hv
  have hK3:W3.heap[W0.heap.size]? =some (.deferred (some [])):=by rw[<-hW3];exact(World.putObj_heap_other (by omega)).trans h2.K
  rw[hoff.size]at hrow;have hrow3:=hrow.kept hg3 (ownsRow_ne_a hrow h2.L (fun cur e=>by first | cases e | exact hne (Obj.cells.inj e).2.1));have h2b:=h2.below;rw[hoff.size]at h2b;have hsz1:=hoff.size;have hb3:Below w.heap.size w1 W3:=h2b.grown hg3 (Ut (by omega) h2b.size) (fun k e=>by cases e;omega);obtain⟨hc3,hf3⟩:=cell_of_box_a hv3;clear hW3;refine⟨none,W3,hend,?_⟩
  gi_wp2
  rw[<-hs0];refine⟨by simp,.inl ⟨_,_,rfl,run_takeDeferred hK3,?_⟩⟩;exact⟨_,results_tmp rfl _ _ _,v,w1,rfl,hoff,hrow3.kept (grownBy_putObj_a _ _ _) (ownsRow_ne_a hrow3 hK3 (fun cur e=>by first | cases e | exact hne (Obj.cells.inj e).2.1)),hnil,hb3.grown (grownBy_putObj_a _ _ _) (Ut (by omega) hb3.size) (fun k e=>by cases e;omega)⟩
set_option maxRecDepth 100000 in
set_option maxHeartbeats 2000000 in
theorem QI(B N:Nat)(w:World)(T:TypeId)(text:ByteArray)(hB:B<w.heap.size)(hcell:w.heap[B]? =some (.cells #[.string text] T (0,0)))
  (hN:text.size+1<=N) (hNm:N<=maxLen) (hNb:N*16<=140737488355328):
  Calls WW 57 #[.func (.func 92) #[] #[.pointer (some ⟨B,0,none⟩)]] w fun e w'=> ∃(v:Value) (w1:World),e= .returned v/\CE B w w1/\w'.ownsRow w.heap.size 9 1 v (ep text.data.toList).length ((ep text.data.toList).map encStr)/\Below w.heap.size w1 w':=by
 have L:=Tryz.collect;refine(callsIn_wide (n:=3)).1 ?_;have e11: ∀args w,(callFunc 91 args).run WW w= .ok (.enter 91 args) w:=L.f11.enters rfl;have u0:=run_underlying L.t0;have u24:=run_underlying L.t24;have u26:=run_underlying L.t26;have u28:=run_underlying L.t28;refine callsIn_of_wp func57 rfl trivial ?_ rfl;simp only[Tryz.ntmps57,Uk,Ty,UC,Nat.reduceAdd,Nat.reduceSub,We,Wf,Wx,Wm,UD,Vb]
 gi_wp2_with (first
  | (refine⟨trivial,?_⟩;gi_at_call 91;refine(IW (ρ:=Tryz.A4) {L with} 2 (by omega) B N _ T text hB hcell hN hNm hNb).mono ?_;rintro e w' ⟨v,w1,rfl,hoff,hrow,hnil,hb⟩)
  | gi_in)
 go_ret
 exact⟨v,w1,rfl,hoff,hrow,hb⟩
set_option maxRecDepth 100000 in
set_option maxHeartbeats 1000000 in
theorem QK(s:ByteArray)(w:World):Calls WW 58 #[.string s] w fun e w'=>e= .returned (.func (.func 92) #[] #[.pointer (some ⟨w.heap.size,0,none⟩)])/\w'=w.alloc (.cells #[.string s] 9):=by
 refine(callsIn_wide (n:=3)).1 ?_;refine callsIn_of_wp func58 rfl trivial ?_ rfl;simp only[Tryz.ntmps58,Uk,Ty,UC,Nat.reduceAdd,Nat.reduceSub,We,Wf,Wx,Wm,UD,Vb]
 gi_wp2
 go_ret
 exact⟨rfl,rfl⟩
section
variable {ops : Array Oper} {o : Oper} {σ : SS}
theorem H3{fo x:Operand}{ts:Array TypeId}(ho:o.op= .call {callee:= .value fo,args:= #[x],argTypes:=ts}){d0:Nat}(hdst:o.dst=some d0)(hd0:d0<σ.n)(hgd:gd ops σ o=some true)(hfo:ev σ fo=some (.clo 58 [])){s:ByteArray}(hx:ev σ x=some (.tr (.str s)))(hf:d0∉σ.names)(he:dH WW 58):
  af WW ops o σ (σ.add d0 (.clo 92 [.ref d0 0]) (.box [.tr (.str s)])):=by
 refine tL hgd fun c S β a w hr=> ?_;have hfv:=bD hr hfo;have hxv:=bD hr hx;generalize hfe:a.eval fo=fv at hfv;generalize hxe:a.eval x=xv at hxv;cases hxv with | tr _ _ hxv=>cases hxv with | str _ hs=>
 cases hfv with | clo _ _ vs hvl hvh=>
 have hvs:vs= #[]:=UQ (by simpa using hvl.symm);subst hvs;have hrun:(execOp a.eval o).run WW w= .ok (.enter 58 #[.string s]) w:=by
  simp only[execOp,ho,resolve,hfe,Deferred.ofValue,Sem.run_bind,Sem.run_pure,Result.andThen_ok,invoke];simp only[WK,UK,VC,hxe];exact he _ _
 unfold Oper.wp;rw[hrun];refine(QK s w).mono fun e w' ⟨he',hw'⟩=> ?_;subst he' hw';rw[hdst];have hg:dA (fun _=>False) w (w.alloc (.cells #[.string s] 9)):=⟨rfl,rfl,rfl,by simp,fun k hk _=>Below.heap_alloc _ _ k hk⟩;have hr':=hr.more hg (S':=fun _=>False) (fun b hb=>hb.elim) (fun b hb=>hb.elim);refine⟨_,_,Rel.put (Rel.new hr' hf hd0 (v:= .pointer (some ⟨w.heap.size,0,none⟩)) (x:= .box [.tr (.str s)]) rfl ?_ fun g hgb=> ?_) hd0 ?_⟩
 ·refine .box _ w.heap.size #[.string s] 9 (World.alloc_heap_new w _) rfl fun j c v hc hv=> ?_
  match j with
  | 0=>
    injection hc with hc;injection hv with hv;subst hc hv;exact .tr _ _ (.str s hs)
  | j+1=>simp at hc
 ·have hgw:w.heap.size=g:=by simpa [SO.ba,cN]using hgb
  subst hgw;exact⟨fun h=>h.elim (fun h=>absurd (hr.lt _ h) (by omega)) (fun h=>h),hr.grew.size,fun d' x' hm' e=>absurd ((hr.obj d' x' hm').lt ((cP.ba (hr.obj d' x' hm') fun b hb=>Below.heap_alloc _ _ b ((hr.obj d' x' hm').lt hb)).1 e)) (by omega)⟩
 ·refine .clo _ _ _ rfl fun j c v hc hv=> ?_
  match j with
  | 0=>
    injection hc with hc;injection hv with hv;subst hc hv;exact .ref d0 0 w.heap.size (cy ..)
  | j+1=>simp at hc
theorem Ey{fo x:Operand}{ts:Array TypeId}(ho:o.op= .call {callee:= .value fo,args:= #[x],argTypes:=ts}){d0 d:Nat}(hdst:o.dst=some d0)(hd0:d0<σ.n)(hgd:gd ops σ o=some true)(hfo:ev σ fo=some (.clo 57 []))(hx:ev σ x=some (.clo 92 [.ref d 0])){s:ByteArray}(hob:find d σ.o=some (.box [.tr (.str s)]))(hdn:d<σ.n)(hN:s.size+1<=4294967296)(hf:d0∉(σ.kill d).names)(he:dH WW 57):
  af WW ops o σ ((σ.kill d).add d0 (.own d0) (.arr 9 1 (ep s.data.toList).length ((ep s.data.toList).map fun x=>[.str ⟨x.toArray⟩]))):=by
 refine tL hgd fun c S β a w hr=> ?_;have hfv:=bD hr hfo;have hxv:=bD hr hx;have hmem:=aJ hob;have hobj:=hr.obj d _ hmem;generalize hfe:a.eval fo=fv at hfv;generalize hxe:a.eval x=xv at hxv;cases hxv with | clo _ _ us hul huh=>
 cases hfv with | clo _ _ vs hvl hvh=>
 have hvs:vs= #[]:=UQ (by simpa using hvl.symm);subst hvs;have hus:us= #[us.getD 0 undef]:=by
  simp at hul;apply Array.ext
  · simp[<-hul]
  · intro i h1 h2;have:i=0:=by omega
    subst this;simp[UR,h1]
 have hu0:=huh 0 (.ref d 0) (us.getD 0 undef) rfl (by rw[hus];rfl);generalize us.getD 0 undef=u0 at hus hu0;subst hus;generalize hbd:β d=bd at hobj;cases hu0 with | ref _ _ B hB=>
 rw[hbd]at hB;subst hB;cases hobj with | box _ _ ws T hbg hwl hwh=>
 have hws:ws= #[ws.getD 0 undef]:=by
  simp at hwl;apply Array.ext
  · simp[<-hwl]
  · intro i h1 h2;have:i=0:=by omega
    subst this;simp[UR,h1]
 have hw0:=hwh 0 (.tr (.str s)) (ws.getD 0 undef) rfl (by rw[hws];rfl);generalize ws.getD 0 undef=w0 at hws hw0;subst hws;cases hw0 with | tr _ _ hw0=>cases hw0 with | str _ hs=>
 have hBlt:B<w.heap.size:=(TR.1 hbg).1;have hrun:(execOp a.eval o).run WW w= .ok (.enter 57 #[.func (.func 92) #[] #[.pointer (some ⟨B,0,none⟩)]]) w:=by
  simp only[execOp,ho,resolve,hfe,Deferred.ofValue,Sem.run_bind,Sem.run_pure,Result.andThen_ok,invoke];simp only[WK,UK,VC,hxe];exact he _ _
 unfold Oper.wp;rw[hrun];refine(QI B (s.size+1) w T s hBlt hbg (TA _) (by unfold maxLen;omega) (by omega)).mono fun e w' ⟨v,w1,he',hoff,hrow,hb⟩=> ?_;subst he';rw[hdst];have hpriv: ¬S B/\c.w0.heap.size<=B:=by
  obtain⟨q1,q2⟩:=hr.priv d _ B hmem (by rw[hbd];rfl);refine⟨q1,?_⟩;rcases q2 with⟨_,q2⟩ | ⟨q2,_⟩
  · exact q2
  · omega
 have hsz1:=hoff.size;have hsz:w.heap.size<=w'.heap.size:=by rw[<-hsz1];exact Ut (by omega) hb.size
 have hoth: ∀k,k<w.heap.size->k≠B->w'.heap[k]? =w.heap[k]? :=fun k hk hne=>(hb.block k hk).trans (hoff.block hne);have hos:w'.os=w.os/\w'.tape=w.tape/\w'.output=w.output:=by
  rcases hoff with rfl | ⟨u,rfl⟩
  · exact⟨hb.os,hb.tape,hb.output⟩
  · exact⟨hb.os,hb.tape,hb.output⟩
 have hkeepS: ∀b,S b->w'.heap[b]? =w.heap[b]? :=fun b hbS=>hoth b (hr.lt b hbS) fun e=>hpriv.1 (e▸hbS);have hob': ∀{k x},(k,x)∈σ.o->k≠d-> ∀b,x.ba w (β k) b->w'.heap[b]? =w.heap[b]? :=fun{k x} hk hne b hbf=>hoth b ((hr.obj k x hk).lt hbf) fun e=>hne (hr.apart k x d _ b hk hmem hbf (rf (by rw[hbd,e];rfl)));have hof: ∀{k x},(k,x)∈σ.o->k≠d-> ∀{b},x.ba w' (β k) b->x.ba w (β k) b:=fun{k x} hk hne {b} hbf=>((hr.obj k x hk).ba (hob' hk hne)).1 hbf;have hrk:Rel c S β (σ.kill d) a w':=by
  refine⟨hr.defers,hr.size,hr.one,hr.grew.of (⟨hos.1,hos.2.1,hos.2.2,hsz,fun k hk hx=>hoth k hk fun e=>hx e⟩:dA (fun g=>g=B) w w') (fun g hgb hlt=> ?_),hr.s0,hr.s1,fun b hbS=>Ud (hr.lt b hbS) hsz,fun i y hi=>⟨(hr.tmp i y (se hi)).1,(hr.tmp i y (se hi)).2.keep hkeepS fun _ h=>h⟩,fun k y hk=> ?_,fun j u hj=>⟨(hr.pin j u hj).1,fun y hy=>(hr.pin j u hj).2 y (bE hy).1⟩,fun k y g hk hgb=>hr.priv k y g (bE hk).1 (hof (bE hk).1 (bE hk).2 hgb),fun k y k' y' g hk hk' h h'=>hr.apart k y k' y' g (bE hk).1 (bE hk').1 (hof (bE hk).1 (bE hk).2 h) (hof (bE hk').1 (bE hk').2 h')⟩
  · rw[hgb]at hlt;exact absurd hpriv.2 (by omega)
  · refine(hr.obj k y (bE hk).1).keep (fun b hbf=> ?_) fun _ h=>h;rcases hbf with hbf | hbf
    ·exact hkeepS b hbf
    ·exact hob' (bE hk).1 (bE hk).2 b hbf
 have hrow0:=ownsRow_base_a hrow (Ul _);have hv1:v.cells= #[v]:=by rcases hrow0.2 with⟨h,_⟩ | ⟨g,cap,cur,h,_⟩<;>rw[h]<;>rfl
 have hlin: ∀l∈ep s.data.toList,l.length<=maxLen:=fun l hl=>by
  have h1:=uH s.data.toList [] l hl;have h2:s.data.toList.length=s.size:=by rw[TB];rfl
  simp at h1;have h3:s.data.size=s.size:=rfl;omega
 have hnew:cP w' S (kt β d0 v) (.arr 9 1 (ep s.data.toList).length ((ep s.data.toList).map fun x=>[.str ⟨x.toArray⟩])) v:=by
  refine .arr _ 1 _ _ v _ (by simp) hrow0 (fun x hx=> ?_) fun i x j t u hi hj hu=> ?_
  · obtain⟨l,_,rfl⟩:=TF.1 hx;rfl
  · rw[Tq,Tn]at hi;obtain⟨l,hl,rfl⟩:=hi
    match j with
    | 0=>
     injection hj with hj;subst hj;rw[VG,Uw,Tq,hl]at hu;injection hu with hu;subst hu;exact .str _ (show l.toArray.size<=maxLen by simpa using hlin l (Tm hl))
    | j+1=>simp at hj
 refine⟨S,_,Rel.put (Rel.new hrk hf hd0 hv1 hnew fun g hgb=> ?_) hd0 ?_⟩
 ·have hge:=(hrow.lt g (by simpa [SO.ba,LU hrow0]using hgb)).1;exact⟨fun hS=>absurd (hr.lt g hS) (by omega),Ut hr.grew.size hge,fun d' x' hm' e=>absurd ((hr.obj d' x' (bE hm').1).lt (hof (bE hm').1 (bE hm').2 e)) (by omega)⟩
 ·have:cT w' S (kt β d0 v) (.own d0) (kt β d0 v d0):= .own d0
  rwa [cy]at this
def Dv(s:ByteArray):Option (List ByteArray):=if s.size<4294967295 then some ((ep s.data.toList).map fun x=>⟨x.toArray⟩)else none
theorem Kg:dH WW 58:=bK func58 (by kernel_rfl) rfl
theorem Gu:dH WW 57:=bK func57 (by kernel_rfl) rfl
theorem Ra{s:ByteArray}{d0:Nat}{fo x:Operand}{ts:Array TypeId}(ho:o.op= .call {callee:= .value fo,args:= #[x],argTypes:=ts})(hdst:o.dst=some d0)(hd0:T8 d0 σ.n=true:=by kernel_rfl)(hgd:gd ops σ o=some true:=by kernel_rfl)(hfo:ev σ fo=some (.clo 58 []):=by kernel_rfl)(hx:ev σ x=some (.tr (.str s)):=by kernel_rfl)(hf:(σ.names.contains d0)=false:=by kernel_rfl):
  af WW ops o σ (σ.add d0 (.clo 92 [.ref d0 0]) (.box [.tr (.str s)])):=H3 ho hdst (by simpa using hd0) hgd hfo hx (by simpa using hf) Kg
theorem NB{s:ByteArray}{L:List ByteArray}(h:Dv s=some L){d0 d:Nat}{fo x:Operand}{ts:Array TypeId}(ho:o.op= .call {callee:= .value fo,args:= #[x],argTypes:=ts})(hdst:o.dst=some d0)(hd0:(T8 d0 σ.n&&T8 d σ.n)=true:=by kernel_rfl)(hgd:gd ops σ o=some true:=by kernel_rfl)(hfo:ev σ fo=some (.clo 57 []):=by kernel_rfl)(hx:ev σ x=some (.clo 92 [.ref d 0]):=by kernel_rfl)(hob:find d σ.o=some (.box [.tr (.str s)]):=by kernel_rfl)(hf:((σ.kill d).names.contains d0)=false:=by kernel_rfl):
  af WW ops o σ ((σ.kill d).add d0 (.own d0) (.arr 9 1 L.length (L.map fun x=>[.str x]))):=by
 unfold Dv at h;split at h
 ·rename_i hlt;injection h with h;subst h;rw[TM,VR];simp only[Tp]at hd0;exact Ey ho hdst (by simpa using hd0.1) hgd hfo hx hob (by simpa using hd0.2) (by omega) (by simpa using hf) Gu
 ·cases h
end
section
variable {P : Program} {tb : Tb} {ops : Array Oper} {o : Oper} {ν : SS}
theorem zH(hP:bm P tb){e:Nat}(ho:o.op= .alloc e){d:Nat}(hdst:o.dst=some d){ti:TI}{zs:List Value}(hgd:gd ops ν o=some true:=by kernel_rfl)(hd:decide (d<ν.n)=true:=by kernel_rfl)(ht:find e tb=some ti:=by kernel_rfl)(hz:iP ti.zero=some zs:=by kernel_rfl):bN P ops o ν (some (.ref d 0,some (.box (ti.zero.map fun t=> .tr (QM t))))):=by
 intro σ c a w hs hf ⟨S,β,hr⟩;have hd:d<σ.n:=by rw[<-hs.n];exact of_decide_eq_true hd
 have hν:=hs.rel hr;have hfd:d∉σ.names:=hf d hdst;obtain⟨j,h3,_,_,h4⟩:=(bc hP ht).uC;obtain⟨z,h5,h6⟩:=h4 zs hz;have hzr:(zeroValue e).run P w= .ok z w:=by simp[zeroValue,typeInfo,h3,h5]
 have hok:AOk P c a w o (σ.add d (.ref d 0) (.box (ti.zero.map fun t=> .tr (QM t)))):=by
  refine AOk.block hr hdst hd hfd (u:= .pointer (some ⟨w.heap.size,0,none⟩)) (cs:=z.cells) (T:=e) rfl rfl ?_ (fun w' hw hs'=> ?_) fun w'=> .ref d 0 _ (cy ..)
  · simp only[execOp,ho,Instr.alloc,Sem.run_bind,hzr,Result.andThen_ok,newVar,newRow,run_newObj_alloc,Sem.run_pure]
  · obtain⟨g7,_⟩:=om (w:=w') (S:=S) hz;refine .box _ _ _ _ hw (by rw[TM,g7,<-h6,TB]) fun j x v hx hv=> ?_;rw[Tq,Tn]at hx;obtain⟨t0,h1,rfl⟩:=hx;exact .tr _ _ (LR (Et hz j t0 v h1 (by rw[<-h6];simpa using hv)))
 obtain⟨u,w',k1,k2,_⟩:=hok;unfold iQ;rw[px hν hgd,if_pos rfl];refine lr k1 ?_;rw[hdst]at k2⊢;exact k2
end
variable {P : Program} {ρ : Ren}
set_option maxHeartbeats 2000000 in
set_option maxRecDepth 100000 in
theorem Ml(L:SlLaysE0.n41 P ρ)(i0:TypeInfo)(z:Value)(size bytes:Nat)(hi:P.info? (ρ.t 23)=some i0)(hz0:i0.zero=some z)(hz1:i0.size=size)(hz2:i0.bytes=bytes)(hzs:z.cells.size=size)(hsz:0<size)
  (z23: ∀w,(Go.sizeOf (ρ.t 23)).run P w= .ok size w) (a:Addr) (n c:Nat) (news:List Value) (w:World) (hl:news.length=n*size) (hn:n<=maxLen) (hbig:n*bytes<=140737488355328)
  (hc: ∀j u,news[j]? =some u->w.cell? (a.add j)=some u) (h1: ∀u∈news,u.oneCell'=true):
  Calls P (ρ.f 41) #[.slice (some a) n c] w fun e w'=> ∃v',e= .returned v'/\w'.ownsRow w.heap.size (ρ.t 23) size v' n news/\Below w.heap.size w w':=by
 have mixed:=L.mixed;have t4:=L.t4;have a4:=L.a4;have z4:=L.z4;have v4:=L.v4;have t22:=L.t22;have a22:=L.a22;have z22:=L.z22;have v22:=L.v22;have q22: ∀(w:World) (a:Option Addr) (n c n' c':Nat),(binOp .eql (ρ.t 22) (.slice a n c) (.slice none n' c')).run P w= .ok (.bool a.isNone) w:=fun w a n c n' c'=>Lib.run_eql_slice_nil w _ _ a n c n' c' L.t22;have u22: ∀w,Sem.run P (underlying (ρ.t 22)) w= .ok (TypeDesc.slice (ρ.t 23)) w:=run_underlying t22;have A:Aside (∀j u,news[j]? =some u->w.cell? (a.add j)=some u):=hc;clear hc;obtain⟨_,_,FG⟩:=L.f41
 go_enter FG,SlBodyN.n41_ntmps ρ
 go_wp2_with (at_builtin;refine wpList_append_own _ rfl _ _ (ρ.t 22) rfl w.heap.size (ρ.t 23) i0 z size bytes t22 hi hz0 hz1 hz2 hzs hsz _ _ _ rfl (World.ownsRow_made w #[] 0 (TA _) (Ul _) (by simp)) a n c news rfl ?k1 ?k2 ?k3 ?k4 ?k5 ?k6 ?_)
 case k1=>exact hl
 case k2=>exact fun j u hj=>Lib.cell?_alloc_some _ (A.out j u hj)
 case k3=>exact h1
 case k4=>rw[Ue];exact hn
 case k5=>rw[Ue];exact hbig
 case k6=>simp
 intro v' w1 hown hgrow hnil
 go_wp2
 go_ret
 exact⟨v',rfl,by simpa using hown,((Below.refl _ w).alloc (TA _) _).grown hgrow (by simp) (by intro k hk;simp[Value.ownBlock]at hk;omega)⟩
theorem Px{w:World}{S:Nat->Prop}{t:Tr}{v:Value}(h:TV w S t v):v.oneCell'=true:=by
 cases h<;>rfl
theorem Nd{w:World}{S:Nat->Prop}{es:List (List Tr)}{m:Nat}{u:Nat->Nat->Value}(hm:0<m)(he: ∀e∈es,e.length=m)(_hu: ∀(i:Nat) e (j:Nat) t,es[i]? =some e->e[j]? =some t->TV w S t (u i j)):
  ∃xs:List Value,xs.length=es.length*m/\ ∀(i:Nat) e (j:Nat) t,es[i]? =some e->e[j]? =some t->xs[i*m+j]? =some (u i j):=by
 refine⟨(TU (es.length*m)).map fun k=>u (k/m) (k % m),by simp,fun i e j t hi hj=> ?_⟩;have h1:=(Tl.1 hi).1;have h2:=(Tl.1 hj).1;rw[he e (Tm hi)]at h2;have h3:(i+1)*m<=es.length*m:=TY _ h1;rw[UT,Nat.one_mul]at h3;rw[Tq,Vq (by omega)];have e1:(i*m+j)/m=i:=by rw[Vc,Nat.mul_add_div hm];simp[Nat.div_eq_of_lt h2]
 have e2:(i*m+j) % m=j:=by rw[Vc,Nat.mul_add_mod];exact Vt h2
 simp[e1,e2]
theorem A3{α:Type}(f:α->List Tr)(L:SlLaysE0.n41 P ρ)(k e:Nat)(hk:ρ.f 41=k)(ht:ρ.t 23=e)(i0:TypeInfo)(z:Value)(size bytes:Nat)(hi:P.info? e=some i0)(hz0:i0.zero=some z)(hz1:i0.size=size)(hz2:i0.bytes=bytes)(hzs:z.cells.size=size)(hsz:0<size)
  (z23: ∀w,(Go.sizeOf e).run P w= .ok size w) (hm: ∀x,(f x).length=size) (M:List α) (hbig:M.length*bytes<=140737488355328):eG P k [.v (.tr (.sl M.length (M.map f)))] ⟨[.own e size M.length (M.map f)],[],true⟩:=by
 intro w S vs hn hS hv _ _ _;subst ht;subst hk;have hvs:vs= #[vs.getD 0 undef]:=by
  simp at hn;apply Array.ext
  ·simp[hn]
  ·intro i h1 h2;have:i=0:=by omega
   subst this;simp[UR,h1]
 have h0:=hv 0 _ (vs.getD 0 undef) rfl (by
  simp at hn;simp[UR,hn])
 rw[hvs];generalize vs.getD 0 undef=v0 at h0⊢;cases h0 with
 | tr _ _ h0=>
  generalize hln:M.length=n at h0 hbig⊢;generalize hes:M.map f=es at h0⊢;cases h0 with
  | sl es A n c m u hl hc hmx he hu ha=>
   have hmm:es≠[]->m=size:=by
    intro hne;obtain⟨x,l,rfl⟩:=Wg hne;have h1:=he x (by simp);have h2:x∈M.map f:=by rw[hes];simp
    obtain⟨y,_,rfl⟩:=TF.1 h2;rw[<-h1,hm]
   have hes2: ∀x∈es,x.length=size:=by
    intro x hx;rw[<-hes]at hx;obtain⟨y,_,rfl⟩:=TF.1 hx;exact hm y
   cases A with
   | none=>
    have h1:es=[]:=by
     rcases es with _ | ⟨x,l⟩
     ·rfl
     ·obtain⟨b,o,h2,_⟩:=ha (by simp);cases h2
    subst h1;have h2:n=0:=by simpa using hl.symm
    subst h2;refine(AnyE.slices_Clone_nil L 0 c w).mono fun r w' h=> ?_;obtain⟨rfl,rfl⟩:=h;exact⟨_,S,rfl,dA.refl _ _,fun b hb=> .inl ⟨rfl,hb⟩,hS,⟨.arr _ size 0 [] _ [] rfl ⟨by simp,.inl ⟨rfl,rfl⟩⟩ (by simp) (fun i x j t u hi=>by simp at hi),fun g hg=>by simp[cN]at hg⟩,fun j x u hj=>by simp at hj⟩
   | some a=>
    obtain⟨xs,hx1,hx2⟩:=Nd (w:=w) (S:=S) (es:=es) (m:=size) hsz hes2 (u:=u) hu;have hxs: ∀q v,xs[q]? =some v-> ∃i e j t,es[i]? =some e/\e[j]? =some t/\q=i*size+j/\v=u i j:=by
     intro q v hq;have hql:=(Tl.1 hq).1;rw[hx1]at hql;have hi:q/size<es.length:=Nat.div_lt_of_lt_mul (by rw[Vc];exact hql);have hj:q % size<(es[q/size]).length:=by rw[hes2 _ (Uo hi)];exact Wh _ hsz
     have h3:=hx2 (q/size) _ (q % size) _ (Tk hi) (Tk hj);have h4:q/size*size+q % size=q:=by rw[Vc];exact Nat.div_add_mod q size
     rw[h4,hq]at h3;injection h3 with h3;exact⟨_,_,_,_,Tk hi,Tk hj,h4.symm,h3⟩
    refine(Ml L i0 z size bytes hi hz0 hz1 hz2 hzs hsz z23 a n c xs w (by rw[hx1,hl]) (by omega) hbig (fun q v hq=> ?_) (fun v hv=> ?_)).mono fun r w' h=> ?_
    ·obtain⟨i,e,j,t,h1,h2,rfl,rfl⟩:=hxs q v hq;have hne:es≠[]:=by rintro rfl;simp at h1
     obtain⟨b,o,h3,_,h5⟩:=ha hne;injection h3 with h3;subst h3;have:=hmm hne;subst this;rw[Addr.add_lit,<-Nat.add_assoc];exact h5 i e j t h1 h2
    ·obtain⟨q,hq⟩:=Uq.1 hv;obtain⟨i,e,j,t,h1,h2,_,rfl⟩:=hxs q v hq;exact Px (hu i e j t h1 h2)
    ·obtain⟨v',rfl,hown,hb⟩:=h;refine⟨v',S,rfl,dA.pH hb _,fun b hb=> .inl ⟨rfl,hb⟩,fun b hb2=>Ud (hS b hb2) hb.size,⟨.arr _ size n es v' xs hl ⟨hown.1,?_⟩ hes2 (fun i x j t q h1 h2 h3=> ?_),fun g hg=> ?_⟩,fun j x u hj=>by simp at hj⟩
     ·rcases hown.2 with h | ⟨g,cap,cur,h3,h4,h5⟩
      ·exact .inl h
      ·exact .inr ⟨g,cap,cur,h3,Ul _,h5⟩
     ·rw[hx2 i x j t h1 h2]at h3;injection h3 with h3;subst h3;exact(hu i x j t h1 h2).keep (fun b hb3=>hb.block b (hS b hb3)) fun b hb=>hb
     ·rcases hown.2 with⟨h,_⟩ | ⟨g',cap,cur,h3,h4,h5⟩
      ·subst h;simp[cN]at hg
      ·subst h3;simp[cN]at hg;subst hg;exact⟨h4,fun h6=>absurd (hS _ h6) (by omega)⟩
def Tr.val:Tr->Value
 | .int k n=> .int k n
 | .bool b=> .bool b
 | .str s=> .string s
 | .sl _ _=>undef
 | .nil=> .slice none 0 0
 | .nilf=> .nilFunc
theorem R2{w:World}{S:Nat->Prop}{t:Tr}{v:Value}(h:TV w S t v)(hf:t.flat=true):v=t.val:=by
 cases h with
 | int=>rfl
 | bool=>rfl
 | str=>rfl
 | sl=>cases hf
 | nil=>rfl
 | nilf=>rfl
def Tr.small:Tr->Prop
 | .str s=>s.size<=maxLen
 | _=>True
theorem Hm{w:World}{S:Nat->Prop}{t:Tr}(hf:t.flat=true)(hs:t.small):TV w S t t.val:=by
 cases t with
 | int k n=>exact .int k n
 | bool b=>exact .bool b
 | str s=>exact .str s hs
 | sl=>cases hf
 | nil=>exact .nil
 | nilf=>exact .nilf
theorem vA{w:World}{S:Nat->Prop}{ts:List Tr}(hf: ∀t∈ts,t.flat=true){vs:Array Value}(hn:vs.size=ts.length)(hv: ∀(j:Nat) x v,(ts.map fun t=>fR.v (.tr t))[j]? =some (fR.v x)->vs[j]? =some v->cT w S bz x v):vs=(ts.map Tr.val).toArray:=by
 apply Array.ext
 ·simp[hn]
 ·intro i h1 h2;have h3:i<ts.length:=by omega
  have h4:=hv i (.tr ts[i]) vs[i] (by simp[Tk h3]) (TW h1);cases h4 with
  | tr _ _ h4=>
   rw[R2 h4 (hf _ (Uo h3))];simp
theorem DK{P:Program}{k:FuncId}(ts:List Tr)(hf: ∀t∈ts,t.flat=true)(r:Tr)(hr:r.flat=true)(hs:r.small)(h: ∀w,Calls P k (ts.map Tr.val).toArray w fun e w'=>e= .returned r.val/\Below w.heap.size w w'):eG P k (ts.map fun t=>fR.v (.tr t)) ⟨[.v (.tr r)],[],false⟩:=by
 intro w S vs hn hS hv _ _ _;rw[vA hf (by simpa using hn) hv];refine(h w).mono fun e w' h=> ?_;obtain⟨rfl,hb⟩:=h;exact⟨_,fun _=>False,rfl,dA.pH hb _,fun b hb=>hb.elim,fun b hb=>hb.elim,⟨rfl,.tr _ _ (Hm hr hs)⟩,fun j x u hj=>by simp at hj⟩
def jc(s c:ByteArray):Option ByteArray:=bif c.data.toList.all (fun b=>decide (b.toNat<128))&&(decide (c.size<=1000)&&decide (s.size<=maxLen))then some ⟨(trimS s.data.toList c.data.toList).toArray⟩else none
theorem Nt(l c:List UInt8):(trimS l c).length<=l.length:=by
 have hd: ∀(p:UInt8->Bool) (l:List UInt8),(l.dropWhile p).length<=l.length:=fun p l=>List.Sublist.length_le (List.dropWhile_sublist p);unfold trimS trimRightS trimLeftS;have h1:=hd (fun b=>c.contains b) l.reverse;have h2:=hd (fun b=>c.contains b) ((l.reverse.dropWhile (fun b=>c.contains b)).reverse);simp only[List.length_reverse]at h1 h2⊢;omega
theorem Pw{P:Program}{ρ:Ren}(L:Lays.n160 P ρ)(h116:(P.info? (ρ.t 116)).map (fun i=>(i.zero,i.size))=some (some (.agg (VM 256 (.bool false))),256))(k:FuncId)(hk:ρ.f 160=k)(s c r:ByteArray)(h:jc s c=some r):eG P k [.v (.tr (.str s)),.v (.tr (.str c))] ⟨[.v (.tr (.str r))],[],false⟩:=by
 unfold jc at h;cases hb:(c.data.toList.all (fun b=>decide (b.toNat<128))&&(decide (c.size<=1000)&&decide (s.size<=maxLen)))
 ·rw[hb]at h;cases h
 ·rw[hb]at h;injection h with h;subst h;simp only[Tp,decide_eq_true_eq]at hb;obtain⟨h1,h2,h3⟩:=hb;subst hk;refine DK [.str s,.str c] (by simp[Tr.flat]) _ rfl ?_ fun w=>Any.strings_Trim_laid L h116 s c w (by unfold maxLen at h3;omega) (by omega) (ascii_of_all h1);show(List.toArray _).size<=maxLen;rw[Uk];have:=Nt s.data.toList c.data.toList;have h4:s.data.toList.length=s.size:=by rw[TB];rfl
  omega
section
variable {P : Program} {tb : Tb} {c : Cx} {S : Nat -> Prop} {β : Nat -> Value} {σ ν : SS} {a : Act} {w : World}
def NF(P:Program)(f:FuncId)(ins:List fR)(res:jM)(V:Array Value->Prop):Prop:=
 ∀(w:World) (S:Nat->Prop) (vs:Array Value),vs.size=ins.length->(∀b,S b->b<w.heap.size)->
  (∀(j:Nat) x v,ins[j]? =some (fR.v x)->vs[j]? =some v->cT w S bz x v)->
  (∀(j:Nat) x v,ins[j]? =some (fR.o x)->vs[j]? =some v->v.cells= #[v]/\cP w S bz x v/\ ∀g,x.ba w v g-> ¬S g)->
  (∀(i j:Nat) x y u v (g:Nat),ins[i]? =some (fR.o x)->ins[j]? =some (fR.o y)->vs[i]? =some u->vs[j]? =some v->x.ba w u g->y.ba w v g->i=j)->V vs->
  Calls P f vs w fun e w'=> ∃v S',e= .returned v/\dA (fun g=> ∃(j:Nat) (x:SO) (u:Value),ins[j]? =some (fR.o x)/\vs[j]? =some u/\x.ba w u g) w w'/\
   (∀b,S' b->(res.dep=true/\S b)\/w.heap.size<=b)/\(∀b,S' b->b<w'.heap.size)/\CG (vY vs w' S' w.heap.size) res.outs v/\
   ∀(j:Nat) x u,(j,x)∈res.objs->vs[j]? =some u->cP w' (fun b=>S b\/S' b) bz x u/\ ∀g,x.ba w' u g-> ¬S' g/\ ∃(j:Nat) (x0:SO) (u0:Value),ins[j]? =some (fR.o x0)/\vs[j]? =some u0/\x0.ba w u0 g
theorem IZ(V:Array Value->Prop){ops:Array Oper}{o:Oper}{fo:Operand}{args:Array Operand}{ts:Array TypeId}(ho:o.op= .call {callee:= .value fo,args:=args,argTypes:=ts})(hgd:gd ops ν o=some true)(hok:kf ν o=true)
  {f:FuncId} {caps xs ys:List SV} (hfo:ev ν fo=some (.clo f caps)) (hxs:evL ν args.toList=some xs) (hro:EZ ν (xs++caps)=some ys) (he:dH P f) {res:jM} (hc:NF P f (ys.map .v) res V) (hV: ∀(a:Act) (vs:Array Value),V (args.map a.eval++vs)) (_hobj:res.objs=[])
  (hdep:res.dep=true->SV.names.namesL (xs++caps)=[]) {x:SV} {y:Option SO} (hret:nY (o.dst.getD 0) res.outs=some (x,y)):bN P ops o ν (some (x,y)):=by
 intro σ cx a w hs hf ⟨S,β,hr⟩;have hν:=hs.rel hr;unfold iQ;rw[px hν hgd,if_pos rfl]
 let Sc:Nat->Prop:=fun b=>S b\/(res.dep=false/\ ∃d x,(d,x)∈ν.o/\x.ba w (β d) b)
 have hSc: ∀b,S b->Sc b:=fun b hb=> .inl hb;have hT:Ge w Sc β ν (SV.names.namesL (xs++caps)):=by
  intro d hd z hz;have hdep':res.dep=false:=by
   cases hb:res.dep with
   | false=>rfl
   | true=>
    rw[hdep hb]at hd;cases hd
  exact⟨fun g hg=> .inr ⟨hdep',d,z,hz,hg⟩,fun k _ y hy g hg=> .inr ⟨hdep',k,y,hy,hg⟩⟩
 obtain⟨h1,h2,h3⟩:=y5 hν hSc hro hT;obtain⟨h4,h5⟩:=tM hν hxs;have hfv:=bD hν hfo;generalize hfe:a.eval fo=fv at hfv;cases hfv with
 | clo f caps vs hvl hvh=>
  have hrun:(execOp a.eval o).run P w= .ok (.enter f (args.map a.eval++vs)) w:=by
   simp only[execOp,ho,resolve,hfe,Deferred.ofValue,Sem.run_bind,Sem.run_pure,Result.andThen_ok,invoke];rw[show(#[]:Array Value)++args.map a.eval=args.map a.eval from by simp];exact he _ _
  have hlen:xs.length=args.size:=by simpa using h4
  have hcall:=hc w Sc (args.map a.eval++vs) (by simp;simp at h1;omega) (fun b hb=>by
    rcases hb with hb | ⟨_,d,z,hz,hg⟩
    ·exact hr.lt b hb
    ·exact(hν.obj d z hz).lt hg) (fun j z v hj hv=>by
    rw[Tq,Tn]at hj;obtain⟨q,hq,hj⟩:=hj;injection hj with hj;subst hj;have hjl:=(Tl.1 hq).1;have hx:(xs++caps)[j]? =some ((xs++caps)[j]'(by omega)):=Tk _;refine h3 j _ q v hx hq ?_;generalize (xs++caps)[j]'(by omega)=p at hx;by_cases hlt:j<xs.length
    ·rw[TE hlt]at hx;rw[UG (by simp;omega),U5,Tn]at hv;obtain⟨op,hop,rfl⟩:=hv;exact h5 j op p (by simpa using hop) hx
    ·rw[Ts (by omega)]at hx;rw[Vo (by simp;omega)]at hv;refine hvh (j - xs.length) p v hx ?_;simpa [hlen]using hv) (fun j z v hj=>by
    rw[Tq,Tn]at hj;obtain⟨q,_,hj⟩:=hj;cases hj) (fun i j z z' u v g hi=>by
    rw[Tq,Tn]at hi;obtain⟨q,_,hi⟩:=hi;cases hi) (hV a vs)
  unfold Oper.wp;rw[hrun];refine hcall.mono fun e w' ⟨v,S',he',hg,hS1,hS2,hv,_⟩=> ?_;subst he';refine Rel.result hr (by unfold kf at*;rwa [<-hs.n]) (d:=o.dst.getD 0) (fun k hk=>by rw[hk];rfl) ⟨hg.os,hg.tape,hg.output,hg.size,fun k hk _=>hg.block k hk ?_⟩ (fun b hb=> ?_) hS2 hret hf hv
  ·rintro⟨j,z,u,hj,_⟩;rw[Tq,Tn]at hj;obtain⟨q,_,hj⟩:=hj;cases hj
  ·rcases hS1 b hb with⟨h6,h7⟩ | h6
   ·rcases h7 with h7 | ⟨h8,_⟩
    ·exact .inl h7
    ·rw[h6]at h8;cases h8
   ·exact .inr h6
end
theorem Fp(w:World)(o:Obj):(w.alloc o).heap[w.heap.size]? =some o:=by
 show(w.heap.push o)[w.heap.size]? =_;simp
def Iz(n:Int):Option Unit:=bif decide (0<=n)&&decide (n<=68719476736)then some ()else none
def OB(vs:Array Value):Prop:=vs[0]? =some (.slice none 0 0)
theorem QL{args:Array Operand}(h:args[0]? =some (.const (.slice none 0 0)))(a:Act)(vs:Array Value):OB (args.map a.eval++vs):=by
 unfold OB;have h1:=(TR.1 h).1;rw[UG (by simpa using h1),U5,h];rfl
theorem Of{P:Program}{ρ:Ren}{α:Type}(f:α->List Tr)(L:Lays8.n4 P ρ)(k e:Nat)(hk:ρ.f 4=k)(ht:ρ.t 25=e)(i0:TypeInfo)(z:Value)(size:Nat)(hi:P.info? e=some i0)(hz0:i0.zero=some z)(hz1:i0.size=size)(hby:Uv i0.bytes 2048=true)(hzs:z.cells.size=size)(hsz:0<size)
  (n:Int) (q:Unit) (hn:Iz n=some q) (M:List α) (hM:M=[]):NF P k ([.tr (.sl 0 []),.tr (.int .i64 n)].map .v) ⟨[.own e size M.length (M.map f)],[],true⟩ OB:=by
 intro w S vs hs hS hv _ _ hV;unfold OB at hV;subst hM hk ht;unfold Iz at hn;have hn2:0<=n/\n<=68719476736:=by
  cases hb:decide (0<=n)&&decide (n<=68719476736)
  ·rw[hb]at hn;cases hn
  ·simpa using hb
 obtain⟨m,rfl⟩:=Ui hn2.1;have h0:vs= #[.slice none 0 0,.int .i64 (m:Int)]:=by
  simp at hs;have h1: ∃v,vs[1]? =some v:=⟨vs[1]'(by omega),TW _⟩;obtain⟨v,h1⟩:=h1;have h2:=hv 1 _ v rfl h1;have h3:v= .int .i64 (m:Int):=by
   cases h2 with
   | tr _ _ h2=>cases h2;rfl
  subst h3;apply Array.ext
  ·simp[hs]
  ·intro i hi1 hi2;have:i=0\/i=1:=by omega
   rcases this with rfl | rfl
   ·rw[TW hi1]at hV;injection hV
   ·rw[TW hi1]at h1;injection h1
 subst h0;have fin: ∀(w':World) (v:Value),Below w.heap.size w w'->w'.ownsRow w.heap.size (ρ.t 25) size v 0 []-> ∃v' S',Ending.returned v= .returned v'/\dA (fun g=> ∃(j:Nat) (x:SO) (u:Value),([.v (.tr (.sl 0 [])),.v (.tr (.int .i64 (m:Int)))]:List fR)[j]? =some (fR.o x)/\(#[.slice none 0 0,.int .i64 (m:Int)]:Array Value)[j]? =some u/\x.ba w u g) w w'/\(∀b,S' b->(true=true/\S b)\/w.heap.size<=b)/\(∀b,S' b->b<w'.heap.size)/\CG (vY (#[.slice none 0 0,.int .i64 (m:Int)]:Array Value) w' S' w.heap.size) [.own (ρ.t 25) size ([]:List α).length (([]:List α).map f)] v'/\ ∀(j:Nat) (x:SO) u,(j,x)∈([]:List (Nat×SO))->(#[.slice none 0 0,.int .i64 (m:Int)]:Array Value)[j]? =some u->cP w' (fun b=>S b\/S' b) bz x u/\ ∀g,x.ba w' u g-> ¬S' g/\ ∃(j:Nat) (x0:SO) (u0:Value),([.v (.tr (.sl 0 [])),.v (.tr (.int .i64 (m:Int)))]:List fR)[j]? =some (fR.o x0)/\(#[.slice none 0 0,.int .i64 (m:Int)]:Array Value)[j]? =some u0/\x0.ba w u0 g:=by
  intro w' v hb hown;refine⟨v,fun _=>False,rfl,dA.pH hb _,fun b hb=>hb.elim,fun b hb=>hb.elim,⟨.arr _ size 0 [] v [] rfl ⟨hown.1,?_⟩ (by simp) (fun i x j t q h1=>by simp at h1),fun g hg=> ?_⟩,fun j x u hj=>by simp at hj⟩
  ·rcases hown.2 with h | ⟨g,cap,cur,h3,h4,h5⟩
   ·exact .inl h
   ·exact .inr ⟨g,cap,cur,h3,Ul _,h5⟩
  ·rcases hown.2 with⟨h,_⟩ | ⟨g',cap,cur,h3,h4,h5⟩
   ·subst h;simp[cN]at hg
   ·subst h3;simp[cN]at hg;subst hg;exact⟨h4,fun h=>h⟩
 by_cases hm:m=0
 ·subst hm;refine(Any8.slices_Grow_room L none 0 0 0 w (TA _) (by omega) (by omega) (by omega)).mono fun r w' h=> ?_;obtain⟨rfl,rfl⟩:=h;exact fin _ _ (Below.refl _ _) ⟨by simp,.inl ⟨rfl,rfl⟩⟩
 ·have hbz:i0.bytes<=2048:=T3 hby;have hbig:(0+m)*i0.bytes<=140737488355328:=by
   have h1:(0+m)*i0.bytes<=68719476736*2048:=Nat.mul_le_mul (by omega) hbz;omega
  refine(Any8.slices_Grow_grow L i0 z hi hz0 (by omega) none 0 0 m [] w (TA _) (by omega) hbig (by omega) (by simp) (fun _=>rfl) (fun a h=>by cases h)).mono fun r w' h=> ?_;obtain⟨rfl,rfl⟩:=h;refine fin _ _ (((Below.refl _ w).drew).alloc (TA _) _) ⟨by simp,.inr ⟨w.heap.size,grownCap w (0+m) 0 (ρ.t 25),_,rfl,TA _,Fp w.drew _,Ul _,?_,?_,by simp⟩⟩
  ·exact grownCap_le_maxLen w _ _ _ (by unfold maxLen;omega)
  ·have h1:0+m<=grownCap w (0+m) 0 (ρ.t 25):=grownCap_ge w _ _ _;simp only[Array.size_append,Uk,UC];have hzc: ∀k,(Builtin.zeroCells z.cells k).size=k*size:=by
    intro k
    first
    | rw[Builtin.size_zeroCells,hzs]
    | simp[Builtin.zeroCells,hzs]
   rw[hzc,hzc,Ue,<-UT];congr 1;omega
variable {P : Program} {ρ : Ren}
def cn(c:UInt8):List UInt8->List (List UInt8)
 | []=>[[]]
 | b::l=>if b=c then[]::cn c l else match cn c l with
  | []=>[[b]]
  | x::r=>(b::x)::r
theorem lU(c:UInt8): ∀l,cn c l≠[]
 | []=>by simp[cn]
 | b::l=>by
  unfold cn;split
  ·simp
  ·split<;>simp
theorem qA{c:UInt8}: ∀{l:List UInt8},c∉l->cn c l=[l]
 | [],_=>rfl
 | b::l,h=>by
  have h1:c∉l:=fun e=>h (T1 _ e);have h2:b≠c:=fun e=>h (by simp[e]);unfold cn;rw[if_neg h2,qA h1]
theorem sG{c:UInt8}: ∀{p r:List UInt8},c∉p->cn c (p++c::r)=p::cn c r
 | [],r,_=>by
  show cn c (c::r)=_;rw[cn,if_pos rfl]
 | b::p,r,h=>by
  have h1:c∉p:=fun e=>h (T1 _ e);have h2:b≠c:=fun e=>h (by simp[e]);show cn c (b::(p++c::r))=_;rw[cn,if_neg h2,sG h1]
theorem sH(c:UInt8): ∀l,(cn c l).length=l.count c+1
 | []=>by simp[cn]
 | b::l=>by
  have h:=sH c l;unfold cn;split
  ·rename_i hb;subst hb;rw[Ty,h,List.count_cons_self]
  ·rename_i hb;rw[List.count_cons_of_ne (by simpa using hb)];rw[<-h];have:=lU c l;split
   ·rename_i h2;exact absurd h2 this
   ·rename_i h2;rw[h2];rfl
theorem Bq(c:UInt8): ∀l,∀x∈cn c l,x.length<=l.length
 | [],x,h=>by simp[cn]at h;simp[h]
 | b::l,x,h=>by
  have ih:=Bq c l;unfold cn at h;split at h
  ·rcases Tx.1 h with rfl | h
   ·simp
   ·have:=ih x h;simp;omega
  ·split at h
   ·simp at h;subst h;simp
   ·rename_i y r h2;rcases Tx.1 h with rfl | h
    ·have:=ih y (by rw[h2];simp);simp;omega
    ·have:=ih x (by rw[h2];simp[h]);simp;omega
theorem Eb(c:UInt8): ∀(n:Nat) (l:List UInt8),l.length<=n->splitK [c] 0 (l.count c) l=cn c l
 | n,l,hn=>by
  by_cases hc:c∈l
  ·obtain⟨i,hi⟩: ∃i:Nat,index l [c]=i:=by
    have h1:=index_ge l [c];have h2:index l [c]≠ -1:=fun e=>by
     rw[index_one]at e;obtain⟨k,hk⟩:=Uq.1 hc;exact indexByte_none e k hk
    exact⟨(index l [c]).toNat,by omega⟩
   have hi2:=hi;rw[index_one]at hi2;obtain⟨h3,h4⟩:=indexByte_some hi2;have hlt:=(Tl.1 h3).1;have hdec:l=l.take i++c::l.drop (i+1):=by
    have:l.drop i=c::l.drop (i+1):=by
     rw[Uc hlt];congr 1;exact(Tl.1 h3).2
    rw[<-this,List.take_append_drop]
   have hfree:c∉l.take i:=fun e=>by
    obtain⟨k,hk⟩:=Uq.1 e;have hk2:=(Tl.1 hk).1;rw[TQ]at hk2;rw[T9 (by omega)]at hk;exact h4 k (by omega) hk
   have hcount:l.count c=(l.drop (i+1)).count c+1:=by
    have h5:(l.take i).count c=0:=List.count_eq_zero.2 hfree;have h6:l.count c=(l.take i++c::l.drop (i+1)).count c:=by rw[<-hdec]
    rw[h6,List.count_append,h5,List.count_cons_self];omega
   rw[hcount,splitK];have hne: ¬(index l [c]== -1)=true:=by rw[hi];simp
   rw[if_neg hne,hi];have ih:=Eb c (n - 1) (l.drop (i+1)) (by rw[Ux];omega);have e1:(↑i:Int).toNat=i:=by simp
   rw[e1,show[c].length=1 from rfl,ih]
   conv=>rhs;rw[hdec]
   rw[sG hfree,Uw]
  ·rw[List.count_eq_zero.2 hc,qA hc];rfl
termination_by _ l=>l.length
decreasing_by rw[Ux];have:=List.length_pos_of_mem hc;omega
def bn(s:ByteArray)(c:UInt8):List ByteArray:=(cn c s.data.toList).map fun l=>⟨l.toArray⟩
theorem Fh(s:ByteArray)(c:UInt8):splitB ⟨#[c]⟩ 0 (countB s ⟨#[c]⟩) s=bn s c:=by
 have h1:=splitB_data ⟨#[c]⟩ 0 (countB s ⟨#[c]⟩) s;have h2:countB s ⟨#[c]⟩=s.data.toList.count c:=count_one c s.data.toList;have h3:(splitB ⟨#[c]⟩ 0 (countB s ⟨#[c]⟩) s).map (·.data.toList)=cn c s.data.toList:=by
  rw[h1,h2];exact Eb c _ _ (TA _)
 unfold bn;rw[<-h3,VR];have:((fun l=>ByteArray.mk l.toArray)∘fun b:ByteArray=>b.data.toList)=id:=by funext b;rfl
 rw[this,List.map_id]
set_option maxHeartbeats 2000000 in
theorem No(L:Lays.n146 P ρ)(hi9:(P.info? (ρ.t 9)).map (fun i=>(i.zero,i.size,i.bytes))=some (some (.string ByteArray.empty),1,16))(s:ByteArray)(c:UInt8)(w:World)(hs:s.size<4294967281):
  Calls P (ρ.f 146) #[.string s,.string ⟨#[c]⟩] w fun e w'=>e= .returned (.slice (some ⟨w.heap.size,0,none⟩) (bn s c).length (bn s c).length)/\w'=w.alloc (.cells ((bn s c).map Value.string).toArray (ρ.t 9)):=by
 have h1:1<=(⟨#[c]⟩:ByteArray).size:=TA 1;have hle:=countB_le ⟨#[c]⟩ h1 s.size s (TA _);have hlen:=splitB_all ⟨#[c]⟩ h1 0 _ s rfl;have hC:Calls P (ρ.f 138) #[.string s,.string ⟨#[c]⟩] w fun e w'=>e= .returned (.int .i64 (countB s ⟨#[c]⟩))/\w'=w:=
  (Any.strings_Count_one {L with} s c w).mono fun e w' ⟨he,hw⟩=>⟨by rw[he,show countB s ⟨#[c]⟩=s.data.toList.count c from count_one c s.data.toList];rfl,hw⟩
 have hI: ∀(x:ByteArray) (d:Array Value),x.size<=s.size->Calls P (ρ.f 143) #[.string x,.string ⟨#[c]⟩] (w.alloc (.cells d (ρ.t 9))) fun e w'=>e= .returned (.int .i64 (indexB x ⟨#[c]⟩))/\w'=w.alloc (.cells d (ρ.t 9)):=fun x d _=>
  (Any.strings_Index_one {L with} x c _).mono fun e w' ⟨he,hw⟩=>⟨by rw[he,show indexB x ⟨#[c]⟩=indexByte x.data.toList c from index_one x.data.toList c],hw⟩
 have g:=Any.strings_genSplit_core {L with} hi9 s ⟨#[c]⟩ 0 (-1) (countB s ⟨#[c]⟩+1) w hs h1 (Ul _) hI hC (by decide) (by decide) (by rw[if_pos (by decide)];omega);rw[Nat.add_sub_cancel,hlen]at g;have e2:cellsOf (splitB ⟨#[c]⟩ 0 (countB s ⟨#[c]⟩) s) (countB s ⟨#[c]⟩+1)=((splitB ⟨#[c]⟩ 0 (countB s ⟨#[c]⟩) s).map Value.string).toArray:=by rw[<-hlen];exact cellsOf_full _
 rw[e2,<-hlen,Fh]at g;have t3:=L.t3;have t9:=L.t9;have t31:=L.t31;have a3:=L.a3;have a9:=L.a9;have a31:=L.a31;have z3:=L.z3;have v3:=L.v3;have z9:=L.z9;have v9:=L.v9;have z31:=L.z31;have v31:=L.v31;have e221: ∀args w,(callFunc (ρ.f 221) args).run P w= .ok (.enter (ρ.f 221) args) w:=enters_of L.f221 (by kernel_rfl) rfl
 go_enter L.f146,Body.n146_ntmps ρ
 go_wp2_with (go_at_fn (ρ.f 221);refine g.mono ?_;rintro e w' ⟨rfl,hw⟩;rw[hw])
 go_ret
 exact⟨rfl,rfl⟩
theorem fK{s x:ByteArray}{c:UInt8}(h:x∈bn s c):x.size<=s.size:=by
 obtain⟨l,hl,rfl⟩:=TF.1 h;have:=Bq c _ l hl;have h4:s.data.toList.length=s.size:=by rw[TB];rfl
 show l.toArray.size<=_;rw[Uk];omega
def strings_Split(s sep:ByteArray):Option (List ByteArray):=match sep.data.toList with
 | [c]=>bif decide (s.size<4294967281)then some (bn s c)else none
 | _=>none
theorem Np(L:Lays.n146 P ρ)(hi9:(P.info? (ρ.t 9)).map (fun i=>(i.zero,i.size,i.bytes))=some (some (.string ByteArray.empty),1,16))(k e:Nat)(hk:ρ.f 146=k)(ht:ρ.t 9=e)(s sep:ByteArray)(r:List ByteArray)(h:strings_Split s sep=some r):eG P k [.v (.tr (.str s)),.v (.tr (.str sep))] ⟨[.own e 1 r.length (r.map eS)],[],false⟩:=by
 unfold strings_Split at h;split at h
 ·rename_i c hc;cases hb:decide (s.size<4294967281)
  ·rw[hb]at h;cases h
  ·rw[hb]at h;injection h with h;subst h hk ht;have hs:s.size<4294967281:=by simpa using hb
   have hsep:sep=⟨#[c]⟩:=by
    have:sep=⟨sep.data.toList.toArray⟩:=rfl;rw[this,hc]
   subst hsep;intro w S vs hn hS hv _ _ _;have hva:vs= #[.string s,.string ⟨#[c]⟩]:=vA (ts:=[.str s,.str ⟨#[c]⟩]) (by simp[Tr.flat]) hn hv;subst hva;refine(No L hi9 s c w hs).mono fun r' w' h=> ?_;obtain⟨rfl,rfl⟩:=h;have hlen:(bn s c).length<=maxLen:=by
    unfold bn;rw[TM,sH];have h1:s.data.toList.count c<=s.data.toList.length:=List.count_le_length;have h4:s.data.toList.length=s.size:=by rw[TB];rfl
    unfold maxLen;omega
   refine⟨_,fun _=>False,rfl,dA.pH (((Below.refl _ w)).alloc (TA _) _) _,fun b hb=>hb.elim,fun b hb=>hb.elim,⟨.arr _ 1 _ _ _ ((bn s c).map Value.string) (by simp) ⟨by simp,.inr ⟨w.heap.size,_,_,rfl,Ul _,Fp w _,TA _,hlen,by simp,by rw[List.toList_toArray,VG,T4 (by rw[TM];exact TA _)]⟩⟩ (fun x hx=> ?_) (fun i x j t u h1 h2 h3=> ?_),fun g hg=> ?_⟩,fun j x u hj=>by simp at hj⟩
   ·obtain⟨y,_,rfl⟩:=TF.1 hx;rfl
   ·rw[Tq,Tn]at h1;obtain⟨y,hy,rfl⟩:=h1;cases j with
    | zero=>
     injection h2 with h2;subst h2;rw[VG,Uw,Tq,hy]at h3;injection h3 with h3;subst h3;have:=fK (Tm hy);exact .str y (by unfold maxLen;omega)
    | succ j=>cases h2
   ·injection hg with hg;dsimp only at hg;subst hg;exact⟨TA _,fun h=>h⟩
 ·cases h
def tJ(L:List (List UInt8)):List (List UInt8):=if L.getLast?=some []then L.dropLast else L
def hdE(cur:List UInt8):List (List UInt8)->List (List UInt8)
 | []=>[cur]
 | x::r=>(cur++x)::r
def oD(l:List UInt8):List UInt8:=if l.getLast?=some 10 then l.dropLast else l
theorem JK{l:List UInt8}(h:10∉l):oD l=l:=by
 unfold oD;rw[if_neg fun e=>h (List.mem_of_getLast? e)]
theorem Em(l:List UInt8):oD (l++[10])=l:=by
 unfold oD;simp
theorem Kd(x:List UInt8){L:List (List UInt8)}(h:L≠[]):tJ (x::L)=x::tJ L:=by
 obtain⟨y,r,rfl⟩:=Wg h;unfold tJ;rw[List.getLast?_cons_cons];split
 ·rfl
 ·rfl
theorem As: ∀(s cur:List UInt8),10∉cur->(sf cur s).map oD=tJ (hdE cur (cn 10 s))
 | [],cur,h=>by
  unfold sf cn hdE tJ;by_cases hc:cur=[]
  ·simp[hc]
  ·simp[hc,JK h]
 | c::s,cur,h=>by
  unfold sf cn;by_cases hc:c=10
  ·subst hc;have ih:=As s [] (by simp);rw[if_pos rfl,if_pos rfl,UK,Em,ih];show cur::tJ (hdE [] (cn 10 s))=tJ ((cur++[])::cn 10 s);rw[Up,Kd _ (lU 10 s)];cases hs:cn 10 s with
   | nil=>exact absurd hs (lU 10 s)
   | cons x r=>rfl
  ·have ih:=As s (cur++[c]) (by simp[h,Ne.symm hc]);rw[if_neg hc,if_neg hc,ih];cases hs:cn 10 s with
   | nil=>exact absurd hs (lU 10 s)
   | cons x r=>simp[hdE]
theorem KM(s:List UInt8):(ep s).map oD=tJ (cn 10 s):=by
 unfold ep;rw[As s [] (by simp)];cases hs:cn 10 s with
 | nil=>exact absurd hs (lU 10 s)
 | cons x r=>rfl
open Go.RowKit Go.ChangeShapes Go.WideShapes Go.ChangeAt Go.Deep
theorem own:ownKnob WW.godebug=none:=by kernel_rfl
theorem laidOut:laidOutB WW=true:=by kernel_rfl
def zL(w:World):Nat->Prop:=fun b=>b<w.heap.size
def NE(P:Program)(t:TypeId){α:Type}(f:α->List Tr)(ok:α->Prop):Prop:=
 ∀(H:Type) (enc:TypeId×Value->H) (w:World) (fuel:Nat) (cs:List Value) (x:DataW H×List MemPlace),
  DataW.trod enc P w 0 (fun _=>true) true fuel t cs=some x-> ∃a:α,ok a/\(f a).length=cs.length/\ ∀(j:Nat) tr u,(f a)[j]? =some tr->cs[j]? =some u->TV w (zL w) tr u
def Sw(n:Int):Prop:=0<=n/\n<256
section
variable {P : Program} {t e : TypeId}
theorem KS{w:World}{tr:Tr}{u:Value}(h:TV w (zL w) tr u): ∀(j:Nat) tr' u',[tr][j]? =some tr'->[u][j]? =some u'->TV w (zL w) tr' u':=by
 intro j tr' u' h1 h2;cases j with
 | zero=>simp at h1 h2;subst h1 h2;exact h
 | succ j=>simp at h1
theorem ON(ht:P.underlying t=some (.int .u8)):NE P t (eI .u8) Sw:=by
 intro H enc w fuel cs x h;obtain⟨n,rfl,_,hw⟩:=DataW.trod_int ht h;have:=bounds_u8 hw;exact⟨n,⟨by omega,by omega⟩,rfl,KS (.int _ _)⟩
theorem Rv{w:World}{b o:Nat}{s:Option Nat}{v:Value}(h:w.cell? ⟨b,o,s⟩=some v):b<w.heap.size/\s=none:=by
 unfold World.cell? at h;split at h
 ·rename_i hh;refine⟨(TR.1 hh).1,?_⟩;split at h
  ·cases h
  ·rename_i hs;cases s
   ·rfl
   ·simp at hs
 ·cases h
theorem LD{α:Type}{p:Nat->α->Prop}: ∀n:Nat,(∀i,i<n-> ∃a,p i a)-> ∃L:List α,L.length=n/\ ∀i a,L[i]? =some a->p i a
 | 0,_=>⟨[],rfl,fun i a h=>by simp at h⟩
 | n+1,h=>by
  obtain⟨L,hL,hp⟩:=LD n (fun i hi=>h i (by omega));obtain⟨a,ha⟩:=h n (by omega);refine⟨L++[a],by simp[hL],fun i b hb=> ?_⟩;rcases Vj i L.length with hi | hi
  ·rw[TE hi]at hb;exact hp i b hb
  ·rw[Ts hi]at hb;have:i - L.length=0:=by
    rcases VI (i - L.length)with h0 | h0
    ·exact h0
    ·rw[UZ (by rw[List.length_singleton];omega)]at hb;cases hb
   rw[this]at hb;simp only[List.getElem?_cons_zero,Um.injEq]at hb;subst hb;rw[show i=n from by omega];exact ha
theorem Ja{α:Type}{f:α->List Tr}{ok:α->Prop}{m:Nat}(ht:P.underlying t=some (.slice e))(hC:P.cellsOf e=m)(hp:0<m)(hm: ∀a,(f a).length=m)(ho:NE P e f ok):NE P t (eL f) (fun L=>L.length<=maxLen/\ ∀x∈L,ok x):=by
 intro H enc w fuel cs x h;rcases open_slice ht h with⟨rfl,_⟩ | ⟨a,len,cap,mm,n,D,Pl,rfl,hb,hl,hm1,hmm,hx,hi⟩
 ·exact⟨[],⟨by simp,by simp⟩,rfl,KS (.sl [] none 0 0 m (fun _ _=>default) rfl (TA _) (by simp[maxLen]) (by simp) (fun i x j t hi=>by simp at hi) (by simp))⟩
 ·have hm':mm=cap:=by simpa using hmm
  subst hm';have hel: ∀i,i<len-> ∃y:α,ok y/\ ∃ds:List Value,ds.length=m/\(∀(j:Nat) tr u,(f y)[j]? =some tr->ds[j]? =some u->TV w (zL w) tr u)/\ ∀j u,ds[j]? =some u->w.cell? ((a.add (i*m)).add j)=some u:=by
   intro i hil;obtain⟨cs',hc,ht'⟩:=hi i (by omega);obtain⟨y,hy,hr,htv⟩:=ho H enc w n cs' _ ht';obtain⟨_,hcl,hat⟩:=World.cells?_some hc;rw[hC]at hat hcl;refine⟨y,hy,cs',hcl,htv,fun j u hu=> ?_⟩;rw[hat j (by have:=(Tl.1 hu).1;omega)];exact hu
  obtain⟨L,hL,hLp⟩:=LD len hel;refine⟨L,⟨by omega,fun y hy=> ?_⟩,rfl,KS ?_⟩
  ·obtain⟨k,hk⟩:=Uq.1 hy;exact(hLp k y hk).1
  ·have hgo: ∀(i:Nat) x (j:Nat) t,(L.map f)[i]? =some x->x[j]? =some t-> ∃u,w.cell? ((a.add (i*m)).add j)=some u/\TV w (zL w) t u:=by
    intro i x j t hi hj;rw[Tq,Tn]at hi;obtain⟨y,hy,rfl⟩:=hi;obtain⟨_,ds,h1,h2,h3⟩:=hLp i y hy;have hjl:j<ds.length:=by rw[h1,<-hm y];exact(Tl.1 hj).1
    exact⟨ds[j],h3 j _ (Tk _),h2 j t _ hj (Tk _)⟩
   have hlen:L.length=len:=hL;rw[hlen];refine .sl (L.map f) (some a) len mm m (fun i j=>(w.cell? ((a.add (i*m)).add j)).getD default) (by simp[hL]) hl hm1 (fun x hx=> ?_) (fun i x j t hi hj=> ?_) fun hne=> ?_
   ·obtain⟨y,_,rfl⟩:=TF.1 hx;exact hm y
   ·obtain⟨u,h1,h2⟩:=hgo i x j t hi hj;rw[h1];exact h2
   ·have h0:0<(L.map f).length:=List.length_pos_iff.2 hne;have hx0:(L.map f)[0]? =some ((L.map f)[0]):=Tk _;have hl0:0<((L.map f)[0]).length:=by rw[List.getElem_map,hm];exact hp
    obtain⟨u,h1,_⟩:=hgo 0 _ 0 _ hx0 (Tk hl0);obtain⟨b,o,s⟩:=a;rw[Nat.zero_mul]at h1;simp only[Addr.add,if_true]at h1;obtain⟨hlt,rfl⟩:=Rv h1;refine⟨b,o,rfl,hlt,fun i x j t hi hj=> ?_⟩;obtain⟨u,h2,_⟩:=hgo i x j t hi hj;rw[Addr.add_lit,Addr.add_lit]at h2;rw[Addr.add_lit,Addr.add_lit,h2];rfl
theorem Jp{w:World}: ∀(j:Nat) x v,([]:List SV)[j]? =some x->([]:List Value)[j]? =some v->cT w (zL w) bz x v:=fun j x v h=>by simp at h
theorem F2{w:World}{x:SV}{v:Value}{xs:List SV}{vs:List Value}(h:cT w (zL w) bz x v)(k: ∀(j:Nat) x v,xs[j]? =some x->vs[j]? =some v->cT w (zL w) bz x v): ∀(j:Nat) x' v',(x::xs)[j]? =some x'->(v::vs)[j]? =some v'->cT w (zL w) bz x' v':=by
 intro j x' v' h1 h2;cases j with
 | zero=>simp at h1 h2;subst h1 h2;exact h
 | succ j=>exact k j x' v' (by simpa using h1) (by simpa using h2)
theorem F0{k:FuncId}{ins:List SV}{vs:List Value}{W:World}(h:eG P k (ins.map .v) ⟨[.v (.tr (.bool true))],[],false⟩)(hs:vs.length=ins.length)(hv: ∀(j:Nat) x v,ins[j]? =some x->vs[j]? =some v->cT W (zL W) bz x v)(hgl:mX (zL W) W:=by refine⟨?_,?_,?_,?_⟩<;>(intro p hp;cases hp)):
  Calls P k vs.toArray W fun e W'=>e= .returned (.bool true)/\Below W.heap.size W W':=by
 have hno: ∀(j:Nat) x,(ins.map fR.v)[j]? =some (fR.o x)->False:=fun j x hj=>by
  rw[Tq,Tn]at hj;obtain⟨q,_,hq⟩:=hj;cases hq
 have:=h W (zL W) vs.toArray (by simpa using hs) (fun b hb=>hb) (fun j x v hj hv'=>by
  rw[Tq,Tn]at hj;obtain⟨q,hq,hj⟩:=hj;injection hj with hj;subst hj;exact hv j q v hq (by simpa using hv')) (fun j x v hj=>(hno j x hj).elim) (fun i j x y u v g hi=>(hno i x hi).elim) hgl
 refine this.mono fun e W' ⟨v,S',he,hg,_,_,hv,_⟩=> ?_;subst he;have h1:vY vs.toArray W' S' W.heap.size (.v (.tr (.bool true))) v:=hv;obtain⟨_,h2⟩:=h1;cases h2 with | tr _ _ h2=>cases h2 with | bool=>
 refine⟨rfl,hg.os,hg.tape,hg.output,hg.size,fun k hk=>hg.block k hk ?_⟩;rintro⟨j,x,u,hj,_⟩;exact hno j x hj
theorem wX{H:Type}{enc:TypeId×Value->H}{W W':World}(hl:laidOutB P=true)(hb:Below W.heap.size W W'){sp:Nat->Bool}:
  ∀{ts:List TypeId} {vs:List Value} {ds:List (DataW H)} {ps:List MemPlace},(∀t∈ts,P.readableRec t=true/\t<P.types.size)->DataW.TrodAll enc P W 0 (fun _=>true) true ts vs ds ps->
  (∀x∈ps,x.block<W.heap.size)->(∀p∈ps,sp p.block=true)->DataW.TrodAll enc P W' 0 sp true ts vs ds ps
 | [],vs,ds,ps,_,h,_,_=>by
  obtain⟨rfl,rfl,rfl⟩:=trodAll_nil h;exact trodAll_mk0
 | t::ts,vs,ds,ps,hts,h,hlt,hsp=>by
  obtain⟨v,vs',d,ds',p,q,rfl,rfl,rfl,h1,h2⟩:=trodAll_cons h;refine trodAll_cons_mk (WideElems.Trod_stays hl (hts t (by simp)).1 (hts t (by simp)).2 h1 (fun x hx=>hb.same (hlt x (by simp[hx]))) (fun x hx=>hsp x (by simp[hx])))
   (wX hl hb (fun u hu=>hts u (by simp[hu])) h2 (fun x hx=>hlt x (by simp[hx])) (fun x hx=>hsp x (by simp[hx])))
end
end Go.Proofs.YtbdbpakffniboaaGreatDoor.Sh
namespace Go.Proofs
open Go.Shelf
def Tryz.IN:Go.Shelf.Ren:=⟨fun | 160=>227 | 232=>288 | 231=>287 | 227=>289 | 234=>291 | 233=>290 | 236=>293 | 235=>292 | 228=>346 | 271=>348 | 151=>347 | 197=>159 | 120=>378 | 152=>377 | 260=>222 | 137=>93 | 119=>403 | 224=>224 | 225=>223 | 217=>133 | 266=>187 | n=>n,fun | 9=>9 | 4=>4 | 3=>3 | 5=>5 | 117=>254 | 116=>253 | 0=>0 | 124=>257 | 21=>21 | 105=>147 | 46=>182 | 119=>245 | 139=>248 | 138=>247 | n=>n,fun | 3=>2 | 4=>3 | n=>n⟩
theorem Tryz.Qz:Go.Proofs.Lays.n160 WW Tryz.IN:={
 mixed:=by kernel_rfl
 f119:=func403.trans (congrArg some (by kernel_rfl))
 f120:=func378.trans (congrArg some (by kernel_rfl))
 f137:=func93.trans (congrArg some (by kernel_rfl))
 f151:=func347.trans (congrArg some (by kernel_rfl))
 f152:=func377.trans (congrArg some (by kernel_rfl))
 f160:=func227.trans (congrArg some (by kernel_rfl))
 f197:=func159.trans (congrArg some (by kernel_rfl))
 f217:=func133.trans (congrArg some (by kernel_rfl))
 f224:=func224.trans (congrArg some (by kernel_rfl))
 f225:=func223.trans (congrArg some (by kernel_rfl))
 f227:=func289.trans (congrArg some (by kernel_rfl))
 f228:=func346.trans (congrArg some (by kernel_rfl))
 f231:=func287.trans (congrArg some (by kernel_rfl))
 f232:=func288.trans (congrArg some (by kernel_rfl))
 f233:=func290.trans (congrArg some (by kernel_rfl))
 f234:=func291.trans (congrArg some (by kernel_rfl))
 f235:=func292.trans (congrArg some (by kernel_rfl))
 f236:=func293.trans (congrArg some (by kernel_rfl))
 f260:=func222.trans (congrArg some (by kernel_rfl))
 f266:=func187.trans (congrArg some (by kernel_rfl))
 f271:=func348.trans (congrArg some (by kernel_rfl))
 t0:=underlying0
 a0:=isAgg0
 z0:=sizeOf0
 v0:=zeroValue0
 t3:=underlying3
 a3:=isAgg3
 z3:=sizeOf3
 v3:=zeroValue3
 t4:=underlying4
 a4:=isAgg4
 z4:=sizeOf4
 v4:=zeroValue4
 t5:=underlying5
 a5:=isAgg5
 z5:=sizeOf5
 v5:=zeroValue5
 t9:=underlying9
 a9:=isAgg9
 z9:=sizeOf9
 v9:=zeroValue9
 t21:=underlying21
 a21:=isAgg21
 z21:=sizeOf21
 v21:=zeroValue21
 t46:=underlying182
 a46:=isAgg182
 z46:=sizeOf182
 v46:=zeroValue182
 t105:=underlying147
 a105:=isAgg147
 z105:=sizeOf147
 v105:=zeroValue147
 t116:=underlying253
 a116:=isAgg253
 z116:=sizeOf253
 t117:=underlying254
 a117:=isAgg254
 z117:=sizeOf254
 v117:=zeroValue254
 t119:=underlying245
 a119:=isAgg245
 z119:=sizeOf245
 t124:=underlying257
 a124:=isAgg257
 z124:=sizeOf257
 v124:=zeroValue257
 t138:=underlying247
 a138:=isAgg247
 z138:=sizeOf247
 v138:=zeroValue247
 t139:=underlying248
 a139:=isAgg248
 z139:=sizeOf248
 v139:=zeroValue248
 g3:=by kernel_rfl
 g4:=by kernel_rfl}
def Tryz.IM:Go.Shelf.Ren:=⟨fun | 146=>40 | 221=>71 | 268=>105 | 138=>106 | 143=>107 | 195=>158 | 197=>159 | 218=>160 | 219=>161 | 260=>222 | 217=>133 | 225=>223 | 224=>224 | 267=>225 | 266=>187 | 314=>286 | n=>n,fun | 9=>9 | 31=>22 | 3=>3 | 4=>4 | 0=>0 | 105=>147 | 21=>21 | 5=>5 | 46=>182 | 119=>245 | 139=>248 | 138=>247 | 146=>249 | 51=>226 | n=>n,fun | 1=>1 | 3=>2 | 4=>3 | n=>n⟩
theorem Tryz.Qy:Go.Proofs.Lays.n146 WW Tryz.IM:={
 mixed:=by kernel_rfl
 f138:=func106.trans (congrArg some (by kernel_rfl))
 f143:=func107.trans (congrArg some (by kernel_rfl))
 f146:=func40.trans (congrArg some (by kernel_rfl))
 f195:=func158.trans (congrArg some (by kernel_rfl))
 f197:=func159.trans (congrArg some (by kernel_rfl))
 f217:=func133.trans (congrArg some (by kernel_rfl))
 f218:=func160.trans (congrArg some (by kernel_rfl))
 f219:=func161.trans (congrArg some (by kernel_rfl))
 f221:=func71.trans (congrArg some (by kernel_rfl))
 f224:=func224.trans (congrArg some (by kernel_rfl))
 f225:=func223.trans (congrArg some (by kernel_rfl))
 f260:=func222.trans (congrArg some (by kernel_rfl))
 f266:=func187.trans (congrArg some (by kernel_rfl))
 f267:=func225.trans (congrArg some (by kernel_rfl))
 f268:=func105.trans (congrArg some (by kernel_rfl))
 f314:=func286.trans (congrArg some (by kernel_rfl))
 t0:=underlying0
 a0:=isAgg0
 z0:=sizeOf0
 v0:=zeroValue0
 t3:=underlying3
 a3:=isAgg3
 z3:=sizeOf3
 v3:=zeroValue3
 t4:=underlying4
 a4:=isAgg4
 z4:=sizeOf4
 v4:=zeroValue4
 t5:=underlying5
 a5:=isAgg5
 z5:=sizeOf5
 v5:=zeroValue5
 t9:=underlying9
 a9:=isAgg9
 z9:=sizeOf9
 v9:=zeroValue9
 t21:=underlying21
 a21:=isAgg21
 z21:=sizeOf21
 v21:=zeroValue21
 t31:=underlying22
 a31:=isAgg22
 z31:=sizeOf22
 v31:=zeroValue22
 t46:=underlying182
 a46:=isAgg182
 z46:=sizeOf182
 v46:=zeroValue182
 t51:=underlying226
 a51:=isAgg226
 z51:=sizeOf226
 v51:=zeroValue226
 t105:=underlying147
 a105:=isAgg147
 z105:=sizeOf147
 v105:=zeroValue147
 t119:=underlying245
 a119:=isAgg245
 z119:=sizeOf245
 t138:=underlying247
 a138:=isAgg247
 z138:=sizeOf247
 v138:=zeroValue247
 t139:=underlying248
 a139:=isAgg248
 z139:=sizeOf248
 v139:=zeroValue248
 t146:=underlying249
 a146:=isAgg249
 z146:=sizeOf249
 v146:=zeroValue249
 g1:=by kernel_rfl
 g3:=by kernel_rfl
 g4:=by kernel_rfl}
def Tryz.IJ:Go.Shelf.Ren:=⟨fun | 106=>144 | 213=>197 | 265=>257 | n=>n,fun | 9=>9 | 3=>3 | n=>n,fun | n=>n⟩
theorem Tryz.Qx:Go.Proofs.Lays.n106 WW Tryz.IJ:={
 mixed:=by kernel_rfl
 f106:=func144.trans (congrArg some (by kernel_rfl))
 f213:=func197.trans (congrArg some (by kernel_rfl))
 f265:=func257.trans (congrArg some (by kernel_rfl))
 t3:=underlying3
 a3:=isAgg3
 z3:=sizeOf3
 v3:=zeroValue3
 t9:=underlying9
 a9:=isAgg9
 z9:=sizeOf9
 v9:=zeroValue9}
def Tryz.IS:Go.Shelf.Ren:=⟨fun | 190=>325 | 125=>196 | 258=>364 | 128=>255 | 129=>256 | 302=>391 | 303=>392 | 304=>393 | 305=>394 | 306=>395 | 307=>396 | 308=>397 | 309=>398 | 310=>399 | 333=>407 | 329=>311 | 330=>312 | 334=>408 | 335=>409 | 336=>327 | 344=>411 | n=>n,fun | 31=>22 | 9=>9 | 3=>3 | 46=>182 | 0=>0 | 51=>226 | 53=>228 | 4=>4 | 183=>219 | 182=>218 | 131=>223 | 5=>5 | 218=>269 | 222=>273 | 228=>303 | 229=>304 | n=>n,fun | n=>n⟩
theorem Tryz.QD:Go.Proofs.Lays.n190 WW Tryz.IS:={
 mixed:=by kernel_rfl
 f125:=func196.trans (congrArg some (by kernel_rfl))
 f128:=func255.trans (congrArg some (by kernel_rfl))
 f129:=func256.trans (congrArg some (by kernel_rfl))
 f190:=func325.trans (congrArg some (by kernel_rfl))
 f258:=func364.trans (congrArg some (by kernel_rfl))
 f302:=func391.trans (congrArg some (by kernel_rfl))
 f303:=func392.trans (congrArg some (by kernel_rfl))
 f304:=func393.trans (congrArg some (by kernel_rfl))
 f305:=func394.trans (congrArg some (by kernel_rfl))
 f306:=func395.trans (congrArg some (by kernel_rfl))
 f307:=func396.trans (congrArg some (by kernel_rfl))
 f308:=func397.trans (congrArg some (by kernel_rfl))
 f309:=func398.trans (congrArg some (by kernel_rfl))
 f310:=func399.trans (congrArg some (by kernel_rfl))
 f329:=func311.trans (congrArg some (by kernel_rfl))
 f330:=func312.trans (congrArg some (by kernel_rfl))
 f333:=func407.trans (congrArg some (by kernel_rfl))
 f334:=func408.trans (congrArg some (by kernel_rfl))
 f335:=func409.trans (congrArg some (by kernel_rfl))
 f336:=func327.trans (congrArg some (by kernel_rfl))
 f344:=func411.trans (congrArg some (by kernel_rfl))
 t0:=underlying0
 a0:=isAgg0
 z0:=sizeOf0
 v0:=zeroValue0
 t3:=underlying3
 a3:=isAgg3
 z3:=sizeOf3
 v3:=zeroValue3
 t4:=underlying4
 a4:=isAgg4
 z4:=sizeOf4
 v4:=zeroValue4
 t5:=underlying5
 a5:=isAgg5
 z5:=sizeOf5
 v5:=zeroValue5
 t9:=underlying9
 a9:=isAgg9
 z9:=sizeOf9
 v9:=zeroValue9
 t31:=underlying22
 a31:=isAgg22
 z31:=sizeOf22
 v31:=zeroValue22
 t46:=underlying182
 a46:=isAgg182
 z46:=sizeOf182
 v46:=zeroValue182
 t51:=underlying226
 a51:=isAgg226
 z51:=sizeOf226
 v51:=zeroValue226
 t53:=underlying228
 a53:=isAgg228
 z53:=sizeOf228
 v53:=zeroValue228
 t131:=underlying223
 a131:=isAgg223
 z131:=sizeOf223
 v131:=zeroValue223
 t182:=underlying218
 a182:=isAgg218
 z182:=sizeOf218
 v182:=zeroValue218
 t183:=underlying219
 a183:=isAgg219
 z183:=sizeOf219
 v183:=zeroValue219
 t218:=underlying269
 a218:=isAgg269
 z218:=sizeOf269
 v218:=zeroValue269
 t222:=underlying273
 a222:=isAgg273
 z222:=sizeOf273
 v222:=zeroValue273
 t228:=underlying303
 a228:=isAgg303
 z228:=sizeOf303
 v228:=zeroValue303
 t229:=underlying304
 a229:=isAgg304
 z229:=sizeOf304
 v229:=zeroValue304}
def Tryz.IT:Go.Shelf.Ren:=⟨fun | 194=>326 | n=>n,fun | 31=>22 | 9=>9 | 3=>3 | 4=>4 | 0=>0 | n=>n,fun | n=>n⟩
theorem Tryz.QG:Go.Proofs.Lays.n194 WW Tryz.IT:={
 mixed:=by kernel_rfl
 f194:=func326.trans (congrArg some (by kernel_rfl))
 t0:=underlying0
 a0:=isAgg0
 z0:=sizeOf0
 v0:=zeroValue0
 t3:=underlying3
 a3:=isAgg3
 z3:=sizeOf3
 v3:=zeroValue3
 t4:=underlying4
 a4:=isAgg4
 z4:=sizeOf4
 v4:=zeroValue4
 t9:=underlying9
 a9:=isAgg9
 z9:=sizeOf9
 v9:=zeroValue9
 t31:=underlying22
 a31:=isAgg22
 z31:=sizeOf22
 v31:=zeroValue22}
def Tryz.IP:Go.Shelf.Ren:=⟨fun | 173=>188 | 246=>243 | 283=>305 | 284=>306 | 285=>307 | 286=>308 | 129=>256 | 317=>354 | 318=>355 | 319=>356 | 320=>357 | 337=>380 | 338=>381 | n=>n,fun | 2=>2 | 3=>3 | 9=>9 | 4=>4 | 171=>265 | 0=>0 | 53=>228 | 37=>28 | 5=>5 | 173=>267 | 212=>301 | 51=>226 | 20=>20 | 213=>302 | 46=>182 | 232=>335 | 233=>336 | n=>n,fun | 17=>4 | 18=>7 | 19=>8 | n=>n⟩
theorem Tryz.QC:Go.Proofs.LaysM.n173 WW Tryz.IP:={
 mixed:=by kernel_rfl
 f129:=func256.trans (congrArg some (by kernel_rfl))
 f173:=func188.trans (congrArg some (by kernel_rfl))
 f246:=func243.trans (congrArg some (by kernel_rfl))
 f283:=func305.trans (congrArg some (by kernel_rfl))
 f284:=func306.trans (congrArg some (by kernel_rfl))
 f285:=func307.trans (congrArg some (by kernel_rfl))
 f286:=func308.trans (congrArg some (by kernel_rfl))
 f317:=func354.trans (congrArg some (by kernel_rfl))
 f318:=func355.trans (congrArg some (by kernel_rfl))
 f319:=func356.trans (congrArg some (by kernel_rfl))
 f320:=func357.trans (congrArg some (by kernel_rfl))
 f337:=func380.trans (congrArg some (by kernel_rfl))
 f338:=func381.trans (congrArg some (by kernel_rfl))
 t0:=underlying0
 a0:=isAgg0
 z0:=sizeOf0
 v0:=zeroValue0
 t2:=underlying2
 a2:=isAgg2
 z2:=sizeOf2
 v2:=zeroValue2
 t3:=underlying3
 a3:=isAgg3
 z3:=sizeOf3
 v3:=zeroValue3
 t4:=underlying4
 a4:=isAgg4
 z4:=sizeOf4
 v4:=zeroValue4
 t5:=underlying5
 a5:=isAgg5
 z5:=sizeOf5
 v5:=zeroValue5
 t9:=underlying9
 a9:=isAgg9
 z9:=sizeOf9
 v9:=zeroValue9
 t20:=underlying20
 a20:=isAgg20
 z20:=sizeOf20
 v20:=zeroValue20
 t37:=underlying28
 a37:=isAgg28
 z37:=sizeOf28
 v37:=zeroValue28
 t46:=underlying182
 a46:=isAgg182
 z46:=sizeOf182
 v46:=zeroValue182
 t51:=underlying226
 a51:=isAgg226
 z51:=sizeOf226
 v51:=zeroValue226
 t53:=underlying228
 a53:=isAgg228
 z53:=sizeOf228
 v53:=zeroValue228
 t171:=underlying265
 a171:=isAgg265
 z171:=sizeOf265
 v171:=zeroValue265
 t173:=underlying267
 a173:=isAgg267
 z173:=sizeOf267
 v173:=zeroValue267
 t212:=underlying301
 a212:=isAgg301
 z212:=sizeOf301
 v212:=zeroValue301
 t213:=underlying302
 a213:=isAgg302
 z213:=sizeOf302
 t232:=underlying335
 a232:=isAgg335
 z232:=sizeOf335
 v232:=zeroValue335
 t233:=underlying336
 a233:=isAgg336
 z233:=sizeOf336
 v233:=zeroValue336
 g17:=by kernel_rfl
 g18:=by kernel_rfl
 g19:=by kernel_rfl
 i0:=by kernel_rfl
 i2:=by kernel_rfl
 i3:=by kernel_rfl
 i4:=by kernel_rfl
 i5:=by kernel_rfl
 i9:=by kernel_rfl
 i20:=by kernel_rfl
 i37:=by kernel_rfl
 i46:=by kernel_rfl
 i51:=by kernel_rfl
 i53:=by kernel_rfl
 i171:=by kernel_rfl
 i173:=by kernel_rfl
 i212:=by kernel_rfl
 i232:=by kernel_rfl
 i233:=by kernel_rfl
 m17:=by kernel_rfl
 m18:=by kernel_rfl
 m19:=by kernel_rfl}
def Tryz.IQ:Go.Shelf.Ren:=⟨fun | 174=>220 | 247=>283 | 245=>284 | 287=>341 | 279=>342 | 280=>343 | 281=>344 | 282=>345 | 321=>372 | 322=>373 | 316=>374 | 171=>376 | 205=>375 | 243=>402 | 246=>243 | 283=>305 | 284=>306 | 285=>307 | 286=>308 | 129=>256 | 317=>354 | 318=>355 | 319=>356 | 320=>357 | 337=>380 | 338=>381 | n=>n,fun | 9=>9 | 3=>3 | 2=>2 | 75=>196 | 85=>201 | 4=>4 | 167=>289 | 5=>5 | 53=>228 | 175=>290 | 46=>182 | 168=>292 | 37=>28 | 0=>0 | 210=>317 | 21=>21 | 127=>237 | 145=>333 | 143=>331 | 171=>265 | 173=>267 | 212=>301 | 51=>226 | 20=>20 | 213=>302 | 232=>335 | 233=>336 | 80=>141 | n=>n,fun | 15=>5 | 16=>6 | 17=>4 | 18=>7 | 19=>8 | n=>n⟩
theorem Tryz.GR:Go.Proofs.LaysC.n174 WW Tryz.IQ:={
 mixed:=by kernel_rfl
 f129:=func256.trans (congrArg some (by kernel_rfl))
 f171:=func376.trans (congrArg some (by kernel_rfl))
 f174:=func220.trans (congrArg some (by kernel_rfl))
 f205:=func375.trans (congrArg some (by kernel_rfl))
 f243:=func402.trans (congrArg some (by kernel_rfl))
 f245:=func284.trans (congrArg some (by kernel_rfl))
 f246:=func243.trans (congrArg some (by kernel_rfl))
 f247:=func283.trans (congrArg some (by kernel_rfl))
 f279:=func342.trans (congrArg some (by kernel_rfl))
 f280:=func343.trans (congrArg some (by kernel_rfl))
 f281:=func344.trans (congrArg some (by kernel_rfl))
 f282:=func345.trans (congrArg some (by kernel_rfl))
 f283:=func305.trans (congrArg some (by kernel_rfl))
 f284:=func306.trans (congrArg some (by kernel_rfl))
 f285:=func307.trans (congrArg some (by kernel_rfl))
 f286:=func308.trans (congrArg some (by kernel_rfl))
 f287:=func341.trans (congrArg some (by kernel_rfl))
 f316:=func374.trans (congrArg some (by kernel_rfl))
 f317:=func354.trans (congrArg some (by kernel_rfl))
 f318:=func355.trans (congrArg some (by kernel_rfl))
 f319:=func356.trans (congrArg some (by kernel_rfl))
 f320:=func357.trans (congrArg some (by kernel_rfl))
 f321:=func372.trans (congrArg some (by kernel_rfl))
 f322:=func373.trans (congrArg some (by kernel_rfl))
 f337:=func380.trans (congrArg some (by kernel_rfl))
 f338:=func381.trans (congrArg some (by kernel_rfl))
 t0:=underlying0
 a0:=isAgg0
 z0:=sizeOf0
 v0:=zeroValue0
 t2:=underlying2
 a2:=isAgg2
 z2:=sizeOf2
 v2:=zeroValue2
 t3:=underlying3
 a3:=isAgg3
 z3:=sizeOf3
 v3:=zeroValue3
 t4:=underlying4
 a4:=isAgg4
 z4:=sizeOf4
 v4:=zeroValue4
 t5:=underlying5
 a5:=isAgg5
 z5:=sizeOf5
 v5:=zeroValue5
 t9:=underlying9
 a9:=isAgg9
 z9:=sizeOf9
 v9:=zeroValue9
 t20:=underlying20
 a20:=isAgg20
 z20:=sizeOf20
 v20:=zeroValue20
 t21:=underlying21
 a21:=isAgg21
 z21:=sizeOf21
 v21:=zeroValue21
 t37:=underlying28
 a37:=isAgg28
 z37:=sizeOf28
 v37:=zeroValue28
 t46:=underlying182
 a46:=isAgg182
 z46:=sizeOf182
 v46:=zeroValue182
 t51:=underlying226
 a51:=isAgg226
 z51:=sizeOf226
 v51:=zeroValue226
 t53:=underlying228
 a53:=isAgg228
 z53:=sizeOf228
 v53:=zeroValue228
 t75:=underlying196
 a75:=isAgg196
 z75:=sizeOf196
 v75:=zeroValue196
 t85:=underlying201
 a85:=isAgg201
 z85:=sizeOf201
 v85:=zeroValue201
 t127:=underlying237
 a127:=isAgg237
 z127:=sizeOf237
 v127:=zeroValue237
 t143:=underlying331
 a143:=isAgg331
 z143:=sizeOf331
 v143:=zeroValue331
 t145:=underlying333
 a145:=isAgg333
 z145:=sizeOf333
 v145:=zeroValue333
 t167:=underlying289
 a167:=isAgg289
 z167:=sizeOf289
 v167:=zeroValue289
 t168:=underlying292
 a168:=isAgg292
 z168:=sizeOf292
 v168:=zeroValue292
 t171:=underlying265
 a171:=isAgg265
 z171:=sizeOf265
 v171:=zeroValue265
 t173:=underlying267
 a173:=isAgg267
 z173:=sizeOf267
 v173:=zeroValue267
 t175:=underlying290
 a175:=isAgg290
 z175:=sizeOf290
 v175:=zeroValue290
 t210:=underlying317
 a210:=isAgg317
 z210:=sizeOf317
 v210:=zeroValue317
 t212:=underlying301
 a212:=isAgg301
 z212:=sizeOf301
 v212:=zeroValue301
 t213:=underlying302
 a213:=isAgg302
 z213:=sizeOf302
 t232:=underlying335
 a232:=isAgg335
 z232:=sizeOf335
 v232:=zeroValue335
 t233:=underlying336
 a233:=isAgg336
 z233:=sizeOf336
 v233:=zeroValue336
 g15:=by kernel_rfl
 g16:=by kernel_rfl
 g17:=by kernel_rfl
 g18:=by kernel_rfl
 g19:=by kernel_rfl
 t80:=underlying141
 a80:=isAgg141
 z80:=sizeOf141
 v80:=zeroValue141
 i0:=by kernel_rfl
 i2:=by kernel_rfl
 i3:=by kernel_rfl
 i4:=by kernel_rfl
 i5:=by kernel_rfl
 i9:=by kernel_rfl
 i20:=by kernel_rfl
 i21:=by kernel_rfl
 i37:=by kernel_rfl
 i46:=by kernel_rfl
 i51:=by kernel_rfl
 i53:=by kernel_rfl
 i75:=by kernel_rfl
 i80:=by kernel_rfl
 i85:=by kernel_rfl
 i127:=by kernel_rfl
 i143:=by kernel_rfl
 i145:=by kernel_rfl
 i167:=by kernel_rfl
 i168:=by kernel_rfl
 i171:=by kernel_rfl
 i173:=by kernel_rfl
 i175:=by kernel_rfl
 i210:=by kernel_rfl
 i212:=by kernel_rfl
 i232:=by kernel_rfl
 i233:=by kernel_rfl
 m15:=by kernel_rfl
 m16:=by kernel_rfl
 m17:=by kernel_rfl
 m18:=by kernel_rfl
 m19:=by kernel_rfl
 c0:=by kernel_rfl
 c2:=by kernel_rfl
 c3:=by kernel_rfl
 c4:=by kernel_rfl
 c5:=by kernel_rfl
 c9:=by kernel_rfl
 c20:=by kernel_rfl
 c21:=by kernel_rfl
 c37:=by kernel_rfl
 c46:=by kernel_rfl
 c51:=by kernel_rfl
 c53:=by kernel_rfl
 c75:=by kernel_rfl
 c80:=by kernel_rfl
 c85:=by kernel_rfl
 c127:=by kernel_rfl
 c143:=by kernel_rfl
 c145:=by kernel_rfl
 c167:=by kernel_rfl
 c168:=by kernel_rfl
 c171:=by kernel_rfl
 c173:=by kernel_rfl
 c175:=by kernel_rfl
 c210:=by kernel_rfl
 c212:=by kernel_rfl
 c213:=by kernel_rfl
 c232:=by kernel_rfl
 c233:=by kernel_rfl}
def Tryz.IL:Go.Shelf.Ren:=⟨fun | 145=>244 | 220=>309 | 219=>161 | 217=>133 | 225=>223 | 224=>224 | 267=>225 | 266=>187 | 314=>286 | n=>n,fun | 9=>9 | 4=>4 | 59=>215 | 3=>3 | 5=>5 | 46=>182 | 146=>249 | 51=>226 | n=>n,fun | 1=>1 | n=>n⟩
theorem Tryz.LL:Go.Proofs.LaysM.n145 WW Tryz.IL:={
 mixed:=by kernel_rfl
 f145:=func244.trans (congrArg some (by kernel_rfl))
 f217:=func133.trans (congrArg some (by kernel_rfl))
 f219:=func161.trans (congrArg some (by kernel_rfl))
 f220:=func309.trans (congrArg some (by kernel_rfl))
 f224:=func224.trans (congrArg some (by kernel_rfl))
 f225:=func223.trans (congrArg some (by kernel_rfl))
 f266:=func187.trans (congrArg some (by kernel_rfl))
 f267:=func225.trans (congrArg some (by kernel_rfl))
 f314:=func286.trans (congrArg some (by kernel_rfl))
 t3:=underlying3
 a3:=isAgg3
 z3:=sizeOf3
 v3:=zeroValue3
 t4:=underlying4
 a4:=isAgg4
 z4:=sizeOf4
 v4:=zeroValue4
 t5:=underlying5
 a5:=isAgg5
 z5:=sizeOf5
 v5:=zeroValue5
 t9:=underlying9
 a9:=isAgg9
 z9:=sizeOf9
 v9:=zeroValue9
 t46:=underlying182
 a46:=isAgg182
 z46:=sizeOf182
 v46:=zeroValue182
 t51:=underlying226
 a51:=isAgg226
 z51:=sizeOf226
 v51:=zeroValue226
 t59:=underlying215
 a59:=isAgg215
 z59:=sizeOf215
 v59:=zeroValue215
 t146:=underlying249
 a146:=isAgg249
 z146:=sizeOf249
 v146:=zeroValue249
 g1:=by kernel_rfl
 i3:=by kernel_rfl
 i4:=by kernel_rfl
 i5:=by kernel_rfl
 i9:=by kernel_rfl
 i46:=by kernel_rfl
 i51:=by kernel_rfl
 i59:=by kernel_rfl
 i146:=by kernel_rfl
 m1:=by kernel_rfl
 s1_3:=fun w h=>Go.Proofs.cell_of_shapedOpen_int (zero:= #[.int .i64 0]) (t:=3) h (of_decide_eq_true (by kernel_rfl)) (by kernel_rfl) rfl (by kernel_rfl) (by kernel_rfl) underlying3}
def Tryz.uE:Go.Shelf.Ren:=⟨fun | 156=>150 | 165=>209 | 166=>210 | 169=>211 | 240=>272 | 241=>273 | 276=>328 | 277=>329 | n=>n,fun | 31=>22 | 9=>9 | 3=>3 | 4=>4 | 0=>0 | 20=>20 | 72=>193 | 76=>197 | 70=>191 | 37=>28 | 75=>196 | 127=>237 | 164=>280 | 5=>5 | 80=>141 | n=>n,fun | n=>n⟩
theorem Tryz.LM:Go.Proofs.Lays.n156 WW Tryz.uE:={
 mixed:=by kernel_rfl
 f156:=func150.trans (congrArg some (by kernel_rfl))
 f165:=func209.trans (congrArg some (by kernel_rfl))
 f166:=func210.trans (congrArg some (by kernel_rfl))
 f169:=func211.trans (congrArg some (by kernel_rfl))
 f240:=func272.trans (congrArg some (by kernel_rfl))
 f241:=func273.trans (congrArg some (by kernel_rfl))
 f276:=func328.trans (congrArg some (by kernel_rfl))
 f277:=func329.trans (congrArg some (by kernel_rfl))
 t0:=underlying0
 a0:=isAgg0
 z0:=sizeOf0
 v0:=zeroValue0
 t3:=underlying3
 a3:=isAgg3
 z3:=sizeOf3
 v3:=zeroValue3
 t4:=underlying4
 a4:=isAgg4
 z4:=sizeOf4
 v4:=zeroValue4
 t9:=underlying9
 a9:=isAgg9
 z9:=sizeOf9
 v9:=zeroValue9
 t20:=underlying20
 a20:=isAgg20
 z20:=sizeOf20
 v20:=zeroValue20
 t31:=underlying22
 a31:=isAgg22
 z31:=sizeOf22
 v31:=zeroValue22
 t37:=underlying28
 a37:=isAgg28
 z37:=sizeOf28
 v37:=zeroValue28
 t70:=underlying191
 a70:=isAgg191
 z70:=sizeOf191
 v70:=zeroValue191
 t72:=underlying193
 a72:=isAgg193
 z72:=sizeOf193
 v72:=zeroValue193
 t75:=underlying196
 a75:=isAgg196
 z75:=sizeOf196
 v75:=zeroValue196
 t76:=underlying197
 a76:=isAgg197
 z76:=sizeOf197
 v76:=zeroValue197
 t127:=underlying237
 a127:=isAgg237
 z127:=sizeOf237
 v127:=zeroValue237
 t164:=underlying280
 a164:=isAgg280
 z164:=sizeOf280
 v164:=zeroValue280}
def Tryz.Eu:Go.Shelf.Ren:=⟨fun | 41=>140 | n=>n,fun | 22=>32 | 23=>69 | 4=>4 | n=>n,fun | n=>n⟩
theorem Tryz.Mk:Go.Proofs.SlLaysE0.n41 WW Tryz.Eu:={
 mixed:=by kernel_rfl
 f41:=⟨Tryz.f140.name,by decide,func140.trans (congrArg some (by kernel_rfl))⟩
 t4:=underlying4
 a4:=isAgg4
 z4:=sizeOf4
 v4:=zeroValue4
 t22:=underlying32
 a22:=isAgg32
 z22:=sizeOf32
 v22:=zeroValue32}
def Tryz.CT:Go.Shelf.Ren:=⟨fun | 41=>270 | n=>n,fun | 22=>31 | 23=>65 | 4=>4 | n=>n,fun | n=>n⟩
theorem Tryz.J6:Go.Proofs.SlLaysE0.n41 WW Tryz.CT:={
 mixed:=by kernel_rfl
 f41:=⟨Tryz.f270.name,by decide,func270.trans (congrArg some (by kernel_rfl))⟩
 t4:=underlying4
 a4:=isAgg4
 z4:=sizeOf4
 v4:=zeroValue4
 t22:=underlying31
 a22:=isAgg31
 z22:=sizeOf31
 v22:=zeroValue31}
def Tryz.G8:Go.Shelf.Ren:=⟨fun | 6=>318 | 15=>196 | 14=>360 | 28=>255 | 29=>256 | 20=>382 | 21=>383 | 22=>384 | 23=>385 | 24=>386 | 25=>387 | 26=>388 | 27=>389 | 46=>404 | 47=>311 | 48=>312 | 49=>405 | 50=>406 | 57=>410 | n=>n,fun | 22=>157 | 24=>126 | 25=>232 | 3=>3 | 39=>182 | 0=>0 | 53=>226 | 55=>228 | 4=>4 | 46=>219 | 45=>218 | 50=>223 | 5=>5 | 9=>9 | 66=>269 | 70=>273 | 76=>303 | 77=>304 | n=>n,fun | n=>n⟩
theorem Tryz.O7:Go.Proofs.SlLaysF.n6 WW Tryz.G8:={
 mixed:=by kernel_rfl
 f6:=⟨Tryz.f318.name,by decide,func318.trans (congrArg some (by kernel_rfl))⟩
 f14:=⟨Tryz.f360.name,by decide,func360.trans (congrArg some (by kernel_rfl))⟩
 f15:=func196.trans (congrArg some (by kernel_rfl))
 f20:=⟨Tryz.f382.name,by decide,func382.trans (congrArg some (by kernel_rfl))⟩
 f21:=⟨Tryz.f383.name,by decide,func383.trans (congrArg some (by kernel_rfl))⟩
 f22:=⟨Tryz.f384.name,by decide,func384.trans (congrArg some (by kernel_rfl))⟩
 f23:=⟨Tryz.f385.name,by decide,func385.trans (congrArg some (by kernel_rfl))⟩
 f24:=⟨Tryz.f386.name,by decide,func386.trans (congrArg some (by kernel_rfl))⟩
 f25:=⟨Tryz.f387.name,by decide,func387.trans (congrArg some (by kernel_rfl))⟩
 f26:=⟨Tryz.f388.name,by decide,func388.trans (congrArg some (by kernel_rfl))⟩
 f27:=⟨Tryz.f389.name,by decide,func389.trans (congrArg some (by kernel_rfl))⟩
 f28:=func255.trans (congrArg some (by kernel_rfl))
 f29:=func256.trans (congrArg some (by kernel_rfl))
 f46:=⟨Tryz.f404.name,by decide,func404.trans (congrArg some (by kernel_rfl))⟩
 f47:=func311.trans (congrArg some (by kernel_rfl))
 f48:=func312.trans (congrArg some (by kernel_rfl))
 f49:=⟨Tryz.f405.name,by decide,func405.trans (congrArg some (by kernel_rfl))⟩
 f50:=⟨Tryz.f406.name,by decide,func406.trans (congrArg some (by kernel_rfl))⟩
 f57:=⟨Tryz.f410.name,by decide,func410.trans (congrArg some (by kernel_rfl))⟩
 t0:=underlying0
 a0:=isAgg0
 z0:=sizeOf0
 v0:=zeroValue0
 t3:=underlying3
 a3:=isAgg3
 z3:=sizeOf3
 v3:=zeroValue3
 t4:=underlying4
 a4:=isAgg4
 z4:=sizeOf4
 v4:=zeroValue4
 t5:=underlying5
 a5:=isAgg5
 z5:=sizeOf5
 v5:=zeroValue5
 t9:=underlying9
 a9:=isAgg9
 z9:=sizeOf9
 v9:=zeroValue9
 t22:=underlying157
 a22:=isAgg157
 z22:=sizeOf157
 v22:=zeroValue157
 a24:=isAgg126
 z24:=sizeOf126
 t25:=underlying232
 a25:=isAgg232
 z25:=sizeOf232
 v25:=zeroValue232
 t39:=underlying182
 a39:=isAgg182
 z39:=sizeOf182
 v39:=zeroValue182
 t45:=underlying218
 a45:=isAgg218
 z45:=sizeOf218
 v45:=zeroValue218
 t46:=underlying219
 a46:=isAgg219
 z46:=sizeOf219
 v46:=zeroValue219
 t50:=underlying223
 a50:=isAgg223
 z50:=sizeOf223
 v50:=zeroValue223
 t53:=underlying226
 a53:=isAgg226
 z53:=sizeOf226
 v53:=zeroValue226
 t55:=underlying228
 a55:=isAgg228
 z55:=sizeOf228
 v55:=zeroValue228
 t66:=underlying269
 a66:=isAgg269
 z66:=sizeOf269
 v66:=zeroValue269
 t70:=underlying273
 a70:=isAgg273
 z70:=sizeOf273
 v70:=zeroValue273
 t76:=underlying303
 a76:=isAgg303
 z76:=sizeOf303
 v76:=zeroValue303
 t77:=underlying304
 a77:=isAgg304
 z77:=sizeOf304
 v77:=zeroValue304}
def Tryz.EC:Go.Shelf.Ren:=⟨fun | 4=>192 | n=>n,fun | 22=>31 | 25=>65 | 3=>3 | 4=>4 | 9=>9 | 20=>20 | 0=>0 | n=>n,fun | n=>n⟩
theorem Tryz.MC:Go.Proofs.Lays8.n4 WW Tryz.EC:={
 mixed:=by kernel_rfl
 f4:=⟨Tryz.f192.name,by decide,func192.trans (congrArg some (by kernel_rfl))⟩
 t0:=underlying0
 a0:=isAgg0
 z0:=sizeOf0
 v0:=zeroValue0
 t3:=underlying3
 a3:=isAgg3
 z3:=sizeOf3
 v3:=zeroValue3
 t4:=underlying4
 a4:=isAgg4
 z4:=sizeOf4
 v4:=zeroValue4
 t9:=underlying9
 a9:=isAgg9
 z9:=sizeOf9
 v9:=zeroValue9
 t20:=underlying20
 a20:=isAgg20
 z20:=sizeOf20
 v20:=zeroValue20
 t22:=underlying31
 a22:=isAgg31
 z22:=sizeOf31
 v22:=zeroValue31}
end Go.Proofs
namespace Go.Proofs.YtbdbpakffniboaaGreatDoor.Sh
open Go.RowKit Go.ChangeShapes Go.WideShapes Go.ChangeAt Go.Deep Go.ChangeMaps
theorem H2{W:World}{name:String}{g0:Nat}{tn:String}{d:DataW Unit}{r:List (String×DataW Unit)}(h:laidMet WW ((name,.iface tn d)::r) W)(hg:WW.globalNamed name=some g0)(ht:(WW.globals[g0]?).map (·.type)=some 196):g0<W.heap.size/\ ∃t u,W.cell? ⟨g0,0,none⟩=some (.iface t u):=by
 obtain⟨ps,⟨g,t,cs,fuel,p,q,hg',ht',hv,hd,_,_⟩,_⟩:=h;obtain rfl:=Um.inj (hg.symm.trans hg');obtain rfl:=Um.inj (ht.symm.trans ht');obtain⟨f',u,v,hcs,_,_⟩:=iface_of_trod underlying196 hd;have h1:=World.var?_cell hg hv 0;have h2:cs[0]? =some (.iface u v):=by
  rw[<-Ub,hcs];rfl
 rw[h2]at h1;refine⟨?_,u,v,h1⟩;rcases Vj g0 W.heap.size with h3 | h3
 ·exact h3
 ·exfalso;have hn:W.heap[g0]? =none:=Array.getElem?_eq_none h3;unfold World.cell? at h1;simp only[hn]at h1;cases h1
theorem Gb{W:World}(h:laidMetH WW Rows.fnExactRunConsoleRow.laid W)(r:Nat)(hr:r<8):W.cell? ⟨0,r,none⟩=some (.string (da.getD r ⟨#[]⟩)):=by
 rw[MakeChecks.laidMetH_plain _ _ _ (by kernel_rfl)]at h;obtain⟨ps,⟨_,_,_,_,_,_,_,_,_,_,⟨_,_,_,_,_,_,_,_,_,_,⟨_,_,_,_,_,_,_,_,_,_,⟨_,_,_,_,_,_,_,_,_,_,⟨_,_,_,_,_,_,_,_,_,_,⟨_,_,_,_,_,_,_,_,_,_,⟨g,t,cs,fuel,p,q,hg,ht,hv,hd,_,_⟩,_⟩,_⟩,_⟩,_⟩,_⟩,_⟩,_,_⟩:=h;obtain rfl:=Um.inj ((show WW.globalNamed "loop.example/g01030/impl.directionWords" =some 0 by kernel_rfl).symm.trans hg);obtain rfl:=Um.inj ((show(WW.globals[0]?).map (·.type)=some 152 by kernel_rfl).symm.trans ht);obtain⟨xs,m,_,ex,_,hl,hel⟩:=DataW.trod_array underlying152 hd;have c5:WW.cellsOf 9=1:=by kernel_rfl
 have hE:=hel r hr;rw[c5,VG,Tk (by omega)]at hE;obtain⟨z,e1,e2,_⟩:=DataW.trod_string underlying9 hE;have hlen:da.length=8:=by kernel_rfl
 have e3:(xs.map (·.1))=da.map fun s=>(DataW.lit (.string s.data.toList):DataW Unit):=(DataW.agg.inj (Vk.inj ex).1).symm;have e4:(xs.map (·.1))[r]? =(da.map fun s=>(DataW.lit (.string s.data.toList):DataW Unit))[r]? :=by rw[e3]
 rw[Tq,Tq,Tk (by omega:r<xs.length),Tk (by omega:r<da.length),e2]at e4;have hz:z=da.getD r ⟨#[]⟩:=by
  simp only[UO,Um.injEq,DataW.lit.injEq,Lit.string.injEq]at e4;rw[List.getD,Tk (by omega:r<da.length)];obtain⟨z⟩:=z;generalize hy:da[r]=y at e4;obtain⟨y⟩:=y;have e5:z.toList=y.toList:=e4;rw[Option.getD_some,Array.toList_inj.1 e5]
 rw[World.var?_cell hg hv r,<-hz];have:cs.toList[r]? =some (.string z):=by
  have h0:((cs.toList.drop r).take 1)[0]? =some (.string z):=by rw[e1];rfl
  simpa using h0
 simpa using this
theorem Es{W:World}(h:laidMetH WW Rows.fnExactRunConsoleRow.laid W)(hsh:W.ShapedOpen WW):mX (zL W) W:=by
 have h0:=Gb h 0 (by omega);have hw:=Gb h;rw[MakeChecks.laidMetH_plain _ _ _ (by kernel_rfl)]at h;have h2:=laidMet.tail (laidMet.tail h);have h4:=laidMet.tail (laidMet.tail h2);have h5:=laidMet.tail h4;have e1:=H2 h4 (g0:=6) (by kernel_rfl) (by kernel_rfl);have e2:=H2 h5 (g0:=5) (by kernel_rfl) (by kernel_rfl);have ht:Lib.TabIs WW W "internal/strconv.uint64pow10" .u64 Lib.pow10Tab:=Lib.tabIs_of_head (g:=4) (t:=301) (e:=228) (n:=20) (by kernel_rfl) (by kernel_rfl) underlying301 underlying228 (by kernel_rfl) (by kernel_rfl) h2;obtain⟨m,hm⟩: ∃m,W.cell? ⟨1,0,none⟩=some (.int .i64 m):=Tryz.LL.s1_3 W hsh;have hlt: ∀{g:Nat} {v:Value},W.cell? ⟨g,0,none⟩=some v->g<W.heap.size:=fun{g v} h0=>by
  rcases Vj g W.heap.size with hz | hz
  ·exact hz
  ·exfalso;have hn:W.heap[g]? =none:=Array.getElem?_eq_none (by omega);unfold World.cell? at h0;simp only[hn]at h0;cases h0
 refine⟨fun p hp=> ?_,fun g hg=> ?_,fun p hp=> ?_,fun g hg=> ?_⟩
 ·have hp':p=(0,da.map Value.string):=by
   unfold pins at hp;simpa using hp
  subst hp';refine⟨hlt h0,hlt h0,fun j v hj=> ?_⟩;have hj8:j<8:=by
   have:=(Tl.1 hj).1;have hl:da.length=8:=rfl;rw[TM]at this;omega
  rw[Tq,Tn]at hj;obtain⟨y,hy,rfl⟩:=hj;have:=hw j hj8;rw[List.getD,hy]at this;exact this
 ·have:g=5\/g=6:=by
   unfold Js at hg;simpa using hg
  rcases this with rfl | rfl
  ·exact⟨e2.1,e2.1,e2.2⟩
  ·exact⟨e1.1,e1.1,e1.2⟩
 ·have hp:p=_:=TH.1 hp;subst hp;unfold Lib.TabIs World.var? at ht;rw[show WW.globalNamed "internal/strconv.uint64pow10" =some 4 by kernel_rfl,Ti]at ht;have h3: ∃t x,W.heap[4]? =some (.cells (Lib.pow10Tab.map fun z=>Value.int .u64 z).toArray t x):=by
   cases hb:W.heap[4]? with
   | none=>rw[hb]at ht;cases ht
   | some o=>
    rw[hb]at ht;cases o with
    | cells cs t x=>
     injection ht with ht;subst ht;exact⟨t,x,rfl⟩
    | _=>cases ht
  obtain⟨t,x,h3⟩:=h3;have hlt:4<W.heap.size:=(TR.1 h3).1;exact⟨hlt,hlt,t,x,h3⟩
 ·have:g=1:=by
   unfold ints at hg;simpa using hg
  subst this;exact⟨hlt hm,hlt hm,m,hm⟩
theorem FK{H:Type}{enc:TypeId×Value->H}{P:Program}{f:Func}{s:ChangeSpec}{W W':World}{args:Array Value}{v:Value}{ds gs:List (DataW H)}{before p q:List MemPlace}{tb:TypeId}
  (hW:DataW.Whole enc P f.params.toList s.vars false W args.toList ds gs before) (hl:laidOutB P=true) (hts: ∀t∈f.params.toList,P.readableRec t=true/\t<P.types.size)
  (hA:DataW.TrodAll enc P W 0 (fun _=>true) true f.params.toList args.toList ds p) (hbef:before=p++q) (hb:Below W.heap.size W W')
  (hr:f.resultTypes= #[tb]) (ht:P.underlying tb=some .bool) (hv:v= .bool true) (h1:(s.fn H (ds++gs)).results=[.lit (.bool true)]) (h2:(s.fn H (ds++gs)).args=ds) (h3:(s.fn H (ds++gs)).vars=gs)
  (hvars:DataW.TrodVars enc P W' (fun b=>decide (b<W.heap.size)) s.vars gs q):
  s.post enc P f false true false false W args v W':=by
 have hlt: ∀x∈before,x.block<W.heap.size:=fun x hx=>hW.lt x hx;subst hv;have hsp: ∀x∈before,(fun b=>decide (b<W.heap.size)) x.block=true:=fun x hx=>by simpa using hlt x hx
 refine⟨ds,gs,before,[],p,q,hW,?_,?_,by rw[h3];exact hvars,hb.frame _,fun h=>by cases h⟩
 ·rw[h1,hr];exact trodAll_mk1 (shut_bool ht _)
 ·rw[h2];exact wX hl hb hts hA (fun x hx=>hlt x (by rw[hbef];simp[hx])) (fun x hx=>hsp x (by rw[hbef];simp[hx]))
theorem Bf{H:Type}{enc:TypeId×Value->H}{a:Assume}{C:Checked}{os:Os}{f:FuncId}{fn:Func}{s:ChangeSpec}{conds:List PathCond}{apart fresh handsOn again:Bool}{X:World->Array Value->Prop}
  (hX: ∀(w w':World) (args:Array Value),w.heap=w'.heap->X w args->X w' args)
  (own:ownKnob C.prog.godebug=none) (started:os.Started) (noInit:C.prog.inits.idxOf? f=none) (hfn:C.prog.funcs[f]? =some fn)
  (witness: ∃(w:World) (tape:Tape) (i:Input),w.os=os/\(w.forCall tape i).Shaped C.prog/\i.vars=[]/\Input.okWide C.prog (w.forCall tape i) .any w.heap.size f i/\
   ((s.pre enc C.prog fn conds apart (w.forCall tape i).memory i.args/\X (w.forCall tape i).memory i.args)/\sizedMet enc C.prog fn (OpenSpec.ofChange s) apart (w.forCall tape i).memory i.args)/\a.holds C.prog (lone (Frame.enter C.prog f i.args .normal) [] (w.forCall tape i)))
  (contract: ∀(W:World) (base:Nat) (args:Array Value) (ds gs:List (DataW H)) (before:List MemPlace),
   (∀(j:Nat) t v,fn.params[j]? =some t->args[j]? =some v->Value.okWide C.prog W .any base t v)->
   DataW.Whole enc C.prog fn.params.toList s.vars apart W args.toList ds gs before->
   X W args->W.ShapedOpen C.prog->
   Calls C.prog f args W fun e W'=> ∃v,e= .returned v/\s.post enc C.prog fn apart fresh handsOn again W args v W'):
  ReturnsInHanded a C os f .any (fun w args=>(s.pre enc C.prog fn conds apart w args/\X w args)/\sizedMet enc C.prog fn (OpenSpec.ofChange s) apart w args) (s.post enc C.prog fn apart fresh handsOn again):=by
 refine returnsInHanded_of_calls own started noInit witness ?_;intro w tape i _ hsh _ hok hpre hholds;obtain⟨_,_,_,fn',hfn',_,_,_,_,hval⟩:=hok;have e:fn'=fn:=Um.inj (hfn'.symm.trans hfn);subst e;obtain⟨⟨⟨ds,gs,before,hw,hc⟩,hx⟩,hz⟩:=hpre;have hw':=DataW.Whole.of_heap (w':=w.forCall tape i) (by rfl) hw;refine(contract (w.forCall tape i) w.heap.size i.args ds gs before hval hw' (hX _ _ _ (by rfl) hx) hsh).mono fun e W' ⟨v,he,hp⟩=> ?_;subst he;exact ChangeSpec.post_blind hp
section
variable {S A α : Type}
theorem Be{B:Nat->S->Option (S⊕A)}{D:S->A}(I:S->Prop)(g:S->Nat->S): ∀(n k:Nat) (s:S),(∀i s,k<=i->i<k+n->I s->B i s=some (.inl (g s i))/\I (g s i))->I s->dm B D n k s=some (D ((UM k n).foldl g s))/\I ((UM k n).foldl g s)
 | 0,k,s,_,h2=>⟨rfl,h2⟩
 | n+1,k,s,h,h2=>by
  have h3:=h k s (TA _) (by omega) h2;unfold dm;rw[h3.1,Ti,Sum.elim_inl,Vv,List.foldl_cons];exact Be I g n (k+1) _ (fun i s h4 h5=>h i s (by omega) (by omega)) h3.2
theorem Kv{n:Nat}(hn:n<=9223372036854775807){B:Int->S->Option S}{D:S->A}(I:S->Prop)(g:S->Nat->S)(s:S)(h: ∀(i:Nat) s,i<n->I s->B (i:Int) s=some (g s i)/\I (g s i))(h2:I s):cR (n:Int) B D 0 s=some (D ((TU n).foldl g s))/\I ((TU n).foldl g s):=by
 rw[eZ,fM n hn,Wi];exact Be I g n 0 s (fun i s _ h4 h5=>by
  have h6:=h i s (by omega) h5;rw[h6.1];exact⟨rfl,h6.2⟩) h2
theorem BC{L:List α}(hL:L.length<=9223372036854775807){B:Int->S->Option S}{D:S->A}(I:S->Prop)(g:S->α->S)(s:S)(h: ∀(i:Nat) x s,L[i]? =some x->I s->B (i:Int) s=some (g s x)/\I (g s x))(h2:I s):cR (L.length:Int) B D 0 s=some (D (L.foldl g s))/\I (L.foldl g s):=by
 have key: ∀(M:List α) (k:Nat) (s:S),(∀j x s,M[j]? =some x->I s->B ((k+j:Nat):Int) s=some (g s x)/\I (g s x))->I s->dm (fun i s=>(B (i:Int) s).map .inl) D M.length k s=some (D (M.foldl g s))/\I (M.foldl g s):=by
  intro M
  induction M with
  | nil=>exact fun k s _ h=>⟨rfl,h⟩
  | cons x l ih=>
   intro k s h h2;have h3:=h 0 x s rfl h2;rw[Uw]at h3;show((B (k:Int) s).map .inl).bind (TC (dm (fun i s=>(B (i:Int) s).map .inl) D l.length (k+1)) some)=_/\_;rw[h3.1];exact ih (k+1) _ (fun j y s hy h5=>by
    have:=h (j+1) y s (by simpa using hy) h5;rw[show k+1+j=k+(j+1)from by omega];exact this) h3.2
 rw[eZ,fM _ hL];exact key L 0 s (fun j x s hx hI=>by
  rw[Ue];exact h j x s hx hI) h2
theorem yD{body:α->Option (α⊕A)}(I:α->Prop)(μ:α->Nat)(Q:A->Prop)
  (h: ∀s,I s->(∃s',body s=some (.inl s')/\I s'/\μ s'<μ s)\/ ∃r,body s=some (.inr r)/\Q r) {s:α} (hs:I s): ∃r,loop body s=some r/\Q r:=by
 generalize hm:μ s=m
 induction m using V5 generalizing s with
 | _ m ih=>
  rcases h s hs with⟨s',h1,h2,h3⟩ | ⟨r,h1,h2⟩
  ·rw[bT,h1];exact ih _ (by omega) h2 rfl
  ·rw[bT,h1];exact⟨r,rfl,h2⟩
theorem rU{β:Type}{n:Nat}(N:Nat)(hn:n<=1000000)(_hN:N<=1000000000){B:Int->List β->Option (List β)}{D:List β->A}(f:Nat->List β)(hf: ∀i,(f i).length<=1)(s:List β)(hs:s.length+n<=N)(h: ∀(i:Nat) (s:List β),i<n->s.length<=N->B (i:Int) s=some (s++f i)):cR (n:Int) B D 0 s=some (D (s++(TU n).flatMap f)):=by
 have key: ∀(m k:Nat) (s:List β),s.length+m<=N->k+m<=n->dm (fun i s=>(B (i:Int) s).map .inl) D m k s=some (D (s++(UM k m).flatMap f)):=by
  intro m
  induction m with
  | zero=>intro k s _ _;simp[dm]
  | succ m ih=>
   intro k s h1 h2;unfold dm;rw[h k s (by omega) (by omega)];show dm _ D m (k+1) (s++f k)=_;have:=hf k;rw[ih (k+1) _ (by rw[Tz];omega) (by omega),Vv,List.flatMap_cons,TX]
 rw[eZ,fM n (by omega),Wi];exact key n 0 s hs (by omega)
end
theorem lz{α:Type}{L:List α}{l h:Int}(h0:0<=l)(h1:l<=h)(h2:h<=L.length):fE L l h=some ((L.drop l.toNat).take (h.toNat - l.toNat)):=by
 unfold fE;rw[if_pos ⟨h0,h1,h2⟩]
theorem Cs{α:Type}(z:α){n:Nat}(h:n<=68719476736):yH z (n:Int)=some (UH n z):=by
 unfold yH;rw[if_pos (by omega)];rfl
open Go.RowKit Go.Lib
def By(c:UInt8):Bool:=decide (48<=c.toNat)&&decide (c.toNat<=57)
theorem rb{c:UInt8}:By c=true↔48<=c.toNat/\c.toNat<=57:=by unfold By;simp
theorem Ci{d:Nat}(h:d<10):By (Wv (48+d))=true/\(Wv (48+d)).toNat=48+d:=by
 have e:(Wv (48+d)).toNat=48+d:=by
  rw[UInt8.toNat_ofNat'];omega
 exact⟨by rw[rb,e];omega,e⟩
def Ep(l:List UInt8)(a:Nat):Nat:=l.foldl (fun a c=>a*10+(c.toNat - 48)) a
theorem JN(l m:List UInt8)(a:Nat):Ep (l++m) a=Ep m (Ep l a):=List.foldl_append
theorem xZ(u:Nat):(decDigits u).all By=true:=by
 induction u using V5 with
 | _ u ih=>
  rw[decDigits];split
  ·rename_i h;rw[Vw,List.all_nil,(Ci h).1];rfl
  ·rename_i h;rw[List.all_append,ih (u/10) (by omega),Vw,List.all_nil,(Ci (Wh u (by omega))).1];rfl
theorem w7(u:Nat):decDigits u≠[]:=by
 rw[decDigits];split<;>simp
theorem l9(u:Nat):Ep (decDigits u) 0=u:=by
 induction u using V5 with
 | _ u ih=>
  rw[decDigits];split
  ·rename_i h;show 0*10+((Wv (48+u)).toNat - 48)=u;rw[(Ci h).2];omega
  ·rename_i h;rw[JN,ih (u/10) (by omega)];show u/10*10+((Wv (48+u % 10)).toNat - 48)=u;rw[(Ci (Wh u (by omega))).2];omega
theorem Hl: ∀(l:List UInt8) (a k:Nat),l.all By=true->a<10^k->Ep l a<10^(k+l.length)
 | [],a,k,_,h=>h
 | c::l,a,k,hl,h=>by
  rw[Vw,Tp]at hl;have hc:=rb.1 hl.1;have:=Hl l (a*10+(c.toNat - 48)) (k+1) hl.2 (by rw[Nat.pow_succ];omega);rw[Ty,show k+(l.length+1)=k+1+l.length by omega];exact this
theorem dec_lt{u n:Nat}(h:(decDigits u).length<=n):u<10^n:=by
 have h1:=Hl (decDigits u) 0 0 (xZ u) (by simp);rw[l9,Ue]at h1;exact Ud h1 (Ua (by omega) h)
theorem OS: ∀(l:List UInt8) (a k:Nat),l.all By=true->a<10^k->k+l.length<=17->parseUintM (2^64 - 1) a l= .ok (Ep l a)
 | [],a,k,_,_,_=>rfl
 | c::l,a,k,hl,h,hk=>by
  rw[Vw,Tp]at hl;have hc:=rb.1 hl.1;rw[Ty]at hk;have h2:10^k<=10^16:=Ua (by omega) (by omega);unfold parseUintM;rw[if_pos hc,if_neg (by omega),if_neg (by omega)];exact OS l _ (k+1) hl.2 (by rw[Nat.pow_succ];omega) (by omega)
theorem FV{u:Nat}(h:(decDigits u).length<=13):parseUintB 64 (decDigits u)= .ok u:=by
 unfold parseUintB;rw[if_neg (w7 u),OS _ 0 0 (xZ u) (by simp) (by omega),l9]
theorem CY{u:Nat}{c:UInt8}{r:List UInt8}(h:decDigits u=c::r):c.toNat≠45/\c.toNat≠43:=by
 have:=xZ u;rw[h,Vw,Tp]at this;have:=rb.1 this.1;omega
theorem Az{u:Nat}(h:(decDigits u).length<=13):parseIntB 64 (decDigits u)= .ok (u:Int):=by
 have hu:=dec_lt h;cases hd:decDigits u with
 | nil=>exact absurd hd (w7 u)
 | cons c r=>
  obtain⟨h1,h2⟩:=CY hd;rw[parseIntB_plain 64 c r h2 h1,<-hd,FV h];unfold signlessC;simp only;rw[if_neg (by omega)]
theorem FW{u:Nat}(h:(decDigits u).length<=13):parseIntB 64 (45::decDigits u)= .ok (-(u:Int)):=by
 have hu:=dec_lt h;rw[parseIntB_minus,FV h];unfold signedC;simp only;rw[if_neg (by omega)]
theorem k9{v:Int}(h:0<=v):itoa v=decDigits v.toNat:=by unfold itoa;rw[if_neg (by omega)]
theorem vF{v:Int}(h:v<0):itoa v=45::decDigits v.natAbs:=by unfold itoa;rw[if_pos h]
def can(l:List UInt8):Prop:= ∃m:Nat,l=decDigits m/\l.length<=13
theorem IF{c:UInt8}{t:List UInt8}(r:List UInt8): ∀{p:List UInt8},c∉p->Lib.index (p++(c::t)++r) (c::t)=p.length
 | [],_=>by
  show Lib.index (c::(t++r)) (c::t)=0;unfold Lib.index;rw[if_pos];show(c==c&&t.isPrefixOf (t++r))=true;rw[beq_self_eq_true,Bool.true_and,List.isPrefixOf_iff_prefix];exact List.prefix_append _ _
 | b::p,h=>by
  have ih:=IF (t:=t) r (p:=p) (fun h2=>h (T1 _ h2));show Lib.index (b::(p++(c::t)++r)) (c::t)=_;unfold Lib.index;have hb:((c::t).isPrefixOf (b::(p++(c::t)++r)))=false:=by
   have h2:(c==b)=false:=by
    rw[beq_eq_false_iff_ne];rintro rfl;exact h (by simp)
   show(c==b&&t.isPrefixOf _)=false;rw[h2,Bool.false_and]
  have h3:((p.length:Int)== -1)=false:=by
   rw[beq_eq_false_iff_ne];omega
  rw[if_neg (by rw[hb];decide),ih,if_neg (by rw[h3];decide),Ty];omega
theorem NZ{c:UInt8}{t:List UInt8}(r:List UInt8){p:List UInt8}(h:c∉p):Lib.cut (p++(c::t)++r) (c::t)=(p,r,true):=by
 unfold Lib.cut;rw[IF r h,if_pos (by omega),TG];refine Prod.ext ?_ (Prod.ext ?_ rfl)
 ·show(p++(c::t)++r).take p.length=p;rw[TX,List.take_left]
 ·show(p++(c::t)++r).drop (p.length+(c::t).length)=r;rw[<-Tz,List.drop_left]
theorem join_cons(c:List UInt8)(x y:List UInt8)(r:List (List UInt8)):Lib.join (x::y::r) c=x++c++Lib.join (y::r) c:=by
 unfold Lib.join;rw[List.intercalate_cons_cons]
theorem join_one(c:List UInt8)(x:List UInt8):Lib.join [x] c=x:=by
 unfold Lib.join;simp
theorem Ec{c:UInt8}: ∀{L:List (List UInt8)},L≠[]->(∀x∈L,c∉x)->cn c (Lib.join L [c])=L
 | [],h,_=>absurd rfl h
 | [x],_,h=>by
  rw[join_one,qA (h x (by simp))]
 | x::y::r,_,h=>by
  rw[join_cons,TX];show cn c (x++c::Lib.join (y::r) [c])=_;rw[sG (h x (by simp)),Ec (by simp) (fun z hz=>h z (by simp[hz]))]
theorem ru{c:UInt8}(h:c≠45)(hd:By c=false)(v:Int):c∉itoa v:=by
 have h2: ∀u,c∉decDigits u:=fun u hm=>by
  have:=Tt.1 (xZ u) c hm;rw[hd]at this;cases this
 unfold itoa;split
 ·intro hm;rcases Tx.1 hm with hm | hm
  ·exact h hm
  ·exact h2 _ hm
 ·exact h2 _
theorem GQ(v:Int):itoa v≠[]:=by
 unfold itoa;split
 ·simp
 ·exact w7 _
def fbV(d:Nat)(cs0:List SV):SV->SV
 | .ref k o=>if k=d then .ptr cs0 o else .ref k o
 | .agg cs=> .agg (fbL cs)
 | .tup cs=> .tup (fbL cs)
 | .clo f cs=> .clo f (fbL cs)
 | .mth f cs=> .mth f (fbL cs)
 | x=>x
where fbL:List SV->List SV
 | []=>[]
 | c::cs=>fbV d cs0 c::fbL cs
theorem vy(d:Nat)(cs0:List SV): ∀(cs:List SV) (j:Nat),(fbV.fbL d cs0 cs)[j]? =(cs[j]?).map (fbV d cs0)
 | [],j=>by simp[fbV.fbL]
 | c::cs,0=>by simp[fbV.fbL]
 | c::cs,j+1=>by simp[fbV.fbL,vy d cs0 cs j]
theorem vz(d:Nat)(cs0:List SV): ∀(cs:List SV),(fbV.fbL d cs0 cs).length=cs.length
 | []=>rfl
 | c::cs=>by simp[fbV.fbL,vz d cs0 cs]
def fbO(d:Nat)(cs0:List SV):SO->SO
 | .box cs=> .box (fbV.fbL d cs0 cs)
 | x=>x
def SS.Qq(σ:SS)(d:Nat)(cs0:List SV):SS:=
 ⟨σ.n,(σ.t.map fun p=>(p.1,fbV d cs0 p.2)).filter (fun p=> !p.2.names.contains d),(σ.o.map fun p=>(p.1,fbO d cs0 p.2)).filter (fun p=>p.1 !=d&& !p.2.names.contains d)⟩
section
variable {P : Program} {tb : Tb} {ops : Array Oper} {o : Oper} {c : Cx} {S : Nat -> Prop} {β : Nat -> Value} {σ : SS} {a : Act} {w : World}
theorem C4{w:World}{d:Nat}{cs0:List SV}{y:SO}{v:Value}{g:Nat}:(fbO d cs0 y).ba w v g↔y.ba w v g:=by cases y<;>exact Iff.rfl
theorem Le.Qq{σ:SS}{d:Nat}{cs0:List SV}(hd:T8 d σ.n=true)(hf:find d σ.o=some (.box cs0)):Le σ (σ.Qq d cs0):=by
 have hd:d<σ.n:=by simpa using hd
 intro c a w ⟨S,β,hr⟩;have hmem:=aJ hf
 let S':Nat->Prop:=fun b=>S b\/(SO.box cs0).ba w (β d) b
 have hS: ∀b,S b->S' b:=fun b hb=> .inl hb;have hob:=hr.obj d _ hmem;generalize hbd:β d=bd at hob;cases hob with
 | box _ g vs T hg hl hh=>
 have hsg:S' g:= .inr (by rw[hbd];rfl);have hsv: ∀{x:SV} {v:Value},cT w S β x v->cT w S' β (fbV d cs0 x) v:=by
  intro x v h
  induction h with
  | tr t v h=>exact .tr t v (h.keep (fun _ _=>rfl) hS)
  | agg cs vs hl h ih=>
   refine .agg _ vs (by rw[vz];exact hl) fun j y v hy hv=> ?_;rw[vy,Tn]at hy;obtain⟨x,hx,rfl⟩:=hy;exact ih j x v hx hv
  | tup cs vs hl h ih=>
   refine .tup _ vs (by rw[vz];exact hl) fun j y v hy hv=> ?_;rw[vy,Tn]at hy;obtain⟨x,hx,rfl⟩:=hy;exact ih j x v hx hv
  | ptr cs o g b u hg h hc ih=>exact(cT.ptr cs o g b u hg h hc).keep (fun _ _=>rfl) hS
  | ref k o g' h=>
   unfold fbV;split
   ·rename_i hk;subst hk;rw[hbd]at h;injection h with h;injection h with h;injection h with h;subst h;have:=cT.ptr (w:=w) (S:=S') (β:=β) cs0 o g 0 (fun j=>vs.getD j undef) hsg (fun j c hc=>by
     have hj:=(Tl.1 hc).1;have hv:vs[j]? =some (vs.getD j undef):=by
      rw[Uu,TW (by omega)];rfl
     exact(hh j c _ hc hv).keep (fun _ _=>rfl) hS) (fun j c hc=>by
     have hj:=(Tl.1 hc).1;rw[Ue,cell_of_row w g j vs T (0,0) hg,Uu,TW (by omega)];rfl)
    rwa [Ue]at this
   ·exact .ref k o g' h
  | eref d m i j g n c h=>exact .eref d m i j g n c h
  | own k=>exact .own k
  | clo f caps vs hl h ih=>
   refine .clo f _ vs (by rw[vz];exact hl) fun j y v hy hv=> ?_;rw[vy,Tn]at hy;obtain⟨x,hx,rfl⟩:=hy;exact ih j x v hx hv
  | mth f caps vs hl h ih=>
   refine .mth f _ vs (by rw[vz];exact hl) fun j y v hy hv=> ?_;rw[vy,Tn]at hy;obtain⟨x,hx,rfl⟩:=hy;exact ih j x v hx hv
  | any v h=>exact .any v h
 have hobj: ∀{x:SO} {v:Value},cP w S β x v->cP w S' β (fbO d cs0 x) v:=by
  intro x v h;cases h with
  | box cs g vs T hg hl h=>
   refine .box _ g vs T hg (by rw[vz];exact hl) fun j y v hy hv=> ?_;rw[vy,Tn]at hy;obtain⟨x,hx,rfl⟩:=hy;exact hsv (h j x v hx hv)
  | arr e m n es v xs hn hown he h=>exact(cP.arr e m n es v xs hn hown he h).keep (fun _ _=>rfl) hS
  | deep e m n ss es v h=>exact .deep e m n ss es v h
  | hol e m n ss es i j d v xs h hu=>exact .hol e m n ss es i j d v xs h hu
 have ho: ∀{k x},(k,x)∈(σ.Qq d cs0).o-> ∃y,(k,y)∈σ.o/\x=fbO d cs0 y/\k≠d:=by
  intro k x h;have h2:=Tu.1 h;obtain⟨⟨k',y⟩,h3,h4⟩:=TF.1 h2.1;injection h4 with h4 h5;subst h4;simp only[Tp,bne_iff_ne,ne_eq]at h2;exact⟨y,h3,h5.symm,h2.2.1⟩
 have hpd:=fun g hg=>hr.priv d _ g hmem hg;refine⟨S',β,hr.defers,hr.size,hr.one,hr.grew,fun b hb=> .inl (hr.s0 b hb),fun b hb=> ?_,fun b hb=> ?_,fun i v hi=> ?_,fun k x hk=> ?_,fun j v hj=>⟨(hr.pin j v hj).1,fun x hx=> ?_⟩,fun k x g hk hg=> ?_,fun k x k' x' g hk hk' hg hg'=> ?_⟩
 ·rcases hb with hb | hb
  ·exact hr.s1 b hb
  ·rcases(hpd b hb).2 with⟨_,h⟩ | ⟨h,_⟩
   ·exact .inr (.inl h)
   ·omega
 ·rcases hb with hb | hb
  ·exact hr.lt b hb
  ·exact(hr.obj d _ hmem).lt hb
 ·have h2:=Tu.1 hi;obtain⟨⟨i',y⟩,h3,h4⟩:=TF.1 h2.1;injection h4 with h4 h5;subst h4 h5;exact⟨(hr.tmp i' y h3).1,hsv (hr.tmp i' y h3).2⟩
 ·obtain⟨y,h1,rfl,_⟩:=ho hk;exact hobj (hr.obj k y h1)
 ·obtain⟨y,h1,rfl,_⟩:=ho hx;exact(hr.pin j v hj).2 y h1
 ·obtain⟨y,h1,rfl,h2⟩:=ho hk;have hg:=C4.1 hg;obtain⟨h3,h4⟩:=hr.priv k y g h1 hg;refine⟨fun hb=> ?_,h4⟩;rcases hb with hb | hb
  ·exact h3 hb
  ·exact h2 (hr.apart k y d _ g h1 hmem hg hb)
 ·obtain⟨y,h1,rfl,_⟩:=ho hk;obtain⟨y',h1',rfl,_⟩:=ho hk';exact hr.apart k y k' y' g h1 h1' (C4.1 hg) (C4.1 hg')
end
class TbI (P:Program) (tb:outParam Tb):Prop where
 ok:bm P tb
structure Ct (P:Program) (f:FuncId) {R:Type} (F:Option R) (ins:List fR) (res:R->jM):Prop where
 e:dH P f
 c: ∀r,F=some r->eG P f ins (res r)
theorem Ct.i{P:Program}{f:FuncId}{fn:Func}{code:Code}{R:Type}{F:Option R}{ins:List fR}{res:R->jM}(hf:P.funcs[f]? =some fn)(hb:fn.body=some code)(h: ∀r,F=some r->swp P code (QF P fn.results.toList ins res r) (Sh.start fn.ntmps ins))(he:(fn.name== "runtime.NumGoroutine")=false:=by kernel_rfl)(hn:Uv ins.length fn.ntmps=true:=by kernel_rfl)(hnn:Uv fn.ntmps 1000000=true:=by kernel_rfl)(hnm:yr ins=[]:=by kernel_rfl)(harg: ∀r,(res r).outs.all (NN ins)=true:=by intro _;kernel_rfl):Ct P f F ins res:=
 ⟨bK hf he hb,fun r hr=>G5 hf hb fn.results.toList (by simp) hn hnn hnm res (harg r) (h r hr)⟩
def dV:Op->Nat
 | .indexAddr t _ _=>t
 | .load t _=>t
 | .slice t _ _ _ _=>t
 | .index t _ _=>t
 | .makeSlice t _ _=>t
 | .binOp _ t _ _ _=>t
 | .build t _=>t
 | .store t _ _=>t
 | .convert t _ _=>t
 | .call {callee:=_,args:=_,argTypes:=ts}=>ts.toList.headD 0
 | _=>0
def opU:Op->Nat
 | .binOp _ _ _ _ t=>t
 | .convert _ t _=>t
 | _=>0
def opl:Op->Option Operand
 | .slice _ _ l _ _=>l
 | _=>none
def oph:Op->Option Operand
 | .slice _ _ _ h _=>h
 | _=>none
def RQ:Op->Array (Nat×Operand)
 | .build _ ps=>ps
 | _=> #[]
def jG(o:Op):Operand:=o.operands.toList.headD default
def opb(o:Op):Operand:=(o.operands.toList.drop 1).headD default
def dK(tb:Tb)(t:Nat):TI:=(find t tb).getD ⟨0,0,.bool,[]⟩
def mS(i:TI):Nat:=match i.d with
 | .slice e=>e
 | .array _ e=>e
 | _=>0
def kdO(σ:SS)(x:Operand):IntKind:=match ev σ x with
 | some (.tr (.int k _))=>k
 | _=> .i64
def p7(σ:SS)(x:Operand):Nat:=match ev σ x with
 | some (.own d)=>d
 | some (.eref d _ _ _)=>d
 | _=>0
def Bx(σ:SS)(d:Nat):Nat×Nat:=match find d σ.o with
 | some (.arr e m _ _)=>(e,m)
 | _=>(0,0)
def Kh(σ:SS)(x:Operand):Nat:=match ev σ x with
 | some (.eref _ _ _ j)=>j
 | _=>0
def zvO(i:TI):List Value:=(iP i.zero).getD []
def oN(n:Nat)(l:List Oper):Oper:=(l.drop n).headD default
def sN(tb:Tb)(ops:Array Oper)(n:Nat)(l:List Oper)(σ:SS):SS:=(l0 tb ops n l σ).getD ⟨0,[],[]⟩
def rch(o:List (Nat×SO)):Nat->List Nat->List Nat
 | 0,ns=>ns
 | f+1,ns=>rch o f (ns++(o.filter fun p=>ns.contains p.1).flatMap fun p=>p.2.names)
def SS.drp(σ:SS)(ds:List Nat):SS:=
 let t:=σ.t.filter fun p=> !ds.contains p.1
 let ns:=rch σ.o σ.o.length ((t.flatMap fun p=>p.2.names)++(σ.o.map (·.1)).filter fun d=>Uv 1000000 d)
 ⟨σ.n,t,σ.o.filter fun p=>ns.contains p.1⟩
theorem Le.drp(σ:SS)(ds:List Nat):Le σ (σ.drp ds):=Le.sub rfl (fun _ h=>(Tu.1 h).1) fun _ h=>(Tu.1 h).1
def dM:Code->List Nat
 | .region _ ops _=>qe ops.toList
 | .seq a b=>dM a++dM b
 | .cond _ a b=>dM a++dM b
 | .block _ a=>dM a
 | .loop a=>dM a
 | _=>[]
def Sp:SV->Bool
 | .any=>true
 | _=>false
def SS.jn(σ:SS)(ds:List Nat)(t:List (Nat×SV))(o:List (Nat×SO)):SS:=
 (⟨σ.n,(t.filter fun p=> !Sp p.2)++σ.t.filter fun p=> !ds.contains p.1&& !t.any fun q=>q.1==p.1,o++σ.o.filter fun p=> !o.any fun q=>q.1==p.1⟩:SS).drp []
def LJ{J:Type}(σJ:J->SS)(j:J)(s:SS):Prop:=Le s (σJ j)
theorem leS{σ τ:SS}(h:(σ.n,oh (τ.t.map (·.1)) σ.t,oh (τ.o.map (·.1)) σ.o)=(τ.n,τ.t,τ.o):=by kernel_rfl):Le σ τ:=by
 simp only[Vk.injEq]at h;obtain⟨h1,h2,h3⟩:=h;exact Le.aZ h1 h2 h3
theorem kz{σ τ:SS}(ko:List Nat)(l:List (Nat×Nat))(h:(Sh.Jj ⟨σ.n,oh (τ.t.map (·.1)) σ.t,oh ko σ.o⟩ l).map (fun s=>(s.n,oh (τ.t.map (·.1)) s.t,oh (τ.o.map (·.1)) s.o))=some (τ.n,τ.t,τ.o):=by kernel_rfl):Le σ τ:=Le.rr ko l h
section
variable {P : Program} {tb : Tb} {ops : Array Oper} {o : Oper} {σ ν : SS} {id : Nat} {x y : Code} {todo : List Oper} {A B R J : Type} {m : Option A} {k : A -> Option B} {r : B} {Q : SS -> Prop} {V : A -> RV} {S : A -> SS}
theorem ch[T:TbI P tb](n:Nat)(k:aj P ops (todo.drop n) Q (sN tb ops n todo σ))(hs:(l0 tb ops n todo σ).isSome=true:=by kernel_rfl):aj P ops todo Q σ:=by
 obtain⟨s,h1⟩:=T5.1 hs;refine aj.CR T.ok n h1 ?_;unfold sN at k
 rwa [h1]at k
theorem tK{n:Nat}(h:T8 n todo.length=true):todo.drop n=oN n todo::todo.drop (n+1):=by
 have h:n<todo.length:=by simpa using h
 unfold oN;rw[Uc h];rfl
theorem EP{a:Option SS}{n:Nat}(h:(a.isSome&&T8 n todo.length)=true):a.isSome=true/\T8 n todo.length=true:=by simpa using h
theorem kb[T:TbI P tb](n:Nat)(h:m.bind k=some r)(c: ∀x,m=some x->bN P ops (oN n todo) (sN tb ops n todo σ) (V x))(g: ∀x,k x=some r->aj P ops (todo.drop (n+1)) Q ((sN tb ops n todo σ).app (oN n todo).dst (V x)))(hs:((l0 tb ops n todo σ).isSome&&T8 n todo.length)=true:=by kernel_rfl)(hf: ∀x,iS (V x) (oN n todo).dst (sN tb ops n todo σ)=true:=by intro _;kernel_rfl):aj P ops todo Q σ:=by
 obtain⟨x,hx,h⟩:=bind_some h;exact ch n (by rw[tK (EP hs).2];exact aj.ls (c x hx) (g x h) (hf x)) (EP hs).1
theorem l6[T:TbI P tb](n:Nat)(h:m.bind k=some r)(c: ∀x,m=some x->bN P ops (oN n todo) (sN tb ops n todo σ) (V x))(g: ∀x,m=some x->k x=some r->aj P ops (todo.drop (n+1)) Q ((sN tb ops n todo σ).app (oN n todo).dst (V x)))(hs:((l0 tb ops n todo σ).isSome&&T8 n todo.length)=true:=by kernel_rfl)(hf: ∀x,iS (V x) (oN n todo).dst (sN tb ops n todo σ)=true:=by intro _;kernel_rfl):aj P ops todo Q σ:=by
 obtain⟨x,hx,h⟩:=bind_some h;exact ch n (by rw[tK (EP hs).2];exact aj.ls (c x hx) (g x hx h) (hf x)) (EP hs).1
theorem k0[T:TbI P tb]{v:RV}(n:Nat)(c:bN P ops (oN n todo) (sN tb ops n todo σ) v)(g:aj P ops (todo.drop (n+1)) Q ((sN tb ops n todo σ).app (oN n todo).dst v))(hs:((l0 tb ops n todo σ).isSome&&T8 n todo.length)=true:=by kernel_rfl)(hf:iS v (oN n todo).dst (sN tb ops n todo σ)=true:=by kernel_rfl):aj P ops todo Q σ:=
 ch n (by rw[tK (EP hs).2];exact aj.ls c g hf) (EP hs).1
theorem ke[T:TbI P tb](n:Nat)(h:m.bind k=some r)(c: ∀x,m=some x->af P ops (oN n todo) (sN tb ops n todo σ) (S x))(g: ∀x,k x=some r->aj P ops (todo.drop (n+1)) Q (S x))(hs:((l0 tb ops n todo σ).isSome&&T8 n todo.length)=true:=by kernel_rfl):aj P ops todo Q σ:=by
 obtain⟨x,hx,h⟩:=bind_some h;exact ch n (by rw[tK (EP hs).2];exact aj.kN (c x hx) (g x h)) (EP hs).1
theorem ke0[T:TbI P tb]{s:SS}(n:Nat)(c:af P ops (oN n todo) (sN tb ops n todo σ) s)(g:aj P ops (todo.drop (n+1)) Q s)(hs:((l0 tb ops n todo σ).isSome&&T8 n todo.length)=true:=by kernel_rfl):aj P ops todo Q σ:=
 ch n (by rw[tK (EP hs).2];exact aj.kN c g) (EP hs).1
theorem dp(ds:List Nat)(k:aj P ops todo Q (σ.drp ds)):aj P ops todo Q σ:=aj.le (Le.drp σ ds) k
theorem aW[T:TbI P tb](k:Q (sN tb ops todo.length todo σ))(hs:(l0 tb ops todo.length todo σ).isSome=true:=by kernel_rfl):aj P ops todo Q σ:=ch todo.length (by rw[WJ];exact aj.nil k) hs
def gN(tb:Tb)(ops:Array Oper)(σ0:SS)(D:List Nat)(c:Bool)(n:Nat)(done:List (Oper×EV))(σ:SS)(todo:List Oper):SS:=((oF tb ops (keys σ0) D c n done σ todo).map (·.2)).getD ⟨0,[],[]⟩
theorem gh[T:TbI P tb]{D:List Nat}{σ0:SS}{done:List (Oper×EV)}(c:Bool)(n:Nat)(k:bI P ops D σ0 Q (xY tb ops (keys σ0) D c n done σ todo) (gN tb ops σ0 D c n done σ todo) (todo.drop n))(h:(oF tb ops (keys σ0) D c n done σ todo).isSome=true:=by kernel_rfl):bI P ops D σ0 Q done σ todo:=by
 obtain⟨s,h1⟩:=T5.1 h;refine bI.chunk T.ok n h1 ?_;unfold xY gN at k
 rwa [h1]at k
theorem gb[T:TbI P tb]{D:List Nat}{σ0:SS}{done:List (Oper×EV)}(n:Nat)(h:m.bind k=some r)(c: ∀x,m=some x->bN P ops (oN n todo) (nuW ops (keys σ0) D false [] (oN n todo) (gN tb ops σ0 D false n done σ todo)) (V x))(g: ∀x,k x=some r->bI P ops D σ0 Q (xY tb ops (keys σ0) D false n done σ todo++[(oN n todo,⟨V x,false,none,[]⟩)]) ((gN tb ops σ0 D false n done σ todo).app (oN n todo).dst (V x)) (todo.drop (n+1)))(hs:((oF tb ops (keys σ0) D false n done σ todo).isSome&&T8 n todo.length)=true:=by kernel_rfl):bI P ops D σ0 Q done σ todo:=by
 obtain⟨x,hx,h⟩:=bind_some h;have hs:(oF tb ops (keys σ0) D false n done σ todo).isSome=true/\T8 n todo.length=true:=by simpa using hs
 exact gh false n (by rw[tK hs.2];exact bI.step (c x hx) (g x h)) hs.1
theorem gbh[T:TbI P tb]{D:List Nat}{σ0:SS}{done:List (Oper×EV)}(n:Nat)(h:m.bind k=some r)(c: ∀x,m=some x->bN P ops (oN n todo) (nuW ops (keys σ0) D false [] (oN n todo) (gN tb ops σ0 D false n done σ todo)) (V x))(g: ∀x,m=some x->k x=some r->bI P ops D σ0 Q (xY tb ops (keys σ0) D false n done σ todo++[(oN n todo,⟨V x,false,none,[]⟩)]) ((gN tb ops σ0 D false n done σ todo).app (oN n todo).dst (V x)) (todo.drop (n+1)))(hs:((oF tb ops (keys σ0) D false n done σ todo).isSome&&T8 n todo.length)=true:=by kernel_rfl):bI P ops D σ0 Q done σ todo:=by
 obtain⟨x,hx,h⟩:=bind_some h;have hs:(oF tb ops (keys σ0) D false n done σ todo).isSome=true/\T8 n todo.length=true:=by simpa using hs
 exact gh false n (by rw[tK hs.2];exact bI.step (c x hx) (g x hx h)) hs.1
theorem g0[T:TbI P tb]{D:List Nat}{σ0:SS}{done:List (Oper×EV)}{v:RV}(n:Nat)(c:bN P ops (oN n todo) (nuW ops (keys σ0) D false [] (oN n todo) (gN tb ops σ0 D false n done σ todo)) v)(g:bI P ops D σ0 Q (xY tb ops (keys σ0) D false n done σ todo++[(oN n todo,⟨v,false,none,[]⟩)]) ((gN tb ops σ0 D false n done σ todo).app (oN n todo).dst v) (todo.drop (n+1)))(hs:((oF tb ops (keys σ0) D false n done σ todo).isSome&&T8 n todo.length)=true:=by kernel_rfl):bI P ops D σ0 Q done σ todo:=by
 have hs:(oF tb ops (keys σ0) D false n done σ todo).isSome=true/\T8 n todo.length=true:=by simpa using hs
 exact gh false n (by rw[tK hs.2];exact bI.step c g) hs.1
theorem bs{p:Prop}(h:m.bind k=some r)(g: ∀x,m=some x->k x=some r->p):p:=by
 obtain⟨x,hx,h⟩:=bind_some h;exact g x hx h
theorem bq{p:Prop}(b:Bool)(f:b=true->p)(g:b=false->p):p:=by
 cases b
 ·exact g rfl
 ·exact f rfl
theorem rp{q p:Prop}(h:q)(g:q->p):p:=g h
variable {QQ : Exit -> SS -> Prop}
theorem sl[T:TbI P tb](k:swp P y QQ (sN tb ops ops.toList.length ops.toList σ))(h:(l0 tb ops ops.toList.length ops.toList σ).isSome=true:=by kernel_rfl):swp P (.seq (.region id ops false) y) QQ σ:=sr (aW k h)
theorem dps(ds:List Nat)(k:swp P y QQ (σ.drp ds)):swp P y QQ σ:=dw (Le.drp σ ds) k
theorem jJn(t:J->List (Nat×SV)){m:Option J}{k:J->Option B}(h:m.bind k=some r)(h1: ∀v,m=some v->swp P x (QJ (fun j=>σ.jn (dM x) (t j) []) v) σ)(h2: ∀v,k v=some r->swp P y QQ (σ.jn (dM x) (t v) [])):swp P x (nx (swp P y QQ) QQ) σ:=oj h (fun j=>σ.jn (dM x) (t j) []) h1 h2
theorem jJ(t:J->List (Nat×SV)){m:Option J}{k:J->Option B}(h:m.bind k=some r)(h1: ∀v,m=some v->swp P x (QJ (fun j=>σ.jn (dM x) (t j) []) v) σ)(h2: ∀v,k v=some r->swp P y QQ (σ.jn (dM x) (t v) [])):swp P (.seq x y) QQ σ:=ac (jJn t h h1 h2)
theorem fm(t:J->List (Nat×SV))(u:J->List (Nat×SO)){m:Option J}{k:J->Option B}(h:m.bind k=some r)(h1: ∀v,m=some v->swp P x (QJ (fun j=>σ.jn (dM x) (t j) (u j)) v) σ)(h2: ∀v,k v=some r->swp P y QQ (σ.jn (dM x) (t v) (u v))):swp P x (nx (swp P y QQ) QQ) σ:=oj h (fun j=>σ.jn (dM x) (t j) (u j)) h1 h2
theorem jJo(t:J->List (Nat×SV))(u:J->List (Nat×SO)){m:Option J}{k:J->Option B}(h:m.bind k=some r)(h1: ∀v,m=some v->swp P x (QJ (fun j=>σ.jn (dM x) (t j) (u j)) v) σ)(h2: ∀v,k v=some r->swp P y QQ (σ.jn (dM x) (t v) (u v))):swp P (.seq x y) QQ σ:=ac (fm t u h h1 h2)
theorem lZ{QA:A->Exit->SS->Prop}(t:J->List (Nat×SV)){m:Option (J⊕A)}{k:J->Option A}{r:A}(h:m.bind (TC k some)=some r)(h1: ∀v,m=some v->swp P x (QE (fun j=>σ.jn (dM x) (t j) []) QA v) σ)(h2: ∀v,k v=some r->swp P y (QA r) (σ.jn (dM x) (t v) [])):swp P x (nx (swp P y (QA r)) (QA r)) σ:=zB h (fun j=>σ.jn (dM x) (t j) []) h1 h2
theorem jE{QA:A->Exit->SS->Prop}(t:J->List (Nat×SV)){m:Option (J⊕A)}{k:J->Option A}{r:A}(h:m.bind (TC k some)=some r)(h1: ∀v,m=some v->swp P x (QE (fun j=>σ.jn (dM x) (t j) []) QA v) σ)(h2: ∀v,k v=some r->swp P y (QA r) (σ.jn (dM x) (t v) [])):swp P (.seq x y) (QA r) σ:=ac (lZ t h h1 h2)
theorem Qu{QA:A->Exit->SS->Prop}(t:J->List (Nat×SV))(u:J->List (Nat×SO)){m:Option (J⊕A)}{k:J->Option A}{r:A}(h:m.bind (TC k some)=some r)(h1: ∀v,m=some v->swp P x (QE (fun j=>σ.jn (dM x) (t j) (u j)) QA v) σ)(h2: ∀v,k v=some r->swp P y (QA r) (σ.jn (dM x) (t v) (u v))):swp P x (nx (swp P y (QA r)) (QA r)) σ:=zB h (fun j=>σ.jn (dM x) (t j) (u j)) h1 h2
theorem jEo{QA:A->Exit->SS->Prop}(t:J->List (Nat×SV))(u:J->List (Nat×SO)){m:Option (J⊕A)}{k:J->Option A}{r:A}(h:m.bind (TC k some)=some r)(h1: ∀v,m=some v->swp P x (QE (fun j=>σ.jn (dM x) (t j) (u j)) QA v) σ)(h2: ∀v,k v=some r->swp P y (QA r) (σ.jn (dM x) (t v) (u v))):swp P (.seq x y) (QA r) σ:=ac (Qu t u h h1 h2)
variable {α : Type} {st : α -> SS} {QA : A -> Exit -> SS -> Prop}
theorem jLn(t:J->List (Nat×SV)){m:Option (J⊕A)}{k:J->Option (α⊕A)}{r:α⊕A}(h:m.bind (TC k (fun a=>some (.inr a)))=some r)(h1: ∀v,m=some v->swp P x (QE (fun j=>σ.jn (dM x) (t j) []) (fun a=>QE st QA (.inr a)) v) σ)(h2: ∀v,k v=some r->swp P y (QE st QA r) (σ.jn (dM x) (t v) [])):swp P x (nx (swp P y (QE st QA r)) (QE st QA r)) σ:=Po h (fun j=>σ.jn (dM x) (t j) []) h1 h2
theorem jL(t:J->List (Nat×SV)){m:Option (J⊕A)}{k:J->Option (α⊕A)}{r:α⊕A}(h:m.bind (TC k (fun a=>some (.inr a)))=some r)(h1: ∀v,m=some v->swp P x (QE (fun j=>σ.jn (dM x) (t j) []) (fun a=>QE st QA (.inr a)) v) σ)(h2: ∀v,k v=some r->swp P y (QE st QA r) (σ.jn (dM x) (t v) [])):swp P (.seq x y) (QE st QA r) σ:=ac (jLn t h h1 h2)
theorem lp{body:α->Option (α⊕A)}(t:α->List (Nat×SV)){s:α}{r:A}(h:loop body s=some r)(hb: ∀s z,body s=some z->swp P y (QE (fun s=>σ.jn (dM y) (t s) []) QA z) (σ.jn (dM y) (t s) []))(hl:Le σ (σ.jn (dM y) (t s) []):=by exact leS):swp P (.loop y) (QA r) σ:=zA body (fun s=>σ.jn (dM y) (t s) []) QA hl h hb
theorem lpo{body:α->Option (α⊕A)}(t:α->List (Nat×SV))(u:α->List (Nat×SO)){s:α}{r:A}(h:loop body s=some r)(hb: ∀s z,body s=some z->swp P y (QE (fun s=>σ.jn (dM y) (t s) (u s)) QA z) (σ.jn (dM y) (t s) (u s)))(hl:Le σ (σ.jn (dM y) (t s) (u s)):=by exact leS):swp P (.loop y) (QA r) σ:=zA body (fun s=>σ.jn (dM y) (t s) (u s)) QA hl h hb
theorem rJn(t:J->List (Nat×SV)){m:Option J}{k:J->Option B}(h:m.bind k=some r)(h1: ∀v,m=some v->aj P ops ops.toList (fun s=>LJ (fun j=>σ.jn (qe ops.toList) (t j) []) v s) σ)(h2: ∀v,k v=some r->swp P y QQ (σ.jn (qe ops.toList) (t v) [])):swp P (.region id ops false) (nx (swp P y QQ) QQ) σ:=Eg h (fun j=>σ.jn (qe ops.toList) (t j) []) h1 h2
theorem rJ(t:J->List (Nat×SV)){m:Option J}{k:J->Option B}(h:m.bind k=some r)(h1: ∀v,m=some v->aj P ops ops.toList (fun s=>LJ (fun j=>σ.jn (qe ops.toList) (t j) []) v s) σ)(h2: ∀v,k v=some r->swp P y QQ (σ.jn (qe ops.toList) (t v) [])):swp P (.seq (.region id ops false) y) QQ σ:=ac (rJn t h h1 h2)
theorem Te(t:J->List (Nat×SV))(u:J->List (Nat×SO)){m:Option J}{k:J->Option B}(h:m.bind k=some r)(h1: ∀v,m=some v->aj P ops ops.toList (fun s=>LJ (fun j=>σ.jn (qe ops.toList) (t j) (u j)) v s) σ)(h2: ∀v,k v=some r->swp P y QQ (σ.jn (qe ops.toList) (t v) (u v))):swp P (.region id ops false) (nx (swp P y QQ) QQ) σ:=Eg h (fun j=>σ.jn (qe ops.toList) (t j) (u j)) h1 h2
theorem rJo(t:J->List (Nat×SV))(u:J->List (Nat×SO)){m:Option J}{k:J->Option B}(h:m.bind k=some r)(h1: ∀v,m=some v->aj P ops ops.toList (fun s=>LJ (fun j=>σ.jn (qe ops.toList) (t j) (u j)) v s) σ)(h2: ∀v,k v=some r->swp P y QQ (σ.jn (qe ops.toList) (t v) (u v))):swp P (.seq (.region id ops false) y) QQ σ:=ac (Te t u h h1 h2)
end
section
variable {P : Program} {tb : Tb} {ops : Array Oper} {o : Oper} {σ ν : SS} {α : Type} [T : TbI P tb]
theorem yI(f:α->List Tr){L:List α}{i:Int}(ho:o.op= .indexAddr (dV o.op) (jG o.op) (opb o.op):=by kernel_rfl)(hgd:(gd ops ν o,kf ν o)=(some true,true):=by kernel_rfl)(ht:(find (dV o.op) tb,(dK tb (dV o.op)).d,find (mS (dK tb (dV o.op))) tb)=(some (dK tb (dV o.op)),.slice (mS (dK tb (dV o.op))),some (dK tb (mS (dK tb (dV o.op))))):=by kernel_rfl)(hx:(ev ν (jG o.op),ev ν (opb o.op))=(some (.tr (.sl L.length (L.map f))),some (.tr (.int (kdO ν (opb o.op)) i))):=by kernel_rfl)(hl: ∀x,(f x).length=(dK tb (mS (dK tb (dV o.op)))).size:=by intro _;kernel_rfl)(X:α)(hX:at' L i=some X):bN P ops o ν (some (.ptr ((f X).map .tr) 0,none)):=by
 simp only[Vk.injEq]at hgd ht hx;exact Q1 T.ok ho hgd.1 hgd.2 ht.1 ht.2.1 ht.2.2 hx.1 hx.2 hX (hl X)
theorem eX(f:α->List Tr){L:List α}{i:Int}(ho:o.op= .indexAddr (dV o.op) (jG o.op) (opb o.op):=by kernel_rfl)(hgd:(gd ops ν o,kf ν o)=(some true,true):=by kernel_rfl)(ht:(find (dV o.op) tb,(dK tb (dV o.op)).d,find (mS (dK tb (dV o.op))) tb)=(some (dK tb (dV o.op)),.slice (mS (dK tb (dV o.op))),some (dK tb (mS (dK tb (dV o.op))))):=by kernel_rfl)(hx:(ev ν (jG o.op),find (p7 ν (jG o.op)) ν.o,ev ν (opb o.op))=(some (.own (p7 ν (jG o.op))),some (.arr (Bx ν (p7 ν (jG o.op))).1 (Bx ν (p7 ν (jG o.op))).2 L.length (L.map f)),some (.tr (.int (kdO ν (opb o.op)) i))):=by kernel_rfl)(hl:(Bx ν (p7 ν (jG o.op))).2=(dK tb (mS (dK tb (dV o.op)))).size:=by kernel_rfl)(X:α)(hX:at' L i=some X):bN P ops o ν (some (.eref (p7 ν (jG o.op)) (Bx ν (p7 ν (jG o.op))).2 i.toNat 0,none)):=by
 simp only[Vk.injEq]at hgd ht hx;exact Br T.ok ho hgd.1 hgd.2 ht.1 ht.2.1 ht.2.2 hx.1 hx.2.1 hx.2.2 hX hl
theorem gW(f:α->List Tr){L:List α}{i:Int}{x:α}(h:at' L i=some x)(ho:o.op= .load (dV o.op) (jG o.op):=by kernel_rfl)(hgd:(gd ops ν o,kf ν o)=(some true,true):=by kernel_rfl)(ht:find (dV o.op) tb=some (dK tb (dV o.op)):=by kernel_rfl)(hx:(ev ν (jG o.op),find (p7 ν (jG o.op)) ν.o)=(some (.eref (p7 ν (jG o.op)) (Bx ν (p7 ν (jG o.op))).2 i.toNat (Kh ν (jG o.op))),some (.arr (Bx ν (p7 ν (jG o.op))).1 (Bx ν (p7 ν (jG o.op))).2 L.length (L.map f))):=by kernel_rfl)(hl:(ldc (dK tb (dV o.op)) ((f x).map .tr) (Kh ν (jG o.op))).isSome=true:=by kernel_rfl):bN P ops o ν (some ((ldc (dK tb (dV o.op)) ((f x).map .tr) (Kh ν (jG o.op))).getD .any,none)):=by
 obtain⟨v,hl⟩:=T5.1 hl;rw[hl];simp only[Vk.injEq]at hgd hx;exact Eh T.ok ho hgd.1 hgd.2 ht hx.1 hx.2 h hl
theorem yS(f:α->List Tr){L:List α}{l h:Int}(ho:o.op= .slice (dV o.op) (jG o.op) (opl o.op) (oph o.op) none:=by kernel_rfl)(hgd:(gd ops ν o,kf ν o)=(some true,true):=by kernel_rfl)(ht:(find (dV o.op) tb,(dK tb (dV o.op)).d,find (mS (dK tb (dV o.op))) tb)=(some (dK tb (dV o.op)),.slice (mS (dK tb (dV o.op))),some (dK tb (mS (dK tb (dV o.op))))):=by kernel_rfl)(hx:(ev ν (jG o.op),sW ν (opl o.op),ot ν L.length (oph o.op))=(some (.tr (.sl L.length (L.map f))),some l,some h):=by kernel_rfl)(hl: ∀x,(f x).length=(dK tb (mS (dK tb (dV o.op)))).size:=by intro _;kernel_rfl)(X:List α)(hX:fE L l h=some X):bN P ops o ν (some (.tr (.sl X.length (X.map f)),none)):=by
 simp only[Vk.injEq]at hgd ht hx;exact L9 hX hl T.ok ho hgd.1 hgd.2 ht.1 ht.2.1 ht.2.2 rfl hx.1 hx.2.1 hx.2.2
theorem yU{s:ByteArray}{l h:Int}(ho:o.op= .slice (dV o.op) (jG o.op) (opl o.op) (oph o.op) none:=by kernel_rfl)(hgd:(gd ops ν o,kf ν o)=(some true,true):=by kernel_rfl)(ht:(find (dV o.op) tb,(dK tb (dV o.op)).d)=(some (dK tb (dV o.op)),.str):=by kernel_rfl)(hx:(ev ν (jG o.op),sW ν (opl o.op),ot ν s.size (oph o.op))=(some (.tr (.str s)),some l,some h):=by kernel_rfl)(X:ByteArray)(hX:km s l h=some X):bN P ops o ν (some (.tr (.str X),none)):=by
 simp only[Vk.injEq]at hgd ht hx;exact SF hX T.ok ho hgd.1 hgd.2 ht.1 ht.2 hx.1 hx.2.1 hx.2.2
theorem yB{s:ByteArray}{i:Int}(ho:o.op= .index (dV o.op) (jG o.op) (opb o.op):=by kernel_rfl)(hgd:(gd ops ν o,kf ν o)=(some true,true):=by kernel_rfl)(ht:(find (dV o.op) tb,(dK tb (dV o.op)).d)=(some (dK tb (dV o.op)),.str):=by kernel_rfl)(hx:(ev ν (jG o.op),ev ν (opb o.op))=(some (.tr (.str s)),some (.tr (.int (kdO ν (opb o.op)) i))):=by kernel_rfl)(X:Int)(hX:cQ s i=some X):bN P ops o ν (some (.tr (.int .u8 X),none)):=by
 simp only[Vk.injEq]at hgd ht hx;exact RZ hX T.ok ho hgd.1 hgd.2 ht.1 ht.2 hx.1 hx.2
omit T in
theorem yA{s r:ByteArray}(ho:o.op= .binOp .add (dV o.op) (jG o.op) (opb o.op) (opU o.op):=by kernel_rfl)(hgd:(gd ops ν o,kf ν o)=(some true,true):=by kernel_rfl)(hx:(ev ν (jG o.op),ev ν (opb o.op))=(some (.tr (.str s)),some (.tr (.str r))):=by kernel_rfl)(X:ByteArray)(hX:bV s r=some X):bN P ops o ν (some (.tr (.str X),none)):=by
 simp only[Vk.injEq]at hgd hx;exact SE hX ho hgd.1 hgd.2 hx.1 hx.2
theorem yM(z:α)(f:α->List Tr){n:Int}(ho:o.op= .makeSlice (dV o.op) (jG o.op) (opb o.op):=by kernel_rfl)(hdst:o.dst=some (o.dst.getD 0):=by kernel_rfl)(hgd:(gd ops ν o,kf ν o)=(some true,true):=by kernel_rfl)(ht:(find (dV o.op) tb,(dK tb (dV o.op)).d,find (mS (dK tb (dV o.op))) tb)=(some (dK tb (dV o.op)),.slice (mS (dK tb (dV o.op))),some (dK tb (mS (dK tb (dV o.op))))):=by kernel_rfl)(hz:(iP (dK tb (mS (dK tb (dV o.op)))).zero,(dK tb (mS (dK tb (dV o.op)))).zero.length,T8 0 (dK tb (mS (dK tb (dV o.op)))).size,Uv (dK tb (mS (dK tb (dV o.op)))).bytes 2048)=(some (zvO (dK tb (mS (dK tb (dV o.op))))),(dK tb (mS (dK tb (dV o.op)))).size,true,true):=by kernel_rfl)(hx:(ev ν (jG o.op),ev ν (opb o.op))=(some (.tr (.int (kdO ν (jG o.op)) n)),some (.tr (.int (kdO ν (opb o.op)) n))):=by kernel_rfl)(hfz:f z=(dK tb (mS (dK tb (dV o.op)))).zero:=by kernel_rfl)(X:List α)(hX:yH z n=some X):bN P ops o ν (some (.own (o.dst.getD 0),some (.arr (mS (dK tb (dV o.op))) (dK tb (mS (dK tb (dV o.op)))).size X.length (X.map f)))):=by
 simp only[Vk.injEq]at hgd ht hz hx;exact R0 hX T.ok ho hdst hgd.1 hgd.2 ht.1 ht.2.1 ht.2.2 hz.1 hz.2.1 hz.2.2.1 hx.1 hx.2 hz.2.2.2 hfz rfl
def agO(σ:SS)(x:Operand):List SV:=match ev σ x with
 | some (.agg cs)=>cs
 | _=>[]
def eqO(tb:Tb)(σ:SS)(o:Op):Bool:=(eqS tb 8 (dV o) (.agg (agO σ (jG o))) (.agg (agO σ (opb o)))).getD false
theorem yE(neg:Bool)(ho:o.op= .binOp (cond neg .neq .eql) (dV o.op) (jG o.op) (opb o.op) (opU o.op):=by kernel_rfl)(hgd:(gd ops ν o,kf ν o)=(some true,true):=by kernel_rfl)(hx:(ev ν (jG o.op),ev ν (opb o.op))=(some (.agg (agO ν (jG o.op))),some (.agg (agO ν (opb o.op)))):=by kernel_rfl)(he:eqS tb 8 (dV o.op) (.agg (agO ν (jG o.op))) (.agg (agO ν (opb o.op)))=some (eqO tb ν o.op):=by kernel_rfl)(hq:(HY P 8 (dV o.op),P.eqGuardType P.depth (dV o.op))=(true,false):=by kernel_rfl):bN P ops o ν (some (.tr (.bool (cond neg (!(eqO tb ν o.op)) (eqO tb ν o.op))),none)):=by
 simp only[Vk.injEq]at hgd hx hq;exact Oy T.ok neg ho hgd.1 hgd.2 hx.1 hx.2 he hq.1 hq.2
def vbO(tb:Tb)(σ:SS)(o:Op):SV:=(AW tb σ (dV o) (RQ o).toList).getD .any
theorem yV(ho:o.op= .build (dV o.op) (RQ o.op):=by kernel_rfl)(hgd:(gd ops ν o,kf ν o)=(some true,true):=by kernel_rfl)(h:AW tb ν (dV o.op) (RQ o.op).toList=some (vbO tb ν o.op):=by kernel_rfl):bN P ops o ν (some (vbO tb ν o.op,none)):=by
 simp only[Vk.injEq]at hgd;exact Bi T.ok ho hgd.1 hgd.2 h
omit T in
theorem yQ(rem:Bool)(i:Int){j:Int}(ho:o.op= .binOp (cond rem .rem .quo) (dV o.op) (jG o.op) (opb o.op) (opU o.op):=by kernel_rfl)(hgd:(gd ops ν o,kf ν o)=(some true,true):=by kernel_rfl)(hx:(ev ν (jG o.op),ev ν (opb o.op))=(some (.tr (.int (kdO ν (jG o.op)) i)),some (.tr (.int (kdO ν (jG o.op)) j))):=by kernel_rfl)(X:Unit)(hX:nz' j=some X):bN P ops o ν (some (.tr (.int (kdO ν (jG o.op)) (cond rem (i.tmod j) ((kdO ν (jG o.op)).wrap (i.tdiv j)))),none)):=by
 simp only[Vk.injEq]at hgd hx;exact M0 hX rem ho hgd.1 hgd.2 hx.1 hx.2
def QH(σ:SS)(m:Nat)(v:Option SV):Option (Nat×List (List Tr)):=match v with
 | some (.own d)=>match find d σ.o with
  | some (.arr _ m' k es)=>bif V2 m' m then some (k,es)else none
  | _=>none
 | some (.tr (.sl k es))=>some (k,es)
 | _=>none
theorem L3{m k:Nat}{es:List (List Tr)}{v:SV}(h:QH σ m (some v)=some (k,es))(hm: ∀e∈es,e.length=m):K8 σ m v k es:=by
 unfold QH at h;split at h
 ·rename_i d hd;injection hd with hd;subst hd;split at h
  ·rename_i m' _ _ hf;obtain⟨h0,h⟩:=xT h;have:=UY h0;injection h with h1 h2;subst h1 h2 this;exact⟨_,hf⟩
  ·cases h
 ·rename_i hd;injection hd with hd;subst hd;injection h with h;injection h with h1 h2;subst h1 h2;exact⟨rfl,hm⟩
 ·cases h
def apD(σ:SS)(o:Op):Nat:=p7 σ (jG o)
theorem yP(f:α->List Tr){L M:List α}(ho:o.op= .call {callee:= .builtin .append,args:= #[jG o.op,opb o.op],argTypes:= #[dV o.op,dV o.op]}:=by kernel_rfl)(hdst:o.dst=some (o.dst.getD 0):=by kernel_rfl)(hgd:(T8 (o.dst.getD 0) σ.n,gd ops σ o)=(true,some true):=by kernel_rfl)(ht:(find (dV o.op) tb,(dK tb (dV o.op)).d,find (mS (dK tb (dV o.op))) tb)=(some (dK tb (dV o.op)),.slice (mS (dK tb (dV o.op))),some (dK tb (mS (dK tb (dV o.op))))):=by kernel_rfl)(hz:(iP (dK tb (mS (dK tb (dV o.op)))).zero,(dK tb (mS (dK tb (dV o.op)))).zero.length,T8 0 (dK tb (mS (dK tb (dV o.op)))).size,Uv (dK tb (mS (dK tb (dV o.op)))).bytes 2048)=(some (zvO (dK tb (mS (dK tb (dV o.op))))),(dK tb (mS (dK tb (dV o.op)))).size,true,true):=by kernel_rfl)(hx:(ev σ (jG o.op),T8 (apD σ o.op) σ.n,find (apD σ o.op) σ.o,(ev σ (opb o.op)).isSome,QH σ (dK tb (mS (dK tb (dV o.op)))).size (ev σ (opb o.op)))=(some (.own (apD σ o.op)),true,some (.arr (mS (dK tb (dV o.op))) (dK tb (mS (dK tb (dV o.op)))).size L.length (L.map f)),true,some (M.length,M.map f)):=by kernel_rfl)(hl: ∀x,(f x).length=(dK tb (mS (dK tb (dV o.op)))).size:=by intro _;kernel_rfl)(hf:(σ.kill (apD σ o.op)).names.contains (o.dst.getD 0)=false:=by kernel_rfl)(X:List α)(hX:bW L M=some X):af P ops o σ ((σ.kill (apD σ o.op)).add (o.dst.getD 0) (.own (o.dst.getD 0)) (.arr (mS (dK tb (dV o.op))) (dK tb (mS (dK tb (dV o.op)))).size X.length (X.map f))):=by
 simp only[Vk.injEq]at hgd ht hz hx;obtain⟨v,hv⟩:=T5.1 hx.2.2.2.1;exact JC hX T.ok ho rfl rfl hdst hgd.1 hgd.2 ht.1 ht.2.1 ht.2.2 hz.1 hz.2.1 hz.2.2.1 rfl hz.2.2.2 hx.1 hx.2.1 hx.2.2.1 hv (L3 (by rw[<-hv];exact hx.2.2.2.2) fun e he=>by
  obtain⟨x,_,rfl⟩:=TF.1 he;exact hl x) hf
def vsO(σ:SS)(x:Operand):List SV:=(((ev σ x).bind SV.cells)).getD []
def tsO(σ:SS)(x:Operand):List Tr:=(trs (vsO σ x)).getD []
theorem yW(f:α->List Tr){L:List α}{i:Int}{z:α}(x:α)(h:at' L i=some z)(ho:o.op= .store (dV o.op) (jG o.op) (opb o.op):=by kernel_rfl)(hdst:o.dst=none:=by kernel_rfl)(hgd:(gd ops σ o,find (dV o.op) tb)=(some true,some (dK tb (dV o.op))):=by kernel_rfl)(hx:(ev σ (jG o.op),find (p7 σ (jG o.op)) σ.o)=(some (.eref (p7 σ (jG o.op)) (Bx σ (p7 σ (jG o.op))).2 i.toNat (Kh σ (jG o.op))),some (.arr (Bx σ (p7 σ (jG o.op))).1 (Bx σ (p7 σ (jG o.op))).2 L.length (L.map f))):=by kernel_rfl)(hy:((ev σ (opb o.op)).isSome,(ev σ (opb o.op)).bind SV.cells,trs (vsO σ (opb o.op)),(tsO σ (opb o.op)).length)=(true,some (vsO σ (opb o.op)),some (tsO σ (opb o.op)),(dK tb (dV o.op)).size):=by kernel_rfl)(hk:Uv (Kh σ (jG o.op)+(tsO σ (opb o.op)).length) (f z).length=true:=by kernel_rfl)(hes:(f z).take (Kh σ (jG o.op))++tsO σ (opb o.op)++(f z).drop (Kh σ (jG o.op)+(tsO σ (opb o.op)).length)=f x:=by kernel_rfl):af P ops o σ {σ with o:=(p7 σ (jG o.op),.arr (Bx σ (p7 σ (jG o.op))).1 (Bx σ (p7 σ (jG o.op))).2 (L.set i.toNat x).length ((L.set i.toNat x).map f))::σ.o.filter (fun p=>p.1 !=p7 σ (jG o.op))}:=by
 simp only[Vk.injEq]at hgd hx hy;obtain⟨v,hv⟩:=T5.1 hy.1;have h2:=hy.2.1;rw[hv,Ti]at h2;exact Bt T.ok ho hdst hgd.1 hgd.2 hx.1 hx.2 hv h2 hy.2.2.1 hy.2.2.2 h hk hes
end
section
variable {P : Program} {tb : Tb} {ops : Array Oper} {o : Oper} {σ ν : SS} {f : FuncId} {R : Type} {F : Option R} {ins : List fR} {res : R -> jM}
theorem yC(c:Ct P f F ins res)(hl: ∀x,lcT ν ops o f ins (res x)=(some true,true,true,true,true,some (xq ins)):=by intro _;kernel_rfl)(X:R)(hX:F=some X):bN P ops o ν (nY (o.dst.getD 0) (res X).outs):=xc c.e (c.c X hX) (hl X)
theorem yX(c:Ct P f F ins res)(hl: ∀x,ecT false σ ops o f ins (res x)=(some true,true,(true,true,true,true,true,true),oAt ins (nX (res x)),some (xq (ins.eraseIdx (nX (res x))))):=by intro _;kernel_rfl)(hn: ∀x,(SV.names.namesL (rsE σ o f (res x))).isEmpty=true:=by intro _;kernel_rfl)(hb: ∀x,fB σ o f (res x)=(true,true):=by intro _;kernel_rfl)(X:R)(hX:F=some X):af P ops o σ (ecS σ o f (res X)):=xe c.e (c.c X hX) (hl X) (hn X) (hb X)
end
def Still(P:Program)(o:Oper)(σ:SS):Prop:= ∀c a w,eY c σ a w-> ∃u,∀w',(execOp a.eval o).run P w'= .ok (.value u) w'
section
variable {P : Program} {tb : Tb} {ops : Array Oper} {o : Oper} {σ σ' : SS} {α : Type} {K : SS -> Prop} {L L' : Array Bool} {fuel : Nat} {rest : List Oper}
def opB:Op->BinOp
 | .binOp b _ _ _ _=>b
 | _=> .add
def trO(σ:SS)(x:Operand):Tr:=match ev σ x with
 | some (.tr t)=>t
 | _=> .nil
theorem stB(ho:o.op= .binOp (opB o.op) (dV o.op) (jG o.op) (opb o.op) (opU o.op):=by kernel_rfl)(hx:(ev σ (jG o.op),ev σ (opb o.op))=(some (.tr (trO σ (jG o.op))),some (.tr (trO σ (opb o.op)))):=by kernel_rfl)(hb:(bop (opB o.op) (trO σ (jG o.op)) (trO σ (opb o.op))).isSome=true:=by kernel_rfl):Still P o σ:=fun c a w hr=>by
 obtain⟨S,β,hr⟩:=hr;obtain⟨r,hb⟩:=T5.1 hb;simp only[Vk.injEq]at hx;have h1:=bD hr hx.1;have h2:=bD hr hx.2;have he:execOp a.eval o=(do pure (.value (<-(do eqGuard (opB o.op) (dV o.op) (jG o.op) (opb o.op) (a.eval (jG o.op)) (a.eval (opb o.op));binOp (opB o.op) (dV o.op) (a.eval (jG o.op)) (a.eval (opb o.op)):Sem Value)))):=by
  conv=>lhs;unfold execOp
  rw[ho];rfl
 cases h1 with
 | tr _ _ h1=>
 cases h2 with
 | tr _ _ h2=>
  obtain⟨z,h3,_⟩:=NT (P:=P) hb h1 h2 (dV o.op) (jG o.op) (opb o.op);exact⟨z,fun w'=>by rw[he,Sem.run_bind,h3 w'];rfl⟩
theorem stZ[T:TbI P tb]{f:α->List Tr}{L:List α}{l h:Int}{R:List α}(hX:fE L l h=some R)(ho:o.op= .slice (dV o.op) (jG o.op) (opl o.op) (oph o.op) none:=by kernel_rfl)(ht:(find (dV o.op) tb,(dK tb (dV o.op)).d,find (mS (dK tb (dV o.op))) tb)=(some (dK tb (dV o.op)),.slice (mS (dK tb (dV o.op))),some (dK tb (mS (dK tb (dV o.op))))):=by kernel_rfl)(hx:(ev σ (jG o.op),sW σ (opl o.op),ot σ L.length (oph o.op))=(some (.tr (.sl L.length (L.map f))),some l,some h):=by kernel_rfl):Still P o σ:=fun c a w hr=>by
 obtain⟨S,β,hr⟩:=hr;simp only[Vk.injEq]at ht hx;obtain⟨h0,hlh,hn,_⟩:=vQ hX;have hv:=bD hr hx.1;generalize hy1:a.eval (jG o.op)=y1 at hv;cases hv with
 | tr _ _ hv=>cases hv with
  | sl es A n cap m u hln hc hm hel hu ha=>
   have hu':=(bc T.ok ht.1).slice ht.2.1;refine⟨.slice (if cap=l.toNat then A else A.map (·.add (l.toNat*(dK tb (mS (dK tb (dV o.op)))).size))) (h.toNat - l.toNat) (cap - l.toNat),fun w'=> ?_⟩;have hb:=qq (P:=P) w' hr true hx.2.1 hx.2.2 h0 hlh hn hc;have he: ∀{t:Nat} {x:Operand} {lo hi:Option Operand},o.op= .slice t x lo hi none->execOp a.eval o=(do pure (.value (<-Instr.sliceAt t (a.eval x) (lo.map a.eval) (hi.map a.eval) none))):=fun h=>by simp only[execOp,h,VO]
   rw[he ho,hy1];simp[Instr.sliceAt,run_underlying hu',Instr.slice,hb,(bc T.ok ht.2.2).size]
theorem DE.tq(i:Nat)(k:DE P ops K fuel L' σ')(ho:ops.toList.drop i=o::rest)(hy:Still P o σ)(he:af P ops o σ σ')(hg:o.guard=none:=by kernel_rfl)(hs:Region.noSelect ops=true:=by kernel_rfl)(hf:Region.free .any ops L i=true:=by kernel_rfl)(hr:(Region.ready .any ops L).contains i=true:=by kernel_rfl)(hL:L.setIfInBounds i true=L':=by kernel_rfl):DE P ops K (fuel+1) L σ:=by
 intro c a w hr';subst hL;replace ho:=ya ho;obtain⟨u,hex⟩:=hy c a w hr';have hdo:=he c a w hr';have hw:Region.wanted o (yielded ops a.tmps)=true:=by simp[Region.wanted,hg]
 unfold iQ at hdo;rw[if_pos hw]at hdo;unfold Oper.wp at hdo;rw[hex w]at hdo;refine wpAny_take (v:=u) ho hs hf hr (fun _ _ _ h=>by simp at h) ?_ (k c _ w hdo);unfold Yields;exact .inl ⟨hw,hex⟩
end
section
variable {P : Program} {tb : Tb} {σ : SS}
theorem foz{t e m:Nat}{α:Type}{f:α->List Tr}{L:List α}{dep:Bool}(hf: ∀x,(f x).all Tr.flat=true:=by intro _;kernel_rfl)(h:OQ σ t=some (oa e m f L):=by kernel_rfl):l7 P σ dep (.tmp t) (.own e m L.length (L.map f)):=fo (fun x t ht=>Tt.1 (hf x) t ht) h
theorem fot{t e m n:Nat}{es:List (List Tr)}(h:OQ σ t=some (.arr e m n es):=by kernel_rfl):l7 P σ true (.tmp t) (.own e m n es):=by
 unfold OQ at h;split at h
 ·rename_i d ht;cases hb:T8 d σ.n with
  | true=>rw[hb,cond_true]at h;exact Sj (qg ht) h hb
  | false=>rw[hb]at h;cases h
 ·cases h
theorem fcz[T:TbI P tb]{t u:Nat}{x:SV}{dep:Bool}(hn:x.names=[]:=by kernel_rfl)(hf:x.tQ=true:=by kernel_rfl)(h:A1 tb σ t u=some x:=by kernel_rfl):l7 P σ dep (.cell t u) (.v x):=fc T.ok hn hf h
theorem fct[T:TbI P tb]{t u:Nat}{x:SV}(hn:x.names=[]:=by kernel_rfl)(h:A1 tb σ t u=some x:=by kernel_rfl):l7 P σ true (.cell t u) (.v x):=by
 unfold A1 at h;split at h
 ·rename_i d ti ht hT;split at h
  ·rename_i cs ho;exact Sk hn (GI T.ok hT ht ho h)
  ·cases h
 ·cases h
theorem f3{ins:List fR}{dep:Bool}{t u v:ResultVar}{r q p:SR}(h:l7 P σ dep t r)(k:l7 P σ dep u q)(l:l7 P σ dep v p)(hn:noO ins=true:=by kernel_rfl):td P [t,u,v] ins ⟨[r,q,p],[],dep⟩ σ:=S7 hn h k l
theorem f0{ins:List fR}{dep:Bool}(hn:noO ins=true:=by kernel_rfl):td P [] ins ⟨[],[],dep⟩ σ:=S5 hn
theorem fio{rs:List ResultVar}{ins:List fR}{outs:List SR}{dep:Bool}{j:Nat}{y:SO}(h:td P rs [] ⟨outs,[],dep⟩ σ)(ho:find (hi j) σ.o=some y:=by kernel_rfl)(hn:y.names=[]:=by kernel_rfl)(hz:(isO ins j&&OL ins [j])=true:=by kernel_rfl):td P rs ins ⟨outs,[(j,y)],dep⟩ σ:=by
 rw[Tp]at hz;exact RM h ho hn hz.1 hz.2
def Sa(σ:SS)(t:Nat):Option (List SV):=match find t σ.t with
 | some (.ref d 0)=>bif T8 d σ.n then match find d σ.o with
  | some (.box cs)=>some cs
  | _=>none
  else none
 | _=>none
theorem fbz{t:Nat}{cs:List SV}{dep:Bool}(h:Sa σ t=some cs:=by kernel_rfl)(hn:SO.names (.box cs)=[]:=by kernel_rfl)(hf:SV.tQ.flatLB cs=true:=by kernel_rfl):l7 P σ dep (.tmp t) (.box cs):=by
 unfold Sa at h;split at h
 ·rename_i d ht;cases hb:T8 d σ.n with
  | true=>
   rw[hb,cond_true]at h;split at h
   ·rename_i cs' ho;injection h with h;subst h;exact S8 (qg ht) ho hn (SV.ng _ hf) hb
   ·cases h
  | false=>rw[hb]at h;cases h
 ·cases h
end
section
variable {P : Program} {J A R : Type} {σJ : J -> SS} {QA : A -> Exit -> SS -> Prop} {j : J} {a : A} {s : SS} {v : J ⊕ A} {i : Nat}
theorem zl(h:some (.inl j)=some v)(k:Le s (σJ j)):QE σJ QA v .normal s:=Um.inj h▸q_l k
theorem zr(h:some (.inr a)=some v)(k:QA a .ret s):QE σJ QA v .ret s:=Um.inj h▸KW k
theorem ze(h:some (.inr a)=some v)(k:QA a (.exit i) s):QE σJ QA v (.exit i) s:=Um.inj h▸OZ k
theorem zj{w:J}(h:some j=some w)(k:Le s (σJ j)):QJ σJ w .normal s:=Um.inj h▸q_j k
theorem zm{w:J}(h:some j=some w)(k:Le s (σJ j)):LJ σJ w s:=Um.inj h▸k
theorem zf{rs:List ResultVar}{ins:List fR}{res:R->jM}{r q:R}(h:some q=some r)(k:td P rs ins (res q) s):QF P rs ins res r .ret s:=Um.inj h▸Sy k
theorem zn{rs:List ResultVar}{ins:List fR}{res:R->jM}{r q:R}(h:some q=some r)(k:td P rs ins (res q) s):QF P rs ins res r .normal s:=Um.inj h▸Sx k
end
theorem Z{p:Prop}(q:p:=by
  repeat' (first
   | with_reducible refine sl ?_
   | with_reducible refine aW ?_
   | with_reducible refine aL ?_
   | with_reducible refine sn ?_
   | with_reducible refine lm ?_
   | with_reducible refine ed ?_
   | with_reducible refine oi ?_
   | with_reducible refine gi ?_
   | with_reducible refine Nc ?_
   | with_reducible refine Jf ?_
   | with_reducible refine aq ?_
   | with_reducible refine I9 ?_
   | with_reducible refine I8 ?_
   | refine zl h ?_
   | refine zr h ?_
   | refine ze h ?_
   | refine zj h ?_
   | refine zm h ?_
   | refine zf h ?_
   | refine zn h ?_
   | with_reducible refine q_l ?_
   | with_reducible refine KW ?_
   | with_reducible refine OZ ?_
   | with_reducible refine q_j ?_
   | with_reducible refine Sy ?_
   | with_reducible refine Sx ?_
   | with_reducible exact leS
   | with_reducible exact ft
   | with_reducible exact fv
   | with_reducible exact fot
   | with_reducible exact foz
   | with_reducible exact fct
   | with_reducible exact fcz
   | with_reducible exact fbz
   | with_reducible exact fa
   | refine Td rfl ?_
   | refine f1 ?_
   | refine f2 ?_ ?_
   | refine f3 ?_ ?_ ?_
   | refine f0
   | refine fio ?_)):p:=q
open Go.RowKit Go.Shelf Go.Lib
def strings_Compare(a b:ByteArray):Option Int:=some (Lib.compareBytes a.data.toList b.data.toList)
theorem HS{P:Program}{ρ:Ren}(L:Lays.n106 P ρ)(k:FuncId)(hk:ρ.f 106=k)(a b:ByteArray)(r:Int)(h:strings_Compare a b=some r):eG P k [.v (.tr (.str a)),.v (.tr (.str b))] ⟨[.v (.tr (.int .i64 r))],[],false⟩:=by
 unfold strings_Compare at h;injection h with h;subst h;subst hk;exact DK [.str a,.str b] (by simp[Tr.flat]) (.int .i64 _) rfl trivial fun w=>(Any.strings_Compare L a b w).mono fun e w' h=>⟨h.1,by rw[h.2];exact Below.refl _ w⟩
section
variable {P : Program}
theorem DJ(w:World)(t e ty:TypeId)(z:Value)(size:Nat)(ht:P.underlying t=some (.slice e))(hv: ∀w,(zeroValue e).run P w= .ok z w)(hzs:z.cells.size=size)(h1: ∀v∈z.cells.toList,v.oneCell'=true)(b o n c:Nat)(cur:Array Value)(t':TypeId)(hg:w.heap[b]? =some (.cells cur t' (0,0)))(hfit:o+n*size<=cur.size)(hn:0<n):
  (Builtin.clear_ #[t] ty #[.slice (some ⟨b,o,none⟩) n c]).run P w= .ok (.tuple #[]) (w.setRow b (cur.toList.take o++(Builtin.zeroCells z.cells n).toList++cur.toList.drop (o+(Builtin.zeroCells z.cells n).toList.length)).toArray):=by
 have hl:(Builtin.zeroCells z.cells n).toList.length=n*size:=by rw[TB];simp[Builtin.zeroCells,hzs]
 have hst:=run_storeCells_at P b o t' (Builtin.zeroCells z.cells n).toList 0 cur w hg (by rw[hl];simpa using hfit) (fun v hv'=>by
  rw[Array.mem_toList_iff]at hv';unfold Builtin.zeroCells at hv';obtain⟨i,hi,rfl⟩:=Array.mem_map.1 hv';refine h1 _ ?_;have hp:0<z.cells.size:=by
   rw[Array.mem_range]at hi;rcases VI z.cells.size with h | h
   ·simp[h]at hi
   ·exact h
  have hlt:i % z.cells.size<z.cells.size:=Wh _ hp;rw[getElem!_pos z.cells (i % z.cells.size) hlt];exact Array.mem_toList_iff.2 (Array.getElem_mem hlt))
 simp only[Uw]at hst;obtain⟨m,rfl⟩: ∃m,n=m+1:=⟨n - 1,by omega⟩;simp[Builtin.clear_,run_underlying ht,hv,hst]
end
section
variable {P : Program} {tb : Tb} {ops : Array Oper} {o : Oper} {c : Cx} {S : Nat -> Prop} {β : Nat -> Value} {σ : SS} {a : Act} {w : World}
theorem Qw{d:Nat}{p:Nat×SV}(h:p∈(σ.kill d).t):d∉p.2.names:=by
 have:=(Tu.1 h).2;simpa using this
theorem Cn{d:Nat}{p:Nat×SO}(h:p∈(σ.kill d).o):p.1≠d/\d∉p.2.names:=by
 have:=(Tu.1 h).2;simpa using this
theorem Bn{k:Nat}{ins:List fR}{e m n:Nat}{es:List (List Tr)}(h:eG P k ins ⟨[.own e m n es],[],true⟩)(hf:tA es):eG P k ins ⟨[.own e m n es],[],false⟩:=by
 intro w S vs h1 h2 h3 h4 h5 h6;refine Calls.mono (h w S vs h1 h2 h3 h4 h5 h6) fun e' w' he=> ?_;obtain⟨v,S',he,hg,hs,hl,hv,_⟩:=he;exact⟨v,fun b=>S' b/\w.heap.size<=b,he,hg,fun b hb=> .inr hb.2,fun b hb=>hl b hb.1,⟨hv.1.free hf,fun g hg=>⟨(hv.2 g hg).1,fun h=>(hv.2 g hg).2 h.1⟩⟩,fun j x u hj=>by cases hj⟩
theorem Rel.renew(hr:Rel c S β σ a w){d:Nat}{x x':SO}{v':Value}(hd:(d,x)∈σ.o)(hdn:d<σ.n\/3000000<=d)(h1:v'.cells= #[v'])(hx:cP w S (kt β d v') x' v')(hf: ∀g,x'.ba w v' g->x.ba w (β d) g):Rel c S (kt β d v') {σ.kill d with o:=(d,x')::(σ.kill d).o} a w where
 defers:=hr.defers
 size:=hr.size
 one k:=by
  unfold kt;split
  ·exact h1
  ·exact hr.one k
 grew:=hr.grew
 s0:=hr.s0
 s1:=hr.s1
 lt:=hr.lt
 tmp i y hi:=⟨(hr.tmp i y (se hi)).1,(hr.tmp i y (se hi)).2.agree (lV β v' (Qw hi))⟩
 obj k y hk:=by
  rcases Tx.1 hk with h | h
  ·injection h with h1 h2;subst h1 h2;rw[cy];exact hx
  ·rw[cU β v' (Cn h).1];exact(hr.obj k y (bE h).1).agree (lV β v' (Cn h).2)
 pin j u hj:=⟨(hr.pin j u hj).1,fun y hy=>by
  have hlt:=(hr.pin j u hj).1;have h3:=hr.OW hj;rw[cU β v' (by omega)];rcases Tx.1 hy with h | h
  ·injection h with h1 h2;omega
  ·exact(hr.pin j u hj).2 y (bE h).1⟩
 priv k y g hk hg:=by
  rcases Tx.1 hk with h | h
  ·injection h with h1 h2;subst h1 h2;rw[cy]at hg;exact hr.priv _ x g hd (hf g hg)
  ·rw[cU β v' (Cn h).1]at hg;exact hr.priv k y g (bE h).1 hg
 apart k y k' y' g hk hk' hg hg':=by
  have hold: ∀{k y},(k,y)∈(d,x')::(σ.kill d).o->y.ba w (kt β d v' k) g-> ∃z,(k,z)∈σ.o/\z.ba w (β k) g:=fun{k y} hk hg=>by
   rcases Tx.1 hk with h | h
   ·injection h with h1 h2;subst h1 h2;rw[cy]at hg;exact⟨x,hd,hf g hg⟩
   ·rw[cU β v' (Cn h).1]at hg;exact⟨y,(bE h).1,hg⟩
  obtain⟨z,h2,h3⟩:=hold hk hg;obtain⟨z',h4,h5⟩:=hold hk' hg';exact hr.apart k z k' z' g h2 h4 h3 h5
theorem Md{α:Type}(f:α->List Tr){L R:List α}{d d0:Nat}{h:Int}{e m:Nat}(hp:fE L 0 h=some R)(hP:bm P tb){t:Nat}{x:Operand}{hi:Option Operand}(ho:o.op= .slice t x none hi none)(hdst:o.dst=some d0){ti tj:TI}(hd0:T8 d0 σ.n=true:=by kernel_rfl)(hgd:gd ops σ o=some true:=by kernel_rfl)(ht:find t tb=some ti:=by kernel_rfl)(hti:ti.d= .slice e:=by kernel_rfl)(he:find e tb=some tj:=by kernel_rfl)(hx:ev σ x=some (.own d):=by kernel_rfl)(hob:find d σ.o=some (.arr e m L.length (L.map f)):=by kernel_rfl)(hhi:ot σ L.length hi=some h:=by kernel_rfl)(hdn:(T8 d σ.n || Uv 3000000 d)=true:=by kernel_rfl):
  af P ops o σ (({σ.kill d with o:=(d,.arr e m R.length (R.map f))::(σ.kill d).o}:SS).put d0 (.own d)):=by
 obtain⟨h,rfl⟩:=Ui (vQ hp).2.1;refine tL hgd fun c S β a w hr=> ?_;obtain⟨_,hlh,hn,hR⟩:=vQ hp;have hRl:R=L.take h:=by rw[hR];simp
 have hhL:h<=L.length:=by omega
 have hm:=aJ hob;have hobj:=hr.obj d _ hm;have hv:=bD hr hx;have hdn':d<σ.n\/3000000<=d:=by
  rw[TT]at hdn;rcases hdn with h | h
  ·exact .inl (by simpa using h)
  ·exact .inr (T3 h)
 have hu:=(bc hP ht).slice hti;generalize hy1:a.eval x=y1 at hv;cases hv with
 | own d=>
 generalize hbd:β d=bd at hobj hy1;cases hobj with
 | arr e m n es v xs hn' hown hes hh=>
  have hlen:(L.map f).length=L.length:=TM _;obtain⟨A,cap,hbv,hcap,hblk⟩: ∃A cap,bd= .slice A L.length cap/\L.length<=cap/\(∀b,A=some b-> ∃g,b=⟨g,0,none⟩):=by
   rcases hown.2 with⟨h1,h2⟩ | ⟨g,cp,cur,h1,_,_,h2,_⟩
   ·exact⟨none,0,by rw[h1,h2],by omega,fun b hb=>by cases hb⟩
   ·exact⟨_,cp,h1,h2,fun b hb=>by injection hb with hb;exact⟨g,hb.symm⟩⟩
  have hb:=qq (P:=P) w hr true (n:=L.length) (cap:=cap) (lo:=none) (l:=0) rfl hhi (Int.le_refl _) (by omega) (by omega) hcap;have hA:(if cap=0 then A else A.map (·.add (0*tj.size)))=A:=by
   split
   ·rfl
   ·cases A with
    | none=>rfl
    | some b=>obtain⟨g,rfl⟩:=hblk b rfl;simp[Addr.add_lit]
  refine lr (u:= .slice A h cap) (w':=w) ?_ ?_
  ·have he':execOp a.eval o=(do pure (.value (<-Instr.sliceAt t (a.eval x) ((none:Option Operand).map a.eval) (hi.map a.eval) none))):=by simp only[execOp,ho,VO]
   rw[he',hy1,hbv];simp only[Instr.sliceAt,Sem.run_bind,run_underlying hu,Result.andThen_ok,Instr.slice,hb,(bc hP he).size,Sem.run_pure];simp only[TG,Int.toNat_zero,Nat.sub_zero,hA]
  ·have hnew:=Rel.renew (x':= .arr e m R.length (R.map f)) (v':= .slice A h cap) hr hm hdn' rfl ?_ ?_
   ·rw[hdst];refine⟨S,_,hnew.put (show d0<σ.n by simpa using hd0) ?_⟩;have:cT w S (kt β d (.slice A h cap)) (.own d) (kt β d (.slice A h cap) d):= .own d
    rwa [cy]at this
   ·have hRlen:R.length=h:=by rw[hRl,TQ];omega
    refine .arr e m _ _ _ (xs.take (h*m)) (TM _) ?_ (fun y hy=>hes y (by rw[hRl,List.map_take]at hy;exact U6 hy)) fun i y j t u h2 h3 h4=> ?_
    ·rw[hRlen];have hxl:xs.length=L.length*m:=hown.1;have hle:h*m<=L.length*m:=TY _ hhL;refine⟨by rw[TQ];omega,?_⟩;rcases hown.2 with⟨h1,h2⟩ | ⟨g,cp,cur,h1,h2,h3,h4,h5,h6,h7⟩
     ·left;rw[hbv]at h1;injection h1 with h1 h8 h9;exact⟨by rw[h1,h9,show h=0 by omega],by omega⟩
     ·right;rw[hbv]at h1;injection h1 with h1 h8 h9;refine⟨g,cap,cur,by rw[h1],h2,h3,by omega,by rw[h9];exact h5,by rw[h9];exact h6,?_⟩;rw[<-h7,List.take_take,VP hle]
    ·rw[hRl,List.map_take,Vl]at h2;split at h2
     ·rw[Vl]at h4;split at h4
      ·exact hh i y j t u h2 h3 h4
      ·cases h4
     ·cases h2
   ·intro g hg;show cN (β d)=some g;rw[hbd,hbv];have hg:cN (.slice A h cap)=some g:=hg;cases A with
    | none=>cases hg
    | some b=>exact hg
def NC{α:Type}(z:α)(L:List α)(l:Int):Option (List α):=if 0<=l/\l<L.length then some (L.take l.toNat++UH (L.length - l.toNat) z)else none
theorem eval_put{d:Nat}{v:Value}(h:d<a.tmps.size):(a.put (some d) v).eval (.tmp d)=v:=by
 simp[Act.eval,Act.put,UR,h]
theorem Ma{α:Type}(f:α->List Tr)(z:α){L M:List α}{d d1:Nat}{l:Int}{e m:Nat}{o1 o2:Oper}{rest:List Oper}{Q:SS->Prop}(hz:NC z L l=some M)(hP:bm P tb){t:Nat}{x lo:Operand}(ho:o1.op= .slice t x (some lo) none none)(hdst:o1.dst=some d1)(ho2:o2.op= .call {callee:= .builtin .clear,args:= #[.tmp d1],argTypes:= #[t]})(hd2:o2.dst=none)(k:aj P ops rest Q (({σ with o:=(d,.arr e m M.length (M.map f))::σ.o.filter (fun p=>p.1 !=d)}:SS).drop (some d1)))
  {ti tj:TI} {zs:List Value} (hg1:o1.guard=none:=by kernel_rfl) (hg2:o2.guard=none:=by kernel_rfl) (hd1:T8 d1 σ.n=true:=by kernel_rfl) (ht:find t tb=some ti:=by kernel_rfl) (hti:ti.d= .slice e:=by kernel_rfl) (he:find e tb=some tj:=by kernel_rfl) (hx:ev σ x=some (.own d):=by kernel_rfl) (hob:find d σ.o=some (.arr e m L.length (L.map f)):=by kernel_rfl) (hlo:sW σ (some lo)=some l:=by kernel_rfl) (hm:tj.size=m:=by kernel_rfl) (hzv:iP tj.zero=some zs:=by kernel_rfl) (hfz:f z=tj.zero:=by kernel_rfl) (hzl:tj.zero.length=m:=by kernel_rfl) (hmp:T8 0 m=true:=by kernel_rfl):aj P ops (o1::o2::rest) Q σ:=by
 intro c a w ⟨S,β,hr⟩;have hmp:0<m:=by simpa using hmp
 have hd1:d1<σ.n:=by simpa using hd1
 unfold NC at hz;split at hz
 ·rename_i hh;obtain⟨h0,hln⟩:=hh;injection hz with hz;obtain⟨i,rfl⟩:=Ui h0;rw[TG]at hz;have hin:i<L.length:=by omega
  have hmem:=aJ hob;have hobj:=hr.obj d _ hmem;have hv:=bD hr hx;have hu:=(bc hP ht).slice hti;obtain⟨q,g1,g2,g3,g4⟩:=(bc hP he).uC;obtain⟨zv,g5,g6⟩:=g4 zs hzv;obtain⟨hzsl,hzst⟩:=om (w:=w) (S:=S) hzv;have hzc:zv.cells.size=m:=by rw[<-TB,g6,<-hzsl,hzl]
  have hzrun: ∀w,(zeroValue e).run P w= .ok zv w:=fun w=>by simp[zeroValue,typeInfo,g1,g5]
  generalize hy1:a.eval x=y1 at hv;cases hv with
  | own d=>
  generalize hbd:β d=bd at hobj hy1;cases hobj with
  | arr e m n es v xs hn' hown hes hh=>
   rcases hown.2 with⟨h1,h2⟩ | ⟨g,cap,cur,h1,_,hgg,hnc,hcm,hcs,htk⟩
   ·omega
   ·subst h1;have hb:=qq (P:=P) w hr true (n:=L.length) (cap:=cap) (lo:=some lo) (hi:=none) (l:=(i:Int)) (h:=(L.length:Int)) hlo rfl (by omega) (by omega) (Int.le_refl _) hnc;rw[TG,TG]at hb;have hcap:cap≠i:=by omega
    have hle:L.length*m<=cap*m:=TY _ hnc;have him:i*m+(L.length - i)*m=L.length*m:=by rw[<-UT];congr 1;omega
    have s1:iQ P ops o1 a w fun a' w'=>a'=a.put (some d1) (.slice (some ⟨g,i*m,none⟩) (L.length - i) (cap - i))/\w'=w:=by
     unfold iQ;rw[if_pos (by simp[Region.wanted,hg1])];refine lr (u:= .slice (some ⟨g,i*m,none⟩) (L.length - i) (cap - i)) (w':=w) ?_ ⟨by rw[hdst],rfl⟩;have he':execOp a.eval o1=(do pure (.value (<-Instr.sliceAt t (a.eval x) ((some lo).map a.eval) ((none:Option Operand).map a.eval) none))):=by simp only[execOp,ho,VO]
     rw[he',hy1];simp only[Instr.sliceAt,Sem.run_bind,run_underlying hu,Result.andThen_ok,Instr.slice,hb,(bc hP he).size,Sem.run_pure];simp only[if_neg hcap,UO,Addr.add_lit,Ue,hm]
    refine s1.list fun a' w' hs=> ?_;obtain⟨rfl,rfl⟩:=hs;have hfit:i*m+(L.length - i)*m<=cur.size:=by rw[hcs,him];exact hle
    have h1c: ∀v∈zv.cells.toList,v.oneCell'=true:=by
     intro v hv;rw[g6]at hv;obtain⟨j,hj⟩:=Uq.1 hv;have hjl:j<tj.zero.length:=by rw[hzsl];exact(Tl.1 hj).1
     have:=hzst j _ v (Tk hjl) hj;exact Hk this
    have hcl:=DJ (P:=P) w' t e o2.type zv m hu hzrun hzc h1c g (i*m) (L.length - i) (cap - i) cur e hgg hfit (by omega);have hzl2:(Builtin.zeroCells zv.cells (L.length - i)).toList.length=(L.length - i)*m:=by rw[TB];simp[Builtin.zeroCells,hzc]
    have s2:iQ P ops o2 (a.put (some d1) (.slice (some ⟨g,i*m,none⟩) (L.length - i) (cap - i))) w' fun a' w''=>a'=(a.put (some d1) (.slice (some ⟨g,i*m,none⟩) (L.length - i) (cap - i))).put none (.tuple #[])/\w''=w'.setRow g (cur.toList.take (i*m)++(Builtin.zeroCells zv.cells (L.length - i)).toList++cur.toList.drop (i*m+(Builtin.zeroCells zv.cells (L.length - i)).toList.length)).toArray:=by
     unfold iQ;rw[if_pos (by simp[Region.wanted,hg2])];have hev:=eval_put (a:=a) (d:=d1) (v:= .slice (some ⟨g,i*m,none⟩) (L.length - i) (cap - i)) (by rw[hr.size];exact hd1);refine lr (u:= .tuple #[]) ?_ ⟨by rw[hd2],rfl⟩;simp[execOp,ho2,resolve,invoke,builtin,hev,hcl,Result.andThen]
    refine s2.list fun a' w'' hs=> ?_;obtain⟨rfl,rfl⟩:=hs;refine k c _ _ ?_;have hr2:=Rel.Pu (g:=g) (x':= .arr e m M.length (M.map f)) hr hmem (by rw[hbd];rfl) (w':=w'.setRow g (cur.toList.take (i*m)++(Builtin.zeroCells zv.cells (L.length - i)).toList++cur.toList.drop (i*m+(Builtin.zeroCells zv.cells (L.length - i)).toList.length)).toArray) rfl rfl rfl (by simp) (fun q _ hq=>setRow_other w' g q _ hq) ?_
    ·exact⟨S,β,hr2.drop (some d1) _⟩
    ·rw[hbd];have hMl:M.length=L.length:=by rw[<-hz,Tz,TQ,List.length_replicate];omega
     have hlen:(cur.toList.take (i*m)++(Builtin.zeroCells zv.cells (L.length - i)).toList++cur.toList.drop (i*m+(Builtin.zeroCells zv.cells (L.length - i)).toList.length)).length=cur.size:=by
      simp only[Tz,TQ,Ux,TB]at hzl2⊢;omega
     rw[hMl];refine .arr e m L.length _ _ ((cur.toList.take (i*m)++(Builtin.zeroCells zv.cells (L.length - i)).toList++cur.toList.drop (i*m+(Builtin.zeroCells zv.cells (L.length - i)).toList.length)).take (L.length*m)) (by rw[TM,hMl]) ⟨by rw[TQ,hlen];omega,.inr ⟨g,cap,_,rfl,Ul _,setRow_heap w' g cur _ e (0,0) hgg,hnc,hcm,by rw[Uk,hlen,hcs],rfl⟩⟩ (fun y hy=> ?_) fun j y j' t u h2 h3 h4=> ?_
     ·obtain⟨y0,hy0,rfl⟩:=TF.1 hy;rw[<-hz]at hy0;rcases TN.1 hy0 with h | h
      ·exact hes _ (TF.2 ⟨y0,U6 h,rfl⟩)
      ·rw[(List.mem_replicate.1 h).2,hfz,hzl]
     ·have hkeep: ∀{p u},TV w' S p u->TV (w'.setRow g (cur.toList.take (i*m)++(Builtin.zeroCells zv.cells (L.length - i)).toList++cur.toList.drop (i*m+(Builtin.zeroCells zv.cells (L.length - i)).toList.length)).toArray) S p u:=fun h=>h.keep (fun b hb=>setRow_other w' g b _ fun e=>(hr.priv d _ g hmem (by rw[hbd];rfl)).1 (e▸hb)) fun _ h=>h;have hjl:j<M.length:=by
       have:=(Tl.1 h2).1
       rwa [TM]at this
      rw[Tq,Tn]at h2;obtain⟨y0,h2,rfl⟩:=h2;rw[<-hz]at h2;have hlt:(L.take i).length=i:=by rw[TQ];omega
      have hct:(cur.toList.take (i*m)).length=i*m:=by rw[TQ,TB];omega
      rw[Vl]at h4;split at h4
      ·by_cases hji:j<i
       ·rw[TE (by omega),T9 hji]at h2;have h5:(L.map f)[j]? =some (f y0):=by rw[Tq,h2];rfl
        have hyl:(f y0).length=m:=hes _ (Tm h5);have hj':j'<m:=by rw[<-hyl];exact(Tl.1 h3).1
        have h6:(j+1)*m<=i*m:=TY _ hji;rw[UT]at h6;rw[TX,TE (by omega),T9 (by omega)]at h4;refine hkeep (hh j _ j' t u h5 h3 ?_);rw[<-htk,T9 (by omega)];exact h4
       ·rw[Ts (by omega),VZ]at h2;split at h2
        ·injection h2 with h2;subst h2;rw[hfz]at h3;have hj':j'<m:=by rw[<-hzl];exact(Tl.1 h3).1
         have hjn:j<L.length:=by omega
         have h6:(j+1)*m<=L.length*m:=TY _ hjn;have h7:i*m<=j*m:=TY _ (by omega);rw[UT]at h6;rw[TX,Ts (by omega),hct,TE (by rw[hzl2];omega)]at h4;have h8:(Builtin.zeroCells zv.cells (L.length - i)).toList[j*m+j' - i*m]? =zv.cells.toList[j']? :=by
          have h9:j*m+j' - i*m=(j - i)*m+j':=by rw[Nat.sub_mul];omega
          rw[h9,Ub,Ub];unfold Builtin.zeroCells;have h10:(j - i+1)*m<=(L.length - i)*m:=TY _ (by omega);rw[UT]at h10;rw[U5,hzc,Array.getElem?_range,if_pos (by omega)];have h11:((j - i)*m+j') % m=j':=by rw[Nat.add_comm,Vc,Nat.add_mul_mod_self_left,Vt hj']
          simp only[UO,h11];rw[getElem!_pos zv.cells j' (by omega),TW (by omega)]
         rw[h8,g6]at h4;exact hkeep (hzst j' t u h3 h4)
        ·cases h2
      ·cases h4
 ·cases hz
theorem af.pre{σ1 σ':SS}(hl:Le σ σ1)(h:af P ops o σ1 σ'):af P ops o σ σ':=fun c a w hr=>h c a w (hl c a w hr)
theorem yPF[T:TbI P tb]{α:Type}(f:α->List Tr){L M:List α}{R:List α}(h:bW L M=some R)(ho:o.op= .call {callee:= .builtin .append,args:= #[jG o.op,opb o.op],argTypes:= #[dV o.op,dV o.op]}:=by kernel_rfl)(hdst:o.dst=some (o.dst.getD 0):=by kernel_rfl)(hgd:(T8 (o.dst.getD 0) σ.n,gd ops σ o)=(true,some true):=by kernel_rfl)(ht:(find (dV o.op) tb,(dK tb (dV o.op)).d,find (mS (dK tb (dV o.op))) tb)=(some (dK tb (dV o.op)),.slice (mS (dK tb (dV o.op))),some (dK tb (mS (dK tb (dV o.op))))):=by kernel_rfl)(hz:(iP (dK tb (mS (dK tb (dV o.op)))).zero,(dK tb (mS (dK tb (dV o.op)))).zero.length,T8 0 (dK tb (mS (dK tb (dV o.op)))).size,Uv (dK tb (mS (dK tb (dV o.op)))).bytes 2048)=(some (zvO (dK tb (mS (dK tb (dV o.op))))),(dK tb (mS (dK tb (dV o.op)))).size,true,true):=by kernel_rfl)(hx:(ev σ (jG o.op),Uv 3000000 (apD σ o.op),find (apD σ o.op) σ.o,(ev σ (opb o.op)).isSome,QH σ (dK tb (mS (dK tb (dV o.op)))).size (ev σ (opb o.op)))=(some (.own (apD σ o.op)),true,some (.arr (mS (dK tb (dV o.op))) (dK tb (mS (dK tb (dV o.op)))).size L.length (L.map f)),true,some (M.length,M.map f)):=by kernel_rfl)(hl: ∀x,(f x).length=(dK tb (mS (dK tb (dV o.op)))).size:=by intro _;kernel_rfl)(hf:(σ.kill (apD σ o.op)).names.contains (apD σ o.op)=false:=by kernel_rfl):af P ops o σ (({σ.kill (apD σ o.op)with o:=(apD σ o.op,.arr (mS (dK tb (dV o.op))) (dK tb (mS (dK tb (dV o.op)))).size R.length (R.map f))::(σ.kill (apD σ o.op)).o}:SS).put (o.dst.getD 0) (.own (apD σ o.op))):=by
 simp only[Vk.injEq]at hgd ht hz hx;obtain⟨v,hv⟩:=T5.1 hx.2.2.2.1;obtain⟨h1,rfl⟩:=HC h;rw[Tz,List.map_append];exact wO T.ok ho rfl rfl hdst (by simpa using hgd.1) hgd.2 ht.1 ht.2.1 ht.2.2 hz.1 hz.2.1 (by simpa using hz.2.2.1) rfl (by simpa using hz.2.2.2) hx.1 (.inr ⟨rfl,T3 hx.2.1⟩) hx.2.2.1 hv (L3 (by rw[<-hv];exact hx.2.2.2.2) fun e he=>by
  obtain⟨x,_,rfl⟩:=TF.1 he;exact hl x) h1 rfl (by simpa using hf)
end
theorem y6{P:Program}{k:FuncId}(ts:List Tr)(hf: ∀t∈ts,t.flat=true)(r r':Tr)(rs:List Tr)(hr: ∀t∈r::r'::rs,t.flat=true)(hs: ∀t∈r::r'::rs,t.small)(h: ∀w S,mX S w->Calls P k (ts.map Tr.val).toArray w fun e w'=>e= .returned (.tuple ((r::r'::rs).map Tr.val).toArray)/\Below w.heap.size w w'):eG P k (ts.map fun t=>fR.v (.tr t)) ⟨(r::r'::rs).map fun t=>SR.v (.tr t),[],false⟩:=by
 intro w S vs hn hS hv _ _ hgl;rw[vA hf (by simpa using hn) hv];refine(h w S hgl).mono fun e w' h=> ?_;obtain⟨rfl,hb⟩:=h;refine⟨_,fun _=>False,rfl,dA.pH hb _,fun b hb=>hb.elim,fun b hb=>hb.elim,⟨_,rfl,by simp,fun i q u hq hu=> ?_⟩,fun j x u hj=>by simp at hj⟩;generalize hrs:r::r'::rs=ls at hr hs hu;have hq:(ls.map fun t=>SR.v (.tr t))[i]? =some q:=by rw[<-hrs];exact hq
 rw[Tq,Tn]at hq;obtain⟨t,ht,rfl⟩:=hq;have hu2:u=t.val:=by
  rw[List.getElem?_toArray,Tq,ht]at hu;simpa using hu.symm
 subst hu2;exact⟨rfl,.tr _ _ (Hm (hr _ (Tm ht)) (hs _ (Tm ht)))⟩
theorem OT{l:List UInt8}{v:Int}(h:Lib.parseIntB 64 l= .ok v): -9223372036854775808<=v/\v<=9223372036854775807:=by
 unfold Lib.parseIntB at h;cases l with
 | nil=>cases h
 | cons c r=>
  simp only at h;split at h
  ·cases h
  ·cases h
  ·split at h
   ·cases h
   ·split at h
    ·cases h
    ·injection h with h;split at h<;>omega
def gO(s:ByteArray):Int×Bool:=match Lib.parseIntB 64 s.data.toList with
 | .ok v=>(v,Lib.itoa v==s.toList)
 | .range=>(Lib.intSat 64 s.data.toList,false)
 | _=>(0,false)
def bU(s:ByteArray):Option (Int×Bool):=if s.size<=281474976710656 then some (gO s)else none
set_option maxHeartbeats 4000000 in
set_option maxRecDepth 100000 in
theorem wM(v:Int)(h0: -9223372036854775808<=v)(h1:v<=9223372036854775807)(w:World)(ht:Lib.TabIs WW w "internal/strconv.uint64pow10" .u64 Lib.pow10Tab):Calls WW 134 #[.int .i64 v] w fun e w'=>e= .returned (.string ⟨(Lib.itoa v).toArray⟩)/\Below w.heap.size w w':=by
 have hF:Calls WW 188 #[.int .i64 v,.int .i64 10] w fun e w'=>e= .returned (.string ⟨(Lib.itoa v).toArray⟩)/\Below w.heap.size w w':=(Any.strconv_FormatInt_10 Tryz.QC v h0 h1 w ht).mono fun e w' ⟨h1,k,os,h2⟩=>⟨h1,by subst h2;exact Lib.below_grow _ _ (TA _) _ _⟩
 go_enter func134,Tryz.ntmps134
 go_wp2_with (go_at_call 188;refine hF.mono ?_;rintro e W2 ⟨rfl,hb⟩)
 go_ret
 exact⟨rfl,hb⟩
set_option maxHeartbeats 4000000 in
set_option maxRecDepth 100000 in
theorem Ji(s:ByteArray)(hs:s.size<=281474976710656)(S:Nat->Prop)(w:World)(hgl:mX S w):Calls WW 156 #[.string s] w fun e w'=>e= .returned (.tuple #[.int .i64 (gO s).1,.bool (gO s).2])/\Below w.heap.size w w':=by
 obtain⟨_,_,t0,x0,e0⟩:=hgl.2.2.1 (4,_) (by unfold Q3;exact TH.2 rfl);obtain⟨_,_,t1,u1,e1⟩:=hgl.2.1 5 (by unfold Js;simp);obtain⟨_,_,t2,u2,e2⟩:=hgl.2.1 6 (by unfold Js;simp);have htab:Lib.TabIs WW w "internal/strconv.uint64pow10" .u64 Lib.pow10Tab:=by
  unfold Lib.TabIs World.var?;rw[show WW.globalNamed "internal/strconv.uint64pow10" =some 4 by kernel_rfl,Ti,e0];rfl
 clear e0;unfold gO;cases hp:Lib.parseIntB 64 s.data.toList
 ·rename_i v;have hv:=OT hp;have hP: ∀W:World,Calls WW 220 #[.string s,.int .i64 10,.int .i64 64] W fun e w'=>e= .returned (.tuple #[.int .i64 v,.nilIface])/\Below W.heap.size W w':=fun W=>(Any.strconv_ParseInt_10_at64_ok Tryz.GR s (by omega) v hp W).mono fun e w' h=>⟨h.1,by
   rcases h.2 with rfl | ⟨t,rfl⟩
   ·exact Below.refl _ _
   ·exact Lib.bytesWorld_below _ _ _⟩
  go_enter func156,Tryz.ntmps156
  go_wp2_with (go_at_call 220;refine(hP _).mono ?_;rintro e W1 ⟨rfl,hb1⟩)
  have ht1:=(Lib.tabBelow_of_tabIs htab) _ hb1;have hF:=wM v hv.1 hv.2 W1 ht1
  go_wp2_with (go_at_call 134;refine hF.mono ?_;rintro e W2 ⟨rfl,hb2⟩)
  try go_wp2
  go_ret2
  refine⟨?_,?_⟩
  ·first | rfl | simp
  ·exact hb1.trans (hb2.mono hb1.size)
 ·have hP:Calls WW 220 #[.string s,.int .i64 10,.int .i64 64] w fun e w'=>(∃N T,e= .returned (.tuple #[.int .i64 (0),.iface T (.pointer (some ⟨N,0,none⟩))]))/\Below w.heap.size w w':=(Any.strconv_ParseInt_10_at64_syntax Tryz.GR s hs hp _ w e1 (.inr ⟨_,_,rfl⟩)).mono fun e w' ⟨N,h1,_,_,h4⟩=>⟨⟨N,_,h1⟩,h4⟩
  go_enter func156,Tryz.ntmps156
  go_wp2_with (go_at_call 220;refine hP.mono ?_;rintro e W1 ⟨⟨N,T,rfl⟩,hb⟩)
  go_wp2
  go_ret2
  exact⟨rfl,hb⟩
 ·have hP:Calls WW 220 #[.string s,.int .i64 10,.int .i64 64] w fun e w'=>(∃N T,e= .returned (.tuple #[.int .i64 (Lib.intSat 64 s.data.toList),.iface T (.pointer (some ⟨N,0,none⟩))]))/\Below w.heap.size w w':=(Any.strconv_ParseInt_10_at64_range Tryz.GR s hs hp _ w e2 (.inr ⟨_,_,rfl⟩)).mono fun e w' ⟨N,h1,_,_,h4⟩=>⟨⟨N,_,h1⟩,h4⟩
  go_enter func156,Tryz.ntmps156
  go_wp2_with (go_at_call 220;refine hP.mono ?_;rintro e W1 ⟨⟨N,T,rfl⟩,hb⟩)
  go_wp2
  go_ret2
  exact⟨rfl,hb⟩
theorem DH(s:ByteArray)(r:Int×Bool)(h:bU s=some r):eG WW 156 [.v (.tr (.str s))] ⟨[.v (.tr (.int .i64 r.1)),.v (.tr (.bool r.2))],[],false⟩:=by
 unfold bU at h;split at h
 ·rename_i hs;injection h with h;subst h;exact y6 [.str s] (by simp[Tr.flat]) (.int .i64 (gO s).1) (.bool (gO s).2) [] (by simp[Tr.flat]) (by simp[Tr.small]) fun w S hgl=>Ji s hs S w hgl
 ·cases h
theorem EX{α:Type}[Inhabited α](enc:α->Value)(d:Array α)(c:Array Value){n:Nat}(hd:d.size=n)(hc:n<=c.size):(Sort.putCells enc 0 d c).toList.take n=d.toList.map enc:=by
 apply List.ext_getElem?;intro k;unfold Sort.putCells;by_cases hk:k<n
 ·rw[T9 hk,Ub,Array.getElem?_mapIdx,Tq,Ub,TW (by omega),TW (by omega)];simp only[UO,Ul,Ue,true_and,Nat.sub_zero];rw[if_pos (by omega),getElem!_pos d k (by omega)]
 ·rw[UZ (by simp;omega),UZ (by simp;omega)]
theorem G4{α:Type}[Inhabited α](enc:α->Value){w w':World}{e n m g cap:Nat}{cur:Array Value}(hg:w.heap[g]? =some (.cells cur e (0,0)))(hcap:n<=cap)(hmax:cap<=maxLen)(hcs:cur.size=cap*1)(d:Array α)(hd:d.size=n)(hm:m<=n)(q:Nat)(os:Array Obj)
  (hw:w'=Sort.grow (Sort.putRow enc (Sort.ahead w q) g 0 d) os):w'.ownsRow 0 e 1 (.slice (some ⟨g,0,none⟩) m cap) m ((d.toList.take m).map enc)/\dA (fun b=>some g=some b) w w':=by
 subst hw;have hlt:g<w.heap.size:=(TR.1 hg).1;have hs:(Sort.putRow enc (Sort.ahead w q) g 0 d).heap.size=w.heap.size:=by simp
 have h1:(Sort.grow (Sort.putRow enc (Sort.ahead w q) g 0 d) os).heap[g]? =some (.cells (Sort.putCells enc 0 d cur) e (0,0)):=by
  rw[Sort.heap_grow_old _ _ (by rw[hs];exact hlt)];show(w.heap.modify g (Sort.onCells (Sort.putCells enc 0 d)))[g]? =_;rw[V7,if_pos rfl,hg];rfl
 refine⟨⟨by simp;omega,.inr ⟨g,cap,_,rfl,Ul _,h1,by omega,hmax,by simp[Sort.putCells,hcs],?_⟩⟩,rfl,rfl,rfl,by rw[Sort.size_grow,hs];omega,fun k hk hne=> ?_⟩
 ·have h2:=EX enc d cur hd (by omega);rw[VG,List.map_take,<-h2,List.take_take,VP hm]
 ·rw[Sort.heap_grow_old _ _ (by rw[hs];exact hk)];show(w.heap.modify g (Sort.onCells (Sort.putCells enc 0 d)))[k]? =_;rw[V7,if_neg fun e=>hne (by rw[e])]
def pK(L:List ByteArray):List ByteArray:=((L.map fun s=>s.data.toList).mergeSort fun x y=>decide (x<=y)).map fun l=>⟨l.toArray⟩
theorem AI{L:List ByteArray}{s:ByteArray}:s∈pK L↔s∈L:=by
 unfold pK;simp only[TF,List.mem_mergeSort];constructor
 ·rintro⟨l,⟨t,ht,rfl⟩,rfl⟩;exact ht
 ·intro h;exact⟨_,⟨s,h,rfl⟩,rfl⟩
theorem vU(L:List ByteArray):(pK L).length=L.length:=by
 unfold pK;simp
def A6(L:List ByteArray):List ByteArray:=(Lib.compact (L.map fun s=>s.data.toList)).map fun l=>⟨l.toArray⟩
theorem HR{α:Type}[BEq α][LawfulBEq α][DecidableEq α][Inhabited α](L:List α):(Lib.compact L).length<=L.length:=by
 unfold Lib.compact Lib.compactUpTo;rw[TM];exact Ut (List.length_filter_le _ _) (by simp)
def gR(L:List ByteArray):List ByteArray:=A6 (pK L)
def Bw(w:World)(e:Nat)(v:Value)(L:List ByteArray):Prop:=w.ownsRow 0 e 1 v L.length (L.map Value.string)
section
variable {P : Program} {ρ : Ren}
theorem F1{w:World}{e g n:Nat}{cur:Array Value}(hg:w.heap[g]? =some (.cells cur e (0,0))){L:List ByteArray}(hn:L.length=n)(hcur:cur.toList.take (n*1)=L.map Value.string):Sort.Holds encStr w g 0 (L.map fun s=>s.data.toList).toArray:=fun j hj=>by
 have hj':j<L.length:=by simpa using hj
 have h5:cur[j]? =some (.string L[j]):=by
  rw[<-Ub,<-T9 (show j<n*1 by omega),hcur,Tq,Tk hj'];rfl
 have h6:((L.map fun s=>s.data.toList).toArray)[j]! =L[j].data.toList:=by
  rw[getElem!_pos ((L.map fun s=>s.data.toList).toArray) j hj];simp
 constructor
 ·unfold World.cell?;rw[hg,h6,Ue];show cur[j]? =some (Value.string ⟨L[j].data.toList.toArray⟩);rw[Array.toArray_toList,h5]
 ·unfold World.frozen?;rw[hg];simp
theorem O6(Ly:Lays.n190 P ρ)(e:Nat)(w:World)(v:Value)(L:List ByteArray)(hL:L.length<=1000000000)(h:Bw w e v L):Calls P (ρ.f 190) #[v] w fun en w'=>en= .returned (.tuple #[])/\dA (fun b=>cN v=some b) w w'/\Bw w' e v (pK L):=by
 rcases h.2 with⟨rfl,h0⟩ | ⟨g,cap,cur,rfl,_,hg,hcap,hmax,hcs,hcur⟩
 ·have hL:L=[]:=UJ.1 (by omega);subst hL;refine(Any.slices_Sort_string_none Ly none 0 w).mono fun en w' hw=> ?_;obtain⟨rfl,rfl⟩:=hw;have e0:pK []=[]:=UJ.1 (vU []);rw[e0];exact⟨rfl,dA.refl _ _,⟨rfl,.inl ⟨rfl,rfl⟩⟩⟩
 ·have hlt:g<w.heap.size:=(TR.1 hg).1;have key:=Any.slices_Sort_string Ly g 0 cap (L.map fun s=>s.data.toList) w (F1 hg rfl hcur) hlt (by simp;omega);rw[TM]at key;refine key.mono fun en w' hw=> ?_;obtain⟨rfl,q,os,hw⟩:=hw;obtain⟨hrow,hgr⟩:=G4 encStr (n:=L.length) (m:=L.length) hg hcap hmax hcs _ (by simp) (TA _) q os hw;refine⟨rfl,hgr,?_⟩;unfold Bw;have e5:((((L.map fun s=>s.data.toList).mergeSort fun x y=>decide (x<=y)).toArray.toList.take L.length).map encStr)=(pK L).map Value.string:=by
   unfold pK;rw[VR,T4 (by simp)];rfl
  rw[e5]at hrow;rw[vU];exact hrow
theorem NY(Ly:Lays.n194 P ρ)(e:Nat)(w:World)(v:Value)(L:List ByteArray)(hL:L.length<=1000000000)(h:Bw w e v L):Calls P (ρ.f 194) #[v] w fun en w'=> ∃u,en= .returned u/\dA (fun b=>cN v=some b) w w'/\Bw w' e u (A6 L)/\ ∀g,cN u=some g->cN v=some g:=by
 rcases h.2 with⟨rfl,h0⟩ | ⟨g,cap,cur,rfl,_,hg,hcap,hmax,hcs,hcur⟩
 ·have hL:L=[]:=UJ.1 (by omega);subst hL;refine(Any.slices_Compact_string_empty Ly none 0 w).mono fun en w' hw=> ?_;obtain⟨rfl,rfl⟩:=hw;exact⟨_,rfl,dA.refl _ _,⟨rfl,.inl ⟨rfl,rfl⟩⟩,fun g h=>h⟩
 ·have key:=Any.slices_Compact_string Ly g 0 cap (L.map fun s=>s.data.toList) w (F1 hg rfl hcur) (by simp;omega) (by simpa using hcap);rw[TM]at key;have hcl:(Lib.compact (L.map fun s=>s.data.toList)).length<=L.length:=by
   have:=HR (L.map fun s=>s.data.toList);simpa using this
  refine key.mono fun en w' hw=> ?_;obtain⟨rfl,q,hw⟩:=hw;obtain⟨hrow,hgr⟩:=G4 encStr (n:=L.length) (m:=(Lib.compact (L.map fun s=>s.data.toList)).length) hg hcap hmax hcs _ (by simp;omega) hcl q #[] (hw.trans (Sort.grow_empty _).symm);refine⟨_,rfl,hgr,?_,fun g' h=>h⟩;unfold Bw;have e5: ∀(C Z:List (List UInt8)),(((C++Z).toArray.toList.take C.length).map encStr)=(C.map fun l=>(⟨l.toArray⟩:ByteArray)).map Value.string:=fun C Z=>by
   rw[VR,List.toList_toArray,List.take_left];rfl
  rw[e5]at hrow;have e6:(A6 L).length=(Lib.compact (L.map fun s=>s.data.toList)).length:=by unfold A6;simp
  rw[e6];exact hrow
end
set_option maxHeartbeats 1000000 in
set_option maxRecDepth 100000 in
theorem K3{ρ ρ':Ren}(Ly:Lays.n190 WW ρ)(hk:ρ.f 190=325)(Lc:Lays.n194 WW ρ')(hk':ρ'.f 194=326)(e:Nat)(w:World)(v:Value)(L:List ByteArray)(hL:L.length<=1000000000)(h:Bw w e v L):
  Calls WW 266 #[v] w fun en w'=> ∃u,en= .returned u/\dA (fun b=>cN v=some b) w w'/\Bw w' e u (gR L)/\ ∀g,cN u=some g->cN v=some g:=by
 have c1:=fun W h=>O6 Ly e W v L hL h;rw[hk]at c1;have c2:=fun W h=>NY Lc e W v (pK L) (by rw[vU];exact hL) h;rw[hk']at c2
 go_enter func266,Tryz.ntmps266
 go_wp2_with (first | (go_at_call 325;refine(c1 _ h).mono ?_;rintro e w' ⟨rfl,hg1,hr1⟩) | (go_at_call 326;refine(c2 _ hr1).mono ?_;rintro e w' ⟨u,rfl,hg2,hr2,hb2⟩))
 go_ret
 exact⟨_,rfl,hg1.trans hg2,hr2,hb2⟩
def Gc(P:Program)(f:FuncId)(e m:Nat)(es es':List (List Tr)):Prop:=
 ∀(w:World) (v:Value),cP w (fun _=>False) bz (.arr e m es.length es) v->Calls P f #[v] w fun en w'=> ∃u,en= .returned u/\dA (fun g=>cN v=some g) w w'/\cP w' (fun _=>False) bz (.arr e m es'.length es') u/\ ∀g,cN u=some g->cN v=some g
section
variable {P : Program} {tb : Tb} {ops : Array Oper} {o : Oper} {c : Cx} {S : Nat -> Prop} {β : Nat -> Value} {σ : SS} {a : Act} {w : World}
theorem S4{f:FuncId}{e m d n n' d0:Nat}{es es':List (List Tr)}(he:dH P f)(hc:Gc P f e m es es')(hfl:tA es)(hfl':tA es'){fo s:Operand}{args:Array Operand}{ts:Array TypeId}(ho:o.op= .call {callee:= .value fo,args:=args,argTypes:=ts})(hargs:args= #[s])(hdst:o.dst=some d0)(hn:es.length=n)(hn':es'.length=n')(hgd:gd ops σ o=some true:=by kernel_rfl)(hd0:T8 d0 σ.n=true:=by kernel_rfl)(hfo:ev σ fo=some (.clo f []):=by kernel_rfl)(hs:ev σ s=some (.own d):=by kernel_rfl)(hdn:T8 d σ.n=true:=by kernel_rfl)(hob:find d σ.o=some (.arr e m n es):=by kernel_rfl)(hf:(σ.kill d).names.contains d0=false:=by kernel_rfl):
  af P ops o σ ((σ.kill d).add d0 (.own d0) (.arr e m n' es')):=by
 have hd0:d0<σ.n:=by simpa using hd0
 have hdn:d<σ.n:=by simpa using hdn
 have hf:d0∉(σ.kill d).names:=by simpa using hf
 subst hargs hn hn';refine tL hgd fun c S β a w hr=> ?_;have hv:=bD hr hs;have hfv:=bD hr hfo;have hmem:=aJ hob;have hobj:=hr.obj d _ hmem;generalize hsv:a.eval s=sv at hv;generalize hfe:a.eval fo=fv at hfv;cases hv with
 | own d=>
 cases hfv with
 | clo f caps vs hvl hvh=>
  have hvs:vs= #[]:=UQ (by simpa using hvl.symm);subst hvs;have hrun:(execOp a.eval o).run P w= .ok (.enter f #[β d]) w:=by
   simp only[execOp,ho,resolve,hfe,Deferred.ofValue,Sem.run_bind,Sem.run_pure,Result.andThen_ok,invoke];have:=he (#[]++ #[s].map a.eval++ #[]) w;simp only[WK,UK,VC,hsv,Array.append_empty,Array.empty_append]at this⊢;exact this
  have hobF:cP w (fun _=>False) bz (.arr e m es.length es) (β d):=((hobj.free (S':=fun _=>False) hfl).agree fun k hk=>by simp[SO.names]at hk);unfold Oper.wp;rw[hrun];refine(hc w (β d) hobF).mono fun en w' ⟨u,hen,hg,hou,hbl⟩=> ?_;subst hen;rw[hdst];have hpriv: ∀g,cN (β d)=some g-> ¬S g/\c.w0.heap.size<=g:=fun g hgb=>by
   obtain⟨q1,q2⟩:=hr.priv d _ g hmem hgb;rcases q2 with⟨_,q2⟩ | ⟨q2,_⟩
   ·exact⟨q1,q2⟩
   ·omega
  have hkeepS: ∀b,S b->w'.heap[b]? =w.heap[b]? :=fun b hb=>hg.block b (hr.lt b hb) fun e=>(hpriv b e).1 hb;have hob': ∀{k x},(k,x)∈σ.o->k≠d-> ∀b,x.ba w (β k) b->w'.heap[b]? =w.heap[b]? :=fun{k x} hk hne b hb=>hg.block b ((hr.obj k x hk).lt hb) fun e=>hne (hr.apart k x d _ b hk hmem hb (rf e));have hof: ∀{k x},(k,x)∈σ.o->k≠d-> ∀{b},x.ba w' (β k) b->x.ba w (β k) b:=fun{k x} hk hne {b} hb=>((hr.obj k x hk).ba (hob' hk hne)).1 hb;have hrk:Rel c S β (σ.kill d) a w':=by
   refine⟨hr.defers,hr.size,hr.one,hr.grew.of hg (fun g hgb hlt=> ?_),hr.s0,hr.s1,fun b hb=>Ud (hr.lt b hb) hg.size,fun i y hi=>⟨(hr.tmp i y (se hi)).1,(hr.tmp i y (se hi)).2.keep hkeepS fun _ h=>h⟩,fun k y hk=> ?_,fun j u hj=>⟨(hr.pin j u hj).1,fun y hy=>(hr.pin j u hj).2 y (bE hy).1⟩,fun k y g hk hgb=>hr.priv k y g (bE hk).1 (hof (bE hk).1 (bE hk).2 hgb),fun k y k' y' g hk hk' h h'=>hr.apart k y k' y' g (bE hk).1 (bE hk').1 (hof (bE hk).1 (bE hk).2 h) (hof (bE hk').1 (bE hk').2 h')⟩
   ·have:=(hpriv g hgb).2;omega
   ·refine(hr.obj k y (bE hk).1).keep (fun b hb=> ?_) fun _ h=>h;rcases hb with hb | hb
    ·exact hkeepS b hb
    ·exact hob' (bE hk).1 (bE hk).2 b hb
  have hv1:u.cells= #[u]:=by
   cases hou with
   | arr _ _ _ _ _ xs hn hown he hh=>rcases hown.2 with⟨h,_⟩ | ⟨g,cap,cur,h,_⟩<;>rw[h]<;>rfl
  have hnew:cP w' S (kt β d0 u) (.arr e m es'.length es') u:=(hou.free (S':=S) hfl').agree fun k hk=>by simp[SO.names]at hk
  refine⟨S,_,Rel.put (Rel.new hrk hf hd0 hv1 hnew fun g hgb=> ?_) hd0 ?_⟩
  ·have h:=hbl g hgb;exact⟨(hpriv g h).1,(hpriv g h).2,fun d' x' hm' e=>(bE hm').2 (hr.apart d' x' d _ g (bE hm').1 hmem (hof (bE hm').1 (bE hm').2 e) (rf h))⟩
  ·have:cT w' S (kt β d0 u) (.own d0) (kt β d0 u d0):= .own d0
   rwa [cy]at this
end
theorem O3{w:World}{S:Nat->Prop}{β:Nat->Value}{e:Nat}{v:Value}{L:List ByteArray}(h:Bw w e v L)(hs: ∀s∈L,s.size<=maxLen):cP w S β (.arr e 1 (L.map eS).length (L.map eS)) v:=by
 unfold Bw at h;rw[TM];refine .arr _ _ _ _ _ _ (by simp) h (fun x hx=> ?_) (fun i x j t u h1 h2 h3=> ?_)
 ·obtain⟨y,_,rfl⟩:=TF.1 hx;rfl
 ·rw[Tq,Tn]at h1;obtain⟨y,hy,rfl⟩:=h1;cases j with
  | zero=>
   injection h2 with h2;subst h2;rw[VG,Uw,Tq,hy]at h3;injection h3 with h3;subst h3;exact .str y (hs y (Tm hy))
  | succ j=>cases h2
theorem R1{w:World}{S:Nat->Prop}{s:ByteArray}{v:Value}(h:TV w S (.str s) v):v= .string s/\s.size<=maxLen:=by
 cases h with
 | str _ h=>exact⟨rfl,h⟩
theorem OG{w:World}{S:Nat->Prop}{β:Nat->Value}{e:Nat}{v:Value}{L:List ByteArray}(h:cP w S β (.arr e 1 (L.map eS).length (L.map eS)) v):Bw w e v L/\ ∀s∈L,s.size<=maxLen:=by
 generalize hes:L.map eS=es at h;generalize hln:es.length=n at h;cases h with
 | arr _ _ _ _ v xs hn2 hown he hh=>
  have hLn:L.length=n:=by rw[<-hln,<-hes,TM]
  have hat: ∀(i:Nat) s u,L[i]? =some s->xs[i]? =some u->u= .string s/\s.size<=maxLen:=fun i s u h1 h2=>by
   have h3:es[i]? =some [.str s]:=by rw[<-hes,Tq,h1];rfl
   exact R1 (hh i _ 0 _ u h3 rfl (by simpa using h2))
  have hxl:xs.length=L.length:=by rw[hown.1];omega
  have hxs:xs=L.map Value.string:=List.ext_getElem? fun i=>by
   by_cases hi:i<L.length
   ·rw[Tk (by omega),Tq,Tk hi,(hat i _ _ (Tk hi) (Tk (by omega))).1];rfl
   ·rw[UZ (by omega),UZ (by simp;omega)]
  subst hxs;refine⟨by unfold Bw;rw[hLn];exact hown,fun s hs=> ?_⟩;obtain⟨i,hi,rfl⟩:=List.mem_iff_getElem.1 hs;exact(hat i _ _ (Tk hi) (Tk (by omega))).2
theorem G7{L:List ByteArray}{s:ByteArray}(h:s∈gR L):s∈L:=by
 unfold gR A6 at h;obtain⟨l,hl,rfl⟩:=TF.1 h;unfold Lib.compact Lib.compactUpTo at hl;obtain⟨j,hj,rfl⟩:=TF.1 hl;rw[Tu,List.mem_range]at hj;have hj':j<((pK L).map fun s=>s.data.toList).toArray.size:=by simpa using hj.1
 rw[getElem!_pos _ j hj'];have h2:j<(pK L).length:=by simpa using hj.1
 have:(pK L)[j]∈L:=AI.1 (Uo h2);simpa using this
def nU(L:List ByteArray):Option (List ByteArray):=if L.length<=1000000000 then some (gR L)else none
theorem K4{ρ ρ':Ren}(Ly:Lays.n190 WW ρ)(hk:ρ.f 190=325)(Lc:Lays.n194 WW ρ')(hk':ρ'.f 194=326)(e:Nat)(L r:List ByteArray)(h:nU L=some r):Gc WW 266 e 1 (L.map eS) (r.map eS):=by
 unfold nU at h;split at h
 ·rename_i hL;injection h with h;subst h;intro w v ho;obtain⟨h1,h2⟩:=OG ho;refine(K3 Ly hk Lc hk' e w v L hL h1).mono fun en w' ⟨u,h3,h4,h5,h6⟩=>⟨u,h3,h4,O3 h5 fun s hs=>h2 s (G7 hs),h6⟩
 ·cases h
