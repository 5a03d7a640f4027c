/- Sizes, copies, comparisons and marks of the laws' types; bounds on lengths alone. -/
import Derived.Test.YtdejeagdkfokfaaGreatDoorQA
import Derived.Test.YtdejeagdkfokfaaGreatDoorRD
import Derived.Test.YtdejeagdkfokfaaGreatDoorGE
namespace Go.Proofs.YtdejeagdkfokfaaGreatDoor.Sh
open Go.RowKit Go.Lib
theorem yj{α:Type}{c:α→Nat}(L:List α)(h: ∀x,1≤c x):L.length≤dg c L:=by
 induction L with
 | nil=>simp[dg]
 | cons x l ih=>have:=h x;unfold dg;simp only[List.length_cons];omega
theorem vI{k:Int}(h0:1≤k)(h1:k≤1000000000000001): ∃t,a6 k=some t:=by
 unfold a6
 rw[decide_eq_false (show ¬k≤0 by omega),cond_false]
 obtain⟨r,e,hr⟩:=vC (body:=fun(s3:Int×ByteArray)=>(bif(decide (s3.1>0))then((tt (strOfNums ([(IntKind.wrap .u8 (aO (48+(Int.tmod s3.1 10))))]:List Int)) s3.2).bind fun x5=>some (.inl ((aO (Int.tdiv s3.1 10)),x5)))else some (.inr s3.2)))
  (fun s=>0≤s.1∧s.1≤1000000000000001∧(s.2.size:Int)+s.1≤1000000000000001) (fun s=>s.1.toNat) (fun r:ByteArray=>(r.size:Int)≤1000000000000001) (fun s hs=>by
   obtain⟨h2,h3,h4⟩:=hs
   by_cases hp:s.1>0
   ·left
    rw[decide_eq_true hp,cond_true,Int.tdiv_eq_ediv_of_nonneg h2,bq (n:=s.1/10) (by omega) (by omega)]
    unfold tt
    rw[if_pos (by rw[strOfNums_size];simp;omega)]
    refine⟨_,rfl,?_⟩
    dsimp only
    rw[ByteArray.size_append,strOfNums_size]
    simp
    omega
   ·right
    rw[decide_eq_false hp,cond_false]
    exact⟨_,rfl,by omega⟩) (s:=(k,ByteArray.mk #[])) ⟨by dsimp only;omega,h1,by show((0:Nat):Int)+k≤_;omega⟩
 rw[e,Option.bind_some]
 unfold tt
 rw[if_pos (by show 1+r.size≤_;omega)]
 exact⟨_,rfl⟩
noncomputable def mt(k:Int):ByteArray:=(a6 k).getD (ByteArray.mk #[])
theorem cJ{k:Int}(h0:1≤k)(h1:k≤1000000000000001):a6 k=some (mt k):=by
 obtain⟨t,h⟩:=vI h0 h1
 unfold mt
 rw[h]
 rfl
noncomputable abbrev Eh:Int→ByteArray→ByteArray:=fun k _=>mt k
structure uD (x:Name):Prop where
 s0:x.Text.size≤1048576
 s1:x.Language.size≤1048576
theorem y3(x:Name)(hx:uq x)(s:Int)(h0:0≤s)(h1:s≤1048576): ∃v,io x s=some v∧(v<0∨(0≤v∧v≤s∧uD x)):=by
 unfold io
 have z0:=hx.Text
 unfold maxLen at z0
 rw[bq (n:=s -(x.Text.size:Int)) (by omega) (by omega)]
 by_cases c0:s -(x.Text.size:Int)<0
 ·rw[decide_eq_true c0]
  exact⟨_,rfl,.inl (by omega)⟩
 rw[decide_eq_false c0,cond_false]
 have z1:=hx.Language
 unfold maxLen at z1
 rw[bq (n:=s -(x.Text.size:Int)-(x.Language.size:Int)) (by omega) (by omega)]
 by_cases c1:s -(x.Text.size:Int)-(x.Language.size:Int)<0
 ·rw[decide_eq_true c1]
  exact⟨_,rfl,.inl (by omega)⟩
 rw[decide_eq_false c1,cond_false]
 exact⟨_,rfl,.inr ⟨by omega,by omega,⟨by omega,by omega⟩⟩⟩
theorem pE(x:Span):fY x=some x:=by
 unfold fY
 rfl
theorem mg(x:Span):fU x x=some true:=by
 unfold fU
 simp
theorem y5(x:Name):ir x=some x:=by
 unfold ir
 simp only[pE x.Years,Option.bind_some]
theorem vo(x:Name):il x x=some true:=by
 unfold il
 simp[mg x.Years]
noncomputable def ra(k:Int)(_:Name):Name:=Name.mk (mt k) (mt (k+1)) (k+2) (Span.mk (k+3) (k+4))
abbrev fR:Name→Nat:=fun _=>5
theorem ui(L:List Name)(k:Int)(h1:1≤k)(h2:k+dg fR L≤1000000000000000)(h3:L.length≤1000000000000000):eF L k=some (k+dg fR L,er ra fR k L):=by
 unfold eF
 refine mK ra fR L k h1 h2 h3 fun k i L x h1 h2 hl hx=> ?_
 have h2':k+(5:Nat)≤1000000000000000:=h2
 have hi:=(List.getElem?_eq_some_iff.1 hx).1
 have e1:aO (k+1)=k+1:=bq (by omega) (by omega)
 have e2:aO (k+1+1)=k+2:=by rw[bq (by omega) (by omega)];omega
 have e3:aO (k+2+1)=k+3:=by rw[bq (by omega) (by omega)];omega
 have e4:aO (k+3+1)=k+4:=by rw[bq (by omega) (by omega)];omega
 have e5:aO (k+4+1)=k+5:=by rw[bq (by omega) (by omega)];omega
 have m0:a6 k=some (mt k):=cJ (by omega) (by omega)
 have m1:a6 (k+1)=some (mt (k+1)):=cJ (by omega) (by omega)
 simp only[m0,m1,e1,e2,e3,e4,e5,bk,hx,Option.bind_some,Int.toNat_natCast,List.set_set,List.getElem?_set_self hi]
 rfl
theorem ub(L:List Name)(k:Int)(h1:1≤k)(h2:k+dg fR L≤1000000000000000)(h3:L.length≤1000000000000000):eC (er ra fR k L) k=some (k+dg fR L):=by
 unfold eC
 refine o2 ra fR h3 k h1 h2 fun i k x h1 h2 hx=> ?_
 have h2':k+(5:Nat)≤1000000000000000:=h2
 have e1:aO (k+1)=k+1:=bq (by omega) (by omega)
 have e2:aO (k+1+1)=k+2:=by rw[bq (by omega) (by omega)];omega
 have e3:aO (k+2+1)=k+3:=by rw[bq (by omega) (by omega)];omega
 have e4:aO (k+3+1)=k+4:=by rw[bq (by omega) (by omega)];omega
 have e5:aO (k+4+1)=k+5:=by rw[bq (by omega) (by omega)];omega
 have m0:a6 k=some (mt k):=cJ (by omega) (by omega)
 have m1:a6 (k+1)=some (mt (k+1)):=cJ (by omega) (by omega)
 simp only[m0,m1,e1,e2,e3,e4,e5,bk,hx,Option.bind_some]
 simp only[ra,bne_self_eq_false,cond_false,Option.bind_some,beq_self_eq_true,Bool.not_true,e1,e2,e3,e4,e5,m0,m1]
 try rfl
theorem xg(L:List Name)(hL:L.length≤maxLen∧ ∀x∈L,uq x)(l:Int)(h0:0≤l)(h1:l≤1048576): ∃v,iN L l=some v∧(v<0∨(0≤v∧v≤l∧(L.length:Int)≤l∧ ∀x∈L,uD x)):=by
 unfold iN
 exact qN hL.1 io uD (fun x hx s h0 h1=>y3 x (hL.2 x hx) s h0 h1) l h0 h1
theorem xm(L:List Name)(hL:L.length≤1048576):iP L=some L:=by
 unfold iP
 exact mG hL ir (fun x _=>y5 x) _
theorem tQ(L:List Name)(hL:L.length≤1000000000):iL L L=some true:=by
 unfold iL
 exact qC hL il (fun x _=>vo x)
structure iR (x:Place):Prop where
 s0:x.Code.size≤1048576
 s4:x.Names.length≤1048576
 i4: ∀y∈x.Names,uD y
theorem xh(x:Place)(hx:qH x)(s:Int)(h0:0≤s)(h1:s≤1048576): ∃v,gx x s=some v∧(v<0∨(0≤v∧v≤s∧iR x)):=by
 unfold gx
 have z0:=hx.Code
 unfold maxLen at z0
 rw[bq (n:=s -(x.Code.size:Int)) (by omega) (by omega)]
 by_cases c0:s -(x.Code.size:Int)<0
 ·rw[decide_eq_true c0]
  exact⟨_,rfl,.inl (by omega)⟩
 rw[decide_eq_false c0,cond_false]
 obtain⟨v1,g1,z1⟩:=xg x.Names hx.Names (s -(x.Code.size:Int)) (by omega) (by omega)
 rw[g1,Option.bind_some]
 by_cases c1:v1<0
 ·rw[decide_eq_true c1]
  exact⟨_,rfl,.inl (by omega)⟩
 rw[decide_eq_false c1,cond_false]
 replace z1:=z1.resolve_left c1
 exact⟨_,rfl,.inr ⟨by omega,by omega,⟨by omega,by have:=z1.2.2.1;omega,z1.2.2.2⟩⟩⟩
theorem xn(x:Place)(h:iR x):gz x=some x:=by
 unfold gz
 simp only[pE x.Years,xm x.Names h.s4,Option.bind_some]
theorem tR(x:Place)(h:iR x):gv x x=some true:=by
 unfold gv
 simp[mg x.Years,tQ x.Names (by have:=h.s4;omega)]
noncomputable def oY(k:Int)(x:Place):Place:=Place.mk (mt k) (k+1) (Span.mk (k+2) (k+3)) (er ra fR (k+4) x.Names)
abbrev je:Place→Nat:=fun x=>4+dg fR x.Names
theorem sB(L:List Place)(k:Int)(h1:1≤k)(h2:k+dg je L≤1000000000000000)(h3:L.length≤1000000000000000):fk L k=some (k+dg je L,er oY je k L):=by
 unfold fk
 refine mK oY je L k h1 h2 h3 fun k i L x h1 h2 hl hx=> ?_
 have h2':k+((4+dg fR x.Names:Nat):Int)≤1000000000000000:=h2
 have hi:=(List.getElem?_eq_some_iff.1 hx).1
 have e1:aO (k+1)=k+1:=bq (by omega) (by omega)
 have e2:aO (k+1+1)=k+2:=by rw[bq (by omega) (by omega)];omega
 have e3:aO (k+2+1)=k+3:=by rw[bq (by omega) (by omega)];omega
 have e4:aO (k+3+1)=k+4:=by rw[bq (by omega) (by omega)];omega
 have m0:a6 k=some (mt k):=cJ (by omega) (by omega)
 have hc:=yj (c:=fR) x.Names (fun _=>by simp[fR])
 have n0:eF x.Names (k+4)=_:=ui x.Names (k+4) (by omega) (by omega) (by omega)
 simp only[m0,e1,e2,e3,e4,bk,hx,Option.bind_some,Int.toNat_natCast,List.set_set,List.getElem?_set_self hi,n0]
 rw[show k+4+((dg fR x.Names:Nat):Int)=k+((4+dg fR x.Names:Nat):Int)from by omega]
 rfl
theorem rY(L:List Place)(hl:L.length≤1048576)(h: ∀x∈L,iR x):dg je L≤10000000000000:=by
 have h1:=oS (c:=je) (C:=5242884) (L:=L) (fun x hx=>by
  have h2:=oS (c:=fR) (C:=5) (L:=x.Names) (fun _ _=>Nat.le_refl _)
  have:=(h x hx).s4
  show 4+dg fR x.Names≤_
  omega)
 omega
theorem su(L:List Place)(k:Int)(h1:1≤k)(h2:k+dg je L≤1000000000000000)(h3:L.length≤1000000000000000):fj (er oY je k L) k=some (k+dg je L):=by
 unfold fj
 refine o2 oY je h3 k h1 h2 fun i k x h1 h2 hx=> ?_
 have h2':k+((4+dg fR x.Names:Nat):Int)≤1000000000000000:=h2
 have e1:aO (k+1)=k+1:=bq (by omega) (by omega)
 have e2:aO (k+1+1)=k+2:=by rw[bq (by omega) (by omega)];omega
 have e3:aO (k+2+1)=k+3:=by rw[bq (by omega) (by omega)];omega
 have e4:aO (k+3+1)=k+4:=by rw[bq (by omega) (by omega)];omega
 have m0:a6 k=some (mt k):=cJ (by omega) (by omega)
 have hc:=yj (c:=fR) x.Names (fun _=>by simp[fR])
 have n0:eC (er ra fR (k+4) x.Names) (k+4)=_:=ub x.Names (k+4) (by omega) (by omega) (by omega)
 simp only[m0,e1,e2,e3,e4,bk,hx,Option.bind_some]
 simp only[oY,bne_self_eq_false,cond_false,Option.bind_some,beq_self_eq_true,Bool.not_true,e1,e2,e3,e4,m0]
 rw[n0,Option.bind_some,decide_eq_false (by omega),cond_false]
 rw[show k+4+((dg fR x.Names:Nat):Int)=k+((4+dg fR x.Names:Nat):Int)from by omega]
theorem wb(L:List Place)(hL:L.length≤maxLen∧ ∀x∈L,qH x)(l:Int)(h0:0≤l)(h1:l≤1048576): ∃v,gO L l=some v∧(v<0∨(0≤v∧v≤l∧(L.length:Int)≤l∧ ∀x∈L,iR x)):=by
 unfold gO
 exact qN hL.1 gx iR (fun x hx s h0 h1=>xh x (hL.2 x hx) s h0 h1) l h0 h1
theorem wo(L:List Place)(hL:L.length≤1048576)(h: ∀x∈L,iR x):fF L=some L:=by
 unfold fF
 exact mG hL gz (fun x hx=>xn x (h x hx)) _
theorem sn(L:List Place)(hL:L.length≤1000000000)(h: ∀x∈L,iR x):gN L L=some true:=by
 unfold gN
 exact qC hL gv (fun x hx=>tR x (h x hx))
structure rN (x:ax):Prop where
 s0:x.Child.size≤1048576
 s1:x.Parent.size≤1048576
theorem yZ(x:ax)(hx:uo x)(s:Int)(h0:0≤s)(h1:s≤1048576): ∃v,im x s=some v∧(v<0∨(0≤v∧v≤s∧rN x)):=by
 unfold im
 have z0:=hx.Child
 unfold maxLen at z0
 rw[bq (n:=s -(x.Child.size:Int)) (by omega) (by omega)]
 by_cases c0:s -(x.Child.size:Int)<0
 ·rw[decide_eq_true c0]
  exact⟨_,rfl,.inl (by omega)⟩
 rw[decide_eq_false c0,cond_false]
 have z1:=hx.Parent
 unfold maxLen at z1
 rw[bq (n:=s -(x.Child.size:Int)-(x.Parent.size:Int)) (by omega) (by omega)]
 by_cases c1:s -(x.Child.size:Int)-(x.Parent.size:Int)<0
 ·rw[decide_eq_true c1]
  exact⟨_,rfl,.inl (by omega)⟩
 rw[decide_eq_false c1,cond_false]
 exact⟨_,rfl,.inr ⟨by omega,by omega,⟨by omega,by omega⟩⟩⟩
theorem y4(x:ax):iq x=some x:=by
 unfold iq
 simp only[pE x.Years,Option.bind_some]
theorem vn(x:ax):ik x x=some true:=by
 unfold ik
 simp[mg x.Years]
noncomputable def sS(k:Int)(_:ax):ax:=ax.mk (mt k) (mt (k+1)) (Span.mk (k+2) (k+3))
abbrev lQ:ax→Nat:=fun _=>4
theorem uh(L:List ax)(k:Int)(h1:1≤k)(h2:k+dg lQ L≤1000000000000000)(h3:L.length≤1000000000000000):fW L k=some (k+dg lQ L,er sS lQ k L):=by
 unfold fW
 refine mK sS lQ L k h1 h2 h3 fun k i L x h1 h2 hl hx=> ?_
 have h2':k+(4:Nat)≤1000000000000000:=h2
 have hi:=(List.getElem?_eq_some_iff.1 hx).1
 have e1:aO (k+1)=k+1:=bq (by omega) (by omega)
 have e2:aO (k+1+1)=k+2:=by rw[bq (by omega) (by omega)];omega
 have e3:aO (k+2+1)=k+3:=by rw[bq (by omega) (by omega)];omega
 have e4:aO (k+3+1)=k+4:=by rw[bq (by omega) (by omega)];omega
 have m0:a6 k=some (mt k):=cJ (by omega) (by omega)
 have m1:a6 (k+1)=some (mt (k+1)):=cJ (by omega) (by omega)
 simp only[m0,m1,e1,e2,e3,e4,bk,hx,Option.bind_some,Int.toNat_natCast,List.set_set,List.getElem?_set_self hi]
 rfl
theorem sL(L:List ax)(hl:L.length≤1048576)(_: ∀x∈L,rN x):dg lQ L≤10000000000000:=by
 have h1:=oS (c:=lQ) (C:=4) (L:=L) (fun _ _=>Nat.le_refl _)
 omega
theorem ua(L:List ax)(k:Int)(h1:1≤k)(h2:k+dg lQ L≤1000000000000000)(h3:L.length≤1000000000000000):fV (er sS lQ k L) k=some (k+dg lQ L):=by
 unfold fV
 refine o2 sS lQ h3 k h1 h2 fun i k x h1 h2 hx=> ?_
 have h2':k+(4:Nat)≤1000000000000000:=h2
 have e1:aO (k+1)=k+1:=bq (by omega) (by omega)
 have e2:aO (k+1+1)=k+2:=by rw[bq (by omega) (by omega)];omega
 have e3:aO (k+2+1)=k+3:=by rw[bq (by omega) (by omega)];omega
 have e4:aO (k+3+1)=k+4:=by rw[bq (by omega) (by omega)];omega
 have m0:a6 k=some (mt k):=cJ (by omega) (by omega)
 have m1:a6 (k+1)=some (mt (k+1)):=cJ (by omega) (by omega)
 simp only[m0,m1,e1,e2,e3,e4,bk,hx,Option.bind_some]
 simp only[sS,bne_self_eq_false,cond_false,Option.bind_some,beq_self_eq_true,Bool.not_true,e1,e2,e3,e4,m0,m1]
 try rfl
theorem xf(L:List ax)(hL:L.length≤maxLen∧ ∀x∈L,uo x)(l:Int)(h0:0≤l)(h1:l≤1048576): ∃v,iM L l=some v∧(v<0∨(0≤v∧v≤l∧(L.length:Int)≤l∧ ∀x∈L,rN x)):=by
 unfold iM
 exact qN hL.1 im rN (fun x hx s h0 h1=>yZ x (hL.2 x hx) s h0 h1) l h0 h1
theorem xl(L:List ax)(hL:L.length≤1048576):gy L=some L:=by
 unfold gy
 exact mG hL iq (fun x _=>y4 x) _
theorem tP(L:List ax)(hL:L.length≤1000000000):iK L L=some true:=by
 unfold iK
 exact qC hL ik (fun x _=>vn x)
structure lN (x:World):Prop where
 s0:x.Places.length≤1048576
 s1:x.Links.length≤1048576
 i0: ∀y∈x.Places,iR y
 i1: ∀y∈x.Links,rN y
theorem xi(x:World)(hx:uu x)(s:Int)(h0:0≤s)(h1:s≤1048576): ∃v,iO x s=some v∧(v<0∨(0≤v∧v≤s∧lN x)):=by
 unfold iO
 obtain⟨v0,g0,z0⟩:=wb x.Places hx.Places (s) (by omega) (by omega)
 rw[g0,Option.bind_some]
 by_cases c0:v0<0
 ·rw[decide_eq_true c0]
  exact⟨_,rfl,.inl (by omega)⟩
 rw[decide_eq_false c0,cond_false]
 replace z0:=z0.resolve_left c0
 obtain⟨v1,g1,z1⟩:=xf x.Links hx.Links (v0) (by omega) (by omega)
 rw[g1,Option.bind_some]
 by_cases c1:v1<0
 ·rw[decide_eq_true c1]
  exact⟨_,rfl,.inl (by omega)⟩
 rw[decide_eq_false c1,cond_false]
 replace z1:=z1.resolve_left c1
 exact⟨_,rfl,.inr ⟨by omega,by omega,⟨by have:=z0.2.2.1;omega,by have:=z1.2.2.1;omega,z0.2.2.2,z1.2.2.2⟩⟩⟩
theorem xo(x:World)(h:lN x):gA x=some x:=by
 unfold gA
 simp only[wo x.Places h.s0 h.i0,xl x.Links h.s1,Option.bind_some]
theorem n9(x:World)(h:lN x):ec x x=some true:=by
 unfold ec
 simp[sn x.Places (by have:=h.s0;omega) h.i0,tP x.Links (by have:=h.s1;omega)]
structure my (x:Change):Prop where
 s2:x.Code.size≤1048576
 s3:x.Other.size≤1048576
 s4:x.Language.size≤1048576
 s5:x.Text.size≤1048576
theorem wa(x:Change)(hx:oC x)(s:Int)(h0:0≤s)(h1:s≤1048576): ∃v,fD x s=some v∧(v<0∨(0≤v∧v≤s∧my x)):=by
 unfold fD
 have z0:=hx.Code
 unfold maxLen at z0
 rw[bq (n:=s -(x.Code.size:Int)) (by omega) (by omega)]
 by_cases c0:s -(x.Code.size:Int)<0
 ·rw[decide_eq_true c0]
  exact⟨_,rfl,.inl (by omega)⟩
 rw[decide_eq_false c0,cond_false]
 have z1:=hx.Other
 unfold maxLen at z1
 rw[bq (n:=s -(x.Code.size:Int)-(x.Other.size:Int)) (by omega) (by omega)]
 by_cases c1:s -(x.Code.size:Int)-(x.Other.size:Int)<0
 ·rw[decide_eq_true c1]
  exact⟨_,rfl,.inl (by omega)⟩
 rw[decide_eq_false c1,cond_false]
 have z2:=hx.Language
 unfold maxLen at z2
 rw[bq (n:=s -(x.Code.size:Int)-(x.Other.size:Int)-(x.Language.size:Int)) (by omega) (by omega)]
 by_cases c2:s -(x.Code.size:Int)-(x.Other.size:Int)-(x.Language.size:Int)<0
 ·rw[decide_eq_true c2]
  exact⟨_,rfl,.inl (by omega)⟩
 rw[decide_eq_false c2,cond_false]
 have z3:=hx.Text
 unfold maxLen at z3
 rw[bq (n:=s -(x.Code.size:Int)-(x.Other.size:Int)-(x.Language.size:Int)-(x.Text.size:Int)) (by omega) (by omega)]
 by_cases c3:s -(x.Code.size:Int)-(x.Other.size:Int)-(x.Language.size:Int)-(x.Text.size:Int)<0
 ·rw[decide_eq_true c3]
  exact⟨_,rfl,.inl (by omega)⟩
 rw[decide_eq_false c3,cond_false]
 exact⟨_,rfl,.inr ⟨by omega,by omega,⟨by omega,by omega,by omega,by omega⟩⟩⟩
theorem wm(x:Change):fE x=some x:=by
 unfold fE
 rfl
theorem sk(x:Change):fC x x=some true:=by
 unfold fC
 simp
noncomputable def xR(k:Int)(_:Change):Change:=Change.mk k (k+1) (mt (k+2)) (mt (k+3)) (mt (k+4)) (mt (k+5))
abbrev lA:Change→Nat:=fun _=>6
theorem rB(L:List Change)(k:Int)(h1:1≤k)(h2:k+dg lA L≤1000000000000000)(h3:L.length≤1000000000000000):eE L k=some (k+dg lA L,er xR lA k L):=by
 unfold eE
 refine mK xR lA L k h1 h2 h3 fun k i L x h1 h2 hl hx=> ?_
 have h2':k+(6:Nat)≤1000000000000000:=h2
 have hi:=(List.getElem?_eq_some_iff.1 hx).1
 have e1:aO (k+1)=k+1:=bq (by omega) (by omega)
 have e2:aO (k+1+1)=k+2:=by rw[bq (by omega) (by omega)];omega
 have e3:aO (k+2+1)=k+3:=by rw[bq (by omega) (by omega)];omega
 have e4:aO (k+3+1)=k+4:=by rw[bq (by omega) (by omega)];omega
 have e5:aO (k+4+1)=k+5:=by rw[bq (by omega) (by omega)];omega
 have e6:aO (k+5+1)=k+6:=by rw[bq (by omega) (by omega)];omega
 have m2:a6 (k+2)=some (mt (k+2)):=cJ (by omega) (by omega)
 have m3:a6 (k+3)=some (mt (k+3)):=cJ (by omega) (by omega)
 have m4:a6 (k+4)=some (mt (k+4)):=cJ (by omega) (by omega)
 have m5:a6 (k+5)=some (mt (k+5)):=cJ (by omega) (by omega)
 simp only[m2,m3,m4,m5,e1,e2,e3,e4,e5,e6,bk,hx,Option.bind_some,Int.toNat_natCast,List.set_set,List.getElem?_set_self hi]
 rfl
theorem qz(L:List Change)(hl:L.length≤1048576)(_: ∀x∈L,my x):dg lA L≤10000000000000:=by
 have h1:=oS (c:=lA) (C:=6) (L:=L) (fun _ _=>Nat.le_refl _)
 omega
theorem uH(L:List Change)(hL:L.length≤maxLen∧ ∀x∈L,oC x)(l:Int)(h0:0≤l)(h1:l≤1048576): ∃v,fX L l=some v∧(v<0∨(0≤v∧v≤l∧(L.length:Int)≤l∧ ∀x∈L,my x)):=by
 unfold fX
 exact qN hL.1 fD my (fun x hx s h0 h1=>wa x (hL.2 x hx) s h0 h1) l h0 h1
theorem uI(L:List Change)(hL:L.length≤1048576):dk L=some L:=by
 unfold dk
 exact mG hL fE (fun x _=>wm x) _
theorem q9(L:List Change)(hL:L.length≤1000000000):fT L L=some true:=by
 unfold fT
 exact qC hL fC (fun x _=>sk x)
end Go.Proofs.YtdejeagdkfokfaaGreatDoor.Sh
