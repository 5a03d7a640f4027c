/- Sizes, copies, comparisons and marks of the laws' types; bounds on lengths alone. -/
import Derived.Test.YtdejeagdkfokfaaGreatDoorQA
import Derived.Test.YtdejeagdkfokfaaGreatDoorRD
import Derived.Test.YtdejeagdkfokfaaGreatDoorGE
namespace Go.Proofs.YtdejeagdkfokfaaGreatDoor.Sh
open Go.RowKit Go.Lib
theorem xy{α:Type}{c:α→Nat}(L:List α)(h: ∀x,1≤c x):L.length≤du c L:=by
 induction L with
 | nil=>simp[du]
 | cons x l ih=>have:=h x;unfold du;simp only[List.length_cons];omega
theorem u4{k:Int}(h0:1≤k)(h1:k≤1000000000000001): ∃t,bh k=some t:=by
 unfold bh
 rw[decide_eq_false (show ¬k≤0 by omega),cond_false]
 obtain⟨r,e,hr⟩:=uU (body:=fun(s3:Int×ByteArray)=>(bif(decide (s3.1>0))then((sE (strOfNums ([(IntKind.wrap .u8 (aJ (48+(Int.tmod s3.1 10))))]:List Int)) s3.2).bind fun x5=>some (.inl ((aJ (Int.tdiv s3.1 10)),x5)))else some (.inr s3.2)))
  (fun s=>0≤s.1∧s.1≤1000000000000001∧(s.2.size:Int)+s.1≤1000000000000001) (fun s=>s.1.toNat) (fun r:ByteArray=>(r.size:Int)≤1000000000000001) (fun s hs=>by
   obtain⟨h2,h3,h4⟩:=hs
   by_cases hp:s.1>0
   ·left
    rw[decide_eq_true hp,cond_true,Int.tdiv_eq_ediv_of_nonneg h2,bp (n:=s.1/10) (by omega) (by omega)]
    unfold sE
    rw[if_pos (by rw[strOfNums_size];simp;omega)]
    refine⟨_,rfl,?_⟩
    dsimp only
    rw[ByteArray.size_append,strOfNums_size]
    simp
    omega
   ·right
    rw[decide_eq_false hp,cond_false]
    exact⟨_,rfl,by omega⟩) (s:=(k,ByteArray.mk #[])) ⟨by dsimp only;omega,h1,by show((0:Nat):Int)+k≤_;omega⟩
 rw[e,Option.bind_some]
 unfold sE
 rw[if_pos (by show 1+r.size≤_;omega)]
 exact⟨_,rfl⟩
noncomputable def mt(k:Int):ByteArray:=(bh k).getD (ByteArray.mk #[])
theorem dG{k:Int}(h0:1≤k)(h1:k≤1000000000000001):bh k=some (mt k):=by
 obtain⟨t,h⟩:=u4 h0 h1
 unfold mt
 rw[h]
 rfl
noncomputable abbrev DA:Int→ByteArray→ByteArray:=fun k _=>mt k
structure tP (x:Name):Prop where
 s0:x.Text.size≤1048576
 s1:x.Language.size≤1048576
theorem yu(x:Name)(hx:tE x)(s:Int)(h0:0≤s)(h1:s≤1048576): ∃v,gY x s=some v∧(v<0∨(0≤v∧v≤s∧tP x)):=by
 unfold gY
 have z0:=hx.Text
 unfold maxLen at z0
 rw[bp (n:=s -(x.Text.size:Int)) (by omega) (by omega)]
 by_cases c0:s -(x.Text.size:Int)<0
 ·rw[decide_eq_true c0]
  exact⟨_,rfl,.inl (by omega)⟩
 rw[decide_eq_false c0,cond_false]
 have z1:=hx.Language
 unfold maxLen at z1
 rw[bp (n:=s -(x.Text.size:Int)-(x.Language.size:Int)) (by omega) (by omega)]
 by_cases c1:s -(x.Text.size:Int)-(x.Language.size:Int)<0
 ·rw[decide_eq_true c1]
  exact⟨_,rfl,.inl (by omega)⟩
 rw[decide_eq_false c1,cond_false]
 exact⟨_,rfl,.inr ⟨by omega,by omega,⟨by omega,by omega⟩⟩⟩
theorem o7(x:Span):fN x=some x:=by
 unfold fN
 rfl
theorem lW(x:Span):fK x x=some true:=by
 unfold fK
 simp
theorem yw(x:Name):hG x=some x:=by
 unfold hG
 simp only[o7 x.Years,Option.bind_some]
theorem uH(x:Name):gW x x=some true:=by
 unfold gW
 simp[lW x.Years]
noncomputable def qz(k:Int)(_:Name):Name:=Name.mk (mt k) (mt (k+1)) (k+2) (Span.mk (k+3) (k+4))
abbrev fI:Name→Nat:=fun _=>5
theorem tz(L:List Name)(k:Int)(h1:1≤k)(h2:k+du fI L≤1000000000000000)(h3:L.length≤1000000000000000):eC L k=some (k+du fI L,eE qz fI k L):=by
 unfold eC
 refine oP qz fI L k h1 h2 h3 fun k i L x h1 h2 hl hx=> ?_
 have h2':k+(5:Nat)≤1000000000000000:=h2
 have hi:=(List.getElem?_eq_some_iff.1 hx).1
 have e1:aJ (k+1)=k+1:=bp (by omega) (by omega)
 have e2:aJ (k+1+1)=k+2:=by rw[bp (by omega) (by omega)];omega
 have e3:aJ (k+2+1)=k+3:=by rw[bp (by omega) (by omega)];omega
 have e4:aJ (k+3+1)=k+4:=by rw[bp (by omega) (by omega)];omega
 have e5:aJ (k+4+1)=k+5:=by rw[bp (by omega) (by omega)];omega
 have m0:bh k=some (mt k):=dG (by omega) (by omega)
 have m1:bh (k+1)=some (mt (k+1)):=dG (by omega) (by omega)
 simp only[m0,m1,e1,e2,e3,e4,e5,bg,hx,Option.bind_some,Int.toNat_natCast,List.set_set,List.getElem?_set_self hi]
 rfl
theorem th(L:List Name)(k:Int)(h1:1≤k)(h2:k+du fI L≤1000000000000000)(h3:L.length≤1000000000000000):eA (eE qz fI k L) k=some (k+du fI L):=by
 unfold eA
 refine oy qz fI h3 k h1 h2 fun i k x h1 h2 hx=> ?_
 have h2':k+(5:Nat)≤1000000000000000:=h2
 have e1:aJ (k+1)=k+1:=bp (by omega) (by omega)
 have e2:aJ (k+1+1)=k+2:=by rw[bp (by omega) (by omega)];omega
 have e3:aJ (k+2+1)=k+3:=by rw[bp (by omega) (by omega)];omega
 have e4:aJ (k+3+1)=k+4:=by rw[bp (by omega) (by omega)];omega
 have e5:aJ (k+4+1)=k+5:=by rw[bp (by omega) (by omega)];omega
 have m0:bh k=some (mt k):=dG (by omega) (by omega)
 have m1:bh (k+1)=some (mt (k+1)):=dG (by omega) (by omega)
 simp only[m0,m1,e1,e2,e3,e4,e5,bg,hx,Option.bind_some]
 simp only[qz,bne_self_eq_false,cond_false,Option.bind_some,beq_self_eq_true,Bool.not_true,e1,e2,e3,e4,e5,m0,m1]
 try rfl
theorem wF(L:List Name)(hL:L.length≤maxLen∧ ∀x∈L,tE x)(l:Int)(h0:0≤l)(h1:l≤1048576): ∃v,iz L l=some v∧(v<0∨(0≤v∧v≤l∧(L.length:Int)≤l∧ ∀x∈L,tP x)):=by
 unfold iz
 exact tU hL.1 gY tP (fun x hx s h0 h1=>yu x (hL.2 x hx) s h0 h1) l h0 h1
theorem wL(L:List Name)(hL:L.length≤1048576):iB L=some L:=by
 unfold iB
 exact oo hL hG (fun x _=>yw x) _
theorem sX(L:List Name)(hL:L.length≤1000000000):ix L L=some true:=by
 unfold ix
 exact sZ hL gW (fun x _=>uH x)
structure iE (x:Place):Prop where
 s0:x.Code.size≤1048576
 s4:x.Names.length≤1048576
 i4: ∀y∈x.Names,tP y
theorem wG(x:Place)(hx:qc x)(s:Int)(h0:0≤s)(h1:s≤1048576): ∃v,gj x s=some v∧(v<0∨(0≤v∧v≤s∧iE x)):=by
 unfold gj
 have z0:=hx.Code
 unfold maxLen at z0
 rw[bp (n:=s -(x.Code.size:Int)) (by omega) (by omega)]
 by_cases c0:s -(x.Code.size:Int)<0
 ·rw[decide_eq_true c0]
  exact⟨_,rfl,.inl (by omega)⟩
 rw[decide_eq_false c0,cond_false]
 obtain⟨v1,g1,z1⟩:=wF x.Names hx.Names (s -(x.Code.size:Int)) (by omega) (by omega)
 rw[g1,Option.bind_some]
 by_cases c1:v1<0
 ·rw[decide_eq_true c1]
  exact⟨_,rfl,.inl (by omega)⟩
 rw[decide_eq_false c1,cond_false]
 replace z1:=z1.resolve_left c1
 exact⟨_,rfl,.inr ⟨by omega,by omega,⟨by omega,by have:=z1.2.2.1;omega,z1.2.2.2⟩⟩⟩
theorem wM(x:Place)(h:iE x):gl x=some x:=by
 unfold gl
 simp only[o7 x.Years,wL x.Names h.s4,Option.bind_some]
theorem sY(x:Place)(h:iE x):gh x x=some true:=by
 unfold gh
 simp[lW x.Years,sX x.Names (by have:=h.s4;omega)]
noncomputable def ov(k:Int)(x:Place):Place:=Place.mk (mt k) (k+1) (Span.mk (k+2) (k+3)) (eE qz fI (k+4) x.Names)
abbrev iW:Place→Nat:=fun x=>4+du fI x.Names
theorem rM(L:List Place)(k:Int)(h1:1≤k)(h2:k+du iW L≤1000000000000000)(h3:L.length≤1000000000000000):ff L k=some (k+du iW L,eE ov iW k L):=by
 unfold ff
 refine oP ov iW L k h1 h2 h3 fun k i L x h1 h2 hl hx=> ?_
 have h2':k+((4+du fI x.Names:Nat):Int)≤1000000000000000:=h2
 have hi:=(List.getElem?_eq_some_iff.1 hx).1
 have e1:aJ (k+1)=k+1:=bp (by omega) (by omega)
 have e2:aJ (k+1+1)=k+2:=by rw[bp (by omega) (by omega)];omega
 have e3:aJ (k+2+1)=k+3:=by rw[bp (by omega) (by omega)];omega
 have e4:aJ (k+3+1)=k+4:=by rw[bp (by omega) (by omega)];omega
 have m0:bh k=some (mt k):=dG (by omega) (by omega)
 have hc:=xy (c:=fI) x.Names (fun _=>by simp[fI])
 have n0:eC x.Names (k+4)=_:=tz x.Names (k+4) (by omega) (by omega) (by omega)
 simp only[m0,e1,e2,e3,e4,bg,hx,Option.bind_some,Int.toNat_natCast,List.set_set,List.getElem?_set_self hi,n0]
 rw[show k+4+((du fI x.Names:Nat):Int)=k+((4+du fI x.Names:Nat):Int)from by omega]
 rfl
theorem rl(L:List Place)(hl:L.length≤1048576)(h: ∀x∈L,iE x):du iW L≤10000000000000:=by
 have h1:=qi (c:=iW) (C:=5242884) (L:=L) (fun x hx=>by
  have h2:=qi (c:=fI) (C:=5) (L:=x.Names) (fun _ _=>Nat.le_refl _)
  have:=(h x hx).s4
  show 4+du fI x.Names≤_
  omega)
 omega
theorem rH(L:List Place)(k:Int)(h1:1≤k)(h2:k+du iW L≤1000000000000000)(h3:L.length≤1000000000000000):fe (eE ov iW k L) k=some (k+du iW L):=by
 unfold fe
 refine oy ov iW h3 k h1 h2 fun i k x h1 h2 hx=> ?_
 have h2':k+((4+du fI x.Names:Nat):Int)≤1000000000000000:=h2
 have e1:aJ (k+1)=k+1:=bp (by omega) (by omega)
 have e2:aJ (k+1+1)=k+2:=by rw[bp (by omega) (by omega)];omega
 have e3:aJ (k+2+1)=k+3:=by rw[bp (by omega) (by omega)];omega
 have e4:aJ (k+3+1)=k+4:=by rw[bp (by omega) (by omega)];omega
 have m0:bh k=some (mt k):=dG (by omega) (by omega)
 have hc:=xy (c:=fI) x.Names (fun _=>by simp[fI])
 have n0:eA (eE qz fI (k+4) x.Names) (k+4)=_:=th x.Names (k+4) (by omega) (by omega) (by omega)
 simp only[m0,e1,e2,e3,e4,bg,hx,Option.bind_some]
 simp only[ov,bne_self_eq_false,cond_false,Option.bind_some,beq_self_eq_true,Bool.not_true,e1,e2,e3,e4,m0]
 rw[n0,Option.bind_some,decide_eq_false (by omega),cond_false]
 rw[show k+4+((du fI x.Names:Nat):Int)=k+((4+du fI x.Names:Nat):Int)from by omega]
theorem vu(L:List Place)(hL:L.length≤maxLen∧ ∀x∈L,qc x)(l:Int)(h0:0≤l)(h1:l≤1048576): ∃v,gC L l=some v∧(v<0∨(0≤v∧v≤l∧(L.length:Int)≤l∧ ∀x∈L,iE x)):=by
 unfold gC
 exact tU hL.1 gj iE (fun x hx s h0 h1=>wG x (hL.2 x hx) s h0 h1) l h0 h1
theorem vB(L:List Place)(hL:L.length≤1048576)(h: ∀x∈L,iE x):fr L=some L:=by
 unfold fr
 exact oo hL gl (fun x hx=>wM x (h x hx)) _
theorem rF(L:List Place)(hL:L.length≤1000000000)(h: ∀x∈L,iE x):gA L L=some true:=by
 unfold gA
 exact sZ hL gh (fun x hx=>sY x (h x hx))
structure q8 (x:aw):Prop where
 s0:x.Child.size≤1048576
 s1:x.Parent.size≤1048576
theorem yt(x:aw)(hx:tD x)(s:Int)(h0:0≤s)(h1:s≤1048576): ∃v,gX x s=some v∧(v<0∨(0≤v∧v≤s∧q8 x)):=by
 unfold gX
 have z0:=hx.Child
 unfold maxLen at z0
 rw[bp (n:=s -(x.Child.size:Int)) (by omega) (by omega)]
 by_cases c0:s -(x.Child.size:Int)<0
 ·rw[decide_eq_true c0]
  exact⟨_,rfl,.inl (by omega)⟩
 rw[decide_eq_false c0,cond_false]
 have z1:=hx.Parent
 unfold maxLen at z1
 rw[bp (n:=s -(x.Child.size:Int)-(x.Parent.size:Int)) (by omega) (by omega)]
 by_cases c1:s -(x.Child.size:Int)-(x.Parent.size:Int)<0
 ·rw[decide_eq_true c1]
  exact⟨_,rfl,.inl (by omega)⟩
 rw[decide_eq_false c1,cond_false]
 exact⟨_,rfl,.inr ⟨by omega,by omega,⟨by omega,by omega⟩⟩⟩
theorem yv(x:aw):gZ x=some x:=by
 unfold gZ
 simp only[o7 x.Years,Option.bind_some]
theorem uG(x:aw):gV x x=some true:=by
 unfold gV
 simp[lW x.Years]
noncomputable def r8(k:Int)(_:aw):aw:=aw.mk (mt k) (mt (k+1)) (Span.mk (k+2) (k+3))
abbrev lE:aw→Nat:=fun _=>4
theorem tx(L:List aw)(k:Int)(h1:1≤k)(h2:k+du lE L≤1000000000000000)(h3:L.length≤1000000000000000):fM L k=some (k+du lE L,eE r8 lE k L):=by
 unfold fM
 refine oP r8 lE L k h1 h2 h3 fun k i L x h1 h2 hl hx=> ?_
 have h2':k+(4:Nat)≤1000000000000000:=h2
 have hi:=(List.getElem?_eq_some_iff.1 hx).1
 have e1:aJ (k+1)=k+1:=bp (by omega) (by omega)
 have e2:aJ (k+1+1)=k+2:=by rw[bp (by omega) (by omega)];omega
 have e3:aJ (k+2+1)=k+3:=by rw[bp (by omega) (by omega)];omega
 have e4:aJ (k+3+1)=k+4:=by rw[bp (by omega) (by omega)];omega
 have m0:bh k=some (mt k):=dG (by omega) (by omega)
 have m1:bh (k+1)=some (mt (k+1)):=dG (by omega) (by omega)
 simp only[m0,m1,e1,e2,e3,e4,bg,hx,Option.bind_some,Int.toNat_natCast,List.set_set,List.getElem?_set_self hi]
 rfl
theorem rW(L:List aw)(hl:L.length≤1048576)(_: ∀x∈L,q8 x):du lE L≤10000000000000:=by
 have h1:=qi (c:=lE) (C:=4) (L:=L) (fun _ _=>Nat.le_refl _)
 omega
theorem tg(L:List aw)(k:Int)(h1:1≤k)(h2:k+du lE L≤1000000000000000)(h3:L.length≤1000000000000000):fL (eE r8 lE k L) k=some (k+du lE L):=by
 unfold fL
 refine oy r8 lE h3 k h1 h2 fun i k x h1 h2 hx=> ?_
 have h2':k+(4:Nat)≤1000000000000000:=h2
 have e1:aJ (k+1)=k+1:=bp (by omega) (by omega)
 have e2:aJ (k+1+1)=k+2:=by rw[bp (by omega) (by omega)];omega
 have e3:aJ (k+2+1)=k+3:=by rw[bp (by omega) (by omega)];omega
 have e4:aJ (k+3+1)=k+4:=by rw[bp (by omega) (by omega)];omega
 have m0:bh k=some (mt k):=dG (by omega) (by omega)
 have m1:bh (k+1)=some (mt (k+1)):=dG (by omega) (by omega)
 simp only[m0,m1,e1,e2,e3,e4,bg,hx,Option.bind_some]
 simp only[r8,bne_self_eq_false,cond_false,Option.bind_some,beq_self_eq_true,Bool.not_true,e1,e2,e3,e4,m0,m1]
 try rfl
theorem wE(L:List aw)(hL:L.length≤maxLen∧ ∀x∈L,tD x)(l:Int)(h0:0≤l)(h1:l≤1048576): ∃v,iy L l=some v∧(v<0∨(0≤v∧v≤l∧(L.length:Int)≤l∧ ∀x∈L,q8 x)):=by
 unfold iy
 exact tU hL.1 gX q8 (fun x hx s h0 h1=>yt x (hL.2 x hx) s h0 h1) l h0 h1
theorem wK(L:List aw)(hL:L.length≤1048576):gk L=some L:=by
 unfold gk
 exact oo hL gZ (fun x _=>yv x) _
theorem sW(L:List aw)(hL:L.length≤1000000000):iw L L=some true:=by
 unfold iw
 exact sZ hL gV (fun x _=>uG x)
structure lB (x:World):Prop where
 s0:x.Places.length≤1048576
 s1:x.Links.length≤1048576
 i0: ∀y∈x.Places,iE y
 i1: ∀y∈x.Links,q8 y
theorem wH(x:World)(hx:tG x)(s:Int)(h0:0≤s)(h1:s≤1048576): ∃v,iA x s=some v∧(v<0∨(0≤v∧v≤s∧lB x)):=by
 unfold iA
 obtain⟨v0,g0,z0⟩:=vu x.Places hx.Places (s) (by omega) (by omega)
 rw[g0,Option.bind_some]
 by_cases c0:v0<0
 ·rw[decide_eq_true c0]
  exact⟨_,rfl,.inl (by omega)⟩
 rw[decide_eq_false c0,cond_false]
 replace z0:=z0.resolve_left c0
 obtain⟨v1,g1,z1⟩:=wE x.Links hx.Links (v0) (by omega) (by omega)
 rw[g1,Option.bind_some]
 by_cases c1:v1<0
 ·rw[decide_eq_true c1]
  exact⟨_,rfl,.inl (by omega)⟩
 rw[decide_eq_false c1,cond_false]
 replace z1:=z1.resolve_left c1
 exact⟨_,rfl,.inr ⟨by omega,by omega,⟨by have:=z0.2.2.1;omega,by have:=z1.2.2.1;omega,z0.2.2.2,z1.2.2.2⟩⟩⟩
theorem wN(x:World)(h:lB x):ea x=some x:=by
 unfold ea
 simp only[vB x.Places h.s0 h.i0,wK x.Links h.s1,Option.bind_some]
theorem nG(x:World)(h:lB x):dZ x x=some true:=by
 unfold dZ
 simp[rF x.Places (by have:=h.s0;omega) h.i0,sW x.Links (by have:=h.s1;omega)]
structure vj (x:Change):Prop where
 s2:x.Code.size≤1048576
 s3:x.Other.size≤1048576
 s4:x.Language.size≤1048576
 s5:x.Text.size≤1048576
theorem vt(x:Change)(hx:qT x)(s:Int)(h0:0≤s)(h1:s≤1048576): ∃v,gB x s=some v∧(v<0∨(0≤v∧v≤s∧vj x)):=by
 unfold gB
 have z0:=hx.Code
 unfold maxLen at z0
 rw[bp (n:=s -(x.Code.size:Int)) (by omega) (by omega)]
 by_cases c0:s -(x.Code.size:Int)<0
 ·rw[decide_eq_true c0]
  exact⟨_,rfl,.inl (by omega)⟩
 rw[decide_eq_false c0,cond_false]
 have z1:=hx.Other
 unfold maxLen at z1
 rw[bp (n:=s -(x.Code.size:Int)-(x.Other.size:Int)) (by omega) (by omega)]
 by_cases c1:s -(x.Code.size:Int)-(x.Other.size:Int)<0
 ·rw[decide_eq_true c1]
  exact⟨_,rfl,.inl (by omega)⟩
 rw[decide_eq_false c1,cond_false]
 have z2:=hx.Language
 unfold maxLen at z2
 rw[bp (n:=s -(x.Code.size:Int)-(x.Other.size:Int)-(x.Language.size:Int)) (by omega) (by omega)]
 by_cases c2:s -(x.Code.size:Int)-(x.Other.size:Int)-(x.Language.size:Int)<0
 ·rw[decide_eq_true c2]
  exact⟨_,rfl,.inl (by omega)⟩
 rw[decide_eq_false c2,cond_false]
 have z3:=hx.Text
 unfold maxLen at z3
 rw[bp (n:=s -(x.Code.size:Int)-(x.Other.size:Int)-(x.Language.size:Int)-(x.Text.size:Int)) (by omega) (by omega)]
 by_cases c3:s -(x.Code.size:Int)-(x.Other.size:Int)-(x.Language.size:Int)-(x.Text.size:Int)<0
 ·rw[decide_eq_true c3]
  exact⟨_,rfl,.inl (by omega)⟩
 rw[decide_eq_false c3,cond_false]
 exact⟨_,rfl,.inr ⟨by omega,by omega,⟨by omega,by omega,by omega,by omega⟩⟩⟩
theorem vA(x:Change):ei x=some x:=by
 unfold ei
 rfl
end Go.Proofs.YtdejeagdkfokfaaGreatDoor.Sh
