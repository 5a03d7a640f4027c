/- Sizes, copies, comparisons and marks of the laws' types; bounds on lengths alone. -/
import Derived.Test.YtdejeagdkfokfaaGreatDoorQA
import Derived.Test.YtdejeagdkfokfaaGreatDoorRD
import Derived.Test.YtdejeagdkfokfaaGreatDoorGA
namespace Go.Proofs.YtdejeagdkfokfaaGreatDoor.Sh
open Go.RowKit Go.Lib
structure sh (x:Name):Prop where
 s0:x.Text.size≤1048576
 s1:x.Language.size≤1048576
theorem wT(x:Name)(hx:rY x)(s:Int)(h0:0≤s)(h1:s≤1048576): ∃v,gB x s=some v∧(v<0∨(0≤v∧v≤s∧sh x)):=by
 unfold gB
 have z0:=hx.Text
 unfold maxLen at z0
 rw[cM (n:=s -(x.Text.size:Int)) (by omega) (by omega)]
 by_cases c0:s -(x.Text.size:Int)<0
 ·rw[decide_eq_true c0]
  exact⟨_,rfl,.inl (by omega)⟩
 rw[decide_eq_false c0,cond_false]
 have z1:=hx.Language
 unfold maxLen at z1
 rw[cM (n:=s -(x.Text.size:Int)-(x.Language.size:Int)) (by omega) (by omega)]
 by_cases c1:s -(x.Text.size:Int)-(x.Language.size:Int)<0
 ·rw[decide_eq_true c1]
  exact⟨_,rfl,.inl (by omega)⟩
 rw[decide_eq_false c1,cond_false]
 exact⟨_,rfl,.inr ⟨by omega,by omega,⟨by omega,by omega⟩⟩⟩
theorem oq(x:Span):fm x=some x:=by
 unfold fm
 rfl
theorem lc(x:Span):fk x x=some true:=by
 unfold fk
 simp
theorem wV(x:Name):gD x=some x:=by
 unfold gD
 simp only[oq x.Years,Option.bind_some]
theorem sV(x:Name):gz x x=some true:=by
 unfold gz
 simp[lc x.Years]
theorem u4(L:List Name)(hL:L.length≤maxLen∧ ∀x∈L,rY x)(l:Int)(h0:0≤l)(h1:l≤1048576): ∃v,gU L l=some v∧(v<0∨(0≤v∧v≤l∧(L.length:Int)≤l∧ ∀x∈L,sh x)):=by
 unfold gU
 exact sn hL.1 gB sh (fun x hx s h0 h1=>wT x (hL.2 x hx) s h0 h1) l h0 h1
theorem vc(L:List Name)(hL:L.length≤1048576):gW L=some L:=by
 unfold gW
 exact nE hL gD (fun x _=>wV x) _
theorem rI(L:List Name)(hL:L.length≤1000000000):gR L L=some true:=by
 unfold gR
 exact rL hL gz (fun x _=>sV x)
structure jd (x:Place):Prop where
 s0:x.Code.size≤1048576
 s4:x.Names.length≤1048576
 i4: ∀y∈x.Names,sh y
theorem u5(x:Place)(hx:pt x)(s:Int)(h0:0≤s)(h1:s≤1048576): ∃v,fJ x s=some v∧(v<0∨(0≤v∧v≤s∧jd x)):=by
 unfold fJ
 have z0:=hx.Code
 unfold maxLen at z0
 rw[cM (n:=s -(x.Code.size:Int)) (by omega) (by omega)]
 by_cases c0:s -(x.Code.size:Int)<0
 ·rw[decide_eq_true c0]
  exact⟨_,rfl,.inl (by omega)⟩
 rw[decide_eq_false c0,cond_false]
 obtain⟨v1,g1,z1⟩:=u4 x.Names hx.Names (s -(x.Code.size:Int)) (by omega) (by omega)
 rw[g1,Option.bind_some]
 by_cases c1:v1<0
 ·rw[decide_eq_true c1]
  exact⟨_,rfl,.inl (by omega)⟩
 rw[decide_eq_false c1,cond_false]
 replace z1:=z1.resolve_left c1
 exact⟨_,rfl,.inr ⟨by omega,by omega,⟨by omega,by have:=z1.2.2.1;omega,z1.2.2.2⟩⟩⟩
theorem vd(x:Place)(h:jd x):fL x=some x:=by
 unfold fL
 simp only[oq x.Years,vc x.Names h.s4,Option.bind_some]
theorem rJ(x:Place)(h:jd x):fI x x=some true:=by
 unfold fI
 simp[lc x.Years,rI x.Names (by have:=h.s4;omega)]
theorem tR(L:List Place)(hL:L.length≤maxLen∧ ∀x∈L,pt x)(l:Int)(h0:0≤l)(h1:l≤1048576): ∃v,ga L l=some v∧(v<0∨(0≤v∧v≤l∧(L.length:Int)≤l∧ ∀x∈L,jd x)):=by
 unfold ga
 exact sn hL.1 fJ jd (fun x hx s h0 h1=>u5 x (hL.2 x hx) s h0 h1) l h0 h1
theorem tX(L:List Place)(hL:L.length≤1048576)(h: ∀x∈L,jd x):eW L=some L:=by
 unfold eW
 exact nE hL fL (fun x hx=>vd x (h x hx)) _
theorem qE(L:List Place)(hL:L.length≤1000000000)(h: ∀x∈L,jd x):fY L L=some true:=by
 unfold fY
 exact rL hL fI (fun x hx=>rJ x (h x hx))
structure sg (x:au):Prop where
 s0:x.Child.size≤1048576
 s1:x.Parent.size≤1048576
theorem wS(x:au)(hx:rX x)(s:Int)(h0:0≤s)(h1:s≤1048576): ∃v,gA x s=some v∧(v<0∨(0≤v∧v≤s∧sg x)):=by
 unfold gA
 have z0:=hx.Child
 unfold maxLen at z0
 rw[cM (n:=s -(x.Child.size:Int)) (by omega) (by omega)]
 by_cases c0:s -(x.Child.size:Int)<0
 ·rw[decide_eq_true c0]
  exact⟨_,rfl,.inl (by omega)⟩
 rw[decide_eq_false c0,cond_false]
 have z1:=hx.Parent
 unfold maxLen at z1
 rw[cM (n:=s -(x.Child.size:Int)-(x.Parent.size:Int)) (by omega) (by omega)]
 by_cases c1:s -(x.Child.size:Int)-(x.Parent.size:Int)<0
 ·rw[decide_eq_true c1]
  exact⟨_,rfl,.inl (by omega)⟩
 rw[decide_eq_false c1,cond_false]
 exact⟨_,rfl,.inr ⟨by omega,by omega,⟨by omega,by omega⟩⟩⟩
theorem wU(x:au):gC x=some x:=by
 unfold gC
 simp only[oq x.Years,Option.bind_some]
theorem sU(x:au):gy x x=some true:=by
 unfold gy
 simp[lc x.Years]
theorem u3(L:List au)(hL:L.length≤maxLen∧ ∀x∈L,rX x)(l:Int)(h0:0≤l)(h1:l≤1048576): ∃v,gT L l=some v∧(v<0∨(0≤v∧v≤l∧(L.length:Int)≤l∧ ∀x∈L,sg x)):=by
 unfold gT
 exact sn hL.1 gA sg (fun x hx s h0 h1=>wS x (hL.2 x hx) s h0 h1) l h0 h1
theorem va(L:List au)(hL:L.length≤1048576):fK L=some L:=by
 unfold fK
 exact nE hL gC (fun x _=>wU x) _
theorem rH(L:List au)(hL:L.length≤1000000000):gQ L L=some true:=by
 unfold gQ
 exact rL hL gy (fun x _=>sU x)
structure px (x:World):Prop where
 s0:x.Places.length≤1048576
 s1:x.Links.length≤1048576
 i0: ∀y∈x.Places,jd y
 i1: ∀y∈x.Links,sg y
theorem u6(x:World)(hx:r6 x)(s:Int)(h0:0≤s)(h1:s≤1048576): ∃v,gV x s=some v∧(v<0∨(0≤v∧v≤s∧px x)):=by
 unfold gV
 obtain⟨v0,g0,z0⟩:=tR x.Places hx.Places (s) (by omega) (by omega)
 rw[g0,Option.bind_some]
 by_cases c0:v0<0
 ·rw[decide_eq_true c0]
  exact⟨_,rfl,.inl (by omega)⟩
 rw[decide_eq_false c0,cond_false]
 replace z0:=z0.resolve_left c0
 obtain⟨v1,g1,z1⟩:=u3 x.Links hx.Links (v0) (by omega) (by omega)
 rw[g1,Option.bind_some]
 by_cases c1:v1<0
 ·rw[decide_eq_true c1]
  exact⟨_,rfl,.inl (by omega)⟩
 rw[decide_eq_false c1,cond_false]
 replace z1:=z1.resolve_left c1
 exact⟨_,rfl,.inr ⟨by omega,by omega,⟨by have:=z0.2.2.1;omega,by have:=z1.2.2.1;omega,z0.2.2.2,z1.2.2.2⟩⟩⟩
theorem ve(x:World)(h:px x):ez x=some x:=by
 unfold ez
 simp only[tX x.Places h.s0 h.i0,va x.Links h.s1,Option.bind_some]
theorem rK(x:World)(h:px x):gS x x=some true:=by
 unfold gS
 simp[qE x.Places (by have:=h.s0;omega) h.i0,rH x.Links (by have:=h.s1;omega)]
structure tI (x:Change):Prop where
 s2:x.Code.size≤1048576
 s3:x.Other.size≤1048576
 s4:x.Language.size≤1048576
 s5:x.Text.size≤1048576
theorem tQ(x:Change)(hx:p8 x)(s:Int)(h0:0≤s)(h1:s≤1048576): ∃v,fZ x s=some v∧(v<0∨(0≤v∧v≤s∧tI x)):=by
 unfold fZ
 have z0:=hx.Code
 unfold maxLen at z0
 rw[cM (n:=s -(x.Code.size:Int)) (by omega) (by omega)]
 by_cases c0:s -(x.Code.size:Int)<0
 ·rw[decide_eq_true c0]
  exact⟨_,rfl,.inl (by omega)⟩
 rw[decide_eq_false c0,cond_false]
 have z1:=hx.Other
 unfold maxLen at z1
 rw[cM (n:=s -(x.Code.size:Int)-(x.Other.size:Int)) (by omega) (by omega)]
 by_cases c1:s -(x.Code.size:Int)-(x.Other.size:Int)<0
 ·rw[decide_eq_true c1]
  exact⟨_,rfl,.inl (by omega)⟩
 rw[decide_eq_false c1,cond_false]
 have z2:=hx.Language
 unfold maxLen at z2
 rw[cM (n:=s -(x.Code.size:Int)-(x.Other.size:Int)-(x.Language.size:Int)) (by omega) (by omega)]
 by_cases c2:s -(x.Code.size:Int)-(x.Other.size:Int)-(x.Language.size:Int)<0
 ·rw[decide_eq_true c2]
  exact⟨_,rfl,.inl (by omega)⟩
 rw[decide_eq_false c2,cond_false]
 have z3:=hx.Text
 unfold maxLen at z3
 rw[cM (n:=s -(x.Code.size:Int)-(x.Other.size:Int)-(x.Language.size:Int)-(x.Text.size:Int)) (by omega) (by omega)]
 by_cases c3:s -(x.Code.size:Int)-(x.Other.size:Int)-(x.Language.size:Int)-(x.Text.size:Int)<0
 ·rw[decide_eq_true c3]
  exact⟨_,rfl,.inl (by omega)⟩
 rw[decide_eq_false c3,cond_false]
 exact⟨_,rfl,.inr ⟨by omega,by omega,⟨by omega,by omega,by omega,by omega⟩⟩⟩
theorem tW(x:Change):eV x=some x:=by
 unfold eV
 rfl
end Go.Proofs.YtdejeagdkfokfaaGreatDoor.Sh
