/- Plain laws: the order of texts, strings.Compare, a search that halves a sorted list; bounds on lengths alone. -/
import Derived.Test.YtdejeagdkfokfaaGreatDoorMWP
import Derived.Test.YtdejeagdkfokfaaGreatDoorMPL2
import Derived.Test.YtdejeagdkfokfaaGreatDoorKC
namespace Go.Proofs.YtdejeagdkfokfaaGreatDoor.Sh
open Go.RowKit Go.Lib
theorem uA: ∀(x y:List UInt8),(compareBytes x y<0↔Op.bytesLess x y=true)∧(compareBytes x y=0↔x=y)∧(0<compareBytes x y↔Op.bytesLess y x=true)
 | [],[]=>by decide
 | [],b::y=>⟨by simp[compareBytes,Op.bytesLess],by simp[compareBytes],by simp[compareBytes,Op.bytesLess]⟩
 | a::x,[]=>⟨by simp[compareBytes,Op.bytesLess],by simp[compareBytes],by simp[compareBytes,Op.bytesLess]⟩
 | a::x,b::y=>by
  obtain⟨h1,h2,h3⟩:=uA x y
  unfold compareBytes
  rw[nv,nv]
  by_cases hab:a<b
  ·rw[if_pos hab]
   have:=UInt8.lt_iff_toNat_lt.1 hab
   refine⟨⟨fun _=> .inl this,fun _=>by omega⟩,⟨fun h=>by omega,fun h=> ?_⟩,⟨fun h=>by omega,fun h=> ?_⟩⟩
   ·injection h with h
    subst h
    omega
   ·rcases h with h | ⟨h,_⟩
    ·omega
    ·subst h
     omega
  ·rw[if_neg hab]
   by_cases hba:b<a
   ·rw[if_pos hba]
    have:=UInt8.lt_iff_toNat_lt.1 hba
    refine⟨⟨fun h=>by omega,fun h=> ?_⟩,⟨fun h=>by omega,fun h=> ?_⟩,⟨fun _=> .inl this,fun _=>by omega⟩⟩
    ·rcases h with h | ⟨h,_⟩
     ·omega
     ·subst h
      omega
    ·injection h with h
     subst h
     omega
   ·rw[if_neg hba]
    have e:a=b:=UInt8.toNat_inj.1 (by
     have k1: ¬a.toNat<b.toNat:=fun h=>hab (UInt8.lt_iff_toNat_lt.2 h)
     have k2: ¬b.toNat<a.toNat:=fun h=>hba (UInt8.lt_iff_toNat_lt.2 h)
     omega)
    subst e
    rw[h1,h2,h3]
    simp
theorem vN(x y:ByteArray): ∃r,strings_Compare x y=some r∧decide (r<0)=gu x y∧(r==0)=(x.toList==y.toList):=by
 obtain⟨h1,h2,_⟩:=uA x.data.toList y.data.toList
 refine⟨_,rfl,?_,?_⟩
 ·unfold gu
  rw[toList_eq,toList_eq]
  cases hb:Op.bytesLess x.data.toList y.data.toList
  ·rw[decide_eq_false_iff_not,h1,hb]
   simp
  ·rw[decide_eq_true_eq,h1,hb]
 ·rw[toList_eq,toList_eq]
  cases hb:(x.data.toList==y.data.toList)
  ·rw[beq_eq_false_iff_ne]at hb
   rw[beq_eq_false_iff_ne]
   exact fun h=>hb (h2.1 h)
  ·rw[beq_iff_eq]at hb
   rw[beq_iff_eq]
   exact h2.2 hb
theorem nd(x:ByteArray):gu x x=false:=mj _
theorem sc{x y z:ByteArray}(h:gu x y=true)(k:gu y z=true):gu x z=true:=lQ h k
theorem CJ{a b:Nat}(h:a+b≤1000000000):aJ (Int.fdiv (IntKind.wrap .u64 (aJ ((a:Int)+(b:Int)))) (2^1))=(((a+b)/2:Nat):Int):=by
 rw[bp (n:=(a:Int)+(b:Int)) (by omega) (by omega)]
 have e:IntKind.wrap .u64 ((a:Int)+(b:Int))=((a+b:Nat):Int):=by
  rw[IntKind.wrap_u64]
  omega
 rw[e,show(2:Int)^1=2 from rfl,Int.fdiv_eq_ediv_of_nonneg _ (by omega)]
 have:((a+b:Nat):Int)/2=(((a+b)/2:Nat):Int):=by omega
 rw[this]
 exact bp (by omega) (by omega)
theorem Db{α:Type}{L:List α}(hL:L.length≤1000000)(p:α→Bool)(hmono: ∀(i j:Nat) x y,i≤j→L[i]? =some x→L[j]? =some y→p y=true→p x=true)
  {B:Int×Int→Option ((Int×Int)⊕Int)} (hB: ∀(lo hi:Nat) (x:α),lo<hi→hi≤L.length→L[(lo+hi)/2]? =some x→B ((lo:Int),(hi:Int))=some (.inl (bif p x then((((lo+hi)/2+1:Nat):Int),(hi:Int))else((lo:Int),(((lo+hi)/2:Nat):Int))))) (hE: ∀(lo:Nat),B ((lo:Int),(lo:Int))=some (.inr (lo:Int))):
  ∃k:Nat,loop B (0,(L.length:Int))=some (k:Int)∧k≤L.length∧(∀(i:Nat) x,i<k→L[i]? =some x→p x=true)∧ ∀(i:Nat) x,k≤i→L[i]? =some x→p x=false:=by
 have:=uU (body:=B) (fun s=> ∃lo hi:Nat,s=((lo:Int),(hi:Int))∧lo≤hi∧hi≤L.length∧(∀(i:Nat) x,i<lo→L[i]? =some x→p x=true)∧ ∀(i:Nat) x,hi≤i→L[i]? =some x→p x=false)
  (fun s=>(s.2 - s.1).toNat) (fun r=> ∃k:Nat,r=(k:Int)∧k≤L.length∧(∀(i:Nat) x,i<k→L[i]? =some x→p x=true)∧ ∀(i:Nat) x,k≤i→L[i]? =some x→p x=false)
  (fun s ⟨lo,hi,hs,h1,h2,h3,h4⟩=>by
   subst hs
   by_cases hlt:lo<hi
   ·have hx:L[(lo+hi)/2]? =some (L[(lo+hi)/2]'(by omega)):=List.getElem?_eq_getElem _
    generalize L[(lo+hi)/2]'(by omega)=x at hx
    refine .inl ⟨_,hB lo hi x hlt h2 hx,?_,?_⟩
    ·cases hp:p x
     ·exact⟨lo,(lo+hi)/2,rfl,by omega,by omega,h3,fun i y hi' hy=>by
       cases hq:p y with
       | false=>rfl
       | true=>
        have:=hmono ((lo+hi)/2) i x y hi' hx hy hq
        rw[hp]at this
        cases this⟩
     ·exact⟨(lo+hi)/2+1,hi,rfl,by omega,h2,fun i y hi' hy=>hmono i ((lo+hi)/2) y x (by omega) hy hx hp,h4⟩
    ·cases p x<;>simp<;>omega
   ·obtain rfl:lo=hi:=by omega
    exact .inr ⟨_,hE lo,lo,rfl,h2,h3,h4⟩)
  (s:=(0,(L.length:Int))) ⟨0,L.length,rfl,Nat.zero_le _,Nat.le_refl _,fun i x h=>by omega,fun i x h hx=>by
   have:=(List.getElem?_eq_some_iff.1 hx).1
   omega⟩
 obtain⟨r,h1,k,rfl,h2,h3,h4⟩:=this
 exact⟨k,h1,h2,h3,h4⟩
end Go.Proofs.YtdejeagdkfokfaaGreatDoor.Sh
