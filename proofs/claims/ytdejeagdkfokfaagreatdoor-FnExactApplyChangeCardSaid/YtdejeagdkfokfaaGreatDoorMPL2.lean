/- The order of texts; a search that halves; no condition. -/
import Derived.Test.YtdejeagdkfokfaaGreatDoorL0
namespace Go.Proofs.YtdejeagdkfokfaaGreatDoor.Sh
open Go.RowKit
def gu(x y:ByteArray):Bool:=Op.bytesLess x.toList y.toList
theorem mj: ∀x:List UInt8,Op.bytesLess x x=false
 | []=>rfl
 | a::x=>by
  unfold Op.bytesLess
  rw[mj x,Bool.and_false,Bool.or_false,decide_eq_false_iff_not]
  intro h
  have:=UInt8.lt_iff_toNat_lt.1 h
  omega
theorem nv{a b:UInt8}{x y:List UInt8}:Op.bytesLess (a::x) (b::y)=true↔a.toNat<b.toNat∨(a=b∧Op.bytesLess x y=true):=by
 conv=>lhs;unfold Op.bytesLess
 rw[Bool.or_eq_true,Bool.and_eq_true,decide_eq_true_eq,beq_iff_eq,UInt8.lt_iff_toNat_lt]
theorem lQ: ∀{x y z:List UInt8},Op.bytesLess x y=true→Op.bytesLess y z=true→Op.bytesLess x z=true
 | [],[],_,h,_=>by cases h
 | _::_,[],_,h,_=>by cases h
 | [],_::_,[],_,h=>by cases h
 | _::_,_::_,[],_,h=>by cases h
 | [],_::_,_::_,_,_=>rfl
 | a::x,b::y,c::z,h,k=>by
  rw[nv]at h k⊢
  rcases h with h | ⟨rfl,h⟩
  ·rcases k with k | ⟨rfl,_⟩
   ·exact .inl (by omega)
   ·exact .inl h
  ·rcases k with k | ⟨rfl,k⟩
   ·exact .inl k
   ·exact .inr ⟨rfl,lQ h k⟩
theorem ny: ∀{x y:List UInt8},Op.bytesLess x y=false→Op.bytesLess y x=false→x=y
 | [],[],_,_=>rfl
 | [],_::_,h,_=>by cases h
 | _::_,[],_,h=>by cases h
 | a::x,b::y,h,k=>by
  rw[Bool.eq_false_iff,ne_eq,nv]at h k
  have e:a=b:=UInt8.toNat_inj.1 (by
   have h1: ¬a.toNat<b.toNat:=fun e=>h (.inl e)
   have h2: ¬b.toNat<a.toNat:=fun e=>k (.inl e)
   omega)
  subst e
  rw[ny (x:=x) (y:=y) (by rw[Bool.eq_false_iff];exact fun e=>h (.inr ⟨rfl,e⟩)) (by rw[Bool.eq_false_iff];exact fun e=>k (.inr ⟨rfl,e⟩))]
end Go.Proofs.YtdejeagdkfokfaaGreatDoor.Sh
