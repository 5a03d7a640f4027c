/- strings.Split at a separator of one byte, as a typed call; bounds on sizes alone. -/
import Derived.Test.YtdejeagdkfokfaaGreatDoorKA
import Derived.Shelf.Strings.Split
namespace Go.Proofs.YtdejeagdkfokfaaGreatDoor.Sh
open Go.RowKit Go.Shelf Go.Lib
variable {P : Program} {ρ : Ren}
def dT(c:UInt8):List UInt8→List (List UInt8)
 | []=>[[]]
 | b::l=>if b=c then[]::dT c l else match dT c l with
  | []=>[[b]]
  | x::r=>(b::x)::r
theorem zO(c:UInt8): ∀l,dT c l≠[]
 | []=>by simp[dT]
 | b::l=>by
  unfold dT
  split
  ·simp
  ·split<;>simp
theorem lJ{c:UInt8}: ∀{l:List UInt8},c∉l→dT c l=[l]
 | [],_=>rfl
 | b::l,h=>by
  have h1:c∉l:=fun e=>h (List.mem_cons_of_mem _ e)
  have h2:b≠c:=fun e=>h (by simp[e])
  unfold dT
  rw[if_neg h2,lJ h1]
theorem mS{c:UInt8}: ∀{p r:List UInt8},c∉p→dT c (p++c::r)=p::dT c r
 | [],r,_=>by
  show dT c (c::r)=_
  rw[dT,if_pos rfl]
 | b::p,r,h=>by
  have h1:c∉p:=fun e=>h (List.mem_cons_of_mem _ e)
  have h2:b≠c:=fun e=>h (by simp[e])
  show dT c (b::(p++c::r))=_
  rw[dT,if_neg h2,mS h1]
theorem oV(c:UInt8): ∀l,(dT c l).length=l.count c+1
 | []=>by simp[dT]
 | b::l=>by
  have h:=oV c l
  unfold dT
  split
  ·rename_i hb
   subst hb
   rw[List.length_cons,h,List.count_cons_self]
  ·rename_i hb
   rw[List.count_cons_of_ne (by simpa using hb)]
   rw[←h]
   have:=zO c l
   split
   ·rename_i h2;exact absurd h2 this
   ·rename_i h2;rw[h2];rfl
theorem qR(c:UInt8): ∀l,∀x∈dT c l,x.length≤l.length
 | [],x,h=>by simp[dT]at h;simp[h]
 | b::l,x,h=>by
  have ih:=qR c l
  unfold dT at h
  split at h
  ·rcases List.mem_cons.1 h with rfl | h
   ·simp
   ·have:=ih x h;simp;omega
  ·split at h
   ·simp at h;subst h;simp
   ·rename_i y r h2
    rcases List.mem_cons.1 h with rfl | h
    ·have:=ih y (by rw[h2];simp);simp;omega
    ·have:=ih x (by rw[h2];simp[h]);simp;omega
theorem sM(c:UInt8): ∀(n:Nat) (l:List UInt8),l.length≤n→splitK [c] 0 (l.count c) l=dT c l
 | n,l,hn=>by
  by_cases hc:c∈l
  ·obtain⟨i,hi⟩: ∃i:Nat,index l [c]=i:=by
    have h1:=index_ge l [c]
    have h2:index l [c]≠ -1:=fun e=>by
     rw[index_one]at e
     obtain⟨k,hk⟩:=List.mem_iff_getElem?.1 hc
     exact indexByte_none e k hk
    exact⟨(index l [c]).toNat,by omega⟩
   have hi2:=hi
   rw[index_one]at hi2
   obtain⟨h3,h4⟩:=indexByte_some hi2
   have hlt:=(List.getElem?_eq_some_iff.1 h3).1
   have hdec:l=l.take i++c::l.drop (i+1):=by
    have:l.drop i=c::l.drop (i+1):=by
     rw[List.drop_eq_getElem_cons hlt]
     congr 1
     exact(List.getElem?_eq_some_iff.1 h3).2
    rw[←this,List.take_append_drop]
   have hfree:c∉l.take i:=fun e=>by
    obtain⟨k,hk⟩:=List.mem_iff_getElem?.1 e
    have hk2:=(List.getElem?_eq_some_iff.1 hk).1
    rw[List.length_take]at hk2
    rw[List.getElem?_take_of_lt (by omega)]at hk
    exact h4 k (by omega) hk
   have hcount:l.count c=(l.drop (i+1)).count c+1:=by
    have h5:(l.take i).count c=0:=List.count_eq_zero.2 hfree
    have h6:l.count c=(l.take i++c::l.drop (i+1)).count c:=by rw[←hdec]
    rw[h6,List.count_append,h5,List.count_cons_self]
    omega
   rw[hcount,splitK]
   have hne: ¬(index l [c]== -1)=true:=by rw[hi];simp
   rw[if_neg hne,hi]
   have ih:=sM c (n - 1) (l.drop (i+1)) (by rw[List.length_drop];omega)
   have e1:(↑i:Int).toNat=i:=by simp
   rw[e1,show[c].length=1 from rfl,ih]
   conv=>rhs;rw[hdec]
   rw[mS hfree,Nat.add_zero]
  ·rw[List.count_eq_zero.2 hc,lJ hc]
   rfl
termination_by n l=>l.length
decreasing_by rw[List.length_drop];have:=List.length_pos_of_mem hc;omega
def dc(s:ByteArray)(c:UInt8):List ByteArray:=(dT c s.data.toList).map fun l=>⟨l.toArray⟩
theorem tA(s:ByteArray)(c:UInt8):splitB ⟨#[c]⟩ 0 (countB s ⟨#[c]⟩) s=dc s c:=by
 have h1:=splitB_data ⟨#[c]⟩ 0 (countB s ⟨#[c]⟩) s
 have h2:countB s ⟨#[c]⟩=s.data.toList.count c:=count_one c s.data.toList
 have h3:(splitB ⟨#[c]⟩ 0 (countB s ⟨#[c]⟩) s).map (·.data.toList)=dT c s.data.toList:=by
  rw[h1,h2]
  exact sM c _ _ (Nat.le_refl _)
 unfold dc
 rw[←h3,List.map_map]
 have:((fun l=>ByteArray.mk l.toArray)∘fun b:ByteArray=>b.data.toList)=id:=by funext b;rfl
 rw[this,List.map_id]
set_option maxHeartbeats 2000000 in
theorem zP(L:Lays.n146 P ρ)(hi9:(P.info? (ρ.t 9)).map (fun i=>(i.zero,i.size,i.bytes))=some (some (.string ByteArray.empty),1,16))(s:ByteArray)(c:UInt8)(w:World)(hs:s.size<4294967281):
  Calls P (ρ.f 146) #[.string s,.string ⟨#[c]⟩] w fun e w'=>e= .returned (.slice (some ⟨w.heap.size,0,none⟩) (dc s c).length (dc s c).length)∧w'=w.alloc (.cells ((dc s c).map Value.string).toArray (ρ.t 9)):=by
 have h1:1≤(⟨#[c]⟩:ByteArray).size:=Nat.le_refl 1
 have hle:=countB_le ⟨#[c]⟩ h1 s.size s (Nat.le_refl _)
 have hlen:=splitB_all ⟨#[c]⟩ h1 0 _ s rfl
 have hC:Calls P (ρ.f 138) #[.string s,.string ⟨#[c]⟩] w fun e w'=>e= .returned (.int .i64 (countB s ⟨#[c]⟩))∧w'=w:=
  (Any.strings_Count_one {L with} s c w).mono fun e w' ⟨he,hw⟩=>⟨by rw[he,show countB s ⟨#[c]⟩=s.data.toList.count c from count_one c s.data.toList];rfl,hw⟩
 have hI: ∀(x:ByteArray) (d:Array Value),x.size≤s.size→Calls P (ρ.f 143) #[.string x,.string ⟨#[c]⟩] (w.alloc (.cells d (ρ.t 9))) fun e w'=>e= .returned (.int .i64 (indexB x ⟨#[c]⟩))∧w'=w.alloc (.cells d (ρ.t 9)):=fun x d _=>
  (Any.strings_Index_one {L with} x c _).mono fun e w' ⟨he,hw⟩=>⟨by rw[he,show indexB x ⟨#[c]⟩=indexByte x.data.toList c from index_one x.data.toList c],hw⟩
 have g:=Any.strings_genSplit_core {L with} hi9 s ⟨#[c]⟩ 0 (-1) (countB s ⟨#[c]⟩+1) w hs h1 (Nat.zero_le _) hI hC (by decide) (by decide) (by rw[if_pos (by decide)];omega)
 rw[Nat.add_sub_cancel,hlen]at g
 have e2:cellsOf (splitB ⟨#[c]⟩ 0 (countB s ⟨#[c]⟩) s) (countB s ⟨#[c]⟩+1)=((splitB ⟨#[c]⟩ 0 (countB s ⟨#[c]⟩) s).map Value.string).toArray:=by rw[←hlen];exact cellsOf_full _
 rw[e2,←hlen,tA]at g
 have t3:=L.t3;have t9:=L.t9;have t31:=L.t31
 have a3:=L.a3;have a9:=L.a9;have a31:=L.a31
 have z3:=L.z3;have v3:=L.v3;have z9:=L.z9;have v9:=L.v9;have z31:=L.z31;have v31:=L.v31
 have e221: ∀args w,(callFunc (ρ.f 221) args).run P w= .ok (.enter (ρ.f 221) args) w:=enters_of L.f221 (by kernel_rfl) rfl
 go_enter L.f146,Body.n146_ntmps ρ
 go_wp2_with (go_at_fn (ρ.f 221);refine g.mono ?_;rintro e w' ⟨rfl,hw⟩;rw[hw])
 go_ret
 exact⟨rfl,rfl⟩
theorem nG{s x:ByteArray}{c:UInt8}(h:x∈dc s c):x.size≤s.size:=by
 obtain⟨l,hl,rfl⟩:=List.mem_map.1 h
 have:=qR c _ l hl
 have h4:s.data.toList.length=s.size:=by rw[Array.length_toList];rfl
 show l.toArray.size≤_
 rw[List.size_toArray]
 omega
def strings_Split(s sep:ByteArray):Option (List ByteArray):=match sep.data.toList with
 | [c]=>bif decide (s.size<4294967281)then some (dc s c)else none
 | _=>none
theorem zQ(L:Lays.n146 P ρ)(hi9:(P.info? (ρ.t 9)).map (fun i=>(i.zero,i.size,i.bytes))=some (some (.string ByteArray.empty),1,16))(k e:Nat)(hk:ρ.f 146=k)(ht:ρ.t 9=e)(s sep:ByteArray)(r:List ByteArray)(h:strings_Split s sep=some r):aR P k [.v (.tr (.str s)),.v (.tr (.str sep))] ⟨[.own e 1 r.length (r.map eS)],[],false⟩:=by
 unfold strings_Split at h
 split at h
 ·rename_i c hc
  cases hb:decide (s.size<4294967281)
  ·rw[hb]at h;cases h
  ·rw[hb]at h
   injection h with h
   subst h hk ht
   have hs:s.size<4294967281:=by simpa using hb
   have hsep:sep=⟨#[c]⟩:=by
    have:sep=⟨sep.data.toList.toArray⟩:=rfl
    rw[this,hc]
   subst hsep
   intro w S vs hn hS hv _ _ _
   have hva:vs= #[.string s,.string ⟨#[c]⟩]:=tJ (ts:=[.str s,.str ⟨#[c]⟩]) (by simp[Tr.flat]) hn hv
   subst hva
   refine(zP L hi9 s c w hs).mono fun r' w' h=> ?_
   obtain⟨rfl,rfl⟩:=h
   have hlen:(dc s c).length≤maxLen:=by
    unfold dc
    rw[List.length_map,oV]
    have h1:s.data.toList.count c≤s.data.toList.length:=List.count_le_length
    have h4:s.data.toList.length=s.size:=by rw[Array.length_toList];rfl
    unfold maxLen
    omega
   refine⟨_,fun _=>False,rfl,dC.sB (((Below.refl _ w)).alloc (Nat.le_refl _) _) _,fun b hb=>hb.elim,fun b hb=>hb.elim,⟨.arr _ 1 _ _ _ ((dc s c).map Value.string) (by simp) ⟨by simp,.inr ⟨w.heap.size,_,_,rfl,Nat.zero_le _,yW w _,Nat.le_refl _,hlen,by simp,by rw[List.toList_toArray,Nat.mul_one,List.take_of_length_le (by rw[List.length_map];exact Nat.le_refl _)]⟩⟩ (fun x hx=> ?_) (fun i x j t u h1 h2 h3=> ?_),fun g hg=> ?_⟩,fun j x u hj=>by simp at hj⟩
   ·obtain⟨y,_,rfl⟩:=List.mem_map.1 hx
    rfl
   ·rw[List.getElem?_map,Option.map_eq_some_iff]at h1
    obtain⟨y,hy,rfl⟩:=h1
    cases j with
    | zero=>
     injection h2 with h2
     subst h2
     rw[Nat.mul_one,Nat.add_zero,List.getElem?_map,hy]at h3
     injection h3 with h3
     subst h3
     have:=nG (List.mem_of_getElem? hy)
     exact .str y (by unfold maxLen;omega)
    | succ j=>cases h2
   ·injection hg with hg
    dsimp only at hg
    subst hg
    exact⟨Nat.le_refl _,fun h=>h⟩
 ·cases h
end Go.Proofs.YtdejeagdkfokfaaGreatDoor.Sh
