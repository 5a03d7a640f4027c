/- Plain laws: splitting at a byte, phrases; no condition but bounds on lengths. -/
import Derived.Test.YtdejeagdkfokfaaGreatDoorMW1
import Derived.Test.YtdejeagdkfokfaaGreatDoorKS
import Derived.Test.YtdejeagdkfokfaaGreatDoorL0
namespace Go.Proofs.YtdejeagdkfokfaaGreatDoor.Sh
open Go.RowKit Go.Lib
theorem rc(s:ByteArray):s.data.toList.length=s.size:=by rw[Array.length_toList];rfl
theorem sW(s:ByteArray)(a b:Nat):s.extract a b=⟨((s.data.toList.drop a).take (b - a)).toArray⟩:=by
 rw[←extract_data]
theorem yh{s:ByteArray}{a b:Nat}(h:a≤b)(hb:b≤s.size):qq s (a:Int) (b:Int)=some ⟨((s.data.toList.drop a).take (b - a)).toArray⟩:=by
 unfold qq
 rw[if_pos ⟨by omega,by omega,by omega⟩,Int.toNat_natCast,Int.toNat_natCast,sW]
theorem BR(b c:UInt8):(((b.toNat:Int)==(c.toNat:Int))=true)↔b=c:=by
 rw[beq_iff_eq]
 constructor
 ·intro h
  have:b.toNat=c.toNat:=by omega
  exact UInt8.toNat_inj.1 this
 ·intro h;rw[h]
theorem tO{c:UInt8}{l:List UInt8}{f i:Nat}(hf:f≤i)(hfree:c∉(l.drop f).take (i - f))(hi:l[i]? =some c):dc c (l.drop f)=(l.drop f).take (i - f)::dc c (l.drop (i+1)):=by
 have hlt:=(List.getElem?_eq_some_iff.1 hi).1
 have h1:l.drop f=(l.drop f).take (i - f)++c::l.drop (i+1):=by
  have h2:(l.drop f).drop (i - f)=c::l.drop (i+1):=by
   rw[List.drop_drop,show f+(i - f)=i from by omega,List.drop_eq_getElem_cons hlt]
   congr 1
   exact(List.getElem?_eq_some_iff.1 hi).2
  rw[←h2,List.take_append_drop]
 conv=>lhs;rw[h1]
 exact mH hfree
theorem qO(s:ByteArray)(c:UInt8)(hs:s.size≤4294967280):gi s (c.toNat:Int)=some (cC s c):=by
 have hn:s.data.toList.length=s.size:=rc s
 have key: ∀(k i f:Nat) (out:List ByteArray),i+k=s.size→f≤i→out.length≤i→c∉(s.data.toList.drop f).take (i - f)→
   wj (fun(i3:Int) (_:Int×(List ByteArray))=>(decide (i3≤(s.size:Int)))) (fun(i3:Int) (s3:Int×(List ByteArray))=>(((bif(i3==(s.size:Int))then some true else((kM s i3).bind fun x7=>some (x7==(c.toNat:Int))))).bind fun(j8:Bool)=>(bif j8 then((qq s s3.1 i3).bind fun x10=>((dU s3.2 ([x10]:List ByteArray)).bind fun x11=>some ((aZ (i3+1)),x11)))else some (s3.1,s3.2)))) (fun(s3:Int×(List ByteArray))=>s3.2) (i:Int) ((f:Int),out)=some (out++(dc c (s.data.toList.drop f)).map fun l=>⟨l.toArray⟩):=by
  intro k
  induction k with
  | zero=>
   intro i f out hk hf hout hfree
   have hi:i=s.size:=by omega
   unfold wj
   rw[ff]
   dsimp only
   have e1:((i:Int)==(s.size:Int))=true:=by rw[hi];simp
   rw[decide_eq_true (by omega),cond_true,e1,cond_true,Option.bind_some,cond_true,yh hf (by omega),Option.bind_some,c9 (by simp;omega)]
   simp only[Option.bind_some]
   rw[cM (by omega) (by omega),ff]
   dsimp only
   rw[decide_eq_false (by omega),cond_false]
   have h1:(s.data.toList.drop f).take (i - f)=s.data.toList.drop f:=List.take_of_length_le (by rw[List.length_drop];omega)
   rw[h1]at hfree
   rw[lA hfree,h1]
   rfl
  | succ k ih=>
   intro i f out hk hf hout hfree
   have hlt:i<s.data.toList.length:=by omega
   have hb:s.data.toList[i]? =some s.data.toList[i]:=List.getElem?_eq_getElem hlt
   generalize s.data.toList[i]=b at hb
   unfold wj
   rw[ff]
   dsimp only
   have e1:((i:Int)==(s.size:Int))=false:=by rw[beq_eq_false_iff_ne];omega
   rw[decide_eq_true (by omega),cond_true,e1,cond_false,pG hb,Option.bind_some,Option.bind_some]
   by_cases hbc:b=c
   ·subst hbc
    have e2:((b.toNat:Int)==(b.toNat:Int))=true:=beq_self_eq_true _
    rw[e2,cond_true,yh hf (by omega),Option.bind_some,c9 (by simp;omega)]
    simp only[Option.bind_some]
    rw[cM (n:=(i:Int)+1) (by omega) (by omega)]
    have e3:(i:Int)+1=((i+1:Nat):Int):=by omega
    rw[e3]
    have:=ih (i+1) (i+1) (out++[⟨((s.data.toList.drop f).take (i - f)).toArray⟩]) (by omega) (Nat.le_refl _) (by simp;omega) (by simp)
    unfold wj at this
    rw[this,tO hf hfree hb]
    simp
   ·have e2:((b.toNat:Int)==(c.toNat:Int))=false:=by
     rw[Bool.eq_false_iff]
     exact fun h=>hbc ((BR b c).1 h)
    rw[e2,cond_false]
    simp only[Option.bind_some]
    rw[cM (n:=(i:Int)+1) (by omega) (by omega)]
    have e3:(i:Int)+1=((i+1:Nat):Int):=by omega
    rw[e3]
    have:=ih (i+1) f out (by omega) (by omega) (by omega) (by
     have h1:(s.data.toList.drop f).take (i+1 - f)=(s.data.toList.drop f).take (i - f)++[b]:=by
      rw[show i+1 - f=(i - f)+1 from by omega,List.take_add_one,List.getElem?_drop,show f+(i - f)=i from by omega,hb]
      rfl
     rw[h1]
     intro h
     rcases List.mem_append.1 h with h | h
     ·exact hfree h
     ·exact hbc (List.mem_singleton.1 h).symm)
    unfold wj at this
    rw[this]
 unfold gi
 have:=key s.size 0 0 [] (by omega) (Nat.le_refl _) (by simp) (by simp)
 rw[show(0:Int)=((0:Nat):Int)from rfl,this]
 simp[cC]
theorem qH(s:ByteArray)(hs:s.size≤4294967280):gP s=some (cC s 32):=by
 unfold gP strings_Split
 have h:(ByteArray.mk #[32]).data.toList=[32]:=rfl
 rw[h]
 dsimp only
 rw[decide_eq_true (by omega),cond_true]
 rfl
theorem qn(s:ByteArray)(c:UInt8):(cC s c).length≤s.size+1:=by
 unfold cC
 rw[List.length_map,mI]
 have h1:s.data.toList.count c≤s.data.toList.length:=List.count_le_length
 have:=rc s
 omega
def eC(s:ByteArray):Bool:=decide ((cC s 32).length≤8)&&(cC s 32).all cq
theorem iu(L:List ByteArray)(hL:L.length≤9223372036854775807)(h: ∀x∈L,x.size≤maxLen):dQ L=some (L.all cq):=by
 unfold dQ
 rw[jw hL (fun x=> !cq x) false (fun j x hx=>by
  rw[bh,hx,Option.bind_some,jL x (h x (List.mem_of_getElem? hx)),Option.bind_some]),←List.not_all_eq_any_not]
 cases L.all cq<;>rfl
theorem jZ(s:ByteArray)(hs:s.size≤4294967280):dP s=some (eC s):=by
 unfold dP eC
 have hl:=qn s 32
 rw[qH s hs,Option.bind_some,iu _ (by omega) (fun x hx=>by have:=lB hx;unfold maxLen;omega)]
 by_cases h:(cC s 32).length≤8
 ·rw[decide_eq_true (show((cC s 32).length:Int)≤8 by omega),decide_eq_true h]
  rfl
 ·rw[decide_eq_false (show ¬((cC s 32).length:Int)≤8 by omega),decide_eq_false h]
  rfl
def vj(s:ByteArray):List ByteArray×Bool:=bif(cC s 32).all cq then(cC s 32,decide ((cC s 32).length≤8))else([],false)
theorem ql(s:ByteArray)(hs:s.size≤4294967280):fu s=some (vj s):=by
 unfold fu vj
 have hl:=qn s 32
 rw[show(32:Int)=((32:UInt8).toNat:Int)from rfl,qO s 32 hs,Option.bind_some,jw (by omega) (fun x=> !cq x) (([]:List ByteArray),false) (fun j x hx=>by
  rw[bh,hx,Option.bind_some,eu x (by have:=lB (List.mem_of_getElem? hx);unfold maxLen;omega),Option.bind_some]),←List.not_all_eq_any_not]
 have e:decide (((cC s 32).length:Int)≤8)=decide ((cC s 32).length≤8):=by
  by_cases h:(cC s 32).length≤8
  ·rw[decide_eq_true (show((cC s 32).length:Int)≤8 by omega),decide_eq_true h]
  ·rw[decide_eq_false (show ¬((cC s 32).length:Int)≤8 by omega),decide_eq_false h]
 rw[e]
 cases (cC s 32).all cq<;>rfl
theorem ke(s:ByteArray)(hs:s.size≤4294967280):dS s=some (eC s):=by
 unfold dS eC
 rw[ql s hs,Option.bind_some]
 unfold vj
 cases (cC s 32).all cq
 ·simp
 ·simp
theorem iv{s:ByteArray}(h:cq s=true):1≤s.size∧s.size≤16:=by
 unfold cq at h
 rw[Bool.and_eq_true,ey]at h
 omega
end Go.Proofs.YtdejeagdkfokfaaGreatDoor.Sh
