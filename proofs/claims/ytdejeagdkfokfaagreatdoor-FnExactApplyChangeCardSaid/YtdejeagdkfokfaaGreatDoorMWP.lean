/- Plain laws: splitting at a byte, phrases; no condition but bounds on lengths. -/
import Derived.Test.YtdejeagdkfokfaaGreatDoorMW1
import Derived.Test.YtdejeagdkfokfaaGreatDoorKS
import Derived.Test.YtdejeagdkfokfaaGreatDoorL0
namespace Go.Proofs.YtdejeagdkfokfaaGreatDoor.Sh
open Go.RowKit Go.Lib
theorem sn(s:ByteArray):s.data.toList.length=s.size:=by rw[Array.length_toList];rfl
theorem uI(s:ByteArray)(a b:Nat):s.extract a b=⟨((s.data.toList.drop a).take (b - a)).toArray⟩:=by
 rw[←extract_data]
theorem zN{s:ByteArray}{a b:Nat}(h:a≤b)(hb:b≤s.size):rk s (a:Int) (b:Int)=some ⟨((s.data.toList.drop a).take (b - a)).toArray⟩:=by
 unfold rk
 rw[if_pos ⟨by omega,by omega,by omega⟩,Int.toNat_natCast,Int.toNat_natCast,uI]
theorem Dy(b c:UInt8):(((b.toNat:Int)==(c.toNat:Int))=true)↔b=c:=by
 rw[beq_iff_eq]
 constructor
 ·intro h
  have:b.toNat=c.toNat:=by omega
  exact UInt8.toNat_inj.1 this
 ·intro h;rw[h]
theorem vq{c:UInt8}{l:List UInt8}{f i:Nat}(hf:f≤i)(hfree:c∉(l.drop f).take (i - f))(hi:l[i]? =some c):dm c (l.drop f)=(l.drop f).take (i - f)::dm c (l.drop (i+1)):=by
 have hlt:=(List.getElem?_eq_some_iff.1 hi).1
 have h1:l.drop f=(l.drop f).take (i - f)++c::l.drop (i+1):=by
  have h2:(l.drop f).drop (i - f)=c::l.drop (i+1):=by
   rw[List.drop_drop,show f+(i - f)=i from by omega,List.drop_eq_getElem_cons hlt]
   congr 1
   exact(List.getElem?_eq_some_iff.1 hi).2
  rw[←h2,List.take_append_drop]
 conv=>lhs;rw[h1]
 exact nk hfree
theorem rU(s:ByteArray)(c:UInt8)(hs:s.size≤4294967280):gG s (c.toNat:Int)=some (cR s c):=by
 have hn:s.data.toList.length=s.size:=sn s
 have key: ∀(k i f:Nat) (out:List ByteArray),i+k=s.size→f≤i→out.length≤i→c∉(s.data.toList.drop f).take (i - f)→
   nM (fun(i3:Int) (_:Int×(List ByteArray))=>(decide (i3≤(s.size:Int)))) (fun(i3:Int) (s3:Int×(List ByteArray))=>(((bif(i3==(s.size:Int))then some true else((lD s i3).bind fun x7=>some (x7==(c.toNat:Int))))).bind fun(j8:Bool)=>(bif j8 then((rk s s3.1 i3).bind fun x10=>((ed s3.2 ([x10]:List ByteArray)).bind fun x11=>some ((aJ (i3+1)),x11)))else some (s3.1,s3.2)))) (fun(s3:Int×(List ByteArray))=>s3.2) (i:Int) ((f:Int),out)=some (out++(dm c (s.data.toList.drop f)).map fun l=>⟨l.toArray⟩):=by
  intro k
  induction k with
  | zero=>
   intro i f out hk hf hout hfree
   have hi:i=s.size:=by omega
   unfold nM
   rw[ep]
   dsimp only
   have e1:((i:Int)==(s.size:Int))=true:=by rw[hi];simp
   rw[decide_eq_true (by omega),cond_true,e1,cond_true,Option.bind_some,cond_true,zN hf (by omega),Option.bind_some,da (by simp;omega)]
   simp only[Option.bind_some]
   rw[bp (by omega) (by omega),ep]
   dsimp only
   rw[decide_eq_false (by omega),cond_false]
   have h1:(s.data.toList.drop f).take (i - f)=s.data.toList.drop f:=List.take_of_length_le (by rw[List.length_drop];omega)
   rw[h1]at hfree
   rw[mg hfree,h1]
   rfl
  | succ k ih=>
   intro i f out hk hf hout hfree
   have hlt:i<s.data.toList.length:=by omega
   have hb:s.data.toList[i]? =some s.data.toList[i]:=List.getElem?_eq_getElem hlt
   generalize s.data.toList[i]=b at hb
   unfold nM
   rw[ep]
   dsimp only
   have e1:((i:Int)==(s.size:Int))=false:=by rw[beq_eq_false_iff_ne];omega
   rw[decide_eq_true (by omega),cond_true,e1,cond_false,qp hb,Option.bind_some,Option.bind_some]
   by_cases hbc:b=c
   ·subst hbc
    have e2:((b.toNat:Int)==(b.toNat:Int))=true:=beq_self_eq_true _
    rw[e2,cond_true,zN hf (by omega),Option.bind_some,da (by simp;omega)]
    simp only[Option.bind_some]
    rw[bp (n:=(i:Int)+1) (by omega) (by omega)]
    have e3:(i:Int)+1=((i+1:Nat):Int):=by omega
    rw[e3]
    have:=ih (i+1) (i+1) (out++[⟨((s.data.toList.drop f).take (i - f)).toArray⟩]) (by omega) (Nat.le_refl _) (by simp;omega) (by simp)
    unfold nM at this
    rw[this,vq hf hfree hb]
    simp
   ·have e2:((b.toNat:Int)==(c.toNat:Int))=false:=by
     rw[Bool.eq_false_iff]
     exact fun h=>hbc ((Dy b c).1 h)
    rw[e2,cond_false]
    simp only[Option.bind_some]
    rw[bp (n:=(i:Int)+1) (by omega) (by omega)]
    have e3:(i:Int)+1=((i+1:Nat):Int):=by omega
    rw[e3]
    have:=ih (i+1) f out (by omega) (by omega) (by omega) (by
     have h1:(s.data.toList.drop f).take (i+1 - f)=(s.data.toList.drop f).take (i - f)++[b]:=by
      rw[show i+1 - f=(i - f)+1 from by omega,List.take_add_one,List.getElem?_drop,show f+(i - f)=i from by omega,hb]
      rfl
     rw[h1]
     intro h
     rcases List.mem_append.1 h with h | h
     ·exact hfree h
     ·exact hbc (List.mem_singleton.1 h).symm)
    unfold nM at this
    rw[this]
 unfold gG
 have:=key s.size 0 0 [] (by omega) (Nat.le_refl _) (by simp) (by simp)
 rw[show(0:Int)=((0:Nat):Int)from rfl,this]
 simp[cR]
theorem rL(s:ByteArray)(hs:s.size≤4294967280):iv s=some (cR s 32):=by
 unfold iv strings_Split
 have h:(ByteArray.mk #[32]).data.toList=[32]:=rfl
 rw[h]
 dsimp only
 rw[decide_eq_true (by omega),cond_true]
 rfl
theorem rh(s:ByteArray)(c:UInt8):(cR s c).length≤s.size+1:=by
 unfold cR
 rw[List.length_map,nn]
 have h1:s.data.toList.count c≤s.data.toList.length:=List.count_le_length
 have:=sn s
 omega
def e7(s:ByteArray):Bool:=decide ((cR s 32).length≤8)&&(cR s 32).all cz
theorem iY(L:List ByteArray)(hL:L.length≤9223372036854775807)(h: ∀x∈L,x.size≤maxLen):eh L=some (L.all cz):=by
 unfold eh
 rw[kk hL (fun x=> !cz x) false (fun j x hx=>by
  rw[bg,hx,Option.bind_some,kA x (h x (List.mem_of_getElem? hx)),Option.bind_some]),←List.not_all_eq_any_not]
 cases L.all cz<;>rfl
theorem kN(s:ByteArray)(hs:s.size≤4294967280):eg s=some (e7 s):=by
 unfold eg e7
 have hl:=rh s 32
 rw[rL s hs,Option.bind_some,iY _ (by omega) (fun x hx=>by have:=mh hx;unfold maxLen;omega)]
 by_cases h:(cR s 32).length≤8
 ·rw[decide_eq_true (show((cR s 32).length:Int)≤8 by omega),decide_eq_true h]
  rfl
 ·rw[decide_eq_false (show ¬((cR s 32).length:Int)≤8 by omega),decide_eq_false h]
  rfl
def wR(s:ByteArray):List ByteArray×Bool:=bif(cR s 32).all cz then(cR s 32,decide ((cR s 32).length≤8))else([],false)
theorem re(s:ByteArray)(hs:s.size≤4294967280):fQ s=some (wR s):=by
 unfold fQ wR
 have hl:=rh s 32
 rw[show(32:Int)=((32:UInt8).toNat:Int)from rfl,rU s 32 hs,Option.bind_some,kk (by omega) (fun x=> !cz x) (([]:List ByteArray),false) (fun j x hx=>by
  rw[bg,hx,Option.bind_some,eU x (by have:=mh (List.mem_of_getElem? hx);unfold maxLen;omega),Option.bind_some]),←List.not_all_eq_any_not]
 have e:decide (((cR s 32).length:Int)≤8)=decide ((cR s 32).length≤8):=by
  by_cases h:(cR s 32).length≤8
  ·rw[decide_eq_true (show((cR s 32).length:Int)≤8 by omega),decide_eq_true h]
  ·rw[decide_eq_false (show ¬((cR s 32).length:Int)≤8 by omega),decide_eq_false h]
 rw[e]
 cases (cR s 32).all cz<;>rfl
theorem kR(s:ByteArray)(hs:s.size≤4294967280):ek s=some (e7 s):=by
 unfold ek e7
 rw[re s hs,Option.bind_some]
 unfold wR
 cases (cR s 32).all cz
 ·simp
 ·simp
theorem iZ{s:ByteArray}(h:cz s=true):1≤s.size∧s.size≤16:=by
 unfold cz at h
 rw[Bool.and_eq_true,eX]at h
 omega
end Go.Proofs.YtdejeagdkfokfaaGreatDoor.Sh
