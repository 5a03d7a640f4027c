/- Texts in order without doubles: the library's way and the reference's; bounds on lengths alone. -/
import Derived.Test.YtdejeagdkfokfaaGreatDoorMPL2
import Derived.Test.YtdejeagdkfokfaaGreatDoorMIS
import Derived.Test.YtdejeagdkfokfaaGreatDoorKO
import Derived.Test.YtdejeagdkfokfaaGreatDoorGA
import Derived.Test.YtdejeagdkfokfaaGreatDoorGD
import Derived.Test.YtdejeagdkfokfaaGreatDoorGE
namespace Go.Proofs.YtdejeagdkfokfaaGreatDoor.Sh
open Go.RowKit Go.Lib
theorem yK: ∀{x y:List UInt8},Op.bytesLess x y=true↔x<y
 | [],[]=>by simp[Op.bytesLess]
 | [],b::y=>by simp[Op.bytesLess]
 | a::x,[]=>by simp[Op.bytesLess]
 | a::x,b::y=>by
  rw[nv,List.cons_lt_cons_iff,yK,UInt8.lt_iff_toNat_lt]
theorem wU{x y:List UInt8}:decide (x≤y)= !Op.bytesLess y x:=by
 rw[Bool.eq_iff_iff,decide_eq_true_eq,Bool.not_eq_true',Bool.eq_false_iff,ne_eq,yK,List.not_lt]
theorem uq{x y:List UInt8}(h:Op.bytesLess x y=true):Op.bytesLess y x=false:=by
 rw[Bool.eq_false_iff]
 intro k
 have:=lQ h k
 rw[mj]at this
 cases this
theorem ur{x y z:List UInt8}(h:Op.bytesLess y x=false)(k:Op.bytesLess y z=true):Op.bytesLess x z=true:=by
 cases hxy:Op.bytesLess x y
 ·rw[ny hxy h]
  exact k
 ·exact lQ hxy k
theorem rN(L:List (List UInt8)):(L.mergeSort fun x y=>decide (x≤y)).Pairwise fun a b=>Op.bytesLess b a=false:=by
 have:=List.pairwise_mergeSort (le:=fun x y:List UInt8=>decide (x≤y)) (fun a b c h1 h2=> ?_) (fun a b=> ?_) L
 ·exact this.imp fun{a b} h=>by rw[wU]at h;simpa using h
 ·rw[wU,Bool.not_eq_true']at*
  cases hca:Op.bytesLess c a with
  | false=>rfl
  | true=>
   have:=ur h2 hca
   rw[h1]at this
   cases this
 ·rw[wU,wU]
  cases hab:Op.bytesLess a b
  ·simp
  ·rw[uq hab]
   simp
theorem qt{D:List (List UInt8)}(h:D.Pairwise fun a b=>Op.bytesLess b a=false):(Lib.compact D).Pairwise (fun a b=>Op.bytesLess a b=true):=by
 have hat: ∀j,j<D.length→D.toArray[j]! =D.getD j []:=fun j hj=>by
  rw[getElem!_pos D.toArray j (by simpa using hj)]
  simp[List.getD_eq_getElem?_getD,List.getElem?_eq_getElem hj]
 have hle: ∀i j,i<j→j<D.length→Op.bytesLess (D.getD j []) (D.getD i [])=false:=fun i j hij hj=>by
  rw[List.pairwise_iff_getElem]at h
  have:=h i j (by omega) hj hij
  simpa [List.getD_eq_getElem?_getD,List.getElem?_eq_getElem hj,List.getElem?_eq_getElem (show i<D.length by omega)]using this
 unfold Lib.compact Lib.compactUpTo
 rw[List.pairwise_map,List.pairwise_filter]
 refine(List.pairwise_lt_range (n:=D.length)).imp_of_mem fun{i j} hi hj hij _ hk=> ?_
 have hj:=List.mem_range.1 hj
 unfold Lib.keeps at hk
 rw[decide_eq_true_eq]at hk
 have hk:=hk.resolve_left (by omega)
 rw[hat j hj,hat (j - 1) (by omega)]at hk
 rw[hat i (by omega),hat j hj]
 have h1:=hle (j - 1) j (by omega) hj
 have h2:Op.bytesLess (D.getD (j - 1) []) (D.getD j [])=true:=by
  cases hb:Op.bytesLess (D.getD (j - 1) []) (D.getD j [])with
  | true=>rfl
  | false=>exact absurd (ny h1 hb) hk
 by_cases hi1:i=j - 1
 ·rw[hi1]
  exact h2
 ·exact ur (hle i (j - 1) (by omega) (by omega)) h2
theorem pb{D:List (List UInt8)}{x:List UInt8}:x∈Lib.compact D↔x∈D:=by
 unfold Lib.compact Lib.compactUpTo
 rw[List.mem_map]
 constructor
 ·rintro⟨j,hj,rfl⟩
  rw[List.mem_filter,List.mem_range]at hj
  rw[getElem!_pos D.toArray j (by simpa using hj.1)]
  simp
 ·intro hx
  obtain⟨j,hj,rfl⟩:=List.mem_iff_getElem.1 hx
  have key: ∀k (hk:k<D.length),∃i,i<D.length∧Lib.keeps D.toArray i=true∧D.toArray[i]! =D[k]:=by
   intro k
   induction k with
   | zero=>
    intro hk
    refine⟨0,hk,Lib.keeps_lt_one _ 0 (by omega),?_⟩
    rw[getElem!_pos D.toArray 0 (by simpa using hk)]
    simp
   | succ k ih=>
    intro hk
    have e1:D.toArray[k+1]! =D[k+1]:=by
     rw[getElem!_pos D.toArray (k+1) (by simpa using hk)]
     simp
    have e2:D.toArray[k]! =D[k]:=by
     rw[getElem!_pos D.toArray k (by simp;omega)]
     simp
    by_cases he:D[k+1]=D[k]
    ·obtain⟨i,h1,h2,h3⟩:=ih (by omega)
     exact⟨i,h1,h2,by rw[h3,he]⟩
    ·refine⟨k+1,hk,Lib.keeps_pos ?_,e1⟩
     rw[e1,show k+1 - 1=k by omega,e2]
     exact he
  obtain⟨i,h1,h2,h3⟩:=key j hj
  exact⟨i,by rw[List.mem_filter,List.mem_range];exact⟨h1,h2⟩,h3⟩
theorem uZ(x y:ByteArray):gu x y=Op.bytesLess x.data.toList y.data.toList:=by
 unfold gu
 rw[Lib.toList_data,Lib.toList_data]
theorem q9(L:List ByteArray):(gO L).Pairwise fun a b=>gu a b=true:=by
 unfold gO pa kq
 rw[List.pairwise_map,List.map_map]
 have e:((fun s:ByteArray=>s.data.toList)∘fun l:List UInt8=>(⟨l.toArray⟩:ByteArray))=id:=by funext l;rfl
 rw[e,List.map_id]
 refine(qt (rN (L.map fun s=>s.data.toList))).imp fun{a b} h=> ?_
 rw[uZ]
 simpa using h
theorem pq{L:List ByteArray}{s:ByteArray}:s∈gO L↔s∈L:=by
 unfold gO pa
 rw[List.mem_map]
 constructor
 ·rintro⟨l,hl,rfl⟩
  rw[pb]at hl
  obtain⟨t,ht,rfl⟩:=List.mem_map.1 hl
  exact oU.1 ht
 ·intro h
  refine⟨s.data.toList,pb.2 (List.mem_map.2 ⟨s,oU.2 h,rfl⟩),rfl⟩
theorem wo(x:ByteArray):gu x x=false:=mj _
theorem xZ{x y z:ByteArray}(h:gu x y=true)(k:gu y z=true):gu x z=true:=lQ h k
theorem xX{x y:ByteArray}(h:gu x y=true):gu y x=false:=uq h
theorem xY{x y:ByteArray}(h:x≠y):gu x y=true∨gu y x=true:=by
 cases h1:gu x y with
 | true=>exact .inl rfl
 | false=>
  cases h2:gu y x with
  | true=>exact .inr rfl
  | false=>
   rw[uZ]at h1 h2
   have:=ny h1 h2
   exfalso
   apply h
   obtain⟨x⟩:=x
   obtain⟨y⟩:=y
   exact congrArg ByteArray.mk (Array.toList_inj.1 this)
theorem wP{A B:List ByteArray}(hA:A.Pairwise fun a b=>gu a b=true)(hB:B.Pairwise fun a b=>gu a b=true)(h: ∀z,z∈A↔z∈B):A=B:=mT (fun _ _=>xX) hA hB h
open Classical in
noncomputable def k9(A:List ByteArray)(x:ByteArray):List ByteArray:=if x∈A then A else pn gu A x
theorem uN{A:List ByteArray}{x z:ByteArray}:z∈k9 A x↔z=x∨z∈A:=by
 unfold k9
 by_cases h:x∈A
 ·rw[if_pos h]
  exact⟨.inr,fun h2=>h2.elim (fun e=>e▸h) id⟩
 ·rw[if_neg h,ye]
theorem uM(A:List ByteArray)(x:ByteArray):(k9 A x).length≤A.length+1:=by
 unfold k9
 split
 ·omega
 ·rw[yd];omega
theorem jm{A:List ByteArray}{x:ByteArray}(h:A.Pairwise fun a b=>gu a b=true):(k9 A x).Pairwise fun a b=>gu a b=true:=by
 unfold k9
 split
 ·exact h
 ·rename_i hx
  exact tJ (lt:=gu) (fun _ _ _=>xZ) h fun y hy=>xY fun e=>hx (by rw[←e];exact hy)
theorem BZ{x:ByteArray}: ∀{A:List ByteArray},A.Pairwise (fun a b=>gu a b=true)→x∈A→A[(A.takeWhile fun y=>gu y x).length]? =some x
 | [],_,h=>by cases h
 | a::A,hp,h=>by
  have hp2:=List.pairwise_cons.1 hp
  rw[List.takeWhile_cons]
  rcases List.mem_cons.1 h with rfl | h
  ·rw[wo]
   rfl
  ·rw[hp2.1 x h]
   simpa using BZ hp2.2 h
theorem su{A:List ByteArray}{x:ByteArray}(hA:A.length≤1000000)(hs:A.Pairwise fun a b=>gu a b=true):db A x=some (k9 A x):=by
 unfold db
 have key: ∀(M D:List ByteArray),A=D++M→loop (fun(s3:Int)=>(((bif(decide (s3<(A.length:Int)))then((at' A s3).bind fun x5=>some (Op.bytesLess x5.toList x.toList))else some false)).bind fun(j6:Bool)=>(bif j6 then some (.inl (aJ (s3+1)))else some (.inr s3)))) (D.length:Int)=some (((D.length+(M.takeWhile fun y=>gu y x).length:Nat)):Int):=by
  intro M
  induction M with
  | nil=>
   intro D hD
   rw[ep,decide_eq_false (show ¬(D.length:Int)<(A.length:Int) by rw[hD];simp)]
   rfl
  | cons y M ih=>
   intro D hD
   have hy:A[D.length]? =some y:=by rw[hD];simp
   have hlt:D.length<A.length:=(List.getElem?_eq_some_iff.1 hy).1
   rw[ep,decide_eq_true (show(D.length:Int)<(A.length:Int) by omega),cond_true,bg,hy,Option.bind_some,Option.bind_some,List.takeWhile_cons]
   have e:Op.bytesLess y.toList x.toList=gu y x:=rfl
   rw[e]
   cases hb:gu y x
   ·simp
   ·simp only[cond_true]
    rw[bp (by omega) (by omega)]
    have:=ih (D++[y]) (by rw[hD];simp)
    rw[List.length_append,List.length_singleton]at this
    rw[show(D.length:Int)+1=((D.length+1:Nat):Int) by omega,this]
    congr 2
    simp
    omega
 have k0:=key A [] rfl
 rw[List.length_nil,Nat.zero_add]at k0
 rw[show(0:Int)=((0:Nat):Int)from rfl,k0,Option.bind_some]
 have hs1:=List.takeWhile_append_dropWhile (p:=fun y=>gu y x) (l:=A)
 have hl:=congrArg List.length hs1
 rw[List.length_append]at hl
 unfold k9
 by_cases hx:x∈A
 ·have h1:=BZ hs hx
  have hlt:=(List.getElem?_eq_some_iff.1 h1).1
  rw[if_pos hx,decide_eq_true (show(((A.takeWhile fun y=>gu y x).length:Nat):Int)<(A.length:Int) by omega),cond_true,bg,h1,Option.bind_some,Option.bind_some]
  simp
 ·rw[if_neg hx]
  have e1:A.take (A.takeWhile fun y=>gu y x).length=A.takeWhile fun y=>gu y x:=by
   conv=>lhs;arg 2;rw[←hs1]
   rw[List.take_left]
  have e2:A.drop (A.takeWhile fun y=>gu y x).length=A.dropWhile fun y=>gu y x:=by
   conv=>lhs;arg 2;rw[←hs1]
   rw[List.drop_left]
  have ht:(((bif(decide (((A.takeWhile fun y=>gu y x).length:Int)<(A.length:Int)))then((at' A ((A.takeWhile fun y=>gu y x).length:Int)).bind fun x8=>some (x8.toList==x.toList))else some false)):Option Bool)=some false:=by
   by_cases hlt:(A.takeWhile fun y=>gu y x).length<A.length
   ·have hy:A[(A.takeWhile fun y=>gu y x).length]? =some (A[(A.takeWhile fun y=>gu y x).length]'hlt):=List.getElem?_eq_getElem _
    generalize A[(A.takeWhile fun y=>gu y x).length]'hlt=y at hy
    rw[decide_eq_true (by omega),cond_true,bg,hy,Option.bind_some]
    cases hq:y.toList==x.toList with
    | false=>rfl
    | true=>
     exfalso
     apply hx
     have:y=x:=by
      rw[beq_iff_eq,Lib.toList_data,Lib.toList_data]at hq
      obtain⟨x⟩:=x
      obtain⟨y⟩:=y
      exact congrArg ByteArray.mk (Array.toList_inj.1 hq)
     rw[←this]
     exact List.mem_of_getElem? hy
   ·rw[decide_eq_false (by omega)]
    rfl
  rw[ht]
  simp only[Option.bind_some,cond_false]
  rw[qd (by omega) (by omega) (by omega),Option.bind_some]
  simp only[Int.toNat_natCast,List.drop_zero,Nat.sub_zero,e1]
  rw[da (by simp;omega),Option.bind_some,List.nil_append,da (by simp;omega),Option.bind_some,qd (by omega) (by omega) (by omega),Option.bind_some]
  simp only[Int.toNat_natCast,e2]
  have e3:(A.dropWhile fun y=>gu y x).take (A.length -(A.takeWhile fun y=>gu y x).length)=A.dropWhile fun y=>gu y x:=List.take_of_length_le (by omega)
  rw[e3,da (by simp;omega),Option.bind_some]
  unfold pn
  simp
theorem vk(L:List ByteArray):(gO L).length≤L.length:=by
 unfold gO pa
 rw[List.length_map]
 have:=uB ((kq L).map fun s=>s.data.toList)
 rw[List.length_map,my]at this
 exact this
end Go.Proofs.YtdejeagdkfokfaaGreatDoor.Sh
