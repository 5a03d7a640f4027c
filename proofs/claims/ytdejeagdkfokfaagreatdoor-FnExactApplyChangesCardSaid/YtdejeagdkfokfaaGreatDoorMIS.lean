/- Plain laws: the insertion sort of the library, as a list that is built in order; no condition but a bound on the length. -/
import Derived.Test.YtdejeagdkfokfaaGreatDoorL0
namespace Go.Proofs.YtdejeagdkfokfaaGreatDoor.Sh
open Go.RowKit
section
variable {α : Type}
def pR(lt:α→α→Bool)(A:List α)(x:α):List α:=A.takeWhile (fun y=>lt y x)++x::A.dropWhile (fun y=>lt y x)
theorem yN{lt:α→α→Bool}{A:List α}{x z:α}:z∈pR lt A x↔z=x∨z∈A:=by
 unfold pR
 have:=List.takeWhile_append_dropWhile (p:=fun y=>lt y x) (l:=A)
 conv=>rhs;rw[←this]
 simp only[List.mem_append,List.mem_cons]
 constructor
 ·rintro(h | h | h)
  ·exact .inr (.inl h)
  ·exact .inl h
  ·exact .inr (.inr h)
 ·rintro(h | h | h)
  ·exact .inr (.inl h)
  ·exact .inl h
  ·exact .inr (.inr h)
theorem yM{lt:α→α→Bool}{A:List α}{x:α}:(pR lt A x).length=A.length+1:=by
 unfold pR
 have:=congrArg List.length (List.takeWhile_append_dropWhile (p:=fun y=>lt y x) (l:=A))
 rw[List.length_append]at this
 rw[List.length_append,List.length_cons]
 omega
theorem nf{lt:α→α→Bool}(tr: ∀a b c,lt a b=true→lt b c=true→lt a c=true){x:α}: ∀{A:List α},A.Pairwise (fun a b=>lt a b=true)→(∀y∈A,lt y x=true∨lt x y=true)→ ∀y∈A.dropWhile (fun y=>lt y x),lt x y=true
 | [],_,_,y,hy=>by cases hy
 | a::A,hp,ht,y,hy=>by
  rw[List.dropWhile_cons]at hy
  have hp2:=List.pairwise_cons.1 hp
  split at hy
  ·exact nf tr hp2.2 (fun z hz=>ht z (List.mem_cons_of_mem _ hz)) y hy
  ·rename_i hn
   have hx:lt x a=true:=(ht a List.mem_cons_self).resolve_left (by simpa using hn)
   rcases List.mem_cons.1 hy with rfl | hy
   ·exact hx
   ·exact tr _ _ _ hx (hp2.1 y hy)
theorem ux{lt:α→α→Bool}(tr: ∀a b c,lt a b=true→lt b c=true→lt a c=true){x:α}{A:List α}(hp:A.Pairwise (fun a b=>lt a b=true))(ht: ∀y∈A,lt y x=true∨lt x y=true):(pR lt A x).Pairwise (fun a b=>lt a b=true):=by
 have hd:=nf tr hp ht
 have hs:=List.takeWhile_append_dropWhile (p:=fun y=>lt y x) (l:=A)
 have htw: ∀y∈A.takeWhile (fun y=>lt y x),lt y x=true:=fun y hy=>by
  have:=List.all_takeWhile (p:=fun y=>lt y x) (l:=A)
  exact List.all_eq_true.1 this y hy
 unfold pR
 rw[←hs]at hp
 obtain⟨h1,h2,h3⟩:=List.pairwise_append.1 hp
 refine List.pairwise_append.2 ⟨h1,List.pairwise_cons.2 ⟨hd,h2⟩,fun a ha b hb=> ?_⟩
 rcases List.mem_cons.1 hb with rfl | hb
 ·exact htw a ha
 ·exact tr _ _ _ (htw a ha) (hd b hb)
theorem nj{lt:α→α→Bool}(asy: ∀a b,lt a b=true→lt b a=false): ∀{A B:List α},A.Pairwise (fun a b=>lt a b=true)→B.Pairwise (fun a b=>lt a b=true)→(∀z,z∈A↔z∈B)→A=B
 | [],[],_,_,_=>rfl
 | [],b::B,_,_,h=>by have:=(h b).2 List.mem_cons_self;cases this
 | a::A,[],_,_,h=>by have:=(h a).1 List.mem_cons_self;cases this
 | a::A,b::B,hA,hB,h=>by
  have hA2:=List.pairwise_cons.1 hA
  have hB2:=List.pairwise_cons.1 hB
  have irr: ∀x,lt x x=true→False:=fun x hx=>by
   have:=asy x x hx
   rw[hx]at this
   cases this
  have e:a=b:=by
   rcases List.mem_cons.1 ((h a).1 List.mem_cons_self)with h1 | h1
   ·exact h1
   ·rcases List.mem_cons.1 ((h b).2 List.mem_cons_self)with h2 | h2
    ·exact h2.symm
    ·have:=asy _ _ (hB2.1 a h1)
     rw[hA2.1 b h2]at this
     cases this
  subst e
  congr 1
  refine nj asy hA2.2 hB2.2 fun z=> ?_
  constructor
  ·intro hz
   rcases List.mem_cons.1 ((h z).1 (List.mem_cons_of_mem _ hz))with h1 | h1
   ·subst h1
    exact(irr _ (hA2.1 _ hz)).elim
   ·exact h1
  ·intro hz
   rcases List.mem_cons.1 ((h z).2 (List.mem_cons_of_mem _ hz))with h1 | h1
   ·subst h1
    exact(irr _ (hB2.1 _ hz)).elim
   ·exact h1
end
end Go.Proofs.YtdejeagdkfokfaaGreatDoor.Sh
