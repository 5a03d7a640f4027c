/- Links: AreLinks, ChildrenIn, the end of links, of both; bounds on lengths alone. -/
import Derived.Test.YtdejeagdkfokfaaGreatDoorMCH1
import Derived.Test.YtdejeagdkfokfaaGreatDoorMST1
namespace Go.Proofs.YtdejeagdkfokfaaGreatDoor.Sh
open Go.RowKit Go.Lib
theorem yN{L:List au}(hL:L.length≤1048576):(L.any fun l=>L.any fun m=>c6 l.Years.From m.Years.From m.Years.To&&mP L m.Child l.Years.From)=nK L:=by
 unfold nK
 rw[Bool.eq_iff_iff]
 simp only[List.any_eq_true,Bool.and_eq_true]
 constructor
 ·rintro⟨l,hl,m,hm,_,h⟩
  exact⟨l,hl,m,hm,h⟩
 ·rintro⟨l,hl,m,hm,h⟩
  obtain⟨d,hd,h2⟩:=xg (by omega) h
  unfold oZ at h2
  rw[Bool.and_eq_true]at h2
  refine⟨l,hl,d,hd,h2.2,?_⟩
  rw[mM.1 h2.1]
  exact h
theorem jY{L:List au}(hL:L.length≤1048576)(h: ∀x∈L,LkR x):dN L=some (eA L):=by
 unfold dN
 rw[eB (by omega) (sG L) (fun _ _=>false) (fun i x hx=>by
  have hi:i<L.length:=(List.getElem?_eq_some_iff.1 hx).1
  rw[bh,hx,Option.bind_some,wm (h x (List.mem_of_getElem? hx)),Option.bind_some]
  unfold sG
  cases jP x
  ·rfl
  rw[Bool.not_true,cond_false,pu (by omega) (by omega) (by omega),Option.bind_some]
  unfold bC bM gk dC
  simp only[Int.toNat_zero,List.drop_zero,Int.toNat_natCast,Nat.sub_zero]
  rw[gY (L:=L.take i) (by rw[List.length_take];omega) (p6 x) (fun k z hz=>by
   rw[bh,hz,Option.bind_some]
   unfold p6
   cases z.Child.toList==x.Child.toList<;>rfl)]
  simp only[Option.bind_some,gG]
  cases (L.take i).any (p6 x)<;>rfl),ew]
 unfold eA
 cases hf:(bV (sG L) (fun _ _=>()) L 0).isSome
 ·have hok:okL L=true:=by unfold okL;rw[hf];rfl
  have hlk:=(vL.1 hok).1
  rw[hok,Bool.true_and]
  simp only[cond_false]
  rw[jw (by omega) (fun l=>L.any fun m=>c6 l.Years.From m.Years.From m.Years.To&&mP L m.Child l.Years.From) false (fun i x hx=>by
   rw[bh,hx,Option.bind_some,lH (A:=Unit⊕Bool) hL (fun m=>c6 x.Years.From m.Years.From m.Years.To&&mP L m.Child x.Years.From) (.inr false) (fun k m hm=>by
    have hmm:=List.mem_of_getElem? hm
    have h5:=hlk m hmm
    unfold jP at h5
    rw[Bool.and_eq_true]at h5
    rw[bh,hm,Option.bind_some]
    unfold bF
    rw[cX,Option.bind_some,Option.bind_some,(sM hL hlk (iv h5.1).1 _).1,Option.bind_some]
    cases c6 x.Years.From m.Years.From m.Years.To<;>cases mP L m.Child x.Years.From<;>rfl)]),yN hL,show(20:Int)=((20:Nat):Int)from rfl,p3]
  cases nK L<;>cases decide (L.length≤20)<;>rfl
 ·have hok:okL L=false:=by unfold okL;rw[hf];rfl
  rw[hok]
  rfl
theorem kd{L:List au}(hL:L.length≤1048576)(h: ∀x∈L,LkR x):dR L=some (eA L):=by
 unfold dR
 rw[eB (by omega) (sG L) (fun _ _=>false) (fun i x hx=>by
  have hi:i<L.length:=(List.getElem?_eq_some_iff.1 hx).1
  have hl:(L.take i).length=i:=by rw[List.length_take];omega
  rw[bh,hx,Option.bind_some,wL (h x (List.mem_of_getElem? hx)),Option.bind_some]
  unfold sG
  cases jP x
  ·rfl
  have:=lH (A:=Unit⊕Bool) (L:=L.take i) (by omega) (B:=fun(i9:Int) (_:Unit)=>((((at' L i9).bind fun x13=>((some x).bind fun x14=>(bif(x13.Child.toList==x14.Child.toList)then((at' L i9).bind fun x15=>((some x).bind fun x16=>((dh x15.Years x16.Years).bind fun x17=>some x17)))else some false)))).bind fun(j18:Bool)=>(bif j18 then some (.inr (.inr (.inr false)))else some (.inl ())))) (p6 x) (.inr false) (fun k z hz=>by
   have hz':L[k]? =some z:=by
    have hk:k<i:=by have:=(List.getElem?_eq_some_iff.1 hz).1;omega
    rw[←hz,List.getElem?_take_of_lt hk]
   unfold p6 dh
   simp only[bh,hz',hx,Option.bind_some]
   cases z.Child.toList==x.Child.toList<;>rfl)
  rw[hl]at this
  exact this),ew]
 unfold eA
 cases hf:(bV (sG L) (fun _ _=>()) L 0).isSome
 ·have hok:okL L=true:=by unfold okL;rw[hf];rfl
  have hlk:=(vL.1 hok).1
  rw[hok,Bool.true_and]
  simp only[cond_false]
  rw[jw (by omega) (fun l=>L.any fun m=>mP L m.Child l.Years.From) false (fun i x hx=>by
   rw[lH (A:=Unit⊕Bool) hL (fun m=>mP L m.Child x.Years.From) (.inr false) (fun k m hm=>by
    have hmm:=List.mem_of_getElem? hm
    have h5:=hlk m hmm
    unfold jP at h5
    rw[Bool.and_eq_true]at h5
    obtain⟨l,h6⟩:=(sM hL hlk (iv h5.1).1 x.Years.From).2
    simp only[bh,hm,hx,Option.bind_some,h6,Bool.not_not]
    try (cases mP L m.Child x.Years.From<;>rfl))])]
  have e:decide ((L.length:Int)>20)= !decide (L.length≤20):=by
   by_cases hh:L.length≤20
   ·rw[decide_eq_true hh,decide_eq_false (by omega)];rfl
   ·rw[decide_eq_false hh,decide_eq_true (by omega)];rfl
  rw[e]
  unfold nK
  cases (L.any fun l=>L.any fun m=>mP L m.Child l.Years.From)<;>cases decide (L.length≤20)<;>rfl
 ·have hok:okL L=false:=by unfold okL;rw[hf];rfl
  rw[hok]
  rfl
end Go.Proofs.YtdejeagdkfokfaaGreatDoor.Sh
