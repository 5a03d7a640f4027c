/- Links: AreLinks, ChildrenIn, the end of links, of both; bounds on lengths alone. -/
import Derived.Test.YtdejeagdkfokfaaGreatDoorMCH1
import Derived.Test.YtdejeagdkfokfaaGreatDoorMST1
namespace Go.Proofs.YtdejeagdkfokfaaGreatDoor.Sh
open Go.RowKit Go.Lib
theorem AY{L:List ax}(hL:L.length≤1048576):(L.any fun l=>L.any fun m=>dD l.Years.From m.Years.From m.Years.To&&nY L m.Child l.Years.From)=o0 L:=by
 unfold o0
 rw[Bool.eq_iff_iff]
 simp only[List.any_eq_true,Bool.and_eq_true]
 constructor
 ·rintro⟨l,hl,m,hm,_,h⟩
  exact⟨l,hl,m,hm,h⟩
 ·rintro⟨l,hl,m,hm,h⟩
  obtain⟨d,hd,h2⟩:=zl (by omega) h
  unfold qe at h2
  rw[Bool.and_eq_true]at h2
  refine⟨l,hl,d,hd,h2.2,?_⟩
  rw[nV.1 h2.1]
  exact h
theorem kR{L:List ax}(hL:L.length≤1048576)(h: ∀x∈L,LkR x):eh L=some (fa L):=by
 unfold eh
 rw[fb (by omega) (uZ L) (fun _ _=>false) (fun i x hx=>by
  have hi:i<L.length:=(List.getElem?_eq_some_iff.1 hx).1
  rw[bk,hx,Option.bind_some,yB (h x (List.mem_of_getElem? hx)),Option.bind_some]
  unfold uZ
  cases kH x
  ·rfl
  rw[Bool.not_true,cond_false,qI (by omega) (by omega) (by omega),Option.bind_some]
  unfold bJ bV gU dV
  simp only[Int.toNat_zero,List.drop_zero,Int.toNat_natCast,Nat.sub_zero]
  rw[iQ (L:=L.take i) (by rw[List.length_take];omega) (rD x) (fun k z hz=>by
   rw[bk,hz,Option.bind_some]
   unfold rD
   cases z.Child.toList==x.Child.toList<;>rfl)]
  simp only[Option.bind_some,iA]
  cases (L.take i).any (rD x)<;>rfl),eZ]
 unfold fa
 cases hf:(cb (uZ L) (fun _ _=>()) L 0).isSome
 ·have hok:okL L=true:=by unfold okL;rw[hf];rfl
  have hlk:=(xZ.1 hok).1
  rw[hok,Bool.true_and]
  simp only[cond_false]
  rw[kq (by omega) (fun l=>L.any fun m=>dD l.Years.From m.Years.From m.Years.To&&nY L m.Child l.Years.From) false (fun i x hx=>by
   rw[bk,hx,Option.bind_some,mI (A:=Unit⊕Bool) hL (fun m=>dD x.Years.From m.Years.From m.Years.To&&nY L m.Child x.Years.From) (.inr false) (fun k m hm=>by
    have hmm:=List.mem_of_getElem? hm
    have h5:=hlk m hmm
    unfold kH at h5
    rw[Bool.and_eq_true]at h5
    rw[bk,hm,Option.bind_some]
    unfold bN
    rw[dd,Option.bind_some,Option.bind_some,(vd hL hlk (jh h5.1).1 _).1,Option.bind_some]
    cases dD x.Years.From m.Years.From m.Years.To<;>cases nY L m.Child x.Years.From<;>rfl)]),AY hL,show(20:Int)=((20:Nat):Int)from rfl,ru]
  cases o0 L<;>cases decide (L.length≤20)<;>rfl
 ·have hok:okL L=false:=by unfold okL;rw[hf];rfl
  rw[hok]
  rfl
theorem kW{L:List ax}(hL:L.length≤1048576)(h: ∀x∈L,LkR x):eo L=some (fa L):=by
 unfold eo
 rw[fb (by omega) (uZ L) (fun _ _=>false) (fun i x hx=>by
  have hi:i<L.length:=(List.getElem?_eq_some_iff.1 hx).1
  have hl:(L.take i).length=i:=by rw[List.length_take];omega
  rw[bk,hx,Option.bind_some,yS (h x (List.mem_of_getElem? hx)),Option.bind_some]
  unfold uZ
  cases kH x
  ·rfl
  have:=mI (A:=Unit⊕Bool) (L:=L.take i) (by omega) (B:=fun(i9:Int) (_:Unit)=>((((at' L i9).bind fun x13=>((some x).bind fun x14=>(bif(x13.Child.toList==x14.Child.toList)then((at' L i9).bind fun x15=>((some x).bind fun x16=>((dH x15.Years x16.Years).bind fun x17=>some x17)))else some false)))).bind fun(j18:Bool)=>(bif j18 then some (.inr (.inr (.inr false)))else some (.inl ())))) (rD x) (.inr false) (fun k z hz=>by
   have hz':L[k]? =some z:=by
    have hk:k<i:=by have:=(List.getElem?_eq_some_iff.1 hz).1;omega
    rw[←hz,List.getElem?_take_of_lt hk]
   unfold rD dH
   simp only[bk,hz',hx,Option.bind_some]
   cases z.Child.toList==x.Child.toList<;>rfl)
  rw[hl]at this
  exact this),eZ]
 unfold fa
 cases hf:(cb (uZ L) (fun _ _=>()) L 0).isSome
 ·have hok:okL L=true:=by unfold okL;rw[hf];rfl
  have hlk:=(xZ.1 hok).1
  rw[hok,Bool.true_and]
  simp only[cond_false]
  rw[kq (by omega) (fun l=>L.any fun m=>nY L m.Child l.Years.From) false (fun i x hx=>by
   rw[mI (A:=Unit⊕Bool) hL (fun m=>nY L m.Child x.Years.From) (.inr false) (fun k m hm=>by
    have hmm:=List.mem_of_getElem? hm
    have h5:=hlk m hmm
    unfold kH at h5
    rw[Bool.and_eq_true]at h5
    obtain⟨l,h6⟩:=(vd hL hlk (jh h5.1).1 x.Years.From).2
    simp only[bk,hm,hx,Option.bind_some,h6,Bool.not_not]
    try (cases nY L m.Child x.Years.From<;>rfl))])]
  have e:decide ((L.length:Int)>20)= !decide (L.length≤20):=by
   by_cases hh:L.length≤20
   ·rw[decide_eq_true hh,decide_eq_false (by omega)];rfl
   ·rw[decide_eq_false hh,decide_eq_true (by omega)];rfl
  rw[e]
  unfold o0
  cases (L.any fun l=>L.any fun m=>nY L m.Child l.Years.From)<;>cases decide (L.length≤20)<;>rfl
 ·have hok:okL L=false:=by unfold okL;rw[hf];rfl
  rw[hok]
  rfl
end Go.Proofs.YtdejeagdkfokfaaGreatDoor.Sh
