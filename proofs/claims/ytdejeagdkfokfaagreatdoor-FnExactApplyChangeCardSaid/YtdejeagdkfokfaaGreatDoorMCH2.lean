/- Links: AreLinks, ChildrenIn, the end of links, of both; bounds on lengths alone. -/
import Derived.Test.YtdejeagdkfokfaaGreatDoorMCH1
import Derived.Test.YtdejeagdkfokfaaGreatDoorMST1
namespace Go.Proofs.YtdejeagdkfokfaaGreatDoor.Sh
open Go.RowKit Go.Lib
theorem Ao{L:List aw}(hL:L.length≤1048576):(L.any fun l=>L.any fun m=>dy l.Years.From m.Years.From m.Years.To&&nz L m.Child l.Years.From)=ox L:=by
 unfold ox
 rw[Bool.eq_iff_iff]
 simp only[List.any_eq_true,Bool.and_eq_true]
 constructor
 ·rintro⟨l,hl,m,hm,_,h⟩
  exact⟨l,hl,m,hm,h⟩
 ·rintro⟨l,hl,m,hm,h⟩
  obtain⟨d,hd,h2⟩:=yN (by omega) h
  unfold pK at h2
  rw[Bool.and_eq_true]at h2
  refine⟨l,hl,d,hd,h2.2,?_⟩
  rw[nu.1 h2.1]
  exact h
theorem kM{L:List aw}(hL:L.length≤1048576)(h: ∀x∈L,LkR x):ee L=some (eY L):=by
 unfold ee
 rw[eZ (by omega) (um L) (fun _ _=>false) (fun i x hx=>by
  have hi:i<L.length:=(List.getElem?_eq_some_iff.1 hx).1
  rw[bg,hx,Option.bind_some,xS (h x (List.mem_of_getElem? hx)),Option.bind_some]
  unfold um
  cases kD x
  ·rfl
  rw[Bool.not_true,cond_false,qd (by omega) (by omega) (by omega),Option.bind_some]
  unfold bD bP gI dR
  simp only[Int.toNat_zero,List.drop_zero,Int.toNat_natCast,Nat.sub_zero]
  rw[iD (L:=L.take i) (by rw[List.length_take];omega) (qR x) (fun k z hz=>by
   rw[bg,hz,Option.bind_some]
   unfold qR
   cases z.Child.toList==x.Child.toList<;>rfl)]
  simp only[Option.bind_some,ie]
  cases (L.take i).any (qR x)<;>rfl),eW]
 unfold eY
 cases hf:(bY (um L) (fun _ _=>()) L 0).isSome
 ·have hok:okL L=true:=by unfold okL;rw[hf];rfl
  have hlk:=(xn.1 hok).1
  rw[hok,Bool.true_and]
  simp only[cond_false]
  rw[kk (by omega) (fun l=>L.any fun m=>dy l.Years.From m.Years.From m.Years.To&&nz L m.Child l.Years.From) false (fun i x hx=>by
   rw[bg,hx,Option.bind_some,mo (A:=Unit⊕Bool) hL (fun m=>dy x.Years.From m.Years.From m.Years.To&&nz L m.Child x.Years.From) (.inr false) (fun k m hm=>by
    have hmm:=List.mem_of_getElem? hm
    have h5:=hlk m hmm
    unfold kD at h5
    rw[Bool.and_eq_true]at h5
    rw[bg,hm,Option.bind_some]
    unfold bH
    rw[c7,Option.bind_some,Option.bind_some,(uy hL hlk (iZ h5.1).1 _).1,Option.bind_some]
    cases dy x.Years.From m.Years.From m.Years.To<;>cases nz L m.Child x.Years.From<;>rfl)]),Ao hL,show(20:Int)=((20:Nat):Int)from rfl,qM]
  cases ox L<;>cases decide (L.length≤20)<;>rfl
 ·have hok:okL L=false:=by unfold okL;rw[hf];rfl
  rw[hok]
  rfl
theorem kQ{L:List aw}(hL:L.length≤1048576)(h: ∀x∈L,LkR x):ej L=some (eY L):=by
 unfold ej
 rw[eZ (by omega) (um L) (fun _ _=>false) (fun i x hx=>by
  have hi:i<L.length:=(List.getElem?_eq_some_iff.1 hx).1
  have hl:(L.take i).length=i:=by rw[List.length_take];omega
  rw[bg,hx,Option.bind_some,yj (h x (List.mem_of_getElem? hx)),Option.bind_some]
  unfold um
  cases kD x
  ·rfl
  have:=mo (A:=Unit⊕Bool) (L:=L.take i) (by omega) (B:=fun(i9:Int) (_:Unit)=>((((at' L i9).bind fun x13=>((some x).bind fun x14=>(bif(x13.Child.toList==x14.Child.toList)then((at' L i9).bind fun x15=>((some x).bind fun x16=>((dB x15.Years x16.Years).bind fun x17=>some x17)))else some false)))).bind fun(j18:Bool)=>(bif j18 then some (.inr (.inr (.inr false)))else some (.inl ())))) (qR x) (.inr false) (fun k z hz=>by
   have hz':L[k]? =some z:=by
    have hk:k<i:=by have:=(List.getElem?_eq_some_iff.1 hz).1;omega
    rw[←hz,List.getElem?_take_of_lt hk]
   unfold qR dB
   simp only[bg,hz',hx,Option.bind_some]
   cases z.Child.toList==x.Child.toList<;>rfl)
  rw[hl]at this
  exact this),eW]
 unfold eY
 cases hf:(bY (um L) (fun _ _=>()) L 0).isSome
 ·have hok:okL L=true:=by unfold okL;rw[hf];rfl
  have hlk:=(xn.1 hok).1
  rw[hok,Bool.true_and]
  simp only[cond_false]
  rw[kk (by omega) (fun l=>L.any fun m=>nz L m.Child l.Years.From) false (fun i x hx=>by
   rw[mo (A:=Unit⊕Bool) hL (fun m=>nz L m.Child x.Years.From) (.inr false) (fun k m hm=>by
    have hmm:=List.mem_of_getElem? hm
    have h5:=hlk m hmm
    unfold kD at h5
    rw[Bool.and_eq_true]at h5
    obtain⟨l,h6⟩:=(uy hL hlk (iZ h5.1).1 x.Years.From).2
    simp only[bg,hm,hx,Option.bind_some,h6,Bool.not_not]
    try (cases nz L m.Child x.Years.From<;>rfl))])]
  have e:decide ((L.length:Int)>20)= !decide (L.length≤20):=by
   by_cases hh:L.length≤20
   ·rw[decide_eq_true hh,decide_eq_false (by omega)];rfl
   ·rw[decide_eq_false hh,decide_eq_true (by omega)];rfl
  rw[e]
  unfold ox
  cases (L.any fun l=>L.any fun m=>nz L m.Child l.Years.From)<;>cases decide (L.length≤20)<;>rfl
 ·have hok:okL L=false:=by unfold okL;rw[hf];rfl
  rw[hok]
  rfl
end Go.Proofs.YtdejeagdkfokfaaGreatDoor.Sh
