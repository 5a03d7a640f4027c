/- Names: AreNames of both; bounds on lengths alone. -/
import Derived.Test.YtdejeagdkfokfaaGreatDoorMPL1
import Derived.Test.YtdejeagdkfokfaaGreatDoorMPL2
namespace Go.Proofs.YtdejeagdkfokfaaGreatDoor.Sh
open Go.RowKit Go.Lib
def ma(n m:Name):Bool:=(m.Status==0)&&((m.Language.toList==n.Language.toList)&&(decide (m.Years.From≤n.Years.To)&&decide (n.Years.From≤m.Years.To)))
def u4(L:List Name)(i:Nat)(n:Name):Bool:= !pQ n || ((n.Status==0)&&(L.take i).any (ma n))
def ia(L:List Name):Bool:= !(cb (u4 L) (fun _ _=>()) L 0).isSome&&decide (L.length≤12)
theorem ru{α:Type}(L:List α)(k:Nat):decide ((L.length:Int)≤(k:Int))=decide (L.length≤k):=by
 by_cases h:L.length≤k
 ·rw[decide_eq_true h,decide_eq_true (by omega)]
 ·rw[decide_eq_false h,decide_eq_false (by omega)]
theorem ng{L:List Name}(hL:L.length≤1048576)(h: ∀x∈L,NmR x):fA L=some (ia L):=by
 unfold fA bK bX gV cR dV ia
 rw[fb (by omega) (u4 L) (fun _ _=>false) (fun i x hx=>by
  have hi:i<L.length:=(List.getElem?_eq_some_iff.1 hx).1
  rw[bk,hx,Option.bind_some,yC (h x (List.mem_of_getElem? hx)),Option.bind_some]
  unfold u4
  cases pQ x
  ·rfl
  rw[Bool.not_true,cond_false,qI (by omega) (by omega) (by omega),Option.bind_some]
  simp only[Int.toNat_zero,List.drop_zero,Int.toNat_natCast,Nat.sub_zero]
  rw[iQ (L:=L.take i) (by rw[List.length_take];omega) (ma x) (fun k z hz=>by
   rw[bk,hz,Option.bind_some]
   unfold ma
   cases z.Status==0<;>cases z.Language.toList==x.Language.toList<;>rfl)]
  simp only[Option.bind_some,iA]
  cases x.Status==0<;>cases (L.take i).any (ma x)<;>rfl),eZ]
 rw[show(12:Int)=((12:Nat):Int)from rfl,ru]
 cases (cb (u4 L) (fun _ _=>()) L 0).isSome<;>rfl
theorem nn{L:List Name}(hL:L.length≤1048576)(h: ∀x∈L,NmR x):fG L=some (ia L):=by
 unfold fG dH ia
 rw[fb (by omega) (u4 L) (fun _ _=>false) (fun i x hx=>by
  have hi:i<L.length:=(List.getElem?_eq_some_iff.1 hx).1
  have hl:(L.take i).length=i:=by rw[List.length_take];omega
  rw[bk,hx,Option.bind_some,yT (h x (List.mem_of_getElem? hx)),Option.bind_some]
  unfold u4
  cases pQ x
  ·rfl
  have:=mI (A:=Unit⊕Bool) (L:=L.take i) (by omega) (B:=fun(i9:Int) (_:Unit)=>((at' L i9).bind fun x13=>(((bif(x.Status==0)then(bif(x13.Status==0)then(bif(x.Language.toList==x13.Language.toList)then((dH x.Years x13.Years).bind fun x14=>some x14)else some false)else some false)else some false)).bind fun(j15:Bool)=>(bif j15 then some (.inr (.inr (.inr false)))else some (.inl ()))))) (fun m=>(x.Status==0)&&ma x m) (.inr false) (fun k z hz=>by
   have hz':L[k]? =some z:=by
    have hk:k<i:=by have:=(List.getElem?_eq_some_iff.1 hz).1;omega
    rw[←hz,List.getElem?_take_of_lt hk]
   unfold ma dH
   simp only[bk,hz',Option.bind_some]
   rw[BEq.comm (a:=x.Language.toList),Bool.and_comm (decide (x.Years.From≤z.Years.To))]
   cases x.Status==0<;>cases z.Status==0<;>cases z.Language.toList==x.Language.toList<;>rfl)
  rw[hl]at this
  have e:((L.take i).any fun m=>(x.Status==0)&&ma x m)=((x.Status==0)&&(L.take i).any (ma x)):=by
   cases x.Status==0
   ·simp
   ·simp
  rw[e]at this
  exact this),eZ]
 rw[show(12:Int)=((12:Nat):Int)from rfl,ru]
 cases (cb (u4 L) (fun _ _=>()) L 0).isSome<;>rfl
end Go.Proofs.YtdejeagdkfokfaaGreatDoor.Sh
