/- Names: AreNames of both; bounds on lengths alone. -/
import Derived.Test.YtdejeagdkfokfaaGreatDoorMPL1
import Derived.Test.YtdejeagdkfokfaaGreatDoorMPL2
namespace Go.Proofs.YtdejeagdkfokfaaGreatDoor.Sh
open Go.RowKit Go.Lib
def lS(n m:Name):Bool:=(m.Status==0)&&((m.Language.toList==n.Language.toList)&&(decide (m.Years.From≤n.Years.To)&&decide (n.Years.From≤m.Years.To)))
def uo(L:List Name)(i:Nat)(n:Name):Bool:= !pk n || ((n.Status==0)&&(L.take i).any (lS n))
def gQ(L:List Name):Bool:= !(bY (uo L) (fun _ _=>()) L 0).isSome&&decide (L.length≤12)
theorem qM{α:Type}(L:List α)(k:Nat):decide ((L.length:Int)≤(k:Int))=decide (L.length≤k):=by
 by_cases h:L.length≤k
 ·rw[decide_eq_true h,decide_eq_true (by omega)]
 ·rw[decide_eq_false h,decide_eq_false (by omega)]
theorem mQ{L:List Name}(hL:L.length≤1048576)(h: ∀x∈L,NmR x):fq L=some (gQ L):=by
 unfold fq bE bR gJ cN dR gQ
 rw[eZ (by omega) (uo L) (fun _ _=>false) (fun i x hx=>by
  have hi:i<L.length:=(List.getElem?_eq_some_iff.1 hx).1
  rw[bg,hx,Option.bind_some,xT (h x (List.mem_of_getElem? hx)),Option.bind_some]
  unfold uo
  cases pk x
  ·rfl
  rw[Bool.not_true,cond_false,qd (by omega) (by omega) (by omega),Option.bind_some]
  simp only[Int.toNat_zero,List.drop_zero,Int.toNat_natCast,Nat.sub_zero]
  rw[iD (L:=L.take i) (by rw[List.length_take];omega) (lS x) (fun k z hz=>by
   rw[bg,hz,Option.bind_some]
   unfold lS
   cases z.Status==0<;>cases z.Language.toList==x.Language.toList<;>rfl)]
  simp only[Option.bind_some,ie]
  cases x.Status==0<;>cases (L.take i).any (lS x)<;>rfl),eW]
 rw[show(12:Int)=((12:Nat):Int)from rfl,qM]
 cases (bY (uo L) (fun _ _=>()) L 0).isSome<;>rfl
theorem mV{L:List Name}(hL:L.length≤1048576)(h: ∀x∈L,NmR x):fx L=some (gQ L):=by
 unfold fx dB gQ
 rw[eZ (by omega) (uo L) (fun _ _=>false) (fun i x hx=>by
  have hi:i<L.length:=(List.getElem?_eq_some_iff.1 hx).1
  have hl:(L.take i).length=i:=by rw[List.length_take];omega
  rw[bg,hx,Option.bind_some,yk (h x (List.mem_of_getElem? hx)),Option.bind_some]
  unfold uo
  cases pk x
  ·rfl
  have:=mo (A:=Unit⊕Bool) (L:=L.take i) (by omega) (B:=fun(i9:Int) (_:Unit)=>((at' L i9).bind fun x13=>(((bif(x.Status==0)then(bif(x13.Status==0)then(bif(x.Language.toList==x13.Language.toList)then((dB x.Years x13.Years).bind fun x14=>some x14)else some false)else some false)else some false)).bind fun(j15:Bool)=>(bif j15 then some (.inr (.inr (.inr false)))else some (.inl ()))))) (fun m=>(x.Status==0)&&lS x m) (.inr false) (fun k z hz=>by
   have hz':L[k]? =some z:=by
    have hk:k<i:=by have:=(List.getElem?_eq_some_iff.1 hz).1;omega
    rw[←hz,List.getElem?_take_of_lt hk]
   unfold lS dB
   simp only[bg,hz',Option.bind_some]
   rw[BEq.comm (a:=x.Language.toList),Bool.and_comm (decide (x.Years.From≤z.Years.To))]
   cases x.Status==0<;>cases z.Status==0<;>cases z.Language.toList==x.Language.toList<;>rfl)
  rw[hl]at this
  have e:((L.take i).any fun m=>(x.Status==0)&&lS x m)=((x.Status==0)&&(L.take i).any (lS x)):=by
   cases x.Status==0
   ·simp
   ·simp
  rw[e]at this
  exact this),eW]
 rw[show(12:Int)=((12:Nat):Int)from rfl,qM]
 cases (bY (uo L) (fun _ _=>()) L 0).isSome<;>rfl
end Go.Proofs.YtdejeagdkfokfaaGreatDoor.Sh
