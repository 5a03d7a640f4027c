/- strings.Compare as a typed call; no condition. -/
import Derived.Test.YtdejeagdkfokfaaGreatDoorKA
import Derived.Shelf.Small.Strs
namespace Go.Proofs.YtdejeagdkfokfaaGreatDoor.Sh
open Go.RowKit Go.Shelf Go.Lib
def strings_Compare(a b:ByteArray):Option Int:=some (Lib.compareBytes a.data.toList b.data.toList)
theorem vH{P:Program}{ρ:Ren}(L:Lays.n106 P ρ)(k:FuncId)(hk:ρ.f 106=k)(a b:ByteArray)(r:Int)(h:strings_Compare a b=some r):aR P k [.v (.tr (.str a)),.v (.tr (.str b))] ⟨[.v (.tr (.int .i64 r))],[],false⟩:=by
 unfold strings_Compare at h
 injection h with h
 subst h
 subst hk
 exact sG [.str a,.str b] (by simp[Tr.flat]) (.int .i64 _) rfl trivial fun w=>(Any.strings_Compare L a b w).mono fun e w' h=>⟨h.1,by rw[h.2];exact Below.refl _ w⟩
end Go.Proofs.YtdejeagdkfokfaaGreatDoor.Sh
