/- A look: some operations run on what slots show, and a call hands back something new. -/
import Derived.Test.YtdejeagdkfokfaaGreatDoorSE
import Derived.Test.YtdejeagdkfokfaaGreatDoorSH
namespace Go.Proofs.YtdejeagdkfokfaaGreatDoor.Sh
open Go.RowKit
def pk(D:List Nat)(a a':Act):Prop:=a'.tmps.size=a.tmps.size∧ ∀i,i∉D→a'.tmps.getD i undef=a.tmps.getD i undef
theorem pk.put(a:Act)(d:Option Nat)(u:Value):pk d.toList a (a.put d u):=by
 refine⟨kt a d u,fun i hi=> ?_⟩
 cases d with
 | none=>rfl
 | some d=>exact mO a u fun e=>hi (by simp[e])
theorem pk.trans{D E:List Nat}{a b c:Act}(h:pk D a b)(k:pk E b c):pk (D++E) a c:=⟨k.1.trans h.1,fun i hi=>(k.2 i fun e=>hi (List.mem_append_right _ e)).trans (h.2 i fun e=>hi (List.mem_append_left _ e))⟩
theorem pk.tmps{D:List Nat}{a b b':Act}(h:pk D a b)(e:b'.tmps=b.tmps):pk D a b':=by
 unfold pk
 rw[e]
 exact h
def zr(l:List Oper):List Nat:=l.flatMap fun o=>o.dst.toList
end Go.Proofs.YtdejeagdkfokfaaGreatDoor.Sh
