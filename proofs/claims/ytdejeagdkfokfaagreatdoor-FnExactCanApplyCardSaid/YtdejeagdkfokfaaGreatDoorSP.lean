/- A look: some operations run on what slots show, and a call hands back something new. -/
import Derived.Test.YtdejeagdkfokfaaGreatDoorSE
import Derived.Test.YtdejeagdkfokfaaGreatDoorSH
namespace Go.Proofs.YtdejeagdkfokfaaGreatDoor.Sh
open Go.RowKit
def n5(D:List Nat)(a a':Act):Prop:=a'.tmps.size=a.tmps.size∧ ∀i,i∉D→a'.tmps.getD i undef=a.tmps.getD i undef
theorem n5.put(a:Act)(d:Option Nat)(u:Value):n5 d.toList a (a.put d u):=by
 refine⟨jy a d u,fun i hi=> ?_⟩
 cases d with
 | none=>rfl
 | some d=>exact lM a u fun e=>hi (by simp[e])
theorem n5.trans{D E:List Nat}{a b c:Act}(h:n5 D a b)(k:n5 E b c):n5 (D++E) a c:=⟨k.1.trans h.1,fun i hi=>(k.2 i fun e=>hi (List.mem_append_right _ e)).trans (h.2 i fun e=>hi (List.mem_append_left _ e))⟩
theorem n5.tmps{D:List Nat}{a b b':Act}(h:n5 D a b)(e:b'.tmps=b.tmps):n5 D a b':=by
 unfold n5
 rw[e]
 exact h
def xm(l:List Oper):List Nat:=l.flatMap fun o=>o.dst.toList
end Go.Proofs.YtdejeagdkfokfaaGreatDoor.Sh
