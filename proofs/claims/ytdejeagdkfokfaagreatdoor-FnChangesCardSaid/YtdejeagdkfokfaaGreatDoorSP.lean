/- A look: some operations run on what slots show, and a call hands back something new. -/
import Derived.Test.YtdejeagdkfokfaaGreatDoorSE
import Derived.Test.YtdejeagdkfokfaaGreatDoorSH
namespace Go.Proofs.YtdejeagdkfokfaaGreatDoor.Sh
open Go.RowKit
def qg(D:List Nat)(a a':Act):Prop:=a'.tmps.size=a.tmps.size∧ ∀i,i∉D→a'.tmps.getD i undef=a.tmps.getD i undef
theorem qg.put(a:Act)(d:Option Nat)(u:Value):qg d.toList a (a.put d u):=by
 refine⟨lc a d u,fun i hi=> ?_⟩
 cases d with
 | none=>rfl
 | some d=>exact nW a u fun e=>hi (by simp[e])
theorem qg.trans{D E:List Nat}{a b c:Act}(h:qg D a b)(k:qg E b c):qg (D++E) a c:=⟨k.1.trans h.1,fun i hi=>(k.2 i fun e=>hi (List.mem_append_right _ e)).trans (h.2 i fun e=>hi (List.mem_append_left _ e))⟩
theorem qg.tmps{D:List Nat}{a b b':Act}(h:qg D a b)(e:b'.tmps=b.tmps):qg D a b':=by
 unfold qg
 rw[e]
 exact h
def Aq(l:List Oper):List Nat:=l.flatMap fun o=>o.dst.toList
end Go.Proofs.YtdejeagdkfokfaaGreatDoor.Sh
