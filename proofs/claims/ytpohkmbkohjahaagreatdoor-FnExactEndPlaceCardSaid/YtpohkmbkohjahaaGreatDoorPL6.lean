/- Places: the laws' bounds and those of the plain laws. -/
import Derived.Test.YtpohkmbkohjahaaGreatDoorPL5
import Derived.Test.YtpohkmbkohjahaaGreatDoorQM
namespace Go.Proofs.YtpohkmbkohjahaaGreatDoor.Sh
open Go.RowKit Go.Lib
theorem PlR.of {p : Place} (h : smPlace p) : PlR p := ⟨h.s0, h.s4, fun x hx => ⟨(h.i4 x hx).s0, (h.i4 x hx).s1⟩⟩
theorem PlR.sm {p : Place} (h : PlR p) : smPlace p := ⟨h.c, h.l, fun x hx => ⟨(h.n x hx).t, (h.n x hx).l⟩⟩
theorem endPlace_eq {L : List Place} (hL : L.length ≤ 1048576) (h : ∀ x ∈ L, smPlace x) {c : ByteArray} (hc : c.size ≤ 1048576) (y : Int) : ∃ r, impl_EndPlace L c y = some r ∧ spec_EndPlace L c y = some r ∧ r.1.length ≤ 1048576 ∧ ∀ x ∈ r.1, smPlace x := by
  have hR : ∀ x ∈ L, PlR x := fun x hx => PlR.of (h x hx)
  have h2 := endV_R hL hR c y
  exact ⟨_, impl_end_eq hL hR hc y, spec_end_place_eq hL hR hc y, h2.1, fun x hx => (h2.2 x hx).sm⟩
end Go.Proofs.YtpohkmbkohjahaaGreatDoor.Sh
