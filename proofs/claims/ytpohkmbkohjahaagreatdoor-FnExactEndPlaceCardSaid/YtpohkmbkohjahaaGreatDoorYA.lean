/- The law FnExactEndPlace answers true; no condition but the bounds of its arguments' types. -/
import Derived.Test.YtpohkmbkohjahaaGreatDoorPL6
import Derived.Test.YtpohkmbkohjahaaGreatDoorQM
import Derived.Test.YtpohkmbkohjahaaGreatDoorGA
namespace Go.Proofs.YtpohkmbkohjahaaGreatDoor.Sh
open Go.RowKit Go.Lib
theorem FnExactEndPlace_true (p0 : (List Place)) (p1 : ByteArray) (p2 : Int) (k0 : p0.length ≤ maxLen ∧ ∀ x ∈ p0, okPlace x) (k1 : p1.size ≤ maxLen) (k2 : okI p2) : laws_FnExactEndPlace p0 p1 p2 = some true := by
  unfold laws_FnExactEndPlace
  by_cases g1 : (p1.size : Int) > 1048576
  · rw [decide_eq_true g1]
    rfl
  rw [decide_eq_false g1, cond_false]
  obtain ⟨v0, e0, h0⟩ := szPlaceS_ok p0 k0 1048576 (by omega) (by omega)
  rw [e0, Option.bind_some]
  by_cases c0 : v0 < 0
  · rw [decide_eq_true c0]
    rfl
  rw [decide_eq_false c0, cond_false]
  replace h0 := h0.resolve_left c0
  have l0 : p0.length ≤ 1048576 := by have := h0.2.2.1; omega
  have t0 := toPlaceS_eq p0 l0 h0.2.2.2
  have q0 := eqPlaceS_self p0 (by omega) h0.2.2.2
  obtain ⟨r, r1, r2, r3⟩ := endPlace_eq (L := p0) (c := p1) (by have := h0.2.2.1; omega) h0.2.2.2 (by omega) p2
  have hl : r.1.length ≤ 1048576 := r3.1
  have hs : ∀ x ∈ r.1, smPlace x := r3.2
  have b0 := sumPlace_small p0 l0 h0.2.2.2
  have m0 := markPlaceS_eq p0 (1) (by omega) (by omega) (by omega)
  have d0 : decide ((1 + ((sumN cPlace p0 : Nat) : Int) : Int) < 0) = false := decide_eq_false (by omega)
  have q := eqPlaceS_self r.1 (by omega) hs
  have b := sumPlace_small r.1 hl hs
  have m := markPlaceS_eq r.1 1 (by omega) (by omega) (by omega)
  have w := heldPlaceS_eq r.1 1 (by omega) (by omega) (by omega)
  have d1 : decide (1 + ((sumN cPlace r.1 : Nat) : Int) < 0) = false := decide_eq_false (by omega)
  simp only [r1, r2, Option.bind_some, t0, q0, m0, d0, q, m, w, d1]
  simp
end Go.Proofs.YtpohkmbkohjahaaGreatDoor.Sh
