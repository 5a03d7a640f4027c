/- The law FnExactTextOf answers true; no condition but the bounds of its arguments' types. -/
import Derived.Test.YthfcdicfcepfhaaDoorJ4
import Derived.Test.YthfcdicfcepfhaaDoorGA
namespace Go.Proofs.YthfcdicfcepfhaaDoor.Sh
open Go.RowKit Go.Lib
theorem FnExactTextOf_true (p0 : (List Op)) (p1 : ByteArray) (k0 : p0.length ≤ maxLen ∧ ∀ x ∈ p0, okOp x) (k1 : p1.size ≤ maxLen) : laws_FnExactTextOf p0 p1 = some true := by
  unfold laws_FnExactTextOf
  by_cases g1 : (p1.size : Int) > 1048576
  · rw [decide_eq_true g1]
    rfl
  rw [decide_eq_false g1, cond_false]
  obtain ⟨v0, e0, h0⟩ := szOpS_ok p0 k0 1048576 (by omega) (by omega)
  rw [e0, Option.bind_some]
  by_cases c0 : v0 < 0
  · rw [decide_eq_true c0]
    rfl
  rw [decide_eq_false c0, cond_false]
  replace h0 := h0.resolve_left c0
  have l0 : p0.length ≤ 1048576 := by have := h0.2.2.1; omega
  have t0 := toOpS_eq p0 l0 h0.2.2.2
  have q0 := eqOpS_self p0 (by omega) h0.2.2.2
  obtain ⟨r, r1, r2⟩ := textOf_eq p0 (by have := h0.2.2.1; omega) (opR_of k0 h0.2.2.2) p1
  simp only [r1, r2, Option.bind_some, t0, q0]
  simp
end Go.Proofs.YthfcdicfcepfhaaDoor.Sh
