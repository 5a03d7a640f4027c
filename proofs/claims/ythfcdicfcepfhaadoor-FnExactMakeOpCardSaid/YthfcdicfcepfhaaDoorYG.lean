/- The law FnExactMakeOp answers true; no condition but the bounds of its arguments' types. -/
import Derived.Test.YthfcdicfcepfhaaDoorJ4
import Derived.Test.YthfcdicfcepfhaaDoorGC
namespace Go.Proofs.YthfcdicfcepfhaaDoor.Sh
open Go.RowKit Go.Lib
theorem FnExactMakeOp_true (p0 : (List Op)) (p1 : Int) (p2 : ByteArray) (p3 : ByteArray) (k0 : p0.length ≤ maxLen ∧ ∀ x ∈ p0, okOp x) (k1 : okI p1) (k2 : p2.size ≤ maxLen) (k3 : p3.size ≤ maxLen) : laws_FnExactMakeOp p0 p1 p2 p3 = some true := by
  unfold laws_FnExactMakeOp
  by_cases g2 : (p2.size : Int) > 1048576
  · rw [decide_eq_true g2]
    rfl
  rw [decide_eq_false g2, cond_false]
  by_cases g3 : (p3.size : Int) > 1048576
  · rw [decide_eq_true g3]
    rfl
  rw [decide_eq_false g3, cond_false]
  obtain ⟨v0, e0, h0⟩ := szOpS_ok p0 k0 1048576 (by omega) (by omega)
  rw [e0, Option.bind_some]
  by_cases c0 : v0 < 0
  · rw [decide_eq_true c0]
    rfl
  rw [decide_eq_false c0, cond_false]
  replace h0 := h0.resolve_left c0
  have l0 : p0.length ≤ 1048576 := by have := h0.2.2.1; omega
  have t0 := toOpS_eq p0 l0 h0.2.2.2
  have q0 := eqOpS_self p0 (by omega) h0.2.2.2
  obtain ⟨r, r1, r2, r3⟩ := makeOp_eq p0 p1 p2 p3 (by have := h0.2.2.1; omega) (opR_of k0 h0.2.2.2) (by omega) (by omega)
  obtain ⟨hl, hs⟩ := resOk_sm r3
  have b0 := sumOp_small p0 l0 h0.2.2.2
  have m0 := markOpS_eq p0 (1) (by omega) (by omega) (by omega)
  have d0 : decide ((1 + ((sumN cOp p0 : Nat) : Int) : Int) < 0) = false := decide_eq_false (by omega)
  have q := eqOpS_self r.1 (by omega) hs
  have b := sumOp_small r.1 hl hs
  have m := markOpS_eq r.1 1 (by omega) (by omega) (by omega)
  have w := heldOpS_eq r.1 1 (by omega) (by omega) (by omega)
  have d1 : decide (1 + ((sumN cOp r.1 : Nat) : Int) < 0) = false := decide_eq_false (by omega)
  simp only [r1, r2, Option.bind_some, t0, q0, m0, d0, q, m, w, d1]
  simp
end Go.Proofs.YthfcdicfcepfhaaDoor.Sh
