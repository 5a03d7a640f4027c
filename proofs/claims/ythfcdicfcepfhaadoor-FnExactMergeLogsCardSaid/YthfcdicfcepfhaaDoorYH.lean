/- The law FnExactMergeLogs answers true; no condition but the bounds of its arguments' types. -/
import Derived.Test.YthfcdicfcepfhaaDoorJ4
import Derived.Test.YthfcdicfcepfhaaDoorGC
namespace Go.Proofs.YthfcdicfcepfhaaDoor.Sh
open Go.RowKit Go.Lib
theorem FnExactMergeLogs_true (p0 : (List Op)) (p1 : (List Op)) (k0 : p0.length ≤ maxLen ∧ ∀ x ∈ p0, okOp x) (k1 : p1.length ≤ maxLen ∧ ∀ x ∈ p1, okOp x) : laws_FnExactMergeLogs p0 p1 = some true := by
  unfold laws_FnExactMergeLogs
  obtain ⟨v0, e0, h0⟩ := szOpS_ok p0 k0 1048576 (by omega) (by omega)
  rw [e0, Option.bind_some]
  by_cases c0 : v0 < 0
  · rw [decide_eq_true c0]
    rfl
  rw [decide_eq_false c0, cond_false]
  replace h0 := h0.resolve_left c0
  obtain ⟨v1, e1, h1⟩ := szOpS_ok p1 k1 v0 (by omega) (by omega)
  rw [e1, Option.bind_some]
  by_cases c1 : v1 < 0
  · rw [decide_eq_true c1]
    rfl
  rw [decide_eq_false c1, cond_false]
  replace h1 := h1.resolve_left c1
  have l0 : p0.length ≤ 1048576 := by have := h0.2.2.1; omega
  have t0 := toOpS_eq p0 l0 h0.2.2.2
  have q0 := eqOpS_self p0 (by omega) h0.2.2.2
  have l1 : p1.length ≤ 1048576 := by have := h1.2.2.1; omega
  have t1 := toOpS_eq p1 l1 h1.2.2.2
  have q1 := eqOpS_self p1 (by omega) h1.2.2.2
  obtain ⟨r, r1, r2, r3⟩ := merge_eq p0 p1 (by have := h0.2.2.1; omega) (by have := h1.2.2.1; omega) (opR_of k0 h0.2.2.2) (opR_of k1 h1.2.2.2)
  obtain ⟨hl, hs⟩ := resOk_sm r3
  have b0 := sumOp_small p0 l0 h0.2.2.2
  have m0 := markOpS_eq p0 (1) (by omega) (by omega) (by omega)
  have b1 := sumOp_small p1 l1 h1.2.2.2
  have m1 := markOpS_eq p1 (1 + ((sumN cOp p0 : Nat) : Int)) (by omega) (by omega) (by omega)
  have d0 : decide ((1 + ((sumN cOp p0 : Nat) : Int) + ((sumN cOp p1 : Nat) : Int) : Int) < 0) = false := decide_eq_false (by omega)
  have q := eqOpS_self r.1 (by omega) hs
  have b := sumOp_small r.1 hl hs
  have m := markOpS_eq r.1 1 (by omega) (by omega) (by omega)
  have w := heldOpS_eq r.1 1 (by omega) (by omega) (by omega)
  have d1 : decide (1 + ((sumN cOp r.1 : Nat) : Int) < 0) = false := decide_eq_false (by omega)
  simp only [r1, r2, Option.bind_some, t0, q0, t1, q1, m0, m1, d0, q, m, w, d1]
  simp
end Go.Proofs.YthfcdicfcepfhaaDoor.Sh
