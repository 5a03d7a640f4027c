/- The law FnExactRivalsOf answers true; no condition but the bounds of its arguments' types. -/
import Derived.Test.YthfcdicfcepfhaaDoorJ4
import Derived.Test.YthfcdicfcepfhaaDoorGC
namespace Go.Proofs.YthfcdicfcepfhaaDoor.Sh
open Go.RowKit Go.Lib
theorem FnExactRivalsOf_true (p0 : (List Op)) (p1 : ByteArray) (k0 : p0.length ≤ maxLen ∧ ∀ x ∈ p0, okOp x) (k1 : p1.size ≤ maxLen) : laws_FnExactRivalsOf p0 p1 = some true := by
  unfold laws_FnExactRivalsOf
  by_cases g1 : (p1.size : Int) > 1048576
  · rw [decide_eq_true g1]
    rfl
  rw [decide_eq_false g1, cond_false]
  obtain ⟨v0, e0, h0⟩ := szOpS_ok p0 k0 1048576 (by omega) (by omega)
  rw [e0, Option.bind_some]
  by_cases c0 : v0 < 0
  · rw [decide_eq_true c0]
    rfl
  rw [decide_eq_false c0, cond_false]
  replace h0 := h0.resolve_left c0
  have l0 : p0.length ≤ 1048576 := by have := h0.2.2.1; omega
  have t0 := toOpS_eq p0 l0 h0.2.2.2
  have q0 := eqOpS_self p0 (by omega) h0.2.2.2
  obtain ⟨r, r1, r2, r3⟩ := (rivalsOf_eq p0 (by have := h0.2.2.1; omega) (opR_of k0 h0.2.2.2) p1 _ _ rfl rfl : ∃ r, impl_RivalsOf p0 p1 = some r ∧ spec_RivalsOf p0 p1 = some r ∧ r.1.length ≤ 100)
  have hl : r.1.length ≤ 1048576 := by omega
  have b0 := sumOp_small p0 l0 h0.2.2.2
  have m0 := markOpS_eq p0 (1) (by omega) (by omega) (by omega)
  have d0 : decide ((1 + ((sumN cOp p0 : Nat) : Int) : Int) < 0) = false := decide_eq_false (by omega)
  have q := eqInt64S_self r.1 (by omega)
  have b := sumN_le (c := cInt) (C := 1) (L := r.1) (fun _ _ => Nat.le_refl _)
  have m := markInt64S_eq r.1 1 (by omega) (by omega) (by omega)
  have w := heldInt64S_eq r.1 1 (by omega) (by omega) (by omega)
  have d1 : decide (1 + ((sumN cInt r.1 : Nat) : Int) < 0) = false := decide_eq_false (by omega)
  simp only [r1, r2, Option.bind_some, t0, q0, m0, d0, q, m, w, d1]
  simp
end Go.Proofs.YthfcdicfcepfhaaDoor.Sh
