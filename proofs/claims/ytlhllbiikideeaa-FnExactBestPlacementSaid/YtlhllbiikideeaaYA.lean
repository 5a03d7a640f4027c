/- The law FnExactBestPlacement answers true; no condition but the bounds of its arguments' types. -/
import Derived.Test.YtlhllbiikideeaaLB8
import Derived.Test.YtlhllbiikideeaaQM
import Derived.Test.YtlhllbiikideeaaGB
namespace Go.Proofs.Ytlhllbiikideeaa.Sh
open Go.RowKit Go.Lib
theorem FnExactBestPlacement_true (p0 : (List Label)) (k0 : p0.length ≤ maxLen ∧ ∀ x ∈ p0, okLabel x) : laws_FnExactBestPlacement p0 = some true := by
  unfold laws_FnExactBestPlacement
  obtain ⟨v0, e0, h0⟩ := szLabelS_ok p0 k0 1048576 (by omega) (by omega)
  rw [e0, Option.bind_some]
  by_cases c0 : v0 < 0
  · rw [decide_eq_true c0]
    rfl
  rw [decide_eq_false c0, cond_false]
  replace h0 := h0.resolve_left c0
  have l0 : p0.length ≤ 1048576 := by have := h0.2.2.1; omega
  have t0 := toLabelS_eq p0 l0
  have q0 := eqLabelS_self p0 (by omega)
  obtain ⟨r, r1, r2, r3⟩ := bestBoth l0
  have hl : r.1.length ≤ 1048576 := Nat.le_trans r3 (by omega)
  have b0 := sumLabel_small p0 l0 h0.2.2.2
  have m0 := markLabelS_eq p0 (1) (by omega) (by omega) (by omega)
  have d0 : decide ((1 + ((sumN cLabel p0 : Nat) : Int) : Int) < 0) = false := decide_eq_false (by omega)
  have q := eqInt64S_self r.1 (by omega)
  have b := sumN_le (c := cInt) (C := 1) (L := r.1) (fun _ _ => Nat.le_refl _)
  have m := markInt64S_eq r.1 1 (by omega) (by omega) (by omega)
  have w := heldInt64S_eq r.1 1 (by omega) (by omega) (by omega)
  have d1 : decide (1 + ((sumN cInt r.1 : Nat) : Int) < 0) = false := decide_eq_false (by omega)
  simp only [r1, r2, Option.bind_some, t0, q0, m0, d0, q, m, w, d1]
  simp
end Go.Proofs.Ytlhllbiikideeaa.Sh
