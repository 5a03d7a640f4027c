/- The law FnExactBestParent answers true; no condition but the bounds of its arguments' types. -/
import Derived.Test.YtppehghiiahabaaGreatDoorMMR4
import Derived.Test.YtppehghiiahabaaGreatDoorQM
import Derived.Test.YtppehghiiahabaaGreatDoorGA
namespace Go.Proofs.YtppehghiiahabaaGreatDoor.Sh
open Go.RowKit Go.Lib
theorem FnExactBestParent_true (p0 : (List Claim)) (p1 : ByteArray) (p2 : Int) (k0 : p0.length ≤ maxLen ∧ ∀ x ∈ p0, okClaim x) (k1 : p1.size ≤ maxLen) (k2 : okI p2) : laws_FnExactBestParent p0 p1 p2 = some true := by
  unfold laws_FnExactBestParent
  by_cases g1 : (p1.size : Int) > 1048576
  · rw [decide_eq_true g1]
    rfl
  rw [decide_eq_false g1, cond_false]
  obtain ⟨v0, e0, h0⟩ := szClaimS_ok p0 k0 1048576 (by omega) (by omega)
  rw [e0, Option.bind_some]
  by_cases c0 : v0 < 0
  · rw [decide_eq_true c0]
    rfl
  rw [decide_eq_false c0, cond_false]
  replace h0 := h0.resolve_left c0
  have l0 : p0.length ≤ 1048576 := by have := h0.2.2.1; omega
  have t0 := toClaimS_eq p0 l0
  have q0 := eqClaimS_self p0 (by omega)
  obtain ⟨r, r1, r2⟩ := bestParent_eq (by have := h0.2.2.1; omega) h0.2.2.2 (p := p1) (by omega) p2
  simp only [r1, r2, Option.bind_some, t0, q0]
  simp
end Go.Proofs.YtppehghiiahabaaGreatDoor.Sh
