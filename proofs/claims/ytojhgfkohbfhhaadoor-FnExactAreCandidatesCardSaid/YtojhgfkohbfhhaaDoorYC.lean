/- The law FnExactAreCandidates answers true; no condition but the bounds of its arguments' types. -/
import Derived.Test.YtojhgfkohbfhhaaDoorN5
import Derived.Test.YtojhgfkohbfhhaaDoorGA
namespace Go.Proofs.YtojhgfkohbfhhaaDoor.Sh
open Go.RowKit Go.Lib
theorem FnExactAreCandidates_true (p0 : (List Candidate)) (k0 : p0.length ≤ maxLen ∧ ∀ x ∈ p0, okCandidate x) : laws_FnExactAreCandidates p0 = some true := by
  unfold laws_FnExactAreCandidates
  obtain ⟨v0, e0, h0⟩ := szCandidateS_ok p0 k0 1048576 (by omega) (by omega)
  rw [e0, Option.bind_some]
  by_cases c0 : v0 < 0
  · rw [decide_eq_true c0]
    rfl
  rw [decide_eq_false c0, cond_false]
  replace h0 := h0.resolve_left c0
  have l0 : p0.length ≤ 1048576 := by have := h0.2.2.1; omega
  have t0 := toCandidateS_eq p0 l0
  have q0 := eqCandidateS_self p0 (by omega)
  obtain ⟨r, r1, r2⟩ := areCands_eq p0 (by have := h0.2.2.1; omega) h0.2.2.2
  simp only [r1, r2, Option.bind_some, t0, q0]
  simp
end Go.Proofs.YtojhgfkohbfhhaaDoor.Sh
