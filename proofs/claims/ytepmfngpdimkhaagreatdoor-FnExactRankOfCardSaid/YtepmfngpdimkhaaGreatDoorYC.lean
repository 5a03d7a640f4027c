/- The law FnExactRankOf answers true; no condition but the bounds of its arguments' types. -/
import Derived.Test.YtepmfngpdimkhaaGreatDoorMLC8
import Derived.Test.YtepmfngpdimkhaaGreatDoorQM
import Derived.Test.YtepmfngpdimkhaaGreatDoorGA
namespace Go.Proofs.YtepmfngpdimkhaaGreatDoor.Sh
open Go.RowKit Go.Lib
theorem FnExactRankOf_true (p0 : (List Candidate)) (p1 : ByteArray) (p2 : ByteArray) (p3 : (List Site)) (p4 : (List Description)) (k0 : p0.length ≤ maxLen ∧ ∀ x ∈ p0, okCandidate x) (k1 : p1.size ≤ maxLen) (k2 : p2.size ≤ maxLen) (k3 : p3.length ≤ maxLen ∧ ∀ x ∈ p3, okSite x) (k4 : p4.length ≤ maxLen ∧ ∀ x ∈ p4, okDescription x) : laws_FnExactRankOf p0 p1 p2 p3 p4 = some true := by
  unfold laws_FnExactRankOf
  by_cases g1 : (p1.size : Int) > 1048576
  · rw [decide_eq_true g1]
    rfl
  rw [decide_eq_false g1, cond_false]
  by_cases g2 : (p2.size : Int) > 1048576
  · rw [decide_eq_true g2]
    rfl
  rw [decide_eq_false g2, cond_false]
  obtain ⟨v0, e0, h0⟩ := szCandidateS_ok p0 k0 1048576 (by omega) (by omega)
  rw [e0, Option.bind_some]
  by_cases c0 : v0 < 0
  · rw [decide_eq_true c0]
    rfl
  rw [decide_eq_false c0, cond_false]
  replace h0 := h0.resolve_left c0
  obtain ⟨v3, e3, h3⟩ := szSiteS_ok p3 k3 v0 (by omega) (by omega)
  rw [e3, Option.bind_some]
  by_cases c3 : v3 < 0
  · rw [decide_eq_true c3]
    rfl
  rw [decide_eq_false c3, cond_false]
  replace h3 := h3.resolve_left c3
  obtain ⟨v4, e4, h4⟩ := szDescriptionS_ok p4 k4 v3 (by omega) (by omega)
  rw [e4, Option.bind_some]
  by_cases c4 : v4 < 0
  · rw [decide_eq_true c4]
    rfl
  rw [decide_eq_false c4, cond_false]
  replace h4 := h4.resolve_left c4
  have l0 : p0.length ≤ 1048576 := by have := h0.2.2.1; omega
  have t0 := toCandidateS_eq p0 l0
  have q0 := eqCandidateS_self p0 (by omega)
  have l3 : p3.length ≤ 1048576 := by have := h3.2.2.1; omega
  have t3 := toSiteS_eq p3 l3
  have q3 := eqSiteS_self p3 (by omega)
  have l4 : p4.length ≤ 1048576 := by have := h4.2.2.1; omega
  have t4 := toDescriptionS_eq p4 l4
  have q4 := eqDescriptionS_self p4 (by omega)
  obtain ⟨r, r1, r2⟩ := rankOf_eq (C := p0) (t := p2) (L := p3) (ds := p4) ⟨l0, h0.2.2.2, by omega, l3, h3.2.2.2, l4, fun x hx => ⟨(h4.2.2.2 x hx).s2, (h4.2.2.2 x hx).s4, (h4.2.2.2 x hx).s5⟩⟩ p1
  simp only [r1, r2, Option.bind_some, t0, q0, t3, q3, t4, q4]
  simp
end Go.Proofs.YtepmfngpdimkhaaGreatDoor.Sh
