/- The law FnExactExactAnswers answers true; no condition but the bounds of its arguments' types. -/
import Derived.Test.YtodgenjlhiiieaaGreatDoorMLC10
import Derived.Test.YtodgenjlhiiieaaGreatDoorQM
import Derived.Test.YtodgenjlhiiieaaGreatDoorGA
namespace Go.Proofs.YtodgenjlhiiieaaGreatDoor.Sh
open Go.RowKit Go.Lib
theorem FnExactExactAnswers_true (p0 : (List Candidate)) (p1 : ByteArray) (p2 : (List Site)) (p3 : (List Description)) (k0 : p0.length ≤ maxLen ∧ ∀ x ∈ p0, okCandidate x) (k1 : p1.size ≤ maxLen) (k2 : p2.length ≤ maxLen ∧ ∀ x ∈ p2, okSite x) (k3 : p3.length ≤ maxLen ∧ ∀ x ∈ p3, okDescription x) : laws_FnExactExactAnswers p0 p1 p2 p3 = some true := by
  unfold laws_FnExactExactAnswers
  by_cases g1 : (p1.size : Int) > 1048576
  · rw [decide_eq_true g1]
    rfl
  rw [decide_eq_false g1, cond_false]
  obtain ⟨v0, e0, h0⟩ := szCandidateS_ok p0 k0 1048576 (by omega) (by omega)
  rw [e0, Option.bind_some]
  by_cases c0 : v0 < 0
  · rw [decide_eq_true c0]
    rfl
  rw [decide_eq_false c0, cond_false]
  replace h0 := h0.resolve_left c0
  obtain ⟨v2, e2, h2⟩ := szSiteS_ok p2 k2 v0 (by omega) (by omega)
  rw [e2, Option.bind_some]
  by_cases c2 : v2 < 0
  · rw [decide_eq_true c2]
    rfl
  rw [decide_eq_false c2, cond_false]
  replace h2 := h2.resolve_left c2
  obtain ⟨v3, e3, h3⟩ := szDescriptionS_ok p3 k3 v2 (by omega) (by omega)
  rw [e3, Option.bind_some]
  by_cases c3 : v3 < 0
  · rw [decide_eq_true c3]
    rfl
  rw [decide_eq_false c3, cond_false]
  replace h3 := h3.resolve_left c3
  have l0 : p0.length ≤ 1048576 := by have := h0.2.2.1; omega
  have t0 := toCandidateS_eq p0 l0
  have q0 := eqCandidateS_self p0 (by omega)
  have l2 : p2.length ≤ 1048576 := by have := h2.2.2.1; omega
  have t2 := toSiteS_eq p2 l2
  have q2 := eqSiteS_self p2 (by omega)
  have l3 : p3.length ≤ 1048576 := by have := h3.2.2.1; omega
  have t3 := toDescriptionS_eq p3 l3
  have q3 := eqDescriptionS_self p3 (by omega)
  obtain ⟨r, r1, r2, r3⟩ := exactAnswers_eq (C := p0) (t := p1) (L := p2) (ds := p3) ⟨l0, h0.2.2.2, by omega, l2, h2.2.2.2, l3, fun x hx => ⟨(h3.2.2.2 x hx).s2, (h3.2.2.2 x hx).s4, (h3.2.2.2 x hx).s5⟩⟩
  have hl : r.1.length ≤ 1048576 := r3
  have b0 := sumCandidate_small p0 l0 h0.2.2.2
  have m0 := markCandidateS_eq p0 (1) (by omega) (by omega) (by omega)
  have b2 := sumSite_small p2 l2 h2.2.2.2
  have m2 := markSiteS_eq p2 (1 + ((sumN cCandidate p0 : Nat) : Int)) (by omega) (by omega) (by omega)
  have b3 := sumDescription_small p3 l3 h3.2.2.2
  have m3 := markDescriptionS_eq p3 (1 + ((sumN cCandidate p0 : Nat) : Int) + ((sumN cSite p2 : Nat) : Int)) (by omega) (by omega) (by omega)
  have d0 : decide ((1 + ((sumN cCandidate p0 : Nat) : Int) + ((sumN cSite p2 : Nat) : Int) + ((sumN cDescription p3 : Nat) : Int) : Int) < 0) = false := decide_eq_false (by omega)
  have q := eqStringS_self r.1 (by omega)
  have b := sumN_le (c := cString) (C := 1) (L := r.1) (fun _ _ => Nat.le_refl _)
  have m := markStringS_eq r.1 1 (by omega) (by omega) (by omega)
  have w := heldStringS_eq r.1 1 (by omega) (by omega) (by omega)
  have d1 : decide (1 + ((sumN cString r.1 : Nat) : Int) < 0) = false := decide_eq_false (by omega)
  simp only [r1, r2, Option.bind_some, t0, q0, t2, q2, t3, q3, m0, m2, m3, d0, q, m, w, d1]
  simp
end Go.Proofs.YtodgenjlhiiieaaGreatDoor.Sh
