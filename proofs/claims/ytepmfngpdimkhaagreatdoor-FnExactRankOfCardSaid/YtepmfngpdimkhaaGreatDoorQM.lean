/- Sizes, copies, comparisons and marks of the laws' types; bounds on lengths alone. -/
import Derived.Test.YtepmfngpdimkhaaGreatDoorQA
import Derived.Test.YtepmfngpdimkhaaGreatDoorRD
namespace Go.Proofs.YtepmfngpdimkhaaGreatDoor.Sh
open Go.RowKit Go.Lib
structure smCandidate (x : Candidate) : Prop where
  s0 : x.Code.size ≤ 1048576
  s1 : x.Text.size ≤ 1048576
theorem szCandidate_ok (x : Candidate) (hx : okCandidate x) (s : Int) (h0 : 0 ≤ s) (h1 : s ≤ 1048576) : ∃ v, laws_szCandidate x s = some v ∧ (v < 0 ∨ (0 ≤ v ∧ v ≤ s ∧ smCandidate x)) := by
  unfold laws_szCandidate
  have z0 := hx.Code
  unfold maxLen at z0
  rw [w64_id (n := s - (x.Code.size : Int)) (by omega) (by omega)]
  by_cases c0 : s - (x.Code.size : Int) < 0
  · rw [decide_eq_true c0]
    exact ⟨_, rfl, .inl (by omega)⟩
  rw [decide_eq_false c0, cond_false]
  have z1 := hx.Text
  unfold maxLen at z1
  rw [w64_id (n := s - (x.Code.size : Int) - (x.Text.size : Int)) (by omega) (by omega)]
  by_cases c1 : s - (x.Code.size : Int) - (x.Text.size : Int) < 0
  · rw [decide_eq_true c1]
    exact ⟨_, rfl, .inl (by omega)⟩
  rw [decide_eq_false c1, cond_false]
  exact ⟨_, rfl, .inr ⟨by omega, by omega, ⟨by omega, by omega⟩⟩⟩
theorem toPoint_eq (x : Point) : laws_toPoint x = some x := by
  unfold laws_toPoint
  rfl
theorem eqPoint_self (x : Point) : laws_eqPoint x x = some true := by
  unfold laws_eqPoint
  simp
theorem toCandidate_eq (x : Candidate) : laws_toCandidate x = some x := by
  unfold laws_toCandidate
  simp only [toPoint_eq x.At, Option.bind_some]
theorem eqCandidate_self (x : Candidate) : laws_eqCandidate x x = some true := by
  unfold laws_eqCandidate
  simp [eqPoint_self x.At]
theorem szCandidateS_ok (L : List Candidate) (hL : L.length ≤ maxLen ∧ ∀ x ∈ L, okCandidate x) (l : Int) (h0 : 0 ≤ l) (h1 : l ≤ 1048576) : ∃ v, laws_szCandidateS L l = some v ∧ (v < 0 ∨ (0 ≤ v ∧ v ≤ l ∧ (L.length : Int) ≤ l ∧ ∀ x ∈ L, smCandidate x)) := by
  unfold laws_szCandidateS
  exact sz_list hL.1 laws_szCandidate smCandidate (fun x hx s h0 h1 => szCandidate_ok x (hL.2 x hx) s h0 h1) l h0 h1
theorem toCandidateS_eq (L : List Candidate) (hL : L.length ≤ 1048576) : laws_toCandidateS L = some L := by
  unfold laws_toCandidateS
  exact copy_list hL laws_toCandidate (fun x _ => toCandidate_eq x) _
theorem eqCandidateS_self (L : List Candidate) (hL : L.length ≤ 1000000000) : laws_eqCandidateS L L = some true := by
  unfold laws_eqCandidateS
  exact eq_list hL laws_eqCandidate (fun x _ => eqCandidate_self x)
structure smSite (x : Site) : Prop where
  s0 : x.Code.size ≤ 1048576
theorem szSite_ok (x : Site) (hx : okSite x) (s : Int) (h0 : 0 ≤ s) (h1 : s ≤ 1048576) : ∃ v, laws_szSite x s = some v ∧ (v < 0 ∨ (0 ≤ v ∧ v ≤ s ∧ smSite x)) := by
  unfold laws_szSite
  have z0 := hx.Code
  unfold maxLen at z0
  rw [w64_id (n := s - (x.Code.size : Int)) (by omega) (by omega)]
  by_cases c0 : s - (x.Code.size : Int) < 0
  · rw [decide_eq_true c0]
    exact ⟨_, rfl, .inl (by omega)⟩
  rw [decide_eq_false c0, cond_false]
  exact ⟨_, rfl, .inr ⟨by omega, by omega, ⟨by omega⟩⟩⟩
theorem toSite_eq (x : Site) : laws_toSite x = some x := by
  unfold laws_toSite
  simp only [toPoint_eq x.At, Option.bind_some]
theorem eqSite_self (x : Site) : laws_eqSite x x = some true := by
  unfold laws_eqSite
  simp [eqPoint_self x.At]
theorem szSiteS_ok (L : List Site) (hL : L.length ≤ maxLen ∧ ∀ x ∈ L, okSite x) (l : Int) (h0 : 0 ≤ l) (h1 : l ≤ 1048576) : ∃ v, laws_szSiteS L l = some v ∧ (v < 0 ∨ (0 ≤ v ∧ v ≤ l ∧ (L.length : Int) ≤ l ∧ ∀ x ∈ L, smSite x)) := by
  unfold laws_szSiteS
  exact sz_list hL.1 laws_szSite smSite (fun x hx s h0 h1 => szSite_ok x (hL.2 x hx) s h0 h1) l h0 h1
theorem toSiteS_eq (L : List Site) (hL : L.length ≤ 1048576) : laws_toSiteS L = some L := by
  unfold laws_toSiteS
  exact copy_list hL laws_toSite (fun x _ => toSite_eq x) _
theorem eqSiteS_self (L : List Site) (hL : L.length ≤ 1000000000) : laws_eqSiteS L L = some true := by
  unfold laws_eqSiteS
  exact eq_list hL laws_eqSite (fun x _ => eqSite_self x)
structure smDescription (x : Description) : Prop where
  s2 : x.Unit.size ≤ 1048576
  s4 : x.A.size ≤ 1048576
  s5 : x.B.size ≤ 1048576
theorem szDescription_ok (x : Description) (hx : okDescription x) (s : Int) (h0 : 0 ≤ s) (h1 : s ≤ 1048576) : ∃ v, laws_szDescription x s = some v ∧ (v < 0 ∨ (0 ≤ v ∧ v ≤ s ∧ smDescription x)) := by
  unfold laws_szDescription
  have z0 := hx.Unit
  unfold maxLen at z0
  rw [w64_id (n := s - (x.Unit.size : Int)) (by omega) (by omega)]
  by_cases c0 : s - (x.Unit.size : Int) < 0
  · rw [decide_eq_true c0]
    exact ⟨_, rfl, .inl (by omega)⟩
  rw [decide_eq_false c0, cond_false]
  have z1 := hx.A
  unfold maxLen at z1
  rw [w64_id (n := s - (x.Unit.size : Int) - (x.A.size : Int)) (by omega) (by omega)]
  by_cases c1 : s - (x.Unit.size : Int) - (x.A.size : Int) < 0
  · rw [decide_eq_true c1]
    exact ⟨_, rfl, .inl (by omega)⟩
  rw [decide_eq_false c1, cond_false]
  have z2 := hx.B
  unfold maxLen at z2
  rw [w64_id (n := s - (x.Unit.size : Int) - (x.A.size : Int) - (x.B.size : Int)) (by omega) (by omega)]
  by_cases c2 : s - (x.Unit.size : Int) - (x.A.size : Int) - (x.B.size : Int) < 0
  · rw [decide_eq_true c2]
    exact ⟨_, rfl, .inl (by omega)⟩
  rw [decide_eq_false c2, cond_false]
  exact ⟨_, rfl, .inr ⟨by omega, by omega, ⟨by omega, by omega, by omega⟩⟩⟩
theorem toDescription_eq (x : Description) : laws_toDescription x = some x := by
  unfold laws_toDescription
  rfl
theorem eqDescription_self (x : Description) : laws_eqDescription x x = some true := by
  unfold laws_eqDescription
  simp
theorem szDescriptionS_ok (L : List Description) (hL : L.length ≤ maxLen ∧ ∀ x ∈ L, okDescription x) (l : Int) (h0 : 0 ≤ l) (h1 : l ≤ 1048576) : ∃ v, laws_szDescriptionS L l = some v ∧ (v < 0 ∨ (0 ≤ v ∧ v ≤ l ∧ (L.length : Int) ≤ l ∧ ∀ x ∈ L, smDescription x)) := by
  unfold laws_szDescriptionS
  exact sz_list hL.1 laws_szDescription smDescription (fun x hx s h0 h1 => szDescription_ok x (hL.2 x hx) s h0 h1) l h0 h1
theorem toDescriptionS_eq (L : List Description) (hL : L.length ≤ 1048576) : laws_toDescriptionS L = some L := by
  unfold laws_toDescriptionS
  exact copy_list hL laws_toDescription (fun x _ => toDescription_eq x) _
theorem eqDescriptionS_self (L : List Description) (hL : L.length ≤ 1000000000) : laws_eqDescriptionS L L = some true := by
  unfold laws_eqDescriptionS
  exact eq_list hL laws_eqDescription (fun x _ => eqDescription_self x)
end Go.Proofs.YtepmfngpdimkhaaGreatDoor.Sh
