/- Sizes, copies, comparisons and marks of the laws' types; bounds on lengths alone. -/
import Derived.Test.YtppehghiiahabaaGreatDoorQA
import Derived.Test.YtppehghiiahabaaGreatDoorRD
import Derived.Test.YtppehghiiahabaaGreatDoorGA
namespace Go.Proofs.YtppehghiiahabaaGreatDoor.Sh
open Go.RowKit Go.Lib
structure smClaim (x : Claim) : Prop where
  s0 : x.Source.size ≤ 1048576
  s2 : x.Place.size ≤ 1048576
  s3 : x.Value.size ≤ 1048576
theorem szClaim_ok (x : Claim) (hx : okClaim x) (s : Int) (h0 : 0 ≤ s) (h1 : s ≤ 1048576) : ∃ v, laws_szClaim x s = some v ∧ (v < 0 ∨ (0 ≤ v ∧ v ≤ s ∧ smClaim x)) := by
  unfold laws_szClaim
  have z0 := hx.Source
  unfold maxLen at z0
  rw [w64_id (n := s - (x.Source.size : Int)) (by omega) (by omega)]
  by_cases c0 : s - (x.Source.size : Int) < 0
  · rw [decide_eq_true c0]
    exact ⟨_, rfl, .inl (by omega)⟩
  rw [decide_eq_false c0, cond_false]
  have z1 := hx.Place
  unfold maxLen at z1
  rw [w64_id (n := s - (x.Source.size : Int) - (x.Place.size : Int)) (by omega) (by omega)]
  by_cases c1 : s - (x.Source.size : Int) - (x.Place.size : Int) < 0
  · rw [decide_eq_true c1]
    exact ⟨_, rfl, .inl (by omega)⟩
  rw [decide_eq_false c1, cond_false]
  have z2 := hx.Value
  unfold maxLen at z2
  rw [w64_id (n := s - (x.Source.size : Int) - (x.Place.size : Int) - (x.Value.size : Int)) (by omega) (by omega)]
  by_cases c2 : s - (x.Source.size : Int) - (x.Place.size : Int) - (x.Value.size : Int) < 0
  · rw [decide_eq_true c2]
    exact ⟨_, rfl, .inl (by omega)⟩
  rw [decide_eq_false c2, cond_false]
  exact ⟨_, rfl, .inr ⟨by omega, by omega, ⟨by omega, by omega, by omega⟩⟩⟩
theorem toSpan_eq (x : Span) : laws_toSpan x = some x := by
  unfold laws_toSpan
  rfl
theorem eqSpan_self (x : Span) : laws_eqSpan x x = some true := by
  unfold laws_eqSpan
  simp
theorem toClaim_eq (x : Claim) : laws_toClaim x = some x := by
  unfold laws_toClaim
  simp only [toSpan_eq x.Years, Option.bind_some]
theorem eqClaim_self (x : Claim) : laws_eqClaim x x = some true := by
  unfold laws_eqClaim
  simp [eqSpan_self x.Years]
theorem szClaimS_ok (L : List Claim) (hL : L.length ≤ maxLen ∧ ∀ x ∈ L, okClaim x) (l : Int) (h0 : 0 ≤ l) (h1 : l ≤ 1048576) : ∃ v, laws_szClaimS L l = some v ∧ (v < 0 ∨ (0 ≤ v ∧ v ≤ l ∧ (L.length : Int) ≤ l ∧ ∀ x ∈ L, smClaim x)) := by
  unfold laws_szClaimS
  exact sz_list hL.1 laws_szClaim smClaim (fun x hx s h0 h1 => szClaim_ok x (hL.2 x hx) s h0 h1) l h0 h1
theorem toClaimS_eq (L : List Claim) (hL : L.length ≤ 1048576) : laws_toClaimS L = some L := by
  unfold laws_toClaimS
  exact copy_list hL laws_toClaim (fun x _ => toClaim_eq x) _
theorem eqClaimS_self (L : List Claim) (hL : L.length ≤ 1000000000) : laws_eqClaimS L L = some true := by
  unfold laws_eqClaimS
  exact eq_list hL laws_eqClaim (fun x _ => eqClaim_self x)
end Go.Proofs.YtppehghiiahabaaGreatDoor.Sh
