/- Plain laws of claims: AreConsistent, AreChosenConsistent, FitsTo and ExistsBy of both; the pairs. -/
import Derived.Test.YtppehghiiahabaaGreatDoorMN6
import Derived.Test.YtppehghiiahabaaGreatDoorMGV
namespace Go.Proofs.YtppehghiiahabaaGreatDoor.Sh
open Go.RowKit Go.Lib
theorem consB_pair {L : List Claim} (h : consB L = true) : pairB L = false := by
  unfold consB at h
  rw [Bool.and_eq_true, Bool.not_eq_true'] at h
  exact h.1
noncomputable def conV (L : List Claim) : Bool × Int := bif claimsB L then (consB L, 0) else (false, 1)
theorem impl_areCons_eq {L : List Claim} (hL : L.length ≤ 1048576) (h : ∀ x ∈ L, smClaim x) : impl_AreConsistent L = some (conV L) := by
  unfold impl_AreConsistent conV
  rw [impl_areClaims hL h, Option.bind_some]
  cases hc : claimsB L
  · rfl
  · obtain ⟨h1, h2⟩ := claimsB_iff.1 hc
    rw [impl_consistent_eq (by omega) h2]
    rfl
/-- Are these rising indices below n? -/
def risP (I : List Int) (n : Int) (i : Nat) (x : Int) : Bool := !inB x 0 (w64 (n - 1)) || (decide (0 < i) && decide ((I[i - 1]?).getD 0 ≥ x))
def risB (I : List Int) (n : Int) : Bool := !(firstI (risP I n) (fun _ _ => ()) I 0).isSome
theorem impl_rises {I : List Int} (hI : I.length ≤ 1048576) (n : Int) : impl_areIndices I n = some (risB I n) := by
  unfold impl_areIndices risB
  rw [loop_first (by omega) (risP I n) (fun _ _ => false) (fun i x hx => by
    have hi : i < I.length := (List.getElem?_eq_some_iff.1 hx).1
    rw [at_nat, hx, Option.bind_some, within_eq, Option.bind_some]
    unfold risP
    cases inB x 0 (w64 (n - 1))
    · rfl
    · rw [Bool.not_true, cond_false, Bool.false_or]
      by_cases h0 : 0 < i
      · rw [decide_eq_true (show (i : Int) > 0 by omega), decide_eq_true h0, cond_true, Bool.true_and, w64_id (by omega) (by omega), show (i : Int) - 1 = ((i - 1 : Nat) : Int) by omega, at_nat, List.getElem?_eq_getElem (by omega)]
        rfl
      · rw [decide_eq_false (show ¬ (i : Int) > 0 by omega), decide_eq_false h0]
        rfl), firstI_const]
  cases (firstI (risP I n) (fun _ _ => ()) I 0).isSome <;> rfl
/-- The claims with some indices. -/
def choL (L : List Claim) (I : List Int) : List Claim := (List.range I.length).flatMap fun i => ((I[i]?).bind fun x => L[x.toNat]?).toList
theorem choL_mem {L : List Claim} {I : List Int} {x : Claim} (h : x ∈ choL L I) : x ∈ L := by
  unfold choL at h
  obtain ⟨i, _, h⟩ := List.mem_flatMap.1 h
  rw [Option.mem_toList] at h
  obtain ⟨k, _, h⟩ := Option.bind_eq_some_iff.1 h
  exact List.mem_of_getElem? h
theorem choL_len (L : List Claim) (I : List Int) : (choL L I).length ≤ I.length := by
  unfold choL
  have key : ∀ R : List Nat, (R.flatMap fun i => ((I[i]?).bind fun x => L[x.toNat]?).toList).length ≤ R.length := by
    intro R
    induction R with
    | nil => simp
    | cons i r ih =>
      rw [List.flatMap_cons, List.length_append, List.length_cons]
      have : (((I[i]?).bind fun x => L[x.toNat]?).toList).length ≤ 1 := by
        cases ((I[i]?).bind fun x => L[x.toNat]?) <;> simp
      omega
  have := key (List.range I.length)
  rwa [List.length_range] at this
theorem impl_chosen_eq {L : List Claim} {I : List Int} (hI : I.length ≤ 100) (h : ∀ x ∈ I, 0 ≤ x ∧ x < L.length) : impl_chosen L I = some (choL L I) := by
  unfold impl_chosen
  rw [forS_build 1000 (by omega) (by omega) (fun i => ((I[i]?).bind fun x => L[x.toNat]?).toList) (fun i => by cases ((I[i]?).bind fun x => L[x.toNat]?) <;> simp) [] (by simp; omega) (fun i s hi hs => by
    have h1 := h _ (List.getElem_mem hi)
    rw [at_nat, List.getElem?_eq_getElem hi, Option.bind_some]
    obtain ⟨c, h2, h3⟩ := at_ok (L := L) h1.1 h1.2
    rw [h2, Option.bind_some, Option.bind_some, h3, app_ok (by simp; omega)]
    rfl)]
  rfl
theorem spec_chosen_eq {L : List Claim} {I : List Int} (hI : I.length ≤ 100) (h : ∀ x ∈ I, 0 ≤ x ∧ x < L.length) : spec_l21Chosen L I = some (choL L I) := impl_chosen_eq hI h
theorem cho_cons {L : List Claim} {I : List Int} (hI : I.length ≤ 100) (hc : claimsB L = true) : (choL L I).length ≤ 100 ∧ ∀ x ∈ choL L I, claimB x = true := by
  have := choL_len L I
  exact ⟨by omega, fun x hx => (claimsB_iff.1 hc).2 x (choL_mem hx)⟩
theorem spec_consistent_eq' {L : List Claim} (hL : L.length ≤ 100) (hc : ∀ x ∈ L, claimB x = true) : spec_l21Consistent L = some (consB L) := spec_consistent_eq hL hc
end Go.Proofs.YtppehghiiahabaaGreatDoor.Sh
