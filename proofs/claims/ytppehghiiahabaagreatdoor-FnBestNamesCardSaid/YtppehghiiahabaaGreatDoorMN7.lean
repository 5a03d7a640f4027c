/- Plain laws of claims: AreConsistent, AreChosenConsistent, FitsTo and ExistsBy of both; the pairs. -/
import Derived.Test.YtppehghiiahabaaGreatDoorMN6
import Derived.Test.YtppehghiiahabaaGreatDoorMGV
namespace Go.Proofs.YtppehghiiahabaaGreatDoor.Sh
open Go.RowKit Go.Lib
/-- The claims with some indices. -/
def choL (L : List Claim) (I : List Int) : List Claim := (List.range I.length).flatMap fun i => ((I[i]?).bind fun x => L[x.toNat]?).toList
theorem choL_mem {L : List Claim} {I : List Int} {x : Claim} (h : x ∈ choL L I) : x ∈ L := by
  unfold choL at h
  obtain ⟨i, _, h⟩ := List.mem_flatMap.1 h
  rw [Option.mem_toList] at h
  obtain ⟨k, _, h⟩ := Option.bind_eq_some_iff.1 h
  exact List.mem_of_getElem? h
theorem choL_len (L : List Claim) (I : List Int) : (choL L I).length ≤ I.length := by
  unfold choL
  have key : ∀ R : List Nat, (R.flatMap fun i => ((I[i]?).bind fun x => L[x.toNat]?).toList).length ≤ R.length := by
    intro R
    induction R with
    | nil => simp
    | cons i r ih =>
      rw [List.flatMap_cons, List.length_append, List.length_cons]
      have : (((I[i]?).bind fun x => L[x.toNat]?).toList).length ≤ 1 := by
        cases ((I[i]?).bind fun x => L[x.toNat]?) <;> simp
      omega
  have := key (List.range I.length)
  rwa [List.length_range] at this
theorem impl_chosen_eq {L : List Claim} {I : List Int} (hI : I.length ≤ 100) (h : ∀ x ∈ I, 0 ≤ x ∧ x < L.length) : impl_chosen L I = some (choL L I) := by
  unfold impl_chosen
  rw [forS_build 1000 (by omega) (by omega) (fun i => ((I[i]?).bind fun x => L[x.toNat]?).toList) (fun i => by cases ((I[i]?).bind fun x => L[x.toNat]?) <;> simp) [] (by simp; omega) (fun i s hi hs => by
    have h1 := h _ (List.getElem_mem hi)
    rw [at_nat, List.getElem?_eq_getElem hi, Option.bind_some]
    obtain ⟨c, h2, h3⟩ := at_ok (L := L) h1.1 h1.2
    rw [h2, Option.bind_some, Option.bind_some, h3, app_ok (by simp; omega)]
    rfl)]
  rfl
theorem spec_chosen_eq {L : List Claim} {I : List Int} (hI : I.length ≤ 100) (h : ∀ x ∈ I, 0 ≤ x ∧ x < L.length) : spec_l21Chosen L I = some (choL L I) := impl_chosen_eq hI h
theorem cho_cons {L : List Claim} {I : List Int} (hI : I.length ≤ 100) (hc : claimsB L = true) : (choL L I).length ≤ 100 ∧ ∀ x ∈ choL L I, claimB x = true := by
  have := choL_len L I
  exact ⟨by omega, fun x hx => (claimsB_iff.1 hc).2 x (choL_mem hx)⟩
theorem spec_consistent_eq' {L : List Claim} (hL : L.length ≤ 100) (hc : ∀ x ∈ L, claimB x = true) : spec_l21Consistent L = some (consB L) := spec_consistent_eq hL hc
end Go.Proofs.YtppehghiiahabaaGreatDoor.Sh
