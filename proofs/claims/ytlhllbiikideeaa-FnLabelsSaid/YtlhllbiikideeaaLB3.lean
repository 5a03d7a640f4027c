/- Placing one label after the other, with any two tests of what is allowed and what clashes; no condition but theirs. -/
import Derived.Test.YtlhllbiikideeaaLB2
namespace Go.Proofs.Ytlhllbiikideeaa.Sh
open Go.RowKit
def gp (P : List Int) (i : Nat) : Int := (P[i]?).getD 0
theorem gp_set {P : List Int} {i : Nat} (h : i < P.length) (x : Int) : gp (P.set i x) i = x := by
  unfold gp
  rw [List.getElem?_set_self h]
  rfl
theorem gp_set_ne {P : List Int} {i k : Nat} (h : i ≠ k) (x : Int) : gp (P.set i x) k = gp P k := by
  unfold gp
  rw [List.getElem?_set_ne h]
theorem gp_at {P : List Int} {i : Nat} (h : i < P.length) : P[i]? = some (gp P i) := by
  unfold gp
  rw [List.getElem?_eq_getElem h]
  rfl
section
variable (al : Nat → Int → Bool) (cl : Nat → Int → Nat → Int → Bool)
def clearAt (P : List Int) (i : Nat) : Bool := al i (gp P i) && (List.range i).all fun k => !cl i (gp P i) k (gp P k)
def clearB (P : List Int) : Bool := (List.range P.length).all (clearAt al cl P)
def fitB (P : List Int) (i : Nat) (pos : Int) : Bool := al i pos && (List.range P.length).all fun k => k == i || !cl k (gp P k) i pos
variable {al cl}
theorem clearAt_iff {P : List Int} {i : Nat} : clearAt al cl P i = true ↔ al i (gp P i) = true ∧ ∀ k, k < i → cl i (gp P i) k (gp P k) = false := by
  unfold clearAt
  rw [Bool.and_eq_true, List.all_eq_true]
  refine ⟨fun h => ⟨h.1, fun k hk => ?_⟩, fun h => ⟨h.1, fun k hk => ?_⟩⟩
  · have := h.2 k (List.mem_range.2 hk)
    simpa using this
  · rw [h.2 k (List.mem_range.1 hk)]
    rfl
theorem clearB_iff {P : List Int} : clearB al cl P = true ↔ ∀ i, i < P.length → al i (gp P i) = true ∧ ∀ k, k < i → cl i (gp P i) k (gp P k) = false := by
  unfold clearB
  rw [List.all_eq_true]
  exact ⟨fun h i hi => clearAt_iff.1 (h i (List.mem_range.2 hi)), fun h i hi => clearAt_iff.2 (h i (List.mem_range.1 hi))⟩
theorem fitB_iff {P : List Int} {i : Nat} {pos : Int} : fitB al cl P i pos = true ↔ al i pos = true ∧ ∀ k, k < P.length → k ≠ i → cl k (gp P k) i pos = false := by
  unfold fitB
  rw [Bool.and_eq_true, List.all_eq_true]
  refine ⟨fun h => ⟨h.1, fun k hk hne => ?_⟩, fun h => ⟨h.1, fun k hk => ?_⟩⟩
  · have := h.2 k (List.mem_range.2 hk)
    rw [Bool.or_eq_true, beq_iff_eq] at this
    rcases this with h | h
    · exact absurd h hne
    · simpa using h
  · by_cases hki : k = i
    · simp [hki]
    · rw [h.2 k (List.mem_range.1 hk) hki]
      simp
theorem clear_set (sym : ∀ i x k y, cl i x k y = cl k y i x) {P : List Int} (hc : clearB al cl P = true) {i : Nat} (hi : i < P.length) (pos : Int) : clearB al cl (P.set i pos) = fitB al cl P i pos := by
  rw [Bool.eq_iff_iff, clearB_iff, fitB_iff]
  rw [clearB_iff] at hc
  have e0 : gp (P.set i pos) i = pos := gp_set hi pos
  rw [List.length_set]
  constructor
  · intro h
    refine ⟨by have := (h i hi).1; rwa [e0] at this, fun k hk hne => ?_⟩
    rcases Nat.lt_or_gt_of_ne hne with hlt | hgt
    · have := (h i hi).2 k hlt
      rw [e0, gp_set_ne (fun e => hne e.symm)] at this
      rw [sym]
      exact this
    · have := (h k hk).2 i hgt
      rwa [e0, gp_set_ne (fun e => hne e.symm)] at this
  · intro h j hj
    by_cases hji : j = i
    · subst hji
      rw [e0]
      refine ⟨h.1, fun k hk => ?_⟩
      rw [gp_set_ne (by omega), sym]
      exact h.2 k (by omega) (by omega)
    · rw [gp_set_ne (fun e => hji e.symm)]
      refine ⟨(hc j hj).1, fun k hk => ?_⟩
      by_cases hki : k = i
      · subst hki
        rw [e0]
        exact h.2 j hj hji
      · rw [gp_set_ne (fun e => hki e.symm)]
        exact (hc j hj).2 k hk
/-- The first position that fits. -/
def firstFit (al : Nat → Int → Bool) (cl : Nat → Int → Nat → Int → Bool) (P : List Int) (i : Nat) : List Int := match ([0, 1, 2, 3] : List Int).find? (fitB al cl P i) with
  | some pos => P.set i pos
  | none => P
theorem fit_len (P : List Int) (i : Nat) : (firstFit al cl P i).length = P.length := by
  unfold firstFit
  split
  · exact List.length_set
  · rfl
theorem fit_clear (sym : ∀ i x k y, cl i x k y = cl k y i x) {P : List Int} (hc : clearB al cl P = true) {i : Nat} (hi : i < P.length) : clearB al cl (firstFit al cl P i) = true := by
  unfold firstFit
  split
  · rename_i pos h
    rw [clear_set sym hc hi]
    exact List.find?_some h
  · exact hc
theorem fit_ne {P : List Int} {i k : Nat} (h : i ≠ k) : gp (firstFit al cl P i) k = gp P k := by
  unfold firstFit
  split
  · exact gp_set_ne h _
  · rfl
end
end Go.Proofs.Ytlhllbiikideeaa.Sh
