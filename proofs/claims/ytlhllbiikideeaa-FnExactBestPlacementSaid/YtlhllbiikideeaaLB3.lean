/- Placing one label after the other, with any two tests of what is allowed and what clashes; no condition but theirs. -/
import Derived.Test.YtlhllbiikideeaaLB2
namespace Go.Proofs.Ytlhllbiikideeaa.Sh
open Go.RowKit
def gp (P : List Int) (i : Nat) : Int := (P[i]?).getD 0
theorem gp_set {P : List Int} {i : Nat} (h : i < P.length) (x : Int) : gp (P.set i x) i = x := by
  unfold gp
  rw [List.getElem?_set_self h]
  rfl
theorem gp_set_ne {P : List Int} {i k : Nat} (h : i ≠ k) (x : Int) : gp (P.set i x) k = gp P k := by
  unfold gp
  rw [List.getElem?_set_ne h]
theorem gp_at {P : List Int} {i : Nat} (h : i < P.length) : P[i]? = some (gp P i) := by
  unfold gp
  rw [List.getElem?_eq_getElem h]
  rfl
section
variable (al : Nat → Int → Bool) (cl : Nat → Int → Nat → Int → Bool)
def clearAt (P : List Int) (i : Nat) : Bool := al i (gp P i) && (List.range i).all fun k => !cl i (gp P i) k (gp P k)
def clearB (P : List Int) : Bool := (List.range P.length).all (clearAt al cl P)
variable {al cl}
theorem clearAt_iff {P : List Int} {i : Nat} : clearAt al cl P i = true ↔ al i (gp P i) = true ∧ ∀ k, k < i → cl i (gp P i) k (gp P k) = false := by
  unfold clearAt
  rw [Bool.and_eq_true, List.all_eq_true]
  refine ⟨fun h => ⟨h.1, fun k hk => ?_⟩, fun h => ⟨h.1, fun k hk => ?_⟩⟩
  · have := h.2 k (List.mem_range.2 hk)
    simpa using this
  · rw [h.2 k (List.mem_range.1 hk)]
    rfl
theorem clearB_iff {P : List Int} : clearB al cl P = true ↔ ∀ i, i < P.length → al i (gp P i) = true ∧ ∀ k, k < i → cl i (gp P i) k (gp P k) = false := by
  unfold clearB
  rw [List.all_eq_true]
  exact ⟨fun h i hi => clearAt_iff.1 (h i (List.mem_range.2 hi)), fun h i hi => clearAt_iff.2 (h i (List.mem_range.1 hi))⟩
end
end Go.Proofs.Ytlhllbiikideeaa.Sh
