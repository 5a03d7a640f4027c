/- AreTies of both, in closed form; no condition but the bounds of the arguments' types. -/
import Derived.Test.YtojhgfkohbfhhaaDoorMW1
namespace Go.Proofs.YtojhgfkohbfhhaaDoor.Sh
open Go.RowKit Go.Lib
def i64 (n : Int) : Prop := -9223372036854775808 ≤ n ∧ n < 9223372036854775808
structure TOk (t : Tie) : Prop where
  a : i64 t.A
  b : i64 t.B
  r : t.Reason.size ≤ maxLen
def tieB (n : Int) (t : Tie) : Bool := decide (0 ≤ t.A) && (decide (t.A < t.B) && (decide (t.B < n) && wordB t.Reason))
def tiesB (n : Int) (L : List Tie) : Bool := inB n 1 12 && (decide (L.length ≤ 20) && L.all (tieB n))
theorem isTie_eq {n : Int} (hn : 1 ≤ n) (hn2 : n ≤ 12) {t : Tie} (ht : TOk t) : impl_isTie n t = some (tieB n t) := by
  have h1 := ht.a
  have h2 := ht.b
  unfold i64 at h1 h2
  unfold impl_isTie tieB
  rw [within_eq, w64_id (by omega) (by omega), Option.bind_some]
  cases hb : inB t.B 0 (n - 1)
  · have : ¬ (0 ≤ t.B ∧ t.B ≤ n - 1) := fun h => by rw [inB_iff.2 h] at hb; cases hb
    by_cases h3 : t.B < n
    · have h4 : ¬ (0 ≤ t.A ∧ t.A < t.B) := by omega
      by_cases h5 : 0 ≤ t.A
      · have h6 : ¬ t.A < t.B := by omega
        simp [h6]
      · simp [h5]
    · simp [h3]
  · have hb := inB_iff.1 hb
    rw [within_eq, w64_id (by omega) (by omega), impl_isWord _ ht.r]
    have h3 : t.B < n := by omega
    have h4 : inB t.A 0 (t.B - 1) = (decide (0 ≤ t.A) && decide (t.A < t.B)) := by
      unfold inB
      have : (t.A ≤ t.B - 1) ↔ t.A < t.B := by omega
      simp [this]
    rw [h4]
    simp only [cond_true, Option.bind_some, h3, decide_true, Bool.true_and]
    cases decide (0 ≤ t.A) <;> cases decide (t.A < t.B) <;> simp
theorem len63 {α : Type} {L : List α} (h : L.length ≤ maxLen) : L.length ≤ 9223372036854775807 := by unfold maxLen at h; omega
theorem impl_areTies (n : Int) (L : List Tie) (hL : L.length ≤ maxLen) (ht : ∀ t ∈ L, TOk t) : impl_AreTies n L = some (tiesB n L) := by
  unfold impl_AreTies tiesB
  rw [within_eq, Option.bind_some]
  cases hb : inB n 1 12
  · rfl
  · have hb := inB_iff.1 hb
    unfold slices_ContainsFunc_Tie_impl_AreTies_1 slices_IndexFunc_Tie_impl_AreTies_1
    rw [loop_idx (len63 hL) (fun t => !tieB n t) (fun i x hx => by
      rw [at_nat, hx, Option.bind_some]
      unfold impl_AreTies_1
      rw [isTie_eq hb.1 hb.2 (ht x (List.mem_of_getElem? hx))]
      simp only [Option.bind_some])]
    simp only [cond_true, Option.bind_some, Bool.true_and, idxP_any]
    rw [← List.not_all_eq_any_not]
    have h : ((L.length : Int) ≤ 20) ↔ (L.length ≤ 20) := by omega
    by_cases h2 : L.length ≤ 20
    · simp [h2, h]
    · simp [h2, h]
theorem spec_areTies (n : Int) (L : List Tie) (hL : L.length ≤ maxLen) (ht : ∀ t ∈ L, TOk t) : spec_AreTies n L = some (tiesB n L) := by
  unfold spec_AreTies tiesB
  rw [loop_any (len63 hL) (fun t => !tieB n t) false (fun i x hx => ?_)]
  · rw [← List.not_all_eq_any_not, l01In_eq]
    have h : ((L.length : Int) ≤ 20) ↔ (L.length ≤ 20) := by omega
    cases L.all (tieB n)
    · simp
    · simp only [Bool.not_true, cond_false, Option.bind_some, h]
      cases inB n 1 12 <;> simp
  · rw [at_nat, hx, Option.bind_some]
    unfold tieB
    by_cases h1 : x.A < 0
    · have : ¬ 0 ≤ x.A := by omega
      simp [h1, this]
    · have h1' : 0 ≤ x.A := by omega
      by_cases h2 : x.B ≤ x.A
      · have : ¬ x.A < x.B := by omega
        simp [h1, h2, this]
      · have h2' : x.A < x.B := by omega
        by_cases h3 : x.B ≥ n
        · have : ¬ x.B < n := by omega
          simp [h1, h2, h3, this]
        · have h3' : x.B < n := by omega
          rw [spec_isWord _ (ht x (List.mem_of_getElem? hx)).r]
          simp [h1, h1', h2, h2', h3, h3']
/-- Ties within n records. -/
structure TIn (n : Nat) (L : List Tie) : Prop where
  pos : 1 ≤ n
  le : n ≤ 12
  len : L.length ≤ 100
  all : ∀ t ∈ L, 0 ≤ t.A ∧ t.A < t.B ∧ t.B < n
theorem tiesB_in {n : Int} {L : List Tie} (h : tiesB n L = true) : ∃ m : Nat, n = m ∧ TIn m L ∧ L.length ≤ 20 := by
  unfold tiesB at h
  simp only [Bool.and_eq_true, decide_eq_true_eq, List.all_eq_true] at h
  obtain ⟨h1, h2, h3⟩ := h
  have h1 := inB_iff.1 h1
  obtain ⟨m, rfl⟩ := Int.eq_ofNat_of_zero_le (show 0 ≤ n by omega)
  refine ⟨m, rfl, ⟨by omega, by omega, by omega, fun t ht => ?_⟩, h2⟩
  have := h3 t ht
  unfold tieB at this
  simp only [Bool.and_eq_true, decide_eq_true_eq] at this
  exact ⟨this.1, this.2.1, this.2.2.1⟩
end Go.Proofs.YtojhgfkohbfhhaaDoor.Sh
