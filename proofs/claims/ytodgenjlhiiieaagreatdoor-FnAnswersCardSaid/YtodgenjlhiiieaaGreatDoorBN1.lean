/- Plain laws of claims: IsClaim, AreClaims, contradictions, what claims tell, of both; bounds on lengths alone. -/
import Derived.Test.YtodgenjlhiiieaaGreatDoorBWP
import Derived.Test.YtodgenjlhiiieaaGreatDoorBQS
namespace Go.Proofs.YtodgenjlhiiieaaGreatDoor.Sh
open Go.RowKit Go.Lib
theorem beqL {a b : ByteArray} : (a.toList == b.toList) = true ↔ a = b := by
  rw [beq_iff_eq, toList_eq, toList_eq]
  refine ⟨fun h => ?_, fun h => by rw [h]⟩
  obtain ⟨a⟩ := a
  obtain ⟨b⟩ := b
  have h : a.toList = b.toList := h
  rw [Array.toList_inj.1 h]
theorem beqL_nil {a : ByteArray} (h : 1 ≤ a.size) : (a.toList == (ByteArray.mk #[]).toList) = false := by
  rw [Bool.eq_false_iff]
  intro hc
  rw [beqL] at hc
  rw [hc] at h
  simp [ByteArray.size] at h
/-- The first that fits, by its number. -/
theorem idx_find {α : Type} (p : α → Bool) : ∀ L : List α, (idxP p L = -1 ∧ L.find? p = none) ∨ ∃ (i : Nat) (x : α), idxP p L = i ∧ L[i]? = some x ∧ L.find? p = some x
  | [] => .inl ⟨rfl, rfl⟩
  | x :: l => by
    unfold idxP
    cases hp : p x
    · rw [List.find?_cons_of_neg (by rw [hp]; simp)]
      rcases idx_find p l with ⟨h1, h2⟩ | ⟨i, y, h1, h2, h3⟩
      · rw [h1]
        exact .inl ⟨rfl, h2⟩
      · have hd : decide ((i : Int) < 0) = false := decide_eq_false (by omega)
        simp only [h1, cond_false, hd]
        exact .inr ⟨i + 1, y, by simp, by simpa using h2, h3⟩
    · rw [List.find?_cons_of_pos hp]
      exact .inr ⟨0, x, rfl, rfl, rfl⟩
end Go.Proofs.YtodgenjlhiiieaaGreatDoor.Sh
