/- Loops as folds, under an invariant; no condition. -/
import Derived.Test.YtpohkmbkohjahaaGreatDoorSB
namespace Go.Proofs.YtpohkmbkohjahaaGreatDoor.Sh
open Go.RowKit
section
variable {S A α : Type}
/-- A loop comes to its end where an invariant holds and a measure falls. -/
theorem loop_inv {body : α → Option (α ⊕ A)} (I : α → Prop) (μ : α → Nat) (Q : A → Prop)
    (h : ∀ s, I s → (∃ s', body s = some (.inl s') ∧ I s' ∧ μ s' < μ s) ∨ ∃ r, body s = some (.inr r) ∧ Q r) {s : α} (hs : I s) : ∃ r, loop body s = some r ∧ Q r := by
  generalize hm : μ s = m
  induction m using Nat.strongRecOn generalizing s with
  | _ m ih =>
    rcases h s hs with ⟨s', h1, h2, h3⟩ | ⟨r, h1, h2⟩
    · rw [loop_eq, h1]
      exact ih _ (by omega) h2 rfl
    · rw [loop_eq, h1]
      exact ⟨r, rfl, h2⟩
end
theorem part_ok {α : Type} {L : List α} {l h : Int} (h0 : 0 ≤ l) (h1 : l ≤ h) (h2 : h ≤ L.length) : part' L l h = some ((L.drop l.toNat).take (h.toNat - l.toNat)) := by
  unfold part'
  rw [if_pos ⟨h0, h1, h2⟩]
theorem make_ok {α : Type} (z : α) {n : Nat} (h : n ≤ 68719476736) : make' z (n : Int) = some (List.replicate n z) := by
  unfold make'
  rw [if_pos (by omega)]
  rfl
end Go.Proofs.YtpohkmbkohjahaaGreatDoor.Sh
