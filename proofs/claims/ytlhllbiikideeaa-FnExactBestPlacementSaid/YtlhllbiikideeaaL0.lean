/- Loops as folds, under an invariant; no condition. -/
import Derived.Test.YtlhllbiikideeaaSB
namespace Go.Proofs.Ytlhllbiikideeaa.Sh
open Go.RowKit
theorem part_ok {α : Type} {L : List α} {l h : Int} (h0 : 0 ≤ l) (h1 : l ≤ h) (h2 : h ≤ L.length) : part' L l h = some ((L.drop l.toNat).take (h.toNat - l.toNat)) := by
  unfold part'
  rw [if_pos ⟨h0, h1, h2⟩]
theorem make_ok {α : Type} (z : α) {n : Nat} (h : n ≤ 68719476736) : make' z (n : Int) = some (List.replicate n z) := by
  unfold make'
  rw [if_pos (by omega)]
  rfl
end Go.Proofs.Ytlhllbiikideeaa.Sh
