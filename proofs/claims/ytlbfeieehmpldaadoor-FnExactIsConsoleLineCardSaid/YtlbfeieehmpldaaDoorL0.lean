/- Loops as folds, under an invariant; no condition. -/
import Derived.Test.YtlbfeieehmpldaaDoorSB
namespace Go.Proofs.YtlbfeieehmpldaaDoor.Sh
open Go.RowKit
section
variable {S A α : Type}
theorem iterN_foldl {B : Nat → S → Option (S ⊕ A)} {D : S → A} (I : S → Prop) (g : S → Nat → S) : ∀ (n k : Nat) (s : S), (∀ i s, k ≤ i → i < k + n → I s → B i s = some (.inl (g s i)) ∧ I (g s i)) → I s → iterN B D n k s = some (D ((List.range' k n).foldl g s)) ∧ I ((List.range' k n).foldl g s)
  | 0, k, s, _, h2 => ⟨rfl, h2⟩
  | n + 1, k, s, h, h2 => by
    have h3 := h k s (Nat.le_refl _) (by omega) h2
    unfold iterN
    rw [h3.1, Option.bind_some, Sum.elim_inl, List.range'_succ, List.foldl_cons]
    exact iterN_foldl I g n (k + 1) _ (fun i s h4 h5 => h i s (by omega) (by omega)) h3.2
theorem forS_foldl {n : Nat} (hn : n ≤ 9223372036854775807) {B : Int → S → Option S} {D : S → A} (I : S → Prop) (g : S → Nat → S) (s : S) (h : ∀ (i : Nat) s, i < n → I s → B (i : Int) s = some (g s i) ∧ I (g s i)) (h2 : I s) : forS (n : Int) B D 0 s = some (D ((List.range n).foldl g s)) ∧ I ((List.range n).foldl g s) := by
  rw [forS_forN, forN_iter n hn, List.range_eq_range']
  exact iterN_foldl I g n 0 s (fun i s _ h4 h5 => by
    have h6 := h i s (by omega) h5
    rw [h6.1]
    exact ⟨rfl, h6.2⟩) h2
end
end Go.Proofs.YtlbfeieehmpldaaDoor.Sh
