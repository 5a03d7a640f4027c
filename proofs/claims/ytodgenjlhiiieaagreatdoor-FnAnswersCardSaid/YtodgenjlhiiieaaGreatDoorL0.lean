/- Loops as folds, under an invariant; no condition. -/
import Derived.Test.YtodgenjlhiiieaaGreatDoorSB
namespace Go.Proofs.YtodgenjlhiiieaaGreatDoor.Sh
open Go.RowKit
section
variable {S A α : Type}
theorem iterN_foldl {B : Nat → S → Option (S ⊕ A)} {D : S → A} (I : S → Prop) (g : S → Nat → S) : ∀ (n k : Nat) (s : S), (∀ i s, k ≤ i → i < k + n → I s → B i s = some (.inl (g s i)) ∧ I (g s i)) → I s → iterN B D n k s = some (D ((List.range' k n).foldl g s)) ∧ I ((List.range' k n).foldl g s)
  | 0, k, s, _, h2 => ⟨rfl, h2⟩
  | n + 1, k, s, h, h2 => by
    have h3 := h k s (Nat.le_refl _) (by omega) h2
    unfold iterN
    rw [h3.1, Option.bind_some, Sum.elim_inl, List.range'_succ, List.foldl_cons]
    exact iterN_foldl I g n (k + 1) _ (fun i s h4 h5 => h i s (by omega) (by omega)) h3.2
theorem forS_foldl {n : Nat} (hn : n ≤ 9223372036854775807) {B : Int → S → Option S} {D : S → A} (I : S → Prop) (g : S → Nat → S) (s : S) (h : ∀ (i : Nat) s, i < n → I s → B (i : Int) s = some (g s i) ∧ I (g s i)) (h2 : I s) : forS (n : Int) B D 0 s = some (D ((List.range n).foldl g s)) ∧ I ((List.range n).foldl g s) := by
  rw [forS_forN, forN_iter n hn, List.range_eq_range']
  exact iterN_foldl I g n 0 s (fun i s _ h4 h5 => by
    have h6 := h i s (by omega) h5
    rw [h6.1]
    exact ⟨rfl, h6.2⟩) h2
theorem forS_foldl_list {L : List α} (hL : L.length ≤ 9223372036854775807) {B : Int → S → Option S} {D : S → A} (I : S → Prop) (g : S → α → S) (s : S) (h : ∀ (i : Nat) x s, L[i]? = some x → I s → B (i : Int) s = some (g s x) ∧ I (g s x)) (h2 : I s) : forS (L.length : Int) B D 0 s = some (D (L.foldl g s)) ∧ I (L.foldl g s) := by
  have key : ∀ (M : List α) (k : Nat) (s : S), (∀ j x s, M[j]? = some x → I s → B ((k + j : Nat) : Int) s = some (g s x) ∧ I (g s x)) → I s → iterN (fun i s => (B (i : Int) s).map .inl) D M.length k s = some (D (M.foldl g s)) ∧ I (M.foldl g s) := by
    intro M
    induction M with
    | nil => exact fun k s _ h => ⟨rfl, h⟩
    | cons x l ih =>
      intro k s h h2
      have h3 := h 0 x s rfl h2
      rw [Nat.add_zero] at h3
      show ((B (k : Int) s).map .inl).bind (Sum.elim (iterN (fun i s => (B (i : Int) s).map .inl) D l.length (k + 1)) some) = _ ∧ _
      rw [h3.1]
      exact ih (k + 1) _ (fun j y s hy h5 => by
        have := h (j + 1) y s (by simpa using hy) h5
        rw [show k + 1 + j = k + (j + 1) from by omega]
        exact this) h3.2
  rw [forS_forN, forN_iter _ hL]
  exact key L 0 s (fun j x s hx hI => by
    rw [Nat.zero_add]
    exact h j x s hx hI) h2
/-- A loop comes to its end where an invariant holds and a measure falls. -/
theorem loop_inv {body : α → Option (α ⊕ A)} (I : α → Prop) (μ : α → Nat) (Q : A → Prop)
    (h : ∀ s, I s → (∃ s', body s = some (.inl s') ∧ I s' ∧ μ s' < μ s) ∨ ∃ r, body s = some (.inr r) ∧ Q r) {s : α} (hs : I s) : ∃ r, loop body s = some r ∧ Q r := by
  generalize hm : μ s = m
  induction m using Nat.strongRecOn generalizing s with
  | _ m ih =>
    rcases h s hs with ⟨s', h1, h2, h3⟩ | ⟨r, h1, h2⟩
    · rw [loop_eq, h1]
      exact ih _ (by omega) h2 rfl
    · rw [loop_eq, h1]
      exact ⟨r, rfl, h2⟩
end
theorem part_ok {α : Type} {L : List α} {l h : Int} (h0 : 0 ≤ l) (h1 : l ≤ h) (h2 : h ≤ L.length) : part' L l h = some ((L.drop l.toNat).take (h.toNat - l.toNat)) := by
  unfold part'
  rw [if_pos ⟨h0, h1, h2⟩]
theorem make_ok {α : Type} (z : α) {n : Nat} (h : n ≤ 68719476736) : make' z (n : Int) = some (List.replicate n z) := by
  unfold make'
  rw [if_pos (by omega)]
  rfl
end Go.Proofs.YtodgenjlhiiieaaGreatDoor.Sh
