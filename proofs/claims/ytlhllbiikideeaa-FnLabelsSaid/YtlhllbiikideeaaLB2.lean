/- The order of a stable sort by a key from 9 down to 1: what one more element does; no condition. -/
import Derived.Test.YtlhllbiikideeaaL0
namespace Go.Proofs.Ytlhllbiikideeaa.Sh
open Go.RowKit
/-- The indices below n with a key. -/
def blkN (key : Nat → Int) (n : Nat) (j : Nat) : List Nat := (List.range n).filter fun i => key i == 9 - (j : Int)
/-- The indices below n, those of the greatest key first. -/
def ordN (key : Nat → Int) (n : Nat) : List Nat := (List.range 9).flatMap (blkN key n)
theorem blk_succ (key : Nat → Int) (n j : Nat) : blkN key (n + 1) j = blkN key n j ++ (if key n = 9 - (j : Int) then [n] else []) := by
  unfold blkN
  rw [List.range_succ, List.filter_append]
  congr 1
  by_cases h : key n = 9 - (j : Int)
  · rw [if_pos h, List.filter_cons_of_pos (by rw [beq_iff_eq]; exact h)]
    rfl
  · rw [if_neg h, List.filter_cons_of_neg (by rw [beq_iff_eq]; exact h)]
    rfl
theorem blk_mem {key : Nat → Int} {n j i : Nat} : i ∈ blkN key n j ↔ i < n ∧ key i = 9 - (j : Int) := by
  unfold blkN
  rw [List.mem_filter, List.mem_range, beq_iff_eq]
theorem flat_congr {α : Type} {f g : Nat → List α} : ∀ {l : List Nat}, (∀ j ∈ l, f j = g j) → l.flatMap f = l.flatMap g
  | [], _ => rfl
  | a :: l, h => by rw [List.flatMap_cons, List.flatMap_cons, h a (by simp), flat_congr fun j hj => h j (by simp [hj])]
theorem ord_succ (key : Nat → Int) (n : Nat) (h1 : 1 ≤ key n) (h2 : key n ≤ 9) : ∃ A B, ordN key n = A ++ B ∧ ordN key (n + 1) = A ++ n :: B ∧ (∀ i ∈ A, key n ≤ key i) ∧ (∀ i ∈ B, key i < key n) := by
  obtain ⟨q, hq⟩ : ∃ q : Nat, key n = 9 - (q : Int) := ⟨(9 - key n).toNat, by omega⟩
  have hq9 : q < 9 := by omega
  have e9 : List.range 9 = List.range q ++ q :: List.range' (q + 1) (8 - q) := by
    rw [List.range_eq_range', show 9 = q + (1 + (8 - q)) by omega, ← List.range'_append_1, ← List.range'_append_1, List.range_eq_range']
    simp
  refine ⟨(List.range q).flatMap (blkN key n) ++ blkN key n q, (List.range' (q + 1) (8 - q)).flatMap (blkN key n), ?_, ?_, ?_, ?_⟩
  · unfold ordN
    rw [e9, List.flatMap_append, List.flatMap_cons, List.append_assoc]
  · unfold ordN
    rw [e9, List.flatMap_append, List.flatMap_cons, blk_succ key n q, if_pos hq,
      flat_congr (l := List.range q) (f := blkN key (n + 1)) (g := blkN key n) (fun j hj => by
        rw [blk_succ, if_neg (by have := List.mem_range.1 hj; omega), List.append_nil]),
      flat_congr (l := List.range' (q + 1) (8 - q)) (f := blkN key (n + 1)) (g := blkN key n) (fun j hj => by
        rw [blk_succ, if_neg (by have := List.mem_range'_1.1 hj; omega), List.append_nil])]
    simp
  · intro i hi
    rcases List.mem_append.1 hi with hi | hi
    · obtain ⟨j, hj, hi⟩ := List.mem_flatMap.1 hi
      have := (blk_mem.1 hi).2
      have := List.mem_range.1 hj
      omega
    · have := (blk_mem.1 hi).2
      omega
  · intro i hi
    obtain ⟨j, hj, hi⟩ := List.mem_flatMap.1 hi
    have := (blk_mem.1 hi).2
    have := List.mem_range'_1.1 hj
    omega
theorem ord_mem {key : Nat → Int} {n i : Nat} (h : i ∈ ordN key n) : i < n := by
  unfold ordN at h
  obtain ⟨j, _, h⟩ := List.mem_flatMap.1 h
  exact (blk_mem.1 h).1
theorem ord_len {key : Nat → Int} : ∀ {n : Nat}, (∀ i, i < n → 1 ≤ key i ∧ key i ≤ 9) → (ordN key n).length = n
  | 0, _ => rfl
  | n + 1, h => by
    obtain ⟨A, B, h1, h2, _, _⟩ := ord_succ key n (h n (by omega)).1 (h n (by omega)).2
    have ih := ord_len (key := key) (n := n) fun i hi => h i (by omega)
    rw [h1] at ih
    rw [h2]
    simp at ih ⊢
    omega
theorem ord_nodup {key : Nat → Int} : ∀ {n : Nat}, (∀ i, i < n → 1 ≤ key i ∧ key i ≤ 9) → (ordN key n).Nodup
  | 0, _ => by
    have e : ordN key 0 = [] := rfl
    rw [e]
    exact List.nodup_nil
  | n + 1, h => by
    obtain ⟨A, B, h1, h2, _, _⟩ := ord_succ key n (h n (by omega)).1 (h n (by omega)).2
    have ih := ord_nodup (key := key) (n := n) fun i hi => h i (by omega)
    have hn : n ∉ ordN key n := fun hm => by have := ord_mem hm; omega
    rw [h1] at ih hn
    rw [h2]
    refine (List.perm_middle (a := n) (l₁ := A) (l₂ := B)).nodup_iff.2 (List.nodup_cons.2 ⟨hn, ih⟩)
/-- Two cuts of a list where the same test holds on the left and nowhere on the right. -/
theorem cut_one {α : Type} {p : α → Prop} : ∀ {A B C D : List α}, A ++ B = C ++ D → (∀ x ∈ A, p x) → (∀ x ∈ B, ¬ p x) → (∀ x ∈ D, ¬ p x) → (∀ x, C.getLast? = some x → p x) → C = A ∧ D = B
  | [], B, [], D, h, _, _, _, _ => ⟨rfl, h.symm⟩
  | [], B, c :: C, D, h, _, hB, _, hC => by
    exfalso
    obtain ⟨x, hx⟩ : ∃ x, (c :: C).getLast? = some x := ⟨_, List.getLast?_eq_some_getLast (by simp)⟩
    exact hB x (by rw [show B = c :: C ++ D from h]; exact List.mem_append_left _ (List.mem_of_getLast? hx)) (hC x hx)
  | a :: A, B, [], D, h, hA, _, hD, _ => by
    exfalso
    exact hD a (by rw [← show a :: A ++ B = D from h]; simp) (hA a (by simp))
  | a :: A, B, c :: C, D, h, hA, hB, hD, hC => by
    have h' : a :: (A ++ B) = c :: (C ++ D) := h
    injection h' with h1 h2
    subst h1
    obtain ⟨e1, e2⟩ := cut_one h2 (fun x hx => hA x (by simp [hx])) hB hD (fun x hx => by
      refine hC x ?_
      cases C with
      | nil => simp at hx
      | cons y C => rw [List.getLast?_cons_cons]; exact hx)
    exact ⟨by rw [e1], e2⟩
end Go.Proofs.Ytlhllbiikideeaa.Sh
