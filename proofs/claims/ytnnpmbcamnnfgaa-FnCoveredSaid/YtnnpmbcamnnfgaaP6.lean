/- The points that a label covers: both forms have the same closed form; no condition but an allowed label. -/
import Derived.Test.YtnnpmbcamnnfgaaP5
namespace Go.Proofs.Ytnnpmbcamnnfgaa.Sh
open Go.RowKit
/-- A loop that counts up from a and makes a list longer. -/
theorem loop_build {α A : Type} {body : Int × List α → Option ((Int × List α) ⊕ A)} (a : Int) (n : Nat) (g : Nat → List α) (acc : List α) (fin : A)
    (h : ∀ i : Nat, i < n → body (a + i, acc ++ (List.range i).flatMap g) = some (.inl (a + ((i + 1 : Nat) : Int), acc ++ (List.range (i + 1)).flatMap g)))
    (he : body (a + n, acc ++ (List.range n).flatMap g) = some (.inr fin)) : loop body (a, acc) = some fin := by
  have key : ∀ d i : Nat, i + d = n → loop body (a + i, acc ++ (List.range i).flatMap g) = some fin := by
    intro d
    induction d with
    | zero =>
      intro i hi
      have : i = n := by omega
      subst this
      rw [loop_eq, he]
    | succ d ih =>
      intro i hi
      rw [loop_eq, h i (by omega)]
      exact ih (i + 1) (by omega)
  have := key n 0 (by omega)
  simpa using this
theorem range_flat {α : Type} (g : Nat → List α) (i : Nat) : (List.range (i + 1)).flatMap g = (List.range i).flatMap g ++ g i := by
  rw [List.range_succ, List.flatMap_append]
  simp
/-- Where the covered row starts. -/
def rowX (l : Label) (p : Int) : Int := bif p == 1 || p == 2 then l.At.X - l.Length else l.At.X + 1
def rowY (l : Label) (p : Int) : Int := bif p == 2 || p == 3 then l.At.Y - 1 else l.At.Y + 1
def covP (l : Label) (p : Int) : List Point := (List.range l.Length.toNat).map fun (k : Nat) => Point.mk (rowX l p + (k : Int)) (rowY l p)
theorem flat1 {α β : Type} (f : α → β) : ∀ l : List α, (l.flatMap fun k => [f k]) = l.map f
  | [] => rfl
  | a :: l => by rw [List.flatMap_cons, flat1 f l]; rfl
def LabIn (l : Label) : Prop := -1000 ≤ l.At.X ∧ l.At.X ≤ 1000 ∧ -1000 ≤ l.At.Y ∧ l.At.Y ≤ 1000 ∧ 1 ≤ l.Length ∧ l.Length ≤ 20 ∧ 1 ≤ l.Priority ∧ l.Priority ≤ 9
theorem labIn_of {l : Label} (h : labOk l = true) : LabIn l := by
  simp [labOk, ptOk, inB] at h
  unfold LabIn
  omega
theorem impl_row {l : Label} (hl : LabIn l) (x y : Int) (hx : -2000 ≤ x) (hx2 : x ≤ 2000) :
    loop (fun (s5 : Int × (List Point)) => (bif (decide (s5.1 < (w64 (x + l.Length)))) then ((((app' s5.2 ([(Point.mk s5.1 y)] : List Point)).bind fun x9 => some x9)).bind fun (j7 : (List Point)) => some (.inl ((w64 (s5.1 + 1)), j7))) else some (.inr s5.2))) (x, ([] : List Point)) = some ((List.range l.Length.toNat).map fun (k : Nat) => Point.mk (x + (k : Int)) y) := by
  obtain ⟨h1, h2, h3, h4, h5, h6, h7, h8⟩ := hl
  have e : w64 (x + l.Length) = x + l.Length := w64_id (by omega) (by omega)
  rw [← flat1]
  refine loop_build x l.Length.toNat (fun (k : Nat) => [Point.mk (x + (k : Int)) y]) [] _ (fun i hi => ?_) ?_
  · dsimp only
    rw [e, range_flat]
    have e2 : w64 (x + (i : Int) + 1) = x + ((i + 1 : Nat) : Int) := by rw [w64_id (by omega) (by omega)]; omega
    rw [decide_eq_true (show x + (i : Int) < x + l.Length by omega), cond_true, app_ok (by rw [flat1]; simp; omega)]
    simp [e2]
  · dsimp only
    rw [e, decide_eq_false (show ¬ x + (l.Length.toNat : Int) < x + l.Length by omega)]
    simp
theorem impl_covered {l : Label} (hl : LabIn l) {p : Int} (hp : 0 ≤ p) (hp2 : p ≤ 3) : impl_Label_covered l p = some (covP l p) := by
  unfold impl_Label_covered covP
  have h := hl
  obtain ⟨h1, h2, h3, h4, h5, h6, h7, h8⟩ := hl
  have a1 : w64 (l.At.X - l.Length) = l.At.X - l.Length := w64_id (by omega) (by omega)
  have a2 : w64 (l.At.Y + 1) = l.At.Y + 1 := w64_id (by omega) (by omega)
  have a3 : w64 (l.At.Y - 1) = l.At.Y - 1 := w64_id (by omega) (by omega)
  have a4 : w64 (l.At.X + 1) = l.At.X + 1 := w64_id (by omega) (by omega)
  have r := fun x y a b => impl_row h x y a b
  rw [a1, a2, a3, a4]
  have : p = 0 ∨ p = 1 ∨ p = 2 ∨ p = 3 := by omega
  have t : ∀ a b : Int, (a == b) = decide (a = b) := fun a b => rfl
  rcases this with rfl | rfl | rfl | rfl
  · simp only [t, show ¬ (0 : Int) = 1 by omega, show ¬ (0 : Int) = 2 by omega, show ¬ (0 : Int) = 3 by omega, show ¬ (0 : Int) = 4 by omega, decide_false, cond_false, Option.bind_some, Sum.elim_inl]
    rw [r _ _ (by omega) (by omega)]
    rfl
  · simp only [t, decide_true, cond_true, Option.bind_some, Sum.elim_inl]
    rw [r _ _ (by omega) (by omega)]
    rfl
  · simp only [t, show ¬ (2 : Int) = 1 by omega, decide_false, cond_false, decide_true, cond_true, Option.bind_some, Sum.elim_inl]
    rw [r _ _ (by omega) (by omega)]
    rfl
  · simp only [t, show ¬ (3 : Int) = 1 by omega, show ¬ (3 : Int) = 2 by omega, decide_false, cond_false, decide_true, cond_true, Option.bind_some, Sum.elim_inl]
    rw [r _ _ (by omega) (by omega)]
    rfl
end Go.Proofs.Ytnnpmbcamnnfgaa.Sh
