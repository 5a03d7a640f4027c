/- The reference's covered points, in closed form; no condition but an allowed label. -/
import Derived.Test.YtnnpmbcamnnfgaaP7
namespace Go.Proofs.Ytnnpmbcamnnfgaa.Sh
open Go.RowKit
def gp (l : Label) (p x : Int) : List Point := (List.range 3).flatMap fun (j : Nat) => bif covB l p (Point.mk x (l.At.Y - 1 + (j : Int))) then [Point.mk x (l.At.Y - 1 + (j : Int))] else []
theorem flat_le {α : Type} (g : Nat → List α) (b : Nat) (h : ∀ i, (g i).length ≤ b) : ∀ n, ((List.range n).flatMap g).length ≤ b * n
  | 0 => by simp
  | n + 1 => by
    rw [range_flat, List.length_append, Nat.mul_add, Nat.mul_one]
    exact Nat.add_le_add (flat_le g b h n) (h n)
theorem bif_le {α : Type} (b : Bool) (x : α) : (bif b then [x] else []).length ≤ 1 := by cases b <;> simp
theorem gp_le (l : Label) (p x : Int) : (gp l p x).length ≤ 3 := flat_le _ 1 (fun i => bif_le _ _) 3
theorem range_split {α : Type} (g : Nat → List α) (a : Nat) : ∀ b, (List.range (a + b)).flatMap g = (List.range a).flatMap g ++ (List.range b).flatMap fun j => g (a + j)
  | 0 => by simp
  | b + 1 => by rw [← Nat.add_assoc, range_flat, range_split g a b, range_flat, List.append_assoc]
theorem inner_ok {l : Label} (hl : LabIn l) (p x : Int) (hx : -2000 ≤ x) (hx2 : x ≤ 2000) (acc : List Point) (ha : acc.length ≤ 1000) :
    loop (fun (s7 : Int × (List Point)) => (bif (decide (s7.1 ≤ (w64 (l.At.Y + 1)))) then ((((spec_l33Covers l p (Point.mk x s7.1)).bind fun x11 => (bif x11 then ((app' s7.2 ([(Point.mk x s7.1)] : List Point)).bind fun x12 => some x12) else some s7.2))).bind fun (j9 : (List Point)) => some (.inl ((w64 (s7.1 + 1)), j9))) else some (.inr s7.2))) ((w64 (l.At.Y - 1)), acc) = some (acc ++ gp l p x) := by
  have h := hl
  obtain ⟨h1, h2, h3, h4, h5, h6, h7, h8⟩ := hl
  have e : w64 (l.At.Y + 1) = l.At.Y + 1 := w64_id (by omega) (by omega)
  have e' : w64 (l.At.Y - 1) = l.At.Y - 1 := w64_id (by omega) (by omega)
  rw [e, e']
  refine loop_build (l.At.Y - 1) 3 (fun (j : Nat) => bif covB l p (Point.mk x (l.At.Y - 1 + (j : Int))) then [Point.mk x (l.At.Y - 1 + (j : Int))] else []) acc _ (fun i hi => ?_) ?_
  · dsimp only
    have e2 : w64 (l.At.Y - 1 + (i : Int) + 1) = l.At.Y - 1 + ((i + 1 : Nat) : Int) := by rw [w64_id (by omega) (by omega)]; omega
    rw [decide_eq_true (show l.At.Y - 1 + (i : Int) ≤ l.At.Y + 1 by omega), cond_true, spec_covers h p (by dsimp only; omega) (by dsimp only; omega) (by dsimp only; omega) (by dsimp only; omega), Option.bind_some, range_flat, e2]
    have hlen := flat_le (fun (j : Nat) => bif covB l p (Point.mk x (l.At.Y - 1 + (j : Int))) then [Point.mk x (l.At.Y - 1 + (j : Int))] else []) 1 (fun i => bif_le _ _) i
    cases covB l p (Point.mk x (l.At.Y - 1 + (i : Int)))
    · simp
    · rw [cond_true, app_ok (by rw [List.length_append]; simp only [List.length_singleton]; omega)]
      simp
  · dsimp only
    rw [decide_eq_false (show ¬ l.At.Y - 1 + ((3 : Nat) : Int) ≤ l.At.Y + 1 by omega), cond_false]
    rfl
theorem spec_points {l : Label} (hl : LabIn l) (p : Int) : spec_l33Points l p = some ((List.range (2 * l.Length + 1).toNat).flatMap fun (k : Nat) => gp l p (l.At.X - l.Length + (k : Int))) := by
  have h := hl
  obtain ⟨h1, h2, h3, h4, h5, h6, h7, h8⟩ := hl
  unfold spec_l33Points
  have e : w64 (l.At.X + l.Length) = l.At.X + l.Length := w64_id (by omega) (by omega)
  have e' : w64 (l.At.X - l.Length) = l.At.X - l.Length := w64_id (by omega) (by omega)
  rw [e, e']
  generalize hb : loop _ _ = m
  have key : m = some ((List.range (2 * l.Length + 1).toNat).flatMap fun (k : Nat) => gp l p (l.At.X - l.Length + (k : Int))) := by
   rw [← hb]
   refine loop_build (l.At.X - l.Length) (2 * l.Length + 1).toNat (fun (k : Nat) => gp l p (l.At.X - l.Length + (k : Int))) [] _ (fun i hi => ?_) ?_
   · dsimp only
     have e2 : w64 (l.At.X - l.Length + (i : Int) + 1) = l.At.X - l.Length + ((i + 1 : Nat) : Int) := by rw [w64_id (by omega) (by omega)]; omega
     have hlen := flat_le (fun (k : Nat) => gp l p (l.At.X - l.Length + (k : Int))) 3 (fun i => gp_le _ _ _) i
     rw [decide_eq_true (show l.At.X - l.Length + (i : Int) ≤ l.At.X + l.Length by omega), cond_true, inner_ok h p _ (by omega) (by omega) _ (by simp only [List.nil_append]; omega), Option.bind_some, range_flat, e2]
     simp
   · dsimp only
     rw [decide_eq_false (show ¬ l.At.X - l.Length + (((2 * l.Length + 1).toNat : Nat) : Int) ≤ l.At.X + l.Length by omega), cond_false]
     rfl
  rw [key]
  rfl
end Go.Proofs.Ytnnpmbcamnnfgaa.Sh
