/- The reference's covered points are the program's; no condition but an allowed label and position. -/
import Derived.Test.YtnnpmbcamnnfgaaP8
namespace Go.Proofs.Ytnnpmbcamnnfgaa.Sh
open Go.RowKit
def dxOf (l : Label) (p x : Int) : Int := bif p == 1 || p == 2 then -(x - l.At.X) else x - l.At.X
theorem gp_eq {l : Label} {p : Int} (hp : 0 ≤ p) (hp2 : p ≤ 3) (x : Int) : gp l p x = bif inB (dxOf l p x) 1 l.Length then [Point.mk x (rowY l p)] else [] := by
  unfold gp
  have r3 : List.range 3 = [0, 1, 2] := rfl
  rw [r3]
  have d0 : l.At.Y - 1 + ((0 : Nat) : Int) - l.At.Y = -1 := by omega
  have d1 : l.At.Y - 1 + ((1 : Nat) : Int) - l.At.Y = 0 := by omega
  have d2 : l.At.Y - 1 + ((2 : Nat) : Int) - l.At.Y = 1 := by omega
  have y0 : l.At.Y - 1 + ((0 : Nat) : Int) = l.At.Y - 1 := by omega
  have y2 : l.At.Y - 1 + ((2 : Nat) : Int) = l.At.Y + 1 := by omega
  simp only [List.flatMap_cons, List.flatMap_nil, covB, d0, d1, d2]
  have : p = 0 ∨ p = 1 ∨ p = 2 ∨ p = 3 := by omega
  rcases this with rfl | rfl | rfl | rfl
  · have e : rowY l 0 = l.At.Y + 1 := rfl
    rw [e, ← y2]
    show [] ++ ([] ++ ((bif inB (dxOf l 0 x) 1 l.Length then _ else _) ++ [])) = _
    simp
  · have e : rowY l 1 = l.At.Y + 1 := rfl
    rw [e, ← y2]
    show [] ++ ([] ++ ((bif inB (dxOf l 1 x) 1 l.Length then _ else _) ++ [])) = _
    simp
  · have e : rowY l 2 = l.At.Y - 1 := rfl
    rw [e, ← y0]
    show (bif inB (dxOf l 2 x) 1 l.Length then _ else _) ++ ([] ++ ([] ++ [])) = _
    simp
  · have e : rowY l 3 = l.At.Y - 1 := rfl
    rw [e, ← y0]
    show (bif inB (dxOf l 3 x) 1 l.Length then _ else _) ++ ([] ++ ([] ++ [])) = _
    simp
theorem flat_nil {α : Type} (g : Nat → List α) : ∀ n, (∀ i, i < n → g i = []) → (List.range n).flatMap g = []
  | 0, _ => rfl
  | n + 1, h => by rw [range_flat, flat_nil g n (fun i hi => h i (by omega)), h n (by omega)]; rfl
theorem flat_one {α : Type} (g : Nat → List α) (f : Nat → α) : ∀ n, (∀ i, i < n → g i = [f i]) → (List.range n).flatMap g = (List.range n).map f
  | 0, _ => rfl
  | n + 1, h => by rw [range_flat, flat_one g f n (fun i hi => h i (by omega)), h n (by omega), List.range_succ, List.map_append]; rfl
theorem points_eq {l : Label} (hl : LabIn l) {p : Int} (hp : 0 ≤ p) (hp2 : p ≤ 3) : spec_l33Points l p = some (covP l p) := by
  rw [spec_points hl p]
  congr 1
  obtain ⟨h1, h2, h3, h4, h5, h6, h7, h8⟩ := hl
  obtain ⟨n, hn⟩ : ∃ n : Nat, l.Length = n := ⟨l.Length.toNat, by omega⟩
  have hg : ∀ k : Nat, gp l p (l.At.X - l.Length + (k : Int)) = bif inB (dxOf l p (l.At.X - l.Length + (k : Int))) 1 l.Length then [Point.mk (l.At.X - l.Length + (k : Int)) (rowY l p)] else [] := fun k => gp_eq hp hp2 _
  unfold covP
  have hn2 : l.Length.toNat = n := by omega
  rw [hn2]
  cases hc : (p == 1 || p == 2)
  · have hx : rowX l p = l.At.X + 1 := by unfold rowX; rw [hc]; rfl
    have hs : (2 * l.Length + 1).toNat = (n + 1) + n := by omega
    rw [hs, range_split, flat_nil _ (n + 1) (fun i hi => ?_), List.nil_append]
    · refine flat_one _ _ n fun i hi => ?_
      rw [hg, hx]
      have : inB (dxOf l p (l.At.X - l.Length + ((n + 1 + i : Nat) : Int))) 1 l.Length = true := by
        unfold dxOf; rw [hc]; simp [inB]; omega
      rw [this, cond_true]
      congr 2
      omega
    · rw [hg]
      have : inB (dxOf l p (l.At.X - l.Length + (i : Int))) 1 l.Length = false := by
        unfold dxOf; rw [hc]; simp [inB]; omega
      rw [this]; rfl
  · have hx : rowX l p = l.At.X - l.Length := by unfold rowX; rw [hc]; rfl
    have hs : (2 * l.Length + 1).toNat = n + (n + 1) := by omega
    rw [hs, range_split, flat_nil _ (n + 1) (fun i hi => ?_), List.append_nil]
    · refine flat_one _ _ n fun i hi => ?_
      rw [hg, hx]
      have : inB (dxOf l p (l.At.X - l.Length + (i : Int))) 1 l.Length = true := by
        unfold dxOf; rw [hc]; simp [inB]; omega
      rw [this, cond_true]
    · rw [hg]
      have : inB (dxOf l p (l.At.X - l.Length + ((n + i : Nat) : Int))) 1 l.Length = false := by
        unfold dxOf; rw [hc]; simp [inB]; omega
      rw [this]; rfl
end Go.Proofs.Ytnnpmbcamnnfgaa.Sh
