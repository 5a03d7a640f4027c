/- Plain laws: squares of distances, turns and directions of points, of both; points within 1000. -/
import Derived.Test.YtodgenjlhiiieaaGreatDoorBLC2
namespace Go.Proofs.YtodgenjlhiiieaaGreatDoor.Sh
open Go.RowKit Go.Lib
theorem mulb {x y : Int} {m n : Nat} (hx : x.natAbs ≤ m) (hy : y.natAbs ≤ n) : (x * y).natAbs ≤ m * n := by
  rw [Int.natAbs_mul]
  exact Nat.mul_le_mul hx hy
theorem w64_abs {x : Int} (h : x.natAbs ≤ 1000000000000000000) : w64 x = x := w64_id (by omega) (by omega)
theorem ptB_ok {p : Point} (h : ptB p = true) : p.X.natAbs ≤ 1000 ∧ p.Y.natAbs ≤ 1000 := by
  unfold ptB at h
  rw [Bool.and_eq_true, inB_iff, inB_iff] at h
  omega
theorem mul_self_nonneg' (x : Int) : 0 ≤ x * x := by
  rcases Int.le_total 0 x with h | h
  · exact Int.mul_nonneg h h
  · have := Int.mul_nonneg (a := -x) (b := -x) (by omega) (by omega)
    rwa [Int.neg_mul_neg] at this
def sqN (a p : Point) : Int := (a.X - p.X) * (a.X - p.X) + (a.Y - p.Y) * (a.Y - p.Y)
def tuN (a b c : Point) : Int := (b.X - a.X) * (c.Y - a.Y) - (b.Y - a.Y) * (c.X - a.X)
section
variable {a b p : Point}
theorem sq_bound (ha : ptB a = true) (hp : ptB p = true) : 0 ≤ sqN a p ∧ (sqN a p).natAbs ≤ 8000000 := by
  have h1 := ptB_ok ha
  have h2 := ptB_ok hp
  have b1 := mulb (x := a.X - p.X) (y := a.X - p.X) (m := 2000) (n := 2000) (by omega) (by omega)
  have b2 := mulb (x := a.Y - p.Y) (y := a.Y - p.Y) (m := 2000) (n := 2000) (by omega) (by omega)
  have c1 := mul_self_nonneg' (a.X - p.X)
  have c2 := mul_self_nonneg' (a.Y - p.Y)
  unfold sqN
  omega
theorem sq_w (ha : ptB a = true) (hp : ptB p = true) : w64 ((w64 ((w64 (a.X - p.X)) * (w64 (a.X - p.X)))) + (w64 ((w64 (a.Y - p.Y)) * (w64 (a.Y - p.Y))))) = sqN a p := by
  have h1 := ptB_ok ha
  have h2 := ptB_ok hp
  have b1 := mulb (x := a.X - p.X) (y := a.X - p.X) (m := 2000) (n := 2000) (by omega) (by omega)
  have b2 := mulb (x := a.Y - p.Y) (y := a.Y - p.Y) (m := 2000) (n := 2000) (by omega) (by omega)
  rw [w64_abs (x := a.X - p.X) (by omega), w64_abs (x := a.Y - p.Y) (by omega), w64_abs (x := (a.X - p.X) * (a.X - p.X)) (by omega), w64_abs (x := (a.Y - p.Y) * (a.Y - p.Y)) (by omega), w64_abs (by omega)]
  rfl
theorem impl_sq (ha : ptB a = true) (hp : ptB p = true) : impl_squared a p = some (sqN a p) := congrArg some (sq_w ha hp)
theorem spec_sq (ha : ptB a = true) (hp : ptB p = true) : spec_l15Squared a p = some (sqN a p) := congrArg some (sq_w ha hp)
theorem tu_bound (ha : ptB a = true) (hb : ptB b = true) (hp : ptB p = true) : (tuN a b p).natAbs ≤ 8000000 := by
  have h1 := ptB_ok ha
  have h2 := ptB_ok hp
  have h3 := ptB_ok hb
  have b1 := mulb (x := b.X - a.X) (y := p.Y - a.Y) (m := 2000) (n := 2000) (by omega) (by omega)
  have b2 := mulb (x := b.Y - a.Y) (y := p.X - a.X) (m := 2000) (n := 2000) (by omega) (by omega)
  unfold tuN
  omega
theorem tu_w (ha : ptB a = true) (hb : ptB b = true) (hp : ptB p = true) : w64 ((w64 ((w64 (b.X - a.X)) * (w64 (p.Y - a.Y)))) - (w64 ((w64 (b.Y - a.Y)) * (w64 (p.X - a.X))))) = tuN a b p := by
  have h1 := ptB_ok ha
  have h2 := ptB_ok hp
  have h3 := ptB_ok hb
  have b1 := mulb (x := b.X - a.X) (y := p.Y - a.Y) (m := 2000) (n := 2000) (by omega) (by omega)
  have b2 := mulb (x := b.Y - a.Y) (y := p.X - a.X) (m := 2000) (n := 2000) (by omega) (by omega)
  rw [w64_abs (x := b.X - a.X) (by omega), w64_abs (x := b.Y - a.Y) (by omega), w64_abs (x := p.X - a.X) (by omega), w64_abs (x := p.Y - a.Y) (by omega), w64_abs (x := (b.X - a.X) * (p.Y - a.Y)) (by omega), w64_abs (x := (b.Y - a.Y) * (p.X - a.X)) (by omega), w64_abs (by omega)]
  rfl
theorem impl_tu (ha : ptB a = true) (hb : ptB b = true) (hp : ptB p = true) : impl_turn a b p = some (tuN a b p) := congrArg some (tu_w ha hb hp)
theorem spec_tu (ha : ptB a = true) (hb : ptB b = true) (hp : ptB p = true) : spec_l15Turn a b p = some (tuN a b p) := congrArg some (tu_w ha hb hp)
end
def absI (x : Int) : Int := if x < 0 then -x else x
theorem abs_w {x : Int} (h : x.natAbs ≤ 1000000000) : maxI x (w64 (0 - x)) = absI x := by
  rw [w64_abs (by omega)]
  unfold maxI absI
  split <;> split <;> omega
theorem impl_abs_eq {x : Int} (h : x.natAbs ≤ 1000000000) : impl_abs x = some (absI x) := congrArg some (abs_w h)
theorem spec_abs_eq {x : Int} (h : x.natAbs ≤ 1000000000) : spec_l01Abs x = some (absI x) := congrArg some (abs_w h)
def sgI (x : Int) : Int := if x < 0 then -1 else if x = 0 then 0 else 1
theorem impl_sg (x : Int) : impl_sign x = some (sgI x) := by
  unfold impl_sign sgI
  congr 1
  unfold maxI minI
  split <;> split <;> split <;> (try split) <;> omega
def tabV (i j : Int) : Int := if i = -1 then (if j = -1 then 5 else if j = 0 then 4 else 3) else if i = 0 then (if j = -1 then 6 else if j = 0 then 0 else 2) else (if j = -1 then 7 else if j = 0 then 0 else 1)
theorem sgI_cases (x : Int) : sgI x = -1 ∨ sgI x = 0 ∨ sgI x = 1 := by
  unfold sgI
  split
  · exact .inl rfl
  · split
    · exact .inr (.inl rfl)
    · exact .inr (.inr rfl)
theorem tab_eq (i j : Int) (hi : i = -1 ∨ i = 0 ∨ i = 1) (hj : j = -1 ∨ j = 0 ∨ j = 1) : ((arr' 3 (w64 (i + 1))).bind fun _ => ((arr' 3 (w64 (j + 1))).bind fun _ => ((arrN 9 ((0 + (Int.toNat (w64 (i + 1))) * 3) + (Int.toNat (w64 (j + 1))) * 1)).bind fun _ => some (pickI [5, 4, 3, 6, 0, 2, 7, 0, 1] ((0 + (Int.toNat (w64 (i + 1))) * 3) + (Int.toNat (w64 (j + 1))) * 1))))) = some (tabV i j) := by
  rw [w64_abs (x := i + 1) (by omega), w64_abs (x := j + 1) (by omega)]
  rcases hi with rfl | rfl | rfl <;> rcases hj with rfl | rfl | rfl <;> rfl
/-- The direction of a step. -/
def dirN (x y : Int) : Int := if 2 * absI x < absI y ∧ y > 0 then 0 else if 2 * absI x < absI y then 4 else if 2 * absI y < absI x ∧ x > 0 then 2 else if 2 * absI y < absI x then 6 else if x > 0 ∧ y > 0 then 1 else if x > 0 then 3 else if y < 0 then 5 else 7
theorem dirN_range (x y : Int) : 0 ≤ dirN x y ∧ dirN x y ≤ 7 := by
  unfold dirN
  repeat' split
  all_goals omega
theorem sg_pos {x : Int} (h : x > 0) : sgI x = 1 := by unfold sgI; rw [if_neg (by omega), if_neg (by omega)]
theorem sg_neg {x : Int} (h : x < 0) : sgI x = -1 := by unfold sgI; rw [if_pos h]
theorem dir_a {x y : Int} (c1 : 2 * absI x < absI y) : tabV (sgI y) (sgI 0) = dirN x y := by
  have hy : y ≠ 0 := fun h => by
    subst h
    unfold absI at c1
    split at c1 <;> simp at c1 <;> omega
  unfold dirN
  rcases Int.lt_or_gt_of_ne hy with h | h
  · rw [if_neg (by omega), if_pos c1, sg_neg h]
    rfl
  · rw [if_pos ⟨c1, h⟩, sg_pos h]
    rfl
theorem dir_b {x y : Int} (c1 : ¬ 2 * absI x < absI y) (c2 : 2 * absI y < absI x) : tabV (sgI 0) (sgI x) = dirN x y := by
  have hx : x ≠ 0 := fun h => by
    subst h
    unfold absI at c2
    split at c2 <;> simp at c2 <;> omega
  unfold dirN
  rw [if_neg (fun h => c1 h.1), if_neg c1]
  rcases Int.lt_or_gt_of_ne hx with h | h
  · rw [if_neg (by omega), if_pos c2, sg_neg h]
    rfl
  · rw [if_pos ⟨c2, h⟩, sg_pos h]
    rfl
theorem dir_c {x y : Int} (c1 : ¬ 2 * absI x < absI y) (c2 : ¬ 2 * absI y < absI x) (hz : ¬ (x = 0 ∧ y = 0)) : tabV (sgI y) (sgI x) = dirN x y := by
  have ha : ∀ z : Int, 0 ≤ absI z ∧ (absI z = 0 ↔ z = 0) := fun z => by unfold absI; split <;> omega
  have hx := ha x
  have hy := ha y
  have nx : x ≠ 0 := fun h => by have := hx.2.2 h; have : absI y = 0 := by omega
                                 exact hz ⟨h, hy.2.1 this⟩
  have ny : y ≠ 0 := fun h => by have := hy.2.2 h; have : absI x = 0 := by omega
                                 exact hz ⟨hx.2.1 this, h⟩
  unfold dirN
  rw [if_neg (fun h => c1 h.1), if_neg c1, if_neg (fun h => c2 h.1), if_neg c2]
  rcases Int.lt_or_gt_of_ne nx with h | h <;> rcases Int.lt_or_gt_of_ne ny with k | k
  · rw [sg_neg h, sg_neg k, if_neg (by omega), if_neg (by omega), if_pos k]
    rfl
  · rw [sg_neg h, sg_pos k, if_neg (by omega), if_neg (by omega), if_neg (by omega)]
    rfl
  · rw [sg_pos h, sg_neg k, if_neg (by omega), if_pos h]
    rfl
  · rw [sg_pos h, sg_pos k, if_pos ⟨h, k⟩]
    rfl
section
variable {a p : Point}
theorem impl_dir (ha : ptB a = true) (hp : ptB p = true) (hne : ¬ (p.X = a.X ∧ p.Y = a.Y)) : impl_direction a p = some (dirN (p.X - a.X) (p.Y - a.Y)) := by
  have h1 := ptB_ok ha
  have h2 := ptB_ok hp
  unfold impl_direction
  rw [w64_abs (x := p.X - a.X) (by omega), w64_abs (x := p.Y - a.Y) (by omega)]
  have hx : (p.X - a.X).natAbs ≤ 2000 := by omega
  have hy : (p.Y - a.Y).natAbs ≤ 2000 := by omega
  have hz : ¬ (p.X - a.X = 0 ∧ p.Y - a.Y = 0) := by omega
  generalize p.X - a.X = x at *
  generalize p.Y - a.Y = y at *
  have ax : (absI x).natAbs ≤ 2000 := by unfold absI; split <;> omega
  have ay : (absI y).natAbs ≤ 2000 := by unfold absI; split <;> omega
  simp only [impl_abs_eq (show x.natAbs ≤ 1000000000 by omega), impl_abs_eq (show y.natAbs ≤ 1000000000 by omega), Option.bind_some, w64_abs (show (2 * absI x).natAbs ≤ 1000000000000000000 by omega), w64_abs (show (2 * absI y).natAbs ≤ 1000000000000000000 by omega)]
  by_cases c1 : 2 * absI x < absI y
  · simp only [decide_eq_true c1, cond_true, Option.bind_some, impl_sg]
    rw [tab_eq _ _ (sgI_cases _) (sgI_cases _), dir_a c1]
  · simp only [decide_eq_false c1, cond_false]
    by_cases c2 : 2 * absI y < absI x
    · simp only [decide_eq_true c2, cond_true, Option.bind_some, impl_sg]
      rw [tab_eq _ _ (sgI_cases _) (sgI_cases _), dir_b c1 c2]
    · simp only [decide_eq_false c2, cond_false, Option.bind_some, impl_sg]
      rw [tab_eq _ _ (sgI_cases _) (sgI_cases _), dir_c c1 c2 hz]
theorem spec_dir (ha : ptB a = true) (hp : ptB p = true) : spec_l15Direction a p = some (dirN (p.X - a.X) (p.Y - a.Y)) := by
  have h1 := ptB_ok ha
  have h2 := ptB_ok hp
  unfold spec_l15Direction
  rw [w64_abs (x := p.X - a.X) (by omega), w64_abs (x := p.Y - a.Y) (by omega)]
  have hx : (p.X - a.X).natAbs ≤ 2000 := by omega
  have hy : (p.Y - a.Y).natAbs ≤ 2000 := by omega
  generalize p.X - a.X = x at *
  generalize p.Y - a.Y = y at *
  have ax : (absI x).natAbs ≤ 2000 := by unfold absI; split <;> omega
  have ay : (absI y).natAbs ≤ 2000 := by unfold absI; split <;> omega
  simp only [spec_abs_eq (show x.natAbs ≤ 1000000000 by omega), spec_abs_eq (show y.natAbs ≤ 1000000000 by omega), Option.bind_some, w64_abs (show (2 * absI x).natAbs ≤ 1000000000000000000 by omega), w64_abs (show (2 * absI y).natAbs ≤ 1000000000000000000 by omega)]
  unfold dirN
  by_cases c1 : 2 * absI x < absI y <;> by_cases c2 : 2 * absI y < absI x <;> by_cases c3 : x > 0 <;> by_cases c4 : y > 0 <;> by_cases c5 : y < 0 <;> simp [c1, c2, c3, c4, c5]
end
end Go.Proofs.YtodgenjlhiiieaaGreatDoor.Sh
