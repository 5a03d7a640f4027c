/- Labels: covered points, what is allowed, clashes and clear placements of both; no condition but allowed labels. -/
import Derived.Test.YtlhllbiikideeaaLB1
import Derived.Test.YtlhllbiikideeaaLB3
namespace Go.Proofs.Ytlhllbiikideeaa.Sh
open Go.RowKit
theorem range_flat {α : Type} (g : Nat → List α) (i : Nat) : (List.range (i + 1)).flatMap g = (List.range i).flatMap g ++ g i := by
  rw [List.range_succ, List.flatMap_append]
  simp
theorem flat_le {α : Type} (g : Nat → List α) (b : Nat) (h : ∀ i, (g i).length ≤ b) : ∀ n, ((List.range n).flatMap g).length ≤ b * n
  | 0 => by simp
  | n + 1 => by
    rw [range_flat, List.length_append, Nat.mul_add, Nat.mul_one]
    exact Nat.add_le_add (flat_le g b h n) (h n)
/-- A list that is built by a loop that counts from a number on. -/
theorem build_loop {α A : Type} {test : Int → List α → Bool} {B : Int → List α → Option (List α)} {D : List α → A} (lo : Int) (n : Nat) (g : Nat → List α) (b : Nat) (hg : ∀ i, (g i).length ≤ b) (acc : List α) (h0 : -1000000000 ≤ lo) (h1 : lo + (n : Int) ≤ 1000000000)
    (ht : ∀ (i : Nat) s, i < n → test (lo + (i : Int)) s = true) (hend : ∀ s, test (lo + (n : Int)) s = false)
    (h : ∀ (i : Nat) (s : List α), i < n → s.length ≤ acc.length + b * n → B (lo + (i : Int)) s = some (s ++ g i)) :
    loop (fun (z : Int × List α) => bif test z.1 z.2 then (B z.1 z.2).bind (fun (j : List α) => some (.inl (w64 (z.1 + 1), j))) else some (.inr (D z.2))) (lo, acc) = some (D (acc ++ (List.range n).flatMap g)) := by
  have key : ∀ (m k : Nat), k + m = n → loop (fun (z : Int × List α) => bif test z.1 z.2 then (B z.1 z.2).bind (fun (j : List α) => some (.inl (w64 (z.1 + 1), j))) else some (.inr (D z.2))) (lo + (k : Int), acc ++ (List.range k).flatMap g) = some (D (acc ++ (List.range n).flatMap g)) := by
    intro m
    induction m with
    | zero =>
      intro k hk
      obtain rfl : k = n := by omega
      rw [loop_eq]
      dsimp only
      rw [hend]
      rfl
    | succ m ih =>
      intro k hk
      have hl := flat_le g b hg k
      have hm : b * k ≤ b * n := Nat.mul_le_mul_left b (by omega)
      rw [loop_eq]
      dsimp only
      rw [ht k _ (by omega), cond_true, h k _ (by omega) (by rw [List.length_append]; omega), w64_id (by omega) (by omega)]
      have := ih (k + 1) (by omega)
      rw [range_flat, ← List.append_assoc] at this
      rw [show lo + (k : Int) + 1 = lo + ((k + 1 : Nat) : Int) by omega]
      exact this
  have := key n 0 (by omega)
  simpa using this
theorem cov_box {l : Label} (hl : LabIn l) {p : Int} {q : Point} (h : covB l p q = true) : l.At.X - l.Length ≤ q.X ∧ q.X ≤ l.At.X + l.Length ∧ l.At.Y - 1 ≤ q.Y ∧ q.Y ≤ l.At.Y + 1 := by
  unfold covB at h
  rw [Bool.and_eq_true, Bool.and_eq_true, beq_iff_eq, inB_iff] at h
  obtain ⟨_, h1, h2⟩ := h
  cases hx : (p == 1 || p == 2) <;> cases hy : decide (p > 1) <;> rw [hx] at h2 <;> rw [hy] at h1 <;> simp only [cond_true, cond_false] at h1 h2 <;> omega
/-- The reference's covered points of a column, and all of them. -/
def colP (l : Label) (p x : Int) : List Point := (List.range 3).flatMap fun (j : Nat) => bif covB l p (Point.mk x (l.At.Y - 1 + (j : Int))) then [Point.mk x (l.At.Y - 1 + (j : Int))] else []
theorem bif_le {α : Type} (b : Bool) (x : α) : (bif b then [x] else []).length ≤ 1 := by cases b <;> simp
theorem colP_le (l : Label) (p x : Int) : (colP l p x).length ≤ 3 := flat_le _ 1 (fun i => bif_le _ _) 3
def ptsP (l : Label) (p : Int) : List Point := (List.range (2 * l.Length + 1).toNat).flatMap fun (k : Nat) => colP l p (l.At.X - l.Length + (k : Int))
theorem spec_points {l : Label} (hl : LabIn l) (p : Int) : spec_l33Points l p = some (ptsP l p) := by
  have h := hl
  obtain ⟨h1, h2, h3, h4⟩ := hl
  unfold spec_l33Points
  have e1 : w64 (l.At.X + l.Length) = l.At.X + l.Length := w64_id (by omega) (by omega)
  have e2 : w64 (l.At.X - l.Length) = l.At.X - l.Length := w64_id (by omega) (by omega)
  have e3 : w64 (l.At.Y + 1) = l.At.Y + 1 := w64_id (by omega) (by omega)
  have e4 : w64 (l.At.Y - 1) = l.At.Y - 1 := w64_id (by omega) (by omega)
  rw [e1, e2, e3, e4]
  have inner : ∀ (x : Int) (s : List Point), -2000 ≤ x → x ≤ 2000 → s.length ≤ 1000 → forH (fun (i7 : Int) (_ : (List Point)) => (decide (i7 ≤ l.At.Y + 1))) (fun (i7 : Int) (s7 : (List Point)) => ((spec_l33Covers l p (Point.mk x i7)).bind fun x11 => (bif x11 then ((app' s7 ([(Point.mk x i7)] : List Point)).bind fun x12 => some x12) else some s7))) (fun (s7 : (List Point)) => s7) (l.At.Y - 1) s = some (s ++ colP l p x) := by
    intro x s hx hx2 hs
    unfold forH
    exact build_loop (test := fun i7 _ => decide (i7 ≤ l.At.Y + 1)) (B := (fun (i7 : Int) (s7 : (List Point)) => ((spec_l33Covers l p (Point.mk x i7)).bind fun x11 => (bif x11 then ((app' s7 ([(Point.mk x i7)] : List Point)).bind fun x12 => some x12) else some s7)))) (D := fun s => s) (l.At.Y - 1) 3 (fun (j : Nat) => bif covB l p (Point.mk x (l.At.Y - 1 + (j : Int))) then [Point.mk x (l.At.Y - 1 + (j : Int))] else []) 1 (fun i => bif_le _ _) s (by omega) (by omega) (fun i s hi => decide_eq_true (by omega)) (fun s => decide_eq_false (by omega)) (fun i s hi hsl => by
      rw [spec_covers h p (by dsimp only; omega) (by dsimp only; omega) (by dsimp only; omega) (by dsimp only; omega), Option.bind_some]
      cases covB l p (Point.mk x (l.At.Y - 1 + (i : Int)))
      · simp
      · rw [cond_true, app_ok (by simp; omega)]
        rfl)
  have outer : forH (fun (i3 : Int) (_ : (List Point)) => (decide (i3 ≤ l.At.X + l.Length))) (fun (i3 : Int) (s3 : (List Point)) => (forH (fun (i7 : Int) (_ : (List Point)) => (decide (i7 ≤ l.At.Y + 1))) (fun (i7 : Int) (s7 : (List Point)) => ((spec_l33Covers l p (Point.mk i3 i7)).bind fun x11 => (bif x11 then ((app' s7 ([(Point.mk i3 i7)] : List Point)).bind fun x12 => some x12) else some s7))) (fun (s7 : (List Point)) => s7) (l.At.Y - 1) s3)) (fun (s3 : (List Point)) => s3) (l.At.X - l.Length) ([] : List Point) = some ([] ++ ptsP l p) := by
    rw [forH]
    exact build_loop (test := fun i3 _ => decide (i3 ≤ l.At.X + l.Length)) (B := (fun (i3 : Int) (s3 : (List Point)) => (forH (fun (i7 : Int) (_ : (List Point)) => (decide (i7 ≤ l.At.Y + 1))) (fun (i7 : Int) (s7 : (List Point)) => ((spec_l33Covers l p (Point.mk i3 i7)).bind fun x11 => (bif x11 then ((app' s7 ([(Point.mk i3 i7)] : List Point)).bind fun x12 => some x12) else some s7))) (fun (s7 : (List Point)) => s7) (l.At.Y - 1) s3))) (D := fun s => s) (l.At.X - l.Length) (2 * l.Length + 1).toNat (fun (k : Nat) => colP l p (l.At.X - l.Length + (k : Int))) 3 (fun i => colP_le _ _ _) [] (by omega) (by omega) (fun i s hi => decide_eq_true (by omega)) (fun s => decide_eq_false (by omega)) (fun i s hi hsl => by
      exact inner _ s (by omega) (by omega) (by simp only [List.length_nil] at hsl; omega))
  rw [outer]
  rfl
theorem mem_pts {l : Label} (hl : LabIn l) {p : Int} {q : Point} : q ∈ ptsP l p ↔ covB l p q = true := by
  unfold ptsP colP
  simp only [List.mem_flatMap, List.mem_range]
  constructor
  · rintro ⟨k, _, j, _, h⟩
    cases hc : covB l p (Point.mk (l.At.X - l.Length + (k : Int)) (l.At.Y - 1 + (j : Int)))
    · rw [hc] at h; simp at h
    · rw [hc] at h
      simp at h
      rw [h]
      exact hc
  · intro h
    have hb := cov_box hl h
    refine ⟨(q.X - (l.At.X - l.Length)).toNat, by omega, (q.Y - (l.At.Y - 1)).toNat, by omega, ?_⟩
    have e : Point.mk (l.At.X - l.Length + ((q.X - (l.At.X - l.Length)).toNat : Int)) (l.At.Y - 1 + ((q.Y - (l.At.Y - 1)).toNat : Int)) = q := by
      obtain ⟨x, y⟩ := q
      simp only at hb ⊢
      congr 1 <;> omega
    rw [e, h]
    simp
theorem pts_len (l : Label) (hl : LabIn l) (p : Int) : (ptsP l p).length ≤ 200 := by
  have := flat_le (fun (k : Nat) => colP l p (l.At.X - l.Length + (k : Int))) 3 (fun i => colP_le _ _ _) (2 * l.Length + 1).toNat
  have h := hl.n
  unfold ptsP
  omega
def clB (a : Label) (x : Int) (b : Label) (y : Int) : Bool := (covP a x).any (covB b y)
theorem clB_iff {a b : Label} (ha : LabIn a) {x y : Int} (hx : 0 ≤ x) (hx2 : x ≤ 4) : clB a x b y = true ↔ ∃ q, covB a x q = true ∧ covB b y q = true := by
  unfold clB
  rw [List.any_eq_true]
  exact ⟨fun ⟨q, h1, h2⟩ => ⟨q, (mem_cov ha hx hx2 q).1 h1, h2⟩, fun ⟨q, h1, h2⟩ => ⟨q, (mem_cov ha hx hx2 q).2 h1, h2⟩⟩
theorem spec_clash {a b : Label} (ha : LabIn a) (hb : LabIn b) {x y : Int} (hx : 0 ≤ x) (hx2 : x ≤ 4) : spec_l33Clash a x b y = some (clB a x b y) := by
  unfold spec_l33Clash
  have hl := pts_len a ha x
  rw [spec_points ha, Option.bind_some, loop_any (by omega) (covB b y) true (fun i q hq => by
    have hm := (mem_pts ha).1 (List.mem_of_getElem? hq)
    have hbx := cov_box ha hm
    obtain ⟨k1, k2, k3, k4⟩ := ha
    rw [at_nat, hq, Option.bind_some, spec_covers hb y (by omega) (by omega) (by omega) (by omega), Option.bind_some])]
  have : (ptsP a x).any (covB b y) = clB a x b y := by
    rw [Bool.eq_iff_iff, clB_iff ha hx hx2, List.any_eq_true]
    exact ⟨fun ⟨q, h1, h2⟩ => ⟨q, (mem_pts ha).1 h1, h2⟩, fun ⟨q, h1, h2⟩ => ⟨q, (mem_pts ha).2 h1, h2⟩⟩
  rw [this]
  cases clB a x b y <;> rfl
def allowB (L : List Label) (l : Label) (p : Int) : Bool := !(L.any fun x => covB l p x.At)
theorem spec_allowed {L : List Label} (hL : L.length ≤ 1000) (hA : ∀ x ∈ L, LabIn x) {l : Label} (hl : LabIn l) (p : Int) : spec_l33Allowed L l p = some (allowB L l p) := by
  unfold spec_l33Allowed allowB
  rw [loop_any (by omega) (fun x : Label => covB l p x.At) false (fun i x hx => by
    have h := hA x (List.mem_of_getElem? hx)
    obtain ⟨k1, k2, k3, k4⟩ := h
    rw [at_nat, hx, Option.bind_some, spec_covers hl p (by omega) (by omega) (by omega) (by omega), Option.bind_some])]
  cases L.any fun x => covB l p x.At <;> rfl
theorem impl_row {l : Label} (hl : LabIn l) (x y : Int) (hx : -2000 ≤ x) (hx2 : x ≤ 2000) : forS (w64 (x + l.Length)) (fun (i5 : Int) (s5 : (List Point)) => ((app' s5 ([(Point.mk i5 y)] : List Point)).bind fun x9 => some x9)) (fun (s5 : (List Point)) => s5) x ([] : List Point) = some ((List.range l.Length.toNat).map fun (k : Nat) => Point.mk (x + (k : Int)) y) := by
  obtain ⟨h1, h2, h3, h4⟩ := hl
  have e : w64 (x + l.Length) = x + l.Length := w64_id (by omega) (by omega)
  have hf : ∀ M : List Nat, (M.flatMap fun (k : Nat) => [Point.mk (x + (k : Int)) y]) = M.map fun (k : Nat) => Point.mk (x + (k : Int)) y := by
    intro M
    induction M with
    | nil => rfl
    | cons a M ih => rw [List.flatMap_cons, ih]; rfl
  rw [e, ← hf]
  unfold forS
  have := build_loop (test := fun i _ => decide (i < x + l.Length)) (B := fun (i5 : Int) (s5 : (List Point)) => ((app' s5 ([(Point.mk i5 y)] : List Point)).bind fun x9 => some x9)) (D := fun s : List Point => s) x l.Length.toNat (fun (k : Nat) => [Point.mk (x + (k : Int)) y]) 1 (fun i => by simp) [] (by omega) (by omega) (fun i s hi => decide_eq_true (by omega)) (fun s => decide_eq_false (by omega)) (fun i s hi hsl => by
    rw [app_ok (by simp at hsl ⊢; omega)]
    rfl)
  rw [List.nil_append] at this
  exact this
theorem impl_covered {l : Label} (hl : LabIn l) {p : Int} (hp : 0 ≤ p) (hp2 : p ≤ 4) : impl_Label_covered l p = some (covP l p) := by
  unfold impl_Label_covered covP
  have h := hl
  obtain ⟨h1, h2, h3, h4⟩ := hl
  have a1 : w64 (l.At.X - l.Length) = l.At.X - l.Length := w64_id (by omega) (by omega)
  have a2 : w64 (l.At.Y + 1) = l.At.Y + 1 := w64_id (by omega) (by omega)
  have a3 : w64 (l.At.Y - 1) = l.At.Y - 1 := w64_id (by omega) (by omega)
  have a4 : w64 (l.At.X + 1) = l.At.X + 1 := w64_id (by omega) (by omega)
  have r := fun x y a b => impl_row h x y a b
  rw [a1, a2, a3, a4]
  have : p = 0 ∨ p = 1 ∨ p = 2 ∨ p = 3 ∨ p = 4 := by omega
  have t : ∀ a b : Int, (a == b) = decide (a = b) := fun a b => rfl
  rcases this with rfl | rfl | rfl | rfl | rfl
  · simp only [t, show ¬ (0 : Int) = 1 by omega, show ¬ (0 : Int) = 2 by omega, show ¬ (0 : Int) = 3 by omega, show ¬ (0 : Int) = 4 by omega, decide_false, cond_false, Option.bind_some, Sum.elim_inl]
    rw [r _ _ (by omega) (by omega)]
    rfl
  · simp only [t, show ¬ (1 : Int) = 4 by omega, decide_true, decide_false, cond_true, cond_false, Option.bind_some, Sum.elim_inl]
    rw [r _ _ (by omega) (by omega)]
    rfl
  · simp only [t, show ¬ (2 : Int) = 1 by omega, show ¬ (2 : Int) = 4 by omega, decide_false, cond_false, decide_true, cond_true, Option.bind_some, Sum.elim_inl]
    rw [r _ _ (by omega) (by omega)]
    rfl
  · simp only [t, show ¬ (3 : Int) = 1 by omega, show ¬ (3 : Int) = 2 by omega, show ¬ (3 : Int) = 4 by omega, decide_false, cond_false, decide_true, cond_true, Option.bind_some, Sum.elim_inl]
    rw [r _ _ (by omega) (by omega)]
    rfl
  · rfl
theorem same_iff {p q : Point} : sameAt p q = true ↔ p = q := by
  unfold sameAt
  rw [Bool.and_eq_true, beq_iff_eq, beq_iff_eq]
  obtain ⟨a, b⟩ := p
  obtain ⟨c, d⟩ := q
  simp
theorem covP_len {l : Label} (hl : LabIn l) (p : Int) : (covP l p).length ≤ 20 := by
  have := hl.n
  unfold covP
  cases p == 4 <;> simp <;> omega
theorem impl_allowed {L : List Label} (hL : L.length ≤ 1000) {l : Label} (hl : LabIn l) {p : Int} (hp : 0 ≤ p) (hp2 : p ≤ 4) : impl_isAllowed L l p = some (allowB L l p) := by
  unfold impl_isAllowed slices_ContainsFunc_Point_impl_isAllowed_1 slices_IndexFunc_Point_impl_isAllowed_1 impl_isAllowed_1
  have hc := covP_len hl p
  rw [impl_covered hl hp hp2, Option.bind_some, loop_idx (by omega) (fun q : Point => L.any fun d => sameAt d.At q) (fun i q hq => by
    rw [at_nat, hq, Option.bind_some, impl_isAt_eq (by omega)]
    rfl)]
  simp only [Option.bind_some, idxP_any]
  unfold allowB
  congr 2
  rw [Bool.eq_iff_iff, List.any_eq_true, List.any_eq_true]
  constructor
  · rintro ⟨q, h1, h2⟩
    obtain ⟨d, h3, h4⟩ := List.any_eq_true.1 h2
    rw [← same_iff.1 h4] at h1
    exact ⟨d, h3, (mem_cov hl hp hp2 _).1 h1⟩
  · rintro ⟨d, h1, h2⟩
    exact ⟨d.At, (mem_cov hl hp hp2 _).2 h2, List.any_eq_true.2 ⟨d, h1, same_iff.2 rfl⟩⟩
theorem impl_clash_eq {L : List Label} {P : List Int} {i k : Nat} {a b : Label} {x y : Int} (hi : L[i]? = some a) (hk : L[k]? = some b) (hx : P[i]? = some x) (hy : P[k]? = some y) (ha : LabIn a) (hb : LabIn b) (x0 : 0 ≤ x) (x4 : x ≤ 4) (y0 : 0 ≤ y) (y4 : y ≤ 4) : impl_clash L P (i : Int) (k : Int) = some (clB a x b y) := by
  unfold impl_clash slices_ContainsFunc_Point_impl_clash_1 slices_IndexFunc_Point_impl_clash_1 impl_clash_1 slices_Contains_Point slices_Index_Point
  have hc := covP_len ha x
  have hd := covP_len hb y
  simp only [at_nat, hi, hk, hx, hy, Option.bind_some, impl_covered ha x0 x4, impl_covered hb y0 y4]
  rw [loop_idx (by omega) (covB b y) (fun i q hq => by
    rw [at_nat, hq, Option.bind_some, loop_idx (by omega) (fun r : Point => sameAt q r) (fun j r hr => by rw [at_nat, hr]; rfl)]
    simp only [Option.bind_some, idxP_any]
    have : (covP b y).any (fun r => sameAt q r) = covB b y q := by
      rw [Bool.eq_iff_iff, List.any_eq_true, ← mem_cov hb y0 y4]
      exact ⟨fun ⟨r, h1, h2⟩ => by rw [same_iff.1 h2]; exact h1, fun h => ⟨q, h, same_iff.2 rfl⟩⟩
    rw [this])]
  simp only [Option.bind_some, idxP_any]
  rfl
end Go.Proofs.Ytlhllbiikideeaa.Sh
