/- l33Covers, l33Points of the reference and covered of the program compute the points that a label covers, for labels within their bounds. -/
import Derived.Test.YtnnpmbcamnnfgaaA7
namespace Go.Proofs.Ytnnpmbcamnnfgaa
open Go.RowKit
def okL (l : Label) : Prop := -1000 ≤ l.X ∧ l.X ≤ 1000 ∧ -1000 ≤ l.Y ∧ l.Y ≤ 1000 ∧ 1 ≤ l.Len ∧ l.Len ≤ 20
def covers (l : Label) (p x y : Int) : Bool := decide (p < 4) && ((if 1 < p then -(y - l.Y) else y - l.Y) == 1) && inB (if p = 1 ∨ p = 2 then -(x - l.X) else x - l.X) 1 l.Len
theorem p_cases {p : Int} (h0 : 0 ≤ p) (h4 : p ≤ 4) : p = 0 ∨ p = 1 ∨ p = 2 ∨ p = 3 ∨ p = 4 := by omega
set_option maxHeartbeats 1000000 in
set_option maxRecDepth 100000 in
theorem covers_any (l : Label) (p x y : Int) (w : World) (hl : okL l) (h0 : 0 ≤ p) (h4 : p ≤ 4) (hx : -2000 ≤ x ∧ x ≤ 2000) (hy : -2000 ≤ y ∧ y ≤ 2000) :
    Calls Try.prog 90 #[.agg #[.int .i64 l.X, .int .i64 l.Y, .int .i64 l.Len, .int .i64 l.Pri], .int .i64 p, .agg #[.int .i64 x, .int .i64 y]] w fun e w' => e = .returned (.bool (covers l p x y)) ∧ ∃ X : Ext w, w' = X.W := by
  obtain ⟨h1, h2, h3, h5, h6, h7⟩ := hl
  rcases p_cases h0 h4 with rfl | rfl | rfl | rfl | rfl
  · by_cases e : y - l.Y = 1
    · have e1 : (y - l.Y == 1) = true := by simp only [beq_iff_eq]; exact e
      have E := Lib.hid e
      clear e
      go_enter Try.func90, Try.ntmps90
      go_wp2
      refine wp_region_ext (by kernel_rfl) (by kernel_rfl) ?_
      repeat (go_big_quiet_step (fail))
      refine wpQuiet_nil ?_
      intro x2
      have s2 := x2.size
      simp at s2
      go_wp2_with (go_at_call 52; refine (l01In_any _ _ _ _).mono ?_; rintro e w' ⟨rfl, rfl⟩)
      go_ret
      refine ⟨ret_bool (by have := E.out; simp only [covers]; simp; try omega), ext_mk ?_⟩
      (repeat' (first | (with_reducible exact Below.refl _ _) | (with_reducible assumption) | (with_reducible refine Below.setCell ?_ ?_ _) | (with_reducible refine Below.alloc ?_ ?_ _) | (with_reducible refine Below.ext ?_ ?_ _) | omega | (simp; done) | (simp; omega) | (with_reducible refine Below.drew ?_)))
    · have e1 : (y - l.Y == 1) = false := by simp only [beq_eq_false_iff_ne]; exact e
      have E := Lib.hid e
      clear e
      go_enter Try.func90, Try.ntmps90
      go_wp2
      refine wp_region_ext (by kernel_rfl) (by kernel_rfl) ?_
      repeat (go_big_quiet_step (fail))
      refine wpQuiet_nil ?_
      intro x2
      have s2 := x2.size
      simp at s2
      go_wp2_with (go_at_call 52; refine (l01In_any _ _ _ _).mono ?_; rintro e w' ⟨rfl, rfl⟩)
      go_ret
      refine ⟨ret_bool (by have := E.out; simp only [covers]; simp; try omega), ext_mk ?_⟩
      (repeat' (first | (with_reducible exact Below.refl _ _) | (with_reducible assumption) | (with_reducible refine Below.setCell ?_ ?_ _) | (with_reducible refine Below.alloc ?_ ?_ _) | (with_reducible refine Below.ext ?_ ?_ _) | omega | (simp; done) | (simp; omega) | (with_reducible refine Below.drew ?_)))
  · by_cases e : y - l.Y = 1
    · have e1 : (y - l.Y == 1) = true := by simp only [beq_iff_eq]; exact e
      have E := Lib.hid e
      clear e
      go_enter Try.func90, Try.ntmps90
      go_wp2
      refine wp_region_ext (by kernel_rfl) (by kernel_rfl) ?_
      repeat (go_big_quiet_step (fail))
      refine wpQuiet_nil ?_
      intro x2
      have s2 := x2.size
      simp at s2
      go_wp2_with (go_at_call 52; refine (l01In_any _ _ _ _).mono ?_; rintro e w' ⟨rfl, rfl⟩)
      go_ret
      refine ⟨ret_bool (by have := E.out; simp only [covers]; simp; try omega), ext_mk ?_⟩
      (repeat' (first | (with_reducible exact Below.refl _ _) | (with_reducible assumption) | (with_reducible refine Below.setCell ?_ ?_ _) | (with_reducible refine Below.alloc ?_ ?_ _) | (with_reducible refine Below.ext ?_ ?_ _) | omega | (simp; done) | (simp; omega) | (with_reducible refine Below.drew ?_)))
    · have e1 : (y - l.Y == 1) = false := by simp only [beq_eq_false_iff_ne]; exact e
      have E := Lib.hid e
      clear e
      go_enter Try.func90, Try.ntmps90
      go_wp2
      refine wp_region_ext (by kernel_rfl) (by kernel_rfl) ?_
      repeat (go_big_quiet_step (fail))
      refine wpQuiet_nil ?_
      intro x2
      have s2 := x2.size
      simp at s2
      go_wp2_with (go_at_call 52; refine (l01In_any _ _ _ _).mono ?_; rintro e w' ⟨rfl, rfl⟩)
      go_ret
      refine ⟨ret_bool (by have := E.out; simp only [covers]; simp; try omega), ext_mk ?_⟩
      (repeat' (first | (with_reducible exact Below.refl _ _) | (with_reducible assumption) | (with_reducible refine Below.setCell ?_ ?_ _) | (with_reducible refine Below.alloc ?_ ?_ _) | (with_reducible refine Below.ext ?_ ?_ _) | omega | (simp; done) | (simp; omega) | (with_reducible refine Below.drew ?_)))
  · by_cases e : -(y - l.Y) = 1
    · have e1 : (-(y - l.Y) == 1) = true := by simp only [beq_iff_eq]; exact e
      have E := Lib.hid e
      clear e
      go_enter Try.func90, Try.ntmps90
      go_wp2
      refine wp_region_ext (by kernel_rfl) (by kernel_rfl) ?_
      repeat (go_big_quiet_step (fail))
      refine wpQuiet_nil ?_
      intro x2
      have s2 := x2.size
      simp at s2
      go_wp2_with (go_at_call 52; refine (l01In_any _ _ _ _).mono ?_; rintro e w' ⟨rfl, rfl⟩)
      go_ret
      refine ⟨ret_bool (by have := E.out; simp only [covers]; simp; try omega), ext_mk ?_⟩
      (repeat' (first | (with_reducible exact Below.refl _ _) | (with_reducible assumption) | (with_reducible refine Below.setCell ?_ ?_ _) | (with_reducible refine Below.alloc ?_ ?_ _) | (with_reducible refine Below.ext ?_ ?_ _) | omega | (simp; done) | (simp; omega) | (with_reducible refine Below.drew ?_)))
    · have e1 : (-(y - l.Y) == 1) = false := by simp only [beq_eq_false_iff_ne]; exact e
      have E := Lib.hid e
      clear e
      go_enter Try.func90, Try.ntmps90
      go_wp2
      refine wp_region_ext (by kernel_rfl) (by kernel_rfl) ?_
      repeat (go_big_quiet_step (fail))
      refine wpQuiet_nil ?_
      intro x2
      have s2 := x2.size
      simp at s2
      go_wp2_with (go_at_call 52; refine (l01In_any _ _ _ _).mono ?_; rintro e w' ⟨rfl, rfl⟩)
      go_ret
      refine ⟨ret_bool (by have := E.out; simp only [covers]; simp; try omega), ext_mk ?_⟩
      (repeat' (first | (with_reducible exact Below.refl _ _) | (with_reducible assumption) | (with_reducible refine Below.setCell ?_ ?_ _) | (with_reducible refine Below.alloc ?_ ?_ _) | (with_reducible refine Below.ext ?_ ?_ _) | omega | (simp; done) | (simp; omega) | (with_reducible refine Below.drew ?_)))
  · by_cases e : -(y - l.Y) = 1
    · have e1 : (-(y - l.Y) == 1) = true := by simp only [beq_iff_eq]; exact e
      have E := Lib.hid e
      clear e
      go_enter Try.func90, Try.ntmps90
      go_wp2
      refine wp_region_ext (by kernel_rfl) (by kernel_rfl) ?_
      repeat (go_big_quiet_step (fail))
      refine wpQuiet_nil ?_
      intro x2
      have s2 := x2.size
      simp at s2
      go_wp2_with (go_at_call 52; refine (l01In_any _ _ _ _).mono ?_; rintro e w' ⟨rfl, rfl⟩)
      go_ret
      refine ⟨ret_bool (by have := E.out; simp only [covers]; simp; try omega), ext_mk ?_⟩
      (repeat' (first | (with_reducible exact Below.refl _ _) | (with_reducible assumption) | (with_reducible refine Below.setCell ?_ ?_ _) | (with_reducible refine Below.alloc ?_ ?_ _) | (with_reducible refine Below.ext ?_ ?_ _) | omega | (simp; done) | (simp; omega) | (with_reducible refine Below.drew ?_)))
    · have e1 : (-(y - l.Y) == 1) = false := by simp only [beq_eq_false_iff_ne]; exact e
      have E := Lib.hid e
      clear e
      go_enter Try.func90, Try.ntmps90
      go_wp2
      refine wp_region_ext (by kernel_rfl) (by kernel_rfl) ?_
      repeat (go_big_quiet_step (fail))
      refine wpQuiet_nil ?_
      intro x2
      have s2 := x2.size
      simp at s2
      go_wp2_with (go_at_call 52; refine (l01In_any _ _ _ _).mono ?_; rintro e w' ⟨rfl, rfl⟩)
      go_ret
      refine ⟨ret_bool (by have := E.out; simp only [covers]; simp; try omega), ext_mk ?_⟩
      (repeat' (first | (with_reducible exact Below.refl _ _) | (with_reducible assumption) | (with_reducible refine Below.setCell ?_ ?_ _) | (with_reducible refine Below.alloc ?_ ?_ _) | (with_reducible refine Below.ext ?_ ?_ _) | omega | (simp; done) | (simp; omega) | (with_reducible refine Below.drew ?_)))
  · go_enter Try.func90, Try.ntmps90
    go_wp2
    refine wp_region_ext (by kernel_rfl) (by kernel_rfl) ?_
    repeat (go_big_quiet_step (fail))
    refine wpQuiet_nil ?_
    intro x2
    have s2 := x2.size
    simp at s2
    go_wp2_with (go_at_call 52; refine (l01In_any _ _ _ _).mono ?_; rintro e w' ⟨rfl, rfl⟩)
    go_ret
    refine ⟨ret_bool (by simp [covers]; try omega), ext_mk ?_⟩
    (repeat' (first | (with_reducible exact Below.refl _ _) | (with_reducible assumption) | (with_reducible refine Below.setCell ?_ ?_ _) | (with_reducible refine Below.alloc ?_ ?_ _) | (with_reducible refine Below.ext ?_ ?_ _) | omega | (simp; done) | (simp; omega) | (with_reducible refine Below.drew ?_)))

/-- The points that a label covers in a position, from left to right. -/
def covFrom (l : Label) (p : Int) : Int := if p = 1 ∨ p = 2 then l.X - l.Len else l.X + 1
def covY (l : Label) (p : Int) : Int := if 1 < p then l.Y - 1 else l.Y + 1
def cov (l : Label) (p : Int) : List Point := if p = 4 then [] else (List.range l.Len.toNat).map fun (i : Nat) => ⟨covFrom l p + i, covY l p⟩
theorem cov_len {l : Label} (hl : okL l) (p : Int) : (cov l p).length ≤ 20 := by
  obtain ⟨_, _, _, _, _, h⟩ := hl
  unfold cov
  split
  · simp
  · simp; omega
theorem cov_bd {l : Label} (hl : okL l) {p : Int} {q : Point} (h : q ∈ cov l p) : -1100 ≤ q.X ∧ q.X ≤ 1100 ∧ -1100 ≤ q.Y ∧ q.Y ≤ 1100 := by
  obtain ⟨h1, h2, h3, h4, h5, h6⟩ := hl
  unfold cov at h
  split at h
  · simp at h
  · simp only [List.mem_map, List.mem_range] at h
    obtain ⟨i, hi, rfl⟩ := h
    simp only [covFrom, covY]
    split <;> split <;> omega
theorem mem_cov {l : Label} (hl : okL l) {p : Int} (h0 : 0 ≤ p) (h4 : p ≤ 4) (q : Point) : q ∈ cov l p ↔ covers l p q.X q.Y = true := by
  obtain ⟨h1, h2, h3, h5, h6, h7⟩ := hl
  obtain ⟨x, y⟩ := q
  rcases p_cases h0 h4 with rfl | rfl | rfl | rfl | rfl
  all_goals
    simp only [cov, covFrom, covY, covers, inB, List.mem_map, List.mem_range, Point.mk.injEq, Bool.and_eq_true, decide_eq_true_eq, beq_iff_eq]
    simp
    try (constructor
         · rintro ⟨i, hi, rfl, rfl⟩; omega
         · rintro h; first | exact ⟨(x - (l.X + 1)).toNat, by omega, by omega, by omega⟩ | exact ⟨(x - (l.X - l.Len)).toNat, by omega, by omega, by omega⟩)
end Go.Proofs.Ytnnpmbcamnnfgaa
