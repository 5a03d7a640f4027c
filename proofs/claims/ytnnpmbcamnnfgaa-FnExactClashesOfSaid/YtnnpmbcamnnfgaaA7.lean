/- labelCode, the covered points, isAllowed, AllowedPositions and CoveredBy of program and reference compute the Lean functions written here, for every readable slice of labels. -/
import Derived.Test.YtnnpmbcamnnfgaaA6
namespace Go.Proofs.Ytnnpmbcamnnfgaa
open Go.RowKit
def lbCode (L : List Label) (i : Int) : Int := if areLabels L = true then (if inB i 0 (L.length - 1) = true then 0 else 2) else 1
theorem lbCode_1 {L : List Label} {i : Int} (h : areLabels L = false) : lbCode L i = 1 := by simp [lbCode, h]
theorem lbCode_0 {L : List Label} {i : Int} (h : areLabels L = true) (h1 : inB i 0 (L.length - 1) = true) : lbCode L i = 0 := by rw [lbCode, if_pos h, if_pos h1]
theorem lbCode_2 {L : List Label} {i : Int} (h : areLabels L = true) (h1 : inB i 0 (L.length - 1) = false) : lbCode L i = 2 := by rw [lbCode, if_pos h, if_neg (by simp [h1])]
set_option maxHeartbeats 400000 in
set_option maxRecDepth 100000 in
theorem lenLabel_any (A : Option Addr) (n c : Nat) (w : World) (hn : n ≤ 9223372036854775807) :
    Calls Try.prog 91 #[.slice A n c] w fun e w' => e = .returned (.int .i64 n) ∧ w = w' := by
  go_enter Try.func91, Try.ntmps91
  go_wp2
  go_ret
  exact ⟨rfl, rfl⟩
set_option maxHeartbeats 1000000 in
set_option maxRecDepth 100000 in
theorem specCode_any (A : Option Addr) (n c : Nat) (L : List Label) (i : Int) (w : World) (hr : Rd w (lt w.heap.size) A n c L) :
    Calls Try.prog 62 #[.slice A n c, .int .i64 i] w fun e w' => e = .returned (.int .i64 (lbCode L i)) ∧ ∃ X : Ext w, w' = X.W := by
  have hL := hr.len
  have he := hr.eq
  subst he
  rcases Bool.eq_false_or_eq_true (areLabels L) with t1 | t1
  · have t3 := areLabels_len t1
    rcases Bool.eq_false_or_eq_true (inB i 0 (L.length - 1)) with t2 | t2 <;>
    · go_enter Try.func62, Try.ntmps62
      go_wp2_with (first | (go_at_call 14; refine (specAreLabels_any _ _ _ L _ hr).mono ?_; rintro e w' ⟨rfl, x1, rfl⟩; have sx1 := Ext.size x1; try simp at sx1) | (go_at_call 52; refine (l01In_any _ _ _ _).mono ?_; rintro e w' ⟨rfl, rfl⟩))
      go_ret
      refine ⟨ret_int (by first | rw [lbCode_0 t1 t2] | rw [lbCode_2 t1 t2]), ext_mk ?_⟩
      (repeat' (first | (with_reducible exact Below.refl _ _) | (with_reducible assumption) | (with_reducible refine Below.setCell ?_ ?_ _) | (with_reducible refine Below.alloc ?_ ?_ _) | (with_reducible refine Below.ext ?_ ?_ _) | omega | (simp; done) | (simp; omega) | (with_reducible refine Below.drew ?_)))
  · go_enter Try.func62, Try.ntmps62
    go_wp2_with (go_at_call 14; refine (specAreLabels_any _ _ _ L _ hr).mono ?_; rintro e w' ⟨rfl, x1, rfl⟩; have sx1 := Ext.size x1; try simp at sx1)
    go_ret
    refine ⟨ret_int (by rw [lbCode_1 t1]), ext_mk ?_⟩
    (repeat' (first | (with_reducible exact Below.refl _ _) | (with_reducible assumption) | (with_reducible refine Below.setCell ?_ ?_ _) | (with_reducible refine Below.alloc ?_ ?_ _) | (with_reducible refine Below.ext ?_ ?_ _) | omega | (simp; done) | (simp; omega) | (with_reducible refine Below.drew ?_)))
set_option maxHeartbeats 1000000 in
set_option maxRecDepth 100000 in
theorem implCode_any (A : Option Addr) (n c : Nat) (L : List Label) (i : Int) (w : World) (hr : Rd w (lt w.heap.size) A n c L) :
    Calls Try.prog 64 #[.slice A n c, .int .i64 i] w fun e w' => e = .returned (.int .i64 (lbCode L i)) ∧ ∃ X : Ext w, w' = X.W := by
  have hL := hr.len
  have he := hr.eq
  subst he
  rcases Bool.eq_false_or_eq_true (areLabels L) with t1 | t1
  · have t3 := areLabels_len t1
    rcases Bool.eq_false_or_eq_true (inB i 0 (L.length - 1)) with t2 | t2 <;>
    · go_enter Try.func64, Try.ntmps64
      go_wp2_with (first | (go_at_call 16; refine (implAreLabels_any _ _ _ L _ hr).mono ?_; rintro e w' ⟨rfl, x1, rfl⟩; have sx1 := Ext.size x1; try simp at sx1) | (go_at_call 55; refine (within_any _ _ _ _).mono ?_; rintro e w' ⟨rfl, rfl⟩) | (go_at_call 91; refine (lenLabel_any _ _ _ _ hL).mono ?_; rintro e w' ⟨rfl, rfl⟩))
      go_ret
      refine ⟨ret_int (by first | rw [lbCode_0 t1 t2] | rw [lbCode_2 t1 t2]), ext_mk ?_⟩
      (repeat' (first | (with_reducible exact Below.refl _ _) | (with_reducible assumption) | (with_reducible refine Below.setCell ?_ ?_ _) | (with_reducible refine Below.alloc ?_ ?_ _) | (with_reducible refine Below.ext ?_ ?_ _) | omega | (simp; done) | (simp; omega) | (with_reducible refine Below.drew ?_)))
  · go_enter Try.func64, Try.ntmps64
    go_wp2_with (go_at_call 16; refine (implAreLabels_any _ _ _ L _ hr).mono ?_; rintro e w' ⟨rfl, x1, rfl⟩; have sx1 := Ext.size x1; try simp at sx1)
    go_ret
    refine ⟨ret_int (by rw [lbCode_1 t1]), ext_mk ?_⟩
    (repeat' (first | (with_reducible exact Below.refl _ _) | (with_reducible assumption) | (with_reducible refine Below.setCell ?_ ?_ _) | (with_reducible refine Below.alloc ?_ ?_ _) | (with_reducible refine Below.ext ?_ ?_ _) | omega | (simp; done) | (simp; omega) | (with_reducible refine Below.drew ?_)))
end Go.Proofs.Ytnnpmbcamnnfgaa
