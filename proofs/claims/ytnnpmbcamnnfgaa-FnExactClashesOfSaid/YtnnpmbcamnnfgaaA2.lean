/- The copies of a point and of a label give the same fields; no condition. -/
import Derived.Test.YtnnpmbcamnnfgaaA1
namespace Go.Proofs.Ytnnpmbcamnnfgaa
open Go.RowKit

set_option maxHeartbeats 400000 in
set_option maxRecDepth 100000 in
theorem toPoint_any (x y : Int) (w : World) :
    Calls Try.prog 86 #[.agg #[.int .i64 x, .int .i64 y]] w fun e w' => e = .returned (.agg #[.int .i64 x, .int .i64 y]) ∧ ∃ X : Ext w, w' = X.W := by
  go_enter Try.func86, Try.ntmps86
  go_wp2
  refine bodyPost_ret (v := .agg #[.int .i64 x, .int .i64 y]) (by simp [results, Try.results86, go_sem]) rfl ⟨rfl, ext_mk ?_⟩
  (repeat' (first | (with_reducible exact Below.refl _ _) | (with_reducible assumption) | (with_reducible refine Below.setCell ?_ ?_ _) | (with_reducible refine Below.alloc ?_ ?_ _) | (with_reducible refine Below.ext ?_ ?_ _) | omega | (simp; done) | (simp; omega) | (with_reducible refine Below.drew ?_)))

set_option maxHeartbeats 400000 in
set_option maxRecDepth 100000 in
theorem toLabel_any (a : Label) (w : World) :
    Calls Try.prog 53 #[a.val] w fun e w' => e = .returned a.val ∧ ∃ X : Ext w, w' = X.W := by
  go_enter Try.func53, Try.ntmps53
  go_wp2_with (go_at_call 86; refine (toPoint_any _ _ _).mono ?_; rintro e w' ⟨rfl, x1, rfl⟩; have s1 := x1.size; simp at s1)
  refine bodyPost_ret (v := .agg #[.int .i64 a.X, .int .i64 a.Y, .int .i64 a.Len, .int .i64 a.Pri]) ?_ rfl ?_
  · simp only [results, Try.results53]
    go_simp
  · refine ⟨rfl, ext_mk ?_⟩
    (repeat' (first | (with_reducible exact Below.refl _ _) | (with_reducible assumption) | (with_reducible refine Below.setCell ?_ ?_ _) | (with_reducible refine Below.alloc ?_ ?_ _) | (with_reducible refine Below.ext ?_ ?_ _) | omega | (simp; done) | (simp; omega) | (with_reducible refine Below.drew ?_)))
end Go.Proofs.Ytnnpmbcamnnfgaa
