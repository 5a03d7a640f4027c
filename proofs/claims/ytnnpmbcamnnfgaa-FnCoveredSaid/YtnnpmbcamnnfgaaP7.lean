/- The reference's covered points have the closed form of the program's; no condition but an allowed label. -/
import Derived.Test.YtnnpmbcamnnfgaaP6
namespace Go.Proofs.Ytnnpmbcamnnfgaa.Sh
open Go.RowKit
/-- Is the point covered? -/
def covB (l : Label) (p : Int) (q : Point) : Bool := decide (p < 4) && ((bif decide (p > 1) then -(q.Y - l.At.Y) else q.Y - l.At.Y) == 1 && inB (bif p == 1 || p == 2 then -(q.X - l.At.X) else q.X - l.At.X) 1 l.Length)
theorem spec_covers {l : Label} (hl : LabIn l) (p : Int) {q : Point} (h1 : -100000 ≤ q.X) (h2 : q.X ≤ 100000) (h3 : -100000 ≤ q.Y) (h4 : q.Y ≤ 100000) : spec_l33Covers l p q = some (covB l p q) := by
  obtain ⟨k1, k2, k3, k4, k5, k6, k7, k8⟩ := hl
  unfold spec_l33Covers covB spec_l01In
  have a1 : w64 (q.X - l.At.X) = q.X - l.At.X := w64_id (by omega) (by omega)
  have a2 : w64 (q.Y - l.At.Y) = q.Y - l.At.Y := w64_id (by omega) (by omega)
  have a3 : w64 (0 - (q.X - l.At.X)) = -(q.X - l.At.X) := by rw [w64_id (by omega) (by omega)]; omega
  have a4 : w64 (0 - (q.Y - l.At.Y)) = -(q.Y - l.At.Y) := by rw [w64_id (by omega) (by omega)]; omega
  rw [a1, a2, a3, a4]
  cases (p == 1 || p == 2) <;> cases (decide (p > 1)) <;> cases (decide (p < 4)) <;> simp only [cond_true, cond_false, Option.bind_some, Bool.true_and, Bool.false_and]
  · cases (q.Y - l.At.Y == 1) <;> simp [inB]
  · cases (-(q.Y - l.At.Y) == 1) <;> simp [inB]
  · cases (q.Y - l.At.Y == 1) <;> simp [inB]
  · cases (-(q.Y - l.At.Y) == 1) <;> simp [inB]
end Go.Proofs.Ytnnpmbcamnnfgaa.Sh
