/- The stable sort of the program, as an order by keys; no condition but labels. -/
import Derived.Test.YtlhllbiikideeaaLB5
namespace Go.Proofs.Ytlhllbiikideeaa.Sh
open Go.RowKit
/-- A label's priority, by its number. -/
def keyL (L : List Label) (i : Nat) : Int := ((L[i]?).map Label.Priority).getD 0
theorem keyL_at {L : List Label} {i : Nat} {x : Label} (h : L[i]? = some x) : keyL L i = x.Priority := by
  unfold keyL
  rw [h]
  rfl
end Go.Proofs.Ytlhllbiikideeaa.Sh
