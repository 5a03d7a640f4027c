/- GreedyPlacement of both; no condition but the bounds of lengths. -/
import Derived.Test.YtlhllbiikideeaaLB6
namespace Go.Proofs.Ytlhllbiikideeaa.Sh
open Go.RowKit
theorem gp_rep {n i : Nat} (h : i < n) : gp (List.replicate n (4 : Int)) i = 4 := by
  unfold gp
  rw [List.getElem?_replicate, if_pos h]
  rfl
theorem pin_start {L : List Label} (h6 : L.length ≤ 6) (hA : ∀ x ∈ L, LabIn x) : PIn L (List.replicate L.length 4) :=
  ⟨by simp, h6, hA, fun i hi => by rw [gp_rep (by simpa using hi)]; omega⟩
end Go.Proofs.Ytlhllbiikideeaa.Sh
