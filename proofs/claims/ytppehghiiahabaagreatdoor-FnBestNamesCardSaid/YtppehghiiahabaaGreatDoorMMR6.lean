/- The law FnTop answers true; no condition but the bounds of its arguments' types. -/
import Derived.Test.YtppehghiiahabaaGreatDoorMMR5
import Derived.Test.YtppehghiiahabaaGreatDoorMD6
namespace Go.Proofs.YtppehghiiahabaaGreatDoor.Sh
open Go.RowKit Go.Lib
theorem ShortL.len {n : Nat} {L : List Claim} (h : ShortL n L) (k : n ≤ 1000 := by decide) : L.length ≤ 1048576 := by
  have := h.1
  omega
theorem any_no {α : Type} (L : List α) : (L.any fun _ => false) = false := by simp
end Go.Proofs.YtppehghiiahabaaGreatDoor.Sh
