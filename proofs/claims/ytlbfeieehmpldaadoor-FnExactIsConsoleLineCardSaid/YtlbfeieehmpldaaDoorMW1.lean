/- Plain laws: loops that search, words; no condition but bounds on lengths. -/
import Derived.Test.YtlbfeieehmpldaaDoorGA
namespace Go.Proofs.YtlbfeieehmpldaaDoor.Sh
open Go.RowKit Go.Lib
theorem byte_get {s : ByteArray} {j : Nat} {b : UInt8} (h : s.data.toList[j]? = some b) : byte' s (j : Int) = some (b.toNat : Int) := by
  unfold byte'
  rw [if_pos (by omega)]
  have : s[(j : Int).toNat]? = some b := by
    rw [Int.toNat_natCast]
    rw [Array.getElem?_toList] at h
    exact h
  rw [this]
  rfl
def small (b : UInt8) : Bool := decide (97 ≤ b.toNat) && decide (b.toNat ≤ 122)
end Go.Proofs.YtlbfeieehmpldaaDoor.Sh
