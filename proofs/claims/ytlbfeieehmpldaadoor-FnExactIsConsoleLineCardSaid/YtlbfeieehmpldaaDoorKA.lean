/- Library functions as typed calls: Clone, Trim, Grow; bounds on sizes alone. -/
import Derived.Test.YtlbfeieehmpldaaDoorSB
import Derived.Shelf.SlicesE.Clone
import Derived.Shelf.Strings.SlTrimAscii
import Derived.Shelf.Spec.SlicesGrow
namespace Go.Proofs.YtlbfeieehmpldaaDoor.Sh
open Go.RowKit Go.Shelf Go.Lib
variable {P : Program} {ρ : Ren}
end Go.Proofs.YtlbfeieehmpldaaDoor.Sh
namespace Go.Proofs.YtlbfeieehmpldaaDoor.Sh
open Go.RowKit Go.Shelf Go.Lib
def Tr.val : Tr → Value
  | .int k n => .int k n
  | .bool b => .bool b
  | .str s => .string s
  | .sl _ _ => undef
  | .nil => .slice none 0 0
  | .nilf => .nilFunc
theorem tv_val {w : World} {S : Nat → Prop} {t : Tr} {v : Value} (h : TV w S t v) (hf : t.flat = true) : v = t.val := by
  cases h with
  | int => rfl
  | bool => rfl
  | str => rfl
  | sl => cases hf
  | nil => rfl
  | nilf => rfl
def Tr.small : Tr → Prop
  | .str s => s.size ≤ maxLen
  | _ => True
theorem val_tv {w : World} {S : Nat → Prop} {t : Tr} (hf : t.flat = true) (hs : t.small) : TV w S t t.val := by
  cases t with
  | int k n => exact .int k n
  | bool b => exact .bool b
  | str s => exact .str s hs
  | sl => cases hf
  | nil => exact .nil
  | nilf => exact .nilf
theorem flat_args {w : World} {S : Nat → Prop} {ts : List Tr} (hf : ∀ t ∈ ts, t.flat = true) {vs : Array Value} (hn : vs.size = ts.length) (hv : ∀ (j : Nat) x v, (ts.map fun t => SIn.v (.tr t))[j]? = some (SIn.v x) → vs[j]? = some v → SVr w S bz x v) : vs = (ts.map Tr.val).toArray := by
  apply Array.ext
  · simp [hn]
  · intro i h1 h2
    have h3 : i < ts.length := by omega
    have h4 := hv i (.tr ts[i]) vs[i] (by simp [List.getElem?_eq_getElem h3]) (Array.getElem?_eq_getElem h1)
    cases h4 with
    | tr _ _ h4 =>
      rw [tv_val h4 (hf _ (List.getElem_mem h3))]
      simp
end Go.Proofs.YtlbfeieehmpldaaDoor.Sh
namespace Go.Proofs.YtlbfeieehmpldaaDoor.Sh
open Go.RowKit Go.Shelf Go.Lib
theorem alloc_new (w : World) (o : Obj) : (w.alloc o).heap[w.heap.size]? = some o := by
  show (w.heap.push o)[w.heap.size]? = _
  simp
end Go.Proofs.YtlbfeieehmpldaaDoor.Sh
