/- Results of functions that change what they are handed. -/
import Derived.Test.YtnnpmbcamnnfgaaS21
namespace Go.Proofs.Ytnnpmbcamnnfgaa.Sh
open Go.RowKit
section
variable {P : Program} {s : SS}
def isO (ins : List SIn) (j : Nat) : Bool := match ins[j]? with
  | some (.o _) => true
  | _ => false
/-- No argument but those of l is one that the call may change. -/
def onlyO (ins : List SIn) (l : List Nat) : Bool := ins.zipIdx.all fun p => match p.1 with
  | .v _ => true
  | .o _ => l.contains p.2
theorem onlyO_ok {ins : List SIn} {l : List Nat} (h : onlyO ins l = true) {j : Nat} {x : SO} (hj : ins[j]? = some (.o x)) : j ∈ l := by
  have h1 := List.all_eq_true.1 h (SIn.o x, j) (mem_zip.2 hj)
  simpa using h1
/-- One argument is changed. -/
theorem fin_io {rs : List ResultVar} {ins : List SIn} {outs : List SR} {dep : Bool} {j : Nat} {y : SO} (h : FinR P rs [] ⟨outs, [], dep⟩ s) (ho : find (hi j) s.o = some y) (hn : y.names = []) (hz : isO ins j = true) (hall : onlyO ins [j] = true) : FinR P rs ins ⟨outs, [(j, y)], dep⟩ s := by
  refine ⟨h.len, h.out, fun i x hx => ?_, fun i x hx => ?_⟩
  · have := List.mem_singleton.1 hx
    injection this with h1 h2
    subst h1 h2
    refine ⟨mem_of_find ho, hn, ?_⟩
    unfold isO at hz
    split at hz
    · rename_i z hz'; exact ⟨z, hz'⟩
    · cases hz
  · have := onlyO_ok hall hx
    simp at this
    subst this
    exact ⟨y, List.mem_singleton.2 rfl⟩
end
end Go.Proofs.Ytnnpmbcamnnfgaa.Sh
