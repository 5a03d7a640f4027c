/- The program's functions on ties return what the reference's return; no condition but the bounds of the arguments' types. -/
import Derived.Test.YtojhgfkohbfhhaaDoorMW7
import Derived.Test.YtojhgfkohbfhhaaDoorMQ2
import Derived.Test.YtojhgfkohbfhhaaDoorMR2
namespace Go.Proofs.YtojhgfkohbfhhaaDoor.Sh
open Go.RowKit Go.Lib
theorem tok {L : List Tie} (h : ∀ x ∈ L, okTie x) : ∀ t ∈ L, TOk t := fun t ht => ⟨(h t ht).A, (h t ht).B, (h t ht).Reason⟩
/-- The reference's code of ties and two records. -/
def codeB (n : Int) (L : List Tie) (a b : Int) : Int := bif tiesB n L then (bif inB a 0 (n - 1) && inB b 0 (n - 1) then 0 else 2) else 1
theorem tiesB_n {n : Int} {L : List Tie} (h : tiesB n L = true) : 1 ≤ n ∧ n ≤ 12 := by
  unfold tiesB at h
  rw [Bool.and_eq_true] at h
  exact inB_iff.1 h.1
theorem codeB_zero {n : Int} {L : List Tie} {a b : Int} (h : codeB n L a b = 0) : ∃ m u v : Nat, n = m ∧ a = u ∧ b = v ∧ u < m ∧ v < m ∧ TIn m L ∧ L.length ≤ 20 := by
  unfold codeB at h
  cases hb : tiesB n L
  · rw [hb] at h; cases h
  · rw [hb] at h
    obtain ⟨m, rfl, hT, h20⟩ := tiesB_in hb
    cases hc : inB a 0 ((m : Int) - 1) && inB b 0 ((m : Int) - 1)
    · rw [hc] at h; cases h
    · rw [Bool.and_eq_true] at hc
      have h1 := inB_iff.1 hc.1
      have h2 := inB_iff.1 hc.2
      exact ⟨m, a.toNat, b.toNat, rfl, by omega, by omega, by omega, by omega, hT, h20⟩
end Go.Proofs.YtojhgfkohbfhhaaDoor.Sh
