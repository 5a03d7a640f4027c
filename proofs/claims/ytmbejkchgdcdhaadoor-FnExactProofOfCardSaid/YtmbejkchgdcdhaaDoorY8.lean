/- The law FnExactProofOf answers true; no condition but the bounds of its arguments' types. -/
import Derived.Test.YtmbejkchgdcdhaaDoorW9
import Derived.Test.YtmbejkchgdcdhaaDoorE8
namespace Go.Proofs.YtmbejkchgdcdhaaDoor.Sh
open Go.RowKit Go.Lib
theorem FnExactProofOf_true (n : Int) (L : List Tie) (a b : Int) (_ : okI n) (hL : L.length ≤ maxLen ∧ ∀ x ∈ L, okTie x) (_ : okI a) (_ : okI b) : laws_FnExactProofOf n L a b = some true := by
  unfold laws_FnExactProofOf
  have hsz : ∀ x ∈ L, x.Reason.size ≤ maxLen := fun x hx => (hL.2 x hx).Reason
  obtain ⟨v, e, h⟩ := szTieS_ok L hL.1 hsz
  rw [e, Option.bind_some]
  by_cases h0 : v < 0
  · rw [decide_eq_true h0]
    rfl
  · have h := h.resolve_left h0
    rw [decide_eq_false h0, cond_false]
    obtain ⟨r, r1, r2, r3⟩ := proofOf_eq n L a b hL.1 (tok hL.2)
    have d1 : ∀ m : Nat, decide (1 + ((4 : Nat) : Int) * (m : Int) < 0) = false := fun m => decide_eq_false (by omega)
    have d2 : ∀ m : Nat, decide (1 + ((1 : Nat) : Int) * (m : Int) < 0) = false := fun m => decide_eq_false (by omega)
    simp only [toTieS_eq L h, r1, r2, Option.bind_some, eqTieS_self L (by omega), eqInt64S_self r.1 (by omega), markTieS_eq L (by omega), markInt64S_eq r.1 (by omega), heldInt64S_eq r.1 (by omega), d1, d2]
    simp
end Go.Proofs.YtmbejkchgdcdhaaDoor.Sh
