/- The law FnExactSplitsBy answers true; no condition but the bounds of its arguments' types. -/
import Derived.Test.YtmbejkchgdcdhaaDoorW9
import Derived.Test.YtmbejkchgdcdhaaDoorE4
namespace Go.Proofs.YtmbejkchgdcdhaaDoor.Sh
open Go.RowKit Go.Lib
theorem FnExactSplitsBy_true (n : Int) (L : List Tie) (a : Int) (_ : okI n) (hL : L.length ≤ maxLen ∧ ∀ x ∈ L, okTie x) (_ : okI a) : laws_FnExactSplitsBy n L a = some true := by
  unfold laws_FnExactSplitsBy
  have hsz : ∀ x ∈ L, x.Reason.size ≤ maxLen := fun x hx => (hL.2 x hx).Reason
  obtain ⟨v, e, h⟩ := szTieS_ok L hL.1 hsz
  rw [e, Option.bind_some]
  by_cases h0 : v < 0
  · rw [decide_eq_true h0]
    rfl
  · have h := h.resolve_left h0
    rw [decide_eq_false h0, cond_false]
    obtain ⟨r, r1, r2⟩ := splitsBy_eq n L a h (tok hL.2)
    simp only [toTieS_eq L h, r1, r2, Option.bind_some, eqTieS_self L (by omega)]
    simp
end Go.Proofs.YtmbejkchgdcdhaaDoor.Sh
