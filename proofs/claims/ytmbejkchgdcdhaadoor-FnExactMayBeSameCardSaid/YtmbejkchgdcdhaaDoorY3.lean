/- The law FnExactMayBeSame answers true; no condition but the bounds of its arguments' types. -/
import Derived.Test.YtmbejkchgdcdhaaDoorW9
import Derived.Test.YtmbejkchgdcdhaaDoorE3
namespace Go.Proofs.YtmbejkchgdcdhaaDoor.Sh
open Go.RowKit Go.Lib
theorem FnExactMayBeSame_true (n : Int) (L : List Tie) (a b : Int) (_ : okI n) (hL : L.length ≤ maxLen ∧ ∀ x ∈ L, okTie x) (_ : okI a) (_ : okI b) : laws_FnExactMayBeSame n L a b = some true := by
  unfold laws_FnExactMayBeSame
  have hsz : ∀ x ∈ L, x.Reason.size ≤ maxLen := fun x hx => (hL.2 x hx).Reason
  obtain ⟨v, e, h⟩ := szTieS_ok L hL.1 hsz
  rw [e, Option.bind_some]
  by_cases h0 : v < 0
  · rw [decide_eq_true h0]
    rfl
  · have h := h.resolve_left h0
    rw [decide_eq_false h0, cond_false]
    obtain ⟨r, r1, r2⟩ := mayBeSame_eq n L a b hL.1 (tok hL.2)
    simp only [toTieS_eq L h, r1, r2, Option.bind_some, eqTieS_self L (by omega)]
    simp
end Go.Proofs.YtmbejkchgdcdhaaDoor.Sh
