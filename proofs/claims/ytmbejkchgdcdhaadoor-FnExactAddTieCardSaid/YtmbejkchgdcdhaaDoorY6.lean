/- The law FnExactAddTie answers true; no condition but the bounds of its arguments' types. -/
import Derived.Test.YtmbejkchgdcdhaaDoorW9
import Derived.Test.YtmbejkchgdcdhaaDoorE6
namespace Go.Proofs.YtmbejkchgdcdhaaDoor.Sh
open Go.RowKit Go.Lib
theorem FnExactAddTie_true (n : Int) (L : List Tie) (t : Tie) (_ : okI n) (hL : L.length ≤ maxLen ∧ ∀ x ∈ L, okTie x) (ht : okTie t) : laws_FnExactAddTie n L t = some true := by
  unfold laws_FnExactAddTie
  have hsz : ∀ x ∈ L, x.Reason.size ≤ maxLen := fun x hx => (hL.2 x hx).Reason
  obtain ⟨v, e, h⟩ := szTieS_ok L hL.1 hsz
  rw [e, Option.bind_some]
  by_cases h0 : v < 0
  · rw [decide_eq_true h0]
    rfl
  · have h := h.resolve_left h0
    rw [decide_eq_false h0, cond_false]
    have ht2 := ht.Reason
    obtain ⟨v2, e2⟩ : ∃ v2, laws_szTie t v = some v2 := by
      unfold laws_szTie
      cases decide (w64 (v - (t.Reason.size : Int)) < 0)
      · exact ⟨_, rfl⟩
      · exact ⟨_, rfl⟩
    obtain ⟨r, r1, r2, r3⟩ := addTie_eq n L t h (tok hL.2) ⟨ht.A, ht.B, ht.Reason⟩
    have d1 : ∀ m : Nat, decide (1 + ((4 : Nat) : Int) * (m : Int) < 0) = false := fun m => decide_eq_false (by omega)
    have d2 : laws_toTie t = some t := rfl
    rw [e2, Option.bind_some]
    cases decide (v2 < 0)
    · simp only [toTieS_eq L h, r1, r2, d2, Option.bind_some, eqTieS_self L (by omega), eqTieS_self r.1 (by omega), markTieS_eq L (by omega), markTieS_eq r.1 (by omega), heldTieS_eq r.1 (by omega), d1]
      simp
    · rfl
end Go.Proofs.YtmbejkchgdcdhaaDoor.Sh
