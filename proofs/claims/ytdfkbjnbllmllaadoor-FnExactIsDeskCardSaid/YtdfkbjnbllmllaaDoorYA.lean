/- The law FnExactIsDesk answers true; no condition but the bounds of its arguments' types. -/
import Derived.Test.YtdfkbjnbllmllaaDoorDS1
import Derived.Test.YtdfkbjnbllmllaaDoorGA
namespace Go.Proofs.YtdfkbjnbllmllaaDoor.Sh
open Go.RowKit Go.Lib
theorem FnExactIsDesk_true (p0 : Desk) (k0 : okDesk p0) : laws_FnExactIsDesk p0 = some true := by
  unfold laws_FnExactIsDesk
  obtain ⟨v0, e0, h0⟩ := szDesk_ok p0 k0 1048576 (by omega) (by omega)
  rw [e0, Option.bind_some]
  by_cases c0 : v0 < 0
  · rw [decide_eq_true c0]
    rfl
  rw [decide_eq_false c0, cond_false]
  replace h0 := h0.resolve_left c0
  have t0 := toDesk_eq p0 h0.2.2
  have q0 := eqDesk_self p0 h0.2.2
  obtain ⟨r, r1, r2⟩ := desk_eq p0 h0.2.2
  simp only [r1, r2, Option.bind_some, t0, q0]
  simp
end Go.Proofs.YtdfkbjnbllmllaaDoor.Sh
