/- The law FnExactStateOfLog answers true; no condition but the bounds of its arguments' types. -/
import Derived.Test.YtbaainlnmackeaaGreatDoorMJ7
import Derived.Test.YtbaainlnmackeaaGreatDoorQM
import Derived.Test.YtbaainlnmackeaaGreatDoorGA
namespace Go.Proofs.YtbaainlnmackeaaGreatDoor.Sh
open Go.RowKit Go.Lib
theorem opR_of (L : List Op) (hk : L.length ≤ maxLen ∧ ∀ x ∈ L, okOp x) (hs : ∀ x ∈ L, smOp x) : ∀ x ∈ L, OpR x := fun x hx => ⟨(hk.2 x hx).Office, (hk.2 x hx).Number, (hs x hx).s2, (hs x hx).s3, (hs x hx).s4, (hk.2 x hx).Seen.2⟩
theorem FnExactStateOfLog_true (p0 : (List Op)) (k0 : p0.length ≤ maxLen ∧ ∀ x ∈ p0, okOp x) : laws_FnExactStateOfLog p0 = some true := by
  unfold laws_FnExactStateOfLog
  obtain ⟨v0, e0, h0⟩ := szOpS_ok p0 k0 1048576 (by omega) (by omega)
  rw [e0, Option.bind_some]
  by_cases c0 : v0 < 0
  · rw [decide_eq_true c0]
    rfl
  rw [decide_eq_false c0, cond_false]
  replace h0 := h0.resolve_left c0
  have l0 : p0.length ≤ 1048576 := by have := h0.2.2.1; omega
  have t0 := toOpS_eq p0 l0 h0.2.2.2
  have q0 := eqOpS_self p0 (by omega) h0.2.2.2
  obtain ⟨r, r1, r2, r3⟩ := stateOfLog_eq (L := p0) (by have := h0.2.2.1; omega) (opR_of p0 k0 h0.2.2.2)
  have hl : r.1.length ≤ 1048576 := by omega
  have b0 := sumOp_small p0 l0 h0.2.2.2
  have m0 := markOpS_eq p0 (1) (by omega) (by omega) (by omega)
  have d0 : decide ((1 + ((sumN cOp p0 : Nat) : Int) : Int) < 0) = false := decide_eq_false (by omega)
  have q := eqStringS_self r.1 (by omega)
  have b := sumN_le (c := cString) (C := 1) (L := r.1) (fun _ _ => Nat.le_refl _)
  have m := markStringS_eq r.1 1 (by omega) (by omega) (by omega)
  have w := heldStringS_eq r.1 1 (by omega) (by omega) (by omega)
  have d1 : decide (1 + ((sumN cString r.1 : Nat) : Int) < 0) = false := decide_eq_false (by omega)
  simp only [r1, r2, Option.bind_some, t0, q0, m0, d0, q, m, w, d1]
  simp
end Go.Proofs.YtbaainlnmackeaaGreatDoor.Sh
