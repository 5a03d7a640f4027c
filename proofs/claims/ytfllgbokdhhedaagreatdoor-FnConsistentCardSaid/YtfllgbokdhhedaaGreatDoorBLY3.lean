/- The law FnConsistent answers true; no condition but the bounds of its argument's type. -/
import Derived.Test.YtfllgbokdhhedaaGreatDoorBD6
import Derived.Test.YtfllgbokdhhedaaGreatDoorR1
namespace Go.Proofs.YtfllgbokdhhedaaGreatDoor.Sh
open Go.RowKit Go.Lib
theorem ShortL.len {L : List Claim} (h : ShortL 30 L) : L.length ≤ 1048576 := by have := h.1; omega
theorem tolV_zero {L : List Claim} {k : Int} {p : ByteArray} {y : Int} (h : (tolV L k p y).2 = 0) : (∃ v, tel L k p y = some v) ∧ (soC L p y != 0) = false := by
  unfold tolV at h
  cases hs : (soC L p y != 0)
  · rw [hs, cond_false] at h
    cases ht : tel L k p y with
    | none => rw [ht] at h; simp at h
    | some v => exact ⟨⟨v, rfl⟩, rfl⟩
  · rw [hs, cond_true] at h
    have h : soC L p y = 0 := h
    rw [h] at hs
    cases hs
theorem exV_one {L : List Claim} {k : Int} (hk : k = 0 ∨ k = 1) {p : ByteArray} {y : Int} (h : ((tolV L k p y).2 == 0) = true) : ((exV L p y).1 != 1) = false := by
  obtain ⟨⟨v, h1⟩, h2⟩ := tolV_zero (beq_iff_eq.1 h)
  unfold exV
  rw [h2, cond_false, exF_one (consB_pair (soC_cons h2)) hk h1]
  rfl
theorem FnConsistent_true (c : List Int) (h : c.length ≤ maxLen ∧ ∀ x ∈ c, okU8 x) : laws_FnConsistent c = some true := by
  unfold laws_FnConsistent laws_big
  rw [Option.bind_some]
  by_cases hb : (c.length : Int) > 4096
  · rw [decide_eq_true hb]
    rfl
  rw [decide_eq_false hb, cond_false]
  have hc : CodeOk c := ⟨by omega, h.2⟩
  obtain ⟨d2, e2, h2⟩ := drawCons_G hc
  obtain ⟨d5, e5, h5, h5'⟩ := drawCho_G hc
  obtain ⟨d8, e8, h8, h8'⟩ := drawFits_G hc
  obtain ⟨d11, e11, h11, h11'⟩ := drawName_G hc
  have hp : d11.2.1.size ≤ 1048576 := by omega
  have n12 : impl_NameBy d11.1 d11.2.1 d11.2.2 = some (tolV d11.1 0 d11.2.1 d11.2.2) := by
    unfold impl_NameBy
    rw [impl_toldBy_eq h11.len h11.sm hp]
    rfl
  have n14 : impl_ParentBy d11.1 d11.2.1 d11.2.2 = some (tolV d11.1 1 d11.2.1 d11.2.2) := by
    unfold impl_ParentBy
    rw [impl_toldBy_eq h11.len h11.sm hp]
    rfl
  rw [e2, Option.bind_some, impl_areCons_eq h2.len h2.sm, Option.bind_some, spec_areCons_eq h2.len h2.sm, Option.bind_some, e5, Option.bind_some, impl_cho_eq h5.len h5.sm h5', Option.bind_some, spec_cho_eq h5.len h5.sm h5', Option.bind_some, e8, Option.bind_some, impl_fits_eq h8.len h8.sm h8'.sm, Option.bind_some, spec_fits_eq h8.len h8.sm h8'.sm, Option.bind_some, e11, Option.bind_some, n12, Option.bind_some, spec_nameBy_eq h11.len h11.sm hp, Option.bind_some, n14, Option.bind_some, spec_parentBy_eq h11.len h11.sm hp, Option.bind_some, impl_existsBy_eq h11.len h11.sm hp, Option.bind_some, spec_existsBy_eq h11.len h11.sm hp, Option.bind_some, impl_areCons_eq h5.len h5.sm, Option.bind_some]
  simp only [bne_self_eq_false, beq_self_eq_true, Bool.not_true, Bool.or_false, cond_false]
  have z1 : (((exV d11.1 d11.2.1 d11.2.2).2 == 0) && (cond ((tolV d11.1 0 d11.2.1 d11.2.2).2 == 0) ((exV d11.1 d11.2.1 d11.2.2).1 != 1) (((tolV d11.1 1 d11.2.1 d11.2.2).2 == 0) && ((exV d11.1 d11.2.1 d11.2.2).1 != 1)))) = false := by
    cases h0 : ((tolV d11.1 0 d11.2.1 d11.2.2).2 == 0)
    · cases h1 : ((tolV d11.1 1 d11.2.1 d11.2.2).2 == 0)
      · simp
      · rw [exV_one (.inr rfl) h1]; simp
    · rw [exV_one (.inl rfl) h0]; simp
  have z2 : (((choV d5.1 d5.2).2 == 0) && (((conV d5.1).2 == 0) && ((conV d5.1).1 && !(choV d5.1 d5.2).1))) = false := by
    unfold choV conV
    cases hcl : claimsB d5.1
    · rfl
    cases hr : risB d5.2 d5.1.length
    · rfl
    obtain ⟨k1, k2⟩ := claimsB_iff.1 hcl
    cases hco : consB d5.1
    · rfl
    · simp only [cond_true]
      rw [consB_mono (L := d5.1) (M := choL d5.1 d5.2) (by omega) (cho_cons h5' hcl).1 (fun x hx => choL_mem hx) k2 hco]
      rfl
  rw [z1, cond_false, z2, cond_false]
  unfold conV
  cases hcl : claimsB d2
  · rfl
  obtain ⟨k1, k2⟩ := claimsB_iff.1 hcl
  obtain ⟨r, er, hr1, hr2⟩ := pairs_G k1 h2.sm hcl
  simp only [cond_true, bne_self_eq_false, cond_false, er, Option.bind_some, hr1]
  cases hco : consB d2
  · rfl
  · rw [hr2 (consB_pair hco)]
    rfl
end Go.Proofs.YtfllgbokdhhedaaGreatDoor.Sh
