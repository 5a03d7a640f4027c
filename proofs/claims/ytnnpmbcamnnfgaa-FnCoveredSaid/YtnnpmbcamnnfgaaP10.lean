/- CoveredBy of both, in closed form; no condition but a list's length. -/
import Derived.Test.YtnnpmbcamnnfgaaP9
namespace Go.Proofs.Ytnnpmbcamnnfgaa.Sh
open Go.RowKit
theorem areLabs_ok {L : List Label} (h : areLabs L = true) {i : Nat} {x : Label} (hx : L[i]? = some x) : LabIn x := by
  unfold areLabs at h
  rw [Bool.and_eq_true] at h
  have h1 := h.1
  rw [Option.isNone_iff_eq_none, List.find?_eq_none] at h1
  have hi := (List.getElem?_eq_some_iff.1 hx).1
  have h2 := h1 i (List.mem_range.2 hi)
  unfold badAt at h2
  rw [hx] at h2
  simp only [Bool.or_eq_true, Bool.not_eq_true', not_or, Bool.not_eq_false] at h2
  exact labIn_of h2.1
theorem areLabs_len {L : List Label} (h : areLabs L = true) : L.length ≤ 6 := by
  unfold areLabs at h
  rw [Bool.and_eq_true] at h
  have := h.2
  simp at this
  omega
def labCode (L : List Label) (i : Int) : Int := bif !areLabs L then 1 else bif !inB i 0 ((L.length : Int) - 1) then 2 else 0
def covBy (L : List Label) (i p : Int) : List Point × Int := match L[i.toNat]? with
  | some x => bif labCode L i != 0 then ([], labCode L i) else bif !inB p 0 3 then ([], 2) else (covP x p, 0)
  | none => ([], labCode L i)
theorem labCode_zero {L : List Label} {i : Int} (h : labCode L i = 0) : areLabs L = true ∧ 0 ≤ i ∧ i < L.length := by
  unfold labCode at h
  cases h1 : areLabs L
  · rw [h1] at h; cases h
  · rw [h1] at h
    cases h2 : inB i 0 ((L.length : Int) - 1)
    · rw [h2] at h; cases h
    · unfold inB at h2
      simp at h2
      exact ⟨rfl, by omega, by omega⟩
theorem labCode_some {L : List Label} {i : Int} (h : labCode L i = 0) : ∃ x, at' L i = some x ∧ L[i.toNat]? = some x ∧ LabIn x := by
  obtain ⟨h1, h2, h3⟩ := labCode_zero h
  obtain ⟨x, h4, h5⟩ := at_ok h2 h3
  exact ⟨x, h4, h5, areLabs_ok h1 h5⟩
theorem impl_coveredBy (L : List Label) (i p : Int) (hL : L.length ≤ 4611686018427387903) : impl_CoveredBy L i p = some (covBy L i p) := by
  unfold impl_CoveredBy
  rw [impl_labelCode_eq L i hL]
  change ((some (labCode L i)).bind _) = _
  rw [Option.bind_some]
  by_cases hc : labCode L i = 0
  · obtain ⟨x, h1, h2, h3⟩ := labCode_some hc
    unfold covBy
    rw [h2, hc]
    cases hp : inB p 0 3
    · unfold inB at hp
      simp [impl_within, hp]
    · have hp' := hp
      unfold inB at hp
      simp only [impl_within, hp, h1, Option.bind_some]
      have : 0 ≤ p ∧ p ≤ 3 := by simp at hp; omega
      simp [impl_covered h3 this.1 this.2]
  · have hb : (labCode L i != 0) = true := by simpa using hc
    simp only [hb, cond_true]
    unfold covBy
    split <;> simp [hb]
theorem spec_coveredBy (L : List Label) (i p : Int) (hL : L.length ≤ 4611686018427387903) : spec_CoveredBy L i p = some (covBy L i p) := by
  unfold spec_CoveredBy
  rw [spec_labelCode_eq L i hL]
  change ((some (labCode L i)).bind _) = _
  rw [Option.bind_some]
  by_cases hc : labCode L i = 0
  · obtain ⟨x, h1, h2, h3⟩ := labCode_some hc
    unfold covBy
    rw [h2, hc]
    cases hp : inB p 0 3
    · unfold inB at hp
      simp [spec_l01In, hp]
    · have hp' := hp
      unfold inB at hp
      simp only [spec_l01In, hp, h1, Option.bind_some]
      have : 0 ≤ p ∧ p ≤ 3 := by simp at hp; omega
      simp [points_eq h3 this.1 this.2]
  · have hb : (labCode L i == 0) = false := by simpa using hc
    have hb2 : (labCode L i != 0) = true := by simpa using hc
    simp only [hb, cond_false, Option.bind_some, hb2, cond_true]
    unfold covBy
    split <;> simp [hb2]
end Go.Proofs.Ytnnpmbcamnnfgaa.Sh
