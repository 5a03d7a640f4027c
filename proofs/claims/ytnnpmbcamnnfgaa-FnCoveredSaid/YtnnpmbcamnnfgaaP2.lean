/- The draw functions come to an answer, in its range; no condition. -/
import Derived.Test.YtnnpmbcamnnfgaaP1
import Derived.Test.YtnnpmbcamnnfgaaGC
namespace Go.Proofs.Ytnnpmbcamnnfgaa.Sh
open Go.RowKit
/-- A source in use: it points into its code, its seed and the code's values are small. -/
def SrcOk (s : l01Source) : Prop := 0 ≤ s.at' ∧ s.at' ≤ s.code.length ∧ s.code.length ≤ 4096 ∧ (∀ x ∈ s.code, 0 ≤ x ∧ x < 256) ∧ 0 ≤ s.seed ∧ s.seed < 2147483647
theorem at_mem {α : Type} {L : List α} {i : Int} {x : α} (h : at' L i = some x) : x ∈ L := List.mem_of_getElem? (at_some h).2
theorem next_ok {s : l01Source} (hs : SrcOk s) (n : Int) (hn : n < 9223372036854775808) : ∃ x s', spec_l01Next s n = some (x, s') ∧ 0 ≤ x ∧ (x < n ∨ x = 0) ∧ SrcOk s' := by
  obtain ⟨h1, h2, h3, h4, h5, h6⟩ := hs
  unfold spec_l01Next
  by_cases hn1 : n ≤ 1
  · rw [decide_eq_true hn1]
    exact ⟨0, s, rfl, by omega, .inr rfl, h1, h2, h3, h4, h5, h6⟩
  · rw [decide_eq_false hn1, cond_false]
    have hz : nz' n = some () := nz_ok (by omega)
    have e1 : w64 (s.seed * 48271) = s.seed * 48271 := w64_id (by omega) (by omega)
    have e2 : w64 (s.seed * 48271 + 29) = s.seed * 48271 + 29 := w64_id (by omega) (by omega)
    rw [e1, e2]
    have hsd : 0 ≤ Int.tmod (s.seed * 48271 + 29) 2147483647 ∧ Int.tmod (s.seed * 48271 + 29) 2147483647 < 2147483647 := by
      rw [Int.tmod_eq_emod_of_nonneg (by omega)]; omega
    generalize Int.tmod (s.seed * 48271 + 29) 2147483647 = sd at *
    have e3 : w64 (Int.tdiv sd 31) = sd / 31 := by
      rw [Int.tdiv_eq_ediv_of_nonneg hsd.1]
      exact w64_id (by omega) (by omega)
    rw [e3]
    have fin : ∀ (y : Int) (s' : l01Source), 0 ≤ y → SrcOk s' → ∃ x s'', ((nz' n).bind fun _ => some (Int.tmod y n, s')) = some (x, s'') ∧ 0 ≤ x ∧ (x < n ∨ x = 0) ∧ SrcOk s'' := by
      intro y s' hy hs'
      rw [hz]
      refine ⟨_, _, rfl, ?_, ?_, hs'⟩
      · exact Int.tmod_nonneg _ hy
      · exact .inl (Int.tmod_lt_of_pos _ (by omega))
    by_cases hat : s.at' < (s.code.length : Int)
    · rw [decide_eq_true hat, cond_true]
      obtain ⟨x3, hx3, hg3⟩ := at_ok h1 hat
      have hb3 := h4 x3 (List.mem_of_getElem? hg3)
      have e4 : w64 (s.at' + 1) = s.at' + 1 := w64_id (by omega) (by omega)
      have e5 : w64 (s.at' + 1 - 1) = s.at' := by rw [w64_id (by omega) (by omega)]; omega
      have e6 : w64 x3 = x3 := w64_id (by omega) (by omega)
      rw [hx3, Option.bind_some, e4, e5, hx3, e6]
      have hsrc : SrcOk (l01Source.mk s.code (s.at' + 1) sd) := ⟨by simp; omega, by simp; omega, h3, h4, hsd.1, hsd.2⟩
      have e7 : w64 (sd / 31 + x3) = sd / 31 + x3 := w64_id (by omega) (by omega)
      rw [e7]
      cases (decide (n ≤ 256) && Int.tmod (s.at' + 1) 2 == 0)
      · exact fin _ _ (by omega) hsrc
      · rw [Option.bind_some, e6]
        exact fin _ _ (by omega) hsrc
    · rw [decide_eq_false hat, cond_false]
      exact fin _ _ (by omega) ⟨h1, h2, h3, h4, hsd.1, hsd.2⟩
end Go.Proofs.Ytnnpmbcamnnfgaa.Sh
