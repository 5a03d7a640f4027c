/- The draws come to an answer, in their range; no condition but a short code. Needs GD: spec.l01From, l01Next, l01Pick. -/
import Derived.Test.YtpohkmbkohjahaaGreatDoorGA
import Derived.Test.YtpohkmbkohjahaaGreatDoorGB
import Derived.Test.YtpohkmbkohjahaaGreatDoorL0
namespace Go.Proofs.YtpohkmbkohjahaaGreatDoor.Sh
open Go.RowKit
/-- A source in use: it points into its code, its seed and the code's values are small. -/
def SrcOk (s : l01Source) : Prop := 0 ≤ s.at' ∧ s.at' ≤ s.code.length ∧ s.code.length ≤ 4096 ∧ (∀ x ∈ s.code, 0 ≤ x ∧ x < 256) ∧ 0 ≤ s.seed ∧ s.seed < 2147483647
theorem next_ok {s : l01Source} (hs : SrcOk s) (n : Int) (hn : n < 9223372036854775808) : ∃ x s', spec_l01Next s n = some (x, s') ∧ 0 ≤ x ∧ (x < n ∨ x = 0) ∧ SrcOk s' := by
  obtain ⟨h1, h2, h3, h4, h5, h6⟩ := hs
  unfold spec_l01Next
  by_cases hn1 : n ≤ 1
  · rw [decide_eq_true hn1]
    exact ⟨0, s, rfl, by omega, .inr rfl, h1, h2, h3, h4, h5, h6⟩
  · rw [decide_eq_false hn1, cond_false]
    have hz : nz' n = some () := nz_ok (by omega)
    have e1 : w64 (s.seed * 48271) = s.seed * 48271 := w64_id (by omega) (by omega)
    have e2 : w64 (s.seed * 48271 + 29) = s.seed * 48271 + 29 := w64_id (by omega) (by omega)
    rw [e1, e2]
    have hsd : 0 ≤ Int.tmod (s.seed * 48271 + 29) 2147483647 ∧ Int.tmod (s.seed * 48271 + 29) 2147483647 < 2147483647 := by
      rw [Int.tmod_eq_emod_of_nonneg (by omega)]; omega
    generalize Int.tmod (s.seed * 48271 + 29) 2147483647 = sd at *
    have e3 : w64 (Int.tdiv sd 31) = sd / 31 := by
      rw [Int.tdiv_eq_ediv_of_nonneg hsd.1]
      exact w64_id (by omega) (by omega)
    rw [e3]
    have fin : ∀ (y : Int) (s' : l01Source), 0 ≤ y → SrcOk s' → ∃ x s'', ((nz' n).bind fun _ => some (Int.tmod y n, s')) = some (x, s'') ∧ 0 ≤ x ∧ (x < n ∨ x = 0) ∧ SrcOk s'' := by
      intro y s' hy hs'
      rw [hz]
      exact ⟨_, _, rfl, Int.tmod_nonneg _ hy, .inl (Int.tmod_lt_of_pos _ (by omega)), hs'⟩
    by_cases hat : s.at' < (s.code.length : Int)
    · rw [decide_eq_true hat, cond_true]
      obtain ⟨x3, hx3, hg3⟩ := at_ok h1 hat
      have hb3 := h4 x3 (List.mem_of_getElem? hg3)
      have e4 : w64 (s.at' + 1) = s.at' + 1 := w64_id (by omega) (by omega)
      have e5 : w64 (s.at' + 1 - 1) = s.at' := by rw [w64_id (by omega) (by omega)]; omega
      have e6 : w64 x3 = x3 := w64_id (by omega) (by omega)
      rw [hx3, Option.bind_some, e4, e5, hx3, e6]
      have hsrc : SrcOk (l01Source.mk s.code (s.at' + 1) sd) := ⟨by simp; omega, by simp; omega, h3, h4, hsd.1, hsd.2⟩
      have e7 : w64 (sd / 31 + x3) = sd / 31 + x3 := w64_id (by omega) (by omega)
      rw [e7]
      cases (decide (n ≤ 256) && Int.tmod (s.at' + 1) 2 == 0)
      · exact fin _ _ (by omega) hsrc
      · rw [cond_true, Option.bind_some, e6]
        exact fin _ _ (by omega) hsrc
    · rw [decide_eq_false hat, cond_false]
      exact fin _ _ (by omega) ⟨h1, h2, h3, h4, hsd.1, hsd.2⟩
def CodeOk (c : List Int) : Prop := c.length ≤ 4096 ∧ ∀ x ∈ c, 0 ≤ x ∧ x < 256
theorem from_ok {c : List Int} (hc : CodeOk c) : ∃ s, spec_l01From c = some s ∧ SrcOk s := by
  unfold spec_l01From forH
  generalize hb : loop _ _ = m
  have key : ∃ r, m = some r ∧ SrcOk r := by
    rw [← hb]
    refine loop_inv (fun s : Int × l01Source => 0 ≤ s.1 ∧ s.1 ≤ 64 ∧ SrcOk s.2) (fun s => (64 - s.1).toNat) SrcOk (fun s hs => ?_) ⟨by simp, by simp, by simp, by simp, hc.1, hc.2, by simp, by simp⟩
    obtain ⟨h0, h64, h1, h2, h3, h4, h5, h6⟩ := hs
    by_cases hb : s.1 < (c.length : Int) ∧ s.1 < 64
    · left
      obtain ⟨x, hx, hg⟩ := at_ok h0 hb.1
      have hxb := hc.2 x (List.mem_of_getElem? hg)
      have e1 : w64 (s.2.seed * 73) = s.2.seed * 73 := w64_id (by omega) (by omega)
      have e2 : w64 x = x := w64_id (by omega) (by omega)
      have e3 : w64 (s.2.seed * 73 + x) = s.2.seed * 73 + x := w64_id (by omega) (by omega)
      have e4 : w64 (s.1 + 1) = s.1 + 1 := w64_id (by omega) (by omega)
      refine ⟨(s.1 + 1, l01Source.mk s.2.code s.2.at' (Int.tmod (s.2.seed * 73 + x) 2147483647)), ?_, ⟨?_, ?_, h1, h2, h3, h4, ?_, ?_⟩, ?_⟩
      · simp only [hb.1, hb.2, decide_true, Bool.and_self, cond_true, hx, Option.bind_some, e1, e2, e3, e4]
      · dsimp only; omega
      · dsimp only; omega
      · dsimp only
        rw [Int.tmod_eq_emod_of_nonneg (by omega)]; omega
      · dsimp only
        rw [Int.tmod_eq_emod_of_nonneg (by omega)]; omega
      · dsimp only; omega
    · right
      refine ⟨s.2, ?_, h1, h2, h3, h4, h5, h6⟩
      have : (decide (s.1 < (c.length : Int)) && decide (s.1 < 64)) = false := by
        rw [Bool.and_eq_false_iff]
        by_cases h7 : s.1 < (c.length : Int)
        · exact .inr (by simp; omega)
        · exact .inl (by simpa using h7)
      simp only [this, cond_false]
  clear hb
  obtain ⟨r, rfl, h⟩ := key
  exact ⟨r, rfl, h⟩
theorem pick_ok {s : l01Source} (hs : SrcOk s) {l : List Int} (hl : l ≠ []) (hl2 : l.length ≤ 4096) : ∃ x s', spec_l01Pick s l = some (x, s') ∧ x ∈ l ∧ SrcOk s' := by
  unfold spec_l01Pick
  have h0 : 0 < l.length := List.length_pos_iff.2 hl
  obtain ⟨x, s', h1, h2, h3, h4⟩ := next_ok hs (l.length : Int) (by omega)
  rw [h1, Option.bind_some]
  obtain ⟨y, hy, hg⟩ := at_ok (L := l) h2 (by omega)
  rw [hy]
  exact ⟨y, s', rfl, List.mem_of_getElem? hg, h4⟩
/-- One of some things, by a number that was drawn below their number. -/
theorem one_of {α : Type} (L : List α) {i : Int} (h0 : 0 ≤ i) (h : i < L.length ∨ i = 0) (hL : 0 < L.length) : ∃ y, at' L i = some y ∧ y ∈ L := by
  obtain ⟨y, hy, hg⟩ := at_ok (L := L) h0 (by omega)
  exact ⟨y, hy, List.mem_of_getElem? hg⟩
end Go.Proofs.YtpohkmbkohjahaaGreatDoor.Sh
