/- Plain lemmas on loops, lists and 64-bit numbers as the typed functions use them; no condition. -/
import Derived.Test.YtnnpmbcamnnfgaaS26
namespace Go.Proofs.Ytnnpmbcamnnfgaa.Sh
open Go.RowKit
/-- A loop comes to its end where an invariant holds and a measure falls. -/
theorem loop_inv {α A : Type} {body : α → Option (α ⊕ A)} (I : α → Prop) (μ : α → Nat) (Q : A → Prop)
    (h : ∀ s, I s → (∃ s', body s = some (.inl s') ∧ I s' ∧ μ s' < μ s) ∨ ∃ r, body s = some (.inr r) ∧ Q r) {s : α} (hs : I s) : ∃ r, loop body s = some r ∧ Q r := by
  generalize hm : μ s = m
  induction m using Nat.strongRecOn generalizing s with
  | _ m ih =>
    rcases h s hs with ⟨s', h1, h2, h3⟩ | ⟨r, h1, h2⟩
    · rw [loop_eq, h1]
      exact ih _ (by omega) h2 rfl
    · rw [loop_eq, h1]
      exact ⟨r, rfl, h2⟩
/-- A loop that counts up, and leaves early where a test holds. -/
theorem loop_search {A : Type} {body : Int → Option (Int ⊕ A)} (N : Nat) (p : Nat → Bool) (yes : Nat → A) (no : A)
    (h : ∀ i : Nat, i < N → body i = some (bif p i then .inr (yes i) else .inl ((i + 1 : Nat) : Int))) (he : body N = some (.inr no)) :
    loop body 0 = some (match (List.range N).find? p with | some i => yes i | none => no) := by
  have key : ∀ d i : Nat, i + d = N → (∀ j, j < i → p j = false) → loop body i = some (match (List.range N).find? p with | some i => yes i | none => no) := by
    intro d
    induction d with
    | zero =>
      intro i hi hp
      have : i = N := by omega
      subst this
      rw [loop_eq, he]
      have : (List.range i).find? p = none := by
        rw [List.find?_eq_none]
        intro j hj
        rw [hp j (List.mem_range.1 hj)]
        simp
      rw [this]
    | succ d ih =>
      intro i hi hp
      rw [loop_eq, h i (by omega)]
      cases hb : p i with
      | true =>
        have : (List.range N).find? p = some i := by
          rw [List.find?_range_eq_some]
          refine ⟨hb, List.mem_range.2 (by omega), fun j hj => ?_⟩
          rw [hp j hj]
          rfl
        rw [this]
        rfl
      | false =>
        refine ih (i + 1) (by omega) fun j hj => ?_
        rcases Nat.lt_succ_iff_lt_or_eq.1 hj with h1 | h1
        · exact hp j h1
        · rw [h1]; exact hb
  exact key N 0 (by omega) (fun j hj => by omega)
theorem w64_eq (n : Int) : w64 n = (n + 9223372036854775808) % 18446744073709551616 - 9223372036854775808 := by
  unfold w64
  rw [IntKind.wrap_i64]
theorem w64_id {n : Int} (h : -9223372036854775808 ≤ n) (k : n < 9223372036854775808) : w64 n = n := by
  rw [w64_eq]; omega
theorem w64_lo (n : Int) : -9223372036854775808 ≤ w64 n := by
  rw [w64_eq]; omega
theorem w64_hi (n : Int) : w64 n < 9223372036854775808 := by
  rw [w64_eq]; omega
theorem at_ok {α : Type} {L : List α} {i : Int} (h0 : 0 ≤ i) (h : i < L.length) : ∃ x, at' L i = some x ∧ L[i.toNat]? = some x := by
  have hl : i.toNat < L.length := by omega
  refine ⟨L[i.toNat], ?_, List.getElem?_eq_getElem hl⟩
  unfold at'
  rw [if_pos h0, List.getElem?_eq_getElem hl]
theorem at_nat {α : Type} {L : List α} (i : Nat) : at' L (i : Int) = L[i]? := by
  unfold at'
  rw [if_pos (by omega)]
  simp
theorem app_ok {α : Type} {L M : List α} (h : L.length + M.length ≤ 68719476736) : app' L M = some (L ++ M) := by
  unfold app'
  rw [if_pos h]
theorem nz_ok {y : Int} (h : y ≠ 0) : nz' y = some () := by
  unfold nz'
  rw [if_neg h]
end Go.Proofs.Ytnnpmbcamnnfgaa.Sh
