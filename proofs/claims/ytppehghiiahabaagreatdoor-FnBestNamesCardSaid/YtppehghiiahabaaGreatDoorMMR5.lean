/- Cores: minimal inconsistent choices of both; no condition but those of claims. -/
import Derived.Test.YtppehghiiahabaaGreatDoorMMR4
namespace Go.Proofs.YtppehghiiahabaaGreatDoor.Sh
open Go.RowKit Go.Lib
theorem subN_inj {n b c : Nat} (hb : b < 2 ^ n) (hc : c < 2 ^ n) (h : subN n b = subN n c) : b = c := by
  apply Nat.eq_of_testBit_eq
  intro i
  by_cases hi : i < n
  · have h1 : (i : Int) ∈ subN n b ↔ (i : Int) ∈ subN n c := by rw [h]
    rw [mem_subN, mem_subN] at h1
    rw [Bool.eq_iff_iff]
    constructor
    · intro ht
      obtain ⟨j, h2, _, h3⟩ := h1.1 ⟨i, rfl, hi, ht⟩
      rw [show i = j by omega]
      exact h3
    · intro ht
      obtain ⟨j, h2, _, h3⟩ := h1.2 ⟨i, rfl, hi, ht⟩
      rw [show i = j by omega]
      exact h3
  · have hp : 2 ^ n ≤ 2 ^ i := Nat.pow_le_pow_right (by omega) (by omega)
    rw [Nat.testBit_lt_two_pow (by omega), Nat.testBit_lt_two_pow (by omega)]
theorem outs_nodup (rep : List Int → Bool) (n : Nat) : (outs rep n (2 ^ n)).Nodup := by
  unfold outs
  show List.Pairwise _ _
  rw [List.pairwise_map]
  refine ((List.pairwise_lt_range (n := 2 ^ n)).filter _).imp_of_mem fun {a b} ha hb h e => ?_
  have h1 := List.mem_range.1 (List.mem_filter.1 ha).1
  have h2 := List.mem_range.1 (List.mem_filter.1 hb).1
  have := subN_inj h1 h2 e
  omega
theorem sort_outs {rep : List Int → Bool} {n : Nat} (hr : Rising n rep) : sortL (outs rep n (2 ^ n)) = allL rep n (n + 1) 0 [] := by
  refine cmp_unique ?_ (allL_sorted _ _ _) fun Q => ?_
  · have h1 := sortL_sorted (outs rep n (2 ^ n))
    have h2 : (sortL (outs rep n (2 ^ n))).Nodup := (sortL_perm _).nodup_iff.2 (outs_nodup rep n)
    refine (h1.and h2).imp fun {a b} h => ?_
    rcases cmpL_total h.2 with h3 | h3
    · exact h3
    · exact absurd h3 h.1
  · rw [(sortL_perm _).mem_iff, mem_outs, mem_allL hr _ _ _ (by omega) (Inc.nil _) NextAt.nil]
    exact ⟨fun ⟨h1, h3⟩ => ⟨h1, List.nil_prefix, h3⟩, fun ⟨h1, _, h3⟩ => ⟨h1, h3⟩⟩
end Go.Proofs.YtppehghiiahabaaGreatDoor.Sh
