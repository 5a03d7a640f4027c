/- The program's AreLabels answers as the reference's; no condition but a list's length. -/
import Derived.Test.YtnnpmbcamnnfgaaP3
namespace Go.Proofs.Ytnnpmbcamnnfgaa.Sh
open Go.RowKit
theorem find_congr {N : Nat} {p q : Nat → Bool} (h : ∀ j, j < N → p j = q j) : (List.range N).find? p = (List.range N).find? q := by
  have : ∀ l : List Nat, (∀ j ∈ l, p j = q j) → l.find? p = l.find? q := by
    intro l
    induction l with
    | nil => intro _; rfl
    | cons a l ih =>
      intro hl
      rw [List.find?_cons, List.find?_cons, hl a List.mem_cons_self, ih fun j hj => hl j (List.mem_cons_of_mem _ hj)]
  exact this _ fun j hj => h j (List.mem_range.1 hj)
theorem impl_isAt_eq (L : List Label) (p : Point) (hL : L.length ≤ 4611686018427387903) : impl_isAt L p = some (((List.range L.length).find? (sameIn L p)).isSome) := by
  unfold impl_isAt slices_ContainsFunc_Label_impl_isAt_1 slices_IndexFunc_Label_impl_isAt_1
  rw [loop_search L.length (sameIn L p) (fun i => Sum.inr (i : Int)) (Sum.inl ())]
  · cases hf : (List.range L.length).find? (sameIn L p)
    · simp
    · simp
  · intro i hi
    have hs : sameIn L p i = (L[i].At.X == p.X && L[i].At.Y == p.Y) := by
      unfold sameIn sameAt
      rw [List.getElem?_eq_getElem hi]
    simp only [lt_nat hi, cond_true, at_lt hi, Option.bind_some, impl_isAt_1, hs]
    cases (L[i].At.X == p.X && L[i].At.Y == p.Y)
    · simp [w64_succ (show i < 4611686018427387904 by omega)]
    · simp
  · simp
theorem part_take {α : Type} {L : List α} {i : Nat} (h : i ≤ L.length) : part' L 0 (i : Int) = some (L.take i) := by
  unfold part'
  rw [if_pos (by omega)]
  simp
theorem impl_areLabels (L : List Label) (hL : L.length ≤ 4611686018427387903) : impl_AreLabels L = some (areLabs L) := by
  unfold impl_AreLabels
  rw [loop_search L.length (badAt L) (fun _ => Sum.inr false) (Sum.inl ())]
  · unfold areLabs
    cases (List.range L.length).find? (badAt L) <;> simp
  · intro i hi
    simp only [lt_nat hi, cond_true, at_lt hi, Option.bind_some, impl_isPoint]
    have hb : badAt L i = (!labOk L[i] || ((List.range i).find? (sameIn L L[i].At)).isSome) := by
      unfold badAt
      rw [List.getElem?_eq_getElem hi]
    rw [hb]
    unfold labOk
    cases ptOk L[i].At
    · simp
    · simp only [Bool.not_true, cond_false, impl_within, Option.bind_some, Bool.true_and]
      cases h1 : (decide (L[i].Length ≥ 1) && decide (L[i].Length ≤ 20))
      · simp [inB, h1]
      · simp only [Bool.not_true, cond_false, Option.bind_some]
        cases h2 : (decide (L[i].Priority ≥ 1) && decide (L[i].Priority ≤ 9))
        · simp [inB, h1, h2]
        · simp only [Bool.not_true, cond_false]
          rw [part_take (by omega), Option.bind_some, impl_isAt_eq _ _ (by simp; omega)]
          have hlen : (L.take i).length = i := by simp; omega
          rw [hlen, find_congr (q := sameIn L L[i].At) (fun j hj => by
            unfold sameIn
            rw [List.getElem?_take_of_lt hj])]
          simp only [inB, h1, h2]
          cases (List.range i).find? (sameIn L L[i].At)
          · simp [w64_succ (show i < 4611686018427387904 by omega)]
          · simp
  · simp
theorem impl_labelCode_eq (L : List Label) (i : Int) (hL : L.length ≤ 4611686018427387903) : impl_labelCode L i = some (bif !areLabs L then 1 else bif !inB i 0 ((L.length : Int) - 1) then 2 else 0) := by
  unfold impl_labelCode impl_length_Label impl_within
  rw [impl_areLabels L hL]
  have e : w64 ((L.length : Int) - 1) = (L.length : Int) - 1 := w64_id (by omega) (by omega)
  simp only [Option.bind_some, inB, e]
  cases areLabs L
  · simp
  · cases h : (decide (i ≥ 0) && decide (i ≤ (L.length : Int) - 1)) <;> simp [h]
theorem spec_labelCode_eq (L : List Label) (i : Int) (hL : L.length ≤ 4611686018427387903) : spec_l33Code L i = some (bif !areLabs L then 1 else bif !inB i 0 ((L.length : Int) - 1) then 2 else 0) := by
  unfold spec_l33Code spec_l01In
  rw [spec_areLabels L hL]
  have e : w64 ((L.length : Int) - 1) = (L.length : Int) - 1 := w64_id (by omega) (by omega)
  simp only [Option.bind_some, inB, e]
  cases areLabs L
  · simp
  · cases h : (decide (i ≥ 0) && decide (i ≤ (L.length : Int) - 1)) <;> simp [h]
end Go.Proofs.Ytnnpmbcamnnfgaa.Sh
