/- Both forms of isAllowed answer alike; no condition but allowed labels. -/
import Derived.Test.YtnnpmbcamnnfgaaP10
namespace Go.Proofs.Ytnnpmbcamnnfgaa.Sh
open Go.RowKit
theorem mem_cov {l : Label} (hl : LabIn l) {p : Int} (hp : 0 ≤ p) (hp2 : p ≤ 3) (q : Point) : q ∈ covP l p ↔ covB l p q = true := by
  obtain ⟨h1, h2, h3, h4, h5, h6, h7, h8⟩ := hl
  unfold covP covB rowX rowY inB
  rw [List.mem_map]
  have : p = 0 ∨ p = 1 ∨ p = 2 ∨ p = 3 := by omega
  obtain ⟨x, y⟩ := q
  constructor
  · rintro ⟨k, hk, he⟩
    have hk := List.mem_range.1 hk
    injection he with e1 e2
    subst e1 e2
    rcases this with rfl | rfl | rfl | rfl <;> simp <;> omega
  · intro h
    rcases this with rfl | rfl | rfl | rfl <;> simp at h
    · exact ⟨(x - l.At.X - 1).toNat, List.mem_range.2 (by omega), by simp; omega⟩
    · exact ⟨(x - l.At.X + l.Length).toNat, List.mem_range.2 (by omega), by simp; omega⟩
    · exact ⟨(x - l.At.X + l.Length).toNat, List.mem_range.2 (by omega), by simp; omega⟩
    · exact ⟨(x - l.At.X - 1).toNat, List.mem_range.2 (by omega), by simp; omega⟩
def allowB (L : List Label) (l : Label) (p : Int) : Bool := !(L.any fun x => covB l p x.At)
theorem find_any {α : Type} (L : List α) (f : α → Bool) (p : Nat → Bool) (hp : ∀ i (h : i < L.length), p i = f L[i]) : ((List.range L.length).find? p).isSome = L.any f := by
  rw [Bool.eq_iff_iff, List.find?_isSome, List.any_eq_true]
  constructor
  · rintro ⟨i, hi, h⟩
    have hi := List.mem_range.1 hi
    exact ⟨L[i], List.getElem_mem hi, by rw [← hp i hi]; exact h⟩
  · rintro ⟨x, hx, h⟩
    obtain ⟨i, hi, rfl⟩ := List.getElem_of_mem hx
    exact ⟨i, List.mem_range.2 hi, by rw [hp i hi]; exact h⟩
theorem spec_allowed {L : List Label} (hL : L.length ≤ 4611686018427387903) (hA : ∀ x ∈ L, LabIn x) {l : Label} (hl : LabIn l) (p : Int) : spec_l33Allowed L l p = some (allowB L l p) := by
  unfold spec_l33Allowed
  rw [loop_search L.length (fun i => match L[i]? with | some x => covB l p x.At | none => false) (fun _ => Sum.inr false) (Sum.inl ())]
  · have h := find_any L (fun x => covB l p x.At) (fun i => match L[i]? with | some x => covB l p x.At | none => false) (fun i hi => by rw [List.getElem?_eq_getElem hi])
    unfold allowB
    rw [← h]
    cases (List.range L.length).find? _ <;> simp
  · intro i hi
    have hx := hA L[i] (List.getElem_mem hi)
    obtain ⟨h1, h2, h3, h4, h5, h6, h7, h8⟩ := hx
    simp only [lt_nat hi, cond_true, at_lt hi, Option.bind_some, spec_covers hl p (show -100000 ≤ L[i].At.X by omega) (by omega) (show -100000 ≤ L[i].At.Y by omega) (by omega), List.getElem?_eq_getElem hi]
    cases covB l p L[i].At
    · simp [w64_succ (show i < 4611686018427387904 by omega)]
    · simp
  · simp
theorem sameIn_any (L : List Label) (q : Point) : ((List.range L.length).find? (sameIn L q)).isSome = L.any fun x => sameAt x.At q :=
  find_any L _ _ fun i hi => by unfold sameIn; rw [List.getElem?_eq_getElem hi]
theorem impl_allowed {L : List Label} (hL : L.length ≤ 4611686018427387903) {l : Label} (hl : LabIn l) {p : Int} (hp : 0 ≤ p) (hp2 : p ≤ 3) : impl_isAllowed L l p = some (allowB L l p) := by
  unfold impl_isAllowed slices_ContainsFunc_Point_impl_isAllowed_1 slices_IndexFunc_Point_impl_isAllowed_1
  rw [impl_covered hl hp hp2, Option.bind_some]
  have hlen : (covP l p).length ≤ 20 := by
    obtain ⟨h1, h2, h3, h4, h5, h6, h7, h8⟩ := hl
    unfold covP
    rw [List.length_map, List.length_range]
    omega
  rw [loop_search (covP l p).length (fun i => match (covP l p)[i]? with | some q => L.any fun x => sameAt x.At q | none => false) (fun i => Sum.inr (i : Int)) (Sum.inl ())]
  · have h := find_any (covP l p) (fun q => L.any fun x => sameAt x.At q) (fun i => match (covP l p)[i]? with | some q => L.any fun x => sameAt x.At q | none => false) (fun i hi => by rw [List.getElem?_eq_getElem hi])
    have h2 : ((covP l p).any fun q => L.any fun x => sameAt x.At q) = L.any fun x => covB l p x.At := by
      rw [Bool.eq_iff_iff, List.any_eq_true, List.any_eq_true]
      constructor
      · rintro ⟨q, hq, h⟩
        obtain ⟨x, hx, h⟩ := List.any_eq_true.1 h
        refine ⟨x, hx, ?_⟩
        have : x.At = q := by
          unfold sameAt at h
          simp at h
          obtain ⟨⟨a, b⟩, c, d⟩ := x
          obtain ⟨e, f⟩ := q
          simp at h
          simp [h]
        rw [this]
        exact (mem_cov hl hp hp2 q).1 hq
      · rintro ⟨x, hx, h⟩
        exact ⟨x.At, (mem_cov hl hp hp2 x.At).2 h, List.any_eq_true.2 ⟨x, hx, by simp [sameAt]⟩⟩
    unfold allowB
    rw [← h2, ← h]
    cases (List.range (covP l p).length).find? _ <;> simp
  · intro i hi
    simp only [lt_nat hi, cond_true, at_lt hi, Option.bind_some, impl_isAllowed_1, impl_isAt_eq L _ hL, List.getElem?_eq_getElem hi, sameIn_any]
    cases L.any fun x => sameAt x.At (covP l p)[i]
    · simp [w64_succ (show i < 4611686018427387904 by omega)]
    · simp
  · simp
end Go.Proofs.Ytnnpmbcamnnfgaa.Sh
