/- The stable sort of the program, as an order by keys; no condition but labels. -/
import Derived.Test.YtlhllbiikideeaaLB5
namespace Go.Proofs.Ytlhllbiikideeaa.Sh
open Go.RowKit
def ic (i : Nat) : Int := (i : Int)
/-- A label's priority, by its number. -/
def keyL (L : List Label) (i : Nat) : Int := ((L[i]?).map Label.Priority).getD 0
theorem keyL_at {L : List Label} {i : Nat} {x : Label} (h : L[i]? = some x) : keyL L i = x.Priority := by
  unfold keyL
  rw [h]
  rfl
theorem cmp_lt (a b : Int) : ∃ c, cmp_Compare_int64 a b = some c ∧ decide (c < 0) = decide (a < b) := by
  unfold cmp_Compare_int64 cmp_isNaN_int64
  simp only [bne_self_eq_false, Option.bind_some, cond_false]
  by_cases h : a < b
  · rw [decide_eq_true h]
    exact ⟨-1, rfl, rfl⟩
  · rw [decide_eq_false h]
    cases decide (a > b)
    · exact ⟨0, rfl, rfl⟩
    · exact ⟨1, rfl, rfl⟩
theorem less_eq {L : List Label} {x y : Nat} (hx : x < L.length) (hy : y < L.length) : ((impl_GreedyPlacement_1 (ic x) (ic y) L).bind fun x9 => some (decide (x9 < 0))) = some (decide (keyL L y < keyL L x)) := by
  unfold impl_GreedyPlacement_1 ic
  rw [at_nat, List.getElem?_eq_getElem hy, Option.bind_some, at_nat, List.getElem?_eq_getElem hx, Option.bind_some]
  obtain ⟨c, h1, h2⟩ := cmp_lt L[y].Priority L[x].Priority
  rw [h1, keyL_at (List.getElem?_eq_getElem hy), keyL_at (List.getElem?_eq_getElem hx), ← h2]
  rfl
/-- One element goes to its place. -/
theorem bubble {L : List Label} (hL : L.length ≤ 6) {x : Nat} (hx : x < L.length) : ∀ (m : Nat) (A C : List Nat), A.length = m → m ≤ 1000 → (∀ y ∈ A, y < L.length) →
    ∃ F G, A = F ++ G ∧ (∀ y ∈ G, keyL L y < keyL L x) ∧ (∀ y, F.getLast? = some y → keyL L x ≤ keyL L y) ∧
    loop (fun (s5 : Int × (List Int)) => (((bif (decide (s5.1 > 0)) then ((at' s5.2 s5.1).bind fun x7 => ((at' s5.2 (w64 (s5.1 - 1))).bind fun x8 => ((impl_GreedyPlacement_1 x7 x8 L).bind fun x9 => some (decide (x9 < 0))))) else some false)).bind fun (j10 : Bool) => (bif j10 then ((((at' s5.2 (w64 (s5.1 - 1))).bind fun x14 => ((at' s5.2 s5.1).bind fun x15 => ((at' s5.2 s5.1).bind fun _ => ((at' (List.set s5.2 (Int.toNat s5.1) x14) (w64 (s5.1 - 1))).bind fun _ => some (List.set (List.set s5.2 (Int.toNat s5.1) x14) (Int.toNat (w64 (s5.1 - 1))) x15)))))).bind fun (j12 : (List Int)) => some (.inl ((w64 (s5.1 - 1)), j12))) else some (.inr s5.2)))) ((A.length : Int), (A ++ x :: C).map ic) = some ((F ++ x :: (G ++ C)).map ic)
  | 0, A, C, hm, _, _ => by
    have : A = [] := List.length_eq_zero_iff.1 hm
    subst this
    refine ⟨[], [], rfl, by simp, by simp, ?_⟩
    rw [loop_eq]
    rfl
  | m + 1, A, C, hm, hm2, hA => by
    obtain ⟨B, y, rfl⟩ : ∃ B y, A = B ++ [y] := by
      rcases List.eq_nil_or_concat A with rfl | ⟨B, y, h⟩
      · simp at hm
      · exact ⟨B, y, by simpa using h⟩
    have hB : B.length = m := by simp at hm; omega
    have hy : y < L.length := hA y (by simp)
    have e1 : ((B ++ [y]).length : Int) = (B.length : Int) + 1 := by simp
    have e2 : w64 ((B.length : Int) + 1 - 1) = (B.length : Int) := by rw [w64_id (by omega) (by omega)]; omega
    have e0 : (B ++ [y] ++ x :: C).map ic = B.map ic ++ ic y :: ic x :: C.map ic := by simp
    have g1 : at' (B.map ic ++ ic y :: ic x :: C.map ic) ((B.length : Int) + 1) = some (ic x) := by
      rw [show (B.length : Int) + 1 = ((B.length + 1 : Nat) : Int) by omega, at_nat, List.getElem?_append_right (by simp)]
      simp
    have g2 : at' (B.map ic ++ ic y :: ic x :: C.map ic) (B.length : Int) = some (ic y) := by
      rw [at_nat, List.getElem?_append_right (by simp)]
      simp
    have t1 : Int.toNat ((B.length : Int) + 1) = B.length + 1 := by omega
    have s1 : (B.map ic ++ ic y :: ic x :: C.map ic).set (B.length + 1) (ic y) = B.map ic ++ ic y :: ic y :: C.map ic := by
      rw [List.set_append_right _ _ (by simp)]
      simp
    have s2 : (B.map ic ++ ic y :: ic y :: C.map ic).set B.length (ic x) = B.map ic ++ ic x :: ic y :: C.map ic := by
      rw [List.set_append_right _ _ (by simp)]
      simp
    have g3 : at' (B.map ic ++ ic y :: ic y :: C.map ic) (B.length : Int) = some (ic y) := by
      rw [at_nat, List.getElem?_append_right (by simp)]
      simp
    rw [e1, e0]
    by_cases hlt : keyL L y < keyL L x
    · obtain ⟨F, G, h1, h2, h3, h4⟩ := bubble hL hx m B (y :: C) hB (by omega) (fun z hz => hA z (by simp [hz]))
      refine ⟨F, G ++ [y], by rw [h1]; simp, fun z hz => ?_, h3, ?_⟩
      · rcases List.mem_append.1 hz with hz | hz
        · exact h2 z hz
        · rw [List.mem_singleton.1 hz]; exact hlt
      · rw [loop_eq]
        have hg : decide ((B.length : Int) + 1 > 0) = true := decide_eq_true (by omega)
        simp only [hg, cond_true, g1, e2, g2, Option.bind_some, less_eq hx hy, decide_eq_true hlt, t1, s1, g3, Int.toNat_natCast, s2]
        have e3 : B.map ic ++ ic x :: ic y :: C.map ic = (B ++ x :: y :: C).map ic := by simp
        rw [e3, h4]
        simp
    · refine ⟨B ++ [y], [], by simp, by simp, fun z hz => ?_, ?_⟩
      · simp at hz
        subst hz
        omega
      · rw [loop_eq]
        have hg : decide ((B.length : Int) + 1 > 0) = true := decide_eq_true (by omega)
        simp only [hg, cond_true, g1, e2, g2, Option.bind_some, less_eq hx hy, decide_eq_false hlt, cond_false]
        simp
theorem insertion_eq {L : List Label} (hL : L.length ≤ 6) (hA : ∀ x ∈ L, LabIn x) : slices_insertionSortCmpFunc_int_impl_GreedyPlacement_1 ((List.range L.length).map ic) 0 (L.length : Int) L = some ((ordN (keyL L) L.length).map ic) := by
  have hk : ∀ i, i < L.length → 1 ≤ keyL L i ∧ keyL L i ≤ 9 := fun i hi => by
    rw [keyL_at (List.getElem?_eq_getElem hi)]
    exact (hA _ (List.getElem_mem hi)).p
  unfold slices_insertionSortCmpFunc_int_impl_GreedyPlacement_1
  have e1 : w64 (0 + 1) = 1 := by rw [w64_id (by omega) (by omega)]; rfl
  rw [e1]
  have key : ∀ (m k : Nat), k + m = L.length → 1 ≤ k → loop (fun (z : Int × List Int) => bif (decide (z.1 < (L.length : Int))) then ((fun (i1 : Int) (s1 : (List Int)) => (loop (fun (s5 : Int × (List Int)) => (((bif (decide (s5.1 > 0)) then ((at' s5.2 s5.1).bind fun x7 => ((at' s5.2 (w64 (s5.1 - 1))).bind fun x8 => ((impl_GreedyPlacement_1 x7 x8 L).bind fun x9 => some (decide (x9 < 0))))) else some false)).bind fun (j10 : Bool) => (bif j10 then ((((at' s5.2 (w64 (s5.1 - 1))).bind fun x14 => ((at' s5.2 s5.1).bind fun x15 => ((at' s5.2 s5.1).bind fun _ => ((at' (List.set s5.2 (Int.toNat s5.1) x14) (w64 (s5.1 - 1))).bind fun _ => some (List.set (List.set s5.2 (Int.toNat s5.1) x14) (Int.toNat (w64 (s5.1 - 1))) x15)))))).bind fun (j12 : (List Int)) => some (.inl ((w64 (s5.1 - 1)), j12))) else some (.inr s5.2)))) (i1, s1))) z.1 z.2).bind (fun (j : List Int) => some (.inl (w64 (z.1 + 1), j))) else some (.inr ((fun (s1 : List Int) => s1) z.2))) ((k : Int), (ordN (keyL L) k ++ List.range' k m).map ic) = some ((ordN (keyL L) L.length).map ic) := by
    intro m
    induction m with
    | zero =>
      intro k hkm _
      obtain rfl : k = L.length := by omega
      rw [loop_eq]
      dsimp only
      rw [decide_eq_false (by omega), cond_false]
      simp
    | succ m ih =>
      intro k hkm h1
      have hkl : k < L.length := by omega
      have hln := ord_len (key := keyL L) (n := k) fun i hi => hk i (by omega)
      obtain ⟨F, G, q1, q2, q3, q4⟩ := bubble hL hkl k (ordN (keyL L) k) (List.range' (k + 1) m) hln (by omega) (fun y hy => by have := ord_mem hy; omega)
      obtain ⟨A, B, o1, o2, o3, o4⟩ := ord_succ (keyL L) k (hk k hkl).1 (hk k hkl).2
      obtain ⟨c1, c2⟩ := cut_one (p := fun y => keyL L k ≤ keyL L y) (A := A) (B := B) (C := F) (D := G) (by rw [← o1, q1]) o3 (fun y hy => by have := o4 y hy; omega) (fun y hy => by have := q2 y hy; omega) q3
      rw [loop_eq]
      dsimp only
      rw [decide_eq_true (by omega), cond_true, List.range'_succ]
      rw [hln] at q4
      rw [q4, Option.bind_some, w64_id (by omega) (by omega)]
      dsimp only
      have e2 : F ++ k :: (G ++ List.range' (k + 1) m) = ordN (keyL L) (k + 1) ++ List.range' (k + 1) m := by
        rw [o2, c1, c2]
        simp
      rw [e2]
      exact ih (k + 1) (by omega) (by omega)
  by_cases h0 : L.length = 0
  · rw [h0]
    unfold forS
    rw [loop_eq]
    rfl
  · have := key (L.length - 1) 1 (by omega) (by omega)
    obtain ⟨A, B, o1, o2, _, _⟩ := ord_succ (keyL L) 0 (hk 0 (by omega)).1 (hk 0 (by omega)).2
    have hn : A = [] ∧ B = [] := by
      have : ordN (keyL L) 0 = [] := rfl
      rw [this] at o1
      exact List.append_eq_nil_iff.1 o1.symm
    have e2 : ordN (keyL L) 1 ++ List.range' 1 (L.length - 1) = List.range L.length := by
      rw [o2, hn.1, hn.2, List.range_eq_range', show L.length = L.length - 1 + 1 by omega, List.range'_succ]
      simp
    rw [e2] at this
    exact this
theorem sort_eq {L : List Label} (hL : L.length ≤ 6) (hA : ∀ x ∈ L, LabIn x) : slices_SortStableFunc_int_impl_GreedyPlacement_1 ((List.range L.length).map ic) L = some ((ordN (keyL L) L.length).map ic) := by
  unfold slices_SortStableFunc_int_impl_GreedyPlacement_1 slices_stableCmpFunc_int_impl_GreedyPlacement_1
  have el : ((((List.range L.length).map ic).length : Nat) : Int) = (L.length : Int) := by simp
  have d1 : decide ((20 : Int) ≤ (L.length : Int)) = false := decide_eq_false (by omega)
  have d2 : decide ((20 : Int) < (L.length : Int)) = false := decide_eq_false (by omega)
  rw [el, loop_eq]
  simp only [d1, cond_false, Option.bind_some, insertion_eq hL hA]
  rw [loop_eq]
  simp only [d2, cond_false, Option.bind_some]
end Go.Proofs.Ytlhllbiikideeaa.Sh
