/- Plain laws: ranked answers, of both; a question without an error. -/
import Derived.Test.YtodgenjlhiiieaaGreatDoorBLC6
import Derived.Test.YtodgenjlhiiieaaGreatDoorIS
namespace Go.Proofs.YtodgenjlhiiieaaGreatDoor.Sh
open Go.RowKit Go.Lib
def keyA (a : Answer) : Int := w64 ((w64 (10 * a.Satisfied)) - a.Distance)
def befB (a b : Answer) : Bool := decide (keyA a > keyA b) || ((keyA a == keyA b) && ltB a.Code b.Code)
theorem before_eq (a b : Answer) : spec_l30Before a b = some (befB a b) := rfl
theorem befB_iff {a b : Answer} : befB a b = true ↔ keyA b < keyA a ∨ (keyA a = keyA b ∧ ltB a.Code b.Code = true) := by
  unfold befB
  simp
theorem befB_trans (a b c : Answer) (h : befB a b = true) (k : befB b c = true) : befB a c = true := by
  rw [befB_iff] at *
  rcases h with h | ⟨h, h2⟩
  · rcases k with k | ⟨k, _⟩
    · exact .inl (by omega)
    · exact .inl (by omega)
  · rcases k with k | ⟨k, k2⟩
    · exact .inl (by omega)
    · exact .inr ⟨by omega, ltB_trans h2 k2⟩
theorem befB_irr (a : Answer) : befB a a = false := by
  rw [Bool.eq_false_iff, ne_eq, befB_iff]
  rintro (h | ⟨_, h⟩)
  · omega
  · rw [ltB_irrefl] at h
    cases h
theorem befB_asym (a b : Answer) (h : befB a b = true) : befB b a = false := by
  cases k : befB b a with
  | false => rfl
  | true =>
    have := befB_trans a b a h k
    rw [befB_irr] at this
    cases this
theorem befB_total {a b : Answer} (h : a.Code ≠ b.Code) : befB a b = true ∨ befB b a = true := by
  rw [befB_iff, befB_iff]
  rcases Int.lt_trichotomy (keyA a) (keyA b) with k | k | k
  · exact .inr (.inl k)
  · cases h1 : ltB a.Code b.Code with
    | true => exact .inl (.inr ⟨k, rfl⟩)
    | false =>
      cases h2 : ltB b.Code a.Code with
      | true => exact .inr (.inr ⟨k.symm, rfl⟩)
      | false =>
        have := bl_total h1 h2
        exact absurd (beqL.1 (by rw [this]; exact beq_self_eq_true _)) h
  · exact .inl (.inl k)
theorem cmp_int (a b : Int) : ∃ c, cmp_Compare_int64 a b = some c ∧ (c < 0 ↔ a < b) ∧ (c = 0 ↔ a = b) := by
  unfold cmp_Compare_int64 cmp_isNaN_int64
  simp only [bne_self_eq_false, Option.bind_some, cond_false]
  by_cases h : a < b
  · rw [decide_eq_true h]
    exact ⟨-1, rfl, by omega, by omega⟩
  · rw [decide_eq_false h]
    by_cases k : a > b
    · rw [decide_eq_true k]
      exact ⟨1, rfl, by omega, by omega⟩
    · rw [decide_eq_false k]
      exact ⟨0, rfl, by omega, by omega⟩
theorem or_two (a b : Int) : cmp_Or_int [a, b] = some (bif a != 0 then a else bif b != 0 then b else 0) := by
  unfold cmp_Or_int
  rw [loop_first (L := [a, b]) (by simp) (fun _ x => x != 0) (fun _ x => x) (fun i x hx => by rw [at_nat, hx]; rfl)]
  unfold firstI
  cases (a != 0)
  · unfold firstI
    cases (b != 0) <;> rfl
  · rfl
theorem answers_cmp (a b : Answer) : ((impl_question_answers_1 a b).bind fun x9 => some (decide (x9 < 0))) = some (befB a b) := by
  unfold impl_question_answers_1
  obtain ⟨c, h1, h2, h3⟩ := cmp_int (keyA b) (keyA a)
  obtain ⟨s1, s2, s3⟩ := cmp_spec a.Code.data.toList b.Code.data.toList
  have h1' : cmp_Compare_int64 (w64 ((w64 (10 * b.Satisfied)) - b.Distance)) (w64 ((w64 (10 * a.Satisfied)) - a.Distance)) = some c := h1
  rw [h1', Option.bind_some, show strings_Compare a.Code b.Code = some (compareBytes a.Code.data.toList b.Code.data.toList) from rfl, Option.bind_some, or_two]
  generalize compareBytes a.Code.data.toList b.Code.data.toList = d at *
  simp only [Option.bind_some]
  congr 1
  rw [Bool.eq_iff_iff, decide_eq_true_eq, befB_iff]
  by_cases hc : c = 0
  · subst hc
    have hk := h3.1 rfl
    have hn : ¬ keyA b < keyA a := fun h => by have := h2.2 h; omega
    rw [show ((0 : Int) != 0) = false from rfl, cond_false]
    have hl : ltB a.Code b.Code = true ↔ d < 0 := by unfold ltB; rw [toList_eq, toList_eq]; exact s1.symm
    rw [hl]
    by_cases hd : d = 0
    · subst hd
      rw [show ((0 : Int) != 0) = false from rfl, cond_false]
      omega
    · rw [show (d != 0) = true by rw [bne_iff_ne]; exact hd, cond_true]
      omega
  · rw [show (c != 0) = true by rw [bne_iff_ne]; exact hc, cond_true, h2]
    constructor
    · exact .inl
    · rintro (h | ⟨h, _⟩)
      · exact h
      · exact absurd (h3.2 h.symm) hc
theorem len_some {n : Nat} (h : n ≤ 12) : ∃ r, bits_Len (IntKind.wrap .u64 (n : Int)) = some r := by
  have key : ∀ k : Fin 13, (bits_Len (IntKind.wrap .u64 (k.val : Int))).isSome = true := by decide +kernel
  exact Option.isSome_iff_exists.1 (key ⟨n, by omega⟩)
theorem sort_ans {L : List Answer} (hL : L.length ≤ 12) (hap : Apart befB L) : slices_SortFunc_Answer_impl_question_answers_1 L = some (sortB befB L) := by
  unfold slices_SortFunc_Answer_impl_question_answers_1
  obtain ⟨r, hr⟩ := len_some hL
  rw [hr, Option.bind_some]
  unfold slices_pdqsortCmpFunc_Answer_impl_question_answers_1
  rw [loop_eq]
  have e : w64 ((L.length : Int) - 0) = (L.length : Int) := by rw [w64_id (by omega) (by omega)]; omega
  simp only [e, decide_eq_true (show (L.length : Int) ≤ 12 by omega), cond_true]
  have := insSort (C := impl_question_answers_1) (lt := befB) (P := fun _ => True) (fun x y _ _ => answers_cmp x y) befB_trans befB_asym (by omega) (fun _ _ => trivial) hap
  rw [show slices_insertionSortCmpFunc_Answer_impl_question_answers_1 L 0 (L.length : Int) = some (sortB befB L) from this]
  rfl
/-- A loop that counts while a test holds of the elements. -/
theorem while_tw {α : Type} {A : List α} (hA : A.length ≤ 1000000) (q : α → Bool) {T : α → Option Bool} (hT : ∀ x ∈ A, T x = some (q x)) :
    loop (fun (s11 : Int) => (((bif (decide (s11 < (A.length : Int))) then ((at' A s11).bind fun x13 => ((T x13).bind fun x14 => some x14)) else some false)).bind fun (j15 : Bool) => (bif j15 then some (.inl (w64 (s11 + 1))) else some (.inr s11)))) 0 = some (((A.takeWhile q).length : Nat) : Int) := by
  have key : ∀ (m k : Nat), k + m = A.length → loop (fun (s11 : Int) => (((bif (decide (s11 < (A.length : Int))) then ((at' A s11).bind fun x13 => ((T x13).bind fun x14 => some x14)) else some false)).bind fun (j15 : Bool) => (bif j15 then some (.inl (w64 (s11 + 1))) else some (.inr s11)))) (k : Int) = some ((k + ((A.drop k).takeWhile q).length : Nat) : Int) := by
    intro m
    induction m with
    | zero =>
      intro k h
      rw [loop_eq]
      simp only [decide_eq_false (show ¬ (k : Int) < A.length by omega), cond_false, Option.bind_some]
      rw [List.drop_of_length_le (by omega)]
      simp
    | succ m ih =>
      intro k h
      have hk : k < A.length := by omega
      have hx : A[k]? = some (A[k]'hk) := List.getElem?_eq_getElem _
      rw [loop_eq, List.drop_eq_getElem_cons hk]
      generalize A[k]'hk = x at hx ⊢
      simp only [decide_eq_true (show (k : Int) < A.length by omega), cond_true, at_nat, hx, Option.bind_some, hT x (List.mem_of_getElem? hx), List.takeWhile_cons]
      cases q x with
      | true =>
        have := ih (k + 1) (by omega)
        rw [w64_id (by omega) (by omega)]
        simp only [cond_true]
        rw [show ((k : Int) + 1) = ((k + 1 : Nat) : Int) by omega, this]
        simp
        omega
      | false => simp
  have := key A.length 0 (by omega)
  simpa using this
def ranked (t : ByteArray) (L : List Site) (ds : List Description) (C : List Candidate) : List Answer := sortB befB (C.map (ansOf t L ds))
theorem apart_ans {t : ByteArray} {L : List Site} {ds : List Description} {C : List Candidate} (h : ∀ (i j : Nat) c d, i < j → C[i]? = some c → C[j]? = some d → c.Code ≠ d.Code) : Apart befB (C.map (ansOf t L ds)) := by
  unfold Apart
  rw [List.pairwise_iff_getElem]
  intro i j hi hj hij
  simp only [List.getElem_map]
  rw [List.length_map] at hi hj
  exact befB_total (h i j _ _ hij (List.getElem?_eq_getElem hi) (List.getElem?_eq_getElem hj))
section
variable {C : List Candidate} {t : ByteArray} {L : List Site} {ds : List Description}
theorem impl_ranked (f : Fit L ds) (ht : phraseB t = true) (st : t.size ≤ 1048576) (hC : ∀ c ∈ C, okC c) (h10 : C.length ≤ 10) (hd : ∀ (i j : Nat) c d, i < j → C[i]? = some c → C[j]? = some d → c.Code ≠ d.Code) : impl_question_answers (question.mk t L ds) C = some (ranked t L ds C) := by
  unfold impl_question_answers
  have := forS_seq (n := C.length) (by omega) (B := fun (i3 : Int) (s3 : (List Answer)) => ((at' C i3).bind fun x7 => ((impl_question_answer (question.mk t L ds) x7).bind fun x8 => ((app' s3 ([x8] : List Answer)).bind fun x9 => some x9)))) (D := fun s => s) (fun k => (C.take k).map (ansOf t L ds)) (fun i hi => by
    have hx : C[i]? = some (C[i]'hi) := List.getElem?_eq_getElem _
    generalize C[i]'hi = x at hx
    simp only [at_nat, hx, Option.bind_some, impl_ans f ht st (hC x (List.mem_of_getElem? hx))]
    rw [app_ok (by simp; omega), Option.bind_some, List.take_add_one, hx, List.map_append]
    rfl)
  simp only [List.take_zero, List.map_nil, List.take_length] at this
  rw [this, Option.bind_some, sort_ans (by simp; omega) (apart_ans hd)]
  rfl
theorem spec_ranked (f : Fit L ds) (ht : phraseB t = true) (st : t.size ≤ 1048576) (hC : ∀ c ∈ C, okC c) (h10 : C.length ≤ 10) : spec_l30Ranked C t L ds = some (ranked t L ds C) := by
  unfold spec_l30Ranked
  have := forS_seq (n := C.length) (by omega) (B := fun (i3 : Int) (s3 : (List Answer)) => ((at' C i3).bind fun x7 => ((spec_l30Answer x7 t L ds).bind fun x8 => (((loop (fun (s11 : Int) => (((bif (decide (s11 < (s3.length : Int))) then ((at' s3 s11).bind fun x13 => ((spec_l30Before x13 x8).bind fun x14 => some x14)) else some false)).bind fun (j15 : Bool) => (bif j15 then some (.inl (w64 (s11 + 1))) else some (.inr s11)))) 0)).bind fun (j9 : Int) => ((part' s3 0 j9).bind fun x17 => ((app' ([] : List Answer) x17).bind fun x18 => ((app' x18 ([x8] : List Answer)).bind fun x19 => ((part' s3 j9 (s3.length : Int)).bind fun x20 => ((app' x19 x20).bind fun x21 => some x21))))))))) (D := fun s => s) (fun k => sortB befB ((C.take k).map (ansOf t L ds))) (fun i hi => by
    have hx : C[i]? = some (C[i]'hi) := List.getElem?_eq_getElem _
    generalize C[i]'hi = x at hx
    have hlen : (sortB befB ((C.take i).map (ansOf t L ds))).length = i := by rw [sortB_len, List.length_map, List.length_take]; omega
    have hnext : sortB befB ((C.take (i + 1)).map (ansOf t L ds)) = putIn befB (sortB befB ((C.take i).map (ansOf t L ds))) (ansOf t L ds x) := by
      unfold sortB
      rw [List.take_add_one, hx, List.map_append, List.foldl_append]
      rfl
    rw [hnext]
    generalize sortB befB ((C.take i).map (ansOf t L ds)) = A at hlen ⊢
    simp only [at_nat, hx, Option.bind_some, spec_ans f ht st (hC x (List.mem_of_getElem? hx))]
    rw [while_tw (by omega) (fun y => befB y (ansOf t L ds x)) (fun y _ => before_eq y _), Option.bind_some]
    have hs := List.takeWhile_append_dropWhile (p := fun y => befB y (ansOf t L ds x)) (l := A)
    have hle : (A.takeWhile fun y => befB y (ansOf t L ds x)).length ≤ A.length := by
      have := congrArg List.length hs
      rw [List.length_append] at this
      omega
    have e1 : A.take (A.takeWhile fun y => befB y (ansOf t L ds x)).length = A.takeWhile fun y => befB y (ansOf t L ds x) := by
      conv => lhs; arg 2; rw [← hs]
      rw [List.take_left]
    have e2 : A.drop (A.takeWhile fun y => befB y (ansOf t L ds x)).length = A.dropWhile fun y => befB y (ansOf t L ds x) := by
      conv => lhs; arg 2; rw [← hs]
      rw [List.drop_left]
    rw [part_ok (by omega) (by omega) (by omega), Option.bind_some]
    simp only [Int.toNat_zero, List.drop_zero, Int.toNat_natCast, Nat.sub_zero, e1]
    rw [app_ok (by simp; omega), Option.bind_some, List.nil_append, app_ok (by simp; omega), Option.bind_some, part_ok (by omega) (by omega) (by omega), Option.bind_some]
    simp only [Int.toNat_natCast, e2]
    have e3 : (A.dropWhile fun y => befB y (ansOf t L ds x)).take (A.length - (A.takeWhile fun y => befB y (ansOf t L ds x)).length) = A.dropWhile fun y => befB y (ansOf t L ds x) := by
      refine List.take_of_length_le ?_
      have := congrArg List.length hs
      rw [List.length_append] at this
      omega
    rw [e3, app_ok (by
      have := congrArg List.length hs
      rw [List.length_append] at this
      simp
      omega), Option.bind_some]
    unfold putIn
    simp)
  simp only [List.take_zero, List.map_nil, List.take_length] at this
  rw [show sortB befB [] = ([] : List Answer) from rfl] at this
  rw [this]
  rfl
end
end Go.Proofs.YtodgenjlhiiieaaGreatDoor.Sh
