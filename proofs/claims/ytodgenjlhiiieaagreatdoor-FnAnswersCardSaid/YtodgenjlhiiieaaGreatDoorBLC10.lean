/- Plain laws: a list of texts that is put in order, one by one and by the library's sort; ExactAnswers. -/
import Derived.Test.YtodgenjlhiiieaaGreatDoorBLC8
namespace Go.Proofs.YtodgenjlhiiieaaGreatDoor.Sh
open Go.RowKit Go.Lib
theorem ltB_tr (a b c : ByteArray) (h : ltB a b = true) (k : ltB b c = true) : ltB a c = true := ltB_trans h k
theorem ltB_asy (a b : ByteArray) (h : ltB a b = true) : ltB b a = false := by
  cases k : ltB b a with
  | false => rfl
  | true =>
    have := ltB_trans h k
    rw [ltB_irrefl] at this
    cases this
theorem ltB_tot {a b : ByteArray} (h : a ≠ b) : ltB a b = true ∨ ltB b a = true := by
  cases h1 : ltB a b with
  | true => exact .inl rfl
  | false =>
    cases h2 : ltB b a with
    | true => exact .inr rfl
    | false =>
      have := bl_total h1 h2
      exact absurd (beqL.1 (by rw [this]; exact beq_self_eq_true _)) h
theorem apart_nodup : ∀ {L : List ByteArray}, L.Nodup → Apart ltB L
  | L, h => List.Pairwise.imp (fun h => ltB_tot h) h
theorem less_eq (x y : ByteArray) : cmp_Less_string x y = some (ltB x y) := by
  unfold cmp_Less_string cmp_isNaN_string
  have e : (!(x.toList == x.toList)) = false := by rw [beq_self_eq_true]; rfl
  rw [e]
  rfl
theorem sort_txt {L : List ByteArray} (hL : L.length ≤ 12) (hap : Apart ltB L) : slices_Sort_string L = some (sortB ltB L) := by
  unfold slices_Sort_string
  obtain ⟨r, hr⟩ := len_some hL
  rw [hr, Option.bind_some]
  unfold slices_pdqsortOrdered_string
  rw [loop_eq]
  have e : w64 ((L.length : Int) - 0) = (L.length : Int) := by rw [w64_id (by omega) (by omega)]; omega
  simp only [e, decide_eq_true (show (L.length : Int) ≤ 12 by omega), cond_true]
  have := insSortT (T := fun x y => (cmp_Less_string x y).bind fun x9 => some x9) (lt := ltB) (P := fun _ => True) (fun x y _ _ => by rw [less_eq]; rfl) ltB_tr ltB_asy (by omega) (fun _ _ => trivial) hap
  rw [show slices_insertionSortOrdered_string L 0 (L.length : Int) = some (sortB ltB L) from this]
  rfl
theorem compact_id {A : List ByteArray} (hA : A.length ≤ 1000000) (h : A.Pairwise (fun a b => ltB a b = true)) : slices_Compact_string A = some A := by
  unfold slices_Compact_string
  by_cases h2 : (A.length : Int) < 2
  · rw [decide_eq_true h2]
    rfl
  · rw [decide_eq_false h2, cond_false]
    have key : ∀ (m k : Nat), k + m = A.length → 1 ≤ k → loop (fun (s3 : Int × (List ByteArray)) => (bif (decide (s3.1 < (s3.2.length : Int))) then ((((at' s3.2 s3.1).bind fun x7 => ((at' s3.2 (w64 (s3.1 - 1))).bind fun x8 => (bif (x7.toList == x8.toList) then none else some (.inl (s3.1, s3.2)))))).bind (Sum.elim (fun (j5 : Int × (List ByteArray)) => some (.inl ((w64 (j5.1 + 1)), j5.2))) (fun a => some (.inr a)))) else some (.inr (.inl s3.2)))) ((k : Int), A) = some ((.inl A : List ByteArray ⊕ List ByteArray)) := by
      intro m
      induction m with
      | zero =>
        intro k hk _
        rw [loop_eq]
        simp only [decide_eq_false (show ¬ (k : Int) < A.length by omega), cond_false]
      | succ m ih =>
        intro k hk h1
        have hkl : k < A.length := by omega
        have hx : A[k]? = some (A[k]'hkl) := List.getElem?_eq_getElem _
        have hy : A[k - 1]? = some (A[k - 1]'(by omega)) := List.getElem?_eq_getElem _
        have hlt := List.pairwise_iff_getElem.1 h (k - 1) k (by omega) hkl (by omega)
        generalize A[k]'hkl = x at hx hlt
        generalize A[k - 1]'(by omega) = y at hy hlt
        have hne : (x.toList == y.toList) = false := by
          cases hq : x.toList == y.toList with
          | false => rfl
          | true =>
            rw [beqL.1 hq, ltB_irrefl] at hlt
            cases hlt
        have e1 : w64 ((k : Int) - 1) = ((k - 1 : Nat) : Int) := by rw [w64_id (by omega) (by omega)]; omega
        have e2 : w64 ((k : Int) + 1) = ((k + 1 : Nat) : Int) := by rw [w64_id (by omega) (by omega)]; omega
        rw [loop_eq]
        simp only [decide_eq_true (show (k : Int) < A.length by omega), cond_true, at_nat, hx, e1, hy, Option.bind_some, hne, cond_false, Sum.elim_inl, e2]
        exact ih (k + 1) (by omega) (by omega)
    have := key (A.length - 1) 1 (by omega) (by omega)
    rw [show ((1 : Nat) : Int) = 1 from rfl] at this
    rw [this]
    rfl
theorem sorted_txt {L : List ByteArray} (hL : L.length ≤ 12) (hn : L.Nodup) : impl_sorted L = some (sortB ltB L) := by
  unfold impl_sorted
  rw [sort_txt hL (apart_nodup hn), Option.bind_some, compact_id (by rw [sortB_len]; omega) (sortB_sorted ltB_tr (apart_nodup hn))]
  rfl
theorem spec_insert {A : List ByteArray} {x : ByteArray} (hA : A.length ≤ 1000000) (hx : x ∉ A) : spec_l08Insert A x = some (putIn ltB A x) := by
  unfold spec_l08Insert
  rw [show loop (fun (s3 : Int) => (((bif (decide (s3 < (A.length : Int))) then ((at' A s3).bind fun x5 => some (Op.bytesLess x5.toList x.toList)) else some false)).bind fun (j6 : Bool) => (bif j6 then some (.inl (w64 (s3 + 1))) else some (.inr s3)))) 0 = some (((A.takeWhile fun y => ltB y x).length : Nat) : Int) from while_tw (T := fun y => some (ltB y x)) hA (fun y => ltB y x) (fun _ _ => rfl), Option.bind_some]
  have hs := List.takeWhile_append_dropWhile (p := fun y => ltB y x) (l := A)
  have hl := congrArg List.length hs
  rw [List.length_append] at hl
  have e1 : A.take (A.takeWhile fun y => ltB y x).length = A.takeWhile fun y => ltB y x := by
    conv => lhs; arg 2; rw [← hs]
    rw [List.take_left]
  have e2 : A.drop (A.takeWhile fun y => ltB y x).length = A.dropWhile fun y => ltB y x := by
    conv => lhs; arg 2; rw [← hs]
    rw [List.drop_left]
  have ht : (((bif (decide (((A.takeWhile fun y => ltB y x).length : Int) < (A.length : Int))) then ((at' A ((A.takeWhile fun y => ltB y x).length : Int)).bind fun x8 => some (x8.toList == x.toList)) else some false)) : Option Bool) = some false := by
    by_cases hlt : (A.takeWhile fun y => ltB y x).length < A.length
    · have hy : A[(A.takeWhile fun y => ltB y x).length]? = some (A[(A.takeWhile fun y => ltB y x).length]'hlt) := List.getElem?_eq_getElem _
      generalize A[(A.takeWhile fun y => ltB y x).length]'hlt = y at hy
      rw [decide_eq_true (by omega), cond_true, at_nat, hy, Option.bind_some]
      cases hq : y.toList == x.toList with
      | false => rfl
      | true => exact absurd (by rw [← beqL.1 hq]; exact List.mem_of_getElem? hy) hx
    · rw [decide_eq_false (by omega)]
      rfl
  rw [ht]
  simp only [Option.bind_some, cond_false]
  rw [part_ok (by omega) (by omega) (by omega), Option.bind_some]
  simp only [Int.toNat_zero, List.drop_zero, Int.toNat_natCast, Nat.sub_zero, e1]
  rw [app_ok (by simp; omega), Option.bind_some, List.nil_append, app_ok (by simp; omega), Option.bind_some, part_ok (by omega) (by omega) (by omega), Option.bind_some]
  simp only [Int.toNat_natCast, e2]
  have e3 : (A.dropWhile fun y => ltB y x).take (A.length - (A.takeWhile fun y => ltB y x).length) = A.dropWhile fun y => ltB y x := List.take_of_length_le (by omega)
  rw [e3, app_ok (by simp; omega), Option.bind_some]
  unfold putIn
  simp
section
variable {C : List Candidate} {t : ByteArray} {L : List Site} {ds : List Description}
/-- Of an answer that is exact: nothing is off, all descriptions are satisfied. -/
def exactA (n : Int) (a : Answer) : Bool := (a.Distance == 0) && (a.Satisfied == n)
def codesOf (n : Int) (A : List Answer) : List ByteArray := (A.filter (exactA n)).map (·.Code)
theorem codesOf_len {n : Int} {A : List Answer} : (codesOf n A).length ≤ A.length := by
  unfold codesOf
  rw [List.length_map]
  exact List.length_filter_le _ _
theorem codesOf_step {n : Int} {A : List Answer} {i : Nat} {x : Answer} (h : A[i]? = some x) : codesOf n (A.take (i + 1)) = codesOf n (A.take i) ++ bif exactA n x then [x.Code] else [] := by
  unfold codesOf
  rw [List.take_add_one, h, List.filter_append, List.map_append]
  congr 1
  simp only [Option.toList_some, List.filter_cons, List.filter_nil]
  cases exactA n x <;> rfl
theorem mem_codesOf {n : Int} {A : List Answer} {z : ByteArray} : z ∈ codesOf n A ↔ ∃ a ∈ A, exactA n a = true ∧ a.Code = z := by
  unfold codesOf
  simp [List.mem_map, List.mem_filter, and_assoc]
theorem Good.codes (g : Good C t L ds) (n : Int) : (codesOf n (C.map (ansOf t L ds))).Nodup := by
  have h : (C.map (ansOf t L ds)).Pairwise (fun a b => a.Code ≠ b.Code) := by
    rw [List.pairwise_iff_getElem]
    intro i j hi hj hij
    simp only [List.getElem_map]
    rw [List.length_map] at hi hj
    exact g.d i j _ _ hij (List.getElem?_eq_getElem hi) (List.getElem?_eq_getElem hj)
  exact List.Pairwise.map _ (fun _ _ h => h) (List.Pairwise.filter _ h)
theorem Good.codesR (g : Good C t L ds) (n : Int) : (codesOf n (ranked t L ds C)).Nodup := by
  have h : (ranked t L ds C).Pairwise (fun a b => a.Code ≠ b.Code) := by
    have h1 : (ranked t L ds C).Pairwise (fun a b => befB a b = true) := sortB_sorted befB_trans (apart_ans g.d)
    rw [List.pairwise_iff_getElem] at h1 ⊢
    intro i j hi hj hij he
    have hb := h1 i j hi hj hij
    obtain ⟨c, hc, e1⟩ := ranked_mem.1 (List.getElem_mem hi)
    obtain ⟨d, hd, e2⟩ := ranked_mem.1 (List.getElem_mem hj)
    obtain ⟨p, hp⟩ := List.mem_iff_getElem?.1 hc
    obtain ⟨q, hq⟩ := List.mem_iff_getElem?.1 hd
    have hcd : c.Code = d.Code := by
      have : (ansOf t L ds c).Code = (ansOf t L ds d).Code := by rw [e1, e2]; exact he
      exact this
    have hpq : p = q := by
      rcases Nat.lt_trichotomy p q with h | h | h
      · exact absurd hcd (g.d p q c d h hp hq)
      · exact h
      · exact absurd hcd.symm (g.d q p d c h hq hp)
    subst hpq
    rw [hp] at hq
    injection hq with hq
    subst hq
    rw [← e1, ← e2, befB_irr] at hb
    cases hb
  exact List.Pairwise.map _ (fun _ _ h => h) (List.Pairwise.filter _ h)
theorem exactAnswers_val (a : Asked C t L ds) {cb s : Bool} (hc : candsR C = some cb) (hs : sitesR L = some s) : ∃ r, impl_ExactAnswers C t L ds = some r ∧ spec_ExactAnswers C t L ds = some r ∧ r.1.length ≤ 1048576 ∧ r.2 = qCode C t L ds cb s ∧ (qCode C t L ds cb s = 0 → r.1 = sortB ltB (codesOf ds.length (ranked t L ds C))) := by
  unfold impl_ExactAnswers spec_ExactAnswers impl_AnswersOf
  rw [impl_qcode a hc hs, spec_qcode a hc hs, Option.bind_some, Option.bind_some]
  by_cases h0 : qCode C t L ds cb s = 0
  · have g := good_of a hc hs h0
    have hn := g.n
    have hlen : (ranked t L ds C).length ≤ 10 := by rw [ranked_len]; exact g.n
    rw [h0, g.impl]
    simp only [Option.bind_some, show ((0 : Int) != 0) = false from rfl, cond_false]
    have e1 := forS_seq (n := (ranked t L ds C).length) (by omega) (B := fun (i4 : Int) (s4 : (List ByteArray)) => ((at' (ranked t L ds C) i4).bind fun x8 => (((bif (x8.Distance == 0) then ((impl_length_Description ds).bind fun x9 => some (x8.Satisfied == x9)) else some false)).bind fun (j10 : Bool) => (bif j10 then ((app' s4 ([x8.Code] : List ByteArray)).bind fun x12 => some x12) else some s4)))) (D := fun (s4 : (List ByteArray)) => s4) (fun k => codesOf ds.length ((ranked t L ds C).take k)) (fun i hi => by
      have hx : (ranked t L ds C)[i]? = some ((ranked t L ds C)[i]'hi) := List.getElem?_eq_getElem _
      generalize (ranked t L ds C)[i]'hi = x at hx
      have hl := codesOf_len (n := ds.length) (A := (ranked t L ds C).take i)
      rw [List.length_take] at hl
      have hj : (((bif (x.Distance == 0) then ((impl_length_Description ds).bind fun x9 => some (x.Satisfied == x9)) else some false)) : Option Bool) = some (exactA ds.length x) := by
        unfold impl_length_Description exactA
        cases x.Distance == 0 <;> rfl
      simp only [at_nat, hx, Option.bind_some, hj, codesOf_step hx]
      cases exactA ds.length x
      · simp
      · simp only [cond_true]
        rw [app_ok (by simp; omega)]
        rfl)
    have e2 := forS_seq (n := C.length) (by omega) (B := fun (i4 : Int) (s4 : (List ByteArray)) => ((at' C i4).bind fun x8 => ((spec_l30Answer x8 t L ds).bind fun x9 => (bif ((x9.Distance == 0) && (x9.Satisfied == (ds.length : Int))) then ((spec_l08Insert s4 x9.Code).bind fun x10 => some x10) else some s4)))) (D := fun (s4 : (List ByteArray)) => s4) (fun k => sortB ltB (codesOf ds.length ((C.map (ansOf t L ds)).take k))) (fun i hi => by
      have hx : C[i]? = some (C[i]'hi) := List.getElem?_eq_getElem _
      generalize C[i]'hi = x at hx
      have hm : (C.map (ansOf t L ds))[i]? = some (ansOf t L ds x) := by rw [List.getElem?_map, hx]; rfl
      have hl := codesOf_len (n := ds.length) (A := (C.map (ansOf t L ds)).take i)
      rw [List.length_take] at hl
      simp only [at_nat, hx, Option.bind_some, spec_ans g.f g.t1 g.t2 (g.c x (List.mem_of_getElem? hx)), codesOf_step hm]
      have hnd := g.codes ds.length
      have hpre : (codesOf ds.length ((C.map (ansOf t L ds)).take (i + 1))).Nodup := List.Pairwise.sublist ((List.Sublist.filter _ (List.take_sublist _ _)).map _) hnd
      rw [codesOf_step hm] at hpre
      cases he : exactA ds.length (ansOf t L ds x) with
      | false =>
        have : (((ansOf t L ds x).Distance == 0) && ((ansOf t L ds x).Satisfied == (ds.length : Int))) = false := he
        rw [this]
        simp
      | true =>
        have : (((ansOf t L ds x).Distance == 0) && ((ansOf t L ds x).Satisfied == (ds.length : Int))) = true := he
        rw [this, cond_true]
        rw [he, cond_true] at hpre
        have hno : (ansOf t L ds x).Code ∉ sortB ltB (codesOf ds.length ((C.map (ansOf t L ds)).take i)) := fun hq => by
          have := (List.nodup_append.1 hpre).2.2 _ (sortB_mem.1 hq) _ (List.mem_singleton.2 rfl)
          exact this rfl
        rw [spec_insert (by rw [sortB_len]; omega) hno, Option.bind_some]
        unfold sortB
        rw [cond_true, List.foldl_append]
        rfl)
    have z1 : codesOf ds.length ((ranked t L ds C).take 0) = [] := rfl
    have z2 : sortB ltB (codesOf ds.length ((C.map (ansOf t L ds)).take 0)) = [] := rfl
    simp only [z1, List.take_length] at e1
    have z3 : (C.map (ansOf t L ds)).take C.length = C.map (ansOf t L ds) := List.take_of_length_le (by simp)
    simp only [z2, z3] at e2
    have hl := codesOf_len (n := ds.length) (A := ranked t L ds C)
    rw [e1, e2, Option.bind_some, Option.bind_some, sorted_txt (by omega) (g.codesR _), Option.bind_some]
    have hu : sortB ltB (codesOf ds.length (ranked t L ds C)) = sortB ltB (codesOf ds.length (C.map (ansOf t L ds))) := by
      refine sorted_unique ltB_asy (sortB_sorted ltB_tr (apart_nodup (g.codesR _))) (sortB_sorted ltB_tr (apart_nodup (g.codes _))) fun z => ?_
      rw [sortB_mem, sortB_mem, mem_codesOf, mem_codesOf]
      constructor
      · rintro ⟨a, ha, h⟩
        obtain ⟨c, hc, rfl⟩ := ranked_mem.1 ha
        exact ⟨_, List.mem_map.2 ⟨c, hc, rfl⟩, h⟩
      · rintro ⟨a, ha, h⟩
        obtain ⟨c, hc, rfl⟩ := List.mem_map.1 ha
        exact ⟨_, ranked_mem.2 ⟨c, hc, rfl⟩, h⟩
    rw [← hu]
    exact ⟨_, rfl, rfl, by rw [sortB_len]; omega, rfl, fun _ => rfl⟩
  · have e2 : (qCode C t L ds cb s != 0) = true := by rw [bne_iff_ne]; exact h0
    rw [e2]
    simp only [cond_true, Option.bind_some]
    rw [show forS ((([] : List Answer).length : Nat) : Int) (fun (i4 : Int) (s4 : (List ByteArray)) => ((at' ([] : List Answer) i4).bind fun x8 => (((bif (x8.Distance == 0) then ((impl_length_Description ds).bind fun x9 => some (x8.Satisfied == x9)) else some false)).bind fun (j10 : Bool) => (bif j10 then ((app' s4 ([x8.Code] : List ByteArray)).bind fun x12 => some x12) else some s4)))) (fun (s4 : (List ByteArray)) => s4) 0 ([] : List ByteArray) = some [] from by unfold forS; rw [loop_eq]; rfl, Option.bind_some, sorted_txt (L := []) (by simp) List.nodup_nil, Option.bind_some]
    exact ⟨_, rfl, rfl, by simp [sortB], rfl, fun h => absurd h h0⟩
end
end Go.Proofs.YtodgenjlhiiieaaGreatDoor.Sh
