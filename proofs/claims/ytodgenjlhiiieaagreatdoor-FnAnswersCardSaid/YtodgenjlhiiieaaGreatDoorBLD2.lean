/- Plain laws: ranked answers, the exact ones first; the law FnAnswers. -/
import Derived.Test.YtodgenjlhiiieaaGreatDoorBLC10
import Derived.Test.YtodgenjlhiiieaaGreatDoorBLD1
import Derived.Test.YtodgenjlhiiieaaGreatDoorR1
namespace Go.Proofs.YtodgenjlhiiieaaGreatDoor.Sh
open Go.RowKit Go.Lib
theorem forN_all {n i0 : Nat} (hn : n ≤ 1000000) {A : Type} {B : Int → Unit → Option (Unit ⊕ A)} {D : Unit → A} (h : ∀ i : Nat, i0 ≤ i → i < n → B (i : Int) () = some (.inl ())) : forN (n : Int) B D (i0 : Int) () = some (D ()) := by
  have key : ∀ (k i : Nat), i + k = n ∨ (k = 0 ∧ n ≤ i) → i0 ≤ i → i ≤ 1000000 → forN (n : Int) B D (i : Int) () = some (D ()) := by
    intro k
    induction k with
    | zero =>
      intro i hi _ _
      unfold forN
      rw [loop_eq]
      dsimp only
      rw [decide_eq_false (by omega)]
      rfl
    | succ k ih =>
      intro i hi h0 h1
      unfold forN
      rw [loop_eq]
      dsimp only
      rw [decide_eq_true (by omega), cond_true, h i h0 (by omega)]
      simp only [Option.bind_some, Sum.elim_inl]
      rw [w64_id (by omega) (by omega), show (i : Int) + 1 = ((i + 1 : Nat) : Int) by omega]
      have := ih (i + 1) (by omega) (by omega) (by omega)
      unfold forN at this
      exact this
  by_cases hle : i0 ≤ n
  · exact key (n - i0) i0 (by omega) (Nat.le_refl _) (by omega)
  · unfold forN
    rw [loop_eq]
    dsimp only
    rw [decide_eq_false (by omega)]
    rfl
theorem likeAnswers_self (L : List Answer) (hL : L.length ≤ 1048576) : laws_likeAnswers L L = some true := by
  unfold laws_likeAnswers
  rw [bne_self_eq_false, cond_false, loop_any (by omega) (fun _ => false) false (fun i x hx => by
    rw [at_nat, hx]
    simp)]
  have : (L.any fun _ => false) = false := by simp
  rw [this]
  rfl
theorem hasText_eq (L : List ByteArray) (hL : L.length ≤ 1048576) (x : ByteArray) : laws_hasText L x = some (L.any fun y => y.toList == x.toList) := by
  unfold laws_hasText
  rw [loop_any (by omega) (fun y => y.toList == x.toList) true (fun i y hy => by
    rw [at_nat, hy]
    rfl)]
  cases L.any fun y => y.toList == x.toList <;> rfl
section
variable {C : List Candidate} {t : ByteArray} {L : List Site} {ds : List Description}
theorem answersOf_val (a : Asked C t L ds) {cb s : Bool} (hc : candsR C = some cb) (hs : sitesR L = some s) : ∃ r, impl_AnswersOf C t L ds = some r ∧ spec_AnswersOf C t L ds = some r ∧ r.1.length ≤ 10 ∧ r.2 = qCode C t L ds cb s ∧ (qCode C t L ds cb s = 0 → r.1 = ranked t L ds C) := by
  unfold impl_AnswersOf spec_AnswersOf
  rw [impl_qcode a hc hs, spec_qcode a hc hs, Option.bind_some, Option.bind_some]
  by_cases h0 : qCode C t L ds cb s = 0
  · have g := good_of a hc hs h0
    rw [h0, g.impl, g.spec]
    exact ⟨_, rfl, rfl, by rw [ranked_len]; exact g.n, rfl, fun _ => rfl⟩
  · have e2 : (qCode C t L ds cb s != 0) = true := by rw [bne_iff_ne]; exact h0
    rw [e2]
    exact ⟨_, rfl, rfl, by simp, rfl, fun h => absurd h h0⟩
theorem rankOf_val (a : Asked C t L ds) {cb s : Bool} (hc : candsR C = some cb) (hs : sitesR L = some s) (c : ByteArray) : ∃ r, impl_RankOf C c t L ds = some r ∧ spec_RankOf C c t L ds = some r ∧ r.2 = (bif qCode C t L ds cb s != 0 then qCode C t L ds cb s else bif C.any (codeC c) then 0 else 4) ∧ (r.2 = 0 → r.1 = idxP (codeA c) (ranked t L ds C)) := by
  obtain ⟨r, h1, h2⟩ := rankOf_eq a c
  refine ⟨r, h1, h2, ?_⟩
  unfold impl_RankOf impl_AnswersOf at h1
  rw [impl_qcode a hc hs, Option.bind_some] at h1
  by_cases h0 : qCode C t L ds cb s = 0
  · have g := good_of a hc hs h0
    have hlen : (ranked t L ds C).length ≤ 10 := by rw [ranked_len]; exact g.n
    rw [h0, g.impl] at h1
    unfold slices_IndexFunc_Answer_impl_RankOf_1 impl_RankOf_1 at h1
    simp only [Option.bind_some, show ((0 : Int) != 0) = false from rfl, cond_false] at h1
    rw [loop_idx (L := ranked t L ds C) (by omega) (codeA c) (fun i x hx => by rw [at_nat, hx]; rfl)] at h1
    simp only [Option.bind_some, idxP_neg, ranked_any] at h1
    rw [h0]
    cases hany : C.any (codeC c) with
    | false =>
      rw [hany] at h1
      simp only [Bool.not_false, cond_true, Option.some.injEq] at h1
      subst h1
      exact ⟨rfl, fun h => by cases h⟩
    | true =>
      rw [hany] at h1
      simp only [Bool.not_true, cond_false, Option.some.injEq] at h1
      subst h1
      exact ⟨rfl, fun _ => rfl⟩
  · have e2 : (qCode C t L ds cb s != 0) = true := by rw [bne_iff_ne]; exact h0
    simp only [e2, cond_true, Option.bind_some, Option.some.injEq] at h1
    subst h1
    rw [e2, cond_true]
    exact ⟨rfl, fun h => absurd h h0⟩
/-- What the answers of a question without an error are like. -/
theorem ans_bounds (g : Good C t L ds) {a : Answer} (h : a ∈ ranked t L ds C) : (0 ≤ a.Distance ∧ a.Distance ≤ 800) ∧ 0 ≤ a.Satisfied ∧ a.Satisfied ≤ ds.length := by
  obtain ⟨c, hc, rfl⟩ := ranked_mem.1 h
  have hk := g.f.k
  refine ⟨(phD_zero g.t1 (g.c c hc).t).1, ?_⟩
  show 0 ≤ cntN L ds c.At ∧ cntN L ds c.At ≤ ds.length
  rw [cntN_len c.At (by omega)]
  have := List.length_filter_le (fun d => satB L d c.At) ds
  omega
theorem keyA_eq (g : Good C t L ds) {a : Answer} (h : a ∈ ranked t L ds C) : keyA a = 10 * a.Satisfied - a.Distance := by
  have := ans_bounds g h
  have hk := g.f.k
  unfold keyA
  rw [w64_id (n := 10 * a.Satisfied) (by omega) (by omega), w64_id (by omega) (by omega)]
theorem exact_key (g : Good C t L ds) {a : Answer} (h : a ∈ ranked t L ds C) : exactA ds.length a = decide (keyA a ≥ 10 * ds.length) := by
  have := ans_bounds g h
  rw [keyA_eq g h, Bool.eq_iff_iff, decide_eq_true_eq]
  unfold exactA
  rw [Bool.and_eq_true, beq_iff_eq, beq_iff_eq]
  omega
theorem ranked_sorted (g : Good C t L ds) : (ranked t L ds C).Pairwise (fun a b => keyA b ≤ keyA a) := by
  have h1 : (ranked t L ds C).Pairwise (fun a b => befB a b = true) := sortB_sorted befB_trans (apart_ans g.d)
  refine h1.imp fun {a b} h => ?_
  rcases befB_iff.1 h with h | h <;> omega
/-- The exact answers come first. -/
theorem exact_first (g : Good C t L ds) {i : Nat} (hi : i < (codesOf ds.length (ranked t L ds C)).length) : ∃ x, (ranked t L ds C)[i]? = some x ∧ x.Code ∈ codesOf ds.length (ranked t L ds C) := by
  have hl := codesOf_len (n := ds.length) (A := ranked t L ds C)
  have hx : (ranked t L ds C)[i]? = some ((ranked t L ds C)[i]'(by omega)) := List.getElem?_eq_getElem _
  have hpw := List.pairwise_iff_getElem.1 (ranked_sorted g)
  cases he : exactA ds.length ((ranked t L ds C)[i]'(by omega)) with
  | true => exact ⟨_, hx, mem_codesOf.2 ⟨_, List.getElem_mem _, he, rfl⟩⟩
  | false =>
    exfalso
    rw [exact_key g (List.getElem_mem _), decide_eq_false_iff_not] at he
    have hno : (ranked t L ds C).drop i = ((ranked t L ds C).drop i).filter (fun a => !exactA ds.length a) := by
      symm
      rw [List.filter_eq_self]
      intro y hy
      obtain ⟨j, hj⟩ := List.mem_iff_getElem?.1 hy
      rw [List.getElem?_drop] at hj
      obtain ⟨hj1, hj2⟩ := List.getElem?_eq_some_iff.1 hj
      have hym : y ∈ ranked t L ds C := List.mem_of_mem_drop hy
      have hle : keyA y ≤ keyA ((ranked t L ds C)[i]'(by omega)) := by
        by_cases h0 : j = 0
        · subst h0
          rw [← hj2]
          exact Int.le_refl _
        · rw [← hj2]
          exact hpw i (i + j) (by omega) hj1 (by omega)
      rw [exact_key g hym, decide_eq_false (by omega)]
      rfl
    have hnil : ((ranked t L ds C).drop i).filter (exactA ds.length) = [] := by
      rw [List.filter_eq_nil_iff]
      intro y hy
      rw [hno] at hy
      have := (List.mem_filter.1 hy).2
      simpa using this
    have hs : (ranked t L ds C).filter (exactA ds.length) = ((ranked t L ds C).take i).filter (exactA ds.length) := by
      conv => lhs; rw [← List.take_append_drop i (ranked t L ds C)]
      rw [List.filter_append, hnil, List.append_nil]
    unfold codesOf at hi
    rw [List.length_map, hs] at hi
    have := List.length_filter_le (exactA ds.length) ((ranked t L ds C).take i)
    rw [List.length_take] at this
    omega
/-- The answer at a code's place is the one of its candidate. -/
theorem rank_ans (g : Good C t L ds) {c : ByteArray} {x : Candidate} {i : Nat} (hx : C[i]? = some x) (hc : codeC c x = true) : at' (ranked t L ds C) (idxP (codeA c) (ranked t L ds C)) = some (ansOf t L ds x) := by
  rcases idx_find (codeA c) (ranked t L ds C) with ⟨_, h2⟩ | ⟨j, y, h1, h2, h3⟩
  · exfalso
    have := List.find?_eq_none.1 h2 (ansOf t L ds x) (ranked_mem.2 ⟨x, List.mem_of_getElem? hx, rfl⟩)
    exact this hc
  · rw [h1, at_nat, h2]
    obtain ⟨z, hz, e⟩ := ranked_mem.1 (List.mem_of_getElem? h2)
    have hcy : codeA c y = true := List.find?_some h3
    have hzx : z.Code = x.Code := by
      have e1 : y.Code = c := beqL.1 hcy
      have e2 : x.Code = c := beqL.1 hc
      have e3 : (ansOf t L ds z).Code = y.Code := by rw [e]
      rw [e2, ← e1, ← e3]
      rfl
    obtain ⟨k, hk⟩ := List.mem_iff_getElem?.1 hz
    have hki : k = i := by
      rcases Nat.lt_trichotomy k i with h | h | h
      · exact absurd hzx (g.d k i z x h hk hx)
      · exact h
      · exact absurd hzx.symm (g.d i k x z h hx hk)
    subst hki
    rw [hk] at hx
    injection hx with hx
    subst hx
    rw [e]
end
theorem drawAnswers_G {c : List Int} (hc : CodeOk c) : Gv (spec_DrawAnswersOf c) (fun r => ShortC 30 r.1 ∧ r.2.1.size ≤ 2000 ∧ ShortS 30 r.2.2.1 ∧ ShortDs 30 r.2.2.2) := by
  unfold spec_DrawAnswersOf
  exact (l30Draw_G hc).bind fun x h => .some h
theorem FnAnswers_true (c : List Int) (h : c.length ≤ maxLen ∧ ∀ x ∈ c, okU8 x) : laws_FnAnswers c = some true := by
  unfold laws_FnAnswers laws_big
  rw [Option.bind_some]
  by_cases hb : (c.length : Int) > 4096
  · rw [decide_eq_true hb]
    rfl
  rw [decide_eq_false hb, cond_false]
  have hc : CodeOk c := ⟨by omega, h.2⟩
  obtain ⟨⟨C, t, L, ds⟩, e2, p1, p2, p3, p4⟩ := drawAnswers_G hc
  obtain ⟨⟨D, k, u, M, es⟩, e7, q1, q2, q3, q4⟩ := drawAnswer_G hc
  have a1 : Asked C t L ds := asked_of p1 p2 p3 p4
  have a2 : Asked D u M es := asked_of q1 q2 q3 q4
  obtain ⟨cb, hcb⟩ := candsR_some C
  obtain ⟨s, hs⟩ := sitesR_some L
  obtain ⟨cb2, hcb2⟩ := candsR_some D
  obtain ⟨s2, hs2⟩ := sitesR_some M
  obtain ⟨r3, i3, j3, l3, v3, w3⟩ := answersOf_val a1 hcb hs
  obtain ⟨r5, i5, j5, l5, v5, w5⟩ := exactAnswers_val a1 hcb hs
  obtain ⟨r8, i8, j8⟩ := answerFor_eq a2 k
  obtain ⟨r10, i10, j10, v10, w10⟩ := rankOf_val a2 hcb2 hs2 k
  obtain ⟨r20, i20, _, l20, v20, w20⟩ := answersOf_val a2 hcb2 hs2
  obtain ⟨f1, f2, f3⟩ := answerFor_val a2 hcb2 hs2 k
  have v8 : r8.2 = (bif qCode D u M es cb2 s2 != 0 then qCode D u M es cb2 s2 else bif D.any (codeC k) then 0 else 4) := by
    by_cases h0 : qCode D u M es cb2 s2 = 0
    · rw [h0]
      cases hany : D.any (codeC k) with
      | false =>
        have := f2 h0 hany
        rw [i8] at this
        injection this with this
        rw [this]
        rfl
      | true =>
        rcases idx_find (codeC k) D with ⟨_, h2⟩ | ⟨i, x, h1, h2, h3⟩
        · rw [← List.isSome_find?, h2] at hany
          cases hany
        · have := f3 i x h0 h1 h2
          rw [i8] at this
          injection this with this
          rw [this]
          rfl
    · have e2 : (qCode D u M es cb2 s2 != 0) = true := by rw [bne_iff_ne]; exact h0
      have := f1 h0
      rw [i8] at this
      injection this with this
      rw [this, e2]
      rfl
  have e5 : (r5.2 != r3.2) = false := by rw [v5, v3, bne_self_eq_false]
  have e10 : (r10.2 != r8.2) = false := by rw [v10, v8, bne_self_eq_false]
  simp only [e2, e7, i3, j3, i5, j5, i8, j8, i10, j10, Option.bind_some, bne_self_eq_false, cond_false, beq_self_eq_true, Bool.and_self, Bool.not_true, likeAnswers_self r3.1 (by omega), likeTexts_self r5.1 l5, e5, e10, impl_cands_eq a2.c a2.c1, spec_cands_eq a2.c a2.c1, hcb2]
  have z1 : (bif (r8.2 == 0) then ((impl_AnswersOf D u M es).bind fun x20 => (((bif (x20.2 != 0) then some true else ((at' x20.1 r10.1).bind fun x21 => some (!((x21.Code.toList == r8.1.Code.toList) && ((x21.Distance == r8.1.Distance) && (x21.Satisfied == r8.1.Satisfied))))))).bind fun (j22 : Bool) => (bif j22 then some (.inr false) else some (.inl ())))) else some (.inl ()) : Option (Unit ⊕ Bool)) = some (.inl ()) := by
    cases hz : (r8.2 == 0)
    · rfl
    · have hz' : r8.2 = 0 := by simpa using hz
      have h0 : qCode D u M es cb2 s2 = 0 := by
        by_cases h0 : qCode D u M es cb2 s2 = 0
        · exact h0
        · have e2 : (qCode D u M es cb2 s2 != 0) = true := by rw [bne_iff_ne]; exact h0
          rw [v8, e2, cond_true] at hz'
          exact hz'
      have g := good_of a2 hcb2 hs2 h0
      have h10 : r10.2 = 0 := by rw [v10, ← v8]; exact hz'
      rcases idx_find (codeC k) D with ⟨_, h2⟩ | ⟨i, x, h1, h2, h3⟩
      · exfalso
        have hany : D.any (codeC k) = false := by rw [← List.isSome_find?, h2]; rfl
        rw [v8, h0, hany] at hz'
        cases hz'
      · have e8 := f3 i x h0 h1 h2
        rw [i8] at e8
        injection e8 with e8
        rw [cond_true, i20, Option.bind_some, v20, h0, w20 h0, w10 h10, rank_ans g h2 (List.find?_some h3), e8]
        simp
  rw [z1, Option.bind_some, Sum.elim_inl]
  cases hz : (r3.2 != 0)
  · have hz' : r3.2 = 0 := by simpa using hz
    have h0 : qCode C t L ds cb s = 0 := by rw [← v3]; exact hz'
    have g := good_of a1 hcb hs h0
    rw [cond_false, w3 h0, w5 h0]
    have hn : (ranked t L ds C).length ≤ 10 := by rw [ranked_len]; exact g.n
    have hcl := codesOf_len (n := ds.length) (A := ranked t L ds C)
    have hsl : (sortB ltB (codesOf ds.length (ranked t L ds C))).length = (codesOf ds.length (ranked t L ds C)).length := sortB_len
    have z2 : forN ((sortB ltB (codesOf ds.length (ranked t L ds C))).length : Int) (fun (i26 : Int) (_ : Unit) => (((bif (decide (i26 ≥ ((ranked t L ds C).length : Int))) then some true else ((at' (ranked t L ds C) i26).bind fun x30 => ((laws_hasText (sortB ltB (codesOf ds.length (ranked t L ds C))) x30.Code).bind fun x31 => some (!x31))))).bind fun (j32 : Bool) => (bif j32 then some (.inr (.inr false)) else some (.inl ())))) (fun (_ : Unit) => (.inl () : Unit ⊕ Bool)) 0 () = some (.inl ()) := by
      refine forN_all (i0 := 0) (by omega) fun i _ hi => ?_
      rw [hsl] at hi
      obtain ⟨x, x1, x2⟩ := exact_first g hi
      rw [decide_eq_false (show ¬ (i : Int) ≥ ((ranked t L ds C).length : Int) by omega), cond_false, at_nat, x1, Option.bind_some, hasText_eq _ (by omega), Option.bind_some]
      have : ((sortB ltB (codesOf ds.length (ranked t L ds C))).any fun y => y.toList == x.Code.toList) = true := by
        rw [List.any_eq_true]
        exact ⟨_, sortB_mem.2 x2, beq_self_eq_true _⟩
      rw [this]
      rfl
    rw [z2, Option.bind_some, Sum.elim_inl]
    have z3 : forN ((ranked t L ds C).length : Int) (fun (i36 : Int) (_ : Unit) => ((at' (ranked t L ds C) (w64 (i36 - 1))).bind fun x40 => ((at' (ranked t L ds C) (w64 (i36 - 1))).bind fun x41 => ((at' (ranked t L ds C) i36).bind fun x42 => ((at' (ranked t L ds C) i36).bind fun x43 => (bif (decide ((w64 ((w64 (10 * x40.Satisfied)) - x41.Distance)) < (w64 ((w64 (10 * x42.Satisfied)) - x43.Distance)))) then some (.inr (.inr false)) else some (.inl ()))))))) (fun (_ : Unit) => (.inl () : Unit ⊕ Bool)) 1 () = some (.inl ()) := by
      refine forN_all (i0 := 1) (by omega) fun i h1 hi => ?_
      have hx : (ranked t L ds C)[i]? = some ((ranked t L ds C)[i]'hi) := List.getElem?_eq_getElem _
      have hy : (ranked t L ds C)[i - 1]? = some ((ranked t L ds C)[i - 1]'(by omega)) := List.getElem?_eq_getElem _
      have hle := List.pairwise_iff_getElem.1 (ranked_sorted g) (i - 1) i (by omega) hi (by omega)
      rw [w64_id (by omega) (by omega), show (i : Int) - 1 = ((i - 1 : Nat) : Int) by omega, at_nat, at_nat, hx, hy]
      simp only [Option.bind_some]
      unfold keyA at hle
      rw [decide_eq_false (by omega)]
      rfl
    rw [z3, Option.bind_some, Sum.elim_inl, ranked_len, beq_self_eq_true]
  · rfl
end Go.Proofs.YtodgenjlhiiieaaGreatDoor.Sh
