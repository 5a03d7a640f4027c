/- Plain laws of logs: vectors, IsLog of both; bounds on lengths alone. -/
import Derived.Test.YtbaainlnmackeaaGreatDoorMWP
import Derived.Test.YtbaainlnmackeaaGreatDoorRD
namespace Go.Proofs.YtbaainlnmackeaaGreatDoor.Sh
open Go.RowKit Go.Lib
/-- How many operations an office has. -/
def cn (P : List Op) (o : Int) : Int := (P.countP (fun x => x.Office == o) : Nat)
def vec (P : List Op) : List Int := [cn P 0, cn P 1, cn P 2, cn P 3]
theorem cn_app (P : List Op) (x : Op) (o : Int) : cn (P ++ [x]) o = cn P o + (bif x.Office == o then 1 else 0) := by
  unfold cn
  rw [List.countP_append, List.countP_singleton]
  cases x.Office == o <;> simp
theorem cn_le (P : List Op) (o : Int) : 0 ≤ cn P o ∧ cn P o ≤ P.length := by
  unfold cn
  have := List.countP_le_length (p := fun x : Op => x.Office == o) (l := P)
  omega
theorem off4 {o : Int} (h0 : 0 ≤ o) (h3 : o ≤ 3) : o = 0 ∨ o = 1 ∨ o = 2 ∨ o = 3 := by omega
theorem vec_at (P : List Op) {o : Int} (h0 : 0 ≤ o) (h3 : o ≤ 3) : at' (vec P) o = some (cn P o) := by
  rcases off4 h0 h3 with rfl | rfl | rfl | rfl <;> rfl
theorem vec_set (P : List Op) (x : Op) (h0 : 0 ≤ x.Office) (h3 : x.Office ≤ 3) : (vec P).set x.Office.toNat (cn P x.Office + 1) = vec (P ++ [x]) := by
  unfold vec
  simp only [cn_app]
  rcases off4 h0 h3 with h | h | h | h <;> rw [h] <;> simp
def offs (L : List Op) : Prop := ∀ x ∈ L, 0 ≤ x.Office ∧ x.Office ≤ 3
theorem vec_loop {L : List Op} (hL : L.length ≤ 1048576) (ho : offs L) : ((make' 0 4).bind fun x1 => (((forS (L.length : Int) (fun (i4 : Int) (s4 : (List Int)) => ((at' L i4).bind fun x8 => ((at' s4 x8.Office).bind fun x9 => ((at' s4 x8.Office).bind fun _ => some (List.set s4 (Int.toNat x8.Office) (w64 (x9 + 1))))))) (fun (s4 : (List Int)) => s4) 0 x1)).bind fun (j2 : (List Int)) => some j2)) = some (vec L) := by
  have e0 : make' (0 : Int) 4 = some (vec []) := rfl
  rw [e0, Option.bind_some, forS_at L (by omega) (fun (_ : Int) x8 (s4 : List Int) => ((at' s4 x8.Office).bind fun x9 => ((at' s4 x8.Office).bind fun _ => some (List.set s4 (Int.toNat x8.Office) (w64 (x9 + 1))))))]
  have key : ∀ (M P : List Op), L = P ++ M → overI (fun _ x8 (s4 : List Int) => (((at' s4 x8.Office).bind fun x9 => ((at' s4 x8.Office).bind fun _ => some (List.set s4 (Int.toNat x8.Office) (w64 (x9 + 1))))).map (Sum.inl (β := List Int)))) (fun s => s) M P.length (vec P) = some (vec L) := by
    intro M
    induction M with
    | nil => intro P h; rw [h, List.append_nil]; rfl
    | cons x M ih =>
      intro P h
      obtain ⟨h0, h3⟩ := ho x (by rw [h]; simp)
      have := cn_le P x.Office
      have hP : P.length ≤ L.length := by rw [h]; simp
      unfold overI
      simp only [vec_at P h0 h3, Option.bind_some, w64_id (n := cn P x.Office + 1) (by omega) (by omega), vec_set P x h0 h3, Option.map_some, Sum.elim_inl]
      have := ih (P ++ [x]) (by rw [h]; simp)
      rw [List.length_append, List.length_singleton] at this
      exact this
  have := key L [] rfl
  rw [List.length_nil] at this
  rw [this]
  rfl
theorem impl_vec {L : List Op} (hL : L.length ≤ 1048576) (ho : offs L) : impl_vectorOf L = some (vec L) := by
  unfold impl_vectorOf
  exact vec_loop hL ho
theorem any_not_all {α : Type} {p q : α → Bool} (h : ∀ x, p x = !q x) : ∀ L : List α, L.any p = !L.all q
  | [] => rfl
  | x :: l => by rw [List.any_cons, List.all_cons, any_not_all h l, h x, Bool.not_and]
theorem neg_le (n : Int) : decide (n < 0) = !decide (0 ≤ n) := by
  by_cases h : n < 0
  · rw [decide_eq_true h, decide_eq_false (by omega)]; rfl
  · rw [decide_eq_false h, decide_eq_true (by omega)]; rfl
/-- A list of four numbers of at least 0. -/
def vecB (v : List Int) : Bool := decide (v.length = 4) && v.all (fun n => decide (0 ≤ n))
theorem beq_len (n m : Nat) : ((n : Int) == (m : Int)) = decide (n = m) := by
  by_cases h : n = m
  · subst h; simp
  · rw [decide_eq_false h, beq_eq_false_iff_ne]; omega
theorem impl_isVec (v : List Int) (hv : v.length ≤ maxLen) : impl_isVector v = some (vecB v) := by
  unfold impl_isVector slices_ContainsFunc_int64_impl_isVector_1 slices_IndexFunc_int64_impl_isVector_1 vecB
  unfold maxLen at hv
  rw [show ((v.length : Int) == 4) = decide (v.length = 4) from beq_len v.length 4, loop_idx (by omega) (fun n => decide (n < 0)) (fun i x hx => by rw [at_nat, hx]; rfl)]
  simp only [Option.bind_some, idxP_any]
  have h : (!v.any fun n => decide (n < 0)) = v.all fun n => decide (0 ≤ n) := by
    rw [any_not_all neg_le, Bool.not_not]
  rw [h]
  cases decide (v.length = 4) <;> rfl
theorem spec_isVec (v : List Int) (hv : v.length ≤ maxLen) : spec_l32Vector v = some (vecB v) := by
  unfold spec_l32Vector vecB
  unfold maxLen at hv
  rw [loop_any (by omega) (fun n => decide (n < 0)) false (fun i x hx => by rw [at_nat, hx]; rfl), show ((v.length : Int) == 4) = decide (v.length = 4) from beq_len v.length 4]
  have h : v.any (fun n => decide (n < 0)) = !(v.all fun n => decide (0 ≤ n)) := any_not_all neg_le v
  rw [h]
  cases v.all fun n => decide (0 ≤ n)
  · simp
  · simp
theorem vecB_four {v : List Int} (h : vecB v = true) : ∃ a b c d, v = [a, b, c, d] ∧ 0 ≤ a ∧ 0 ≤ b ∧ 0 ≤ c ∧ 0 ≤ d := by
  unfold vecB at h
  rw [Bool.and_eq_true, decide_eq_true_eq] at h
  obtain ⟨h1, h2⟩ := h
  match v, h1, h2 with
  | [a, b, c, d], _, h2 =>
    simp only [List.all_cons, List.all_nil, Bool.and_eq_true, decide_eq_true_eq, and_true] at h2
    exact ⟨a, b, c, d, rfl, h2.1, h2.2.1, h2.2.2.1, h2.2.2.2⟩
/-- A vector's number for an office. -/
def gv (v : List Int) (o : Int) : Int := (v[o.toNat]?).getD 0
theorem vecB_at {v : List Int} (h : vecB v = true) {o : Int} (h0 : 0 ≤ o) (h3 : o ≤ 3) : at' v o = some (gv v o) ∧ 0 ≤ gv v o := by
  obtain ⟨a, b, c, d, rfl, _, _, _, _⟩ := vecB_four h
  rcases off4 h0 h3 with rfl | rfl | rfl | rfl <;> exact ⟨rfl, by assumption⟩
/-- The bounds of an operation. -/
structure OpR (x : Op) : Prop where
  o : -9223372036854775808 ≤ x.Office ∧ x.Office < 9223372036854775808
  n : -9223372036854775808 ≤ x.Number ∧ x.Number < 9223372036854775808
  k : x.Key.size ≤ 1048576
  t : x.Text.size ≤ 1048576
  s : x.Seen.length ≤ 1048576
  e : ∀ v ∈ x.Seen, -9223372036854775808 ≤ v ∧ v < 9223372036854775808
/-- What an operation has to be, behind others. -/
def opB (P : List Op) (x : Op) : Bool := inB x.Office 0 3 && (wordB x.Key && (phraseB x.Text && (vecB x.Seen && (decide (gv x.Seen x.Office = x.Number - 1) && (decide (x.Number = cn P x.Office + 1) && (x.Seen.zip (vec P)).all (fun q => decide (q.1 ≤ q.2)))))))
theorem opB_iff {P : List Op} {x : Op} : opB P x = true ↔ (0 ≤ x.Office ∧ x.Office ≤ 3) ∧ wordB x.Key = true ∧ phraseB x.Text = true ∧ vecB x.Seen = true ∧ gv x.Seen x.Office = x.Number - 1 ∧ x.Number = cn P x.Office + 1 ∧ (x.Seen.zip (vec P)).all (fun q => decide (q.1 ≤ q.2)) = true := by
  unfold opB
  simp only [Bool.and_eq_true, inB_iff, decide_eq_true_eq]
theorem zip_loop {A : Type} {v u : List Int} (hv : v.length = 4) (hu : u.length = 4) (B : Int → Unit → Option (Unit ⊕ (Unit ⊕ A))) (a : A) (hB : ∀ (i : Nat) x y, v[i]? = some x → u[i]? = some y → B (i : Int) () = bif decide (x > y) then some (.inr (.inr a)) else some (.inl ())) {K : Option A} :
    (forN ((4 : Nat) : Int) B (fun _ => .inl ()) 0 ()).bind (Sum.elim (fun _ => K) some) = bif (v.zip u).all (fun q => decide (q.1 ≤ q.2)) then K else some a := by
  have hl : (v.zip u).length = 4 := by rw [List.length_zip]; omega
  rw [show ((4 : Nat) : Int) = ((v.zip u).length : Int) by rw [hl], loop_any (by omega) (fun q => decide (q.1 > q.2)) a (fun i q hq => by
    have h1 := List.getElem?_zip_eq_some.1 hq
    exact hB i q.1 q.2 h1.1 h1.2)]
  have h : (v.zip u).any (fun q => decide (q.1 > q.2)) = !((v.zip u).all fun q => decide (q.1 ≤ q.2)) := by
    refine any_not_all (fun q => ?_) _
    by_cases h : q.1 ≤ q.2
    · rw [decide_eq_true h, decide_eq_false (by omega)]; rfl
    · rw [decide_eq_false h, decide_eq_true (by omega)]; rfl
  rw [h]
  cases (v.zip u).all fun q => decide (q.1 ≤ q.2) <;> rfl
theorem impl_isOp_eq (x : Op) (hx : OpR x) : impl_isOp x = some (inB x.Office 0 3 && (decide (1 ≤ x.Number) && (wordB x.Key && (phraseB x.Text && (vecB x.Seen && decide (gv x.Seen x.Office = x.Number - 1)))))) := by
  unfold impl_isOp
  have hk := hx.k
  have ht := hx.t
  have hs := hx.s
  have hn := hx.n
  rw [within_eq, Option.bind_some]
  cases ho : inB x.Office 0 3
  · rfl
  · rw [inB_iff] at ho
    rw [cond_true, show decide (x.Number ≥ 1) = decide (1 ≤ x.Number) from rfl]
    by_cases h1 : 1 ≤ x.Number
    · rw [decide_eq_true h1, cond_true, impl_isWord _ (by unfold maxLen; omega), impl_isPhrase _ (by omega), impl_isVec _ (by unfold maxLen; omega)]
      cases wordB x.Key
      · rfl
      · cases phraseB x.Text
        · rfl
        · cases hv : vecB x.Seen
          · rfl
          · simp only [Option.bind_some, cond_true, (vecB_at hv ho.1 ho.2).1, w64_id (n := x.Number - 1) (by omega) (by omega), Bool.true_and]
            congr 1
    · rw [decide_eq_false h1]
      rfl
def logF : List Op → List Op → Bool
  | _, [] => true
  | P, x :: M => opB P x && logF (P ++ [x]) M
def logB (L : List Op) : Bool := logF [] L && decide (L.length ≤ 16)
theorem impl_isLog_eq (L : List Op) (hL : L.length ≤ 1048576) (hx : ∀ x ∈ L, OpR x) : impl_IsLog L = some (logB L) := by
  unfold impl_IsLog
  have key : ∀ (M P : List Op), L = P ++ M → offs P → iterN (fun (i : Nat) (_ : Unit) => ((at' L (i : Int)).bind fun x7 => ((impl_isOp x7).bind fun x8 => (bif (!x8) then some (.inr (.inr false)) else ((part' L 0 (i : Int)).bind fun x9 => ((impl_vectorOf x9).bind fun x10 => (((forN (x7.Seen.length : Int) (fun (i13 : Int) (_ : Unit) => ((at' x7.Seen i13).bind fun x17 => ((at' x10 i13).bind fun x18 => (bif (decide (x17 > x18)) then some (.inr (.inr (.inr (.inr false)))) else some (.inl ()))))) (fun (_ : Unit) => .inl ()) 0 ())).bind (Sum.elim (fun (_ : Unit) => ((at' x10 x7.Office).bind fun x19 => (bif (x7.Number != (w64 (x19 + 1))) then some (.inr (.inr false)) else some (.inl ())))) some)))))))) (fun _ => (.inl () : Unit ⊕ Bool)) M.length P.length () = some (bif logF P M then .inl () else .inr false) := by
    intro M
    induction M with
    | nil => intro P _ _; rfl
    | cons x M ih =>
      intro P h hP
      have hxr := hx x (by rw [h]; simp)
      have hat : at' L ((P.length : Nat) : Int) = some x := by rw [at_nat, h]; simp
      have hpl : P.length ≤ L.length := by rw [h]; simp
      have htk : L.take P.length = P := by rw [h]; simp
      have hpart : part' L 0 ((P.length : Nat) : Int) = some P := by
        rw [part_ok (by omega) (by omega) (by omega)]
        simp [htk]
      rw [show (x :: M).length = M.length + 1 from rfl]
      unfold iterN
      simp only [hat, Option.bind_some, impl_isOp_eq x hxr, hpart, impl_vec (L := P) (by omega) hP]
      by_cases hb : (inB x.Office 0 3 && (decide (1 ≤ x.Number) && (wordB x.Key && (phraseB x.Text && (vecB x.Seen && decide (gv x.Seen x.Office = x.Number - 1)))))) = true
      · rw [hb]
        simp only [Bool.and_eq_true, inB_iff, decide_eq_true_eq] at hb
        obtain ⟨ho, h1, h2, h3, h4, h5⟩ := hb
        have hl4 : x.Seen.length = 4 := by
          obtain ⟨a, b, c, d, e, _⟩ := vecB_four h4
          rw [e]; rfl
        have hcn := cn_le P x.Office
        rw [Bool.not_true, cond_false, hl4, zip_loop (v := x.Seen) (u := vec P) hl4 rfl _ (Sum.inr (Sum.inr false)) (fun i a b ha hb => by rw [at_nat, ha, Option.bind_some, at_nat, hb, Option.bind_some])]
        simp only [vec_at P ho.1 ho.2, Option.bind_some, w64_id (n := cn P x.Office + 1) (by omega) (by omega)]
        by_cases h6 : x.Number = cn P x.Office + 1
        · have e6 : (x.Number != cn P x.Office + 1) = false := by rw [h6]; simp
          rw [e6, cond_false]
          cases hz : (x.Seen.zip (vec P)).all (fun q => decide (q.1 ≤ q.2))
          · have : opB P x = false := by
              rw [Bool.eq_false_iff]
              intro hh
              have := (opB_iff.1 hh).2.2.2.2.2.2
              rw [hz] at this
              cases this
            unfold logF
            rw [this]
            rfl
          · have : opB P x = true := opB_iff.2 ⟨ho, h2, h3, h4, h5, h6, hz⟩
            unfold logF
            rw [this, cond_true, Option.bind_some, Sum.elim_inl]
            have := ih (P ++ [x]) (by rw [h]; simp) (fun y hy => by
              rcases List.mem_append.1 hy with hy | hy
              · exact hP y hy
              · rw [List.mem_singleton.1 hy]; exact ho)
            rw [List.length_append, List.length_singleton] at this
            rw [Bool.true_and]
            exact this
        · have e6 : (x.Number != cn P x.Office + 1) = true := by simpa using h6
          have : opB P x = false := by
            rw [Bool.eq_false_iff]
            intro hh
            exact h6 (opB_iff.1 hh).2.2.2.2.2.1
          rw [e6, cond_true]
          unfold logF
          rw [this]
          cases (x.Seen.zip (vec P)).all (fun q => decide (q.1 ≤ q.2)) <;> rfl
      · have hb' := Bool.eq_false_iff.2 hb
        have : opB P x = false := by
          rw [Bool.eq_false_iff]
          intro hh
          obtain ⟨ho, h2, h3, h4, h5, h6, h7⟩ := opB_iff.1 hh
          have hcn := cn_le P x.Office
          refine hb ?_
          simp only [Bool.and_eq_true, inB_iff, decide_eq_true_eq]
          exact ⟨ho, by omega, h2, h3, h4, h5⟩
        rw [hb']
        unfold logF
        rw [this]
        rfl
  rw [forN_iter _ (by omega)]
  have := key L [] rfl (by intro x hx; cases hx)
  rw [List.length_nil] at this
  rw [this]
  unfold logB
  have e : decide ((L.length : Int) ≤ 16) = decide (L.length ≤ 16) := by
    by_cases h : L.length ≤ 16
    · rw [decide_eq_true (show (L.length : Int) ≤ 16 by omega), decide_eq_true h]
    · rw [decide_eq_false (show ¬ (L.length : Int) ≤ 16 by omega), decide_eq_false h]
  rw [e]
  cases logF [] L <;> rfl
theorem spec_isLog_eq (L : List Op) (hL : L.length ≤ 1048576) (hx : ∀ x ∈ L, OpR x) : spec_IsLog L = some (logB L) := by
  unfold spec_IsLog
  have e0 : make' (0 : Int) 4 = some (vec []) := rfl
  rw [e0, Option.bind_some, forN_iter _ (by omega)]
  have key : ∀ (M P : List Op), L = P ++ M → offs P → iterN (fun (i : Nat) (s4 : List Int) => ((at' L (i : Int)).bind fun x8 => ((((spec_l01In x8.Office 0 3).bind fun x9 => (bif (!x9) then some true else ((spec_IsWord x8.Key).bind fun x10 => (bif (!x10) then some true else ((spec_IsPhrase x8.Text).bind fun x11 => (bif (!x11) then some true else ((spec_l32Vector x8.Seen).bind fun x12 => (bif (!x12) then some true else ((at' x8.Seen x8.Office).bind fun x13 => (bif (x13 != (w64 (x8.Number - 1))) then some true else ((at' s4 x8.Office).bind fun x14 => some (x8.Number != (w64 (x14 + 1))))))))))))))).bind fun (j15 : Bool) => (bif j15 then some (.inr (.inr false)) else (((forN (s4.length : Int) (fun (i19 : Int) (_ : Unit) => ((at' x8.Seen i19).bind fun x23 => ((at' s4 i19).bind fun x24 => (bif (decide (x23 > x24)) then some (.inr (.inr (.inr (.inr false)))) else some (.inl ()))))) (fun (_ : Unit) => .inl ()) 0 ())).bind (Sum.elim (fun (_ : Unit) => ((at' s4 x8.Office).bind fun _ => some (.inl (List.set s4 (Int.toNat x8.Office) x8.Number)))) some)))))) (fun _ => (.inl () : Unit ⊕ Bool)) M.length P.length (vec P) = some (bif logF P M then .inl () else .inr false) := by
    intro M
    induction M with
    | nil => intro P _ _; rfl
    | cons x M ih =>
      intro P h hP
      have hxr := hx x (by rw [h]; simp)
      have hk := hxr.k
      have ht := hxr.t
      have hs := hxr.s
      have hn := hxr.n
      have hpl : P.length ≤ L.length := by rw [h]; simp
      have hat : at' L ((P.length : Nat) : Int) = some x := by rw [at_nat, h]; simp
      rw [show (x :: M).length = M.length + 1 from rfl]
      unfold iterN
      simp only [hat, Option.bind_some, l01In_eq, spec_isWord x.Key (by unfold maxLen; omega), spec_isPhrase x.Text (by omega), spec_isVec x.Seen (by unfold maxLen; omega)]
      by_cases hb : inB x.Office 0 3 = true ∧ wordB x.Key = true ∧ phraseB x.Text = true ∧ vecB x.Seen = true
      · obtain ⟨ho, h2, h3, h4⟩ := hb
        rw [ho, h2, h3, h4]
        rw [inB_iff] at ho
        obtain ⟨h5, h5'⟩ := vecB_at h4 ho.1 ho.2
        have hl4 : x.Seen.length = 4 := by
          obtain ⟨a, b, c, d, e, _⟩ := vecB_four h4
          rw [e]; rfl
        have hcn := cn_le P x.Office
        simp only [Bool.not_true, cond_false, h5, Option.bind_some, vec_at P ho.1 ho.2, w64_id (n := cn P x.Office + 1) (by omega) (by omega)]
        rw [show (((vec P).length : Nat) : Int) = ((4 : Nat) : Int) from rfl, zip_loop (v := x.Seen) (u := vec P) hl4 rfl _ (Sum.inr (Sum.inr false)) (fun i a b ha hb => by rw [at_nat, ha, Option.bind_some, at_nat, hb, Option.bind_some])]
        by_cases h6 : gv x.Seen x.Office = x.Number - 1 ∧ x.Number = cn P x.Office + 1
        · obtain ⟨h6, h7⟩ := h6
          have e6 : (gv x.Seen x.Office != w64 (x.Number - 1)) = false := by rw [w64_id (by omega) (by omega), h6]; simp
          have e7 : (x.Number != cn P x.Office + 1) = false := by rw [h7]; simp
          rw [e6, cond_false, e7, Option.bind_some, cond_false]
          cases hz : (x.Seen.zip (vec P)).all (fun q => decide (q.1 ≤ q.2))
          · have : opB P x = false := by
              rw [Bool.eq_false_iff]
              intro hh
              have := (opB_iff.1 hh).2.2.2.2.2.2
              rw [hz] at this
              cases this
            unfold logF
            rw [this]
            rfl
          · have : opB P x = true := opB_iff.2 ⟨ho, h2, h3, h4, h6, h7, hz⟩
            unfold logF
            rw [this, cond_true, Option.bind_some, Sum.elim_inl, Bool.true_and, h7, vec_set P x ho.1 ho.2]
            have := ih (P ++ [x]) (by rw [h]; simp) (fun y hy => by
              rcases List.mem_append.1 hy with hy | hy
              · exact hP y hy
              · rw [List.mem_singleton.1 hy]; exact ho)
            rw [List.length_append, List.length_singleton] at this
            exact this
        · have : opB P x = false := by
            rw [Bool.eq_false_iff]
            intro hh
            exact h6 ⟨(opB_iff.1 hh).2.2.2.2.1, (opB_iff.1 hh).2.2.2.2.2.1⟩
          unfold logF
          rw [this]
          by_cases e6 : (gv x.Seen x.Office != w64 (x.Number - 1)) = true
          · rw [e6]
            rfl
          · have e6' := Bool.eq_false_iff.2 e6
            by_cases e7 : (x.Number != cn P x.Office + 1) = true
            · rw [e6', e7]
              rfl
            · exfalso
              have e8 : x.Number = cn P x.Office + 1 := by simpa using e7
              have e9 : gv x.Seen x.Office = w64 (x.Number - 1) := by simpa using e6
              rw [w64_id (by omega) (by omega)] at e9
              exact h6 ⟨e9, e8⟩
      · have : opB P x = false := by
          rw [Bool.eq_false_iff]
          intro hh
          obtain ⟨q1, q2, q3, q4, _⟩ := opB_iff.1 hh
          exact hb ⟨inB_iff.2 q1, q2, q3, q4⟩
        unfold logF
        rw [this]
        cases h1 : inB x.Office 0 3
        · rfl
        · cases h2 : wordB x.Key
          · rfl
          · cases h3 : phraseB x.Text
            · rfl
            · cases h4 : vecB x.Seen
              · rfl
              · exact (hb ⟨h1, h2, h3, h4⟩).elim
  have := key L [] rfl (by intro x hx; cases hx)
  rw [List.length_nil] at this
  rw [this]
  unfold logB
  have e : decide ((L.length : Int) ≤ 16) = decide (L.length ≤ 16) := by
    by_cases h : L.length ≤ 16
    · rw [decide_eq_true (show (L.length : Int) ≤ 16 by omega), decide_eq_true h]
    · rw [decide_eq_false (show ¬ (L.length : Int) ≤ 16 by omega), decide_eq_false h]
  rw [e]
  cases logF [] L <;> rfl
end Go.Proofs.YtbaainlnmackeaaGreatDoor.Sh
