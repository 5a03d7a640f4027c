/- New operations tell their text, rivals are at once; no condition. -/
import Derived.Test.YthfcdicfcepfhaaDoorTJ5
import Derived.Test.YthfcdicfcepfhaaDoorQA
namespace Go.Proofs.YthfcdicfcepfhaaDoor.Sh
open Go.RowKit Go.Lib
/-- What AtOnce answers. -/
def atV (L : List Op) (a b : Int) : Bool × Int := bif logB L then (bif inB a 0 ((L.length : Int) - 1) && (inB b 0 ((L.length : Int) - 1) && !(a == b)) then (match at' L a, at' L b with | some x, some y => (!knB x y && !knB y x, 0) | _, _ => (false, 2)) else (false, 2)) else (false, 1)
theorem atV_eq (L : List Op) (hL : L.length ≤ 1048576) (hx : ∀ x ∈ L, OpR x) (a b : Int) : impl_AtOnce L a b = some (atV L a b) := by
  unfold impl_AtOnce atV
  rw [impl_isLog_eq L hL hx]
  cases hlog : logB L
  · rfl
  · obtain ⟨h16, hg⟩ := logB_good hlog
    have e0 : impl_length_Op L = some (L.length : Int) := rfl
    simp only [Option.bind_some, Bool.not_true, cond_false, e0, w64_id (n := (L.length : Int) - 1) (by omega) (by omega), areWithin_eq [a, b] (by simp), List.all_cons, List.all_nil, Bool.and_true]
    cases ha : inB a 0 ((L.length : Int) - 1)
    · rfl
    · cases hb : inB b 0 ((L.length : Int) - 1)
      · rfl
      · cases hab : (a == b)
        · obtain ⟨x, ex, hxm⟩ := at_in ha
          obtain ⟨y, ey, hym⟩ := at_in hb
          simp only [Bool.and_self, Bool.not_true, cond_false, Option.bind_some, Sum.elim_inl, ex, ey, impl_knows (hg x hxm) (hg y hym), impl_knows (hg y hym) (hg x hxm), Bool.not_false, cond_true]
          cases knB x y <;> rfl
        · rfl
theorem atV_symm {L : List Op} {a b : Int} (h : (atV L a b).2 = 0) : atV L b a = atV L a b := by
  unfold atV at h ⊢
  cases hlog : logB L
  · rfl
  · rw [hlog] at h
    simp only [cond_true] at h ⊢
    have hab : (a == b) = (b == a) := Bool.beq_comm
    rw [hab] at h ⊢
    cases inB a 0 ((L.length : Int) - 1) <;> cases inB b 0 ((L.length : Int) - 1) <;> cases (b == a) <;> try rfl
    simp only [Bool.not_false, Bool.and_self, cond_true]
    cases at' L a <;> cases at' L b <;> try rfl
    simp only
    rw [Bool.and_comm]
theorem flat_lt {f : Nat → List Int} (hf : ∀ i, f i = [] ∨ f i = [(i : Int)]) : ∀ (M : List Nat), M.Pairwise (· < ·) → (M.flatMap f).Pairwise (· < ·)
  | [], _ => by simp
  | i :: M, h => by
    rw [List.pairwise_cons] at h
    rw [List.flatMap_cons, List.pairwise_append]
    refine ⟨by rcases hf i with e | e <;> rw [e] <;> simp, flat_lt hf M h.2, fun a ha b hb => ?_⟩
    obtain ⟨j, hj, hb⟩ := List.mem_flatMap.1 hb
    have h1 := h.1 j hj
    rcases hf i with e | e
    · rw [e] at ha; cases ha
    · rw [e, List.mem_singleton] at ha
      rcases hf j with e2 | e2
      · rw [e2] at hb; cases hb
      · rw [e2, List.mem_singleton] at hb
        omega
theorem rivF_two (L : List Op) (key : ByteArray) (i : Nat) : rivF L key i = [] ∨ rivF L key i = [(i : Int)] := by
  unfold rivF
  split
  · rename_i x _
    cases rivB L key x
    · exact .inl rfl
    · exact .inr rfl
  · exact .inl rfl
theorem rivals_lt (L : List Op) (key : ByteArray) : (rivals L key).Pairwise (· < ·) := flat_lt (rivF_two L key) _ List.pairwise_lt_range
theorem rivals_riv {L : List Op} {key : ByteArray} {i : Int} (h : i ∈ rivals L key) : ∃ x, at' L i = some x ∧ x ∈ L ∧ rivB L key x = true ∧ inB i 0 ((L.length : Int) - 1) = true := by
  obtain ⟨n, hn, h⟩ := List.mem_flatMap.1 h
  have hlt := List.mem_range.1 hn
  unfold rivF at h
  rw [List.getElem?_eq_getElem hlt] at h
  dsimp only at h
  cases hb : rivB L key L[n]
  · rw [hb] at h; simp at h
  · rw [hb] at h
    simp at h
    subst h
    exact ⟨L[n], by rw [at_nat, List.getElem?_eq_getElem hlt], List.getElem_mem hlt, hb, inB_iff.2 ⟨by omega, by omega⟩⟩
theorem riv_free {L : List Op} {key : ByteArray} {x y : Op} (hx : rivB L key x = true) (hy : rivB L key y = true) (hym : y ∈ L) : knB y x = false := by
  unfold rivB at hx hy
  rw [Bool.and_eq_true] at hx hy
  have h1 : (L.any fun y => (y.Key.toList == key.toList) && knB y x) = false := by simpa using hx.2
  have h2 := List.any_eq_false.1 h1 y hym
  rw [hy.1] at h2
  simpa using h2
theorem rivals_once {L : List Op} (hL : L.length ≤ 1048576) (hx : ∀ x ∈ L, OpR x) (hlog : logB L = true) {key : ByteArray} {i j : Nat} (hi : i < (rivals L key).length) (hj : j < i) : impl_AtOnce L (rivals L key)[i] ((rivals L key)[j]'(by omega)) = some (true, 0) := by
  rw [atV_eq L hL hx]
  obtain ⟨x, ex, hxm, hrx, hix⟩ := rivals_riv (List.getElem_mem hi)
  obtain ⟨y, ey, hym, hry, hiy⟩ := rivals_riv (List.getElem_mem (show j < (rivals L key).length by omega))
  have hlt := List.pairwise_iff_getElem.1 (rivals_lt L key) j i (by omega) hi hj
  have hne : ((rivals L key)[i] == (rivals L key)[j]'(by omega)) = false := by
    rw [beq_eq_false_iff_ne]
    omega
  unfold atV
  rw [hlog, hix, hiy, hne, ex, ey]
  dsimp only
  rw [riv_free hry hrx hxm, riv_free hrx hry hym]
  rfl
theorem logF_app : ∀ (M P : List Op) (x : Op), logF P (M ++ [x]) = (logF P M && opB (P ++ M) x)
  | [], P, x => by simp [logF]
  | y :: M, P, x => by
    show logF P (y :: (M ++ [x])) = _
    unfold logF
    rw [logF_app M (P ++ [y]) x, Bool.and_assoc, List.append_assoc]
    rfl
/-- Numbers and what is seen, against the counts of the whole. -/
theorem logF_count : ∀ {M P : List Op}, logF P M = true → ∀ y ∈ M, y.Number ≤ cn (P ++ M) y.Office ∧ ∀ o, 0 ≤ o → o ≤ 3 → gv y.Seen o ≤ cn (P ++ M) o
  | [], P, _ => by intro y hy; cases hy
  | x :: M, P, h => by
    unfold logF at h
    rw [Bool.and_eq_true] at h
    have mono : ∀ o, cn P o ≤ cn (P ++ x :: M) o := fun o => by
      unfold cn
      rw [List.countP_append]
      omega
    have e : P ++ x :: M = (P ++ [x]) ++ M := by simp
    intro y hy
    rcases List.mem_cons.1 hy with rfl | hy
    · obtain ⟨q1, _, _, q4, _, q6, q7⟩ := opB_iff.1 h.1
      refine ⟨?_, fun o h0 h3 => ?_⟩
      · rw [q6]
        unfold cn
        rw [List.countP_append, List.countP_cons]
        simp
        omega
      · obtain ⟨a, b, c, d, hv, _⟩ := vecB_four q4
        have := mono o
        rw [hv] at q7 ⊢
        unfold vec at q7
        simp only [List.zip_cons_cons, List.all_cons, Bool.and_eq_true, decide_eq_true_eq] at q7
        rcases off4 h0 h3 with rfl | rfl | rfl | rfl
        · exact Int.le_trans q7.1 this
        · exact Int.le_trans q7.2.1 this
        · exact Int.le_trans q7.2.2.1 this
        · exact Int.le_trans q7.2.2.2.1 this
    · rw [e]
      exact logF_count h.2 y hy
theorem newOp {L : List Op} {o : Int} {key text : ByteArray} (hlog : logB L = true) (h16 : L.length ≠ 16) (ho : inB o 0 3 = true) (hk : wordB key = true) (ht : phraseB text = true) : logB (L ++ [Op.mk o (cn L o + 1) key text (vec L)]) = true ∧ rivals (L ++ [Op.mk o (cn L o + 1) key text (vec L)]) key = [(L.length : Int)] := by
  have hio := inB_iff.1 ho
  have hlog2 := hlog
  unfold logB at hlog2
  rw [Bool.and_eq_true, decide_eq_true_eq] at hlog2
  generalize hx : Op.mk o (cn L o + 1) key text (vec L) = x
  have hop : opB L x = true := by
    rw [← hx]
    refine opB_iff.2 ⟨hio, hk, ht, vecB_vec L, ?_, rfl, ?_⟩
    · dsimp only
      rw [gv_vec L hio.1 hio.2]
      omega
    · dsimp only
      unfold vec
      simp
  have h1 : logB (L ++ [x]) = true := by
    unfold logB
    rw [logF_app, hlog2.1, List.nil_append, hop, List.length_append, List.length_singleton, decide_eq_true (by omega)]
    rfl
  refine ⟨h1, ?_⟩
  obtain ⟨_, hg⟩ := logB_good h1
  have hxm : x ∈ L ++ [x] := by simp
  have hcnt := logF_count hlog2.1
  rw [List.nil_append] at hcnt
  have hkx : (x.Key.toList == key.toList) = true := by rw [← hx]; simp
  have no : ∀ y ∈ L, rivB (L ++ [x]) key y = false := by
    intro y hy
    unfold rivB
    rw [Bool.and_eq_false_iff]
    right
    rw [Bool.not_eq_false', List.any_eq_true]
    refine ⟨x, hxm, ?_⟩
    rw [hkx, Bool.true_and]
    have hyo := (hg y (by simp [hy])).o
    unfold knB
    rw [← hx]
    dsimp only
    rw [gv_vec L hyo.1 hyo.2]
    exact decide_eq_true (hcnt y hy).1
  have yes : rivB (L ++ [x]) key x = true := by
    unfold rivB
    rw [hkx, Bool.true_and, Bool.not_eq_true', List.any_eq_false]
    intro y hy
    rcases List.mem_append.1 hy with hy | hy
    · have h2 : knB y x = false := by
        unfold knB
        rw [← hx]
        dsimp only
        have := (hcnt y hy).2 o hio.1 hio.2
        exact decide_eq_false (by omega)
      rw [h2]
      simp
    · rw [List.mem_singleton.1 hy, knB_self (hg x hxm)]
      simp
  unfold rivals
  rw [List.length_append, List.length_singleton, List.range_succ, List.flatMap_append, List.flatMap_singleton]
  have e1 : (List.range L.length).flatMap (rivF (L ++ [x]) key) = [] := by
    rw [List.flatMap_eq_nil_iff]
    intro i hi
    have hlt := List.mem_range.1 hi
    unfold rivF
    rw [List.getElem?_append_left hlt, List.getElem?_eq_getElem hlt]
    dsimp only
    rw [no _ (List.getElem_mem hlt)]
    rfl
  rw [e1]
  unfold rivF
  have e2 : (L ++ [x])[L.length]? = some x := by simp
  rw [e2]
  dsimp only
  rw [yes]
  rfl
theorem likeInts_self (L : List Int) (hL : L.length ≤ 1000000000) : laws_likeInts L L = some true := by
  unfold laws_likeInts
  rw [bne_self_eq_false, cond_false]
  exact loop_same (by omega) (fun i x hx => by rw [at_nat, hx]; simp)
theorem likeOps_self (L : List Op) (hL : L.length ≤ 1000000000) (h : ∀ x ∈ L, OpR x) : laws_likeOps L L = some true := by
  unfold laws_likeOps
  rw [bne_self_eq_false, cond_false]
  exact loop_same (by omega) (fun i x hx => by
    have hs := (h x (List.mem_of_getElem? hx)).s
    simp only [at_nat, hx, Option.bind_some, bne_self_eq_false, cond_false, beq_self_eq_true, Bool.not_true, likeInts_self x.Seen (by omega)])
theorem forG_ok {n : Nat} (hn : n ≤ 1000000) {c : Bool} {B : Int → Unit → Option (Unit ⊕ (Unit ⊕ Bool))} (h : c = true → ∀ i : Nat, i < n → B (i : Int) () = some (.inl ())) : forG (fun (i19 : Int) (_ : Unit) => (c && (decide (i19 < (n : Int))))) B (fun _ => .inl ()) 0 () = some (.inl ()) := by
  cases c
  · unfold forG
    rw [loop_eq]
    rfl
  · have key : ∀ (k i : Nat), i + k = n → forG (fun (i19 : Int) (_ : Unit) => (true && (decide (i19 < (n : Int))))) B (fun _ => .inl ()) (i : Int) () = some (.inl ()) := by
      intro k
      induction k with
      | zero =>
        intro i hi
        unfold forG
        rw [loop_eq]
        dsimp only
        rw [decide_eq_false (by omega)]
        rfl
      | succ k ih =>
        intro i hi
        unfold forG
        rw [loop_eq]
        dsimp only
        rw [decide_eq_true (by omega), Bool.and_self, cond_true, h rfl i (by omega)]
        simp only [Option.bind_some, Sum.elim_inl]
        rw [w64_id (by omega) (by omega), show (i : Int) + 1 = ((i + 1 : Nat) : Int) by omega]
        have := ih (i + 1) (by omega)
        unfold forG at this
        exact this
    exact key n 0 (by omega)
theorem FnOps_true (c : List Int) (hc : c.length ≤ maxLen ∧ ∀ x ∈ c, okU8 x) : laws_FnOps c = some true := by
  unfold laws_FnOps laws_big
  rw [Option.bind_some]
  by_cases hbig : (c.length : Int) > 4096
  · rw [decide_eq_true hbig]
    rfl
  rw [decide_eq_false hbig, cond_false]
  have hcode : CodeOk c := ⟨by omega, hc.2⟩
  obtain ⟨s0, f0, c0⟩ := from_ok hcode
  obtain ⟨L, s1, f1, dL, c1⟩ := l32Draw_ok c0
  obtain ⟨o, s2, f2, _, c2⟩ := pick_ok c1 (l := [0, 1, 2, 3, 0, 1, 4, -1]) (by simp) (by simp)
  obtain ⟨key, s3, f3, hkey, c3⟩ := drawWord_ok c2
  obtain ⟨text, s4, f4, htext, c4⟩ := drawPhrase_ok c3
  have d1 : spec_DrawMakeOp c = some (L, o, key, text) := by
    unfold spec_DrawMakeOp
    simp only [f0, f1, f2, f3, f4, Option.bind_some]
  obtain ⟨x3, s5, f5, a5, b5, c5⟩ := next_ok c1 3 (by omega)
  obtain ⟨k2, f6, hk2⟩ : ∃ y, at' ([(ByteArray.mk #[97, 115, 104]), (ByteArray.mk #[98, 114, 105, 103]), (ByteArray.mk #[110, 111, 110, 101])] : List ByteArray) x3 = some y ∧ y.size ≤ 20 := by
    obtain ⟨y, e, hm⟩ := one_of ([(ByteArray.mk #[97, 115, 104]), (ByteArray.mk #[98, 114, 105, 103]), (ByteArray.mk #[110, 111, 110, 101])] : List ByteArray) a5 (by simp; omega) (by simp)
    exact ⟨y, e, by simp at hm; rcases hm with rfl | rfl | rfl <;> decide⟩
  have d2 : spec_DrawRivalsOf c = some (L, k2) := by
    unfold spec_DrawRivalsOf spec_DrawTextOf
    simp only [f0, f1, f5, f6, Option.bind_some]
  have hLl := dL.1
  have hL : L.length ≤ 1048576 := by omega
  obtain ⟨x7, s7, f7, a7, b7, c7⟩ := next_ok c1 (maxI 1 (L.length : Int)) (by unfold maxI; split <;> omega)
  obtain ⟨x8, s8, f8, a8, b8, c8⟩ := next_ok c7 24 (by omega)
  obtain ⟨x9, s9, f9, a9, b9, c9⟩ := next_ok c8 (w64 ((L.length : Int) + 1)) (by rw [w64_id (by omega) (by omega)]; omega)
  have d3 : spec_DrawAtOnce c = some (L, w64 (x7 - w64 (Int.tdiv x8 23)), x9) := by
    unfold spec_DrawAtOnce
    simp only [f0, f1, f7, f8, f9, Option.bind_some]
  generalize w64 (x7 - w64 (Int.tdiv x8 23)) = a at d3
  obtain ⟨r, m1, m2, hr⟩ := makeOp_eq L o key text hL dL.2 (by omega) (by omega)
  obtain ⟨q, q1, q2, hq⟩ := (rivalsOf_eq L hL dL.2 k2 _ _ rfl rfl : ∃ r, impl_RivalsOf L k2 = some r ∧ spec_RivalsOf L k2 = some r ∧ r.1.length ≤ 100)
  obtain ⟨t, t1, t2⟩ := textOf_eq L hL dL.2 k2
  obtain ⟨v, v1, v2⟩ := atOnce_eq L hL dL.2 a x9
  have hv : v = atV L a x9 := by
    rw [atV_eq L hL dL.2] at v1
    exact (Option.some.inj v1).symm
  have e1 := likeOps_self r.1 (by have := hr.1; omega) hr.2
  have e2 := likeInts_self q.1 (by omega)
  have g1 : ((q.2 == 0) && (!((decide ((q.1.length : Int) > 0)) == (t.2 == 0)))) = false := by
    cases hlog : logB L
    · have hq2 : q.2 = 1 := by
        have h1 := q1
        unfold impl_RivalsOf at h1
        rw [impl_isLog_eq L hL dL.2, hlog] at h1
        have := Option.some.inj h1
        rw [← this]
      rw [hq2]
      rfl
    · have hq1 : q = (rivals L k2, 0) := by
        have h1 := q1
        unfold impl_RivalsOf at h1
        rw [impl_isLog_eq L hL dL.2, hlog, impl_rivals hlog] at h1
        exact (Option.some.inj h1).symm
      obtain ⟨t', c', w1, _, w3, w4, _⟩ := textOf_val hL dL.2 hlog k2
      rw [t1] at w1
      have ht := Option.some.inj w1
      subst hq1 ht
      dsimp only
      by_cases hn : rivals L k2 = []
      · have hc' : c' ≠ 0 := fun h => (w4.1 h) hn
        rw [hn]
        have : (c' == 0) = false := by rw [beq_eq_false_iff_ne]; exact hc'
        rw [this]
        rfl
      · have hc' : c' = 0 := w4.2 hn
        have := List.length_pos_iff.2 hn
        rw [hc', decide_eq_true (by omega)]
        rfl
  have g2 := forG_ok (n := q.1.length) (by omega) (c := (q.2 == 0)) (B := fun (i19 : Int) (_ : Unit) => (forN i19 (fun (i23 : Int) (_ : Unit) => ((at' q.1 i19).bind fun x27 => ((at' q.1 i23).bind fun x28 => ((impl_AtOnce L x27 x28).bind fun x29 => (bif ((x29.2 != 0) || (!x29.1)) then some (.inr (.inr (.inr false))) else some (.inl ())))))) (fun (_ : Unit) => .inl ()) 0 ())) (fun hz i hi => by
    have hlog : logB L = true := by
      cases hlog : logB L
      · have h1 := q1
        unfold impl_RivalsOf at h1
        rw [impl_isLog_eq L hL dL.2, hlog] at h1
        have := Option.some.inj h1
        rw [← this] at hz
        cases hz
      · rfl
    have hq1 : q = (rivals L k2, 0) := by
      have h1 := q1
      unfold impl_RivalsOf at h1
      rw [impl_isLog_eq L hL dL.2, hlog, impl_rivals hlog] at h1
      exact (Option.some.inj h1).symm
    subst hq1
    have hq' : (rivals L k2).length ≤ 100 := hq
    dsimp only at hi ⊢
    rw [forN_iter _ (by omega)]
    have key : ∀ (k j : Nat), j + k = i → iterN (fun (j : Nat) (_ : Unit) => ((at' (rivals L k2) (i : Int)).bind fun x27 => ((at' (rivals L k2) (j : Int)).bind fun x28 => ((impl_AtOnce L x27 x28).bind fun x29 => (bif ((x29.2 != 0) || (!x29.1)) then some (.inr (.inr (.inr false))) else some (.inl ())))))) (fun (_ : Unit) => (.inl () : Unit ⊕ (Unit ⊕ Bool))) k j () = some (.inl ()) := by
      intro k
      induction k with
      | zero => intro j _; rfl
      | succ k ih =>
        intro j hj
        have e : ((at' (rivals L k2) (i : Int)).bind fun x27 => ((at' (rivals L k2) (j : Int)).bind fun x28 => ((impl_AtOnce L x27 x28).bind fun x29 => (bif ((x29.2 != 0) || (!x29.1)) then some (.inr (.inr (.inr false))) else some (.inl ()))))) = (some (.inl ()) : Option (Unit ⊕ (Unit ⊕ (Unit ⊕ Bool)))) := by
          rw [at_nat, List.getElem?_eq_getElem hi, Option.bind_some, at_nat, List.getElem?_eq_getElem (show j < (rivals L k2).length by omega), Option.bind_some, rivals_once hL dL.2 hlog hi (show j < i by omega)]
          rfl
        unfold iterN
        rw [e]
        exact ih (j + 1) (by omega)
    exact key i 0 (by omega))
  have g3 : (bif (v.2 == 0) then ((impl_AtOnce L x9 a).bind fun x32 => (bif ((x32.2 != 0) || (!(x32.1 == v.1))) then some (Sum.inr false : Unit ⊕ Bool) else some (.inl ()))) else some (.inl ())) = some (.inl ()) := by
    by_cases h : v.2 = 0
    · have h2 := h
      rw [hv] at h2
      rw [h, beq_self_eq_true, cond_true, atV_eq L hL dL.2, atV_symm h2, ← hv, Option.bind_some, h]
      simp
    · have : (v.2 == 0) = false := by rw [beq_eq_false_iff_ne]; exact h
      rw [this]
      rfl
  have g4 : (bif (r.2 != 0) then some true else ((impl_TextOf r.1 key).bind fun x33 => (((bif (x33.2 == 0) then (bif (x33.1.toList == text.toList) then ((impl_IsLog r.1).bind fun x34 => some x34) else some false) else some false)).bind fun (j35 : Bool) => some j35))) = some true := by
    by_cases h : r.2 = 0
    · obtain ⟨hlog, h16, ho, hk, ht, e⟩ := makeOp_val L o key text hL dL.2 (by omega) (by omega) m1 h
      obtain ⟨n1, n2⟩ := newOp hlog h16 ho hk ht
      rw [← e] at n1 n2
      obtain ⟨t', c', w1, _, w3, w4, w5⟩ := textOf_val (L := r.1) (by have := hr.1; omega) hr.2 n1 key
      have hc' : c' = 0 := w4.2 (by rw [n2]; simp)
      obtain ⟨i, x, hi, ex, ht'⟩ := w5 hc'
      rw [n2, List.mem_singleton] at hi
      subst hi
      rw [e, at_nat] at ex
      simp at ex
      subst ex
      rw [h, w1, impl_isLog_eq r.1 (by have := hr.1; omega) hr.2, n1, hc', ht']
      simp
    · have : (r.2 != 0) = true := by simpa using h
      rw [this]
      rfl
  simp only [d1, d2, d3, m1, m2, q1, q2, t1, t2, v1, v2, e1, e2, Option.bind_some, bne_self_eq_false, cond_false, Bool.not_true, beq_self_eq_true]
  rw [g1, cond_false, g2, Option.bind_some, Sum.elim_inl, g3, Option.bind_some, Sum.elim_inl, g4]
end Go.Proofs.YthfcdicfcepfhaaDoor.Sh
