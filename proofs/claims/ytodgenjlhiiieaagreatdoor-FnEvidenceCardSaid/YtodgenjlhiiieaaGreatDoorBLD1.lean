/- Plain laws: the distance of two phrases is nothing for one phrase alone; evidence and answers of a question. -/
import Derived.Test.YtodgenjlhiiieaaGreatDoorBLC9
import Derived.Test.YtodgenjlhiiieaaGreatDoorBD5
namespace Go.Proofs.YtodgenjlhiiieaaGreatDoor.Sh
open Go.RowKit Go.Lib
theorem lev_zero : ∀ (n : Nat) (xs ys : List UInt8), xs.length + ys.length ≤ n → (lev xs ys = 0 ↔ xs = ys)
  | n, [], ys, _ => by
    cases ys <;> simp [lev]
  | n, x :: xs, [], _ => by rw [lev_nil]; simp
  | 0, x :: xs, y :: ys, h => by simp at h
  | n + 1, x :: xs, y :: ys, h => by
    simp only [List.length_cons] at h
    have ih := lev_zero n xs ys (by omega)
    rw [lev_cons]
    by_cases e : x = y
    · subst e
      rw [if_pos rfl]
      constructor
      · intro h0
        rw [ih.1 (by omega)]
      · intro h0
        injection h0 with _ h0
        have := ih.2 h0
        omega
    · rw [if_neg e]
      constructor
      · intro h0
        omega
      · intro h0
        injection h0 with h1 _
        exact absurd h1 e
theorem dist_zero (a b : ByteArray) : dist a b = 0 ↔ a = b := by
  unfold dist levP
  rw [← size_list a, ← size_list b, List.take_length, List.take_length]
  have := lev_zero _ a.data.toList.reverse b.data.toList.reverse (Nat.le_refl _)
  constructor
  · intro h
    have h1 := List.reverse_inj.1 (this.1 (by omega))
    cases a; cases b
    congr 1
    exact Array.toList_inj.1 h1
  · rintro rfl
    have := this.2 rfl
    omega
theorem fold_zero {f : Nat → Int} : ∀ {k : Nat}, k ≤ 100 → (∀ i, i < k → 0 ≤ f i ∧ f i ≤ 100) → (0 ≤ (List.range k).foldl (fun s i => w64 (s + f i)) 0 ∧ (List.range k).foldl (fun s i => w64 (s + f i)) 0 ≤ 100 * k) ∧ ((List.range k).foldl (fun s i => w64 (s + f i)) 0 = 0 ↔ ∀ i, i < k → f i = 0)
  | 0, _, _ => ⟨by simp, by simp⟩
  | k + 1, hk, h => by
    obtain ⟨h1, h2⟩ := fold_zero (k := k) (by omega) (fun i hi => h i (by omega))
    rw [List.range_succ, List.foldl_append]
    simp only [List.foldl_cons, List.foldl_nil]
    have hf := h k (by omega)
    generalize (List.range k).foldl (fun s i => w64 (s + f i)) 0 = r at h1 h2 ⊢
    rw [w64_id (by omega) (by omega)]
    refine ⟨by omega, ?_⟩
    constructor
    · intro h0 i hi
      by_cases hik : i = k
      · rw [hik]; omega
      · exact h2.1 (by omega) i (by omega)
    · intro h0
      have := h2.2 (fun i hi => h0 i (by omega))
      have := h0 k (by omega)
      omega
def unsplit (c : UInt8) : List (List UInt8) → List UInt8
  | [] => []
  | [y] => y
  | y :: z :: r => y ++ c :: unsplit c (z :: r)
theorem unsplit_splitL (c : UInt8) : ∀ l : List UInt8, splitL c l ≠ [] ∧ unsplit c (splitL c l) = l
  | [] => by simp [splitL, unsplit]
  | x :: l => by
    obtain ⟨h1, h2⟩ := unsplit_splitL c l
    cases hs : splitL c l with
    | nil => exact absurd hs h1
    | cons y r =>
      rw [hs] at h2
      unfold splitL
      rw [hs]
      by_cases hx : x = c
      · subst hx
        simp [unsplit, h2]
      · simp only [hx, if_false]
        cases r with
        | nil => simpa [unsplit] using h2
        | cons z r => simpa [unsplit] using h2
theorem splitS_inj {a b : ByteArray} {c : UInt8} (h : splitS a c = splitS b c) : a = b := by
  unfold splitS at h
  have h1 : splitL c a.data.toList = splitL c b.data.toList := by
    have := congrArg (List.map fun s : ByteArray => s.data.toList) h
    simpa [List.map_map, Function.comp_def] using this
  have h2 := congrArg (unsplit c) h1
  rw [(unsplit_splitL c _).2, (unsplit_splitL c _).2] at h2
  cases a; cases b
  congr 1
  exact Array.toList_inj.1 h2
theorem words_pos {s : ByteArray} (h : phraseB s = true) : ∀ x ∈ splitS s 32, 1 ≤ x.size := by
  unfold phraseB at h
  rw [Bool.and_eq_true, decide_eq_true_eq, List.all_eq_true] at h
  exact fun x hx => (wordB_size (h.2 x hx)).1
theorem getD_size {x : List ByteArray} (h : ∀ z ∈ x, z.size ≤ 16) (i : Nat) : (x.getD i tNo).size ≤ 16 := by
  by_cases hi : i < x.length
  · rw [List.getD_eq_getElem?_getD, List.getElem?_eq_getElem hi]
    exact h _ (List.getElem_mem hi)
  · rw [getD_none (by omega)]
    exact Nat.zero_le _
/-- The distance of phrases: small, and nothing for one phrase alone. -/
theorem phD_zero {a b : ByteArray} (ha : phraseB a = true) (hb : phraseB b = true) : (0 ≤ phD (splitS a 32) (splitS b 32) ∧ phD (splitS a 32) (splitS b 32) ≤ 800) ∧ (phD (splitS a 32) (splitS b 32) = 0 ↔ a = b) := by
  obtain ⟨la, sa⟩ := words_small ha
  obtain ⟨lb, sb⟩ := words_small hb
  have pa := words_pos ha
  have pb := words_pos hb
  have hm : max (splitS a 32).length (splitS b 32).length ≤ 8 := by omega
  have hf := fold_zero (f := dAt (splitS a 32) (splitS b 32)) (k := max (splitS a 32).length (splitS b 32).length) (by omega) (fun i _ => by
    unfold dAt
    have := dist_bounds ((splitS a 32).getD i tNo) ((splitS b 32).getD i tNo)
    have := getD_size sa i
    have := getD_size sb i
    omega)
  refine ⟨⟨hf.1.1, by have := hf.1.2; unfold phD; omega⟩, ?_⟩
  unfold phD
  rw [hf.2]
  constructor
  · intro h
    apply splitS_inj (c := 32)
    have hz : tNo.size = 0 := rfl
    have hat : ∀ i, i < max (splitS a 32).length (splitS b 32).length → (splitS a 32).getD i tNo = (splitS b 32).getD i tNo := fun i hi => (dist_zero _ _).1 (h i hi)
    have hlen : (splitS a 32).length = (splitS b 32).length := by
      rcases Nat.lt_trichotomy (splitS a 32).length (splitS b 32).length with hl | hl | hl
      · have := hat (splitS a 32).length (by omega)
        rw [getD_none (Nat.le_refl _), List.getD_eq_getElem?_getD, List.getElem?_eq_getElem hl] at this
        have h1 := pb _ (List.getElem_mem hl)
        rw [show (splitS b 32)[(splitS a 32).length] = tNo from this.symm] at h1
        omega
      · exact hl
      · have := hat (splitS b 32).length (by omega)
        rw [getD_none (Nat.le_refl _), List.getD_eq_getElem?_getD, List.getElem?_eq_getElem hl] at this
        have h1 := pa _ (List.getElem_mem hl)
        rw [show (splitS a 32)[(splitS b 32).length] = tNo from this] at h1
        omega
    refine List.ext_getElem hlen fun i h1 h2 => ?_
    have := hat i (by omega)
    rw [List.getD_eq_getElem?_getD, List.getD_eq_getElem?_getD, List.getElem?_eq_getElem h1, List.getElem?_eq_getElem h2] at this
    exact this
  · rintro rfl
    exact fun i _ => (dist_zero _ _).2 rfl
def PD (a b : ByteArray) : Int × Int := bif phraseB a && phraseB b then (phD (splitS a 32) (splitS b 32), 0) else (0, 1)
theorem impl_PD (a b : ByteArray) (ha : a.size ≤ 1048576) (hb : b.size ≤ 1048576) : impl_PhraseDistance a b = some (PD a b) := by
  unfold impl_PhraseDistance impl_arePhrases
  have h := loop_any (K := some true) (L := [a, b]) (by simp) (fun x => !phraseB x) false (B := fun (i3 : Int) (_ : Unit) => ((at' [a, b] i3).bind fun x7 => ((impl_IsPhrase x7).bind fun x8 => (bif (!x8) then some (.inr (.inr false)) else some (.inl ()))))) (fun i x hx => by
    have hs : x.size ≤ 1048576 := by
      rcases List.mem_cons.1 (List.mem_of_getElem? hx) with rfl | hm
      · exact ha
      · rw [List.mem_singleton.1 hm]; exact hb
    rw [at_nat, hx, Option.bind_some, impl_isPhrase x (by omega), Option.bind_some])
  rw [h]
  unfold PD
  cases pa : phraseB a
  · simp [pa]
  · cases pb : phraseB b
    · simp [pa, pb]
    · simp only [List.any_cons, List.any_nil, pa, pb, Bool.not_true, Bool.or_false, cond_false, Option.bind_some, Sum.elim_inl, Bool.and_true, cond_true, impl_ph a b ha hb pa pb]
theorem spec_PD (a b : ByteArray) (ha : a.size ≤ 1048576) (hb : b.size ≤ 1048576) : spec_PhraseDistance a b = some (PD a b) := by
  unfold spec_PhraseDistance PD
  rw [spec_isPhrase a (by omega), spec_isPhrase b (by omega), Option.bind_some]
  cases pa : phraseB a
  · rfl
  · cases pb : phraseB b
    · rfl
    · simp only [Option.bind_some, Bool.not_true, cond_false, Bool.and_true, cond_true, spec_ph a b ha hb pa pb]
theorem PD_comm (a b : ByteArray) : PD b a = PD a b := by
  unfold PD
  rw [phD_comm, Bool.and_comm]
theorem PD_zero {a b : ByteArray} (h : (PD a b).2 = 0) : ((PD a b).1 == 0) = (a.toList == b.toList) := by
  unfold PD at h ⊢
  cases pa : phraseB a
  · rw [pa] at h; cases h
  · cases pb : phraseB b
    · rw [pa, pb] at h; cases h
    · have hz := (phD_zero pa pb).2
      simp only [Bool.and_true, cond_true]
      by_cases he : a = b
      · have h1 := hz.2 he
        subst he
        rw [h1, beq_self_eq_true, beq_self_eq_true]
      · have h1 : ¬ phD (splitS a 32) (splitS b 32) = 0 := fun h => he (hz.1 h)
        rw [beq_eq_false_iff_ne.2 h1]
        cases hq : a.toList == b.toList with
        | false => rfl
        | true => exact absurd (beqL.1 hq) he
theorem likeInts_self (L : List Int) (hL : L.length ≤ 1048576) : laws_likeInts L L = some true := by
  unfold laws_likeInts
  rw [bne_self_eq_false, cond_false, loop_any (by omega) (fun _ => false) false (fun i x hx => by
    rw [at_nat, hx]
    simp)]
  have : (L.any fun _ => false) = false := by simp
  rw [this]
  rfl
theorem likeTexts_self (L : List ByteArray) (hL : L.length ≤ 1048576) : laws_likeTexts L L = some true := by
  unfold laws_likeTexts
  rw [bne_self_eq_false, cond_false, loop_any (by omega) (fun _ => false) false (fun i x hx => by
    rw [at_nat, hx]
    simp)]
  have : (L.any fun _ => false) = false := by simp
  rw [this]
  rfl
section
variable {C : List Candidate} {t : ByteArray} {L : List Site} {ds : List Description}
theorem cntN_len (p : Point) : ∀ {ds : List Description}, ds.length ≤ 1000 → cntN L ds p = ((ds.filter fun d => satB L d p).length : Int) := by
  intro ds
  unfold cntN
  have key : ∀ (M : List Description) (k : Nat), k + M.length ≤ 1000 → M.foldl (fun s d => bif satB L d p then w64 (s + 1) else s) (k : Int) = ((k + (M.filter fun d => satB L d p).length : Nat) : Int) := by
    intro M
    induction M with
    | nil => intro k _; simp
    | cons d M ih =>
      intro k hk
      rw [List.length_cons] at hk
      rw [List.foldl_cons, List.filter_cons]
      cases satB L d p
      · simp only [cond_false]
        rw [ih k (by omega)]
        simp
      · simp only [cond_true]
        rw [w64_id (by omega) (by omega), show (k : Int) + 1 = ((k + 1 : Nat) : Int) by omega, ih (k + 1) (by omega)]
        simp
        omega
  intro h
  have := key ds 0 (by omega)
  simpa using this
theorem cntN_ev (p : Point) (h : ds.length ≤ 1000) : cntN L ds p = ((evL' L ds p).length : Int) := by
  rw [cntN_len p h]
  unfold evL'
  rw [List.length_map]
theorem answerFor_val (a : Asked C t L ds) {cb s : Bool} (hc : candsR C = some cb) (hs : sitesR L = some s) (c : ByteArray) :
    (qCode C t L ds cb s ≠ 0 → impl_AnswerFor C c t L ds = some (Answer.mk (ByteArray.mk #[]) 0 0, qCode C t L ds cb s)) ∧
    (qCode C t L ds cb s = 0 → C.any (codeC c) = false → impl_AnswerFor C c t L ds = some (Answer.mk (ByteArray.mk #[]) 0 0, 4)) ∧
    ∀ i x, qCode C t L ds cb s = 0 → idxP (codeC c) C = ((i : Nat) : Int) → C[i]? = some x → impl_AnswerFor C c t L ds = some (ansOf t L ds x, 0) := by
  refine ⟨fun h0 => ?_, fun h0 hany => ?_, fun i x h0 h1 h2 => ?_⟩
  · unfold impl_AnswerFor
    have e2 : (qCode C t L ds cb s != 0) = true := by rw [bne_iff_ne]; exact h0
    rw [impl_qcode a hc hs, Option.bind_some, e2]
    rfl
  · unfold impl_AnswerFor
    rw [impl_qcode a hc hs, Option.bind_some, h0, impl_findC a.c, Option.bind_some, idxP_neg, hany]
    rfl
  · obtain ⟨f, pt, _, hC⟩ := qcode_ok a hc hs h0
    unfold impl_AnswerFor
    rw [impl_qcode a hc hs, Option.bind_some, h0, impl_findC a.c, Option.bind_some, h1]
    rw [decide_eq_false (show ¬ ((i : Nat) : Int) < 0 by omega)]
    simp only [show ((0 : Int) != 0) = false from rfl, cond_false, at_nat, h2, Option.bind_some, impl_ans f pt a.t (hC x (List.mem_of_getElem? h2))]
/-- How much of the evidence there is, in an answer. -/
theorem evidence_sat (a : Asked C (ByteArray.mk #[97]) L ds) (c : ByteArray) {r : List ByteArray × Int} (hr : impl_EvidenceFor C c L ds = some r) (h2 : r.2 = 0) : ∃ w, impl_AnswerFor C c (ByteArray.mk #[97]) L ds = some (w, 0) ∧ w.Satisfied = (r.1.length : Int) := by
  obtain ⟨cb, hc⟩ := candsR_some C
  obtain ⟨s, hs⟩ := sitesR_some L
  obtain ⟨_, _, v3⟩ := answerFor_val a hc hs c
  unfold impl_EvidenceFor at hr
  have hq : qCode C (ByteArray.mk #[97]) L ds cb s = codeS L ds s cb := by unfold qCode; rw [phrase_a, Bool.and_true]
  rw [impl_cands_eq a.c a.c1, hc, Option.bind_some, impl_siteCode_eq a.l a.l1 a.d a.d1 _ hs, Option.bind_some, impl_findC a.c] at hr
  simp only [Option.bind_some, idxP_neg] at hr
  by_cases h0 : codeS L ds s cb = 0
  · obtain ⟨f, pt, _, hC⟩ := qcode_ok a hc hs (by rw [hq]; exact h0)
    rw [h0] at hr
    cases hany : C.any (codeC c) with
    | false =>
      rw [hany] at hr
      simp only [show ((0 : Int) != 0) = false from rfl, Bool.not_false, cond_false, cond_true, Option.some.injEq] at hr
      rw [← hr] at h2
      cases h2
    | true =>
      rcases idx_find (codeC c) C with ⟨_, h2'⟩ | ⟨i, x, h1, hx2, h3⟩
      · rw [← List.isSome_find?, h2'] at hany
        cases hany
      · have hx := hC x (List.mem_of_getElem? hx2)
        rw [hany] at hr
        simp only [show ((0 : Int) != 0) = false from rfl, Bool.not_true, cond_false, cond_true, Option.bind_some, h1] at hr
        have hk := f.k
        have e1 := forS_seq (n := ds.length) (by omega) (B := fun (i6 : Int) (s6 : (List ByteArray)) => ((at' ds i6).bind fun x10 => ((at' C (i : Int)).bind fun x11 => ((impl_satisfies L x10 x11.At).bind fun x12 => (bif x12 then ((impl_descriptionText x10).bind fun x13 => ((app' s6 ([x13] : List ByteArray)).bind fun x14 => some x14)) else some s6))))) (D := fun (s6 : (List ByteArray)) => s6) (fun k => evL' L (ds.take k) x.At) (fun j hj => by
          have hd : ds[j]? = some (ds[j]'hj) := List.getElem?_eq_getElem _
          generalize ds[j]'hj = d at hd
          obtain ⟨d1, d2, d3⟩ := f.d d (List.mem_of_getElem? hd)
          have hl := ev_len (L := L) (ds := ds.take j) x.At
          rw [List.length_take] at hl
          simp only [at_nat, hd, hx2, Option.bind_some, impl_sat f.n f.s f.p d1 d2 hx.p, impl_text d1 d3, ev_step x.At hd]
          cases satB L d x.At
          · simp
          · simp only [cond_true]
            rw [app_ok (by simp; omega)]
            rfl)
        have z0 : evL' L (ds.take 0) x.At = [] := rfl
        simp only [z0] at e1
        rw [e1, List.take_length, Option.bind_some] at hr
        injection hr with hr
        refine ⟨_, v3 i x (by rw [hq]; exact h0) h1 hx2, ?_⟩
        rw [← hr]
        exact cntN_ev x.At (by omega)
  · have e1 : (codeS L ds s cb == 0) = false := by rw [beq_eq_false_iff_ne]; exact h0
    have e2 : (codeS L ds s cb != 0) = true := by rw [bne, e1]; rfl
    rw [e2, cond_true] at hr
    injection hr with hr
    rw [← hr] at h2
    exact absurd h2 h0
end
/-! What is drawn -/
theorem asked_of {C : List Candidate} {t : ByteArray} {L : List Site} {ds : List Description} (h1 : ShortC 30 C) (h2 : t.size ≤ 2000) (h3 : ShortS 30 L) (h4 : ShortDs 30 ds) : Asked C t L ds :=
  ⟨by have := h1.1; omega, fun x hx => ⟨by have := (h1.2 x hx).1; omega, by have := (h1.2 x hx).2; omega⟩, by omega, by have := h3.1; omega, fun x hx => ⟨by have := h3.2 x hx; omega⟩, by have := h4.1; omega, fun x hx => ⟨by have := (h4.2 x hx).1; omega, by have := (h4.2 x hx).2.1; omega, by have := (h4.2 x hx).2.2; omega⟩⟩
theorem drawAnswer_G {c : List Int} (hc : CodeOk c) : Gv (spec_DrawAnswerFor c) (fun r => ShortC 30 r.1 ∧ r.2.2.1.size ≤ 2000 ∧ ShortS 30 r.2.2.2.1 ∧ ShortDs 30 r.2.2.2.2) := by
  unfold spec_DrawAnswerFor
  exact (Gv.from hc).bind fun s hs => (l30Draw_G hc).bind fun x2 h2 => (Gv.next hs 4 (by omega)).bind fun x3 h3 => (Gv.at (P := fun _ => True) ⟨h3.1.1, by simpa using h3.1.2⟩ (by simp) (fun _ _ => trivial)).bind fun x4 _ => .some h2
theorem drawEvidence_G {c : List Int} (hc : CodeOk c) : Gv (spec_DrawEvidenceFor c) (fun r => ShortC 30 r.1 ∧ ShortS 30 r.2.2.1 ∧ ShortDs 30 r.2.2.2) := by
  unfold spec_DrawEvidenceFor
  exact (drawAnswer_G hc).bind fun x h => .some ⟨h.1, h.2.2.1, h.2.2.2⟩
theorem drawLost_G {c : List Int} (hc : CodeOk c) : Gv (spec_DrawLostWithout c) (fun r => ShortC 30 r.1 ∧ r.2.1.size ≤ 2000 ∧ ShortS 30 r.2.2.1 ∧ ShortDs 30 r.2.2.2) := by
  unfold spec_DrawLostWithout
  exact (l30Draw_G hc).bind fun x h => .some h
theorem drawPhrases_G {c : List Int} (hc : CodeOk c) : Gv (spec_DrawPhraseDistance c) (fun r => r.1.size ≤ 3000 ∧ r.2.size ≤ 3000) := by
  unfold spec_DrawPhraseDistance
  refine (Gv.from hc).bind fun s hs => (Gv.phrase hs).bind fun x2 h2 => (Gv.next h2.2 3 (by omega)).bind fun x3 h3 => Gv.cond (fun _ => ?_) fun _ => ?_
  · exact (Gv.next h3.2 3 (by omega)).bind fun x4 h4 => Gv.bind (Gv.at (P := fun x : ByteArray => x.size ≤ 100) ⟨h4.1.1, by simpa using h4.1.2⟩ (by simp) (by decide)) fun u hu => (Gv.cat (by omega)).bind fun v hv => .some ⟨by show x2.1.size ≤ 3000; omega, by show v.size ≤ 3000; omega⟩
  · exact (Gv.phrase h3.2).bind fun x7 h7 => .some ⟨by show x2.1.size ≤ 3000; omega, by show x7.1.size ≤ 3000; omega⟩
end Go.Proofs.YtodgenjlhiiieaaGreatDoor.Sh
