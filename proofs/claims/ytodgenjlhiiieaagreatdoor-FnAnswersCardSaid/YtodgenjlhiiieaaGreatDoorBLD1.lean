/- Plain laws: the distance of two phrases is nothing for one phrase alone; evidence and answers of a question. -/
import Derived.Test.YtodgenjlhiiieaaGreatDoorBLC9
import Derived.Test.YtodgenjlhiiieaaGreatDoorBD5
namespace Go.Proofs.YtodgenjlhiiieaaGreatDoor.Sh
open Go.RowKit Go.Lib
theorem lev_zero : ∀ (n : Nat) (xs ys : List UInt8), xs.length + ys.length ≤ n → (lev xs ys = 0 ↔ xs = ys)
  | n, [], ys, _ => by
    cases ys <;> simp [lev]
  | n, x :: xs, [], _ => by rw [lev_nil]; simp
  | 0, x :: xs, y :: ys, h => by simp at h
  | n + 1, x :: xs, y :: ys, h => by
    simp only [List.length_cons] at h
    have ih := lev_zero n xs ys (by omega)
    rw [lev_cons]
    by_cases e : x = y
    · subst e
      rw [if_pos rfl]
      constructor
      · intro h0
        rw [ih.1 (by omega)]
      · intro h0
        injection h0 with _ h0
        have := ih.2 h0
        omega
    · rw [if_neg e]
      constructor
      · intro h0
        omega
      · intro h0
        injection h0 with h1 _
        exact absurd h1 e
theorem dist_zero (a b : ByteArray) : dist a b = 0 ↔ a = b := by
  unfold dist levP
  rw [← size_list a, ← size_list b, List.take_length, List.take_length]
  have := lev_zero _ a.data.toList.reverse b.data.toList.reverse (Nat.le_refl _)
  constructor
  · intro h
    have h1 := List.reverse_inj.1 (this.1 (by omega))
    cases a; cases b
    congr 1
    exact Array.toList_inj.1 h1
  · rintro rfl
    have := this.2 rfl
    omega
theorem fold_zero {f : Nat → Int} : ∀ {k : Nat}, k ≤ 100 → (∀ i, i < k → 0 ≤ f i ∧ f i ≤ 100) → (0 ≤ (List.range k).foldl (fun s i => w64 (s + f i)) 0 ∧ (List.range k).foldl (fun s i => w64 (s + f i)) 0 ≤ 100 * k) ∧ ((List.range k).foldl (fun s i => w64 (s + f i)) 0 = 0 ↔ ∀ i, i < k → f i = 0)
  | 0, _, _ => ⟨by simp, by simp⟩
  | k + 1, hk, h => by
    obtain ⟨h1, h2⟩ := fold_zero (k := k) (by omega) (fun i hi => h i (by omega))
    rw [List.range_succ, List.foldl_append]
    simp only [List.foldl_cons, List.foldl_nil]
    have hf := h k (by omega)
    generalize (List.range k).foldl (fun s i => w64 (s + f i)) 0 = r at h1 h2 ⊢
    rw [w64_id (by omega) (by omega)]
    refine ⟨by omega, ?_⟩
    constructor
    · intro h0 i hi
      by_cases hik : i = k
      · rw [hik]; omega
      · exact h2.1 (by omega) i (by omega)
    · intro h0
      have := h2.2 (fun i hi => h0 i (by omega))
      have := h0 k (by omega)
      omega
def unsplit (c : UInt8) : List (List UInt8) → List UInt8
  | [] => []
  | [y] => y
  | y :: z :: r => y ++ c :: unsplit c (z :: r)
theorem unsplit_splitL (c : UInt8) : ∀ l : List UInt8, splitL c l ≠ [] ∧ unsplit c (splitL c l) = l
  | [] => by simp [splitL, unsplit]
  | x :: l => by
    obtain ⟨h1, h2⟩ := unsplit_splitL c l
    cases hs : splitL c l with
    | nil => exact absurd hs h1
    | cons y r =>
      rw [hs] at h2
      unfold splitL
      rw [hs]
      by_cases hx : x = c
      · subst hx
        simp [unsplit, h2]
      · simp only [hx, if_false]
        cases r with
        | nil => simpa [unsplit] using h2
        | cons z r => simpa [unsplit] using h2
theorem splitS_inj {a b : ByteArray} {c : UInt8} (h : splitS a c = splitS b c) : a = b := by
  unfold splitS at h
  have h1 : splitL c a.data.toList = splitL c b.data.toList := by
    have := congrArg (List.map fun s : ByteArray => s.data.toList) h
    simpa [List.map_map, Function.comp_def] using this
  have h2 := congrArg (unsplit c) h1
  rw [(unsplit_splitL c _).2, (unsplit_splitL c _).2] at h2
  cases a; cases b
  congr 1
  exact Array.toList_inj.1 h2
theorem words_pos {s : ByteArray} (h : phraseB s = true) : ∀ x ∈ splitS s 32, 1 ≤ x.size := by
  unfold phraseB at h
  rw [Bool.and_eq_true, decide_eq_true_eq, List.all_eq_true] at h
  exact fun x hx => (wordB_size (h.2 x hx)).1
theorem getD_size {x : List ByteArray} (h : ∀ z ∈ x, z.size ≤ 16) (i : Nat) : (x.getD i tNo).size ≤ 16 := by
  by_cases hi : i < x.length
  · rw [List.getD_eq_getElem?_getD, List.getElem?_eq_getElem hi]
    exact h _ (List.getElem_mem hi)
  · rw [getD_none (by omega)]
    exact Nat.zero_le _
/-- The distance of phrases: small, and nothing for one phrase alone. -/
theorem phD_zero {a b : ByteArray} (ha : phraseB a = true) (hb : phraseB b = true) : (0 ≤ phD (splitS a 32) (splitS b 32) ∧ phD (splitS a 32) (splitS b 32) ≤ 800) ∧ (phD (splitS a 32) (splitS b 32) = 0 ↔ a = b) := by
  obtain ⟨la, sa⟩ := words_small ha
  obtain ⟨lb, sb⟩ := words_small hb
  have pa := words_pos ha
  have pb := words_pos hb
  have hm : max (splitS a 32).length (splitS b 32).length ≤ 8 := by omega
  have hf := fold_zero (f := dAt (splitS a 32) (splitS b 32)) (k := max (splitS a 32).length (splitS b 32).length) (by omega) (fun i _ => by
    unfold dAt
    have := dist_bounds ((splitS a 32).getD i tNo) ((splitS b 32).getD i tNo)
    have := getD_size sa i
    have := getD_size sb i
    omega)
  refine ⟨⟨hf.1.1, by have := hf.1.2; unfold phD; omega⟩, ?_⟩
  unfold phD
  rw [hf.2]
  constructor
  · intro h
    apply splitS_inj (c := 32)
    have hz : tNo.size = 0 := rfl
    have hat : ∀ i, i < max (splitS a 32).length (splitS b 32).length → (splitS a 32).getD i tNo = (splitS b 32).getD i tNo := fun i hi => (dist_zero _ _).1 (h i hi)
    have hlen : (splitS a 32).length = (splitS b 32).length := by
      rcases Nat.lt_trichotomy (splitS a 32).length (splitS b 32).length with hl | hl | hl
      · have := hat (splitS a 32).length (by omega)
        rw [getD_none (Nat.le_refl _), List.getD_eq_getElem?_getD, List.getElem?_eq_getElem hl] at this
        have h1 := pb _ (List.getElem_mem hl)
        rw [show (splitS b 32)[(splitS a 32).length] = tNo from this.symm] at h1
        omega
      · exact hl
      · have := hat (splitS b 32).length (by omega)
        rw [getD_none (Nat.le_refl _), List.getD_eq_getElem?_getD, List.getElem?_eq_getElem hl] at this
        have h1 := pa _ (List.getElem_mem hl)
        rw [show (splitS a 32)[(splitS b 32).length] = tNo from this] at h1
        omega
    refine List.ext_getElem hlen fun i h1 h2 => ?_
    have := hat i (by omega)
    rw [List.getD_eq_getElem?_getD, List.getD_eq_getElem?_getD, List.getElem?_eq_getElem h1, List.getElem?_eq_getElem h2] at this
    exact this
  · rintro rfl
    exact fun i _ => (dist_zero _ _).2 rfl
theorem likeTexts_self (L : List ByteArray) (hL : L.length ≤ 1048576) : laws_likeTexts L L = some true := by
  unfold laws_likeTexts
  rw [bne_self_eq_false, cond_false, loop_any (by omega) (fun _ => false) false (fun i x hx => by
    rw [at_nat, hx]
    simp)]
  have : (L.any fun _ => false) = false := by simp
  rw [this]
  rfl
section
variable {C : List Candidate} {t : ByteArray} {L : List Site} {ds : List Description}
theorem cntN_len (p : Point) : ∀ {ds : List Description}, ds.length ≤ 1000 → cntN L ds p = ((ds.filter fun d => satB L d p).length : Int) := by
  intro ds
  unfold cntN
  have key : ∀ (M : List Description) (k : Nat), k + M.length ≤ 1000 → M.foldl (fun s d => bif satB L d p then w64 (s + 1) else s) (k : Int) = ((k + (M.filter fun d => satB L d p).length : Nat) : Int) := by
    intro M
    induction M with
    | nil => intro k _; simp
    | cons d M ih =>
      intro k hk
      rw [List.length_cons] at hk
      rw [List.foldl_cons, List.filter_cons]
      cases satB L d p
      · simp only [cond_false]
        rw [ih k (by omega)]
        simp
      · simp only [cond_true]
        rw [w64_id (by omega) (by omega), show (k : Int) + 1 = ((k + 1 : Nat) : Int) by omega, ih (k + 1) (by omega)]
        simp
        omega
  intro h
  have := key ds 0 (by omega)
  simpa using this
theorem answerFor_val (a : Asked C t L ds) {cb s : Bool} (hc : candsR C = some cb) (hs : sitesR L = some s) (c : ByteArray) :
    (qCode C t L ds cb s ≠ 0 → impl_AnswerFor C c t L ds = some (Answer.mk (ByteArray.mk #[]) 0 0, qCode C t L ds cb s)) ∧
    (qCode C t L ds cb s = 0 → C.any (codeC c) = false → impl_AnswerFor C c t L ds = some (Answer.mk (ByteArray.mk #[]) 0 0, 4)) ∧
    ∀ i x, qCode C t L ds cb s = 0 → idxP (codeC c) C = ((i : Nat) : Int) → C[i]? = some x → impl_AnswerFor C c t L ds = some (ansOf t L ds x, 0) := by
  refine ⟨fun h0 => ?_, fun h0 hany => ?_, fun i x h0 h1 h2 => ?_⟩
  · unfold impl_AnswerFor
    have e2 : (qCode C t L ds cb s != 0) = true := by rw [bne_iff_ne]; exact h0
    rw [impl_qcode a hc hs, Option.bind_some, e2]
    rfl
  · unfold impl_AnswerFor
    rw [impl_qcode a hc hs, Option.bind_some, h0, impl_findC a.c, Option.bind_some, idxP_neg, hany]
    rfl
  · obtain ⟨f, pt, _, hC⟩ := qcode_ok a hc hs h0
    unfold impl_AnswerFor
    rw [impl_qcode a hc hs, Option.bind_some, h0, impl_findC a.c, Option.bind_some, h1]
    rw [decide_eq_false (show ¬ ((i : Nat) : Int) < 0 by omega)]
    simp only [show ((0 : Int) != 0) = false from rfl, cond_false, at_nat, h2, Option.bind_some, impl_ans f pt a.t (hC x (List.mem_of_getElem? h2))]
end
/-! What is drawn -/
theorem asked_of {C : List Candidate} {t : ByteArray} {L : List Site} {ds : List Description} (h1 : ShortC 30 C) (h2 : t.size ≤ 2000) (h3 : ShortS 30 L) (h4 : ShortDs 30 ds) : Asked C t L ds :=
  ⟨by have := h1.1; omega, fun x hx => ⟨by have := (h1.2 x hx).1; omega, by have := (h1.2 x hx).2; omega⟩, by omega, by have := h3.1; omega, fun x hx => ⟨by have := h3.2 x hx; omega⟩, by have := h4.1; omega, fun x hx => ⟨by have := (h4.2 x hx).1; omega, by have := (h4.2 x hx).2.1; omega, by have := (h4.2 x hx).2.2; omega⟩⟩
theorem drawAnswer_G {c : List Int} (hc : CodeOk c) : Gv (spec_DrawAnswerFor c) (fun r => ShortC 30 r.1 ∧ r.2.2.1.size ≤ 2000 ∧ ShortS 30 r.2.2.2.1 ∧ ShortDs 30 r.2.2.2.2) := by
  unfold spec_DrawAnswerFor
  exact (Gv.from hc).bind fun s hs => (l30Draw_G hc).bind fun x2 h2 => (Gv.next hs 4 (by omega)).bind fun x3 h3 => (Gv.at (P := fun _ => True) ⟨h3.1.1, by simpa using h3.1.2⟩ (by simp) (fun _ _ => trivial)).bind fun x4 _ => .some h2
end Go.Proofs.YtodgenjlhiiieaaGreatDoor.Sh
