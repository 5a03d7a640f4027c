/- Labels: the first clear placement of the greatest score, of both; no condition but allowed labels. -/
import Derived.Test.YtlhllbiikideeaaLB7
import Derived.Test.YtlhllbiikideeaaBP3
namespace Go.Proofs.Ytlhllbiikideeaa.Sh
open Go.RowKit
section
variable {α : Type} (s : α → Int)
def better : Option α → α → Option α
  | none, x => some x
  | some b, x => if s b < s x then some x else some b
def firstMax (o : Option α) (xs : List α) : Option α := xs.foldl (better s) o
theorem firstMax_append (o : Option α) (xs ys : List α) : firstMax s o (xs ++ ys) = firstMax s (firstMax s o xs) ys := List.foldl_append ..
theorem firstMax_split (o : Option α) : ∀ (xs : List α) (g : α), firstMax s none xs = some g → firstMax s o xs = better s o g := by
  have key : ∀ (xs : List α) (b c : α), ∃ g, firstMax s (some c) xs = some g ∧ firstMax s (better s (some b) c) xs = better s (some b) g := by
    intro xs
    induction xs with
    | nil => exact fun b c => ⟨c, rfl, rfl⟩
    | cons x r ih =>
      intro b c
      by_cases h1 : s b < s c <;> by_cases h2 : s c < s x
      · obtain ⟨g, e1, e2⟩ := ih b x
        refine ⟨g, by rw [firstMax, List.foldl_cons, better, if_pos h2]; exact e1, ?_⟩
        rw [better, if_pos h1, firstMax, List.foldl_cons, better, if_pos h2]
        rw [better, if_pos (by omega)] at e2
        exact e2
      · obtain ⟨g, e1, e2⟩ := ih b c
        refine ⟨g, by rw [firstMax, List.foldl_cons, better, if_neg h2]; exact e1, ?_⟩
        rw [better, if_pos h1, firstMax, List.foldl_cons, better, if_neg h2]
        rw [better, if_pos h1] at e2
        exact e2
      · obtain ⟨g, e1, e2⟩ := ih b x
        refine ⟨g, by rw [firstMax, List.foldl_cons, better, if_pos h2]; exact e1, ?_⟩
        rw [better, if_neg h1, firstMax, List.foldl_cons]
        exact e2
      · obtain ⟨g, e1, e2⟩ := ih b c
        refine ⟨g, by rw [firstMax, List.foldl_cons, better, if_neg h2]; exact e1, ?_⟩
        rw [better, if_neg h1, firstMax, List.foldl_cons]
        have : better s (some b) x = some b := by rw [better, if_neg (by omega)]
        rw [this]
        rw [better, if_neg h1] at e2
        exact e2
  intro xs g h
  cases xs with
  | nil => cases h
  | cons x r =>
    cases o with
    | none => exact h
    | some b =>
      obtain ⟨g', e1, e2⟩ := key r b x
      have : some g' = some g := e1.symm.trans h
      injection this with this
      subst this
      exact e2
theorem firstMax_mem : ∀ (xs : List α) (o : Option α) (g : α), firstMax s o xs = some g → g ∈ xs ∨ o = some g
  | [], o, g, h => .inr h
  | x :: r, o, g, h => by
    rcases firstMax_mem r _ g h with h1 | h1
    · exact .inl (List.mem_cons_of_mem _ h1)
    · cases o with
      | none =>
        injection h1 with h1
        exact .inl (by rw [← h1]; exact List.mem_cons_self)
      | some b =>
        rw [better] at h1
        split at h1
        · injection h1 with h1
          exact .inl (by rw [← h1]; exact List.mem_cons_self)
        · exact .inr h1
theorem firstMax_some (o : Option α) : ∀ (xs : List α), xs ≠ [] → ∃ g, firstMax s o xs = some g := by
  have key : ∀ (xs : List α) (b : α), ∃ g, firstMax s (some b) xs = some g := by
    intro xs
    induction xs with
    | nil => exact fun b => ⟨b, rfl⟩
    | cons x r ih =>
      intro b
      rw [firstMax, List.foldl_cons, better]
      split
      · exact ih x
      · exact ih b
  intro xs h
  cases xs with
  | nil => exact absurd rfl h
  | cons x r =>
    rw [firstMax, List.foldl_cons]
    cases o with
    | none => exact key r x
    | some b =>
      rw [better]
      split
      · exact key r x
      · exact key r b
end
section
variable (al : Nat → Int → Bool) (cl : Nat → Int → Nat → Int → Bool)
/-- Does a position fit behind a start? -/
def fitN (pre : List Int) (p : Int) : Bool := al pre.length p && (List.range pre.length).all fun k => !cl k (gp pre k) pre.length p
/-- The clear placements that go on from a start. -/
def gons : Nat → List Int → List (List Int)
  | 0, pre => [pre]
  | m + 1, pre => (List.range 5).flatMap fun (q : Nat) => bif fitN al cl pre (q : Int) then gons m (pre ++ [(q : Int)]) else []
variable {al cl}
theorem mem_comps {m : Nat} {pre x : List Int} : x ∈ gons al cl (m + 1) pre ↔ ∃ q : Nat, q < 5 ∧ fitN al cl pre (q : Int) = true ∧ x ∈ gons al cl m (pre ++ [(q : Int)]) := by
  rw [gons, List.mem_flatMap]
  constructor
  · rintro ⟨q, hq, hx⟩
    cases hf : fitN al cl pre (q : Int)
    · rw [hf] at hx
      cases hx
    · rw [hf] at hx
      exact ⟨q, List.mem_range.1 hq, hf, hx⟩
  · rintro ⟨q, hq, hf, hx⟩
    exact ⟨q, List.mem_range.2 hq, by rw [hf]; exact hx⟩
theorem gp_app {P Q : List Int} {k : Nat} (h : k < P.length) : gp (P ++ Q) k = gp P k := by
  unfold gp
  rw [List.getElem?_append_left h]
theorem gp_last {P : List Int} {x : Int} : gp (P ++ [x]) P.length = x := by
  unfold gp
  simp
theorem pos_app {P : List Int} {q : Nat} (hq : q < 5) (h : ∀ i, i < P.length → 0 ≤ gp P i ∧ gp P i ≤ 4) : ∀ i, i < (P ++ [(q : Int)]).length → 0 ≤ gp (P ++ [(q : Int)]) i ∧ gp (P ++ [(q : Int)]) i ≤ 4 := by
  intro i hi
  rw [List.length_append, List.length_singleton] at hi
  by_cases hl : i < P.length
  · rw [gp_app hl]; exact h i hl
  · obtain rfl : i = P.length := by omega
    rw [gp_last]; omega
theorem comps_in : ∀ {m : Nat} {pre x : List Int}, x ∈ gons al cl m pre → (∀ i, i < pre.length → 0 ≤ gp pre i ∧ gp pre i ≤ 4) → x.length = pre.length + m ∧ ∀ i, i < x.length → 0 ≤ gp x i ∧ gp x i ≤ 4
  | 0, pre, x, h, hp => by
    rw [gons, List.mem_singleton] at h
    subst h
    exact ⟨rfl, hp⟩
  | m + 1, pre, x, h, hp => by
    obtain ⟨q, hq, _, hx⟩ := mem_comps.1 h
    obtain ⟨h1, h2⟩ := comps_in hx (pos_app hq hp)
    exact ⟨by rw [h1]; simp; omega, h2⟩
theorem clear_app (sym : ∀ i x k y, cl i x k y = cl k y i x) {P : List Int} {q : Int} : clearB al cl (P ++ [q]) = true ↔ clearB al cl P = true ∧ fitN al cl P q = true := by
  rw [clearB_iff, clearB_iff]
  unfold fitN
  rw [Bool.and_eq_true, List.all_eq_true]
  have hl : (P ++ [q]).length = P.length + 1 := by simp
  constructor
  · intro h
    refine ⟨fun i hi => ?_, ?_, fun k hk => ?_⟩
    · have := h i (by omega)
      rw [gp_app hi] at this
      refine ⟨this.1, fun k hk => ?_⟩
      rw [← this.2 k hk, gp_app (by omega)]
    · have := (h P.length (by omega)).1
      rwa [gp_last] at this
    · have hk := List.mem_range.1 hk
      have := (h P.length (by omega)).2 k hk
      rw [gp_last, gp_app hk] at this
      rw [sym, this]
      rfl
  · rintro ⟨h1, h2, h3⟩ i hi
    by_cases hip : i < P.length
    · rw [gp_app hip]
      refine ⟨(h1 i hip).1, fun k hk => ?_⟩
      rw [gp_app (by omega)]
      exact (h1 i hip).2 k hk
    · obtain rfl : i = P.length := by omega
      rw [gp_last]
      refine ⟨h2, fun k hk => ?_⟩
      rw [gp_app hk, sym]
      have := h3 k (List.mem_range.2 hk)
      simpa using this
theorem comps_clear (sym : ∀ i x k y, cl i x k y = cl k y i x) : ∀ {m : Nat} {pre x : List Int}, x ∈ gons al cl m pre → clearB al cl pre = true → clearB al cl x = true
  | 0, pre, x, h, hp => by
    rw [gons, List.mem_singleton] at h
    subst h
    exact hp
  | m + 1, pre, x, h, hp => by
    obtain ⟨q, _, hf, hx⟩ := mem_comps.1 h
    exact comps_clear sym hx ((clear_app sym).2 ⟨hp, hf⟩)
theorem take_succ_gp {P : List Int} {i : Nat} (h : i < P.length) : P.take (i + 1) = P.take i ++ [gp P i] := by
  rw [List.take_add_one, gp_at h]
  rfl
theorem comps_ne : ∀ {m : Nat} {pre : List Int}, (∀ i, pre.length ≤ i → i < pre.length + m → al i 4 = true ∧ ∀ k x, cl k x i 4 = false) → gons al cl m pre ≠ []
  | 0, pre, _ => by rw [gons]; simp
  | m + 1, pre, h => by
    have h1 := h pre.length (Nat.le_refl _) (by omega)
    have hl : (pre ++ [(4 : Int)]).length = pre.length + 1 := by simp
    have h2 : gons al cl m (pre ++ [(4 : Int)]) ≠ [] := comps_ne fun i hi hi2 => h i (by omega) (by omega)
    obtain ⟨x, hx⟩ := List.exists_mem_of_ne_nil _ h2
    refine List.ne_nil_of_mem (mem_comps.2 ⟨4, by omega, ?_, hx⟩)
    unfold fitN
    rw [show (((4 : Nat) : Int)) = 4 from rfl, h1.1, Bool.true_and, List.all_eq_true]
    intro k _
    rw [h1.2]
    rfl
end
theorem left_out {L : List Label} : ∀ i, i < L.length → alL L i 4 = true ∧ ∀ k x, clL L k x i 4 = false := by
  intro i hi
  refine ⟨?_, fun k x => ?_⟩
  · unfold alL allowB
    rw [List.getElem?_eq_getElem hi]
    dsimp only
    rw [Bool.not_eq_true', Bool.eq_false_iff, ne_eq, List.any_eq_true]
    rintro ⟨q, _, hq⟩
    unfold covB at hq
    simp at hq
  · unfold clL
    cases L[k]? with
    | none => rfl
    | some a =>
      rw [List.getElem?_eq_getElem hi]
      dsimp only
      cases (inB x 0 4 && inB 4 0 4)
      · rfl
      · rw [cond_true]
        unfold clB
        rw [Bool.eq_false_iff, ne_eq, List.any_eq_true]
        rintro ⟨q, _, hq⟩
        unfold covB at hq
        simp at hq
/-- The sum of the priorities of the first labels that are placed. -/
def scoN (L : List Label) (P : List Int) : Nat → Int
  | 0 => 0
  | k + 1 => scoN L P k + (bif gp P k == 4 then 0 else keyL L k)
def scoB (L : List Label) (P : List Int) : Int := scoN L P L.length
theorem scoN_in {L : List Label} (hA : ∀ x ∈ L, LabIn x) (P : List Int) : ∀ k, k ≤ L.length → 0 ≤ scoN L P k ∧ scoN L P k ≤ 9 * k
  | 0, _ => by simp [scoN]
  | k + 1, h => by
    have h1 := scoN_in hA P k (by omega)
    have h2 := (hA _ (List.getElem_mem (show k < L.length by omega))).p
    have h3 : keyL L k = L[k].Priority := keyL_at (List.getElem?_eq_getElem _)
    rw [scoN]
    cases gp P k == 4
    · rw [cond_false, h3]; omega
    · rw [cond_true]; omega
theorem forS_exact {S A : Type} {n : Nat} (hn : n ≤ 1000000000) {B : Int → S → Option S} {D : S → A} (f : Nat → S) (h : ∀ i, i < n → B (i : Int) (f i) = some (f (i + 1))) : forS (n : Int) B D 0 (f 0) = some (D (f n)) := by
  have key : ∀ (m i : Nat), i + m = n → forS (n : Int) B D (i : Int) (f i) = some (D (f n)) := by
    intro m
    induction m with
    | zero =>
      intro i him
      obtain rfl : i = n := by omega
      unfold forS
      rw [loop_eq]
      simp only [decide_eq_false (show ¬ (i : Int) < i by omega), cond_false]
    | succ m ih =>
      intro i him
      have := ih (i + 1) (by omega)
      unfold forS at this ⊢
      rw [loop_eq]
      simp only [decide_eq_true (show (i : Int) < n by omega), cond_true, h i (by omega), Option.bind_some]
      rw [w64_id (by omega) (by omega)]
      simpa using this
  exact key n 0 (by omega)
theorem impl_sco {L : List Label} {P : List Int} (h : PIn L P) : impl_score L P = some (scoB L P) := by
  have h6 := h.six
  unfold impl_score scoB
  refine (congrArg (fun o : Option Int => o.bind fun j1 => some j1) (forS_exact (D := fun s : Int => s) (by omega) (scoN L P) (fun i hi => by
    have h1 := scoN_in h.lab P i (by omega)
    have h2 := (h.lab _ (List.getElem_mem hi)).p
    rw [at_nat, List.getElem?_eq_getElem hi, Option.bind_some, at_nat, gp_at (by rw [h.len]; exact hi), Option.bind_some, scoN, keyL_at (List.getElem?_eq_getElem hi)]
    unfold bne
    cases gp P i == 4
    · rw [Bool.not_false, cond_true, cond_false, w64_id (by omega) (by omega)]
    · rw [Bool.not_true, cond_true, cond_false, Int.add_zero]))).trans rfl
theorem spec_sco {L : List Label} {P : List Int} (h : PIn L P) : spec_l33Score L P = some (scoB L P) := by
  have h6 := h.six
  have hl := h.len
  unfold spec_l33Score scoB
  rw [← hl]
  refine (congrArg (fun o : Option Int => o.bind fun j1 => some j1) (forS_exact (D := fun s : Int => s) (by omega) (scoN L P) (fun i hi => by
    have hi' : i < L.length := by omega
    have h1 := scoN_in h.lab P i (by omega)
    have h2 := (h.lab _ (List.getElem_mem hi')).p
    have h3 := h.pos i hi
    rw [at_nat, gp_at hi, Option.bind_some, at_nat, List.getElem?_eq_getElem hi', Option.bind_some, scoN, keyL_at (List.getElem?_eq_getElem hi')]
    by_cases h4 : gp P i = 4
    · rw [h4, decide_eq_false (by omega), cond_false, beq_self_eq_true, cond_true, Int.add_zero]
    · rw [decide_eq_true (by omega), cond_true, beq_eq_false_iff_ne.2 h4, cond_false, w64_id (by omega) (by omega)]))).trans rfl
theorem concat_eq {l : List Int} (h : l.length ≤ 1000000) : slices_Concat_int64 [[], l] = some l := by
  unfold slices_Concat_int64
  have h1 : forS ((([[], l] : List (List Int)).length : Nat) : Int) (fun (i3 : Int) (s3 : Int) => ((at' ([[], l] : List (List Int)) i3).bind fun x7 => (bif (decide ((w64 (s3 + (x7.length : Int))) < 0)) then none else some (w64 (s3 + (x7.length : Int)))))) (fun (s3 : Int) => s3) 0 0 = some (l.length : Int) := by
    have := forS_exact (n := 2) (by omega) (B := fun (i3 : Int) (s3 : Int) => ((at' ([[], l] : List (List Int)) i3).bind fun x7 => (bif (decide ((w64 (s3 + (x7.length : Int))) < 0)) then none else some (w64 (s3 + (x7.length : Int)))))) (D := fun (s3 : Int) => s3) (fun i => if i ≤ 1 then 0 else (l.length : Int)) (fun i hi => by
      obtain rfl | rfl : i = 0 ∨ i = 1 := by omega
      · show (at' [[], l] (((0 : Nat)) : Int)).bind _ = _
        rw [at_nat]
        rfl
      · show (at' [[], l] (((1 : Nat)) : Int)).bind _ = _
        rw [at_nat]
        simp only [List.getElem?_cons_succ, List.getElem?_cons_zero, Option.bind_some]
        rw [if_pos (by omega), if_neg (by omega), Int.zero_add, w64_id (by omega) (by omega), decide_eq_false (by omega)]
        rfl)
    exact this
  have h2 : forS ((([[], l] : List (List Int)).length : Nat) : Int) (fun (i11 : Int) (s11 : (List Int)) => ((at' ([[], l] : List (List Int)) i11).bind fun x15 => ((app' s11 x15).bind fun x16 => some x16))) (fun (s11 : (List Int)) => s11) 0 ([] : List Int) = some l := by
    have := forS_exact (n := 2) (by omega) (B := fun (i11 : Int) (s11 : (List Int)) => ((at' ([[], l] : List (List Int)) i11).bind fun x15 => ((app' s11 x15).bind fun x16 => some x16))) (D := fun (s11 : List Int) => s11) (fun i => if i ≤ 1 then [] else l) (fun i hi => by
      obtain rfl | rfl : i = 0 ∨ i = 1 := by omega
      · show (at' [[], l] (((0 : Nat)) : Int)).bind _ = _
        rw [at_nat]
        rfl
      · show (at' [[], l] (((1 : Nat)) : Int)).bind _ = _
        rw [at_nat]
        simp only [List.getElem?_cons_succ, List.getElem?_cons_zero, Option.bind_some]
        rw [if_pos (by omega), if_neg (by omega), app_ok (by simp; omega), List.nil_append]
        rfl)
    exact this
  rw [h1, Option.bind_some, h2]
  have h3 : grow' (l.length : Int) = some () := by
    unfold grow'
    rw [decide_eq_true (show (0 : Int) ≤ l.length by omega), decide_eq_true (show (l.length : Int) ≤ 68719476736 by omega)]
    rfl
  rw [h3]
  rfl
theorem loop_step {α A : Type} {body : α → Option (α ⊕ A)} {s s' : α} (h : body s = some (.inl s')) : loop body s = loop body s' := by
  rw [loop_eq, h]
theorem forH_step {S A : Type} {C : Int → S → Bool} {B : Int → S → Option S} {D : S → A} {i : Int} {s s' : S} (hc : C i s = true) (hb : B i s = some s') : forH C B D i s = forH C B D (w64 (i + 1)) s' := by
  unfold forH
  rw [loop_eq]
  dsimp only
  rw [hc, cond_true, hb]
  rfl
theorem fit_set {L : List Label} (hA : ∀ x ∈ L, LabIn x) {cur : List Int} {i : Nat} (hi : i < cur.length) (p : Int) : clearAt (alL L) (clL L) (cur.set i p) i = fitN (alL L) (clL L) (cur.take i) p := by
  have hl : (cur.take i).length = i := by rw [List.length_take]; omega
  rw [Bool.eq_iff_iff, clearAt_iff]
  unfold fitN
  rw [hl, Bool.and_eq_true, List.all_eq_true, gp_set hi]
  have hg : ∀ k, k < i → gp (cur.set i p) k = gp (cur.take i) k := fun k hk => by
    rw [gp_set_ne (by omega)]
    unfold gp
    rw [List.getElem?_take_of_lt hk]
  constructor
  · rintro ⟨h1, h2⟩
    refine ⟨h1, fun k hk => ?_⟩
    have hk := List.mem_range.1 hk
    rw [← hg k hk, clL_sym hA, h2 k hk]
    rfl
  · rintro ⟨h1, h2⟩
    refine ⟨h1, fun k hk => ?_⟩
    have := h2 k (List.mem_range.2 hk)
    rw [← hg k hk, clL_sym hA] at this
    simpa using this
theorem set_take {cur : List Int} {i : Nat} (hi : i < cur.length) (p : Int) : (cur.set i p).take (i + 1) = cur.take i ++ [p] := by
  rw [take_succ_gp (by rw [List.length_set]; exact hi), gp_set hi]
  congr 1
  exact List.take_set_of_le (Nat.le_refl _)
theorem pin_comps {L : List Label} {m : Nat} {pre x : List Int} (h6 : L.length ≤ 6) (hA : ∀ x ∈ L, LabIn x) (hl : pre.length + m = L.length) (hp : ∀ i, i < pre.length → 0 ≤ gp pre i ∧ gp pre i ≤ 4) (h : x ∈ gons (alL L) (clL L) m pre) : PIn L x := by
  obtain ⟨h1, h2⟩ := comps_in h hp
  exact ⟨by omega, h6, hA, h2⟩
theorem gp_take {P : List Int} {i k : Nat} (h : k < i) : gp (P.take i) k = gp P k := by
  unfold gp
  rw [List.getElem?_take_of_lt h]
/-- The program's search. -/
theorem walk_eq {L : List Label} : ∀ (m fuel i : Nat) (b : Option (List Int)) (cur : List Int), PIn L cur → i + m = L.length → m < fuel → (∀ l, b = some l → PIn L l ∧ 0 < l.length) →
    ∃ cur', walk_f fuel L (i : Int) b cur = some (firstMax (scoB L) b (gons (alL L) (clL L) m (cur.take i)), cur') ∧ PIn L cur' ∧ cur'.take i = cur.take i := by
  intro m
  induction m with
  | zero =>
    intro fuel i b cur hP him hf hb
    obtain ⟨fuel, rfl⟩ : ∃ k, fuel = k + 1 := ⟨fuel - 1, by omega⟩
    have h6 := hP.six
    have hl := hP.len
    refine ⟨cur, ?_, hP, rfl⟩
    unfold walk_f
    rw [show ((i : Int) == (L.length : Int)) = true from by rw [beq_iff_eq]; omega, cond_true, gons, List.take_of_length_le (by omega)]
    cases b with
    | none =>
      dsimp only
      rw [concat_eq (by omega)]
      rfl
    | some l =>
      obtain ⟨h1, h2⟩ := hb l rfl
      cases l with
      | nil => simp at h2
      | cons y l =>
        dsimp only
        rw [impl_sco hP, Option.bind_some, impl_sco h1, Option.bind_some, concat_eq (by omega), Option.bind_some]
        show _ = some (better (scoB L) (some (y :: l)) cur, cur)
        rw [better]
        by_cases hs : scoB L (y :: l) < scoB L cur
        · rw [if_pos hs, decide_eq_true (by omega), cond_true]
        · rw [if_neg hs, decide_eq_false (by omega), cond_false]
  | succ m ih =>
    intro fuel i b cur hP him hf hb
    obtain ⟨fuel, rfl⟩ : ∃ k, fuel = k + 1 := ⟨fuel - 1, by omega⟩
    have h6 := hP.six
    have hl := hP.len
    unfold walk_f
    rw [show ((i : Int) == (L.length : Int)) = false from by rw [beq_eq_false_iff_ne]; omega, cond_false]
    have hpre : ∀ k, k < (cur.take i).length → 0 ≤ gp (cur.take i) k ∧ gp (cur.take i) k ≤ 4 := fun k hk => by
      rw [List.length_take] at hk
      rw [gp_take (by omega)]
      exact hP.pos k (by omega)
    have hpl : (cur.take i).length = i := by rw [List.length_take]; omega
    have key : ∀ (k p : Nat) (b : Option (List Int)) (c : List Int), p + k = 5 → PIn L c → c.take i = cur.take i → (∀ l, b = some l → PIn L l ∧ 0 < l.length) →
        ∃ c', loop (fun (s : Int × Option (List Int) × List Int) => bif decide (s.1 ≤ 4) then (((at' s.2.2 (i : Int)).bind fun _ => (impl_isClearAt L (List.set s.2.2 (Int.toNat (i : Int)) s.1) (i : Int)).bind fun x => bif x then walk_f fuel L (w64 ((i : Int) + 1)) s.2.1 (List.set s.2.2 (Int.toNat (i : Int)) s.1) else some (s.2.1, List.set s.2.2 (Int.toNat (i : Int)) s.1)).bind fun (j : Option (List Int) × List Int) => some (.inl (w64 (s.1 + 1), j))) else some (.inr s.2)) ((p : Int), b, c) = some (firstMax (scoB L) b ((List.range' p k).flatMap fun (q : Nat) => bif fitN (alL L) (clL L) (cur.take i) (q : Int) then gons (alL L) (clL L) m (cur.take i ++ [(q : Int)]) else []), c') ∧ PIn L c' ∧ c'.take i = cur.take i := by
      intro k
      induction k with
      | zero =>
        intro p b c hpk hc hci hb
        refine ⟨c, ?_, hc, hci⟩
        rw [loop_eq]
        dsimp only
        rw [decide_eq_false (by omega), cond_false]
        rfl
      | succ k ihk =>
        intro p b c hpk hc hci hb
        have hcl := hc.len
        have hic : i < c.length := by omega
        have hset := hc.set i (p := (p : Int)) (by omega) (by omega)
        have hw : ∀ (b' : Option (List Int)) (c' : List Int), (bif fitN (alL L) (clL L) (cur.take i) (p : Int) then walk_f fuel L ((i + 1 : Nat) : Int) b (c.set i (p : Int)) else some (b, c.set i (p : Int))) = some (b', c') → (fun (s : Int × Option (List Int) × List Int) => bif decide (s.1 ≤ 4) then (((at' s.2.2 (i : Int)).bind fun _ => (impl_isClearAt L (List.set s.2.2 (Int.toNat (i : Int)) s.1) (i : Int)).bind fun x => bif x then walk_f fuel L (w64 ((i : Int) + 1)) s.2.1 (List.set s.2.2 (Int.toNat (i : Int)) s.1) else some (s.2.1, List.set s.2.2 (Int.toNat (i : Int)) s.1)).bind fun (j : Option (List Int) × List Int) => some (.inl (w64 (s.1 + 1), j))) else (some (.inr s.2) : Option ((Int × Option (List Int) × List Int) ⊕ (Option (List Int) × List Int)))) ((p : Int), b, c) = some (.inl (((p + 1 : Nat) : Int), b', c')) := fun b' c' h => by
          dsimp only
          rw [decide_eq_true (by omega), cond_true, at_nat, List.getElem?_eq_getElem hic, Option.bind_some, Int.toNat_natCast, impl_clearAt hset (by rw [List.length_set]; exact hic), Option.bind_some, fit_set hc.lab hic, hci]
          rw [w64_id (n := (p : Int) + 1) (by omega) (by omega), w64_id (n := (i : Int) + 1) (by omega) (by omega), show (p : Int) + 1 = ((p + 1 : Nat) : Int) by omega, show (i : Int) + 1 = ((i + 1 : Nat) : Int) by omega, h]
          rfl
        rw [List.range'_succ, List.flatMap_cons, firstMax_append]
        cases hfit : fitN (alL L) (clL L) (cur.take i) (p : Int)
        · rw [loop_step (hw b (c.set i (p : Int)) (by rw [hfit]; rfl)), cond_false]
          exact ihk (p + 1) b _ (by omega) hset (by rw [List.take_set_of_le (Nat.le_refl _)]; exact hci) hb
        · obtain ⟨c2, h1, h2, h3⟩ := ih fuel (i + 1) b _ hset (by omega) (by omega) hb
          rw [set_take hic, hci] at h1 h3
          rw [loop_step (hw _ c2 (by rw [hfit, cond_true]; exact h1)), cond_true]
          have h4 : c2.take i = cur.take i := by
            have h5 := congrArg (List.take i) h3
            rw [List.take_take, Nat.min_eq_left (by omega), List.take_append_of_le_length (by omega), List.take_of_length_le (l := cur.take i) (by omega)] at h5
            exact h5
          refine ihk (p + 1) _ c2 (by omega) h2 h4 fun l hle => ?_
          rcases firstMax_mem (scoB L) _ _ _ hle with h5 | h5
          · have h7 := pin_comps h6 hc.lab (by simp; omega) (pos_app (q := p) (by omega) hpre) h5
            exact ⟨h7, by have := h7.len; omega⟩
          · exact hb l h5
    have := key 5 0 b cur rfl hP rfl hb
    rw [← List.range_eq_range'] at this
    exact this
theorem spec_fit {L : List Label} (h6 : L.length ≤ 6) (hA : ∀ x ∈ L, LabIn x) {pre : List Int} (hl : pre.length < L.length) (hp : ∀ i, i < pre.length → 0 ≤ gp pre i ∧ gp pre i ≤ 4) {p : Int} (p0 : 0 ≤ p) (p4 : p ≤ 4) : spec_l33Fits L pre (pre.length : Int) p = some (fitN (alL L) (clL L) pre p) := by
  unfold spec_l33Fits fitN
  have hx := List.getElem?_eq_getElem hl
  have ha := hA _ (List.getElem_mem hl)
  have e1 : alL L pre.length p = allowB L L[pre.length] p := by
    unfold alL
    rw [hx]
  rw [at_nat, hx, Option.bind_some, spec_allowed (by omega) hA ha, Option.bind_some, e1]
  cases allowB L L[pre.length] p
  · rfl
  · rw [Bool.not_true, cond_false, loop_any_n (by omega) (fun k => clL L k (gp pre k) pre.length p) false (fun k hk => by
      have hkL : k < L.length := by omega
      have hy := List.getElem?_eq_getElem hkL
      have hb := hA _ (List.getElem_mem hkL)
      have hq := hp k hk
      have hne : ((k : Int) != (pre.length : Int)) = true := by rw [bne_iff_ne]; omega
      rw [hne, cond_true, at_nat, hy, Option.bind_some, at_nat, gp_at hk, Option.bind_some, Option.bind_some, spec_clash hb ha hq.1 hq.2, Option.bind_some, Option.bind_some]
      unfold clL
      rw [hy, hx]
      dsimp only
      rw [inB_iff.2 hq, inB_iff.2 ⟨p0, p4⟩]
      rfl), any_range]
    rw [Bool.true_and]
    cases (List.range pre.length).all fun k => !clL L k (gp pre k) pre.length p <;> rfl
/-- The best so far and its score, as the reference keeps them. -/
def encB (L : List Label) : Option (List Int) → List Int × Int
  | none => ([], -1)
  | some g => (g, scoB L g)
/-- The reference's search. -/
theorem best_eq {L : List Label} (h6 : L.length ≤ 6) (hA : ∀ x ∈ L, LabIn x) : ∀ (m fuel : Nat) (pre : List Int), pre.length + m = L.length → m < fuel → (∀ i, i < pre.length → 0 ≤ gp pre i ∧ gp pre i ≤ 4) → spec_l33Best_f fuel L pre = some ((firstMax (scoB L) none (gons (alL L) (clL L) m pre)).getD []) := by
  intro m
  induction m with
  | zero =>
    intro fuel pre hl hf hp
    obtain ⟨fuel, rfl⟩ : ∃ k, fuel = k + 1 := ⟨fuel - 1, by omega⟩
    unfold spec_l33Best_f
    rw [show ((pre.length : Int) == (L.length : Int)) = true from by rw [beq_iff_eq]; omega]
    rfl
  | succ m ih =>
    intro fuel pre hl hf hp
    obtain ⟨fuel, rfl⟩ : ∃ k, fuel = k + 1 := ⟨fuel - 1, by omega⟩
    unfold spec_l33Best_f
    rw [show ((pre.length : Int) == (L.length : Int)) = false from by rw [beq_eq_false_iff_ne]; omega, cond_false]
    have key : ∀ (k p : Nat) (o : Option (List Int)), p + k = 5 → (∀ l, o = some l → PIn L l) →
        forH (fun (i3 : Int) (_ : (List Int) × Int) => (decide (i3 ≤ 4))) (fun (i3 : Int) (s3 : (List Int) × Int) => ((spec_l33Fits L pre (pre.length : Int) i3).bind fun x7 => (bif (!x7) then some (s3.1, s3.2) else ((spec_l01Own pre).bind fun x8 => ((app' x8 ([i3] : List Int)).bind fun x9 => ((spec_l33Best_f fuel L x9).bind fun x10 => ((spec_l33Score L x10).bind fun x11 => (bif (decide (x11 > s3.2)) then some (x10, x11) else some (s3.1, s3.2))))))))) (fun (s3 : (List Int) × Int) => s3.1) (p : Int) (encB L o) = some (encB L (firstMax (scoB L) o ((List.range' p k).flatMap fun (q : Nat) => bif fitN (alL L) (clL L) pre (q : Int) then gons (alL L) (clL L) m (pre ++ [(q : Int)]) else []))).1 := by
      intro k
      induction k with
      | zero =>
        intro p o hpk ho
        unfold forH
        rw [loop_eq]
        dsimp only
        rw [decide_eq_false (by omega), cond_false]
        rfl
      | succ k ihk =>
        intro p o hpk ho
        have hnext := fun (o' : Option (List Int)) (ho' : ∀ l, o' = some l → PIn L l) => ihk (p + 1) o' (by omega) ho'
        rw [List.range'_succ, List.flatMap_cons, firstMax_append]
        have hfits := spec_fit h6 hA (by omega) hp (p := (p : Int)) (by omega) (by omega)
        have hw : w64 ((p : Int) + 1) = ((p + 1 : Nat) : Int) := by rw [w64_id (by omega) (by omega)]; omega
        cases hfit : fitN (alL L) (clL L) pre (p : Int)
        · rw [forH_step (s' := encB L o) (decide_eq_true (by omega)) (by rw [hfits, hfit]; rfl), hw, cond_false]
          exact hnext o ho
        · rw [cond_true]
          have e1 : spec_l01Own pre = some pre := by
            unfold spec_l01Own
            rw [app_ok (by simp; omega)]
            rfl
          have hl2 : (pre ++ [(p : Int)]).length = pre.length + 1 := by simp
          have hp2 := pos_app (q := p) (by omega) hp
          obtain ⟨g, hg⟩ := firstMax_some (scoB L) none (gons (alL L) (clL L) m (pre ++ [(p : Int)])) (comps_ne fun i _ hi => left_out i (by omega))
          have hgP : PIn L g := by
            rcases firstMax_mem (scoB L) _ _ _ hg with h | h
            · exact pin_comps h6 hA (by omega) hp2 h
            · cases h
          have hpo : ∀ l, better (scoB L) o g = some l → PIn L l := fun l hle => by
            cases o with
            | none => injection hle with hle; rw [← hle]; exact hgP
            | some c =>
              rw [better] at hle
              split at hle
              · injection hle with hle; rw [← hle]; exact hgP
              · exact ho l hle
          rw [firstMax_split (scoB L) o _ g hg, forH_step (s' := encB L (better (scoB L) o g)) (decide_eq_true (by omega)) (by
            rw [hfits, hfit, Option.bind_some, Bool.not_true, cond_false, e1, Option.bind_some, app_ok (by simp; omega), Option.bind_some, ih fuel _ (by omega) (by omega) hp2, hg, Option.bind_some, Option.getD_some, spec_sco hgP, Option.bind_some]
            cases o with
            | none =>
              have h0 := (scoN_in hA g L.length (Nat.le_refl _)).1
              rw [show decide (scoB L g > (encB L none).2) = true from decide_eq_true (show (-1 : Int) < scoN L g L.length by omega)]
              rfl
            | some c =>
              rw [better]
              by_cases hs : scoB L c < scoB L g
              · rw [if_pos hs, show decide (scoB L g > (encB L (some c)).2) = true from decide_eq_true hs]
                rfl
              · rw [if_neg hs, show decide (scoB L g > (encB L (some c)).2) = false from decide_eq_false hs]
                rfl), hw]
          exact hnext _ hpo
    have := key 5 0 none rfl fun l h => by cases h
    rw [← List.range_eq_range'] at this
    rw [show ((0 : Nat) : Int) = 0 from rfl, show encB L none = (([] : List Int), (-1 : Int)) from rfl] at this
    rw [this, Option.bind_some]
    show some (encB L (firstMax (scoB L) none (gons (alL L) (clL L) (m + 1) pre))).1 = _
    cases firstMax (scoB L) none (gons (alL L) (clL L) (m + 1) pre) <;> rfl
/-- What both hand back. -/
def bestP (L : List Label) : List Int := (firstMax (scoB L) none (gons (alL L) (clL L) L.length [])).getD []
def bestV (L : List Label) : List Int × Int := bif labsB L then (bestP L, 0) else ([], 1)
theorem bestP_some {L : List Label} : firstMax (scoB L) none (gons (alL L) (clL L) L.length []) = some (bestP L) := by
  obtain ⟨g, hg⟩ := firstMax_some (scoB L) none (gons (alL L) (clL L) L.length []) (comps_ne fun i _ hi => left_out i (by simpa using hi))
  unfold bestP
  rw [hg]
  rfl
theorem bestP_in {L : List Label} (h : labsB L = true) : PIn L (bestP L) ∧ clearB (alL L) (clL L) (bestP L) = true := by
  obtain ⟨h6, hA⟩ := labsB_in h
  rcases firstMax_mem (scoB L) _ _ _ (bestP_some (L := L)) with h1 | h1
  · exact ⟨pin_comps h6 hA (by simp) (fun i hi => by simp at hi) h1, comps_clear (clL_sym hA) h1 rfl⟩
  · cases h1
theorem spec_bestV {L : List Label} (hL : L.length ≤ 1048576) : spec_BestPlacement L = some (bestV L) := by
  unfold spec_BestPlacement bestV spec_l33Best
  rw [spec_labs hL, Option.bind_some]
  cases hb : labsB L
  · rfl
  · obtain ⟨h6, hA⟩ := labsB_in hb
    rw [best_eq h6 hA L.length 1000 [] (by simp) (by omega) (fun i hi => by simp at hi)]
    rfl
theorem impl_bestV {L : List Label} (hL : L.length ≤ 1048576) : impl_BestPlacement L = some (bestV L) := by
  unfold impl_BestPlacement bestV
  rw [impl_labs hL, Option.bind_some]
  cases hb : labsB L
  · rfl
  · obtain ⟨h6, hA⟩ := labsB_in hb
    have h1 : slices_Repeat_int64 ([4] : List Int) (L.length : Int) = some (List.replicate L.length 4) := by
      unfold slices_Repeat_int64
      dsimp only
      rw [decide_eq_true (show (0 : Int) ≤ L.length by omega), decide_eq_true (show (L.length : Int) ≤ 16 by omega)]
      rfl
    obtain ⟨c, h2, _, _⟩ := walk_eq L.length (L.length + 1) 0 none (List.replicate L.length 4) (pin_start h6 hA) (by omega) (by omega) (fun l h => by cases h)
    rw [List.take_zero, bestP_some, show ((0 : Nat) : Int) = 0 from rfl] at h2
    rw [Bool.not_true, cond_false, h1, Option.bind_some, h2]
    rfl
theorem bestBoth {L : List Label} (hL : L.length ≤ 1048576) : ∃ r, impl_BestPlacement L = some r ∧ spec_BestPlacement L = some r ∧ r.1.length ≤ 6 := by
  refine ⟨_, impl_bestV hL, spec_bestV hL, ?_⟩
  unfold bestV
  cases hl : labsB L
  · simp
  · show (bestP L).length ≤ 6
    rw [(bestP_in hl).1.len]
    exact (labsB_in hl).1
end Go.Proofs.Ytlhllbiikideeaa.Sh
