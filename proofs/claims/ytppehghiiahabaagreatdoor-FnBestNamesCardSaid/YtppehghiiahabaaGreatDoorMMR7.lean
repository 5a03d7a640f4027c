/- The law FnBestNames answers true; no condition but the bounds of its arguments' types. -/
import Derived.Test.YtppehghiiahabaaGreatDoorMMR6
import Derived.Test.YtppehghiiahabaaGreatDoorMST1
namespace Go.Proofs.YtppehghiiahabaaGreatDoor.Sh
open Go.RowKit Go.Lib
theorem forS_fold_ix {α S A : Type} {L : List α} (hL : L.length ≤ 9223372036854775807) {B : Int → S → Option S} {D : S → A} (I : Nat → S → Prop) (g : S → α → S) {s : S} (h : ∀ (i : Nat) x s, L[i]? = some x → I i s → B (i : Int) s = some (g s x) ∧ I (i + 1) (g s x)) (h2 : I 0 s) : forS (L.length : Int) B D 0 s = some (D (L.foldl g s)) ∧ I L.length (L.foldl g s) := by
  have key : ∀ (M : List α) (k : Nat) (s : S), (∀ j x s, M[j]? = some x → I (k + j) s → B ((k + j : Nat) : Int) s = some (g s x) ∧ I (k + j + 1) (g s x)) → I k s → iterN (fun i s => (B (i : Int) s).map .inl) D M.length k s = some (D (M.foldl g s)) ∧ I (k + M.length) (M.foldl g s) := by
    intro M
    induction M with
    | nil => exact fun k s _ h => ⟨rfl, h⟩
    | cons x l ih =>
      intro k s h h2
      have h3 := h 0 x s rfl h2
      rw [Nat.add_zero] at h3
      show ((B (k : Int) s).map .inl).bind (Sum.elim (iterN (fun i s => (B (i : Int) s).map .inl) D l.length (k + 1)) some) = _ ∧ _
      rw [h3.1]
      have := ih (k + 1) _ (fun j y s hy h5 => by
        have := h (j + 1) y s (by simpa using hy) (by rw [show k + (j + 1) = k + 1 + j by omega]; exact h5)
        rw [show k + 1 + j = k + (j + 1) from by omega]
        exact this) h3.2
      rw [List.length_cons, show k + (l.length + 1) = k + 1 + l.length by omega]
      exact this
  rw [forS_forN, forN_iter _ hL]
  have := key L 0 s (fun j x s hx hI => by
    rw [Nat.zero_add] at hI ⊢
    exact h j x s hx hI) h2
  rw [Nat.zero_add] at this
  exact this
/-- Does a claim tell a fact? -/
def tellB (F : Fact) (c : Claim) : Bool := (c.Kind == F.Kind) && ((c.Place.toList == F.Place.toList) && ((c.Value.toList == F.Value.toList) && inB F.Year c.Years.From c.Years.To))
theorem impl_tells_eq (c : Claim) (F : Fact) : impl_Claim_tells c F = some (tellB F c) := by
  unfold impl_Claim_tells impl_Span_has tellB
  rw [within_eq]
  cases c.Kind == F.Kind <;> cases c.Place.toList == F.Place.toList <;> cases c.Value.toList == F.Value.toList <;> rfl
theorem spec_tells_eq (c : Claim) (F : Fact) : spec_l24Tells c F = some (tellB F c) := by
  unfold spec_l24Tells tellB
  rw [l01In_eq]
  cases c.Kind == F.Kind <;> cases c.Place.toList == F.Place.toList <;> cases c.Value.toList == F.Value.toList <;> rfl
def tixL (L : List Claim) (F : Fact) : List Int := (List.range L.length).flatMap fun (i : Nat) => bif ((L[i]?).map (tellB F)).getD false then [(i : Int)] else []
theorem tix_pos (L : List Claim) (F : Fact) : decide (((tixL L F).length : Int) > 0) = L.any (tellB F) := by
  rw [Bool.eq_iff_iff, decide_eq_true_eq, List.any_eq_true]
  constructor
  · intro h
    obtain ⟨x, hx⟩ := List.exists_mem_of_length_pos (show 0 < (tixL L F).length by omega)
    obtain ⟨i, hi, hx⟩ := List.mem_flatMap.1 hx
    cases hb : ((L[i]?).map (tellB F)).getD false
    · rw [hb] at hx; simp at hx
    · cases hl : L[i]? with
      | none => rw [hl] at hb; cases hb
      | some c =>
        rw [hl] at hb
        exact ⟨c, List.mem_of_getElem? hl, hb⟩
  · rintro ⟨c, hc, ht⟩
    obtain ⟨i, hi, rfl⟩ := List.mem_iff_getElem.1 hc
    have : (i : Int) ∈ tixL L F := by
      refine List.mem_flatMap.2 ⟨i, List.mem_range.2 hi, ?_⟩
      rw [List.getElem?_eq_getElem hi, Option.map_some, Option.getD_some, ht]
      simp
    have := List.length_pos_of_mem this
    omega
theorem tix_one (L : List Claim) (F : Fact) (i : Nat) : (bif ((L[i]?).map (tellB F)).getD false then [(i : Int)] else ([] : List Int)).length ≤ 1 := by
  cases ((L[i]?).map (tellB F)).getD false <;> simp
theorem impl_telling_eq {L : List Claim} (hL : L.length ≤ 1000) (F : Fact) : impl_telling L F = some (tixL L F) := by
  unfold impl_telling impl_claimsWhere_impl_telling_1 impl_telling_1
  rw [forS_build 1000000 (by omega) (by omega) (fun (i : Nat) => bif ((L[i]?).map (tellB F)).getD false then [(i : Int)] else []) (tix_one L F) [] (by simp; omega) (fun i s hi hs => by
    rw [at_nat, List.getElem?_eq_getElem hi, Option.bind_some, impl_tells_eq, Option.bind_some, Option.bind_some, Option.map_some, Option.getD_some]
    cases tellB F L[i]
    · simp
    · rw [cond_true, cond_true, app_ok (by simp; omega)]
      rfl)]
  rfl
theorem spec_telling_eq {L : List Claim} (hL : L.length ≤ 1000) (F : Fact) : spec_l24Telling L F = some (tixL L F) := by
  unfold spec_l24Telling
  rw [forS_build 1000000 (by omega) (by omega) (fun (i : Nat) => bif ((L[i]?).map (tellB F)).getD false then [(i : Int)] else []) (tix_one L F) [] (by simp; omega) (fun i s hi hs => by
    rw [at_nat, List.getElem?_eq_getElem hi, Option.bind_some, spec_tells_eq, Option.bind_some, Option.map_some, Option.getD_some]
    cases tellB F L[i]
    · simp
    · rw [cond_true, cond_true, app_ok (by simp; omega)]
      rfl)]
  rfl
/-- All minimal repairs. -/
noncomputable def repsL (L : List Claim) : List (List Int) := allL (repB L) L.length (L.length + 1) 0 []
theorem reps_len {L : List Claim} (hc : claimsB L = true) : (repsL L).length ≤ 4096 := by
  have h12 := (claimsB_iff.1 hc).1
  have h1 := allL_len (n := L.length) (rep := repB L) (L.length + 1) 0 [] (by omega)
  have h2 : 2 ^ (L.length - 0) ≤ 2 ^ 12 := Nat.pow_le_pow_right (by omega) (by omega)
  unfold repsL
  omega
noncomputable def possB (L : List Claim) (F : Fact) : Bool := (repsL L).any fun R => (keptL L R).any (tellB F)
theorem impl_poss_eq {L : List Claim} (hc : claimsB L = true) (F : Fact) : impl_isPossible L F = some (possB L F) := by
  have h12 := (claimsB_iff.1 hc).1
  have hl := reps_len hc
  unfold impl_isPossible
  rw [impl_minimal_eq hc, sort_outs (rep_rising hc), Option.bind_some]
  show ((slices_ContainsFunc_int64_impl_isPossible_1 (repsL L) L F).bind _) = _
  unfold slices_ContainsFunc_int64_impl_isPossible_1 slices_IndexFunc_int64_impl_isPossible_1 impl_isPossible_1
  rw [loop_idx (L := repsL L) (by omega) (fun R => (keptL L R).any (tellB F)) (fun k R hR => by
    have hi := ((mem_all hc).1 (List.mem_of_getElem? hR)).1
    have h1 := hi.len
    have h2 := (kept_ok hc R).1
    have ht : impl_isTold L R F = some ((keptL L R).any (tellB F)) := by
      unfold impl_isTold
      rw [impl_kept_eq (by omega) (by omega), Option.bind_some, impl_telling_eq (by omega), Option.bind_some, tix_pos]
    rw [at_nat, hR, Option.bind_some, ht]
    rfl), Option.bind_some, idxP_any]
  rfl
theorem spec_counts_eq {L : List Claim} (hc : claimsB L = true) (F : Fact) : ∃ r, spec_l24Counts L F = some r ∧ decide (r.1 > 0) = possB L F := by
  have h12 := (claimsB_iff.1 hc).1
  have hl := reps_len hc
  unfold spec_l24Counts
  rw [spec_all hc, Option.bind_some]
  have e0 : allL (repB L) L.length (L.length + 1) 0 [] = repsL L := rfl
  rw [e0]
  obtain ⟨e1, e2⟩ := forS_fold_ix (L := repsL L) (by omega) (B := fun (i4 : Int) (s4 : Int) => ((at' (repsL L) i4).bind fun x8 => ((spec_l22Rest L x8).bind fun x9 => ((spec_l21Chosen L x9).bind fun x10 => ((spec_l24Telling x10 F).bind fun x11 => (bif (decide ((x11.length : Int) > 0)) then some (w64 (s4 + 1)) else some s4)))))) (D := fun s => s) (fun i (s : Int) => 0 ≤ s ∧ s ≤ i) (fun s R => bif (keptL L R).any (tellB F) then s + 1 else s) (s := 0) (fun i R s hR hs => by
    have hi := ((mem_all hc).1 (List.mem_of_getElem? hR)).1
    have h1 := hi.len
    have h2 := (kept_ok hc R).1
    have h4 := rest_len L.length R
    have hil := (List.getElem?_eq_some_iff.1 hR).1
    rw [at_nat, hR, Option.bind_some, spec_rest_eq (by omega) (by omega), Option.bind_some, spec_chosen_eq (by omega) (fun x hx => by
      obtain ⟨i, rfl, hi, _⟩ := mem_rest.1 hx
      omega), Option.bind_some]
    show (((spec_l24Telling (keptL L R) F).bind fun x11 => (bif (decide ((x11.length : Int) > 0)) then some (w64 (s + 1)) else some s)) = _) ∧ _
    rw [spec_telling_eq (by omega), Option.bind_some, tix_pos]
    cases (keptL L R).any (tellB F)
    · exact ⟨rfl, hs.1, by show s ≤ ((i + 1 : Nat) : Int); omega⟩
    · rw [cond_true, cond_true, w64_id (by omega) (by omega)]
      exact ⟨rfl, by omega, by omega⟩) ⟨Int.le_refl _, Int.le_refl _⟩
  rw [e1, Option.bind_some]
  refine ⟨_, rfl, ?_⟩
  have key : ∀ (M : List (List Int)) (s : Int), 0 ≤ s → decide (M.foldl (fun s R => bif (keptL L R).any (tellB F) then s + 1 else s) s > 0) = (decide (s > 0) || M.any fun R => (keptL L R).any (tellB F)) := by
    intro M
    induction M with
    | nil => intro s _; simp
    | cons R M ih =>
      intro s hs
      rw [List.foldl_cons, List.any_cons]
      cases hR : (keptL L R).any (tellB F)
      · rw [cond_false, ih s hs, Bool.false_or]
      · rw [cond_true, ih (s + 1) (by omega), decide_eq_true (show s + 1 > 0 by omega)]
        simp
  have := key (repsL L) 0 (Int.le_refl _)
  rw [decide_eq_false (show ¬ (0 : Int) > 0 by omega), Bool.false_or] at this
  exact this
/-- The names that a place may have had. -/
noncomputable def nameO (L : List Claim) (p : ByteArray) (y : Int) (c : Claim) : Option ByteArray := bif tellB (Fact.mk 0 p c.Value y) c && possB L (Fact.mk 0 p c.Value y) then some c.Value else none
noncomputable def namesL (L : List Claim) (p : ByteArray) (y : Int) : List ByteArray := L.flatMap fun c => (nameO L p y c).toList
theorem one_opt {α : Type} (o : Option α) : o.toList.length ≤ 1 := by cases o <;> simp
theorem names_len (L : List Claim) (p : ByteArray) (y : Int) : (namesL L p y).length ≤ L.length := flat_le (fun c => one_opt (nameO L p y c)) L
noncomputable def namV (L : List Claim) (p : ByteArray) (y : Int) : List ByteArray × Int := bif abC L p y != 0 then ([], abC L p y) else (sortedS (namesL L p y), 0)
theorem impl_names_eq {L : List Claim} (hL : L.length ≤ 1048576) (h : ∀ x ∈ L, smClaim x) {p : ByteArray} (hp : p.size ≤ 1048576) (y : Int) : impl_NamesPossible L p y = some (namV L p y) := by
  unfold impl_NamesPossible namV
  rw [impl_about_eq hL h hp, Option.bind_some]
  cases h0 : (abC L p y != 0)
  · have hc : claimsB L = true := abC_zero (p := p) (y := y) (by rw [bne, Bool.not_eq_false'] at h0; exact h0)
    have h12 := (claimsB_iff.1 hc).1
    have hnl := names_len L p y
    rw [cond_false, cond_false, forS_build 1000000 (by omega) (by omega) (fun i => ((L[i]?).bind (nameO L p y)).toList) (fun i => one_opt _) [] (by simp; omega) (fun i s hi hs => by
      rw [at_nat, List.getElem?_eq_getElem hi]
      simp only [Option.bind_some, impl_tells_eq, impl_poss_eq hc]
      unfold nameO
      cases tellB (Fact.mk 0 p L[i].Value y) L[i]
      · simp
      · cases possB L (Fact.mk 0 p L[i].Value y)
        · simp
        · simp only [cond_true, Option.bind_some, Bool.and_self]
          rw [app_ok (by simp; omega)]
          rfl), flat_range, List.nil_append, Option.bind_some]
    show ((impl_sorted (namesL L p y)).bind _) = _
    unfold impl_sorted
    rw [if_pos (by omega)]
    rfl
  · rfl
theorem fold_names (L : List Claim) (p : ByteArray) (y : Int) : ∀ (M : List Claim) (s : List ByteArray), M.foldl (fun s c => match nameO L p y c with | some v => insS s v | none => s) s = (M.flatMap fun c => (nameO L p y c).toList).foldl insS s
  | [], _ => rfl
  | c :: M, s => by
    rw [List.foldl_cons, List.flatMap_cons, List.foldl_append, fold_names L p y M]
    cases nameO L p y c <;> rfl
theorem spec_names_eq {L : List Claim} (hL : L.length ≤ 1048576) (h : ∀ x ∈ L, smClaim x) {p : ByteArray} (hp : p.size ≤ 1048576) (y : Int) : spec_NamesPossible L p y = some (namV L p y) := by
  unfold spec_NamesPossible namV
  rw [spec_code_eq hL h hp, Option.bind_some]
  cases h0 : (abC L p y != 0)
  · have hc : claimsB L = true := abC_zero (p := p) (y := y) (by rw [bne, Bool.not_eq_false'] at h0; exact h0)
    have h12 := (claimsB_iff.1 hc).1
    obtain ⟨e1, _⟩ := forS_fold_ix (L := L) (by omega) (B := fun (i4 : Int) (s4 : (List ByteArray)) => ((at' L i4).bind fun x8 => ((at' L i4).bind fun x9 => ((spec_l24Tells x9 (Fact.mk 0 p x8.Value y)).bind fun x10 => (bif x10 then ((spec_l24Counts L (Fact.mk 0 p x8.Value y)).bind fun x11 => (bif (decide (x11.1 > 0)) then ((at' L i4).bind fun x12 => ((spec_l08Insert s4 x12.Value).bind fun x13 => some x13)) else some s4)) else some s4))))) (D := fun s => s) (fun i (s : List ByteArray) => s.Pairwise (fun a b => ltB a b = true) ∧ s.length ≤ i) (fun s c => match nameO L p y c with | some v => insS s v | none => s) (s := []) (fun i c s hci hs => by
      have hil := (List.getElem?_eq_some_iff.1 hci).1
      have hat : at' L (i : Int) = some c := by rw [at_nat, hci]
      obtain ⟨r, r1, r2⟩ := spec_counts_eq hc (Fact.mk 0 p c.Value y)
      simp only [hat, Option.bind_some, spec_tells_eq, r1, r2]
      unfold nameO
      cases tellB (Fact.mk 0 p c.Value y) c
      · exact ⟨rfl, hs.1, by show s.length ≤ i + 1; omega⟩
      · cases possB L (Fact.mk 0 p c.Value y)
        · exact ⟨rfl, hs.1, by show s.length ≤ i + 1; omega⟩
        · have hl := insS_len s c.Value
          simp only [cond_true, Bool.and_self]
          rw [spec_insS (by omega) hs.1]
          exact ⟨rfl, insS_sorted hs.1, by omega⟩) ⟨List.Pairwise.nil, by simp⟩
    rw [cond_false, cond_false, e1, fold_names, Option.bind_some]
    show some ((namesL L p y).foldl insS [], (0 : Int)) = _
    rw [foldl_sortedS]
  · rfl
theorem likeTexts_self (L : List ByteArray) (hL : L.length ≤ 1048576) : laws_likeTexts L L = some true := by
  unfold laws_likeTexts
  rw [bne_self_eq_false, cond_false, loop_any (by omega) (fun _ => false) false (fun i x hx => by
    rw [at_nat, hx]
    simp), any_no]
  rfl
theorem hasText_eq (L : List ByteArray) (hL : L.length ≤ 1048576) (x : ByteArray) : laws_hasText L x = some (L.any fun y => y.toList == x.toList) := by
  unfold laws_hasText
  rw [loop_any (by omega) (fun y => y.toList == x.toList) true (fun i y hy => by
    rw [at_nat, hy]
    rfl)]
  cases L.any fun y => y.toList == x.toList <;> rfl
theorem namV_len {L : List Claim} (p : ByteArray) (y : Int) : (namV L p y).1.length ≤ L.length := by
  unfold namV
  cases abC L p y != 0
  · have h1 := sortedS_len (namesL L p y)
    have h2 := names_len L p y
    show (sortedS (namesL L p y)).length ≤ _
    omega
  · simp
/-- What the best repair tells is told by a claim it keeps. -/
theorem best_told {L : List Claim} {b : List Int} {k : Int} {p : ByteArray} {y : Int} (h : (bestV L b k p y).2 = 0) : abC L p y = 0 ∧ ∃ x ∈ keptL L b, telB k p y x = true ∧ x.Value = (bestV L b k p y).1 := by
  unfold bestV at h ⊢
  cases h0 : (abC L p y != 0)
  · rw [h0, cond_false] at h
    rw [cond_false]
    refine ⟨by rw [bne, Bool.not_eq_false'] at h0; exact beq_iff_eq.1 h0, ?_⟩
    unfold tel at h ⊢
    cases hf : (keptL L b).find? (telB k p y) with
    | none => rw [hf] at h; simp at h
    | some x => exact ⟨x, List.mem_of_find?_eq_some hf, List.find?_some hf, rfl⟩
  · rw [h0, cond_true] at h
    have h : abC L p y = 0 := h
    rw [h] at h0
    cases h0
theorem tell_of {k : Int} {p : ByteArray} {y : Int} {x : Claim} (h : telB k p y x = true) : tellB (Fact.mk k p x.Value y) x = true := by
  unfold telB at h
  unfold tellB
  simp only [Bool.and_eq_true] at h ⊢
  exact ⟨h.1, h.2.1, beq_self_eq_true _, h.2.2⟩
theorem poss_of {L : List Claim} (hc : claimsB L = true) {b : List Int} (hi : Inc L.length b) (hm : minB (repB L) b = true) {F : Fact} {x : Claim} (hx : x ∈ keptL L b) (ht : tellB F x = true) : possB L F = true := by
  unfold possB
  exact List.any_eq_true.2 ⟨b, (mem_all hc).2 ⟨hi, hm⟩, List.any_eq_true.2 ⟨x, hx, ht⟩⟩
theorem wordA : wordB (ByteArray.mk #[97]) = true := by decide +kernel
theorem fact_code {L : List Claim} (hL : L.length ≤ 1048576) (h : ∀ x ∈ L, smClaim x) (hc : claimsB L = true) {p : ByteArray} {y : Int} (hab : abC L p y = 0) {x : Claim} (hx : x ∈ L) (ht : telB 1 p y x = true) : impl_factCode L (Fact.mk 1 p x.Value y) = some 0 := by
  have hcl := (claimsB_iff.1 hc).2 x hx
  have hsx := h x hx
  unfold telB at ht
  simp only [Bool.and_eq_true] at ht
  obtain ⟨t1, t2, t3⟩ := ht
  have hk : x.Kind = 1 := beq_iff_eq.1 t1
  have hpl : x.Place = p := beqL.1 t2
  subst hpl
  unfold claimB at hcl
  simp only [Bool.and_eq_true] at hcl
  obtain ⟨_, c2, c3, _, _⟩ := hcl
  have hy : inB y (-3000) 3000 = true := by
    unfold abC at hab
    rw [hc, c2] at hab
    cases hy : inB y (-3000) 3000
    · rw [hy] at hab
      simp at hab
    · rfl
  have hv : valB (Claim.mk (ByteArray.mk #[97]) 1 x.Place x.Value (Span.mk y y) 1) = true := by
    unfold valB at c3 ⊢
    rw [hk] at c3
    exact c3
  have hcB : claimB (Claim.mk (ByteArray.mk #[97]) 1 x.Place x.Value (Span.mk y y) 1) = true := by
    unfold claimB spanB
    show (wordB (ByteArray.mk #[97]) && (wordB x.Place && (valB (Claim.mk (ByteArray.mk #[97]) 1 x.Place x.Value (Span.mk y y) 1) && ((inB y (-3000) 3000 && (inB y (-3000) 3000 && decide (y ≤ y))) && inB 1 1 100)))) = true
    rw [wordA, c2, hv, hy, decide_eq_true (Int.le_refl y)]
    rfl
  have hsm : smClaim (Claim.mk (ByteArray.mk #[97]) 1 x.Place x.Value (Span.mk y y) 1) := ⟨by show 1 ≤ 1048576; omega, hsx.s2, hsx.s3⟩
  have hf : impl_IsFact (Fact.mk 1 x.Place x.Value y) = some true := by
    unfold impl_IsFact impl_Fact_claim
    rw [within_eq]
    show ((bif inB 1 0 1 then ((some (Claim.mk (ByteArray.mk #[97]) 1 x.Place x.Value (Span.mk y y) 1)).bind fun x2 => ((impl_IsClaim x2).bind fun x3 => some x3)) else some false).bind fun (j4 : Bool) => some j4) = _
    rw [show inB 1 0 1 = true from rfl, cond_true, Option.bind_some, impl_isClaim _ hsm, hcB]
    rfl
  unfold impl_factCode
  rw [impl_areClaims hL h, hc, Option.bind_some, hf]
  rfl
theorem drawBest_G {c : List Int} (hc : CodeOk c) : Gv (spec_DrawBestName c) (fun r => ShortL 30 r.1 ∧ r.2.1.size ≤ 100) := by
  unfold spec_DrawBestName spec_DrawCircleIn
  refine Gv.bind (P := fun r : List Claim × ByteArray × Int => ShortL 30 r.1 ∧ r.2.1.size ≤ 100) ?_ fun r hr => .some hr
  exact (Gv.from hc).bind fun s hs => (l21List_G hs).bind fun x2 h2 => (Gv.next h2.2 5 (by omega)).bind fun x3 h3 => Gv.bind (Gv.at (P := fun x : ByteArray => x.size ≤ 100) ⟨h3.1.1, by simpa using h3.1.2⟩ (by simp) (by decide)) fun p hp => (l21Year_G h3.2).bind fun x5 h5 => .some ⟨h2.1, hp⟩
theorem FnBestNames_true (c : List Int) (h : c.length ≤ maxLen ∧ ∀ x ∈ c, okU8 x) : laws_FnBestNames c = some true := by
  unfold laws_FnBestNames laws_big
  rw [Option.bind_some]
  by_cases hb : (c.length : Int) > 4096
  · rw [decide_eq_true hb]
    rfl
  rw [decide_eq_false hb, cond_false]
  have hc : CodeOk c := ⟨by omega, h.2⟩
  obtain ⟨⟨L, p, y⟩, e2, hS, hps⟩ := drawBest_G hc
  have hS : ShortL 30 L := hS
  have hps : p.size ≤ 100 := hps
  have hL := hS.len
  have hm := hS.sm
  have hp : p.size ≤ 1048576 := by omega
  obtain ⟨b, hbest⟩ := best_ex L
  obtain ⟨n1, n2⟩ := bestName_V hL hm hp y hbest
  obtain ⟨m1, m2⟩ := bestParent_V hL hm hp y hbest
  have hnl := namV_len (L := L) p y
  have h30 := hS.1
  rw [e2, Option.bind_some]
  simp only [n1, n2, m1, m2, impl_names_eq hL hm hp, spec_names_eq hL hm hp, Option.bind_some, bne_self_eq_false, cond_false, beq_self_eq_true, Bool.not_true, likeTexts_self _ (show (namV L p y).1.length ≤ 1048576 by omega)]
  have hpar : (bif (bestV L b 1 p y).2 == 0 then ((impl_IsPossible L (Fact.mk 1 p (bestV L b 1 p y).1 y)).bind fun x14 => (bif ((x14.2 != 0) || (!x14.1)) then some (Sum.inr false) else some (Sum.inl ()))) else some (Sum.inl ()) : Option (Unit ⊕ Bool)) = some (.inl ()) := by
    cases hz : ((bestV L b 1 p y).2 == 0)
    · rfl
    · obtain ⟨hab, x, hx, ht, hv⟩ := best_told (beq_iff_eq.1 hz)
      have hcl : claimsB L = true := abC_zero (p := p) (y := y) (by rw [hab]; rfl)
      obtain ⟨_, _, b3, b4⟩ := hbest hcl
      have hpo := poss_of hcl b3 b4 hx (tell_of ht)
      have hfc := fact_code hL hm hcl hab (kept_sub hx) ht
      have : impl_IsPossible L (Fact.mk 1 p x.Value y) = some (true, 0) := by
        unfold impl_IsPossible
        rw [hfc, Option.bind_some, impl_poss_eq hcl, hpo]
        rfl
      rw [cond_true, ← hv, this]
      rfl
  rw [hpar, Option.bind_some, Sum.elim_inl]
  cases hz : ((bestV L b 0 p y).2 != 0)
  · have hz0 : (bestV L b 0 p y).2 = 0 := by rw [bne, Bool.not_eq_false'] at hz; exact beq_iff_eq.1 hz
    obtain ⟨hab, x, hx, ht, hv⟩ := best_told hz0
    have hcl : claimsB L = true := abC_zero (p := p) (y := y) (by rw [hab]; rfl)
    obtain ⟨_, _, b3, b4⟩ := hbest hcl
    have hpo := poss_of hcl b3 b4 hx (tell_of ht)
    have hmem : x.Value ∈ namesL L p y := by
      refine List.mem_flatMap.2 ⟨x, kept_sub hx, ?_⟩
      unfold nameO
      rw [tell_of ht, hpo]
      simp
    have hnv : namV L p y = (sortedS (namesL L p y), 0) := by
      unfold namV
      rw [hab]
      rfl
    have hsl := sortedS_len (namesL L p y)
    have hsl2 := names_len L p y
    rw [hnv]
    simp only [cond_false, beq_self_eq_true, cond_true]
    rw [hasText_eq _ (by omega), Option.bind_some]
    have : ((sortedS (namesL L p y)).any fun z => z.toList == (bestV L b 0 p y).1.toList) = true := List.any_eq_true.2 ⟨x.Value, sortedS_mem.2 hmem, by rw [hv]; exact beq_self_eq_true _⟩
    rw [this]
    rfl
  · rfl
end Go.Proofs.YtppehghiiahabaaGreatDoor.Sh
