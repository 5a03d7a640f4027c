/- Plain laws of claims: AreConsistent, AreChosenConsistent, FitsTo and ExistsBy of both; the pairs. -/
import Derived.Test.YtfllgbokdhhedaaGreatDoorBN6
import Derived.Test.YtfllgbokdhhedaaGreatDoorBGV
namespace Go.Proofs.YtfllgbokdhhedaaGreatDoor.Sh
open Go.RowKit Go.Lib
theorem firstI_findSome {α A : Type} (g : α → Option A) (z : A) : ∀ (L : List α) (k : Nat), firstI (fun _ x => (g x).isSome) (fun _ x => (g x).getD z) L k = L.findSome? g
  | [], _ => rfl
  | x :: l, k => by
    unfold firstI
    cases h : g x with
    | none =>
      rw [List.findSome?_cons_of_isNone (by rw [h]; rfl)]
      exact firstI_findSome g z l (k + 1)
    | some a =>
      rw [List.findSome?_cons_of_isSome (by rw [h]; rfl), h]
      rfl
theorem impl_exists_eq {L : List Claim} (hL : L.length ≤ 1048576) (p : ByteArray) (y : Int) : impl_existsBy L p y = some (exF L p y) := by
  unfold impl_existsBy impl_Span_has
  rw [loop_first (by omega) (fun _ c => (exO p y c).isSome) (fun _ c => (exO p y c).getD 0) (fun i x hx => by
    rw [at_nat, hx, Option.bind_some, within_eq, Option.bind_some, Option.bind_some]
    unfold exO
    cases inB y x.Years.From x.Years.To <;> cases x.Place.toList == p.toList <;> cases x.Kind == 3 <;> cases (x.Kind == 1 && x.Value.toList == p.toList) <;> rfl), firstI_findSome (exO p y) 0]
  unfold exF
  cases L.findSome? (exO p y) <;> rfl
theorem fold_last {α : Type} (g : α → Option Int) : ∀ (L : List α) (s : Int), (∀ c ∈ L, ∀ d ∈ L, ∀ a b, g c = some a → g d = some b → a = b) → L.foldl (fun s c => (g c).getD s) s = (L.findSome? g).getD s
  | [], _, _ => rfl
  | x :: l, s, h => by
    rw [List.foldl_cons, fold_last g l _ fun c hc d hd => h c (List.mem_cons_of_mem _ hc) d (List.mem_cons_of_mem _ hd)]
    cases hx : g x with
    | none =>
      rw [List.findSome?_cons_of_isNone (by rw [hx]; rfl)]
      rfl
    | some a =>
      rw [List.findSome?_cons_of_isSome (by rw [hx]; rfl), hx]
      show (l.findSome? g).getD a = a
      cases hl : l.findSome? g with
      | none => rfl
      | some b =>
        obtain ⟨d, hd, hb⟩ := List.exists_of_findSome?_eq_some hl
        exact (h x List.mem_cons_self d (List.mem_cons_of_mem _ hd) a b hx hb).symm
theorem spec_exists_eq {L : List Claim} (hL : L.length ≤ 1048576) (h : pairB L = false) (p : ByteArray) (y : Int) : spec_l21Exists L p y = some (exF L p y) := by
  unfold spec_l21Exists
  rw [(forS_foldl_list (L := L) (by omega) (fun _ => True) (fun s c => (exO p y c).getD s) 0 (fun i x s hx _ => by
    rw [at_nat, hx, Option.bind_some, l01In_eq, Option.bind_some]
    unfold exO
    refine ⟨?_, trivial⟩
    cases inB y x.Years.From x.Years.To <;> cases x.Place.toList == p.toList <;> cases x.Kind == 3 <;> cases (x.Kind == 1 && x.Value.toList == p.toList) <;> rfl) trivial).1]
  rw [fold_last (exO p y) L 0 fun c hc d hd a b ha hb => exO_same (pairB_no h hc hd) ha hb]
  rfl
theorem soC_cons {L : List Claim} {p : ByteArray} {y : Int} (h : (soC L p y != 0) = false) : consB L = true := by
  unfold soC at h
  cases h0 : (abC L p y == 0)
  · rw [h0, cond_false, bne, h0] at h
    cases h
  · rw [h0, cond_true] at h
    cases hc : consB L
    · rw [hc] at h
      cases h
    · rfl
theorem consB_pair {L : List Claim} (h : consB L = true) : pairB L = false := by
  unfold consB at h
  rw [Bool.and_eq_true, Bool.not_eq_true'] at h
  exact h.1
noncomputable def exV (L : List Claim) (p : ByteArray) (y : Int) : Int × Int := bif soC L p y != 0 then (0, soC L p y) else (exF L p y, 0)
theorem impl_existsBy_eq {L : List Claim} (hL : L.length ≤ 1048576) (h : ∀ x ∈ L, smClaim x) {p : ByteArray} (hp : p.size ≤ 1048576) (y : Int) : impl_ExistsBy L p y = some (exV L p y) := by
  unfold impl_ExistsBy exV
  rw [impl_code_eq hL h hp, Option.bind_some, impl_exists_eq hL, Option.bind_some]
  cases soC L p y != 0 <;> rfl
theorem spec_existsBy_eq {L : List Claim} (hL : L.length ≤ 1048576) (h : ∀ x ∈ L, smClaim x) {p : ByteArray} (hp : p.size ≤ 1048576) (y : Int) : spec_ExistsBy L p y = some (exV L p y) := by
  unfold spec_ExistsBy exV
  rw [spec_sound_eq hL h hp, Option.bind_some]
  cases h0 : (soC L p y != 0)
  · rw [cond_false, cond_false, spec_exists_eq hL (consB_pair (soC_cons h0)), Option.bind_some]
  · rfl
noncomputable def conV (L : List Claim) : Bool × Int := bif claimsB L then (consB L, 0) else (false, 1)
theorem impl_areCons_eq {L : List Claim} (hL : L.length ≤ 1048576) (h : ∀ x ∈ L, smClaim x) : impl_AreConsistent L = some (conV L) := by
  unfold impl_AreConsistent conV
  rw [impl_areClaims hL h, Option.bind_some]
  cases hc : claimsB L
  · rfl
  · obtain ⟨h1, h2⟩ := claimsB_iff.1 hc
    rw [impl_consistent_eq (by omega) h2]
    rfl
theorem spec_areCons_eq {L : List Claim} (hL : L.length ≤ 1048576) (h : ∀ x ∈ L, smClaim x) : spec_AreConsistent L = some (conV L) := by
  unfold spec_AreConsistent conV
  rw [spec_areClaims hL h, Option.bind_some]
  cases hc : claimsB L
  · rfl
  · obtain ⟨h1, h2⟩ := claimsB_iff.1 hc
    rw [spec_consistent_eq (by omega) h2]
    rfl
/-- Are these rising indices below n? -/
def risP (I : List Int) (n : Int) (i : Nat) (x : Int) : Bool := !inB x 0 (w64 (n - 1)) || (decide (0 < i) && decide ((I[i - 1]?).getD 0 ≥ x))
def risB (I : List Int) (n : Int) : Bool := !(firstI (risP I n) (fun _ _ => ()) I 0).isSome
theorem impl_rises {I : List Int} (hI : I.length ≤ 1048576) (n : Int) : impl_areIndices I n = some (risB I n) := by
  unfold impl_areIndices risB
  rw [loop_first (by omega) (risP I n) (fun _ _ => false) (fun i x hx => by
    have hi : i < I.length := (List.getElem?_eq_some_iff.1 hx).1
    rw [at_nat, hx, Option.bind_some, within_eq, Option.bind_some]
    unfold risP
    cases inB x 0 (w64 (n - 1))
    · rfl
    · rw [Bool.not_true, cond_false, Bool.false_or]
      by_cases h0 : 0 < i
      · rw [decide_eq_true (show (i : Int) > 0 by omega), decide_eq_true h0, cond_true, Bool.true_and, w64_id (by omega) (by omega), show (i : Int) - 1 = ((i - 1 : Nat) : Int) by omega, at_nat, List.getElem?_eq_getElem (by omega)]
        rfl
      · rw [decide_eq_false (show ¬ (i : Int) > 0 by omega), decide_eq_false h0]
        rfl), firstI_const]
  cases (firstI (risP I n) (fun _ _ => ()) I 0).isSome <;> rfl
theorem spec_rises {I : List Int} (hI : I.length ≤ 1048576) (n : Int) : spec_l01Rises I n = some (risB I n) := by
  unfold spec_l01Rises risB
  rw [loop_first (by omega) (risP I n) (fun _ _ => false) (fun i x hx => by
    have hi : i < I.length := (List.getElem?_eq_some_iff.1 hx).1
    rw [at_nat, hx, Option.bind_some, l01In_eq, Option.bind_some]
    unfold risP
    cases inB x 0 (w64 (n - 1))
    · rfl
    · rw [Bool.not_true, cond_false, Bool.false_or]
      by_cases h0 : 0 < i
      · rw [decide_eq_true (show (i : Int) > 0 by omega), decide_eq_true h0, cond_true, Bool.true_and, Option.bind_some, w64_id (by omega) (by omega), show (i : Int) - 1 = ((i - 1 : Nat) : Int) by omega, at_nat, List.getElem?_eq_getElem (by omega)]
        rfl
      · rw [decide_eq_false (show ¬ (i : Int) > 0 by omega), decide_eq_false h0]
        rfl), firstI_const]
  cases (firstI (risP I n) (fun _ _ => ()) I 0).isSome <;> rfl
theorem risB_in {I : List Int} {n : Nat} (hn : n ≤ 1048576) (h : risB I n = true) : ∀ x ∈ I, 0 ≤ x ∧ x < n := by
  intro x hx
  obtain ⟨i, hi, rfl⟩ := List.mem_iff_getElem.1 hx
  have h1 : risP I n i I[i] = false := by
    rw [Bool.eq_false_iff]
    intro hc
    unfold risB at h
    rw [(firstI_some (risP I n) I 0).2 ⟨i, I[i], List.getElem?_eq_getElem hi, by rw [Nat.zero_add]; exact hc⟩] at h
    cases h
  unfold risP at h1
  rw [Bool.or_eq_false_iff, Bool.not_eq_false', inB_iff, w64_id (by omega) (by omega)] at h1
  omega
/-- The claims with some indices. -/
def choL (L : List Claim) (I : List Int) : List Claim := (List.range I.length).flatMap fun i => ((I[i]?).bind fun x => L[x.toNat]?).toList
theorem choL_mem {L : List Claim} {I : List Int} {x : Claim} (h : x ∈ choL L I) : x ∈ L := by
  unfold choL at h
  obtain ⟨i, _, h⟩ := List.mem_flatMap.1 h
  rw [Option.mem_toList] at h
  obtain ⟨k, _, h⟩ := Option.bind_eq_some_iff.1 h
  exact List.mem_of_getElem? h
theorem choL_len (L : List Claim) (I : List Int) : (choL L I).length ≤ I.length := by
  unfold choL
  have key : ∀ R : List Nat, (R.flatMap fun i => ((I[i]?).bind fun x => L[x.toNat]?).toList).length ≤ R.length := by
    intro R
    induction R with
    | nil => simp
    | cons i r ih =>
      rw [List.flatMap_cons, List.length_append, List.length_cons]
      have : (((I[i]?).bind fun x => L[x.toNat]?).toList).length ≤ 1 := by
        cases ((I[i]?).bind fun x => L[x.toNat]?) <;> simp
      omega
  have := key (List.range I.length)
  rwa [List.length_range] at this
theorem impl_chosen_eq {L : List Claim} {I : List Int} (hI : I.length ≤ 100) (h : ∀ x ∈ I, 0 ≤ x ∧ x < L.length) : impl_chosen L I = some (choL L I) := by
  unfold impl_chosen
  rw [forS_build 1000 (by omega) (by omega) (fun i => ((I[i]?).bind fun x => L[x.toNat]?).toList) (fun i => by cases ((I[i]?).bind fun x => L[x.toNat]?) <;> simp) [] (by simp; omega) (fun i s hi hs => by
    have h1 := h _ (List.getElem_mem hi)
    rw [at_nat, List.getElem?_eq_getElem hi, Option.bind_some]
    obtain ⟨c, h2, h3⟩ := at_ok (L := L) h1.1 h1.2
    rw [h2, Option.bind_some, Option.bind_some, h3, app_ok (by simp; omega)]
    rfl)]
  rfl
theorem spec_chosen_eq {L : List Claim} {I : List Int} (hI : I.length ≤ 100) (h : ∀ x ∈ I, 0 ≤ x ∧ x < L.length) : spec_l21Chosen L I = some (choL L I) := impl_chosen_eq hI h
noncomputable def choV (L : List Claim) (I : List Int) : Bool × Int := bif claimsB L then bif risB I L.length then (consB (choL L I), 0) else (false, 2) else (false, 1)
theorem cho_cons {L : List Claim} {I : List Int} (hI : I.length ≤ 100) (hc : claimsB L = true) : (choL L I).length ≤ 100 ∧ ∀ x ∈ choL L I, claimB x = true := by
  have := choL_len L I
  exact ⟨by omega, fun x hx => (claimsB_iff.1 hc).2 x (choL_mem hx)⟩
theorem impl_cho_eq {L : List Claim} (hL : L.length ≤ 1048576) (h : ∀ x ∈ L, smClaim x) {I : List Int} (hI : I.length ≤ 100) : impl_AreChosenConsistent L I = some (choV L I) := by
  unfold impl_AreChosenConsistent impl_chosenCode impl_length_Claim choV
  rw [impl_areClaims hL h, Option.bind_some, Option.bind_some, impl_rises (by omega)]
  cases hc : claimsB L
  · rfl
  cases hr : risB I L.length
  · rfl
  obtain ⟨h1, h2⟩ := cho_cons hI hc
  rw [impl_chosen_eq hI (risB_in hL hr)]
  simp only [Bool.not_true, cond_false, Option.bind_some, Sum.elim_inl, impl_consistent_eq h1 h2, cond_true]
  rfl
theorem spec_cho_eq {L : List Claim} (hL : L.length ≤ 1048576) (h : ∀ x ∈ L, smClaim x) {I : List Int} (hI : I.length ≤ 100) : spec_AreChosenConsistent L I = some (choV L I) := by
  unfold spec_AreChosenConsistent choV
  rw [spec_areClaims hL h, Option.bind_some, spec_rises (by omega)]
  cases hc : claimsB L
  · rfl
  cases hr : risB I L.length
  · rfl
  obtain ⟨h1, h2⟩ := cho_cons hI hc
  rw [spec_chosen_eq hI (risB_in hL hr)]
  simp only [Bool.not_true, cond_false, Option.bind_some, spec_consistent_eq h1 h2, cond_true]
  rfl
noncomputable def fitV (L : List Claim) (c : Claim) : Bool × Int := bif claimsB L && claimB c then bif consB L then (consB (L ++ [c]), 0) else (false, 5) else (false, 1)
theorem spec_consistent_eq' {L : List Claim} (hL : L.length ≤ 100) (hc : ∀ x ∈ L, claimB x = true) : spec_l21Consistent L = some (consB L) := spec_consistent_eq hL hc
theorem fit_cons {L : List Claim} {c : Claim} (hc : claimsB L = true) (h : claimB c = true) : (L ++ [c]).length ≤ 100 ∧ ∀ x ∈ L ++ [c], claimB x = true := by
  obtain ⟨h1, h2⟩ := claimsB_iff.1 hc
  refine ⟨by simp; omega, fun x hx => ?_⟩
  rcases List.mem_append.1 hx with hx | hx
  · exact h2 x hx
  · rw [List.mem_singleton.1 hx]; exact h
theorem impl_fits_eq {L : List Claim} (hL : L.length ≤ 1048576) (h : ∀ x ∈ L, smClaim x) {c : Claim} (hc : smClaim c) : impl_FitsTo L c = some (fitV L c) := by
  unfold impl_FitsTo fitV slices_Clone_Claim
  rw [impl_areClaims hL h, impl_isClaim c hc, Option.bind_some, Option.bind_some, if_pos (by omega)]
  cases h1 : claimsB L
  · rfl
  cases h2 : claimB c
  · rfl
  obtain ⟨h3, h4⟩ := claimsB_iff.1 h1
  obtain ⟨h5, h6⟩ := fit_cons h1 h2
  simp only [Bool.not_true, cond_false, Option.bind_some, impl_consistent_eq (show L.length ≤ 100 by omega) h4, Bool.and_true, cond_true]
  cases consB L
  · rfl
  · simp only [Bool.not_true, cond_false, Option.bind_some, Sum.elim_inl, app_ok (show L.length + [c].length ≤ 68719476736 by simp; omega), impl_consistent_eq h5 h6, cond_true]
theorem spec_fits_eq {L : List Claim} (hL : L.length ≤ 1048576) (h : ∀ x ∈ L, smClaim x) {c : Claim} (hc : smClaim c) : spec_FitsTo L c = some (fitV L c) := by
  unfold spec_FitsTo fitV
  rw [spec_areClaims hL h, spec_isClaim c hc, Option.bind_some, Option.bind_some]
  cases h1 : claimsB L
  · rfl
  cases h2 : claimB c
  · rfl
  obtain ⟨h3, h4⟩ := claimsB_iff.1 h1
  obtain ⟨h5, h6⟩ := fit_cons h1 h2
  simp only [Bool.not_true, cond_false, Option.bind_some, spec_consistent_eq' (show L.length ≤ 100 by omega) h4, Bool.and_true, cond_true]
  cases consB L
  · rfl
  · simp only [Bool.not_true, cond_false, Option.bind_some, app_ok (show ([] : List Claim).length + L.length ≤ 68719476736 by simp; omega), List.nil_append, app_ok (show L.length + [c].length ≤ 68719476736 by simp; omega), spec_consistent_eq' h5 h6, cond_true]
theorem Gv.forsK {S A : Type} {n : Nat} (hn : n ≤ 1000000000) {B : Int → S → Option S} {D : S → A} (I : Nat → S → Prop) (hB : ∀ (i : Nat) s, i < n → I i s → Gv (B (i : Int) s) (I (i + 1))) {k : Nat} (hk : k ≤ n) {s : S} (hs : I k s) {Q : A → Prop} (hQ : ∀ s, I n s → Q (D s)) : Gv (forS (n : Int) B D (k : Int) s) Q := by
  have key : ∀ (m i : Nat) s, i + m = n → I i s → Gv (forS (n : Int) B D (i : Int) s) Q := by
    intro m
    induction m with
    | zero =>
      intro i s him hi
      obtain rfl : i = n := by omega
      unfold forS
      rw [loop_eq]
      simp only [decide_eq_false (show ¬ (i : Int) < i by omega), cond_false]
      exact ⟨_, rfl, hQ s hi⟩
    | succ m ih =>
      intro i s him hi
      obtain ⟨s', e, hs'⟩ := hB i s (by omega) hi
      have := ih (i + 1) s' (by omega) hs'
      unfold forS at this ⊢
      rw [loop_eq]
      simp only [decide_eq_true (show (i : Int) < n by omega), cond_true, e, Option.bind_some]
      rw [w64_id (by omega) (by omega)]
      simpa using this
  exact key (n - k) k s (by omega) hs
/-- The pairs come to an answer; there is none among claims that do not contradict each other. -/
theorem pairs_G {L : List Claim} (hL : L.length ≤ 12) (h : ∀ x ∈ L, smClaim x) (hc : claimsB L = true) : Gv (impl_PairsOf L) (fun r => r.2 = 0 ∧ (pairB L = false → r.1 = [])) := by
  unfold impl_PairsOf
  rw [impl_areClaims (by omega) h, Option.bind_some, hc]
  refine Gv.bind (P := fun r : List (List Int) => pairB L = false → r = []) ?_ fun j hj => .some ⟨rfl, hj⟩
  refine Gv.fors (n := L.length) (by omega) (fun i s => s.length ≤ 12 * i ∧ (pairB L = false → s = [])) (fun i s hi hs => ?_) ⟨Nat.le_refl _, fun _ => rfl⟩ fun s hs => hs.2
  rw [at_nat, List.getElem?_eq_getElem hi, Option.bind_some, w64_id (by omega) (by omega), show (i : Int) + 1 = ((i + 1 : Nat) : Int) by omega]
  refine Gv.forsK (n := L.length) (by omega) (fun k s => s.length ≤ 12 * i + k ∧ (pairB L = false → s = [])) (fun k s hk hs => ?_) (by omega) ⟨by omega, hs.2⟩ fun s hs => ⟨by omega, hs.2⟩
  rw [at_nat, List.getElem?_eq_getElem hk, Option.bind_some, impl_con, Option.bind_some]
  cases hcon : conB L[i] L[k]
  · exact .some ⟨by omega, hs.2⟩
  · rw [cond_true]
    refine Gv.bind (Gv.app (by simp; omega)) fun r hr => .some ⟨by rw [hr]; simp; omega, fun hp => ?_⟩
    rw [pairB_no hp (List.getElem_mem hi) (List.getElem_mem hk)] at hcon
    cases hcon
end Go.Proofs.YtfllgbokdhhedaaGreatDoor.Sh
