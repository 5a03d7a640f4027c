/- Plain laws of claims: consistency, NameBy and ParentBy of both; bounds on lengths alone. -/
import Derived.Test.YtppehghiiahabaaGreatDoorMN2
namespace Go.Proofs.YtppehghiiahabaaGreatDoor.Sh
open Go.RowKit Go.Lib
theorem firstI_const {α A : Type} (p : Nat → α → Bool) (a : A) : ∀ (L : List α) (k : Nat), firstI p (fun _ _ => a) L k = bif (firstI p (fun _ _ => ()) L k).isSome then some a else none
  | [], _ => rfl
  | x :: l, k => by
    unfold firstI
    cases p k x
    · exact firstI_const p a l (k + 1)
    · rfl
/-- Do two claims of a list contradict each other? -/
def pairB (L : List Claim) : Bool := (firstI (fun i x => (L.take i).any (conB x)) (fun _ _ => ()) L 0).isSome
theorem impl_hasPair_eq {L : List Claim} (hL : L.length ≤ 1048576) : impl_hasPair L = some (pairB L) := by
  unfold impl_hasPair slices_ContainsFunc_Claim_impl_Claim_contradicts slices_IndexFunc_Claim_impl_Claim_contradicts pairB
  rw [loop_first (by omega) (fun i x => (L.take i).any (conB x)) (fun _ _ => true) (fun i x hx => by
    have hi : i < L.length := (List.getElem?_eq_some_iff.1 hx).1
    rw [at_nat, hx, Option.bind_some, part_ok (by omega) (by omega) (by omega), Option.bind_some]
    simp only [Int.toNat_zero, List.drop_zero, Int.toNat_natCast, Nat.sub_zero]
    rw [loop_idx (L := L.take i) (by rw [List.length_take]; omega) (conB x) (fun k z hz => by rw [at_nat, hz, Option.bind_some, impl_con, Option.bind_some])]
    simp only [Option.bind_some, idxP_any]), firstI_const]
  cases (firstI (fun i x => (L.take i).any (conB x)) (fun _ _ => ()) L 0).isSome <;> rfl
/-- A loop with a test of its own at its head. -/
theorem loop_head {α A : Type} {L : List α} (hL : L.length ≤ 1048576) {body : Int → Option (Int ⊕ (Unit ⊕ A))} (p : α → Bool) (a : A) (hend : body (L.length : Int) = some (.inr (.inl ()))) (h : ∀ (i : Nat) x, L[i]? = some x → body (i : Int) = bif p x then some (.inr (.inr a)) else some (.inl (w64 ((i : Int) + 1)))) : loop body 0 = some (bif L.any p then .inr a else .inl ()) := by
  have key : ∀ (M : List α) (k : Nat), L.drop k = M → k ≤ L.length → loop body (k : Int) = some (bif M.any p then .inr a else .inl ()) := by
    intro M
    induction M with
    | nil =>
      intro k hk hkl
      have : L.length ≤ k := List.drop_eq_nil_iff.1 hk
      obtain rfl : k = L.length := by omega
      rw [loop_eq, hend]
      rfl
    | cons x M ih =>
      intro k hk hkl
      have hx : L[k]? = some x := by
        have := List.getElem?_drop (xs := L) (i := k) (j := 0)
        rw [hk] at this
        simpa using this.symm
      have hlt : k < L.length := (List.getElem?_eq_some_iff.1 hx).1
      rw [loop_eq, h k x hx]
      cases hp : p x
      · rw [cond_false, List.any_cons, hp, Bool.false_or, w64_id (by omega) (by omega)]
        have h2 := ih (k + 1) (by rw [← List.drop_drop, hk]; rfl) (by omega)
        exact h2
      · rw [cond_true, List.any_cons, hp]
        rfl
  exact key L 0 rfl (by omega)
noncomputable def cirB (L : List Claim) (p : ByteArray) (y : Int) : Bool := ((impl_circleIn L p y).map Prod.snd).getD false
theorem cir_impl {L : List Claim} (hL : L.length ≤ 100) (hc : ∀ x ∈ L, claimB x = true) (p : ByteArray) (y : Int) : ∃ l, impl_circleIn L p y = some (l, cirB L p y) := by
  obtain ⟨a, b, h1, h2, h3, h4⟩ := circle_eq hL hc p y
  refine ⟨a.1, ?_⟩
  unfold cirB
  rw [h1]
  rfl
theorem cir_spec {L : List Claim} (hL : L.length ≤ 100) (hc : ∀ x ∈ L, claimB x = true) (p : ByteArray) (y : Int) : ∃ l, spec_l21Circle L p y = some (l, cirB L p y) := by
  obtain ⟨a, b, h1, h2, h3, h4⟩ := circle_eq hL hc p y
  refine ⟨b.1, ?_⟩
  unfold cirB
  rw [h1, h2]
  simp [h3.1]
theorem cir_step {L : List Claim} (hL : L.length ≤ 100) {p : ByteArray} {y : Int} (h : cirB L p y = true) : ∃ d ∈ L, d.Kind = 1 ∧ d.Place = p ∧ inB y d.Years.From d.Years.To = true := by
  cases ht : L.find? (telB 1 p y) with
  | none =>
    exfalso
    unfold cirB impl_circleIn at h
    have hat : at' [p] (w64 ((([p] : List ByteArray).length : Int) - 1)) = some p := rfl
    have e0 : telP (tel L 1 p y) = (ByteArray.mk #[], false) := by unfold tel; rw [ht]; rfl
    rw [loop_eq] at h
    simp only [hat, Option.bind_some, impl_parent_eq (show L.length ≤ 1048576 by omega), e0, Bool.false_and, cond_false, Bool.not_false, cond_true, Sum.elim_inr, Option.map_some, Option.getD_some] at h
    cases h
  | some d =>
    have h1 := List.find?_some ht
    unfold telB at h1
    rw [Bool.and_eq_true, Bool.and_eq_true, beq_iff_eq] at h1
    exact ⟨d, List.mem_of_find?_eq_some ht, h1.1, beqL.1 h1.2.1, h1.2.2⟩
/-- Do claims make a circle? -/
noncomputable def circB (L : List Claim) : Bool := L.any fun c => (c.Kind == 1) && L.any fun d => cirB L d.Place c.Years.From
theorem circ_of {L : List Claim} (hL : L.length ≤ 100) : (L.any fun c => L.any fun d => ((c.Kind == 1) && ((d.Kind == 1) && inB c.Years.From d.Years.From d.Years.To)) && cirB L d.Place c.Years.From) = circB L := by
  unfold circB
  rw [Bool.eq_iff_iff, List.any_eq_true, List.any_eq_true]
  constructor
  · rintro ⟨c, hc, h⟩
    obtain ⟨d, hd, h⟩ := List.any_eq_true.1 h
    rw [Bool.and_eq_true, Bool.and_eq_true] at h
    exact ⟨c, hc, Bool.and_eq_true_iff.2 ⟨h.1.1, List.any_eq_true.2 ⟨d, hd, h.2⟩⟩⟩
  · rintro ⟨c, hc, h⟩
    rw [Bool.and_eq_true] at h
    obtain ⟨d, hd, h2⟩ := List.any_eq_true.1 h.2
    obtain ⟨e, he, h3, h4, h5⟩ := cir_step hL h2
    refine ⟨c, hc, List.any_eq_true.2 ⟨e, he, ?_⟩⟩
    rw [h.1, h5, h4, h2, h3]
    rfl
theorem inner_any {α A : Type} {L : List α} (hL : L.length ≤ 1048576) {B : Int → Unit → Option (Unit ⊕ (Unit ⊕ A))} (p : α → Bool) (a : A) (h : ∀ (i : Nat) x, L[i]? = some x → B (i : Int) () = bif p x then some (.inr (.inr a)) else some (.inl ())) :
    forN (L.length : Int) B (fun _ => .inl ()) 0 () = bif L.any p then some (.inr a) else some (.inl ()) := by
  rw [forN_list L (by omega) B (fun _ x _ => bif p x then some (.inr (.inr a)) else some (.inl ())) _ () (fun j x _ hx => h j x hx), overI_any]
  cases L.any p <;> rfl
theorem impl_hasCircle_eq {L : List Claim} (hL : L.length ≤ 100) (hc : ∀ x ∈ L, claimB x = true) : impl_hasCircle L = some (circB L) := by
  unfold impl_hasCircle impl_Span_has
  rw [loop_any (by omega) (fun c => L.any fun d => ((c.Kind == 1) && ((d.Kind == 1) && inB c.Years.From d.Years.From d.Years.To)) && cirB L d.Place c.Years.From) true (fun i c hx => by
    rw [at_nat, hx, Option.bind_some, inner_any (by omega) (fun d => ((c.Kind == 1) && ((d.Kind == 1) && inB c.Years.From d.Years.From d.Years.To)) && cirB L d.Place c.Years.From) (.inr true) (fun k d hd => by
      obtain ⟨l, hl⟩ := cir_impl hL hc d.Place c.Years.From
      rw [at_nat, hd, Option.bind_some, within_eq, hl]
      unfold bne
      cases c.Kind == 1 <;> cases d.Kind == 1 <;> cases inB c.Years.From d.Years.From d.Years.To <;> rfl)]), circ_of hL]
  cases circB L <;> rfl
theorem spec_consistent_eq {L : List Claim} (hL : L.length ≤ 100) (hc : ∀ x ∈ L, claimB x = true) : spec_l21Consistent L = some (!pairB L && !circB L) := by
  unfold spec_l21Consistent
  rw [loop_first (by omega) (fun i x => (L.take i).any (conB x)) (fun _ _ => false) (fun i x hx => by
    have hi : i < L.length := (List.getElem?_eq_some_iff.1 hx).1
    have hl : (L.take i).length = i := by rw [List.length_take]; omega
    have := inner_any (A := Unit ⊕ Bool) (L := L.take i) (by omega) (B := fun (i7 : Int) (_ : Unit) => ((at' L (i : Int)).bind fun x11 => ((at' L i7).bind fun x12 => ((spec_l20Contradict x11 x12).bind fun x13 => (bif x13 then some (.inr (.inr (.inr false))) else some (.inl ())))))) (conB x) (.inr false) (fun k z hz => by
      have hz' : L[k]? = some z := by
        have hk : k < i := by have := (List.getElem?_eq_some_iff.1 hz).1; omega
        rw [← hz, List.getElem?_take_of_lt hk]
      simp only [at_nat, hx, hz', Option.bind_some, spec_con])
    rw [hl] at this
    exact this), firstI_const]
  unfold pairB
  rw [loop_any (by omega) (fun c => (c.Kind == 1) && L.any fun d => cirB L d.Place c.Years.From) false (fun i c hx => by
    cases hk : (c.Kind == 1)
    · rw [loop_eq]
      simp only [at_nat, hx, Option.bind_some, hk, Bool.false_and, cond_false]
      cases decide ((0 : Int) < (L.length : Int)) <;> rfl
    · rw [loop_head (L := L) (by omega) (fun d : Claim => cirB L d.Place c.Years.From) (.inr false) (by
        rw [decide_eq_false (by omega)]
        rfl) (fun k d hd => by
        obtain ⟨l, hl⟩ := cir_spec hL hc d.Place c.Years.From
        have hkl : k < L.length := (List.getElem?_eq_some_iff.1 hd).1
        rw [decide_eq_true (by omega), cond_true]
        simp only [at_nat, hx, hd, Option.bind_some, hk, cond_true, hl]
        cases cirB L d.Place c.Years.From <;> rfl)]
      cases (L.any fun d => cirB L d.Place c.Years.From) <;> rfl)]
  unfold circB
  cases (firstI (fun i x => (L.take i).any (conB x)) (fun _ _ => ()) L 0).isSome
  · cases (L.any fun c => (c.Kind == 1) && L.any fun d => cirB L d.Place c.Years.From) <;> rfl
  · rfl
noncomputable def consB (L : List Claim) : Bool := !pairB L && !circB L
theorem impl_consistent_eq {L : List Claim} (hL : L.length ≤ 100) (hc : ∀ x ∈ L, claimB x = true) : impl_areConsistent L = some (consB L) := by
  unfold impl_areConsistent consB
  rw [impl_hasPair_eq (by omega), impl_hasCircle_eq hL hc]
  cases pairB L <;> rfl
theorem claimsB_iff {L : List Claim} : claimsB L = true ↔ L.length ≤ 12 ∧ ∀ x ∈ L, claimB x = true := by
  unfold claimsB
  rw [Bool.and_eq_true, decide_eq_true_eq, List.all_eq_true]
/-- The code of claims, a place and a year. -/
def abC (L : List Claim) (p : ByteArray) (y : Int) : Int := bif claimsB L && wordB p then bif inB y (-3000) 3000 then 0 else 2 else 1
theorem impl_about_eq {L : List Claim} (hL : L.length ≤ 1048576) (h : ∀ x ∈ L, smClaim x) {p : ByteArray} (hp : p.size ≤ 1048576) (y : Int) : impl_aboutCode L p y = some (abC L p y) := by
  unfold impl_aboutCode impl_isYear abC
  rw [impl_areClaims hL h, impl_isWord p (by unfold maxLen; omega), within_eq]
  cases claimsB L <;> cases wordB p <;> cases inB y (-3000) 3000 <;> rfl
theorem spec_code_eq {L : List Claim} (hL : L.length ≤ 1048576) (h : ∀ x ∈ L, smClaim x) {p : ByteArray} (hp : p.size ≤ 1048576) (y : Int) : spec_l21Code L p y = some (abC L p y) := by
  unfold spec_l21Code spec_l02Year abC
  rw [spec_areClaims hL h, spec_isWord p (by unfold maxLen; omega), l01In_eq]
  cases claimsB L <;> cases wordB p <;> cases inB y (-3000) 3000 <;> rfl
noncomputable def soC (L : List Claim) (p : ByteArray) (y : Int) : Int := bif abC L p y == 0 then bif consB L then 0 else 5 else abC L p y
theorem abC_zero {L : List Claim} {p : ByteArray} {y : Int} (h : (abC L p y == 0) = true) : claimsB L = true := by
  unfold abC at h
  cases hc : claimsB L
  · rw [hc] at h
    simp at h
  · rfl
theorem spec_sound_eq {L : List Claim} (hL : L.length ≤ 1048576) (h : ∀ x ∈ L, smClaim x) {p : ByteArray} (hp : p.size ≤ 1048576) (y : Int) : spec_l21Sound L p y = some (soC L p y) := by
  unfold spec_l21Sound soC
  rw [spec_code_eq hL h hp, Option.bind_some]
  cases h0 : (abC L p y == 0)
  · rfl
  · obtain ⟨h1, h2⟩ := claimsB_iff.1 (abC_zero h0)
    rw [spec_consistent_eq (by omega) h2, ← consB]
    cases consB L
    · rfl
    · simp only [cond_true, Option.bind_some, Bool.not_true, cond_false, beq_iff_eq.1 h0]
theorem soC_zero {L : List Claim} {p : ByteArray} {y : Int} (h : (soC L p y != 0) = false) : claimsB L = true := by
  unfold soC at h
  cases h0 : (abC L p y == 0)
  · rw [h0, cond_false, bne, h0] at h
    cases h
  · exact abC_zero h0
/-- What is told, or a code. -/
noncomputable def tolV (L : List Claim) (k : Int) (p : ByteArray) (y : Int) : ByteArray × Int := bif soC L p y != 0 then (ByteArray.mk #[], soC L p y) else match tel L k p y with | some v => (v, 0) | none => (ByteArray.mk #[], 4)
theorem spec_nameBy_eq {L : List Claim} (hL : L.length ≤ 1048576) (h : ∀ x ∈ L, smClaim x) {p : ByteArray} (hp : p.size ≤ 1048576) (y : Int) : spec_NameBy L p y = some (tolV L 0 p y) := by
  unfold spec_NameBy tolV
  rw [spec_sound_eq hL h hp, Option.bind_some, spec_name_eq hL, Option.bind_some]
  cases h0 : (soC L p y != 0)
  · obtain ⟨h1, h2⟩ := claimsB_iff.1 (soC_zero h0)
    cases ht : tel L 0 p y with
    | none =>
      have e2 : ((telP none).1.toList == (ByteArray.mk #[]).toList) = true := beqL.2 rfl
      rw [e2]
      rfl
    | some v =>
      have e2 : ((telP (some v)).1.toList == (ByteArray.mk #[]).toList) = false := beqL_nil (tel_some h2 (.inl rfl) ht).1
      rw [e2]
      rfl
  · rfl
theorem spec_parentBy_eq {L : List Claim} (hL : L.length ≤ 1048576) (h : ∀ x ∈ L, smClaim x) {p : ByteArray} (hp : p.size ≤ 1048576) (y : Int) : spec_ParentBy L p y = some (tolV L 1 p y) := by
  unfold spec_ParentBy tolV
  rw [spec_sound_eq hL h hp, Option.bind_some, spec_parent_eq hL, Option.bind_some]
  cases h0 : (soC L p y != 0)
  · obtain ⟨h1, h2⟩ := claimsB_iff.1 (soC_zero h0)
    cases ht : tel L 1 p y with
    | none =>
      have e2 : ((telP none).1.toList == (ByteArray.mk #[]).toList) = true := beqL.2 rfl
      rw [e2]
      rfl
    | some v =>
      have e2 : ((telP (some v)).1.toList == (ByteArray.mk #[]).toList) = false := beqL_nil (tel_some h2 (.inr rfl) ht).1
      rw [e2]
      rfl
  · rfl
end Go.Proofs.YtppehghiiahabaaGreatDoor.Sh
