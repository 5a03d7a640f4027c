/- Sizes, copies, comparisons and marks of the laws' types; bounds on lengths alone. -/
import Derived.Test.YtpohkmbkohjahaaGreatDoorQA
import Derived.Test.YtpohkmbkohjahaaGreatDoorRD
namespace Go.Proofs.YtpohkmbkohjahaaGreatDoor.Sh
open Go.RowKit Go.Lib
theorem sumN_ge {α : Type} {c : α → Nat} (L : List α) (h : ∀ x, 1 ≤ c x) : L.length ≤ sumN c L := by
  induction L with
  | nil => simp [sumN]
  | cons x l ih => have := h x; unfold sumN; simp only [List.length_cons]; omega
theorem markText_ok {k : Int} (h0 : 1 ≤ k) (h1 : k ≤ 1000000000000001) : ∃ t, laws_markText k = some t := by
  unfold laws_markText
  rw [decide_eq_false (show ¬ k ≤ 0 by omega), cond_false]
  obtain ⟨r, e, hr⟩ := loop_inv (body := fun (s3 : Int × ByteArray) => (bif (decide (s3.1 > 0)) then ((cat' (strOfNums ([(IntKind.wrap .u8 (w64 (48 + (Int.tmod s3.1 10))))] : List Int)) s3.2).bind fun x5 => some (.inl ((w64 (Int.tdiv s3.1 10)), x5))) else some (.inr s3.2)))
    (fun s => 0 ≤ s.1 ∧ s.1 ≤ 1000000000000001 ∧ (s.2.size : Int) + s.1 ≤ 1000000000000001) (fun s => s.1.toNat) (fun r : ByteArray => (r.size : Int) ≤ 1000000000000001) (fun s hs => by
      obtain ⟨h2, h3, h4⟩ := hs
      by_cases hp : s.1 > 0
      · left
        rw [decide_eq_true hp, cond_true, Int.tdiv_eq_ediv_of_nonneg h2, w64_id (n := s.1 / 10) (by omega) (by omega)]
        unfold cat'
        rw [if_pos (by rw [strOfNums_size]; simp; omega)]
        refine ⟨_, rfl, ?_⟩
        dsimp only
        rw [ByteArray.size_append, strOfNums_size]
        simp
        omega
      · right
        rw [decide_eq_false hp, cond_false]
        exact ⟨_, rfl, by omega⟩) (s := (k, ByteArray.mk #[])) ⟨by dsimp only; omega, h1, by show ((0 : Nat) : Int) + k ≤ _; omega⟩
  rw [e, Option.bind_some]
  unfold cat'
  rw [if_pos (by show 1 + r.size ≤ _; omega)]
  exact ⟨_, rfl⟩
noncomputable def mt (k : Int) : ByteArray := (laws_markText k).getD (ByteArray.mk #[])
theorem markText_eq {k : Int} (h0 : 1 ≤ k) (h1 : k ≤ 1000000000000001) : laws_markText k = some (mt k) := by
  obtain ⟨t, h⟩ := markText_ok h0 h1
  unfold mt
  rw [h]
  rfl
noncomputable abbrev fString : Int → ByteArray → ByteArray := fun k _ => mt k
structure smName (x : Name) : Prop where
  s0 : x.Text.size ≤ 1048576
  s1 : x.Language.size ≤ 1048576
theorem szName_ok (x : Name) (hx : okName x) (s : Int) (h0 : 0 ≤ s) (h1 : s ≤ 1048576) : ∃ v, laws_szName x s = some v ∧ (v < 0 ∨ (0 ≤ v ∧ v ≤ s ∧ smName x)) := by
  unfold laws_szName
  have z0 := hx.Text
  unfold maxLen at z0
  rw [w64_id (n := s - (x.Text.size : Int)) (by omega) (by omega)]
  by_cases c0 : s - (x.Text.size : Int) < 0
  · rw [decide_eq_true c0]
    exact ⟨_, rfl, .inl (by omega)⟩
  rw [decide_eq_false c0, cond_false]
  have z1 := hx.Language
  unfold maxLen at z1
  rw [w64_id (n := s - (x.Text.size : Int) - (x.Language.size : Int)) (by omega) (by omega)]
  by_cases c1 : s - (x.Text.size : Int) - (x.Language.size : Int) < 0
  · rw [decide_eq_true c1]
    exact ⟨_, rfl, .inl (by omega)⟩
  rw [decide_eq_false c1, cond_false]
  exact ⟨_, rfl, .inr ⟨by omega, by omega, ⟨by omega, by omega⟩⟩⟩
theorem toSpan_eq (x : Span) : laws_toSpan x = some x := by
  unfold laws_toSpan
  rfl
theorem eqSpan_self (x : Span) : laws_eqSpan x x = some true := by
  unfold laws_eqSpan
  simp
theorem toName_eq (x : Name) : laws_toName x = some x := by
  unfold laws_toName
  simp only [toSpan_eq x.Years, Option.bind_some]
theorem eqName_self (x : Name) : laws_eqName x x = some true := by
  unfold laws_eqName
  simp [eqSpan_self x.Years]
noncomputable def fName (k : Int) (_ : Name) : Name := Name.mk (mt k) (mt (k + 1)) (k + 2) (Span.mk (k + 3) (k + 4))
abbrev cName : Name → Nat := fun _ => 5
theorem markNameS_eq (L : List Name) (k : Int) (h1 : 1 ≤ k) (h2 : k + sumN cName L ≤ 1000000000000000) (h3 : L.length ≤ 1000000000000000) : laws_markNameS L k = some (k + sumN cName L, markV fName cName k L) := by
  unfold laws_markNameS
  refine mark_list fName cName L k h1 h2 h3 fun k i L x h1 h2 hl hx => ?_
  have h2' : k + (5 : Nat) ≤ 1000000000000000 := h2
  have hi := (List.getElem?_eq_some_iff.1 hx).1
  have e1 : w64 (k + 1) = k + 1 := w64_id (by omega) (by omega)
  have e2 : w64 (k + 1 + 1) = k + 2 := by rw [w64_id (by omega) (by omega)]; omega
  have e3 : w64 (k + 2 + 1) = k + 3 := by rw [w64_id (by omega) (by omega)]; omega
  have e4 : w64 (k + 3 + 1) = k + 4 := by rw [w64_id (by omega) (by omega)]; omega
  have e5 : w64 (k + 4 + 1) = k + 5 := by rw [w64_id (by omega) (by omega)]; omega
  have m0 : laws_markText k = some (mt k) := markText_eq (by omega) (by omega)
  have m1 : laws_markText (k + 1) = some (mt (k + 1)) := markText_eq (by omega) (by omega)
  simp only [m0, m1, e1, e2, e3, e4, e5, at_nat, hx, Option.bind_some, Int.toNat_natCast, List.set_set, List.getElem?_set_self hi]
  rfl
theorem sumName_small (L : List Name) (hl : L.length ≤ 1048576) (_ : ∀ x ∈ L, smName x) : sumN cName L ≤ 10000000000000 := by
  have h1 := sumN_le (c := cName) (C := 5) (L := L) (fun _ _ => Nat.le_refl _)
  omega
theorem heldNameS_eq (L : List Name) (k : Int) (h1 : 1 ≤ k) (h2 : k + sumN cName L ≤ 1000000000000000) (h3 : L.length ≤ 1000000000000000) : laws_heldNameS (markV fName cName k L) k = some (k + sumN cName L) := by
  unfold laws_heldNameS
  refine held_list fName cName h3 k h1 h2 fun i k x h1 h2 hx => ?_
  have h2' : k + (5 : Nat) ≤ 1000000000000000 := h2
  have e1 : w64 (k + 1) = k + 1 := w64_id (by omega) (by omega)
  have e2 : w64 (k + 1 + 1) = k + 2 := by rw [w64_id (by omega) (by omega)]; omega
  have e3 : w64 (k + 2 + 1) = k + 3 := by rw [w64_id (by omega) (by omega)]; omega
  have e4 : w64 (k + 3 + 1) = k + 4 := by rw [w64_id (by omega) (by omega)]; omega
  have e5 : w64 (k + 4 + 1) = k + 5 := by rw [w64_id (by omega) (by omega)]; omega
  have m0 : laws_markText k = some (mt k) := markText_eq (by omega) (by omega)
  have m1 : laws_markText (k + 1) = some (mt (k + 1)) := markText_eq (by omega) (by omega)
  simp only [m0, m1, e1, e2, e3, e4, e5, at_nat, hx, Option.bind_some]
  simp only [fName, bne_self_eq_false, cond_false, Option.bind_some, beq_self_eq_true, Bool.not_true, e1, e2, e3, e4, e5, m0, m1]
  try rfl
theorem szNameS_ok (L : List Name) (hL : L.length ≤ maxLen ∧ ∀ x ∈ L, okName x) (l : Int) (h0 : 0 ≤ l) (h1 : l ≤ 1048576) : ∃ v, laws_szNameS L l = some v ∧ (v < 0 ∨ (0 ≤ v ∧ v ≤ l ∧ (L.length : Int) ≤ l ∧ ∀ x ∈ L, smName x)) := by
  unfold laws_szNameS
  exact sz_list hL.1 laws_szName smName (fun x hx s h0 h1 => szName_ok x (hL.2 x hx) s h0 h1) l h0 h1
theorem toNameS_eq (L : List Name) (hL : L.length ≤ 1048576) : laws_toNameS L = some L := by
  unfold laws_toNameS
  exact copy_list hL laws_toName (fun x _ => toName_eq x) _
theorem eqNameS_self (L : List Name) (hL : L.length ≤ 1000000000) : laws_eqNameS L L = some true := by
  unfold laws_eqNameS
  exact eq_list hL laws_eqName (fun x _ => eqName_self x)
structure smPlace (x : Place) : Prop where
  s0 : x.Code.size ≤ 1048576
  s4 : x.Names.length ≤ 1048576
  i4 : ∀ y ∈ x.Names, smName y
theorem szPlace_ok (x : Place) (hx : okPlace x) (s : Int) (h0 : 0 ≤ s) (h1 : s ≤ 1048576) : ∃ v, laws_szPlace x s = some v ∧ (v < 0 ∨ (0 ≤ v ∧ v ≤ s ∧ smPlace x)) := by
  unfold laws_szPlace
  have z0 := hx.Code
  unfold maxLen at z0
  rw [w64_id (n := s - (x.Code.size : Int)) (by omega) (by omega)]
  by_cases c0 : s - (x.Code.size : Int) < 0
  · rw [decide_eq_true c0]
    exact ⟨_, rfl, .inl (by omega)⟩
  rw [decide_eq_false c0, cond_false]
  obtain ⟨v1, g1, z1⟩ := szNameS_ok x.Names hx.Names (s - (x.Code.size : Int)) (by omega) (by omega)
  rw [g1, Option.bind_some]
  by_cases c1 : v1 < 0
  · rw [decide_eq_true c1]
    exact ⟨_, rfl, .inl (by omega)⟩
  rw [decide_eq_false c1, cond_false]
  replace z1 := z1.resolve_left c1
  exact ⟨_, rfl, .inr ⟨by omega, by omega, ⟨by omega, by have := z1.2.2.1; omega, z1.2.2.2⟩⟩⟩
theorem toPlace_eq (x : Place) (h : smPlace x) : laws_toPlace x = some x := by
  unfold laws_toPlace
  simp only [toSpan_eq x.Years, toNameS_eq x.Names h.s4, Option.bind_some]
theorem eqPlace_self (x : Place) (h : smPlace x) : laws_eqPlace x x = some true := by
  unfold laws_eqPlace
  simp [eqSpan_self x.Years, eqNameS_self x.Names (by have := h.s4; omega)]
noncomputable def fPlace (k : Int) (x : Place) : Place := Place.mk (mt k) (k + 1) (Span.mk (k + 2) (k + 3)) (markV fName cName (k + 4) x.Names)
abbrev cPlace : Place → Nat := fun x => 4 + sumN cName x.Names
theorem markPlaceS_eq (L : List Place) (k : Int) (h1 : 1 ≤ k) (h2 : k + sumN cPlace L ≤ 1000000000000000) (h3 : L.length ≤ 1000000000000000) : laws_markPlaceS L k = some (k + sumN cPlace L, markV fPlace cPlace k L) := by
  unfold laws_markPlaceS
  refine mark_list fPlace cPlace L k h1 h2 h3 fun k i L x h1 h2 hl hx => ?_
  have h2' : k + ((4 + sumN cName x.Names : Nat) : Int) ≤ 1000000000000000 := h2
  have hi := (List.getElem?_eq_some_iff.1 hx).1
  have e1 : w64 (k + 1) = k + 1 := w64_id (by omega) (by omega)
  have e2 : w64 (k + 1 + 1) = k + 2 := by rw [w64_id (by omega) (by omega)]; omega
  have e3 : w64 (k + 2 + 1) = k + 3 := by rw [w64_id (by omega) (by omega)]; omega
  have e4 : w64 (k + 3 + 1) = k + 4 := by rw [w64_id (by omega) (by omega)]; omega
  have m0 : laws_markText k = some (mt k) := markText_eq (by omega) (by omega)
  have hc := sumN_ge (c := cName) x.Names (fun _ => by simp [cName])
  have n0 : laws_markNameS x.Names (k + 4) = _ := markNameS_eq x.Names (k + 4) (by omega) (by omega) (by omega)
  simp only [m0, e1, e2, e3, e4, at_nat, hx, Option.bind_some, Int.toNat_natCast, List.set_set, List.getElem?_set_self hi, n0]
  rw [show k + 4 + ((sumN cName x.Names : Nat) : Int) = k + ((4 + sumN cName x.Names : Nat) : Int) from by omega]
  rfl
theorem sumPlace_small (L : List Place) (hl : L.length ≤ 1048576) (h : ∀ x ∈ L, smPlace x) : sumN cPlace L ≤ 10000000000000 := by
  have h1 := sumN_le (c := cPlace) (C := 5242884) (L := L) (fun x hx => by
    have h2 := sumN_le (c := cName) (C := 5) (L := x.Names) (fun _ _ => Nat.le_refl _)
    have := (h x hx).s4
    show 4 + sumN cName x.Names ≤ _
    omega)
  omega
theorem heldPlaceS_eq (L : List Place) (k : Int) (h1 : 1 ≤ k) (h2 : k + sumN cPlace L ≤ 1000000000000000) (h3 : L.length ≤ 1000000000000000) : laws_heldPlaceS (markV fPlace cPlace k L) k = some (k + sumN cPlace L) := by
  unfold laws_heldPlaceS
  refine held_list fPlace cPlace h3 k h1 h2 fun i k x h1 h2 hx => ?_
  have h2' : k + ((4 + sumN cName x.Names : Nat) : Int) ≤ 1000000000000000 := h2
  have e1 : w64 (k + 1) = k + 1 := w64_id (by omega) (by omega)
  have e2 : w64 (k + 1 + 1) = k + 2 := by rw [w64_id (by omega) (by omega)]; omega
  have e3 : w64 (k + 2 + 1) = k + 3 := by rw [w64_id (by omega) (by omega)]; omega
  have e4 : w64 (k + 3 + 1) = k + 4 := by rw [w64_id (by omega) (by omega)]; omega
  have m0 : laws_markText k = some (mt k) := markText_eq (by omega) (by omega)
  have hc := sumN_ge (c := cName) x.Names (fun _ => by simp [cName])
  have n0 : laws_heldNameS (markV fName cName (k + 4) x.Names) (k + 4) = _ := heldNameS_eq x.Names (k + 4) (by omega) (by omega) (by omega)
  simp only [m0, e1, e2, e3, e4, at_nat, hx, Option.bind_some]
  simp only [fPlace, bne_self_eq_false, cond_false, Option.bind_some, beq_self_eq_true, Bool.not_true, e1, e2, e3, e4, m0]
  rw [n0, Option.bind_some, decide_eq_false (by omega), cond_false]
  rw [show k + 4 + ((sumN cName x.Names : Nat) : Int) = k + ((4 + sumN cName x.Names : Nat) : Int) from by omega]
theorem szPlaceS_ok (L : List Place) (hL : L.length ≤ maxLen ∧ ∀ x ∈ L, okPlace x) (l : Int) (h0 : 0 ≤ l) (h1 : l ≤ 1048576) : ∃ v, laws_szPlaceS L l = some v ∧ (v < 0 ∨ (0 ≤ v ∧ v ≤ l ∧ (L.length : Int) ≤ l ∧ ∀ x ∈ L, smPlace x)) := by
  unfold laws_szPlaceS
  exact sz_list hL.1 laws_szPlace smPlace (fun x hx s h0 h1 => szPlace_ok x (hL.2 x hx) s h0 h1) l h0 h1
theorem toPlaceS_eq (L : List Place) (hL : L.length ≤ 1048576) (h : ∀ x ∈ L, smPlace x) : laws_toPlaceS L = some L := by
  unfold laws_toPlaceS
  exact copy_list hL laws_toPlace (fun x hx => toPlace_eq x (h x hx)) _
theorem eqPlaceS_self (L : List Place) (hL : L.length ≤ 1000000000) (h : ∀ x ∈ L, smPlace x) : laws_eqPlaceS L L = some true := by
  unfold laws_eqPlaceS
  exact eq_list hL laws_eqPlace (fun x hx => eqPlace_self x (h x hx))
end Go.Proofs.YtpohkmbkohjahaaGreatDoor.Sh
