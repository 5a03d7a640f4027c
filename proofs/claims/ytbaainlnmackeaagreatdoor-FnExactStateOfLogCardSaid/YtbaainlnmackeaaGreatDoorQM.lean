/- Sizes, copies, comparisons and marks of the laws' types; bounds on lengths alone. -/
import Derived.Test.YtbaainlnmackeaaGreatDoorQA
import Derived.Test.YtbaainlnmackeaaGreatDoorRD
import Derived.Test.YtbaainlnmackeaaGreatDoorGA
namespace Go.Proofs.YtbaainlnmackeaaGreatDoor.Sh
open Go.RowKit Go.Lib
theorem sumN_ge {α : Type} {c : α → Nat} (L : List α) (h : ∀ x, 1 ≤ c x) : L.length ≤ sumN c L := by
  induction L with
  | nil => simp [sumN]
  | cons x l ih => have := h x; unfold sumN; simp only [List.length_cons]; omega
theorem markText_ok {k : Int} (h0 : 1 ≤ k) (h1 : k ≤ 1000000000000001) : ∃ t, laws_markText k = some t := by
  unfold laws_markText
  rw [decide_eq_false (show ¬ k ≤ 0 by omega), cond_false]
  obtain ⟨r, e, hr⟩ := loop_inv (body := fun (s3 : Int × ByteArray) => (bif (decide (s3.1 > 0)) then ((cat' (strOfNums ([(IntKind.wrap .u8 (w64 (48 + (Int.tmod s3.1 10))))] : List Int)) s3.2).bind fun x5 => some (.inl ((w64 (Int.tdiv s3.1 10)), x5))) else some (.inr s3.2)))
    (fun s => 0 ≤ s.1 ∧ s.1 ≤ 1000000000000001 ∧ (s.2.size : Int) + s.1 ≤ 1000000000000001) (fun s => s.1.toNat) (fun r : ByteArray => (r.size : Int) ≤ 1000000000000001) (fun s hs => by
      obtain ⟨h2, h3, h4⟩ := hs
      by_cases hp : s.1 > 0
      · left
        rw [decide_eq_true hp, cond_true, Int.tdiv_eq_ediv_of_nonneg h2, w64_id (n := s.1 / 10) (by omega) (by omega)]
        unfold cat'
        rw [if_pos (by rw [strOfNums_size]; simp; omega)]
        refine ⟨_, rfl, ?_⟩
        dsimp only
        rw [ByteArray.size_append, strOfNums_size]
        simp
        omega
      · right
        rw [decide_eq_false hp, cond_false]
        exact ⟨_, rfl, by omega⟩) (s := (k, ByteArray.mk #[])) ⟨by dsimp only; omega, h1, by show ((0 : Nat) : Int) + k ≤ _; omega⟩
  rw [e, Option.bind_some]
  unfold cat'
  rw [if_pos (by show 1 + r.size ≤ _; omega)]
  exact ⟨_, rfl⟩
noncomputable def mt (k : Int) : ByteArray := (laws_markText k).getD (ByteArray.mk #[])
theorem markText_eq {k : Int} (h0 : 1 ≤ k) (h1 : k ≤ 1000000000000001) : laws_markText k = some (mt k) := by
  obtain ⟨t, h⟩ := markText_ok h0 h1
  unfold mt
  rw [h]
  rfl
noncomputable abbrev fString : Int → ByteArray → ByteArray := fun k _ => mt k
abbrev cString : ByteArray → Nat := fun _ => 1
theorem markInt64S_eq (L : List Int) (k : Int) (h1 : 1 ≤ k) (h2 : k + sumN cInt L ≤ 1000000000000000) (h3 : L.length ≤ 1000000000000000) : laws_markInt64S L k = some (k + sumN cInt L, markV fInt cInt k L) := by
  unfold laws_markInt64S
  refine mark_list fInt cInt L k h1 h2 h3 fun k i L x h1 h2 hl hx => ?_
  have h2' : k + (1 : Nat) ≤ 1000000000000000 := h2
  rw [at_nat, hx, w64_id (n := k + 1) (by omega) (by omega)]
  rfl
theorem szInt64S_ok (L : List Int) (hL : L.length ≤ maxLen) (l : Int) (h0 : 0 ≤ l) (h1 : l ≤ 1048576) : ∃ v, laws_szInt64S L l = some v ∧ (v < 0 ∨ (0 ≤ v ∧ v ≤ l ∧ (L.length : Int) ≤ l)) := by
  unfold laws_szInt64S
  unfold maxLen at hL
  rw [w64_id (by omega) (by omega)]
  by_cases h : l - (L.length : Int) < 0
  · rw [decide_eq_true h]
    exact ⟨_, rfl, .inl (by omega)⟩
  · rw [decide_eq_false h, cond_false]
    exact ⟨_, rfl, .inr ⟨by omega, by omega, by omega⟩⟩
theorem toInt64S_eq (L : List Int) (hL : L.length ≤ 1048576) : laws_toInt64S L = some L := by
  unfold laws_toInt64S
  exact copy_flat hL _
theorem eqInt64S_self (L : List Int) (hL : L.length ≤ 1000000000) : laws_eqInt64S L L = some true := by
  unfold laws_eqInt64S
  rw [bne_self_eq_false, cond_false]
  exact loop_same (by omega) (fun i x hx => by rw [at_nat, hx]; simp)
structure smOp (x : Op) : Prop where
  s2 : x.Key.size ≤ 1048576
  s3 : x.Text.size ≤ 1048576
  s4 : x.Seen.length ≤ 1048576
theorem szOp_ok (x : Op) (hx : okOp x) (s : Int) (h0 : 0 ≤ s) (h1 : s ≤ 1048576) : ∃ v, laws_szOp x s = some v ∧ (v < 0 ∨ (0 ≤ v ∧ v ≤ s ∧ smOp x)) := by
  unfold laws_szOp
  have z0 := hx.Key
  unfold maxLen at z0
  rw [w64_id (n := s - (x.Key.size : Int)) (by omega) (by omega)]
  by_cases c0 : s - (x.Key.size : Int) < 0
  · rw [decide_eq_true c0]
    exact ⟨_, rfl, .inl (by omega)⟩
  rw [decide_eq_false c0, cond_false]
  have z1 := hx.Text
  unfold maxLen at z1
  rw [w64_id (n := s - (x.Key.size : Int) - (x.Text.size : Int)) (by omega) (by omega)]
  by_cases c1 : s - (x.Key.size : Int) - (x.Text.size : Int) < 0
  · rw [decide_eq_true c1]
    exact ⟨_, rfl, .inl (by omega)⟩
  rw [decide_eq_false c1, cond_false]
  obtain ⟨v2, g2, z2⟩ := szInt64S_ok x.Seen hx.Seen.1 (s - (x.Key.size : Int) - (x.Text.size : Int)) (by omega) (by omega)
  rw [g2, Option.bind_some]
  by_cases c2 : v2 < 0
  · rw [decide_eq_true c2]
    exact ⟨_, rfl, .inl (by omega)⟩
  rw [decide_eq_false c2, cond_false]
  replace z2 := z2.resolve_left c2
  exact ⟨_, rfl, .inr ⟨by omega, by omega, ⟨by omega, by omega, by have := z2.2.2; omega⟩⟩⟩
theorem toOp_eq (x : Op) (h : smOp x) : laws_toOp x = some x := by
  unfold laws_toOp
  simp only [toInt64S_eq x.Seen h.s4, Option.bind_some]
theorem eqOp_self (x : Op) (h : smOp x) : laws_eqOp x x = some true := by
  unfold laws_eqOp
  simp [eqInt64S_self x.Seen (by have := h.s4; omega)]
noncomputable def fOp (k : Int) (x : Op) : Op := Op.mk k (k + 1) (mt (k + 2)) (mt (k + 3)) (markV fInt cInt (k + 4) x.Seen)
abbrev cOp : Op → Nat := fun x => 4 + sumN cInt x.Seen
theorem markOpS_eq (L : List Op) (k : Int) (h1 : 1 ≤ k) (h2 : k + sumN cOp L ≤ 1000000000000000) (h3 : L.length ≤ 1000000000000000) : laws_markOpS L k = some (k + sumN cOp L, markV fOp cOp k L) := by
  unfold laws_markOpS
  refine mark_list fOp cOp L k h1 h2 h3 fun k i L x h1 h2 hl hx => ?_
  have h2' : k + ((4 + sumN cInt x.Seen : Nat) : Int) ≤ 1000000000000000 := h2
  have hi := (List.getElem?_eq_some_iff.1 hx).1
  have e1 : w64 (k + 1) = k + 1 := w64_id (by omega) (by omega)
  have e2 : w64 (k + 1 + 1) = k + 2 := by rw [w64_id (by omega) (by omega)]; omega
  have e3 : w64 (k + 2 + 1) = k + 3 := by rw [w64_id (by omega) (by omega)]; omega
  have e4 : w64 (k + 3 + 1) = k + 4 := by rw [w64_id (by omega) (by omega)]; omega
  have m2 : laws_markText (k + 2) = some (mt (k + 2)) := markText_eq (by omega) (by omega)
  have m3 : laws_markText (k + 3) = some (mt (k + 3)) := markText_eq (by omega) (by omega)
  have hc := sumN_ge (c := cInt) x.Seen (fun _ => by simp [cInt])
  have n0 : laws_markInt64S x.Seen (k + 4) = _ := markInt64S_eq x.Seen (k + 4) (by omega) (by omega) (by omega)
  simp only [m2, m3, e1, e2, e3, e4, at_nat, hx, Option.bind_some, Int.toNat_natCast, List.set_set, List.getElem?_set_self hi, n0]
  rw [show k + 4 + ((sumN cInt x.Seen : Nat) : Int) = k + ((4 + sumN cInt x.Seen : Nat) : Int) from by omega]
  rfl
theorem sumOp_small (L : List Op) (hl : L.length ≤ 1048576) (h : ∀ x ∈ L, smOp x) : sumN cOp L ≤ 10000000000000 := by
  have h1 := sumN_le (c := cOp) (C := 1048580) (L := L) (fun x hx => by
    have h2 := sumN_le (c := cInt) (C := 1) (L := x.Seen) (fun _ _ => Nat.le_refl _)
    have := (h x hx).s4
    show 4 + sumN cInt x.Seen ≤ _
    omega)
  omega
theorem szOpS_ok (L : List Op) (hL : L.length ≤ maxLen ∧ ∀ x ∈ L, okOp x) (l : Int) (h0 : 0 ≤ l) (h1 : l ≤ 1048576) : ∃ v, laws_szOpS L l = some v ∧ (v < 0 ∨ (0 ≤ v ∧ v ≤ l ∧ (L.length : Int) ≤ l ∧ ∀ x ∈ L, smOp x)) := by
  unfold laws_szOpS
  exact sz_list hL.1 laws_szOp smOp (fun x hx s h0 h1 => szOp_ok x (hL.2 x hx) s h0 h1) l h0 h1
theorem toOpS_eq (L : List Op) (hL : L.length ≤ 1048576) (h : ∀ x ∈ L, smOp x) : laws_toOpS L = some L := by
  unfold laws_toOpS
  exact copy_list hL laws_toOp (fun x hx => toOp_eq x (h x hx)) _
theorem eqOpS_self (L : List Op) (hL : L.length ≤ 1000000000) (h : ∀ x ∈ L, smOp x) : laws_eqOpS L L = some true := by
  unfold laws_eqOpS
  exact eq_list hL laws_eqOp (fun x hx => eqOp_self x (h x hx))
theorem markStringS_eq (L : List ByteArray) (k : Int) (h1 : 1 ≤ k) (h2 : k + sumN cString L ≤ 1000000000000000) (h3 : L.length ≤ 1000000000000000) : laws_markStringS L k = some (k + sumN cString L, markV fString cString k L) := by
  unfold laws_markStringS
  refine mark_list fString cString L k h1 h2 h3 fun k i L x h1 h2 hl hx => ?_
  have h2' : k + (1 : Nat) ≤ 1000000000000000 := h2
  simp only [at_nat, hx, w64_id (n := k + 1) (by omega) (by omega), markText_eq (k := k) (by omega) (by omega), Option.bind_some]
  rfl
theorem heldStringS_eq (L : List ByteArray) (k : Int) (h1 : 1 ≤ k) (h2 : k + sumN cString L ≤ 1000000000000000) (h3 : L.length ≤ 1000000000000000) : laws_heldStringS (markV fString cString k L) k = some (k + sumN cString L) := by
  unfold laws_heldStringS
  refine held_list fString cString h3 k h1 h2 fun i k x h1 h2 hx => ?_
  have h2' : k + (1 : Nat) ≤ 1000000000000000 := h2
  simp only [at_nat, hx, markText_eq (k := k) (by omega) (by omega), Option.bind_some, beq_self_eq_true, Bool.not_true, cond_false]
  rw [w64_id (by omega) (by omega)]
  rfl
theorem eqStringS_self (L : List ByteArray) (hL : L.length ≤ 1000000000) : laws_eqStringS L L = some true := by
  unfold laws_eqStringS
  rw [bne_self_eq_false, cond_false]
  exact loop_same (by omega) (fun i x hx => by rw [at_nat, hx]; simp)
end Go.Proofs.YtbaainlnmackeaaGreatDoor.Sh
