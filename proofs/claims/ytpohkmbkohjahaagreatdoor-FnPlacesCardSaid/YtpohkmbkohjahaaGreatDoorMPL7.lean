/- Places: AddPlace of both; bounds on lengths alone. -/
import Derived.Test.YtpohkmbkohjahaaGreatDoorMPL6
import Derived.Test.YtpohkmbkohjahaaGreatDoorKJ
namespace Go.Proofs.YtpohkmbkohjahaaGreatDoor.Sh
open Go.RowKit Go.Lib
def insL (L : List Place) (k : Nat) (p : Place) : List Place := L.take k ++ [p] ++ L.drop k
theorem insL_mem {L : List Place} {k : Nat} {p x : Place} : x ∈ insL L k p ↔ x = p ∨ x ∈ L := by
  have h := List.take_append_drop k L
  unfold insL
  rw [List.mem_append, List.mem_append, List.mem_singleton]
  constructor
  · rintro ((h1 | h1) | h1)
    · exact .inr (List.mem_of_mem_take h1)
    · exact .inl h1
    · exact .inr (List.mem_of_mem_drop h1)
  · rintro (h1 | h1)
    · exact .inl (.inr h1)
    · rw [← h] at h1
      rcases List.mem_append.1 h1 with h1 | h1
      · exact .inl (.inl h1)
      · exact .inr h1
theorem insL_len {L : List Place} {k : Nat} (hk : k ≤ L.length) {p : Place} : (insL L k p).length = L.length + 1 := by
  unfold insL
  simp only [List.length_append, List.length_take, List.length_drop, List.length_singleton]
  omega
theorem sortedP_iff {L : List Place} : sortedP L ↔ L.Pairwise fun x y => ltB x.Code y.Code = true := by
  rw [List.pairwise_iff_getElem]
  constructor
  · intro h i j hi hj hij
    exact h i j _ _ hij (List.getElem?_eq_getElem hi) (List.getElem?_eq_getElem hj)
  · intro h i j x y hij hx hy
    obtain ⟨hi, rfl⟩ := List.getElem?_eq_some_iff.1 hx
    obtain ⟨hj, rfl⟩ := List.getElem?_eq_some_iff.1 hy
    exact h i j hi hj hij
theorem ltP_total {x y : ByteArray} (h : x ≠ y) : ltB x y = true ∨ ltB y x = true := by
  cases h1 : ltB x y with
  | true => exact .inl rfl
  | false =>
    cases h2 : ltB y x with
    | true => exact .inr rfl
    | false => exact absurd (beqL.1 (beq_iff_eq.2 (bl_total h1 h2))) h
theorem ins_sorted {L : List Place} {k : Nat} {p : Place} (hs : sortedP L) (hlt : ∀ (i : Nat) x, i < k → L[i]? = some x → ltB x.Code p.Code = true) (hge : ∀ (i : Nat) x, k ≤ i → L[i]? = some x → ltB x.Code p.Code = false) : sortedP (insL L k p) ↔ L.any (codeP p.Code) = false := by
  have hmt : ∀ x ∈ L.take k, ltB x.Code p.Code = true := fun x hx => by
    obtain ⟨i, hi, rfl⟩ := List.mem_iff_getElem.1 hx
    rw [List.length_take] at hi
    exact hlt i _ (by omega) (by rw [List.getElem_take]; exact List.getElem?_eq_getElem (by omega))
  have hmd : ∀ x ∈ L.drop k, ltB x.Code p.Code = false := fun x hx => by
    obtain ⟨i, hi, rfl⟩ := List.mem_iff_getElem.1 hx
    rw [List.length_drop] at hi
    exact hge (k + i) _ (by omega) (by rw [List.getElem_drop]; exact List.getElem?_eq_getElem (by omega))
  have hL : ∀ x ∈ L, x ∈ L.take k ∨ x ∈ L.drop k := fun x hx => by
    rw [← List.take_append_drop k L] at hx
    exact List.mem_append.1 hx
  constructor
  · intro h
    rw [sortedP_iff] at h
    unfold insL at h
    rw [List.append_assoc] at h
    have h1 := (List.pairwise_append.1 h).2.1
    have h2 := (List.pairwise_cons.1 (show ([p] ++ L.drop k).Pairwise _ from h1)).1
    rw [List.any_eq_false]
    intro x hx hc
    have hc : x.Code = p.Code := beqL.1 hc
    rcases hL x hx with h3 | h3
    · have := hmt x h3
      rw [hc, ltB_irrefl] at this
      cases this
    · have := h2 x h3
      rw [hc, ltB_irrefl] at this
      cases this
  · intro h
    rw [List.any_eq_false] at h
    rw [sortedP_iff] at hs ⊢
    rw [← List.take_append_drop k L] at hs
    obtain ⟨h1, h2, h3⟩ := List.pairwise_append.1 hs
    unfold insL
    rw [List.append_assoc]
    refine List.pairwise_append.2 ⟨h1, List.pairwise_cons.2 ⟨fun y hy => ?_, h2⟩, fun x hx y hy => ?_⟩
    · have h4 := hmd y hy
      have h5 : y.Code ≠ p.Code := fun e => h y (List.mem_of_mem_drop hy) (beqL.2 e)
      rcases ltP_total h5 with h6 | h6
      · rw [h6] at h4; cases h4
      · exact h6
    · rcases List.mem_cons.1 (show y ∈ p :: L.drop k from hy) with rfl | hy
      · exact hmt x hx
      · exact h3 x hx y hy
theorem skip_loop {L : List Place} (hL : L.length ≤ 1048576) {k : Nat} {c : ByteArray} (hk : k ≤ L.length) (hlt : ∀ (i : Nat) x, i < k → L[i]? = some x → ltB x.Code c = true) (hge : ∀ (i : Nat) x, k ≤ i → L[i]? = some x → ltB x.Code c = false) :
    (loop (fun (s7 : Int) => (((bif (decide (s7 < (L.length : Int))) then ((at' L s7).bind fun x9 => some (Op.bytesLess x9.Code.toList c.toList)) else some false)).bind fun (j10 : Bool) => (bif j10 then some (.inl (w64 (s7 + 1))) else some (.inr s7)))) 0 : Option Int) = some (k : Int) := by
  have key : ∀ (d i : Nat), i + d = k → (loop (fun (s7 : Int) => (((bif (decide (s7 < (L.length : Int))) then ((at' L s7).bind fun x9 => some (Op.bytesLess x9.Code.toList c.toList)) else some false)).bind fun (j10 : Bool) => (bif j10 then some (.inl (w64 (s7 + 1))) else some (.inr s7)))) (i : Int) : Option Int) = some (k : Int) := by
    intro d
    induction d with
    | zero =>
      intro i hi
      have hik : i = k := by omega
      subst hik
      rw [loop_eq]
      by_cases h : i < L.length
      · have hx : L[i]? = some L[i] := List.getElem?_eq_getElem h
        have hb : Op.bytesLess L[i].Code.toList c.toList = false := hge i _ (Nat.le_refl _) hx
        simp only [decide_eq_true (show (i : Int) < L.length by omega), cond_true, at_nat, hx, Option.bind_some, hb, cond_false]
      · simp only [decide_eq_false (show ¬ (i : Int) < L.length by omega), cond_false, Option.bind_some]
    | succ d ih =>
      intro i hi
      have h : i < L.length := by omega
      have hx : L[i]? = some L[i] := List.getElem?_eq_getElem h
      have hb : Op.bytesLess L[i].Code.toList c.toList = true := hlt i _ (by omega) hx
      have := ih (i + 1) (by omega)
      rw [loop_eq]
      simp only [decide_eq_true (show (i : Int) < L.length by omega), cond_true, at_nat, hx, Option.bind_some, hb]
      rw [w64_id (by omega) (by omega)]
      exact this
  exact key k 0 (by omega)
end Go.Proofs.YtpohkmbkohjahaaGreatDoor.Sh
