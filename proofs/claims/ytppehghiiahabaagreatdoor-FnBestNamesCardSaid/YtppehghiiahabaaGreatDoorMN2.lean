/- Plain laws of claims: circles, consistency, NameBy and ParentBy of both; bounds on lengths alone. -/
import Derived.Test.YtppehghiiahabaaGreatDoorMN1
import Derived.Test.YtppehghiiahabaaGreatDoorL0
namespace Go.Proofs.YtppehghiiahabaaGreatDoor.Sh
open Go.RowKit Go.Lib
theorem filter_lt {α : Type} {p q : α → Bool} (h : ∀ x, q x = true → p x = true) {a : α} (hp : p a = true) (hq : q a = false) : ∀ {L : List α}, a ∈ L → (L.filter q).length < (L.filter p).length
  | [], ha => by cases ha
  | x :: l, ha => by
    have hle : ∀ M : List α, (M.filter q).length ≤ (M.filter p).length := by
      intro M
      induction M with
      | nil => simp
      | cons y m ih =>
        rw [List.filter_cons, List.filter_cons]
        cases hy : q y
        · cases p y <;> simp <;> omega
        · rw [h y hy]; simp; omega
    have h1 := hle l
    rw [List.filter_cons, List.filter_cons]
    rcases List.mem_cons.1 ha with rfl | ha
    · rw [hp, hq]; simp; omega
    · have h2 := filter_lt h hp hq ha
      cases hy : q x
      · cases p x <;> simp <;> omega
      · rw [h x hy]; simp; omega
theorem any_eq {L : List ByteArray} {v : ByteArray} : (L.any fun x => v.toList == x.toList) = true ↔ v ∈ L := by
  rw [List.any_eq_true]
  refine ⟨fun ⟨x, h1, h2⟩ => ?_, fun h => ⟨v, h, beqL.2 rfl⟩⟩
  rw [beqL.1 h2]
  exact h1
theorem any_eq' {L : List ByteArray} {v : ByteArray} : (L.any fun x => x.toList == v.toList) = true ↔ v ∈ L := by
  rw [List.any_eq_true]
  refine ⟨fun ⟨x, h1, h2⟩ => ?_, fun h => ⟨v, h, beqL.2 rfl⟩⟩
  rw [← beqL.1 h2]
  exact h1
theorem contains_eq {L : List ByteArray} (hL : L.length ≤ 1000000000) (v : ByteArray) : slices_Contains_string L v = some (L.any fun x => v.toList == x.toList) := by
  unfold slices_Contains_string slices_Index_string
  rw [loop_idx (by omega) (fun x => v.toList == x.toList) (fun i x hx => by rw [at_nat, hx]; rfl), Option.bind_some, idxP_any]
theorem find_eq {L : List ByteArray} (hL : L.length ≤ 1000000000) (v : ByteArray) : ∃ n : Int, spec_l03Find L v = some n ∧ (n < 0 ↔ v ∉ L) := by
  unfold spec_l03Find
  rw [loop_idx (by omega) (fun x => x.toList == v.toList) (fun i x hx => by rw [at_nat, hx]; rfl)]
  refine ⟨_, rfl, ?_⟩
  have h1 := idxP_neg (fun x : ByteArray => x.toList == v.toList) L
  rw [← any_eq']
  constructor
  · intro h
    rw [decide_eq_true h] at h1
    intro hc
    rw [hc] at h1
    cases h1
  · intro h
    rw [Bool.not_eq_true] at h
    rw [h] at h1
    simpa using h1
/-- One's circle and the other's. -/
def CirR (a b : List ByteArray × Bool) : Prop := a.2 = b.2 ∧ (b.2 = true → a = b)
/-- How many places are still to see. -/
def toSee (C out : List ByteArray) : Nat := (C.filter fun v => !(out.any fun x => v.toList == x.toList)).length
theorem toSee_lt {C out : List ByteArray} {v : ByteArray} (h1 : v ∈ C) (h2 : v ∉ out) : toSee C (out ++ [v]) < toSee C out := by
  unfold toSee
  have hf : ∀ {M : List ByteArray} {x : ByteArray}, (!(M.any fun z => x.toList == z.toList)) = true ↔ x ∉ M := fun {M x} => by
    rw [Bool.not_eq_true', Bool.eq_false_iff, ne_eq, any_eq]
  refine filter_lt (fun x hx => ?_) (a := v) (hf.2 h2) ?_ h1
  · rw [hf] at hx ⊢
    exact fun h => hx (List.mem_append_left _ h)
  · rw [Bool.eq_false_iff, ne_eq, hf]
    simp
theorem circle_eq {L : List Claim} (hL : L.length ≤ 100) (hc : ∀ x ∈ L, claimB x = true) (place : ByteArray) (y : Int) : ∃ a b, impl_circleIn L place y = some a ∧ spec_l21Circle L place y = some b ∧ CirR a b ∧ b.1.length ≤ 101 := by
  have key : ∀ (n : Nat) (out : List ByteArray) (v : ByteArray), toSee (place :: L.map Claim.Value) out ≤ n → v ∈ place :: L.map Claim.Value → v ∉ out → (place ∈ out ∨ v = place) → out.length + toSee (place :: L.map Claim.Value) out ≤ 101 →
      ∃ a b, loop (fun (s1 : (List ByteArray)) => ((at' s1 (w64 ((s1.length : Int) - 1))).bind fun x3 => ((impl_parentClaim L x3 y).bind fun x4 => (((bif (x4.2 && (x4.1.toList == place.toList)) then some (.inr (.inr (s1, true))) else (((bif (!x4.2) then some true else ((slices_Contains_string s1 x4.1).bind fun x7 => some x7))).bind fun (j8 : Bool) => (bif j8 then some (.inr (.inr (([] : List ByteArray), false))) else some (.inl ()))))).bind (Sum.elim (fun (_ : Unit) => ((app' s1 ([x4.1] : List ByteArray)).bind fun x10 => some (.inl x10))) some))))) (out ++ [v]) = some a ∧
      ((loop (fun (s3 : ByteArray × (List ByteArray)) => ((spec_l03Find s3.2 s3.1).bind fun x5 => (bif (decide (x5 < 0)) then ((app' s3.2 ([s3.1] : List ByteArray)).bind fun x6 => ((spec_l21Parent L s3.1 y).bind fun x7 => (bif (x7.toList == (ByteArray.mk #[]).toList) then some (.inr (.inr (([] : List ByteArray), false))) else some (.inl (x7, x6))))) else some (.inr (.inl (s3.1, s3.2)))))) (v, out))).bind (Sum.elim (fun (j1 : ByteArray × (List ByteArray)) => some (j1.2, (j1.1.toList == place.toList))) some) = some b ∧ CirR a b ∧ b.1.length ≤ 101 := by
    intro n
    induction n with
    | zero =>
      intro out v h1 h2 h3
      have := toSee_lt h2 h3
      omega
    | succ n ih =>
      intro out v h1 h2 h3 hp h13
      have hlt := toSee_lt h2 h3
      have hl : out.length ≤ 101 := by omega
      have hlen : (out ++ [v]).length = out.length + 1 := by simp
      have hat : at' (out ++ [v]) (w64 (((out ++ [v]).length : Int) - 1)) = some v := by
        rw [w64_id (by omega) (by omega), hlen, show ((out.length + 1 : Nat) : Int) - 1 = (out.length : Int) by omega, at_nat]
        simp
      have hpl : place ∈ out ++ [v] := by
        rcases hp with hp | rfl
        · exact List.mem_append_left _ hp
        · simp
      obtain ⟨m, hm, hm'⟩ := find_eq (L := out) (by omega) v
      rw [loop_eq]
      conv in loop _ (v, out) => rw [loop_eq]
      simp only [hat, Option.bind_some, impl_parent_eq (show L.length ≤ 1048576 by omega), hm, decide_eq_true (hm'.2 h3), cond_true, app_ok (show out.length + [v].length ≤ 68719476736 by simp; omega), spec_parent_eq (show L.length ≤ 1048576 by omega)]
      cases ht : tel L 1 v y with
      | none =>
        have e0 : telP none = (ByteArray.mk #[], false) := rfl
        have e2 : ((ByteArray.mk #[]).toList == (ByteArray.mk #[]).toList) = true := beqL.2 rfl
        simp only [e0, e2, Bool.false_and, cond_false, cond_true, Bool.not_false, Option.bind_some, Sum.elim_inr]
        refine ⟨([], false), ([], false), rfl, rfl, ⟨rfl, fun _ => rfl⟩, by simp⟩
      | some u =>
        obtain ⟨hu1, hu2⟩ := tel_some hc (.inr rfl) ht
        have e1 : telP (some u) = (u, true) := rfl
        simp only [e1, Bool.true_and, beqL_nil hu1, cond_false, Bool.not_true, contains_eq (show (out ++ [v]).length ≤ 1000000000 by omega), Option.bind_some]
        by_cases hin : u ∈ out ++ [v]
        · obtain ⟨m2, hm2, hm2'⟩ := find_eq (L := out ++ [v]) (by omega) u
          rw [loop_eq]
          have hge : ¬ m2 < 0 := fun h => hm2'.1 h hin
          simp only [hm2, Option.bind_some, decide_eq_false hge, cond_false, Sum.elim_inl, any_eq.2 hin, cond_true]
          cases hpu : (u.toList == place.toList)
          · refine ⟨([], false), _, rfl, rfl, ⟨rfl, fun h => by cases h⟩, by simp; omega⟩
          · refine ⟨(out ++ [v], true), _, rfl, rfl, ⟨rfl, fun _ => rfl⟩, by simp; omega⟩
        · have hne : (u.toList == place.toList) = false := by
            rw [Bool.eq_false_iff]
            intro h
            rw [beqL.1 h] at hin
            exact hin hpl
          have hnot : ((out ++ [v]).any fun x => u.toList == x.toList) = false := by
            rw [Bool.eq_false_iff, ne_eq, any_eq]
            exact hin
          simp only [hne, cond_false, hnot, Option.bind_some, Sum.elim_inl, app_ok (show (out ++ [v]).length + [u].length ≤ 68719476736 by simp; omega)]
          have h9 := ih (out ++ [v]) u (by omega) (List.mem_cons_of_mem _ hu2) hin (.inl hpl) (by omega)
          simp only [impl_parent_eq (show L.length ≤ 1048576 by omega), spec_parent_eq (show L.length ≤ 1048576 by omega), Option.bind_some] at h9
          exact h9
  have h0 : toSee (place :: L.map Claim.Value) [] ≤ 101 := by
    unfold toSee
    have := List.length_filter_le (fun v => !(([] : List ByteArray).any fun x => v.toList == x.toList)) (place :: L.map Claim.Value)
    simp only [List.length_cons, List.length_map] at this
    omega
  obtain ⟨a, b, h1, h2, h3, h4⟩ := key 101 [] place h0 List.mem_cons_self (by simp) (.inr rfl) (by simpa using h0)
  exact ⟨a, b, h1, h2, h3, h4⟩
end Go.Proofs.YtppehghiiahabaaGreatDoor.Sh
