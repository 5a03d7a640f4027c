/- Plain laws of claims: what holds for all claims holds for some of them; existence of both. -/
import Derived.Test.YtppehghiiahabaaGreatDoorMN3
namespace Go.Proofs.YtppehghiiahabaaGreatDoor.Sh
open Go.RowKit Go.Lib
theorem conB_self (x : Claim) : conB x x = false := by
  unfold conB
  have h : (x.Kind == 1 && (x.Kind == 3 && x.Value.toList == x.Place.toList)) = false := by
    rw [Bool.eq_false_iff]
    intro h
    rw [Bool.and_eq_true, Bool.and_eq_true, beq_iff_eq, beq_iff_eq] at h
    omega
  rw [h]
  simp
theorem conB_comm (x y : Claim) : conB x y = conB y x := by
  unfold conB
  rw [BEq.comm (a := x.Place.toList), BEq.comm (a := x.Kind) (b := y.Kind), BEq.comm (a := x.Value.toList) (b := y.Value.toList)]
  have h : (bif y.Kind == x.Kind then ((x.Kind == 0) || (x.Kind == 1)) && !(y.Value.toList == x.Value.toList) else (x.Kind == 3) || (y.Kind == 3)) = (bif y.Kind == x.Kind then ((y.Kind == 0) || (y.Kind == 1)) && !(y.Value.toList == x.Value.toList) else (y.Kind == 3) || (x.Kind == 3)) := by
    by_cases hk : y.Kind = x.Kind
    · rw [hk]
    · rw [beq_eq_false_iff_ne.2 hk, cond_false, cond_false, Bool.or_comm]
  rw [h]
  generalize (bif y.Kind == x.Kind then ((y.Kind == 0) || (y.Kind == 1)) && !(y.Value.toList == x.Value.toList) else (y.Kind == 3) || (x.Kind == 3)) = c
  generalize (x.Kind == 1 && (y.Kind == 3 && x.Value.toList == y.Place.toList)) = a
  generalize (y.Kind == 1 && (x.Kind == 3 && y.Value.toList == x.Place.toList)) = b
  generalize (y.Place.toList == x.Place.toList) = z
  generalize decide (x.Years.From ≤ y.Years.To) = m
  generalize decide (y.Years.From ≤ x.Years.To) = n
  cases m <;> cases n <;> cases a <;> cases b <;> cases c <;> cases z <;> rfl
theorem firstI_some {α : Type} (p : Nat → α → Bool) : ∀ (L : List α) (k : Nat), (firstI p (fun _ _ => ()) L k).isSome = true ↔ ∃ i x, L[i]? = some x ∧ p (k + i) x = true
  | [], k => by simp [firstI]
  | x :: l, k => by
    unfold firstI
    cases hp : p k x
    · rw [cond_false, firstI_some p l (k + 1)]
      constructor
      · rintro ⟨i, y, h1, h2⟩
        exact ⟨i + 1, y, by simpa using h1, by rw [← h2]; congr 1; omega⟩
      · rintro ⟨i, y, h1, h2⟩
        cases i with
        | zero =>
          have : x = y := by simpa using h1
          subst this
          rw [Nat.add_zero, hp] at h2
          cases h2
        | succ i => exact ⟨i, y, by simpa using h1, by rw [← h2]; congr 1; omega⟩
    · simp only [cond_true, Option.isSome_some, true_iff]
      exact ⟨0, x, rfl, hp⟩
/-- Two claims that contradict each other, wherever they are. -/
theorem pairB_iff {L : List Claim} : pairB L = true ↔ ∃ x ∈ L, ∃ y ∈ L, conB x y = true := by
  unfold pairB
  rw [firstI_some]
  simp only [Nat.zero_add, List.any_eq_true]
  constructor
  · rintro ⟨i, x, h1, y, h2, h3⟩
    exact ⟨x, List.mem_of_getElem? h1, y, List.mem_of_mem_take h2, h3⟩
  · rintro ⟨x, hx, y, hy, h⟩
    obtain ⟨i, hi, rfl⟩ := List.mem_iff_getElem.1 hx
    obtain ⟨k, hk, rfl⟩ := List.mem_iff_getElem.1 hy
    rcases Nat.lt_trichotomy i k with hik | rfl | hik
    · refine ⟨k, L[k], List.getElem?_eq_getElem hk, L[i], ?_, by rw [conB_comm]; exact h⟩
      exact List.mem_take_iff_getElem.2 ⟨i, by omega, rfl⟩
    · rw [conB_self] at h
      cases h
    · exact ⟨i, L[i], List.getElem?_eq_getElem hi, L[k], List.mem_take_iff_getElem.2 ⟨k, by omega, rfl⟩, h⟩
theorem pairB_no {L : List Claim} (h : pairB L = false) {x y : Claim} (hx : x ∈ L) (hy : y ∈ L) : conB x y = false := by
  rw [Bool.eq_false_iff]
  intro hc
  rw [pairB_iff.2 ⟨x, hx, y, hy, hc⟩] at h
  cases h
theorem inB_meet {y a b c d : Int} (h1 : inB y a b = true) (h2 : inB y c d = true) : (decide (a ≤ d) && decide (c ≤ b)) = true := by
  rw [inB_iff] at h1 h2
  rw [Bool.and_eq_true, decide_eq_true_eq, decide_eq_true_eq]
  omega
/-- Claims that do not contradict each other tell one name and one parent. -/
theorem tel_one {k : Int} (hk : k = 0 ∨ k = 1) {x y : Claim} {p : ByteArray} {t : Int} (h : conB x y = false) (h1 : telB k p t x = true) (h2 : telB k p t y = true) : x.Value = y.Value := by
  unfold telB at h1 h2
  rw [Bool.and_eq_true, Bool.and_eq_true, beq_iff_eq] at h1 h2
  unfold conB at h
  rw [inB_meet h1.2.2 h2.2.2, Bool.true_and, h1.1, h2.1, beqL.1 h1.2.1, beqL.1 h2.2.1, beqL.2 rfl] at h
  have hv : (x.Value.toList == y.Value.toList) = true := by
    rcases hk with rfl | rfl <;> simpa using h
  exact beqL.1 hv
theorem tel_mono {L M : List Claim} (hs : ∀ x ∈ M, x ∈ L) (h : pairB L = false) {k : Int} (hk : k = 0 ∨ k = 1) {p : ByteArray} {t : Int} {v : ByteArray} (hv : tel M k p t = some v) : tel L k p t = some v := by
  unfold tel at hv ⊢
  rw [Option.map_eq_some_iff] at hv ⊢
  obtain ⟨c, hc, rfl⟩ := hv
  have h1 := List.find?_some hc
  have h2 := hs c (List.mem_of_find?_eq_some hc)
  cases hf : L.find? (telB k p t) with
  | none =>
    rw [List.find?_eq_none] at hf
    exact absurd h1 (hf c h2)
  | some d => exact ⟨d, rfl, tel_one hk (pairB_no h (List.mem_of_find?_eq_some hf) h2) (List.find?_some hf) h1⟩
noncomputable def circW (L : List Claim) (p : ByteArray) (y : Int) (s1 : List ByteArray) : Option (List ByteArray ⊕ (List ByteArray × Bool)) := ((at' s1 (w64 ((s1.length : Int) - 1))).bind fun x3 => ((impl_parentClaim L x3 y).bind fun x4 => (((bif (x4.2 && (x4.1.toList == p.toList)) then some (.inr (.inr (s1, true))) else (((bif (!x4.2) then some true else ((slices_Contains_string s1 x4.1).bind fun x7 => some x7))).bind fun (j8 : Bool) => (bif j8 then some (.inr (.inr (([] : List ByteArray), false))) else some (.inl ()))))).bind (Sum.elim (fun (_ : Unit) => ((app' s1 ([x4.1] : List ByteArray)).bind fun x10 => some (.inl x10))) some))))
theorem circ_loop (L : List Claim) (p : ByteArray) (y : Int) : impl_circleIn L p y = loop (circW L p y) [p] := rfl
theorem circW_step {L : List Claim} (hL : L.length ≤ 100) (_hc : ∀ x ∈ L, claimB x = true) {p : ByteArray} {y : Int} {out : List ByteArray} {v : ByteArray} (hl : out.length ≤ 101) : circW L p y (out ++ [v]) = match tel L 1 v y with
    | none => some (.inr ([], false))
    | some u => bif u.toList == p.toList then some (.inr (out ++ [v], true)) else bif (out ++ [v]).any (fun x => u.toList == x.toList) then some (.inr ([], false)) else some (.inl (out ++ [v] ++ [u])) := by
  have hlen : (out ++ [v]).length = out.length + 1 := by simp
  have hat : at' (out ++ [v]) (w64 (((out ++ [v]).length : Int) - 1)) = some v := by
    rw [w64_id (by omega) (by omega), hlen, show ((out.length + 1 : Nat) : Int) - 1 = (out.length : Int) by omega, at_nat]
    simp
  unfold circW
  simp only [hat, Option.bind_some, impl_parent_eq (show L.length ≤ 1048576 by omega)]
  cases ht : tel L 1 v y with
  | none =>
    have e0 : telP none = (ByteArray.mk #[], false) := rfl
    simp only [e0, Bool.false_and, cond_false, cond_true, Bool.not_false, Option.bind_some, Sum.elim_inr]
  | some u =>
    have e1 : telP (some u) = (u, true) := rfl
    simp only [e1, Bool.true_and, Bool.not_true, cond_false, contains_eq (show (out ++ [v]).length ≤ 1000000000 by omega), Option.bind_some]
    cases u.toList == p.toList
    · rw [cond_false, cond_false]
      cases (out ++ [v]).any (fun x => u.toList == x.toList)
      · rw [cond_false, cond_false, Option.bind_some, Sum.elim_inl, app_ok (show (out ++ [v]).length + [u].length ≤ 68719476736 by simp; omega), Option.bind_some]
      · rw [cond_true, cond_true, Option.bind_some, Sum.elim_inr]
    · rw [cond_true, cond_true, Option.bind_some, Sum.elim_inr]
/-- A circle of some claims is one of all, where these do not contradict each other. -/
theorem cir_mono {L M : List Claim} (hL : L.length ≤ 100) (hM : M.length ≤ 100) (hs : ∀ x ∈ M, x ∈ L) (hc : ∀ x ∈ L, claimB x = true) (h : pairB L = false) {p : ByteArray} {y : Int} (hb : cirB M p y = true) : cirB L p y = true := by
  have hcM : ∀ x ∈ M, claimB x = true := fun x hx => hc x (hs x hx)
  obtain ⟨l, hl⟩ := cir_impl hM hcM p y
  rw [hb] at hl
  have key : ∀ (n : Nat) (out : List ByteArray) (v : ByteArray), toSee (p :: M.map Claim.Value) out ≤ n → v ∈ p :: M.map Claim.Value → v ∉ out → out.length + toSee (p :: M.map Claim.Value) out ≤ 101 → ∀ l, loop (circW M p y) (out ++ [v]) = some (l, true) → loop (circW L p y) (out ++ [v]) = some (l, true) := by
    intro n
    induction n with
    | zero =>
      intro out v h1 h2 h3
      have := toSee_lt h2 h3
      omega
    | succ n ih =>
      intro out v h1 h2 h3 h13 l hl
      have hlt := toSee_lt h2 h3
      have hlen : (out ++ [v]).length = out.length + 1 := by simp
      rw [loop_eq, circW_step hM hcM (by omega)] at hl
      rw [loop_eq, circW_step hL hc (by omega)]
      cases ht : tel M 1 v y with
      | none =>
        rw [ht] at hl
        simp at hl
      | some u =>
        rw [ht] at hl
        rw [tel_mono hs h (.inr rfl) ht]
        dsimp only at hl ⊢
        cases hu : (u.toList == p.toList)
        · rw [hu] at hl
          rw [cond_false] at hl ⊢
          cases hin : (out ++ [v]).any (fun x => u.toList == x.toList)
          · rw [hin] at hl
            rw [cond_false] at hl ⊢
            refine ih (out ++ [v]) u (by omega) (List.mem_cons_of_mem _ (tel_some hcM (.inr rfl) ht).2) (fun h => ?_) (by omega) l hl
            rw [any_eq.2 h] at hin
            cases hin
          · rw [hin] at hl
            simp at hl
        · rw [hu] at hl
          exact hl
  have h0 : toSee (p :: M.map Claim.Value) [] ≤ 101 := by
    unfold toSee
    have := List.length_filter_le (fun v => !(([] : List ByteArray).any fun x => v.toList == x.toList)) (p :: M.map Claim.Value)
    simp only [List.length_cons, List.length_map] at this
    omega
  rw [circ_loop] at hl
  have hl' := key 101 [] p h0 List.mem_cons_self (by simp) (by simpa using h0) l hl
  unfold cirB
  rw [circ_loop, show ([p] : List ByteArray) = [] ++ [p] from rfl, hl']
  rfl
theorem circB_mono {L M : List Claim} (hL : L.length ≤ 100) (hM : M.length ≤ 100) (hs : ∀ x ∈ M, x ∈ L) (hc : ∀ x ∈ L, claimB x = true) (h : pairB L = false) (hb : circB M = true) : circB L = true := by
  unfold circB at hb ⊢
  obtain ⟨c, h1, h2⟩ := List.any_eq_true.1 hb
  rw [Bool.and_eq_true] at h2
  obtain ⟨d, h3, h4⟩ := List.any_eq_true.1 h2.2
  exact List.any_eq_true.2 ⟨c, hs c h1, Bool.and_eq_true_iff.2 ⟨h2.1, List.any_eq_true.2 ⟨d, hs d h3, cir_mono hL hM hs hc h h4⟩⟩⟩
/-- Claims that are chosen from consistent ones are consistent. -/
theorem consB_mono {L M : List Claim} (hL : L.length ≤ 100) (hM : M.length ≤ 100) (hs : ∀ x ∈ M, x ∈ L) (hc : ∀ x ∈ L, claimB x = true) (h : consB L = true) : consB M = true := by
  unfold consB at h ⊢
  rw [Bool.and_eq_true, Bool.not_eq_true', Bool.not_eq_true'] at h ⊢
  constructor
  · rw [Bool.eq_false_iff]
    intro hp
    obtain ⟨x, hx, y, hy, hxy⟩ := pairB_iff.1 hp
    rw [pairB_iff.2 ⟨x, hs x hx, y, hs y hy, hxy⟩] at h
    cases h.1
  · rw [Bool.eq_false_iff]
    intro hp
    rw [circB_mono hL hM hs hc h.1 hp] at h
    cases h.2
end Go.Proofs.YtppehghiiahabaaGreatDoor.Sh
