/- Copies, comparisons, sizes and marks of lists: the loops of the laws; bounds on lengths alone. -/
import Derived.Test.YtojhgfkohbfhhaaDoorMW1
import Derived.Test.YtojhgfkohbfhhaaDoorL0
import Derived.Test.YtojhgfkohbfhhaaDoorGA
namespace Go.Proofs.YtojhgfkohbfhhaaDoor.Sh
open Go.RowKit Go.Lib
section
variable {α A : Type}
/-- A copy, element by element. -/
theorem copy_loop {L : List α} (hL : L.length ≤ 9223372036854775807) {B : Int → List α → Option (List α)} {z : α} (h : ∀ (i : Nat) x (s : List α), L[i]? = some x → s.length = L.length → B (i : Int) s = some (s.set i x)) : forS (L.length : Int) B (fun s => s) 0 (List.replicate L.length z) = some L := by
  rw [forS_forN, forN_iter _ hL]
  obtain ⟨r, e, h1, h2⟩ := iterN_inv (B := fun (i : Nat) (s : List α) => (B (i : Int) s).map (Sum.inl (β := List α))) (D := fun s => s) (fun k (s : List α) => s.length = L.length ∧ ∀ v, v < k → s[v]? = L[v]?) (fun s => s.length = L.length ∧ ∀ v, v < L.length → s[v]? = L[v]?) L.length 0 (List.replicate L.length z) (fun i s _ hi hs => by
    have hx : L[i]? = some L[i] := List.getElem?_eq_getElem (by omega)
    refine .inl ⟨s.set i L[i], by rw [h i _ s hx hs.1]; rfl, by simp [hs.1], fun v hv => ?_⟩
    rw [List.getElem?_set]
    by_cases e : i = v
    · subst e
      rw [if_pos rfl, if_pos (by omega)]
      exact hx.symm
    · rw [if_neg e]
      exact hs.2 v (by omega)) (fun s hs => ⟨hs.1, fun v hv => hs.2 v (by omega)⟩) ⟨by simp, fun v hv => absurd hv (Nat.not_lt_zero _)⟩
  rw [e]
  congr 1
  apply List.ext_getElem?
  intro v
  by_cases hv : v < L.length
  · exact h2 v hv
  · rw [List.getElem?_eq_none (by omega), List.getElem?_eq_none (by omega)]
/-- A comparison of a list with itself. -/
theorem eq_loop {L : List α} (hL : L.length ≤ 9223372036854775807) {B : Int → Unit → Option (Unit ⊕ (Unit ⊕ Bool))} (h : ∀ (i : Nat) x, L[i]? = some x → B (i : Int) () = some (.inl ())) : (forN (L.length : Int) B (fun _ => .inl ()) 0 ()).bind (Sum.elim (fun _ => some true) some) = some true := by
  rw [loop_any hL (fun _ => false) false (fun i x hx => h i x hx)]
  have : L.any (fun _ => false) = false := by simp
  rw [this]
  rfl
/-- A list's elements, marked with numbers from k on, c a piece. -/
def marked (f : Int → α → α) (c : Nat) : Int → List α → List α
  | _, [] => []
  | k, x :: l => f k x :: marked f c (k + c) l
theorem marked_len (f : Int → α → α) (c : Nat) : ∀ (k : Int) (L : List α), (marked f c k L).length = L.length
  | _, [] => rfl
  | k, x :: l => by simp [marked, marked_len f c]
theorem mark_loop {B : Int → Int × List α → Option (Int × List α)} (f : Int → α → α) (c N : Nat) (hN : N ≤ 1000000000000) (hc : c ≤ 1000)
    (h : ∀ (k : Int) (i : Nat) (L : List α) x, 1 ≤ k → k ≤ N → L.length ≤ 1000000000000 → L[i]? = some x → B (i : Int) (k, L) = some (k + c, L.set i (f k x))) :
    ∀ (L P : List α) (k : Int), 1 ≤ k → k + c * L.length ≤ N → P.length + L.length ≤ 1000000000000 → forH (fun (i : Int) (s : Int × List α) => decide (i < (s.2.length : Int))) B (fun s => (s.1, s.2)) (P.length : Int) (k, P ++ L) = some (k + c * L.length, P ++ marked f c k L)
  | [], P, k, _, _, _ => by
    unfold forH
    rw [loop_eq, List.append_nil]
    simp [marked]
  | x :: l, P, k, h1, h2, h3 => by
    have e1 : (P ++ x :: l)[P.length]? = some x := by simp
    have e2 : (P ++ x :: l).set P.length (f k x) = (P ++ [f k x]) ++ l := by simp
    have e5 : (P.length : Int) < ((P ++ x :: l).length : Int) := by simp; omega
    unfold forH
    rw [loop_eq]
    dsimp only
    rw [decide_eq_true e5, cond_true, h k P.length (P ++ x :: l) x h1 (by
      rw [List.length_cons] at h2
      have : (0 : Int) ≤ (c : Int) * ((l.length + 1 : Nat) : Int) := Int.mul_nonneg (by omega) (by omega)
      omega) (by simp; simp at h3; omega) e1, e2, w64_id (n := (P.length : Int) + 1) (by omega) (by simp at h3; omega)]
    have e3 : (P.length : Int) + 1 = ((P ++ [f k x]).length : Int) := by simp
    have e4 : k + (c : Int) * ((x :: l).length : Int) = k + c + c * (l.length : Int) := by
      rw [List.length_cons, Int.natCast_add, Int.mul_add]
      simp
      omega
    rw [e3]
    have := mark_loop f c N hN hc h l (P ++ [f k x]) (k + c) (by omega) (by rw [← e4]; exact h2) (by simp; simp at h3; omega)
    unfold forH at this
    simp only [Option.bind_some]
    rw [this, e4]
    simp [marked]
/-- From the start. -/
theorem mark_loop0 {B : Int → Int × List α → Option (Int × List α)} (f : Int → α → α) (c N : Nat) (hN : N ≤ 1000000000000) (hc : c ≤ 1000) (L : List α) (k : Int) (h1 : 1 ≤ k) (h2 : k + c * L.length ≤ N) (h3 : L.length ≤ 1000000000000)
    (h : ∀ (k : Int) (i : Nat) (L : List α) x, 1 ≤ k → k ≤ N → L.length ≤ 1000000000000 → L[i]? = some x → B (i : Int) (k, L) = some (k + c, L.set i (f k x))) :
    forH (fun (i : Int) (s : Int × List α) => decide (i < (s.2.length : Int))) B (fun s => (s.1, s.2)) 0 (k, L) = some (k + c * L.length, marked f c k L) :=
  mark_loop f c N hN hc h L [] k h1 h2 (by simpa using h3)
/-- The marks are found again. -/
theorem held_loop {L : List α} (f : Int → α → α) (c N : Nat) (hL : L.length ≤ 1000000000000) {B : Int → Int → Option (Int ⊕ (Int ⊕ Int))} (k0 : Int) (hk : 1 ≤ k0) (hN : k0 + c * L.length ≤ N) (h : ∀ (i : Nat) (k : Int) x, 1 ≤ k → k ≤ N → (marked f c k0 L)[i]? = some (f k x) → B (i : Int) k = some (.inl (k + c))) :
    (forN ((marked f c k0 L).length : Int) B (fun s => .inl s) 0 k0).bind (Sum.elim (fun j => some j) some) = some (k0 + c * L.length) := by
  have key : ∀ (M : List α) (P : List α) (j : Int), 1 ≤ j → j + c * M.length ≤ N → marked f c k0 L = P ++ marked f c j M → overI (fun (i : Nat) (_ : α) (s : Int) => B (i : Int) s) (fun s => (.inl s : Int ⊕ Int)) (marked f c j M) P.length j = some (.inl (j + c * M.length)) := by
    intro M
    induction M with
    | nil => intro P j _ _ _; simp [marked, overI]
    | cons x M ih =>
      intro P j h1 h2 h3
      have e4 : j + (c : Int) * ((x :: M).length : Int) = j + c + c * (M.length : Int) := by
        rw [List.length_cons, Int.natCast_add, Int.mul_add]
        simp
        omega
      have hjN : j ≤ N := by
        have : (0 : Int) ≤ (c : Int) * ((x :: M).length : Int) := Int.mul_nonneg (by omega) (by omega)
        omega
      unfold marked overI
      rw [h P.length j x h1 hjN (by rw [h3]; simp [marked]), Option.bind_some, Sum.elim_inl]
      have := ih (P ++ [f j x]) (j + c) (by omega) (by rw [← e4]; exact h2) (by rw [h3]; simp [marked])
      rw [List.length_append, List.length_singleton] at this
      rw [this, e4]
  rw [forN_list (marked f c k0 L) (by rw [marked_len]; omega) B (fun i _ s => B (i : Int) s) _ k0 (fun j x s hx => rfl)]
  have := key L [] k0 hk hN rfl
  rw [List.length_nil] at this
  rw [this]
  rfl
/-- Sizes: where they are not too great, the list is not too long. -/
theorem size_loop {L : List α} (hL : L.length ≤ 9223372036854775807) {B : Int → Int → Option (Int ⊕ (Int ⊕ Int))} (h : ∀ (i : Nat) x (s : Int), L[i]? = some x → 0 ≤ s → s ≤ 1048576 → (∃ s', B (i : Int) s = some (.inl s') ∧ 0 ≤ s' ∧ s' ≤ s) ∨ B (i : Int) s = some (.inr (.inr (-1)))) (l : Int) (h0 : 0 ≤ l) (h1 : l ≤ 1048576) :
    ∃ v, (forN (L.length : Int) B (fun s => .inl s) 0 l).bind (Sum.elim (fun j => some j) some) = some v ∧ (v < 0 ∨ v ≤ l) := by
  rw [forN_list L hL B (fun i x s => B (i : Int) s) _ l (fun j x s hx => rfl)]
  obtain ⟨r, e, hr⟩ := overI_inv (B := fun (i : Nat) (_ : α) (s : Int) => B (i : Int) s) (D := fun s => (.inl s : Int ⊕ Int)) (fun _ s => 0 ≤ s ∧ s ≤ l) (fun r => match r with | .inl v => v ≤ l | .inr v => v < 0) L 0 l (fun i x s _ hx hs => by
    rcases h i x s (by simpa using hx) hs.1 (by omega) with ⟨s', e, h2, h3⟩ | e
    · exact .inl ⟨s', e, h2, by omega⟩
    · exact .inr ⟨_, e, by show (-1 : Int) < 0; omega⟩) (fun s hs => hs.2) ⟨h0, Int.le_refl _⟩
  rw [e]
  cases r with
  | inl v => exact ⟨v, rfl, .inr hr⟩
  | inr v => exact ⟨v, rfl, .inl hr⟩
end
theorem eqInt64S_self (L : List Int) (hL : L.length ≤ 1000000000) : laws_eqInt64S L L = some true := by
  unfold laws_eqInt64S
  rw [bne_self_eq_false, cond_false]
  exact eq_loop (by omega) (fun i x hx => by rw [at_nat, hx]; simp)
theorem markInt64S_at (L : List Int) (k : Int) (h1 : 1 ≤ k) (hk : k + (1 : Nat) * (L.length : Int) ≤ 1000000000000) (hL : L.length ≤ 1000000000) : laws_markInt64S L k = some (k + (1 : Nat) * (L.length : Int), marked (fun k _ => k) 1 k L) := by
  unfold laws_markInt64S
  rw [mark_loop0 (α := Int) (fun k _ => k) 1 1000000000000 (by omega) (by omega) L k h1 hk (by omega) (fun k i L x h1 h2 hl hx => by
    rw [at_nat, hx, w64_id (n := k + 1) (by omega) (by omega)]
    rfl)]
  rfl
theorem markInt64S_eq (L : List Int) (hL : L.length ≤ 1000000000) : laws_markInt64S L 1 = some (1 + (1 : Nat) * (L.length : Int), marked (fun k _ => k) 1 1 L) := markInt64S_at L 1 (by omega) (by omega) hL
theorem heldInt64S_at (L : List Int) (k : Int) (h1 : 1 ≤ k) (hk : k + (1 : Nat) * (L.length : Int) ≤ 1000000000000) (hL : L.length ≤ 1000000000) : laws_heldInt64S (marked (fun k _ => k) 1 k L) k = some (k + (1 : Nat) * (L.length : Int)) := by
  unfold laws_heldInt64S
  exact held_loop (L := L) (fun k _ => k) 1 1000000000000 (by omega) k h1 hk (fun i k x h1 h2 hx => by
    rw [at_nat, hx]
    simp only [Option.bind_some, bne_self_eq_false, cond_false]
    rw [w64_id (by omega) (by omega)]
    rfl)
theorem heldInt64S_eq (L : List Int) (hL : L.length ≤ 1000000000) : laws_heldInt64S (marked (fun k _ => k) 1 1 L) 1 = some (1 + (1 : Nat) * (L.length : Int)) := heldInt64S_at L 1 (by omega) (by omega) hL
theorem markText_ok {k : Int} (h0 : 1 ≤ k) (h1 : k ≤ 1000000000000) : ∃ t, laws_markText k = some t := by
  unfold laws_markText
  rw [decide_eq_false (show ¬ k ≤ 0 by omega), cond_false]
  obtain ⟨r, e, hr⟩ := loop_inv (body := fun (s3 : Int × ByteArray) => (bif (decide (s3.1 > 0)) then ((cat' (strOfNums ([(IntKind.wrap .u8 (w64 (48 + (Int.tmod s3.1 10))))] : List Int)) s3.2).bind fun x5 => some (.inl ((w64 (Int.tdiv s3.1 10)), x5))) else some (.inr s3.2)))
    (fun s => 0 ≤ s.1 ∧ s.1 ≤ 1000000000000 ∧ (s.2.size : Int) + s.1 ≤ 1000000000000) (fun s => s.1.toNat) (fun r : ByteArray => (r.size : Int) ≤ 1000000000000) (fun s hs => by
      obtain ⟨h2, h3, h4⟩ := hs
      by_cases hp : s.1 > 0
      · left
        rw [decide_eq_true hp, cond_true, Int.tdiv_eq_ediv_of_nonneg h2, w64_id (n := s.1 / 10) (by omega) (by omega)]
        unfold cat'
        rw [if_pos (by rw [strOfNums_size]; simp; omega)]
        refine ⟨_, rfl, ?_⟩
        dsimp only
        rw [ByteArray.size_append, strOfNums_size]
        simp
        omega
      · right
        rw [decide_eq_false hp, cond_false]
        exact ⟨_, rfl, by omega⟩) (s := (k, ByteArray.mk #[])) ⟨by dsimp only; omega, h1, by show ((0 : Nat) : Int) + k ≤ _; omega⟩
  rw [e, Option.bind_some]
  unfold cat'
  rw [if_pos (by show 1 + r.size ≤ _; omega)]
  exact ⟨_, rfl⟩
noncomputable def mt (k : Int) : ByteArray := (laws_markText k).getD (ByteArray.mk #[])
theorem markText_eq {k : Int} (h0 : 1 ≤ k) (h1 : k ≤ 1000000000000) : laws_markText k = some (mt k) := by
  obtain ⟨t, h⟩ := markText_ok h0 h1
  unfold mt
  rw [h]
  rfl
end Go.Proofs.YtojhgfkohbfhhaaDoor.Sh
