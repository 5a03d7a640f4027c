/- Copies, comparisons, sizes and marks of lists of structs: the loops of the laws; bounds on lengths alone. -/
import Derived.Test.YtpohkmbkohjahaaGreatDoorL0
namespace Go.Proofs.YtpohkmbkohjahaaGreatDoor.Sh
open Go.RowKit Go.Lib
section
variable {α A : Type}
/-- A copy, element by element. -/
theorem copy_loop {L : List α} (hL : L.length ≤ 9223372036854775807) {B : Int → List α → Option (List α)} {z : α} (h : ∀ (i : Nat) x (s : List α), L[i]? = some x → s.length = L.length → B (i : Int) s = some (s.set i x)) : forS (L.length : Int) B (fun s => s) 0 (List.replicate L.length z) = some L := by
  rw [forS_forN, forN_iter _ hL]
  obtain ⟨r, e, h1, h2⟩ := iterN_inv (B := fun (i : Nat) (s : List α) => (B (i : Int) s).map (Sum.inl (β := List α))) (D := fun s => s) (fun k (s : List α) => s.length = L.length ∧ ∀ v, v < k → s[v]? = L[v]?) (fun s => s.length = L.length ∧ ∀ v, v < L.length → s[v]? = L[v]?) L.length 0 (List.replicate L.length z) (fun i s _ hi hs => by
    have hx : L[i]? = some L[i] := List.getElem?_eq_getElem (by omega)
    refine .inl ⟨s.set i L[i], by rw [h i _ s hx hs.1]; rfl, by simp [hs.1], fun v hv => ?_⟩
    rw [List.getElem?_set]
    by_cases e : i = v
    · subst e
      rw [if_pos rfl, if_pos (by omega)]
      exact hx.symm
    · rw [if_neg e]
      exact hs.2 v (by omega)) (fun s hs => ⟨hs.1, fun v hv => hs.2 v (by omega)⟩) ⟨by simp, fun v hv => absurd hv (Nat.not_lt_zero _)⟩
  rw [e]
  congr 1
  apply List.ext_getElem?
  intro v
  by_cases hv : v < L.length
  · exact h2 v hv
  · rw [List.getElem?_eq_none (by omega), List.getElem?_eq_none (by omega)]
/-- A copy, each element by a function. -/
theorem copy_list {L : List α} (hL : L.length ≤ 1048576) (F : α → Option α) (hF : ∀ x ∈ L, F x = some x) (z : α) : ((make' z (L.length : Int)).bind fun x1 => (((forS (L.length : Int) (fun (i4 : Int) (s4 : List α) => ((at' L i4).bind fun x8 => ((F x8).bind fun x9 => ((at' s4 i4).bind fun _ => some (List.set s4 (Int.toNat i4) x9))))) (fun (s4 : List α) => s4) 0 x1)).bind fun (j2 : List α) => some j2)) = some L := by
  rw [make_ok _ (by omega), Option.bind_some, copy_loop (by omega) (fun i x s hx hs => by
    have hi := (List.getElem?_eq_some_iff.1 hx).1
    rw [at_nat, hx, Option.bind_some, hF x (List.mem_of_getElem? hx), Option.bind_some, at_nat, List.getElem?_eq_getElem (by omega)]
    rfl)]
  rfl
theorem loop_same {L : List α} (hL : L.length ≤ 9223372036854775807) {B : Int → Unit → Option (Unit ⊕ (Unit ⊕ A))} (h : ∀ (i : Nat) x, L[i]? = some x → B (i : Int) () = some (.inl ())) {K : Option A} : (forN (L.length : Int) B (fun _ => .inl ()) 0 ()).bind (Sum.elim (fun _ => K) some) = K := by
  rw [forN_list L hL B (fun _ _ _ => some (.inl ())) _ () (fun j x _ hx => h j x hx)]
  have : ∀ (M : List α) (k : Nat), overI (fun _ _ (_ : Unit) => some (.inl ())) (fun _ => (.inl () : Unit ⊕ A)) M k () = some (.inl ()) := by
    intro M
    induction M with
    | nil => intro k; rfl
    | cons x M ih => intro k; unfold overI; exact ih (k + 1)
  rw [this]
  rfl
/-- A comparison of a list with itself. -/
theorem eq_list {L : List α} (hL : L.length ≤ 1000000000) (F : α → α → Option Bool) (hF : ∀ x ∈ L, F x x = some true) : (bif ((L.length : Int) != (L.length : Int)) then some false else (((forN (L.length : Int) (fun (i3 : Int) (_ : Unit) => ((at' L i3).bind fun x7 => ((at' L i3).bind fun x8 => ((F x7 x8).bind fun x9 => (bif (!x9) then some (.inr (.inr false)) else some (.inl ())))))) (fun (_ : Unit) => .inl ()) 0 ())).bind (Sum.elim (fun (_ : Unit) => some true) some))) = some true := by
  rw [bne_self_eq_false, cond_false]
  exact loop_same (by omega) (fun i x hx => by
    rw [at_nat, hx]
    simp only [Option.bind_some, hF x (List.mem_of_getElem? hx), Bool.not_true, cond_false])
/-- Sizes: what a list takes of what is left. -/
theorem sz_list {L : List α} (hL : L.length ≤ maxLen) (F : α → Int → Option Int) (P : α → Prop) (hF : ∀ x ∈ L, ∀ s, 0 ≤ s → s ≤ 1048576 → ∃ v, F x s = some v ∧ (v < 0 ∨ (0 ≤ v ∧ v ≤ s ∧ P x))) (l : Int) (h0 : 0 ≤ l) (h1 : l ≤ 1048576) :
    ∃ v, (bif (decide ((w64 (l - (L.length : Int))) < 0)) then some (-1) else (((forN (L.length : Int) (fun (i3 : Int) (s3 : Int) => ((at' L i3).bind fun x7 => ((F x7 s3).bind fun x8 => (bif (decide (x8 < 0)) then some (.inr (.inr (-1))) else some (.inl x8))))) (fun (s3 : Int) => .inl s3) 0 (w64 (l - (L.length : Int))))).bind (Sum.elim (fun (j1 : Int) => some j1) some))) = some v ∧ (v < 0 ∨ (0 ≤ v ∧ v ≤ l ∧ (L.length : Int) ≤ l ∧ ∀ x ∈ L, P x)) := by
  unfold maxLen at hL
  rw [w64_id (by omega) (by omega)]
  by_cases h : l - (L.length : Int) < 0
  · rw [decide_eq_true h]
    exact ⟨_, rfl, .inl (by omega)⟩
  · rw [decide_eq_false h, cond_false]
    have key : ∀ (M : List α) (k : Nat) (s : Int), 0 ≤ s → s ≤ 1048576 → (∀ x ∈ M, x ∈ L) → ∃ r, overI (fun _ x (s : Int) => (F x s).bind fun x8 => (bif (decide (x8 < 0)) then some (Sum.inr (Sum.inr (-1))) else some (Sum.inl x8))) (fun s => (.inl s : Int ⊕ Int)) M k s = some r ∧ (match r with | .inl v => 0 ≤ v ∧ v ≤ s ∧ ∀ x ∈ M, P x | .inr v => v < 0) := by
      intro M
      induction M with
      | nil => exact fun k s h0 h1 _ => ⟨_, rfl, h0, Int.le_refl _, by simp⟩
      | cons x M ih =>
        intro k s h0 h1 hM
        obtain ⟨v, e, hv⟩ := hF x (hM x (by simp)) s h0 h1
        unfold overI
        rw [e, Option.bind_some]
        by_cases hn : v < 0
        · rw [decide_eq_true hn]
          exact ⟨_, rfl, by show (-1 : Int) < 0; omega⟩
        · obtain ⟨q1, q2, q3⟩ := hv.resolve_left hn
          rw [decide_eq_false hn, cond_false, Option.bind_some, Sum.elim_inl]
          obtain ⟨r, e2, h2⟩ := ih (k + 1) v q1 (by omega) (fun y hy => hM y (by simp [hy]))
          refine ⟨r, e2, ?_⟩
          cases r with
          | inl v2 => exact ⟨h2.1, by have := h2.2.1; omega, fun y hy => (List.mem_cons.1 hy).elim (fun e => e ▸ q3) (h2.2.2 y)⟩
          | inr v2 => exact h2
    rw [forN_at (A := Int ⊕ Int) L (by omega) (fun (_ : Int) x7 (s3 : Int) => ((F x7 s3).bind fun x8 => (bif (decide (x8 < 0)) then some (Sum.inr (Sum.inr (-1))) else some (Sum.inl x8))))]
    obtain ⟨r, e, hr⟩ := key L 0 (l - (L.length : Int)) (by omega) (by omega) (fun _ h => h)
    rw [e]
    cases r with
    | inl v => exact ⟨v, rfl, .inr ⟨hr.1, by have := hr.2.1; omega, by omega, hr.2.2⟩⟩
    | inr v => exact ⟨v, rfl, .inl hr⟩
/-- A list's elements, marked with numbers from k on, c x for each x. -/
def markV (f : Int → α → α) (c : α → Nat) : Int → List α → List α
  | _, [] => []
  | k, x :: l => f k x :: markV f c (k + c x) l
def sumN (c : α → Nat) : List α → Nat
  | [] => 0
  | x :: l => c x + sumN c l
theorem sumN_le {c : α → Nat} {C : Nat} : ∀ {L : List α}, (∀ x ∈ L, c x ≤ C) → sumN c L ≤ C * L.length
  | [], _ => by simp [sumN]
  | x :: l, h => by
    have h1 := h x (by simp)
    have h2 := sumN_le (L := l) (fun y hy => h y (by simp [hy]))
    rw [List.length_cons, Nat.mul_add, Nat.mul_one]
    unfold sumN
    omega
theorem markV_len (f : Int → α → α) (c : α → Nat) : ∀ (k : Int) (L : List α), (markV f c k L).length = L.length
  | _, [] => rfl
  | k, x :: l => by simp [markV, markV_len f c]
theorem mark_loopV {B : Int → Int × List α → Option (Int × List α)} (f : Int → α → α) (c : α → Nat)
    (h : ∀ (k : Int) (i : Nat) (L : List α) x, 1 ≤ k → k + c x ≤ 1000000000000000 → L.length ≤ 1000000000000000 → L[i]? = some x → B (i : Int) (k, L) = some (k + c x, L.set i (f k x))) :
    ∀ (L P : List α) (k : Int), 1 ≤ k → k + sumN c L ≤ 1000000000000000 → P.length + L.length ≤ 1000000000000000 → forH (fun (i : Int) (s : Int × List α) => decide (i < (s.2.length : Int))) B (fun s => (s.1, s.2)) (P.length : Int) (k, P ++ L) = some (k + sumN c L, P ++ markV f c k L)
  | [], P, k, _, _, _ => by
    unfold forH
    rw [loop_eq, List.append_nil]
    simp [markV, sumN]
  | x :: l, P, k, h1, h2, h3 => by
    have e1 : (P ++ x :: l)[P.length]? = some x := by simp
    have e2 : (P ++ x :: l).set P.length (f k x) = (P ++ [f k x]) ++ l := by simp
    have e5 : (P.length : Int) < ((P ++ x :: l).length : Int) := by simp; omega
    have h2' : k + (c x + sumN c l : Nat) ≤ 1000000000000000 := h2
    unfold forH
    rw [loop_eq]
    dsimp only
    rw [decide_eq_true e5, cond_true, h k P.length (P ++ x :: l) x h1 (by omega) (by simp; simp at h3; omega) e1, e2, w64_id (n := (P.length : Int) + 1) (by omega) (by simp at h3; omega)]
    have e3 : (P.length : Int) + 1 = ((P ++ [f k x]).length : Int) := by simp
    have e4 : k + ((sumN c (x :: l) : Nat) : Int) = k + c x + (sumN c l : Nat) := by
      show k + ((c x + sumN c l : Nat) : Int) = _
      omega
    rw [e3]
    have := mark_loopV f c h l (P ++ [f k x]) (k + c x) (by omega) (by omega) (by simp; simp at h3; omega)
    unfold forH at this
    simp only [Option.bind_some]
    rw [this, e4]
    simp [markV]
theorem mark_list {B : Int → Int × List α → Option (Int × List α)} (f : Int → α → α) (c : α → Nat) (L : List α) (k : Int) (h1 : 1 ≤ k) (h2 : k + sumN c L ≤ 1000000000000000) (h3 : L.length ≤ 1000000000000000)
    (h : ∀ (k : Int) (i : Nat) (L : List α) x, 1 ≤ k → k + c x ≤ 1000000000000000 → L.length ≤ 1000000000000000 → L[i]? = some x → B (i : Int) (k, L) = some (k + c x, L.set i (f k x))) :
    (forH (fun (i : Int) (s : Int × List α) => decide (i < (s.2.length : Int))) B (fun s => (s.1, s.2)) 0 (k, L)).bind (fun (j1 : Int × List α) => some (j1.1, j1.2)) = some (k + sumN c L, markV f c k L) := by
  have := mark_loopV f c h L [] k h1 h2 (by simpa using h3)
  rw [List.length_nil, List.nil_append, List.nil_append] at this
  rw [show (0 : Int) = ((0 : Nat) : Int) from rfl, this]
  rfl
/-- The marks are found again. -/
theorem held_list {L : List α} (f : Int → α → α) (c : α → Nat) (hL : L.length ≤ 1000000000000000) {B : Int → Int → Option (Int ⊕ (Int ⊕ Int))} (k0 : Int) (hk : 1 ≤ k0) (hN : k0 + sumN c L ≤ 1000000000000000) (h : ∀ (i : Nat) (k : Int) x, 1 ≤ k → k + c x ≤ 1000000000000000 → (markV f c k0 L)[i]? = some (f k x) → B (i : Int) k = some (.inl (k + c x))) :
    (forN ((markV f c k0 L).length : Int) B (fun s => .inl s) 0 k0).bind (Sum.elim (fun j => some j) some) = some (k0 + sumN c L) := by
  have key : ∀ (M : List α) (P : List α) (j : Int), 1 ≤ j → j + sumN c M ≤ 1000000000000000 → markV f c k0 L = P ++ markV f c j M → overI (fun (i : Nat) (_ : α) (s : Int) => B (i : Int) s) (fun s => (.inl s : Int ⊕ Int)) (markV f c j M) P.length j = some (.inl (j + sumN c M)) := by
    intro M
    induction M with
    | nil => intro P j _ _ _; simp [markV, overI, sumN]
    | cons x M ih =>
      intro P j h1 h2 h3
      have h2' : j + (c x + sumN c M : Nat) ≤ 1000000000000000 := h2
      have e4 : j + ((sumN c (x :: M) : Nat) : Int) = j + c x + (sumN c M : Nat) := by
        show j + ((c x + sumN c M : Nat) : Int) = _
        omega
      unfold markV overI
      rw [h P.length j x h1 (by omega) (by rw [h3]; simp [markV]), Option.bind_some, Sum.elim_inl]
      have := ih (P ++ [f j x]) (j + c x) (by omega) (by omega) (by rw [h3]; simp [markV])
      rw [List.length_append, List.length_singleton] at this
      rw [this, e4]
  rw [forN_list (markV f c k0 L) (by rw [markV_len]; omega) B (fun i _ s => B (i : Int) s) _ k0 (fun j x s hx => rfl)]
  have := key L [] k0 hk hN rfl
  rw [List.length_nil] at this
  rw [this]
  rfl
end
end Go.Proofs.YtpohkmbkohjahaaGreatDoor.Sh
