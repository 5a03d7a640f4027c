/- Plain laws: loops that search, words; no condition but bounds on lengths. -/
import Derived.Test.YtlhllbiikideeaaGA
namespace Go.Proofs.Ytlhllbiikideeaa.Sh
open Go.RowKit Go.Lib
section
variable {α A S : Type}
/-- A loop that leaves where a test holds. -/
theorem loop_any {L : List α} (hL : L.length ≤ 9223372036854775807) {B : Int → Unit → Option (Unit ⊕ (Unit ⊕ A))} (p : α → Bool) (a : A) (h : ∀ (i : Nat) x, L[i]? = some x → B (i : Int) () = bif p x then some (.inr (.inr a)) else some (.inl ())) {K : Option A} :
    (forN (L.length : Int) B (fun _ => .inl ()) 0 ()).bind (Sum.elim (fun _ => K) some) = bif L.any p then some a else K := by
  rw [forN_list L hL B (fun _ x _ => bif p x then some (.inr (.inr a)) else some (.inl ())) _ () (fun j x _ hx => h j x hx), overI_any]
  cases L.any p <;> rfl
theorem loop_first {L : List α} (hL : L.length ≤ 9223372036854775807) {B : Int → Unit → Option (Unit ⊕ (Unit ⊕ A))} (p : Nat → α → Bool) (a : Nat → α → A) (h : ∀ (i : Nat) x, L[i]? = some x → B (i : Int) () = bif p i x then some (.inr (.inr (a i x))) else some (.inl ())) {K : Option A} :
    (forN (L.length : Int) B (fun _ => .inl ()) 0 ()).bind (Sum.elim (fun _ => K) some) = match firstI p a L 0 with | some r => some r | none => K := by
  rw [forN_list L hL B (fun i x _ => bif p i x then some (.inr (.inr (a i x))) else some (.inl ())) _ () (fun j x _ hx => h j x hx), overI_first p (fun i x => Sum.inr (a i x))]
  have : firstI p (fun i x => (Sum.inr (a i x) : Unit ⊕ A)) L 0 = (firstI p a L 0).map .inr := by
    generalize 0 = k
    induction L generalizing k with
    | nil => rfl
    | cons x l ih =>
      unfold firstI
      cases p k x
      · simp only [cond_false]
        clear h
        have : ∀ (M : List α) (k : Nat), firstI p (fun i x => (Sum.inr (a i x) : Unit ⊕ A)) M k = (firstI p a M k).map .inr := by
          intro M
          induction M with
          | nil => intro k; rfl
          | cons y m ih2 =>
            intro k
            unfold firstI
            cases p k y
            · exact ih2 (k + 1)
            · rfl
        exact this l (k + 1)
      · rfl
  rw [this]
  cases firstI p a L 0 <;> rfl
/-- The number of the first element with a property, or -1. -/
def idxP (p : α → Bool) : List α → Int
  | [] => -1
  | x :: l => bif p x then 0 else (let r := idxP p l; bif decide (r < 0) then -1 else r + 1)
theorem idxP_lt (p : α → Bool) : ∀ L : List α, -1 ≤ idxP p L ∧ idxP p L < L.length
  | [] => by simp [idxP]
  | x :: l => by
    have := idxP_lt p l
    unfold idxP
    cases p x
    · simp only [cond_false]
      by_cases h : idxP p l < 0
      · simp [h]; omega
      · simp [h]; omega
    · simp
theorem idxP_any (p : α → Bool) : ∀ L : List α, decide (idxP p L ≥ 0) = L.any p
  | [] => rfl
  | x :: l => by
    have h := idxP_any p l
    have h1 := idxP_lt p l
    unfold idxP
    rw [List.any_cons, ← h]
    cases p x
    · simp only [cond_false, Bool.false_or]
      by_cases h2 : idxP p l < 0
      · simp [h2]
      · simp [h2]
        omega
    · simp
theorem firstI_idx (p : α → Bool) : ∀ (L : List α) (k : Nat), (match firstI (fun _ x => p x) (fun i _ => (i : Int)) L k with | some r => r | none => -1) = bif decide (idxP p L < 0) then -1 else idxP p L + k
  | [], k => rfl
  | x :: l, k => by
    have h := firstI_idx p l (k + 1)
    have h1 := idxP_lt p l
    unfold firstI idxP
    cases p x
    · simp only [cond_false]
      rw [h]
      by_cases h2 : idxP p l < 0
      · simp [h2]
      · simp [h2]
        have h3 : ¬ (idxP p l + 1 < 0) := by omega
        simp [h3]
        omega
    · simp
theorem loop_idx {L : List α} (hL : L.length ≤ 9223372036854775807) {B : Int → Unit → Option (Unit ⊕ (Unit ⊕ Int))} (p : α → Bool) (h : ∀ (i : Nat) x, L[i]? = some x → B (i : Int) () = bif p x then some (.inr (.inr (i : Int))) else some (.inl ())) :
    (forN (L.length : Int) B (fun _ => .inl ()) 0 ()).bind (Sum.elim (fun _ => some (-1)) some) = some (idxP p L) := by
  rw [loop_first hL (fun _ x => p x) (fun i _ => (i : Int)) h]
  have h1 := firstI_idx p L 0
  have h2 := idxP_lt p L
  have h3 : (bif decide (idxP p L < 0) then -1 else idxP p L + ((0 : Nat) : Int)) = idxP p L := by
    by_cases h : idxP p L < 0
    · simp [h]; omega
    · simp [h]
  rw [h3] at h1
  cases hf : firstI (fun _ x => p x) (fun i _ => (i : Int)) L 0 with
  | none => rw [hf] at h1; exact congrArg some h1
  | some r => rw [hf] at h1; exact congrArg some h1
end
def inB (x l h : Int) : Bool := decide (x ≥ l) && decide (x ≤ h)
theorem within_eq (x l h : Int) : impl_within x l h = some (inB x l h) := rfl
theorem l01In_eq (x l h : Int) : spec_l01In x l h = some (inB x l h) := rfl
theorem inB_iff {x l h : Int} : inB x l h = true ↔ l ≤ x ∧ x ≤ h := by unfold inB; simp
end Go.Proofs.Ytlhllbiikideeaa.Sh
