/- Copies, comparisons, sizes and marks of lists of structs: the loops of the laws; bounds on lengths alone. -/
import Derived.Test.YtbaainlnmackeaaGreatDoorL0
namespace Go.Proofs.YtbaainlnmackeaaGreatDoor.Sh
open Go.RowKit Go.Lib
section
variable {α A : Type}
theorem loop_same {L : List α} (hL : L.length ≤ 9223372036854775807) {B : Int → Unit → Option (Unit ⊕ (Unit ⊕ A))} (h : ∀ (i : Nat) x, L[i]? = some x → B (i : Int) () = some (.inl ())) {K : Option A} : (forN (L.length : Int) B (fun _ => .inl ()) 0 ()).bind (Sum.elim (fun _ => K) some) = K := by
  rw [forN_list L hL B (fun _ _ _ => some (.inl ())) _ () (fun j x _ hx => h j x hx)]
  have : ∀ (M : List α) (k : Nat), overI (fun _ _ (_ : Unit) => some (.inl ())) (fun _ => (.inl () : Unit ⊕ A)) M k () = some (.inl ()) := by
    intro M
    induction M with
    | nil => intro k; rfl
    | cons x M ih => intro k; unfold overI; exact ih (k + 1)
  rw [this]
  rfl
end
end Go.Proofs.YtbaainlnmackeaaGreatDoor.Sh
