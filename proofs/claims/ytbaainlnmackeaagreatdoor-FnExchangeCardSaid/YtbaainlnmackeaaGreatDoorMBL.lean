/- Lists that loops build; no condition but a bound on the length. -/
import Derived.Test.YtbaainlnmackeaaGreatDoorL0
namespace Go.Proofs.YtbaainlnmackeaaGreatDoor.Sh
open Go.RowKit
/-- A list that is built element by element, beside values that stay. -/
theorem build_list {α β S A : Type} {L : List α} (hL : L.length ≤ 1048576) {B : Int → S → Option S} {D : S → A} (mk : List β → S) (f : α → List β) (hf : ∀ x ∈ L, (f x).length ≤ 1) (h : ∀ (i : Nat) x (s : List β), L[i]? = some x → s.length ≤ 1048576 → B (i : Int) (mk s) = some (mk (s ++ f x))) : forS (L.length : Int) B D 0 (mk []) = some (D (mk (L.flatMap f))) := by
  have key : ∀ (M : List α) (k : Nat) (s : List β), L.drop k = M → k + M.length = L.length → s.length ≤ k → iterN (fun i s => (B (i : Int) s).map .inl) D M.length k (mk s) = some (D (mk (s ++ M.flatMap f))) := by
    intro M
    induction M with
    | nil => intro k s _ _ _; simp [iterN]
    | cons x M ih =>
      intro k s hd hk hs
      have hx : L[k]? = some x := by
        have := List.getElem?_drop (xs := L) (i := k) (j := 0)
        rw [hd] at this
        simpa using this.symm
      have hlt := (List.getElem?_eq_some_iff.1 hx).1
      rw [List.length_cons]
      unfold iterN
      rw [h k x s hx (by omega)]
      show iterN _ D M.length (k + 1) (mk (s ++ f x)) = _
      have hfx := hf x (List.mem_of_getElem? hx)
      rw [ih (k + 1) _ (by rw [← List.drop_drop, hd]; rfl) (by simp at hk; omega) (by rw [List.length_append]; omega), List.flatMap_cons, List.append_assoc]
  rw [forS_forN, forN_iter _ (by omega)]
  exact key L 0 [] rfl (by simp) (by simp)
theorem build_map {α β S A : Type} {L : List α} (hL : L.length ≤ 1048576) {B : Int → S → Option S} {D : S → A} (mk : List β → S) (f : α → β) (h : ∀ (i : Nat) x (s : List β), L[i]? = some x → s.length ≤ 1048576 → B (i : Int) (mk s) = some (mk (s ++ [f x]))) : forS (L.length : Int) B D 0 (mk []) = some (D (mk (L.map f))) := by
  rw [build_list hL mk (fun x => [f x]) (fun _ _ => by simp) h]
  rw [List.map_eq_flatMap]
end Go.Proofs.YtbaainlnmackeaaGreatDoor.Sh
