/- Places: EndPlace of both; bounds on lengths alone. -/
import Derived.Test.YtpohkmbkohjahaaGreatDoorMPL4
namespace Go.Proofs.YtpohkmbkohjahaaGreatDoor.Sh
open Go.RowKit Go.Lib
/-- A list that is built element by element, beside values that stay. -/
theorem build_list {α β S A : Type} {L : List α} (hL : L.length ≤ 1048576) {B : Int → S → Option S} {D : S → A} (mk : List β → S) (f : α → List β) (hf : ∀ x ∈ L, (f x).length ≤ 1) (h : ∀ (i : Nat) x (s : List β), L[i]? = some x → s.length ≤ 1048576 → B (i : Int) (mk s) = some (mk (s ++ f x))) : forS (L.length : Int) B D 0 (mk []) = some (D (mk (L.flatMap f))) := by
  have key : ∀ (M : List α) (k : Nat) (s : List β), L.drop k = M → k + M.length = L.length → s.length ≤ k → iterN (fun i s => (B (i : Int) s).map .inl) D M.length k (mk s) = some (D (mk (s ++ M.flatMap f))) := by
    intro M
    induction M with
    | nil => intro k s _ _ _; simp [iterN]
    | cons x M ih =>
      intro k s hd hk hs
      have hx : L[k]? = some x := by
        have := List.getElem?_drop (xs := L) (i := k) (j := 0)
        rw [hd] at this
        simpa using this.symm
      have hlt := (List.getElem?_eq_some_iff.1 hx).1
      rw [List.length_cons]
      unfold iterN
      rw [h k x s hx (by omega)]
      show iterN _ D M.length (k + 1) (mk (s ++ f x)) = _
      have hfx := hf x (List.mem_of_getElem? hx)
      rw [ih (k + 1) _ (by rw [← List.drop_drop, hd]; rfl) (by simp at hk; omega) (by rw [List.length_append]; omega), List.flatMap_cons, List.append_assoc]
  rw [forS_forN, forN_iter _ (by omega)]
  exact key L 0 [] rfl (by simp) (by simp)
theorem build_map {α β S A : Type} {L : List α} (hL : L.length ≤ 1048576) {B : Int → S → Option S} {D : S → A} (mk : List β → S) (f : α → β) (h : ∀ (i : Nat) x (s : List β), L[i]? = some x → s.length ≤ 1048576 → B (i : Int) (mk s) = some (mk (s ++ [f x]))) : forS (L.length : Int) B D 0 (mk []) = some (D (mk (L.map f))) := by
  rw [build_list hL mk (fun x => [f x]) (fun _ _ => by simp) h]
  rw [List.map_eq_flatMap]
theorem clone_eq {p : Place} (h : PlR p) : impl_Place_clone p = some p := by
  have hl := h.l
  unfold impl_Place_clone slices_Clone_Name
  rw [if_pos (by omega)]
  rfl
theorem cloneReg_eq {L : List Place} (hL : L.length ≤ 1048576) (h : ∀ x ∈ L, PlR x) : impl_cloneRegister L = some L := by
  unfold impl_cloneRegister
  rw [build_map (S := List Place) hL (fun s => s) (fun x => x) (fun i x s hx hs => by
    rw [at_nat, hx, Option.bind_some, clone_eq (h x (List.mem_of_getElem? hx)), Option.bind_some, app_ok (by simp; omega)]
    rfl), List.map_id']
  rfl
theorem own_eq {L : List Place} (hL : L.length ≤ 1048576) (h : ∀ x ∈ L, PlR x) : spec_l11Own L = some L := by
  unfold spec_l11Own
  rw [build_map (S := List Place) hL (fun s => s) (fun x => x) (fun i x s hx hs => by
    have hl := (h x (List.mem_of_getElem? hx)).l
    rw [at_nat, hx, Option.bind_some, app_ok (by simp; omega), Option.bind_some, app_ok (by simp; omega)]
    rfl), List.map_id']
  rfl
end Go.Proofs.YtpohkmbkohjahaaGreatDoor.Sh
