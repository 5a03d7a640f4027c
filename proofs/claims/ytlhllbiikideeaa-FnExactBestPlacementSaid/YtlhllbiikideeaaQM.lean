/- Sizes, copies, comparisons and marks of the laws' types; bounds on lengths alone. -/
import Derived.Test.YtlhllbiikideeaaQA
import Derived.Test.YtlhllbiikideeaaRD
namespace Go.Proofs.Ytlhllbiikideeaa.Sh
open Go.RowKit Go.Lib
structure smLabel (x : Label) : Prop where
  t : True
theorem toPoint_eq (x : Point) : laws_toPoint x = some x := by
  unfold laws_toPoint
  rfl
theorem eqPoint_self (x : Point) : laws_eqPoint x x = some true := by
  unfold laws_eqPoint
  simp
theorem toLabel_eq (x : Label) : laws_toLabel x = some x := by
  unfold laws_toLabel
  simp only [toPoint_eq x.At, Option.bind_some]
theorem eqLabel_self (x : Label) : laws_eqLabel x x = some true := by
  unfold laws_eqLabel
  simp [eqPoint_self x.At]
noncomputable def fLabel (k : Int) (_ : Label) : Label := Label.mk (Point.mk k (k + 1)) (k + 2) (k + 3)
abbrev cLabel : Label → Nat := fun _ => 4
theorem markLabelS_eq (L : List Label) (k : Int) (h1 : 1 ≤ k) (h2 : k + sumN cLabel L ≤ 1000000000000000) (h3 : L.length ≤ 1000000000000000) : laws_markLabelS L k = some (k + sumN cLabel L, markV fLabel cLabel k L) := by
  unfold laws_markLabelS
  refine mark_list fLabel cLabel L k h1 h2 h3 fun k i L x h1 h2 hl hx => ?_
  have h2' : k + (4 : Nat) ≤ 1000000000000000 := h2
  have hi := (List.getElem?_eq_some_iff.1 hx).1
  have e1 : w64 (k + 1) = k + 1 := w64_id (by omega) (by omega)
  have e2 : w64 (k + 1 + 1) = k + 2 := by rw [w64_id (by omega) (by omega)]; omega
  have e3 : w64 (k + 2 + 1) = k + 3 := by rw [w64_id (by omega) (by omega)]; omega
  have e4 : w64 (k + 3 + 1) = k + 4 := by rw [w64_id (by omega) (by omega)]; omega
  simp only [e1, e2, e3, e4, at_nat, hx, Option.bind_some, Int.toNat_natCast, List.set_set, List.getElem?_set_self hi]
  rfl
theorem sumLabel_small (L : List Label) (hl : L.length ≤ 1048576) (_ : ∀ x ∈ L, smLabel x) : sumN cLabel L ≤ 10000000000000 := by
  have h1 := sumN_le (c := cLabel) (C := 4) (L := L) (fun _ _ => Nat.le_refl _)
  omega
theorem szLabelS_ok (L : List Label) (hL : L.length ≤ maxLen ∧ ∀ x ∈ L, okLabel x) (l : Int) (h0 : 0 ≤ l) (h1 : l ≤ 1048576) : ∃ v, laws_szLabelS L l = some v ∧ (v < 0 ∨ (0 ≤ v ∧ v ≤ l ∧ (L.length : Int) ≤ l ∧ ∀ x ∈ L, smLabel x)) := by
  unfold laws_szLabelS
  have hl := hL.1
  unfold maxLen at hl
  rw [w64_id (by omega) (by omega)]
  by_cases h : l - (L.length : Int) < 0
  · rw [decide_eq_true h]
    exact ⟨_, rfl, .inl (by omega)⟩
  · rw [decide_eq_false h, cond_false]
    exact ⟨_, rfl, .inr ⟨by omega, by omega, by omega, fun _ _ => ⟨trivial⟩⟩⟩
theorem toLabelS_eq (L : List Label) (hL : L.length ≤ 1048576) : laws_toLabelS L = some L := by
  unfold laws_toLabelS
  exact copy_list hL laws_toLabel (fun x _ => toLabel_eq x) _
theorem eqLabelS_self (L : List Label) (hL : L.length ≤ 1000000000) : laws_eqLabelS L L = some true := by
  unfold laws_eqLabelS
  exact eq_list hL laws_eqLabel (fun x _ => eqLabel_self x)
theorem markInt64S_eq (L : List Int) (k : Int) (h1 : 1 ≤ k) (h2 : k + sumN cInt L ≤ 1000000000000000) (h3 : L.length ≤ 1000000000000000) : laws_markInt64S L k = some (k + sumN cInt L, markV fInt cInt k L) := by
  unfold laws_markInt64S
  refine mark_list fInt cInt L k h1 h2 h3 fun k i L x h1 h2 hl hx => ?_
  have h2' : k + (1 : Nat) ≤ 1000000000000000 := h2
  rw [at_nat, hx, w64_id (n := k + 1) (by omega) (by omega)]
  rfl
theorem heldInt64S_eq (L : List Int) (k : Int) (h1 : 1 ≤ k) (h2 : k + sumN cInt L ≤ 1000000000000000) (h3 : L.length ≤ 1000000000000000) : laws_heldInt64S (markV fInt cInt k L) k = some (k + sumN cInt L) := by
  unfold laws_heldInt64S
  refine held_list fInt cInt h3 k h1 h2 fun i k x h1 h2 hx => ?_
  have h2' : k + (1 : Nat) ≤ 1000000000000000 := h2
  rw [at_nat, hx]
  simp only [Option.bind_some, bne_self_eq_false, cond_false]
  rw [w64_id (by omega) (by omega)]
  rfl
theorem eqInt64S_self (L : List Int) (hL : L.length ≤ 1000000000) : laws_eqInt64S L L = some true := by
  unfold laws_eqInt64S
  rw [bne_self_eq_false, cond_false]
  exact loop_same (by omega) (fun i x hx => by rw [at_nat, hx]; simp)
end Go.Proofs.Ytlhllbiikideeaa.Sh
