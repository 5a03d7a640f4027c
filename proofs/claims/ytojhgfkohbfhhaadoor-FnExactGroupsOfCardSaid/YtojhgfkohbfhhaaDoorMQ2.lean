/- Copies, comparisons, sizes and marks of ties; bounds on lengths alone. -/
import Derived.Test.YtojhgfkohbfhhaaDoorMQ1
namespace Go.Proofs.YtojhgfkohbfhhaaDoor.Sh
open Go.RowKit Go.Lib
theorem szTieS_ok (L : List Tie) (hL : L.length ≤ maxLen) (hs : ∀ x ∈ L, x.Reason.size ≤ maxLen) : ∃ v, laws_szTieS L 1048576 = some v ∧ (v < 0 ∨ L.length ≤ 1048576) := by
  unfold laws_szTieS
  unfold maxLen at hL hs
  rw [w64_id (by omega) (by omega)]
  by_cases h : (1048576 : Int) - (L.length : Int) < 0
  · rw [decide_eq_true h]
    exact ⟨_, rfl, .inl (by omega)⟩
  · rw [decide_eq_false h, cond_false]
    obtain ⟨v, e, _⟩ := size_loop (L := L) (by omega) (B := fun (i3 : Int) (s3 : Int) => ((at' L i3).bind fun x7 => ((laws_szTie x7 s3).bind fun x8 => (bif (decide (x8 < 0)) then some (.inr (.inr (-1))) else some (.inl x8))))) (fun i x s hx h0 h1 => by
      have h2 := hs x (List.mem_of_getElem? hx)
      rw [at_nat, hx, Option.bind_some]
      unfold laws_szTie
      rw [w64_id (by omega) (by omega)]
      by_cases h3 : s - (x.Reason.size : Int) < 0
      · right
        rw [decide_eq_true h3]
        rfl
      · left
        rw [decide_eq_false h3, cond_false, Option.bind_some, decide_eq_false h3, cond_false]
        exact ⟨_, rfl, by omega, by omega⟩) (1048576 - (L.length : Int)) (by omega) (by omega)
    exact ⟨v, e, .inr (by omega)⟩
theorem toTieS_eq (L : List Tie) (hL : L.length ≤ 1048576) : laws_toTieS L = some L := by
  unfold laws_toTieS
  rw [make_ok _ (by omega), Option.bind_some, copy_loop (by omega) (fun i x s hx hs => by
    have hi := (List.getElem?_eq_some_iff.1 hx).1
    rw [at_nat, hx, Option.bind_some, at_nat, List.getElem?_eq_getElem (by omega)]
    rfl)]
  rfl
theorem eqTie_self (x : Tie) : laws_eqTie x x = some true := by
  unfold laws_eqTie
  simp
theorem eqTieS_self (L : List Tie) (hL : L.length ≤ 1000000000) : laws_eqTieS L L = some true := by
  unfold laws_eqTieS
  rw [bne_self_eq_false, cond_false]
  exact eq_loop (by omega) (fun i x hx => by
    rw [at_nat, hx]
    simp only [Option.bind_some, eqTie_self, Bool.not_true, cond_false])
noncomputable def markTie (k : Int) (_ : Tie) : Tie := Tie.mk k (k + 1) (Int.tmod (k + 2) 3 == 0) (mt (k + 3))
theorem markTieS_eq (L : List Tie) (hL : L.length ≤ 1000000000) : laws_markTieS L 1 = some (1 + (4 : Nat) * (L.length : Int), marked markTie 4 1 L) := by
  unfold laws_markTieS
  rw [mark_loop0 (α := Tie) markTie 4 900000000000 (by omega) (by omega) L 1 (by omega) (by omega) (by omega)]
  · rfl
  · intro k i L x h1 h2 hl hx
    have hi := (List.getElem?_eq_some_iff.1 hx).1
    have e1 : w64 (k + 1) = k + 1 := w64_id (by omega) (by omega)
    have e2 : w64 (k + 1 + 1) = k + 2 := by rw [w64_id (by omega) (by omega)]; omega
    have e3 : w64 (k + 2 + 1) = k + 3 := by rw [w64_id (by omega) (by omega)]; omega
    have e4 : w64 (k + 3 + 1) = k + 4 := by rw [w64_id (by omega) (by omega)]; omega
    have e6 : laws_markText (k + 3) = some (mt (k + 3)) := markText_eq (by omega) (by omega)
    simp only [e6, e1, e2, e3, e4, at_nat, hx, Option.bind_some, Int.toNat_natCast, List.set_set, List.getElem?_set_self hi]
    rfl
end Go.Proofs.YtojhgfkohbfhhaaDoor.Sh
