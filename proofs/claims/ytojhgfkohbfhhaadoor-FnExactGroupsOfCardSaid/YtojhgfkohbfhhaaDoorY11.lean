/- The law FnExactGroupsOf answers true; no condition but the bounds of its arguments' types. -/
import Derived.Test.YtojhgfkohbfhhaaDoorMW10
import Derived.Test.YtojhgfkohbfhhaaDoorQB
namespace Go.Proofs.YtojhgfkohbfhhaaDoor.Sh
open Go.RowKit Go.Lib
theorem eqInt64SS_self (L : List (List Int)) (hL : L.length ≤ 1000000000) (h : ∀ g ∈ L, g.length ≤ 1000000000) : laws_eqInt64SS L L = some true := by
  unfold laws_eqInt64SS
  rw [bne_self_eq_false, cond_false]
  exact loop_same (by omega) (fun i x hx => by
    rw [at_nat, hx, Option.bind_some, Option.bind_some, eqInt64S_self x (h x (List.mem_of_getElem? hx))]
    rfl)
def mk1 (k : Int) (g : List Int) : List Int := marked (fun k _ => k) 1 k g
theorem mark_ls (L : List (List Int)) (hb : 1 + (sumN List.length L : Int) ≤ 1000000000) (hl : L.length ≤ 1000000000) : laws_markInt64SS L 1 = some (1 + (sumN List.length L : Int), markV mk1 List.length 1 L) := by
  unfold laws_markInt64SS
  exact mark_list mk1 List.length L 1 (by omega) hb hl (fun k i L x h1 h2 hl hx => by
    simp only [at_nat, hx, Option.bind_some]
    rw [markInt64S_at x k h1 (by omega) (by omega)]
    have e : k + ((1 : Nat) : Int) * (x.length : Int) = k + (x.length : Int) := by omega
    simp only [Option.bind_some, Int.toNat_natCast, e]
    rfl)
theorem held_ls (L : List (List Int)) (hb : 1 + (sumN List.length L : Int) ≤ 1000000000) (hl : L.length ≤ 1000000000) : laws_heldInt64SS (markV mk1 List.length 1 L) 1 = some (1 + (sumN List.length L : Int)) := by
  unfold laws_heldInt64SS
  exact held_list mk1 List.length hl 1 (by omega) hb (fun i k x h1 h2 hx => by
    simp only [at_nat, hx, Option.bind_some, mk1]
    rw [heldInt64S_at x k h1 (by omega) (by omega)]
    have e : k + ((1 : Nat) : Int) * (x.length : Int) = k + (x.length : Int) := by omega
    rw [e, Option.bind_some, decide_eq_false (by omega)]
    rfl)
theorem FnExactGroupsOf_true (n : Int) (L : List Tie) (_ : okI n) (hL : L.length ≤ maxLen ∧ ∀ x ∈ L, okTie x) : laws_FnExactGroupsOf n L = some true := by
  unfold laws_FnExactGroupsOf
  have hsz : ∀ x ∈ L, x.Reason.size ≤ maxLen := fun x hx => (hL.2 x hx).Reason
  obtain ⟨v, e, h⟩ := szTieS_ok L hL.1 hsz
  rw [e, Option.bind_some]
  by_cases h0 : v < 0
  · rw [decide_eq_true h0]
    rfl
  · have h := h.resolve_left h0
    rw [decide_eq_false h0, cond_false]
    have r1 := groupsOf_val n L hL.1 (tok hL.2)
    have r2 := groupsOf_spec n L hL.1 (tok hL.2)
    have hr : ∃ r : List (List Int) × Int, (bif tiesB n L then (groups n.toNat L, 0) else ([], 1)) = r ∧ r.1.length ≤ 12 ∧ ∀ g ∈ r.1, g.length ≤ 12 := by
      cases hb : tiesB n L
      · exact ⟨_, rfl, by simp, by simp⟩
      · have hn : inB n 1 12 = true := by
          unfold tiesB at hb
          rw [Bool.and_eq_true] at hb
          exact hb.1
        rw [inB_iff] at hn
        refine ⟨_, rfl, ?_, fun g hg => ?_⟩
        · have := groups_len n.toNat L n.toNat
          have h2 : (groups n.toNat L).length ≤ n.toNat := this
          show (groups n.toNat L).length ≤ 12
          omega
        · have := groups_small (n := n.toNat) (L := L) (k := n.toNat) (g := g) hg
          omega
    obtain ⟨r, hr, hr1, hr2⟩ := hr
    rw [hr] at r1 r2
    have hsum : sumN List.length r.1 ≤ 12 * r.1.length := sumN_le (fun x hx => hr2 x hx)
    have d1 : ∀ m : Nat, decide (1 + ((4 : Nat) : Int) * (m : Int) < 0) = false := fun m => decide_eq_false (by omega)
    have d2 : ∀ m : Nat, decide (1 + (m : Int) < 0) = false := fun m => decide_eq_false (by omega)
    simp only [toTieS_eq L h, r1, r2, Option.bind_some, eqTieS_self L (by omega), eqInt64SS_self r.1 (by omega) (fun g hg => by have := hr2 g hg; omega), markTieS_eq L (by omega), mark_ls r.1 (by omega) (by omega), held_ls r.1 (by omega) (by omega), d1, d2]
    simp
end Go.Proofs.YtojhgfkohbfhhaaDoor.Sh
