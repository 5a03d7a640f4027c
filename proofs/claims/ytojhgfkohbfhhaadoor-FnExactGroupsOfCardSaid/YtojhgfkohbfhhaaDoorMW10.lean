/- The values of the program's functions of ties, each in closed form; no condition but the bounds of the arguments' types. -/
import Derived.Test.YtojhgfkohbfhhaaDoorMW9
namespace Go.Proofs.YtojhgfkohbfhhaaDoor.Sh
open Go.RowKit Go.Lib
/-- Some tie is refuted. -/
def badB (m : Nat) (L : List Tie) : Bool := L.any (wrongP m L)
theorem bad_ge (m : Nat) (L : List Tie) : decide (idxP (wrongP m L) L ≥ 0) = badB m L := idxP_any _ _
theorem bad_lt (m : Nat) (L : List Tie) : decide (idxP (wrongP m L) L < 0) = !badB m L := idxP_neg _ _
theorem tieCodeB_zero {n : Int} {L : List Tie} {i : Int} (h : tieCodeB n L i = 0) : ∃ m j : Nat, n = m ∧ i = j ∧ j < L.length ∧ TIn m L ∧ L.length ≤ 20 ∧ tiesB n L = true := by
  unfold tieCodeB at h
  cases hb : tiesB n L
  · rw [hb] at h; cases h
  · rw [hb, cond_true] at h
    cases hc : inB i 0 ((L.length : Int) - 1)
    · rw [hc] at h; cases h
    · have hi := inB_iff.1 hc
      obtain ⟨m, rfl, hT, h20⟩ := tiesB_in hb
      obtain ⟨j, rfl⟩ := Int.eq_ofNat_of_zero_le hi.1
      exact ⟨m, j, rfl, rfl, by omega, hT, h20, rfl⟩
theorem groupsOf_val (n : Int) (L : List Tie) (hL : L.length ≤ maxLen) (ht : ∀ t ∈ L, TOk t) : impl_GroupsOf n L = some (bif tiesB n L then (groups n.toNat L, 0) else ([], 1)) := by
  unfold impl_GroupsOf
  rw [impl_areTies n L hL ht, Option.bind_some]
  cases hb : tiesB n L
  · rfl
  · obtain ⟨m, rfl, hT, h20⟩ := tiesB_in hb
    rw [groups_impl hT]
    rfl
theorem groupsOf_spec (n : Int) (L : List Tie) (hL : L.length ≤ maxLen) (ht : ∀ t ∈ L, TOk t) : spec_GroupsOf n L = some (bif tiesB n L then (groups n.toNat L, 0) else ([], 1)) := by
  unfold spec_GroupsOf
  rw [spec_areTies n L hL ht, Option.bind_some]
  cases hb : tiesB n L
  · rfl
  · obtain ⟨m, rfl, hT, h20⟩ := tiesB_in hb
    rw [groups_spec hT]
    rfl
/-- The ties without one are ties. -/
theorem without_ties {n : Int} {L : List Tie} (h : tiesB n L = true) (i : Nat) : tiesB n (without L i) = true := by
  unfold tiesB at h ⊢
  simp only [Bool.and_eq_true, decide_eq_true_eq, List.all_eq_true] at h ⊢
  have := without_len L i
  exact ⟨h.1, by omega, fun t ht => h.2.2 t (without_sub ht)⟩
/-- The reason of a tie plays no part in what is refuted. -/
theorem bad_reason (m : Nat) (L : List Tie) (a b : Int) (q : Bool) (r r' : ByteArray) : badB m (L ++ [Tie.mk a b q r]) = badB m (L ++ [Tie.mk a b q r']) := by
  have hf : farP m (L ++ [Tie.mk a b q r]) = farP m (L ++ [Tie.mk a b q r']) := by
    funext to k
    unfold farP
    congr 1
    funext o k
    rw [List.foldl_append, List.foldl_append]
    rfl
  unfold badB
  rw [List.any_append, List.any_append]
  have hw : wrongP m (L ++ [Tie.mk a b q r]) = wrongP m (L ++ [Tie.mk a b q r']) := by
    funext t
    unfold wrongP
    rw [hf]
  rw [hw]
  rfl
theorem ties_snoc {n : Int} {L : List Tie} {t : Tie} (h : tiesB n L = true) (hl : L.length < 20) (ht : tieB n t = true) : tiesB n (L ++ [t]) = true := by
  unfold tiesB at h ⊢
  simp only [Bool.and_eq_true, decide_eq_true_eq, List.all_eq_true] at h ⊢
  refine ⟨h.1, by simp; omega, fun x hx => ?_⟩
  rcases List.mem_append.1 hx with hx | hx
  · exact h.2.2 x hx
  · rw [List.mem_singleton.1 hx]; exact ht
end Go.Proofs.YtojhgfkohbfhhaaDoor.Sh
