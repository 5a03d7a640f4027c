/- The values of the program's functions of ties, each in closed form; no condition but the bounds of the arguments' types. -/
import Derived.Test.YtmbejkchgdcdhaaDoorW9
namespace Go.Proofs.YtmbejkchgdcdhaaDoor.Sh
open Go.RowKit Go.Lib
/-- Some tie is refuted. -/
def badB (m : Nat) (L : List Tie) : Bool := L.any (wrongP m L)
theorem bad_ge (m : Nat) (L : List Tie) : decide (idxP (wrongP m L) L ≥ 0) = badB m L := idxP_any _ _
theorem bad_lt (m : Nat) (L : List Tie) : decide (idxP (wrongP m L) L < 0) = !badB m L := idxP_neg _ _
theorem addTie_val (n : Int) (L : List Tie) (t : Tie) (hL : L.length ≤ 1048576) (ht : ∀ t ∈ L, TOk t) (ht2 : TOk t) : impl_AddTie n L t = some (bif tiesB n L && tiesB n (L ++ [t]) then (bif badB n.toNat L then ([], 5) else bif badB n.toNat (L ++ [t]) then ([], 4) else (L ++ [t], 0)) else ([], 1)) := by
  unfold impl_AddTie
  have hL0 : L.length ≤ maxLen := by unfold maxLen; omega
  have e1 : slices_Clone_Tie L = some L := by unfold slices_Clone_Tie; rw [if_pos (by omega)]
  have e3 : app' L [t] = some (L ++ [t]) := app_ok (by simp; omega)
  have hL1 : (L ++ [t]).length ≤ maxLen := by unfold maxLen; simp; omega
  have ht1 : ∀ x ∈ L ++ [t], TOk x := fun x hx => by
    rcases List.mem_append.1 hx with hx | hx
    · exact ht x hx
    · rw [List.mem_singleton.1 hx]; exact ht2
  simp only [e1, e3, Option.bind_some, impl_areTies n L hL0 ht, impl_areTies n _ hL1 ht1]
  cases hb : tiesB n L
  · rfl
  · cases hb2 : tiesB n (L ++ [t])
    · rfl
    · obtain ⟨m, rfl, hT, _⟩ := tiesB_in hb
      obtain ⟨m2, hm2, hT2, h20⟩ := tiesB_in hb2
      have : m2 = m := by omega
      subst this
      simp only [Option.bind_some, Bool.not_true, cond_false, refuted_eq hT, refuted_eq hT2, bad_ge, Int.toNat_natCast]
      cases badB m2 L
      · cases badB m2 (L ++ [t]) <;> rfl
      · rfl
theorem mayBeSame_val (n : Int) (L : List Tie) (a b : Int) (hL : L.length ≤ maxLen) (ht : ∀ t ∈ L, TOk t) : impl_MayBeSame n L a b = some (bif codeB n L a b != 0 then (false, codeB n L a b) else bif badB n.toNat L then (false, 5) else ((a == b) || !badB n.toNat (L ++ [Tie.mk (minI a b) (maxI a b) true (ByteArray.mk #[])]), 0)) := by
  unfold impl_MayBeSame
  rw [code_impl n L a b hL ht]
  simp only [Option.bind_some]
  by_cases hc : codeB n L a b = 0
  · obtain ⟨m, u, v, rfl, rfl, rfl, hu, hv, hT, h20⟩ := codeB_zero hc
    rw [hc, refuted_eq hT]
    simp only [bne_self_eq_false, cond_false, Option.bind_some, bad_ge, Int.toNat_natCast]
    cases badB m L
    · simp only [cond_false, Option.bind_some, Sum.elim_inl]
      cases hab : ((u : Int) == (v : Int))
      · have hne : u ≠ v := by
          rintro rfl
          simp at hab
        have hT2 : TIn m (L ++ [Tie.mk (minI u v) (maxI u v) true (ByteArray.mk #[])]) := by
          refine ⟨hT.pos, hT.le, by simp; omega, fun t ht => ?_⟩
          rcases List.mem_append.1 ht with ht | ht
          · exact hT.all t ht
          · rw [List.mem_singleton.1 ht]
            unfold minI maxI
            dsimp only
            split <;> split <;> omega
        have h68 : L.length ≤ 68719476736 := by omega
        have e1 : slices_Clone_Tie L = some L := by unfold slices_Clone_Tie; rw [if_pos h68]
        rw [e1]
        simp only [cond_false, Option.bind_some]
        rw [app_ok (by simp; omega), Option.bind_some, refuted_eq hT2, Option.bind_some, bad_lt]
        rfl
      · rfl
    · rfl
  · have h1 : (codeB n L a b != 0) = true := by simpa using hc
    simp only [h1, cond_true, Option.bind_some, Sum.elim_inr]
theorem tieCodeB_zero {n : Int} {L : List Tie} {i : Int} (h : tieCodeB n L i = 0) : ∃ m j : Nat, n = m ∧ i = j ∧ j < L.length ∧ TIn m L ∧ L.length ≤ 20 ∧ tiesB n L = true := by
  unfold tieCodeB at h
  cases hb : tiesB n L
  · rw [hb] at h; cases h
  · rw [hb, cond_true] at h
    cases hc : inB i 0 ((L.length : Int) - 1)
    · rw [hc] at h; cases h
    · have hi := inB_iff.1 hc
      obtain ⟨m, rfl, hT, h20⟩ := tiesB_in hb
      obtain ⟨j, rfl⟩ := Int.eq_ofNat_of_zero_le hi.1
      exact ⟨m, j, rfl, rfl, by omega, hT, h20, rfl⟩
theorem removeTie_val (n : Int) (L : List Tie) (i : Int) (hL : L.length ≤ 1048576) (ht : ∀ t ∈ L, TOk t) : impl_RemoveTie n L i = some (bif tieCodeB n L i != 0 then ([], tieCodeB n L i) else (without L i.toNat, 0)) := by
  unfold impl_RemoveTie
  rw [tieCode_eq n L i hL ht, Option.bind_some]
  by_cases hc : tieCodeB n L i = 0
  · obtain ⟨m, j, rfl, rfl, hj, hT, h20, _⟩ := tieCodeB_zero hc
    rw [hc, (less_eq hj (by omega)).1]
    rfl
  · have h1 : (tieCodeB n L i != 0) = true := by simpa using hc
    simp only [h1, cond_true]
theorem splitsBy_val (n : Int) (L : List Tie) (i : Int) (hL : L.length ≤ 1048576) (ht : ∀ t ∈ L, TOk t) : impl_SplitsBy n L i = some (bif tieCodeB n L i != 0 then (false, tieCodeB n L i) else (decide (((groups n.toNat (without L i.toNat)).length : Int) > ((groups n.toNat L).length : Int)), 0)) := by
  unfold impl_SplitsBy
  rw [tieCode_eq n L i hL ht, Option.bind_some]
  by_cases hc : tieCodeB n L i = 0
  · obtain ⟨m, j, rfl, rfl, hj, hT, h20, _⟩ := tieCodeB_zero hc
    rw [hc, (less_eq hj (by omega)).1]
    simp only [bne_self_eq_false, cond_false, Option.bind_some, groups_impl hT, groups_impl (without_in hT j), Int.toNat_natCast]
  · have h1 : (tieCodeB n L i != 0) = true := by simpa using hc
    simp only [h1, cond_true]
theorem groupsOf_val (n : Int) (L : List Tie) (hL : L.length ≤ maxLen) (ht : ∀ t ∈ L, TOk t) : impl_GroupsOf n L = some (bif tiesB n L then (groups n.toNat L, 0) else ([], 1)) := by
  unfold impl_GroupsOf
  rw [impl_areTies n L hL ht, Option.bind_some]
  cases hb : tiesB n L
  · rfl
  · obtain ⟨m, rfl, hT, h20⟩ := tiesB_in hb
    rw [groups_impl hT]
    rfl
theorem groupsOf_spec (n : Int) (L : List Tie) (hL : L.length ≤ maxLen) (ht : ∀ t ∈ L, TOk t) : spec_GroupsOf n L = some (bif tiesB n L then (groups n.toNat L, 0) else ([], 1)) := by
  unfold spec_GroupsOf
  rw [spec_areTies n L hL ht, Option.bind_some]
  cases hb : tiesB n L
  · rfl
  · obtain ⟨m, rfl, hT, h20⟩ := tiesB_in hb
    rw [groups_spec hT]
    rfl
theorem areSound_val (n : Int) (L : List Tie) (hL : L.length ≤ maxLen) (ht : ∀ t ∈ L, TOk t) : impl_AreSound n L = some (bif tiesB n L then (!badB n.toNat L, 0) else (false, 1)) := by
  unfold impl_AreSound
  rw [impl_areTies n L hL ht, Option.bind_some]
  cases hb : tiesB n L
  · rfl
  · obtain ⟨m, rfl, hT, h20⟩ := tiesB_in hb
    rw [refuted_eq hT, Option.bind_some, bad_lt]
    rfl
/-- The ties without one are ties. -/
theorem without_ties {n : Int} {L : List Tie} (h : tiesB n L = true) (i : Nat) : tiesB n (without L i) = true := by
  unfold tiesB at h ⊢
  simp only [Bool.and_eq_true, decide_eq_true_eq, List.all_eq_true] at h ⊢
  have := without_len L i
  exact ⟨h.1, by omega, fun t ht => h.2.2 t (without_sub ht)⟩
/-- The reason of a tie plays no part in what is refuted. -/
theorem bad_reason (m : Nat) (L : List Tie) (a b : Int) (q : Bool) (r r' : ByteArray) : badB m (L ++ [Tie.mk a b q r]) = badB m (L ++ [Tie.mk a b q r']) := by
  have hf : farP m (L ++ [Tie.mk a b q r]) = farP m (L ++ [Tie.mk a b q r']) := by
    funext to k
    unfold farP
    congr 1
    funext o k
    rw [List.foldl_append, List.foldl_append]
    rfl
  unfold badB
  rw [List.any_append, List.any_append]
  have hw : wrongP m (L ++ [Tie.mk a b q r]) = wrongP m (L ++ [Tie.mk a b q r']) := by
    funext t
    unfold wrongP
    rw [hf]
  rw [hw]
  rfl
theorem ties_snoc {n : Int} {L : List Tie} {t : Tie} (h : tiesB n L = true) (hl : L.length < 20) (ht : tieB n t = true) : tiesB n (L ++ [t]) = true := by
  unfold tiesB at h ⊢
  simp only [Bool.and_eq_true, decide_eq_true_eq, List.all_eq_true] at h ⊢
  refine ⟨h.1, by simp; omega, fun x hx => ?_⟩
  rcases List.mem_append.1 hx with hx | hx
  · exact h.2.2 x hx
  · rw [List.mem_singleton.1 hx]; exact ht
end Go.Proofs.YtmbejkchgdcdhaaDoor.Sh
