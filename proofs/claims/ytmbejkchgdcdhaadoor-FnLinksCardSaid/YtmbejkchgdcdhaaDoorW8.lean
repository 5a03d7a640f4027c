/- The program's functions on ties return what the reference's return; no condition but the bounds of the arguments' types. -/
import Derived.Test.YtmbejkchgdcdhaaDoorW7
import Derived.Test.YtmbejkchgdcdhaaDoorQ2
import Derived.Test.YtmbejkchgdcdhaaDoorR2
namespace Go.Proofs.YtmbejkchgdcdhaaDoor.Sh
open Go.RowKit Go.Lib
theorem tok {L : List Tie} (h : ∀ x ∈ L, okTie x) : ∀ t ∈ L, TOk t := fun t ht => ⟨(h t ht).A, (h t ht).B, (h t ht).Reason⟩
theorem areWithin_eq (l h : Int) (M : List Int) (hM : M.length ≤ maxLen) : impl_areWithin M l h = some (M.all fun x => inB x l h) := by
  unfold impl_areWithin
  rw [loop_any (len63 hM) (fun x => !inB x l h) false (fun i x hx => by rw [at_nat, hx]; rfl), ← List.not_all_eq_any_not]
  cases M.all fun x => inB x l h <;> rfl
/-- The reference's code of ties and two records. -/
def codeB (n : Int) (L : List Tie) (a b : Int) : Int := bif tiesB n L then (bif inB a 0 (n - 1) && inB b 0 (n - 1) then 0 else 2) else 1
theorem tiesB_n {n : Int} {L : List Tie} (h : tiesB n L = true) : 1 ≤ n ∧ n ≤ 12 := by
  unfold tiesB at h
  rw [Bool.and_eq_true] at h
  exact inB_iff.1 h.1
theorem code_impl (n : Int) (L : List Tie) (a b : Int) (hL : L.length ≤ maxLen) (ht : ∀ t ∈ L, TOk t) : impl_recordCode n L [a, b] = some (codeB n L a b) := by
  unfold impl_recordCode codeB
  rw [impl_areTies n L hL ht, Option.bind_some]
  cases hb : tiesB n L
  · rfl
  · have := tiesB_n hb
    rw [w64_id (by omega) (by omega), areWithin_eq _ _ _ (by simp [maxLen])]
    simp only [List.all_cons, List.all_nil, Bool.and_true]
    cases inB a 0 (n - 1) && inB b 0 (n - 1) <;> rfl
theorem code_spec (n : Int) (L : List Tie) (a b : Int) (hL : L.length ≤ maxLen) (ht : ∀ t ∈ L, TOk t) : spec_l31Code n L a b = some (codeB n L a b) := by
  unfold spec_l31Code codeB
  rw [spec_areTies n L hL ht, Option.bind_some]
  cases hb : tiesB n L
  · rfl
  · have := tiesB_n hb
    rw [w64_id (by omega) (by omega), l01In_eq, l01In_eq]
    cases inB a 0 (n - 1) <;> cases inB b 0 (n - 1) <;> rfl
theorem codeB_zero {n : Int} {L : List Tie} {a b : Int} (h : codeB n L a b = 0) : ∃ m u v : Nat, n = m ∧ a = u ∧ b = v ∧ u < m ∧ v < m ∧ TIn m L ∧ L.length ≤ 20 := by
  unfold codeB at h
  cases hb : tiesB n L
  · rw [hb] at h; cases h
  · rw [hb] at h
    obtain ⟨m, rfl, hT, h20⟩ := tiesB_in hb
    cases hc : inB a 0 ((m : Int) - 1) && inB b 0 ((m : Int) - 1)
    · rw [hc] at h; cases h
    · rw [Bool.and_eq_true] at hc
      have h1 := inB_iff.1 hc.1
      have h2 := inB_iff.1 hc.2
      exact ⟨m, a.toNat, b.toNat, rfl, by omega, by omega, by omega, by omega, hT, h20⟩
theorem areSound_eq (n : Int) (L : List Tie) (hL : L.length ≤ maxLen) (ht : ∀ t ∈ L, TOk t) : ∃ r, impl_AreSound n L = some r ∧ spec_AreSound n L = some r := by
  unfold impl_AreSound spec_AreSound
  rw [impl_areTies n L hL ht, spec_areTies n L hL ht]
  cases hb : tiesB n L
  · exact ⟨_, rfl, rfl⟩
  · obtain ⟨m, rfl, hT, _⟩ := tiesB_in hb
    simp only [Option.bind_some, Bool.not_true, cond_false, refuted_eq hT, wrong_eq hT]
    exact ⟨_, rfl, rfl⟩
theorem mayBeSame_eq (n : Int) (L : List Tie) (a b : Int) (hL : L.length ≤ maxLen) (ht : ∀ t ∈ L, TOk t) : ∃ r, impl_MayBeSame n L a b = some r ∧ spec_MayBeSame n L a b = some r := by
  unfold impl_MayBeSame spec_MayBeSame
  rw [code_impl n L a b hL ht, code_spec n L a b hL ht]
  simp only [Option.bind_some]
  by_cases hc : codeB n L a b = 0
  · obtain ⟨m, u, v, rfl, rfl, rfl, hu, hv, hT, h20⟩ := codeB_zero hc
    rw [hc, refuted_eq hT, wrong_eq hT]
    simp only [bne_self_eq_false, beq_self_eq_true, cond_true, cond_false, Option.bind_some]
    cases decide (idxP (wrongP m L) L ≥ 0)
    · simp only [cond_false, Option.bind_some, Sum.elim_inl, bne_self_eq_false]
      cases hab : ((u : Int) == (v : Int))
      · have hne : u ≠ v := by
          rintro rfl
          simp at hab
        have hT2 : TIn m (L ++ [Tie.mk (minI u v) (maxI u v) true (ByteArray.mk #[])]) := by
          refine ⟨hT.pos, hT.le, by simp; omega, fun t ht => ?_⟩
          rcases List.mem_append.1 ht with ht | ht
          · exact hT.all t ht
          · rw [List.mem_singleton.1 ht]
            unfold minI maxI
            dsimp only
            split <;> split <;> omega
        have h68 : L.length ≤ 68719476736 := by omega
        have e1 : slices_Clone_Tie L = some L := by unfold slices_Clone_Tie; rw [if_pos h68]
        have e2 : app' ([] : List Tie) L = some L := by rw [app_ok (by simp; omega)]; rfl
        rw [e1, e2]
        simp only [cond_false, Option.bind_some]
        rw [app_ok (by simp; omega), Option.bind_some, Option.bind_some, refuted_eq hT2, wrong_eq hT2]
        exact ⟨_, rfl, rfl⟩
      · exact ⟨_, rfl, rfl⟩
    · exact ⟨_, rfl, rfl⟩
  · have h1 : (codeB n L a b != 0) = true := by simpa using hc
    have h2 : (codeB n L a b == 0) = false := by simpa using hc
    simp only [h1, h2, cond_true, cond_false, Option.bind_some, Sum.elim_inr]
    exact ⟨_, rfl, rfl⟩
theorem proofOf_eq (n : Int) (L : List Tie) (a b : Int) (hL : L.length ≤ maxLen) (ht : ∀ t ∈ L, TOk t) : ∃ r, impl_ProofOf n L a b = some r ∧ spec_ProofOf n L a b = some r ∧ r.1.length ≤ 100 := by
  unfold impl_ProofOf spec_ProofOf
  rw [code_impl n L a b hL ht, code_spec n L a b hL ht]
  simp only [Option.bind_some]
  by_cases hc : codeB n L a b = 0
  · obtain ⟨m, u, v, rfl, rfl, rfl, hu, hv, hT, h20⟩ := codeB_zero hc
    have hdu := farP_dist hT hu
    have hdv := farP_dist hT hv
    rw [hc, far_eq hT hv, group_eq hT hu hdu]
    have hlen := fl_len (rch (farP m L u m)) m
    have hm := hT.le
    simp only [bne_self_eq_false, beq_self_eq_true, cond_true, cond_false, Option.bind_some]
    rw [gv_at (by omega) (by rw [hdv.len]; simpa using hu), l01Has_eq _ _ (by unfold maxLen; omega), fl_any, decide_eq_true hv]
    simp only [Option.bind_some, Int.toNat_natCast, Bool.true_and]
    by_cases hr : 0 ≤ gv (farP m L v m) u
    · have h1 : rch (farP m L u m) v = true := decide_eq_true (hdv.reach hT hdu hu hr)
      obtain ⟨r, r1, r2, r3⟩ := proofs_eq hT hu hv hdv (far_eq hT hv) hr
      rw [h1, decide_eq_false (by omega)]
      simp only [Bool.not_true, cond_false, Option.bind_some, Sum.elim_inl, bne_self_eq_false, r1, r2]
      exact ⟨_, rfl, rfl, r3⟩
    · have h1 : rch (farP m L u m) v = false := decide_eq_false fun h => hr (hdu.reach hT hdv hv h)
      rw [h1, decide_eq_true (by omega)]
      exact ⟨_, rfl, rfl, by simp⟩
  · have h1 : (codeB n L a b != 0) = true := by simpa using hc
    have h2 : (codeB n L a b == 0) = false := by simpa using hc
    simp only [h1, h2, cond_true, cond_false, Option.bind_some, Sum.elim_inr]
    exact ⟨_, rfl, rfl, by simp⟩
theorem refutation_eq (n : Int) (L : List Tie) (hL : L.length ≤ maxLen) (ht : ∀ t ∈ L, TOk t) : ∃ r, impl_Refutation n L = some r ∧ spec_Refutation n L = some r ∧ r.2.1.length ≤ 100 := by
  unfold impl_Refutation spec_Refutation
  rw [impl_areTies n L hL ht, spec_areTies n L hL ht]
  cases hb : tiesB n L
  · exact ⟨_, rfl, rfl, by simp⟩
  · obtain ⟨m, rfl, hT, _⟩ := tiesB_in hb
    simp only [Option.bind_some, Bool.not_true, cond_false, refuted_eq hT, wrong_eq hT]
    have hlt := idxP_lt (wrongP m L) L
    by_cases h0 : idxP (wrongP m L) L < 0
    · rw [decide_eq_true h0]
      exact ⟨_, rfl, rfl, by simp⟩
    · obtain ⟨i, hi⟩ := Int.eq_ofNat_of_zero_le (show 0 ≤ idxP (wrongP m L) L by omega)
      obtain ⟨t, ht, hw⟩ := idxP_get (wrongP m L) hi
      rw [decide_eq_false h0, cond_false, cond_false, hi, at_nat, ht]
      have hr := hT.rng (List.mem_of_getElem? ht)
      unfold wrongP at hw
      rw [Bool.and_eq_true] at hw
      have hre : 0 ≤ gv (farP m L t.A.toNat m) t.B.toNat := of_decide_eq_true hw.2
      have hdA := farP_dist hT hr.1
      have hdB := farP_dist hT hr.2.1
      obtain ⟨r, r1, r2, r3⟩ := proofs_eq hT hr.1 hr.2.1 hdB (far_eq hT hr.2.1) (hdA.reach hT hdB hr.2.1 hre)
      rw [hr.2.2.2.1, hr.2.2.2.2] at r1 r2
      simp only [Option.bind_some, r1, r2]
      exact ⟨_, rfl, rfl, r3⟩
theorem addTie_eq (n : Int) (L : List Tie) (t : Tie) (hL : L.length ≤ 1048576) (ht : ∀ t ∈ L, TOk t) (ht2 : TOk t) : ∃ r, impl_AddTie n L t = some r ∧ spec_AddTie n L t = some r ∧ r.1.length ≤ 100 := by
  unfold impl_AddTie spec_AddTie
  have hL0 : L.length ≤ maxLen := by unfold maxLen; omega
  have e1 : slices_Clone_Tie L = some L := by unfold slices_Clone_Tie; rw [if_pos (by omega)]
  have e2 : app' ([] : List Tie) L = some L := by rw [app_ok (by simp; omega)]; rfl
  have e3 : app' L [t] = some (L ++ [t]) := app_ok (by simp; omega)
  have hL1 : (L ++ [t]).length ≤ maxLen := by unfold maxLen; simp; omega
  have ht1 : ∀ x ∈ L ++ [t], TOk x := fun x hx => by
    rcases List.mem_append.1 hx with hx | hx
    · exact ht x hx
    · rw [List.mem_singleton.1 hx]; exact ht2
  simp only [e1, e2, e3, Option.bind_some, impl_areTies n L hL0 ht, spec_areTies n L hL0 ht, impl_areTies n _ hL1 ht1, spec_areTies n _ hL1 ht1]
  cases hb : tiesB n L
  · exact ⟨_, rfl, rfl, by simp⟩
  · cases hb2 : tiesB n (L ++ [t])
    · exact ⟨_, rfl, rfl, by simp⟩
    · obtain ⟨m, rfl, hT, _⟩ := tiesB_in hb
      obtain ⟨m2, hm2, hT2, h20⟩ := tiesB_in hb2
      have : m2 = m := by omega
      subst this
      simp only [Option.bind_some, Bool.not_true, cond_false, refuted_eq hT, wrong_eq hT, refuted_eq hT2, wrong_eq hT2]
      cases decide (idxP (wrongP m2 L) L ≥ 0)
      · cases decide (idxP (wrongP m2 (L ++ [t])) (L ++ [t]) ≥ 0)
        · exact ⟨_, rfl, rfl, by simp at h20 ⊢; omega⟩
        · exact ⟨_, rfl, rfl, by simp⟩
      · exact ⟨_, rfl, rfl, by simp⟩
end Go.Proofs.YtmbejkchgdcdhaaDoor.Sh
