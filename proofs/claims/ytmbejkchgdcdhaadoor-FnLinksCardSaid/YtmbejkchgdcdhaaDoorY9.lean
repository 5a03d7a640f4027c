/- The law FnTies answers true for every code of bytes; no other condition. -/
import Derived.Test.YtmbejkchgdcdhaaDoorD3
import Derived.Test.YtmbejkchgdcdhaaDoorR1
namespace Go.Proofs.YtmbejkchgdcdhaaDoor.Sh
open Go.RowKit Go.Lib
theorem likeTies_self (L : List Tie) (hL : L.length ≤ 1048576) : laws_likeTies L L = some true := by
  unfold laws_likeTies
  rw [bne_self_eq_false, cond_false, loop_any (by omega) (fun _ => false) false (fun i x hx => by
    rw [at_nat, hx]
    simp)]
  have : (L.any fun _ => false) = false := by simp
  rw [this]
  rfl
theorem drawPro_ok {c : List Int} (hc : CodeOk c) : ∃ n L a b, spec_DrawProofOf c = some (n, L, a, b) ∧ (-1 ≤ n ∧ n ≤ 13) ∧ L.length ≤ 21 ∧ (∀ t ∈ L, TOk t) := by
  unfold spec_DrawProofOf
  obtain ⟨s, h1, c1⟩ := from_ok hc
  obtain ⟨n, L, s2, h2, hn, hL, ht, c2⟩ := l31Draw_ok c1
  have hm : 1 ≤ maxI 1 n ∧ maxI 1 n ≤ 13 := by unfold maxI; split <;> omega
  obtain ⟨x3, s3, h3, a3, b3, c3⟩ := next_ok c2 (maxI 1 n) (by omega)
  obtain ⟨x4, s4, h4, a4, b4, c4⟩ := next_ok c3 12 (by omega)
  have hd : 0 ≤ Int.tdiv x4 11 ∧ Int.tdiv x4 11 ≤ 12 := by
    rw [Int.tdiv_eq_ediv_of_nonneg a4]; omega
  have e5 : w64 (maxI 1 n + w64 (Int.tdiv x4 11)) = maxI 1 n + Int.tdiv x4 11 := by
    rw [w64_id (n := Int.tdiv x4 11) (by omega) (by omega), w64_id (by omega) (by omega)]
  obtain ⟨x5, s5, h5, a5, b5, c5⟩ := next_ok c4 (maxI 1 n + Int.tdiv x4 11) (by omega)
  simp only [h1, h2, h3, h4, e5, h5, Option.bind_some]
  exact ⟨_, _, _, _, rfl, hn, hL, ht⟩
theorem drawRem_ok {c : List Int} (hc : CodeOk c) : ∃ n L i, spec_DrawRemoveTie c = some (n, L, i) ∧ (-1 ≤ n ∧ n ≤ 13) ∧ L.length ≤ 21 ∧ (∀ t ∈ L, TOk t) := by
  unfold spec_DrawRemoveTie
  obtain ⟨s, h1, c1⟩ := from_ok hc
  obtain ⟨n, L, s2, h2, hn, hL, ht, c2⟩ := l31Draw_ok c1
  have e3 : w64 ((L.length : Int) + 1) = (L.length : Int) + 1 := w64_id (by omega) (by omega)
  obtain ⟨x3, s3, h3, a3, b3, c3⟩ := next_ok c2 ((L.length : Int) + 1) (by omega)
  obtain ⟨x4, s4, h4, a4, b4, c4⟩ := next_ok c3 24 (by omega)
  simp only [h1, h2, e3, h3, h4, Option.bind_some]
  exact ⟨_, _, _, rfl, hn, hL, ht⟩
theorem drawAdd_ok {c : List Int} (hc : CodeOk c) : ∃ n L t, spec_DrawAddTie c = some (n, L, t) ∧ (-1 ≤ n ∧ n ≤ 13) ∧ L.length ≤ 21 ∧ (∀ t ∈ L, TOk t) ∧ TOk t := by
  unfold spec_DrawAddTie
  obtain ⟨s, h1, c1⟩ := from_ok hc
  obtain ⟨n, L, s2, h2, hn, hL, ht, c2⟩ := l31Draw_ok c1
  obtain ⟨t, s3, h3, ht3, c3⟩ := l31Tie_ok c2 hn
  simp only [h1, h2, h3, Option.bind_some]
  exact ⟨_, _, _, rfl, hn, hL, ht, ht3⟩
theorem drawRef_ok {c : List Int} (hc : CodeOk c) : ∃ n L, spec_DrawRefutation c = some (n, L) ∧ (-1 ≤ n ∧ n ≤ 13) ∧ L.length ≤ 21 ∧ (∀ t ∈ L, TOk t) := by
  unfold spec_DrawRefutation
  obtain ⟨s, h1, c1⟩ := from_ok hc
  obtain ⟨n, L, s2, h2, hn, hL, ht, c2⟩ := l31Draw_ok c1
  simp only [h1, h2, Option.bind_some]
  exact ⟨_, _, rfl, hn, hL, ht⟩
theorem FnTies_true (c : List Int) (h : c.length ≤ maxLen ∧ ∀ x ∈ c, okU8 x) : laws_FnTies c = some true := by
  unfold laws_FnTies laws_big
  rw [Option.bind_some]
  by_cases hb : (c.length : Int) > 4096
  · rw [decide_eq_true hb]
    rfl
  rw [decide_eq_false hb, cond_false]
  have hc : CodeOk c := ⟨by omega, h.2⟩
  obtain ⟨n, L, a, b, e1, hn, hL, ht⟩ := drawPro_ok hc
  obtain ⟨n', L', i, e2, hn', hL', ht'⟩ := drawRem_ok hc
  have e1' : spec_DrawMayBeSame c = some (n, L, a, b) := by unfold spec_DrawMayBeSame; rw [e1]; rfl
  have e2' : spec_DrawSplitsBy c = some (n', L', i) := by unfold spec_DrawSplitsBy; rw [e2]; rfl
  have hLm : L.length ≤ maxLen := by unfold maxLen; omega
  have hLm' : L'.length ≤ maxLen := by unfold maxLen; omega
  obtain ⟨r3, m1, m2⟩ := mayBeSame_eq n L a b hLm ht
  obtain ⟨r6, s1, s2⟩ := splitsBy_eq n' L' i (by omega) ht'
  obtain ⟨r8, q1, q2, q3⟩ := removeTie_eq n' L' i (by omega) ht'
  have v3 := mayBeSame_val n L a b hLm ht
  have v6 := splitsBy_val n' L' i (by omega) ht'
  have v8 := removeTie_val n' L' i (by omega) ht'
  rw [m1] at v3
  rw [s1] at v6
  rw [q1] at v8
  injection v3 with v3
  injection v6 with v6
  injection v8 with v8
  simp only [e1', m1, m2, e2', s1, s2, q1, q2, Option.bind_some, bne_self_eq_false, cond_false, beq_self_eq_true, Bool.not_true, likeTies_self r8.1 (by omega)]
  have part1 : r6.2 = r8.2 ∧ (r6.2 = 0 → impl_GroupsOf n' L' = some (groups n'.toNat L', 0) ∧ impl_GroupsOf n' r8.1 = some (groups n'.toNat (without L' i.toNat), 0) ∧ r6.1 = decide (((groups n'.toNat (without L' i.toNat)).length : Int) > ((groups n'.toNat L').length : Int))) := by
    by_cases h0 : tieCodeB n' L' i = 0
    · obtain ⟨m, j, rfl, rfl, hj, hT, h20, hbt⟩ := tieCodeB_zero h0
      rw [h0] at v6 v8
      simp only [bne_self_eq_false, cond_false] at v6 v8
      subst v6 v8
      refine ⟨rfl, fun _ => ⟨?_, ?_, rfl⟩⟩
      · rw [groupsOf_val _ _ hLm' ht', hbt]; rfl
      · rw [groupsOf_val _ _ (Nat.le_trans (without_len L' _) hLm') (fun t h => ht' t (without_sub h)), without_ties hbt]; rfl
    · have h1 : (tieCodeB n' L' i != 0) = true := by simpa using h0
      rw [h1] at v6 v8
      simp only [cond_true] at v6 v8
      subst v6 v8
      exact ⟨rfl, fun h => absurd h h0⟩
  obtain ⟨p1, p2⟩ := part1
  rw [← p1, bne_self_eq_false, cond_false]
  have part2 : (bif ((r3.2 != 0) || ((a == b) || ((L.length : Int) == 20))) then some true else ((impl_AddTie n L (Tie.mk (minI a b) (maxI a b) true (ByteArray.mk #[120]))).bind fun x17 => some (r3.1 == (x17.2 == 0)))) = some true := by
    by_cases h0 : ¬ r3.2 = 0
    · have : (r3.2 != 0) = true := by simpa using h0
      rw [this]; rfl
    have h0 : r3.2 = 0 := Decidable.of_not_not h0
    by_cases hab : a = b
    · rw [hab]; simp
    by_cases h20 : (L.length : Int) = 20
    · rw [h20]; simp
    have h1 : ((r3.2 != 0) || ((a == b) || ((L.length : Int) == 20))) = false := by simp [h0, hab, h20]
    rw [h1, cond_false]
    have hcode : codeB n L a b = 0 := by
      by_cases hz : codeB n L a b = 0
      · exact hz
      · have h1 : (codeB n L a b != 0) = true := by simpa using hz
        rw [h1, cond_true] at v3
        rw [v3] at h0
        exact absurd h0 hz
    have hbt : tiesB n L = true := by
      cases hb : tiesB n L
      · unfold codeB at hcode
        rw [hb] at hcode
        cases hcode
      · rfl
    obtain ⟨m, u, v, rfl, rfl, rfl, hu, hv, hT, hl20⟩ := codeB_zero hcode
    rw [hcode, bne_self_eq_false, cond_false] at v3
    have hbad : badB (m : Int).toNat L = false := by
      cases hb : badB (m : Int).toNat L
      · rfl
      · rw [hb, cond_true] at v3
        rw [v3] at h0
        cases h0
    rw [hbad, cond_false] at v3
    have hmn : 0 ≤ minI (u : Int) v ∧ minI (u : Int) v < maxI (u : Int) v ∧ maxI (u : Int) v < m := by
      unfold minI maxI
      split <;> split <;> omega
    have hm12 := hT.le
    have ht2 : TOk (Tie.mk (minI (u : Int) v) (maxI (u : Int) v) true (ByteArray.mk #[120])) := ⟨i64_of (l := 0) (h := 13) (by dsimp only; omega) (by dsimp only; omega) (by omega) (by omega), i64_of (l := 0) (h := 13) (by dsimp only; omega) (by dsimp only; omega) (by omega) (by omega), show (ByteArray.mk #[120]).size ≤ maxLen by decide⟩
    have hw : wordB (ByteArray.mk #[120]) = true := by decide
    have htb : tieB m (Tie.mk (minI (u : Int) v) (maxI (u : Int) v) true (ByteArray.mk #[120])) = true := by
      unfold tieB
      simp only [Bool.and_eq_true, decide_eq_true_eq]
      exact ⟨hmn.1, hmn.2.1, hmn.2.2, hw⟩
    rw [addTie_val _ _ _ (by omega) ht ht2, hbt, ties_snoc hbt (by omega) htb, hbad, Option.bind_some, v3, bad_reason (m : Int).toNat L _ _ true (ByteArray.mk #[]) (ByteArray.mk #[120])]
    have hne : ((u : Int) == (v : Int)) = false := by simpa using hab
    rw [hne]
    cases badB (m : Int).toNat (L ++ [Tie.mk (minI (u : Int) v) (maxI (u : Int) v) true (ByteArray.mk #[120])]) <;> rfl
  by_cases h0 : r6.2 = 0
  · obtain ⟨g1, g2, g3⟩ := p2 h0
    have : (r6.2 == 0) = true := by simpa using h0
    rw [this, g1, g2, g3]
    simp only [cond_true, Option.bind_some, bne_self_eq_false, beq_self_eq_true, Bool.not_true, Bool.or_self, cond_false, Sum.elim_inl]
    exact part2
  · have : (r6.2 == 0) = false := by simpa using h0
    rw [this]
    simp only [cond_false, Option.bind_some, Sum.elim_inl]
    exact part2
end Go.Proofs.YtmbejkchgdcdhaaDoor.Sh
