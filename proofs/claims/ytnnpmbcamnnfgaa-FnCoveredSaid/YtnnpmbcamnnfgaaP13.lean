/- The law FnCovered answers true for every code of bytes; no other condition. -/
import Derived.Test.YtnnpmbcamnnfgaaP12
import Derived.Test.YtnnpmbcamnnfgaaR1
namespace Go.Proofs.Ytnnpmbcamnnfgaa.Sh
open Go.RowKit
theorem find_none (N : Nat) : (List.range N).find? (fun _ => false) = none := by simp
theorem drawCov_ok {c : List Int} (hc : CodeOk c) : ∃ L i p, spec_DrawCoveredBy c = some (L, i, p) ∧ L.length ≤ 8 := by
  unfold spec_DrawCoveredBy
  obtain ⟨s, h1, h2⟩ := from_ok hc
  obtain ⟨L, s1, h3, h4, h5⟩ := draw_ok h2
  have e : w64 ((L.length : Int) + 1) = (L.length : Int) + 1 := w64_id (by omega) (by omega)
  obtain ⟨x, s2, h6, _, _, h7⟩ := next_ok h5 ((L.length : Int) + 1) (by omega)
  obtain ⟨y, s3, h8, _, _, h9⟩ := next_ok h7 24 (by omega)
  obtain ⟨z, s4, h10, _, h11⟩ := pick_ok h9 (l := [0, 1, 2, 3, 4, -1, 0, 2]) (by simp) (by simp)
  simp only [h1, h3, e, h6, h8, h10, Option.bind_some]
  exact ⟨_, _, _, rfl, h4⟩
theorem posOf_mem {L : List Label} {x : Label} {a : Int} (h : a ∈ posOf L x) : 0 ≤ a ∧ a ≤ 3 ∧ allowB L x a = true := by
  unfold posOf at h
  obtain ⟨k, hk, h⟩ := List.mem_flatMap.1 h
  have hk := List.mem_range.1 hk
  cases hb : allowB L x (k : Int)
  · rw [hb] at h; simp at h
  · rw [hb] at h
    simp at h
    subst h
    exact ⟨by omega, by omega, hb⟩
theorem posOf_len (L : List Label) (x : Label) : (posOf L x).length ≤ 4 := flat_le _ 1 (fun i => bif_le' _ _) 4
theorem covP_len {x : Label} (hx : LabIn x) (p : Int) : ((covP x p).length : Int) = x.Length := by
  obtain ⟨h1, h2, h3, h4, h5, h6, h7, h8⟩ := hx
  unfold covP
  rw [List.length_map, List.length_range]
  omega
theorem FnCovered_true (c : List Int) (h : c.length ≤ maxLen ∧ ∀ x ∈ c, okU8 x) : laws_FnCovered c = some true := by
  unfold laws_FnCovered laws_big
  rw [Option.bind_some]
  by_cases hb : (c.length : Int) > 4096
  · rw [decide_eq_true hb, cond_true]
  rw [decide_eq_false hb, cond_false]
  obtain ⟨L, i, p, h1, h2⟩ := drawCov_ok (c := c) ⟨by omega, h.2⟩
  have h3 : spec_DrawAllowedPositions c = some (L, i) := by
    unfold spec_DrawAllowedPositions
    rw [h1]; rfl
  have hL : L.length ≤ 4611686018427387903 := by omega
  simp only [h1, h3, Option.bind_some, impl_coveredBy _ _ _ hL, spec_coveredBy _ _ _ hL, impl_allowedPos _ _ hL, spec_allowedPos _ _ hL]
  have hcl : (covBy L i p).1.length ≤ 4611686018427387903 := by
    unfold covBy
    split
    · rename_i x hx
      cases hc : (labCode L i != 0)
      · cases inB p 0 3
        · simp
        · have := covP_len (labCode_some (i := i) (L := L) (by simpa using hc)).choose_spec.2.2 p
          obtain ⟨y, k1, k2, k3⟩ := labCode_some (i := i) (L := L) (by simpa using hc)
          rw [hx] at k2
          injection k2 with k2
          subst k2
          have := covP_len k3 p
          have k4 := k3.2.2.2.2.2.1
          simp
          omega
      · simp
    · simp
  have hal : (allowP L i).1.length ≤ 4611686018427387903 := by
    unfold allowP
    split
    · cases labCode L i != 0
      · have := posOf_len L (by assumption)
        simp
        omega
      · simp
    · simp
  rw [likePoints_self _ hcl, likeInts_self _ hal]
  simp only [bne_self_eq_false, cond_false, Option.bind_some, Bool.not_true]
  by_cases hc : labCode L i = 0
  · obtain ⟨x, k1, k2, k3⟩ := labCode_some hc
    have hA := labs_all (labCode_zero hc).1
    have ea : allowP L i = (posOf L x, 0) := by unfold allowP; rw [k2, hc]; rfl
    have ec : ∀ q, 0 ≤ q → q ≤ 3 → covBy L i q = (covP x q, 0) := fun q hq hq2 => by
      unfold covBy
      have : inB q 0 3 = true := by unfold inB; simp; omega
      rw [k2, hc, this]; rfl
    rw [ea]
    dsimp only
    rw [loop_search (posOf L x).length (fun _ => false) (fun _ => Sum.inr false) (Sum.inl ()), find_none]
    · dsimp only
      rw [Option.bind_some, Sum.elim_inl]
      cases hp : inB p 0 3
      · have : covBy L i p = ([], 2) := by unfold covBy; rw [k2, hc, hp]; rfl
        rw [this]; rfl
      · have hp' : 0 ≤ p ∧ p ≤ 3 := by unfold inB at hp; simp at hp; omega
        rw [ec p hp'.1 hp'.2, k1]
        simp [covP_len k3 p]
    · intro k hk
      have hm := posOf_mem (List.getElem_mem hk)
      have hpl := posOf_len L x
      simp only [lt_nat hk, beq_self_eq_true, Bool.and_self, cond_true, at_lt hk, Option.bind_some]
      rw [ec _ hm.1 hm.2.1]
      dsimp only
      have hcv := covP_len k3 (posOf L x)[k]
      have k4 := k3.2.2.2.2.2.1
      rw [loop_search (covP x (posOf L x)[k]).length (fun _ => false) (fun _ => Sum.inl ()) (Sum.inl ()), find_none]
      · simp [w64_succ (show k < 4611686018427387904 by omega)]
      · intro j hj
        simp only [lt_nat hj, cond_true]
        rw [loop_search L.length (fun _ => false) (fun _ => Sum.inl ()) (Sum.inl ()), find_none]
        · simp [w64_succ (show j < 4611686018427387904 by omega)]
        · intro m hm2
          simp only [lt_nat hm2, cond_true, at_lt hj, at_lt hm2, Option.bind_some]
          have hne : ((covP x (posOf L x)[k])[j].X == L[m].At.X && (covP x (posOf L x)[k])[j].Y == L[m].At.Y) = false := by
            cases hs : ((covP x (posOf L x)[k])[j].X == L[m].At.X && (covP x (posOf L x)[k])[j].Y == L[m].At.Y) with
            | false => rfl
            | true =>
              exfalso
              simp at hs
              have e : (covP x (posOf L x)[k])[j] = L[m].At := by
                generalize (covP x (posOf L x)[k])[j] = u at *
                generalize L[m].At = v at *
                obtain ⟨u1, u2⟩ := u
                obtain ⟨v1, v2⟩ := v
                simp at hs
                simp [hs]
              have h5 := (mem_cov k3 hm.1 hm.2.1 L[m].At).1 (e ▸ List.getElem_mem hj)
              have h6 := hm.2.2
              unfold allowB at h6
              rw [Bool.not_eq_true', List.any_eq_false] at h6
              exact h6 L[m] (List.getElem_mem hm2) h5
          rw [hne]
          simp [w64_succ (show m < 4611686018427387904 by omega)]
        · simp
      · simp
    · simp
  · have hb2 : (labCode L i != 0) = true := by simpa using hc
    have hb3 : (labCode L i == 0) = false := by simpa using hc
    have ea : allowP L i = ([], labCode L i) := by unfold allowP; split <;> simp [hb2]
    have ec : covBy L i p = ([], labCode L i) := by unfold covBy; split <;> simp [hb2]
    rw [ea, ec]
    dsimp only
    rw [loop_eq]
    simp [hb3]
    rw [hb2]
    rfl
end Go.Proofs.Ytnnpmbcamnnfgaa.Sh
