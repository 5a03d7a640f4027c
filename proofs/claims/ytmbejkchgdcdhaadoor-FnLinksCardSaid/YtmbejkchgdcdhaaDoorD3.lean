/- The draws of ties come to an answer; no condition but a short code. Needs GD and F1 (l31Tie, l31Draw). -/
import Derived.Test.YtmbejkchgdcdhaaDoorD2
import Derived.Test.YtmbejkchgdcdhaaDoorW10
import Derived.Test.YtmbejkchgdcdhaaDoorF1
namespace Go.Proofs.YtmbejkchgdcdhaaDoor.Sh
open Go.RowKit Go.Lib
theorem i64_of {n l h : Int} (h1 : l ≤ n) (h2 : n ≤ h) (h3 : -9223372036854775808 ≤ l) (h4 : h < 9223372036854775808) : i64 n := by unfold i64; omega
theorem l31Tie_ok {s : l01Source} (hs : SrcOk s) {n : Int} (hn : -1 ≤ n ∧ n ≤ 13) : ∃ t s', spec_l31Tie s n = some (t, s') ∧ TOk t ∧ SrcOk s' := by
  unfold spec_l31Tie
  have hm : 1 ≤ maxI 1 n ∧ maxI 1 n ≤ 13 := by unfold maxI; split <;> omega
  obtain ⟨x1, s1, h1, a1, b1, c1⟩ := next_ok hs (maxI 1 n) (by omega)
  obtain ⟨x2, s2, h2, a2, b2, c2⟩ := next_ok c1 (maxI 1 n) (by omega)
  obtain ⟨x3, s3, h3, a3, b3, c3⟩ := next_ok c2 3 (by omega)
  obtain ⟨x4, s4, h4, a4, b4, c4⟩ := next_ok c3 3 (by omega)
  have hl : ∀ (L : List ByteArray), L.length = 3 → (∀ y ∈ L, y.size ≤ 20) → ∃ y, at' L x4 = some y ∧ y.size ≤ 20 := fun L hL hy => by
    obtain ⟨y, e, hm⟩ := one_of L a4 (by omega) (by omega)
    exact ⟨y, e, hy y hm⟩
  obtain ⟨y, h5, hy⟩ := hl [(ByteArray.mk #[110, 97, 109, 101]), (ByteArray.mk #[109, 97, 112]), (ByteArray.mk #[116, 97, 120])] rfl (by decide)
  simp only [h1, h2, h3, h4, h5, Option.bind_some]
  have hmn : 0 ≤ minI x1 x2 ∧ minI x1 x2 ≤ 13 := by unfold minI; split <;> omega
  have hmx : 0 ≤ maxI x1 x2 ∧ maxI x1 x2 ≤ 13 := by unfold maxI; split <;> omega
  generalize minI x1 x2 = p at *
  generalize maxI x1 x2 = q at *
  have hys : y.size ≤ maxLen := by unfold maxLen; omega
  have key : ∃ t : Tie, (bif ((p == q) && (decide (p > 0))) then some (Tie.mk (w64 (p - 1)) q (decide (x3 > 0)) y) else some (Tie.mk p q (decide (x3 > 0)) y)) = some t ∧ TOk t := by
    cases (p == q) && (decide (p > 0))
    · exact ⟨_, rfl, i64_of (l := 0) (h := 13) (by dsimp only; omega) (by dsimp only; omega) (by omega) (by omega), i64_of (l := 0) (h := 13) (by dsimp only; omega) (by dsimp only; omega) (by omega) (by omega), hys⟩
    · rw [w64_id (by omega) (by omega)]
      exact ⟨_, rfl, i64_of (l := -1) (h := 13) (by dsimp only; omega) (by dsimp only; omega) (by omega) (by omega), i64_of (l := 0) (h := 13) (by dsimp only; omega) (by dsimp only; omega) (by omega) (by omega), hys⟩
  obtain ⟨t, e, ht⟩ := key
  rw [e, Option.bind_some]
  obtain ⟨x8, s8, h8, a8, b8, c8⟩ := next_ok c4 40 (by omega)
  rw [h8, Option.bind_some]
  dsimp only
  cases x8 == 0
  · cases x8 == 1
    · exact ⟨_, _, rfl, ht, c8⟩
    · obtain ⟨z, s9, h9, hz, c9⟩ := drawWord_ok c8
      simp only [cond_false, cond_true, h9, Option.bind_some]
      exact ⟨_, _, rfl, ⟨ht.a, ht.b, by unfold maxLen; dsimp only; omega⟩, c9⟩
  · exact ⟨_, _, rfl, ⟨ht.a, i64_of (l := -1) (h := 13) hn.1 hn.2 (by omega) (by omega), ht.r⟩, c8⟩
theorem tok_snoc {L : List Tie} {t : Tie} (h : ∀ x ∈ L, TOk x) (ht : TOk t) : ∀ x ∈ L ++ [t], TOk x := fun x hx => by
  rcases List.mem_append.1 hx with hx | hx
  · exact h x hx
  · rw [List.mem_singleton.1 hx]; exact ht
theorem addTie_ok {n : Int} {L : List Tie} {t : Tie} (hL : L.length ≤ 1048576) (ht : ∀ t ∈ L, TOk t) (ht2 : TOk t) : ∃ r, spec_AddTie n L t = some r ∧ impl_AddTie n L t = some r ∧ (r.2 = 0 → r.1 = L ++ [t] ∧ tiesB n (L ++ [t]) = true ∧ badB n.toNat (L ++ [t]) = false) := by
  obtain ⟨r, e1, e2, _⟩ := addTie_eq n L t hL ht ht2
  refine ⟨r, e2, e1, fun h => ?_⟩
  rw [addTie_val n L t hL ht ht2] at e1
  injection e1 with e1
  subst e1
  revert h
  cases tiesB n L
  · intro h; cases h
  · cases tiesB n (L ++ [t])
    · intro h; cases h
    · cases badB n.toNat L
      · cases badB n.toNat (L ++ [t])
        · intro h; exact ⟨rfl, rfl, rfl⟩
        · intro h; cases h
      · intro h; cases h
theorem l31Draw_ok {s : l01Source} (hs : SrcOk s) : ∃ n L s', spec_l31Draw s = some (n, L, s') ∧ (-1 ≤ n ∧ n ≤ 13) ∧ L.length ≤ 21 ∧ (∀ t ∈ L, TOk t) ∧ SrcOk s' := by
  unfold spec_l31Draw
  obtain ⟨x1, s1, h1, a1, b1, c1⟩ := next_ok hs 7 (by omega)
  obtain ⟨x2, s2, h2, a2, b2, c2⟩ := next_ok c1 3 (by omega)
  obtain ⟨x3, s3, h3, a3, b3, c3⟩ := next_ok c2 10 (by omega)
  simp only [h1, h2, h3, Option.bind_some]
  have en : w64 (2 + x1) = 2 + x1 := w64_id (by omega) (by omega)
  rw [en]
  have hn : -1 ≤ 2 + x1 ∧ 2 + x1 ≤ 13 := by omega
  generalize 2 + x1 = n at *
  generalize hb : loop _ _ = m
  have key : ∃ r : List Tie × l01Source, m = some r ∧ (r.1.length ≤ 10 ∧ (∀ t ∈ r.1, TOk t) ∧ SrcOk r.2) := by
    rw [← hb]
    refine loop_inv (fun s : Int × List Tie × l01Source => 0 ≤ s.1 ∧ s.1 ≤ 10 ∧ (s.2.1.length : Int) ≤ 10 - s.1 ∧ (∀ t ∈ s.2.1, TOk t) ∧ SrcOk s.2.2) (fun s => s.1.toNat) (fun r : List Tie × l01Source => r.1.length ≤ 10 ∧ (∀ t ∈ r.1, TOk t) ∧ SrcOk r.2) (fun s hs => ?_) ⟨by dsimp only; omega, by dsimp only; omega, by simp; omega, by simp, c3⟩
    obtain ⟨k1, k2, k3, k4, k5⟩ := hs
    by_cases hp : s.1 > 0
    · left
      simp only [decide_eq_true hp, cond_true]
      obtain ⟨t, s5, e5, t5, c5⟩ := l31Tie_ok k5 hn
      obtain ⟨r, e6, _, hr⟩ := addTie_ok (n := n) (L := s.2.1) (t := t) (by omega) k4 t5
      rw [e5, Option.bind_some, e6, Option.bind_some, w64_id (n := s.1 - 1) (by omega) (by omega)]
      by_cases h0 : r.2 = 0
      · obtain ⟨hr1, _⟩ := hr h0
        simp only [h0, hr1, beq_self_eq_true, cond_true, Option.bind_some]
        exact ⟨_, rfl, ⟨by dsimp only; omega, by dsimp only; omega, by simp; omega, tok_snoc k4 t5, c5⟩, by dsimp only; omega⟩
      · have h0 : (r.2 == 0) = false := by simpa using h0
        simp only [h0, cond_false]
        have k : ∀ (b : Bool) (s6 : l01Source), SrcOk s6 → ∃ s', (((bif b then ((app' s.2.1 ([t] : List Tie)).bind fun x15 => some (x15, s6)) else some (s.2.1, s6)) : Option (List Tie × l01Source)).bind fun (j8 : List Tie × l01Source) => (some (.inl (s.1 - 1, j8.1, j8.2)) : Option ((Int × List Tie × l01Source) ⊕ (List Tie × l01Source)))) = some (.inl s') ∧ (0 ≤ s'.1 ∧ s'.1 ≤ 10 ∧ (s'.2.1.length : Int) ≤ 10 - s'.1 ∧ (∀ t ∈ s'.2.1, TOk t) ∧ SrcOk s'.2.2) ∧ s'.1.toNat < s.1.toNat := by
          intro b s6 c6
          cases b
          · exact ⟨_, rfl, ⟨by dsimp only; omega, by dsimp only; omega, by dsimp only; omega, k4, c6⟩, by dsimp only; omega⟩
          · rw [app_ok (by simp; omega)]
            exact ⟨_, rfl, ⟨by dsimp only; omega, by dsimp only; omega, by simp; omega, tok_snoc k4 t5, c6⟩, by dsimp only; omega⟩
        cases !decide (x2 > 0)
        · simp only [cond_false, Option.bind_some]
          exact k false s5 c5
        · obtain ⟨x7, s7, e7, a7, b7, c7⟩ := next_ok c5 2 (by omega)
          simp only [cond_true, e7, Option.bind_some]
          exact k (x7 == 0) s7 c7
    · right
      simp only [decide_eq_false hp, cond_false]
      exact ⟨_, rfl, by dsimp only; omega, k4, k5⟩
  clear hb
  obtain ⟨r, rfl, g1, g2, g3⟩ := key
  rw [Option.bind_some]
  obtain ⟨x8, s8, h8, a8, b8, c8⟩ := next_ok g3 30 (by omega)
  rw [h8, Option.bind_some]
  dsimp only
  cases x8 == 0
  · cases x8 == 1
    · exact ⟨_, _, _, rfl, hn, by dsimp only; omega, g2, c8⟩
    · simp only [cond_false, cond_true]
      generalize hb : loop _ _ = m
      have key : ∃ q : (List Tie × l01Source) ⊕ (Int × List Tie × l01Source), m = some q ∧ ∃ p, q = .inl p ∧ p.1.length ≤ 21 ∧ (∀ t ∈ p.1, TOk t) ∧ SrcOk p.2 := by
        rw [← hb]
        refine loop_inv (fun s : List Tie × l01Source => s.1.length ≤ 21 ∧ (∀ t ∈ s.1, TOk t) ∧ SrcOk s.2) (fun s => 22 - s.1.length) (fun q : (List Tie × l01Source) ⊕ (Int × List Tie × l01Source) => ∃ p, q = .inl p ∧ p.1.length ≤ 21 ∧ (∀ t ∈ p.1, TOk t) ∧ SrcOk p.2) (fun s hs => ?_) ⟨by dsimp only; omega, g2, c8⟩
        obtain ⟨k1, k2, k3⟩ := hs
        obtain ⟨x9, s9, h9, a9, b9, c9⟩ := next_ok k3 2 (by omega)
        simp only [h9, Option.bind_some]
        rw [w64_id (n := 20 + x9) (by omega) (by omega)]
        by_cases hl : (s.1.length : Int) < 20 + x9
        · rw [decide_eq_true hl, cond_true, app_ok (by simp; omega)]
          exact .inl ⟨_, rfl, ⟨by simp; omega, tok_snoc k2 ⟨i64_of (l := 0) (h := 1) (by decide) (by decide) (by decide) (by decide), i64_of (l := 0) (h := 1) (by decide) (by decide) (by decide) (by decide), by decide⟩, c9⟩, by simp; omega⟩
        · rw [decide_eq_false hl]
          exact .inr ⟨_, rfl, _, rfl, k1, k2, c9⟩
      clear hb
      obtain ⟨q, rfl, p, rfl, q1, q2, q3⟩ := key
      exact ⟨_, _, _, rfl, hn, q1, q2, q3⟩
  · obtain ⟨x9, s9, h9, a9, c9⟩ := pick_ok c8 (l := [0, 12, 13, -1]) (by simp) (by simp)
    simp only [cond_true, h9, Option.bind_some]
    refine ⟨_, _, _, rfl, ?_, by omega, g2, c9⟩
    simp at a9
    omega
end Go.Proofs.YtmbejkchgdcdhaaDoor.Sh
