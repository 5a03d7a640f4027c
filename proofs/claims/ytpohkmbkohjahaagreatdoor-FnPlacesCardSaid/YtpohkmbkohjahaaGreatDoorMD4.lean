/- The draws of phrases come to an answer; no condition but a short code. Needs GD: spec.l01Words, l01GoodPhrase, l01Damage, l01DrawPhrase. -/
import Derived.Test.YtpohkmbkohjahaaGreatDoorMD2
namespace Go.Proofs.YtpohkmbkohjahaaGreatDoor.Sh
open Go.RowKit
theorem words_ok {L : List ByteArray} (hL : L.length ≤ 100) (hs : ∀ x ∈ L, x.size ≤ 100) : ∃ t, spec_l01Words L = some t ∧ t.size ≤ 101 * L.length := by
  unfold spec_l01Words
  have key : ∀ (M P : List ByteArray) (t : ByteArray), L = P ++ M → t.size ≤ 101 * P.length → ∃ r, iterN (fun (i : Nat) (s3 : ByteArray) => ((((bif (decide ((i : Int) > 0)) then ((cat' s3 (ByteArray.mk #[32])).bind fun x9 => some x9) else some s3)).bind fun (j7 : ByteArray) => ((at' L (i : Int)).bind fun x10 => ((cat' j7 x10).bind fun x11 => some x11)))).map (Sum.inl (β := ByteArray))) (fun s => s) M.length P.length t = some r ∧ r.size ≤ 101 * L.length := by
    intro M
    induction M with
    | nil => exact fun P t h ht => ⟨t, rfl, by rw [h]; simpa using ht⟩
    | cons x M ih =>
      intro P t h ht
      have hx := hs x (by rw [h]; simp)
      have hpl : P.length ≤ L.length := by rw [h]; simp
      have hat : at' L ((P.length : Nat) : Int) = some x := by rw [at_nat, h]; simp
      have c1 : cat' t (ByteArray.mk #[32]) = some (t ++ ByteArray.mk #[32]) := by
        unfold cat'
        rw [if_pos (by show t.size + 1 ≤ _; omega)]
      have hstep : ∃ t', (((bif (decide (((P.length : Nat) : Int) > 0)) then ((cat' t (ByteArray.mk #[32])).bind fun x9 => some x9) else some t)).bind fun (j7 : ByteArray) => ((at' L ((P.length : Nat) : Int)).bind fun x10 => ((cat' j7 x10).bind fun x11 => some x11))) = some t' ∧ t'.size ≤ 101 * (P ++ [x]).length := by
        rw [hat]
        cases hd : decide (((P.length : Nat) : Int) > 0)
        · simp only [cond_false, Option.bind_some]
          unfold cat'
          rw [if_pos (by omega)]
          refine ⟨_, rfl, ?_⟩
          rw [ByteArray.size_append, List.length_append, List.length_singleton]
          omega
        · simp only [cond_true, c1, Option.bind_some]
          unfold cat'
          have hz : (t ++ ByteArray.mk #[32]).size = t.size + 1 := by rw [ByteArray.size_append]; rfl
          rw [if_pos (by omega)]
          refine ⟨_, rfl, ?_⟩
          rw [ByteArray.size_append, hz, List.length_append, List.length_singleton]
          omega
      obtain ⟨t', e, ht'⟩ := hstep
      rw [show (x :: M).length = M.length + 1 from rfl]
      unfold iterN
      rw [e, Option.map_some, Option.bind_some, Sum.elim_inl]
      have := ih (P ++ [x]) t' (by rw [h]; simp) ht'
      rw [List.length_append, List.length_singleton] at this
      exact this
  rw [forS_forN, forN_iter _ (by omega)]
  obtain ⟨r, e, hr⟩ := key L [] (ByteArray.mk #[]) rfl (Nat.zero_le _)
  rw [List.length_nil] at e
  rw [e]
  exact ⟨r, rfl, hr⟩
theorem goodPhrase_ok {s : l01Source} (hs : SrcOk s) : ∃ t s', spec_l01GoodPhrase s = some (t, s') ∧ t.size ≤ 1000 ∧ SrcOk s' := by
  unfold spec_l01GoodPhrase
  obtain ⟨x1, s1, h1, h2, h3, h4⟩ := next_ok hs 3 (by omega)
  rw [h1, Option.bind_some]
  generalize hb : loop _ _ = m
  have key : ∃ r : List ByteArray × l01Source, m = some r ∧ r.1.length ≤ 5 ∧ (∀ x ∈ r.1, x.size ≤ 100) ∧ SrcOk r.2 := by
    rw [← hb]
    refine loop_inv (fun s : Int × List ByteArray × l01Source => 0 ≤ s.1 ∧ (s.2.1.length : Int) + s.1 ≤ 5 ∧ (∀ x ∈ s.2.1, x.size ≤ 100) ∧ SrcOk s.2.2) (fun s => s.1.toNat) (fun r : List ByteArray × l01Source => r.1.length ≤ 5 ∧ (∀ x ∈ r.1, x.size ≤ 100) ∧ SrcOk r.2) (fun s hs => ?_) ?_
    · obtain ⟨k1, k2, k3, k4⟩ := hs
      by_cases hp : s.1 > 0
      · left
        obtain ⟨t, s2, h5, h6, h7⟩ := good_ok k4
        rw [decide_eq_true hp, cond_true, h5, Option.bind_some, app_ok (by simp; omega), w64_id (n := s.1 - 1) (by omega) (by omega)]
        refine ⟨_, rfl, ⟨by dsimp only; omega, by simp; omega, fun x hx => ?_, h7⟩, by dsimp only; omega⟩
        rcases List.mem_append.1 hx with hx | hx
        · exact k3 x hx
        · rw [List.mem_singleton.1 hx]; exact h6
      · right
        rw [decide_eq_false hp, cond_false]
        exact ⟨_, rfl, by dsimp only; omega, k3, k4⟩
    · rw [w64_id (by omega) (by omega)]
      exact ⟨by dsimp only; omega, by simp; omega, by simp, h4⟩
  clear hb
  obtain ⟨r, rfl, h5, h6, h7⟩ := key
  obtain ⟨t, h8, h9⟩ := words_ok (L := r.1) (by omega) h6
  simp only [Option.bind_some, h8]
  exact ⟨t, _, rfl, by omega, h7⟩
theorem damage_ok {s : l01Source} (hs : SrcOk s) {t : ByteArray} (ht : t.size ≤ 1000000) : ∃ u s', spec_l01Damage s t = some (u, s') ∧ u.size ≤ t.size + 10 ∧ SrcOk s' := by
  unfold spec_l01Damage
  rw [w64_id (n := (t.size : Int) + 1) (by omega) (by omega)]
  obtain ⟨x1, s1, h1, a1, b1, c1⟩ := next_ok hs ((t.size : Int) + 1) (by omega)
  obtain ⟨x2, s2, h2, a2, b2, c2⟩ := next_ok c1 8 (by omega)
  obtain ⟨k, rfl⟩ := Int.eq_ofNat_of_zero_le a1
  have hk : k ≤ t.size := by omega
  have e1 : ∀ (a b : Nat), a ≤ b → b ≤ t.size → ∃ u, sub' t (a : Int) (b : Int) = some u ∧ u.size = b - a := fun a b h1 h2 => by
    unfold sub'
    rw [if_pos ⟨by omega, by omega, by omega⟩]
    refine ⟨_, rfl, ?_⟩
    rw [ByteArray.size_extract]
    simp only [Int.toNat_natCast]
    omega
  have ec : ∀ (u v : ByteArray), u.size ≤ 10000000 → v.size ≤ 10000000 → ∃ w, cat' u v = some w ∧ w.size = u.size + v.size := fun u v h1 h2 => by
    unfold cat'
    rw [if_pos (by omega)]
    exact ⟨_, rfl, ByteArray.size_append⟩
  obtain ⟨u1, f1, g1⟩ := e1 0 k (by omega) hk
  obtain ⟨u2, f2, g2⟩ := e1 k t.size hk (Nat.le_refl _)
  rw [show ((0 : Nat) : Int) = 0 from rfl] at f1
  simp only [h1, h2, Option.bind_some, f1, f2]
  cases x2 == 0
  · cases x2 == 1
    · cases x2 == 2
      · exact ⟨_, _, rfl, by omega, c2⟩
      · by_cases hlt : (k : Int) < (t.size : Int)
        · have e3 : w64 ((k : Int) + 1) = ((k + 1 : Nat) : Int) := by rw [w64_id (by omega) (by omega)]; omega
          obtain ⟨u3, f3, g3⟩ := e1 (k + 1) t.size (by omega) (Nat.le_refl _)
          obtain ⟨u4, f4, g4⟩ := ec u1 u3 (by omega) (by omega)
          simp only [cond_false, cond_true, decide_eq_true hlt, e3, f3, f4, Option.bind_some]
          exact ⟨_, _, rfl, by omega, c2⟩
        · simp only [cond_false, cond_true, decide_eq_false hlt]
          exact ⟨_, _, rfl, by omega, c2⟩
    · obtain ⟨x3, s3, h3, a3, b3, c3⟩ := next_ok c2 8 (by omega)
      have hl : ∀ (L : List ByteArray), L.length = 8 → (∀ y ∈ L, y.size ≤ 1) → ∃ u s', ((at' L x3).bind fun x8 => ((cat' u1 x8).bind fun x9 => ((cat' x9 u2).bind fun x11 => some (Sum.inr (x11, s3) : l01Source ⊕ (ByteArray × l01Source))))).bind (Sum.elim (fun (j3 : l01Source) => some (t, j3)) some) = some (u, s') ∧ u.size ≤ t.size + 10 ∧ SrcOk s' := fun L hL hy => by
        obtain ⟨y, e, hm⟩ := one_of L a3 (by omega) (by omega)
        have hys := hy y hm
        obtain ⟨u5, f5, g5⟩ := ec u1 y (by omega) (by omega)
        obtain ⟨u6, f6, g6⟩ := ec u5 u2 (by omega) (by omega)
        simp only [e, f5, f6, Option.bind_some]
        exact ⟨_, _, rfl, by omega, c3⟩
      simp only [cond_false, cond_true, h3, Option.bind_some]
      exact hl _ rfl (by decide)
  · simp only [cond_true, Option.bind_some]
    exact ⟨_, _, rfl, by omega, c2⟩
theorem drawPhrase_ok {s : l01Source} (hs : SrcOk s) : ∃ t s', spec_l01DrawPhrase s = some (t, s') ∧ t.size ≤ 2000 ∧ SrcOk s' := by
  unfold spec_l01DrawPhrase
  obtain ⟨t, s1, h1, h2, h3⟩ := goodPhrase_ok hs
  obtain ⟨x2, s2, h4, a2, b2, c2⟩ := next_ok h3 20 (by omega)
  simp only [h1, h4, Option.bind_some]
  cases x2 == 0
  · cases x2 == 1
    · exact ⟨_, _, rfl, by omega, c2⟩
    · obtain ⟨x3, s3, h5, a3, b3, c3⟩ := next_ok c2 5 (by omega)
      have hl : ∀ (L : List ByteArray), L.length = 5 → (∀ y ∈ L, y.size ≤ 20) → ∃ u s', ((at' L x3).bind fun x7 => some (Sum.inr (x7, s3) : l01Source ⊕ (ByteArray × l01Source))).bind (Sum.elim (fun (j3 : l01Source) => some (t, j3)) some) = some (u, s') ∧ u.size ≤ 2000 ∧ SrcOk s' := fun L hL hy => by
        obtain ⟨y, e, hm⟩ := one_of L a3 (by omega) (by omega)
        have hys := hy y hm
        simp only [e, Option.bind_some]
        exact ⟨_, _, rfl, by omega, c3⟩
      simp only [cond_false, cond_true, h5, Option.bind_some]
      exact hl _ rfl (by decide)
  · obtain ⟨u, s3, h5, h6, h7⟩ := damage_ok c2 (t := t) (by omega)
    simp only [cond_true, h5, Option.bind_some]
    exact ⟨_, _, rfl, by omega, h7⟩
end Go.Proofs.YtpohkmbkohjahaaGreatDoor.Sh
