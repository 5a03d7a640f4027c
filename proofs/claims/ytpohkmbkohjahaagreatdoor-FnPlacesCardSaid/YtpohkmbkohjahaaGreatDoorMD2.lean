/- The draws of words come to an answer; no condition but a short code. Needs GD: spec.l01Good, l01DrawWord. -/
import Derived.Test.YtpohkmbkohjahaaGreatDoorMD1
namespace Go.Proofs.YtpohkmbkohjahaaGreatDoor.Sh
open Go.RowKit
theorem good_ok {s : l01Source} (hs : SrcOk s) : ∃ t s', spec_l01Good s = some (t, s') ∧ t.size ≤ 100 ∧ SrcOk s' := by
  unfold spec_l01Good
  obtain ⟨x1, s1, h1, h2, h3, h4⟩ := next_ok hs 3 (by omega)
  rw [h1, Option.bind_some]
  generalize hb : loop _ _ = m
  have key : ∃ r : ByteArray × l01Source, m = some r ∧ r.1.size ≤ 100 ∧ SrcOk r.2 := by
    rw [← hb]
    refine loop_inv (fun s : ByteArray × Int × l01Source => 0 ≤ s.2.1 ∧ s.2.1 ≤ 4 ∧ (s.1.size : Int) + 10 * s.2.1 ≤ 50 ∧ SrcOk s.2.2) (fun s => s.2.1.toNat) (fun r : ByteArray × l01Source => r.1.size ≤ 100 ∧ SrcOk r.2) (fun s hs => ?_) ?_
    · obtain ⟨k1, k2, k3, k4⟩ := hs
      by_cases hp : s.2.1 > 0
      · left
        obtain ⟨i, s2, h5, h6, h7, h8⟩ := next_ok k4 16 (by omega)
        rw [decide_eq_true hp, cond_true]
        have hl : ∀ L : List ByteArray, (L.length : Int) = 16 → (∀ y ∈ L, y.size ≤ 5) → ∃ s' : ByteArray × Int × l01Source, (((spec_l01Next s.2.2 (L.length : Int)).bind fun x8 => ((at' L x8.1).bind fun x9 => ((cat' s.1 x9).bind fun x10 => some (x10, x8.2)))).bind fun (j6 : ByteArray × l01Source) => (some (.inl (j6.1, (w64 (s.2.1 - 1)), j6.2)) : Option ((ByteArray × Int × l01Source) ⊕ (ByteArray × l01Source)))) = some (.inl s') ∧ (0 ≤ s'.2.1 ∧ s'.2.1 ≤ 4 ∧ (s'.1.size : Int) + 10 * s'.2.1 ≤ 50 ∧ SrcOk s'.2.2) ∧ s'.2.1.toNat < s.2.1.toNat := by
          intro L hL hLs
          obtain ⟨y, hy, hm⟩ := one_of L h6 (by omega) (by omega)
          have hys := hLs y hm
          rw [hL, h5, Option.bind_some, hy, Option.bind_some]
          unfold cat'
          rw [if_pos (by omega), w64_id (by omega) (by omega)]
          refine ⟨_, rfl, ⟨by dsimp only; omega, by dsimp only; omega, ?_, h8⟩, by dsimp only; omega⟩
          dsimp only
          rw [ByteArray.size_append]
          omega
        exact hl _ rfl (by decide)
      · right
        rw [decide_eq_false hp, cond_false]
        exact ⟨_, rfl, by dsimp only; omega, k4⟩
    · dsimp only
      rw [w64_id (by omega) (by omega)]
      refine ⟨by omega, by omega, ?_, h4⟩
      show ((0 : Nat) : Int) + _ ≤ _
      omega
  clear hb
  obtain ⟨r, rfl, h5, h6⟩ := key
  exact ⟨_, _, rfl, h5, h6⟩
theorem drawWord_ok {s : l01Source} (hs : SrcOk s) : ∃ t s', spec_l01DrawWord s = some (t, s') ∧ t.size ≤ 100 ∧ SrcOk s' := by
  unfold spec_l01DrawWord
  obtain ⟨x1, s1, h1, h2, h3, h4⟩ := next_ok hs 30 (by omega)
  rw [h1, Option.bind_some]
  cases x1 == 0
  · obtain ⟨t, s2, h5, h6, h7⟩ := good_ok h4
    simp only [cond_false, h5, Option.bind_some]
    exact ⟨_, _, rfl, h6, h7⟩
  · obtain ⟨x2, s2, h5, h6, h7, h8⟩ := next_ok h4 6 (by omega)
    simp only [cond_true, h5, Option.bind_some]
    have hl : ∀ L : List ByteArray, L.length = 6 → (∀ y ∈ L, y.size ≤ 20) → ∃ t s', ((at' L x2).bind fun x3 => some (x3, s2)) = some (t, s') ∧ t.size ≤ 100 ∧ SrcOk s' := by
      intro L hL hLs
      obtain ⟨y, hy, hm⟩ := one_of L h6 (by omega) (by omega)
      have hys := hLs y hm
      rw [hy]
      exact ⟨_, _, rfl, by omega, h8⟩
    exact hl _ rfl (by decide)
end Go.Proofs.YtpohkmbkohjahaaGreatDoor.Sh
