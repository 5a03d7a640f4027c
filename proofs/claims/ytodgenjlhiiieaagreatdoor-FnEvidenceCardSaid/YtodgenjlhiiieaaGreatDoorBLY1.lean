/- The law FnEvidence answers true; no condition but the bounds of its argument's type. -/
import Derived.Test.YtodgenjlhiiieaaGreatDoorBLD1
import Derived.Test.YtodgenjlhiiieaaGreatDoorR1
namespace Go.Proofs.YtodgenjlhiiieaaGreatDoor.Sh
open Go.RowKit Go.Lib
theorem FnEvidence_true (c : List Int) (h : c.length ≤ maxLen ∧ ∀ x ∈ c, okU8 x) : laws_FnEvidence c = some true := by
  unfold laws_FnEvidence laws_big
  rw [Option.bind_some]
  by_cases hb : (c.length : Int) > 4096
  · rw [decide_eq_true hb]
    rfl
  rw [decide_eq_false hb, cond_false]
  have hc : CodeOk c := ⟨by omega, h.2⟩
  obtain ⟨d2, e2, h1, h3, h4⟩ := drawEvidence_G hc
  obtain ⟨d5, e5, p1, p2⟩ := drawPhrases_G hc
  obtain ⟨d8, e8, q1, q2, q3, q4⟩ := drawLost_G hc
  have a1 : Asked d2.1 (ByteArray.mk #[97]) d2.2.2.1 d2.2.2.2 := asked_of h1 (by show 1 ≤ 2000; omega) h3 h4
  obtain ⟨r3, i3, s3, l3⟩ := evidenceFor_eq a1 d2.2.1
  obtain ⟨r9, i9, s9, l9⟩ := lostWithout_eq (asked_of q1 q2 q3 q4)
  rw [e2, Option.bind_some, i3, s3, Option.bind_some, Option.bind_some, e5, Option.bind_some, impl_PD _ _ (by omega) (by omega), spec_PD _ _ (by omega) (by omega), Option.bind_some, Option.bind_some, e8, Option.bind_some, i9, s9, Option.bind_some, Option.bind_some]
  simp only [bne_self_eq_false, cond_false, likeTexts_self r3.1 l3, likeInts_self r9.1 (by omega), Option.bind_some, Bool.not_true]
  have z1 : (bif ((PD d5.1 d5.2).2 == 0) then ((impl_PhraseDistance d5.2 d5.1).bind fun x17 => (bif ((x17.2 != 0) || ((x17.1 != (PD d5.1 d5.2).1) || (!(((PD d5.1 d5.2).1 == 0) == (d5.1.toList == d5.2.toList))))) then some (.inr false) else some (.inl ()))) else some (.inl ()) : Option (Unit ⊕ Bool)) = some (.inl ()) := by
    cases hz : ((PD d5.1 d5.2).2 == 0)
    · rfl
    · have hz' : (PD d5.1 d5.2).2 = 0 := by simpa using hz
      rw [cond_true, impl_PD _ _ (by omega) (by omega), Option.bind_some, PD_comm, PD_zero hz', hz']
      simp
  rw [z1, Option.bind_some, Sum.elim_inl]
  cases hz : (r3.2 != 0)
  · have hz' : r3.2 = 0 := by simpa using hz
    obtain ⟨w, w1, w2⟩ := evidence_sat a1 d2.2.1 i3 hz'
    rw [cond_false, w1, Option.bind_some, w2]
    simp
  · rfl
end Go.Proofs.YtodgenjlhiiieaaGreatDoor.Sh
