/- Plain laws: AnswersOf, RankOf and LostWithout, of both; bounds on lengths alone. -/
import Derived.Test.YtodgenjlhiiieaaGreatDoorMLC7
namespace Go.Proofs.YtodgenjlhiiieaaGreatDoor.Sh
open Go.RowKit Go.Lib
section
variable {C : List Candidate} {t : ByteArray} {L : List Site} {ds : List Description}
theorem ranked_len : (ranked t L ds C).length = C.length := by
  unfold ranked
  rw [sortB_len, List.length_map]
theorem ranked_mem {a : Answer} : a ∈ ranked t L ds C ↔ ∃ c ∈ C, ansOf t L ds c = a := by
  unfold ranked
  rw [sortB_mem, List.mem_map]
/-- What a question without an error has, all of it. -/
structure Good (C : List Candidate) (t : ByteArray) (L : List Site) (ds : List Description) : Prop where
  f : Fit L ds
  t1 : phraseB t = true
  t2 : t.size ≤ 1048576
  c : ∀ x ∈ C, okC x
  n : C.length ≤ 10
  d : ∀ (i j : Nat) c d, i < j → C[i]? = some c → C[j]? = some d → c.Code ≠ d.Code
theorem good_of {cb s : Bool} (a : Asked C t L ds) (hc : candsR C = some cb) (hs : sitesR L = some s) (h : qCode C t L ds cb s = 0) : Good C t L ds := by
  obtain ⟨h1, h2, h3, h4⟩ := qcode_ok a hc hs h
  rw [h3] at hc
  obtain ⟨h5, h6, h7⟩ := cands_ok hc
  exact ⟨h1, h2, a.t, h4, h7, h6⟩
theorem Good.impl (g : Good C t L ds) : impl_question_answers (question.mk t L ds) C = some (ranked t L ds C) := impl_ranked g.f g.t1 g.t2 g.c g.n g.d
/-- The descriptions without the one at i. -/
def restD (ds : List Description) (i : Nat) : List Description := ds.take i ++ ds.drop (i + 1)
theorem Good.rest (g : Good C t L ds) (i : Nat) : Good C t L (restD ds i) := by
  have hm : ∀ d ∈ restD ds i, d ∈ ds := fun d hd => by
    unfold restD at hd
    rcases List.mem_append.1 hd with h | h
    · exact List.mem_of_mem_take h
    · exact List.mem_of_mem_drop h
  refine ⟨⟨g.f.s, g.f.p, g.f.n, fun d hd => g.f.d d (hm d hd), ?_⟩, g.t1, g.t2, g.c, g.n, g.d⟩
  have := g.f.k
  unfold restD
  rw [List.length_append, List.length_take, List.length_drop]
  omega
end
end Go.Proofs.YtodgenjlhiiieaaGreatDoor.Sh
