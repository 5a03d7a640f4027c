/- Plain laws: AnswersOf, RankOf and LostWithout, of both; bounds on lengths alone. -/
import Derived.Test.YtodgenjlhiiieaaGreatDoorMLC7
namespace Go.Proofs.YtodgenjlhiiieaaGreatDoor.Sh
open Go.RowKit Go.Lib
section
variable {C : List Candidate} {t : ByteArray} {L : List Site} {ds : List Description}
/-- What a question without an error has, all of it. -/
structure Good (C : List Candidate) (t : ByteArray) (L : List Site) (ds : List Description) : Prop where
  f : Fit L ds
  t1 : phraseB t = true
  t2 : t.size ≤ 1048576
  c : ∀ x ∈ C, okC x
  n : C.length ≤ 10
  d : ∀ (i j : Nat) c d, i < j → C[i]? = some c → C[j]? = some d → c.Code ≠ d.Code
theorem Good.impl (g : Good C t L ds) : impl_question_answers (question.mk t L ds) C = some (ranked t L ds C) := impl_ranked g.f g.t1 g.t2 g.c g.n g.d
/-- The descriptions without the one at i. -/
def restD (ds : List Description) (i : Nat) : List Description := ds.take i ++ ds.drop (i + 1)
theorem Good.rest (g : Good C t L ds) (i : Nat) : Good C t L (restD ds i) := by
  have hm : ∀ d ∈ restD ds i, d ∈ ds := fun d hd => by
    unfold restD at hd
    rcases List.mem_append.1 hd with h | h
    · exact List.mem_of_mem_take h
    · exact List.mem_of_mem_drop h
  refine ⟨⟨g.f.s, g.f.p, g.f.n, fun d hd => g.f.d d (hm d hd), ?_⟩, g.t1, g.t2, g.c, g.n, g.d⟩
  have := g.f.k
  unfold restD
  rw [List.length_append, List.length_take, List.length_drop]
  omega
end
end Go.Proofs.YtodgenjlhiiieaaGreatDoor.Sh
