/- Plain laws: AnswersOf, RankOf and LostWithout, of both; bounds on lengths alone. -/
import Derived.Test.YtodgenjlhiiieaaGreatDoorBLC7
namespace Go.Proofs.YtodgenjlhiiieaaGreatDoor.Sh
open Go.RowKit Go.Lib
/-- A loop that looks for an element that is there. -/
theorem while_idx {α : Type} {A : List α} (hA : A.length ≤ 1000000) (q : α → Bool) (h : A.any q = true) : loop (fun (s5 : Int) => ((at' A s5).bind fun x7 => (bif (!(q x7)) then some (.inl (w64 (s5 + 1))) else some (.inr s5)))) 0 = some (idxP q A) := by
  rcases idx_find q A with ⟨_, h2⟩ | ⟨i, x, h1, h2, h3⟩
  · rw [← List.isSome_find?, h2] at h
    cases h
  · have hi := (List.getElem?_eq_some_iff.1 h2).1
    have hqx : q x = true := List.find?_some h3
    have hno : ∀ j, j < i → ∀ y, A[j]? = some y → q y = false := by
      intro j hj y hy
      cases hq : q y with
      | false => rfl
      | true =>
        exfalso
        have := idx_take h2 hqx
        rw [h1] at this
        have h4 : (A.take i).any q = false := by rw [← this]; simp
        rw [List.any_eq_false] at h4
        exact h4 y (List.mem_of_getElem? (i := j) (by rw [List.getElem?_take_of_lt hj]; exact hy)) hq
    have key : ∀ (m k : Nat), k + m = i → loop (fun (s5 : Int) => ((at' A s5).bind fun x7 => (bif (!(q x7)) then some (.inl (w64 (s5 + 1))) else some (.inr s5)))) (k : Int) = some (i : Int) := by
      intro m
      induction m with
      | zero =>
        intro k hk
        obtain rfl : k = i := by omega
        rw [loop_eq]
        simp only [at_nat, h2, Option.bind_some, hqx, Bool.not_true, cond_false]
      | succ m ih =>
        intro k hk
        have hy : A[k]? = some (A[k]'(by omega)) := List.getElem?_eq_getElem _
        rw [loop_eq]
        simp only [at_nat, hy, Option.bind_some, hno k (by omega) _ hy, Bool.not_false, cond_true]
        rw [w64_id (by omega) (by omega)]
        have := ih (k + 1) (by omega)
        simpa using this
    rw [h1]
    exact key i 0 (by omega)
section
variable {C : List Candidate} {t : ByteArray} {L : List Site} {ds : List Description}
theorem ranked_len : (ranked t L ds C).length = C.length := by
  unfold ranked
  rw [sortB_len, List.length_map]
theorem ranked_mem {a : Answer} : a ∈ ranked t L ds C ↔ ∃ c ∈ C, ansOf t L ds c = a := by
  unfold ranked
  rw [sortB_mem, List.mem_map]
/-- What a question without an error has, all of it. -/
structure Good (C : List Candidate) (t : ByteArray) (L : List Site) (ds : List Description) : Prop where
  f : Fit L ds
  t1 : phraseB t = true
  t2 : t.size ≤ 1048576
  c : ∀ x ∈ C, okC x
  n : C.length ≤ 10
  d : ∀ (i j : Nat) c d, i < j → C[i]? = some c → C[j]? = some d → c.Code ≠ d.Code
theorem good_of {cb s : Bool} (a : Asked C t L ds) (hc : candsR C = some cb) (hs : sitesR L = some s) (h : qCode C t L ds cb s = 0) : Good C t L ds := by
  obtain ⟨h1, h2, h3, h4⟩ := qcode_ok a hc hs h
  rw [h3] at hc
  obtain ⟨h5, h6, h7⟩ := cands_ok hc
  exact ⟨h1, h2, a.t, h4, h7, h6⟩
theorem Good.impl (g : Good C t L ds) : impl_question_answers (question.mk t L ds) C = some (ranked t L ds C) := impl_ranked g.f g.t1 g.t2 g.c g.n g.d
theorem Good.spec (g : Good C t L ds) : spec_l30Ranked C t L ds = some (ranked t L ds C) := spec_ranked g.f g.t1 g.t2 g.c g.n
def codeA (c : ByteArray) (x : Answer) : Bool := x.Code.toList == c.toList
theorem ranked_any (c : ByteArray) : (ranked t L ds C).any (codeA c) = C.any (codeC c) := by
  rw [Bool.eq_iff_iff, List.any_eq_true, List.any_eq_true]
  constructor
  · rintro ⟨a, ha, h⟩
    obtain ⟨x, hx, rfl⟩ := ranked_mem.1 ha
    exact ⟨x, hx, h⟩
  · rintro ⟨x, hx, h⟩
    exact ⟨_, ranked_mem.2 ⟨x, hx, rfl⟩, h⟩
theorem rankOf_eq (a : Asked C t L ds) (c : ByteArray) : ∃ r, impl_RankOf C c t L ds = some r ∧ spec_RankOf C c t L ds = some r := by
  obtain ⟨cb, hc⟩ := candsR_some C
  obtain ⟨s, hs⟩ := sitesR_some L
  unfold impl_RankOf spec_RankOf impl_AnswersOf spec_l30Named
  rw [impl_qcode a hc hs, spec_qcode a hc hs, Option.bind_some, Option.bind_some, spec_findC a.c]
  simp only [Option.bind_some, idxP_neg]
  by_cases h0 : qCode C t L ds cb s = 0
  · have g := good_of a hc hs h0
    have hlen : (ranked t L ds C).length ≤ 10 := by rw [ranked_len]; exact g.n
    rw [h0, g.impl, g.spec]
    unfold slices_IndexFunc_Answer_impl_RankOf_1 impl_RankOf_1
    simp only [Option.bind_some, show ((0 : Int) != 0) = false from rfl, show ((0 : Int) == 0) = true from rfl, cond_false, cond_true]
    rw [loop_idx (L := ranked t L ds C) (by omega) (codeA c) (fun i x hx => by rw [at_nat, hx]; rfl)]
    simp only [Option.bind_some, idxP_neg, ranked_any]
    cases hany : C.any (codeC c) with
    | false => exact ⟨_, rfl, rfl⟩
    | true =>
      simp only [Bool.not_true, cond_false, Option.bind_some, show ((0 : Int) != 0) = false from rfl]
      have hw := while_idx (A := ranked t L ds C) (by omega) (codeA c) (by rw [ranked_any, hany])
      unfold codeA at hw
      rw [hw]
      exact ⟨_, rfl, rfl⟩
  · have e1 : (qCode C t L ds cb s == 0) = false := by rw [beq_eq_false_iff_ne]; exact h0
    have e2 : (qCode C t L ds cb s != 0) = true := by rw [bne, e1]; rfl
    simp only [e1, e2, cond_false, cond_true, Option.bind_some]
    exact ⟨_, rfl, rfl⟩
/-- The descriptions without the one at i. -/
def restD (ds : List Description) (i : Nat) : List Description := ds.take i ++ ds.drop (i + 1)
theorem Good.rest (g : Good C t L ds) (i : Nat) : Good C t L (restD ds i) := by
  have hm : ∀ d ∈ restD ds i, d ∈ ds := fun d hd => by
    unfold restD at hd
    rcases List.mem_append.1 hd with h | h
    · exact List.mem_of_mem_take h
    · exact List.mem_of_mem_drop h
  refine ⟨⟨g.f.s, g.f.p, g.f.n, fun d hd => g.f.d d (hm d hd), ?_⟩, g.t1, g.t2, g.c, g.n, g.d⟩
  have := g.f.k
  unfold restD
  rw [List.length_append, List.length_take, List.length_drop]
  omega
end
end Go.Proofs.YtodgenjlhiiieaaGreatDoor.Sh
