/- Plain laws: AnswersOf, RankOf and LostWithout, of both; bounds on lengths alone. -/
import Derived.Test.YtodgenjlhiiieaaGreatDoorBLC7
namespace Go.Proofs.YtodgenjlhiiieaaGreatDoor.Sh
open Go.RowKit Go.Lib
section
variable {C : List Candidate} {t : ByteArray} {L : List Site} {ds : List Description}
theorem ranked_len : (ranked t L ds C).length = C.length := by
  unfold ranked
  rw [sortB_len, List.length_map]
/-- What a question without an error has, all of it. -/
structure Good (C : List Candidate) (t : ByteArray) (L : List Site) (ds : List Description) : Prop where
  f : Fit L ds
  t1 : phraseB t = true
  t2 : t.size ≤ 1048576
  c : ∀ x ∈ C, okC x
  n : C.length ≤ 10
  d : ∀ (i j : Nat) c d, i < j → C[i]? = some c → C[j]? = some d → c.Code ≠ d.Code
theorem good_of {cb s : Bool} (a : Asked C t L ds) (hc : candsR C = some cb) (hs : sitesR L = some s) (h : qCode C t L ds cb s = 0) : Good C t L ds := by
  obtain ⟨h1, h2, h3, h4⟩ := qcode_ok a hc hs h
  rw [h3] at hc
  obtain ⟨h5, h6, h7⟩ := cands_ok hc
  exact ⟨h1, h2, a.t, h4, h7, h6⟩
theorem Good.impl (g : Good C t L ds) : impl_question_answers (question.mk t L ds) C = some (ranked t L ds C) := impl_ranked g.f g.t1 g.t2 g.c g.n g.d
theorem Good.spec (g : Good C t L ds) : spec_l30Ranked C t L ds = some (ranked t L ds C) := spec_ranked g.f g.t1 g.t2 g.c g.n
theorem concat_two {x y : List Description} (h : x.length + y.length ≤ 1000000) : slices_Concat_Description [x, y] = some (x ++ y) := by
  unfold slices_Concat_Description
  have e1 := forS_seq (n := 2) (by omega) (B := fun (i3 : Int) (s3 : Int) => ((at' [x, y] i3).bind fun x7 => (bif (decide ((w64 (s3 + (x7.length : Int))) < 0)) then none else some (w64 (s3 + (x7.length : Int)))))) (D := fun (s3 : Int) => s3) (fun k => (((([x, y] : List (List Description)).take k).map List.length).sum : Nat)) (fun i hi => by
    have : i = 0 ∨ i = 1 := by omega
    rcases this with rfl | rfl
    · simp only [at_nat]
      simp
      rw [w64_id (by omega) (by omega)]
      rw [decide_eq_false (by omega)]
      rfl
    · simp only [at_nat]
      simp
      rw [w64_id (by omega) (by omega)]
      rw [decide_eq_false (by omega)]
      rfl)
  have e2 := forS_seq (n := 2) (by omega) (B := fun (i11 : Int) (s11 : (List Description)) => ((at' [x, y] i11).bind fun x15 => ((app' s11 x15).bind fun x16 => some x16))) (D := fun (s11 : (List Description)) => s11) (fun k => (([x, y] : List (List Description)).take k).flatten) (fun i hi => by
    have : i = 0 ∨ i = 1 := by omega
    rcases this with rfl | rfl
    · simp only [at_nat]
      simp
      rw [app_ok (by simp; omega)]
      rfl
    · simp only [at_nat]
      simp
      rw [app_ok (by omega)])
  simp only [List.take_zero, List.map_nil, List.sum_nil, List.flatten_nil] at e1 e2
  rw [show ((([x, y] : List (List Description)).length : Nat) : Int) = ((2 : Nat) : Int) from rfl]
  rw [show ((0 : Nat) : Int) = 0 from rfl] at e1
  rw [e1, Option.bind_some, e2, Option.bind_some]
  have e3 : ∃ u, grow' ((((([x, y] : List (List Description)).take 2).map List.length).sum : Nat) : Int) = some u := by
    have hs : (((([x, y] : List (List Description)).take 2).map List.length).sum : Nat) = x.length + y.length := by simp
    rw [hs]
    unfold grow'
    rw [decide_eq_true (by omega), decide_eq_true (by omega)]
    exact ⟨_, rfl⟩
  obtain ⟨u, e3⟩ := e3
  rw [e3]
  simp
/-- The descriptions without the one at i. -/
def restD (ds : List Description) (i : Nat) : List Description := ds.take i ++ ds.drop (i + 1)
theorem Good.rest (g : Good C t L ds) (i : Nat) : Good C t L (restD ds i) := by
  have hm : ∀ d ∈ restD ds i, d ∈ ds := fun d hd => by
    unfold restD at hd
    rcases List.mem_append.1 hd with h | h
    · exact List.mem_of_mem_take h
    · exact List.mem_of_mem_drop h
  refine ⟨⟨g.f.s, g.f.p, g.f.n, fun d hd => g.f.d d (hm d hd), ?_⟩, g.t1, g.t2, g.c, g.n, g.d⟩
  have := g.f.k
  unfold restD
  rw [List.length_append, List.length_take, List.length_drop]
  omega
def firstC (C : List Candidate) (t : ByteArray) (L : List Site) (ds : List Description) : ByteArray := match (ranked t L ds C)[0]? with
  | some a => a.Code
  | none => tNo
theorem first_at (h : C ≠ []) : ∃ a, at' (ranked t L ds C) 0 = some a ∧ a.Code = firstC C t L ds := by
  have hl : 0 < (ranked t L ds C).length := by
    rw [ranked_len]
    exact List.length_pos_iff.2 h
  have hx : (ranked t L ds C)[0]? = some ((ranked t L ds C)[0]'hl) := List.getElem?_eq_getElem _
  refine ⟨_, by rw [show (0 : Int) = ((0 : Nat) : Int) from rfl, at_nat, hx], ?_⟩
  unfold firstC
  rw [hx]
def lostI (C : List Candidate) (t : ByteArray) (L : List Site) (ds : List Description) (i : Nat) : List Int := bif !((firstC C t L (restD ds i)).toList == (firstC C t L ds).toList) then [(i : Int)] else []
def lostL (C : List Candidate) (t : ByteArray) (L : List Site) (ds : List Description) (k : Nat) : List Int := (List.range k).flatMap (lostI C t L ds)
theorem lostL_succ (k : Nat) : lostL C t L ds (k + 1) = lostL C t L ds k ++ lostI C t L ds k := by
  unfold lostL
  rw [List.range_succ, List.flatMap_append]
  simp
theorem lostL_len (k : Nat) : (lostL C t L ds k).length ≤ k := by
  induction k with
  | zero => simp [lostL]
  | succ k ih =>
    rw [lostL_succ, List.length_append]
    have : (lostI C t L ds k).length ≤ 1 := by unfold lostI; cases !((firstC C t L (restD ds k)).toList == (firstC C t L ds).toList) <;> simp
    omega
theorem lostWithout_eq (a : Asked C t L ds) : ∃ r, impl_LostWithout C t L ds = some r ∧ spec_LostWithout C t L ds = some r ∧ r.1.length ≤ 8 := by
  obtain ⟨cb, hc⟩ := candsR_some C
  obtain ⟨s, hs⟩ := sitesR_some L
  unfold impl_LostWithout spec_LostWithout
  rw [impl_qcode a hc hs, spec_qcode a hc hs, Option.bind_some, Option.bind_some]
  by_cases h0 : qCode C t L ds cb s = 0
  · have g := good_of a hc hs h0
    rw [h0]
    simp only [show ((0 : Int) != 0) = false from rfl, show ((0 : Int) == 0) = true from rfl, cond_false, Bool.true_and]
    cases hn : ((C.length : Int) == 0) with
    | true => exact ⟨_, rfl, rfl, by simp⟩
    | false =>
      have hC : C ≠ [] := fun h => by
        subst h
        cases hn
      simp only [cond_false, Option.bind_some, Sum.elim_inl, show ((0 : Int) != 0) = false from rfl]
      rw [g.impl, g.spec, Option.bind_some, Option.bind_some]
      obtain ⟨x0, f1, f2⟩ := first_at (t := t) (L := L) (ds := ds) hC
      rw [f1, Option.bind_some, Option.bind_some, f2]
      have hk := g.f.k
      have w1 : ∀ i : Nat, i < ds.length → w64 ((i : Int) + 1) = ((i + 1 : Nat) : Int) := fun i hi => by rw [w64_id (by omega) (by omega)]; omega
      have p1 : ∀ i : Nat, i < ds.length → part' ds 0 (i : Int) = some (ds.take i) := fun i hi => by
        rw [part_ok (by omega) (by omega) (by omega)]
        simp
      have p2 : ∀ i : Nat, i < ds.length → part' ds ((i + 1 : Nat) : Int) (ds.length : Int) = some (ds.drop (i + 1)) := fun i hi => by
        rw [part_ok (by omega) (by omega) (by omega)]
        simp only [Int.toNat_natCast]
        rw [List.take_of_length_le (by rw [List.length_drop]; omega)]
      have hle : ∀ i : Nat, (ds.take i).length + (ds.drop (i + 1)).length ≤ 8 := fun i => by rw [List.length_take, List.length_drop]; omega
      have e1 := forS_seq (n := ds.length) (by omega) (B := fun (i8 : Int) (s8 : question × (List Int)) => ((part' ds 0 i8).bind fun x12 => ((part' ds (w64 (i8 + 1)) (ds.length : Int)).bind fun x13 => ((slices_Concat_Description ([x12, x13] : List (List Description))).bind fun x14 => ((impl_question_answers (question.mk s8.1.text s8.1.sites x14) C).bind fun x15 => ((at' x15 0).bind fun x16 => (bif (!(x16.Code.toList == (firstC C t L ds).toList)) then ((app' s8.2 ([i8] : List Int)).bind fun x17 => some ((question.mk s8.1.text s8.1.sites x14), x17)) else some ((question.mk s8.1.text s8.1.sites x14), s8.2)))))))) (D := fun (s8 : question × (List Int)) => s8.2) (fun k => (question.mk t L (if k = 0 then ds else restD ds (k - 1)), lostL C t L ds k)) (fun i hi => by
        simp only [w1 i hi, p1 i hi, p2 i hi, Option.bind_some, concat_two (show (ds.take i).length + (ds.drop (i + 1)).length ≤ 1000000 by have := hle i; omega)]
        have hg := (g.rest i).impl
        unfold restD at hg
        obtain ⟨y, y1, y2⟩ := first_at (t := t) (L := L) (ds := restD ds i) hC
        unfold restD at y1
        rw [hg, Option.bind_some, y1, Option.bind_some, y2]
        have hl := lostL_len (C := C) (t := t) (L := L) (ds := ds) i
        rw [lostL_succ]
        unfold lostI
        cases !((firstC C t L (restD ds i)).toList == (firstC C t L ds).toList)
        · simp [restD]
        · simp only [cond_true]
          rw [app_ok (by simp; omega), Option.bind_some]
          simp [restD])
      have e2 := forS_seq (n := ds.length) (by omega) (B := fun (i8 : Int) (s8 : (List Int)) => ((part' ds 0 i8).bind fun x12 => ((app' ([] : List Description) x12).bind fun x13 => ((part' ds (w64 (i8 + 1)) (ds.length : Int)).bind fun x14 => ((app' x13 x14).bind fun x15 => ((spec_l30Ranked C t L x15).bind fun x16 => ((at' x16 0).bind fun x17 => (bif (!(x17.Code.toList == (firstC C t L ds).toList)) then ((app' s8 ([i8] : List Int)).bind fun x18 => some x18) else some s8)))))))) (D := fun (s8 : (List Int)) => s8) (fun k => lostL C t L ds k) (fun i hi => by
        have h8 := hle i
        simp only [w1 i hi, p1 i hi, p2 i hi, Option.bind_some]
        rw [app_ok (by simp; omega), Option.bind_some, List.nil_append, app_ok (by omega), Option.bind_some]
        have hg := (g.rest i).spec
        unfold restD at hg
        obtain ⟨y, y1, y2⟩ := first_at (t := t) (L := L) (ds := restD ds i) hC
        unfold restD at y1
        rw [hg, Option.bind_some, y1, Option.bind_some, y2]
        have hl := lostL_len (C := C) (t := t) (L := L) (ds := ds) i
        rw [lostL_succ]
        unfold lostI
        cases !((firstC C t L (restD ds i)).toList == (firstC C t L ds).toList)
        · simp
        · simp only [cond_true]
          rw [app_ok (by simp; omega), Option.bind_some])
      have z0 : lostL C t L ds 0 = [] := rfl
      simp only [z0, if_true] at e1 e2
      rw [e1, e2]
      exact ⟨_, rfl, rfl, by have := lostL_len (C := C) (t := t) (L := L) (ds := ds) ds.length; simp; omega⟩
  · have e1 : (qCode C t L ds cb s == 0) = false := by rw [beq_eq_false_iff_ne]; exact h0
    have e2 : (qCode C t L ds cb s != 0) = true := by rw [bne, e1]; rfl
    simp only [e1, e2, cond_true, Bool.false_and, cond_false, Option.bind_some]
    exact ⟨_, rfl, rfl, by simp⟩
end
end Go.Proofs.YtodgenjlhiiieaaGreatDoor.Sh
