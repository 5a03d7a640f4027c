/- Plain laws of candidates: AreCandidates of both; bounds on lengths alone. -/
import Derived.Test.YtodgenjlhiiieaaGreatDoorBWP
import Derived.Test.YtodgenjlhiiieaaGreatDoorBQS
namespace Go.Proofs.YtodgenjlhiiieaaGreatDoor.Sh
open Go.RowKit Go.Lib
/-- One that fits is the first that fits unless one before it fits. -/
theorem idx_take {α : Type} {p : α → Bool} : ∀ {L : List α} {i : Nat} {x : α}, L[i]? = some x → p x = true → (idxP p L != (i : Int)) = (L.take i).any p
  | [], i, x, h, _ => by simp at h
  | y :: l, 0, x, h, hp => by
    simp at h
    subst h
    unfold idxP
    rw [hp]
    rfl
  | y :: l, i + 1, x, h, hp => by
    have h' : l[i]? = some x := by simpa using h
    have ih := idx_take h' hp
    rw [List.take_succ_cons, List.any_cons]
    unfold idxP
    cases hy : p y
    · have hge := idxP_any p l
      rw [List.any_eq_true.2 ⟨x, List.mem_of_getElem? h', hp⟩, decide_eq_true_eq] at hge
      have hd : decide (idxP p l < 0) = false := decide_eq_false (by omega)
      simp only [cond_false, Bool.false_or, hd, ← ih]
      rw [Bool.eq_iff_iff, bne_iff_ne, bne_iff_ne]
      omega
    · simp only [cond_true, Bool.true_or]
      rw [bne_iff_ne]
      omega
def pointB (p : Point) : Bool := inB p.X (-1000) 1000 && inB p.Y (-1000) 1000
theorem impl_point_eq (p : Point) : impl_IsPoint p = some (pointB p) := by
  unfold impl_IsPoint pointB
  rw [within_eq, within_eq]
  cases inB p.X (-1000) 1000 <;> rfl
theorem spec_point_eq (p : Point) : spec_IsPoint p = some (pointB p) := by
  unfold spec_IsPoint pointB
  rw [l01In_eq, l01In_eq]
  cases inB p.X (-1000) 1000 <;> rfl
/-- Is a candidate none as described, at its place? -/
def candN (L : List Candidate) (i : Nat) (c : Candidate) : Bool := !wordB c.Code || (!phraseB c.Text || (!pointB c.At || (L.take i).any fun d => d.Code.toList == c.Code.toList))
def candsR (L : List Candidate) : Option Bool := match firstI (candN L) (fun _ _ => false) L 0 with
  | some r => some r
  | none => some (decide ((L.length : Int) ≤ 10))
theorem impl_cands_eq {L : List Candidate} (hL : L.length ≤ 1048576) (h : ∀ x ∈ L, smCandidate x) : impl_AreCandidates L = candsR L := by
  unfold impl_AreCandidates impl_findCandidate slices_IndexFunc_Candidate_impl_findCandidate_1 impl_findCandidate_1
  rw [loop_first (by omega) (candN L) (fun _ _ => false) (fun i x hx => by
    have hi : i < L.length := (List.getElem?_eq_some_iff.1 hx).1
    have hs := h x (List.mem_of_getElem? hx)
    have h0 := hs.s0
    have h1 := hs.s1
    rw [at_nat, hx, Option.bind_some, part_ok (by omega) (by omega) (by omega)]
    simp only [Option.bind_some, Int.toNat_zero, List.drop_zero, Int.toNat_natCast, Nat.sub_zero]
    rw [loop_idx (L := L.take i) (by rw [List.length_take]; omega) (fun d : Candidate => d.Code.toList == x.Code.toList) (fun k z hz => by rw [at_nat, hz]; rfl), impl_isWord x.Code (by unfold maxLen; omega), impl_isPhrase x.Text (by omega), impl_point_eq]
    simp only [Option.bind_some, idxP_any]
    unfold candN
    cases wordB x.Code <;> cases phraseB x.Text <;> cases pointB x.At <;> rfl)]
  unfold candsR
  cases firstI (candN L) (fun _ _ => false) L 0 <;> rfl
theorem spec_cands_eq {L : List Candidate} (hL : L.length ≤ 1048576) (h : ∀ x ∈ L, smCandidate x) : spec_AreCandidates L = candsR L := by
  unfold spec_AreCandidates spec_l30Find
  rw [loop_first (by omega) (candN L) (fun _ _ => false) (fun i x hx => by
    have hs := h x (List.mem_of_getElem? hx)
    have h0 := hs.s0
    have h1 := hs.s1
    rw [at_nat, hx, Option.bind_some, loop_idx (L := L) (by omega) (fun d : Candidate => d.Code.toList == x.Code.toList) (fun k z hz => by rw [at_nat, hz]; rfl), spec_isWord x.Code (by unfold maxLen; omega), spec_isPhrase x.Text (by omega), spec_point_eq]
    simp only [Option.bind_some, idx_take (p := fun d : Candidate => d.Code.toList == x.Code.toList) hx (by simp)]
    unfold candN
    cases wordB x.Code <;> cases phraseB x.Text <;> cases pointB x.At <;> rfl)]
  unfold candsR
  cases firstI (candN L) (fun _ _ => false) L 0 <;> rfl
end Go.Proofs.YtodgenjlhiiieaaGreatDoor.Sh
