/- Sizes, copies, comparisons and marks of the laws' types; bounds on lengths alone. -/
import Derived.Test.YtojhgfkohbfhhaaDoorQA
import Derived.Test.YtojhgfkohbfhhaaDoorRD
namespace Go.Proofs.YtojhgfkohbfhhaaDoor.Sh
open Go.RowKit Go.Lib
theorem markText_ok {k : Int} (h0 : 1 ≤ k) (h1 : k ≤ 1000000000000001) : ∃ t, laws_markText k = some t := by
  unfold laws_markText
  rw [decide_eq_false (show ¬ k ≤ 0 by omega), cond_false]
  obtain ⟨r, e, hr⟩ := loop_inv (body := fun (s3 : Int × ByteArray) => (bif (decide (s3.1 > 0)) then ((cat' (strOfNums ([(IntKind.wrap .u8 (w64 (48 + (Int.tmod s3.1 10))))] : List Int)) s3.2).bind fun x5 => some (.inl ((w64 (Int.tdiv s3.1 10)), x5))) else some (.inr s3.2)))
    (fun s => 0 ≤ s.1 ∧ s.1 ≤ 1000000000000001 ∧ (s.2.size : Int) + s.1 ≤ 1000000000000001) (fun s => s.1.toNat) (fun r : ByteArray => (r.size : Int) ≤ 1000000000000001) (fun s hs => by
      obtain ⟨h2, h3, h4⟩ := hs
      by_cases hp : s.1 > 0
      · left
        rw [decide_eq_true hp, cond_true, Int.tdiv_eq_ediv_of_nonneg h2, w64_id (n := s.1 / 10) (by omega) (by omega)]
        unfold cat'
        rw [if_pos (by rw [strOfNums_size]; simp; omega)]
        refine ⟨_, rfl, ?_⟩
        dsimp only
        rw [ByteArray.size_append, strOfNums_size]
        simp
        omega
      · right
        rw [decide_eq_false hp, cond_false]
        exact ⟨_, rfl, by omega⟩) (s := (k, ByteArray.mk #[])) ⟨by dsimp only; omega, h1, by show ((0 : Nat) : Int) + k ≤ _; omega⟩
  rw [e, Option.bind_some]
  unfold cat'
  rw [if_pos (by show 1 + r.size ≤ _; omega)]
  exact ⟨_, rfl⟩
noncomputable def mt (k : Int) : ByteArray := (laws_markText k).getD (ByteArray.mk #[])
theorem markText_eq {k : Int} (h0 : 1 ≤ k) (h1 : k ≤ 1000000000000001) : laws_markText k = some (mt k) := by
  obtain ⟨t, h⟩ := markText_ok h0 h1
  unfold mt
  rw [h]
  rfl
noncomputable abbrev fString : Int → ByteArray → ByteArray := fun k _ => mt k
abbrev cString : ByteArray → Nat := fun _ => 1
structure smCandidate (x : Candidate) : Prop where
  s0 : x.Code.size ≤ 1048576
  s1 : x.Text.size ≤ 1048576
theorem szCandidate_ok (x : Candidate) (hx : okCandidate x) (s : Int) (h0 : 0 ≤ s) (h1 : s ≤ 1048576) : ∃ v, laws_szCandidate x s = some v ∧ (v < 0 ∨ (0 ≤ v ∧ v ≤ s ∧ smCandidate x)) := by
  unfold laws_szCandidate
  have z0 := hx.Code
  unfold maxLen at z0
  rw [w64_id (n := s - (x.Code.size : Int)) (by omega) (by omega)]
  by_cases c0 : s - (x.Code.size : Int) < 0
  · rw [decide_eq_true c0]
    exact ⟨_, rfl, .inl (by omega)⟩
  rw [decide_eq_false c0, cond_false]
  have z1 := hx.Text
  unfold maxLen at z1
  rw [w64_id (n := s - (x.Code.size : Int) - (x.Text.size : Int)) (by omega) (by omega)]
  by_cases c1 : s - (x.Code.size : Int) - (x.Text.size : Int) < 0
  · rw [decide_eq_true c1]
    exact ⟨_, rfl, .inl (by omega)⟩
  rw [decide_eq_false c1, cond_false]
  exact ⟨_, rfl, .inr ⟨by omega, by omega, ⟨by omega, by omega⟩⟩⟩
structure smPoint (x : Point) : Prop where
  t : True
theorem toPoint_eq (x : Point) : laws_toPoint x = some x := by
  unfold laws_toPoint
  rfl
theorem eqPoint_self (x : Point) : laws_eqPoint x x = some true := by
  unfold laws_eqPoint
  simp
theorem toCandidate_eq (x : Candidate) : laws_toCandidate x = some x := by
  unfold laws_toCandidate
  simp only [toPoint_eq x.At, Option.bind_some]
theorem eqCandidate_self (x : Candidate) : laws_eqCandidate x x = some true := by
  unfold laws_eqCandidate
  simp [eqPoint_self x.At]
theorem szCandidateS_ok (L : List Candidate) (hL : L.length ≤ maxLen ∧ ∀ x ∈ L, okCandidate x) (l : Int) (h0 : 0 ≤ l) (h1 : l ≤ 1048576) : ∃ v, laws_szCandidateS L l = some v ∧ (v < 0 ∨ (0 ≤ v ∧ v ≤ l ∧ (L.length : Int) ≤ l ∧ ∀ x ∈ L, smCandidate x)) := by
  unfold laws_szCandidateS
  exact sz_list hL.1 laws_szCandidate smCandidate (fun x hx s h0 h1 => szCandidate_ok x (hL.2 x hx) s h0 h1) l h0 h1
theorem toCandidateS_eq (L : List Candidate) (hL : L.length ≤ 1048576) : laws_toCandidateS L = some L := by
  unfold laws_toCandidateS
  exact copy_list hL laws_toCandidate (fun x _ => toCandidate_eq x) _
theorem eqCandidateS_self (L : List Candidate) (hL : L.length ≤ 1000000000) : laws_eqCandidateS L L = some true := by
  unfold laws_eqCandidateS
  exact eq_list hL laws_eqCandidate (fun x _ => eqCandidate_self x)
end Go.Proofs.YtojhgfkohbfhhaaDoor.Sh
