/- Sizes, copies, comparisons and marks of the laws' types; bounds on lengths alone. -/
import Derived.Test.YtodgenjlhiiieaaGreatDoorQA
import Derived.Test.YtodgenjlhiiieaaGreatDoorRD
namespace Go.Proofs.YtodgenjlhiiieaaGreatDoor.Sh
open Go.RowKit Go.Lib
theorem markText_ok {k : Int} (h0 : 1 ≤ k) (h1 : k ≤ 1000000000000001) : ∃ t, laws_markText k = some t := by
  unfold laws_markText
  rw [decide_eq_false (show ¬ k ≤ 0 by omega), cond_false]
  obtain ⟨r, e, hr⟩ := loop_inv (body := fun (s3 : Int × ByteArray) => (bif (decide (s3.1 > 0)) then ((cat' (strOfNums ([(IntKind.wrap .u8 (w64 (48 + (Int.tmod s3.1 10))))] : List Int)) s3.2).bind fun x5 => some (.inl ((w64 (Int.tdiv s3.1 10)), x5))) else some (.inr s3.2)))
    (fun s => 0 ≤ s.1 ∧ s.1 ≤ 1000000000000001 ∧ (s.2.size : Int) + s.1 ≤ 1000000000000001) (fun s => s.1.toNat) (fun r : ByteArray => (r.size : Int) ≤ 1000000000000001) (fun s hs => by
      obtain ⟨h2, h3, h4⟩ := hs
      by_cases hp : s.1 > 0
      · left
        rw [decide_eq_true hp, cond_true, Int.tdiv_eq_ediv_of_nonneg h2, w64_id (n := s.1 / 10) (by omega) (by omega)]
        unfold cat'
        rw [if_pos (by rw [strOfNums_size]; simp; omega)]
        refine ⟨_, rfl, ?_⟩
        dsimp only
        rw [ByteArray.size_append, strOfNums_size]
        simp
        omega
      · right
        rw [decide_eq_false hp, cond_false]
        exact ⟨_, rfl, by omega⟩) (s := (k, ByteArray.mk #[])) ⟨by dsimp only; omega, h1, by show ((0 : Nat) : Int) + k ≤ _; omega⟩
  rw [e, Option.bind_some]
  unfold cat'
  rw [if_pos (by show 1 + r.size ≤ _; omega)]
  exact ⟨_, rfl⟩
noncomputable def mt (k : Int) : ByteArray := (laws_markText k).getD (ByteArray.mk #[])
theorem markText_eq {k : Int} (h0 : 1 ≤ k) (h1 : k ≤ 1000000000000001) : laws_markText k = some (mt k) := by
  obtain ⟨t, h⟩ := markText_ok h0 h1
  unfold mt
  rw [h]
  rfl
noncomputable abbrev fString : Int → ByteArray → ByteArray := fun k _ => mt k
abbrev cString : ByteArray → Nat := fun _ => 1
structure smCandidate (x : Candidate) : Prop where
  s0 : x.Code.size ≤ 1048576
  s1 : x.Text.size ≤ 1048576
theorem szCandidate_ok (x : Candidate) (hx : okCandidate x) (s : Int) (h0 : 0 ≤ s) (h1 : s ≤ 1048576) : ∃ v, laws_szCandidate x s = some v ∧ (v < 0 ∨ (0 ≤ v ∧ v ≤ s ∧ smCandidate x)) := by
  unfold laws_szCandidate
  have z0 := hx.Code
  unfold maxLen at z0
  rw [w64_id (n := s - (x.Code.size : Int)) (by omega) (by omega)]
  by_cases c0 : s - (x.Code.size : Int) < 0
  · rw [decide_eq_true c0]
    exact ⟨_, rfl, .inl (by omega)⟩
  rw [decide_eq_false c0, cond_false]
  have z1 := hx.Text
  unfold maxLen at z1
  rw [w64_id (n := s - (x.Code.size : Int) - (x.Text.size : Int)) (by omega) (by omega)]
  by_cases c1 : s - (x.Code.size : Int) - (x.Text.size : Int) < 0
  · rw [decide_eq_true c1]
    exact ⟨_, rfl, .inl (by omega)⟩
  rw [decide_eq_false c1, cond_false]
  exact ⟨_, rfl, .inr ⟨by omega, by omega, ⟨by omega, by omega⟩⟩⟩
theorem toPoint_eq (x : Point) : laws_toPoint x = some x := by
  unfold laws_toPoint
  rfl
theorem eqPoint_self (x : Point) : laws_eqPoint x x = some true := by
  unfold laws_eqPoint
  simp
theorem toCandidate_eq (x : Candidate) : laws_toCandidate x = some x := by
  unfold laws_toCandidate
  simp only [toPoint_eq x.At, Option.bind_some]
theorem eqCandidate_self (x : Candidate) : laws_eqCandidate x x = some true := by
  unfold laws_eqCandidate
  simp [eqPoint_self x.At]
noncomputable def fCandidate (k : Int) (_ : Candidate) : Candidate := Candidate.mk (mt k) (mt (k + 1)) (Point.mk (k + 2) (k + 3))
abbrev cCandidate : Candidate → Nat := fun _ => 4
theorem markCandidateS_eq (L : List Candidate) (k : Int) (h1 : 1 ≤ k) (h2 : k + sumN cCandidate L ≤ 1000000000000000) (h3 : L.length ≤ 1000000000000000) : laws_markCandidateS L k = some (k + sumN cCandidate L, markV fCandidate cCandidate k L) := by
  unfold laws_markCandidateS
  refine mark_list fCandidate cCandidate L k h1 h2 h3 fun k i L x h1 h2 hl hx => ?_
  have h2' : k + (4 : Nat) ≤ 1000000000000000 := h2
  have hi := (List.getElem?_eq_some_iff.1 hx).1
  have e1 : w64 (k + 1) = k + 1 := w64_id (by omega) (by omega)
  have e2 : w64 (k + 1 + 1) = k + 2 := by rw [w64_id (by omega) (by omega)]; omega
  have e3 : w64 (k + 2 + 1) = k + 3 := by rw [w64_id (by omega) (by omega)]; omega
  have e4 : w64 (k + 3 + 1) = k + 4 := by rw [w64_id (by omega) (by omega)]; omega
  have m0 : laws_markText k = some (mt k) := markText_eq (by omega) (by omega)
  have m1 : laws_markText (k + 1) = some (mt (k + 1)) := markText_eq (by omega) (by omega)
  simp only [m0, m1, e1, e2, e3, e4, at_nat, hx, Option.bind_some, Int.toNat_natCast, List.set_set, List.getElem?_set_self hi]
  rfl
theorem sumCandidate_small (L : List Candidate) (hl : L.length ≤ 1048576) (_ : ∀ x ∈ L, smCandidate x) : sumN cCandidate L ≤ 10000000000000 := by
  have h1 := sumN_le (c := cCandidate) (C := 4) (L := L) (fun _ _ => Nat.le_refl _)
  omega
theorem szCandidateS_ok (L : List Candidate) (hL : L.length ≤ maxLen ∧ ∀ x ∈ L, okCandidate x) (l : Int) (h0 : 0 ≤ l) (h1 : l ≤ 1048576) : ∃ v, laws_szCandidateS L l = some v ∧ (v < 0 ∨ (0 ≤ v ∧ v ≤ l ∧ (L.length : Int) ≤ l ∧ ∀ x ∈ L, smCandidate x)) := by
  unfold laws_szCandidateS
  exact sz_list hL.1 laws_szCandidate smCandidate (fun x hx s h0 h1 => szCandidate_ok x (hL.2 x hx) s h0 h1) l h0 h1
theorem toCandidateS_eq (L : List Candidate) (hL : L.length ≤ 1048576) : laws_toCandidateS L = some L := by
  unfold laws_toCandidateS
  exact copy_list hL laws_toCandidate (fun x _ => toCandidate_eq x) _
theorem eqCandidateS_self (L : List Candidate) (hL : L.length ≤ 1000000000) : laws_eqCandidateS L L = some true := by
  unfold laws_eqCandidateS
  exact eq_list hL laws_eqCandidate (fun x _ => eqCandidate_self x)
structure smSite (x : Site) : Prop where
  s0 : x.Code.size ≤ 1048576
theorem szSite_ok (x : Site) (hx : okSite x) (s : Int) (h0 : 0 ≤ s) (h1 : s ≤ 1048576) : ∃ v, laws_szSite x s = some v ∧ (v < 0 ∨ (0 ≤ v ∧ v ≤ s ∧ smSite x)) := by
  unfold laws_szSite
  have z0 := hx.Code
  unfold maxLen at z0
  rw [w64_id (n := s - (x.Code.size : Int)) (by omega) (by omega)]
  by_cases c0 : s - (x.Code.size : Int) < 0
  · rw [decide_eq_true c0]
    exact ⟨_, rfl, .inl (by omega)⟩
  rw [decide_eq_false c0, cond_false]
  exact ⟨_, rfl, .inr ⟨by omega, by omega, ⟨by omega⟩⟩⟩
theorem toSite_eq (x : Site) : laws_toSite x = some x := by
  unfold laws_toSite
  simp only [toPoint_eq x.At, Option.bind_some]
theorem eqSite_self (x : Site) : laws_eqSite x x = some true := by
  unfold laws_eqSite
  simp [eqPoint_self x.At]
noncomputable def fSite (k : Int) (_ : Site) : Site := Site.mk (mt k) (Point.mk (k + 1) (k + 2))
abbrev cSite : Site → Nat := fun _ => 3
theorem markSiteS_eq (L : List Site) (k : Int) (h1 : 1 ≤ k) (h2 : k + sumN cSite L ≤ 1000000000000000) (h3 : L.length ≤ 1000000000000000) : laws_markSiteS L k = some (k + sumN cSite L, markV fSite cSite k L) := by
  unfold laws_markSiteS
  refine mark_list fSite cSite L k h1 h2 h3 fun k i L x h1 h2 hl hx => ?_
  have h2' : k + (3 : Nat) ≤ 1000000000000000 := h2
  have hi := (List.getElem?_eq_some_iff.1 hx).1
  have e1 : w64 (k + 1) = k + 1 := w64_id (by omega) (by omega)
  have e2 : w64 (k + 1 + 1) = k + 2 := by rw [w64_id (by omega) (by omega)]; omega
  have e3 : w64 (k + 2 + 1) = k + 3 := by rw [w64_id (by omega) (by omega)]; omega
  have m0 : laws_markText k = some (mt k) := markText_eq (by omega) (by omega)
  simp only [m0, e1, e2, e3, at_nat, hx, Option.bind_some, Int.toNat_natCast, List.set_set, List.getElem?_set_self hi]
  rfl
theorem sumSite_small (L : List Site) (hl : L.length ≤ 1048576) (_ : ∀ x ∈ L, smSite x) : sumN cSite L ≤ 10000000000000 := by
  have h1 := sumN_le (c := cSite) (C := 3) (L := L) (fun _ _ => Nat.le_refl _)
  omega
theorem szSiteS_ok (L : List Site) (hL : L.length ≤ maxLen ∧ ∀ x ∈ L, okSite x) (l : Int) (h0 : 0 ≤ l) (h1 : l ≤ 1048576) : ∃ v, laws_szSiteS L l = some v ∧ (v < 0 ∨ (0 ≤ v ∧ v ≤ l ∧ (L.length : Int) ≤ l ∧ ∀ x ∈ L, smSite x)) := by
  unfold laws_szSiteS
  exact sz_list hL.1 laws_szSite smSite (fun x hx s h0 h1 => szSite_ok x (hL.2 x hx) s h0 h1) l h0 h1
theorem toSiteS_eq (L : List Site) (hL : L.length ≤ 1048576) : laws_toSiteS L = some L := by
  unfold laws_toSiteS
  exact copy_list hL laws_toSite (fun x _ => toSite_eq x) _
theorem eqSiteS_self (L : List Site) (hL : L.length ≤ 1000000000) : laws_eqSiteS L L = some true := by
  unfold laws_eqSiteS
  exact eq_list hL laws_eqSite (fun x _ => eqSite_self x)
structure smDescription (x : Description) : Prop where
  s2 : x.Unit.size ≤ 1048576
  s4 : x.A.size ≤ 1048576
  s5 : x.B.size ≤ 1048576
theorem szDescription_ok (x : Description) (hx : okDescription x) (s : Int) (h0 : 0 ≤ s) (h1 : s ≤ 1048576) : ∃ v, laws_szDescription x s = some v ∧ (v < 0 ∨ (0 ≤ v ∧ v ≤ s ∧ smDescription x)) := by
  unfold laws_szDescription
  have z0 := hx.Unit
  unfold maxLen at z0
  rw [w64_id (n := s - (x.Unit.size : Int)) (by omega) (by omega)]
  by_cases c0 : s - (x.Unit.size : Int) < 0
  · rw [decide_eq_true c0]
    exact ⟨_, rfl, .inl (by omega)⟩
  rw [decide_eq_false c0, cond_false]
  have z1 := hx.A
  unfold maxLen at z1
  rw [w64_id (n := s - (x.Unit.size : Int) - (x.A.size : Int)) (by omega) (by omega)]
  by_cases c1 : s - (x.Unit.size : Int) - (x.A.size : Int) < 0
  · rw [decide_eq_true c1]
    exact ⟨_, rfl, .inl (by omega)⟩
  rw [decide_eq_false c1, cond_false]
  have z2 := hx.B
  unfold maxLen at z2
  rw [w64_id (n := s - (x.Unit.size : Int) - (x.A.size : Int) - (x.B.size : Int)) (by omega) (by omega)]
  by_cases c2 : s - (x.Unit.size : Int) - (x.A.size : Int) - (x.B.size : Int) < 0
  · rw [decide_eq_true c2]
    exact ⟨_, rfl, .inl (by omega)⟩
  rw [decide_eq_false c2, cond_false]
  exact ⟨_, rfl, .inr ⟨by omega, by omega, ⟨by omega, by omega, by omega⟩⟩⟩
theorem toDescription_eq (x : Description) : laws_toDescription x = some x := by
  unfold laws_toDescription
  rfl
theorem eqDescription_self (x : Description) : laws_eqDescription x x = some true := by
  unfold laws_eqDescription
  simp
noncomputable def fDescription (k : Int) (_ : Description) : Description := Description.mk k (k + 1) (mt (k + 2)) (k + 3) (mt (k + 4)) (mt (k + 5))
abbrev cDescription : Description → Nat := fun _ => 6
theorem markDescriptionS_eq (L : List Description) (k : Int) (h1 : 1 ≤ k) (h2 : k + sumN cDescription L ≤ 1000000000000000) (h3 : L.length ≤ 1000000000000000) : laws_markDescriptionS L k = some (k + sumN cDescription L, markV fDescription cDescription k L) := by
  unfold laws_markDescriptionS
  refine mark_list fDescription cDescription L k h1 h2 h3 fun k i L x h1 h2 hl hx => ?_
  have h2' : k + (6 : Nat) ≤ 1000000000000000 := h2
  have hi := (List.getElem?_eq_some_iff.1 hx).1
  have e1 : w64 (k + 1) = k + 1 := w64_id (by omega) (by omega)
  have e2 : w64 (k + 1 + 1) = k + 2 := by rw [w64_id (by omega) (by omega)]; omega
  have e3 : w64 (k + 2 + 1) = k + 3 := by rw [w64_id (by omega) (by omega)]; omega
  have e4 : w64 (k + 3 + 1) = k + 4 := by rw [w64_id (by omega) (by omega)]; omega
  have e5 : w64 (k + 4 + 1) = k + 5 := by rw [w64_id (by omega) (by omega)]; omega
  have e6 : w64 (k + 5 + 1) = k + 6 := by rw [w64_id (by omega) (by omega)]; omega
  have m2 : laws_markText (k + 2) = some (mt (k + 2)) := markText_eq (by omega) (by omega)
  have m4 : laws_markText (k + 4) = some (mt (k + 4)) := markText_eq (by omega) (by omega)
  have m5 : laws_markText (k + 5) = some (mt (k + 5)) := markText_eq (by omega) (by omega)
  simp only [m2, m4, m5, e1, e2, e3, e4, e5, e6, at_nat, hx, Option.bind_some, Int.toNat_natCast, List.set_set, List.getElem?_set_self hi]
  rfl
theorem sumDescription_small (L : List Description) (hl : L.length ≤ 1048576) (_ : ∀ x ∈ L, smDescription x) : sumN cDescription L ≤ 10000000000000 := by
  have h1 := sumN_le (c := cDescription) (C := 6) (L := L) (fun _ _ => Nat.le_refl _)
  omega
theorem szDescriptionS_ok (L : List Description) (hL : L.length ≤ maxLen ∧ ∀ x ∈ L, okDescription x) (l : Int) (h0 : 0 ≤ l) (h1 : l ≤ 1048576) : ∃ v, laws_szDescriptionS L l = some v ∧ (v < 0 ∨ (0 ≤ v ∧ v ≤ l ∧ (L.length : Int) ≤ l ∧ ∀ x ∈ L, smDescription x)) := by
  unfold laws_szDescriptionS
  exact sz_list hL.1 laws_szDescription smDescription (fun x hx s h0 h1 => szDescription_ok x (hL.2 x hx) s h0 h1) l h0 h1
theorem toDescriptionS_eq (L : List Description) (hL : L.length ≤ 1048576) : laws_toDescriptionS L = some L := by
  unfold laws_toDescriptionS
  exact copy_list hL laws_toDescription (fun x _ => toDescription_eq x) _
theorem eqDescriptionS_self (L : List Description) (hL : L.length ≤ 1000000000) : laws_eqDescriptionS L L = some true := by
  unfold laws_eqDescriptionS
  exact eq_list hL laws_eqDescription (fun x _ => eqDescription_self x)
theorem markStringS_eq (L : List ByteArray) (k : Int) (h1 : 1 ≤ k) (h2 : k + sumN cString L ≤ 1000000000000000) (h3 : L.length ≤ 1000000000000000) : laws_markStringS L k = some (k + sumN cString L, markV fString cString k L) := by
  unfold laws_markStringS
  refine mark_list fString cString L k h1 h2 h3 fun k i L x h1 h2 hl hx => ?_
  have h2' : k + (1 : Nat) ≤ 1000000000000000 := h2
  simp only [at_nat, hx, w64_id (n := k + 1) (by omega) (by omega), markText_eq (k := k) (by omega) (by omega), Option.bind_some]
  rfl
theorem heldStringS_eq (L : List ByteArray) (k : Int) (h1 : 1 ≤ k) (h2 : k + sumN cString L ≤ 1000000000000000) (h3 : L.length ≤ 1000000000000000) : laws_heldStringS (markV fString cString k L) k = some (k + sumN cString L) := by
  unfold laws_heldStringS
  refine held_list fString cString h3 k h1 h2 fun i k x h1 h2 hx => ?_
  have h2' : k + (1 : Nat) ≤ 1000000000000000 := h2
  simp only [at_nat, hx, markText_eq (k := k) (by omega) (by omega), Option.bind_some, beq_self_eq_true, Bool.not_true, cond_false]
  rw [w64_id (by omega) (by omega)]
  rfl
theorem eqStringS_self (L : List ByteArray) (hL : L.length ≤ 1000000000) : laws_eqStringS L L = some true := by
  unfold laws_eqStringS
  rw [bne_self_eq_false, cond_false]
  exact loop_same (by omega) (fun i x hx => by rw [at_nat, hx]; simp)
end Go.Proofs.YtodgenjlhiiieaaGreatDoor.Sh
