/- The law FnPlaces answers true; no condition but the bounds of its arguments' types. -/
import Derived.Test.YtpohkmbkohjahaaGreatDoorMPLA
namespace Go.Proofs.YtpohkmbkohjahaaGreatDoor.Sh
open Go.RowKit Go.Lib
theorem no_first {α : Type} {p : Nat → α → Bool} {L : List α} (h : ∀ (i : Nat) x, L[i]? = some x → p i x = false) : (firstI p (fun _ _ => ()) L 0).isSome = false := by
  cases hf : (firstI p (fun _ _ => ()) L 0).isSome with
  | false => rfl
  | true =>
    have key : ∀ (M : List α) (k : Nat), (firstI p (fun _ _ => ()) M k).isSome = true → ∃ i x, M[i]? = some x ∧ p (k + i) x = true := by
      intro M
      induction M with
      | nil => intro k h; cases h
      | cons y M ih =>
        intro k h
        unfold firstI at h
        cases hb : p k y
        · rw [hb, cond_false] at h
          obtain ⟨i, x, h1, h2⟩ := ih (k + 1) h
          exact ⟨i + 1, x, by simpa using h1, by rw [show k + (i + 1) = k + 1 + i by omega]; exact h2⟩
        · exact ⟨0, y, rfl, hb⟩
    obtain ⟨i, x, h1, h2⟩ := key L 0 hf
    rw [Nat.zero_add, h i x h1] at h2
    cases h2
def okPair (m n : Name) : Prop := ((n.Status == 0) && clashN n m) = false
theorem namesB_iff {L : List Name} : namesB L = true ↔ L.length ≤ 12 ∧ (∀ n ∈ L, nameB n = true) ∧ L.Pairwise okPair := by
  unfold namesB
  rw [Bool.and_eq_true, Bool.not_eq_true', decide_eq_true_eq]
  constructor
  · rintro ⟨h, hl⟩
    have hb : ∀ (i : Nat) x, L[i]? = some x → badN L i x = false := fun i x hx => by
      have := firstI_no h i x hx
      rwa [Nat.zero_add] at this
    refine ⟨hl, fun n hn => ?_, ?_⟩
    · obtain ⟨i, hi⟩ := List.mem_iff_getElem?.1 hn
      have := hb i n hi
      unfold badN at this
      rw [Bool.or_eq_false_iff, Bool.not_eq_false'] at this
      exact this.1
    · rw [List.pairwise_iff_getElem]
      intro i j hi hj hij
      have := hb j _ (List.getElem?_eq_getElem hj)
      unfold badN at this
      rw [Bool.or_eq_false_iff] at this
      unfold okPair
      cases hst : (L[j].Status == 0)
      · rfl
      · rw [hst, Bool.true_and] at this
        rw [Bool.true_and]
        have h2 := List.any_eq_false.1 this.2 L[i] (by
          have h4 : (L.take j)[i]? = some L[i] := by rw [List.getElem?_take_of_lt hij]; exact List.getElem?_eq_getElem hi
          exact List.mem_of_getElem? h4)
        simpa using h2
  · rintro ⟨hl, hn, hp⟩
    refine ⟨no_first fun i x hx => ?_, hl⟩
    unfold badN
    rw [hn x (List.mem_of_getElem? hx), Bool.not_true, Bool.false_or]
    cases hst : (x.Status == 0)
    · rfl
    · rw [Bool.true_and, List.any_eq_false]
      intro m hm hc
      obtain ⟨k, hk⟩ := List.mem_iff_getElem?.1 hm
      have hkl := (List.getElem?_eq_some_iff.1 hk).1
      rw [List.length_take] at hkl
      rw [List.getElem?_take_of_lt (by omega)] at hk
      obtain ⟨hi, rfl⟩ := List.getElem?_eq_some_iff.1 hx
      obtain ⟨hk1, rfl⟩ := List.getElem?_eq_some_iff.1 hk
      have := List.pairwise_iff_getElem.1 hp k i hk1 hi (by omega)
      unfold okPair at this
      rw [hst, hc] at this
      cases this
theorem cut_of {y : Int} {n x : Name} (h : x ∈ cutN y n) : n.Years.From < y ∧ x = Name.mk n.Text n.Language n.Status (Span.mk n.Years.From (minI n.Years.To (y - 1))) := by
  unfold cutN at h
  cases hd : decide (n.Years.From < y)
  · rw [hd] at h; simp at h
  · rw [hd] at h
    exact ⟨by simpa using hd, by simpa using h⟩
theorem minI_le {a b : Int} : minI a b ≤ a ∧ minI a b ≤ b ∧ (minI a b = a ∨ minI a b = b) := by
  unfold minI
  split <;> omega
theorem cut_pair {y : Int} {m n x z : Name} (hx : x ∈ cutN y m) (hz : z ∈ cutN y n) (h : okPair m n) : okPair x z := by
  obtain ⟨_, rfl⟩ := cut_of hx
  obtain ⟨_, rfl⟩ := cut_of hz
  unfold okPair clashN at *
  rw [Bool.eq_false_iff] at h ⊢
  intro hc
  apply h
  simp only [Bool.and_eq_true, decide_eq_true_eq] at hc ⊢
  have h1 := (minI_le (a := m.Years.To) (b := y - 1)).1
  have h2 := (minI_le (a := n.Years.To) (b := y - 1)).1
  obtain ⟨q1, q2, q3, q4, q5⟩ := hc
  exact ⟨q1, q2, q3, by omega, by omega⟩
theorem flat_pair {y : Int} : ∀ {L : List Name}, L.Pairwise okPair → (L.flatMap (cutN y)).Pairwise okPair
  | [], _ => by simp
  | n :: L, h => by
    have h1 := List.pairwise_cons.1 h
    rw [List.flatMap_cons]
    refine List.pairwise_append.2 ⟨?_, flat_pair h1.2, fun a ha b hb => ?_⟩
    · have := cutN_len y n
      cases hc : cutN y n with
      | nil => exact List.Pairwise.nil
      | cons a l =>
        rw [hc, List.length_cons] at this
        have hl : l = [] := List.length_eq_zero_iff.1 (by omega)
        rw [hl]
        exact List.pairwise_singleton ..
    · obtain ⟨m, hm, hb⟩ := List.mem_flatMap.1 hb
      exact cut_pair ha hb (h1.1 m hm)
/-- A place that ends is as described. -/
theorem end_place {p : Place} (h : placeB p = true) {y : Int} (hy : inB y (-3000) 3000 = true) (hh : inB (y - 1) p.Years.From p.Years.To = true) : placeB (endP y p) = true := by
  unfold placeB at h ⊢
  simp only [Bool.and_eq_true] at h
  obtain ⟨h1, h2, h3, h4, h5⟩ := h
  obtain ⟨n1, n2, n3⟩ := namesB_iff.1 h4
  rw [inB_iff] at hy hh
  unfold spanB at h3
  simp only [Bool.and_eq_true, inB_iff, decide_eq_true_eq] at h3
  have hs : spanB (endP y p).Years = true := by
    unfold spanB
    show (inB p.Years.From (-3000) 3000 && (inB (y - 1) (-3000) 3000 && decide (p.Years.From ≤ y - 1))) = true
    simp only [Bool.and_eq_true, inB_iff, decide_eq_true_eq]
    omega
  have hlen : (p.Names.flatMap (cutN y)).length ≤ p.Names.length := flat_leP (cutN_len y) _
  have hnm : ∀ x ∈ p.Names.flatMap (cutN y), nameB x = true ∧ within2 (endP y p) x = true := fun x hx => by
    obtain ⟨n, hn, hx⟩ := List.mem_flatMap.1 hx
    obtain ⟨hlt, rfl⟩ := cut_of hx
    have q1 := n2 n hn
    have q2 := List.all_eq_true.1 h5 n hn
    unfold nameB spanB at q1
    unfold within2 at q2
    simp only [Bool.and_eq_true, inB_iff, decide_eq_true_eq] at q1 q2
    have hm := minI_le (a := n.Years.To) (b := y - 1)
    constructor
    · unfold nameB spanB
      simp only [Bool.and_eq_true, inB_iff, decide_eq_true_eq]
      refine ⟨q1.1, q1.2.1, q1.2.2.1, ?_, ?_, ?_⟩ <;> omega
    · unfold within2
      show (decide (p.Years.From ≤ n.Years.From) && decide (minI n.Years.To (y - 1) ≤ y - 1)) = true
      simp only [Bool.and_eq_true, decide_eq_true_eq]
      omega
  have hn : namesB (endP y p).Names = true := namesB_iff.2 ⟨by show (p.Names.flatMap (cutN y)).length ≤ 12; omega, fun x hx => (hnm x hx).1, flat_pair n3⟩
  have ha : (endP y p).Names.all (within2 (endP y p)) = true := List.all_eq_true.2 fun x hx => (hnm x hx).2
  rw [hs, hn, ha]
  show (wordB p.Code && (inB p.Class 0 19 && (true && (true && true)))) = true
  rw [h1, h2]
  rfl
/-- What EndPlace gives where it succeeds. -/
theorem endV_ok {L : List Place} (hR : ∀ x ∈ L, PlR x) {c : ByteArray} {y : Int} (h : (endV L c y).2 = 0) : ∃ (i : Nat) (p : Place), L[i]? = some p ∧ p.Code = c ∧ (endV L c y).1 = L.set i (endP y p) ∧ inB y (-3000) 3000 = true ∧ inB (y - 1) p.Years.From p.Years.To = true ∧ regB (L.set i (endP y p)) = true ∧ regB L = true := by
  unfold endV at h ⊢
  cases h0 : (regC L c y == 0)
  · rw [h0, cond_false] at h
    have h : regC L c y = 0 := h
    rw [h] at h0
    cases h0
  · obtain ⟨h1, h2⟩ := regC_zero h0
    rw [h0, cond_true] at h
    rw [cond_true]
    cases hp : L[(idxP (codeP c) L).toNat]? with
    | none => rw [hp] at h; cases h
    | some p =>
      rw [hp] at h
      cases ha : L.any (codeP c)
      · simp only [ha, cond_false] at h; cases h
      · cases hh : inB (y - 1) p.Years.From p.Years.To
        · simp only [ha, hh, cond_true, cond_false] at h; cases h
        · have hge := idxP_any (codeP c) L
          rw [ha, decide_eq_true_eq] at hge
          obtain ⟨x, hx, hcx⟩ := idxP_get (codeP c) (L := L) (i := (idxP (codeP c) L).toNat) (by omega)
          rw [hp] at hx
          injection hx with hx
          subst hx
          have hcode : p.Code = c := beqL.1 hcx
          obtain ⟨h3, h4, h5⟩ := regB_iff.1 h1
          have hil := (List.getElem?_eq_some_iff.1 hp).1
          refine ⟨_, p, hp, hcode, by simp only [hh, cond_true], h2, hh, ?_, h1⟩
          generalize (idxP (codeP c) L).toNat = i at hp hil
          refine regB_iff.2 ⟨?_, fun x hx => ?_, by rw [List.length_set]; exact h5⟩
          · have hcd : ∀ (j : Nat) (x : Place), (L.set i (endP y p))[j]? = some x → ∃ x', L[j]? = some x' ∧ x.Code = x'.Code := fun j x hx => by
              rw [List.getElem?_set] at hx
              by_cases e : i = j
              · subst e
                rw [if_pos rfl, if_pos hil] at hx
                injection hx with hx
                exact ⟨p, hp, by rw [← hx]; rfl⟩
              · rw [if_neg e] at hx
                exact ⟨x, hx, rfl⟩
            intro j k x z hjk hx hz
            obtain ⟨x', q1, q2⟩ := hcd j x hx
            obtain ⟨z', q3, q4⟩ := hcd k z hz
            rw [q2, q4]
            exact h3 j k x' z' hjk q1 q3
          · rcases List.mem_or_eq_of_mem_set hx with hx | rfl
            · exact h4 x hx
            · exact end_place (h4 p (List.mem_of_getElem? hp)) h2 hh
theorem likeNames_self (L : List Name) (hL : L.length ≤ 1048576) : laws_likeNames L L = some true := by
  unfold laws_likeNames
  rw [bne_self_eq_false, cond_false, loop_any (by omega) (fun _ => false) false (fun i x hx => by
    rw [at_nat, hx]
    simp)]
  have : (L.any fun _ => false) = false := by simp
  rw [this]
  rfl
theorem likePlaces_self (L : List Place) (hL : L.length ≤ 1048576) (h : ∀ x ∈ L, PlR x) : laws_likePlaces L L = some true := by
  unfold laws_likePlaces
  rw [bne_self_eq_false, cond_false, loop_any (by omega) (fun _ => false) false (fun i x hx => by
    have hat : at' L (i : Int) = some x := by rw [at_nat, hx]
    simp only [hat, Option.bind_some, beq_self_eq_true, Bool.not_true, cond_false, bne_self_eq_false, Bool.and_self, likeNames_self x.Names (h x (List.mem_of_getElem? hx)).l])]
  have : (L.any fun _ => false) = false := by simp
  rw [this]
  rfl
theorem likeTextsP (L : List ByteArray) (hL : L.length ≤ 1048576) : laws_likeTexts L L = some true := by
  unfold laws_likeTexts
  rw [bne_self_eq_false, cond_false, loop_any (by omega) (fun _ => false) false (fun i x hx => by
    rw [at_nat, hx]
    simp)]
  have : (L.any fun _ => false) = false := by simp
  rw [this]
  rfl
theorem hasTextP (L : List ByteArray) (hL : L.length ≤ 1048576) (x : ByteArray) : laws_hasText L x = some (L.any fun y => y.toList == x.toList) := by
  unfold laws_hasText
  rw [loop_any (by omega) (fun y => y.toList == x.toList) true (fun i y hy => by
    rw [at_nat, hy]
    rfl)]
  cases L.any fun y => y.toList == x.toList <;> rfl
theorem any_code {M : List ByteArray} {c : ByteArray} : (M.any fun y => y.toList == c.toList) = true ↔ c ∈ M := by
  rw [List.any_eq_true]
  exact ⟨fun ⟨x, h1, h2⟩ => by rw [← beqL.1 h2]; exact h1, fun h => ⟨c, h, beqL.2 rfl⟩⟩
theorem inV_len (L : List Place) (y : Int) : (inV L y).1.length ≤ L.length := by
  unfold inV
  cases yearC L y != 0
  · exact codes_len _ L
  · simp
theorem codes_count (P : Place → Bool) : ∀ L : List Place, (codesL P L).length = (L.filter P).length
  | [] => rfl
  | p :: L => by
    have ih := codes_count P L
    unfold codesL at ih ⊢
    rw [List.flatMap_cons, List.length_append, ih, List.filter_cons]
    cases h : P p
    · simp
    · simp
      omega
/-- In the year that a place ends it is no longer there, and the year before it is. -/
theorem end_told {L : List Place} (hL : L.length ≤ 1000) (hR : ∀ x ∈ L, PlR x) {c : ByteArray} {y : Int} (h : (endV L c y).2 = 0) : (∀ x ∈ (endV L c y).1, PlR x) ∧ (endV L c y).1.length ≤ 1000 ∧ regB (endV L c y).1 = true ∧ -3000 ≤ y ∧ y ≤ 3000 ∧
    (inV (endV L c y).1 y).2 = 0 ∧ (inV (endV L c y).1 (y - 1)).2 = 0 ∧ c ∉ (inV (endV L c y).1 y).1 ∧ c ∈ (inV (endV L c y).1 (y - 1)).1 := by
  obtain ⟨i, p, hp, hcode, he, hy, hh, hreg, hregL⟩ := endV_ok hR h
  rw [he]
  have hil := (List.getElem?_eq_some_iff.1 hp).1
  have hRe : ∀ x ∈ L.set i (endP y p), PlR x := fun x hx => by
    rcases List.mem_or_eq_of_mem_set hx with hx | rfl
    · exact hR x hx
    · exact endP_R (hR p (List.mem_of_getElem? hp)) y
  have hpb := (regB_iff.1 hregL).2.1 p (List.mem_of_getElem? hp)
  have hsp : -3000 ≤ p.Years.From := by
    unfold placeB spanB at hpb
    simp only [Bool.and_eq_true, inB_iff] at hpb
    exact hpb.2.2.1.1.1
  have hyi := inB_iff.1 hy
  have hhi := inB_iff.1 hh
  have hy1 : inB (y - 1) (-3000) 3000 = true := inB_iff.2 (by omega)
  have c0 : yearC (L.set i (endP y p)) y = 0 := by unfold yearC; rw [hreg, hy]; rfl
  have c1 : yearC (L.set i (endP y p)) (y - 1) = 0 := by unfold yearC; rw [hreg, hy1]; rfl
  have v0 : inV (L.set i (endP y p)) y = (codesL (fun p => inB y p.Years.From p.Years.To) (L.set i (endP y p)), 0) := by unfold inV; rw [c0]; rfl
  have v1 : inV (L.set i (endP y p)) (y - 1) = (codesL (fun p => inB (y - 1) p.Years.From p.Years.To) (L.set i (endP y p)), 0) := by unfold inV; rw [c1]; rfl
  have hset : (L.set i (endP y p))[i]? = some (endP y p) := by rw [List.getElem?_set, if_pos rfl, if_pos hil]
  refine ⟨hRe, by rw [List.length_set]; exact hL, hreg, by omega, by omega, by rw [v0], by rw [v1], fun hm => ?_, ?_⟩
  · rw [v0] at hm
    obtain ⟨q, hq, hin, hqc⟩ := mem_codes.1 hm
    obtain ⟨j, hj⟩ := List.mem_iff_getElem?.1 hq
    have hs := (regB_iff.1 hreg).1
    have hcc : (endP y p).Code = c := hcode
    rcases Nat.lt_trichotomy j i with h1 | h1 | h1
    · have := hs j i q _ h1 hj hset
      rw [hqc, hcc, ltB_irrefl] at this
      cases this
    · subst h1
      rw [hset] at hj
      injection hj with hj
      rw [← hj] at hin
      have := (inB_iff.1 hin).2
      have e : (endP y p).Years.To = y - 1 := rfl
      omega
    · have := hs i j _ q h1 hset hj
      rw [hqc, hcc, ltB_irrefl] at this
      cases this
  · rw [v1]
    refine mem_codes.2 ⟨endP y p, List.mem_of_getElem? hset, ?_, hcode⟩
    show inB (y - 1) p.Years.From (y - 1) = true
    exact inB_iff.2 (by omega)
theorem FnPlaces_true (c : List Int) (h : c.length ≤ maxLen ∧ ∀ x ∈ c, okU8 x) : laws_FnPlaces c = some true := by
  unfold laws_FnPlaces laws_big
  rw [Option.bind_some]
  by_cases hb : (c.length : Int) > 4096
  · rw [decide_eq_true hb]
    rfl
  rw [decide_eq_false hb, cond_false]
  have hc : CodeOk c := ⟨by omega, h.2⟩
  obtain ⟨⟨A, p⟩, e1, hA, hp⟩ := drawAdd_G hc
  obtain ⟨⟨E, d, y⟩, e2, hE, hd⟩ := drawEnd_G hc
  obtain ⟨⟨X, z⟩, e3, hX⟩ := drawIn_G hc
  have hA : ShPs 30 A := hA
  have hp : ShP p := hp
  have hE : ShPs 30 E := hE
  have hd : d.size ≤ 100 := hd
  have hX : ShPs 30 X := hX
  have lA := hA.1
  have lE := hE.1
  have lX := hX.1
  obtain ⟨r, r1, r2, hr⟩ := addPlace_full (L := A) (by omega) hA.r hp.r
  have hE1 := impl_end_eq (L := E) (by omega) hE.r (c := d) (by omega) y
  have hE2 := spec_end_place_eq (L := E) (by omega) hE.r (c := d) (by omega) y
  have hI1 := impl_in_eq (L := X) (by omega) hX.r z
  have hI2 := spec_in_eq (L := X) (by omega) hX.r z
  have hIl := inV_len X z
  obtain ⟨g, g1, g2, gl, gy, gh⟩ := hom_eq (L := X) (by omega) hX.r z
  have hrl : r.1.length ≤ 1000 ∧ ∀ x ∈ r.1, PlR x := by
    rcases hr with ⟨_, h5⟩ | ⟨_, _, _, k, hk, h5, _⟩
    · rw [h5]
      exact ⟨by simp, by simp⟩
    · rw [h5]
      refine ⟨by rw [insL_len hk]; omega, fun x hx => ?_⟩
      rcases insL_mem.1 hx with rfl | hx
      · exact hp.r
      · exact hA.r x hx
  have hel : (endV E d y).1.length ≤ 1000 ∧ ∀ x ∈ (endV E d y).1, PlR x := by
    by_cases hz : (endV E d y).2 = 0
    · obtain ⟨q1, q2, _⟩ := end_told (by omega) hE.r hz
      exact ⟨q2, q1⟩
    · have : (endV E d y).1 = [] := by
        unfold endV at hz ⊢
        cases h0 : (regC E d y == 0)
        · rfl
        · rw [h0, cond_true] at hz
          rw [cond_true]
          cases hq : E[(idxP (codeP d) E).toNat]? with
          | none => rfl
          | some q =>
            rw [hq] at hz
            cases ha : E.any (codeP d)
            · simp only [ha, cond_false]
            · cases hh : inB (y - 1) q.Years.From q.Years.To
              · simp only [ha, hh, cond_true, cond_false]
              · simp only [ha, hh, cond_true] at hz
                exact absurd trivial hz
      rw [this]
      exact ⟨by simp, by simp⟩
  rw [e1, Option.bind_some]
  simp only [r1, r2, Option.bind_some]
  rw [e2, Option.bind_some]
  simp only [hE1, hE2, Option.bind_some]
  rw [e3, Option.bind_some]
  simp only [hI1, hI2, g1, g2, Option.bind_some, bne_self_eq_false, cond_false, likePlaces_self r.1 (by omega) hrl.2, likePlaces_self (endV E d y).1 (by omega) hel.2, likeTextsP (inV X z).1 (by omega), likeTextsP g.1 (by omega), Bool.not_true, impl_isReg (L := X) (by omega) hX.r, spec_isReg (L := X) (by omega) hX.r, impl_isPlace hp.r, spec_isPlace hp.r, beq_self_eq_true]
  have hend : (bif (endV E d y).2 == 0 then ((impl_PlacesIn (endV E d y).1 y).bind fun x25 => ((impl_PlacesIn (endV E d y).1 (w64 (y - 1))).bind fun x26 => (((bif (x25.2 != 0) then some true else (bif (x26.2 != 0) then some true else ((laws_hasText x25.1 d).bind fun x27 => (bif x27 then some true else ((laws_hasText x26.1 d).bind fun x28 => (bif (!x28) then some true else ((impl_IsRegister (endV E d y).1).bind fun x29 => some (!x29))))))))).bind fun (j30 : Bool) => (bif j30 then some (Sum.inr false) else some (Sum.inl ()))))) else some (Sum.inl ()) : Option (Unit ⊕ Bool)) = some (.inl ()) := by
    cases hz : ((endV E d y).2 == 0)
    · rfl
    · obtain ⟨q1, q2, q3, q4, q5, q6, q7, q8, q9⟩ := end_told (by omega) hE.r (beq_iff_eq.1 hz)
      have l1 := inV_len (endV E d y).1 y
      have l2 := inV_len (endV E d y).1 (y - 1)
      have t1 : ((inV (endV E d y).1 y).1.any fun x => x.toList == d.toList) = false := by
        rw [Bool.eq_false_iff]
        exact fun hh => q8 (any_code.1 hh)
      have t2 : ((inV (endV E d y).1 (y - 1)).1.any fun x => x.toList == d.toList) = true := any_code.2 q9
      rw [cond_true, w64_id (by omega) (by omega), impl_in_eq (by omega) q1, impl_in_eq (by omega) q1, Option.bind_some, Option.bind_some, q6, q7, hasTextP _ (by omega), t1, hasTextP _ (by omega), t2, impl_isReg (by omega) q1, q3]
      rfl
  rw [hend, Option.bind_some, Sum.elim_inl]
  have hloop : (forG (fun (i34 : Int) (_ : Unit) => ((g.2 == 0) && (decide (i34 < (g.1.length : Int))))) (fun (i34 : Int) (_ : Unit) => ((at' g.1 i34).bind fun x38 => ((impl_PlacesNamed X x38 z).bind fun x39 => (bif ((x39.2 != 0) || (decide ((x39.1.length : Int) < 2))) then some (.inr (.inr false)) else some (.inl ()))))) (fun (_ : Unit) => .inl ()) 0 () : Option (Unit ⊕ Bool)) = some (.inl ()) := by
    unfold forG
    obtain ⟨q, hq, hq2⟩ := loop_inv (body := fun (w : Int × Unit) => bif ((g.2 == 0) && (decide (w.1 < (g.1.length : Int)))) then ((at' g.1 w.1).bind fun x38 => ((impl_PlacesNamed X x38 z).bind fun x39 => (bif ((x39.2 != 0) || (decide ((x39.1.length : Int) < 2))) then some (.inr (.inr false)) else some (.inl ())))).bind (Sum.elim (fun (j : Unit) => some (.inl (w64 (w.1 + 1), j))) (fun a => some (.inr a))) else some (.inr (.inl () : Unit ⊕ Bool))) (fun w => 0 ≤ w.1 ∧ w.1 ≤ g.1.length) (fun w => g.1.length - w.1.toNat) (fun q => q = .inl ()) (fun w hw => by
      cases hcond : ((g.2 == 0) && (decide (w.1 < (g.1.length : Int))))
      · right
        exact ⟨_, rfl, rfl⟩
      · left
        rw [Bool.and_eq_true, decide_eq_true_eq] at hcond
        obtain ⟨k, hk⟩ : ∃ k : Nat, w.1 = k := ⟨w.1.toNat, by omega⟩
        have hx : g.1[k]? = some (g.1[k]'(by omega)) := List.getElem?_eq_getElem _
        have hhom := gh _ (List.getElem_mem (show k < g.1.length by omega))
        generalize hxx : g.1[k]'(by omega) = t at hx hhom
        have hyc : (yearC X z != 0) = false := by rw [← gy, beq_iff_eq.1 hcond.1]; rfl
        have hreg := (yearC_reg hyc).1
        obtain ⟨i, j, p1, p2, hij, u1, u2, u3, u4⟩ := hhom
        obtain ⟨n, hn, hnn⟩ := List.any_eq_true.1 u3
        unfold hasN at hnn
        rw [Bool.and_eq_true] at hnn
        have htx : n.Text = t := beqL.1 hnn.1
        have hpm := List.mem_of_getElem? u1
        have hnb : nameB n = true := by
          have := (regB_iff.1 hreg).2.1 p1 hpm
          unfold placeB at this
          simp only [Bool.and_eq_true] at this
          exact (namesB_iff.1 this.2.2.2.1).2.1 n hn
        have hph : phraseB t = true := by
          unfold nameB at hnb
          rw [Bool.and_eq_true, htx] at hnb
          exact hnb.1
        have hts : t.size ≤ 1048576 := by
          rw [← htx]
          exact ((hX.r p1 hpm).n n hn).t
        have hcnt : 1 < (codesL (namedB t z) X).length := by
          rw [codes_count]
          exact (two_filter _ X).2 ⟨i, j, p1, p2, hij, u1, u2, u3, u4⟩
        have hnm := impl_namedIn (L := X) (by omega) hX.r hts hph hyc
        refine ⟨(w.1 + 1, ()), ?_, ⟨by show 0 ≤ w.1 + 1; omega, by show w.1 + 1 ≤ _; omega⟩, by show g.1.length - (w.1 + 1).toNat < g.1.length - w.1.toNat; omega⟩
        rw [cond_true, hk, at_nat, hx, Option.bind_some, hnm, Option.bind_some, decide_eq_false (show ¬ ((codesL (namedB t z) X).length : Int) < 2 by omega), w64_id (by omega) (by omega)]
        rfl) (s := ((0 : Int), ())) ⟨Int.le_refl _, by omega⟩
    rw [hq2] at hq
    exact hq
  rw [hloop, Option.bind_some, Sum.elim_inl]
  rcases hr with ⟨h5, _⟩ | ⟨h5, hregA, hpb, k, hk, h6, h7⟩
  · have : (r.2 != 0) = true := by rw [bne_iff_ne]; exact h5
    rw [this]
    rfl
  · rw [h5, h6]
    obtain ⟨s1, _, s3⟩ := regB_iff.1 h7
    have hRi : ∀ x ∈ insL A k p, PlR x := by rw [← h6]; exact hrl.2
    have hlen := insL_len hk (p := p)
    obtain ⟨m, m1, m2, _, _, m5⟩ := findP_impl s3 s1 p.Code
    have hany : (insL A k p).any (codeP p.Code) = true := List.any_eq_true.2 ⟨p, insL_mem.2 (.inl rfl), beqL.2 rfl⟩
    obtain ⟨m6, m7⟩ := m5 hany
    obtain ⟨q, hq, hqc⟩ := idxP_get (codeP p.Code) m6
    have hw : wordB p.Code = true := by
      unfold placeB at hpb
      rw [Bool.and_eq_true] at hpb
      exact hpb.1
    have hf : impl_FindPlace (insL A k p) p.Code = some ((m : Int), 0) := by
      unfold impl_FindPlace
      rw [impl_isReg (by omega) hRi, h7, impl_isWord _ (by have := hp.1; unfold maxLen; omega), hw]
      simp only [Option.bind_some, Bool.not_true, cond_false, m1, hany]
    have hqc' : (q.Code.toList == p.Code.toList) = true := hqc
    rw [hf]
    simp only [bne_self_eq_false, cond_false, Option.bind_some, beq_self_eq_true, cond_true, at_nat, hq, hqc', hlen]
    rw [w64_id (by omega) (by omega)]
    congr 1
    rw [beq_iff_eq]
    omega
end Go.Proofs.YtpohkmbkohjahaaGreatDoor.Sh
