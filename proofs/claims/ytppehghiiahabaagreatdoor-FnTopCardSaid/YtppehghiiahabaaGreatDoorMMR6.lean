/- The law FnTop answers true; no condition but the bounds of its arguments' types. -/
import Derived.Test.YtppehghiiahabaaGreatDoorMMR5
import Derived.Test.YtppehghiiahabaaGreatDoorMD6
namespace Go.Proofs.YtppehghiiahabaaGreatDoor.Sh
open Go.RowKit Go.Lib
theorem ShortL.len {n : Nat} {L : List Claim} (h : ShortL n L) (k : n ≤ 1000 := by decide) : L.length ≤ 1048576 := by
  have := h.1
  omega
theorem drawRepair_G {c : List Int} (hc : CodeOk c) : Gv (spec_DrawBestRepair c) (ShortL 30) := by
  unfold spec_DrawBestRepair
  exact (Gv.from hc).bind fun s hs => (l21List_G hs).bind fun x h => .some h.1
theorem likeInts_self (L : List Int) (hL : L.length ≤ 1048576) : laws_likeInts L L = some true := by
  unfold laws_likeInts
  rw [bne_self_eq_false, cond_false, loop_any (by omega) (fun _ => false) false (fun i x hx => by
    rw [at_nat, hx]
    simp)]
  have : (L.any fun _ => false) = false := by simp
  rw [this]
  rfl
theorem likeTables_self (T : List (List Int)) (hT : T.length ≤ 1048576) (h : ∀ x ∈ T, x.length ≤ 1048576) : laws_likeTables T T = some true := by
  unfold laws_likeTables
  rw [bne_self_eq_false, cond_false, loop_any (by omega) (fun _ => false) false (fun i x hx => by
    rw [at_nat, hx, Option.bind_some, Option.bind_some, likeInts_self x (h x (List.mem_of_getElem? hx))]
    rfl)]
  have : (T.any fun _ => false) = false := by simp
  rw [this]
  rfl
theorem Inc.ris {n : Nat} (hn : n ≤ 1000000) {R : List Int} (h : Inc n R) : risB R n = true := by
  unfold risB
  rw [Bool.not_eq_true', Bool.eq_false_iff]
  intro hs
  obtain ⟨i, x, hx, hp⟩ := (firstI_some (risP R n) R 0).1 hs
  have hi := (List.getElem?_eq_some_iff.1 hx).1
  have hxe := (List.getElem?_eq_some_iff.1 hx).2
  have hb := h.2 x (List.mem_of_getElem? hx)
  rw [Nat.zero_add] at hp
  unfold risP at hp
  rw [inB_iff.2 (by rw [w64_id (by omega) (by omega)]; omega), Bool.not_true, Bool.false_or, Bool.and_eq_true, decide_eq_true_eq, decide_eq_true_eq, List.getElem?_eq_getElem (show i - 1 < R.length by omega)] at hp
  have := List.pairwise_iff_getElem.1 h.1 (i - 1) i (by omega) hi (by omega)
  rw [hxe] at this
  have h2 := hp.2
  simp only [Option.getD_some] at h2
  omega
theorem chosenCode_eq {L : List Claim} (hL : L.length ≤ 1048576) (h : ∀ x ∈ L, smClaim x) (hc : claimsB L = true) {R : List Int} (hR : Inc L.length R) : impl_chosenCode L R = some 0 := by
  have h12 := (claimsB_iff.1 hc).1
  have hl := hR.len
  unfold impl_chosenCode impl_length_Claim
  rw [impl_areClaims hL h, hc, Option.bind_some, Bool.not_true, cond_false, Option.bind_some, impl_rises (by omega), hR.ris (by omega)]
  rfl
theorem cho_len : ∀ {L : List Claim} {I : List Int}, (∀ x ∈ I, 0 ≤ x ∧ x < L.length) → (choL L I).length = I.length
  | L, [], _ => rfl
  | L, x :: I, h => by
    have h1 := h x (by simp)
    have ih := cho_len (L := L) (I := I) fun y hy => h y (by simp [hy])
    rw [choL_flat] at ih ⊢
    rw [List.flatMap_cons, List.length_append, ih, List.getElem?_eq_getElem (show x.toNat < L.length by omega), List.length_cons]
    simp
    omega
theorem rest_succ (n : Nat) (R : List Int) : restL (n + 1) R = restL n R ++ (bif hasI R (n : Int) then [] else [(n : Int)]) := by
  unfold restL
  rw [List.range_succ, List.flatMap_append]
  simp
theorem flat_congr {α β : Type} {f g : α → List β} : ∀ {M : List α}, (∀ i ∈ M, f i = g i) → M.flatMap f = M.flatMap g
  | [], _ => rfl
  | x :: M, h => by rw [List.flatMap_cons, List.flatMap_cons, h x (by simp), flat_congr fun i hi => h i (by simp [hi])]
theorem rest_congr {n : Nat} {R Q : List Int} (h : ∀ i : Nat, i < n → hasI R (i : Int) = hasI Q (i : Int)) : restL n R = restL n Q := by
  unfold restL
  exact flat_congr fun i hi => by rw [h i (List.mem_range.1 hi)]
theorem rest_count : ∀ (n : Nat) {R : List Int}, Inc n R → (restL n R).length + R.length = n
  | 0, R, h => by
    have : R = [] := by
      cases R with
      | nil => rfl
      | cons x Q => have := h.2 x (by simp); omega
    subst this
    rfl
  | n + 1, R, h => by
    by_cases hn : (n : Int) ∈ R
    · obtain ⟨l, t, rfl⟩ := List.append_of_mem hn
      have hp := List.pairwise_append.1 h.1
      have ht : t = [] := by
        cases t with
        | nil => rfl
        | cons y t =>
          have h1 := (List.pairwise_cons.1 hp.2.1).1 y (by simp)
          have h2 := h.2 y (by simp)
          omega
      subst ht
      have hl : Inc n l := ⟨hp.1, fun x hx => ⟨(h.2 x (by simp [hx])).1, hp.2.2 x hx n (by simp)⟩⟩
      have ih := rest_count n hl
      have he : restL n (l ++ [(n : Int)]) = restL n l := rest_congr fun i hi => by
        rw [Bool.eq_iff_iff, hasI_iff, hasI_iff, List.mem_append, List.mem_singleton]
        exact ⟨fun h => h.resolve_right (by omega), .inl⟩
      rw [rest_succ, he, hasI_iff.2 (by simp), cond_true, List.append_nil]
      simp
      omega
    · have hl : Inc n R := ⟨h.1, fun x hx => ⟨(h.2 x hx).1, by
        have h1 := (h.2 x hx).2
        have h2 : x ≠ n := fun e => hn (e ▸ hx)
        omega⟩⟩
      have ih := rest_count n hl
      have : hasI R (n : Int) = false := by rw [Bool.eq_false_iff, ne_eq, hasI_iff]; exact hn
      rw [rest_succ, this, cond_false]
      simp
      omega
theorem kept_count {L : List Claim} {R : List Int} (hR : Inc L.length R) : (keptL L R).length + R.length = L.length := by
  have h := rest_count L.length hR
  unfold keptL
  rw [cho_len (fun x hx => by
    obtain ⟨i, rfl, hi, _⟩ := mem_rest.1 hx
    omega)]
  exact h
theorem kept_tells {L : List Claim} (hc : claimsB L = true) {b : List Int} (hm : minB (repB L) b = true) {x : Claim} (hx : x ∈ keptL L b) (hk : x.Kind = 0) : bestV L b 0 x.Place x.Years.From = (x.Value, 0) := by
  have hcl := (claimsB_iff.1 hc).2 x (kept_sub hx)
  unfold claimB spanB at hcl
  simp only [Bool.and_eq_true] at hcl
  obtain ⟨_, c2, _, ⟨c4, c5, c6⟩, _⟩ := hcl
  rw [decide_eq_true_eq] at c6
  have hab : abC L x.Place x.Years.From = 0 := by
    unfold abC
    rw [hc, c2, c4]
    rfl
  have hcons : consB (keptL L b) = true := minB_rep hm
  have htx : telB 0 x.Place x.Years.From x = true := by
    unfold telB
    rw [beq_iff_eq.2 hk, beq_self_eq_true, inB_iff.2 ⟨Int.le_refl _, c6⟩]
    rfl
  unfold bestV
  rw [hab]
  have hf : ((keptL L b).find? (telB 0 x.Place x.Years.From)).isSome = true := List.find?_isSome.2 ⟨x, hx, htx⟩
  obtain ⟨z, hz⟩ := Option.isSome_iff_exists.1 hf
  have hzt := List.find?_some hz
  have hzm := List.mem_of_find?_eq_some hz
  have he := tel_one (.inl rfl) (pairB_no (consB_pair hcons) hzm hx) hzt htx
  have ht : tel (keptL L b) 0 x.Place x.Years.From = some x.Value := by
    unfold tel
    rw [hz, Option.map_some, he]
  rw [ht]
  rfl
theorem cores_none {L : List Claim} (hc : claimsB L = true) {b : List Int} (hi : Inc L.length b) (hm : minB (repB L) b = true) : ((allL (coreB L) L.length (L.length + 1) 0 []).length = 0) ↔ b.length = 0 := by
  have h12 := (claimsB_iff.1 hc).1
  have hcl := (claimsB_iff.1 hc).2
  have hI : Inc L.length ((List.range L.length).map fun (i : Nat) => (i : Int)) := by
    refine ⟨?_, fun x hx => ?_⟩
    · rw [List.pairwise_map]
      exact (List.pairwise_lt_range (n := L.length)).imp fun h => by omega
    · obtain ⟨i, hi, rfl⟩ := List.mem_map.1 hx
      have := List.mem_range.1 hi
      omega
  have hk0 := kept_ok hc []
  rw [List.length_eq_zero_iff, List.length_eq_zero_iff]
  constructor
  · intro h
    have hno : coreB L ((List.range L.length).map fun (i : Nat) => (i : Int)) = false := by
      rw [Bool.eq_false_iff]
      intro ht
      obtain ⟨Q, q1, q2, _⟩ := exists_min _ _ (Nat.le_refl _) hI ht
      have := (mem_allC hc).2 ⟨q1, q2⟩
      rw [h] at this
      simp at this
    unfold coreB at hno
    rw [Bool.not_eq_false'] at hno
    have hr0 : repB L [] = true := by
      unfold repB
      refine consB_mono (L := choL L ((List.range L.length).map fun (i : Nat) => (i : Int))) (cho_cons (by have := hI.len; omega) hc).1 hk0.1 (fun x hx => ?_) (cho_cons (by have := hI.len; omega) hc).2 hno
      obtain ⟨i, _, hx⟩ := mem_kept.1 hx
      exact choL_iff.2 ⟨i, List.mem_map.2 ⟨i, List.mem_range.2 (List.getElem?_eq_some_iff.1 hx).1, rfl⟩, by simpa using hx⟩
    cases b with
    | nil => rfl
    | cons x b =>
      have h1 := minB_less hm (i := 0) (by simp)
      rw [rep_rising hc [] _ (Inc.nil _) (hi.erase 0) (by simp) hr0] at h1
      cases h1
  · rintro rfl
    rw [List.eq_nil_iff_forall_not_mem]
    intro Q hQ
    obtain ⟨q1, q2⟩ := (mem_allC hc).1 hQ
    have h1 := minB_rep q2
    have h2 := minB_rep hm
    unfold coreB at h1
    unfold repB at h2
    have hql := q1.len
    rw [consB_mono (L := keptL L []) (M := choL L Q) hk0.1 (cho_cons (by omega) hc).1 (fun x hx => by
      obtain ⟨i, hi, hx⟩ := choL_iff.1 hx
      exact mem_kept.2 ⟨i.toNat, by simp, hx⟩) hk0.2 h2] at h1
    cases h1
noncomputable def corV (L : List Claim) : List (List Int) × Int := bif decide ((allL (coreB L) L.length (L.length + 1) 0 []).length > 60) then ([], 3) else (allL (coreB L) L.length (L.length + 1) 0 [], 0)
theorem impl_CoresOf_eq {L : List Claim} (hL : L.length ≤ 1048576) (h : ∀ x ∈ L, smClaim x) (hc : claimsB L = true) : impl_CoresOf L = some (corV L) := by
  unfold impl_CoresOf corV
  rw [impl_areClaims hL h, hc, Option.bind_some, Bool.not_true, cond_false, impl_cores_eq hc, Option.bind_some, sort_outs (core_rising hc)]
  generalize allL (coreB L) L.length (L.length + 1) 0 [] = C
  rw [show decide ((C.length : Int) > 60) = decide (C.length > 60) by rw [decide_eq_decide]; omega]
  cases decide (C.length > 60) <;> rfl
theorem spec_CoresOf_eq {L : List Claim} (hL : L.length ≤ 1048576) (h : ∀ x ∈ L, smClaim x) (hc : claimsB L = true) : spec_CoresOf L = some (corV L) := by
  unfold spec_CoresOf corV
  rw [spec_areClaims hL h, hc, Option.bind_some, Bool.not_true, cond_false, spec_allC hc, Option.bind_some]
  generalize allL (coreB L) L.length (L.length + 1) 0 [] = C
  rw [show decide ((C.length : Int) > 60) = decide (C.length > 60) by rw [decide_eq_decide]; omega]
  cases decide (C.length > 60) <;> rfl
theorem corV_mem {L : List Claim} (hc : claimsB L = true) {Q : List Int} (h : Q ∈ (corV L).1) : Inc L.length Q ∧ minB (coreB L) Q = true := by
  unfold corV at h
  cases hd : decide ((allL (coreB L) L.length (L.length + 1) 0 []).length > 60)
  · rw [hd] at h
    exact (mem_allC hc).1 h
  · rw [hd] at h
    simp at h
theorem corV_len (L : List Claim) : (corV L).1.length ≤ 60 := by
  unfold corV
  cases hd : decide ((allL (coreB L) L.length (L.length + 1) 0 []).length > 60)
  · rw [decide_eq_false_iff_not] at hd
    rw [cond_false]
    show (allL (coreB L) L.length (L.length + 1) 0 []).length ≤ 60
    omega
  · simp
theorem any_no {α : Type} (L : List α) : (L.any fun _ => false) = false := by simp
theorem FnTop_true (c : List Int) (h : c.length ≤ maxLen ∧ ∀ x ∈ c, okU8 x) : laws_FnTop c = some true := by
  unfold laws_FnTop laws_big
  rw [Option.bind_some]
  by_cases hb : (c.length : Int) > 4096
  · rw [decide_eq_true hb]
    rfl
  rw [decide_eq_false hb, cond_false]
  have hc : CodeOk c := ⟨by omega, h.2⟩
  obtain ⟨L, e2, hS⟩ := drawRepair_G hc
  have hL := hS.len
  have hm := hS.sm
  rw [e2, Option.bind_some]
  cases hcl : claimsB L
  · have i1 : impl_BestRepair L = some ([], 0, 1) := by
      unfold impl_BestRepair
      rw [impl_areClaims hL hm, hcl]
      rfl
    have i2 : spec_BestRepair L = some ([], 0, 1) := by
      unfold spec_BestRepair
      rw [spec_areClaims hL hm, hcl]
      rfl
    rw [i1, i2, Option.bind_some, Option.bind_some, likeInts_self [] (by simp)]
    rfl
  · have h12 := (claimsB_iff.1 hcl).1
    obtain ⟨b, b1, b2, b3, b4⟩ := best_eq hcl
    have hbl := b3.len
    have i1 : impl_BestRepair L = some (b, wt L b, 0) := by
      unfold impl_BestRepair
      rw [impl_areClaims hL hm, hcl, Option.bind_some, Bool.not_true, cond_false, b1, Option.bind_some, weight_eq hcl b3]
      rfl
    have i2 : spec_BestRepair L = some (b, wt L b, 0) := by
      unfold spec_BestRepair
      rw [spec_areClaims hL hm, hcl, Option.bind_some, Bool.not_true, cond_false, b2]
      rfl
    have hcc := chosenCode_eq hL hm hcl b3
    have hkc := kept_claims hcl b
    have hkl := kept_count b3
    have hcons : consB (keptL L b) = true := minB_rep b4
    obtain ⟨k1, k2⟩ := kept_ok hcl b
    have i3 : impl_KeptClaims L b = some (keptL L b, 0) := by
      unfold impl_KeptClaims
      rw [hcc, Option.bind_some, impl_kept_eq (by omega) (by omega)]
      rfl
    have i4 : impl_AreConsistent (keptL L b) = some (true, 0) := by
      rw [impl_areCons_eq (by omega) (fun x hx => hm x (kept_sub hx))]
      unfold conV
      rw [hkc, hcons]
      rfl
    have i5 : impl_HitsAll L b = some (true, 0) := by
      unfold impl_HitsAll
      rw [hcc, Option.bind_some, impl_kept_eq (by omega) (by omega), Option.bind_some, impl_consistent_eq k1 k2, hcons]
      rfl
    have hcv := corV_len L
    have i6 : laws_likeTables (corV L).1 (corV L).1 = some true := likeTables_self _ (by omega) fun x hx => by
      have := (corV_mem hcl hx).1.len
      omega
    rw [i1, i2, Option.bind_some, Option.bind_some]
    simp only [likeInts_self b (by omega), bne_self_eq_false, Option.bind_some, cond_false, Bool.not_true]
    rw [i3, Option.bind_some]
    simp only [i4, i5, Option.bind_some, impl_CoresOf_eq hL hm hcl, spec_CoresOf_eq hL hm hcl, bne_self_eq_false, cond_false, Bool.not_true, i6]
    rw [w64_id (n := ((keptL L b).length : Int) + (b.length : Int)) (by omega) (by omega), show ((keptL L b).length : Int) + (b.length : Int) = (L.length : Int) by omega, bne_self_eq_false, cond_false]
    rw [loop_any (L := (corV L).1) (by omega) (fun _ => false) false (fun i Q hQ => by
      obtain ⟨q1, q2⟩ := corV_mem hcl (List.mem_of_getElem? hQ)
      have : impl_IsCore L Q = some (true, 0) := by
        unfold impl_IsCore
        rw [chosenCode_eq hL hm hcl q1, Option.bind_some, impl_core_eq hcl q1, q2]
        rfl
      rw [at_nat, hQ, Option.bind_some, this]
      rfl), any_no, cond_false]
    rw [loop_any (L := keptL L b) (by omega) (fun _ => false) false (fun i x hx => by
      have hat : at' (keptL L b) (i : Int) = some x := by rw [at_nat, hx]
      have hxm := List.mem_of_getElem? hx
      have hsx := hm x (kept_sub hxm)
      by_cases hk : x.Kind = 0
      · have hbn := (bestName_V hL hm (p := x.Place) hsx.s2 x.Years.From (b := b) fun _ => ⟨b1, b2, b3, b4⟩).1
        rw [kept_tells hcl b4 hxm hk] at hbn
        have hk2 : (x.Kind != 0) = false := by rw [hk]; rfl
        simp only [hat, Option.bind_some, hk2, cond_false, hbn, bne_self_eq_false, beq_self_eq_true, Bool.not_true]
      · have hk2 : (x.Kind != 0) = true := by rw [bne_iff_ne]; exact hk
        simp only [hat, Option.bind_some, hk2, cond_true, cond_false]), any_no, cond_false]
    have hfin : (((corV L).2 != 0) || ((((corV L).1.length : Int) == 0) == ((b.length : Int) == 0))) = true := by
      have hn := cores_none hcl b3 b4
      unfold corV
      cases hd : decide ((allL (coreB L) L.length (L.length + 1) 0 []).length > 60)
      · rw [cond_false]
        generalize (allL (coreB L) L.length (L.length + 1) 0 []) = C at hn
        show ((0 : Int) != 0 || (((C.length : Int) == 0) == ((b.length : Int) == 0))) = true
        rw [bne_self_eq_false, Bool.false_or, beq_iff_eq, Bool.eq_iff_iff, beq_iff_eq, beq_iff_eq]
        omega
      · rfl
    rw [hfin]
end Go.Proofs.YtppehghiiahabaaGreatDoor.Sh
