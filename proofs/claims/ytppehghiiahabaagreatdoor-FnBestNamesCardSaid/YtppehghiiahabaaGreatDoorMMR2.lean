/- Repairs: what both take for repairs and for minimal ones, and all of the reference's; no condition but those of claims. -/
import Derived.Test.YtppehghiiahabaaGreatDoorMN7
import Derived.Test.YtppehghiiahabaaGreatDoorMR1
namespace Go.Proofs.YtppehghiiahabaaGreatDoor.Sh
open Go.RowKit Go.Lib
def hasI (R : List Int) (i : Int) : Bool := R.any fun x => i == x
theorem hasI_iff {R : List Int} {i : Int} : hasI R i = true ↔ i ∈ R := by
  unfold hasI
  rw [List.any_eq_true]
  exact ⟨fun ⟨x, h1, h2⟩ => by rw [beq_iff_eq.1 h2]; exact h1, fun h => ⟨i, h, beq_self_eq_true _⟩⟩
theorem impl_has {R : List Int} (hR : R.length ≤ 1000000) (i : Int) : slices_Contains_int64 R i = some (hasI R i) := by
  unfold slices_Contains_int64 slices_Index_int64 hasI
  rw [loop_idx (by omega) (fun x => i == x) (fun k x hx => by rw [at_nat, hx]; rfl), Option.bind_some, idxP_any]
theorem spec_has {R : List Int} (hR : R.length ≤ 1000000) (i : Int) : spec_l01Has R i = some (hasI R i) := by
  unfold spec_l01Has hasI
  rw [loop_any (by omega) (fun x => i == x) true (fun k x hx => by rw [at_nat, hx, Option.bind_some, BEq.comm])]
  cases R.any fun x => i == x <;> rfl
/-- All indices but some. -/
def restL (n : Nat) (R : List Int) : List Int := (List.range n).flatMap fun (i : Nat) => bif hasI R (i : Int) then [] else [(i : Int)]
theorem mem_rest {n : Nat} {R : List Int} {x : Int} : x ∈ restL n R ↔ ∃ i : Nat, x = i ∧ i < n ∧ (i : Int) ∉ R := by
  unfold restL
  rw [List.mem_flatMap]
  constructor
  · rintro ⟨i, hi, hx⟩
    cases h : hasI R (i : Int)
    · rw [h] at hx
      have : x = i := by simpa using hx
      exact ⟨i, this, List.mem_range.1 hi, fun hm => by rw [hasI_iff.2 hm] at h; cases h⟩
    · rw [h] at hx
      simp at hx
  · rintro ⟨i, rfl, hi, hn⟩
    refine ⟨i, List.mem_range.2 hi, ?_⟩
    have : hasI R (i : Int) = false := by
      rw [Bool.eq_false_iff, ne_eq, hasI_iff]
      exact hn
    rw [this]
    simp
theorem flat_le {α β : Type} {f : α → List β} (hf : ∀ x, (f x).length ≤ 1) : ∀ (M : List α), (M.flatMap f).length ≤ M.length
  | [] => by simp
  | x :: M => by
    have h1 := hf x
    have h2 := flat_le hf M
    rw [List.flatMap_cons, List.length_append, List.length_cons]
    omega
theorem rest_one (R : List Int) (i : Nat) : (bif hasI R (i : Int) then ([] : List Int) else [(i : Int)]).length ≤ 1 := by cases hasI R (i : Int) <;> simp
theorem rest_len (n : Nat) (R : List Int) : (restL n R).length ≤ n := by
  have := flat_le (rest_one R) (List.range n)
  rw [List.length_range] at this
  exact this
theorem spec_rest_eq {L : List Claim} (hL : L.length ≤ 1000000) {R : List Int} (hR : R.length ≤ 1000000) : spec_l22Rest L R = some (restL L.length R) := by
  unfold spec_l22Rest
  rw [forS_build 1000000 hL (by omega) (fun (i : Nat) => bif hasI R (i : Int) then [] else [(i : Int)]) (rest_one R) [] (by simpa using hL) (fun i s hi hs => by
    rw [spec_has hR, Option.bind_some]
    cases hasI R (i : Int)
    · rw [Bool.not_false, cond_true, cond_false, app_ok (by simp; omega)]
      rfl
    · simp)]
  rfl
theorem flat_range {α β : Type} (g : α → Option β) : ∀ (I : List α), (List.range I.length).flatMap (fun i => ((I[i]?).bind g).toList) = I.flatMap fun x => (g x).toList
  | [] => rfl
  | x :: I => by
    rw [List.length_cons, List.range_succ_eq_map, List.flatMap_cons, List.flatMap_cons, List.flatMap_map, ← flat_range g I]
    rfl
theorem choL_flat (L : List Claim) (I : List Int) : choL L I = I.flatMap fun x => (L[x.toNat]?).toList := flat_range (fun x : Int => L[x.toNat]?) I
theorem choL_iff {L : List Claim} {I : List Int} {c : Claim} : c ∈ choL L I ↔ ∃ x ∈ I, L[x.toNat]? = some c := by
  rw [choL_flat, List.mem_flatMap]
  constructor
  · rintro ⟨x, hx, hc⟩
    rw [Option.mem_toList] at hc
    exact ⟨x, hx, hc⟩
  · rintro ⟨x, hx, hc⟩
    exact ⟨x, hx, by rw [Option.mem_toList]; exact hc⟩
/-- The claims whose indices are not removed. -/
def keptL (L : List Claim) (R : List Int) : List Claim := choL L (restL L.length R)
theorem mem_kept {L : List Claim} {R : List Int} {c : Claim} : c ∈ keptL L R ↔ ∃ i : Nat, (i : Int) ∉ R ∧ L[i]? = some c := by
  unfold keptL
  rw [choL_iff]
  constructor
  · rintro ⟨x, hx, hc⟩
    obtain ⟨i, rfl, hi, hn⟩ := mem_rest.1 hx
    exact ⟨i, hn, by simpa using hc⟩
  · rintro ⟨i, hn, hc⟩
    exact ⟨i, mem_rest.2 ⟨i, rfl, (List.getElem?_eq_some_iff.1 hc).1, hn⟩, by simpa using hc⟩
theorem impl_kept_eq {L : List Claim} (hL : L.length ≤ 1000000) {R : List Int} (hR : R.length ≤ 1000000) : impl_kept L R = some (keptL L R) := by
  unfold impl_kept
  rw [forS_build 1000000 hL (by omega) (fun (i : Nat) => bif hasI R (i : Int) then [] else (L[i]?).toList) (fun (i : Nat) => by
    cases hasI R (i : Int)
    · cases L[i]? <;> simp
    · simp) [] (by simpa using hL) (fun i s hi hs => by
    rw [at_nat, List.getElem?_eq_getElem hi, Option.bind_some, impl_has hR, Option.bind_some]
    cases hasI R (i : Int)
    · rw [Bool.not_false, cond_true, cond_false, app_ok (by simp; omega)]
      rfl
    · simp)]
  unfold keptL restL
  rw [choL_flat, List.flatMap_assoc, List.nil_append, Option.bind_some]
  congr 2
  funext i
  cases hasI R (i : Int) <;> simp
theorem kept_ok {L : List Claim} (hc : claimsB L = true) (R : List Int) : (keptL L R).length ≤ 100 ∧ ∀ x ∈ keptL L R, claimB x = true := by
  have h1 := (claimsB_iff.1 hc).1
  have h2 := rest_len L.length R
  exact cho_cons (I := restL L.length R) (by omega) hc
noncomputable def repB (L : List Claim) (R : List Int) : Bool := consB (keptL L R)
theorem impl_repair_eq {L : List Claim} (hc : claimsB L = true) {R : List Int} (hR : R.length ≤ 1000000) : impl_isRepair L R = some (repB L R) := by
  have h1 := (claimsB_iff.1 hc).1
  obtain ⟨h2, h3⟩ := kept_ok hc R
  unfold impl_isRepair repB
  rw [impl_kept_eq (by omega) hR, Option.bind_some, impl_consistent_eq h2 h3]
  rfl
theorem spec_repair_eq {L : List Claim} (hc : claimsB L = true) {R : List Int} (hR : R.length ≤ 1000000) : spec_l22Repair L R = some (repB L R) := by
  have h1 := (claimsB_iff.1 hc).1
  obtain ⟨h2, h3⟩ := kept_ok hc R
  have h4 := rest_len L.length R
  unfold spec_l22Repair repB
  rw [spec_rest_eq (by omega) hR, Option.bind_some, spec_chosen_eq (by omega) (fun x hx => by
    obtain ⟨i, rfl, hi, _⟩ := mem_rest.1 hx
    omega), Option.bind_some]
  show ((spec_l21Consistent (keptL L R)).bind _) = _
  rw [spec_consistent_eq' h2 h3]
  rfl
theorem rep_rising {L : List Claim} (hc : claimsB L = true) : Rising L.length (repB L) := fun R Q _ _ hs h => by
  obtain ⟨h2, h3⟩ := kept_ok hc R
  obtain ⟨h4, _⟩ := kept_ok hc Q
  unfold repB at h ⊢
  refine consB_mono h2 h4 (fun x hx => ?_) h3 h
  obtain ⟨i, hn, hi⟩ := mem_kept.1 hx
  exact mem_kept.2 ⟨i, fun hm => hn (hs _ hm), hi⟩
theorem without_eq {R : List Int} (hR : R.length ≤ 1000000) {i : Nat} (hi : i < R.length) : spec_l22Without R (i : Int) = some (R.eraseIdx i) := by
  unfold spec_l22Without
  rw [part_ok (by omega) (by omega) (by omega), Option.bind_some, w64_id (n := (i : Int) + 1) (by omega) (by omega), part_ok (by omega) (by omega) (by omega)]
  simp only [Int.toNat_zero, List.drop_zero, Int.toNat_natCast, Nat.sub_zero, Option.bind_some]
  rw [app_ok (by simp; omega), Option.bind_some, List.nil_append, show Int.toNat ((i : Int) + 1) = i + 1 by omega, app_ok (by simp; omega), Option.bind_some, List.take_of_length_le (l := R.drop (i + 1)) (by rw [List.length_drop]; omega), List.eraseIdx_eq_take_drop_succ]
theorem first_all {α A : Type} (q : Nat → Bool) (a b : A) (R : List α) : (match firstI (fun i _ => q i) (fun _ _ => a) R 0 with | some r => some r | none => some b) = some (bif (List.range R.length).all fun i => !q i then b else a) := by
  rw [firstI_const]
  have h := firstI_some (fun i (_ : α) => q i) R 0
  cases hs : (firstI (fun i (_ : α) => q i) (fun _ _ => ()) R 0).isSome
  · have hall : ((List.range R.length).all fun i => !q i) = true := by
      rw [List.all_eq_true]
      intro i hi
      have hi := List.mem_range.1 hi
      rw [Bool.not_eq_true']
      cases hq : q i with
      | false => rfl
      | true =>
        rw [h.2 ⟨i, R[i], List.getElem?_eq_getElem hi, by rw [Nat.zero_add]; exact hq⟩] at hs
        cases hs
    rw [hall]
    rfl
  · obtain ⟨i, x, hx, hq⟩ := h.1 hs
    have hi := (List.getElem?_eq_some_iff.1 hx).1
    have hall : ((List.range R.length).all fun i => !q i) = false := by
      rw [Bool.eq_false_iff, ne_eq, List.all_eq_true]
      intro hh
      have := hh i (List.mem_range.2 hi)
      rw [Nat.zero_add] at hq
      rw [hq] at this
      cases this
    rw [hall]
    rfl
theorem spec_minimal_eq {L : List Claim} (hc : claimsB L = true) {R : List Int} (hR : R.length ≤ 1000000) : spec_l22Minimal L R = some (minB (repB L) R) := by
  unfold spec_l22Minimal minB
  rw [spec_repair_eq hc hR, Option.bind_some]
  cases repB L R
  · rfl
  · rw [Bool.not_true, cond_false, loop_first (by omega) (fun i _ => repB L (R.eraseIdx i)) (fun _ _ => false) (fun i x hx => by
      have hi := (List.getElem?_eq_some_iff.1 hx).1
      have h3 := List.length_eraseIdx_of_lt hi
      rw [without_eq hR hi, Option.bind_some, spec_repair_eq hc (by omega), Option.bind_some])]
    refine (first_all (A := Bool) (fun i => repB L (R.eraseIdx i)) false true R).trans ?_
    cases (List.range R.length).all fun i => !repB L (R.eraseIdx i) <;> rfl
theorem own_int {R : List Int} (hR : R.length ≤ 1000000) : spec_l01Own R = some R := by
  unfold spec_l01Own
  rw [app_ok (by simp; omega)]
  rfl
theorem allL_len {n : Nat} {rep : List Int → Bool} : ∀ (k f : Nat) (R : List Int), n - f < k → (allL rep n k f R).length ≤ 2 ^ (n - f) := by
  intro k
  induction k with
  | zero => intro f R h; omega
  | succ k ih =>
    intro f R hk
    unfold allL
    cases rep R
    · rw [cond_false]
      have key : ∀ (m g : Nat), g + m = n → f ≤ g → ((List.range' g m).flatMap fun i => allL rep n k (i + 1) (R ++ [(i : Int)])).length + 1 ≤ 2 ^ m := by
        intro m
        induction m with
        | zero => intro g _ _; simp
        | succ m ihm =>
          intro g hg hf
          rw [List.range'_succ, List.flatMap_cons, List.length_append]
          have h1 := ih (g + 1) (R ++ [(g : Int)]) (by omega)
          have h2 := ihm (g + 1) (by omega) (by omega)
          have e : n - (g + 1) = m := by omega
          rw [e] at h1
          rw [Nat.pow_succ]
          omega
      by_cases hfn : f ≤ n
      · have := key (n - f) f (by omega) (Nat.le_refl _)
        omega
      · have : n - f = 0 := by omega
        rw [this]
        simp
    · have : 1 ≤ 2 ^ (n - f) := Nat.one_le_two_pow
      cases minB rep R <;> simp <;> omega
theorem next_at {R : List Int} {n f : Nat} (hR : Inc n R) (hn : n ≤ 1000000) (hf : NextAt R f) : (bif (decide ((R.length : Int) > 0)) then ((at' R (w64 ((R.length : Int) - 1))).bind fun x5 => some (w64 (x5 + 1))) else some 0) = some (f : Int) := by
  have hl := hR.len
  rcases List.eq_nil_or_concat R with h | ⟨l, x, h⟩
  · subst h
    have := hf.2 0 (Int.le_refl _) (by simp)
    have hf0 : f = 0 := by omega
    rw [hf0]
    rfl
  · rw [List.concat_eq_append] at h
    subst h
    have hx := hR.2 x (by simp)
    have h1 := hf.1 x (by simp)
    have h2 := hf.2 (x + 1) (by omega) (fun y hy => by
      rcases List.mem_append.1 hy with hy | hy
      · have := (List.pairwise_append.1 hR.1).2.2 y hy x (by simp)
        omega
      · rw [List.mem_singleton.1 hy]; omega)
    have hlen : (l ++ [x]).length = l.length + 1 := by simp
    rw [hlen] at hl
    rw [decide_eq_true (show (((l ++ [x]).length : Int)) > 0 by rw [hlen]; omega), cond_true, hlen, w64_id (by omega) (by omega), show ((l.length + 1 : Nat) : Int) - 1 = (l.length : Int) by omega, at_nat]
    have : (l ++ [x])[l.length]? = some x := by simp
    rw [this, Option.bind_some, w64_id (by omega) (by omega)]
    congr 1
    omega
theorem spec_all_eq {L : List Claim} (hc : claimsB L = true) : ∀ (k f fuel : Nat) (R : List Int), L.length - f < k → k ≤ fuel → Inc L.length R → NextAt R f → spec_l22All_f fuel L R = some (allL (repB L) L.length k f R) := by
  have h12 := (claimsB_iff.1 hc).1
  intro k
  induction k with
  | zero => intro f fuel R h; omega
  | succ k ih =>
    intro f fuel R hk hfu hR hf
    obtain ⟨fuel, rfl⟩ : ∃ q, fuel = q + 1 := ⟨fuel - 1, by omega⟩
    have hl := hR.len
    unfold spec_l22All_f allL
    rw [spec_repair_eq hc (by omega), Option.bind_some]
    cases hrep : repB L R
    · rw [cond_false, cond_false, next_at hR (by omega) hf, Option.bind_some]
      rw [forS_forN, forN_from f (by omega)]
      have e : ((L.length : Int) - (f : Int)).toNat = L.length - f := by omega
      rw [e]
      have key : ∀ (m g : Nat) (s : List (List Int)), g + m = L.length → f ≤ g → s.length + 2 ^ m ≤ 100000 → iterN (fun i (s8 : List (List Int)) => (((spec_l01Own R).bind fun x12 => ((app' x12 ([(i : Int)] : List Int)).bind fun x13 => ((spec_l22All_f fuel L x13).bind fun x14 => ((app' s8 x14).bind fun x15 => some x15))))).map (Sum.inl (β := List (List Int)))) (fun s => s) m g s = some (s ++ (List.range' g m).flatMap fun i => allL (repB L) L.length k (i + 1) (R ++ [(i : Int)])) := by
        intro m
        induction m with
        | zero => intro g s _ _ _; simp [iterN]
        | succ m ihm =>
          intro g s hg hfg hs
          have hs2 : Inc L.length (R ++ [(g : Int)]) := hR.snoc (by omega) (by omega) fun x hx => by have := hf.1 x hx; omega
          have hal := allL_len (n := L.length) (rep := repB L) k (g + 1) (R ++ [(g : Int)]) (by omega)
          have e2 : L.length - (g + 1) = m := by omega
          rw [e2] at hal
          have hp : 2 ^ (m + 1) = 2 ^ m + 2 ^ m := by rw [Nat.pow_succ]; omega
          have hstep : ((spec_l01Own R).bind fun x12 => ((app' x12 ([(g : Int)] : List Int)).bind fun x13 => ((spec_l22All_f fuel L x13).bind fun x14 => ((app' s x14).bind fun x15 => some x15)))) = some (s ++ allL (repB L) L.length k (g + 1) (R ++ [(g : Int)])) := by
            rw [own_int (by omega), Option.bind_some, app_ok (by simp; omega), Option.bind_some, ih (g + 1) fuel _ (by omega) (by omega) hs2 (hf.snoc hfg), Option.bind_some, app_ok (by omega), Option.bind_some]
          unfold iterN
          simp only [hstep, Option.map_some]
          show iterN _ _ m (g + 1) (s ++ allL (repB L) L.length k (g + 1) (R ++ [(g : Int)])) = _
          rw [ihm (g + 1) _ (by omega) (by omega) (by rw [List.length_append]; omega), List.range'_succ, List.flatMap_cons, List.append_assoc]
      by_cases hfl : f ≤ L.length
      · have hpow : 2 ^ (L.length - f) ≤ 2 ^ 12 := Nat.pow_le_pow_right (by omega) (by omega)
        rw [key (L.length - f) f [] (by omega) (Nat.le_refl _) (by simp; omega)]
        rfl
      · have e3 : L.length - f = 0 := by omega
        rw [e3]
        rfl
    · rw [cond_true, cond_true, spec_minimal_eq hc (by omega), Option.bind_some]
      cases minB (repB L) R <;> rfl
theorem spec_all {L : List Claim} (hc : claimsB L = true) : spec_l22All L [] = some (allL (repB L) L.length (L.length + 1) 0 []) := by
  have h12 := (claimsB_iff.1 hc).1
  exact spec_all_eq hc (L.length + 1) 0 1000 [] (by omega) (by omega) (Inc.nil _) NextAt.nil
theorem mem_all {L : List Claim} (hc : claimsB L = true) {Q : List Int} : Q ∈ allL (repB L) L.length (L.length + 1) 0 [] ↔ Inc L.length Q ∧ minB (repB L) Q = true := by
  rw [mem_allL (rep_rising hc) _ _ _ (by omega) (Inc.nil _) NextAt.nil]
  exact ⟨fun ⟨h1, _, h3⟩ => ⟨h1, h3⟩, fun ⟨h1, h3⟩ => ⟨h1, List.nil_prefix, h3⟩⟩
end Go.Proofs.YtppehghiiahabaaGreatDoor.Sh
