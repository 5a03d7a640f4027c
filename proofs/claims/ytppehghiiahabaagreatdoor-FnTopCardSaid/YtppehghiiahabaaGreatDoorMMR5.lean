/- Cores: minimal inconsistent choices of both; no condition but those of claims. -/
import Derived.Test.YtppehghiiahabaaGreatDoorMMR4
namespace Go.Proofs.YtppehghiiahabaaGreatDoor.Sh
open Go.RowKit Go.Lib
noncomputable def coreB (L : List Claim) (R : List Int) : Bool := !consB (choL L R)
theorem core_rising {L : List Claim} (hc : claimsB L = true) : Rising L.length (coreB L) := fun R Q hR hQ hs h => by
  have h12 := (claimsB_iff.1 hc).1
  have hq := hQ.len
  have hr := hR.len
  unfold coreB at h ⊢
  rw [Bool.not_eq_true'] at h ⊢
  rw [Bool.eq_false_iff]
  intro hk
  rw [consB_mono (M := choL L R) (cho_cons (by omega) hc).1 (cho_cons (by omega) hc).1 (fun x hx => by
    obtain ⟨i, hi, hx⟩ := choL_iff.1 hx
    exact choL_iff.2 ⟨i, hs _ hi, hx⟩) (cho_cons (by omega) hc).2 hk] at h
  cases h
theorem impl_chocons {L : List Claim} (hc : claimsB L = true) {R : List Int} (hR : Inc L.length R) : impl_chosen L R = some (choL L R) ∧ impl_areConsistent (choL L R) = some (!coreB L R) := by
  have h12 := (claimsB_iff.1 hc).1
  have hl := hR.len
  obtain ⟨h1, h2⟩ := cho_cons (L := L) (I := R) (by omega) hc
  refine ⟨impl_chosen_eq (by omega) hR.2, ?_⟩
  rw [impl_consistent_eq h1 h2]
  unfold coreB
  rw [Bool.not_not]
theorem spec_chocons {L : List Claim} (hc : claimsB L = true) {R : List Int} (hR : Inc L.length R) : spec_l21Chosen L R = some (choL L R) ∧ spec_l21Consistent (choL L R) = some (!coreB L R) := by
  have h12 := (claimsB_iff.1 hc).1
  have hl := hR.len
  obtain ⟨h1, h2⟩ := cho_cons (L := L) (I := R) (by omega) hc
  refine ⟨spec_chosen_eq (by omega) hR.2, ?_⟩
  rw [spec_consistent_eq' h1 h2]
  unfold coreB
  rw [Bool.not_not]
theorem impl_lessC_eq {rep : List Int → Bool} {n b : Nat} (hb : b < 2 ^ n) (hn : n ≤ 60) {g : List Bool} (hg : GoodT rep n b g) : slices_ContainsFunc_int64_impl_coresOf_1 (subN n b) g (b : Int) = some (lessB rep (subN n b)) := by
  have hl := subN_len n b
  unfold slices_ContainsFunc_int64_impl_coresOf_1 slices_IndexFunc_int64_impl_coresOf_1 impl_coresOf_1 lessB
  rw [loop_idx (by omega) (fun i => rep ((subN n b).filter fun x => !(i == x))) (fun k x hx => by
    obtain ⟨h1, h2⟩ := less_eq hb hn hg (List.mem_of_getElem? hx)
    rw [at_nat, hx, Option.bind_some, h1, Option.bind_some, h2]
    rfl), Option.bind_some, idxP_any]
theorem impl_cores_eq {L : List Claim} (hc : claimsB L = true) : impl_coresOf L = some (sortL (outs (coreB L) L.length (2 ^ L.length))) := by
  have h12 := (claimsB_iff.1 hc).1
  have hpow : 2 ^ L.length ≤ 2 ^ 12 := Nat.pow_le_pow_right (by omega) h12
  have hpos : 1 ≤ 2 ^ L.length := Nat.one_le_two_pow
  have h0 : sh' (L.length : Int) = some () := by unfold sh'; rw [if_pos (by omega)]
  unfold impl_coresOf
  rw [h0, Option.bind_some, shl_nat L.length (by omega), make_ok _ (by omega), Option.bind_some, Option.bind_some, forS_forN, forN_iter _ (by omega)]
  have hlo := outs_len (coreB L) L.length (2 ^ L.length)
  obtain ⟨g', h⟩ := bits_loop (A := List (List Int)) (D := fun s => s.1) (rep := coreB L) (n := L.length) (B := fun (i6 : Int) (s6 : (List (List Int)) × (List Bool)) => ((impl_subset i6).bind fun x10 => ((slices_ContainsFunc_int64_impl_coresOf_1 x10 s6.2 i6).bind fun x11 => (((bif x11 then ((at' s6.2 i6).bind fun _ => some (true, (List.set s6.2 (Int.toNat i6) true))) else ((impl_chosen L x10).bind fun x13 => ((impl_areConsistent x13).bind fun x14 => ((at' s6.2 i6).bind fun _ => some (false, (List.set s6.2 (Int.toNat i6) (!x14)))))))).bind fun (j16 : Bool × (List Bool)) => ((((at' j16.2 i6).bind fun x18 => (bif x18 then some (!j16.1) else some false))).bind fun (j19 : Bool) => (bif j19 then ((app' s6.1 ([x10] : List (List Int))).bind fun x21 => some (x21, j16.2)) else some (s6.1, j16.2))))))) (fun b o g hb ho hg => by
    have hl := subN_len L.length b
    have hgl := hg.1
    have hinc := subN_inc L.length b
    have hat : at' g (b : Int) = some (g[b]'(by omega)) := by rw [at_nat, List.getElem?_eq_getElem]
    have hset : ∀ v : Bool, at' (g.set b v) (b : Int) = some v := fun v => by rw [at_nat, List.getElem?_set, if_pos rfl, if_pos (by omega)]
    rw [impl_subset_eq (n := L.length) (by omega) hb, Option.bind_some, impl_lessC_eq hb (by omega) hg, Option.bind_some, min_less hinc.nodup, (impl_chocons hc hinc).1]
    simp only [Option.bind_some, (impl_chocons hc hinc).2, Bool.not_not]
    cases hls : lessB (coreB L) (subN L.length b)
    · simp only [cond_false, Option.bind_some, hat, Int.toNat_natCast, hset, Bool.not_false]
      cases coreB L (subN L.length b)
      · simp
      · simp only [cond_true, Bool.and_self]
        rw [app_ok (by simp; omega)]
        rfl
    · rw [less_rep (core_rising hc) hinc hls]
      simp only [cond_true, Option.bind_some, hat, Int.toNat_natCast, hset, Bool.not_true, Bool.and_false, cond_false, List.append_nil])
    (2 ^ L.length) 0 (List.replicate (2 ^ L.length) false) (by omega) ⟨by simp, fun c hc => by omega⟩
  have e0 : outs (coreB L) L.length 0 = [] := rfl
  rw [e0] at h
  rw [h, Option.bind_some]
  unfold slices_SortFunc_int64_slices_Compare_int64
  rw [if_pos (by show (outs (coreB L) L.length (2 ^ L.length)).length ≤ 1000000000; omega)]
  rfl
theorem spec_core_eq {L : List Claim} (hc : claimsB L = true) {R : List Int} (hR : Inc L.length R) : spec_l23Core L R = some (minB (coreB L) R) := by
  have h12 := (claimsB_iff.1 hc).1
  have hl := hR.len
  unfold spec_l23Core minB
  rw [(spec_chocons hc hR).1, Option.bind_some, (spec_chocons hc hR).2, Option.bind_some]
  cases coreB L R
  · rfl
  · rw [Bool.not_true, cond_false, loop_first (by omega) (fun i _ => coreB L (R.eraseIdx i)) (fun _ _ => false) (fun i x hx => by
      have hi := (List.getElem?_eq_some_iff.1 hx).1
      rw [without_eq (by omega) hi, Option.bind_some, (spec_chocons hc (hR.erase i)).1, Option.bind_some, (spec_chocons hc (hR.erase i)).2, Option.bind_some, Bool.not_not])]
    refine (first_all (A := Bool) (fun i => coreB L (R.eraseIdx i)) false true R).trans ?_
    cases (List.range R.length).all fun i => !coreB L (R.eraseIdx i) <;> rfl
theorem forS_two {S A : Type} {B : Int → S → Option S} {D : S → A} {s a b : S} (h0 : B 0 s = some a) (h1 : B 1 a = some b) : forS 2 B D 0 s = some (D b) := by
  have := forN_iter (A := A) 2 (by omega) (fun i s => (B i s).map Sum.inl) D s
  rw [forS_forN]
  refine this.trans ?_
  have h1' : B ((0 + 1 : Nat) : Int) a = some b := h1
  have h0' : B ((0 : Nat) : Int) s = some a := h0
  simp [iterN, h0, h1]
theorem concat_two {x y : List Int} (h : x.length + y.length ≤ 1000000) : slices_Concat_int64 [x, y] = some (x ++ y) := by
  unfold slices_Concat_int64
  have a0 : at' [x, y] 0 = some x := at_nat (L := [x, y]) 0
  have a1 : at' [x, y] 1 = some y := at_nat (L := [x, y]) 1
  have e1 := forS_two (A := Int) (B := fun (i3 : Int) (s3 : Int) => ((at' [x, y] i3).bind fun x7 => (bif (decide ((w64 (s3 + (x7.length : Int))) < 0)) then none else some (w64 (s3 + (x7.length : Int)))))) (D := fun (s3 : Int) => s3) (s := 0) (a := (x.length : Int)) (b := (x.length : Int) + y.length) (by
    simp only [a0, Option.bind_some]
    rw [w64_id (by omega) (by omega), decide_eq_false (by omega), cond_false, Int.zero_add]) (by
    simp only [a1, Option.bind_some]
    rw [w64_id (by omega) (by omega), decide_eq_false (by omega), cond_false])
  have e2 := forS_two (A := List Int) (B := fun (i11 : Int) (s11 : (List Int)) => ((at' [x, y] i11).bind fun x15 => ((app' s11 x15).bind fun x16 => some x16))) (D := fun (s11 : (List Int)) => s11) (s := []) (a := x) (b := x ++ y) (by
    simp only [a0, Option.bind_some]
    rw [app_ok (by simp; omega)]
    rfl) (by
    simp only [a1, Option.bind_some]
    rw [app_ok (by omega)]
    rfl)
  rw [show ((([x, y] : List (List Int)).length : Nat) : Int) = 2 from rfl, e1, Option.bind_some, e2]
  have h3 : grow' ((x.length : Int) + y.length) = some () := by
    unfold grow'
    rw [decide_eq_true (by omega), decide_eq_true (by omega)]
    rfl
  rw [h3]
  rfl
theorem lacking_eq {R : List Int} (hR : R.length ≤ 100000) {i : Nat} (hi : i < R.length) : impl_lacking R (i : Int) = some (R.eraseIdx i) := by
  unfold impl_lacking
  rw [part_ok (by omega) (by omega) (by omega), Option.bind_some, w64_id (n := (i : Int) + 1) (by omega) (by omega), part_ok (by omega) (by omega) (by omega)]
  simp only [Int.toNat_zero, List.drop_zero, Int.toNat_natCast, Nat.sub_zero, Option.bind_some]
  rw [concat_two (by simp; omega), Option.bind_some, show Int.toNat ((i : Int) + 1) = i + 1 by omega, List.take_of_length_le (l := R.drop (i + 1)) (by rw [List.length_drop]; omega), List.eraseIdx_eq_take_drop_succ]
theorem impl_core_eq {L : List Claim} (hc : claimsB L = true) {R : List Int} (hR : Inc L.length R) : impl_isCore L R = some (minB (coreB L) R) := by
  have h12 := (claimsB_iff.1 hc).1
  have hl := hR.len
  unfold impl_isCore minB
  rw [(impl_chocons hc hR).1, Option.bind_some, (impl_chocons hc hR).2, Option.bind_some]
  cases coreB L R
  · rfl
  · rw [Bool.not_true, cond_false, loop_first (by omega) (fun i _ => coreB L (R.eraseIdx i)) (fun _ _ => false) (fun i x hx => by
      have hi := (List.getElem?_eq_some_iff.1 hx).1
      rw [lacking_eq (by omega) hi, Option.bind_some, (impl_chocons hc (hR.erase i)).1, Option.bind_some, (impl_chocons hc (hR.erase i)).2, Option.bind_some, Bool.not_not])]
    refine (first_all (A := Bool) (fun i => coreB L (R.eraseIdx i)) false true R).trans ?_
    cases (List.range R.length).all fun i => !coreB L (R.eraseIdx i) <;> rfl
theorem spec_allC_eq {L : List Claim} (hc : claimsB L = true) : ∀ (k f fuel : Nat) (R : List Int), L.length - f < k → k ≤ fuel → Inc L.length R → NextAt R f → spec_l23All_f fuel L R = some (allL (coreB L) L.length k f R) := by
  have h12 := (claimsB_iff.1 hc).1
  intro k
  induction k with
  | zero => intro f fuel R h; omega
  | succ k ih =>
    intro f fuel R hk hfu hR hf
    obtain ⟨fuel, rfl⟩ : ∃ q, fuel = q + 1 := ⟨fuel - 1, by omega⟩
    have hl := hR.len
    unfold spec_l23All_f allL
    rw [(spec_chocons hc hR).1, Option.bind_some, (spec_chocons hc hR).2, Option.bind_some]
    cases hrep : coreB L R
    · rw [Bool.not_false, Bool.not_true, cond_false, cond_false, next_at hR (by omega) hf, Option.bind_some]
      rw [forS_forN, forN_from f (by omega)]
      have e : ((L.length : Int) - (f : Int)).toNat = L.length - f := by omega
      rw [e]
      have key : ∀ (m g : Nat) (s : List (List Int)), g + m = L.length → f ≤ g → s.length + 2 ^ m ≤ 100000 → iterN (fun i (s8 : List (List Int)) => (((spec_l01Own R).bind fun x12 => ((app' x12 ([(i : Int)] : List Int)).bind fun x13 => ((spec_l23All_f fuel L x13).bind fun x14 => ((app' s8 x14).bind fun x15 => some x15))))).map (Sum.inl (β := List (List Int)))) (fun s => s) m g s = some (s ++ (List.range' g m).flatMap fun i => allL (coreB L) L.length k (i + 1) (R ++ [(i : Int)])) := by
        intro m
        induction m with
        | zero => intro g s _ _ _; simp [iterN]
        | succ m ihm =>
          intro g s hg hfg hs
          have hs2 : Inc L.length (R ++ [(g : Int)]) := hR.snoc (by omega) (by omega) fun x hx => by have := hf.1 x hx; omega
          have hal := allL_len (n := L.length) (rep := coreB L) k (g + 1) (R ++ [(g : Int)]) (by omega)
          have e2 : L.length - (g + 1) = m := by omega
          rw [e2] at hal
          have hp : 2 ^ (m + 1) = 2 ^ m + 2 ^ m := by rw [Nat.pow_succ]; omega
          have hstep : ((spec_l01Own R).bind fun x12 => ((app' x12 ([(g : Int)] : List Int)).bind fun x13 => ((spec_l23All_f fuel L x13).bind fun x14 => ((app' s x14).bind fun x15 => some x15)))) = some (s ++ allL (coreB L) L.length k (g + 1) (R ++ [(g : Int)])) := by
            rw [own_int (by omega), Option.bind_some, app_ok (by simp; omega), Option.bind_some, ih (g + 1) fuel _ (by omega) (by omega) hs2 (hf.snoc hfg), Option.bind_some, app_ok (by omega), Option.bind_some]
          unfold iterN
          simp only [hstep, Option.map_some]
          show iterN _ _ m (g + 1) (s ++ allL (coreB L) L.length k (g + 1) (R ++ [(g : Int)])) = _
          rw [ihm (g + 1) _ (by omega) (by omega) (by rw [List.length_append]; omega), List.range'_succ, List.flatMap_cons, List.append_assoc]
      by_cases hfl : f ≤ L.length
      · have hpow : 2 ^ (L.length - f) ≤ 2 ^ 12 := Nat.pow_le_pow_right (by omega) (by omega)
        rw [key (L.length - f) f [] (by omega) (Nat.le_refl _) (by simp; omega)]
        rfl
      · have e3 : L.length - f = 0 := by omega
        rw [e3]
        rfl
    · rw [Bool.not_true, Bool.not_false, cond_true, cond_true, spec_core_eq hc hR, Option.bind_some]
      cases minB (coreB L) R <;> rfl
theorem spec_allC {L : List Claim} (hc : claimsB L = true) : spec_l23All L [] = some (allL (coreB L) L.length (L.length + 1) 0 []) := by
  have h12 := (claimsB_iff.1 hc).1
  exact spec_allC_eq hc (L.length + 1) 0 1000 [] (by omega) (by omega) (Inc.nil _) NextAt.nil
theorem mem_allC {L : List Claim} (hc : claimsB L = true) {Q : List Int} : Q ∈ allL (coreB L) L.length (L.length + 1) 0 [] ↔ Inc L.length Q ∧ minB (coreB L) Q = true := by
  rw [mem_allL (core_rising hc) _ _ _ (by omega) (Inc.nil _) NextAt.nil]
  exact ⟨fun ⟨h1, _, h3⟩ => ⟨h1, h3⟩, fun ⟨h1, h3⟩ => ⟨h1, List.nil_prefix, h3⟩⟩
theorem subN_inj {n b c : Nat} (hb : b < 2 ^ n) (hc : c < 2 ^ n) (h : subN n b = subN n c) : b = c := by
  apply Nat.eq_of_testBit_eq
  intro i
  by_cases hi : i < n
  · have h1 : (i : Int) ∈ subN n b ↔ (i : Int) ∈ subN n c := by rw [h]
    rw [mem_subN, mem_subN] at h1
    rw [Bool.eq_iff_iff]
    constructor
    · intro ht
      obtain ⟨j, h2, _, h3⟩ := h1.1 ⟨i, rfl, hi, ht⟩
      rw [show i = j by omega]
      exact h3
    · intro ht
      obtain ⟨j, h2, _, h3⟩ := h1.2 ⟨i, rfl, hi, ht⟩
      rw [show i = j by omega]
      exact h3
  · have hp : 2 ^ n ≤ 2 ^ i := Nat.pow_le_pow_right (by omega) (by omega)
    rw [Nat.testBit_lt_two_pow (by omega), Nat.testBit_lt_two_pow (by omega)]
theorem outs_nodup (rep : List Int → Bool) (n : Nat) : (outs rep n (2 ^ n)).Nodup := by
  unfold outs
  show List.Pairwise _ _
  rw [List.pairwise_map]
  refine ((List.pairwise_lt_range (n := 2 ^ n)).filter _).imp_of_mem fun {a b} ha hb h e => ?_
  have h1 := List.mem_range.1 (List.mem_filter.1 ha).1
  have h2 := List.mem_range.1 (List.mem_filter.1 hb).1
  have := subN_inj h1 h2 e
  omega
theorem sort_outs {rep : List Int → Bool} {n : Nat} (hr : Rising n rep) : sortL (outs rep n (2 ^ n)) = allL rep n (n + 1) 0 [] := by
  refine cmp_unique ?_ (allL_sorted _ _ _) fun Q => ?_
  · have h1 := sortL_sorted (outs rep n (2 ^ n))
    have h2 : (sortL (outs rep n (2 ^ n))).Nodup := (sortL_perm _).nodup_iff.2 (outs_nodup rep n)
    refine (h1.and h2).imp fun {a b} h => ?_
    rcases cmpL_total h.2 with h3 | h3
    · exact h3
    · exact absurd h3 h.1
  · rw [(sortL_perm _).mem_iff, mem_outs, mem_allL hr _ _ _ (by omega) (Inc.nil _) NextAt.nil]
    exact ⟨fun ⟨h1, h3⟩ => ⟨h1, List.nil_prefix, h3⟩, fun ⟨h1, _, h3⟩ => ⟨h1, h3⟩⟩
end Go.Proofs.YtppehghiiahabaaGreatDoor.Sh
