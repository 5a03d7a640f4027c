/- The best repair of both, and what its kept claims tell; no condition but those of claims. -/
import Derived.Test.YtppehghiiahabaaGreatDoorMMR3
namespace Go.Proofs.YtppehghiiahabaaGreatDoor.Sh
open Go.RowKit Go.Lib
theorem iterN_lst {α S A : Type} {B : Int → S → Option S} {D : S → A} (I : S → Prop) (g : S → α → S) : ∀ (M : List α) (k : Nat) (s : S), (∀ j x s, M[j]? = some x → I s → B ((k + j : Nat) : Int) s = some (g s x) ∧ I (g s x)) → I s → iterN (fun i s => (B (i : Int) s).map (Sum.inl (β := A))) D M.length k s = some (D (M.foldl g s)) ∧ I (M.foldl g s)
  | [], _, _, _, h => ⟨rfl, h⟩
  | x :: l, k, s, h, h2 => by
    have h3 := h 0 x s rfl h2
    rw [Nat.add_zero] at h3
    rw [List.length_cons]
    unfold iterN
    rw [h3.1]
    exact iterN_lst I g l (k + 1) _ (fun j y s hy hs => by
      have := h (j + 1) y s (by rw [List.getElem?_cons_succ]; exact hy) hs
      rw [show k + 1 + j = k + (j + 1) by omega]
      exact this) h3.2
theorem min_exists {L : List Claim} (hc : claimsB L = true) : ∃ Q, Inc L.length Q ∧ minB (repB L) Q = true := by
  have hI : Inc L.length ((List.range L.length).map fun (i : Nat) => (i : Int)) := by
    refine ⟨?_, fun x hx => ?_⟩
    · rw [List.pairwise_map]
      exact (List.pairwise_lt_range (n := L.length)).imp fun h => by omega
    · obtain ⟨i, hi, rfl⟩ := List.mem_map.1 hx
      have := List.mem_range.1 hi
      omega
  have hk : keptL L ((List.range L.length).map fun (i : Nat) => (i : Int)) = [] := by
    rw [List.eq_nil_iff_forall_not_mem]
    intro c hc
    obtain ⟨i, hn, hi⟩ := mem_kept.1 hc
    exact hn (List.mem_map.2 ⟨i, List.mem_range.2 (List.getElem?_eq_some_iff.1 hi).1, rfl⟩)
  have hr : repB L ((List.range L.length).map fun (i : Nat) => (i : Int)) = true := by
    unfold repB
    rw [hk]
    rfl
  obtain ⟨Q, h1, h2, _⟩ := exists_min _ _ (Nat.le_refl _) hI hr
  exact ⟨Q, h1, h2⟩
theorem spec_best {L : List Claim} (hc : claimsB L = true) : ∃ b, spec_l22Best L = some (b, wt L b) ∧ IsLeast (wt L) (allL (repB L) L.length (L.length + 1) 0 []) b := by
  have h12 := (claimsB_iff.1 hc).1
  obtain ⟨Q, q1, q2⟩ := min_exists hc
  have hQ := (mem_all hc).2 ⟨q1, q2⟩
  have hsort := allL_sorted (rep := repB L) (n := L.length) (L.length + 1) 0 []
  have hlen := allL_len (n := L.length) (rep := repB L) (L.length + 1) 0 [] (by omega)
  have hinc : ∀ x ∈ allL (repB L) L.length (L.length + 1) 0 [], Inc L.length x := fun x hx => ((mem_all hc).1 hx).1
  have hpow : 2 ^ (L.length - 0) ≤ 2 ^ 12 := Nat.pow_le_pow_right (by omega) (by omega)
  unfold spec_l22Best
  rw [spec_all hc, Option.bind_some]
  generalize allL (repB L) L.length (L.length + 1) 0 [] = l at *
  cases l with
  | nil => simp at hQ
  | cons a l =>
    have h0 : at' (a :: l) 0 = some a := at_nat (L := a :: l) 0
    have ha := hinc a (by simp)
    obtain ⟨h1, h2⟩ := forS_foldl_list (L := a :: l) (by omega) (B := fun (i5 : Int) (s5 : (List Int)) => ((at' (a :: l) i5).bind fun x9 => ((spec_l20Weight L x9).bind fun x10 => ((spec_l20Weight L s5).bind fun x11 => (((bif (decide (x10 < x11)) then some true else (bif (x10 == x11) then ((at' (a :: l) i5).bind fun x12 => some (decide ((x12.length : Int) < (s5.length : Int)))) else some false))).bind fun (j13 : Bool) => (bif j13 then ((at' (a :: l) i5).bind fun x15 => some x15) else some s5)))))) (D := fun s => s) (Inc L.length) (fun b a => if wt L a < wt L b ∨ (wt L a = wt L b ∧ a.length < b.length) then a else b) a (fun i x s hx hs => by
      have hxi := hinc x (List.mem_of_getElem? hx)
      have hat : at' (a :: l) (i : Int) = some x := by rw [at_nat, hx]
      simp only [hat, Option.bind_some, spec_weight_eq hc hxi, spec_weight_eq hc hs]
      by_cases c1 : wt L x < wt L s
      · rw [decide_eq_true c1, if_pos (.inl c1)]
        exact ⟨rfl, hxi⟩
      · rw [decide_eq_false c1, cond_false]
        by_cases c2 : wt L x = wt L s
        · rw [beq_iff_eq.2 c2, cond_true, Option.bind_some]
          by_cases c3 : x.length < s.length
          · rw [decide_eq_true (show (x.length : Int) < s.length by omega), if_pos (.inr ⟨c2, c3⟩)]
            exact ⟨rfl, hxi⟩
          · rw [decide_eq_false (show ¬ (x.length : Int) < s.length by omega), if_neg (by omega)]
            exact ⟨rfl, hs⟩
        · rw [beq_eq_false_iff_ne.2 c2, if_neg (by omega)]
          exact ⟨rfl, hs⟩) ha
    rw [h0, Option.bind_some, h1, Option.bind_some, spec_weight_eq hc h2, Option.bind_some]
    refine ⟨_, rfl, ?_⟩
    rw [List.foldl_cons, if_neg (by omega)]
    exact least_sorted (w := wt L) l [a] a hsort ⟨by simp, fun r hr => .inl (List.mem_singleton.1 hr)⟩
theorem impl_best {L : List Claim} (hc : claimsB L = true) : ∃ b, impl_bestRepair L = some b ∧ IsLeast (wt L) (sortL (outs (repB L) L.length (2 ^ L.length))) b := by
  have h12 := (claimsB_iff.1 hc).1
  obtain ⟨Q, q1, q2⟩ := min_exists hc
  have hQ : Q ∈ sortL (outs (repB L) L.length (2 ^ L.length)) := (sortL_perm _).mem_iff.2 (mem_outs.2 ⟨q1, q2⟩)
  have hpow : 2 ^ L.length ≤ 2 ^ 12 := Nat.pow_le_pow_right (by omega) h12
  have hlen : (sortL (outs (repB L) L.length (2 ^ L.length))).length ≤ 2 ^ L.length := by
    rw [sortL_len]
    exact outs_len _ _ _
  have hinc : ∀ x ∈ sortL (outs (repB L) L.length (2 ^ L.length)), Inc L.length x := fun x hx => (mem_outs.1 ((sortL_perm _).mem_iff.1 hx)).1
  unfold impl_bestRepair
  rw [impl_minimal_eq hc, Option.bind_some]
  generalize sortL (outs (repB L) L.length (2 ^ L.length)) = l at *
  cases l with
  | nil => simp at hQ
  | cons a l =>
    rw [List.length_cons] at hlen
    have h0 : at' (a :: l) 0 = some a := at_nat (L := a :: l) 0
    have ha := hinc a (by simp)
    have hcl : ∀ x y, Inc L.length x → Inc L.length y → ∃ r, impl_bestRepair_1 x y L = some r ∧ (decide (r < 0) = true ↔ keyL (wt L) x y) := fun x y hx hy => best_cmp hc hx hy
    obtain ⟨h1, h2⟩ := iterN_lst (A := List Int) (B := fun (i6 : Int) (s6 : (List Int)) => ((at' (a :: l) i6).bind fun x10 => ((impl_bestRepair_1 x10 s6 L).bind fun x11 => (bif (decide (x11 < 0)) then ((at' (a :: l) i6).bind fun x12 => some x12) else some s6)))) (D := fun s => s) (Inc L.length) (fun b a => bif @decide (keyL (wt L) a b) (Classical.propDecidable _) then a else b) l 1 a (fun j x s hx hs => by
      have hxi := hinc x (List.mem_cons_of_mem _ (List.mem_of_getElem? hx))
      have hat : at' (a :: l) ((1 + j : Nat) : Int) = some x := by rw [at_nat, Nat.add_comm, List.getElem?_cons_succ, hx]
      obtain ⟨r, r1, r2⟩ := hcl x s hxi hs
      simp only [hat, Option.bind_some, r1]
      cases hr : decide (r < 0)
      · have : ¬ keyL (wt L) x s := fun h => by rw [r2.2 h] at hr; cases hr
        rw [@decide_eq_false _ (Classical.propDecidable _) this]
        exact ⟨rfl, hs⟩
      · rw [@decide_eq_true _ (Classical.propDecidable _) (r2.1 hr)]
        exact ⟨rfl, hxi⟩) ha
    unfold slices_MinFunc_int64_impl_bestRepair_1
    rw [decide_eq_false (show ¬ ((a :: l).length : Int) < 1 by rw [List.length_cons]; omega), cond_false, Option.bind_some, h0, Option.bind_some, forS_forN]
    have hfr := forN_from (n := ((a :: l).length : Int)) 1 (by rw [List.length_cons]; omega) (fun (i : Int) (s : List Int) => (((at' (a :: l) i).bind fun x10 => ((impl_bestRepair_1 x10 s L).bind fun x11 => (bif (decide (x11 < 0)) then ((at' (a :: l) i).bind fun x12 => some x12) else some s)))).map (Sum.inl (β := List Int))) (fun s => s) a
    rw [show (((a :: l).length : Int) - (1 : Nat)).toNat = l.length by rw [List.length_cons]; omega] at hfr
    refine ⟨_, (congrArg (fun o : Option (List Int) => (o.bind fun j4 => some j4).bind fun x2 => some x2) (hfr.trans h1)).trans rfl, ?_⟩
    exact least_fold (w := wt L) _ (fun a b => by rw [@decide_eq_true_eq _ (Classical.propDecidable _)]) l [a] a ⟨by simp, fun r hr => .inl (List.mem_singleton.1 hr)⟩
theorem best_eq {L : List Claim} (hc : claimsB L = true) : ∃ b, impl_bestRepair L = some b ∧ spec_l22Best L = some (b, wt L b) ∧ Inc L.length b ∧ minB (repB L) b = true := by
  obtain ⟨b, b1, b2⟩ := impl_best hc
  obtain ⟨c, c1, c2⟩ := spec_best hc
  have hbc : b = c := IsLeast.unique (fun x => by rw [(sortL_perm _).mem_iff, mem_outs, mem_all hc]) b2 c2
  subst hbc
  have hm := (mem_all hc).1 c2.1
  exact ⟨b, b1, c1, hm.1, hm.2⟩
theorem spec_kept_eq {L : List Claim} (hc : claimsB L = true) {b : List Int} (hb : spec_l22Best L = some (b, wt L b)) (hi : Inc L.length b) : spec_l24Kept L = some (keptL L b) := by
  have h1 := (claimsB_iff.1 hc).1
  have h4 := rest_len L.length b
  have h5 := hi.len
  unfold spec_l24Kept
  rw [hb, Option.bind_some]
  show ((spec_l22Rest L b).bind _) = _
  rw [spec_rest_eq (by omega) (by omega), Option.bind_some, spec_chosen_eq (by omega) (fun x hx => by
    obtain ⟨i, rfl, hi, _⟩ := mem_rest.1 hx
    omega), Option.bind_some]
  rfl
theorem kept_claims {L : List Claim} (hc : claimsB L = true) (b : List Int) : claimsB (keptL L b) = true := by
  have h1 := (claimsB_iff.1 hc).1
  have h2 := choL_len L (restL L.length b)
  have h4 := rest_len L.length b
  exact claimsB_iff.2 ⟨by unfold keptL; omega, (kept_ok hc b).2⟩
theorem kept_sub {L : List Claim} {b : List Int} {x : Claim} (h : x ∈ keptL L b) : x ∈ L := choL_mem h
noncomputable def bestV (L : List Claim) (b : List Int) (k : Int) (p : ByteArray) (y : Int) : ByteArray × Int := bif abC L p y != 0 then (ByteArray.mk #[], abC L p y) else match tel (keptL L b) k p y with | some v => (v, 0) | none => (ByteArray.mk #[], 4)
theorem tol_kept {L : List Claim} {b : List Int} {p : ByteArray} {y : Int} (h0 : (abC L p y != 0) = false) (hm : minB (repB L) b = true) (k : Int) : tolV (keptL L b) k p y = bestV L b k p y := by
  have hz : (abC L p y == 0) = true := by
    rw [bne, Bool.not_eq_false'] at h0
    exact h0
  have hc := abC_zero hz
  have hz' : abC (keptL L b) p y = 0 := by
    unfold abC at hz ⊢
    rw [kept_claims hc b]
    rw [hc] at hz
    exact beq_iff_eq.1 hz
  have hso : soC (keptL L b) p y = 0 := by
    unfold soC
    rw [hz']
    have : consB (keptL L b) = true := minB_rep hm
    rw [this]
    rfl
  unfold tolV bestV
  rw [hso, h0]
  rfl
theorem impl_told_best {L : List Claim} (hL : L.length ≤ 1048576) (h : ∀ x ∈ L, smClaim x) {p : ByteArray} (hp : p.size ≤ 1048576) (k y : Int) {b : List Int} (hb : claimsB L = true → impl_bestRepair L = some b ∧ Inc L.length b) : impl_bestTold L k p y = some (bestV L b k p y) := by
  unfold impl_bestTold bestV
  rw [impl_about_eq hL h hp, Option.bind_some]
  cases h0 : (abC L p y != 0)
  · have hc : claimsB L = true := abC_zero (p := p) (y := y) (by rw [bne, Bool.not_eq_false'] at h0; exact h0)
    have h12 := (claimsB_iff.1 hc).1
    obtain ⟨b1, b2⟩ := hb hc
    have h5 := b2.len
    have h6 := (kept_ok hc b).1
    rw [cond_false, cond_false, b1, Option.bind_some, impl_kept_eq (by omega) (by omega), Option.bind_some, impl_told_eq (by omega), Option.bind_some]
    cases tel (keptL L b) k p y <;> rfl
  · rfl
theorem best_ex (L : List Claim) : ∃ b, claimsB L = true → impl_bestRepair L = some b ∧ spec_l22Best L = some (b, wt L b) ∧ Inc L.length b ∧ minB (repB L) b = true := by
  cases hc : claimsB L
  · exact ⟨[], fun h => by cases h⟩
  · obtain ⟨b, h⟩ := best_eq hc
    exact ⟨b, fun _ => h⟩
theorem bestName_V {L : List Claim} (hL : L.length ≤ 1048576) (h : ∀ x ∈ L, smClaim x) {p : ByteArray} (hp : p.size ≤ 1048576) (y : Int) {b : List Int} (hb : claimsB L = true → impl_bestRepair L = some b ∧ spec_l22Best L = some (b, wt L b) ∧ Inc L.length b ∧ minB (repB L) b = true) : impl_BestName L p y = some (bestV L b 0 p y) ∧ spec_BestName L p y = some (bestV L b 0 p y) := by
  constructor
  · unfold impl_BestName
    rw [impl_told_best hL h hp 0 y fun hc => ⟨(hb hc).1, (hb hc).2.2.1⟩]
    rfl
  · unfold spec_BestName
    rw [spec_code_eq hL h hp, Option.bind_some]
    cases h0 : (abC L p y != 0)
    · have hc : claimsB L = true := abC_zero (p := p) (y := y) (by rw [bne, Bool.not_eq_false'] at h0; exact h0)
      obtain ⟨_, b2, b3, b4⟩ := hb hc
      have h6 := (kept_ok hc b).1
      rw [cond_false, spec_kept_eq hc b2 b3, Option.bind_some, spec_nameBy_eq (by omega) (fun x hx => h x (kept_sub hx)) hp, tol_kept h0 b4]
      rfl
    · unfold bestV
      rw [h0]
      rfl
theorem bestParent_V {L : List Claim} (hL : L.length ≤ 1048576) (h : ∀ x ∈ L, smClaim x) {p : ByteArray} (hp : p.size ≤ 1048576) (y : Int) {b : List Int} (hb : claimsB L = true → impl_bestRepair L = some b ∧ spec_l22Best L = some (b, wt L b) ∧ Inc L.length b ∧ minB (repB L) b = true) : impl_BestParent L p y = some (bestV L b 1 p y) ∧ spec_BestParent L p y = some (bestV L b 1 p y) := by
  constructor
  · unfold impl_BestParent
    rw [impl_told_best hL h hp 1 y fun hc => ⟨(hb hc).1, (hb hc).2.2.1⟩]
    rfl
  · unfold spec_BestParent
    rw [spec_code_eq hL h hp, Option.bind_some]
    cases h0 : (abC L p y != 0)
    · have hc : claimsB L = true := abC_zero (p := p) (y := y) (by rw [bne, Bool.not_eq_false'] at h0; exact h0)
      obtain ⟨_, b2, b3, b4⟩ := hb hc
      have h6 := (kept_ok hc b).1
      rw [cond_false, spec_kept_eq hc b2 b3, Option.bind_some, spec_parentBy_eq (by omega) (fun x hx => h x (kept_sub hx)) hp, tol_kept h0 b4]
      rfl
    · unfold bestV
      rw [h0]
      rfl
end Go.Proofs.YtppehghiiahabaaGreatDoor.Sh
