/- Proofs lead from one record to the other; the groups hold each record once; no condition. -/
import Derived.Test.YtmbejkchgdcdhaaDoorW10
namespace Go.Proofs.YtmbejkchgdcdhaaDoor.Sh
open Go.RowKit Go.Lib
/-- The record to which a list of ties leads. -/
def walkP (L : List Tie) : Int → List Int → Option Int
  | x, [] => some x
  | x, i :: p => (at' L i).bind fun t => bif !t.Same || (t.A != x && t.B != x) then none else walkP L (t.A + t.B - x) p
theorem nextP_walk {L : List Tie} {n to : Nat} {d : List Int} (hT : TIn n L) (hd : Dist L n to d) {a : Nat} (ha : a < n) (h : 0 < gv d a) : ∃ (i : Int) (b : Nat) (t : Tie), nextP L d a = some (i, (b : Int)) ∧ b < n ∧ gv d b = gv d a - 1 ∧ at' L i = some t ∧ (!t.Same || (t.A != (a : Int) && t.B != (a : Int))) = false ∧ t.A + t.B - a = b := by
  obtain ⟨i, b, h1, h2, h3⟩ := nextP_some hT hd ha h
  obtain ⟨j, t, h4, h5, h6⟩ := firstI_some h1
  injection h6 with h6 h7
  rw [Nat.zero_add] at h6
  subst h6
  refine ⟨_, b, t, h1, h2, h3, by rw [at_nat, h4], ?_, ?_⟩
  · unfold leads at h5
    rw [Bool.and_eq_true] at h5
    rw [h5.1]
    simp only [Bool.not_true, Bool.false_or]
    have h8 := h5.2
    simp only [Bool.or_eq_true, Bool.and_eq_true] at h8
    rcases h8 with h8 | h8
    · have : (t.A != (a : Int)) = false := by simpa using h8.1
      rw [this]; rfl
    · have : (t.B != (a : Int)) = false := by simpa using h8.1
      rw [this, Bool.and_false]
  · unfold leads at h5
    rw [Bool.and_eq_true] at h5
    have h8 := h5.2
    unfold other at h7
    cases hc : t.A == (a : Int)
    · rw [hc, cond_false] at h7
      rw [hc] at h8
      simp only [Bool.false_and, Bool.false_or, Bool.and_eq_true, beq_iff_eq] at h8
      omega
    · rw [hc, cond_true] at h7
      have := eq_of_beq hc
      omega
theorem walk_proof {n a b : Nat} {L : List Tie} (hT : TIn n L) (han : a < n) {d : List Int} (hd : Dist L n b d) (hf : impl_far (n : Int) L (b : Int) = some d) (h : 0 ≤ gv d a) : ∃ r : List Int, impl_proofOf (n : Int) L (a : Int) (b : Int) = some r ∧ walkP L a r = some (b : Int) := by
  have hL := hT.len
  have hn := hT.le
  unfold impl_proofOf
  rw [hf, Option.bind_some]
  have one : ∀ (k : Nat) (a : Nat) (acc : List Int), a < n → gv d a = k → acc.length + k ≤ 50 → ∃ r : List Int,
      loop (fun (s4 : Int × (List Int)) => (bif (s4.1 != (b : Int)) then ((impl_step L d s4.1).bind fun x6 => ((app' s4.2 ([x6.1] : List Int)).bind fun x7 => some (.inl (x6.2, x7)))) else some (.inr s4.2))) ((a : Int), acc) = some (acc ++ r) ∧ walkP L a r = some (b : Int) := by
    intro k
    induction k with
    | zero =>
      intro a acc ha hk hacc
      have := hd.only a ha (by simpa using hk)
      subst this
      refine ⟨[], ?_, rfl⟩
      rw [loop_eq]
      simp
    | succ k ih =>
      intro a acc ha hk hacc
      have hne : ((a : Int) != (b : Int)) = true := by
        rw [bne_iff_ne]
        intro e
        have e2 : a = b := by omega
        subst e2
        rw [hd.zero] at hk
        omega
      obtain ⟨i, c, t, h1, h2, h3, h4, h5, h6⟩ := nextP_walk hT hd ha (by omega)
      obtain ⟨r, r1, r2⟩ := ih c (acc ++ [i]) h2 (by omega) (by simp; omega)
      refine ⟨i :: r, ?_, ?_⟩
      · rw [loop_eq]
        dsimp only
        rw [hne, cond_true, step_eq hT hd ha (by omega) (by omega), h1]
        simp only [Option.bind_some]
        rw [app_ok (by simp; omega)]
        simp only [Option.bind_some]
        rw [r1]
        simp
      · unfold walkP
        rw [h4, Option.bind_some, h5, cond_false, h6]
        exact r2
  have htop := hd.top hT a han
  obtain ⟨k, hk⟩ := Int.eq_ofNat_of_zero_le h
  obtain ⟨r, r1, r2⟩ := one k a [] han hk (by simp; omega)
  rw [r1]
  exact ⟨r, by simp, r2⟩
theorem proofOf_walk (n : Int) (L : List Tie) (a b : Int) (hL : L.length ≤ maxLen) (ht : ∀ t ∈ L, TOk t) {r : List Int × Int} (h : impl_ProofOf n L a b = some r) (h0 : r.2 = 0) : (0 ≤ a ∧ a < 12) ∧ (∀ t ∈ L, 0 ≤ t.A ∧ t.A < 12 ∧ 0 ≤ t.B ∧ t.B < 12) ∧ walkP L a r.1 = some b := by
  unfold impl_ProofOf at h
  rw [code_impl n L a b hL ht, Option.bind_some] at h
  by_cases hc : codeB n L a b = 0
  · obtain ⟨m, u, v, rfl, rfl, rfl, hu, hv, hT, h20⟩ := codeB_zero hc
    have hdv := farP_dist hT hv
    have hm := hT.le
    rw [hc, far_eq hT hv] at h
    simp only [bne_self_eq_false, cond_false, Option.bind_some] at h
    rw [gv_at (by omega) (by rw [hdv.len]; simpa using hu)] at h
    simp only [Option.bind_some, Int.toNat_natCast] at h
    by_cases hr : 0 ≤ gv (farP m L v m) u
    · obtain ⟨p, p1, p2⟩ := walk_proof hT hu hdv (far_eq hT hv) hr
      rw [decide_eq_false (by omega)] at h
      simp only [cond_false, Option.bind_some, Sum.elim_inl, p1] at h
      injection h with h
      subst h
      refine ⟨by omega, fun t ht => ?_, p2⟩
      have := hT.all t ht
      omega
    · rw [decide_eq_true (by omega)] at h
      simp only [cond_true, Option.bind_some, Sum.elim_inr] at h
      injection h with h
      subst h
      cases h0
  · have h1 : (codeB n L a b != 0) = true := by simpa using hc
    simp only [h1, cond_true, Option.bind_some, Sum.elim_inr] at h
    injection h with h
    subst h
    exact absurd h0 hc
/-- How many ones there are. -/
def cnt (p : Nat → Bool) (n : Nat) : Nat := (fl p n).length
theorem cnt_succ (p : Nat → Bool) (n : Nat) : cnt p (n + 1) = cnt p n + (bif p n then 1 else 0) := by
  unfold cnt
  rw [fl_succ, List.length_append]
  cases p n <;> rfl
theorem cnt_congr {p q : Nat → Bool} {n : Nat} (h : ∀ i, i < n → p i = q i) : cnt p n = cnt q n := by
  unfold cnt
  rw [fl_congr h]
theorem cnt_true : ∀ n : Nat, cnt (fun _ => true) n = n
  | 0 => rfl
  | n + 1 => by rw [cnt_succ, cnt_true n]; rfl
theorem cnt_false : ∀ n : Nat, cnt (fun _ => false) n = 0
  | 0 => rfl
  | n + 1 => by rw [cnt_succ, cnt_false n]; rfl
theorem cnt_step (f : Nat → Nat) (k : Nat) : ∀ n : Nat, cnt (fun v => decide (f v < k + 1)) n = cnt (fun v => decide (f v < k)) n + cnt (fun v => f v == k) n
  | 0 => rfl
  | n + 1 => by
    rw [cnt_succ, cnt_succ, cnt_succ, cnt_step f k n]
    rcases Nat.lt_trichotomy (f n) k with h | h | h
    · have h1 : f n < k + 1 := by omega
      have h4 : (f n == k) = false := by rw [beq_eq_false_iff_ne]; omega
      simp [h, h1, h4]; omega
    · subst h; simp; omega
    · have h1 : ¬ f n < k + 1 := by omega
      have h4 : (f n == k) = false := by rw [beq_eq_false_iff_ne]; omega
      have h3 : ¬ f n < k := by omega
      simp [h1, h4, h3]
/-- The least record of v's group. -/
def hd (n : Nat) (L : List Tie) (v : Nat) : Nat := ((grp n L v)[0]?.getD 0).toNat
theorem hd_spec {n : Nat} {L : List Tie} (hT : TIn n L) {v : Nat} (hv : v < n) : hd n L v < n ∧ ∀ k, k < n → (hd n L v = k ↔ (least n L k = true ∧ rch (farP n L k n) v = true)) := by
  obtain ⟨m, h1, h2, h3, h4⟩ := grp_head hT hv
  have hm : hd n L v = m := by unfold hd; rw [h4]; simp
  rw [hm]
  refine ⟨h1, fun k hk => ⟨fun e => ?_, fun ⟨e1, e2⟩ => ?_⟩⟩
  · subst e
    have h8 := grp_same hT hv h1 h3
    refine ⟨by unfold least; rw [← h8, h4]; exact beq_self_eq_true _, ?_⟩
    have h9 := grp_self hT hv
    have : (fl (rch (farP n L v n)) n).any (fun y => y == (v : Int)) = true := by rw [fl_any, h9, decide_eq_true hv]; rfl
    have h10 : (fl (rch (farP n L m n)) n).any (fun y => y == (v : Int)) = true := by
      unfold grp at h8
      rw [← h8]
      exact this
    rw [fl_any, Bool.and_eq_true] at h10
    exact h10.2
  · have h8 := grp_same hT hk hv e2
    unfold least at e1
    rw [h8, h4] at e1
    have := eq_of_beq e1
    injection this with this
    omega
/-- The groups hold each record once. -/
theorem groups_sum {n : Nat} {L : List Tie} (hT : TIn n L) : ∀ k, k ≤ n → ((((List.range k).flatMap fun a => bif least n L a then [grp n L a] else []).map List.length).foldl (· + ·) 0) = cnt (fun v => decide (hd n L v < k)) n
  | 0, _ => by
    have : cnt (fun v => decide (hd n L v < 0)) n = cnt (fun _ => false) n := cnt_congr fun i _ => by simp
    rw [this, cnt_false]
    rfl
  | k + 1, hk => by
    rw [List.range_succ, List.flatMap_append, List.map_append, List.foldl_append, groups_sum hT k (by omega), cnt_step]
    simp only [List.flatMap_cons, List.flatMap_nil, List.append_nil]
    cases hl : least n L k
    · have : cnt (fun v => hd n L v == k) n = cnt (fun _ => false) n := cnt_congr fun v hv => by
        rw [beq_eq_false_iff_ne]
        intro e
        have := ((hd_spec hT hv).2 k (by omega)).1 e
        rw [hl] at this
        cases this.1
      rw [this, cnt_false]
      rfl
    · have : cnt (fun v => hd n L v == k) n = cnt (rch (farP n L k n)) n := cnt_congr fun v hv => by
        have h := (hd_spec hT hv).2 k (by omega)
        rw [hl] at h
        rw [Bool.eq_iff_iff, beq_iff_eq, h]
        simp
      rw [this]
      rfl
theorem groups_all {n : Nat} {L : List Tie} (hT : TIn n L) : ((groups n L).map List.length).foldl (· + ·) 0 = n := by
  unfold groups
  rw [groups_sum hT n (Nat.le_refl n)]
  have : cnt (fun v => decide (hd n L v < n)) n = cnt (fun _ => true) n := cnt_congr fun v hv => by
    rw [decide_eq_true (hd_spec hT hv).1]
  rw [this, cnt_true]
theorem refutation_code (n : Int) (L : List Tie) (hL : L.length ≤ maxLen) (ht : ∀ t ∈ L, TOk t) {r : Int × List Int × Int} (h : impl_Refutation n L = some r) : r.2.2 = bif tiesB n L then (bif badB n.toNat L then 0 else 4) else 1 := by
  unfold impl_Refutation at h
  rw [impl_areTies n L hL ht, Option.bind_some] at h
  cases hb : tiesB n L
  · rw [hb] at h
    injection h with h
    subst h
    rfl
  · obtain ⟨m, rfl, hT, _⟩ := tiesB_in hb
    rw [hb, refuted_eq hT] at h
    simp only [Option.bind_some, Bool.not_true, cond_false, bad_lt] at h
    rw [Int.toNat_natCast]
    cases hbad : badB m L
    · rw [hbad] at h
      injection h with h
      subst h
      rfl
    · rw [hbad] at h
      simp only [Bool.not_true, cond_false] at h
      obtain ⟨x3, _, h⟩ := Option.bind_eq_some_iff.1 h
      obtain ⟨x4, _, h⟩ := Option.bind_eq_some_iff.1 h
      obtain ⟨x5, _, h⟩ := Option.bind_eq_some_iff.1 h
      injection h with h
      subst h
      rfl
end Go.Proofs.YtmbejkchgdcdhaaDoor.Sh
