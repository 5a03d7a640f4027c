/- Labels: IsClear, ScoreOf and ClashesOf of both; bounds on lengths alone. -/
import Derived.Test.YtlhllbiikideeaaLB8
import Derived.Test.YtlhllbiikideeaaGB
import Derived.Test.YtlhllbiikideeaaMGV
namespace Go.Proofs.Ytlhllbiikideeaa.Sh
open Go.RowKit
def plcC (L : List Label) (P : List Int) : Int := bif labsB L then bif decide (P.length = L.length) && P.all (fun x => inB x 0 4) then 0 else 2 else 1
theorem lenNe (P : List Int) (L : List Label) : ((P.length : Int) != (L.length : Int)) = !decide (P.length = L.length) := by
  by_cases h : P.length = L.length
  · rw [h]; simp
  · rw [decide_eq_false h, bne_iff_ne.2 (by omega)]
    rfl
theorem impl_plc {L : List Label} (hL : L.length ≤ 1048576) {P : List Int} (hP : P.length ≤ 1048576) : impl_placementCode L P = some (plcC L P) := by
  unfold impl_placementCode impl_areWithin plcC
  rw [impl_labs hL, Option.bind_some, lenNe, loop_any (by omega) (fun x => !inB x 0 4) false (fun i x hx => by rw [at_nat, hx, Option.bind_some, within_eq, Option.bind_some]), ← List.not_all_eq_any_not]
  cases labsB L
  · rfl
  cases decide (P.length = L.length)
  · rfl
  · cases P.all (fun x => inB x 0 4) <;> rfl
theorem spec_plc {L : List Label} (hL : L.length ≤ 1048576) {P : List Int} (hP : P.length ≤ 1048576) : spec_l33Placement L P = some (plcC L P) := by
  unfold spec_l33Placement plcC
  rw [spec_labs hL, Option.bind_some, lenNe, loop_any (by omega) (fun x => !inB x 0 4) 2 (fun i x hx => by rw [at_nat, hx, Option.bind_some, l01In_eq, Option.bind_some]), ← List.not_all_eq_any_not]
  cases labsB L
  · rfl
  cases decide (P.length = L.length)
  · rfl
  · cases P.all (fun x => inB x 0 4) <;> rfl
theorem plc_in {L : List Label} {P : List Int} (h : (plcC L P != 0) = false) : PIn L P := by
  unfold plcC at h
  cases hl : labsB L
  · rw [hl] at h; cases h
  cases hd : decide (P.length = L.length) && P.all (fun x => inB x 0 4)
  · rw [hl, hd] at h; cases h
  obtain ⟨h6, hA⟩ := labsB_in hl
  rw [Bool.and_eq_true, decide_eq_true_eq, List.all_eq_true] at hd
  refine ⟨hd.1, h6, hA, fun i hi => ?_⟩
  have := hd.2 _ (List.getElem_mem hi)
  rw [inB_iff] at this
  have h2 : gp P i = P[i] := by
    unfold gp
    rw [List.getElem?_eq_getElem hi]
    rfl
  rw [h2]
  exact this
theorem plc_zero {L : List Label} {P : List Int} (hl : labsB L = true) (h : PIn L P) : plcC L P = 0 := by
  unfold plcC
  have h2 : P.all (fun x => inB x 0 4) = true := by
    rw [List.all_eq_true]
    intro x hx
    obtain ⟨i, hi, rfl⟩ := List.mem_iff_getElem.1 hx
    have := h.pos i hi
    have h2 : gp P i = P[i] := by
      unfold gp
      rw [List.getElem?_eq_getElem hi]
      rfl
    rw [h2] at this
    exact inB_iff.2 this
  rw [hl, decide_eq_true h.len, h2]
  rfl
theorem fit_all {L : List Label} {P : List Int} (h : PIn L P) : ((List.range P.length).all fun i => fitB (alL L) (clL L) P i (gp P i)) = clearB (alL L) (clL L) P := by
  rw [Bool.eq_iff_iff, List.all_eq_true, clearB_iff]
  constructor
  · intro hf i hi
    have h1 := fitB_iff.1 (hf i (List.mem_range.2 hi))
    refine ⟨h1.1, fun k hk => ?_⟩
    rw [clL_sym h.lab]
    exact h1.2 k (by omega) (by omega)
  · intro hc i hi
    have hi := List.mem_range.1 hi
    refine fitB_iff.2 ⟨(hc i hi).1, fun k hk hki => ?_⟩
    rcases Nat.lt_trichotomy k i with hlt | he | hlt
    · rw [clL_sym h.lab]
      exact (hc i hi).2 k hlt
    · exact absurd he hki
    · exact (hc k hk).2 i hlt
def cleV (L : List Label) (P : List Int) : Bool × Int := bif plcC L P != 0 then (false, plcC L P) else (clearB (alL L) (clL L) P, 0)
theorem impl_cleV {L : List Label} (hL : L.length ≤ 1048576) {P : List Int} (hP : P.length ≤ 1048576) : impl_IsClear L P = some (cleV L P) := by
  unfold impl_IsClear cleV
  rw [impl_plc hL hP, Option.bind_some]
  cases hc : (plcC L P != 0)
  · rw [cond_false, cond_false, impl_clear (plc_in hc)]
    rfl
  · rfl
theorem spec_cleV {L : List Label} (hL : L.length ≤ 1048576) {P : List Int} (hP : P.length ≤ 1048576) : spec_IsClear L P = some (cleV L P) := by
  unfold spec_IsClear cleV
  rw [spec_plc hL hP, Option.bind_some]
  cases hc : (plcC L P != 0)
  · have h := plc_in hc
    have hl := h.len
    rw [cond_false, cond_false, ← hl, loop_any_n (by omega) (fun i => !fitB (alL L) (clL L) P i (gp P i)) (false, 0) (fun i hi => by
      have h3 := h.pos i hi
      rw [at_nat, gp_at hi, Option.bind_some, spec_fits h hi h3.1 h3.2, Option.bind_some]), any_range]
    simp only [Bool.not_not, fit_all h]
    cases clearB (alL L) (clL L) P <;> rfl
  · rfl
def scoV (L : List Label) (P : List Int) : Int × Int := bif plcC L P != 0 then (0, plcC L P) else (scoB L P, 0)
theorem impl_scoV {L : List Label} (hL : L.length ≤ 1048576) {P : List Int} (hP : P.length ≤ 1048576) : impl_ScoreOf L P = some (scoV L P) := by
  unfold impl_ScoreOf scoV
  rw [impl_plc hL hP, Option.bind_some]
  cases hc : (plcC L P != 0)
  · rw [cond_false, cond_false, impl_sco (plc_in hc)]
    rfl
  · rfl
theorem spec_scoV {L : List Label} (hL : L.length ≤ 1048576) {P : List Int} (hP : P.length ≤ 1048576) : spec_ScoreOf L P = some (scoV L P) := by
  unfold spec_ScoreOf scoV
  rw [spec_plc hL hP, Option.bind_some]
  cases hc : (plcC L P != 0)
  · rw [cond_false, cond_false, spec_sco (plc_in hc)]
    rfl
  · rfl
theorem forS_congr {S A : Type} {n : Nat} (hn : n ≤ 1000000000) {B B' : Int → S → Option S} {D : S → A} (h : ∀ (i : Nat) s, i < n → B (i : Int) s = B' (i : Int) s) : ∀ (k : Nat) (s : S), k ≤ n → forS (n : Int) B D (k : Int) s = forS (n : Int) B' D (k : Int) s := by
  have key : ∀ (m k : Nat) (s : S), k + m = n → forS (n : Int) B D (k : Int) s = forS (n : Int) B' D (k : Int) s := by
    intro m
    induction m with
    | zero =>
      intro k s hk
      obtain rfl : k = n := by omega
      unfold forS
      rw [loop_eq]
      conv => rhs; rw [loop_eq]
      simp only [decide_eq_false (show ¬ (k : Int) < k by omega), cond_false]
    | succ m ih =>
      intro k s hk
      have h1 := fun s => ih (k + 1) s (by omega)
      unfold forS at h1 ⊢
      rw [loop_eq]
      conv => rhs; rw [loop_eq]
      simp only [decide_eq_true (show (k : Int) < n by omega), cond_true, h k s (by omega), w64_id (n := (k : Int) + 1) (by omega) (by omega)]
      cases B' (k : Int) s with
      | none => rfl
      | some s' =>
        simp only [Option.bind_some]
        simpa using h1 s'
  exact fun k s hk => key (n - k) k s (by omega)
theorem clash_at {L : List Label} {P : List Int} (h : PIn L P) {i k : Nat} (hi : i < L.length) (hk : k < L.length) : impl_clash L P (i : Int) (k : Int) = some (clL L i (gp P i) k (gp P k)) := by
  have hl := h.len
  have h1 := h.pos i (by omega)
  have h2 := h.pos k (by omega)
  have hx := List.getElem?_eq_getElem hi
  have hy := List.getElem?_eq_getElem hk
  rw [impl_clash_eq hx hy (gp_at (by omega)) (gp_at (by omega)) (h.lab _ (List.getElem_mem hi)) (h.lab _ (List.getElem_mem hk)) h1.1 h1.2 h2.1 h2.2]
  unfold clL
  rw [hx, hy]
  dsimp only
  rw [inB_iff.2 h1, inB_iff.2 h2]
  rfl
theorem forsK_G {S A : Type} {n : Nat} (hn : n ≤ 1000000000) {B : Int → S → Option S} {D : S → A} (I : Nat → S → Prop) (hB : ∀ (i : Nat) s, i < n → I i s → Gv (B (i : Int) s) (I (i + 1))) {k : Nat} (hk : k ≤ n) {s : S} (hs : I k s) {Q : A → Prop} (hQ : ∀ s, I n s → Q (D s)) : Gv (forS (n : Int) B D (k : Int) s) Q := by
  have key : ∀ (m i : Nat) s, i + m = n → I i s → Gv (forS (n : Int) B D (i : Int) s) Q := by
    intro m
    induction m with
    | zero =>
      intro i s him hi
      obtain rfl : i = n := by omega
      unfold forS
      rw [loop_eq]
      simp only [decide_eq_false (show ¬ (i : Int) < i by omega), cond_false]
      exact ⟨_, rfl, hQ s hi⟩
    | succ m ih =>
      intro i s him hi
      obtain ⟨s', e, hs'⟩ := hB i s (by omega) hi
      have := ih (i + 1) s' (by omega) hs'
      unfold forS at this ⊢
      rw [loop_eq]
      simp only [decide_eq_true (show (i : Int) < n by omega), cond_true, e, Option.bind_some]
      rw [w64_id (by omega) (by omega)]
      simpa using this
  exact key (n - k) k s (by omega) hs
/-- The clashes, with what is known of them. -/
theorem clashes_G {L : List Label} (hL : L.length ≤ 1048576) {P : List Int} (hP : P.length ≤ 1048576) : ∃ r, impl_ClashesOf L P = some r ∧ spec_ClashesOf L P = some r ∧ r.1.length ≤ 1000 ∧ (∀ x ∈ r.1, x.length ≤ 2) ∧ (plcC L P = 0 → clearB (alL L) (clL L) P = true → r.1 = []) := by
  have hs : spec_ClashesOf L P = impl_ClashesOf L P := by
    unfold spec_ClashesOf impl_ClashesOf
    rw [impl_plc hL hP, spec_plc hL hP, Option.bind_some, Option.bind_some]
    cases hc : (plcC L P != 0)
    · rw [cond_false, cond_false]
      have h := plc_in hc
      have h6 := h.six
      have hl := h.len
      congr 1
      refine forS_congr (by omega) (fun i s hi => ?_) 0 _ (by omega)
      rw [w64_id (by omega) (by omega), show (i : Int) + 1 = ((i + 1 : Nat) : Int) by omega]
      refine forS_congr (by omega) (fun k s hk => ?_) (i + 1) _ (by omega)
      have h1 := h.pos i (by omega)
      have h2 := h.pos k (by omega)
      have hx := List.getElem?_eq_getElem hi
      have hy := List.getElem?_eq_getElem hk
      rw [clash_at h hi hk, at_nat, hx, Option.bind_some, at_nat, gp_at (by omega), Option.bind_some, at_nat, hy, Option.bind_some, at_nat, gp_at (by omega), Option.bind_some, spec_clash (h.lab _ (List.getElem_mem hi)) (h.lab _ (List.getElem_mem hk)) h1.1 h1.2]
      unfold clL
      rw [hx, hy]
      dsimp only
      rw [inB_iff.2 h1, inB_iff.2 h2]
      rfl
    · rfl
  have hg : Gv (impl_ClashesOf L P) (fun r => r.1.length ≤ 1000 ∧ (∀ x ∈ r.1, x.length ≤ 2) ∧ (plcC L P = 0 → clearB (alL L) (clL L) P = true → r.1 = [])) := by
    unfold impl_ClashesOf
    rw [impl_plc hL hP, Option.bind_some]
    refine Gv.cond (fun _ => .some ⟨by simp, by simp, fun _ _ => rfl⟩) fun hc => ?_
    have h := plc_in hc
    have h6 := h.six
    have hl := h.len
    refine Gv.bind (P := fun r : List (List Int) => r.length ≤ 1000 ∧ (∀ x ∈ r, x.length ≤ 2) ∧ (clearB (alL L) (clL L) P = true → r = [])) ?_ fun j hj => .some ⟨hj.1, hj.2.1, fun _ h => hj.2.2 h⟩
    refine Gv.fors (n := L.length) (by omega) (fun i s => s.length ≤ 6 * i ∧ (∀ x ∈ s, x.length ≤ 2) ∧ (clearB (alL L) (clL L) P = true → s = [])) (fun i s hi hs => ?_) ⟨Nat.le_refl _, by simp, fun _ => rfl⟩ fun s hs => ⟨by omega, hs.2⟩
    rw [w64_id (by omega) (by omega), show (i : Int) + 1 = ((i + 1 : Nat) : Int) by omega]
    refine forsK_G (n := L.length) (by omega) (fun k s => (i < k ∧ s.length ≤ 6 * i + k) ∧ (∀ x ∈ s, x.length ≤ 2) ∧ (clearB (alL L) (clL L) P = true → s = [])) (fun k s hk hs => ?_) (by omega) ⟨by omega, hs.2⟩ fun s hs => ⟨by omega, hs.2⟩
    rw [clash_at h hi hk, Option.bind_some]
    refine Gv.cond (fun hcl => ?_) fun _ => .some ⟨by omega, hs.2⟩
    refine Gv.bind (Gv.app (by simp; omega)) fun r hr => .some ⟨⟨by omega, by rw [hr]; simp; omega⟩, fun x hx => ?_, fun hcb => ?_⟩
    · rw [hr] at hx
      rcases List.mem_append.1 hx with hx | hx
      · exact hs.2.1 x hx
      · rw [List.mem_singleton.1 hx]; simp
    · exfalso
      have h3 := clearB_iff.1 hcb
      rcases Nat.lt_trichotomy i k with hik | hik | hik
      · have := (h3 k (by omega)).2 i hik
        rw [clL_sym h.lab, hcl] at this
        cases this
      · have := hs.1.1
        omega
      · have := (h3 i (by omega)).2 k hik
        rw [hcl] at this
        cases this
  obtain ⟨r, e, h1, h2, h3⟩ := hg
  exact ⟨r, e, by rw [hs, e], h1, h2, h3⟩
theorem likeInts_self (L : List Int) (hL : L.length ≤ 1048576) : laws_likeInts L L = some true := by
  unfold laws_likeInts
  rw [bne_self_eq_false, cond_false, loop_any (by omega) (fun _ => false) false (fun i x hx => by
    rw [at_nat, hx]
    simp)]
  have : (L.any fun _ => false) = false := by simp
  rw [this]
  rfl
theorem likeTables_self (T : List (List Int)) (hT : T.length ≤ 1048576) (h : ∀ x ∈ T, x.length ≤ 1048576) : laws_likeTables T T = some true := by
  unfold laws_likeTables
  rw [bne_self_eq_false, cond_false, loop_any (by omega) (fun _ => false) false (fun i x hx => by
    rw [at_nat, hx, Option.bind_some, Option.bind_some, likeInts_self x (h x (List.mem_of_getElem? hx))]
    rfl)]
  have : (T.any fun _ => false) = false := by simp
  rw [this]
  rfl
end Go.Proofs.Ytlhllbiikideeaa.Sh
