/- GreedyPlacement of both; no condition but the bounds of lengths. -/
import Derived.Test.YtlhllbiikideeaaLB6
namespace Go.Proofs.Ytlhllbiikideeaa.Sh
open Go.RowKit
/-- Four tries. -/
theorem four {S : Type} {B : Int → S → Option (S ⊕ S)} {P : S} (p : Int → Bool) (r : Int → S) (h : ∀ q : Int, 0 ≤ q → q ≤ 3 → B q P = bif p q then some (.inr (r q)) else some (.inl P)) : forN 4 B (fun s => s) 0 P = some (match ([0, 1, 2, 3] : List Int).find? p with | some q => r q | none => P) := by
  have w : ∀ n : Nat, n ≤ 3 → w64 ((n : Int) + 1) = ((n + 1 : Nat) : Int) := fun n hn => by rw [w64_id (by omega) (by omega)]; omega
  have st : ∀ q : Nat, q ≤ 3 → loop (fun (z : Int × S) => bif (decide (z.1 < 4)) then (B z.1 z.2).bind (Sum.elim (fun (j : S) => some (.inl (w64 (z.1 + 1), j))) (fun a => some (.inr a))) else some (.inr ((fun s => s) z.2))) ((q : Int), P) = bif p q then some (r q) else loop (fun (z : Int × S) => bif (decide (z.1 < 4)) then (B z.1 z.2).bind (Sum.elim (fun (j : S) => some (.inl (w64 (z.1 + 1), j))) (fun a => some (.inr a))) else some (.inr ((fun s => s) z.2))) (((q + 1 : Nat) : Int), P) := by
    intro q hq
    rw [loop_eq]
    dsimp only
    rw [decide_eq_true (by omega), cond_true, h q (by omega) (by omega), ← w q hq]
    cases p q <;> rfl
  unfold forN
  have s0 := st 0 (by omega)
  have s1 := st 1 (by omega)
  have s2 := st 2 (by omega)
  have s3 := st 3 (by omega)
  have s4 : loop (fun (z : Int × S) => bif (decide (z.1 < 4)) then (B z.1 z.2).bind (Sum.elim (fun (j : S) => some (.inl (w64 (z.1 + 1), j))) (fun a => some (.inr a))) else some (.inr ((fun s => s) z.2))) (((3 + 1 : Nat) : Int), P) = some P := by
    rw [loop_eq]
    rfl
  rw [s4] at s3
  rw [s3] at s2
  rw [s2] at s1
  rw [s1] at s0
  refine s0.trans ?_
  simp only [List.find?_cons, List.find?_nil]
  have c : ∀ n : Nat, ((n : Int)) = (n : Int) := fun _ => rfl
  show (bif p 0 then some (r 0) else bif p 1 then some (r 1) else bif p 2 then some (r 2) else bif p 3 then some (r 3) else some P) = _
  cases p 0 <;> cases p 1 <;> cases p 2 <;> cases p 3 <;> rfl
theorem pin_fit {L : List Label} {P : List Int} (h : PIn L P) (i : Nat) : PIn L (firstFit (alL L) (clL L) P i) := by
  unfold firstFit
  split
  · rename_i pos hp
    have hm := List.mem_of_find?_eq_some hp
    simp only [List.mem_cons, List.not_mem_nil, or_false] at hm
    exact h.set i (by omega) (by omega)
  · exact h
theorem set_gp {P : List Int} {i : Nat} (h : i < P.length) {x : Int} (hx : gp P i = x) : P.set i x = P := by
  have := gp_at h
  rw [hx] at this
  have hi : P[i] = x := by
    rw [List.getElem?_eq_getElem h] at this
    injection this
  rw [← hi]
  exact List.set_getElem_self h
/-- The program's placing, label by label. -/
theorem impl_place {L : List Label} : ∀ (M : List Nat) (k : Nat) (P : List Int), M.Nodup → (∀ i ∈ M, i < P.length ∧ gp P i = 4) → PIn L P → clearB (alL L) (clL L) P = true →
    overI (fun (_ : Nat) (x17 : Int) (s13 : List Int) => ((forN 4 (fun (i18 : Int) (s18 : (List Int)) => ((at' s18 x17).bind fun _ => ((impl_isClear L (List.set s18 (Int.toNat x17) i18)).bind fun x23 => (bif x23 then some (.inr (List.set s18 (Int.toNat x17) i18)) else ((at' (List.set s18 (Int.toNat x17) i18) x17).bind fun _ => some (.inl (List.set (List.set s18 (Int.toNat x17) i18) (Int.toNat x17) 4))))))) (fun (s18 : (List Int)) => s18) 0 s13)).map (Sum.inl (β := List Int))) (fun s => s) (M.map ic) k P = some (M.foldl (firstFit (alL L) (clL L)) P)
  | [], k, P, _, _, _, _ => rfl
  | i :: M, k, P, hn, hM, hP, hc => by
    obtain ⟨hi, h4⟩ := hM i (by simp)
    obtain ⟨hn1, hn2⟩ := List.nodup_cons.1 hn
    rw [List.map_cons]
    unfold overI
    have e := four (B := fun (i18 : Int) (s18 : (List Int)) => ((at' s18 (ic i)).bind fun _ => ((impl_isClear L (List.set s18 (Int.toNat (ic i)) i18)).bind fun x23 => (bif x23 then some (.inr (List.set s18 (Int.toNat (ic i)) i18)) else ((at' (List.set s18 (Int.toNat (ic i)) i18) (ic i)).bind fun _ => some (.inl (List.set (List.set s18 (Int.toNat (ic i)) i18) (Int.toNat (ic i)) 4)))))))
      (P := P) (fitB (alL L) (clL L) P i) (fun q => P.set i q) (fun q q0 q3 => by
        have t : Int.toNat (ic i) = i := by unfold ic; omega
        have g1 : at' P (ic i) = some (gp P i) := by unfold ic; rw [at_nat, gp_at hi]
        have g2 : at' (P.set i q) (ic i) = some q := by unfold ic; rw [at_nat, gp_at (by rw [List.length_set]; exact hi), gp_set hi]
        have hP2 := hP.set i q0 (by omega : q ≤ 4)
        simp only [t, g1, g2, Option.bind_some, impl_clear hP2, clear_set (clL_sym hP.lab) hc hi, List.set_set, set_gp hi h4])
    rw [e]
    have hf := impl_place M (k + 1) (firstFit (alL L) (clL L) P i) hn2 (fun j hj => by
      have hji : i ≠ j := fun e => hn1 (e ▸ hj)
      have := hM j (by simp [hj])
      rw [fit_len, fit_ne hji]
      exact this) (pin_fit hP i) (fit_clear (clL_sym hP.lab) hc hi)
    exact hf
theorem flat_four (n : Nat) : (List.range n).flatMap (fun _ => [(4 : Int)]) = List.replicate n 4 := by
  induction n with
  | zero => rfl
  | succ n ih => rw [range_flat, ih, List.replicate_succ']
theorem flat_ic (n : Nat) : (List.range n).flatMap (fun i => [ic i]) = (List.range n).map ic := by
  induction n with
  | zero => rfl
  | succ n ih => rw [range_flat, ih, List.range_succ, List.map_append]; rfl
theorem gp_rep {n i : Nat} (h : i < n) : gp (List.replicate n (4 : Int)) i = 4 := by
  unfold gp
  rw [List.getElem?_replicate, if_pos h]
  rfl
theorem pin_start {L : List Label} (h6 : L.length ≤ 6) (hA : ∀ x ∈ L, LabIn x) : PIn L (List.replicate L.length 4) :=
  ⟨by simp, h6, hA, fun i hi => by rw [gp_rep (by simpa using hi)]; omega⟩
theorem clear_start {L : List Label} (hA : ∀ x ∈ L, LabIn x) : clearB (alL L) (clL L) (List.replicate L.length 4) = true := by
  rw [clearB_iff]
  intro i hi
  rw [List.length_replicate] at hi
  have hx := List.getElem?_eq_getElem hi
  have ha := hA _ (List.getElem_mem hi)
  rw [gp_rep hi]
  constructor
  · unfold alL allowB
    rw [hx]
    dsimp only
    rw [Bool.not_eq_true', Bool.eq_false_iff]
    intro hc
    obtain ⟨d, _, h⟩ := List.any_eq_true.1 hc
    unfold covB at h
    simp at h
  · intro k hk
    unfold clL
    rw [hx, List.getElem?_eq_getElem (by omega : k < L.length)]
    dsimp only
    unfold clB covP
    cases (inB 4 0 4 && inB (gp (List.replicate L.length 4) k) 0 4) <;> rfl
/-- What both hand back. -/
def greedy (L : List Label) : List Int × Int := bif labsB L then ((ordN (keyL L) L.length).foldl (firstFit (alL L) (clL L)) (List.replicate L.length 4), 0) else ([], 1)
theorem impl_greedy {L : List Label} (hL : L.length ≤ 1048576) : impl_GreedyPlacement L = some (greedy L) := by
  unfold impl_GreedyPlacement greedy
  rw [impl_labs hL, Option.bind_some]
  cases hb : labsB L
  · rfl
  · obtain ⟨h6, hA⟩ := labsB_in hb
    have hk : ∀ i, i < L.length → 1 ≤ keyL L i ∧ keyL L i ≤ 9 := fun i hi => by
      rw [keyL_at (List.getElem?_eq_getElem hi)]
      exact (hA _ (List.getElem_mem hi)).p
    have h1 : slices_Repeat_int64 ([4] : List Int) (L.length : Int) = some (List.replicate L.length 4) := by
      unfold slices_Repeat_int64
      dsimp only
      rw [decide_eq_true (show (0 : Int) ≤ L.length by omega), decide_eq_true (show (L.length : Int) ≤ 16 by omega)]
      rfl
    have h2 : forS (L.length : Int) (fun (i5 : Int) (s5 : (List Int)) => ((app' s5 ([i5] : List Int)).bind fun x9 => some x9)) (fun (s5 : (List Int)) => s5) 0 ([] : List Int) = some ([] ++ (List.range L.length).flatMap fun i => [ic i]) :=
      forS_build (D := fun s => s) 100 (by omega) (by omega) (fun i => [ic i]) (fun i => by simp) [] (by simp; omega) (fun i s hi hs => by
        rw [app_ok (by simp; omega)]
        rfl)
    rw [List.nil_append, flat_ic] at h2
    simp only [Bool.not_true, cond_false, h1, h2, Option.bind_some, sort_eq h6 hA]
    have hln := ord_len (key := keyL L) (n := L.length) hk
    rw [forS_at ((ordN (keyL L) L.length).map ic) (by simp; omega) (fun (_ : Int) x17 (s13 : List Int) => (forN 4 (fun (i18 : Int) (s18 : (List Int)) => ((at' s18 x17).bind fun _ => ((impl_isClear L (List.set s18 (Int.toNat x17) i18)).bind fun x23 => (bif x23 then some (.inr (List.set s18 (Int.toNat x17) i18)) else ((at' (List.set s18 (Int.toNat x17) i18) x17).bind fun _ => some (.inl (List.set (List.set s18 (Int.toNat x17) i18) (Int.toNat x17) 4))))))) (fun (s18 : (List Int)) => s18) 0 s13)),
      impl_place (ordN (keyL L) L.length) 0 (List.replicate L.length 4) (ord_nodup hk) (fun i hi => by
        have := ord_mem hi
        exact ⟨by simpa using this, gp_rep this⟩) (pin_start h6 hA) (clear_start hA)]
    rfl
/-- The reference's placing: one priority. -/
theorem spec_block {L : List Label} {P : List Int} (hP : PIn L P) (j : Nat) : forS (L.length : Int) (fun (i15 : Int) (s15 : (List Int)) => ((at' L i15).bind fun x19 => (bif (x19.Priority != 9 - (j : Int)) then some s15 else (forN 4 (fun (i20 : Int) (s20 : (List Int)) => ((spec_l33Fits L s20 i15 i20).bind fun x24 => (bif x24 then ((at' s20 i15).bind fun _ => some (.inr (List.set s20 (Int.toNat i15) i20))) else some (.inl s20)))) (fun (s20 : (List Int)) => s20) 0 s15)))) (fun (s15 : (List Int)) => s15) 0 P = some ((blkN (keyL L) L.length j).foldl (firstFit (alL L) (clL L)) P) ∧ PIn L ((blkN (keyL L) L.length j).foldl (firstFit (alL L) (clL L)) P) := by
  have h6 := hP.six
  unfold blkN
  rw [List.foldl_filter]
  exact forS_foldl (D := fun s => s) (by omega) (PIn L) (fun s i => if (keyL L i == 9 - (j : Int)) = true then firstFit (alL L) (clL L) s i else s) P (fun i s hi hs => by
    have hx := List.getElem?_eq_getElem hi
    have his : i < s.length := by rw [hs.len]; exact hi
    rw [at_nat, hx, Option.bind_some, ← keyL_at hx]
    by_cases hkey : keyL L i = 9 - (j : Int)
    · rw [if_pos (by rw [beq_iff_eq]; exact hkey)]
      refine ⟨?_, pin_fit hs i⟩
      rw [hkey, bne_self_eq_false, cond_false]
      exact four (P := s) (fitB (alL L) (clL L) s i) (fun q => s.set i q) (fun q q0 q3 => by
        have g1 : at' s (i : Int) = some (gp s i) := by rw [at_nat, gp_at his]
        rw [spec_fits hs his q0 (by omega), Option.bind_some, g1, Option.bind_some, Int.toNat_natCast])
    · rw [if_neg (by rw [beq_iff_eq]; exact hkey)]
      have : (keyL L i != 9 - (j : Int)) = true := by rw [bne_iff_ne]; exact hkey
      rw [this]
      exact ⟨rfl, hs⟩) hP
theorem spec_greedy {L : List Label} (hL : L.length ≤ 1048576) : spec_GreedyPlacement L = some (greedy L) := by
  unfold spec_GreedyPlacement greedy
  rw [spec_labs hL, Option.bind_some]
  cases hb : labsB L
  · rfl
  · obtain ⟨h6, hA⟩ := labsB_in hb
    have h2 : forS (L.length : Int) (fun (_ : Int) (s4 : (List Int)) => ((app' s4 ([4] : List Int)).bind fun x8 => some x8)) (fun (s4 : (List Int)) => s4) 0 ([] : List Int) = some ([] ++ (List.range L.length).flatMap fun _ => [(4 : Int)]) :=
      forS_build (D := fun s => s) 100 (by omega) (by omega) (fun _ => [4]) (fun i => by simp) [] (by simp; omega) (fun i s hi hs => by
        rw [app_ok (by simp; omega)]
        rfl)
    rw [List.nil_append, flat_four] at h2
    simp only [Bool.not_true, cond_false, h2, Option.bind_some]
    have key : ∀ (m j : Nat) (P : List Int), j + m = 9 → PIn L P → loop (fun (s11 : Int × (List Int)) => (bif (decide (s11.1 ≥ 1)) then (((forS (L.length : Int) (fun (i15 : Int) (s15 : (List Int)) => ((at' L i15).bind fun x19 => (bif (x19.Priority != s11.1) then some s15 else (forN 4 (fun (i20 : Int) (s20 : (List Int)) => ((spec_l33Fits L s20 i15 i20).bind fun x24 => (bif x24 then ((at' s20 i15).bind fun _ => some (.inr (List.set s20 (Int.toNat i15) i20))) else some (.inl s20)))) (fun (s20 : (List Int)) => s20) 0 s15)))) (fun (s15 : (List Int)) => s15) 0 s11.2)).bind fun (j13 : (List Int)) => some (.inl ((w64 (s11.1 - 1)), j13))) else some (.inr s11.2))) (9 - (j : Int), P) = some (((List.range' j m).flatMap (blkN (keyL L) L.length)).foldl (firstFit (alL L) (clL L)) P) := by
      intro m
      induction m with
      | zero =>
        intro j P hj _
        rw [loop_eq]
        dsimp only
        rw [decide_eq_false (by omega)]
        rfl
      | succ m ih =>
        intro j P hj hP
        obtain ⟨b1, b2⟩ := spec_block hP j
        rw [loop_eq]
        dsimp only
        rw [decide_eq_true (by omega), cond_true, b1, Option.bind_some, w64_id (by omega) (by omega), List.range'_succ, List.flatMap_cons, List.foldl_append]
        have := ih (j + 1) _ (by omega) b2
        rw [show (9 : Int) - ((j + 1 : Nat) : Int) = 9 - (j : Int) - 1 by omega] at this
        exact this
    have := key 9 0 (List.replicate L.length 4) rfl (pin_start h6 hA)
    rw [← List.range_eq_range'] at this
    have e : (9 : Int) - ((0 : Nat) : Int) = 9 := rfl
    rw [e] at this
    rw [this]
    rfl
end Go.Proofs.Ytlhllbiikideeaa.Sh
