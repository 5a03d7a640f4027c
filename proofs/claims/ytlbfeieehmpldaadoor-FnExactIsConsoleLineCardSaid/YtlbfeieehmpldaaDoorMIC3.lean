/- IsConsoleLine of both; no condition but a bound on the length. -/
import Derived.Test.YtlbfeieehmpldaaDoorMIC2
namespace Go.Proofs.YtlbfeieehmpldaaDoor.Sh
open Go.RowKit Go.Lib
theorem beqE {a b : ByteArray} : (a.toList == b.toList) = true ↔ a = b := by
  rw [beq_iff_eq, tl_data, tl_data]
  refine ⟨fun h => ?_, fun h => by rw [h]⟩
  obtain ⟨a⟩ := a
  obtain ⟨b⟩ := b
  have h : a.toList = b.toList := h
  rw [Array.toList_inj.1 h]
theorem excl {x c d : ByteArray} (h : (x.toList == c.toList) = true) (hcd : ¬ c = d) : (x.toList == d.toList) = false := by
  rw [Bool.eq_false_iff]
  intro h2
  exact hcd ((beqE.1 h).symm.trans (beqE.1 h2))
noncomputable def loopK (W : List ByteArray) (K : ByteArray) : Option (Int × Bool) := forS (K.size : Int) (fun (i5 : Int) (s5 : Int × Bool) => ((byte' K i5).bind fun x9 => (bif (x9 == 73) then ((at' W (w64 (i5 + 1))).bind fun x10 => ((spec_l01Value x10).bind fun x11 => some (x11.1, x11.2))) else (bif (x9 == 74) then ((at' W (w64 (i5 + 1))).bind fun x12 => ((spec_l01Signed x12).bind fun x13 => some (x13.1, x13.2))) else some (s5.1, s5.2))))) (fun (s5 : Int × Bool) => (s5.1, s5.2)) 0 (0, true)
theorem loopT (W : List ByteArray) {K : ByteArray} (hs : K.size ≤ 100) (hK : ∀ c ∈ K.data.toList, c = 84) : loopK W K = some (0, true) := by
  unfold loopK
  obtain ⟨h1, h2⟩ := forS_foldl (n := K.size) (by omega) (B := fun (i5 : Int) (s5 : Int × Bool) => ((byte' K i5).bind fun x9 => (bif (x9 == 73) then ((at' W (w64 (i5 + 1))).bind fun x10 => ((spec_l01Value x10).bind fun x11 => some (x11.1, x11.2))) else (bif (x9 == 74) then ((at' W (w64 (i5 + 1))).bind fun x12 => ((spec_l01Signed x12).bind fun x13 => some (x13.1, x13.2))) else some (s5.1, s5.2))))) (D := fun (s5 : Int × Bool) => (s5.1, s5.2)) (fun s => s = (0, true)) (fun s _ => s) (0, true) (fun i s hi hI => by
    have hx := byte_at hi
    rw [hK _ (List.getElem_mem _)] at hx
    refine ⟨?_, hI⟩
    simp only [hx, Option.bind_some]
    rfl) rfl
  rw [h1, h2]
theorem loopI {W : List ByteArray} {y : ByteArray} {r : Int} {b : Bool} (hy : W[1]? = some y) (hv : spec_l01Value y = some (r, b)) : loopK W (ByteArray.mk #[73]) = some (r, b) := by
  unfold loopK
  have hb : byte' (ByteArray.mk #[73]) ((0 : Nat) : Int) = some 73 := rfl
  have ha : at' W (w64 (((0 : Nat) : Int) + 1)) = some y := by
    have := at_nat (L := W) 1
    rw [hy] at this
    exact this
  have := forN_iter (A := Int × Bool) 1 (by omega) (fun (i5 : Int) (s5 : Int × Bool) => (((byte' (ByteArray.mk #[73]) i5).bind fun x9 => (bif (x9 == 73) then ((at' W (w64 (i5 + 1))).bind fun x10 => ((spec_l01Value x10).bind fun x11 => some (x11.1, x11.2))) else (bif (x9 == 74) then ((at' W (w64 (i5 + 1))).bind fun x12 => ((spec_l01Signed x12).bind fun x13 => some (x13.1, x13.2))) else some (s5.1, s5.2))))).map (Sum.inl (β := Int × Bool))) (fun s5 => (s5.1, s5.2)) (0, true)
  rw [forS_forN]
  refine Eq.trans this ?_
  unfold iterN
  simp only [hb, Option.bind_some, ha, hv]
  rfl
theorem loopJ {W : List ByteArray} {y : ByteArray} {r : Int} {b : Bool} (hy : W[2]? = some y) (hv : spec_l01Signed y = some (r, b)) : loopK W (ByteArray.mk #[84, 74]) = some (r, b) := by
  unfold loopK
  have hb0 : byte' (ByteArray.mk #[84, 74]) ((0 : Nat) : Int) = some 84 := rfl
  have hb1 : byte' (ByteArray.mk #[84, 74]) ((1 : Nat) : Int) = some 74 := rfl
  have ha : at' W (w64 (((1 : Nat) : Int) + 1)) = some y := by
    have := at_nat (L := W) 2
    rw [hy] at this
    exact this
  have := forN_iter (A := Int × Bool) 2 (by omega) (fun (i5 : Int) (s5 : Int × Bool) => (((byte' (ByteArray.mk #[84, 74]) i5).bind fun x9 => (bif (x9 == 73) then ((at' W (w64 (i5 + 1))).bind fun x10 => ((spec_l01Value x10).bind fun x11 => some (x11.1, x11.2))) else (bif (x9 == 74) then ((at' W (w64 (i5 + 1))).bind fun x12 => ((spec_l01Signed x12).bind fun x13 => some (x13.1, x13.2))) else some (s5.1, s5.2))))).map (Sum.inl (β := Int × Bool))) (fun s5 => (s5.1, s5.2)) (0, true)
  rw [forS_forN]
  refine Eq.trans this ?_
  unfold iterN
  simp only [hb0, Option.bind_some, show ((84 : Int) == 73) = false from rfl, show ((84 : Int) == 74) = false from rfl, cond_false, Option.map_some, Sum.elim_inl, Nat.zero_add]
  unfold iterN
  simp only [hb1, Option.bind_some, ha, hv]
  rfl
abbrev dash : ByteArray := ByteArray.mk #[45]
noncomputable def restK (W : List ByteArray) (o : Option ByteArray) : Option Bool := (o.bind fun x2 => (bif (x2.toList == dash.toList) then some (([] : List ByteArray), (0 : Int), false) else ((loopK W x2).bind fun (j3 : Int × Bool) => some (W, j3.1, j3.2)))).bind fun x1 => some x1.2.2
theorem rest_dash (W : List ByteArray) : restK W (some dash) = some false := by
  unfold restK
  rw [Option.bind_some, beqE.2 rfl]
  rfl
theorem rest_kind {W : List ByteArray} {K : ByteArray} (hne : ¬ K = dash) {r : Int} {b : Bool} (h : loopK W K = some (r, b)) : restK W (some K) = some b := by
  unfold restK
  have : (K.toList == dash.toList) = false := by
    rw [Bool.eq_false_iff]
    exact fun h => hne (beqE.1 h)
  rw [Option.bind_some, this, cond_false, h]
  rfl
theorem kind_len {W : List ByteArray} (hW : W.length ≤ 1048577) (K : ByteArray) {k : Nat} (hk : K.size = k) (hk9 : k ≤ 9) : (bif ((W.length : Int) != (w64 ((K.size : Int) + 1))) then some dash else some K : Option ByteArray) = bif decide (W.length = k + 1) then some K else some dash := by
  rw [hk, w64_id (by omega) (by omega)]
  by_cases h : W.length = k + 1
  · rw [decide_eq_true h, show ((W.length : Int) != (k : Int) + 1) = false by rw [bne_eq_false_iff_eq]; omega]
    rfl
  · rw [decide_eq_false h, show ((W.length : Int) != (k : Int) + 1) = true by rw [bne_iff_ne]; omega]
    rfl
/-- Where a kind's words are as many as they must be. -/
theorem kind_done {W : List ByteArray} (hW : W.length ≤ 1048577) (K : ByteArray) {k : Nat} (hk : K.size = k) (hk9 : k ≤ 9) (hne : ¬ K = dash) {b : Bool} (hb : W.length = k + 1 → ∃ r, loopK W K = some (r, b)) : restK W (bif ((W.length : Int) != (w64 ((K.size : Int) + 1))) then some dash else some K) = some (decide (W.length = k + 1) && b) := by
  rw [kind_len hW K hk hk9]
  by_cases h : W.length = k + 1
  · obtain ⟨r, hr⟩ := hb h
    rw [decide_eq_true h, cond_true, rest_kind hne hr, Bool.true_and]
  · rw [decide_eq_false h, cond_false, rest_dash, Bool.false_and]
theorem len_beq {n k : Nat} : ((n : Int) == (k : Int)) = decide (n = k) := by
  rw [Bool.eq_iff_iff, beq_iff_eq, decide_eq_true_eq]
  omega
theorem cmd_eq {x : ByteArray} {M : List ByteArray} (hW : (x :: M).length ≤ 1048577) (hs : ∀ y ∈ x :: M, y.size ≤ 1048576) : ∃ b, impl_isCommand (x :: M) = some b ∧ restK (x :: M) (spec_l34Kind (x :: M)) = some b := by
  generalize hWe : x :: M = W at hW hs
  have h0 : at' W 0 = some x := by rw [← hWe]; exact at_nat (L := x :: M) 0
  have hT : ∀ k, k ≤ 6 → ∀ c ∈ ((ByteArray.mk #[84, 84, 84, 84, 84, 84]).extract 0 k).data.toList, c = 84 := by
    intro k hk c hc
    rw [extract_list] at hc
    have hc := List.mem_of_mem_take (List.mem_of_mem_drop hc)
    simp at hc
    exact hc
  unfold impl_isCommand spec_l34Kind
  simp only [h0, Option.bind_some]
  have hcases : ∀ c : ByteArray, (x.toList == c.toList) = true ∨ (x.toList == c.toList) = false := fun c => by cases x.toList == c.toList <;> simp
  rcases hcases (ByteArray.mk #[99, 111, 114, 101, 115]) with c1 | c1
  · simp only [c1, cond_true, Option.bind_some, Sum.elim_inl, Sum.elim_inr]
    refine ⟨_, rfl, ?_⟩
    rw [kind_done hW (ByteArray.mk #[]) (k := 0) rfl (by omega) (by decide) (b := true) (fun _ => ⟨0, loopT W (by decide) (by simp)⟩), Bool.and_true]
    exact congrArg some (len_beq (k := 1)).symm
  rcases hcases (ByteArray.mk #[114, 101, 112, 97, 105, 114]) with c2 | c2
  · simp only [c1, c2, cond_true, cond_false, Option.bind_some, Sum.elim_inl, Sum.elim_inr]
    refine ⟨_, rfl, ?_⟩
    rw [kind_done hW (ByteArray.mk #[]) (k := 0) rfl (by omega) (by decide) (b := true) (fun _ => ⟨0, loopT W (by decide) (by simp)⟩), Bool.and_true]
    exact congrArg some (len_beq (k := 1)).symm
  rcases hcases (ByteArray.mk #[115, 111, 117, 114, 99, 101, 115]) with c3 | c3
  · simp only [c1, c2, c3, cond_true, cond_false, Option.bind_some, Sum.elim_inl, Sum.elim_inr]
    refine ⟨_, rfl, ?_⟩
    rw [kind_done hW (ByteArray.mk #[]) (k := 0) rfl (by omega) (by decide) (b := true) (fun _ => ⟨0, loopT W (by decide) (by simp)⟩), Bool.and_true]
    exact congrArg some (len_beq (k := 1)).symm
  rcases hcases (ByteArray.mk #[99, 108, 97, 105, 109]) with c4 | c4
  · simp only [c1, c2, c3, c4, cond_true, cond_false, Option.bind_some, Sum.elim_inl, Sum.elim_inr]
    refine ⟨_, rfl, ?_⟩
    rw [kind_done hW (ByteArray.mk #[84]) (k := 1) rfl (by omega) (by decide) (b := true) (fun _ => ⟨0, loopT W (by decide) (by simp)⟩), Bool.and_true]
    exact congrArg some (len_beq (k := 2)).symm
  rcases hcases (ByteArray.mk #[100, 114, 111, 112]) with c5 | c5
  · have d1 := excl c5 (d := ByteArray.mk #[115, 105, 116, 101]) (by decide)
    have d2 := excl c5 (d := ByteArray.mk #[119, 97, 121]) (by decide)
    have d3 := excl c5 (d := ByteArray.mk #[102, 97, 114]) (by decide)
    have d4 := excl c5 (d := ByteArray.mk #[97, 112, 97, 114, 116]) (by decide)
    simp only [c1, c2, c3, c4, c5, d1, d2, d3, d4, cond_true, cond_false, Option.bind_some, Sum.elim_inl, Sum.elim_inr]
    by_cases hl : W.length = 2
    · have hy : W[1]? = some W[1] := List.getElem?_eq_getElem (by omega)
      obtain ⟨b, r, b1, b2⟩ := index_eq W[1] (hs _ (List.getElem_mem _))
      have ha : at' W 1 = some W[1] := (at_nat (L := W) 1).trans hy
      have e2 : ((W.length : Int) == 2) = true := by rw [beq_iff_eq]; omega
      simp only [e2, cond_true, ha, Option.bind_some, b1, Sum.elim_inr]
      refine ⟨_, rfl, ?_⟩
      rw [kind_done hW (ByteArray.mk #[73]) (k := 1) rfl (by omega) (by decide) (b := b) (fun _ => ⟨r, loopI hy b2⟩), decide_eq_true hl, Bool.true_and]
    · have e2 : ((W.length : Int) == 2) = false := by rw [beq_eq_false_iff_ne]; omega
      simp only [e2, cond_false, Option.bind_some, Sum.elim_inr]
      refine ⟨_, rfl, ?_⟩
      rw [kind_done hW (ByteArray.mk #[73]) (k := 1) rfl (by omega) (by decide) (b := true) (fun h => absurd h hl), decide_eq_false hl]
      rfl
  have hname : ∀ c : ByteArray, (c = ByteArray.mk #[110, 97, 109, 101] ∨ c = ByteArray.mk #[112, 97, 114, 101, 110, 116]) → ∃ b, (bif ((W.length : Int) == 3) then ((at' W 2).bind fun x14 => ((impl_isInteger x14).bind fun x15 => some x15)) else some false : Option Bool) = some b ∧ restK W (bif ((W.length : Int) != (w64 (((ByteArray.mk #[84, 74]).size : Int) + 1))) then some dash else some (ByteArray.mk #[84, 74])) = some b := by
    intro _ _
    by_cases hl : W.length = 3
    · have hy : W[2]? = some W[2] := List.getElem?_eq_getElem (by omega)
      obtain ⟨b, r, b1, b2⟩ := integer_eq W[2] (hs _ (List.getElem_mem _))
      have ha : at' W 2 = some W[2] := (at_nat (L := W) 2).trans hy
      have e2 : ((W.length : Int) == 3) = true := by rw [beq_iff_eq]; omega
      simp only [e2, cond_true, ha, Option.bind_some, b1]
      refine ⟨_, rfl, ?_⟩
      rw [kind_done hW (ByteArray.mk #[84, 74]) (k := 2) rfl (by omega) (by decide) (b := b) (fun _ => ⟨r, loopJ hy b2⟩), decide_eq_true hl, Bool.true_and]
    · have e2 : ((W.length : Int) == 3) = false := by rw [beq_eq_false_iff_ne]; omega
      simp only [e2, cond_false]
      refine ⟨_, rfl, ?_⟩
      rw [kind_done hW (ByteArray.mk #[84, 74]) (k := 2) rfl (by omega) (by decide) (b := true) (fun h => absurd h hl), decide_eq_false hl]
      rfl
  rcases hcases (ByteArray.mk #[110, 97, 109, 101]) with c6 | c6
  · have d1 := excl c6 (d := ByteArray.mk #[115, 105, 116, 101]) (by decide)
    have d2 := excl c6 (d := ByteArray.mk #[119, 97, 121]) (by decide)
    have d3 := excl c6 (d := ByteArray.mk #[102, 97, 114]) (by decide)
    have d4 := excl c6 (d := ByteArray.mk #[97, 112, 97, 114, 116]) (by decide)
    obtain ⟨b, b1, b2⟩ := hname _ (.inl rfl)
    simp only [c1, c2, c3, c4, c5, c6, d1, d2, d3, d4, cond_true, cond_false, Option.bind_some, Sum.elim_inl, b1, Sum.elim_inr]
    exact ⟨_, rfl, b2⟩
  rcases hcases (ByteArray.mk #[112, 97, 114, 101, 110, 116]) with c7 | c7
  · have d1 := excl c7 (d := ByteArray.mk #[115, 105, 116, 101]) (by decide)
    have d2 := excl c7 (d := ByteArray.mk #[119, 97, 121]) (by decide)
    have d3 := excl c7 (d := ByteArray.mk #[102, 97, 114]) (by decide)
    have d4 := excl c7 (d := ByteArray.mk #[97, 112, 97, 114, 116]) (by decide)
    obtain ⟨b, b1, b2⟩ := hname _ (.inr rfl)
    simp only [c1, c2, c3, c4, c5, c6, c7, d1, d2, d3, d4, cond_true, cond_false, Option.bind_some, Sum.elim_inl, b1, Sum.elim_inr]
    exact ⟨_, rfl, b2⟩
  have hTT : restK W (bif ((W.length : Int) != (w64 (((ByteArray.mk #[84, 84]).size : Int) + 1))) then some dash else some (ByteArray.mk #[84, 84])) = some ((W.length : Int) == 3) := by
    rw [kind_done hW (ByteArray.mk #[84, 84]) (k := 2) rfl (by omega) (by decide) (b := true) (fun _ => ⟨0, loopT W (by decide) (by simp)⟩), Bool.and_true]
    exact congrArg some (len_beq (k := 3)).symm
  rcases hcases (ByteArray.mk #[115, 105, 116, 101]) with c8 | c8
  · simp only [c1, c2, c3, c4, c5, c6, c7, c8, cond_true, cond_false, Option.bind_some, Sum.elim_inl, Sum.elim_inr]
    exact ⟨_, rfl, hTT⟩
  rcases hcases (ByteArray.mk #[119, 97, 121]) with c9 | c9
  · simp only [c1, c2, c3, c4, c5, c6, c7, c8, c9, cond_true, cond_false, Option.bind_some, Sum.elim_inl, Sum.elim_inr]
    exact ⟨_, rfl, hTT⟩
  rcases hcases (ByteArray.mk #[102, 97, 114]) with c10 | c10
  · simp only [c1, c2, c3, c4, c5, c6, c7, c8, c9, c10, cond_true, cond_false, Option.bind_some, Sum.elim_inl, Sum.elim_inr]
    exact ⟨_, rfl, hTT⟩
  rcases hcases (ByteArray.mk #[97, 112, 97, 114, 116]) with c11 | c11
  · simp only [c1, c2, c3, c4, c5, c6, c7, c8, c9, c10, c11, cond_true, cond_false, Option.bind_some, Sum.elim_inl, Sum.elim_inr]
    exact ⟨_, rfl, hTT⟩
  have hdash : restK W (bif ((W.length : Int) != (w64 (((ByteArray.mk #[45]).size : Int) + 1))) then some dash else some (ByteArray.mk #[45])) = some false := by
    cases ((W.length : Int) != (w64 (((ByteArray.mk #[45]).size : Int) + 1)))
    · exact rest_dash W
    · exact rest_dash W
  rcases hcases (ByteArray.mk #[116, 101, 115, 116]) with c12 | c12
  · have hw : w64 ((W.length : Int) - 2) = (W.length : Int) - 2 := w64_id (by omega) (by omega)
    simp only [c1, c2, c3, c4, c5, c6, c7, c8, c9, c10, c11, c12, cond_true, cond_false, Option.bind_some, Sum.elim_inl, Sum.elim_inr, hw]
    by_cases hl : W.length = 4 ∨ W.length = 6 ∨ W.length = 7
    · have e1 : ((((W.length : Int) - 2) == 2) || ((((W.length : Int) - 2) == 4) || (((W.length : Int) - 2) == 5))) = true := by
        rw [Bool.or_eq_true, Bool.or_eq_true, beq_iff_eq, beq_iff_eq, beq_iff_eq]
        omega
      have e2 : (((W.length : Int) == 4) || (((W.length : Int) == 6) || ((W.length : Int) == 7))) = true := by
        rw [Bool.or_eq_true, Bool.or_eq_true, beq_iff_eq, beq_iff_eq, beq_iff_eq]
        omega
      refine ⟨_, rfl, ?_⟩
      have hw2 : w64 ((W.length : Int) - 2 + 1) = (W.length : Int) - 2 + 1 := w64_id (by omega) (by omega)
      have h6 : (ByteArray.mk #[84, 84, 84, 84, 84, 84]).size = 6 := rfl
      rw [e1, e2, cond_true, hw2]
      unfold sub'
      rw [h6, if_pos (by omega), Option.bind_some, Option.bind_some, Sum.elim_inr, show ((W.length : Int) - 2 + 1).toNat = W.length - 1 by omega]
      have hsz : ((ByteArray.mk #[84, 84, 84, 84, 84, 84]).extract 0 (W.length - 1)).size = W.length - 1 := by
        rw [ByteArray.size_extract, h6]
        omega
      refine rest_kind (fun h => ?_) (loopT W (by show ((ByteArray.mk #[84, 84, 84, 84, 84, 84]).extract 0 (W.length - 1)).size ≤ 100; omega) (hT _ (by omega)))
      have h : (ByteArray.mk #[84, 84, 84, 84, 84, 84]).extract 0 (W.length - 1) = dash := h
      rw [h] at hsz
      have : dash.size = 1 := rfl
      omega
    · have e1 : ((((W.length : Int) - 2) == 2) || ((((W.length : Int) - 2) == 4) || (((W.length : Int) - 2) == 5))) = false := by
        rw [Bool.or_eq_false_iff, Bool.or_eq_false_iff, beq_eq_false_iff_ne, beq_eq_false_iff_ne, beq_eq_false_iff_ne]
        omega
      have e2 : (((W.length : Int) == 4) || (((W.length : Int) == 6) || ((W.length : Int) == 7))) = false := by
        rw [Bool.or_eq_false_iff, Bool.or_eq_false_iff, beq_eq_false_iff_ne, beq_eq_false_iff_ne, beq_eq_false_iff_ne]
        omega
      refine ⟨_, rfl, ?_⟩
      rw [e1, e2, cond_false, Option.bind_some, Sum.elim_inl]
      exact hdash
  · simp only [c1, c2, c3, c4, c5, c6, c7, c8, c9, c10, c11, c12, cond_true, cond_false, Option.bind_some, Sum.elim_inl, Sum.elim_inr]
    exact ⟨_, rfl, hdash⟩
theorem line_eq {s : ByteArray} (hs : s.size ≤ 1048576) : ∃ b, impl_IsConsoleLine s = some b ∧ spec_IsConsoleLine s = some b := by
  have hl := splitS_len s 32
  have h1 : strings_Split s (ByteArray.mk #[32]) = some (splitS s 32) := by
    unfold strings_Split
    have h : (ByteArray.mk #[32]).data.toList = [32] := rfl
    rw [h]
    dsimp only
    rw [decide_eq_true (by omega), cond_true]
  have h2 : spec_l01Split s 32 = some (splitS s 32) := spec_split_eq s 32 (by omega)
  have hz : ∀ y ∈ splitS s 32, y.size ≤ 1048576 := fun y hy => by have := splitS_size hy; omega
  have hne := splitS_ne s 32
  unfold impl_IsConsoleLine spec_IsConsoleLine spec_l34Parse
  rw [h1, h2, Option.bind_some, Option.bind_some]
  generalize splitS s 32 = W at hl hz hne
  cases W with
  | nil => exact absurd rfl hne
  | cons x M =>
    obtain ⟨b, b1, b2⟩ := cmd_eq (x := x) (M := M) (by omega) hz
    refine ⟨b, by rw [b1]; rfl, ?_⟩
    exact b2
theorem FnExactIsConsoleLine_true (p0 : ByteArray) (k0 : p0.size ≤ maxLen) : laws_FnExactIsConsoleLine p0 = some true := by
  unfold laws_FnExactIsConsoleLine
  by_cases g0 : (p0.size : Int) > 1048576
  · rw [decide_eq_true g0]
    rfl
  rw [decide_eq_false g0, cond_false]
  obtain ⟨b, b1, b2⟩ := line_eq (s := p0) (by omega)
  rw [b1, b2]
  simp
end Go.Proofs.YtlbfeieehmpldaaDoor.Sh
