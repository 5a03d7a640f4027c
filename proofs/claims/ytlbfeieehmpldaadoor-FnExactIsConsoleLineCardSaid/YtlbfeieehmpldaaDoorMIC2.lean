/- Words that are numbers, of both; no condition but bounds on lengths. -/
import Derived.Test.YtlbfeieehmpldaaDoorMIC1
import Derived.Test.YtlbfeieehmpldaaDoorMWP
import Derived.Test.YtlbfeieehmpldaaDoorKN
import Derived.Test.YtlbfeieehmpldaaDoorGA
namespace Go.Proofs.YtlbfeieehmpldaaDoor.Sh
open Go.RowKit Go.Lib
theorem tl_data (s : ByteArray) : s.toList = s.data.toList := by
  have : ∀ n i (r : List UInt8), s.size - i = n → ByteArray.toList.loop s i r = r.reverse ++ s.data.toList.drop i := by
    intro n
    induction n with
    | zero =>
      intro i r h
      unfold ByteArray.toList.loop
      have h2 : s.data.toList.length = s.size := by rw [Array.length_toList]; rfl
      rw [if_neg (by omega), List.drop_eq_nil_of_le (by omega), List.append_nil]
    | succ n ih =>
      intro i r h
      unfold ByteArray.toList.loop
      have h2 : s.data.toList.length = s.size := by rw [Array.length_toList]; rfl
      rw [if_pos (by omega), ih (i + 1) _ (by omega), List.reverse_cons, List.append_assoc, List.drop_eq_getElem_cons (show i < s.data.toList.length by omega)]
      congr 1
      show [s.get! i] ++ _ = _
      rw [List.singleton_append]
      congr 1
      rw [Array.getElem_toList]
      show s.data[i]! = _
      rw [getElem!_pos s.data i (by rw [← Array.length_toList]; omega)]
  have h := this _ 0 [] rfl
  rw [List.reverse_nil, List.nil_append, List.drop_zero] at h
  exact h
theorem data_len (s : ByteArray) : s.data.toList.length = s.size := by rw [Array.length_toList]; rfl
theorem decS_eq : ∀ (k fuel n : Nat), n < 10 ^ (k + 1) → k < fuel → k ≤ 15 → ∃ t : ByteArray, spec_l01Dec_f fuel (n : Int) = some t ∧ t.data.toList = decDigits n ∧ t.size ≤ k + 1
  | k, 0, n, _, h, _ => by omega
  | k, fuel + 1, n, hn, hf, hk => by
    have hp : 10 ^ (k + 1) ≤ 10 ^ 16 := Nat.pow_le_pow_right (by omega) (by omega)
    unfold spec_l01Dec_f
    by_cases h : n < 10
    · rw [decide_eq_true (show (n : Int) < 10 by omega), cond_true]
      refine ⟨_, rfl, ?_, ?_⟩
      · rw [w64_id (by omega) (by omega), decDigits, dif_pos h]
        have : n = 0 ∨ n = 1 ∨ n = 2 ∨ n = 3 ∨ n = 4 ∨ n = 5 ∨ n = 6 ∨ n = 7 ∨ n = 8 ∨ n = 9 := by omega
        rcases this with rfl | rfl | rfl | rfl | rfl | rfl | rfl | rfl | rfl | rfl <;> decide +kernel
      · rw [strOfNums_size]
        simp
    · rw [decide_eq_false (show ¬ (n : Int) < 10 by omega), cond_false]
      cases k with
      | zero => omega
      | succ k =>
        have e1 : Int.tdiv (n : Int) 10 = ((n / 10 : Nat) : Int) := rfl
        have e2 : Int.tmod (n : Int) 10 = ((n % 10 : Nat) : Int) := rfl
        obtain ⟨t, t1, t2, t3⟩ := decS_eq k fuel (n / 10) (by rw [Nat.pow_succ] at hn; omega) (by omega) (by omega)
        have hm : n % 10 < 10 := Nat.mod_lt _ (by omega)
        have hs := strOfNums_size [(IntKind.wrap .u8 (w64 (48 + ((n % 10 : Nat) : Int))))]
        rw [List.length_singleton] at hs
        rw [e1, e2, w64_id (n := ((n / 10 : Nat) : Int)) (by omega) (by omega), t1, Option.bind_some]
        unfold cat'
        rw [if_pos (by omega), Option.bind_some]
        refine ⟨_, rfl, ?_, by rw [ByteArray.size_append]; omega⟩
        rw [decDigits, dif_neg h, ByteArray.data_append, Array.toList_append, t2]
        congr 1
        rw [w64_id (by omega) (by omega)]
        generalize n % 10 = d at hm
        have : d = 0 ∨ d = 1 ∨ d = 2 ∨ d = 3 ∨ d = 4 ∨ d = 5 ∨ d = 6 ∨ d = 7 ∨ d = 8 ∨ d = 9 := by omega
        rcases this with rfl | rfl | rfl | rfl | rfl | rfl | rfl | rfl | rfl | rfl <;> decide +kernel
theorem byte_at {s : ByteArray} {i : Nat} (hi : i < s.size) : byte' s (i : Int) = some ((s.data.toList[i]'(by rw [data_len]; exact hi)).toNat : Int) := by
  unfold byte'
  rw [if_pos (by omega), Int.toNat_natCast, getElem?_pos s i hi]
  rfl
theorem val_loop {s : ByteArray} (hs : s.size ≤ 13) : ∃ r : Int ⊕ (Int × Bool), forN (s.size : Int) (fun (i3 : Int) (s3 : Int) => ((((byte' s i3).bind fun x7 => (bif (decide (x7 < 48)) then some true else ((byte' s i3).bind fun x8 => some (decide (x8 > 57)))))).bind fun (j9 : Bool) => (bif j9 then some (.inr (.inr (0, false))) else ((byte' s i3).bind fun x11 => some (.inl (w64 ((w64 (10 * s3)) + (w64 (IntKind.wrap .u8 (x11 - 48)))))))))) (fun (s3 : Int) => (.inl s3 : Int ⊕ (Int × Bool))) 0 0 = some r ∧ r = bif s.data.toList.all digB then .inl (valA s.data.toList 0 : Int) else .inr (0, false) := by
  have hl := data_len s
  rw [forN_iter _ (by omega)]
  have key : ∀ (m k a : Nat), k + m = s.size → a < 10 ^ k → ∃ r : Int ⊕ (Int × Bool), iterN (fun (i3 : Nat) (s3 : Int) => ((((byte' s (i3 : Int)).bind fun x7 => (bif (decide (x7 < 48)) then some true else ((byte' s (i3 : Int)).bind fun x8 => some (decide (x8 > 57)))))).bind fun (j9 : Bool) => (bif j9 then some (.inr (.inr (0, false))) else ((byte' s (i3 : Int)).bind fun x11 => some (.inl (w64 ((w64 (10 * s3)) + (w64 (IntKind.wrap .u8 (x11 - 48)))))))))) (fun (s3 : Int) => (.inl s3 : Int ⊕ (Int × Bool))) m k (a : Int) = some r ∧ r = bif (s.data.toList.drop k).all digB then .inl (valA (s.data.toList.drop k) a : Int) else .inr (0, false) := by
    intro m
    induction m with
    | zero =>
      intro k a hk ha
      rw [List.drop_eq_nil_of_le (by omega)]
      exact ⟨_, rfl, rfl⟩
    | succ m ih =>
      intro k a hk ha
      have hks : k < s.size := by omega
      have hp : 10 ^ k ≤ 10 ^ 13 := Nat.pow_le_pow_right (by omega) (by omega)
      have hx := byte_at hks
      have hlt := (s.data.toList[k]'(by omega)).toNat_lt
      rw [List.drop_eq_getElem_cons (show k < s.data.toList.length by omega), List.all_cons]
      generalize hc : s.data.toList[k]'(by omega) = c at hx hlt
      unfold iterN
      simp only [hx, Option.bind_some]
      cases hd : digB c
      · have hnd : ¬ (48 ≤ c.toNat ∧ c.toNat ≤ 57) := fun h => by rw [digB_iff.2 h] at hd; cases hd
        by_cases h1 : c.toNat < 48
        · rw [decide_eq_true (show (c.toNat : Int) < 48 by omega)]
          exact ⟨_, rfl, rfl⟩
        · rw [decide_eq_false (show ¬ (c.toNat : Int) < 48 by omega), decide_eq_true (show (c.toNat : Int) > 57 by omega)]
          exact ⟨_, rfl, rfl⟩
      · have hdg := digB_iff.1 hd
        obtain ⟨r, r1, r2⟩ := ih (k + 1) (a * 10 + (c.toNat - 48)) (by omega) (by rw [Nat.pow_succ]; omega)
        have hw : IntKind.wrap .u8 ((c.toNat : Int) - 48) = ((c.toNat - 48 : Nat) : Int) := by
          rw [IntKind.wrap_u8]
          omega
        rw [decide_eq_false (show ¬ (c.toNat : Int) < 48 by omega), decide_eq_false (show ¬ (c.toNat : Int) > 57 by omega), hw, w64_id (n := 10 * (a : Int)) (by omega) (by omega), w64_id (n := ((c.toNat - 48 : Nat) : Int)) (by omega) (by omega), w64_id (n := 10 * (a : Int) + ((c.toNat - 48 : Nat) : Int)) (by omega) (by omega), show 10 * (a : Int) + ((c.toNat - 48 : Nat) : Int) = ((a * 10 + (c.toNat - 48) : Nat) : Int) by omega]
        refine ⟨r, r1, ?_⟩
        rw [r2, Bool.true_and]
        rfl
  have := key s.size 0 0 (by omega) (by simp)
  rw [List.drop_zero] at this
  exact this
theorem value_eq (s : ByteArray) : ∃ n b, spec_l01Value s = some (n, b) ∧ (b = true ↔ can s.data.toList) ∧ 0 ≤ n ∧ n < 10000000000000 ∧ (b = true → n = valA s.data.toList 0) := by
  have hl := data_len s
  unfold spec_l01Value
  by_cases h0 : s.size < 1 ∨ 13 < s.size
  · refine ⟨0, false, ?_, ?_, by omega, by omega, fun h => by cases h⟩
    · have : (decide ((s.size : Int) < 1) || decide ((s.size : Int) > 13)) = true := by
        rw [Bool.or_eq_true, decide_eq_true_eq, decide_eq_true_eq]
        omega
      rw [this]
      rfl
    · constructor
      · intro h; cases h
      · rintro ⟨m, h1, h2⟩
        have := List.length_pos_iff.2 (dec_ne m)
        rw [← h1] at this
        omega
  · have : (decide ((s.size : Int) < 1) || decide ((s.size : Int) > 13)) = false := by
      rw [Bool.or_eq_false_iff, decide_eq_false_iff_not, decide_eq_false_iff_not]
      omega
    rw [this, cond_false]
    obtain ⟨r, r1, r2⟩ := val_loop (s := s) (by omega)
    rw [r1, Option.bind_some, r2]
    cases hd : s.data.toList.all digB
    · refine ⟨0, false, rfl, ?_, by omega, by omega, fun h => by cases h⟩
      constructor
      · intro h; cases h
      · rintro ⟨m, h1, h2⟩
        rw [h1, dec_dig] at hd
        cases hd
    · have hv := valA_lt s.data.toList 0 0 hd (by simp)
      have hp : 10 ^ (0 + s.data.toList.length) ≤ 10 ^ 13 := Nat.pow_le_pow_right (by omega) (by omega)
      obtain ⟨t, t1, t2, _⟩ := decS_eq 12 1000 (valA s.data.toList 0) (by omega) (by omega) (by omega)
      have t1' : spec_l01Dec (valA s.data.toList 0 : Int) = some t := t1
      rw [cond_true, Sum.elim_inl, t1', Option.bind_some]
      refine ⟨_, _, rfl, ?_, by omega, by omega, fun _ => rfl⟩
      rw [tl_data, tl_data, t2, beq_iff_eq]
      constructor
      · intro h
        exact ⟨_, h.symm, by omega⟩
      · rintro ⟨m, h1, h2⟩
        rw [h1, dec_val]
theorem extract_list (s : ByteArray) (i j : Nat) : (s.extract i j).data.toList = (s.data.toList.take j).drop i := by
  rw [ByteArray.data_extract, Array.toList_extract, List.extract_eq_take_drop, List.drop_take]
theorem trim_eq (s : ByteArray) (hs : s.size ≤ 1048576) : ∃ t, strings_TrimPrefix s (ByteArray.mk #[45]) = some t ∧ (t.size : Int) = if s.data.toList.head? = some 45 then (s.size : Int) - 1 else s.size := by
  have hl := data_len s
  have hone : (ByteArray.mk #[45]).size = 1 := rfl
  unfold strings_TrimPrefix internal_stringslite_TrimPrefix internal_stringslite_HasPrefix
  rw [hone]
  cases hd : s.data.toList with
  | nil =>
    rw [hd] at hl
    have h0 : s.size = 0 := hl.symm
    rw [decide_eq_false (show ¬ (s.size : Int) ≥ ((1 : Nat) : Int) by omega)]
    exact ⟨s, rfl, by simp⟩
  | cons c r =>
    rw [hd, List.length_cons] at hl
    rw [decide_eq_true (show (s.size : Int) ≥ ((1 : Nat) : Int) by omega), cond_true]
    unfold sub'
    rw [if_pos (by omega), Option.bind_some]
    have e1 : (s.extract (Int.toNat 0) (Int.toNat ((1 : Nat) : Int))).toList = [c] := by
      rw [tl_data, extract_list, hd]
      rfl
    rw [e1, tl_data]
    by_cases hc : c = 45
    · subst hc
      rw [if_pos (by omega)]
      refine ⟨_, rfl, ?_⟩
      rw [← data_len, extract_list, hd]
      simp
      omega
    · have : ([c] == (ByteArray.mk #[45]).data.toList) = false := by
        rw [beq_eq_false_iff_ne]
        intro h
        injection h with h
        exact hc h
      rw [this]
      refine ⟨s, rfl, ?_⟩
      rw [if_neg (by simpa using hc)]
theorem number_eq (s : ByteArray) (hs : s.size ≤ 1048576) : impl_consoleNumber s = some ((numE s).1, (numE s).2 && decide ((if s.data.toList.head? = some 45 then (s.size : Int) - 1 else s.size) ≤ 13)) := by
  obtain ⟨t, t1, t2⟩ := trim_eq s hs
  unfold impl_consoleNumber impl_readNumber
  rw [if_pos (by omega), Option.bind_some, t1, Option.bind_some, t2]
  cases (numE s).2 <;> rfl
theorem numE_ok {s : ByteArray} {v : Int} (h : parseIntB 64 s.data.toList = .ok v) : numE s = (v, itoa v == s.data.toList) := by
  unfold numE
  rw [h, tl_data]
theorem numE_true {s : ByteArray} (h : (numE s).2 = true) : itoa (numE s).1 = s.data.toList := by
  unfold numE at h ⊢
  cases hp : parseIntB 64 s.data.toList
  · rw [hp] at h
    rw [tl_data] at h
    exact beq_iff_eq.1 h
  · rw [hp] at h
    cases h
  · rw [hp] at h
    cases h
theorem head_dec {m : Nat} : (decDigits m).head? ≠ some 45 := by
  intro h
  cases hd : decDigits m with
  | nil => rw [hd] at h; cases h
  | cons c r =>
    rw [hd] at h
    have := (dec_head hd).1
    simp only [List.head?_cons, Option.some.injEq] at h
    rw [h] at this
    exact this rfl
theorem index_eq (s : ByteArray) (hs : s.size ≤ 1048576) : ∃ b r, impl_isIndex s = some b ∧ spec_l01Value s = some (r, b) := by
  have hl := data_len s
  obtain ⟨n, b, v1, v2, _, _, v5⟩ := value_eq s
  refine ⟨b, n, ?_, v1⟩
  unfold impl_isIndex
  rw [number_eq s hs, Option.bind_some]
  congr 1
  rw [Bool.eq_iff_iff, v2, Bool.and_eq_true, Bool.and_eq_true, decide_eq_true_eq, decide_eq_true_eq]
  constructor
  · rintro ⟨⟨h1, h2⟩, h3⟩
    have h4 := numE_true h1
    have h3 : 0 ≤ (numE s).1 := h3
    rw [itoa_pos h3] at h4
    rw [← h4, if_neg head_dec] at h2
    exact ⟨_, h4.symm, by omega⟩
  · rintro ⟨m, h1, h2⟩
    have hp := parse_pos (u := m) (by rw [← h1]; exact h2)
    rw [← h1] at hp
    rw [numE_ok hp]
    refine ⟨⟨?_, ?_⟩, by show (m : Int) ≥ 0; omega⟩
    · show (itoa (m : Int) == s.data.toList) = true
      rw [itoa_nonneg, h1]
      exact beq_self_eq_true _
    · rw [h1, if_neg head_dec]
      omega
theorem integer_eq (s : ByteArray) (hs : s.size ≤ 1048576) : ∃ b r, impl_isInteger s = some b ∧ spec_l01Signed s = some (r, b) := by
  have hl := data_len s
  unfold impl_isInteger spec_l01Signed
  rw [number_eq s hs, Option.bind_some]
  cases hd : s.data.toList with
  | nil =>
    rw [hd] at hl
    have h0 : s.size = 0 := hl.symm
    rw [decide_eq_false (show ¬ (s.size : Int) > 0 by omega)]
    obtain ⟨n, b, v1, v2, _⟩ := value_eq s
    refine ⟨_, n, rfl, ?_⟩
    rw [cond_false, Option.bind_some, cond_false, v1, Option.bind_some]
    congr 2
    rw [Bool.eq_iff_iff, v2, Bool.and_eq_true]
    constructor
    · rintro ⟨m, h1, _⟩
      rw [hd] at h1
      exact absurd h1.symm (dec_ne m)
    · rintro ⟨h1, _⟩
      have h4 := numE_true h1
      rw [hd] at h4
      unfold itoa at h4
      split at h4
      · cases h4
      · exact absurd h4 (dec_ne _)
  | cons c r =>
    rw [hd, List.length_cons] at hl
    have hb : byte' s 0 = some (c.toNat : Int) := by
      have := byte_at (s := s) (i := 0) (by omega)
      simp only [hd] at this
      exact this
    rw [decide_eq_true (show (s.size : Int) > 0 by omega), cond_true, hb, Option.bind_some, Option.bind_some]
    by_cases hc : c = 45
    · subst hc
      have e45 : (((45 : UInt8).toNat : Int) == 45) = true := rfl
      have hsub : sub' s 1 (s.size : Int) = some (s.extract 1 s.size) := by
        unfold sub'
        rw [if_pos (by omega)]
        rfl
      have hex : (s.extract 1 s.size).data.toList = r := by
        rw [extract_list, List.take_of_length_le (by rw [data_len]; exact Nat.le_refl _), hd]
        rfl
      obtain ⟨n, b, v1, v2, v3, v4, v5⟩ := value_eq (s.extract 1 s.size)
      rw [hex] at v2 v5
      rw [e45, cond_true, hsub, Option.bind_some, v1, Option.bind_some]
      refine ⟨_, w64 (0 - n), rfl, ?_⟩
      congr 2
      rw [Bool.eq_iff_iff, Bool.and_eq_true, Bool.and_eq_true, decide_eq_true_eq, decide_eq_true_eq, v2]
      simp only [List.head?_cons, if_true]
      constructor
      · rintro ⟨⟨m, h1, h2⟩, h3⟩
        have h5 := v5 (v2.2 ⟨m, h1, h2⟩)
        rw [h1, dec_val] at h5
        have h6 := parse_neg (u := m) (by rw [← h1]; exact h2)
        rw [← h1, ← hd] at h6
        rw [numE_ok h6]
        refine ⟨?_, by omega⟩
        show (itoa (-(m : Int)) == s.data.toList) = true
        rw [itoa_neg m (by omega), hd, h1]
        exact beq_self_eq_true _
      · rintro ⟨h1, h2⟩
        have h4 := numE_true h1
        rw [hd] at h4
        have hneg : (numE s).1 < 0 := by
          rcases Int.lt_or_le (numE s).1 0 with h | h
          · exact h
          · rw [itoa_pos h] at h4
            exact absurd (by rw [h4]; rfl) (head_dec (m := (numE s).1.toNat))
        rw [itoa_lt hneg] at h4
        injection h4 with _ h4
        have hcan : can r := ⟨_, h4.symm, by omega⟩
        refine ⟨hcan, ?_⟩
        have h5 := v5 (v2.2 hcan)
        rw [← h4, dec_val] at h5
        omega
    · have e45 : ((c.toNat : Int) == 45) = false := by
        rw [beq_eq_false_iff_ne]
        intro h
        apply hc
        apply UInt8.toNat_inj.1
        show c.toNat = 45
        omega
      obtain ⟨n, b, v1, v2, v3, v4, v5⟩ := value_eq s
      rw [hd] at v2
      rw [e45, cond_false, v1, Option.bind_some]
      refine ⟨_, n, rfl, ?_⟩
      congr 2
      have hh : ¬ (c :: r).head? = some 45 := by simpa using hc
      rw [if_neg hh, Bool.eq_iff_iff, v2, Bool.and_eq_true, decide_eq_true_eq]
      constructor
      · rintro ⟨m, h1, h2⟩
        have h6 := parse_pos (u := m) (by rw [← h1]; exact h2)
        rw [← h1, ← hd] at h6
        rw [numE_ok h6]
        rw [List.length_cons] at h2
        refine ⟨?_, by omega⟩
        show (itoa (m : Int) == s.data.toList) = true
        rw [itoa_nonneg, hd, h1]
        exact beq_self_eq_true _
      · rintro ⟨h1, h2⟩
        have h4 := numE_true h1
        rw [hd] at h4
        have hpos : 0 ≤ (numE s).1 := by
          rcases Int.lt_or_le (numE s).1 0 with h | h
          · rw [itoa_lt h] at h4
            injection h4 with h5 _
            exact absurd h5.symm hc
          · exact h
        rw [itoa_pos hpos] at h4
        exact ⟨_, h4.symm, by rw [List.length_cons]; omega⟩
end Go.Proofs.YtlbfeieehmpldaaDoor.Sh
