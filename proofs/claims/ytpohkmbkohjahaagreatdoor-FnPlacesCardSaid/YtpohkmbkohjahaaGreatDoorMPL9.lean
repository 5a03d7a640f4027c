/- Places: HomonymsIn of both; bounds on lengths alone. -/
import Derived.Test.YtpohkmbkohjahaaGreatDoorMPL8
namespace Go.Proofs.YtpohkmbkohjahaaGreatDoor.Sh
open Go.RowKit Go.Lib
/-- Two places have a name with the text. -/
def Hom (L : List Place) (y : Int) (z : ByteArray) : Prop := ∃ (i j : Nat) (p q : Place), i < j ∧ L[i]? = some p ∧ L[j]? = some q ∧ namedB z y p = true ∧ namedB z y q = true
theorem two_filter {α : Type} (P : α → Bool) : ∀ (L : List α), 1 < (L.filter P).length ↔ ∃ (i j : Nat) (p q : α), i < j ∧ L[i]? = some p ∧ L[j]? = some q ∧ P p = true ∧ P q = true
  | [] => by simp
  | x :: L => by
    have ih := two_filter P L
    cases hx : P x
    · rw [List.filter_cons, hx, if_neg (by simp), ih]
      constructor
      · rintro ⟨i, j, p, q, h1, h2, h3, h4⟩
        exact ⟨i + 1, j + 1, p, q, by omega, h2, h3, h4⟩
      · rintro ⟨i, j, p, q, h1, h2, h3, h4, h5⟩
        cases i with
        | zero =>
          have : x = p := by simpa using h2
          rw [this, h4] at hx
          cases hx
        | succ i =>
          cases j with
          | zero => omega
          | succ j => exact ⟨i, j, p, q, by omega, h2, h3, h4, h5⟩
    · rw [List.filter_cons, hx, if_pos rfl, List.length_cons]
      constructor
      · intro h
        obtain ⟨q, hq⟩ := List.exists_mem_of_length_pos (show 0 < (L.filter P).length by omega)
        obtain ⟨h1, h2⟩ := List.mem_filter.1 hq
        obtain ⟨j, hj⟩ := List.mem_iff_getElem?.1 h1
        exact ⟨0, j + 1, x, q, by omega, rfl, hj, hx, h2⟩
      · rintro ⟨i, j, p, q, h1, h2, h3, h4, h5⟩
        cases j with
        | zero => omega
        | succ j =>
          have : q ∈ L.filter P := List.mem_filter.2 ⟨List.mem_of_getElem? (show L[j]? = some q from h3), h5⟩
          have := List.length_pos_of_mem this
          omega
theorem reg_names {L : List Place} (h : regB L = true) : ∀ p ∈ L, p.Names.length ≤ 12 := fun p hp => by
  have h1 := (regB_iff.1 h).2.1 p hp
  unfold placeB at h1
  simp only [Bool.and_eq_true] at h1
  have h2 := h1.2.2.2.1
  unfold namesB at h2
  rw [Bool.and_eq_true, decide_eq_true_eq] at h2
  exact h2.2
/-- What a place gives: the texts that are used in the year and that a later place has too. -/
def homOf (L : List Place) (y : Int) (i : Nat) (n : Name) : Bool := inB y n.Years.From n.Years.To && (L.drop (i + 1)).any (namedB n.Text y)
theorem impl_later {L : List Place} (hL : L.length ≤ 10) (h : ∀ x ∈ L, PlR x) (n : Name) (y : Int) {i : Nat} (hi : i < L.length) : ((part' L (w64 ((i : Int) + 1)) (L.length : Int)).bind fun x14 => slices_ContainsFunc_Place_impl_HomonymsIn_1 x14 n y) = some ((L.drop (i + 1)).any (namedB n.Text y)) := by
  rw [w64_id (by omega) (by omega), part_ok (by omega) (by omega) (by omega), Option.bind_some, show ((i : Int) + 1).toNat = i + 1 by omega, Int.toNat_natCast, List.take_of_length_le (by rw [List.length_drop]; omega)]
  unfold slices_ContainsFunc_Place_impl_HomonymsIn_1 slices_IndexFunc_Place_impl_HomonymsIn_1 impl_HomonymsIn_1
  rw [loop_idx (by rw [List.length_drop]; omega) (namedB n.Text y) (fun k x hx => by
    rw [at_nat, hx, Option.bind_some, impl_named (h x (List.mem_of_mem_drop (List.mem_of_getElem? hx)))]
    rfl), Option.bind_some, idxP_any]
theorem impl_hom_list {L : List Place} (hreg : regB L = true) (h : ∀ x ∈ L, PlR x) (y : Int) : Gv (forS (L.length : Int) (fun (i4 : Int) (s4 : (List ByteArray)) => ((at' L i4).bind fun x8 => (forS (x8.Names.length : Int) (fun (i9 : Int) (s9 : (List ByteArray)) => ((at' x8.Names i9).bind fun x13 => ((part' L (w64 (i4 + 1)) (L.length : Int)).bind fun x14 => ((slices_ContainsFunc_Place_impl_HomonymsIn_1 x14 x13 y).bind fun x15 => ((((impl_Span_has x13.Years y).bind fun x16 => (bif x16 then some x15 else some false))).bind fun (j17 : Bool) => (bif j17 then ((app' s9 ([x13.Text] : List ByteArray)).bind fun x19 => some x19) else some s9)))))) (fun (s9 : (List ByteArray)) => s9) 0 s4))) (fun (s4 : (List ByteArray)) => s4) 0 ([] : List ByteArray)) (fun s => s.length ≤ 120 ∧ ∀ z, z ∈ s ↔ ∃ (i : Nat) (p : Place) (n : Name), L[i]? = some p ∧ n ∈ p.Names ∧ homOf L y i n = true ∧ n.Text = z) := by
  have h10 := (regB_iff.1 hreg).2.2
  refine Gv.fors (n := L.length) (by omega) (fun i (s : List ByteArray) => s.length ≤ 12 * i ∧ ∀ z, z ∈ s ↔ ∃ (i' : Nat) (p : Place) (n : Name), i' < i ∧ L[i']? = some p ∧ n ∈ p.Names ∧ homOf L y i' n = true ∧ n.Text = z) (fun i s hi hs => ?_) ⟨by simp, fun z => by simp⟩ fun s hs => ⟨by have := hs.1; omega, fun z => ?_⟩
  · obtain ⟨hs1, hs2⟩ := hs
    have hp : L[i]? = some L[i] := List.getElem?_eq_getElem hi
    have hn12 := reg_names hreg _ (List.getElem_mem hi)
    rw [at_nat, hp, Option.bind_some]
    refine Gv.fors (n := L[i].Names.length) (by omega) (fun k (s' : List ByteArray) => s'.length ≤ 12 * i + k ∧ ∀ z, z ∈ s' ↔ z ∈ s ∨ ∃ (k' : Nat) (n : Name), k' < k ∧ L[i].Names[k']? = some n ∧ homOf L y i n = true ∧ n.Text = z) (fun k s' hk hs' => ?_) ⟨by omega, fun z => by simp⟩ fun s' hs' => ⟨by have := hs'.1; omega, fun z => ?_⟩
    · obtain ⟨h1, h2⟩ := hs'
      have hn : L[i].Names[k]? = some L[i].Names[k] := List.getElem?_eq_getElem hk
      have hlater := impl_later h10 h L[i].Names[k] y hi
      have hstep : ∀ z b, homOf L y i L[i].Names[k] = b → ((z ∈ s ∨ ∃ (k' : Nat) (n : Name), k' < k + 1 ∧ L[i].Names[k']? = some n ∧ homOf L y i n = true ∧ n.Text = z) ↔ (z ∈ s' ∨ (b = true ∧ L[i].Names[k].Text = z))) := fun z b hb => by
        rw [h2]
        constructor
        · rintro (h3 | ⟨k', n, h3, h4, h5, h6⟩)
          · exact .inl (.inl h3)
          · rcases Nat.lt_or_ge k' k with h7 | h7
            · exact .inl (.inr ⟨k', n, h7, h4, h5, h6⟩)
            · have : k' = k := by omega
              subst this
              rw [hn] at h4
              injection h4 with h4
              subst h4
              exact .inr ⟨hb.symm.trans h5, h6⟩
        · rintro ((h3 | ⟨k', n, h3, h4⟩) | ⟨h3, h4⟩)
          · exact .inl h3
          · exact .inr ⟨k', n, by omega, h4⟩
          · exact .inr ⟨k, _, by omega, hn, hb.trans h3, h4⟩
      rw [at_nat, hn, Option.bind_some]
      cases hp1 : part' L (w64 ((i : Int) + 1)) (L.length : Int) with
      | none => rw [hp1] at hlater; cases hlater
      | some D =>
        rw [hp1, Option.bind_some] at hlater
        unfold impl_Span_has
        rw [Option.bind_some, hlater, Option.bind_some, within_eq, Option.bind_some]
        have hv : homOf L y i L[i].Names[k] = (inB y L[i].Names[k].Years.From L[i].Names[k].Years.To && (L.drop (i + 1)).any (namedB L[i].Names[k].Text y)) := rfl
        cases hin : inB y L[i].Names[k].Years.From L[i].Names[k].Years.To
        · rw [hin, Bool.false_and] at hv
          refine .some ⟨by omega, fun z => ?_⟩
          rw [hstep z false hv]
          simp
        · rw [hin, Bool.true_and] at hv
          cases hla : (L.drop (i + 1)).any (namedB L[i].Names[k].Text y)
          · rw [hla] at hv
            refine .some ⟨by omega, fun z => ?_⟩
            rw [hstep z false hv]
            simp
          · rw [hla] at hv
            rw [Option.bind_some, cond_true, Option.bind_some, cond_true]
            refine (Gv.app (by simp; omega)).bind fun r hr => .some ⟨?_, fun z => ?_⟩
            · rw [hr]
              simp
              omega
            · rw [hstep z true hv, hr, List.mem_append, List.mem_singleton]
              exact ⟨fun h => h.elim .inl fun h => .inr ⟨rfl, h.symm⟩, fun h => h.elim .inl fun h => .inr h.2.symm⟩
    · rw [hs'.2, hs2]
      constructor
      · rintro (⟨i', p, n, h3, h4⟩ | ⟨k', n, h3, h4, h5⟩)
        · exact ⟨i', p, n, by omega, h4⟩
        · exact ⟨i, _, n, by omega, hp, List.mem_of_getElem? h4, h5⟩
      · rintro ⟨i', p, n, h3, h4, h5, h6⟩
        rcases Nat.lt_or_ge i' i with h7 | h7
        · exact .inl ⟨i', p, n, h7, h4, h5, h6⟩
        · have : i' = i := by omega
          subst this
          rw [hp] at h4
          injection h4 with h4
          subst h4
          obtain ⟨k', hk'⟩ := List.mem_iff_getElem?.1 h5
          exact .inr ⟨k', n, (List.getElem?_eq_some_iff.1 hk').1, hk', h6⟩
  · rw [hs.2]
    constructor
    · rintro ⟨i, p, n, _, h3⟩
      exact ⟨i, p, n, h3⟩
    · rintro ⟨i, p, n, h3, h4⟩
      exact ⟨i, p, n, (List.getElem?_eq_some_iff.1 h3).1, h3, h4⟩
theorem hom_iff {L : List Place} {y : Int} {z : ByteArray} : (∃ (i : Nat) (p : Place) (n : Name), L[i]? = some p ∧ n ∈ p.Names ∧ homOf L y i n = true ∧ n.Text = z) ↔ Hom L y z := by
  constructor
  · rintro ⟨i, p, n, h1, h2, h3, rfl⟩
    unfold homOf at h3
    rw [Bool.and_eq_true, List.any_eq_true] at h3
    obtain ⟨q, hq, hnq⟩ := h3.2
    obtain ⟨j, hj⟩ := List.mem_iff_getElem?.1 hq
    rw [List.getElem?_drop] at hj
    exact ⟨i, i + 1 + j, p, q, by omega, h1, hj, List.any_eq_true.2 ⟨n, h2, by unfold hasN; rw [beqL.2 rfl, h3.1]; rfl⟩, hnq⟩
  · rintro ⟨i, j, p, q, hij, h1, h2, h3, h4⟩
    obtain ⟨n, hn, hh⟩ := List.any_eq_true.1 h3
    unfold hasN at hh
    rw [Bool.and_eq_true] at hh
    have ht : n.Text = z := beqL.1 hh.1
    refine ⟨i, p, n, h1, hn, ?_, ht⟩
    unfold homOf
    rw [hh.2, Bool.true_and, List.any_eq_true]
    refine ⟨q, ?_, by rw [ht]; exact h4⟩
    have : (L.drop (i + 1))[j - (i + 1)]? = some q := by rw [List.getElem?_drop, show i + 1 + (j - (i + 1)) = j by omega]; exact h2
    exact List.mem_of_getElem? this
theorem spec_count {L : List Place} (hreg : regB L = true) (t : ByteArray) (y : Int) : forS (L.length : Int) (fun (i17 : Int) (s17 : Int) => ((at' L i17).bind fun x21 => ((spec_l11Has x21 t y).bind fun x22 => (bif x22 then some (w64 (s17 + 1)) else some s17)))) (fun (s17 : Int) => s17) 0 0 = some (((L.filter (namedB t y)).length : Nat) : Int) := by
  have h10 := (regB_iff.1 hreg).2.2
  obtain ⟨r, e, hr⟩ : Gv (forS (L.length : Int) (fun (i17 : Int) (s17 : Int) => ((at' L i17).bind fun x21 => ((spec_l11Has x21 t y).bind fun x22 => (bif x22 then some (w64 (s17 + 1)) else some s17)))) (fun (s17 : Int) => s17) 0 0) (fun s => s = (((L.filter (namedB t y)).length : Nat) : Int)) := by
    refine Gv.fors (n := L.length) (by omega) (fun i (s : Int) => s = ((((L.take i).filter (namedB t y)).length : Nat) : Int)) (fun i s hi hs => ?_) rfl fun s hs => by rw [hs, List.take_length]
    have hp : L[i]? = some L[i] := List.getElem?_eq_getElem hi
    have hn := reg_names hreg _ (List.getElem_mem hi)
    have hle := List.length_filter_le (namedB t y) (L.take i)
    rw [List.length_take] at hle
    have htk : L.take (i + 1) = L.take i ++ [L[i]] := by rw [List.take_add_one, hp]; rfl
    rw [at_nat, hp, Option.bind_some, spec_named (by omega), Option.bind_some]
    refine Gv.cond (fun hb => .some ?_) fun hb => .some ?_
    · rw [htk, List.filter_append, List.length_append, hs, w64_id (by omega) (by omega), List.filter_cons, hb, if_pos rfl]
      simp
    · rw [htk, List.filter_append, List.length_append, hs, List.filter_cons, hb, if_neg (by simp)]
      simp
  rw [e, hr]
theorem spec_hom_list {L : List Place} (hreg : regB L = true) (y : Int) : Gv (forS (L.length : Int) (fun (i4 : Int) (s4 : (List ByteArray)) => (loop (fun (s8 : (List ByteArray) × Int) => ((at' L i4).bind fun x10 => (bif (decide (s8.2 < (x10.Names.length : Int))) then ((((at' L i4).bind fun x13 => ((at' x13.Names s8.2).bind fun x14 => (((forS (L.length : Int) (fun (i17 : Int) (s17 : Int) => ((at' L i17).bind fun x21 => ((spec_l11Has x21 x14.Text y).bind fun x22 => (bif x22 then some (w64 (s17 + 1)) else some s17)))) (fun (s17 : Int) => s17) 0 0)).bind fun (j15 : Int) => (bif (decide (j15 > 1)) then ((spec_l08Insert s8.1 x14.Text).bind fun x23 => some x23) else some s8.1))))).bind fun (j11 : (List ByteArray)) => some (.inl (j11, (w64 (s8.2 + 1))))) else some (.inr s8.1)))) (s4, 0))) (fun (s4 : (List ByteArray)) => s4) 0 ([] : List ByteArray)) (fun s => s.Pairwise (fun a b => ltB a b = true) ∧ ∀ z, z ∈ s ↔ Hom L y z) := by
  have h10 := (regB_iff.1 hreg).2.2
  have hcond : ∀ t, decide ((((L.filter (namedB t y)).length : Nat) : Int) > 1) = true ↔ Hom L y t := fun t => by
    rw [decide_eq_true_eq]
    refine Iff.trans ?_ (two_filter (namedB t y) L)
    omega
  refine Gv.fors (n := L.length) (by omega) (fun i (s : List ByteArray) => (s.Pairwise (fun a b => ltB a b = true) ∧ s.length ≤ 12 * i) ∧ ∀ z, z ∈ s ↔ Hom L y z ∧ ∃ (i' : Nat) (p : Place) (n : Name), i' < i ∧ L[i']? = some p ∧ n ∈ p.Names ∧ n.Text = z) (fun i s hi hs => ?_) ⟨⟨List.Pairwise.nil, by simp⟩, fun z => by simp⟩ fun s hs => ⟨hs.1.1, fun z => ?_⟩
  · obtain ⟨⟨hs0, hs1⟩, hs2⟩ := hs
    have hp : L[i]? = some L[i] := List.getElem?_eq_getElem hi
    have hn12 := reg_names hreg _ (List.getElem_mem hi)
    refine Gv.lp (fun q : (List ByteArray) × Int => (0 ≤ q.2 ∧ q.2 ≤ L[i].Names.length) ∧ (q.1.Pairwise (fun a b => ltB a b = true) ∧ (q.1.length : Int) ≤ 12 * i + q.2) ∧ ∀ z, z ∈ q.1 ↔ z ∈ s ∨ (Hom L y z ∧ ∃ (k' : Nat) (n : Name), (k' : Int) < q.2 ∧ L[i].Names[k']? = some n ∧ n.Text = z)) (fun q => L[i].Names.length - q.2.toNat) (fun q hq => ?_) ⟨⟨Int.le_refl _, by omega⟩, ⟨hs0, by show (s.length : Int) ≤ 12 * i + 0; omega⟩, fun z => ⟨.inl, fun h => h.elim id fun ⟨_, k', n, h, _⟩ => by
      have h : (k' : Int) < 0 := h
      omega⟩⟩
    obtain ⟨⟨h1, h2⟩, ⟨h3, h4⟩, h5⟩ := hq
    rw [at_nat, hp, Option.bind_some]
    refine Gv.cond (fun hlt => ?_) fun hge => .some ⟨⟨h3, by rw [decide_eq_false_iff_not] at hge; omega⟩, fun z => ?_⟩
    · rw [decide_eq_true_eq] at hlt
      obtain ⟨k, hk⟩ : ∃ k : Nat, q.2 = k := ⟨q.2.toNat, by omega⟩
      have hn : L[i].Names[k]? = some (L[i].Names[k]'(by omega)) := List.getElem?_eq_getElem _
      rw [hk, Option.bind_some, at_nat, hn, Option.bind_some, spec_count hreg, Option.bind_some, w64_id (n := (k : Int) + 1) (by omega) (by omega)]
      rw [hk] at h4 h5
      generalize hnn : L[i].Names[k]'(by omega) = n at hn
      have hstep : ∀ z, (z ∈ s ∨ (Hom L y z ∧ ∃ (k' : Nat) (m : Name), (k' : Int) < (k : Int) + 1 ∧ L[i].Names[k']? = some m ∧ m.Text = z)) ↔ (z ∈ q.1 ∨ (Hom L y n.Text ∧ n.Text = z)) := fun z => by
        rw [h5]
        constructor
        · rintro (h6 | ⟨h6, k', m, h7, h8, h9⟩)
          · exact .inl (.inl h6)
          · rcases Nat.lt_or_ge k' k with h | h
            · exact .inl (.inr ⟨h6, k', m, by omega, h8, h9⟩)
            · have : k' = k := by omega
              subst this
              rw [hn] at h8
              injection h8 with h8
              subst h8
              exact .inr ⟨by rw [h9]; exact h6, h9⟩
        · rintro ((h6 | ⟨h6, k', m, h7, h8⟩) | ⟨h6, h7⟩)
          · exact .inl h6
          · exact .inr ⟨h6, k', m, by omega, h8⟩
          · exact .inr ⟨by rw [← h7]; exact h6, k, n, by omega, hn, h7⟩
      refine Gv.bind (P := fun r : List ByteArray => (r.Pairwise (fun a b => ltB a b = true) ∧ (r.length : Int) ≤ 12 * i + (k + 1)) ∧ ∀ z, z ∈ r ↔ z ∈ q.1 ∨ (Hom L y n.Text ∧ n.Text = z)) (Gv.cond (fun hc => ?_) fun hc => .some ⟨⟨h3, by omega⟩, fun z => ?_⟩) fun r hr => .some ⟨⟨⟨by show 0 ≤ (k : Int) + 1; omega, by show (k : Int) + 1 ≤ _; omega⟩, ⟨hr.1.1, hr.1.2⟩, fun z => ?_⟩, ?_⟩
      · have hl := insS_len q.1 n.Text
        rw [spec_insS (by omega) h3, Option.bind_some]
        refine .some ⟨⟨insS_sorted h3, by omega⟩, fun z => ?_⟩
        rw [insS_mem]
        have := (hcond n.Text).1 hc
        exact ⟨fun h => h.elim (fun h => .inr ⟨this, h.symm⟩) .inl, fun h => h.elim .inr fun h => .inl h.2.symm⟩
      · have : ¬ Hom L y n.Text := fun h => by rw [(hcond n.Text).2 h] at hc; cases hc
        exact ⟨.inl, fun h => h.elim id fun h => absurd h.1 this⟩
      · rw [hr.2]
        exact (hstep z).symm
      · show L[i].Names.length - ((k : Int) + 1).toNat < L[i].Names.length - (k : Int).toNat
        omega
    · rw [decide_eq_false_iff_not] at hge
      rw [h5, hs2]
      constructor
      · rintro (⟨h6, i', p, n, h7, h8⟩ | ⟨h6, k', n, h7, h8, h9⟩)
        · exact ⟨h6, i', p, n, by omega, h8⟩
        · exact ⟨h6, i, _, n, by omega, hp, List.mem_of_getElem? h8, h9⟩
      · rintro ⟨h6, i', p, n, h7, h8, h9, h11⟩
        rcases Nat.lt_or_ge i' i with h | h
        · exact .inl ⟨h6, i', p, n, h, h8, h9, h11⟩
        · have : i' = i := by omega
          subst this
          rw [hp] at h8
          injection h8 with h8
          subst h8
          obtain ⟨k', hk'⟩ := List.mem_iff_getElem?.1 h9
          have := (List.getElem?_eq_some_iff.1 hk').1
          exact .inr ⟨h6, k', n, by omega, hk', h11⟩
  · rw [hs.2]
    refine ⟨fun h => h.1, fun h => ⟨h, ?_⟩⟩
    obtain ⟨i, j, p, q, _, h1, _, h3, _⟩ := h
    obtain ⟨n, hn, hh⟩ := List.any_eq_true.1 h3
    unfold hasN at hh
    rw [Bool.and_eq_true] at hh
    exact ⟨i, p, n, (List.getElem?_eq_some_iff.1 h1).1, h1, hn, beqL.1 hh.1⟩
theorem hom_eq {L : List Place} (hL : L.length ≤ 1048576) (h : ∀ x ∈ L, PlR x) (y : Int) : ∃ r, impl_HomonymsIn L y = some r ∧ spec_HomonymsIn L y = some r ∧ r.1.length ≤ 120 ∧ r.2 = yearC L y ∧ ∀ z ∈ r.1, Hom L y z := by
  unfold impl_HomonymsIn spec_HomonymsIn
  rw [impl_yearC hL h, spec_yearC hL h, Option.bind_some, Option.bind_some]
  cases h0 : (yearC L y != 0)
  · have hreg := (yearC_reg h0).1
    have hz : yearC L y = 0 := by rw [bne, Bool.not_eq_false'] at h0; exact beq_iff_eq.1 h0
    obtain ⟨s, e1, h1, h2⟩ := impl_hom_list hreg h y
    obtain ⟨r, e2, h3, h4⟩ := spec_hom_list hreg y
    have hsl := sortedS_len s
    have heq : sortedS s = r := txt_unique (sortedS_sorted s) h3 fun z => by rw [sortedS_mem, h2, h4, hom_iff]
    rw [cond_false, cond_false, e1, e2, Option.bind_some, Option.bind_some]
    unfold impl_sorted
    rw [if_pos (by omega), Option.bind_some, heq]
    refine ⟨_, rfl, rfl, by rw [← heq]; show (sortedS s).length ≤ 120; omega, hz.symm, fun z hz => (h4 z).1 hz⟩
  · exact ⟨_, rfl, rfl, by simp, rfl, by simp⟩
end Go.Proofs.YtpohkmbkohjahaaGreatDoor.Sh
