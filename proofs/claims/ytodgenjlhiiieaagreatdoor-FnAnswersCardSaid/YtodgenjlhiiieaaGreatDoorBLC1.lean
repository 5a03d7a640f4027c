/- Plain laws: the order of texts, strings.Compare, a search that halves a sorted list of sites; bounds on lengths alone. -/
import Derived.Test.YtodgenjlhiiieaaGreatDoorBDS1
import Derived.Test.YtodgenjlhiiieaaGreatDoorBPL2
namespace Go.Proofs.YtodgenjlhiiieaaGreatDoor.Sh
open Go.RowKit Go.Lib
theorem cmp_spec : ∀ (x y : List UInt8), (compareBytes x y < 0 ↔ Op.bytesLess x y = true) ∧ (compareBytes x y = 0 ↔ x = y) ∧ (0 < compareBytes x y ↔ Op.bytesLess y x = true)
  | [], [] => by decide
  | [], b :: y => ⟨by simp [compareBytes, Op.bytesLess], by simp [compareBytes], by simp [compareBytes, Op.bytesLess]⟩
  | a :: x, [] => ⟨by simp [compareBytes, Op.bytesLess], by simp [compareBytes], by simp [compareBytes, Op.bytesLess]⟩
  | a :: x, b :: y => by
    obtain ⟨h1, h2, h3⟩ := cmp_spec x y
    unfold compareBytes
    rw [bl_cons, bl_cons]
    by_cases hab : a < b
    · rw [if_pos hab]
      have := UInt8.lt_iff_toNat_lt.1 hab
      refine ⟨⟨fun _ => .inl this, fun _ => by omega⟩, ⟨fun h => by omega, fun h => ?_⟩, ⟨fun h => by omega, fun h => ?_⟩⟩
      · injection h with h
        subst h
        omega
      · rcases h with h | ⟨h, _⟩
        · omega
        · subst h
          omega
    · rw [if_neg hab]
      by_cases hba : b < a
      · rw [if_pos hba]
        have := UInt8.lt_iff_toNat_lt.1 hba
        refine ⟨⟨fun h => by omega, fun h => ?_⟩, ⟨fun h => by omega, fun h => ?_⟩, ⟨fun _ => .inl this, fun _ => by omega⟩⟩
        · rcases h with h | ⟨h, _⟩
          · omega
          · subst h
            omega
        · injection h with h
          subst h
          omega
      · rw [if_neg hba]
        have e : a = b := UInt8.toNat_inj.1 (by
          have k1 : ¬ a.toNat < b.toNat := fun h => hab (UInt8.lt_iff_toNat_lt.2 h)
          have k2 : ¬ b.toNat < a.toNat := fun h => hba (UInt8.lt_iff_toNat_lt.2 h)
          omega)
        subst e
        rw [h1, h2, h3]
        simp
theorem Compare_lt (x y : ByteArray) : ∃ r, strings_Compare x y = some r ∧ decide (r < 0) = ltB x y ∧ (r == 0) = (x.toList == y.toList) := by
  obtain ⟨h1, h2, _⟩ := cmp_spec x.data.toList y.data.toList
  refine ⟨_, rfl, ?_, ?_⟩
  · unfold ltB
    rw [toList_eq, toList_eq]
    cases hb : Op.bytesLess x.data.toList y.data.toList
    · rw [decide_eq_false_iff_not, h1, hb]
      simp
    · rw [decide_eq_true_eq, h1, hb]
  · rw [toList_eq, toList_eq]
    cases hb : (x.data.toList == y.data.toList)
    · rw [beq_eq_false_iff_ne] at hb
      rw [beq_eq_false_iff_ne]
      exact fun h => hb (h2.1 h)
    · rw [beq_iff_eq] at hb
      rw [beq_iff_eq]
      exact h2.2 hb
theorem ltB_irrefl (x : ByteArray) : ltB x x = false := bl_irrefl _
theorem ltB_trans {x y z : ByteArray} (h : ltB x y = true) (k : ltB y z = true) : ltB x z = true := bl_trans h k
/-- Half the sum of two indices. -/
theorem mid_eq {a b : Nat} (h : a + b ≤ 1000000000) : w64 (Int.fdiv (IntKind.wrap .u64 (w64 ((a : Int) + (b : Int)))) (2 ^ 1)) = (((a + b) / 2 : Nat) : Int) := by
  rw [w64_id (n := (a : Int) + (b : Int)) (by omega) (by omega)]
  have e : IntKind.wrap .u64 ((a : Int) + (b : Int)) = ((a + b : Nat) : Int) := by
    rw [IntKind.wrap_u64]
    omega
  rw [e, show (2 : Int) ^ 1 = 2 from rfl, Int.fdiv_eq_ediv_of_nonneg _ (by omega)]
  have : ((a + b : Nat) : Int) / 2 = (((a + b) / 2 : Nat) : Int) := by omega
  rw [this]
  exact w64_id (by omega) (by omega)
/-- Where a sorted list's keys are no longer before v. -/
theorem halve {α : Type} {L : List α} (hL : L.length ≤ 1000000) (p : α → Bool) (hmono : ∀ (i j : Nat) x y, i ≤ j → L[i]? = some x → L[j]? = some y → p y = true → p x = true)
    {B : Int × Int → Option ((Int × Int) ⊕ Int)} (hB : ∀ (lo hi : Nat) (x : α), lo < hi → hi ≤ L.length → L[(lo + hi) / 2]? = some x → B ((lo : Int), (hi : Int)) = some (.inl (bif p x then ((((lo + hi) / 2 + 1 : Nat) : Int), (hi : Int)) else ((lo : Int), (((lo + hi) / 2 : Nat) : Int))))) (hE : ∀ (lo : Nat), B ((lo : Int), (lo : Int)) = some (.inr (lo : Int))) :
    ∃ k : Nat, loop B (0, (L.length : Int)) = some (k : Int) ∧ k ≤ L.length ∧ (∀ (i : Nat) x, i < k → L[i]? = some x → p x = true) ∧ ∀ (i : Nat) x, k ≤ i → L[i]? = some x → p x = false := by
  have := loop_inv (body := B) (fun s => ∃ lo hi : Nat, s = ((lo : Int), (hi : Int)) ∧ lo ≤ hi ∧ hi ≤ L.length ∧ (∀ (i : Nat) x, i < lo → L[i]? = some x → p x = true) ∧ ∀ (i : Nat) x, hi ≤ i → L[i]? = some x → p x = false)
    (fun s => (s.2 - s.1).toNat) (fun r => ∃ k : Nat, r = (k : Int) ∧ k ≤ L.length ∧ (∀ (i : Nat) x, i < k → L[i]? = some x → p x = true) ∧ ∀ (i : Nat) x, k ≤ i → L[i]? = some x → p x = false)
    (fun s ⟨lo, hi, hs, h1, h2, h3, h4⟩ => by
      subst hs
      by_cases hlt : lo < hi
      · have hx : L[(lo + hi) / 2]? = some (L[(lo + hi) / 2]'(by omega)) := List.getElem?_eq_getElem _
        generalize L[(lo + hi) / 2]'(by omega) = x at hx
        refine .inl ⟨_, hB lo hi x hlt h2 hx, ?_, ?_⟩
        · cases hp : p x
          · exact ⟨lo, (lo + hi) / 2, rfl, by omega, by omega, h3, fun i y hi' hy => by
              cases hq : p y with
              | false => rfl
              | true =>
                have := hmono ((lo + hi) / 2) i x y hi' hx hy hq
                rw [hp] at this
                cases this⟩
          · exact ⟨(lo + hi) / 2 + 1, hi, rfl, by omega, h2, fun i y hi' hy => hmono i ((lo + hi) / 2) y x (by omega) hy hx hp, h4⟩
        · cases p x <;> simp <;> omega
      · obtain rfl : lo = hi := by omega
        exact .inr ⟨_, hE lo, lo, rfl, h2, h3, h4⟩)
    (s := (0, (L.length : Int))) ⟨0, L.length, rfl, Nat.zero_le _, Nat.le_refl _, fun i x h => by omega, fun i x h hx => by
      have := (List.getElem?_eq_some_iff.1 hx).1
      omega⟩
  obtain ⟨r, h1, k, rfl, h2, h3, h4⟩ := this
  exact ⟨k, h1, h2, h3, h4⟩
/-! Sites -/
def sorted (L : List Site) : Prop := ∀ (i j : Nat) x y, i < j → L[i]? = some x → L[j]? = some y → ltB x.Code y.Code = true
/-- What AreSites says, as far as the others need it. -/
theorem sites_sorted {L : List Site} (h : sitesR L = some true) : sorted L ∧ (∀ x ∈ L, codeB x.Code = true ∧ ptB x.At = true) ∧ L.length ≤ 10 := by
  unfold sitesR at h
  have hf : ∀ (M : List Site) (k : Nat), firstI (siteN L) (fun _ _ => false) M k = none ∨ firstI (siteN L) (fun _ _ => false) M k = some false := by
    intro M
    induction M with
    | nil => exact fun k => .inl rfl
    | cons x M ih =>
      intro k
      unfold firstI
      cases siteN L k x
      · exact ih (k + 1)
      · exact .inr rfl
  have hall : ∀ (M : List Site) (k : Nat), firstI (siteN L) (fun _ _ => false) M k = none → ∀ (i : Nat) x, M[i]? = some x → siteN L (k + i) x = false := by
    intro M
    induction M with
    | nil => intro k _ i x hx; simp at hx
    | cons y M ih =>
      intro k hn i x hx
      unfold firstI at hn
      cases hs : siteN L k y
      · rw [hs, cond_false] at hn
        cases i with
        | zero =>
          injection hx with hx
          subst hx
          exact hs
        | succ i =>
          have := ih (k + 1) hn i x (by simpa using hx)
          rwa [show k + 1 + i = k + (i + 1) by omega] at this
      · rw [hs] at hn
        cases hn
  rcases hf L 0 with h0 | h0
  · rw [h0] at h
    have h10 := of_decide_eq_true (Option.some.inj h)
    have hn := hall L 0 h0
    have hstep : ∀ (i : Nat) x y, L[i]? = some x → L[i + 1]? = some y → ltB x.Code y.Code = true := by
      intro i x y hx hy
      have := hn (i + 1) y hy
      unfold siteN at this
      rw [Bool.or_eq_false_iff, Bool.or_eq_false_iff] at this
      have h3 := this.2.2
      rw [decide_eq_true (by omega : ((0 + (i + 1) : Nat) : Int) > 0), Bool.true_and, show 0 + (i + 1) - 1 = i by omega, hx] at h3
      unfold ltB
      simpa using h3
    refine ⟨?_, fun x hx => ?_, by omega⟩
    · intro i j x y hij hx hy
      obtain ⟨d, rfl⟩ : ∃ d, j = i + 1 + d := ⟨j - i - 1, by omega⟩
      induction d generalizing y with
      | zero => exact hstep i x y hx hy
      | succ d ih =>
        have hlt : i + 1 + d < L.length := by
          have := (List.getElem?_eq_some_iff.1 hy).1
          omega
        have hz : L[i + 1 + d]? = some (L[i + 1 + d]'hlt) := List.getElem?_eq_getElem _
        exact ltB_trans (ih (L[i + 1 + d]'hlt) (by omega) hz) (hstep (i + 1 + d) _ y hz hy)
    · obtain ⟨i, hi⟩ := List.mem_iff_getElem?.1 hx
      have := hn i x hi
      unfold siteN at this
      rw [Bool.or_eq_false_iff, Bool.or_eq_false_iff] at this
      exact ⟨by simpa using this.1, by simpa using this.2.1⟩
  · rw [h0] at h
    cases h
def codeIs (c : ByteArray) (s : Site) : Bool := s.Code.toList == c.toList
theorem find_eq {L : List Site} (hL : L.length ≤ 1048576) (c : ByteArray) : spec_l29Find L c = some (idxP (codeIs c) L) := by
  unfold spec_l29Find
  exact loop_idx (by omega) (codeIs c) (fun i x hx => by rw [at_nat, hx]; rfl)
/-- The point of the site with a code. -/
def siteOf (L : List Site) (c : ByteArray) : Point × Bool := match L.find? (codeIs c) with
  | some s => (s.At, true)
  | none => (Point.mk 0 0, false)
theorem findSite_eq {L : List Site} (hL : L.length ≤ 10) (hs : sorted L) (c : ByteArray) : impl_findSite L c = some (siteOf L c) := by
  have hmono : ∀ (i j : Nat) (x y : Site), i ≤ j → L[i]? = some x → L[j]? = some y → ltB y.Code c = true → ltB x.Code c = true := by
    intro i j x y hij hx hy h
    rcases Nat.lt_or_eq_of_le hij with hlt | rfl
    · exact ltB_trans (hs i j x y hlt hx hy) h
    · rw [hx] at hy
      injection hy with hy
      rw [hy]
      exact h
  have hcmp : ∀ x : Site, ∃ r, impl_findSite_1 x c = some r ∧ decide (r < 0) = ltB x.Code c ∧ (r == 0) = codeIs c x := by
    intro x
    obtain ⟨r, h1, h2, h3⟩ := Compare_lt x.Code c
    exact ⟨r, by unfold impl_findSite_1; rw [h1]; rfl, h2, h3⟩
  have hloop := halve (L := L) (by omega) (fun x => ltB x.Code c) hmono (B := fun (s3 : Int × Int) => (bif (decide (s3.1 < s3.2)) then ((at' L (w64 (Int.fdiv (IntKind.wrap .u64 (w64 (s3.1 + s3.2))) (2 ^ 1)))).bind fun x5 => ((impl_findSite_1 x5 c).bind fun x6 => (bif (decide (x6 < 0)) then some (.inl ((w64 ((w64 (Int.fdiv (IntKind.wrap .u64 (w64 (s3.1 + s3.2))) (2 ^ 1))) + 1)), s3.2)) else some (.inl (s3.1, (w64 (Int.fdiv (IntKind.wrap .u64 (w64 (s3.1 + s3.2))) (2 ^ 1)))))))) else some (.inr s3.1)))
    (fun lo hi x hlt hhi hx => by
      simp only [mid_eq (show lo + hi ≤ 1000000000 by omega), at_nat, hx, Option.bind_some, decide_eq_true (show (lo : Int) < hi by omega), cond_true]
      obtain ⟨r, h1, h2, _⟩ := hcmp x
      rw [h1, Option.bind_some, h2, w64_id (by omega) (by omega)]
      cases ltB x.Code c
      · rfl
      · simp only [cond_true]
        congr 3)
    (fun lo => by simp only [decide_eq_false (show ¬ (lo : Int) < lo by omega), cond_false])
  obtain ⟨k, h1, h2, h3, h4⟩ := hloop
  unfold impl_findSite slices_BinarySearchFunc_string_impl_findSite_1
  rw [h1, Option.bind_some]
  by_cases hk : k < L.length
  · have hx : L[k]? = some (L[k]'hk) := List.getElem?_eq_getElem _
    generalize L[k]'hk = x at hx
    obtain ⟨r, e1, _, e3⟩ := hcmp x
    rw [decide_eq_true (show (k : Int) < L.length by omega), cond_true, at_nat, hx, Option.bind_some, e1, Option.bind_some, e3]
    simp only [Option.bind_some]
    cases hc : codeIs c x
    · have hnone : L.find? (codeIs c) = none := by
        rw [List.find?_eq_none]
        intro y hy
        obtain ⟨i, hi⟩ := List.mem_iff_getElem?.1 hy
        intro hcy
        have hyc : y.Code = c := beqL.1 hcy
        rcases Nat.lt_trichotomy i k with h | h | h
        · have := h3 i y h hi
          rw [hyc, ltB_irrefl] at this
          cases this
        · subst h
          rw [hx] at hi
          injection hi with hi
          rw [hi, hcy] at hc
          cases hc
        · have h5 := hs k i x y h hx hi
          rw [hyc] at h5
          have := h4 k x (Nat.le_refl _) hx
          rw [h5] at this
          cases this
      unfold siteOf
      rw [hnone]
      rfl
    · have hsome : L.find? (codeIs c) = some x := by
        rw [List.find?_eq_some_iff_getElem]
        refine ⟨hc, k, hk, ?_, fun j hj => ?_⟩
        · rw [List.getElem?_eq_getElem hk] at hx
          exact Option.some.inj hx
        · have hy : L[j]? = some (L[j]'(by omega)) := List.getElem?_eq_getElem _
          have := h3 j _ hj hy
          generalize L[j]'(by omega) = y at this
          cases hcy : codeIs c y with
          | false => rfl
          | true =>
            rw [show y.Code = c from beqL.1 hcy, ltB_irrefl] at this
            cases this
      unfold siteOf
      rw [hsome]
      simp only [Bool.not_true, cond_false, at_nat, hx, Option.bind_some]
  · have hnone : L.find? (codeIs c) = none := by
      rw [List.find?_eq_none]
      intro y hy
      obtain ⟨i, hi⟩ := List.mem_iff_getElem?.1 hy
      intro hcy
      have := h3 i y (by have := (List.getElem?_eq_some_iff.1 hi).1; omega) hi
      rw [show y.Code = c from beqL.1 hcy, ltB_irrefl] at this
      cases this
    rw [decide_eq_false (show ¬ (k : Int) < L.length by omega), cond_false, Option.bind_some]
    unfold siteOf
    rw [hnone]
    rfl
end Go.Proofs.YtodgenjlhiiieaaGreatDoor.Sh
