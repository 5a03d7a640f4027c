/- Repairs: the program's minimal repairs, by the bits of numbers; the best one of both; no condition but those of claims. -/
import Derived.Test.YtppehghiiahabaaGreatDoorMMR2
import Derived.Test.YtppehghiiahabaaGreatDoorKQ
namespace Go.Proofs.YtppehghiiahabaaGreatDoor.Sh
open Go.RowKit Go.Lib
theorem shr_nat (b i : Nat) (hi : i ≤ 64) : Int.fdiv (b : Int) (2 ^ min (Int.toNat (i : Int)) 64) = ((b / 2 ^ i : Nat) : Int) := by
  rw [Int.toNat_natCast, Nat.min_eq_left hi, Int.fdiv_eq_ediv_of_nonneg _ (Int.le_of_lt (Int.pow_pos (by omega)))]
  rw [show (2 : Int) ^ i = ((2 ^ i : Nat) : Int) by rw [Int.natCast_pow]; rfl]
  rfl
theorem shl_nat (i : Nat) (hi : i ≤ 62) : w64 (1 * 2 ^ min (Int.toNat (i : Int)) 64) = ((2 ^ i : Nat) : Int) := by
  rw [Int.toNat_natCast, Nat.min_eq_left (by omega), Int.one_mul, show (2 : Int) ^ i = ((2 ^ i : Nat) : Int) by rw [Int.natCast_pow]; rfl]
  have : 2 ^ i ≤ 2 ^ 62 := Nat.pow_le_pow_right (by omega) hi
  generalize 2 ^ i = q at this ⊢
  exact w64_id (by omega) (by omega)
theorem bit_eq (b i : Nat) (hb : b < 2 ^ 62) : ((w64 ((BitVec.ofInt 64 ((b / 2 ^ i : Nat) : Int) &&& BitVec.ofInt 64 1).toNat : Int)) == 1) = b.testBit i := by
  have h1 : b / 2 ^ i ≤ b := Nat.div_le_self _ _
  rw [BitVec.ofInt_natCast, show BitVec.ofInt 64 1 = BitVec.ofNat 64 1 from rfl, BitVec.toNat_and, BitVec.toNat_ofNat, BitVec.toNat_ofNat, Nat.mod_eq_of_lt (show b / 2 ^ i < 2 ^ 64 by omega), show 1 % 2 ^ 64 = 1 from rfl, Nat.and_one_is_mod]
  have h2 : b / 2 ^ i % 2 < 2 := Nat.mod_lt _ (by omega)
  rw [w64_id (by omega) (by omega), Nat.testBit_eq_decide_div_mod_eq]
  by_cases h : b / 2 ^ i % 2 = 1
  · rw [h]
    rfl
  · have : b / 2 ^ i % 2 = 0 := by omega
    rw [this]
    rfl
theorem subN_stable {n i b : Nat} (hi : i ≤ n) (hb : b < 2 ^ i) : subN n b = subN i b := by
  induction n with
  | zero =>
    have : i = 0 := by omega
    rw [this]
  | succ n ih =>
    rcases Nat.lt_or_ge i (n + 1) with h | h
    · have hb2 : b < 2 ^ n := Nat.lt_of_lt_of_le hb (Nat.pow_le_pow_right (by omega) (by omega))
      rw [subN_succ, Nat.testBit_lt_two_pow hb2, cond_false, List.append_nil, ih (by omega)]
    · have : i = n + 1 := by omega
      rw [this]
theorem subN_len (n b : Nat) : (subN n b).length ≤ n := (subN_inc n b).len
theorem impl_subset_eq {n b : Nat} (hn : n ≤ 60) (hb : b < 2 ^ n) : impl_subset (b : Int) = some (subN n b) := by
  have hb62 : b < 2 ^ 62 := Nat.lt_of_lt_of_le hb (Nat.pow_le_pow_right (by omega) (by omega))
  unfold impl_subset
  have key : ∀ (k i : Nat), i + k = n → loop (fun (s3 : Int × (List Int)) => ((sh' s3.1).bind fun _ => (bif (decide ((Int.fdiv (b : Int) (2 ^ min (Int.toNat s3.1) 64)) > 0)) then ((((sh' s3.1).bind fun _ => (bif ((w64 ((BitVec.ofInt 64 (Int.fdiv (b : Int) (2 ^ min (Int.toNat s3.1) 64)) &&& BitVec.ofInt 64 1).toNat : Int)) == 1) then ((app' s3.2 ([s3.1] : List Int)).bind fun x9 => some x9) else some s3.2))).bind fun (j6 : (List Int)) => some (.inl ((w64 (s3.1 + 1)), j6))) else some (.inr s3.2)))) ((i : Int), subN i b) = some (subN n b) := by
    intro k
    induction k with
    | zero =>
      intro i hi
      have hin : i = n := by omega
      subst hin
      rw [loop_eq]
      have h0 : sh' (i : Int) = some () := by unfold sh'; rw [if_pos (by omega)]
      simp only [h0, Option.bind_some, shr_nat b i (by omega), Nat.div_eq_of_lt hb]
      rfl
    | succ k ih =>
      intro i hi
      rw [loop_eq]
      have h0 : sh' (i : Int) = some () := by unfold sh'; rw [if_pos (by omega)]
      simp only [h0, Option.bind_some, shr_nat b i (by omega), bit_eq b i hb62]
      by_cases hp : b / 2 ^ i > 0
      · rw [decide_eq_true (show ((b / 2 ^ i : Nat) : Int) > 0 by omega), cond_true]
        have hl := subN_len i b
        have := ih (i + 1) (by omega)
        rw [subN_succ] at this
        cases ht : b.testBit i
        · rw [ht, cond_false, List.append_nil] at this
          simp only [cond_false, Option.bind_some]
          rw [w64_id (by omega) (by omega)]
          exact this
        · rw [ht, cond_true] at this
          simp only [cond_true]
          rw [app_ok (by simp; omega)]
          simp only [Option.bind_some]
          rw [w64_id (by omega) (by omega)]
          exact this
      · rw [decide_eq_false (show ¬ ((b / 2 ^ i : Nat) : Int) > 0 by omega), cond_false]
        have hbi : b < 2 ^ i := by
          rcases Nat.lt_or_ge b (2 ^ i) with h | h
          · exact h
          · exact absurd (Nat.div_pos h (Nat.pow_pos (by omega))) hp
        rw [subN_stable (n := n) (i := i) (by omega) hbi]
  have := key n 0 (by omega)
  have e0 : subN 0 b = [] := rfl
  rw [e0] at this
  rw [show ((0 : Nat) : Int) = 0 from rfl] at this
  rw [this]
  rfl
/-- A number without one of its bits. -/
theorem clr_eq (b i n : Nat) (hb : b < 2 ^ n) (hn : n ≤ 60) (hi : i < n) (ht : b.testBit i = true) : ∃ c, c < b ∧ w64 ((BitVec.ofInt 64 (b : Int) &&& ~~~BitVec.ofInt 64 (w64 (1 * 2 ^ min (Int.toNat (i : Int)) 64))).toNat : Int) = (c : Int) ∧ ∀ j, j < n → c.testBit j = (b.testBit j && !decide (i = j)) := by
  have hb62 : b < 2 ^ 62 := Nat.lt_of_lt_of_le hb (Nat.pow_le_pow_right (by omega) (by omega))
  have hi62 : 2 ^ i ≤ 2 ^ 62 := Nat.pow_le_pow_right (by omega) (by omega)
  rw [shl_nat i (by omega), BitVec.ofInt_natCast, BitVec.ofInt_natCast]
  have hle : (BitVec.ofNat 64 b &&& ~~~BitVec.ofNat 64 (2 ^ i)).toNat ≤ b := by
    rw [BitVec.toNat_and, BitVec.toNat_ofNat, Nat.mod_eq_of_lt (show b < 2 ^ 64 by omega)]
    exact Nat.and_le_left
  have hbit : ∀ j, j < n → (BitVec.ofNat 64 b &&& ~~~BitVec.ofNat 64 (2 ^ i)).toNat.testBit j = (b.testBit j && !decide (i = j)) := fun j hj => by
    rw [BitVec.toNat_and, Nat.testBit_and, BitVec.toNat_ofNat, Nat.mod_eq_of_lt (show b < 2 ^ 64 by omega), BitVec.testBit_toNat, BitVec.getLsbD_not, BitVec.getLsbD_ofNat, Nat.testBit_two_pow]
    rw [decide_eq_true (show j < 64 by omega), Bool.true_and, Bool.true_and]
  refine ⟨(BitVec.ofNat 64 b &&& ~~~BitVec.ofNat 64 (2 ^ i)).toNat, ?_, w64_id (by omega) (by omega), hbit⟩
  refine Nat.lt_of_le_of_ne hle fun e => ?_
  have := hbit i hi
  rw [e, ht] at this
  simp at this
theorem subN_clr {n b c i : Nat} (h : ∀ j, j < n → c.testBit j = (b.testBit j && !decide (i = j))) : subN n c = (subN n b).filter fun x => !((i : Int) == x) := by
  unfold subN
  rw [List.filter_map, List.filter_filter]
  congr 1
  refine List.filter_congr fun j hj => ?_
  rw [h j (List.mem_range.1 hj), Bool.and_comm]
  congr 1
  show (!decide (i = j)) = !((i : Int) == (j : Int))
  congr 1
  by_cases e : i = j
  · subst e; simp
  · have : ¬ (i : Int) = (j : Int) := by omega
    rw [decide_eq_false e, beq_eq_false_iff_ne.2 this]
theorem erase_filter : ∀ {R : List Int}, R.Nodup → ∀ {i : Nat} (hi : i < R.length), R.eraseIdx i = R.filter fun x => !(R[i] == x)
  | [], _, i, hi => by simp at hi
  | x :: R, h, 0, hi => by
    have h1 := List.nodup_cons.1 h
    show R = (x :: R).filter fun y => !(x == y)
    rw [List.filter_cons, if_neg (by simp)]
    exact (List.filter_eq_self.2 fun y hy => by
      have : ¬ x = y := fun e => h1.1 (e ▸ hy)
      rw [beq_eq_false_iff_ne.2 this]
      rfl).symm
  | x :: R, h, i + 1, hi => by
    have h1 := List.nodup_cons.1 h
    have hi2 : i < R.length := by simpa using hi
    show x :: R.eraseIdx i = (x :: R).filter fun y => !(R[i] == y)
    have : ¬ R[i] = x := fun e => h1.1 (e ▸ List.getElem_mem hi2)
    rw [List.filter_cons, if_pos (by rw [beq_eq_false_iff_ne.2 this]; rfl), erase_filter h1.2 hi2]
/-- Has a list with one index less the property? -/
def lessB (rep : List Int → Bool) (R : List Int) : Bool := R.any fun i => rep (R.filter fun x => !(i == x))
theorem min_less {rep : List Int → Bool} {R : List Int} (hR : R.Nodup) : minB rep R = (rep R && !lessB rep R) := by
  unfold minB lessB
  congr 1
  rw [Bool.eq_iff_iff, List.all_eq_true, Bool.not_eq_true', List.any_eq_false]
  constructor
  · intro h x hx
    obtain ⟨i, hi, rfl⟩ := List.mem_iff_getElem.1 hx
    have := h i (List.mem_range.2 hi)
    rw [erase_filter hR hi] at this
    simpa using this
  · intro h i hi
    have hi := List.mem_range.1 hi
    have := h R[i] (List.getElem_mem hi)
    rw [erase_filter hR hi]
    simpa using this
theorem less_rep {n : Nat} {rep : List Int → Bool} (hr : Rising n rep) {R : List Int} (hR : Inc n R) (h : lessB rep R = true) : rep R = true := by
  unfold lessB at h
  obtain ⟨i, hi, h⟩ := List.any_eq_true.1 h
  exact hr _ R (hR.sub List.filter_sublist) hR (fun x hx => (List.mem_filter.1 hx).1) h
/-- The lists of all numbers below b that are minimal. -/
def outs (rep : List Int → Bool) (n b : Nat) : List (List Int) := ((List.range b).filter fun c => minB rep (subN n c)).map (subN n)
theorem outs_succ (rep : List Int → Bool) (n b : Nat) : outs rep n (b + 1) = outs rep n b ++ (bif minB rep (subN n b) then [subN n b] else []) := by
  unfold outs
  rw [List.range_succ, List.filter_append, List.map_append]
  congr 1
  cases h : minB rep (subN n b) <;> simp [h]
theorem outs_len (rep : List Int → Bool) (n b : Nat) : (outs rep n b).length ≤ b := by
  unfold outs
  rw [List.length_map]
  have := List.length_filter_le (fun c => minB rep (subN n c)) (List.range b)
  rw [List.length_range] at this
  exact this
theorem mem_outs {rep : List Int → Bool} {n : Nat} {Q : List Int} : Q ∈ outs rep n (2 ^ n) ↔ Inc n Q ∧ minB rep Q = true := by
  unfold outs
  rw [List.mem_map]
  constructor
  · rintro ⟨b, hb, rfl⟩
    rw [List.mem_filter] at hb
    exact ⟨subN_inc n b, hb.2⟩
  · rintro ⟨h1, h2⟩
    obtain ⟨b, hb, rfl⟩ := subN_all n h1
    exact ⟨b, List.mem_filter.2 ⟨List.mem_range.2 hb, h2⟩, rfl⟩
/-- What is kept on the way: which of the numbers before have the property. -/
def GoodT (rep : List Int → Bool) (n b : Nat) (g : List Bool) : Prop := g.length = 2 ^ n ∧ ∀ c, c < b → g[c]? = some (rep (subN n c))
theorem bits_loop {A : Type} {D : List (List Int) × List Bool → A} {rep : List Int → Bool} {n : Nat} {B : Int → List (List Int) × List Bool → Option (List (List Int) × List Bool)}
    (hB : ∀ (b : Nat) (o : List (List Int)) (g : List Bool), b < 2 ^ n → o.length ≤ b → GoodT rep n b g → B (b : Int) (o, g) = some (o ++ (bif minB rep (subN n b) then [subN n b] else []), g.set b (rep (subN n b)))) :
    ∀ (k b : Nat) (g : List Bool), b + k = 2 ^ n → GoodT rep n b g → ∃ g', iterN (fun i s => (B (i : Int) s).map (Sum.inl (β := A))) D k b (outs rep n b, g) = some (D (outs rep n (2 ^ n), g'))
  | 0, b, g, hb, hg => ⟨g, by rw [show b = 2 ^ n by omega]; rfl⟩
  | k + 1, b, g, hb, hg => by
    obtain ⟨g', h⟩ := bits_loop hB k (b + 1) (g.set b (rep (subN n b))) (by omega) ⟨by rw [List.length_set]; exact hg.1, fun c hc => by
      rw [List.getElem?_set]
      by_cases e : b = c
      · subst e
        rw [if_pos rfl, if_pos (by rw [hg.1]; omega)]
      · rw [if_neg e]
        exact hg.2 c (by omega)⟩
    refine ⟨g', ?_⟩
    unfold iterN
    rw [hB b _ g (by omega) (outs_len rep n b) hg, ← outs_succ]
    exact h
theorem less_eq {rep : List Int → Bool} {n b : Nat} (hb : b < 2 ^ n) (hn : n ≤ 60) {g : List Bool} (hg : GoodT rep n b g) {i : Int} (hi : i ∈ subN n b) : sh' i = some () ∧ at' g (w64 ((BitVec.ofInt 64 (b : Int) &&& ~~~BitVec.ofInt 64 (w64 (1 * 2 ^ min (Int.toNat i) 64))).toNat : Int)) = some (rep ((subN n b).filter fun x => !(i == x))) := by
  obtain ⟨m, rfl, hm, ht⟩ := mem_subN.1 hi
  obtain ⟨c, h1, h2, h3⟩ := clr_eq b m n hb hn hm ht
  refine ⟨by unfold sh'; rw [if_pos (by omega)], ?_⟩
  rw [h2, at_nat, hg.2 c h1, subN_clr h3]
theorem impl_less_eq {rep : List Int → Bool} {n b : Nat} (hb : b < 2 ^ n) (hn : n ≤ 60) {g : List Bool} (hg : GoodT rep n b g) : slices_ContainsFunc_int64_impl_minimalRepairs_1 (subN n b) g (b : Int) = some (lessB rep (subN n b)) := by
  have hl := subN_len n b
  unfold slices_ContainsFunc_int64_impl_minimalRepairs_1 slices_IndexFunc_int64_impl_minimalRepairs_1 impl_minimalRepairs_1 lessB
  rw [loop_idx (by omega) (fun i => rep ((subN n b).filter fun x => !(i == x))) (fun k x hx => by
    obtain ⟨h1, h2⟩ := less_eq hb hn hg (List.mem_of_getElem? hx)
    rw [at_nat, hx, Option.bind_some, h1, Option.bind_some, h2]
    rfl), Option.bind_some, idxP_any]
theorem impl_minimal_eq {L : List Claim} (hc : claimsB L = true) : impl_minimalRepairs L = some (sortL (outs (repB L) L.length (2 ^ L.length))) := by
  have h12 := (claimsB_iff.1 hc).1
  have hpow : 2 ^ L.length ≤ 2 ^ 12 := Nat.pow_le_pow_right (by omega) h12
  have hpos : 1 ≤ 2 ^ L.length := Nat.one_le_two_pow
  have h0 : sh' (L.length : Int) = some () := by unfold sh'; rw [if_pos (by omega)]
  unfold impl_minimalRepairs
  rw [h0, Option.bind_some, shl_nat L.length (by omega), make_ok _ (by omega), Option.bind_some, Option.bind_some, forS_forN, forN_iter _ (by omega)]
  have hlo := outs_len (repB L) L.length (2 ^ L.length)
  obtain ⟨g', h⟩ := bits_loop (A := List (List Int)) (D := fun s => s.1) (rep := repB L) (n := L.length) (B := fun (i6 : Int) (s6 : (List (List Int)) × (List Bool)) => ((impl_subset i6).bind fun x10 => ((slices_ContainsFunc_int64_impl_minimalRepairs_1 x10 s6.2 i6).bind fun x11 => (((bif x11 then ((at' s6.2 i6).bind fun _ => some (true, (List.set s6.2 (Int.toNat i6) true))) else ((impl_isRepair L x10).bind fun x13 => ((at' s6.2 i6).bind fun _ => some (false, (List.set s6.2 (Int.toNat i6) x13)))))).bind fun (j15 : Bool × (List Bool)) => ((((at' j15.2 i6).bind fun x17 => (bif x17 then some (!j15.1) else some false))).bind fun (j18 : Bool) => (bif j18 then ((app' s6.1 ([x10] : List (List Int))).bind fun x20 => some (x20, j15.2)) else some (s6.1, j15.2))))))) (fun b o g hb ho hg => by
    have hl := subN_len L.length b
    have hgl := hg.1
    have hinc := subN_inc L.length b
    have hat : at' g (b : Int) = some (g[b]'(by omega)) := by rw [at_nat, List.getElem?_eq_getElem]
    have hset : ∀ v : Bool, at' (g.set b v) (b : Int) = some v := fun v => by rw [at_nat, List.getElem?_set, if_pos rfl, if_pos (by omega)]
    rw [impl_subset_eq (n := L.length) (by omega) hb, Option.bind_some, impl_less_eq hb (by omega) hg, Option.bind_some, min_less hinc.nodup, impl_repair_eq hc (by omega)]
    cases hls : lessB (repB L) (subN L.length b)
    · simp only [cond_false, Option.bind_some, hat, Int.toNat_natCast, hset, Bool.not_false]
      cases repB L (subN L.length b)
      · simp
      · simp only [cond_true, Bool.and_self]
        rw [app_ok (by simp; omega)]
        rfl
    · rw [less_rep (rep_rising hc) hinc hls]
      simp only [cond_true, Option.bind_some, hat, Int.toNat_natCast, hset, Bool.not_true, Bool.and_false, cond_false, List.append_nil])
    (2 ^ L.length) 0 (List.replicate (2 ^ L.length) false) (by omega) ⟨by simp, fun c hc => by omega⟩
  have e0 : outs (repB L) L.length 0 = [] := rfl
  rw [e0] at h
  rw [h, Option.bind_some]
  unfold slices_SortFunc_int64_slices_Compare_int64
  rw [if_pos (by show (outs (repB L) L.length (2 ^ L.length)).length ≤ 1000000000; omega)]
  rfl
/-! The best one -/
def wtOf (L : List Claim) (x : Int) : Int := ((L[x.toNat]?).map Claim.Weight).getD 0
def wt (L : List Claim) (R : List Int) : Int := R.foldl (fun s x => s + wtOf L x) 0
theorem weight_eq {L : List Claim} (hc : claimsB L = true) {R : List Int} (hR : Inc L.length R) : impl_weightOf L R = some (wt L R) := by
  have h12 := (claimsB_iff.1 hc).1
  have hl := hR.len
  unfold impl_weightOf wt
  rw [forS_at R (by omega) (fun (_ : Int) x7 (s3 : Int) => ((at' L x7).bind fun x8 => some (w64 (s3 + x8.Weight))))]
  have key : ∀ (M : List Int) (k : Nat) (s : Int), (∀ x ∈ M, x ∈ R) → 0 ≤ s → s + 100 * M.length ≤ 100000 → overI (fun (_ : Nat) (x7 : Int) (s3 : Int) => ((at' L x7).bind fun x8 => some (w64 (s3 + x8.Weight))).map (Sum.inl (β := Int))) (fun s => s) M k s = some (M.foldl (fun s x => s + wtOf L x) s) := by
    intro M
    induction M with
    | nil => intro k s _ _ _; rfl
    | cons x M ih =>
      intro k s hM h0 hs
      have hx := hR.2 x (hM x (by simp))
      have hlt : x.toNat < L.length := by omega
      have hat : at' L x = some L[x.toNat] := by
        have := at_nat (L := L) x.toNat
        rw [show ((x.toNat : Nat) : Int) = x by omega] at this
        rw [this, List.getElem?_eq_getElem hlt]
      have hw : wtOf L x = L[x.toNat].Weight := by unfold wtOf; rw [List.getElem?_eq_getElem hlt]; rfl
      have hcl := (claimsB_iff.1 hc).2 _ (List.getElem_mem hlt)
      unfold claimB at hcl
      simp only [Bool.and_eq_true] at hcl
      have hwt := inB_iff.1 hcl.2.2.2.2
      simp only [List.length_cons] at hs
      unfold overI
      rw [hat, Option.bind_some, w64_id (by omega) (by omega), List.foldl_cons, hw]
      exact ih (k + 1) _ (fun y hy => hM y (by simp [hy])) (by omega) (by omega)
  rw [key R 0 0 (fun _ h => h) (Int.le_refl _) (by omega)]
  rfl
theorem spec_weight_eq {L : List Claim} (hc : claimsB L = true) {R : List Int} (hR : Inc L.length R) : spec_l20Weight L R = some (wt L R) := weight_eq hc hR
theorem cmpc_eq (x y : Int) : cmp_Compare_int64 x y = some (if x < y then -1 else if y < x then 1 else 0) := by
  unfold cmp_Compare_int64 cmp_isNaN_int64
  simp only [bne_self_eq_false, Option.bind_some, cond_false]
  by_cases h1 : x < y
  · rw [decide_eq_true h1, if_pos h1]; rfl
  · rw [decide_eq_false h1, if_neg h1]
    by_cases h2 : y < x
    · rw [decide_eq_true (show x > y from h2), if_pos h2]; rfl
    · rw [decide_eq_false (show ¬ x > y from h2), if_neg h2]; rfl
theorem cmpi_eq (x y : Int) : cmp_Compare_int x y = some (if x < y then -1 else if y < x then 1 else 0) := cmpc_eq x y
theorem compare_eq {a b : List Int} (ha : a.length ≤ 1000000) (hb : b.length ≤ 1000000) : slices_Compare_int64 a b = some (cmpL a b) := by
  unfold slices_Compare_int64
  rw [forN_at (A := Unit ⊕ Int) a (by omega) (fun (i3 : Int) x7 (_ : Unit) => (bif (decide (i3 ≥ (b.length : Int))) then some (Sum.inr (Sum.inr 1)) else ((at' b i3).bind fun x8 => ((cmp_Compare_int64 x7 x8).bind fun x9 => (bif (x9 != 0) then some (Sum.inr (Sum.inr x9)) else some (Sum.inl ()))))))]
  have key : ∀ (M : List Int) (k : Nat), k + M.length = a.length → k ≤ b.length → ∃ r, overI (fun (i3 : Nat) x7 (_ : Unit) => (bif (decide ((i3 : Int) ≥ (b.length : Int))) then some (Sum.inr (Sum.inr 1)) else ((at' b (i3 : Int)).bind fun x8 => ((cmp_Compare_int64 x7 x8).bind fun x9 => (bif (x9 != 0) then some (Sum.inr (Sum.inr x9)) else some (Sum.inl ())))))) (fun _ => (Sum.inl () : Unit ⊕ Int)) M k () = some r ∧ Sum.elim (fun (_ : Unit) => (bif (decide ((a.length : Int) < (b.length : Int))) then some (-1) else some 0)) some r = some (cmpL M (b.drop k)) := by
    intro M
    induction M with
    | nil =>
      intro k hk hkb
      refine ⟨.inl (), rfl, ?_⟩
      simp only [Sum.elim_inl]
      simp only [List.length_nil, Nat.add_zero] at hk
      by_cases h : a.length < b.length
      · rw [decide_eq_true (show (a.length : Int) < b.length by omega)]
        rw [List.drop_eq_getElem_cons (show k < b.length by omega)]
        rfl
      · rw [decide_eq_false (show ¬ (a.length : Int) < b.length by omega), List.drop_eq_nil_of_le (by omega)]
        rfl
    | cons x M ih =>
      intro k hk hkb
      simp only [List.length_cons] at hk
      unfold overI
      by_cases h : k < b.length
      · rw [decide_eq_false (show ¬ (k : Int) ≥ b.length by omega), cond_false, at_nat, List.getElem?_eq_getElem h, Option.bind_some, cmpc_eq, Option.bind_some, List.drop_eq_getElem_cons h, cmpL_cons]
        by_cases h1 : x < b[k]
        · rw [if_pos h1, if_pos h1]
          exact ⟨_, rfl, rfl⟩
        · by_cases h2 : b[k] < x
          · rw [if_neg h1, if_pos h2, if_neg h1, if_pos h2]
            exact ⟨_, rfl, rfl⟩
          · rw [if_neg h1, if_neg h2, if_neg h1, if_neg h2]
            exact ih (k + 1) (by omega) (by omega)
      · rw [decide_eq_true (show (k : Int) ≥ b.length by omega), List.drop_eq_nil_of_le (by omega)]
        exact ⟨_, rfl, rfl⟩
  obtain ⟨r, h1, h2⟩ := key a 0 (by omega) (Nat.zero_le _)
  rw [h1, Option.bind_some, h2]
  rfl
/-- Which of two repairs is the better one. -/
theorem best_cmp {L : List Claim} (hc : claimsB L = true) {a b : List Int} (ha : Inc L.length a) (hb : Inc L.length b) : ∃ r, impl_bestRepair_1 a b L = some r ∧ (decide (r < 0) = true ↔ keyL (wt L) a b) := by
  have h12 := (claimsB_iff.1 hc).1
  have hla := ha.len
  have hlb := hb.len
  unfold impl_bestRepair_1
  rw [weight_eq hc ha, weight_eq hc hb, Option.bind_some, Option.bind_some, cmpc_eq, Option.bind_some, cmpi_eq, Option.bind_some, compare_eq (by omega) (by omega), Option.bind_some]
  generalize hp : (if wt L a < wt L b then (-1 : Int) else if wt L b < wt L a then 1 else 0) = p
  generalize hq : (if (a.length : Int) < (b.length : Int) then (-1 : Int) else if (b.length : Int) < (a.length : Int) then 1 else 0) = q
  generalize hr : cmpL a b = r
  have hor : cmp_Or_int [p, q, r] = some (if p ≠ 0 then p else if q ≠ 0 then q else r) := by
    unfold cmp_Or_int
    rw [loop_first (L := [p, q, r]) (by simp) (fun _ x => x != 0) (fun _ x => x) (fun i x hx => by rw [at_nat, hx]; rfl)]
    by_cases h1 : p = 0
    · subst h1
      by_cases h2 : q = 0
      · subst h2
        by_cases h3 : r = 0
        · subst h3; rfl
        · have e3 : (r != 0) = true := by simpa using h3
          simp only [firstI, bne_self_eq_false, cond_false, e3, cond_true]
          simp
      · have e2 : (q != 0) = true := by simpa using h2
        simp only [firstI, bne_self_eq_false, cond_false, e2, cond_true]
        simp [h2]
    · have e1 : (p != 0) = true := by simpa using h1
      simp only [firstI, e1, cond_true]
      simp [h1]
  rw [hor, Option.bind_some]
  refine ⟨_, rfl, ?_⟩
  rw [decide_eq_true_eq]
  unfold keyL
  rw [hr]
  by_cases h1 : wt L a < wt L b
  · rw [if_pos h1] at hp
    subst hp
    exact ⟨fun _ => .inl h1, fun _ => by simp⟩
  · by_cases h2 : wt L b < wt L a
    · rw [if_neg h1, if_pos h2] at hp
      subst hp
      exact ⟨fun h => by simp at h, fun h => by omega⟩
    · rw [if_neg h1, if_neg h2] at hp
      subst hp
      have hw : wt L a = wt L b := by omega
      by_cases h3 : a.length < b.length
      · rw [if_pos (show (a.length : Int) < b.length by omega)] at hq
        subst hq
        exact ⟨fun _ => .inr ⟨hw, .inl h3⟩, fun _ => by simp⟩
      · by_cases h4 : b.length < a.length
        · rw [if_neg (by omega), if_pos (show (b.length : Int) < a.length by omega)] at hq
          subst hq
          exact ⟨fun h => by simp at h, fun h => by omega⟩
        · rw [if_neg (by omega), if_neg (by omega)] at hq
          subst hq
          have hle : a.length = b.length := by omega
          simp only [ne_eq, not_true_eq_false, if_false]
          exact ⟨fun h => .inr ⟨hw, .inr ⟨hle, h⟩⟩, fun h => by omega⟩
end Go.Proofs.YtppehghiiahabaaGreatDoor.Sh
