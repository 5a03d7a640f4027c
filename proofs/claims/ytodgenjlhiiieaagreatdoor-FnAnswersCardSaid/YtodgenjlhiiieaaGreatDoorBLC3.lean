/- Plain laws: the edit distance of two texts, of both; bounds on lengths alone. -/
import Derived.Test.YtodgenjlhiiieaaGreatDoorBWP
namespace Go.Proofs.YtodgenjlhiiieaaGreatDoor.Sh
open Go.RowKit Go.Lib
section
variable {S A : Type}
/-- A counting loop whose states are known. -/
theorem forS_seq {n : Nat} (hn : n ≤ 1000000000) {B : Int → S → Option S} {D : S → A} (R : Nat → S) (hB : ∀ i : Nat, i < n → B (i : Int) (R i) = some (R (i + 1))) : forS (n : Int) B D 0 (R 0) = some (D (R n)) := by
  have key : ∀ (m i : Nat), i + m = n → forS (n : Int) B D (i : Int) (R i) = some (D (R n)) := by
    intro m
    induction m with
    | zero =>
      intro i h
      unfold forS
      rw [loop_eq]
      simp only [decide_eq_false (show ¬ (i : Int) < n by omega), cond_false]
      rw [show i = n by omega]
    | succ m ih =>
      intro i h
      unfold forS
      rw [loop_eq]
      simp only [decide_eq_true (show (i : Int) < n by omega), cond_true, hB i (by omega), Option.bind_some, w64_id (show -9223372036854775808 ≤ (i : Int) + 1 by omega) (by omega)]
      have := ih (i + 1) (by omega)
      unfold forS at this
      simpa using this
  simpa using key n 0 (by omega)
theorem forH_seq {n i0 : Nat} (hn : n ≤ 1000000000) (h0 : i0 ≤ n + 1) {B : Int → S → Option S} {D : S → A} (R : Nat → S) (hB : ∀ i : Nat, i0 ≤ i → i ≤ n → B (i : Int) (R i) = some (R (i + 1))) : forH (fun (i : Int) (_ : S) => decide (i ≤ (n : Int))) B D (i0 : Int) (R i0) = some (D (R (n + 1))) := by
  have key : ∀ (m i : Nat), i0 ≤ i → i + m = n + 1 → forH (fun (i : Int) (_ : S) => decide (i ≤ (n : Int))) B D (i : Int) (R i) = some (D (R (n + 1))) := by
    intro m
    induction m with
    | zero =>
      intro i _ h
      unfold forH
      rw [loop_eq]
      simp only [decide_eq_false (show ¬ (i : Int) ≤ n by omega), cond_false]
      rw [show i = n + 1 by omega]
    | succ m ih =>
      intro i hi h
      unfold forH
      rw [loop_eq]
      simp only [decide_eq_true (show (i : Int) ≤ n by omega), cond_true, hB i hi (by omega), Option.bind_some, w64_id (show -9223372036854775808 ≤ (i : Int) + 1 by omega) (by omega)]
      have := ih (i + 1) (by omega) (by omega)
      unfold forH at this
      simpa using this
  exact key (n + 1 - i0) i0 (Nat.le_refl _) (by omega)
end
/-- The edit distance. -/
def lev : List UInt8 → List UInt8 → Nat
  | [], ys => ys.length
  | x :: xs, [] => xs.length + 1
  | x :: xs, y :: ys => min (min (lev xs ys + (if x = y then 0 else 1)) (lev xs (y :: ys) + 1)) (lev (x :: xs) ys + 1)
termination_by xs ys => xs.length + ys.length
theorem lev_nil (xs : List UInt8) : lev xs [] = xs.length := by
  cases xs <;> simp [lev]
theorem lev_cons (x y : UInt8) (xs ys : List UInt8) : lev (x :: xs) (y :: ys) = min (min (lev xs ys + (if x = y then 0 else 1)) (lev xs (y :: ys) + 1)) (lev (x :: xs) ys + 1) := by
  rw [lev]
theorem lev_comm : ∀ (n : Nat) (xs ys : List UInt8), xs.length + ys.length ≤ n → lev xs ys = lev ys xs
  | n, [], ys, _ => by rw [lev_nil]; simp [lev]
  | n, x :: xs, [], _ => by rw [lev_nil]; simp [lev]
  | 0, x :: xs, y :: ys, h => by simp at h
  | n + 1, x :: xs, y :: ys, h => by
    simp only [List.length_cons] at h
    rw [lev_cons, lev_cons, lev_comm n xs ys (by omega), lev_comm n xs (y :: ys) (by simp; omega), lev_comm n (x :: xs) ys (by simp; omega)]
    by_cases e : x = y
    · subst e
      omega
    · rw [if_neg e, if_neg (fun h => e h.symm)]
      omega
theorem lev_le : ∀ (n : Nat) (xs ys : List UInt8), xs.length + ys.length ≤ n → lev xs ys ≤ xs.length + ys.length
  | n, [], ys, _ => by simp [lev]
  | n, x :: xs, [], _ => by rw [lev_nil]; simp
  | 0, x :: xs, y :: ys, h => by simp at h
  | n + 1, x :: xs, y :: ys, h => by
    simp only [List.length_cons] at h
    have := lev_le n (x :: xs) ys (by simp; omega)
    rw [lev_cons]
    simp only [List.length_cons] at this ⊢
    omega
/-- Of the first i and k letters. -/
def levP (A B : List UInt8) (i k : Nat) : Nat := lev (A.take i).reverse (B.take k).reverse
theorem levP_0 (A B : List UInt8) {k : Nat} (h : k ≤ B.length) : levP A B 0 k = k := by
  unfold levP
  simp [lev, Nat.min_eq_left h]
theorem levP_i0 (A B : List UInt8) {i : Nat} (h : i ≤ A.length) : levP A B i 0 = i := by
  unfold levP
  rw [List.take_zero, List.reverse_nil, lev_nil]
  simp [Nat.min_eq_left h]
theorem take_rev {A : List UInt8} {i : Nat} {x : UInt8} (h : A[i]? = some x) : (A.take (i + 1)).reverse = x :: (A.take i).reverse := by
  obtain ⟨hi, rfl⟩ := List.getElem?_eq_some_iff.1 h
  rw [List.take_succ_eq_append_getElem hi, List.reverse_append]
  rfl
theorem levP_step {A B : List UInt8} {i k : Nat} {x y : UInt8} (hx : A[i]? = some x) (hy : B[k]? = some y) : levP A B (i + 1) (k + 1) = min (min (levP A B i k + (if x = y then 0 else 1)) (levP A B i (k + 1) + 1)) (levP A B (i + 1) k + 1) := by
  unfold levP
  rw [take_rev hx, take_rev hy, lev_cons]
theorem levP_le (A B : List UInt8) (i k : Nat) : levP A B i k ≤ A.length + B.length := by
  unfold levP
  have := lev_le _ (A.take i).reverse (B.take k).reverse (Nat.le_refl _)
  simp only [List.length_reverse, List.length_take] at this
  omega
/-- The first k entries of row i. -/
def rowP (A B : List UInt8) (i k : Nat) : List Int := (List.range k).map fun j => (levP A B i j : Int)
theorem rowP_len (A B : List UInt8) (i k : Nat) : (rowP A B i k).length = k := by simp [rowP]
theorem rowP_at {A B : List UInt8} {i k j : Nat} (h : j < k) : (rowP A B i k)[j]? = some (levP A B i j : Int) := by
  unfold rowP
  rw [List.getElem?_map, List.getElem?_range h]
  rfl
theorem rowP_succ (A B : List UInt8) (i k : Nat) : rowP A B i k ++ [(levP A B i k : Int)] = rowP A B i (k + 1) := by
  unfold rowP
  rw [List.range_succ, List.map_append]
  rfl
theorem minI_nat (a b : Nat) : minI (a : Int) (b : Int) = ((min a b : Nat) : Int) := by
  unfold minI
  split <;> omega
/-- One entry of a row. -/
theorem entry {A B : List UInt8} (hA : A.length + B.length ≤ 2097152) {i k : Nat} {x y : UInt8} (hx : A[i]? = some x) (hy : B[k]? = some y) :
    minI (minI (bif (x.toNat : Int) != (y.toNat : Int) then w64 ((levP A B i k : Int) + 1) else (levP A B i k : Int)) (w64 ((levP A B i (k + 1) : Int) + 1))) (w64 ((levP A B (i + 1) k : Int) + 1)) = (levP A B (i + 1) (k + 1) : Int) := by
  have h1 := levP_le A B i k
  have h2 := levP_le A B i (k + 1)
  have h3 := levP_le A B (i + 1) k
  rw [w64_id (by omega) (by omega), w64_id (by omega) (by omega), w64_id (by omega) (by omega), levP_step hx hy]
  have e : (bif (x.toNat : Int) != (y.toNat : Int) then ((levP A B i k : Int) + 1) else (levP A B i k : Int)) = ((levP A B i k + (if x = y then 0 else 1) : Nat) : Int) := by
    by_cases h : x = y
    · subst h
      simp
    · rw [if_neg h]
      have : ((x.toNat : Int) != (y.toNat : Int)) = true := by
        rw [bne_iff_ne]
        intro e
        exact h (UInt8.toNat_inj.1 (by omega))
      rw [this]
      rfl
  rw [e, show ((levP A B i (k + 1) : Int) + 1) = ((levP A B i (k + 1) + 1 : Nat) : Int) by omega, show ((levP A B (i + 1) k : Int) + 1) = ((levP A B (i + 1) k + 1 : Nat) : Int) by omega, minI_nat, minI_nat]
theorem row0 (A B : List UInt8) : rowP A B 0 (B.length + 1) = (List.range (B.length + 1)).map fun j : Nat => (j : Int) := by
  unfold rowP
  refine List.map_congr_left fun j hj => ?_
  have := List.mem_range.1 hj
  rw [levP_0 A B (by omega)]
theorem impl_dist (a b : ByteArray) (ha : a.size ≤ 1000000) (hb : b.size ≤ 1000000) : impl_editDistance a b = some (levP a.data.toList b.data.toList a.size b.size : Int) := by
  have sa := size_list a
  have sb := size_list b
  unfold impl_editDistance
  rw [show w64 ((b.size : Int) + 1) = ((b.size + 1 : Nat) : Int) by rw [w64_id (by omega) (by omega)]; omega, make_ok 0 (by omega), Option.bind_some, List.length_replicate]
  generalize hA : a.data.toList = A at *
  generalize hB : b.data.toList = B at *
  have e0 : forS ((b.size + 1 : Nat) : Int) (fun (i4 : Int) (s4 : (List Int)) => ((at' s4 i4).bind fun _ => some (List.set s4 (Int.toNat i4) i4))) (fun (s4 : (List Int)) => s4) 0 (List.replicate (b.size + 1) (0 : Int)) = some (rowP A B 0 (b.size + 1)) := by
    have := forS_seq (n := b.size + 1) (by omega) (B := fun (i4 : Int) (s4 : (List Int)) => ((at' s4 i4).bind fun _ => some (List.set s4 (Int.toNat i4) i4))) (D := fun (s4 : (List Int)) => s4) (fun k => ((List.range k).map fun j : Nat => (j : Int)) ++ List.replicate (b.size + 1 - k) 0) (fun i hi => by
      have hr : List.replicate (b.size + 1 - i) (0 : Int) = 0 :: List.replicate (b.size + 1 - (i + 1)) 0 := by
        rw [show b.size + 1 - i = (b.size + 1 - (i + 1)) + 1 by omega, List.replicate_succ]
      have hl : ((List.range i).map fun j : Nat => (j : Int)).length = i := by simp
      simp only [at_nat, hr]
      rw [List.getElem?_append_right (by omega), hl, Nat.sub_self]
      simp only [List.getElem?_cons_zero, Option.bind_some, Int.toNat_natCast]
      rw [List.set_append_right _ _ (by omega), hl, Nat.sub_self, List.set_cons_zero, List.range_succ, List.map_append, List.append_assoc]
      rfl)
    simp only [List.range_zero, List.map_nil, List.nil_append, Nat.sub_zero, Nat.sub_self, List.replicate_zero, List.append_nil] at this
    rw [this, ← sb, row0]
  rw [e0, Option.bind_some]
  have e1 := forS_seq (n := a.size) (by omega) (B := fun (i11 : Int) (s11 : (List Int)) => (((forS (b.size : Int) (fun (i17 : Int) (s17 : (List Int)) => ((at' s11 i17).bind fun x21 => ((byte' a i11).bind fun x22 => ((byte' b i17).bind fun x23 => (((bif (x22 != x23) then some (w64 (x21 + 1)) else some x21)).bind fun (j24 : Int) => ((at' s11 (w64 (i17 + 1))).bind fun x26 => ((at' s17 i17).bind fun x27 => ((app' s17 ([(minI (minI j24 (w64 (x26 + 1))) (w64 (x27 + 1)))] : List Int)).bind fun x29 => some x29)))))))) (fun (s17 : (List Int)) => s17) 0 ([(w64 (i11 + 1))] : List Int))).bind fun (j15 : (List Int)) => some j15)) (D := fun (s11 : (List Int)) => s11) (fun i => rowP A B i (b.size + 1)) (fun i hi => by
    have hx : A[i]? = some (A[i]'(by omega)) := List.getElem?_eq_getElem _
    generalize A[i]'(by omega) = x at hx
    have e2 := forS_seq (n := b.size) (by omega) (B := fun (i17 : Int) (s17 : (List Int)) => ((at' (rowP A B i (b.size + 1)) i17).bind fun x21 => ((byte' a (i : Int)).bind fun x22 => ((byte' b i17).bind fun x23 => (((bif (x22 != x23) then some (w64 (x21 + 1)) else some x21)).bind fun (j24 : Int) => ((at' (rowP A B i (b.size + 1)) (w64 (i17 + 1))).bind fun x26 => ((at' s17 i17).bind fun x27 => ((app' s17 ([(minI (minI j24 (w64 (x26 + 1))) (w64 (x27 + 1)))] : List Int)).bind fun x29 => some x29)))))))) (D := fun (s17 : (List Int)) => s17) (fun k => rowP A B (i + 1) (k + 1)) (fun k hk => by
      have hy : B[k]? = some (B[k]'(by omega)) := List.getElem?_eq_getElem _
      generalize B[k]'(by omega) = y at hy
      simp only [at_nat, rowP_at (show k < b.size + 1 by omega), byte_get (show a.data.toList[i]? = some x by rw [hA]; exact hx), byte_get (show b.data.toList[k]? = some y by rw [hB]; exact hy), Option.bind_some]
      rw [show w64 ((k : Int) + 1) = ((k + 1 : Nat) : Int) by rw [w64_id (by omega) (by omega)]; omega, at_nat, rowP_at (show k + 1 < b.size + 1 by omega), rowP_at (show k < k + 1 by omega)]
      have he := entry (A := A) (B := B) (by omega) hx hy
      have hbif : (bif ((x.toNat : Int) != (y.toNat : Int)) then some (w64 ((levP A B i k : Int) + 1)) else some (levP A B i k : Int)) = some (bif ((x.toNat : Int) != (y.toNat : Int)) then w64 ((levP A B i k : Int) + 1) else (levP A B i k : Int)) := by
        cases ((x.toNat : Int) != (y.toNat : Int)) <;> rfl
      rw [hbif]
      simp only [Option.bind_some]
      rw [he, app_ok (by rw [rowP_len]; simp; omega), Option.bind_some, rowP_succ])
    have hst : ([(w64 ((i : Int) + 1))] : List Int) = rowP A B (i + 1) (0 + 1) := by
      unfold rowP
      rw [w64_id (by omega) (by omega)]
      simp [levP_i0 A B (show i + 1 ≤ A.length by omega)]
    try simp only []
    rw [hst, e2]
    rfl)
  try simp only [] at e1
  rw [e1, Option.bind_some, at_nat, rowP_at (by omega), Option.bind_some]
theorem spec_dist (a b : ByteArray) (ha : a.size ≤ 1000000) (hb : b.size ≤ 1000000) : spec_l01Distance a b = some (levP a.data.toList b.data.toList a.size b.size : Int) := by
  have sa := size_list a
  have sb := size_list b
  unfold spec_l01Distance
  generalize hA : a.data.toList = A at *
  generalize hB : b.data.toList = B at *
  have e0 := forH_seq (n := b.size) (i0 := 0) (by omega) (by omega) (B := fun (i3 : Int) (s3 : (List Int)) => ((app' s3 ([i3] : List Int)).bind fun x7 => some x7)) (D := fun (s3 : (List Int)) => s3) (fun k => (List.range k).map fun j : Nat => (j : Int)) (fun i _ hi => by
    rw [app_ok (by simp; omega), Option.bind_some, List.range_succ, List.map_append]
    rfl)
  simp only [List.range_zero, List.map_nil] at e0
  rw [show ((0 : Nat) : Int) = 0 from rfl] at e0
  rw [e0, Option.bind_some, ← sb, ← row0 A B, sb]
  have e1 := forH_seq (n := a.size) (i0 := 1) (by omega) (by omega) (B := fun (i10 : Int) (s10 : (List Int)) => (((forH (fun (i16 : Int) (_ : (List Int)) => (decide (i16 ≤ (b.size : Int)))) (fun (i16 : Int) (s16 : (List Int)) => ((at' s10 (w64 (i16 - 1))).bind fun x20 => ((byte' a (w64 (i10 - 1))).bind fun x21 => ((byte' b (w64 (i16 - 1))).bind fun x22 => (((bif (x21 != x22) then some (w64 (x20 + 1)) else some x20)).bind fun (j23 : Int) => ((at' s10 i16).bind fun x25 => ((at' s16 (w64 (i16 - 1))).bind fun x26 => ((app' s16 ([(minI (minI j23 (w64 (x25 + 1))) (w64 (x26 + 1)))] : List Int)).bind fun x28 => some x28)))))))) (fun (s16 : (List Int)) => s16) 1 ([i10] : List Int))).bind fun (j14 : (List Int)) => some j14)) (D := fun (s10 : (List Int)) => s10) (fun i => rowP A B (i - 1) (b.size + 1)) (fun i h1 hi => by
    obtain ⟨i, rfl⟩ : ∃ j, i = j + 1 := ⟨i - 1, by omega⟩
    have hx : A[i]? = some (A[i]'(by omega)) := List.getElem?_eq_getElem _
    generalize A[i]'(by omega) = x at hx
    have w1 : w64 (((i + 1 : Nat) : Int) - 1) = (i : Int) := by rw [w64_id (by omega) (by omega)]; omega
    simp only [Nat.add_sub_cancel]
    have e2 := forH_seq (n := b.size) (i0 := 1) (by omega) (by omega) (B := fun (i16 : Int) (s16 : (List Int)) => ((at' (rowP A B i (b.size + 1)) (w64 (i16 - 1))).bind fun x20 => ((byte' a (w64 (((i + 1 : Nat) : Int) - 1))).bind fun x21 => ((byte' b (w64 (i16 - 1))).bind fun x22 => (((bif (x21 != x22) then some (w64 (x20 + 1)) else some x20)).bind fun (j23 : Int) => ((at' (rowP A B i (b.size + 1)) i16).bind fun x25 => ((at' s16 (w64 (i16 - 1))).bind fun x26 => ((app' s16 ([(minI (minI j23 (w64 (x25 + 1))) (w64 (x26 + 1)))] : List Int)).bind fun x28 => some x28)))))))) (D := fun (s16 : (List Int)) => s16) (fun k => rowP A B (i + 1) k) (fun k h1 hk => by
      obtain ⟨k, rfl⟩ : ∃ j, k = j + 1 := ⟨k - 1, by omega⟩
      have hy : B[k]? = some (B[k]'(by omega)) := List.getElem?_eq_getElem _
      generalize B[k]'(by omega) = y at hy
      have w2 : w64 (((k + 1 : Nat) : Int) - 1) = (k : Int) := by rw [w64_id (by omega) (by omega)]; omega
      simp only [w1, w2, at_nat, rowP_at (show k < b.size + 1 by omega), rowP_at (show k + 1 < b.size + 1 by omega), rowP_at (show k < k + 1 by omega), byte_get (show a.data.toList[i]? = some x by rw [hA]; exact hx), byte_get (show b.data.toList[k]? = some y by rw [hB]; exact hy), Option.bind_some]
      have he := entry (A := A) (B := B) (by omega) hx hy
      have hbif : (bif ((x.toNat : Int) != (y.toNat : Int)) then some (w64 ((levP A B i k : Int) + 1)) else some (levP A B i k : Int)) = some (bif ((x.toNat : Int) != (y.toNat : Int)) then w64 ((levP A B i k : Int) + 1) else (levP A B i k : Int)) := by
        cases ((x.toNat : Int) != (y.toNat : Int)) <;> rfl
      rw [hbif]
      simp only [Option.bind_some]
      rw [he, app_ok (by rw [rowP_len]; simp; omega), Option.bind_some, rowP_succ])
    have hst : ([((i + 1 : Nat) : Int)] : List Int) = rowP A B (i + 1) 1 := by
      unfold rowP
      simp [levP_i0 A B (show i + 1 ≤ A.length by omega)]
    try simp only [] at e2
    rw [show ((1 : Nat) : Int) = 1 from rfl] at e2
    rw [hst, e2]
    rfl)
  simp only [Nat.sub_self, Nat.add_sub_cancel] at e1
  rw [show ((1 : Nat) : Int) = 1 from rfl] at e1
  rw [e1, Option.bind_some, at_nat, rowP_at (by omega), Option.bind_some]
/-- The distance of two texts. -/
def dist (a b : ByteArray) : Int := (levP a.data.toList b.data.toList a.size b.size : Int)
theorem dist_comm (a b : ByteArray) : dist a b = dist b a := by
  unfold dist levP
  rw [← size_list a, ← size_list b, List.take_length, List.take_length, lev_comm _ _ _ (Nat.le_refl _)]
theorem dist_nil (a : ByteArray) : dist a (ByteArray.mk #[]) = (a.size : Int) := by
  unfold dist
  have := levP_i0 a.data.toList ([] : List UInt8) (i := a.size) (by rw [size_list]; omega)
  exact congrArg Nat.cast this
theorem dist_bounds (a b : ByteArray) : 0 ≤ dist a b ∧ dist a b ≤ a.size + b.size := by
  unfold dist
  have := levP_le a.data.toList b.data.toList a.size b.size
  rw [size_list, size_list] at this
  omega
end Go.Proofs.YtodgenjlhiiieaaGreatDoor.Sh
