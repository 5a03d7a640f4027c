/- Plain laws: the distance of two phrases, of both; bounds on lengths alone. -/
import Derived.Test.YtodgenjlhiiieaaGreatDoorBLC3
import Derived.Test.YtodgenjlhiiieaaGreatDoorBLC2
namespace Go.Proofs.YtodgenjlhiiieaaGreatDoor.Sh
open Go.RowKit Go.Lib
/-- The distance at one place of two lists of words. -/
def dAt (x y : List ByteArray) (i : Nat) : Int := dist (x.getD i tNo) (y.getD i tNo)
def phD (x y : List ByteArray) : Int := (List.range (max x.length y.length)).foldl (fun s i => w64 (s + dAt x y i)) 0
theorem phD_comm (x y : List ByteArray) : phD x y = phD y x := by
  unfold phD dAt
  rw [Nat.max_comm]
  congr 1
  funext s i
  rw [dist_comm]
theorem getD_some {x : List ByteArray} {i : Nat} {b : ByteArray} (h : x[i]? = some b) : x.getD i tNo = b := by
  rw [List.getD_eq_getElem?_getD, h]
  rfl
theorem getD_none {x : List ByteArray} {i : Nat} (h : x.length ≤ i) : x.getD i tNo = tNo := by
  rw [List.getD_eq_getElem?_getD, List.getElem?_eq_none h]
  rfl
theorem words_small {s : ByteArray} (h : phraseB s = true) : (splitS s 32).length ≤ 8 ∧ ∀ x ∈ splitS s 32, x.size ≤ 16 := by
  unfold phraseB at h
  rw [Bool.and_eq_true, decide_eq_true_eq, List.all_eq_true] at h
  exact ⟨h.1, fun x hx => (wordB_size (h.2 x hx)).2⟩
theorem impl_ph (a b : ByteArray) (ha : a.size ≤ 1048576) (hb : b.size ≤ 1048576) (pa : phraseB a = true) (pb : phraseB b = true) : impl_phraseDistance a b = some (phD (splitS a 32) (splitS b 32)) := by
  have key : ∀ x y : List ByteArray, y.length ≤ x.length → x.length ≤ 8 → (∀ z ∈ x, z.size ≤ 16) → (∀ z ∈ y, z.size ≤ 16) → forS (x.length : Int) (fun (i7 : Int) (s7 : Int) => ((at' x i7).bind fun x11 => (bif (decide (i7 < (y.length : Int))) then ((at' y i7).bind fun x12 => ((impl_editDistance x11 x12).bind fun x13 => some (w64 (s7 + x13)))) else some (w64 (s7 + (x11.size : Int)))))) (fun (s7 : Int) => s7) 0 0 = some (phD x y) := by
    intro x y hxy hx8 hx hy
    have := (forS_foldl (n := x.length) (by omega) (B := fun (i7 : Int) (s7 : Int) => ((at' x i7).bind fun x11 => (bif (decide (i7 < (y.length : Int))) then ((at' y i7).bind fun x12 => ((impl_editDistance x11 x12).bind fun x13 => some (w64 (s7 + x13)))) else some (w64 (s7 + (x11.size : Int)))))) (D := fun (s7 : Int) => s7) (fun _ => True) (fun s i => w64 (s + dAt x y i)) 0 (fun i s hi _ => by
      refine ⟨?_, trivial⟩
      have h1 : x[i]? = some (x[i]'hi) := List.getElem?_eq_getElem _
      generalize x[i]'hi = u at h1
      have su := hx u (List.mem_of_getElem? h1)
      unfold dAt
      simp only [at_nat, h1, Option.bind_some, getD_some h1]
      by_cases hlt : i < y.length
      · have h2 : y[i]? = some (y[i]'hlt) := List.getElem?_eq_getElem _
        generalize y[i]'hlt = v at h2
        have sv := hy v (List.mem_of_getElem? h2)
        rw [decide_eq_true (show (i : Int) < y.length by omega), cond_true, h2, Option.bind_some, impl_dist u v (by omega) (by omega), getD_some h2]
        rfl
      · rw [decide_eq_false (show ¬ (i : Int) < y.length by omega), cond_false, getD_none (by omega), dist_nil]) trivial).1
    rw [this]
    unfold phD
    rw [Nat.max_eq_left hxy]
  obtain ⟨la, wa⟩ := words_small pa
  obtain ⟨lb, wb⟩ := words_small pb
  unfold impl_phraseDistance
  rw [impl_words_eq a (by omega), impl_words_eq b (by omega), Option.bind_some, Option.bind_some]
  by_cases h : (splitS a 32).length < (splitS b 32).length
  · rw [decide_eq_true (show ((splitS a 32).length : Int) < ((splitS b 32).length : Int) by omega), cond_true, Option.bind_some]
    simp only []
    rw [key _ _ (by omega) lb wb wa, phD_comm]
    rfl
  · rw [decide_eq_false (show ¬ ((splitS a 32).length : Int) < ((splitS b 32).length : Int) by omega), cond_false, Option.bind_some]
    simp only []
    rw [key _ _ (by omega) la wa wb]
    rfl
theorem maxI_nat (a b : Nat) : maxI (a : Int) (b : Int) = ((max a b : Nat) : Int) := by
  unfold maxI
  split <;> omega
theorem spec_ph (a b : ByteArray) (ha : a.size ≤ 1048576) (hb : b.size ≤ 1048576) (pa : phraseB a = true) (pb : phraseB b = true) : spec_l30Distance a b = some (phD (splitS a 32) (splitS b 32)) := by
  obtain ⟨la, wa⟩ := words_small pa
  obtain ⟨lb, wb⟩ := words_small pb
  have h1 : ∀ s : ByteArray, phraseB s = true → (wordsP s).1 = splitS s 32 := by
    intro s h
    unfold phraseB at h
    rw [Bool.and_eq_true] at h
    unfold wordsP
    rw [h.2]
    rfl
  unfold spec_l30Distance
  rw [spec_phrase_eq a (by omega), spec_phrase_eq b (by omega), Option.bind_some, Option.bind_some, h1 a pa, h1 b pb]
  generalize splitS a 32 = x at *
  generalize splitS b 32 = y at *
  rw [maxI_nat]
  have := (forS_foldl (n := max x.length y.length) (by omega) (B := fun (i5 : Int) (s5 : Int) => (((bif (decide (i5 < (x.length : Int))) then ((at' x i5).bind fun x11 => some x11) else some (ByteArray.mk #[]))).bind fun (j9 : ByteArray) => (((bif (decide (i5 < (y.length : Int))) then ((at' y i5).bind fun x14 => some x14) else some (ByteArray.mk #[]))).bind fun (j12 : ByteArray) => ((spec_l01Distance j9 j12).bind fun x15 => some (w64 (s5 + x15)))))) (D := fun (s5 : Int) => s5) (fun _ => True) (fun s i => w64 (s + dAt x y i)) 0 (fun i s hi _ => by
    refine ⟨?_, trivial⟩
    have hg : ∀ z : List ByteArray, (bif (decide ((i : Int) < (z.length : Int))) then ((at' z (i : Int)).bind fun x11 => some x11) else some (ByteArray.mk #[])) = some (z.getD i tNo) := by
      intro z
      by_cases h : i < z.length
      · have h2 : z[i]? = some (z[i]'h) := List.getElem?_eq_getElem _
        rw [decide_eq_true (show (i : Int) < z.length by omega), cond_true, at_nat, h2, Option.bind_some, getD_some h2]
      · rw [decide_eq_false (show ¬ (i : Int) < z.length by omega), cond_false, getD_none (by omega)]
    have hs : ∀ z : List ByteArray, (∀ u ∈ z, u.size ≤ 16) → (z.getD i tNo).size ≤ 16 := by
      intro z hz
      by_cases h : i < z.length
      · have h2 : z[i]? = some (z[i]'h) := List.getElem?_eq_getElem _
        rw [getD_some h2]
        exact hz _ (List.mem_of_getElem? h2)
      · rw [getD_none (by omega)]
        show 0 ≤ 16
        omega
    have s1 := hs x wa
    have s2 := hs y wb
    simp only [hg, Option.bind_some]
    rw [spec_dist _ _ (by omega) (by omega)]
    rfl) trivial).1
  rw [this]
  rfl
end Go.Proofs.YtodgenjlhiiieaaGreatDoor.Sh
