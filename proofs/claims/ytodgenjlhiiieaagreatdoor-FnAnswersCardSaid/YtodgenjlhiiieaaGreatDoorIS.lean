/- Plain laws: the insertion sort of the library, as a list that is built in order; no condition but a bound on the length. -/
import Derived.Test.YtodgenjlhiiieaaGreatDoorL0
namespace Go.Proofs.YtodgenjlhiiieaaGreatDoor.Sh
open Go.RowKit
section
variable {α : Type}
/-- x at its place in a list in order. -/
def putIn (lt : α → α → Bool) (A : List α) (x : α) : List α := A.takeWhile (fun y => lt y x) ++ x :: A.dropWhile (fun y => lt y x)
/-- The elements in order. -/
def sortB (lt : α → α → Bool) (L : List α) : List α := L.foldl (putIn lt) []
theorem putIn_mem {lt : α → α → Bool} {A : List α} {x z : α} : z ∈ putIn lt A x ↔ z = x ∨ z ∈ A := by
  unfold putIn
  have := List.takeWhile_append_dropWhile (p := fun y => lt y x) (l := A)
  conv => rhs; rw [← this]
  simp only [List.mem_append, List.mem_cons]
  constructor
  · rintro (h | h | h)
    · exact .inr (.inl h)
    · exact .inl h
    · exact .inr (.inr h)
  · rintro (h | h | h)
    · exact .inr (.inl h)
    · exact .inl h
    · exact .inr (.inr h)
theorem putIn_len {lt : α → α → Bool} {A : List α} {x : α} : (putIn lt A x).length = A.length + 1 := by
  unfold putIn
  have := congrArg List.length (List.takeWhile_append_dropWhile (p := fun y => lt y x) (l := A))
  rw [List.length_append] at this
  rw [List.length_append, List.length_cons]
  omega
theorem foldl_putIn_mem {lt : α → α → Bool} {z : α} : ∀ {L A : List α}, z ∈ L.foldl (putIn lt) A ↔ z ∈ A ∨ z ∈ L
  | [], A => by simp
  | x :: L, A => by
    rw [List.foldl_cons, foldl_putIn_mem, putIn_mem, List.mem_cons]
    constructor
    · rintro ((h | h) | h)
      · exact .inr (.inl h)
      · exact .inl h
      · exact .inr (.inr h)
    · rintro (h | h | h)
      · exact .inl (.inr h)
      · exact .inl (.inl h)
      · exact .inr h
theorem sortB_mem {lt : α → α → Bool} {z : α} {L : List α} : z ∈ sortB lt L ↔ z ∈ L := by
  unfold sortB
  rw [foldl_putIn_mem]
  simp
theorem foldl_putIn_len {lt : α → α → Bool} : ∀ {L A : List α}, (L.foldl (putIn lt) A).length = A.length + L.length
  | [], A => by simp
  | x :: L, A => by
    rw [List.foldl_cons, foldl_putIn_len, putIn_len, List.length_cons]
    omega
theorem sortB_len {lt : α → α → Bool} {L : List α} : (sortB lt L).length = L.length := by
  unfold sortB
  rw [foldl_putIn_len]
  simp
theorem dropWhile_all {lt : α → α → Bool} (tr : ∀ a b c, lt a b = true → lt b c = true → lt a c = true) {x : α} : ∀ {A : List α}, A.Pairwise (fun a b => lt a b = true) → (∀ y ∈ A, lt y x = true ∨ lt x y = true) → ∀ y ∈ A.dropWhile (fun y => lt y x), lt x y = true
  | [], _, _, y, hy => by cases hy
  | a :: A, hp, ht, y, hy => by
    rw [List.dropWhile_cons] at hy
    have hp2 := List.pairwise_cons.1 hp
    split at hy
    · exact dropWhile_all tr hp2.2 (fun z hz => ht z (List.mem_cons_of_mem _ hz)) y hy
    · rename_i hn
      have hx : lt x a = true := (ht a List.mem_cons_self).resolve_left (by simpa using hn)
      rcases List.mem_cons.1 hy with rfl | hy
      · exact hx
      · exact tr _ _ _ hx (hp2.1 y hy)
theorem putIn_sorted {lt : α → α → Bool} (tr : ∀ a b c, lt a b = true → lt b c = true → lt a c = true) {x : α} {A : List α} (hp : A.Pairwise (fun a b => lt a b = true)) (ht : ∀ y ∈ A, lt y x = true ∨ lt x y = true) : (putIn lt A x).Pairwise (fun a b => lt a b = true) := by
  have hd := dropWhile_all tr hp ht
  have hs := List.takeWhile_append_dropWhile (p := fun y => lt y x) (l := A)
  have htw : ∀ y ∈ A.takeWhile (fun y => lt y x), lt y x = true := fun y hy => by
    have := List.all_takeWhile (p := fun y => lt y x) (l := A)
    exact List.all_eq_true.1 this y hy
  unfold putIn
  rw [← hs] at hp
  obtain ⟨h1, h2, h3⟩ := List.pairwise_append.1 hp
  refine List.pairwise_append.2 ⟨h1, List.pairwise_cons.2 ⟨hd, h2⟩, fun a ha b hb => ?_⟩
  rcases List.mem_cons.1 hb with rfl | hb
  · exact htw a ha
  · exact tr _ _ _ (htw a ha) (hd b hb)
/-- Of a list each two of which are in one order or the other. -/
def Apart (lt : α → α → Bool) (L : List α) : Prop := L.Pairwise (fun a b => lt a b = true ∨ lt b a = true)
theorem foldl_sorted {lt : α → α → Bool} (tr : ∀ a b c, lt a b = true → lt b c = true → lt a c = true) : ∀ {L A : List α}, A.Pairwise (fun a b => lt a b = true) → (∀ y ∈ A, ∀ x ∈ L, lt y x = true ∨ lt x y = true) → Apart lt L → (L.foldl (putIn lt) A).Pairwise (fun a b => lt a b = true)
  | [], A, h, _, _ => h
  | x :: L, A, h, h2, h3 => by
    have h4 := List.pairwise_cons.1 h3
    rw [List.foldl_cons]
    refine foldl_sorted tr (putIn_sorted tr h fun y hy => h2 y hy x List.mem_cons_self) (fun y hy z hz => ?_) h4.2
    rcases putIn_mem.1 hy with rfl | hy
    · exact h4.1 z hz
    · exact h2 y hy z (List.mem_cons_of_mem _ hz)
theorem sortB_sorted {lt : α → α → Bool} (tr : ∀ a b c, lt a b = true → lt b c = true → lt a c = true) {L : List α} (h : Apart lt L) : (sortB lt L).Pairwise (fun a b => lt a b = true) := foldl_sorted tr List.Pairwise.nil (by simp) h
/-- One element goes to its place. -/
theorem bubbleG {T : α → α → Option Bool} {lt : α → α → Bool} {P : α → Prop} (hC : ∀ x y, P x → P y → T x y = some (lt x y)) {x : α} (hx : P x) : ∀ (m : Nat) (A B : List α), A.length = m → m ≤ 100000000 → (∀ y ∈ A, P y) →
    ∃ F G, A = F ++ G ∧ (∀ y ∈ G, lt x y = true) ∧ (∀ y, F.getLast? = some y → lt x y = false) ∧
    loop (fun (s5 : Int × (List α)) => (((bif (decide (s5.1 > 0)) then ((at' s5.2 s5.1).bind fun x7 => ((at' s5.2 (w64 (s5.1 - 1))).bind fun x8 => (T x7 x8))) else some false)).bind fun (j10 : Bool) => (bif j10 then ((((at' s5.2 (w64 (s5.1 - 1))).bind fun x14 => ((at' s5.2 s5.1).bind fun x15 => ((at' s5.2 s5.1).bind fun _ => ((at' (List.set s5.2 (Int.toNat s5.1) x14) (w64 (s5.1 - 1))).bind fun _ => some (List.set (List.set s5.2 (Int.toNat s5.1) x14) (Int.toNat (w64 (s5.1 - 1))) x15)))))).bind fun (j12 : (List α)) => some (.inl ((w64 (s5.1 - 1)), j12))) else some (.inr s5.2)))) ((A.length : Int), A ++ x :: B) = some (F ++ x :: (G ++ B))
  | 0, A, B, hm, _, _ => by
    have : A = [] := List.length_eq_zero_iff.1 hm
    subst this
    refine ⟨[], [], rfl, by simp, by simp, ?_⟩
    rw [loop_eq]
    rfl
  | m + 1, A, B, hm, hm2, hA => by
    obtain ⟨D, y, rfl⟩ : ∃ D y, A = D ++ [y] := by
      rcases List.eq_nil_or_concat A with rfl | ⟨D, y, h⟩
      · simp at hm
      · exact ⟨D, y, by simpa using h⟩
    have hB : D.length = m := by simp at hm; omega
    have hy : P y := hA y (by simp)
    have e1 : ((D ++ [y]).length : Int) = (D.length : Int) + 1 := by simp
    have e2 : w64 ((D.length : Int) + 1 - 1) = (D.length : Int) := by rw [w64_id (by omega) (by omega)]; omega
    have e0 : D ++ [y] ++ x :: B = D ++ y :: x :: B := by simp
    have g1 : at' (D ++ y :: x :: B) ((D.length : Int) + 1) = some x := by
      rw [show (D.length : Int) + 1 = ((D.length + 1 : Nat) : Int) by omega, at_nat, List.getElem?_append_right (by omega)]
      simp
    have g2 : at' (D ++ y :: x :: B) (D.length : Int) = some y := by
      rw [at_nat, List.getElem?_append_right (by omega)]
      simp
    have t1 : Int.toNat ((D.length : Int) + 1) = D.length + 1 := by omega
    have s1 : (D ++ y :: x :: B).set (D.length + 1) y = D ++ y :: y :: B := by
      rw [List.set_append_right _ _ (by omega)]
      simp
    have s2 : (D ++ y :: y :: B).set D.length x = D ++ x :: y :: B := by
      rw [List.set_append_right _ _ (by omega)]
      simp
    have g3 : at' (D ++ y :: y :: B) (D.length : Int) = some y := by
      rw [at_nat, List.getElem?_append_right (by omega)]
      simp
    rw [e1, e0]
    cases hlt : lt x y with
    | true =>
      obtain ⟨F, G, h1, h2, h3, h4⟩ := bubbleG hC hx m D (y :: B) hB (by omega) (fun z hz => hA z (by simp [hz]))
      refine ⟨F, G ++ [y], by rw [h1]; simp, fun z hz => ?_, h3, ?_⟩
      · rcases List.mem_append.1 hz with hz | hz
        · exact h2 z hz
        · rw [List.mem_singleton.1 hz]; exact hlt
      · rw [loop_eq]
        have hg : decide ((D.length : Int) + 1 > 0) = true := decide_eq_true (by omega)
        simp only [hg, cond_true, g1, e2, g2, Option.bind_some, hC x y hx hy, hlt, t1, s1, g3, Int.toNat_natCast, s2]
        rw [h4]
        simp
    | false =>
      refine ⟨D ++ [y], [], by simp, by simp, fun z hz => ?_, ?_⟩
      · simp at hz
        subst hz
        exact hlt
      · rw [loop_eq]
        have hg : decide ((D.length : Int) + 1 > 0) = true := decide_eq_true (by omega)
        simp only [hg, cond_true, g1, e2, g2, Option.bind_some, hC x y hx hy, hlt, cond_false]
        simp
/-- Where the element came to rest is its place. -/
theorem place_eq {lt : α → α → Bool} (tr : ∀ a b c, lt a b = true → lt b c = true → lt a c = true) (asy : ∀ a b, lt a b = true → lt b a = false) {A F G : List α} {x : α} (hA : A.Pairwise (fun a b => lt a b = true)) (ht : ∀ y ∈ A, lt y x = true ∨ lt x y = true) (h : A = F ++ G) (hG : ∀ y ∈ G, lt x y = true) (hF : ∀ y, F.getLast? = some y → lt x y = false) : F ++ x :: G = putIn lt A x := by
  subst h
  have hFx : ∀ y ∈ F, lt y x = true := by
    intro y hy
    rcases List.eq_nil_or_concat F with rfl | ⟨D, z, hz⟩
    · cases hy
    · rw [List.concat_eq_append] at hz
      subst hz
      have hzx : lt z x = true := (ht z (by simp)).resolve_right (by rw [hF z (by simp)]; simp)
      rcases List.mem_append.1 hy with hy | hy
      · have h1 := (List.pairwise_append.1 hA).1
        exact tr _ _ _ ((List.pairwise_append.1 h1).2.2 y hy z (by simp)) hzx
      · rw [List.mem_singleton.1 hy]; exact hzx
  have key : ∀ F : List α, (∀ y ∈ F, lt y x = true) → (F ++ G).takeWhile (fun y => lt y x) = F ∧ (F ++ G).dropWhile (fun y => lt y x) = G := by
    intro F
    induction F with
    | nil =>
      intro _
      cases G with
      | nil => exact ⟨rfl, rfl⟩
      | cons g G =>
        have := asy _ _ (hG g (by simp))
        simp [List.takeWhile_cons, List.dropWhile_cons, this]
    | cons f F ih =>
      intro hf
      have h1 := hf f (by simp)
      obtain ⟨h2, h3⟩ := ih fun y hy => hf y (by simp [hy])
      simp [List.takeWhile_cons, List.dropWhile_cons, h1, h2, h3]
  obtain ⟨h1, h2⟩ := key F hFx
  unfold putIn
  rw [h1, h2]
/-- The whole sort. -/
theorem insSortT {T : α → α → Option Bool} {lt : α → α → Bool} {P : α → Prop} (hC : ∀ x y, P x → P y → T x y = some (lt x y)) (tr : ∀ a b c, lt a b = true → lt b c = true → lt a c = true) (asy : ∀ a b, lt a b = true → lt b a = false) {L : List α} (hL : L.length ≤ 100000000) (hP : ∀ x ∈ L, P x) (hap : Apart lt L) :
    forS (L.length : Int) (fun (i1 : Int) (s1 : (List α)) => (loop (fun (s5 : Int × (List α)) => (((bif (decide (s5.1 > 0)) then ((at' s5.2 s5.1).bind fun x7 => ((at' s5.2 (w64 (s5.1 - 1))).bind fun x8 => (T x7 x8))) else some false)).bind fun (j10 : Bool) => (bif j10 then ((((at' s5.2 (w64 (s5.1 - 1))).bind fun x14 => ((at' s5.2 s5.1).bind fun x15 => ((at' s5.2 s5.1).bind fun _ => ((at' (List.set s5.2 (Int.toNat s5.1) x14) (w64 (s5.1 - 1))).bind fun _ => some (List.set (List.set s5.2 (Int.toNat s5.1) x14) (Int.toNat (w64 (s5.1 - 1))) x15)))))).bind fun (j12 : (List α)) => some (.inl ((w64 (s5.1 - 1)), j12))) else some (.inr s5.2)))) (i1, s1))) (fun (s1 : (List α)) => s1) (w64 (0 + 1)) L = some (sortB lt L) := by
  have e1 : w64 (0 + 1) = 1 := by rw [w64_id (by omega) (by omega)]; rfl
  rw [e1]
  have hstep : ∀ k, k < L.length → ∀ x, L[k]? = some x → sortB lt (L.take (k + 1)) = putIn lt (sortB lt (L.take k)) x := by
    intro k hk x hx
    unfold sortB
    rw [List.take_add_one, hx, List.foldl_append]
    rfl
  have key : ∀ (m k : Nat), k + m = L.length → 1 ≤ k → forS (L.length : Int) (fun (i1 : Int) (s1 : (List α)) => (loop (fun (s5 : Int × (List α)) => (((bif (decide (s5.1 > 0)) then ((at' s5.2 s5.1).bind fun x7 => ((at' s5.2 (w64 (s5.1 - 1))).bind fun x8 => (T x7 x8))) else some false)).bind fun (j10 : Bool) => (bif j10 then ((((at' s5.2 (w64 (s5.1 - 1))).bind fun x14 => ((at' s5.2 s5.1).bind fun x15 => ((at' s5.2 s5.1).bind fun _ => ((at' (List.set s5.2 (Int.toNat s5.1) x14) (w64 (s5.1 - 1))).bind fun _ => some (List.set (List.set s5.2 (Int.toNat s5.1) x14) (Int.toNat (w64 (s5.1 - 1))) x15)))))).bind fun (j12 : (List α)) => some (.inl ((w64 (s5.1 - 1)), j12))) else some (.inr s5.2)))) (i1, s1))) (fun (s1 : (List α)) => s1) (k : Int) (sortB lt (L.take k) ++ L.drop k) = some (sortB lt L) := by
    intro m
    induction m with
    | zero =>
      intro k hkm _
      obtain rfl : k = L.length := by omega
      unfold forS
      rw [loop_eq]
      simp only [decide_eq_false (show ¬ ((L.length : Int) < L.length) by omega), cond_false, List.take_length, List.drop_length, List.append_nil]
    | succ m ih =>
      intro k hkm h1
      have hkl : k < L.length := by omega
      have hx : L[k]? = some (L[k]'hkl) := List.getElem?_eq_getElem _
      rw [List.drop_eq_getElem_cons hkl]
      generalize L[k]'hkl = x at hx ⊢
      have hap1 : Apart lt (L.take k) := List.Pairwise.sublist (List.take_sublist _ _) hap
      have hxm := List.mem_of_getElem? hx
      have hlen : (sortB lt (L.take k)).length = k := by rw [sortB_len, List.length_take]; omega
      have hmem : ∀ y ∈ sortB lt (L.take k), y ∈ L.take k := fun y hy => sortB_mem.1 hy
      have htot : ∀ y ∈ sortB lt (L.take k), lt y x = true ∨ lt x y = true := by
        intro y hy
        obtain ⟨i, hi⟩ := List.mem_iff_getElem?.1 (hmem y hy)
        have hik : i < k := by
          have := (List.getElem?_eq_some_iff.1 hi).1
          rw [List.length_take] at this
          omega
        rw [List.getElem?_take_of_lt hik] at hi
        have := List.pairwise_iff_getElem.1 hap i k (by omega) hkl hik
        rw [List.getElem?_eq_getElem (by omega)] at hi hx
        injection hi with hi
        injection hx with hx
        rw [hi, hx] at this
        exact this
      obtain ⟨F, G, q1, q2, q3, q4⟩ := bubbleG hC (hP x hxm) k (sortB lt (L.take k)) (L.drop (k + 1)) hlen (by omega) (fun y hy => hP y (List.mem_of_mem_take (hmem y hy)))
      rw [hlen] at q4
      unfold forS
      rw [loop_eq]
      simp only [decide_eq_true (show ((k : Int) < L.length) by omega), cond_true, q4, Option.bind_some, w64_id (show -9223372036854775808 ≤ (k : Int) + 1 by omega) (by omega)]
      have hp := place_eq tr asy (sortB_sorted tr hap1) htot q1 q2 q3
      have hs := hstep k hkl x hx
      rw [show F ++ x :: (G ++ L.drop (k + 1)) = (F ++ x :: G) ++ L.drop (k + 1) by simp, hp, ← hs]
      have := ih (k + 1) (by omega) (by omega)
      unfold forS at this
      simpa using this
  by_cases h0 : L.length = 0
  · have : L = [] := List.length_eq_zero_iff.1 h0
    subst this
    unfold forS
    rw [loop_eq]
    rfl
  · have := key (L.length - 1) 1 (by omega) (Nat.le_refl _)
    rw [show ((1 : Nat) : Int) = 1 from rfl] at this
    have e : sortB lt (L.take 1) ++ L.drop 1 = L := by
      cases L with
      | nil => simp at h0
      | cons x l => simp [sortB, putIn]
    rwa [e] at this
theorem insSort {C : α → α → Option Int} {lt : α → α → Bool} {P : α → Prop} (hC : ∀ x y, P x → P y → ((C x y).bind fun x9 => some (decide (x9 < 0))) = some (lt x y)) (tr : ∀ a b c, lt a b = true → lt b c = true → lt a c = true) (asy : ∀ a b, lt a b = true → lt b a = false) {L : List α} (hL : L.length ≤ 100000000) (hP : ∀ x ∈ L, P x) (hap : Apart lt L) :
    forS (L.length : Int) (fun (i1 : Int) (s1 : (List α)) => (loop (fun (s5 : Int × (List α)) => (((bif (decide (s5.1 > 0)) then ((at' s5.2 s5.1).bind fun x7 => ((at' s5.2 (w64 (s5.1 - 1))).bind fun x8 => ((C x7 x8).bind fun x9 => some (decide (x9 < 0))))) else some false)).bind fun (j10 : Bool) => (bif j10 then ((((at' s5.2 (w64 (s5.1 - 1))).bind fun x14 => ((at' s5.2 s5.1).bind fun x15 => ((at' s5.2 s5.1).bind fun _ => ((at' (List.set s5.2 (Int.toNat s5.1) x14) (w64 (s5.1 - 1))).bind fun _ => some (List.set (List.set s5.2 (Int.toNat s5.1) x14) (Int.toNat (w64 (s5.1 - 1))) x15)))))).bind fun (j12 : (List α)) => some (.inl ((w64 (s5.1 - 1)), j12))) else some (.inr s5.2)))) (i1, s1))) (fun (s1 : (List α)) => s1) (w64 (0 + 1)) L = some (sortB lt L) :=
  insSortT (T := fun x y => (C x y).bind fun x9 => some (decide (x9 < 0))) hC tr asy hL hP hap
/-- Two lists in order with the same elements are one. -/
theorem sorted_unique {lt : α → α → Bool} (asy : ∀ a b, lt a b = true → lt b a = false) : ∀ {A B : List α}, A.Pairwise (fun a b => lt a b = true) → B.Pairwise (fun a b => lt a b = true) → (∀ z, z ∈ A ↔ z ∈ B) → A = B
  | [], [], _, _, _ => rfl
  | [], b :: B, _, _, h => by have := (h b).2 List.mem_cons_self; cases this
  | a :: A, [], _, _, h => by have := (h a).1 List.mem_cons_self; cases this
  | a :: A, b :: B, hA, hB, h => by
    have hA2 := List.pairwise_cons.1 hA
    have hB2 := List.pairwise_cons.1 hB
    have irr : ∀ x, lt x x = true → False := fun x hx => by
      have := asy x x hx
      rw [hx] at this
      cases this
    have e : a = b := by
      rcases List.mem_cons.1 ((h a).1 List.mem_cons_self) with h1 | h1
      · exact h1
      · rcases List.mem_cons.1 ((h b).2 List.mem_cons_self) with h2 | h2
        · exact h2.symm
        · have := asy _ _ (hB2.1 a h1)
          rw [hA2.1 b h2] at this
          cases this
    subst e
    congr 1
    refine sorted_unique asy hA2.2 hB2.2 fun z => ?_
    constructor
    · intro hz
      rcases List.mem_cons.1 ((h z).1 (List.mem_cons_of_mem _ hz)) with h1 | h1
      · subst h1
        exact (irr _ (hA2.1 _ hz)).elim
      · exact h1
    · intro hz
      rcases List.mem_cons.1 ((h z).2 (List.mem_cons_of_mem _ hz)) with h1 | h1
      · subst h1
        exact (irr _ (hB2.1 _ hz)).elim
      · exact h1
end
end Go.Proofs.YtodgenjlhiiieaaGreatDoor.Sh
