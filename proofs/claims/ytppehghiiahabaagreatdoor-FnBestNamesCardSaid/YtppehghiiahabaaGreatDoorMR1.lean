/- Minimal lists of a rising property of lists of indices, in order, and the least of them; no program in sight, no condition. -/
import Derived.Test.YtppehghiiahabaaGreatDoorL0
namespace Go.Proofs.YtppehghiiahabaaGreatDoor.Sh
open Go.RowKit
/-- Strictly increasing numbers below n. -/
def Inc (n : Nat) (R : List Int) : Prop := R.Pairwise (· < ·) ∧ ∀ x ∈ R, 0 ≤ x ∧ x < n
theorem Inc.nodup {n : Nat} {R : List Int} (h : Inc n R) : R.Nodup := h.1.imp fun h e => by omega
theorem Inc.nil (n : Nat) : Inc n [] := ⟨List.Pairwise.nil, by simp⟩
theorem Inc.sub {n : Nat} {R Q : List Int} (h : Inc n R) (hs : List.Sublist Q R) : Inc n Q := ⟨h.1.sublist hs, fun x hx => h.2 x (hs.subset hx)⟩
theorem Inc.erase {n : Nat} {R : List Int} (h : Inc n R) (i : Nat) : Inc n (R.eraseIdx i) := h.sub (List.eraseIdx_sublist R i)
theorem Inc.snoc {n : Nat} {R : List Int} (h : Inc n R) {i : Int} (h0 : 0 ≤ i) (hi : i < n) (hl : ∀ x ∈ R, x < i) : Inc n (R ++ [i]) := by
  refine ⟨List.pairwise_append.2 ⟨h.1, by simp, fun a ha b hb => ?_⟩, fun x hx => ?_⟩
  · rw [List.mem_singleton.1 hb]
    exact hl a ha
  · rcases List.mem_append.1 hx with hx | hx
    · exact h.2 x hx
    · rw [List.mem_singleton.1 hx]
      omega
theorem Inc.len {n : Nat} {R : List Int} (h : Inc n R) : R.length ≤ n := by
  have key : ∀ (M : List Int) (k : Int), M.Pairwise (· < ·) → (∀ x ∈ M, k ≤ x ∧ x < n) → 0 ≤ k → k + M.length ≤ n ∨ M = [] := by
    intro M
    induction M with
    | nil => intro k _ _ _; exact .inr rfl
    | cons x M ih =>
      intro k hp hb hk
      have h1 := List.pairwise_cons.1 hp
      have h2 := hb x (by simp)
      rcases ih (x + 1) h1.2 (fun y hy => ⟨by have := h1.1 y hy; omega, (hb y (by simp [hy])).2⟩) (by omega) with h3 | h3
      · left; simp only [List.length_cons]; omega
      · left; rw [h3]; simp; omega
  rcases key R 0 h.1 h.2 (Int.le_refl _) with h1 | h1
  · omega
  · rw [h1]; simp
/-- A property that more indices keep. -/
def Rising (n : Nat) (rep : List Int → Bool) : Prop := ∀ R Q, Inc n R → Inc n Q → (∀ x ∈ R, x ∈ Q) → rep R = true → rep Q = true
/-- Has it the property, and no list with one index less? -/
def minB (rep : List Int → Bool) (R : List Int) : Bool := rep R && (List.range R.length).all fun i => !rep (R.eraseIdx i)
theorem minB_rep {rep : List Int → Bool} {R : List Int} (h : minB rep R = true) : rep R = true := by
  unfold minB at h
  rw [Bool.and_eq_true] at h
  exact h.1
theorem minB_less {rep : List Int → Bool} {R : List Int} (h : minB rep R = true) {i : Nat} (hi : i < R.length) : rep (R.eraseIdx i) = false := by
  unfold minB at h
  rw [Bool.and_eq_true] at h
  have := List.all_eq_true.1 h.2 i (List.mem_range.2 hi)
  simpa using this
/-- Every list with the property has a minimal one within. -/
theorem exists_min {n : Nat} {rep : List Int → Bool} : ∀ (k : Nat) (R : List Int), R.length ≤ k → Inc n R → rep R = true → ∃ Q, Inc n Q ∧ minB rep Q = true ∧ ∀ x ∈ Q, x ∈ R := by
  intro k
  induction k with
  | zero =>
    intro R hl hi hr
    have : R = [] := List.length_eq_zero_iff.1 (by omega)
    subst this
    exact ⟨[], hi, by unfold minB; rw [hr]; rfl, fun x h => h⟩
  | succ k ih =>
    intro R hl hi hr
    cases hm : minB rep R
    · unfold minB at hm
      rw [hr, Bool.true_and, ← Bool.not_eq_true, List.all_eq_true] at hm
      have : ∃ i, i < R.length ∧ rep (R.eraseIdx i) = true := by
        rcases Classical.em (∃ i, i < R.length ∧ rep (R.eraseIdx i) = true) with h | h
        · exact h
        · exact absurd (fun i hi => by
            have : ¬ rep (R.eraseIdx i) = true := fun h2 => h ⟨i, List.mem_range.1 hi, h2⟩
            simpa using this) hm
      obtain ⟨i, h1, h2⟩ := this
      have h3 := List.length_eraseIdx_of_lt h1
      obtain ⟨Q, q1, q2, q3⟩ := ih (R.eraseIdx i) (by omega) (hi.erase i) h2
      exact ⟨Q, q1, q2, fun x hx => (List.eraseIdx_sublist R i).subset (q3 x hx)⟩
    · exact ⟨R, hi, hm, fun x h => h⟩
/-- All minimal lists that begin with one. -/
def allL (rep : List Int → Bool) (n : Nat) : Nat → Nat → List Int → List (List Int)
  | 0, _, _ => []
  | k + 1, f, R => bif rep R then (bif minB rep R then [R] else []) else (List.range' f (n - f)).flatMap fun i => allL rep n k (i + 1) (R ++ [(i : Int)])
/-- Where the next index is looked for. -/
def NextAt (R : List Int) (f : Nat) : Prop := (∀ x ∈ R, x < f) ∧ ∀ i : Int, 0 ≤ i → (∀ x ∈ R, x < i) → f ≤ i
theorem NextAt.snoc {R : List Int} {f i : Nat} (h : NextAt R f) (hi : f ≤ i) : NextAt (R ++ [(i : Int)]) (i + 1) := by
  refine ⟨fun x hx => ?_, fun j _ hj => ?_⟩
  · rcases List.mem_append.1 hx with hx | hx
    · have := h.1 x hx; omega
    · rw [List.mem_singleton.1 hx]; omega
  · have := hj i (by simp)
    omega
theorem NextAt.nil : NextAt [] 0 := ⟨by simp, fun i hi _ => by omega⟩
theorem mem_allL {n : Nat} {rep : List Int → Bool} (hr : Rising n rep) : ∀ (k f : Nat) (R : List Int), n - f < k → Inc n R → NextAt R f → ∀ Q, Q ∈ allL rep n k f R ↔ Inc n Q ∧ R <+: Q ∧ minB rep Q = true := by
  intro k
  induction k with
  | zero => intro f R h; omega
  | succ k ih =>
    intro f R hk hR hf Q
    unfold allL
    cases hrep : rep R
    · rw [cond_false, List.mem_flatMap]
      constructor
      · rintro ⟨i, hi, hq⟩
        rw [List.mem_range'_1] at hi
        have hs : Inc n (R ++ [(i : Int)]) := hR.snoc (by omega) (by omega) fun x hx => by have := hf.1 x hx; omega
        obtain ⟨q1, q2, q3⟩ := (ih (i + 1) _ (by omega) hs (hf.snoc hi.1) Q).1 hq
        exact ⟨q1, (List.prefix_append R [(i : Int)]).trans q2, q3⟩
      · rintro ⟨q1, ⟨t, rfl⟩, q3⟩
        cases t with
        | nil =>
          rw [List.append_nil] at q3
          rw [minB_rep q3] at hrep
          cases hrep
        | cons i t =>
          have hp := List.pairwise_append.1 q1.1
          have hi := q1.2 i (by simp)
          obtain ⟨m, rfl⟩ : ∃ m : Nat, i = m := ⟨i.toNat, by omega⟩
          have hfi := hf.2 m hi.1 fun x hx => hp.2.2 x hx m (by simp)
          have hs : Inc n (R ++ [(m : Int)]) := hR.snoc hi.1 hi.2 fun x hx => hp.2.2 x hx m (by simp)
          refine ⟨m, List.mem_range'_1.2 ⟨by omega, by omega⟩, (ih (m + 1) _ (by omega) hs (hf.snoc (by omega)) _).2 ⟨q1, ⟨t, by simp⟩, q3⟩⟩
    · rw [cond_true]
      constructor
      · intro h
        cases hm : minB rep R
        · rw [hm] at h
          simp at h
        · rw [hm] at h
          have : Q = R := by simpa using h
          subst this
          exact ⟨hR, List.prefix_refl _, hm⟩
      · rintro ⟨q1, ⟨t, rfl⟩, q3⟩
        have ht : t = [] := by
          rcases List.eq_nil_or_concat t with h | ⟨l, x, h⟩
          · exact h
          · exfalso
            subst h
            have hlen : (R ++ l.concat x).length = (R ++ l).length + 1 := by simp; omega
            have h1 := minB_less q3 (i := (R ++ l).length) (by omega)
            have e1 : (R ++ l.concat x).eraseIdx (R ++ l).length = R ++ l := by
              rw [List.concat_eq_append, ← List.append_assoc, List.eraseIdx_append_of_length_le (Nat.le_refl _), Nat.sub_self]
              show (R ++ l) ++ [] = R ++ l
              rw [List.append_nil]
            rw [e1] at h1
            have hsub : Inc n (R ++ l) := q1.sub (by rw [List.concat_eq_append, ← List.append_assoc]; exact List.sublist_append_left _ _)
            rw [hr R (R ++ l) hR hsub (fun x hx => List.mem_append_left _ hx) hrep] at h1
            cases h1
        subst ht
        rw [List.append_nil] at q3 ⊢
        rw [q3]
        simp
/-- Which of two lists of numbers comes first. -/
def cmpL : List Int → List Int → Int
  | [], [] => 0
  | [], _ :: _ => -1
  | _ :: _, [] => 1
  | x :: a, y :: b => if x < y then -1 else if y < x then 1 else cmpL a b
theorem cmpL_self : ∀ a : List Int, cmpL a a = 0
  | [] => rfl
  | x :: a => by
    unfold cmpL
    rw [if_neg (by omega), if_neg (by omega)]
    exact cmpL_self a
theorem cmpL_zero : ∀ {a b : List Int}, cmpL a b = 0 → a = b
  | [], [], _ => rfl
  | [], y :: b, h => by simp [cmpL] at h
  | x :: a, [], h => by simp [cmpL] at h
  | x :: a, y :: b, h => by
    unfold cmpL at h
    by_cases h1 : x < y
    · rw [if_pos h1] at h; omega
    · by_cases h2 : y < x
      · rw [if_neg h1, if_pos h2] at h; omega
      · rw [if_neg h1, if_neg h2] at h
        rw [cmpL_zero h, show x = y by omega]
theorem cmpL_swap : ∀ a b : List Int, cmpL b a = - cmpL a b
  | [], [] => rfl
  | [], y :: b => rfl
  | x :: a, [] => rfl
  | x :: a, y :: b => by
    unfold cmpL
    by_cases h1 : x < y
    · rw [if_pos h1, if_neg (by omega), if_pos h1]; rfl
    · by_cases h2 : y < x
      · rw [if_pos h2, if_neg h1, if_pos h2]
      · rw [if_neg h2, if_neg h1, if_neg h1, if_neg h2]
        exact cmpL_swap a b
theorem cmpL_trans : ∀ {a b c : List Int}, cmpL a b < 0 → cmpL b c < 0 → cmpL a c < 0
  | [], [], c, h, _ => by simp [cmpL] at h
  | [], y :: b, [], _, h => by simp [cmpL] at h
  | [], y :: b, z :: c, _, _ => by simp [cmpL]
  | x :: a, [], c, h, _ => by simp [cmpL] at h
  | x :: a, y :: b, [], _, h => by simp [cmpL] at h
  | x :: a, y :: b, z :: c, h1, h2 => by
    unfold cmpL at h1 h2 ⊢
    by_cases a1 : x < y
    · by_cases a2 : y < z
      · rw [if_pos (by omega)]; omega
      · by_cases a3 : z < y
        · rw [if_neg a2, if_pos a3] at h2; omega
        · rw [if_pos (by omega)]; omega
    · by_cases b1 : y < x
      · rw [if_neg a1, if_pos b1] at h1; omega
      · rw [if_neg a1, if_neg b1] at h1
        have : x = y := by omega
        subst this
        by_cases a2 : x < z
        · rw [if_pos a2]; omega
        · by_cases a3 : z < x
          · rw [if_neg a2, if_pos a3] at h2; omega
          · rw [if_neg a2, if_neg a3] at h2 ⊢
            exact cmpL_trans h1 h2
theorem cmpL_append : ∀ (R a b : List Int), cmpL (R ++ a) (R ++ b) = cmpL a b
  | [], _, _ => rfl
  | x :: R, a, b => by
    show (if x < x then -1 else if x < x then 1 else cmpL (R ++ a) (R ++ b)) = cmpL a b
    rw [if_neg (by omega), if_neg (by omega)]
    exact cmpL_append R a b
theorem cmpL_total {a b : List Int} (h : a ≠ b) : cmpL a b < 0 ∨ cmpL b a < 0 := by
  have h1 := cmpL_swap a b
  rcases Int.lt_trichotomy (cmpL a b) 0 with h2 | h2 | h2
  · exact .inl h2
  · exact absurd (cmpL_zero h2) h
  · exact .inr (by omega)
theorem allL_prefix {n : Nat} {rep : List Int → Bool} : ∀ (k f : Nat) (R Q : List Int), Q ∈ allL rep n k f R → R <+: Q := by
  intro k
  induction k with
  | zero => intro f R Q h; simp [allL] at h
  | succ k ih =>
    intro f R Q h
    unfold allL at h
    cases hrep : rep R
    · rw [hrep, cond_false, List.mem_flatMap] at h
      obtain ⟨i, _, hq⟩ := h
      exact (List.prefix_append R [(i : Int)]).trans (ih _ _ _ hq)
    · rw [hrep, cond_true] at h
      cases hm : minB rep R
      · rw [hm] at h; simp at h
      · rw [hm] at h
        have : Q = R := by simpa using h
        rw [this]
        exact List.prefix_refl _
theorem pairwise_flat {α β : Type} {P : β → β → Prop} {g : α → List β} : ∀ {L : List α}, (∀ x ∈ L, (g x).Pairwise P) → L.Pairwise (fun x y => ∀ a ∈ g x, ∀ b ∈ g y, P a b) → (L.flatMap g).Pairwise P
  | [], _, _ => by simp
  | x :: L, h1, h2 => by
    rw [List.flatMap_cons]
    have h3 := List.pairwise_cons.1 h2
    refine List.pairwise_append.2 ⟨h1 x (by simp), pairwise_flat (fun y hy => h1 y (by simp [hy])) h3.2, fun a ha b hb => ?_⟩
    obtain ⟨y, hy, hb⟩ := List.mem_flatMap.1 hb
    exact h3.1 y hy a ha b hb
theorem allL_sorted {n : Nat} {rep : List Int → Bool} : ∀ (k f : Nat) (R : List Int), (allL rep n k f R).Pairwise fun a b => cmpL a b < 0 := by
  intro k
  induction k with
  | zero => intro f R; simp [allL]
  | succ k ih =>
    intro f R
    unfold allL
    cases rep R
    · rw [cond_false]
      refine pairwise_flat (fun i _ => ih _ _) ((List.pairwise_lt_range' (s := f) (n := n - f)).imp fun {i j} hij a ha b hb => ?_)
      obtain ⟨s, rfl⟩ := allL_prefix _ _ _ _ ha
      obtain ⟨t, rfl⟩ := allL_prefix _ _ _ _ hb
      rw [List.append_assoc, List.append_assoc, cmpL_append]
      show cmpL ((i : Int) :: s) ((j : Int) :: t) < 0
      unfold cmpL
      rw [if_pos (by omega)]
      omega
    · cases minB rep R <;> simp
/-- Lighter, or as light and shorter, or both alike and ahead. -/
def keyL (w : List Int → Int) (a b : List Int) : Prop := w a < w b ∨ (w a = w b ∧ (a.length < b.length ∨ (a.length = b.length ∧ cmpL a b < 0)))
theorem keyL_trans {w : List Int → Int} {a b c : List Int} (h1 : keyL w a b) (h2 : keyL w b c) : keyL w a c := by
  unfold keyL at *
  rcases h1 with h1 | ⟨h1, h1' | ⟨h1', h1''⟩⟩ <;> rcases h2 with h2 | ⟨h2, h2' | ⟨h2', h2''⟩⟩
  · left; omega
  · left; omega
  · left; omega
  · left; omega
  · right; exact ⟨by omega, .inl (by omega)⟩
  · right; exact ⟨by omega, .inl (by omega)⟩
  · left; omega
  · right; exact ⟨by omega, .inl (by omega)⟩
  · right; exact ⟨by omega, .inr ⟨by omega, cmpL_trans h1'' h2''⟩⟩
theorem keyL_asymm {w : List Int → Int} {a b : List Int} (h1 : keyL w a b) (h2 : keyL w b a) : False := by
  have := keyL_trans h1 h2
  unfold keyL at this
  rw [cmpL_self] at this
  omega
theorem keyL_total {w : List Int → Int} {a b : List Int} (h : ¬ keyL w a b) : a = b ∨ keyL w b a := by
  unfold keyL at *
  rcases Int.lt_trichotomy (w a) (w b) with h1 | h1 | h1
  · exact absurd (.inl h1) h
  · rcases Nat.lt_trichotomy a.length b.length with h2 | h2 | h2
    · exact absurd (.inr ⟨h1, .inl h2⟩) h
    · by_cases e : a = b
      · exact .inl e
      · rcases cmpL_total e with h3 | h3
        · exact absurd (.inr ⟨h1, .inr ⟨h2, h3⟩⟩) h
        · exact .inr (.inr ⟨h1.symm, .inr ⟨h2.symm, h3⟩⟩)
    · exact .inr (.inr ⟨h1.symm, .inl h2⟩)
  · exact .inr (.inl h1)
/-- The least of a list. -/
def IsLeast (w : List Int → Int) (l : List (List Int)) (b : List Int) : Prop := b ∈ l ∧ ∀ r ∈ l, r = b ∨ keyL w b r
theorem IsLeast.unique {w : List Int → Int} {l m : List (List Int)} (hlm : ∀ x, x ∈ l ↔ x ∈ m) {b c : List Int} (h1 : IsLeast w l b) (h2 : IsLeast w m c) : b = c := by
  rcases h1.2 c ((hlm c).2 h2.1) with h | h
  · exact h.symm
  · rcases h2.2 b ((hlm b).1 h1.1) with h3 | h3
    · exact h3
    · exact (keyL_asymm h h3).elim
/-- The first lightest and shortest of a list in order is its least. -/
theorem least_sorted {w : List Int → Int} : ∀ (l done : List (List Int)) (b : List Int), (done ++ l).Pairwise (fun x y => cmpL x y < 0) → IsLeast w done b → IsLeast w (done ++ l) (l.foldl (fun b a => if w a < w b ∨ (w a = w b ∧ a.length < b.length) then a else b) b)
  | [], done, b, _, h => by simpa using h
  | a :: l, done, b, hp, h => by
    have e : done ++ a :: l = (done ++ [a]) ++ l := by simp
    rw [e] at hp ⊢
    rw [List.foldl_cons]
    refine least_sorted l (done ++ [a]) _ hp ?_
    have hlt : ∀ r ∈ done, cmpL r a < 0 := fun r hr => (List.pairwise_append.1 (List.pairwise_append.1 hp).1).2.2 r hr a (by simp)
    by_cases hc : w a < w b ∨ (w a = w b ∧ a.length < b.length)
    · rw [if_pos hc]
      have hk : keyL w a b := by
        unfold keyL
        rcases hc with hc | hc
        · exact .inl hc
        · exact .inr ⟨hc.1, .inl hc.2⟩
      refine ⟨by simp, fun r hr => ?_⟩
      rcases List.mem_append.1 hr with hr | hr
      · rcases h.2 r hr with rfl | h3
        · exact .inr hk
        · exact .inr (keyL_trans hk h3)
      · exact .inl (List.mem_singleton.1 hr)
    · rw [if_neg hc]
      refine ⟨List.mem_append_left _ h.1, fun r hr => ?_⟩
      rcases List.mem_append.1 hr with hr | hr
      · exact h.2 r hr
      · rw [List.mem_singleton.1 hr]
        right
        have h4 := hlt b h.1
        unfold keyL
        by_cases h5 : w b < w a
        · exact .inl h5
        · have h6 : w b = w a := by omega
          refine .inr ⟨h6, ?_⟩
          by_cases h7 : b.length < a.length
          · exact .inl h7
          · exact .inr ⟨by omega, h4⟩
/-- The least of a list by a test. -/
theorem least_fold {w : List Int → Int} (lt : List Int → List Int → Bool) (hlt : ∀ a b, lt a b = true ↔ keyL w a b) : ∀ (l done : List (List Int)) (b : List Int), IsLeast w done b → IsLeast w (done ++ l) (l.foldl (fun b a => bif lt a b then a else b) b)
  | [], done, b, h => by simpa using h
  | a :: l, done, b, h => by
    have e : done ++ a :: l = (done ++ [a]) ++ l := by simp
    rw [e, List.foldl_cons]
    refine least_fold lt hlt l (done ++ [a]) _ ?_
    cases hc : lt a b
    · rw [cond_false]
      refine ⟨List.mem_append_left _ h.1, fun r hr => ?_⟩
      rcases List.mem_append.1 hr with hr | hr
      · exact h.2 r hr
      · rw [List.mem_singleton.1 hr]
        exact keyL_total fun h => by rw [(hlt a b).2 h] at hc; cases hc
    · have hk := (hlt a b).1 hc
      rw [cond_true]
      refine ⟨by simp, fun r hr => ?_⟩
      rcases List.mem_append.1 hr with hr | hr
      · rcases h.2 r hr with rfl | h3
        · exact .inr hk
        · exact .inr (keyL_trans hk h3)
      · exact .inl (List.mem_singleton.1 hr)
/-- The indices whose bits a number has. -/
def subN (n b : Nat) : List Int := ((List.range n).filter fun i => b.testBit i).map fun (i : Nat) => (i : Int)
theorem mem_subN {n b : Nat} {x : Int} : x ∈ subN n b ↔ ∃ i : Nat, x = i ∧ i < n ∧ b.testBit i = true := by
  unfold subN
  rw [List.mem_map]
  constructor
  · rintro ⟨i, hi, rfl⟩
    rw [List.mem_filter, List.mem_range] at hi
    exact ⟨i, rfl, hi⟩
  · rintro ⟨i, rfl, h⟩
    exact ⟨i, by rw [List.mem_filter, List.mem_range]; exact h, rfl⟩
theorem subN_inc (n b : Nat) : Inc n (subN n b) := by
  refine ⟨?_, fun x hx => ?_⟩
  · unfold subN
    rw [List.pairwise_map]
    exact ((List.pairwise_lt_range (n := n)).filter _).imp fun h => by omega
  · obtain ⟨i, rfl, h, _⟩ := mem_subN.1 hx
    omega
theorem subN_succ (n b : Nat) : subN (n + 1) b = subN n b ++ (bif b.testBit n then [(n : Int)] else []) := by
  unfold subN
  rw [List.range_succ, List.filter_append, List.map_append]
  congr 1
  cases h : b.testBit n <;> simp [h]
theorem subN_congr {n b c : Nat} (h : ∀ i, i < n → b.testBit i = c.testBit i) : subN n b = subN n c := by
  unfold subN
  congr 1
  exact List.filter_congr fun i hi => h i (List.mem_range.1 hi)
/-- Every list is that of a number. -/
theorem subN_all : ∀ (n : Nat) {Q : List Int}, Inc n Q → ∃ b, b < 2 ^ n ∧ subN n b = Q
  | 0, Q, h => by
    have : Q = [] := by
      cases Q with
      | nil => rfl
      | cons x Q => have := h.2 x (by simp); omega
    subst this
    exact ⟨0, by simp, rfl⟩
  | n + 1, Q, h => by
    by_cases hn : (n : Int) ∈ Q
    · obtain ⟨l, t, rfl⟩ := List.append_of_mem hn
      have hp := List.pairwise_append.1 h.1
      have ht : t = [] := by
        cases t with
        | nil => rfl
        | cons y t =>
          have h1 := (List.pairwise_cons.1 hp.2.1).1 y (by simp)
          have h2 := h.2 y (by simp)
          omega
      subst ht
      have hl : Inc n l := ⟨hp.1, fun x hx => ⟨(h.2 x (by simp [hx])).1, hp.2.2 x hx n (by simp)⟩⟩
      obtain ⟨b, hb, rfl⟩ := subN_all n hl
      refine ⟨2 ^ n + b, by rw [Nat.pow_succ]; omega, ?_⟩
      have h0 : b.testBit n = false := Nat.testBit_lt_two_pow hb
      rw [subN_succ, Nat.testBit_two_pow_add_eq, h0, Bool.not_false, cond_true]
      congr 1
      exact subN_congr fun i hi => Nat.testBit_two_pow_add_gt hi b
    · have hl : Inc n Q := ⟨h.1, fun x hx => ⟨(h.2 x hx).1, by
        have h1 := (h.2 x hx).2
        have h2 : x ≠ n := fun e => hn (e ▸ hx)
        omega⟩⟩
      obtain ⟨b, hb, rfl⟩ := subN_all n hl
      refine ⟨b, by rw [Nat.pow_succ]; omega, ?_⟩
      have h0 : b.testBit n = false := Nat.testBit_lt_two_pow hb
      rw [subN_succ, h0, cond_false, List.append_nil]
/-- Two lists in order with the same members are one. -/
theorem cmp_unique : ∀ {a b : List (List Int)}, a.Pairwise (fun x y => cmpL x y < 0) → b.Pairwise (fun x y => cmpL x y < 0) → (∀ x, x ∈ a ↔ x ∈ b) → a = b
  | [], [], _, _, _ => rfl
  | [], y :: b, _, _, h => by have := (h y).2 (by simp); simp at this
  | x :: a, [], _, _, h => by have := (h x).1 (by simp); simp at this
  | x :: a, y :: b, h1, h2, h => by
    have p1 := List.pairwise_cons.1 h1
    have p2 := List.pairwise_cons.1 h2
    have hxy : x = y := by
      rcases List.mem_cons.1 ((h x).1 (by simp)) with e | e
      · exact e
      · rcases List.mem_cons.1 ((h y).2 (by simp)) with e2 | e2
        · exact e2.symm
        · have := cmpL_trans (p1.1 y e2) (p2.1 x e)
          rw [cmpL_self] at this
          omega
    subst hxy
    congr 1
    refine cmp_unique p1.2 p2.2 fun z => ⟨fun hz => ?_, fun hz => ?_⟩
    · rcases List.mem_cons.1 ((h z).1 (by simp [hz])) with rfl | e
      · have := p1.1 z hz
        rw [cmpL_self] at this
        omega
      · exact e
    · rcases List.mem_cons.1 ((h z).2 (by simp [hz])) with rfl | e
      · have := p2.1 z hz
        rw [cmpL_self] at this
        omega
      · exact e
end Go.Proofs.YtppehghiiahabaaGreatDoor.Sh
