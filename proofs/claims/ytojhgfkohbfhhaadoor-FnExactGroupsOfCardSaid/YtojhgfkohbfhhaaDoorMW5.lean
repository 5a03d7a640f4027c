/- The reference's group of a record, and the program's; no condition but ties within the records. -/
import Derived.Test.YtojhgfkohbfhhaaDoorMW4
namespace Go.Proofs.YtojhgfkohbfhhaaDoor.Sh
open Go.RowKit Go.Lib
def bv (o : List Bool) (v : Nat) : Bool := o[v]?.getD false
theorem bv_set {o : List Bool} {u v : Nat} {x : Bool} (hu : u < o.length) : bv (o.set u x) v = if u = v then x else bv o v := by
  unfold bv
  rw [List.getElem?_set]
  by_cases h : u = v
  · subst h; simp [hu]
  · simp [h]
theorem bv_at {o : List Bool} {i : Int} (h0 : 0 ≤ i) (h : i.toNat < o.length) : at' o i = some (bv o i.toNat) := by
  unfold at' bv
  rw [if_pos h0, List.getElem?_eq_getElem h]
  rfl
theorem bv_get {o : List Bool} {v : Nat} (h : v < o.length) : o[v]? = some (bv o v) := by
  unfold bv
  rw [List.getElem?_eq_getElem h]
  rfl
theorem set_true {o : List Bool} {u : Nat} (hu : u < o.length) (h : bv o u = true) : o.set u true = o := by
  have h1 := bv_get hu
  rw [h] at h1
  apply List.ext_getElem?
  intro i
  rw [List.getElem?_set]
  by_cases hi : u = i
  · subst hi; rw [if_pos rfl, if_pos hu]; exact h1.symm
  · simp [hi]
def cf (o : List Bool) : Nat := o.countP (fun b => !b)
theorem cf_set : ∀ (o : List Bool) (u : Nat), u < o.length → bv o u = false → cf (o.set u true) + 1 = cf o
  | [], _, h, _ => by simp at h
  | b :: o, 0, _, h => by
    have : b = false := by simpa [bv] using h
    subst this
    simp [cf]
  | b :: o, u + 1, h, h2 => by
    have := cf_set o u (by simpa using h) (by simpa [bv] using h2)
    unfold cf at this ⊢
    rw [List.set_cons_succ, List.countP_cons, List.countP_cons]
    omega
def passT (s : Bool × List Bool) (t : Tie) : Bool × List Bool := bif t.Same && (bv s.2 t.A.toNat != bv s.2 t.B.toNat) then (true, (s.2.set t.A.toNat true).set t.B.toNat true) else (s.1, s.2)
/-- Two different marks become two marks. -/
theorem pass_mark {o : List Bool} {a b : Nat} (ha : a < o.length) (hb : b < o.length) (h : bv o a ≠ bv o b) : cf ((o.set a true).set b true) + 1 = cf o ∧ ∀ v, bv ((o.set a true).set b true) v = true → bv o v = true ∨ v = a ∨ v = b := by
  refine ⟨?_, fun v hv => ?_⟩
  · cases hx : bv o a
    · have hy : bv o b = true := by rw [hx] at h; simpa using h.symm
      have hne : a ≠ b := by rintro rfl; exact h rfl
      rw [set_true (o := o.set a true) (by simpa using hb) (by rw [bv_set ha, if_neg hne]; exact hy)]
      exact cf_set o a ha hx
    · have hy : bv o b = false := by rw [hx] at h; simpa using h.symm
      rw [set_true ha hx]
      exact cf_set o b hb hy
  · rw [bv_set (by simpa using hb), bv_set ha] at hv
    by_cases h1 : b = v
    · exact .inr (.inr h1.symm)
    · rw [if_neg h1] at hv
      by_cases h2 : a = v
      · exact .inr (.inl h2.symm)
      · rw [if_neg h2] at hv
        exact .inl hv
/-- What is marked is reached from a. -/
structure Mk (n a : Nat) (d : List Int) (o : List Bool) : Prop where
  len : o.length = n
  own : bv o a = true
  ok : ∀ v, v < n → bv o v = true → 0 ≤ gv d v
theorem Mk.pass {n a : Nat} {L : List Tie} {d : List Int} (hT : TIn n L) (hd : Dist L n a d) {s : Bool × List Bool} (h : Mk n a d s.2) {t : Tie} (ht : t ∈ L) : Mk n a d (passT s t).2 ∧ cf (passT s t).2 ≤ cf s.2 ∧ ((passT s t).1 = true → s.1 = true ∨ cf (passT s t).2 < cf s.2) ∧ ((passT s t).1 = false → s.1 = false ∧ (passT s t).2 = s.2 ∧ (t.Same = true → bv s.2 t.A.toNat = bv s.2 t.B.toNat)) := by
  have hr := hT.rng ht
  unfold passT
  cases hb : t.Same && (bv s.2 t.A.toNat != bv s.2 t.B.toNat)
  · refine ⟨h, Nat.le_refl _, fun h1 => .inl h1, fun h1 => ⟨h1, rfl, fun h2 => ?_⟩⟩
    rw [h2, Bool.true_and] at hb
    simpa using hb
  · simp only [Bool.and_eq_true, bne_iff_ne, ne_eq] at hb
    have hp := pass_mark (o := s.2) (by rw [h.len]; exact hr.1) (by rw [h.len]; exact hr.2.1) hb.2
    have hadj : adj L t.A.toNat t.B.toNat := ⟨t, ht, hb.1, .inl ⟨rfl, rfl⟩⟩
    have hboth : 0 ≤ gv d t.A.toNat ∧ 0 ≤ gv d t.B.toNat := by
      cases hx : bv s.2 t.A.toNat
      · have hy : bv s.2 t.B.toNat = true := by rw [hx] at hb; simpa using Ne.symm hb.2
        have := h.ok _ hr.2.1 hy
        exact ⟨(hd.step _ _ hadj.symm this).1, this⟩
      · have := h.ok _ hr.1 hx
        exact ⟨this, (hd.step _ _ hadj this).1⟩
    have hmono : ∀ v, bv s.2 v = true → bv ((s.2.set t.A.toNat true).set t.B.toNat true) v = true := fun v hv => by
      rw [bv_set (by simpa [h.len] using hr.2.1), bv_set (by rw [h.len]; exact hr.1)]
      split
      · rfl
      · split
        · rfl
        · exact hv
    refine ⟨⟨by simp [h.len], hmono a h.own, fun v hv h1 => ?_⟩, by simp only [cond_true]; omega, fun _ => .inr (by simp only [cond_true]; omega), fun h1 => by cases h1⟩
    rcases hp.2 v h1 with h2 | rfl | rfl
    · exact h.ok v hv h2
    · exact hboth.1
    · exact hboth.2
theorem Mk.passes {n a : Nat} {L : List Tie} {d : List Int} (hT : TIn n L) (hd : Dist L n a d) : ∀ (M : List Tie) (s : Bool × List Bool), (∀ t ∈ M, t ∈ L) → Mk n a d s.2 → Mk n a d (M.foldl passT s).2 ∧ cf (M.foldl passT s).2 ≤ cf s.2 ∧ ((M.foldl passT s).1 = true → s.1 = true ∨ cf (M.foldl passT s).2 < cf s.2) ∧ ((M.foldl passT s).1 = false → s.1 = false ∧ (M.foldl passT s).2 = s.2 ∧ ∀ t ∈ M, t.Same = true → bv s.2 t.A.toNat = bv s.2 t.B.toNat)
  | [], s, _, h => ⟨h, Nat.le_refl _, fun h1 => .inl h1, fun h1 => ⟨h1, rfl, fun t ht => by cases ht⟩⟩
  | t :: M, s, hM, h => by
    obtain ⟨h1, h2, h3, h4⟩ := h.pass hT hd (hM t (by simp))
    obtain ⟨k1, k2, k3, k4⟩ := Mk.passes hT hd M (passT s t) (fun x hx => hM x (by simp [hx])) h1
    rw [List.foldl_cons]
    refine ⟨k1, by omega, fun hx => ?_, fun hx => ?_⟩
    · rcases k3 hx with k5 | k5
      · rcases h3 k5 with h5 | h5
        · exact .inl h5
        · exact .inr (by omega)
      · exact .inr (by omega)
    · obtain ⟨k5, k6, k7⟩ := k4 hx
      obtain ⟨h5, h6, h7⟩ := h4 k5
      refine ⟨h5, k6.trans h6, fun x hxm => ?_⟩
      rcases List.mem_cons.1 hxm with rfl | hxm
      · exact h7
      · have := k7 x hxm
        rwa [h6] at this
/-- All numbers below n with a property. -/
def fl (p : Nat → Bool) (n : Nat) : List Int := (List.range n).flatMap fun i => bif p i then [(i : Int)] else []
theorem fl_succ (p : Nat → Bool) (n : Nat) : fl p (n + 1) = fl p n ++ bif p n then [(n : Int)] else [] := by
  unfold fl
  rw [List.range_succ, List.flatMap_append]
  simp
theorem fl_congr {p q : Nat → Bool} : ∀ {n : Nat}, (∀ i, i < n → p i = q i) → fl p n = fl q n
  | 0, _ => rfl
  | n + 1, h => by rw [fl_succ, fl_succ, fl_congr (fun i hi => h i (by omega)), h n (by omega)]
theorem fl_any (p : Nat → Bool) (x : Nat) : ∀ n : Nat, (fl p n).any (fun y => y == (x : Int)) = (decide (x < n) && p x)
  | 0 => by simp [fl]
  | n + 1 => by
    rw [fl_succ, List.any_append, fl_any p x n]
    by_cases h : x = n
    · subst h
      cases p x <;> simp
    · have h1 : (x < n + 1) ↔ x < n := by omega
      have h2 : ((n : Int) == (x : Int)) = false := by simp; omega
      simp only [h1]
      cases p n <;> simp [h2]
theorem fl_len (p : Nat → Bool) : ∀ n : Nat, (fl p n).length ≤ n
  | 0 => Nat.le_refl _
  | n + 1 => by
    have := fl_len p n
    rw [fl_succ, List.length_append]
    cases p n <;> simp <;> omega
theorem fl_head (p : Nat → Bool) : ∀ n : Nat, ((∀ i, i < n → p i = false) ∧ fl p n = []) ∨ ∃ m, m < n ∧ p m = true ∧ (∀ j, j < m → p j = false) ∧ (fl p n)[0]? = some (m : Int)
  | 0 => .inl ⟨fun i hi => absurd hi (Nat.not_lt_zero _), rfl⟩
  | n + 1 => by
    rw [fl_succ]
    rcases fl_head p n with ⟨h1, h2⟩ | ⟨m, h1, h2, h3, h4⟩
    · cases hp : p n
      · exact .inl ⟨fun i hi => by
          by_cases h : i = n
          · rw [h]; exact hp
          · exact h1 i (by omega), by rw [h2]; rfl⟩
      · exact .inr ⟨n, by omega, hp, h1, by rw [h2]; rfl⟩
    · refine .inr ⟨m, by omega, h2, h3, ?_⟩
      rw [List.getElem?_append_left (List.getElem?_eq_some_iff.1 h4).1]
      exact h4
def rch (d : List Int) (v : Nat) : Bool := decide (0 ≤ gv d v)
theorem group_eq {n a : Nat} {L : List Tie} {d : List Int} (hT : TIn n L) (han : a < n) (hd : Dist L n a d) : spec_l31Group (n : Int) L (a : Int) = some (fl (rch d) n) := by
  have hn := hT.le
  have hL := hT.len
  unfold spec_l31Group
  rw [make_ok false (by omega), Option.bind_some, bv_at (by omega) (by simpa using han), Option.bind_some]
  generalize hb : loop _ _ = m
  have key : ∃ r, m = some r ∧ (Mk n a d r ∧ ∀ t ∈ L, t.Same = true → bv r t.A.toNat = bv r t.B.toNat) := by
    rw [← hb]
    refine loop_inv (fun s => Mk n a d s.2 ∧ (s.1 = false → ∀ t ∈ L, t.Same = true → bv s.2 t.A.toNat = bv s.2 t.B.toNat)) (fun s => 2 * cf s.2 + (if s.1 then 1 else 0)) _ (fun s hs => ?_) ⟨⟨by simp, ?_, fun v hv h1 => ?_⟩, fun h => by cases h⟩
    · obtain ⟨h1, h2⟩ := hs
      cases hs1 : s.1
      · exact .inr ⟨s.2, rfl, h1, h2 hs1⟩
      · left
        obtain ⟨k1, k2, k3, k4⟩ := Mk.passes hT hd L (false, s.2) (fun t ht => ht) h1
        rw [cond_true, (forS_foldl_list (by omega) (fun s => s.2.length = n) passT (false, s.2) (fun i x s hx hs => ?_) h1.len).1]
        · refine ⟨_, rfl, ⟨k1, fun h3 t ht => ?_⟩, ?_⟩
          · obtain ⟨_, h4, h5⟩ := k4 h3
            have := h5 t ht
            dsimp only at this ⊢
            rw [h4]
            exact this
          · dsimp only
            cases hc : (L.foldl passT (false, s.2)).1
            · obtain ⟨_, h4, _⟩ := k4 hc
              rw [h4]
              simp
            · rcases k3 hc with h4 | h4
              · cases h4
              · simp
                dsimp only at h4
                omega
        · have hxL := List.mem_of_getElem? hx
          have hr := hT.rng hxL
          have ha := hT.all x hxL
          rw [at_nat, hx, Option.bind_some, bv_at ha.1 (by omega), bv_at (by omega) (by omega)]
          constructor
          · unfold passT
            cases x.Same
            · rfl
            · simp only [cond_true, Option.bind_some, Bool.true_and]
              rw [bv_at (o := s.2.set x.A.toNat true) (by omega) (by simp; omega)]
              cases bv s.2 x.A.toNat <;> cases bv s.2 x.B.toNat <;> rfl
          · unfold passT
            cases x.Same && (bv s.2 x.A.toNat != bv s.2 x.B.toNat) <;> simpa using hs
    · rw [Int.toNat_natCast, bv_set (by simpa using han), if_pos rfl]
    · rw [Int.toNat_natCast, bv_set (by simpa using han)] at h1
      split at h1
      · rename_i e
        rw [← e, hd.zero]
        omega
      · unfold bv at h1
        rw [List.getElem?_replicate, if_pos hv] at h1
        cases h1
  clear hb
  obtain ⟨r, rfl, h1, h2⟩ := key
  have comp : ∀ (k v : Nat), v < n → gv d v = k → bv r v = true := by
    intro k
    induction k with
    | zero =>
      intro v hv hk
      have := hd.only v hv (by simpa using hk)
      subst this
      exact h1.own
    | succ k ih =>
      intro v hv hk
      obtain ⟨u, h3, h4⟩ := hd.back v hv (by omega)
      have h5 := ih u (hT.adj_lt h3).1 (by omega)
      obtain ⟨t, ht, hs, h6⟩ := h3
      have h7 := h2 t ht hs
      rcases h6 with ⟨h8, h9⟩ | ⟨h8, h9⟩
      · rw [h8, h9] at h7; rw [← h7]; exact h5
      · rw [h8, h9] at h7; rw [h7]; exact h5
  have both : ∀ v, v < n → bv r v = rch d v := fun v hv => by
    unfold rch
    by_cases h3 : 0 ≤ gv d v
    · obtain ⟨k, hk⟩ := Int.eq_ofNat_of_zero_le h3
      rw [comp k v hv hk, decide_eq_true h3]
    · rw [decide_eq_false h3, Bool.eq_false_iff]
      exact fun h4 => h3 (h1.ok v hv h4)
  rw [Option.bind_some, forS_build (n := n) 1000 (by omega) (by omega) (fun i => bif bv r i then [(i : Int)] else []) (fun i => by cases bv r i <;> simp) [] (by simp; omega) (fun i s hi hs => ?_)]
  · rw [Option.bind_some, List.nil_append]
    exact congrArg some (fl_congr (p := bv r) both)
  · rw [bv_at (by omega) (by rw [h1.len]; simpa using hi), Option.bind_some, Int.toNat_natCast]
    cases bv r i
    · simp
    · rw [cond_true, app_ok (by simp; omega)]
      rfl
end Go.Proofs.YtojhgfkohbfhhaaDoor.Sh
