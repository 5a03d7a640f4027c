/- Distances between records that ties join: what determines them; plain mathematics. -/
import Derived.Test.YtojhgfkohbfhhaaDoorMW2
namespace Go.Proofs.YtojhgfkohbfhhaaDoor.Sh
open Go.RowKit Go.Lib
def gv (o : List Int) (v : Nat) : Int := o[v]?.getD (-1)
theorem gv_set {o : List Int} {u v : Nat} {x : Int} (hu : u < o.length) : gv (o.set u x) v = if u = v then x else gv o v := by
  unfold gv
  rw [List.getElem?_set]
  by_cases h : u = v
  · subst h; simp [hu]
  · simp [h]
theorem gv_at {o : List Int} {i : Int} (h0 : 0 ≤ i) (h : i.toNat < o.length) : at' o i = some (gv o i.toNat) := by
  unfold at' gv
  rw [if_pos h0, List.getElem?_eq_getElem h]
  rfl
/-- Two records are joined by a tie with Same. -/
def adj (L : List Tie) (u v : Nat) : Prop := ∃ t ∈ L, t.Same = true ∧ ((t.A.toNat = u ∧ t.B.toNat = v) ∨ (t.A.toNat = v ∧ t.B.toNat = u))
theorem adj.symm {L : List Tie} {u v : Nat} (h : adj L u v) : adj L v u := by
  obtain ⟨t, h1, h2, h3⟩ := h
  exact ⟨t, h1, h2, h3.symm⟩
theorem TIn.rng {n : Nat} {L : List Tie} (h : TIn n L) {t : Tie} (ht : t ∈ L) : t.A.toNat < n ∧ t.B.toNat < n ∧ t.A.toNat ≠ t.B.toNat ∧ ((t.A.toNat : Nat) : Int) = t.A ∧ ((t.B.toNat : Nat) : Int) = t.B := by
  have := h.all t ht
  omega
theorem TIn.adj_lt {n : Nat} {L : List Tie} (h : TIn n L) {u v : Nat} (ha : adj L u v) : u < n ∧ v < n := by
  obtain ⟨t, h1, _, h3⟩ := ha
  have := h.rng h1
  omega
structure Dist (L : List Tie) (n to : Nat) (d : List Int) : Prop where
  len : d.length = n
  zero : gv d to = 0
  low : ∀ v, v < n → -1 ≤ gv d v
  step : ∀ u v, adj L u v → 0 ≤ gv d u → 0 ≤ gv d v ∧ gv d v ≤ gv d u + 1
  back : ∀ v, v < n → 0 < gv d v → ∃ u, adj L u v ∧ gv d u = gv d v - 1
  only : ∀ v, v < n → gv d v = 0 → v = to
theorem Dist.le {L : List Tie} {n to : Nat} {d e : List Int} (hT : TIn n L) (hd : Dist L n to d) (he : Dist L n to e) : ∀ (k : Nat) (v : Nat), v < n → gv e v = k → 0 ≤ gv d v ∧ gv d v ≤ k
  | 0, v, hv, h => by
    have := he.only v hv (by simpa using h)
    subst this
    rw [hd.zero]
    omega
  | k + 1, v, hv, h => by
    obtain ⟨u, h1, h2⟩ := he.back v hv (by omega)
    have hu := (hT.adj_lt h1).1
    have h3 := Dist.le hT hd he k u hu (by omega)
    have h4 := hd.step u v h1 h3.1
    omega
theorem Dist.uniq {L : List Tie} {n to : Nat} {d e : List Int} (hT : TIn n L) (hd : Dist L n to d) (he : Dist L n to e) (v : Nat) (hv : v < n) : gv d v = gv e v := by
  have h1 := hd.low v hv
  have h2 := he.low v hv
  by_cases h3 : 0 ≤ gv e v
  · obtain ⟨k, hk⟩ := Int.eq_ofNat_of_zero_le h3
    have h4 := Dist.le hT hd he k v hv hk
    obtain ⟨j, hj⟩ := Int.eq_ofNat_of_zero_le h4.1
    have h5 := Dist.le hT he hd j v hv hj
    omega
  · by_cases h4 : 0 ≤ gv d v
    · obtain ⟨j, hj⟩ := Int.eq_ofNat_of_zero_le h4
      have h5 := Dist.le hT he hd j v hv hj
      omega
    · omega
/-- What holds of a record and goes over ties holds of all that it reaches, and the other way round. -/
theorem Dist.all {L : List Tie} {n to : Nat} {d : List Int} (hT : TIn n L) (hd : Dist L n to d) (C : Nat → Prop) (hC : ∀ u v, adj L u v → C u → C v) : ∀ (k v : Nat), v < n → gv d v = k → (C to ↔ C v)
  | 0, v, hv, h => by
    have := hd.only v hv (by simpa using h)
    subst this
    exact Iff.rfl
  | k + 1, v, hv, h => by
    obtain ⟨u, h1, h2⟩ := hd.back v hv (by omega)
    rw [Dist.all hT hd C hC k u (hT.adj_lt h1).1 (by omega)]
    exact ⟨hC u v h1, hC v u h1.symm⟩
theorem Dist.reach {L : List Tie} {n a b : Nat} {da db : List Int} (hT : TIn n L) (ha : Dist L n a da) (hb : Dist L n b db) (hbn : b < n) : 0 ≤ gv da b → 0 ≤ gv db a := by
  intro h
  obtain ⟨k, hk⟩ := Int.eq_ofNat_of_zero_le h
  refine (Dist.all hT ha (fun v => 0 ≤ gv db v) (fun u v h1 h2 => (hb.step u v h1 h2).1) k b hbn hk).2 ?_
  show 0 ≤ gv db b
  rw [hb.zero]
  omega
/-- From one record the same are reached as from another one that it reaches. -/
theorem Dist.same {L : List Tie} {n a b : Nat} {da db : List Int} (hT : TIn n L) (ha : Dist L n a da) (hb : Dist L n b db) (_han : a < n) (hbn : b < n) (h : 0 ≤ gv da b) (v : Nat) (hv : v < n) : 0 ≤ gv da v ↔ 0 ≤ gv db v := by
  have h2 := ha.reach hT hb hbn h
  constructor
  · intro h3
    obtain ⟨k, hk⟩ := Int.eq_ofNat_of_zero_le h3
    exact (Dist.all hT ha (fun v => 0 ≤ gv db v) (fun u v h1 h2 => (hb.step u v h1 h2).1) k v hv hk).1 h2
  · intro h3
    obtain ⟨k, hk⟩ := Int.eq_ofNat_of_zero_le h3
    exact (Dist.all hT hb (fun v => 0 ≤ gv da v) (fun u v h1 h2 => (ha.step u v h1 h2).1) k v hv hk).1 h
theorem pigeon : ∀ (n m : Nat) (f : Nat → Nat), (∀ i, i < m → f i < n) → (∀ i j, i < m → j < m → f i = f j → i = j) → m ≤ n
  | 0, m, f, h, _ => by
    rcases Nat.eq_zero_or_pos m with rfl | hm
    · exact Nat.le_refl _
    · exact absurd (h 0 hm) (Nat.not_lt_zero _)
  | n + 1, 0, f, _, _ => Nat.zero_le _
  | n + 1, m + 1, f, h, hi => by
    refine Nat.succ_le_succ (pigeon n m (fun i => if f i = n then f m else f i) (fun i him => ?_) (fun i j him hjm he => ?_))
    · split
      · rename_i h1
        have h2 := h m (by omega)
        have h3 : f m ≠ n := fun h4 => by
          have := hi i m (by omega) (by omega) (h1.trans h4.symm)
          omega
        omega
      · have := h i (by omega)
        omega
    · split at he
      · rename_i h1
        split at he
        · rename_i h2
          exact hi i j (by omega) (by omega) (h1.trans h2.symm)
        · have := hi m j (by omega) (by omega) he
          omega
      · split at he
        · have := hi i m (by omega) (by omega) he
          omega
        · exact hi i j (by omega) (by omega) he
/-- The distances while a round runs: r is the round, P the ties that it has seen. -/
structure Mid (L : List Tie) (n to : Nat) (r : Int) (P : List Tie) (o : List Int) : Prop where
  len : o.length = n
  r0 : 0 ≤ r
  zero : gv o to = 0
  low : ∀ v, v < n → -1 ≤ gv o v ∧ gv o v ≤ r + 1
  back : ∀ v, v < n → 0 < gv o v → ∃ u, adj L u v ∧ gv o u = gv o v - 1
  only : ∀ v, v < n → gv o v = 0 → v = to
  old : ∀ u v, adj L u v → 0 ≤ gv o u → gv o u < r → 0 ≤ gv o v ∧ gv o v ≤ gv o u + 1
  seen : ∀ u v, adj P u v → gv o u = r → 0 ≤ gv o v
def rlx (r : Int) (u v : Nat) (o : List Int) : List Int := bif (gv o u == r) && decide (gv o v < 0) then o.set v (r + 1) else o
theorem relax_len (r : Int) (u v : Nat) (o : List Int) : (rlx r u v o).length = o.length := by
  unfold rlx
  cases (gv o u == r) && decide (gv o v < 0) <;> simp
theorem relax_ge {r : Int} {u v : Nat} {o : List Int} (hv : v < o.length) (_hr : 0 ≤ r) (x : Nat) (h : 0 ≤ gv o x) : gv (rlx r u v o) x = gv o x := by
  unfold rlx
  cases hb : (gv o u == r) && decide (gv o v < 0)
  · rfl
  · simp only [Bool.and_eq_true, beq_iff_eq, decide_eq_true_eq] at hb
    rw [cond_true, gv_set hv, if_neg]
    rintro rfl
    omega
theorem relax_new {r : Int} {u v : Nat} {o : List Int} (hv : v < o.length) (x : Nat) (h : gv (rlx r u v o) x ≠ gv o x) : x = v ∧ gv o u = r ∧ gv o v < 0 ∧ gv (rlx r u v o) x = r + 1 := by
  unfold rlx at h ⊢
  cases hb : (gv o u == r) && decide (gv o v < 0)
  · rw [hb] at h; exact absurd rfl h
  · simp only [Bool.and_eq_true, beq_iff_eq, decide_eq_true_eq] at hb
    rw [hb.1, decide_eq_true hb.2] at h
    simp only [beq_self_eq_true, Bool.and_self, cond_true] at h ⊢
    rw [gv_set hv] at h ⊢
    by_cases hx : v = x
    · subst hx; simp [hb]
    · rw [if_neg hx] at h; exact absurd rfl h
theorem relax_got {r : Int} {u v : Nat} {o : List Int} (hv : v < o.length) (hr : 0 ≤ r) (h : gv o u = r) : 0 ≤ gv (rlx r u v o) v := by
  unfold rlx
  by_cases h2 : gv o v < 0
  · rw [h, decide_eq_true h2]
    simp only [beq_self_eq_true, Bool.and_self, cond_true]
    rw [gv_set hv, if_pos rfl]
    omega
  · rw [decide_eq_false h2, Bool.and_false, cond_false]
    omega
theorem Mid.relax {L : List Tie} {n to : Nat} {r : Int} {P : List Tie} {o : List Int} (h : Mid L n to r P o) (hPL : ∀ t ∈ P, t ∈ L) (hT : TIn n L) {u v : Nat} (ha : adj L u v) : Mid L n to r P (rlx r u v o) := by
  have hv : v < o.length := by rw [h.len]; exact (hT.adj_lt ha).2
  have hun : u < n := (hT.adj_lt ha).1
  have keep := fun x hx => relax_ge (u := u) hv h.r0 x hx
  have new := fun x hx => relax_new (r := r) (u := u) hv x hx
  have vals : ∀ x, x < n → gv (rlx r u v o) x = gv o x ∨ (x = v ∧ gv o u = r ∧ gv o v < 0 ∧ gv (rlx r u v o) x = r + 1) := fun x _ => by
    by_cases hx : gv (rlx r u v o) x = gv o x
    · exact .inl hx
    · exact .inr (new x hx)
  have hr0 := h.r0
  refine ⟨by rw [relax_len, h.len], h.r0, (keep to (by rw [h.zero]; omega)).trans h.zero, fun x hx => ?_, fun x hx h0 => ?_, fun x hx h0 => ?_, fun x y hxy h1 h2 => ?_, fun x y hxy h1 => ?_⟩
  · have := h.low x hx
    rcases vals x hx with e | ⟨_, _, _, e⟩
    · omega
    · omega
  · rcases vals x hx with e | ⟨rfl, e1, _, e⟩
    · obtain ⟨z, h2, h3⟩ := h.back x hx (by omega)
      exact ⟨z, h2, by rw [keep z (by omega)]; omega⟩
    · exact ⟨u, ha, by rw [keep u (by omega)]; omega⟩
  · rcases vals x hx with e | ⟨_, _, _, e⟩
    · exact h.only x hx (by omega)
    · omega
  · have hxn := (hT.adj_lt hxy).1
    rcases vals x hxn with e | ⟨_, _, _, e⟩
    · have := h.old x y hxy (by omega) (by omega)
      rw [keep y this.1]
      omega
    · omega
  · have hxy' : adj L x y := by
      obtain ⟨t, ht, h2, h3⟩ := hxy
      exact ⟨t, hPL t ht, h2, h3⟩
    rcases vals x (hT.adj_lt hxy').1 with e | ⟨_, _, _, e⟩
    · have := h.seen x y hxy (by omega)
      rw [keep y this]
      exact this
    · omega
def tieS (r : Int) (t : Tie) (o : List Int) : List Int := bif t.Same then rlx r t.B.toNat t.A.toNat (rlx r t.A.toNat t.B.toNat o) else o
theorem Mid.tie {L : List Tie} {n to : Nat} {r : Int} {P : List Tie} {o : List Int} (h : Mid L n to r P o) (hPL : ∀ t ∈ P, t ∈ L) (hT : TIn n L) {t : Tie} (ht : t ∈ L) : Mid L n to r (P ++ [t]) (tieS r t o) := by
  unfold tieS
  cases hs : t.Same
  · refine ⟨h.len, h.r0, h.zero, h.low, h.back, h.only, h.old, fun u v ha => ?_⟩
    obtain ⟨x, hx, h2, h3⟩ := ha
    rcases List.mem_append.1 hx with hx | hx
    · exact h.seen u v ⟨x, hx, h2, h3⟩
    · rw [List.mem_singleton.1 hx, hs] at h2
      cases h2
  · rw [cond_true]
    have hab : adj L t.A.toNat t.B.toNat := ⟨t, ht, hs, .inl ⟨rfl, rfl⟩⟩
    have hr := hT.rng ht
    have h1 := h.relax hPL hT hab
    have h2 := h1.relax hPL hT hab.symm
    refine ⟨h2.len, h2.r0, h2.zero, h2.low, h2.back, h2.only, h2.old, fun u v ha hu => ?_⟩
    obtain ⟨x, hx, h4, h5⟩ := ha
    rcases List.mem_append.1 hx with hx | hx
    · exact h2.seen u v ⟨x, hx, h4, h5⟩ hu
    · rw [List.mem_singleton.1 hx] at h5
      have hr0 := h.r0
      have lB : t.B.toNat < o.length := by rw [h.len]; exact hr.2.1
      have lA : t.A.toNat < (rlx r t.A.toNat t.B.toNat o).length := by rw [h1.len]; exact hr.1
      have back1 : ∀ x, gv (rlx r t.A.toNat t.B.toNat o) x = r → gv o x = r := fun x hx => by
        by_cases he : gv (rlx r t.A.toNat t.B.toNat o) x = gv o x
        · omega
        · have := relax_new lB x he
          omega
      have back2 : ∀ x, gv (rlx r t.B.toNat t.A.toNat (rlx r t.A.toNat t.B.toNat o)) x = r → gv (rlx r t.A.toNat t.B.toNat o) x = r := fun x hx => by
        by_cases he : gv (rlx r t.B.toNat t.A.toNat (rlx r t.A.toNat t.B.toNat o)) x = gv (rlx r t.A.toNat t.B.toNat o) x
        · omega
        · have := relax_new lA x he
          omega
      rcases h5 with ⟨rfl, rfl⟩ | ⟨rfl, rfl⟩
      · have h6 := relax_got lB hr0 (back1 _ (back2 _ hu))
        rw [relax_ge lA hr0 _ h6]
        exact h6
      · exact relax_got lA hr0 (back2 _ hu)
theorem Mid.ties {L : List Tie} {n to : Nat} {r : Int} (hT : TIn n L) : ∀ (M P : List Tie) (o : List Int), Mid L n to r P o → (∀ t ∈ P, t ∈ L) → (∀ t ∈ M, t ∈ L) → Mid L n to r (P ++ M) (M.foldl (fun o t => tieS r t o) o)
  | [], P, o, h, _, _ => by simpa using h
  | t :: M, P, o, h, hP, hM => by
    have := Mid.ties hT M (P ++ [t]) _ (h.tie hP hT (hM t (by simp))) (fun x hx => by
      rcases List.mem_append.1 hx with hx | hx
      · exact hP x hx
      · rw [List.mem_singleton.1 hx]; exact hM t (by simp)) (fun x hx => hM x (by simp [hx]))
    rw [List.foldl_cons]
    simpa using this
def farP (n : Nat) (L : List Tie) (to : Nat) (r : Nat) : List Int := (List.range r).foldl (fun o (r : Nat) => L.foldl (fun o t => tieS (r : Int) t o) o) ((List.replicate n (-1)).set to 0)
theorem farP_mid {n : Nat} {L : List Tie} (hT : TIn n L) {to : Nat} (hto : to < n) : ∀ r : Nat, Mid L n to r [] (farP n L to r)
  | 0 => by
    have h0 : ∀ v, v < n → gv (farP n L to 0) v = if to = v then 0 else -1 := fun v hv => by
      unfold farP
      simp only [List.range_zero, List.foldl_nil]
      rw [gv_set (by simpa using hto)]
      split
      · rfl
      · unfold gv
        rw [List.getElem?_replicate, if_pos hv]
        rfl
    refine ⟨by simp [farP], Int.le_refl _, by rw [h0 to hto, if_pos rfl], fun v hv => ?_, fun v hv h => ?_, fun v hv h => ?_, fun u v _ h1 h2 => ?_, fun u v ha => ?_⟩
    · rw [h0 v hv]; split <;> simp
    · rw [h0 v hv] at h; split at h <;> simp at h
    · rw [h0 v hv] at h
      split at h
      · rename_i e; exact e.symm
      · simp at h
    · simp at h2; omega
    · obtain ⟨t, ht, _⟩ := ha
      cases ht
  | r + 1 => by
    have h := Mid.ties hT L [] _ (farP_mid hT hto r) (fun t ht => by cases ht) (fun t ht => ht)
    have e : farP n L to (r + 1) = L.foldl (fun o t => tieS (r : Int) t o) (farP n L to r) := by
      unfold farP
      rw [List.range_succ, List.foldl_append]
      rfl
    rw [← e] at h
    simp only [List.nil_append] at h
    refine ⟨h.len, by omega, h.zero, fun v hv => ?_, h.back, h.only, fun u v ha h1 h2 => ?_, fun u v ha => ?_⟩
    · have := h.low v hv; omega
    · by_cases h3 : gv (farP n L to (r + 1)) u = r
      · have h4 := h.seen u v ha h3
        have := (h.low v (hT.adj_lt ha).2).2
        omega
      · exact h.old u v ha h1 (by omega)
    · obtain ⟨t, ht, _⟩ := ha
      cases ht
theorem farP_dist {n : Nat} {L : List Tie} (hT : TIn n L) {to : Nat} (hto : to < n) : Dist L n to (farP n L to n) := by
  have h := farP_mid hT hto n
  have lev : ∀ (k v : Nat), v < n → gv (farP n L to n) v = k → ∀ j, j ≤ k → ∃ w, w < n ∧ gv (farP n L to n) w = (j : Nat) := by
    intro k
    induction k with
    | zero => exact fun v hv hk j hj => ⟨v, hv, by rw [hk]; simp; omega⟩
    | succ k ih =>
      intro v hv hk j hj
      by_cases h1 : j = k + 1
      · exact ⟨v, hv, by rw [hk, h1]⟩
      · obtain ⟨u, h2, h3⟩ := h.back v hv (by omega)
        exact ih u (hT.adj_lt h2).1 (by omega) j (by omega)
  have top : ∀ v, v < n → gv (farP n L to n) v < n := by
    intro v hv
    by_cases h0 : 0 ≤ gv (farP n L to n) v
    · obtain ⟨k, hk⟩ := Int.eq_ofNat_of_zero_le h0
      have hf : ∀ j, ∃ w, j ≤ k → w < n ∧ gv (farP n L to n) w = (j : Nat) := fun j => by
        by_cases hj : j ≤ k
        · obtain ⟨w, hw⟩ := lev k v hv hk j hj
          exact ⟨w, fun _ => hw⟩
        · exact ⟨0, fun h => absurd h hj⟩
      have := pigeon n (k + 1) (fun j => (hf j).choose) (fun i hi => ((hf i).choose_spec (by omega)).1) (fun i j hi hj he => by
        have h1 := ((hf i).choose_spec (by omega)).2
        have h2 := ((hf j).choose_spec (by omega)).2
        rw [he, h2] at h1
        omega)
      omega
    · omega
  exact ⟨h.len, h.zero, fun v hv => (h.low v hv).1, fun u v ha h1 => h.old u v ha h1 (top u (hT.adj_lt ha).1), h.back, h.only⟩
end Go.Proofs.YtojhgfkohbfhhaaDoor.Sh
