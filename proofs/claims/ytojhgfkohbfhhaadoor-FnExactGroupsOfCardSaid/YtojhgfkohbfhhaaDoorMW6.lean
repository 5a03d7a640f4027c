/- The first refuted tie, of both; the reference's numbers of steps; no condition but ties within the records. -/
import Derived.Test.YtojhgfkohbfhhaaDoorMW5
namespace Go.Proofs.YtojhgfkohbfhhaaDoor.Sh
open Go.RowKit Go.Lib
def wrongP (n : Nat) (L : List Tie) (t : Tie) : Bool := !t.Same && rch (farP n L t.A.toNat n) t.B.toNat
theorem Dist.top {L : List Tie} {n to : Nat} {d : List Int} (hT : TIn n L) (h : Dist L n to d) : ∀ v, v < n → gv d v < n := by
  have lev : ∀ (k v : Nat), v < n → gv d v = k → ∀ j, j ≤ k → ∃ w, w < n ∧ gv d w = (j : Nat) := by
    intro k
    induction k with
    | zero => exact fun v hv hk j hj => ⟨v, hv, by rw [hk]; simp; omega⟩
    | succ k ih =>
      intro v hv hk j hj
      by_cases h1 : j = k + 1
      · exact ⟨v, hv, by rw [hk, h1]⟩
      · obtain ⟨u, h2, h3⟩ := h.back v hv (by omega)
        exact ih u (hT.adj_lt h2).1 (by omega) j (by omega)
  intro v hv
  by_cases h0 : 0 ≤ gv d v
  · obtain ⟨k, hk⟩ := Int.eq_ofNat_of_zero_le h0
    have hf : ∀ j, ∃ w, j ≤ k → w < n ∧ gv d w = (j : Nat) := fun j => by
      by_cases hj : j ≤ k
      · obtain ⟨w, hw⟩ := lev k v hv hk j hj
        exact ⟨w, fun _ => hw⟩
      · exact ⟨0, fun h => absurd h hj⟩
    have := pigeon n (k + 1) (fun j => (hf j).choose) (fun i hi => ((hf i).choose_spec (by omega)).1) (fun i j hi hj he => by
      have h1 := ((hf i).choose_spec (by omega)).2
      have h2 := ((hf j).choose_spec (by omega)).2
      rw [he, h2] at h1
      omega)
    omega
  · omega
/-- The numbers of steps while a round runs. -/
structure St (L : List Tie) (n : Nat) (d : List Int) (r : Int) (P : List Tie) (s : List Int) : Prop where
  len : s.length = n
  rng : ∀ v, v < n → 0 ≤ gv s v ∧ gv s v ≤ 12
  low : ∀ v, v < n → 0 ≤ gv d v → gv d v ≤ gv s v
  old : ∀ v, v < n → 0 ≤ gv d v → gv d v ≤ r → gv s v = gv d v
  seen : ∀ u v, adj P u v → 0 ≤ gv d u → gv d u = r → gv d v = r + 1 → gv s v = gv d v
def updT (s : List Int) (t : Tie) : List Int := bif t.Same then (s.set t.A.toNat (minI (gv s t.A.toNat) (gv s t.B.toNat + 1))).set t.B.toNat (minI (gv s t.B.toNat) (minI (gv s t.A.toNat) (gv s t.B.toNat + 1) + 1)) else s
theorem St.tie {L : List Tie} {n to : Nat} {d : List Int} {r : Int} {P : List Tie} {s : List Int} (hT : TIn n L) (hd : Dist L n to d) (h : St L n d r P s) (hPL : ∀ t ∈ P, t ∈ L) {t : Tie} (ht : t ∈ L) : St L n d r (P ++ [t]) (updT s t) := by
  have hr := hT.rng ht
  unfold updT
  cases hs : t.Same
  · refine ⟨h.len, h.rng, h.low, h.old, fun u v ha h0 h1 h2 => ?_⟩
    obtain ⟨x, hx, h3, h4⟩ := ha
    rcases List.mem_append.1 hx with hx | hx
    · exact h.seen u v ⟨x, hx, h3, h4⟩ h0 h1 h2
    · rw [List.mem_singleton.1 hx, hs] at h3
      cases h3
  · rw [cond_true]
    have hab : adj L t.A.toNat t.B.toNat := ⟨t, ht, hs, .inl ⟨rfl, rfl⟩⟩
    generalize hA : t.A.toNat = a at *
    generalize hB : t.B.toNat = b at *
    have la : a < s.length := by rw [h.len]; exact hr.1
    have lb : b < (s.set a (minI (gv s a) (gv s b + 1))).length := by rw [List.length_set, h.len]; exact hr.2.1
    have ra := h.rng a hr.1
    have rb := h.rng b hr.2.1
    have da := h.low a hr.1
    have db := h.low b hr.2.1
    have sab := hd.step a b hab
    have sba := hd.step b a hab.symm
    have val : ∀ v, gv ((s.set a (minI (gv s a) (gv s b + 1))).set b (minI (gv s b) (minI (gv s a) (gv s b + 1) + 1))) v = if b = v then minI (gv s b) (minI (gv s a) (gv s b + 1) + 1) else if a = v then minI (gv s a) (gv s b + 1) else gv s v := fun v => by
      rw [gv_set lb, gv_set la]
    have ea : minI (gv s a) (gv s b + 1) ≤ gv s a ∧ minI (gv s a) (gv s b + 1) ≤ gv s b + 1 ∧ (minI (gv s a) (gv s b + 1) = gv s a ∨ minI (gv s a) (gv s b + 1) = gv s b + 1) := by
      unfold minI
      split <;> omega
    generalize minI (gv s a) (gv s b + 1) = a' at *
    have eb : minI (gv s b) (a' + 1) ≤ gv s b ∧ minI (gv s b) (a' + 1) ≤ a' + 1 ∧ (minI (gv s b) (a' + 1) = gv s b ∨ minI (gv s b) (a' + 1) = a' + 1) := by
      unfold minI
      split <;> omega
    generalize minI (gv s b) (a' + 1) = b' at *
    have la' : 0 ≤ gv d a → gv d a ≤ a' := fun h0 => by
      have := sab h0
      have := da h0
      have := db (by omega)
      have := sba (by omega)
      omega
    have lb' : 0 ≤ gv d b → gv d b ≤ b' := fun h0 => by
      have := sba h0
      have := db h0
      have := la' (by omega)
      have := sab (by omega)
      omega
    have hle : ∀ v, v < n → gv ((s.set a a').set b b') v ≤ gv s v := fun v hv => by
      rw [val]
      split
      · rename_i e; subst e; omega
      · split
        · rename_i e; subst e; omega
        · omega
    have hlow : ∀ v, v < n → 0 ≤ gv d v → gv d v ≤ gv ((s.set a a').set b b') v := fun v hv h0 => by
      rw [val]
      split
      · rename_i e; subst e; exact lb' h0
      · split
        · rename_i e; subst e; exact la' h0
        · exact h.low v hv h0
    refine ⟨by simp [h.len], fun v hv => ?_, hlow, fun v hv h0 h1 => ?_, fun u v ha h0 h1 h2 => ?_⟩
    · have := h.rng v hv
      rw [val]
      split
      · omega
      · split <;> omega
    · have := h.old v hv h0 h1
      have := hle v hv
      have := hlow v hv h0
      omega
    · obtain ⟨x, hx, h3, h4⟩ := ha
      rcases List.mem_append.1 hx with hx | hx
      · have hv : v < n := (hT.adj_lt (u := u) (v := v) ⟨x, hPL x hx, h3, h4⟩).2
        have := h.seen u v ⟨x, hx, h3, h4⟩ h0 h1 h2
        have := hle v hv
        have := hlow v hv (by omega)
        omega
      · rw [List.mem_singleton.1 hx, hA, hB] at h4
        rcases h4 with ⟨rfl, rfl⟩ | ⟨rfl, rfl⟩
        · have h5 := h.old a hr.1 h0 (by omega)
          have h6 := hlow b hr.2.1 (by omega)
          rw [val, if_pos rfl] at h6 ⊢
          omega
        · have h5 := h.old b hr.2.1 h0 (by omega)
          have h6 := hlow a hr.1 (by omega)
          rw [val, if_neg (fun e => hr.2.2.1 e.symm), if_pos rfl] at h6 ⊢
          omega
theorem St.ties {L : List Tie} {n to : Nat} {d : List Int} {r : Int} (hT : TIn n L) (hd : Dist L n to d) : ∀ (M P : List Tie) (s : List Int), St L n d r P s → (∀ t ∈ P, t ∈ L) → (∀ t ∈ M, t ∈ L) → St L n d r (P ++ M) (M.foldl updT s)
  | [], P, s, h, _, _ => by simpa using h
  | t :: M, P, s, h, hP, hM => by
    have := St.ties hT hd M (P ++ [t]) _ (St.tie hT hd h hP (hM t (by simp))) (fun x hx => by
      rcases List.mem_append.1 hx with hx | hx
      · exact hP x hx
      · rw [List.mem_singleton.1 hx]; exact hM t (by simp)) (fun x hx => hM x (by simp [hx]))
    rw [List.foldl_cons]
    simpa using this
theorem St.round {L : List Tie} {n to : Nat} {d : List Int} {r : Int} (hT : TIn n L) (hd : Dist L n to d) (hr : 0 ≤ r) {s : List Int} (h : St L n d r [] s) : St L n d (r + 1) [] (L.foldl updT s) := by
  have h1 := St.ties hT hd L [] s h (fun t ht => by cases ht) (fun t ht => ht)
  rw [List.nil_append] at h1
  refine ⟨h1.len, h1.rng, h1.low, fun v hv h0 h2 => ?_, fun u v ha => ?_⟩
  · by_cases h3 : gv d v ≤ r
    · exact h1.old v hv h0 h3
    · obtain ⟨u, h4, h5⟩ := hd.back v hv (by omega)
      exact h1.seen u v h4 (by omega) (by omega) (by omega)
  · obtain ⟨t, ht, _⟩ := ha
    cases ht
end Go.Proofs.YtojhgfkohbfhhaaDoor.Sh
