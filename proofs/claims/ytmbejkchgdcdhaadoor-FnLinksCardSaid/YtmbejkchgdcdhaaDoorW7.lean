/- The proofs that two records are one, of both; no condition but ties within the records. -/
import Derived.Test.YtmbejkchgdcdhaaDoorW6
namespace Go.Proofs.YtmbejkchgdcdhaaDoor.Sh
open Go.RowKit Go.Lib
theorem firstI_some {α A : Type} {p : Nat → α → Bool} {a : Nat → α → A} : ∀ {L : List α} {k : Nat} {r : A}, firstI p a L k = some r → ∃ j x, L[j]? = some x ∧ p (k + j) x = true ∧ r = a (k + j) x
  | [], _, _, h => by cases h
  | x :: l, k, r, h => by
    unfold firstI at h
    cases hp : p k x
    · rw [hp] at h
      obtain ⟨j, y, h1, h2, h3⟩ := firstI_some (L := l) (k := k + 1) h
      exact ⟨j + 1, y, by simpa using h1, by rw [show k + (j + 1) = k + 1 + j from by omega]; exact h2, by rw [show k + (j + 1) = k + 1 + j from by omega]; exact h3⟩
    · rw [hp] at h
      injection h with h
      exact ⟨0, x, rfl, hp, h.symm⟩
theorem firstI_none {α A : Type} {p : Nat → α → Bool} {a : Nat → α → A} : ∀ {L : List α} {k : Nat}, firstI p a L k = none → ∀ j x, L[j]? = some x → p (k + j) x = false
  | [], _, _, j, x, hx => by simp at hx
  | y :: l, k, h, j, x, hx => by
    unfold firstI at h
    cases hp : p k y
    · rw [hp] at h
      cases j with
      | zero => simp at hx; subst hx; exact hp
      | succ j =>
        have := firstI_none (L := l) (k := k + 1) h j x (by simpa using hx)
        rwa [show k + 1 + j = k + (j + 1) from by omega] at this
    · rw [hp] at h
      cases h
/-- A tie leads from a to a record that is nearer. -/
def leads (d : List Int) (a : Nat) (t : Tie) : Bool := t.Same && ((t.A == (a : Int) && gv d t.B.toNat == gv d a - 1) || (t.B == (a : Int) && gv d t.A.toNat == gv d a - 1))
def other (a : Nat) (t : Tie) : Int := bif t.A == (a : Int) then t.B else t.A
def nextP (L : List Tie) (d : List Int) (a : Nat) : Option (Int × Int) := firstI (fun _ t => leads d a t) (fun i t => ((i : Int), other a t)) L 0
theorem nextP_some {L : List Tie} {n to : Nat} {d : List Int} (hT : TIn n L) (hd : Dist L n to d) {a : Nat} (ha : a < n) (h : 0 < gv d a) : ∃ (i : Int) (b : Nat), nextP L d a = some (i, (b : Int)) ∧ b < n ∧ gv d b = gv d a - 1 := by
  cases hn : nextP L d a with
  | none =>
    exfalso
    obtain ⟨u, ⟨t, ht, hs, h1⟩, h2⟩ := hd.back a ha h
    obtain ⟨j, hj⟩ := List.mem_iff_getElem?.1 ht
    have h3 := firstI_none hn j t hj
    have hr := hT.rng ht
    unfold leads at h3
    rw [hs, Bool.true_and] at h3
    rcases h1 with ⟨h4, h5⟩ | ⟨h4, h5⟩
    · have h6 : (t.B == (a : Int) && gv d t.A.toNat == gv d a - 1) = true := by
        rw [h4, h2, beq_self_eq_true, Bool.and_true, beq_iff_eq, ← h5]
        exact hr.2.2.2.2.symm
      rw [h6, Bool.or_true] at h3
      cases h3
    · have h6 : (t.A == (a : Int) && gv d t.B.toNat == gv d a - 1) = true := by
        rw [h5, h2, beq_self_eq_true, Bool.and_true, beq_iff_eq, ← h4]
        exact hr.2.2.2.1.symm
      rw [h6, Bool.true_or] at h3
      cases h3
  | some r =>
    obtain ⟨j, t, h1, h2, rfl⟩ := firstI_some hn
    have ht := List.mem_of_getElem? h1
    have hr := hT.rng ht
    unfold leads at h2
    simp only [Bool.and_eq_true, Bool.or_eq_true, beq_iff_eq] at h2
    unfold other
    rcases h2.2 with ⟨h3, h4⟩ | ⟨h3, h4⟩
    · exact ⟨_, t.B.toNat, by rw [h3, beq_self_eq_true, cond_true, hr.2.2.2.2], hr.2.1, h4⟩
    · have h5 : (t.A == (a : Int)) = false := by
        rw [beq_eq_false_iff_ne]
        omega
      exact ⟨_, t.A.toNat, by rw [h5, cond_false, hr.2.2.2.1], hr.1, h4⟩
theorem forN_two {A : Type} (B : Int → Unit → Option (Unit ⊕ A)) (D : Unit → A) : forN 2 B D 0 () = (B 0 ()).bind (Sum.elim (fun s => (B 1 s).bind (Sum.elim (fun s => some (D s)) some)) some) := by
  have := forN_iter 2 (by omega) B D ()
  exact this
theorem step_eq {L : List Tie} {n to : Nat} {d : List Int} (hT : TIn n L) (hd : Dist L n to d) {a : Nat} (ha : a < n) (h : 0 < gv d a) (hdl : gv d a ≤ 1000) : impl_step L d (a : Int) = match nextP L d a with | some r => some r | none => some (0, (a : Int)) := by
  have hL := hT.len
  unfold impl_step nextP
  rw [loop_first (by omega) (fun _ t => leads d a t) (fun i t => ((i : Int), other a t)) (fun i x hx => ?_)]
  · cases firstI (fun _ t => leads d a t) (fun i t => ((i : Int), other a t)) L 0 <;> rfl
  have hxL := List.mem_of_getElem? hx
  have hr := hT.rng hxL
  have hr2 := hT.all x hxL
  rw [at_nat, hx, Option.bind_some, forN_two, gv_at (i := (a : Int)) (by omega) (by rw [hd.len]; simpa using ha)]
  have e9 : w64 (gv d a - 1) = gv d a - 1 := w64_id (by omega) (by omega)
  have c0 : ((0 : Int) == 0) = true := rfl
  have c1 : ((1 : Int) == 0) = false := rfl
  have t0 : two' 0 = some () := two_ok (i := 0) (by omega)
  have t1 : two' 1 = some () := two_ok (i := 1) (by omega)
  simp only [t0, t1, c0, c1, cond_true, cond_false, Option.bind_some, Int.toNat_natCast, e9]
  rw [gv_at (i := x.B) (by omega) (by rw [hd.len]; exact hr.2.1), gv_at (i := x.A) (by omega) (by rw [hd.len]; exact hr.1)]
  unfold leads other
  cases x.Same
  · rfl
  · simp only [cond_true, Option.bind_some, Bool.true_and]
    cases h1 : (x.A == (a : Int))
    · simp only [cond_false, Option.bind_some, Bool.false_and, Bool.false_or, Sum.elim_inl]
      cases h2 : (x.B == (a : Int))
      · rfl
      · simp only [cond_true, Option.bind_some, Bool.true_and]
        cases gv d x.A.toNat == gv d a - 1 <;> rfl
    · have h2 : (x.B == (a : Int)) = false := by
        rw [beq_eq_false_iff_ne]
        rw [beq_iff_eq] at h1
        omega
      simp only [cond_true, Option.bind_some, Bool.true_and, h2, Bool.false_and, Bool.or_false, cond_false]
      cases gv d x.B.toNat == gv d a - 1 <;> rfl
/-- The reference's search for the next tie. -/
theorem seek_eq {L : List Tie} {n to : Nat} {d s : List Int} (hT : TIn n L) (hd : Dist L n to d) (hs : s.length = n) (hsd : ∀ v, v < n → 0 ≤ gv d v → gv s v = gv d v) (hs2 : ∀ v, v < n → 0 ≤ gv s v ∧ gv s v ≤ 12) {a : Nat} (ha : a < n) (h : 0 < gv d a) (acc : List Int) (hacc : acc.length ≤ 1000) :
    forN (L.length : Int) (fun (i31 : Int) (s31 : Int × (List Int)) => ((at' L i31).bind fun x35 => (((bif x35.Same then (bif (x35.A == s31.1) then ((at' s (w64 ((w64 (x35.A + x35.B)) - s31.1))).bind fun x36 => ((at' s s31.1).bind fun x37 => some (x36 == (w64 (x37 - 1))))) else (bif (x35.B == s31.1) then ((at' s (w64 ((w64 (x35.A + x35.B)) - s31.1))).bind fun x38 => ((at' s s31.1).bind fun x39 => some (x38 == (w64 (x39 - 1))))) else some false)) else some false)).bind fun (j40 : Bool) => (bif j40 then ((app' s31.2 ([i31] : List Int)).bind fun x42 => some (.inr (.inl ((w64 ((w64 (x35.A + x35.B)) - s31.1)), x42)))) else some (.inl (s31.1, s31.2)))))) (fun (s31 : Int × (List Int)) => (.inl (s31.1, s31.2) : (Int × List Int) ⊕ List Int)) 0 ((a : Int), acc)
      = match nextP L d a with | some r => some (.inl (r.2, acc ++ [r.1])) | none => some (.inl ((a : Int), acc)) := by
  have hL := hT.len
  have hn := hT.le
  have key : ∀ (M : List Tie) (k : Nat), (∀ t ∈ M, t ∈ L) → k + M.length ≤ 100 → overI (fun (i : Nat) (x35 : Tie) (s31 : Int × (List Int)) => (((bif x35.Same then (bif (x35.A == s31.1) then ((at' s (w64 ((w64 (x35.A + x35.B)) - s31.1))).bind fun x36 => ((at' s s31.1).bind fun x37 => some (x36 == (w64 (x37 - 1))))) else (bif (x35.B == s31.1) then ((at' s (w64 ((w64 (x35.A + x35.B)) - s31.1))).bind fun x38 => ((at' s s31.1).bind fun x39 => some (x38 == (w64 (x39 - 1))))) else some false)) else some false)).bind fun (j40 : Bool) => (bif j40 then ((app' s31.2 ([(i : Int)] : List Int)).bind fun x42 => some (.inr (.inl ((w64 ((w64 (x35.A + x35.B)) - s31.1)), x42)))) else some (.inl (s31.1, s31.2))))) (fun (s31 : Int × (List Int)) => (.inl (s31.1, s31.2) : (Int × List Int) ⊕ List Int)) M k ((a : Int), acc)
      = match firstI (fun _ t => leads d a t) (fun i t => ((i : Int), other a t)) M k with | some r => some (.inl (r.2, acc ++ [r.1])) | none => some (.inl ((a : Int), acc)) := by
    intro M
    induction M with
    | nil => intro k _ _; rfl
    | cons x M ih =>
      intro k hM hk
      have hr := hT.rng (hM x (by simp))
      have hr2 := hT.all x (hM x (by simp))
      have ih2 := ih (k + 1) (fun t ht => hM t (by simp [ht])) (by simp at hk; omega)
      have e1 : w64 (x.A + x.B) = x.A + x.B := w64_id (by omega) (by omega)
      have e2 : w64 (x.A + x.B - (a : Int)) = x.A + x.B - (a : Int) := w64_id (by omega) (by omega)
      have hra := hs2 a ha
      have e3 : w64 (gv s a - 1) = gv s a - 1 := w64_id (by omega) (by omega)
      unfold overI firstI
      simp only [e1, e2]
      rw [gv_at (i := (a : Int)) (by omega) (by rw [hs]; simpa using ha)]
      simp only [Option.bind_some, Int.toNat_natCast, e3]
      have fin : ∀ (b : Bool) (y : Int), leads d a x = b → (b = true → other a x = y) → ((some b).bind fun (j40 : Bool) => (bif j40 then ((app' acc ([(k : Int)] : List Int)).bind fun x42 => some (.inr (.inl (y, x42)))) else (some (.inl ((a : Int), acc)) : Option ((Int × List Int) ⊕ ((Int × List Int) ⊕ List Int))))).bind (Sum.elim (overI (fun (i : Nat) (x35 : Tie) (s31 : Int × (List Int)) => (((bif x35.Same then (bif (x35.A == s31.1) then ((at' s (w64 ((w64 (x35.A + x35.B)) - s31.1))).bind fun x36 => ((at' s s31.1).bind fun x37 => some (x36 == (w64 (x37 - 1))))) else (bif (x35.B == s31.1) then ((at' s (w64 ((w64 (x35.A + x35.B)) - s31.1))).bind fun x38 => ((at' s s31.1).bind fun x39 => some (x38 == (w64 (x39 - 1))))) else some false)) else some false)).bind fun (j40 : Bool) => (bif j40 then ((app' s31.2 ([(i : Int)] : List Int)).bind fun x42 => some (.inr (.inl ((w64 ((w64 (x35.A + x35.B)) - s31.1)), x42)))) else some (.inl (s31.1, s31.2))))) (fun (s31 : Int × (List Int)) => (.inl (s31.1, s31.2) : (Int × List Int) ⊕ List Int)) M (k + 1)) some) = match bif leads d a x then some (((k : Nat) : Int), other a x) else firstI (fun _ t => leads d a t) (fun i t => ((i : Int), other a t)) M (k + 1) with | some r => some (.inl (r.2, acc ++ [r.1])) | none => some (.inl ((a : Int), acc)) := by
        intro b y hb hy
        rw [hb]
        cases b
        · exact ih2
        · simp only [Option.bind_some, cond_true]
          rw [app_ok (by simp; omega), hy rfl]
          rfl
      cases hs1 : x.Same
      · exact fin false _ (by unfold leads; rw [hs1]; rfl) (fun h => by cases h)
      · simp only [cond_true]
        cases h1 : (x.A == (a : Int))
        · simp only [cond_false]
          cases h2 : (x.B == (a : Int))
          · exact fin false _ (by unfold leads; rw [hs1, h1, h2]; rfl) (fun h => by cases h)
          · have h3 := eq_of_beq h2
            have e4 : x.A + x.B - (a : Int) = x.A := by omega
            rw [cond_true, e4, gv_at (i := x.A) (by omega) (by rw [hs]; exact hr.1), Option.bind_some]
            refine fin _ _ ?_ (fun _ => by unfold other; rw [h1]; rfl)
            have hadj : adj L a x.A.toNat := ⟨x, hM x (by simp), hs1, .inr ⟨rfl, by omega⟩⟩
            have h5 := hd.step _ _ hadj (by omega)
            unfold leads
            rw [hs1, h1, h2, hsd a ha (by omega), hsd _ hr.1 h5.1]
            simp
        · have h3 := eq_of_beq h1
          have e4 : x.A + x.B - (a : Int) = x.B := by omega
          have h2 : (x.B == (a : Int)) = false := by
            rw [beq_eq_false_iff_ne]
            omega
          rw [cond_true, e4, gv_at (i := x.B) (by omega) (by rw [hs]; exact hr.2.1), Option.bind_some]
          refine fin _ _ ?_ (fun _ => by unfold other; rw [h1]; rfl)
          have hadj : adj L a x.B.toNat := ⟨x, hM x (by simp), hs1, .inl ⟨by omega, rfl⟩⟩
          have h5 := hd.step _ _ hadj (by omega)
          unfold leads
          rw [hs1, h1, h2, hsd a ha (by omega), hsd _ hr.2.1 h5.1]
          simp
  rw [forN_at L (by omega), key L 0 (fun t ht => ht) (by omega)]
  rfl
/-- Both proofs: the same, and short. -/
theorem proofs_eq {n a b : Nat} {L : List Tie} (hT : TIn n L) (han : a < n) (hbn : b < n) {d : List Int} (hd : Dist L n b d) (hf : impl_far (n : Int) L (b : Int) = some d) (h : 0 ≤ gv d a) : ∃ r : List Int, impl_proofOf (n : Int) L (a : Int) (b : Int) = some r ∧ spec_l31Proof (n : Int) L (a : Int) (b : Int) = some r ∧ r.length ≤ 100 := by
  have hL := hT.len
  have hn := hT.le
  unfold impl_proofOf spec_l31Proof
  rw [hf, Option.bind_some, make_ok 0 (by omega), Option.bind_some]
  -- all steps are 12 at first
  have h12 : ∃ r, forS (n : Int) (fun (i4 : Int) (s4 : (List Int)) => ((at' s4 i4).bind fun x8 => some (List.set s4 (Int.toNat i4) 12))) (fun (s4 : (List Int)) => s4) 0 (List.replicate n (0 : Int)) = some r ∧ (r.length = n ∧ ∀ v, v < n → gv r v = 12) := by
    rw [forS_forN, forN_iter n (by omega)]
    refine iterN_inv (fun k (s : List Int) => s.length = n ∧ ∀ v, v < k → v < n → gv s v = 12) _ n 0 _ (fun i s _ hi hs => .inl ⟨s.set i 12, ?_, by simp [hs.1], fun v hv hvn => ?_⟩) (fun s hs => ⟨hs.1, fun v hv => hs.2 v (by omega) hv⟩) ⟨by simp, fun v hv => absurd hv (Nat.not_lt_zero _)⟩
    · rw [gv_at (by omega) (by rw [hs.1]; simpa using (show i < n by omega))]
      rfl
    · rw [gv_set (by rw [hs.1]; omega)]
      split
      · rfl
      · exact hs.2 v (by omega) hvn
  obtain ⟨s0, e0, l0, v0⟩ := h12
  rw [e0, Option.bind_some, gv_at (by omega) (by rw [l0]; simpa using hbn), Option.bind_some, Int.toNat_natCast]
  have hst0 : St L n d 0 [] (s0.set b 0) := by
    have val : ∀ v, v < n → gv (s0.set b 0) v = if b = v then 0 else 12 := fun v hv => by
      rw [gv_set (by rw [l0]; exact hbn), v0 v hv]
    refine ⟨by simp [l0], fun v hv => ?_, fun v hv h0 => ?_, fun v hv h0 h1 => ?_, fun u v ha => ?_⟩
    · rw [val v hv]; split <;> omega
    · rw [val v hv]
      have := hd.top hT v hv
      split
      · rename_i e; subst e; rw [hd.zero]; omega
      · omega
    · have := hd.only v hv (by omega)
      subst this
      rw [val v hv, if_pos rfl, hd.zero]
    · obtain ⟨t, ht, _⟩ := ha
      cases ht
  have hst : ∃ s, forS (n : Int) (fun (i12 : Int) (s12 : (List Int)) => (forS (L.length : Int) (fun (i16 : Int) (s16 : (List Int)) => ((at' L i16).bind fun x20 => (bif x20.Same then ((at' s16 x20.A).bind fun x21 => ((at' s16 x20.B).bind fun x22 => ((at' s16 x20.A).bind fun x23 => ((at' (List.set s16 (Int.toNat x20.A) (minI x21 (w64 (x22 + 1)))) x20.B).bind fun x24 => ((at' (List.set s16 (Int.toNat x20.A) (minI x21 (w64 (x22 + 1)))) x20.A).bind fun x25 => ((at' (List.set s16 (Int.toNat x20.A) (minI x21 (w64 (x22 + 1)))) x20.B).bind fun x26 => some (List.set (List.set s16 (Int.toNat x20.A) (minI x21 (w64 (x22 + 1)))) (Int.toNat x20.B) (minI x24 (w64 (x25 + 1)))))))))) else some s16))) (fun (s16 : (List Int)) => s16) 0 s12)) (fun (s12 : (List Int)) => s12) 0 (s0.set b 0) = some s ∧ St L n d n [] s := by
    rw [forS_forN, forN_iter n (by omega)]
    refine iterN_inv (fun k (s : List Int) => St L n d k [] s) _ n 0 _ (fun i s _ hi hs => .inl ⟨L.foldl updT s, ?_, ?_⟩) (fun s hs => by simpa using hs) hst0
    · rw [(forS_foldl_list (by omega) (fun (s : List Int) => s.length = n ∧ ∀ v, v < n → 0 ≤ gv s v ∧ gv s v ≤ 12) updT s (fun j x s hx hs => ?_) ⟨hs.len, hs.rng⟩).1]
      · rfl
      · have hxL := List.mem_of_getElem? hx
        have hr := hT.rng hxL
        have hr2 := hT.all x hxL
        rw [at_nat, hx, Option.bind_some]
        unfold updT
        cases x.Same
        · exact ⟨rfl, hs⟩
        · have ra := hs.2 _ hr.1
          have rb := hs.2 _ hr.2.1
          have la : x.A.toNat < s.length := by rw [hs.1]; exact hr.1
          have hm : 0 ≤ minI (gv s x.A.toNat) (gv s x.B.toNat + 1) ∧ minI (gv s x.A.toNat) (gv s x.B.toNat + 1) ≤ 12 := by unfold minI; split <;> omega
          rw [gv_at (o := s) (by omega) (by rw [hs.1]; exact hr.1), gv_at (o := s) (by omega) (by rw [hs.1]; exact hr.2.1)]
          simp only [cond_true, Option.bind_some]
          rw [w64_id (n := gv s x.B.toNat + 1) (by omega) (by omega)]
          rw [gv_at (o := s.set _ _) (i := x.B) (by omega) (by simp [hs.1]; omega), gv_at (o := s.set _ _) (i := x.A) (by omega) (by simp [hs.1]; omega)]
          simp only [Option.bind_some]
          rw [gv_set la, gv_set la, if_pos rfl, if_neg hr.2.2.1, w64_id (by omega) (by omega)]
          refine ⟨rfl, by simp [hs.1], fun v hv => ?_⟩
          rw [gv_set (by simpa [hs.1] using hr.2.1), gv_set la]
          have := hs.2 v hv
          split
          · unfold minI at *; split <;> omega
          · split
            · exact hm
            · exact this
    · have := hs.round hT hd (by omega)
      simpa using this
  obtain ⟨s, e1, hs⟩ := hst
  rw [e1, Option.bind_some]
  have hsd : ∀ v, v < n → 0 ≤ gv d v → gv s v = gv d v := fun v hv h0 => hs.old v hv h0 (by have := hd.top hT v hv; omega)
  have both : ∀ (k : Nat) (a : Nat) (acc : List Int), a < n → gv d a = k → acc.length + k ≤ 50 → ∃ r : List Int,
      loop (fun (s4 : Int × (List Int)) => (bif (s4.1 != (b : Int)) then ((impl_step L d s4.1).bind fun x6 => ((app' s4.2 ([x6.1] : List Int)).bind fun x7 => some (.inl (x6.2, x7)))) else some (.inr s4.2))) ((a : Int), acc) = some r ∧
      loop (fun (s29 : Int × (List Int)) => (bif (s29.1 != (b : Int)) then (forN (L.length : Int) (fun (i31 : Int) (s31 : Int × (List Int)) => ((at' L i31).bind fun x35 => (((bif x35.Same then (bif (x35.A == s31.1) then ((at' s (w64 ((w64 (x35.A + x35.B)) - s31.1))).bind fun x36 => ((at' s s31.1).bind fun x37 => some (x36 == (w64 (x37 - 1))))) else (bif (x35.B == s31.1) then ((at' s (w64 ((w64 (x35.A + x35.B)) - s31.1))).bind fun x38 => ((at' s s31.1).bind fun x39 => some (x38 == (w64 (x39 - 1))))) else some false)) else some false)).bind fun (j40 : Bool) => (bif j40 then ((app' s31.2 ([i31] : List Int)).bind fun x42 => some (.inr (.inl ((w64 ((w64 (x35.A + x35.B)) - s31.1)), x42)))) else some (.inl (s31.1, s31.2)))))) (fun (s31 : Int × (List Int)) => .inl (s31.1, s31.2)) 0 (s29.1, s29.2)) else some (.inr s29.2))) ((a : Int), acc) = some r ∧ r.length ≤ 50 := by
    intro k
    induction k with
    | zero =>
      intro a acc ha hk hacc
      have := hd.only a ha (by simpa using hk)
      subst this
      refine ⟨acc, ?_, ?_, by omega⟩
      · rw [loop_eq]
        simp
      · rw [loop_eq]
        simp
    | succ k ih =>
      intro a acc ha hk hacc
      have hne : ((a : Int) != (b : Int)) = true := by
        rw [bne_iff_ne]
        intro e
        have e2 : a = b := by omega
        subst e2
        rw [hd.zero] at hk
        omega
      obtain ⟨i, c, h1, h2, h3⟩ := nextP_some hT hd ha (by omega)
      obtain ⟨r, r1, r2, r3⟩ := ih c (acc ++ [i]) h2 (by omega) (by simp; omega)
      refine ⟨r, ?_, ?_, r3⟩
      · rw [loop_eq]
        dsimp only
        rw [hne, cond_true, step_eq hT hd ha (by omega) (by omega), h1]
        simp only [Option.bind_some]
        rw [app_ok (by simp; omega)]
        exact r1
      · rw [loop_eq]
        dsimp only
        rw [hne, cond_true, seek_eq hT hd hs.len hsd hs.rng ha (by omega) acc (by omega), h1]
        exact r2
  obtain ⟨k, hk⟩ := Int.eq_ofNat_of_zero_le h
  have htop := hd.top hT a han
  obtain ⟨r, r1, r2, r3⟩ := both k a [] han hk (by simp; omega)
  exact ⟨r, by rw [r1]; rfl, by rw [r2]; rfl, by omega⟩
end Go.Proofs.YtmbejkchgdcdhaaDoor.Sh
