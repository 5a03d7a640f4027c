/- The proofs that two records are one, of both; no condition but ties within the records. -/
import Derived.Test.YtojhgfkohbfhhaaDoorMW6
namespace Go.Proofs.YtojhgfkohbfhhaaDoor.Sh
open Go.RowKit Go.Lib
theorem firstI_some {α A : Type} {p : Nat → α → Bool} {a : Nat → α → A} : ∀ {L : List α} {k : Nat} {r : A}, firstI p a L k = some r → ∃ j x, L[j]? = some x ∧ p (k + j) x = true ∧ r = a (k + j) x
  | [], _, _, h => by cases h
  | x :: l, k, r, h => by
    unfold firstI at h
    cases hp : p k x
    · rw [hp] at h
      obtain ⟨j, y, h1, h2, h3⟩ := firstI_some (L := l) (k := k + 1) h
      exact ⟨j + 1, y, by simpa using h1, by rw [show k + (j + 1) = k + 1 + j from by omega]; exact h2, by rw [show k + (j + 1) = k + 1 + j from by omega]; exact h3⟩
    · rw [hp] at h
      injection h with h
      exact ⟨0, x, rfl, hp, h.symm⟩
theorem firstI_none {α A : Type} {p : Nat → α → Bool} {a : Nat → α → A} : ∀ {L : List α} {k : Nat}, firstI p a L k = none → ∀ j x, L[j]? = some x → p (k + j) x = false
  | [], _, _, j, x, hx => by simp at hx
  | y :: l, k, h, j, x, hx => by
    unfold firstI at h
    cases hp : p k y
    · rw [hp] at h
      cases j with
      | zero => simp at hx; subst hx; exact hp
      | succ j =>
        have := firstI_none (L := l) (k := k + 1) h j x (by simpa using hx)
        rwa [show k + 1 + j = k + (j + 1) from by omega] at this
    · rw [hp] at h
      cases h
/-- A tie leads from a to a record that is nearer. -/
def leads (d : List Int) (a : Nat) (t : Tie) : Bool := t.Same && ((t.A == (a : Int) && gv d t.B.toNat == gv d a - 1) || (t.B == (a : Int) && gv d t.A.toNat == gv d a - 1))
def other (a : Nat) (t : Tie) : Int := bif t.A == (a : Int) then t.B else t.A
def nextP (L : List Tie) (d : List Int) (a : Nat) : Option (Int × Int) := firstI (fun _ t => leads d a t) (fun i t => ((i : Int), other a t)) L 0
theorem nextP_some {L : List Tie} {n to : Nat} {d : List Int} (hT : TIn n L) (hd : Dist L n to d) {a : Nat} (ha : a < n) (h : 0 < gv d a) : ∃ (i : Int) (b : Nat), nextP L d a = some (i, (b : Int)) ∧ b < n ∧ gv d b = gv d a - 1 := by
  cases hn : nextP L d a with
  | none =>
    exfalso
    obtain ⟨u, ⟨t, ht, hs, h1⟩, h2⟩ := hd.back a ha h
    obtain ⟨j, hj⟩ := List.mem_iff_getElem?.1 ht
    have h3 := firstI_none hn j t hj
    have hr := hT.rng ht
    unfold leads at h3
    rw [hs, Bool.true_and] at h3
    rcases h1 with ⟨h4, h5⟩ | ⟨h4, h5⟩
    · have h6 : (t.B == (a : Int) && gv d t.A.toNat == gv d a - 1) = true := by
        rw [h4, h2, beq_self_eq_true, Bool.and_true, beq_iff_eq, ← h5]
        exact hr.2.2.2.2.symm
      rw [h6, Bool.or_true] at h3
      cases h3
    · have h6 : (t.A == (a : Int) && gv d t.B.toNat == gv d a - 1) = true := by
        rw [h5, h2, beq_self_eq_true, Bool.and_true, beq_iff_eq, ← h4]
        exact hr.2.2.2.1.symm
      rw [h6, Bool.true_or] at h3
      cases h3
  | some r =>
    obtain ⟨j, t, h1, h2, rfl⟩ := firstI_some hn
    have ht := List.mem_of_getElem? h1
    have hr := hT.rng ht
    unfold leads at h2
    simp only [Bool.and_eq_true, Bool.or_eq_true, beq_iff_eq] at h2
    unfold other
    rcases h2.2 with ⟨h3, h4⟩ | ⟨h3, h4⟩
    · exact ⟨_, t.B.toNat, by rw [h3, beq_self_eq_true, cond_true, hr.2.2.2.2], hr.2.1, h4⟩
    · have h5 : (t.A == (a : Int)) = false := by
        rw [beq_eq_false_iff_ne]
        omega
      exact ⟨_, t.A.toNat, by rw [h5, cond_false, hr.2.2.2.1], hr.1, h4⟩
theorem forN_two {A : Type} (B : Int → Unit → Option (Unit ⊕ A)) (D : Unit → A) : forN 2 B D 0 () = (B 0 ()).bind (Sum.elim (fun s => (B 1 s).bind (Sum.elim (fun s => some (D s)) some)) some) := by
  have := forN_iter 2 (by omega) B D ()
  exact this
/-- The reference's search for the next tie. -/
theorem seek_eq {L : List Tie} {n to : Nat} {d s : List Int} (hT : TIn n L) (hd : Dist L n to d) (hs : s.length = n) (hsd : ∀ v, v < n → 0 ≤ gv d v → gv s v = gv d v) (hs2 : ∀ v, v < n → 0 ≤ gv s v ∧ gv s v ≤ 12) {a : Nat} (ha : a < n) (h : 0 < gv d a) (acc : List Int) (hacc : acc.length ≤ 1000) :
    forN (L.length : Int) (fun (i31 : Int) (s31 : Int × (List Int)) => ((at' L i31).bind fun x35 => (((bif x35.Same then (bif (x35.A == s31.1) then ((at' s (w64 ((w64 (x35.A + x35.B)) - s31.1))).bind fun x36 => ((at' s s31.1).bind fun x37 => some (x36 == (w64 (x37 - 1))))) else (bif (x35.B == s31.1) then ((at' s (w64 ((w64 (x35.A + x35.B)) - s31.1))).bind fun x38 => ((at' s s31.1).bind fun x39 => some (x38 == (w64 (x39 - 1))))) else some false)) else some false)).bind fun (j40 : Bool) => (bif j40 then ((app' s31.2 ([i31] : List Int)).bind fun x42 => some (.inr (.inl ((w64 ((w64 (x35.A + x35.B)) - s31.1)), x42)))) else some (.inl (s31.1, s31.2)))))) (fun (s31 : Int × (List Int)) => (.inl (s31.1, s31.2) : (Int × List Int) ⊕ List Int)) 0 ((a : Int), acc)
      = match nextP L d a with | some r => some (.inl (r.2, acc ++ [r.1])) | none => some (.inl ((a : Int), acc)) := by
  have hL := hT.len
  have hn := hT.le
  have key : ∀ (M : List Tie) (k : Nat), (∀ t ∈ M, t ∈ L) → k + M.length ≤ 100 → overI (fun (i : Nat) (x35 : Tie) (s31 : Int × (List Int)) => (((bif x35.Same then (bif (x35.A == s31.1) then ((at' s (w64 ((w64 (x35.A + x35.B)) - s31.1))).bind fun x36 => ((at' s s31.1).bind fun x37 => some (x36 == (w64 (x37 - 1))))) else (bif (x35.B == s31.1) then ((at' s (w64 ((w64 (x35.A + x35.B)) - s31.1))).bind fun x38 => ((at' s s31.1).bind fun x39 => some (x38 == (w64 (x39 - 1))))) else some false)) else some false)).bind fun (j40 : Bool) => (bif j40 then ((app' s31.2 ([(i : Int)] : List Int)).bind fun x42 => some (.inr (.inl ((w64 ((w64 (x35.A + x35.B)) - s31.1)), x42)))) else some (.inl (s31.1, s31.2))))) (fun (s31 : Int × (List Int)) => (.inl (s31.1, s31.2) : (Int × List Int) ⊕ List Int)) M k ((a : Int), acc)
      = match firstI (fun _ t => leads d a t) (fun i t => ((i : Int), other a t)) M k with | some r => some (.inl (r.2, acc ++ [r.1])) | none => some (.inl ((a : Int), acc)) := by
    intro M
    induction M with
    | nil => intro k _ _; rfl
    | cons x M ih =>
      intro k hM hk
      have hr := hT.rng (hM x (by simp))
      have hr2 := hT.all x (hM x (by simp))
      have ih2 := ih (k + 1) (fun t ht => hM t (by simp [ht])) (by simp at hk; omega)
      have e1 : w64 (x.A + x.B) = x.A + x.B := w64_id (by omega) (by omega)
      have e2 : w64 (x.A + x.B - (a : Int)) = x.A + x.B - (a : Int) := w64_id (by omega) (by omega)
      have hra := hs2 a ha
      have e3 : w64 (gv s a - 1) = gv s a - 1 := w64_id (by omega) (by omega)
      unfold overI firstI
      simp only [e1, e2]
      rw [gv_at (i := (a : Int)) (by omega) (by rw [hs]; simpa using ha)]
      simp only [Option.bind_some, Int.toNat_natCast, e3]
      have fin : ∀ (b : Bool) (y : Int), leads d a x = b → (b = true → other a x = y) → ((some b).bind fun (j40 : Bool) => (bif j40 then ((app' acc ([(k : Int)] : List Int)).bind fun x42 => some (.inr (.inl (y, x42)))) else (some (.inl ((a : Int), acc)) : Option ((Int × List Int) ⊕ ((Int × List Int) ⊕ List Int))))).bind (Sum.elim (overI (fun (i : Nat) (x35 : Tie) (s31 : Int × (List Int)) => (((bif x35.Same then (bif (x35.A == s31.1) then ((at' s (w64 ((w64 (x35.A + x35.B)) - s31.1))).bind fun x36 => ((at' s s31.1).bind fun x37 => some (x36 == (w64 (x37 - 1))))) else (bif (x35.B == s31.1) then ((at' s (w64 ((w64 (x35.A + x35.B)) - s31.1))).bind fun x38 => ((at' s s31.1).bind fun x39 => some (x38 == (w64 (x39 - 1))))) else some false)) else some false)).bind fun (j40 : Bool) => (bif j40 then ((app' s31.2 ([(i : Int)] : List Int)).bind fun x42 => some (.inr (.inl ((w64 ((w64 (x35.A + x35.B)) - s31.1)), x42)))) else some (.inl (s31.1, s31.2))))) (fun (s31 : Int × (List Int)) => (.inl (s31.1, s31.2) : (Int × List Int) ⊕ List Int)) M (k + 1)) some) = match bif leads d a x then some (((k : Nat) : Int), other a x) else firstI (fun _ t => leads d a t) (fun i t => ((i : Int), other a t)) M (k + 1) with | some r => some (.inl (r.2, acc ++ [r.1])) | none => some (.inl ((a : Int), acc)) := by
        intro b y hb hy
        rw [hb]
        cases b
        · exact ih2
        · simp only [Option.bind_some, cond_true]
          rw [app_ok (by simp; omega), hy rfl]
          rfl
      cases hs1 : x.Same
      · exact fin false _ (by unfold leads; rw [hs1]; rfl) (fun h => by cases h)
      · simp only [cond_true]
        cases h1 : (x.A == (a : Int))
        · simp only [cond_false]
          cases h2 : (x.B == (a : Int))
          · exact fin false _ (by unfold leads; rw [hs1, h1, h2]; rfl) (fun h => by cases h)
          · have h3 := eq_of_beq h2
            have e4 : x.A + x.B - (a : Int) = x.A := by omega
            rw [cond_true, e4, gv_at (i := x.A) (by omega) (by rw [hs]; exact hr.1), Option.bind_some]
            refine fin _ _ ?_ (fun _ => by unfold other; rw [h1]; rfl)
            have hadj : adj L a x.A.toNat := ⟨x, hM x (by simp), hs1, .inr ⟨rfl, by omega⟩⟩
            have h5 := hd.step _ _ hadj (by omega)
            unfold leads
            rw [hs1, h1, h2, hsd a ha (by omega), hsd _ hr.1 h5.1]
            simp
        · have h3 := eq_of_beq h1
          have e4 : x.A + x.B - (a : Int) = x.B := by omega
          have h2 : (x.B == (a : Int)) = false := by
            rw [beq_eq_false_iff_ne]
            omega
          rw [cond_true, e4, gv_at (i := x.B) (by omega) (by rw [hs]; exact hr.2.1), Option.bind_some]
          refine fin _ _ ?_ (fun _ => by unfold other; rw [h1]; rfl)
          have hadj : adj L a x.B.toNat := ⟨x, hM x (by simp), hs1, .inl ⟨by omega, rfl⟩⟩
          have h5 := hd.step _ _ hadj (by omega)
          unfold leads
          rw [hs1, h1, h2, hsd a ha (by omega), hsd _ hr.2.1 h5.1]
          simp
  rw [forN_at L (by omega), key L 0 (fun t ht => ht) (by omega)]
  rfl
end Go.Proofs.YtojhgfkohbfhhaaDoor.Sh
