/- The program's distances, in closed form; no condition but ties within the records. -/
import Derived.Test.YtojhgfkohbfhhaaDoorMW3
import Derived.Test.YtojhgfkohbfhhaaDoorL0
namespace Go.Proofs.YtojhgfkohbfhhaaDoor.Sh
open Go.RowKit Go.Lib
theorem range2 {S : Type} (g : S → Nat → S) (s : S) : (List.range 2).foldl g s = g (g s 0) 1 := rfl
theorem far_eq {n : Nat} {L : List Tie} (hT : TIn n L) {to : Nat} (hto : to < n) : impl_far (n : Int) L (to : Int) = some (farP n L to n) := by
  have hn := hT.le
  have hL := hT.len
  unfold impl_far
  have h1 : slices_Repeat_int64 ([(-1)] : List Int) (n : Int) = some (List.replicate n (-1)) := by
    unfold slices_Repeat_int64
    dsimp only
    rw [decide_eq_true (show (0 : Int) ≤ n by omega), decide_eq_true (show (n : Int) ≤ 16 by omega)]
    rfl
  rw [h1, Option.bind_some, gv_at (by omega) (by simpa using hto), Option.bind_some, Int.toNat_natCast]
  have rl : ∀ (r : Int) (u v : Nat) (o : List Int), o.length = n → (rlx r u v o).length = n := fun r u v o h => by rw [relax_len, h]
  have inner : ∀ (r : Nat) (hr : r < n) (i : Nat) (x : Tie) (o : List Int), x ∈ L → o.length = n → (forS 2 (fun (i14 : Int) (s14 : (List Int)) => ((two' i14).bind fun x18 => (((bif x.Same then ((at' s14 (cond (i14 == 0) x.A x.B)).bind fun x19 => (bif (x19 == (r : Int)) then ((at' s14 (cond (i14 == 0) x.B x.A)).bind fun x20 => some (decide (x20 < 0))) else some false)) else some false)).bind fun (j21 : Bool) => (bif j21 then ((at' s14 (cond (i14 == 0) x.B x.A)).bind fun x23 => some (List.set s14 (Int.toNat (cond (i14 == 0) x.B x.A)) (w64 ((r : Int) + 1)))) else some s14)))) (fun (s14 : (List Int)) => s14) 0 o) = some (tieS (r : Int) x o) ∧ (tieS (r : Int) x o).length = n := by
    intro r hr i x o hx ho
    have hxr := hT.rng hx
    have hxa := hT.all x hx
    have one : ∀ (u v : Int) (o : List Int), 0 ≤ u → u.toNat < n → 0 ≤ v → v.toNat < n → o.length = n → (((bif x.Same then ((at' o u).bind fun x19 => (bif (x19 == (r : Int)) then ((at' o v).bind fun x20 => some (decide (x20 < 0))) else some false)) else some false)).bind fun (j21 : Bool) => (bif j21 then ((at' o v).bind fun x23 => some (List.set o (Int.toNat v) (w64 ((r : Int) + 1)))) else some o)) = some (bif x.Same then rlx (r : Int) u.toNat v.toNat o else o) := by
      intro u v o h1 h2 h3 h4 h5
      rw [gv_at h1 (by omega), gv_at h3 (by omega), w64_id (by omega) (by omega)]
      cases x.Same
      · rfl
      · unfold rlx
        simp only [cond_true, Option.bind_some]
        cases (gv o u.toNat == (r : Int))
        · simp
        · simp only [cond_true, Option.bind_some, Bool.true_and]
          cases decide (gv o v.toNat < 0) <;> rfl
    have h := forS_foldl (n := 2) (D := fun (s14 : (List Int)) => s14) (by omega) (fun o => o.length = n) (fun (o : List Int) (i : Nat) => bif x.Same then rlx (r : Int) (cond (((i : Nat) : Int) == 0) x.A x.B).toNat (cond (((i : Nat) : Int) == 0) x.B x.A).toNat o else o) o (B := fun (i14 : Int) (s14 : (List Int)) => ((two' i14).bind fun x18 => (((bif x.Same then ((at' s14 (cond (i14 == 0) x.A x.B)).bind fun x19 => (bif (x19 == (r : Int)) then ((at' s14 (cond (i14 == 0) x.B x.A)).bind fun x20 => some (decide (x20 < 0))) else some false)) else some false)).bind fun (j21 : Bool) => (bif j21 then ((at' s14 (cond (i14 == 0) x.B x.A)).bind fun x23 => some (List.set s14 (Int.toNat (cond (i14 == 0) x.B x.A)) (w64 ((r : Int) + 1)))) else some s14)))) (fun i o hi ho => ?_) ho
    · rw [range2] at h
      have e : (bif x.Same then rlx (r : Int) (cond ((((1 : Nat) : Nat) : Int) == 0) x.A x.B).toNat (cond ((((1 : Nat) : Nat) : Int) == 0) x.B x.A).toNat (bif x.Same then rlx (r : Int) (cond ((((0 : Nat) : Nat) : Int) == 0) x.A x.B).toNat (cond ((((0 : Nat) : Nat) : Int) == 0) x.B x.A).toNat o else o) else (bif x.Same then rlx (r : Int) (cond ((((0 : Nat) : Nat) : Int) == 0) x.A x.B).toNat (cond ((((0 : Nat) : Nat) : Int) == 0) x.B x.A).toNat o else o)) = tieS (r : Int) x o := by
        unfold tieS
        cases x.Same <;> rfl
      rw [e] at h
      exact h
    · rw [two_ok hi, Option.bind_some]
      constructor
      · refine one _ _ o ?_ ?_ ?_ ?_ ho
        all_goals
          cases ((i : Int) == 0)
          · simp only [cond_false]; omega
          · simp only [cond_true]; omega
      · cases x.Same
        · exact ho
        · exact rl _ _ _ _ ho
  have round : ∀ (r : Nat) (o : List Int), r < n → o.length = n → (forS (L.length : Int) (fun (i9 : Int) (s9 : (List Int)) => ((at' L i9).bind fun x13 => (forS 2 (fun (i14 : Int) (s14 : (List Int)) => ((two' i14).bind fun x18 => (((bif x13.Same then ((at' s14 (cond (i14 == 0) x13.A x13.B)).bind fun x19 => (bif (x19 == (r : Int)) then ((at' s14 (cond (i14 == 0) x13.B x13.A)).bind fun x20 => some (decide (x20 < 0))) else some false)) else some false)).bind fun (j21 : Bool) => (bif j21 then ((at' s14 (cond (i14 == 0) x13.B x13.A)).bind fun x23 => some (List.set s14 (Int.toNat (cond (i14 == 0) x13.B x13.A)) (w64 ((r : Int) + 1)))) else some s14)))) (fun (s14 : (List Int)) => s14) 0 s9))) (fun (s9 : (List Int)) => s9) 0 o) = some (L.foldl (fun o t => tieS (r : Int) t o) o) ∧ (L.foldl (fun o t => tieS (r : Int) t o) o).length = n := by
    intro r o hr ho
    refine forS_foldl_list (D := fun (s9 : (List Int)) => s9) (by omega) (fun o => o.length = n) (fun o t => tieS (r : Int) t o) o (fun i x o hx ho => ?_) ho
    rw [at_nat, hx, Option.bind_some]
    exact inner r hr i x o (List.mem_of_getElem? hx) ho
  rw [(forS_foldl (n := n) (by omega) (fun o => o.length = n) (fun (o : List Int) (r : Nat) => L.foldl (fun o t => tieS (r : Int) t o) o) ((List.replicate n (-1)).set to 0) (fun r o hr ho => ?_) (by simp)).1]
  · rfl
  · exact round r o hr ho
theorem far_dist {n : Nat} {L : List Tie} (hT : TIn n L) {to : Nat} (hto : to < n) : ∃ d, impl_far (n : Int) L (to : Int) = some d ∧ Dist L n to d := ⟨_, far_eq hT hto, farP_dist hT hto⟩
end Go.Proofs.YtojhgfkohbfhhaaDoor.Sh
