/- AllowedPositions of both in closed form; equal lists are alike; no condition but a list's length. -/
import Derived.Test.YtnnpmbcamnnfgaaP11
namespace Go.Proofs.Ytnnpmbcamnnfgaa.Sh
open Go.RowKit
def posOf (L : List Label) (x : Label) : List Int := (List.range 4).flatMap fun (k : Nat) => bif allowB L x (k : Int) then [(k : Int)] else []
def allowP (L : List Label) (i : Int) : List Int × Int := match L[i.toNat]? with
  | some x => bif labCode L i != 0 then ([], labCode L i) else (posOf L x, 0)
  | none => ([], labCode L i)
theorem bif_le' (b : Bool) (x : Int) : (bif b then [x] else []).length ≤ 1 := by cases b <;> simp
theorem pos_loop (L : List Label) (i : Int) (x : Label) (hx : at' L i = some x) (F : List Label → Label → Int → Option Bool) (hF : ∀ k : Nat, k < 4 → F L x (k : Int) = some (allowB L x (k : Int))) :
    loop (fun (s4 : Int × (List Int)) => (bif (decide (s4.1 < 4)) then ((((at' L i).bind fun x8 => ((F L x8 s4.1).bind fun x9 => (bif x9 then ((app' s4.2 ([s4.1] : List Int)).bind fun x10 => some x10) else some s4.2)))).bind fun (j6 : (List Int)) => some (.inl ((w64 (s4.1 + 1)), j6))) else some (.inr s4.2))) (0, ([] : List Int)) = some (posOf L x) := by
  refine loop_build 0 4 (fun (k : Nat) => bif allowB L x (k : Int) then [(k : Int)] else []) [] _ (fun k hk => ?_) ?_
  · dsimp only
    have hlen := flat_le (fun (k : Nat) => bif allowB L x (k : Int) then [(k : Int)] else []) 1 (fun i => bif_le' _ _) k
    rw [Int.zero_add, decide_eq_true (show (k : Int) < 4 by omega), cond_true, hx, Option.bind_some, hF k hk, Option.bind_some, range_flat, w64_succ (by omega)]
    cases allowB L x (k : Int)
    · simp
    · rw [cond_true, app_ok (by simp only [List.nil_append, List.length_singleton]; omega)]
      simp
  · rfl
theorem impl_allowedPos (L : List Label) (i : Int) (hL : L.length ≤ 4611686018427387903) : impl_AllowedPositions L i = some (allowP L i) := by
  unfold impl_AllowedPositions
  rw [impl_labelCode_eq L i hL]
  change ((some (labCode L i)).bind _) = _
  rw [Option.bind_some]
  by_cases hc : labCode L i = 0
  · obtain ⟨x, h1, h2, h3⟩ := labCode_some hc
    unfold allowP
    rw [h2, hc, pos_loop L i x h1 impl_isAllowed fun k hk => impl_allowed hL h3 (by omega) (by omega)]
    rfl
  · have hb : (labCode L i != 0) = true := by simpa using hc
    rw [hb, cond_true]
    unfold allowP
    split <;> simp [hb]
theorem labs_all {L : List Label} (h : areLabs L = true) : ∀ x ∈ L, LabIn x := fun x hx => by
  obtain ⟨i, hi, rfl⟩ := List.getElem_of_mem hx
  exact areLabs_ok h (List.getElem?_eq_getElem hi)
theorem spec_allowedPos (L : List Label) (i : Int) (hL : L.length ≤ 4611686018427387903) : spec_AllowedPositions L i = some (allowP L i) := by
  unfold spec_AllowedPositions
  rw [spec_labelCode_eq L i hL]
  change ((some (labCode L i)).bind _) = _
  rw [Option.bind_some]
  by_cases hc : labCode L i = 0
  · obtain ⟨x, h1, h2, h3⟩ := labCode_some hc
    unfold allowP
    rw [h2, hc, pos_loop L i x h1 spec_l33Allowed fun k hk => spec_allowed hL (labs_all (labCode_zero hc).1) h3 _]
    rfl
  · have hb : (labCode L i != 0) = true := by simpa using hc
    rw [hb, cond_true]
    unfold allowP
    split <;> simp [hb]
theorem likeInts_self (L : List Int) (hL : L.length ≤ 4611686018427387903) : laws_likeInts L L = some true := by
  unfold laws_likeInts
  rw [loop_search L.length (fun _ => false) (fun _ => Sum.inr false) (Sum.inl ())]
  · have : (List.range L.length).find? (fun _ => false) = none := by simp
    rw [this]
    simp
  · intro i hi
    simp [at_lt hi, w64_succ (show i < 4611686018427387904 by omega), hi]
  · simp
theorem likePoints_self (L : List Point) (hL : L.length ≤ 4611686018427387903) : laws_likePoints L L = some true := by
  unfold laws_likePoints
  rw [loop_search L.length (fun _ => false) (fun _ => Sum.inr false) (Sum.inl ())]
  · have : (List.range L.length).find? (fun _ => false) = none := by simp
    rw [this]
    simp
  · intro i hi
    simp [at_lt hi, w64_succ (show i < 4611686018427387904 by omega), hi]
  · simp
end Go.Proofs.Ytnnpmbcamnnfgaa.Sh
