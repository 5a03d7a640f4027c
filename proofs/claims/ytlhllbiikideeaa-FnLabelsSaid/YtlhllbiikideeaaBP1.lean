/- BestPlacement's closure: what it computes, and the objects that it changes. -/
import Derived.Test.YtlhllbiikideeaaSH
import Derived.Test.YtlhllbiikideeaaGA
namespace Go.Proofs.Ytlhllbiikideeaa.Sh
open Go.RowKit
/-- The cell of a variable that is nil or holds a list. -/
def bo : Option (List Int) → SV
  | none => .tr .nil
  | some l => vl (eI .i64) l
theorem bo_names (b : Option (List Int)) : (bo b).names = [] := by cases b <;> rfl
/-- The captured variables and what they hold. -/
def wos (L : List Label) (b : Option (List Int)) (cur : List Int) : List (Nat × SO) := [(1000001, .box [vl eLabel L]), (1000002, .box [bo b]), (1000003, .box [.own 1000100]), (1000004, .box [.clo 33 [.ref 1000001 0, .ref 1000002 0, .ref 1000003 0, .ref 1000004 0]]), (1000100, oa 2 1 (eI .i64) cur)]
def wargs (i : Int) : List SV := [vi i, .ref 1000001 0, .ref 1000002 0, .ref 1000003 0, .ref 1000004 0]
theorem wos_names (L : List Label) (b : Option (List Int)) (cur : List Int) (L' : List Label) (b' : Option (List Int)) (cur' : List Int) : ∀ p ∈ wos L' b' cur', (∃ x, (p.1, x) ∈ wos L b cur) ∧ ∀ k ∈ p.2.names, ∃ x, (k, x) ∈ wos L' b' cur' ∧ ∃ y, (k, y) ∈ wos L b cur := by
  have key : ∀ (L : List Label) (b : Option (List Int)) (cur : List Int) (k : Nat), k = 1000001 ∨ k = 1000002 ∨ k = 1000003 ∨ k = 1000004 ∨ k = 1000100 → ∃ x, (k, x) ∈ wos L b cur := by
    intro L b cur k hk
    unfold wos
    rcases hk with rfl | rfl | rfl | rfl | rfl
    · exact ⟨_, .head _⟩
    · exact ⟨_, .tail _ (.head _)⟩
    · exact ⟨_, .tail _ (.tail _ (.head _))⟩
    · exact ⟨_, .tail _ (.tail _ (.tail _ (.head _)))⟩
    · exact ⟨_, .tail _ (.tail _ (.tail _ (.tail _ (.head _))))⟩
  intro p hp
  unfold wos at hp
  simp only [List.mem_cons, List.not_mem_nil, or_false] at hp
  have two : ∀ k, k = 1000001 ∨ k = 1000002 ∨ k = 1000003 ∨ k = 1000004 ∨ k = 1000100 → ∃ x, (k, x) ∈ wos L' b' cur' ∧ ∃ y, (k, y) ∈ wos L b cur := fun k hk => by
    obtain ⟨x, hx⟩ := key L' b' cur' k hk
    exact ⟨x, hx, key L b cur k hk⟩
  rcases hp with rfl | rfl | rfl | rfl | rfl
  · exact ⟨key _ _ _ _ (by simp), fun k hk => by cases hk⟩
  · refine ⟨key _ _ _ _ (by simp), fun k hk => ?_⟩
    have : k ∈ (bo b').names ++ [] := hk
    rw [bo_names] at this
    cases this
  · refine ⟨key _ _ _ _ (by simp), fun k hk => two k ?_⟩
    have : k ∈ [1000100] := hk
    simp at this
    simp [this]
  · refine ⟨key _ _ _ _ (by simp), fun k hk => two k ?_⟩
    have : k ∈ [1000001, 1000002, 1000003, 1000004] := hk
    simp at this
    omega
  · exact ⟨key _ _ _ _ (by simp), fun k hk => by cases hk⟩
noncomputable def walk_f : Nat → List Label → Int → Option (List Int) → List Int → Option (Option (List Int) × List Int)
  | 0, _, _, _, _ => none
  | fuel + 1, L, i, b, cur => bif i == (L.length : Int) then (match b with
      | none => (slices_Concat_int64 [[], cur]).bind fun x => some (some x, cur)
      | some [] => none
      | some (y :: l) => (impl_score L cur).bind fun p => (impl_score L (y :: l)).bind fun q => bif decide (p > q) then (slices_Concat_int64 [[], cur]).bind fun x => some (some x, cur) else some (some (y :: l), cur))
    else loop (fun (s : Int × Option (List Int) × List Int) => bif decide (s.1 ≤ 4) then (((at' s.2.2 i).bind fun _ => (impl_isClearAt L (List.set s.2.2 (Int.toNat i) s.1) i).bind fun x => bif x then walk_f fuel L (w64 (i + 1)) s.2.1 (List.set s.2.2 (Int.toNat i) s.1) else some (s.2.1, List.set s.2.2 (Int.toNat i) s.1)).bind fun (j : Option (List Int) × List Int) => some (.inl (w64 (s.1 + 1), j))) else some (.inr s.2)) (0, b, cur)
/-- The types that GA's table lacks: functions without parameters but an int. -/
def ti58 : TI := ⟨1, 8, .other, [.nilf]⟩
def tblW : Tb := (58, ti58) :: tbl
theorem tbokW : TbOk Try.prog tblW := TbOk.cons ⟨by kernel_rfl, ⟨#[3], #[], false, by kernel_rfl⟩⟩ tbok
end Go.Proofs.Ytlhllbiikideeaa.Sh
