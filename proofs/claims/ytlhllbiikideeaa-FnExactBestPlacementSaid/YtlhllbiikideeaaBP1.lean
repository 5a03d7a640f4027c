/- BestPlacement's closure: what it computes, and the objects that it changes. -/
import Derived.Test.YtlhllbiikideeaaSH
import Derived.Test.YtlhllbiikideeaaGA
namespace Go.Proofs.Ytlhllbiikideeaa.Sh
open Go.RowKit
/-- The cell of a variable that is nil or holds a list: the list is the free name's object. -/
def bref : Option (List Int) → SV
  | none => .tr .nil
  | some _ => .own 3000000
theorem bref_names (b : Option (List Int)) : ∀ k ∈ (bref b).names, k = 3000000 := by
  cases b <;> simp [bref, SV.names]
/-- The captured variables and what they hold. -/
def wos (L : List Label) (b : Option (List Int)) (cur : List Int) : List (Nat × SO) := [(1000001, .box [vl eLabel L]), (1000002, .box [bref b]), (1000003, .box [.own 1000100]), (1000004, .box [.clo 33 [.ref 1000001 0, .ref 1000002 0, .ref 1000003 0, .ref 1000004 0]]), (1000100, oa 2 1 (eI .i64) cur), (3000000, oa 2 1 (eI .i64) (b.getD []))]
def wargs (i : Int) : List SV := [vi i, .ref 1000001 0, .ref 1000002 0, .ref 1000003 0, .ref 1000004 0]
theorem wos_key (L : List Label) (b : Option (List Int)) (cur : List Int) (k : Nat) (hk : k = 1000001 ∨ k = 1000002 ∨ k = 1000003 ∨ k = 1000004 ∨ k = 1000100 ∨ k = 3000000) : ∃ x, (k, x) ∈ wos L b cur := by
  unfold wos
  rcases hk with rfl | rfl | rfl | rfl | rfl | rfl
  · exact ⟨_, .head _⟩
  · exact ⟨_, .tail _ (.head _)⟩
  · exact ⟨_, .tail _ (.tail _ (.head _))⟩
  · exact ⟨_, .tail _ (.tail _ (.tail _ (.head _)))⟩
  · exact ⟨_, .tail _ (.tail _ (.tail _ (.tail _ (.head _))))⟩
  · exact ⟨_, .tail _ (.tail _ (.tail _ (.tail _ (.tail _ (.head _)))))⟩
theorem wos_nm {L : List Label} {b : Option (List Int)} {cur : List Int} : ∀ p ∈ wos L b cur, simpO p.2 = true ∧ ∀ k, k = p.1 ∨ k ∈ p.2.names → k = 1000001 ∨ k = 1000002 ∨ k = 1000003 ∨ k = 1000004 ∨ k = 1000100 ∨ k = 3000000 := by
  intro p hp
  unfold wos at hp
  simp only [List.mem_cons, List.not_mem_nil, or_false] at hp
  rcases hp with rfl | rfl | rfl | rfl | rfl | rfl
  · exact ⟨rfl, fun k hk => by rcases hk with hk | hk; · simp [hk]
                               · cases hk⟩
  · refine ⟨rfl, fun k hk => ?_⟩
    rcases hk with hk | hk
    · simp [hk]
    · have hk : k ∈ (bref b).names ++ [] := hk
      rw [List.append_nil] at hk
      have := bref_names b k hk
      simp [this]
  · refine ⟨rfl, fun k hk => ?_⟩
    rcases hk with hk | hk
    · simp [hk]
    · have : k ∈ [1000100] := hk
      simp at this
      simp [this]
  · refine ⟨rfl, fun k hk => ?_⟩
    rcases hk with hk | hk
    · simp [hk]
    · have : k ∈ [1000001, 1000002, 1000003, 1000004] := hk
      simp at this
      omega
  · exact ⟨rfl, fun k hk => by rcases hk with hk | hk; · simp [hk]
                               · cases hk⟩
  · exact ⟨rfl, fun k hk => by rcases hk with hk | hk; · simp [hk]
                               · cases hk⟩
theorem wos_names (L : List Label) (b : Option (List Int)) (cur : List Int) (L' : List Label) (b' : Option (List Int)) (cur' : List Int) : ∀ p ∈ wos L' b' cur', (∃ x, (p.1, x) ∈ wos L b cur) ∧ ∀ k ∈ p.2.names, ∃ x, (k, x) ∈ wos L' b' cur' ∧ ∃ y, (k, y) ∈ wos L b cur := by
  intro p hp
  have h := (wos_nm p hp).2
  refine ⟨wos_key _ _ _ _ (h _ (.inl rfl)), fun k hk => ?_⟩
  obtain ⟨x, hx⟩ := wos_key L' b' cur' k (h k (.inr hk))
  exact ⟨x, hx, wos_key L b cur k (h k (.inr hk))⟩
noncomputable def walk_f : Nat → List Label → Int → Option (List Int) → List Int → Option (Option (List Int) × List Int)
  | 0, _, _, _, _ => none
  | fuel + 1, L, i, b, cur => bif i == (L.length : Int) then (match b with
      | none => (slices_Concat_int64 [[], cur]).bind fun x => some (some x, cur)
      | some [] => none
      | some (y :: l) => (impl_score L cur).bind fun p => (impl_score L (y :: l)).bind fun q => bif decide (p > q) then (slices_Concat_int64 [[], cur]).bind fun x => some (some x, cur) else some (some (y :: l), cur))
    else loop (fun (s : Int × Option (List Int) × List Int) => bif decide (s.1 ≤ 4) then (((at' s.2.2 i).bind fun _ => (impl_isClearAt L (List.set s.2.2 (Int.toNat i) s.1) i).bind fun x => bif x then walk_f fuel L (w64 (i + 1)) s.2.1 (List.set s.2.2 (Int.toNat i) s.1) else some (s.2.1, List.set s.2.2 (Int.toNat i) s.1)).bind fun (j : Option (List Int) × List Int) => some (.inl (w64 (s.1 + 1), j))) else some (.inr s.2)) (0, b, cur)
/-- The types that GA's table lacks: functions without parameters but an int. -/
def ti58 : TI := ⟨1, 8, .other, [.nilf]⟩
def tblW : Tb := (58, ti58) :: tbl
theorem tbokW : TbOk Try.prog tblW := TbOk.cons ⟨by kernel_rfl, ⟨#[3], #[], false, by kernel_rfl⟩⟩ tbok
end Go.Proofs.Ytlhllbiikideeaa.Sh
