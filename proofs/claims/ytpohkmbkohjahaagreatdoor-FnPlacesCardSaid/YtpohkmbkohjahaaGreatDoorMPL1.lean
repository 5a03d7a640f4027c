/- Names: AreNames of both; bounds on lengths alone. -/
import Derived.Test.YtpohkmbkohjahaaGreatDoorMWP
import Derived.Test.YtpohkmbkohjahaaGreatDoorRD
namespace Go.Proofs.YtpohkmbkohjahaaGreatDoor.Sh
open Go.RowKit Go.Lib
theorem beqL {a b : ByteArray} : (a.toList == b.toList) = true ↔ a = b := by
  rw [beq_iff_eq, toList_eq, toList_eq]
  refine ⟨fun h => ?_, fun h => by rw [h]⟩
  obtain ⟨a⟩ := a
  obtain ⟨b⟩ := b
  have h : a.toList = b.toList := h
  rw [Array.toList_inj.1 h]
theorem firstI_const {α A : Type} (p : Nat → α → Bool) (a : A) : ∀ (L : List α) (k : Nat), firstI p (fun _ _ => a) L k = bif (firstI p (fun _ _ => ()) L k).isSome then some a else none
  | [], _ => rfl
  | x :: l, k => by
    unfold firstI
    cases p k x
    · exact firstI_const p a l (k + 1)
    · rfl
theorem firstI_no {α : Type} {p : Nat → α → Bool} : ∀ {L : List α} {k : Nat}, (firstI p (fun _ _ => ()) L k).isSome = false → ∀ i x, L[i]? = some x → p (k + i) x = false
  | [], _, _, i, x, h => by simp at h
  | y :: l, k, h, i, x, hx => by
    unfold firstI at h
    cases hp : p k y
    · rw [hp, cond_false] at h
      cases i with
      | zero => simp at hx; subst hx; exact hp
      | succ i =>
        have := firstI_no h i x (by simpa using hx)
        rwa [show k + (i + 1) = k + 1 + i by omega]
    · rw [hp] at h
      cases h
theorem inner_any {α A : Type} {L : List α} (hL : L.length ≤ 1048576) {B : Int → Unit → Option (Unit ⊕ (Unit ⊕ A))} (p : α → Bool) (a : A) (h : ∀ (i : Nat) x, L[i]? = some x → B (i : Int) () = bif p x then some (.inr (.inr a)) else some (.inl ())) :
    forN (L.length : Int) B (fun _ => .inl ()) 0 () = bif L.any p then some (.inr a) else some (.inl ()) := by
  rw [forN_list L (by omega) B (fun _ x _ => bif p x then some (.inr (.inr a)) else some (.inl ())) _ () (fun j x _ hx => h j x hx), overI_any]
  cases L.any p <;> rfl
def spanB (s : Span) : Bool := inB s.From (-3000) 3000 && (inB s.To (-3000) 3000 && decide (s.From ≤ s.To))
theorem impl_isSpan (s : Span) : impl_IsSpan s = some (spanB s) := by
  unfold impl_IsSpan impl_isYear spanB
  simp only [within_eq, Option.bind_some]
  cases inB s.From (-3000) 3000 <;> cases inB s.To (-3000) 3000 <;> rfl
theorem spec_isSpan (s : Span) : spec_IsSpan s = some (spanB s) := by
  unfold spec_IsSpan spec_l02Year spanB
  simp only [l01In_eq, Option.bind_some]
  cases inB s.From (-3000) 3000 <;> cases inB s.To (-3000) 3000 <;> rfl
def langB (s : ByteArray) : Bool := inB s.size 2 3 && s.data.toList.all small
theorem impl_lang (s : ByteArray) (hs : s.size ≤ maxLen) : impl_isLanguage s = some (langB s) := by
  unfold impl_isLanguage impl_isSmall langB
  rw [within_eq, Option.bind_some]
  cases inB (s.size : Int) 2 3
  · rfl
  · have h1 : strings_Trim s (ByteArray.mk #[97, 98, 99, 100, 101, 102, 103, 104, 105, 106, 107, 108, 109, 110, 111, 112, 113, 114, 115, 116, 117, 118, 119, 120, 121, 122]) = some ⟨(trimS s.data.toList abc).toArray⟩ := by
      unfold strings_Trim
      have h2 : ((ByteArray.mk #[97, 98, 99, 100, 101, 102, 103, 104, 105, 106, 107, 108, 109, 110, 111, 112, 113, 114, 115, 116, 117, 118, 119, 120, 121, 122]).data.toList.all (fun b => decide (b.toNat < 128))) = true := by decide
      have h3 : (decide ((ByteArray.mk #[97, 98, 99, 100, 101, 102, 103, 104, 105, 106, 107, 108, 109, 110, 111, 112, 113, 114, 115, 116, 117, 118, 119, 120, 121, 122]).size ≤ 1000)) = true := by decide
      rw [h2, h3, decide_eq_true hs]
      rfl
    rw [h1]
    simp only [cond_true, Option.bind_some, Bool.true_and]
    congr 1
    rw [toList_eq, toList_eq, ← trim_empty]
    cases trimS s.data.toList abc <;> rfl
theorem spec_lang (s : ByteArray) (hs : s.size ≤ maxLen) : spec_l09Language s = some (langB s) := by
  unfold spec_l09Language spec_l03Lower
  rw [loop_any_bytes (by unfold maxLen at hs; omega) (fun x => !small x) false (fun j x hx => ?_)]
  · rw [← List.not_all_eq_any_not]
    unfold langB
    cases s.data.toList.all small
    · simp
    · simp [l01In_eq]
  · rw [byte_get hx]
    simp only [Option.bind_some]
    unfold small
    by_cases h1 : (x.toNat : Int) < 97
    · have h2 : ¬ 97 ≤ x.toNat := by omega
      simp [h1, h2]
    · have h2 : 97 ≤ x.toNat := by omega
      by_cases h3 : (x.toNat : Int) > 122
      · have h4 : ¬ x.toNat ≤ 122 := by omega
        simp [h1, h2, h3, h4]
      · have h4 : x.toNat ≤ 122 := by omega
        simp [h1, h2, h3, h4]
/-- The bounds of a name. -/
structure NmR (n : Name) : Prop where
  t : n.Text.size ≤ 1048576
  l : n.Language.size ≤ 1048576
def nameB (n : Name) : Bool := phraseB n.Text && (langB n.Language && (inB n.Status 0 2 && spanB n.Years))
theorem impl_name {n : Name} (h : NmR n) : impl_IsName n = some (nameB n) := by
  have h1 := h.t
  have h2 := h.l
  unfold impl_IsName nameB
  rw [impl_isPhrase _ (by omega), impl_lang _ (by unfold maxLen; omega), within_eq, impl_isSpan]
  cases phraseB n.Text <;> cases langB n.Language <;> cases inB n.Status 0 2 <;> rfl
theorem spec_name {n : Name} (h : NmR n) : spec_IsName n = some (nameB n) := by
  have h1 := h.t
  have h2 := h.l
  unfold spec_IsName nameB
  rw [spec_isPhrase _ (by omega), spec_lang _ (by unfold maxLen; omega), l01In_eq, spec_isSpan]
  cases phraseB n.Text <;> cases langB n.Language <;> cases inB n.Status 0 2 <;> rfl
end Go.Proofs.YtpohkmbkohjahaaGreatDoor.Sh
