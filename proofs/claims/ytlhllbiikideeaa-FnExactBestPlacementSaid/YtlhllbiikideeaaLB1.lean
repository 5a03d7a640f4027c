/- Labels: AreLabels of both, what a label covers; bounds on lengths alone. -/
import Derived.Test.YtlhllbiikideeaaMW1
import Derived.Test.YtlhllbiikideeaaL0
namespace Go.Proofs.Ytlhllbiikideeaa.Sh
open Go.RowKit
def ptB (p : Point) : Bool := inB p.X (-1000) 1000 && inB p.Y (-1000) 1000
def sameAt (x y : Point) : Bool := (x.X == y.X) && (x.Y == y.Y)
def labN (L : List Label) (i : Nat) (l : Label) : Bool := !ptB l.At || (!inB l.Length 1 20 || (!inB l.Priority 1 9 || (L.take i).any fun d => sameAt d.At l.At))
theorem firstI_const {α A : Type} (p : Nat → α → Bool) (a : A) : ∀ (L : List α) (k : Nat), firstI p (fun _ _ => a) L k = bif (firstI p (fun _ _ => ()) L k).isSome then some a else none
  | [], _ => rfl
  | x :: l, k => by
    unfold firstI
    cases p k x
    · exact firstI_const p a l (k + 1)
    · rfl
theorem firstI_no {α : Type} {p : Nat → α → Bool} : ∀ {L : List α} {k : Nat}, (firstI p (fun _ _ => ()) L k).isSome = false → ∀ i x, L[i]? = some x → p (k + i) x = false
  | [], _, _, i, x, h => by simp at h
  | y :: l, k, h, i, x, hx => by
    unfold firstI at h
    cases hp : p k y
    · rw [hp, cond_false] at h
      cases i with
      | zero => simp at hx; subst hx; exact hp
      | succ i =>
        have := firstI_no h i x (by simpa using hx)
        rwa [show k + (i + 1) = k + 1 + i by omega]
    · rw [hp] at h
      cases h
/-- Are they labels? -/
def labsB (L : List Label) : Bool := !(firstI (labN L) (fun _ _ => ()) L 0).isSome && decide ((L.length : Int) ≤ 6)
structure LabIn (a : Label) : Prop where
  x : -1000 ≤ a.At.X ∧ a.At.X ≤ 1000
  y : -1000 ≤ a.At.Y ∧ a.At.Y ≤ 1000
  n : 1 ≤ a.Length ∧ a.Length ≤ 20
  p : 1 ≤ a.Priority ∧ a.Priority ≤ 9
theorem labsB_in {L : List Label} (h : labsB L = true) : L.length ≤ 6 ∧ ∀ x ∈ L, LabIn x := by
  unfold labsB at h
  rw [Bool.and_eq_true, Bool.not_eq_true', decide_eq_true_eq] at h
  refine ⟨by omega, fun x hx => ?_⟩
  obtain ⟨i, hi⟩ := List.getElem?_of_mem hx
  have := firstI_no h.1 i x hi
  unfold labN ptB at this
  rw [Bool.or_eq_false_iff, Bool.or_eq_false_iff, Bool.or_eq_false_iff, Bool.not_eq_false', Bool.not_eq_false', Bool.not_eq_false', Bool.and_eq_true, inB_iff, inB_iff, inB_iff, inB_iff] at this
  exact ⟨this.1.1, this.1.2, this.2.1, this.2.2.1⟩
theorem impl_pt (p : Point) : impl_IsPoint p = some (ptB p) := by
  unfold impl_IsPoint ptB
  rw [within_eq, within_eq]
  cases inB p.X (-1000) 1000 <;> rfl
theorem spec_pt (p : Point) : spec_IsPoint p = some (ptB p) := by
  unfold spec_IsPoint ptB
  rw [l01In_eq, l01In_eq]
  cases inB p.X (-1000) 1000 <;> rfl
theorem impl_isAt_eq {L : List Label} (hL : L.length ≤ 1000000000) (p : Point) : impl_isAt L p = some (L.any fun d => sameAt d.At p) := by
  unfold impl_isAt slices_ContainsFunc_Label_impl_isAt_1 slices_IndexFunc_Label_impl_isAt_1 impl_isAt_1
  rw [loop_idx (by omega) (fun d : Label => sameAt d.At p) (fun i x hx => by rw [at_nat, hx]; rfl)]
  simp only [Option.bind_some, idxP_any]
theorem inner_any {α A : Type} {L : List α} (hL : L.length ≤ 1048576) {B : Int → Unit → Option (Unit ⊕ (Unit ⊕ A))} (p : α → Bool) (a : A) (h : ∀ (i : Nat) x, L[i]? = some x → B (i : Int) () = bif p x then some (.inr (.inr a)) else some (.inl ())) :
    forN (L.length : Int) B (fun _ => .inl ()) 0 () = bif L.any p then some (.inr a) else some (.inl ()) := by
  rw [forN_list L (by omega) B (fun _ x _ => bif p x then some (.inr (.inr a)) else some (.inl ())) _ () (fun j x _ hx => h j x hx), overI_any]
  cases L.any p <;> rfl
theorem impl_labs {L : List Label} (hL : L.length ≤ 1048576) : impl_AreLabels L = some (labsB L) := by
  unfold impl_AreLabels
  rw [loop_first (by omega) (labN L) (fun _ _ => false) (fun i x hx => by
    have hi : i < L.length := (List.getElem?_eq_some_iff.1 hx).1
    rw [at_nat, hx, Option.bind_some, part_ok (by omega) (by omega) (by omega)]
    simp only [Option.bind_some, Int.toNat_zero, List.drop_zero, Int.toNat_natCast, Nat.sub_zero]
    rw [impl_isAt_eq (L := L.take i) (by rw [List.length_take]; omega), impl_pt, within_eq, within_eq]
    unfold labN
    cases ptB x.At <;> cases inB x.Length 1 20 <;> cases inB x.Priority 1 9 <;> rfl), firstI_const]
  unfold labsB
  cases (firstI (labN L) (fun _ _ => ()) L 0).isSome <;> simp
theorem spec_labs {L : List Label} (hL : L.length ≤ 1048576) : spec_AreLabels L = some (labsB L) := by
  unfold spec_AreLabels
  rw [loop_first (by omega) (labN L) (fun _ _ => false) (fun i x hx => by
    have hi : i < L.length := (List.getElem?_eq_some_iff.1 hx).1
    have hl : (L.take i).length = i := by rw [List.length_take]; omega
    have := inner_any (A := Unit ⊕ Bool) (L := L.take i) (by omega) (B := fun (i13 : Int) (_ : Unit) => ((at' L i13).bind fun x17 => (bif ((x17.At.X == x.At.X) && (x17.At.Y == x.At.Y)) then some (.inr (.inr (.inr false))) else some (.inl ())))) (fun d => sameAt d.At x.At) (.inr false) (fun k z hz => by
      have hz' : L[k]? = some z := by
        have hk : k < i := by have := (List.getElem?_eq_some_iff.1 hz).1; omega
        rw [← hz, List.getElem?_take_of_lt hk]
      rw [at_nat, hz']
      rfl)
    rw [hl] at this
    rw [at_nat, hx, Option.bind_some, spec_pt, l01In_eq, l01In_eq]
    unfold labN
    cases ptB x.At
    · rfl
    cases inB x.Length 1 20
    · rfl
    cases inB x.Priority 1 9
    · rfl
    exact this), firstI_const]
  unfold labsB
  cases (firstI (labN L) (fun _ _ => ()) L 0).isSome <;> simp
/-- Where the covered row starts. -/
def rowX (l : Label) (p : Int) : Int := bif p == 1 || p == 2 then l.At.X - l.Length else l.At.X + 1
def rowY (l : Label) (p : Int) : Int := bif p == 2 || p == 3 then l.At.Y - 1 else l.At.Y + 1
def covP (l : Label) (p : Int) : List Point := bif p == 4 then [] else (List.range l.Length.toNat).map fun (k : Nat) => Point.mk (rowX l p + (k : Int)) (rowY l p)
/-- Is the point covered? -/
def covB (l : Label) (p : Int) (q : Point) : Bool := decide (p < 4) && ((bif decide (p > 1) then -(q.Y - l.At.Y) else q.Y - l.At.Y) == 1 && inB (bif p == 1 || p == 2 then -(q.X - l.At.X) else q.X - l.At.X) 1 l.Length)
theorem mem_cov {l : Label} (hl : LabIn l) {p : Int} (hp : 0 ≤ p) (hp2 : p ≤ 4) (q : Point) : q ∈ covP l p ↔ covB l p q = true := by
  obtain ⟨h1, h2, h3, h4⟩ := hl
  unfold covP covB rowX rowY inB
  have : p = 4 ∨ p = 0 ∨ p = 1 ∨ p = 2 ∨ p = 3 := by omega
  rcases this with rfl | this
  · simp
  have e4 : (p == 4) = false := by rw [beq_eq_false_iff_ne]; omega
  rw [e4, cond_false, List.mem_map]
  obtain ⟨x, y⟩ := q
  constructor
  · rintro ⟨k, hk, he⟩
    have hk := List.mem_range.1 hk
    injection he with e1 e2
    subst e1 e2
    rcases this with rfl | rfl | rfl | rfl <;> simp <;> omega
  · intro h
    rcases this with rfl | rfl | rfl | rfl <;> simp at h
    · exact ⟨(x - l.At.X - 1).toNat, List.mem_range.2 (by omega), by simp; omega⟩
    · exact ⟨(x - l.At.X + l.Length).toNat, List.mem_range.2 (by omega), by simp; omega⟩
    · exact ⟨(x - l.At.X + l.Length).toNat, List.mem_range.2 (by omega), by simp; omega⟩
    · exact ⟨(x - l.At.X - 1).toNat, List.mem_range.2 (by omega), by simp; omega⟩
theorem spec_covers {l : Label} (hl : LabIn l) (p : Int) {q : Point} (h1 : -100000 ≤ q.X) (h2 : q.X ≤ 100000) (h3 : -100000 ≤ q.Y) (h4 : q.Y ≤ 100000) : spec_l33Covers l p q = some (covB l p q) := by
  obtain ⟨k1, k2, k3, k4⟩ := hl
  unfold spec_l33Covers covB spec_l01In
  have a1 : w64 (q.X - l.At.X) = q.X - l.At.X := w64_id (by omega) (by omega)
  have a2 : w64 (q.Y - l.At.Y) = q.Y - l.At.Y := w64_id (by omega) (by omega)
  have a3 : w64 (0 - (q.X - l.At.X)) = -(q.X - l.At.X) := by rw [w64_id (by omega) (by omega)]; omega
  have a4 : w64 (0 - (q.Y - l.At.Y)) = -(q.Y - l.At.Y) := by rw [w64_id (by omega) (by omega)]; omega
  rw [a1, a2, a3, a4]
  cases (p == 1 || p == 2) <;> cases (decide (p > 1)) <;> cases (decide (p < 4)) <;> simp only [cond_true, cond_false, Option.bind_some, Bool.true_and, Bool.false_and]
  · cases (q.Y - l.At.Y == 1) <;> simp [inB]
  · cases (-(q.Y - l.At.Y) == 1) <;> simp [inB]
  · cases (q.Y - l.At.Y == 1) <;> simp [inB]
  · cases (-(q.Y - l.At.Y) == 1) <;> simp [inB]
end Go.Proofs.Ytlhllbiikideeaa.Sh
