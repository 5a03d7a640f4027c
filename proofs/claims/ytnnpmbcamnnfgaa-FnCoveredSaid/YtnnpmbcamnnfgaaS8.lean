/- A region that draws its order: what the text's order does, every order does. -/
import Derived.Test.YtnnpmbcamnnfgaaS7
namespace Go.Proofs.Ytnnpmbcamnnfgaa.Sh
open Go.RowKit

/-- What an operation can look at. -/
def nu (ops : Array Oper) (o0 : List (Nat × SO)) (o : Oper) (σ : SS) : SS := ⟨σ.n, σ.t.filter (fun p => (o.looksAt ops).contains p.1), o0⟩
inductive DRun (P : Program) (ops : Array Oper) (σ0 : SS) : List (Oper × RV) → SS → Prop
  | nil : DRun P ops σ0 [] σ0
  | snoc {l : List (Oper × RV)} {σ : SS} {o : Oper} {r : RV} (h : DRun P ops σ0 l σ) (hs : LStep P ops o (nu ops σ0.o o σ) r) : DRun P ops σ0 (l ++ [(o, r)]) (σ.app o.dst r)
def stA (σ0 : SS) (l : List (Oper × RV)) (j : Nat) : SS := (l.take j).foldl (fun σ x => σ.app x.1.dst x.2) σ0
/-- The slot's entry that a step leaves. -/
def entT (x : Oper × RV) : Option (Nat × SV) := match x.1.dst, x.2 with
  | some d, some (v, _) => some (d, v)
  | _, _ => none
def entO (x : Oper × RV) : Option (Nat × SO) := match x.1.dst, x.2 with
  | some d, some (_, some y) => some (d, y)
  | _, _ => none
def waits (o : Oper) (i : Nat) : Bool := o.after.any fun e => Region.binds .any e && e.on == i
def rvNames : RV → List Nat
  | none => []
  | some (v, none) => v.names
  | some (v, some x) => v.names ++ x.names
def isNew : RV → Bool
  | some (_, some _) => true
  | _ => false
/-- Edges go back; each slot is written once; who looks at a slot is ordered with its writer; a new object's name is new, and is spoken of by those alone that wait for it. -/
def ordB (ops : Array Oper) (names0 : List Nat) (l : List (Oper × RV)) : Bool :=
  l.zipIdx.all fun p => let o := p.1.1; let j := p.2
    (o.after.all fun e => !Region.binds .any e || decide (e.on < j)) &&
    l.zipIdx.all fun q => let o' := q.1.1; let i := q.2
      (i == j ||
      ((match o.dst, o'.dst with | some d, some d' => d != d' | _, _ => true) &&
       (match o'.dst with | some d' => !(o.looksAt ops).contains d' || (if i < j then waits o i else waits o' j) | none => true) &&
       (match o.dst with | some d => !isNew p.1.2 || (!(rvNames q.1.2).contains d || waits o' j) | none => true))) &&
      (match o.dst with | some d => !isNew p.1.2 || !names0.contains d | none => true)
section
variable {P : Program} {ops : Array Oper}
theorem stA_succ (σ0 : SS) (l : List (Oper × RV)) {j : Nat} {x : Oper × RV} (h : l[j]? = some x) : stA σ0 l (j + 1) = (stA σ0 l j).app x.1.dst x.2 := by
  obtain ⟨hj, rfl⟩ := List.getElem?_eq_some_iff.1 h
  unfold stA
  rw [List.take_succ_eq_append_getElem hj, List.foldl_append]
  rfl
theorem DRun.steps {σ0 σ : SS} {l : List (Oper × RV)} (h : DRun P ops σ0 l σ) : σ = stA σ0 l l.length ∧ ∀ (j : Nat) o r, l[j]? = some (o, r) → LStep P ops o (nu ops σ0.o o (stA σ0 l j)) r := by
  induction h with
  | nil => exact ⟨rfl, by simp⟩
  | @snoc l σ o r h hs ih =>
    obtain ⟨h1, h2⟩ := ih
    have hst : ∀ j, j ≤ l.length → stA σ0 (l ++ [(o, r)]) j = stA σ0 l j := fun j hj => by
      unfold stA
      rw [List.take_append_of_le_length hj]
    refine ⟨?_, fun j o' r' hj => ?_⟩
    · rw [List.length_append, List.length_singleton, stA_succ σ0 _ (x := (o, r)) (by simp), hst _ (Nat.le_refl _), ← h1]
    · by_cases hlt : j < l.length
      · rw [hst j (by omega)]
        exact h2 j o' r' (by rwa [List.getElem?_append_left hlt] at hj)
      · have hle : j < l.length + 1 := by
          have := (List.getElem?_eq_some_iff.1 hj).1
          simpa using this
        obtain rfl : j = l.length := by omega
        simp at hj
        obtain ⟨rfl, rfl⟩ := hj
        rw [hst _ (Nat.le_refl _), ← h1]
        exact hs
/-- Entries after some steps. -/
theorem app_t {σ : SS} {d : Option Nat} {r : RV} {p : Nat × SV} (h : p ∈ (σ.app d r).t) : (p ∈ σ.t ∧ d ≠ some p.1) ∨ (∃ y, d = some p.1 ∧ r = some (p.2, y)) := by
  have hput : ∀ {d : Nat} {v : SV}, p ∈ (σ.put d v).t → (p ∈ σ.t ∧ some d ≠ some p.1) ∨ p = (d, v) := fun {d v} h => by
    rcases List.mem_cons.1 h with h | h
    · exact .inr h
    · have h2 := List.mem_filter.1 h
      refine .inl ⟨h2.1, fun e => ?_⟩
      injection e with e
      simp [e] at h2
  unfold SS.app at h
  split at h
  · cases d with
    | none => exact .inl ⟨h, by simp⟩
    | some d =>
      have h2 := List.mem_filter.1 h
      refine .inl ⟨h2.1, fun e => ?_⟩
      injection e with e
      simp [e] at h2
  · rename_i v
    cases d with
    | none => exact .inl ⟨h, by simp⟩
    | some d =>
      rcases hput h with h | rfl
      · exact .inl h
      · exact .inr ⟨_, rfl, rfl⟩
  · rename_i v x
    cases d with
    | none => exact .inl ⟨h, by simp⟩
    | some d =>
      rcases List.mem_cons.1 h with rfl | h
      · exact .inr ⟨_, rfl, rfl⟩
      · have h2 := List.mem_filter.1 h
        refine .inl ⟨h2.1, fun e => ?_⟩
        injection e with e
        simp [e] at h2
theorem app_o {σ : SS} {d : Option Nat} {r : RV} {p : Nat × SO} (h : p ∈ (σ.app d r).o) : p ∈ σ.o ∨ ∃ v, d = some p.1 ∧ r = some (v, some p.2) := by
  unfold SS.app at h
  split at h
  · cases d <;> exact .inl h
  · cases d <;> exact .inl h
  · rename_i v x
    cases d with
    | none => exact .inl h
    | some d =>
      rcases List.mem_cons.1 h with rfl | h
      · exact .inr ⟨v, rfl, rfl⟩
      · exact .inl h
theorem app_n (σ : SS) (d : Option Nat) (r : RV) : (σ.app d r).n = σ.n := by
  unfold SS.app
  split <;> cases d <;> rfl
/-- The other way round. -/
theorem t_app {σ : SS} {d : Option Nat} {r : RV} {p : Nat × SV} (h : p ∈ σ.t) (hd : d ≠ some p.1) : p ∈ (σ.app d r).t := by
  have hf : ∀ d', d = some d' → p ∈ σ.t.filter (fun q => q.1 != d') := fun d' e => List.mem_filter.2 ⟨h, by
    simp only [bne_iff_ne, ne_eq]
    intro e'
    exact hd (by rw [e, e'])⟩
  unfold SS.app
  split
  · cases d with
    | none => exact h
    | some d => exact hf d rfl
  · cases d with
    | none => exact h
    | some d => exact List.mem_cons_of_mem _ (hf d rfl)
  · cases d with
    | none => exact h
    | some d => exact List.mem_cons_of_mem _ (hf d rfl)
theorem t_app_new {σ : SS} {d : Nat} {v : SV} {y : Option SO} : (d, v) ∈ (σ.app (some d) (some (v, y))).t := by
  cases y <;> exact List.mem_cons_self
theorem o_app {σ : SS} {d : Option Nat} {r : RV} {p : Nat × SO} (h : p ∈ σ.o) : p ∈ (σ.app d r).o := by
  unfold SS.app
  split
  · cases d <;> exact h
  · cases d <;> exact h
  · cases d with
    | none => exact h
    | some d => exact List.mem_cons_of_mem _ h
theorem o_app_new {σ : SS} {d : Nat} {v : SV} {y : SO} : (d, y) ∈ (σ.app (some d) (some (v, some y))).o := List.mem_cons_self
theorem stA_n (σ0 : SS) (l : List (Oper × RV)) : ∀ j, (stA σ0 l j).n = σ0.n
  | 0 => rfl
  | j + 1 => by
    rcases hj : l[j]? with _ | x
    · have hl := List.getElem?_eq_none_iff.1 hj
      unfold stA
      rw [List.take_of_length_le (by omega), ← List.take_of_length_le hl]
      exact stA_n σ0 l j
    · rw [stA_succ σ0 l hj, app_n]
      exact stA_n σ0 l j
theorem stA_t (σ0 : SS) (l : List (Oper × RV)) : ∀ (j : Nat) {p : Nat × SV}, j ≤ l.length → p ∈ (stA σ0 l j).t → (p ∈ σ0.t ∧ ∀ i x, i < j → l[i]? = some x → x.1.dst ≠ some p.1) ∨ ∃ i x, i < j ∧ l[i]? = some x ∧ entT x = some p
  | 0, p, _, h => .inl ⟨h, fun i x hi => by omega⟩
  | j + 1, p, hj, h => by
    have hx : l[j]? = some (l[j]'(by omega)) := List.getElem?_eq_getElem _
    rw [stA_succ σ0 l hx] at h
    rcases app_t h with ⟨h1, h2⟩ | ⟨y, h1, h2⟩
    · rcases stA_t σ0 l j (by omega) h1 with ⟨h3, h4⟩ | ⟨i, x, h3, h4, h5⟩
      · refine .inl ⟨h3, fun i x hi hl => ?_⟩
        by_cases hij : i < j
        · exact h4 i x hij hl
        · obtain rfl : i = j := by omega
          rw [hx] at hl
          injection hl with hl
          subst hl
          exact h2
      · exact .inr ⟨i, x, by omega, h4, h5⟩
    · refine .inr ⟨j, _, by omega, hx, ?_⟩
      unfold entT
      rw [h1, h2]
theorem stA_o (σ0 : SS) (l : List (Oper × RV)) : ∀ (j : Nat) {p : Nat × SO}, j ≤ l.length → p ∈ (stA σ0 l j).o → p ∈ σ0.o ∨ ∃ i x, i < j ∧ l[i]? = some x ∧ entO x = some p
  | 0, p, _, h => .inl h
  | j + 1, p, hj, h => by
    have hx : l[j]? = some (l[j]'(by omega)) := List.getElem?_eq_getElem _
    rw [stA_succ σ0 l hx] at h
    rcases app_o h with h1 | ⟨y, h1, h2⟩
    · rcases stA_o σ0 l j (by omega) h1 with h3 | ⟨i, x, h3, h4, h5⟩
      · exact .inl h3
      · exact .inr ⟨i, x, by omega, h4, h5⟩
    · refine .inr ⟨j, _, by omega, hx, ?_⟩
      unfold entO
      rw [h1, h2]

/-- The state when just the steps of L have been made. -/
def stL (σ0 : SS) (l : List (Oper × RV)) (L : Nat → Bool) : SS :=
  ⟨σ0.n, (σ0.t.filter fun p => l.zipIdx.all fun x => !L x.2 || x.1.1.dst != some p.1) ++ l.zipIdx.filterMap (fun x => if L x.2 then entT x.1 else none), σ0.o ++ l.zipIdx.filterMap (fun x => if L x.2 then entO x.1 else none)⟩
theorem mem_zip {α : Type} {l : List α} {x : α} {i : Nat} : (x, i) ∈ l.zipIdx ↔ l[i]? = some x := by
  rw [List.mem_zipIdx_iff_getElem?]
theorem stL_t {σ0 : SS} {l : List (Oper × RV)} {L : Nat → Bool} {p : Nat × SV} : p ∈ (stL σ0 l L).t ↔ (p ∈ σ0.t ∧ ∀ i x, l[i]? = some x → L i = true → x.1.dst ≠ some p.1) ∨ ∃ i x, l[i]? = some x ∧ L i = true ∧ entT x = some p := by
  unfold stL
  simp only [List.mem_append, List.mem_filter, List.mem_filterMap, List.all_eq_true]
  constructor
  · rintro (⟨h1, h2⟩ | ⟨⟨x, i⟩, h1, h2⟩)
    · refine .inl ⟨h1, fun i x hi hL => ?_⟩
      have := h2 (x, i) (mem_zip.2 hi)
      simpa [hL] using this
    · split at h2
      · exact .inr ⟨i, x, mem_zip.1 h1, by assumption, h2⟩
      · cases h2
  · rintro (⟨h1, h2⟩ | ⟨i, x, h1, h2, h3⟩)
    · refine .inl ⟨h1, fun ⟨x, i⟩ hx => ?_⟩
      cases hL : L i
      · simp [hL]
      · simpa [hL] using h2 i x (mem_zip.1 hx) hL
    · exact .inr ⟨(x, i), mem_zip.2 h1, by simp [h2, h3]⟩
theorem stL_o {σ0 : SS} {l : List (Oper × RV)} {L : Nat → Bool} {p : Nat × SO} : p ∈ (stL σ0 l L).o ↔ p ∈ σ0.o ∨ ∃ i x, l[i]? = some x ∧ L i = true ∧ entO x = some p := by
  unfold stL
  simp only [List.mem_append, List.mem_filterMap]
  constructor
  · rintro (h1 | ⟨⟨x, i⟩, h1, h2⟩)
    · exact .inl h1
    · split at h2
      · exact .inr ⟨i, x, mem_zip.1 h1, by assumption, h2⟩
      · cases h2
  · rintro (h1 | ⟨i, x, h1, h2, h3⟩)
    · exact .inl h1
    · exact .inr ⟨(x, i), mem_zip.2 h1, by simp [h2, h3]⟩

structure Ord (ops : Array Oper) (names0 : List Nat) (l : List (Oper × RV)) : Prop where
  back : ∀ (j : Nat) x, l[j]? = some x → ∀ e ∈ x.1.after, Region.binds .any e = true → e.on < j
  dst : ∀ (j i : Nat) x y, l[j]? = some x → l[i]? = some y → i ≠ j → ∀ d, x.1.dst = some d → y.1.dst ≠ some d
  look : ∀ (j i : Nat) x y, l[j]? = some x → l[i]? = some y → i ≠ j → ∀ d, y.1.dst = some d → d ∈ x.1.looksAt ops → if i < j then waits x.1 i = true else waits y.1 j = true
  new : ∀ (j i : Nat) x y, l[j]? = some x → l[i]? = some y → i ≠ j → ∀ d, x.1.dst = some d → isNew x.2 = true → d ∈ rvNames y.2 → waits y.1 j = true
  new0 : ∀ (j : Nat) x, l[j]? = some x → ∀ d, x.1.dst = some d → isNew x.2 = true → d ∉ names0
theorem ord_of {names0 : List Nat} {l : List (Oper × RV)} (h : ordB ops names0 l = true) : Ord ops names0 l := by
  unfold ordB at h
  rw [List.all_eq_true] at h
  have hb : ∀ (j : Nat) x, l[j]? = some x → (x.1.after.all fun e => !Region.binds .any e || decide (e.on < j)) = true ∧ ∀ (i : Nat) y, l[i]? = some y → (i == j ||
      ((match x.1.dst, y.1.dst with | some d, some d' => d != d' | _, _ => true) &&
       (match y.1.dst with | some d' => !(x.1.looksAt ops).contains d' || (if i < j then waits x.1 i else waits y.1 j) | none => true) &&
       (match x.1.dst with | some d => !isNew x.2 || (!(rvNames y.2).contains d || waits y.1 j) | none => true))) = true ∧
      (match x.1.dst with | some d => !isNew x.2 || !names0.contains d | none => true) = true := by
    intro j x hj
    have h1 := h (x, j) (mem_zip.2 hj)
    simp only [Bool.and_eq_true, List.all_eq_true] at h1
    refine ⟨h1.1, fun i y hi => ?_⟩
    have h2 := h1.2 (y, i) (mem_zip.2 hi)
    simpa only [Bool.and_eq_true] using h2
  have hp : ∀ (j i : Nat) x y, l[j]? = some x → l[i]? = some y → i ≠ j →
      (match x.1.dst, y.1.dst with | some d, some d' => d != d' | _, _ => true) = true ∧
       (match y.1.dst with | some d' => !(x.1.looksAt ops).contains d' || (if i < j then waits x.1 i else waits y.1 j) | none => true) = true ∧
       (match x.1.dst with | some d => !isNew x.2 || (!(rvNames y.2).contains d || waits y.1 j) | none => true) = true := by
    intro j i x y hj hi hne
    have h1 := ((hb j x hj).2 i y hi).1
    rw [Bool.or_eq_true] at h1
    rcases h1 with h1 | h1
    · exact absurd (by simpa using h1) hne
    · simp only [Bool.and_eq_true] at h1
      exact ⟨h1.1.1, h1.1.2, h1.2⟩
  refine ⟨fun j x hj e he hbd => ?_, fun j i x y hj hi hne d hx hy => ?_, fun j i x y hj hi hne d hy hl => ?_, fun j i x y hj hi hne d hx hnew hm => ?_, fun j x hj d hx hnew hm => ?_⟩
  · have h1 := (hb j x hj).1
    rw [Array.all_eq_true'] at h1
    have h3 := h1 e he
    rw [hbd] at h3
    exact of_decide_eq_true h3
  · have h1 := (hp j i x y hj hi hne).1
    rw [hx, hy] at h1
    simp at h1
  · have h1 := (hp j i x y hj hi hne).2.1
    rw [hy] at h1
    simp only [Bool.or_eq_true, Bool.not_eq_true', List.contains_eq_mem, decide_eq_false_iff_not] at h1
    rcases h1 with h1 | h1
    · exact absurd hl h1
    · split at h1 <;> rename_i hij
      · rw [if_pos hij]; exact h1
      · rw [if_neg hij]; exact h1
  · have h1 := (hp j i x y hj hi hne).2.2
    rw [hx, hnew] at h1
    simp only [Bool.not_true, Bool.false_or, Bool.or_eq_true, Bool.not_eq_true', List.contains_eq_mem, decide_eq_false_iff_not] at h1
    rcases h1 with h1 | h1
    · exact absurd hm h1
    · exact h1
  · have h1 := ((hb j x hj).2 j x hj).2
    rw [hx, hnew] at h1
    simp only [Bool.not_true, Bool.false_or, Bool.not_eq_true', List.contains_eq_mem, decide_eq_false_iff_not] at h1
    exact h1 hm
theorem waits_iff {o : Oper} {i : Nat} (h : waits o i = true) : ∃ e ∈ o.after, Region.binds .any e = true ∧ e.on = i := by
  unfold waits at h
  rw [Array.any_eq_true'] at h
  obtain ⟨e, h1, h2⟩ := h
  simp only [Bool.and_eq_true, beq_iff_eq] at h2
  exact ⟨e, h1, h2.1, h2.2⟩
end
end Go.Proofs.Ytnnpmbcamnnfgaa.Sh
