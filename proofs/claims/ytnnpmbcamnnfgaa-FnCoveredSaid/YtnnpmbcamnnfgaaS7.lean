/- Steps of a region: in the text's order, and in whatever order is drawn. -/
import Derived.Test.YtnnpmbcamnnfgaaS6
namespace Go.Proofs.Ytnnpmbcamnnfgaa.Sh
open Go.RowKit

def NoQ : Exit → Act → World → Prop := fun _ _ _ => False
/-- What became of an operation: passed over; a value; a value and a new object. -/
abbrev RV := Option (SV × Option SO)
def SS.app (σ : SS) (d : Option Nat) : RV → SS
  | none => σ.drop d
  | some (v, none) => σ.puts d v
  | some (v, some x) => match d with
    | some d => σ.add d v x
    | none => σ
structure Sub (ν σ : SS) : Prop where
  n : ν.n = σ.n
  t : ∀ x ∈ ν.t, x ∈ σ.t
  o : ∀ x ∈ ν.o, x ∈ σ.o
theorem Sub.refl (σ : SS) : Sub σ σ := ⟨rfl, fun _ h => h, fun _ h => h⟩
theorem Sub.rel {ν σ : SS} (h : Sub ν σ) {c : Cx} {S : Nat → Prop} {β : Nat → Value} {a : Act} {w : World} (hr : Rel c S β σ a w) : Rel c S β ν a w :=
  ⟨hr.defers, hr.size.trans h.n.symm, hr.one, hr.grew, hr.s0, hr.s1, hr.lt, fun i v hi => hr.tmp i v (h.t _ hi), fun d x hd => hr.obj d x (h.o _ hd), fun j v hj => ⟨h.n ▸ (hr.pin j v hj).1, fun x hx => (hr.pin j v hj).2 x (h.o _ hx)⟩, fun d x g hd hg => by have := hr.priv d x g (h.o _ hd) hg; rwa [← h.n] at this, fun d x d' x' g hd hd' => hr.apart d x d' x' g (h.o _ hd) (h.o _ hd')⟩
theorem Sub.names {ν σ : SS} (h : Sub ν σ) : ∀ d ∈ ν.names, d ∈ σ.names := fun d hd => by
  unfold SS.names at hd ⊢
  rcases List.mem_append.1 hd with hd | hd
  · obtain ⟨x, hx, hd⟩ := List.mem_flatMap.1 hd
    exact List.mem_append_left _ (List.mem_flatMap.2 ⟨x, h.t x hx, hd⟩)
  · obtain ⟨x, hx, hd⟩ := List.mem_flatMap.1 hd
    exact List.mem_append_right _ (List.mem_flatMap.2 ⟨x, h.o x hx, hd⟩)
def Fresh (r : RV) (d : Option Nat) (σ : SS) : Prop := match r with
  | some (_, some _) => ∀ d', d = some d' → d' ∉ σ.names
  | _ => True
/-- The operation, carried out or passed over. -/
def OpDo (P : Program) (ops : Array Oper) (o : Oper) (a : Act) (w : World) (K : Act → World → Prop) : Prop :=
  if Region.wanted o (yielded ops a.tmps) then o.wp P a w K NoQ else K (a.put o.dst undef) w
/-- The operation does what r says, wherever ν holds. -/
def LStep (P : Program) (ops : Array Oper) (o : Oper) (ν : SS) (r : RV) : Prop :=
  ∀ σ c a w, Sub ν σ → Fresh r o.dst σ → RelE c σ a w → OpDo P ops o a w fun a' w' => RelE c (σ.app o.dst r) a' w'

/-- Is the operation carried out? -/
def gd (ops : Array Oper) (σ : SS) (o : Oper) : Option Bool := match o.guard with
  | none => some true
  | some (j, want) => match (ops[j]?).bind (·.dst) with
    | some g => match find g σ.t with
      | some (.tr (.bool b)) => some (b == want)
      | some (.tup []) => some false
      | _ => none
    | none => none
def okd (σ : SS) (o : Oper) : Bool := match o.dst with
  | some d => decide (d < σ.n)
  | none => true
/-- One step, as far as it can be reckoned. -/
def lstep (tb : Tb) (ops : Array Oper) (ν : SS) (o : Oper) : Option RV :=
  match gd ops ν o with
  | some true =>
    if okd ν o then
      match o.dst with
      | some d => match aop tb ν d o.type o.op with
        | some (v, x) => some (some (v, some x))
        | none => (vop tb ν o.op).map fun v => some (v, none)
      | none => (vop tb ν o.op).map fun v => some (v, none)
    else none
  | some false => if okd ν o then some (some (.tup [], none)) else none
  | none => none
section
variable {P : Program} {tb : Tb} {ops : Array Oper}
theorem gd_ok {c : Cx} {S : Nat → Prop} {β : Nat → Value} {σ : SS} {a : Act} {w : World} (hr : Rel c S β σ a w) {o : Oper} {b : Bool} (h : gd ops σ o = some b) : Region.wanted o (yielded ops a.tmps) = b := by
  unfold gd at h
  unfold Region.wanted
  split at h
  · rename_i hg; rw [hg]; injection h
  · rename_i j want hg
    rw [hg]
    split at h
    · rename_i g hj
      split at h
      · rename_i b' hf
        injection h with h
        obtain ⟨h1, h2⟩ := hr.tmp g _ (mem_of_find hf)
        have hy : yielded ops a.tmps j = some b' := by
          unfold yielded
          rw [hj, Option.bind_some, Array.getElem?_eq_getElem h1]
          rw [Array.getD_eq_getD_getElem?, Array.getElem?_eq_getElem h1, Option.getD_some] at h2
          generalize a.tmps[g] = x at h2
          cases h2 with | tr _ _ h3 => cases h3; rfl
        simp only [hy]
        rw [← h]
        cases b' <;> cases want <;> rfl
      · rename_i hf
        injection h with h
        obtain ⟨h1, h2⟩ := hr.tmp g _ (mem_of_find hf)
        have hy : yielded ops a.tmps j = none := by
          unfold yielded
          rw [hj, Option.bind_some, Array.getElem?_eq_getElem h1]
          rw [Array.getD_eq_getD_getElem?, Array.getElem?_eq_getElem h1, Option.getD_some] at h2
          generalize a.tmps[g] = x at h2
          cases h2
          rfl
        simp only [hy]
        rw [← h]
        cases want <;> rfl
      · cases h
    · cases h
theorem wp_value {o : Oper} {a : Act} {w w' : World} {u : Value} {K : Act → World → Prop} (h : (execOp a.eval o).run P w = .ok (.value u) w') (hk : K (a.put o.dst u) w') : o.wp P a w K NoQ := by
  unfold Oper.wp
  rw [h]
  exact hk
theorem lstep_ok (hP : TbOk P tb) {o : Oper} {ν : SS} {r : RV} (h : lstep tb ops ν o = some r) : LStep P ops o ν r := by
  intro σ c a w hs hf ⟨S, β, hr⟩
  have hν := hs.rel hr
  unfold lstep at h
  unfold OpDo
  split at h
  · rename_i hg
    rw [gd_ok hν hg, if_pos rfl]
    split at h
    · rename_i hd
      have hval : ∀ v, vop tb ν o.op = some v → r = some (v, none) → o.wp P a w (fun a' w' => RelE c (σ.app o.dst r) a' w') NoQ := by
        intro v hv he
        subst he
        obtain ⟨u, h1, h2⟩ := vop_ok hP hν hv
        refine wp_value h1 ⟨S, β, ?_⟩
        cases hdst : o.dst with
        | none => exact hr
        | some d =>
          unfold okd at hd
          rw [hdst] at hd
          exact Rel.put hr (by rw [← hs.n]; simpa using hd) h2
      split at h
      · rename_i d hdst
        split at h
        · rename_i v x ha
          injection h with h
          subst h
          unfold okd at hd
          rw [hdst] at hd
          obtain ⟨u, w', h1, h2, _⟩ := aop_ok hP hr hν hs.names hdst (by rw [← hs.n]; simpa using hd) (hf d hdst) ha
          refine wp_value h1 ?_
          rw [hdst]
          rw [hdst] at h2
          exact h2
        · rw [Option.map_eq_some_iff] at h
          obtain ⟨v, hv, he⟩ := h
          exact hval v hv he.symm
      · rw [Option.map_eq_some_iff] at h
        obtain ⟨v, hv, he⟩ := h
        exact hval v hv he.symm
    · cases h
  · rename_i hg
    split at h
    · rename_i hd
      injection h with h
      subst h
      rw [gd_ok hν hg]
      simp only [Bool.false_eq_true, if_false]
      refine ⟨S, β, ?_⟩
      cases hdst : o.dst with
      | none => exact hr
      | some d =>
        unfold okd at hd
        rw [hdst] at hd
        exact Rel.put hr (by rw [← hs.n]; simpa using hd) (.tup [] #[] rfl (fun j c v h => by simp at h))
    · cases h
  · cases h

/-! In the text's order -/
def SRun (P : Program) (ops : Array Oper) (todo : List Oper) (Q : SS → Prop) (σ : SS) : Prop :=
  ∀ c a w, RelE c σ a w → wpList P ops (fun e a' w' => e = .normal ∧ ∃ σ', Q σ' ∧ RelE c σ' a' w') todo a w
theorem SRun.nil {Q : SS → Prop} {σ : SS} (h : Q σ) : SRun P ops [] Q σ := fun _ _ _ hr => ⟨rfl, σ, h, hr⟩
theorem SRun.le {todo : List Oper} {Q : SS → Prop} {σ σ' : SS} (hl : Le σ σ') (h : SRun P ops todo Q σ') : SRun P ops todo Q σ := fun c a w hr => h c a w (hl c a w hr)
theorem SRun.mono {todo : List Oper} {Q Q' : SS → Prop} {σ : SS} (h : SRun P ops todo Q σ) (hq : ∀ σ, Q σ → Q' σ) : SRun P ops todo Q' σ := by
  intro c a w hr
  have h0 := h c a w hr
  clear hr h
  revert h0
  induction todo generalizing a w with
  | nil => exact fun ⟨h1, s, h2, h3⟩ => ⟨h1, s, hq s h2, h3⟩
  | cons o rest ih =>
    intro h
    unfold wpList at h ⊢
    split
    · rename_i hw
      rw [if_pos hw] at h
      rcases h with h | ⟨h, a0, w0, h0, _⟩
      · left
        unfold Oper.wp at *
        generalize (execOp a.eval o).run P w = r at *
        cases r with
        | ok n w' =>
          cases n <;> simp only [Oper.upon] at h ⊢ <;>
            first
              | exact ih _ _ h
              | exact Calls.mono h (fun e w'' he => by
                  cases e with
                  | returned v => exact ih _ _ he
                  | panicked ch => exact absurd he.1 (by simp)
                  | outgrown => obtain ⟨a0, w0, h0, _⟩ := he; exact absurd h0 (by simp))
              | exact Rows.mono h (fun _ _ he => ih _ _ he)
              | exact absurd h.1 (by simp)
              | exact h
        | halt x w' =>
          cases x <;> simp only [Oper.upon] at h ⊢ <;> first | exact absurd h.1 (by simp) | exact h
      · exact absurd h0 (by simp)
    · rename_i hw
      rw [if_neg hw] at h
      exact ih _ _ h
theorem OpDo.list {o : Oper} {rest : List Oper} {a : Act} {w : World} {Q : Exit → Act → World → Prop} {K : Act → World → Prop} (h : OpDo P ops o a w K) (hk : ∀ a w, K a w → wpList P ops Q rest a w) : wpList P ops Q (o :: rest) a w := by
  unfold OpDo at h
  unfold wpList
  split
  · rename_i hw
    rw [if_pos hw] at h
    left
    unfold Oper.wp at *
    generalize (execOp a.eval o).run P w = r at *
    cases r with
    | ok n w' =>
      cases n <;> simp only [Oper.upon] at h ⊢ <;>
        first
          | exact hk _ _ h
          | exact Calls.mono h (fun e w'' he => by
              cases e with
              | returned v => exact hk _ _ he
              | panicked ch => exact he.elim
              | outgrown => obtain ⟨a0, w0, h0⟩ := he; exact h0.elim)
          | exact Rows.mono h (fun _ _ he => hk _ _ he)
          | exact h.elim
    | halt x w' => cases x <;> simp only [Oper.upon] at h ⊢ <;> first | exact h.elim | exact (h : False).elim
  · rename_i hw
    rw [if_neg hw] at h
    exact hk _ _ h
/-- One step at a time. -/
theorem SRun.step {o : Oper} {rest : List Oper} {Q : SS → Prop} {σ : SS} {r : RV} (h : LStep P ops o σ r) (hf : Fresh r o.dst σ) (k : SRun P ops rest Q (σ.app o.dst r)) : SRun P ops (o :: rest) Q σ :=
  fun c a w hr => (h σ c a w (Sub.refl σ) hf hr).list fun a' w' hr' => k c a' w' hr'
def freshB (r : RV) (d : Option Nat) (σ : SS) : Bool := match r, d with
  | some (_, some _), some d' => !σ.names.contains d'
  | _, _ => true
theorem freshB_ok {r : RV} {d : Option Nat} {σ : SS} (h : freshB r d σ = true) : Fresh r d σ := by
  unfold Fresh
  split
  · intro d' hd
    subst hd
    simp only [freshB, Bool.not_eq_true', List.contains_eq_mem, decide_eq_false_iff_not] at h
    exact h
  · trivial
/-- Some steps that can be reckoned. -/
def seqN (tb : Tb) (ops : Array Oper) : Nat → List Oper → SS → Option SS
  | 0, _, σ => some σ
  | n + 1, o :: rest, σ => match lstep tb ops σ o with
    | some r => if freshB r o.dst σ then seqN tb ops n rest (σ.app o.dst r) else none
    | none => none
  | _ + 1, [], _ => none
theorem SRun.chunk (hP : TbOk P tb) {Q : SS → Prop} {σ' : SS} : ∀ (n : Nat) {todo : List Oper} {σ : SS}, seqN tb ops n todo σ = some σ' → SRun P ops (todo.drop n) Q σ' → SRun P ops todo Q σ
  | 0, todo, σ, h, k => by
    injection h with h
    subst h
    exact k
  | n + 1, [], σ, h, _ => by cases h
  | n + 1, o :: rest, σ, h, k => by
    unfold seqN at h
    split at h
    · rename_i r hr
      split at h
      · rename_i hf
        exact SRun.step (lstep_ok hP hr) (freshB_ok hf) (SRun.chunk hP n h k)
      · cases h
    · cases h
end
end Go.Proofs.Ytnnpmbcamnnfgaa.Sh
