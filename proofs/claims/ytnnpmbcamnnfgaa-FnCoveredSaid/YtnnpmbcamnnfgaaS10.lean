/- Code by its shadow: the rules for each form of code. -/
import Derived.Test.YtnnpmbcamnnfgaaS9
namespace Go.Proofs.Ytnnpmbcamnnfgaa.Sh
open Go.RowKit
def swp (P : Program) (c : Code) (Q : Exit → SS → Prop) (σ : SS) : Prop := ∀ cx a w, RelE cx σ a w → c.wp P (fun e a' w' => ∃ σ', Q e σ' ∧ RelE cx σ' a' w') a w
def nx (k : SS → Prop) (Q : Exit → SS → Prop) : Exit → SS → Prop
  | .normal, σ => k σ
  | e, σ => Q e σ
def atB (id : Nat) (Q : Exit → SS → Prop) : Exit → SS → Prop
  | .exit i, σ => if i = id then Q .normal σ else Q (.exit i) σ
  | e, σ => Q e σ
section
variable {P : Program} {Q Q' : Exit → SS → Prop} {σ σ' : SS}
theorem swp_mono {c : Code} (h : swp P c Q σ) (hq : ∀ e s, Q e s → Q' e s) : swp P c Q' σ := fun cx a w hr => wp_mono (h cx a w hr) fun e _ _ ⟨s, h1, h2⟩ => ⟨s, hq e s h1, h2⟩
theorem swp_le {c : Code} (hl : Le σ σ') (h : swp P c Q σ') : swp P c Q σ := fun cx a w hr => h cx a w (hl cx a w hr)
theorem swp_skip (h : Q .normal σ) : swp P .skip Q σ := fun _ _ _ hr => wp_skip ⟨σ, h, hr⟩
theorem swp_ret (h : Q .ret σ) : swp P .ret Q σ := fun _ _ _ hr => wp_ret ⟨σ, h, hr⟩
theorem swp_exit {id : Nat} (h : Q (.exit id) σ) : swp P (.exit id) Q σ := fun _ _ _ hr => wp_exit ⟨σ, h, hr⟩
theorem swp_seq {x y : Code} (h : swp P x (nx (swp P y Q) Q) σ) : swp P (.seq x y) Q σ := fun cx a w hr => wp_seq (wp_mono (h cx a w hr) fun e a' w' ⟨s, h1, h2⟩ => by
  cases e with
  | normal => exact h1 cx a' w' h2
  | _ => exact ⟨s, h1, h2⟩)
theorem swp_cond {c : Operand} {x y : Code} {b : Bool} (hc : ev σ c = some (.tr (.bool b))) (ht : b = true → swp P x Q σ) (hf : b = false → swp P y Q σ) : swp P (.cond c x y) Q σ := fun cx a w hr => by
  obtain ⟨S, β, hr'⟩ := hr
  have h := ev_ok hr' hc
  have hb : a.eval c = .bool b := by
    generalize a.eval c = v at h
    cases h with | tr _ _ h => cases h; rfl
  exact wp_cond_split hb (fun hb => ht hb cx a w ⟨S, β, hr'⟩) (fun hb => hf hb cx a w ⟨S, β, hr'⟩)
theorem swp_block {id : Nat} {c : Code} (h : swp P c (atB id Q) σ) : swp P (.block id c) Q σ := fun cx a w hr => wp_block (wp_mono (h cx a w hr) fun e a' w' ⟨s, h1, h2⟩ => by
  cases e with
  | exit i =>
    unfold atB at h1
    unfold Exit.inBlock
    by_cases hi : i = id
    · simp only [hi, if_true] at h1 ⊢; exact ⟨s, h1, h2⟩
    · simp only [hi, if_false] at h1 ⊢; exact ⟨s, h1, h2⟩
  | _ => exact ⟨s, h1, h2⟩)

/-! Loops -/
def loopN {α A : Type} (body : α → Option (α ⊕ A)) : Nat → α → Option A
  | 0, _ => none
  | n + 1, s => match body s with
    | none => none
    | some (.inl s') => loopN body n s'
    | some (.inr r) => some r
theorem loopN_more {α A : Type} {body : α → Option (α ⊕ A)} : ∀ {n : Nat} {s : α} {r : A} {m : Nat}, loopN body n s = some r → n ≤ m → loopN body m s = some r
  | 0, _, _, _, h, _ => by cases h
  | n + 1, s, r, 0, _, hm => by omega
  | n + 1, s, r, m + 1, h, hm => by
    unfold loopN at h ⊢
    rcases hb : body s with _ | s' | r'
    · rw [hb] at h; cases h
    · rw [hb] at h; exact loopN_more h (by omega)
    · rw [hb] at h; exact h
open Classical in
/-- A loop's answer: that of as many rounds as it needs. -/
noncomputable def loop {α A : Type} (body : α → Option (α ⊕ A)) (s : α) : Option A := if h : ∃ r n, loopN body n s = some r then some (Classical.choose h) else none
theorem loop_of {α A : Type} {body : α → Option (α ⊕ A)} {n : Nat} {s : α} {r : A} (h : loopN body n s = some r) : loop body s = some r := by
  unfold loop
  have hx : ∃ r n, loopN body n s = some r := ⟨r, n, h⟩
  rw [dif_pos hx]
  obtain ⟨m, hm⟩ := Classical.choose_spec hx
  have h1 := loopN_more h (Nat.le_max_left n m)
  have h2 := loopN_more hm (Nat.le_max_right n m)
  rw [h1] at h2
  exact h2.symm
theorem loop_some {α A : Type} {body : α → Option (α ⊕ A)} {s : α} {r : A} (h : loop body s = some r) : ∃ n, loopN body n s = some r := by
  unfold loop at h
  split at h
  · rename_i hx
    obtain ⟨n, hn⟩ := Classical.choose_spec hx
    injection h with h
    exact ⟨n, by rw [← h]; exact hn⟩
  · cases h
theorem loop_eq {α A : Type} (body : α → Option (α ⊕ A)) (s : α) : loop body s = match body s with
    | none => none
    | some (.inl s') => loop body s'
    | some (.inr r) => some r := by
  rcases hb : body s with _ | s' | r
  · rcases hl : loop body s with _ | r
    · rfl
    · obtain ⟨n, hn⟩ := loop_some hl
      cases n with
      | zero => cases hn
      | succ n => unfold loopN at hn; rw [hb] at hn; cases hn
  · simp only []
    rcases hl : loop body s' with _ | r
    · rcases hl2 : loop body s with _ | r
      · rfl
      · obtain ⟨n, hn⟩ := loop_some hl2
        cases n with
        | zero => cases hn
        | succ n =>
          unfold loopN at hn
          rw [hb] at hn
          rw [loop_of hn] at hl
          cases hl
    · obtain ⟨n, hn⟩ := loop_some hl
      exact loop_of (n := n + 1) (by unfold loopN; rw [hb]; exact hn)
  · exact loop_of (n := 1) (by unfold loopN; rw [hb])
theorem swp_loop {α A : Type} {c : Code} (body : α → Option (α ⊕ A)) (st : α → SS) (QA : A → Exit → SS → Prop)
    (hb : ∀ s x, body s = some x → swp P c (match x with | .inl s' => fun e σ' => e = .normal ∧ Le σ' (st s') | .inr r => fun e σ' => e ≠ .normal ∧ QA r e σ') (st s))
    {s : α} {r : A} (h : loop body s = some r) : swp P (.loop c) (QA r) (st s) := by
  obtain ⟨n, hn⟩ := loop_some h
  intro cx a w hr b k cs
  have key : ∀ n s a w, loopN body n s = some r → RelE cx (st s) a w →
      ∃ e a' w', (∃ σ', QA r e σ' ∧ RelE cx σ' a' w') ∧ Arrives P (lone (b.at a (.code c :: .inLoop c :: k)) cs w) b k cs e a' w' := by
    intro n
    induction n with
    | zero => intro s a w h; cases h
    | succ n ih =>
      intro s a w hl hr
      unfold loopN at hl
      split at hl
      · cases hl
      · rename_i s' hs
        obtain ⟨e, a₁, w₁, ⟨σ', hq, hr'⟩, harr⟩ := hb s _ hs cx a w hr b (.inLoop c :: k) cs
        obtain ⟨rfl, hle⟩ := hq
        obtain ⟨e₂, a₂, w₂, hq₂, harr₂⟩ := ih s' a₁ w₁ hl (hle cx a₁ w₁ hr')
        exact ⟨e₂, a₂, w₂, hq₂, .of_steps (Steps.trans harr (.one step_inLoop)) harr₂⟩
      · rename_i r' hs
        injection hl with hl
        subst hl
        obtain ⟨e, a₁, w₁, ⟨σ', hq, hr'⟩, harr⟩ := hb s _ hs cx a w hr b (.inLoop c :: k) cs
        obtain ⟨hne, hq⟩ := hq
        exact ⟨e, a₁, w₁, ⟨σ', hq, hr'⟩, .pass (x := .inLoop c) rfl (fun _ _ => .inl hne) harr⟩
  obtain ⟨e, a', w', hq, harr⟩ := key n s a w hn hr
  exact ⟨e, a', w', hq, .of_steps (.one step_loop) harr⟩

/-! Regions -/
theorem swp_region {id : Nat} {ops : Array Oper} {K : SS → Prop} (h : SRun P ops ops.toList K σ) (hk : ∀ s, K s → Q .normal s) : swp P (.region id ops false) Q σ := fun cx a w hr =>
  wp_mono (wp_region_list (h cx a w hr)) fun e _ _ ⟨he, s, h1, h2⟩ => by subst he; exact ⟨s, hk s h1, h2⟩
/-- Where a drawn region stands: what has been done, what the slots say, what is to do. -/
def DGo (P : Program) (ops : Array Oper) (σ0 : SS) (K : SS → Prop) (done : List (Oper × RV)) (σ : SS) (todo : List Oper) : Prop :=
  DRun P ops σ0 done σ → done.map (·.1) ++ todo = ops.toList → ∀ cx a w, RelE cx σ0 a w → wpAny P .any ops (fun e a' w' => e = .normal ∧ ∃ s, K s ∧ RelE cx s a' w') ops.size (Array.replicate ops.size false) a w.drew
theorem DGo.step {ops : Array Oper} {σ0 : SS} {K : SS → Prop} {done : List (Oper × RV)} {o : Oper} {todo : List Oper} {r : RV} (h : LStep P ops o (nu ops σ0.o o σ) r) (k : DGo P ops σ0 K (done ++ [(o, r)]) (σ.app o.dst r) todo) : DGo P ops σ0 K done σ (o :: todo) :=
  fun hd hl => k (.snoc hd h) (by rw [← hl]; simp)
def dseqN (tb : Tb) (ops : Array Oper) (o0 : List (Nat × SO)) : Nat → List (Oper × RV) → SS → List Oper → Option (List (Oper × RV) × SS)
  | 0, done, σ, _ => some (done, σ)
  | n + 1, done, σ, o :: rest => match lstep tb ops (nu ops o0 o σ) o with
    | some r => dseqN tb ops o0 n (done ++ [(o, r)]) (σ.app o.dst r) rest
    | none => none
  | _ + 1, _, _, [] => none
theorem DGo.chunk {tb : Tb} (hP : TbOk P tb) {ops : Array Oper} {σ0 : SS} {K : SS → Prop} {done' : List (Oper × RV)} : ∀ (n : Nat) {done : List (Oper × RV)} {todo : List Oper} {σ σ' : SS}, dseqN tb ops σ0.o n done σ todo = some (done', σ') → DGo P ops σ0 K done' σ' (todo.drop n) → DGo P ops σ0 K done σ todo
  | 0, done, todo, σ, σ', h, k => by
    injection h with h
    injection h with h1 h2
    subst h1 h2
    exact k
  | n + 1, done, [], σ, σ', h, _ => by cases h
  | n + 1, done, o :: rest, σ, σ', h, k => by
    unfold dseqN at h
    split at h
    · rename_i r hr
      exact DGo.step (lstep_ok hP hr) (DGo.chunk hP n h k)
    · cases h
theorem DGo.nil {ops : Array Oper} {σ0 : SS} {K : SS → Prop} {done : List (Oper × RV)} (hb : ordB ops σ0.names done = true) (h : K σ) : DGo P ops σ0 K done σ [] := by
  intro hd hl cx a w hr
  obtain ⟨h1, h2⟩ := hd.steps
  have hr' : RelE cx σ0 a w.drew := by
    obtain ⟨S, β, hr⟩ := hr
    exact ⟨S, β, hr.world (Grew.drew _ _)⟩
  refine any_law (names0 := σ0.names) (by simpa using hl) (ord_of hb) (fun d hd => hd) h2 (c := cx) (fun a w hr => ⟨rfl, σ, h, by rw [h1]; exact hr⟩) _ _ _ _ (by simp) (by
    refine Nat.le_trans (List.length_filter_le _ _) (by simp)) (fun j x _ hL => ?_) (Le.sub (σ := σ0) (σ' := stL σ0 done (lsd (Array.replicate ops.size false))) rfl (fun p hp => ?_) (fun p hp => ?_) cx a w.drew hr')
  · exfalso
    simp [Array.getD] at hL
  · rcases stL_t.1 hp with ⟨h1, _⟩ | ⟨i, x, _, hL, _⟩
    · exact h1
    · exfalso
      simp [lsd, Array.getD] at hL
  · rcases stL_o.1 hp with h1 | ⟨i, x, _, hL, _⟩
    · exact h1
    · exfalso
      simp [lsd, Array.getD] at hL
theorem swp_drawn (hm : P.follows .mixedOrders = true) {id : Nat} {ops : Array Oper} {K : SS → Prop} (h : DGo P ops σ K [] σ ops.toList) (hk : ∀ s, K s → Q .normal s) : swp P (.region id ops true) Q σ := fun cx a w hr =>
  wp_mono (wp_region_any hm (h .nil (by simp) cx a w hr)) fun e _ _ ⟨he, s, h1, h2⟩ => by subst he; exact ⟨s, hk s h1, h2⟩
end
end Go.Proofs.Ytnnpmbcamnnfgaa.Sh
