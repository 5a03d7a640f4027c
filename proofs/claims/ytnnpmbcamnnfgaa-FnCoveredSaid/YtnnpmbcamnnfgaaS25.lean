/- A drawn region by all its orders, one state for each set of operations that have run. -/
import Derived.Test.YtnnpmbcamnnfgaaS24
namespace Go.Proofs.Ytnnpmbcamnnfgaa.Sh
open Go.RowKit
def DE (P : Program) (ops : Array Oper) (K : SS → Prop) (fuel : Nat) (L : Array Bool) (σ : SS) : Prop :=
  ∀ c a w, RelE c σ a w → wpAny P .any ops (fun e a' w' => e = .normal ∧ ∃ s, K s ∧ RelE c s a' w') fuel L a w
def DEs (P : Program) (ops : Array Oper) (K : SS → Prop) (fuel : Nat) (L : Array Bool) (σ : SS) (i : Nat) : Prop :=
  ∀ c a w, RelE c σ a w → wpOp P ops (fun e a' w' => e = .normal ∧ ∃ s, K s ∧ RelE c s a' w') i (wpAny P .any ops (fun e a' w' => e = .normal ∧ ∃ s, K s ∧ RelE c s a' w') fuel (L.setIfInBounds i true)) a w
section
variable {P : Program} {tb : Tb} {ops : Array Oper} {o : Oper} {K : SS → Prop} {L L' : Array Bool} {σ σ' : SS} {fuel i : Nat}
theorem DE.done (hr : Region.ready .any ops L = []) (h : K σ) : DE P ops K fuel L σ := fun _ _ _ hr' => wpAny_done hr ⟨rfl, σ, h, hr'⟩ fuel
theorem DE.le (hl : Le σ σ') (h : DE P ops K fuel L σ') : DE P ops K fuel L σ := fun c a w hr => h c a w (hl c a w hr)
theorem DE.all (rs : List Nat) (hr : Region.ready .any ops L = rs) (hne : rs ≠ []) (h : ∀ i ∈ rs, DEs P ops K fuel L σ i) : DE P ops K (fuel + 1) L σ := fun c a w hr' => wpAny_all hr hne fun i hi => h i hi c a w hr'
theorem drop_get {rest : List Oper} (h : ops.toList.drop i = o :: rest) : ops[i]? = some o := by
  have h1 : (ops.toList.drop i)[0]? = some o := by rw [h]; rfl
  rw [List.getElem?_drop, Nat.add_zero, Array.getElem?_toList] at h1
  exact h1
theorem DE.share {σ0 : SS} {L0 : Array Bool} {n : Nat} (h : DE P ops K fuel L σ) (k : DE P ops K fuel L σ → DE P ops K n L0 σ0) : DE P ops K n L0 σ0 := k h
theorem DEs.mk {rest : List Oper} (ho : ops.toList.drop i = o :: rest) (he : EStep P ops o σ σ') (hL : L.setIfInBounds i true = L') (k : DE P ops K fuel L' σ') : DEs P ops K fuel L σ i := by
  intro c a w hr
  subst hL
  replace ho := drop_get ho
  have hdo := he c a w hr
  have hgo := fun a' w' h => k c a' w' h
  unfold wpOp
  simp only [ho]
  unfold OpDo at hdo
  split
  · rename_i hw
    rw [if_pos hw] at hdo
    left
    unfold Oper.wp at *
    generalize (execOp a.eval o).run P w = r at *
    cases r with
    | ok n w' =>
      cases n <;> simp only [Oper.upon] at hdo ⊢ <;>
        first
          | exact hgo _ _ hdo
          | exact Calls.mono hdo (fun e w'' he => by
              cases e with
              | returned v => exact hgo _ _ he
              | panicked ch => exact he.elim
              | outgrown => obtain ⟨a0, w0, h0⟩ := he; exact h0.elim)
          | exact Rows.mono hdo (fun _ _ he => hgo _ _ he)
          | exact hdo.elim
    | halt z w' => cases z <;> simp only [Oper.upon] at hdo ⊢ <;> first | exact hdo.elim | exact (hdo : False).elim
  · rename_i hw
    rw [if_neg hw] at hdo
    exact hgo _ _ hdo
theorem EStep.ofL {r : RV} (h : LStep P ops o σ r) (hf : freshB r o.dst σ = true) : EStep P ops o σ (σ.app o.dst r) := fun c a w hr => h σ c a w (Sub.refl σ) (freshB_ok hf) hr
theorem EStep.ofN (hP : TbOk P tb) {r : RV} (h : lstep tb ops σ o = some r) (hf : freshB r o.dst σ = true) : EStep P ops o σ (σ.app o.dst r) := EStep.ofL (lstep_ok hP h) hf
theorem EStep.ofN2 (hP : TbOk P tb) (h : (lstep tb ops σ o).map (fun r => (freshB r o.dst σ, σ.app o.dst r)) = some (true, σ')) : EStep P ops o σ σ' := by
  rw [Option.map_eq_some_iff] at h
  obtain ⟨r, h1, h2⟩ := h
  injection h2 with h2 h3
  subst h3
  exact EStep.ofN hP h1 h2
theorem EStep.le (h : EStep P ops o σ σ') {σ2 : SS} (hl : Le σ' σ2) : EStep P ops o σ σ2 := by
  intro c a w hr
  have h1 := h c a w hr
  unfold OpDo at *
  split
  · rename_i hw
    rw [if_pos hw] at h1
    exact Oper.wp_mono (fun a' w' h => hl c a' w' h) h1
  · rename_i hw
    rw [if_neg hw] at h1
    exact hl c _ _ h1
/-- A move may be made first. -/
theorem DE.take {x : Operand} {rest : List Oper} (ho : ops.toList.drop i = o :: rest) (hop : o.op = .move x ∨ o.op = .assign x) (hg : o.guard = none) (hs : Region.noSelect ops = true) (hf : Region.free .any ops L i = true) (hr : (Region.ready .any ops L).contains i = true)
    (he : EStep P ops o σ σ') (hL : L.setIfInBounds i true = L') (k : DE P ops K fuel L' σ') : DE P ops K (fuel + 1) L σ := by
  intro c a w hr'
  subst hL
  replace ho := drop_get ho
  have hex : ∀ a : Act, execOp a.eval o = pure (.value (a.eval x)) := by
    intro a
    rcases hop with hop | hop <;> simp only [execOp, hop]
  have hdo := he c a w hr'
  have hw : Region.wanted o (yielded ops a.tmps) = true := by simp [Region.wanted, hg]
  unfold OpDo at hdo
  rw [if_pos hw] at hdo
  unfold Oper.wp at hdo
  rw [hex] at hdo
  refine wpAny_take (v := a.eval x) ho hs hf hr (fun _ _ _ h => by simp at h) ?_ (k c _ w hdo)
  unfold Yields
  exact .inl ⟨hw, fun w => by rw [hex]; rfl⟩
theorem DGo.enum {σ0 σE : SS} {n : Nat} {L0 : Array Bool} (hn : n = ops.size) (hL : L0 = Array.replicate ops.size false) (h : ∀ K : SS → Prop, K σE → DE P ops K n L0 σ0) (hK : K σE) : DGo P ops σ0 K [] σ0 ops.toList := by
  intro _ _ cx a w hr
  subst hn hL
  have hr' : RelE cx σ0 a w.drew := by
    obtain ⟨S, β, hr⟩ := hr
    exact ⟨S, β, hr.world (Grew.drew _ _)⟩
  exact h K hK cx a w.drew hr'
end
end Go.Proofs.Ytnnpmbcamnnfgaa.Sh
