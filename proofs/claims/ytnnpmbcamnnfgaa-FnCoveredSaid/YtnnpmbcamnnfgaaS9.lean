/- A region that draws its order: the law. -/
import Derived.Test.YtnnpmbcamnnfgaaS8
namespace Go.Proofs.Ytnnpmbcamnnfgaa.Sh
open Go.RowKit
section
variable {P : Program} {ops : Array Oper}
def lsd (listed : Array Bool) (j : Nat) : Bool := listed.getD j false
theorem unl {listed : Array Bool} {j : Nat} (hj : j < listed.size) : listed.getD j true = listed.getD j false := by simp [Array.getD, hj]
theorem getD_set_self {listed : Array Bool} {i : Nat} (h : i < listed.size) : (listed.setIfInBounds i true).getD i false = true := by simp [Array.getD, h]
theorem any_step {names0 : List Nat} {σ0 : SS} {l : List (Oper × RV)} (hlen : l.length ≤ ops.size) (hord : Ord ops names0 l) (hn0 : ∀ d ∈ σ0.names, d ∈ names0)
    (hst : ∀ (j : Nat) o r, l[j]? = some (o, r) → LStep P ops o (nu ops σ0.o o (stA σ0 l j)) r) {c : Cx} : ∀ (listed : Array Bool) (a : Act) (w : World) (j : Nat) x, listed.size = ops.size → l[j]? = some x → listed.getD j false = false → (∀ e ∈ x.1.after, Region.binds .any e = true → listed.getD e.on false = true) →
      (∀ (j : Nat) x, l[j]? = some x → listed.getD j false = true → ∀ e ∈ x.1.after, Region.binds .any e = true → listed.getD e.on false = true) →
      RelE c (stL σ0 l (lsd listed)) a w → OpDo P ops x.1 a w fun a' w' => RelE c (stL σ0 l (lsd (listed.setIfInBounds j true))) a' w' := by
  intro listed a w j x hsz hx hun hrd hcl hr
  have hj : j < l.length := (List.getElem?_eq_some_iff.1 hx).1
  have hwl : ∀ (i : Nat) y, l[i]? = some y → waits y.1 j = true → listed.getD i false = false := by
    intro i y hi hw
    obtain ⟨e, h1, h2, h3⟩ := waits_iff hw
    cases hb : listed.getD i false with
    | false => rfl
    | true =>
      have := hcl i y hi hb e h1 h2
      rw [h3, hun] at this
      cases this
  have hset : ∀ i, lsd (listed.setIfInBounds j true) i = true → lsd listed i = true ∨ i = j := by
    intro i hi
    by_cases hij : j = i
    · exact .inr hij.symm
    · unfold lsd at *
      rw [getD_set_ne false hij] at hi
      exact .inl hi
  have hsub : Sub (nu ops σ0.o x.1 (stA σ0 l j)) (stL σ0 l (lsd listed)) := by
    refine ⟨stA_n σ0 l j, fun p hp => ?_, fun p hp => stL_o.2 (.inl hp)⟩
    obtain ⟨hp, hlk⟩ := List.mem_filter.1 hp
    have hlk : p.1 ∈ x.1.looksAt ops := by simpa using hlk
    rw [stL_t]
    rcases stA_t σ0 l j (by omega) hp with ⟨h1, h2⟩ | ⟨i, y, h1, h2, h3⟩
    · refine .inl ⟨h1, fun i y hi hL hd => ?_⟩
      by_cases hij : i = j
      · subst hij
        unfold lsd at hL
        rw [hun] at hL
        cases hL
      · have hw := hord.look j i x y hx hi hij p.1 hd hlk
        by_cases hlt : i < j
        · exact h2 i y hlt hi hd
        · rw [if_neg hlt] at hw
          have := hwl i y hi hw
          unfold lsd at hL
          rw [this] at hL
          cases hL
    · have hd : y.1.dst = some p.1 := by
        unfold entT at h3
        split at h3
        · injection h3 with h3
          subst h3
          assumption
        · cases h3
      have hw := hord.look j i x y hx h2 (by omega) p.1 hd hlk
      rw [if_pos h1] at hw
      obtain ⟨e, h4, h5, h6⟩ := waits_iff hw
      refine .inr ⟨i, y, h2, ?_, h3⟩
      unfold lsd
      rw [← h6]
      exact hrd e h4 h5
  have hfresh : Fresh x.2 x.1.dst (stL σ0 l (lsd listed)) := by
    unfold Fresh
    split
    · rename_i v so hxr
      intro d hd hm
      have hnew : isNew x.2 = true := by rw [hxr]; rfl
      unfold SS.names at hm
      have h0 : ∀ q, q ∈ σ0.names → q ≠ d := fun q hq e => hord.new0 j x hx d hd hnew (e ▸ hn0 q hq)
      have hk : ∀ (i : Nat) y, l[i]? = some y → lsd listed i = true → d ∈ rvNames y.2 → False := by
        intro i y hi hL hmem
        by_cases hij : i = j
        · subst hij
          unfold lsd at hL
          rw [hun] at hL
          cases hL
        · have := hwl i y hi (hord.new j i x y hx hi hij d hd hnew hmem)
          unfold lsd at hL
          rw [this] at hL
          cases hL
      rcases List.mem_append.1 hm with hm | hm
      · obtain ⟨p, hp, hm⟩ := List.mem_flatMap.1 hm
        rcases stL_t.1 hp with ⟨h1, _⟩ | ⟨i, y, h1, h2, h3⟩
        · exact h0 d (List.mem_append_left _ (List.mem_flatMap.2 ⟨p, h1, hm⟩)) rfl
        · refine hk i y h1 h2 ?_
          unfold entT at h3
          split at h3
          · rename_i v' z _ hz
            injection h3 with h3
            subst h3
            rw [hz]
            cases z with
            | none => exact hm
            | some z => exact List.mem_append_left _ hm
          · cases h3
      · obtain ⟨p, hp, hm⟩ := List.mem_flatMap.1 hm
        rcases stL_o.1 hp with h1 | ⟨i, y, h1, h2, h3⟩
        · exact h0 d (List.mem_append_right _ (List.mem_flatMap.2 ⟨p, h1, hm⟩)) rfl
        · unfold entO at h3
          split at h3
          · rename_i d' v' z hd' hz
            injection h3 with h3
            subst h3
            rcases List.mem_cons.1 hm with hm | hm
            · have hij : i ≠ j := fun e => by
                subst e
                unfold lsd at h2
                rw [hun] at h2
                cases h2
              exact hord.dst j i x y hx h1 hij d hd (by rw [hd', hm])
            · refine hk i y h1 h2 ?_
              rw [hz]
              exact List.mem_append_right _ hm
          · cases h3
    · trivial
  have hdo := hst j x.1 x.2 hx _ c a w hsub hfresh hr
  unfold OpDo at hdo ⊢
  have hle : Le ((stL σ0 l (lsd listed)).app x.1.dst x.2) (stL σ0 l (lsd (listed.setIfInBounds j true))) := by
    refine Le.sub ?_ (fun p hp => ?_) (fun p hp => ?_)
    · rw [app_n]; rfl
    · rcases stL_t.1 hp with ⟨h1, h2⟩ | ⟨i, y, h1, h2, h3⟩
      · refine t_app (stL_t.2 (.inl ⟨h1, fun i y hi hL => h2 i y hi ?_⟩)) (h2 j x hx ?_)
        · by_cases hij : j = i
          · subst hij
            unfold lsd
            exact getD_set_self (by omega)
          · unfold lsd at *
            rw [getD_set_ne false hij]
            exact hL
        · unfold lsd
          exact getD_set_self (by omega)
      · rcases hset i h2 with hL | rfl
        · have hij : i ≠ j := fun e => by
            subst e
            unfold lsd at hL
            rw [hun] at hL
            cases hL
          have hd : y.1.dst = some p.1 := by
            unfold entT at h3
            split at h3
            · injection h3 with h3
              subst h3
              assumption
            · cases h3
          exact t_app (stL_t.2 (.inr ⟨i, y, h1, hL, h3⟩)) (fun e => hord.dst j i x y hx h1 hij p.1 e hd)
        · rw [hx] at h1
          injection h1 with h1
          subst h1
          unfold entT at h3
          split at h3
          · rename_i d v z hd hz
            injection h3 with h3
            subst h3
            rw [hd, hz]
            exact t_app_new
          · cases h3
    · rcases stL_o.1 hp with h1 | ⟨i, y, h1, h2, h3⟩
      · exact o_app (stL_o.2 (.inl h1))
      · rcases hset i h2 with hL | rfl
        · exact o_app (stL_o.2 (.inr ⟨i, y, h1, hL, h3⟩))
        · rw [hx] at h1
          injection h1 with h1
          subst h1
          unfold entO at h3
          split at h3
          · rename_i d v z hd hz
            injection h3 with h3
            subst h3
            rw [hd, hz]
            exact o_app_new
          · cases h3
  split
  · rename_i hw
    rw [if_pos hw] at hdo
    exact Oper.wp_mono (fun a' w' h => hle c a' w' h) hdo
  · rename_i hw
    rw [if_neg hw] at hdo
    exact hle c _ _ hdo
theorem any_law {names0 : List Nat} {σ0 : SS} {l : List (Oper × RV)} {Q : Exit → Act → World → Prop} (hl : l.map (·.1) = ops.toList) (hord : Ord ops names0 l) (hn0 : ∀ d ∈ σ0.names, d ∈ names0)
    (hst : ∀ (j : Nat) o r, l[j]? = some (o, r) → LStep P ops o (nu ops σ0.o o (stA σ0 l j)) r) {c : Cx} (hQ : ∀ a w, RelE c (stA σ0 l l.length) a w → Q .normal a w) :
    ∀ (fuel : Nat) (listed : Array Bool) (a : Act) (w : World), listed.size = ops.size → ((List.range ops.size).filter fun j => !listed.getD j false).length ≤ fuel →
      (∀ (j : Nat) x, l[j]? = some x → listed.getD j false = true → ∀ e ∈ x.1.after, Region.binds .any e = true → listed.getD e.on false = true) →
      RelE c (stL σ0 l (lsd listed)) a w → wpAny P .any ops Q fuel listed a w := by
  have hlen : l.length = ops.size := by rw [← List.length_map (f := (·.1)), hl, Array.length_toList]
  have hops : ∀ (j : Nat) x, l[j]? = some x → ops[j]? = some x.1 := fun j x h => by
    rw [← Array.getElem?_toList, ← hl, List.getElem?_map, h]; rfl
  have hall : ∀ (listed : Array Bool), listed.size = ops.size → Region.ready .any ops listed = [] → ∀ j, j < ops.size → listed.getD j false = true := by
    intro listed hsz hr j
    induction j using Nat.strongRecOn with
    | _ j ih =>
      intro hj
      cases hb : listed.getD j false with
      | true => rfl
      | false =>
        have hx : l[j]? = some (l[j]'(by omega)) := List.getElem?_eq_getElem _
        have : j ∈ Region.ready .any ops listed := mem_ready.2 ⟨by rw [unl (by omega)]; exact hb, _, hops j _ hx, fun e he hbd => ih e.on (hord.back j _ hx e he hbd) (Nat.lt_trans (hord.back j _ hx e he hbd) hj)⟩
        rw [hr] at this
        cases this
  have hend : ∀ (listed : Array Bool) a w, listed.size = ops.size → (∀ j, j < ops.size → listed.getD j false = true) → RelE c (stL σ0 l (lsd listed)) a w → Q .normal a w := by
    intro listed a w hsz ha hr
    have hle : Le (stL σ0 l (lsd listed)) (stA σ0 l l.length) := by
     refine Le.sub (stA_n σ0 l _) (fun p hp => ?_) (fun p hp => ?_)
     · rw [stL_t]
       rcases stA_t σ0 l _ (Nat.le_refl _) hp with ⟨h1, h2⟩ | ⟨i, x, h1, h2, h3⟩
       · exact .inl ⟨h1, fun i x hi _ => h2 i x (List.getElem?_eq_some_iff.1 hi).1 hi⟩
       · exact .inr ⟨i, x, h2, ha i (by omega), h3⟩
     · rw [stL_o]
       rcases stA_o σ0 l _ (Nat.le_refl _) hp with h1 | ⟨i, x, h1, h2, h3⟩
       · exact .inl h1
       · exact .inr ⟨i, x, h2, ha i (by omega), h3⟩
    exact hQ a w (hle c a w hr)
  have hstep := any_step (P := P) (show l.length ≤ ops.size by omega) hord hn0 hst (c := c)
  intro fuel
  induction fuel with
  | zero =>
    intro listed a w hsz hm hcl hr
    have hz : ∀ j, j < ops.size → listed.getD j false = true := by
      intro j hj
      have h0 : (List.range ops.size).filter (fun j => !listed.getD j false) = [] := List.eq_nil_of_length_eq_zero (by omega)
      cases hb : listed.getD j false with
      | true => rfl
      | false =>
        have : j ∈ (List.range ops.size).filter (fun j => !listed.getD j false) := List.mem_filter.2 ⟨List.mem_range.2 hj, by rw [hb]; rfl⟩
        rw [h0] at this
        cases this
    refine ⟨?_, hend listed a w hsz hz hr⟩
    apply List.eq_nil_iff_forall_not_mem.2
    intro j hj
    obtain ⟨h1, o, h2, _⟩ := mem_ready.1 hj
    have hlt : j < ops.size := (Array.getElem?_eq_some_iff.1 h2).1
    rw [unl (by omega), hz j hlt] at h1
    cases h1
  | succ fuel ih =>
    intro listed a w hsz hm hcl hr
    refine ⟨fun h0 => hend listed a w hsz (hall listed hsz h0) hr, fun j hj => ?_⟩
    obtain ⟨h1, o, h2, h3⟩ := mem_ready.1 hj
    have hlt : j < ops.size := (Array.getElem?_eq_some_iff.1 h2).1
    rw [unl (by omega)] at h1
    have hx : l[j]? = some (l[j]'(by omega)) := List.getElem?_eq_getElem _
    generalize l[j]'(by omega) = x at hx
    have hxo : x.1 = o := by
      have := hops j x hx
      rw [h2] at this
      injection this with this
      exact this.symm
    subst hxo
    have hdo := hstep listed a w j x hsz hx h1 h3 hcl hr
    have hgo : ∀ a' w', RelE c (stL σ0 l (lsd (listed.setIfInBounds j true))) a' w' → wpAny P .any ops Q fuel (listed.setIfInBounds j true) a' w' := by
      intro a' w' hr'
      refine ih _ a' w' (by simp [hsz]) ?_ ?_ hr'
      · have hsub2 : ((List.range ops.size).filter fun i => !(listed.setIfInBounds j true).getD i false) = ((List.range ops.size).filter fun i => !listed.getD i false).filter fun i => !(listed.setIfInBounds j true).getD i false := by
          rw [List.filter_filter]
          refine List.filter_congr fun i _ => ?_
          by_cases hij : j = i
          · subst hij
            rw [getD_set_self (by omega)]
            simp
          · rw [getD_set_ne false hij]
            simp
        rw [hsub2]
        have : (((List.range ops.size).filter fun i => !listed.getD i false).filter fun i => !(listed.setIfInBounds j true).getD i false).length < ((List.range ops.size).filter fun i => !listed.getD i false).length := by
          rw [List.length_filter_lt_length_iff_exists]
          refine ⟨j, List.mem_filter.2 ⟨List.mem_range.2 hlt, by rw [h1]; rfl⟩, ?_⟩
          rw [getD_set_self (by omega)]
          simp
        omega
      · intro i y hi hL e he hb
        by_cases hij : j = i
        · subst hij
          rw [hx] at hi
          injection hi with hi
          subst hi
          exact getD_set_true (h3 e he hb)
        · rw [getD_set_ne false hij] at hL
          exact getD_set_true (hcl i y hi hL e he hb)
    unfold wpOp
    simp only [h2]
    unfold OpDo at hdo
    split
    · rename_i hw
      rw [if_pos hw] at hdo
      left
      unfold Oper.wp at *
      generalize (execOp a.eval x.1).run P w = r at *
      cases r with
      | ok n w' =>
        cases n <;> simp only [Oper.upon] at hdo ⊢ <;>
          first
            | exact hgo _ _ hdo
            | exact Calls.mono hdo (fun e w'' he => by
                cases e with
                | returned v => exact hgo _ _ he
                | panicked ch => exact he.elim
                | outgrown => obtain ⟨a0, w0, h0⟩ := he; exact h0.elim)
            | exact Rows.mono hdo (fun _ _ he => hgo _ _ he)
            | exact hdo.elim
      | halt z w' => cases z <;> simp only [Oper.upon] at hdo ⊢ <;> first | exact hdo.elim | exact (hdo : False).elim
    · rename_i hw
      rw [if_neg hw] at hdo
      exact hgo _ _ hdo
end
end Go.Proofs.Ytnnpmbcamnnfgaa.Sh
