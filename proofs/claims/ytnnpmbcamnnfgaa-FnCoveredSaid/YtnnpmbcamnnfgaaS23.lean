/- A drawn region whose last operations wait for all the others. -/
import Derived.Test.YtnnpmbcamnnfgaaS22
namespace Go.Proofs.Ytnnpmbcamnnfgaa.Sh
open Go.RowKit
def waitsAt (ops : Array Oper) (k i : Nat) : Bool := match ops[k]? with
  | some o => waits o i
  | none => false
def backB (o : Oper) (q : Nat) : Bool := o.after.all fun e => !Region.binds .any e || decide (e.on < q)
/-- The operation at m waits for all before it, the later ones each for the one before it. -/
def tailB (ops : Array Oper) (m : Nat) : Bool :=
  ((List.range m).all fun i => waitsAt ops m i || (List.range m).any fun k => decide (i < k) && waitsAt ops k i) &&
  (List.range ops.size).all fun q => decide (q < m) || (decide (q = m) || waitsAt ops q (q - 1)) && (match ops[q]? with | some o => backB o q | none => false)
section
variable {P : Program} {ops : Array Oper}
theorem waitsAt_ok {k i : Nat} (h : waitsAt ops k i = true) : ∃ o, ops[k]? = some o ∧ waits o i = true := by
  unfold waitsAt at h
  split at h
  · exact ⟨_, by assumption, h⟩
  · cases h
theorem tailB_reach {m : Nat} (h : tailB ops m = true) {i : Nat} (hi : i < m) : waitsAt ops m i = true ∨ ∃ k, i < k ∧ k < m ∧ waitsAt ops k i = true := by
  unfold tailB at h
  rw [Bool.and_eq_true] at h
  have := List.all_eq_true.1 h.1 i (List.mem_range.2 hi)
  rw [Bool.or_eq_true] at this
  rcases this with h1 | h1
  · exact .inl h1
  · obtain ⟨k, h2, h3⟩ := List.any_eq_true.1 h1
    rw [Bool.and_eq_true] at h3
    exact .inr ⟨k, by simpa using h3.1, List.mem_range.1 h2, h3.2⟩
theorem tailB_next {m : Nat} (h : tailB ops m = true) {q : Nat} (hq : m ≤ q) (hs : q < ops.size) : (q = m ∨ waitsAt ops q (q - 1) = true) ∧ ∃ o, ops[q]? = some o ∧ ∀ e ∈ o.after, Region.binds .any e = true → e.on < q := by
  unfold tailB at h
  rw [Bool.and_eq_true] at h
  have := List.all_eq_true.1 h.2 q (List.mem_range.2 hs)
  rw [Bool.or_eq_true] at this
  rcases this with h1 | h1
  · have : q < m := by simpa using h1
    omega
  · rw [Bool.and_eq_true, Bool.or_eq_true] at h1
    refine ⟨by simpa using h1.1, ?_⟩
    have h2 := h1.2
    split at h2
    · rename_i o ho
      refine ⟨o, ho, fun e he hb => ?_⟩
      unfold backB at h2
      rw [Array.all_eq_true'] at h2
      have h3 := h2 e he
      rw [hb] at h3
      exact of_decide_eq_true h3
    · cases h2
theorem notready {listed : Array Bool} (hsz : listed.size = ops.size) {q i : Nat} (h : waitsAt ops q i = true) (hi : i < ops.size) (hl : listed.getD i false = false) : q ∉ Region.ready .any ops listed := by
  intro hm
  obtain ⟨h1, o, h2, h3⟩ := mem_ready.1 hm
  obtain ⟨o', h4, h5⟩ := waitsAt_ok h
  rw [h2] at h4
  injection h4 with h4
  subst h4
  obtain ⟨e, h6, h7, h8⟩ := waits_iff h5
  have := h3 e h6 h7
  rw [h8, hl] at this
  cases this
theorem tail_law {m : Nat} (ht : tailB ops m = true) {Q : Exit → Act → World → Prop} (hp : ∀ c a w, Q (.panic c) a w → Q (.panic c) a w) :
    ∀ (fuel : Nat) (k : Nat) (listed : Array Bool) (a : Act) (w : World), m ≤ k → ops.size ≤ k + fuel → listed.size = ops.size → (∀ j, j < ops.size → (listed.getD j false = true ↔ j < k)) →
      wpList P ops Q (ops.toList.drop k) a w → wpAny P .any ops Q fuel listed a w := by
  intro fuel
  have hend : ∀ k listed a w, ops.size ≤ k → listed.size = ops.size → (∀ j, j < ops.size → (listed.getD j false = true ↔ j < k)) → wpList P ops Q (ops.toList.drop k) a w → Region.ready .any ops listed = [] ∧ Q .normal a w := by
    intro k listed a w hk hsz hl hw
    rw [List.drop_of_length_le (by simpa using hk)] at hw
    refine ⟨?_, hw⟩
    apply List.eq_nil_iff_forall_not_mem.2
    intro j hj
    obtain ⟨h1, o, h2, _⟩ := mem_ready.1 hj
    have hlt : j < ops.size := (Array.getElem?_eq_some_iff.1 h2).1
    rw [unl (by omega), (hl j hlt).2 (by omega)] at h1
    cases h1
  induction fuel with
  | zero => intro k listed a w hmk hk hsz hl hw; exact hend k listed a w (by omega) hsz hl hw
  | succ fuel ih =>
    intro k listed a w hmk hk hsz hl hw
    by_cases hkk : ops.size ≤ k
    · have := hend k listed a w hkk hsz hl hw
      exact ⟨fun _ => this.2, fun i hi => by rw [this.1] at hi; cases hi⟩
    · have hk0 : k < ops.size := by omega
      have hun : ∀ j, k ≤ j → j < ops.size → listed.getD j false = false := fun j h1 h2 => by
        cases hb : listed.getD j false with
        | false => rfl
        | true => have := (hl j h2).1 hb; omega
      obtain ⟨_, o, ho, hback⟩ := tailB_next ht hmk hk0
      have hready : k ∈ Region.ready .any ops listed := mem_ready.2 ⟨by rw [unl (by omega)]; exact hun k (Nat.le_refl _) hk0, o, ho, fun e he hb => (hl e.on (Nat.lt_trans (hback e he hb) hk0)).2 (hback e he hb)⟩
      have honly : ∀ i, i ∈ Region.ready .any ops listed → i = k := by
        intro i hi
        obtain ⟨h1, o', h2, h3⟩ := mem_ready.1 hi
        have hlt : i < ops.size := (Array.getElem?_eq_some_iff.1 h2).1
        rw [unl (by omega)] at h1
        have hik : k ≤ i := by
          rcases Nat.lt_or_ge i k with h | h
          · rw [(hl i hlt).2 h] at h1; cases h1
          · exact h
        by_cases he : i = k
        · exact he
        · have hn := (tailB_next ht (q := i) (by omega) hlt).1
          rcases hn with hn | hn
          · omega
          · exact absurd hi (notready hsz hn (by omega) (hun (i - 1) (by omega) (by omega)))
      refine ⟨fun h0 => absurd hready (by rw [h0]; exact List.not_mem_nil), fun i hi => ?_⟩
      obtain rfl := honly i hi
      have hdr : ops.toList.drop i = o :: ops.toList.drop (i + 1) := by
        have hh : i < ops.toList.length := by simpa using hk0
        rw [List.drop_eq_getElem_cons hh]
        congr 1
        have := (Array.getElem?_eq_some_iff.1 ho).2
        simpa using this
      rw [hdr] at hw
      unfold wpOp
      simp only [ho]
      unfold wpList at hw
      have hgo : ∀ a' w', wpList P ops Q (ops.toList.drop (i + 1)) a' w' → wpAny P .any ops Q fuel (listed.setIfInBounds i true) a' w' := by
        intro a' w' h
        refine ih (i + 1) _ a' w' (by omega) (by omega) (by simp [hsz]) (fun j hj => ?_) h
        by_cases hij : i = j
        · subst hij
          rw [getD_set_self (by omega)]
          simp
        · rw [getD_set_ne false hij, hl j hj]
          omega
      split
      · rename_i hwn
        rw [if_pos hwn] at hw
        rcases hw with hw | hw
        · exact .inl (Oper.wp_mono hgo hw)
        · exact .inr hw
      · rename_i hwn
        rw [if_neg hwn] at hw
        exact hgo _ _ hw
theorem any_lawT {names0 : List Nat} {σ0 : SS} {l : List (Oper × RV)} {Q : Exit → Act → World → Prop} {tl : List Oper} (hl : l.map (·.1) ++ tl = ops.toList) (htl : tl ≠ []) (ht : tailB ops l.length = true) (hord : Ord ops names0 l) (hn0 : ∀ d ∈ σ0.names, d ∈ names0)
    (hst : ∀ (j : Nat) o r, l[j]? = some (o, r) → LStep P ops o (nu ops σ0.o o (stA σ0 l j)) r) {c : Cx} (hQ : ∀ a w, RelE c (stA σ0 l l.length) a w → wpList P ops Q tl a w) :
    ∀ (fuel : Nat) (listed : Array Bool) (a : Act) (w : World), listed.size = ops.size → ((List.range ops.size).filter fun j => !listed.getD j false).length ≤ fuel →
      (∀ (j : Nat) x, l[j]? = some x → listed.getD j false = true → ∀ e ∈ x.1.after, Region.binds .any e = true → listed.getD e.on false = true) →
      (∀ j, l.length ≤ j → listed.getD j false = false) →
      RelE c (stL σ0 l (lsd listed)) a w → wpAny P .any ops Q fuel listed a w := by
  have hlen : l.length + tl.length = ops.size := by rw [← Array.length_toList, ← hl]; simp
  have hpos : l.length < ops.size := by
    have : tl.length ≠ 0 := fun h => htl (List.eq_nil_of_length_eq_zero h)
    omega
  have hops : ∀ (j : Nat) x, l[j]? = some x → ops[j]? = some x.1 := fun j x h => by
    rw [← Array.getElem?_toList, ← hl, List.getElem?_append_left (by simpa using (List.getElem?_eq_some_iff.1 h).1), List.getElem?_map, h]; rfl
  have hstep := any_step (P := P) (show l.length ≤ ops.size by omega) hord hn0 hst (c := c)
  -- what is not listed, and the least of it is ready
  have hne : ∀ (listed : Array Bool), listed.size = ops.size → (∀ j, l.length ≤ j → listed.getD j false = false) → Region.ready .any ops listed ≠ [] := by
    intro listed hsz hun h0
    have hall : ∀ j, j < l.length → listed.getD j false = true := by
      intro j
      induction j using Nat.strongRecOn with
      | _ j ih =>
        intro hj
        cases hb : listed.getD j false with
        | true => rfl
        | false =>
          have hx : l[j]? = some (l[j]'(by omega)) := List.getElem?_eq_getElem _
          have : j ∈ Region.ready .any ops listed := mem_ready.2 ⟨by rw [unl (by omega)]; exact hb, _, hops j _ hx, fun e he hbd => ih e.on (hord.back j _ hx e he hbd) (Nat.lt_trans (hord.back j _ hx e he hbd) hj)⟩
          rw [h0] at this
          cases this
    obtain ⟨_, o, ho, hback⟩ := tailB_next ht (Nat.le_refl _) hpos
    have : l.length ∈ Region.ready .any ops listed := mem_ready.2 ⟨by rw [unl (by omega)]; exact hun _ (Nat.le_refl _), o, ho, fun e he hb => hall e.on (hback e he hb)⟩
    rw [h0] at this
    cases this
  intro fuel
  induction fuel with
  | zero =>
    intro listed a w hsz hm hcl hun hr
    exfalso
    have h0 : (List.range ops.size).filter (fun j => !listed.getD j false) = [] := List.eq_nil_of_length_eq_zero (by omega)
    have : l.length ∈ (List.range ops.size).filter (fun j => !listed.getD j false) := List.mem_filter.2 ⟨List.mem_range.2 hpos, by rw [hun _ (Nat.le_refl _)]; rfl⟩
    rw [h0] at this
    cases this
  | succ fuel ih =>
    intro listed a w hsz hm hcl hun hr
    refine ⟨fun h0 => absurd h0 (hne listed hsz hun), fun j hj => ?_⟩
    obtain ⟨h1, o, h2, h3⟩ := mem_ready.1 hj
    have hlt : j < ops.size := (Array.getElem?_eq_some_iff.1 h2).1
    rw [unl (by omega)] at h1
    have hcnt : ((List.range ops.size).filter fun i => !(listed.setIfInBounds j true).getD i false).length < ((List.range ops.size).filter fun i => !listed.getD i false).length := by
      have hsub2 : ((List.range ops.size).filter fun i => !(listed.setIfInBounds j true).getD i false) = ((List.range ops.size).filter fun i => !listed.getD i false).filter fun i => !(listed.setIfInBounds j true).getD i false := by
        rw [List.filter_filter]
        refine List.filter_congr fun i _ => ?_
        by_cases hij : j = i
        · subst hij
          rw [getD_set_self (by omega)]
          simp
        · rw [getD_set_ne false hij]
          simp
      rw [hsub2, List.length_filter_lt_length_iff_exists]
      refine ⟨j, List.mem_filter.2 ⟨List.mem_range.2 hlt, by rw [h1]; rfl⟩, ?_⟩
      rw [getD_set_self (by omega)]
      simp
    rcases Nat.lt_trichotomy j l.length with hjl | hjl | hjl
    · have hx : l[j]? = some (l[j]'(by omega)) := List.getElem?_eq_getElem _
      generalize l[j]'(by omega) = x at hx
      have hxo : x.1 = o := by
        have := hops j x hx
        rw [h2] at this
        injection this with this
        exact this.symm
      subst hxo
      have hdo := hstep listed a w j x hsz hx h1 h3 hcl hr
      have hgo : ∀ a' w', RelE c (stL σ0 l (lsd (listed.setIfInBounds j true))) a' w' → wpAny P .any ops Q fuel (listed.setIfInBounds j true) a' w' := by
        intro a' w' hr'
        refine ih _ a' w' (by simp [hsz]) (by omega) ?_ (fun i hi => by rw [getD_set_ne false (by omega)]; exact hun i hi) hr'
        intro i y hi hL e he hb
        by_cases hij : j = i
        · subst hij
          rw [hx] at hi
          injection hi with hi
          subst hi
          exact getD_set_true (h3 e he hb)
        · rw [getD_set_ne false hij] at hL
          exact getD_set_true (hcl i y hi hL e he hb)
      unfold wpOp
      simp only [h2]
      unfold OpDo at hdo
      split
      · rename_i hw
        rw [if_pos hw] at hdo
        left
        unfold Oper.wp at *
        generalize (execOp a.eval x.1).run P w = r at *
        cases r with
        | ok n w' =>
          cases n <;> simp only [Oper.upon] at hdo ⊢ <;>
            first
              | exact hgo _ _ hdo
              | exact Calls.mono hdo (fun e w'' he => by
                  cases e with
                  | returned v => exact hgo _ _ he
                  | panicked ch => exact he.elim
                  | outgrown => obtain ⟨a0, w0, h0⟩ := he; exact h0.elim)
              | exact Rows.mono hdo (fun _ _ he => hgo _ _ he)
              | exact hdo.elim
        | halt z w' => cases z <;> simp only [Oper.upon] at hdo ⊢ <;> first | exact hdo.elim | exact (hdo : False).elim
      · rename_i hw
        rw [if_neg hw] at hdo
        exact hgo _ _ hdo
    · subst hjl
      -- all before it are listed
      have hall : ∀ d i, i + d = l.length → 0 < d → listed.getD i false = true := by
        intro d
        induction d using Nat.strongRecOn with
        | _ d ihd =>
          intro i hi hd
          rcases tailB_reach ht (i := i) (by omega) with hw | ⟨k, h4, h5, hw⟩
          · obtain ⟨o', h6, h7⟩ := waitsAt_ok hw
            rw [h2] at h6
            injection h6 with h6
            subst h6
            obtain ⟨e, h8, h9, h10⟩ := waits_iff h7
            rw [← h10]
            exact h3 e h8 h9
          · have hk := ihd (l.length - k) (by omega) k (by omega) (by omega)
            obtain ⟨o', h6, h7⟩ := waitsAt_ok hw
            have hx : l[k]? = some (l[k]'(by omega)) := List.getElem?_eq_getElem _
            have h11 := hops k _ hx
            rw [h6] at h11
            injection h11 with h11
            obtain ⟨e, h8, h9, h10⟩ := waits_iff h7
            rw [← h10]
            exact hcl k _ hx hk e (h11 ▸ h8) h9
      have hle : Le (stL σ0 l (lsd listed)) (stA σ0 l l.length) := by
        refine Le.sub (stA_n σ0 l _) (fun p hp => ?_) (fun p hp => ?_)
        · rw [stL_t]
          rcases stA_t σ0 l _ (Nat.le_refl _) hp with ⟨h1, h2⟩ | ⟨i, x, h1, h2, h3⟩
          · exact .inl ⟨h1, fun i x hi _ => h2 i x (List.getElem?_eq_some_iff.1 hi).1 hi⟩
          · exact .inr ⟨i, x, h2, hall (l.length - i) i (by omega) (by omega), h3⟩
        · rw [stL_o]
          rcases stA_o σ0 l _ (Nat.le_refl _) hp with h1 | ⟨i, x, h1, h2, h3⟩
          · exact .inl h1
          · exact .inr ⟨i, x, h2, hall (l.length - i) i (by omega) (by omega), h3⟩
      have hwl := hQ a w (hle c a w hr)
      have hdrop : ops.toList.drop l.length = tl := by
        rw [← hl]
        have : l.length = (l.map (·.1)).length := by simp
        rw [this, List.drop_left]
      rw [← hdrop] at hwl
      have := tail_law (P := P) ht (Q := Q) (fun _ _ _ h => h) (fuel + 1) l.length listed a w (Nat.le_refl _) ?_ hsz (fun i hi => ?_) hwl
      · exact this.2 l.length hj
      · have h5 : ops.size - l.length ≤ ((List.range ops.size).filter fun i => !listed.getD i false).length := by
          have h6 : List.range ops.size = List.range' 0 l.length ++ List.range' l.length (ops.size - l.length) := by
            have := List.range'_append (s := 0) (m := l.length) (n := ops.size - l.length) (step := 1)
            rw [Nat.one_mul, Nat.zero_add, show l.length + (ops.size - l.length) = ops.size from by omega] at this
            rw [this, List.range_eq_range']
          have h7 : (List.range' l.length (ops.size - l.length)).filter (fun i => !listed.getD i false) = List.range' l.length (ops.size - l.length) :=
            List.filter_eq_self.2 fun i hi => by rw [hun i (List.mem_range'_1.1 hi).1]; rfl
          rw [h6, List.filter_append, List.length_append, h7, List.length_range']
          omega
        omega
      · constructor
        · intro hb
          rcases Nat.lt_or_ge i l.length with h | h
          · exact h
          · rw [hun i h] at hb; cases hb
        · intro h
          exact hall (l.length - i) i (by omega) (by omega)
    · exfalso
      have hn := (tailB_next ht (q := j) (by omega) hlt).1
      rcases hn with hn | hn
      · omega
      · exact notready hsz hn (by omega) (hun (j - 1) (by omega)) hj
/-- What is left of a drawn region is a chain: from here on it runs in the text's order. -/
theorem DGo.seq {σ0 σ : SS} {K : SS → Prop} {done : List (Oper × RV)} {o : Oper} {todo : List Oper} (hb : ordB ops σ0.names done = true) (ht : tailB ops done.length = true) (h : SRun P ops (o :: todo) K σ) : DGo P ops σ0 K done σ (o :: todo) := by
  intro hd hl cx a w hr
  obtain ⟨h1, h2⟩ := hd.steps
  have hr' : RelE cx σ0 a w.drew := by
    obtain ⟨S, β, hr⟩ := hr
    exact ⟨S, β, hr.world (Grew.drew _ _)⟩
  refine any_lawT (names0 := σ0.names) hl (by simp) ht (ord_of hb) (fun d hd => hd) h2 (c := cx) (fun a w hr => h cx a w (by rw [h1]; exact hr)) _ _ _ _ (by simp) (by
    refine Nat.le_trans (List.length_filter_le _ _) (by simp)) (fun j x _ hL => ?_) (fun j _ => by simp [Array.getD]) (Le.sub (σ := σ0) (σ' := stL σ0 done (lsd (Array.replicate ops.size false))) rfl (fun p hp => ?_) (fun p hp => ?_) cx a w.drew hr')
  · exfalso
    simp [Array.getD] at hL
  · rcases stL_t.1 hp with ⟨h1, _⟩ | ⟨i, x, _, hL, _⟩
    · exact h1
    · exfalso
      simp [lsd, Array.getD] at hL
  · rcases stL_o.1 hp with h1 | ⟨i, x, _, hL, _⟩
    · exact h1
    · exfalso
      simp [lsd, Array.getD] at hL
end
end Go.Proofs.Ytnnpmbcamnnfgaa.Sh
