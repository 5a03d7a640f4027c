/- Plain laws of claims: IsClaim, AreClaims, contradictions, what claims tell, of both; bounds on lengths alone. -/
import Derived.Test.YtppehghiiahabaaGreatDoorMWP
import Derived.Test.YtppehghiiahabaaGreatDoorQM
namespace Go.Proofs.YtppehghiiahabaaGreatDoor.Sh
open Go.RowKit Go.Lib
theorem beqL {a b : ByteArray} : (a.toList == b.toList) = true ↔ a = b := by
  rw [beq_iff_eq, toList_eq, toList_eq]
  refine ⟨fun h => ?_, fun h => by rw [h]⟩
  obtain ⟨a⟩ := a
  obtain ⟨b⟩ := b
  have h : a.toList = b.toList := h
  rw [Array.toList_inj.1 h]
theorem beqL_nil {a : ByteArray} (h : 1 ≤ a.size) : (a.toList == (ByteArray.mk #[]).toList) = false := by
  rw [Bool.eq_false_iff]
  intro hc
  rw [beqL] at hc
  rw [hc] at h
  simp [ByteArray.size] at h
/-- The first that fits, by its number. -/
theorem idx_find {α : Type} (p : α → Bool) : ∀ L : List α, (idxP p L = -1 ∧ L.find? p = none) ∨ ∃ (i : Nat) (x : α), idxP p L = i ∧ L[i]? = some x ∧ L.find? p = some x
  | [] => .inl ⟨rfl, rfl⟩
  | x :: l => by
    unfold idxP
    cases hp : p x
    · rw [List.find?_cons_of_neg (by rw [hp]; simp)]
      rcases idx_find p l with ⟨h1, h2⟩ | ⟨i, y, h1, h2, h3⟩
      · rw [h1]
        exact .inl ⟨rfl, h2⟩
      · have hd : decide ((i : Int) < 0) = false := decide_eq_false (by omega)
        simp only [h1, cond_false, hd]
        exact .inr ⟨i + 1, y, by simp, by simpa using h2, h3⟩
    · rw [List.find?_cons_of_pos hp]
      exact .inr ⟨0, x, rfl, rfl, rfl⟩
theorem firstI_find {α A : Type} (p : α → Bool) (f : α → A) : ∀ (L : List α) (k : Nat), firstI (fun _ x => p x) (fun _ x => f x) L k = (L.find? p).map f
  | [], _ => rfl
  | x :: l, k => by
    unfold firstI
    cases hp : p x
    · rw [List.find?_cons_of_neg (by rw [hp]; simp)]
      exact firstI_find p f l (k + 1)
    · rw [List.find?_cons_of_pos hp]
      rfl
def spanB (s : Span) : Bool := inB s.From (-3000) 3000 && (inB s.To (-3000) 3000 && decide (s.From ≤ s.To))
theorem impl_isSpan (s : Span) : impl_IsSpan s = some (spanB s) := by
  unfold impl_IsSpan impl_isYear spanB
  simp only [within_eq, Option.bind_some]
  cases inB s.From (-3000) 3000 <;> cases inB s.To (-3000) 3000 <;> rfl
theorem spec_isSpan (s : Span) : spec_IsSpan s = some (spanB s) := by
  unfold spec_IsSpan spec_l02Year spanB
  simp only [l01In_eq, Option.bind_some]
  cases inB s.From (-3000) 3000 <;> cases inB s.To (-3000) 3000 <;> rfl
/-- Is the value as the kind tells? -/
def valB (c : Claim) : Bool := bif c.Kind == 0 then phraseB c.Value else bif c.Kind == 1 then wordB c.Value && !(c.Value.toList == c.Place.toList) else bif c.Kind == 2 then c.Value.toList == (ByteArray.mk #[]).toList else bif c.Kind == 3 then c.Value.toList == (ByteArray.mk #[]).toList else false
theorem impl_isVal (c : Claim) (h : c.Value.size ≤ 1048576) : impl_isClaimValue c = some (valB c) := by
  unfold impl_isClaimValue valB
  rw [impl_isPhrase _ (by omega), impl_isWord _ (by unfold maxLen; omega)]
  generalize wordB c.Value = w
  generalize phraseB c.Value = f
  generalize (c.Value.toList == c.Place.toList) = e
  generalize (c.Value.toList == (ByteArray.mk #[]).toList) = z
  cases c.Kind == 0 <;> cases c.Kind == 1 <;> cases c.Kind == 2 <;> cases c.Kind == 3 <;> cases w <;> rfl
def claimB (c : Claim) : Bool := wordB c.Source && (wordB c.Place && (valB c && (spanB c.Years && inB c.Weight 1 100)))
theorem impl_isClaim (c : Claim) (h : smClaim c) : impl_IsClaim c = some (claimB c) := by
  have h0 := h.s0
  have h2 := h.s2
  unfold impl_IsClaim claimB
  rw [impl_areWords_eq _ (by simp) (fun x hx => by
    simp only [List.mem_cons, List.not_mem_nil, or_false] at hx
    unfold maxLen
    rcases hx with rfl | rfl <;> omega), impl_isVal c h.s3, impl_isSpan, within_eq]
  simp only [List.all_cons, List.all_nil]
  cases wordB c.Source <;> cases wordB c.Place <;> cases valB c <;> cases spanB c.Years <;> rfl
theorem spec_isClaim (c : Claim) (h : smClaim c) : spec_IsClaim c = some (claimB c) := by
  have h0 := h.s0
  have h2 := h.s2
  have h3 := h.s3
  unfold spec_IsClaim claimB valB
  rw [spec_isWord c.Source (by unfold maxLen; omega), spec_isWord c.Place (by unfold maxLen; omega), spec_isWord c.Value (by unfold maxLen; omega), spec_isPhrase _ (by omega), spec_isSpan, l01In_eq]
  generalize wordB c.Value = w
  generalize phraseB c.Value = f
  generalize (c.Value.toList == c.Place.toList) = e
  generalize (c.Value.toList == (ByteArray.mk #[]).toList) = z
  generalize inB c.Weight 1 100 = g
  generalize spanB c.Years = s
  cases wordB c.Source
  · rfl
  cases wordB c.Place
  · rfl
  cases s <;> cases g
  · simp
  · simp
  · simp
  cases c.Kind == 0 <;> cases c.Kind == 1 <;> cases c.Kind == 2 <;> cases c.Kind == 3 <;> cases w <;> cases f <;> cases e <;> cases z <;> rfl
def claimsB (L : List Claim) : Bool := decide (L.length ≤ 12) && L.all claimB
theorem len12 (L : List Claim) : decide ((L.length : Int) ≤ 12) = decide (L.length ≤ 12) := by
  by_cases h : L.length ≤ 12
  · rw [decide_eq_true h, decide_eq_true (by omega)]
  · rw [decide_eq_false h, decide_eq_false (by omega)]
theorem impl_areClaims {L : List Claim} (hL : L.length ≤ 1048576) (h : ∀ x ∈ L, smClaim x) : impl_AreClaims L = some (claimsB L) := by
  unfold impl_AreClaims slices_ContainsFunc_Claim_impl_AreClaims_1 slices_IndexFunc_Claim_impl_AreClaims_1 impl_AreClaims_1 claimsB
  rw [loop_idx (by omega) (fun c => !claimB c) (fun i x hx => by
    rw [at_nat, hx, Option.bind_some, impl_isClaim x (h x (List.mem_of_getElem? hx))]
    rfl)]
  simp only [Option.bind_some, idxP_any, len12, ← List.not_all_eq_any_not, Bool.not_not]
  cases decide (L.length ≤ 12) <;> rfl
theorem spec_areClaims {L : List Claim} (hL : L.length ≤ 1048576) (h : ∀ x ∈ L, smClaim x) : spec_AreClaims L = some (claimsB L) := by
  unfold spec_AreClaims claimsB
  rw [loop_any (by omega) (fun c => !claimB c) false (fun i x hx => by
    rw [at_nat, hx, Option.bind_some, spec_isClaim x (h x (List.mem_of_getElem? hx))]
    rfl), len12, ← List.not_all_eq_any_not]
  cases L.all claimB <;> simp
/-- Do two claims contradict each other? -/
def conB (a b : Claim) : Bool := (decide (a.Years.From ≤ b.Years.To) && decide (b.Years.From ≤ a.Years.To)) && (((a.Kind == 1) && ((b.Kind == 3) && (a.Value.toList == b.Place.toList))) || ((b.Kind == 1) && ((a.Kind == 3) && (b.Value.toList == a.Place.toList))) || ((a.Place.toList == b.Place.toList) && (bif a.Kind == b.Kind then ((a.Kind == 0) || (a.Kind == 1)) && !(a.Value.toList == b.Value.toList) else (a.Kind == 3) || (b.Kind == 3))))
theorem spec_con (a b : Claim) : spec_l20Contradict a b = some (conB a b) := by
  unfold spec_l20Contradict spec_l02Meet conB
  simp only [Option.bind_some]
  generalize (decide (a.Years.From ≤ b.Years.To) && decide (b.Years.From ≤ a.Years.To)) = m
  generalize (a.Value.toList == b.Place.toList) = x
  generalize (b.Value.toList == a.Place.toList) = y
  generalize (a.Place.toList == b.Place.toList) = z
  generalize (a.Value.toList == b.Value.toList) = v
  generalize (a.Kind == b.Kind) = k
  generalize (a.Kind == 1) = a1
  generalize (a.Kind == 0) = a0
  generalize (a.Kind == 3) = a3
  generalize (b.Kind == 1) = b1
  generalize (b.Kind == 3) = b3
  cases m
  · rfl
  cases z <;> cases k <;> cases a1 <;> cases b1 <;> cases a3 <;> cases b3 <;> cases x <;> cases y <;> simp
theorem impl_con (a b : Claim) : impl_Claim_contradicts a b = some (conB a b) := by
  unfold impl_Claim_contradicts impl_Span_meets impl_Claim_isWithout conB
  simp only [Option.bind_some]
  rw [BEq.comm (a := b.Place.toList) (b := a.Value.toList), BEq.comm (a := a.Place.toList) (b := b.Value.toList)]
  generalize (decide (a.Years.From ≤ b.Years.To) && decide (b.Years.From ≤ a.Years.To)) = m
  generalize (a.Value.toList == b.Place.toList) = x
  generalize (b.Value.toList == a.Place.toList) = y
  generalize (a.Place.toList == b.Place.toList) = z
  generalize (a.Value.toList == b.Value.toList) = v
  cases m
  · rfl
  by_cases hab : a.Kind = b.Kind
  · rw [hab, beq_self_eq_true]
    generalize (b.Kind == 1) = b1
    generalize (b.Kind == 0) = b0
    generalize (b.Kind == 3) = b3
    cases z <;> cases b1 <;> cases b3 <;> cases x <;> cases y <;> cases b0 <;> simp
  · rw [beq_eq_false_iff_ne.2 hab]
    have h3 : ((a.Kind == 3) && (b.Kind == 3)) = false := by
      rw [Bool.eq_false_iff]
      intro h
      rw [Bool.and_eq_true, beq_iff_eq, beq_iff_eq] at h
      exact hab (by rw [h.1, h.2])
    revert h3
    generalize (a.Kind == 1) = a1
    generalize (a.Kind == 3) = a3
    generalize (b.Kind == 1) = b1
    generalize (b.Kind == 3) = b3
    cases z <;> cases a1 <;> cases b1 <;> cases a3 <;> cases b3 <;> cases x <;> cases y <;> simp
/-- A claim of a kind, about a place, in a year. -/
def telB (k : Int) (p : ByteArray) (y : Int) (c : Claim) : Bool := (c.Kind == k) && ((c.Place.toList == p.toList) && inB y c.Years.From c.Years.To)
def tel (L : List Claim) (k : Int) (p : ByteArray) (y : Int) : Option ByteArray := (L.find? (telB k p y)).map Claim.Value
def telP (o : Option ByteArray) : ByteArray × Bool := match o with | some v => (v, true) | none => (ByteArray.mk #[], false)
theorem impl_told_eq {L : List Claim} (hL : L.length ≤ 1048576) (k : Int) (p : ByteArray) (y : Int) : impl_told L k p y = some (telP (tel L k p y)) := by
  unfold impl_told slices_IndexFunc_Claim_impl_told_1 impl_told_1 impl_Span_has
  rw [loop_idx (by omega) (telB k p y) (fun i x hx => by
    rw [at_nat, hx, Option.bind_some, within_eq]
    unfold telB
    cases x.Kind == k <;> cases x.Place.toList == p.toList <;> rfl)]
  unfold tel
  rcases idx_find (telB k p y) L with ⟨h1, h2⟩ | ⟨i, x, h1, h2, h3⟩
  · rw [h1, h2]
    rfl
  · rw [h1, h3, Option.bind_some, decide_eq_false (by omega), cond_false, at_nat, h2]
    rfl
theorem impl_parent_eq {L : List Claim} (hL : L.length ≤ 1048576) (p : ByteArray) (y : Int) : impl_parentClaim L p y = some (telP (tel L 1 p y)) := by
  unfold impl_parentClaim slices_IndexFunc_Claim_impl_parentClaim_1 impl_parentClaim_1 impl_Span_has
  rw [loop_idx (by omega) (telB 1 p y) (fun i x hx => by
    rw [at_nat, hx, Option.bind_some, within_eq]
    unfold telB
    cases x.Kind == 1 <;> cases x.Place.toList == p.toList <;> rfl)]
  unfold tel
  rcases idx_find (telB 1 p y) L with ⟨h1, h2⟩ | ⟨i, x, h1, h2, h3⟩
  · rw [h1, h2]
    rfl
  · rw [h1, h3, Option.bind_some, decide_eq_false (by omega), cond_false, at_nat, h2]
    rfl
theorem spec_parent_eq {L : List Claim} (hL : L.length ≤ 1048576) (p : ByteArray) (y : Int) : spec_l21Parent L p y = some (telP (tel L 1 p y)).1 := by
  unfold spec_l21Parent
  rw [loop_first (by omega) (fun _ => telB 1 p y) (fun _ x => x.Value) (fun i x hx => by
    rw [at_nat, hx, Option.bind_some, l01In_eq]
    unfold telB
    cases x.Kind == 1 <;> cases x.Place.toList == p.toList <;> rfl), firstI_find (telB 1 p y) Claim.Value]
  unfold tel
  cases L.find? (telB 1 p y) <;> rfl
theorem spec_name_eq {L : List Claim} (hL : L.length ≤ 1048576) (p : ByteArray) (y : Int) : spec_l21Name L p y = some (telP (tel L 0 p y)).1 := by
  unfold spec_l21Name
  rw [loop_first (by omega) (fun _ => telB 0 p y) (fun _ x => x.Value) (fun i x hx => by
    rw [at_nat, hx, Option.bind_some, l01In_eq]
    unfold telB
    cases x.Kind == 0 <;> cases x.Place.toList == p.toList <;> rfl), firstI_find (telB 0 p y) Claim.Value]
  unfold tel
  cases L.find? (telB 0 p y) <;> rfl
/-- What claims tell of names and parents is not empty. -/
theorem tel_some {L : List Claim} (h : ∀ x ∈ L, claimB x = true) {k : Int} (hk : k = 0 ∨ k = 1) {p : ByteArray} {y : Int} {v : ByteArray} (hv : tel L k p y = some v) : 1 ≤ v.size ∧ v ∈ L.map Claim.Value := by
  unfold tel at hv
  rw [Option.map_eq_some_iff] at hv
  obtain ⟨c, hc, rfl⟩ := hv
  have hm := List.mem_of_find?_eq_some hc
  refine ⟨?_, List.mem_map.2 ⟨c, hm, rfl⟩⟩
  have hk' := List.find?_some hc
  unfold telB at hk'
  rw [Bool.and_eq_true, beq_iff_eq] at hk'
  have hcl := h c hm
  unfold claimB at hcl
  rw [Bool.and_eq_true, Bool.and_eq_true, Bool.and_eq_true] at hcl
  have hval := hcl.2.2.1
  unfold valB at hval
  rcases hk with rfl | rfl
  · rw [hk'.1] at hval
    exact phraseB_size hval
  · rw [hk'.1] at hval
    simp only [Int.reduceBEq, cond_false, cond_true, Bool.and_eq_true] at hval
    exact (wordB_size hval.1).1
end Go.Proofs.YtppehghiiahabaaGreatDoor.Sh
