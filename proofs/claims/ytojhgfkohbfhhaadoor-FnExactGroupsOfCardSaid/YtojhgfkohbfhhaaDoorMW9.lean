/- Ties without one of them, and the groups, of both; no condition but the bounds of the arguments' types. -/
import Derived.Test.YtojhgfkohbfhhaaDoorMW8
namespace Go.Proofs.YtojhgfkohbfhhaaDoor.Sh
open Go.RowKit Go.Lib
theorem forS_two {S A : Type} (B : Int → S → Option S) (D : S → A) (s : S) : forS 2 B D 0 s = ((B 0 s).bind fun s => (B 1 s).bind fun s => some (D s)) := by
  have := forN_iter 2 (by omega) (fun i s => (B i s).map (Sum.inl (β := A))) D s
  rw [forS_forN]
  refine this.trans ?_
  unfold iterN
  rw [show ((0 : Nat) : Int) = 0 from rfl]
  cases B 0 s with
  | none => rfl
  | some s1 =>
    show ((B 1 s1).map (Sum.inl (β := A))).bind (Sum.elim (fun s => some (D s)) some) = (B 1 s1).bind _
    cases B 1 s1 <;> rfl
def without (L : List Tie) (i : Nat) : List Tie := L.take i ++ L.drop (i + 1)
theorem without_sub {L : List Tie} {i : Nat} {t : Tie} (h : t ∈ without L i) : t ∈ L := by
  rcases List.mem_append.1 h with h | h
  · exact List.mem_of_mem_take h
  · exact List.mem_of_mem_drop h
theorem without_len (L : List Tie) (i : Nat) : (without L i).length ≤ L.length := by
  unfold without
  simp
  omega
theorem without_in {n : Nat} {L : List Tie} (hT : TIn n L) (i : Nat) : TIn n (without L i) := ⟨hT.pos, hT.le, by have := without_len L i; have := hT.len; omega, fun t ht => hT.all t (without_sub ht)⟩
def tieCodeB (n : Int) (L : List Tie) (i : Int) : Int := bif tiesB n L then (bif inB i 0 ((L.length : Int) - 1) then 0 else 2) else 1
theorem contains_eq (g : List Int) (x : Int) (hg : g.length ≤ maxLen) : slices_Contains_int64 g x = some (g.any fun y => x == y) := by
  unfold slices_Contains_int64 slices_Index_int64
  rw [loop_idx (len63 hg) (fun y => x == y) (fun i y hy => by rw [at_nat, hy]; rfl)]
  simp only [Option.bind_some, idxP_any]
theorem inGroups_eq (G : List (List Int)) (x : Int) (hG : G.length ≤ maxLen) (hg : ∀ g ∈ G, g.length ≤ maxLen) : slices_ContainsFunc_int64_impl_groupsOf_1 G x = some (G.any fun g => g.any fun y => x == y) := by
  unfold slices_ContainsFunc_int64_impl_groupsOf_1 slices_IndexFunc_int64_impl_groupsOf_1
  rw [loop_idx (len63 hG) (fun g => g.any fun y => x == y) (fun i g hgi => by
    rw [at_nat, hgi, Option.bind_some]
    unfold impl_groupsOf_1
    rw [contains_eq _ _ (hg g (List.mem_of_getElem? hgi))]
    rfl)]
  simp only [Option.bind_some, idxP_any]
/-- The group of a. -/
def grp (n : Nat) (L : List Tie) (a : Nat) : List Int := fl (rch (farP n L a n)) n
/-- Is a the least of its group? -/
def least (n : Nat) (L : List Tie) (a : Nat) : Bool := (grp n L a)[0]? == some (a : Int)
def groups (n : Nat) (L : List Tie) : List (List Int) := (List.range n).flatMap fun a => bif least n L a then [grp n L a] else []
theorem grp_self {n : Nat} {L : List Tie} (hT : TIn n L) {a : Nat} (ha : a < n) : rch (farP n L a n) a = true := by
  unfold rch
  rw [(farP_dist hT ha).zero]
  rfl
theorem grp_same {n : Nat} {L : List Tie} (hT : TIn n L) {a b : Nat} (ha : a < n) (hb : b < n) (h : rch (farP n L a n) b = true) : grp n L a = grp n L b := by
  refine fl_congr fun i hi => ?_
  have := (farP_dist hT ha).same hT (farP_dist hT hb) ha hb (of_decide_eq_true h) i hi
  unfold rch
  by_cases h1 : 0 ≤ gv (farP n L a n) i
  · rw [decide_eq_true h1, decide_eq_true (this.1 h1)]
  · rw [decide_eq_false h1, decide_eq_false (fun h2 => h1 (this.2 h2))]
theorem grp_head {n : Nat} {L : List Tie} (hT : TIn n L) {a : Nat} (ha : a < n) : ∃ m, m < n ∧ m ≤ a ∧ rch (farP n L a n) m = true ∧ (grp n L a)[0]? = some (m : Int) := by
  rcases fl_head (rch (farP n L a n)) n with ⟨h1, _⟩ | ⟨m, h1, h2, h3, h4⟩
  · have := h1 a ha
    rw [grp_self hT ha] at this
    cases this
  · refine ⟨m, h1, ?_, h2, h4⟩
    rcases Nat.lt_or_ge a m with h5 | h5
    · have := h3 a h5
      rw [grp_self hT ha] at this
      cases this
    · exact h5
/-- A record is in an earlier group just where it is not the least of its own. -/
theorem earlier {n : Nat} {L : List Tie} (hT : TIn n L) {k : Nat} (hk : k < n) : ((List.range k).flatMap fun a => bif least n L a then [grp n L a] else []).any (fun g => g.any fun y => (k : Int) == y) = !least n L k := by
  have sw : ∀ g : List Int, (g.any fun y => (k : Int) == y) = g.any fun y => y == (k : Int) := fun g => by
    congr 1
    funext y
    exact Bool.beq_comm
  obtain ⟨m, h1, h2, h3, h4⟩ := grp_head hT hk
  by_cases hm : m = k
  · subst hm
    have hl : least n L m = true := by
      unfold least
      rw [h4]
      exact beq_self_eq_true _
    rw [hl, Bool.not_true, Bool.eq_false_iff]
    intro h
    obtain ⟨g, hg, h5⟩ := List.any_eq_true.1 h
    obtain ⟨a, ha, h6⟩ := List.mem_flatMap.1 hg
    have ha := List.mem_range.1 ha
    cases hla : least n L a
    · rw [hla] at h6; cases h6
    · rw [hla] at h6
      have h7 : g = grp n L a := by simpa using h6
      subst h7
      rw [sw] at h5
      unfold grp at h5
      rw [fl_any, Bool.and_eq_true] at h5
      have h8 := grp_same hT (by omega) hk h5.2
      unfold least at hla
      rw [h8, h4] at hla
      have := eq_of_beq hla
      injection this with this
      omega
  · have hl : least n L k = false := by
      unfold least
      rw [h4, beq_eq_false_iff_ne]
      intro e
      injection e with e
      omega
    rw [hl, Bool.not_false, List.any_eq_true]
    have h8 := grp_same hT hk h1 h3
    have hlm : least n L m = true := by
      unfold least
      rw [← h8, h4]
      exact beq_self_eq_true _
    refine ⟨grp n L m, List.mem_flatMap.2 ⟨m, List.mem_range.2 (by omega), by rw [hlm]; simp⟩, ?_⟩
    rw [← h8, sw]
    unfold grp
    rw [fl_any, grp_self hT hk, decide_eq_true hk]
    rfl
theorem groups_len (n : Nat) (L : List Tie) (k : Nat) : ((List.range k).flatMap fun a => bif least n L a then [grp n L a] else []).length ≤ k := by
  induction k with
  | zero => simp
  | succ k ih =>
    rw [List.range_succ, List.flatMap_append, List.length_append]
    simp only [List.flatMap_cons, List.flatMap_nil, List.append_nil]
    cases least n L k
    · simp only [cond_false, List.length_nil]; omega
    · simp only [cond_true, List.length_singleton]; omega
theorem groups_small {n : Nat} {L : List Tie} {k : Nat} {g : List Int} (h : g ∈ (List.range k).flatMap fun a => bif least n L a then [grp n L a] else []) : g.length ≤ n := by
  obtain ⟨a, _, h6⟩ := List.mem_flatMap.1 h
  cases hla : least n L a
  · rw [hla] at h6; cases h6
  · rw [hla] at h6
    have h7 : g = grp n L a := by simpa using h6
    rw [h7]
    exact fl_len _ _
theorem groups_spec {n : Nat} {L : List Tie} (hT : TIn n L) : spec_l31Groups (n : Int) L = some (groups n L) := by
  have hn := hT.le
  unfold spec_l31Groups groups
  rw [forS_build (n := n) 1000 (by omega) (by omega) (fun a => bif least n L a then [grp n L a] else []) (fun i => by cases least n L i <;> simp) [] (by simp; omega) (fun i s hi hs => ?_)]
  · rfl
  · rw [group_eq hT hi (farP_dist hT hi), Option.bind_some]
    obtain ⟨m, h1, h2, h3, h4⟩ := grp_head hT hi
    have e0 : at' (grp n L i) 0 = some (m : Int) := (at_nat (L := grp n L i) 0).trans h4
    show ((at' (grp n L i) 0).bind fun x8 => (bif (x8 == (i : Int)) then ((app' s ([grp n L i] : List (List Int))).bind fun x9 => some x9) else some s)) = _
    rw [e0, Option.bind_some]
    have hl : least n L i = ((m : Int) == (i : Int)) := by
      unfold least
      rw [h4]
      rfl
    rw [hl]
    cases ((m : Int) == (i : Int))
    · simp
    · rw [cond_true, app_ok (by simp; omega)]
      rfl
theorem groups_impl {n : Nat} {L : List Tie} (hT : TIn n L) : impl_groupsOf (n : Int) L = some (groups n L) := by
  have hn := hT.le
  unfold impl_groupsOf groups
  rw [forS_forN, forN_iter n (by omega)]
  have step : ∀ (i : Nat) (s : List (List Int)), i < n → s = ((List.range i).flatMap fun a => bif least n L a then [grp n L a] else []) → ∃ s', (((slices_ContainsFunc_int64_impl_groupsOf_1 s (i : Int)).bind fun x7 => (bif x7 then some s else ((impl_far (n : Int) L (i : Int)).bind fun x8 => (((forS (x8.length : Int) (fun (i11 : Int) (s11 : (List Int)) => ((at' x8 i11).bind fun x15 => (bif (decide (x15 ≥ 0)) then ((app' s11 ([i11] : List Int)).bind fun x16 => some x16) else some s11))) (fun (s11 : (List Int)) => s11) 0 ([] : List Int))).bind fun (j9 : (List Int)) => ((app' s ([j9] : List (List Int))).bind fun x17 => some x17)))))) = some s' ∧ s' = ((List.range (i + 1)).flatMap fun a => bif least n L a then [grp n L a] else []) := by
    intro i s hi hs
    have hlen := groups_len n L i
    rw [hs, inGroups_eq _ _ (by unfold maxLen; omega) (fun g hg => by have := groups_small hg; unfold maxLen; omega), earlier hT hi, Option.bind_some]
    have e2 : ((List.range (i + 1)).flatMap fun a => bif least n L a then [grp n L a] else []) = ((List.range i).flatMap fun a => bif least n L a then [grp n L a] else []) ++ bif least n L i then [grp n L i] else [] := by
      rw [List.range_succ, List.flatMap_append]
      simp
    refine ⟨_, ?_, e2.symm⟩
    cases hl : least n L i
    · simp
    · have hd := farP_dist hT hi
      rw [Bool.not_true, cond_false, far_eq hT hi, Option.bind_some, hd.len, forS_build (n := n) 1000 (by omega) (by omega) (fun v => bif rch (farP n L i n) v then [(v : Int)] else []) (fun v => by cases rch (farP n L i n) v <;> simp) [] (by simp; omega) (fun v s hv hs => ?_)]
      · rw [Option.bind_some, List.nil_append]
        show ((app' _ ([grp n L i] : List (List Int))).bind fun x17 => some x17) = _
        rw [app_ok (by simp only [List.length_singleton]; omega)]
        rfl
      · rw [gv_at (by omega) (by rw [hd.len]; simpa using hv), Option.bind_some, Int.toNat_natCast]
        show (bif rch (farP n L i n) v then _ else _) = _
        cases rch (farP n L i n) v
        · simp
        · rw [cond_true, app_ok (by simp; omega)]
          rfl
  obtain ⟨r, e, hr⟩ := iterN_inv (B := fun (i : Nat) (s3 : List (List Int)) => (((slices_ContainsFunc_int64_impl_groupsOf_1 s3 (i : Int)).bind fun x7 => (bif x7 then some s3 else ((impl_far (n : Int) L (i : Int)).bind fun x8 => (((forS (x8.length : Int) (fun (i11 : Int) (s11 : (List Int)) => ((at' x8 i11).bind fun x15 => (bif (decide (x15 ≥ 0)) then ((app' s11 ([i11] : List Int)).bind fun x16 => some x16) else some s11))) (fun (s11 : (List Int)) => s11) 0 ([] : List Int))).bind fun (j9 : (List Int)) => ((app' s3 ([j9] : List (List Int))).bind fun x17 => some x17)))))).map (Sum.inl (β := List (List Int)))) (D := fun (s3 : (List (List Int))) => s3)
    (fun k (s : List (List Int)) => s = (List.range k).flatMap fun a => bif least n L a then [grp n L a] else []) (fun s => s = (List.range n).flatMap fun a => bif least n L a then [grp n L a] else []) n 0 [] (fun i s _ hi hs => by
    obtain ⟨s', e1, e2⟩ := step i s (by omega) hs
    exact .inl ⟨s', by rw [e1]; rfl, e2⟩) (fun s hs => by simpa using hs) (by simp)
  rw [e, hr]
  rfl
end Go.Proofs.YtojhgfkohbfhhaaDoor.Sh
