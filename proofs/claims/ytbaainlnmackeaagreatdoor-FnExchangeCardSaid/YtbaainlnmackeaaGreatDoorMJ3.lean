/- Plain laws of logs: VectorOf, MissingFor, MakeOp, MergeLogs of both; bounds on lengths alone. -/
import Derived.Test.YtbaainlnmackeaaGreatDoorMJ2
import Derived.Test.YtbaainlnmackeaaGreatDoorGA
import Derived.Test.YtbaainlnmackeaaGreatDoorGB
namespace Go.Proofs.YtbaainlnmackeaaGreatDoor.Sh
open Go.RowKit Go.Lib
theorem spec_vec {L : List Op} (hL : L.length ≤ 1048576) (ho : offs L) : spec_l32Count L = some (vec L) := by
  unfold spec_l32Count
  exact vec_loop hL ho
theorem vectorOf_eq (L : List Op) (hL : L.length ≤ 1048576) (hx : ∀ x ∈ L, OpR x) : ∃ r, impl_VectorOf L = some r ∧ spec_VectorOf L = some r ∧ r.1.length ≤ 100 := by
  unfold impl_VectorOf spec_VectorOf
  rw [impl_isLog_eq L hL hx, spec_isLog_eq L hL hx]
  cases hlog : logB L
  · exact ⟨_, rfl, rfl, by simp⟩
  · obtain ⟨h16, hg⟩ := logB_good hlog
    rw [impl_vec hL fun x hx => (hg x hx).o, spec_vec hL fun x hx => (hg x hx).o]
    exact ⟨_, rfl, rfl, by simp [vec]⟩
def missF (L : List Op) (v : List Int) (i : Nat) : List Int := match L[i]? with
  | some x => bif decide (x.Number > gv v x.Office) then [(i : Int)] else []
  | none => []
theorem missF_len (L : List Op) (v : List Int) (i : Nat) : (missF L v i).length ≤ 1 := by
  unfold missF
  split
  · rename_i x _
    cases decide (x.Number > gv v x.Office) <;> simp
  · simp
theorem missing_val (L : List Op) (v : List Int) (hL : L.length ≤ 1048576) (hx : ∀ x ∈ L, OpR x) (hv : v.length ≤ 1048576) : ∃ r, impl_MissingFor L v = some r ∧ spec_MissingFor L v = some r ∧ r.1.length ≤ 100 ∧ (logB L = true → vecB v = true → r = ((List.range L.length).flatMap (missF L v), 0)) := by
  unfold impl_MissingFor spec_MissingFor
  rw [impl_isLog_eq L hL hx, spec_isLog_eq L hL hx, impl_isVec v (by unfold maxLen; omega), spec_isVec v (by unfold maxLen; omega)]
  cases hlog : logB L
  · exact ⟨_, rfl, rfl, by simp, fun h _ => by cases h⟩
  · cases hvb : vecB v
    · exact ⟨_, rfl, rfl, by simp, fun _ h => by cases h⟩
    · obtain ⟨h16, hg⟩ := logB_good hlog
      have hlen : ((List.range L.length).flatMap (missF L v)).length ≤ 100 := by
        have : ∀ (M : List Nat), (M.flatMap (missF L v)).length ≤ M.length := by
          intro M
          induction M with
          | nil => simp
          | cons n M ih =>
            rw [List.flatMap_cons, List.length_append, List.length_cons]
            have := missF_len L v n
            omega
        have := this (List.range L.length)
        rw [List.length_range] at this
        omega
      refine ⟨((List.range L.length).flatMap (missF L v), 0), ?_, ?_, hlen, fun _ _ => rfl⟩
      · simp only [Option.bind_some, Bool.not_true, cond_false]
        rw [forS_build 1000 (by omega) (by omega) (missF L v) (missF_len L v) [] (by simp; omega) (fun i s hi hs => by
          have hx : L[i]? = some L[i] := List.getElem?_eq_getElem hi
          have hxm := List.getElem_mem hi
          unfold missF
          rw [hx]
          generalize L[i] = x at hx hxm
          have ho := (hg x hxm).o
          simp only [at_nat, hx, Option.bind_some, (vecB_at hvb ho.1 ho.2).1]
          cases decide (x.Number > gv v x.Office)
          · simp
          · rw [cond_true, app_ok (by simp; omega)]
            rfl)]
        rfl
      · simp only [Option.bind_some, Bool.not_true, cond_false]
        rw [forS_build 1000 (by omega) (by omega) (missF L v) (missF_len L v) [] (by simp; omega) (fun i s hi hs => by
          have hx : L[i]? = some L[i] := List.getElem?_eq_getElem hi
          have hxm := List.getElem_mem hi
          unfold missF
          rw [hx]
          generalize L[i] = x at hx hxm
          have ho := (hg x hxm).o
          simp only [at_nat, hx, Option.bind_some, (vecB_at hvb ho.1 ho.2).1]
          cases decide (x.Number > gv v x.Office)
          · simp
          · rw [cond_true, app_ok (by simp; omega)]
            rfl)]
        rfl
/-- A list that is built anew, element by element. -/
theorem clone_gen {α : Type} {L : List α} (hL : L.length ≤ 1000000000) {B : Int → List α → Option (List α)} (hB : ∀ (i : Nat) x (s : List α), L[i]? = some x → s.length ≤ 1000000000 → B (i : Int) s = some (s ++ [x])) : forS (L.length : Int) B (fun s => s) 0 [] = some L := by
  have key : ∀ (M P : List α), L = P ++ M → iterN (fun (i : Nat) s => (B (i : Int) s).map (Sum.inl (β := List α))) (fun s => s) M.length P.length P = some L := by
    intro M
    induction M with
    | nil => intro P h; rw [h, List.append_nil]; rfl
    | cons x M ih =>
      intro P h
      have hat : L[P.length]? = some x := by rw [h]; simp
      have hp : P.length ≤ L.length := by rw [h]; simp
      rw [show (x :: M).length = M.length + 1 from rfl]
      unfold iterN
      rw [hB P.length x P hat (by omega), Option.map_some, Option.bind_some, Sum.elim_inl]
      have := ih (P ++ [x]) (by rw [h]; simp)
      rw [List.length_append, List.length_singleton] at this
      exact this
  rw [forS_forN, forN_iter _ (by omega)]
  exact key L [] rfl
theorem impl_clone {L : List Op} (hL : L.length ≤ 1000000) (hs : ∀ x ∈ L, x.Seen.length ≤ 1048576) : impl_cloneLog L = some L := by
  unfold impl_cloneLog
  rw [clone_gen (by omega) (fun i x s hx hl => by
    have h1 := hs x (List.mem_of_getElem? hx)
    have e : impl_Op_clone x = some x := by
      unfold impl_Op_clone slices_Clone_int64
      rw [if_pos (by omega)]
      rfl
    rw [at_nat, hx, Option.bind_some, e, Option.bind_some, app_ok (by simp; omega)]
    rfl)]
  rfl
theorem spec_own {L : List Op} (hL : L.length ≤ 1000000) (hs : ∀ x ∈ L, x.Seen.length ≤ 1048576) : spec_l32Own L = some L := by
  unfold spec_l32Own
  rw [clone_gen (by omega) (fun i x s hx hl => by
    have h1 := hs x (List.mem_of_getElem? hx)
    have e : spec_l01Own x.Seen = some x.Seen := by
      unfold spec_l01Own
      rw [app_ok (by simp; omega)]
      rfl
    rw [at_nat, hx, Option.bind_some, e, Option.bind_some, app_ok (by simp; omega)]
    rfl)]
  rfl
theorem vecB_vec (L : List Op) : vecB (vec L) = true := by
  have h := fun o => (cn_le L o).1
  unfold vecB vec
  simp [h]
theorem gv_vec (L : List Op) {o : Int} (h0 : 0 ≤ o) (h3 : o ≤ 3) : gv (vec L) o = cn L o := by
  rcases off4 h0 h3 with rfl | rfl | rfl | rfl <;> rfl
/-- What the results of operations are bounded by. -/
def resOk (r : List Op × Int) : Prop := r.1.length ≤ 17 ∧ ∀ x ∈ r.1, OpR x
theorem same_list (u v : List Int) (hu : u.length ≤ 1048576) : (bif ((u.length : Int) != (v.length : Int)) then some false else (((forN (u.length : Int) (fun (i3 : Int) (_ : Unit) => ((at' u i3).bind fun x7 => ((at' v i3).bind fun x8 => (bif (x7 != x8) then some (.inr (.inr false)) else some (.inl ()))))) (fun (_ : Unit) => .inl ()) 0 ())).bind (Sum.elim (fun (_ : Unit) => some true) some))) = some (decide (u = v)) := by
  by_cases h : u.length = v.length
  · have e : ((u.length : Int) != (v.length : Int)) = false := by rw [h]; simp
    have hl : (u.zip v).length = u.length := by rw [List.length_zip]; omega
    rw [e, cond_false]
    rw [show ((u.length : Int)) = ((u.zip v).length : Int) by rw [hl], loop_any (by omega) (fun q => q.1 != q.2) false (fun i q hq => by
      have h1 := List.getElem?_zip_eq_some.1 hq
      rw [at_nat, h1.1, Option.bind_some, at_nat, h1.2, Option.bind_some])]
    have h2 : ∀ (u v : List Int), u.length = v.length → (u.zip v).any (fun q => q.1 != q.2) = !decide (u = v) := by
      intro u
      induction u with
      | nil => intro v h; cases v with | nil => simp | cons _ _ => simp at h
      | cons a u ih =>
        intro v h
        cases v with
        | nil => simp at h
        | cons b v =>
          rw [List.zip_cons_cons, List.any_cons, ih v (by simpa using h)]
          by_cases hab : a = b
          · subst hab; simp
          · simp [hab]
    rw [h2 u v h]
    cases decide (u = v) <;> rfl
  · have e : ((u.length : Int) != (v.length : Int)) = true := by
      rw [bne_iff_ne]
      omega
    rw [e, cond_true, decide_eq_false (fun hh => h (by rw [hh]))]
def sameB (x y : Op) : Bool := (x.Office == y.Office) && ((x.Number == y.Number) && ((x.Key.toList == y.Key.toList) && ((x.Text.toList == y.Text.toList) && decide (x.Seen = y.Seen))))
theorem impl_same (x y : Op) (hx : x.Seen.length ≤ 1048576) : impl_Op_isSame x y = some (sameB x y) := by
  unfold impl_Op_isSame slices_Equal_int64 sameB
  rw [same_list x.Seen y.Seen hx]
  cases (x.Office == y.Office) <;> cases (x.Number == y.Number) <;> cases (x.Key.toList == y.Key.toList) <;> cases (x.Text.toList == y.Text.toList) <;> rfl
theorem spec_same (x y : Op) (hx : x.Seen.length ≤ 1048576) : spec_l32Same x y = some (sameB x y) := by
  unfold spec_l32Same spec_l01Same sameB
  rw [same_list x.Seen y.Seen hx]
  cases (x.Office == y.Office) <;> cases (x.Number == y.Number) <;> cases (x.Key.toList == y.Key.toList) <;> cases (x.Text.toList == y.Text.toList) <;> rfl
def fi (a : List Op) (x : Op) : Int := idxP (fun y : Op => (y.Office == x.Office) && (y.Number == x.Number)) a
theorem impl_find {a : List Op} (ha : a.length ≤ 1048576) (x : Op) : impl_findOp a x = some (fi a x) := by
  unfold impl_findOp slices_IndexFunc_Op_impl_findOp_1 fi
  rw [loop_idx (by omega) (fun y : Op => (y.Office == x.Office) && (y.Number == x.Number)) (fun i y hy => by rw [at_nat, hy]; rfl)]
  rfl
theorem spec_find {a : List Op} (ha : a.length ≤ 1048576) (x : Op) : spec_l32Find a x.Office x.Number = some (fi a x) := by
  unfold spec_l32Find fi
  exact loop_idx (by omega) (fun y : Op => (y.Office == x.Office) && (y.Number == x.Number)) (fun i y hy => by
    rw [at_nat, hy]
    simp only [Option.bind_some]
    cases (y.Office == x.Office) <;> rfl)
/-- The second log's operations behind the first one's; none where two differ. -/
def mrg (a : List Op) : List Op → List Op → Option (List Op)
  | [], s => some s
  | x :: M, s => bif decide (fi a x < 0) then mrg a M (s ++ [x]) else match at' a (fi a x) with
    | some y => bif sameB y x then mrg a M s else none
    | none => none
theorem mrg_mem {a : List Op} : ∀ {M s r : List Op}, mrg a M s = some r → r.length ≤ s.length + M.length ∧ ∀ x ∈ r, x ∈ s ∨ x ∈ M
  | [], s, r, h => by
    injection h with h
    subst h
    exact ⟨by simp, fun x hx => .inl hx⟩
  | y :: M, s, r, h => by
    unfold mrg at h
    cases hd : decide (fi a y < 0)
    · rw [hd, cond_false] at h
      split at h
      · rename_i z _
        cases hs : sameB z y
        · rw [hs] at h; cases h
        · rw [hs, cond_true] at h
          obtain ⟨h1, h2⟩ := mrg_mem h
          exact ⟨by simp; omega, fun x hx => (h2 x hx).imp id fun h => List.mem_cons_of_mem _ h⟩
      · cases h
    · rw [hd, cond_true] at h
      obtain ⟨h1, h2⟩ := mrg_mem h
      refine ⟨by simp at h1 ⊢; omega, fun x hx => ?_⟩
      rcases h2 x hx with h3 | h3
      · rcases List.mem_append.1 h3 with h3 | h3
        · exact .inl h3
        · rw [List.mem_singleton.1 h3]; exact .inr (by simp)
      · exact .inr (List.mem_cons_of_mem _ h3)
def mrgR (o : Option (List Op)) : List Op ⊕ (List Op × Int) := match o with
  | some s => .inl s
  | none => .inr ([], 5)
theorem fi_at {a : List Op} {x : Op} (h : ¬ fi a x < 0) : ∃ y, at' a (fi a x) = some y ∧ y ∈ a := by
  obtain ⟨n, hn⟩ := Int.eq_ofNat_of_zero_le (show 0 ≤ fi a x by omega)
  obtain ⟨y, h1, _⟩ := idxP_get (fun y : Op => (y.Office == x.Office) && (y.Number == x.Number)) hn
  exact ⟨y, by rw [hn, at_nat, h1], List.mem_of_getElem? h1⟩
def mrgV (o : Option (List Op)) : List Op × Int := match o with
  | some s => bif decide ((s.length : Int) > 16) then ([], 3) else (s, 0)
  | none => ([], 5)
theorem merge_val (a b : List Op) (ha : a.length ≤ 1048576) (hb : b.length ≤ 1048576) (hxa : ∀ x ∈ a, OpR x) (hxb : ∀ x ∈ b, OpR x) : ∃ r, impl_MergeLogs a b = some r ∧ spec_MergeLogs a b = some r ∧ resOk r ∧ r = bif logB a then (bif logB b then mrgV (mrg a b a) else ([], 1)) else ([], 1) := by
  unfold impl_MergeLogs spec_MergeLogs
  rw [impl_isLog_eq a ha hxa, spec_isLog_eq a ha hxa, impl_isLog_eq b hb hxb, spec_isLog_eq b hb hxb]
  cases hla : logB a
  · exact ⟨_, rfl, rfl, by simp [resOk], rfl⟩
  · cases hlb : logB b
    · exact ⟨_, rfl, rfl, by simp [resOk], rfl⟩
    · obtain ⟨ha16, _⟩ := logB_good hla
      obtain ⟨hb16, _⟩ := logB_good hlb
      have hsa : ∀ x ∈ a, x.Seen.length ≤ 1048576 := fun x h => (hxa x h).s
      have hsb : ∀ x ∈ b, x.Seen.length ≤ 1048576 := fun x h => (hxb x h).s
      simp only [Option.bind_some, Bool.not_true, cond_false, impl_clone (L := a) (by omega) hsa]
      rw [app_ok (by simp; omega), List.nil_append, Option.bind_some]
      have ki : ∀ (M : List Op) (k : Nat) (s : List Op), (∀ x ∈ M, x ∈ b) → s.length + M.length ≤ 100 → overI (fun _ x12 (s8 : List Op) => ((impl_findOp a x12).bind fun x13 => (bif (decide (x13 < 0)) then ((impl_Op_clone x12).bind fun x14 => ((app' s8 ([x14] : List Op)).bind fun x15 => some (Sum.inl x15))) else ((at' a x13).bind fun x16 => ((impl_Op_isSame x16 x12).bind fun x17 => (bif (!x17) then some (Sum.inr (Sum.inr (([] : List Op), (5 : Int)))) else some (Sum.inl s8))))))) (fun s => (.inl s : List Op ⊕ (List Op × Int))) M k s = some (mrgR (mrg a M s)) := by
        intro M
        induction M with
        | nil => intro k s _ _; rfl
        | cons x M ih =>
          intro k s hM hl
          have hxm := hM x (by simp)
          simp only [List.length_cons] at hl
          unfold overI mrg
          rw [impl_find ha, Option.bind_some]
          by_cases hd : fi a x < 0
          · have e : impl_Op_clone x = some x := by
              unfold impl_Op_clone slices_Clone_int64
              rw [if_pos (by have := hsb x hxm; omega)]
              rfl
            rw [decide_eq_true hd, cond_true, cond_true, e, Option.bind_some, app_ok (by simp; omega)]
            exact ih (k + 1) (s ++ [x]) (fun y hy => hM y (by simp [hy])) (by simp; omega)
          · obtain ⟨y, hy, hym⟩ := fi_at hd
            rw [decide_eq_false hd, cond_false, cond_false, hy, Option.bind_some, impl_same y x (hsa y hym), Option.bind_some]
            dsimp only
            cases sameB y x
            · rfl
            · exact ih (k + 1) s (fun y hy => hM y (by simp [hy])) (by omega)
      have ks : ∀ (M P : List Op) (s : List Op), b = P ++ M → s.length + M.length ≤ 100 → overI (fun (i : Nat) (_ : Op) (s8 : List Op) => ((at' b (i : Int)).bind fun x12 => ((at' b (i : Int)).bind fun x13 => ((spec_l32Find a x12.Office x13.Number).bind fun x14 => (bif (decide (x14 < 0)) then ((at' b (i : Int)).bind fun x15 => ((app' s8 ([x15] : List Op)).bind fun x16 => some (Sum.inl x16))) else ((at' a x14).bind fun x17 => ((at' b (i : Int)).bind fun x18 => ((spec_l32Same x17 x18).bind fun x19 => (bif (!x19) then some (Sum.inr (Sum.inr (([] : List Op), (5 : Int)))) else some (Sum.inl s8)))))))))) (fun s => (.inl s : List Op ⊕ (List Op × Int))) M P.length s = some (mrgR (mrg a M s)) := by
        intro M
        induction M with
        | nil => intro P s _ _; rfl
        | cons x M ih =>
          intro P s h hl
          have hxm : x ∈ b := by rw [h]; simp
          have hat : at' b ((P.length : Nat) : Int) = some x := by rw [at_nat, h]; simp
          simp only [List.length_cons] at hl
          have hn := fun s hl => ih (P ++ [x]) s (by rw [h]; simp) hl
          rw [List.length_append, List.length_singleton] at hn
          unfold overI mrg
          simp only [hat, Option.bind_some, spec_find ha]
          by_cases hd : fi a x < 0
          · rw [decide_eq_true hd, cond_true, cond_true, app_ok (by simp; omega)]
            exact hn (s ++ [x]) (by simp; omega)
          · obtain ⟨y, hy, hym⟩ := fi_at hd
            rw [decide_eq_false hd, cond_false, cond_false, hy, Option.bind_some, spec_same y x (hsa y hym), Option.bind_some]
            dsimp only
            cases sameB y x
            · rfl
            · exact hn s (by omega)
      rw [forN_at (A := List Op ⊕ (List Op × Int)) b (by omega) (fun (_ : Int) x12 (s8 : List Op) => ((impl_findOp a x12).bind fun x13 => (bif (decide (x13 < 0)) then ((impl_Op_clone x12).bind fun x14 => ((app' s8 ([x14] : List Op)).bind fun x15 => some (Sum.inl x15))) else ((at' a x13).bind fun x16 => ((impl_Op_isSame x16 x12).bind fun x17 => (bif (!x17) then some (Sum.inr (Sum.inr (([] : List Op), (5 : Int)))) else some (Sum.inl s8))))))), ki b 0 a (fun _ h => h) (by omega)]
      rw [forN_list (A := List Op ⊕ (List Op × Int)) b (by omega) _ (fun (i : Nat) (_ : Op) (s8 : List Op) => ((at' b (i : Int)).bind fun x12 => ((at' b (i : Int)).bind fun x13 => ((spec_l32Find a x12.Office x13.Number).bind fun x14 => (bif (decide (x14 < 0)) then ((at' b (i : Int)).bind fun x15 => ((app' s8 ([x15] : List Op)).bind fun x16 => some (Sum.inl x16))) else ((at' a x14).bind fun x17 => ((at' b (i : Int)).bind fun x18 => ((spec_l32Same x17 x18).bind fun x19 => (bif (!x19) then some (Sum.inr (Sum.inr (([] : List Op), (5 : Int)))) else some (Sum.inl s8)))))))))) _ a (fun j x s hx => rfl)]
      have := ks b [] a rfl (by omega)
      rw [List.length_nil] at this
      rw [this]
      cases hm : mrg a b a with
      | none => exact ⟨_, rfl, rfl, by simp [resOk], rfl⟩
      | some s =>
        obtain ⟨h1, h2⟩ := mrg_mem hm
        have hs : ∀ x ∈ s, OpR x := fun x hx => (h2 x hx).elim (hxa x) (hxb x)
        unfold mrgR
        simp only [Option.bind_some, Sum.elim_inl]
        cases hd : decide ((s.length : Int) > 16)
        · rw [cond_false, cond_false, spec_own (by omega) fun x hx => (hs x hx).s]
          exact ⟨_, rfl, rfl, ⟨by have := of_decide_eq_false hd; show s.length ≤ 17; omega, hs⟩, by unfold mrgV; dsimp only; rw [hd]; rfl⟩
        · exact ⟨_, rfl, rfl, by simp [resOk], by unfold mrgV; dsimp only; rw [hd]; rfl⟩
theorem merge_eq (a b : List Op) (ha : a.length ≤ 1048576) (hb : b.length ≤ 1048576) (hxa : ∀ x ∈ a, OpR x) (hxb : ∀ x ∈ b, OpR x) : ∃ r, impl_MergeLogs a b = some r ∧ spec_MergeLogs a b = some r ∧ resOk r := by
  obtain ⟨r, h1, h2, h3, _⟩ := merge_val a b ha hb hxa hxb
  exact ⟨r, h1, h2, h3⟩
end Go.Proofs.YtbaainlnmackeaaGreatDoor.Sh
