/- Plain laws of logs: VectorOf, MissingFor, MakeOp, MergeLogs of both; bounds on lengths alone. -/
import Derived.Test.YthfcdicfcepfhaaDoorTJ2
import Derived.Test.YthfcdicfcepfhaaDoorFO
namespace Go.Proofs.YthfcdicfcepfhaaDoor.Sh
open Go.RowKit Go.Lib
theorem spec_vec {L : List Op} (hL : L.length ≤ 1048576) (ho : offs L) : spec_l32Count L = some (vec L) := by
  unfold spec_l32Count
  exact vec_loop hL ho
def missF (L : List Op) (v : List Int) (i : Nat) : List Int := match L[i]? with
  | some x => bif decide (x.Number > gv v x.Office) then [(i : Int)] else []
  | none => []
theorem missF_len (L : List Op) (v : List Int) (i : Nat) : (missF L v i).length ≤ 1 := by
  unfold missF
  split
  · rename_i x _
    cases decide (x.Number > gv v x.Office) <;> simp
  · simp
/-- A list that is built anew, element by element. -/
theorem clone_gen {α : Type} {L : List α} (hL : L.length ≤ 1000000000) {B : Int → List α → Option (List α)} (hB : ∀ (i : Nat) x (s : List α), L[i]? = some x → s.length ≤ 1000000000 → B (i : Int) s = some (s ++ [x])) : forS (L.length : Int) B (fun s => s) 0 [] = some L := by
  have key : ∀ (M P : List α), L = P ++ M → iterN (fun (i : Nat) s => (B (i : Int) s).map (Sum.inl (β := List α))) (fun s => s) M.length P.length P = some L := by
    intro M
    induction M with
    | nil => intro P h; rw [h, List.append_nil]; rfl
    | cons x M ih =>
      intro P h
      have hat : L[P.length]? = some x := by rw [h]; simp
      have hp : P.length ≤ L.length := by rw [h]; simp
      rw [show (x :: M).length = M.length + 1 from rfl]
      unfold iterN
      rw [hB P.length x P hat (by omega), Option.map_some, Option.bind_some, Sum.elim_inl]
      have := ih (P ++ [x]) (by rw [h]; simp)
      rw [List.length_append, List.length_singleton] at this
      exact this
  rw [forS_forN, forN_iter _ (by omega)]
  exact key L [] rfl
theorem impl_clone {L : List Op} (hL : L.length ≤ 1000000) (hs : ∀ x ∈ L, x.Seen.length ≤ 1048576) : impl_cloneLog L = some L := by
  unfold impl_cloneLog
  rw [clone_gen (by omega) (fun i x s hx hl => by
    have h1 := hs x (List.mem_of_getElem? hx)
    have e : impl_Op_clone x = some x := by
      unfold impl_Op_clone slices_Clone_int64
      rw [if_pos (by omega)]
      rfl
    rw [at_nat, hx, Option.bind_some, e, Option.bind_some, app_ok (by simp; omega)]
    rfl)]
  rfl
theorem spec_own {L : List Op} (hL : L.length ≤ 1000000) (hs : ∀ x ∈ L, x.Seen.length ≤ 1048576) : spec_l32Own L = some L := by
  unfold spec_l32Own
  rw [clone_gen (by omega) (fun i x s hx hl => by
    have h1 := hs x (List.mem_of_getElem? hx)
    have e : spec_l01Own x.Seen = some x.Seen := by
      unfold spec_l01Own
      rw [app_ok (by simp; omega)]
      rfl
    rw [at_nat, hx, Option.bind_some, e, Option.bind_some, app_ok (by simp; omega)]
    rfl)]
  rfl
theorem vecB_vec (L : List Op) : vecB (vec L) = true := by
  have h := fun o => (cn_le L o).1
  unfold vecB vec
  simp [h]
theorem gv_vec (L : List Op) {o : Int} (h0 : 0 ≤ o) (h3 : o ≤ 3) : gv (vec L) o = cn L o := by
  rcases off4 h0 h3 with rfl | rfl | rfl | rfl <;> rfl
/-- What the results of operations are bounded by. -/
def resOk (r : List Op × Int) : Prop := r.1.length ≤ 17 ∧ ∀ x ∈ r.1, OpR x
theorem makeOp_eq (L : List Op) (o : Int) (key text : ByteArray) (hL : L.length ≤ 1048576) (hx : ∀ x ∈ L, OpR x) (hk : key.size ≤ 1048576) (ht : text.size ≤ 1048576) : ∃ r, impl_MakeOp L o key text = some r ∧ spec_MakeOp L o key text = some r ∧ resOk r := by
  unfold impl_MakeOp spec_MakeOp
  rw [impl_isLog_eq L hL hx, spec_isLog_eq L hL hx]
  cases hlog : logB L
  · exact ⟨_, rfl, rfl, by simp [resOk]⟩
  · obtain ⟨h16, hg⟩ := logB_good hlog
    have ho := fun x hx => (hg x hx).o
    simp only [Option.bind_some, Bool.not_true, cond_false, within_eq, l01In_eq]
    cases hin : inB o 0 3
    · exact ⟨_, rfl, rfl, by simp [resOk]⟩
    · rw [inB_iff] at hin
      have hcn := cn_le L o
      simp only [Bool.not_true, cond_false, Option.bind_some, impl_vec hL ho, spec_vec hL ho, vec_at L hin.1 hin.2, w64_id (n := cn L o + 1) (by omega) (by omega), spec_isWord key (by unfold maxLen; omega), spec_isPhrase text (by omega)]
      have hnew : OpR (Op.mk o (cn L o + 1) key text (vec L)) := ⟨⟨by dsimp only; omega, by dsimp only; omega⟩, ⟨by dsimp only; omega, by dsimp only; omega⟩, hk, ht, by simp [vec], fun v hv => by
          have hcs := fun q => cn_le L q
          simp only [vec, List.mem_cons, List.not_mem_nil, or_false] at hv
          rcases hv with rfl | rfl | rfl | rfl
          · have := hcs 0; omega
          · have := hcs 1; omega
          · have := hcs 2; omega
          · have := hcs 3; omega⟩
      have hop : impl_isOp (Op.mk o (cn L o + 1) key text (vec L)) = some (wordB key && phraseB text) := by
        rw [impl_isOp_eq _ hnew]
        dsimp only
        rw [inB_iff.2 hin, decide_eq_true (show 1 ≤ cn L o + 1 by omega), vecB_vec, gv_vec L hin.1 hin.2, decide_eq_true (show cn L o = cn L o + 1 - 1 by omega)]
        cases wordB key <;> cases phraseB text <;> rfl
      rw [hop]
      cases hw : wordB key
      · exact ⟨_, rfl, rfl, by simp [resOk]⟩
      · cases hp : phraseB text
        · exact ⟨_, rfl, rfl, by simp [resOk]⟩
        · simp only [Option.bind_some, Bool.not_true, cond_false, Bool.and_self]
          cases h17 : ((L.length : Int) == 16)
          · have hs : ∀ x ∈ L, x.Seen.length ≤ 1048576 := fun x hxm => (hx x hxm).s
            refine ⟨(L ++ [Op.mk o (cn L o + 1) key text (vec L)], 0), ?_, ?_, by simp; omega, fun x hxm => ?_⟩
            · simp only [cond_false, Option.bind_some, Sum.elim_inl, impl_clone (L := L) (by omega) hs]
              rw [app_ok (by simp; omega)]
              rfl
            · simp only [cond_false]
              rw [app_ok (by simp; omega), Option.bind_some, List.nil_append, app_ok (by simp; omega), Option.bind_some, spec_own (by simp; omega) (fun x hxm => by
                rcases List.mem_append.1 hxm with h | h
                · exact hs x h
                · rw [List.mem_singleton.1 h]; simp [vec])]
              rfl
            · rcases List.mem_append.1 hxm with h | h
              · exact hx x h
              · rw [List.mem_singleton.1 h]
                exact hnew
          · exact ⟨_, rfl, rfl, by simp [resOk]⟩
/-- A new operation that is made is this one. -/
theorem makeOp_val (L : List Op) (o : Int) (key text : ByteArray) (hL : L.length ≤ 1048576) (hx : ∀ x ∈ L, OpR x) (hk : key.size ≤ 1048576) (ht : text.size ≤ 1048576) {r : List Op × Int} (hr : impl_MakeOp L o key text = some r) (h0 : r.2 = 0) : logB L = true ∧ L.length ≠ 16 ∧ inB o 0 3 = true ∧ wordB key = true ∧ phraseB text = true ∧ r.1 = L ++ [Op.mk o (cn L o + 1) key text (vec L)] := by
  obtain ⟨r'', h1', h2', _⟩ := makeOp_eq L o key text hL hx hk ht
  rw [hr] at h1'
  have e := Option.some.inj h1'
  subst e
  unfold spec_MakeOp at h2'
  rw [spec_isLog_eq L hL hx] at h2'
  cases hlog : logB L
  · rw [hlog] at h2'
    have := Option.some.inj h2'
    rw [← this] at h0
    cases h0
  · rw [hlog] at h2'
    obtain ⟨h16, hg⟩ := logB_good hlog
    have ho := fun x hx => (hg x hx).o
    simp only [Option.bind_some, Bool.not_true, cond_false, l01In_eq] at h2'
    cases hin : inB o 0 3
    · rw [hin] at h2'
      have := Option.some.inj h2'
      rw [← this] at h0
      cases h0
    · rw [hin] at h2'
      have hin2 := inB_iff.1 hin
      have hcn := cn_le L o
      simp only [Bool.not_true, cond_false, Option.bind_some, spec_vec hL ho, vec_at L hin2.1 hin2.2, w64_id (n := cn L o + 1) (by omega) (by omega), spec_isWord key (by unfold maxLen; omega), spec_isPhrase text (by omega)] at h2'
      cases hw : wordB key
      · rw [hw] at h2'
        have := Option.some.inj h2'
        rw [← this] at h0
        cases h0
      · cases hp : phraseB text
        · rw [hw, hp] at h2'
          have := Option.some.inj h2'
          rw [← this] at h0
          cases h0
        · rw [hw, hp] at h2'
          simp only [Option.bind_some, Bool.not_true, cond_false] at h2'
          cases h17 : ((L.length : Int) == 16)
          · rw [h17] at h2'
            have hs : ∀ x ∈ L, x.Seen.length ≤ 1048576 := fun x hxm => (hx x hxm).s
            simp only [cond_false] at h2'
            rw [app_ok (by simp; omega), Option.bind_some, List.nil_append, app_ok (by simp; omega), Option.bind_some, spec_own (by simp; omega) (fun x hxm => by
                rcases List.mem_append.1 hxm with h | h
                · exact hs x h
                · rw [List.mem_singleton.1 h]; simp [vec])] at h2'
            have := Option.some.inj h2'
            refine ⟨rfl, fun h => ?_, rfl, rfl, rfl, by rw [← this]⟩
            rw [h] at h17
            cases h17
          · rw [h17] at h2'
            have := Option.some.inj h2'
            rw [← this] at h0
            cases h0
theorem same_list (u v : List Int) (hu : u.length ≤ 1048576) : (bif ((u.length : Int) != (v.length : Int)) then some false else (((forN (u.length : Int) (fun (i3 : Int) (_ : Unit) => ((at' u i3).bind fun x7 => ((at' v i3).bind fun x8 => (bif (x7 != x8) then some (.inr (.inr false)) else some (.inl ()))))) (fun (_ : Unit) => .inl ()) 0 ())).bind (Sum.elim (fun (_ : Unit) => some true) some))) = some (decide (u = v)) := by
  by_cases h : u.length = v.length
  · have e : ((u.length : Int) != (v.length : Int)) = false := by rw [h]; simp
    have hl : (u.zip v).length = u.length := by rw [List.length_zip]; omega
    rw [e, cond_false]
    rw [show ((u.length : Int)) = ((u.zip v).length : Int) by rw [hl], loop_any (by omega) (fun q => q.1 != q.2) false (fun i q hq => by
      have h1 := List.getElem?_zip_eq_some.1 hq
      rw [at_nat, h1.1, Option.bind_some, at_nat, h1.2, Option.bind_some])]
    have h2 : ∀ (u v : List Int), u.length = v.length → (u.zip v).any (fun q => q.1 != q.2) = !decide (u = v) := by
      intro u
      induction u with
      | nil => intro v h; cases v with | nil => simp | cons _ _ => simp at h
      | cons a u ih =>
        intro v h
        cases v with
        | nil => simp at h
        | cons b v =>
          rw [List.zip_cons_cons, List.any_cons, ih v (by simpa using h)]
          by_cases hab : a = b
          · subst hab; simp
          · simp [hab]
    rw [h2 u v h]
    cases decide (u = v) <;> rfl
  · have e : ((u.length : Int) != (v.length : Int)) = true := by
      rw [bne_iff_ne]
      omega
    rw [e, cond_true, decide_eq_false (fun hh => h (by rw [hh]))]
def sameB (x y : Op) : Bool := (x.Office == y.Office) && ((x.Number == y.Number) && ((x.Key.toList == y.Key.toList) && ((x.Text.toList == y.Text.toList) && decide (x.Seen = y.Seen))))
theorem spec_same (x y : Op) (hx : x.Seen.length ≤ 1048576) : spec_l32Same x y = some (sameB x y) := by
  unfold spec_l32Same spec_l01Same sameB
  rw [same_list x.Seen y.Seen hx]
  cases (x.Office == y.Office) <;> cases (x.Number == y.Number) <;> cases (x.Key.toList == y.Key.toList) <;> cases (x.Text.toList == y.Text.toList) <;> rfl
def fi (a : List Op) (x : Op) : Int := idxP (fun y : Op => (y.Office == x.Office) && (y.Number == x.Number)) a
theorem spec_find {a : List Op} (ha : a.length ≤ 1048576) (x : Op) : spec_l32Find a x.Office x.Number = some (fi a x) := by
  unfold spec_l32Find fi
  exact loop_idx (by omega) (fun y : Op => (y.Office == x.Office) && (y.Number == x.Number)) (fun i y hy => by
    rw [at_nat, hy]
    simp only [Option.bind_some]
    cases (y.Office == x.Office) <;> rfl)
/-- The second log's operations behind the first one's; none where two differ. -/
def mrg (a : List Op) : List Op → List Op → Option (List Op)
  | [], s => some s
  | x :: M, s => bif decide (fi a x < 0) then mrg a M (s ++ [x]) else match at' a (fi a x) with
    | some y => bif sameB y x then mrg a M s else none
    | none => none
theorem mrg_mem {a : List Op} : ∀ {M s r : List Op}, mrg a M s = some r → r.length ≤ s.length + M.length ∧ ∀ x ∈ r, x ∈ s ∨ x ∈ M
  | [], s, r, h => by
    injection h with h
    subst h
    exact ⟨by simp, fun x hx => .inl hx⟩
  | y :: M, s, r, h => by
    unfold mrg at h
    cases hd : decide (fi a y < 0)
    · rw [hd, cond_false] at h
      split at h
      · rename_i z _
        cases hs : sameB z y
        · rw [hs] at h; cases h
        · rw [hs, cond_true] at h
          obtain ⟨h1, h2⟩ := mrg_mem h
          exact ⟨by simp; omega, fun x hx => (h2 x hx).imp id fun h => List.mem_cons_of_mem _ h⟩
      · cases h
    · rw [hd, cond_true] at h
      obtain ⟨h1, h2⟩ := mrg_mem h
      refine ⟨by simp at h1 ⊢; omega, fun x hx => ?_⟩
      rcases h2 x hx with h3 | h3
      · rcases List.mem_append.1 h3 with h3 | h3
        · exact .inl h3
        · rw [List.mem_singleton.1 h3]; exact .inr (by simp)
      · exact .inr (List.mem_cons_of_mem _ h3)
def mrgR (o : Option (List Op)) : List Op ⊕ (List Op × Int) := match o with
  | some s => .inl s
  | none => .inr ([], 5)
theorem fi_at {a : List Op} {x : Op} (h : ¬ fi a x < 0) : ∃ y, at' a (fi a x) = some y ∧ y ∈ a := by
  obtain ⟨n, hn⟩ := Int.eq_ofNat_of_zero_le (show 0 ≤ fi a x by omega)
  obtain ⟨y, h1, _⟩ := idxP_get (fun y : Op => (y.Office == x.Office) && (y.Number == x.Number)) hn
  exact ⟨y, by rw [hn, at_nat, h1], List.mem_of_getElem? h1⟩
theorem merge_eq (a b : List Op) (ha : a.length ≤ 1048576) (hb : b.length ≤ 1048576) (hxa : ∀ x ∈ a, OpR x) (hxb : ∀ x ∈ b, OpR x) : ∃ r, spec_MergeLogs a b = some r ∧ resOk r := by
  unfold spec_MergeLogs
  rw [spec_isLog_eq a ha hxa, spec_isLog_eq b hb hxb]
  cases hla : logB a
  · exact ⟨_, rfl, by simp [resOk]⟩
  · cases hlb : logB b
    · exact ⟨_, rfl, by simp [resOk]⟩
    · obtain ⟨ha16, _⟩ := logB_good hla
      obtain ⟨hb16, _⟩ := logB_good hlb
      have hsa : ∀ x ∈ a, x.Seen.length ≤ 1048576 := fun x h => (hxa x h).s
      have hsb : ∀ x ∈ b, x.Seen.length ≤ 1048576 := fun x h => (hxb x h).s
      simp only [Option.bind_some, Bool.not_true, cond_false]
      rw [app_ok (by simp; omega), List.nil_append, Option.bind_some]
      have ks : ∀ (M P : List Op) (s : List Op), b = P ++ M → s.length + M.length ≤ 100 → overI (fun (i : Nat) (_ : Op) (s8 : List Op) => ((at' b (i : Int)).bind fun x12 => ((at' b (i : Int)).bind fun x13 => ((spec_l32Find a x12.Office x13.Number).bind fun x14 => (bif (decide (x14 < 0)) then ((at' b (i : Int)).bind fun x15 => ((app' s8 ([x15] : List Op)).bind fun x16 => some (Sum.inl x16))) else ((at' a x14).bind fun x17 => ((at' b (i : Int)).bind fun x18 => ((spec_l32Same x17 x18).bind fun x19 => (bif (!x19) then some (Sum.inr (Sum.inr (([] : List Op), (5 : Int)))) else some (Sum.inl s8)))))))))) (fun s => (.inl s : List Op ⊕ (List Op × Int))) M P.length s = some (mrgR (mrg a M s)) := by
        intro M
        induction M with
        | nil => intro P s _ _; rfl
        | cons x M ih =>
          intro P s h hl
          have hxm : x ∈ b := by rw [h]; simp
          have hat : at' b ((P.length : Nat) : Int) = some x := by rw [at_nat, h]; simp
          simp only [List.length_cons] at hl
          have hn := fun s hl => ih (P ++ [x]) s (by rw [h]; simp) hl
          rw [List.length_append, List.length_singleton] at hn
          unfold overI mrg
          simp only [hat, Option.bind_some, spec_find ha]
          by_cases hd : fi a x < 0
          · rw [decide_eq_true hd, cond_true, cond_true, app_ok (by simp; omega)]
            exact hn (s ++ [x]) (by simp; omega)
          · obtain ⟨y, hy, hym⟩ := fi_at hd
            rw [decide_eq_false hd, cond_false, cond_false, hy, Option.bind_some, spec_same y x (hsa y hym), Option.bind_some]
            dsimp only
            cases sameB y x
            · rfl
            · exact hn s (by omega)
      rw [forN_list (A := List Op ⊕ (List Op × Int)) b (by omega) _ (fun (i : Nat) (_ : Op) (s8 : List Op) => ((at' b (i : Int)).bind fun x12 => ((at' b (i : Int)).bind fun x13 => ((spec_l32Find a x12.Office x13.Number).bind fun x14 => (bif (decide (x14 < 0)) then ((at' b (i : Int)).bind fun x15 => ((app' s8 ([x15] : List Op)).bind fun x16 => some (Sum.inl x16))) else ((at' a x14).bind fun x17 => ((at' b (i : Int)).bind fun x18 => ((spec_l32Same x17 x18).bind fun x19 => (bif (!x19) then some (Sum.inr (Sum.inr (([] : List Op), (5 : Int)))) else some (Sum.inl s8)))))))))) _ a (fun j x s hx => rfl)]
      have := ks b [] a rfl (by omega)
      rw [List.length_nil] at this
      rw [this]
      cases hm : mrg a b a with
      | none => exact ⟨_, rfl, by simp [resOk]⟩
      | some s =>
        obtain ⟨h1, h2⟩ := mrg_mem hm
        have hs : ∀ x ∈ s, OpR x := fun x hx => (h2 x hx).elim (hxa x) (hxb x)
        unfold mrgR
        simp only [Option.bind_some, Sum.elim_inl]
        cases hd : decide ((s.length : Int) > 16)
        · rw [cond_false, spec_own (by omega) fun x hx => (hs x hx).s]
          exact ⟨_, rfl, by have := of_decide_eq_false hd; show s.length ≤ 17; omega, hs⟩
        · exact ⟨_, rfl, by simp [resOk]⟩
end Go.Proofs.YthfcdicfcepfhaaDoor.Sh
