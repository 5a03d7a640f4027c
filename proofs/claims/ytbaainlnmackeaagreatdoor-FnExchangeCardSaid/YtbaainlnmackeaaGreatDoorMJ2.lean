/- Plain laws of logs: AtOnce, rivals, texts, of both; bounds on lengths alone. -/
import Derived.Test.YtbaainlnmackeaaGreatDoorMJ1
namespace Go.Proofs.YtbaainlnmackeaaGreatDoor.Sh
open Go.RowKit Go.Lib
/-- An operation of a log. -/
structure OpG (x : Op) : Prop where
  o : 0 ≤ x.Office ∧ x.Office ≤ 3
  v : vecB x.Seen = true
  t : phraseB x.Text = true
  k : wordB x.Key = true
  n : gv x.Seen x.Office = x.Number - 1
theorem logF_good : ∀ {M P : List Op}, logF P M = true → ∀ x ∈ M, OpG x
  | [], P, _ => by intro x hx; cases hx
  | y :: M, P, h => by
    unfold logF at h
    rw [Bool.and_eq_true] at h
    intro x hx
    rcases List.mem_cons.1 hx with rfl | hx
    · obtain ⟨q1, q2, q3, q4, q5, _⟩ := opB_iff.1 h.1
      exact ⟨q1, q4, q3, q2, q5⟩
    · exact logF_good h.2 x hx
theorem logB_good {L : List Op} (h : logB L = true) : L.length ≤ 16 ∧ ∀ x ∈ L, OpG x := by
  unfold logB at h
  rw [Bool.and_eq_true, decide_eq_true_eq] at h
  exact ⟨h.2, logF_good h.1⟩
def knB (y x : Op) : Bool := decide (x.Number ≤ gv y.Seen x.Office)
theorem spec_knows {y x : Op} (hy : OpG y) (hx : OpG x) : spec_l32Knows y x = some (knB y x) := by
  unfold spec_l32Knows
  rw [(vecB_at hy.v hx.o.1 hx.o.2).1]
  rfl
theorem impl_knows {y x : Op} (hy : OpG y) (hx : OpG x) : impl_Op_knows y x = some (knB y x) := by
  unfold impl_Op_knows
  rw [(vecB_at hy.v hx.o.1 hx.o.2).1]
  rfl
theorem knB_self {x : Op} (hx : OpG x) : knB x x = false := by
  unfold knB
  rw [hx.n]
  exact decide_eq_false (by omega)
/-- Does no operation with the key know this one? -/
def rivB (L : List Op) (key : ByteArray) (x : Op) : Bool := (x.Key.toList == key.toList) && !(L.any fun y => (y.Key.toList == key.toList) && knB y x)
def rivF (L : List Op) (key : ByteArray) (i : Nat) : List Int := match L[i]? with
  | some x => bif rivB L key x then [(i : Int)] else []
  | none => []
def rivals (L : List Op) (key : ByteArray) : List Int := (List.range L.length).flatMap (rivF L key)
theorem rivF_len (L : List Op) (key : ByteArray) (i : Nat) : (rivF L key i).length ≤ 1 := by
  unfold rivF
  split
  · rename_i x _
    cases rivB L key x <;> simp
  · simp
theorem rivals_mem {L : List Op} {key : ByteArray} {i : Int} (h : i ∈ rivals L key) : ∃ x, at' L i = some x ∧ x ∈ L ∧ 0 ≤ i := by
  obtain ⟨n, hn, h⟩ := List.mem_flatMap.1 h
  have hlt := List.mem_range.1 hn
  unfold rivF at h
  rw [List.getElem?_eq_getElem hlt] at h
  dsimp only at h
  cases hb : rivB L key L[n]
  · rw [hb] at h; simp at h
  · rw [hb] at h
    simp at h
    subst h
    exact ⟨L[n], by rw [at_nat, List.getElem?_eq_getElem hlt], List.getElem_mem hlt, by omega⟩
theorem rivals_len (L : List Op) (key : ByteArray) : (rivals L key).length ≤ L.length := by
  unfold rivals
  have : ∀ (M : List Nat), (M.flatMap (rivF L key)).length ≤ M.length := by
    intro M
    induction M with
    | nil => simp
    | cons n M ih =>
      rw [List.flatMap_cons, List.length_append, List.length_cons]
      have := rivF_len L key n
      omega
  simpa using this (List.range L.length)
theorem impl_rivals {L : List Op} (hlog : logB L = true) (key : ByteArray) : impl_rivalsOf L key = some (rivals L key) := by
  obtain ⟨h16, hg⟩ := logB_good hlog
  unfold impl_rivalsOf
  rw [forS_build 1000 (by omega) (by omega) (rivF L key) (rivF_len L key) [] (by simp; omega) (fun i s hi hs => by
    have hx : L[i]? = some L[i] := List.getElem?_eq_getElem hi
    have hxm := List.getElem_mem hi
    unfold rivF
    rw [hx]
    generalize L[i] = x at hx hxm
    have hc : slices_ContainsFunc_Op_impl_rivalsOf_1 L key x = some (L.any fun y => (y.Key.toList == key.toList) && knB y x) := by
      unfold slices_ContainsFunc_Op_impl_rivalsOf_1 slices_IndexFunc_Op_impl_rivalsOf_1
      rw [loop_idx (by omega) (fun y => (y.Key.toList == key.toList) && knB y x) (fun j y hy => by
        rw [at_nat, hy, Option.bind_some]
        unfold impl_rivalsOf_1
        rw [impl_knows (hg y (List.mem_of_getElem? hy)) (hg x hxm)]
        cases (y.Key.toList == key.toList) <;> rfl), Option.bind_some, idxP_any]
    rw [at_nat, hx, Option.bind_some, hc, Option.bind_some]
    dsimp only
    unfold rivB
    cases (x.Key.toList == key.toList) && !(L.any fun y => (y.Key.toList == key.toList) && knB y x)
    · simp
    · rw [cond_true, app_ok (by simp; omega)]
      rfl)]
  rfl
theorem foldl_and {p : Nat → Bool} : ∀ (M : List Nat) (b : Bool), M.foldl (fun s i => s && p i) b = (b && M.all p)
  | [], b => by simp
  | i :: M, b => by rw [List.foldl_cons, foldl_and M, List.all_cons, Bool.and_assoc]
theorem spec_rivals {L : List Op} (hlog : logB L = true) (key : ByteArray) : spec_l32Rivals L key = some (rivals L key) := by
  obtain ⟨h16, hg⟩ := logB_good hlog
  unfold spec_l32Rivals
  rw [forS_build 1000 (by omega) (by omega) (rivF L key) (rivF_len L key) [] (by simp; omega) (fun i s hi hs => by
    have hx : L[i]? = some L[i] := List.getElem?_eq_getElem hi
    have hxm := List.getElem_mem hi
    unfold rivF
    rw [hx]
    generalize L[i] = x at hx hxm
    rw [at_nat, hx, Option.bind_some]
    have hin := (forS_foldl (n := L.length) (by omega) (B := fun (i10 : Int) (s10 : Bool) => (bif s10 then (bif (i10 == (i : Int)) then some true else ((at' L i10).bind fun x14 => (bif (!(x14.Key.toList == key.toList)) then some true else ((at' L i10).bind fun x15 => ((some x).bind fun x16 => ((spec_l32Knows x15 x16).bind fun x17 => some (!x17))))))) else some false)) (D := fun (s10 : Bool) => s10) (fun _ => True) (fun s j => s && (match L[j]? with | some y => (j == i) || !((y.Key.toList == key.toList) && knB y x) | none => true)) (x.Key.toList == key.toList) (fun j s hj _ => by
      refine ⟨?_, trivial⟩
      have hy : L[j]? = some L[j] := List.getElem?_eq_getElem hj
      have hym := List.getElem_mem hj
      generalize L[j] = y at hy hym
      simp only [hy, at_nat, hx, Option.bind_some, spec_knows (hg y hym) (hg x hxm)]
      have e : ((j : Int) == (i : Int)) = (j == i) := by
        by_cases h : j = i
        · subst h; simp
        · rw [beq_eq_false_iff_ne.2 h, beq_eq_false_iff_ne]; omega
      rw [e]
      cases s <;> cases (j == i) <;> cases (y.Key.toList == key.toList) <;> cases knB y x <;> rfl) trivial).1
    rw [hin, foldl_and]
    simp only [Option.bind_some]
    have hr : ((x.Key.toList == key.toList) && (List.range L.length).all (fun j => (match L[j]? with | some y => (j == i) || !((y.Key.toList == key.toList) && knB y x) | none => true))) = rivB L key x := by
      unfold rivB
      congr 1
      rw [Bool.eq_iff_iff]
      simp only [List.all_eq_true, List.mem_range, Bool.not_eq_true', List.any_eq_false]
      constructor
      · intro h y hy hh
        obtain ⟨j, hj, rfl⟩ := List.getElem_of_mem hy
        have := h j hj
        rw [List.getElem?_eq_getElem hj] at this
        dsimp only at this
        rw [hh] at this
        simp at this
        subst this
        have e : x = L[j] := by
          rw [List.getElem?_eq_getElem hj] at hx
          exact (Option.some.inj hx).symm
        rw [← e, knB_self (hg x hxm)] at hh
        simp at hh
      · intro h j hj
        rw [List.getElem?_eq_getElem hj]
        dsimp only
        have := h L[j] (List.getElem_mem hj)
        rw [Bool.eq_false_iff.2 this]
        simp
    rw [hr]
    cases rivB L key x
    · simp
    · rw [cond_true, app_ok (by simp; omega)]
      rfl)]
  rfl
/-- The one's best index and the other's text and office. -/
def BT (L : List Op) (b : Int) (t : ByteArray × Int) : Prop := (b = -1 ∧ t = (ByteArray.mk #[], -1)) ∨ ∃ x, x ∈ L ∧ 0 ≤ b ∧ at' L b = some x ∧ t = (x.Text, x.Office)
theorem text_loop {L : List Op} (hg : ∀ x ∈ L, OpG x) : ∀ (M : List Int) (k : Nat) (b : Int) (t : ByteArray × Int), (∀ i ∈ M, ∃ x, at' L i = some x ∧ x ∈ L ∧ 0 ≤ i) → BT L b t →
    ∃ b' t', overI (fun _ x8 (s4 : Int) => ((((bif (decide (s4 < 0)) then some true else ((at' L x8).bind fun x9 => ((at' L s4).bind fun x10 => some (decide (x9.Office > x10.Office)))))).bind fun (j11 : Bool) => (bif j11 then some x8 else some s4))).map (Sum.inl (β := Int))) (fun s => s) M k b = some b' ∧
      overI (fun _ x8 (s4 : ByteArray × Int) => (((at' L x8).bind fun x9 => (bif (decide (x9.Office > s4.2)) then some (x9.Text, x9.Office) else some (s4.1, s4.2)))).map (Sum.inl (β := ByteArray))) (fun s => s.1) M k t = some t'.1 ∧ BT L b' t' ∧ (M ≠ [] ∨ b ≠ -1 → b' ≠ -1)
  | [], k, b, t, _, h => ⟨b, t, rfl, rfl, h, fun h => h.resolve_left (by simp)⟩
  | i :: M, k, b, t, hM, h => by
    obtain ⟨x, ex, hxm, hi0⟩ := hM i (by simp)
    have hx := hg x hxm
    have step : ∃ b1 t1, ((((bif (decide (b < 0)) then some true else ((at' L i).bind fun x9 => ((at' L b).bind fun x10 => some (decide (x9.Office > x10.Office)))))).bind fun (j11 : Bool) => (bif j11 then some i else some b))) = some b1 ∧ (((at' L i).bind fun x9 => (bif (decide (x9.Office > t.2)) then some (x9.Text, x9.Office) else some (t.1, t.2)))) = some t1 ∧ BT L b1 t1 ∧ b1 ≠ -1 := by
      rcases h with ⟨rfl, rfl⟩ | ⟨y, hym, hb, ey, rfl⟩
      · refine ⟨i, (x.Text, x.Office), by rw [decide_eq_true (by omega)]; rfl, ?_, .inr ⟨x, hxm, hi0, ex, rfl⟩, by omega⟩
        rw [ex, Option.bind_some, decide_eq_true (by have := hx.o; dsimp only; omega)]
        rfl
      · rw [decide_eq_false (by omega), cond_false, ex, ey]
        simp only [Option.bind_some]
        by_cases hc : x.Office > y.Office
        · rw [decide_eq_true hc]
          exact ⟨_, _, rfl, rfl, .inr ⟨x, hxm, hi0, ex, rfl⟩, by omega⟩
        · rw [decide_eq_false hc]
          exact ⟨_, _, rfl, rfl, .inr ⟨y, hym, hb, ey, rfl⟩, by omega⟩
    obtain ⟨b1, t1, s1, s2, s3, s4⟩ := step
    unfold overI
    rw [s1, s2]
    obtain ⟨b', t', r1, r2, r3, r4⟩ := text_loop hg M (k + 1) b1 t1 (fun j hj => hM j (by simp [hj])) s3
    exact ⟨b', t', r1, r2, r3, fun _ => r4 (.inr s4)⟩
end Go.Proofs.YtbaainlnmackeaaGreatDoor.Sh
