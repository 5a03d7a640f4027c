/- Logs that are merged: what is in them, their counts, that they are logs, their state; no condition but those of logs. -/
import Derived.Test.YtbaainlnmackeaaGreatDoorMJ7
namespace Go.Proofs.YtbaainlnmackeaaGreatDoor.Sh
open Go.RowKit Go.Lib
theorem logF_app' : ∀ (M P : List Op) (x : Op), logF P (M ++ [x]) = (logF P M && opB (P ++ M) x)
  | [], P, x => by simp [logF]
  | y :: M, P, x => by
    show logF P (y :: (M ++ [x])) = _
    unfold logF
    rw [logF_app' M (P ++ [y]) x, Bool.and_assoc, List.append_assoc]
    rfl
theorem snoc_ind {P : List Op → Prop} (h0 : P []) (hs : ∀ L x, P L → P (L ++ [x])) : ∀ L, P L := by
  have key : ∀ M : List Op, P M.reverse := by
    intro M
    induction M with
    | nil => exact h0
    | cons x M ih => rw [List.reverse_cons]; exact hs _ _ ih
  intro L
  have := key L.reverse
  rwa [List.reverse_reverse] at this
theorem log_snoc {L : List Op} {x : Op} (h : logF [] (L ++ [x]) = true) : logF [] L = true ∧ opB L x = true := by
  rw [logF_app', Bool.and_eq_true, List.nil_append] at h
  exact h
theorem num_iff : ∀ (L : List Op), logF [] L = true → ∀ o k, (∃ y ∈ L, y.Office = o ∧ y.Number = k) ↔ 1 ≤ k ∧ k ≤ cn L o := by
  refine snoc_ind (fun _ o k => ?_) fun L x ih h o k => ?_
  · constructor
    · rintro ⟨y, hy, _⟩; cases hy
    · rintro ⟨h1, h2⟩
      have : cn [] o = 0 := rfl
      omega
  · obtain ⟨h1, h2⟩ := log_snoc h
    have hN := (opB_iff.1 h2).2.2.2.2.2.1
    have h0 := (cn_le L x.Office).1
    have h0' := (cn_le L o).1
    have hc := cn_app L x o
    have ih := ih h1 o k
    by_cases ho : x.Office = o
    · subst ho
      rw [beq_self_eq_true, cond_true] at hc
      constructor
      · rintro ⟨y, hy, e1, e2⟩
        rcases List.mem_append.1 hy with hy | hy
        · have := ih.1 ⟨y, hy, e1, e2⟩; omega
        · rw [List.mem_singleton.1 hy] at e2; omega
      · rintro ⟨q1, q2⟩
        by_cases hk : k ≤ cn L x.Office
        · obtain ⟨y, hy, e⟩ := ih.2 ⟨q1, hk⟩
          exact ⟨y, List.mem_append_left _ hy, e⟩
        · exact ⟨x, by simp, rfl, by omega⟩
    · rw [beq_eq_false_iff_ne.2 ho, cond_false] at hc
      constructor
      · rintro ⟨y, hy, e1, e2⟩
        rcases List.mem_append.1 hy with hy | hy
        · have := ih.1 ⟨y, hy, e1, e2⟩; omega
        · rw [List.mem_singleton.1 hy] at e1; exact absurd e1 ho
      · rintro ⟨q1, q2⟩
        obtain ⟨y, hy, e⟩ := ih.2 ⟨q1, by omega⟩
        exact ⟨y, List.mem_append_left _ hy, e⟩
theorem num_uniq : ∀ (L : List Op), logF [] L = true → ∀ x ∈ L, ∀ y ∈ L, x.Office = y.Office → x.Number = y.Number → x = y := by
  refine snoc_ind (fun _ x hx => by cases hx) fun L z ih h x hx y hy ho hn => ?_
  obtain ⟨h1, h2⟩ := log_snoc h
  have hN := (opB_iff.1 h2).2.2.2.2.2.1
  rcases List.mem_append.1 hx with hx | hx <;> rcases List.mem_append.1 hy with hy | hy
  · exact ih h1 x hx y hy ho hn
  · rw [List.mem_singleton.1 hy] at ho hn
    have := (num_iff L h1 x.Office x.Number).1 ⟨x, hx, rfl, rfl⟩
    rw [ho] at this
    omega
  · rw [List.mem_singleton.1 hx] at ho hn
    have := (num_iff L h1 y.Office y.Number).1 ⟨y, hy, rfl, rfl⟩
    rw [← ho] at this
    omega
  · rw [List.mem_singleton.1 hx, List.mem_singleton.1 hy]
/-- Is there one of that office and number? -/
def inA (a : List Op) (x : Op) : Bool := a.any fun y => (y.Office == x.Office) && (y.Number == x.Number)
theorem inA_iff {a : List Op} {x : Op} : inA a x = true ↔ ∃ y ∈ a, y.Office = x.Office ∧ y.Number = x.Number := by
  unfold inA
  simp only [List.any_eq_true, Bool.and_eq_true, beq_iff_eq]
theorem fi_neg (a : List Op) (x : Op) : decide (fi a x < 0) = !inA a x := by
  unfold fi inA
  exact idxP_neg _ a
theorem sameB_iff {x y : Op} : sameB x y = true ↔ x = y := by
  unfold sameB
  simp only [Bool.and_eq_true, beq_iff_eq, decide_eq_true_eq]
  constructor
  · rintro ⟨h1, h2, h3, h4, h5⟩
    obtain ⟨o, n, k, t, s⟩ := x
    obtain ⟨o', n', k', t', s'⟩ := y
    have e3 : k = k' := by
      rw [toList_eq, toList_eq] at h3
      obtain ⟨k⟩ := k
      obtain ⟨k'⟩ := k'
      exact congrArg ByteArray.mk (Array.toList_inj.1 h3)
    have e4 : t = t' := by
      rw [toList_eq, toList_eq] at h4
      obtain ⟨t⟩ := t
      obtain ⟨t'⟩ := t'
      exact congrArg ByteArray.mk (Array.toList_inj.1 h4)
    dsimp only at h1 h2 h5
    subst h1 h2 e3 e4 h5
    rfl
  · rintro rfl
    exact ⟨rfl, rfl, rfl, rfl, rfl⟩
def joinL (a b : List Op) : List Op := a ++ b.filter fun x => !inA a x
/-- Where the logs have one of the same office and number, it is the same. -/
def Compat (a b : List Op) : Prop := ∀ x ∈ b, inA a x = true → x ∈ a
theorem fi_get {a : List Op} (ha : logF [] a = true) {x : Op} (h : inA a x = true) : ∃ y, at' a (fi a x) = some y ∧ y ∈ a ∧ y.Office = x.Office ∧ y.Number = x.Number := by
  have h1 := fi_neg a x
  rw [h, Bool.not_true, decide_eq_false_iff_not] at h1
  obtain ⟨n, hn⟩ := Int.eq_ofNat_of_zero_le (show 0 ≤ fi a x by omega)
  obtain ⟨y, h2, h3⟩ := idxP_get (fun y : Op => (y.Office == x.Office) && (y.Number == x.Number)) hn
  rw [Bool.and_eq_true, beq_iff_eq, beq_iff_eq] at h3
  exact ⟨y, by rw [hn, at_nat, h2], List.mem_of_getElem? h2, h3⟩
theorem mrg_some {a : List Op} (ha : logF [] a = true) : ∀ (M s r : List Op), mrg a M s = some r → (∀ x ∈ M, inA a x = true → x ∈ a) ∧ r = s ++ M.filter fun x => !inA a x
  | [], s, r, h => by
    injection h with h
    exact ⟨by simp, by simp [h]⟩
  | x :: M, s, r, h => by
    unfold mrg at h
    rw [fi_neg] at h
    rw [List.filter_cons]
    cases hi : inA a x
    · rw [hi, Bool.not_false, cond_true] at h
      obtain ⟨h1, h2⟩ := mrg_some ha M (s ++ [x]) r h
      refine ⟨fun y hy => ?_, by rw [h2]; simp⟩
      rcases List.mem_cons.1 hy with rfl | hy
      · intro h3
        rw [hi] at h3
        cases h3
      · exact h1 y hy
    · rw [hi, Bool.not_true, cond_false] at h
      obtain ⟨y, e1, e2, e3, e4⟩ := fi_get ha hi
      rw [e1] at h
      dsimp only at h
      cases hs : sameB y x
      · rw [hs] at h; cases h
      · rw [hs, cond_true] at h
        obtain ⟨h1, h2⟩ := mrg_some ha M s r h
        refine ⟨fun z hz => ?_, by rw [h2]; simp⟩
        rcases List.mem_cons.1 hz with rfl | hz
        · intro _
          rw [← sameB_iff.1 hs]
          exact e2
        · exact h1 z hz
theorem mrg_of {a : List Op} (ha : logF [] a = true) : ∀ (M s : List Op), (∀ x ∈ M, inA a x = true → x ∈ a) → mrg a M s = some (s ++ M.filter fun x => !inA a x)
  | [], s, _ => by simp [mrg]
  | x :: M, s, h => by
    unfold mrg
    rw [fi_neg, List.filter_cons]
    cases hi : inA a x
    · rw [Bool.not_false, cond_true, mrg_of ha M (s ++ [x]) fun y hy => h y (by simp [hy])]
      simp
    · rw [Bool.not_true, cond_false]
      obtain ⟨y, e1, e2, e3, e4⟩ := fi_get ha hi
      have hx := h x (by simp) hi
      have : y = x := num_uniq a ha y e2 x hx e3 e4
      rw [e1]
      dsimp only
      rw [sameB_iff.2 this, cond_true, mrg_of ha M s fun y hy => h y (by simp [hy])]
      simp
theorem join_cn {a : List Op} (ha : logF [] a = true) : ∀ (b : List Op), logF [] b = true → ∀ o, cn (joinL a b) o = max (cn a o) (cn b o) := by
  refine snoc_ind (fun _ o => ?_) fun b x ih h o => ?_
  · have h1 := (cn_le a o).1
    have h2 : cn [] o = 0 := rfl
    unfold joinL
    rw [List.filter_nil, List.append_nil]
    omega
  · obtain ⟨h1, h2⟩ := log_snoc h
    have hN := (opB_iff.1 h2).2.2.2.2.2.1
    have hc := cn_app b x o
    have ih1 := ih h1 o
    have hb0 := (cn_le b x.Office).1
    have hiff := (inA_iff (a := a) (x := x)).trans (num_iff a ha x.Office x.Number)
    unfold joinL at ih1 ⊢
    rw [List.filter_append, List.filter_cons, List.filter_nil]
    cases hi : inA a x
    · have hn : ¬ (1 ≤ x.Number ∧ x.Number ≤ cn a x.Office) := fun h => by rw [hiff.2 h] at hi; cases hi
      rw [Bool.not_false, if_pos rfl, ← List.append_assoc, cn_app]
      by_cases ho : x.Office = o
      · subst ho
        rw [beq_self_eq_true, cond_true] at hc ⊢
        omega
      · rw [beq_eq_false_iff_ne.2 ho, cond_false] at hc ⊢
        omega
    · have hy := hiff.1 hi
      rw [Bool.not_true, if_neg (by simp), List.append_nil]
      by_cases ho : x.Office = o
      · subst ho
        rw [beq_self_eq_true, cond_true] at hc
        omega
      · rw [beq_eq_false_iff_ne.2 ho, cond_false] at hc
        omega
theorem join_log {a : List Op} (ha : logF [] a = true) : ∀ (b : List Op), logF [] b = true → logF [] (joinL a b) = true := by
  refine snoc_ind (fun _ => ?_) fun b x ih h => ?_
  · unfold joinL
    rw [List.filter_nil, List.append_nil]
    exact ha
  · obtain ⟨h1, h2⟩ := log_snoc h
    have ih1 := ih h1
    have hcn := join_cn ha b h1
    obtain ⟨q1, q2, q3, q4, q5, q6, q7⟩ := opB_iff.1 h2
    have hb0 := (cn_le b x.Office).1
    have hiff := (inA_iff (a := a) (x := x)).trans (num_iff a ha x.Office x.Number)
    unfold joinL at ih1 hcn ⊢
    rw [List.filter_append, List.filter_cons, List.filter_nil]
    cases hi : inA a x
    · have hn : ¬ (1 ≤ x.Number ∧ x.Number ≤ cn a x.Office) := fun h => by rw [hiff.2 h] at hi; cases hi
      rw [Bool.not_false, if_pos rfl, ← List.append_assoc, logF_app', ih1, Bool.true_and, List.nil_append]
      refine opB_iff.2 ⟨q1, q2, q3, q4, q5, by rw [hcn]; omega, ?_⟩
      obtain ⟨s0, s1, s2, s3, hv, _⟩ := vecB_four q4
      rw [hv] at q7 ⊢
      unfold vec at q7 ⊢
      simp only [List.zip_cons_cons, List.all_cons, Bool.and_eq_true, decide_eq_true_eq, hcn] at q7 ⊢
      exact ⟨by omega, by omega, by omega, by omega, q7.2.2.2.2⟩
    · rw [Bool.not_true, if_neg (by simp), List.append_nil]
      exact ih1
theorem join_mem {a b : List Op} (hc : Compat a b) {z : Op} : z ∈ joinL a b ↔ z ∈ a ∨ z ∈ b := by
  unfold joinL
  rw [List.mem_append, List.mem_filter]
  constructor
  · rintro (h | h)
    · exact .inl h
    · exact .inr h.1
  · rintro (h | h)
    · exact .inl h
    · cases hi : inA a z
      · exact .inr ⟨h, rfl⟩
      · exact .inl (hc z h hi)
theorem Compat.symm {a b : List Op} (ha : logF [] a = true) (hc : Compat a b) : Compat b a := fun x hx hi => by
  obtain ⟨y, hy, e1, e2⟩ := inA_iff.1 hi
  have h1 := hc y hy (inA_iff.2 ⟨x, hx, e1.symm, e2.symm⟩)
  rw [num_uniq a ha x hx y h1 e1.symm e2.symm]
  exact hy
theorem len_cn : ∀ (L : List Op), logF [] L = true → (L.length : Int) = cn L 0 + cn L 1 + cn L 2 + cn L 3 := by
  refine snoc_ind (fun _ => rfl) fun L x ih h => ?_
  obtain ⟨h1, h2⟩ := log_snoc h
  have ho := (opB_iff.1 h2).1
  have := ih h1
  rw [List.length_append, List.length_singleton, cn_app, cn_app, cn_app, cn_app]
  rcases off4 ho.1 ho.2 with e | e | e | e <;> rw [e] <;> simp only [Int.reduceBEq, cond_true, cond_false] <;> omega
theorem join_len {a b : List Op} (ha : logF [] a = true) (hb : logF [] b = true) : (joinL a b).length = (joinL b a).length := by
  have h1 := len_cn _ (join_log ha b hb)
  have h2 := len_cn _ (join_log hb a ha)
  simp only [join_cn ha b hb] at h1
  simp only [join_cn hb a ha] at h2
  omega
/-! The state -/
def pickT (t : ByteArray × Int) (x : Op) : ByteArray × Int := bif decide (x.Office > t.2) then (x.Text, x.Office) else t
theorem pick_max : ∀ (X : List Op) (t : ByteArray × Int), (X.foldl pickT t = t ∧ ∀ x ∈ X, x.Office ≤ t.2) ∨ ∃ x ∈ X, X.foldl pickT t = (x.Text, x.Office) ∧ x.Office > t.2 ∧ ∀ y ∈ X, y.Office ≤ x.Office
  | [], t => .inl ⟨rfl, by simp⟩
  | x :: X, t => by
    rw [List.foldl_cons]
    unfold pickT
    by_cases hx : x.Office > t.2
    · rw [decide_eq_true hx, cond_true]
      rcases pick_max X (x.Text, x.Office) with ⟨h1, h2⟩ | ⟨y, hy, h1, h2, h3⟩
      · refine .inr ⟨x, by simp, h1, hx, fun y hy => ?_⟩
        rcases List.mem_cons.1 hy with rfl | hy
        · exact Int.le_refl _
        · exact h2 y hy
      · refine .inr ⟨y, by simp [hy], h1, by dsimp only at h2; omega, fun z hz => ?_⟩
        rcases List.mem_cons.1 hz with rfl | hz
        · dsimp only at h2; omega
        · exact h3 z hz
    · rw [decide_eq_false hx, cond_false]
      rcases pick_max X t with ⟨h1, h2⟩ | ⟨y, hy, h1, h2, h3⟩
      · refine .inl ⟨h1, fun y hy => ?_⟩
        rcases List.mem_cons.1 hy with rfl | hy
        · omega
        · exact h2 y hy
      · refine .inr ⟨y, by simp [hy], h1, h2, fun z hz => ?_⟩
        rcases List.mem_cons.1 hz with rfl | hz
        · omega
        · exact h3 z hz
theorem riv_loop {L : List Op} : ∀ (M : List Int) (k : Nat) (t : ByteArray × Int), (∀ i ∈ M, ∃ x, at' L i = some x) → overI (fun _ x8 (s4 : ByteArray × Int) => (((at' L x8).bind fun x9 => (bif (decide (x9.Office > s4.2)) then some (x9.Text, x9.Office) else some (s4.1, s4.2)))).map (Sum.inl (β := ByteArray))) (fun s => s.1) M k t = some ((M.filterMap (at' L)).foldl pickT t).1
  | [], _, _, _ => rfl
  | i :: M, k, t, h => by
    obtain ⟨x, hx⟩ := h i (by simp)
    unfold overI
    rw [hx, List.filterMap_cons, hx, List.foldl_cons]
    have : ((some x).bind fun x9 => (bif (decide (x9.Office > t.2)) then some (x9.Text, x9.Office) else some (t.1, t.2))).map (Sum.inl (β := ByteArray)) = some (Sum.inl (pickT t x)) := by
      unfold pickT
      rw [Option.bind_some]
      cases decide (x.Office > t.2) <;> rfl
    rw [this]
    exact riv_loop M (k + 1) (pickT t x) fun j hj => h j (by simp [hj])
theorem riv_mem {L : List Op} {key : ByteArray} {x : Op} : x ∈ (rivals L key).filterMap (at' L) ↔ x ∈ L ∧ rivB L key x = true := by
  rw [List.mem_filterMap]
  constructor
  · rintro ⟨i, hi, hx⟩
    obtain ⟨n, hn, h⟩ := List.mem_flatMap.1 hi
    have hlt := List.mem_range.1 hn
    unfold rivF at h
    rw [List.getElem?_eq_getElem hlt] at h
    dsimp only at h
    cases hb : rivB L key L[n]
    · rw [hb] at h; simp at h
    · rw [hb] at h
      simp at h
      subst h
      rw [at_nat, List.getElem?_eq_getElem hlt] at hx
      have := Option.some.inj hx
      subst this
      exact ⟨List.getElem_mem hlt, hb⟩
  · rintro ⟨hx, hb⟩
    obtain ⟨n, hn, rfl⟩ := List.mem_iff_getElem.1 hx
    refine ⟨(n : Int), List.mem_flatMap.2 ⟨n, List.mem_range.2 hn, ?_⟩, by rw [at_nat, List.getElem?_eq_getElem hn]⟩
    unfold rivF
    rw [List.getElem?_eq_getElem hn]
    dsimp only
    rw [hb]
    simp
theorem txt_max {L : List Op} (hx : ∀ x ∈ L, OpR x) (hlog : logB L = true) (key : ByteArray) : (txt L key = ByteArray.mk #[] ∧ ∀ x ∈ L, rivB L key x = false) ∨ ∃ x ∈ L, rivB L key x = true ∧ txt L key = x.Text ∧ ∀ y ∈ L, rivB L key y = true → y.Office ≤ x.Office := by
  obtain ⟨h16, hg⟩ := logB_good hlog
  have hrl := rivals_len L key
  have h2 := (txt_eq hx hlog key).2.1
  unfold spec_l32Text at h2
  rw [spec_rivals hlog, Option.bind_some, forS_at (rivals L key) (by omega) (fun (_ : Int) x8 (s4 : ByteArray × Int) => ((at' L x8).bind fun x9 => (bif (decide (x9.Office > s4.2)) then some (x9.Text, x9.Office) else some (s4.1, s4.2)))), riv_loop (rivals L key) 0 _ fun i hi => (rivals_mem hi).imp fun _ h => h.1] at h2
  have h3 := Option.some.inj h2
  rcases pick_max ((rivals L key).filterMap (at' L)) (ByteArray.mk #[], -1) with ⟨h4, h5⟩ | ⟨x, hxm, h4, h5, h6⟩
  · rw [h4] at h3
    refine .inl ⟨h3.symm, fun x hx2 => ?_⟩
    cases hb : rivB L key x with
    | false => rfl
    | true =>
      have h7 := h5 x (riv_mem.2 ⟨hx2, hb⟩)
      have := (hg x hx2).o
      dsimp only at h7
      omega
  · rw [h4] at h3
    obtain ⟨h7, h8⟩ := riv_mem.1 hxm
    exact .inr ⟨x, h7, h8, h3.symm, fun y hy hb => h6 y (riv_mem.2 ⟨hy, hb⟩)⟩
theorem riv_one {L : List Op} (hlog : logB L = true) {key : ByteArray} {x y : Op} (hx : x ∈ L) (hy : y ∈ L) (bx : rivB L key x = true) (byy : rivB L key y = true) (ho : x.Office = y.Office) : x = y := by
  obtain ⟨h16, hg⟩ := logB_good hlog
  have hf : logF [] L = true := by
    unfold logB at hlog
    rw [Bool.and_eq_true] at hlog
    exact hlog.1
  have free : ∀ {u v : Op}, rivB L key u = true → rivB L key v = true → v ∈ L → knB v u = false := fun {u v} hu hv hvm => by
    unfold rivB at hu hv
    rw [Bool.and_eq_true] at hu hv
    have h1 : (L.any fun y => (y.Key.toList == key.toList) && knB y u) = false := by simpa using hu.2
    have h2 := List.any_eq_false.1 h1 v hvm
    rw [hv.1] at h2
    simpa using h2
  have lt : ∀ {u v : Op}, u ∈ L → v ∈ L → u.Office = v.Office → knB v u = false → v.Number ≤ u.Number := fun {u v} hu hv hov hk => by
    unfold knB at hk
    rw [decide_eq_false_iff_not, hov, (hg v hv).n] at hk
    omega
  have h1 := lt hx hy ho (free bx byy hy)
  have h2 := lt hy hx ho.symm (free byy bx hx)
  exact num_uniq L hf x hx y hy ho (by omega)
theorem rivB_congr {L M : List Op} (h : ∀ z, z ∈ L ↔ z ∈ M) (key : ByteArray) (x : Op) : rivB L key x = rivB M key x := by
  unfold rivB
  have : (L.any fun y => (y.Key.toList == key.toList) && knB y x) = (M.any fun y => (y.Key.toList == key.toList) && knB y x) := by
    rw [Bool.eq_iff_iff, List.any_eq_true, List.any_eq_true]
    exact ⟨fun ⟨y, hy, h1⟩ => ⟨y, (h y).1 hy, h1⟩, fun ⟨y, hy, h1⟩ => ⟨y, (h y).2 hy, h1⟩⟩
  rw [this]
theorem txt_congr {L M : List Op} (hL : ∀ x ∈ L, OpR x) (hM : ∀ x ∈ M, OpR x) (lL : logB L = true) (lM : logB M = true) (h : ∀ z, z ∈ L ↔ z ∈ M) (key : ByteArray) : txt L key = txt M key := by
  rcases txt_max hL lL key with ⟨h1, h2⟩ | ⟨x, hx, bx, h1, h2⟩ <;> rcases txt_max hM lM key with ⟨k1, k2⟩ | ⟨y, hy, byy, k1, k2⟩
  · rw [h1, k1]
  · have := h2 y ((h y).2 hy)
    rw [rivB_congr h, byy] at this
    cases this
  · have := k2 x ((h x).1 hx)
    rw [← rivB_congr h, bx] at this
    cases this
  · have e1 := h2 y ((h y).2 hy) (by rw [rivB_congr h]; exact byy)
    have e2 := k2 x ((h x).1 hx) (by rw [← rivB_congr h]; exact bx)
    have : x = y := riv_one lL hx ((h y).2 hy) bx (by rw [rivB_congr h]; exact byy) (by omega)
    rw [h1, k1, this]
theorem stV_congr {L M : List Op} (hL : ∀ x ∈ L, OpR x) (hM : ∀ x ∈ M, OpR x) (lL : logB L = true) (lM : logB M = true) (h : ∀ z, z ∈ L ↔ z ∈ M) : stV L = stV M := by
  unfold stV
  have e : sortedS (L.map Op.Key) = sortedS (M.map Op.Key) := txt_unique (sortedS_sorted _) (sortedS_sorted _) fun z => by
    rw [sortedS_mem, sortedS_mem, List.mem_map, List.mem_map]
    exact ⟨fun ⟨x, hx, e⟩ => ⟨x, (h x).1 hx, e⟩, fun ⟨x, hx, e⟩ => ⟨x, (h x).2 hx, e⟩⟩
  rw [e]
  refine List.map_congr_left fun k _ => ?_
  unfold line
  rw [txt_congr hL hM lL lM h k]
theorem miss_none {L : List Op} {v : List Int} (h : ∀ x ∈ L, x.Number ≤ gv v x.Office) : (List.range L.length).flatMap (missF L v) = [] := by
  rw [List.flatMap_eq_nil_iff]
  intro i hi
  have hlt := List.mem_range.1 hi
  unfold missF
  rw [List.getElem?_eq_getElem hlt]
  dsimp only
  rw [decide_eq_false (by have := h _ (List.getElem_mem hlt); omega), cond_false]
end Go.Proofs.YtbaainlnmackeaaGreatDoor.Sh
