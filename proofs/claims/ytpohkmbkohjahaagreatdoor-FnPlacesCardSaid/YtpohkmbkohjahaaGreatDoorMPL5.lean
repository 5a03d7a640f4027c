/- Places: EndPlace of both; bounds on lengths alone. -/
import Derived.Test.YtpohkmbkohjahaaGreatDoorMPL4
namespace Go.Proofs.YtpohkmbkohjahaaGreatDoor.Sh
open Go.RowKit Go.Lib
/-- A list that is built element by element, beside values that stay. -/
theorem build_list {α β S A : Type} {L : List α} (hL : L.length ≤ 1048576) {B : Int → S → Option S} {D : S → A} (mk : List β → S) (f : α → List β) (hf : ∀ x ∈ L, (f x).length ≤ 1) (h : ∀ (i : Nat) x (s : List β), L[i]? = some x → s.length ≤ 1048576 → B (i : Int) (mk s) = some (mk (s ++ f x))) : forS (L.length : Int) B D 0 (mk []) = some (D (mk (L.flatMap f))) := by
  have key : ∀ (M : List α) (k : Nat) (s : List β), L.drop k = M → k + M.length = L.length → s.length ≤ k → iterN (fun i s => (B (i : Int) s).map .inl) D M.length k (mk s) = some (D (mk (s ++ M.flatMap f))) := by
    intro M
    induction M with
    | nil => intro k s _ _ _; simp [iterN]
    | cons x M ih =>
      intro k s hd hk hs
      have hx : L[k]? = some x := by
        have := List.getElem?_drop (xs := L) (i := k) (j := 0)
        rw [hd] at this
        simpa using this.symm
      have hlt := (List.getElem?_eq_some_iff.1 hx).1
      rw [List.length_cons]
      unfold iterN
      rw [h k x s hx (by omega)]
      show iterN _ D M.length (k + 1) (mk (s ++ f x)) = _
      have hfx := hf x (List.mem_of_getElem? hx)
      rw [ih (k + 1) _ (by rw [← List.drop_drop, hd]; rfl) (by simp at hk; omega) (by rw [List.length_append]; omega), List.flatMap_cons, List.append_assoc]
  rw [forS_forN, forN_iter _ (by omega)]
  exact key L 0 [] rfl (by simp) (by simp)
theorem build_map {α β S A : Type} {L : List α} (hL : L.length ≤ 1048576) {B : Int → S → Option S} {D : S → A} (mk : List β → S) (f : α → β) (h : ∀ (i : Nat) x (s : List β), L[i]? = some x → s.length ≤ 1048576 → B (i : Int) (mk s) = some (mk (s ++ [f x]))) : forS (L.length : Int) B D 0 (mk []) = some (D (mk (L.map f))) := by
  rw [build_list hL mk (fun x => [f x]) (fun _ _ => by simp) h]
  rw [List.map_eq_flatMap]
def cutN (y : Int) (n : Name) : List Name := bif decide (n.Years.From < y) then [Name.mk n.Text n.Language n.Status (Span.mk n.Years.From (minI n.Years.To (y - 1)))] else []
theorem cutN_len (y : Int) (n : Name) : (cutN y n).length ≤ 1 := by
  unfold cutN
  cases decide (n.Years.From < y) <;> simp
def endP (y : Int) (p : Place) : Place := Place.mk p.Code p.Class (Span.mk p.Years.From (y - 1)) (p.Names.flatMap (cutN y))
theorem impl_ended_eq {p : Place} (h : PlR p) {y : Int} (hy : inB y (-3000) 3000 = true) : impl_Place_ended p y = some (endP y p) := by
  have hl := h.l
  rw [inB_iff] at hy
  unfold impl_Place_ended
  rw [w64_id (n := y - 1) (by omega) (by omega)]
  rw [build_list (S := ByteArray × Int × Int × Int × List Name) hl (fun s => (p.Code, p.Class, p.Years.From, y - 1, s)) (cutN y) (fun x _ => cutN_len y x) (fun i x s hx hs => by
    rw [at_nat, hx, Option.bind_some]
    unfold cutN
    cases decide (x.Years.From < y)
    · simp
    · rw [cond_true, cond_true, app_ok (by simp; omega), Option.bind_some])]
  rfl
theorem spec_end_eq {p : Place} (h : PlR p) (hp : placeB p = true) {y : Int} (hy : inB y (-3000) 3000 = true) (hh : inB (y - 1) p.Years.From p.Years.To = true) : spec_l11End p y = some (endP y p) := by
  have hl := h.l
  rw [inB_iff] at hy hh
  have hn : ∀ n ∈ p.Names, n.Years.From ≤ n.Years.To := fun n hn => by
    unfold placeB at hp
    simp only [Bool.and_eq_true] at hp
    have h1 := hp.2.2.2.1
    unfold namesB at h1
    rw [Bool.and_eq_true, Bool.not_eq_true'] at h1
    obtain ⟨i, hi⟩ := List.mem_iff_getElem?.1 hn
    have h2 := firstI_no h1.1 i n hi
    unfold badN at h2
    rw [Bool.or_eq_false_iff, Bool.not_eq_false'] at h2
    have h3 := h2.1
    unfold nameB spanB at h3
    simp only [Bool.and_eq_true, decide_eq_true_eq] at h3
    exact h3.2.2.2.2.2
  unfold spec_l11End
  rw [w64_id (n := y - 1) (by omega) (by omega)]
  rw [build_list (S := List Name) hl (fun s => s) (cutN y) (fun x _ => cutN_len y x) (fun i x s hx hs => by
    rw [at_nat, hx, Option.bind_some]
    unfold cutN
    have h1 := hn x (List.mem_of_getElem? hx)
    by_cases h2 : x.Years.From < y
    · rw [decide_eq_true h2, decide_eq_true (show x.Years.From ≤ minI x.Years.To (y - 1) by unfold minI; split <;> omega), cond_true, cond_true, app_ok (by simp; omega), Option.bind_some]
    · rw [decide_eq_false h2, decide_eq_false (show ¬ x.Years.From ≤ minI x.Years.To (y - 1) by unfold minI; split <;> omega), cond_false, cond_false, List.append_nil])]
  have hm : minI p.Years.To (y - 1) = y - 1 := by unfold minI; split <;> omega
  rw [hm]
  rfl
theorem clone_eq {p : Place} (h : PlR p) : impl_Place_clone p = some p := by
  have hl := h.l
  unfold impl_Place_clone slices_Clone_Name
  rw [if_pos (by omega)]
  rfl
theorem cloneReg_eq {L : List Place} (hL : L.length ≤ 1048576) (h : ∀ x ∈ L, PlR x) : impl_cloneRegister L = some L := by
  unfold impl_cloneRegister
  rw [build_map (S := List Place) hL (fun s => s) (fun x => x) (fun i x s hx hs => by
    rw [at_nat, hx, Option.bind_some, clone_eq (h x (List.mem_of_getElem? hx)), Option.bind_some, app_ok (by simp; omega)]
    rfl), List.map_id']
  rfl
theorem own_eq {L : List Place} (hL : L.length ≤ 1048576) (h : ∀ x ∈ L, PlR x) : spec_l11Own L = some L := by
  unfold spec_l11Own
  rw [build_map (S := List Place) hL (fun s => s) (fun x => x) (fun i x s hx hs => by
    have hl := (h x (List.mem_of_getElem? hx)).l
    rw [at_nat, hx, Option.bind_some, app_ok (by simp; omega), Option.bind_some, app_ok (by simp; omega)]
    rfl), List.map_id']
  rfl
theorem endP_R {p : Place} (h : PlR p) (y : Int) : PlR (endP y p) := by
  refine ⟨h.c, ?_, fun x hx => ?_⟩
  · have h1 : (p.Names.flatMap (cutN y)).length ≤ p.Names.length := by
      induction p.Names with
      | nil => simp
      | cons x l ih =>
        have := cutN_len y x
        rw [List.flatMap_cons, List.length_append, List.length_cons]
        omega
    exact Nat.le_trans h1 h.l
  · obtain ⟨n, hn, hx⟩ := List.mem_flatMap.1 hx
    have h1 := h.n n hn
    unfold cutN at hx
    cases hd : decide (n.Years.From < y)
    · rw [hd] at hx
      simp at hx
    · rw [hd] at hx
      have : x = Name.mk n.Text n.Language n.Status (Span.mk n.Years.From (minI n.Years.To (y - 1))) := by simpa using hx
      rw [this]
      exact ⟨h1.t, h1.l⟩
/-- The code of a register, a code of a place and a year. -/
def regC (L : List Place) (c : ByteArray) (y : Int) : Int := bif regB L && wordB c then bif inB y (-3000) 3000 then 0 else 2 else 1
def endV (L : List Place) (c : ByteArray) (y : Int) : List Place × Int := bif regC L c y == 0 then (match L[(idxP (codeP c) L).toNat]? with
    | some p => bif L.any (codeP c) then bif inB (y - 1) p.Years.From p.Years.To then (L.set (idxP (codeP c) L).toNat (endP y p), 0) else ([], 5) else ([], 4)
    | none => ([], 4)) else ([], regC L c y)
theorem regC_zero {L : List Place} {c : ByteArray} {y : Int} (h : (regC L c y == 0) = true) : regB L = true ∧ inB y (-3000) 3000 = true := by
  unfold regC at h
  cases h1 : regB L && wordB c
  · rw [h1] at h
    simp at h
  · rw [Bool.and_eq_true] at h1
    refine ⟨h1.1, ?_⟩
    cases h2 : inB y (-3000) 3000
    · rw [h1.1, h1.2, h2] at h
      simp at h
    · rfl
theorem impl_regC {L : List Place} (hL : L.length ≤ 1048576) (h : ∀ x ∈ L, PlR x) (c : ByteArray) (y : Int) : impl_registerCode L (wordB c) y = some (regC L c y) := by
  unfold impl_registerCode impl_isYear regC
  rw [impl_isReg hL h, within_eq]
  cases regB L <;> cases wordB c <;> cases inB y (-3000) 3000 <;> rfl
theorem impl_end_eq {L : List Place} (hL : L.length ≤ 1048576) (h : ∀ x ∈ L, PlR x) {c : ByteArray} (hc : c.size ≤ 1048576) (y : Int) : impl_EndPlace L c y = some (endV L c y) := by
  unfold impl_EndPlace endV
  rw [impl_isWord _ (by unfold maxLen; omega), Option.bind_some, impl_regC hL h, Option.bind_some]
  cases h0 : (regC L c y == 0)
  · rw [bne, h0]
    rfl
  · obtain ⟨h1, h2⟩ := regC_zero h0
    obtain ⟨h3, h4, h5⟩ := regB_iff.1 h1
    obtain ⟨k, e1, e2, e3, e4, e5⟩ := findP_impl h5 h3 c
    rw [bne, h0, Bool.not_true, cond_false, cond_true, e1, Option.bind_some]
    cases ha : L.any (codeP c)
    · simp only [Bool.not_false, cond_true, Option.bind_some, Sum.elim_inr, cond_false]
      cases L[(idxP (codeP c) L).toNat]? <;> rfl
    · obtain ⟨q1, q2⟩ := e5 ha
      have hp : L[k]? = some L[k] := List.getElem?_eq_getElem q2
      generalize L[k] = p at hp
      have hr := h p (List.mem_of_getElem? hp)
      have hy := inB_iff.1 h2
      rw [q1, Int.toNat_natCast, hp]
      simp only [Bool.not_true, cond_false, cond_true, at_nat, hp, Option.bind_some]
      unfold impl_Span_has
      rw [within_eq, w64_id (n := y - 1) (by omega) (by omega), Option.bind_some, Option.bind_some]
      cases hh : inB (y - 1) p.Years.From p.Years.To
      · rfl
      · simp only [Bool.not_true, cond_false, cond_true, Option.bind_some, Sum.elim_inl, cloneReg_eq hL h, at_nat, hp, impl_ended_eq hr h2, Int.toNat_natCast]
theorem spec_l11Code_eq {L : List Place} (hL : L.length ≤ 1048576) (h : ∀ x ∈ L, PlR x) {c : ByteArray} (hc : c.size ≤ 1048576) (y : Int) : spec_l11Code L c y = some (bif regC L c y == 0 then bif L.any (codeP c) then 0 else 4 else regC L c y) := by
  unfold spec_l11Code spec_l02Year regC
  rw [spec_isReg hL h, spec_isWord _ (by unfold maxLen; omega), l01In_eq, findP_spec hL]
  simp only [Option.bind_some, idxP_neg]
  cases regB L <;> cases wordB c <;> cases inB y (-3000) 3000 <;> cases L.any (codeP c) <;> rfl
theorem spec_end_place_eq {L : List Place} (hL : L.length ≤ 1048576) (h : ∀ x ∈ L, PlR x) {c : ByteArray} (hc : c.size ≤ 1048576) (y : Int) : spec_EndPlace L c y = some (endV L c y) := by
  unfold spec_EndPlace endV
  rw [spec_l11Code_eq hL h hc, Option.bind_some, findP_spec hL]
  cases h0 : (regC L c y == 0)
  · rw [cond_false, cond_false, bne, h0]
    rfl
  · obtain ⟨h1, h2⟩ := regC_zero h0
    obtain ⟨h3, h4, h5⟩ := regB_iff.1 h1
    obtain ⟨k, e1, e2, e3, e4, e5⟩ := findP_impl h5 h3 c
    rw [cond_true, cond_true]
    cases ha : L.any (codeP c)
    · rw [cond_false]
      cases L[(idxP (codeP c) L).toNat]? <;> rfl
    · obtain ⟨q1, q2⟩ := e5 ha
      have hp : L[k]? = some L[k] := List.getElem?_eq_getElem q2
      generalize L[k] = p at hp
      have hr := h p (List.mem_of_getElem? hp)
      have hpl := h4 p (List.mem_of_getElem? hp)
      have hy := inB_iff.1 h2
      rw [cond_true, q1, Int.toNat_natCast, hp]
      have e0 : ((0 : Int) != 0) = false := rfl
      rw [e0, cond_false, Option.bind_some, at_nat, hp, Option.bind_some]
      unfold spec_l11Exists
      rw [l01In_eq, w64_id (n := y - 1) (by omega) (by omega), Option.bind_some, Option.bind_some]
      show _ = some (bif inB (y - 1) p.Years.From p.Years.To then (L.set k (endP y p), 0) else ([], 5))
      cases hh : inB (y - 1) p.Years.From p.Years.To
      · rfl
      · have hset : ∀ x ∈ L.set k (endP y p), PlR x := fun x hx => by
          rcases List.mem_or_eq_of_mem_set hx with hx | rfl
          · exact h x hx
          · exact endP_R hr y
        simp only [Bool.not_true, cond_false, cond_true, app_ok (show ([] : List Place).length + L.length ≤ 68719476736 by simp; omega), Option.bind_some, List.nil_append, at_nat, hp, spec_end_eq hr hpl h2 hh, Int.toNat_natCast, own_eq (show (L.set k (endP y p)).length ≤ 1048576 by simpa using hL) hset]
end Go.Proofs.YtpohkmbkohjahaaGreatDoor.Sh
