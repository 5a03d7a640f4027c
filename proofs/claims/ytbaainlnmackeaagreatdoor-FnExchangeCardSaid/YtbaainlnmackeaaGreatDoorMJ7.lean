/- Logs: the lines of the state, of both; bounds on lengths alone. -/
import Derived.Test.YtbaainlnmackeaaGreatDoorMJ3
import Derived.Test.YtbaainlnmackeaaGreatDoorMST1
import Derived.Test.YtbaainlnmackeaaGreatDoorMBL
namespace Go.Proofs.YtbaainlnmackeaaGreatDoor.Sh
open Go.RowKit Go.Lib
theorem text_pair {L : List Op} (hx : ∀ x ∈ L, OpR x) (hlog : logB L = true) (key : ByteArray) : ∃ t c, impl_textOf L key = some (t, c) ∧ spec_l32Text L key = some t ∧ t.size ≤ 1048576 := by
  obtain ⟨h16, hg⟩ := logB_good hlog
  have hrl := rivals_len L key
  unfold impl_textOf spec_l32Text
  rw [impl_rivals hlog, spec_rivals hlog]
  simp only [Option.bind_some]
  obtain ⟨b, t, e1, e2, h, hne⟩ := text_loop hg (rivals L key) 0 (-1) (ByteArray.mk #[], -1) (fun i hi => rivals_mem hi) (.inl ⟨rfl, rfl⟩)
  rw [forS_at (rivals L key) (by omega) (fun (_ : Int) x8 (s4 : Int) => (((bif (decide (s4 < 0)) then some true else ((at' L x8).bind fun x9 => ((at' L s4).bind fun x10 => some (decide (x9.Office > x10.Office)))))).bind fun (j11 : Bool) => (bif j11 then some x8 else some s4))), e1, forS_at (rivals L key) (by omega) (fun (_ : Int) x8 (s4 : ByteArray × Int) => ((at' L x8).bind fun x9 => (bif (decide (x9.Office > s4.2)) then some (x9.Text, x9.Office) else some (s4.1, s4.2)))), e2]
  simp only [Option.bind_some]
  rcases h with ⟨rfl, rfl⟩ | ⟨x, hxm, hb, ex, rfl⟩
  · exact ⟨_, _, rfl, rfl, by simp [ByteArray.size]⟩
  · rw [decide_eq_false (by omega), cond_false, ex]
    exact ⟨_, _, rfl, rfl, (hx x hxm).t⟩
/-- The text for a key. -/
noncomputable def txt (L : List Op) (key : ByteArray) : ByteArray := ((impl_textOf L key).map Prod.fst).getD (ByteArray.mk #[])
theorem txt_eq {L : List Op} (hx : ∀ x ∈ L, OpR x) (hlog : logB L = true) (key : ByteArray) : (∃ c, impl_textOf L key = some (txt L key, c)) ∧ spec_l32Text L key = some (txt L key) ∧ (txt L key).size ≤ 1048576 := by
  obtain ⟨t, c, h1, h2, h3⟩ := text_pair hx hlog key
  have e : txt L key = t := by unfold txt; rw [h1]; rfl
  rw [e]
  exact ⟨⟨c, h1⟩, h2, h3⟩
theorem cat_ok {s r : ByteArray} (h : s.size + r.size ≤ 9223372036854775807) : cat' s r = some (s ++ r) := by
  unfold cat'
  rw [if_pos h]
/-- The lines of the state. -/
noncomputable def line (L : List Op) (key : ByteArray) : ByteArray := key ++ ByteArray.mk #[61] ++ txt L key
noncomputable def stV (L : List Op) : List ByteArray := (sortedS (L.map Op.Key)).map (line L)
theorem line_ok {L : List Op} (hx : ∀ x ∈ L, OpR x) (hlog : logB L = true) {key : ByteArray} (hk : key.size ≤ 1048576) : (cat' key (ByteArray.mk #[61])).bind (fun x => cat' x (txt L key)) = some (line L key) := by
  have h3 := (txt_eq hx hlog key).2.2
  have h1 : (ByteArray.mk #[61]).size = 1 := rfl
  rw [cat_ok (by omega), Option.bind_some, cat_ok (by rw [ByteArray.size_append]; omega)]
  rfl
theorem impl_state {L : List Op} (hx : ∀ x ∈ L, OpR x) (hlog : logB L = true) : impl_stateOf L = some (stV L) := by
  obtain ⟨h16, hg⟩ := logB_good hlog
  have hl : (sortedS (L.map Op.Key)).length ≤ 16 := by
    have := sortedS_len (L.map Op.Key)
    rw [List.length_map] at this
    omega
  unfold impl_stateOf impl_sorted stV
  rw [build_map (S := List ByteArray) (show L.length ≤ 1048576 by omega) (fun s => s) Op.Key (fun i x s hi hs => by
    rw [at_nat, hi, Option.bind_some, app_ok (by simp; omega)]
    rfl), Option.bind_some, if_pos (by rw [List.length_map]; omega), Option.bind_some, build_map (S := List ByteArray) (show (sortedS (L.map Op.Key)).length ≤ 1048576 by omega) (fun s => s) (line L) (fun i k s hi hs => by
    have hk : k.size ≤ 1048576 := by
      have h1 := sortedS_mem.1 (List.mem_of_getElem? hi)
      obtain ⟨x, hxm, rfl⟩ := List.mem_map.1 h1
      exact (hx x hxm).k
    obtain ⟨⟨c, h1⟩, _, h3⟩ := txt_eq hx hlog k
    have h4 := line_ok hx hlog hk
    rw [Option.bind_eq_some_iff] at h4
    obtain ⟨y, h4, h5⟩ := h4
    simp only [at_nat, hi, Option.bind_some, h1, h4, h5]
    rw [app_ok (by simp; omega)]
    rfl)]
  rfl
theorem ins_loop {A : Type} {D : List ByteArray → A} : ∀ (M : List Op) (k : Nat) (s : List ByteArray), s.Pairwise (fun a b => ltB a b = true) → s.length + M.length ≤ 1000000 → overI (fun (_ : Nat) (x8 : Op) (s4 : List ByteArray) => ((spec_l08Insert s4 x8.Key).bind fun x9 => some x9).map .inl) D M k s = some (D ((M.map Op.Key).foldl insS s))
  | [], _, _, _, _ => rfl
  | x :: M, k, s, h, hl => by
    rw [List.length_cons] at hl
    unfold overI
    rw [spec_insS (by omega) h]
    show overI _ D M (k + 1) (insS s x.Key) = _
    have := insS_len s x.Key
    rw [ins_loop M (k + 1) (insS s x.Key) (insS_sorted h) (by omega)]
    rfl
theorem stateOfLog_eq {L : List Op} (hL : L.length ≤ 1048576) (hx : ∀ x ∈ L, OpR x) : ∃ r, impl_StateOfLog L = some r ∧ spec_StateOfLog L = some r ∧ r.1.length ≤ 16 := by
  unfold impl_StateOfLog spec_StateOfLog
  rw [impl_isLog_eq L hL hx, spec_isLog_eq L hL hx]
  cases hlog : logB L
  · exact ⟨_, rfl, rfl, by simp⟩
  · obtain ⟨h16, hg⟩ := logB_good hlog
    have hl : (sortedS (L.map Op.Key)).length ≤ 16 := by
      have := sortedS_len (L.map Op.Key)
      rw [List.length_map] at this
      omega
    refine ⟨(stV L, 0), by simp only [Option.bind_some, Bool.not_true, cond_false, impl_state hx hlog], ?_, by show (stV L).length ≤ 16; unfold stV; rw [List.length_map]; exact hl⟩
    simp only [Option.bind_some, Bool.not_true, cond_false]
    rw [forS_at L (by omega) (fun (_ : Int) x8 (s4 : List ByteArray) => ((spec_l08Insert s4 x8.Key).bind fun x9 => some x9)), ins_loop L 0 [] List.Pairwise.nil (by simp; omega), foldl_sortedS, Option.bind_some, build_map (S := List ByteArray) (show (sortedS (L.map Op.Key)).length ≤ 1048576 by omega) (fun s => s) (line L) (fun i k s hi hs => by
      have hk : k.size ≤ 1048576 := by
        have h1 := sortedS_mem.1 (List.mem_of_getElem? hi)
        obtain ⟨x, hxm, rfl⟩ := List.mem_map.1 h1
        exact (hx x hxm).k
      obtain ⟨_, h2, h3⟩ := txt_eq hx hlog k
      have h4 := line_ok hx hlog hk
      rw [Option.bind_eq_some_iff] at h4
      obtain ⟨y, h4, h5⟩ := h4
      simp only [at_nat, hi, Option.bind_some, h2, h4, h5]
      rw [app_ok (by simp; omega)]
      rfl)]
    rfl
end Go.Proofs.YtbaainlnmackeaaGreatDoor.Sh
