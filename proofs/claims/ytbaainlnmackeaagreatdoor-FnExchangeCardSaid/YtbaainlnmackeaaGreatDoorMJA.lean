/- The draws of logs come to an answer; no condition but a short code. Needs GD and F1 (FnOps). -/
import Derived.Test.YtbaainlnmackeaaGreatDoorMD4
import Derived.Test.YtbaainlnmackeaaGreatDoorMJ3
namespace Go.Proofs.YtbaainlnmackeaaGreatDoor.Sh
open Go.RowKit Go.Lib
def LogD (L : List Op) : Prop := L.length ≤ 40 ∧ ∀ x ∈ L, OpR x
theorem LogD.nil : LogD [] := ⟨by simp, by simp⟩
theorem resOk.log {r : List Op × Int} (h : resOk r) : LogD r.1 := ⟨by have := h.1; omega, h.2⟩
theorem two_words {x : Int} (h0 : 0 ≤ x) (h : x < 2 ∨ x = 0) : ∃ y, at' ([(ByteArray.mk #[97, 115, 104]), (ByteArray.mk #[98, 114, 105, 103])] : List ByteArray) x = some y ∧ y.size ≤ 20 := by
  obtain ⟨y, e, hm⟩ := one_of ([(ByteArray.mk #[97, 115, 104]), (ByteArray.mk #[98, 114, 105, 103])] : List ByteArray) h0 (by simp; omega) (by simp)
  exact ⟨y, e, by simp at hm; rcases hm with rfl | rfl <;> decide⟩
theorem specMake_ok (L : List Op) (o : Int) (key text : ByteArray) (hL : L.length ≤ 1048576) (hx : ∀ x ∈ L, OpR x) (hk : key.size ≤ 1048576) (ht : text.size ≤ 1048576) : ∃ r, spec_MakeOp L o key text = some r ∧ resOk r := by
  unfold spec_MakeOp
  rw [spec_isLog_eq L hL hx]
  cases hlog : logB L
  · exact ⟨_, rfl, by simp [resOk]⟩
  · obtain ⟨h16, hg⟩ := logB_good hlog
    have ho := fun x hx => (hg x hx).o
    simp only [Option.bind_some, Bool.not_true, cond_false, l01In_eq]
    cases hin : inB o 0 3
    · exact ⟨_, rfl, by simp [resOk]⟩
    · rw [inB_iff] at hin
      have hcn := cn_le L o
      simp only [Bool.not_true, cond_false, Option.bind_some, spec_vec hL ho, vec_at L hin.1 hin.2, w64_id (n := cn L o + 1) (by omega) (by omega), spec_isWord key (by unfold maxLen; omega), spec_isPhrase text (by omega)]
      have hnew : OpR (Op.mk o (cn L o + 1) key text (vec L)) := ⟨⟨by dsimp only; omega, by dsimp only; omega⟩, ⟨by dsimp only; omega, by dsimp only; omega⟩, hk, ht, by simp [vec], fun v hv => by
          have hcs := fun q => cn_le L q
          simp only [vec, List.mem_cons, List.not_mem_nil, or_false] at hv
          rcases hv with rfl | rfl | rfl | rfl
          · have := hcs 0; omega
          · have := hcs 1; omega
          · have := hcs 2; omega
          · have := hcs 3; omega⟩
      cases hw : wordB key
      · exact ⟨_, rfl, by simp [resOk]⟩
      · cases hp : phraseB text
        · exact ⟨_, rfl, by simp [resOk]⟩
        · simp only [Option.bind_some, Bool.not_true, cond_false]
          cases h17 : ((L.length : Int) == 16)
          · have hs : ∀ x ∈ L, x.Seen.length ≤ 1048576 := fun x hxm => (hx x hxm).s
            refine ⟨(L ++ [Op.mk o (cn L o + 1) key text (vec L)], 0), ?_, by simp; omega, fun x hxm => ?_⟩
            · simp only [cond_false]
              rw [app_ok (by simp; omega), Option.bind_some, List.nil_append, app_ok (by simp; omega), Option.bind_some, spec_own (by simp; omega) (fun x hxm => by
                rcases List.mem_append.1 hxm with h | h
                · exact hs x h
                · rw [List.mem_singleton.1 h]; simp [vec])]
              rfl
            · rcases List.mem_append.1 hxm with h | h
              · exact hx x h
              · rw [List.mem_singleton.1 h]
                exact hnew
          · exact ⟨_, rfl, by simp [resOk]⟩
/-- One more operation, where it may be made. -/
theorem step_ok {L : List Op} (hL : LogD L) {s : l01Source} (hs : SrcOk s) (k : Int) (hk : k < 9223372036854775808) (g : Int → Int) : ∃ L' s', ((spec_l01Next s k).bind fun x7 => ((spec_l01Next x7.2 2).bind fun x8 => ((at' ([(ByteArray.mk #[97, 115, 104]), (ByteArray.mk #[98, 114, 105, 103])] : List ByteArray) x8.1).bind fun x9 => ((spec_l01GoodPhrase x8.2).bind fun x10 => ((spec_MakeOp L (g x7.1) x9 x10.1).bind fun x11 => (bif (x11.2 == 0) then some (x11.1, x10.2) else some (L, x10.2))))))) = some (L', s') ∧ LogD L' ∧ SrcOk s' := by
  obtain ⟨x1, s1, h1, a1, b1, c1⟩ := next_ok hs k hk
  obtain ⟨x2, s2, h2, a2, b2, c2⟩ := next_ok c1 2 (by omega)
  obtain ⟨y, hy, hys⟩ := two_words a2 b2
  obtain ⟨t, s3, h3, ht, c3⟩ := goodPhrase_ok c2
  obtain ⟨r, h4, hr⟩ := specMake_ok L (g x1) y t (by have := hL.1; omega) hL.2 (by omega) (by omega)
  simp only [h1, h2, hy, h3, h4, Option.bind_some]
  cases r.2 == 0
  · exact ⟨_, _, rfl, hL, c3⟩
  · exact ⟨_, _, rfl, hr.log, c3⟩
theorem grow_loop {L : List Op} (hL : LogD L) {s : l01Source} (hs : SrcOk s) (n : Int) (hn : n ≤ 1000) (k : Int) (hk : k < 9223372036854775808) (g : Int → Int) : ∃ r, loop (fun (s3 : (List Op) × Int × l01Source) => (bif (decide (s3.2.1 > 0)) then ((((spec_l01Next s3.2.2 k).bind fun x7 => ((spec_l01Next x7.2 2).bind fun x8 => ((at' ([(ByteArray.mk #[97, 115, 104]), (ByteArray.mk #[98, 114, 105, 103])] : List ByteArray) x8.1).bind fun x9 => ((spec_l01GoodPhrase x8.2).bind fun x10 => ((spec_MakeOp s3.1 (g x7.1) x9 x10.1).bind fun x11 => (bif (x11.2 == 0) then some (x11.1, x10.2) else some (s3.1, x10.2)))))))).bind fun (j5 : (List Op) × l01Source) => some (.inl (j5.1, (w64 (s3.2.1 - 1)), j5.2))) else some (.inr (s3.1, s3.2.2)))) (L, n, s) = some r ∧ LogD r.1 ∧ SrcOk r.2 := by
  refine loop_inv (fun s : List Op × Int × l01Source => s.2.1 ≤ 1000 ∧ LogD s.1 ∧ SrcOk s.2.2) (fun s => s.2.1.toNat) (fun r : List Op × l01Source => LogD r.1 ∧ SrcOk r.2) (fun s hs => ?_) ⟨hn, hL, hs⟩
  obtain ⟨k1, k2, k3⟩ := hs
  by_cases hp : s.2.1 > 0
  · left
    obtain ⟨L', s', e, h1, h2⟩ := step_ok k2 k3 k hk g
    rw [decide_eq_true hp, cond_true, e, Option.bind_some, w64_id (n := s.2.1 - 1) (by omega) (by omega)]
    exact ⟨_, rfl, ⟨by dsimp only; omega, h1, h2⟩, by dsimp only; omega⟩
  · right
    rw [decide_eq_false hp, cond_false]
    exact ⟨_, rfl, k2, k3⟩
theorem l32Grow_ok {L : List Op} (hL : LogD L) {s : l01Source} (hs : SrcOk s) (n : Int) (hn : n ≤ 1000) : ∃ L' s', spec_l32Grow s L n = some (L', s') ∧ LogD L' ∧ SrcOk s' := by
  unfold spec_l32Grow
  obtain ⟨r, e, h1, h2⟩ := grow_loop hL hs n hn 4 (by omega) (fun x => x)
  rw [e]
  exact ⟨_, _, rfl, h1, h2⟩
theorem l32Two_ok {s : l01Source} (hs : SrcOk s) : ∃ a b s', spec_l32Two s = some (a, b, s') ∧ LogD a ∧ LogD b ∧ SrcOk s' := by
  unfold spec_l32Two
  obtain ⟨x1, s1, h1, a1, b1, c1⟩ := next_ok hs 4 (by omega)
  obtain ⟨L2, s2, h2, d2, c2⟩ := l32Grow_ok LogD.nil c1 x1 (by omega)
  obtain ⟨x3, s3, h3, a3, b3, c3⟩ := next_ok c2 4 (by omega)
  obtain ⟨r4, h4, d4, c4⟩ := grow_loop d2 c3 x3 (by omega) 2 (by omega) (fun x => x)
  obtain ⟨x5, s5, h5, a5, b5, c5⟩ := next_ok c4 4 (by omega)
  obtain ⟨r6, h6, d6, c6⟩ := grow_loop d2 c5 x5 (by omega) 2 (by omega) (fun x => w64 (2 + x))
  obtain ⟨x7, s7, h7, a7, b7, c7⟩ := next_ok c6 8 (by omega)
  simp only [h1, h2, h3, Option.bind_some]
  rw [h4]
  simp only [h5, Option.bind_some]
  rw [h6]
  simp only [h7, Option.bind_some]
  cases x7 == 0
  · exact ⟨_, _, _, rfl, d4, d6, c7⟩
  · obtain ⟨L8, s8, h8, d8, c8⟩ := l32Grow_ok d6 c7 2 (by omega)
    simp only [cond_true, h8, Option.bind_some]
    exact ⟨_, _, _, rfl, d4, d8, c8⟩
theorem set_ok {L : List Op} (hL : LogD L) (i : Nat) {y : Op} (hy : OpR y) : LogD (L.set i y) := ⟨by rw [List.length_set]; exact hL.1, fun x hx => (List.mem_or_eq_of_mem_set hx).elim (hL.2 x) fun e => e ▸ hy⟩
theorem l32Draw_ok {s : l01Source} (hs : SrcOk s) : ∃ L s', spec_l32Draw s = some (L, s') ∧ LogD L ∧ SrcOk s' := by
  unfold spec_l32Draw
  obtain ⟨a, b, s1, h1, da, db, c1⟩ := l32Two_ok hs
  obtain ⟨r, _, h2, hr⟩ := merge_eq a b (by have := da.1; omega) (by have := db.1; omega) da.2 db.2
  have hj : ∃ j, (bif (r.2 != 0) then some a else some r.1) = some j ∧ LogD j := by
    cases r.2 != 0
    · exact ⟨_, rfl, hr.log⟩
    · exact ⟨_, rfl, da⟩
  obtain ⟨j, h3, dj⟩ := hj
  obtain ⟨x4, s4, h4, a4, b4, c4⟩ := next_ok c1 3 (by omega)
  obtain ⟨L, s5, h5, dL, c5⟩ := l32Grow_ok dj c4 x4 (by omega)
  have hLl := dL.1
  have h6 : app' ([] : List Op) L = some L := by rw [app_ok (by simp; omega)]; rfl
  simp only [h1, h2, h3, h4, h5, h6, Option.bind_some]
  by_cases hp : (L.length : Int) > 0
  · obtain ⟨x7, s7, h7, a7, b7, c7⟩ := next_ok c5 (L.length : Int) (by omega)
    obtain ⟨x8, s8, h8, a8, b8, c8⟩ := next_ok c7 30 (by omega)
    obtain ⟨y, hy, hym⟩ := one_of L a7 (by omega) (by omega)
    have hyR := dL.2 y hym
    rw [decide_eq_true hp]
    simp only [cond_true, h7, h8, hy, Option.bind_some]
    cases x8 == 0
    · cases x8 == 1
      · cases x8 == 2
        · cases x8 == 3
          · cases x8 == 4
            · exact ⟨_, _, rfl, dL, c8⟩
            · obtain ⟨L9, s9, h9, d9, c9⟩ := l32Grow_ok dL c8 17 (by omega)
              simp only [cond_false, cond_true, h9, Option.bind_some]
              exact ⟨_, _, rfl, d9, c9⟩
          · obtain ⟨x9, s9, h9, m9, c9⟩ := pick_ok c8 (l := [0, 3, 4, -1]) (by simp) (by simp)
            simp only [cond_false, cond_true, h9, Option.bind_some]
            exact ⟨_, _, rfl, set_ok dL _ ⟨by simp at m9; dsimp only; omega, hyR.n, hyR.k, hyR.t, hyR.s, hyR.e⟩, c9⟩
        · simp only [cond_false, cond_true, Option.bind_some]
          exact ⟨_, _, rfl, set_ok dL _ ⟨hyR.o, hyR.n, hyR.k, hyR.t, by simp, fun v hv => by simp at hv; omega⟩, c8⟩
      · obtain ⟨t, s9, h9, ht, c9⟩ := drawWord_ok c8
        simp only [cond_false, cond_true, h9, Option.bind_some]
        exact ⟨_, _, rfl, set_ok dL _ ⟨hyR.o, hyR.n, by dsimp only; omega, hyR.t, hyR.s, hyR.e⟩, c9⟩
    · obtain ⟨x9, s9, h9, a9, b9, c9⟩ := next_ok c8 5 (by omega)
      simp only [cond_true, h9, Option.bind_some]
      exact ⟨_, _, rfl, set_ok dL _ ⟨hyR.o, by dsimp only; omega, hyR.k, hyR.t, hyR.s, hyR.e⟩, c9⟩
  · rw [decide_eq_false hp]
    exact ⟨_, _, rfl, dL, c5⟩
end Go.Proofs.YtbaainlnmackeaaGreatDoor.Sh
