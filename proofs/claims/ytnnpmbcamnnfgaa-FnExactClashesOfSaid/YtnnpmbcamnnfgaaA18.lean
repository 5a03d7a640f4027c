/- IsClear of the reference agrees with the program's, and the law FnExactIsClear answers true, for every readable pair of slices. -/
import Derived.Test.YtnnpmbcamnnfgaaA17
namespace Go.Proofs.Ytnnpmbcamnnfgaa
open Go.RowKit
theorem Good.lab {L : List Label} {P : List Int} (h : Good L P) {i : Nat} (hi : i < L.length) : okL (lab L i) := by
  have := List.getElem?_eq_getElem hi
  rw [lab_of this]
  exact okL_of h.labels this
theorem Good.pl {L : List Label} {P : List Int} (h : Good L P) (i : Nat) : 0 ≤ pl P i ∧ pl P i ≤ 4 := by
  rcases hp : P[i]? with _ | p
  · rw [Go.Proofs.Ytnnpmbcamnnfgaa.pl, hp]; simp
  · rw [pl_of hp]; exact h.pos i p hp
theorem fitsAll_eq {L : List Label} {P : List Int} (h : Good L P) {n : Nat} (hn : n = L.length) : ((List.range n).all fun i => fits L P n i (pl P i)) = clearTo L P n := by
  subst hn
  rw [Bool.eq_iff_iff]
  simp only [clearTo, clearAt, fits, List.all_eq_true, List.mem_range, Bool.and_eq_true, Bool.or_eq_true, decide_eq_true_eq, Bool.not_eq_true']
  constructor
  · intro hf i hi
    refine ⟨(hf i hi).1, fun k hk => ?_⟩
    rcases (hf i hi).2 k (by omega) with e | e
    · omega
    · rw [clash_comm (h.lab hi) (h.lab (by omega)) (h.pl i).1 (h.pl i).2 (h.pl k).1 (h.pl k).2]; exact e
  · intro hf i hi
    refine ⟨(hf i hi).1, fun k hk => ?_⟩
    by_cases e : k = i
    · exact .inl e
    · refine .inr ?_
      by_cases e2 : k < i
      · rw [clash_comm (h.lab hk) (h.lab hi) (h.pl k).1 (h.pl k).2 (h.pl i).1 (h.pl i).2]; exact (hf i hi).2 k e2
      · exact (hf k hk).2 i (by omega)
set_option maxHeartbeats 2000000 in
set_option maxRecDepth 100000 in
theorem specIsClear_any (A A' : Option Addr) (n c n' c' : Nat) (L : List Label) (M : List Int) (w : World) (hr : Rd w (lt w.heap.size) A n c L) (hr' : Rd w (lt w.heap.size) A' n' c' M) :
    Calls Try.prog 37 #[.slice A n c, .slice A' n' c'] w fun e w' => e = .returned (.tuple #[.bool (icOf L M), .int .i64 (plCode L M)]) ∧ ∃ X : Ext w, w' = X.W := by
  have hL := hr.len
  by_cases hp : plCode L M = 0
  · have hg := good_of hp
    obtain rfl : n' = n := by rw [← hr.eq, ← hr'.eq, (plCode_inv hp).2.1]
    have hs : icOf L M = (List.range n').all fun i => fits L M n' i (pl M i) := by rw [fitsAll_eq hg hr.eq.symm, icOf, if_pos hp, hr.eq]
    have Hp := Lib.hid hp
    have Hs := Lib.hid hs
    have e1 : (plCode L M != 0) = false := by simp [hp]
    clear hp hs
    go_enter Try.func37, Try.ntmps37
    go_wp2_with (first | (go_at_call 58; refine (specPlacement_any _ _ _ _ _ _ L M _ hr hr').mono ?_; rintro e w' ⟨rfl, x1, rfl⟩; have sx1 := Ext.size x1; try simp at sx1))
    go_loopw [7] (fun ii wr => Below w.heap.size w wr ∧ ∃ k : Nat, k ≤ n' ∧ ii = .int .i64 k ∧ Hid (((List.range k).all fun i => fits L M n' i (pl M i)) = true)) (fun ii _ => n' - (intOf ii).toNat)
    case atStart => exact ⟨by (repeat' (first | (with_reducible exact Below.refl _ _) | (with_reducible assumption) | (with_reducible refine Below.setCell ?_ ?_ _) | (with_reducible refine Below.alloc ?_ ?_ _) | (with_reducible refine Below.ext ?_ ?_ _) | omega | (simp; done) | (simp; omega) | (with_reducible refine Below.drew ?_))), 0, Nat.zero_le _, rfl, by simp [Hid]⟩
    case round =>
      obtain ⟨hbw, k, hk, rfl, H⟩ := hrel
      obtain ⟨X, rfl⟩ := ext_of hbw
      have sX := X.size
      by_cases hlt : k < n'
      · obtain ⟨p, hq⟩ := hr'.get hlt
        obtain ⟨p0, p4⟩ := hg.pos k p hq
        have hc := fits_any A A' n' c n' c' L M k p X.W (hr.now hbw hbw.size) (hr'.now hbw hbw.size) hg hlt (Nat.le_refl _) p0 p4
        have ep := pl_of hq
        obtain ⟨b3, o3, rfl, hb3, f0⟩ := hr'.at_int hq
        simp only [lt] at hb3
        rcases Bool.eq_false_or_eq_true (fits L M n' k p) with t1 | t1
        · rw [t1] at hc
          have HC := Lib.hid hc
          have h2 : ((List.range (k + 1)).all fun i => fits L M n' i (pl M i)) = true := by rw [all_range_succ, H.out, ep, t1]; rfl
          have H2 := Lib.hid h2
          clear hc t1 hq ep h2
          go_wp2_with (go_at_call 73; refine (HC.out).mono ?_; rintro e w' ⟨rfl, x3, rfl⟩; have sx3 := Ext.size x3; try simp at sx3)
          refine ⟨⟨by (repeat' (first | (with_reducible exact Below.refl _ _) | (with_reducible assumption) | (with_reducible refine Below.setCell ?_ ?_ _) | (with_reducible refine Below.alloc ?_ ?_ _) | (with_reducible refine Below.ext ?_ ?_ _) | omega | (simp; done) | (simp; omega) | (with_reducible refine Below.drew ?_))), k + 1, by omega, by go_num, H2⟩, by simp [intOf]; omega⟩
        · rw [t1] at hc
          have HC := Lib.hid hc
          have h2 : ((List.range n').all fun i => fits L M n' i (pl M i)) = false := by
            rw [Bool.eq_false_iff]; intro h; have := (List.all_eq_true.1 h) k (List.mem_range.2 hlt); rw [ep, t1] at this; cases this
          have H2 := Lib.hid h2
          clear hc t1 hq ep h2
          go_wp2_with (go_at_call 73; refine (HC.out).mono ?_; rintro e w' ⟨rfl, x3, rfl⟩; have sx3 := Ext.size x3; try simp at sx3)
          go_ret2
          refine ⟨by rw [Hs.out, H2.out, Hp.out]; rfl, ext_mk ?_⟩
          (repeat' (first | (with_reducible exact Below.refl _ _) | (with_reducible assumption) | (with_reducible refine Below.setCell ?_ ?_ _) | (with_reducible refine Below.alloc ?_ ?_ _) | (with_reducible refine Below.ext ?_ ?_ _) | omega | (simp; done) | (simp; omega) | (with_reducible refine Below.drew ?_)))
      · go_wp2
        go_ret2
        refine ⟨by (have e : k = n' := (by omega)); subst e; rw [Hs.out, H.out, Hp.out]; rfl, ext_mk ?_⟩
        (repeat' (first | (with_reducible exact Below.refl _ _) | (with_reducible assumption) | (with_reducible refine Below.setCell ?_ ?_ _) | (with_reducible refine Below.alloc ?_ ?_ _) | (with_reducible refine Below.ext ?_ ?_ _) | omega | (simp; done) | (simp; omega) | (with_reducible refine Below.drew ?_)))
  · have hs : icOf L M = false := if_neg hp
    have Hs := Lib.hid hs
    have e1 : (plCode L M != 0) = true := by simp [hp]
    clear hs
    go_enter Try.func37, Try.ntmps37
    go_wp2_with (first | (go_at_call 58; refine (specPlacement_any _ _ _ _ _ _ L M _ hr hr').mono ?_; rintro e w' ⟨rfl, x1, rfl⟩; have sx1 := Ext.size x1; try simp at sx1))
    go_ret2
    refine ⟨by simp only [Hs.out]; rfl, ext_mk ?_⟩
    (repeat' (first | (with_reducible exact Below.refl _ _) | (with_reducible assumption) | (with_reducible refine Below.setCell ?_ ?_ _) | (with_reducible refine Below.alloc ?_ ?_ _) | (with_reducible refine Below.ext ?_ ?_ _) | omega | (simp; done) | (simp; omega) | (with_reducible refine Below.drew ?_)))
set_option maxHeartbeats 1000000 in
set_option maxRecDepth 100000 in
theorem lawIsClear_any (A : Option Addr) (n c : Nat) (L : List Label) (A' : Option Addr) (n' c' : Nat) (M : List Int) (w : World) (hr : Rd w (lt w.heap.size) A n c L) (hr' : Rd w (lt w.heap.size) A' n' c' M) :
    Calls Try.prog 8 #[.slice A n c, .slice A' n' c'] w fun e w' => e = .returned (.bool true) ∧ ∃ X : Ext w, w' = X.W := by
  by_cases hn' : n' ≤ 1048576
  · by_cases hn : n ≤ 1048576
    · have hW := Below.refl w.heap.size w
      have hm : L.length ≤ maxLen := by have := hr.eq; simp [maxLen]; omega
      have e1 := eqLab_refl L
      have e2 := eqInt_refl M
      have hm' : M.length ≤ maxLen := by have := hr'.eq; simp [maxLen]; omega
      go_enter Try.func8, Try.ntmps8
      go_wp2_with (go_at_call 13; refine (szLabelS_ok _ _ _ _ _ (by omega) (by omega)).mono ?_; rintro e w' ⟨rfl, rfl⟩)
      refine (toLabelS_any _ _ _ L _ hr hn).mono ?_
      rintro e w1 ⟨v1, rfl, b1, g1, l1, rfl, hg1, B1, E1⟩
      have z1 := B1.lt
      have y1 := Nat.le_trans hW.size hg1
      replace hW := Below.ext hW hW.size ⟨_, b1⟩
      replace hr := hr.ext ⟨_, b1⟩
      replace hr' := hr'.ext ⟨_, b1⟩
      have R1 := B1.rdl E1 (by first | exact hm | assumption)
      go_wp2_with fail
      refine (toInt64S_any _ _ _ M _ hr' hn').mono ?_
      rintro e w2 ⟨v2, rfl, b2, g2, l2, rfl, hg2, B2, E2⟩
      have z2 := B2.lt
      have y2 := Nat.le_trans hW.size hg2
      replace hW := Below.ext hW hW.size ⟨_, b2⟩
      replace hr := hr.ext ⟨_, b2⟩
      replace hr' := hr'.ext ⟨_, b2⟩
      replace R1 := R1.ext ⟨_, b2⟩
      have R2 := B2.rdl E2 (by first | exact hm | assumption)
      go_wp2_with fail
      refine (specIsClear_any _ _ _ _ _ _ L M _ R1 R2).mono ?_
      rintro e w' ⟨rfl, x3, rfl⟩
      replace hW := Below.ext hW hW.size x3
      replace hr := hr.ext x3
      replace hr' := hr'.ext x3
      go_wp2_with fail
      refine (toLabelS_any _ _ _ L _ hr hn).mono ?_
      rintro e w4 ⟨v4, rfl, b4, g4, l4, rfl, hg4, B4, E4⟩
      have z4 := B4.lt
      have y4 := Nat.le_trans hW.size hg4
      replace hW := Below.ext hW hW.size ⟨_, b4⟩
      replace hr := hr.ext ⟨_, b4⟩
      replace hr' := hr'.ext ⟨_, b4⟩
      have R4 := B4.rdl E4 (by first | exact hm | assumption)
      go_wp2_with fail
      refine (toInt64S_any _ _ _ M _ hr' hn').mono ?_
      rintro e w5 ⟨v5, rfl, b5, g5, l5, rfl, hg5, B5, E5⟩
      have z5 := B5.lt
      have y5 := Nat.le_trans hW.size hg5
      replace hW := Below.ext hW hW.size ⟨_, b5⟩
      replace hr := hr.ext ⟨_, b5⟩
      replace hr' := hr'.ext ⟨_, b5⟩
      replace R4 := R4.ext ⟨_, b5⟩
      have R5 := B5.rdl E5 (by first | exact hm | assumption)
      go_wp2_with fail
      refine (implIsClear_any _ _ _ _ _ _ L M _ R4 R5).mono ?_
      rintro e w' ⟨rfl, x6, rfl⟩
      replace hW := Below.ext hW hW.size x6
      replace hr := hr.ext x6
      replace hr' := hr'.ext x6
      replace R4 := R4.ext x6
      replace R5 := R5.ext x6
      go_wp2_with fail
      refine (toLabelS_any _ _ _ L _ hr hn).mono ?_
      rintro e w7 ⟨v7, rfl, b7, g7, l7, rfl, hg7, B7, E7⟩
      have z7 := B7.lt
      have y7 := Nat.le_trans hW.size hg7
      replace hW := Below.ext hW hW.size ⟨_, b7⟩
      replace hr := hr.ext ⟨_, b7⟩
      replace hr' := hr'.ext ⟨_, b7⟩
      replace R4 := R4.ext ⟨_, b7⟩
      replace R5 := R5.ext ⟨_, b7⟩
      have R7 := B7.rdl E7 (by first | exact hm | assumption)
      go_wp2_with fail
      refine (eqLabelS_any _ _ _ _ _ _ L L _ R4 R7).mono ?_
      rintro e w' ⟨rfl, x8, rfl⟩
      replace hW := Below.ext hW hW.size x8
      replace hr := hr.ext x8
      replace hr' := hr'.ext x8
      replace R5 := R5.ext x8
      go_wp2_with fail
      refine (toInt64S_any _ _ _ M _ hr' hn').mono ?_
      rintro e w9 ⟨v9, rfl, b9, g9, l9, rfl, hg9, B9, E9⟩
      have z9 := B9.lt
      have y9 := Nat.le_trans hW.size hg9
      replace hW := Below.ext hW hW.size ⟨_, b9⟩
      replace hr := hr.ext ⟨_, b9⟩
      replace R5 := R5.ext ⟨_, b9⟩
      have R9 := B9.rdl E9 (by first | exact hm | assumption)
      go_wp2_with fail
      refine (eqInt64S_any _ _ _ _ _ _ M M _ R5 R9).mono ?_
      rintro e w' ⟨rfl, x10, rfl⟩
      replace hW := Below.ext hW hW.size x10
      go_wp2_with fail
      go_ret
      exact ⟨rfl, ext_mk hW⟩
    · go_enter Try.func8, Try.ntmps8
      go_wp2_with (go_at_call 13; refine (szLabelS_no _ _ _ _ _ (by have := hr.len; omega) (by omega) (by omega)).mono ?_; rintro e w' ⟨rfl, rfl⟩)
      go_ret
      exact ⟨rfl, ext_mk (Below.refl _ _)⟩
  · go_enter Try.func8, Try.ntmps8
    go_wp2_with fail
    have := hr'.len
    go_ret
    exact ⟨rfl, ext_mk (Below.refl _ _)⟩
end Go.Proofs.Ytnnpmbcamnnfgaa
