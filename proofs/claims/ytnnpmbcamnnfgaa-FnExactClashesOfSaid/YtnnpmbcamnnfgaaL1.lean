/- The law FnExactScoreOf answers true, for every readable pair of slices. -/
import Derived.Test.YtnnpmbcamnnfgaaA6
namespace Go.Proofs.Ytnnpmbcamnnfgaa
open Go.RowKit
theorem eqLab_refl (L : List Label) : eqAll eqLab L L = true := eqAll_refl eqLab (fun x => by simp [eqLab]) L
theorem eqInt_refl (L : List Int) : eqAll (· == ·) L L = true := eqAll_refl _ (fun x => by simp) L
set_option maxHeartbeats 1000000 in
set_option maxRecDepth 100000 in
theorem lawScoreOf_any (A : Option Addr) (n c : Nat) (L : List Label) (A' : Option Addr) (n' c' : Nat) (M : List Int) (w : World) (hr : Rd w (lt w.heap.size) A n c L) (hr' : Rd w (lt w.heap.size) A' n' c' M) :
    Calls Try.prog 4 #[.slice A n c, .slice A' n' c'] w fun e w' => e = .returned (.bool true) ∧ ∃ X : Ext w, w' = X.W := by
  by_cases hn' : n' ≤ 1048576
  · by_cases hn : n ≤ 1048576
    · have hW := Below.refl w.heap.size w
      have hm : L.length ≤ maxLen := by have := hr.eq; simp [maxLen]; omega
      have e1 := eqLab_refl L
      have e2 := eqInt_refl M
      have hm' : M.length ≤ maxLen := by have := hr'.eq; simp [maxLen]; omega
      go_enter Try.func4, Try.ntmps4
      go_wp2_with (go_at_call 13; refine (szLabelS_ok _ _ _ _ _ (by omega) (by omega)).mono ?_; rintro e w' ⟨rfl, rfl⟩)
      refine (toLabelS_any _ _ _ L _ hr hn).mono ?_
      rintro e w1 ⟨v1, rfl, b1, g1, l1, rfl, hg1, B1, E1⟩
      have z1 := B1.lt
      have y1 := Nat.le_trans hW.size hg1
      replace hW := Below.ext hW hW.size ⟨_, b1⟩
      replace hr := hr.ext ⟨_, b1⟩
      replace hr' := hr'.ext ⟨_, b1⟩
      have R1 := B1.rdl E1 (by first | exact hm | assumption)
      go_wp2_with fail
      refine (toInt64S_any _ _ _ M _ hr' hn').mono ?_
      rintro e w2 ⟨v2, rfl, b2, g2, l2, rfl, hg2, B2, E2⟩
      have z2 := B2.lt
      have y2 := Nat.le_trans hW.size hg2
      replace hW := Below.ext hW hW.size ⟨_, b2⟩
      replace hr := hr.ext ⟨_, b2⟩
      replace hr' := hr'.ext ⟨_, b2⟩
      replace R1 := R1.ext ⟨_, b2⟩
      have R2 := B2.rdl E2 (by first | exact hm | assumption)
      go_wp2_with fail
      refine (specScoreOf_any _ _ _ _ _ _ L M _ R1 R2).mono ?_
      rintro e w' ⟨rfl, x3, rfl⟩
      replace hW := Below.ext hW hW.size x3
      replace hr := hr.ext x3
      replace hr' := hr'.ext x3
      go_wp2_with fail
      refine (toLabelS_any _ _ _ L _ hr hn).mono ?_
      rintro e w4 ⟨v4, rfl, b4, g4, l4, rfl, hg4, B4, E4⟩
      have z4 := B4.lt
      have y4 := Nat.le_trans hW.size hg4
      replace hW := Below.ext hW hW.size ⟨_, b4⟩
      replace hr := hr.ext ⟨_, b4⟩
      replace hr' := hr'.ext ⟨_, b4⟩
      have R4 := B4.rdl E4 (by first | exact hm | assumption)
      go_wp2_with fail
      refine (toInt64S_any _ _ _ M _ hr' hn').mono ?_
      rintro e w5 ⟨v5, rfl, b5, g5, l5, rfl, hg5, B5, E5⟩
      have z5 := B5.lt
      have y5 := Nat.le_trans hW.size hg5
      replace hW := Below.ext hW hW.size ⟨_, b5⟩
      replace hr := hr.ext ⟨_, b5⟩
      replace hr' := hr'.ext ⟨_, b5⟩
      replace R4 := R4.ext ⟨_, b5⟩
      have R5 := B5.rdl E5 (by first | exact hm | assumption)
      go_wp2_with fail
      refine (implScoreOf_any _ _ _ _ _ _ L M _ R4 R5).mono ?_
      rintro e w' ⟨rfl, x6, rfl⟩
      replace hW := Below.ext hW hW.size x6
      replace hr := hr.ext x6
      replace hr' := hr'.ext x6
      replace R4 := R4.ext x6
      replace R5 := R5.ext x6
      go_wp2_with fail
      refine (toLabelS_any _ _ _ L _ hr hn).mono ?_
      rintro e w7 ⟨v7, rfl, b7, g7, l7, rfl, hg7, B7, E7⟩
      have z7 := B7.lt
      have y7 := Nat.le_trans hW.size hg7
      replace hW := Below.ext hW hW.size ⟨_, b7⟩
      replace hr := hr.ext ⟨_, b7⟩
      replace hr' := hr'.ext ⟨_, b7⟩
      replace R4 := R4.ext ⟨_, b7⟩
      replace R5 := R5.ext ⟨_, b7⟩
      have R7 := B7.rdl E7 (by first | exact hm | assumption)
      go_wp2_with fail
      refine (eqLabelS_any _ _ _ _ _ _ L L _ R4 R7).mono ?_
      rintro e w' ⟨rfl, x8, rfl⟩
      replace hW := Below.ext hW hW.size x8
      replace hr := hr.ext x8
      replace hr' := hr'.ext x8
      replace R5 := R5.ext x8
      go_wp2_with fail
      refine (toInt64S_any _ _ _ M _ hr' hn').mono ?_
      rintro e w9 ⟨v9, rfl, b9, g9, l9, rfl, hg9, B9, E9⟩
      have z9 := B9.lt
      have y9 := Nat.le_trans hW.size hg9
      replace hW := Below.ext hW hW.size ⟨_, b9⟩
      replace hr := hr.ext ⟨_, b9⟩
      replace R5 := R5.ext ⟨_, b9⟩
      have R9 := B9.rdl E9 (by first | exact hm | assumption)
      go_wp2_with fail
      refine (eqInt64S_any _ _ _ _ _ _ M M _ R5 R9).mono ?_
      rintro e w' ⟨rfl, x10, rfl⟩
      replace hW := Below.ext hW hW.size x10
      go_wp2_with fail
      go_ret
      exact ⟨rfl, ext_mk hW⟩
    · go_enter Try.func4, Try.ntmps4
      go_wp2_with (go_at_call 13; refine (szLabelS_no _ _ _ _ _ (by have := hr.len; omega) (by omega) (by omega)).mono ?_; rintro e w' ⟨rfl, rfl⟩)
      go_ret
      exact ⟨rfl, ext_mk (Below.refl _ _)⟩
  · go_enter Try.func4, Try.ntmps4
    go_wp2_with fail
    have := hr'.len
    go_ret
    exact ⟨rfl, ext_mk (Below.refl _ _)⟩
end Go.Proofs.Ytnnpmbcamnnfgaa
