/- The law FnExactAllowedPositions answers true, for every readable slice and every number. -/
import Derived.Test.YtnnpmbcamnnfgaaA13
namespace Go.Proofs.Ytnnpmbcamnnfgaa
open Go.RowKit
theorem apList_len20 (L : List Label) (i : Int) : (apList L i).length ≤ 20 := by have := apList_len L i; omega
set_option maxHeartbeats 2000000 in
set_option maxRecDepth 100000 in
theorem lawAllowedPos_any (A : Option Addr) (n c : Nat) (L : List Label) (i : Int) (w : World) (hr : Rd w (lt w.heap.size) A n c L) :
    Calls Try.prog 5 #[.slice A n c, .int .i64 i] w fun e w' => e = .returned (.bool true) ∧ ∃ X : Ext w, w' = X.W := by
  by_cases hn : n ≤ 1048576
  · have hW := Below.refl w.heap.size w
    have hm : L.length ≤ maxLen := by have := hr.eq; simp [maxLen]; omega
    have hN : L.length ≤ 1048576 := by rw [hr.eq]; exact hn
    have e1 := eqLab_refl L
    have e2 := eqInt_refl (apList L i)
    have hlen := apList_len20 L i
    have hm2 : (apList L i).length ≤ maxLen := by simp [maxLen]; omega
    go_enter Try.func5, Try.ntmps5
    go_wp2_with (go_at_call 13; refine (szLabelS_ok _ _ _ _ _ (by omega) (by omega)).mono ?_; rintro e w' ⟨rfl, rfl⟩)
    refine (toLabelS_any _ _ _ L _ (hr.now hW hW.size) hn).mono ?_
    rintro e w1 ⟨v1, rfl, b1, g1, l1, rfl, hg1, B1, E1⟩
    have z1 := B1.lt
    have y1 := Nat.le_trans hW.size hg1
    replace hW := Below.ext hW hW.size ⟨_, b1⟩
    have R1 := B1.rdl E1 (by first | exact hm | assumption)
    go_wp2_with fail
    refine (specAllowedPos_any _ _ _ L i _ R1).mono ?_
    rintro e w2 ⟨v2, rfl, b2, a2⟩
    obtain ⟨A2, c2, rfl⟩ := a2.form
    have q2 := a2.lts
    replace hW := Below.ext hW hW.size ⟨_, b2⟩
    go_wp2_with fail
    refine (toLabelS_any _ _ _ L _ (hr.now hW hW.size) hn).mono ?_
    rintro e w3 ⟨v3, rfl, b3, g3, l3, rfl, hg3, B3, E3⟩
    have z3 := B3.lt
    have y3 := Nat.le_trans hW.size hg3
    replace hW := Below.ext hW hW.size ⟨_, b3⟩
    replace a2 := a2.ext ⟨_, b3⟩
    have R3 := B3.rdl E3 (by first | exact hm | assumption)
    go_wp2_with fail
    refine (implAllowedPos_any _ _ _ L i _ R3).mono ?_
    rintro e w4 ⟨v4, rfl, b4, a4⟩
    obtain ⟨A4, c4, rfl⟩ := a4.form
    have q4 := a4.lts
    replace hW := Below.ext hW hW.size ⟨_, b4⟩
    replace a2 := a2.ext ⟨_, b4⟩
    replace B3 := B3.ext ⟨_, b4⟩
    replace R3 := R3.ext ⟨_, b4⟩
    go_wp2_with fail
    refine (eqInt64S_any _ _ _ _ _ _ _ _ _ (a4.read (by decide) hm2) (a2.read (by decide) hm2)).mono ?_
    rintro e w' ⟨rfl, x5, rfl⟩
    replace hW := Below.ext hW hW.size x5
    replace a2 := a2.ext x5
    replace a4 := a4.ext x5
    replace B3 := B3.ext x5
    replace R3 := R3.ext x5
    go_wp2_with fail
    refine (toLabelS_any _ _ _ L _ (hr.now hW hW.size) hn).mono ?_
    rintro e w6 ⟨v6, rfl, b6, g6, l6, rfl, hg6, B6, E6⟩
    have z6 := B6.lt
    have y6 := Nat.le_trans hW.size hg6
    replace hW := Below.ext hW hW.size ⟨_, b6⟩
    replace a2 := a2.ext ⟨_, b6⟩
    replace a4 := a4.ext ⟨_, b6⟩
    replace B3 := B3.ext ⟨_, b6⟩
    replace R3 := R3.ext ⟨_, b6⟩
    have R6 := B6.rdl E6 (by first | exact hm | assumption)
    go_wp2_with fail
    refine (eqLabelS_any _ _ _ _ _ _ L L _ R3 R6).mono ?_
    rintro e w' ⟨rfl, x7, rfl⟩
    replace hW := Below.ext hW hW.size x7
    replace a2 := a2.ext x7
    replace a4 := a4.ext x7
    replace B3 := B3.ext x7
    go_wp2_with fail
    have y2 := hg3
    have o3 := B3.own (Nat.le_trans (Nat.le_refl _) y3) hm E3.length
    refine (markLabels _ _ _ 1 _ _ _ o3 (by omega) (by omega)).mono ?_
    rintro e w8 ⟨rfl, o8, gr8⟩
    replace a2 := a2.grown gr8 (own_old q2 hg3)
    replace a4 := a4.grown gr8 (own_new q4 z3)
    replace hW := hW.grown gr8 hW.size (fun k hk => by simp only [Value.ownBlock, Option.some.injEq] at hk; omega)
    have z8 := gr8.size
    go_wp2_with fail
    refine (eqInt64S_any _ _ _ _ _ _ _ _ _ (a4.read (by decide) hm2) (a2.read (by decide) hm2)).mono ?_
    rintro e w' ⟨rfl, x9, rfl⟩
    replace hW := Below.ext hW hW.size x9
    replace a2 := a2.ext x9
    replace a4 := a4.ext x9
    go_wp2_with fail
    obtain ⟨xs4, o4⟩ := a4.own
    refine (markInts _ _ _ 1 _ _ _ o4 (by omega) (by omega)).mono ?_
    rintro e w10 ⟨rfl, o10', gr10⟩
    have o10 : Owns _ _ _ _ _ _ _ := o10'
    replace a2 := a2.grown gr10 (own_two q2 q4 (by omega))
    replace hW := below_own hW gr10 q4 (by omega)
    go_wp2_with fail
    refine (heldInts _ _ _ 1 _ _ o10 (by omega) (by omega)).mono ?_
    rintro e w' ⟨rfl, x11, rfl⟩
    replace hW := Below.ext hW hW.size x11
    replace a2 := a2.ext x11
    replace o10 := o10.ext x11
    go_wp2_with fail
    refine (toLabelS_any _ _ _ L _ (hr.now hW hW.size) hn).mono ?_
    rintro e w12 ⟨v12, rfl, b12, g12, l12, rfl, hg12, B12, E12⟩
    have z12 := B12.lt
    have y12 := Nat.le_trans hW.size hg12
    replace hW := Below.ext hW hW.size ⟨_, b12⟩
    replace a2 := a2.ext ⟨_, b12⟩
    replace o10 := o10.ext ⟨_, b12⟩
    have R12 := B12.rdl E12 (by first | exact hm | assumption)
    go_wp2_with fail
    refine (implAllowedPos_any _ _ _ L i _ R12).mono ?_
    rintro e w13 ⟨v13, rfl, b13, a13⟩
    obtain ⟨A13, c13, rfl⟩ := a13.form
    have q13 := a13.lts
    replace hW := Below.ext hW hW.size ⟨_, b13⟩
    replace a2 := a2.ext ⟨_, b13⟩
    replace o10 := o10.ext ⟨_, b13⟩
    go_wp2_with fail
    refine (eqInt64S_any _ _ _ _ _ _ _ _ _ (a13.read (by decide) hm2) (a2.read (by decide) hm2)).mono ?_
    rintro e w' ⟨rfl, x14, rfl⟩
    replace hW := Below.ext hW hW.size x14
    replace o10 := o10.ext x14
    go_wp2_with fail
    refine (heldInts _ _ _ 1 _ _ o10 (by omega) (by omega)).mono ?_
    rintro e w' ⟨rfl, x15, rfl⟩
    replace hW := Below.ext hW hW.size x15
    go_wp2_with fail
    go_ret
    exact ⟨rfl, ext_mk hW⟩
  · go_enter Try.func5, Try.ntmps5
    go_wp2_with (go_at_call 13; refine (szLabelS_no _ _ _ _ _ (by have := hr.len; omega) (by omega) (by omega)).mono ?_; rintro e w' ⟨rfl, rfl⟩)
    go_ret
    exact ⟨rfl, ext_mk (Below.refl _ _)⟩
end Go.Proofs.Ytnnpmbcamnnfgaa
