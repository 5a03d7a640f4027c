/- The law FnExactCoveredBy answers true, for every readable slice and all numbers. -/
import Derived.Test.YtnnpmbcamnnfgaaA11
import Derived.Test.YtnnpmbcamnnfgaaM1
import Derived.Test.YtnnpmbcamnnfgaaL1
namespace Go.Proofs.Ytnnpmbcamnnfgaa
open Go.RowKit
set_option maxHeartbeats 1000000 in
set_option maxRecDepth 100000 in
theorem eqPointS_any (A A' : Option Addr) (n c n' c' : Nat) (L M : List Point) (w : World) (hr : Rd w (lt w.heap.size) A n c L) (hr' : Rd w (lt w.heap.size) A' n' c' M) :
    Calls Try.prog 29 #[.slice A n c, .slice A' n' c'] w fun e w' => e = .returned (.bool (eqAll (fun a b => eqXY a.X a.Y b.X b.Y) L M)) ∧ ∃ X : Ext w, w' = X.W := by
  have hL := hr.len
  have hL' := hr'.len
  by_cases hne : n = n'
  · subst hne
    go_enter Try.func29, Try.ntmps29
    go_wp2
    go_loopw [5] (fun i wr => Below w.heap.size w wr ∧ ∃ k : Nat, k ≤ n ∧ i = .int .i64 k ∧ Hid (eqAll (fun a b => eqXY a.X a.Y b.X b.Y) (L.drop k) (M.drop k) = eqAll (fun a b => eqXY a.X a.Y b.X b.Y) L M)) (fun i _ => n - (intOf i).toNat)
    case atStart => exact ⟨by (repeat' (first | (with_reducible exact Below.refl _ _) | (with_reducible assumption) | (with_reducible refine Below.setCell ?_ ?_ _) | (with_reducible refine Below.alloc ?_ ?_ _) | (with_reducible refine Below.ext ?_ ?_ _) | omega | (simp; done) | (simp; omega) | (with_reducible refine Below.drew ?_))), 0, Nat.zero_le _, rfl, by simp [Hid]⟩
    case round =>
      obtain ⟨hbw, k, hk, rfl, H⟩ := hrel
      obtain ⟨X, rfl⟩ := ext_of hbw
      have sX := X.size
      by_cases hlt : k < n
      · obtain ⟨x, hx⟩ := Rd.get hr hlt
        obtain ⟨bbx, oox, rfl, hbx, c0, c1⟩ := Rd.at_Point hr hx
        have Hx := Lib.hid hx
        clear hx
        simp only [lt] at hbx
        obtain ⟨y, hy⟩ := Rd.get hr' hlt
        obtain ⟨bby, ooy, rfl, hby, d0, d1⟩ := Rd.at_Point hr' hy
        have Hy := Lib.hid hy
        clear hy
        simp only [lt] at hby
        go_wp2
        refine wp_region_ext (by kernel_rfl) (by kernel_rfl) ?_
        repeat (go_big_quiet_step ((go_at_call 68; exact calls_ext (eqPoint_any _ _ _ _ _))))
        refine wpQuiet_nil ?_
        intro x2
        have s2 := x2.size
        go_wp2
        · go_ret
          refine ⟨ret_bool (by rw [← H.out, drop_of Hx.out, drop_of Hy.out, eqAll]; simp_all), ext_mk ?_⟩
          (repeat' (first | (with_reducible exact Below.refl _ _) | (with_reducible assumption) | (with_reducible refine Below.setCell ?_ ?_ _) | (with_reducible refine Below.alloc ?_ ?_ _) | (with_reducible refine Below.ext ?_ ?_ _) | omega | (simp; done) | (simp; omega) | (with_reducible refine Below.drew ?_)))
        · refine ⟨⟨by (repeat' (first | (with_reducible exact Below.refl _ _) | (with_reducible assumption) | (with_reducible refine Below.setCell ?_ ?_ _) | (with_reducible refine Below.alloc ?_ ?_ _) | (with_reducible refine Below.ext ?_ ?_ _) | omega | (simp; done) | (simp; omega) | (with_reducible refine Below.drew ?_))), k + 1, by omega, by go_num, by have h := H.out; rw [drop_of Hx.out, drop_of Hy.out, eqAll] at h; rw [← h]; simp_all [Hid]⟩, by simp [intOf]; omega⟩
      · go_wp2
        go_ret
        refine ⟨ret_bool (by have h := H.out; rw [List.drop_eq_nil_of_le (by have := hr.eq; omega), List.drop_eq_nil_of_le (by have := hr'.eq; omega)] at h; rw [← h]; rfl), ext_mk ?_⟩
        (repeat' (first | (with_reducible exact Below.refl _ _) | (with_reducible assumption) | (with_reducible refine Below.setCell ?_ ?_ _) | (with_reducible refine Below.alloc ?_ ?_ _) | (with_reducible refine Below.ext ?_ ?_ _) | omega | (simp; done) | (simp; omega) | (with_reducible refine Below.drew ?_)))
  · have hb1 : ((n : Int) != n') = true := by simp; omega
    go_enter Try.func29, Try.ntmps29
    go_wp2
    go_ret
    refine ⟨ret_bool (by rw [eqAll_ne _ _ _ (by rw [hr.eq, hr'.eq]; exact hne)]), ext_mk ?_⟩
    (repeat' (first | (with_reducible exact Below.refl _ _) | (with_reducible assumption) | (with_reducible refine Below.setCell ?_ ?_ _) | (with_reducible refine Below.alloc ?_ ?_ _) | (with_reducible refine Below.ext ?_ ?_ _) | omega | (simp; done) | (simp; omega) | (with_reducible refine Below.drew ?_)))
theorem eqPts_refl (L : List Point) : eqAll (fun a b => eqXY a.X a.Y b.X b.Y) L L = true := eqAll_refl _ (fun x => by simp [eqXY]) L
theorem covAt_len {L : List Label} {i p : Int} (h : areLabels L = true) : (covAt L i p).length ≤ 20 := by
  unfold covAt
  split
  · exact cov_len (okL_of h (by assumption)) p
  · simp
theorem cbPts_len (L : List Label) (i p : Int) : (cbPts L i p).length ≤ 20 := by
  unfold cbPts
  split
  · rename_i h
    by_cases h1 : lbCode L i = 0
    · exact covAt_len (lbCode_inv h1).1
    · rw [cbCode, if_neg h1] at h; exact absurd h h1
  · simp

set_option maxHeartbeats 2000000 in
set_option maxRecDepth 100000 in
theorem lawCoveredBy_any (A : Option Addr) (n c : Nat) (L : List Label) (i p : Int) (w : World) (hr : Rd w (lt w.heap.size) A n c L) :
    Calls Try.prog 6 #[.slice A n c, .int .i64 i, .int .i64 p] w fun e w' => e = .returned (.bool true) ∧ ∃ X : Ext w, w' = X.W := by
  by_cases hn : n ≤ 1048576
  · have hW := Below.refl w.heap.size w
    have hm : L.length ≤ maxLen := by have := hr.eq; simp [maxLen]; omega
    have hN : L.length ≤ 1048576 := by rw [hr.eq]; exact hn
    have e1 := eqLab_refl L
    have e2 := eqPts_refl (cbPts L i p)
    have hlen := cbPts_len L i p
    have hm2 : (cbPts L i p).length ≤ maxLen := by simp [maxLen]; omega
    go_enter Try.func6, Try.ntmps6
    go_wp2_with (go_at_call 13; refine (szLabelS_ok _ _ _ _ _ (by omega) (by omega)).mono ?_; rintro e w' ⟨rfl, rfl⟩)
    refine (toLabelS_any _ _ _ L _ (hr.now hW hW.size) hn).mono ?_
    rintro e w1 ⟨v1, rfl, b1, g1, l1, rfl, hg1, B1, E1⟩
    have z1 := B1.lt
    have y1 := Nat.le_trans hW.size hg1
    replace hW := Below.ext hW hW.size ⟨_, b1⟩
    have R1 := B1.rdl E1 (by first | exact hm | assumption)
    go_wp2_with fail
    refine (specCoveredBy_any _ _ _ L i p _ R1).mono ?_
    rintro e w2 ⟨v2, rfl, b2, a2⟩
    obtain ⟨A2, c2, rfl⟩ := a2.form
    have q2 := a2.lts
    replace hW := Below.ext hW hW.size ⟨_, b2⟩
    go_wp2_with fail
    refine (toLabelS_any _ _ _ L _ (hr.now hW hW.size) hn).mono ?_
    rintro e w3 ⟨v3, rfl, b3, g3, l3, rfl, hg3, B3, E3⟩
    have z3 := B3.lt
    have y3 := Nat.le_trans hW.size hg3
    replace hW := Below.ext hW hW.size ⟨_, b3⟩
    replace a2 := a2.ext ⟨_, b3⟩
    have R3 := B3.rdl E3 (by first | exact hm | assumption)
    go_wp2_with fail
    refine (implCoveredBy_any _ _ _ L i p _ R3).mono ?_
    rintro e w4 ⟨v4, rfl, b4, a4⟩
    obtain ⟨A4, c4, rfl⟩ := a4.form
    have q4 := a4.lts
    replace hW := Below.ext hW hW.size ⟨_, b4⟩
    replace a2 := a2.ext ⟨_, b4⟩
    replace B3 := B3.ext ⟨_, b4⟩
    replace R3 := R3.ext ⟨_, b4⟩
    go_wp2_with fail
    refine (eqPointS_any _ _ _ _ _ _ _ _ _ (a4.read (by decide) hm2) (a2.read (by decide) hm2)).mono ?_
    rintro e w' ⟨rfl, x5, rfl⟩
    replace hW := Below.ext hW hW.size x5
    replace a2 := a2.ext x5
    replace a4 := a4.ext x5
    replace B3 := B3.ext x5
    replace R3 := R3.ext x5
    go_wp2_with fail
    refine (toLabelS_any _ _ _ L _ (hr.now hW hW.size) hn).mono ?_
    rintro e w6 ⟨v6, rfl, b6, g6, l6, rfl, hg6, B6, E6⟩
    have z6 := B6.lt
    have y6 := Nat.le_trans hW.size hg6
    replace hW := Below.ext hW hW.size ⟨_, b6⟩
    replace a2 := a2.ext ⟨_, b6⟩
    replace a4 := a4.ext ⟨_, b6⟩
    replace B3 := B3.ext ⟨_, b6⟩
    replace R3 := R3.ext ⟨_, b6⟩
    have R6 := B6.rdl E6 (by first | exact hm | assumption)
    go_wp2_with fail
    refine (eqLabelS_any _ _ _ _ _ _ L L _ R3 R6).mono ?_
    rintro e w' ⟨rfl, x7, rfl⟩
    replace hW := Below.ext hW hW.size x7
    replace a2 := a2.ext x7
    replace a4 := a4.ext x7
    replace B3 := B3.ext x7
    go_wp2_with fail
    have y2 := hg3
    have o3 := B3.own (Nat.le_trans (Nat.le_refl _) y3) hm E3.length
    refine (markLabels _ _ _ 1 _ _ _ o3 (by omega) (by omega)).mono ?_
    rintro e w8 ⟨rfl, o8, gr8⟩
    replace a2 := a2.grown gr8 (own_old q2 hg3)
    replace a4 := a4.grown gr8 (own_new q4 z3)
    replace hW := hW.grown gr8 hW.size (fun k hk => by simp only [Value.ownBlock, Option.some.injEq] at hk; omega)
    have z8 := gr8.size
    go_wp2_with fail
    refine (eqPointS_any _ _ _ _ _ _ _ _ _ (a4.read (by decide) hm2) (a2.read (by decide) hm2)).mono ?_
    rintro e w' ⟨rfl, x9, rfl⟩
    replace hW := Below.ext hW hW.size x9
    replace a2 := a2.ext x9
    replace a4 := a4.ext x9
    go_wp2_with fail
    obtain ⟨xs4, o4⟩ := a4.own
    refine (markPoints _ _ _ 1 _ _ _ o4 (by omega) (by omega)).mono ?_
    rintro e w10 ⟨rfl, o10', gr10⟩
    have o10 : Owns _ _ _ _ _ _ _ := o10'
    replace a2 := a2.grown gr10 (own_two q2 q4 (by omega))
    replace hW := below_own hW gr10 q4 (by omega)
    go_wp2_with fail
    refine (heldPoints _ _ _ 1 _ _ o10 (by omega) (by omega)).mono ?_
    rintro e w' ⟨rfl, x11, rfl⟩
    replace hW := Below.ext hW hW.size x11
    replace a2 := a2.ext x11
    replace o10 := o10.ext x11
    go_wp2_with fail
    refine (toLabelS_any _ _ _ L _ (hr.now hW hW.size) hn).mono ?_
    rintro e w12 ⟨v12, rfl, b12, g12, l12, rfl, hg12, B12, E12⟩
    have z12 := B12.lt
    have y12 := Nat.le_trans hW.size hg12
    replace hW := Below.ext hW hW.size ⟨_, b12⟩
    replace a2 := a2.ext ⟨_, b12⟩
    replace o10 := o10.ext ⟨_, b12⟩
    have R12 := B12.rdl E12 (by first | exact hm | assumption)
    go_wp2_with fail
    refine (implCoveredBy_any _ _ _ L i p _ R12).mono ?_
    rintro e w13 ⟨v13, rfl, b13, a13⟩
    obtain ⟨A13, c13, rfl⟩ := a13.form
    have q13 := a13.lts
    replace hW := Below.ext hW hW.size ⟨_, b13⟩
    replace a2 := a2.ext ⟨_, b13⟩
    replace o10 := o10.ext ⟨_, b13⟩
    go_wp2_with fail
    refine (eqPointS_any _ _ _ _ _ _ _ _ _ (a13.read (by decide) hm2) (a2.read (by decide) hm2)).mono ?_
    rintro e w' ⟨rfl, x14, rfl⟩
    replace hW := Below.ext hW hW.size x14
    replace o10 := o10.ext x14
    go_wp2_with fail
    refine (heldPoints _ _ _ 1 _ _ o10 (by omega) (by omega)).mono ?_
    rintro e w' ⟨rfl, x15, rfl⟩
    replace hW := Below.ext hW hW.size x15
    go_wp2_with fail
    go_ret
    exact ⟨rfl, ext_mk hW⟩
  · go_enter Try.func6, Try.ntmps6
    go_wp2_with (go_at_call 13; refine (szLabelS_no _ _ _ _ _ (by have := hr.len; omega) (by omega) (by omega)).mono ?_; rintro e w' ⟨rfl, rfl⟩)
    go_ret
    exact ⟨rfl, ext_mk (Below.refl _ _)⟩
end Go.Proofs.Ytnnpmbcamnnfgaa
