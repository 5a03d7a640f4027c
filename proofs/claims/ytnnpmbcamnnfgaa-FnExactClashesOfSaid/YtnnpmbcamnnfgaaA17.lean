/- isClear and IsClear of the program, l33Fits and IsClear of the reference, tell whether a placement is clear. -/
import Derived.Test.YtnnpmbcamnnfgaaA16
namespace Go.Proofs.Ytnnpmbcamnnfgaa
open Go.RowKit
set_option maxHeartbeats 2000000 in
set_option maxRecDepth 100000 in
theorem isClear_any (A A' : Option Addr) (n c n' c' : Nat) (L : List Label) (P : List Int) (w : World) (hr : Rd w (lt w.heap.size) A n c L) (hr' : Rd w (lt w.heap.size) A' n' c' P) (hg : Good L P) (hn : n ≤ n') :
    Calls Try.prog 74 #[.slice A n c, .slice A' n' c'] w fun e w' => e = .returned (.bool (clearTo L P n)) ∧ ∃ X : Ext w, w' = X.W := by
  have hL := hr.len
  go_enter Try.func74, Try.ntmps74
  go_wp2
  go_loopw [8] (fun ii wr => Below w.heap.size w wr ∧ ∃ k : Nat, k ≤ n ∧ ii = .int .i64 k ∧ Hid (clearTo L P k = true)) (fun ii _ => n - (intOf ii).toNat)
  case atStart => exact ⟨by (repeat' (first | (with_reducible exact Below.refl _ _) | (with_reducible assumption) | (with_reducible refine Below.setCell ?_ ?_ _) | (with_reducible refine Below.alloc ?_ ?_ _) | (with_reducible refine Below.ext ?_ ?_ _) | omega | (simp; done) | (simp; omega) | (with_reducible refine Below.drew ?_))), 0, Nat.zero_le _, rfl, by simp [Hid, clearTo]⟩
  case round =>
    obtain ⟨hbw, k, hk, rfl, H⟩ := hrel
    obtain ⟨X, rfl⟩ := ext_of hbw
    have sX := X.size
    by_cases hlt : k < n
    · have hc := isClearAt_any A A' n c n' c' L P k X.W (hr.now hbw hbw.size) (hr'.now hbw hbw.size) hg hlt hn
      rcases Bool.eq_false_or_eq_true (clearAt L P k) with t1 | t1
      · rw [t1] at hc
        have HC := Lib.hid hc
        have T1 := Lib.hid t1
        clear hc t1
        go_wp2_with (go_at_call 81; refine (HC.out).mono ?_; rintro e w' ⟨rfl, x1, rfl⟩; have sx1 := Ext.size x1; try simp at sx1)
        refine ⟨⟨by (repeat' (first | (with_reducible exact Below.refl _ _) | (with_reducible assumption) | (with_reducible refine Below.setCell ?_ ?_ _) | (with_reducible refine Below.alloc ?_ ?_ _) | (with_reducible refine Below.ext ?_ ?_ _) | omega | (simp; done) | (simp; omega) | (with_reducible refine Below.drew ?_))), k + 1, by omega, by go_num, by have h := H.out; unfold clearTo at h ⊢; rw [Hid, all_range_succ, h, T1.out]; rfl⟩, by simp [intOf]; omega⟩
      · rw [t1] at hc
        have HC := Lib.hid hc
        have T1 := Lib.hid t1
        clear hc t1
        go_wp2_with (go_at_call 81; refine (HC.out).mono ?_; rintro e w' ⟨rfl, x1, rfl⟩; have sx1 := Ext.size x1; try simp at sx1)
        go_ret
        refine ⟨ret_bool (by rw [Eq.comm, Bool.eq_false_iff]; intro h; have := (List.all_eq_true.1 h) k (List.mem_range.2 hlt); rw [T1.out] at this; cases this), ext_mk ?_⟩
        (repeat' (first | (with_reducible exact Below.refl _ _) | (with_reducible assumption) | (with_reducible refine Below.setCell ?_ ?_ _) | (with_reducible refine Below.alloc ?_ ?_ _) | (with_reducible refine Below.ext ?_ ?_ _) | omega | (simp; done) | (simp; omega) | (with_reducible refine Below.drew ?_)))
    · go_wp2
      go_ret
      refine ⟨ret_bool (by (have e : k = n := (by omega)); subst e; rw [H.out]), ext_mk ?_⟩
      (repeat' (first | (with_reducible exact Below.refl _ _) | (with_reducible assumption) | (with_reducible refine Below.setCell ?_ ?_ _) | (with_reducible refine Below.alloc ?_ ?_ _) | (with_reducible refine Below.ext ?_ ?_ _) | omega | (simp; done) | (simp; omega) | (with_reducible refine Below.drew ?_)))
theorem good_of {L : List Label} {P : List Int} (h : plCode L P = 0) : Good L P := ⟨(plCode_inv h).1, (plCode_inv h).2.2⟩
def icOf (L : List Label) (P : List Int) : Bool := if plCode L P = 0 then clearTo L P L.length else false
set_option maxHeartbeats 1000000 in
set_option maxRecDepth 100000 in
theorem implIsClear_any (A A' : Option Addr) (n c n' c' : Nat) (L : List Label) (M : List Int) (w : World) (hr : Rd w (lt w.heap.size) A n c L) (hr' : Rd w (lt w.heap.size) A' n' c' M) :
    Calls Try.prog 38 #[.slice A n c, .slice A' n' c'] w fun e w' => e = .returned (.tuple #[.bool (icOf L M), .int .i64 (plCode L M)]) ∧ ∃ X : Ext w, w' = X.W := by
  by_cases hp : plCode L M = 0
  · have hs : icOf L M = clearTo L M n := by rw [icOf, if_pos hp, hr.eq]
    have hn : n ≤ n' := by rw [← hr.eq, ← hr'.eq, (plCode_inv hp).2.1]; exact Nat.le_refl _
    have Hp := Lib.hid hp
    have Hs := Lib.hid hs
    have e1 : (plCode L M != 0) = false := by simp [hp]
    clear hp hs
    go_enter Try.func38, Try.ntmps38
    go_wp2_with (first | (go_at_call 60; refine (implPlacement_any _ _ _ _ _ _ L M _ hr hr').mono ?_; rintro e w' ⟨rfl, x1, rfl⟩; have sx1 := Ext.size x1; try simp at sx1) | (go_at_call 74; refine (isClear_any _ _ _ _ _ _ L M _ (hr.ext x1) (hr'.ext x1) (good_of Hp.out) hn).mono ?_; rintro e w' ⟨rfl, x2, rfl⟩; have sx2 := Ext.size x2; try simp at sx2))
    go_ret2
    refine ⟨by simp only [Hs.out, Hp.out]; rfl, ext_mk ?_⟩
    (repeat' (first | (with_reducible exact Below.refl _ _) | (with_reducible assumption) | (with_reducible refine Below.setCell ?_ ?_ _) | (with_reducible refine Below.alloc ?_ ?_ _) | (with_reducible refine Below.ext ?_ ?_ _) | omega | (simp; done) | (simp; omega) | (with_reducible refine Below.drew ?_)))
  · have hs : icOf L M = false := if_neg hp
    have Hs := Lib.hid hs
    have e1 : (plCode L M != 0) = true := by simp [hp]
    clear hs
    go_enter Try.func38, Try.ntmps38
    go_wp2_with (first | (go_at_call 60; refine (implPlacement_any _ _ _ _ _ _ L M _ hr hr').mono ?_; rintro e w' ⟨rfl, x1, rfl⟩; have sx1 := Ext.size x1; try simp at sx1))
    go_ret2
    refine ⟨by simp only [Hs.out]; rfl, ext_mk ?_⟩
    (repeat' (first | (with_reducible exact Below.refl _ _) | (with_reducible assumption) | (with_reducible refine Below.setCell ?_ ?_ _) | (with_reducible refine Below.alloc ?_ ?_ _) | (with_reducible refine Below.ext ?_ ?_ _) | omega | (simp; done) | (simp; omega) | (with_reducible refine Below.drew ?_)))
set_option maxHeartbeats 2000000 in
set_option maxRecDepth 100000 in
theorem fits_any (A A' : Option Addr) (n c n' c' : Nat) (L : List Label) (P : List Int) (i : Nat) (q : Int) (w : World) (hr : Rd w (lt w.heap.size) A n c L) (hr' : Rd w (lt w.heap.size) A' n' c' P) (hg : Good L P) (hi : i < n) (hn : n' ≤ n) (q0 : 0 ≤ q) (q4 : q ≤ 4) :
    Calls Try.prog 73 #[.slice A n c, .slice A' n' c', .int .i64 i, .int .i64 q] w fun e w' => e = .returned (.bool (fits L P n' i q)) ∧ ∃ X : Ext w, w' = X.W := by
  have hL := hr.len
  have hL' := hr'.len
  obtain ⟨x, hx⟩ := hr.get hi
  have ox := okL_of hg.labels hx
  have hc : ∀ W, Below w.heap.size w W → Calls Try.prog 63 #[.slice A n c, .agg #[.int .i64 x.X, .int .i64 x.Y, .int .i64 x.Len, .int .i64 x.Pri], .int .i64 q] W fun e w' => e = .returned (.bool (allowed L x q)) ∧ ∃ X : Ext W, w' = X.W :=
    fun W hW => specAllowed_any A n c L x q W (hr.now hW hW.size) hg.labels ox q0 q4
  obtain ⟨b1, o1, rfl, hb1, c0, c1, c2, c3⟩ := hr.at_Label hx
  have j2 : (0 : Int) ≤ (i : Int) := Int.natCast_nonneg _
  have j3 : (i : Int) < (n : Int) := by omega
  simp only [lt] at hb1
  have ex := lab_of hx
  have HC := Lib.hid hc
  have Hx := Lib.hid hx
  have OX := Lib.hid ox
  have EX := Lib.hid ex
  clear hc hx ox ex
  rcases Bool.eq_false_or_eq_true (allowed L x q) with t1 | t1
  · have HC' := HC.out
    rw [t1] at HC'
    have HC1 := Lib.hid HC'
    clear HC'
    have T1 := Lib.hid t1
    clear t1
    go_enter Try.func73, Try.ntmps73
    go_wp2_with (go_at_call 63; refine (HC1.out _ (Below.refl _ _)).mono ?_; rintro e w' ⟨rfl, x1, rfl⟩; have sx1 := Ext.size x1; try simp at sx1)
    go_loopw [9] (fun ii wr => Below w.heap.size w wr ∧ ∃ k : Nat, k ≤ n' ∧ ii = .int .i64 k ∧ Hid (((List.range k).all fun k => decide (k = i) || !clash (lab L k) (pl P k) (lab L i) q) = true)) (fun ii _ => n' - (intOf ii).toNat)
    case atStart => exact ⟨by (repeat' (first | (with_reducible exact Below.refl _ _) | (with_reducible assumption) | (with_reducible refine Below.setCell ?_ ?_ _) | (with_reducible refine Below.alloc ?_ ?_ _) | (with_reducible refine Below.ext ?_ ?_ _) | omega | (simp; done) | (simp; omega) | (with_reducible refine Below.drew ?_))), 0, Nat.zero_le _, rfl, by simp [Hid]⟩
    case round =>
      obtain ⟨hbw, k, hk, rfl, H⟩ := hrel
      obtain ⟨X, rfl⟩ := ext_of hbw
      have sX := X.size
      by_cases hlt : k < n'
      · by_cases hki : k = i
        · have g1 : ((k : Int) != (i : Int)) = false := by simp [hki]
          have h2 : ((List.range (k + 1)).all fun k => decide (k = i) || !clash (lab L k) (pl P k) (lab L i) q) = true := by
            rw [all_range_succ, H.out]; simp [hki]
          have H2 := Lib.hid h2
          clear hki h2
          go_wp2
          refine wp_region_ext (by kernel_rfl) (by kernel_rfl) ?_
          repeat (go_big_quiet_step (fail))
          refine wpQuiet_nil ?_
          intro x2
          have s2 := x2.size
          go_wp2
          refine ⟨⟨by (repeat' (first | (with_reducible exact Below.refl _ _) | (with_reducible assumption) | (with_reducible refine Below.setCell ?_ ?_ _) | (with_reducible refine Below.alloc ?_ ?_ _) | (with_reducible refine Below.ext ?_ ?_ _) | omega | (simp; done) | (simp; omega) | (with_reducible refine Below.drew ?_))), k + 1, by omega, by go_num, H2⟩, by simp [intOf]; omega⟩
        · have g1 : ((k : Int) != (i : Int)) = true := by simp; omega
          obtain ⟨y, hy⟩ := hr.get (k := k) (by omega)
          obtain ⟨p, hp⟩ := hr'.get (k := k) hlt
          obtain ⟨p0, p4⟩ := hg.pos k p hp
          have hc2 : ∀ W, Below w.heap.size w W → Calls Try.prog 75 #[.agg #[.int .i64 y.X, .int .i64 y.Y, .int .i64 y.Len, .int .i64 y.Pri], .int .i64 p, .agg #[.int .i64 x.X, .int .i64 x.Y, .int .i64 x.Len, .int .i64 x.Pri], .int .i64 q] W fun e w' => e = .returned (.bool (clash y p x q)) ∧ ∃ X : Ext W, w' = X.W :=
            fun W hW => specClash_any y p x q W (okL_of hg.labels hy) p0 p4 OX.out q0 q4
          have ey := lab_of hy
          have ep := pl_of hp
          obtain ⟨b2, o2, e2, hb2, d0, d1, d2, d3⟩ := hr.at_Label hy
          simp only [Option.some.injEq, Addr.mk.injEq, and_true] at e2
          obtain ⟨rfl, rfl⟩ := e2
          obtain ⟨b3, o3, rfl, hb3, f0⟩ := hr'.at_int hp
          simp only [lt] at hb3
          clear hb2 hy hp
          have j7 : (k : Int) < (n : Int) := by omega
          have j8 : (k : Int) < (n' : Int) := by omega
          have j9 : (0 : Int) ≤ (k : Int) := Int.natCast_nonneg _
          rcases Bool.eq_false_or_eq_true (clash y p x q) with t2 | t2
          · rw [t2] at hc2
            have HC2 := Lib.hid hc2
            have h2 : fits L P n' i q = false := by
              rw [Bool.eq_false_iff]
              intro h
              simp only [fits, Bool.and_eq_true, List.all_eq_true, List.mem_range] at h
              have := h.2 k hlt
              rw [EX.out, ey, ep, t2] at this
              simp [hki] at this
            have H2 := Lib.hid h2
            clear hc2 ey ep t2 h2 hki
            go_wp2
            refine wp_region_ext (by kernel_rfl) (by kernel_rfl) ?_
            repeat (go_big_quiet_step ((go_at_call 75; exact calls_ext (HC2.out _ (by (repeat' (first | (with_reducible exact Below.refl _ _) | (with_reducible assumption) | (with_reducible refine Below.setCell ?_ ?_ _) | (with_reducible refine Below.alloc ?_ ?_ _) | (with_reducible refine Below.ext ?_ ?_ _) | omega | (simp; done) | (simp; omega) | (with_reducible refine Below.drew ?_))))))))
            refine wpQuiet_nil ?_
            intro x2
            have s2 := x2.size
            go_wp2
            go_ret
            refine ⟨ret_bool (by rw [H2.out]), ext_mk ?_⟩
            (repeat' (first | (with_reducible exact Below.refl _ _) | (with_reducible assumption) | (with_reducible refine Below.setCell ?_ ?_ _) | (with_reducible refine Below.alloc ?_ ?_ _) | (with_reducible refine Below.ext ?_ ?_ _) | omega | (simp; done) | (simp; omega) | (with_reducible refine Below.drew ?_)))
          · rw [t2] at hc2
            have HC2 := Lib.hid hc2
            have h2 : ((List.range (k + 1)).all fun k => decide (k = i) || !clash (lab L k) (pl P k) (lab L i) q) = true := by
              rw [all_range_succ, H.out, EX.out, ey, ep, t2]; simp
            have H2 := Lib.hid h2
            clear hc2 ey ep t2 h2 hki
            go_wp2
            refine wp_region_ext (by kernel_rfl) (by kernel_rfl) ?_
            repeat (go_big_quiet_step ((go_at_call 75; exact calls_ext (HC2.out _ (by (repeat' (first | (with_reducible exact Below.refl _ _) | (with_reducible assumption) | (with_reducible refine Below.setCell ?_ ?_ _) | (with_reducible refine Below.alloc ?_ ?_ _) | (with_reducible refine Below.ext ?_ ?_ _) | omega | (simp; done) | (simp; omega) | (with_reducible refine Below.drew ?_))))))))
            refine wpQuiet_nil ?_
            intro x2
            have s2 := x2.size
            go_wp2
            refine ⟨⟨by (repeat' (first | (with_reducible exact Below.refl _ _) | (with_reducible assumption) | (with_reducible refine Below.setCell ?_ ?_ _) | (with_reducible refine Below.alloc ?_ ?_ _) | (with_reducible refine Below.ext ?_ ?_ _) | omega | (simp; done) | (simp; omega) | (with_reducible refine Below.drew ?_))), k + 1, by omega, by go_num, H2⟩, by simp [intOf]; omega⟩
      · go_wp2
        go_ret
        refine ⟨ret_bool (by (have e : k = n' := (by omega)); subst e; rw [fits, EX.out, T1.out, Bool.true_and]; have h := H.out; rw [EX.out] at h; exact h.symm), ext_mk ?_⟩
        (repeat' (first | (with_reducible exact Below.refl _ _) | (with_reducible assumption) | (with_reducible refine Below.setCell ?_ ?_ _) | (with_reducible refine Below.alloc ?_ ?_ _) | (with_reducible refine Below.ext ?_ ?_ _) | omega | (simp; done) | (simp; omega) | (with_reducible refine Below.drew ?_)))
  · have HC' := HC.out
    rw [t1] at HC'
    have HC1 := Lib.hid HC'
    clear HC'
    have T1 := Lib.hid t1
    clear t1
    go_enter Try.func73, Try.ntmps73
    go_wp2_with (go_at_call 63; refine (HC1.out _ (Below.refl _ _)).mono ?_; rintro e w' ⟨rfl, x1, rfl⟩; have sx1 := Ext.size x1; try simp at sx1)
    go_ret
    refine ⟨ret_bool (by rw [fits, EX.out, T1.out]; rfl), ext_mk ?_⟩
    (repeat' (first | (with_reducible exact Below.refl _ _) | (with_reducible assumption) | (with_reducible refine Below.setCell ?_ ?_ _) | (with_reducible refine Below.alloc ?_ ?_ _) | (with_reducible refine Below.ext ?_ ?_ _) | omega | (simp; done) | (simp; omega) | (with_reducible refine Below.drew ?_)))
end Go.Proofs.Ytnnpmbcamnnfgaa
