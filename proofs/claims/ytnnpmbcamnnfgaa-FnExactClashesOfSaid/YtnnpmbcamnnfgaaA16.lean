/- isClearAt, isClear, IsClear of the program and l33Fits, IsClear of the reference tell whether a placement is clear. -/
import Derived.Test.YtnnpmbcamnnfgaaA15
namespace Go.Proofs.Ytnnpmbcamnnfgaa
open Go.RowKit
def lab (L : List Label) (i : Nat) : Label := (L[i]?).getD ⟨0, 0, 0, 0⟩
def pl (P : List Int) (i : Nat) : Int := (P[i]?).getD 0
theorem lab_of {L : List Label} {i : Nat} {x : Label} (h : L[i]? = some x) : lab L i = x := by rw [lab, h]; rfl
theorem pl_of {P : List Int} {i : Nat} {x : Int} (h : P[i]? = some x) : pl P i = x := by rw [pl, h]; rfl
def clearAt (L : List Label) (P : List Int) (i : Nat) : Bool := allowed L (lab L i) (pl P i) && (List.range i).all fun k => !clash (lab L i) (pl P i) (lab L k) (pl P k)
def clearTo (L : List Label) (P : List Int) (n : Nat) : Bool := (List.range n).all (clearAt L P)
def fits (L : List Label) (P : List Int) (m i : Nat) (q : Int) : Bool := allowed L (lab L i) q && (List.range m).all fun k => decide (k = i) || !clash (lab L k) (pl P k) (lab L i) q
/-- Labels and positions within their bounds. -/
structure Good (L : List Label) (P : List Int) : Prop where
  labels : areLabels L = true
  pos : ∀ (k : Nat) (p : Int), P[k]? = some p → 0 ≤ p ∧ p ≤ 4
theorem all_range_succ (f : Nat → Bool) (k : Nat) : (List.range (k + 1)).all f = ((List.range k).all f && f k) := by simp [List.range_succ, List.all_append]
set_option maxHeartbeats 2000000 in
set_option maxRecDepth 100000 in
theorem isClearAt_any (A A' : Option Addr) (n c n' c' : Nat) (L : List Label) (P : List Int) (i : Nat) (w : World) (hr : Rd w (lt w.heap.size) A n c L) (hr' : Rd w (lt w.heap.size) A' n' c' P) (hg : Good L P) (hi : i < n) (hn : n ≤ n') :
    Calls Try.prog 81 #[.slice A n c, .slice A' n' c', .int .i64 i] w fun e w' => e = .returned (.bool (clearAt L P i)) ∧ ∃ X : Ext w, w' = X.W := by
  have hL := hr.len
  have hL' := hr'.len
  obtain ⟨x, hx⟩ := hr.get hi
  obtain ⟨p, hp⟩ := hr'.get (k := i) (by omega)
  obtain ⟨b1, o1, hA1, hb1, c0, c1, c2, c3⟩ := hr.at_Label hx
  obtain ⟨b3, o3, hA3, hb3, f0⟩ := hr'.at_int hp
  obtain ⟨p0, p4⟩ := hg.pos i p hp
  have ox := okL_of hg.labels hx
  have hc : ∀ W, Below w.heap.size w W → Calls Try.prog 65 #[.slice A n c, .agg #[.int .i64 x.X, .int .i64 x.Y, .int .i64 x.Len, .int .i64 x.Pri], .int .i64 p] W fun e w' => e = .returned (.bool (allowed L x p)) ∧ ∃ X : Ext W, w' = X.W :=
    fun W hW => isAllowed_any A n c L x p W (hr.now hW hW.size) ox p0 p4
  have j2 : (0 : Int) ≤ (i : Int) := Int.natCast_nonneg _
  have j3 : (i : Int) < (n : Int) := by omega
  have j5 : (i : Int) < (n' : Int) := by omega
  subst hA1 hA3
  simp only [lt] at hb1 hb3
  have ex := lab_of hx
  have ep := pl_of hp
  have HC := Lib.hid hc
  have Hx := Lib.hid hx
  have Hp := Lib.hid hp
  have OX := Lib.hid ox
  have EX := Lib.hid ex
  have EP := Lib.hid ep
  clear hc hx hp ox ex ep
  rcases Bool.eq_false_or_eq_true (allowed L x p) with t1 | t1
  · have HC' := HC.out
    rw [t1] at HC'
    have HC1 := Lib.hid HC'
    clear HC'
    have T1 := Lib.hid t1
    clear t1
    go_enter Try.func81, Try.ntmps81
    go_wp2
    refine wp_region_ext (by kernel_rfl) (by kernel_rfl) ?_
    repeat (go_big_quiet_step ((go_at_call 65; exact calls_ext (HC1.out _ (by (repeat' (first | (with_reducible exact Below.refl _ _) | (with_reducible assumption) | (with_reducible refine Below.setCell ?_ ?_ _) | (with_reducible refine Below.alloc ?_ ?_ _) | (with_reducible refine Below.ext ?_ ?_ _) | omega | (simp; done) | (simp; omega) | (with_reducible refine Below.drew ?_))))))))
    refine wpQuiet_nil ?_
    intro x1
    have s1 := x1.size
    go_wp2
    go_loopw [20] (fun q wr => Below w.heap.size w wr ∧ ∃ k : Nat, k ≤ i ∧ q = .int .i64 k ∧ Hid (((List.range k).all fun k => !clash (lab L i) (pl P i) (lab L k) (pl P k)) = true)) (fun q _ => i - (intOf q).toNat)
    case atStart => exact ⟨by (repeat' (first | (with_reducible exact Below.refl _ _) | (with_reducible assumption) | (with_reducible refine Below.setCell ?_ ?_ _) | (with_reducible refine Below.alloc ?_ ?_ _) | (with_reducible refine Below.ext ?_ ?_ _) | omega | (simp; done) | (simp; omega) | (with_reducible refine Below.drew ?_))), 0, by omega, rfl, by simp [Hid]⟩
    case round =>
      obtain ⟨hbw, k, hk, rfl, H⟩ := hrel
      obtain ⟨X, rfl⟩ := ext_of hbw
      have sX := X.size
      by_cases hlt : k < i
      · obtain ⟨y, hy⟩ := hr.get (k := k) (by omega)
        obtain ⟨q, hq⟩ := hr'.get (k := k) (by omega)
        obtain ⟨q0, q4⟩ := hg.pos k q hq
        have hc2 := implClash_any _ _ n c n' c' L P i k x y p q X.W (hr.now hbw hbw.size) (hr'.now hbw hbw.size) Hx.out Hp.out hy hq OX.out (okL_of hg.labels hy) p0 p4 q0 q4
        have ey := lab_of hy
        have eq' := pl_of hq
        rcases Bool.eq_false_or_eq_true (clash x p y q) with t2 | t2
        · rw [t2] at hc2
          have HC2 := Lib.hid hc2
          have h2 : clearAt L P i = false := by
            rw [Bool.eq_false_iff]
            intro h
            simp only [clearAt, Bool.and_eq_true, List.all_eq_true, List.mem_range] at h
            have := h.2 k hlt
            rw [EX.out, EP.out, ey, eq', t2] at this
            cases this
          have H2 := Lib.hid h2
          clear hc2 hy hq ey eq' t2 h2
          go_wp2_with (go_at_call 76; refine (HC2.out).mono ?_; rintro e w' ⟨rfl, x3, rfl⟩; have sx3 := Ext.size x3; try simp at sx3)
          go_ret
          refine ⟨ret_bool (by rw [H2.out]), ext_mk ?_⟩
          (repeat' (first | (with_reducible exact Below.refl _ _) | (with_reducible assumption) | (with_reducible refine Below.setCell ?_ ?_ _) | (with_reducible refine Below.alloc ?_ ?_ _) | (with_reducible refine Below.ext ?_ ?_ _) | omega | (simp; done) | (simp; omega) | (with_reducible refine Below.drew ?_)))
        · rw [t2] at hc2
          have HC2 := Lib.hid hc2
          have h2 : ((List.range (k + 1)).all fun k => !clash (lab L i) (pl P i) (lab L k) (pl P k)) = true := by
            rw [all_range_succ, H.out, EX.out, EP.out, ey, eq', t2]; rfl
          have H2 := Lib.hid h2
          clear hc2 hy hq ey eq' t2 h2
          go_wp2_with (go_at_call 76; refine (HC2.out).mono ?_; rintro e w' ⟨rfl, x3, rfl⟩; have sx3 := Ext.size x3; try simp at sx3)
          refine ⟨⟨by (repeat' (first | (with_reducible exact Below.refl _ _) | (with_reducible assumption) | (with_reducible refine Below.setCell ?_ ?_ _) | (with_reducible refine Below.alloc ?_ ?_ _) | (with_reducible refine Below.ext ?_ ?_ _) | omega | (simp; done) | (simp; omega) | (with_reducible refine Below.drew ?_))), k + 1, by omega, by go_num, H2⟩, by simp [intOf]; omega⟩
      · go_wp2
        go_ret
        refine ⟨ret_bool (by (have e : k = i := (by omega)); subst e; rw [clearAt, H.out, EX.out, EP.out, T1.out]; rfl), ext_mk ?_⟩
        (repeat' (first | (with_reducible exact Below.refl _ _) | (with_reducible assumption) | (with_reducible refine Below.setCell ?_ ?_ _) | (with_reducible refine Below.alloc ?_ ?_ _) | (with_reducible refine Below.ext ?_ ?_ _) | omega | (simp; done) | (simp; omega) | (with_reducible refine Below.drew ?_)))
  · have HC' := HC.out
    rw [t1] at HC'
    have HC1 := Lib.hid HC'
    clear HC'
    have T1 := Lib.hid t1
    clear t1
    go_enter Try.func81, Try.ntmps81
    go_wp2
    refine wp_region_ext (by kernel_rfl) (by kernel_rfl) ?_
    repeat (go_big_quiet_step ((go_at_call 65; exact calls_ext (HC1.out _ (by (repeat' (first | (with_reducible exact Below.refl _ _) | (with_reducible assumption) | (with_reducible refine Below.setCell ?_ ?_ _) | (with_reducible refine Below.alloc ?_ ?_ _) | (with_reducible refine Below.ext ?_ ?_ _) | omega | (simp; done) | (simp; omega) | (with_reducible refine Below.drew ?_))))))))
    refine wpQuiet_nil ?_
    intro x1
    have s1 := x1.size
    go_wp2
    go_ret
    refine ⟨ret_bool (by rw [clearAt, EX.out, EP.out, T1.out]; rfl), ext_mk ?_⟩
    (repeat' (first | (with_reducible exact Below.refl _ _) | (with_reducible assumption) | (with_reducible refine Below.setCell ?_ ?_ _) | (with_reducible refine Below.alloc ?_ ?_ _) | (with_reducible refine Below.ext ?_ ?_ _) | omega | (simp; done) | (simp; omega) | (with_reducible refine Below.drew ?_)))
end Go.Proofs.Ytnnpmbcamnnfgaa
