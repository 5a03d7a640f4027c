/- CoveredBy of program and reference return the points that a label covers, and the code, for every readable slice of labels. -/
import Derived.Test.YtnnpmbcamnnfgaaA10
namespace Go.Proofs.Ytnnpmbcamnnfgaa
open Go.RowKit
theorem okL_of {L : List Label} (h : areLabels L = true) {k : Nat} {x : Label} (hx : L[k]? = some x) : okL x := by
  obtain ⟨a, b, c, d, e, f, _, _⟩ := areLabels_one h hx
  exact ⟨a, b, c, d, e, f⟩
theorem lbCode_inv {L : List Label} {i : Int} (h : lbCode L i = 0) : areLabels L = true ∧ 0 ≤ i ∧ i < L.length := by
  unfold lbCode at h
  split at h
  · rename_i h1
    split at h
    · rename_i h2
      simp only [inB, Bool.and_eq_true, decide_eq_true_eq] at h2
      exact ⟨h1, by omega, by omega⟩
    · omega
  · omega
/-- The label at an index, with its points. -/
def covAt (L : List Label) (i p : Int) : List Point := match L[i.toNat]? with | some x => cov x p | none => []
def cbCode (L : List Label) (i p : Int) : Int := if lbCode L i = 0 then (if inB p 0 3 = true then 0 else 2) else lbCode L i
def cbPts (L : List Label) (i p : Int) : List Point := if cbCode L i p = 0 then covAt L i p else []
theorem cb_err {L : List Label} {i p : Int} (h : lbCode L i ≠ 0) : cbCode L i p = lbCode L i ∧ cbPts L i p = [] := by
  have h1 : cbCode L i p = lbCode L i := by rw [cbCode, if_neg h]
  exact ⟨h1, by rw [cbPts, if_neg (by rw [h1]; exact h)]⟩
theorem cb_pos {L : List Label} {i p : Int} (h : lbCode L i = 0) (h1 : inB p 0 3 = false) : cbCode L i p = 2 ∧ cbPts L i p = [] := by
  have h1 : cbCode L i p = 2 := by rw [cbCode, if_pos h, if_neg (by simp [h1])]
  exact ⟨h1, by rw [cbPts, if_neg (by rw [h1]; decide)]⟩
theorem cb_ok {L : List Label} {i p : Int} (h : lbCode L i = 0) (h1 : inB p 0 3 = true) {x : Label} (hx : L[i.toNat]? = some x) : cbCode L i p = 0 ∧ cbPts L i p = cov x p := by
  have h1 : cbCode L i p = 0 := by rw [cbCode, if_pos h, if_pos h1]
  exact ⟨h1, by rw [cbPts, if_pos h1, covAt, hx]⟩
set_option maxHeartbeats 1000000 in
set_option maxRecDepth 100000 in
theorem specCoveredBy_any (A : Option Addr) (n c : Nat) (L : List Label) (i p : Int) (w : World) (hr : Rd w (lt w.heap.size) A n c L) :
    Calls Try.prog 27 #[.slice A n c, .int .i64 i, .int .i64 p] w fun e w' => ∃ v, e = .returned (.tuple #[v, .int .i64 (cbCode L i p)]) ∧ Below w.heap.size w w' ∧ Acc w' w.heap.size 53 v (cbPts L i p) := by
  have hL := hr.len
  have he := hr.eq
  by_cases h0 : lbCode L i = 0
  · obtain ⟨t1, t2, t3⟩ := lbCode_inv h0
    have e1 : (lbCode L i != 0) = false := by simp [h0]
    have e1' : (lbCode L i == 0) = true := by simp [h0]
    obtain ⟨k, rfl⟩ := Int.eq_ofNat_of_zero_le t2
    obtain ⟨x, hx⟩ := hr.get (k := k) (by omega)
    have hok := okL_of t1 hx
    obtain ⟨b, o, rfl, hbo, c0, c1, c2, c3⟩ := hr.at_Label hx
    simp only [lt] at hbo
    have H0 := Lib.hid h0
    have T1 := Lib.hid t1
    have Hx := Lib.hid hx
    have hlt : k < n := by omega
    clear h0 t1 hx t3 t2
    rcases Bool.eq_false_or_eq_true (inB p 0 3) with t4 | t4
    · have t5 : 0 ≤ p ∧ p ≤ 3 := by simpa [inB] using t4
      go_enter Try.func27, Try.ntmps27
      go_wp2_with (first | (go_at_call 62; refine (specCode_any _ _ _ L _ _ hr).mono ?_; rintro e w' ⟨rfl, x1, rfl⟩; have sx1 := Ext.size x1; try simp at sx1) | (go_at_call 52; refine (l01In_any _ _ _ _).mono ?_; rintro e w' ⟨rfl, rfl⟩))
      refine (points_any x p _ hok t5.1 (by omega)).mono ?_
      rintro e w2 ⟨v, rfl, hb, ha⟩
      go_wp2
      go_ret2
      obtain ⟨q1, q2⟩ := cb_ok H0.out t4 (i := (k : Int)) (p := p) (x := x) (by simpa using Hx.out)
      refine ⟨v, by rw [q1]; rfl, ?_, by rw [q2]; exact ha.mono x1.size⟩
      exact Below.trans x1.h (hb.mono x1.size)
    · go_enter Try.func27, Try.ntmps27
      go_wp2_with (first | (go_at_call 62; refine (specCode_any _ _ _ L _ _ hr).mono ?_; rintro e w' ⟨rfl, x1, rfl⟩; have sx1 := Ext.size x1; try simp at sx1) | (go_at_call 52; refine (l01In_any _ _ _ _).mono ?_; rintro e w' ⟨rfl, rfl⟩))
      go_ret2
      obtain ⟨q1, q2⟩ := cb_pos (p := p) H0.out t4
      exact ⟨_, by rw [q1]; rfl, x1.h, by rw [q2]; exact Acc.nil⟩
  · have e1 : (lbCode L i != 0) = true := by simp [h0]
    have e1' : (lbCode L i == 0) = false := by simp [h0]
    go_enter Try.func27, Try.ntmps27
    go_wp2_with (first | (go_at_call 62; refine (specCode_any _ _ _ L _ _ hr).mono ?_; rintro e w' ⟨rfl, x1, rfl⟩; have sx1 := Ext.size x1; try simp at sx1) | (go_at_call 52; refine (l01In_any _ _ _ _).mono ?_; rintro e w' ⟨rfl, rfl⟩))
    go_ret2
    obtain ⟨q1, q2⟩ := cb_err (p := p) h0
    exact ⟨_, by rw [q1]; rfl, x1.h, by rw [q2]; exact Acc.nil⟩
set_option maxHeartbeats 1000000 in
set_option maxRecDepth 100000 in
theorem implCoveredBy_any (A : Option Addr) (n c : Nat) (L : List Label) (i p : Int) (w : World) (hr : Rd w (lt w.heap.size) A n c L) :
    Calls Try.prog 28 #[.slice A n c, .int .i64 i, .int .i64 p] w fun e w' => ∃ v, e = .returned (.tuple #[v, .int .i64 (cbCode L i p)]) ∧ Below w.heap.size w w' ∧ Acc w' w.heap.size 53 v (cbPts L i p) := by
  have hL := hr.len
  have he := hr.eq
  by_cases h0 : lbCode L i = 0
  · obtain ⟨t1, t2, t3⟩ := lbCode_inv h0
    have e1 : (lbCode L i != 0) = false := by simp [h0]
    have e1' : (lbCode L i == 0) = true := by simp [h0]
    obtain ⟨k, rfl⟩ := Int.eq_ofNat_of_zero_le t2
    obtain ⟨x, hx⟩ := hr.get (k := k) (by omega)
    have hok := okL_of t1 hx
    obtain ⟨b, o, rfl, hbo, c0, c1, c2, c3⟩ := hr.at_Label hx
    simp only [lt] at hbo
    have H0 := Lib.hid h0
    have T1 := Lib.hid t1
    have Hx := Lib.hid hx
    have hlt : k < n := by omega
    clear h0 t1 hx t3 t2
    rcases Bool.eq_false_or_eq_true (inB p 0 3) with t4 | t4
    · have t5 : 0 ≤ p ∧ p ≤ 3 := by simpa [inB] using t4
      go_enter Try.func28, Try.ntmps28
      go_wp2_with (first | (go_at_call 64; refine (implCode_any _ _ _ L _ _ hr).mono ?_; rintro e w' ⟨rfl, x1, rfl⟩; have sx1 := Ext.size x1; try simp at sx1) | (go_at_call 55; refine (within_any _ _ _ _).mono ?_; rintro e w' ⟨rfl, rfl⟩))
      refine (covered_any x p _ hok t5.1 (by omega)).mono ?_
      rintro e w2 ⟨v, rfl, hb, ha⟩
      go_wp2
      go_ret2
      obtain ⟨q1, q2⟩ := cb_ok H0.out t4 (i := (k : Int)) (p := p) (x := x) (by simpa using Hx.out)
      refine ⟨v, by rw [q1]; rfl, ?_, by rw [q2]; exact ha.mono x1.size⟩
      exact Below.trans x1.h (hb.mono x1.size)
    · go_enter Try.func28, Try.ntmps28
      go_wp2_with (first | (go_at_call 64; refine (implCode_any _ _ _ L _ _ hr).mono ?_; rintro e w' ⟨rfl, x1, rfl⟩; have sx1 := Ext.size x1; try simp at sx1) | (go_at_call 55; refine (within_any _ _ _ _).mono ?_; rintro e w' ⟨rfl, rfl⟩))
      go_ret2
      obtain ⟨q1, q2⟩ := cb_pos (p := p) H0.out t4
      exact ⟨_, by rw [q1]; rfl, x1.h, by rw [q2]; exact Acc.nil⟩
  · have e1 : (lbCode L i != 0) = true := by simp [h0]
    have e1' : (lbCode L i == 0) = false := by simp [h0]
    go_enter Try.func28, Try.ntmps28
    go_wp2_with (first | (go_at_call 64; refine (implCode_any _ _ _ L _ _ hr).mono ?_; rintro e w' ⟨rfl, x1, rfl⟩; have sx1 := Ext.size x1; try simp at sx1) | (go_at_call 55; refine (within_any _ _ _ _).mono ?_; rintro e w' ⟨rfl, rfl⟩))
    go_ret2
    obtain ⟨q1, q2⟩ := cb_err (p := p) h0
    exact ⟨_, by rw [q1]; rfl, x1.h, by rw [q2]; exact Acc.nil⟩
end Go.Proofs.Ytnnpmbcamnnfgaa
