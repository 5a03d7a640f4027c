/- AllowedPositions of program and reference list the allowed positions, and the law FnExactAllowedPositions answers true, for every readable slice of labels. -/
import Derived.Test.YtnnpmbcamnnfgaaA12
import Derived.Test.YtnnpmbcamnnfgaaL2
namespace Go.Proofs.Ytnnpmbcamnnfgaa
open Go.RowKit
def posTo (L : List Label) (l : Label) (k : Nat) : List Int := ((List.range k).filter fun (j : Nat) => allowed L l j).map fun (j : Nat) => (j : Int)
theorem posTo_yes {L : List Label} {l : Label} {k : Nat} (h : allowed L l k = true) : posTo L l (k + 1) = posTo L l k ++ [(k : Int)] := by
  rw [posTo, List.range_succ, List.filter_append, List.map_append, ← posTo]; simp [h]
theorem posTo_no {L : List Label} {l : Label} {k : Nat} (h : allowed L l k = false) : posTo L l (k + 1) = posTo L l k := by
  rw [posTo, List.range_succ, List.filter_append, List.map_append, ← posTo]; simp [h]
theorem posTo_len (L : List Label) (l : Label) (k : Nat) : (posTo L l k).length ≤ k := by
  rw [posTo, List.length_map]
  have := List.length_filter_le (fun (j : Nat) => allowed L l j) (List.range k)
  simpa using this
def apList (L : List Label) (i : Int) : List Int := if lbCode L i = 0 then (match L[i.toNat]? with | some x => posTo L x 4 | none => []) else []
theorem ap_err {L : List Label} {i : Int} (h : lbCode L i ≠ 0) : apList L i = [] := by rw [apList, if_neg h]
theorem ap_ok {L : List Label} {i : Int} (h : lbCode L i = 0) {x : Label} (hx : L[i.toNat]? = some x) : apList L i = posTo L x 4 := by rw [apList, if_pos h, hx]
theorem apList_len (L : List Label) (i : Int) : (apList L i).length ≤ 4 := by
  unfold apList
  split
  · split
    · exact posTo_len L _ 4
    · simp
  · simp
set_option maxHeartbeats 1000000 in
set_option maxRecDepth 100000 in
theorem implAllowedPos_any (A : Option Addr) (n c : Nat) (L : List Label) (i : Int) (w : World) (hr : Rd w (lt w.heap.size) A n c L) :
    Calls Try.prog 23 #[.slice A n c, .int .i64 i] w fun e w' => ∃ v, e = .returned (.tuple #[v, .int .i64 (lbCode L i)]) ∧ Below w.heap.size w w' ∧ Acc w' w.heap.size 2 v (apList L i) := by
  have hL := hr.len
  have he := hr.eq
  by_cases h0 : lbCode L i = 0
  · obtain ⟨t1, t2, t3⟩ := lbCode_inv h0
    have e1 : (lbCode L i != 0) = false := by simp [h0]
    obtain ⟨k, rfl⟩ := Int.eq_ofNat_of_zero_le t2
    obtain ⟨x, hx⟩ := hr.get (k := k) (by omega)
    have hok := okL_of t1 hx
    obtain ⟨b, o, rfl, hbo, c0, c1, c2, c3⟩ := hr.at_Label hx
    simp only [lt] at hbo
    have H0 := Lib.hid h0
    have T1 := Lib.hid t1
    have Hx := Lib.hid hx
    have hlt : k < n := by omega
    clear h0 t1 hx t3 t2
    go_enter Try.func23, Try.ntmps23
    go_wp2_with (go_at_call 64; refine (implCode_any _ _ _ L _ _ hr).mono ?_; rintro e w' ⟨rfl, x1, rfl⟩; have sx1 := Ext.size x1; try simp at sx1)
    go_loopw [7, 15] (fun v q wr => Below w.heap.size w wr ∧ ∃ j : Nat, j ≤ 4 ∧ q = .int .i64 j ∧ Acc wr w.heap.size 2 v (posTo L x j)) (fun _ q _ => 4 - (intOf q).toNat)
    case atStart => exact ⟨by (repeat' (first | (with_reducible exact Below.refl _ _) | (with_reducible assumption) | (with_reducible refine Below.setCell ?_ ?_ _) | (with_reducible refine Below.alloc ?_ ?_ _) | (with_reducible refine Below.ext ?_ ?_ _) | omega | (simp; done) | (simp; omega) | (with_reducible refine Below.drew ?_))), 0, by omega, rfl, Acc.nil⟩
    case round =>
      obtain ⟨hbw, j, hj, rfl, hacc⟩ := hrel
      obtain ⟨X, rfl⟩ := ext_of hbw
      have sX := X.size
      have ln := posTo_len L x j
      by_cases hl4 : j < 4
      · have hcall : ∀ Z : World, Below w.heap.size w Z → Calls Try.prog 65 #[.slice (some ⟨b, o, none⟩) n c, .agg #[.int .i64 x.X, .int .i64 x.Y, .int .i64 x.Len, .int .i64 x.Pri], .int .i64 j] Z fun e w' => e = .returned (.bool (allowed L x j)) ∧ ∃ X : Ext Z, w' = X.W :=
          fun Z hZ => isAllowed_any _ _ _ L x j _ (hr.now hZ hZ.size) hok (by omega) (by omega)
        rcases Bool.eq_false_or_eq_true (allowed L x j) with t4 | t4
        · rw [t4] at hcall
          have HC := Lib.hid hcall
          clear hcall
          go_wp2_with (first
            | (go_at_call 65; refine (HC.out _ hbw).mono ?_; rintro e w' ⟨rfl, x3, rfl⟩; have sx3 := Ext.size x3; try simp at sx3)
            | (at_builtin; refine wpList_push (w := _) rfl (.tmp 25) (.tmp 27) _ rfl Try.underlying29 info_int64 rfl rfl (by decide) (v := u7) rfl (hacc.ext x3) (j : Int) [.int .i64 j] (fun _ _ => rfl) (by simp [Value.oneCell']) rfl ?_ ?_ ?_ ?_))
          · omega
          · simp [maxLen]; omega
          · omega
          · intro v' w' ha hb
            go_wp2
            refine ⟨⟨Below.trans (by (repeat' (first | (with_reducible exact Below.refl _ _) | (with_reducible assumption) | (with_reducible refine Below.setCell ?_ ?_ _) | (with_reducible refine Below.alloc ?_ ?_ _) | (with_reducible refine Below.ext ?_ ?_ _) | omega | (simp; done) | (simp; omega) | (with_reducible refine Below.drew ?_))) : Below w.heap.size w x3.W) hb, j + 1, by omega, by go_num, by rw [posTo_yes t4]; exact ha⟩, by simp [intOf]; omega⟩
        · rw [t4] at hcall
          have HC := Lib.hid hcall
          clear hcall
          go_wp2_with (go_at_call 65; refine (HC.out _ hbw).mono ?_; rintro e w' ⟨rfl, x3, rfl⟩; have sx3 := Ext.size x3; try simp at sx3)
          refine ⟨⟨by (repeat' (first | (with_reducible exact Below.refl _ _) | (with_reducible assumption) | (with_reducible refine Below.setCell ?_ ?_ _) | (with_reducible refine Below.alloc ?_ ?_ _) | (with_reducible refine Below.ext ?_ ?_ _) | omega | (simp; done) | (simp; omega) | (with_reducible refine Below.drew ?_))), j + 1, by omega, by go_num, by rw [posTo_no t4]; exact hacc.ext x3⟩, by simp [intOf]; omega⟩
      · go_wp2
        go_ret2
        obtain rfl : j = 4 := by omega
        refine ⟨_, by rw [H0.out]; rfl, hbw, ?_⟩
        rw [ap_ok H0.out (x := x) (by simpa using Hx.out)]
        exact hacc
  · have e1 : (lbCode L i != 0) = true := by simp [h0]
    go_enter Try.func23, Try.ntmps23
    go_wp2_with (go_at_call 64; refine (implCode_any _ _ _ L _ _ hr).mono ?_; rintro e w' ⟨rfl, x1, rfl⟩; have sx1 := Ext.size x1; try simp at sx1)
    go_ret2
    exact ⟨_, rfl, x1.h, by rw [ap_err h0]; exact Acc.nil⟩
set_option maxHeartbeats 1000000 in
set_option maxRecDepth 100000 in
theorem specAllowedPos_any (A : Option Addr) (n c : Nat) (L : List Label) (i : Int) (w : World) (hr : Rd w (lt w.heap.size) A n c L) :
    Calls Try.prog 22 #[.slice A n c, .int .i64 i] w fun e w' => ∃ v, e = .returned (.tuple #[v, .int .i64 (lbCode L i)]) ∧ Below w.heap.size w w' ∧ Acc w' w.heap.size 2 v (apList L i) := by
  have hL := hr.len
  have he := hr.eq
  by_cases h0 : lbCode L i = 0
  · obtain ⟨t1, t2, t3⟩ := lbCode_inv h0
    have e1 : (lbCode L i != 0) = false := by simp [h0]
    obtain ⟨k, rfl⟩ := Int.eq_ofNat_of_zero_le t2
    obtain ⟨x, hx⟩ := hr.get (k := k) (by omega)
    have hok := okL_of t1 hx
    obtain ⟨b, o, rfl, hbo, c0, c1, c2, c3⟩ := hr.at_Label hx
    simp only [lt] at hbo
    have H0 := Lib.hid h0
    have T1 := Lib.hid t1
    have Hx := Lib.hid hx
    have hlt : k < n := by omega
    clear h0 t1 hx t3 t2
    go_enter Try.func22, Try.ntmps22
    go_wp2_with (go_at_call 62; refine (specCode_any _ _ _ L _ _ hr).mono ?_; rintro e w' ⟨rfl, x1, rfl⟩; have sx1 := Ext.size x1; try simp at sx1)
    go_loopw [7, 8] (fun v q wr => Below w.heap.size w wr ∧ ∃ j : Nat, j ≤ 4 ∧ q = .int .i64 j ∧ Acc wr w.heap.size 2 v (posTo L x j)) (fun _ q _ => 4 - (intOf q).toNat)
    case atStart => exact ⟨by (repeat' (first | (with_reducible exact Below.refl _ _) | (with_reducible assumption) | (with_reducible refine Below.setCell ?_ ?_ _) | (with_reducible refine Below.alloc ?_ ?_ _) | (with_reducible refine Below.ext ?_ ?_ _) | omega | (simp; done) | (simp; omega) | (with_reducible refine Below.drew ?_))), 0, by omega, rfl, (Acc.empty x1.size)⟩
    case round =>
      obtain ⟨hbw, j, hj, rfl, hacc⟩ := hrel
      obtain ⟨X, rfl⟩ := ext_of hbw
      have sX := X.size
      have ln := posTo_len L x j
      by_cases hl4 : j < 4
      · have hcall : ∀ Z : World, Below w.heap.size w Z → Calls Try.prog 63 #[.slice (some ⟨b, o, none⟩) n c, .agg #[.int .i64 x.X, .int .i64 x.Y, .int .i64 x.Len, .int .i64 x.Pri], .int .i64 j] Z fun e w' => e = .returned (.bool (allowed L x j)) ∧ ∃ X : Ext Z, w' = X.W :=
          fun Z hZ => specAllowed_any _ _ _ L x j _ (hr.now hZ hZ.size) T1.out hok (by omega) (by omega)
        rcases Bool.eq_false_or_eq_true (allowed L x j) with t4 | t4
        · rw [t4] at hcall
          have HC := Lib.hid hcall
          clear hcall
          go_wp2_with (first
            | (go_at_call 63; refine (HC.out _ hbw).mono ?_; rintro e w' ⟨rfl, x3, rfl⟩; have sx3 := Ext.size x3; try simp at sx3)
            | (at_builtin; refine wpList_push (w := _) rfl (.tmp 27) (.tmp 29) _ rfl Try.underlying29 info_int64 rfl rfl (by decide) (v := u7) rfl (hacc.ext x3) (j : Int) [.int .i64 j] (fun _ _ => rfl) (by simp [Value.oneCell']) rfl ?_ ?_ ?_ ?_))
          · omega
          · simp [maxLen]; omega
          · omega
          · intro v' w' ha hb
            go_wp2
            refine ⟨⟨Below.trans (by (repeat' (first | (with_reducible exact Below.refl _ _) | (with_reducible assumption) | (with_reducible refine Below.setCell ?_ ?_ _) | (with_reducible refine Below.alloc ?_ ?_ _) | (with_reducible refine Below.ext ?_ ?_ _) | omega | (simp; done) | (simp; omega) | (with_reducible refine Below.drew ?_))) : Below w.heap.size w x3.W) hb, j + 1, by omega, by go_num, by rw [posTo_yes t4]; exact ha⟩, by simp [intOf]; omega⟩
        · rw [t4] at hcall
          have HC := Lib.hid hcall
          clear hcall
          go_wp2_with (go_at_call 63; refine (HC.out _ hbw).mono ?_; rintro e w' ⟨rfl, x3, rfl⟩; have sx3 := Ext.size x3; try simp at sx3)
          refine ⟨⟨by (repeat' (first | (with_reducible exact Below.refl _ _) | (with_reducible assumption) | (with_reducible refine Below.setCell ?_ ?_ _) | (with_reducible refine Below.alloc ?_ ?_ _) | (with_reducible refine Below.ext ?_ ?_ _) | omega | (simp; done) | (simp; omega) | (with_reducible refine Below.drew ?_))), j + 1, by omega, by go_num, by rw [posTo_no t4]; exact hacc.ext x3⟩, by simp [intOf]; omega⟩
      · go_wp2
        go_ret2
        obtain rfl : j = 4 := by omega
        refine ⟨_, by rw [H0.out]; rfl, hbw, ?_⟩
        rw [ap_ok H0.out (x := x) (by simpa using Hx.out)]
        exact hacc
  · have e1 : (lbCode L i != 0) = true := by simp [h0]
    go_enter Try.func22, Try.ntmps22
    go_wp2_with (go_at_call 62; refine (specCode_any _ _ _ L _ _ hr).mono ?_; rintro e w' ⟨rfl, x1, rfl⟩; have sx1 := Ext.size x1; try simp at sx1)
    go_ret2
    exact ⟨_, rfl, x1.h, by rw [ap_err h0]; exact Acc.nil⟩
end Go.Proofs.Ytnnpmbcamnnfgaa
