/- The copies and comparisons of slices of int64, and placementCode, score and ScoreOf of program and reference, compute the Lean functions written here, for every readable slice. -/
import Derived.Test.YtnnpmbcamnnfgaaA4
namespace Go.Proofs.Ytnnpmbcamnnfgaa
open Go.RowKit
theorem info_int64 : (Try.prog.info? 2).map (fun i => (i.zero, i.size, i.bytes)) = some (some (.int .i64 0), 1, 8) := by kernel_rfl
set_option maxHeartbeats 1000000 in
set_option maxRecDepth 100000 in
theorem toInt64S_any (A : Option Addr) (n c : Nat) (L : List Int) (w : World) (hr : Rd w (lt w.heap.size) A n c L) (hn : n ≤ 1048576) :
    Calls Try.prog 19 #[.slice A n c] w fun e w' => ∃ v, e = .returned v ∧ Below w.heap.size w w' ∧ Fresh w w' 2 v L := by
  have hmk := fun W => make_any (P := Try.prog) 29 2 Try.underlying29 info_int64 .i64 .i64 n n (Nat.le_refl _) (by omega) (by omega) W
  go_enter Try.func19, Try.ntmps19
  go_wp2
  go_loopw [4] (fun i wr => Below w.heap.size w wr ∧ ∃ l, Blk wr w.heap.size 2 l ∧ l.length = n ∧ ∃ k : Nat, k ≤ n ∧ i = .int .i64 k ∧ Enc wr (bt w.heap.size wr.heap.size) (L.take k) (l.take (k * 1))) (fun i _ => n - (intOf i).toNat)
  case atStart => exact ⟨by (repeat' (first | (with_reducible exact Below.refl _ _) | (with_reducible assumption) | (with_reducible refine Below.setCell ?_ ?_ _) | (with_reducible refine Below.alloc ?_ ?_ _) | (with_reducible refine Below.ext ?_ ?_ _) | omega | (simp; done) | (simp; omega) | (with_reducible refine Below.drew ?_))), _, Blk.made _ _ _, by simp [size_madeCells], 0, Nat.zero_le _, rfl, by simp [Enc]⟩
  case round =>
    obtain ⟨hbw, l, hB, hl, k, hk, rfl, H⟩ := hrel
    obtain ⟨X, rfl⟩ := ext_of hbw
    have sX := X.size
    clear hmk
    by_cases hlt : k < n
    · obtain ⟨x, hx⟩ := Rd.get hr hlt
      obtain ⟨bbx, oox, rfl, hbx, c0⟩ := Rd.at_int hr hx
      have Hx := Lib.hid hx
      clear hx
      simp only [lt] at hbx
      obtain ⟨v0, d0⟩ := hB.val (i := k) (by omega)
      have hf := hB.frozen
      have hgs := hB.lt
      go_wp2
      have hB' := hB.set_ k (.int .i64 x)
      refine ⟨⟨?_, setRun l k [.int .i64 x], hB', by rw [setRun_length, hl], k + 1, by omega, by go_num, ?_⟩, by simp [intOf]; omega⟩
      · (repeat' (first | (with_reducible exact Below.refl _ _) | (with_reducible assumption) | (with_reducible refine Below.setCell ?_ ?_ _) | (with_reducible refine Below.alloc ?_ ?_ _) | (with_reducible refine Below.ext ?_ ?_ _) | omega | (simp; done) | (simp; omega) | (with_reducible refine Below.drew ?_)))
      · have := H.flat.put (w := X.W.setCell ⟨w.heap.size, k, none⟩ (.int .i64 x)) (S := bt w.heap.size (X.W.setCell ⟨w.heap.size, k, none⟩ (.int .i64 x)).heap.size) Hx.out (cs := [.int .i64 x]) rfl (by show (k + 1) * 1 ≤ _; omega)
        simpa [Rep.sz] using this
    · go_wp2
      go_ret
      obtain rfl : k = n := by omega
      have e := hr.eq
      rw [← e, List.take_length] at H
      refine ⟨_, rfl, ?_, w.heap.size, l, by rw [e]; rfl, Nat.le_refl _, hB, ?_⟩
      · (repeat' (first | (with_reducible exact Below.refl _ _) | (with_reducible assumption) | (with_reducible refine Below.setCell ?_ ?_ _) | (with_reducible refine Below.alloc ?_ ?_ _) | (with_reducible refine Below.ext ?_ ?_ _) | omega | (simp; done) | (simp; omega) | (with_reducible refine Below.drew ?_)))
      · rw [List.take_of_length_le (by omega)] at H; exact H
set_option maxHeartbeats 1000000 in
set_option maxRecDepth 100000 in
theorem eqInt64S_any (A A' : Option Addr) (n c n' c' : Nat) (L M : List Int) (w : World) (hr : Rd w (lt w.heap.size) A n c L) (hr' : Rd w (lt w.heap.size) A' n' c' M) :
    Calls Try.prog 21 #[.slice A n c, .slice A' n' c'] w fun e w' => e = .returned (.bool (eqAll (· == ·) L M)) ∧ ∃ X : Ext w, w' = X.W := by
  have hL := hr.len
  have hL' := hr'.len
  by_cases hne : n = n'
  · subst hne
    go_enter Try.func21, Try.ntmps21
    go_wp2
    go_loopw [5] (fun i wr => Below w.heap.size w wr ∧ ∃ k : Nat, k ≤ n ∧ i = .int .i64 k ∧ Hid (eqAll (· == ·) (L.drop k) (M.drop k) = eqAll (· == ·) L M)) (fun i _ => n - (intOf i).toNat)
    case atStart => exact ⟨by (repeat' (first | (with_reducible exact Below.refl _ _) | (with_reducible assumption) | (with_reducible refine Below.setCell ?_ ?_ _) | (with_reducible refine Below.alloc ?_ ?_ _) | (with_reducible refine Below.ext ?_ ?_ _) | omega | (simp; done) | (simp; omega) | (with_reducible refine Below.drew ?_))), 0, Nat.zero_le _, rfl, by simp [Hid]⟩
    case round =>
      obtain ⟨hbw, k, hk, rfl, H⟩ := hrel
      obtain ⟨X, rfl⟩ := ext_of hbw
      have sX := X.size
      by_cases hlt : k < n
      · obtain ⟨x, hx⟩ := Rd.get hr hlt
        obtain ⟨bbx, oox, rfl, hbx, c0⟩ := Rd.at_int hr hx
        have Hx := Lib.hid hx
        clear hx
        simp only [lt] at hbx
        obtain ⟨y, hy⟩ := Rd.get hr' hlt
        obtain ⟨bby, ooy, rfl, hby, d0⟩ := Rd.at_int hr' hy
        have Hy := Lib.hid hy
        clear hy
        simp only [lt] at hby
        go_wp2
        refine wp_region_ext (by kernel_rfl) (by kernel_rfl) ?_
        repeat (go_big_quiet_step (fail))
        refine wpQuiet_nil ?_
        intro x2
        have s2 := x2.size
        go_wp2
        · go_ret
          refine ⟨ret_bool (by rw [← H.out, drop_of Hx.out, drop_of Hy.out, eqAll]; simp_all), ext_mk ?_⟩
          (repeat' (first | (with_reducible exact Below.refl _ _) | (with_reducible assumption) | (with_reducible refine Below.setCell ?_ ?_ _) | (with_reducible refine Below.alloc ?_ ?_ _) | (with_reducible refine Below.ext ?_ ?_ _) | omega | (simp; done) | (simp; omega) | (with_reducible refine Below.drew ?_)))
        · refine ⟨⟨by (repeat' (first | (with_reducible exact Below.refl _ _) | (with_reducible assumption) | (with_reducible refine Below.setCell ?_ ?_ _) | (with_reducible refine Below.alloc ?_ ?_ _) | (with_reducible refine Below.ext ?_ ?_ _) | omega | (simp; done) | (simp; omega) | (with_reducible refine Below.drew ?_))), k + 1, by omega, by go_num, by have h := H.out; rw [drop_of Hx.out, drop_of Hy.out, eqAll] at h; rw [← h]; simp_all [Hid]⟩, by simp [intOf]; omega⟩
      · go_wp2
        go_ret
        refine ⟨ret_bool (by have h := H.out; rw [List.drop_eq_nil_of_le (by have := hr.eq; omega), List.drop_eq_nil_of_le (by have := hr'.eq; omega)] at h; rw [← h]; rfl), ext_mk ?_⟩
        (repeat' (first | (with_reducible exact Below.refl _ _) | (with_reducible assumption) | (with_reducible refine Below.setCell ?_ ?_ _) | (with_reducible refine Below.alloc ?_ ?_ _) | (with_reducible refine Below.ext ?_ ?_ _) | omega | (simp; done) | (simp; omega) | (with_reducible refine Below.drew ?_)))
  · have hb1 : ((n : Int) != n') = true := by simp; omega
    go_enter Try.func21, Try.ntmps21
    go_wp2
    go_ret
    refine ⟨ret_bool (by rw [eqAll_ne _ _ _ (by rw [hr.eq, hr'.eq]; exact hne)]), ext_mk ?_⟩
    (repeat' (first | (with_reducible exact Below.refl _ _) | (with_reducible assumption) | (with_reducible refine Below.setCell ?_ ?_ _) | (with_reducible refine Below.alloc ?_ ?_ _) | (with_reducible refine Below.ext ?_ ?_ _) | omega | (simp; done) | (simp; omega) | (with_reducible refine Below.drew ?_)))

set_option maxHeartbeats 400000 in
set_option maxRecDepth 100000 in
theorem areWithin_any (A : Option Addr) (n c : Nat) (L : List Int) (lo hi : Int) (w : World) (hr : Rd w (lt w.heap.size) A n c L) :
    Calls Try.prog 89 #[.slice A n c, .int .i64 lo, .int .i64 hi] w fun e w' => e = .returned (.bool (L.all (inB · lo hi))) ∧ ∃ X : Ext w, w' = X.W := by
  have hL := hr.len
  go_enter Try.func89, Try.ntmps89
  go_wp2
  go_loopw [11] (fun i wr => Below w.heap.size w wr ∧ ∃ k : Nat, k ≤ n ∧ i = .int .i64 k ∧ Hid ((L.drop k).all (inB · lo hi) = L.all (inB · lo hi))) (fun i _ => n - (intOf i).toNat)
  case atStart => exact ⟨by (repeat' (first | (with_reducible exact Below.refl _ _) | (with_reducible assumption) | (with_reducible refine Below.setCell ?_ ?_ _) | (with_reducible refine Below.alloc ?_ ?_ _) | (with_reducible refine Below.ext ?_ ?_ _) | omega | (simp; done) | (simp; omega) | (with_reducible refine Below.drew ?_))), 0, Nat.zero_le _, rfl, by simp [Hid]⟩
  case round =>
    obtain ⟨hbw, k, hk, rfl, H⟩ := hrel
    obtain ⟨X, rfl⟩ := ext_of hbw
    have sX := X.size
    by_cases hlt : k < n
    · obtain ⟨x, hx⟩ := Rd.get hr hlt
      obtain ⟨bbx, oox, rfl, hbx, c0⟩ := Rd.at_int hr hx
      have Hx := Lib.hid hx
      clear hx
      simp only [lt] at hbx
      go_wp2_with (go_at_call 55; refine (within_any _ _ _ _).mono ?_; rintro e w' ⟨rfl, rfl⟩)
      · go_ret
        refine ⟨ret_bool (by rw [← H.out, drop_of Hx.out]; simp_all), ext_mk ?_⟩
        (repeat' (first | (with_reducible exact Below.refl _ _) | (with_reducible assumption) | (with_reducible refine Below.setCell ?_ ?_ _) | (with_reducible refine Below.alloc ?_ ?_ _) | (with_reducible refine Below.ext ?_ ?_ _) | omega | (simp; done) | (simp; omega) | (with_reducible refine Below.drew ?_)))
      · refine ⟨⟨by (repeat' (first | (with_reducible exact Below.refl _ _) | (with_reducible assumption) | (with_reducible refine Below.setCell ?_ ?_ _) | (with_reducible refine Below.alloc ?_ ?_ _) | (with_reducible refine Below.ext ?_ ?_ _) | omega | (simp; done) | (simp; omega) | (with_reducible refine Below.drew ?_))), k + 1, by omega, by go_num, by have h := H.out; rw [drop_of Hx.out] at h; rw [← h]; simp_all [Hid]⟩, by simp [intOf]; omega⟩
    · go_wp2
      go_ret
      refine ⟨ret_bool (by have h := H.out; rw [List.drop_eq_nil_of_le (by have := hr.eq; omega)] at h; rw [← h]; rfl), ext_mk ?_⟩
      (repeat' (first | (with_reducible exact Below.refl _ _) | (with_reducible assumption) | (with_reducible refine Below.setCell ?_ ?_ _) | (with_reducible refine Below.alloc ?_ ?_ _) | (with_reducible refine Below.ext ?_ ?_ _) | omega | (simp; done) | (simp; omega) | (with_reducible refine Below.drew ?_)))

def plCode (L : List Label) (P : List Int) : Int := if areLabels L = true then (if P.length = L.length ∧ P.all (inB · 0 4) = true then 0 else 2) else 1
theorem plCode_1 {L : List Label} {P : List Int} (h : areLabels L = false) : plCode L P = 1 := by simp [plCode, h]
theorem plCode_0 {L : List Label} {P : List Int} (h : areLabels L = true) (h1 : P.length = L.length) (h2 : P.all (inB · 0 4) = true) : plCode L P = 0 := by rw [plCode, if_pos h, if_pos ⟨h1, h2⟩]
theorem plCode_2 {L : List Label} {P : List Int} (h : areLabels L = true) (h1 : P.length ≠ L.length ∨ P.all (inB · 0 4) = false) : plCode L P = 2 := by
  rw [plCode, if_pos h, if_neg]
  rintro ⟨a, b⟩
  rcases h1 with h1 | h1
  · exact h1 a
  · rw [h1] at b; cases b
set_option maxHeartbeats 1000000 in
set_option maxRecDepth 100000 in
theorem specPlacement_any (A A' : Option Addr) (n c n' c' : Nat) (L : List Label) (M : List Int) (w : World) (hr : Rd w (lt w.heap.size) A n c L) (hr' : Rd w (lt w.heap.size) A' n' c' M) :
    Calls Try.prog 58 #[.slice A n c, .slice A' n' c'] w fun e w' => e = .returned (.int .i64 (plCode L M)) ∧ ∃ X : Ext w, w' = X.W := by
  have hL := hr.len
  have hL' := hr'.len
  rcases Bool.eq_false_or_eq_true (areLabels L) with t1 | t1
  · by_cases hne : n' = n
    · subst hne
      have hb1 : ((n' : Int) != n') = false := by simp
      go_enter Try.func58, Try.ntmps58
      go_wp2_with (go_at_call 14; refine (specAreLabels_any _ _ _ L _ hr).mono ?_; rintro e w' ⟨rfl, x1, rfl⟩; have sx1 := Ext.size x1; try simp at sx1)
      go_loopw [5] (fun i wr => Below w.heap.size w wr ∧ ∃ k : Nat, k ≤ n' ∧ i = .int .i64 k ∧ Hid ((M.drop k).all (inB · 0 4) = M.all (inB · 0 4))) (fun i _ => n' - (intOf i).toNat)
      case atStart => exact ⟨by (repeat' (first | (with_reducible exact Below.refl _ _) | (with_reducible assumption) | (with_reducible refine Below.setCell ?_ ?_ _) | (with_reducible refine Below.alloc ?_ ?_ _) | (with_reducible refine Below.ext ?_ ?_ _) | omega | (simp; done) | (simp; omega) | (with_reducible refine Below.drew ?_))), 0, Nat.zero_le _, rfl, by simp [Hid]⟩
      case round =>
        obtain ⟨hbw, k, hk, rfl, H⟩ := hrel
        obtain ⟨X, rfl⟩ := ext_of hbw
        have sX := X.size
        by_cases hlt : k < n'
        · obtain ⟨x, hx⟩ := Rd.get hr' hlt
          obtain ⟨bbx, oox, rfl, hbx, c0⟩ := Rd.at_int hr' hx
          have Hx := Lib.hid hx
          clear hx
          simp only [lt] at hbx
          go_wp2_with (go_at_call 52; refine (l01In_any _ _ _ _).mono ?_; rintro e w' ⟨rfl, rfl⟩)
          · go_ret
            refine ⟨ret_int (by rw [plCode_2 t1 (.inr _)]; rw [← H.out, drop_of Hx.out]; simp_all), ext_mk ?_⟩
            (repeat' (first | (with_reducible exact Below.refl _ _) | (with_reducible assumption) | (with_reducible refine Below.setCell ?_ ?_ _) | (with_reducible refine Below.alloc ?_ ?_ _) | (with_reducible refine Below.ext ?_ ?_ _) | omega | (simp; done) | (simp; omega) | (with_reducible refine Below.drew ?_)))
          · refine ⟨⟨by (repeat' (first | (with_reducible exact Below.refl _ _) | (with_reducible assumption) | (with_reducible refine Below.setCell ?_ ?_ _) | (with_reducible refine Below.alloc ?_ ?_ _) | (with_reducible refine Below.ext ?_ ?_ _) | omega | (simp; done) | (simp; omega) | (with_reducible refine Below.drew ?_))), k + 1, by omega, by go_num, by have h := H.out; rw [drop_of Hx.out] at h; rw [← h]; simp_all [Hid]⟩, by simp [intOf]; omega⟩
        · go_wp2
          go_ret
          refine ⟨ret_int (by rw [plCode_0 t1 (by rw [hr.eq, hr'.eq])]; rw [← H.out, List.drop_eq_nil_of_le (by have := hr'.eq; omega)]; rfl), ext_mk ?_⟩
          (repeat' (first | (with_reducible exact Below.refl _ _) | (with_reducible assumption) | (with_reducible refine Below.setCell ?_ ?_ _) | (with_reducible refine Below.alloc ?_ ?_ _) | (with_reducible refine Below.ext ?_ ?_ _) | omega | (simp; done) | (simp; omega) | (with_reducible refine Below.drew ?_)))
    · have hb1 : ((n' : Int) != n) = true := by simp; omega
      go_enter Try.func58, Try.ntmps58
      go_wp2_with (go_at_call 14; refine (specAreLabels_any _ _ _ L _ hr).mono ?_; rintro e w' ⟨rfl, x1, rfl⟩; have sx1 := Ext.size x1; try simp at sx1)
      go_ret
      refine ⟨ret_int (by rw [plCode_2 t1 (.inl (by rw [hr.eq, hr'.eq]; exact hne))]), ext_mk ?_⟩
      (repeat' (first | (with_reducible exact Below.refl _ _) | (with_reducible assumption) | (with_reducible refine Below.setCell ?_ ?_ _) | (with_reducible refine Below.alloc ?_ ?_ _) | (with_reducible refine Below.ext ?_ ?_ _) | omega | (simp; done) | (simp; omega) | (with_reducible refine Below.drew ?_)))
  · go_enter Try.func58, Try.ntmps58
    go_wp2_with (go_at_call 14; refine (specAreLabels_any _ _ _ L _ hr).mono ?_; rintro e w' ⟨rfl, x1, rfl⟩; have sx1 := Ext.size x1; try simp at sx1)
    go_ret
    refine ⟨ret_int (by rw [plCode_1 t1]), ext_mk ?_⟩
    (repeat' (first | (with_reducible exact Below.refl _ _) | (with_reducible assumption) | (with_reducible refine Below.setCell ?_ ?_ _) | (with_reducible refine Below.alloc ?_ ?_ _) | (with_reducible refine Below.ext ?_ ?_ _) | omega | (simp; done) | (simp; omega) | (with_reducible refine Below.drew ?_)))
end Go.Proofs.Ytnnpmbcamnnfgaa
