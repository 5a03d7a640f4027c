/- The copying and comparing helpers of the laws, and the law FnExactAreLabels itself, answer as written here, for every readable slice of labels. -/
import Derived.Test.YtnnpmbcamnnfgaaA3
namespace Go.Proofs.Ytnnpmbcamnnfgaa
open Go.RowKit

theorem info_implLabel : (Try.prog.info? 55).map (fun i => (i.zero, i.size, i.bytes)) = some (some (.agg #[.int .i64 0, .int .i64 0, .int .i64 0, .int .i64 0]), 4, 32) := by kernel_rfl

/-- A new slice, wholly the call's own, that reads as L. -/
def Fresh {α : Type} [Rep α] (w w' : World) (t : Nat) (v : Value) (L : List α) : Prop :=
  ∃ g l, v = .slice (some ⟨g, 0, none⟩) L.length L.length ∧ w.heap.size ≤ g ∧ Blk w' g t l ∧ Enc w' (bt w.heap.size w'.heap.size) L l

set_option maxHeartbeats 1000000 in
set_option maxRecDepth 100000 in
theorem toLabelS_any (A : Option Addr) (n c : Nat) (L : List Label) (w : World) (hr : Rd w (lt w.heap.size) A n c L) (hn : n ≤ 1048576) :
    Calls Try.prog 15 #[.slice A n c] w fun e w' => ∃ v, e = .returned v ∧ Below w.heap.size w w' ∧ Fresh w w' 55 v L := by
  have hmk := fun W => make_any (P := Try.prog) 25 55 Try.underlying25 info_implLabel .i64 .i64 n n (Nat.le_refl _) (by omega) (by omega) W
  go_enter Try.func15, Try.ntmps15
  go_wp2
  go_loopw [4] (fun i wr => Below w.heap.size w wr ∧ ∃ l, Blk wr w.heap.size 55 l ∧ l.length = n * 4 ∧ ∃ k : Nat, k ≤ n ∧ i = .int .i64 k ∧ Enc wr (bt w.heap.size wr.heap.size) (L.take k) (l.take (k * 4))) (fun i _ => n - (intOf i).toNat)
  case atStart => exact ⟨(Below.refl _ _).alloc (Nat.le_refl _) _, _, Blk.made _ _ _, by rw [Array.length_toList, size_madeCells], 0, Nat.zero_le _, rfl, by simp [Enc]⟩
  case round =>
    obtain ⟨hbw, l, hB, hl, k, hk, rfl, H⟩ := hrel
    obtain ⟨X, rfl⟩ := ext_of hbw
    have sX := X.size
    clear hmk
    by_cases hlt : k < n
    · obtain ⟨x, hx⟩ := hr.get hlt
      obtain ⟨b, o, rfl, hbo, c0, c1, c2, c3⟩ := hr.at_Label hx
      have hx' := Lib.hid hx
      clear hx
      simp only [lt] at hbo
      obtain ⟨v0, d0⟩ := hB.val (i := k * 4) (by omega)
      obtain ⟨v1, d1⟩ := hB.val (i := k * 4 + 1) (by omega)
      obtain ⟨v2, d2⟩ := hB.val (i := k * 4 + 2) (by omega)
      obtain ⟨v3, d3⟩ := hB.val (i := k * 4 + 3) (by omega)
      have hf := hB.frozen
      have hgs := hB.lt
      go_wp2_with (go_at_call 53; refine (toLabel_any x _).mono ?_; rintro e w' ⟨rfl, x1, rfl⟩; have sx1 := Ext.size x1; try simp at sx1)
      have hB' := ((((hB.ext x1).set_ (k * 4) (.int .i64 x.X)).set_ (k * 4 + 1) (.int .i64 x.Y)).set_ (k * 4 + 2) (.int .i64 x.Len)).set_ (k * 4 + 3) (.int .i64 x.Pri)
      refine ⟨⟨?_, setRun l (k * 4) [.int .i64 x.X, .int .i64 x.Y, .int .i64 x.Len, .int .i64 x.Pri], hB', by rw [setRun_length, hl], k + 1, by omega, by go_num, ?_⟩, by simp [intOf]; omega⟩
      · (repeat' (first | (with_reducible exact Below.refl _ _) | (with_reducible assumption) | (with_reducible refine Below.setCell ?_ ?_ _) | (with_reducible refine Below.alloc ?_ ?_ _) | (with_reducible refine Below.ext ?_ ?_ _) | omega | (simp; done) | (simp; omega) | (with_reducible refine Below.drew ?_)))
      · exact (H.flat.put hx'.out rfl (by show (k + 1) * 4 ≤ _; omega) :)
    · go_wp2
      go_ret
      obtain rfl : k = n := by omega
      have e := hr.eq
      rw [← e, List.take_length] at H
      refine ⟨_, rfl, ?_, w.heap.size, l, by rw [e]; rfl, Nat.le_refl _, hB, ?_⟩
      · (repeat' (first | (with_reducible exact Below.refl _ _) | (with_reducible assumption) | (with_reducible refine Below.setCell ?_ ?_ _) | (with_reducible refine Below.alloc ?_ ?_ _) | (with_reducible refine Below.ext ?_ ?_ _) | omega | (simp; done) | (simp; omega) | (with_reducible refine Below.drew ?_)))
      · rw [List.take_of_length_le (by omega)] at H; exact H

theorem ok_ret {P : Prop} {v : Value} (h : P) : Ending.returned v = .returned v ∧ P := ⟨rfl, h⟩
set_option maxHeartbeats 1000000 in
set_option maxRecDepth 100000 in
theorem szLabelS_ok (A : Option Addr) (n c : Nat) (m : Int) (w : World) (h1 : n ≤ m) (h2 : m ≤ 1048576) :
    Calls Try.prog 13 #[.slice A n c, .int .i64 m] w fun e w' => e = .returned (.int .i64 (m - n)) ∧ w = w' := by
  go_enter Try.func13, Try.ntmps13
  go_wp2
  go_ret
  exact ⟨rfl, rfl⟩
set_option maxHeartbeats 1000000 in
set_option maxRecDepth 100000 in
theorem szLabelS_no (A : Option Addr) (n c : Nat) (m : Int) (w : World) (hn : n ≤ 9223372036854775807) (h0 : 0 ≤ m) (h1 : m < n) :
    Calls Try.prog 13 #[.slice A n c, .int .i64 m] w fun e w' => e = .returned (.int .i64 (-1)) ∧ w = w' := by
  go_enter Try.func13, Try.ntmps13
  go_wp2
  go_ret
  exact ⟨rfl, rfl⟩

def eqAll {α : Type} (f : α → α → Bool) : List α → List α → Bool
  | [], [] => true
  | x :: r, y :: s => f x y && eqAll f r s
  | _, _ => false
theorem eqAll_ne {α : Type} (f : α → α → Bool) : ∀ (L M : List α), L.length ≠ M.length → eqAll f L M = false
  | [], [], h => absurd rfl h
  | [], _ :: _, _ => rfl
  | _ :: _, [], _ => rfl
  | x :: r, y :: s, h => by rw [eqAll, eqAll_ne f r s (by simpa using h)]; simp
set_option maxHeartbeats 1000000 in
set_option maxRecDepth 100000 in
theorem eqLabelS_any (A A' : Option Addr) (n c n' c' : Nat) (L M : List Label) (w : World) (hr : Rd w (lt w.heap.size) A n c L) (hr' : Rd w (lt w.heap.size) A' n' c' M) :
    Calls Try.prog 17 #[.slice A n c, .slice A' n' c'] w fun e w' => e = .returned (.bool (eqAll eqLab L M)) ∧ ∃ X : Ext w, w' = X.W := by
  have hL := hr.len
  have hL' := hr'.len
  by_cases hne : n = n'
  · subst hne
    go_enter Try.func17, Try.ntmps17
    go_wp2
    go_loopw [5] (fun i wr => Below w.heap.size w wr ∧ ∃ k : Nat, k ≤ n ∧ i = .int .i64 k ∧ Hid (eqAll eqLab (L.drop k) (M.drop k) = eqAll eqLab L M)) (fun i _ => n - (intOf i).toNat)
    case atStart => exact ⟨Below.refl _ _, 0, Nat.zero_le _, rfl, by simp [Hid]⟩
    case round =>
      obtain ⟨hbw, k, hk, rfl, H⟩ := hrel
      obtain ⟨X, rfl⟩ := ext_of hbw
      have sX := X.size
      by_cases hlt : k < n
      · obtain ⟨x, hx⟩ := hr.get hlt
        obtain ⟨y, hy⟩ := hr'.get hlt
        obtain ⟨b, o, rfl, hbo, c0, c1, c2, c3⟩ := hr.at_Label hx
        obtain ⟨b', o', rfl, hbo', c0', c1', c2', c3'⟩ := hr'.at_Label hy
        have hx' := Lib.hid hx
        have hy' := Lib.hid hy
        clear hx hy
        simp only [lt] at hbo hbo'
        go_wp2
        refine wp_region_ext (by kernel_rfl) (by kernel_rfl) ?_
        repeat (go_big_quiet_step ((go_at_call 57; exact calls_ext (eqLabel_any x y _))))
        refine wpQuiet_nil ?_
        intro x2
        have s2 := x2.size
        go_wp2
        · go_ret
          refine ⟨ret_bool ?_, ext_mk ?_⟩
          · rw [← H.out, drop_of hx'.out, drop_of hy'.out, eqAll]; simp_all
          · (repeat' (first | (with_reducible exact Below.refl _ _) | (with_reducible assumption) | (with_reducible refine Below.setCell ?_ ?_ _) | (with_reducible refine Below.alloc ?_ ?_ _) | (with_reducible refine Below.ext ?_ ?_ _) | omega | (simp; done) | (simp; omega) | (with_reducible refine Below.drew ?_)))
        · refine ⟨⟨?_, k + 1, by omega, by go_num, ?_⟩, by simp [intOf]; omega⟩
          · (repeat' (first | (with_reducible exact Below.refl _ _) | (with_reducible assumption) | (with_reducible refine Below.setCell ?_ ?_ _) | (with_reducible refine Below.alloc ?_ ?_ _) | (with_reducible refine Below.ext ?_ ?_ _) | omega | (simp; done) | (simp; omega) | (with_reducible refine Below.drew ?_)))
          · have h := H.out
            rw [drop_of hx'.out, drop_of hy'.out, eqAll] at h
            rw [← h]; simp_all [Hid]
      · go_wp2
        go_ret
        refine ⟨ret_bool ?_, ext_mk ?_⟩
        · have h := H.out
          rw [List.drop_eq_nil_of_le (by have := hr.eq; omega), List.drop_eq_nil_of_le (by have := hr'.eq; omega)] at h
          rw [← h]; rfl
        · (repeat' (first | (with_reducible exact Below.refl _ _) | (with_reducible assumption) | (with_reducible refine Below.setCell ?_ ?_ _) | (with_reducible refine Below.alloc ?_ ?_ _) | (with_reducible refine Below.ext ?_ ?_ _) | omega | (simp; done) | (simp; omega) | (with_reducible refine Below.drew ?_)))
  · have hb1 : ((n : Int) != n') = true := by simp; omega
    go_enter Try.func17, Try.ntmps17
    go_wp2
    go_ret
    refine ⟨ret_bool ?_, ext_mk ?_⟩
    · rw [eqAll_ne _ _ _ (by rw [hr.eq, hr'.eq]; exact hne)]
    · (repeat' (first | (with_reducible exact Below.refl _ _) | (with_reducible assumption) | (with_reducible refine Below.setCell ?_ ?_ _) | (with_reducible refine Below.alloc ?_ ?_ _) | (with_reducible refine Below.ext ?_ ?_ _) | omega | (simp; done) | (simp; omega) | (with_reducible refine Below.drew ?_)))
theorem eqAll_refl {α : Type} (f : α → α → Bool) (hf : ∀ x, f x x = true) : ∀ L : List α, eqAll f L L = true
  | [] => rfl
  | x :: r => by rw [eqAll, hf, eqAll_refl f hf r]; rfl

theorem Blk.rdl {α : Type} [Rep α] {w w' : World} {g t : Nat} {l : List Value} {L : List α} (hb : Blk w' g t l) (he : Enc w' (bt w.heap.size w'.heap.size) L l) (hm : L.length ≤ maxLen) :
    Rd w' (Go.Proofs.Ytnnpmbcamnnfgaa.lt w'.heap.size) (some ⟨g, 0, none⟩) L.length L.length L := hb.rd (he.mono fun _ h => h.2) rfl (Nat.le_refl _) hm hb.lt

set_option maxHeartbeats 1000000 in
set_option maxRecDepth 100000 in
theorem lawAreLabels_any (A : Option Addr) (n c : Nat) (L : List Label) (w : World) (hr : Rd w (lt w.heap.size) A n c L) :
    Calls Try.prog 3 #[.slice A n c] w fun e w' => e = .returned (.bool true) ∧ ∃ X : Ext w, w' = X.W := by
  by_cases hn : n ≤ 1048576
  · go_enter Try.func3, Try.ntmps3
    go_wp2_with (go_at_call 13; refine (szLabelS_ok _ _ _ _ _ (by omega) (by omega)).mono ?_; rintro e w' ⟨rfl, rfl⟩)
    have hm : L.length ≤ maxLen := by have := hr.eq; simp [maxLen]; omega
    refine (toLabelS_any A n c L _ hr hn).mono ?_
    rintro e w1 ⟨v1, rfl, b1, g1, l1, rfl, hg1, hB1, hE1⟩
    go_wp2_with (fail)
    refine (specAreLabels_any _ _ _ L _ (hB1.rdl hE1 hm)).mono ?_
    rintro e w' ⟨rfl, x1, rfl⟩
    have c1 := Below.ext b1 b1.size x1
    go_wp2_with (fail)
    refine (toLabelS_any A n c L _ (hr.now c1 c1.size) hn).mono ?_
    rintro e w2 ⟨v2, rfl, b2, g2, l2, rfl, hg2, hB2, hE2⟩
    have c2 := c1.trans (b2.mono c1.size)
    go_wp2_with (fail)
    refine (implAreLabels_any _ _ _ L _ (hB2.rdl hE2 hm)).mono ?_
    rintro e w' ⟨rfl, x2, rfl⟩
    have c3 := Below.ext c2 c2.size x2
    go_wp2_with (fail)
    refine (toLabelS_any A n c L _ (hr.now c3 c3.size) hn).mono ?_
    rintro e w3 ⟨v3, rfl, b3, g3, l3, rfl, hg3, hB3, hE3⟩
    have c4 := c3.trans (b3.mono c3.size)
    go_wp2_with (fail)
    refine (eqLabelS_any _ _ _ _ _ _ L L _ (((hB2.rdl hE2 hm).now (x2.h.trans (b3.mono x2.size)) (Nat.le_trans x2.size b3.size)) :) (hB3.rdl hE3 hm)).mono ?_
    rintro e w' ⟨rfl, x3, rfl⟩
    have c5 := Below.ext c4 c4.size x3
    have he := eqAll_refl eqLab (fun x => by simp [eqLab]) L
    go_wp2
    go_ret
    exact ⟨rfl, ext_mk c5⟩
  · go_enter Try.func3, Try.ntmps3
    go_wp2_with (go_at_call 13; refine (szLabelS_no _ _ _ _ _ (by have := hr.len; omega) (by omega) (by omega)).mono ?_; rintro e w' ⟨rfl, rfl⟩)
    go_ret
    exact ⟨rfl, ext_mk (Below.refl _ _)⟩
end Go.Proofs.Ytnnpmbcamnnfgaa
