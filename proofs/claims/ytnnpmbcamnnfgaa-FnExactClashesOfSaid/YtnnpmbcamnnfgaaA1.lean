/- The point and label tests of program and reference, and the reference AreLabels, compute the Lean functions written here; no condition beyond the slice being readable. -/
import Derived.Test.YtnnpmbcamnnfgaaLib
namespace Go.Proofs.Ytnnpmbcamnnfgaa
open Go.RowKit
structure Label where
  X : Int
  Y : Int
  Len : Int
  Pri : Int
instance : Rep Label where
  sz := 4
  rep _ _ x cs := cs = [.int .i64 x.X, .int .i64 x.Y, .int .i64 x.Len, .int .i64 x.Pri]
  ok x := Rep.ok x.X ∧ Rep.ok x.Y ∧ Rep.ok x.Len ∧ Rep.ok x.Pri
  len h := by rw [h]; rfl
  keep h _ := h
  mono h _ := h
theorem Rd.at_Label {w : World} {S : Nat → Prop} {A : Option Addr} {n c k : Nat} {L : List Label} {x : Label} (h : Rd w S A n c L) (hx : L[k]? = some x) :
    ∃ b o, A = some ⟨b, o, none⟩ ∧ S b ∧ w.cell? ⟨b, o + k * 4, none⟩ = some (.int .i64 x.X) ∧ w.cell? ⟨b, o + k * 4 + 1, none⟩ = some (.int .i64 x.Y) ∧ w.cell? ⟨b, o + k * 4 + 2, none⟩ = some (.int .i64 x.Len) ∧ w.cell? ⟨b, o + k * 4 + 3, none⟩ = some (.int .i64 x.Pri) := by
  obtain ⟨b, o, cs, hA, hb, rfl, hc⟩ := h.2.2.2 k x hx
  exact ⟨b, o, hA, hb, hc 0 _ rfl, hc 1 _ rfl, hc 2 _ rfl, hc 3 _ rfl⟩
instance : Flat Label := ⟨fun h => h⟩
abbrev Label.val (x : Label) : Value := .agg #[.int .i64 x.X, .int .i64 x.Y, .int .i64 x.Len, .int .i64 x.Pri]
structure Point where
  X : Int
  Y : Int
instance : Rep Point where
  sz := 2
  rep _ _ x cs := cs = [.int .i64 x.X, .int .i64 x.Y]
  ok x := Rep.ok x.X ∧ Rep.ok x.Y
  len h := by rw [h]; rfl
  keep h _ := h
  mono h _ := h
theorem Rd.at_Point {w : World} {S : Nat → Prop} {A : Option Addr} {n c k : Nat} {L : List Point} {x : Point} (h : Rd w S A n c L) (hx : L[k]? = some x) :
    ∃ b o, A = some ⟨b, o, none⟩ ∧ S b ∧ w.cell? ⟨b, o + k * 2, none⟩ = some (.int .i64 x.X) ∧ w.cell? ⟨b, o + k * 2 + 1, none⟩ = some (.int .i64 x.Y) := by
  obtain ⟨b, o, cs, hA, hb, rfl, hc⟩ := h.2.2.2 k x hx
  exact ⟨b, o, hA, hb, hc 0 _ rfl, hc 1 _ rfl⟩
instance : Flat Point := ⟨fun h => h⟩
abbrev Point.val (x : Point) : Value := .agg #[.int .i64 x.X, .int .i64 x.Y]
theorem eqlPoint (a b c d : Int) (w : World) : (Op.equalIn 10000 53 (.agg #[.int .i64 a, .int .i64 b]) (.agg #[.int .i64 c, .int .i64 d])).run Try.prog w = .ok (a == c && b == d) w := by
  have hS : Try.prog.underlying 53 = some (.struct (Try.prog.fieldsOf 53)) := by kernel_rfl
  have hp : Try.prog.stoodInHeld 53 = false := by kernel_rfl
  rw [run_equalIn_agg w 9999 _ _ _ hS hp]
  simp only [Program.fieldsOf, Try.underlying53]
  have u2 := Try.underlying2
  have a2 := Try.isAgg2
  have z2 := Try.sizeOf2
  go_simp
  by_cases h1 : a = c <;> by_cases h2 : b = d <;> simp [h1, h2]
theorem guardPoint : Try.prog.eqGuardType Try.prog.depth 53 = false := by kernel_rfl
theorem eqlPt (a b c d : Int) (w : World) : (binOp .eql 53 (.agg #[.int .i64 a, .int .i64 b]) (.agg #[.int .i64 c, .int .i64 d])).run Try.prog w = .ok (.bool (a == c && b == d)) w := by
  rw [run_eql_struct, eqlPoint]; rfl
attribute [go_sem] guardPoint
attribute [go_sem ↓] eqlPt
def inB (x lo hi : Int) : Bool := decide (lo ≤ x) && decide (x ≤ hi)
def isPt (x y : Int) : Bool := inB x (-1000) 1000 && inB y (-1000) 1000

set_option maxHeartbeats 400000 in
set_option maxRecDepth 100000 in
theorem within_any (x lo hi : Int) (w : World) :
    Calls Try.prog 55 #[.int .i64 x, .int .i64 lo, .int .i64 hi] w fun e w' => e = .returned (.bool (inB x lo hi)) ∧ w = w' := by
  by_cases h : lo ≤ x <;>
  · go_enter Try.func55, Try.ntmps55
    go_wp2
    go_ret
    exact ⟨ret_bool (by first | (simp [inB, h]; done) | (simp [inB]; omega)), rfl⟩
set_option maxHeartbeats 400000 in
set_option maxRecDepth 100000 in
theorem l01In_any (x lo hi : Int) (w : World) :
    Calls Try.prog 52 #[.int .i64 x, .int .i64 lo, .int .i64 hi] w fun e w' => e = .returned (.bool (inB x lo hi)) ∧ w = w' := by
  by_cases h : lo ≤ x <;>
  · go_enter Try.func52, Try.ntmps52
    go_wp2
    go_ret
    exact ⟨ret_bool (by first | (simp [inB, h]; done) | (simp [inB]; omega)), rfl⟩
set_option maxHeartbeats 400000 in
set_option maxRecDepth 100000 in
theorem implIsPoint_any (x y : Int) (w : World) :
    Calls Try.prog 54 #[.agg #[.int .i64 x, .int .i64 y]] w fun e w' => e = .returned (.bool (isPt x y)) ∧ ∃ X : Ext w, w' = X.W := by
  by_cases h : inB x (-1000) 1000 = true <;>
  · go_enter Try.func54, Try.ntmps54
    go_wp2_with (go_at_call 55; refine (within_any _ _ _ _).mono ?_; rintro e w' ⟨rfl, rfl⟩)
    go_ret
    refine ⟨ret_bool (by simp [isPt, h]), ext_mk ?_⟩
    (repeat' (first | (with_reducible exact Below.refl _ _) | (with_reducible assumption) | (with_reducible refine Below.setCell ?_ ?_ _) | (with_reducible refine Below.alloc ?_ ?_ _) | (with_reducible refine Below.ext ?_ ?_ _) | omega | (simp; done) | (simp; omega) | (with_reducible refine Below.drew ?_)))
set_option maxHeartbeats 400000 in
set_option maxRecDepth 100000 in
theorem specIsPoint_any (x y : Int) (w : World) :
    Calls Try.prog 51 #[.agg #[.int .i64 x, .int .i64 y]] w fun e w' => e = .returned (.bool (isPt x y)) ∧ ∃ X : Ext w, w' = X.W := by
  by_cases h : inB x (-1000) 1000 = true <;>
  · go_enter Try.func51, Try.ntmps51
    go_wp2_with (go_at_call 52; refine (l01In_any _ _ _ _).mono ?_; rintro e w' ⟨rfl, rfl⟩)
    go_ret
    refine ⟨ret_bool (by simp [isPt, h]), ext_mk ?_⟩
    (repeat' (first | (with_reducible exact Below.refl _ _) | (with_reducible assumption) | (with_reducible refine Below.setCell ?_ ?_ _) | (with_reducible refine Below.alloc ?_ ?_ _) | (with_reducible refine Below.ext ?_ ?_ _) | omega | (simp; done) | (simp; omega) | (with_reducible refine Below.drew ?_)))

def eqXY (x y x2 y2 : Int) : Bool := x == x2 && y == y2
set_option maxHeartbeats 400000 in
set_option maxRecDepth 100000 in
theorem eqPoint_any (x y x2 y2 : Int) (w : World) :
    Calls Try.prog 68 #[.agg #[.int .i64 x, .int .i64 y], .agg #[.int .i64 x2, .int .i64 y2]] w fun e w' => e = .returned (.bool (eqXY x y x2 y2)) ∧ ∃ X : Ext w, w' = X.W := by
  go_enter Try.func68, Try.ntmps68
  go_wp2
  all_goals
    go_ret
    refine ⟨ret_bool (by simp_all [eqXY]), ext_mk ?_⟩
    (repeat' (first | (with_reducible exact Below.refl _ _) | (with_reducible assumption) | (with_reducible refine Below.setCell ?_ ?_ _) | (with_reducible refine Below.alloc ?_ ?_ _) | (with_reducible refine Below.ext ?_ ?_ _) | omega | (simp; done) | (simp; omega) | (with_reducible refine Below.drew ?_)))

def eqLab (a b : Label) : Bool := a.X == b.X && a.Y == b.Y && a.Len == b.Len && a.Pri == b.Pri
set_option maxHeartbeats 400000 in
set_option maxRecDepth 100000 in
theorem eqLabel_any (a b : Label) (w : World) :
    Calls Try.prog 57 #[a.val, b.val] w fun e w' => e = .returned (.bool (eqLab a b)) ∧ ∃ X : Ext w, w' = X.W := by
  go_enter Try.func57, Try.ntmps57
  go_wp2_with (first | (go_at_call 68; refine (eqPoint_any _ _ _ _ _).mono ?_; rintro e w' ⟨rfl, x1, rfl⟩; have s1 := x1.size; simp at s1))
  all_goals
    go_ret
    refine ⟨ret_bool (by first | (simp_all [eqLab, eqXY]; done) | (simp_all [eqLab, eqXY]; omega)), ext_mk ?_⟩
    (repeat' (first | (with_reducible exact Below.refl _ _) | (with_reducible assumption) | (with_reducible refine Below.setCell ?_ ?_ _) | (with_reducible refine Below.alloc ?_ ?_ _) | (with_reducible refine Below.ext ?_ ?_ _) | omega | (simp; done) | (simp; omega) | (with_reducible refine Below.drew ?_)))

def sameAt (a b : Label) : Bool := b.X == a.X && b.Y == a.Y
def okOne (l : Label) : Bool := isPt l.X l.Y && inB l.Len 1 20 && inB l.Pri 1 9
def okFrom (pre : List Label) : List Label → Bool
  | [] => true
  | l :: r => okOne l && !pre.any (sameAt l) && okFrom (pre ++ [l]) r
def areLabels (L : List Label) : Bool := okFrom [] L && decide (L.length ≤ 6)
section
variable {L : List Label} {k : Nat} {x : Label}
theorem ok_fail (H : okFrom (L.take k) (L.drop k) = okFrom [] L) (hx : L[k]? = some x) (h : okOne x = false ∨ (L.take k).any (sameAt x) = true) : areLabels L = false := by
  rw [drop_of hx, okFrom] at H
  unfold areLabels
  rw [← H]
  rcases h with h | h <;> rw [h] <;> simp
theorem ok_next (H : okFrom (L.take k) (L.drop k) = okFrom [] L) (hx : L[k]? = some x) (h1 : okOne x = true) (h2 : (L.take k).any (sameAt x) = false) : okFrom (L.take (k + 1)) (L.drop (k + 1)) = okFrom [] L := by
  rw [drop_of hx, okFrom, h1, h2] at H
  rw [take_of hx]
  simpa using H
theorem ok_end (H : okFrom (L.take k) (L.drop k) = okFrom [] L) (hk : L.length ≤ k) : areLabels L = decide (L.length ≤ 6) := by
  rw [List.drop_eq_nil_of_le hk] at H
  unfold areLabels
  rw [← H]
  simp [okFrom]
end

set_option maxHeartbeats 400000 in
set_option maxRecDepth 100000 in
theorem specAreLabels_any (A : Option Addr) (n c : Nat) (L : List Label) (w : World) (hr : Rd w (lt w.heap.size) A n c L) :
    Calls Try.prog 14 #[.slice A n c] w fun e w' => e = .returned (.bool (areLabels L)) ∧ ∃ X : Ext w, w' = X.W := by
  have hL := hr.len
  go_enter Try.func14, Try.ntmps14
  go_wp2
  go_loopw [3] (fun i wr => ∃ X : Ext w, wr = X.W ∧ ∃ k : Nat, k ≤ n ∧ i = .int .i64 k ∧ Hid (okFrom (L.take k) (L.drop k) = okFrom [] L)) (fun i _ => n - (intOf i).toNat)
  case atStart => exact ⟨Ext.refl w, rfl, 0, Nat.zero_le _, rfl, by simp [Hid]⟩
  case round =>
    obtain ⟨X, rfl, k, hk, rfl, H⟩ := hrel
    have sX := X.size
    by_cases hlt : k < n
    · obtain ⟨x, hx⟩ := hr.get hlt
      obtain ⟨b, o, rfl, hbo, c0, c1, c2, c3⟩ := hr.at_Label hx
      have hx' := Lib.hid hx
      clear hx
      simp only [lt] at hbo
      go_wp2_with (first | (go_at_call 51; refine (specIsPoint_any _ _ _).mono ?_; rintro e w' ⟨rfl, x1, rfl⟩; have s1 := x1.size; simp at s1) | (go_at_call 52; refine (l01In_any _ _ _ _).mono ?_; rintro e w' ⟨rfl, rfl⟩))
      all_goals try (go_ret; refine ⟨ret_bool (ok_fail H.out hx'.out (.inl (by simp_all [okOne]))).symm, ext_mk ?_⟩; (repeat' (first | (with_reducible exact Below.refl _ _) | (with_reducible assumption) | (with_reducible refine Below.setCell ?_ ?_ _) | (with_reducible refine Below.alloc ?_ ?_ _) | (with_reducible refine Below.ext ?_ ?_ _) | omega | (simp; done) | (simp; omega) | (with_reducible refine Below.drew ?_))))
      refine wp_named fun W0 hW0 => ?_
      have b0 : W0.cell? ⟨X.W.heap.size, 0, none⟩ = some (.int .i64 x.X) := by rw [hW0]; go_simp
      have b1 : W0.cell? ⟨X.W.heap.size, 1, none⟩ = some (.int .i64 x.Y) := by rw [hW0]; go_simp
      have B0 : Below w.heap.size w W0 := by rw [hW0]; (repeat' (first | (with_reducible exact Below.refl _ _) | (with_reducible assumption) | (with_reducible refine Below.setCell ?_ ?_ _) | (with_reducible refine Below.alloc ?_ ?_ _) | (with_reducible refine Below.ext ?_ ?_ _) | omega | (simp; done) | (simp; omega) | (with_reducible refine Below.drew ?_)))
      have z0 : X.W.heap.size < W0.heap.size := by rw [hW0]; omega
      have zw : w.heap.size ≤ W0.heap.size := B0.size
      have hr0 := hr.below B0
      have hok : okOne x = true := by simp_all [okOne]
      have Hok := Lib.hid hok
      clear hW0 hok c0 c1 c2 c3
      rename_i t1 t2 t3
      clear t1 t2 t3
      go_loopw [5] (fun i wr => ∃ Y : Ext W0, wr = Y.W ∧ ∃ j : Nat, j ≤ k ∧ i = .int .i64 j ∧ Hid ((L.take j).any (sameAt x) = false)) (fun i _ => k - (intOf i).toNat)
      case atStart => exact ⟨Ext.refl W0, rfl, 0, Nat.zero_le _, rfl, by simp [Hid]⟩
      case round =>
        obtain ⟨Y, rfl, j, hj, rfl, HJ⟩ := hrel
        have sY := Y.size
        by_cases hlj : j < k
        · obtain ⟨y, hy⟩ := hr.get (k := j) (by omega)
          obtain ⟨b', o', hbo', hb', c0, c1, c2, c3⟩ := hr0.at_Label hy
          simp only [Option.some.injEq, Addr.mk.injEq, and_true] at hbo'
          obtain ⟨rfl, rfl⟩ := hbo'
          have hy' := Lib.hid hy
          clear hy
          go_wp2
          refine wp_region_ext (by kernel_rfl) (by kernel_rfl) ?_
          repeat (go_big_quiet_step (fail))
          refine wpQuiet_nil ?_
          intro x2
          have s2 := x2.size
          go_wp2
          · go_ret
            refine ⟨ret_bool (ok_fail H.out hx'.out (.inr (any_hit hlj hy'.out (by simp_all [sameAt])))).symm, ext_mk ?_⟩
            (repeat' (first | (with_reducible exact Below.refl _ _) | (with_reducible assumption) | (with_reducible refine Below.setCell ?_ ?_ _) | (with_reducible refine Below.alloc ?_ ?_ _) | (with_reducible refine Below.ext ?_ ?_ _) | omega | (simp; done) | (simp; omega) | (with_reducible refine Below.drew ?_)))
          · have hs : sameAt x y = false := by unfold sameAt; rename_i t; rcases t with t | t <;> rw [t] <;> simp
            have Hs := Lib.hid hs
            clear hs
            refine ⟨ext_and ?_ ⟨j + 1, by omega, by go_num, any_step hy'.out HJ.out Hs.out⟩, by simp [intOf]; omega⟩
            (repeat' (first | (with_reducible exact Below.refl _ _) | (with_reducible assumption) | (with_reducible refine Below.setCell ?_ ?_ _) | (with_reducible refine Below.alloc ?_ ?_ _) | (with_reducible refine Below.ext ?_ ?_ _) | omega | (simp; done) | (simp; omega) | (with_reducible refine Below.drew ?_)))
        · go_wp2
          refine ⟨ext_and ?_ ⟨k + 1, by omega, by go_num, ?_⟩, by simp [intOf]; omega⟩
          · (repeat' (first | (with_reducible exact Below.refl _ _) | (with_reducible assumption) | (with_reducible refine Below.setCell ?_ ?_ _) | (with_reducible refine Below.alloc ?_ ?_ _) | (with_reducible refine Below.ext ?_ ?_ _) | omega | (simp; done) | (simp; omega) | (with_reducible refine Below.drew ?_)))
          · obtain rfl : j = k := by omega
            exact ok_next H.out hx'.out Hok.out HJ.out
    · go_wp2
      go_ret
      refine ⟨ret_bool ?_, ext_mk ?_⟩
      · have := hr.eq; rw [ok_end H.out (by omega)]; simp; omega
      · (repeat' (first | (with_reducible exact Below.refl _ _) | (with_reducible assumption) | (with_reducible refine Below.setCell ?_ ?_ _) | (with_reducible refine Below.alloc ?_ ?_ _) | (with_reducible refine Below.ext ?_ ?_ _) | omega | (simp; done) | (simp; omega) | (with_reducible refine Below.drew ?_)))
end Go.Proofs.Ytnnpmbcamnnfgaa
