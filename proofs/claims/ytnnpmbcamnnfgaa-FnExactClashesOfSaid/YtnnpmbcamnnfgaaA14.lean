/- clash of the program and l33Clash of the reference tell whether two labels cover a point in common, for labels within their bounds. -/
import Derived.Test.YtnnpmbcamnnfgaaA13
import Derived.Deep.RegionHeld3
import Derived.Deep.DeepCutAuto
namespace Go.Proofs.Ytnnpmbcamnnfgaa
open Go.RowKit
def clash (x : Label) (p : Int) (y : Label) (q : Int) : Bool := (cov x p).any fun t => covers y q t.X t.Y
theorem clash_comm {x y : Label} (hx : okL x) (hy : okL y) {p q : Int} (h0 : 0 ≤ p) (h4 : p ≤ 4) (g0 : 0 ≤ q) (g4 : q ≤ 4) : clash x p y q = clash y q x p := by
  unfold clash
  rw [Bool.eq_iff_iff, List.any_eq_true, List.any_eq_true]
  constructor
  · rintro ⟨t, h1, h2⟩
    exact ⟨t, (mem_cov hy g0 g4 t).2 h2, (mem_cov hx h0 h4 t).1 h1⟩
  · rintro ⟨t, h1, h2⟩
    exact ⟨t, (mem_cov hx h0 h4 t).2 h2, (mem_cov hy g0 g4 t).1 h1⟩
def hasPt (L : List Point) (x y : Int) : Bool := L.any fun t => eqXY x y t.X t.Y
theorem hasPt_cov {y : Label} (hy : okL y) {q : Int} (g0 : 0 ≤ q) (g4 : q ≤ 4) (a b : Int) : hasPt (cov y q) a b = covers y q a b := by
  rw [Bool.eq_iff_iff]
  simp only [hasPt, eqXY, List.any_eq_true, Bool.and_eq_true, beq_iff_eq]
  constructor
  · rintro ⟨t, ht, rfl, rfl⟩; exact (mem_cov hy g0 g4 t).1 ht
  · intro h; exact ⟨⟨a, b⟩, (mem_cov hy g0 g4 ⟨a, b⟩).2 h, rfl, rfl⟩
theorem eqlPt' (a b c d : Int) (w : World) : (binOp .eql 53 (.agg #[.int .i64 a, .int .i64 b]) (.agg #[.int .i64 c, .int .i64 d])).run Try.prog w = .ok (.bool (eqXY a b c d)) w := eqlPt a b c d w
set_option maxHeartbeats 1000000 in
set_option maxRecDepth 100000 in
theorem indexPt_any (A : Option Addr) (n c : Nat) (L : List Point) (x y : Int) (w : World) (hr : Rd w (lt w.heap.size) A n c L) :
    Calls Try.prog 103 #[.slice A n c, .agg #[.int .i64 x, .int .i64 y]] w fun e w' => e = .returned (.int .i64 (idxFrom (fun t => eqXY x y t.X t.Y) L 0)) ∧ ∃ X : Ext w, w' = X.W := by
  have hL := hr.len
  go_enter Try.func103, Try.ntmps103
  go_wp2
  refine wp_named fun W0 hW0 => ?_
  have q0 : W0.cell? ⟨w.heap.size, 0, none⟩ = some (.int .i64 x) := by rw [hW0]; go_simp
  have q1 : W0.cell? ⟨w.heap.size, 1, none⟩ = some (.int .i64 y) := by rw [hW0]; go_simp
  have bW : Below w.heap.size w W0 := by rw [hW0]; (repeat' (first | (with_reducible exact Below.refl _ _) | (with_reducible assumption) | (with_reducible refine Below.setCell ?_ ?_ _) | (with_reducible refine Below.alloc ?_ ?_ _) | (with_reducible refine Below.ext ?_ ?_ _) | omega | (simp; done) | (simp; omega) | (with_reducible refine Below.drew ?_)))
  have zW : w.heap.size < W0.heap.size := by rw [hW0]; simp
  have hr0 := hr.below bW
  clear hW0 hr
  go_loopw [8] (fun i wr => Below W0.heap.size W0 wr ∧ ∃ k : Nat, k ≤ n ∧ i = .int .i64 k ∧ Hid (idxFrom (fun t => eqXY x y t.X t.Y) (L.drop k) k = idxFrom (fun t => eqXY x y t.X t.Y) L 0)) (fun i _ => n - (intOf i).toNat)
  case atStart => exact ⟨Below.refl _ _, 0, Nat.zero_le _, rfl, by simp [Hid]⟩
  case round =>
    obtain ⟨hbw, k, hk, rfl, H⟩ := hrel
    obtain ⟨X, rfl⟩ := ext_of hbw
    have sX := X.size
    by_cases hlt : k < n
    · obtain ⟨t, ht⟩ := Rd.get hr0 hlt
      obtain ⟨bbt, oot, rfl, hbt, c0, c1⟩ := Rd.at_Point hr0 ht
      have Ht := Lib.hid ht
      clear ht
      simp only [lt] at hbt
      rcases Bool.eq_false_or_eq_true (eqXY x y t.X t.Y) with t1 | t1
      · have t2 : (x == t.X && y == t.Y) = true := t1
        go_wp2
        refine wp_region_ext (by kernel_rfl) (by kernel_rfl) ?_
        repeat (go_big_quiet_step (fail))
        refine wpQuiet_nil ?_
        intro x2
        have s2 := x2.size
        go_wp2
        go_ret
        refine ⟨ret_int ?_, ext_mk (bW.trans ((by (repeat' (first | (with_reducible exact Below.refl _ _) | (with_reducible assumption) | (with_reducible refine Below.setCell ?_ ?_ _) | (with_reducible refine Below.alloc ?_ ?_ _) | (with_reducible refine Below.ext ?_ ?_ _) | omega | (simp; done) | (simp; omega) | (with_reducible refine Below.drew ?_))) : Below W0.heap.size W0 x2.W).mono (by omega)))⟩
        rw [← H.out, drop_of Ht.out, idxFrom, if_pos t1]
      · have t2 : (x == t.X && y == t.Y) = false := t1
        go_wp2
        refine wp_region_ext (by kernel_rfl) (by kernel_rfl) ?_
        repeat (go_big_quiet_step (fail))
        refine wpQuiet_nil ?_
        intro x2
        have s2 := x2.size
        go_wp2
        refine ⟨⟨by (repeat' (first | (with_reducible exact Below.refl _ _) | (with_reducible assumption) | (with_reducible refine Below.setCell ?_ ?_ _) | (with_reducible refine Below.alloc ?_ ?_ _) | (with_reducible refine Below.ext ?_ ?_ _) | omega | (simp; done) | (simp; omega) | (with_reducible refine Below.drew ?_))), k + 1, by omega, by go_num, ?_⟩, by simp [intOf]; omega⟩
        have h := H.out
        rw [drop_of Ht.out, idxFrom, if_neg (by rw [t1]; decide)] at h
        exact h
    · go_wp2
      go_ret
      refine ⟨ret_int ?_, ext_mk (bW.trans (hbw.mono (by omega)))⟩
      rw [← H.out, List.drop_eq_nil_of_le (by have := hr0.eq; omega)]; rfl
set_option maxHeartbeats 1000000 in
set_option maxRecDepth 100000 in
theorem hasPt_any (A : Option Addr) (n c : Nat) (L : List Point) (x y : Int) (w : World) (hr : Rd w (lt w.heap.size) A n c L) :
    Calls Try.prog 95 #[.slice A n c, .agg #[.int .i64 x, .int .i64 y]] w fun e w' => e = .returned (.bool (hasPt L x y)) ∧ ∃ X : Ext w, w' = X.W := by
  go_enter Try.func95, Try.ntmps95
  go_wp2_with (go_at_call 103; refine (indexPt_any _ _ _ L _ _ _ (hr.now ((Below.refl _ _).alloc (Nat.le_refl _) _) (by simp))).mono ?_; rintro e w' ⟨rfl, x1, rfl⟩; have sx1 := Ext.size x1; try simp at sx1)
  go_ret
  refine ⟨ret_bool (idx_any _ L 0), ext_mk ?_⟩
  (repeat' (first | (with_reducible exact Below.refl _ _) | (with_reducible assumption) | (with_reducible refine Below.setCell ?_ ?_ _) | (with_reducible refine Below.alloc ?_ ?_ _) | (with_reducible refine Below.ext ?_ ?_ _) | omega | (simp; done) | (simp; omega) | (with_reducible refine Below.drew ?_)))
set_option maxHeartbeats 1000000 in
set_option maxRecDepth 100000 in
theorem clash1_any (A : Option Addr) (n c : Nat) (L : List Point) (b o : Nat) (x y : Int) (w : World) (hr : Rd w (lt w.heap.size) A n c L) (hb : b < w.heap.size) (h0 : w.cell? ⟨b, o, none⟩ = some (.slice A n c)) :
    Calls Try.prog 94 #[.agg #[.int .i64 x, .int .i64 y], .pointer (some ⟨b, o, none⟩)] w fun e w' => e = .returned (.bool (hasPt L x y)) ∧ ∃ X : Ext w, w' = X.W := by
  go_enter Try.func94, Try.ntmps94
  go_wp2_with (go_at_call 95; refine (hasPt_any _ _ _ L _ _ _ (hr.now ((Below.refl _ _).alloc (Nat.le_refl _) _) (by simp))).mono ?_; rintro e w' ⟨rfl, x1, rfl⟩; have sx1 := Ext.size x1; try simp at sx1)
  go_ret
  refine ⟨ret_bool rfl, ext_mk ?_⟩
  (repeat' (first | (with_reducible exact Below.refl _ _) | (with_reducible assumption) | (with_reducible refine Below.setCell ?_ ?_ _) | (with_reducible refine Below.alloc ?_ ?_ _) | (with_reducible refine Below.ext ?_ ?_ _) | omega | (simp; done) | (simp; omega) | (with_reducible refine Below.drew ?_)))
theorem clash1_ents : Ents Try.prog 94 := ents_of Try.func94 (by kernel_rfl) rfl
set_option maxHeartbeats 1000000 in
set_option maxRecDepth 100000 in
theorem specClash_any (l : Label) (p : Int) (m : Label) (q : Int) (w : World) (hl : okL l) (h0 : 0 ≤ p) (h4 : p ≤ 4) (hm : okL m) (g0 : 0 ≤ q) (g4 : q ≤ 4) :
    Calls Try.prog 75 #[.agg #[.int .i64 l.X, .int .i64 l.Y, .int .i64 l.Len, .int .i64 l.Pri], .int .i64 p, .agg #[.int .i64 m.X, .int .i64 m.Y, .int .i64 m.Len, .int .i64 m.Pri], .int .i64 q] w fun e w' => e = .returned (.bool (clash l p m q)) ∧ ∃ X : Ext w, w' = X.W := by
  have hln := cov_len hl p
  have HL := Lib.hid hl
  have HM := Lib.hid hm
  clear hl hm
  go_enter Try.func75, Try.ntmps75
  go_wp2_with (fail)
  refine (points_any l p _ HL.out h0 h4).mono ?_
  rintro e w2 ⟨v, rfl, hb, ha⟩
  obtain ⟨A2, c2, rfl⟩ := ha.form
  have z2 := hb.size
  simp at z2
  obtain ⟨Z, rfl⟩ := ext_of hb
  have hr2 := ha.read (by decide) (by simp [maxLen]; omega)
  clear ha
  generalize hN : (cov l p).length = N at *
  clear hN
  go_wp2_with (fail)
  refine wp_named fun W0 hW0 => ?_
  have q0 : W0.cell? ⟨w.heap.size + 1, 0, none⟩ = some (.int .i64 m.X) := by rw [hW0]; go_simp; all_goals (try (intros; omega))
  have q1 : W0.cell? ⟨w.heap.size + 1, 1, none⟩ = some (.int .i64 m.Y) := by rw [hW0]; go_simp; all_goals (try (intros; omega))
  have q2 : W0.cell? ⟨w.heap.size + 1, 1 + 1, none⟩ = some (.int .i64 m.Len) := by rw [hW0]; go_simp; all_goals (try (intros; omega))
  have q3 : W0.cell? ⟨w.heap.size + 1, 1 + 1 + 1, none⟩ = some (.int .i64 m.Pri) := by rw [hW0]; go_simp; all_goals (try (intros; omega))
  have bW : Below w.heap.size w W0 := by rw [hW0]; (repeat' (first | (with_reducible exact Below.refl _ _) | (with_reducible assumption) | (with_reducible refine Below.setCell ?_ ?_ _) | (with_reducible refine Below.alloc ?_ ?_ _) | (with_reducible refine Below.ext ?_ ?_ _) | omega | (simp; done) | (simp; omega) | (with_reducible refine Below.drew ?_)))
  have zW : w.heap.size + 1 < W0.heap.size := by rw [hW0]; omega
  rw [← hW0] at hr2
  have hL := hr2.len
  clear hW0 hb
  go_loopw [10] (fun i wr => Below W0.heap.size W0 wr ∧ ∃ k : Nat, k ≤ N ∧ i = .int .i64 k ∧ Hid (((cov l p).drop k).any (fun t => covers m q t.X t.Y) = clash l p m q)) (fun i _ => N - (intOf i).toNat)
  case atStart => exact ⟨Below.refl _ _, 0, Nat.zero_le _, rfl, by simp [Hid, clash]⟩
  case round =>
    obtain ⟨hbw, k, hk, rfl, H⟩ := hrel
    obtain ⟨X, rfl⟩ := ext_of hbw
    have sX := X.size
    by_cases hlt : k < N
    · obtain ⟨t, ht⟩ := Rd.get hr2 hlt
      obtain ⟨bbt, oot, rfl, hbt, c0, c1⟩ := Rd.at_Point hr2 ht
      have Ht := Lib.hid ht
      clear ht
      simp only [lt] at hbt
      have hbd := cov_bd HL.out (List.mem_of_getElem? Ht.out)
      obtain ⟨i1, i2, i3, i4⟩ := hbd
      rcases Bool.eq_false_or_eq_true (covers m q t.X t.Y) with t1 | t1
      · go_wp2
        refine wp_region_ext (by kernel_rfl) (by kernel_rfl) ?_
        repeat (go_big_quiet_step ((go_at_call 90; exact calls_ext (covers_any m q _ _ _ HM.out g0 g4 (by omega) (by omega)))))
        refine wpQuiet_nil ?_
        rw [t1]
        intro x2
        have s2 := x2.size
        go_wp2
        go_ret
        refine ⟨ret_bool ?_, ext_mk (bW.trans ((by (repeat' (first | (with_reducible exact Below.refl _ _) | (with_reducible assumption) | (with_reducible refine Below.setCell ?_ ?_ _) | (with_reducible refine Below.alloc ?_ ?_ _) | (with_reducible refine Below.ext ?_ ?_ _) | omega | (simp; done) | (simp; omega) | (with_reducible refine Below.drew ?_))) : Below W0.heap.size W0 x2.W).mono (by omega)))⟩
        rw [← H.out, drop_of Ht.out]; simp [t1]
      · go_wp2
        refine wp_region_ext (by kernel_rfl) (by kernel_rfl) ?_
        repeat (go_big_quiet_step ((go_at_call 90; exact calls_ext (covers_any m q _ _ _ HM.out g0 g4 (by omega) (by omega)))))
        refine wpQuiet_nil ?_
        rw [t1]
        intro x2
        have s2 := x2.size
        go_wp2
        refine ⟨⟨by (repeat' (first | (with_reducible exact Below.refl _ _) | (with_reducible assumption) | (with_reducible refine Below.setCell ?_ ?_ _) | (with_reducible refine Below.alloc ?_ ?_ _) | (with_reducible refine Below.ext ?_ ?_ _) | omega | (simp; done) | (simp; omega) | (with_reducible refine Below.drew ?_))), k + 1, by omega, by go_num, ?_⟩, by simp [intOf]; omega⟩
        have h := H.out
        rw [drop_of Ht.out, List.any_cons, t1, Bool.false_or] at h
        exact h
    · go_wp2
      go_ret
      refine ⟨ret_bool ?_, ext_mk (bW.trans (hbw.mono (by omega)))⟩
      rw [← H.out, List.drop_eq_nil_of_le (by have := hr2.eq; omega)]; rfl
end Go.Proofs.Ytnnpmbcamnnfgaa
