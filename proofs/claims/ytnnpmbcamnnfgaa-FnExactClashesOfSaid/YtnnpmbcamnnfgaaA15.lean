/- clash of the program tells whether two labels cover a point in common in a placement. -/
import Derived.Test.YtnnpmbcamnnfgaaA14
namespace Go.Proofs.Ytnnpmbcamnnfgaa
open Go.RowKit
theorem clash_hasPt {y : Label} (hy : okL y) {q : Int} (g0 : 0 ≤ q) (g4 : q ≤ 4) (x : Label) (p : Int) : ((cov x p).any fun t => hasPt (cov y q) t.X t.Y) = clash x p y q := by
  unfold clash
  congr 1
  funext t
  exact hasPt_cov hy g0 g4 t.X t.Y
set_option maxHeartbeats 2000000 in
set_option maxRecDepth 100000 in
theorem implClash_any (A A' : Option Addr) (n c n' c' : Nat) (L : List Label) (P : List Int) (i k : Nat) (x y : Label) (p q : Int) (w : World) (hr : Rd w (lt w.heap.size) A n c L) (hr' : Rd w (lt w.heap.size) A' n' c' P)
    (hx : L[i]? = some x) (hp : P[i]? = some p) (hy : L[k]? = some y) (hq : P[k]? = some q) (ox : okL x) (oy : okL y) (h0 : 0 ≤ p) (h4 : p ≤ 4) (g0 : 0 ≤ q) (g4 : q ≤ 4) :
    Calls Try.prog 76 #[.slice A n c, .slice A' n' c', .int .i64 i, .int .i64 k] w fun e w' => e = .returned (.bool (clash x p y q)) ∧ ∃ X : Ext w, w' = X.W := by
  have hL := hr.len
  have hL' := hr'.len
  have i1 : i < n := by have := lt_of_get hx; rw [hr.eq] at this; exact this
  have i2 : k < n := by have := lt_of_get hy; rw [hr.eq] at this; exact this
  have i3 : i < n' := by have := lt_of_get hp; rw [hr'.eq] at this; exact this
  have i4 : k < n' := by have := lt_of_get hq; rw [hr'.eq] at this; exact this
  have j1 : (0 : Int) ≤ (i : Int) := Int.natCast_nonneg _
  have j2 : (0 : Int) ≤ (k : Int) := Int.natCast_nonneg _
  have j3 : (i : Int) < (n : Int) := by omega
  have j4 : (k : Int) < (n : Int) := by omega
  have j5 : (i : Int) < (n' : Int) := by omega
  have j6 : (k : Int) < (n' : Int) := by omega
  obtain ⟨b1, o1, rfl, hb1, c0, c1, c2, c3⟩ := hr.at_Label hx
  obtain ⟨b2, o2, e2, hb2, d0, d1, d2, d3⟩ := hr.at_Label hy
  simp only [Option.some.injEq, Addr.mk.injEq, and_true] at e2
  obtain ⟨rfl, rfl⟩ := e2
  obtain ⟨b3, o3, rfl, hb3, f0⟩ := hr'.at_int hp
  obtain ⟨b4, o4, e4, hb4, g0'⟩ := hr'.at_int hq
  simp only [Option.some.injEq, Addr.mk.injEq, and_true] at e4
  obtain ⟨rfl, rfl⟩ := e4
  simp only [lt] at hb1 hb3
  clear hb2 hb4 hx hp hy hq
  have ly := cov_len oy q
  have lx := cov_len ox p
  have OX := Lib.hid ox
  have OY := Lib.hid oy
  clear ox oy
  go_enter Try.func76, Try.ntmps76
  go_upto_region 1 with fail
  go_cut [9] (fun t9 wx => ∃ g A n c, t9 = .pointer (some ⟨g, 0, none⟩) ∧ g < wx.heap.size ∧ wx.cell? ⟨g, 0, none⟩ = some (.slice A n c) ∧ Below w.heap.size w wx ∧ Acc wx w.heap.size 53 (.slice A n c) (cov y q))
  case first =>
    go_region_held3 (fun w' => w'.cell? ⟨b1, o1 + k * 4, none⟩ = some (.int .i64 y.X) ∧ w'.cell? ⟨b1, o1 + k * 4 + 1, none⟩ = some (.int .i64 y.Y) ∧ w'.cell? ⟨b1, o1 + k * 4 + 2, none⟩ = some (.int .i64 y.Len) ∧ w'.cell? ⟨b1, o1 + k * 4 + 3, none⟩ = some (.int .i64 y.Pri) ∧ w'.cell? ⟨b3, o3 + k, none⟩ = some (.int .i64 q)) (first | go_keep | ((try dsimp only); (repeat' apply And.intro); all_goals (refine Eq.trans (Below.cell (B := w.heap.size) (w := w) (p := ⟨_, _, none⟩) (by (repeat' (first | (with_reducible exact Below.refl _ _) | (with_reducible assumption) | (with_reducible refine Below.setCell ?_ ?_ _) | (with_reducible refine Below.alloc ?_ ?_ _) | (with_reducible refine Below.ext ?_ ?_ _) | omega | (simp; done) | (simp; omega) | (with_reducible refine Below.drew ?_)))) (by show _ < _; omega)) ?_; assumption)))
      (first | (go_at_call 67; refine (covered_any y q _ OY.out g0 g4).mono ?_; rintro e w2 ⟨v, rfl, hb, ha⟩; obtain ⟨A2, c2, rfl⟩ := ha.form; obtain ⟨Z, rfl⟩ := ext_of hb; have zZ := Z.size; try simp at zZ))
    all_goals
      go_wp2_with fail
      go_meet
      refine ⟨_, A2, (cov y q).length, c2, rfl, ?_, ?_, ?_, ?_⟩
      · first | omega | (simp; done) | (simp; omega)
      · go_simp
        all_goals (try (intros; omega))
      · (repeat' (first | (with_reducible exact Below.refl _ _) | (with_reducible assumption) | (with_reducible refine Below.setCell ?_ ?_ _) | (with_reducible refine Below.alloc ?_ ?_ _) | (with_reducible refine Below.ext ?_ ?_ _) | omega | (simp; done) | (simp; omega) | (with_reducible refine Below.drew ?_)))
      · first | exact (ha.alloc _).mono (by first | omega | (simp; done) | (simp; omega)) | exact (ha.far (by first | omega | (simp; done) | (simp; omega)) _).mono (by first | omega | (simp; done) | (simp; omega))
  case rest =>
    obtain ⟨g, A3, m3, c3', rfl, hg, hcell, hbw, hacc⟩ := hcut
    have hm3 := hacc.form
    obtain ⟨_, _, hm3⟩ := hm3
    injection hm3 with _ hm3 _
    subst hm3
    obtain ⟨X, rfl⟩ := ext_of hbw
    have sX := X.size
    have e0 : X.W.cell? ⟨b1, o1 + i * 4, none⟩ = some (.int .i64 x.X) := (hbw.cell (p := ⟨_, _, none⟩) hb1).trans c0
    have e1 : X.W.cell? ⟨b1, o1 + i * 4 + 1, none⟩ = some (.int .i64 x.Y) := (hbw.cell (p := ⟨_, _, none⟩) hb1).trans c1
    have e2 : X.W.cell? ⟨b1, o1 + i * 4 + 2, none⟩ = some (.int .i64 x.Len) := (hbw.cell (p := ⟨_, _, none⟩) hb1).trans c2
    have e3 : X.W.cell? ⟨b1, o1 + i * 4 + 3, none⟩ = some (.int .i64 x.Pri) := (hbw.cell (p := ⟨_, _, none⟩) hb1).trans c3
    have e4 : X.W.cell? ⟨b3, o3 + i, none⟩ = some (.int .i64 p) := (hbw.cell (p := ⟨_, _, none⟩) hb3).trans f0
    have hclo : ∀ (Z : World) (t : Point), Below X.W.heap.size X.W Z → Calls Try.prog 94 #[.agg #[.int .i64 t.X, .int .i64 t.Y], .pointer (some ⟨g, 0, none⟩)] Z fun e w' => e = .returned (.bool (hasPt (cov y q) t.X t.Y)) ∧ ∃ Y : Ext Z, w' = Y.W :=
      fun Z t hZ => clash1_any _ _ _ (cov y q) g 0 t.X t.Y Z ((hacc.read (by decide) (by simp [maxLen]; omega)).now hZ hZ.size) (by have := hZ.size; omega) ((hZ.cell (p := ⟨g, 0, none⟩) hg).trans hcell)
    go_wp2_with fail
    go_region_held3 (fun w' => w'.cell? ⟨b1, o1 + i * 4, none⟩ = some (.int .i64 x.X) ∧ w'.cell? ⟨b1, o1 + i * 4 + 1, none⟩ = some (.int .i64 x.Y) ∧ w'.cell? ⟨b1, o1 + i * 4 + 2, none⟩ = some (.int .i64 x.Len) ∧ w'.cell? ⟨b1, o1 + i * 4 + 3, none⟩ = some (.int .i64 x.Pri) ∧ w'.cell? ⟨b3, o3 + i, none⟩ = some (.int .i64 p)) (first | go_keep | ((try dsimp only); (repeat' apply And.intro); all_goals (refine Eq.trans (Below.cell (B := w.heap.size) (w := w) (p := ⟨_, _, none⟩) (by (repeat' (first | (with_reducible exact Below.refl _ _) | (with_reducible assumption) | (with_reducible refine Below.setCell ?_ ?_ _) | (with_reducible refine Below.alloc ?_ ?_ _) | (with_reducible refine Below.ext ?_ ?_ _) | omega | (simp; done) | (simp; omega) | (with_reducible refine Below.drew ?_)))) (by show _ < _; omega)) ?_; assumption)))
      (first
        | (go_at_call 67; refine (covered_any x p _ OX.out h0 h4).mono ?_; rintro e w2 ⟨v, rfl, hb, ha⟩; obtain ⟨A2, c2, rfl⟩ := ha.form; obtain ⟨Z, rfl⟩ := ext_of hb; have zZ := Z.size; try simp at zZ)
        | (go_at_call 92; refine (containsPoint1 _ _ (fun t => hasPt (cov y q) t.X t.Y) _ _ _ (cov x p) _ (ha.read (by decide) (by simp [maxLen]; omega)) clash1_ents (fun Y t _ => hclo _ t (by (repeat' (first | (with_reducible exact Below.refl _ _) | (with_reducible assumption) | (with_reducible refine Below.setCell ?_ ?_ _) | (with_reducible refine Below.alloc ?_ ?_ _) | (with_reducible refine Below.ext ?_ ?_ _) | omega | (simp; done) | (simp; omega) | (with_reducible refine Below.drew ?_)))))).mono ?_; rintro e w' ⟨rfl, x1, rfl⟩; have s1 := x1.size))
    all_goals
      go_wp2_with fail
      go_ret
      refine ⟨ret_bool ?_, ext_mk ?_⟩
      · exact clash_hasPt OY.out g0 g4 x p
      · (repeat' (first | (with_reducible exact Below.refl _ _) | (with_reducible assumption) | (with_reducible refine Below.setCell ?_ ?_ _) | (with_reducible refine Below.alloc ?_ ?_ _) | (with_reducible refine Below.ext ?_ ?_ _) | omega | (simp; done) | (simp; omega) | (with_reducible refine Below.drew ?_)))
end Go.Proofs.Ytnnpmbcamnnfgaa
