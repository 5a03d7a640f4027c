/- placementCode, score, ScoreOf of program and reference, and the law FnExactScoreOf, answer as written here, for every readable slice. -/
import Derived.Test.YtnnpmbcamnnfgaaA5
namespace Go.Proofs.Ytnnpmbcamnnfgaa
open Go.RowKit
set_option maxHeartbeats 1000000 in
set_option maxRecDepth 100000 in
theorem implPlacement_any (A A' : Option Addr) (n c n' c' : Nat) (L : List Label) (M : List Int) (w : World) (hr : Rd w (lt w.heap.size) A n c L) (hr' : Rd w (lt w.heap.size) A' n' c' M) :
    Calls Try.prog 60 #[.slice A n c, .slice A' n' c'] w fun e w' => e = .returned (.int .i64 (plCode L M)) ∧ ∃ X : Ext w, w' = X.W := by
  have hL := hr.len
  have hL' := hr'.len
  rcases Bool.eq_false_or_eq_true (areLabels L) with t1 | t1
  · by_cases hne : n' = n
    · subst hne
      have hb1 : ((n' : Int) != n') = false := by simp
      rcases Bool.eq_false_or_eq_true (M.all (inB · 0 4)) with t2 | t2 <;>
      · have T2 := Lib.hid t2
        have hx : ∀ (W : World), Below w.heap.size w W → Calls Try.prog 89 #[.slice A' n' c', .int .i64 0, .int .i64 4] W fun e w' => e = .returned (.bool (M.all (inB · 0 4))) ∧ ∃ X : Ext W, w' = X.W := fun W hb => areWithin_any A' n' c' M 0 4 W (hr'.now hb hb.size)
        rw [t2] at hx
        have HX := Lib.hid hx
        clear t2 hx
        go_enter Try.func60, Try.ntmps60
        go_wp2_with (first | (go_at_call 16; refine (implAreLabels_any _ _ _ L _ hr).mono ?_; rintro e w' ⟨rfl, x1, rfl⟩; have sx1 := Ext.size x1; try simp at sx1) | (go_at_call 89; refine (HX.out _ x1.h).mono ?_; rintro e w' ⟨rfl, x2, rfl⟩; have sx2 := Ext.size x2; try simp at sx2))
        go_ret
        refine ⟨ret_int (by first | rw [plCode_0 t1 (by rw [hr.eq, hr'.eq]) T2.out] | rw [plCode_2 t1 (.inr T2.out)]), ext_mk ?_⟩
        (repeat' (first | (with_reducible exact Below.refl _ _) | (with_reducible assumption) | (with_reducible refine Below.setCell ?_ ?_ _) | (with_reducible refine Below.alloc ?_ ?_ _) | (with_reducible refine Below.ext ?_ ?_ _) | omega | (simp; done) | (simp; omega) | (with_reducible refine Below.drew ?_)))
    · have hb1 : ((n' : Int) != n) = true := by simp; omega
      go_enter Try.func60, Try.ntmps60
      go_wp2_with (go_at_call 16; refine (implAreLabels_any _ _ _ L _ hr).mono ?_; rintro e w' ⟨rfl, x1, rfl⟩; have sx1 := Ext.size x1; try simp at sx1)
      go_ret
      refine ⟨ret_int (by rw [plCode_2 t1 (.inl (by rw [hr.eq, hr'.eq]; exact hne))]), ext_mk ?_⟩
      (repeat' (first | (with_reducible exact Below.refl _ _) | (with_reducible assumption) | (with_reducible refine Below.setCell ?_ ?_ _) | (with_reducible refine Below.alloc ?_ ?_ _) | (with_reducible refine Below.ext ?_ ?_ _) | omega | (simp; done) | (simp; omega) | (with_reducible refine Below.drew ?_)))
  · go_enter Try.func60, Try.ntmps60
    go_wp2_with (go_at_call 16; refine (implAreLabels_any _ _ _ L _ hr).mono ?_; rintro e w' ⟨rfl, x1, rfl⟩; have sx1 := Ext.size x1; try simp at sx1)
    go_ret
    refine ⟨ret_int (by rw [plCode_1 t1]), ext_mk ?_⟩
    (repeat' (first | (with_reducible exact Below.refl _ _) | (with_reducible assumption) | (with_reducible refine Below.setCell ?_ ?_ _) | (with_reducible refine Below.alloc ?_ ?_ _) | (with_reducible refine Below.ext ?_ ?_ _) | omega | (simp; done) | (simp; omega) | (with_reducible refine Below.drew ?_)))

def scoreFrom (acc : Int) : List Label → List Int → Int
  | l :: L, p :: P => scoreFrom (if p = 4 then acc else acc + l.Pri) L P
  | _, _ => acc
theorem okFrom_mem : ∀ (L pre : List Label), okFrom pre L = true → ∀ x ∈ L, okOne x = true
  | [], _, _, x, hx => by cases hx
  | l :: r, pre, h, x, hx => by
    simp only [okFrom, Bool.and_eq_true] at h
    rcases List.mem_cons.1 hx with rfl | hx
    · exact h.1.1
    · exact okFrom_mem r _ h.2 x hx
theorem areLabels_one {L : List Label} (h : areLabels L = true) {k : Nat} {x : Label} (hx : L[k]? = some x) : -1000 ≤ x.X ∧ x.X ≤ 1000 ∧ -1000 ≤ x.Y ∧ x.Y ≤ 1000 ∧ 1 ≤ x.Len ∧ x.Len ≤ 20 ∧ 1 ≤ x.Pri ∧ x.Pri ≤ 9 := by
  simp only [areLabels, Bool.and_eq_true] at h
  have := okFrom_mem L [] h.1 x (List.mem_of_getElem? hx)
  simp only [okOne, isPt, inB, Bool.and_eq_true, decide_eq_true_eq] at this
  omega
theorem areLabels_len {L : List Label} (h : areLabels L = true) : L.length ≤ 6 := by
  simp only [areLabels, Bool.and_eq_true, decide_eq_true_eq] at h
  exact h.2
theorem plCode_inv {L : List Label} {P : List Int} (h : plCode L P = 0) : areLabels L = true ∧ P.length = L.length ∧ ∀ (k : Nat) (p : Int), P[k]? = some p → 0 ≤ p ∧ p ≤ 4 := by
  unfold plCode at h
  split at h
  · rename_i h1
    split at h
    · rename_i h2
      refine ⟨h1, h2.1, fun k p hp => ?_⟩
      have := List.all_eq_true.1 h2.2 p (List.mem_of_getElem? hp)
      simpa [inB] using this
    · omega
  · omega
set_option maxHeartbeats 1000000 in
set_option maxRecDepth 100000 in
theorem specScore_any (A A' : Option Addr) (n c n' c' : Nat) (L : List Label) (M : List Int) (w : World) (hr : Rd w (lt w.heap.size) A n c L) (hr' : Rd w (lt w.heap.size) A' n' c' M) (hp : plCode L M = 0) :
    Calls Try.prog 59 #[.slice A n c, .slice A' n' c'] w fun e w' => e = .returned (.int .i64 (scoreFrom 0 L M)) ∧ ∃ X : Ext w, w' = X.W := by
  have hL := hr.len
  obtain ⟨h1, h2, h3⟩ := plCode_inv hp
  have h4 := areLabels_len h1
  obtain rfl : n' = n := by rw [← hr.eq, ← hr'.eq, h2]
  have h5 : n' ≤ 6 := by rw [← hr.eq]; exact h4
  have H1 := Lib.hid h1
  have H3 := Lib.hid h3
  clear h1 h2 h3 h4 hp
  go_enter Try.func59, Try.ntmps59
  go_wp2
  go_loopw [5, 6] (fun s i wr => Below w.heap.size w wr ∧ ∃ (k : Nat) (q : Int), k ≤ n' ∧ i = .int .i64 k ∧ s = .int .i64 q ∧ 0 ≤ q ∧ q ≤ 9 * k ∧ Hid (scoreFrom q (L.drop k) (M.drop k) = scoreFrom 0 L M)) (fun _ i _ => n' - (intOf i).toNat)
  case atStart => exact ⟨by (repeat' (first | (with_reducible exact Below.refl _ _) | (with_reducible assumption) | (with_reducible refine Below.setCell ?_ ?_ _) | (with_reducible refine Below.alloc ?_ ?_ _) | (with_reducible refine Below.ext ?_ ?_ _) | omega | (simp; done) | (simp; omega) | (with_reducible refine Below.drew ?_))), 0, 0, Nat.zero_le _, rfl, rfl, by omega, by omega, by simp [Hid]⟩
  case round =>
    obtain ⟨hbw, k, q, hk, rfl, rfl, hq0, hq, H⟩ := hrel
    obtain ⟨X, rfl⟩ := ext_of hbw
    have sX := X.size
    by_cases hlt : k < n'
    · obtain ⟨x, hx⟩ := Rd.get hr hlt
      obtain ⟨bbx, oox, rfl, hbx, c0, c1, c2, c3⟩ := Rd.at_Label hr hx
      have Hx := Lib.hid hx
      clear hx
      simp only [lt] at hbx
      obtain ⟨y, hy⟩ := Rd.get hr' hlt
      obtain ⟨bby, ooy, rfl, hby, d0⟩ := Rd.at_int hr' hy
      have Hy := Lib.hid hy
      clear hy
      simp only [lt] at hby
      obtain ⟨_, _, _, _, _, _, i1, i2⟩ := areLabels_one H1.out Hx.out
      obtain ⟨j1, j2⟩ := H3.out k y Hy.out
      have h := H.out
      rw [drop_of Hx.out, drop_of Hy.out, scoreFrom] at h
      by_cases h4 : y = 4
      · rw [if_pos h4] at h
        have hb1 : 4 ≤ y := by omega
        have h' := Lib.hid h
        clear h h4
        go_wp2
        refine ⟨⟨by (repeat' (first | (with_reducible exact Below.refl _ _) | (with_reducible assumption) | (with_reducible refine Below.setCell ?_ ?_ _) | (with_reducible refine Below.alloc ?_ ?_ _) | (with_reducible refine Below.ext ?_ ?_ _) | omega | (simp; done) | (simp; omega) | (with_reducible refine Below.drew ?_))), k + 1, q, by omega, by go_num, rfl, by omega, by omega, h'⟩, by simp [intOf]; omega⟩
      · rw [if_neg h4] at h
        have hb1 : y < 4 := by omega
        have h' := Lib.hid h
        clear h
        go_wp2
        refine ⟨⟨by (repeat' (first | (with_reducible exact Below.refl _ _) | (with_reducible assumption) | (with_reducible refine Below.setCell ?_ ?_ _) | (with_reducible refine Below.alloc ?_ ?_ _) | (with_reducible refine Below.ext ?_ ?_ _) | omega | (simp; done) | (simp; omega) | (with_reducible refine Below.drew ?_))), k + 1, q + x.Pri, by omega, by go_num, rfl, by omega, by omega, h'⟩, by simp [intOf]; omega⟩
    · go_wp2
      go_ret
      refine ⟨ret_int (by rw [← H.out, List.drop_eq_nil_of_le (by have := hr.eq; omega)]; rfl), ext_mk ?_⟩
      (repeat' (first | (with_reducible exact Below.refl _ _) | (with_reducible assumption) | (with_reducible refine Below.setCell ?_ ?_ _) | (with_reducible refine Below.alloc ?_ ?_ _) | (with_reducible refine Below.ext ?_ ?_ _) | omega | (simp; done) | (simp; omega) | (with_reducible refine Below.drew ?_)))
set_option maxHeartbeats 1000000 in
set_option maxRecDepth 100000 in
theorem implScore_any (A A' : Option Addr) (n c n' c' : Nat) (L : List Label) (M : List Int) (w : World) (hr : Rd w (lt w.heap.size) A n c L) (hr' : Rd w (lt w.heap.size) A' n' c' M) (hp : plCode L M = 0) :
    Calls Try.prog 61 #[.slice A n c, .slice A' n' c'] w fun e w' => e = .returned (.int .i64 (scoreFrom 0 L M)) ∧ ∃ X : Ext w, w' = X.W := by
  have hL := hr.len
  obtain ⟨h1, h2, h3⟩ := plCode_inv hp
  have h4 := areLabels_len h1
  obtain rfl : n' = n := by rw [← hr.eq, ← hr'.eq, h2]
  have h5 : n' ≤ 6 := by rw [← hr.eq]; exact h4
  have H1 := Lib.hid h1
  have H3 := Lib.hid h3
  clear h1 h2 h3 h4 hp
  go_enter Try.func61, Try.ntmps61
  go_wp2
  go_loopw [5, 10] (fun s i wr => Below w.heap.size w wr ∧ ∃ (k : Nat) (q : Int), k ≤ n' ∧ i = .int .i64 k ∧ s = .int .i64 q ∧ 0 ≤ q ∧ q ≤ 9 * k ∧ Hid (scoreFrom q (L.drop k) (M.drop k) = scoreFrom 0 L M)) (fun _ i _ => n' - (intOf i).toNat)
  case atStart => exact ⟨by (repeat' (first | (with_reducible exact Below.refl _ _) | (with_reducible assumption) | (with_reducible refine Below.setCell ?_ ?_ _) | (with_reducible refine Below.alloc ?_ ?_ _) | (with_reducible refine Below.ext ?_ ?_ _) | omega | (simp; done) | (simp; omega) | (with_reducible refine Below.drew ?_))), 0, 0, Nat.zero_le _, rfl, rfl, by omega, by omega, by simp [Hid]⟩
  case round =>
    obtain ⟨hbw, k, q, hk, rfl, rfl, hq0, hq, H⟩ := hrel
    obtain ⟨X, rfl⟩ := ext_of hbw
    have sX := X.size
    by_cases hlt : k < n'
    · obtain ⟨x, hx⟩ := Rd.get hr hlt
      obtain ⟨bbx, oox, rfl, hbx, c0, c1, c2, c3⟩ := Rd.at_Label hr hx
      have Hx := Lib.hid hx
      clear hx
      simp only [lt] at hbx
      obtain ⟨y, hy⟩ := Rd.get hr' hlt
      obtain ⟨bby, ooy, rfl, hby, d0⟩ := Rd.at_int hr' hy
      have Hy := Lib.hid hy
      clear hy
      simp only [lt] at hby
      obtain ⟨_, _, _, _, _, _, i1, i2⟩ := areLabels_one H1.out Hx.out
      obtain ⟨j1, j2⟩ := H3.out k y Hy.out
      have h := H.out
      rw [drop_of Hx.out, drop_of Hy.out, scoreFrom] at h
      by_cases h4 : y = 4
      · rw [if_pos h4] at h
        have hb1 : (y != 4) = false := by simp [h4]
        have h' := Lib.hid h
        clear h h4
        go_wp2
        refine ⟨⟨by (repeat' (first | (with_reducible exact Below.refl _ _) | (with_reducible assumption) | (with_reducible refine Below.setCell ?_ ?_ _) | (with_reducible refine Below.alloc ?_ ?_ _) | (with_reducible refine Below.ext ?_ ?_ _) | omega | (simp; done) | (simp; omega) | (with_reducible refine Below.drew ?_))), k + 1, q, by omega, by go_num, rfl, by omega, by omega, h'⟩, by simp [intOf]; omega⟩
      · rw [if_neg h4] at h
        have hb1 : (y != 4) = true := by simp [h4]
        have h' := Lib.hid h
        clear h
        go_wp2
        refine ⟨⟨by (repeat' (first | (with_reducible exact Below.refl _ _) | (with_reducible assumption) | (with_reducible refine Below.setCell ?_ ?_ _) | (with_reducible refine Below.alloc ?_ ?_ _) | (with_reducible refine Below.ext ?_ ?_ _) | omega | (simp; done) | (simp; omega) | (with_reducible refine Below.drew ?_))), k + 1, q + x.Pri, by omega, by go_num, rfl, by omega, by omega, h'⟩, by simp [intOf]; omega⟩
    · go_wp2
      go_ret
      refine ⟨ret_int (by rw [← H.out, List.drop_eq_nil_of_le (by have := hr.eq; omega)]; rfl), ext_mk ?_⟩
      (repeat' (first | (with_reducible exact Below.refl _ _) | (with_reducible assumption) | (with_reducible refine Below.setCell ?_ ?_ _) | (with_reducible refine Below.alloc ?_ ?_ _) | (with_reducible refine Below.ext ?_ ?_ _) | omega | (simp; done) | (simp; omega) | (with_reducible refine Below.drew ?_)))
def scoreOf (L : List Label) (M : List Int) : Int := if plCode L M = 0 then scoreFrom 0 L M else 0
set_option maxHeartbeats 1000000 in
set_option maxRecDepth 100000 in
theorem specScoreOf_any (A A' : Option Addr) (n c n' c' : Nat) (L : List Label) (M : List Int) (w : World) (hr : Rd w (lt w.heap.size) A n c L) (hr' : Rd w (lt w.heap.size) A' n' c' M) :
    Calls Try.prog 18 #[.slice A n c, .slice A' n' c'] w fun e w' => e = .returned (.tuple #[.int .i64 (scoreOf L M), .int .i64 (plCode L M)]) ∧ ∃ X : Ext w, w' = X.W := by
  by_cases hp : plCode L M = 0
  · have hs : scoreOf L M = scoreFrom 0 L M := if_pos hp
    have Hp := Lib.hid hp
    have Hs := Lib.hid hs
    have e1 : (plCode L M != 0) = false := by simp [hp]
    clear hp hs
    go_enter Try.func18, Try.ntmps18
    go_wp2_with (first | (go_at_call 58; refine (specPlacement_any _ _ _ _ _ _ L M _ hr hr').mono ?_; rintro e w' ⟨rfl, x1, rfl⟩; have sx1 := Ext.size x1; try simp at sx1) | (go_at_call 59; refine (specScore_any _ _ _ _ _ _ L M _ (hr.ext x1) (hr'.ext x1) Hp.out).mono ?_; rintro e w' ⟨rfl, x2, rfl⟩; have sx2 := Ext.size x2; try simp at sx2))
    go_ret2
    refine ⟨by simp only [Hs.out, Hp.out]; rfl, ext_mk ?_⟩
    (repeat' (first | (with_reducible exact Below.refl _ _) | (with_reducible assumption) | (with_reducible refine Below.setCell ?_ ?_ _) | (with_reducible refine Below.alloc ?_ ?_ _) | (with_reducible refine Below.ext ?_ ?_ _) | omega | (simp; done) | (simp; omega) | (with_reducible refine Below.drew ?_)))
  · have hs : scoreOf L M = 0 := if_neg hp
    have Hs := Lib.hid hs
    have e1 : (plCode L M != 0) = true := by simp [hp]
    clear hs
    go_enter Try.func18, Try.ntmps18
    go_wp2_with (first | (go_at_call 58; refine (specPlacement_any _ _ _ _ _ _ L M _ hr hr').mono ?_; rintro e w' ⟨rfl, x1, rfl⟩; have sx1 := Ext.size x1; try simp at sx1))
    go_ret2
    refine ⟨by simp only [Hs.out]; rfl, ext_mk ?_⟩
    (repeat' (first | (with_reducible exact Below.refl _ _) | (with_reducible assumption) | (with_reducible refine Below.setCell ?_ ?_ _) | (with_reducible refine Below.alloc ?_ ?_ _) | (with_reducible refine Below.ext ?_ ?_ _) | omega | (simp; done) | (simp; omega) | (with_reducible refine Below.drew ?_)))
set_option maxHeartbeats 1000000 in
set_option maxRecDepth 100000 in
theorem implScoreOf_any (A A' : Option Addr) (n c n' c' : Nat) (L : List Label) (M : List Int) (w : World) (hr : Rd w (lt w.heap.size) A n c L) (hr' : Rd w (lt w.heap.size) A' n' c' M) :
    Calls Try.prog 20 #[.slice A n c, .slice A' n' c'] w fun e w' => e = .returned (.tuple #[.int .i64 (scoreOf L M), .int .i64 (plCode L M)]) ∧ ∃ X : Ext w, w' = X.W := by
  by_cases hp : plCode L M = 0
  · have hs : scoreOf L M = scoreFrom 0 L M := if_pos hp
    have Hp := Lib.hid hp
    have Hs := Lib.hid hs
    have e1 : (plCode L M != 0) = false := by simp [hp]
    clear hp hs
    go_enter Try.func20, Try.ntmps20
    go_wp2_with (first | (go_at_call 60; refine (implPlacement_any _ _ _ _ _ _ L M _ hr hr').mono ?_; rintro e w' ⟨rfl, x1, rfl⟩; have sx1 := Ext.size x1; try simp at sx1) | (go_at_call 61; refine (implScore_any _ _ _ _ _ _ L M _ (hr.ext x1) (hr'.ext x1) Hp.out).mono ?_; rintro e w' ⟨rfl, x2, rfl⟩; have sx2 := Ext.size x2; try simp at sx2))
    go_ret2
    refine ⟨by simp only [Hs.out, Hp.out]; rfl, ext_mk ?_⟩
    (repeat' (first | (with_reducible exact Below.refl _ _) | (with_reducible assumption) | (with_reducible refine Below.setCell ?_ ?_ _) | (with_reducible refine Below.alloc ?_ ?_ _) | (with_reducible refine Below.ext ?_ ?_ _) | omega | (simp; done) | (simp; omega) | (with_reducible refine Below.drew ?_)))
  · have hs : scoreOf L M = 0 := if_neg hp
    have Hs := Lib.hid hs
    have e1 : (plCode L M != 0) = true := by simp [hp]
    clear hs
    go_enter Try.func20, Try.ntmps20
    go_wp2_with (first | (go_at_call 60; refine (implPlacement_any _ _ _ _ _ _ L M _ hr hr').mono ?_; rintro e w' ⟨rfl, x1, rfl⟩; have sx1 := Ext.size x1; try simp at sx1))
    go_ret2
    refine ⟨by simp only [Hs.out]; rfl, ext_mk ?_⟩
    (repeat' (first | (with_reducible exact Below.refl _ _) | (with_reducible assumption) | (with_reducible refine Below.setCell ?_ ?_ _) | (with_reducible refine Below.alloc ?_ ?_ _) | (with_reducible refine Below.ext ?_ ?_ _) | omega | (simp; done) | (simp; omega) | (with_reducible refine Below.drew ?_)))
end Go.Proofs.Ytnnpmbcamnnfgaa
