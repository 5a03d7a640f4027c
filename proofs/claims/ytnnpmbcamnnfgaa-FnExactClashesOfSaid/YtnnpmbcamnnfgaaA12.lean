/- isAllowed of the program and l33Allowed of the reference tell whether a label covers no label's point, and AllowedPositions of both lists the positions, for every readable slice of labels. -/
import Derived.Test.YtnnpmbcamnnfgaaA11
namespace Go.Proofs.Ytnnpmbcamnnfgaa
open Go.RowKit
def allowed (L : List Label) (l : Label) (p : Int) : Bool := !L.any fun x => covers l p x.X x.Y
theorem allowed_eq {L : List Label} {l : Label} (hl : okL l) {p : Int} (h0 : 0 ≤ p) (h4 : p ≤ 4) : (!(cov l p).any fun q => isAtB L q.X q.Y) = allowed L l p := by
  unfold allowed
  congr 1
  rw [Bool.eq_iff_iff, List.any_eq_true, List.any_eq_true]
  constructor
  · rintro ⟨q, hq, h⟩
    simp only [isAtB, List.any_eq_true, Bool.and_eq_true, beq_iff_eq] at h
    obtain ⟨x, hx, e1, e2⟩ := h
    exact ⟨x, hx, by rw [e1, e2]; exact (mem_cov hl h0 h4 q).1 hq⟩
  · rintro ⟨x, hx, h⟩
    exact ⟨⟨x.X, x.Y⟩, (mem_cov hl h0 h4 ⟨x.X, x.Y⟩).2 h, by simp only [isAtB, List.any_eq_true, Bool.and_eq_true, beq_iff_eq]; exact ⟨x, hx, rfl, rfl⟩⟩
set_option maxHeartbeats 400000 in
set_option maxRecDepth 100000 in
theorem indexPoint1 (g : FuncId) (q : Value) (p : Point → Bool) (A : Option Addr) (n c : Nat) (L : List Point) (w : World) (hr : Rd w (lt w.heap.size) A n c L)
    (eg : Ents Try.prog g) (hp : ∀ (X : Ext w) (x : Point), x ∈ L → Calls Try.prog g #[x.val, q] X.W fun e w' => e = .returned (.bool (p x)) ∧ ∃ Y : Ext X.W, w' = Y.W) :
    Calls Try.prog 102 #[.slice A n c, .func (.func g) #[] #[q]] w fun e w' => e = .returned (.int .i64 (idxFrom p L 0)) ∧ ∃ X : Ext w, w' = X.W := by
  have hL := hr.len
  have HP := Lib.hid hp
  clear hp
  unfold Ents at eg
  go_enter Try.func102, Try.ntmps102
  go_wp2
  go_loopw [8] (fun i wr => ∃ X : Ext w, wr = X.W ∧ ∃ k : Nat, k ≤ n ∧ i = .int .i64 k ∧ Hid (idxFrom p (L.drop k) k = idxFrom p L 0)) (fun i _ => n - (intOf i).toNat)
  case atStart => exact ⟨Ext.refl w, rfl, 0, Nat.zero_le _, rfl, by simp [Hid]⟩
  case round =>
    obtain ⟨X, rfl, k, hk, rfl, H⟩ := hrel
    have sX := X.size
    by_cases hlt : k < n
    · obtain ⟨x, hx⟩ := hr.get hlt
      obtain ⟨b, o, rfl, hbo, c0, c1⟩ := hr.at_Point hx
      have hx' := Lib.hid hx
      clear hx
      simp only [lt] at hbo
      go_wp2_with ((show Calls Try.prog g _ _ _); refine (HP.out X x (List.mem_of_getElem? hx'.out)).mono ?_; rintro e w' ⟨rfl, Y, rfl⟩)
      · go_ret
        refine ⟨ret_int ?_, ext_mk ?_⟩
        · rw [← H.out, drop_of hx'.out, idxFrom, if_pos (by assumption)]
        · (repeat' (first | (with_reducible exact Below.refl _ _) | (with_reducible assumption) | (with_reducible refine Below.setCell ?_ ?_ _) | (with_reducible refine Below.alloc ?_ ?_ _) | (with_reducible refine Below.ext ?_ ?_ _) | omega | (simp; done) | (simp; omega) | (with_reducible refine Below.drew ?_)))
      · refine ⟨ext_and ?_ ⟨k + 1, by omega, by go_num, ?_⟩, by simp [intOf]; omega⟩
        · (repeat' (first | (with_reducible exact Below.refl _ _) | (with_reducible assumption) | (with_reducible refine Below.setCell ?_ ?_ _) | (with_reducible refine Below.alloc ?_ ?_ _) | (with_reducible refine Below.ext ?_ ?_ _) | omega | (simp; done) | (simp; omega) | (with_reducible refine Below.drew ?_)))
        · have h := H.out
          rw [drop_of hx'.out, idxFrom, if_neg (by simp_all)] at h
          exact h
    · go_wp2
      go_ret
      refine ⟨ret_int ?_, ext_mk ?_⟩
      · have := hr.eq
        rw [← H.out, List.drop_eq_nil_of_le (by omega), idxFrom]
      · (repeat' (first | (with_reducible exact Below.refl _ _) | (with_reducible assumption) | (with_reducible refine Below.setCell ?_ ?_ _) | (with_reducible refine Below.alloc ?_ ?_ _) | (with_reducible refine Below.ext ?_ ?_ _) | omega | (simp; done) | (simp; omega) | (with_reducible refine Below.drew ?_)))
set_option maxHeartbeats 400000 in
set_option maxRecDepth 100000 in
theorem containsPoint1 (g : FuncId) (q : Value) (p : Point → Bool) (A : Option Addr) (n c : Nat) (L : List Point) (w : World) (hr : Rd w (lt w.heap.size) A n c L)
    (eg : Ents Try.prog g) (hp : ∀ (X : Ext w) (x : Point), x ∈ L → Calls Try.prog g #[x.val, q] X.W fun e w' => e = .returned (.bool (p x)) ∧ ∃ Y : Ext X.W, w' = Y.W) :
    Calls Try.prog 92 #[.slice A n c, .func (.func g) #[] #[q]] w fun e w' => e = .returned (.bool (L.any p)) ∧ ∃ X : Ext w, w' = X.W := by
  have HP := Lib.hid hp
  clear hp
  go_enter Try.func92, Try.ntmps92
  go_wp2_with (go_at_call 102; refine (indexPoint1 g q p A n c L w hr eg HP.out).mono ?_; rintro e w' ⟨rfl, X, rfl⟩)
  go_ret
  refine ⟨ret_bool (idx_any p L 0), ext_mk ?_⟩
  (repeat' (first | (with_reducible exact Below.refl _ _) | (with_reducible assumption) | (with_reducible refine Below.setCell ?_ ?_ _) | (with_reducible refine Below.alloc ?_ ?_ _) | (with_reducible refine Below.ext ?_ ?_ _) | omega | (simp; done) | (simp; omega) | (with_reducible refine Below.drew ?_)))

set_option maxHeartbeats 1000000 in
set_option maxRecDepth 100000 in
theorem isAllowed1_any (A : Option Addr) (n c : Nat) (L : List Label) (b o : Nat) (x y : Int) (w : World) (hr : Rd w (lt w.heap.size) A n c L) (hb : b < w.heap.size) (h0 : w.cell? ⟨b, o, none⟩ = some (.slice A n c)) :
    Calls Try.prog 93 #[.agg #[.int .i64 x, .int .i64 y], .pointer (some ⟨b, o, none⟩)] w fun e w' => e = .returned (.bool (isAtB L x y)) ∧ ∃ X : Ext w, w' = X.W := by
  go_enter Try.func93, Try.ntmps93
  go_wp2_with (go_at_call 56; refine (isAt_any _ _ _ L _ _ _ (hr.now ((Below.refl _ _).alloc (Nat.le_refl _) _) (by simp))).mono ?_; rintro e w' ⟨rfl, x1, rfl⟩; have sx1 := Ext.size x1; try simp at sx1)
  go_ret
  refine ⟨ret_bool rfl, ext_mk ?_⟩
  (repeat' (first | (with_reducible exact Below.refl _ _) | (with_reducible assumption) | (with_reducible refine Below.setCell ?_ ?_ _) | (with_reducible refine Below.alloc ?_ ?_ _) | (with_reducible refine Below.ext ?_ ?_ _) | omega | (simp; done) | (simp; omega) | (with_reducible refine Below.drew ?_)))
theorem isAllowed1_ents : Ents Try.prog 93 := ents_of Try.func93 (by kernel_rfl) rfl
set_option maxHeartbeats 1000000 in
set_option maxRecDepth 100000 in
theorem isAllowed_any (A : Option Addr) (n c : Nat) (L : List Label) (l : Label) (p : Int) (w : World) (hr : Rd w (lt w.heap.size) A n c L) (hl : okL l) (h0 : 0 ≤ p) (h4 : p ≤ 4) :
    Calls Try.prog 65 #[.slice A n c, .agg #[.int .i64 l.X, .int .i64 l.Y, .int .i64 l.Len, .int .i64 l.Pri], .int .i64 p] w fun e w' => e = .returned (.bool (allowed L l p)) ∧ ∃ X : Ext w, w' = X.W := by
  have hln := cov_len hl p
  go_enter Try.func65, Try.ntmps65
  go_wp2_with (fail)
  refine (covered_any l p _ hl h0 h4).mono ?_
  rintro e w2 ⟨v, rfl, hb, ha⟩
  obtain ⟨A2, c2, rfl⟩ := ha.form
  have z2 := hb.size
  simp at z2
  obtain ⟨Z, rfl⟩ := ext_of hb
  go_wp2_with (fail)
  refine (containsPoint1 _ _ (fun q => isAtB L q.X q.Y) _ _ _ (cov l p) _ (ha.read (by decide) (by simp [maxLen]; omega)) isAllowed1_ents (fun X x _ => ?_)).mono ?_
  · have sX := X.size
    refine isAllowed1_any A n c L _ _ x.X x.Y X.W ((hr.now (by (repeat' (first | (with_reducible exact Below.refl _ _) | (with_reducible assumption) | (with_reducible refine Below.setCell ?_ ?_ _) | (with_reducible refine Below.alloc ?_ ?_ _) | (with_reducible refine Below.ext ?_ ?_ _) | omega | (simp; done) | (simp; omega) | (with_reducible refine Below.drew ?_))) : Below w.heap.size w Z.W) (by omega)).ext X) (by omega) ?_
    go_simp
    all_goals (try (intros; omega))
  rintro e w' ⟨rfl, x1, rfl⟩
  have s1 := x1.size
  go_wp2
  go_ret
  refine ⟨ret_bool (allowed_eq hl h0 h4), ext_mk ?_⟩
  (repeat' (first | (with_reducible exact Below.refl _ _) | (with_reducible assumption) | (with_reducible refine Below.setCell ?_ ?_ _) | (with_reducible refine Below.alloc ?_ ?_ _) | (with_reducible refine Below.ext ?_ ?_ _) | omega | (simp; done) | (simp; omega) | (with_reducible refine Below.drew ?_)))
set_option maxHeartbeats 1000000 in
set_option maxRecDepth 100000 in
theorem specAllowed_any (A : Option Addr) (n c : Nat) (L : List Label) (l : Label) (p : Int) (w : World) (hr : Rd w (lt w.heap.size) A n c L) (hL1 : areLabels L = true) (hl : okL l) (h0 : 0 ≤ p) (h4 : p ≤ 4) :
    Calls Try.prog 63 #[.slice A n c, .agg #[.int .i64 l.X, .int .i64 l.Y, .int .i64 l.Len, .int .i64 l.Pri], .int .i64 p] w fun e w' => e = .returned (.bool (allowed L l p)) ∧ ∃ X : Ext w, w' = X.W := by
  have hL := hr.len
  have HL1 := Lib.hid hL1
  have HL := Lib.hid hl
  clear hL1 hl
  go_enter Try.func63, Try.ntmps63
  go_wp2
  refine wp_named fun W0 hW0 => ?_
  have q0 : W0.cell? ⟨w.heap.size, 0, none⟩ = some (.int .i64 l.X) := by rw [hW0]; go_simp
  have q1 : W0.cell? ⟨w.heap.size, 1, none⟩ = some (.int .i64 l.Y) := by rw [hW0]; go_simp
  have q2 : W0.cell? ⟨w.heap.size, 1 + 1, none⟩ = some (.int .i64 l.Len) := by rw [hW0]; go_simp
  have q3 : W0.cell? ⟨w.heap.size, 1 + 1 + 1, none⟩ = some (.int .i64 l.Pri) := by rw [hW0]; go_simp
  have bW : Below w.heap.size w W0 := by rw [hW0]; (repeat' (first | (with_reducible exact Below.refl _ _) | (with_reducible assumption) | (with_reducible refine Below.setCell ?_ ?_ _) | (with_reducible refine Below.alloc ?_ ?_ _) | (with_reducible refine Below.ext ?_ ?_ _) | omega | (simp; done) | (simp; omega) | (with_reducible refine Below.drew ?_)))
  have zW : w.heap.size < W0.heap.size := by rw [hW0]; simp
  have hr0 := hr.below bW
  clear hW0 hr
  go_loopw [7] (fun i wr => Below W0.heap.size W0 wr ∧ ∃ k : Nat, k ≤ n ∧ i = .int .i64 k ∧ Hid (allowed (L.drop k) l p = allowed L l p)) (fun i _ => n - (intOf i).toNat)
  case atStart => exact ⟨Below.refl _ _, 0, Nat.zero_le _, rfl, by simp [Hid]⟩
  case round =>
    obtain ⟨hbw, k, hk, rfl, H⟩ := hrel
    obtain ⟨X, rfl⟩ := ext_of hbw
    have sX := X.size
    by_cases hlt : k < n
    · obtain ⟨x, hx⟩ := Rd.get hr0 hlt
      obtain ⟨bbx, oox, rfl, hbx, c0, c1, c2, c3⟩ := Rd.at_Label hr0 hx
      have Hx := Lib.hid hx
      clear hx
      simp only [lt] at hbx
      obtain ⟨i1, i2, i3, i4, _⟩ := areLabels_one HL1.out Hx.out
      rcases Bool.eq_false_or_eq_true (covers l p x.X x.Y) with t1 | t1
      · go_wp2
        refine wp_region_ext (by kernel_rfl) (by kernel_rfl) ?_
        repeat (go_big_quiet_step ((go_at_call 90; exact calls_ext (covers_any l p _ _ _ HL.out h0 h4 (by omega) (by omega)))))
        refine wpQuiet_nil ?_
        rw [t1]
        intro x2
        have s2 := x2.size
        go_wp2
        go_ret
        refine ⟨ret_bool ?_, ext_mk ?_⟩
        · rw [← H.out, drop_of Hx.out]; simp [allowed, t1]
        · exact bW.trans ((by (repeat' (first | (with_reducible exact Below.refl _ _) | (with_reducible assumption) | (with_reducible refine Below.setCell ?_ ?_ _) | (with_reducible refine Below.alloc ?_ ?_ _) | (with_reducible refine Below.ext ?_ ?_ _) | omega | (simp; done) | (simp; omega) | (with_reducible refine Below.drew ?_))) : Below W0.heap.size W0 x2.W).mono (by omega))
      · go_wp2
        refine wp_region_ext (by kernel_rfl) (by kernel_rfl) ?_
        repeat (go_big_quiet_step ((go_at_call 90; exact calls_ext (covers_any l p _ _ _ HL.out h0 h4 (by omega) (by omega)))))
        refine wpQuiet_nil ?_
        rw [t1]
        intro x2
        have s2 := x2.size
        go_wp2
        refine ⟨⟨by (repeat' (first | (with_reducible exact Below.refl _ _) | (with_reducible assumption) | (with_reducible refine Below.setCell ?_ ?_ _) | (with_reducible refine Below.alloc ?_ ?_ _) | (with_reducible refine Below.ext ?_ ?_ _) | omega | (simp; done) | (simp; omega) | (with_reducible refine Below.drew ?_))), k + 1, by omega, by go_num, ?_⟩, by simp [intOf]; omega⟩
        have h := H.out
        rw [drop_of Hx.out] at h
        rw [← h]
        simp [allowed, t1, Hid]
    · go_wp2
      go_ret
      refine ⟨ret_bool ?_, ext_mk (bW.trans (hbw.mono (by omega)))⟩
      rw [← H.out, List.drop_eq_nil_of_le (by have := hr0.eq; omega)]; rfl
end Go.Proofs.Ytnnpmbcamnnfgaa
