/- The program AreLabels computes areLabels, for every readable slice of labels. -/
import Derived.Test.YtnnpmbcamnnfgaaA2
namespace Go.Proofs.Ytnnpmbcamnnfgaa
open Go.RowKit

set_option maxHeartbeats 400000 in
set_option maxRecDepth 100000 in
theorem isAt1_any (l p : Int × Int) (ln pr : Int) (a : Addr) (w : World) (ha : a.spot = none) (hb : a.block < w.heap.size)
    (h0 : w.cell? ⟨a.block, a.off, none⟩ = some (.int .i64 p.1)) (h1 : w.cell? ⟨a.block, a.off + 1, none⟩ = some (.int .i64 p.2)) :
    Calls Try.prog 88 #[.agg #[.int .i64 l.1, .int .i64 l.2, .int .i64 ln, .int .i64 pr], .pointer (some a)] w fun e w' => e = .returned (.bool (l.1 == p.1 && l.2 == p.2)) ∧ ∃ X : Ext w, w' = X.W := by
  obtain ⟨b, o, sp⟩ := a
  simp only at ha hb h0 h1
  subst ha
  go_enter Try.func88, Try.ntmps88
  go_wp2
  go_ret
  refine ⟨rfl, ext_mk ?_⟩
  (repeat' (first | (with_reducible exact Below.refl _ _) | (with_reducible assumption) | (with_reducible refine Below.setCell ?_ ?_ _) | (with_reducible refine Below.alloc ?_ ?_ _) | (with_reducible refine Below.ext ?_ ?_ _) | omega | (simp; done) | (simp; omega) | (with_reducible refine Below.drew ?_)))

def idxFrom {α : Type} (p : α → Bool) : List α → Nat → Int
  | [], _ => -1
  | x :: r, k => if p x then (k : Int) else idxFrom p r (k + 1)
theorem idx_any {α : Type} (p : α → Bool) : ∀ (L : List α) (k : Nat), decide (0 ≤ idxFrom p L k) = L.any p
  | [], k => by simp [idxFrom]
  | x :: r, k => by
    rw [idxFrom, List.any_cons]
    by_cases h : p x = true
    · rw [if_pos h, h]; simp
    · rw [if_neg h, idx_any p r (k + 1)]; simp [h]

set_option maxHeartbeats 400000 in
set_option maxRecDepth 100000 in
theorem indexLabel1 (g : FuncId) (q : Value) (p : Label → Bool) (A : Option Addr) (n c : Nat) (L : List Label) (w : World) (hr : Rd w (lt w.heap.size) A n c L)
    (eg : Ents Try.prog g) (hp : ∀ (X : Ext w) (x : Label), x ∈ L → Calls Try.prog g #[x.val, q] X.W fun e w' => e = .returned (.bool (p x)) ∧ ∃ Y : Ext X.W, w' = Y.W) :
    Calls Try.prog 101 #[.slice A n c, .func (.func g) #[] #[q]] w fun e w' => e = .returned (.int .i64 (idxFrom p L 0)) ∧ ∃ X : Ext w, w' = X.W := by
  have hL := hr.len
  have HP := Lib.hid hp
  clear hp
  unfold Ents at eg
  go_enter Try.func101, Try.ntmps101
  go_wp2
  go_loopw [8] (fun i wr => ∃ X : Ext w, wr = X.W ∧ ∃ k : Nat, k ≤ n ∧ i = .int .i64 k ∧ Hid (idxFrom p (L.drop k) k = idxFrom p L 0)) (fun i _ => n - (intOf i).toNat)
  case atStart => exact ⟨Ext.refl w, rfl, 0, Nat.zero_le _, rfl, by simp [Hid]⟩
  case round =>
    obtain ⟨X, rfl, k, hk, rfl, H⟩ := hrel
    have sX := X.size
    by_cases hlt : k < n
    · obtain ⟨x, hx⟩ := hr.get hlt
      obtain ⟨b, o, rfl, hbo, c0, c1, c2, c3⟩ := hr.at_Label hx
      have hx' := Lib.hid hx
      clear hx
      simp only [lt] at hbo
      go_wp2_with ((show Calls Try.prog g _ _ _); refine (HP.out X x (List.mem_of_getElem? hx'.out)).mono ?_; rintro e w' ⟨rfl, Y, rfl⟩)
      · go_ret
        refine ⟨ret_int ?_, ext_mk ?_⟩
        · rw [← H.out, drop_of hx'.out, idxFrom, if_pos (by assumption)]
        · (repeat' (first | (with_reducible exact Below.refl _ _) | (with_reducible assumption) | (with_reducible refine Below.setCell ?_ ?_ _) | (with_reducible refine Below.alloc ?_ ?_ _) | (with_reducible refine Below.ext ?_ ?_ _) | omega | (simp; done) | (simp; omega) | (with_reducible refine Below.drew ?_)))
      · refine ⟨ext_and ?_ ⟨k + 1, by omega, by go_num, ?_⟩, by simp [intOf]; omega⟩
        · (repeat' (first | (with_reducible exact Below.refl _ _) | (with_reducible assumption) | (with_reducible refine Below.setCell ?_ ?_ _) | (with_reducible refine Below.alloc ?_ ?_ _) | (with_reducible refine Below.ext ?_ ?_ _) | omega | (simp; done) | (simp; omega) | (with_reducible refine Below.drew ?_)))
        · have h := H.out
          rw [drop_of hx'.out, idxFrom, if_neg (by simp_all)] at h
          exact h
    · go_wp2
      go_ret
      refine ⟨ret_int ?_, ext_mk ?_⟩
      · have := hr.eq
        rw [← H.out, List.drop_eq_nil_of_le (by omega), idxFrom]
      · (repeat' (first | (with_reducible exact Below.refl _ _) | (with_reducible assumption) | (with_reducible refine Below.setCell ?_ ?_ _) | (with_reducible refine Below.alloc ?_ ?_ _) | (with_reducible refine Below.ext ?_ ?_ _) | omega | (simp; done) | (simp; omega) | (with_reducible refine Below.drew ?_)))
set_option maxHeartbeats 400000 in
set_option maxRecDepth 100000 in
theorem containsLabel1 (g : FuncId) (q : Value) (p : Label → Bool) (A : Option Addr) (n c : Nat) (L : List Label) (w : World) (hr : Rd w (lt w.heap.size) A n c L)
    (eg : Ents Try.prog g) (hp : ∀ (X : Ext w) (x : Label), x ∈ L → Calls Try.prog g #[x.val, q] X.W fun e w' => e = .returned (.bool (p x)) ∧ ∃ Y : Ext X.W, w' = Y.W) :
    Calls Try.prog 87 #[.slice A n c, .func (.func g) #[] #[q]] w fun e w' => e = .returned (.bool (L.any p)) ∧ ∃ X : Ext w, w' = X.W := by
  have HP := Lib.hid hp
  clear hp
  go_enter Try.func87, Try.ntmps87
  go_wp2_with (go_at_call 101; refine (indexLabel1 g q p A n c L w hr eg HP.out).mono ?_; rintro e w' ⟨rfl, X, rfl⟩)
  go_ret
  refine ⟨ret_bool (idx_any p L 0), ext_mk ?_⟩
  (repeat' (first | (with_reducible exact Below.refl _ _) | (with_reducible assumption) | (with_reducible refine Below.setCell ?_ ?_ _) | (with_reducible refine Below.alloc ?_ ?_ _) | (with_reducible refine Below.ext ?_ ?_ _) | omega | (simp; done) | (simp; omega) | (with_reducible refine Below.drew ?_)))

def isAtB (L : List Label) (x y : Int) : Bool := L.any fun l => l.X == x && l.Y == y
theorem isAt1_ents : Ents Try.prog 88 := ents_of Try.func88 (by kernel_rfl) rfl
set_option maxHeartbeats 400000 in
set_option maxRecDepth 100000 in
theorem isAt_any (A : Option Addr) (n c : Nat) (L : List Label) (px py : Int) (w : World) (hr : Rd w (lt w.heap.size) A n c L) :
    Calls Try.prog 56 #[.slice A n c, .agg #[.int .i64 px, .int .i64 py]] w fun e w' => e = .returned (.bool (isAtB L px py)) ∧ ∃ X : Ext w, w' = X.W := by
  go_enter Try.func56, Try.ntmps56
  go_wp2_with (fail)
  refine (containsLabel1 _ _ (fun l => l.X == px && l.Y == py) _ _ _ L _ (hr.now ((Below.refl _ _).alloc (Nat.le_refl _) _) (by simp)) isAt1_ents (fun X x _ => ?_)).mono ?_
  · have sX := X.size
    simp at sX
    exact isAt1_any (x.X, x.Y) (px, py) x.Len x.Pri _ X.W rfl (by show w.heap.size < _; omega) (by go_simp) (by go_simp)
  rintro e w' ⟨rfl, x1, rfl⟩
  have s1 := x1.size
  simp at s1
  go_wp2
  go_ret
  refine ⟨rfl, ext_mk ?_⟩
  (repeat' (first | (with_reducible exact Below.refl _ _) | (with_reducible assumption) | (with_reducible refine Below.setCell ?_ ?_ _) | (with_reducible refine Below.alloc ?_ ?_ _) | (with_reducible refine Below.ext ?_ ?_ _) | omega | (simp; done) | (simp; omega) | (with_reducible refine Below.drew ?_)))

theorem isAt_same (L : List Label) (x : Label) : isAtB L x.X x.Y = L.any (sameAt x) := rfl

set_option maxHeartbeats 1000000 in
set_option maxRecDepth 100000 in
theorem implAreLabels_any (A : Option Addr) (n c : Nat) (L : List Label) (w : World) (hr : Rd w (lt w.heap.size) A n c L) :
    Calls Try.prog 16 #[.slice A n c] w fun e w' => e = .returned (.bool (areLabels L)) ∧ ∃ X : Ext w, w' = X.W := by
  have hL := hr.len
  have hC := hr.cap
  go_enter Try.func16, Try.ntmps16
  go_wp2
  go_loopw [7] (fun i wr => ∃ X : Ext w, wr = X.W ∧ ∃ k : Nat, k ≤ n ∧ i = .int .i64 k ∧ Hid (okFrom (L.take k) (L.drop k) = okFrom [] L)) (fun i _ => n - (intOf i).toNat)
  case atStart => exact ⟨Ext.refl w, rfl, 0, Nat.zero_le _, rfl, by simp [Hid]⟩
  case round =>
    obtain ⟨X, rfl, k, hk, rfl, H⟩ := hrel
    have sX := X.size
    by_cases hlt : k < n
    · obtain ⟨x, hx⟩ := hr.get hlt
      obtain ⟨b, o, rfl, hbo, c0, c1, c2, c3⟩ := hr.at_Label hx
      have hx' := Lib.hid hx
      clear hx
      simp only [lt] at hbo
      have hr0 := (hr.take (m := k) (by omega))
      have hr1 : ∀ (ob : Obj) (Y : Ext (X.W.alloc ob)), Rd Y.W (lt Y.W.heap.size) (some ⟨b, o, none⟩) k c (L.take k) := fun ob Y => hr0.now (Below.ext (X.h.alloc sX ob) (by simp; omega) Y) (by have := Y.size; simp at this; omega)
      rcases Bool.eq_false_or_eq_true (isPt x.X x.Y) with t1 | t1
      · rcases Bool.eq_false_or_eq_true (inB x.Len 1 20) with t2 | t2
        · rcases Bool.eq_false_or_eq_true (inB x.Pri 1 9) with t3 | t3
          · rcases Bool.eq_false_or_eq_true (isAtB (L.take k) x.X x.Y) with t4 | t4
            · go_wp2_with (fail)
              refine wp_region_ext (by kernel_rfl) (by kernel_rfl) ?_
              repeat (go_big_quiet_step ((first | (go_at_call 54; exact calls_ext (implIsPoint_any _ _ _)) | (go_at_call 55; exact calls_ext_same (within_any _ _ _ _)) | (go_at_call 56; exact calls_ext (isAt_any _ _ _ (L.take k) _ _ _ (hr1 _ _))))))
              refine wpQuiet_nil ?_
              intro x2
              have s2 := x2.size
              simp at s2
              go_wp2
              go_ret
              refine ⟨ret_bool (ok_fail H.out hx'.out (.inr t4)).symm, ext_mk ?_⟩
              (repeat' (first | (with_reducible exact Below.refl _ _) | (with_reducible assumption) | (with_reducible refine Below.setCell ?_ ?_ _) | (with_reducible refine Below.alloc ?_ ?_ _) | (with_reducible refine Below.ext ?_ ?_ _) | omega | (simp; done) | (simp; omega) | (with_reducible refine Below.drew ?_)))
            · go_wp2_with (fail)
              refine wp_region_ext (by kernel_rfl) (by kernel_rfl) ?_
              repeat (go_big_quiet_step ((first | (go_at_call 54; exact calls_ext (implIsPoint_any _ _ _)) | (go_at_call 55; exact calls_ext_same (within_any _ _ _ _)) | (go_at_call 56; exact calls_ext (isAt_any _ _ _ (L.take k) _ _ _ (hr1 _ _))))))
              refine wpQuiet_nil ?_
              intro x2
              have s2 := x2.size
              simp at s2
              go_wp2
              refine ⟨ext_and ?_ ⟨k + 1, by omega, by go_num, ?_⟩, by simp [intOf]; omega⟩
              · (repeat' (first | (with_reducible exact Below.refl _ _) | (with_reducible assumption) | (with_reducible refine Below.setCell ?_ ?_ _) | (with_reducible refine Below.alloc ?_ ?_ _) | (with_reducible refine Below.ext ?_ ?_ _) | omega | (simp; done) | (simp; omega) | (with_reducible refine Below.drew ?_)))
              · exact ok_next H.out hx'.out (by simp [okOne, t1, t2, t3]) t4
          · go_wp2_with (fail)
            refine wp_region_ext (by kernel_rfl) (by kernel_rfl) ?_
            repeat (go_big_quiet_step ((first | (go_at_call 54; exact calls_ext (implIsPoint_any _ _ _)) | (go_at_call 55; exact calls_ext_same (within_any _ _ _ _)) | (go_at_call 56; exact calls_ext (isAt_any _ _ _ (L.take k) _ _ _ (hr1 _ _))))))
            refine wpQuiet_nil ?_
            intro x2
            have s2 := x2.size
            simp at s2
            go_wp2
            go_ret
            refine ⟨ret_bool (ok_fail H.out hx'.out (.inl (by simp [okOne, t1, t2, t3]))).symm, ext_mk ?_⟩
            (repeat' (first | (with_reducible exact Below.refl _ _) | (with_reducible assumption) | (with_reducible refine Below.setCell ?_ ?_ _) | (with_reducible refine Below.alloc ?_ ?_ _) | (with_reducible refine Below.ext ?_ ?_ _) | omega | (simp; done) | (simp; omega) | (with_reducible refine Below.drew ?_)))
        · go_wp2_with (fail)
          refine wp_region_ext (by kernel_rfl) (by kernel_rfl) ?_
          repeat (go_big_quiet_step ((first | (go_at_call 54; exact calls_ext (implIsPoint_any _ _ _)) | (go_at_call 55; exact calls_ext_same (within_any _ _ _ _)) | (go_at_call 56; exact calls_ext (isAt_any _ _ _ (L.take k) _ _ _ (hr1 _ _))))))
          refine wpQuiet_nil ?_
          intro x2
          have s2 := x2.size
          simp at s2
          go_wp2
          go_ret
          refine ⟨ret_bool (ok_fail H.out hx'.out (.inl (by simp [okOne, t1, t2]))).symm, ext_mk ?_⟩
          (repeat' (first | (with_reducible exact Below.refl _ _) | (with_reducible assumption) | (with_reducible refine Below.setCell ?_ ?_ _) | (with_reducible refine Below.alloc ?_ ?_ _) | (with_reducible refine Below.ext ?_ ?_ _) | omega | (simp; done) | (simp; omega) | (with_reducible refine Below.drew ?_)))
      · go_wp2_with (fail)
        refine wp_region_ext (by kernel_rfl) (by kernel_rfl) ?_
        repeat (go_big_quiet_step ((first | (go_at_call 54; exact calls_ext (implIsPoint_any _ _ _)) | (go_at_call 55; exact calls_ext_same (within_any _ _ _ _)) | (go_at_call 56; exact calls_ext (isAt_any _ _ _ (L.take k) _ _ _ (hr1 _ _))))))
        refine wpQuiet_nil ?_
        intro x2
        have s2 := x2.size
        simp at s2
        go_wp2
        go_ret
        refine ⟨ret_bool (ok_fail H.out hx'.out (.inl (by simp [okOne, t1]))).symm, ext_mk ?_⟩
        (repeat' (first | (with_reducible exact Below.refl _ _) | (with_reducible assumption) | (with_reducible refine Below.setCell ?_ ?_ _) | (with_reducible refine Below.alloc ?_ ?_ _) | (with_reducible refine Below.ext ?_ ?_ _) | omega | (simp; done) | (simp; omega) | (with_reducible refine Below.drew ?_)))
    · go_wp2
      go_ret
      refine ⟨ret_bool ?_, ext_mk ?_⟩
      · have := hr.eq; rw [ok_end H.out (by omega)]; simp; omega
      · (repeat' (first | (with_reducible exact Below.refl _ _) | (with_reducible assumption) | (with_reducible refine Below.setCell ?_ ?_ _) | (with_reducible refine Below.alloc ?_ ?_ _) | (with_reducible refine Below.ext ?_ ?_ _) | omega | (simp; done) | (simp; omega) | (with_reducible refine Below.drew ?_)))
end Go.Proofs.Ytnnpmbcamnnfgaa
