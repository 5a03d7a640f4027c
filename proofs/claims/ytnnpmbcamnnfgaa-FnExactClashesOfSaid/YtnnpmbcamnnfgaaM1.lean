/- The marks that the laws lay into a slice, and the look whether they hold, for the slices that a call has made. -/
import Derived.Test.YtnnpmbcamnnfgaaLib
namespace Go.Proofs.Ytnnpmbcamnnfgaa
open Go.RowKit
set_option maxHeartbeats 1000000 in
set_option maxRecDepth 100000 in
theorem markPoints (A : Option Addr) (n c : Nat) (k0 : Int) (xs : List Value) (base : Nat) (w : World) (hown : w.ownsRow base 53 2 (.slice A n c) n xs) (h0 : 0 ≤ k0) (hk0 : k0 + n * 2 ≤ 9000000000000000000) :
    Calls Try.prog 30 #[.slice A n c, .int .i64 k0] w fun e w' => e = .returned (.int .i64 (k0 + n * 2)) ∧ w'.ownsRow base 53 2 (.slice A n c) n (mk k0 (n * 2)) ∧ w.grownBy w' (Value.slice A n c).ownBlock := by
  go_enter Try.func30, Try.ntmps30
  go_wp2
  go_loopw [1, 5] (fun q i wr => ∃ k : Nat, k ≤ n ∧ i = .int .i64 k ∧ q = .int .i64 (k0 + k * 2) ∧ ∃ ys, wr.ownsRow base 53 2 (.slice A n c) n ys ∧ Hid (ys.take (k * 2) = mk k0 (k * 2)) ∧ w.grownBy wr (Value.slice A n c).ownBlock) (fun _ i _ => n - (intOf i).toNat)
  case atStart => exact ⟨0, Nat.zero_le _, rfl, by simp, xs, hown, by simp [mk, Hid], World.grownBy.refl _ _⟩
  case round =>
    obtain ⟨k, hk, rfl, rfl, ys, ho, H, hg⟩ := hrel
    by_cases hlt : k < n
    · obtain ⟨g, rfl, hbg, hgl⟩ := own_form ho (by omega)
      have hys := ho.1
      obtain ⟨v0, d0⟩ := own_val ho (j := k * 2) (by omega)
      obtain ⟨v1, d1⟩ := own_val ho (j := k * 2 + 1) (by omega)
      have hf := ho.frozenAt
      go_wp2
      have o0 := ho.stored (k * 2) (.int .i64 (k0 + k * 2))
      have o1 := o0.1.stored (k * 2 + 1) (.int .i64 (k0 + k * 2 + 1))
      have ht := take_setRun (l := ys) (us := [(.int .i64 (k0 + k * 2)), (.int .i64 (k0 + k * 2 + 1))]) (o := k * 2) (by simp only [List.length_cons, List.length_nil]; omega)
      refine ⟨⟨k + 1, by omega, by go_num, congrArg (Value.int .i64) (by omega), setRun ys (k * 2) [(.int .i64 (k0 + k * 2)), (.int .i64 (k0 + k * 2 + 1))], o1.1, ?_, (grown_trans (grown_trans hg o0.2) o1.2)⟩, by simp [intOf]; omega⟩
      show List.take ((k + 1) * 2) _ = _
      rw [show (k + 1) * 2 = k * 2 + 1 + 1 from by omega]
      rw [mk_succ, mk_succ]
      refine ht.trans ?_
      rw [H.out]
      simp only [List.append_assoc, List.cons_append, List.nil_append, List.append_cancel_left_eq, List.cons.injEq, and_true]
      exact ⟨congrArg (Value.int .i64) (by omega), congrArg (Value.int .i64) (by omega)⟩
    · go_wp2
      obtain rfl : k = n := by omega
      go_ret
      refine ⟨rfl, ?_, hg⟩
      have h := H.out
      rw [List.take_of_length_le (by rw [ho.1]; exact Nat.le_refl _)] at h
      rwa [h] at ho
set_option maxHeartbeats 1000000 in
set_option maxRecDepth 100000 in
theorem heldPoints (A : Option Addr) (n c : Nat) (k0 : Int) (base : Nat) (w : World) (ho : w.ownsRow base 53 2 (.slice A n c) n (mk k0 (n * 2))) (h0 : 0 ≤ k0) (hk0 : k0 + n * 2 ≤ 9000000000000000000) :
    Calls Try.prog 31 #[.slice A n c, .int .i64 k0] w fun e w' => e = .returned (.int .i64 (k0 + n * 2)) ∧ ∃ X : Ext w, w' = X.W := by
  go_enter Try.func31, Try.ntmps31
  go_wp2
  go_loopw [1, 5] (fun q i wr => Below w.heap.size w wr ∧ ∃ k : Nat, k ≤ n ∧ i = .int .i64 k ∧ q = .int .i64 (k0 + k * 2)) (fun _ i _ => n - (intOf i).toNat)
  case atStart => exact ⟨Below.refl _ _, 0, Nat.zero_le _, rfl, by simp⟩
  case round =>
    obtain ⟨hbw, k, hk, rfl, rfl⟩ := hrel
    obtain ⟨X, rfl⟩ := ext_of hbw
    have sX := X.size
    by_cases hlt : k < n
    · obtain ⟨g, rfl, hbg, hgl⟩ := own_form ho (by omega)
      have d0 : w.cell? ⟨g, k * 2, none⟩ = some (.int .i64 (k0 + k * 2)) := by
        rw [ho.cellAt _ (by omega), mk_get (by omega)]; exact congrArg (fun z => some (Value.int .i64 z)) (by omega)
      have d1 : w.cell? ⟨g, k * 2 + 1, none⟩ = some (.int .i64 (k0 + k * 2 + 1)) := by
        rw [ho.cellAt _ (by omega), mk_get (by omega)]; exact congrArg (fun z => some (Value.int .i64 z)) (by omega)
      go_wp2
      refine ⟨⟨hbw, k + 1, by omega, by go_num, congrArg (Value.int .i64) (by omega)⟩, by simp [intOf]; omega⟩
    · go_wp2
      obtain rfl : k = n := by omega
      go_ret
      exact ⟨rfl, ext_mk hbw⟩
set_option maxHeartbeats 1000000 in
set_option maxRecDepth 100000 in
theorem markLabels (A : Option Addr) (n c : Nat) (k0 : Int) (xs : List Value) (base : Nat) (w : World) (hown : w.ownsRow base 55 4 (.slice A n c) n xs) (h0 : 0 ≤ k0) (hk0 : k0 + n * 4 ≤ 9000000000000000000) :
    Calls Try.prog 24 #[.slice A n c, .int .i64 k0] w fun e w' => e = .returned (.int .i64 (k0 + n * 4)) ∧ w'.ownsRow base 55 4 (.slice A n c) n (mk k0 (n * 4)) ∧ w.grownBy w' (Value.slice A n c).ownBlock := by
  go_enter Try.func24, Try.ntmps24
  go_wp2
  go_loopw [1, 5] (fun q i wr => ∃ k : Nat, k ≤ n ∧ i = .int .i64 k ∧ q = .int .i64 (k0 + k * 4) ∧ ∃ ys, wr.ownsRow base 55 4 (.slice A n c) n ys ∧ Hid (ys.take (k * 4) = mk k0 (k * 4)) ∧ w.grownBy wr (Value.slice A n c).ownBlock) (fun _ i _ => n - (intOf i).toNat)
  case atStart => exact ⟨0, Nat.zero_le _, rfl, by simp, xs, hown, by simp [mk, Hid], World.grownBy.refl _ _⟩
  case round =>
    obtain ⟨k, hk, rfl, rfl, ys, ho, H, hg⟩ := hrel
    by_cases hlt : k < n
    · obtain ⟨g, rfl, hbg, hgl⟩ := own_form ho (by omega)
      have hys := ho.1
      obtain ⟨v0, d0⟩ := own_val ho (j := k * 4) (by omega)
      obtain ⟨v1, d1⟩ := own_val ho (j := k * 4 + 1) (by omega)
      obtain ⟨v2, d2⟩ := own_val ho (j := k * 4 + 2) (by omega)
      obtain ⟨v3, d3⟩ := own_val ho (j := k * 4 + 3) (by omega)
      have hf := ho.frozenAt
      go_wp2
      have o0 := ho.stored (k * 4) (.int .i64 (k0 + k * 4))
      have o1 := o0.1.stored (k * 4 + 1) (.int .i64 (k0 + k * 4 + 1))
      have o2 := o1.1.stored (k * 4 + 2) (.int .i64 (k0 + k * 4 + 1 + 1))
      have o3 := o2.1.stored (k * 4 + 3) (.int .i64 (k0 + k * 4 + 1 + 1 + 1))
      have ht := take_setRun (l := ys) (us := [(.int .i64 (k0 + k * 4)), (.int .i64 (k0 + k * 4 + 1)), (.int .i64 (k0 + k * 4 + 1 + 1)), (.int .i64 (k0 + k * 4 + 1 + 1 + 1))]) (o := k * 4) (by simp only [List.length_cons, List.length_nil]; omega)
      refine ⟨⟨k + 1, by omega, by go_num, congrArg (Value.int .i64) (by omega), setRun ys (k * 4) [(.int .i64 (k0 + k * 4)), (.int .i64 (k0 + k * 4 + 1)), (.int .i64 (k0 + k * 4 + 1 + 1)), (.int .i64 (k0 + k * 4 + 1 + 1 + 1))], o3.1, ?_, (grown_trans (grown_trans (grown_trans (grown_trans hg o0.2) o1.2) o2.2) o3.2)⟩, by simp [intOf]; omega⟩
      show List.take ((k + 1) * 4) _ = _
      rw [show (k + 1) * 4 = k * 4 + 1 + 1 + 1 + 1 from by omega]
      rw [mk_succ, mk_succ, mk_succ, mk_succ]
      refine ht.trans ?_
      rw [H.out]
      simp only [List.append_assoc, List.cons_append, List.nil_append, List.append_cancel_left_eq, List.cons.injEq, and_true]
      exact ⟨congrArg (Value.int .i64) (by omega), congrArg (Value.int .i64) (by omega), congrArg (Value.int .i64) (by omega), congrArg (Value.int .i64) (by omega)⟩
    · go_wp2
      obtain rfl : k = n := by omega
      go_ret
      refine ⟨rfl, ?_, hg⟩
      have h := H.out
      rw [List.take_of_length_le (by rw [ho.1]; exact Nat.le_refl _)] at h
      rwa [h] at ho
set_option maxHeartbeats 1000000 in
set_option maxRecDepth 100000 in
theorem markInts (A : Option Addr) (n c : Nat) (k0 : Int) (xs : List Value) (base : Nat) (w : World) (hown : w.ownsRow base 2 1 (.slice A n c) n xs) (h0 : 0 ≤ k0) (hk0 : k0 + n * 1 ≤ 9000000000000000000) :
    Calls Try.prog 25 #[.slice A n c, .int .i64 k0] w fun e w' => e = .returned (.int .i64 (k0 + n * 1)) ∧ w'.ownsRow base 2 1 (.slice A n c) n (mk k0 (n * 1)) ∧ w.grownBy w' (Value.slice A n c).ownBlock := by
  go_enter Try.func25, Try.ntmps25
  go_wp2
  go_loopw [1, 5] (fun q i wr => ∃ k : Nat, k ≤ n ∧ i = .int .i64 k ∧ q = .int .i64 (k0 + k * 1) ∧ ∃ ys, wr.ownsRow base 2 1 (.slice A n c) n ys ∧ Hid (ys.take (k * 1) = mk k0 (k * 1)) ∧ w.grownBy wr (Value.slice A n c).ownBlock) (fun _ i _ => n - (intOf i).toNat)
  case atStart => exact ⟨0, Nat.zero_le _, rfl, by simp, xs, hown, by simp [mk, Hid], World.grownBy.refl _ _⟩
  case round =>
    obtain ⟨k, hk, rfl, rfl, ys, ho, H, hg⟩ := hrel
    by_cases hlt : k < n
    · obtain ⟨g, rfl, hbg, hgl⟩ := own_form ho (by omega)
      have hys := ho.1
      obtain ⟨v0, d0⟩ := own_val ho (j := k) (by omega)
      have hf := ho.frozenAt
      go_wp2
      have o0 := ho.stored (k) (.int .i64 (k0 + k))
      have ht := take_setRun (l := ys) (us := [(.int .i64 (k0 + k))]) (o := k) (by simp only [List.length_cons, List.length_nil]; omega)
      refine ⟨⟨k + 1, by omega, by go_num, congrArg (Value.int .i64) (by omega), setRun ys (k) [(.int .i64 (k0 + k))], o0.1, ?_, (grown_trans hg o0.2)⟩, by simp [intOf]; omega⟩
      show List.take ((k + 1) * 1) _ = _
      rw [show (k + 1) * 1 = k + 1 from by omega]
      rw [Nat.mul_one] at H
      rw [mk_succ]
      refine ht.trans ?_
      rw [H.out]
    · go_wp2
      obtain rfl : k = n := by omega
      go_ret
      refine ⟨rfl, ?_, hg⟩
      have h := H.out
      rw [List.take_of_length_le (by rw [ho.1]; exact Nat.le_refl _)] at h
      rwa [h] at ho
set_option maxHeartbeats 1000000 in
set_option maxRecDepth 100000 in
theorem heldInts (A : Option Addr) (n c : Nat) (k0 : Int) (base : Nat) (w : World) (ho : w.ownsRow base 2 1 (.slice A n c) n (mk k0 (n * 1))) (h0 : 0 ≤ k0) (hk0 : k0 + n * 1 ≤ 9000000000000000000) :
    Calls Try.prog 26 #[.slice A n c, .int .i64 k0] w fun e w' => e = .returned (.int .i64 (k0 + n * 1)) ∧ ∃ X : Ext w, w' = X.W := by
  go_enter Try.func26, Try.ntmps26
  go_wp2
  go_loopw [1, 5] (fun q i wr => Below w.heap.size w wr ∧ ∃ k : Nat, k ≤ n ∧ i = .int .i64 k ∧ q = .int .i64 (k0 + k * 1)) (fun _ i _ => n - (intOf i).toNat)
  case atStart => exact ⟨Below.refl _ _, 0, Nat.zero_le _, rfl, by simp⟩
  case round =>
    obtain ⟨hbw, k, hk, rfl, rfl⟩ := hrel
    obtain ⟨X, rfl⟩ := ext_of hbw
    have sX := X.size
    by_cases hlt : k < n
    · obtain ⟨g, rfl, hbg, hgl⟩ := own_form ho (by omega)
      have d0 : w.cell? ⟨g, k, none⟩ = some (.int .i64 (k0 + k * 1)) := by
        rw [ho.cellAt _ (by omega), mk_get (by omega)]; exact congrArg (fun z => some (Value.int .i64 z)) (by omega)
      go_wp2
      refine ⟨⟨hbw, k + 1, by omega, by go_num, congrArg (Value.int .i64) (by omega)⟩, by simp [intOf]; omega⟩
    · go_wp2
      obtain rfl : k = n := by omega
      go_ret
      exact ⟨rfl, ext_mk hbw⟩
end Go.Proofs.Ytnnpmbcamnnfgaa
