/- l33Points of the reference returns the points that a label covers, for labels within their bounds. -/
import Derived.Test.YtnnpmbcamnnfgaaA9
namespace Go.Proofs.Ytnnpmbcamnnfgaa
open Go.RowKit
def colPart (l : Label) (p : Int) (i j : Nat) : List Point := ((List.range j).filter fun (t : Nat) => covers l p (l.X - l.Len + i) (l.Y - 1 + t)).map fun (t : Nat) => ⟨l.X - l.Len + i, l.Y - 1 + t⟩
def cols (l : Label) (p : Int) (k : Nat) : List Point := (List.range k).flatMap fun i => colPart l p i 3
theorem colPart_yes {l : Label} {p : Int} {i j : Nat} (h : covers l p (l.X - l.Len + i) (l.Y - 1 + j) = true) : colPart l p i (j + 1) = colPart l p i j ++ [⟨l.X - l.Len + i, l.Y - 1 + j⟩] := by
  rw [colPart, List.range_succ, List.filter_append, List.map_append, ← colPart]
  simp [h]
theorem colPart_no {l : Label} {p : Int} {i j : Nat} (h : covers l p (l.X - l.Len + i) (l.Y - 1 + j) = false) : colPart l p i (j + 1) = colPart l p i j := by
  rw [colPart, List.range_succ, List.filter_append, List.map_append, ← colPart]
  simp [h]
theorem cols_succ (l : Label) (p : Int) (k : Nat) : cols l p (k + 1) = cols l p k ++ colPart l p k 3 := by
  simp [cols, List.range_succ]
theorem colPart_len (l : Label) (p : Int) (i j : Nat) : (colPart l p i j).length ≤ j := by
  rw [colPart, List.length_map]
  have := List.length_filter_le (fun (t : Nat) => covers l p (l.X - l.Len + i) (l.Y - 1 + t)) (List.range j)
  simpa using this
theorem cols_len (l : Label) (p : Int) : ∀ k, (cols l p k).length ≤ 3 * k
  | 0 => by simp [cols]
  | k + 1 => by rw [cols_succ, List.length_append]; have := cols_len l p k; have := colPart_len l p k 3; omega
theorem colPart3 (l : Label) (p : Int) (i : Nat) : colPart l p i 3 = (if covers l p (l.X - l.Len + i) (l.Y - 1) then [⟨l.X - l.Len + i, l.Y - 1⟩] else []) ++ (if covers l p (l.X - l.Len + i) l.Y then [⟨l.X - l.Len + i, l.Y⟩] else []) ++ (if covers l p (l.X - l.Len + i) (l.Y + 1) then [⟨l.X - l.Len + i, l.Y + 1⟩] else []) := by
  have e1 : l.Y - 1 + ((0 : Nat) : Int) = l.Y - 1 := by omega
  have e2 : l.Y - 1 + ((1 : Nat) : Int) = l.Y := by omega
  have e3 : l.Y - 1 + ((2 : Nat) : Int) = l.Y + 1 := by omega
  rw [colPart, show List.range 3 = [0, 1, 2] from rfl]
  simp only [List.filter_cons, List.filter_nil, e1, e2, e3]
  split <;> split <;> split <;> simp_all
theorem covers_no {l : Label} {p x y : Int} (h : ¬ (p < 4 ∧ (if 1 < p then -(y - l.Y) else y - l.Y) = 1 ∧ 1 ≤ (if p = 1 ∨ p = 2 then -(x - l.X) else x - l.X) ∧ (if p = 1 ∨ p = 2 then -(x - l.X) else x - l.X) ≤ l.Len)) : covers l p x y = false := by
  rw [Bool.eq_false_iff]
  intro hc
  simp only [covers, inB, Bool.and_eq_true, decide_eq_true_eq, beq_iff_eq] at hc
  exact h ⟨hc.1.1, hc.1.2, hc.2.1, hc.2.2⟩
theorem covers_yes {l : Label} {p x y : Int} (h : p < 4 ∧ (if 1 < p then -(y - l.Y) else y - l.Y) = 1 ∧ 1 ≤ (if p = 1 ∨ p = 2 then -(x - l.X) else x - l.X) ∧ (if p = 1 ∨ p = 2 then -(x - l.X) else x - l.X) ≤ l.Len) : covers l p x y = true := by
  simp only [covers, inB, Bool.and_eq_true, decide_eq_true_eq, beq_iff_eq]
  exact ⟨⟨h.1, h.2.1⟩, h.2.2⟩
theorem pt_eq {a b c d : Int} (h : a = c) (h' : b = d) : (⟨a, b⟩ : Point) = ⟨c, d⟩ := by rw [h, h']
theorem cols_right {l : Label} (h6 : 1 ≤ l.Len) {p : Int} (hp : p = 0 ∨ p = 3) : ∀ k : Nat, k ≤ 2 * l.Len + 1 → cols l p k = (List.range (k - (l.Len.toNat + 1))).map fun (i : Nat) => (⟨l.X + 1 + i, covY l p⟩ : Point)
  | 0, _ => by simp [cols]
  | k + 1, hk2 => by
    rw [cols_succ, cols_right h6 hp k (by omega), colPart3]
    by_cases hk : k ≤ l.Len.toNat
    · rw [show k + 1 - (l.Len.toNat + 1) = 0 from by omega, show k - (l.Len.toNat + 1) = 0 from by omega]
      rcases hp with rfl | rfl <;> rw [(covers_no (by simp; try omega)), (covers_no (by simp; try omega)), (covers_no (by simp; try omega))] <;> simp
    · rw [show k + 1 - (l.Len.toNat + 1) = (k - (l.Len.toNat + 1)) + 1 from by omega, range_snoc]
      rcases hp with rfl | rfl
      · rw [(covers_no (by simp; try omega)), (covers_no (by simp; try omega)), covers_yes (by simp; omega)]
        simp only [Bool.false_eq_true, if_false, if_true, List.nil_append, List.append_cancel_left_eq, List.cons.injEq, and_true]
        exact pt_eq (by omega) (by simp [covY])
      · rw [covers_yes (by simp; omega), (covers_no (by simp; try omega)), (covers_no (by simp; try omega))]
        simp only [Bool.false_eq_true, if_false, if_true, List.nil_append, List.append_nil, List.append_cancel_left_eq, List.cons.injEq, and_true]
        exact pt_eq (by omega) (by simp [covY])
theorem cols_left {l : Label} (h6 : 1 ≤ l.Len) {p : Int} (hp : p = 1 ∨ p = 2) : ∀ k : Nat, k ≤ 2 * l.Len + 1 → cols l p k = (List.range (min k l.Len.toNat)).map fun (i : Nat) => (⟨l.X - l.Len + i, covY l p⟩ : Point)
  | 0, _ => by simp [cols]
  | k + 1, hk2 => by
    rw [cols_succ, cols_left h6 hp k (by omega), colPart3]
    by_cases hk : l.Len.toNat ≤ k
    · rw [show min (k + 1) l.Len.toNat = l.Len.toNat from by omega, show min k l.Len.toNat = l.Len.toNat from by omega]
      rcases hp with rfl | rfl <;> rw [(covers_no (by simp; try omega)), (covers_no (by simp; try omega)), (covers_no (by simp; try omega))] <;> simp
    · rw [show min (k + 1) l.Len.toNat = k + 1 from by omega, show min k l.Len.toNat = k from by omega, range_snoc]
      rcases hp with rfl | rfl
      · rw [(covers_no (by simp; try omega)), (covers_no (by simp; try omega)), covers_yes (by simp; omega)]
        simp [covY]
      · rw [covers_yes (by simp; omega), (covers_no (by simp; try omega)), (covers_no (by simp; try omega))]
        simp [covY]
theorem cols_none {l : Label} : ∀ k : Nat, cols l 4 k = []
  | 0 => by simp [cols]
  | k + 1 => by rw [cols_succ, cols_none k, colPart3, (covers_no (by simp; try omega)), (covers_no (by simp; try omega)), (covers_no (by simp; try omega))]; simp
theorem cols_all {l : Label} (hl : okL l) {p : Int} (h0 : 0 ≤ p) (h4 : p ≤ 4) : cols l p (2 * l.Len.toNat + 1) = cov l p := by
  obtain ⟨_, _, _, _, h6, h7⟩ := hl
  rcases p_cases h0 h4 with rfl | rfl | rfl | rfl | rfl
  · rw [cols_right h6 (.inl rfl) _ (by omega), show 2 * l.Len.toNat + 1 - (l.Len.toNat + 1) = l.Len.toNat from by omega]; simp [cov, covFrom]
  · rw [cols_left h6 (.inl rfl) _ (by omega), show min (2 * l.Len.toNat + 1) l.Len.toNat = l.Len.toNat from by omega]; simp [cov, covFrom]
  · rw [cols_left h6 (.inr rfl) _ (by omega), show min (2 * l.Len.toNat + 1) l.Len.toNat = l.Len.toNat from by omega]; simp [cov, covFrom]
  · rw [cols_right h6 (.inr rfl) _ (by omega), show 2 * l.Len.toNat + 1 - (l.Len.toNat + 1) = l.Len.toNat from by omega]; simp [cov, covFrom]
  · rw [cols_none]; simp [cov]

set_option maxHeartbeats 1000000 in
set_option maxRecDepth 100000 in
theorem points_any (l : Label) (p : Int) (w : World) (hl : okL l) (h0 : 0 ≤ p) (h4 : p ≤ 4) :
    Calls Try.prog 66 #[.agg #[.int .i64 l.X, .int .i64 l.Y, .int .i64 l.Len, .int .i64 l.Pri], .int .i64 p] w fun e w' => ∃ v, e = .returned v ∧ Below w.heap.size w w' ∧ Acc w' w.heap.size 53 v (cov l p) := by
  have hl' := Lib.hid hl
  obtain ⟨h1, h2, h3, h5, h6, h7⟩ := hl
  obtain ⟨W1, hW1⟩ : ∃ W1, W1 = w.alloc (.cells #[.int .i64 l.X, .int .i64 l.Y, .int .i64 l.Len, .int .i64 l.Pri] 55) := ⟨_, rfl⟩
  have d0 : W1.cell? ⟨w.heap.size, 0, none⟩ = some (.int .i64 l.X) := by rw [hW1]; go_simp
  have d1 : W1.cell? ⟨w.heap.size, 1, none⟩ = some (.int .i64 l.Y) := by rw [hW1]; go_simp
  have d2 : W1.cell? ⟨w.heap.size, 1 + 1, none⟩ = some (.int .i64 l.Len) := by rw [hW1]; go_simp
  have d3 : W1.cell? ⟨w.heap.size, 1 + 1 + 1, none⟩ = some (.int .i64 l.Pri) := by rw [hW1]; go_simp
  have bW1 : Below w.heap.size w W1 := by rw [hW1]; (repeat' (first | (with_reducible exact Below.refl _ _) | (with_reducible assumption) | (with_reducible refine Below.setCell ?_ ?_ _) | (with_reducible refine Below.alloc ?_ ?_ _) | (with_reducible refine Below.ext ?_ ?_ _) | omega | (simp; done) | (simp; omega) | (with_reducible refine Below.drew ?_)))
  have zW1 : w.heap.size < W1.heap.size := by rw [hW1]; simp
  have HW1 := Lib.hid hW1
  clear hW1
  go_enter Try.func66, Try.ntmps66
  go_wp2
  refine wp_named fun W0 hW0 => ?_
  have b0 : Below W1.heap.size W1 W0 := by rw [hW0, ← HW1.out]; (repeat' (first | (with_reducible exact Below.refl _ _) | (with_reducible assumption) | (with_reducible refine Below.setCell ?_ ?_ _) | (with_reducible refine Below.alloc ?_ ?_ _) | (with_reducible refine Below.ext ?_ ?_ _) | omega | (simp; done) | (simp; omega) | (with_reducible refine Below.drew ?_)))
  have a0 : Acc W0 W1.heap.size 53 (.slice (some ⟨w.heap.size + 1, 0, none⟩) 0 0) ([] : List Point) := by
    rw [hW0, ← HW1.out]
    have := Acc.empty (α := Point) (w := W1) (e := 53) (Nat.le_refl W1.heap.size)
    rwa [show W1.heap.size = w.heap.size + 1 from by rw [HW1.out]; simp] at this ⊢
  clear hW0
  go_loopw [5, 6] (fun v x wr => Below W1.heap.size W1 wr ∧ ∃ k : Nat, k ≤ 2 * l.Len + 1 ∧ x = .int .i64 (l.X - l.Len + k) ∧ Acc wr W1.heap.size 53 v (cols l p k)) (fun _ x _ => (l.X + l.Len + 1 - intOf x).toNat)
  case atStart => exact ⟨b0, 0, by omega, by simp, a0⟩
  case round =>
    obtain ⟨hbw, k, hk, rfl, hacc⟩ := hrel
    obtain ⟨X, rfl⟩ := ext_of hbw
    have sX := X.size
    by_cases hlt : (k : Int) ≤ 2 * l.Len
    · have hd : decide (l.X - l.Len + ↑k ≤ l.X + l.Len) = true := by simp; omega
      go_wp2
      clear hd
      go_loopw [5, 7] (fun v y wr => Below W1.heap.size W1 wr ∧ ∃ j : Nat, j ≤ 3 ∧ y = .int .i64 (l.Y - 1 + j) ∧ Acc wr W1.heap.size 53 v (cols l p k ++ colPart l p k j)) (fun _ y _ => (l.Y + 2 - intOf y).toNat)
      case atStart => exact ⟨hbw, 0, by omega, by simp, by simpa [colPart] using hacc⟩
      case round =>
        obtain ⟨hbv, j, hj, rfl, hacc2⟩ := hrel
        clear hacc
        obtain ⟨Y, rfl⟩ := ext_of hbv
        have sY := Y.size
        have ln1 := cols_len l p k
        have ln2 := colPart_len l p k j
        by_cases hlj : j < 3
        · rcases Bool.eq_false_or_eq_true (covers l p (l.X - l.Len + k) (l.Y - 1 + j)) with t1 | t1
          · go_wp2_with (first
              | (go_at_call 90; refine (covers_any l p _ _ _ hl'.out h0 h4 (by omega) (by omega)).mono ?_; rintro e w' ⟨rfl, x3, rfl⟩; have sx3 := Ext.size x3; try simp at sx3)
              | (at_builtin; refine wpList_push (w := _) rfl (.tmp 45) (.tmp 47) _ rfl Try.underlying40 info_implPoint rfl rfl (by decide) (v := u5) rfl ((hacc2.alloc _).ext x3) (⟨l.X - l.Len + k, l.Y - 1 + j⟩ : Point) [.int .i64 (l.X - l.Len + k), .int .i64 (l.Y - 1 + j)] (fun _ _ => rfl) (by simp [Value.oneCell']) rfl ?_ ?_ ?_ ?_))
            · rw [List.length_append]; omega
            · rw [List.length_append]; simp [maxLen]; omega
            · omega
            · intro v' w' ha hb
              go_wp2
              refine ⟨⟨Below.trans (by (repeat' (first | (with_reducible exact Below.refl _ _) | (with_reducible assumption) | (with_reducible refine Below.setCell ?_ ?_ _) | (with_reducible refine Below.alloc ?_ ?_ _) | (with_reducible refine Below.ext ?_ ?_ _) | omega | (simp; done) | (simp; omega) | (with_reducible refine Below.drew ?_))) : Below W1.heap.size W1 x3.W) hb, j + 1, by omega, by go_num, by rw [colPart_yes t1]; first | exact ha | (rw [← List.append_assoc]; exact ha)⟩, by simp [intOf]; omega⟩
          · go_wp2_with (go_at_call 90; refine (covers_any l p _ _ _ hl'.out h0 h4 (by omega) (by omega)).mono ?_; rintro e w' ⟨rfl, x3, rfl⟩; have sx3 := Ext.size x3; try simp at sx3)
            refine ⟨⟨by (repeat' (first | (with_reducible exact Below.refl _ _) | (with_reducible assumption) | (with_reducible refine Below.setCell ?_ ?_ _) | (with_reducible refine Below.alloc ?_ ?_ _) | (with_reducible refine Below.ext ?_ ?_ _) | omega | (simp; done) | (simp; omega) | (with_reducible refine Below.drew ?_))), j + 1, by omega, by go_num, by rw [colPart_no t1]; exact (hacc2.alloc _).ext x3⟩, by simp [intOf]; omega⟩
        · go_wp2
          obtain rfl : j = 3 := by omega
          refine ⟨⟨hbv, k + 1, by omega, by go_num, by rw [cols_succ]; exact hacc2⟩, by simp [intOf]; omega⟩
    · go_wp2
      go_ret
      refine ⟨_, rfl, bW1.trans (hbw.mono bW1.size), ?_⟩
      obtain rfl : k = 2 * l.Len.toNat + 1 := by omega
      rw [cols_all hl'.out h0 h4] at hacc
      exact hacc.mono (by omega)
end Go.Proofs.Ytnnpmbcamnnfgaa
