/- covered of the program and l33Points of the reference return the points that a label covers, for labels within their bounds. -/
import Derived.Test.YtnnpmbcamnnfgaaA8
namespace Go.Proofs.Ytnnpmbcamnnfgaa
open Go.RowKit
theorem info_implPoint : (Try.prog.info? 53).map (fun i => (i.zero, i.size, i.bytes)) = some (some (.agg #[.int .i64 0, .int .i64 0]), 2, 16) := by kernel_rfl
theorem range_snoc {α : Type} (f : Nat → α) (k : Nat) : (List.range (k + 1)).map f = (List.range k).map f ++ [f k] := by rw [List.range_succ, List.map_append]; rfl
set_option maxHeartbeats 1000000 in
set_option maxRecDepth 100000 in
theorem covered_any (l : Label) (p : Int) (w : World) (hl : okL l) (h0 : 0 ≤ p) (h4 : p ≤ 4) :
    Calls Try.prog 67 #[.agg #[.int .i64 l.X, .int .i64 l.Y, .int .i64 l.Len, .int .i64 l.Pri], .int .i64 p] w fun e w' => ∃ v, e = .returned v ∧ Below w.heap.size w w' ∧ Acc w' w.heap.size 53 v (cov l p) := by
  obtain ⟨h1, h2, h3, h5, h6, h7⟩ := hl
  rcases p_cases h0 h4 with rfl | rfl | rfl | rfl | rfl
  · go_enter Try.func67, Try.ntmps67
    go_wp2
    refine wp_region_ext (by kernel_rfl) (by kernel_rfl) ?_
    repeat (go_big_quiet_step (fail))
    refine wpQuiet_nil ?_
    intro x2
    have s2 := x2.size
    simp at s2
    go_wp2
    refine wp_named fun W0 hW0 => ?_
    have c0 : W0.cell? ⟨w.heap.size, 1 + 1, none⟩ = some (.int .i64 l.Len) := by rw [hW0]; go_simp; all_goals (try (intros; omega))
    have bW : Below w.heap.size w W0 := by rw [hW0]; (repeat' (first | (with_reducible exact Below.refl _ _) | (with_reducible assumption) | (with_reducible refine Below.setCell ?_ ?_ _) | (with_reducible refine Below.alloc ?_ ?_ _) | (with_reducible refine Below.ext ?_ ?_ _) | omega | (simp; done) | (simp; omega) | (with_reducible refine Below.drew ?_)))
    have zW : w.heap.size < W0.heap.size := by rw [hW0]; omega
    clear hW0
    go_loopw [7, 8] (fun v x wr => Below W0.heap.size W0 wr ∧ ∃ k : Nat, k ≤ l.Len ∧ x = .int .i64 (l.X + 1 + k) ∧ Acc wr W0.heap.size 53 v ((List.range k).map fun (i : Nat) => (⟨l.X + 1 + i, l.Y + 1⟩ : Point))) (fun _ x _ => (l.X + 1 + l.Len - intOf x).toNat)
    case atStart => exact ⟨Below.refl _ _, 0, by omega, by simp, Acc.nil⟩
    case round =>
      obtain ⟨hbw, k, hk, rfl, hacc⟩ := hrel
      obtain ⟨X, rfl⟩ := ext_of hbw
      have sX := X.size
      by_cases hlt : (k : Int) < l.Len
      · go_wp2_with (at_builtin; refine wpList_push (w := _) rfl (.tmp 55) (.tmp 59) _ rfl Try.underlying40 info_implPoint rfl rfl (by decide) (v := u7) rfl hacc (⟨l.X + 1 + k, l.Y + 1⟩ : Point) [.int .i64 (l.X + 1 + k), .int .i64 (l.Y + 1)] (fun _ _ => rfl) (by simp [Value.oneCell']) rfl ?_ ?_ ?_ ?_)
        · rw [List.length_map, List.length_range]; omega
        · rw [List.length_map, List.length_range]; simp [maxLen]; omega
        · exact sX
        · intro v' w' ha hb
          go_wp2
          refine ⟨⟨hbw.trans hb, k + 1, by omega, by go_num, by rw [range_snoc]; exact ha⟩, by simp [intOf]; omega⟩
      · go_wp2
        go_ret
        refine ⟨_, rfl, ?_, ?_⟩
        · (repeat' (first | (with_reducible exact Below.refl _ _) | (with_reducible assumption) | (with_reducible refine Below.setCell ?_ ?_ _) | (with_reducible refine Below.alloc ?_ ?_ _) | (with_reducible refine Below.ext ?_ ?_ _) | omega | (simp; done) | (simp; omega) | (with_reducible refine Below.drew ?_)))
        · obtain rfl : k = l.Len.toNat := by omega
          exact hacc.mono (by omega)
  · go_enter Try.func67, Try.ntmps67
    go_wp2
    refine wp_region_ext (by kernel_rfl) (by kernel_rfl) ?_
    repeat (go_big_quiet_step (fail))
    refine wpQuiet_nil ?_
    intro x2
    have s2 := x2.size
    simp at s2
    go_wp2
    refine wp_named fun W0 hW0 => ?_
    have c0 : W0.cell? ⟨w.heap.size, 1 + 1, none⟩ = some (.int .i64 l.Len) := by rw [hW0]; go_simp; all_goals (try (intros; omega))
    have bW : Below w.heap.size w W0 := by rw [hW0]; (repeat' (first | (with_reducible exact Below.refl _ _) | (with_reducible assumption) | (with_reducible refine Below.setCell ?_ ?_ _) | (with_reducible refine Below.alloc ?_ ?_ _) | (with_reducible refine Below.ext ?_ ?_ _) | omega | (simp; done) | (simp; omega) | (with_reducible refine Below.drew ?_)))
    have zW : w.heap.size < W0.heap.size := by rw [hW0]; omega
    clear hW0
    go_loopw [7, 8] (fun v x wr => Below W0.heap.size W0 wr ∧ ∃ k : Nat, k ≤ l.Len ∧ x = .int .i64 (l.X - l.Len + k) ∧ Acc wr W0.heap.size 53 v ((List.range k).map fun (i : Nat) => (⟨l.X - l.Len + i, l.Y + 1⟩ : Point))) (fun _ x _ => (l.X - l.Len + l.Len - intOf x).toNat)
    case atStart => exact ⟨Below.refl _ _, 0, by omega, by simp, Acc.nil⟩
    case round =>
      obtain ⟨hbw, k, hk, rfl, hacc⟩ := hrel
      obtain ⟨X, rfl⟩ := ext_of hbw
      have sX := X.size
      by_cases hlt : (k : Int) < l.Len
      · go_wp2_with (at_builtin; refine wpList_push (w := _) rfl (.tmp 55) (.tmp 59) _ rfl Try.underlying40 info_implPoint rfl rfl (by decide) (v := u7) rfl hacc (⟨l.X - l.Len + k, l.Y + 1⟩ : Point) [.int .i64 (l.X - l.Len + k), .int .i64 (l.Y + 1)] (fun _ _ => rfl) (by simp [Value.oneCell']) rfl ?_ ?_ ?_ ?_)
        · rw [List.length_map, List.length_range]; omega
        · rw [List.length_map, List.length_range]; simp [maxLen]; omega
        · exact sX
        · intro v' w' ha hb
          go_wp2
          refine ⟨⟨hbw.trans hb, k + 1, by omega, by go_num, by rw [range_snoc]; exact ha⟩, by simp [intOf]; omega⟩
      · go_wp2
        go_ret
        refine ⟨_, rfl, ?_, ?_⟩
        · (repeat' (first | (with_reducible exact Below.refl _ _) | (with_reducible assumption) | (with_reducible refine Below.setCell ?_ ?_ _) | (with_reducible refine Below.alloc ?_ ?_ _) | (with_reducible refine Below.ext ?_ ?_ _) | omega | (simp; done) | (simp; omega) | (with_reducible refine Below.drew ?_)))
        · obtain rfl : k = l.Len.toNat := by omega
          exact hacc.mono (by omega)
  · go_enter Try.func67, Try.ntmps67
    go_wp2
    refine wp_region_ext (by kernel_rfl) (by kernel_rfl) ?_
    repeat (go_big_quiet_step (fail))
    refine wpQuiet_nil ?_
    intro x1
    have s1 := x1.size
    simp at s1
    go_wp2
    refine wp_region_ext (by kernel_rfl) (by kernel_rfl) ?_
    repeat (go_big_quiet_step (fail))
    refine wpQuiet_nil ?_
    intro x2
    have s2 := x2.size
    go_wp2
    refine wp_named fun W0 hW0 => ?_
    have c0 : W0.cell? ⟨w.heap.size, 1 + 1, none⟩ = some (.int .i64 l.Len) := by rw [hW0]; go_simp; all_goals (try (intros; omega))
    have bW : Below w.heap.size w W0 := by rw [hW0]; (repeat' (first | (with_reducible exact Below.refl _ _) | (with_reducible assumption) | (with_reducible refine Below.setCell ?_ ?_ _) | (with_reducible refine Below.alloc ?_ ?_ _) | (with_reducible refine Below.ext ?_ ?_ _) | omega | (simp; done) | (simp; omega) | (with_reducible refine Below.drew ?_)))
    have zW : w.heap.size < W0.heap.size := by rw [hW0]; omega
    clear hW0
    go_loopw [7, 8] (fun v x wr => Below W0.heap.size W0 wr ∧ ∃ k : Nat, k ≤ l.Len ∧ x = .int .i64 (l.X - l.Len + k) ∧ Acc wr W0.heap.size 53 v ((List.range k).map fun (i : Nat) => (⟨l.X - l.Len + i, l.Y - 1⟩ : Point))) (fun _ x _ => (l.X - l.Len + l.Len - intOf x).toNat)
    case atStart => exact ⟨Below.refl _ _, 0, by omega, by simp, Acc.nil⟩
    case round =>
      obtain ⟨hbw, k, hk, rfl, hacc⟩ := hrel
      obtain ⟨X, rfl⟩ := ext_of hbw
      have sX := X.size
      by_cases hlt : (k : Int) < l.Len
      · go_wp2_with (at_builtin; refine wpList_push (w := _) rfl (.tmp 55) (.tmp 59) _ rfl Try.underlying40 info_implPoint rfl rfl (by decide) (v := u7) rfl hacc (⟨l.X - l.Len + k, l.Y - 1⟩ : Point) [.int .i64 (l.X - l.Len + k), .int .i64 (l.Y - 1)] (fun _ _ => rfl) (by simp [Value.oneCell']) rfl ?_ ?_ ?_ ?_)
        · rw [List.length_map, List.length_range]; omega
        · rw [List.length_map, List.length_range]; simp [maxLen]; omega
        · exact sX
        · intro v' w' ha hb
          go_wp2
          refine ⟨⟨hbw.trans hb, k + 1, by omega, by go_num, by rw [range_snoc]; exact ha⟩, by simp [intOf]; omega⟩
      · go_wp2
        go_ret
        refine ⟨_, rfl, ?_, ?_⟩
        · (repeat' (first | (with_reducible exact Below.refl _ _) | (with_reducible assumption) | (with_reducible refine Below.setCell ?_ ?_ _) | (with_reducible refine Below.alloc ?_ ?_ _) | (with_reducible refine Below.ext ?_ ?_ _) | omega | (simp; done) | (simp; omega) | (with_reducible refine Below.drew ?_)))
        · obtain rfl : k = l.Len.toNat := by omega
          exact hacc.mono (by omega)
  · go_enter Try.func67, Try.ntmps67
    go_wp2
    refine wp_region_ext (by kernel_rfl) (by kernel_rfl) ?_
    repeat (go_big_quiet_step (fail))
    refine wpQuiet_nil ?_
    intro x2
    have s2 := x2.size
    simp at s2
    go_wp2
    refine wp_named fun W0 hW0 => ?_
    have c0 : W0.cell? ⟨w.heap.size, 1 + 1, none⟩ = some (.int .i64 l.Len) := by rw [hW0]; go_simp; all_goals (try (intros; omega))
    have bW : Below w.heap.size w W0 := by rw [hW0]; (repeat' (first | (with_reducible exact Below.refl _ _) | (with_reducible assumption) | (with_reducible refine Below.setCell ?_ ?_ _) | (with_reducible refine Below.alloc ?_ ?_ _) | (with_reducible refine Below.ext ?_ ?_ _) | omega | (simp; done) | (simp; omega) | (with_reducible refine Below.drew ?_)))
    have zW : w.heap.size < W0.heap.size := by rw [hW0]; omega
    clear hW0
    go_loopw [7, 8] (fun v x wr => Below W0.heap.size W0 wr ∧ ∃ k : Nat, k ≤ l.Len ∧ x = .int .i64 (l.X + 1 + k) ∧ Acc wr W0.heap.size 53 v ((List.range k).map fun (i : Nat) => (⟨l.X + 1 + i, l.Y - 1⟩ : Point))) (fun _ x _ => (l.X + 1 + l.Len - intOf x).toNat)
    case atStart => exact ⟨Below.refl _ _, 0, by omega, by simp, Acc.nil⟩
    case round =>
      obtain ⟨hbw, k, hk, rfl, hacc⟩ := hrel
      obtain ⟨X, rfl⟩ := ext_of hbw
      have sX := X.size
      by_cases hlt : (k : Int) < l.Len
      · go_wp2_with (at_builtin; refine wpList_push (w := _) rfl (.tmp 55) (.tmp 59) _ rfl Try.underlying40 info_implPoint rfl rfl (by decide) (v := u7) rfl hacc (⟨l.X + 1 + k, l.Y - 1⟩ : Point) [.int .i64 (l.X + 1 + k), .int .i64 (l.Y - 1)] (fun _ _ => rfl) (by simp [Value.oneCell']) rfl ?_ ?_ ?_ ?_)
        · rw [List.length_map, List.length_range]; omega
        · rw [List.length_map, List.length_range]; simp [maxLen]; omega
        · exact sX
        · intro v' w' ha hb
          go_wp2
          refine ⟨⟨hbw.trans hb, k + 1, by omega, by go_num, by rw [range_snoc]; exact ha⟩, by simp [intOf]; omega⟩
      · go_wp2
        go_ret
        refine ⟨_, rfl, ?_, ?_⟩
        · (repeat' (first | (with_reducible exact Below.refl _ _) | (with_reducible assumption) | (with_reducible refine Below.setCell ?_ ?_ _) | (with_reducible refine Below.alloc ?_ ?_ _) | (with_reducible refine Below.ext ?_ ?_ _) | omega | (simp; done) | (simp; omega) | (with_reducible refine Below.drew ?_)))
        · obtain rfl : k = l.Len.toNat := by omega
          exact hacc.mono (by omega)
  · go_enter Try.func67, Try.ntmps67
    go_wp2
    refine wp_region_ext (by kernel_rfl) (by kernel_rfl) ?_
    repeat (go_big_quiet_step (fail))
    refine wpQuiet_nil ?_
    intro x2
    have s2 := x2.size
    simp at s2
    go_wp2
    go_ret
    refine ⟨_, rfl, ?_, ?_⟩
    · (repeat' (first | (with_reducible exact Below.refl _ _) | (with_reducible assumption) | (with_reducible refine Below.setCell ?_ ?_ _) | (with_reducible refine Below.alloc ?_ ?_ _) | (with_reducible refine Below.ext ?_ ?_ _) | omega | (simp; done) | (simp; omega) | (with_reducible refine Below.drew ?_)))
    · exact Acc.nil
end Go.Proofs.Ytnnpmbcamnnfgaa
