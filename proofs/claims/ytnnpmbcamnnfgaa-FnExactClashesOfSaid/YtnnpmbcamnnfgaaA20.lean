/- ClashesOf of the program and of the reference list the pairs of labels that clash, for every readable pair of slices. -/
import Derived.Test.YtnnpmbcamnnfgaaA19
namespace Go.Proofs.Ytnnpmbcamnnfgaa
open Go.RowKit
theorem info_rowI : (Try.prog.info? 29).map (fun i => (i.zero, i.size, i.bytes)) = some (some (.slice none 0 0), 1, 24) := by kernel_rfl
def clRow (L : List Label) (P : List Int) (i k : Nat) : List (List Int) := ((List.range k).filter fun j => decide (i < j) && clash (lab L i) (pl P i) (lab L j) (pl P j)).map fun (j : Nat) => [(i : Int), (j : Int)]
def clTo (L : List Label) (P : List Int) (n i : Nat) : List (List Int) := (List.range i).flatMap fun i => clRow L P i n
def clOf (L : List Label) (P : List Int) : List (List Int) := if plCode L P = 0 then clTo L P L.length L.length else []
section
variable {L : List Label} {P : List Int} {i k n : Nat}
theorem clRow_yes (h : i < k) (hc : clash (lab L i) (pl P i) (lab L k) (pl P k) = true) : clRow L P i (k + 1) = clRow L P i k ++ [[(i : Int), (k : Int)]] := by
  rw [clRow, List.range_succ, List.filter_append, List.map_append, ← clRow]; simp [h, hc]
theorem clRow_no (hc : clash (lab L i) (pl P i) (lab L k) (pl P k) = false) : clRow L P i (k + 1) = clRow L P i k := by
  rw [clRow, List.range_succ, List.filter_append, List.map_append, ← clRow]; simp [hc]
theorem clRow_start : clRow L P i (i + 1) = [] := by
  rw [clRow, List.map_eq_nil_iff, List.filter_eq_nil_iff]
  intro j hj
  have := List.mem_range.1 hj
  simp; omega
theorem clTo_succ : clTo L P n (i + 1) = clTo L P n i ++ clRow L P i n := by
  rw [clTo, List.range_succ, List.flatMap_append, ← clTo]; simp
theorem clRow_len (L : List Label) (P : List Int) (i k : Nat) : (clRow L P i k).length ≤ k := by
  rw [clRow, List.length_map]
  have := List.length_filter_le (fun j => decide (i < j) && clash (lab L i) (pl P i) (lab L j) (pl P j)) (List.range k)
  simpa using this
theorem clTo_len (L : List Label) (P : List Int) (n i : Nat) : (clTo L P n i).length ≤ i * n := by
  induction i with
  | zero => simp [clTo]
  | succ i ih =>
    have := clRow_len L P i n
    rw [clTo_succ, List.length_append, Nat.add_mul]
    omega
theorem clOf_len (L : List Label) (P : List Int) : (clOf L P).length ≤ 36 := by
  unfold clOf
  split
  · rename_i h
    have h6 := areLabels_len (plCode_inv h).1
    exact Nat.le_trans (clTo_len _ _ _ _) (Nat.mul_le_mul h6 h6)
  · simp
theorem clOf_mem {x : List Int} (h : x ∈ clOf L P) : x.length = 2 := by
  unfold clOf at h
  split at h
  · simp only [clTo, clRow, List.mem_flatMap, List.mem_map] at h
    obtain ⟨_, _, _, _, rfl⟩ := h
    rfl
  · cases h
end
theorem len_of_map {α β : Type} {G : List (α × β)} {M : List β} (h : G.map Prod.snd = M) : G.length = M.length := by rw [← h, List.length_map]
set_option maxHeartbeats 2000000 in
set_option maxRecDepth 100000 in
theorem implClashes_any (A A' : Option Addr) (n c n' c' : Nat) (L : List Label) (M : List Int) (w : World) (hr : Rd w (lt w.heap.size) A n c L) (hr' : Rd w (lt w.heap.size) A' n' c' M) :
    Calls Try.prog 40 #[.slice A n c, .slice A' n' c'] w fun e w' => ∃ v, e = .returned (.tuple #[v, .int .i64 (plCode L M)]) ∧ Below w.heap.size w w' ∧ ∃ G, NAcc w' w.heap.size 29 2 v G ∧ G.map Prod.snd = clOf L M := by
  have hL := hr.len
  by_cases hp : plCode L M = 0
  · have hg := good_of hp
    obtain rfl : n' = n := by rw [← hr.eq, ← hr'.eq, (plCode_inv hp).2.1]
    have hs : clOf L M = clTo L M n' n' := by rw [clOf, if_pos hp, hr.eq]
    have h6 : n' ≤ 6 := by rw [← hr.eq]; exact areLabels_len (plCode_inv hp).1
    have Hp := Lib.hid hp
    have Hs := Lib.hid hs
    have e1 : (plCode L M != 0) = false := by simp [hp]
    clear hp hs
    go_enter Try.func40, Try.ntmps40
    go_wp2_with (go_at_call 60; refine (implPlacement_any _ _ _ _ _ _ L M _ hr hr').mono ?_; rintro e w' ⟨rfl, x1, rfl⟩; have sx1 := Ext.size x1; try simp at sx1)
    go_loopw [7, 18] (fun v ii wr => Below w.heap.size w wr ∧ ∃ i : Nat, i ≤ n' ∧ ii = .int .i64 i ∧ ∃ G, NAcc wr w.heap.size 29 2 v G ∧ Hid (G.map Prod.snd = clTo L M n' i)) (fun _ ii _ => n' - (intOf ii).toNat)
    case atStart => exact ⟨by (repeat' (first | (with_reducible exact Below.refl _ _) | (with_reducible assumption) | (with_reducible refine Below.setCell ?_ ?_ _) | (with_reducible refine Below.alloc ?_ ?_ _) | (with_reducible refine Below.ext ?_ ?_ _) | omega | (simp; done) | (simp; omega) | (with_reducible refine Below.drew ?_))), 0, Nat.zero_le _, rfl, [], NAcc.nil, by simp [Hid, clTo]⟩
    case round =>
      obtain ⟨hbw, i, hi, rfl, G0, hacc0, H0⟩ := hrel
      obtain ⟨X0, rfl⟩ := ext_of hbw
      have sX0 := X0.size
      by_cases hlt : i < n'
      · obtain ⟨x, hx⟩ := hr.get hlt
        obtain ⟨p, hq⟩ := hr'.get hlt
        obtain ⟨p0, p4⟩ := hg.pos i p hq
        have ox := okL_of hg.labels hx
        have ex := lab_of hx
        have ep := pl_of hq
        have Hx := Lib.hid hx
        have Hq := Lib.hid hq
        have OX := Lib.hid ox
        have EX := Lib.hid ex
        have EP := Lib.hid ep
        clear hx hq ox ex ep
        go_wp2
        go_loopw [7, 9] (fun v kk wr => Below w.heap.size w wr ∧ ∃ k : Nat, i + 1 ≤ k ∧ k ≤ n' ∧ kk = .int .i64 k ∧ ∃ G, NAcc wr w.heap.size 29 2 v G ∧ Hid (G.map Prod.snd = clTo L M n' i ++ clRow L M i k)) (fun _ kk _ => n' - (intOf kk).toNat)
        case atStart => exact ⟨hbw, i + 1, Nat.le_refl _, hlt, by go_num, G0, hacc0, by rw [Hid, H0.out, clRow_start, List.append_nil]⟩
        case round =>
          obtain ⟨hbk, k, hik, hk, rfl, G, hacc, H⟩ := hrel
          obtain ⟨X, rfl⟩ := ext_of hbk
          have sX := X.size
          by_cases hkl : k < n'
          · obtain ⟨y, hy⟩ := hr.get hkl
            obtain ⟨q, hqq⟩ := hr'.get hkl
            obtain ⟨q0, q4⟩ := hg.pos k q hqq
            have oy := okL_of hg.labels hy
            have ey := lab_of hy
            have eq' := pl_of hqq
            have hlen : G.length ≤ 42 := by
              have h1 := clTo_len L M n' i
              have h2 := clRow_len L M i k
              have h3 : i * n' ≤ 6 * 6 := Nat.mul_le_mul (by omega) h6
              rw [len_of_map H.out, List.length_append]
              omega
            have hcc := fun Z (hZ : Below w.heap.size w Z) => implClash_any _ _ n' c n' c' L M i k x y p q Z (hr.now hZ hZ.size) (hr'.now hZ hZ.size) Hx.out Hq.out hy hqq OX.out oy p0 p4 q0 q4
            obtain ⟨b1, o1, hA1, hb1, c0, c1, c2, c3⟩ := hr.at_Label Hx.out
            obtain ⟨b2, o2, hA2, hb2, d0, d1, d2, d3⟩ := hr.at_Label hy
            obtain ⟨b3, o3, hA3, hb3, f0⟩ := hr'.at_int Hq.out
            obtain ⟨b4, o4, hA4, hb4, g0⟩ := hr'.at_int hqq
            subst hA1 hA3
            simp only [Option.some.injEq, Addr.mk.injEq, and_true] at hA2 hA4
            obtain ⟨rfl, rfl⟩ := hA2
            obtain ⟨rfl, rfl⟩ := hA4
            simp only [lt] at hb1 hb3
            clear hb2 hb4
            rcases Bool.eq_false_or_eq_true (clash x p y q) with t2 | t2
            · simp only [t2] at hcc
              have HC := Lib.hid hcc
              have T2 := Lib.hid t2
              have EY := Lib.hid ey
              have EQ := Lib.hid eq'
              clear hcc t2 ey eq' hy hqq oy
              go_wp2_with (first | (go_at_call 76; refine (HC.out _ hbk).mono ?_; rintro e w' ⟨rfl, x3, rfl⟩; have sx3 := Ext.size x3; try simp at sx3) | (at_builtin; refine wpList_pushrow (w := _) rfl (.tmp 34) (.tmp 38) _ rfl Try.underlying58 info_rowI rfl (v := _) rfl (hacc.ext x3) (by decide) [(i : Int), (k : Int)] [.int .i64 i, .int .i64 k] (fun _ _ => ⟨[.int .i64 i], [.int .i64 k], rfl, rfl, [.int .i64 k], [], rfl, rfl, rfl⟩) rfl ?_ ?_ ?_ ?_ ?_))
              · omega
              · simp [maxLen]; omega
              · simp [maxLen]
              · omega
              · intro v' w' ha hb
                go_wp2
                refine ⟨⟨Below.trans (by (repeat' (first | (with_reducible exact Below.refl _ _) | (with_reducible assumption) | (with_reducible refine Below.setCell ?_ ?_ _) | (with_reducible refine Below.alloc ?_ ?_ _) | (with_reducible refine Below.ext ?_ ?_ _) | omega | (simp; done) | (simp; omega) | (with_reducible refine Below.drew ?_))) : Below w.heap.size w _) hb, k + 1, by omega, by omega, by go_num, _, ha, ?_⟩, by simp [intOf]; omega⟩
                rw [Hid, List.map_append, H.out, clRow_yes (by omega) (by rw [EX.out, EP.out, EY.out, EQ.out, T2.out]), List.append_assoc]
                rfl
            · simp only [t2] at hcc
              have HC := Lib.hid hcc
              have T2 := Lib.hid t2
              have EY := Lib.hid ey
              have EQ := Lib.hid eq'
              clear hcc t2 ey eq' hy hqq oy
              go_wp2_with (go_at_call 76; refine (HC.out _ hbk).mono ?_; rintro e w' ⟨rfl, x3, rfl⟩; have sx3 := Ext.size x3; try simp at sx3)
              refine ⟨⟨by (repeat' (first | (with_reducible exact Below.refl _ _) | (with_reducible assumption) | (with_reducible refine Below.setCell ?_ ?_ _) | (with_reducible refine Below.alloc ?_ ?_ _) | (with_reducible refine Below.ext ?_ ?_ _) | omega | (simp; done) | (simp; omega) | (with_reducible refine Below.drew ?_))), k + 1, by omega, by omega, by go_num, _, hacc.ext x3, ?_⟩, by simp [intOf]; omega⟩
              rw [Hid, H.out, clRow_no (by rw [EX.out, EP.out, EY.out, EQ.out, T2.out])]
          · go_wp2
            refine ⟨⟨by (repeat' (first | (with_reducible exact Below.refl _ _) | (with_reducible assumption) | (with_reducible refine Below.setCell ?_ ?_ _) | (with_reducible refine Below.alloc ?_ ?_ _) | (with_reducible refine Below.ext ?_ ?_ _) | omega | (simp; done) | (simp; omega) | (with_reducible refine Below.drew ?_))), i + 1, by omega, by go_num, G, hacc, ?_⟩, by simp [intOf]; omega⟩
            obtain rfl : k = n' := by omega
            rw [Hid, H.out, clTo_succ]
      · go_wp2
        go_ret2
        obtain rfl : i = n' := by omega
        exact ⟨_, by rw [Hp.out]; rfl, hbw, G0, hacc0, by rw [H0.out, Hs.out]⟩
  · have hs : clOf L M = [] := if_neg hp
    have e1 : (plCode L M != 0) = true := by simp [hp]
    go_enter Try.func40, Try.ntmps40
    go_wp2_with (go_at_call 60; refine (implPlacement_any _ _ _ _ _ _ L M _ hr hr').mono ?_; rintro e w' ⟨rfl, x1, rfl⟩; have sx1 := Ext.size x1; try simp at sx1)
    go_ret2
    exact ⟨_, rfl, x1.h, [], NAcc.nil, by rw [hs]; rfl⟩
set_option maxHeartbeats 2000000 in
set_option maxRecDepth 100000 in
theorem specClashes_any (A A' : Option Addr) (n c n' c' : Nat) (L : List Label) (M : List Int) (w : World) (hr : Rd w (lt w.heap.size) A n c L) (hr' : Rd w (lt w.heap.size) A' n' c' M) :
    Calls Try.prog 39 #[.slice A n c, .slice A' n' c'] w fun e w' => ∃ v, e = .returned (.tuple #[v, .int .i64 (plCode L M)]) ∧ Below w.heap.size w w' ∧ ∃ G, NAcc w' w.heap.size 29 2 v G ∧ G.map Prod.snd = clOf L M := by
  have hL := hr.len
  by_cases hp : plCode L M = 0
  · have hg := good_of hp
    obtain rfl : n' = n := by rw [← hr.eq, ← hr'.eq, (plCode_inv hp).2.1]
    have hs : clOf L M = clTo L M n' n' := by rw [clOf, if_pos hp, hr.eq]
    have h6 : n' ≤ 6 := by rw [← hr.eq]; exact areLabels_len (plCode_inv hp).1
    have Hp := Lib.hid hp
    have Hs := Lib.hid hs
    have e1 : (plCode L M != 0) = false := by simp [hp]
    clear hp hs
    go_enter Try.func39, Try.ntmps39
    go_wp2_with (go_at_call 58; refine (specPlacement_any _ _ _ _ _ _ L M _ hr hr').mono ?_; rintro e w' ⟨rfl, x1, rfl⟩; have sx1 := Ext.size x1; try simp at sx1)
    go_loopw [7, 8] (fun v ii wr => Below w.heap.size w wr ∧ ∃ i : Nat, i ≤ n' ∧ ii = .int .i64 i ∧ ∃ G, NAcc wr w.heap.size 29 2 v G ∧ Hid (G.map Prod.snd = clTo L M n' i)) (fun _ ii _ => n' - (intOf ii).toNat)
    case atStart => exact ⟨by (repeat' (first | (with_reducible exact Below.refl _ _) | (with_reducible assumption) | (with_reducible refine Below.setCell ?_ ?_ _) | (with_reducible refine Below.alloc ?_ ?_ _) | (with_reducible refine Below.ext ?_ ?_ _) | omega | (simp; done) | (simp; omega) | (with_reducible refine Below.drew ?_))), 0, Nat.zero_le _, rfl, [], (NAcc.empty x1.size), by simp [Hid, clTo]⟩
    case round =>
      obtain ⟨hbw, i, hi, rfl, G0, hacc0, H0⟩ := hrel
      obtain ⟨X0, rfl⟩ := ext_of hbw
      have sX0 := X0.size
      by_cases hlt : i < n'
      · obtain ⟨x, hx⟩ := hr.get hlt
        obtain ⟨p, hq⟩ := hr'.get hlt
        obtain ⟨p0, p4⟩ := hg.pos i p hq
        have ox := okL_of hg.labels hx
        have ex := lab_of hx
        have ep := pl_of hq
        have Hx := Lib.hid hx
        have Hq := Lib.hid hq
        have OX := Lib.hid ox
        have EX := Lib.hid ex
        have EP := Lib.hid ep
        clear hx hq ox ex ep
        go_wp2
        go_loopw [7, 9] (fun v kk wr => Below w.heap.size w wr ∧ ∃ k : Nat, i + 1 ≤ k ∧ k ≤ n' ∧ kk = .int .i64 k ∧ ∃ G, NAcc wr w.heap.size 29 2 v G ∧ Hid (G.map Prod.snd = clTo L M n' i ++ clRow L M i k)) (fun _ kk _ => n' - (intOf kk).toNat)
        case atStart => exact ⟨hbw, i + 1, Nat.le_refl _, hlt, by go_num, G0, hacc0, by rw [Hid, H0.out, clRow_start, List.append_nil]⟩
        case round =>
          obtain ⟨hbk, k, hik, hk, rfl, G, hacc, H⟩ := hrel
          obtain ⟨X, rfl⟩ := ext_of hbk
          have sX := X.size
          by_cases hkl : k < n'
          · obtain ⟨y, hy⟩ := hr.get hkl
            obtain ⟨q, hqq⟩ := hr'.get hkl
            obtain ⟨q0, q4⟩ := hg.pos k q hqq
            have oy := okL_of hg.labels hy
            have ey := lab_of hy
            have eq' := pl_of hqq
            have hlen : G.length ≤ 42 := by
              have h1 := clTo_len L M n' i
              have h2 := clRow_len L M i k
              have h3 : i * n' ≤ 6 * 6 := Nat.mul_le_mul (by omega) h6
              rw [len_of_map H.out, List.length_append]
              omega
            (have hcc := fun Z (_ : Below w.heap.size w Z) => specClash_any x p y q Z OX.out p0 p4 oy q0 q4)
            obtain ⟨b1, o1, hA1, hb1, c0, c1, c2, c3⟩ := hr.at_Label Hx.out
            obtain ⟨b2, o2, hA2, hb2, d0, d1, d2, d3⟩ := hr.at_Label hy
            obtain ⟨b3, o3, hA3, hb3, f0⟩ := hr'.at_int Hq.out
            obtain ⟨b4, o4, hA4, hb4, g0⟩ := hr'.at_int hqq
            subst hA1 hA3
            simp only [Option.some.injEq, Addr.mk.injEq, and_true] at hA2 hA4
            obtain ⟨rfl, rfl⟩ := hA2
            obtain ⟨rfl, rfl⟩ := hA4
            simp only [lt] at hb1 hb3
            clear hb2 hb4
            rcases Bool.eq_false_or_eq_true (clash x p y q) with t2 | t2
            · simp only [t2] at hcc
              have HC := Lib.hid hcc
              have T2 := Lib.hid t2
              have EY := Lib.hid ey
              have EQ := Lib.hid eq'
              clear hcc t2 ey eq' hy hqq oy
              (go_wp2; refine wp_region_ext (by kernel_rfl) (by kernel_rfl) ?_; (repeat (go_big_quiet_step ((go_at_call 75; exact calls_ext (HC.out _ (by (repeat' (first | (with_reducible exact Below.refl _ _) | (with_reducible assumption) | (with_reducible refine Below.setCell ?_ ?_ _) | (with_reducible refine Below.alloc ?_ ?_ _) | (with_reducible refine Below.ext ?_ ?_ _) | omega | (simp; done) | (simp; omega) | (with_reducible refine Below.drew ?_))))))))); refine wpQuiet_nil ?_; intro x3; have s3 := x3.size; go_wp2_with (at_builtin; refine wpList_pushrow (w := _) rfl (.tmp 48) (.tmp 52) _ rfl Try.underlying58 info_rowI rfl (v := _) rfl (hacc.ext x3) (by decide) [(i : Int), (k : Int)] [.int .i64 i, .int .i64 k] (fun _ _ => ⟨[.int .i64 i], [.int .i64 k], rfl, rfl, [.int .i64 k], [], rfl, rfl, rfl⟩) rfl ?_ ?_ ?_ ?_ ?_))
              · omega
              · simp [maxLen]; omega
              · simp [maxLen]
              · omega
              · intro v' w' ha hb
                go_wp2
                refine ⟨⟨Below.trans (by (repeat' (first | (with_reducible exact Below.refl _ _) | (with_reducible assumption) | (with_reducible refine Below.setCell ?_ ?_ _) | (with_reducible refine Below.alloc ?_ ?_ _) | (with_reducible refine Below.ext ?_ ?_ _) | omega | (simp; done) | (simp; omega) | (with_reducible refine Below.drew ?_))) : Below w.heap.size w _) hb, k + 1, by omega, by omega, by go_num, _, ha, ?_⟩, by simp [intOf]; omega⟩
                rw [Hid, List.map_append, H.out, clRow_yes (by omega) (by rw [EX.out, EP.out, EY.out, EQ.out, T2.out]), List.append_assoc]
                rfl
            · simp only [t2] at hcc
              have HC := Lib.hid hcc
              have T2 := Lib.hid t2
              have EY := Lib.hid ey
              have EQ := Lib.hid eq'
              clear hcc t2 ey eq' hy hqq oy
              (go_wp2; refine wp_region_ext (by kernel_rfl) (by kernel_rfl) ?_; (repeat (go_big_quiet_step ((go_at_call 75; exact calls_ext (HC.out _ (by (repeat' (first | (with_reducible exact Below.refl _ _) | (with_reducible assumption) | (with_reducible refine Below.setCell ?_ ?_ _) | (with_reducible refine Below.alloc ?_ ?_ _) | (with_reducible refine Below.ext ?_ ?_ _) | omega | (simp; done) | (simp; omega) | (with_reducible refine Below.drew ?_))))))))); refine wpQuiet_nil ?_; intro x3; have s3 := x3.size; go_wp2)
              refine ⟨⟨by (repeat' (first | (with_reducible exact Below.refl _ _) | (with_reducible assumption) | (with_reducible refine Below.setCell ?_ ?_ _) | (with_reducible refine Below.alloc ?_ ?_ _) | (with_reducible refine Below.ext ?_ ?_ _) | omega | (simp; done) | (simp; omega) | (with_reducible refine Below.drew ?_))), k + 1, by omega, by omega, by go_num, _, hacc.ext x3, ?_⟩, by simp [intOf]; omega⟩
              rw [Hid, H.out, clRow_no (by rw [EX.out, EP.out, EY.out, EQ.out, T2.out])]
          · go_wp2
            refine ⟨⟨by (repeat' (first | (with_reducible exact Below.refl _ _) | (with_reducible assumption) | (with_reducible refine Below.setCell ?_ ?_ _) | (with_reducible refine Below.alloc ?_ ?_ _) | (with_reducible refine Below.ext ?_ ?_ _) | omega | (simp; done) | (simp; omega) | (with_reducible refine Below.drew ?_))), i + 1, by omega, by go_num, G, hacc, ?_⟩, by simp [intOf]; omega⟩
            obtain rfl : k = n' := by omega
            rw [Hid, H.out, clTo_succ]
      · go_wp2
        go_ret2
        obtain rfl : i = n' := by omega
        exact ⟨_, by rw [Hp.out]; rfl, hbw, G0, hacc0, by rw [H0.out, Hs.out]⟩
  · have hs : clOf L M = [] := if_neg hp
    have e1 : (plCode L M != 0) = true := by simp [hp]
    go_enter Try.func39, Try.ntmps39
    go_wp2_with (go_at_call 58; refine (specPlacement_any _ _ _ _ _ _ L M _ hr hr').mono ?_; rintro e w' ⟨rfl, x1, rfl⟩; have sx1 := Ext.size x1; try simp at sx1)
    go_ret2
    exact ⟨_, rfl, x1.h, [], NAcc.nil, by rw [hs]; rfl⟩
end Go.Proofs.Ytnnpmbcamnnfgaa
