/- slices.Repeat of one number as a typed call; at most 16 times. -/
import Derived.Test.YtlhllbiikideeaaKA
import Derived.Laws.CopyOwn
import Derived.ProofKit
import Derived.Lib.Hide
namespace Go.Proofs.Ytlhllbiikideeaa.Sh
open Go.RowKit Go.Lib
set_option maxHeartbeats 1000000 in
set_option maxRecDepth 100000 in
theorem mul64_any (n : Nat) (hn : n ≤ 16) (w : World) :
    Calls Try.prog 77 #[.int .u64 1, .int .u64 n] w fun e w' => e = .returned (.tuple #[.int .u64 0, .int .u64 n]) ∧ w = w' := by
  obtain rfl | rfl | rfl | rfl | rfl | rfl | rfl | rfl | rfl | rfl | rfl | rfl | rfl | rfl | rfl | rfl | rfl : n = 0 ∨ n = 1 ∨ n = 2 ∨ n = 3 ∨ n = 4 ∨ n = 5 ∨ n = 6 ∨ n = 7 ∨ n = 8 ∨ n = 9 ∨ n = 10 ∨ n = 11 ∨ n = 12 ∨ n = 13 ∨ n = 14 ∨ n = 15 ∨ n = 16 := by omega
  all_goals
    go_enter Try.func77, Try.ntmps77
    go_wp2
    go_ret2
    exact ⟨rfl, rfl⟩
set_option maxHeartbeats 1000000 in
set_option maxRecDepth 100000 in
theorem mul_any (n : Nat) (hn : n ≤ 16) (w : World) :
    Calls Try.prog 58 #[.int .u64 1, .int .u64 n] w fun e w' => e = .returned (.tuple #[.int .u64 0, .int .u64 n]) ∧ w = w' := by
  go_enter Try.func58, Try.ntmps58
  go_wp2_with (go_at_call 77; refine (mul64_any n hn _).mono ?_; rintro e w' ⟨rfl, rfl⟩)
  go_ret2
  exact ⟨rfl, rfl⟩
/-- A row whose first k cells are filled. -/
def rowK (n k : Nat) (x z : Value) : List Value := List.replicate k x ++ List.replicate (n - k) z
theorem rowK_len {n k : Nat} (x z : Value) (hk : k ≤ n) : (rowK n k x z).length = n := by simp [rowK]; omega
theorem splice_row (n k j : Nat) (x z : Value) (_ : k + j ≤ n) : splice (rowK n k x z) k (List.replicate j x) = rowK n (k + j) x z := by
  unfold splice rowK
  rw [List.take_append_of_le_length (by simp), List.take_of_length_le (by simp), List.length_replicate, List.drop_append, List.drop_of_length_le (by simp), List.nil_append, List.drop_replicate, ← List.append_assoc, List.replicate_append_replicate]
  congr 2
  simp
  omega
theorem rowK_at {n k j : Nat} (x z : Value) (hj : j < k) : (rowK n k x z)[j]? = some x := by
  unfold rowK
  rw [List.getElem?_append_left (by simpa using hj), List.getElem?_replicate, if_pos hj]
end Go.Proofs.Ytlhllbiikideeaa.Sh
namespace Go.Proofs.Ytlhllbiikideeaa.Sh
open Go.RowKit Go.Lib
theorem info_i64 : (Try.prog.info? 2).map (fun i => (i.zero, i.size, i.bytes)) = some (some (.int .i64 0), 1, 8) := by kernel_rfl
set_option maxHeartbeats 1000000 in
set_option maxRecDepth 100000 in
theorem make_ints (n : Nat) (hn : n ≤ 16) (w : World) : (Instr.makeSlice 24 (.int .i64 (n : Int)) (.int .i64 (n : Int))).run Try.prog w = .ok (.slice (some ⟨w.heap.size, 0, none⟩) n n) (w.alloc (.cells (List.replicate n (Value.int .i64 0)).toArray 2)) := by
  have h := info_i64
  rw [Option.map_eq_some_iff] at h
  obtain ⟨i, hi, h⟩ := h
  have hz : i.zero = some (.int .i64 0) := congrArg (·.1) h
  have hs : i.size = 1 := congrArg (·.2.1) h
  have hb : i.bytes = 8 := congrArg (·.2.2) h
  have hr := run_make (P := Try.prog) w 24 2 i (.int .i64 0) Try.underlying24 hi hz .i64 .i64 n n (by omega) (by omega) (by rw [hb]; omega) (by omega)
  rw [hr]
  simp only [Int.toNat_natCast, hs, Nat.mul_one]
  congr 3
  apply Array.ext'
  exact toList_madeCells_one (.int .i64 0) n
set_option maxHeartbeats 4000000 in
set_option maxRecDepth 100000 in
theorem repeat_any (A : Addr) (c n : Nat) (hn : n ≤ 16) (x : Int) (w : World) (hx : w.cell? A = some (.int .i64 x)) :
    Calls Try.prog 32 #[.slice (some A) 1 c, .int .i64 n] w fun e w' => ∃ v, e = .returned v ∧ w'.ownsRow w.heap.size 2 1 v n (List.replicate n (.int .i64 x)) ∧ Below w.heap.size w w' := by
  have h1 : IntKind.u64.wrap (n : Int) = n := by unfold IntKind.wrap; simp [IntKind.bits, IntKind.signed]; omega
  have h2 : ¬ ((n : Int) < 0) := by omega
  have h3 : ¬ ((n : Int) > 9223372036854775807) := by omega
  have h4 : IntKind.i64.wrap (n : Int) = n := by rw [IntKind.wrap_i64]; omega
  have hmk := fun W => make_ints n hn W
  have hsz : (Try.prog.info? 2).map (·.size) = some 1 := by kernel_rfl
  obtain ⟨R, hR⟩ : ∃ R : Nat → List Value, R = fun k => rowK n k (.int .i64 x) (.int .i64 0) := ⟨_, rfl⟩
  have HR := hid hR
  have hRl : ∀ k, k ≤ n → (R k).length = n := by rw [hR]; exact fun k hk => rowK_len _ _ hk
  have hRs : ∀ k j, k + j ≤ n → splice (R k) k (List.replicate j (.int .i64 x)) = R (k + j) := by rw [hR]; exact fun k j h => splice_row _ _ _ _ _ h
  have hR0 : List.replicate n (Value.int .i64 0) = R 0 := by rw [hR]; simp [rowK]
  have hRa : ∀ k j, j < k → (R k)[j]? = some (.int .i64 x) := by rw [hR]; exact fun k j h => rowK_at _ _ h
  have hRn : R n = List.replicate n (.int .i64 x) := by rw [hR]; simp [rowK]
  clear hR
  rw [hR0] at hmk
  obtain ⟨j1, hj1⟩ : ∃ j1, j1 = min 1 n := ⟨_, rfl⟩
  have j1n : j1 ≤ n := by omega
  have X1 : ∃ cs, cs = List.replicate j1 (Value.int .i64 x) ∧ cs.length = j1 := ⟨_, rfl, by simp⟩
  obtain ⟨cs, hcs, hcl⟩ := X1
  have HCS := hid hcs
  clear hcs
  go_enter Try.func32, Try.ntmps32
  go_wp2_with (first | (go_at_call 58; refine (mul_any n hn _).mono ?_; rintro e w' ⟨rfl, rfl⟩) | (with_reducible refine wpList_copy_splice rfl (.tmp 31) (.tmp 32) _ _ rfl 2 Try.underlying24 hsz _ _ n n 1 c rfl rfl w.heap.size 0 (R 0) 2 ?k1 cs ?k2 ?k3 ?k4 ?k5 w.heap.size w ?k6 (Nat.le_refl _) ?_))
  case k1 => exact alloc_new w _
  case k2 => rw [hcl, hj1]
  case k3 =>
    intro h0
    intro j v hj
    rw [HCS.out, List.getElem?_replicate] at hj
    split at hj
    · injection hj with hj
      subst hj
      have : j = 0 := by omega
      subst this
      have h5 : A.add 0 = A := by
        obtain ⟨b, o, s⟩ := A
        cases s <;> simp [Addr.add]
      rw [h5]
      exact Lib.cell?_alloc_some _ hx
    · cases hj
  case k4 => rw [hcl, hRl 0 (by omega)]; omega
  case k5 =>
    intro v hv
    rw [HCS.out] at hv
    obtain ⟨_, rfl⟩ := List.mem_replicate.1 hv
    rfl
  case k6 => exact (Below.refl _ w).alloc (Nat.le_refl _) _
  intro w2 hg2 hb2
  have hg3 : Hid (w2.heap[w.heap.size]? = some (.cells (R j1).toArray 2 (0, 0))) := by
    have := hg2.out
    rw [HCS.out, hRs 0 j1 (by omega), Nat.zero_add] at this
    exact this
  clear hg2
  go_wp2
  go_loopw [8] (fun i wr => Below w.heap.size w wr ∧ ∃ k : Nat, (k ≤ n ∧ (n = 0 ∨ 0 < k)) ∧ i = .int .i64 k ∧ Hid (wr.heap[w.heap.size]? = some (.cells (R k).toArray 2 (0, 0)))) (fun i _ => n - (RowKit.intOf i).toNat)
  case atStart => exact ⟨hb2, j1, ⟨by omega, by omega⟩, by rw [hj1], hg3⟩
  case round =>
    obtain ⟨hbw, k, ⟨hk, hk0⟩, rfl, H⟩ := hrel
    by_cases hlt : k < n
    · have hki : (k : Int) < n := by omega
      obtain ⟨m, hm⟩ : ∃ m, m = min k (n - k) := ⟨_, rfl⟩
      have e1 : (n : Int) - k = ((n - k : Nat) : Int) := by omega
      have hk16 : k ≤ 16 := by omega
      have X2 : ∃ cs, cs = List.replicate m (Value.int .i64 x) ∧ cs.length = m := ⟨_, rfl, by simp⟩
      obtain ⟨ct, hct, htl⟩ := X2
      have HCT := hid hct
      clear hct
      have hnk : ¬ n = k := by omega
      go_wp2
      have q1 : ct.length = Nat.min k (n - k) := by
        rw [htl, hm]
      have q2 : 0 < ct.length → (some (⟨w.heap.size, k, none⟩ : Addr)) = some ⟨w.heap.size, k, none⟩ ∧ ∃ ad, (some (⟨w.heap.size, 0, none⟩ : Addr)) = some ad ∧ ∀ j v, ct[j]? = some v → wr.cell? (ad.add j) = some v := fun _ => ⟨rfl, _, rfl, fun j v hj => by
          rw [HCT.out, List.getElem?_replicate] at hj
          split at hj
          · injection hj with hj
            subst hj
            rw [Addr.add_lit, Nat.zero_add]
            simp [World.cell?, H.out, hRa k j (by omega)]
          · cases hj⟩
      have q3 : k + ct.length ≤ (R k).length := by
        rw [htl, hRl k hk]
        omega
      have q4 : ∀ v ∈ ct, v.oneCell' = true := fun v hv => by
        rw [HCT.out] at hv
        obtain ⟨_, rfl⟩ := List.mem_replicate.1 hv
        rfl
      have Q1 := hid q1
      have Q2 := hid q2
      clear q2
      go_region_law (refine step_copy_splice rfl (.tmp 41) (.tmp 44) 24 24 rfl 2 Try.underlying24 hsz (some ⟨w.heap.size, k, none⟩) (some ⟨w.heap.size, 0, none⟩) (n - k) (n - k) k n (by simp [Act.eval, Act.put]) (by simp [Act.eval, Act.put]) w.heap.size k (R k) 2 H.out ct Q1.out Q2.out q3 q4 w.heap.size w hbw.drew (Nat.le_refl _) ?_; intro w4 hg4 hb4)
      have hg5 : Hid (w4.heap[w.heap.size]? = some (.cells (R (k + m)).toArray 2 (0, 0))) := by
        have := hg4.out
        rw [HCT.out, hRs k m (by omega)] at this
        exact this
      go_wp2
      have e5 : IntKind.i64.wrap ((k : Int) + ((min k (n - k) : Nat) : Int)) = ((k + m : Nat) : Int) := by
        rw [IntKind.wrap_i64, ← hm]
        omega
      have e6 : (k : Int) + ((min k (n - k) : Nat) : Int) = ((k + m : Nat) : Int) := by omega
      refine ⟨⟨k + m, ⟨by omega, by omega⟩, by first | exact e5 | simpa using e5, hg5⟩, ?_⟩
      first
      | rw [e5]
      | skip
      simp only [RowKit.intOf]
      omega
    · have hkn : k = n := by omega
      subst hkn
      have hlt2 : ¬ ((k : Int) < k) := by omega
      go_wp2
      go_ret
      have h8 := H.out
      rw [hRn] at h8
      refine ⟨_, rfl, ⟨by simp, .inr ⟨w.heap.size, k, _, rfl, Nat.le_refl _, h8, Nat.le_refl _, by unfold maxLen; omega, by simp, by simp⟩⟩, hbw⟩
end Go.Proofs.Ytlhllbiikideeaa.Sh
namespace Go.Proofs.Ytlhllbiikideeaa.Sh
open Go.RowKit Go.Lib
/-- Repeat of one number, at most 16 times. -/
def slices_Repeat_int64 (L : List Int) (n : Int) : Option (List Int) := match L with
  | [x] => bif decide (0 ≤ n) && decide (n ≤ 16) then some (List.replicate n.toNat x) else none
  | _ => none
theorem slices_Repeat_int64_run (L : List Int) (n : Int) (r : List Int) (h : slices_Repeat_int64 L n = some r) : SCall Try.prog 32 [.v (.tr (.sl L.length (L.map (eI .i64)))), .v (.tr (.int .i64 n))] ⟨[.own 2 1 r.length (r.map (eI .i64))], [], false⟩ := by
  unfold slices_Repeat_int64 at h
  split at h
  · rename_i x
    cases hb : decide (0 ≤ n) && decide (n ≤ 16)
    · rw [hb] at h; cases h
    · rw [hb] at h
      injection h with h
      subst h
      simp only [Bool.and_eq_true, decide_eq_true_eq] at hb
      obtain ⟨m, rfl⟩ := Int.eq_ofNat_of_zero_le hb.1
      intro w S vs hs hS hv _ _ _
      simp at hs
      have g0 : vs[0]? = some (vs[0]'(by omega)) := Array.getElem?_eq_getElem _
      have g1 : vs[1]? = some (vs[1]'(by omega)) := Array.getElem?_eq_getElem _
      have h0 := hv 0 _ _ rfl g0
      have h1 := hv 1 _ _ rfl g1
      have hvs : vs = #[vs[0]'(by omega), vs[1]'(by omega)] := by
        apply Array.ext
        · simp [hs]
        · intro i hi1 hi2
          have : i = 0 ∨ i = 1 := by omega
          rcases this with rfl | rfl <;> rfl
      rw [hvs]
      generalize vs[0]'(by omega) = v0 at h0
      generalize vs[1]'(by omega) = v1 at h1
      have e1 : v1 = .int .i64 (m : Int) := by
        cases h1 with
        | tr _ _ h1 => cases h1; rfl
      subst e1
      cases h0 with
      | tr _ _ h0 =>
        cases h0 with
        | sl es A n c mm u hl hc hm he hu ha =>
          obtain ⟨b, o, rfl, hb2, hcell⟩ := ha (by simp)
          have hmm : mm = 1 := by
            have := he [.int .i64 x] (by simp [eI])
            simpa using this.symm
          subst hmm
          have h2 := hcell 0 _ 0 _ rfl rfl
          have h3 := hu 0 _ 0 _ rfl rfl
          simp only [Nat.zero_mul, Nat.add_zero] at h2
          generalize u 0 0 = q at h2 h3
          cases h3
          refine (repeat_any ⟨b, o, none⟩ c m (by omega) x w h2).mono fun e w' h => ?_
          obtain ⟨v, rfl, hown, hbl⟩ := h
          refine ⟨v, fun _ => False, rfl, Grew.of_below hbl _, fun b hb => hb.elim, fun b hb => hb.elim, ⟨.arr _ 1 _ _ v (List.replicate m (.int .i64 x)) (by simp) ⟨by simp, ?_⟩ (by simp [eI]) (fun i x' j t q g1 g2 g3 => ?_), fun g hg => ?_⟩, fun j x u hj => by simp at hj⟩
          · rw [Int.toNat_natCast, List.length_replicate]
            rcases hown.2 with h | ⟨g, cap, cur, h3, h4, h5⟩
            · exact .inl h
            · exact .inr ⟨g, cap, cur, h3, Nat.zero_le _, h5⟩
          · rw [List.getElem?_map, Option.map_eq_some_iff] at g1
            obtain ⟨y, hy, rfl⟩ := g1
            obtain ⟨_, rfl⟩ := List.mem_replicate.1 (List.mem_of_getElem? hy)
            obtain ⟨_, rfl⟩ := List.mem_replicate.1 (List.mem_of_getElem? g3)
            have := List.mem_of_getElem? g2
            simp [eI] at this
            subst this
            exact .int _ _
          · rcases hown.2 with ⟨h, _⟩ | ⟨g', cap, cur, h3, h4, h5⟩
            · subst h; simp [blkOf] at hg
            · subst h3
              simp [blkOf] at hg
              subst hg
              exact ⟨h4, fun h => h⟩
  · cases h
end Go.Proofs.Ytlhllbiikideeaa.Sh
