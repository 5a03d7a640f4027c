/- The library's Insert at places: one element put between others, cell for cell; no condition. -/
import Derived.Test.YtpohkmbkohjahaaGreatDoorKA
import Derived.Test.YtpohkmbkohjahaaGreatDoorSD
import Derived.ProofKit
import Derived.Lib.Hide
import Derived.Laws.CopyRow
import Derived.Laws.Externs
import Derived.Lib.Overlaps
import Derived.Lib.AppendZerosOnto
import Derived.Shelf.Spec.SlicesInsert
namespace Go.Proofs.YtpohkmbkohjahaaGreatDoor.Sh
open Go.RowKit Go.Shelf Go.Lib
section
variable {P : Program}
theorem run_copy_rowN (w : World) (dT sT ty elem : TypeId) (g o dLen dCap : Nat) (a : Addr) (sLen sCap : Nat) (cur : Array Value) (t : TypeId) (cs : List Value) (size : Nat)
    (hu : P.underlying dT = some (.slice elem)) (hs : (P.info? elem).map (·.size) = some size)
    (hg : w.heap[g]? = some (.cells cur t (0, 0))) (hn : cs.length = Nat.min sLen dLen * size)
    (hsrc : ∀ j v, cs[j]? = some v → w.cell? (a.add j) = some v) (hfit : o + cs.length ≤ cur.size) (h1 : ∀ v ∈ cs, v.oneCell' = true) :
    (Builtin.copy_ #[dT, sT] ty #[.slice (some ⟨g, o, none⟩) dLen dCap, .slice (some a) sLen sCap]).run P w =
      .ok (goInt (Nat.min sLen dLen)) (w.setRow g (cur.toList.take o ++ cs ++ cur.toList.drop (o + cs.length)).toArray) := by
  have hl := run_loadCells_list (P := P) w a cs hsrc
  have hst := run_storeCells_at P g o t cs 0 cur w hg (by simpa using hfit) h1
  cases hq : P.info? elem with
  | none => simp [hq] at hs
  | some i =>
    have hi : i.size = size := by simpa [hq] using hs
    rw [hn] at hl
    simp [Builtin.copy_, run_underlying hu, Builtin.lenOf, Builtin.firstCells, sizeOf, typeInfo, hq, hi, hl, hst]
end
abbrev insF : FuncId := 53
theorem shape_cells {w : World} {g : Nat} {cur : Array Value} {t : TypeId} (hg : w.heap[g]? = some (.cells cur t (0, 0))) : w.shape? g = some (t, cur.size) := by
  unfold World.shape?
  rw [hg]
theorem frozen_cells {w : World} {g : Nat} {cur : Array Value} {t : TypeId} (hg : w.heap[g]? = some (.cells cur t (0, 0))) (j : Nat) : w.frozen? ⟨g, j, none⟩ = false := by
  unfold World.frozen?
  simp [hg]
theorem ins_list {cur cur1 cur2 curx : Array Value} {n c i cx : Nat} (hc1 : cur1 = (cur.toList.take ((i + 1) * 5) ++ (cur.toList.take (n * 5)).drop (i * 5) ++ cur.toList.drop ((i + 1) * 5 + ((cur.toList.take (n * 5)).drop (i * 5)).length)).toArray)
    (hc2 : cur2 = (cur1.toList.take (i * 5) ++ curx.toList.take 5 ++ cur1.toList.drop (i * 5 + (curx.toList.take 5).length)).toArray) (hcl : cur.toList.length = c * 5) (hxl : curx.toList.length = cx * 5) (hi : i < n) (hn : n + 1 ≤ c) (h1x : 1 ≤ cx) :
    cur2.toList.take ((n + 1) * 5) = cur.toList.take (i * 5) ++ curx.toList.take 5 ++ (cur.toList.take (n * 5)).drop (i * 5) := by
  have e1 : cur1.toList = cur.toList.take ((i + 1) * 5) ++ (cur.toList.take (n * 5)).drop (i * 5) ++ cur.toList.drop ((i + 1) * 5 + ((cur.toList.take (n * 5)).drop (i * 5)).length) := by rw [hc1]
  have e2 : cur2.toList = cur1.toList.take (i * 5) ++ curx.toList.take 5 ++ cur1.toList.drop (i * 5 + (curx.toList.take 5).length) := by rw [hc2]
  have l5 : (curx.toList.take 5).length = 5 := by rw [List.length_take]; omega
  have ld : ((cur.toList.take (n * 5)).drop (i * 5)).length = (n - i) * 5 := by rw [List.length_drop, List.length_take, hcl]; omega
  have la : (cur.toList.take ((i + 1) * 5)).length = (i + 1) * 5 := by rw [List.length_take]; omega
  have lt : (cur.toList.take (i * 5)).length = i * 5 := by rw [List.length_take]; omega
  rw [List.append_assoc] at e1
  have t1 : cur1.toList.take (i * 5) = cur.toList.take (i * 5) := by
    rw [e1, List.take_append_of_le_length (by omega), List.take_take, Nat.min_eq_left (by omega)]
  have d1 : cur1.toList.drop (i * 5 + 5) = (cur.toList.take (n * 5)).drop (i * 5) ++ cur.toList.drop ((i + 1) * 5 + ((cur.toList.take (n * 5)).drop (i * 5)).length) := by
    rw [e1]
    exact List.drop_left' (by omega)
  rw [e2, l5, t1, d1, ← List.append_assoc]
  exact List.take_left' (by simp only [List.length_append, lt, l5, ld]; omega)
set_option maxHeartbeats 4000000 in
set_option maxRecDepth 100000 in
theorem insert_shift (w : World) (b g n c i cx : Nat) (cur curx : Array Value) (hg : w.heap[b]? = some (.cells cur 41 (0, 0))) (hx : w.heap[g]? = some (.cells curx 41 (0, 0))) (hi : i < n) (hn : n + 1 ≤ c) (hc : c ≤ maxLen) (hcs : cur.size = c * 5) (h1x : 1 ≤ cx) (hxs : curx.size = cx * 5) (hbg : g ≠ b)
    (h1 : ∀ v ∈ cur.toList.take (n * 5), v.oneCell' = true) (h2 : ∀ v ∈ curx.toList.take 5, v.oneCell' = true) :
    Calls Tryz.prog insF #[.slice (some ⟨b, 0, none⟩) n c, .int .i64 i, .slice (some ⟨g, 0, none⟩) 1 cx] w fun e w' => e = .returned (.slice (some ⟨b, 0, none⟩) (n + 1) c) ∧ ∃ cur', cur'.size = c * 5 ∧ cur'.toList.take ((n + 1) * 5) = cur.toList.take (i * 5) ++ curx.toList.take 5 ++ (cur.toList.take (n * 5)).drop (i * 5) ∧ w' = w.drew.setRow b cur' := by
  have hc63 : c ≤ 9223372036854775807 := by unfold maxLen at hc; omega
  have hov : ∀ lb cb, (callFunc 94 #[.slice (some ⟨g, 0, none⟩) 1 cx, .slice (some ⟨b, (i + 1) * 5, none⟩) lb cb]).run Tryz.prog w = .ok (.value (.bool false)) w := fun lb cb => by
    rw [run_callFunc_extern Tryz.func94 (by kernel_rfl) (by kernel_rfl) (by kernel_rfl) (e := Extern.SlicesOverlaps.overlaps #[24, 24] #[4]) (by kernel_rfl),
      Lib.run_overlaps_apart w 24 4 41 Tryz.underlying24 5 (by intro w; kernel_rfl) ⟨g, 0, none⟩ ⟨b, (i + 1) * 5, none⟩ 1 cx lb cb hbg 41 41 _ _ (shape_cells hx) (shape_cells hg) (by omega) (frozen_cells hx _) (frozen_cells hx _)]
    rfl
  have hz2 : ¬ ((i : Int) = (n : Int)) := by omega
  have hsz : (Tryz.prog.info? 41).map (·.size) = some 5 := by kernel_rfl
  have hcl : cur.toList.length = c * 5 := by rw [Array.length_toList, hcs]
  have hxl : curx.toList.length = cx * 5 := by rw [Array.length_toList, hxs]
  have h5 : n * 5 ≤ c * 5 := Nat.mul_le_mul_right _ (by omega)
  have hd : ((cur.toList.take (n * 5)).drop (i * 5)).length = (n - i) * 5 := by
    rw [List.length_drop, List.length_take, hcl, Nat.min_eq_left h5, Nat.sub_mul]
  have hcell : ∀ (j : Nat) v, cur.toList[j]? = some v → w.cell? ⟨b, j, none⟩ = some v := fun j v hj => by
    unfold World.cell?
    rw [hg]
    rw [Array.getElem?_toList] at hj
    exact hj
  have hcellx : ∀ (j : Nat) v, curx.toList[j]? = some v → w.cell? ⟨g, j, none⟩ = some v := fun j v hj => by
    unfold World.cell?
    rw [hx]
    rw [Array.getElem?_toList] at hj
    exact hj
  obtain ⟨cur1, hc1⟩ : ∃ cur1, cur1 = (cur.toList.take ((i + 1) * 5) ++ (cur.toList.take (n * 5)).drop (i * 5) ++ cur.toList.drop ((i + 1) * 5 + ((cur.toList.take (n * 5)).drop (i * 5)).length)).toArray := ⟨_, rfl⟩
  have hcp1 : ∀ ty dc sc, (Builtin.copy_ #[24, 24] ty #[.slice (some ⟨b, (i + 1) * 5, none⟩) (n - i) dc, .slice (some ⟨b, i * 5, none⟩) (n + 1 - i) sc]).run Tryz.prog w.drew = .ok (goInt (Nat.min (n + 1 - i) (n - i))) (w.drew.setRow b cur1) := fun ty dc sc => by
    rw [hc1]
    exact run_copy_rowN w.drew _ _ ty 41 b ((i + 1) * 5) (n - i) dc ⟨b, i * 5, none⟩ (n + 1 - i) sc cur 41 ((cur.toList.take (n * 5)).drop (i * 5)) 5 Tryz.underlying24 hsz hg (by rw [hd]; congr 1; show n - i = min (n + 1 - i) (n - i); omega) (fun j v hj => by
      rw [Addr.add_lit]
      rw [List.getElem?_drop] at hj
      have hlt := (List.getElem?_eq_some_iff.1 hj).1
      rw [List.length_take] at hlt
      rw [List.getElem?_take_of_lt (by omega)] at hj
      exact hcell _ v hj) (by rw [hd, ← Array.length_toList, hcl]; omega) (fun v hv => h1 v (List.mem_of_mem_drop hv))
  have hg1 : (w.drew.setRow b cur1).heap[b]? = some (.cells cur1 41 (0, 0)) := setRow_heap w.drew b cur cur1 _ _ hg
  have hx1 : (w.drew.setRow b cur1).heap[g]? = some (.cells curx 41 (0, 0)) := (setRow_other w.drew b g cur1 hbg).trans hx
  have hl1 : cur1.toList.length = c * 5 := by
    rw [hc1]
    simp only [List.length_append, List.length_take, List.length_drop, hcl]
    omega
  obtain ⟨cur2, hc2⟩ : ∃ cur2, cur2 = (cur1.toList.take (i * 5) ++ curx.toList.take 5 ++ cur1.toList.drop (i * 5 + (curx.toList.take 5).length)).toArray := ⟨_, rfl⟩
  have hcp2 : ∀ ty dc, (Builtin.copy_ #[24, 24] ty #[.slice (some ⟨b, i * 5, none⟩) (n + 1 - i) dc, .slice (some ⟨g, 0, none⟩) 1 cx]).run Tryz.prog (w.drew.setRow b cur1) = .ok (goInt (Nat.min 1 (n + 1 - i))) ((w.drew.setRow b cur1).setRow b cur2) := fun ty dc => by
    rw [hc2]
    exact run_copy_rowN (w.drew.setRow b cur1) _ _ ty 41 b (i * 5) (n + 1 - i) dc ⟨g, 0, none⟩ 1 cx cur1 41 (curx.toList.take 5) 5 Tryz.underlying24 hsz hg1 (by rw [List.length_take, hxl]; show min 5 (cx * 5) = min 1 (n + 1 - i) * 5; omega) (fun j v hj => by
      rw [Addr.add_lit, Nat.zero_add]
      unfold World.cell?
      rw [hx1]
      have hlt := (List.getElem?_eq_some_iff.1 hj).1
      rw [List.length_take] at hlt
      rw [List.getElem?_take_of_lt (by omega), Array.getElem?_toList] at hj
      exact hj) (by rw [List.length_take, ← Array.length_toList, hl1, hxl]; omega) h2
  have HC1 := Lib.hid hc1
  have HC2 := Lib.hid hc2
  clear hc1 hc2
  have hw1 : IntKind.i64.wrap ((i : Int) + 1) = (i : Int) + 1 := by rw [IntKind.wrap_i64]; omega
  have hb1 : (0 : Int) ≤ (i : Int) + 1 := by omega
  have htn : ((i : Int) + 1).toNat = i + 1 := by omega
  have hb2 : ¬ (c = i + 1) := by omega
  have hb3 : (i : Int) + 1 ≤ (n : Int) + 1 := by omega
  have hb5 : (i : Int) ≤ (n : Int) + 1 := by omega
  have hb4 : ¬ (c = i) := by omega
  have mixed : Tryz.prog.follows .mixedOrders = true := by kernel_rfl
  go_enter Tryz.func53, Tryz.ntmps53
  go_wp2_with (simp only [hov])
  go_region_law_o (refine step_copy_runI rfl _ _ 24 24 rfl _ _ (by simp [Act.eval, Act.put]) (by simp [Act.eval, Act.put]) (hcp1 _ _ _) ?_)
  go_wp2_with (at_builtin; refine wpList_copy_runI _ rfl _ _ 24 24 rfl _ _ rfl rfl (hcp2 _ _) ?_)
  go_ret
  refine ⟨rfl, cur2, ?_, ?_, ?_⟩
  · rw [← Array.length_toList, HC2.out]
    simp only [List.length_append, List.length_take, List.length_drop, hl1, hxl]
    omega
  · exact ins_list HC1.out HC2.out hcl hxl hi hn h1x
  · rw [setRow_setRow]
def zPlace : Value := .agg #[.string ⟨#[]⟩, .int .i64 0, .int .i64 0, .int .i64 0, .slice none 0 0]
theorem info_place : ∃ i0, Tryz.prog.info? 41 = some i0 ∧ i0.zero = some zPlace ∧ i0.size = 5 ∧ i0.bytes = 64 := by
  have h : (Tryz.prog.info? 41).map (fun i => (i.zero, i.size, i.bytes)) = some (some zPlace, 5, 64) := by kernel_rfl
  cases hi : Tryz.prog.info? 41 with
  | none => rw [hi] at h; cases h
  | some i0 =>
    rw [hi] at h
    simp only [Option.map_some, Option.some.injEq, Prod.mk.injEq] at h
    exact ⟨i0, rfl, h.1, h.2.1, h.2.2⟩
theorem zero_len (k : Nat) : (Builtin.zeroCells zPlace.cells k).size = k * 5 := by
  simp [Builtin.zeroCells, zPlace, Value.cells]
set_option maxHeartbeats 4000000 in
set_option maxRecDepth 100000 in
theorem insert_grow (w : World) (b g n c i cx : Nat) (cur curx : Array Value) (hg : w.heap[b]? = some (.cells cur 41 (0, 0))) (hx : w.heap[g]? = some (.cells curx 41 (0, 0))) (hi : i < n) (hn : n + 1 ≤ 1000000) (hnc : n ≤ c) (hroom : c < n + 1) (hcs : cur.size = c * 5) (h1x : 1 ≤ cx) (hxs : curx.size = cx * 5)
    (h1 : ∀ v ∈ cur.toList.take (n * 5), v.oneCell' = true) (h2 : ∀ v ∈ curx.toList.take 5, v.oneCell' = true) :
    Calls Tryz.prog insF #[.slice (some ⟨b, 0, none⟩) n c, .int .i64 i, .slice (some ⟨g, 0, none⟩) 1 cx] w fun e w' => ∃ G R, e = .returned (.slice (some ⟨w.heap.size, 0, none⟩) (n + 1) G) ∧ n + 1 ≤ G ∧ G ≤ maxLen ∧ R.size = G * 5 ∧ R.toList.take ((n + 1) * 5) = cur.toList.take (i * 5) ++ curx.toList.take 5 ++ (cur.toList.take (n * 5)).drop (i * 5) ∧ w'.heap[w.heap.size]? = some (.cells R 41 (0, 0)) ∧ w.grownBy w' none := by
  obtain ⟨i0, hi0, hz0, hzs, hzb⟩ := info_place
  have hsz : (Tryz.prog.info? 41).map (·.size) = some 5 := by kernel_rfl
  have hz2 : ¬ ((i : Int) = (n : Int)) := by omega
  have hz3 : (c : Int) < (n : Int) + 1 := by omega
  have hcl : cur.toList.length = c * 5 := by rw [Array.length_toList, hcs]
  have hxl : curx.toList.length = cx * 5 := by rw [Array.length_toList, hxs]
  have hbw : b < w.heap.size := (Array.getElem?_eq_some_iff.1 hg).1
  have hgw : g < w.heap.size := (Array.getElem?_eq_some_iff.1 hx).1
  have hkk : (n : Int) + 1 - (i : Int) = ((n + 1 - i : Nat) : Int) := by omega
  have hik : i + (n + 1 - i) = n + 1 := by omega
  have lt : (cur.toList.take (i * 5)).length = i * 5 := by rw [List.length_take]; omega
  have l5 : (curx.toList.take 5).length = 5 := by rw [List.length_take]; omega
  have ld : ((cur.toList.take (n * 5)).drop (i * 5)).length = (n - i) * 5 := by rw [List.length_drop, List.length_take, hcl]; omega
  have hcell : ∀ (j : Nat) v, cur.toList[j]? = some v → w.cell? ⟨b, j, none⟩ = some v := fun j v hj => by
    unfold World.cell?
    rw [hg]
    rw [Array.getElem?_toList] at hj
    exact hj
  have hold : (Builtin.firstCells i0.size i (.slice (some ⟨b, 0, none⟩) i c)).run Tryz.prog w.drew = .ok (cur.toList.take (i * 5)).toArray w.drew := by
    rw [hzs]
    exact run_firstCells_some w.drew 5 i ⟨b, 0, none⟩ i c (cur.toList.take (i * 5)) (by rw [lt]) (fun j v hj => by
      rw [Addr.add_lit, Nat.zero_add]
      have hlt := (List.getElem?_eq_some_iff.1 hj).1
      rw [lt] at hlt
      rw [List.getElem?_take_of_lt hlt] at hj
      exact hcell j v hj)
  obtain ⟨G, hG⟩ : ∃ G, G = grownCap w (n + 1) c 41 := ⟨_, rfl⟩
  have hGn : n + 1 ≤ G := by rw [hG]; exact grownCap_ge w _ _ _
  have hGm : G ≤ maxLen := by rw [hG]; exact grownCap_le_maxLen w (n + 1) c 41 (by unfold maxLen; omega)
  obtain ⟨ROW, hROW⟩ : ∃ ROW : Array Value, ROW = (cur.toList.take (i * 5)).toArray ++ Builtin.zeroCells zPlace.cells (n + 1 - i) ++ Builtin.zeroCells zPlace.cells (G - (n + 1)) := ⟨_, rfl⟩
  have hrz : ∀ ty, (Builtin.append_ #[24, 3] ty #[.slice (some ⟨b, 0, none⟩) i c, .int .i64 ((n : Int) + 1 - (i : Int))]).run Tryz.prog w = .ok (.slice (some ⟨w.heap.size, 0, none⟩) (n + 1) G) (w.drew.alloc (.cells ROW 41)) := fun ty => by
    have h := Lib.run_append_grow_zeros w 24 3 ty 41 i0 _ .i64 .i64 Tryz.underlying24 Tryz.underlying3 hi0 hz0 (some ⟨b, 0, none⟩) i c (cur.toList.take (i * 5)) hold (n + 1 - i) (by omega) (by omega) (by omega) (by omega) (by rw [hzb]; omega) (by rw [hzb, hik]; exact growslice_fits hroom (by omega))
    rw [hik, ← hG, ← hROW] at h
    rw [hkk]
    exact h
  have hRs : ROW.size = G * 5 := by
    rw [hROW, Array.size_append, Array.size_append, zero_len, zero_len, List.size_toArray, lt]
    omega
  have hRl : ROW.toList.length = G * 5 := by rw [Array.length_toList, hRs]
  obtain ⟨R1, hR1⟩ : ∃ R1, R1 = (ROW.toList.take (i * 5) ++ curx.toList.take 5 ++ ROW.toList.drop (i * 5 + (curx.toList.take 5).length)).toArray := ⟨_, rfl⟩
  have l1 : R1.toList.length = G * 5 := by
    rw [hR1]
    simp only [List.length_append, List.length_take, List.length_drop, hRl, hxl]
    omega
  obtain ⟨R2, hR2⟩ : ∃ R2, R2 = (R1.toList.take ((i + 1) * 5) ++ (cur.toList.take (n * 5)).drop (i * 5) ++ R1.toList.drop ((i + 1) * 5 + ((cur.toList.take (n * 5)).drop (i * 5)).length)).toArray := ⟨_, rfl⟩
  have hN0 : (w.drew.alloc (.cells ROW 41)).heap[w.heap.size]? = some (.cells ROW 41 (0, 0)) := heap_alloc_new w.drew _
  have hO0 : ∀ k, k < w.heap.size → (w.drew.alloc (.cells ROW 41)).heap[k]? = w.heap[k]? := fun k hk => heap_alloc_old w.drew _ hk
  have hcpA : ∀ W : World, W.heap = (w.drew.alloc (.cells ROW 41)).heap → ∀ ty dc, (Builtin.copy_ #[24, 24] ty #[.slice (some ⟨w.heap.size, i * 5, none⟩) (n + 1 - i) dc, .slice (some ⟨g, 0, none⟩) 1 cx]).run Tryz.prog W = .ok (goInt (Nat.min 1 (n + 1 - i))) (W.setRow w.heap.size R1) := fun W hW ty dc => by
    rw [hR1]
    exact run_copy_rowN W _ _ ty 41 w.heap.size (i * 5) (n + 1 - i) dc ⟨g, 0, none⟩ 1 cx ROW 41 (curx.toList.take 5) 5 Tryz.underlying24 hsz (by rw [hW]; exact hN0) (by rw [l5]; show 5 = min 1 (n + 1 - i) * 5; omega) (fun j v hj => by
      rw [Addr.add_lit, Nat.zero_add]
      unfold World.cell?
      rw [hW, hO0 g hgw, hx]
      have hlt := (List.getElem?_eq_some_iff.1 hj).1
      rw [l5] at hlt
      rw [List.getElem?_take_of_lt (by omega), Array.getElem?_toList] at hj
      exact hj) (by rw [l5, hRs]; omega) h2
  have hN1 : ∀ W : World, W.heap = (w.drew.alloc (.cells ROW 41)).heap → (W.setRow w.heap.size R1).heap[w.heap.size]? = some (.cells R1 41 (0, 0)) := fun W hW => setRow_heap W w.heap.size ROW R1 _ _ (by rw [hW]; exact hN0)
  have hcpB : ∀ W : World, W.heap[w.heap.size]? = some (.cells R1 41 (0, 0)) → W.heap[b]? = w.heap[b]? → ∀ ty dc sc, (Builtin.copy_ #[24, 24] ty #[.slice (some ⟨w.heap.size, (i + 1) * 5, none⟩) (n - i) dc, .slice (some ⟨b, i * 5, none⟩) (n - i) sc]).run Tryz.prog W = .ok (goInt (Nat.min (n - i) (n - i))) (W.setRow w.heap.size R2) := fun W hWN hWb ty dc sc => by
    rw [hR2]
    exact run_copy_rowN W _ _ ty 41 w.heap.size ((i + 1) * 5) (n - i) dc ⟨b, i * 5, none⟩ (n - i) sc R1 41 ((cur.toList.take (n * 5)).drop (i * 5)) 5 Tryz.underlying24 hsz hWN (by rw [ld]; show _ = min (n - i) (n - i) * 5; rw [Nat.min_self]) (fun j v hj => by
      rw [Addr.add_lit]
      rw [List.getElem?_drop] at hj
      have hlt := (List.getElem?_eq_some_iff.1 hj).1
      rw [List.length_take] at hlt
      rw [List.getElem?_take_of_lt (by omega)] at hj
      unfold World.cell?
      rw [hWb, hg]
      rw [Array.getElem?_toList] at hj
      exact hj) (by rw [ld, ← Array.length_toList, l1]; omega) (fun v hv => h1 v (List.mem_of_mem_drop hv))
  have HROW := Lib.hid hROW
  have HR1 := Lib.hid hR1
  have HR2 := Lib.hid hR2
  have hw1 : IntKind.i64.wrap ((i : Int) + 1) = (i : Int) + 1 := by rw [IntKind.wrap_i64]; omega
  have hb1 : (0 : Int) ≤ (i : Int) + 1 := by omega
  have htn : ((i : Int) + 1).toNat = i + 1 := by omega
  have hb2 : ¬ (G = i + 1) := by omega
  have hb3 : (i : Int) + 1 ≤ (n : Int) + 1 := by omega
  have hb5 : (i : Int) ≤ (n : Int) := by omega
  have hb4 : ¬ (c = i) := by omega
  have hb6 : ¬ (G = i) := by omega
  have hG63 : G ≤ 9223372036854775807 := by unfold maxLen at hGm; omega
  have mixed : Tryz.prog.follows .mixedOrders = true := by kernel_rfl
  have hbN : b ≠ w.heap.size := by omega
  have hE : ((w.alloc (.cells ROW 41)).drew).heap = (w.drew.alloc (.cells ROW 41)).heap := rfl
  clear hG hROW hR1 hR2 hkk hik hold
  go_enter Tryz.func53, Tryz.ntmps53
  go_wp2_with (first
    | (at_builtin; refine Lib.wpList_append_run _ rfl _ _ _ _ rfl _ _ rfl rfl _ _ (hrz _) ?_)
    | (at_builtin; refine wpList_copy_runI _ rfl _ _ 24 24 rfl _ _ rfl rfl (hcpA _ hE _ _) ?_))
  have hF1 : ((((w.alloc (.cells ROW 41)).drew.setRow w.heap.size R1)).drew).heap[w.heap.size]? = some (.cells R1 41 (0, 0)) := hN1 _ hE
  have hF2 : ((((w.alloc (.cells ROW 41)).drew.setRow w.heap.size R1)).drew).heap[b]? = w.heap[b]? := (setRow_other (w.alloc (.cells ROW 41)).drew w.heap.size b R1 hbN).trans (hO0 b hbw)
  go_region_law_o (refine step_copy_runI rfl _ _ 24 24 rfl (.slice (some ⟨w.heap.size, (i + 1) * 5, none⟩) (n - i) (G - (i + 1))) (.slice (some ⟨b, i * 5, none⟩) (n - i) (c - i)) (by simp [Act.eval, Act.put]) (by simp [Act.eval, Act.put]) (hcpB _ hF1 hF2 3 (G - (i + 1)) (c - i)) ?_)
  go_wp2
  go_ret
  refine ⟨G, R2, rfl, hGn, hGm, ?_, ?_, ?_, ?_⟩
  · rw [← Array.length_toList, HR2.out]
    simp only [List.length_append, List.length_take, List.length_drop, l1, ld]
    omega
  · have e1 : R1.toList = ROW.toList.take (i * 5) ++ curx.toList.take 5 ++ ROW.toList.drop (i * 5 + (curx.toList.take 5).length) := by rw [HR1.out]
    have e2 : R2.toList = R1.toList.take ((i + 1) * 5) ++ (cur.toList.take (n * 5)).drop (i * 5) ++ R1.toList.drop ((i + 1) * 5 + ((cur.toList.take (n * 5)).drop (i * 5)).length) := by rw [HR2.out]
    have e3 : ROW.toList.take (i * 5) = cur.toList.take (i * 5) := by
      have := congrArg Array.toList HROW.out
      rw [this, Array.toList_append, Array.toList_append, List.append_assoc]
      exact List.take_left' (by rw [lt])
    have e4 : R1.toList.take ((i + 1) * 5) = cur.toList.take (i * 5) ++ curx.toList.take 5 := by
      rw [e1, e3]
      exact List.take_left' (by rw [List.length_append, lt, l5]; omega)
    rw [e2, e4]
    exact List.take_left' (by simp only [List.length_append, lt, l5, ld]; omega)
  · exact setRow_heap _ _ R1 R2 _ _ hF1
  · refine ⟨rfl, rfl, rfl, ?_, fun k hk _ => ?_⟩
    · exact Nat.le_of_lt (Array.getElem?_eq_some_iff.1 (setRow_heap (((w.alloc (.cells ROW 41)).drew.setRow w.heap.size R1)).drew w.heap.size R1 R2 _ _ hF1)).1
    · rw [setRow_other _ _ _ _ (by omega)]
      exact (setRow_other (w.alloc (.cells ROW 41)).drew w.heap.size k R1 (by omega)).trans (hO0 k hk)
set_option maxHeartbeats 4000000 in
set_option maxRecDepth 100000 in
/-- Insert at the end. -/
theorem insert_end (w : World) (v : Value) (n : Nat) (xs ys : List Value) (h : w.ownsRow 0 41 5 v n xs) (hn : n + 1 ≤ 1000000) (g cx : Nat) (hy : w.ownsRow 0 41 5 (.slice (some ⟨g, 0, none⟩) 1 cx) 1 ys) (h1y : ∀ u ∈ ys, u.oneCell' = true) :
    Calls Tryz.prog insF #[v, .int .i64 n, .slice (some ⟨g, 0, none⟩) 1 cx] w fun e w' => ∃ v', e = .returned v' ∧ w'.ownsRow 0 41 5 v' (n + 1) (xs ++ ys) ∧ w.grownBy w' v.ownBlock ∧ ∀ b, blkOf v' = some b → blkOf v = some b ∨ w.heap.size ≤ b := by
  obtain ⟨i0, hi0, hz0, hzs, hzb⟩ := info_place
  have hap : ∀ ty, ∃ v' w', (Builtin.append_ #[24, 24] ty #[v, .slice (some ⟨g, 0, none⟩) 1 cx]).run Tryz.prog w = .ok v' w' ∧ w'.ownsRow 0 41 5 v' (n + 1) (xs ++ ys) ∧ w.grownBy w' v.ownBlock ∧ ∀ b, blkOf v' = some b → blkOf v = some b ∨ w.heap.size ≤ b := fun ty =>
    append_any (P := Tryz.prog) w 24 ty 41 i0 zPlace 5 64 Tryz.underlying24 hi0 hz0 hzs hzb rfl (by omega) v n xs h (some ⟨g, 0, none⟩) 1 cx ys (by simp) hy.1 (fun a ha j u hu => by
      injection ha with ha
      subst ha
      exact hy.cells (g := g) rfl j u hu) h1y (by unfold maxLen; omega) (by omega)
  obtain ⟨v', w', hrun, h1, h2, h3⟩ := hap 24
  obtain ⟨A, c, hv⟩ : ∃ A c, v = .slice A n c := by
    rcases h.2 with ⟨h8, h9⟩ | ⟨b, cap, cur, h8, _⟩
    · exact ⟨none, 0, by rw [h8, h9]⟩
    · exact ⟨_, cap, h8⟩
  subst hv
  go_enter Tryz.func53, Tryz.ntmps53
  go_wp2_with (at_builtin; refine Lib.wpList_append_run _ rfl _ _ _ _ rfl _ _ rfl rfl _ _ hrun ?_)
  all_goals go_ret
  all_goals first
    | exact ⟨v', rfl, h1, h2, h3⟩
    | (cases A <;> exact ⟨v', rfl, h1, h2, h3⟩)
/-- Insert: v's elements with one more at i. -/
theorem insert_any (w : World) (v : Value) (n i : Nat) (xs ys : List Value) (h : w.ownsRow 0 41 5 v n xs) (hin : i ≤ n) (hn : n + 1 ≤ 1000000) (g cx : Nat) (hy : w.ownsRow 0 41 5 (.slice (some ⟨g, 0, none⟩) 1 cx) 1 ys) (hne : blkOf v ≠ some g) (h1x : ∀ u ∈ xs, u.oneCell' = true) (h1y : ∀ u ∈ ys, u.oneCell' = true) :
    Calls Tryz.prog insF #[v, .int .i64 i, .slice (some ⟨g, 0, none⟩) 1 cx] w fun e w' => ∃ v', e = .returned v' ∧ w'.ownsRow 0 41 5 v' (n + 1) (xs.take (i * 5) ++ ys ++ xs.drop (i * 5)) ∧ w.grownBy w' v.ownBlock ∧ ∀ b, blkOf v' = some b → blkOf v = some b ∨ w.heap.size ≤ b := by
  by_cases hi : i = n
  · subst hi
    rw [List.take_of_length_le (by rw [h.1]; exact Nat.le_refl _), List.drop_eq_nil_of_le (by rw [h.1]; exact Nat.le_refl _), List.append_nil]
    exact insert_end w v i xs ys h hn g cx hy h1y
  · have hi : i < n := by omega
    rcases h.2 with ⟨_, h0⟩ | ⟨b, cap, cur, rfl, _, hg, hnc, hcm, hcs, hxs⟩
    · omega
    · rcases hy.2 with ⟨h0, _⟩ | ⟨g', cap', curx, h0, _, hgx, hcx, _, hcsx, hys⟩
      · cases h0
      · injection h0 with h0 h0' h0''
        injection h0 with h0
        injection h0 with h0
        subst h0 h0''
        have hbg : g ≠ b := fun e => hne (by rw [e]; rfl)
        rw [Nat.one_mul] at hys
        have hbw : b < w.heap.size := (Array.getElem?_eq_some_iff.1 hg).1
        have ht : (xs.take (i * 5) : List Value) = cur.toList.take (i * 5) := by
          rw [← hxs, List.take_take, Nat.min_eq_left (by omega)]
        have hlen : (xs.take (i * 5) ++ ys ++ xs.drop (i * 5)).length = (n + 1) * 5 := by
          have := hy.1
          have := h.1
          simp only [List.length_append, List.length_take, List.length_drop]
          omega
        by_cases hroom : n + 1 ≤ cap
        · refine (insert_shift w b g n cap i cx cur curx hg hgx hi hroom hcm hcs hcx hcsx hbg (fun u hu => h1x u (by rw [← hxs]; exact hu)) (fun u hu => h1y u (by rw [← hys]; exact hu))).mono fun e w' hw => ?_
          obtain ⟨rfl, cur', s1, s2, rfl⟩ := hw
          rw [hys, hxs, ← ht] at s2
          refine ⟨_, rfl, ⟨hlen, .inr ⟨b, cap, cur', rfl, Nat.zero_le _, setRow_heap w.drew b cur cur' _ _ hg, hroom, hcm, s1, s2⟩⟩, ⟨rfl, rfl, rfl, ?_, fun k hk hkb => setRow_other w.drew b k cur' fun e => hkb (by rw [e]; rfl)⟩, fun k hk => .inl hk⟩
          exact Nat.le_of_eq (by simp only [World.setRow, Array.size_modify]; rfl)
        · refine (insert_grow w b g n cap i cx cur curx hg hgx hi hn hnc (by omega) hcs hcx hcsx (fun u hu => h1x u (by rw [← hxs]; exact hu)) (fun u hu => h1y u (by rw [← hys]; exact hu))).mono fun e w' hw => ?_
          obtain ⟨G, R, rfl, s0, s1, s2, s3, s4, s5⟩ := hw
          rw [hys, hxs, ← ht] at s3
          refine ⟨_, rfl, ⟨hlen, .inr ⟨w.heap.size, G, R, rfl, Nat.zero_le _, s4, s0, s1, s2, s3⟩⟩, ⟨s5.os, s5.tape, s5.output, s5.size, fun k hk _ => s5.block k hk (by simp)⟩, fun k hk => ?_⟩
          have hk : some w.heap.size = some k := hk
          injection hk with hk
          exact .inr (by omega)
end Go.Proofs.YtpohkmbkohjahaaGreatDoor.Sh
