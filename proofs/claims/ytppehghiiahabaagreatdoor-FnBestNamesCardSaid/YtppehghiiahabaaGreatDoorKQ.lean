/- The library's sort of lists of numbers by slices.Compare; no condition. -/
import Derived.Test.YtppehghiiahabaaGreatDoorMR1
import Derived.Test.YtppehghiiahabaaGreatDoorKP
import Derived.ProofKit
import Derived.Lib.Hide
import Derived.Shelf.SlSortCmp.Whole1
import Derived.Shelf.SlSortCmp.NoneTotal
import Derived.Shelf.SlSortFunc.HeapSort
namespace Go.Proofs.YtppehghiiahabaaGreatDoor.Sh
open Go.RowKit Go.Shelf Go.Lib
def RdI (w : World) (A : Option Addr) (a : List Int) : Prop := ∀ (i : Nat) x, a[i]? = some x → ∃ b o, A = some ⟨b, o, none⟩ ∧ w.cell? ⟨b, o + i, none⟩ = some (.int .i64 x)
theorem ret_intQ {k : IntKind} {a b : Int} (h : a = b) : Ending.returned (.int k a) = .returned (.int k b) := by rw [h]
theorem drop_ofQ {α : Type} {L : List α} {k : Nat} {x : α} (hx : L[k]? = some x) : L.drop k = x :: L.drop (k + 1) := by
  obtain ⟨h, rfl⟩ := List.getElem?_eq_some_iff.1 hx
  exact List.drop_eq_getElem_cons h
theorem cmpL_cons (x y : Int) (a b : List Int) : cmpL (x :: a) (y :: b) = if x < y then -1 else if y < x then 1 else cmpL a b := rfl
set_option maxHeartbeats 400000 in
set_option maxRecDepth 100000 in
theorem isNaN_anyQ (x : Int) (w : World) : Calls Tryz.prog 124 #[.int .i64 x] w fun e w' => e = .returned (.bool false) ∧ w' = w := by
  have h : (x != x) = false := by simp
  go_enter Tryz.func124, Tryz.ntmps124
  go_wp2
  go_ret
  exact ⟨by simp, rfl⟩
set_option maxHeartbeats 400000 in
set_option maxRecDepth 100000 in
theorem cmpc_anyQ (x y : Int) (w : World) : Calls Tryz.prog 72 #[.int .i64 x, .int .i64 y] w fun e w' => e = .returned (.int .i64 (if x < y then -1 else if y < x then 1 else 0)) ∧ w' = w := by
  by_cases h1 : x < y
  · rw [if_pos h1]
    go_enter Tryz.func72, Tryz.ntmps72
    go_wp2_with (go_at_call 124; refine (isNaN_anyQ _ _).mono ?_; rintro e w' ⟨rfl, rfl⟩)
    go_ret
    exact ⟨rfl, rfl⟩
  · by_cases h2 : y < x
    · rw [if_neg h1, if_pos h2]
      go_enter Tryz.func72, Tryz.ntmps72
      go_wp2_with (go_at_call 124; refine (isNaN_anyQ _ _).mono ?_; rintro e w' ⟨rfl, rfl⟩)
      go_ret
      exact ⟨rfl, rfl⟩
    · rw [if_neg h1, if_neg h2]
      go_enter Tryz.func72, Tryz.ntmps72
      go_wp2_with (go_at_call 124; refine (isNaN_anyQ _ _).mono ?_; rintro e w' ⟨rfl, rfl⟩)
      go_ret
      exact ⟨rfl, rfl⟩
set_option maxHeartbeats 4000000 in
set_option maxRecDepth 100000 in
theorem compare_anyQ (A B : Option Addr) (n m c c' : Nat) (a b : List Int) (w : World) (ha : RdI w A a) (hb : RdI w B b) (hn : a.length = n) (hm : b.length = m) (hnl : n ≤ 9223372036854775807) (hml : m ≤ 9223372036854775807) :
    Calls Tryz.prog 74 #[.slice A n c, .slice B m c'] w fun e w' => e = .returned (.int .i64 (cmpL a b)) ∧ w' = w := by
  have HA := Lib.hid ha
  have HB := Lib.hid hb
  clear ha hb
  go_enter Tryz.func74, Tryz.ntmps74
  go_wp2
  go_loopw [11] (fun ii wr => wr = w ∧ ∃ k : Nat, (k ≤ n ∧ k ≤ m) ∧ ii = .int .i64 k ∧ Hid (cmpL (a.drop k) (b.drop k) = cmpL a b)) (fun ii _ => n - (RowKit.intOf ii).toNat)
  case atStart => exact ⟨rfl, 0, ⟨Nat.zero_le _, Nat.zero_le _⟩, rfl, by simp [Hid]⟩
  case round =>
    obtain ⟨rfl, k, ⟨hk, hkm⟩, rfl, H⟩ := hrel
    by_cases hlt : k < n
    · obtain ⟨x, hx⟩ : ∃ x, a[k]? = some x := ⟨a[k]'(by omega), List.getElem?_eq_getElem _⟩
      obtain ⟨b1, o1, rfl, c1⟩ := HA.out k x hx
      have Hx := Lib.hid hx
      clear hx
      by_cases hlm : k < m
      · obtain ⟨y, hy⟩ : ∃ y, b[k]? = some y := ⟨b[k]'(by omega), List.getElem?_eq_getElem _⟩
        obtain ⟨b2, o2, rfl, c2⟩ := HB.out k y hy
        have Hy := Lib.hid hy
        clear hy
        rcases Int.lt_trichotomy x y with h1 | h1 | h1
        · have hc := fun W => cmpc_anyQ x y W
          rw [if_pos h1] at hc
          go_wp2_with (go_at_call 72; refine (hc _).mono ?_; rintro e w' ⟨rfl, rfl⟩)
          go_ret
          exact ⟨ret_intQ (by rw [← H.out, drop_ofQ Hx.out, drop_ofQ Hy.out, cmpL_cons, if_pos h1]), rfl⟩
        · subst h1
          have hc := fun W => cmpc_anyQ x x W
          rw [if_neg (by omega), if_neg (by omega)] at hc
          go_wp2_with (go_at_call 72; refine (hc _).mono ?_; rintro e w' ⟨rfl, rfl⟩)
          clear hc
          have h := H.out
          rw [drop_ofQ Hx.out, drop_ofQ Hy.out, cmpL_cons, if_neg (by omega), if_neg (by omega)] at h
          have hk1 : k + 1 ≤ n ∧ k + 1 ≤ m := ⟨by omega, by omega⟩
          have hm1 : n - (k + 1) < n - k := by omega
          clear Hx Hy HA HB H c1 c2
          refine ⟨⟨by first | trivial | rfl, k + 1, hk1, by go_num, ?_⟩, ?_⟩
          · exact h
          · simp [RowKit.intOf]
            omega
        · have hc := fun W => cmpc_anyQ x y W
          rw [if_neg (by omega), if_pos h1] at hc
          go_wp2_with (go_at_call 72; refine (hc _).mono ?_; rintro e w' ⟨rfl, rfl⟩)
          go_ret
          exact ⟨ret_intQ (by rw [← H.out, drop_ofQ Hx.out, drop_ofQ Hy.out, cmpL_cons, if_neg (by omega), if_pos h1]), rfl⟩
      · go_wp2
        go_ret
        exact ⟨ret_intQ (by rw [← H.out, drop_ofQ Hx.out, show b.drop k = [] from List.drop_eq_nil_of_le (by omega)]; rfl), rfl⟩
    · have hkn : k = n := by omega
      have h := H.out
      rw [show a.drop k = [] from List.drop_eq_nil_of_le (by omega)] at h
      by_cases hlm : n < m
      · obtain ⟨y, hy⟩ : ∃ y, b[k]? = some y := ⟨b[k]'(by omega), List.getElem?_eq_getElem _⟩
        rw [drop_ofQ hy] at h
        clear hy
        have HH := Lib.hid h
        clear h
        go_wp2
        go_ret
        exact ⟨ret_intQ HH.out, rfl⟩
      · rw [show b.drop k = [] from List.drop_eq_nil_of_le (by omega)] at h
        have HH := Lib.hid h
        clear h
        go_wp2
        go_ret
        exact ⟨ret_intQ HH.out, rfl⟩
end Go.Proofs.YtppehghiiahabaaGreatDoor.Sh
namespace Go.Proofs.YtppehghiiahabaaGreatDoor.Sh
open Go.RowKit Go.Shelf
/-- The numbers of lists in order. -/
def sortIx (L : List (List Int)) : Array Nat := Sort.pdq (ltOf fun i j : Nat => cmpL (L.getD i []) (L.getD j [])) (Array.range L.length) 0 L.length (Lib.bitLen L.length) true true
def sortL (L : List (List Int)) : List (List Int) := (sortIx L).toList.map fun i => L.getD i []
theorem swo_cmp (L : List (List Int)) : Sort.SWO (ltOf fun i j : Nat => cmpL (L.getD i []) (L.getD j [])) := by
  refine ⟨fun i => ?_, fun i j k h1 h2 => ?_, fun i j k h1 h2 => ?_⟩
  · simp only [ltOf, cmpL_self]
    rfl
  · simp only [ltOf, decide_eq_true_eq] at h1 h2 ⊢
    exact cmpL_trans h1 h2
  · simp only [ltOf, decide_eq_false_iff_not] at h1 h2 ⊢
    intro h3
    have s1 := cmpL_swap (L.getD i []) (L.getD j [])
    have s2 := cmpL_swap (L.getD j []) (L.getD k [])
    by_cases e1 : cmpL (L.getD i []) (L.getD j []) = 0
    · rw [← cmpL_zero e1] at h2
      exact h2 h3
    · by_cases e2 : cmpL (L.getD j []) (L.getD k []) = 0
      · rw [cmpL_zero e2] at h1
        exact h1 h3
      · have h4 : cmpL (L.getD k []) (L.getD j []) < 0 := by omega
        have h5 : cmpL (L.getD j []) (L.getD i []) < 0 := by omega
        have := cmpL_trans h3 (cmpL_trans h4 h5)
        rw [cmpL_self] at this
        omega
theorem sortIx_spec (L : List (List Int)) : (sortIx L).size = L.length ∧ (sortIx L).toList.Perm (List.range L.length) ∧ ∀ i j, i < j → j < L.length → ¬ cmpL (L.getD (sortIx L)[j]! []) (L.getD (sortIx L)[i]! []) < 0 := by
  have h := Sort.pdq_sorts (ltOf fun i j : Nat => cmpL (L.getD i []) (L.getD j [])) (swo_cmp L) (Array.range L.length) 0 L.length (Lib.bitLen L.length) true true (Nat.zero_le _) (by simp) (.inl rfl)
  obtain ⟨⟨h1, _, h2⟩, h3⟩ := h
  rw [Array.size_range] at h1
  refine ⟨h1, ?_, fun i j hij hj => ?_⟩
  · have e1 : ∀ d : Array Nat, d.size = L.length → d.extract 0 L.length = d := fun d hd => by
      rw [← hd]
      simp
    rw [e1 _ h1, e1 _ (by simp), Array.toList_range] at h2
    exact h2
  · have := h3 i j (Nat.zero_le _) hij hj
    unfold ltOf at this
    rw [decide_eq_false_iff_not] at this
    exact this
theorem sortL_perm (L : List (List Int)) : (sortL L).Perm L := by
  have h := (sortIx_spec L).2.1.map fun i => L.getD i []
  have e : (List.range L.length).map (fun i => L.getD i []) = L := by
    apply List.ext_getElem
    · simp
    · intro i h1 h2
      simp [List.getD_eq_getElem?_getD, List.getElem?_eq_getElem h2]
  rw [e] at h
  exact h
theorem sortL_len (L : List (List Int)) : (sortL L).length = L.length := (sortL_perm L).length_eq
theorem sortL_sorted (L : List (List Int)) : (sortL L).Pairwise fun a b => ¬ cmpL b a < 0 := by
  obtain ⟨h1, _, h3⟩ := sortIx_spec L
  unfold sortL
  rw [List.pairwise_map, List.pairwise_iff_getElem]
  intro i j hi hj hij
  rw [Array.length_toList] at hi hj
  have := h3 i j hij (by omega)
  rw [getElem!_pos (sortIx L) i hi, getElem!_pos (sortIx L) j hj] at this
  simpa using this
def slices_SortFunc_int64_slices_Compare_int64 (L : List (List Int)) : Option (List (List Int)) := if L.length ≤ 1000000000 then some (sortL L) else none
theorem tv_list {w : World} {S : Nat → Prop} {l : List Int} {v : Value} (h : TV w S (.sl l.length (l.map (eI .i64))) v) : ∃ A c, v = .slice A l.length c ∧ RdI w A l ∧ l.length ≤ maxLen ∧ (∀ b, (∃ o, A = some ⟨b, o, none⟩) → l ≠ [] → S b) := by
  generalize hes : l.map (eI .i64) = es at h
  generalize hn : l.length = n at h
  cases h with
  | sl es A n c m u hl hc hm he hu ha =>
    refine ⟨A, c, rfl, fun i x hx => ?_, by omega, fun b ⟨o, hA⟩ hne => ?_⟩
    · have hxe : es[i]? = some (eI .i64 x) := by rw [← hes, List.getElem?_map, hx]; rfl
      have hne : es ≠ [] := by rintro rfl; simp at hxe
      obtain ⟨b, o, hA, _, hcell⟩ := ha hne
      have hm1 : m = 1 := by
        have := he _ (List.mem_of_getElem? hxe)
        simpa [eI] using this.symm
      subst hm1
      have h1 := hcell i _ 0 _ hxe rfl
      have h2 := hu i _ 0 _ hxe rfl
      generalize u i 0 = q at h1 h2
      cases h2
      exact ⟨b, o, hA, by simpa using h1⟩
    · have hne2 : es ≠ [] := by rw [← hes]; simpa using hne
      obtain ⟨b', o', hA', hS, _⟩ := ha hne2
      rw [hA'] at hA
      injection hA with hA
      injection hA with hA
      rw [← hA]
      exact hS
theorem getD_any (xs : List Value) (j : Nat) (h : j < xs.length) : xs.getD j (.slice none 0 0) = xs[j] := by
  simp [List.getD_eq_getElem?_getD, List.getElem?_eq_getElem h]
theorem sortfunc_run {ρ : Ren} (Ly : SlLaysF.n6 Tryz.prog ρ) (hk : ρ.f 6 = 86) (e : Nat) (eg : Ents Tryz.prog 74) (L r : List (List Int)) (h : slices_SortFunc_int64_slices_Compare_int64 L = some r) :
    SCall Tryz.prog 86 [.o (oa e 1 (eL (eI .i64)) L), .v (.clo 74 [])] ⟨[], [(0, oa e 1 (eL (eI .i64)) r)], false⟩ := by
  unfold slices_SortFunc_int64_slices_Compare_int64 at h
  split at h
  · rename_i hlen
    injection h with h
    subst h
    intro w S vs hn hS hv ho hap hgl
    obtain ⟨v0, v1, rfl⟩ : ∃ v0 v1, vs = #[v0, v1] := ⟨vs.getD 0 undef, vs.getD 1 undef, by
      simp at hn
      apply Array.ext
      · simp [hn]
      · intro i h1 h2
        have : i = 0 ∨ i = 1 := by omega
        rcases this with rfl | rfl <;> simp [Array.getD, h1]⟩
    have h1v := hv 1 _ v1 rfl rfl
    obtain ⟨hc, hobj, hft⟩ := ho 0 _ v0 rfl rfl
    have hv1 : v1 = .func (.func 74) #[] #[] := by
      cases h1v with
      | clo f caps us hl hh =>
        have : us = #[] := Array.eq_empty_of_size_eq_zero (by simpa using hl.symm)
        rw [this]
    subst hv1
    unfold oa at hobj hft
    generalize hes : L.map (eL (eI .i64)) = es at hobj hft
    generalize hln : L.length = n at hobj hft
    cases hobj with
    | arr _ _ _ _ v xs hn2 hown he hh =>
      have hxl : xs.length = n := by rw [hown.1]; omega
      have hat : ∀ (i : Nat) (hi : i < n), TV w S (.sl (L.getD i []).length ((L.getD i []).map (eI .i64))) (xs.getD i (.slice none 0 0)) := fun i hi => by
        have h3 : es[i]? = some (eL (eI .i64) (L.getD i [])) := by
          rw [← hes, List.getElem?_map, List.getElem?_eq_getElem (by omega)]
          simp [List.getD_eq_getElem?_getD, List.getElem?_eq_getElem (show i < L.length by omega)]
        have h4 : xs[i * 1 + 0]? = some (xs.getD i (.slice none 0 0)) := by
          rw [Nat.mul_one, Nat.add_zero, getD_any xs i (by omega), List.getElem?_eq_getElem]
        exact hh i _ 0 _ _ h3 rfl h4
      rw [← hk]
      rcases hown.2 with ⟨rfl, h0⟩ | ⟨g, cap, cur, rfl, _, hg, hcap, hmax, hcs, hcur⟩
      · have hL : L = [] := List.length_eq_zero_iff.1 (by omega)
        subst hL
        refine (AnyF.slices_SortFunc_none (P := Tryz.prog) (ρ := ρ) { Ly with } none 0 _ w).mono fun en w' hw => ?_
        obtain ⟨rfl, rfl⟩ := hw
        have e0 : sortL [] = [] := List.length_eq_zero_iff.1 (sortL_len [])
        rw [e0]
        refine ⟨_, fun _ => False, rfl, Grew.refl _ _, fun b hb => hb.elim, fun b hb => hb.elim, ⟨#[], rfl, rfl, fun i r u hr => by simp at hr⟩, fun j x u hj hu => ?_⟩
        simp only [List.mem_singleton, Prod.mk.injEq] at hj
        obtain ⟨rfl, rfl⟩ := hj
        have : u = .slice none 0 0 := by simpa using hu.symm
        subst this
        exact ⟨.arr _ _ _ _ _ [] rfl ⟨rfl, .inl ⟨rfl, rfl⟩⟩ (by simp) (fun i x j t u h1 => by simp at h1), fun g hg => by cases hg⟩
      · have hlt : g < w.heap.size := (Array.getElem?_eq_some_iff.1 hg).1
        have hgS : ¬ S g := hft g rfl
        have hone : OneCell (fun i : Nat => xs.getD i (.slice none 0 0)) := fun i => by
          by_cases hi : i < n
          · exact tv_one (hat i hi)
          · have : xs.getD i (.slice none 0 0) = .slice none 0 0 := by
              rw [List.getD_eq_getElem?_getD, List.getElem?_eq_none (by omega)]
              rfl
            show (xs.getD i (.slice none 0 0)).oneCell' = true
            rw [this]
            rfl
        have hH : Sort.Holds (fun i : Nat => xs.getD i (.slice none 0 0)) w g 0 (Array.range n) := fun j hj => by
          have hj' : j < n := by simpa using hj
          have h6 : (Array.range n)[j]! = j := by
            rw [getElem!_pos (Array.range n) j hj]
            simp
          have h5 : cur[j]? = some (xs.getD j (.slice none 0 0)) := by
            rw [← Array.getElem?_toList, ← List.getElem?_take_of_lt (show j < n * 1 by omega), hcur, getD_any xs j (by omega), List.getElem?_eq_getElem]
          rw [h6]
          constructor
          · unfold World.cell?
            rw [hg, Nat.zero_add]
            exact h5
          · unfold World.frozen?
            rw [hg]
            simp
        have hcmp : CmpLays1 Tryz.prog 74 #[] (fun i : Nat => xs.getD i (.slice none 0 0)) (fun i j => cmpL (L.getD i []) (L.getD j [])) g 0 (Array.range n).size w := fun m os dk hdk i j => by
          have hrd : ∀ i : Nat, ∃ A c, xs.getD i (.slice none 0 0) = .slice A (L.getD i []).length c ∧ RdI (sortWorld (fun i : Nat => xs.getD i (.slice none 0 0)) w g 0 m dk os) A (L.getD i []) ∧ (L.getD i []).length ≤ maxLen := fun i => by
            by_cases hi : i < n
            · obtain ⟨A, c, h1, h2, h3, h4⟩ := tv_list (hat i hi)
              refine ⟨A, c, h1, fun q x hq => ?_, h3⟩
              obtain ⟨b, o, hA, hb⟩ := h2 q x hq
              refine ⟨b, o, hA, ?_⟩
              have hSb := h4 b ⟨o, hA⟩ (by rintro hnil; rw [hnil] at hq; simp at hq)
              rw [cell?_sortWorld_other _ w g 0 m dk os ⟨b, o + q, none⟩ (fun e2 => hgS (e2 ▸ hSb)) (hS b hSb)]
              exact hb
            · have e1 : xs.getD i (.slice none 0 0) = .slice none 0 0 := by
                rw [List.getD_eq_getElem?_getD, List.getElem?_eq_none (by omega)]
                rfl
              have e2 : L.getD i [] = [] := by
                rw [List.getD_eq_getElem?_getD, List.getElem?_eq_none (by omega)]
                rfl
              rw [e1, e2]
              exact ⟨none, 0, rfl, fun q x hq => by simp at hq, by simp⟩
          obtain ⟨A, c, a1, a2, a3⟩ := hrd i
          obtain ⟨B, c', b1, b2, b3⟩ := hrd j
          show Calls _ _ (#[xs.getD i (.slice none 0 0), xs.getD j (.slice none 0 0)] ++ #[]) _ _
          rw [a1, b1, Array.append_empty]
          unfold maxLen at a3 b3
          refine (compare_anyQ A B _ _ c c' _ _ _ a2 b2 rfl rfl (by omega) (by omega)).mono fun en w' hw => ?_
          exact ⟨hw.1, 0, #[], by rw [hw.2]; exact (Sort.grow_empty _).symm⟩
        have key := Any.slices_SortFunc_eq Ly (fun i : Nat => xs.getD i (.slice none 0 0)) hone (fun i j => cmpL (L.getD i []) (L.getD j [])) (swo_cmp L) 74 #[] g 0 cap (Array.range n) w eg hcmp hH hlt (by simp; omega)
        rw [Array.size_range] at key
        refine key.mono fun en w' hw => ?_
        obtain ⟨rfl, q, os, hw⟩ := hw
        obtain ⟨s1, s2, s3⟩ := sortIx_spec L
        have hix : Sort.pdq (ltOf fun i j : Nat => cmpL (L.getD i []) (L.getD j [])) (Array.range n) 0 n (Lib.bitLen n) true true = sortIx L := by
          unfold sortIx
          rw [hln]
        rw [hix] at hw
        obtain ⟨hrow, hgr⟩ := row_put (fun i : Nat => xs.getD i (.slice none 0 0)) (n := n) (m := n) hg hcap hmax hcs (sortIx L) (by rw [s1, hln]) (Nat.le_refl _) q os hw
        have hkeep : ∀ b, S b → w'.heap[b]? = w.heap[b]? := fun b hb => hgr.block b (hS b hb) fun e2 => hgS (by injection e2 with e2; rw [e2]; exact hb)
        refine ⟨_, fun _ => False, rfl, ⟨hgr.os, hgr.tape, hgr.output, hgr.size, fun b hb hx => hgr.block b hb fun e2 => hx ⟨0, _, _, rfl, rfl, e2⟩⟩, fun b hb => hb.elim, fun b hb => hb.elim, ⟨#[], rfl, rfl, fun i r u hr => by simp at hr⟩, fun j x u hj hu => ?_⟩
        simp only [List.mem_singleton, Prod.mk.injEq] at hj
        obtain ⟨rfl, rfl⟩ := hj
        have : u = .slice (some ⟨g, 0, none⟩) n cap := by simpa using hu.symm
        subst this
        have e6 : (sortL L).length = n := by rw [sortL_len, hln]
        unfold oa
        rw [e6]
        refine ⟨.arr _ _ _ _ _ _ (by rw [List.length_map, e6]) hrow (fun x hx => ?_) (fun i x j t u h1 h2 h3 => ?_), fun g' hg' => ⟨fun h => h, 0, _, _, rfl, rfl, hg'⟩⟩
        · obtain ⟨y, _, rfl⟩ := List.mem_map.1 hx
          rfl
        · rw [List.getElem?_map, Option.map_eq_some_iff] at h1
          obtain ⟨y, hy, rfl⟩ := h1
          unfold sortL at hy
          rw [List.getElem?_map, Option.map_eq_some_iff] at hy
          obtain ⟨ix, hix2, rfl⟩ := hy
          have hixn : ix < n := by
            have := s2.mem_iff.1 (List.mem_of_getElem? hix2)
            rw [List.mem_range, hln] at this
            exact this
          cases j with
          | zero =>
            injection h2 with h2
            subst h2
            rw [Nat.mul_one, Nat.add_zero, List.take_of_length_le (by rw [Array.length_toList, s1, hln]; exact Nat.le_refl _), List.getElem?_map, hix2] at h3
            injection h3 with h3
            subst h3
            exact (hat ix hixn).keep hkeep fun _ h => .inl h
          | succ j => cases h2
  · cases h
end Go.Proofs.YtppehghiiahabaaGreatDoor.Sh
