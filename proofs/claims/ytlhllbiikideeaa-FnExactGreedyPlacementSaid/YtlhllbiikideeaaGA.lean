/- Typed functions and the calls that do what they say. -/
import Derived.Test.YtlhllbiikideeaaGAp0
import Derived.Test.YtlhllbiikideeaaKR
namespace Go.Proofs.Ytlhllbiikideeaa.Sh
open Go.RowKit
noncomputable def impl_GreedyPlacement (aList : (List Label)) : Option ((List Int) × Int) :=
  ((impl_AreLabels aList).bind fun x1 => (bif (!x1) then some (([] : List Int), 1) else ((slices_Repeat_int64 ([4] : List Int) (aList.length : Int)).bind fun x2 => (((forS (aList.length : Int) (fun (i5 : Int) (s5 : (List Int)) => ((app' s5 ([i5] : List Int)).bind fun x9 => some x9)) (fun (s5 : (List Int)) => s5) 0 ([] : List Int))).bind fun (j3 : (List Int)) => ((slices_SortStableFunc_int_impl_GreedyPlacement_1 j3 aList).bind fun x10 => (((forS (x10.length : Int) (fun (i13 : Int) (s13 : (List Int)) => ((at' x10 i13).bind fun x17 => (forN 4 (fun (i18 : Int) (s18 : (List Int)) => ((at' s18 x17).bind fun _ => ((impl_isClear aList (List.set s18 (Int.toNat x17) i18)).bind fun x23 => (bif x23 then some (.inr (List.set s18 (Int.toNat x17) i18)) else ((at' (List.set s18 (Int.toNat x17) i18) x17).bind fun _ => some (.inl (List.set (List.set s18 (Int.toNat x17) i18) (Int.toNat x17) 4))))))) (fun (s18 : (List Int)) => s18) 0 s13))) (fun (s13 : (List Int)) => s13) 0 x2)).bind fun (j11 : (List Int)) => some (j11, 0)))))))
set_option maxRecDepth 100000 in
set_option maxHeartbeats 4000000 in
theorem impl_GreedyPlacement_run (aList : (List Label)) (r : (List Int) × Int) (h : impl_GreedyPlacement aList = some r) : SCall Try.prog 16 [.v (vl eLabel aList)] ⟨[.own 2 1 r.1.length (r.1.map (eI .i64)), .v (vi r.2)], [], false⟩ := by
  refine scall_in Try.func16 rfl [(.tmp 2), (.tmp 3)] rfl (fun r => ⟨[.own 2 1 r.1.length (r.1.map (eI .i64)), .v (vi r.2)], [], false⟩) (r := r) ?_
  unfold impl_GreedyPlacement at h
  refine swp_seq ?_
  refine swp_reg ?_
  refine SRun.ck tbok 3 ⟨52, [(1, .ref 1 0)], [(1, .box [vl eLabel aList])]⟩ ?_
  refine SRun.nil ?_
  refine nx_n ?_
  refine swp_seq ?_
  refine swp_seq ?_
  refine swp_reg ?_
  refine SRun.ck tbok 1 ⟨52, [(1, .ref 1 0), (10, vl eLabel aList)], [(1, .box [vl eLabel aList])]⟩ ?_
  obtain ⟨x1, hx1, h⟩ := bind_some h
  refine SRun.ls (x_lstep_call (f := 28) (caps := []) (xs := [vl eLabel aList]) (ys := [vl eLabel aList]) (res := ⟨[.v (vb x1)], [], false⟩) (x := vb x1) (y := none) rfl ents28 (impl_AreLabels_run aList _ hx1) rfl (by intro hc; cases hc)) ?_
  refine SRun.ck tbok 1 ⟨52, [(1, .ref 1 0), (12, vb (!x1))], [(1, .box [vl eLabel aList])]⟩ ?_
  refine SRun.nil ?_
  refine nx_n ?_
  refine swp_cond (b := (!x1)) (by kernel_rfl) (fun hb => ?_) (fun hb => ?_)
  replace h := cond_t hb h
  refine swp_seq ?_
  refine swp_reg ?_
  refine SRun.ck tbok 2 ⟨52, [(2, .own 2), (3, vi 1)], [(2, .arr 2 1 ([] : List Int).length (([] : List Int).map (eI .i64)))]⟩ ?_
  refine SRun.nil ?_
  refine nx_n ?_
  refine swp_ret ?_
  replace h := Option.some.inj h
  subst h
  exact nx_r (q_fr (fin2 (by kernel_rfl) (finO (d := 2) (holds_t (by kernel_rfl)) (by kernel_rfl) (flat_map (eI_flat .i64) _) (by kernel_rfl)) (finV rfl SV.flat_of (holds_t (by kernel_rfl)))))
  replace h := cond_f hb h
  refine swp_skip ?_
  refine nx_n ?_
  refine swp_seq ?_
  refine swp_reg ?_
  refine SRun.ck tbok 3 ⟨52, [(1, .ref 1 0), (13, .own 13), (15, vi (aList.length : Int))], [(1, .box [vl eLabel aList]), (13, .arr 2 1 ([4] : List Int).length (([4] : List Int).map (eI .i64)))]⟩ ?_
  obtain ⟨x2, hx2, h⟩ := bind_some h
  refine SRun.ls (x_lstep_call (f := 32) (caps := []) (xs := [.own 13, vi (aList.length : Int)]) (ys := [vl (eI .i64) ([4] : List Int), vi (aList.length : Int)]) (res := ⟨[.own 2 1 x2.length (x2.map (eI .i64))], [], false⟩) (x := .own 16) (y := some (.arr 2 1 x2.length (x2.map (eI .i64)))) rfl ents32 (slices_Repeat_int64_run ([4] : List Int) (aList.length : Int) _ hx2) rfl (by intro hc; cases hc)) ?_
  refine SRun.ck tbok 1 ⟨52, [(1, .ref 1 0), (4, .own 16)], [(1, .box [vl eLabel aList]), (16, .arr 2 1 x2.length (x2.map (eI .i64)))]⟩ ?_
  refine SRun.nil ?_
  refine nx_n ?_
  refine swp_seq ?_
  refine swp_reg ?_
  refine SRun.ck tbok 1 ⟨52, [(1, .ref 1 0), (4, .own 16), (5, .own 5)], [(1, .box [vl eLabel aList]), (5, .arr 3 1 ([] : List Int).length (([] : List Int).map (eI .i64))), (16, .arr 2 1 x2.length (x2.map (eI .i64)))]⟩ ?_
  refine SRun.nil ?_
  refine nx_n ?_
  refine swp_seq ?_
  refine swp_seq ?_
  refine swp_reg ?_
  refine SRun.ck tbok 3 ⟨52, [(1, .ref 1 0), (4, .own 16), (5, .own 5), (18, vi (aList.length : Int)), (19, vi 0)], [(1, .box [vl eLabel aList]), (5, .arr 3 1 ([] : List Int).length (([] : List Int).map (eI .i64))), (16, .arr 2 1 x2.length (x2.map (eI .i64)))]⟩ ?_
  refine SRun.nil ?_
  refine nx_n ?_
  refine swp_seqJ h (fun j3 => ⟨52, [(1, .ref 1 0), (4, .own 4), (5, .own 5)], [(1, .box [vl eLabel aList]), (5, .arr 3 1 j3.length (j3.map (eI .i64))), (4, .arr 2 1 x2.length (x2.map (eI .i64)))]⟩) (fun v4 h => ?_) (fun j3 h => ?_)
  refine swp_blk (a := v4) ?_
  refine swp_lpL (r := v4) (s := (0, ([] : List Int))) _ (fun s5 => ⟨52, [(1, .ref 1 0), (4, .own 4), (5, .own 5), (18, vi (aList.length : Int)), (19, vi s5.1)], [(1, .box [vl eLabel aList]), (5, .arr 3 1 s5.2.length (s5.2.map (eI .i64))), (4, .arr 2 1 x2.length (x2.map (eI .i64)))]⟩) _ ((Le.sub' ([(1, .ref 1 0), (4, .own 16), (5, .own 5), (18, vi (aList.length : Int)), (19, vi 0)] : List (Nat × SV)) ([(1, .box [vl eLabel aList]), (5, .arr 3 1 ([] : List Int).length (([] : List Int).map (eI .i64))), (16, .arr 2 1 x2.length (x2.map (eI .i64)))] : List (Nat × SO)) (by kernel_rfl) (by kernel_rfl)).trans ((Le.ren' (d := 16) (e := 4) (by kernel_rfl) (by kernel_rfl) (by kernel_rfl)).trans (Le.sub0))) h (fun s5 v6 h => ?_)
  refine swp_seq ?_
  refine swp_reg ?_
  refine SRun.ck tbok 1 ⟨52, [(1, .ref 1 0), (4, .own 4), (5, .own 5), (18, vi (aList.length : Int)), (19, vi s5.1), (20, vb (decide (s5.1 < (aList.length : Int))))], [(1, .box [vl eLabel aList]), (4, .arr 2 1 x2.length (x2.map (eI .i64))), (5, .arr 3 1 s5.2.length (s5.2.map (eI .i64)))]⟩ ?_
  refine SRun.nil ?_
  refine nx_n ?_
  refine swp_seq ?_
  refine swp_cond (b := (decide (s5.1 < (aList.length : Int)))) (by kernel_rfl) (fun hb => ?_) (fun hb => ?_)
  replace h := cond_t hb h
  refine swp_skip ?_
  refine nx_n ?_
  refine swp_seq ?_
  refine swp_seqJ h (fun j7 => ⟨52, [(1, .ref 1 0), (4, .own 4), (5, .own 5), (18, vi (aList.length : Int)), (19, vi s5.1)], [(1, .box [vl eLabel aList]), (4, .arr 2 1 x2.length (x2.map (eI .i64))), (5, .arr 3 1 j7.length (j7.map (eI .i64)))]⟩) (fun v8 h => ?_) (fun j7 h => ?_)
  refine swp_blk (a := v8) ?_
  refine swp_seq ?_
  refine swp_reg ?_
  refine SRun.ck tbok 2 ⟨52, [(1, .ref 1 0), (4, .own 4), (5, .own 5), (6, vi s5.1), (18, vi (aList.length : Int)), (19, vi s5.1)], [(1, .box [vl eLabel aList]), (4, .arr 2 1 x2.length (x2.map (eI .i64))), (5, .arr 3 1 s5.2.length (s5.2.map (eI .i64)))]⟩ ?_
  refine SRun.nil ?_
  refine nx_n ?_
  refine swp_reg ?_
  refine SRun.ck tbok 3 ⟨52, [(1, .ref 1 0), (4, .own 4), (18, vi (aList.length : Int)), (19, vi s5.1), (22, .own 5), (24, .own 24)], [(1, .box [vl eLabel aList]), (4, .arr 2 1 x2.length (x2.map (eI .i64))), (5, .arr 3 1 s5.2.length (s5.2.map (eI .i64))), (24, .arr 3 1 ([s5.1] : List Int).length (([s5.1] : List Int).map (eI .i64)))]⟩ ?_
  obtain ⟨x9, hx9, h⟩ := bind_some h
  refine SRun.estep (x_append (f := (eI .i64)) (t := 64) (ti := ti64) (tj := ti3) (zs := [.int .i64 0]) (e := 3) (m := 1) (d := 5) (xv := .own 24) hx9 tbok rfl rfl rfl rfl (x_src_o (e := 3))) ?_
  refine SRun.ck tbok 1 ⟨52, [(1, .ref 1 0), (4, .own 4), (5, .own 25), (18, vi (aList.length : Int)), (19, vi s5.1)], [(1, .box [vl eLabel aList]), (4, .arr 2 1 x2.length (x2.map (eI .i64))), (25, .arr 3 1 x9.length (x9.map (eI .i64)))]⟩ ?_
  refine SRun.nil ?_
  replace h := Option.some.inj h
  subst h
  exact q_bn (q_j ((Le.sub' ([(1, .ref 1 0), (4, .own 4), (5, .own 25), (18, vi (aList.length : Int)), (19, vi s5.1)] : List (Nat × SV)) ([(1, .box [vl eLabel aList]), (4, .arr 2 1 x2.length (x2.map (eI .i64))), (25, .arr 3 1 x9.length (x9.map (eI .i64)))] : List (Nat × SO)) (by kernel_rfl) (by kernel_rfl)).trans ((Le.ren' (d := 25) (e := 5) (by kernel_rfl) (by kernel_rfl) (by kernel_rfl)).trans (Le.sub0))))
  refine swp_reg ?_
  refine SRun.ck tbok 2 ⟨52, [(1, .ref 1 0), (4, .own 4), (5, .own 5), (18, vi (aList.length : Int)), (19, vi (w64 (s5.1 + 1)))], [(1, .box [vl eLabel aList]), (4, .arr 2 1 x2.length (x2.map (eI .i64))), (5, .arr 3 1 j7.length (j7.map (eI .i64)))]⟩ ?_
  refine SRun.nil ?_
  replace h := Option.some.inj h
  subst h
  exact q_l (Le.sub0)
  replace h := cond_f hb h
  refine swp_exit ?_
  replace h := Option.some.inj h
  subst h
  exact nx_e (q_re (q_bh (q_j (Le.sub0))))
  refine swp_seq ?_
  refine swp_reg ?_
  refine SRun.ck tbok 2 ⟨52, [(1, .ref 1 0), (4, .own 4), (5, .own 5), (27, .own 5), (28, .clo 40 [.ref 1 0])], [(1, .box [vl eLabel aList]), (4, .arr 2 1 x2.length (x2.map (eI .i64))), (5, .arr 3 1 j3.length (j3.map (eI .i64)))]⟩ ?_
  obtain ⟨x10, hx10, h⟩ := bind_some h
  refine SRun.estep (x_estep_call (f := 39) (caps := []) (xs := [.own 5, .clo 40 [.ref 1 0]]) (pre := []) (post := [.clo 40 [.ref 1 0]]) (qs := [.clo 40 [.ptr [vl eLabel aList] 0]]) (z := .own 5) (d := 5) (pl := 0) (y := .arr 3 1 j3.length (j3.map (eI .i64))) (y' := .arr 3 1 x10.length (x10.map (eI .i64))) (res := ⟨[], [(0, .arr 3 1 x10.length (x10.map (eI .i64)))], false⟩) (x := .tup []) (yo := none) rfl rfl rfl rfl rfl ents39 (slices_SortStableFunc_int_impl_GreedyPlacement_1_run j3 aList _ hx10) rfl rfl true (by intro hc; cases hc) (fun _ => ⟨rfl, (flat_map (eI_flat .i64) _)⟩)) ?_
  refine SRun.nil ?_
  refine nx_n ?_
  refine swp_seq ?_
  refine swp_seq ?_
  refine swp_reg ?_
  refine SRun.ck tbok 3 ⟨52, [(1, .ref 1 0), (4, .own 4), (30, .own 5), (31, vi (x10.length : Int)), (32, vi 0)], [(1, .box [vl eLabel aList]), (4, .arr 2 1 x2.length (x2.map (eI .i64))), (5, .arr 3 1 x10.length (x10.map (eI .i64)))]⟩ ?_
  refine SRun.nil ?_
  refine nx_n ?_
  refine swp_seqJ h (fun j11 => ⟨52, [(4, .own 4)], [(4, .arr 2 1 j11.length (j11.map (eI .i64)))]⟩) (fun v12 h => ?_) (fun j11 h => ?_)
  refine swp_blk (a := v12) ?_
  refine swp_lpL (r := v12) (s := (0, x2)) _ (fun s13 => ⟨52, [(1, .ref 1 0), (4, .own 4), (30, .own 30), (31, vi (x10.length : Int)), (32, vi s13.1)], [(1, .box [vl eLabel aList]), (4, .arr 2 1 s13.2.length (s13.2.map (eI .i64))), (30, .arr 3 1 x10.length (x10.map (eI .i64)))]⟩) _ ((Le.sub' ([(1, .ref 1 0), (4, .own 4), (30, .own 5), (31, vi (x10.length : Int)), (32, vi 0)] : List (Nat × SV)) ([(1, .box [vl eLabel aList]), (4, .arr 2 1 x2.length (x2.map (eI .i64))), (5, .arr 3 1 x10.length (x10.map (eI .i64)))] : List (Nat × SO)) (by kernel_rfl) (by kernel_rfl)).trans ((Le.ren' (d := 5) (e := 30) (by kernel_rfl) (by kernel_rfl) (by kernel_rfl)).trans (Le.sub0))) h (fun s13 v14 h => ?_)
  refine swp_seq ?_
  refine swp_reg ?_
  refine SRun.ck tbok 1 ⟨52, [(1, .ref 1 0), (4, .own 4), (30, .own 30), (31, vi (x10.length : Int)), (32, vi s13.1), (33, vb (decide (s13.1 < (x10.length : Int))))], [(1, .box [vl eLabel aList]), (4, .arr 2 1 s13.2.length (s13.2.map (eI .i64))), (30, .arr 3 1 x10.length (x10.map (eI .i64)))]⟩ ?_
  refine SRun.nil ?_
  refine nx_n ?_
  refine swp_seq ?_
  refine swp_cond (b := (decide (s13.1 < (x10.length : Int)))) (by kernel_rfl) (fun hb => ?_) (fun hb => ?_)
  replace h := cond_t hb h
  refine swp_skip ?_
  refine nx_n ?_
  refine swp_seq ?_
  refine swp_seqJ h (fun j15 => ⟨52, [(1, .ref 1 0), (4, .own 4), (30, .own 30), (31, vi (x10.length : Int)), (32, vi s13.1)], [(1, .box [vl eLabel aList]), (4, .arr 2 1 j15.length (j15.map (eI .i64))), (30, .arr 3 1 x10.length (x10.map (eI .i64)))]⟩) (fun v16 h => ?_) (fun j15 h => ?_)
  refine swp_blk (a := v16) ?_
  refine swp_seq ?_
  refine swp_reg ?_
  obtain ⟨x17, hx17, h⟩ := bind_some h
  refine SRun.ls (x_index_own (d := 30) (L := x10) (f := (eI .i64)) (ti := ti64) (tj := ti3) (e := 3) (e' := 3) (m := 1) (k := .i64) tbok rfl hx17) ?_
  refine SRun.ls (x_load_own (d := 30) (m := 1) (j := 0) (L := x10) (f := (eI .i64)) (ti := ti3) (e := 3) (v := vi x17) tbok rfl hx17) ?_
  refine SRun.ck tbok 1 ⟨52, [(1, .ref 1 0), (4, .own 4), (8, vi x17), (30, .own 30), (31, vi (x10.length : Int)), (32, vi s13.1)], [(1, .box [vl eLabel aList]), (4, .arr 2 1 s13.2.length (s13.2.map (eI .i64))), (30, .arr 3 1 x10.length (x10.map (eI .i64)))]⟩ ?_
  refine SRun.nil ?_
  refine nx_n ?_
  refine swp_seq ?_
  refine swp_reg ?_
  refine SRun.ck tbok 1 ⟨52, [(1, .ref 1 0), (4, .own 4), (8, vi x17), (30, .own 30), (31, vi (x10.length : Int)), (32, vi s13.1), (36, vi 0)], [(1, .box [vl eLabel aList]), (4, .arr 2 1 s13.2.length (s13.2.map (eI .i64))), (30, .arr 3 1 x10.length (x10.map (eI .i64)))]⟩ ?_
  refine SRun.nil ?_
  refine nx_n ?_
  refine swp_blk (a := v16) ?_
  refine swp_lpL (r := v16) (s := (0, s13.2)) _ (fun s18 => ⟨52, [(1, .ref 1 0), (4, .own 4), (8, vi x17), (30, .own 30), (31, vi (x10.length : Int)), (32, vi s13.1), (36, vi s18.1)], [(1, .box [vl eLabel aList]), (4, .arr 2 1 s18.2.length (s18.2.map (eI .i64))), (30, .arr 3 1 x10.length (x10.map (eI .i64)))]⟩) _ (Le.sub0) h (fun s18 v19 h => ?_)
  refine swp_seq ?_
  refine swp_reg ?_
  refine SRun.ck tbok 1 ⟨52, [(1, .ref 1 0), (4, .own 4), (8, vi x17), (30, .own 30), (31, vi (x10.length : Int)), (32, vi s13.1), (36, vi s18.1), (37, vb (decide (s18.1 < 4)))], [(1, .box [vl eLabel aList]), (4, .arr 2 1 s18.2.length (s18.2.map (eI .i64))), (30, .arr 3 1 x10.length (x10.map (eI .i64)))]⟩ ?_
  refine SRun.nil ?_
  refine nx_n ?_
  refine swp_seq ?_
  refine swp_cond (b := (decide (s18.1 < 4))) (by kernel_rfl) (fun hb => ?_) (fun hb => ?_)
  replace h := cond_t hb h
  refine swp_skip ?_
  refine nx_n ?_
  refine swp_seq ?_
  refine swp_seqL (r := v19) h (fun j20 => ⟨52, [(1, .ref 1 0), (4, .own 4), (8, vi x17), (30, .own 30), (31, vi (x10.length : Int)), (32, vi s13.1), (36, vi s18.1)], [(1, .box [vl eLabel aList]), (4, .arr 2 1 j20.length (j20.map (eI .i64))), (30, .arr 3 1 x10.length (x10.map (eI .i64)))]⟩) (fun v21 h => ?_) (fun j20 h => ?_)
  refine swp_blk (a := v21) ?_
  refine swp_seq ?_
  refine swp_reg ?_
  refine SRun.ck tbok 2 ⟨52, [(1, .ref 1 0), (4, .own 4), (8, vi x17), (9, vi s18.1), (30, .own 30), (31, vi (x10.length : Int)), (32, vi s13.1), (36, vi s18.1)], [(1, .box [vl eLabel aList]), (4, .arr 2 1 s18.2.length (s18.2.map (eI .i64))), (30, .arr 3 1 x10.length (x10.map (eI .i64)))]⟩ ?_
  refine SRun.nil ?_
  refine nx_n ?_
  refine swp_seq ?_
  refine swp_reg ?_
  refine SRun.ck tbok 3 ⟨52, [(1, .ref 1 0), (4, .own 4), (8, vi x17), (30, .own 30), (31, vi (x10.length : Int)), (32, vi s13.1), (36, vi s18.1), (39, .own 4), (40, vi x17), (41, vi s18.1)], [(1, .box [vl eLabel aList]), (4, .arr 2 1 s18.2.length (s18.2.map (eI .i64))), (30, .arr 3 1 x10.length (x10.map (eI .i64)))]⟩ ?_
  obtain ⟨x22, hx22, h⟩ := bind_some h
  refine SRun.ls (x_index_own (d := 4) (L := s18.2) (f := (eI .i64)) (ti := ti24) (tj := ti2) (e := 2) (e' := 2) (m := 1) (k := .i64) tbok rfl hx22) ?_
  refine SRun.estep (x_store_own (d := 4) (m := 1) (j := 0) (L := s18.2) (f := (eI .i64)) (x := s18.1) (z := x22) (ti := ti2) (e := 2) (ts := [.int .i64 s18.1]) (vs := [vi s18.1]) (v := vi s18.1) tbok rfl rfl hx22) ?_
  refine SRun.nil ?_
  refine nx_n ?_
  refine swp_seq ?_
  refine swp_seq ?_
  refine swp_reg ?_
  refine SRun.ck tbok 2 ⟨52, [(1, .ref 1 0), (4, .own 4), (8, vi x17), (30, .own 30), (31, vi (x10.length : Int)), (32, vi s13.1), (36, vi s18.1), (43, vl eLabel aList), (44, .own 4)], [(1, .box [vl eLabel aList]), (4, .arr 2 1 (List.set s18.2 (Int.toNat x17) s18.1).length ((List.set s18.2 (Int.toNat x17) s18.1).map (eI .i64))), (30, .arr 3 1 x10.length (x10.map (eI .i64)))]⟩ ?_
  obtain ⟨x23, hx23, h⟩ := bind_some h
  refine SRun.ls (x_lstep_call (f := 42) (caps := []) (xs := [vl eLabel aList, .own 4]) (ys := [vl eLabel aList, vl (eI .i64) (List.set s18.2 (Int.toNat x17) s18.1)]) (res := ⟨[.v (vb x23)], [], false⟩) (x := vb x23) (y := none) rfl ents42 (impl_isClear_run aList (List.set s18.2 (Int.toNat x17) s18.1) _ hx23) rfl (by intro hc; cases hc)) ?_
  refine SRun.nil ?_
  refine nx_n ?_
  refine swp_cond (b := x23) (by kernel_rfl) (fun hb => ?_) (fun hb => ?_)
  replace h := cond_t hb h
  refine swp_exit ?_
  replace h := Option.some.inj h
  subst h
  exact nx_e (q_bm rfl (q_re (q_re (q_bh (q_bn (q_j (Le.sub0)))))))
  replace h := cond_f hb h
  refine swp_skip ?_
  refine nx_n ?_
  refine swp_reg ?_
  refine SRun.ck tbok 2 ⟨52, [(1, .ref 1 0), (4, .own 4), (8, vi x17), (30, .own 30), (31, vi (x10.length : Int)), (32, vi s13.1), (36, vi s18.1), (46, .own 4), (47, vi x17)], [(1, .box [vl eLabel aList]), (4, .arr 2 1 (List.set s18.2 (Int.toNat x17) s18.1).length ((List.set s18.2 (Int.toNat x17) s18.1).map (eI .i64))), (30, .arr 3 1 x10.length (x10.map (eI .i64)))]⟩ ?_
  obtain ⟨x24, hx24, h⟩ := bind_some h
  refine SRun.ls (x_index_own (d := 4) (L := (List.set s18.2 (Int.toNat x17) s18.1)) (f := (eI .i64)) (ti := ti24) (tj := ti2) (e := 2) (e' := 2) (m := 1) (k := .i64) tbok rfl hx24) ?_
  refine SRun.estep (x_store_own (d := 4) (m := 1) (j := 0) (L := (List.set s18.2 (Int.toNat x17) s18.1)) (f := (eI .i64)) (x := 4) (z := x24) (ti := ti2) (e := 2) (ts := [.int .i64 4]) (vs := [vi 4]) (v := vi 4) tbok rfl rfl hx24) ?_
  refine SRun.nil ?_
  replace h := Option.some.inj h
  subst h
  exact q_bn (q_l (Le.sub0))
  refine swp_reg ?_
  refine SRun.ck tbok 2 ⟨52, [(1, .ref 1 0), (4, .own 4), (8, vi x17), (30, .own 30), (31, vi (x10.length : Int)), (32, vi s13.1), (36, vi (w64 (s18.1 + 1)))], [(1, .box [vl eLabel aList]), (4, .arr 2 1 j20.length (j20.map (eI .i64))), (30, .arr 3 1 x10.length (x10.map (eI .i64)))]⟩ ?_
  refine SRun.nil ?_
  replace h := Option.some.inj h
  subst h
  exact q_l (Le.sub0)
  replace h := cond_f hb h
  refine swp_exit ?_
  replace h := Option.some.inj h
  subst h
  exact nx_e (q_re (q_bh (q_bn (q_j (Le.sub0)))))
  refine swp_reg ?_
  refine SRun.ck tbok 2 ⟨52, [(1, .ref 1 0), (4, .own 4), (30, .own 30), (31, vi (x10.length : Int)), (32, vi (w64 (s13.1 + 1)))], [(1, .box [vl eLabel aList]), (4, .arr 2 1 j15.length (j15.map (eI .i64))), (30, .arr 3 1 x10.length (x10.map (eI .i64)))]⟩ ?_
  refine SRun.nil ?_
  replace h := Option.some.inj h
  subst h
  exact q_l (Le.sub0)
  replace h := cond_f hb h
  refine swp_exit ?_
  replace h := Option.some.inj h
  subst h
  exact nx_e (q_re (q_bh (q_j (Le.sub0))))
  refine swp_seq ?_
  refine swp_reg ?_
  refine SRun.ck tbok 3 ⟨52, [(2, .own 4), (3, vi 0)], [(4, .arr 2 1 j11.length (j11.map (eI .i64)))]⟩ ?_
  refine SRun.nil ?_
  refine nx_n ?_
  refine swp_ret ?_
  replace h := Option.some.inj h
  subst h
  exact q_fr (fin2 (by kernel_rfl) (finO (d := 4) (holds_t (by kernel_rfl)) (by kernel_rfl) (flat_map (eI_flat .i64) _) (by kernel_rfl)) (finV rfl SV.flat_of (holds_t (by kernel_rfl))))
theorem ents16 : Ents Try.prog 16 := ents_of Try.func16 (by kernel_rfl) rfl
noncomputable def laws_eqInt64S (aA : (List Int)) (aB : (List Int)) : Option (Bool) :=
  (bif ((aA.length : Int) != (aB.length : Int)) then some false else (((forN (aA.length : Int) (fun (i3 : Int) (_ : Unit) => ((at' aA i3).bind fun x7 => ((at' aB i3).bind fun x8 => (bif (x7 != x8) then some (.inr (.inr false)) else some (.inl ()))))) (fun (_ : Unit) => .inl ()) 0 ())).bind (Sum.elim (fun (_ : Unit) => some true) some)))
set_option maxRecDepth 100000 in
set_option maxHeartbeats 4000000 in
theorem laws_eqInt64S_run (aA : (List Int)) (aB : (List Int)) (r : Bool) (h : laws_eqInt64S aA aB = some r) : SCall Try.prog 10 [.v (vl (eI .i64) aA), .v (vl (eI .i64) aB)] ⟨[.v (vb r)], [], false⟩ := by
  refine scall_in Try.func10 rfl [(.tmp 4)] rfl (fun r => ⟨[.v (vb r)], [], false⟩) (r := r) ?_
  unfold laws_eqInt64S at h
  refine swp_seq ?_
  refine swp_reg ?_
  refine SRun.ck tbok 1 ⟨26, [(0, vl (eI .i64) aA), (1, vl (eI .i64) aB)], []⟩ ?_
  refine SRun.nil ?_
  refine nx_n ?_
  refine swp_seq ?_
  refine swp_seq ?_
  refine swp_reg ?_
  refine SRun.ck tbok 5 ⟨26, [(0, vl (eI .i64) aA), (1, vl (eI .i64) aB), (10, vb ((aA.length : Int) != (aB.length : Int)))], []⟩ ?_
  refine SRun.nil ?_
  refine nx_n ?_
  refine swp_cond (b := ((aA.length : Int) != (aB.length : Int))) (by kernel_rfl) (fun hb => ?_) (fun hb => ?_)
  replace h := cond_t hb h
  refine swp_seq ?_
  refine swp_reg ?_
  refine SRun.ck tbok 1 ⟨26, [(4, vb false)], []⟩ ?_
  refine SRun.nil ?_
  refine nx_n ?_
  refine swp_ret ?_
  replace h := Option.some.inj h
  subst h
  exact nx_r (q_fr (fin1 (by kernel_rfl) (finV rfl SV.flat_of (holds_t (by kernel_rfl)))))
  replace h := cond_f hb h
  refine swp_skip ?_
  refine nx_n ?_
  refine swp_seq ?_
  refine swp_seq ?_
  refine swp_reg ?_
  refine SRun.ck tbok 1 ⟨26, [(0, vl (eI .i64) aA), (1, vl (eI .i64) aB), (5, vi 0)], []⟩ ?_
  refine SRun.nil ?_
  refine nx_n ?_
  refine swp_seqE (r := r) h (fun j1 => ⟨26, [], []⟩) (fun v2 h => ?_) (fun j1 h => ?_)
  refine swp_blk (a := v2) ?_
  refine swp_lpL (r := v2) (s := (0, ())) _ (fun s3 => ⟨26, [(0, vl (eI .i64) aA), (1, vl (eI .i64) aB), (5, vi s3.1)], []⟩) _ (Le.sub0) h (fun s3 v4 h => ?_)
  refine swp_seq ?_
  refine swp_seq ?_
  refine swp_reg ?_
  refine SRun.ck tbok 4 ⟨26, [(0, vl (eI .i64) aA), (1, vl (eI .i64) aB), (5, vi s3.1), (14, vb (decide (s3.1 < (aA.length : Int))))], []⟩ ?_
  refine SRun.nil ?_
  refine nx_n ?_
  refine swp_cond (b := (decide (s3.1 < (aA.length : Int)))) (by kernel_rfl) (fun hb => ?_) (fun hb => ?_)
  replace h := cond_t hb h
  refine swp_skip ?_
  refine nx_n ?_
  refine swp_seq ?_
  refine swp_seqL (r := v4) h (fun j5 => ⟨26, [(0, vl (eI .i64) aA), (1, vl (eI .i64) aB), (5, vi s3.1)], []⟩) (fun v6 h => ?_) (fun j5 h => ?_)
  refine swp_blk (a := v6) ?_
  refine swp_seq ?_
  refine swp_dr mixed ?_
  refine DGo.chunk' tbok 2 (σ' := ⟨26, [(18, vi s3.1), (17, vl (eI .i64) aA), (0, vl (eI .i64) aA), (1, vl (eI .i64) aB), (5, vi s3.1), (14, vb (decide (s3.1 < (aA.length : Int))))], []⟩) (by kernel_rfl) ?_
  obtain ⟨x7, hx7, h⟩ := bind_some h
  refine DGo.step (x_index (L := aA) (f := (eI .i64)) (ti := ti24) (tj := ti2) (e := 2) (k := .i64) tbok rfl hx7) ?_
  refine DGo.chunk' tbok 3 (σ' := ⟨26, [(22, vi s3.1), (21, vl (eI .i64) aB), (20, vi x7), (19, .ptr (((eI .i64) x7).map .tr) 0), (18, vi s3.1), (17, vl (eI .i64) aA), (0, vl (eI .i64) aA), (1, vl (eI .i64) aB), (5, vi s3.1), (14, vb (decide (s3.1 < (aA.length : Int))))], []⟩) (by kernel_rfl) ?_
  obtain ⟨x8, hx8, h⟩ := bind_some h
  refine DGo.step (x_index (L := aB) (f := (eI .i64)) (ti := ti24) (tj := ti2) (e := 2) (k := .i64) tbok rfl hx8) ?_
  refine DGo.chunk' tbok 2 (σ' := ⟨26, [(25, vb (x7 != x8)), (24, vi x8), (23, .ptr (((eI .i64) x8).map .tr) 0), (22, vi s3.1), (21, vl (eI .i64) aB), (20, vi x7), (19, .ptr (((eI .i64) x7).map .tr) 0), (18, vi s3.1), (17, vl (eI .i64) aA), (0, vl (eI .i64) aA), (1, vl (eI .i64) aB), (5, vi s3.1), (14, vb (decide (s3.1 < (aA.length : Int))))], []⟩) (by kernel_rfl) ?_
  refine DGo.nil (by kernel_rfl) ?_
  refine nx_n ?_
  refine swp_cond (b := (x7 != x8)) (by kernel_rfl) (fun hb => ?_) (fun hb => ?_)
  replace h := cond_t hb h
  refine swp_seq ?_
  refine swp_reg ?_
  refine SRun.ck tbok 1 ⟨26, [(4, vb false)], []⟩ ?_
  refine SRun.nil ?_
  refine nx_n ?_
  refine swp_ret ?_
  replace h := Option.some.inj h
  subst h
  exact q_br (q_rr (q_rr (q_br (q_rr (q_fr (fin1 (by kernel_rfl) (finV rfl SV.flat_of (holds_t (by kernel_rfl)))))))))
  replace h := cond_f hb h
  refine swp_skip ?_
  replace h := Option.some.inj h
  subst h
  exact q_bn (q_l (Le.sub0))
  refine swp_reg ?_
  refine SRun.ck tbok 3 ⟨26, [(0, vl (eI .i64) aA), (1, vl (eI .i64) aB), (5, vi (w64 (s3.1 + 1)))], []⟩ ?_
  refine SRun.nil ?_
  replace h := Option.some.inj h
  subst h
  exact q_l (Le.sub0)
  replace h := cond_f hb h
  refine swp_exit ?_
  replace h := Option.some.inj h
  subst h
  exact nx_e (q_re (q_bh (q_l (Le.sub0))))
  refine swp_seq ?_
  refine swp_reg ?_
  refine SRun.ck tbok 1 ⟨26, [(4, vb true)], []⟩ ?_
  refine SRun.nil ?_
  refine nx_n ?_
  refine swp_ret ?_
  replace h := Option.some.inj h
  subst h
  exact q_fr (fin1 (by kernel_rfl) (finV rfl SV.flat_of (holds_t (by kernel_rfl))))
theorem ents10 : Ents Try.prog 10 := ents_of Try.func10 (by kernel_rfl) rfl
noncomputable def laws_eqPoint (aA : Point) (aB : Point) : Option (Bool) :=
  (bif (aA.X != aB.X) then some false else (bif (aA.Y != aB.Y) then some false else some true))
set_option maxRecDepth 100000 in
set_option maxHeartbeats 4000000 in
theorem laws_eqPoint_run (aA : Point) (aB : Point) (r : Bool) (h : laws_eqPoint aA aB = some r) : SCall Try.prog 61 [.v (.agg [vi aA.X, vi aA.Y]), .v (.agg [vi aB.X, vi aB.Y])] ⟨[.v (vb r)], [], false⟩ := by
  refine scall_in Try.func61 rfl [(.tmp 4)] rfl (fun r => ⟨[.v (vb r)], [], false⟩) (r := r) ?_
  unfold laws_eqPoint at h
  refine swp_seq ?_
  refine swp_reg ?_
  refine SRun.ck tbok 3 ⟨15, [(2, .ref 2 0), (3, .ref 3 0)], [(2, .box [vi aA.X, vi aA.Y]), (3, .box [vi aB.X, vi aB.Y])]⟩ ?_
  refine SRun.nil ?_
  refine nx_n ?_
  refine swp_seq ?_
  refine swp_seq ?_
  refine swp_reg ?_
  refine SRun.ck tbok 5 ⟨15, [(2, .ref 2 0), (3, .ref 3 0), (9, vb (aA.X != aB.X))], [(2, .box [vi aA.X, vi aA.Y]), (3, .box [vi aB.X, vi aB.Y])]⟩ ?_
  refine SRun.nil ?_
  refine nx_n ?_
  refine swp_cond (b := (aA.X != aB.X)) (by kernel_rfl) (fun hb => ?_) (fun hb => ?_)
  replace h := cond_t hb h
  refine swp_seq ?_
  refine swp_reg ?_
  refine SRun.ck tbok 1 ⟨15, [(4, vb false)], []⟩ ?_
  refine SRun.nil ?_
  refine nx_n ?_
  refine swp_ret ?_
  replace h := Option.some.inj h
  subst h
  exact nx_r (q_fr (fin1 (by kernel_rfl) (finV rfl SV.flat_of (holds_t (by kernel_rfl)))))
  replace h := cond_f hb h
  refine swp_skip ?_
  refine nx_n ?_
  refine swp_seq ?_
  refine swp_seq ?_
  refine swp_reg ?_
  refine SRun.ck tbok 5 ⟨15, [(14, vb (aA.Y != aB.Y))], []⟩ ?_
  refine SRun.nil ?_
  refine nx_n ?_
  refine swp_cond (b := (aA.Y != aB.Y)) (by kernel_rfl) (fun hb => ?_) (fun hb => ?_)
  replace h := cond_t hb h
  refine swp_seq ?_
  refine swp_reg ?_
  refine SRun.ck tbok 1 ⟨15, [(4, vb false)], []⟩ ?_
  refine SRun.nil ?_
  refine nx_n ?_
  refine swp_ret ?_
  replace h := Option.some.inj h
  subst h
  exact nx_r (q_fr (fin1 (by kernel_rfl) (finV rfl SV.flat_of (holds_t (by kernel_rfl)))))
  replace h := cond_f hb h
  refine swp_skip ?_
  refine nx_n ?_
  refine swp_seq ?_
  refine swp_reg ?_
  refine SRun.ck tbok 1 ⟨15, [(4, vb true)], []⟩ ?_
  refine SRun.nil ?_
  refine nx_n ?_
  refine swp_ret ?_
  replace h := Option.some.inj h
  subst h
  exact q_fr (fin1 (by kernel_rfl) (finV rfl SV.flat_of (holds_t (by kernel_rfl))))
theorem ents61 : Ents Try.prog 61 := ents_of Try.func61 (by kernel_rfl) rfl
noncomputable def laws_eqLabel (aA : Label) (aB : Label) : Option (Bool) :=
  ((laws_eqPoint aA.At aB.At).bind fun x1 => (bif (!x1) then some false else (bif (aA.Length != aB.Length) then some false else (bif (aA.Priority != aB.Priority) then some false else some true))))
set_option maxRecDepth 100000 in
set_option maxHeartbeats 4000000 in
theorem laws_eqLabel_run (aA : Label) (aB : Label) (r : Bool) (h : laws_eqLabel aA aB = some r) : SCall Try.prog 37 [.v (.agg [vi aA.At.X, vi aA.At.Y, vi aA.Length, vi aA.Priority]), .v (.agg [vi aB.At.X, vi aB.At.Y, vi aB.Length, vi aB.Priority])] ⟨[.v (vb r)], [], false⟩ := by
  refine scall_in Try.func37 rfl [(.tmp 4)] rfl (fun r => ⟨[.v (vb r)], [], false⟩) (r := r) ?_
  unfold laws_eqLabel at h
  refine swp_seq ?_
  refine swp_reg ?_
  refine SRun.ck tbok 3 ⟨21, [(2, .ref 2 0), (3, .ref 3 0)], [(2, .box [vi aA.At.X, vi aA.At.Y, vi aA.Length, vi aA.Priority]), (3, .box [vi aB.At.X, vi aB.At.Y, vi aB.Length, vi aB.Priority])]⟩ ?_
  refine SRun.nil ?_
  refine nx_n ?_
  refine swp_seq ?_
  refine swp_seq ?_
  refine swp_reg ?_
  refine SRun.ck tbok 4 ⟨21, [(2, .ref 2 0), (3, .ref 3 0), (6, .agg [vi aA.At.X, vi aA.At.Y]), (8, .agg [vi aB.At.X, vi aB.At.Y])], [(2, .box [vi aA.At.X, vi aA.At.Y, vi aA.Length, vi aA.Priority]), (3, .box [vi aB.At.X, vi aB.At.Y, vi aB.Length, vi aB.Priority])]⟩ ?_
  obtain ⟨x1, hx1, h⟩ := bind_some h
  refine SRun.ls (x_lstep_call (f := 61) (caps := []) (xs := [.agg [vi aA.At.X, vi aA.At.Y], .agg [vi aB.At.X, vi aB.At.Y]]) (ys := [.agg [vi aA.At.X, vi aA.At.Y], .agg [vi aB.At.X, vi aB.At.Y]]) (res := ⟨[.v (vb x1)], [], false⟩) (x := vb x1) (y := none) rfl ents61 (laws_eqPoint_run aA.At aB.At _ hx1) rfl (by intro hc; cases hc)) ?_
  refine SRun.ck tbok 1 ⟨21, [(2, .ref 2 0), (3, .ref 3 0), (10, vb (!x1))], [(2, .box [vi aA.At.X, vi aA.At.Y, vi aA.Length, vi aA.Priority]), (3, .box [vi aB.At.X, vi aB.At.Y, vi aB.Length, vi aB.Priority])]⟩ ?_
  refine SRun.nil ?_
  refine nx_n ?_
  refine swp_cond (b := (!x1)) (by kernel_rfl) (fun hb => ?_) (fun hb => ?_)
  replace h := cond_t hb h
  refine swp_seq ?_
  refine swp_reg ?_
  refine SRun.ck tbok 1 ⟨21, [(4, vb false)], []⟩ ?_
  refine SRun.nil ?_
  refine nx_n ?_
  refine swp_ret ?_
  replace h := Option.some.inj h
  subst h
  exact nx_r (q_fr (fin1 (by kernel_rfl) (finV rfl SV.flat_of (holds_t (by kernel_rfl)))))
  replace h := cond_f hb h
  refine swp_skip ?_
  refine nx_n ?_
  refine swp_seq ?_
  refine swp_seq ?_
  refine swp_reg ?_
  refine SRun.ck tbok 5 ⟨21, [(2, .ref 2 0), (3, .ref 3 0), (15, vb (aA.Length != aB.Length))], [(2, .box [vi aA.At.X, vi aA.At.Y, vi aA.Length, vi aA.Priority]), (3, .box [vi aB.At.X, vi aB.At.Y, vi aB.Length, vi aB.Priority])]⟩ ?_
  refine SRun.nil ?_
  refine nx_n ?_
  refine swp_cond (b := (aA.Length != aB.Length)) (by kernel_rfl) (fun hb => ?_) (fun hb => ?_)
  replace h := cond_t hb h
  refine swp_seq ?_
  refine swp_reg ?_
  refine SRun.ck tbok 1 ⟨21, [(4, vb false)], []⟩ ?_
  refine SRun.nil ?_
  refine nx_n ?_
  refine swp_ret ?_
  replace h := Option.some.inj h
  subst h
  exact nx_r (q_fr (fin1 (by kernel_rfl) (finV rfl SV.flat_of (holds_t (by kernel_rfl)))))
  replace h := cond_f hb h
  refine swp_skip ?_
  refine nx_n ?_
  refine swp_seq ?_
  refine swp_seq ?_
  refine swp_reg ?_
  refine SRun.ck tbok 5 ⟨21, [(20, vb (aA.Priority != aB.Priority))], []⟩ ?_
  refine SRun.nil ?_
  refine nx_n ?_
  refine swp_cond (b := (aA.Priority != aB.Priority)) (by kernel_rfl) (fun hb => ?_) (fun hb => ?_)
  replace h := cond_t hb h
  refine swp_seq ?_
  refine swp_reg ?_
  refine SRun.ck tbok 1 ⟨21, [(4, vb false)], []⟩ ?_
  refine SRun.nil ?_
  refine nx_n ?_
  refine swp_ret ?_
  replace h := Option.some.inj h
  subst h
  exact nx_r (q_fr (fin1 (by kernel_rfl) (finV rfl SV.flat_of (holds_t (by kernel_rfl)))))
  replace h := cond_f hb h
  refine swp_skip ?_
  refine nx_n ?_
  refine swp_seq ?_
  refine swp_reg ?_
  refine SRun.ck tbok 1 ⟨21, [(4, vb true)], []⟩ ?_
  refine SRun.nil ?_
  refine nx_n ?_
  refine swp_ret ?_
  replace h := Option.some.inj h
  subst h
  exact q_fr (fin1 (by kernel_rfl) (finV rfl SV.flat_of (holds_t (by kernel_rfl))))
theorem ents37 : Ents Try.prog 37 := ents_of Try.func37 (by kernel_rfl) rfl
noncomputable def laws_eqLabelS (aA : (List Label)) (aB : (List Label)) : Option (Bool) :=
  (bif ((aA.length : Int) != (aB.length : Int)) then some false else (((forN (aA.length : Int) (fun (i3 : Int) (_ : Unit) => ((at' aA i3).bind fun x7 => ((at' aB i3).bind fun x8 => ((laws_eqLabel x7 x8).bind fun x9 => (bif (!x9) then some (.inr (.inr false)) else some (.inl ())))))) (fun (_ : Unit) => .inl ()) 0 ())).bind (Sum.elim (fun (_ : Unit) => some true) some)))
set_option maxRecDepth 100000 in
set_option maxHeartbeats 4000000 in
theorem laws_eqLabelS_run (aA : (List Label)) (aB : (List Label)) (r : Bool) (h : laws_eqLabelS aA aB = some r) : SCall Try.prog 11 [.v (vl eLabel aA), .v (vl eLabel aB)] ⟨[.v (vb r)], [], false⟩ := by
  refine scall_in Try.func11 rfl [(.tmp 4)] rfl (fun r => ⟨[.v (vb r)], [], false⟩) (r := r) ?_
  unfold laws_eqLabelS at h
  refine swp_seq ?_
  refine swp_reg ?_
  refine SRun.ck tbok 1 ⟨27, [(0, vl eLabel aA), (1, vl eLabel aB)], []⟩ ?_
  refine SRun.nil ?_
  refine nx_n ?_
  refine swp_seq ?_
  refine swp_seq ?_
  refine swp_reg ?_
  refine SRun.ck tbok 5 ⟨27, [(0, vl eLabel aA), (1, vl eLabel aB), (10, vb ((aA.length : Int) != (aB.length : Int)))], []⟩ ?_
  refine SRun.nil ?_
  refine nx_n ?_
  refine swp_cond (b := ((aA.length : Int) != (aB.length : Int))) (by kernel_rfl) (fun hb => ?_) (fun hb => ?_)
  replace h := cond_t hb h
  refine swp_seq ?_
  refine swp_reg ?_
  refine SRun.ck tbok 1 ⟨27, [(4, vb false)], []⟩ ?_
  refine SRun.nil ?_
  refine nx_n ?_
  refine swp_ret ?_
  replace h := Option.some.inj h
  subst h
  exact nx_r (q_fr (fin1 (by kernel_rfl) (finV rfl SV.flat_of (holds_t (by kernel_rfl)))))
  replace h := cond_f hb h
  refine swp_skip ?_
  refine nx_n ?_
  refine swp_seq ?_
  refine swp_seq ?_
  refine swp_reg ?_
  refine SRun.ck tbok 1 ⟨27, [(0, vl eLabel aA), (1, vl eLabel aB), (5, vi 0)], []⟩ ?_
  refine SRun.nil ?_
  refine nx_n ?_
  refine swp_seqE (r := r) h (fun j1 => ⟨27, [], []⟩) (fun v2 h => ?_) (fun j1 h => ?_)
  refine swp_blk (a := v2) ?_
  refine swp_lpL (r := v2) (s := (0, ())) _ (fun s3 => ⟨27, [(0, vl eLabel aA), (1, vl eLabel aB), (5, vi s3.1)], []⟩) _ (Le.sub0) h (fun s3 v4 h => ?_)
  refine swp_seq ?_
  refine swp_seq ?_
  refine swp_reg ?_
  refine SRun.ck tbok 4 ⟨27, [(0, vl eLabel aA), (1, vl eLabel aB), (5, vi s3.1), (14, vb (decide (s3.1 < (aA.length : Int))))], []⟩ ?_
  refine SRun.nil ?_
  refine nx_n ?_
  refine swp_cond (b := (decide (s3.1 < (aA.length : Int)))) (by kernel_rfl) (fun hb => ?_) (fun hb => ?_)
  replace h := cond_t hb h
  refine swp_skip ?_
  refine nx_n ?_
  refine swp_seq ?_
  refine swp_seqL (r := v4) h (fun j5 => ⟨27, [(0, vl eLabel aA), (1, vl eLabel aB), (5, vi s3.1)], []⟩) (fun v6 h => ?_) (fun j5 h => ?_)
  refine swp_blk (a := v6) ?_
  refine swp_seq ?_
  refine swp_dr mixed ?_
  refine DGo.chunk' tbok 2 (σ' := ⟨27, [(18, vi s3.1), (17, vl eLabel aA), (0, vl eLabel aA), (1, vl eLabel aB), (5, vi s3.1), (14, vb (decide (s3.1 < (aA.length : Int))))], []⟩) (by kernel_rfl) ?_
  obtain ⟨x7, hx7, h⟩ := bind_some h
  refine DGo.step (x_index (L := aA) (f := eLabel) (ti := ti27) (tj := ti52) (e := 52) (k := .i64) tbok rfl hx7) ?_
  refine DGo.chunk' tbok 3 (σ' := ⟨27, [(22, vi s3.1), (21, vl eLabel aB), (20, .agg [vi x7.At.X, vi x7.At.Y, vi x7.Length, vi x7.Priority]), (19, .ptr ((eLabel x7).map .tr) 0), (18, vi s3.1), (17, vl eLabel aA), (0, vl eLabel aA), (1, vl eLabel aB), (5, vi s3.1), (14, vb (decide (s3.1 < (aA.length : Int))))], []⟩) (by kernel_rfl) ?_
  obtain ⟨x8, hx8, h⟩ := bind_some h
  refine DGo.step (x_index (L := aB) (f := eLabel) (ti := ti27) (tj := ti52) (e := 52) (k := .i64) tbok rfl hx8) ?_
  refine DGo.chunk' tbok 1 (σ' := ⟨27, [(24, .agg [vi x8.At.X, vi x8.At.Y, vi x8.Length, vi x8.Priority]), (23, .ptr ((eLabel x8).map .tr) 0), (22, vi s3.1), (21, vl eLabel aB), (20, .agg [vi x7.At.X, vi x7.At.Y, vi x7.Length, vi x7.Priority]), (19, .ptr ((eLabel x7).map .tr) 0), (18, vi s3.1), (17, vl eLabel aA), (0, vl eLabel aA), (1, vl eLabel aB), (5, vi s3.1), (14, vb (decide (s3.1 < (aA.length : Int))))], []⟩) (by kernel_rfl) ?_
  obtain ⟨x9, hx9, h⟩ := bind_some h
  refine DGo.step (x_lstep_call (f := 37) (caps := []) (xs := [.agg [vi x7.At.X, vi x7.At.Y, vi x7.Length, vi x7.Priority], .agg [vi x8.At.X, vi x8.At.Y, vi x8.Length, vi x8.Priority]]) (ys := [.agg [vi x7.At.X, vi x7.At.Y, vi x7.Length, vi x7.Priority], .agg [vi x8.At.X, vi x8.At.Y, vi x8.Length, vi x8.Priority]]) (res := ⟨[.v (vb x9)], [], false⟩) (x := vb x9) (y := none) rfl ents37 (laws_eqLabel_run x7 x8 _ hx9) rfl (by intro hc; cases hc)) ?_
  refine DGo.chunk' tbok 1 (σ' := ⟨27, [(26, vb (!x9)), (25, vb x9), (24, .agg [vi x8.At.X, vi x8.At.Y, vi x8.Length, vi x8.Priority]), (23, .ptr ((eLabel x8).map .tr) 0), (22, vi s3.1), (21, vl eLabel aB), (20, .agg [vi x7.At.X, vi x7.At.Y, vi x7.Length, vi x7.Priority]), (19, .ptr ((eLabel x7).map .tr) 0), (18, vi s3.1), (17, vl eLabel aA), (0, vl eLabel aA), (1, vl eLabel aB), (5, vi s3.1), (14, vb (decide (s3.1 < (aA.length : Int))))], []⟩) (by kernel_rfl) ?_
  refine DGo.nil (by kernel_rfl) ?_
  refine nx_n ?_
  refine swp_cond (b := (!x9)) (by kernel_rfl) (fun hb => ?_) (fun hb => ?_)
  replace h := cond_t hb h
  refine swp_seq ?_
  refine swp_reg ?_
  refine SRun.ck tbok 1 ⟨27, [(4, vb false)], []⟩ ?_
  refine SRun.nil ?_
  refine nx_n ?_
  refine swp_ret ?_
  replace h := Option.some.inj h
  subst h
  exact q_br (q_rr (q_rr (q_br (q_rr (q_fr (fin1 (by kernel_rfl) (finV rfl SV.flat_of (holds_t (by kernel_rfl)))))))))
  replace h := cond_f hb h
  refine swp_skip ?_
  replace h := Option.some.inj h
  subst h
  exact q_bn (q_l (Le.sub0))
  refine swp_reg ?_
  refine SRun.ck tbok 3 ⟨27, [(0, vl eLabel aA), (1, vl eLabel aB), (5, vi (w64 (s3.1 + 1)))], []⟩ ?_
  refine SRun.nil ?_
  replace h := Option.some.inj h
  subst h
  exact q_l (Le.sub0)
  replace h := cond_f hb h
  refine swp_exit ?_
  replace h := Option.some.inj h
  subst h
  exact nx_e (q_re (q_bh (q_l (Le.sub0))))
  refine swp_seq ?_
  refine swp_reg ?_
  refine SRun.ck tbok 1 ⟨27, [(4, vb true)], []⟩ ?_
  refine SRun.nil ?_
  refine nx_n ?_
  refine swp_ret ?_
  replace h := Option.some.inj h
  subst h
  exact q_fr (fin1 (by kernel_rfl) (finV rfl SV.flat_of (holds_t (by kernel_rfl))))
theorem ents11 : Ents Try.prog 11 := ents_of Try.func11 (by kernel_rfl) rfl
noncomputable def laws_markLabelS (aA : (List Label)) (aK : Int) : Option (Int × (List Label)) :=
  (((forH (fun (i3 : Int) (s3 : Int × (List Label)) => (decide (i3 < (s3.2.length : Int)))) (fun (i3 : Int) (s3 : Int × (List Label)) => ((at' s3.2 i3).bind fun x7 => ((at' (List.set s3.2 (Int.toNat i3) (Label.mk (Point.mk s3.1 x7.At.Y) x7.Length x7.Priority)) i3).bind fun x8 => ((at' (List.set (List.set s3.2 (Int.toNat i3) (Label.mk (Point.mk s3.1 x7.At.Y) x7.Length x7.Priority)) (Int.toNat i3) (Label.mk (Point.mk x8.At.X (w64 (s3.1 + 1))) x8.Length x8.Priority)) i3).bind fun x9 => ((at' (List.set (List.set (List.set s3.2 (Int.toNat i3) (Label.mk (Point.mk s3.1 x7.At.Y) x7.Length x7.Priority)) (Int.toNat i3) (Label.mk (Point.mk x8.At.X (w64 (s3.1 + 1))) x8.Length x8.Priority)) (Int.toNat i3) (Label.mk x9.At (w64 ((w64 (s3.1 + 1)) + 1)) x9.Priority)) i3).bind fun x10 => some ((w64 ((w64 ((w64 ((w64 (s3.1 + 1)) + 1)) + 1)) + 1)), (List.set (List.set (List.set (List.set s3.2 (Int.toNat i3) (Label.mk (Point.mk s3.1 x7.At.Y) x7.Length x7.Priority)) (Int.toNat i3) (Label.mk (Point.mk x8.At.X (w64 (s3.1 + 1))) x8.Length x8.Priority)) (Int.toNat i3) (Label.mk x9.At (w64 ((w64 (s3.1 + 1)) + 1)) x9.Priority)) (Int.toNat i3) (Label.mk x10.At x10.Length (w64 ((w64 ((w64 (s3.1 + 1)) + 1)) + 1)))))))))) (fun (s3 : Int × (List Label)) => (s3.1, s3.2)) 0 (aK, aA))).bind fun (j1 : Int × (List Label)) => some (j1.1, j1.2))
set_option maxRecDepth 100000 in
set_option maxHeartbeats 4000000 in
theorem laws_markLabelS_run (aA : (List Label)) (aK : Int) (r : Int × (List Label)) (h : laws_markLabelS aA aK = some r) : SCall Try.prog 12 [.o (.arr 52 4 aA.length (aA.map eLabel)), .v (vi aK)] ⟨[.v (vi r.1)], [(0, .arr 52 4 r.2.length (r.2.map eLabel))], false⟩ := by
  refine scall_in Try.func12 rfl [(.tmp 4)] rfl (fun r => ⟨[.v (vi r.1)], [(0, .arr 52 4 r.2.length (r.2.map eLabel))], false⟩) (r := r) ?_
  unfold laws_markLabelS at h
  refine swp_seq ?_
  refine swp_reg ?_
  refine SRun.ck tbok 1 ⟨43, [(0, .own 1000000), (1, vi aK)], [(1000000, .arr 52 4 aA.length (aA.map eLabel))]⟩ ?_
  refine SRun.nil ?_
  refine nx_n ?_
  refine swp_seq ?_
  refine swp_seq ?_
  refine swp_reg ?_
  refine SRun.ck tbok 1 ⟨43, [(0, .own 1000000), (1, vi aK), (5, vi 0)], [(1000000, .arr 52 4 aA.length (aA.map eLabel))]⟩ ?_
  refine SRun.nil ?_
  refine nx_n ?_
  refine swp_seqJ h (fun j1 => ⟨43, [(1, vi j1.1)], [(1000000, .arr 52 4 j1.2.length (j1.2.map eLabel))]⟩) (fun v2 h => ?_) (fun j1 h => ?_)
  refine swp_blk (a := v2) ?_
  refine swp_lpL (r := v2) (s := (0, aK, aA)) _ (fun s3 => ⟨43, [(0, .own 1000000), (1, vi s3.2.1), (5, vi s3.1)], [(1000000, .arr 52 4 s3.2.2.length (s3.2.2.map eLabel))]⟩) _ (Le.sub0) h (fun s3 v4 h => ?_)
  refine swp_seq ?_
  refine swp_seq ?_
  refine swp_reg ?_
  refine SRun.ck tbok 4 ⟨43, [(0, .own 1000000), (1, vi s3.2.1), (5, vi s3.1), (9, vb (decide (s3.1 < (s3.2.2.length : Int))))], [(1000000, .arr 52 4 s3.2.2.length (s3.2.2.map eLabel))]⟩ ?_
  refine SRun.nil ?_
  refine nx_n ?_
  refine swp_cond (b := (decide (s3.1 < (s3.2.2.length : Int)))) (by kernel_rfl) (fun hb => ?_) (fun hb => ?_)
  replace h := cond_t hb h
  refine swp_skip ?_
  refine nx_n ?_
  refine swp_seq ?_
  refine swp_seqJ h (fun j5 => ⟨43, [(0, .own 1000000), (1, vi j5.1), (5, vi s3.1)], [(1000000, .arr 52 4 j5.2.length (j5.2.map eLabel))]⟩) (fun v6 h => ?_) (fun j5 h => ?_)
  refine swp_blk (a := v6) ?_
  refine swp_seq ?_
  refine swp_reg ?_
  refine SRun.ck tbok 3 ⟨43, [(0, .own 1000000), (1, vi s3.2.1), (5, vi s3.1), (12, .own 1000000), (13, vi s3.1), (14, vi s3.2.1)], [(1000000, .arr 52 4 s3.2.2.length (s3.2.2.map eLabel))]⟩ ?_
  obtain ⟨x7, hx7, h⟩ := bind_some h
  refine SRun.ls (x_index_own (d := 1000000) (L := s3.2.2) (f := eLabel) (ti := ti27) (tj := ti52) (e := 52) (e' := 52) (m := 4) (k := .i64) tbok rfl hx7) ?_
  refine SRun.ck tbok 2 ⟨43, [(0, .own 1000000), (1, vi s3.2.1), (5, vi s3.1), (14, vi s3.2.1), (17, .eref 1000000 4 (Int.toNat s3.1) 0)], [(1000000, .arr 52 4 s3.2.2.length (s3.2.2.map eLabel))]⟩ ?_
  refine SRun.estep (x_store_own (d := 1000000) (m := 4) (j := 0) (L := s3.2.2) (f := eLabel) (x := (Label.mk (Point.mk s3.2.1 x7.At.Y) x7.Length x7.Priority)) (z := x7) (ti := ti2) (e := 52) (ts := [.int .i64 s3.2.1]) (vs := [vi s3.2.1]) (v := vi s3.2.1) tbok rfl rfl hx7) ?_
  refine SRun.nil ?_
  refine nx_n ?_
  refine swp_seq ?_
  refine swp_reg ?_
  refine SRun.ck tbok 3 ⟨43, [(0, .own 1000000), (1, vi (w64 (s3.2.1 + 1))), (5, vi s3.1)], [(1000000, .arr 52 4 (List.set s3.2.2 (Int.toNat s3.1) (Label.mk (Point.mk s3.2.1 x7.At.Y) x7.Length x7.Priority)).length ((List.set s3.2.2 (Int.toNat s3.1) (Label.mk (Point.mk s3.2.1 x7.At.Y) x7.Length x7.Priority)).map eLabel))]⟩ ?_
  refine SRun.nil ?_
  refine nx_n ?_
  refine swp_seq ?_
  refine swp_reg ?_
  refine SRun.ck tbok 3 ⟨43, [(0, .own 1000000), (1, vi (w64 (s3.2.1 + 1))), (5, vi s3.1), (20, .own 1000000), (21, vi s3.1), (22, vi (w64 (s3.2.1 + 1)))], [(1000000, .arr 52 4 (List.set s3.2.2 (Int.toNat s3.1) (Label.mk (Point.mk s3.2.1 x7.At.Y) x7.Length x7.Priority)).length ((List.set s3.2.2 (Int.toNat s3.1) (Label.mk (Point.mk s3.2.1 x7.At.Y) x7.Length x7.Priority)).map eLabel))]⟩ ?_
  obtain ⟨x8, hx8, h⟩ := bind_some h
  refine SRun.ls (x_index_own (d := 1000000) (L := (List.set s3.2.2 (Int.toNat s3.1) (Label.mk (Point.mk s3.2.1 x7.At.Y) x7.Length x7.Priority))) (f := eLabel) (ti := ti27) (tj := ti52) (e := 52) (e' := 52) (m := 4) (k := .i64) tbok rfl hx8) ?_
  refine SRun.ck tbok 2 ⟨43, [(0, .own 1000000), (1, vi (w64 (s3.2.1 + 1))), (5, vi s3.1), (22, vi (w64 (s3.2.1 + 1))), (25, .eref 1000000 4 (Int.toNat s3.1) 1)], [(1000000, .arr 52 4 (List.set s3.2.2 (Int.toNat s3.1) (Label.mk (Point.mk s3.2.1 x7.At.Y) x7.Length x7.Priority)).length ((List.set s3.2.2 (Int.toNat s3.1) (Label.mk (Point.mk s3.2.1 x7.At.Y) x7.Length x7.Priority)).map eLabel))]⟩ ?_
  refine SRun.estep (x_store_own (d := 1000000) (m := 4) (j := 1) (L := (List.set s3.2.2 (Int.toNat s3.1) (Label.mk (Point.mk s3.2.1 x7.At.Y) x7.Length x7.Priority))) (f := eLabel) (x := (Label.mk (Point.mk x8.At.X (w64 (s3.2.1 + 1))) x8.Length x8.Priority)) (z := x8) (ti := ti2) (e := 52) (ts := [.int .i64 (w64 (s3.2.1 + 1))]) (vs := [vi (w64 (s3.2.1 + 1))]) (v := vi (w64 (s3.2.1 + 1))) tbok rfl rfl hx8) ?_
  refine SRun.nil ?_
  refine nx_n ?_
  refine swp_seq ?_
  refine swp_reg ?_
  refine SRun.ck tbok 3 ⟨43, [(0, .own 1000000), (1, vi (w64 ((w64 (s3.2.1 + 1)) + 1))), (5, vi s3.1)], [(1000000, .arr 52 4 (List.set (List.set s3.2.2 (Int.toNat s3.1) (Label.mk (Point.mk s3.2.1 x7.At.Y) x7.Length x7.Priority)) (Int.toNat s3.1) (Label.mk (Point.mk x8.At.X (w64 (s3.2.1 + 1))) x8.Length x8.Priority)).length ((List.set (List.set s3.2.2 (Int.toNat s3.1) (Label.mk (Point.mk s3.2.1 x7.At.Y) x7.Length x7.Priority)) (Int.toNat s3.1) (Label.mk (Point.mk x8.At.X (w64 (s3.2.1 + 1))) x8.Length x8.Priority)).map eLabel))]⟩ ?_
  refine SRun.nil ?_
  refine nx_n ?_
  refine swp_seq ?_
  refine swp_reg ?_
  refine SRun.ck tbok 3 ⟨43, [(0, .own 1000000), (1, vi (w64 ((w64 (s3.2.1 + 1)) + 1))), (5, vi s3.1), (28, .own 1000000), (29, vi s3.1), (30, vi (w64 ((w64 (s3.2.1 + 1)) + 1)))], [(1000000, .arr 52 4 (List.set (List.set s3.2.2 (Int.toNat s3.1) (Label.mk (Point.mk s3.2.1 x7.At.Y) x7.Length x7.Priority)) (Int.toNat s3.1) (Label.mk (Point.mk x8.At.X (w64 (s3.2.1 + 1))) x8.Length x8.Priority)).length ((List.set (List.set s3.2.2 (Int.toNat s3.1) (Label.mk (Point.mk s3.2.1 x7.At.Y) x7.Length x7.Priority)) (Int.toNat s3.1) (Label.mk (Point.mk x8.At.X (w64 (s3.2.1 + 1))) x8.Length x8.Priority)).map eLabel))]⟩ ?_
  obtain ⟨x9, hx9, h⟩ := bind_some h
  refine SRun.ls (x_index_own (d := 1000000) (L := (List.set (List.set s3.2.2 (Int.toNat s3.1) (Label.mk (Point.mk s3.2.1 x7.At.Y) x7.Length x7.Priority)) (Int.toNat s3.1) (Label.mk (Point.mk x8.At.X (w64 (s3.2.1 + 1))) x8.Length x8.Priority))) (f := eLabel) (ti := ti27) (tj := ti52) (e := 52) (e' := 52) (m := 4) (k := .i64) tbok rfl hx9) ?_
  refine SRun.ck tbok 1 ⟨43, [(0, .own 1000000), (1, vi (w64 ((w64 (s3.2.1 + 1)) + 1))), (5, vi s3.1), (30, vi (w64 ((w64 (s3.2.1 + 1)) + 1))), (32, .eref 1000000 4 (Int.toNat s3.1) 2)], [(1000000, .arr 52 4 (List.set (List.set s3.2.2 (Int.toNat s3.1) (Label.mk (Point.mk s3.2.1 x7.At.Y) x7.Length x7.Priority)) (Int.toNat s3.1) (Label.mk (Point.mk x8.At.X (w64 (s3.2.1 + 1))) x8.Length x8.Priority)).length ((List.set (List.set s3.2.2 (Int.toNat s3.1) (Label.mk (Point.mk s3.2.1 x7.At.Y) x7.Length x7.Priority)) (Int.toNat s3.1) (Label.mk (Point.mk x8.At.X (w64 (s3.2.1 + 1))) x8.Length x8.Priority)).map eLabel))]⟩ ?_
  refine SRun.estep (x_store_own (d := 1000000) (m := 4) (j := 2) (L := (List.set (List.set s3.2.2 (Int.toNat s3.1) (Label.mk (Point.mk s3.2.1 x7.At.Y) x7.Length x7.Priority)) (Int.toNat s3.1) (Label.mk (Point.mk x8.At.X (w64 (s3.2.1 + 1))) x8.Length x8.Priority))) (f := eLabel) (x := (Label.mk x9.At (w64 ((w64 (s3.2.1 + 1)) + 1)) x9.Priority)) (z := x9) (ti := ti2) (e := 52) (ts := [.int .i64 (w64 ((w64 (s3.2.1 + 1)) + 1))]) (vs := [vi (w64 ((w64 (s3.2.1 + 1)) + 1))]) (v := vi (w64 ((w64 (s3.2.1 + 1)) + 1))) tbok rfl rfl hx9) ?_
  refine SRun.nil ?_
  refine nx_n ?_
  refine swp_seq ?_
  refine swp_reg ?_
  refine SRun.ck tbok 3 ⟨43, [(0, .own 1000000), (1, vi (w64 ((w64 ((w64 (s3.2.1 + 1)) + 1)) + 1))), (5, vi s3.1)], [(1000000, .arr 52 4 (List.set (List.set (List.set s3.2.2 (Int.toNat s3.1) (Label.mk (Point.mk s3.2.1 x7.At.Y) x7.Length x7.Priority)) (Int.toNat s3.1) (Label.mk (Point.mk x8.At.X (w64 (s3.2.1 + 1))) x8.Length x8.Priority)) (Int.toNat s3.1) (Label.mk x9.At (w64 ((w64 (s3.2.1 + 1)) + 1)) x9.Priority)).length ((List.set (List.set (List.set s3.2.2 (Int.toNat s3.1) (Label.mk (Point.mk s3.2.1 x7.At.Y) x7.Length x7.Priority)) (Int.toNat s3.1) (Label.mk (Point.mk x8.At.X (w64 (s3.2.1 + 1))) x8.Length x8.Priority)) (Int.toNat s3.1) (Label.mk x9.At (w64 ((w64 (s3.2.1 + 1)) + 1)) x9.Priority)).map eLabel))]⟩ ?_
  refine SRun.nil ?_
  refine nx_n ?_
  refine swp_seq ?_
  refine swp_reg ?_
  refine SRun.ck tbok 3 ⟨43, [(0, .own 1000000), (1, vi (w64 ((w64 ((w64 (s3.2.1 + 1)) + 1)) + 1))), (5, vi s3.1), (35, .own 1000000), (36, vi s3.1), (37, vi (w64 ((w64 ((w64 (s3.2.1 + 1)) + 1)) + 1)))], [(1000000, .arr 52 4 (List.set (List.set (List.set s3.2.2 (Int.toNat s3.1) (Label.mk (Point.mk s3.2.1 x7.At.Y) x7.Length x7.Priority)) (Int.toNat s3.1) (Label.mk (Point.mk x8.At.X (w64 (s3.2.1 + 1))) x8.Length x8.Priority)) (Int.toNat s3.1) (Label.mk x9.At (w64 ((w64 (s3.2.1 + 1)) + 1)) x9.Priority)).length ((List.set (List.set (List.set s3.2.2 (Int.toNat s3.1) (Label.mk (Point.mk s3.2.1 x7.At.Y) x7.Length x7.Priority)) (Int.toNat s3.1) (Label.mk (Point.mk x8.At.X (w64 (s3.2.1 + 1))) x8.Length x8.Priority)) (Int.toNat s3.1) (Label.mk x9.At (w64 ((w64 (s3.2.1 + 1)) + 1)) x9.Priority)).map eLabel))]⟩ ?_
  obtain ⟨x10, hx10, h⟩ := bind_some h
  refine SRun.ls (x_index_own (d := 1000000) (L := (List.set (List.set (List.set s3.2.2 (Int.toNat s3.1) (Label.mk (Point.mk s3.2.1 x7.At.Y) x7.Length x7.Priority)) (Int.toNat s3.1) (Label.mk (Point.mk x8.At.X (w64 (s3.2.1 + 1))) x8.Length x8.Priority)) (Int.toNat s3.1) (Label.mk x9.At (w64 ((w64 (s3.2.1 + 1)) + 1)) x9.Priority))) (f := eLabel) (ti := ti27) (tj := ti52) (e := 52) (e' := 52) (m := 4) (k := .i64) tbok rfl hx10) ?_
  refine SRun.ck tbok 1 ⟨43, [(0, .own 1000000), (1, vi (w64 ((w64 ((w64 (s3.2.1 + 1)) + 1)) + 1))), (5, vi s3.1), (37, vi (w64 ((w64 ((w64 (s3.2.1 + 1)) + 1)) + 1))), (39, .eref 1000000 4 (Int.toNat s3.1) 3)], [(1000000, .arr 52 4 (List.set (List.set (List.set s3.2.2 (Int.toNat s3.1) (Label.mk (Point.mk s3.2.1 x7.At.Y) x7.Length x7.Priority)) (Int.toNat s3.1) (Label.mk (Point.mk x8.At.X (w64 (s3.2.1 + 1))) x8.Length x8.Priority)) (Int.toNat s3.1) (Label.mk x9.At (w64 ((w64 (s3.2.1 + 1)) + 1)) x9.Priority)).length ((List.set (List.set (List.set s3.2.2 (Int.toNat s3.1) (Label.mk (Point.mk s3.2.1 x7.At.Y) x7.Length x7.Priority)) (Int.toNat s3.1) (Label.mk (Point.mk x8.At.X (w64 (s3.2.1 + 1))) x8.Length x8.Priority)) (Int.toNat s3.1) (Label.mk x9.At (w64 ((w64 (s3.2.1 + 1)) + 1)) x9.Priority)).map eLabel))]⟩ ?_
  refine SRun.estep (x_store_own (d := 1000000) (m := 4) (j := 3) (L := (List.set (List.set (List.set s3.2.2 (Int.toNat s3.1) (Label.mk (Point.mk s3.2.1 x7.At.Y) x7.Length x7.Priority)) (Int.toNat s3.1) (Label.mk (Point.mk x8.At.X (w64 (s3.2.1 + 1))) x8.Length x8.Priority)) (Int.toNat s3.1) (Label.mk x9.At (w64 ((w64 (s3.2.1 + 1)) + 1)) x9.Priority))) (f := eLabel) (x := (Label.mk x10.At x10.Length (w64 ((w64 ((w64 (s3.2.1 + 1)) + 1)) + 1)))) (z := x10) (ti := ti2) (e := 52) (ts := [.int .i64 (w64 ((w64 ((w64 (s3.2.1 + 1)) + 1)) + 1))]) (vs := [vi (w64 ((w64 ((w64 (s3.2.1 + 1)) + 1)) + 1))]) (v := vi (w64 ((w64 ((w64 (s3.2.1 + 1)) + 1)) + 1))) tbok rfl rfl hx10) ?_
  refine SRun.nil ?_
  refine nx_n ?_
  refine swp_reg ?_
  refine SRun.ck tbok 3 ⟨43, [(0, .own 1000000), (1, vi (w64 ((w64 ((w64 ((w64 (s3.2.1 + 1)) + 1)) + 1)) + 1))), (5, vi s3.1)], [(1000000, .arr 52 4 (List.set (List.set (List.set (List.set s3.2.2 (Int.toNat s3.1) (Label.mk (Point.mk s3.2.1 x7.At.Y) x7.Length x7.Priority)) (Int.toNat s3.1) (Label.mk (Point.mk x8.At.X (w64 (s3.2.1 + 1))) x8.Length x8.Priority)) (Int.toNat s3.1) (Label.mk x9.At (w64 ((w64 (s3.2.1 + 1)) + 1)) x9.Priority)) (Int.toNat s3.1) (Label.mk x10.At x10.Length (w64 ((w64 ((w64 (s3.2.1 + 1)) + 1)) + 1)))).length ((List.set (List.set (List.set (List.set s3.2.2 (Int.toNat s3.1) (Label.mk (Point.mk s3.2.1 x7.At.Y) x7.Length x7.Priority)) (Int.toNat s3.1) (Label.mk (Point.mk x8.At.X (w64 (s3.2.1 + 1))) x8.Length x8.Priority)) (Int.toNat s3.1) (Label.mk x9.At (w64 ((w64 (s3.2.1 + 1)) + 1)) x9.Priority)) (Int.toNat s3.1) (Label.mk x10.At x10.Length (w64 ((w64 ((w64 (s3.2.1 + 1)) + 1)) + 1)))).map eLabel))]⟩ ?_
  refine SRun.nil ?_
  replace h := Option.some.inj h
  subst h
  exact q_bn (q_j (Le.sub0))
  refine swp_reg ?_
  refine SRun.ck tbok 3 ⟨43, [(0, .own 1000000), (1, vi j5.1), (5, vi (w64 (s3.1 + 1)))], [(1000000, .arr 52 4 j5.2.length (j5.2.map eLabel))]⟩ ?_
  refine SRun.nil ?_
  replace h := Option.some.inj h
  subst h
  exact q_l (Le.sub0)
  replace h := cond_f hb h
  refine swp_exit ?_
  replace h := Option.some.inj h
  subst h
  exact nx_e (q_re (q_bh (q_j (Le.sub0))))
  refine swp_seq ?_
  refine swp_reg ?_
  refine SRun.ck tbok 2 ⟨43, [(4, vi j1.1)], [(1000000, .arr 52 4 j1.2.length (j1.2.map eLabel))]⟩ ?_
  refine SRun.nil ?_
  refine nx_n ?_
  refine swp_ret ?_
  replace h := Option.some.inj h
  subst h
  exact q_fr (fin_io (fin1 (by kernel_rfl) (finV rfl SV.flat_of (holds_t (by kernel_rfl)))) (y := .arr 52 4 j1.2.length (j1.2.map eLabel)) (by kernel_rfl) rfl (by kernel_rfl) (by kernel_rfl))
theorem ents12 : Ents Try.prog 12 := ents_of Try.func12 (by kernel_rfl) rfl
noncomputable def laws_markInt64S (aA : (List Int)) (aK : Int) : Option (Int × (List Int)) :=
  (((forH (fun (i3 : Int) (s3 : Int × (List Int)) => (decide (i3 < (s3.2.length : Int)))) (fun (i3 : Int) (s3 : Int × (List Int)) => ((at' s3.2 i3).bind fun _ => some ((w64 (s3.1 + 1)), (List.set s3.2 (Int.toNat i3) s3.1)))) (fun (s3 : Int × (List Int)) => (s3.1, s3.2)) 0 (aK, aA))).bind fun (j1 : Int × (List Int)) => some (j1.1, j1.2))
set_option maxRecDepth 100000 in
set_option maxHeartbeats 4000000 in
theorem laws_markInt64S_run (aA : (List Int)) (aK : Int) (r : Int × (List Int)) (h : laws_markInt64S aA aK = some r) : SCall Try.prog 13 [.o (.arr 2 1 aA.length (aA.map (eI .i64))), .v (vi aK)] ⟨[.v (vi r.1)], [(0, .arr 2 1 r.2.length (r.2.map (eI .i64)))], false⟩ := by
  refine scall_in Try.func13 rfl [(.tmp 4)] rfl (fun r => ⟨[.v (vi r.1)], [(0, .arr 2 1 r.2.length (r.2.map (eI .i64)))], false⟩) (r := r) ?_
  unfold laws_markInt64S at h
  refine swp_seq ?_
  refine swp_reg ?_
  refine SRun.ck tbok 1 ⟨19, [(0, .own 1000000), (1, vi aK)], [(1000000, .arr 2 1 aA.length (aA.map (eI .i64)))]⟩ ?_
  refine SRun.nil ?_
  refine nx_n ?_
  refine swp_seq ?_
  refine swp_seq ?_
  refine swp_reg ?_
  refine SRun.ck tbok 1 ⟨19, [(0, .own 1000000), (1, vi aK), (5, vi 0)], [(1000000, .arr 2 1 aA.length (aA.map (eI .i64)))]⟩ ?_
  refine SRun.nil ?_
  refine nx_n ?_
  refine swp_seqJ h (fun j1 => ⟨19, [(1, vi j1.1)], [(1000000, .arr 2 1 j1.2.length (j1.2.map (eI .i64)))]⟩) (fun v2 h => ?_) (fun j1 h => ?_)
  refine swp_blk (a := v2) ?_
  refine swp_lpL (r := v2) (s := (0, aK, aA)) _ (fun s3 => ⟨19, [(0, .own 1000000), (1, vi s3.2.1), (5, vi s3.1)], [(1000000, .arr 2 1 s3.2.2.length (s3.2.2.map (eI .i64)))]⟩) _ (Le.sub0) h (fun s3 v4 h => ?_)
  refine swp_seq ?_
  refine swp_seq ?_
  refine swp_reg ?_
  refine SRun.ck tbok 4 ⟨19, [(0, .own 1000000), (1, vi s3.2.1), (5, vi s3.1), (9, vb (decide (s3.1 < (s3.2.2.length : Int))))], [(1000000, .arr 2 1 s3.2.2.length (s3.2.2.map (eI .i64)))]⟩ ?_
  refine SRun.nil ?_
  refine nx_n ?_
  refine swp_cond (b := (decide (s3.1 < (s3.2.2.length : Int)))) (by kernel_rfl) (fun hb => ?_) (fun hb => ?_)
  replace h := cond_t hb h
  refine swp_skip ?_
  refine nx_n ?_
  refine swp_seq ?_
  refine swp_seqJ h (fun j5 => ⟨19, [(0, .own 1000000), (1, vi j5.1), (5, vi s3.1)], [(1000000, .arr 2 1 j5.2.length (j5.2.map (eI .i64)))]⟩) (fun v6 h => ?_) (fun j5 h => ?_)
  refine swp_blk (a := v6) ?_
  refine swp_seq ?_
  refine swp_reg ?_
  refine SRun.ck tbok 3 ⟨19, [(0, .own 1000000), (1, vi s3.2.1), (5, vi s3.1), (12, .own 1000000), (13, vi s3.1), (14, vi s3.2.1)], [(1000000, .arr 2 1 s3.2.2.length (s3.2.2.map (eI .i64)))]⟩ ?_
  obtain ⟨x7, hx7, h⟩ := bind_some h
  refine SRun.ls (x_index_own (d := 1000000) (L := s3.2.2) (f := (eI .i64)) (ti := ti24) (tj := ti2) (e := 2) (e' := 2) (m := 1) (k := .i64) tbok rfl hx7) ?_
  refine SRun.estep (x_store_own (d := 1000000) (m := 1) (j := 0) (L := s3.2.2) (f := (eI .i64)) (x := s3.2.1) (z := x7) (ti := ti2) (e := 2) (ts := [.int .i64 s3.2.1]) (vs := [vi s3.2.1]) (v := vi s3.2.1) tbok rfl rfl hx7) ?_
  refine SRun.nil ?_
  refine nx_n ?_
  refine swp_reg ?_
  refine SRun.ck tbok 3 ⟨19, [(0, .own 1000000), (1, vi (w64 (s3.2.1 + 1))), (5, vi s3.1)], [(1000000, .arr 2 1 (List.set s3.2.2 (Int.toNat s3.1) s3.2.1).length ((List.set s3.2.2 (Int.toNat s3.1) s3.2.1).map (eI .i64)))]⟩ ?_
  refine SRun.nil ?_
  replace h := Option.some.inj h
  subst h
  exact q_bn (q_j (Le.sub0))
  refine swp_reg ?_
  refine SRun.ck tbok 3 ⟨19, [(0, .own 1000000), (1, vi j5.1), (5, vi (w64 (s3.1 + 1)))], [(1000000, .arr 2 1 j5.2.length (j5.2.map (eI .i64)))]⟩ ?_
  refine SRun.nil ?_
  replace h := Option.some.inj h
  subst h
  exact q_l (Le.sub0)
  replace h := cond_f hb h
  refine swp_exit ?_
  replace h := Option.some.inj h
  subst h
  exact nx_e (q_re (q_bh (q_j (Le.sub0))))
  refine swp_seq ?_
  refine swp_reg ?_
  refine SRun.ck tbok 2 ⟨19, [(4, vi j1.1)], [(1000000, .arr 2 1 j1.2.length (j1.2.map (eI .i64)))]⟩ ?_
  refine SRun.nil ?_
  refine nx_n ?_
  refine swp_ret ?_
  replace h := Option.some.inj h
  subst h
  exact q_fr (fin_io (fin1 (by kernel_rfl) (finV rfl SV.flat_of (holds_t (by kernel_rfl)))) (y := .arr 2 1 j1.2.length (j1.2.map (eI .i64))) (by kernel_rfl) rfl (by kernel_rfl) (by kernel_rfl))
theorem ents13 : Ents Try.prog 13 := ents_of Try.func13 (by kernel_rfl) rfl
noncomputable def laws_heldInt64S (aA : (List Int)) (aK : Int) : Option (Int) :=
  (((forN (aA.length : Int) (fun (i3 : Int) (s3 : Int) => ((at' aA i3).bind fun x7 => (bif (x7 != s3) then some (.inr (.inr (-1))) else some (.inl (w64 (s3 + 1)))))) (fun (s3 : Int) => .inl s3) 0 aK)).bind (Sum.elim (fun (j1 : Int) => some j1) some))
set_option maxRecDepth 100000 in
set_option maxHeartbeats 4000000 in
theorem laws_heldInt64S_run (aA : (List Int)) (aK : Int) (r : Int) (h : laws_heldInt64S aA aK = some r) : SCall Try.prog 14 [.v (vl (eI .i64) aA), .v (vi aK)] ⟨[.v (vi r)], [], false⟩ := by
  refine scall_in Try.func14 rfl [(.tmp 4)] rfl (fun r => ⟨[.v (vi r)], [], false⟩) (r := r) ?_
  unfold laws_heldInt64S at h
  refine swp_seq ?_
  refine swp_reg ?_
  refine SRun.ck tbok 1 ⟨21, [(0, vl (eI .i64) aA), (1, vi aK)], []⟩ ?_
  refine SRun.nil ?_
  refine nx_n ?_
  refine swp_seq ?_
  refine swp_seq ?_
  refine swp_reg ?_
  refine SRun.ck tbok 1 ⟨21, [(0, vl (eI .i64) aA), (1, vi aK), (5, vi 0)], []⟩ ?_
  refine SRun.nil ?_
  refine nx_n ?_
  refine swp_seqE (r := r) h (fun j1 => ⟨21, [(1, vi j1)], []⟩) (fun v2 h => ?_) (fun j1 h => ?_)
  refine swp_blk (a := v2) ?_
  refine swp_lpL (r := v2) (s := (0, aK)) _ (fun s3 => ⟨21, [(0, vl (eI .i64) aA), (1, vi s3.2), (5, vi s3.1)], []⟩) _ (Le.sub0) h (fun s3 v4 h => ?_)
  refine swp_seq ?_
  refine swp_seq ?_
  refine swp_reg ?_
  refine SRun.ck tbok 4 ⟨21, [(0, vl (eI .i64) aA), (1, vi s3.2), (5, vi s3.1), (9, vb (decide (s3.1 < (aA.length : Int))))], []⟩ ?_
  refine SRun.nil ?_
  refine nx_n ?_
  refine swp_cond (b := (decide (s3.1 < (aA.length : Int)))) (by kernel_rfl) (fun hb => ?_) (fun hb => ?_)
  replace h := cond_t hb h
  refine swp_skip ?_
  refine nx_n ?_
  refine swp_seq ?_
  refine swp_seqL (r := v4) h (fun j5 => ⟨21, [(0, vl (eI .i64) aA), (1, vi j5), (5, vi s3.1)], []⟩) (fun v6 h => ?_) (fun j5 h => ?_)
  refine swp_blk (a := v6) ?_
  refine swp_seq ?_
  refine swp_seq ?_
  refine swp_reg ?_
  refine SRun.ck tbok 2 ⟨21, [(0, vl (eI .i64) aA), (1, vi s3.2), (5, vi s3.1), (12, vl (eI .i64) aA), (13, vi s3.1)], []⟩ ?_
  obtain ⟨x7, hx7, h⟩ := bind_some h
  refine SRun.ls (x_index (L := aA) (f := (eI .i64)) (ti := ti24) (tj := ti2) (e := 2) (k := .i64) tbok rfl hx7) ?_
  refine SRun.ck tbok 3 ⟨21, [(0, vl (eI .i64) aA), (1, vi s3.2), (5, vi s3.1), (17, vb (x7 != s3.2))], []⟩ ?_
  refine SRun.nil ?_
  refine nx_n ?_
  refine swp_cond (b := (x7 != s3.2)) (by kernel_rfl) (fun hb => ?_) (fun hb => ?_)
  replace h := cond_t hb h
  refine swp_seq ?_
  refine swp_reg ?_
  refine SRun.ck tbok 1 ⟨21, [(4, vi (-1))], []⟩ ?_
  refine SRun.nil ?_
  refine nx_n ?_
  refine swp_ret ?_
  replace h := Option.some.inj h
  subst h
  exact nx_r (q_br (q_rr (q_rr (q_br (q_rr (q_fr (fin1 (by kernel_rfl) (finV rfl SV.flat_of (holds_t (by kernel_rfl))))))))))
  replace h := cond_f hb h
  refine swp_skip ?_
  refine nx_n ?_
  refine swp_reg ?_
  refine SRun.ck tbok 3 ⟨21, [(0, vl (eI .i64) aA), (1, vi (w64 (s3.2 + 1))), (5, vi s3.1)], []⟩ ?_
  refine SRun.nil ?_
  replace h := Option.some.inj h
  subst h
  exact q_bn (q_l (Le.sub0))
  refine swp_reg ?_
  refine SRun.ck tbok 3 ⟨21, [(0, vl (eI .i64) aA), (1, vi j5), (5, vi (w64 (s3.1 + 1)))], []⟩ ?_
  refine SRun.nil ?_
  replace h := Option.some.inj h
  subst h
  exact q_l (Le.sub0)
  replace h := cond_f hb h
  refine swp_exit ?_
  replace h := Option.some.inj h
  subst h
  exact nx_e (q_re (q_bh (q_l (Le.sub0))))
  refine swp_seq ?_
  refine swp_reg ?_
  refine SRun.ck tbok 2 ⟨21, [(4, vi j1)], []⟩ ?_
  refine SRun.nil ?_
  refine nx_n ?_
  refine swp_ret ?_
  replace h := Option.some.inj h
  subst h
  exact q_fr (fin1 (by kernel_rfl) (finV rfl SV.flat_of (holds_t (by kernel_rfl))))
theorem ents14 : Ents Try.prog 14 := ents_of Try.func14 (by kernel_rfl) rfl
noncomputable def laws_FnExactGreedyPlacement (aAList : (List Label)) : Option (Bool) :=
  ((laws_szLabelS aAList 1048576).bind fun x1 => (bif (decide (x1 < 0)) then some true else ((laws_toLabelS aAList).bind fun x2 => ((spec_GreedyPlacement x2).bind fun x3 => ((laws_toLabelS aAList).bind fun x4 => ((impl_GreedyPlacement x4).bind fun x5 => ((((laws_eqInt64S x5.1 x3.1).bind fun x6 => (bif (!x6) then some true else some (x5.2 != x3.2)))).bind fun (j7 : Bool) => (bif j7 then some false else ((laws_toLabelS aAList).bind fun x9 => ((laws_eqLabelS x4 x9).bind fun x10 => (bif (!x10) then some false else ((laws_markLabelS x4 1).bind fun x11 => (((bif (decide (x11.1 < 0)) then some true else ((laws_eqInt64S x5.1 x3.1).bind fun x12 => (bif (!x12) then some true else some (x5.2 != x3.2))))).bind fun (j13 : Bool) => (bif j13 then some false else ((laws_markInt64S x5.1 1).bind fun x15 => ((laws_heldInt64S x15.2 1).bind fun x16 => (bif (decide (x16 < 0)) then some false else (bif (x16 != x15.1) then some false else ((laws_toLabelS aAList).bind fun x17 => ((impl_GreedyPlacement x17).bind fun x18 => ((((laws_eqInt64S x18.1 x3.1).bind fun x19 => (bif (!x19) then some true else some (x18.2 != x3.2)))).bind fun (j20 : Bool) => (bif j20 then some false else ((laws_heldInt64S x15.2 1).bind fun x22 => (bif (decide (x22 < 0)) then some false else (bif (x22 != x15.1) then some false else some true)))))))))))))))))))))))))
set_option maxRecDepth 100000 in
set_option maxHeartbeats 4000000 in
theorem laws_FnExactGreedyPlacement_run (aAList : (List Label)) (r : Bool) (h : laws_FnExactGreedyPlacement aAList = some r) : SCall Try.prog 4 [.v (vl eLabel aAList)] ⟨[.v (vb r)], [], false⟩ := by
  refine scall_in Try.func4 rfl [(.tmp 2)] rfl (fun r => ⟨[.v (vb r)], [], false⟩) (r := r) ?_
  unfold laws_FnExactGreedyPlacement at h
  refine swp_seq ?_
  refine swp_reg ?_
  refine SRun.ck tbok 1 ⟨96, [(0, vl eLabel aAList)], []⟩ ?_
  refine SRun.nil ?_
  refine nx_n ?_
  refine swp_seq ?_
  refine swp_reg ?_
  refine SRun.ck tbok 1 ⟨96, [(0, vl eLabel aAList), (3, vi 1048576)], []⟩ ?_
  refine SRun.nil ?_
  refine nx_n ?_
  refine swp_seq ?_
  refine swp_reg ?_
  refine SRun.ck tbok 2 ⟨96, [(0, vl eLabel aAList), (14, vl eLabel aAList), (15, vi 1048576)], []⟩ ?_
  obtain ⟨x1, hx1, h⟩ := bind_some h
  refine SRun.ls (x_lstep_call (f := 6) (caps := []) (xs := [vl eLabel aAList, vi 1048576]) (ys := [vl eLabel aAList, vi 1048576]) (res := ⟨[.v (vi x1)], [], false⟩) (x := vi x1) (y := none) rfl ents6 (laws_szLabelS_run aAList 1048576 _ hx1) rfl (by intro hc; cases hc)) ?_
  refine SRun.ck tbok 1 ⟨96, [(0, vl eLabel aAList), (3, vi x1)], []⟩ ?_
  refine SRun.nil ?_
  refine nx_n ?_
  refine swp_seq ?_
  refine swp_seq ?_
  refine swp_reg ?_
  refine SRun.ck tbok 2 ⟨96, [(0, vl eLabel aAList), (18, vb (decide (x1 < 0)))], []⟩ ?_
  refine SRun.nil ?_
  refine nx_n ?_
  refine swp_cond (b := (decide (x1 < 0))) (by kernel_rfl) (fun hb => ?_) (fun hb => ?_)
  replace h := cond_t hb h
  refine swp_seq ?_
  refine swp_reg ?_
  refine SRun.ck tbok 1 ⟨96, [(2, vb true)], []⟩ ?_
  refine SRun.nil ?_
  refine nx_n ?_
  refine swp_ret ?_
  replace h := Option.some.inj h
  subst h
  exact nx_r (q_fr (fin1 (by kernel_rfl) (finV rfl SV.flat_of (holds_t (by kernel_rfl)))))
  replace h := cond_f hb h
  refine swp_skip ?_
  refine nx_n ?_
  refine swp_seq ?_
  refine swp_reg ?_
  refine SRun.ck tbok 1 ⟨96, [(0, vl eLabel aAList), (20, vl eLabel aAList)], []⟩ ?_
  obtain ⟨x2, hx2, h⟩ := bind_some h
  refine SRun.ls (x_lstep_call (f := 8) (caps := []) (xs := [vl eLabel aAList]) (ys := [vl eLabel aAList]) (res := ⟨[.own 52 4 x2.length (x2.map eLabel)], [], false⟩) (x := .own 21) (y := some (.arr 52 4 x2.length (x2.map eLabel))) rfl ents8 (laws_toLabelS_run aAList _ hx2) rfl (by intro hc; cases hc)) ?_
  obtain ⟨x3, hx3, h⟩ := bind_some h
  refine SRun.ls (x_lstep_call (f := 15) (caps := []) (xs := [.own 21]) (ys := [vl eLabel x2]) (res := ⟨[.own 2 1 x3.1.length (x3.1.map (eI .i64)), .v (vi x3.2)], [], false⟩) (x := .tup [.own 22, vi x3.2]) (y := some (.arr 2 1 x3.1.length (x3.1.map (eI .i64)))) rfl ents15 (spec_GreedyPlacement_run x2 _ hx3) rfl (by intro hc; cases hc)) ?_
  refine SRun.ck tbok 5 ⟨96, [(0, vl eLabel aAList), (4, .own 22), (5, vi x3.2)], [(22, .arr 2 1 x3.1.length (x3.1.map (eI .i64)))]⟩ ?_
  refine SRun.nil ?_
  refine nx_n ?_
  refine swp_seq ?_
  refine swp_reg ?_
  refine SRun.ck tbok 1 ⟨96, [(0, vl eLabel aAList), (4, .own 22), (5, vi x3.2), (25, vl eLabel aAList)], [(22, .arr 2 1 x3.1.length (x3.1.map (eI .i64)))]⟩ ?_
  obtain ⟨x4, hx4, h⟩ := bind_some h
  refine SRun.ls (x_lstep_call (f := 8) (caps := []) (xs := [vl eLabel aAList]) (ys := [vl eLabel aAList]) (res := ⟨[.own 52 4 x4.length (x4.map eLabel)], [], false⟩) (x := .own 26) (y := some (.arr 52 4 x4.length (x4.map eLabel))) rfl ents8 (laws_toLabelS_run aAList _ hx4) rfl (by intro hc; cases hc)) ?_
  refine SRun.ck tbok 1 ⟨96, [(0, vl eLabel aAList), (4, .own 22), (5, vi x3.2), (6, .own 26)], [(22, .arr 2 1 x3.1.length (x3.1.map (eI .i64))), (26, .arr 52 4 x4.length (x4.map eLabel))]⟩ ?_
  refine SRun.nil ?_
  refine nx_n ?_
  refine swp_seq ?_
  refine swp_reg ?_
  refine SRun.ck tbok 1 ⟨96, [(0, vl eLabel aAList), (4, .own 22), (5, vi x3.2), (6, .own 26), (28, .own 26)], [(22, .arr 2 1 x3.1.length (x3.1.map (eI .i64))), (26, .arr 52 4 x4.length (x4.map eLabel))]⟩ ?_
  obtain ⟨x5, hx5, h⟩ := bind_some h
  refine SRun.ls (x_lstep_call (f := 16) (caps := []) (xs := [.own 26]) (ys := [vl eLabel x4]) (res := ⟨[.own 2 1 x5.1.length (x5.1.map (eI .i64)), .v (vi x5.2)], [], false⟩) (x := .tup [.own 29, vi x5.2]) (y := some (.arr 2 1 x5.1.length (x5.1.map (eI .i64)))) rfl ents16 (impl_GreedyPlacement_run x4 _ hx5) rfl (by intro hc; cases hc)) ?_
  refine SRun.ck tbok 5 ⟨96, [(0, vl eLabel aAList), (4, .own 22), (5, vi x3.2), (6, .own 26), (7, .own 29), (8, vi x5.2)], [(22, .arr 2 1 x3.1.length (x3.1.map (eI .i64))), (26, .arr 52 4 x4.length (x4.map eLabel)), (29, .arr 2 1 x5.1.length (x5.1.map (eI .i64)))]⟩ ?_
  refine SRun.nil ?_
  refine nx_n ?_
  refine swp_seq ?_
  refine swp_seq ?_
  refine swp_regJ h (fun j7 => ⟨96, [(0, vl eLabel aAList), (4, .own 4), (5, vi x3.2), (6, .own 6), (7, .own 7), (8, vi x5.2), (40, vb j7)], [(4, .arr 2 1 x3.1.length (x3.1.map (eI .i64))), (6, .arr 52 4 x4.length (x4.map eLabel)), (7, .arr 2 1 x5.1.length (x5.1.map (eI .i64)))]⟩) (fun v8 h => ?_) (fun j7 h => ?_)
  refine SRun.ck tbok 2 ⟨96, [(0, vl eLabel aAList), (4, .own 22), (5, vi x3.2), (6, .own 26), (7, .own 29), (8, vi x5.2), (32, .own 29), (33, .own 22)], [(22, .arr 2 1 x3.1.length (x3.1.map (eI .i64))), (26, .arr 52 4 x4.length (x4.map eLabel)), (29, .arr 2 1 x5.1.length (x5.1.map (eI .i64)))]⟩ ?_
  obtain ⟨x6, hx6, h⟩ := bind_some h
  refine SRun.ls (x_lstep_call (f := 10) (caps := []) (xs := [.own 29, .own 22]) (ys := [vl (eI .i64) x5.1, vl (eI .i64) x3.1]) (res := ⟨[.v (vb x6)], [], false⟩) (x := vb x6) (y := none) rfl ents10 (laws_eqInt64S_run x5.1 x3.1 _ hx6) rfl (by intro hc; cases hc)) ?_
  refine SRun.ck tbok 2 ⟨96, [(0, vl eLabel aAList), (4, .own 22), (5, vi x3.2), (6, .own 26), (7, .own 29), (8, vi x5.2), (36, vb (!x6))], [(22, .arr 2 1 x3.1.length (x3.1.map (eI .i64))), (26, .arr 52 4 x4.length (x4.map eLabel)), (29, .arr 2 1 x5.1.length (x5.1.map (eI .i64)))]⟩ ?_
  refine SRun.cut [(36, fun b => b)] (b := (!x6)) (by kernel_rfl) (fun hb => ?_) (fun hb => ?_)
  replace h := cond_t hb h
  refine SRun.ck tbok 4 ⟨96, [(0, vl eLabel aAList), (4, .own 22), (5, vi x3.2), (6, .own 26), (7, .own 29), (8, vi x5.2), (40, vb true)], [(22, .arr 2 1 x3.1.length (x3.1.map (eI .i64))), (26, .arr 52 4 x4.length (x4.map eLabel)), (29, .arr 2 1 x5.1.length (x5.1.map (eI .i64)))]⟩ ?_
  refine SRun.nil ?_
  replace h := Option.some.inj h
  subst h
  exact (Le.sub' ([(0, vl eLabel aAList), (4, .own 22), (5, vi x3.2), (6, .own 26), (7, .own 29), (8, vi x5.2), (40, vb true)] : List (Nat × SV)) ([(22, .arr 2 1 x3.1.length (x3.1.map (eI .i64))), (26, .arr 52 4 x4.length (x4.map eLabel)), (29, .arr 2 1 x5.1.length (x5.1.map (eI .i64)))] : List (Nat × SO)) (by kernel_rfl) (by kernel_rfl)).trans ((Le.ren' (d := 22) (e := 4) (by kernel_rfl) (by kernel_rfl) (by kernel_rfl)).trans ((Le.ren' (d := 26) (e := 6) (by kernel_rfl) (by kernel_rfl) (by kernel_rfl)).trans ((Le.ren' (d := 29) (e := 7) (by kernel_rfl) (by kernel_rfl) (by kernel_rfl)).trans (Le.sub0))))
  replace h := cond_f hb h
  refine SRun.ck tbok 4 ⟨96, [(0, vl eLabel aAList), (4, .own 22), (5, vi x3.2), (6, .own 26), (7, .own 29), (8, vi x5.2), (40, vb (x5.2 != x3.2))], [(22, .arr 2 1 x3.1.length (x3.1.map (eI .i64))), (26, .arr 52 4 x4.length (x4.map eLabel)), (29, .arr 2 1 x5.1.length (x5.1.map (eI .i64)))]⟩ ?_
  refine SRun.nil ?_
  replace h := Option.some.inj h
  subst h
  exact (Le.sub' ([(0, vl eLabel aAList), (4, .own 22), (5, vi x3.2), (6, .own 26), (7, .own 29), (8, vi x5.2), (40, vb (x5.2 != x3.2))] : List (Nat × SV)) ([(22, .arr 2 1 x3.1.length (x3.1.map (eI .i64))), (26, .arr 52 4 x4.length (x4.map eLabel)), (29, .arr 2 1 x5.1.length (x5.1.map (eI .i64)))] : List (Nat × SO)) (by kernel_rfl) (by kernel_rfl)).trans ((Le.ren' (d := 22) (e := 4) (by kernel_rfl) (by kernel_rfl) (by kernel_rfl)).trans ((Le.ren' (d := 26) (e := 6) (by kernel_rfl) (by kernel_rfl) (by kernel_rfl)).trans ((Le.ren' (d := 29) (e := 7) (by kernel_rfl) (by kernel_rfl) (by kernel_rfl)).trans (Le.sub0))))
  refine swp_cond (b := j7) (by kernel_rfl) (fun hb => ?_) (fun hb => ?_)
  replace h := cond_t hb h
  refine swp_seq ?_
  refine swp_reg ?_
  refine SRun.ck tbok 1 ⟨96, [(2, vb false)], []⟩ ?_
  refine SRun.nil ?_
  refine nx_n ?_
  refine swp_ret ?_
  replace h := Option.some.inj h
  subst h
  exact nx_r (q_fr (fin1 (by kernel_rfl) (finV rfl SV.flat_of (holds_t (by kernel_rfl)))))
  replace h := cond_f hb h
  refine swp_skip ?_
  refine nx_n ?_
  refine swp_seq ?_
  refine swp_seq ?_
  refine swp_reg ?_
  refine SRun.ck tbok 2 ⟨96, [(0, vl eLabel aAList), (4, .own 4), (5, vi x3.2), (6, .own 6), (7, .own 7), (8, vi x5.2), (41, .own 6), (42, vl eLabel aAList)], [(4, .arr 2 1 x3.1.length (x3.1.map (eI .i64))), (6, .arr 52 4 x4.length (x4.map eLabel)), (7, .arr 2 1 x5.1.length (x5.1.map (eI .i64)))]⟩ ?_
  obtain ⟨x9, hx9, h⟩ := bind_some h
  refine SRun.ls (x_lstep_call (f := 8) (caps := []) (xs := [vl eLabel aAList]) (ys := [vl eLabel aAList]) (res := ⟨[.own 52 4 x9.length (x9.map eLabel)], [], false⟩) (x := .own 43) (y := some (.arr 52 4 x9.length (x9.map eLabel))) rfl ents8 (laws_toLabelS_run aAList _ hx9) rfl (by intro hc; cases hc)) ?_
  obtain ⟨x10, hx10, h⟩ := bind_some h
  refine SRun.ls (x_lstep_call (f := 11) (caps := []) (xs := [.own 6, .own 43]) (ys := [vl eLabel x4, vl eLabel x9]) (res := ⟨[.v (vb x10)], [], false⟩) (x := vb x10) (y := none) rfl ents11 (laws_eqLabelS_run x4 x9 _ hx10) rfl (by intro hc; cases hc)) ?_
  refine SRun.ck tbok 1 ⟨96, [(0, vl eLabel aAList), (4, .own 4), (5, vi x3.2), (6, .own 6), (7, .own 7), (8, vi x5.2), (45, vb (!x10))], [(4, .arr 2 1 x3.1.length (x3.1.map (eI .i64))), (6, .arr 52 4 x4.length (x4.map eLabel)), (7, .arr 2 1 x5.1.length (x5.1.map (eI .i64)))]⟩ ?_
  refine SRun.nil ?_
  refine nx_n ?_
  refine swp_cond (b := (!x10)) (by kernel_rfl) (fun hb => ?_) (fun hb => ?_)
  replace h := cond_t hb h
  refine swp_seq ?_
  refine swp_reg ?_
  refine SRun.ck tbok 1 ⟨96, [(2, vb false)], []⟩ ?_
  refine SRun.nil ?_
  refine nx_n ?_
  refine swp_ret ?_
  replace h := Option.some.inj h
  subst h
  exact nx_r (q_fr (fin1 (by kernel_rfl) (finV rfl SV.flat_of (holds_t (by kernel_rfl)))))
  replace h := cond_f hb h
  refine swp_skip ?_
  refine nx_n ?_
  refine swp_seq ?_
  refine swp_reg ?_
  refine SRun.ck tbok 1 ⟨96, [(0, vl eLabel aAList), (4, .own 4), (5, vi x3.2), (6, .own 6), (7, .own 7), (8, vi x5.2), (9, vi 1)], [(4, .arr 2 1 x3.1.length (x3.1.map (eI .i64))), (6, .arr 52 4 x4.length (x4.map eLabel)), (7, .arr 2 1 x5.1.length (x5.1.map (eI .i64)))]⟩ ?_
  refine SRun.nil ?_
  refine nx_n ?_
  refine swp_seq ?_
  refine swp_reg ?_
  refine SRun.ck tbok 2 ⟨96, [(0, vl eLabel aAList), (4, .own 4), (5, vi x3.2), (7, .own 7), (8, vi x5.2), (46, .own 6), (47, vi 1)], [(4, .arr 2 1 x3.1.length (x3.1.map (eI .i64))), (6, .arr 52 4 x4.length (x4.map eLabel)), (7, .arr 2 1 x5.1.length (x5.1.map (eI .i64)))]⟩ ?_
  obtain ⟨x11, hx11, h⟩ := bind_some h
  refine SRun.estep (x_estep_call (f := 12) (caps := []) (xs := [.own 6, vi 1]) (pre := []) (post := [vi 1]) (qs := [vi 1]) (z := .own 6) (d := 6) (pl := 0) (y := .arr 52 4 x4.length (x4.map eLabel)) (y' := .arr 52 4 x11.2.length (x11.2.map eLabel)) (res := ⟨[.v (vi x11.1)], [(0, .arr 52 4 x11.2.length (x11.2.map eLabel))], false⟩) (x := vi x11.1) (yo := none) rfl rfl rfl rfl rfl ents12 (laws_markLabelS_run x4 1 _ hx11) rfl rfl false (fun _ => rfl) (by intro hc; cases hc)) ?_
  refine SRun.ck tbok 1 ⟨96, [(0, vl eLabel aAList), (4, .own 4), (5, vi x3.2), (7, .own 7), (8, vi x5.2), (9, vi x11.1)], [(4, .arr 2 1 x3.1.length (x3.1.map (eI .i64))), (7, .arr 2 1 x5.1.length (x5.1.map (eI .i64)))]⟩ ?_
  refine SRun.nil ?_
  refine nx_n ?_
  refine swp_seq ?_
  refine swp_seq ?_
  refine swp_regJ h (fun j13 => ⟨96, [(0, vl eLabel aAList), (4, .own 4), (5, vi x3.2), (7, .own 7), (61, vb j13)], [(4, .arr 2 1 x3.1.length (x3.1.map (eI .i64))), (7, .arr 2 1 x5.1.length (x5.1.map (eI .i64)))]⟩) (fun v14 h => ?_) (fun j13 h => ?_)
  refine SRun.ck tbok 3 ⟨96, [(0, vl eLabel aAList), (4, .own 4), (5, vi x3.2), (7, .own 7), (8, vi x5.2), (51, vb (decide (x11.1 < 0)))], [(4, .arr 2 1 x3.1.length (x3.1.map (eI .i64))), (7, .arr 2 1 x5.1.length (x5.1.map (eI .i64)))]⟩ ?_
  refine SRun.cut [(51, fun b => b)] (b := (decide (x11.1 < 0))) (by kernel_rfl) (fun hb => ?_) (fun hb => ?_)
  replace h := cond_t hb h
  refine SRun.ck tbok 10 ⟨96, [(0, vl eLabel aAList), (4, .own 4), (5, vi x3.2), (7, .own 7), (61, vb true)], [(4, .arr 2 1 x3.1.length (x3.1.map (eI .i64))), (7, .arr 2 1 x5.1.length (x5.1.map (eI .i64)))]⟩ ?_
  refine SRun.nil ?_
  replace h := Option.some.inj h
  subst h
  exact Le.sub0
  replace h := cond_f hb h
  refine SRun.ck tbok 2 ⟨96, [(0, vl eLabel aAList), (4, .own 4), (5, vi x3.2), (7, .own 7), (8, vi x5.2), (51, vb false), (52, .own 7), (53, .own 4)], [(4, .arr 2 1 x3.1.length (x3.1.map (eI .i64))), (7, .arr 2 1 x5.1.length (x5.1.map (eI .i64)))]⟩ ?_
  obtain ⟨x12, hx12, h⟩ := bind_some h
  refine SRun.ls (x_lstep_call (f := 10) (caps := []) (xs := [.own 7, .own 4]) (ys := [vl (eI .i64) x5.1, vl (eI .i64) x3.1]) (res := ⟨[.v (vb x12)], [], false⟩) (x := vb x12) (y := none) rfl ents10 (laws_eqInt64S_run x5.1 x3.1 _ hx12) rfl (by intro hc; cases hc)) ?_
  refine SRun.ck tbok 3 ⟨96, [(0, vl eLabel aAList), (4, .own 4), (5, vi x3.2), (7, .own 7), (8, vi x5.2), (57, vb (!x12))], [(4, .arr 2 1 x3.1.length (x3.1.map (eI .i64))), (7, .arr 2 1 x5.1.length (x5.1.map (eI .i64)))]⟩ ?_
  refine SRun.cut [(57, fun b => b)] (b := (!x12)) (by kernel_rfl) (fun hb => ?_) (fun hb => ?_)
  replace h := cond_t hb h
  refine SRun.ck tbok 4 ⟨96, [(0, vl eLabel aAList), (4, .own 4), (5, vi x3.2), (7, .own 7), (61, vb true)], [(4, .arr 2 1 x3.1.length (x3.1.map (eI .i64))), (7, .arr 2 1 x5.1.length (x5.1.map (eI .i64)))]⟩ ?_
  refine SRun.nil ?_
  replace h := Option.some.inj h
  subst h
  exact Le.sub0
  replace h := cond_f hb h
  refine SRun.ck tbok 4 ⟨96, [(0, vl eLabel aAList), (4, .own 4), (5, vi x3.2), (7, .own 7), (61, vb (x5.2 != x3.2))], [(4, .arr 2 1 x3.1.length (x3.1.map (eI .i64))), (7, .arr 2 1 x5.1.length (x5.1.map (eI .i64)))]⟩ ?_
  refine SRun.nil ?_
  replace h := Option.some.inj h
  subst h
  exact Le.sub0
  refine swp_cond (b := j13) (by kernel_rfl) (fun hb => ?_) (fun hb => ?_)
  replace h := cond_t hb h
  refine swp_seq ?_
  refine swp_reg ?_
  refine SRun.ck tbok 1 ⟨96, [(2, vb false)], []⟩ ?_
  refine SRun.nil ?_
  refine nx_n ?_
  refine swp_ret ?_
  replace h := Option.some.inj h
  subst h
  exact nx_r (q_fr (fin1 (by kernel_rfl) (finV rfl SV.flat_of (holds_t (by kernel_rfl)))))
  replace h := cond_f hb h
  refine swp_skip ?_
  refine nx_n ?_
  refine swp_seq ?_
  refine swp_reg ?_
  refine SRun.ck tbok 1 ⟨96, [(0, vl eLabel aAList), (4, .own 4), (5, vi x3.2), (7, .own 7), (10, vi 1)], [(4, .arr 2 1 x3.1.length (x3.1.map (eI .i64))), (7, .arr 2 1 x5.1.length (x5.1.map (eI .i64)))]⟩ ?_
  refine SRun.nil ?_
  refine nx_n ?_
  refine swp_seq ?_
  refine swp_reg ?_
  refine SRun.ck tbok 2 ⟨96, [(0, vl eLabel aAList), (4, .own 4), (5, vi x3.2), (7, .own 7), (62, .own 7), (63, vi 1)], [(4, .arr 2 1 x3.1.length (x3.1.map (eI .i64))), (7, .arr 2 1 x5.1.length (x5.1.map (eI .i64)))]⟩ ?_
  obtain ⟨x15, hx15, h⟩ := bind_some h
  refine SRun.estep (x_estep_call (f := 13) (caps := []) (xs := [.own 7, vi 1]) (pre := []) (post := [vi 1]) (qs := [vi 1]) (z := .own 7) (d := 7) (pl := 0) (y := .arr 2 1 x5.1.length (x5.1.map (eI .i64))) (y' := .arr 2 1 x15.2.length (x15.2.map (eI .i64))) (res := ⟨[.v (vi x15.1)], [(0, .arr 2 1 x15.2.length (x15.2.map (eI .i64)))], false⟩) (x := vi x15.1) (yo := none) rfl rfl rfl rfl rfl ents13 (laws_markInt64S_run x5.1 1 _ hx15) rfl rfl false (fun _ => rfl) (by intro hc; cases hc)) ?_
  refine SRun.ck tbok 1 ⟨96, [(0, vl eLabel aAList), (4, .own 4), (5, vi x3.2), (7, .own 7), (10, vi x15.1)], [(4, .arr 2 1 x3.1.length (x3.1.map (eI .i64))), (7, .arr 2 1 x15.2.length (x15.2.map (eI .i64)))]⟩ ?_
  refine SRun.nil ?_
  refine nx_n ?_
  refine swp_seq ?_
  refine swp_reg ?_
  refine SRun.ck tbok 1 ⟨96, [(0, vl eLabel aAList), (4, .own 4), (5, vi x3.2), (7, .own 7), (10, vi x15.1), (11, vi 1)], [(4, .arr 2 1 x3.1.length (x3.1.map (eI .i64))), (7, .arr 2 1 x15.2.length (x15.2.map (eI .i64)))]⟩ ?_
  refine SRun.nil ?_
  refine nx_n ?_
  refine swp_seq ?_
  refine swp_reg ?_
  refine SRun.ck tbok 2 ⟨96, [(0, vl eLabel aAList), (4, .own 4), (5, vi x3.2), (7, .own 7), (10, vi x15.1), (65, .own 7), (66, vi 1)], [(4, .arr 2 1 x3.1.length (x3.1.map (eI .i64))), (7, .arr 2 1 x15.2.length (x15.2.map (eI .i64)))]⟩ ?_
  obtain ⟨x16, hx16, h⟩ := bind_some h
  refine SRun.ls (x_lstep_call (f := 14) (caps := []) (xs := [.own 7, vi 1]) (ys := [vl (eI .i64) x15.2, vi 1]) (res := ⟨[.v (vi x16)], [], false⟩) (x := vi x16) (y := none) rfl ents14 (laws_heldInt64S_run x15.2 1 _ hx16) rfl (by intro hc; cases hc)) ?_
  refine SRun.ck tbok 1 ⟨96, [(0, vl eLabel aAList), (4, .own 4), (5, vi x3.2), (7, .own 7), (10, vi x15.1), (11, vi x16)], [(4, .arr 2 1 x3.1.length (x3.1.map (eI .i64))), (7, .arr 2 1 x15.2.length (x15.2.map (eI .i64)))]⟩ ?_
  refine SRun.nil ?_
  refine nx_n ?_
  refine swp_seq ?_
  refine swp_seq ?_
  refine swp_reg ?_
  refine SRun.ck tbok 2 ⟨96, [(0, vl eLabel aAList), (4, .own 4), (5, vi x3.2), (7, .own 7), (10, vi x15.1), (11, vi x16), (69, vb (decide (x16 < 0)))], [(4, .arr 2 1 x3.1.length (x3.1.map (eI .i64))), (7, .arr 2 1 x15.2.length (x15.2.map (eI .i64)))]⟩ ?_
  refine SRun.nil ?_
  refine nx_n ?_
  refine swp_cond (b := (decide (x16 < 0))) (by kernel_rfl) (fun hb => ?_) (fun hb => ?_)
  replace h := cond_t hb h
  refine swp_seq ?_
  refine swp_reg ?_
  refine SRun.ck tbok 1 ⟨96, [(2, vb false)], []⟩ ?_
  refine SRun.nil ?_
  refine nx_n ?_
  refine swp_ret ?_
  replace h := Option.some.inj h
  subst h
  exact nx_r (q_fr (fin1 (by kernel_rfl) (finV rfl SV.flat_of (holds_t (by kernel_rfl)))))
  replace h := cond_f hb h
  refine swp_skip ?_
  refine nx_n ?_
  refine swp_seq ?_
  refine swp_seq ?_
  refine swp_reg ?_
  refine SRun.ck tbok 3 ⟨96, [(0, vl eLabel aAList), (4, .own 4), (5, vi x3.2), (7, .own 7), (10, vi x15.1), (72, vb (x16 != x15.1))], [(4, .arr 2 1 x3.1.length (x3.1.map (eI .i64))), (7, .arr 2 1 x15.2.length (x15.2.map (eI .i64)))]⟩ ?_
  refine SRun.nil ?_
  refine nx_n ?_
  refine swp_cond (b := (x16 != x15.1)) (by kernel_rfl) (fun hb => ?_) (fun hb => ?_)
  replace h := cond_t hb h
  refine swp_seq ?_
  refine swp_reg ?_
  refine SRun.ck tbok 1 ⟨96, [(2, vb false)], []⟩ ?_
  refine SRun.nil ?_
  refine nx_n ?_
  refine swp_ret ?_
  replace h := Option.some.inj h
  subst h
  exact nx_r (q_fr (fin1 (by kernel_rfl) (finV rfl SV.flat_of (holds_t (by kernel_rfl)))))
  replace h := cond_f hb h
  refine swp_skip ?_
  refine nx_n ?_
  refine swp_seq ?_
  refine swp_reg ?_
  refine SRun.ck tbok 1 ⟨96, [(4, .own 4), (5, vi x3.2), (7, .own 7), (10, vi x15.1), (74, vl eLabel aAList)], [(4, .arr 2 1 x3.1.length (x3.1.map (eI .i64))), (7, .arr 2 1 x15.2.length (x15.2.map (eI .i64)))]⟩ ?_
  obtain ⟨x17, hx17, h⟩ := bind_some h
  refine SRun.ls (x_lstep_call (f := 8) (caps := []) (xs := [vl eLabel aAList]) (ys := [vl eLabel aAList]) (res := ⟨[.own 52 4 x17.length (x17.map eLabel)], [], false⟩) (x := .own 75) (y := some (.arr 52 4 x17.length (x17.map eLabel))) rfl ents8 (laws_toLabelS_run aAList _ hx17) rfl (by intro hc; cases hc)) ?_
  obtain ⟨x18, hx18, h⟩ := bind_some h
  refine SRun.ls (x_lstep_call (f := 16) (caps := []) (xs := [.own 75]) (ys := [vl eLabel x17]) (res := ⟨[.own 2 1 x18.1.length (x18.1.map (eI .i64)), .v (vi x18.2)], [], false⟩) (x := .tup [.own 76, vi x18.2]) (y := some (.arr 2 1 x18.1.length (x18.1.map (eI .i64)))) rfl ents16 (impl_GreedyPlacement_run x17 _ hx18) rfl (by intro hc; cases hc)) ?_
  refine SRun.ck tbok 5 ⟨96, [(4, .own 4), (5, vi x3.2), (7, .own 7), (10, vi x15.1), (12, .own 76), (13, vi x18.2)], [(4, .arr 2 1 x3.1.length (x3.1.map (eI .i64))), (7, .arr 2 1 x15.2.length (x15.2.map (eI .i64))), (76, .arr 2 1 x18.1.length (x18.1.map (eI .i64)))]⟩ ?_
  refine SRun.nil ?_
  refine nx_n ?_
  refine swp_seq ?_
  refine swp_seq ?_
  refine swp_regJ h (fun j20 => ⟨96, [(7, .own 7), (10, vi x15.1), (87, vb j20)], [(7, .arr 2 1 x15.2.length (x15.2.map (eI .i64)))]⟩) (fun v21 h => ?_) (fun j20 h => ?_)
  refine SRun.ck tbok 2 ⟨96, [(5, vi x3.2), (7, .own 7), (10, vi x15.1), (13, vi x18.2), (79, .own 76), (80, .own 4)], [(4, .arr 2 1 x3.1.length (x3.1.map (eI .i64))), (7, .arr 2 1 x15.2.length (x15.2.map (eI .i64))), (76, .arr 2 1 x18.1.length (x18.1.map (eI .i64)))]⟩ ?_
  obtain ⟨x19, hx19, h⟩ := bind_some h
  refine SRun.ls (x_lstep_call (f := 10) (caps := []) (xs := [.own 76, .own 4]) (ys := [vl (eI .i64) x18.1, vl (eI .i64) x3.1]) (res := ⟨[.v (vb x19)], [], false⟩) (x := vb x19) (y := none) rfl ents10 (laws_eqInt64S_run x18.1 x3.1 _ hx19) rfl (by intro hc; cases hc)) ?_
  refine SRun.ck tbok 2 ⟨96, [(5, vi x3.2), (7, .own 7), (10, vi x15.1), (13, vi x18.2), (83, vb (!x19))], [(7, .arr 2 1 x15.2.length (x15.2.map (eI .i64)))]⟩ ?_
  refine SRun.cut [(83, fun b => b)] (b := (!x19)) (by kernel_rfl) (fun hb => ?_) (fun hb => ?_)
  replace h := cond_t hb h
  refine SRun.ck tbok 4 ⟨96, [(7, .own 7), (10, vi x15.1), (87, vb true)], [(7, .arr 2 1 x15.2.length (x15.2.map (eI .i64)))]⟩ ?_
  refine SRun.nil ?_
  replace h := Option.some.inj h
  subst h
  exact Le.sub0
  replace h := cond_f hb h
  refine SRun.ck tbok 4 ⟨96, [(7, .own 7), (10, vi x15.1), (87, vb (x18.2 != x3.2))], [(7, .arr 2 1 x15.2.length (x15.2.map (eI .i64)))]⟩ ?_
  refine SRun.nil ?_
  replace h := Option.some.inj h
  subst h
  exact Le.sub0
  refine swp_cond (b := j20) (by kernel_rfl) (fun hb => ?_) (fun hb => ?_)
  replace h := cond_t hb h
  refine swp_seq ?_
  refine swp_reg ?_
  refine SRun.ck tbok 1 ⟨96, [(2, vb false)], []⟩ ?_
  refine SRun.nil ?_
  refine nx_n ?_
  refine swp_ret ?_
  replace h := Option.some.inj h
  subst h
  exact nx_r (q_fr (fin1 (by kernel_rfl) (finV rfl SV.flat_of (holds_t (by kernel_rfl)))))
  replace h := cond_f hb h
  refine swp_skip ?_
  refine nx_n ?_
  refine swp_seq ?_
  refine swp_reg ?_
  refine SRun.ck tbok 1 ⟨96, [(7, .own 7), (10, vi x15.1), (11, vi 1)], [(7, .arr 2 1 x15.2.length (x15.2.map (eI .i64)))]⟩ ?_
  refine SRun.nil ?_
  refine nx_n ?_
  refine swp_seq ?_
  refine swp_reg ?_
  refine SRun.ck tbok 2 ⟨96, [(10, vi x15.1), (88, .own 7), (89, vi 1)], [(7, .arr 2 1 x15.2.length (x15.2.map (eI .i64)))]⟩ ?_
  obtain ⟨x22, hx22, h⟩ := bind_some h
  refine SRun.ls (x_lstep_call (f := 14) (caps := []) (xs := [.own 7, vi 1]) (ys := [vl (eI .i64) x15.2, vi 1]) (res := ⟨[.v (vi x22)], [], false⟩) (x := vi x22) (y := none) rfl ents14 (laws_heldInt64S_run x15.2 1 _ hx22) rfl (by intro hc; cases hc)) ?_
  refine SRun.ck tbok 1 ⟨96, [(10, vi x15.1), (11, vi x22)], []⟩ ?_
  refine SRun.nil ?_
  refine nx_n ?_
  refine swp_seq ?_
  refine swp_seq ?_
  refine swp_reg ?_
  refine SRun.ck tbok 2 ⟨96, [(10, vi x15.1), (11, vi x22), (92, vb (decide (x22 < 0)))], []⟩ ?_
  refine SRun.nil ?_
  refine nx_n ?_
  refine swp_cond (b := (decide (x22 < 0))) (by kernel_rfl) (fun hb => ?_) (fun hb => ?_)
  replace h := cond_t hb h
  refine swp_seq ?_
  refine swp_reg ?_
  refine SRun.ck tbok 1 ⟨96, [(2, vb false)], []⟩ ?_
  refine SRun.nil ?_
  refine nx_n ?_
  refine swp_ret ?_
  replace h := Option.some.inj h
  subst h
  exact nx_r (q_fr (fin1 (by kernel_rfl) (finV rfl SV.flat_of (holds_t (by kernel_rfl)))))
  replace h := cond_f hb h
  refine swp_skip ?_
  refine nx_n ?_
  refine swp_seq ?_
  refine swp_seq ?_
  refine swp_reg ?_
  refine SRun.ck tbok 3 ⟨96, [(95, vb (x22 != x15.1))], []⟩ ?_
  refine SRun.nil ?_
  refine nx_n ?_
  refine swp_cond (b := (x22 != x15.1)) (by kernel_rfl) (fun hb => ?_) (fun hb => ?_)
  replace h := cond_t hb h
  refine swp_seq ?_
  refine swp_reg ?_
  refine SRun.ck tbok 1 ⟨96, [(2, vb false)], []⟩ ?_
  refine SRun.nil ?_
  refine nx_n ?_
  refine swp_ret ?_
  replace h := Option.some.inj h
  subst h
  exact nx_r (q_fr (fin1 (by kernel_rfl) (finV rfl SV.flat_of (holds_t (by kernel_rfl)))))
  replace h := cond_f hb h
  refine swp_skip ?_
  refine nx_n ?_
  refine swp_seq ?_
  refine swp_reg ?_
  refine SRun.ck tbok 1 ⟨96, [(2, vb true)], []⟩ ?_
  refine SRun.nil ?_
  refine nx_n ?_
  refine swp_ret ?_
  replace h := Option.some.inj h
  subst h
  exact q_fr (fin1 (by kernel_rfl) (finV rfl SV.flat_of (holds_t (by kernel_rfl))))
theorem ents4 : Ents Try.prog 4 := ents_of Try.func4 (by kernel_rfl) rfl
end Go.Proofs.Ytlhllbiikideeaa.Sh
