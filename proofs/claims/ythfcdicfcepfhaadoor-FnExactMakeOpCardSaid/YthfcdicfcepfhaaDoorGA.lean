/- Typed functions and the calls that do what they say. -/
import Derived.Test.YthfcdicfcepfhaaDoorGAp0
import Derived.Test.YthfcdicfcepfhaaDoorKA
import Derived.Test.YthfcdicfcepfhaaDoorKS
import Derived.Test.YthfcdicfcepfhaaDoorH1
namespace Go.Proofs.YthfcdicfcepfhaaDoor.Sh
open Go.RowKit
noncomputable def impl_rivalsOf (aLog : (List Op)) (aKey : ByteArray) : Option ((List Int)) :=
  (((forS (aLog.length : Int) (fun (i3 : Int) (s3 : (List Int)) => ((at' aLog i3).bind fun x7 => ((slices_ContainsFunc_Op_impl_rivalsOf_1 aLog aKey x7).bind fun x8 => (bif ((x7.Key.toList == aKey.toList) && (!x8)) then ((app' s3 ([i3] : List Int)).bind fun x9 => some x9) else some s3)))) (fun (s3 : (List Int)) => s3) 0 ([] : List Int))).bind fun (j1 : (List Int)) => some j1)
set_option maxRecDepth 100000 in
set_option maxHeartbeats 4000000 in
theorem impl_rivalsOf_run (aLog : (List Op)) (aKey : ByteArray) (r : (List Int)) (h : impl_rivalsOf aLog aKey = some r) : SCall Tryd.prog 62 [.v (vl eOp aLog), .v (vs aKey)] ⟨[.own 2 1 r.length (r.map (eI .i64))], [], false⟩ := by
  refine scall_in Tryd.func62 rfl [(.tmp 4)] rfl (fun r => ⟨[.own 2 1 r.length (r.map (eI .i64))], [], false⟩) (r := r) ?_
  unfold impl_rivalsOf at h
  refine swp_seq ?_
  refine swp_reg ?_
  refine SRun.ck tbok 2 ⟨33, [(0, vl eOp aLog), (3, .ref 3 0)], [(3, .box [vs aKey])]⟩ ?_
  refine SRun.nil ?_
  refine nx_n ?_
  refine swp_seq ?_
  refine swp_reg ?_
  refine SRun.ck tbok 1 ⟨33, [(0, vl eOp aLog), (3, .ref 3 0), (5, .own 5)], [(3, .box [vs aKey]), (5, .arr 2 1 ([] : List Int).length (([] : List Int).map (eI .i64)))]⟩ ?_
  refine SRun.nil ?_
  refine nx_n ?_
  refine swp_seq ?_
  refine swp_seq ?_
  refine swp_reg ?_
  refine SRun.ck tbok 3 ⟨33, [(0, vl eOp aLog), (3, .ref 3 0), (5, .own 5), (9, vl eOp aLog), (10, vi (aLog.length : Int)), (11, vi 0)], [(3, .box [vs aKey]), (5, .arr 2 1 ([] : List Int).length (([] : List Int).map (eI .i64)))]⟩ ?_
  refine SRun.nil ?_
  refine nx_n ?_
  refine swp_seqJ h (fun j1 => ⟨33, [(5, .own 5)], [(5, .arr 2 1 j1.length (j1.map (eI .i64)))]⟩) (fun v2 h => ?_) (fun j1 h => ?_)
  refine swp_blk (a := v2) ?_
  refine swp_lpL (r := v2) (s := (0, ([] : List Int))) _ (fun s3 => ⟨33, [(0, vl eOp aLog), (3, .ref 3 0), (5, .own 5), (9, vl eOp aLog), (10, vi (aLog.length : Int)), (11, vi s3.1)], [(3, .box [vs aKey]), (5, .arr 2 1 s3.2.length (s3.2.map (eI .i64)))]⟩) _ (Le.sub0) h (fun s3 v4 h => ?_)
  refine swp_seq ?_
  refine swp_reg ?_
  refine SRun.ck tbok 1 ⟨33, [(0, vl eOp aLog), (3, .ref 3 0), (5, .own 5), (9, vl eOp aLog), (10, vi (aLog.length : Int)), (11, vi s3.1), (12, vb (decide (s3.1 < (aLog.length : Int))))], [(3, .box [vs aKey]), (5, .arr 2 1 s3.2.length (s3.2.map (eI .i64)))]⟩ ?_
  refine SRun.nil ?_
  refine nx_n ?_
  refine swp_seq ?_
  refine swp_cond (b := (decide (s3.1 < (aLog.length : Int)))) (by kernel_rfl) (fun hb => ?_) (fun hb => ?_)
  replace h := cond_t hb h
  refine swp_skip ?_
  refine nx_n ?_
  refine swp_seq ?_
  refine swp_seqJ h (fun j5 => ⟨33, [(0, vl eOp aLog), (3, .ref 3 0), (5, .own 5), (9, vl eOp aLog), (10, vi (aLog.length : Int)), (11, vi s3.1)], [(3, .box [vs aKey]), (5, .arr 2 1 j5.length (j5.map (eI .i64)))]⟩) (fun v6 h => ?_) (fun j5 h => ?_)
  refine swp_blk (a := v6) ?_
  refine swp_seq ?_
  refine swp_reg ?_
  refine SRun.ck tbok 1 ⟨33, [(0, vl eOp aLog), (3, .ref 3 0), (5, .own 5), (9, vl eOp aLog), (10, vi (aLog.length : Int)), (11, vi s3.1), (13, vi s3.1)], [(3, .box [vs aKey]), (5, .arr 2 1 s3.2.length (s3.2.map (eI .i64)))]⟩ ?_
  obtain ⟨x7, hx7, h⟩ := bind_some h
  refine SRun.ls (x_index (L := aLog) (f := eOp) (ti := ti25) (tj := ti61) (e := 61) (k := .i64) tbok rfl hx7) ?_
  refine SRun.ck tbok 3 ⟨33, [(0, vl eOp aLog), (3, .ref 3 0), (5, .own 5), (6, vi s3.1), (7, .ref 7 0), (9, vl eOp aLog), (10, vi (aLog.length : Int)), (11, vi s3.1), (15, .agg [vi x7.Office, vi x7.Number, vs x7.Key, vs x7.Text, vl (eI .i64) x7.Seen])], [(3, .box [vs aKey]), (5, .arr 2 1 s3.2.length (s3.2.map (eI .i64))), (7, .box [vi 0, vi 0, vs (ByteArray.mk #[]), vs (ByteArray.mk #[]), vl (eI .i64) ([] : List Int)])]⟩ ?_
  refine SRun.estep (x_estep_store (d := 7) (k := 0) (ti := ti61) (cs := [vi 0, vi 0, vs (ByteArray.mk #[]), vs (ByteArray.mk #[]), vl (eI .i64) ([] : List Int)]) (vs := [vi x7.Office, vi x7.Number, vs x7.Key, vs x7.Text, vl (eI .i64) x7.Seen]) (v := .agg [vi x7.Office, vi x7.Number, vs x7.Key, vs x7.Text, vl (eI .i64) x7.Seen]) tbok rfl rfl) ?_
  refine SRun.nil ?_
  refine nx_n ?_
  refine swp_seq ?_
  refine swp_reg ?_
  refine SRun.ck tbok 2 ⟨33, [(0, vl eOp aLog), (3, .ref 3 0), (5, .own 5), (6, vi s3.1), (7, .ref 7 0), (9, vl eOp aLog), (10, vi (aLog.length : Int)), (11, vi s3.1), (16, vl eOp aLog), (17, .clo 85 [.ref 3 0, .ref 7 0])], [(3, .box [vs aKey]), (5, .arr 2 1 s3.2.length (s3.2.map (eI .i64))), (7, .box [vi x7.Office, vi x7.Number, vs x7.Key, vs x7.Text, vl (eI .i64) x7.Seen])]⟩ ?_
  obtain ⟨x8, hx8, h⟩ := bind_some h
  refine SRun.ls (x_lstep_call (f := 84) (caps := []) (xs := [vl eOp aLog, .clo 85 [.ref 3 0, .ref 7 0]]) (ys := [vl eOp aLog, .clo 85 [.ptr [vs aKey] 0, .ptr [vi x7.Office, vi x7.Number, vs x7.Key, vs x7.Text, vl (eI .i64) x7.Seen] 0]]) (res := ⟨[.v (vb x8)], [], false⟩) (x := vb x8) (y := none) rfl ents84 (slices_ContainsFunc_Op_impl_rivalsOf_1_run aLog aKey x7 _ hx8) rfl (by intro hc; cases hc)) ?_
  refine SRun.ck tbok 1 ⟨33, [(0, vl eOp aLog), (3, .ref 3 0), (5, .own 5), (6, vi s3.1), (7, .ref 7 0), (8, vb x8), (9, vl eOp aLog), (10, vi (aLog.length : Int)), (11, vi s3.1)], [(3, .box [vs aKey]), (5, .arr 2 1 s3.2.length (s3.2.map (eI .i64))), (7, .box [vi x7.Office, vi x7.Number, vs x7.Key, vs x7.Text, vl (eI .i64) x7.Seen])]⟩ ?_
  refine SRun.nil ?_
  refine nx_n ?_
  refine swp_seq ?_
  refine swp_regP ⟨33, [(0, vl eOp aLog), (3, .ref 3 0), (5, .own 5), (6, vi s3.1), (9, vl eOp aLog), (10, vi (aLog.length : Int)), (11, vi s3.1), (26, vb ((x7.Key.toList == aKey.toList) && (!x8)))], [(3, .box [vs aKey]), (5, .arr 2 1 s3.2.length (s3.2.map (eI .i64)))]⟩ ?_ ?_
  refine SRun.ck tbok 5 ⟨33, [(0, vl eOp aLog), (3, .ref 3 0), (5, .own 5), (6, vi s3.1), (8, vb x8), (9, vl eOp aLog), (10, vi (aLog.length : Int)), (11, vi s3.1), (23, vb (x7.Key.toList == aKey.toList))], [(3, .box [vs aKey]), (5, .arr 2 1 s3.2.length (s3.2.map (eI .i64)))]⟩ ?_
  generalize (x7.Key.toList == aKey.toList) = bb
  cases bb
  refine SRun.ck tbok 3 ⟨33, [(0, vl eOp aLog), (3, .ref 3 0), (5, .own 5), (6, vi s3.1), (9, vl eOp aLog), (10, vi (aLog.length : Int)), (11, vi s3.1), (26, vb false)], [(3, .box [vs aKey]), (5, .arr 2 1 s3.2.length (s3.2.map (eI .i64)))]⟩ ?_
  exact SRun.nil (Le.sub0)
  refine SRun.ck tbok 3 ⟨33, [(0, vl eOp aLog), (3, .ref 3 0), (5, .own 5), (6, vi s3.1), (9, vl eOp aLog), (10, vi (aLog.length : Int)), (11, vi s3.1), (26, vb (!x8))], [(3, .box [vs aKey]), (5, .arr 2 1 s3.2.length (s3.2.map (eI .i64)))]⟩ ?_
  exact SRun.nil (Le.sub0)
  refine swp_cond (b := ((x7.Key.toList == aKey.toList) && (!x8))) (by kernel_rfl) (fun hb => ?_) (fun hb => ?_)
  replace h := cond_t hb h
  refine swp_reg ?_
  refine SRun.ck tbok 3 ⟨33, [(0, vl eOp aLog), (3, .ref 3 0), (9, vl eOp aLog), (10, vi (aLog.length : Int)), (11, vi s3.1), (27, .own 5), (29, .own 29)], [(3, .box [vs aKey]), (5, .arr 2 1 s3.2.length (s3.2.map (eI .i64))), (29, .arr 2 1 ([s3.1] : List Int).length (([s3.1] : List Int).map (eI .i64)))]⟩ ?_
  obtain ⟨x9, hx9, h⟩ := bind_some h
  refine SRun.estep (x_append (f := (eI .i64)) (t := 32) (ti := ti32) (tj := ti2) (zs := [.int .i64 0]) (e := 2) (m := 1) (d := 5) (xv := .own 29) hx9 tbok rfl rfl rfl rfl (x_src_o (e := 2))) ?_
  refine SRun.ck tbok 1 ⟨33, [(0, vl eOp aLog), (3, .ref 3 0), (5, .own 30), (9, vl eOp aLog), (10, vi (aLog.length : Int)), (11, vi s3.1)], [(3, .box [vs aKey]), (30, .arr 2 1 x9.length (x9.map (eI .i64)))]⟩ ?_
  refine SRun.nil ?_
  replace h := Option.some.inj h
  subst h
  exact q_bn (q_j ((Le.sub' ([(0, vl eOp aLog), (3, .ref 3 0), (5, .own 30), (9, vl eOp aLog), (10, vi (aLog.length : Int)), (11, vi s3.1)] : List (Nat × SV)) ([(3, .box [vs aKey]), (30, .arr 2 1 x9.length (x9.map (eI .i64)))] : List (Nat × SO)) (by kernel_rfl) (by kernel_rfl)).trans ((Le.ren' (d := 30) (e := 5) (by kernel_rfl) (by kernel_rfl) (by kernel_rfl)).trans (Le.sub0))))
  replace h := cond_f hb h
  refine swp_skip ?_
  replace h := Option.some.inj h
  subst h
  exact q_bn (q_j (Le.sub0))
  refine swp_reg ?_
  refine SRun.ck tbok 2 ⟨33, [(0, vl eOp aLog), (3, .ref 3 0), (5, .own 5), (9, vl eOp aLog), (10, vi (aLog.length : Int)), (11, vi (w64 (s3.1 + 1)))], [(3, .box [vs aKey]), (5, .arr 2 1 j5.length (j5.map (eI .i64)))]⟩ ?_
  refine SRun.nil ?_
  replace h := Option.some.inj h
  subst h
  exact q_l (Le.sub0)
  replace h := cond_f hb h
  refine swp_exit ?_
  replace h := Option.some.inj h
  subst h
  exact nx_e (q_re (q_bh (q_j (Le.sub0))))
  refine swp_seq ?_
  refine swp_reg ?_
  refine SRun.ck tbok 2 ⟨33, [(4, .own 5)], [(5, .arr 2 1 j1.length (j1.map (eI .i64)))]⟩ ?_
  refine SRun.nil ?_
  refine nx_n ?_
  refine swp_ret ?_
  replace h := Option.some.inj h
  subst h
  exact q_fr (fin1 (by kernel_rfl) (finO (d := 5) (holds_t (by kernel_rfl)) (by kernel_rfl) (flat_map (eI_flat .i64) _) (by kernel_rfl)))
theorem ents62 : Ents Tryd.prog 62 := ents_of Tryd.func62 (by kernel_rfl) rfl
noncomputable def impl_textOf (aLog : (List Op)) (aKey : ByteArray) : Option (ByteArray × Bool) :=
  ((impl_rivalsOf aLog aKey).bind fun x1 => (((forS (x1.length : Int) (fun (i4 : Int) (s4 : Int) => ((at' x1 i4).bind fun x8 => (((bif (decide (s4 < 0)) then some true else ((at' aLog x8).bind fun x9 => ((at' aLog s4).bind fun x10 => some (decide (x9.Office > x10.Office)))))).bind fun (j11 : Bool) => (bif j11 then some x8 else some s4)))) (fun (s4 : Int) => s4) 0 (-1))).bind fun (j2 : Int) => (bif (decide (j2 < 0)) then some ((ByteArray.mk #[]), false) else ((at' aLog j2).bind fun x13 => some (x13.Text, true)))))
set_option maxRecDepth 100000 in
set_option maxHeartbeats 4000000 in
theorem impl_textOf_run (aLog : (List Op)) (aKey : ByteArray) (r : ByteArray × Bool) (h : impl_textOf aLog aKey = some r) : SCall Tryd.prog 60 [.v (vl eOp aLog), .v (vs aKey)] ⟨[.v (vs r.1), .v (vb r.2)], [], false⟩ := by
  refine scall_in Tryd.func60 rfl [(.tmp 4), (.tmp 5)] rfl (fun r => ⟨[.v (vs r.1), .v (vb r.2)], [], false⟩) (r := r) ?_
  unfold impl_textOf at h
  refine swp_seq ?_
  refine swp_reg ?_
  refine SRun.ck tbok 2 ⟨41, [(0, vl eOp aLog), (1, vs aKey)], []⟩ ?_
  refine SRun.nil ?_
  refine nx_n ?_
  refine swp_seq ?_
  refine swp_reg ?_
  refine SRun.ck tbok 1 ⟨41, [(0, vl eOp aLog), (1, vs aKey), (6, vi (-1))], []⟩ ?_
  refine SRun.nil ?_
  refine nx_n ?_
  refine swp_seq ?_
  refine swp_seq ?_
  refine swp_reg ?_
  refine SRun.ck tbok 2 ⟨41, [(0, vl eOp aLog), (6, vi (-1)), (9, vl eOp aLog), (10, vs aKey)], []⟩ ?_
  obtain ⟨x1, hx1, h⟩ := bind_some h
  refine SRun.ls (x_lstep_call (f := 62) (caps := []) (xs := [vl eOp aLog, vs aKey]) (ys := [vl eOp aLog, vs aKey]) (res := ⟨[.own 2 1 x1.length (x1.map (eI .i64))], [], false⟩) (x := .own 11) (y := some (.arr 2 1 x1.length (x1.map (eI .i64)))) rfl ents62 (impl_rivalsOf_run aLog aKey _ hx1) rfl (by intro hc; cases hc)) ?_
  refine SRun.ck tbok 2 ⟨41, [(0, vl eOp aLog), (6, vi (-1)), (11, .own 11), (12, vi (x1.length : Int)), (13, vi 0)], [(11, .arr 2 1 x1.length (x1.map (eI .i64)))]⟩ ?_
  refine SRun.nil ?_
  refine nx_n ?_
  refine swp_seqJ h (fun j2 => ⟨41, [(0, vl eOp aLog), (6, vi j2)], []⟩) (fun v3 h => ?_) (fun j2 h => ?_)
  refine swp_blk (a := v3) ?_
  refine swp_lpL (r := v3) (s := (0, (-1))) _ (fun s4 => ⟨41, [(0, vl eOp aLog), (6, vi s4.2), (11, .own 11), (12, vi (x1.length : Int)), (13, vi s4.1)], [(11, .arr 2 1 x1.length (x1.map (eI .i64)))]⟩) _ (Le.sub0) h (fun s4 v5 h => ?_)
  refine swp_seq ?_
  refine swp_reg ?_
  refine SRun.ck tbok 1 ⟨41, [(0, vl eOp aLog), (6, vi s4.2), (11, .own 11), (12, vi (x1.length : Int)), (13, vi s4.1), (14, vb (decide (s4.1 < (x1.length : Int))))], [(11, .arr 2 1 x1.length (x1.map (eI .i64)))]⟩ ?_
  refine SRun.nil ?_
  refine nx_n ?_
  refine swp_seq ?_
  refine swp_cond (b := (decide (s4.1 < (x1.length : Int)))) (by kernel_rfl) (fun hb => ?_) (fun hb => ?_)
  replace h := cond_t hb h
  refine swp_skip ?_
  refine nx_n ?_
  refine swp_seq ?_
  refine swp_seqJ h (fun j6 => ⟨41, [(0, vl eOp aLog), (6, vi j6), (11, .own 11), (12, vi (x1.length : Int)), (13, vi s4.1)], [(11, .arr 2 1 x1.length (x1.map (eI .i64)))]⟩) (fun v7 h => ?_) (fun j6 h => ?_)
  refine swp_blk (a := v7) ?_
  refine swp_seq ?_
  refine swp_reg ?_
  obtain ⟨x8, hx8, h⟩ := bind_some h
  refine SRun.ls (x_index_own (d := 11) (L := x1) (f := (eI .i64)) (ti := ti32) (tj := ti2) (e := 2) (e' := 2) (m := 1) (k := .i64) tbok rfl hx8) ?_
  refine SRun.ls (x_load_own (d := 11) (m := 1) (j := 0) (L := x1) (f := (eI .i64)) (ti := ti2) (e := 2) (v := vi x8) tbok rfl hx8) ?_
  refine SRun.ck tbok 1 ⟨41, [(0, vl eOp aLog), (6, vi s4.2), (8, vi x8), (11, .own 11), (12, vi (x1.length : Int)), (13, vi s4.1)], [(11, .arr 2 1 x1.length (x1.map (eI .i64)))]⟩ ?_
  refine SRun.nil ?_
  refine nx_n ?_
  refine swp_seq ?_
  refine swp_drJ mixed h (fun j11 => ⟨41, [(0, vl eOp aLog), (6, vi s4.2), (8, vi x8), (11, .own 11), (12, vi (x1.length : Int)), (13, vi s4.1), (31, vb j11)], [(11, .arr 2 1 x1.length (x1.map (eI .i64)))]⟩) (fun v12 h => ?_) (fun j11 h => ?_)
  refine DGo.chunk' tbok 3 (σ' := ⟨41, [(19, vb (decide (s4.2 < 0))), (18, vb (decide (s4.2 < 0))), (17, vi s4.2), (0, vl eOp aLog), (6, vi s4.2), (8, vi x8), (11, .own 11), (12, vi (x1.length : Int)), (13, vi s4.1)], [(11, .arr 2 1 x1.length (x1.map (eI .i64)))]⟩) (by kernel_rfl) ?_
  refine DGo.cut [(19, fun b => b), (18, fun b => b)] (b := (decide (s4.2 < 0))) (by kernel_rfl) (fun hb => ?_) (fun hb => ?_)
  replace h := cond_t hb h
  refine DGo.chunk' tbok 12 (σ' := ⟨41, [(31, vb true), (30, .tup []), (29, .tup []), (28, .tup []), (27, .tup []), (26, .tup []), (25, .tup []), (24, .tup []), (23, .tup []), (22, .tup []), (21, .tup []), (20, .tup []), (19, vb true), (18, vb true), (17, vi s4.2), (0, vl eOp aLog), (6, vi s4.2), (8, vi x8), (11, .own 11), (12, vi (x1.length : Int)), (13, vi s4.1)], [(11, .arr 2 1 x1.length (x1.map (eI .i64)))]⟩) (by kernel_rfl) ?_
  refine DGo.nil (by kernel_rfl) ?_
  replace h := Option.some.inj h
  subst h
  exact Le.sub0
  replace h := cond_f hb h
  refine DGo.chunk' tbok 2 (σ' := ⟨41, [(21, vi x8), (20, vl eOp aLog), (19, vb false), (18, vb false), (17, vi s4.2), (0, vl eOp aLog), (6, vi s4.2), (8, vi x8), (11, .own 11), (12, vi (x1.length : Int)), (13, vi s4.1)], [(11, .arr 2 1 x1.length (x1.map (eI .i64)))]⟩) (by kernel_rfl) ?_
  obtain ⟨x9, hx9, h⟩ := bind_some h
  refine DGo.step (x_index (L := aLog) (f := eOp) (ti := ti25) (tj := ti61) (e := 61) (k := .i64) tbok rfl hx9) ?_
  refine DGo.chunk' tbok 4 (σ' := ⟨41, [(26, vi s4.2), (25, vl eOp aLog), (24, vi x9.Office), (23, .ptr ((eOp x9).map .tr) 0), (22, .ptr ((eOp x9).map .tr) 0), (21, vi x8), (20, vl eOp aLog), (19, vb false), (18, vb false), (17, vi s4.2), (0, vl eOp aLog), (6, vi s4.2), (8, vi x8), (11, .own 11), (12, vi (x1.length : Int)), (13, vi s4.1)], [(11, .arr 2 1 x1.length (x1.map (eI .i64)))]⟩) (by kernel_rfl) ?_
  obtain ⟨x10, hx10, h⟩ := bind_some h
  refine DGo.step (x_index (L := aLog) (f := eOp) (ti := ti25) (tj := ti61) (e := 61) (k := .i64) tbok rfl hx10) ?_
  refine DGo.chunk' tbok 4 (σ' := ⟨41, [(31, vb (decide (x9.Office > x10.Office))), (30, vb (decide (x9.Office > x10.Office))), (29, vi x10.Office), (28, .ptr ((eOp x10).map .tr) 0), (27, .ptr ((eOp x10).map .tr) 0), (26, vi s4.2), (25, vl eOp aLog), (24, vi x9.Office), (23, .ptr ((eOp x9).map .tr) 0), (22, .ptr ((eOp x9).map .tr) 0), (21, vi x8), (20, vl eOp aLog), (19, vb false), (18, vb false), (17, vi s4.2), (0, vl eOp aLog), (6, vi s4.2), (8, vi x8), (11, .own 11), (12, vi (x1.length : Int)), (13, vi s4.1)], [(11, .arr 2 1 x1.length (x1.map (eI .i64)))]⟩) (by kernel_rfl) ?_
  refine DGo.nil (by kernel_rfl) ?_
  replace h := Option.some.inj h
  subst h
  exact Le.sub0
  refine swp_cond (b := j11) (by kernel_rfl) (fun hb => ?_) (fun hb => ?_)
  replace h := cond_t hb h
  refine swp_reg ?_
  refine SRun.ck tbok 2 ⟨41, [(0, vl eOp aLog), (6, vi x8), (11, .own 11), (12, vi (x1.length : Int)), (13, vi s4.1)], [(11, .arr 2 1 x1.length (x1.map (eI .i64)))]⟩ ?_
  refine SRun.nil ?_
  replace h := Option.some.inj h
  subst h
  exact q_bn (q_j (Le.sub0))
  replace h := cond_f hb h
  refine swp_skip ?_
  replace h := Option.some.inj h
  subst h
  exact q_bn (q_j (Le.sub0))
  refine swp_reg ?_
  refine SRun.ck tbok 2 ⟨41, [(0, vl eOp aLog), (6, vi j6), (11, .own 11), (12, vi (x1.length : Int)), (13, vi (w64 (s4.1 + 1)))], [(11, .arr 2 1 x1.length (x1.map (eI .i64)))]⟩ ?_
  refine SRun.nil ?_
  replace h := Option.some.inj h
  subst h
  exact q_l (Le.sub0)
  replace h := cond_f hb h
  refine swp_exit ?_
  replace h := Option.some.inj h
  subst h
  exact nx_e (q_re (q_bh (q_j (Le.sub0))))
  refine swp_seq ?_
  refine swp_seq ?_
  refine swp_reg ?_
  refine SRun.ck tbok 2 ⟨41, [(0, vl eOp aLog), (6, vi j2), (35, vb (decide (j2 < 0)))], []⟩ ?_
  refine SRun.nil ?_
  refine nx_n ?_
  refine swp_cond (b := (decide (j2 < 0))) (by kernel_rfl) (fun hb => ?_) (fun hb => ?_)
  replace h := cond_t hb h
  refine swp_seq ?_
  refine swp_reg ?_
  refine SRun.ck tbok 2 ⟨41, [(4, vs (ByteArray.mk #[])), (5, vb false)], []⟩ ?_
  refine SRun.nil ?_
  refine nx_n ?_
  refine swp_ret ?_
  replace h := Option.some.inj h
  subst h
  exact nx_r (q_fr (fin2 (by kernel_rfl) (finV rfl SV.flat_of (holds_t (by kernel_rfl))) (finV rfl SV.flat_of (holds_t (by kernel_rfl)))))
  replace h := cond_f hb h
  refine swp_skip ?_
  refine nx_n ?_
  refine swp_seq ?_
  refine swp_reg ?_
  refine SRun.ck tbok 2 ⟨41, [(36, vl eOp aLog), (37, vi j2)], []⟩ ?_
  obtain ⟨x13, hx13, h⟩ := bind_some h
  refine SRun.ls (x_index (L := aLog) (f := eOp) (ti := ti25) (tj := ti61) (e := 61) (k := .i64) tbok rfl hx13) ?_
  refine SRun.ck tbok 4 ⟨41, [(4, vs x13.Text), (5, vb true)], []⟩ ?_
  refine SRun.nil ?_
  refine nx_n ?_
  refine swp_ret ?_
  replace h := Option.some.inj h
  subst h
  exact q_fr (fin2 (by kernel_rfl) (finV rfl SV.flat_of (holds_t (by kernel_rfl))) (finV rfl SV.flat_of (holds_t (by kernel_rfl))))
theorem ents60 : Ents Tryd.prog 60 := ents_of Tryd.func60 (by kernel_rfl) rfl
noncomputable def impl_TextOf (aLog : (List Op)) (aKey : ByteArray) : Option (ByteArray × Int) :=
  ((impl_IsLog aLog).bind fun x1 => (bif (!x1) then some ((ByteArray.mk #[]), 1) else ((impl_textOf aLog aKey).bind fun x2 => (bif (!x2.2) then some ((ByteArray.mk #[]), 4) else some (x2.1, 0)))))
set_option maxRecDepth 100000 in
set_option maxHeartbeats 4000000 in
theorem impl_TextOf_run (aLog : (List Op)) (aKey : ByteArray) (r : ByteArray × Int) (h : impl_TextOf aLog aKey = some r) : SCall Tryd.prog 29 [.v (vl eOp aLog), .v (vs aKey)] ⟨[.v (vs r.1), .v (vi r.2)], [], false⟩ := by
  refine scall_in Tryd.func29 rfl [(.tmp 4), (.tmp 5)] rfl (fun r => ⟨[.v (vs r.1), .v (vi r.2)], [], false⟩) (r := r) ?_
  unfold impl_TextOf at h
  refine swp_seq ?_
  refine swp_reg ?_
  refine SRun.ck tbok 2 ⟨20, [(0, vl eOp aLog), (1, vs aKey)], []⟩ ?_
  refine SRun.nil ?_
  refine nx_n ?_
  refine swp_seq ?_
  refine swp_seq ?_
  refine swp_reg ?_
  refine SRun.ck tbok 1 ⟨20, [(0, vl eOp aLog), (1, vs aKey), (8, vl eOp aLog)], []⟩ ?_
  obtain ⟨x1, hx1, h⟩ := bind_some h
  refine SRun.ls (x_lstep_call (f := 15) (caps := []) (xs := [vl eOp aLog]) (ys := [vl eOp aLog]) (res := ⟨[.v (vb x1)], [], false⟩) (x := vb x1) (y := none) rfl ents15 (impl_IsLog_run aLog _ hx1) rfl (by intro hc; cases hc)) ?_
  refine SRun.ck tbok 1 ⟨20, [(0, vl eOp aLog), (1, vs aKey), (10, vb (!x1))], []⟩ ?_
  refine SRun.nil ?_
  refine nx_n ?_
  refine swp_cond (b := (!x1)) (by kernel_rfl) (fun hb => ?_) (fun hb => ?_)
  replace h := cond_t hb h
  refine swp_seq ?_
  refine swp_reg ?_
  refine SRun.ck tbok 2 ⟨20, [(4, vs (ByteArray.mk #[])), (5, vi 1)], []⟩ ?_
  refine SRun.nil ?_
  refine nx_n ?_
  refine swp_ret ?_
  replace h := Option.some.inj h
  subst h
  exact nx_r (q_fr (fin2 (by kernel_rfl) (finV rfl SV.flat_of (holds_t (by kernel_rfl))) (finV rfl SV.flat_of (holds_t (by kernel_rfl)))))
  replace h := cond_f hb h
  refine swp_skip ?_
  refine nx_n ?_
  refine swp_seq ?_
  refine swp_reg ?_
  refine SRun.ck tbok 2 ⟨20, [(12, vl eOp aLog), (13, vs aKey)], []⟩ ?_
  obtain ⟨x2, hx2, h⟩ := bind_some h
  refine SRun.ls (x_lstep_call (f := 60) (caps := []) (xs := [vl eOp aLog, vs aKey]) (ys := [vl eOp aLog, vs aKey]) (res := ⟨[.v (vs x2.1), .v (vb x2.2)], [], false⟩) (x := .tup [vs x2.1, vb x2.2]) (y := none) rfl ents60 (impl_textOf_run aLog aKey _ hx2) rfl (by intro hc; cases hc)) ?_
  refine SRun.ck tbok 5 ⟨20, [(6, vs x2.1), (7, vb x2.2)], []⟩ ?_
  refine SRun.nil ?_
  refine nx_n ?_
  refine swp_seq ?_
  refine swp_seq ?_
  refine swp_reg ?_
  refine SRun.ck tbok 2 ⟨20, [(6, vs x2.1), (18, vb (!x2.2))], []⟩ ?_
  refine SRun.nil ?_
  refine nx_n ?_
  refine swp_cond (b := (!x2.2)) (by kernel_rfl) (fun hb => ?_) (fun hb => ?_)
  replace h := cond_t hb h
  refine swp_seq ?_
  refine swp_reg ?_
  refine SRun.ck tbok 2 ⟨20, [(4, vs (ByteArray.mk #[])), (5, vi 4)], []⟩ ?_
  refine SRun.nil ?_
  refine nx_n ?_
  refine swp_ret ?_
  replace h := Option.some.inj h
  subst h
  exact nx_r (q_fr (fin2 (by kernel_rfl) (finV rfl SV.flat_of (holds_t (by kernel_rfl))) (finV rfl SV.flat_of (holds_t (by kernel_rfl)))))
  replace h := cond_f hb h
  refine swp_skip ?_
  refine nx_n ?_
  refine swp_seq ?_
  refine swp_reg ?_
  refine SRun.ck tbok 3 ⟨20, [(4, vs x2.1), (5, vi 0)], []⟩ ?_
  refine SRun.nil ?_
  refine nx_n ?_
  refine swp_ret ?_
  replace h := Option.some.inj h
  subst h
  exact q_fr (fin2 (by kernel_rfl) (finV rfl SV.flat_of (holds_t (by kernel_rfl))) (finV rfl SV.flat_of (holds_t (by kernel_rfl))))
theorem ents29 : Ents Tryd.prog 29 := ents_of Tryd.func29 (by kernel_rfl) rfl
noncomputable def laws_FnExactTextOf (aALog : (List Op)) (aAKey : ByteArray) : Option (Bool) :=
  (bif (decide ((aAKey.size : Int) > 1048576)) then some true else ((laws_szOpS aALog 1048576).bind fun x1 => (bif (decide (x1 < 0)) then some true else ((laws_toOpS aALog).bind fun x2 => ((spec_TextOf x2 aAKey).bind fun x3 => ((laws_toOpS aALog).bind fun x4 => ((impl_TextOf x4 aAKey).bind fun x5 => (bif ((!(x5.1.toList == x3.1.toList)) || (x5.2 != x3.2)) then some false else ((laws_toOpS aALog).bind fun x6 => ((laws_eqOpS x4 x6).bind fun x7 => (bif (!x7) then some false else some true)))))))))))
set_option maxRecDepth 100000 in
set_option maxHeartbeats 4000000 in
theorem laws_FnExactTextOf_run (aALog : (List Op)) (aAKey : ByteArray) (r : Bool) (h : laws_FnExactTextOf aALog aAKey = some r) : SCall Tryd.prog 7 [.v (vl eOp aALog), .v (vs aAKey)] ⟨[.v (vb r)], [], false⟩ := by
  refine scall_in Tryd.func7 rfl [(.tmp 4)] rfl (fun r => ⟨[.v (vb r)], [], false⟩) (r := r) ?_
  unfold laws_FnExactTextOf at h
  refine swp_seq ?_
  refine swp_reg ?_
  refine SRun.ck tbok 1 ⟨47, [(0, vl eOp aALog), (1, vs aAKey)], []⟩ ?_
  refine SRun.nil ?_
  refine nx_n ?_
  refine swp_seq ?_
  refine swp_seq ?_
  refine swp_reg ?_
  refine SRun.ck tbok 3 ⟨47, [(0, vl eOp aALog), (1, vs aAKey), (13, vb (decide ((aAKey.size : Int) > 1048576)))], []⟩ ?_
  refine SRun.nil ?_
  refine nx_n ?_
  refine swp_cond (b := (decide ((aAKey.size : Int) > 1048576))) (by kernel_rfl) (fun hb => ?_) (fun hb => ?_)
  replace h := cond_t hb h
  refine swp_seq ?_
  refine swp_reg ?_
  refine SRun.ck tbok 1 ⟨47, [(4, vb true)], []⟩ ?_
  refine SRun.nil ?_
  refine nx_n ?_
  refine swp_ret ?_
  replace h := Option.some.inj h
  subst h
  exact nx_r (q_fr (fin1 (by kernel_rfl) (finV rfl SV.flat_of (holds_t (by kernel_rfl)))))
  replace h := cond_f hb h
  refine swp_skip ?_
  refine nx_n ?_
  refine swp_seq ?_
  refine swp_reg ?_
  refine SRun.ck tbok 1 ⟨47, [(0, vl eOp aALog), (1, vs aAKey), (5, vi 1048576)], []⟩ ?_
  refine SRun.nil ?_
  refine nx_n ?_
  refine swp_seq ?_
  refine swp_reg ?_
  refine SRun.ck tbok 2 ⟨47, [(0, vl eOp aALog), (1, vs aAKey), (14, vl eOp aALog), (15, vi 1048576)], []⟩ ?_
  obtain ⟨x1, hx1, h⟩ := bind_some h
  refine SRun.ls (x_lstep_call (f := 12) (caps := []) (xs := [vl eOp aALog, vi 1048576]) (ys := [vl eOp aALog, vi 1048576]) (res := ⟨[.v (vi x1)], [], false⟩) (x := vi x1) (y := none) rfl ents12 (laws_szOpS_run aALog 1048576 _ hx1) rfl (by intro hc; cases hc)) ?_
  refine SRun.ck tbok 1 ⟨47, [(0, vl eOp aALog), (1, vs aAKey), (5, vi x1)], []⟩ ?_
  refine SRun.nil ?_
  refine nx_n ?_
  refine swp_seq ?_
  refine swp_seq ?_
  refine swp_reg ?_
  refine SRun.ck tbok 2 ⟨47, [(0, vl eOp aALog), (1, vs aAKey), (18, vb (decide (x1 < 0)))], []⟩ ?_
  refine SRun.nil ?_
  refine nx_n ?_
  refine swp_cond (b := (decide (x1 < 0))) (by kernel_rfl) (fun hb => ?_) (fun hb => ?_)
  replace h := cond_t hb h
  refine swp_seq ?_
  refine swp_reg ?_
  refine SRun.ck tbok 1 ⟨47, [(4, vb true)], []⟩ ?_
  refine SRun.nil ?_
  refine nx_n ?_
  refine swp_ret ?_
  replace h := Option.some.inj h
  subst h
  exact nx_r (q_fr (fin1 (by kernel_rfl) (finV rfl SV.flat_of (holds_t (by kernel_rfl)))))
  replace h := cond_f hb h
  refine swp_skip ?_
  refine nx_n ?_
  refine swp_seq ?_
  refine swp_reg ?_
  refine SRun.ck tbok 1 ⟨47, [(0, vl eOp aALog), (1, vs aAKey), (20, vl eOp aALog)], []⟩ ?_
  obtain ⟨x2, hx2, h⟩ := bind_some h
  refine SRun.ls (x_lstep_call (f := 14) (caps := []) (xs := [vl eOp aALog]) (ys := [vl eOp aALog]) (res := ⟨[.deep 61 5 x2.length [.flat, .flat, .flat, .flat, (.sl 2 1 [.flat])] (x2.map eOp)], [], false⟩) (x := .own 21) (y := some (.deep 61 5 x2.length [.flat, .flat, .flat, .flat, (.sl 2 1 [.flat])] (x2.map eOp))) rfl ents14 (laws_toOpS_run aALog _ hx2) rfl (by intro hc; cases hc)) ?_
  refine SRun.ck tbok 1 ⟨47, [(0, vl eOp aALog), (1, vs aAKey), (21, .own 21), (22, vs aAKey)], [(21, .deep 61 5 x2.length [.flat, .flat, .flat, .flat, (.sl 2 1 [.flat])] (x2.map eOp))]⟩ ?_
  obtain ⟨x3, hx3, h⟩ := bind_some h
  refine SRun.ls (x_lstep_call (f := 28) (caps := []) (xs := [.own 21, vs aAKey]) (ys := [vl eOp x2, vs aAKey]) (res := ⟨[.v (vs x3.1), .v (vi x3.2)], [], false⟩) (x := .tup [vs x3.1, vi x3.2]) (y := none) rfl ents28 (spec_TextOf_run x2 aAKey _ hx3) rfl (by intro hc; cases hc)) ?_
  refine SRun.ck tbok 5 ⟨47, [(0, vl eOp aALog), (1, vs aAKey), (6, vs x3.1), (7, vi x3.2)], []⟩ ?_
  refine SRun.nil ?_
  refine nx_n ?_
  refine swp_seq ?_
  refine swp_reg ?_
  refine SRun.ck tbok 1 ⟨47, [(0, vl eOp aALog), (1, vs aAKey), (6, vs x3.1), (7, vi x3.2), (26, vl eOp aALog)], []⟩ ?_
  obtain ⟨x4, hx4, h⟩ := bind_some h
  refine SRun.ls (x_lstep_call (f := 14) (caps := []) (xs := [vl eOp aALog]) (ys := [vl eOp aALog]) (res := ⟨[.deep 61 5 x4.length [.flat, .flat, .flat, .flat, (.sl 2 1 [.flat])] (x4.map eOp)], [], false⟩) (x := .own 27) (y := some (.deep 61 5 x4.length [.flat, .flat, .flat, .flat, (.sl 2 1 [.flat])] (x4.map eOp))) rfl ents14 (laws_toOpS_run aALog _ hx4) rfl (by intro hc; cases hc)) ?_
  refine SRun.ck tbok 1 ⟨47, [(0, vl eOp aALog), (1, vs aAKey), (6, vs x3.1), (7, vi x3.2), (8, .own 27)], [(27, .deep 61 5 x4.length [.flat, .flat, .flat, .flat, (.sl 2 1 [.flat])] (x4.map eOp))]⟩ ?_
  refine SRun.nil ?_
  refine nx_n ?_
  refine swp_seq ?_
  refine swp_reg ?_
  refine SRun.ck tbok 2 ⟨47, [(0, vl eOp aALog), (6, vs x3.1), (7, vi x3.2), (8, .own 27), (29, .own 27), (30, vs aAKey)], [(27, .deep 61 5 x4.length [.flat, .flat, .flat, .flat, (.sl 2 1 [.flat])] (x4.map eOp))]⟩ ?_
  obtain ⟨x5, hx5, h⟩ := bind_some h
  refine SRun.ls (x_lstep_call (f := 29) (caps := []) (xs := [.own 27, vs aAKey]) (ys := [vl eOp x4, vs aAKey]) (res := ⟨[.v (vs x5.1), .v (vi x5.2)], [], false⟩) (x := .tup [vs x5.1, vi x5.2]) (y := none) rfl ents29 (impl_TextOf_run x4 aAKey _ hx5) rfl (by intro hc; cases hc)) ?_
  refine SRun.ck tbok 5 ⟨47, [(0, vl eOp aALog), (6, vs x3.1), (7, vi x3.2), (8, .own 27), (9, vs x5.1), (10, vi x5.2)], [(27, .deep 61 5 x4.length [.flat, .flat, .flat, .flat, (.sl 2 1 [.flat])] (x4.map eOp))]⟩ ?_
  refine SRun.nil ?_
  refine nx_n ?_
  refine swp_seq ?_
  refine swp_seq ?_
  refine swp_regP ⟨47, [(0, vl eOp aALog), (8, .own 27), (41, vb ((!(x5.1.toList == x3.1.toList)) || (x5.2 != x3.2)))], [(27, .deep 61 5 x4.length [.flat, .flat, .flat, .flat, (.sl 2 1 [.flat])] (x4.map eOp))]⟩ ?_ ?_
  refine SRun.ck tbok 4 ⟨47, [(0, vl eOp aALog), (7, vi x3.2), (8, .own 27), (10, vi x5.2), (37, vb (!(x5.1.toList == x3.1.toList)))], [(27, .deep 61 5 x4.length [.flat, .flat, .flat, .flat, (.sl 2 1 [.flat])] (x4.map eOp))]⟩ ?_
  generalize (!(x5.1.toList == x3.1.toList)) = bb
  cases bb
  refine SRun.ck tbok 4 ⟨47, [(0, vl eOp aALog), (8, .own 27), (41, vb (x5.2 != x3.2))], [(27, .deep 61 5 x4.length [.flat, .flat, .flat, .flat, (.sl 2 1 [.flat])] (x4.map eOp))]⟩ ?_
  exact SRun.nil (Le.sub0)
  refine SRun.ck tbok 4 ⟨47, [(0, vl eOp aALog), (8, .own 27), (41, vb true)], [(27, .deep 61 5 x4.length [.flat, .flat, .flat, .flat, (.sl 2 1 [.flat])] (x4.map eOp))]⟩ ?_
  exact SRun.nil (Le.sub0)
  refine swp_cond (b := ((!(x5.1.toList == x3.1.toList)) || (x5.2 != x3.2))) (by kernel_rfl) (fun hb => ?_) (fun hb => ?_)
  replace h := cond_t hb h
  refine swp_seq ?_
  refine swp_reg ?_
  refine SRun.ck tbok 1 ⟨47, [(4, vb false)], []⟩ ?_
  refine SRun.nil ?_
  refine nx_n ?_
  refine swp_ret ?_
  replace h := Option.some.inj h
  subst h
  exact nx_r (q_fr (fin1 (by kernel_rfl) (finV rfl SV.flat_of (holds_t (by kernel_rfl)))))
  replace h := cond_f hb h
  refine swp_skip ?_
  refine nx_n ?_
  refine swp_seq ?_
  refine swp_seq ?_
  refine swp_reg ?_
  refine SRun.ck tbok 2 ⟨47, [(42, .own 27), (43, vl eOp aALog)], [(27, .deep 61 5 x4.length [.flat, .flat, .flat, .flat, (.sl 2 1 [.flat])] (x4.map eOp))]⟩ ?_
  obtain ⟨x6, hx6, h⟩ := bind_some h
  refine SRun.ls (x_lstep_call (f := 14) (caps := []) (xs := [vl eOp aALog]) (ys := [vl eOp aALog]) (res := ⟨[.deep 61 5 x6.length [.flat, .flat, .flat, .flat, (.sl 2 1 [.flat])] (x6.map eOp)], [], false⟩) (x := .own 44) (y := some (.deep 61 5 x6.length [.flat, .flat, .flat, .flat, (.sl 2 1 [.flat])] (x6.map eOp))) rfl ents14 (laws_toOpS_run aALog _ hx6) rfl (by intro hc; cases hc)) ?_
  obtain ⟨x7, hx7, h⟩ := bind_some h
  refine SRun.ls (x_lstep_call (f := 16) (caps := []) (xs := [.own 27, .own 44]) (ys := [vl eOp x4, vl eOp x6]) (res := ⟨[.v (vb x7)], [], false⟩) (x := vb x7) (y := none) rfl ents16 (laws_eqOpS_run x4 x6 _ hx7) rfl (by intro hc; cases hc)) ?_
  refine SRun.ck tbok 1 ⟨47, [(46, vb (!x7))], []⟩ ?_
  refine SRun.nil ?_
  refine nx_n ?_
  refine swp_cond (b := (!x7)) (by kernel_rfl) (fun hb => ?_) (fun hb => ?_)
  replace h := cond_t hb h
  refine swp_seq ?_
  refine swp_reg ?_
  refine SRun.ck tbok 1 ⟨47, [(4, vb false)], []⟩ ?_
  refine SRun.nil ?_
  refine nx_n ?_
  refine swp_ret ?_
  replace h := Option.some.inj h
  subst h
  exact nx_r (q_fr (fin1 (by kernel_rfl) (finV rfl SV.flat_of (holds_t (by kernel_rfl)))))
  replace h := cond_f hb h
  refine swp_skip ?_
  refine nx_n ?_
  refine swp_seq ?_
  refine swp_reg ?_
  refine SRun.ck tbok 1 ⟨47, [(4, vb true)], []⟩ ?_
  refine SRun.nil ?_
  refine nx_n ?_
  refine swp_ret ?_
  replace h := Option.some.inj h
  subst h
  exact q_fr (fin1 (by kernel_rfl) (finV rfl SV.flat_of (holds_t (by kernel_rfl))))
theorem ents7 : Ents Tryd.prog 7 := ents_of Tryd.func7 (by kernel_rfl) rfl
end Go.Proofs.YthfcdicfcepfhaaDoor.Sh
