/- Typed functions and the calls that do what they say. -/
import Derived.Test.YthfcdicfcepfhaaDoorFOp1
import Derived.Test.YthfcdicfcepfhaaDoorKA
import Derived.Test.YthfcdicfcepfhaaDoorKS
import Derived.Test.YthfcdicfcepfhaaDoorH1
namespace Go.Proofs.YthfcdicfcepfhaaDoor.Sh
open Go.RowKit
noncomputable def impl_isOp (aX : Op) : Option (Bool) :=
  ((((impl_within aX.Office 0 3).bind fun x1 => (bif x1 then (bif (decide (aX.Number ≥ 1)) then ((impl_IsWord aX.Key).bind fun x2 => (bif x2 then ((impl_IsPhrase aX.Text).bind fun x3 => (bif x3 then ((impl_isVector aX.Seen).bind fun x4 => (bif x4 then ((at' aX.Seen aX.Office).bind fun x5 => some (x5 == (w64 (aX.Number - 1)))) else some false)) else some false)) else some false)) else some false) else some false))).bind fun (j6 : Bool) => some j6)
set_option maxRecDepth 100000 in
set_option maxHeartbeats 4000000 in
theorem impl_isOp_run (aX : Op) (r : Bool) (h : impl_isOp aX = some r) : SCall Tryd.prog 49 [.v (.agg [vi aX.Office, vi aX.Number, vs aX.Key, vs aX.Text, vl (eI .i64) aX.Seen])] ⟨[.v (vb r)], [], false⟩ := by
  refine scall_in Tryd.func49 rfl [(.tmp 2)] rfl (fun r => ⟨[.v (vb r)], [], false⟩) (r := r) ?_
  unfold impl_isOp at h
  refine swp_seq ?_
  refine swp_reg ?_
  refine SRun.ck tbok 2 ⟨38, [(1, .ref 1 0)], [(1, .box [vi aX.Office, vi aX.Number, vs aX.Key, vs aX.Text, vl (eI .i64) aX.Seen])]⟩ ?_
  refine SRun.nil ?_
  refine nx_n ?_
  refine swp_seq ?_
  refine swp_drJ mixed h (fun j6 => ⟨38, [(2, vb j6)], []⟩) (fun v7 h => ?_) (fun j6 h => ?_)
  refine DGo.chunk' tbok 2 (σ' := ⟨38, [(4, vi aX.Office), (3, .ref 1 0), (1, .ref 1 0)], [(1, .box [vi aX.Office, vi aX.Number, vs aX.Key, vs aX.Text, vl (eI .i64) aX.Seen])]⟩) (by kernel_rfl) ?_
  obtain ⟨x1, hx1, h⟩ := bind_some h
  refine DGo.step (x_lstep_call (f := 64) (caps := []) (xs := [vi aX.Office, vi 0, vi 3]) (ys := [vi aX.Office, vi 0, vi 3]) (res := ⟨[.v (vb x1)], [], false⟩) (x := vb x1) (y := none) rfl ents64 (impl_within_run aX.Office 0 3 _ hx1) rfl (by intro hc; cases hc)) ?_
  refine DGo.chunk' tbok 1 (σ' := ⟨38, [(6, vb x1), (5, vb x1), (4, vi aX.Office), (3, .ref 1 0), (1, .ref 1 0)], [(1, .box [vi aX.Office, vi aX.Number, vs aX.Key, vs aX.Text, vl (eI .i64) aX.Seen])]⟩) (by kernel_rfl) ?_
  refine DGo.cut [(6, fun b => b), (5, fun b => b)] (b := x1) (by kernel_rfl) (fun hb => ?_) (fun hb => ?_)
  replace h := cond_t hb h
  refine DGo.chunk' tbok 5 (σ' := ⟨38, [(11, vb (decide (aX.Number ≥ 1))), (10, vb (decide (aX.Number ≥ 1))), (9, vb (decide (aX.Number ≥ 1))), (8, vi aX.Number), (7, .ref 1 1), (6, vb true), (5, vb true), (4, vi aX.Office), (3, .ref 1 0), (1, .ref 1 0)], [(1, .box [vi aX.Office, vi aX.Number, vs aX.Key, vs aX.Text, vl (eI .i64) aX.Seen])]⟩) (by kernel_rfl) ?_
  refine DGo.cut [(11, fun b => b), (10, fun b => b), (9, fun b => b)] (b := (decide (aX.Number ≥ 1))) (by kernel_rfl) (fun hb => ?_) (fun hb => ?_)
  replace h := cond_t hb h
  refine DGo.chunk' tbok 2 (σ' := ⟨38, [(13, vs aX.Key), (12, .ref 1 2), (11, vb true), (10, vb true), (9, vb true), (8, vi aX.Number), (7, .ref 1 1), (6, vb true), (5, vb true), (4, vi aX.Office), (3, .ref 1 0), (1, .ref 1 0)], [(1, .box [vi aX.Office, vi aX.Number, vs aX.Key, vs aX.Text, vl (eI .i64) aX.Seen])]⟩) (by kernel_rfl) ?_
  obtain ⟨x2, hx2, h⟩ := bind_some h
  refine DGo.step (x_lstep_call (f := 80) (caps := []) (xs := [vs aX.Key]) (ys := [vs aX.Key]) (res := ⟨[.v (vb x2)], [], false⟩) (x := vb x2) (y := none) rfl ents80 (impl_IsWord_run aX.Key _ hx2) rfl (by intro hc; cases hc)) ?_
  refine DGo.chunk' tbok 2 (σ' := ⟨38, [(16, vb x2), (15, vb x2), (14, vb x2), (13, vs aX.Key), (12, .ref 1 2), (11, vb true), (10, vb true), (9, vb true), (8, vi aX.Number), (7, .ref 1 1), (6, vb true), (5, vb true), (4, vi aX.Office), (3, .ref 1 0), (1, .ref 1 0)], [(1, .box [vi aX.Office, vi aX.Number, vs aX.Key, vs aX.Text, vl (eI .i64) aX.Seen])]⟩) (by kernel_rfl) ?_
  refine DGo.cut [(16, fun b => b), (15, fun b => b), (14, fun b => b)] (b := x2) (by kernel_rfl) (fun hb => ?_) (fun hb => ?_)
  replace h := cond_t hb h
  refine DGo.chunk' tbok 2 (σ' := ⟨38, [(18, vs aX.Text), (17, .ref 1 3), (16, vb true), (15, vb true), (14, vb true), (13, vs aX.Key), (12, .ref 1 2), (11, vb true), (10, vb true), (9, vb true), (8, vi aX.Number), (7, .ref 1 1), (6, vb true), (5, vb true), (4, vi aX.Office), (3, .ref 1 0), (1, .ref 1 0)], [(1, .box [vi aX.Office, vi aX.Number, vs aX.Key, vs aX.Text, vl (eI .i64) aX.Seen])]⟩) (by kernel_rfl) ?_
  obtain ⟨x3, hx3, h⟩ := bind_some h
  refine DGo.step (x_lstep_call (f := 81) (caps := []) (xs := [vs aX.Text]) (ys := [vs aX.Text]) (res := ⟨[.v (vb x3)], [], false⟩) (x := vb x3) (y := none) rfl ents81 (impl_IsPhrase_run aX.Text _ hx3) rfl (by intro hc; cases hc)) ?_
  refine DGo.chunk' tbok 2 (σ' := ⟨38, [(21, vb x3), (20, vb x3), (19, vb x3), (18, vs aX.Text), (17, .ref 1 3), (16, vb true), (15, vb true), (14, vb true), (13, vs aX.Key), (12, .ref 1 2), (11, vb true), (10, vb true), (9, vb true), (8, vi aX.Number), (7, .ref 1 1), (6, vb true), (5, vb true), (4, vi aX.Office), (3, .ref 1 0), (1, .ref 1 0)], [(1, .box [vi aX.Office, vi aX.Number, vs aX.Key, vs aX.Text, vl (eI .i64) aX.Seen])]⟩) (by kernel_rfl) ?_
  refine DGo.cut [(21, fun b => b), (20, fun b => b), (19, fun b => b)] (b := x3) (by kernel_rfl) (fun hb => ?_) (fun hb => ?_)
  replace h := cond_t hb h
  refine DGo.chunk' tbok 2 (σ' := ⟨38, [(23, vl (eI .i64) aX.Seen), (22, .ref 1 4), (21, vb true), (20, vb true), (19, vb true), (18, vs aX.Text), (17, .ref 1 3), (16, vb true), (15, vb true), (14, vb true), (13, vs aX.Key), (12, .ref 1 2), (11, vb true), (10, vb true), (9, vb true), (8, vi aX.Number), (7, .ref 1 1), (6, vb true), (5, vb true), (4, vi aX.Office), (3, .ref 1 0), (1, .ref 1 0)], [(1, .box [vi aX.Office, vi aX.Number, vs aX.Key, vs aX.Text, vl (eI .i64) aX.Seen])]⟩) (by kernel_rfl) ?_
  obtain ⟨x4, hx4, h⟩ := bind_some h
  refine DGo.step (x_lstep_call (f := 58) (caps := []) (xs := [vl (eI .i64) aX.Seen]) (ys := [vl (eI .i64) aX.Seen]) (res := ⟨[.v (vb x4)], [], false⟩) (x := vb x4) (y := none) rfl ents58 (impl_isVector_run aX.Seen _ hx4) rfl (by intro hc; cases hc)) ?_
  refine DGo.chunk' tbok 2 (σ' := ⟨38, [(26, vb x4), (25, vb x4), (24, vb x4), (23, vl (eI .i64) aX.Seen), (22, .ref 1 4), (21, vb true), (20, vb true), (19, vb true), (18, vs aX.Text), (17, .ref 1 3), (16, vb true), (15, vb true), (14, vb true), (13, vs aX.Key), (12, .ref 1 2), (11, vb true), (10, vb true), (9, vb true), (8, vi aX.Number), (7, .ref 1 1), (6, vb true), (5, vb true), (4, vi aX.Office), (3, .ref 1 0), (1, .ref 1 0)], [(1, .box [vi aX.Office, vi aX.Number, vs aX.Key, vs aX.Text, vl (eI .i64) aX.Seen])]⟩) (by kernel_rfl) ?_
  refine DGo.cut [(26, fun b => b), (25, fun b => b), (24, fun b => b)] (b := x4) (by kernel_rfl) (fun hb => ?_) (fun hb => ?_)
  replace h := cond_t hb h
  refine DGo.chunk' tbok 4 (σ' := ⟨38, [(30, vi aX.Office), (29, .ref 1 0), (28, vl (eI .i64) aX.Seen), (27, .ref 1 4), (26, vb true), (25, vb true), (24, vb true), (23, vl (eI .i64) aX.Seen), (22, .ref 1 4), (21, vb true), (20, vb true), (19, vb true), (18, vs aX.Text), (17, .ref 1 3), (16, vb true), (15, vb true), (14, vb true), (13, vs aX.Key), (12, .ref 1 2), (11, vb true), (10, vb true), (9, vb true), (8, vi aX.Number), (7, .ref 1 1), (6, vb true), (5, vb true), (4, vi aX.Office), (3, .ref 1 0), (1, .ref 1 0)], [(1, .box [vi aX.Office, vi aX.Number, vs aX.Key, vs aX.Text, vl (eI .i64) aX.Seen])]⟩) (by kernel_rfl) ?_
  obtain ⟨x5, hx5, h⟩ := bind_some h
  refine DGo.step (x_index (L := aX.Seen) (f := (eI .i64)) (ti := ti32) (tj := ti2) (e := 2) (k := .i64) tbok rfl hx5) ?_
  refine DGo.chunk' tbok 7 (σ' := ⟨38, [(2, vb (x5 == (w64 (aX.Number - 1)))), (37, vb (x5 == (w64 (aX.Number - 1)))), (36, vb (x5 == (w64 (aX.Number - 1)))), (35, vi (w64 (aX.Number - 1))), (34, vi aX.Number), (33, .ref 1 1), (32, vi x5), (31, .ptr (((eI .i64) x5).map .tr) 0), (30, vi aX.Office), (29, .ref 1 0), (28, vl (eI .i64) aX.Seen), (27, .ref 1 4), (26, vb true), (25, vb true), (24, vb true), (23, vl (eI .i64) aX.Seen), (22, .ref 1 4), (21, vb true), (20, vb true), (19, vb true), (18, vs aX.Text), (17, .ref 1 3), (16, vb true), (15, vb true), (14, vb true), (13, vs aX.Key), (12, .ref 1 2), (11, vb true), (10, vb true), (9, vb true), (8, vi aX.Number), (7, .ref 1 1), (6, vb true), (5, vb true), (4, vi aX.Office), (3, .ref 1 0), (1, .ref 1 0)], [(1, .box [vi aX.Office, vi aX.Number, vs aX.Key, vs aX.Text, vl (eI .i64) aX.Seen])]⟩) (by kernel_rfl) ?_
  refine DGo.nil (by kernel_rfl) ?_
  replace h := Option.some.inj h
  subst h
  exact Le.sub0
  replace h := cond_f hb h
  refine DGo.chunk' tbok 12 (σ' := ⟨38, [(2, vb false), (37, vb false), (36, .tup []), (35, .tup []), (34, .tup []), (33, .tup []), (32, .tup []), (31, .tup []), (30, .tup []), (29, .tup []), (28, .tup []), (27, .tup []), (26, vb false), (25, vb false), (24, vb false), (23, vl (eI .i64) aX.Seen), (22, .ref 1 4), (21, vb true), (20, vb true), (19, vb true), (18, vs aX.Text), (17, .ref 1 3), (16, vb true), (15, vb true), (14, vb true), (13, vs aX.Key), (12, .ref 1 2), (11, vb true), (10, vb true), (9, vb true), (8, vi aX.Number), (7, .ref 1 1), (6, vb true), (5, vb true), (4, vi aX.Office), (3, .ref 1 0), (1, .ref 1 0)], [(1, .box [vi aX.Office, vi aX.Number, vs aX.Key, vs aX.Text, vl (eI .i64) aX.Seen])]⟩) (by kernel_rfl) ?_
  refine DGo.nil (by kernel_rfl) ?_
  replace h := Option.some.inj h
  subst h
  exact Le.sub0
  replace h := cond_f hb h
  refine DGo.chunk' tbok 17 (σ' := ⟨38, [(2, vb false), (37, vb false), (36, .tup []), (35, .tup []), (34, .tup []), (33, .tup []), (32, .tup []), (31, .tup []), (30, .tup []), (29, .tup []), (28, .tup []), (27, .tup []), (26, vb false), (25, vb false), (24, .tup []), (23, .tup []), (22, .tup []), (21, vb false), (20, vb false), (19, vb false), (18, vs aX.Text), (17, .ref 1 3), (16, vb true), (15, vb true), (14, vb true), (13, vs aX.Key), (12, .ref 1 2), (11, vb true), (10, vb true), (9, vb true), (8, vi aX.Number), (7, .ref 1 1), (6, vb true), (5, vb true), (4, vi aX.Office), (3, .ref 1 0), (1, .ref 1 0)], [(1, .box [vi aX.Office, vi aX.Number, vs aX.Key, vs aX.Text, vl (eI .i64) aX.Seen])]⟩) (by kernel_rfl) ?_
  refine DGo.nil (by kernel_rfl) ?_
  replace h := Option.some.inj h
  subst h
  exact Le.sub0
  replace h := cond_f hb h
  refine DGo.chunk' tbok 22 (σ' := ⟨38, [(2, vb false), (37, vb false), (36, .tup []), (35, .tup []), (34, .tup []), (33, .tup []), (32, .tup []), (31, .tup []), (30, .tup []), (29, .tup []), (28, .tup []), (27, .tup []), (26, vb false), (25, vb false), (24, .tup []), (23, .tup []), (22, .tup []), (21, vb false), (20, vb false), (19, .tup []), (18, .tup []), (17, .tup []), (16, vb false), (15, vb false), (14, vb false), (13, vs aX.Key), (12, .ref 1 2), (11, vb true), (10, vb true), (9, vb true), (8, vi aX.Number), (7, .ref 1 1), (6, vb true), (5, vb true), (4, vi aX.Office), (3, .ref 1 0), (1, .ref 1 0)], [(1, .box [vi aX.Office, vi aX.Number, vs aX.Key, vs aX.Text, vl (eI .i64) aX.Seen])]⟩) (by kernel_rfl) ?_
  refine DGo.nil (by kernel_rfl) ?_
  replace h := Option.some.inj h
  subst h
  exact Le.sub0
  replace h := cond_f hb h
  refine DGo.chunk' tbok 27 (σ' := ⟨38, [(2, vb false), (37, vb false), (36, .tup []), (35, .tup []), (34, .tup []), (33, .tup []), (32, .tup []), (31, .tup []), (30, .tup []), (29, .tup []), (28, .tup []), (27, .tup []), (26, vb false), (25, vb false), (24, .tup []), (23, .tup []), (22, .tup []), (21, vb false), (20, vb false), (19, .tup []), (18, .tup []), (17, .tup []), (16, vb false), (15, vb false), (14, .tup []), (13, .tup []), (12, .tup []), (11, vb false), (10, vb false), (9, vb false), (8, vi aX.Number), (7, .ref 1 1), (6, vb true), (5, vb true), (4, vi aX.Office), (3, .ref 1 0), (1, .ref 1 0)], [(1, .box [vi aX.Office, vi aX.Number, vs aX.Key, vs aX.Text, vl (eI .i64) aX.Seen])]⟩) (by kernel_rfl) ?_
  refine DGo.nil (by kernel_rfl) ?_
  replace h := Option.some.inj h
  subst h
  exact Le.sub0
  replace h := cond_f hb h
  refine DGo.chunk' tbok 32 (σ' := ⟨38, [(2, vb false), (37, vb false), (36, .tup []), (35, .tup []), (34, .tup []), (33, .tup []), (32, .tup []), (31, .tup []), (30, .tup []), (29, .tup []), (28, .tup []), (27, .tup []), (26, vb false), (25, vb false), (24, .tup []), (23, .tup []), (22, .tup []), (21, vb false), (20, vb false), (19, .tup []), (18, .tup []), (17, .tup []), (16, vb false), (15, vb false), (14, .tup []), (13, .tup []), (12, .tup []), (11, vb false), (10, vb false), (9, .tup []), (8, .tup []), (7, .tup []), (6, vb false), (5, vb false), (4, vi aX.Office), (3, .ref 1 0), (1, .ref 1 0)], [(1, .box [vi aX.Office, vi aX.Number, vs aX.Key, vs aX.Text, vl (eI .i64) aX.Seen])]⟩) (by kernel_rfl) ?_
  refine DGo.nil (by kernel_rfl) ?_
  replace h := Option.some.inj h
  subst h
  exact Le.sub0
  refine swp_ret ?_
  replace h := Option.some.inj h
  subst h
  exact q_fr (fin1 (by kernel_rfl) (finV rfl SV.flat_of (holds_t (by kernel_rfl))))
theorem ents49 : Ents Tryd.prog 49 := ents_of Tryd.func49 (by kernel_rfl) rfl
noncomputable def impl_vectorOf (aLog : (List Op)) : Option ((List Int)) :=
  ((make' 0 4).bind fun x1 => (((forS (aLog.length : Int) (fun (i4 : Int) (s4 : (List Int)) => ((at' aLog i4).bind fun x8 => ((at' s4 x8.Office).bind fun x9 => ((at' s4 x8.Office).bind fun _ => some (List.set s4 (Int.toNat x8.Office) (w64 (x9 + 1))))))) (fun (s4 : (List Int)) => s4) 0 x1)).bind fun (j2 : (List Int)) => some j2))
set_option maxRecDepth 100000 in
set_option maxHeartbeats 4000000 in
theorem impl_vectorOf_run (aLog : (List Op)) (r : (List Int)) (h : impl_vectorOf aLog = some r) : SCall Tryd.prog 50 [.v (vl eOp aLog)] ⟨[.own 2 1 r.length (r.map (eI .i64))], [], false⟩ := by
  refine scall_in Tryd.func50 rfl [(.tmp 2)] rfl (fun r => ⟨[.own 2 1 r.length (r.map (eI .i64))], [], false⟩) (r := r) ?_
  unfold impl_vectorOf at h
  refine swp_seq ?_
  refine swp_reg ?_
  refine SRun.ck tbok 1 ⟨22, [(0, vl eOp aLog)], []⟩ ?_
  refine SRun.nil ?_
  refine nx_n ?_
  refine swp_seq ?_
  refine swp_reg ?_
  obtain ⟨x1, hx1, h⟩ := bind_some h
  refine SRun.ls (x_make (z := 0) (f := (eI .i64)) (ti := ti32) (tj := ti2) (e := 2) (m := 1) (k := .i64) (k' := .i64) hx1 tbok rfl rfl (zs := [.int .i64 0])) ?_
  refine SRun.ck tbok 1 ⟨22, [(0, vl eOp aLog), (3, .own 6)], [(6, .arr 2 1 x1.length (x1.map (eI .i64)))]⟩ ?_
  refine SRun.nil ?_
  refine nx_n ?_
  refine swp_seq ?_
  refine swp_seq ?_
  refine swp_reg ?_
  refine SRun.ck tbok 3 ⟨22, [(3, .own 6), (7, vl eOp aLog), (8, vi (aLog.length : Int)), (9, vi 0)], [(6, .arr 2 1 x1.length (x1.map (eI .i64)))]⟩ ?_
  refine SRun.nil ?_
  refine nx_n ?_
  refine swp_seqJ h (fun j2 => ⟨22, [(3, .own 3)], [(3, .arr 2 1 j2.length (j2.map (eI .i64)))]⟩) (fun v3 h => ?_) (fun j2 h => ?_)
  refine swp_blk (a := v3) ?_
  refine swp_lpL (r := v3) (s := (0, x1)) _ (fun s4 => ⟨22, [(3, .own 3), (7, vl eOp aLog), (8, vi (aLog.length : Int)), (9, vi s4.1)], [(3, .arr 2 1 s4.2.length (s4.2.map (eI .i64)))]⟩) _ ((Le.sub' ([(3, .own 6), (7, vl eOp aLog), (8, vi (aLog.length : Int)), (9, vi 0)] : List (Nat × SV)) ([(6, .arr 2 1 x1.length (x1.map (eI .i64)))] : List (Nat × SO)) (by kernel_rfl) (by kernel_rfl)).trans ((Le.ren' (d := 6) (e := 3) (by kernel_rfl) (by kernel_rfl) (by kernel_rfl)).trans (Le.sub0))) h (fun s4 v5 h => ?_)
  refine swp_seq ?_
  refine swp_reg ?_
  refine SRun.ck tbok 1 ⟨22, [(3, .own 3), (7, vl eOp aLog), (8, vi (aLog.length : Int)), (9, vi s4.1), (10, vb (decide (s4.1 < (aLog.length : Int))))], [(3, .arr 2 1 s4.2.length (s4.2.map (eI .i64)))]⟩ ?_
  refine SRun.nil ?_
  refine nx_n ?_
  refine swp_seq ?_
  refine swp_cond (b := (decide (s4.1 < (aLog.length : Int)))) (by kernel_rfl) (fun hb => ?_) (fun hb => ?_)
  replace h := cond_t hb h
  refine swp_skip ?_
  refine nx_n ?_
  refine swp_seq ?_
  refine swp_seqJ h (fun j6 => ⟨22, [(3, .own 3), (7, vl eOp aLog), (8, vi (aLog.length : Int)), (9, vi s4.1)], [(3, .arr 2 1 j6.length (j6.map (eI .i64)))]⟩) (fun v7 h => ?_) (fun j6 h => ?_)
  refine swp_blk (a := v7) ?_
  refine swp_seq ?_
  refine swp_reg ?_
  obtain ⟨x8, hx8, h⟩ := bind_some h
  refine SRun.ls (x_index (L := aLog) (f := eOp) (ti := ti25) (tj := ti61) (e := 61) (k := .i64) tbok rfl hx8) ?_
  refine SRun.ck tbok 2 ⟨22, [(3, .own 3), (5, .ref 5 0), (7, vl eOp aLog), (8, vi (aLog.length : Int)), (9, vi s4.1), (12, .agg [vi x8.Office, vi x8.Number, vs x8.Key, vs x8.Text, vl (eI .i64) x8.Seen])], [(3, .arr 2 1 s4.2.length (s4.2.map (eI .i64))), (5, .box [vi 0, vi 0, vs (ByteArray.mk #[]), vs (ByteArray.mk #[]), vl (eI .i64) ([] : List Int)])]⟩ ?_
  refine SRun.estep (x_estep_store (d := 5) (k := 0) (ti := ti61) (cs := [vi 0, vi 0, vs (ByteArray.mk #[]), vs (ByteArray.mk #[]), vl (eI .i64) ([] : List Int)]) (vs := [vi x8.Office, vi x8.Number, vs x8.Key, vs x8.Text, vl (eI .i64) x8.Seen]) (v := .agg [vi x8.Office, vi x8.Number, vs x8.Key, vs x8.Text, vl (eI .i64) x8.Seen]) tbok rfl rfl) ?_
  refine SRun.nil ?_
  refine nx_n ?_
  refine swp_reg ?_
  refine SRun.ck tbok 3 ⟨22, [(3, .own 3), (7, vl eOp aLog), (8, vi (aLog.length : Int)), (9, vi s4.1), (13, .own 3), (15, vi x8.Office)], [(3, .arr 2 1 s4.2.length (s4.2.map (eI .i64)))]⟩ ?_
  obtain ⟨x9, hx9, h⟩ := bind_some h
  refine SRun.ls (x_index_own (d := 3) (L := s4.2) (f := (eI .i64)) (ti := ti32) (tj := ti2) (e := 2) (e' := 2) (m := 1) (k := .i64) tbok rfl hx9) ?_
  refine SRun.ls (x_load_own (d := 3) (m := 1) (j := 0) (L := s4.2) (f := (eI .i64)) (ti := ti2) (e := 2) (v := vi x9) tbok rfl hx9) ?_
  refine SRun.ck tbok 1 ⟨22, [(3, .own 3), (7, vl eOp aLog), (8, vi (aLog.length : Int)), (9, vi s4.1), (13, .own 3), (15, vi x8.Office), (18, vi (w64 (x9 + 1)))], [(3, .arr 2 1 s4.2.length (s4.2.map (eI .i64)))]⟩ ?_
  obtain ⟨x10, hx10, h⟩ := bind_some h
  refine SRun.ls (x_index_own (d := 3) (L := s4.2) (f := (eI .i64)) (ti := ti32) (tj := ti2) (e := 2) (e' := 2) (m := 1) (k := .i64) tbok rfl hx10) ?_
  refine SRun.estep (x_store_own (d := 3) (m := 1) (j := 0) (L := s4.2) (f := (eI .i64)) (x := (w64 (x9 + 1))) (z := x10) (ti := ti2) (e := 2) (ts := [.int .i64 (w64 (x9 + 1))]) (vs := [vi (w64 (x9 + 1))]) (v := vi (w64 (x9 + 1))) tbok rfl rfl hx10) ?_
  refine SRun.nil ?_
  replace h := Option.some.inj h
  subst h
  exact q_bn (q_j (Le.sub0))
  refine swp_reg ?_
  refine SRun.ck tbok 2 ⟨22, [(3, .own 3), (7, vl eOp aLog), (8, vi (aLog.length : Int)), (9, vi (w64 (s4.1 + 1)))], [(3, .arr 2 1 j6.length (j6.map (eI .i64)))]⟩ ?_
  refine SRun.nil ?_
  replace h := Option.some.inj h
  subst h
  exact q_l (Le.sub0)
  replace h := cond_f hb h
  refine swp_exit ?_
  replace h := Option.some.inj h
  subst h
  exact nx_e (q_re (q_bh (q_j (Le.sub0))))
  refine swp_seq ?_
  refine swp_reg ?_
  refine SRun.ck tbok 2 ⟨22, [(2, .own 3)], [(3, .arr 2 1 j2.length (j2.map (eI .i64)))]⟩ ?_
  refine SRun.nil ?_
  refine nx_n ?_
  refine swp_ret ?_
  replace h := Option.some.inj h
  subst h
  exact q_fr (fin1 (by kernel_rfl) (finO (d := 3) (holds_t (by kernel_rfl)) (by kernel_rfl) (flat_map (eI_flat .i64) _) (by kernel_rfl)))
theorem ents50 : Ents Tryd.prog 50 := ents_of Tryd.func50 (by kernel_rfl) rfl
noncomputable def impl_IsLog (aLog : (List Op)) : Option (Bool) :=
  (((forN (aLog.length : Int) (fun (i3 : Int) (_ : Unit) => ((at' aLog i3).bind fun x7 => ((impl_isOp x7).bind fun x8 => (bif (!x8) then some (.inr (.inr false)) else ((part' aLog 0 i3).bind fun x9 => ((impl_vectorOf x9).bind fun x10 => (((forN (x7.Seen.length : Int) (fun (i13 : Int) (_ : Unit) => ((at' x7.Seen i13).bind fun x17 => ((at' x10 i13).bind fun x18 => (bif (decide (x17 > x18)) then some (.inr (.inr (.inr (.inr false)))) else some (.inl ()))))) (fun (_ : Unit) => .inl ()) 0 ())).bind (Sum.elim (fun (_ : Unit) => ((at' x10 x7.Office).bind fun x19 => (bif (x7.Number != (w64 (x19 + 1))) then some (.inr (.inr false)) else some (.inl ())))) some)))))))) (fun (_ : Unit) => .inl ()) 0 ())).bind (Sum.elim (fun (_ : Unit) => some (decide ((aLog.length : Int) ≤ 16))) some))
set_option maxRecDepth 100000 in
set_option maxHeartbeats 4000000 in
theorem impl_IsLog_run (aLog : (List Op)) (r : Bool) (h : impl_IsLog aLog = some r) : SCall Tryd.prog 15 [.v (vl eOp aLog)] ⟨[.v (vb r)], [], false⟩ := by
  refine scall_in Tryd.func15 rfl [(.tmp 2)] rfl (fun r => ⟨[.v (vb r)], [], false⟩) (r := r) ?_
  unfold impl_IsLog at h
  refine swp_seq ?_
  refine swp_reg ?_
  refine SRun.ck tbok 1 ⟨50, [(0, vl eOp aLog)], []⟩ ?_
  refine SRun.nil ?_
  refine nx_n ?_
  refine swp_seq ?_
  refine swp_seq ?_
  refine swp_reg ?_
  refine SRun.ck tbok 3 ⟨50, [(0, vl eOp aLog), (8, vl eOp aLog), (9, vi (aLog.length : Int)), (10, vi 0)], []⟩ ?_
  refine SRun.nil ?_
  refine nx_n ?_
  refine swp_seqE (r := r) h (fun j1 => ⟨50, [(0, vl eOp aLog)], []⟩) (fun v2 h => ?_) (fun j1 h => ?_)
  refine swp_blk (a := v2) ?_
  refine swp_lpL (r := v2) (s := (0, ())) _ (fun s3 => ⟨50, [(0, vl eOp aLog), (8, vl eOp aLog), (9, vi (aLog.length : Int)), (10, vi s3.1)], []⟩) _ (Le.sub0) h (fun s3 v4 h => ?_)
  refine swp_seq ?_
  refine swp_reg ?_
  refine SRun.ck tbok 1 ⟨50, [(0, vl eOp aLog), (8, vl eOp aLog), (9, vi (aLog.length : Int)), (10, vi s3.1), (11, vb (decide (s3.1 < (aLog.length : Int))))], []⟩ ?_
  refine SRun.nil ?_
  refine nx_n ?_
  refine swp_seq ?_
  refine swp_cond (b := (decide (s3.1 < (aLog.length : Int)))) (by kernel_rfl) (fun hb => ?_) (fun hb => ?_)
  replace h := cond_t hb h
  refine swp_skip ?_
  refine nx_n ?_
  refine swp_seq ?_
  refine swp_seqL (r := v4) h (fun j5 => ⟨50, [(0, vl eOp aLog), (8, vl eOp aLog), (9, vi (aLog.length : Int)), (10, vi s3.1)], []⟩) (fun v6 h => ?_) (fun j5 h => ?_)
  refine swp_blk (a := v6) ?_
  refine swp_seq ?_
  refine swp_reg ?_
  refine SRun.ck tbok 1 ⟨50, [(0, vl eOp aLog), (8, vl eOp aLog), (9, vi (aLog.length : Int)), (10, vi s3.1), (12, vi s3.1)], []⟩ ?_
  obtain ⟨x7, hx7, h⟩ := bind_some h
  refine SRun.ls (x_index (L := aLog) (f := eOp) (ti := ti25) (tj := ti61) (e := 61) (k := .i64) tbok rfl hx7) ?_
  refine SRun.ck tbok 3 ⟨50, [(0, vl eOp aLog), (3, vi s3.1), (4, .ref 4 0), (8, vl eOp aLog), (9, vi (aLog.length : Int)), (10, vi s3.1), (14, .agg [vi x7.Office, vi x7.Number, vs x7.Key, vs x7.Text, vl (eI .i64) x7.Seen])], [(4, .box [vi 0, vi 0, vs (ByteArray.mk #[]), vs (ByteArray.mk #[]), vl (eI .i64) ([] : List Int)])]⟩ ?_
  refine SRun.estep (x_estep_store (d := 4) (k := 0) (ti := ti61) (cs := [vi 0, vi 0, vs (ByteArray.mk #[]), vs (ByteArray.mk #[]), vl (eI .i64) ([] : List Int)]) (vs := [vi x7.Office, vi x7.Number, vs x7.Key, vs x7.Text, vl (eI .i64) x7.Seen]) (v := .agg [vi x7.Office, vi x7.Number, vs x7.Key, vs x7.Text, vl (eI .i64) x7.Seen]) tbok rfl rfl) ?_
  refine SRun.nil ?_
  refine nx_n ?_
  refine swp_seq ?_
  refine swp_seq ?_
  refine swp_reg ?_
  refine SRun.ck tbok 1 ⟨50, [(0, vl eOp aLog), (3, vi s3.1), (4, .ref 4 0), (8, vl eOp aLog), (9, vi (aLog.length : Int)), (10, vi s3.1), (15, .agg [vi x7.Office, vi x7.Number, vs x7.Key, vs x7.Text, vl (eI .i64) x7.Seen])], [(4, .box [vi x7.Office, vi x7.Number, vs x7.Key, vs x7.Text, vl (eI .i64) x7.Seen])]⟩ ?_
  obtain ⟨x8, hx8, h⟩ := bind_some h
  refine SRun.ls (x_lstep_call (f := 49) (caps := []) (xs := [.agg [vi x7.Office, vi x7.Number, vs x7.Key, vs x7.Text, vl (eI .i64) x7.Seen]]) (ys := [.agg [vi x7.Office, vi x7.Number, vs x7.Key, vs x7.Text, vl (eI .i64) x7.Seen]]) (res := ⟨[.v (vb x8)], [], false⟩) (x := vb x8) (y := none) rfl ents49 (impl_isOp_run x7 _ hx8) rfl (by intro hc; cases hc)) ?_
  refine SRun.ck tbok 1 ⟨50, [(0, vl eOp aLog), (3, vi s3.1), (4, .ref 4 0), (8, vl eOp aLog), (9, vi (aLog.length : Int)), (10, vi s3.1), (17, vb (!x8))], [(4, .box [vi x7.Office, vi x7.Number, vs x7.Key, vs x7.Text, vl (eI .i64) x7.Seen])]⟩ ?_
  refine SRun.nil ?_
  refine nx_n ?_
  refine swp_cond (b := (!x8)) (by kernel_rfl) (fun hb => ?_) (fun hb => ?_)
  replace h := cond_t hb h
  refine swp_seq ?_
  refine swp_reg ?_
  refine SRun.ck tbok 1 ⟨50, [(2, vb false)], []⟩ ?_
  refine SRun.nil ?_
  refine nx_n ?_
  refine swp_ret ?_
  replace h := Option.some.inj h
  subst h
  exact nx_r (q_br (q_rr (q_rr (q_br (q_rr (q_fr (fin1 (by kernel_rfl) (finV rfl SV.flat_of (holds_t (by kernel_rfl))))))))))
  replace h := cond_f hb h
  refine swp_skip ?_
  refine nx_n ?_
  refine swp_seq ?_
  refine swp_reg ?_
  refine SRun.ck tbok 2 ⟨50, [(0, vl eOp aLog), (4, .ref 4 0), (8, vl eOp aLog), (9, vi (aLog.length : Int)), (10, vi s3.1), (18, vl eOp aLog), (19, vi s3.1)], [(4, .box [vi x7.Office, vi x7.Number, vs x7.Key, vs x7.Text, vl (eI .i64) x7.Seen])]⟩ ?_
  obtain ⟨x9, hx9, h⟩ := bind_some h
  refine SRun.ls (x_slice (m := 5) (f := eOp) (ti := ti25) (tj := ti61) (e := 61) hx9 (fun _ => rfl) tbok rfl) ?_
  obtain ⟨x10, hx10, h⟩ := bind_some h
  refine SRun.ls (x_lstep_call (f := 50) (caps := []) (xs := [vl eOp x9]) (ys := [vl eOp x9]) (res := ⟨[.own 2 1 x10.length (x10.map (eI .i64))], [], false⟩) (x := .own 21) (y := some (.arr 2 1 x10.length (x10.map (eI .i64)))) rfl ents50 (impl_vectorOf_run x9 _ hx10) rfl (by intro hc; cases hc)) ?_
  refine SRun.ck tbok 1 ⟨50, [(0, vl eOp aLog), (4, .ref 4 0), (5, .own 21), (8, vl eOp aLog), (9, vi (aLog.length : Int)), (10, vi s3.1)], [(4, .box [vi x7.Office, vi x7.Number, vs x7.Key, vs x7.Text, vl (eI .i64) x7.Seen]), (21, .arr 2 1 x10.length (x10.map (eI .i64)))]⟩ ?_
  refine SRun.nil ?_
  refine nx_n ?_
  refine swp_seq ?_
  refine swp_seq ?_
  refine swp_reg ?_
  refine SRun.ck tbok 4 ⟨50, [(0, vl eOp aLog), (4, .ref 4 0), (5, .own 21), (8, vl eOp aLog), (9, vi (aLog.length : Int)), (10, vi s3.1), (23, vl (eI .i64) x7.Seen), (24, vi (x7.Seen.length : Int)), (25, vi 0)], [(4, .box [vi x7.Office, vi x7.Number, vs x7.Key, vs x7.Text, vl (eI .i64) x7.Seen]), (21, .arr 2 1 x10.length (x10.map (eI .i64)))]⟩ ?_
  refine SRun.nil ?_
  refine nx_n ?_
  refine swp_seqE (r := v6) h (fun j11 => ⟨50, [(0, vl eOp aLog), (4, .ref 4 0), (5, .own 5), (8, vl eOp aLog), (9, vi (aLog.length : Int)), (10, vi s3.1)], [(4, .box [vi x7.Office, vi x7.Number, vs x7.Key, vs x7.Text, vl (eI .i64) x7.Seen]), (5, .arr 2 1 x10.length (x10.map (eI .i64)))]⟩) (fun v12 h => ?_) (fun j11 h => ?_)
  refine swp_blk (a := v12) ?_
  refine swp_lpL (r := v12) (s := (0, ())) _ (fun s13 => ⟨50, [(0, vl eOp aLog), (4, .ref 4 0), (5, .own 5), (8, vl eOp aLog), (9, vi (aLog.length : Int)), (10, vi s3.1), (23, vl (eI .i64) x7.Seen), (24, vi (x7.Seen.length : Int)), (25, vi s13.1)], [(4, .box [vi x7.Office, vi x7.Number, vs x7.Key, vs x7.Text, vl (eI .i64) x7.Seen]), (5, .arr 2 1 x10.length (x10.map (eI .i64)))]⟩) _ ((Le.sub' ([(0, vl eOp aLog), (4, .ref 4 0), (5, .own 21), (8, vl eOp aLog), (9, vi (aLog.length : Int)), (10, vi s3.1), (23, vl (eI .i64) x7.Seen), (24, vi (x7.Seen.length : Int)), (25, vi 0)] : List (Nat × SV)) ([(4, .box [vi x7.Office, vi x7.Number, vs x7.Key, vs x7.Text, vl (eI .i64) x7.Seen]), (21, .arr 2 1 x10.length (x10.map (eI .i64)))] : List (Nat × SO)) (by kernel_rfl) (by kernel_rfl)).trans ((Le.ren' (d := 21) (e := 5) (by kernel_rfl) (by kernel_rfl) (by kernel_rfl)).trans (Le.sub0))) h (fun s13 v14 h => ?_)
  refine swp_seq ?_
  refine swp_reg ?_
  refine SRun.ck tbok 1 ⟨50, [(0, vl eOp aLog), (4, .ref 4 0), (5, .own 5), (8, vl eOp aLog), (9, vi (aLog.length : Int)), (10, vi s3.1), (23, vl (eI .i64) x7.Seen), (24, vi (x7.Seen.length : Int)), (25, vi s13.1), (26, vb (decide (s13.1 < (x7.Seen.length : Int))))], [(4, .box [vi x7.Office, vi x7.Number, vs x7.Key, vs x7.Text, vl (eI .i64) x7.Seen]), (5, .arr 2 1 x10.length (x10.map (eI .i64)))]⟩ ?_
  refine SRun.nil ?_
  refine nx_n ?_
  refine swp_seq ?_
  refine swp_cond (b := (decide (s13.1 < (x7.Seen.length : Int)))) (by kernel_rfl) (fun hb => ?_) (fun hb => ?_)
  replace h := cond_t hb h
  refine swp_skip ?_
  refine nx_n ?_
  refine swp_seq ?_
  refine swp_seqL (r := v14) h (fun j15 => ⟨50, [(0, vl eOp aLog), (4, .ref 4 0), (5, .own 5), (8, vl eOp aLog), (9, vi (aLog.length : Int)), (10, vi s3.1), (23, vl (eI .i64) x7.Seen), (24, vi (x7.Seen.length : Int)), (25, vi s13.1)], [(4, .box [vi x7.Office, vi x7.Number, vs x7.Key, vs x7.Text, vl (eI .i64) x7.Seen]), (5, .arr 2 1 x10.length (x10.map (eI .i64)))]⟩) (fun v16 h => ?_) (fun j15 h => ?_)
  refine swp_blk (a := v16) ?_
  refine swp_seq ?_
  refine swp_reg ?_
  refine SRun.ck tbok 1 ⟨50, [(0, vl eOp aLog), (4, .ref 4 0), (5, .own 5), (8, vl eOp aLog), (9, vi (aLog.length : Int)), (10, vi s3.1), (23, vl (eI .i64) x7.Seen), (24, vi (x7.Seen.length : Int)), (25, vi s13.1), (27, vi s13.1)], [(4, .box [vi x7.Office, vi x7.Number, vs x7.Key, vs x7.Text, vl (eI .i64) x7.Seen]), (5, .arr 2 1 x10.length (x10.map (eI .i64)))]⟩ ?_
  obtain ⟨x17, hx17, h⟩ := bind_some h
  refine SRun.ls (x_index (L := x7.Seen) (f := (eI .i64)) (ti := ti32) (tj := ti2) (e := 2) (k := .i64) tbok rfl hx17) ?_
  refine SRun.ck tbok 3 ⟨50, [(0, vl eOp aLog), (4, .ref 4 0), (5, .own 5), (6, vi s13.1), (7, vi x17), (8, vl eOp aLog), (9, vi (aLog.length : Int)), (10, vi s3.1), (23, vl (eI .i64) x7.Seen), (24, vi (x7.Seen.length : Int)), (25, vi s13.1)], [(4, .box [vi x7.Office, vi x7.Number, vs x7.Key, vs x7.Text, vl (eI .i64) x7.Seen]), (5, .arr 2 1 x10.length (x10.map (eI .i64)))]⟩ ?_
  refine SRun.nil ?_
  refine nx_n ?_
  refine swp_seq ?_
  refine swp_reg ?_
  refine SRun.ck tbok 3 ⟨50, [(0, vl eOp aLog), (4, .ref 4 0), (5, .own 5), (8, vl eOp aLog), (9, vi (aLog.length : Int)), (10, vi s3.1), (23, vl (eI .i64) x7.Seen), (24, vi (x7.Seen.length : Int)), (25, vi s13.1), (30, vi x17), (31, .own 5), (32, vi s13.1)], [(4, .box [vi x7.Office, vi x7.Number, vs x7.Key, vs x7.Text, vl (eI .i64) x7.Seen]), (5, .arr 2 1 x10.length (x10.map (eI .i64)))]⟩ ?_
  obtain ⟨x18, hx18, h⟩ := bind_some h
  refine SRun.ls (x_index_own (d := 5) (L := x10) (f := (eI .i64)) (ti := ti32) (tj := ti2) (e := 2) (e' := 2) (m := 1) (k := .i64) tbok rfl hx18) ?_
  refine SRun.ls (x_load_own (d := 5) (m := 1) (j := 0) (L := x10) (f := (eI .i64)) (ti := ti2) (e := 2) (v := vi x18) tbok rfl hx18) ?_
  refine SRun.ck tbok 1 ⟨50, [(0, vl eOp aLog), (4, .ref 4 0), (5, .own 5), (8, vl eOp aLog), (9, vi (aLog.length : Int)), (10, vi s3.1), (23, vl (eI .i64) x7.Seen), (24, vi (x7.Seen.length : Int)), (25, vi s13.1), (35, vb (decide (x17 > x18)))], [(4, .box [vi x7.Office, vi x7.Number, vs x7.Key, vs x7.Text, vl (eI .i64) x7.Seen]), (5, .arr 2 1 x10.length (x10.map (eI .i64)))]⟩ ?_
  refine SRun.nil ?_
  refine nx_n ?_
  refine swp_cond (b := (decide (x17 > x18))) (by kernel_rfl) (fun hb => ?_) (fun hb => ?_)
  replace h := cond_t hb h
  refine swp_seq ?_
  refine swp_reg ?_
  refine SRun.ck tbok 1 ⟨50, [(2, vb false)], []⟩ ?_
  refine SRun.nil ?_
  refine nx_n ?_
  refine swp_ret ?_
  replace h := Option.some.inj h
  subst h
  exact q_br (q_rr (q_rr (q_br (q_rr (q_br (q_rr (q_rr (q_br (q_rr (q_fr (fin1 (by kernel_rfl) (finV rfl SV.flat_of (holds_t (by kernel_rfl))))))))))))))
  replace h := cond_f hb h
  refine swp_skip ?_
  replace h := Option.some.inj h
  subst h
  exact q_bn (q_l (Le.sub0))
  refine swp_reg ?_
  refine SRun.ck tbok 2 ⟨50, [(0, vl eOp aLog), (4, .ref 4 0), (5, .own 5), (8, vl eOp aLog), (9, vi (aLog.length : Int)), (10, vi s3.1), (23, vl (eI .i64) x7.Seen), (24, vi (x7.Seen.length : Int)), (25, vi (w64 (s13.1 + 1)))], [(4, .box [vi x7.Office, vi x7.Number, vs x7.Key, vs x7.Text, vl (eI .i64) x7.Seen]), (5, .arr 2 1 x10.length (x10.map (eI .i64)))]⟩ ?_
  refine SRun.nil ?_
  replace h := Option.some.inj h
  subst h
  exact q_l (Le.sub0)
  replace h := cond_f hb h
  refine swp_exit ?_
  replace h := Option.some.inj h
  subst h
  exact nx_e (q_re (q_bh (q_l (Le.sub0))))
  refine swp_seq ?_
  refine swp_dr mixed ?_
  refine DGo.chunk' tbok 5 (σ' := ⟨50, [(41, vi x7.Office), (40, .ref 4 0), (39, .own 5), (38, vi x7.Number), (37, .ref 4 1), (0, vl eOp aLog), (4, .ref 4 0), (5, .own 5), (8, vl eOp aLog), (9, vi (aLog.length : Int)), (10, vi s3.1)], [(4, .box [vi x7.Office, vi x7.Number, vs x7.Key, vs x7.Text, vl (eI .i64) x7.Seen]), (5, .arr 2 1 x10.length (x10.map (eI .i64)))]⟩) (by kernel_rfl) ?_
  obtain ⟨x19, hx19, h⟩ := bind_some h
  refine DGo.step (x_index_own (d := 5) (L := x10) (f := (eI .i64)) (ti := ti32) (tj := ti2) (e := 2) (e' := 2) (m := 1) (k := .i64) tbok rfl hx19) ?_
  refine DGo.step (x_load_own (d := 5) (m := 1) (j := 0) (L := x10) (f := (eI .i64)) (ti := ti2) (e := 2) (v := vi x19) tbok rfl hx19) ?_
  refine DGo.chunk' tbok 2 (σ' := ⟨50, [(45, vb (x7.Number != (w64 (x19 + 1)))), (44, vi (w64 (x19 + 1))), (43, vi x19), (42, .eref 5 1 (Int.toNat x7.Office) 0), (41, vi x7.Office), (40, .ref 4 0), (39, .own 5), (38, vi x7.Number), (37, .ref 4 1), (0, vl eOp aLog), (4, .ref 4 0), (5, .own 5), (8, vl eOp aLog), (9, vi (aLog.length : Int)), (10, vi s3.1)], [(4, .box [vi x7.Office, vi x7.Number, vs x7.Key, vs x7.Text, vl (eI .i64) x7.Seen]), (5, .arr 2 1 x10.length (x10.map (eI .i64)))]⟩) (by kernel_rfl) ?_
  refine DGo.nil (by kernel_rfl) ?_
  refine nx_n ?_
  refine swp_cond (b := (x7.Number != (w64 (x19 + 1)))) (by kernel_rfl) (fun hb => ?_) (fun hb => ?_)
  replace h := cond_t hb h
  refine swp_seq ?_
  refine swp_reg ?_
  refine SRun.ck tbok 1 ⟨50, [(2, vb false)], []⟩ ?_
  refine SRun.nil ?_
  refine nx_n ?_
  refine swp_ret ?_
  replace h := Option.some.inj h
  subst h
  exact q_br (q_rr (q_rr (q_br (q_rr (q_fr (fin1 (by kernel_rfl) (finV rfl SV.flat_of (holds_t (by kernel_rfl)))))))))
  replace h := cond_f hb h
  refine swp_skip ?_
  replace h := Option.some.inj h
  subst h
  exact q_bn (q_l (Le.sub0))
  refine swp_reg ?_
  refine SRun.ck tbok 2 ⟨50, [(0, vl eOp aLog), (8, vl eOp aLog), (9, vi (aLog.length : Int)), (10, vi (w64 (s3.1 + 1)))], []⟩ ?_
  refine SRun.nil ?_
  replace h := Option.some.inj h
  subst h
  exact q_l (Le.sub0)
  replace h := cond_f hb h
  refine swp_exit ?_
  replace h := Option.some.inj h
  subst h
  exact nx_e (q_re (q_bh (q_l (Le.sub0))))
  refine swp_seq ?_
  refine swp_reg ?_
  refine SRun.ck tbok 4 ⟨50, [(2, vb (decide ((aLog.length : Int) ≤ 16)))], []⟩ ?_
  refine SRun.nil ?_
  refine nx_n ?_
  refine swp_ret ?_
  replace h := Option.some.inj h
  subst h
  exact q_fr (fin1 (by kernel_rfl) (finV rfl SV.flat_of (holds_t (by kernel_rfl))))
theorem ents15 : Ents Tryd.prog 15 := ents_of Tryd.func15 (by kernel_rfl) rfl
def slices_Clone_int64 (L : List Int) : Option (List Int) := if L.length ≤ 68719476736 then some L else none
set_option maxRecDepth 100000 in
theorem slices_Clone_int64_run (L r : List Int) (h : slices_Clone_int64 L = some r) : SCall Tryd.prog 90 [.v (.tr (.sl L.length (L.map (eI .i64))))] ⟨[.own 2 1 r.length (r.map (eI .i64))], [], true⟩ := by
  unfold slices_Clone_int64 at h
  split at h
  · rename_i hh
    injection h with h
    subst h
    refine clone_scall (eI .i64) Tryd.cloneint64 90 2 rfl rfl _ _ 1 8 rfl rfl (by kernel_rfl) (by kernel_rfl) (by kernel_rfl) (by decide) (fun _ => rfl) (fun _ => rfl) L (by omega)
  · cases h
theorem ents90 : Ents Tryd.prog 90 := ents_of Tryd.func90 (by kernel_rfl) rfl
noncomputable def impl_Op_clone (aX : Op) : Option (Op) :=
  ((slices_Clone_int64 aX.Seen).bind fun x1 => some (Op.mk aX.Office aX.Number aX.Key aX.Text x1))
set_option maxRecDepth 100000 in
set_option maxHeartbeats 4000000 in
theorem impl_Op_clone_run (aX : Op) (r : Op) (h : impl_Op_clone aX = some r) : SCall Tryd.prog 69 [.v (.agg [vi aX.Office, vi aX.Number, vs aX.Key, vs aX.Text, vl (eI .i64) aX.Seen])] ⟨[.part [vi r.Office, vi r.Number, vs r.Key, vs r.Text] [] (.arr 2 1 r.Seen.length (r.Seen.map (eI .i64)))], [], false⟩ := by
  refine scall_in Tryd.func69 rfl [(.cell 2 61)] rfl (fun r => ⟨[.part [vi r.Office, vi r.Number, vs r.Key, vs r.Text] [] (.arr 2 1 r.Seen.length (r.Seen.map (eI .i64)))], [], false⟩) (r := r) ?_
  unfold impl_Op_clone at h
  refine swp_seq ?_
  refine swp_reg ?_
  refine SRun.ck tbok 2 ⟨8, [(1, .ref 1 0), (2, .ref 2 0)], [(1, .box [vi aX.Office, vi aX.Number, vs aX.Key, vs aX.Text, vl (eI .i64) aX.Seen]), (2, .box [vi 0, vi 0, vs (ByteArray.mk #[]), vs (ByteArray.mk #[]), vl (eI .i64) ([] : List Int)])]⟩ ?_
  refine SRun.nil ?_
  refine nx_n ?_
  refine swp_seq ?_
  refine swp_reg ?_
  refine SRun.ck tbok 2 ⟨8, [(1, .ref 1 0), (2, .ref 2 0), (4, vl (eI .i64) aX.Seen)], [(1, .box [vi aX.Office, vi aX.Number, vs aX.Key, vs aX.Text, vl (eI .i64) aX.Seen]), (2, .box [vi 0, vi 0, vs (ByteArray.mk #[]), vs (ByteArray.mk #[]), vl (eI .i64) ([] : List Int)])]⟩ ?_
  obtain ⟨x1, hx1, h⟩ := bind_some h
  refine SRun.ls (x_lstep_call (f := 90) (caps := []) (xs := [vl (eI .i64) aX.Seen]) (ys := [vl (eI .i64) aX.Seen]) (res := ⟨[.own 2 1 x1.length (x1.map (eI .i64))], [], true⟩) (x := .own 5) (y := some (.arr 2 1 x1.length (x1.map (eI .i64)))) rfl ents90 (slices_Clone_int64_run aX.Seen _ hx1) rfl (fun _ => rfl)) ?_
  refine SRun.ck tbok 1 ⟨8, [(1, .ref 1 0), (2, .ref 2 0), (5, .own 5), (6, .ref 1 4)], [(1, .box [vi aX.Office, vi aX.Number, vs aX.Key, vs aX.Text, vl (eI .i64) aX.Seen]), (2, .box [vi 0, vi 0, vs (ByteArray.mk #[]), vs (ByteArray.mk #[]), vl (eI .i64) ([] : List Int)]), (5, .arr 2 1 x1.length (x1.map (eI .i64)))]⟩ ?_
  refine SRun.estep (x_estep_store (d := 1) (k := 4) (ti := ti32) (cs := [vi aX.Office, vi aX.Number, vs aX.Key, vs aX.Text, vl (eI .i64) aX.Seen]) (vs := [.own 5]) (v := .own 5) tbok rfl rfl) ?_
  refine SRun.nil ?_
  refine nx_n ?_
  refine swp_seq ?_
  refine swp_reg ?_
  refine SRun.ck tbok 1 ⟨8, [(2, .ref 2 0), (7, .agg [vi aX.Office, vi aX.Number, vs aX.Key, vs aX.Text, .own 5])], [(2, .box [vi 0, vi 0, vs (ByteArray.mk #[]), vs (ByteArray.mk #[]), vl (eI .i64) ([] : List Int)]), (5, .arr 2 1 x1.length (x1.map (eI .i64)))]⟩ ?_
  refine SRun.estep (x_estep_store (d := 2) (k := 0) (ti := ti61) (cs := [vi 0, vi 0, vs (ByteArray.mk #[]), vs (ByteArray.mk #[]), vl (eI .i64) ([] : List Int)]) (vs := [vi aX.Office, vi aX.Number, vs aX.Key, vs aX.Text, .own 5]) (v := .agg [vi aX.Office, vi aX.Number, vs aX.Key, vs aX.Text, .own 5]) tbok rfl rfl) ?_
  refine SRun.nil ?_
  refine nx_n ?_
  refine swp_ret ?_
  replace h := Option.some.inj h
  subst h
  exact q_fr (fin1 (by kernel_rfl) (finP (d := 5) [vi aX.Office, vi aX.Number, vs aX.Key, vs aX.Text] [] (holds_c tbok (d := 2) (cs := [vi aX.Office, vi aX.Number, vs aX.Key, vs aX.Text, .own 5]) (ti := ti61) (by kernel_rfl) (by kernel_rfl) (by kernel_rfl) (by kernel_rfl)) (by kernel_rfl) (flat_map (eI_flat .i64) _) rfl rfl SV.flatL_of SV.flatL_of (by kernel_rfl)))
theorem ents69 : Ents Tryd.prog 69 := ents_of Tryd.func69 (by kernel_rfl) rfl
noncomputable def impl_cloneLog (aLog : (List Op)) : Option ((List Op)) :=
  (((forS (aLog.length : Int) (fun (i3 : Int) (s3 : (List Op)) => ((at' aLog i3).bind fun x7 => ((impl_Op_clone x7).bind fun x8 => ((app' s3 ([x8] : List Op)).bind fun x9 => some x9)))) (fun (s3 : (List Op)) => s3) 0 ([] : List Op))).bind fun (j1 : (List Op)) => some j1)
set_option maxRecDepth 100000 in
set_option maxHeartbeats 4000000 in
theorem impl_cloneLog_run (aLog : (List Op)) (r : (List Op)) (h : impl_cloneLog aLog = some r) : SCall Tryd.prog 65 [.v (vl eOp aLog)] ⟨[.deep 61 5 r.length [.flat, .flat, .flat, .flat, (.sl 2 1 [.flat])] (r.map eOp)], [], false⟩ := by
  refine scall_in Tryd.func65 rfl [(.tmp 2)] rfl (fun r => ⟨[.deep 61 5 r.length [.flat, .flat, .flat, .flat, (.sl 2 1 [.flat])] (r.map eOp)], [], false⟩) (r := r) ?_
  unfold impl_cloneLog at h
  refine swp_seq ?_
  refine swp_reg ?_
  refine SRun.chunk tbok 1 (σ' := ⟨19, [(2, .own 2), (0, vl eOp aLog)], [(2, .arr 61 5 ([] : List Op).length (([] : List Op).map eOp))]⟩) (by kernel_rfl) ?_
  refine SRun.le (Le.deep0 (d := 2) (e := 61) (m := 5) (ss := [.flat, .flat, .flat, .flat, (.sl 2 1 [.flat])]) (by kernel_rfl) (by kernel_rfl)) ?_
  refine SRun.nil ?_
  refine nx_n ?_
  refine swp_seq ?_
  refine swp_reg ?_
  refine SRun.chunk tbok 1 (σ' := ⟨19, [(3, .own 3), (2, .own 2), (0, vl eOp aLog)], [(3, .arr 61 5 ([] : List Op).length (([] : List Op).map eOp)), (2, .deep 61 5 ([] : List Op).length [.flat, .flat, .flat, .flat, (.sl 2 1 [.flat])] (([] : List Op).map eOp))]⟩) (by kernel_rfl) ?_
  refine SRun.le (Le.deep0 (d := 3) (e := 61) (m := 5) (ss := [.flat, .flat, .flat, .flat, (.sl 2 1 [.flat])]) (by kernel_rfl) (by kernel_rfl)) ?_
  refine SRun.nil ?_
  refine nx_n ?_
  refine swp_seq ?_
  refine swp_seq ?_
  refine swp_reg ?_
  refine SRun.ck tbok 3 ⟨19, [(3, .own 3), (6, vl eOp aLog), (7, vi (aLog.length : Int)), (8, vi 0)], [(3, .deep 61 5 ([] : List Op).length [.flat, .flat, .flat, .flat, (.sl 2 1 [.flat])] (([] : List Op).map eOp))]⟩ ?_
  refine SRun.nil ?_
  refine nx_n ?_
  refine swp_seqJ h (fun j1 => ⟨19, [(3, .own 3)], [(3, .deep 61 5 j1.length [.flat, .flat, .flat, .flat, (.sl 2 1 [.flat])] (j1.map eOp))]⟩) (fun v2 h => ?_) (fun j1 h => ?_)
  refine swp_blk (a := v2) ?_
  refine swp_lpL (r := v2) (s := (0, ([] : List Op))) _ (fun s3 => ⟨19, [(3, .own 3), (6, vl eOp aLog), (7, vi (aLog.length : Int)), (8, vi s3.1)], [(3, .deep 61 5 s3.2.length [.flat, .flat, .flat, .flat, (.sl 2 1 [.flat])] (s3.2.map eOp))]⟩) _ (Le.sub0) h (fun s3 v4 h => ?_)
  refine swp_seq ?_
  refine swp_reg ?_
  refine SRun.ck tbok 1 ⟨19, [(3, .own 3), (6, vl eOp aLog), (7, vi (aLog.length : Int)), (8, vi s3.1), (9, vb (decide (s3.1 < (aLog.length : Int))))], [(3, .deep 61 5 s3.2.length [.flat, .flat, .flat, .flat, (.sl 2 1 [.flat])] (s3.2.map eOp))]⟩ ?_
  refine SRun.nil ?_
  refine nx_n ?_
  refine swp_seq ?_
  refine swp_cond (b := (decide (s3.1 < (aLog.length : Int)))) (by kernel_rfl) (fun hb => ?_) (fun hb => ?_)
  replace h := cond_t hb h
  refine swp_skip ?_
  refine nx_n ?_
  refine swp_seq ?_
  refine swp_seqJ h (fun j5 => ⟨19, [(3, .own 3), (6, vl eOp aLog), (7, vi (aLog.length : Int)), (8, vi s3.1)], [(3, .deep 61 5 j5.length [.flat, .flat, .flat, .flat, (.sl 2 1 [.flat])] (j5.map eOp))]⟩) (fun v6 h => ?_) (fun j5 h => ?_)
  refine swp_blk (a := v6) ?_
  refine swp_seq ?_
  refine swp_reg ?_
  obtain ⟨x7, hx7, h⟩ := bind_some h
  refine SRun.ls (x_index (L := aLog) (f := eOp) (ti := ti25) (tj := ti61) (e := 61) (k := .i64) tbok rfl hx7) ?_
  refine SRun.ck tbok 2 ⟨19, [(3, .own 3), (5, .ref 5 0), (6, vl eOp aLog), (7, vi (aLog.length : Int)), (8, vi s3.1), (11, .agg [vi x7.Office, vi x7.Number, vs x7.Key, vs x7.Text, vl (eI .i64) x7.Seen])], [(3, .deep 61 5 s3.2.length [.flat, .flat, .flat, .flat, (.sl 2 1 [.flat])] (s3.2.map eOp)), (5, .box [vi 0, vi 0, vs (ByteArray.mk #[]), vs (ByteArray.mk #[]), vl (eI .i64) ([] : List Int)])]⟩ ?_
  refine SRun.estep (x_estep_store (d := 5) (k := 0) (ti := ti61) (cs := [vi 0, vi 0, vs (ByteArray.mk #[]), vs (ByteArray.mk #[]), vl (eI .i64) ([] : List Int)]) (vs := [vi x7.Office, vi x7.Number, vs x7.Key, vs x7.Text, vl (eI .i64) x7.Seen]) (v := .agg [vi x7.Office, vi x7.Number, vs x7.Key, vs x7.Text, vl (eI .i64) x7.Seen]) tbok rfl rfl) ?_
  refine SRun.nil ?_
  refine nx_n ?_
  refine swp_reg ?_
  refine SRun.ck tbok 2 ⟨19, [(6, vl eOp aLog), (7, vi (aLog.length : Int)), (8, vi s3.1), (12, .own 3), (13, .agg [vi x7.Office, vi x7.Number, vs x7.Key, vs x7.Text, vl (eI .i64) x7.Seen])], [(3, .deep 61 5 s3.2.length [.flat, .flat, .flat, .flat, (.sl 2 1 [.flat])] (s3.2.map eOp))]⟩ ?_
  obtain ⟨x8, hx8, h⟩ := bind_some h
  refine SRun.ls (x_lstep_call (f := 69) (caps := []) (xs := [.agg [vi x7.Office, vi x7.Number, vs x7.Key, vs x7.Text, vl (eI .i64) x7.Seen]]) (ys := [.agg [vi x7.Office, vi x7.Number, vs x7.Key, vs x7.Text, vl (eI .i64) x7.Seen]]) (res := ⟨[.part [vi x8.Office, vi x8.Number, vs x8.Key, vs x8.Text] [] (.arr 2 1 x8.Seen.length (x8.Seen.map (eI .i64)))], [], false⟩) (x := .agg [vi x8.Office, vi x8.Number, vs x8.Key, vs x8.Text, .own 14]) (y := some (.arr 2 1 x8.Seen.length (x8.Seen.map (eI .i64)))) rfl ents69 (impl_Op_clone_run x7 _ hx8) rfl (by intro hc; cases hc)) ?_
  refine SRun.estep (x_build_deep (ti := ti25) (tj := ti61) (e := 61) (m := 5) (zs := [.int .i64 0, .int .i64 0, .string (ByteArray.mk #[]), .string (ByteArray.mk #[]), .slice none 0 0]) (v := .agg [vi x8.Office, vi x8.Number, vs x8.Key, vs x8.Text, .own 14]) (cs := [vi x8.Office, vi x8.Number, vs x8.Key, vs x8.Text, .own 14]) (ss := [.flat, .flat, .flat, .flat, (.sl 2 1 [.flat])]) (ts := [.int .i64 x8.Office, .int .i64 x8.Number, .str x8.Key, .str x8.Text, .sl x8.Seen.length (x8.Seen.map (eI .i64))]) (ds := [14]) tbok rfl rfl rfl (.cons _ _ _ [] _ _ _ _ (.flat (.int .i64 x8.Office) rfl) (.cons _ _ _ [] _ _ _ _ (.flat (.int .i64 x8.Number) rfl) (.cons _ _ _ [] _ _ _ _ (.flat (.str x8.Key) rfl) (.cons _ _ _ [] _ _ _ _ (.flat (.str x8.Text) rfl) (.cons _ _ _ [14] _ _ _ _ (cD_arr (d := 14) (e := 2) (m := 1) (n := x8.Seen.length) (es := x8.Seen.map (eI .i64)) (ss := [.flat]) (flat_map (eI_flat .i64) _)) .nil (by decide)) (by decide)) (by decide)) (by decide)) (by decide))) ?_
  obtain ⟨x9, hx9, h⟩ := bind_some h
  refine SRun.estep (x_append_deep (f := eOp) (L := s3.2) (M := ([x8] : List Op)) (t := 25) (ti := ti25) (tj := ti61) (zs := [.int .i64 0, .int .i64 0, .string (ByteArray.mk #[]), .string (ByteArray.mk #[]), .slice none 0 0]) (e := 61) (m := 5) (d := 3) (dx := 15) (ss := [.flat, .flat, .flat, .flat, (.sl 2 1 [.flat])]) hx9 tbok rfl rfl rfl rfl) ?_
  refine SRun.ck tbok 1 ⟨19, [(3, .own 16), (6, vl eOp aLog), (7, vi (aLog.length : Int)), (8, vi s3.1)], [(16, .deep 61 5 x9.length [.flat, .flat, .flat, .flat, (.sl 2 1 [.flat])] (x9.map eOp))]⟩ ?_
  refine SRun.nil ?_
  replace h := Option.some.inj h
  subst h
  exact q_bn (q_j ((Le.sub' ([(3, .own 16), (6, vl eOp aLog), (7, vi (aLog.length : Int)), (8, vi s3.1)] : List (Nat × SV)) ([(16, .deep 61 5 x9.length [.flat, .flat, .flat, .flat, (.sl 2 1 [.flat])] (x9.map eOp))] : List (Nat × SO)) (by kernel_rfl) (by kernel_rfl)).trans ((Le.ren' (d := 16) (e := 3) (by kernel_rfl) (by kernel_rfl) (by kernel_rfl)).trans (Le.sub0))))
  refine swp_reg ?_
  refine SRun.ck tbok 2 ⟨19, [(3, .own 3), (6, vl eOp aLog), (7, vi (aLog.length : Int)), (8, vi (w64 (s3.1 + 1)))], [(3, .deep 61 5 j5.length [.flat, .flat, .flat, .flat, (.sl 2 1 [.flat])] (j5.map eOp))]⟩ ?_
  refine SRun.nil ?_
  replace h := Option.some.inj h
  subst h
  exact q_l (Le.sub0)
  replace h := cond_f hb h
  refine swp_exit ?_
  replace h := Option.some.inj h
  subst h
  exact nx_e (q_re (q_bh (q_j (Le.sub0))))
  refine swp_seq ?_
  refine swp_reg ?_
  refine SRun.ck tbok 2 ⟨19, [(2, .own 3)], [(3, .deep 61 5 j1.length [.flat, .flat, .flat, .flat, (.sl 2 1 [.flat])] (j1.map eOp))]⟩ ?_
  refine SRun.nil ?_
  refine nx_n ?_
  refine swp_ret ?_
  replace h := Option.some.inj h
  subst h
  exact q_fr (fin1 (by kernel_rfl) (finD (d := 3) (holds_t (by kernel_rfl)) (by kernel_rfl) (by kernel_rfl)))
theorem ents65 : Ents Tryd.prog 65 := ents_of Tryd.func65 (by kernel_rfl) rfl
noncomputable def impl_MakeOp (aLog : (List Op)) (aOffice : Int) (aKey : ByteArray) (aText : ByteArray) : Option ((List Op) × Int) :=
  ((((impl_IsLog aLog).bind fun x1 => (bif (!x1) then some true else ((impl_within aOffice 0 3).bind fun x2 => some (!x2))))).bind fun (j3 : Bool) => (bif j3 then some (([] : List Op), 1) else ((impl_vectorOf aLog).bind fun x5 => ((at' x5 aOffice).bind fun x6 => ((((impl_isOp (Op.mk aOffice (w64 (x6 + 1)) aKey aText x5)).bind fun x9 => (bif (!x9) then some (.inr (([] : List Op), 1)) else (bif ((aLog.length : Int) == 16) then some (.inr (([] : List Op), 3)) else some (.inl ()))))).bind (Sum.elim (fun (_ : Unit) => ((impl_cloneLog aLog).bind fun x10 => ((app' x10 ([(Op.mk aOffice (w64 (x6 + 1)) aKey aText x5)] : List Op)).bind fun x11 => some (x11, 0)))) some))))))
set_option maxRecDepth 100000 in
set_option maxHeartbeats 4000000 in
theorem impl_MakeOp_run (aLog : (List Op)) (aOffice : Int) (aKey : ByteArray) (aText : ByteArray) (r : (List Op) × Int) (h : impl_MakeOp aLog aOffice aKey aText = some r) : SCall Tryd.prog 33 [.v (vl eOp aLog), .v (vi aOffice), .v (vs aKey), .v (vs aText)] ⟨[.deep 61 5 r.1.length [.flat, .flat, .flat, .flat, (.sl 2 1 [.flat])] (r.1.map eOp), .v (vi r.2)], [], false⟩ := by
  refine scall_in Tryd.func33 rfl [(.tmp 8), (.tmp 9)] rfl (fun r => ⟨[.deep 61 5 r.1.length [.flat, .flat, .flat, .flat, (.sl 2 1 [.flat])] (r.1.map eOp), .v (vi r.2)], [], false⟩) (r := r) ?_
  unfold impl_MakeOp at h
  refine swp_seq ?_
  refine swp_reg ?_
  refine SRun.chunk tbok 1 (σ' := ⟨45, [(8, .own 8), (0, vl eOp aLog), (1, vi aOffice), (2, vs aKey), (3, vs aText)], [(8, .arr 61 5 ([] : List Op).length (([] : List Op).map eOp))]⟩) (by kernel_rfl) ?_
  refine SRun.le (Le.deep0 (d := 8) (e := 61) (m := 5) (ss := [.flat, .flat, .flat, .flat, (.sl 2 1 [.flat])]) (by kernel_rfl) (by kernel_rfl)) ?_
  refine SRun.ck tbok 1 ⟨45, [(0, vl eOp aLog), (1, vi aOffice), (2, vs aKey), (3, vs aText)], []⟩ ?_
  refine SRun.nil ?_
  refine nx_n ?_
  refine swp_seq ?_
  refine swp_seq ?_
  refine swp_regJ h (fun j3 => ⟨45, [(0, vl eOp aLog), (1, vi aOffice), (2, vs aKey), (3, vs aText), (19, vb j3)], []⟩) (fun v4 h => ?_) (fun j3 h => ?_)
  refine SRun.ck tbok 1 ⟨45, [(0, vl eOp aLog), (1, vi aOffice), (2, vs aKey), (3, vs aText), (12, vl eOp aLog)], []⟩ ?_
  obtain ⟨x1, hx1, h⟩ := bind_some h
  refine SRun.ls (x_lstep_call (f := 15) (caps := []) (xs := [vl eOp aLog]) (ys := [vl eOp aLog]) (res := ⟨[.v (vb x1)], [], false⟩) (x := vb x1) (y := none) rfl ents15 (impl_IsLog_run aLog _ hx1) rfl (by intro hc; cases hc)) ?_
  refine SRun.ck tbok 2 ⟨45, [(0, vl eOp aLog), (1, vi aOffice), (2, vs aKey), (3, vs aText), (15, vb (!x1))], []⟩ ?_
  refine SRun.cut [(15, fun b => b)] (b := (!x1)) (by kernel_rfl) (fun hb => ?_) (fun hb => ?_)
  replace h := cond_t hb h
  refine SRun.ck tbok 4 ⟨45, [(0, vl eOp aLog), (1, vi aOffice), (2, vs aKey), (3, vs aText), (19, vb true)], []⟩ ?_
  refine SRun.nil ?_
  replace h := Option.some.inj h
  subst h
  exact Le.sub0
  replace h := cond_f hb h
  refine SRun.ck tbok 1 ⟨45, [(0, vl eOp aLog), (1, vi aOffice), (2, vs aKey), (3, vs aText), (15, vb false), (16, vi aOffice)], []⟩ ?_
  obtain ⟨x2, hx2, h⟩ := bind_some h
  refine SRun.ls (x_lstep_call (f := 64) (caps := []) (xs := [vi aOffice, vi 0, vi 3]) (ys := [vi aOffice, vi 0, vi 3]) (res := ⟨[.v (vb x2)], [], false⟩) (x := vb x2) (y := none) rfl ents64 (impl_within_run aOffice 0 3 _ hx2) rfl (by intro hc; cases hc)) ?_
  refine SRun.ck tbok 2 ⟨45, [(0, vl eOp aLog), (1, vi aOffice), (2, vs aKey), (3, vs aText), (19, vb (!x2))], []⟩ ?_
  refine SRun.nil ?_
  replace h := Option.some.inj h
  subst h
  exact Le.sub0
  refine swp_cond (b := j3) (by kernel_rfl) (fun hb => ?_) (fun hb => ?_)
  replace h := cond_t hb h
  refine swp_seq ?_
  refine swp_reg ?_
  refine SRun.chunk tbok 1 (σ' := ⟨45, [(8, .own 8), (0, vl eOp aLog), (1, vi aOffice), (2, vs aKey), (3, vs aText), (19, vb j3)], [(8, .arr 61 5 ([] : List Op).length (([] : List Op).map eOp))]⟩) (by kernel_rfl) ?_
  refine SRun.le (Le.deep0 (d := 8) (e := 61) (m := 5) (ss := [.flat, .flat, .flat, .flat, (.sl 2 1 [.flat])]) (by kernel_rfl) (by kernel_rfl)) ?_
  refine SRun.ck tbok 1 ⟨45, [(8, .own 8), (9, vi 1)], [(8, .deep 61 5 ([] : List Op).length [.flat, .flat, .flat, .flat, (.sl 2 1 [.flat])] (([] : List Op).map eOp))]⟩ ?_
  refine SRun.nil ?_
  refine nx_n ?_
  refine swp_ret ?_
  replace h := Option.some.inj h
  subst h
  exact nx_r (q_fr (fin2 (by kernel_rfl) (finD (d := 8) (holds_t (by kernel_rfl)) (by kernel_rfl) (by kernel_rfl)) (finV rfl SV.flat_of (holds_t (by kernel_rfl)))))
  replace h := cond_f hb h
  refine swp_skip ?_
  refine nx_n ?_
  refine swp_seq ?_
  refine swp_reg ?_
  refine SRun.ck tbok 1 ⟨45, [(0, vl eOp aLog), (1, vi aOffice), (2, vs aKey), (3, vs aText), (20, vl eOp aLog)], []⟩ ?_
  obtain ⟨x5, hx5, h⟩ := bind_some h
  refine SRun.ls (x_lstep_call (f := 50) (caps := []) (xs := [vl eOp aLog]) (ys := [vl eOp aLog]) (res := ⟨[.own 2 1 x5.length (x5.map (eI .i64))], [], false⟩) (x := .own 21) (y := some (.arr 2 1 x5.length (x5.map (eI .i64)))) rfl ents50 (impl_vectorOf_run aLog _ hx5) rfl (by intro hc; cases hc)) ?_
  refine SRun.ck tbok 1 ⟨45, [(0, vl eOp aLog), (1, vi aOffice), (2, vs aKey), (3, vs aText), (10, .own 21)], [(21, .arr 2 1 x5.length (x5.map (eI .i64)))]⟩ ?_
  refine SRun.nil ?_
  refine nx_n ?_
  refine swp_seq ?_
  refine swp_reg ?_
  refine SRun.ck tbok 3 ⟨45, [(0, vl eOp aLog), (2, vs aKey), (3, vs aText), (10, .own 21), (22, vi aOffice), (23, .own 21), (24, vi aOffice)], [(21, .arr 2 1 x5.length (x5.map (eI .i64)))]⟩ ?_
  obtain ⟨x6, hx6, h⟩ := bind_some h
  refine SRun.ls (x_index_own (d := 21) (L := x5) (f := (eI .i64)) (ti := ti32) (tj := ti2) (e := 2) (e' := 2) (m := 1) (k := .i64) tbok rfl hx6) ?_
  refine SRun.ls (x_load_own (d := 21) (m := 1) (j := 0) (L := x5) (f := (eI .i64)) (ti := ti2) (e := 2) (v := vi x6) tbok rfl hx6) ?_
  refine SRun.ck tbok 4 ⟨45, [(0, vl eOp aLog), (22, vi aOffice), (27, vi (w64 (x6 + 1))), (28, vs aKey), (29, vs aText), (30, .own 21)], [(21, .arr 2 1 x5.length (x5.map (eI .i64)))]⟩ ?_
  refine SRun.ls (x_lstep_build (v := .agg [vi aOffice, vi (w64 (x6 + 1)), vs aKey, vs aText, .own 21]) tbok rfl) ?_
  refine SRun.ck tbok 1 ⟨45, [(0, vl eOp aLog), (11, .ref 11 0), (31, .agg [vi aOffice, vi (w64 (x6 + 1)), vs aKey, vs aText, .own 21])], [(11, .box [vi 0, vi 0, vs (ByteArray.mk #[]), vs (ByteArray.mk #[]), vl (eI .i64) ([] : List Int)]), (21, .arr 2 1 x5.length (x5.map (eI .i64)))]⟩ ?_
  refine SRun.estep (x_estep_store (d := 11) (k := 0) (ti := ti61) (cs := [vi 0, vi 0, vs (ByteArray.mk #[]), vs (ByteArray.mk #[]), vl (eI .i64) ([] : List Int)]) (vs := [vi aOffice, vi (w64 (x6 + 1)), vs aKey, vs aText, .own 21]) (v := .agg [vi aOffice, vi (w64 (x6 + 1)), vs aKey, vs aText, .own 21]) tbok rfl rfl) ?_
  refine SRun.nil ?_
  refine nx_n ?_
  refine swp_seq ?_
  refine swp_seqE (r := r) h (fun j7 => ⟨45, [(0, vl eOp aLog), (11, .ref 11 0)], [(11, .box [vi aOffice, vi (w64 (x6 + 1)), vs aKey, vs aText, .own 21]), (21, .arr 2 1 x5.length (x5.map (eI .i64)))]⟩) (fun v8 h => ?_) (fun j7 h => ?_)
  refine swp_blk (a := v8) ?_
  refine swp_seq ?_
  refine swp_reg ?_
  refine SRun.ck tbok 1 ⟨45, [(0, vl eOp aLog), (11, .ref 11 0), (33, .agg [vi aOffice, vi (w64 (x6 + 1)), vs aKey, vs aText, .own 21])], [(11, .box [vi aOffice, vi (w64 (x6 + 1)), vs aKey, vs aText, .own 21]), (21, .arr 2 1 x5.length (x5.map (eI .i64)))]⟩ ?_
  obtain ⟨x9, hx9, h⟩ := bind_some h
  refine SRun.ls (x_lstep_call (f := 49) (caps := []) (xs := [.agg [vi aOffice, vi (w64 (x6 + 1)), vs aKey, vs aText, .own 21]]) (ys := [.agg [vi aOffice, vi (w64 (x6 + 1)), vs aKey, vs aText, vl (eI .i64) x5]]) (res := ⟨[.v (vb x9)], [], false⟩) (x := vb x9) (y := none) rfl ents49 (impl_isOp_run (Op.mk aOffice (w64 (x6 + 1)) aKey aText x5) _ hx9) rfl (by intro hc; cases hc)) ?_
  refine SRun.ck tbok 2 ⟨45, [(0, vl eOp aLog), (11, .ref 11 0), (32, vb (!x9))], [(11, .box [vi aOffice, vi (w64 (x6 + 1)), vs aKey, vs aText, .own 21]), (21, .arr 2 1 x5.length (x5.map (eI .i64)))]⟩ ?_
  refine SRun.nil ?_
  refine nx_n ?_
  refine swp_cond (b := (!x9)) (by kernel_rfl) (fun hb => ?_) (fun hb => ?_)
  replace h := cond_t hb h
  refine swp_seq ?_
  refine swp_reg ?_
  refine SRun.chunk tbok 1 (σ' := ⟨45, [(8, .own 8), (0, vl eOp aLog), (11, .ref 11 0), (32, vb (!x9))], [(8, .arr 61 5 ([] : List Op).length (([] : List Op).map eOp)), (11, .box [vi aOffice, vi (w64 (x6 + 1)), vs aKey, vs aText, .own 21]), (21, .arr 2 1 x5.length (x5.map (eI .i64)))]⟩) (by kernel_rfl) ?_
  refine SRun.le (Le.deep0 (d := 8) (e := 61) (m := 5) (ss := [.flat, .flat, .flat, .flat, (.sl 2 1 [.flat])]) (by kernel_rfl) (by kernel_rfl)) ?_
  refine SRun.ck tbok 1 ⟨45, [(8, .own 8), (9, vi 1)], [(8, .deep 61 5 ([] : List Op).length [.flat, .flat, .flat, .flat, (.sl 2 1 [.flat])] (([] : List Op).map eOp))]⟩ ?_
  refine SRun.nil ?_
  refine nx_n ?_
  refine swp_ret ?_
  replace h := Option.some.inj h
  subst h
  exact q_br (q_rr (q_fr (fin2 (by kernel_rfl) (finD (d := 8) (holds_t (by kernel_rfl)) (by kernel_rfl) (by kernel_rfl)) (finV rfl SV.flat_of (holds_t (by kernel_rfl))))))
  replace h := cond_f hb h
  refine swp_seq ?_
  refine swp_reg ?_
  refine SRun.ck tbok 4 ⟨45, [(0, vl eOp aLog), (11, .ref 11 0), (36, vb ((aLog.length : Int) == 16))], [(11, .box [vi aOffice, vi (w64 (x6 + 1)), vs aKey, vs aText, .own 21]), (21, .arr 2 1 x5.length (x5.map (eI .i64)))]⟩ ?_
  refine SRun.nil ?_
  refine nx_n ?_
  refine swp_cond (b := ((aLog.length : Int) == 16)) (by kernel_rfl) (fun hb => ?_) (fun hb => ?_)
  replace h := cond_t hb h
  refine swp_seq ?_
  refine swp_reg ?_
  refine SRun.chunk tbok 1 (σ' := ⟨45, [(8, .own 8), (0, vl eOp aLog), (11, .ref 11 0), (36, vb ((aLog.length : Int) == 16))], [(8, .arr 61 5 ([] : List Op).length (([] : List Op).map eOp)), (11, .box [vi aOffice, vi (w64 (x6 + 1)), vs aKey, vs aText, .own 21]), (21, .arr 2 1 x5.length (x5.map (eI .i64)))]⟩) (by kernel_rfl) ?_
  refine SRun.le (Le.deep0 (d := 8) (e := 61) (m := 5) (ss := [.flat, .flat, .flat, .flat, (.sl 2 1 [.flat])]) (by kernel_rfl) (by kernel_rfl)) ?_
  refine SRun.ck tbok 1 ⟨45, [(8, .own 8), (9, vi 3)], [(8, .deep 61 5 ([] : List Op).length [.flat, .flat, .flat, .flat, (.sl 2 1 [.flat])] (([] : List Op).map eOp))]⟩ ?_
  refine SRun.nil ?_
  refine nx_n ?_
  refine swp_ret ?_
  replace h := Option.some.inj h
  subst h
  exact q_br (q_rr (q_fr (fin2 (by kernel_rfl) (finD (d := 8) (holds_t (by kernel_rfl)) (by kernel_rfl) (by kernel_rfl)) (finV rfl SV.flat_of (holds_t (by kernel_rfl))))))
  replace h := cond_f hb h
  refine swp_skip ?_
  replace h := Option.some.inj h
  subst h
  exact q_bn (q_l (Le.sub0))
  refine swp_seq ?_
  obtain ⟨x10, hx10, h⟩ := bind_some h
  obtain ⟨x11, hx11, h⟩ := bind_some h
  refine swp_dr mixed ?_
  refine DGo.enum (σE := ⟨45, [(8, .own 44), (9, vi 0)], [(44, .deep 61 5 x11.length [.flat, .flat, .flat, .flat, (.sl 2 1 [.flat])] (x11.map eOp))]⟩) (n := 7) (L0 := #[false, false, false, false, false, false, false]) (by kernel_rfl) (by kernel_rfl) (fun K hk => ?_) ?_
  refine DE.share (fuel := 0) (L := #[true, true, true, true, true, true, true]) (σ := ⟨45, [(8, .own 44), (9, vi 0)], [(44, .deep 61 5 x11.length [.flat, .flat, .flat, .flat, (.sl 2 1 [.flat])] (x11.map eOp))]⟩) ?_ (fun d9 => ?_)
  exact DE.done (by kernel_rfl) hk
  refine DE.share (fuel := 1) (L := #[true, true, true, true, true, true, false]) (σ := ⟨45, [(8, .own 44)], [(44, .deep 61 5 x11.length [.flat, .flat, .flat, .flat, (.sl 2 1 [.flat])] (x11.map eOp))]⟩) ?_ (fun d8 => ?_)
  exact DE.take (i := 6) (L' := #[true, true, true, true, true, true, true]) rfl (.inr rfl) rfl (by kernel_rfl) (by kernel_rfl) (by kernel_rfl) (EStep.le (EStep.ofN2 tbok (σ' := ⟨45, [(9, vi 0), (8, .own 44)], [(44, .deep 61 5 x11.length [.flat, .flat, .flat, .flat, (.sl 2 1 [.flat])] (x11.map eOp))]⟩) (by kernel_rfl)) Le.sub0) (by kernel_rfl) d9
  refine DE.share (fuel := 2) (L := #[true, true, true, true, true, false, false]) (σ := ⟨45, [(44, .own 44)], [(44, .deep 61 5 x11.length [.flat, .flat, .flat, .flat, (.sl 2 1 [.flat])] (x11.map eOp))]⟩) ?_ (fun d7 => ?_)
  exact DE.take (i := 5) (L' := #[true, true, true, true, true, true, false]) rfl (.inr rfl) rfl (by kernel_rfl) (by kernel_rfl) (by kernel_rfl) (EStep.le (EStep.ofN2 tbok (σ' := ⟨45, [(8, .own 44), (44, .own 44)], [(44, .deep 61 5 x11.length [.flat, .flat, .flat, .flat, (.sl 2 1 [.flat])] (x11.map eOp))]⟩) (by kernel_rfl)) Le.sub0) (by kernel_rfl) d8
  refine DE.share (fuel := 3) (L := #[true, true, true, true, false, false, false]) (σ := ⟨45, [(41, .own 41), (43, .own 43)], [(41, .deep 61 5 x10.length [.flat, .flat, .flat, .flat, (.sl 2 1 [.flat])] (x10.map eOp)), (43, .deep 61 5 ([(Op.mk aOffice (w64 (x6 + 1)) aKey aText x5)] : List Op).length [.flat, .flat, .flat, .flat, (.sl 2 1 [.flat])] (([(Op.mk aOffice (w64 (x6 + 1)) aKey aText x5)] : List Op).map eOp))]⟩) ?_ (fun d6 => ?_)
  exact DE.all [4] (by kernel_rfl) (by simp) (List.forall_mem_cons.2 ⟨DEs.mk (i := 4) (L' := #[true, true, true, true, true, false, false]) rfl (EStep.le (x_append_deep (f := eOp) (L := x10) (M := ([(Op.mk aOffice (w64 (x6 + 1)) aKey aText x5)] : List Op)) (t := 25) (ti := ti25) (tj := ti61) (zs := [.int .i64 0, .int .i64 0, .string (ByteArray.mk #[]), .string (ByteArray.mk #[]), .slice none 0 0]) (e := 61) (m := 5) (d := 41) (dx := 43) (ss := [.flat, .flat, .flat, .flat, (.sl 2 1 [.flat])]) hx11 tbok rfl rfl rfl rfl) Le.sub0) (by kernel_rfl) d7, (fun _ h => absurd h List.not_mem_nil)⟩)
  refine DE.share (fuel := 4) (L := #[true, false, true, true, false, false, false]) (σ := ⟨45, [(40, vl eOp aLog), (43, .own 43)], [(43, .deep 61 5 ([(Op.mk aOffice (w64 (x6 + 1)) aKey aText x5)] : List Op).length [.flat, .flat, .flat, .flat, (.sl 2 1 [.flat])] (([(Op.mk aOffice (w64 (x6 + 1)) aKey aText x5)] : List Op).map eOp))]⟩) ?_ (fun d5 => ?_)
  exact DE.all [1] (by kernel_rfl) (by simp) (List.forall_mem_cons.2 ⟨DEs.mk (i := 1) (L' := #[true, true, true, true, false, false, false]) rfl (EStep.le (EStep.ofL (x_lstep_call (f := 65) (caps := []) (xs := [vl eOp aLog]) (ys := [vl eOp aLog]) (res := ⟨[.deep 61 5 x10.length [.flat, .flat, .flat, .flat, (.sl 2 1 [.flat])] (x10.map eOp)], [], false⟩) (x := .own 41) (y := some (.deep 61 5 x10.length [.flat, .flat, .flat, .flat, (.sl 2 1 [.flat])] (x10.map eOp))) rfl ents65 (impl_cloneLog_run aLog _ hx10) rfl (by intro hc; cases hc)) (by kernel_rfl)) Le.sub0) (by kernel_rfl) d6, (fun _ h => absurd h List.not_mem_nil)⟩)
  refine DE.share (fuel := 4) (L := #[true, true, true, false, false, false, false]) (σ := ⟨45, [(41, .own 41), (42, .agg [vi aOffice, vi (w64 (x6 + 1)), vs aKey, vs aText, .own 21])], [(21, .arr 2 1 x5.length (x5.map (eI .i64))), (41, .deep 61 5 x10.length [.flat, .flat, .flat, .flat, (.sl 2 1 [.flat])] (x10.map eOp))]⟩) ?_ (fun d4 => ?_)
  exact DE.all [3] (by kernel_rfl) (by simp) (List.forall_mem_cons.2 ⟨DEs.mk (i := 3) (L' := #[true, true, true, true, false, false, false]) rfl (EStep.le (x_build_deep (ti := ti25) (tj := ti61) (e := 61) (m := 5) (zs := [.int .i64 0, .int .i64 0, .string (ByteArray.mk #[]), .string (ByteArray.mk #[]), .slice none 0 0]) (v := .agg [vi aOffice, vi (w64 (x6 + 1)), vs aKey, vs aText, .own 21]) (cs := [vi aOffice, vi (w64 (x6 + 1)), vs aKey, vs aText, .own 21]) (ss := [.flat, .flat, .flat, .flat, (.sl 2 1 [.flat])]) (ts := [.int .i64 aOffice, .int .i64 (w64 (x6 + 1)), .str aKey, .str aText, .sl x5.length (x5.map (eI .i64))]) (ds := [21]) tbok rfl rfl rfl (.cons _ _ _ [] _ _ _ _ (.flat (.int .i64 aOffice) rfl) (.cons _ _ _ [] _ _ _ _ (.flat (.int .i64 (w64 (x6 + 1))) rfl) (.cons _ _ _ [] _ _ _ _ (.flat (.str aKey) rfl) (.cons _ _ _ [] _ _ _ _ (.flat (.str aText) rfl) (.cons _ _ _ [21] _ _ _ _ (cD_arr (d := 21) (e := 2) (m := 1) (n := x5.length) (es := x5.map (eI .i64)) (ss := [.flat]) (flat_map (eI_flat .i64) _)) .nil (by decide)) (by decide)) (by decide)) (by decide)) (by decide))) Le.sub0) (by kernel_rfl) d6, (fun _ h => absurd h List.not_mem_nil)⟩)
  refine DE.share (fuel := 5) (L := #[true, false, true, false, false, false, false]) (σ := ⟨45, [(40, vl eOp aLog), (42, .agg [vi aOffice, vi (w64 (x6 + 1)), vs aKey, vs aText, .own 21])], [(21, .arr 2 1 x5.length (x5.map (eI .i64)))]⟩) ?_ (fun d3 => ?_)
  exact DE.all [1, 3] (by kernel_rfl) (by simp) (List.forall_mem_cons.2 ⟨DEs.mk (i := 1) (L' := #[true, true, true, false, false, false, false]) rfl (EStep.le (EStep.ofL (x_lstep_call (f := 65) (caps := []) (xs := [vl eOp aLog]) (ys := [vl eOp aLog]) (res := ⟨[.deep 61 5 x10.length [.flat, .flat, .flat, .flat, (.sl 2 1 [.flat])] (x10.map eOp)], [], false⟩) (x := .own 41) (y := some (.deep 61 5 x10.length [.flat, .flat, .flat, .flat, (.sl 2 1 [.flat])] (x10.map eOp))) rfl ents65 (impl_cloneLog_run aLog _ hx10) rfl (by intro hc; cases hc)) (by kernel_rfl)) Le.sub0) (by kernel_rfl) d4, (List.forall_mem_cons.2 ⟨DEs.mk (i := 3) (L' := #[true, false, true, true, false, false, false]) rfl (EStep.le (x_build_deep (ti := ti25) (tj := ti61) (e := 61) (m := 5) (zs := [.int .i64 0, .int .i64 0, .string (ByteArray.mk #[]), .string (ByteArray.mk #[]), .slice none 0 0]) (v := .agg [vi aOffice, vi (w64 (x6 + 1)), vs aKey, vs aText, .own 21]) (cs := [vi aOffice, vi (w64 (x6 + 1)), vs aKey, vs aText, .own 21]) (ss := [.flat, .flat, .flat, .flat, (.sl 2 1 [.flat])]) (ts := [.int .i64 aOffice, .int .i64 (w64 (x6 + 1)), .str aKey, .str aText, .sl x5.length (x5.map (eI .i64))]) (ds := [21]) tbok rfl rfl rfl (.cons _ _ _ [] _ _ _ _ (.flat (.int .i64 aOffice) rfl) (.cons _ _ _ [] _ _ _ _ (.flat (.int .i64 (w64 (x6 + 1))) rfl) (.cons _ _ _ [] _ _ _ _ (.flat (.str aKey) rfl) (.cons _ _ _ [] _ _ _ _ (.flat (.str aText) rfl) (.cons _ _ _ [21] _ _ _ _ (cD_arr (d := 21) (e := 2) (m := 1) (n := x5.length) (es := x5.map (eI .i64)) (ss := [.flat]) (flat_map (eI_flat .i64) _)) .nil (by decide)) (by decide)) (by decide)) (by decide)) (by decide))) Le.sub0) (by kernel_rfl) d5, (fun _ h => absurd h List.not_mem_nil)⟩)⟩)
  refine DE.share (fuel := 5) (L := #[true, true, false, false, false, false, false]) (σ := ⟨45, [(11, .ref 11 0), (41, .own 41)], [(11, .box [vi aOffice, vi (w64 (x6 + 1)), vs aKey, vs aText, .own 21]), (21, .arr 2 1 x5.length (x5.map (eI .i64))), (41, .deep 61 5 x10.length [.flat, .flat, .flat, .flat, (.sl 2 1 [.flat])] (x10.map eOp))]⟩) ?_ (fun d2 => ?_)
  exact DE.all [2] (by kernel_rfl) (by simp) (List.forall_mem_cons.2 ⟨DEs.mk (i := 2) (L' := #[true, true, true, false, false, false, false]) rfl (EStep.le (EStep.ofN2 tbok (σ' := ⟨45, [(42, .agg [vi aOffice, vi (w64 (x6 + 1)), vs aKey, vs aText, .own 21]), (11, .ref 11 0), (41, .own 41)], [(11, .box [vi aOffice, vi (w64 (x6 + 1)), vs aKey, vs aText, .own 21]), (21, .arr 2 1 x5.length (x5.map (eI .i64))), (41, .deep 61 5 x10.length [.flat, .flat, .flat, .flat, (.sl 2 1 [.flat])] (x10.map eOp))]⟩) (by kernel_rfl)) Le.sub0) (by kernel_rfl) d4, (fun _ h => absurd h List.not_mem_nil)⟩)
  refine DE.share (fuel := 6) (L := #[true, false, false, false, false, false, false]) (σ := ⟨45, [(11, .ref 11 0), (40, vl eOp aLog)], [(11, .box [vi aOffice, vi (w64 (x6 + 1)), vs aKey, vs aText, .own 21]), (21, .arr 2 1 x5.length (x5.map (eI .i64)))]⟩) ?_ (fun d1 => ?_)
  exact DE.all [1, 2] (by kernel_rfl) (by simp) (List.forall_mem_cons.2 ⟨DEs.mk (i := 1) (L' := #[true, true, false, false, false, false, false]) rfl (EStep.le (EStep.ofL (x_lstep_call (f := 65) (caps := []) (xs := [vl eOp aLog]) (ys := [vl eOp aLog]) (res := ⟨[.deep 61 5 x10.length [.flat, .flat, .flat, .flat, (.sl 2 1 [.flat])] (x10.map eOp)], [], false⟩) (x := .own 41) (y := some (.deep 61 5 x10.length [.flat, .flat, .flat, .flat, (.sl 2 1 [.flat])] (x10.map eOp))) rfl ents65 (impl_cloneLog_run aLog _ hx10) rfl (by intro hc; cases hc)) (by kernel_rfl)) Le.sub0) (by kernel_rfl) d2, (List.forall_mem_cons.2 ⟨DEs.mk (i := 2) (L' := #[true, false, true, false, false, false, false]) rfl (EStep.le (EStep.ofN2 tbok (σ' := ⟨45, [(42, .agg [vi aOffice, vi (w64 (x6 + 1)), vs aKey, vs aText, .own 21]), (11, .ref 11 0), (40, vl eOp aLog)], [(11, .box [vi aOffice, vi (w64 (x6 + 1)), vs aKey, vs aText, .own 21]), (21, .arr 2 1 x5.length (x5.map (eI .i64)))]⟩) (by kernel_rfl)) Le.sub0) (by kernel_rfl) d3, (fun _ h => absurd h List.not_mem_nil)⟩)⟩)
  exact DE.take (i := 0) (L' := #[true, false, false, false, false, false, false]) rfl (.inl rfl) rfl (by kernel_rfl) (by kernel_rfl) (by kernel_rfl) (EStep.le (EStep.ofN2 tbok (σ' := ⟨45, [(40, vl eOp aLog), (0, vl eOp aLog), (11, .ref 11 0)], [(11, .box [vi aOffice, vi (w64 (x6 + 1)), vs aKey, vs aText, .own 21]), (21, .arr 2 1 x5.length (x5.map (eI .i64)))]⟩) (by kernel_rfl)) Le.sub0) (by kernel_rfl) d1
  refine nx_n ?_
  refine swp_ret ?_
  replace h := Option.some.inj h
  subst h
  exact q_fr (fin2 (by kernel_rfl) (finD (d := 44) (holds_t (by kernel_rfl)) (by kernel_rfl) (by kernel_rfl)) (finV rfl SV.flat_of (holds_t (by kernel_rfl))))
theorem ents33 : Ents Tryd.prog 33 := ents_of Tryd.func33 (by kernel_rfl) rfl
noncomputable def spec_DrawTextOf (aCode : (List Int)) : Option ((List Op) × ByteArray) :=
  ((spec_l01From aCode).bind fun x1 => ((spec_l32Draw x1).bind fun x2 => ((spec_l01Next x2.2 3).bind fun x3 => ((at' ([(ByteArray.mk #[97, 115, 104]), (ByteArray.mk #[98, 114, 105, 103]), (ByteArray.mk #[110, 111, 110, 101])] : List ByteArray) x3.1).bind fun x4 => some (x2.1, x4)))))
set_option maxRecDepth 100000 in
set_option maxHeartbeats 4000000 in
theorem spec_DrawTextOf_run (aCode : (List Int)) (r : (List Op) × ByteArray) (h : spec_DrawTextOf aCode = some r) : SCall Tryd.prog 76 [.v (vl (eI .u8) aCode)] ⟨[.v (vl eOp r.1), .v (vs r.2)], [], true⟩ := by
  refine scall_in Tryd.func76 rfl [(.tmp 2), (.tmp 3)] rfl (fun r => ⟨[.v (vl eOp r.1), .v (vs r.2)], [], true⟩) (r := r) ?_
  unfold spec_DrawTextOf at h
  refine swp_seq ?_
  refine swp_reg ?_
  refine SRun.ck tbok 2 ⟨16, [(0, vl (eI .u8) aCode)], []⟩ ?_
  refine SRun.nil ?_
  refine nx_n ?_
  refine swp_seq ?_
  refine swp_reg ?_
  refine SRun.ck tbok 1 ⟨16, [(6, vl (eI .u8) aCode)], []⟩ ?_
  obtain ⟨x1, hx1, h⟩ := bind_some h
  refine SRun.ls (x_lstep_call (f := 71) (caps := []) (xs := [vl (eI .u8) aCode]) (ys := [vl (eI .u8) aCode]) (res := ⟨[.box [vl (eI .u8) x1.code, vi x1.at', vi x1.seed]], [], true⟩) (x := .ref 7 0) (y := some (.box [vl (eI .u8) x1.code, vi x1.at', vi x1.seed])) rfl ents71 (spec_l01From_run aCode _ hx1) rfl (fun _ => rfl)) ?_
  refine SRun.ck tbok 1 ⟨16, [(4, .ref 7 0)], [(7, .box [vl (eI .u8) x1.code, vi x1.at', vi x1.seed])]⟩ ?_
  refine SRun.nil ?_
  refine nx_n ?_
  refine swp_seq ?_
  refine swp_reg ?_
  refine SRun.ck tbok 1 ⟨16, [(4, .ref 7 0), (8, .ref 7 0)], [(7, .box [vl (eI .u8) x1.code, vi x1.at', vi x1.seed])]⟩ ?_
  obtain ⟨x2, hx2, h⟩ := bind_some h
  refine SRun.estep (x_estep_call (f := 72) (caps := []) (xs := [.ref 7 0]) (pre := []) (post := []) (qs := []) (z := .ref 7 0) (d := 7) (pl := 0) (y := .box [vl (eI .u8) x1.code, vi x1.at', vi x1.seed]) (y' := .box [vl (eI .u8) x2.2.code, vi x2.2.at', vi x2.2.seed]) (res := ⟨[.v (vl eOp x2.1)], [(0, .box [vl (eI .u8) x2.2.code, vi x2.2.at', vi x2.2.seed])], true⟩) (x := vl eOp x2.1) (yo := none) rfl rfl rfl rfl rfl ents72 (spec_l32Draw_run x1 _ hx2) rfl rfl false (fun _ => rfl) (by intro hc; cases hc)) ?_
  refine SRun.ck tbok 1 ⟨16, [(4, .ref 7 0), (5, vl eOp x2.1)], [(7, .box [vl (eI .u8) x2.2.code, vi x2.2.at', vi x2.2.seed])]⟩ ?_
  refine SRun.nil ?_
  refine nx_n ?_
  refine swp_seq ?_
  obtain ⟨x3, hx3, h⟩ := bind_some h
  obtain ⟨x4, hx4, h⟩ := bind_some h
  refine swp_dr mixed ?_
  refine DGo.enum (σE := ⟨16, [(2, vl eOp x2.1), (3, vs x4)], []⟩) (n := 8) (L0 := #[false, false, false, false, false, false, false, false]) (by kernel_rfl) (by kernel_rfl) (fun K hk => ?_) ?_
  refine DE.share (fuel := 0) (L := #[true, true, true, true, true, true, true, true]) (σ := ⟨16, [(2, vl eOp x2.1), (3, vs x4)], []⟩) ?_ (fun d10 => ?_)
  exact DE.done (by kernel_rfl) hk
  refine DE.share (fuel := 1) (L := #[true, true, true, true, true, true, true, false]) (σ := ⟨16, [(2, vl eOp x2.1), (15, vs x4)], []⟩) ?_ (fun d9 => ?_)
  exact DE.take (i := 7) (L' := #[true, true, true, true, true, true, true, true]) rfl (.inr rfl) rfl (by kernel_rfl) (by kernel_rfl) (by kernel_rfl) (EStep.le (EStep.ofN2 tbok (σ' := ⟨16, [(3, vs x4), (2, vl eOp x2.1), (15, vs x4)], []⟩) (by kernel_rfl)) Le.sub0) (by kernel_rfl) d10
  refine DE.share (fuel := 2) (L := #[true, true, true, true, true, false, true, false]) (σ := ⟨16, [(2, vl eOp x2.1), (14, .eref 11 1 (Int.toNat x3.1) 0)], [(11, .arr 9 1 ([(ByteArray.mk #[97, 115, 104]), (ByteArray.mk #[98, 114, 105, 103]), (ByteArray.mk #[110, 111, 110, 101])] : List ByteArray).length (([(ByteArray.mk #[97, 115, 104]), (ByteArray.mk #[98, 114, 105, 103]), (ByteArray.mk #[110, 111, 110, 101])] : List ByteArray).map eS))]⟩) ?_ (fun d8 => ?_)
  exact DE.all [5] (by kernel_rfl) (by simp) (List.forall_mem_cons.2 ⟨DEs.mk (i := 5) (L' := #[true, true, true, true, true, true, true, false]) rfl (EStep.le (EStep.ofL (x_load_own (d := 11) (m := 1) (j := 0) (L := ([(ByteArray.mk #[97, 115, 104]), (ByteArray.mk #[98, 114, 105, 103]), (ByteArray.mk #[110, 111, 110, 101])] : List ByteArray)) (f := eS) (ti := ti9) (e := 9) (v := vs x4) tbok rfl hx4) (by kernel_rfl)) Le.sub0) (by kernel_rfl) d9, (fun _ h => absurd h List.not_mem_nil)⟩)
  refine DE.share (fuel := 3) (L := #[true, true, true, true, false, false, true, false]) (σ := ⟨16, [(2, vl eOp x2.1), (11, .own 11), (13, vi x3.1)], [(11, .arr 9 1 ([(ByteArray.mk #[97, 115, 104]), (ByteArray.mk #[98, 114, 105, 103]), (ByteArray.mk #[110, 111, 110, 101])] : List ByteArray).length (([(ByteArray.mk #[97, 115, 104]), (ByteArray.mk #[98, 114, 105, 103]), (ByteArray.mk #[110, 111, 110, 101])] : List ByteArray).map eS))]⟩) ?_ (fun d7 => ?_)
  exact DE.all [4] (by kernel_rfl) (by simp) (List.forall_mem_cons.2 ⟨DEs.mk (i := 4) (L' := #[true, true, true, true, true, false, true, false]) rfl (EStep.le (EStep.ofL (x_index_own (d := 11) (L := ([(ByteArray.mk #[97, 115, 104]), (ByteArray.mk #[98, 114, 105, 103]), (ByteArray.mk #[110, 111, 110, 101])] : List ByteArray)) (f := eS) (ti := ti86) (tj := ti9) (e := 9) (e' := 9) (m := 1) (k := .i64) tbok rfl hx4) (by kernel_rfl)) Le.sub0) (by kernel_rfl) d8, (fun _ h => absurd h List.not_mem_nil)⟩)
  refine DE.share (fuel := 4) (L := #[true, false, true, true, false, false, true, false]) (σ := ⟨16, [(2, vl eOp x2.1), (13, vi x3.1)], []⟩) ?_ (fun d6 => ?_)
  exact DE.all [1] (by kernel_rfl) (by simp) (List.forall_mem_cons.2 ⟨DEs.mk (i := 1) (L' := #[true, true, true, true, false, false, true, false]) rfl (EStep.le (EStep.ofN2 tbok (σ' := ⟨16, [(11, .own 11), (2, vl eOp x2.1), (13, vi x3.1)], [(11, .arr 9 1 ([(ByteArray.mk #[97, 115, 104]), (ByteArray.mk #[98, 114, 105, 103]), (ByteArray.mk #[110, 111, 110, 101])] : List ByteArray).length (([(ByteArray.mk #[97, 115, 104]), (ByteArray.mk #[98, 114, 105, 103]), (ByteArray.mk #[110, 111, 110, 101])] : List ByteArray).map eS))]⟩) (by kernel_rfl)) Le.sub0) (by kernel_rfl) d7, (fun _ h => absurd h List.not_mem_nil)⟩)
  refine DE.share (fuel := 4) (L := #[true, true, true, true, false, false, false, false]) (σ := ⟨16, [(10, vl eOp x2.1), (11, .own 11), (13, vi x3.1)], [(11, .arr 9 1 ([(ByteArray.mk #[97, 115, 104]), (ByteArray.mk #[98, 114, 105, 103]), (ByteArray.mk #[110, 111, 110, 101])] : List ByteArray).length (([(ByteArray.mk #[97, 115, 104]), (ByteArray.mk #[98, 114, 105, 103]), (ByteArray.mk #[110, 111, 110, 101])] : List ByteArray).map eS))]⟩) ?_ (fun d5 => ?_)
  exact DE.take (i := 6) (L' := #[true, true, true, true, false, false, true, false]) rfl (.inr rfl) rfl (by kernel_rfl) (by kernel_rfl) (by kernel_rfl) (EStep.le (EStep.ofN2 tbok (σ' := ⟨16, [(2, vl eOp x2.1), (10, vl eOp x2.1), (11, .own 11), (13, vi x3.1)], [(11, .arr 9 1 ([(ByteArray.mk #[97, 115, 104]), (ByteArray.mk #[98, 114, 105, 103]), (ByteArray.mk #[110, 111, 110, 101])] : List ByteArray).length (([(ByteArray.mk #[97, 115, 104]), (ByteArray.mk #[98, 114, 105, 103]), (ByteArray.mk #[110, 111, 110, 101])] : List ByteArray).map eS))]⟩) (by kernel_rfl)) Le.sub0) (by kernel_rfl) d7
  refine DE.share (fuel := 5) (L := #[true, false, true, true, false, false, false, false]) (σ := ⟨16, [(10, vl eOp x2.1), (13, vi x3.1)], []⟩) ?_ (fun d4 => ?_)
  exact DE.take (i := 6) (L' := #[true, false, true, true, false, false, true, false]) rfl (.inr rfl) rfl (by kernel_rfl) (by kernel_rfl) (by kernel_rfl) (EStep.le (EStep.ofN2 tbok (σ' := ⟨16, [(2, vl eOp x2.1), (10, vl eOp x2.1), (13, vi x3.1)], []⟩) (by kernel_rfl)) Le.sub0) (by kernel_rfl) d6
  refine DE.share (fuel := 5) (L := #[true, true, true, false, false, false, false, false]) (σ := ⟨16, [(10, vl eOp x2.1), (11, .own 11), (12, .ref 7 0)], [(7, .box [vl (eI .u8) x2.2.code, vi x2.2.at', vi x2.2.seed]), (11, .arr 9 1 ([(ByteArray.mk #[97, 115, 104]), (ByteArray.mk #[98, 114, 105, 103]), (ByteArray.mk #[110, 111, 110, 101])] : List ByteArray).length (([(ByteArray.mk #[97, 115, 104]), (ByteArray.mk #[98, 114, 105, 103]), (ByteArray.mk #[110, 111, 110, 101])] : List ByteArray).map eS))]⟩) ?_ (fun d3 => ?_)
  exact DE.all [3] (by kernel_rfl) (by simp) (List.forall_mem_cons.2 ⟨DEs.mk (i := 3) (L' := #[true, true, true, true, false, false, false, false]) rfl (EStep.le (x_estep_call (f := 77) (caps := []) (xs := [.ref 7 0, vi 3]) (pre := []) (post := [vi 3]) (qs := [vi 3]) (z := .ref 7 0) (d := 7) (pl := 0) (y := .box [vl (eI .u8) x2.2.code, vi x2.2.at', vi x2.2.seed]) (y' := .box [vl (eI .u8) x3.2.code, vi x3.2.at', vi x3.2.seed]) (res := ⟨[.v (vi x3.1)], [(0, .box [vl (eI .u8) x3.2.code, vi x3.2.at', vi x3.2.seed])], false⟩) (x := vi x3.1) (yo := none) rfl rfl rfl rfl rfl ents77 (spec_l01Next_run x2.2 3 _ hx3) rfl rfl false (fun _ => rfl) (by intro hc; cases hc)) Le.sub0) (by kernel_rfl) d5, (fun _ h => absurd h List.not_mem_nil)⟩)
  refine DE.share (fuel := 6) (L := #[true, false, true, false, false, false, false, false]) (σ := ⟨16, [(10, vl eOp x2.1), (12, .ref 7 0)], [(7, .box [vl (eI .u8) x2.2.code, vi x2.2.at', vi x2.2.seed])]⟩) ?_ (fun d2 => ?_)
  exact DE.all [1, 3] (by kernel_rfl) (by simp) (List.forall_mem_cons.2 ⟨DEs.mk (i := 1) (L' := #[true, true, true, false, false, false, false, false]) rfl (EStep.le (EStep.ofN2 tbok (σ' := ⟨16, [(11, .own 11), (10, vl eOp x2.1), (12, .ref 7 0)], [(11, .arr 9 1 ([(ByteArray.mk #[97, 115, 104]), (ByteArray.mk #[98, 114, 105, 103]), (ByteArray.mk #[110, 111, 110, 101])] : List ByteArray).length (([(ByteArray.mk #[97, 115, 104]), (ByteArray.mk #[98, 114, 105, 103]), (ByteArray.mk #[110, 111, 110, 101])] : List ByteArray).map eS)), (7, .box [vl (eI .u8) x2.2.code, vi x2.2.at', vi x2.2.seed])]⟩) (by kernel_rfl)) Le.sub0) (by kernel_rfl) d3, (List.forall_mem_cons.2 ⟨DEs.mk (i := 3) (L' := #[true, false, true, true, false, false, false, false]) rfl (EStep.le (x_estep_call (f := 77) (caps := []) (xs := [.ref 7 0, vi 3]) (pre := []) (post := [vi 3]) (qs := [vi 3]) (z := .ref 7 0) (d := 7) (pl := 0) (y := .box [vl (eI .u8) x2.2.code, vi x2.2.at', vi x2.2.seed]) (y' := .box [vl (eI .u8) x3.2.code, vi x3.2.at', vi x3.2.seed]) (res := ⟨[.v (vi x3.1)], [(0, .box [vl (eI .u8) x3.2.code, vi x3.2.at', vi x3.2.seed])], false⟩) (x := vi x3.1) (yo := none) rfl rfl rfl rfl rfl ents77 (spec_l01Next_run x2.2 3 _ hx3) rfl rfl false (fun _ => rfl) (by intro hc; cases hc)) Le.sub0) (by kernel_rfl) d4, (fun _ h => absurd h List.not_mem_nil)⟩)⟩)
  refine DE.share (fuel := 7) (L := #[true, false, false, false, false, false, false, false]) (σ := ⟨16, [(4, .ref 7 0), (10, vl eOp x2.1)], [(7, .box [vl (eI .u8) x2.2.code, vi x2.2.at', vi x2.2.seed])]⟩) ?_ (fun d1 => ?_)
  exact DE.take (i := 2) (L' := #[true, false, true, false, false, false, false, false]) rfl (.inl rfl) rfl (by kernel_rfl) (by kernel_rfl) (by kernel_rfl) (EStep.le (EStep.ofN2 tbok (σ' := ⟨16, [(12, .ref 7 0), (4, .ref 7 0), (10, vl eOp x2.1)], [(7, .box [vl (eI .u8) x2.2.code, vi x2.2.at', vi x2.2.seed])]⟩) (by kernel_rfl)) Le.sub0) (by kernel_rfl) d2
  exact DE.take (i := 0) (L' := #[true, false, false, false, false, false, false, false]) rfl (.inl rfl) rfl (by kernel_rfl) (by kernel_rfl) (by kernel_rfl) (EStep.le (EStep.ofN2 tbok (σ' := ⟨16, [(10, vl eOp x2.1), (4, .ref 7 0), (5, vl eOp x2.1)], [(7, .box [vl (eI .u8) x2.2.code, vi x2.2.at', vi x2.2.seed])]⟩) (by kernel_rfl)) Le.sub0) (by kernel_rfl) d1
  refine nx_n ?_
  refine swp_ret ?_
  replace h := Option.some.inj h
  subst h
  exact q_fr (fin2 (by kernel_rfl) (finT rfl (holds_t (by kernel_rfl))) (finT rfl (holds_t (by kernel_rfl))))
theorem ents76 : Ents Tryd.prog 76 := ents_of Tryd.func76 (by kernel_rfl) rfl
noncomputable def spec_DrawRivalsOf (aCode : (List Int)) : Option ((List Op) × ByteArray) :=
  ((spec_DrawTextOf aCode).bind fun x1 => some (x1.1, x1.2))
set_option maxRecDepth 100000 in
set_option maxHeartbeats 4000000 in
theorem spec_DrawRivalsOf_run (aCode : (List Int)) (r : (List Op) × ByteArray) (h : spec_DrawRivalsOf aCode = some r) : SCall Tryd.prog 39 [.v (vl (eI .u8) aCode)] ⟨[.v (vl eOp r.1), .v (vs r.2)], [], true⟩ := by
  refine scall_in Tryd.func39 rfl [(.tmp 2), (.tmp 3)] rfl (fun r => ⟨[.v (vl eOp r.1), .v (vs r.2)], [], true⟩) (r := r) ?_
  unfold spec_DrawRivalsOf at h
  refine swp_seq ?_
  refine swp_reg ?_
  refine SRun.ck tbok 2 ⟨8, [(0, vl (eI .u8) aCode)], []⟩ ?_
  refine SRun.nil ?_
  refine nx_n ?_
  refine swp_seq ?_
  refine swp_reg ?_
  refine SRun.ck tbok 1 ⟨8, [(4, vl (eI .u8) aCode)], []⟩ ?_
  obtain ⟨x1, hx1, h⟩ := bind_some h
  refine SRun.ls (x_lstep_call (f := 76) (caps := []) (xs := [vl (eI .u8) aCode]) (ys := [vl (eI .u8) aCode]) (res := ⟨[.v (vl eOp x1.1), .v (vs x1.2)], [], true⟩) (x := .tup [vl eOp x1.1, vs x1.2]) (y := none) rfl ents76 (spec_DrawTextOf_run aCode _ hx1) rfl (fun _ => rfl)) ?_
  refine SRun.ck tbok 4 ⟨8, [(2, vl eOp x1.1), (3, vs x1.2)], []⟩ ?_
  refine SRun.nil ?_
  refine nx_n ?_
  refine swp_ret ?_
  replace h := Option.some.inj h
  subst h
  exact q_fr (fin2 (by kernel_rfl) (finT rfl (holds_t (by kernel_rfl))) (finT rfl (holds_t (by kernel_rfl))))
theorem ents39 : Ents Tryd.prog 39 := ents_of Tryd.func39 (by kernel_rfl) rfl
noncomputable def impl_Op_knows (aX : Op) (aY : Op) : Option (Bool) :=
  ((at' aX.Seen aY.Office).bind fun x1 => some (decide (aY.Number ≤ x1)))
set_option maxRecDepth 100000 in
set_option maxHeartbeats 4000000 in
theorem impl_Op_knows_run (aX : Op) (aY : Op) (r : Bool) (h : impl_Op_knows aX aY = some r) : SCall Tryd.prog 55 [.v (.agg [vi aX.Office, vi aX.Number, vs aX.Key, vs aX.Text, vl (eI .i64) aX.Seen]), .v (.agg [vi aY.Office, vi aY.Number, vs aY.Key, vs aY.Text, vl (eI .i64) aY.Seen])] ⟨[.v (vb r)], [], false⟩ := by
  refine scall_in Tryd.func55 rfl [(.tmp 4)] rfl (fun r => ⟨[.v (vb r)], [], false⟩) (r := r) ?_
  unfold impl_Op_knows at h
  refine swp_seq ?_
  refine swp_reg ?_
  refine SRun.ck tbok 3 ⟨14, [(2, .ref 2 0), (3, .ref 3 0)], [(2, .box [vi aX.Office, vi aX.Number, vs aX.Key, vs aX.Text, vl (eI .i64) aX.Seen]), (3, .box [vi aY.Office, vi aY.Number, vs aY.Key, vs aY.Text, vl (eI .i64) aY.Seen])]⟩ ?_
  refine SRun.nil ?_
  refine nx_n ?_
  refine swp_seq ?_
  refine swp_dr mixed ?_
  refine DGo.chunk' tbok 6 (σ' := ⟨14, [(10, vi aY.Office), (9, .ref 3 0), (8, vl (eI .i64) aX.Seen), (7, .ref 2 4), (6, vi aY.Number), (5, .ref 3 1), (2, .ref 2 0), (3, .ref 3 0)], [(2, .box [vi aX.Office, vi aX.Number, vs aX.Key, vs aX.Text, vl (eI .i64) aX.Seen]), (3, .box [vi aY.Office, vi aY.Number, vs aY.Key, vs aY.Text, vl (eI .i64) aY.Seen])]⟩) (by kernel_rfl) ?_
  obtain ⟨x1, hx1, h⟩ := bind_some h
  refine DGo.step (x_index (L := aX.Seen) (f := (eI .i64)) (ti := ti32) (tj := ti2) (e := 2) (k := .i64) tbok rfl hx1) ?_
  refine DGo.chunk' tbok 3 (σ' := ⟨14, [(4, vb (decide (aY.Number ≤ x1))), (13, vb (decide (aY.Number ≤ x1))), (12, vi x1), (11, .ptr (((eI .i64) x1).map .tr) 0), (10, vi aY.Office), (9, .ref 3 0), (8, vl (eI .i64) aX.Seen), (7, .ref 2 4), (6, vi aY.Number), (5, .ref 3 1), (2, .ref 2 0), (3, .ref 3 0)], [(2, .box [vi aX.Office, vi aX.Number, vs aX.Key, vs aX.Text, vl (eI .i64) aX.Seen]), (3, .box [vi aY.Office, vi aY.Number, vs aY.Key, vs aY.Text, vl (eI .i64) aY.Seen])]⟩) (by kernel_rfl) ?_
  refine DGo.nil (by kernel_rfl) ?_
  refine nx_n ?_
  refine swp_ret ?_
  replace h := Option.some.inj h
  subst h
  exact q_fr (fin1 (by kernel_rfl) (finV rfl SV.flat_of (holds_t (by kernel_rfl))))
theorem ents55 : Ents Tryd.prog 55 := ents_of Tryd.func55 (by kernel_rfl) rfl
noncomputable def impl_rivalsOf_1 (aY : Op) (c0 : ByteArray) (c1 : Op) : Option (Bool) :=
  (((bif (aY.Key.toList == c0.toList) then ((impl_Op_knows aY c1).bind fun x1 => some x1) else some false)).bind fun (j2 : Bool) => some j2)
set_option maxRecDepth 100000 in
set_option maxHeartbeats 4000000 in
theorem impl_rivalsOf_1_run (aY : Op) (c0 : ByteArray) (c1 : Op) (r : Bool) (h : impl_rivalsOf_1 aY c0 c1 = some r) : SCall Tryd.prog 85 [.v (.agg [vi aY.Office, vi aY.Number, vs aY.Key, vs aY.Text, vl (eI .i64) aY.Seen]), .v (.ptr [vs c0] 0), .v (.ptr [vi c1.Office, vi c1.Number, vs c1.Key, vs c1.Text, vl (eI .i64) c1.Seen] 0)] ⟨[.v (vb r)], [], false⟩ := by
  refine scall_in Tryd.func85 rfl [(.tmp 4)] rfl (fun r => ⟨[.v (vb r)], [], false⟩) (r := r) ?_
  unfold impl_rivalsOf_1 at h
  refine swp_seq ?_
  refine swp_reg ?_
  refine SRun.ck tbok 2 ⟨14, [(1, .ptr [vs c0] 0), (2, .ptr [vi c1.Office, vi c1.Number, vs c1.Key, vs c1.Text, vl (eI .i64) c1.Seen] 0), (3, .ref 3 0)], [(3, .box [vi aY.Office, vi aY.Number, vs aY.Key, vs aY.Text, vl (eI .i64) aY.Seen])]⟩ ?_
  refine SRun.nil ?_
  refine nx_n ?_
  refine swp_seq ?_
  refine swp_regJ h (fun j2 => ⟨14, [(4, vb j2)], []⟩) (fun v3 h => ?_) (fun j2 h => ?_)
  refine SRun.ck tbok 5 ⟨14, [(2, .ptr [vi c1.Office, vi c1.Number, vs c1.Key, vs c1.Text, vl (eI .i64) c1.Seen] 0), (3, .ref 3 0), (9, vb (aY.Key.toList == c0.toList))], [(3, .box [vi aY.Office, vi aY.Number, vs aY.Key, vs aY.Text, vl (eI .i64) aY.Seen])]⟩ ?_
  refine SRun.cut [(9, fun b => b)] (b := (aY.Key.toList == c0.toList)) (by kernel_rfl) (fun hb => ?_) (fun hb => ?_)
  replace h := cond_t hb h
  refine SRun.ck tbok 2 ⟨14, [(9, vb true), (10, .agg [vi aY.Office, vi aY.Number, vs aY.Key, vs aY.Text, vl (eI .i64) aY.Seen]), (11, .agg [vi c1.Office, vi c1.Number, vs c1.Key, vs c1.Text, vl (eI .i64) c1.Seen])], []⟩ ?_
  obtain ⟨x1, hx1, h⟩ := bind_some h
  refine SRun.ls (x_lstep_call (f := 55) (caps := []) (xs := [.agg [vi aY.Office, vi aY.Number, vs aY.Key, vs aY.Text, vl (eI .i64) aY.Seen], .agg [vi c1.Office, vi c1.Number, vs c1.Key, vs c1.Text, vl (eI .i64) c1.Seen]]) (ys := [.agg [vi aY.Office, vi aY.Number, vs aY.Key, vs aY.Text, vl (eI .i64) aY.Seen], .agg [vi c1.Office, vi c1.Number, vs c1.Key, vs c1.Text, vl (eI .i64) c1.Seen]]) (res := ⟨[.v (vb x1)], [], false⟩) (x := vb x1) (y := none) rfl ents55 (impl_Op_knows_run aY c1 _ hx1) rfl (by intro hc; cases hc)) ?_
  refine SRun.ck tbok 2 ⟨14, [(4, vb x1)], []⟩ ?_
  refine SRun.nil ?_
  replace h := Option.some.inj h
  subst h
  exact Le.sub0
  replace h := cond_f hb h
  refine SRun.ck tbok 5 ⟨14, [(4, vb false)], []⟩ ?_
  refine SRun.nil ?_
  replace h := Option.some.inj h
  subst h
  exact Le.sub0
  refine swp_ret ?_
  replace h := Option.some.inj h
  subst h
  exact q_fr (fin1 (by kernel_rfl) (finV rfl SV.flat_of (holds_t (by kernel_rfl))))
theorem ents85 : Ents Tryd.prog 85 := ents_of Tryd.func85 (by kernel_rfl) rfl
noncomputable def slices_IndexFunc_Op_impl_rivalsOf_1 (aS : (List Op)) (aF0 : ByteArray) (aF1 : Op) : Option (Int) :=
  (((forN (aS.length : Int) (fun (i3 : Int) (_ : Unit) => ((at' aS i3).bind fun x7 => ((impl_rivalsOf_1 x7 aF0 aF1).bind fun x8 => (bif x8 then some (.inr (.inr i3)) else some (.inl ()))))) (fun (_ : Unit) => .inl ()) 0 ())).bind (Sum.elim (fun (_ : Unit) => some (-1)) some))
set_option maxRecDepth 100000 in
set_option maxHeartbeats 4000000 in
theorem slices_IndexFunc_Op_impl_rivalsOf_1_run (aS : (List Op)) (aF0 : ByteArray) (aF1 : Op) (r : Int) (h : slices_IndexFunc_Op_impl_rivalsOf_1 aS aF0 aF1 = some r) : SCall Tryd.prog 88 [.v (vl eOp aS), .v (.clo 85 [.ptr [vs aF0] 0, .ptr [vi aF1.Office, vi aF1.Number, vs aF1.Key, vs aF1.Text, vl (eI .i64) aF1.Seen] 0])] ⟨[.v (vi r)], [], false⟩ := by
  refine scall_in Tryd.func88 rfl [(.tmp 4)] rfl (fun r => ⟨[.v (vi r)], [], false⟩) (r := r) ?_
  unfold slices_IndexFunc_Op_impl_rivalsOf_1 at h
  refine swp_seq ?_
  refine swp_reg ?_
  refine SRun.ck tbok 1 ⟨19, [(0, vl eOp aS), (1, .clo 85 [.ptr [vs aF0] 0, .ptr [vi aF1.Office, vi aF1.Number, vs aF1.Key, vs aF1.Text, vl (eI .i64) aF1.Seen] 0])], []⟩ ?_
  refine SRun.nil ?_
  refine nx_n ?_
  refine swp_seq ?_
  refine swp_seq ?_
  refine swp_reg ?_
  refine SRun.ck tbok 3 ⟨19, [(0, vl eOp aS), (1, .clo 85 [.ptr [vs aF0] 0, .ptr [vi aF1.Office, vi aF1.Number, vs aF1.Key, vs aF1.Text, vl (eI .i64) aF1.Seen] 0]), (7, vi (aS.length : Int)), (8, vi 0)], []⟩ ?_
  refine SRun.nil ?_
  refine nx_n ?_
  refine swp_seqE (r := r) h (fun j1 => ⟨19, [], []⟩) (fun v2 h => ?_) (fun j1 h => ?_)
  refine swp_blk (a := v2) ?_
  refine swp_lpL (r := v2) (s := (0, ())) _ (fun s3 => ⟨19, [(0, vl eOp aS), (1, .clo 85 [.ptr [vs aF0] 0, .ptr [vi aF1.Office, vi aF1.Number, vs aF1.Key, vs aF1.Text, vl (eI .i64) aF1.Seen] 0]), (7, vi (aS.length : Int)), (8, vi s3.1)], []⟩) _ (Le.sub0) h (fun s3 v4 h => ?_)
  refine swp_seq ?_
  refine swp_reg ?_
  refine SRun.ck tbok 1 ⟨19, [(0, vl eOp aS), (1, .clo 85 [.ptr [vs aF0] 0, .ptr [vi aF1.Office, vi aF1.Number, vs aF1.Key, vs aF1.Text, vl (eI .i64) aF1.Seen] 0]), (7, vi (aS.length : Int)), (8, vi s3.1), (9, vb (decide (s3.1 < (aS.length : Int))))], []⟩ ?_
  refine SRun.nil ?_
  refine nx_n ?_
  refine swp_seq ?_
  refine swp_cond (b := (decide (s3.1 < (aS.length : Int)))) (by kernel_rfl) (fun hb => ?_) (fun hb => ?_)
  replace h := cond_t hb h
  refine swp_skip ?_
  refine nx_n ?_
  refine swp_seq ?_
  refine swp_seqL (r := v4) h (fun j5 => ⟨19, [(0, vl eOp aS), (1, .clo 85 [.ptr [vs aF0] 0, .ptr [vi aF1.Office, vi aF1.Number, vs aF1.Key, vs aF1.Text, vl (eI .i64) aF1.Seen] 0]), (7, vi (aS.length : Int)), (8, vi s3.1)], []⟩) (fun v6 h => ?_) (fun j5 h => ?_)
  refine swp_blk (a := v6) ?_
  refine swp_seq ?_
  refine swp_reg ?_
  refine SRun.ck tbok 2 ⟨19, [(0, vl eOp aS), (1, .clo 85 [.ptr [vs aF0] 0, .ptr [vi aF1.Office, vi aF1.Number, vs aF1.Key, vs aF1.Text, vl (eI .i64) aF1.Seen] 0]), (5, vi s3.1), (7, vi (aS.length : Int)), (8, vi s3.1)], []⟩ ?_
  refine SRun.nil ?_
  refine nx_n ?_
  refine swp_seq ?_
  refine swp_reg ?_
  refine SRun.ck tbok 3 ⟨19, [(0, vl eOp aS), (1, .clo 85 [.ptr [vs aF0] 0, .ptr [vi aF1.Office, vi aF1.Number, vs aF1.Key, vs aF1.Text, vl (eI .i64) aF1.Seen] 0]), (5, vi s3.1), (7, vi (aS.length : Int)), (8, vi s3.1), (11, .clo 85 [.ptr [vs aF0] 0, .ptr [vi aF1.Office, vi aF1.Number, vs aF1.Key, vs aF1.Text, vl (eI .i64) aF1.Seen] 0]), (12, vl eOp aS), (13, vi s3.1)], []⟩ ?_
  obtain ⟨x7, hx7, h⟩ := bind_some h
  refine SRun.ls (x_index (L := aS) (f := eOp) (ti := ti25) (tj := ti61) (e := 61) (k := .i64) tbok rfl hx7) ?_
  refine SRun.ck tbok 1 ⟨19, [(0, vl eOp aS), (1, .clo 85 [.ptr [vs aF0] 0, .ptr [vi aF1.Office, vi aF1.Number, vs aF1.Key, vs aF1.Text, vl (eI .i64) aF1.Seen] 0]), (5, vi s3.1), (7, vi (aS.length : Int)), (8, vi s3.1), (11, .clo 85 [.ptr [vs aF0] 0, .ptr [vi aF1.Office, vi aF1.Number, vs aF1.Key, vs aF1.Text, vl (eI .i64) aF1.Seen] 0]), (15, .agg [vi x7.Office, vi x7.Number, vs x7.Key, vs x7.Text, vl (eI .i64) x7.Seen])], []⟩ ?_
  obtain ⟨x8, hx8, h⟩ := bind_some h
  refine SRun.ls (x_lstep_call (f := 85) (caps := [.ptr [vs aF0] 0, .ptr [vi aF1.Office, vi aF1.Number, vs aF1.Key, vs aF1.Text, vl (eI .i64) aF1.Seen] 0]) (xs := [.agg [vi x7.Office, vi x7.Number, vs x7.Key, vs x7.Text, vl (eI .i64) x7.Seen]]) (ys := [.agg [vi x7.Office, vi x7.Number, vs x7.Key, vs x7.Text, vl (eI .i64) x7.Seen], .ptr [vs aF0] 0, .ptr [vi aF1.Office, vi aF1.Number, vs aF1.Key, vs aF1.Text, vl (eI .i64) aF1.Seen] 0]) (res := ⟨[.v (vb x8)], [], false⟩) (x := vb x8) (y := none) rfl ents85 (impl_rivalsOf_1_run x7 aF0 aF1 _ hx8) rfl (by intro hc; cases hc)) ?_
  refine SRun.nil ?_
  refine nx_n ?_
  refine swp_cond (b := x8) (by kernel_rfl) (fun hb => ?_) (fun hb => ?_)
  replace h := cond_t hb h
  refine swp_seq ?_
  refine swp_reg ?_
  refine SRun.ck tbok 2 ⟨19, [(4, vi s3.1)], []⟩ ?_
  refine SRun.nil ?_
  refine nx_n ?_
  refine swp_ret ?_
  replace h := Option.some.inj h
  subst h
  exact q_br (q_rr (q_rr (q_br (q_rr (q_fr (fin1 (by kernel_rfl) (finV rfl SV.flat_of (holds_t (by kernel_rfl)))))))))
  replace h := cond_f hb h
  refine swp_skip ?_
  replace h := Option.some.inj h
  subst h
  exact q_bn (q_l (Le.sub0))
  refine swp_reg ?_
  refine SRun.ck tbok 2 ⟨19, [(0, vl eOp aS), (1, .clo 85 [.ptr [vs aF0] 0, .ptr [vi aF1.Office, vi aF1.Number, vs aF1.Key, vs aF1.Text, vl (eI .i64) aF1.Seen] 0]), (7, vi (aS.length : Int)), (8, vi (w64 (s3.1 + 1)))], []⟩ ?_
  refine SRun.nil ?_
  replace h := Option.some.inj h
  subst h
  exact q_l (Le.sub0)
  replace h := cond_f hb h
  refine swp_exit ?_
  replace h := Option.some.inj h
  subst h
  exact nx_e (q_re (q_bh (q_l (Le.sub0))))
  refine swp_seq ?_
  refine swp_reg ?_
  refine SRun.ck tbok 1 ⟨19, [(4, vi (-1))], []⟩ ?_
  refine SRun.nil ?_
  refine nx_n ?_
  refine swp_ret ?_
  replace h := Option.some.inj h
  subst h
  exact q_fr (fin1 (by kernel_rfl) (finV rfl SV.flat_of (holds_t (by kernel_rfl))))
theorem ents88 : Ents Tryd.prog 88 := ents_of Tryd.func88 (by kernel_rfl) rfl
noncomputable def slices_ContainsFunc_Op_impl_rivalsOf_1 (aS : (List Op)) (aF0 : ByteArray) (aF1 : Op) : Option (Bool) :=
  ((slices_IndexFunc_Op_impl_rivalsOf_1 aS aF0 aF1).bind fun x1 => some (decide (x1 ≥ 0)))
set_option maxRecDepth 100000 in
set_option maxHeartbeats 4000000 in
theorem slices_ContainsFunc_Op_impl_rivalsOf_1_run (aS : (List Op)) (aF0 : ByteArray) (aF1 : Op) (r : Bool) (h : slices_ContainsFunc_Op_impl_rivalsOf_1 aS aF0 aF1 = some r) : SCall Tryd.prog 84 [.v (vl eOp aS), .v (.clo 85 [.ptr [vs aF0] 0, .ptr [vi aF1.Office, vi aF1.Number, vs aF1.Key, vs aF1.Text, vl (eI .i64) aF1.Seen] 0])] ⟨[.v (vb r)], [], false⟩ := by
  refine scall_in Tryd.func84 rfl [(.tmp 4)] rfl (fun r => ⟨[.v (vb r)], [], false⟩) (r := r) ?_
  unfold slices_ContainsFunc_Op_impl_rivalsOf_1 at h
  refine swp_seq ?_
  refine swp_reg ?_
  refine SRun.ck tbok 1 ⟨9, [(0, vl eOp aS), (1, .clo 85 [.ptr [vs aF0] 0, .ptr [vi aF1.Office, vi aF1.Number, vs aF1.Key, vs aF1.Text, vl (eI .i64) aF1.Seen] 0])], []⟩ ?_
  refine SRun.nil ?_
  refine nx_n ?_
  refine swp_seq ?_
  refine swp_reg ?_
  refine SRun.ck tbok 2 ⟨9, [(5, vl eOp aS), (6, .clo 85 [.ptr [vs aF0] 0, .ptr [vi aF1.Office, vi aF1.Number, vs aF1.Key, vs aF1.Text, vl (eI .i64) aF1.Seen] 0])], []⟩ ?_
  obtain ⟨x1, hx1, h⟩ := bind_some h
  refine SRun.ls (x_lstep_call (f := 88) (caps := []) (xs := [vl eOp aS, .clo 85 [.ptr [vs aF0] 0, .ptr [vi aF1.Office, vi aF1.Number, vs aF1.Key, vs aF1.Text, vl (eI .i64) aF1.Seen] 0]]) (ys := [vl eOp aS, .clo 85 [.ptr [vs aF0] 0, .ptr [vi aF1.Office, vi aF1.Number, vs aF1.Key, vs aF1.Text, vl (eI .i64) aF1.Seen] 0]]) (res := ⟨[.v (vi x1)], [], false⟩) (x := vi x1) (y := none) rfl ents88 (slices_IndexFunc_Op_impl_rivalsOf_1_run aS aF0 aF1 _ hx1) rfl (by intro hc; cases hc)) ?_
  refine SRun.ck tbok 2 ⟨9, [(4, vb (decide (x1 ≥ 0)))], []⟩ ?_
  refine SRun.nil ?_
  refine nx_n ?_
  refine swp_ret ?_
  replace h := Option.some.inj h
  subst h
  exact q_fr (fin1 (by kernel_rfl) (finV rfl SV.flat_of (holds_t (by kernel_rfl))))
theorem ents84 : Ents Tryd.prog 84 := ents_of Tryd.func84 (by kernel_rfl) rfl
noncomputable def impl_rivalsOf (aLog : (List Op)) (aKey : ByteArray) : Option ((List Int)) :=
  (((forS (aLog.length : Int) (fun (i3 : Int) (s3 : (List Int)) => ((at' aLog i3).bind fun x7 => ((slices_ContainsFunc_Op_impl_rivalsOf_1 aLog aKey x7).bind fun x8 => (bif ((x7.Key.toList == aKey.toList) && (!x8)) then ((app' s3 ([i3] : List Int)).bind fun x9 => some x9) else some s3)))) (fun (s3 : (List Int)) => s3) 0 ([] : List Int))).bind fun (j1 : (List Int)) => some j1)
set_option maxRecDepth 100000 in
set_option maxHeartbeats 4000000 in
theorem impl_rivalsOf_run (aLog : (List Op)) (aKey : ByteArray) (r : (List Int)) (h : impl_rivalsOf aLog aKey = some r) : SCall Tryd.prog 62 [.v (vl eOp aLog), .v (vs aKey)] ⟨[.own 2 1 r.length (r.map (eI .i64))], [], false⟩ := by
  refine scall_in Tryd.func62 rfl [(.tmp 4)] rfl (fun r => ⟨[.own 2 1 r.length (r.map (eI .i64))], [], false⟩) (r := r) ?_
  unfold impl_rivalsOf at h
  refine swp_seq ?_
  refine swp_reg ?_
  refine SRun.ck tbok 2 ⟨33, [(0, vl eOp aLog), (3, .ref 3 0)], [(3, .box [vs aKey])]⟩ ?_
  refine SRun.nil ?_
  refine nx_n ?_
  refine swp_seq ?_
  refine swp_reg ?_
  refine SRun.ck tbok 1 ⟨33, [(0, vl eOp aLog), (3, .ref 3 0), (5, .own 5)], [(3, .box [vs aKey]), (5, .arr 2 1 ([] : List Int).length (([] : List Int).map (eI .i64)))]⟩ ?_
  refine SRun.nil ?_
  refine nx_n ?_
  refine swp_seq ?_
  refine swp_seq ?_
  refine swp_reg ?_
  refine SRun.ck tbok 3 ⟨33, [(0, vl eOp aLog), (3, .ref 3 0), (5, .own 5), (9, vl eOp aLog), (10, vi (aLog.length : Int)), (11, vi 0)], [(3, .box [vs aKey]), (5, .arr 2 1 ([] : List Int).length (([] : List Int).map (eI .i64)))]⟩ ?_
  refine SRun.nil ?_
  refine nx_n ?_
  refine swp_seqJ h (fun j1 => ⟨33, [(5, .own 5)], [(5, .arr 2 1 j1.length (j1.map (eI .i64)))]⟩) (fun v2 h => ?_) (fun j1 h => ?_)
  refine swp_blk (a := v2) ?_
  refine swp_lpL (r := v2) (s := (0, ([] : List Int))) _ (fun s3 => ⟨33, [(0, vl eOp aLog), (3, .ref 3 0), (5, .own 5), (9, vl eOp aLog), (10, vi (aLog.length : Int)), (11, vi s3.1)], [(3, .box [vs aKey]), (5, .arr 2 1 s3.2.length (s3.2.map (eI .i64)))]⟩) _ (Le.sub0) h (fun s3 v4 h => ?_)
  refine swp_seq ?_
  refine swp_reg ?_
  refine SRun.ck tbok 1 ⟨33, [(0, vl eOp aLog), (3, .ref 3 0), (5, .own 5), (9, vl eOp aLog), (10, vi (aLog.length : Int)), (11, vi s3.1), (12, vb (decide (s3.1 < (aLog.length : Int))))], [(3, .box [vs aKey]), (5, .arr 2 1 s3.2.length (s3.2.map (eI .i64)))]⟩ ?_
  refine SRun.nil ?_
  refine nx_n ?_
  refine swp_seq ?_
  refine swp_cond (b := (decide (s3.1 < (aLog.length : Int)))) (by kernel_rfl) (fun hb => ?_) (fun hb => ?_)
  replace h := cond_t hb h
  refine swp_skip ?_
  refine nx_n ?_
  refine swp_seq ?_
  refine swp_seqJ h (fun j5 => ⟨33, [(0, vl eOp aLog), (3, .ref 3 0), (5, .own 5), (9, vl eOp aLog), (10, vi (aLog.length : Int)), (11, vi s3.1)], [(3, .box [vs aKey]), (5, .arr 2 1 j5.length (j5.map (eI .i64)))]⟩) (fun v6 h => ?_) (fun j5 h => ?_)
  refine swp_blk (a := v6) ?_
  refine swp_seq ?_
  refine swp_reg ?_
  refine SRun.ck tbok 1 ⟨33, [(0, vl eOp aLog), (3, .ref 3 0), (5, .own 5), (9, vl eOp aLog), (10, vi (aLog.length : Int)), (11, vi s3.1), (13, vi s3.1)], [(3, .box [vs aKey]), (5, .arr 2 1 s3.2.length (s3.2.map (eI .i64)))]⟩ ?_
  obtain ⟨x7, hx7, h⟩ := bind_some h
  refine SRun.ls (x_index (L := aLog) (f := eOp) (ti := ti25) (tj := ti61) (e := 61) (k := .i64) tbok rfl hx7) ?_
  refine SRun.ck tbok 3 ⟨33, [(0, vl eOp aLog), (3, .ref 3 0), (5, .own 5), (6, vi s3.1), (7, .ref 7 0), (9, vl eOp aLog), (10, vi (aLog.length : Int)), (11, vi s3.1), (15, .agg [vi x7.Office, vi x7.Number, vs x7.Key, vs x7.Text, vl (eI .i64) x7.Seen])], [(3, .box [vs aKey]), (5, .arr 2 1 s3.2.length (s3.2.map (eI .i64))), (7, .box [vi 0, vi 0, vs (ByteArray.mk #[]), vs (ByteArray.mk #[]), vl (eI .i64) ([] : List Int)])]⟩ ?_
  refine SRun.estep (x_estep_store (d := 7) (k := 0) (ti := ti61) (cs := [vi 0, vi 0, vs (ByteArray.mk #[]), vs (ByteArray.mk #[]), vl (eI .i64) ([] : List Int)]) (vs := [vi x7.Office, vi x7.Number, vs x7.Key, vs x7.Text, vl (eI .i64) x7.Seen]) (v := .agg [vi x7.Office, vi x7.Number, vs x7.Key, vs x7.Text, vl (eI .i64) x7.Seen]) tbok rfl rfl) ?_
  refine SRun.nil ?_
  refine nx_n ?_
  refine swp_seq ?_
  refine swp_reg ?_
  refine SRun.ck tbok 2 ⟨33, [(0, vl eOp aLog), (3, .ref 3 0), (5, .own 5), (6, vi s3.1), (7, .ref 7 0), (9, vl eOp aLog), (10, vi (aLog.length : Int)), (11, vi s3.1), (16, vl eOp aLog), (17, .clo 85 [.ref 3 0, .ref 7 0])], [(3, .box [vs aKey]), (5, .arr 2 1 s3.2.length (s3.2.map (eI .i64))), (7, .box [vi x7.Office, vi x7.Number, vs x7.Key, vs x7.Text, vl (eI .i64) x7.Seen])]⟩ ?_
  obtain ⟨x8, hx8, h⟩ := bind_some h
  refine SRun.ls (x_lstep_call (f := 84) (caps := []) (xs := [vl eOp aLog, .clo 85 [.ref 3 0, .ref 7 0]]) (ys := [vl eOp aLog, .clo 85 [.ptr [vs aKey] 0, .ptr [vi x7.Office, vi x7.Number, vs x7.Key, vs x7.Text, vl (eI .i64) x7.Seen] 0]]) (res := ⟨[.v (vb x8)], [], false⟩) (x := vb x8) (y := none) rfl ents84 (slices_ContainsFunc_Op_impl_rivalsOf_1_run aLog aKey x7 _ hx8) rfl (by intro hc; cases hc)) ?_
  refine SRun.ck tbok 1 ⟨33, [(0, vl eOp aLog), (3, .ref 3 0), (5, .own 5), (6, vi s3.1), (7, .ref 7 0), (8, vb x8), (9, vl eOp aLog), (10, vi (aLog.length : Int)), (11, vi s3.1)], [(3, .box [vs aKey]), (5, .arr 2 1 s3.2.length (s3.2.map (eI .i64))), (7, .box [vi x7.Office, vi x7.Number, vs x7.Key, vs x7.Text, vl (eI .i64) x7.Seen])]⟩ ?_
  refine SRun.nil ?_
  refine nx_n ?_
  refine swp_seq ?_
  refine swp_regP ⟨33, [(0, vl eOp aLog), (3, .ref 3 0), (5, .own 5), (6, vi s3.1), (9, vl eOp aLog), (10, vi (aLog.length : Int)), (11, vi s3.1), (26, vb ((x7.Key.toList == aKey.toList) && (!x8)))], [(3, .box [vs aKey]), (5, .arr 2 1 s3.2.length (s3.2.map (eI .i64)))]⟩ ?_ ?_
  refine SRun.ck tbok 5 ⟨33, [(0, vl eOp aLog), (3, .ref 3 0), (5, .own 5), (6, vi s3.1), (8, vb x8), (9, vl eOp aLog), (10, vi (aLog.length : Int)), (11, vi s3.1), (23, vb (x7.Key.toList == aKey.toList))], [(3, .box [vs aKey]), (5, .arr 2 1 s3.2.length (s3.2.map (eI .i64)))]⟩ ?_
  generalize (x7.Key.toList == aKey.toList) = bb
  cases bb
  refine SRun.ck tbok 3 ⟨33, [(0, vl eOp aLog), (3, .ref 3 0), (5, .own 5), (6, vi s3.1), (9, vl eOp aLog), (10, vi (aLog.length : Int)), (11, vi s3.1), (26, vb false)], [(3, .box [vs aKey]), (5, .arr 2 1 s3.2.length (s3.2.map (eI .i64)))]⟩ ?_
  exact SRun.nil (Le.sub0)
  refine SRun.ck tbok 3 ⟨33, [(0, vl eOp aLog), (3, .ref 3 0), (5, .own 5), (6, vi s3.1), (9, vl eOp aLog), (10, vi (aLog.length : Int)), (11, vi s3.1), (26, vb (!x8))], [(3, .box [vs aKey]), (5, .arr 2 1 s3.2.length (s3.2.map (eI .i64)))]⟩ ?_
  exact SRun.nil (Le.sub0)
  refine swp_cond (b := ((x7.Key.toList == aKey.toList) && (!x8))) (by kernel_rfl) (fun hb => ?_) (fun hb => ?_)
  replace h := cond_t hb h
  refine swp_reg ?_
  refine SRun.ck tbok 3 ⟨33, [(0, vl eOp aLog), (3, .ref 3 0), (9, vl eOp aLog), (10, vi (aLog.length : Int)), (11, vi s3.1), (27, .own 5), (29, .own 29)], [(3, .box [vs aKey]), (5, .arr 2 1 s3.2.length (s3.2.map (eI .i64))), (29, .arr 2 1 ([s3.1] : List Int).length (([s3.1] : List Int).map (eI .i64)))]⟩ ?_
  obtain ⟨x9, hx9, h⟩ := bind_some h
  refine SRun.estep (x_append (f := (eI .i64)) (t := 32) (ti := ti32) (tj := ti2) (zs := [.int .i64 0]) (e := 2) (m := 1) (d := 5) (xv := .own 29) hx9 tbok rfl rfl rfl rfl (x_src_o (e := 2))) ?_
  refine SRun.ck tbok 1 ⟨33, [(0, vl eOp aLog), (3, .ref 3 0), (5, .own 30), (9, vl eOp aLog), (10, vi (aLog.length : Int)), (11, vi s3.1)], [(3, .box [vs aKey]), (30, .arr 2 1 x9.length (x9.map (eI .i64)))]⟩ ?_
  refine SRun.nil ?_
  replace h := Option.some.inj h
  subst h
  exact q_bn (q_j ((Le.sub' ([(0, vl eOp aLog), (3, .ref 3 0), (5, .own 30), (9, vl eOp aLog), (10, vi (aLog.length : Int)), (11, vi s3.1)] : List (Nat × SV)) ([(3, .box [vs aKey]), (30, .arr 2 1 x9.length (x9.map (eI .i64)))] : List (Nat × SO)) (by kernel_rfl) (by kernel_rfl)).trans ((Le.ren' (d := 30) (e := 5) (by kernel_rfl) (by kernel_rfl) (by kernel_rfl)).trans (Le.sub0))))
  replace h := cond_f hb h
  refine swp_skip ?_
  replace h := Option.some.inj h
  subst h
  exact q_bn (q_j (Le.sub0))
  refine swp_reg ?_
  refine SRun.ck tbok 2 ⟨33, [(0, vl eOp aLog), (3, .ref 3 0), (5, .own 5), (9, vl eOp aLog), (10, vi (aLog.length : Int)), (11, vi (w64 (s3.1 + 1)))], [(3, .box [vs aKey]), (5, .arr 2 1 j5.length (j5.map (eI .i64)))]⟩ ?_
  refine SRun.nil ?_
  replace h := Option.some.inj h
  subst h
  exact q_l (Le.sub0)
  replace h := cond_f hb h
  refine swp_exit ?_
  replace h := Option.some.inj h
  subst h
  exact nx_e (q_re (q_bh (q_j (Le.sub0))))
  refine swp_seq ?_
  refine swp_reg ?_
  refine SRun.ck tbok 2 ⟨33, [(4, .own 5)], [(5, .arr 2 1 j1.length (j1.map (eI .i64)))]⟩ ?_
  refine SRun.nil ?_
  refine nx_n ?_
  refine swp_ret ?_
  replace h := Option.some.inj h
  subst h
  exact q_fr (fin1 (by kernel_rfl) (finO (d := 5) (holds_t (by kernel_rfl)) (by kernel_rfl) (flat_map (eI_flat .i64) _) (by kernel_rfl)))
theorem ents62 : Ents Tryd.prog 62 := ents_of Tryd.func62 (by kernel_rfl) rfl
noncomputable def impl_RivalsOf (aLog : (List Op)) (aKey : ByteArray) : Option ((List Int) × Int) :=
  ((impl_IsLog aLog).bind fun x1 => (bif (!x1) then some (([] : List Int), 1) else ((impl_rivalsOf aLog aKey).bind fun x2 => some (x2, 0))))
set_option maxRecDepth 100000 in
set_option maxHeartbeats 4000000 in
theorem impl_RivalsOf_run (aLog : (List Op)) (aKey : ByteArray) (r : (List Int) × Int) (h : impl_RivalsOf aLog aKey = some r) : SCall Tryd.prog 31 [.v (vl eOp aLog), .v (vs aKey)] ⟨[.own 2 1 r.1.length (r.1.map (eI .i64)), .v (vi r.2)], [], false⟩ := by
  refine scall_in Tryd.func31 rfl [(.tmp 4), (.tmp 5)] rfl (fun r => ⟨[.own 2 1 r.1.length (r.1.map (eI .i64)), .v (vi r.2)], [], false⟩) (r := r) ?_
  unfold impl_RivalsOf at h
  refine swp_seq ?_
  refine swp_reg ?_
  refine SRun.ck tbok 2 ⟨12, [(0, vl eOp aLog), (1, vs aKey)], []⟩ ?_
  refine SRun.nil ?_
  refine nx_n ?_
  refine swp_seq ?_
  refine swp_seq ?_
  refine swp_reg ?_
  refine SRun.ck tbok 1 ⟨12, [(0, vl eOp aLog), (1, vs aKey), (6, vl eOp aLog)], []⟩ ?_
  obtain ⟨x1, hx1, h⟩ := bind_some h
  refine SRun.ls (x_lstep_call (f := 15) (caps := []) (xs := [vl eOp aLog]) (ys := [vl eOp aLog]) (res := ⟨[.v (vb x1)], [], false⟩) (x := vb x1) (y := none) rfl ents15 (impl_IsLog_run aLog _ hx1) rfl (by intro hc; cases hc)) ?_
  refine SRun.ck tbok 1 ⟨12, [(0, vl eOp aLog), (1, vs aKey), (8, vb (!x1))], []⟩ ?_
  refine SRun.nil ?_
  refine nx_n ?_
  refine swp_cond (b := (!x1)) (by kernel_rfl) (fun hb => ?_) (fun hb => ?_)
  replace h := cond_t hb h
  refine swp_seq ?_
  refine swp_reg ?_
  refine SRun.ck tbok 2 ⟨12, [(4, .own 4), (5, vi 1)], [(4, .arr 2 1 ([] : List Int).length (([] : List Int).map (eI .i64)))]⟩ ?_
  refine SRun.nil ?_
  refine nx_n ?_
  refine swp_ret ?_
  replace h := Option.some.inj h
  subst h
  exact nx_r (q_fr (fin2 (by kernel_rfl) (finO (d := 4) (holds_t (by kernel_rfl)) (by kernel_rfl) (flat_map (eI_flat .i64) _) (by kernel_rfl)) (finV rfl SV.flat_of (holds_t (by kernel_rfl)))))
  replace h := cond_f hb h
  refine swp_skip ?_
  refine nx_n ?_
  refine swp_seq ?_
  refine swp_reg ?_
  refine SRun.ck tbok 2 ⟨12, [(9, vl eOp aLog), (10, vs aKey)], []⟩ ?_
  obtain ⟨x2, hx2, h⟩ := bind_some h
  refine SRun.ls (x_lstep_call (f := 62) (caps := []) (xs := [vl eOp aLog, vs aKey]) (ys := [vl eOp aLog, vs aKey]) (res := ⟨[.own 2 1 x2.length (x2.map (eI .i64))], [], false⟩) (x := .own 11) (y := some (.arr 2 1 x2.length (x2.map (eI .i64)))) rfl ents62 (impl_rivalsOf_run aLog aKey _ hx2) rfl (by intro hc; cases hc)) ?_
  refine SRun.ck tbok 2 ⟨12, [(4, .own 11), (5, vi 0)], [(11, .arr 2 1 x2.length (x2.map (eI .i64)))]⟩ ?_
  refine SRun.nil ?_
  refine nx_n ?_
  refine swp_ret ?_
  replace h := Option.some.inj h
  subst h
  exact q_fr (fin2 (by kernel_rfl) (finO (d := 11) (holds_t (by kernel_rfl)) (by kernel_rfl) (flat_map (eI_flat .i64) _) (by kernel_rfl)) (finV rfl SV.flat_of (holds_t (by kernel_rfl))))
theorem ents31 : Ents Tryd.prog 31 := ents_of Tryd.func31 (by kernel_rfl) rfl
noncomputable def spec_l32Knows (aA : Op) (aB : Op) : Option (Bool) :=
  ((at' aA.Seen aB.Office).bind fun x1 => some (decide (aB.Number ≤ x1)))
set_option maxRecDepth 100000 in
set_option maxHeartbeats 4000000 in
theorem spec_l32Knows_run (aA : Op) (aB : Op) (r : Bool) (h : spec_l32Knows aA aB = some r) : SCall Tryd.prog 52 [.v (.agg [vi aA.Office, vi aA.Number, vs aA.Key, vs aA.Text, vl (eI .i64) aA.Seen]), .v (.agg [vi aB.Office, vi aB.Number, vs aB.Key, vs aB.Text, vl (eI .i64) aB.Seen])] ⟨[.v (vb r)], [], false⟩ := by
  refine scall_in Tryd.func52 rfl [(.tmp 4)] rfl (fun r => ⟨[.v (vb r)], [], false⟩) (r := r) ?_
  unfold spec_l32Knows at h
  refine swp_seq ?_
  refine swp_reg ?_
  refine SRun.ck tbok 3 ⟨14, [(2, .ref 2 0), (3, .ref 3 0)], [(2, .box [vi aA.Office, vi aA.Number, vs aA.Key, vs aA.Text, vl (eI .i64) aA.Seen]), (3, .box [vi aB.Office, vi aB.Number, vs aB.Key, vs aB.Text, vl (eI .i64) aB.Seen])]⟩ ?_
  refine SRun.nil ?_
  refine nx_n ?_
  refine swp_seq ?_
  refine swp_dr mixed ?_
  refine DGo.chunk' tbok 6 (σ' := ⟨14, [(10, vi aB.Office), (9, .ref 3 0), (8, vl (eI .i64) aA.Seen), (7, .ref 2 4), (6, vi aB.Number), (5, .ref 3 1), (2, .ref 2 0), (3, .ref 3 0)], [(2, .box [vi aA.Office, vi aA.Number, vs aA.Key, vs aA.Text, vl (eI .i64) aA.Seen]), (3, .box [vi aB.Office, vi aB.Number, vs aB.Key, vs aB.Text, vl (eI .i64) aB.Seen])]⟩) (by kernel_rfl) ?_
  obtain ⟨x1, hx1, h⟩ := bind_some h
  refine DGo.step (x_index (L := aA.Seen) (f := (eI .i64)) (ti := ti32) (tj := ti2) (e := 2) (k := .i64) tbok rfl hx1) ?_
  refine DGo.chunk' tbok 3 (σ' := ⟨14, [(4, vb (decide (aB.Number ≤ x1))), (13, vb (decide (aB.Number ≤ x1))), (12, vi x1), (11, .ptr (((eI .i64) x1).map .tr) 0), (10, vi aB.Office), (9, .ref 3 0), (8, vl (eI .i64) aA.Seen), (7, .ref 2 4), (6, vi aB.Number), (5, .ref 3 1), (2, .ref 2 0), (3, .ref 3 0)], [(2, .box [vi aA.Office, vi aA.Number, vs aA.Key, vs aA.Text, vl (eI .i64) aA.Seen]), (3, .box [vi aB.Office, vi aB.Number, vs aB.Key, vs aB.Text, vl (eI .i64) aB.Seen])]⟩) (by kernel_rfl) ?_
  refine DGo.nil (by kernel_rfl) ?_
  refine nx_n ?_
  refine swp_ret ?_
  replace h := Option.some.inj h
  subst h
  exact q_fr (fin1 (by kernel_rfl) (finV rfl SV.flat_of (holds_t (by kernel_rfl))))
theorem ents52 : Ents Tryd.prog 52 := ents_of Tryd.func52 (by kernel_rfl) rfl
noncomputable def spec_l32Rivals (aLog : (List Op)) (aKey : ByteArray) : Option ((List Int)) :=
  (((forS (aLog.length : Int) (fun (i3 : Int) (s3 : (List Int)) => ((at' aLog i3).bind fun x7 => (((forS (aLog.length : Int) (fun (i10 : Int) (s10 : Bool) => (bif s10 then (bif (i10 == i3) then some true else ((at' aLog i10).bind fun x14 => (bif (!(x14.Key.toList == aKey.toList)) then some true else ((at' aLog i10).bind fun x15 => ((at' aLog i3).bind fun x16 => ((spec_l32Knows x15 x16).bind fun x17 => some (!x17))))))) else some false)) (fun (s10 : Bool) => s10) 0 (x7.Key.toList == aKey.toList))).bind fun (j8 : Bool) => (bif j8 then ((app' s3 ([i3] : List Int)).bind fun x18 => some x18) else some s3)))) (fun (s3 : (List Int)) => s3) 0 ([] : List Int))).bind fun (j1 : (List Int)) => some j1)
set_option maxRecDepth 100000 in
set_option maxHeartbeats 4000000 in
theorem spec_l32Rivals_run (aLog : (List Op)) (aKey : ByteArray) (r : (List Int)) (h : spec_l32Rivals aLog aKey = some r) : SCall Tryd.prog 61 [.v (vl eOp aLog), .v (vs aKey)] ⟨[.own 2 1 r.length (r.map (eI .i64))], [], false⟩ := by
  refine scall_in Tryd.func61 rfl [(.tmp 4)] rfl (fun r => ⟨[.own 2 1 r.length (r.map (eI .i64))], [], false⟩) (r := r) ?_
  unfold spec_l32Rivals at h
  refine swp_seq ?_
  refine swp_reg ?_
  refine SRun.ck tbok 1 ⟨62, [(0, vl eOp aLog), (1, vs aKey)], []⟩ ?_
  refine SRun.nil ?_
  refine nx_n ?_
  refine swp_seq ?_
  refine swp_reg ?_
  refine SRun.ck tbok 2 ⟨62, [(0, vl eOp aLog), (1, vs aKey), (5, .own 9)], [(9, .arr 2 1 ([] : List Int).length (([] : List Int).map (eI .i64)))]⟩ ?_
  refine SRun.nil ?_
  refine nx_n ?_
  refine swp_seq ?_
  refine swp_seq ?_
  refine swp_reg ?_
  refine SRun.ck tbok 1 ⟨62, [(0, vl eOp aLog), (1, vs aKey), (5, .own 9), (6, vi 0)], [(9, .arr 2 1 ([] : List Int).length (([] : List Int).map (eI .i64)))]⟩ ?_
  refine SRun.nil ?_
  refine nx_n ?_
  refine swp_seqJ h (fun j1 => ⟨62, [(5, .own 5)], [(5, .arr 2 1 j1.length (j1.map (eI .i64)))]⟩) (fun v2 h => ?_) (fun j1 h => ?_)
  refine swp_blk (a := v2) ?_
  refine swp_lpL (r := v2) (s := (0, ([] : List Int))) _ (fun s3 => ⟨62, [(0, vl eOp aLog), (1, vs aKey), (5, .own 5), (6, vi s3.1)], [(5, .arr 2 1 s3.2.length (s3.2.map (eI .i64)))]⟩) _ ((Le.sub' ([(0, vl eOp aLog), (1, vs aKey), (5, .own 9), (6, vi 0)] : List (Nat × SV)) ([(9, .arr 2 1 ([] : List Int).length (([] : List Int).map (eI .i64)))] : List (Nat × SO)) (by kernel_rfl) (by kernel_rfl)).trans ((Le.ren' (d := 9) (e := 5) (by kernel_rfl) (by kernel_rfl) (by kernel_rfl)).trans (Le.sub0))) h (fun s3 v4 h => ?_)
  refine swp_seq ?_
  refine swp_seq ?_
  refine swp_reg ?_
  refine SRun.ck tbok 4 ⟨62, [(0, vl eOp aLog), (1, vs aKey), (5, .own 5), (6, vi s3.1), (13, vb (decide (s3.1 < (aLog.length : Int))))], [(5, .arr 2 1 s3.2.length (s3.2.map (eI .i64)))]⟩ ?_
  refine SRun.nil ?_
  refine nx_n ?_
  refine swp_cond (b := (decide (s3.1 < (aLog.length : Int)))) (by kernel_rfl) (fun hb => ?_) (fun hb => ?_)
  replace h := cond_t hb h
  refine swp_skip ?_
  refine nx_n ?_
  refine swp_seq ?_
  refine swp_seqJ h (fun j5 => ⟨62, [(0, vl eOp aLog), (1, vs aKey), (5, .own 5), (6, vi s3.1)], [(5, .arr 2 1 j5.length (j5.map (eI .i64)))]⟩) (fun v6 h => ?_) (fun j5 h => ?_)
  refine swp_blk (a := v6) ?_
  refine swp_seq ?_
  refine swp_reg ?_
  refine SRun.ck tbok 2 ⟨62, [(0, vl eOp aLog), (1, vs aKey), (5, .own 5), (6, vi s3.1), (16, vl eOp aLog), (17, vi s3.1)], [(5, .arr 2 1 s3.2.length (s3.2.map (eI .i64)))]⟩ ?_
  obtain ⟨x7, hx7, h⟩ := bind_some h
  refine SRun.ls (x_index (L := aLog) (f := eOp) (ti := ti25) (tj := ti61) (e := 61) (k := .i64) tbok rfl hx7) ?_
  refine SRun.ck tbok 5 ⟨62, [(0, vl eOp aLog), (1, vs aKey), (5, .own 5), (6, vi s3.1), (7, vb (x7.Key.toList == aKey.toList))], [(5, .arr 2 1 s3.2.length (s3.2.map (eI .i64)))]⟩ ?_
  refine SRun.nil ?_
  refine nx_n ?_
  refine swp_seq ?_
  refine swp_seq ?_
  refine swp_reg ?_
  refine SRun.ck tbok 1 ⟨62, [(0, vl eOp aLog), (1, vs aKey), (5, .own 5), (6, vi s3.1), (7, vb (x7.Key.toList == aKey.toList)), (8, vi 0)], [(5, .arr 2 1 s3.2.length (s3.2.map (eI .i64)))]⟩ ?_
  refine SRun.nil ?_
  refine nx_n ?_
  refine swp_seqJ h (fun j8 => ⟨62, [(0, vl eOp aLog), (1, vs aKey), (5, .own 5), (6, vi s3.1), (7, vb j8)], [(5, .arr 2 1 s3.2.length (s3.2.map (eI .i64)))]⟩) (fun v9 h => ?_) (fun j8 h => ?_)
  refine swp_blk (a := v9) ?_
  refine swp_lpL (r := v9) (s := (0, (x7.Key.toList == aKey.toList))) _ (fun s10 => ⟨62, [(0, vl eOp aLog), (1, vs aKey), (5, .own 5), (6, vi s3.1), (7, vb s10.2), (8, vi s10.1)], [(5, .arr 2 1 s3.2.length (s3.2.map (eI .i64)))]⟩) _ (Le.sub0) h (fun s10 v11 h => ?_)
  refine swp_seq ?_
  refine swp_seq ?_
  refine swp_reg ?_
  refine SRun.ck tbok 4 ⟨62, [(0, vl eOp aLog), (1, vs aKey), (5, .own 5), (6, vi s3.1), (7, vb s10.2), (8, vi s10.1), (26, vb (decide (s10.1 < (aLog.length : Int))))], [(5, .arr 2 1 s3.2.length (s3.2.map (eI .i64)))]⟩ ?_
  refine SRun.nil ?_
  refine nx_n ?_
  refine swp_cond (b := (decide (s10.1 < (aLog.length : Int)))) (by kernel_rfl) (fun hb => ?_) (fun hb => ?_)
  replace h := cond_t hb h
  refine swp_skip ?_
  refine nx_n ?_
  refine swp_seq ?_
  refine swp_seqJ h (fun j12 => ⟨62, [(0, vl eOp aLog), (1, vs aKey), (5, .own 5), (6, vi s3.1), (7, vb j12), (8, vi s10.1)], [(5, .arr 2 1 s3.2.length (s3.2.map (eI .i64)))]⟩) (fun v13 h => ?_) (fun j12 h => ?_)
  refine swp_blk (a := v13) ?_
  refine swp_dr mixed ?_
  refine DGo.chunk' tbok 2 (σ' := ⟨62, [(30, vb s10.2), (29, vb s10.2), (0, vl eOp aLog), (1, vs aKey), (5, .own 5), (6, vi s3.1), (7, vb s10.2), (8, vi s10.1), (26, vb (decide (s10.1 < (aLog.length : Int))))], [(5, .arr 2 1 s3.2.length (s3.2.map (eI .i64)))]⟩) (by kernel_rfl) ?_
  refine DGo.cut [(30, fun b => b), (29, fun b => b), (7, fun b => b)] (b := s10.2) (by kernel_rfl) (fun hb => ?_) (fun hb => ?_)
  replace h := cond_t hb h
  refine DGo.chunk' tbok 4 (σ' := ⟨62, [(34, vb (s10.1 == s3.1)), (33, vb (s10.1 == s3.1)), (32, vi s3.1), (31, vi s10.1), (30, vb true), (29, vb true), (0, vl eOp aLog), (1, vs aKey), (5, .own 5), (6, vi s3.1), (7, vb true), (8, vi s10.1), (26, vb (decide (s10.1 < (aLog.length : Int))))], [(5, .arr 2 1 s3.2.length (s3.2.map (eI .i64)))]⟩) (by kernel_rfl) ?_
  refine DGo.cut [(34, fun b => b), (33, fun b => b)] (b := (s10.1 == s3.1)) (by kernel_rfl) (fun hb => ?_) (fun hb => ?_)
  replace h := cond_t hb h
  refine DGo.chunk' tbok 22 (σ' := ⟨62, [(7, vb true), (55, vb true), (54, vb true), (53, .tup []), (52, .tup []), (51, .tup []), (50, .tup []), (49, .tup []), (48, .tup []), (47, .tup []), (46, .tup []), (45, .tup []), (44, .tup []), (43, vb true), (42, vb true), (41, .tup []), (40, .tup []), (39, .tup []), (38, .tup []), (37, .tup []), (36, .tup []), (35, .tup []), (34, vb true), (33, vb true), (32, vi s3.1), (31, vi s10.1), (30, vb true), (29, vb true), (0, vl eOp aLog), (1, vs aKey), (5, .own 5), (6, vi s3.1), (8, vi s10.1), (26, vb (decide (s10.1 < (aLog.length : Int))))], [(5, .arr 2 1 s3.2.length (s3.2.map (eI .i64)))]⟩) (by kernel_rfl) ?_
  refine DGo.nil (by kernel_rfl) ?_
  replace h := Option.some.inj h
  subst h
  exact q_bn (q_j (Le.sub0))
  replace h := cond_f hb h
  refine DGo.chunk' tbok 2 (σ' := ⟨62, [(36, vi s10.1), (35, vl eOp aLog), (34, vb false), (33, vb false), (32, vi s3.1), (31, vi s10.1), (30, vb true), (29, vb true), (0, vl eOp aLog), (1, vs aKey), (5, .own 5), (6, vi s3.1), (7, vb true), (8, vi s10.1), (26, vb (decide (s10.1 < (aLog.length : Int))))], [(5, .arr 2 1 s3.2.length (s3.2.map (eI .i64)))]⟩) (by kernel_rfl) ?_
  obtain ⟨x14, hx14, h⟩ := bind_some h
  refine DGo.step (x_index (L := aLog) (f := eOp) (ti := ti25) (tj := ti61) (e := 61) (k := .i64) tbok rfl hx14) ?_
  refine DGo.chunk' tbok 6 (σ' := ⟨62, [(43, vb (!(x14.Key.toList == aKey.toList))), (42, vb (!(x14.Key.toList == aKey.toList))), (41, vb (!(x14.Key.toList == aKey.toList))), (40, vs aKey), (39, vs x14.Key), (38, .ptr ((eOp x14).map .tr) 2), (37, .ptr ((eOp x14).map .tr) 0), (36, vi s10.1), (35, vl eOp aLog), (34, vb false), (33, vb false), (32, vi s3.1), (31, vi s10.1), (30, vb true), (29, vb true), (0, vl eOp aLog), (1, vs aKey), (5, .own 5), (6, vi s3.1), (7, vb true), (8, vi s10.1), (26, vb (decide (s10.1 < (aLog.length : Int))))], [(5, .arr 2 1 s3.2.length (s3.2.map (eI .i64)))]⟩) (by kernel_rfl) ?_
  refine DGo.cut [(43, fun b => b), (42, fun b => b), (41, fun b => b)] (b := (!(x14.Key.toList == aKey.toList))) (by kernel_rfl) (fun hb => ?_) (fun hb => ?_)
  replace h := cond_t hb h
  refine DGo.chunk' tbok 13 (σ' := ⟨62, [(7, vb true), (55, vb true), (54, vb true), (53, .tup []), (52, .tup []), (51, .tup []), (50, .tup []), (49, .tup []), (48, .tup []), (47, .tup []), (46, .tup []), (45, .tup []), (44, .tup []), (43, vb true), (42, vb true), (41, vb true), (40, vs aKey), (39, vs x14.Key), (38, .ptr ((eOp x14).map .tr) 2), (37, .ptr ((eOp x14).map .tr) 0), (36, vi s10.1), (35, vl eOp aLog), (34, vb false), (33, vb false), (32, vi s3.1), (31, vi s10.1), (30, vb true), (29, vb true), (0, vl eOp aLog), (1, vs aKey), (5, .own 5), (6, vi s3.1), (8, vi s10.1), (26, vb (decide (s10.1 < (aLog.length : Int))))], [(5, .arr 2 1 s3.2.length (s3.2.map (eI .i64)))]⟩) (by kernel_rfl) ?_
  refine DGo.nil (by kernel_rfl) ?_
  replace h := Option.some.inj h
  subst h
  exact q_bn (q_j (Le.sub0))
  replace h := cond_f hb h
  refine DGo.chunk' tbok 2 (σ' := ⟨62, [(45, vi s10.1), (44, vl eOp aLog), (43, vb false), (42, vb false), (41, vb false), (40, vs aKey), (39, vs x14.Key), (38, .ptr ((eOp x14).map .tr) 2), (37, .ptr ((eOp x14).map .tr) 0), (36, vi s10.1), (35, vl eOp aLog), (34, vb false), (33, vb false), (32, vi s3.1), (31, vi s10.1), (30, vb true), (29, vb true), (0, vl eOp aLog), (1, vs aKey), (5, .own 5), (6, vi s3.1), (7, vb true), (8, vi s10.1), (26, vb (decide (s10.1 < (aLog.length : Int))))], [(5, .arr 2 1 s3.2.length (s3.2.map (eI .i64)))]⟩) (by kernel_rfl) ?_
  obtain ⟨x15, hx15, h⟩ := bind_some h
  refine DGo.step (x_index (L := aLog) (f := eOp) (ti := ti25) (tj := ti61) (e := 61) (k := .i64) tbok rfl hx15) ?_
  refine DGo.chunk' tbok 3 (σ' := ⟨62, [(49, vi s3.1), (48, vl eOp aLog), (47, .agg [vi x15.Office, vi x15.Number, vs x15.Key, vs x15.Text, vl (eI .i64) x15.Seen]), (46, .ptr ((eOp x15).map .tr) 0), (45, vi s10.1), (44, vl eOp aLog), (43, vb false), (42, vb false), (41, vb false), (40, vs aKey), (39, vs x14.Key), (38, .ptr ((eOp x14).map .tr) 2), (37, .ptr ((eOp x14).map .tr) 0), (36, vi s10.1), (35, vl eOp aLog), (34, vb false), (33, vb false), (32, vi s3.1), (31, vi s10.1), (30, vb true), (29, vb true), (0, vl eOp aLog), (1, vs aKey), (5, .own 5), (6, vi s3.1), (7, vb true), (8, vi s10.1), (26, vb (decide (s10.1 < (aLog.length : Int))))], [(5, .arr 2 1 s3.2.length (s3.2.map (eI .i64)))]⟩) (by kernel_rfl) ?_
  obtain ⟨x16, hx16, h⟩ := bind_some h
  refine DGo.step (x_index (L := aLog) (f := eOp) (ti := ti25) (tj := ti61) (e := 61) (k := .i64) tbok rfl hx16) ?_
  refine DGo.chunk' tbok 1 (σ' := ⟨62, [(51, .agg [vi x16.Office, vi x16.Number, vs x16.Key, vs x16.Text, vl (eI .i64) x16.Seen]), (50, .ptr ((eOp x16).map .tr) 0), (49, vi s3.1), (48, vl eOp aLog), (47, .agg [vi x15.Office, vi x15.Number, vs x15.Key, vs x15.Text, vl (eI .i64) x15.Seen]), (46, .ptr ((eOp x15).map .tr) 0), (45, vi s10.1), (44, vl eOp aLog), (43, vb false), (42, vb false), (41, vb false), (40, vs aKey), (39, vs x14.Key), (38, .ptr ((eOp x14).map .tr) 2), (37, .ptr ((eOp x14).map .tr) 0), (36, vi s10.1), (35, vl eOp aLog), (34, vb false), (33, vb false), (32, vi s3.1), (31, vi s10.1), (30, vb true), (29, vb true), (0, vl eOp aLog), (1, vs aKey), (5, .own 5), (6, vi s3.1), (7, vb true), (8, vi s10.1), (26, vb (decide (s10.1 < (aLog.length : Int))))], [(5, .arr 2 1 s3.2.length (s3.2.map (eI .i64)))]⟩) (by kernel_rfl) ?_
  obtain ⟨x17, hx17, h⟩ := bind_some h
  refine DGo.step (x_lstep_call (f := 52) (caps := []) (xs := [.agg [vi x15.Office, vi x15.Number, vs x15.Key, vs x15.Text, vl (eI .i64) x15.Seen], .agg [vi x16.Office, vi x16.Number, vs x16.Key, vs x16.Text, vl (eI .i64) x16.Seen]]) (ys := [.agg [vi x15.Office, vi x15.Number, vs x15.Key, vs x15.Text, vl (eI .i64) x15.Seen], .agg [vi x16.Office, vi x16.Number, vs x16.Key, vs x16.Text, vl (eI .i64) x16.Seen]]) (res := ⟨[.v (vb x17)], [], false⟩) (x := vb x17) (y := none) rfl ents52 (spec_l32Knows_run x15 x16 _ hx17) rfl (by intro hc; cases hc)) ?_
  refine DGo.chunk' tbok 4 (σ' := ⟨62, [(7, vb (!x17)), (55, vb (!x17)), (54, vb (!x17)), (53, vb (!x17)), (52, vb x17), (51, .agg [vi x16.Office, vi x16.Number, vs x16.Key, vs x16.Text, vl (eI .i64) x16.Seen]), (50, .ptr ((eOp x16).map .tr) 0), (49, vi s3.1), (48, vl eOp aLog), (47, .agg [vi x15.Office, vi x15.Number, vs x15.Key, vs x15.Text, vl (eI .i64) x15.Seen]), (46, .ptr ((eOp x15).map .tr) 0), (45, vi s10.1), (44, vl eOp aLog), (43, vb false), (42, vb false), (41, vb false), (40, vs aKey), (39, vs x14.Key), (38, .ptr ((eOp x14).map .tr) 2), (37, .ptr ((eOp x14).map .tr) 0), (36, vi s10.1), (35, vl eOp aLog), (34, vb false), (33, vb false), (32, vi s3.1), (31, vi s10.1), (30, vb true), (29, vb true), (0, vl eOp aLog), (1, vs aKey), (5, .own 5), (6, vi s3.1), (8, vi s10.1), (26, vb (decide (s10.1 < (aLog.length : Int))))], [(5, .arr 2 1 s3.2.length (s3.2.map (eI .i64)))]⟩) (by kernel_rfl) ?_
  refine DGo.nil (by kernel_rfl) ?_
  replace h := Option.some.inj h
  subst h
  exact q_bn (q_j (Le.sub0))
  replace h := cond_f hb h
  refine DGo.chunk' tbok 26 (σ' := ⟨62, [(7, vb false), (55, vb false), (54, .tup []), (53, .tup []), (52, .tup []), (51, .tup []), (50, .tup []), (49, .tup []), (48, .tup []), (47, .tup []), (46, .tup []), (45, .tup []), (44, .tup []), (43, .tup []), (42, .tup []), (41, .tup []), (40, .tup []), (39, .tup []), (38, .tup []), (37, .tup []), (36, .tup []), (35, .tup []), (34, .tup []), (33, .tup []), (32, .tup []), (31, .tup []), (30, vb false), (29, vb false), (0, vl eOp aLog), (1, vs aKey), (5, .own 5), (6, vi s3.1), (8, vi s10.1), (26, vb (decide (s10.1 < (aLog.length : Int))))], [(5, .arr 2 1 s3.2.length (s3.2.map (eI .i64)))]⟩) (by kernel_rfl) ?_
  refine DGo.nil (by kernel_rfl) ?_
  replace h := Option.some.inj h
  subst h
  exact q_bn (q_j (Le.sub0))
  refine swp_reg ?_
  refine SRun.ck tbok 3 ⟨62, [(0, vl eOp aLog), (1, vs aKey), (5, .own 5), (6, vi s3.1), (7, vb j12), (8, vi (w64 (s10.1 + 1)))], [(5, .arr 2 1 s3.2.length (s3.2.map (eI .i64)))]⟩ ?_
  refine SRun.nil ?_
  replace h := Option.some.inj h
  subst h
  exact q_l (Le.sub0)
  replace h := cond_f hb h
  refine swp_exit ?_
  replace h := Option.some.inj h
  subst h
  exact nx_e (q_re (q_bh (q_j (Le.sub0))))
  refine swp_seq ?_
  refine swp_reg ?_
  refine SRun.ck tbok 1 ⟨62, [(0, vl eOp aLog), (1, vs aKey), (5, .own 5), (6, vi s3.1), (56, vb j8)], [(5, .arr 2 1 s3.2.length (s3.2.map (eI .i64)))]⟩ ?_
  refine SRun.nil ?_
  refine nx_n ?_
  refine swp_cond (b := j8) (by kernel_rfl) (fun hb => ?_) (fun hb => ?_)
  replace h := cond_t hb h
  refine swp_reg ?_
  refine SRun.ck tbok 3 ⟨62, [(0, vl eOp aLog), (1, vs aKey), (6, vi s3.1), (57, .own 5), (59, .own 59)], [(5, .arr 2 1 s3.2.length (s3.2.map (eI .i64))), (59, .arr 2 1 ([s3.1] : List Int).length (([s3.1] : List Int).map (eI .i64)))]⟩ ?_
  obtain ⟨x18, hx18, h⟩ := bind_some h
  refine SRun.estep (x_append (f := (eI .i64)) (t := 32) (ti := ti32) (tj := ti2) (zs := [.int .i64 0]) (e := 2) (m := 1) (d := 5) (xv := .own 59) hx18 tbok rfl rfl rfl rfl (x_src_o (e := 2))) ?_
  refine SRun.ck tbok 1 ⟨62, [(0, vl eOp aLog), (1, vs aKey), (5, .own 60), (6, vi s3.1)], [(60, .arr 2 1 x18.length (x18.map (eI .i64)))]⟩ ?_
  refine SRun.nil ?_
  replace h := Option.some.inj h
  subst h
  exact q_bn (q_j ((Le.sub' ([(0, vl eOp aLog), (1, vs aKey), (5, .own 60), (6, vi s3.1)] : List (Nat × SV)) ([(60, .arr 2 1 x18.length (x18.map (eI .i64)))] : List (Nat × SO)) (by kernel_rfl) (by kernel_rfl)).trans ((Le.ren' (d := 60) (e := 5) (by kernel_rfl) (by kernel_rfl) (by kernel_rfl)).trans (Le.sub0))))
  replace h := cond_f hb h
  refine swp_skip ?_
  replace h := Option.some.inj h
  subst h
  exact q_bn (q_j (Le.sub0))
  refine swp_reg ?_
  refine SRun.ck tbok 3 ⟨62, [(0, vl eOp aLog), (1, vs aKey), (5, .own 5), (6, vi (w64 (s3.1 + 1)))], [(5, .arr 2 1 j5.length (j5.map (eI .i64)))]⟩ ?_
  refine SRun.nil ?_
  replace h := Option.some.inj h
  subst h
  exact q_l (Le.sub0)
  replace h := cond_f hb h
  refine swp_exit ?_
  replace h := Option.some.inj h
  subst h
  exact nx_e (q_re (q_bh (q_j (Le.sub0))))
  refine swp_seq ?_
  refine swp_reg ?_
  refine SRun.ck tbok 2 ⟨62, [(4, .own 5)], [(5, .arr 2 1 j1.length (j1.map (eI .i64)))]⟩ ?_
  refine SRun.nil ?_
  refine nx_n ?_
  refine swp_ret ?_
  replace h := Option.some.inj h
  subst h
  exact q_fr (fin1 (by kernel_rfl) (finO (d := 5) (holds_t (by kernel_rfl)) (by kernel_rfl) (flat_map (eI_flat .i64) _) (by kernel_rfl)))
theorem ents61 : Ents Tryd.prog 61 := ents_of Tryd.func61 (by kernel_rfl) rfl
noncomputable def spec_RivalsOf (aLog : (List Op)) (aKey : ByteArray) : Option ((List Int) × Int) :=
  ((spec_IsLog aLog).bind fun x1 => (bif (!x1) then some (([] : List Int), 1) else ((spec_l32Rivals aLog aKey).bind fun x2 => some (x2, 0))))
set_option maxRecDepth 100000 in
set_option maxHeartbeats 4000000 in
theorem spec_RivalsOf_run (aLog : (List Op)) (aKey : ByteArray) (r : (List Int) × Int) (h : spec_RivalsOf aLog aKey = some r) : SCall Tryd.prog 30 [.v (vl eOp aLog), .v (vs aKey)] ⟨[.own 2 1 r.1.length (r.1.map (eI .i64)), .v (vi r.2)], [], false⟩ := by
  refine scall_in Tryd.func30 rfl [(.tmp 4), (.tmp 5)] rfl (fun r => ⟨[.own 2 1 r.1.length (r.1.map (eI .i64)), .v (vi r.2)], [], false⟩) (r := r) ?_
  unfold spec_RivalsOf at h
  refine swp_seq ?_
  refine swp_reg ?_
  refine SRun.ck tbok 2 ⟨12, [(0, vl eOp aLog), (1, vs aKey)], []⟩ ?_
  refine SRun.nil ?_
  refine nx_n ?_
  refine swp_seq ?_
  refine swp_seq ?_
  refine swp_reg ?_
  refine SRun.ck tbok 1 ⟨12, [(0, vl eOp aLog), (1, vs aKey), (6, vl eOp aLog)], []⟩ ?_
  obtain ⟨x1, hx1, h⟩ := bind_some h
  refine SRun.ls (x_lstep_call (f := 13) (caps := []) (xs := [vl eOp aLog]) (ys := [vl eOp aLog]) (res := ⟨[.v (vb x1)], [], false⟩) (x := vb x1) (y := none) rfl ents13 (spec_IsLog_run aLog _ hx1) rfl (by intro hc; cases hc)) ?_
  refine SRun.ck tbok 1 ⟨12, [(0, vl eOp aLog), (1, vs aKey), (8, vb (!x1))], []⟩ ?_
  refine SRun.nil ?_
  refine nx_n ?_
  refine swp_cond (b := (!x1)) (by kernel_rfl) (fun hb => ?_) (fun hb => ?_)
  replace h := cond_t hb h
  refine swp_seq ?_
  refine swp_reg ?_
  refine SRun.ck tbok 2 ⟨12, [(4, .own 4), (5, vi 1)], [(4, .arr 2 1 ([] : List Int).length (([] : List Int).map (eI .i64)))]⟩ ?_
  refine SRun.nil ?_
  refine nx_n ?_
  refine swp_ret ?_
  replace h := Option.some.inj h
  subst h
  exact nx_r (q_fr (fin2 (by kernel_rfl) (finO (d := 4) (holds_t (by kernel_rfl)) (by kernel_rfl) (flat_map (eI_flat .i64) _) (by kernel_rfl)) (finV rfl SV.flat_of (holds_t (by kernel_rfl)))))
  replace h := cond_f hb h
  refine swp_skip ?_
  refine nx_n ?_
  refine swp_seq ?_
  refine swp_reg ?_
  refine SRun.ck tbok 2 ⟨12, [(9, vl eOp aLog), (10, vs aKey)], []⟩ ?_
  obtain ⟨x2, hx2, h⟩ := bind_some h
  refine SRun.ls (x_lstep_call (f := 61) (caps := []) (xs := [vl eOp aLog, vs aKey]) (ys := [vl eOp aLog, vs aKey]) (res := ⟨[.own 2 1 x2.length (x2.map (eI .i64))], [], false⟩) (x := .own 11) (y := some (.arr 2 1 x2.length (x2.map (eI .i64)))) rfl ents61 (spec_l32Rivals_run aLog aKey _ hx2) rfl (by intro hc; cases hc)) ?_
  refine SRun.ck tbok 2 ⟨12, [(4, .own 11), (5, vi 0)], [(11, .arr 2 1 x2.length (x2.map (eI .i64)))]⟩ ?_
  refine SRun.nil ?_
  refine nx_n ?_
  refine swp_ret ?_
  replace h := Option.some.inj h
  subst h
  exact q_fr (fin2 (by kernel_rfl) (finO (d := 11) (holds_t (by kernel_rfl)) (by kernel_rfl) (flat_map (eI_flat .i64) _) (by kernel_rfl)) (finV rfl SV.flat_of (holds_t (by kernel_rfl))))
theorem ents30 : Ents Tryd.prog 30 := ents_of Tryd.func30 (by kernel_rfl) rfl
noncomputable def impl_textOf (aLog : (List Op)) (aKey : ByteArray) : Option (ByteArray × Bool) :=
  ((impl_rivalsOf aLog aKey).bind fun x1 => (((forS (x1.length : Int) (fun (i4 : Int) (s4 : Int) => ((at' x1 i4).bind fun x8 => (((bif (decide (s4 < 0)) then some true else ((at' aLog x8).bind fun x9 => ((at' aLog s4).bind fun x10 => some (decide (x9.Office > x10.Office)))))).bind fun (j11 : Bool) => (bif j11 then some x8 else some s4)))) (fun (s4 : Int) => s4) 0 (-1))).bind fun (j2 : Int) => (bif (decide (j2 < 0)) then some ((ByteArray.mk #[]), false) else ((at' aLog j2).bind fun x13 => some (x13.Text, true)))))
set_option maxRecDepth 100000 in
set_option maxHeartbeats 4000000 in
theorem impl_textOf_run (aLog : (List Op)) (aKey : ByteArray) (r : ByteArray × Bool) (h : impl_textOf aLog aKey = some r) : SCall Tryd.prog 60 [.v (vl eOp aLog), .v (vs aKey)] ⟨[.v (vs r.1), .v (vb r.2)], [], false⟩ := by
  refine scall_in Tryd.func60 rfl [(.tmp 4), (.tmp 5)] rfl (fun r => ⟨[.v (vs r.1), .v (vb r.2)], [], false⟩) (r := r) ?_
  unfold impl_textOf at h
  refine swp_seq ?_
  refine swp_reg ?_
  refine SRun.ck tbok 2 ⟨41, [(0, vl eOp aLog), (1, vs aKey)], []⟩ ?_
  refine SRun.nil ?_
  refine nx_n ?_
  refine swp_seq ?_
  refine swp_reg ?_
  refine SRun.ck tbok 1 ⟨41, [(0, vl eOp aLog), (1, vs aKey), (6, vi (-1))], []⟩ ?_
  refine SRun.nil ?_
  refine nx_n ?_
  refine swp_seq ?_
  refine swp_seq ?_
  refine swp_reg ?_
  refine SRun.ck tbok 2 ⟨41, [(0, vl eOp aLog), (6, vi (-1)), (9, vl eOp aLog), (10, vs aKey)], []⟩ ?_
  obtain ⟨x1, hx1, h⟩ := bind_some h
  refine SRun.ls (x_lstep_call (f := 62) (caps := []) (xs := [vl eOp aLog, vs aKey]) (ys := [vl eOp aLog, vs aKey]) (res := ⟨[.own 2 1 x1.length (x1.map (eI .i64))], [], false⟩) (x := .own 11) (y := some (.arr 2 1 x1.length (x1.map (eI .i64)))) rfl ents62 (impl_rivalsOf_run aLog aKey _ hx1) rfl (by intro hc; cases hc)) ?_
  refine SRun.ck tbok 2 ⟨41, [(0, vl eOp aLog), (6, vi (-1)), (11, .own 11), (12, vi (x1.length : Int)), (13, vi 0)], [(11, .arr 2 1 x1.length (x1.map (eI .i64)))]⟩ ?_
  refine SRun.nil ?_
  refine nx_n ?_
  refine swp_seqJ h (fun j2 => ⟨41, [(0, vl eOp aLog), (6, vi j2)], []⟩) (fun v3 h => ?_) (fun j2 h => ?_)
  refine swp_blk (a := v3) ?_
  refine swp_lpL (r := v3) (s := (0, (-1))) _ (fun s4 => ⟨41, [(0, vl eOp aLog), (6, vi s4.2), (11, .own 11), (12, vi (x1.length : Int)), (13, vi s4.1)], [(11, .arr 2 1 x1.length (x1.map (eI .i64)))]⟩) _ (Le.sub0) h (fun s4 v5 h => ?_)
  refine swp_seq ?_
  refine swp_reg ?_
  refine SRun.ck tbok 1 ⟨41, [(0, vl eOp aLog), (6, vi s4.2), (11, .own 11), (12, vi (x1.length : Int)), (13, vi s4.1), (14, vb (decide (s4.1 < (x1.length : Int))))], [(11, .arr 2 1 x1.length (x1.map (eI .i64)))]⟩ ?_
  refine SRun.nil ?_
  refine nx_n ?_
  refine swp_seq ?_
  refine swp_cond (b := (decide (s4.1 < (x1.length : Int)))) (by kernel_rfl) (fun hb => ?_) (fun hb => ?_)
  replace h := cond_t hb h
  refine swp_skip ?_
  refine nx_n ?_
  refine swp_seq ?_
  refine swp_seqJ h (fun j6 => ⟨41, [(0, vl eOp aLog), (6, vi j6), (11, .own 11), (12, vi (x1.length : Int)), (13, vi s4.1)], [(11, .arr 2 1 x1.length (x1.map (eI .i64)))]⟩) (fun v7 h => ?_) (fun j6 h => ?_)
  refine swp_blk (a := v7) ?_
  refine swp_seq ?_
  refine swp_reg ?_
  obtain ⟨x8, hx8, h⟩ := bind_some h
  refine SRun.ls (x_index_own (d := 11) (L := x1) (f := (eI .i64)) (ti := ti32) (tj := ti2) (e := 2) (e' := 2) (m := 1) (k := .i64) tbok rfl hx8) ?_
  refine SRun.ls (x_load_own (d := 11) (m := 1) (j := 0) (L := x1) (f := (eI .i64)) (ti := ti2) (e := 2) (v := vi x8) tbok rfl hx8) ?_
  refine SRun.ck tbok 1 ⟨41, [(0, vl eOp aLog), (6, vi s4.2), (8, vi x8), (11, .own 11), (12, vi (x1.length : Int)), (13, vi s4.1)], [(11, .arr 2 1 x1.length (x1.map (eI .i64)))]⟩ ?_
  refine SRun.nil ?_
  refine nx_n ?_
  refine swp_seq ?_
  refine swp_drJ mixed h (fun j11 => ⟨41, [(0, vl eOp aLog), (6, vi s4.2), (8, vi x8), (11, .own 11), (12, vi (x1.length : Int)), (13, vi s4.1), (31, vb j11)], [(11, .arr 2 1 x1.length (x1.map (eI .i64)))]⟩) (fun v12 h => ?_) (fun j11 h => ?_)
  refine DGo.chunk' tbok 3 (σ' := ⟨41, [(19, vb (decide (s4.2 < 0))), (18, vb (decide (s4.2 < 0))), (17, vi s4.2), (0, vl eOp aLog), (6, vi s4.2), (8, vi x8), (11, .own 11), (12, vi (x1.length : Int)), (13, vi s4.1)], [(11, .arr 2 1 x1.length (x1.map (eI .i64)))]⟩) (by kernel_rfl) ?_
  refine DGo.cut [(19, fun b => b), (18, fun b => b)] (b := (decide (s4.2 < 0))) (by kernel_rfl) (fun hb => ?_) (fun hb => ?_)
  replace h := cond_t hb h
  refine DGo.chunk' tbok 12 (σ' := ⟨41, [(31, vb true), (30, .tup []), (29, .tup []), (28, .tup []), (27, .tup []), (26, .tup []), (25, .tup []), (24, .tup []), (23, .tup []), (22, .tup []), (21, .tup []), (20, .tup []), (19, vb true), (18, vb true), (17, vi s4.2), (0, vl eOp aLog), (6, vi s4.2), (8, vi x8), (11, .own 11), (12, vi (x1.length : Int)), (13, vi s4.1)], [(11, .arr 2 1 x1.length (x1.map (eI .i64)))]⟩) (by kernel_rfl) ?_
  refine DGo.nil (by kernel_rfl) ?_
  replace h := Option.some.inj h
  subst h
  exact Le.sub0
  replace h := cond_f hb h
  refine DGo.chunk' tbok 2 (σ' := ⟨41, [(21, vi x8), (20, vl eOp aLog), (19, vb false), (18, vb false), (17, vi s4.2), (0, vl eOp aLog), (6, vi s4.2), (8, vi x8), (11, .own 11), (12, vi (x1.length : Int)), (13, vi s4.1)], [(11, .arr 2 1 x1.length (x1.map (eI .i64)))]⟩) (by kernel_rfl) ?_
  obtain ⟨x9, hx9, h⟩ := bind_some h
  refine DGo.step (x_index (L := aLog) (f := eOp) (ti := ti25) (tj := ti61) (e := 61) (k := .i64) tbok rfl hx9) ?_
  refine DGo.chunk' tbok 4 (σ' := ⟨41, [(26, vi s4.2), (25, vl eOp aLog), (24, vi x9.Office), (23, .ptr ((eOp x9).map .tr) 0), (22, .ptr ((eOp x9).map .tr) 0), (21, vi x8), (20, vl eOp aLog), (19, vb false), (18, vb false), (17, vi s4.2), (0, vl eOp aLog), (6, vi s4.2), (8, vi x8), (11, .own 11), (12, vi (x1.length : Int)), (13, vi s4.1)], [(11, .arr 2 1 x1.length (x1.map (eI .i64)))]⟩) (by kernel_rfl) ?_
  obtain ⟨x10, hx10, h⟩ := bind_some h
  refine DGo.step (x_index (L := aLog) (f := eOp) (ti := ti25) (tj := ti61) (e := 61) (k := .i64) tbok rfl hx10) ?_
  refine DGo.chunk' tbok 4 (σ' := ⟨41, [(31, vb (decide (x9.Office > x10.Office))), (30, vb (decide (x9.Office > x10.Office))), (29, vi x10.Office), (28, .ptr ((eOp x10).map .tr) 0), (27, .ptr ((eOp x10).map .tr) 0), (26, vi s4.2), (25, vl eOp aLog), (24, vi x9.Office), (23, .ptr ((eOp x9).map .tr) 0), (22, .ptr ((eOp x9).map .tr) 0), (21, vi x8), (20, vl eOp aLog), (19, vb false), (18, vb false), (17, vi s4.2), (0, vl eOp aLog), (6, vi s4.2), (8, vi x8), (11, .own 11), (12, vi (x1.length : Int)), (13, vi s4.1)], [(11, .arr 2 1 x1.length (x1.map (eI .i64)))]⟩) (by kernel_rfl) ?_
  refine DGo.nil (by kernel_rfl) ?_
  replace h := Option.some.inj h
  subst h
  exact Le.sub0
  refine swp_cond (b := j11) (by kernel_rfl) (fun hb => ?_) (fun hb => ?_)
  replace h := cond_t hb h
  refine swp_reg ?_
  refine SRun.ck tbok 2 ⟨41, [(0, vl eOp aLog), (6, vi x8), (11, .own 11), (12, vi (x1.length : Int)), (13, vi s4.1)], [(11, .arr 2 1 x1.length (x1.map (eI .i64)))]⟩ ?_
  refine SRun.nil ?_
  replace h := Option.some.inj h
  subst h
  exact q_bn (q_j (Le.sub0))
  replace h := cond_f hb h
  refine swp_skip ?_
  replace h := Option.some.inj h
  subst h
  exact q_bn (q_j (Le.sub0))
  refine swp_reg ?_
  refine SRun.ck tbok 2 ⟨41, [(0, vl eOp aLog), (6, vi j6), (11, .own 11), (12, vi (x1.length : Int)), (13, vi (w64 (s4.1 + 1)))], [(11, .arr 2 1 x1.length (x1.map (eI .i64)))]⟩ ?_
  refine SRun.nil ?_
  replace h := Option.some.inj h
  subst h
  exact q_l (Le.sub0)
  replace h := cond_f hb h
  refine swp_exit ?_
  replace h := Option.some.inj h
  subst h
  exact nx_e (q_re (q_bh (q_j (Le.sub0))))
  refine swp_seq ?_
  refine swp_seq ?_
  refine swp_reg ?_
  refine SRun.ck tbok 2 ⟨41, [(0, vl eOp aLog), (6, vi j2), (35, vb (decide (j2 < 0)))], []⟩ ?_
  refine SRun.nil ?_
  refine nx_n ?_
  refine swp_cond (b := (decide (j2 < 0))) (by kernel_rfl) (fun hb => ?_) (fun hb => ?_)
  replace h := cond_t hb h
  refine swp_seq ?_
  refine swp_reg ?_
  refine SRun.ck tbok 2 ⟨41, [(4, vs (ByteArray.mk #[])), (5, vb false)], []⟩ ?_
  refine SRun.nil ?_
  refine nx_n ?_
  refine swp_ret ?_
  replace h := Option.some.inj h
  subst h
  exact nx_r (q_fr (fin2 (by kernel_rfl) (finV rfl SV.flat_of (holds_t (by kernel_rfl))) (finV rfl SV.flat_of (holds_t (by kernel_rfl)))))
  replace h := cond_f hb h
  refine swp_skip ?_
  refine nx_n ?_
  refine swp_seq ?_
  refine swp_reg ?_
  refine SRun.ck tbok 2 ⟨41, [(36, vl eOp aLog), (37, vi j2)], []⟩ ?_
  obtain ⟨x13, hx13, h⟩ := bind_some h
  refine SRun.ls (x_index (L := aLog) (f := eOp) (ti := ti25) (tj := ti61) (e := 61) (k := .i64) tbok rfl hx13) ?_
  refine SRun.ck tbok 4 ⟨41, [(4, vs x13.Text), (5, vb true)], []⟩ ?_
  refine SRun.nil ?_
  refine nx_n ?_
  refine swp_ret ?_
  replace h := Option.some.inj h
  subst h
  exact q_fr (fin2 (by kernel_rfl) (finV rfl SV.flat_of (holds_t (by kernel_rfl))) (finV rfl SV.flat_of (holds_t (by kernel_rfl))))
theorem ents60 : Ents Tryd.prog 60 := ents_of Tryd.func60 (by kernel_rfl) rfl
noncomputable def impl_TextOf (aLog : (List Op)) (aKey : ByteArray) : Option (ByteArray × Int) :=
  ((impl_IsLog aLog).bind fun x1 => (bif (!x1) then some ((ByteArray.mk #[]), 1) else ((impl_textOf aLog aKey).bind fun x2 => (bif (!x2.2) then some ((ByteArray.mk #[]), 4) else some (x2.1, 0)))))
set_option maxRecDepth 100000 in
set_option maxHeartbeats 4000000 in
theorem impl_TextOf_run (aLog : (List Op)) (aKey : ByteArray) (r : ByteArray × Int) (h : impl_TextOf aLog aKey = some r) : SCall Tryd.prog 29 [.v (vl eOp aLog), .v (vs aKey)] ⟨[.v (vs r.1), .v (vi r.2)], [], false⟩ := by
  refine scall_in Tryd.func29 rfl [(.tmp 4), (.tmp 5)] rfl (fun r => ⟨[.v (vs r.1), .v (vi r.2)], [], false⟩) (r := r) ?_
  unfold impl_TextOf at h
  refine swp_seq ?_
  refine swp_reg ?_
  refine SRun.ck tbok 2 ⟨20, [(0, vl eOp aLog), (1, vs aKey)], []⟩ ?_
  refine SRun.nil ?_
  refine nx_n ?_
  refine swp_seq ?_
  refine swp_seq ?_
  refine swp_reg ?_
  refine SRun.ck tbok 1 ⟨20, [(0, vl eOp aLog), (1, vs aKey), (8, vl eOp aLog)], []⟩ ?_
  obtain ⟨x1, hx1, h⟩ := bind_some h
  refine SRun.ls (x_lstep_call (f := 15) (caps := []) (xs := [vl eOp aLog]) (ys := [vl eOp aLog]) (res := ⟨[.v (vb x1)], [], false⟩) (x := vb x1) (y := none) rfl ents15 (impl_IsLog_run aLog _ hx1) rfl (by intro hc; cases hc)) ?_
  refine SRun.ck tbok 1 ⟨20, [(0, vl eOp aLog), (1, vs aKey), (10, vb (!x1))], []⟩ ?_
  refine SRun.nil ?_
  refine nx_n ?_
  refine swp_cond (b := (!x1)) (by kernel_rfl) (fun hb => ?_) (fun hb => ?_)
  replace h := cond_t hb h
  refine swp_seq ?_
  refine swp_reg ?_
  refine SRun.ck tbok 2 ⟨20, [(4, vs (ByteArray.mk #[])), (5, vi 1)], []⟩ ?_
  refine SRun.nil ?_
  refine nx_n ?_
  refine swp_ret ?_
  replace h := Option.some.inj h
  subst h
  exact nx_r (q_fr (fin2 (by kernel_rfl) (finV rfl SV.flat_of (holds_t (by kernel_rfl))) (finV rfl SV.flat_of (holds_t (by kernel_rfl)))))
  replace h := cond_f hb h
  refine swp_skip ?_
  refine nx_n ?_
  refine swp_seq ?_
  refine swp_reg ?_
  refine SRun.ck tbok 2 ⟨20, [(12, vl eOp aLog), (13, vs aKey)], []⟩ ?_
  obtain ⟨x2, hx2, h⟩ := bind_some h
  refine SRun.ls (x_lstep_call (f := 60) (caps := []) (xs := [vl eOp aLog, vs aKey]) (ys := [vl eOp aLog, vs aKey]) (res := ⟨[.v (vs x2.1), .v (vb x2.2)], [], false⟩) (x := .tup [vs x2.1, vb x2.2]) (y := none) rfl ents60 (impl_textOf_run aLog aKey _ hx2) rfl (by intro hc; cases hc)) ?_
  refine SRun.ck tbok 5 ⟨20, [(6, vs x2.1), (7, vb x2.2)], []⟩ ?_
  refine SRun.nil ?_
  refine nx_n ?_
  refine swp_seq ?_
  refine swp_seq ?_
  refine swp_reg ?_
  refine SRun.ck tbok 2 ⟨20, [(6, vs x2.1), (18, vb (!x2.2))], []⟩ ?_
  refine SRun.nil ?_
  refine nx_n ?_
  refine swp_cond (b := (!x2.2)) (by kernel_rfl) (fun hb => ?_) (fun hb => ?_)
  replace h := cond_t hb h
  refine swp_seq ?_
  refine swp_reg ?_
  refine SRun.ck tbok 2 ⟨20, [(4, vs (ByteArray.mk #[])), (5, vi 4)], []⟩ ?_
  refine SRun.nil ?_
  refine nx_n ?_
  refine swp_ret ?_
  replace h := Option.some.inj h
  subst h
  exact nx_r (q_fr (fin2 (by kernel_rfl) (finV rfl SV.flat_of (holds_t (by kernel_rfl))) (finV rfl SV.flat_of (holds_t (by kernel_rfl)))))
  replace h := cond_f hb h
  refine swp_skip ?_
  refine nx_n ?_
  refine swp_seq ?_
  refine swp_reg ?_
  refine SRun.ck tbok 3 ⟨20, [(4, vs x2.1), (5, vi 0)], []⟩ ?_
  refine SRun.nil ?_
  refine nx_n ?_
  refine swp_ret ?_
  replace h := Option.some.inj h
  subst h
  exact q_fr (fin2 (by kernel_rfl) (finV rfl SV.flat_of (holds_t (by kernel_rfl))) (finV rfl SV.flat_of (holds_t (by kernel_rfl))))
theorem ents29 : Ents Tryd.prog 29 := ents_of Tryd.func29 (by kernel_rfl) rfl
noncomputable def spec_l32Text (aLog : (List Op)) (aKey : ByteArray) : Option (ByteArray) :=
  ((spec_l32Rivals aLog aKey).bind fun x1 => (((forS (x1.length : Int) (fun (i4 : Int) (s4 : ByteArray × Int) => ((at' x1 i4).bind fun x8 => ((at' aLog x8).bind fun x9 => (bif (decide (x9.Office > s4.2)) then some (x9.Text, x9.Office) else some (s4.1, s4.2))))) (fun (s4 : ByteArray × Int) => s4.1) 0 ((ByteArray.mk #[]), (-1)))).bind fun (j2 : ByteArray) => some j2))
set_option maxRecDepth 100000 in
set_option maxHeartbeats 4000000 in
theorem spec_l32Text_run (aLog : (List Op)) (aKey : ByteArray) (r : ByteArray) (h : spec_l32Text aLog aKey = some r) : SCall Tryd.prog 59 [.v (vl eOp aLog), .v (vs aKey)] ⟨[.v (vs r)], [], false⟩ := by
  refine scall_in Tryd.func59 rfl [(.tmp 4)] rfl (fun r => ⟨[.v (vs r)], [], false⟩) (r := r) ?_
  unfold spec_l32Text at h
  refine swp_seq ?_
  refine swp_reg ?_
  refine SRun.ck tbok 1 ⟨35, [(0, vl eOp aLog), (1, vs aKey)], []⟩ ?_
  refine SRun.nil ?_
  refine nx_n ?_
  refine swp_seq ?_
  refine swp_reg ?_
  refine SRun.ck tbok 2 ⟨35, [(0, vl eOp aLog), (10, vl eOp aLog), (11, vs aKey)], []⟩ ?_
  obtain ⟨x1, hx1, h⟩ := bind_some h
  refine SRun.ls (x_lstep_call (f := 61) (caps := []) (xs := [vl eOp aLog, vs aKey]) (ys := [vl eOp aLog, vs aKey]) (res := ⟨[.own 2 1 x1.length (x1.map (eI .i64))], [], false⟩) (x := .own 12) (y := some (.arr 2 1 x1.length (x1.map (eI .i64)))) rfl ents61 (spec_l32Rivals_run aLog aKey _ hx1) rfl (by intro hc; cases hc)) ?_
  refine SRun.ck tbok 1 ⟨35, [(0, vl eOp aLog), (5, .own 12)], [(12, .arr 2 1 x1.length (x1.map (eI .i64)))]⟩ ?_
  refine SRun.nil ?_
  refine nx_n ?_
  refine swp_seq ?_
  refine swp_reg ?_
  refine SRun.ck tbok 2 ⟨35, [(0, vl eOp aLog), (5, .own 12), (6, vs (ByteArray.mk #[])), (7, vi (-1))], [(12, .arr 2 1 x1.length (x1.map (eI .i64)))]⟩ ?_
  refine SRun.nil ?_
  refine nx_n ?_
  refine swp_seq ?_
  refine swp_seq ?_
  refine swp_reg ?_
  refine SRun.ck tbok 1 ⟨35, [(0, vl eOp aLog), (5, .own 12), (6, vs (ByteArray.mk #[])), (7, vi (-1)), (8, vi 0)], [(12, .arr 2 1 x1.length (x1.map (eI .i64)))]⟩ ?_
  refine SRun.nil ?_
  refine nx_n ?_
  refine swp_seqJ h (fun j2 => ⟨35, [(6, vs j2)], []⟩) (fun v3 h => ?_) (fun j2 h => ?_)
  refine swp_blk (a := v3) ?_
  refine swp_lpL (r := v3) (s := (0, (ByteArray.mk #[]), (-1))) _ (fun s4 => ⟨35, [(0, vl eOp aLog), (5, .own 5), (6, vs s4.2.1), (7, vi s4.2.2), (8, vi s4.1)], [(5, .arr 2 1 x1.length (x1.map (eI .i64)))]⟩) _ ((Le.sub' ([(0, vl eOp aLog), (5, .own 12), (6, vs (ByteArray.mk #[])), (7, vi (-1)), (8, vi 0)] : List (Nat × SV)) ([(12, .arr 2 1 x1.length (x1.map (eI .i64)))] : List (Nat × SO)) (by kernel_rfl) (by kernel_rfl)).trans ((Le.ren' (d := 12) (e := 5) (by kernel_rfl) (by kernel_rfl) (by kernel_rfl)).trans (Le.sub0))) h (fun s4 v5 h => ?_)
  refine swp_seq ?_
  refine swp_seq ?_
  refine swp_reg ?_
  refine SRun.ck tbok 4 ⟨35, [(0, vl eOp aLog), (5, .own 5), (6, vs s4.2.1), (7, vi s4.2.2), (8, vi s4.1), (16, vb (decide (s4.1 < (x1.length : Int))))], [(5, .arr 2 1 x1.length (x1.map (eI .i64)))]⟩ ?_
  refine SRun.nil ?_
  refine nx_n ?_
  refine swp_cond (b := (decide (s4.1 < (x1.length : Int)))) (by kernel_rfl) (fun hb => ?_) (fun hb => ?_)
  replace h := cond_t hb h
  refine swp_skip ?_
  refine nx_n ?_
  refine swp_seq ?_
  refine swp_seqJ h (fun j6 => ⟨35, [(0, vl eOp aLog), (5, .own 5), (6, vs j6.1), (7, vi j6.2), (8, vi s4.1)], [(5, .arr 2 1 x1.length (x1.map (eI .i64)))]⟩) (fun v7 h => ?_) (fun j6 h => ?_)
  refine swp_blk (a := v7) ?_
  refine swp_seq ?_
  refine swp_reg ?_
  refine SRun.ck tbok 3 ⟨35, [(0, vl eOp aLog), (5, .own 5), (6, vs s4.2.1), (7, vi s4.2.2), (8, vi s4.1), (19, vl eOp aLog), (20, .own 5), (21, vi s4.1)], [(5, .arr 2 1 x1.length (x1.map (eI .i64)))]⟩ ?_
  obtain ⟨x8, hx8, h⟩ := bind_some h
  refine SRun.ls (x_index_own (d := 5) (L := x1) (f := (eI .i64)) (ti := ti32) (tj := ti2) (e := 2) (e' := 2) (m := 1) (k := .i64) tbok rfl hx8) ?_
  refine SRun.ls (x_load_own (d := 5) (m := 1) (j := 0) (L := x1) (f := (eI .i64)) (ti := ti2) (e := 2) (v := vi x8) tbok rfl hx8) ?_
  obtain ⟨x9, hx9, h⟩ := bind_some h
  refine SRun.ls (x_index (L := aLog) (f := eOp) (ti := ti25) (tj := ti61) (e := 61) (k := .i64) tbok rfl hx9) ?_
  refine SRun.ck tbok 2 ⟨35, [(0, vl eOp aLog), (5, .own 5), (6, vs s4.2.1), (7, vi s4.2.2), (8, vi s4.1), (9, .ref 9 0), (25, .agg [vi x9.Office, vi x9.Number, vs x9.Key, vs x9.Text, vl (eI .i64) x9.Seen])], [(5, .arr 2 1 x1.length (x1.map (eI .i64))), (9, .box [vi 0, vi 0, vs (ByteArray.mk #[]), vs (ByteArray.mk #[]), vl (eI .i64) ([] : List Int)])]⟩ ?_
  refine SRun.estep (x_estep_store (d := 9) (k := 0) (ti := ti61) (cs := [vi 0, vi 0, vs (ByteArray.mk #[]), vs (ByteArray.mk #[]), vl (eI .i64) ([] : List Int)]) (vs := [vi x9.Office, vi x9.Number, vs x9.Key, vs x9.Text, vl (eI .i64) x9.Seen]) (v := .agg [vi x9.Office, vi x9.Number, vs x9.Key, vs x9.Text, vl (eI .i64) x9.Seen]) tbok rfl rfl) ?_
  refine SRun.nil ?_
  refine nx_n ?_
  refine swp_seq ?_
  refine swp_reg ?_
  refine SRun.ck tbok 4 ⟨35, [(0, vl eOp aLog), (5, .own 5), (6, vs s4.2.1), (7, vi s4.2.2), (8, vi s4.1), (9, .ref 9 0), (29, vb (decide (x9.Office > s4.2.2)))], [(5, .arr 2 1 x1.length (x1.map (eI .i64))), (9, .box [vi x9.Office, vi x9.Number, vs x9.Key, vs x9.Text, vl (eI .i64) x9.Seen])]⟩ ?_
  refine SRun.nil ?_
  refine nx_n ?_
  refine swp_cond (b := (decide (x9.Office > s4.2.2))) (by kernel_rfl) (fun hb => ?_) (fun hb => ?_)
  replace h := cond_t hb h
  refine swp_seq ?_
  refine swp_reg ?_
  refine SRun.ck tbok 3 ⟨35, [(0, vl eOp aLog), (5, .own 5), (6, vs x9.Text), (8, vi s4.1), (9, .ref 9 0)], [(5, .arr 2 1 x1.length (x1.map (eI .i64))), (9, .box [vi x9.Office, vi x9.Number, vs x9.Key, vs x9.Text, vl (eI .i64) x9.Seen])]⟩ ?_
  refine SRun.nil ?_
  refine nx_n ?_
  refine swp_reg ?_
  refine SRun.ck tbok 3 ⟨35, [(0, vl eOp aLog), (5, .own 5), (6, vs x9.Text), (7, vi x9.Office), (8, vi s4.1)], [(5, .arr 2 1 x1.length (x1.map (eI .i64)))]⟩ ?_
  refine SRun.nil ?_
  replace h := Option.some.inj h
  subst h
  exact q_bn (q_j (Le.sub0))
  replace h := cond_f hb h
  refine swp_skip ?_
  replace h := Option.some.inj h
  subst h
  exact q_bn (q_j (Le.sub0))
  refine swp_reg ?_
  refine SRun.ck tbok 3 ⟨35, [(0, vl eOp aLog), (5, .own 5), (6, vs j6.1), (7, vi j6.2), (8, vi (w64 (s4.1 + 1)))], [(5, .arr 2 1 x1.length (x1.map (eI .i64)))]⟩ ?_
  refine SRun.nil ?_
  replace h := Option.some.inj h
  subst h
  exact q_l (Le.sub0)
  replace h := cond_f hb h
  refine swp_exit ?_
  replace h := Option.some.inj h
  subst h
  exact nx_e (q_re (q_bh (q_j (Le.sub0))))
  refine swp_seq ?_
  refine swp_reg ?_
  refine SRun.ck tbok 2 ⟨35, [(4, vs j2)], []⟩ ?_
  refine SRun.nil ?_
  refine nx_n ?_
  refine swp_ret ?_
  replace h := Option.some.inj h
  subst h
  exact q_fr (fin1 (by kernel_rfl) (finV rfl SV.flat_of (holds_t (by kernel_rfl))))
theorem ents59 : Ents Tryd.prog 59 := ents_of Tryd.func59 (by kernel_rfl) rfl
noncomputable def spec_TextOf (aLog : (List Op)) (aKey : ByteArray) : Option (ByteArray × Int) :=
  ((spec_IsLog aLog).bind fun x1 => (bif (!x1) then some ((ByteArray.mk #[]), 1) else ((spec_l32Text aLog aKey).bind fun x2 => (bif (x2.toList == (ByteArray.mk #[]).toList) then some ((ByteArray.mk #[]), 4) else some (x2, 0)))))
set_option maxRecDepth 100000 in
set_option maxHeartbeats 4000000 in
theorem spec_TextOf_run (aLog : (List Op)) (aKey : ByteArray) (r : ByteArray × Int) (h : spec_TextOf aLog aKey = some r) : SCall Tryd.prog 28 [.v (vl eOp aLog), .v (vs aKey)] ⟨[.v (vs r.1), .v (vi r.2)], [], false⟩ := by
  refine scall_in Tryd.func28 rfl [(.tmp 4), (.tmp 5)] rfl (fun r => ⟨[.v (vs r.1), .v (vi r.2)], [], false⟩) (r := r) ?_
  unfold spec_TextOf at h
  refine swp_seq ?_
  refine swp_reg ?_
  refine SRun.ck tbok 2 ⟨16, [(0, vl eOp aLog), (1, vs aKey)], []⟩ ?_
  refine SRun.nil ?_
  refine nx_n ?_
  refine swp_seq ?_
  refine swp_seq ?_
  refine swp_reg ?_
  refine SRun.ck tbok 1 ⟨16, [(0, vl eOp aLog), (1, vs aKey), (7, vl eOp aLog)], []⟩ ?_
  obtain ⟨x1, hx1, h⟩ := bind_some h
  refine SRun.ls (x_lstep_call (f := 13) (caps := []) (xs := [vl eOp aLog]) (ys := [vl eOp aLog]) (res := ⟨[.v (vb x1)], [], false⟩) (x := vb x1) (y := none) rfl ents13 (spec_IsLog_run aLog _ hx1) rfl (by intro hc; cases hc)) ?_
  refine SRun.ck tbok 1 ⟨16, [(0, vl eOp aLog), (1, vs aKey), (9, vb (!x1))], []⟩ ?_
  refine SRun.nil ?_
  refine nx_n ?_
  refine swp_cond (b := (!x1)) (by kernel_rfl) (fun hb => ?_) (fun hb => ?_)
  replace h := cond_t hb h
  refine swp_seq ?_
  refine swp_reg ?_
  refine SRun.ck tbok 2 ⟨16, [(4, vs (ByteArray.mk #[])), (5, vi 1)], []⟩ ?_
  refine SRun.nil ?_
  refine nx_n ?_
  refine swp_ret ?_
  replace h := Option.some.inj h
  subst h
  exact nx_r (q_fr (fin2 (by kernel_rfl) (finV rfl SV.flat_of (holds_t (by kernel_rfl))) (finV rfl SV.flat_of (holds_t (by kernel_rfl)))))
  replace h := cond_f hb h
  refine swp_skip ?_
  refine nx_n ?_
  refine swp_seq ?_
  refine swp_reg ?_
  refine SRun.ck tbok 2 ⟨16, [(10, vl eOp aLog), (11, vs aKey)], []⟩ ?_
  obtain ⟨x2, hx2, h⟩ := bind_some h
  refine SRun.ls (x_lstep_call (f := 59) (caps := []) (xs := [vl eOp aLog, vs aKey]) (ys := [vl eOp aLog, vs aKey]) (res := ⟨[.v (vs x2)], [], false⟩) (x := vs x2) (y := none) rfl ents59 (spec_l32Text_run aLog aKey _ hx2) rfl (by intro hc; cases hc)) ?_
  refine SRun.ck tbok 1 ⟨16, [(6, vs x2)], []⟩ ?_
  refine SRun.nil ?_
  refine nx_n ?_
  refine swp_seq ?_
  refine swp_seq ?_
  refine swp_reg ?_
  refine SRun.ck tbok 2 ⟨16, [(6, vs x2), (14, vb (x2.toList == (ByteArray.mk #[]).toList))], []⟩ ?_
  refine SRun.nil ?_
  refine nx_n ?_
  refine swp_cond (b := (x2.toList == (ByteArray.mk #[]).toList)) (by kernel_rfl) (fun hb => ?_) (fun hb => ?_)
  replace h := cond_t hb h
  refine swp_seq ?_
  refine swp_reg ?_
  refine SRun.ck tbok 2 ⟨16, [(4, vs (ByteArray.mk #[])), (5, vi 4)], []⟩ ?_
  refine SRun.nil ?_
  refine nx_n ?_
  refine swp_ret ?_
  replace h := Option.some.inj h
  subst h
  exact nx_r (q_fr (fin2 (by kernel_rfl) (finV rfl SV.flat_of (holds_t (by kernel_rfl))) (finV rfl SV.flat_of (holds_t (by kernel_rfl)))))
  replace h := cond_f hb h
  refine swp_skip ?_
  refine nx_n ?_
  refine swp_seq ?_
  refine swp_reg ?_
  refine SRun.ck tbok 3 ⟨16, [(4, vs x2), (5, vi 0)], []⟩ ?_
  refine SRun.nil ?_
  refine nx_n ?_
  refine swp_ret ?_
  replace h := Option.some.inj h
  subst h
  exact q_fr (fin2 (by kernel_rfl) (finV rfl SV.flat_of (holds_t (by kernel_rfl))) (finV rfl SV.flat_of (holds_t (by kernel_rfl))))
theorem ents28 : Ents Tryd.prog 28 := ents_of Tryd.func28 (by kernel_rfl) rfl
noncomputable def spec_DrawAtOnce (aCode : (List Int)) : Option ((List Op) × Int × Int) :=
  ((spec_l01From aCode).bind fun x1 => ((spec_l32Draw x1).bind fun x2 => ((spec_l01Next x2.2 (maxI 1 (x2.1.length : Int))).bind fun x3 => ((spec_l01Next x3.2 24).bind fun x4 => ((spec_l01Next x4.2 (w64 ((x2.1.length : Int) + 1))).bind fun x5 => some (x2.1, (w64 (x3.1 - (w64 (Int.tdiv x4.1 23)))), x5.1))))))
set_option maxRecDepth 100000 in
set_option maxHeartbeats 4000000 in
theorem spec_DrawAtOnce_run (aCode : (List Int)) (r : (List Op) × Int × Int) (h : spec_DrawAtOnce aCode = some r) : SCall Tryd.prog 40 [.v (vl (eI .u8) aCode)] ⟨[.v (vl eOp r.1), .v (vi r.2.1), .v (vi r.2.2)], [], true⟩ := by
  refine scall_in Tryd.func40 rfl [(.tmp 2), (.tmp 3), (.tmp 4)] rfl (fun r => ⟨[.v (vl eOp r.1), .v (vi r.2.1), .v (vi r.2.2)], [], true⟩) (r := r) ?_
  unfold spec_DrawAtOnce at h
  refine swp_seq ?_
  refine swp_reg ?_
  refine SRun.ck tbok 3 ⟨28, [(0, vl (eI .u8) aCode)], []⟩ ?_
  refine SRun.nil ?_
  refine nx_n ?_
  refine swp_seq ?_
  refine swp_reg ?_
  refine SRun.ck tbok 1 ⟨28, [(8, vl (eI .u8) aCode)], []⟩ ?_
  obtain ⟨x1, hx1, h⟩ := bind_some h
  refine SRun.ls (x_lstep_call (f := 71) (caps := []) (xs := [vl (eI .u8) aCode]) (ys := [vl (eI .u8) aCode]) (res := ⟨[.box [vl (eI .u8) x1.code, vi x1.at', vi x1.seed]], [], true⟩) (x := .ref 9 0) (y := some (.box [vl (eI .u8) x1.code, vi x1.at', vi x1.seed])) rfl ents71 (spec_l01From_run aCode _ hx1) rfl (fun _ => rfl)) ?_
  refine SRun.ck tbok 1 ⟨28, [(5, .ref 9 0)], [(9, .box [vl (eI .u8) x1.code, vi x1.at', vi x1.seed])]⟩ ?_
  refine SRun.nil ?_
  refine nx_n ?_
  refine swp_seq ?_
  refine swp_reg ?_
  refine SRun.ck tbok 1 ⟨28, [(5, .ref 9 0), (10, .ref 9 0)], [(9, .box [vl (eI .u8) x1.code, vi x1.at', vi x1.seed])]⟩ ?_
  obtain ⟨x2, hx2, h⟩ := bind_some h
  refine SRun.estep (x_estep_call (f := 72) (caps := []) (xs := [.ref 9 0]) (pre := []) (post := []) (qs := []) (z := .ref 9 0) (d := 9) (pl := 0) (y := .box [vl (eI .u8) x1.code, vi x1.at', vi x1.seed]) (y' := .box [vl (eI .u8) x2.2.code, vi x2.2.at', vi x2.2.seed]) (res := ⟨[.v (vl eOp x2.1)], [(0, .box [vl (eI .u8) x2.2.code, vi x2.2.at', vi x2.2.seed])], true⟩) (x := vl eOp x2.1) (yo := none) rfl rfl rfl rfl rfl ents72 (spec_l32Draw_run x1 _ hx2) rfl rfl false (fun _ => rfl) (by intro hc; cases hc)) ?_
  refine SRun.ck tbok 1 ⟨28, [(5, .ref 9 0), (6, vl eOp x2.1)], [(9, .box [vl (eI .u8) x2.2.code, vi x2.2.at', vi x2.2.seed])]⟩ ?_
  refine SRun.nil ?_
  refine nx_n ?_
  refine swp_seq ?_
  refine swp_reg ?_
  refine SRun.ck tbok 4 ⟨28, [(5, .ref 9 0), (6, vl eOp x2.1), (12, .ref 9 0), (15, vi (maxI 1 (x2.1.length : Int)))], [(9, .box [vl (eI .u8) x2.2.code, vi x2.2.at', vi x2.2.seed])]⟩ ?_
  obtain ⟨x3, hx3, h⟩ := bind_some h
  refine SRun.estep (x_estep_call (f := 77) (caps := []) (xs := [.ref 9 0, vi (maxI 1 (x2.1.length : Int))]) (pre := []) (post := [vi (maxI 1 (x2.1.length : Int))]) (qs := [vi (maxI 1 (x2.1.length : Int))]) (z := .ref 9 0) (d := 9) (pl := 0) (y := .box [vl (eI .u8) x2.2.code, vi x2.2.at', vi x2.2.seed]) (y' := .box [vl (eI .u8) x3.2.code, vi x3.2.at', vi x3.2.seed]) (res := ⟨[.v (vi x3.1)], [(0, .box [vl (eI .u8) x3.2.code, vi x3.2.at', vi x3.2.seed])], false⟩) (x := vi x3.1) (yo := none) rfl rfl rfl rfl rfl ents77 (spec_l01Next_run x2.2 (maxI 1 (x2.1.length : Int)) _ hx3) rfl rfl false (fun _ => rfl) (by intro hc; cases hc)) ?_
  refine SRun.ck tbok 1 ⟨28, [(5, .ref 9 0), (6, vl eOp x2.1), (16, vi x3.1), (17, .ref 9 0)], [(9, .box [vl (eI .u8) x3.2.code, vi x3.2.at', vi x3.2.seed])]⟩ ?_
  obtain ⟨x4, hx4, h⟩ := bind_some h
  refine SRun.estep (x_estep_call (f := 77) (caps := []) (xs := [.ref 9 0, vi 24]) (pre := []) (post := [vi 24]) (qs := [vi 24]) (z := .ref 9 0) (d := 9) (pl := 0) (y := .box [vl (eI .u8) x3.2.code, vi x3.2.at', vi x3.2.seed]) (y' := .box [vl (eI .u8) x4.2.code, vi x4.2.at', vi x4.2.seed]) (res := ⟨[.v (vi x4.1)], [(0, .box [vl (eI .u8) x4.2.code, vi x4.2.at', vi x4.2.seed])], false⟩) (x := vi x4.1) (yo := none) rfl rfl rfl rfl rfl ents77 (spec_l01Next_run x3.2 24 _ hx4) rfl rfl false (fun _ => rfl) (by intro hc; cases hc)) ?_
  refine SRun.ck tbok 3 ⟨28, [(5, .ref 9 0), (6, vl eOp x2.1), (7, vi (w64 (x3.1 - (w64 (Int.tdiv x4.1 23)))))], [(9, .box [vl (eI .u8) x4.2.code, vi x4.2.at', vi x4.2.seed])]⟩ ?_
  refine SRun.nil ?_
  refine nx_n ?_
  refine swp_seq ?_
  refine swp_reg ?_
  refine SRun.ck tbok 6 ⟨28, [(21, vl eOp x2.1), (22, vi (w64 (x3.1 - (w64 (Int.tdiv x4.1 23))))), (23, .ref 9 0), (26, vi (w64 ((x2.1.length : Int) + 1)))], [(9, .box [vl (eI .u8) x4.2.code, vi x4.2.at', vi x4.2.seed])]⟩ ?_
  obtain ⟨x5, hx5, h⟩ := bind_some h
  refine SRun.estep (x_estep_call (f := 77) (caps := []) (xs := [.ref 9 0, vi (w64 ((x2.1.length : Int) + 1))]) (pre := []) (post := [vi (w64 ((x2.1.length : Int) + 1))]) (qs := [vi (w64 ((x2.1.length : Int) + 1))]) (z := .ref 9 0) (d := 9) (pl := 0) (y := .box [vl (eI .u8) x4.2.code, vi x4.2.at', vi x4.2.seed]) (y' := .box [vl (eI .u8) x5.2.code, vi x5.2.at', vi x5.2.seed]) (res := ⟨[.v (vi x5.1)], [(0, .box [vl (eI .u8) x5.2.code, vi x5.2.at', vi x5.2.seed])], false⟩) (x := vi x5.1) (yo := none) rfl rfl rfl rfl rfl ents77 (spec_l01Next_run x4.2 (w64 ((x2.1.length : Int) + 1)) _ hx5) rfl rfl false (fun _ => rfl) (by intro hc; cases hc)) ?_
  refine SRun.ck tbok 3 ⟨28, [(2, vl eOp x2.1), (3, vi (w64 (x3.1 - (w64 (Int.tdiv x4.1 23))))), (4, vi x5.1)], []⟩ ?_
  refine SRun.nil ?_
  refine nx_n ?_
  refine swp_ret ?_
  replace h := Option.some.inj h
  subst h
  exact q_fr (fin3 (by kernel_rfl) (finT rfl (holds_t (by kernel_rfl))) (finT rfl (holds_t (by kernel_rfl))) (finT rfl (holds_t (by kernel_rfl))))
theorem ents40 : Ents Tryd.prog 40 := ents_of Tryd.func40 (by kernel_rfl) rfl
noncomputable def impl_length_Op (aList : (List Op)) : Option (Int) :=
  some (aList.length : Int)
set_option maxRecDepth 100000 in
set_option maxHeartbeats 4000000 in
theorem impl_length_Op_run (aList : (List Op)) (r : Int) (h : impl_length_Op aList = some r) : SCall Tryd.prog 54 [.v (vl eOp aList)] ⟨[.v (vi r)], [], false⟩ := by
  refine scall_in Tryd.func54 rfl [(.tmp 2)] rfl (fun r => ⟨[.v (vi r)], [], false⟩) (r := r) ?_
  unfold impl_length_Op at h
  refine swp_seq ?_
  refine swp_reg ?_
  refine SRun.ck tbok 1 ⟨5, [(0, vl eOp aList)], []⟩ ?_
  refine SRun.nil ?_
  refine nx_n ?_
  refine swp_seq ?_
  refine swp_reg ?_
  refine SRun.ck tbok 3 ⟨5, [(2, vi (aList.length : Int))], []⟩ ?_
  refine SRun.nil ?_
  refine nx_n ?_
  refine swp_ret ?_
  replace h := Option.some.inj h
  subst h
  exact q_fr (fin1 (by kernel_rfl) (finV rfl SV.flat_of (holds_t (by kernel_rfl))))
theorem ents54 : Ents Tryd.prog 54 := ents_of Tryd.func54 (by kernel_rfl) rfl
noncomputable def impl_areWithin (aList : (List Int)) (aLow : Int) (aHigh : Int) : Option (Bool) :=
  (((forN (aList.length : Int) (fun (i3 : Int) (_ : Unit) => ((at' aList i3).bind fun x7 => ((impl_within x7 aLow aHigh).bind fun x8 => (bif (!x8) then some (.inr (.inr false)) else some (.inl ()))))) (fun (_ : Unit) => .inl ()) 0 ())).bind (Sum.elim (fun (_ : Unit) => some true) some))
set_option maxRecDepth 100000 in
set_option maxHeartbeats 4000000 in
theorem impl_areWithin_run (aList : (List Int)) (aLow : Int) (aHigh : Int) (r : Bool) (h : impl_areWithin aList aLow aHigh = some r) : SCall Tryd.prog 53 [.v (vl (eI .i64) aList), .v (vi aLow), .v (vi aHigh)] ⟨[.v (vb r)], [], false⟩ := by
  refine scall_in Tryd.func53 rfl [(.tmp 6)] rfl (fun r => ⟨[.v (vb r)], [], false⟩) (r := r) ?_
  unfold impl_areWithin at h
  refine swp_seq ?_
  refine swp_reg ?_
  refine SRun.ck tbok 1 ⟨21, [(0, vl (eI .i64) aList), (1, vi aLow), (2, vi aHigh)], []⟩ ?_
  refine SRun.nil ?_
  refine nx_n ?_
  refine swp_seq ?_
  refine swp_seq ?_
  refine swp_reg ?_
  refine SRun.ck tbok 3 ⟨21, [(1, vi aLow), (2, vi aHigh), (9, vl (eI .i64) aList), (10, vi (aList.length : Int)), (11, vi 0)], []⟩ ?_
  refine SRun.nil ?_
  refine nx_n ?_
  refine swp_seqE (r := r) h (fun j1 => ⟨21, [], []⟩) (fun v2 h => ?_) (fun j1 h => ?_)
  refine swp_blk (a := v2) ?_
  refine swp_lpL (r := v2) (s := (0, ())) _ (fun s3 => ⟨21, [(1, vi aLow), (2, vi aHigh), (9, vl (eI .i64) aList), (10, vi (aList.length : Int)), (11, vi s3.1)], []⟩) _ (Le.sub0) h (fun s3 v4 h => ?_)
  refine swp_seq ?_
  refine swp_reg ?_
  refine SRun.ck tbok 1 ⟨21, [(1, vi aLow), (2, vi aHigh), (9, vl (eI .i64) aList), (10, vi (aList.length : Int)), (11, vi s3.1), (12, vb (decide (s3.1 < (aList.length : Int))))], []⟩ ?_
  refine SRun.nil ?_
  refine nx_n ?_
  refine swp_seq ?_
  refine swp_cond (b := (decide (s3.1 < (aList.length : Int)))) (by kernel_rfl) (fun hb => ?_) (fun hb => ?_)
  replace h := cond_t hb h
  refine swp_skip ?_
  refine nx_n ?_
  refine swp_seq ?_
  refine swp_seqL (r := v4) h (fun j5 => ⟨21, [(1, vi aLow), (2, vi aHigh), (9, vl (eI .i64) aList), (10, vi (aList.length : Int)), (11, vi s3.1)], []⟩) (fun v6 h => ?_) (fun j5 h => ?_)
  refine swp_blk (a := v6) ?_
  refine swp_seq ?_
  refine swp_reg ?_
  obtain ⟨x7, hx7, h⟩ := bind_some h
  refine SRun.ls (x_index (L := aList) (f := (eI .i64)) (ti := ti32) (tj := ti2) (e := 2) (k := .i64) tbok rfl hx7) ?_
  refine SRun.ck tbok 2 ⟨21, [(1, vi aLow), (2, vi aHigh), (8, vi x7), (9, vl (eI .i64) aList), (10, vi (aList.length : Int)), (11, vi s3.1)], []⟩ ?_
  refine SRun.nil ?_
  refine nx_n ?_
  refine swp_seq ?_
  refine swp_reg ?_
  refine SRun.ck tbok 3 ⟨21, [(1, vi aLow), (2, vi aHigh), (9, vl (eI .i64) aList), (10, vi (aList.length : Int)), (11, vi s3.1), (15, vi x7), (16, vi aLow), (17, vi aHigh)], []⟩ ?_
  obtain ⟨x8, hx8, h⟩ := bind_some h
  refine SRun.ls (x_lstep_call (f := 64) (caps := []) (xs := [vi x7, vi aLow, vi aHigh]) (ys := [vi x7, vi aLow, vi aHigh]) (res := ⟨[.v (vb x8)], [], false⟩) (x := vb x8) (y := none) rfl ents64 (impl_within_run x7 aLow aHigh _ hx8) rfl (by intro hc; cases hc)) ?_
  refine SRun.ck tbok 1 ⟨21, [(1, vi aLow), (2, vi aHigh), (9, vl (eI .i64) aList), (10, vi (aList.length : Int)), (11, vi s3.1), (19, vb (!x8))], []⟩ ?_
  refine SRun.nil ?_
  refine nx_n ?_
  refine swp_cond (b := (!x8)) (by kernel_rfl) (fun hb => ?_) (fun hb => ?_)
  replace h := cond_t hb h
  refine swp_seq ?_
  refine swp_reg ?_
  refine SRun.ck tbok 1 ⟨21, [(6, vb false)], []⟩ ?_
  refine SRun.nil ?_
  refine nx_n ?_
  refine swp_ret ?_
  replace h := Option.some.inj h
  subst h
  exact q_br (q_rr (q_rr (q_br (q_rr (q_fr (fin1 (by kernel_rfl) (finV rfl SV.flat_of (holds_t (by kernel_rfl)))))))))
  replace h := cond_f hb h
  refine swp_skip ?_
  replace h := Option.some.inj h
  subst h
  exact q_bn (q_l (Le.sub0))
  refine swp_reg ?_
  refine SRun.ck tbok 2 ⟨21, [(1, vi aLow), (2, vi aHigh), (9, vl (eI .i64) aList), (10, vi (aList.length : Int)), (11, vi (w64 (s3.1 + 1)))], []⟩ ?_
  refine SRun.nil ?_
  replace h := Option.some.inj h
  subst h
  exact q_l (Le.sub0)
  replace h := cond_f hb h
  refine swp_exit ?_
  replace h := Option.some.inj h
  subst h
  exact nx_e (q_re (q_bh (q_l (Le.sub0))))
  refine swp_seq ?_
  refine swp_reg ?_
  refine SRun.ck tbok 1 ⟨21, [(6, vb true)], []⟩ ?_
  refine SRun.nil ?_
  refine nx_n ?_
  refine swp_ret ?_
  replace h := Option.some.inj h
  subst h
  exact q_fr (fin1 (by kernel_rfl) (finV rfl SV.flat_of (holds_t (by kernel_rfl))))
theorem ents53 : Ents Tryd.prog 53 := ents_of Tryd.func53 (by kernel_rfl) rfl
noncomputable def impl_AtOnce (aLog : (List Op)) (aA : Int) (aB : Int) : Option (Bool × Int) :=
  ((((impl_IsLog aLog).bind fun x3 => (bif (!x3) then some (.inr (false, 1)) else ((((impl_length_Op aLog).bind fun x4 => ((impl_areWithin ([aA, aB] : List Int) 0 (w64 (x4 - 1))).bind fun x5 => (bif (!x5) then some true else some (aA == aB))))).bind fun (j6 : Bool) => (bif j6 then some (.inr (false, 2)) else some (.inl ())))))).bind (Sum.elim (fun (_ : Unit) => ((((at' aLog aA).bind fun x8 => ((at' aLog aB).bind fun x9 => ((impl_Op_knows x8 x9).bind fun x10 => (bif (!x10) then ((at' aLog aB).bind fun x11 => ((at' aLog aA).bind fun x12 => ((impl_Op_knows x11 x12).bind fun x13 => some (!x13)))) else some false))))).bind fun (j14 : Bool) => some (j14, 0))) some))
set_option maxRecDepth 100000 in
set_option maxHeartbeats 4000000 in
theorem impl_AtOnce_run (aLog : (List Op)) (aA : Int) (aB : Int) (r : Bool × Int) (h : impl_AtOnce aLog aA aB = some r) : SCall Tryd.prog 18 [.v (vl eOp aLog), .v (vi aA), .v (vi aB)] ⟨[.v (vb r.1), .v (vi r.2)], [], false⟩ := by
  refine scall_in Tryd.func18 rfl [(.tmp 6), (.tmp 7)] rfl (fun r => ⟨[.v (vb r.1), .v (vi r.2)], [], false⟩) (r := r) ?_
  unfold impl_AtOnce at h
  refine swp_seq ?_
  refine swp_reg ?_
  refine SRun.ck tbok 2 ⟨48, [(0, vl eOp aLog), (1, vi aA), (2, vi aB)], []⟩ ?_
  refine SRun.nil ?_
  refine nx_n ?_
  refine swp_seq ?_
  refine swp_seqE (r := r) h (fun j1 => ⟨48, [(0, vl eOp aLog), (1, vi aA), (2, vi aB)], []⟩) (fun v2 h => ?_) (fun j1 h => ?_)
  refine swp_blk (a := v2) ?_
  refine swp_seq ?_
  refine swp_reg ?_
  refine SRun.ck tbok 1 ⟨48, [(0, vl eOp aLog), (1, vi aA), (2, vi aB), (9, vl eOp aLog)], []⟩ ?_
  obtain ⟨x3, hx3, h⟩ := bind_some h
  refine SRun.ls (x_lstep_call (f := 15) (caps := []) (xs := [vl eOp aLog]) (ys := [vl eOp aLog]) (res := ⟨[.v (vb x3)], [], false⟩) (x := vb x3) (y := none) rfl ents15 (impl_IsLog_run aLog _ hx3) rfl (by intro hc; cases hc)) ?_
  refine SRun.ck tbok 2 ⟨48, [(0, vl eOp aLog), (1, vi aA), (2, vi aB), (8, vb (!x3))], []⟩ ?_
  refine SRun.nil ?_
  refine nx_n ?_
  refine swp_cond (b := (!x3)) (by kernel_rfl) (fun hb => ?_) (fun hb => ?_)
  replace h := cond_t hb h
  refine swp_seq ?_
  refine swp_reg ?_
  refine SRun.ck tbok 2 ⟨48, [(6, vb false), (7, vi 1)], []⟩ ?_
  refine SRun.nil ?_
  refine nx_n ?_
  refine swp_ret ?_
  replace h := Option.some.inj h
  subst h
  exact q_br (q_rr (q_fr (fin2 (by kernel_rfl) (finV rfl SV.flat_of (holds_t (by kernel_rfl))) (finV rfl SV.flat_of (holds_t (by kernel_rfl))))))
  replace h := cond_f hb h
  refine swp_seq ?_
  refine swp_regJ h (fun j6 => ⟨48, [(0, vl eOp aLog), (1, vi aA), (2, vi aB), (12, vb j6)], []⟩) (fun v7 h => ?_) (fun j6 h => ?_)
  refine SRun.ck tbok 4 ⟨48, [(0, vl eOp aLog), (1, vi aA), (2, vi aB), (15, .own 15), (16, vl eOp aLog)], [(15, .arr 2 1 ([aA, aB] : List Int).length (([aA, aB] : List Int).map (eI .i64)))]⟩ ?_
  obtain ⟨x4, hx4, h⟩ := bind_some h
  refine SRun.ls (x_lstep_call (f := 54) (caps := []) (xs := [vl eOp aLog]) (ys := [vl eOp aLog]) (res := ⟨[.v (vi x4)], [], false⟩) (x := vi x4) (y := none) rfl ents54 (impl_length_Op_run aLog _ hx4) rfl (by intro hc; cases hc)) ?_
  refine SRun.ck tbok 1 ⟨48, [(0, vl eOp aLog), (1, vi aA), (2, vi aB), (15, .own 15), (18, vi (w64 (x4 - 1)))], [(15, .arr 2 1 ([aA, aB] : List Int).length (([aA, aB] : List Int).map (eI .i64)))]⟩ ?_
  obtain ⟨x5, hx5, h⟩ := bind_some h
  refine SRun.ls (x_lstep_call (f := 53) (caps := []) (xs := [.own 15, vi 0, vi (w64 (x4 - 1))]) (ys := [vl (eI .i64) ([aA, aB] : List Int), vi 0, vi (w64 (x4 - 1))]) (res := ⟨[.v (vb x5)], [], false⟩) (x := vb x5) (y := none) rfl ents53 (impl_areWithin_run ([aA, aB] : List Int) 0 (w64 (x4 - 1)) _ hx5) rfl (by intro hc; cases hc)) ?_
  refine SRun.ck tbok 2 ⟨48, [(0, vl eOp aLog), (1, vi aA), (2, vi aB), (21, vb (!x5))], []⟩ ?_
  refine SRun.cut [(21, fun b => b)] (b := (!x5)) (by kernel_rfl) (fun hb => ?_) (fun hb => ?_)
  replace h := cond_t hb h
  refine SRun.ck tbok 5 ⟨48, [(0, vl eOp aLog), (1, vi aA), (2, vi aB), (12, vb true)], []⟩ ?_
  refine SRun.nil ?_
  replace h := Option.some.inj h
  subst h
  exact Le.sub0
  replace h := cond_f hb h
  refine SRun.ck tbok 5 ⟨48, [(0, vl eOp aLog), (1, vi aA), (2, vi aB), (12, vb (aA == aB))], []⟩ ?_
  refine SRun.nil ?_
  replace h := Option.some.inj h
  subst h
  exact Le.sub0
  refine swp_cond (b := j6) (by kernel_rfl) (fun hb => ?_) (fun hb => ?_)
  replace h := cond_t hb h
  refine swp_seq ?_
  refine swp_reg ?_
  refine SRun.ck tbok 2 ⟨48, [(6, vb false), (7, vi 2)], []⟩ ?_
  refine SRun.nil ?_
  refine nx_n ?_
  refine swp_ret ?_
  replace h := Option.some.inj h
  subst h
  exact q_br (q_rr (q_fr (fin2 (by kernel_rfl) (finV rfl SV.flat_of (holds_t (by kernel_rfl))) (finV rfl SV.flat_of (holds_t (by kernel_rfl))))))
  replace h := cond_f hb h
  refine swp_skip ?_
  replace h := Option.some.inj h
  subst h
  exact q_bn (q_l (Le.sub0))
  refine swp_seq ?_
  refine swp_drJ mixed h (fun j14 => ⟨48, [(6, vb j14), (7, vi 0)], []⟩) (fun v15 h => ?_) (fun j14 h => ?_)
  refine DGo.chunk' tbok 2 (σ' := ⟨48, [(27, vi aA), (26, vl eOp aLog), (0, vl eOp aLog), (1, vi aA), (2, vi aB)], []⟩) (by kernel_rfl) ?_
  obtain ⟨x8, hx8, h⟩ := bind_some h
  refine DGo.step (x_index (L := aLog) (f := eOp) (ti := ti25) (tj := ti61) (e := 61) (k := .i64) tbok rfl hx8) ?_
  refine DGo.chunk' tbok 3 (σ' := ⟨48, [(31, vi aB), (30, vl eOp aLog), (29, .agg [vi x8.Office, vi x8.Number, vs x8.Key, vs x8.Text, vl (eI .i64) x8.Seen]), (28, .ptr ((eOp x8).map .tr) 0), (27, vi aA), (26, vl eOp aLog), (0, vl eOp aLog), (1, vi aA), (2, vi aB)], []⟩) (by kernel_rfl) ?_
  obtain ⟨x9, hx9, h⟩ := bind_some h
  refine DGo.step (x_index (L := aLog) (f := eOp) (ti := ti25) (tj := ti61) (e := 61) (k := .i64) tbok rfl hx9) ?_
  refine DGo.chunk' tbok 1 (σ' := ⟨48, [(33, .agg [vi x9.Office, vi x9.Number, vs x9.Key, vs x9.Text, vl (eI .i64) x9.Seen]), (32, .ptr ((eOp x9).map .tr) 0), (31, vi aB), (30, vl eOp aLog), (29, .agg [vi x8.Office, vi x8.Number, vs x8.Key, vs x8.Text, vl (eI .i64) x8.Seen]), (28, .ptr ((eOp x8).map .tr) 0), (27, vi aA), (26, vl eOp aLog), (0, vl eOp aLog), (1, vi aA), (2, vi aB)], []⟩) (by kernel_rfl) ?_
  obtain ⟨x10, hx10, h⟩ := bind_some h
  refine DGo.step (x_lstep_call (f := 55) (caps := []) (xs := [.agg [vi x8.Office, vi x8.Number, vs x8.Key, vs x8.Text, vl (eI .i64) x8.Seen], .agg [vi x9.Office, vi x9.Number, vs x9.Key, vs x9.Text, vl (eI .i64) x9.Seen]]) (ys := [.agg [vi x8.Office, vi x8.Number, vs x8.Key, vs x8.Text, vl (eI .i64) x8.Seen], .agg [vi x9.Office, vi x9.Number, vs x9.Key, vs x9.Text, vl (eI .i64) x9.Seen]]) (res := ⟨[.v (vb x10)], [], false⟩) (x := vb x10) (y := none) rfl ents55 (impl_Op_knows_run x8 x9 _ hx10) rfl (by intro hc; cases hc)) ?_
  refine DGo.chunk' tbok 2 (σ' := ⟨48, [(36, vb (!x10)), (35, vb (!x10)), (34, vb x10), (33, .agg [vi x9.Office, vi x9.Number, vs x9.Key, vs x9.Text, vl (eI .i64) x9.Seen]), (32, .ptr ((eOp x9).map .tr) 0), (31, vi aB), (30, vl eOp aLog), (29, .agg [vi x8.Office, vi x8.Number, vs x8.Key, vs x8.Text, vl (eI .i64) x8.Seen]), (28, .ptr ((eOp x8).map .tr) 0), (27, vi aA), (26, vl eOp aLog), (0, vl eOp aLog), (1, vi aA), (2, vi aB)], []⟩) (by kernel_rfl) ?_
  refine DGo.cut [(36, fun b => b), (35, fun b => b)] (b := (!x10)) (by kernel_rfl) (fun hb => ?_) (fun hb => ?_)
  replace h := cond_t hb h
  refine DGo.chunk' tbok 2 (σ' := ⟨48, [(38, vi aB), (37, vl eOp aLog), (36, vb true), (35, vb true), (34, vb x10), (33, .agg [vi x9.Office, vi x9.Number, vs x9.Key, vs x9.Text, vl (eI .i64) x9.Seen]), (32, .ptr ((eOp x9).map .tr) 0), (31, vi aB), (30, vl eOp aLog), (29, .agg [vi x8.Office, vi x8.Number, vs x8.Key, vs x8.Text, vl (eI .i64) x8.Seen]), (28, .ptr ((eOp x8).map .tr) 0), (27, vi aA), (26, vl eOp aLog), (0, vl eOp aLog), (1, vi aA), (2, vi aB)], []⟩) (by kernel_rfl) ?_
  obtain ⟨x11, hx11, h⟩ := bind_some h
  refine DGo.step (x_index (L := aLog) (f := eOp) (ti := ti25) (tj := ti61) (e := 61) (k := .i64) tbok rfl hx11) ?_
  refine DGo.chunk' tbok 3 (σ' := ⟨48, [(42, vi aA), (41, vl eOp aLog), (40, .agg [vi x11.Office, vi x11.Number, vs x11.Key, vs x11.Text, vl (eI .i64) x11.Seen]), (39, .ptr ((eOp x11).map .tr) 0), (38, vi aB), (37, vl eOp aLog), (36, vb true), (35, vb true), (34, vb x10), (33, .agg [vi x9.Office, vi x9.Number, vs x9.Key, vs x9.Text, vl (eI .i64) x9.Seen]), (32, .ptr ((eOp x9).map .tr) 0), (31, vi aB), (30, vl eOp aLog), (29, .agg [vi x8.Office, vi x8.Number, vs x8.Key, vs x8.Text, vl (eI .i64) x8.Seen]), (28, .ptr ((eOp x8).map .tr) 0), (27, vi aA), (26, vl eOp aLog), (0, vl eOp aLog), (1, vi aA), (2, vi aB)], []⟩) (by kernel_rfl) ?_
  obtain ⟨x12, hx12, h⟩ := bind_some h
  refine DGo.step (x_index (L := aLog) (f := eOp) (ti := ti25) (tj := ti61) (e := 61) (k := .i64) tbok rfl hx12) ?_
  refine DGo.chunk' tbok 1 (σ' := ⟨48, [(44, .agg [vi x12.Office, vi x12.Number, vs x12.Key, vs x12.Text, vl (eI .i64) x12.Seen]), (43, .ptr ((eOp x12).map .tr) 0), (42, vi aA), (41, vl eOp aLog), (40, .agg [vi x11.Office, vi x11.Number, vs x11.Key, vs x11.Text, vl (eI .i64) x11.Seen]), (39, .ptr ((eOp x11).map .tr) 0), (38, vi aB), (37, vl eOp aLog), (36, vb true), (35, vb true), (34, vb x10), (33, .agg [vi x9.Office, vi x9.Number, vs x9.Key, vs x9.Text, vl (eI .i64) x9.Seen]), (32, .ptr ((eOp x9).map .tr) 0), (31, vi aB), (30, vl eOp aLog), (29, .agg [vi x8.Office, vi x8.Number, vs x8.Key, vs x8.Text, vl (eI .i64) x8.Seen]), (28, .ptr ((eOp x8).map .tr) 0), (27, vi aA), (26, vl eOp aLog), (0, vl eOp aLog), (1, vi aA), (2, vi aB)], []⟩) (by kernel_rfl) ?_
  obtain ⟨x13, hx13, h⟩ := bind_some h
  refine DGo.step (x_lstep_call (f := 55) (caps := []) (xs := [.agg [vi x11.Office, vi x11.Number, vs x11.Key, vs x11.Text, vl (eI .i64) x11.Seen], .agg [vi x12.Office, vi x12.Number, vs x12.Key, vs x12.Text, vl (eI .i64) x12.Seen]]) (ys := [.agg [vi x11.Office, vi x11.Number, vs x11.Key, vs x11.Text, vl (eI .i64) x11.Seen], .agg [vi x12.Office, vi x12.Number, vs x12.Key, vs x12.Text, vl (eI .i64) x12.Seen]]) (res := ⟨[.v (vb x13)], [], false⟩) (x := vb x13) (y := none) rfl ents55 (impl_Op_knows_run x11 x12 _ hx13) rfl (by intro hc; cases hc)) ?_
  refine DGo.chunk' tbok 4 (σ' := ⟨48, [(7, vi 0), (6, vb (!x13)), (47, vb (!x13)), (46, vb (!x13)), (45, vb x13), (44, .agg [vi x12.Office, vi x12.Number, vs x12.Key, vs x12.Text, vl (eI .i64) x12.Seen]), (43, .ptr ((eOp x12).map .tr) 0), (42, vi aA), (41, vl eOp aLog), (40, .agg [vi x11.Office, vi x11.Number, vs x11.Key, vs x11.Text, vl (eI .i64) x11.Seen]), (39, .ptr ((eOp x11).map .tr) 0), (38, vi aB), (37, vl eOp aLog), (36, vb true), (35, vb true), (34, vb x10), (33, .agg [vi x9.Office, vi x9.Number, vs x9.Key, vs x9.Text, vl (eI .i64) x9.Seen]), (32, .ptr ((eOp x9).map .tr) 0), (31, vi aB), (30, vl eOp aLog), (29, .agg [vi x8.Office, vi x8.Number, vs x8.Key, vs x8.Text, vl (eI .i64) x8.Seen]), (28, .ptr ((eOp x8).map .tr) 0), (27, vi aA), (26, vl eOp aLog), (0, vl eOp aLog), (1, vi aA), (2, vi aB)], []⟩) (by kernel_rfl) ?_
  refine DGo.nil (by kernel_rfl) ?_
  replace h := Option.some.inj h
  subst h
  exact Le.sub0
  replace h := cond_f hb h
  refine DGo.chunk' tbok 13 (σ' := ⟨48, [(7, vi 0), (6, vb false), (47, vb false), (46, .tup []), (45, .tup []), (44, .tup []), (43, .tup []), (42, .tup []), (41, .tup []), (40, .tup []), (39, .tup []), (38, .tup []), (37, .tup []), (36, vb false), (35, vb false), (34, vb x10), (33, .agg [vi x9.Office, vi x9.Number, vs x9.Key, vs x9.Text, vl (eI .i64) x9.Seen]), (32, .ptr ((eOp x9).map .tr) 0), (31, vi aB), (30, vl eOp aLog), (29, .agg [vi x8.Office, vi x8.Number, vs x8.Key, vs x8.Text, vl (eI .i64) x8.Seen]), (28, .ptr ((eOp x8).map .tr) 0), (27, vi aA), (26, vl eOp aLog), (0, vl eOp aLog), (1, vi aA), (2, vi aB)], []⟩) (by kernel_rfl) ?_
  refine DGo.nil (by kernel_rfl) ?_
  replace h := Option.some.inj h
  subst h
  exact Le.sub0
  refine swp_ret ?_
  replace h := Option.some.inj h
  subst h
  exact q_fr (fin2 (by kernel_rfl) (finV rfl SV.flat_of (holds_t (by kernel_rfl))) (finV rfl SV.flat_of (holds_t (by kernel_rfl))))
theorem ents18 : Ents Tryd.prog 18 := ents_of Tryd.func18 (by kernel_rfl) rfl
noncomputable def spec_AtOnce (aLog : (List Op)) (aA : Int) (aB : Int) : Option (Bool × Int) :=
  ((spec_IsLog aLog).bind fun x1 => (bif (!x1) then some (false, 1) else ((((spec_l01In aA 0 (w64 ((aLog.length : Int) - 1))).bind fun x2 => (bif (!x2) then some true else ((spec_l01In aB 0 (w64 ((aLog.length : Int) - 1))).bind fun x3 => (bif (!x3) then some true else some (aA == aB)))))).bind fun (j4 : Bool) => (bif j4 then some (false, 2) else ((((at' aLog aA).bind fun x6 => ((at' aLog aB).bind fun x7 => ((spec_l32Knows x6 x7).bind fun x8 => (bif (!x8) then ((at' aLog aB).bind fun x9 => ((at' aLog aA).bind fun x10 => ((spec_l32Knows x9 x10).bind fun x11 => some (!x11)))) else some false))))).bind fun (j12 : Bool) => some (j12, 0))))))
set_option maxRecDepth 100000 in
set_option maxHeartbeats 4000000 in
theorem spec_AtOnce_run (aLog : (List Op)) (aA : Int) (aB : Int) (r : Bool × Int) (h : spec_AtOnce aLog aA aB = some r) : SCall Tryd.prog 17 [.v (vl eOp aLog), .v (vi aA), .v (vi aB)] ⟨[.v (vb r.1), .v (vi r.2)], [], false⟩ := by
  refine scall_in Tryd.func17 rfl [(.tmp 6), (.tmp 7)] rfl (fun r => ⟨[.v (vb r.1), .v (vi r.2)], [], false⟩) (r := r) ?_
  unfold spec_AtOnce at h
  refine swp_seq ?_
  refine swp_reg ?_
  refine SRun.ck tbok 2 ⟨52, [(0, vl eOp aLog), (1, vi aA), (2, vi aB)], []⟩ ?_
  refine SRun.nil ?_
  refine nx_n ?_
  refine swp_seq ?_
  refine swp_seq ?_
  refine swp_reg ?_
  refine SRun.ck tbok 1 ⟨52, [(0, vl eOp aLog), (1, vi aA), (2, vi aB), (9, vl eOp aLog)], []⟩ ?_
  obtain ⟨x1, hx1, h⟩ := bind_some h
  refine SRun.ls (x_lstep_call (f := 13) (caps := []) (xs := [vl eOp aLog]) (ys := [vl eOp aLog]) (res := ⟨[.v (vb x1)], [], false⟩) (x := vb x1) (y := none) rfl ents13 (spec_IsLog_run aLog _ hx1) rfl (by intro hc; cases hc)) ?_
  refine SRun.ck tbok 1 ⟨52, [(0, vl eOp aLog), (1, vi aA), (2, vi aB), (11, vb (!x1))], []⟩ ?_
  refine SRun.nil ?_
  refine nx_n ?_
  refine swp_cond (b := (!x1)) (by kernel_rfl) (fun hb => ?_) (fun hb => ?_)
  replace h := cond_t hb h
  refine swp_seq ?_
  refine swp_reg ?_
  refine SRun.ck tbok 2 ⟨52, [(6, vb false), (7, vi 1)], []⟩ ?_
  refine SRun.nil ?_
  refine nx_n ?_
  refine swp_ret ?_
  replace h := Option.some.inj h
  subst h
  exact nx_r (q_fr (fin2 (by kernel_rfl) (finV rfl SV.flat_of (holds_t (by kernel_rfl))) (finV rfl SV.flat_of (holds_t (by kernel_rfl)))))
  replace h := cond_f hb h
  refine swp_skip ?_
  refine nx_n ?_
  refine swp_seq ?_
  refine swp_reg ?_
  refine SRun.ck tbok 4 ⟨52, [(0, vl eOp aLog), (1, vi aA), (2, vi aB), (8, vi (w64 ((aLog.length : Int) - 1)))], []⟩ ?_
  refine SRun.nil ?_
  refine nx_n ?_
  refine swp_seq ?_
  refine swp_seq ?_
  refine swp_regJ h (fun j4 => ⟨52, [(0, vl eOp aLog), (1, vi aA), (2, vi aB), (29, vb j4)], []⟩) (fun v5 h => ?_) (fun j4 h => ?_)
  refine SRun.ck tbok 2 ⟨52, [(0, vl eOp aLog), (1, vi aA), (2, vi aB), (8, vi (w64 ((aLog.length : Int) - 1))), (15, vi aA), (16, vi (w64 ((aLog.length : Int) - 1)))], []⟩ ?_
  obtain ⟨x2, hx2, h⟩ := bind_some h
  refine SRun.ls (x_lstep_call (f := 44) (caps := []) (xs := [vi aA, vi 0, vi (w64 ((aLog.length : Int) - 1))]) (ys := [vi aA, vi 0, vi (w64 ((aLog.length : Int) - 1))]) (res := ⟨[.v (vb x2)], [], false⟩) (x := vb x2) (y := none) rfl ents44 (spec_l01In_run aA 0 (w64 ((aLog.length : Int) - 1)) _ hx2) rfl (by intro hc; cases hc)) ?_
  refine SRun.ck tbok 2 ⟨52, [(0, vl eOp aLog), (1, vi aA), (2, vi aB), (8, vi (w64 ((aLog.length : Int) - 1))), (19, vb (!x2))], []⟩ ?_
  refine SRun.cut [(19, fun b => b)] (b := (!x2)) (by kernel_rfl) (fun hb => ?_) (fun hb => ?_)
  replace h := cond_t hb h
  refine SRun.ck tbok 10 ⟨52, [(0, vl eOp aLog), (1, vi aA), (2, vi aB), (29, vb true)], []⟩ ?_
  refine SRun.nil ?_
  replace h := Option.some.inj h
  subst h
  exact Le.sub0
  replace h := cond_f hb h
  refine SRun.ck tbok 2 ⟨52, [(0, vl eOp aLog), (1, vi aA), (2, vi aB), (19, vb false), (20, vi aB), (21, vi (w64 ((aLog.length : Int) - 1)))], []⟩ ?_
  obtain ⟨x3, hx3, h⟩ := bind_some h
  refine SRun.ls (x_lstep_call (f := 44) (caps := []) (xs := [vi aB, vi 0, vi (w64 ((aLog.length : Int) - 1))]) (ys := [vi aB, vi 0, vi (w64 ((aLog.length : Int) - 1))]) (res := ⟨[.v (vb x3)], [], false⟩) (x := vb x3) (y := none) rfl ents44 (spec_l01In_run aB 0 (w64 ((aLog.length : Int) - 1)) _ hx3) rfl (by intro hc; cases hc)) ?_
  refine SRun.ck tbok 3 ⟨52, [(0, vl eOp aLog), (1, vi aA), (2, vi aB), (25, vb (!x3))], []⟩ ?_
  refine SRun.cut [(25, fun b => b)] (b := (!x3)) (by kernel_rfl) (fun hb => ?_) (fun hb => ?_)
  replace h := cond_t hb h
  refine SRun.ck tbok 4 ⟨52, [(0, vl eOp aLog), (1, vi aA), (2, vi aB), (29, vb true)], []⟩ ?_
  refine SRun.nil ?_
  replace h := Option.some.inj h
  subst h
  exact Le.sub0
  replace h := cond_f hb h
  refine SRun.ck tbok 4 ⟨52, [(0, vl eOp aLog), (1, vi aA), (2, vi aB), (29, vb (aA == aB))], []⟩ ?_
  refine SRun.nil ?_
  replace h := Option.some.inj h
  subst h
  exact Le.sub0
  refine swp_cond (b := j4) (by kernel_rfl) (fun hb => ?_) (fun hb => ?_)
  replace h := cond_t hb h
  refine swp_seq ?_
  refine swp_reg ?_
  refine SRun.ck tbok 2 ⟨52, [(6, vb false), (7, vi 2)], []⟩ ?_
  refine SRun.nil ?_
  refine nx_n ?_
  refine swp_ret ?_
  replace h := Option.some.inj h
  subst h
  exact nx_r (q_fr (fin2 (by kernel_rfl) (finV rfl SV.flat_of (holds_t (by kernel_rfl))) (finV rfl SV.flat_of (holds_t (by kernel_rfl)))))
  replace h := cond_f hb h
  refine swp_skip ?_
  refine nx_n ?_
  refine swp_seq ?_
  refine swp_drJ mixed h (fun j12 => ⟨52, [(6, vb j12), (7, vi 0)], []⟩) (fun v13 h => ?_) (fun j12 h => ?_)
  refine DGo.chunk' tbok 2 (σ' := ⟨52, [(31, vi aA), (30, vl eOp aLog), (0, vl eOp aLog), (1, vi aA), (2, vi aB), (29, vb j4)], []⟩) (by kernel_rfl) ?_
  obtain ⟨x6, hx6, h⟩ := bind_some h
  refine DGo.step (x_index (L := aLog) (f := eOp) (ti := ti25) (tj := ti61) (e := 61) (k := .i64) tbok rfl hx6) ?_
  refine DGo.chunk' tbok 3 (σ' := ⟨52, [(35, vi aB), (34, vl eOp aLog), (33, .agg [vi x6.Office, vi x6.Number, vs x6.Key, vs x6.Text, vl (eI .i64) x6.Seen]), (32, .ptr ((eOp x6).map .tr) 0), (31, vi aA), (30, vl eOp aLog), (0, vl eOp aLog), (1, vi aA), (2, vi aB), (29, vb j4)], []⟩) (by kernel_rfl) ?_
  obtain ⟨x7, hx7, h⟩ := bind_some h
  refine DGo.step (x_index (L := aLog) (f := eOp) (ti := ti25) (tj := ti61) (e := 61) (k := .i64) tbok rfl hx7) ?_
  refine DGo.chunk' tbok 1 (σ' := ⟨52, [(37, .agg [vi x7.Office, vi x7.Number, vs x7.Key, vs x7.Text, vl (eI .i64) x7.Seen]), (36, .ptr ((eOp x7).map .tr) 0), (35, vi aB), (34, vl eOp aLog), (33, .agg [vi x6.Office, vi x6.Number, vs x6.Key, vs x6.Text, vl (eI .i64) x6.Seen]), (32, .ptr ((eOp x6).map .tr) 0), (31, vi aA), (30, vl eOp aLog), (0, vl eOp aLog), (1, vi aA), (2, vi aB), (29, vb j4)], []⟩) (by kernel_rfl) ?_
  obtain ⟨x8, hx8, h⟩ := bind_some h
  refine DGo.step (x_lstep_call (f := 52) (caps := []) (xs := [.agg [vi x6.Office, vi x6.Number, vs x6.Key, vs x6.Text, vl (eI .i64) x6.Seen], .agg [vi x7.Office, vi x7.Number, vs x7.Key, vs x7.Text, vl (eI .i64) x7.Seen]]) (ys := [.agg [vi x6.Office, vi x6.Number, vs x6.Key, vs x6.Text, vl (eI .i64) x6.Seen], .agg [vi x7.Office, vi x7.Number, vs x7.Key, vs x7.Text, vl (eI .i64) x7.Seen]]) (res := ⟨[.v (vb x8)], [], false⟩) (x := vb x8) (y := none) rfl ents52 (spec_l32Knows_run x6 x7 _ hx8) rfl (by intro hc; cases hc)) ?_
  refine DGo.chunk' tbok 2 (σ' := ⟨52, [(40, vb (!x8)), (39, vb (!x8)), (38, vb x8), (37, .agg [vi x7.Office, vi x7.Number, vs x7.Key, vs x7.Text, vl (eI .i64) x7.Seen]), (36, .ptr ((eOp x7).map .tr) 0), (35, vi aB), (34, vl eOp aLog), (33, .agg [vi x6.Office, vi x6.Number, vs x6.Key, vs x6.Text, vl (eI .i64) x6.Seen]), (32, .ptr ((eOp x6).map .tr) 0), (31, vi aA), (30, vl eOp aLog), (0, vl eOp aLog), (1, vi aA), (2, vi aB), (29, vb j4)], []⟩) (by kernel_rfl) ?_
  refine DGo.cut [(40, fun b => b), (39, fun b => b)] (b := (!x8)) (by kernel_rfl) (fun hb => ?_) (fun hb => ?_)
  replace h := cond_t hb h
  refine DGo.chunk' tbok 2 (σ' := ⟨52, [(42, vi aB), (41, vl eOp aLog), (40, vb true), (39, vb true), (38, vb x8), (37, .agg [vi x7.Office, vi x7.Number, vs x7.Key, vs x7.Text, vl (eI .i64) x7.Seen]), (36, .ptr ((eOp x7).map .tr) 0), (35, vi aB), (34, vl eOp aLog), (33, .agg [vi x6.Office, vi x6.Number, vs x6.Key, vs x6.Text, vl (eI .i64) x6.Seen]), (32, .ptr ((eOp x6).map .tr) 0), (31, vi aA), (30, vl eOp aLog), (0, vl eOp aLog), (1, vi aA), (2, vi aB), (29, vb j4)], []⟩) (by kernel_rfl) ?_
  obtain ⟨x9, hx9, h⟩ := bind_some h
  refine DGo.step (x_index (L := aLog) (f := eOp) (ti := ti25) (tj := ti61) (e := 61) (k := .i64) tbok rfl hx9) ?_
  refine DGo.chunk' tbok 3 (σ' := ⟨52, [(46, vi aA), (45, vl eOp aLog), (44, .agg [vi x9.Office, vi x9.Number, vs x9.Key, vs x9.Text, vl (eI .i64) x9.Seen]), (43, .ptr ((eOp x9).map .tr) 0), (42, vi aB), (41, vl eOp aLog), (40, vb true), (39, vb true), (38, vb x8), (37, .agg [vi x7.Office, vi x7.Number, vs x7.Key, vs x7.Text, vl (eI .i64) x7.Seen]), (36, .ptr ((eOp x7).map .tr) 0), (35, vi aB), (34, vl eOp aLog), (33, .agg [vi x6.Office, vi x6.Number, vs x6.Key, vs x6.Text, vl (eI .i64) x6.Seen]), (32, .ptr ((eOp x6).map .tr) 0), (31, vi aA), (30, vl eOp aLog), (0, vl eOp aLog), (1, vi aA), (2, vi aB), (29, vb j4)], []⟩) (by kernel_rfl) ?_
  obtain ⟨x10, hx10, h⟩ := bind_some h
  refine DGo.step (x_index (L := aLog) (f := eOp) (ti := ti25) (tj := ti61) (e := 61) (k := .i64) tbok rfl hx10) ?_
  refine DGo.chunk' tbok 1 (σ' := ⟨52, [(48, .agg [vi x10.Office, vi x10.Number, vs x10.Key, vs x10.Text, vl (eI .i64) x10.Seen]), (47, .ptr ((eOp x10).map .tr) 0), (46, vi aA), (45, vl eOp aLog), (44, .agg [vi x9.Office, vi x9.Number, vs x9.Key, vs x9.Text, vl (eI .i64) x9.Seen]), (43, .ptr ((eOp x9).map .tr) 0), (42, vi aB), (41, vl eOp aLog), (40, vb true), (39, vb true), (38, vb x8), (37, .agg [vi x7.Office, vi x7.Number, vs x7.Key, vs x7.Text, vl (eI .i64) x7.Seen]), (36, .ptr ((eOp x7).map .tr) 0), (35, vi aB), (34, vl eOp aLog), (33, .agg [vi x6.Office, vi x6.Number, vs x6.Key, vs x6.Text, vl (eI .i64) x6.Seen]), (32, .ptr ((eOp x6).map .tr) 0), (31, vi aA), (30, vl eOp aLog), (0, vl eOp aLog), (1, vi aA), (2, vi aB), (29, vb j4)], []⟩) (by kernel_rfl) ?_
  obtain ⟨x11, hx11, h⟩ := bind_some h
  refine DGo.step (x_lstep_call (f := 52) (caps := []) (xs := [.agg [vi x9.Office, vi x9.Number, vs x9.Key, vs x9.Text, vl (eI .i64) x9.Seen], .agg [vi x10.Office, vi x10.Number, vs x10.Key, vs x10.Text, vl (eI .i64) x10.Seen]]) (ys := [.agg [vi x9.Office, vi x9.Number, vs x9.Key, vs x9.Text, vl (eI .i64) x9.Seen], .agg [vi x10.Office, vi x10.Number, vs x10.Key, vs x10.Text, vl (eI .i64) x10.Seen]]) (res := ⟨[.v (vb x11)], [], false⟩) (x := vb x11) (y := none) rfl ents52 (spec_l32Knows_run x9 x10 _ hx11) rfl (by intro hc; cases hc)) ?_
  refine DGo.chunk' tbok 4 (σ' := ⟨52, [(7, vi 0), (6, vb (!x11)), (51, vb (!x11)), (50, vb (!x11)), (49, vb x11), (48, .agg [vi x10.Office, vi x10.Number, vs x10.Key, vs x10.Text, vl (eI .i64) x10.Seen]), (47, .ptr ((eOp x10).map .tr) 0), (46, vi aA), (45, vl eOp aLog), (44, .agg [vi x9.Office, vi x9.Number, vs x9.Key, vs x9.Text, vl (eI .i64) x9.Seen]), (43, .ptr ((eOp x9).map .tr) 0), (42, vi aB), (41, vl eOp aLog), (40, vb true), (39, vb true), (38, vb x8), (37, .agg [vi x7.Office, vi x7.Number, vs x7.Key, vs x7.Text, vl (eI .i64) x7.Seen]), (36, .ptr ((eOp x7).map .tr) 0), (35, vi aB), (34, vl eOp aLog), (33, .agg [vi x6.Office, vi x6.Number, vs x6.Key, vs x6.Text, vl (eI .i64) x6.Seen]), (32, .ptr ((eOp x6).map .tr) 0), (31, vi aA), (30, vl eOp aLog), (0, vl eOp aLog), (1, vi aA), (2, vi aB), (29, vb j4)], []⟩) (by kernel_rfl) ?_
  refine DGo.nil (by kernel_rfl) ?_
  replace h := Option.some.inj h
  subst h
  exact Le.sub0
  replace h := cond_f hb h
  refine DGo.chunk' tbok 13 (σ' := ⟨52, [(7, vi 0), (6, vb false), (51, vb false), (50, .tup []), (49, .tup []), (48, .tup []), (47, .tup []), (46, .tup []), (45, .tup []), (44, .tup []), (43, .tup []), (42, .tup []), (41, .tup []), (40, vb false), (39, vb false), (38, vb x8), (37, .agg [vi x7.Office, vi x7.Number, vs x7.Key, vs x7.Text, vl (eI .i64) x7.Seen]), (36, .ptr ((eOp x7).map .tr) 0), (35, vi aB), (34, vl eOp aLog), (33, .agg [vi x6.Office, vi x6.Number, vs x6.Key, vs x6.Text, vl (eI .i64) x6.Seen]), (32, .ptr ((eOp x6).map .tr) 0), (31, vi aA), (30, vl eOp aLog), (0, vl eOp aLog), (1, vi aA), (2, vi aB), (29, vb j4)], []⟩) (by kernel_rfl) ?_
  refine DGo.nil (by kernel_rfl) ?_
  replace h := Option.some.inj h
  subst h
  exact Le.sub0
  refine swp_ret ?_
  replace h := Option.some.inj h
  subst h
  exact q_fr (fin2 (by kernel_rfl) (finV rfl SV.flat_of (holds_t (by kernel_rfl))) (finV rfl SV.flat_of (holds_t (by kernel_rfl))))
theorem ents17 : Ents Tryd.prog 17 := ents_of Tryd.func17 (by kernel_rfl) rfl
noncomputable def laws_likeInts (aA : (List Int)) (aB : (List Int)) : Option (Bool) :=
  (bif ((aA.length : Int) != (aB.length : Int)) then some false else (((forN (aA.length : Int) (fun (i3 : Int) (_ : Unit) => ((at' aA i3).bind fun x7 => ((at' aB i3).bind fun x8 => (bif (x7 != x8) then some (.inr (.inr false)) else some (.inl ()))))) (fun (_ : Unit) => .inl ()) 0 ())).bind (Sum.elim (fun (_ : Unit) => some true) some)))
set_option maxRecDepth 100000 in
set_option maxHeartbeats 4000000 in
theorem laws_likeInts_run (aA : (List Int)) (aB : (List Int)) (r : Bool) (h : laws_likeInts aA aB = some r) : SCall Tryd.prog 42 [.v (vl (eI .i64) aA), .v (vl (eI .i64) aB)] ⟨[.v (vb r)], [], false⟩ := by
  refine scall_in Tryd.func42 rfl [(.tmp 4)] rfl (fun r => ⟨[.v (vb r)], [], false⟩) (r := r) ?_
  unfold laws_likeInts at h
  refine swp_seq ?_
  refine swp_reg ?_
  refine SRun.ck tbok 1 ⟨26, [(0, vl (eI .i64) aA), (1, vl (eI .i64) aB)], []⟩ ?_
  refine SRun.nil ?_
  refine nx_n ?_
  refine swp_seq ?_
  refine swp_seq ?_
  refine swp_reg ?_
  refine SRun.ck tbok 5 ⟨26, [(0, vl (eI .i64) aA), (1, vl (eI .i64) aB), (10, vb ((aA.length : Int) != (aB.length : Int)))], []⟩ ?_
  refine SRun.nil ?_
  refine nx_n ?_
  refine swp_cond (b := ((aA.length : Int) != (aB.length : Int))) (by kernel_rfl) (fun hb => ?_) (fun hb => ?_)
  replace h := cond_t hb h
  refine swp_seq ?_
  refine swp_reg ?_
  refine SRun.ck tbok 1 ⟨26, [(4, vb false)], []⟩ ?_
  refine SRun.nil ?_
  refine nx_n ?_
  refine swp_ret ?_
  replace h := Option.some.inj h
  subst h
  exact nx_r (q_fr (fin1 (by kernel_rfl) (finV rfl SV.flat_of (holds_t (by kernel_rfl)))))
  replace h := cond_f hb h
  refine swp_skip ?_
  refine nx_n ?_
  refine swp_seq ?_
  refine swp_seq ?_
  refine swp_reg ?_
  refine SRun.ck tbok 1 ⟨26, [(0, vl (eI .i64) aA), (1, vl (eI .i64) aB), (5, vi 0)], []⟩ ?_
  refine SRun.nil ?_
  refine nx_n ?_
  refine swp_seqE (r := r) h (fun j1 => ⟨26, [], []⟩) (fun v2 h => ?_) (fun j1 h => ?_)
  refine swp_blk (a := v2) ?_
  refine swp_lpL (r := v2) (s := (0, ())) _ (fun s3 => ⟨26, [(0, vl (eI .i64) aA), (1, vl (eI .i64) aB), (5, vi s3.1)], []⟩) _ (Le.sub0) h (fun s3 v4 h => ?_)
  refine swp_seq ?_
  refine swp_seq ?_
  refine swp_reg ?_
  refine SRun.ck tbok 4 ⟨26, [(0, vl (eI .i64) aA), (1, vl (eI .i64) aB), (5, vi s3.1), (14, vb (decide (s3.1 < (aA.length : Int))))], []⟩ ?_
  refine SRun.nil ?_
  refine nx_n ?_
  refine swp_cond (b := (decide (s3.1 < (aA.length : Int)))) (by kernel_rfl) (fun hb => ?_) (fun hb => ?_)
  replace h := cond_t hb h
  refine swp_skip ?_
  refine nx_n ?_
  refine swp_seq ?_
  refine swp_seqL (r := v4) h (fun j5 => ⟨26, [(0, vl (eI .i64) aA), (1, vl (eI .i64) aB), (5, vi s3.1)], []⟩) (fun v6 h => ?_) (fun j5 h => ?_)
  refine swp_blk (a := v6) ?_
  refine swp_seq ?_
  refine swp_dr mixed ?_
  refine DGo.chunk' tbok 2 (σ' := ⟨26, [(18, vi s3.1), (17, vl (eI .i64) aA), (0, vl (eI .i64) aA), (1, vl (eI .i64) aB), (5, vi s3.1), (14, vb (decide (s3.1 < (aA.length : Int))))], []⟩) (by kernel_rfl) ?_
  obtain ⟨x7, hx7, h⟩ := bind_some h
  refine DGo.step (x_index (L := aA) (f := (eI .i64)) (ti := ti32) (tj := ti2) (e := 2) (k := .i64) tbok rfl hx7) ?_
  refine DGo.chunk' tbok 3 (σ' := ⟨26, [(22, vi s3.1), (21, vl (eI .i64) aB), (20, vi x7), (19, .ptr (((eI .i64) x7).map .tr) 0), (18, vi s3.1), (17, vl (eI .i64) aA), (0, vl (eI .i64) aA), (1, vl (eI .i64) aB), (5, vi s3.1), (14, vb (decide (s3.1 < (aA.length : Int))))], []⟩) (by kernel_rfl) ?_
  obtain ⟨x8, hx8, h⟩ := bind_some h
  refine DGo.step (x_index (L := aB) (f := (eI .i64)) (ti := ti32) (tj := ti2) (e := 2) (k := .i64) tbok rfl hx8) ?_
  refine DGo.chunk' tbok 2 (σ' := ⟨26, [(25, vb (x7 != x8)), (24, vi x8), (23, .ptr (((eI .i64) x8).map .tr) 0), (22, vi s3.1), (21, vl (eI .i64) aB), (20, vi x7), (19, .ptr (((eI .i64) x7).map .tr) 0), (18, vi s3.1), (17, vl (eI .i64) aA), (0, vl (eI .i64) aA), (1, vl (eI .i64) aB), (5, vi s3.1), (14, vb (decide (s3.1 < (aA.length : Int))))], []⟩) (by kernel_rfl) ?_
  refine DGo.nil (by kernel_rfl) ?_
  refine nx_n ?_
  refine swp_cond (b := (x7 != x8)) (by kernel_rfl) (fun hb => ?_) (fun hb => ?_)
  replace h := cond_t hb h
  refine swp_seq ?_
  refine swp_reg ?_
  refine SRun.ck tbok 1 ⟨26, [(4, vb false)], []⟩ ?_
  refine SRun.nil ?_
  refine nx_n ?_
  refine swp_ret ?_
  replace h := Option.some.inj h
  subst h
  exact q_br (q_rr (q_rr (q_br (q_rr (q_fr (fin1 (by kernel_rfl) (finV rfl SV.flat_of (holds_t (by kernel_rfl)))))))))
  replace h := cond_f hb h
  refine swp_skip ?_
  replace h := Option.some.inj h
  subst h
  exact q_bn (q_l (Le.sub0))
  refine swp_reg ?_
  refine SRun.ck tbok 3 ⟨26, [(0, vl (eI .i64) aA), (1, vl (eI .i64) aB), (5, vi (w64 (s3.1 + 1)))], []⟩ ?_
  refine SRun.nil ?_
  replace h := Option.some.inj h
  subst h
  exact q_l (Le.sub0)
  replace h := cond_f hb h
  refine swp_exit ?_
  replace h := Option.some.inj h
  subst h
  exact nx_e (q_re (q_bh (q_l (Le.sub0))))
  refine swp_seq ?_
  refine swp_reg ?_
  refine SRun.ck tbok 1 ⟨26, [(4, vb true)], []⟩ ?_
  refine SRun.nil ?_
  refine nx_n ?_
  refine swp_ret ?_
  replace h := Option.some.inj h
  subst h
  exact q_fr (fin1 (by kernel_rfl) (finV rfl SV.flat_of (holds_t (by kernel_rfl))))
theorem ents42 : Ents Tryd.prog 42 := ents_of Tryd.func42 (by kernel_rfl) rfl
noncomputable def laws_likeOps (aA : (List Op)) (aB : (List Op)) : Option (Bool) :=
  (bif ((aA.length : Int) != (aB.length : Int)) then some false else (((forN (aA.length : Int) (fun (i3 : Int) (_ : Unit) => ((((at' aA i3).bind fun x7 => ((at' aB i3).bind fun x8 => (bif (x7.Office != x8.Office) then some true else ((at' aA i3).bind fun x9 => ((at' aB i3).bind fun x10 => (bif (x9.Number != x10.Number) then some true else ((at' aA i3).bind fun x11 => ((at' aB i3).bind fun x12 => (bif (!(x11.Key.toList == x12.Key.toList)) then some true else ((at' aA i3).bind fun x13 => ((at' aB i3).bind fun x14 => (bif (!(x13.Text.toList == x14.Text.toList)) then some true else ((at' aA i3).bind fun x15 => ((at' aB i3).bind fun x16 => ((laws_likeInts x15.Seen x16.Seen).bind fun x17 => some (!x17))))))))))))))))).bind fun (j18 : Bool) => (bif j18 then some (.inr (.inr false)) else some (.inl ())))) (fun (_ : Unit) => .inl ()) 0 ())).bind (Sum.elim (fun (_ : Unit) => some true) some)))
set_option maxRecDepth 100000 in
set_option maxHeartbeats 4000000 in
theorem laws_likeOps_run (aA : (List Op)) (aB : (List Op)) (r : Bool) (h : laws_likeOps aA aB = some r) : SCall Tryd.prog 41 [.v (vl eOp aA), .v (vl eOp aB)] ⟨[.v (vb r)], [], false⟩ := by
  refine scall_in Tryd.func41 rfl [(.tmp 4)] rfl (fun r => ⟨[.v (vb r)], [], false⟩) (r := r) ?_
  unfold laws_likeOps at h
  refine swp_seq ?_
  refine swp_reg ?_
  refine SRun.ck tbok 1 ⟨81, [(0, vl eOp aA), (1, vl eOp aB)], []⟩ ?_
  refine SRun.nil ?_
  refine nx_n ?_
  refine swp_seq ?_
  refine swp_seq ?_
  refine swp_reg ?_
  refine SRun.ck tbok 5 ⟨81, [(0, vl eOp aA), (1, vl eOp aB), (10, vb ((aA.length : Int) != (aB.length : Int)))], []⟩ ?_
  refine SRun.nil ?_
  refine nx_n ?_
  refine swp_cond (b := ((aA.length : Int) != (aB.length : Int))) (by kernel_rfl) (fun hb => ?_) (fun hb => ?_)
  replace h := cond_t hb h
  refine swp_seq ?_
  refine swp_reg ?_
  refine SRun.ck tbok 1 ⟨81, [(4, vb false)], []⟩ ?_
  refine SRun.nil ?_
  refine nx_n ?_
  refine swp_ret ?_
  replace h := Option.some.inj h
  subst h
  exact nx_r (q_fr (fin1 (by kernel_rfl) (finV rfl SV.flat_of (holds_t (by kernel_rfl)))))
  replace h := cond_f hb h
  refine swp_skip ?_
  refine nx_n ?_
  refine swp_seq ?_
  refine swp_seq ?_
  refine swp_reg ?_
  refine SRun.ck tbok 1 ⟨81, [(0, vl eOp aA), (1, vl eOp aB), (5, vi 0)], []⟩ ?_
  refine SRun.nil ?_
  refine nx_n ?_
  refine swp_seqE (r := r) h (fun j1 => ⟨81, [], []⟩) (fun v2 h => ?_) (fun j1 h => ?_)
  refine swp_blk (a := v2) ?_
  refine swp_lpL (r := v2) (s := (0, ())) _ (fun s3 => ⟨81, [(0, vl eOp aA), (1, vl eOp aB), (5, vi s3.1)], []⟩) _ (Le.sub0) h (fun s3 v4 h => ?_)
  refine swp_seq ?_
  refine swp_seq ?_
  refine swp_reg ?_
  refine SRun.ck tbok 4 ⟨81, [(0, vl eOp aA), (1, vl eOp aB), (5, vi s3.1), (14, vb (decide (s3.1 < (aA.length : Int))))], []⟩ ?_
  refine SRun.nil ?_
  refine nx_n ?_
  refine swp_cond (b := (decide (s3.1 < (aA.length : Int)))) (by kernel_rfl) (fun hb => ?_) (fun hb => ?_)
  replace h := cond_t hb h
  refine swp_skip ?_
  refine nx_n ?_
  refine swp_seq ?_
  refine swp_seqL (r := v4) h (fun j5 => ⟨81, [(0, vl eOp aA), (1, vl eOp aB), (5, vi s3.1)], []⟩) (fun v6 h => ?_) (fun j5 h => ?_)
  refine swp_blk (a := v6) ?_
  refine swp_seq ?_
  refine swp_drJ mixed h (fun j18 => ⟨81, [(0, vl eOp aA), (1, vl eOp aB), (5, vi s3.1), (80, vb j18)], []⟩) (fun v19 h => ?_) (fun j18 h => ?_)
  refine DGo.chunk' tbok 2 (σ' := ⟨81, [(18, vi s3.1), (17, vl eOp aA), (0, vl eOp aA), (1, vl eOp aB), (5, vi s3.1), (14, vb (decide (s3.1 < (aA.length : Int))))], []⟩) (by kernel_rfl) ?_
  obtain ⟨x7, hx7, h⟩ := bind_some h
  refine DGo.step (x_index (L := aA) (f := eOp) (ti := ti25) (tj := ti61) (e := 61) (k := .i64) tbok rfl hx7) ?_
  refine DGo.chunk' tbok 4 (σ' := ⟨81, [(23, vi s3.1), (22, vl eOp aB), (21, vi x7.Office), (20, .ptr ((eOp x7).map .tr) 0), (19, .ptr ((eOp x7).map .tr) 0), (18, vi s3.1), (17, vl eOp aA), (0, vl eOp aA), (1, vl eOp aB), (5, vi s3.1), (14, vb (decide (s3.1 < (aA.length : Int))))], []⟩) (by kernel_rfl) ?_
  obtain ⟨x8, hx8, h⟩ := bind_some h
  refine DGo.step (x_index (L := aB) (f := eOp) (ti := ti25) (tj := ti61) (e := 61) (k := .i64) tbok rfl hx8) ?_
  refine DGo.chunk' tbok 4 (σ' := ⟨81, [(28, vb (x7.Office != x8.Office)), (27, vb (x7.Office != x8.Office)), (26, vi x8.Office), (25, .ptr ((eOp x8).map .tr) 0), (24, .ptr ((eOp x8).map .tr) 0), (23, vi s3.1), (22, vl eOp aB), (21, vi x7.Office), (20, .ptr ((eOp x7).map .tr) 0), (19, .ptr ((eOp x7).map .tr) 0), (18, vi s3.1), (17, vl eOp aA), (0, vl eOp aA), (1, vl eOp aB), (5, vi s3.1), (14, vb (decide (s3.1 < (aA.length : Int))))], []⟩) (by kernel_rfl) ?_
  refine DGo.cut [(28, fun b => b), (27, fun b => b)] (b := (x7.Office != x8.Office)) (by kernel_rfl) (fun hb => ?_) (fun hb => ?_)
  replace h := cond_t hb h
  refine DGo.chunk' tbok 52 (σ' := ⟨81, [(80, vb true), (79, .tup []), (78, .tup []), (77, .tup []), (76, .tup []), (75, .tup []), (74, .tup []), (73, .tup []), (72, .tup []), (71, .tup []), (70, .tup []), (69, .tup []), (68, .tup []), (67, vb true), (66, vb true), (65, .tup []), (64, .tup []), (63, .tup []), (62, .tup []), (61, .tup []), (60, .tup []), (59, .tup []), (58, .tup []), (57, .tup []), (56, .tup []), (55, .tup []), (54, vb true), (53, vb true), (52, .tup []), (51, .tup []), (50, .tup []), (49, .tup []), (48, .tup []), (47, .tup []), (46, .tup []), (45, .tup []), (44, .tup []), (43, .tup []), (42, .tup []), (41, vb true), (40, vb true), (39, .tup []), (38, .tup []), (37, .tup []), (36, .tup []), (35, .tup []), (34, .tup []), (33, .tup []), (32, .tup []), (31, .tup []), (30, .tup []), (29, .tup []), (28, vb true), (27, vb true), (26, vi x8.Office), (25, .ptr ((eOp x8).map .tr) 0), (24, .ptr ((eOp x8).map .tr) 0), (23, vi s3.1), (22, vl eOp aB), (21, vi x7.Office), (20, .ptr ((eOp x7).map .tr) 0), (19, .ptr ((eOp x7).map .tr) 0), (18, vi s3.1), (17, vl eOp aA), (0, vl eOp aA), (1, vl eOp aB), (5, vi s3.1), (14, vb (decide (s3.1 < (aA.length : Int))))], []⟩) (by kernel_rfl) ?_
  refine DGo.nil (by kernel_rfl) ?_
  replace h := Option.some.inj h
  subst h
  exact Le.sub0
  replace h := cond_f hb h
  refine DGo.chunk' tbok 2 (σ' := ⟨81, [(30, vi s3.1), (29, vl eOp aA), (28, vb false), (27, vb false), (26, vi x8.Office), (25, .ptr ((eOp x8).map .tr) 0), (24, .ptr ((eOp x8).map .tr) 0), (23, vi s3.1), (22, vl eOp aB), (21, vi x7.Office), (20, .ptr ((eOp x7).map .tr) 0), (19, .ptr ((eOp x7).map .tr) 0), (18, vi s3.1), (17, vl eOp aA), (0, vl eOp aA), (1, vl eOp aB), (5, vi s3.1), (14, vb (decide (s3.1 < (aA.length : Int))))], []⟩) (by kernel_rfl) ?_
  obtain ⟨x9, hx9, h⟩ := bind_some h
  refine DGo.step (x_index (L := aA) (f := eOp) (ti := ti25) (tj := ti61) (e := 61) (k := .i64) tbok rfl hx9) ?_
  refine DGo.chunk' tbok 4 (σ' := ⟨81, [(35, vi s3.1), (34, vl eOp aB), (33, vi x9.Number), (32, .ptr ((eOp x9).map .tr) 1), (31, .ptr ((eOp x9).map .tr) 0), (30, vi s3.1), (29, vl eOp aA), (28, vb false), (27, vb false), (26, vi x8.Office), (25, .ptr ((eOp x8).map .tr) 0), (24, .ptr ((eOp x8).map .tr) 0), (23, vi s3.1), (22, vl eOp aB), (21, vi x7.Office), (20, .ptr ((eOp x7).map .tr) 0), (19, .ptr ((eOp x7).map .tr) 0), (18, vi s3.1), (17, vl eOp aA), (0, vl eOp aA), (1, vl eOp aB), (5, vi s3.1), (14, vb (decide (s3.1 < (aA.length : Int))))], []⟩) (by kernel_rfl) ?_
  obtain ⟨x10, hx10, h⟩ := bind_some h
  refine DGo.step (x_index (L := aB) (f := eOp) (ti := ti25) (tj := ti61) (e := 61) (k := .i64) tbok rfl hx10) ?_
  refine DGo.chunk' tbok 5 (σ' := ⟨81, [(41, vb (x9.Number != x10.Number)), (40, vb (x9.Number != x10.Number)), (39, vb (x9.Number != x10.Number)), (38, vi x10.Number), (37, .ptr ((eOp x10).map .tr) 1), (36, .ptr ((eOp x10).map .tr) 0), (35, vi s3.1), (34, vl eOp aB), (33, vi x9.Number), (32, .ptr ((eOp x9).map .tr) 1), (31, .ptr ((eOp x9).map .tr) 0), (30, vi s3.1), (29, vl eOp aA), (28, vb false), (27, vb false), (26, vi x8.Office), (25, .ptr ((eOp x8).map .tr) 0), (24, .ptr ((eOp x8).map .tr) 0), (23, vi s3.1), (22, vl eOp aB), (21, vi x7.Office), (20, .ptr ((eOp x7).map .tr) 0), (19, .ptr ((eOp x7).map .tr) 0), (18, vi s3.1), (17, vl eOp aA), (0, vl eOp aA), (1, vl eOp aB), (5, vi s3.1), (14, vb (decide (s3.1 < (aA.length : Int))))], []⟩) (by kernel_rfl) ?_
  refine DGo.cut [(41, fun b => b), (40, fun b => b), (39, fun b => b)] (b := (x9.Number != x10.Number)) (by kernel_rfl) (fun hb => ?_) (fun hb => ?_)
  replace h := cond_t hb h
  refine DGo.chunk' tbok 39 (σ' := ⟨81, [(80, vb true), (79, .tup []), (78, .tup []), (77, .tup []), (76, .tup []), (75, .tup []), (74, .tup []), (73, .tup []), (72, .tup []), (71, .tup []), (70, .tup []), (69, .tup []), (68, .tup []), (67, vb true), (66, vb true), (65, .tup []), (64, .tup []), (63, .tup []), (62, .tup []), (61, .tup []), (60, .tup []), (59, .tup []), (58, .tup []), (57, .tup []), (56, .tup []), (55, .tup []), (54, vb true), (53, vb true), (52, .tup []), (51, .tup []), (50, .tup []), (49, .tup []), (48, .tup []), (47, .tup []), (46, .tup []), (45, .tup []), (44, .tup []), (43, .tup []), (42, .tup []), (41, vb true), (40, vb true), (39, vb true), (38, vi x10.Number), (37, .ptr ((eOp x10).map .tr) 1), (36, .ptr ((eOp x10).map .tr) 0), (35, vi s3.1), (34, vl eOp aB), (33, vi x9.Number), (32, .ptr ((eOp x9).map .tr) 1), (31, .ptr ((eOp x9).map .tr) 0), (30, vi s3.1), (29, vl eOp aA), (28, vb false), (27, vb false), (26, vi x8.Office), (25, .ptr ((eOp x8).map .tr) 0), (24, .ptr ((eOp x8).map .tr) 0), (23, vi s3.1), (22, vl eOp aB), (21, vi x7.Office), (20, .ptr ((eOp x7).map .tr) 0), (19, .ptr ((eOp x7).map .tr) 0), (18, vi s3.1), (17, vl eOp aA), (0, vl eOp aA), (1, vl eOp aB), (5, vi s3.1), (14, vb (decide (s3.1 < (aA.length : Int))))], []⟩) (by kernel_rfl) ?_
  refine DGo.nil (by kernel_rfl) ?_
  replace h := Option.some.inj h
  subst h
  exact Le.sub0
  replace h := cond_f hb h
  refine DGo.chunk' tbok 2 (σ' := ⟨81, [(43, vi s3.1), (42, vl eOp aA), (41, vb false), (40, vb false), (39, vb false), (38, vi x10.Number), (37, .ptr ((eOp x10).map .tr) 1), (36, .ptr ((eOp x10).map .tr) 0), (35, vi s3.1), (34, vl eOp aB), (33, vi x9.Number), (32, .ptr ((eOp x9).map .tr) 1), (31, .ptr ((eOp x9).map .tr) 0), (30, vi s3.1), (29, vl eOp aA), (28, vb false), (27, vb false), (26, vi x8.Office), (25, .ptr ((eOp x8).map .tr) 0), (24, .ptr ((eOp x8).map .tr) 0), (23, vi s3.1), (22, vl eOp aB), (21, vi x7.Office), (20, .ptr ((eOp x7).map .tr) 0), (19, .ptr ((eOp x7).map .tr) 0), (18, vi s3.1), (17, vl eOp aA), (0, vl eOp aA), (1, vl eOp aB), (5, vi s3.1), (14, vb (decide (s3.1 < (aA.length : Int))))], []⟩) (by kernel_rfl) ?_
  obtain ⟨x11, hx11, h⟩ := bind_some h
  refine DGo.step (x_index (L := aA) (f := eOp) (ti := ti25) (tj := ti61) (e := 61) (k := .i64) tbok rfl hx11) ?_
  refine DGo.chunk' tbok 4 (σ' := ⟨81, [(48, vi s3.1), (47, vl eOp aB), (46, vs x11.Key), (45, .ptr ((eOp x11).map .tr) 2), (44, .ptr ((eOp x11).map .tr) 0), (43, vi s3.1), (42, vl eOp aA), (41, vb false), (40, vb false), (39, vb false), (38, vi x10.Number), (37, .ptr ((eOp x10).map .tr) 1), (36, .ptr ((eOp x10).map .tr) 0), (35, vi s3.1), (34, vl eOp aB), (33, vi x9.Number), (32, .ptr ((eOp x9).map .tr) 1), (31, .ptr ((eOp x9).map .tr) 0), (30, vi s3.1), (29, vl eOp aA), (28, vb false), (27, vb false), (26, vi x8.Office), (25, .ptr ((eOp x8).map .tr) 0), (24, .ptr ((eOp x8).map .tr) 0), (23, vi s3.1), (22, vl eOp aB), (21, vi x7.Office), (20, .ptr ((eOp x7).map .tr) 0), (19, .ptr ((eOp x7).map .tr) 0), (18, vi s3.1), (17, vl eOp aA), (0, vl eOp aA), (1, vl eOp aB), (5, vi s3.1), (14, vb (decide (s3.1 < (aA.length : Int))))], []⟩) (by kernel_rfl) ?_
  obtain ⟨x12, hx12, h⟩ := bind_some h
  refine DGo.step (x_index (L := aB) (f := eOp) (ti := ti25) (tj := ti61) (e := 61) (k := .i64) tbok rfl hx12) ?_
  refine DGo.chunk' tbok 5 (σ' := ⟨81, [(54, vb (!(x11.Key.toList == x12.Key.toList))), (53, vb (!(x11.Key.toList == x12.Key.toList))), (52, vb (!(x11.Key.toList == x12.Key.toList))), (51, vs x12.Key), (50, .ptr ((eOp x12).map .tr) 2), (49, .ptr ((eOp x12).map .tr) 0), (48, vi s3.1), (47, vl eOp aB), (46, vs x11.Key), (45, .ptr ((eOp x11).map .tr) 2), (44, .ptr ((eOp x11).map .tr) 0), (43, vi s3.1), (42, vl eOp aA), (41, vb false), (40, vb false), (39, vb false), (38, vi x10.Number), (37, .ptr ((eOp x10).map .tr) 1), (36, .ptr ((eOp x10).map .tr) 0), (35, vi s3.1), (34, vl eOp aB), (33, vi x9.Number), (32, .ptr ((eOp x9).map .tr) 1), (31, .ptr ((eOp x9).map .tr) 0), (30, vi s3.1), (29, vl eOp aA), (28, vb false), (27, vb false), (26, vi x8.Office), (25, .ptr ((eOp x8).map .tr) 0), (24, .ptr ((eOp x8).map .tr) 0), (23, vi s3.1), (22, vl eOp aB), (21, vi x7.Office), (20, .ptr ((eOp x7).map .tr) 0), (19, .ptr ((eOp x7).map .tr) 0), (18, vi s3.1), (17, vl eOp aA), (0, vl eOp aA), (1, vl eOp aB), (5, vi s3.1), (14, vb (decide (s3.1 < (aA.length : Int))))], []⟩) (by kernel_rfl) ?_
  refine DGo.cut [(54, fun b => b), (53, fun b => b), (52, fun b => b)] (b := (!(x11.Key.toList == x12.Key.toList))) (by kernel_rfl) (fun hb => ?_) (fun hb => ?_)
  replace h := cond_t hb h
  refine DGo.chunk' tbok 26 (σ' := ⟨81, [(80, vb true), (79, .tup []), (78, .tup []), (77, .tup []), (76, .tup []), (75, .tup []), (74, .tup []), (73, .tup []), (72, .tup []), (71, .tup []), (70, .tup []), (69, .tup []), (68, .tup []), (67, vb true), (66, vb true), (65, .tup []), (64, .tup []), (63, .tup []), (62, .tup []), (61, .tup []), (60, .tup []), (59, .tup []), (58, .tup []), (57, .tup []), (56, .tup []), (55, .tup []), (54, vb true), (53, vb true), (52, vb true), (51, vs x12.Key), (50, .ptr ((eOp x12).map .tr) 2), (49, .ptr ((eOp x12).map .tr) 0), (48, vi s3.1), (47, vl eOp aB), (46, vs x11.Key), (45, .ptr ((eOp x11).map .tr) 2), (44, .ptr ((eOp x11).map .tr) 0), (43, vi s3.1), (42, vl eOp aA), (41, vb false), (40, vb false), (39, vb false), (38, vi x10.Number), (37, .ptr ((eOp x10).map .tr) 1), (36, .ptr ((eOp x10).map .tr) 0), (35, vi s3.1), (34, vl eOp aB), (33, vi x9.Number), (32, .ptr ((eOp x9).map .tr) 1), (31, .ptr ((eOp x9).map .tr) 0), (30, vi s3.1), (29, vl eOp aA), (28, vb false), (27, vb false), (26, vi x8.Office), (25, .ptr ((eOp x8).map .tr) 0), (24, .ptr ((eOp x8).map .tr) 0), (23, vi s3.1), (22, vl eOp aB), (21, vi x7.Office), (20, .ptr ((eOp x7).map .tr) 0), (19, .ptr ((eOp x7).map .tr) 0), (18, vi s3.1), (17, vl eOp aA), (0, vl eOp aA), (1, vl eOp aB), (5, vi s3.1), (14, vb (decide (s3.1 < (aA.length : Int))))], []⟩) (by kernel_rfl) ?_
  refine DGo.nil (by kernel_rfl) ?_
  replace h := Option.some.inj h
  subst h
  exact Le.sub0
  replace h := cond_f hb h
  refine DGo.chunk' tbok 2 (σ' := ⟨81, [(56, vi s3.1), (55, vl eOp aA), (54, vb false), (53, vb false), (52, vb false), (51, vs x12.Key), (50, .ptr ((eOp x12).map .tr) 2), (49, .ptr ((eOp x12).map .tr) 0), (48, vi s3.1), (47, vl eOp aB), (46, vs x11.Key), (45, .ptr ((eOp x11).map .tr) 2), (44, .ptr ((eOp x11).map .tr) 0), (43, vi s3.1), (42, vl eOp aA), (41, vb false), (40, vb false), (39, vb false), (38, vi x10.Number), (37, .ptr ((eOp x10).map .tr) 1), (36, .ptr ((eOp x10).map .tr) 0), (35, vi s3.1), (34, vl eOp aB), (33, vi x9.Number), (32, .ptr ((eOp x9).map .tr) 1), (31, .ptr ((eOp x9).map .tr) 0), (30, vi s3.1), (29, vl eOp aA), (28, vb false), (27, vb false), (26, vi x8.Office), (25, .ptr ((eOp x8).map .tr) 0), (24, .ptr ((eOp x8).map .tr) 0), (23, vi s3.1), (22, vl eOp aB), (21, vi x7.Office), (20, .ptr ((eOp x7).map .tr) 0), (19, .ptr ((eOp x7).map .tr) 0), (18, vi s3.1), (17, vl eOp aA), (0, vl eOp aA), (1, vl eOp aB), (5, vi s3.1), (14, vb (decide (s3.1 < (aA.length : Int))))], []⟩) (by kernel_rfl) ?_
  obtain ⟨x13, hx13, h⟩ := bind_some h
  refine DGo.step (x_index (L := aA) (f := eOp) (ti := ti25) (tj := ti61) (e := 61) (k := .i64) tbok rfl hx13) ?_
  refine DGo.chunk' tbok 4 (σ' := ⟨81, [(61, vi s3.1), (60, vl eOp aB), (59, vs x13.Text), (58, .ptr ((eOp x13).map .tr) 3), (57, .ptr ((eOp x13).map .tr) 0), (56, vi s3.1), (55, vl eOp aA), (54, vb false), (53, vb false), (52, vb false), (51, vs x12.Key), (50, .ptr ((eOp x12).map .tr) 2), (49, .ptr ((eOp x12).map .tr) 0), (48, vi s3.1), (47, vl eOp aB), (46, vs x11.Key), (45, .ptr ((eOp x11).map .tr) 2), (44, .ptr ((eOp x11).map .tr) 0), (43, vi s3.1), (42, vl eOp aA), (41, vb false), (40, vb false), (39, vb false), (38, vi x10.Number), (37, .ptr ((eOp x10).map .tr) 1), (36, .ptr ((eOp x10).map .tr) 0), (35, vi s3.1), (34, vl eOp aB), (33, vi x9.Number), (32, .ptr ((eOp x9).map .tr) 1), (31, .ptr ((eOp x9).map .tr) 0), (30, vi s3.1), (29, vl eOp aA), (28, vb false), (27, vb false), (26, vi x8.Office), (25, .ptr ((eOp x8).map .tr) 0), (24, .ptr ((eOp x8).map .tr) 0), (23, vi s3.1), (22, vl eOp aB), (21, vi x7.Office), (20, .ptr ((eOp x7).map .tr) 0), (19, .ptr ((eOp x7).map .tr) 0), (18, vi s3.1), (17, vl eOp aA), (0, vl eOp aA), (1, vl eOp aB), (5, vi s3.1), (14, vb (decide (s3.1 < (aA.length : Int))))], []⟩) (by kernel_rfl) ?_
  obtain ⟨x14, hx14, h⟩ := bind_some h
  refine DGo.step (x_index (L := aB) (f := eOp) (ti := ti25) (tj := ti61) (e := 61) (k := .i64) tbok rfl hx14) ?_
  refine DGo.chunk' tbok 5 (σ' := ⟨81, [(67, vb (!(x13.Text.toList == x14.Text.toList))), (66, vb (!(x13.Text.toList == x14.Text.toList))), (65, vb (!(x13.Text.toList == x14.Text.toList))), (64, vs x14.Text), (63, .ptr ((eOp x14).map .tr) 3), (62, .ptr ((eOp x14).map .tr) 0), (61, vi s3.1), (60, vl eOp aB), (59, vs x13.Text), (58, .ptr ((eOp x13).map .tr) 3), (57, .ptr ((eOp x13).map .tr) 0), (56, vi s3.1), (55, vl eOp aA), (54, vb false), (53, vb false), (52, vb false), (51, vs x12.Key), (50, .ptr ((eOp x12).map .tr) 2), (49, .ptr ((eOp x12).map .tr) 0), (48, vi s3.1), (47, vl eOp aB), (46, vs x11.Key), (45, .ptr ((eOp x11).map .tr) 2), (44, .ptr ((eOp x11).map .tr) 0), (43, vi s3.1), (42, vl eOp aA), (41, vb false), (40, vb false), (39, vb false), (38, vi x10.Number), (37, .ptr ((eOp x10).map .tr) 1), (36, .ptr ((eOp x10).map .tr) 0), (35, vi s3.1), (34, vl eOp aB), (33, vi x9.Number), (32, .ptr ((eOp x9).map .tr) 1), (31, .ptr ((eOp x9).map .tr) 0), (30, vi s3.1), (29, vl eOp aA), (28, vb false), (27, vb false), (26, vi x8.Office), (25, .ptr ((eOp x8).map .tr) 0), (24, .ptr ((eOp x8).map .tr) 0), (23, vi s3.1), (22, vl eOp aB), (21, vi x7.Office), (20, .ptr ((eOp x7).map .tr) 0), (19, .ptr ((eOp x7).map .tr) 0), (18, vi s3.1), (17, vl eOp aA), (0, vl eOp aA), (1, vl eOp aB), (5, vi s3.1), (14, vb (decide (s3.1 < (aA.length : Int))))], []⟩) (by kernel_rfl) ?_
  refine DGo.cut [(67, fun b => b), (66, fun b => b), (65, fun b => b)] (b := (!(x13.Text.toList == x14.Text.toList))) (by kernel_rfl) (fun hb => ?_) (fun hb => ?_)
  replace h := cond_t hb h
  refine DGo.chunk' tbok 13 (σ' := ⟨81, [(80, vb true), (79, .tup []), (78, .tup []), (77, .tup []), (76, .tup []), (75, .tup []), (74, .tup []), (73, .tup []), (72, .tup []), (71, .tup []), (70, .tup []), (69, .tup []), (68, .tup []), (67, vb true), (66, vb true), (65, vb true), (64, vs x14.Text), (63, .ptr ((eOp x14).map .tr) 3), (62, .ptr ((eOp x14).map .tr) 0), (61, vi s3.1), (60, vl eOp aB), (59, vs x13.Text), (58, .ptr ((eOp x13).map .tr) 3), (57, .ptr ((eOp x13).map .tr) 0), (56, vi s3.1), (55, vl eOp aA), (54, vb false), (53, vb false), (52, vb false), (51, vs x12.Key), (50, .ptr ((eOp x12).map .tr) 2), (49, .ptr ((eOp x12).map .tr) 0), (48, vi s3.1), (47, vl eOp aB), (46, vs x11.Key), (45, .ptr ((eOp x11).map .tr) 2), (44, .ptr ((eOp x11).map .tr) 0), (43, vi s3.1), (42, vl eOp aA), (41, vb false), (40, vb false), (39, vb false), (38, vi x10.Number), (37, .ptr ((eOp x10).map .tr) 1), (36, .ptr ((eOp x10).map .tr) 0), (35, vi s3.1), (34, vl eOp aB), (33, vi x9.Number), (32, .ptr ((eOp x9).map .tr) 1), (31, .ptr ((eOp x9).map .tr) 0), (30, vi s3.1), (29, vl eOp aA), (28, vb false), (27, vb false), (26, vi x8.Office), (25, .ptr ((eOp x8).map .tr) 0), (24, .ptr ((eOp x8).map .tr) 0), (23, vi s3.1), (22, vl eOp aB), (21, vi x7.Office), (20, .ptr ((eOp x7).map .tr) 0), (19, .ptr ((eOp x7).map .tr) 0), (18, vi s3.1), (17, vl eOp aA), (0, vl eOp aA), (1, vl eOp aB), (5, vi s3.1), (14, vb (decide (s3.1 < (aA.length : Int))))], []⟩) (by kernel_rfl) ?_
  refine DGo.nil (by kernel_rfl) ?_
  replace h := Option.some.inj h
  subst h
  exact Le.sub0
  replace h := cond_f hb h
  refine DGo.chunk' tbok 2 (σ' := ⟨81, [(69, vi s3.1), (68, vl eOp aA), (67, vb false), (66, vb false), (65, vb false), (64, vs x14.Text), (63, .ptr ((eOp x14).map .tr) 3), (62, .ptr ((eOp x14).map .tr) 0), (61, vi s3.1), (60, vl eOp aB), (59, vs x13.Text), (58, .ptr ((eOp x13).map .tr) 3), (57, .ptr ((eOp x13).map .tr) 0), (56, vi s3.1), (55, vl eOp aA), (54, vb false), (53, vb false), (52, vb false), (51, vs x12.Key), (50, .ptr ((eOp x12).map .tr) 2), (49, .ptr ((eOp x12).map .tr) 0), (48, vi s3.1), (47, vl eOp aB), (46, vs x11.Key), (45, .ptr ((eOp x11).map .tr) 2), (44, .ptr ((eOp x11).map .tr) 0), (43, vi s3.1), (42, vl eOp aA), (41, vb false), (40, vb false), (39, vb false), (38, vi x10.Number), (37, .ptr ((eOp x10).map .tr) 1), (36, .ptr ((eOp x10).map .tr) 0), (35, vi s3.1), (34, vl eOp aB), (33, vi x9.Number), (32, .ptr ((eOp x9).map .tr) 1), (31, .ptr ((eOp x9).map .tr) 0), (30, vi s3.1), (29, vl eOp aA), (28, vb false), (27, vb false), (26, vi x8.Office), (25, .ptr ((eOp x8).map .tr) 0), (24, .ptr ((eOp x8).map .tr) 0), (23, vi s3.1), (22, vl eOp aB), (21, vi x7.Office), (20, .ptr ((eOp x7).map .tr) 0), (19, .ptr ((eOp x7).map .tr) 0), (18, vi s3.1), (17, vl eOp aA), (0, vl eOp aA), (1, vl eOp aB), (5, vi s3.1), (14, vb (decide (s3.1 < (aA.length : Int))))], []⟩) (by kernel_rfl) ?_
  obtain ⟨x15, hx15, h⟩ := bind_some h
  refine DGo.step (x_index (L := aA) (f := eOp) (ti := ti25) (tj := ti61) (e := 61) (k := .i64) tbok rfl hx15) ?_
  refine DGo.chunk' tbok 4 (σ' := ⟨81, [(74, vi s3.1), (73, vl eOp aB), (72, vl (eI .i64) x15.Seen), (71, .ptr ((eOp x15).map .tr) 4), (70, .ptr ((eOp x15).map .tr) 0), (69, vi s3.1), (68, vl eOp aA), (67, vb false), (66, vb false), (65, vb false), (64, vs x14.Text), (63, .ptr ((eOp x14).map .tr) 3), (62, .ptr ((eOp x14).map .tr) 0), (61, vi s3.1), (60, vl eOp aB), (59, vs x13.Text), (58, .ptr ((eOp x13).map .tr) 3), (57, .ptr ((eOp x13).map .tr) 0), (56, vi s3.1), (55, vl eOp aA), (54, vb false), (53, vb false), (52, vb false), (51, vs x12.Key), (50, .ptr ((eOp x12).map .tr) 2), (49, .ptr ((eOp x12).map .tr) 0), (48, vi s3.1), (47, vl eOp aB), (46, vs x11.Key), (45, .ptr ((eOp x11).map .tr) 2), (44, .ptr ((eOp x11).map .tr) 0), (43, vi s3.1), (42, vl eOp aA), (41, vb false), (40, vb false), (39, vb false), (38, vi x10.Number), (37, .ptr ((eOp x10).map .tr) 1), (36, .ptr ((eOp x10).map .tr) 0), (35, vi s3.1), (34, vl eOp aB), (33, vi x9.Number), (32, .ptr ((eOp x9).map .tr) 1), (31, .ptr ((eOp x9).map .tr) 0), (30, vi s3.1), (29, vl eOp aA), (28, vb false), (27, vb false), (26, vi x8.Office), (25, .ptr ((eOp x8).map .tr) 0), (24, .ptr ((eOp x8).map .tr) 0), (23, vi s3.1), (22, vl eOp aB), (21, vi x7.Office), (20, .ptr ((eOp x7).map .tr) 0), (19, .ptr ((eOp x7).map .tr) 0), (18, vi s3.1), (17, vl eOp aA), (0, vl eOp aA), (1, vl eOp aB), (5, vi s3.1), (14, vb (decide (s3.1 < (aA.length : Int))))], []⟩) (by kernel_rfl) ?_
  obtain ⟨x16, hx16, h⟩ := bind_some h
  refine DGo.step (x_index (L := aB) (f := eOp) (ti := ti25) (tj := ti61) (e := 61) (k := .i64) tbok rfl hx16) ?_
  refine DGo.chunk' tbok 2 (σ' := ⟨81, [(77, vl (eI .i64) x16.Seen), (76, .ptr ((eOp x16).map .tr) 4), (75, .ptr ((eOp x16).map .tr) 0), (74, vi s3.1), (73, vl eOp aB), (72, vl (eI .i64) x15.Seen), (71, .ptr ((eOp x15).map .tr) 4), (70, .ptr ((eOp x15).map .tr) 0), (69, vi s3.1), (68, vl eOp aA), (67, vb false), (66, vb false), (65, vb false), (64, vs x14.Text), (63, .ptr ((eOp x14).map .tr) 3), (62, .ptr ((eOp x14).map .tr) 0), (61, vi s3.1), (60, vl eOp aB), (59, vs x13.Text), (58, .ptr ((eOp x13).map .tr) 3), (57, .ptr ((eOp x13).map .tr) 0), (56, vi s3.1), (55, vl eOp aA), (54, vb false), (53, vb false), (52, vb false), (51, vs x12.Key), (50, .ptr ((eOp x12).map .tr) 2), (49, .ptr ((eOp x12).map .tr) 0), (48, vi s3.1), (47, vl eOp aB), (46, vs x11.Key), (45, .ptr ((eOp x11).map .tr) 2), (44, .ptr ((eOp x11).map .tr) 0), (43, vi s3.1), (42, vl eOp aA), (41, vb false), (40, vb false), (39, vb false), (38, vi x10.Number), (37, .ptr ((eOp x10).map .tr) 1), (36, .ptr ((eOp x10).map .tr) 0), (35, vi s3.1), (34, vl eOp aB), (33, vi x9.Number), (32, .ptr ((eOp x9).map .tr) 1), (31, .ptr ((eOp x9).map .tr) 0), (30, vi s3.1), (29, vl eOp aA), (28, vb false), (27, vb false), (26, vi x8.Office), (25, .ptr ((eOp x8).map .tr) 0), (24, .ptr ((eOp x8).map .tr) 0), (23, vi s3.1), (22, vl eOp aB), (21, vi x7.Office), (20, .ptr ((eOp x7).map .tr) 0), (19, .ptr ((eOp x7).map .tr) 0), (18, vi s3.1), (17, vl eOp aA), (0, vl eOp aA), (1, vl eOp aB), (5, vi s3.1), (14, vb (decide (s3.1 < (aA.length : Int))))], []⟩) (by kernel_rfl) ?_
  obtain ⟨x17, hx17, h⟩ := bind_some h
  refine DGo.step (x_lstep_call (f := 42) (caps := []) (xs := [vl (eI .i64) x15.Seen, vl (eI .i64) x16.Seen]) (ys := [vl (eI .i64) x15.Seen, vl (eI .i64) x16.Seen]) (res := ⟨[.v (vb x17)], [], false⟩) (x := vb x17) (y := none) rfl ents42 (laws_likeInts_run x15.Seen x16.Seen _ hx17) rfl (by intro hc; cases hc)) ?_
  refine DGo.chunk' tbok 2 (σ' := ⟨81, [(80, vb (!x17)), (79, vb (!x17)), (78, vb x17), (77, vl (eI .i64) x16.Seen), (76, .ptr ((eOp x16).map .tr) 4), (75, .ptr ((eOp x16).map .tr) 0), (74, vi s3.1), (73, vl eOp aB), (72, vl (eI .i64) x15.Seen), (71, .ptr ((eOp x15).map .tr) 4), (70, .ptr ((eOp x15).map .tr) 0), (69, vi s3.1), (68, vl eOp aA), (67, vb false), (66, vb false), (65, vb false), (64, vs x14.Text), (63, .ptr ((eOp x14).map .tr) 3), (62, .ptr ((eOp x14).map .tr) 0), (61, vi s3.1), (60, vl eOp aB), (59, vs x13.Text), (58, .ptr ((eOp x13).map .tr) 3), (57, .ptr ((eOp x13).map .tr) 0), (56, vi s3.1), (55, vl eOp aA), (54, vb false), (53, vb false), (52, vb false), (51, vs x12.Key), (50, .ptr ((eOp x12).map .tr) 2), (49, .ptr ((eOp x12).map .tr) 0), (48, vi s3.1), (47, vl eOp aB), (46, vs x11.Key), (45, .ptr ((eOp x11).map .tr) 2), (44, .ptr ((eOp x11).map .tr) 0), (43, vi s3.1), (42, vl eOp aA), (41, vb false), (40, vb false), (39, vb false), (38, vi x10.Number), (37, .ptr ((eOp x10).map .tr) 1), (36, .ptr ((eOp x10).map .tr) 0), (35, vi s3.1), (34, vl eOp aB), (33, vi x9.Number), (32, .ptr ((eOp x9).map .tr) 1), (31, .ptr ((eOp x9).map .tr) 0), (30, vi s3.1), (29, vl eOp aA), (28, vb false), (27, vb false), (26, vi x8.Office), (25, .ptr ((eOp x8).map .tr) 0), (24, .ptr ((eOp x8).map .tr) 0), (23, vi s3.1), (22, vl eOp aB), (21, vi x7.Office), (20, .ptr ((eOp x7).map .tr) 0), (19, .ptr ((eOp x7).map .tr) 0), (18, vi s3.1), (17, vl eOp aA), (0, vl eOp aA), (1, vl eOp aB), (5, vi s3.1), (14, vb (decide (s3.1 < (aA.length : Int))))], []⟩) (by kernel_rfl) ?_
  refine DGo.nil (by kernel_rfl) ?_
  replace h := Option.some.inj h
  subst h
  exact Le.sub0
  refine swp_cond (b := j18) (by kernel_rfl) (fun hb => ?_) (fun hb => ?_)
  replace h := cond_t hb h
  refine swp_seq ?_
  refine swp_reg ?_
  refine SRun.ck tbok 1 ⟨81, [(4, vb false)], []⟩ ?_
  refine SRun.nil ?_
  refine nx_n ?_
  refine swp_ret ?_
  replace h := Option.some.inj h
  subst h
  exact q_br (q_rr (q_rr (q_br (q_rr (q_fr (fin1 (by kernel_rfl) (finV rfl SV.flat_of (holds_t (by kernel_rfl)))))))))
  replace h := cond_f hb h
  refine swp_skip ?_
  replace h := Option.some.inj h
  subst h
  exact q_bn (q_l (Le.sub0))
  refine swp_reg ?_
  refine SRun.ck tbok 3 ⟨81, [(0, vl eOp aA), (1, vl eOp aB), (5, vi (w64 (s3.1 + 1)))], []⟩ ?_
  refine SRun.nil ?_
  replace h := Option.some.inj h
  subst h
  exact q_l (Le.sub0)
  replace h := cond_f hb h
  refine swp_exit ?_
  replace h := Option.some.inj h
  subst h
  exact nx_e (q_re (q_bh (q_l (Le.sub0))))
  refine swp_seq ?_
  refine swp_reg ?_
  refine SRun.ck tbok 1 ⟨81, [(4, vb true)], []⟩ ?_
  refine SRun.nil ?_
  refine nx_n ?_
  refine swp_ret ?_
  replace h := Option.some.inj h
  subst h
  exact q_fr (fin1 (by kernel_rfl) (finV rfl SV.flat_of (holds_t (by kernel_rfl))))
theorem ents41 : Ents Tryd.prog 41 := ents_of Tryd.func41 (by kernel_rfl) rfl
end Go.Proofs.YthfcdicfcepfhaaDoor.Sh
