/- Typed functions and the calls that do what they say. -/
import Derived.Test.YthfcdicfcepfhaaDoorSE
import Derived.Test.YthfcdicfcepfhaaDoorKA
import Derived.Test.YthfcdicfcepfhaaDoorKS
import Derived.Test.YthfcdicfcepfhaaDoorH1
import Derived.Test.YthfcdicfcepfhaaDoorGA
namespace Go.Proofs.YthfcdicfcepfhaaDoor.Sh
open Go.RowKit

def tblGB : Tb := [(2, ti2), (3, ti3), (4, ti4), (9, ti9), (25, ti25), (32, ti32), (61, ti61)]
theorem tbokGB : TbOk Tryd.prog tblGB := TbOk.cons ⟨by kernel_rfl, show Tryd.prog.underlying 2 = some (.int .i64) from by kernel_rfl⟩ (TbOk.cons ⟨by kernel_rfl, show Tryd.prog.underlying 3 = some (.int .i64) from by kernel_rfl⟩ (TbOk.cons ⟨by kernel_rfl, show Tryd.prog.underlying 4 = some (.bool) from by kernel_rfl⟩ (TbOk.cons ⟨by kernel_rfl, show Tryd.prog.underlying 9 = some (.string) from by kernel_rfl⟩ (TbOk.cons ⟨by kernel_rfl, show Tryd.prog.underlying 25 = some (.slice 61) from by kernel_rfl⟩ (TbOk.cons ⟨by kernel_rfl, show Tryd.prog.underlying 32 = some (.slice 2) from by kernel_rfl⟩ (TbOk.cons ⟨by kernel_rfl, show structOf Tryd.prog 61 = some [(0, 2), (1, 2), (2, 9), (3, 9), (4, 32)] from by kernel_rfl⟩ (TbOk.nil _)))))))
noncomputable def spec_l32Count (aLog : (List Op)) : Option ((List Int)) :=
  ((make' 0 4).bind fun x1 => (((forS (aLog.length : Int) (fun (i4 : Int) (s4 : (List Int)) => ((at' aLog i4).bind fun x8 => ((at' s4 x8.Office).bind fun x9 => ((at' s4 x8.Office).bind fun _ => some (List.set s4 (Int.toNat x8.Office) (w64 (x9 + 1))))))) (fun (s4 : (List Int)) => s4) 0 x1)).bind fun (j2 : (List Int)) => some j2))
set_option maxRecDepth 100000 in
set_option maxHeartbeats 4000000 in
theorem spec_l32Count_run (aLog : (List Op)) (r : (List Int)) (h : spec_l32Count aLog = some r) : SCall Tryd.prog 56 [.v (vl eOp aLog)] ⟨[.own 2 1 r.length (r.map (eI .i64))], [], false⟩ := by
  refine scall_in Tryd.func56 rfl [(.tmp 2)] rfl (fun r => ⟨[.own 2 1 r.length (r.map (eI .i64))], [], false⟩) (r := r) ?_
  unfold spec_l32Count at h
  refine swp_seq ?_
  refine swp_reg ?_
  refine SRun.ck tbokGB 1 ⟨23, [(0, vl eOp aLog)], []⟩ ?_
  refine SRun.nil ?_
  refine nx_n ?_
  refine swp_seq ?_
  refine swp_reg ?_
  obtain ⟨x1, hx1, h⟩ := bind_some h
  refine SRun.ls (x_make (z := 0) (f := (eI .i64)) (ti := ti32) (tj := ti2) (e := 2) (m := 1) (k := .i64) (k' := .i64) hx1 tbokGB rfl rfl (zs := [.int .i64 0])) ?_
  refine SRun.ck tbokGB 1 ⟨23, [(0, vl eOp aLog), (3, .own 5)], [(5, .arr 2 1 x1.length (x1.map (eI .i64)))]⟩ ?_
  refine SRun.nil ?_
  refine nx_n ?_
  refine swp_seq ?_
  refine swp_seq ?_
  refine swp_reg ?_
  refine SRun.ck tbokGB 1 ⟨23, [(0, vl eOp aLog), (3, .own 5), (4, vi 0)], [(5, .arr 2 1 x1.length (x1.map (eI .i64)))]⟩ ?_
  refine SRun.nil ?_
  refine nx_n ?_
  refine swp_seqJ h (fun j2 => ⟨23, [(3, .own 3)], [(3, .arr 2 1 j2.length (j2.map (eI .i64)))]⟩) (fun v3 h => ?_) (fun j2 h => ?_)
  refine swp_blk (a := v3) ?_
  refine swp_lpL (r := v3) (s := (0, x1)) _ (fun s4 => ⟨23, [(0, vl eOp aLog), (3, .own 3), (4, vi s4.1)], [(3, .arr 2 1 s4.2.length (s4.2.map (eI .i64)))]⟩) _ ((Le.sub' ([(0, vl eOp aLog), (3, .own 5), (4, vi 0)] : List (Nat × SV)) ([(5, .arr 2 1 x1.length (x1.map (eI .i64)))] : List (Nat × SO)) (by kernel_rfl) (by kernel_rfl)).trans ((Le.ren' (d := 5) (e := 3) (by kernel_rfl) (by kernel_rfl) (by kernel_rfl)).trans (Le.sub0))) h (fun s4 v5 h => ?_)
  refine swp_seq ?_
  refine swp_seq ?_
  refine swp_reg ?_
  refine SRun.ck tbokGB 4 ⟨23, [(0, vl eOp aLog), (3, .own 3), (4, vi s4.1), (9, vb (decide (s4.1 < (aLog.length : Int))))], [(3, .arr 2 1 s4.2.length (s4.2.map (eI .i64)))]⟩ ?_
  refine SRun.nil ?_
  refine nx_n ?_
  refine swp_cond (b := (decide (s4.1 < (aLog.length : Int)))) (by kernel_rfl) (fun hb => ?_) (fun hb => ?_)
  replace h := cond_t hb h
  refine swp_skip ?_
  refine nx_n ?_
  refine swp_seq ?_
  refine swp_seqJ h (fun j6 => ⟨23, [(0, vl eOp aLog), (3, .own 3), (4, vi s4.1)], [(3, .arr 2 1 j6.length (j6.map (eI .i64)))]⟩) (fun v7 h => ?_) (fun j6 h => ?_)
  refine swp_blk (a := v7) ?_
  refine swp_reg ?_
  refine SRun.ck tbokGB 3 ⟨23, [(0, vl eOp aLog), (3, .own 3), (4, vi s4.1), (12, .own 3), (13, vl eOp aLog), (14, vi s4.1)], [(3, .arr 2 1 s4.2.length (s4.2.map (eI .i64)))]⟩ ?_
  obtain ⟨x8, hx8, h⟩ := bind_some h
  refine SRun.ls (x_index (L := aLog) (f := eOp) (ti := ti25) (tj := ti61) (e := 61) (k := .i64) tbokGB rfl hx8) ?_
  refine SRun.ck tbokGB 2 ⟨23, [(0, vl eOp aLog), (3, .own 3), (4, vi s4.1), (12, .own 3), (17, vi x8.Office)], [(3, .arr 2 1 s4.2.length (s4.2.map (eI .i64)))]⟩ ?_
  obtain ⟨x9, hx9, h⟩ := bind_some h
  refine SRun.ls (x_index_own (d := 3) (L := s4.2) (f := (eI .i64)) (ti := ti32) (tj := ti2) (e := 2) (e' := 2) (m := 1) (k := .i64) tbokGB rfl hx9) ?_
  refine SRun.ls (x_load_own (d := 3) (m := 1) (j := 0) (L := s4.2) (f := (eI .i64)) (ti := ti2) (e := 2) (v := vi x9) tbokGB rfl hx9) ?_
  refine SRun.ck tbokGB 1 ⟨23, [(0, vl eOp aLog), (3, .own 3), (4, vi s4.1), (12, .own 3), (17, vi x8.Office), (20, vi (w64 (x9 + 1)))], [(3, .arr 2 1 s4.2.length (s4.2.map (eI .i64)))]⟩ ?_
  obtain ⟨x10, hx10, h⟩ := bind_some h
  refine SRun.ls (x_index_own (d := 3) (L := s4.2) (f := (eI .i64)) (ti := ti32) (tj := ti2) (e := 2) (e' := 2) (m := 1) (k := .i64) tbokGB rfl hx10) ?_
  refine SRun.estep (x_store_own (d := 3) (m := 1) (j := 0) (L := s4.2) (f := (eI .i64)) (x := (w64 (x9 + 1))) (z := x10) (ti := ti2) (e := 2) (ts := [.int .i64 (w64 (x9 + 1))]) (vs := [vi (w64 (x9 + 1))]) (v := vi (w64 (x9 + 1))) tbokGB rfl rfl hx10) ?_
  refine SRun.nil ?_
  replace h := Option.some.inj h
  subst h
  exact q_bn (q_j (Le.sub0))
  refine swp_reg ?_
  refine SRun.ck tbokGB 3 ⟨23, [(0, vl eOp aLog), (3, .own 3), (4, vi (w64 (s4.1 + 1)))], [(3, .arr 2 1 j6.length (j6.map (eI .i64)))]⟩ ?_
  refine SRun.nil ?_
  replace h := Option.some.inj h
  subst h
  exact q_l (Le.sub0)
  replace h := cond_f hb h
  refine swp_exit ?_
  replace h := Option.some.inj h
  subst h
  exact nx_e (q_re (q_bh (q_j (Le.sub0))))
  refine swp_seq ?_
  refine swp_reg ?_
  refine SRun.ck tbokGB 2 ⟨23, [(2, .own 3)], [(3, .arr 2 1 j2.length (j2.map (eI .i64)))]⟩ ?_
  refine SRun.nil ?_
  refine nx_n ?_
  refine swp_ret ?_
  replace h := Option.some.inj h
  subst h
  exact q_fr (fin1 (by kernel_rfl) (finO (d := 3) (holds_t (by kernel_rfl)) (by kernel_rfl) (flat_map (eI_flat .i64) _) (by kernel_rfl)))
theorem ents56 : Ents Tryd.prog 56 := ents_of Tryd.func56 (by kernel_rfl) rfl
noncomputable def spec_VectorOf (aLog : (List Op)) : Option ((List Int) × Int) :=
  ((spec_IsLog aLog).bind fun x1 => (bif (!x1) then some (([] : List Int), 1) else ((spec_l32Count aLog).bind fun x2 => some (x2, 0))))
set_option maxRecDepth 100000 in
set_option maxHeartbeats 4000000 in
theorem spec_VectorOf_run (aLog : (List Op)) (r : (List Int) × Int) (h : spec_VectorOf aLog = some r) : SCall Tryd.prog 19 [.v (vl eOp aLog)] ⟨[.own 2 1 r.1.length (r.1.map (eI .i64)), .v (vi r.2)], [], false⟩ := by
  refine scall_in Tryd.func19 rfl [(.tmp 2), (.tmp 3)] rfl (fun r => ⟨[.own 2 1 r.1.length (r.1.map (eI .i64)), .v (vi r.2)], [], false⟩) (r := r) ?_
  unfold spec_VectorOf at h
  refine swp_seq ?_
  refine swp_reg ?_
  refine SRun.ck tbokGB 2 ⟨9, [(0, vl eOp aLog)], []⟩ ?_
  refine SRun.nil ?_
  refine nx_n ?_
  refine swp_seq ?_
  refine swp_seq ?_
  refine swp_reg ?_
  refine SRun.ck tbokGB 1 ⟨9, [(0, vl eOp aLog), (4, vl eOp aLog)], []⟩ ?_
  obtain ⟨x1, hx1, h⟩ := bind_some h
  refine SRun.ls (x_lstep_call (f := 13) (caps := []) (xs := [vl eOp aLog]) (ys := [vl eOp aLog]) (res := ⟨[.v (vb x1)], [], false⟩) (x := vb x1) (y := none) rfl ents13 (spec_IsLog_run aLog _ hx1) rfl (by intro hc; cases hc)) ?_
  refine SRun.ck tbokGB 1 ⟨9, [(0, vl eOp aLog), (6, vb (!x1))], []⟩ ?_
  refine SRun.nil ?_
  refine nx_n ?_
  refine swp_cond (b := (!x1)) (by kernel_rfl) (fun hb => ?_) (fun hb => ?_)
  replace h := cond_t hb h
  refine swp_seq ?_
  refine swp_reg ?_
  refine SRun.ck tbokGB 2 ⟨9, [(2, .own 2), (3, vi 1)], [(2, .arr 2 1 ([] : List Int).length (([] : List Int).map (eI .i64)))]⟩ ?_
  refine SRun.nil ?_
  refine nx_n ?_
  refine swp_ret ?_
  replace h := Option.some.inj h
  subst h
  exact nx_r (q_fr (fin2 (by kernel_rfl) (finO (d := 2) (holds_t (by kernel_rfl)) (by kernel_rfl) (flat_map (eI_flat .i64) _) (by kernel_rfl)) (finV rfl SV.flat_of (holds_t (by kernel_rfl)))))
  replace h := cond_f hb h
  refine swp_skip ?_
  refine nx_n ?_
  refine swp_seq ?_
  refine swp_reg ?_
  refine SRun.ck tbokGB 1 ⟨9, [(7, vl eOp aLog)], []⟩ ?_
  obtain ⟨x2, hx2, h⟩ := bind_some h
  refine SRun.ls (x_lstep_call (f := 56) (caps := []) (xs := [vl eOp aLog]) (ys := [vl eOp aLog]) (res := ⟨[.own 2 1 x2.length (x2.map (eI .i64))], [], false⟩) (x := .own 8) (y := some (.arr 2 1 x2.length (x2.map (eI .i64)))) rfl ents56 (spec_l32Count_run aLog _ hx2) rfl (by intro hc; cases hc)) ?_
  refine SRun.ck tbokGB 2 ⟨9, [(2, .own 8), (3, vi 0)], [(8, .arr 2 1 x2.length (x2.map (eI .i64)))]⟩ ?_
  refine SRun.nil ?_
  refine nx_n ?_
  refine swp_ret ?_
  replace h := Option.some.inj h
  subst h
  exact q_fr (fin2 (by kernel_rfl) (finO (d := 8) (holds_t (by kernel_rfl)) (by kernel_rfl) (flat_map (eI_flat .i64) _) (by kernel_rfl)) (finV rfl SV.flat_of (holds_t (by kernel_rfl))))
theorem ents19 : Ents Tryd.prog 19 := ents_of Tryd.func19 (by kernel_rfl) rfl
noncomputable def impl_VectorOf (aLog : (List Op)) : Option ((List Int) × Int) :=
  ((impl_IsLog aLog).bind fun x1 => (bif (!x1) then some (([] : List Int), 1) else ((impl_vectorOf aLog).bind fun x2 => some (x2, 0))))
set_option maxRecDepth 100000 in
set_option maxHeartbeats 4000000 in
theorem impl_VectorOf_run (aLog : (List Op)) (r : (List Int) × Int) (h : impl_VectorOf aLog = some r) : SCall Tryd.prog 20 [.v (vl eOp aLog)] ⟨[.own 2 1 r.1.length (r.1.map (eI .i64)), .v (vi r.2)], [], false⟩ := by
  refine scall_in Tryd.func20 rfl [(.tmp 2), (.tmp 3)] rfl (fun r => ⟨[.own 2 1 r.1.length (r.1.map (eI .i64)), .v (vi r.2)], [], false⟩) (r := r) ?_
  unfold impl_VectorOf at h
  refine swp_seq ?_
  refine swp_reg ?_
  refine SRun.ck tbokGB 2 ⟨9, [(0, vl eOp aLog)], []⟩ ?_
  refine SRun.nil ?_
  refine nx_n ?_
  refine swp_seq ?_
  refine swp_seq ?_
  refine swp_reg ?_
  refine SRun.ck tbokGB 1 ⟨9, [(0, vl eOp aLog), (4, vl eOp aLog)], []⟩ ?_
  obtain ⟨x1, hx1, h⟩ := bind_some h
  refine SRun.ls (x_lstep_call (f := 15) (caps := []) (xs := [vl eOp aLog]) (ys := [vl eOp aLog]) (res := ⟨[.v (vb x1)], [], false⟩) (x := vb x1) (y := none) rfl ents15 (impl_IsLog_run aLog _ hx1) rfl (by intro hc; cases hc)) ?_
  refine SRun.ck tbokGB 1 ⟨9, [(0, vl eOp aLog), (6, vb (!x1))], []⟩ ?_
  refine SRun.nil ?_
  refine nx_n ?_
  refine swp_cond (b := (!x1)) (by kernel_rfl) (fun hb => ?_) (fun hb => ?_)
  replace h := cond_t hb h
  refine swp_seq ?_
  refine swp_reg ?_
  refine SRun.ck tbokGB 2 ⟨9, [(2, .own 2), (3, vi 1)], [(2, .arr 2 1 ([] : List Int).length (([] : List Int).map (eI .i64)))]⟩ ?_
  refine SRun.nil ?_
  refine nx_n ?_
  refine swp_ret ?_
  replace h := Option.some.inj h
  subst h
  exact nx_r (q_fr (fin2 (by kernel_rfl) (finO (d := 2) (holds_t (by kernel_rfl)) (by kernel_rfl) (flat_map (eI_flat .i64) _) (by kernel_rfl)) (finV rfl SV.flat_of (holds_t (by kernel_rfl)))))
  replace h := cond_f hb h
  refine swp_skip ?_
  refine nx_n ?_
  refine swp_seq ?_
  refine swp_reg ?_
  refine SRun.ck tbokGB 1 ⟨9, [(7, vl eOp aLog)], []⟩ ?_
  obtain ⟨x2, hx2, h⟩ := bind_some h
  refine SRun.ls (x_lstep_call (f := 50) (caps := []) (xs := [vl eOp aLog]) (ys := [vl eOp aLog]) (res := ⟨[.own 2 1 x2.length (x2.map (eI .i64))], [], false⟩) (x := .own 8) (y := some (.arr 2 1 x2.length (x2.map (eI .i64)))) rfl ents50 (impl_vectorOf_run aLog _ hx2) rfl (by intro hc; cases hc)) ?_
  refine SRun.ck tbokGB 2 ⟨9, [(2, .own 8), (3, vi 0)], [(8, .arr 2 1 x2.length (x2.map (eI .i64)))]⟩ ?_
  refine SRun.nil ?_
  refine nx_n ?_
  refine swp_ret ?_
  replace h := Option.some.inj h
  subst h
  exact q_fr (fin2 (by kernel_rfl) (finO (d := 8) (holds_t (by kernel_rfl)) (by kernel_rfl) (flat_map (eI_flat .i64) _) (by kernel_rfl)) (finV rfl SV.flat_of (holds_t (by kernel_rfl))))
theorem ents20 : Ents Tryd.prog 20 := ents_of Tryd.func20 (by kernel_rfl) rfl
noncomputable def spec_MissingFor (aLog : (List Op)) (aVector : (List Int)) : Option ((List Int) × Int) :=
  ((((spec_IsLog aLog).bind fun x1 => (bif (!x1) then some true else ((spec_l32Vector aVector).bind fun x2 => some (!x2))))).bind fun (j3 : Bool) => (bif j3 then some (([] : List Int), 1) else (((forS (aLog.length : Int) (fun (i7 : Int) (s7 : (List Int)) => ((at' aLog i7).bind fun x11 => ((at' aLog i7).bind fun x12 => ((at' aVector x12.Office).bind fun x13 => (bif (decide (x11.Number > x13)) then ((app' s7 ([i7] : List Int)).bind fun x14 => some x14) else some s7))))) (fun (s7 : (List Int)) => s7) 0 ([] : List Int))).bind fun (j5 : (List Int)) => some (j5, 0))))
set_option maxRecDepth 100000 in
set_option maxHeartbeats 4000000 in
theorem spec_MissingFor_run (aLog : (List Op)) (aVector : (List Int)) (r : (List Int) × Int) (h : spec_MissingFor aLog aVector = some r) : SCall Tryd.prog 25 [.v (vl eOp aLog), .v (vl (eI .i64) aVector)] ⟨[.own 2 1 r.1.length (r.1.map (eI .i64)), .v (vi r.2)], [], false⟩ := by
  refine scall_in Tryd.func25 rfl [(.tmp 4), (.tmp 5)] rfl (fun r => ⟨[.own 2 1 r.1.length (r.1.map (eI .i64)), .v (vi r.2)], [], false⟩) (r := r) ?_
  unfold spec_MissingFor at h
  refine swp_seq ?_
  refine swp_reg ?_
  refine SRun.ck tbokGB 2 ⟨42, [(0, vl eOp aLog), (1, vl (eI .i64) aVector)], []⟩ ?_
  refine SRun.nil ?_
  refine nx_n ?_
  refine swp_seq ?_
  refine swp_seq ?_
  refine swp_regJ h (fun j3 => ⟨42, [(0, vl eOp aLog), (1, vl (eI .i64) aVector), (15, vb j3)], []⟩) (fun v4 h => ?_) (fun j3 h => ?_)
  refine SRun.ck tbokGB 1 ⟨42, [(0, vl eOp aLog), (1, vl (eI .i64) aVector), (8, vl eOp aLog)], []⟩ ?_
  obtain ⟨x1, hx1, h⟩ := bind_some h
  refine SRun.ls (x_lstep_call (f := 13) (caps := []) (xs := [vl eOp aLog]) (ys := [vl eOp aLog]) (res := ⟨[.v (vb x1)], [], false⟩) (x := vb x1) (y := none) rfl ents13 (spec_IsLog_run aLog _ hx1) rfl (by intro hc; cases hc)) ?_
  refine SRun.ck tbokGB 2 ⟨42, [(0, vl eOp aLog), (1, vl (eI .i64) aVector), (11, vb (!x1))], []⟩ ?_
  refine SRun.cut [(11, fun b => b)] (b := (!x1)) (by kernel_rfl) (fun hb => ?_) (fun hb => ?_)
  replace h := cond_t hb h
  refine SRun.ck tbokGB 4 ⟨42, [(0, vl eOp aLog), (1, vl (eI .i64) aVector), (15, vb true)], []⟩ ?_
  refine SRun.nil ?_
  replace h := Option.some.inj h
  subst h
  exact Le.sub0
  replace h := cond_f hb h
  refine SRun.ck tbokGB 1 ⟨42, [(0, vl eOp aLog), (1, vl (eI .i64) aVector), (11, vb false), (12, vl (eI .i64) aVector)], []⟩ ?_
  obtain ⟨x2, hx2, h⟩ := bind_some h
  refine SRun.ls (x_lstep_call (f := 47) (caps := []) (xs := [vl (eI .i64) aVector]) (ys := [vl (eI .i64) aVector]) (res := ⟨[.v (vb x2)], [], false⟩) (x := vb x2) (y := none) rfl ents47 (spec_l32Vector_run aVector _ hx2) rfl (by intro hc; cases hc)) ?_
  refine SRun.ck tbokGB 2 ⟨42, [(0, vl eOp aLog), (1, vl (eI .i64) aVector), (15, vb (!x2))], []⟩ ?_
  refine SRun.nil ?_
  replace h := Option.some.inj h
  subst h
  exact Le.sub0
  refine swp_cond (b := j3) (by kernel_rfl) (fun hb => ?_) (fun hb => ?_)
  replace h := cond_t hb h
  refine swp_seq ?_
  refine swp_reg ?_
  refine SRun.ck tbokGB 2 ⟨42, [(4, .own 4), (5, vi 1)], [(4, .arr 2 1 ([] : List Int).length (([] : List Int).map (eI .i64)))]⟩ ?_
  refine SRun.nil ?_
  refine nx_n ?_
  refine swp_ret ?_
  replace h := Option.some.inj h
  subst h
  exact nx_r (q_fr (fin2 (by kernel_rfl) (finO (d := 4) (holds_t (by kernel_rfl)) (by kernel_rfl) (flat_map (eI_flat .i64) _) (by kernel_rfl)) (finV rfl SV.flat_of (holds_t (by kernel_rfl)))))
  replace h := cond_f hb h
  refine swp_skip ?_
  refine nx_n ?_
  refine swp_seq ?_
  refine swp_reg ?_
  refine SRun.ck tbokGB 2 ⟨42, [(0, vl eOp aLog), (1, vl (eI .i64) aVector), (6, .own 16)], [(16, .arr 2 1 ([] : List Int).length (([] : List Int).map (eI .i64)))]⟩ ?_
  refine SRun.nil ?_
  refine nx_n ?_
  refine swp_seq ?_
  refine swp_seq ?_
  refine swp_reg ?_
  refine SRun.ck tbokGB 1 ⟨42, [(0, vl eOp aLog), (1, vl (eI .i64) aVector), (6, .own 16), (7, vi 0)], [(16, .arr 2 1 ([] : List Int).length (([] : List Int).map (eI .i64)))]⟩ ?_
  refine SRun.nil ?_
  refine nx_n ?_
  refine swp_seqJ h (fun j5 => ⟨42, [(6, .own 6)], [(6, .arr 2 1 j5.length (j5.map (eI .i64)))]⟩) (fun v6 h => ?_) (fun j5 h => ?_)
  refine swp_blk (a := v6) ?_
  refine swp_lpL (r := v6) (s := (0, ([] : List Int))) _ (fun s7 => ⟨42, [(0, vl eOp aLog), (1, vl (eI .i64) aVector), (6, .own 6), (7, vi s7.1)], [(6, .arr 2 1 s7.2.length (s7.2.map (eI .i64)))]⟩) _ ((Le.sub' ([(0, vl eOp aLog), (1, vl (eI .i64) aVector), (6, .own 16), (7, vi 0)] : List (Nat × SV)) ([(16, .arr 2 1 ([] : List Int).length (([] : List Int).map (eI .i64)))] : List (Nat × SO)) (by kernel_rfl) (by kernel_rfl)).trans ((Le.ren' (d := 16) (e := 6) (by kernel_rfl) (by kernel_rfl) (by kernel_rfl)).trans (Le.sub0))) h (fun s7 v8 h => ?_)
  refine swp_seq ?_
  refine swp_seq ?_
  refine swp_reg ?_
  refine SRun.ck tbokGB 4 ⟨42, [(0, vl eOp aLog), (1, vl (eI .i64) aVector), (6, .own 6), (7, vi s7.1), (20, vb (decide (s7.1 < (aLog.length : Int))))], [(6, .arr 2 1 s7.2.length (s7.2.map (eI .i64)))]⟩ ?_
  refine SRun.nil ?_
  refine nx_n ?_
  refine swp_cond (b := (decide (s7.1 < (aLog.length : Int)))) (by kernel_rfl) (fun hb => ?_) (fun hb => ?_)
  replace h := cond_t hb h
  refine swp_skip ?_
  refine nx_n ?_
  refine swp_seq ?_
  refine swp_seqJ h (fun j9 => ⟨42, [(0, vl eOp aLog), (1, vl (eI .i64) aVector), (6, .own 6), (7, vi s7.1)], [(6, .arr 2 1 j9.length (j9.map (eI .i64)))]⟩) (fun v10 h => ?_) (fun j9 h => ?_)
  refine swp_blk (a := v10) ?_
  refine swp_seq ?_
  refine swp_dr mixed ?_
  refine DGo.chunk' tbokGB 2 (σ' := ⟨42, [(24, vi s7.1), (23, vl eOp aLog), (0, vl eOp aLog), (1, vl (eI .i64) aVector), (6, .own 6), (7, vi s7.1), (20, vb (decide (s7.1 < (aLog.length : Int))))], [(6, .arr 2 1 s7.2.length (s7.2.map (eI .i64)))]⟩) (by kernel_rfl) ?_
  obtain ⟨x11, hx11, h⟩ := bind_some h
  refine DGo.step (x_index (L := aLog) (f := eOp) (ti := ti25) (tj := ti61) (e := 61) (k := .i64) tbokGB rfl hx11) ?_
  refine DGo.chunk' tbokGB 5 (σ' := ⟨42, [(30, vi s7.1), (29, vl eOp aLog), (28, vl (eI .i64) aVector), (27, vi x11.Number), (26, .ptr ((eOp x11).map .tr) 1), (25, .ptr ((eOp x11).map .tr) 0), (24, vi s7.1), (23, vl eOp aLog), (0, vl eOp aLog), (1, vl (eI .i64) aVector), (6, .own 6), (7, vi s7.1), (20, vb (decide (s7.1 < (aLog.length : Int))))], [(6, .arr 2 1 s7.2.length (s7.2.map (eI .i64)))]⟩) (by kernel_rfl) ?_
  obtain ⟨x12, hx12, h⟩ := bind_some h
  refine DGo.step (x_index (L := aLog) (f := eOp) (ti := ti25) (tj := ti61) (e := 61) (k := .i64) tbokGB rfl hx12) ?_
  refine DGo.chunk' tbokGB 2 (σ' := ⟨42, [(33, vi x12.Office), (32, .ptr ((eOp x12).map .tr) 0), (31, .ptr ((eOp x12).map .tr) 0), (30, vi s7.1), (29, vl eOp aLog), (28, vl (eI .i64) aVector), (27, vi x11.Number), (26, .ptr ((eOp x11).map .tr) 1), (25, .ptr ((eOp x11).map .tr) 0), (24, vi s7.1), (23, vl eOp aLog), (0, vl eOp aLog), (1, vl (eI .i64) aVector), (6, .own 6), (7, vi s7.1), (20, vb (decide (s7.1 < (aLog.length : Int))))], [(6, .arr 2 1 s7.2.length (s7.2.map (eI .i64)))]⟩) (by kernel_rfl) ?_
  obtain ⟨x13, hx13, h⟩ := bind_some h
  refine DGo.step (x_index (L := aVector) (f := (eI .i64)) (ti := ti32) (tj := ti2) (e := 2) (k := .i64) tbokGB rfl hx13) ?_
  refine DGo.chunk' tbokGB 2 (σ' := ⟨42, [(36, vb (decide (x11.Number > x13))), (35, vi x13), (34, .ptr (((eI .i64) x13).map .tr) 0), (33, vi x12.Office), (32, .ptr ((eOp x12).map .tr) 0), (31, .ptr ((eOp x12).map .tr) 0), (30, vi s7.1), (29, vl eOp aLog), (28, vl (eI .i64) aVector), (27, vi x11.Number), (26, .ptr ((eOp x11).map .tr) 1), (25, .ptr ((eOp x11).map .tr) 0), (24, vi s7.1), (23, vl eOp aLog), (0, vl eOp aLog), (1, vl (eI .i64) aVector), (6, .own 6), (7, vi s7.1), (20, vb (decide (s7.1 < (aLog.length : Int))))], [(6, .arr 2 1 s7.2.length (s7.2.map (eI .i64)))]⟩) (by kernel_rfl) ?_
  refine DGo.nil (by kernel_rfl) ?_
  refine nx_n ?_
  refine swp_cond (b := (decide (x11.Number > x13))) (by kernel_rfl) (fun hb => ?_) (fun hb => ?_)
  replace h := cond_t hb h
  refine swp_reg ?_
  refine SRun.ck tbokGB 3 ⟨42, [(0, vl eOp aLog), (1, vl (eI .i64) aVector), (7, vi s7.1), (37, .own 6), (39, .own 39)], [(6, .arr 2 1 s7.2.length (s7.2.map (eI .i64))), (39, .arr 2 1 ([s7.1] : List Int).length (([s7.1] : List Int).map (eI .i64)))]⟩ ?_
  obtain ⟨x14, hx14, h⟩ := bind_some h
  refine SRun.estep (x_append (f := (eI .i64)) (t := 32) (ti := ti32) (tj := ti2) (zs := [.int .i64 0]) (e := 2) (m := 1) (d := 6) (xv := .own 39) hx14 tbokGB rfl rfl rfl rfl (x_src_o (e := 2))) ?_
  refine SRun.ck tbokGB 1 ⟨42, [(0, vl eOp aLog), (1, vl (eI .i64) aVector), (6, .own 40), (7, vi s7.1)], [(40, .arr 2 1 x14.length (x14.map (eI .i64)))]⟩ ?_
  refine SRun.nil ?_
  replace h := Option.some.inj h
  subst h
  exact q_bn (q_j ((Le.sub' ([(0, vl eOp aLog), (1, vl (eI .i64) aVector), (6, .own 40), (7, vi s7.1)] : List (Nat × SV)) ([(40, .arr 2 1 x14.length (x14.map (eI .i64)))] : List (Nat × SO)) (by kernel_rfl) (by kernel_rfl)).trans ((Le.ren' (d := 40) (e := 6) (by kernel_rfl) (by kernel_rfl) (by kernel_rfl)).trans (Le.sub0))))
  replace h := cond_f hb h
  refine swp_skip ?_
  replace h := Option.some.inj h
  subst h
  exact q_bn (q_j (Le.sub0))
  refine swp_reg ?_
  refine SRun.ck tbokGB 3 ⟨42, [(0, vl eOp aLog), (1, vl (eI .i64) aVector), (6, .own 6), (7, vi (w64 (s7.1 + 1)))], [(6, .arr 2 1 j9.length (j9.map (eI .i64)))]⟩ ?_
  refine SRun.nil ?_
  replace h := Option.some.inj h
  subst h
  exact q_l (Le.sub0)
  replace h := cond_f hb h
  refine swp_exit ?_
  replace h := Option.some.inj h
  subst h
  exact nx_e (q_re (q_bh (q_j (Le.sub0))))
  refine swp_seq ?_
  refine swp_reg ?_
  refine SRun.ck tbokGB 3 ⟨42, [(4, .own 6), (5, vi 0)], [(6, .arr 2 1 j5.length (j5.map (eI .i64)))]⟩ ?_
  refine SRun.nil ?_
  refine nx_n ?_
  refine swp_ret ?_
  replace h := Option.some.inj h
  subst h
  exact q_fr (fin2 (by kernel_rfl) (finO (d := 6) (holds_t (by kernel_rfl)) (by kernel_rfl) (flat_map (eI_flat .i64) _) (by kernel_rfl)) (finV rfl SV.flat_of (holds_t (by kernel_rfl))))
theorem ents25 : Ents Tryd.prog 25 := ents_of Tryd.func25 (by kernel_rfl) rfl
noncomputable def impl_MissingFor (aLog : (List Op)) (aVector : (List Int)) : Option ((List Int) × Int) :=
  ((((impl_IsLog aLog).bind fun x1 => (bif (!x1) then some true else ((impl_isVector aVector).bind fun x2 => some (!x2))))).bind fun (j3 : Bool) => (bif j3 then some (([] : List Int), 1) else (((forS (aLog.length : Int) (fun (i7 : Int) (s7 : (List Int)) => ((at' aLog i7).bind fun x11 => ((at' aVector x11.Office).bind fun x12 => (bif (decide (x11.Number > x12)) then ((app' s7 ([i7] : List Int)).bind fun x13 => some x13) else some s7)))) (fun (s7 : (List Int)) => s7) 0 ([] : List Int))).bind fun (j5 : (List Int)) => some (j5, 0))))
set_option maxRecDepth 100000 in
set_option maxHeartbeats 4000000 in
theorem impl_MissingFor_run (aLog : (List Op)) (aVector : (List Int)) (r : (List Int) × Int) (h : impl_MissingFor aLog aVector = some r) : SCall Tryd.prog 27 [.v (vl eOp aLog), .v (vl (eI .i64) aVector)] ⟨[.own 2 1 r.1.length (r.1.map (eI .i64)), .v (vi r.2)], [], false⟩ := by
  refine scall_in Tryd.func27 rfl [(.tmp 4), (.tmp 5)] rfl (fun r => ⟨[.own 2 1 r.1.length (r.1.map (eI .i64)), .v (vi r.2)], [], false⟩) (r := r) ?_
  unfold impl_MissingFor at h
  refine swp_seq ?_
  refine swp_reg ?_
  refine SRun.ck tbokGB 2 ⟨38, [(0, vl eOp aLog), (1, vl (eI .i64) aVector)], []⟩ ?_
  refine SRun.nil ?_
  refine nx_n ?_
  refine swp_seq ?_
  refine swp_seq ?_
  refine swp_regJ h (fun j3 => ⟨38, [(0, vl eOp aLog), (1, vl (eI .i64) aVector), (16, vb j3)], []⟩) (fun v4 h => ?_) (fun j3 h => ?_)
  refine SRun.ck tbokGB 1 ⟨38, [(0, vl eOp aLog), (1, vl (eI .i64) aVector), (9, vl eOp aLog)], []⟩ ?_
  obtain ⟨x1, hx1, h⟩ := bind_some h
  refine SRun.ls (x_lstep_call (f := 15) (caps := []) (xs := [vl eOp aLog]) (ys := [vl eOp aLog]) (res := ⟨[.v (vb x1)], [], false⟩) (x := vb x1) (y := none) rfl ents15 (impl_IsLog_run aLog _ hx1) rfl (by intro hc; cases hc)) ?_
  refine SRun.ck tbokGB 2 ⟨38, [(0, vl eOp aLog), (1, vl (eI .i64) aVector), (12, vb (!x1))], []⟩ ?_
  refine SRun.cut [(12, fun b => b)] (b := (!x1)) (by kernel_rfl) (fun hb => ?_) (fun hb => ?_)
  replace h := cond_t hb h
  refine SRun.ck tbokGB 4 ⟨38, [(0, vl eOp aLog), (1, vl (eI .i64) aVector), (16, vb true)], []⟩ ?_
  refine SRun.nil ?_
  replace h := Option.some.inj h
  subst h
  exact Le.sub0
  replace h := cond_f hb h
  refine SRun.ck tbokGB 1 ⟨38, [(0, vl eOp aLog), (1, vl (eI .i64) aVector), (12, vb false), (13, vl (eI .i64) aVector)], []⟩ ?_
  obtain ⟨x2, hx2, h⟩ := bind_some h
  refine SRun.ls (x_lstep_call (f := 58) (caps := []) (xs := [vl (eI .i64) aVector]) (ys := [vl (eI .i64) aVector]) (res := ⟨[.v (vb x2)], [], false⟩) (x := vb x2) (y := none) rfl ents58 (impl_isVector_run aVector _ hx2) rfl (by intro hc; cases hc)) ?_
  refine SRun.ck tbokGB 2 ⟨38, [(0, vl eOp aLog), (1, vl (eI .i64) aVector), (16, vb (!x2))], []⟩ ?_
  refine SRun.nil ?_
  replace h := Option.some.inj h
  subst h
  exact Le.sub0
  refine swp_cond (b := j3) (by kernel_rfl) (fun hb => ?_) (fun hb => ?_)
  replace h := cond_t hb h
  refine swp_seq ?_
  refine swp_reg ?_
  refine SRun.ck tbokGB 2 ⟨38, [(4, .own 4), (5, vi 1)], [(4, .arr 2 1 ([] : List Int).length (([] : List Int).map (eI .i64)))]⟩ ?_
  refine SRun.nil ?_
  refine nx_n ?_
  refine swp_ret ?_
  replace h := Option.some.inj h
  subst h
  exact nx_r (q_fr (fin2 (by kernel_rfl) (finO (d := 4) (holds_t (by kernel_rfl)) (by kernel_rfl) (flat_map (eI_flat .i64) _) (by kernel_rfl)) (finV rfl SV.flat_of (holds_t (by kernel_rfl)))))
  replace h := cond_f hb h
  refine swp_skip ?_
  refine nx_n ?_
  refine swp_seq ?_
  refine swp_reg ?_
  refine SRun.ck tbokGB 1 ⟨38, [(0, vl eOp aLog), (1, vl (eI .i64) aVector), (6, .own 6)], [(6, .arr 2 1 ([] : List Int).length (([] : List Int).map (eI .i64)))]⟩ ?_
  refine SRun.nil ?_
  refine nx_n ?_
  refine swp_seq ?_
  refine swp_seq ?_
  refine swp_reg ?_
  refine SRun.ck tbokGB 3 ⟨38, [(1, vl (eI .i64) aVector), (6, .own 6), (17, vl eOp aLog), (18, vi (aLog.length : Int)), (19, vi 0)], [(6, .arr 2 1 ([] : List Int).length (([] : List Int).map (eI .i64)))]⟩ ?_
  refine SRun.nil ?_
  refine nx_n ?_
  refine swp_seqJ h (fun j5 => ⟨38, [(6, .own 6)], [(6, .arr 2 1 j5.length (j5.map (eI .i64)))]⟩) (fun v6 h => ?_) (fun j5 h => ?_)
  refine swp_blk (a := v6) ?_
  refine swp_lpL (r := v6) (s := (0, ([] : List Int))) _ (fun s7 => ⟨38, [(1, vl (eI .i64) aVector), (6, .own 6), (17, vl eOp aLog), (18, vi (aLog.length : Int)), (19, vi s7.1)], [(6, .arr 2 1 s7.2.length (s7.2.map (eI .i64)))]⟩) _ (Le.sub0) h (fun s7 v8 h => ?_)
  refine swp_seq ?_
  refine swp_reg ?_
  refine SRun.ck tbokGB 1 ⟨38, [(1, vl (eI .i64) aVector), (6, .own 6), (17, vl eOp aLog), (18, vi (aLog.length : Int)), (19, vi s7.1), (20, vb (decide (s7.1 < (aLog.length : Int))))], [(6, .arr 2 1 s7.2.length (s7.2.map (eI .i64)))]⟩ ?_
  refine SRun.nil ?_
  refine nx_n ?_
  refine swp_seq ?_
  refine swp_cond (b := (decide (s7.1 < (aLog.length : Int)))) (by kernel_rfl) (fun hb => ?_) (fun hb => ?_)
  replace h := cond_t hb h
  refine swp_skip ?_
  refine nx_n ?_
  refine swp_seq ?_
  refine swp_seqJ h (fun j9 => ⟨38, [(1, vl (eI .i64) aVector), (6, .own 6), (17, vl eOp aLog), (18, vi (aLog.length : Int)), (19, vi s7.1)], [(6, .arr 2 1 j9.length (j9.map (eI .i64)))]⟩) (fun v10 h => ?_) (fun j9 h => ?_)
  refine swp_blk (a := v10) ?_
  refine swp_seq ?_
  refine swp_reg ?_
  refine SRun.ck tbokGB 1 ⟨38, [(1, vl (eI .i64) aVector), (6, .own 6), (17, vl eOp aLog), (18, vi (aLog.length : Int)), (19, vi s7.1), (21, vi s7.1)], [(6, .arr 2 1 s7.2.length (s7.2.map (eI .i64)))]⟩ ?_
  obtain ⟨x11, hx11, h⟩ := bind_some h
  refine SRun.ls (x_index (L := aLog) (f := eOp) (ti := ti25) (tj := ti61) (e := 61) (k := .i64) tbokGB rfl hx11) ?_
  refine SRun.ck tbokGB 3 ⟨38, [(1, vl (eI .i64) aVector), (6, .own 6), (7, vi s7.1), (8, .ref 8 0), (17, vl eOp aLog), (18, vi (aLog.length : Int)), (19, vi s7.1), (23, .agg [vi x11.Office, vi x11.Number, vs x11.Key, vs x11.Text, vl (eI .i64) x11.Seen])], [(6, .arr 2 1 s7.2.length (s7.2.map (eI .i64))), (8, .box [vi 0, vi 0, vs (ByteArray.mk #[]), vs (ByteArray.mk #[]), vl (eI .i64) ([] : List Int)])]⟩ ?_
  refine SRun.estep (x_estep_store (d := 8) (k := 0) (ti := ti61) (cs := [vi 0, vi 0, vs (ByteArray.mk #[]), vs (ByteArray.mk #[]), vl (eI .i64) ([] : List Int)]) (vs := [vi x11.Office, vi x11.Number, vs x11.Key, vs x11.Text, vl (eI .i64) x11.Seen]) (v := .agg [vi x11.Office, vi x11.Number, vs x11.Key, vs x11.Text, vl (eI .i64) x11.Seen]) tbokGB rfl rfl) ?_
  refine SRun.nil ?_
  refine nx_n ?_
  refine swp_seq ?_
  refine swp_dr mixed ?_
  refine DGo.chunk' tbokGB 5 (σ' := ⟨38, [(28, vi x11.Office), (27, .ref 8 0), (26, vl (eI .i64) aVector), (25, vi x11.Number), (24, .ref 8 1), (1, vl (eI .i64) aVector), (6, .own 6), (7, vi s7.1), (8, .ref 8 0), (17, vl eOp aLog), (18, vi (aLog.length : Int)), (19, vi s7.1), (23, .agg [vi x11.Office, vi x11.Number, vs x11.Key, vs x11.Text, vl (eI .i64) x11.Seen])], [(8, .box [vi x11.Office, vi x11.Number, vs x11.Key, vs x11.Text, vl (eI .i64) x11.Seen]), (6, .arr 2 1 s7.2.length (s7.2.map (eI .i64)))]⟩) (by kernel_rfl) ?_
  obtain ⟨x12, hx12, h⟩ := bind_some h
  refine DGo.step (x_index (L := aVector) (f := (eI .i64)) (ti := ti32) (tj := ti2) (e := 2) (k := .i64) tbokGB rfl hx12) ?_
  refine DGo.chunk' tbokGB 2 (σ' := ⟨38, [(31, vb (decide (x11.Number > x12))), (30, vi x12), (29, .ptr (((eI .i64) x12).map .tr) 0), (28, vi x11.Office), (27, .ref 8 0), (26, vl (eI .i64) aVector), (25, vi x11.Number), (24, .ref 8 1), (1, vl (eI .i64) aVector), (6, .own 6), (7, vi s7.1), (8, .ref 8 0), (17, vl eOp aLog), (18, vi (aLog.length : Int)), (19, vi s7.1), (23, .agg [vi x11.Office, vi x11.Number, vs x11.Key, vs x11.Text, vl (eI .i64) x11.Seen])], [(8, .box [vi x11.Office, vi x11.Number, vs x11.Key, vs x11.Text, vl (eI .i64) x11.Seen]), (6, .arr 2 1 s7.2.length (s7.2.map (eI .i64)))]⟩) (by kernel_rfl) ?_
  refine DGo.nil (by kernel_rfl) ?_
  refine nx_n ?_
  refine swp_cond (b := (decide (x11.Number > x12))) (by kernel_rfl) (fun hb => ?_) (fun hb => ?_)
  replace h := cond_t hb h
  refine swp_reg ?_
  refine SRun.ck tbokGB 3 ⟨38, [(1, vl (eI .i64) aVector), (17, vl eOp aLog), (18, vi (aLog.length : Int)), (19, vi s7.1), (32, .own 6), (34, .own 34)], [(6, .arr 2 1 s7.2.length (s7.2.map (eI .i64))), (34, .arr 2 1 ([s7.1] : List Int).length (([s7.1] : List Int).map (eI .i64)))]⟩ ?_
  obtain ⟨x13, hx13, h⟩ := bind_some h
  refine SRun.estep (x_append (f := (eI .i64)) (t := 32) (ti := ti32) (tj := ti2) (zs := [.int .i64 0]) (e := 2) (m := 1) (d := 6) (xv := .own 34) hx13 tbokGB rfl rfl rfl rfl (x_src_o (e := 2))) ?_
  refine SRun.ck tbokGB 1 ⟨38, [(1, vl (eI .i64) aVector), (6, .own 35), (17, vl eOp aLog), (18, vi (aLog.length : Int)), (19, vi s7.1)], [(35, .arr 2 1 x13.length (x13.map (eI .i64)))]⟩ ?_
  refine SRun.nil ?_
  replace h := Option.some.inj h
  subst h
  exact q_bn (q_j ((Le.sub' ([(1, vl (eI .i64) aVector), (6, .own 35), (17, vl eOp aLog), (18, vi (aLog.length : Int)), (19, vi s7.1)] : List (Nat × SV)) ([(35, .arr 2 1 x13.length (x13.map (eI .i64)))] : List (Nat × SO)) (by kernel_rfl) (by kernel_rfl)).trans ((Le.ren' (d := 35) (e := 6) (by kernel_rfl) (by kernel_rfl) (by kernel_rfl)).trans (Le.sub0))))
  replace h := cond_f hb h
  refine swp_skip ?_
  replace h := Option.some.inj h
  subst h
  exact q_bn (q_j (Le.sub0))
  refine swp_reg ?_
  refine SRun.ck tbokGB 2 ⟨38, [(1, vl (eI .i64) aVector), (6, .own 6), (17, vl eOp aLog), (18, vi (aLog.length : Int)), (19, vi (w64 (s7.1 + 1)))], [(6, .arr 2 1 j9.length (j9.map (eI .i64)))]⟩ ?_
  refine SRun.nil ?_
  replace h := Option.some.inj h
  subst h
  exact q_l (Le.sub0)
  replace h := cond_f hb h
  refine swp_exit ?_
  replace h := Option.some.inj h
  subst h
  exact nx_e (q_re (q_bh (q_j (Le.sub0))))
  refine swp_seq ?_
  refine swp_reg ?_
  refine SRun.ck tbokGB 3 ⟨38, [(4, .own 6), (5, vi 0)], [(6, .arr 2 1 j5.length (j5.map (eI .i64)))]⟩ ?_
  refine SRun.nil ?_
  refine nx_n ?_
  refine swp_ret ?_
  replace h := Option.some.inj h
  subst h
  exact q_fr (fin2 (by kernel_rfl) (finO (d := 6) (holds_t (by kernel_rfl)) (by kernel_rfl) (flat_map (eI_flat .i64) _) (by kernel_rfl)) (finV rfl SV.flat_of (holds_t (by kernel_rfl))))
theorem ents27 : Ents Tryd.prog 27 := ents_of Tryd.func27 (by kernel_rfl) rfl
noncomputable def spec_RivalsOf (aLog : (List Op)) (aKey : ByteArray) : Option ((List Int) × Int) :=
  ((spec_IsLog aLog).bind fun x1 => (bif (!x1) then some (([] : List Int), 1) else ((spec_l32Rivals aLog aKey).bind fun x2 => some (x2, 0))))
set_option maxRecDepth 100000 in
set_option maxHeartbeats 4000000 in
theorem spec_RivalsOf_run (aLog : (List Op)) (aKey : ByteArray) (r : (List Int) × Int) (h : spec_RivalsOf aLog aKey = some r) : SCall Tryd.prog 30 [.v (vl eOp aLog), .v (vs aKey)] ⟨[.own 2 1 r.1.length (r.1.map (eI .i64)), .v (vi r.2)], [], false⟩ := by
  refine scall_in Tryd.func30 rfl [(.tmp 4), (.tmp 5)] rfl (fun r => ⟨[.own 2 1 r.1.length (r.1.map (eI .i64)), .v (vi r.2)], [], false⟩) (r := r) ?_
  unfold spec_RivalsOf at h
  refine swp_seq ?_
  refine swp_reg ?_
  refine SRun.ck tbokGB 2 ⟨12, [(0, vl eOp aLog), (1, vs aKey)], []⟩ ?_
  refine SRun.nil ?_
  refine nx_n ?_
  refine swp_seq ?_
  refine swp_seq ?_
  refine swp_reg ?_
  refine SRun.ck tbokGB 1 ⟨12, [(0, vl eOp aLog), (1, vs aKey), (6, vl eOp aLog)], []⟩ ?_
  obtain ⟨x1, hx1, h⟩ := bind_some h
  refine SRun.ls (x_lstep_call (f := 13) (caps := []) (xs := [vl eOp aLog]) (ys := [vl eOp aLog]) (res := ⟨[.v (vb x1)], [], false⟩) (x := vb x1) (y := none) rfl ents13 (spec_IsLog_run aLog _ hx1) rfl (by intro hc; cases hc)) ?_
  refine SRun.ck tbokGB 1 ⟨12, [(0, vl eOp aLog), (1, vs aKey), (8, vb (!x1))], []⟩ ?_
  refine SRun.nil ?_
  refine nx_n ?_
  refine swp_cond (b := (!x1)) (by kernel_rfl) (fun hb => ?_) (fun hb => ?_)
  replace h := cond_t hb h
  refine swp_seq ?_
  refine swp_reg ?_
  refine SRun.ck tbokGB 2 ⟨12, [(4, .own 4), (5, vi 1)], [(4, .arr 2 1 ([] : List Int).length (([] : List Int).map (eI .i64)))]⟩ ?_
  refine SRun.nil ?_
  refine nx_n ?_
  refine swp_ret ?_
  replace h := Option.some.inj h
  subst h
  exact nx_r (q_fr (fin2 (by kernel_rfl) (finO (d := 4) (holds_t (by kernel_rfl)) (by kernel_rfl) (flat_map (eI_flat .i64) _) (by kernel_rfl)) (finV rfl SV.flat_of (holds_t (by kernel_rfl)))))
  replace h := cond_f hb h
  refine swp_skip ?_
  refine nx_n ?_
  refine swp_seq ?_
  refine swp_reg ?_
  refine SRun.ck tbokGB 2 ⟨12, [(9, vl eOp aLog), (10, vs aKey)], []⟩ ?_
  obtain ⟨x2, hx2, h⟩ := bind_some h
  refine SRun.ls (x_lstep_call (f := 61) (caps := []) (xs := [vl eOp aLog, vs aKey]) (ys := [vl eOp aLog, vs aKey]) (res := ⟨[.own 2 1 x2.length (x2.map (eI .i64))], [], false⟩) (x := .own 11) (y := some (.arr 2 1 x2.length (x2.map (eI .i64)))) rfl ents61 (spec_l32Rivals_run aLog aKey _ hx2) rfl (by intro hc; cases hc)) ?_
  refine SRun.ck tbokGB 2 ⟨12, [(4, .own 11), (5, vi 0)], [(11, .arr 2 1 x2.length (x2.map (eI .i64)))]⟩ ?_
  refine SRun.nil ?_
  refine nx_n ?_
  refine swp_ret ?_
  replace h := Option.some.inj h
  subst h
  exact q_fr (fin2 (by kernel_rfl) (finO (d := 11) (holds_t (by kernel_rfl)) (by kernel_rfl) (flat_map (eI_flat .i64) _) (by kernel_rfl)) (finV rfl SV.flat_of (holds_t (by kernel_rfl))))
theorem ents30 : Ents Tryd.prog 30 := ents_of Tryd.func30 (by kernel_rfl) rfl
noncomputable def impl_RivalsOf (aLog : (List Op)) (aKey : ByteArray) : Option ((List Int) × Int) :=
  ((impl_IsLog aLog).bind fun x1 => (bif (!x1) then some (([] : List Int), 1) else ((impl_rivalsOf aLog aKey).bind fun x2 => some (x2, 0))))
set_option maxRecDepth 100000 in
set_option maxHeartbeats 4000000 in
theorem impl_RivalsOf_run (aLog : (List Op)) (aKey : ByteArray) (r : (List Int) × Int) (h : impl_RivalsOf aLog aKey = some r) : SCall Tryd.prog 31 [.v (vl eOp aLog), .v (vs aKey)] ⟨[.own 2 1 r.1.length (r.1.map (eI .i64)), .v (vi r.2)], [], false⟩ := by
  refine scall_in Tryd.func31 rfl [(.tmp 4), (.tmp 5)] rfl (fun r => ⟨[.own 2 1 r.1.length (r.1.map (eI .i64)), .v (vi r.2)], [], false⟩) (r := r) ?_
  unfold impl_RivalsOf at h
  refine swp_seq ?_
  refine swp_reg ?_
  refine SRun.ck tbokGB 2 ⟨12, [(0, vl eOp aLog), (1, vs aKey)], []⟩ ?_
  refine SRun.nil ?_
  refine nx_n ?_
  refine swp_seq ?_
  refine swp_seq ?_
  refine swp_reg ?_
  refine SRun.ck tbokGB 1 ⟨12, [(0, vl eOp aLog), (1, vs aKey), (6, vl eOp aLog)], []⟩ ?_
  obtain ⟨x1, hx1, h⟩ := bind_some h
  refine SRun.ls (x_lstep_call (f := 15) (caps := []) (xs := [vl eOp aLog]) (ys := [vl eOp aLog]) (res := ⟨[.v (vb x1)], [], false⟩) (x := vb x1) (y := none) rfl ents15 (impl_IsLog_run aLog _ hx1) rfl (by intro hc; cases hc)) ?_
  refine SRun.ck tbokGB 1 ⟨12, [(0, vl eOp aLog), (1, vs aKey), (8, vb (!x1))], []⟩ ?_
  refine SRun.nil ?_
  refine nx_n ?_
  refine swp_cond (b := (!x1)) (by kernel_rfl) (fun hb => ?_) (fun hb => ?_)
  replace h := cond_t hb h
  refine swp_seq ?_
  refine swp_reg ?_
  refine SRun.ck tbokGB 2 ⟨12, [(4, .own 4), (5, vi 1)], [(4, .arr 2 1 ([] : List Int).length (([] : List Int).map (eI .i64)))]⟩ ?_
  refine SRun.nil ?_
  refine nx_n ?_
  refine swp_ret ?_
  replace h := Option.some.inj h
  subst h
  exact nx_r (q_fr (fin2 (by kernel_rfl) (finO (d := 4) (holds_t (by kernel_rfl)) (by kernel_rfl) (flat_map (eI_flat .i64) _) (by kernel_rfl)) (finV rfl SV.flat_of (holds_t (by kernel_rfl)))))
  replace h := cond_f hb h
  refine swp_skip ?_
  refine nx_n ?_
  refine swp_seq ?_
  refine swp_reg ?_
  refine SRun.ck tbokGB 2 ⟨12, [(9, vl eOp aLog), (10, vs aKey)], []⟩ ?_
  obtain ⟨x2, hx2, h⟩ := bind_some h
  refine SRun.ls (x_lstep_call (f := 62) (caps := []) (xs := [vl eOp aLog, vs aKey]) (ys := [vl eOp aLog, vs aKey]) (res := ⟨[.own 2 1 x2.length (x2.map (eI .i64))], [], false⟩) (x := .own 11) (y := some (.arr 2 1 x2.length (x2.map (eI .i64)))) rfl ents62 (impl_rivalsOf_run aLog aKey _ hx2) rfl (by intro hc; cases hc)) ?_
  refine SRun.ck tbokGB 2 ⟨12, [(4, .own 11), (5, vi 0)], [(11, .arr 2 1 x2.length (x2.map (eI .i64)))]⟩ ?_
  refine SRun.nil ?_
  refine nx_n ?_
  refine swp_ret ?_
  replace h := Option.some.inj h
  subst h
  exact q_fr (fin2 (by kernel_rfl) (finO (d := 11) (holds_t (by kernel_rfl)) (by kernel_rfl) (flat_map (eI_flat .i64) _) (by kernel_rfl)) (finV rfl SV.flat_of (holds_t (by kernel_rfl))))
theorem ents31 : Ents Tryd.prog 31 := ents_of Tryd.func31 (by kernel_rfl) rfl
noncomputable def spec_l01Own (aList : (List Int)) : Option ((List Int)) :=
  ((app' ([] : List Int) aList).bind fun x1 => some x1)
set_option maxRecDepth 100000 in
set_option maxHeartbeats 4000000 in
theorem spec_l01Own_run (aList : (List Int)) (r : (List Int)) (h : spec_l01Own aList = some r) : SCall Tryd.prog 86 [.v (vl (eI .i64) aList)] ⟨[.own 2 1 r.length (r.map (eI .i64))], [], false⟩ := by
  refine scall_in Tryd.func86 rfl [(.tmp 2)] rfl (fun r => ⟨[.own 2 1 r.length (r.map (eI .i64))], [], false⟩) (r := r) ?_
  unfold spec_l01Own at h
  refine swp_seq ?_
  refine swp_reg ?_
  refine SRun.ck tbokGB 1 ⟨6, [(0, vl (eI .i64) aList)], []⟩ ?_
  refine SRun.nil ?_
  refine nx_n ?_
  refine swp_seq ?_
  refine swp_reg ?_
  refine SRun.ck tbokGB 2 ⟨6, [(3, .own 3), (4, vl (eI .i64) aList)], [(3, .arr 2 1 ([] : List Int).length (([] : List Int).map (eI .i64)))]⟩ ?_
  obtain ⟨x1, hx1, h⟩ := bind_some h
  refine SRun.estep (x_append (f := (eI .i64)) (t := 32) (ti := ti32) (tj := ti2) (zs := [.int .i64 0]) (e := 2) (m := 1) (d := 3) (xv := vl (eI .i64) aList) hx1 tbokGB rfl rfl rfl rfl (src_e (fun _ => rfl))) ?_
  refine SRun.ck tbokGB 1 ⟨6, [(2, .own 5)], [(5, .arr 2 1 x1.length (x1.map (eI .i64)))]⟩ ?_
  refine SRun.nil ?_
  refine nx_n ?_
  refine swp_ret ?_
  replace h := Option.some.inj h
  subst h
  exact q_fr (fin1 (by kernel_rfl) (finO (d := 5) (holds_t (by kernel_rfl)) (by kernel_rfl) (flat_map (eI_flat .i64) _) (by kernel_rfl)))
theorem ents86 : Ents Tryd.prog 86 := ents_of Tryd.func86 (by kernel_rfl) rfl
noncomputable def spec_l32Own (aLog : (List Op)) : Option ((List Op)) :=
  (((forS (aLog.length : Int) (fun (i3 : Int) (s3 : (List Op)) => ((at' aLog i3).bind fun x7 => ((spec_l01Own x7.Seen).bind fun x8 => ((app' s3 ([(Op.mk x7.Office x7.Number x7.Key x7.Text x8)] : List Op)).bind fun x9 => some x9)))) (fun (s3 : (List Op)) => s3) 0 ([] : List Op))).bind fun (j1 : (List Op)) => some j1)
set_option maxRecDepth 100000 in
set_option maxHeartbeats 4000000 in
theorem spec_l32Own_run (aLog : (List Op)) (r : (List Op)) (h : spec_l32Own aLog = some r) : SCall Tryd.prog 63 [.v (vl eOp aLog)] ⟨[.deep 61 5 r.length [.flat, .flat, .flat, .flat, (.sl 2 1 [.flat])] (r.map eOp)], [], false⟩ := by
  refine scall_in Tryd.func63 rfl [(.tmp 2)] rfl (fun r => ⟨[.deep 61 5 r.length [.flat, .flat, .flat, .flat, (.sl 2 1 [.flat])] (r.map eOp)], [], false⟩) (r := r) ?_
  unfold spec_l32Own at h
  refine swp_seq ?_
  refine swp_reg ?_
  refine SRun.chunk tbokGB 1 (σ' := ⟨26, [(2, .own 2), (0, vl eOp aLog)], [(2, .arr 61 5 ([] : List Op).length (([] : List Op).map eOp))]⟩) (by kernel_rfl) ?_
  refine SRun.le (Le.deep0 (d := 2) (e := 61) (m := 5) (ss := [.flat, .flat, .flat, .flat, (.sl 2 1 [.flat])]) (by kernel_rfl) (by kernel_rfl)) ?_
  refine SRun.nil ?_
  refine nx_n ?_
  refine swp_seq ?_
  refine swp_reg ?_
  refine SRun.chunk tbokGB 1 (σ' := ⟨26, [(6, .own 6), (2, .own 2), (0, vl eOp aLog)], [(6, .arr 61 5 ([] : List Op).length (([] : List Op).map eOp)), (2, .deep 61 5 ([] : List Op).length [.flat, .flat, .flat, .flat, (.sl 2 1 [.flat])] (([] : List Op).map eOp))]⟩) (by kernel_rfl) ?_
  refine SRun.le (Le.deep0 (d := 6) (e := 61) (m := 5) (ss := [.flat, .flat, .flat, .flat, (.sl 2 1 [.flat])]) (by kernel_rfl) (by kernel_rfl)) ?_
  refine SRun.ck tbokGB 1 ⟨26, [(0, vl eOp aLog), (3, .own 6)], [(6, .deep 61 5 ([] : List Op).length [.flat, .flat, .flat, .flat, (.sl 2 1 [.flat])] (([] : List Op).map eOp))]⟩ ?_
  refine SRun.nil ?_
  refine nx_n ?_
  refine swp_seq ?_
  refine swp_seq ?_
  refine swp_reg ?_
  refine SRun.ck tbokGB 1 ⟨26, [(0, vl eOp aLog), (3, .own 6), (4, vi 0)], [(6, .deep 61 5 ([] : List Op).length [.flat, .flat, .flat, .flat, (.sl 2 1 [.flat])] (([] : List Op).map eOp))]⟩ ?_
  refine SRun.nil ?_
  refine nx_n ?_
  refine swp_seqJ h (fun j1 => ⟨26, [(3, .own 3)], [(3, .deep 61 5 j1.length [.flat, .flat, .flat, .flat, (.sl 2 1 [.flat])] (j1.map eOp))]⟩) (fun v2 h => ?_) (fun j1 h => ?_)
  refine swp_blk (a := v2) ?_
  refine swp_lpL (r := v2) (s := (0, ([] : List Op))) _ (fun s3 => ⟨26, [(0, vl eOp aLog), (3, .own 3), (4, vi s3.1)], [(3, .deep 61 5 s3.2.length [.flat, .flat, .flat, .flat, (.sl 2 1 [.flat])] (s3.2.map eOp))]⟩) _ ((Le.sub' ([(0, vl eOp aLog), (3, .own 6), (4, vi 0)] : List (Nat × SV)) ([(6, .deep 61 5 ([] : List Op).length [.flat, .flat, .flat, .flat, (.sl 2 1 [.flat])] (([] : List Op).map eOp))] : List (Nat × SO)) (by kernel_rfl) (by kernel_rfl)).trans ((Le.ren' (d := 6) (e := 3) (by kernel_rfl) (by kernel_rfl) (by kernel_rfl)).trans (Le.sub0))) h (fun s3 v4 h => ?_)
  refine swp_seq ?_
  refine swp_seq ?_
  refine swp_reg ?_
  refine SRun.ck tbokGB 4 ⟨26, [(0, vl eOp aLog), (3, .own 3), (4, vi s3.1), (10, vb (decide (s3.1 < (aLog.length : Int))))], [(3, .deep 61 5 s3.2.length [.flat, .flat, .flat, .flat, (.sl 2 1 [.flat])] (s3.2.map eOp))]⟩ ?_
  refine SRun.nil ?_
  refine nx_n ?_
  refine swp_cond (b := (decide (s3.1 < (aLog.length : Int)))) (by kernel_rfl) (fun hb => ?_) (fun hb => ?_)
  replace h := cond_t hb h
  refine swp_skip ?_
  refine nx_n ?_
  refine swp_seq ?_
  refine swp_seqJ h (fun j5 => ⟨26, [(0, vl eOp aLog), (3, .own 3), (4, vi s3.1)], [(3, .deep 61 5 j5.length [.flat, .flat, .flat, .flat, (.sl 2 1 [.flat])] (j5.map eOp))]⟩) (fun v6 h => ?_) (fun j5 h => ?_)
  refine swp_blk (a := v6) ?_
  refine swp_seq ?_
  refine swp_reg ?_
  refine SRun.ck tbokGB 2 ⟨26, [(0, vl eOp aLog), (3, .own 3), (4, vi s3.1), (13, vl eOp aLog), (14, vi s3.1)], [(3, .deep 61 5 s3.2.length [.flat, .flat, .flat, .flat, (.sl 2 1 [.flat])] (s3.2.map eOp))]⟩ ?_
  obtain ⟨x7, hx7, h⟩ := bind_some h
  refine SRun.ls (x_index (L := aLog) (f := eOp) (ti := ti25) (tj := ti61) (e := 61) (k := .i64) tbokGB rfl hx7) ?_
  refine SRun.ck tbokGB 2 ⟨26, [(0, vl eOp aLog), (3, .own 3), (4, vi s3.1), (5, .ref 5 0), (16, .agg [vi x7.Office, vi x7.Number, vs x7.Key, vs x7.Text, vl (eI .i64) x7.Seen])], [(3, .deep 61 5 s3.2.length [.flat, .flat, .flat, .flat, (.sl 2 1 [.flat])] (s3.2.map eOp)), (5, .box [vi 0, vi 0, vs (ByteArray.mk #[]), vs (ByteArray.mk #[]), vl (eI .i64) ([] : List Int)])]⟩ ?_
  refine SRun.estep (x_estep_store (d := 5) (k := 0) (ti := ti61) (cs := [vi 0, vi 0, vs (ByteArray.mk #[]), vs (ByteArray.mk #[]), vl (eI .i64) ([] : List Int)]) (vs := [vi x7.Office, vi x7.Number, vs x7.Key, vs x7.Text, vl (eI .i64) x7.Seen]) (v := .agg [vi x7.Office, vi x7.Number, vs x7.Key, vs x7.Text, vl (eI .i64) x7.Seen]) tbokGB rfl rfl) ?_
  refine SRun.nil ?_
  refine nx_n ?_
  refine swp_seq ?_
  refine swp_reg ?_
  refine SRun.ck tbokGB 2 ⟨26, [(0, vl eOp aLog), (3, .own 3), (4, vi s3.1), (5, .ref 5 0), (18, vl (eI .i64) x7.Seen)], [(3, .deep 61 5 s3.2.length [.flat, .flat, .flat, .flat, (.sl 2 1 [.flat])] (s3.2.map eOp)), (5, .box [vi x7.Office, vi x7.Number, vs x7.Key, vs x7.Text, vl (eI .i64) x7.Seen])]⟩ ?_
  obtain ⟨x8, hx8, h⟩ := bind_some h
  refine SRun.ls (x_lstep_call (f := 86) (caps := []) (xs := [vl (eI .i64) x7.Seen]) (ys := [vl (eI .i64) x7.Seen]) (res := ⟨[.own 2 1 x8.length (x8.map (eI .i64))], [], false⟩) (x := .own 19) (y := some (.arr 2 1 x8.length (x8.map (eI .i64)))) rfl ents86 (spec_l01Own_run x7.Seen _ hx8) rfl (by intro hc; cases hc)) ?_
  refine SRun.ck tbokGB 1 ⟨26, [(0, vl eOp aLog), (3, .own 3), (4, vi s3.1), (5, .ref 5 0), (19, .own 19), (20, .ref 5 4)], [(3, .deep 61 5 s3.2.length [.flat, .flat, .flat, .flat, (.sl 2 1 [.flat])] (s3.2.map eOp)), (5, .box [vi x7.Office, vi x7.Number, vs x7.Key, vs x7.Text, vl (eI .i64) x7.Seen]), (19, .arr 2 1 x8.length (x8.map (eI .i64)))]⟩ ?_
  refine SRun.estep (x_estep_store (d := 5) (k := 4) (ti := ti32) (cs := [vi x7.Office, vi x7.Number, vs x7.Key, vs x7.Text, vl (eI .i64) x7.Seen]) (vs := [.own 19]) (v := .own 19) tbokGB rfl rfl) ?_
  refine SRun.nil ?_
  refine nx_n ?_
  refine swp_reg ?_
  refine SRun.ck tbokGB 2 ⟨26, [(0, vl eOp aLog), (4, vi s3.1), (21, .own 3), (22, .agg [vi x7.Office, vi x7.Number, vs x7.Key, vs x7.Text, .own 19])], [(3, .deep 61 5 s3.2.length [.flat, .flat, .flat, .flat, (.sl 2 1 [.flat])] (s3.2.map eOp)), (19, .arr 2 1 x8.length (x8.map (eI .i64)))]⟩ ?_
  refine SRun.estep (x_build_deep (ti := ti25) (tj := ti61) (e := 61) (m := 5) (zs := [.int .i64 0, .int .i64 0, .string (ByteArray.mk #[]), .string (ByteArray.mk #[]), .slice none 0 0]) (v := .agg [vi x7.Office, vi x7.Number, vs x7.Key, vs x7.Text, .own 19]) (cs := [vi x7.Office, vi x7.Number, vs x7.Key, vs x7.Text, .own 19]) (ss := [.flat, .flat, .flat, .flat, (.sl 2 1 [.flat])]) (ts := [.int .i64 x7.Office, .int .i64 x7.Number, .str x7.Key, .str x7.Text, .sl x8.length (x8.map (eI .i64))]) (ds := [19]) tbokGB rfl rfl rfl (.cons _ _ _ [] _ _ _ _ (.flat (.int .i64 x7.Office) rfl) (.cons _ _ _ [] _ _ _ _ (.flat (.int .i64 x7.Number) rfl) (.cons _ _ _ [] _ _ _ _ (.flat (.str x7.Key) rfl) (.cons _ _ _ [] _ _ _ _ (.flat (.str x7.Text) rfl) (.cons _ _ _ [19] _ _ _ _ (cD_arr (d := 19) (e := 2) (m := 1) (n := x8.length) (es := x8.map (eI .i64)) (ss := [.flat]) (flat_map (eI_flat .i64) _)) .nil (by decide)) (by decide)) (by decide)) (by decide)) (by decide))) ?_
  obtain ⟨x9, hx9, h⟩ := bind_some h
  refine SRun.estep (x_append_deep (f := eOp) (L := s3.2) (M := ([(Op.mk x7.Office x7.Number x7.Key x7.Text x8)] : List Op)) (t := 25) (ti := ti25) (tj := ti61) (zs := [.int .i64 0, .int .i64 0, .string (ByteArray.mk #[]), .string (ByteArray.mk #[]), .slice none 0 0]) (e := 61) (m := 5) (d := 3) (dx := 23) (ss := [.flat, .flat, .flat, .flat, (.sl 2 1 [.flat])]) hx9 tbokGB rfl rfl rfl rfl) ?_
  refine SRun.ck tbokGB 1 ⟨26, [(0, vl eOp aLog), (3, .own 24), (4, vi s3.1)], [(24, .deep 61 5 x9.length [.flat, .flat, .flat, .flat, (.sl 2 1 [.flat])] (x9.map eOp))]⟩ ?_
  refine SRun.nil ?_
  replace h := Option.some.inj h
  subst h
  exact q_bn (q_j ((Le.sub' ([(0, vl eOp aLog), (3, .own 24), (4, vi s3.1)] : List (Nat × SV)) ([(24, .deep 61 5 x9.length [.flat, .flat, .flat, .flat, (.sl 2 1 [.flat])] (x9.map eOp))] : List (Nat × SO)) (by kernel_rfl) (by kernel_rfl)).trans ((Le.ren' (d := 24) (e := 3) (by kernel_rfl) (by kernel_rfl) (by kernel_rfl)).trans (Le.sub0))))
  refine swp_reg ?_
  refine SRun.ck tbokGB 3 ⟨26, [(0, vl eOp aLog), (3, .own 3), (4, vi (w64 (s3.1 + 1)))], [(3, .deep 61 5 j5.length [.flat, .flat, .flat, .flat, (.sl 2 1 [.flat])] (j5.map eOp))]⟩ ?_
  refine SRun.nil ?_
  replace h := Option.some.inj h
  subst h
  exact q_l (Le.sub0)
  replace h := cond_f hb h
  refine swp_exit ?_
  replace h := Option.some.inj h
  subst h
  exact nx_e (q_re (q_bh (q_j (Le.sub0))))
  refine swp_seq ?_
  refine swp_reg ?_
  refine SRun.ck tbokGB 2 ⟨26, [(2, .own 3)], [(3, .deep 61 5 j1.length [.flat, .flat, .flat, .flat, (.sl 2 1 [.flat])] (j1.map eOp))]⟩ ?_
  refine SRun.nil ?_
  refine nx_n ?_
  refine swp_ret ?_
  replace h := Option.some.inj h
  subst h
  exact q_fr (fin1 (by kernel_rfl) (finD (d := 3) (holds_t (by kernel_rfl)) (by kernel_rfl) (by kernel_rfl)))
theorem ents63 : Ents Tryd.prog 63 := ents_of Tryd.func63 (by kernel_rfl) rfl
noncomputable def spec_MakeOp (aLog : (List Op)) (aOffice : Int) (aKey : ByteArray) (aText : ByteArray) : Option ((List Op) × Int) :=
  ((((spec_IsLog aLog).bind fun x1 => (bif (!x1) then some true else ((spec_l01In aOffice 0 3).bind fun x2 => (bif (!x2) then some true else ((spec_IsWord aKey).bind fun x3 => (bif (!x3) then some true else ((spec_IsPhrase aText).bind fun x4 => some (!x4))))))))).bind fun (j5 : Bool) => (bif j5 then some (([] : List Op), 1) else (bif ((aLog.length : Int) == 16) then some (([] : List Op), 3) else ((spec_l32Count aLog).bind fun x7 => ((at' x7 aOffice).bind fun x8 => ((app' ([] : List Op) aLog).bind fun x9 => ((app' x9 ([(Op.mk aOffice (w64 (x8 + 1)) aKey aText x7)] : List Op)).bind fun x10 => ((spec_l32Own x10).bind fun x11 => some (x11, 0)))))))))
set_option maxRecDepth 100000 in
set_option maxHeartbeats 4000000 in
theorem spec_MakeOp_run (aLog : (List Op)) (aOffice : Int) (aKey : ByteArray) (aText : ByteArray) (r : (List Op) × Int) (h : spec_MakeOp aLog aOffice aKey aText = some r) : SCall Tryd.prog 32 [.v (vl eOp aLog), .v (vi aOffice), .v (vs aKey), .v (vs aText)] ⟨[.deep 61 5 r.1.length [.flat, .flat, .flat, .flat, (.sl 2 1 [.flat])] (r.1.map eOp), .v (vi r.2)], [], false⟩ := by
  refine scall_in Tryd.func32 rfl [(.tmp 8), (.tmp 9)] rfl (fun r => ⟨[.deep 61 5 r.1.length [.flat, .flat, .flat, .flat, (.sl 2 1 [.flat])] (r.1.map eOp), .v (vi r.2)], [], false⟩) (r := r) ?_
  unfold spec_MakeOp at h
  refine swp_seq ?_
  refine swp_reg ?_
  refine SRun.ck tbokGB 2 ⟨52, [(0, vl eOp aLog), (1, vi aOffice), (2, vs aKey), (3, vs aText)], []⟩ ?_
  refine SRun.nil ?_
  refine nx_n ?_
  refine swp_seq ?_
  refine swp_seq ?_
  refine swp_regJ h (fun j5 => ⟨52, [(0, vl eOp aLog), (1, vi aOffice), (2, vs aKey), (3, vs aText), (29, vb j5)], []⟩) (fun v6 h => ?_) (fun j5 h => ?_)
  refine SRun.ck tbokGB 1 ⟨52, [(0, vl eOp aLog), (1, vi aOffice), (2, vs aKey), (3, vs aText), (12, vl eOp aLog)], []⟩ ?_
  obtain ⟨x1, hx1, h⟩ := bind_some h
  refine SRun.ls (x_lstep_call (f := 13) (caps := []) (xs := [vl eOp aLog]) (ys := [vl eOp aLog]) (res := ⟨[.v (vb x1)], [], false⟩) (x := vb x1) (y := none) rfl ents13 (spec_IsLog_run aLog _ hx1) rfl (by intro hc; cases hc)) ?_
  refine SRun.ck tbokGB 2 ⟨52, [(0, vl eOp aLog), (1, vi aOffice), (2, vs aKey), (3, vs aText), (15, vb (!x1))], []⟩ ?_
  refine SRun.cut [(15, fun b => b)] (b := (!x1)) (by kernel_rfl) (fun hb => ?_) (fun hb => ?_)
  replace h := cond_t hb h
  refine SRun.ck tbokGB 14 ⟨52, [(0, vl eOp aLog), (1, vi aOffice), (2, vs aKey), (3, vs aText), (29, vb true)], []⟩ ?_
  refine SRun.nil ?_
  replace h := Option.some.inj h
  subst h
  exact Le.sub0
  replace h := cond_f hb h
  refine SRun.ck tbokGB 1 ⟨52, [(0, vl eOp aLog), (1, vi aOffice), (2, vs aKey), (3, vs aText), (15, vb false), (16, vi aOffice)], []⟩ ?_
  obtain ⟨x2, hx2, h⟩ := bind_some h
  refine SRun.ls (x_lstep_call (f := 44) (caps := []) (xs := [vi aOffice, vi 0, vi 3]) (ys := [vi aOffice, vi 0, vi 3]) (res := ⟨[.v (vb x2)], [], false⟩) (x := vb x2) (y := none) rfl ents44 (spec_l01In_run aOffice 0 3 _ hx2) rfl (by intro hc; cases hc)) ?_
  refine SRun.ck tbokGB 3 ⟨52, [(0, vl eOp aLog), (1, vi aOffice), (2, vs aKey), (3, vs aText), (20, vb (!x2))], []⟩ ?_
  refine SRun.cut [(20, fun b => b)] (b := (!x2)) (by kernel_rfl) (fun hb => ?_) (fun hb => ?_)
  replace h := cond_t hb h
  refine SRun.ck tbokGB 9 ⟨52, [(0, vl eOp aLog), (1, vi aOffice), (2, vs aKey), (3, vs aText), (29, vb true)], []⟩ ?_
  refine SRun.nil ?_
  replace h := Option.some.inj h
  subst h
  exact Le.sub0
  replace h := cond_f hb h
  refine SRun.ck tbokGB 1 ⟨52, [(0, vl eOp aLog), (1, vi aOffice), (2, vs aKey), (3, vs aText), (20, vb false), (21, vs aKey)], []⟩ ?_
  obtain ⟨x3, hx3, h⟩ := bind_some h
  refine SRun.ls (x_lstep_call (f := 45) (caps := []) (xs := [vs aKey]) (ys := [vs aKey]) (res := ⟨[.v (vb x3)], [], false⟩) (x := vb x3) (y := none) rfl ents45 (spec_IsWord_run aKey _ hx3) rfl (by intro hc; cases hc)) ?_
  refine SRun.ck tbokGB 3 ⟨52, [(0, vl eOp aLog), (1, vi aOffice), (2, vs aKey), (3, vs aText), (25, vb (!x3))], []⟩ ?_
  refine SRun.cut [(25, fun b => b)] (b := (!x3)) (by kernel_rfl) (fun hb => ?_) (fun hb => ?_)
  replace h := cond_t hb h
  refine SRun.ck tbokGB 4 ⟨52, [(0, vl eOp aLog), (1, vi aOffice), (2, vs aKey), (3, vs aText), (29, vb true)], []⟩ ?_
  refine SRun.nil ?_
  replace h := Option.some.inj h
  subst h
  exact Le.sub0
  replace h := cond_f hb h
  refine SRun.ck tbokGB 1 ⟨52, [(0, vl eOp aLog), (1, vi aOffice), (2, vs aKey), (3, vs aText), (25, vb false), (26, vs aText)], []⟩ ?_
  obtain ⟨x4, hx4, h⟩ := bind_some h
  refine SRun.ls (x_lstep_call (f := 46) (caps := []) (xs := [vs aText]) (ys := [vs aText]) (res := ⟨[.v (vb x4)], [], false⟩) (x := vb x4) (y := none) rfl ents46 (spec_IsPhrase_run aText _ hx4) rfl (by intro hc; cases hc)) ?_
  refine SRun.ck tbokGB 2 ⟨52, [(0, vl eOp aLog), (1, vi aOffice), (2, vs aKey), (3, vs aText), (29, vb (!x4))], []⟩ ?_
  refine SRun.nil ?_
  replace h := Option.some.inj h
  subst h
  exact Le.sub0
  refine swp_cond (b := j5) (by kernel_rfl) (fun hb => ?_) (fun hb => ?_)
  replace h := cond_t hb h
  refine swp_seq ?_
  refine swp_reg ?_
  refine SRun.ck tbokGB 2 ⟨52, [(8, .own 8), (9, vi 1)], [(8, .arr 61 5 ([] : List Op).length (([] : List Op).map eOp))]⟩ ?_
  refine SRun.nil ?_
  refine nx_n ?_
  refine swp_le (Le.deep0 (d := 8) (e := 61) (m := 5) (ss := [.flat, .flat, .flat, .flat, (.sl 2 1 [.flat])]) (by kernel_rfl) (by kernel_rfl)) ?_
  refine swp_ret ?_
  replace h := Option.some.inj h
  subst h
  exact nx_r (q_fr (fin2 (by kernel_rfl) (finD (d := 8) (holds_t (by kernel_rfl)) (by kernel_rfl) (by kernel_rfl)) (finV rfl SV.flat_of (holds_t (by kernel_rfl)))))
  replace h := cond_f hb h
  refine swp_skip ?_
  refine nx_n ?_
  refine swp_seq ?_
  refine swp_seq ?_
  refine swp_reg ?_
  refine SRun.ck tbokGB 3 ⟨52, [(0, vl eOp aLog), (1, vi aOffice), (2, vs aKey), (3, vs aText), (32, vb ((aLog.length : Int) == 16))], []⟩ ?_
  refine SRun.nil ?_
  refine nx_n ?_
  refine swp_cond (b := ((aLog.length : Int) == 16)) (by kernel_rfl) (fun hb => ?_) (fun hb => ?_)
  replace h := cond_t hb h
  refine swp_seq ?_
  refine swp_reg ?_
  refine SRun.ck tbokGB 2 ⟨52, [(8, .own 8), (9, vi 3)], [(8, .arr 61 5 ([] : List Op).length (([] : List Op).map eOp))]⟩ ?_
  refine SRun.nil ?_
  refine nx_n ?_
  refine swp_le (Le.deep0 (d := 8) (e := 61) (m := 5) (ss := [.flat, .flat, .flat, .flat, (.sl 2 1 [.flat])]) (by kernel_rfl) (by kernel_rfl)) ?_
  refine swp_ret ?_
  replace h := Option.some.inj h
  subst h
  exact nx_r (q_fr (fin2 (by kernel_rfl) (finD (d := 8) (holds_t (by kernel_rfl)) (by kernel_rfl) (by kernel_rfl)) (finV rfl SV.flat_of (holds_t (by kernel_rfl)))))
  replace h := cond_f hb h
  refine swp_skip ?_
  refine nx_n ?_
  refine swp_seq ?_
  refine swp_reg ?_
  refine SRun.ck tbokGB 1 ⟨52, [(0, vl eOp aLog), (1, vi aOffice), (2, vs aKey), (3, vs aText), (33, vl eOp aLog)], []⟩ ?_
  obtain ⟨x7, hx7, h⟩ := bind_some h
  refine SRun.ls (x_lstep_call (f := 56) (caps := []) (xs := [vl eOp aLog]) (ys := [vl eOp aLog]) (res := ⟨[.own 2 1 x7.length (x7.map (eI .i64))], [], false⟩) (x := .own 34) (y := some (.arr 2 1 x7.length (x7.map (eI .i64)))) rfl ents56 (spec_l32Count_run aLog _ hx7) rfl (by intro hc; cases hc)) ?_
  refine SRun.ck tbokGB 1 ⟨52, [(0, vl eOp aLog), (1, vi aOffice), (2, vs aKey), (3, vs aText), (10, .own 34)], [(34, .arr 2 1 x7.length (x7.map (eI .i64)))]⟩ ?_
  refine SRun.nil ?_
  refine nx_n ?_
  refine swp_seq ?_
  refine swp_reg ?_
  refine SRun.ck tbokGB 3 ⟨52, [(0, vl eOp aLog), (2, vs aKey), (3, vs aText), (10, .own 34), (35, vi aOffice), (36, .own 34), (37, vi aOffice)], [(34, .arr 2 1 x7.length (x7.map (eI .i64)))]⟩ ?_
  obtain ⟨x8, hx8, h⟩ := bind_some h
  refine SRun.ls (x_index_own (d := 34) (L := x7) (f := (eI .i64)) (ti := ti32) (tj := ti2) (e := 2) (e' := 2) (m := 1) (k := .i64) tbokGB rfl hx8) ?_
  refine SRun.ls (x_load_own (d := 34) (m := 1) (j := 0) (L := x7) (f := (eI .i64)) (ti := ti2) (e := 2) (v := vi x8) tbokGB rfl hx8) ?_
  refine SRun.ck tbokGB 4 ⟨52, [(0, vl eOp aLog), (35, vi aOffice), (40, vi (w64 (x8 + 1))), (41, vs aKey), (42, vs aText), (43, .own 34)], [(34, .arr 2 1 x7.length (x7.map (eI .i64)))]⟩ ?_
  refine SRun.ls (x_lstep_build (v := .agg [vi aOffice, vi (w64 (x8 + 1)), vs aKey, vs aText, .own 34]) tbokGB rfl) ?_
  refine SRun.ck tbokGB 1 ⟨52, [(0, vl eOp aLog), (11, .ref 11 0), (44, .agg [vi aOffice, vi (w64 (x8 + 1)), vs aKey, vs aText, .own 34])], [(11, .box [vi 0, vi 0, vs (ByteArray.mk #[]), vs (ByteArray.mk #[]), vl (eI .i64) ([] : List Int)]), (34, .arr 2 1 x7.length (x7.map (eI .i64)))]⟩ ?_
  refine SRun.estep (x_estep_store (d := 11) (k := 0) (ti := ti61) (cs := [vi 0, vi 0, vs (ByteArray.mk #[]), vs (ByteArray.mk #[]), vl (eI .i64) ([] : List Int)]) (vs := [vi aOffice, vi (w64 (x8 + 1)), vs aKey, vs aText, .own 34]) (v := .agg [vi aOffice, vi (w64 (x8 + 1)), vs aKey, vs aText, .own 34]) tbokGB rfl rfl) ?_
  refine SRun.nil ?_
  refine nx_n ?_
  refine swp_seq ?_
  refine swp_le (Le.frz' (d := 34) (e := 2) (m := 1) (n := x7.length) (es := x7.map (eI .i64)) (by kernel_rfl) (by kernel_rfl)) ?_
  obtain ⟨x9, hx9, h⟩ := bind_some h
  obtain ⟨x10, hx10, h⟩ := bind_some h
  obtain ⟨x11, hx11, h⟩ := bind_some h
  refine swp_dr mixed ?_
  refine DGo.enum (σE := ⟨52, [(8, .own 51), (9, vi 0)], [(51, .deep 61 5 x11.length [.flat, .flat, .flat, .flat, (.sl 2 1 [.flat])] (x11.map eOp))]⟩) (n := 9) (L0 := #[false, false, false, false, false, false, false, false, false]) (by kernel_rfl) (by kernel_rfl) (fun K hk => ?_) ?_
  refine DE.share (fuel := 0) (L := #[true, true, true, true, true, true, true, true, true]) (σ := ⟨52, [(8, .own 51), (9, vi 0)], [(51, .deep 61 5 x11.length [.flat, .flat, .flat, .flat, (.sl 2 1 [.flat])] (x11.map eOp))]⟩) ?_ (fun d13 => ?_)
  exact DE.done (by kernel_rfl) hk
  refine DE.share (fuel := 1) (L := #[true, true, true, true, true, true, true, true, false]) (σ := ⟨52, [(8, .own 51)], [(51, .deep 61 5 x11.length [.flat, .flat, .flat, .flat, (.sl 2 1 [.flat])] (x11.map eOp))]⟩) ?_ (fun d12 => ?_)
  exact DE.take (i := 8) (L' := #[true, true, true, true, true, true, true, true, true]) rfl (.inr rfl) rfl (by kernel_rfl) (by kernel_rfl) (by kernel_rfl) (EStep.le (EStep.ofN2 tbokGB (σ' := ⟨52, [(9, vi 0), (8, .own 51)], [(51, .deep 61 5 x11.length [.flat, .flat, .flat, .flat, (.sl 2 1 [.flat])] (x11.map eOp))]⟩) (by kernel_rfl)) Le.sub0) (by kernel_rfl) d13
  refine DE.share (fuel := 2) (L := #[true, true, true, true, true, true, true, false, false]) (σ := ⟨52, [(51, .own 51)], [(51, .deep 61 5 x11.length [.flat, .flat, .flat, .flat, (.sl 2 1 [.flat])] (x11.map eOp))]⟩) ?_ (fun d11 => ?_)
  exact DE.take (i := 7) (L' := #[true, true, true, true, true, true, true, true, false]) rfl (.inr rfl) rfl (by kernel_rfl) (by kernel_rfl) (by kernel_rfl) (EStep.le (EStep.ofN2 tbokGB (σ' := ⟨52, [(8, .own 51), (51, .own 51)], [(51, .deep 61 5 x11.length [.flat, .flat, .flat, .flat, (.sl 2 1 [.flat])] (x11.map eOp))]⟩) (by kernel_rfl)) Le.sub0) (by kernel_rfl) d12
  refine DE.share (fuel := 3) (L := #[true, true, true, true, true, true, false, false, false]) (σ := ⟨52, [(50, .own 50)], [(50, .arr 61 5 x10.length (x10.map eOp))]⟩) ?_ (fun d10 => ?_)
  exact DE.all [6] (by kernel_rfl) (by simp) (List.forall_mem_cons.2 ⟨DEs.mk (i := 6) (L' := #[true, true, true, true, true, true, true, false, false]) rfl (EStep.le (EStep.ofL (x_lstep_call (f := 63) (caps := []) (xs := [.own 50]) (ys := [vl eOp x10]) (res := ⟨[.deep 61 5 x11.length [.flat, .flat, .flat, .flat, (.sl 2 1 [.flat])] (x11.map eOp)], [], false⟩) (x := .own 51) (y := some (.deep 61 5 x11.length [.flat, .flat, .flat, .flat, (.sl 2 1 [.flat])] (x11.map eOp))) rfl ents63 (spec_l32Own_run x10 _ hx11) rfl (by intro hc; cases hc)) (by kernel_rfl)) Le.sub0) (by kernel_rfl) d11, (fun _ h => absurd h List.not_mem_nil)⟩)
  refine DE.share (fuel := 4) (L := #[true, true, true, true, true, false, false, false, false]) (σ := ⟨52, [(47, .own 47), (49, .own 49)], [(47, .arr 61 5 x9.length (x9.map eOp)), (49, .arr 61 5 ([(Op.mk aOffice (w64 (x8 + 1)) aKey aText x7)] : List Op).length (([(Op.mk aOffice (w64 (x8 + 1)) aKey aText x7)] : List Op).map eOp))]⟩) ?_ (fun d9 => ?_)
  exact DE.all [5] (by kernel_rfl) (by simp) (List.forall_mem_cons.2 ⟨DEs.mk (i := 5) (L' := #[true, true, true, true, true, true, false, false, false]) rfl (EStep.le (x_append (f := eOp) (t := 25) (ti := ti25) (tj := ti61) (zs := [.int .i64 0, .int .i64 0, .string (ByteArray.mk #[]), .string (ByteArray.mk #[]), .slice none 0 0]) (e := 61) (m := 5) (d := 47) (xv := .own 49) hx10 tbokGB rfl rfl rfl rfl (x_src_o (e := 61))) Le.sub0) (by kernel_rfl) d10, (fun _ h => absurd h List.not_mem_nil)⟩)
  refine DE.share (fuel := 5) (L := #[true, true, false, true, true, false, false, false, false]) (σ := ⟨52, [(45, .own 45), (46, vl eOp aLog), (49, .own 49)], [(45, .arr 61 5 ([] : List Op).length (([] : List Op).map eOp)), (49, .arr 61 5 ([(Op.mk aOffice (w64 (x8 + 1)) aKey aText x7)] : List Op).length (([(Op.mk aOffice (w64 (x8 + 1)) aKey aText x7)] : List Op).map eOp))]⟩) ?_ (fun d8 => ?_)
  exact DE.all [2] (by kernel_rfl) (by simp) (List.forall_mem_cons.2 ⟨DEs.mk (i := 2) (L' := #[true, true, true, true, true, false, false, false, false]) rfl (EStep.le (x_append (f := eOp) (t := 25) (ti := ti25) (tj := ti61) (zs := [.int .i64 0, .int .i64 0, .string (ByteArray.mk #[]), .string (ByteArray.mk #[]), .slice none 0 0]) (e := 61) (m := 5) (d := 45) (xv := vl eOp aLog) hx9 tbokGB rfl rfl rfl rfl (src_e (fun _ => rfl))) Le.sub0) (by kernel_rfl) d9, (fun _ h => absurd h List.not_mem_nil)⟩)
  refine DE.share (fuel := 5) (L := #[true, true, true, true, false, false, false, false, false]) (σ := ⟨52, [(47, .own 47), (48, .agg [vi aOffice, vi (w64 (x8 + 1)), vs aKey, vs aText, vl (eI .i64) x7])], [(47, .arr 61 5 x9.length (x9.map eOp))]⟩) ?_ (fun d7 => ?_)
  exact DE.all [4] (by kernel_rfl) (by simp) (List.forall_mem_cons.2 ⟨DEs.mk (i := 4) (L' := #[true, true, true, true, true, false, false, false, false]) rfl (EStep.le (EStep.ofN2 tbokGB (σ' := ⟨52, [(49, .own 49), (47, .own 47), (48, .agg [vi aOffice, vi (w64 (x8 + 1)), vs aKey, vs aText, vl (eI .i64) x7])], [(49, .arr 61 5 ([(Op.mk aOffice (w64 (x8 + 1)) aKey aText x7)] : List Op).length (([(Op.mk aOffice (w64 (x8 + 1)) aKey aText x7)] : List Op).map eOp)), (47, .arr 61 5 x9.length (x9.map eOp))]⟩) (by kernel_rfl)) Le.sub0) (by kernel_rfl) d9, (fun _ h => absurd h List.not_mem_nil)⟩)
  refine DE.share (fuel := 6) (L := #[false, true, false, true, true, false, false, false, false]) (σ := ⟨52, [(46, vl eOp aLog), (49, .own 49)], [(49, .arr 61 5 ([(Op.mk aOffice (w64 (x8 + 1)) aKey aText x7)] : List Op).length (([(Op.mk aOffice (w64 (x8 + 1)) aKey aText x7)] : List Op).map eOp))]⟩) ?_ (fun d6 => ?_)
  exact DE.all [0] (by kernel_rfl) (by simp) (List.forall_mem_cons.2 ⟨DEs.mk (i := 0) (L' := #[true, true, false, true, true, false, false, false, false]) rfl (EStep.ofN2 tbokGB (σ' := ⟨52, [(45, .own 45), (46, vl eOp aLog), (49, .own 49)], [(45, .arr 61 5 ([] : List Op).length (([] : List Op).map eOp)), (49, .arr 61 5 ([(Op.mk aOffice (w64 (x8 + 1)) aKey aText x7)] : List Op).length (([(Op.mk aOffice (w64 (x8 + 1)) aKey aText x7)] : List Op).map eOp))]⟩) (by kernel_rfl)) (by kernel_rfl) d8, (fun _ h => absurd h List.not_mem_nil)⟩)
  refine DE.share (fuel := 6) (L := #[true, true, false, true, false, false, false, false, false]) (σ := ⟨52, [(45, .own 45), (46, vl eOp aLog), (48, .agg [vi aOffice, vi (w64 (x8 + 1)), vs aKey, vs aText, vl (eI .i64) x7])], [(45, .arr 61 5 ([] : List Op).length (([] : List Op).map eOp))]⟩) ?_ (fun d5 => ?_)
  exact DE.all [2, 4] (by kernel_rfl) (by simp) (List.forall_mem_cons.2 ⟨DEs.mk (i := 2) (L' := #[true, true, true, true, false, false, false, false, false]) rfl (EStep.le (x_append (f := eOp) (t := 25) (ti := ti25) (tj := ti61) (zs := [.int .i64 0, .int .i64 0, .string (ByteArray.mk #[]), .string (ByteArray.mk #[]), .slice none 0 0]) (e := 61) (m := 5) (d := 45) (xv := vl eOp aLog) hx9 tbokGB rfl rfl rfl rfl (src_e (fun _ => rfl))) Le.sub0) (by kernel_rfl) d7, (List.forall_mem_cons.2 ⟨DEs.mk (i := 4) (L' := #[true, true, false, true, true, false, false, false, false]) rfl (EStep.le (EStep.ofN2 tbokGB (σ' := ⟨52, [(49, .own 49), (45, .own 45), (46, vl eOp aLog), (48, .agg [vi aOffice, vi (w64 (x8 + 1)), vs aKey, vs aText, vl (eI .i64) x7])], [(49, .arr 61 5 ([(Op.mk aOffice (w64 (x8 + 1)) aKey aText x7)] : List Op).length (([(Op.mk aOffice (w64 (x8 + 1)) aKey aText x7)] : List Op).map eOp)), (45, .arr 61 5 ([] : List Op).length (([] : List Op).map eOp))]⟩) (by kernel_rfl)) Le.sub0) (by kernel_rfl) d8, (fun _ h => absurd h List.not_mem_nil)⟩)⟩)
  refine DE.share (fuel := 6) (L := #[true, true, true, false, false, false, false, false, false]) (σ := ⟨52, [(11, .ref 11 0), (47, .own 47)], [(11, .box [vi aOffice, vi (w64 (x8 + 1)), vs aKey, vs aText, vl (eI .i64) x7]), (47, .arr 61 5 x9.length (x9.map eOp))]⟩) ?_ (fun d4 => ?_)
  exact DE.all [3] (by kernel_rfl) (by simp) (List.forall_mem_cons.2 ⟨DEs.mk (i := 3) (L' := #[true, true, true, true, false, false, false, false, false]) rfl (EStep.le (EStep.ofN2 tbokGB (σ' := ⟨52, [(48, .agg [vi aOffice, vi (w64 (x8 + 1)), vs aKey, vs aText, vl (eI .i64) x7]), (11, .ref 11 0), (47, .own 47)], [(11, .box [vi aOffice, vi (w64 (x8 + 1)), vs aKey, vs aText, vl (eI .i64) x7]), (47, .arr 61 5 x9.length (x9.map eOp))]⟩) (by kernel_rfl)) Le.sub0) (by kernel_rfl) d7, (fun _ h => absurd h List.not_mem_nil)⟩)
  refine DE.share (fuel := 7) (L := #[false, true, false, true, false, false, false, false, false]) (σ := ⟨52, [(46, vl eOp aLog), (48, .agg [vi aOffice, vi (w64 (x8 + 1)), vs aKey, vs aText, vl (eI .i64) x7])], []⟩) ?_ (fun d3 => ?_)
  exact DE.all [0, 4] (by kernel_rfl) (by simp) (List.forall_mem_cons.2 ⟨DEs.mk (i := 0) (L' := #[true, true, false, true, false, false, false, false, false]) rfl (EStep.ofN2 tbokGB (σ' := ⟨52, [(45, .own 45), (46, vl eOp aLog), (48, .agg [vi aOffice, vi (w64 (x8 + 1)), vs aKey, vs aText, vl (eI .i64) x7])], [(45, .arr 61 5 ([] : List Op).length (([] : List Op).map eOp))]⟩) (by kernel_rfl)) (by kernel_rfl) d5, (List.forall_mem_cons.2 ⟨DEs.mk (i := 4) (L' := #[false, true, false, true, true, false, false, false, false]) rfl (EStep.le (EStep.ofN2 tbokGB (σ' := ⟨52, [(49, .own 49), (46, vl eOp aLog), (48, .agg [vi aOffice, vi (w64 (x8 + 1)), vs aKey, vs aText, vl (eI .i64) x7])], [(49, .arr 61 5 ([(Op.mk aOffice (w64 (x8 + 1)) aKey aText x7)] : List Op).length (([(Op.mk aOffice (w64 (x8 + 1)) aKey aText x7)] : List Op).map eOp))]⟩) (by kernel_rfl)) Le.sub0) (by kernel_rfl) d6, (fun _ h => absurd h List.not_mem_nil)⟩)⟩)
  refine DE.share (fuel := 7) (L := #[true, true, false, false, false, false, false, false, false]) (σ := ⟨52, [(11, .ref 11 0), (45, .own 45), (46, vl eOp aLog)], [(11, .box [vi aOffice, vi (w64 (x8 + 1)), vs aKey, vs aText, vl (eI .i64) x7]), (45, .arr 61 5 ([] : List Op).length (([] : List Op).map eOp))]⟩) ?_ (fun d2 => ?_)
  exact DE.all [2, 3] (by kernel_rfl) (by simp) (List.forall_mem_cons.2 ⟨DEs.mk (i := 2) (L' := #[true, true, true, false, false, false, false, false, false]) rfl (EStep.le (x_append (f := eOp) (t := 25) (ti := ti25) (tj := ti61) (zs := [.int .i64 0, .int .i64 0, .string (ByteArray.mk #[]), .string (ByteArray.mk #[]), .slice none 0 0]) (e := 61) (m := 5) (d := 45) (xv := vl eOp aLog) hx9 tbokGB rfl rfl rfl rfl (src_e (fun _ => rfl))) Le.sub0) (by kernel_rfl) d4, (List.forall_mem_cons.2 ⟨DEs.mk (i := 3) (L' := #[true, true, false, true, false, false, false, false, false]) rfl (EStep.le (EStep.ofN2 tbokGB (σ' := ⟨52, [(48, .agg [vi aOffice, vi (w64 (x8 + 1)), vs aKey, vs aText, vl (eI .i64) x7]), (11, .ref 11 0), (45, .own 45), (46, vl eOp aLog)], [(11, .box [vi aOffice, vi (w64 (x8 + 1)), vs aKey, vs aText, vl (eI .i64) x7]), (45, .arr 61 5 ([] : List Op).length (([] : List Op).map eOp))]⟩) (by kernel_rfl)) Le.sub0) (by kernel_rfl) d5, (fun _ h => absurd h List.not_mem_nil)⟩)⟩)
  refine DE.share (fuel := 8) (L := #[false, true, false, false, false, false, false, false, false]) (σ := ⟨52, [(11, .ref 11 0), (46, vl eOp aLog)], [(11, .box [vi aOffice, vi (w64 (x8 + 1)), vs aKey, vs aText, vl (eI .i64) x7])]⟩) ?_ (fun d1 => ?_)
  exact DE.all [0, 3] (by kernel_rfl) (by simp) (List.forall_mem_cons.2 ⟨DEs.mk (i := 0) (L' := #[true, true, false, false, false, false, false, false, false]) rfl (EStep.le (EStep.ofN2 tbokGB (σ' := ⟨52, [(45, .own 45), (11, .ref 11 0), (46, vl eOp aLog)], [(45, .arr 61 5 ([] : List Op).length (([] : List Op).map eOp)), (11, .box [vi aOffice, vi (w64 (x8 + 1)), vs aKey, vs aText, vl (eI .i64) x7])]⟩) (by kernel_rfl)) Le.sub0) (by kernel_rfl) d2, (List.forall_mem_cons.2 ⟨DEs.mk (i := 3) (L' := #[false, true, false, true, false, false, false, false, false]) rfl (EStep.le (EStep.ofN2 tbokGB (σ' := ⟨52, [(48, .agg [vi aOffice, vi (w64 (x8 + 1)), vs aKey, vs aText, vl (eI .i64) x7]), (11, .ref 11 0), (46, vl eOp aLog)], [(11, .box [vi aOffice, vi (w64 (x8 + 1)), vs aKey, vs aText, vl (eI .i64) x7])]⟩) (by kernel_rfl)) Le.sub0) (by kernel_rfl) d3, (fun _ h => absurd h List.not_mem_nil)⟩)⟩)
  exact DE.take (i := 1) (L' := #[false, true, false, false, false, false, false, false, false]) rfl (.inl rfl) rfl (by kernel_rfl) (by kernel_rfl) (by kernel_rfl) (EStep.le (EStep.ofN2 tbokGB (σ' := ⟨52, [(46, vl eOp aLog), (0, vl eOp aLog), (11, .ref 11 0), (44, .agg [vi aOffice, vi (w64 (x8 + 1)), vs aKey, vs aText, vl (eI .i64) x7])], [(11, .box [vi aOffice, vi (w64 (x8 + 1)), vs aKey, vs aText, vl (eI .i64) x7])]⟩) (by kernel_rfl)) Le.sub0) (by kernel_rfl) d1
  refine nx_n ?_
  refine swp_ret ?_
  replace h := Option.some.inj h
  subst h
  exact q_fr (fin2 (by kernel_rfl) (finD (d := 51) (holds_t (by kernel_rfl)) (by kernel_rfl) (by kernel_rfl)) (finV rfl SV.flat_of (holds_t (by kernel_rfl))))
theorem ents32 : Ents Tryd.prog 32 := ents_of Tryd.func32 (by kernel_rfl) rfl
def slices_Clone_int64 (L : List Int) : Option (List Int) := if L.length ≤ 68719476736 then some L else none
set_option maxRecDepth 100000 in
theorem slices_Clone_int64_run (L r : List Int) (h : slices_Clone_int64 L = some r) : SCall Tryd.prog 90 [.v (.tr (.sl L.length (L.map (eI .i64))))] ⟨[.own 2 1 r.length (r.map (eI .i64))], [], true⟩ := by
  unfold slices_Clone_int64 at h
  split at h
  · rename_i hh
    injection h with h
    subst h
    refine clone_scall (eI .i64) Tryd.cloneint64 90 2 rfl rfl _ _ 1 8 rfl rfl (by kernel_rfl) (by kernel_rfl) (by kernel_rfl) (by decide) (fun _ => rfl) (fun _ => rfl) L (by omega)
  · cases h
theorem ents90 : Ents Tryd.prog 90 := ents_of Tryd.func90 (by kernel_rfl) rfl
noncomputable def impl_Op_clone (aX : Op) : Option (Op) :=
  ((slices_Clone_int64 aX.Seen).bind fun x1 => some (Op.mk aX.Office aX.Number aX.Key aX.Text x1))
set_option maxRecDepth 100000 in
set_option maxHeartbeats 4000000 in
theorem impl_Op_clone_run (aX : Op) (r : Op) (h : impl_Op_clone aX = some r) : SCall Tryd.prog 69 [.v (.agg [vi aX.Office, vi aX.Number, vs aX.Key, vs aX.Text, vl (eI .i64) aX.Seen])] ⟨[.part [vi r.Office, vi r.Number, vs r.Key, vs r.Text] [] (.arr 2 1 r.Seen.length (r.Seen.map (eI .i64)))], [], false⟩ := by
  refine scall_in Tryd.func69 rfl [(.cell 2 61)] rfl (fun r => ⟨[.part [vi r.Office, vi r.Number, vs r.Key, vs r.Text] [] (.arr 2 1 r.Seen.length (r.Seen.map (eI .i64)))], [], false⟩) (r := r) ?_
  unfold impl_Op_clone at h
  refine swp_seq ?_
  refine swp_reg ?_
  refine SRun.ck tbokGB 2 ⟨8, [(1, .ref 1 0), (2, .ref 2 0)], [(1, .box [vi aX.Office, vi aX.Number, vs aX.Key, vs aX.Text, vl (eI .i64) aX.Seen]), (2, .box [vi 0, vi 0, vs (ByteArray.mk #[]), vs (ByteArray.mk #[]), vl (eI .i64) ([] : List Int)])]⟩ ?_
  refine SRun.nil ?_
  refine nx_n ?_
  refine swp_seq ?_
  refine swp_reg ?_
  refine SRun.ck tbokGB 2 ⟨8, [(1, .ref 1 0), (2, .ref 2 0), (4, vl (eI .i64) aX.Seen)], [(1, .box [vi aX.Office, vi aX.Number, vs aX.Key, vs aX.Text, vl (eI .i64) aX.Seen]), (2, .box [vi 0, vi 0, vs (ByteArray.mk #[]), vs (ByteArray.mk #[]), vl (eI .i64) ([] : List Int)])]⟩ ?_
  obtain ⟨x1, hx1, h⟩ := bind_some h
  refine SRun.ls (x_lstep_call (f := 90) (caps := []) (xs := [vl (eI .i64) aX.Seen]) (ys := [vl (eI .i64) aX.Seen]) (res := ⟨[.own 2 1 x1.length (x1.map (eI .i64))], [], true⟩) (x := .own 5) (y := some (.arr 2 1 x1.length (x1.map (eI .i64)))) rfl ents90 (slices_Clone_int64_run aX.Seen _ hx1) rfl (fun _ => rfl)) ?_
  refine SRun.ck tbokGB 1 ⟨8, [(1, .ref 1 0), (2, .ref 2 0), (5, .own 5), (6, .ref 1 4)], [(1, .box [vi aX.Office, vi aX.Number, vs aX.Key, vs aX.Text, vl (eI .i64) aX.Seen]), (2, .box [vi 0, vi 0, vs (ByteArray.mk #[]), vs (ByteArray.mk #[]), vl (eI .i64) ([] : List Int)]), (5, .arr 2 1 x1.length (x1.map (eI .i64)))]⟩ ?_
  refine SRun.estep (x_estep_store (d := 1) (k := 4) (ti := ti32) (cs := [vi aX.Office, vi aX.Number, vs aX.Key, vs aX.Text, vl (eI .i64) aX.Seen]) (vs := [.own 5]) (v := .own 5) tbokGB rfl rfl) ?_
  refine SRun.nil ?_
  refine nx_n ?_
  refine swp_seq ?_
  refine swp_reg ?_
  refine SRun.ck tbokGB 1 ⟨8, [(2, .ref 2 0), (7, .agg [vi aX.Office, vi aX.Number, vs aX.Key, vs aX.Text, .own 5])], [(2, .box [vi 0, vi 0, vs (ByteArray.mk #[]), vs (ByteArray.mk #[]), vl (eI .i64) ([] : List Int)]), (5, .arr 2 1 x1.length (x1.map (eI .i64)))]⟩ ?_
  refine SRun.estep (x_estep_store (d := 2) (k := 0) (ti := ti61) (cs := [vi 0, vi 0, vs (ByteArray.mk #[]), vs (ByteArray.mk #[]), vl (eI .i64) ([] : List Int)]) (vs := [vi aX.Office, vi aX.Number, vs aX.Key, vs aX.Text, .own 5]) (v := .agg [vi aX.Office, vi aX.Number, vs aX.Key, vs aX.Text, .own 5]) tbokGB rfl rfl) ?_
  refine SRun.nil ?_
  refine nx_n ?_
  refine swp_ret ?_
  replace h := Option.some.inj h
  subst h
  exact q_fr (fin1 (by kernel_rfl) (finP (d := 5) [vi aX.Office, vi aX.Number, vs aX.Key, vs aX.Text] [] (holds_c tbokGB (d := 2) (cs := [vi aX.Office, vi aX.Number, vs aX.Key, vs aX.Text, .own 5]) (ti := ti61) (by kernel_rfl) (by kernel_rfl) (by kernel_rfl) (by kernel_rfl)) (by kernel_rfl) (flat_map (eI_flat .i64) _) rfl rfl SV.flatL_of SV.flatL_of (by kernel_rfl)))
theorem ents69 : Ents Tryd.prog 69 := ents_of Tryd.func69 (by kernel_rfl) rfl
noncomputable def impl_cloneLog (aLog : (List Op)) : Option ((List Op)) :=
  (((forS (aLog.length : Int) (fun (i3 : Int) (s3 : (List Op)) => ((at' aLog i3).bind fun x7 => ((impl_Op_clone x7).bind fun x8 => ((app' s3 ([x8] : List Op)).bind fun x9 => some x9)))) (fun (s3 : (List Op)) => s3) 0 ([] : List Op))).bind fun (j1 : (List Op)) => some j1)
set_option maxRecDepth 100000 in
set_option maxHeartbeats 4000000 in
theorem impl_cloneLog_run (aLog : (List Op)) (r : (List Op)) (h : impl_cloneLog aLog = some r) : SCall Tryd.prog 65 [.v (vl eOp aLog)] ⟨[.deep 61 5 r.length [.flat, .flat, .flat, .flat, (.sl 2 1 [.flat])] (r.map eOp)], [], false⟩ := by
  refine scall_in Tryd.func65 rfl [(.tmp 2)] rfl (fun r => ⟨[.deep 61 5 r.length [.flat, .flat, .flat, .flat, (.sl 2 1 [.flat])] (r.map eOp)], [], false⟩) (r := r) ?_
  unfold impl_cloneLog at h
  refine swp_seq ?_
  refine swp_reg ?_
  refine SRun.chunk tbokGB 1 (σ' := ⟨19, [(2, .own 2), (0, vl eOp aLog)], [(2, .arr 61 5 ([] : List Op).length (([] : List Op).map eOp))]⟩) (by kernel_rfl) ?_
  refine SRun.le (Le.deep0 (d := 2) (e := 61) (m := 5) (ss := [.flat, .flat, .flat, .flat, (.sl 2 1 [.flat])]) (by kernel_rfl) (by kernel_rfl)) ?_
  refine SRun.nil ?_
  refine nx_n ?_
  refine swp_seq ?_
  refine swp_reg ?_
  refine SRun.chunk tbokGB 1 (σ' := ⟨19, [(3, .own 3), (2, .own 2), (0, vl eOp aLog)], [(3, .arr 61 5 ([] : List Op).length (([] : List Op).map eOp)), (2, .deep 61 5 ([] : List Op).length [.flat, .flat, .flat, .flat, (.sl 2 1 [.flat])] (([] : List Op).map eOp))]⟩) (by kernel_rfl) ?_
  refine SRun.le (Le.deep0 (d := 3) (e := 61) (m := 5) (ss := [.flat, .flat, .flat, .flat, (.sl 2 1 [.flat])]) (by kernel_rfl) (by kernel_rfl)) ?_
  refine SRun.nil ?_
  refine nx_n ?_
  refine swp_seq ?_
  refine swp_seq ?_
  refine swp_reg ?_
  refine SRun.ck tbokGB 3 ⟨19, [(3, .own 3), (6, vl eOp aLog), (7, vi (aLog.length : Int)), (8, vi 0)], [(3, .deep 61 5 ([] : List Op).length [.flat, .flat, .flat, .flat, (.sl 2 1 [.flat])] (([] : List Op).map eOp))]⟩ ?_
  refine SRun.nil ?_
  refine nx_n ?_
  refine swp_seqJ h (fun j1 => ⟨19, [(3, .own 3)], [(3, .deep 61 5 j1.length [.flat, .flat, .flat, .flat, (.sl 2 1 [.flat])] (j1.map eOp))]⟩) (fun v2 h => ?_) (fun j1 h => ?_)
  refine swp_blk (a := v2) ?_
  refine swp_lpL (r := v2) (s := (0, ([] : List Op))) _ (fun s3 => ⟨19, [(3, .own 3), (6, vl eOp aLog), (7, vi (aLog.length : Int)), (8, vi s3.1)], [(3, .deep 61 5 s3.2.length [.flat, .flat, .flat, .flat, (.sl 2 1 [.flat])] (s3.2.map eOp))]⟩) _ (Le.sub0) h (fun s3 v4 h => ?_)
  refine swp_seq ?_
  refine swp_reg ?_
  refine SRun.ck tbokGB 1 ⟨19, [(3, .own 3), (6, vl eOp aLog), (7, vi (aLog.length : Int)), (8, vi s3.1), (9, vb (decide (s3.1 < (aLog.length : Int))))], [(3, .deep 61 5 s3.2.length [.flat, .flat, .flat, .flat, (.sl 2 1 [.flat])] (s3.2.map eOp))]⟩ ?_
  refine SRun.nil ?_
  refine nx_n ?_
  refine swp_seq ?_
  refine swp_cond (b := (decide (s3.1 < (aLog.length : Int)))) (by kernel_rfl) (fun hb => ?_) (fun hb => ?_)
  replace h := cond_t hb h
  refine swp_skip ?_
  refine nx_n ?_
  refine swp_seq ?_
  refine swp_seqJ h (fun j5 => ⟨19, [(3, .own 3), (6, vl eOp aLog), (7, vi (aLog.length : Int)), (8, vi s3.1)], [(3, .deep 61 5 j5.length [.flat, .flat, .flat, .flat, (.sl 2 1 [.flat])] (j5.map eOp))]⟩) (fun v6 h => ?_) (fun j5 h => ?_)
  refine swp_blk (a := v6) ?_
  refine swp_seq ?_
  refine swp_reg ?_
  obtain ⟨x7, hx7, h⟩ := bind_some h
  refine SRun.ls (x_index (L := aLog) (f := eOp) (ti := ti25) (tj := ti61) (e := 61) (k := .i64) tbokGB rfl hx7) ?_
  refine SRun.ck tbokGB 2 ⟨19, [(3, .own 3), (5, .ref 5 0), (6, vl eOp aLog), (7, vi (aLog.length : Int)), (8, vi s3.1), (11, .agg [vi x7.Office, vi x7.Number, vs x7.Key, vs x7.Text, vl (eI .i64) x7.Seen])], [(3, .deep 61 5 s3.2.length [.flat, .flat, .flat, .flat, (.sl 2 1 [.flat])] (s3.2.map eOp)), (5, .box [vi 0, vi 0, vs (ByteArray.mk #[]), vs (ByteArray.mk #[]), vl (eI .i64) ([] : List Int)])]⟩ ?_
  refine SRun.estep (x_estep_store (d := 5) (k := 0) (ti := ti61) (cs := [vi 0, vi 0, vs (ByteArray.mk #[]), vs (ByteArray.mk #[]), vl (eI .i64) ([] : List Int)]) (vs := [vi x7.Office, vi x7.Number, vs x7.Key, vs x7.Text, vl (eI .i64) x7.Seen]) (v := .agg [vi x7.Office, vi x7.Number, vs x7.Key, vs x7.Text, vl (eI .i64) x7.Seen]) tbokGB rfl rfl) ?_
  refine SRun.nil ?_
  refine nx_n ?_
  refine swp_reg ?_
  refine SRun.ck tbokGB 2 ⟨19, [(6, vl eOp aLog), (7, vi (aLog.length : Int)), (8, vi s3.1), (12, .own 3), (13, .agg [vi x7.Office, vi x7.Number, vs x7.Key, vs x7.Text, vl (eI .i64) x7.Seen])], [(3, .deep 61 5 s3.2.length [.flat, .flat, .flat, .flat, (.sl 2 1 [.flat])] (s3.2.map eOp))]⟩ ?_
  obtain ⟨x8, hx8, h⟩ := bind_some h
  refine SRun.ls (x_lstep_call (f := 69) (caps := []) (xs := [.agg [vi x7.Office, vi x7.Number, vs x7.Key, vs x7.Text, vl (eI .i64) x7.Seen]]) (ys := [.agg [vi x7.Office, vi x7.Number, vs x7.Key, vs x7.Text, vl (eI .i64) x7.Seen]]) (res := ⟨[.part [vi x8.Office, vi x8.Number, vs x8.Key, vs x8.Text] [] (.arr 2 1 x8.Seen.length (x8.Seen.map (eI .i64)))], [], false⟩) (x := .agg [vi x8.Office, vi x8.Number, vs x8.Key, vs x8.Text, .own 14]) (y := some (.arr 2 1 x8.Seen.length (x8.Seen.map (eI .i64)))) rfl ents69 (impl_Op_clone_run x7 _ hx8) rfl (by intro hc; cases hc)) ?_
  refine SRun.estep (x_build_deep (ti := ti25) (tj := ti61) (e := 61) (m := 5) (zs := [.int .i64 0, .int .i64 0, .string (ByteArray.mk #[]), .string (ByteArray.mk #[]), .slice none 0 0]) (v := .agg [vi x8.Office, vi x8.Number, vs x8.Key, vs x8.Text, .own 14]) (cs := [vi x8.Office, vi x8.Number, vs x8.Key, vs x8.Text, .own 14]) (ss := [.flat, .flat, .flat, .flat, (.sl 2 1 [.flat])]) (ts := [.int .i64 x8.Office, .int .i64 x8.Number, .str x8.Key, .str x8.Text, .sl x8.Seen.length (x8.Seen.map (eI .i64))]) (ds := [14]) tbokGB rfl rfl rfl (.cons _ _ _ [] _ _ _ _ (.flat (.int .i64 x8.Office) rfl) (.cons _ _ _ [] _ _ _ _ (.flat (.int .i64 x8.Number) rfl) (.cons _ _ _ [] _ _ _ _ (.flat (.str x8.Key) rfl) (.cons _ _ _ [] _ _ _ _ (.flat (.str x8.Text) rfl) (.cons _ _ _ [14] _ _ _ _ (cD_arr (d := 14) (e := 2) (m := 1) (n := x8.Seen.length) (es := x8.Seen.map (eI .i64)) (ss := [.flat]) (flat_map (eI_flat .i64) _)) .nil (by decide)) (by decide)) (by decide)) (by decide)) (by decide))) ?_
  obtain ⟨x9, hx9, h⟩ := bind_some h
  refine SRun.estep (x_append_deep (f := eOp) (L := s3.2) (M := ([x8] : List Op)) (t := 25) (ti := ti25) (tj := ti61) (zs := [.int .i64 0, .int .i64 0, .string (ByteArray.mk #[]), .string (ByteArray.mk #[]), .slice none 0 0]) (e := 61) (m := 5) (d := 3) (dx := 15) (ss := [.flat, .flat, .flat, .flat, (.sl 2 1 [.flat])]) hx9 tbokGB rfl rfl rfl rfl) ?_
  refine SRun.ck tbokGB 1 ⟨19, [(3, .own 16), (6, vl eOp aLog), (7, vi (aLog.length : Int)), (8, vi s3.1)], [(16, .deep 61 5 x9.length [.flat, .flat, .flat, .flat, (.sl 2 1 [.flat])] (x9.map eOp))]⟩ ?_
  refine SRun.nil ?_
  replace h := Option.some.inj h
  subst h
  exact q_bn (q_j ((Le.sub' ([(3, .own 16), (6, vl eOp aLog), (7, vi (aLog.length : Int)), (8, vi s3.1)] : List (Nat × SV)) ([(16, .deep 61 5 x9.length [.flat, .flat, .flat, .flat, (.sl 2 1 [.flat])] (x9.map eOp))] : List (Nat × SO)) (by kernel_rfl) (by kernel_rfl)).trans ((Le.ren' (d := 16) (e := 3) (by kernel_rfl) (by kernel_rfl) (by kernel_rfl)).trans (Le.sub0))))
  refine swp_reg ?_
  refine SRun.ck tbokGB 2 ⟨19, [(3, .own 3), (6, vl eOp aLog), (7, vi (aLog.length : Int)), (8, vi (w64 (s3.1 + 1)))], [(3, .deep 61 5 j5.length [.flat, .flat, .flat, .flat, (.sl 2 1 [.flat])] (j5.map eOp))]⟩ ?_
  refine SRun.nil ?_
  replace h := Option.some.inj h
  subst h
  exact q_l (Le.sub0)
  replace h := cond_f hb h
  refine swp_exit ?_
  replace h := Option.some.inj h
  subst h
  exact nx_e (q_re (q_bh (q_j (Le.sub0))))
  refine swp_seq ?_
  refine swp_reg ?_
  refine SRun.ck tbokGB 2 ⟨19, [(2, .own 3)], [(3, .deep 61 5 j1.length [.flat, .flat, .flat, .flat, (.sl 2 1 [.flat])] (j1.map eOp))]⟩ ?_
  refine SRun.nil ?_
  refine nx_n ?_
  refine swp_ret ?_
  replace h := Option.some.inj h
  subst h
  exact q_fr (fin1 (by kernel_rfl) (finD (d := 3) (holds_t (by kernel_rfl)) (by kernel_rfl) (by kernel_rfl)))
theorem ents65 : Ents Tryd.prog 65 := ents_of Tryd.func65 (by kernel_rfl) rfl
noncomputable def impl_MakeOp (aLog : (List Op)) (aOffice : Int) (aKey : ByteArray) (aText : ByteArray) : Option ((List Op) × Int) :=
  ((((impl_IsLog aLog).bind fun x1 => (bif (!x1) then some true else ((impl_within aOffice 0 3).bind fun x2 => some (!x2))))).bind fun (j3 : Bool) => (bif j3 then some (([] : List Op), 1) else ((impl_vectorOf aLog).bind fun x5 => ((at' x5 aOffice).bind fun x6 => ((((impl_isOp (Op.mk aOffice (w64 (x6 + 1)) aKey aText x5)).bind fun x9 => (bif (!x9) then some (.inr (([] : List Op), 1)) else (bif ((aLog.length : Int) == 16) then some (.inr (([] : List Op), 3)) else some (.inl ()))))).bind (Sum.elim (fun (_ : Unit) => ((impl_cloneLog aLog).bind fun x10 => ((app' x10 ([(Op.mk aOffice (w64 (x6 + 1)) aKey aText x5)] : List Op)).bind fun x11 => some (x11, 0)))) some))))))
set_option maxRecDepth 100000 in
set_option maxHeartbeats 4000000 in
theorem impl_MakeOp_run (aLog : (List Op)) (aOffice : Int) (aKey : ByteArray) (aText : ByteArray) (r : (List Op) × Int) (h : impl_MakeOp aLog aOffice aKey aText = some r) : SCall Tryd.prog 33 [.v (vl eOp aLog), .v (vi aOffice), .v (vs aKey), .v (vs aText)] ⟨[.deep 61 5 r.1.length [.flat, .flat, .flat, .flat, (.sl 2 1 [.flat])] (r.1.map eOp), .v (vi r.2)], [], false⟩ := by
  refine scall_in Tryd.func33 rfl [(.tmp 8), (.tmp 9)] rfl (fun r => ⟨[.deep 61 5 r.1.length [.flat, .flat, .flat, .flat, (.sl 2 1 [.flat])] (r.1.map eOp), .v (vi r.2)], [], false⟩) (r := r) ?_
  unfold impl_MakeOp at h
  refine swp_seq ?_
  refine swp_reg ?_
  refine SRun.chunk tbokGB 1 (σ' := ⟨45, [(8, .own 8), (0, vl eOp aLog), (1, vi aOffice), (2, vs aKey), (3, vs aText)], [(8, .arr 61 5 ([] : List Op).length (([] : List Op).map eOp))]⟩) (by kernel_rfl) ?_
  refine SRun.le (Le.deep0 (d := 8) (e := 61) (m := 5) (ss := [.flat, .flat, .flat, .flat, (.sl 2 1 [.flat])]) (by kernel_rfl) (by kernel_rfl)) ?_
  refine SRun.ck tbokGB 1 ⟨45, [(0, vl eOp aLog), (1, vi aOffice), (2, vs aKey), (3, vs aText)], []⟩ ?_
  refine SRun.nil ?_
  refine nx_n ?_
  refine swp_seq ?_
  refine swp_seq ?_
  refine swp_regJ h (fun j3 => ⟨45, [(0, vl eOp aLog), (1, vi aOffice), (2, vs aKey), (3, vs aText), (19, vb j3)], []⟩) (fun v4 h => ?_) (fun j3 h => ?_)
  refine SRun.ck tbokGB 1 ⟨45, [(0, vl eOp aLog), (1, vi aOffice), (2, vs aKey), (3, vs aText), (12, vl eOp aLog)], []⟩ ?_
  obtain ⟨x1, hx1, h⟩ := bind_some h
  refine SRun.ls (x_lstep_call (f := 15) (caps := []) (xs := [vl eOp aLog]) (ys := [vl eOp aLog]) (res := ⟨[.v (vb x1)], [], false⟩) (x := vb x1) (y := none) rfl ents15 (impl_IsLog_run aLog _ hx1) rfl (by intro hc; cases hc)) ?_
  refine SRun.ck tbokGB 2 ⟨45, [(0, vl eOp aLog), (1, vi aOffice), (2, vs aKey), (3, vs aText), (15, vb (!x1))], []⟩ ?_
  refine SRun.cut [(15, fun b => b)] (b := (!x1)) (by kernel_rfl) (fun hb => ?_) (fun hb => ?_)
  replace h := cond_t hb h
  refine SRun.ck tbokGB 4 ⟨45, [(0, vl eOp aLog), (1, vi aOffice), (2, vs aKey), (3, vs aText), (19, vb true)], []⟩ ?_
  refine SRun.nil ?_
  replace h := Option.some.inj h
  subst h
  exact Le.sub0
  replace h := cond_f hb h
  refine SRun.ck tbokGB 1 ⟨45, [(0, vl eOp aLog), (1, vi aOffice), (2, vs aKey), (3, vs aText), (15, vb false), (16, vi aOffice)], []⟩ ?_
  obtain ⟨x2, hx2, h⟩ := bind_some h
  refine SRun.ls (x_lstep_call (f := 64) (caps := []) (xs := [vi aOffice, vi 0, vi 3]) (ys := [vi aOffice, vi 0, vi 3]) (res := ⟨[.v (vb x2)], [], false⟩) (x := vb x2) (y := none) rfl ents64 (impl_within_run aOffice 0 3 _ hx2) rfl (by intro hc; cases hc)) ?_
  refine SRun.ck tbokGB 2 ⟨45, [(0, vl eOp aLog), (1, vi aOffice), (2, vs aKey), (3, vs aText), (19, vb (!x2))], []⟩ ?_
  refine SRun.nil ?_
  replace h := Option.some.inj h
  subst h
  exact Le.sub0
  refine swp_cond (b := j3) (by kernel_rfl) (fun hb => ?_) (fun hb => ?_)
  replace h := cond_t hb h
  refine swp_seq ?_
  refine swp_reg ?_
  refine SRun.chunk tbokGB 1 (σ' := ⟨45, [(8, .own 8), (0, vl eOp aLog), (1, vi aOffice), (2, vs aKey), (3, vs aText), (19, vb j3)], [(8, .arr 61 5 ([] : List Op).length (([] : List Op).map eOp))]⟩) (by kernel_rfl) ?_
  refine SRun.le (Le.deep0 (d := 8) (e := 61) (m := 5) (ss := [.flat, .flat, .flat, .flat, (.sl 2 1 [.flat])]) (by kernel_rfl) (by kernel_rfl)) ?_
  refine SRun.ck tbokGB 1 ⟨45, [(8, .own 8), (9, vi 1)], [(8, .deep 61 5 ([] : List Op).length [.flat, .flat, .flat, .flat, (.sl 2 1 [.flat])] (([] : List Op).map eOp))]⟩ ?_
  refine SRun.nil ?_
  refine nx_n ?_
  refine swp_ret ?_
  replace h := Option.some.inj h
  subst h
  exact nx_r (q_fr (fin2 (by kernel_rfl) (finD (d := 8) (holds_t (by kernel_rfl)) (by kernel_rfl) (by kernel_rfl)) (finV rfl SV.flat_of (holds_t (by kernel_rfl)))))
  replace h := cond_f hb h
  refine swp_skip ?_
  refine nx_n ?_
  refine swp_seq ?_
  refine swp_reg ?_
  refine SRun.ck tbokGB 1 ⟨45, [(0, vl eOp aLog), (1, vi aOffice), (2, vs aKey), (3, vs aText), (20, vl eOp aLog)], []⟩ ?_
  obtain ⟨x5, hx5, h⟩ := bind_some h
  refine SRun.ls (x_lstep_call (f := 50) (caps := []) (xs := [vl eOp aLog]) (ys := [vl eOp aLog]) (res := ⟨[.own 2 1 x5.length (x5.map (eI .i64))], [], false⟩) (x := .own 21) (y := some (.arr 2 1 x5.length (x5.map (eI .i64)))) rfl ents50 (impl_vectorOf_run aLog _ hx5) rfl (by intro hc; cases hc)) ?_
  refine SRun.ck tbokGB 1 ⟨45, [(0, vl eOp aLog), (1, vi aOffice), (2, vs aKey), (3, vs aText), (10, .own 21)], [(21, .arr 2 1 x5.length (x5.map (eI .i64)))]⟩ ?_
  refine SRun.nil ?_
  refine nx_n ?_
  refine swp_seq ?_
  refine swp_reg ?_
  refine SRun.ck tbokGB 3 ⟨45, [(0, vl eOp aLog), (2, vs aKey), (3, vs aText), (10, .own 21), (22, vi aOffice), (23, .own 21), (24, vi aOffice)], [(21, .arr 2 1 x5.length (x5.map (eI .i64)))]⟩ ?_
  obtain ⟨x6, hx6, h⟩ := bind_some h
  refine SRun.ls (x_index_own (d := 21) (L := x5) (f := (eI .i64)) (ti := ti32) (tj := ti2) (e := 2) (e' := 2) (m := 1) (k := .i64) tbokGB rfl hx6) ?_
  refine SRun.ls (x_load_own (d := 21) (m := 1) (j := 0) (L := x5) (f := (eI .i64)) (ti := ti2) (e := 2) (v := vi x6) tbokGB rfl hx6) ?_
  refine SRun.ck tbokGB 4 ⟨45, [(0, vl eOp aLog), (22, vi aOffice), (27, vi (w64 (x6 + 1))), (28, vs aKey), (29, vs aText), (30, .own 21)], [(21, .arr 2 1 x5.length (x5.map (eI .i64)))]⟩ ?_
  refine SRun.ls (x_lstep_build (v := .agg [vi aOffice, vi (w64 (x6 + 1)), vs aKey, vs aText, .own 21]) tbokGB rfl) ?_
  refine SRun.ck tbokGB 1 ⟨45, [(0, vl eOp aLog), (11, .ref 11 0), (31, .agg [vi aOffice, vi (w64 (x6 + 1)), vs aKey, vs aText, .own 21])], [(11, .box [vi 0, vi 0, vs (ByteArray.mk #[]), vs (ByteArray.mk #[]), vl (eI .i64) ([] : List Int)]), (21, .arr 2 1 x5.length (x5.map (eI .i64)))]⟩ ?_
  refine SRun.estep (x_estep_store (d := 11) (k := 0) (ti := ti61) (cs := [vi 0, vi 0, vs (ByteArray.mk #[]), vs (ByteArray.mk #[]), vl (eI .i64) ([] : List Int)]) (vs := [vi aOffice, vi (w64 (x6 + 1)), vs aKey, vs aText, .own 21]) (v := .agg [vi aOffice, vi (w64 (x6 + 1)), vs aKey, vs aText, .own 21]) tbokGB rfl rfl) ?_
  refine SRun.nil ?_
  refine nx_n ?_
  refine swp_seq ?_
  refine swp_seqE (r := r) h (fun j7 => ⟨45, [(0, vl eOp aLog), (11, .ref 11 0)], [(11, .box [vi aOffice, vi (w64 (x6 + 1)), vs aKey, vs aText, .own 21]), (21, .arr 2 1 x5.length (x5.map (eI .i64)))]⟩) (fun v8 h => ?_) (fun j7 h => ?_)
  refine swp_blk (a := v8) ?_
  refine swp_seq ?_
  refine swp_reg ?_
  refine SRun.ck tbokGB 1 ⟨45, [(0, vl eOp aLog), (11, .ref 11 0), (33, .agg [vi aOffice, vi (w64 (x6 + 1)), vs aKey, vs aText, .own 21])], [(11, .box [vi aOffice, vi (w64 (x6 + 1)), vs aKey, vs aText, .own 21]), (21, .arr 2 1 x5.length (x5.map (eI .i64)))]⟩ ?_
  obtain ⟨x9, hx9, h⟩ := bind_some h
  refine SRun.ls (x_lstep_call (f := 49) (caps := []) (xs := [.agg [vi aOffice, vi (w64 (x6 + 1)), vs aKey, vs aText, .own 21]]) (ys := [.agg [vi aOffice, vi (w64 (x6 + 1)), vs aKey, vs aText, vl (eI .i64) x5]]) (res := ⟨[.v (vb x9)], [], false⟩) (x := vb x9) (y := none) rfl ents49 (impl_isOp_run (Op.mk aOffice (w64 (x6 + 1)) aKey aText x5) _ hx9) rfl (by intro hc; cases hc)) ?_
  refine SRun.ck tbokGB 2 ⟨45, [(0, vl eOp aLog), (11, .ref 11 0), (32, vb (!x9))], [(11, .box [vi aOffice, vi (w64 (x6 + 1)), vs aKey, vs aText, .own 21]), (21, .arr 2 1 x5.length (x5.map (eI .i64)))]⟩ ?_
  refine SRun.nil ?_
  refine nx_n ?_
  refine swp_cond (b := (!x9)) (by kernel_rfl) (fun hb => ?_) (fun hb => ?_)
  replace h := cond_t hb h
  refine swp_seq ?_
  refine swp_reg ?_
  refine SRun.chunk tbokGB 1 (σ' := ⟨45, [(8, .own 8), (0, vl eOp aLog), (11, .ref 11 0), (32, vb (!x9))], [(8, .arr 61 5 ([] : List Op).length (([] : List Op).map eOp)), (11, .box [vi aOffice, vi (w64 (x6 + 1)), vs aKey, vs aText, .own 21]), (21, .arr 2 1 x5.length (x5.map (eI .i64)))]⟩) (by kernel_rfl) ?_
  refine SRun.le (Le.deep0 (d := 8) (e := 61) (m := 5) (ss := [.flat, .flat, .flat, .flat, (.sl 2 1 [.flat])]) (by kernel_rfl) (by kernel_rfl)) ?_
  refine SRun.ck tbokGB 1 ⟨45, [(8, .own 8), (9, vi 1)], [(8, .deep 61 5 ([] : List Op).length [.flat, .flat, .flat, .flat, (.sl 2 1 [.flat])] (([] : List Op).map eOp))]⟩ ?_
  refine SRun.nil ?_
  refine nx_n ?_
  refine swp_ret ?_
  replace h := Option.some.inj h
  subst h
  exact q_br (q_rr (q_fr (fin2 (by kernel_rfl) (finD (d := 8) (holds_t (by kernel_rfl)) (by kernel_rfl) (by kernel_rfl)) (finV rfl SV.flat_of (holds_t (by kernel_rfl))))))
  replace h := cond_f hb h
  refine swp_seq ?_
  refine swp_reg ?_
  refine SRun.ck tbokGB 4 ⟨45, [(0, vl eOp aLog), (11, .ref 11 0), (36, vb ((aLog.length : Int) == 16))], [(11, .box [vi aOffice, vi (w64 (x6 + 1)), vs aKey, vs aText, .own 21]), (21, .arr 2 1 x5.length (x5.map (eI .i64)))]⟩ ?_
  refine SRun.nil ?_
  refine nx_n ?_
  refine swp_cond (b := ((aLog.length : Int) == 16)) (by kernel_rfl) (fun hb => ?_) (fun hb => ?_)
  replace h := cond_t hb h
  refine swp_seq ?_
  refine swp_reg ?_
  refine SRun.chunk tbokGB 1 (σ' := ⟨45, [(8, .own 8), (0, vl eOp aLog), (11, .ref 11 0), (36, vb ((aLog.length : Int) == 16))], [(8, .arr 61 5 ([] : List Op).length (([] : List Op).map eOp)), (11, .box [vi aOffice, vi (w64 (x6 + 1)), vs aKey, vs aText, .own 21]), (21, .arr 2 1 x5.length (x5.map (eI .i64)))]⟩) (by kernel_rfl) ?_
  refine SRun.le (Le.deep0 (d := 8) (e := 61) (m := 5) (ss := [.flat, .flat, .flat, .flat, (.sl 2 1 [.flat])]) (by kernel_rfl) (by kernel_rfl)) ?_
  refine SRun.ck tbokGB 1 ⟨45, [(8, .own 8), (9, vi 3)], [(8, .deep 61 5 ([] : List Op).length [.flat, .flat, .flat, .flat, (.sl 2 1 [.flat])] (([] : List Op).map eOp))]⟩ ?_
  refine SRun.nil ?_
  refine nx_n ?_
  refine swp_ret ?_
  replace h := Option.some.inj h
  subst h
  exact q_br (q_rr (q_fr (fin2 (by kernel_rfl) (finD (d := 8) (holds_t (by kernel_rfl)) (by kernel_rfl) (by kernel_rfl)) (finV rfl SV.flat_of (holds_t (by kernel_rfl))))))
  replace h := cond_f hb h
  refine swp_skip ?_
  replace h := Option.some.inj h
  subst h
  exact q_bn (q_l (Le.sub0))
  refine swp_seq ?_
  obtain ⟨x10, hx10, h⟩ := bind_some h
  obtain ⟨x11, hx11, h⟩ := bind_some h
  refine swp_dr mixed ?_
  refine DGo.enum (σE := ⟨45, [(8, .own 44), (9, vi 0)], [(44, .deep 61 5 x11.length [.flat, .flat, .flat, .flat, (.sl 2 1 [.flat])] (x11.map eOp))]⟩) (n := 7) (L0 := #[false, false, false, false, false, false, false]) (by kernel_rfl) (by kernel_rfl) (fun K hk => ?_) ?_
  refine DE.share (fuel := 0) (L := #[true, true, true, true, true, true, true]) (σ := ⟨45, [(8, .own 44), (9, vi 0)], [(44, .deep 61 5 x11.length [.flat, .flat, .flat, .flat, (.sl 2 1 [.flat])] (x11.map eOp))]⟩) ?_ (fun d9 => ?_)
  exact DE.done (by kernel_rfl) hk
  refine DE.share (fuel := 1) (L := #[true, true, true, true, true, true, false]) (σ := ⟨45, [(8, .own 44)], [(44, .deep 61 5 x11.length [.flat, .flat, .flat, .flat, (.sl 2 1 [.flat])] (x11.map eOp))]⟩) ?_ (fun d8 => ?_)
  exact DE.take (i := 6) (L' := #[true, true, true, true, true, true, true]) rfl (.inr rfl) rfl (by kernel_rfl) (by kernel_rfl) (by kernel_rfl) (EStep.le (EStep.ofN2 tbokGB (σ' := ⟨45, [(9, vi 0), (8, .own 44)], [(44, .deep 61 5 x11.length [.flat, .flat, .flat, .flat, (.sl 2 1 [.flat])] (x11.map eOp))]⟩) (by kernel_rfl)) Le.sub0) (by kernel_rfl) d9
  refine DE.share (fuel := 2) (L := #[true, true, true, true, true, false, false]) (σ := ⟨45, [(44, .own 44)], [(44, .deep 61 5 x11.length [.flat, .flat, .flat, .flat, (.sl 2 1 [.flat])] (x11.map eOp))]⟩) ?_ (fun d7 => ?_)
  exact DE.take (i := 5) (L' := #[true, true, true, true, true, true, false]) rfl (.inr rfl) rfl (by kernel_rfl) (by kernel_rfl) (by kernel_rfl) (EStep.le (EStep.ofN2 tbokGB (σ' := ⟨45, [(8, .own 44), (44, .own 44)], [(44, .deep 61 5 x11.length [.flat, .flat, .flat, .flat, (.sl 2 1 [.flat])] (x11.map eOp))]⟩) (by kernel_rfl)) Le.sub0) (by kernel_rfl) d8
  refine DE.share (fuel := 3) (L := #[true, true, true, true, false, false, false]) (σ := ⟨45, [(41, .own 41), (43, .own 43)], [(41, .deep 61 5 x10.length [.flat, .flat, .flat, .flat, (.sl 2 1 [.flat])] (x10.map eOp)), (43, .deep 61 5 ([(Op.mk aOffice (w64 (x6 + 1)) aKey aText x5)] : List Op).length [.flat, .flat, .flat, .flat, (.sl 2 1 [.flat])] (([(Op.mk aOffice (w64 (x6 + 1)) aKey aText x5)] : List Op).map eOp))]⟩) ?_ (fun d6 => ?_)
  exact DE.all [4] (by kernel_rfl) (by simp) (List.forall_mem_cons.2 ⟨DEs.mk (i := 4) (L' := #[true, true, true, true, true, false, false]) rfl (EStep.le (x_append_deep (f := eOp) (L := x10) (M := ([(Op.mk aOffice (w64 (x6 + 1)) aKey aText x5)] : List Op)) (t := 25) (ti := ti25) (tj := ti61) (zs := [.int .i64 0, .int .i64 0, .string (ByteArray.mk #[]), .string (ByteArray.mk #[]), .slice none 0 0]) (e := 61) (m := 5) (d := 41) (dx := 43) (ss := [.flat, .flat, .flat, .flat, (.sl 2 1 [.flat])]) hx11 tbokGB rfl rfl rfl rfl) Le.sub0) (by kernel_rfl) d7, (fun _ h => absurd h List.not_mem_nil)⟩)
  refine DE.share (fuel := 4) (L := #[true, false, true, true, false, false, false]) (σ := ⟨45, [(40, vl eOp aLog), (43, .own 43)], [(43, .deep 61 5 ([(Op.mk aOffice (w64 (x6 + 1)) aKey aText x5)] : List Op).length [.flat, .flat, .flat, .flat, (.sl 2 1 [.flat])] (([(Op.mk aOffice (w64 (x6 + 1)) aKey aText x5)] : List Op).map eOp))]⟩) ?_ (fun d5 => ?_)
  exact DE.all [1] (by kernel_rfl) (by simp) (List.forall_mem_cons.2 ⟨DEs.mk (i := 1) (L' := #[true, true, true, true, false, false, false]) rfl (EStep.le (EStep.ofL (x_lstep_call (f := 65) (caps := []) (xs := [vl eOp aLog]) (ys := [vl eOp aLog]) (res := ⟨[.deep 61 5 x10.length [.flat, .flat, .flat, .flat, (.sl 2 1 [.flat])] (x10.map eOp)], [], false⟩) (x := .own 41) (y := some (.deep 61 5 x10.length [.flat, .flat, .flat, .flat, (.sl 2 1 [.flat])] (x10.map eOp))) rfl ents65 (impl_cloneLog_run aLog _ hx10) rfl (by intro hc; cases hc)) (by kernel_rfl)) Le.sub0) (by kernel_rfl) d6, (fun _ h => absurd h List.not_mem_nil)⟩)
  refine DE.share (fuel := 4) (L := #[true, true, true, false, false, false, false]) (σ := ⟨45, [(41, .own 41), (42, .agg [vi aOffice, vi (w64 (x6 + 1)), vs aKey, vs aText, .own 21])], [(21, .arr 2 1 x5.length (x5.map (eI .i64))), (41, .deep 61 5 x10.length [.flat, .flat, .flat, .flat, (.sl 2 1 [.flat])] (x10.map eOp))]⟩) ?_ (fun d4 => ?_)
  exact DE.all [3] (by kernel_rfl) (by simp) (List.forall_mem_cons.2 ⟨DEs.mk (i := 3) (L' := #[true, true, true, true, false, false, false]) rfl (EStep.le (x_build_deep (ti := ti25) (tj := ti61) (e := 61) (m := 5) (zs := [.int .i64 0, .int .i64 0, .string (ByteArray.mk #[]), .string (ByteArray.mk #[]), .slice none 0 0]) (v := .agg [vi aOffice, vi (w64 (x6 + 1)), vs aKey, vs aText, .own 21]) (cs := [vi aOffice, vi (w64 (x6 + 1)), vs aKey, vs aText, .own 21]) (ss := [.flat, .flat, .flat, .flat, (.sl 2 1 [.flat])]) (ts := [.int .i64 aOffice, .int .i64 (w64 (x6 + 1)), .str aKey, .str aText, .sl x5.length (x5.map (eI .i64))]) (ds := [21]) tbokGB rfl rfl rfl (.cons _ _ _ [] _ _ _ _ (.flat (.int .i64 aOffice) rfl) (.cons _ _ _ [] _ _ _ _ (.flat (.int .i64 (w64 (x6 + 1))) rfl) (.cons _ _ _ [] _ _ _ _ (.flat (.str aKey) rfl) (.cons _ _ _ [] _ _ _ _ (.flat (.str aText) rfl) (.cons _ _ _ [21] _ _ _ _ (cD_arr (d := 21) (e := 2) (m := 1) (n := x5.length) (es := x5.map (eI .i64)) (ss := [.flat]) (flat_map (eI_flat .i64) _)) .nil (by decide)) (by decide)) (by decide)) (by decide)) (by decide))) Le.sub0) (by kernel_rfl) d6, (fun _ h => absurd h List.not_mem_nil)⟩)
  refine DE.share (fuel := 5) (L := #[true, false, true, false, false, false, false]) (σ := ⟨45, [(40, vl eOp aLog), (42, .agg [vi aOffice, vi (w64 (x6 + 1)), vs aKey, vs aText, .own 21])], [(21, .arr 2 1 x5.length (x5.map (eI .i64)))]⟩) ?_ (fun d3 => ?_)
  exact DE.all [1, 3] (by kernel_rfl) (by simp) (List.forall_mem_cons.2 ⟨DEs.mk (i := 1) (L' := #[true, true, true, false, false, false, false]) rfl (EStep.le (EStep.ofL (x_lstep_call (f := 65) (caps := []) (xs := [vl eOp aLog]) (ys := [vl eOp aLog]) (res := ⟨[.deep 61 5 x10.length [.flat, .flat, .flat, .flat, (.sl 2 1 [.flat])] (x10.map eOp)], [], false⟩) (x := .own 41) (y := some (.deep 61 5 x10.length [.flat, .flat, .flat, .flat, (.sl 2 1 [.flat])] (x10.map eOp))) rfl ents65 (impl_cloneLog_run aLog _ hx10) rfl (by intro hc; cases hc)) (by kernel_rfl)) Le.sub0) (by kernel_rfl) d4, (List.forall_mem_cons.2 ⟨DEs.mk (i := 3) (L' := #[true, false, true, true, false, false, false]) rfl (EStep.le (x_build_deep (ti := ti25) (tj := ti61) (e := 61) (m := 5) (zs := [.int .i64 0, .int .i64 0, .string (ByteArray.mk #[]), .string (ByteArray.mk #[]), .slice none 0 0]) (v := .agg [vi aOffice, vi (w64 (x6 + 1)), vs aKey, vs aText, .own 21]) (cs := [vi aOffice, vi (w64 (x6 + 1)), vs aKey, vs aText, .own 21]) (ss := [.flat, .flat, .flat, .flat, (.sl 2 1 [.flat])]) (ts := [.int .i64 aOffice, .int .i64 (w64 (x6 + 1)), .str aKey, .str aText, .sl x5.length (x5.map (eI .i64))]) (ds := [21]) tbokGB rfl rfl rfl (.cons _ _ _ [] _ _ _ _ (.flat (.int .i64 aOffice) rfl) (.cons _ _ _ [] _ _ _ _ (.flat (.int .i64 (w64 (x6 + 1))) rfl) (.cons _ _ _ [] _ _ _ _ (.flat (.str aKey) rfl) (.cons _ _ _ [] _ _ _ _ (.flat (.str aText) rfl) (.cons _ _ _ [21] _ _ _ _ (cD_arr (d := 21) (e := 2) (m := 1) (n := x5.length) (es := x5.map (eI .i64)) (ss := [.flat]) (flat_map (eI_flat .i64) _)) .nil (by decide)) (by decide)) (by decide)) (by decide)) (by decide))) Le.sub0) (by kernel_rfl) d5, (fun _ h => absurd h List.not_mem_nil)⟩)⟩)
  refine DE.share (fuel := 5) (L := #[true, true, false, false, false, false, false]) (σ := ⟨45, [(11, .ref 11 0), (41, .own 41)], [(11, .box [vi aOffice, vi (w64 (x6 + 1)), vs aKey, vs aText, .own 21]), (21, .arr 2 1 x5.length (x5.map (eI .i64))), (41, .deep 61 5 x10.length [.flat, .flat, .flat, .flat, (.sl 2 1 [.flat])] (x10.map eOp))]⟩) ?_ (fun d2 => ?_)
  exact DE.all [2] (by kernel_rfl) (by simp) (List.forall_mem_cons.2 ⟨DEs.mk (i := 2) (L' := #[true, true, true, false, false, false, false]) rfl (EStep.le (EStep.ofN2 tbokGB (σ' := ⟨45, [(42, .agg [vi aOffice, vi (w64 (x6 + 1)), vs aKey, vs aText, .own 21]), (11, .ref 11 0), (41, .own 41)], [(11, .box [vi aOffice, vi (w64 (x6 + 1)), vs aKey, vs aText, .own 21]), (21, .arr 2 1 x5.length (x5.map (eI .i64))), (41, .deep 61 5 x10.length [.flat, .flat, .flat, .flat, (.sl 2 1 [.flat])] (x10.map eOp))]⟩) (by kernel_rfl)) Le.sub0) (by kernel_rfl) d4, (fun _ h => absurd h List.not_mem_nil)⟩)
  refine DE.share (fuel := 6) (L := #[true, false, false, false, false, false, false]) (σ := ⟨45, [(11, .ref 11 0), (40, vl eOp aLog)], [(11, .box [vi aOffice, vi (w64 (x6 + 1)), vs aKey, vs aText, .own 21]), (21, .arr 2 1 x5.length (x5.map (eI .i64)))]⟩) ?_ (fun d1 => ?_)
  exact DE.all [1, 2] (by kernel_rfl) (by simp) (List.forall_mem_cons.2 ⟨DEs.mk (i := 1) (L' := #[true, true, false, false, false, false, false]) rfl (EStep.le (EStep.ofL (x_lstep_call (f := 65) (caps := []) (xs := [vl eOp aLog]) (ys := [vl eOp aLog]) (res := ⟨[.deep 61 5 x10.length [.flat, .flat, .flat, .flat, (.sl 2 1 [.flat])] (x10.map eOp)], [], false⟩) (x := .own 41) (y := some (.deep 61 5 x10.length [.flat, .flat, .flat, .flat, (.sl 2 1 [.flat])] (x10.map eOp))) rfl ents65 (impl_cloneLog_run aLog _ hx10) rfl (by intro hc; cases hc)) (by kernel_rfl)) Le.sub0) (by kernel_rfl) d2, (List.forall_mem_cons.2 ⟨DEs.mk (i := 2) (L' := #[true, false, true, false, false, false, false]) rfl (EStep.le (EStep.ofN2 tbokGB (σ' := ⟨45, [(42, .agg [vi aOffice, vi (w64 (x6 + 1)), vs aKey, vs aText, .own 21]), (11, .ref 11 0), (40, vl eOp aLog)], [(11, .box [vi aOffice, vi (w64 (x6 + 1)), vs aKey, vs aText, .own 21]), (21, .arr 2 1 x5.length (x5.map (eI .i64)))]⟩) (by kernel_rfl)) Le.sub0) (by kernel_rfl) d3, (fun _ h => absurd h List.not_mem_nil)⟩)⟩)
  exact DE.take (i := 0) (L' := #[true, false, false, false, false, false, false]) rfl (.inl rfl) rfl (by kernel_rfl) (by kernel_rfl) (by kernel_rfl) (EStep.le (EStep.ofN2 tbokGB (σ' := ⟨45, [(40, vl eOp aLog), (0, vl eOp aLog), (11, .ref 11 0)], [(11, .box [vi aOffice, vi (w64 (x6 + 1)), vs aKey, vs aText, .own 21]), (21, .arr 2 1 x5.length (x5.map (eI .i64)))]⟩) (by kernel_rfl)) Le.sub0) (by kernel_rfl) d1
  refine nx_n ?_
  refine swp_ret ?_
  replace h := Option.some.inj h
  subst h
  exact q_fr (fin2 (by kernel_rfl) (finD (d := 44) (holds_t (by kernel_rfl)) (by kernel_rfl) (by kernel_rfl)) (finV rfl SV.flat_of (holds_t (by kernel_rfl))))
theorem ents33 : Ents Tryd.prog 33 := ents_of Tryd.func33 (by kernel_rfl) rfl
noncomputable def spec_l32Find (aLog : (List Op)) (aOffice : Int) (aNumber : Int) : Option (Int) :=
  (((forN (aLog.length : Int) (fun (i3 : Int) (_ : Unit) => ((((at' aLog i3).bind fun x7 => (bif (x7.Office == aOffice) then ((at' aLog i3).bind fun x8 => some (x8.Number == aNumber)) else some false))).bind fun (j9 : Bool) => (bif j9 then some (.inr (.inr i3)) else some (.inl ())))) (fun (_ : Unit) => .inl ()) 0 ())).bind (Sum.elim (fun (_ : Unit) => some (-1)) some))
set_option maxRecDepth 100000 in
set_option maxHeartbeats 4000000 in
theorem spec_l32Find_run (aLog : (List Op)) (aOffice : Int) (aNumber : Int) (r : Int) (h : spec_l32Find aLog aOffice aNumber = some r) : SCall Tryd.prog 66 [.v (vl eOp aLog), .v (vi aOffice), .v (vi aNumber)] ⟨[.v (vi r)], [], false⟩ := by
  refine scall_in Tryd.func66 rfl [(.tmp 6)] rfl (fun r => ⟨[.v (vi r)], [], false⟩) (r := r) ?_
  unfold spec_l32Find at h
  refine swp_seq ?_
  refine swp_reg ?_
  refine SRun.ck tbokGB 1 ⟨31, [(0, vl eOp aLog), (1, vi aOffice), (2, vi aNumber)], []⟩ ?_
  refine SRun.nil ?_
  refine nx_n ?_
  refine swp_seq ?_
  refine swp_seq ?_
  refine swp_reg ?_
  refine SRun.ck tbokGB 1 ⟨31, [(0, vl eOp aLog), (1, vi aOffice), (2, vi aNumber), (7, vi 0)], []⟩ ?_
  refine SRun.nil ?_
  refine nx_n ?_
  refine swp_seqE (r := r) h (fun j1 => ⟨31, [], []⟩) (fun v2 h => ?_) (fun j1 h => ?_)
  refine swp_blk (a := v2) ?_
  refine swp_lpL (r := v2) (s := (0, ())) _ (fun s3 => ⟨31, [(0, vl eOp aLog), (1, vi aOffice), (2, vi aNumber), (7, vi s3.1)], []⟩) _ (Le.sub0) h (fun s3 v4 h => ?_)
  refine swp_seq ?_
  refine swp_seq ?_
  refine swp_reg ?_
  refine SRun.ck tbokGB 4 ⟨31, [(0, vl eOp aLog), (1, vi aOffice), (2, vi aNumber), (7, vi s3.1), (11, vb (decide (s3.1 < (aLog.length : Int))))], []⟩ ?_
  refine SRun.nil ?_
  refine nx_n ?_
  refine swp_cond (b := (decide (s3.1 < (aLog.length : Int)))) (by kernel_rfl) (fun hb => ?_) (fun hb => ?_)
  replace h := cond_t hb h
  refine swp_skip ?_
  refine nx_n ?_
  refine swp_seq ?_
  refine swp_seqL (r := v4) h (fun j5 => ⟨31, [(0, vl eOp aLog), (1, vi aOffice), (2, vi aNumber), (7, vi s3.1)], []⟩) (fun v6 h => ?_) (fun j5 h => ?_)
  refine swp_blk (a := v6) ?_
  refine swp_seq ?_
  refine swp_regJ h (fun j9 => ⟨31, [(0, vl eOp aLog), (1, vi aOffice), (2, vi aNumber), (7, vi s3.1), (29, vb j9)], []⟩) (fun v10 h => ?_) (fun j9 h => ?_)
  refine SRun.ck tbokGB 2 ⟨31, [(0, vl eOp aLog), (1, vi aOffice), (2, vi aNumber), (7, vi s3.1), (14, vl eOp aLog), (15, vi s3.1)], []⟩ ?_
  obtain ⟨x7, hx7, h⟩ := bind_some h
  refine SRun.ls (x_index (L := aLog) (f := eOp) (ti := ti25) (tj := ti61) (e := 61) (k := .i64) tbokGB rfl hx7) ?_
  refine SRun.ck tbokGB 5 ⟨31, [(0, vl eOp aLog), (1, vi aOffice), (2, vi aNumber), (7, vi s3.1), (21, vb (x7.Office == aOffice))], []⟩ ?_
  refine SRun.cut [(21, fun b => b)] (b := (x7.Office == aOffice)) (by kernel_rfl) (fun hb => ?_) (fun hb => ?_)
  replace h := cond_t hb h
  refine SRun.ck tbokGB 2 ⟨31, [(0, vl eOp aLog), (1, vi aOffice), (2, vi aNumber), (7, vi s3.1), (21, vb true), (22, vl eOp aLog), (23, vi s3.1)], []⟩ ?_
  obtain ⟨x8, hx8, h⟩ := bind_some h
  refine SRun.ls (x_index (L := aLog) (f := eOp) (ti := ti25) (tj := ti61) (e := 61) (k := .i64) tbokGB rfl hx8) ?_
  refine SRun.ck tbokGB 5 ⟨31, [(0, vl eOp aLog), (1, vi aOffice), (2, vi aNumber), (7, vi s3.1), (29, vb (x8.Number == aNumber))], []⟩ ?_
  refine SRun.nil ?_
  replace h := Option.some.inj h
  subst h
  exact Le.sub0
  replace h := cond_f hb h
  refine SRun.ck tbokGB 8 ⟨31, [(0, vl eOp aLog), (1, vi aOffice), (2, vi aNumber), (7, vi s3.1), (29, vb false)], []⟩ ?_
  refine SRun.nil ?_
  replace h := Option.some.inj h
  subst h
  exact Le.sub0
  refine swp_cond (b := j9) (by kernel_rfl) (fun hb => ?_) (fun hb => ?_)
  replace h := cond_t hb h
  refine swp_seq ?_
  refine swp_reg ?_
  refine SRun.ck tbokGB 2 ⟨31, [(6, vi s3.1)], []⟩ ?_
  refine SRun.nil ?_
  refine nx_n ?_
  refine swp_ret ?_
  replace h := Option.some.inj h
  subst h
  exact q_br (q_rr (q_rr (q_br (q_rr (q_fr (fin1 (by kernel_rfl) (finV rfl SV.flat_of (holds_t (by kernel_rfl)))))))))
  replace h := cond_f hb h
  refine swp_skip ?_
  replace h := Option.some.inj h
  subst h
  exact q_bn (q_l (Le.sub0))
  refine swp_reg ?_
  refine SRun.ck tbokGB 3 ⟨31, [(0, vl eOp aLog), (1, vi aOffice), (2, vi aNumber), (7, vi (w64 (s3.1 + 1)))], []⟩ ?_
  refine SRun.nil ?_
  replace h := Option.some.inj h
  subst h
  exact q_l (Le.sub0)
  replace h := cond_f hb h
  refine swp_exit ?_
  replace h := Option.some.inj h
  subst h
  exact nx_e (q_re (q_bh (q_l (Le.sub0))))
  refine swp_seq ?_
  refine swp_reg ?_
  refine SRun.ck tbokGB 1 ⟨31, [(6, vi (-1))], []⟩ ?_
  refine SRun.nil ?_
  refine nx_n ?_
  refine swp_ret ?_
  replace h := Option.some.inj h
  subst h
  exact q_fr (fin1 (by kernel_rfl) (finV rfl SV.flat_of (holds_t (by kernel_rfl))))
theorem ents66 : Ents Tryd.prog 66 := ents_of Tryd.func66 (by kernel_rfl) rfl
noncomputable def spec_l01Same (aA : (List Int)) (aB : (List Int)) : Option (Bool) :=
  (bif ((aA.length : Int) != (aB.length : Int)) then some false else (((forN (aA.length : Int) (fun (i3 : Int) (_ : Unit) => ((at' aA i3).bind fun x7 => ((at' aB i3).bind fun x8 => (bif (x7 != x8) then some (.inr (.inr false)) else some (.inl ()))))) (fun (_ : Unit) => .inl ()) 0 ())).bind (Sum.elim (fun (_ : Unit) => some true) some)))
set_option maxRecDepth 100000 in
set_option maxHeartbeats 4000000 in
theorem spec_l01Same_run (aA : (List Int)) (aB : (List Int)) (r : Bool) (h : spec_l01Same aA aB = some r) : SCall Tryd.prog 87 [.v (vl (eI .i64) aA), .v (vl (eI .i64) aB)] ⟨[.v (vb r)], [], false⟩ := by
  refine scall_in Tryd.func87 rfl [(.tmp 4)] rfl (fun r => ⟨[.v (vb r)], [], false⟩) (r := r) ?_
  unfold spec_l01Same at h
  refine swp_seq ?_
  refine swp_reg ?_
  refine SRun.ck tbokGB 1 ⟨26, [(0, vl (eI .i64) aA), (1, vl (eI .i64) aB)], []⟩ ?_
  refine SRun.nil ?_
  refine nx_n ?_
  refine swp_seq ?_
  refine swp_seq ?_
  refine swp_reg ?_
  refine SRun.ck tbokGB 5 ⟨26, [(0, vl (eI .i64) aA), (1, vl (eI .i64) aB), (10, vb ((aA.length : Int) != (aB.length : Int)))], []⟩ ?_
  refine SRun.nil ?_
  refine nx_n ?_
  refine swp_cond (b := ((aA.length : Int) != (aB.length : Int))) (by kernel_rfl) (fun hb => ?_) (fun hb => ?_)
  replace h := cond_t hb h
  refine swp_seq ?_
  refine swp_reg ?_
  refine SRun.ck tbokGB 1 ⟨26, [(4, vb false)], []⟩ ?_
  refine SRun.nil ?_
  refine nx_n ?_
  refine swp_ret ?_
  replace h := Option.some.inj h
  subst h
  exact nx_r (q_fr (fin1 (by kernel_rfl) (finV rfl SV.flat_of (holds_t (by kernel_rfl)))))
  replace h := cond_f hb h
  refine swp_skip ?_
  refine nx_n ?_
  refine swp_seq ?_
  refine swp_seq ?_
  refine swp_reg ?_
  refine SRun.ck tbokGB 1 ⟨26, [(0, vl (eI .i64) aA), (1, vl (eI .i64) aB), (5, vi 0)], []⟩ ?_
  refine SRun.nil ?_
  refine nx_n ?_
  refine swp_seqE (r := r) h (fun j1 => ⟨26, [], []⟩) (fun v2 h => ?_) (fun j1 h => ?_)
  refine swp_blk (a := v2) ?_
  refine swp_lpL (r := v2) (s := (0, ())) _ (fun s3 => ⟨26, [(0, vl (eI .i64) aA), (1, vl (eI .i64) aB), (5, vi s3.1)], []⟩) _ (Le.sub0) h (fun s3 v4 h => ?_)
  refine swp_seq ?_
  refine swp_seq ?_
  refine swp_reg ?_
  refine SRun.ck tbokGB 4 ⟨26, [(0, vl (eI .i64) aA), (1, vl (eI .i64) aB), (5, vi s3.1), (14, vb (decide (s3.1 < (aA.length : Int))))], []⟩ ?_
  refine SRun.nil ?_
  refine nx_n ?_
  refine swp_cond (b := (decide (s3.1 < (aA.length : Int)))) (by kernel_rfl) (fun hb => ?_) (fun hb => ?_)
  replace h := cond_t hb h
  refine swp_skip ?_
  refine nx_n ?_
  refine swp_seq ?_
  refine swp_seqL (r := v4) h (fun j5 => ⟨26, [(0, vl (eI .i64) aA), (1, vl (eI .i64) aB), (5, vi s3.1)], []⟩) (fun v6 h => ?_) (fun j5 h => ?_)
  refine swp_blk (a := v6) ?_
  refine swp_seq ?_
  refine swp_dr mixed ?_
  refine DGo.chunk' tbokGB 2 (σ' := ⟨26, [(18, vi s3.1), (17, vl (eI .i64) aA), (0, vl (eI .i64) aA), (1, vl (eI .i64) aB), (5, vi s3.1), (14, vb (decide (s3.1 < (aA.length : Int))))], []⟩) (by kernel_rfl) ?_
  obtain ⟨x7, hx7, h⟩ := bind_some h
  refine DGo.step (x_index (L := aA) (f := (eI .i64)) (ti := ti32) (tj := ti2) (e := 2) (k := .i64) tbokGB rfl hx7) ?_
  refine DGo.chunk' tbokGB 3 (σ' := ⟨26, [(22, vi s3.1), (21, vl (eI .i64) aB), (20, vi x7), (19, .ptr (((eI .i64) x7).map .tr) 0), (18, vi s3.1), (17, vl (eI .i64) aA), (0, vl (eI .i64) aA), (1, vl (eI .i64) aB), (5, vi s3.1), (14, vb (decide (s3.1 < (aA.length : Int))))], []⟩) (by kernel_rfl) ?_
  obtain ⟨x8, hx8, h⟩ := bind_some h
  refine DGo.step (x_index (L := aB) (f := (eI .i64)) (ti := ti32) (tj := ti2) (e := 2) (k := .i64) tbokGB rfl hx8) ?_
  refine DGo.chunk' tbokGB 2 (σ' := ⟨26, [(25, vb (x7 != x8)), (24, vi x8), (23, .ptr (((eI .i64) x8).map .tr) 0), (22, vi s3.1), (21, vl (eI .i64) aB), (20, vi x7), (19, .ptr (((eI .i64) x7).map .tr) 0), (18, vi s3.1), (17, vl (eI .i64) aA), (0, vl (eI .i64) aA), (1, vl (eI .i64) aB), (5, vi s3.1), (14, vb (decide (s3.1 < (aA.length : Int))))], []⟩) (by kernel_rfl) ?_
  refine DGo.nil (by kernel_rfl) ?_
  refine nx_n ?_
  refine swp_cond (b := (x7 != x8)) (by kernel_rfl) (fun hb => ?_) (fun hb => ?_)
  replace h := cond_t hb h
  refine swp_seq ?_
  refine swp_reg ?_
  refine SRun.ck tbokGB 1 ⟨26, [(4, vb false)], []⟩ ?_
  refine SRun.nil ?_
  refine nx_n ?_
  refine swp_ret ?_
  replace h := Option.some.inj h
  subst h
  exact q_br (q_rr (q_rr (q_br (q_rr (q_fr (fin1 (by kernel_rfl) (finV rfl SV.flat_of (holds_t (by kernel_rfl)))))))))
  replace h := cond_f hb h
  refine swp_skip ?_
  replace h := Option.some.inj h
  subst h
  exact q_bn (q_l (Le.sub0))
  refine swp_reg ?_
  refine SRun.ck tbokGB 3 ⟨26, [(0, vl (eI .i64) aA), (1, vl (eI .i64) aB), (5, vi (w64 (s3.1 + 1)))], []⟩ ?_
  refine SRun.nil ?_
  replace h := Option.some.inj h
  subst h
  exact q_l (Le.sub0)
  replace h := cond_f hb h
  refine swp_exit ?_
  replace h := Option.some.inj h
  subst h
  exact nx_e (q_re (q_bh (q_l (Le.sub0))))
  refine swp_seq ?_
  refine swp_reg ?_
  refine SRun.ck tbokGB 1 ⟨26, [(4, vb true)], []⟩ ?_
  refine SRun.nil ?_
  refine nx_n ?_
  refine swp_ret ?_
  replace h := Option.some.inj h
  subst h
  exact q_fr (fin1 (by kernel_rfl) (finV rfl SV.flat_of (holds_t (by kernel_rfl))))
theorem ents87 : Ents Tryd.prog 87 := ents_of Tryd.func87 (by kernel_rfl) rfl
noncomputable def spec_l32Same (aA : Op) (aB : Op) : Option (Bool) :=
  (((bif (aA.Office == aB.Office) then (bif (aA.Number == aB.Number) then (bif (aA.Key.toList == aB.Key.toList) then (bif (aA.Text.toList == aB.Text.toList) then ((spec_l01Same aA.Seen aB.Seen).bind fun x1 => some x1) else some false) else some false) else some false) else some false)).bind fun (j2 : Bool) => some j2)
set_option maxRecDepth 100000 in
set_option maxHeartbeats 4000000 in
theorem spec_l32Same_run (aA : Op) (aB : Op) (r : Bool) (h : spec_l32Same aA aB = some r) : SCall Tryd.prog 67 [.v (.agg [vi aA.Office, vi aA.Number, vs aA.Key, vs aA.Text, vl (eI .i64) aA.Seen]), .v (.agg [vi aB.Office, vi aB.Number, vs aB.Key, vs aB.Text, vl (eI .i64) aB.Seen])] ⟨[.v (vb r)], [], false⟩ := by
  refine scall_in Tryd.func67 rfl [(.tmp 4)] rfl (fun r => ⟨[.v (vb r)], [], false⟩) (r := r) ?_
  unfold spec_l32Same at h
  refine swp_seq ?_
  refine swp_reg ?_
  refine SRun.ck tbokGB 3 ⟨38, [(2, .ref 2 0), (3, .ref 3 0)], [(2, .box [vi aA.Office, vi aA.Number, vs aA.Key, vs aA.Text, vl (eI .i64) aA.Seen]), (3, .box [vi aB.Office, vi aB.Number, vs aB.Key, vs aB.Text, vl (eI .i64) aB.Seen])]⟩ ?_
  refine SRun.nil ?_
  refine nx_n ?_
  refine swp_seq ?_
  refine swp_regJ h (fun j2 => ⟨38, [(4, vb j2)], []⟩) (fun v3 h => ?_) (fun j2 h => ?_)
  refine SRun.ck tbokGB 6 ⟨38, [(2, .ref 2 0), (3, .ref 3 0), (10, vb (aA.Office == aB.Office))], [(2, .box [vi aA.Office, vi aA.Number, vs aA.Key, vs aA.Text, vl (eI .i64) aA.Seen]), (3, .box [vi aB.Office, vi aB.Number, vs aB.Key, vs aB.Text, vl (eI .i64) aB.Seen])]⟩ ?_
  refine SRun.cut [(10, fun b => b)] (b := (aA.Office == aB.Office)) (by kernel_rfl) (fun hb => ?_) (fun hb => ?_)
  replace h := cond_t hb h
  refine SRun.ck tbokGB 7 ⟨38, [(2, .ref 2 0), (3, .ref 3 0), (17, vb (aA.Number == aB.Number))], [(2, .box [vi aA.Office, vi aA.Number, vs aA.Key, vs aA.Text, vl (eI .i64) aA.Seen]), (3, .box [vi aB.Office, vi aB.Number, vs aB.Key, vs aB.Text, vl (eI .i64) aB.Seen])]⟩ ?_
  refine SRun.cut [(17, fun b => b)] (b := (aA.Number == aB.Number)) (by kernel_rfl) (fun hb => ?_) (fun hb => ?_)
  replace h := cond_t hb h
  refine SRun.ck tbokGB 7 ⟨38, [(2, .ref 2 0), (3, .ref 3 0), (24, vb (aA.Key.toList == aB.Key.toList))], [(2, .box [vi aA.Office, vi aA.Number, vs aA.Key, vs aA.Text, vl (eI .i64) aA.Seen]), (3, .box [vi aB.Office, vi aB.Number, vs aB.Key, vs aB.Text, vl (eI .i64) aB.Seen])]⟩ ?_
  refine SRun.cut [(24, fun b => b)] (b := (aA.Key.toList == aB.Key.toList)) (by kernel_rfl) (fun hb => ?_) (fun hb => ?_)
  replace h := cond_t hb h
  refine SRun.ck tbokGB 7 ⟨38, [(2, .ref 2 0), (3, .ref 3 0), (31, vb (aA.Text.toList == aB.Text.toList))], [(2, .box [vi aA.Office, vi aA.Number, vs aA.Key, vs aA.Text, vl (eI .i64) aA.Seen]), (3, .box [vi aB.Office, vi aB.Number, vs aB.Key, vs aB.Text, vl (eI .i64) aB.Seen])]⟩ ?_
  refine SRun.cut [(31, fun b => b)] (b := (aA.Text.toList == aB.Text.toList)) (by kernel_rfl) (fun hb => ?_) (fun hb => ?_)
  replace h := cond_t hb h
  refine SRun.ck tbokGB 4 ⟨38, [(31, vb true), (33, vl (eI .i64) aA.Seen), (35, vl (eI .i64) aB.Seen)], []⟩ ?_
  obtain ⟨x1, hx1, h⟩ := bind_some h
  refine SRun.ls (x_lstep_call (f := 87) (caps := []) (xs := [vl (eI .i64) aA.Seen, vl (eI .i64) aB.Seen]) (ys := [vl (eI .i64) aA.Seen, vl (eI .i64) aB.Seen]) (res := ⟨[.v (vb x1)], [], false⟩) (x := vb x1) (y := none) rfl ents87 (spec_l01Same_run aA.Seen aB.Seen _ hx1) rfl (by intro hc; cases hc)) ?_
  refine SRun.ck tbokGB 2 ⟨38, [(4, vb x1)], []⟩ ?_
  refine SRun.nil ?_
  replace h := Option.some.inj h
  subst h
  exact Le.sub0
  replace h := cond_f hb h
  refine SRun.ck tbokGB 7 ⟨38, [(4, vb false)], []⟩ ?_
  refine SRun.nil ?_
  replace h := Option.some.inj h
  subst h
  exact Le.sub0
  replace h := cond_f hb h
  refine SRun.ck tbokGB 14 ⟨38, [(4, vb false)], []⟩ ?_
  refine SRun.nil ?_
  replace h := Option.some.inj h
  subst h
  exact Le.sub0
  replace h := cond_f hb h
  refine SRun.ck tbokGB 21 ⟨38, [(4, vb false)], []⟩ ?_
  refine SRun.nil ?_
  replace h := Option.some.inj h
  subst h
  exact Le.sub0
  replace h := cond_f hb h
  refine SRun.ck tbokGB 28 ⟨38, [(4, vb false)], []⟩ ?_
  refine SRun.nil ?_
  replace h := Option.some.inj h
  subst h
  exact Le.sub0
  refine swp_ret ?_
  replace h := Option.some.inj h
  subst h
  exact q_fr (fin1 (by kernel_rfl) (finV rfl SV.flat_of (holds_t (by kernel_rfl))))
theorem ents67 : Ents Tryd.prog 67 := ents_of Tryd.func67 (by kernel_rfl) rfl
noncomputable def spec_MergeLogs (aA : (List Op)) (aB : (List Op)) : Option ((List Op) × Int) :=
  ((((spec_IsLog aA).bind fun x1 => (bif (!x1) then some true else ((spec_IsLog aB).bind fun x2 => some (!x2))))).bind fun (j3 : Bool) => (bif j3 then some (([] : List Op), 1) else ((app' ([] : List Op) aA).bind fun x5 => (((forN (aB.length : Int) (fun (i8 : Int) (s8 : (List Op)) => ((at' aB i8).bind fun x12 => ((at' aB i8).bind fun x13 => ((spec_l32Find aA x12.Office x13.Number).bind fun x14 => (bif (decide (x14 < 0)) then ((at' aB i8).bind fun x15 => ((app' s8 ([x15] : List Op)).bind fun x16 => some (.inl x16))) else ((at' aA x14).bind fun x17 => ((at' aB i8).bind fun x18 => ((spec_l32Same x17 x18).bind fun x19 => (bif (!x19) then some (.inr (.inr (([] : List Op), 5))) else some (.inl s8)))))))))) (fun (s8 : (List Op)) => .inl s8) 0 x5)).bind (Sum.elim (fun (j6 : (List Op)) => (bif (decide ((j6.length : Int) > 16)) then some (([] : List Op), 3) else ((spec_l32Own j6).bind fun x20 => some (x20, 0)))) some)))))
set_option maxRecDepth 100000 in
set_option maxHeartbeats 4000000 in
theorem spec_MergeLogs_run (aA : (List Op)) (aB : (List Op)) (r : (List Op) × Int) (h : spec_MergeLogs aA aB = some r) : SCall Tryd.prog 35 [.v (vl eOp aA), .v (vl eOp aB)] ⟨[.deep 61 5 r.1.length [.flat, .flat, .flat, .flat, (.sl 2 1 [.flat])] (r.1.map eOp), .v (vi r.2)], [], false⟩ := by
  refine scall_in Tryd.func35 rfl [(.tmp 4), (.tmp 5)] rfl (fun r => ⟨[.deep 61 5 r.1.length [.flat, .flat, .flat, .flat, (.sl 2 1 [.flat])] (r.1.map eOp), .v (vi r.2)], [], false⟩) (r := r) ?_
  unfold spec_MergeLogs at h
  refine swp_seq ?_
  refine swp_reg ?_
  refine SRun.ck tbokGB 2 ⟨62, [(0, vl eOp aA), (1, vl eOp aB)], []⟩ ?_
  refine SRun.nil ?_
  refine nx_n ?_
  refine swp_seq ?_
  refine swp_seq ?_
  refine swp_regJ h (fun j3 => ⟨62, [(0, vl eOp aA), (1, vl eOp aB), (16, vb j3)], []⟩) (fun v4 h => ?_) (fun j3 h => ?_)
  refine SRun.ck tbokGB 1 ⟨62, [(0, vl eOp aA), (1, vl eOp aB), (9, vl eOp aA)], []⟩ ?_
  obtain ⟨x1, hx1, h⟩ := bind_some h
  refine SRun.ls (x_lstep_call (f := 13) (caps := []) (xs := [vl eOp aA]) (ys := [vl eOp aA]) (res := ⟨[.v (vb x1)], [], false⟩) (x := vb x1) (y := none) rfl ents13 (spec_IsLog_run aA _ hx1) rfl (by intro hc; cases hc)) ?_
  refine SRun.ck tbokGB 2 ⟨62, [(0, vl eOp aA), (1, vl eOp aB), (12, vb (!x1))], []⟩ ?_
  refine SRun.cut [(12, fun b => b)] (b := (!x1)) (by kernel_rfl) (fun hb => ?_) (fun hb => ?_)
  replace h := cond_t hb h
  refine SRun.ck tbokGB 4 ⟨62, [(0, vl eOp aA), (1, vl eOp aB), (16, vb true)], []⟩ ?_
  refine SRun.nil ?_
  replace h := Option.some.inj h
  subst h
  exact Le.sub0
  replace h := cond_f hb h
  refine SRun.ck tbokGB 1 ⟨62, [(0, vl eOp aA), (1, vl eOp aB), (12, vb false), (13, vl eOp aB)], []⟩ ?_
  obtain ⟨x2, hx2, h⟩ := bind_some h
  refine SRun.ls (x_lstep_call (f := 13) (caps := []) (xs := [vl eOp aB]) (ys := [vl eOp aB]) (res := ⟨[.v (vb x2)], [], false⟩) (x := vb x2) (y := none) rfl ents13 (spec_IsLog_run aB _ hx2) rfl (by intro hc; cases hc)) ?_
  refine SRun.ck tbokGB 2 ⟨62, [(0, vl eOp aA), (1, vl eOp aB), (16, vb (!x2))], []⟩ ?_
  refine SRun.nil ?_
  replace h := Option.some.inj h
  subst h
  exact Le.sub0
  refine swp_cond (b := j3) (by kernel_rfl) (fun hb => ?_) (fun hb => ?_)
  replace h := cond_t hb h
  refine swp_seq ?_
  refine swp_reg ?_
  refine SRun.ck tbokGB 2 ⟨62, [(4, .own 4), (5, vi 1)], [(4, .arr 61 5 ([] : List Op).length (([] : List Op).map eOp))]⟩ ?_
  refine SRun.nil ?_
  refine nx_n ?_
  refine swp_le (Le.deep0 (d := 4) (e := 61) (m := 5) (ss := [.flat, .flat, .flat, .flat, (.sl 2 1 [.flat])]) (by kernel_rfl) (by kernel_rfl)) ?_
  refine swp_ret ?_
  replace h := Option.some.inj h
  subst h
  exact nx_r (q_fr (fin2 (by kernel_rfl) (finD (d := 4) (holds_t (by kernel_rfl)) (by kernel_rfl) (by kernel_rfl)) (finV rfl SV.flat_of (holds_t (by kernel_rfl)))))
  replace h := cond_f hb h
  refine swp_skip ?_
  refine nx_n ?_
  refine swp_seq ?_
  refine swp_reg ?_
  refine SRun.ck tbokGB 2 ⟨62, [(0, vl eOp aA), (1, vl eOp aB), (17, .own 17), (18, vl eOp aA)], [(17, .arr 61 5 ([] : List Op).length (([] : List Op).map eOp))]⟩ ?_
  obtain ⟨x5, hx5, h⟩ := bind_some h
  refine SRun.estep (x_append (f := eOp) (t := 25) (ti := ti25) (tj := ti61) (zs := [.int .i64 0, .int .i64 0, .string (ByteArray.mk #[]), .string (ByteArray.mk #[]), .slice none 0 0]) (e := 61) (m := 5) (d := 17) (xv := vl eOp aA) hx5 tbokGB rfl rfl rfl rfl (src_e (fun _ => rfl))) ?_
  refine SRun.ck tbokGB 1 ⟨62, [(0, vl eOp aA), (1, vl eOp aB), (6, .own 19)], [(19, .arr 61 5 x5.length (x5.map eOp))]⟩ ?_
  refine SRun.nil ?_
  refine nx_n ?_
  refine swp_seq ?_
  refine swp_seq ?_
  refine swp_reg ?_
  refine SRun.ck tbokGB 1 ⟨62, [(0, vl eOp aA), (1, vl eOp aB), (6, .own 19), (7, vi 0)], [(19, .arr 61 5 x5.length (x5.map eOp))]⟩ ?_
  refine SRun.nil ?_
  refine nx_n ?_
  refine swp_seqE (r := r) h (fun j6 => ⟨62, [(6, .own 6)], [(6, .arr 61 5 j6.length (j6.map eOp))]⟩) (fun v7 h => ?_) (fun j6 h => ?_)
  refine swp_blk (a := v7) ?_
  refine swp_lpL (r := v7) (s := (0, x5)) _ (fun s8 => ⟨62, [(0, vl eOp aA), (1, vl eOp aB), (6, .own 6), (7, vi s8.1)], [(6, .arr 61 5 s8.2.length (s8.2.map eOp))]⟩) _ ((Le.sub' ([(0, vl eOp aA), (1, vl eOp aB), (6, .own 19), (7, vi 0)] : List (Nat × SV)) ([(19, .arr 61 5 x5.length (x5.map eOp))] : List (Nat × SO)) (by kernel_rfl) (by kernel_rfl)).trans ((Le.ren' (d := 19) (e := 6) (by kernel_rfl) (by kernel_rfl) (by kernel_rfl)).trans (Le.sub0))) h (fun s8 v9 h => ?_)
  refine swp_seq ?_
  refine swp_seq ?_
  refine swp_reg ?_
  refine SRun.ck tbokGB 4 ⟨62, [(0, vl eOp aA), (1, vl eOp aB), (6, .own 6), (7, vi s8.1), (23, vb (decide (s8.1 < (aB.length : Int))))], [(6, .arr 61 5 s8.2.length (s8.2.map eOp))]⟩ ?_
  refine SRun.nil ?_
  refine nx_n ?_
  refine swp_cond (b := (decide (s8.1 < (aB.length : Int)))) (by kernel_rfl) (fun hb => ?_) (fun hb => ?_)
  replace h := cond_t hb h
  refine swp_skip ?_
  refine nx_n ?_
  refine swp_seq ?_
  refine swp_seqL (r := v9) h (fun j10 => ⟨62, [(0, vl eOp aA), (1, vl eOp aB), (6, .own 6), (7, vi s8.1)], [(6, .arr 61 5 j10.length (j10.map eOp))]⟩) (fun v11 h => ?_) (fun j10 h => ?_)
  refine swp_blk (a := v11) ?_
  refine swp_seq ?_
  refine swp_dr mixed ?_
  refine DGo.chunk' tbokGB 3 (σ' := ⟨62, [(28, vi s8.1), (27, vl eOp aB), (26, vl eOp aA), (0, vl eOp aA), (1, vl eOp aB), (6, .own 6), (7, vi s8.1), (23, vb (decide (s8.1 < (aB.length : Int))))], [(6, .arr 61 5 s8.2.length (s8.2.map eOp))]⟩) (by kernel_rfl) ?_
  obtain ⟨x12, hx12, h⟩ := bind_some h
  refine DGo.step (x_index (L := aB) (f := eOp) (ti := ti25) (tj := ti61) (e := 61) (k := .i64) tbokGB rfl hx12) ?_
  refine DGo.chunk' tbokGB 4 (σ' := ⟨62, [(33, vi s8.1), (32, vl eOp aB), (31, vi x12.Office), (30, .ptr ((eOp x12).map .tr) 0), (29, .ptr ((eOp x12).map .tr) 0), (28, vi s8.1), (27, vl eOp aB), (26, vl eOp aA), (0, vl eOp aA), (1, vl eOp aB), (6, .own 6), (7, vi s8.1), (23, vb (decide (s8.1 < (aB.length : Int))))], [(6, .arr 61 5 s8.2.length (s8.2.map eOp))]⟩) (by kernel_rfl) ?_
  obtain ⟨x13, hx13, h⟩ := bind_some h
  refine DGo.step (x_index (L := aB) (f := eOp) (ti := ti25) (tj := ti61) (e := 61) (k := .i64) tbokGB rfl hx13) ?_
  refine DGo.chunk' tbokGB 2 (σ' := ⟨62, [(36, vi x13.Number), (35, .ptr ((eOp x13).map .tr) 1), (34, .ptr ((eOp x13).map .tr) 0), (33, vi s8.1), (32, vl eOp aB), (31, vi x12.Office), (30, .ptr ((eOp x12).map .tr) 0), (29, .ptr ((eOp x12).map .tr) 0), (28, vi s8.1), (27, vl eOp aB), (26, vl eOp aA), (0, vl eOp aA), (1, vl eOp aB), (6, .own 6), (7, vi s8.1), (23, vb (decide (s8.1 < (aB.length : Int))))], [(6, .arr 61 5 s8.2.length (s8.2.map eOp))]⟩) (by kernel_rfl) ?_
  obtain ⟨x14, hx14, h⟩ := bind_some h
  refine DGo.step (x_lstep_call (f := 66) (caps := []) (xs := [vl eOp aA, vi x12.Office, vi x13.Number]) (ys := [vl eOp aA, vi x12.Office, vi x13.Number]) (res := ⟨[.v (vi x14)], [], false⟩) (x := vi x14) (y := none) rfl ents66 (spec_l32Find_run aA x12.Office x13.Number _ hx14) rfl (by intro hc; cases hc)) ?_
  refine DGo.chunk' tbokGB 1 (σ' := ⟨62, [(8, vi x14), (37, vi x14), (36, vi x13.Number), (35, .ptr ((eOp x13).map .tr) 1), (34, .ptr ((eOp x13).map .tr) 0), (33, vi s8.1), (32, vl eOp aB), (31, vi x12.Office), (30, .ptr ((eOp x12).map .tr) 0), (29, .ptr ((eOp x12).map .tr) 0), (28, vi s8.1), (27, vl eOp aB), (26, vl eOp aA), (0, vl eOp aA), (1, vl eOp aB), (6, .own 6), (7, vi s8.1), (23, vb (decide (s8.1 < (aB.length : Int))))], [(6, .arr 61 5 s8.2.length (s8.2.map eOp))]⟩) (by kernel_rfl) ?_
  refine DGo.nil (by kernel_rfl) ?_
  refine nx_n ?_
  refine swp_seq ?_
  refine swp_reg ?_
  refine SRun.ck tbokGB 2 ⟨62, [(0, vl eOp aA), (1, vl eOp aB), (6, .own 6), (7, vi s8.1), (8, vi x14), (39, vb (decide (x14 < 0)))], [(6, .arr 61 5 s8.2.length (s8.2.map eOp))]⟩ ?_
  refine SRun.nil ?_
  refine nx_n ?_
  refine swp_cond (b := (decide (x14 < 0))) (by kernel_rfl) (fun hb => ?_) (fun hb => ?_)
  replace h := cond_t hb h
  refine swp_reg ?_
  refine SRun.ck tbokGB 3 ⟨62, [(0, vl eOp aA), (1, vl eOp aB), (7, vi s8.1), (40, .own 6), (41, vl eOp aB), (42, vi s8.1)], [(6, .arr 61 5 s8.2.length (s8.2.map eOp))]⟩ ?_
  obtain ⟨x15, hx15, h⟩ := bind_some h
  refine SRun.ls (x_index (L := aB) (f := eOp) (ti := ti25) (tj := ti61) (e := 61) (k := .i64) tbokGB rfl hx15) ?_
  refine SRun.ck tbokGB 2 ⟨62, [(0, vl eOp aA), (1, vl eOp aB), (7, vi s8.1), (40, .own 6), (45, .own 45)], [(6, .arr 61 5 s8.2.length (s8.2.map eOp)), (45, .arr 61 5 ([x15] : List Op).length (([x15] : List Op).map eOp))]⟩ ?_
  obtain ⟨x16, hx16, h⟩ := bind_some h
  refine SRun.estep (x_append (f := eOp) (t := 25) (ti := ti25) (tj := ti61) (zs := [.int .i64 0, .int .i64 0, .string (ByteArray.mk #[]), .string (ByteArray.mk #[]), .slice none 0 0]) (e := 61) (m := 5) (d := 6) (xv := .own 45) hx16 tbokGB rfl rfl rfl rfl (x_src_o (e := 61))) ?_
  refine SRun.ck tbokGB 1 ⟨62, [(0, vl eOp aA), (1, vl eOp aB), (6, .own 46), (7, vi s8.1)], [(46, .arr 61 5 x16.length (x16.map eOp))]⟩ ?_
  refine SRun.nil ?_
  replace h := Option.some.inj h
  subst h
  exact q_bn (q_l ((Le.sub' ([(0, vl eOp aA), (1, vl eOp aB), (6, .own 46), (7, vi s8.1)] : List (Nat × SV)) ([(46, .arr 61 5 x16.length (x16.map eOp))] : List (Nat × SO)) (by kernel_rfl) (by kernel_rfl)).trans ((Le.ren' (d := 46) (e := 6) (by kernel_rfl) (by kernel_rfl) (by kernel_rfl)).trans (Le.sub0))))
  replace h := cond_f hb h
  refine swp_seq ?_
  refine swp_dr mixed ?_
  refine DGo.chunk' tbokGB 2 (σ' := ⟨62, [(48, vi x14), (47, vl eOp aA), (0, vl eOp aA), (1, vl eOp aB), (6, .own 6), (7, vi s8.1), (8, vi x14), (39, vb (decide (x14 < 0)))], [(6, .arr 61 5 s8.2.length (s8.2.map eOp))]⟩) (by kernel_rfl) ?_
  obtain ⟨x17, hx17, h⟩ := bind_some h
  refine DGo.step (x_index (L := aA) (f := eOp) (ti := ti25) (tj := ti61) (e := 61) (k := .i64) tbokGB rfl hx17) ?_
  refine DGo.chunk' tbokGB 3 (σ' := ⟨62, [(52, vi s8.1), (51, vl eOp aB), (50, .agg [vi x17.Office, vi x17.Number, vs x17.Key, vs x17.Text, vl (eI .i64) x17.Seen]), (49, .ptr ((eOp x17).map .tr) 0), (48, vi x14), (47, vl eOp aA), (0, vl eOp aA), (1, vl eOp aB), (6, .own 6), (7, vi s8.1), (8, vi x14), (39, vb (decide (x14 < 0)))], [(6, .arr 61 5 s8.2.length (s8.2.map eOp))]⟩) (by kernel_rfl) ?_
  obtain ⟨x18, hx18, h⟩ := bind_some h
  refine DGo.step (x_index (L := aB) (f := eOp) (ti := ti25) (tj := ti61) (e := 61) (k := .i64) tbokGB rfl hx18) ?_
  refine DGo.chunk' tbokGB 1 (σ' := ⟨62, [(54, .agg [vi x18.Office, vi x18.Number, vs x18.Key, vs x18.Text, vl (eI .i64) x18.Seen]), (53, .ptr ((eOp x18).map .tr) 0), (52, vi s8.1), (51, vl eOp aB), (50, .agg [vi x17.Office, vi x17.Number, vs x17.Key, vs x17.Text, vl (eI .i64) x17.Seen]), (49, .ptr ((eOp x17).map .tr) 0), (48, vi x14), (47, vl eOp aA), (0, vl eOp aA), (1, vl eOp aB), (6, .own 6), (7, vi s8.1), (8, vi x14), (39, vb (decide (x14 < 0)))], [(6, .arr 61 5 s8.2.length (s8.2.map eOp))]⟩) (by kernel_rfl) ?_
  obtain ⟨x19, hx19, h⟩ := bind_some h
  refine DGo.step (x_lstep_call (f := 67) (caps := []) (xs := [.agg [vi x17.Office, vi x17.Number, vs x17.Key, vs x17.Text, vl (eI .i64) x17.Seen], .agg [vi x18.Office, vi x18.Number, vs x18.Key, vs x18.Text, vl (eI .i64) x18.Seen]]) (ys := [.agg [vi x17.Office, vi x17.Number, vs x17.Key, vs x17.Text, vl (eI .i64) x17.Seen], .agg [vi x18.Office, vi x18.Number, vs x18.Key, vs x18.Text, vl (eI .i64) x18.Seen]]) (res := ⟨[.v (vb x19)], [], false⟩) (x := vb x19) (y := none) rfl ents67 (spec_l32Same_run x17 x18 _ hx19) rfl (by intro hc; cases hc)) ?_
  refine DGo.chunk' tbokGB 1 (σ' := ⟨62, [(56, vb (!x19)), (55, vb x19), (54, .agg [vi x18.Office, vi x18.Number, vs x18.Key, vs x18.Text, vl (eI .i64) x18.Seen]), (53, .ptr ((eOp x18).map .tr) 0), (52, vi s8.1), (51, vl eOp aB), (50, .agg [vi x17.Office, vi x17.Number, vs x17.Key, vs x17.Text, vl (eI .i64) x17.Seen]), (49, .ptr ((eOp x17).map .tr) 0), (48, vi x14), (47, vl eOp aA), (0, vl eOp aA), (1, vl eOp aB), (6, .own 6), (7, vi s8.1), (8, vi x14), (39, vb (decide (x14 < 0)))], [(6, .arr 61 5 s8.2.length (s8.2.map eOp))]⟩) (by kernel_rfl) ?_
  refine DGo.nil (by kernel_rfl) ?_
  refine nx_n ?_
  refine swp_cond (b := (!x19)) (by kernel_rfl) (fun hb => ?_) (fun hb => ?_)
  replace h := cond_t hb h
  refine swp_seq ?_
  refine swp_reg ?_
  refine SRun.ck tbokGB 2 ⟨62, [(4, .own 4), (5, vi 5)], [(4, .arr 61 5 ([] : List Op).length (([] : List Op).map eOp))]⟩ ?_
  refine SRun.nil ?_
  refine nx_n ?_
  refine swp_le (Le.deep0 (d := 4) (e := 61) (m := 5) (ss := [.flat, .flat, .flat, .flat, (.sl 2 1 [.flat])]) (by kernel_rfl) (by kernel_rfl)) ?_
  refine swp_ret ?_
  replace h := Option.some.inj h
  subst h
  exact q_br (q_rr (q_rr (q_br (q_rr (q_fr (fin2 (by kernel_rfl) (finD (d := 4) (holds_t (by kernel_rfl)) (by kernel_rfl) (by kernel_rfl)) (finV rfl SV.flat_of (holds_t (by kernel_rfl)))))))))
  replace h := cond_f hb h
  refine swp_skip ?_
  replace h := Option.some.inj h
  subst h
  exact q_bn (q_l (Le.sub0))
  refine swp_reg ?_
  refine SRun.ck tbokGB 3 ⟨62, [(0, vl eOp aA), (1, vl eOp aB), (6, .own 6), (7, vi (w64 (s8.1 + 1)))], [(6, .arr 61 5 j10.length (j10.map eOp))]⟩ ?_
  refine SRun.nil ?_
  replace h := Option.some.inj h
  subst h
  exact q_l (Le.sub0)
  replace h := cond_f hb h
  refine swp_exit ?_
  replace h := Option.some.inj h
  subst h
  exact nx_e (q_re (q_bh (q_l (Le.sub0))))
  refine swp_seq ?_
  refine swp_seq ?_
  refine swp_reg ?_
  refine SRun.ck tbokGB 3 ⟨62, [(6, .own 6), (59, vb (decide ((j6.length : Int) > 16)))], [(6, .arr 61 5 j6.length (j6.map eOp))]⟩ ?_
  refine SRun.nil ?_
  refine nx_n ?_
  refine swp_cond (b := (decide ((j6.length : Int) > 16))) (by kernel_rfl) (fun hb => ?_) (fun hb => ?_)
  replace h := cond_t hb h
  refine swp_seq ?_
  refine swp_reg ?_
  refine SRun.ck tbokGB 2 ⟨62, [(4, .own 4), (5, vi 3)], [(4, .arr 61 5 ([] : List Op).length (([] : List Op).map eOp))]⟩ ?_
  refine SRun.nil ?_
  refine nx_n ?_
  refine swp_le (Le.deep0 (d := 4) (e := 61) (m := 5) (ss := [.flat, .flat, .flat, .flat, (.sl 2 1 [.flat])]) (by kernel_rfl) (by kernel_rfl)) ?_
  refine swp_ret ?_
  replace h := Option.some.inj h
  subst h
  exact nx_r (q_fr (fin2 (by kernel_rfl) (finD (d := 4) (holds_t (by kernel_rfl)) (by kernel_rfl) (by kernel_rfl)) (finV rfl SV.flat_of (holds_t (by kernel_rfl)))))
  replace h := cond_f hb h
  refine swp_skip ?_
  refine nx_n ?_
  refine swp_seq ?_
  refine swp_reg ?_
  refine SRun.ck tbokGB 1 ⟨62, [(60, .own 6)], [(6, .arr 61 5 j6.length (j6.map eOp))]⟩ ?_
  obtain ⟨x20, hx20, h⟩ := bind_some h
  refine SRun.ls (x_lstep_call (f := 63) (caps := []) (xs := [.own 6]) (ys := [vl eOp j6]) (res := ⟨[.deep 61 5 x20.length [.flat, .flat, .flat, .flat, (.sl 2 1 [.flat])] (x20.map eOp)], [], false⟩) (x := .own 61) (y := some (.deep 61 5 x20.length [.flat, .flat, .flat, .flat, (.sl 2 1 [.flat])] (x20.map eOp))) rfl ents63 (spec_l32Own_run j6 _ hx20) rfl (by intro hc; cases hc)) ?_
  refine SRun.ck tbokGB 2 ⟨62, [(4, .own 61), (5, vi 0)], [(61, .deep 61 5 x20.length [.flat, .flat, .flat, .flat, (.sl 2 1 [.flat])] (x20.map eOp))]⟩ ?_
  refine SRun.nil ?_
  refine nx_n ?_
  refine swp_ret ?_
  replace h := Option.some.inj h
  subst h
  exact q_fr (fin2 (by kernel_rfl) (finD (d := 61) (holds_t (by kernel_rfl)) (by kernel_rfl) (by kernel_rfl)) (finV rfl SV.flat_of (holds_t (by kernel_rfl))))
theorem ents35 : Ents Tryd.prog 35 := ents_of Tryd.func35 (by kernel_rfl) rfl
noncomputable def impl_findOp_1 (aY : Op) (c0 : Op) : Option (Bool) :=
  some ((aY.Office == c0.Office) && (aY.Number == c0.Number))
set_option maxRecDepth 100000 in
set_option maxHeartbeats 4000000 in
theorem impl_findOp_1_run (aY : Op) (c0 : Op) (r : Bool) (h : impl_findOp_1 aY c0 = some r) : SCall Tryd.prog 89 [.v (.agg [vi aY.Office, vi aY.Number, vs aY.Key, vs aY.Text, vl (eI .i64) aY.Seen]), .v (.ptr [vi c0.Office, vi c0.Number, vs c0.Key, vs c0.Text, vl (eI .i64) c0.Seen] 0)] ⟨[.v (vb r)], [], false⟩ := by
  refine scall_in Tryd.func89 rfl [(.tmp 3)] rfl (fun r => ⟨[.v (vb r)], [], false⟩) (r := r) ?_
  unfold impl_findOp_1 at h
  refine swp_seq ?_
  refine swp_reg ?_
  refine SRun.ck tbokGB 2 ⟨16, [(1, .ptr [vi c0.Office, vi c0.Number, vs c0.Key, vs c0.Text, vl (eI .i64) c0.Seen] 0), (2, .ref 2 0)], [(2, .box [vi aY.Office, vi aY.Number, vs aY.Key, vs aY.Text, vl (eI .i64) aY.Seen])]⟩ ?_
  refine SRun.nil ?_
  refine nx_n ?_
  refine swp_seq ?_
  refine swp_regP ⟨16, [(3, vb ((aY.Office == c0.Office) && (aY.Number == c0.Number)))], []⟩ ?_ ?_
  refine SRun.ck tbokGB 6 ⟨16, [(1, .ptr [vi c0.Office, vi c0.Number, vs c0.Key, vs c0.Text, vl (eI .i64) c0.Seen] 0), (2, .ref 2 0), (9, vb (aY.Office == c0.Office))], [(2, .box [vi aY.Office, vi aY.Number, vs aY.Key, vs aY.Text, vl (eI .i64) aY.Seen])]⟩ ?_
  generalize (aY.Office == c0.Office) = bb
  cases bb
  refine SRun.ck tbokGB 7 ⟨16, [(3, vb false)], []⟩ ?_
  exact SRun.nil (Le.sub0)
  refine SRun.ck tbokGB 7 ⟨16, [(3, vb (aY.Number == c0.Number))], []⟩ ?_
  exact SRun.nil (Le.sub0)
  refine swp_ret ?_
  replace h := Option.some.inj h
  subst h
  exact q_fr (fin1 (by kernel_rfl) (finV rfl SV.flat_of (holds_t (by kernel_rfl))))
theorem ents89 : Ents Tryd.prog 89 := ents_of Tryd.func89 (by kernel_rfl) rfl
noncomputable def slices_IndexFunc_Op_impl_findOp_1 (aS : (List Op)) (aF0 : Op) : Option (Int) :=
  (((forN (aS.length : Int) (fun (i3 : Int) (_ : Unit) => ((at' aS i3).bind fun x7 => ((impl_findOp_1 x7 aF0).bind fun x8 => (bif x8 then some (.inr (.inr i3)) else some (.inl ()))))) (fun (_ : Unit) => .inl ()) 0 ())).bind (Sum.elim (fun (_ : Unit) => some (-1)) some))
set_option maxRecDepth 100000 in
set_option maxHeartbeats 4000000 in
theorem slices_IndexFunc_Op_impl_findOp_1_run (aS : (List Op)) (aF0 : Op) (r : Int) (h : slices_IndexFunc_Op_impl_findOp_1 aS aF0 = some r) : SCall Tryd.prog 88 [.v (vl eOp aS), .v (.clo 89 [.ptr [vi aF0.Office, vi aF0.Number, vs aF0.Key, vs aF0.Text, vl (eI .i64) aF0.Seen] 0])] ⟨[.v (vi r)], [], false⟩ := by
  refine scall_in Tryd.func88 rfl [(.tmp 4)] rfl (fun r => ⟨[.v (vi r)], [], false⟩) (r := r) ?_
  unfold slices_IndexFunc_Op_impl_findOp_1 at h
  refine swp_seq ?_
  refine swp_reg ?_
  refine SRun.ck tbokGB 1 ⟨19, [(0, vl eOp aS), (1, .clo 89 [.ptr [vi aF0.Office, vi aF0.Number, vs aF0.Key, vs aF0.Text, vl (eI .i64) aF0.Seen] 0])], []⟩ ?_
  refine SRun.nil ?_
  refine nx_n ?_
  refine swp_seq ?_
  refine swp_seq ?_
  refine swp_reg ?_
  refine SRun.ck tbokGB 3 ⟨19, [(0, vl eOp aS), (1, .clo 89 [.ptr [vi aF0.Office, vi aF0.Number, vs aF0.Key, vs aF0.Text, vl (eI .i64) aF0.Seen] 0]), (7, vi (aS.length : Int)), (8, vi 0)], []⟩ ?_
  refine SRun.nil ?_
  refine nx_n ?_
  refine swp_seqE (r := r) h (fun j1 => ⟨19, [], []⟩) (fun v2 h => ?_) (fun j1 h => ?_)
  refine swp_blk (a := v2) ?_
  refine swp_lpL (r := v2) (s := (0, ())) _ (fun s3 => ⟨19, [(0, vl eOp aS), (1, .clo 89 [.ptr [vi aF0.Office, vi aF0.Number, vs aF0.Key, vs aF0.Text, vl (eI .i64) aF0.Seen] 0]), (7, vi (aS.length : Int)), (8, vi s3.1)], []⟩) _ (Le.sub0) h (fun s3 v4 h => ?_)
  refine swp_seq ?_
  refine swp_reg ?_
  refine SRun.ck tbokGB 1 ⟨19, [(0, vl eOp aS), (1, .clo 89 [.ptr [vi aF0.Office, vi aF0.Number, vs aF0.Key, vs aF0.Text, vl (eI .i64) aF0.Seen] 0]), (7, vi (aS.length : Int)), (8, vi s3.1), (9, vb (decide (s3.1 < (aS.length : Int))))], []⟩ ?_
  refine SRun.nil ?_
  refine nx_n ?_
  refine swp_seq ?_
  refine swp_cond (b := (decide (s3.1 < (aS.length : Int)))) (by kernel_rfl) (fun hb => ?_) (fun hb => ?_)
  replace h := cond_t hb h
  refine swp_skip ?_
  refine nx_n ?_
  refine swp_seq ?_
  refine swp_seqL (r := v4) h (fun j5 => ⟨19, [(0, vl eOp aS), (1, .clo 89 [.ptr [vi aF0.Office, vi aF0.Number, vs aF0.Key, vs aF0.Text, vl (eI .i64) aF0.Seen] 0]), (7, vi (aS.length : Int)), (8, vi s3.1)], []⟩) (fun v6 h => ?_) (fun j5 h => ?_)
  refine swp_blk (a := v6) ?_
  refine swp_seq ?_
  refine swp_reg ?_
  refine SRun.ck tbokGB 2 ⟨19, [(0, vl eOp aS), (1, .clo 89 [.ptr [vi aF0.Office, vi aF0.Number, vs aF0.Key, vs aF0.Text, vl (eI .i64) aF0.Seen] 0]), (5, vi s3.1), (7, vi (aS.length : Int)), (8, vi s3.1)], []⟩ ?_
  refine SRun.nil ?_
  refine nx_n ?_
  refine swp_seq ?_
  refine swp_reg ?_
  refine SRun.ck tbokGB 3 ⟨19, [(0, vl eOp aS), (1, .clo 89 [.ptr [vi aF0.Office, vi aF0.Number, vs aF0.Key, vs aF0.Text, vl (eI .i64) aF0.Seen] 0]), (5, vi s3.1), (7, vi (aS.length : Int)), (8, vi s3.1), (11, .clo 89 [.ptr [vi aF0.Office, vi aF0.Number, vs aF0.Key, vs aF0.Text, vl (eI .i64) aF0.Seen] 0]), (12, vl eOp aS), (13, vi s3.1)], []⟩ ?_
  obtain ⟨x7, hx7, h⟩ := bind_some h
  refine SRun.ls (x_index (L := aS) (f := eOp) (ti := ti25) (tj := ti61) (e := 61) (k := .i64) tbokGB rfl hx7) ?_
  refine SRun.ck tbokGB 1 ⟨19, [(0, vl eOp aS), (1, .clo 89 [.ptr [vi aF0.Office, vi aF0.Number, vs aF0.Key, vs aF0.Text, vl (eI .i64) aF0.Seen] 0]), (5, vi s3.1), (7, vi (aS.length : Int)), (8, vi s3.1), (11, .clo 89 [.ptr [vi aF0.Office, vi aF0.Number, vs aF0.Key, vs aF0.Text, vl (eI .i64) aF0.Seen] 0]), (15, .agg [vi x7.Office, vi x7.Number, vs x7.Key, vs x7.Text, vl (eI .i64) x7.Seen])], []⟩ ?_
  obtain ⟨x8, hx8, h⟩ := bind_some h
  refine SRun.ls (x_lstep_call (f := 89) (caps := [.ptr [vi aF0.Office, vi aF0.Number, vs aF0.Key, vs aF0.Text, vl (eI .i64) aF0.Seen] 0]) (xs := [.agg [vi x7.Office, vi x7.Number, vs x7.Key, vs x7.Text, vl (eI .i64) x7.Seen]]) (ys := [.agg [vi x7.Office, vi x7.Number, vs x7.Key, vs x7.Text, vl (eI .i64) x7.Seen], .ptr [vi aF0.Office, vi aF0.Number, vs aF0.Key, vs aF0.Text, vl (eI .i64) aF0.Seen] 0]) (res := ⟨[.v (vb x8)], [], false⟩) (x := vb x8) (y := none) rfl ents89 (impl_findOp_1_run x7 aF0 _ hx8) rfl (by intro hc; cases hc)) ?_
  refine SRun.nil ?_
  refine nx_n ?_
  refine swp_cond (b := x8) (by kernel_rfl) (fun hb => ?_) (fun hb => ?_)
  replace h := cond_t hb h
  refine swp_seq ?_
  refine swp_reg ?_
  refine SRun.ck tbokGB 2 ⟨19, [(4, vi s3.1)], []⟩ ?_
  refine SRun.nil ?_
  refine nx_n ?_
  refine swp_ret ?_
  replace h := Option.some.inj h
  subst h
  exact q_br (q_rr (q_rr (q_br (q_rr (q_fr (fin1 (by kernel_rfl) (finV rfl SV.flat_of (holds_t (by kernel_rfl)))))))))
  replace h := cond_f hb h
  refine swp_skip ?_
  replace h := Option.some.inj h
  subst h
  exact q_bn (q_l (Le.sub0))
  refine swp_reg ?_
  refine SRun.ck tbokGB 2 ⟨19, [(0, vl eOp aS), (1, .clo 89 [.ptr [vi aF0.Office, vi aF0.Number, vs aF0.Key, vs aF0.Text, vl (eI .i64) aF0.Seen] 0]), (7, vi (aS.length : Int)), (8, vi (w64 (s3.1 + 1)))], []⟩ ?_
  refine SRun.nil ?_
  replace h := Option.some.inj h
  subst h
  exact q_l (Le.sub0)
  replace h := cond_f hb h
  refine swp_exit ?_
  replace h := Option.some.inj h
  subst h
  exact nx_e (q_re (q_bh (q_l (Le.sub0))))
  refine swp_seq ?_
  refine swp_reg ?_
  refine SRun.ck tbokGB 1 ⟨19, [(4, vi (-1))], []⟩ ?_
  refine SRun.nil ?_
  refine nx_n ?_
  refine swp_ret ?_
  replace h := Option.some.inj h
  subst h
  exact q_fr (fin1 (by kernel_rfl) (finV rfl SV.flat_of (holds_t (by kernel_rfl))))
noncomputable def impl_findOp (aLog : (List Op)) (aX : Op) : Option (Int) :=
  ((slices_IndexFunc_Op_impl_findOp_1 aLog aX).bind fun x1 => some x1)
set_option maxRecDepth 100000 in
set_option maxHeartbeats 4000000 in
theorem impl_findOp_run (aLog : (List Op)) (aX : Op) (r : Int) (h : impl_findOp aLog aX = some r) : SCall Tryd.prog 68 [.v (vl eOp aLog), .v (.agg [vi aX.Office, vi aX.Number, vs aX.Key, vs aX.Text, vl (eI .i64) aX.Seen])] ⟨[.v (vi r)], [], false⟩ := by
  refine scall_in Tryd.func68 rfl [(.tmp 4)] rfl (fun r => ⟨[.v (vi r)], [], false⟩) (r := r) ?_
  unfold impl_findOp at h
  refine swp_seq ?_
  refine swp_reg ?_
  refine SRun.ck tbokGB 2 ⟨8, [(0, vl eOp aLog), (3, .ref 3 0)], [(3, .box [vi aX.Office, vi aX.Number, vs aX.Key, vs aX.Text, vl (eI .i64) aX.Seen])]⟩ ?_
  refine SRun.nil ?_
  refine nx_n ?_
  refine swp_seq ?_
  refine swp_reg ?_
  refine SRun.ck tbokGB 2 ⟨8, [(5, vl eOp aLog), (6, .clo 89 [.ref 3 0])], [(3, .box [vi aX.Office, vi aX.Number, vs aX.Key, vs aX.Text, vl (eI .i64) aX.Seen])]⟩ ?_
  obtain ⟨x1, hx1, h⟩ := bind_some h
  refine SRun.ls (x_lstep_call (f := 88) (caps := []) (xs := [vl eOp aLog, .clo 89 [.ref 3 0]]) (ys := [vl eOp aLog, .clo 89 [.ptr [vi aX.Office, vi aX.Number, vs aX.Key, vs aX.Text, vl (eI .i64) aX.Seen] 0]]) (res := ⟨[.v (vi x1)], [], false⟩) (x := vi x1) (y := none) rfl ents88 (slices_IndexFunc_Op_impl_findOp_1_run aLog aX _ hx1) rfl (by intro hc; cases hc)) ?_
  refine SRun.ck tbokGB 1 ⟨8, [(4, vi x1)], []⟩ ?_
  refine SRun.nil ?_
  refine nx_n ?_
  refine swp_ret ?_
  replace h := Option.some.inj h
  subst h
  exact q_fr (fin1 (by kernel_rfl) (finV rfl SV.flat_of (holds_t (by kernel_rfl))))
theorem ents68 : Ents Tryd.prog 68 := ents_of Tryd.func68 (by kernel_rfl) rfl
noncomputable def slices_Equal_int64 (aS1 : (List Int)) (aS2 : (List Int)) : Option (Bool) :=
  (bif ((aS1.length : Int) != (aS2.length : Int)) then some false else (((forN (aS1.length : Int) (fun (i3 : Int) (_ : Unit) => ((at' aS1 i3).bind fun x7 => ((at' aS2 i3).bind fun x8 => (bif (x7 != x8) then some (.inr (.inr false)) else some (.inl ()))))) (fun (_ : Unit) => .inl ()) 0 ())).bind (Sum.elim (fun (_ : Unit) => some true) some)))
set_option maxRecDepth 100000 in
set_option maxHeartbeats 4000000 in
theorem slices_Equal_int64_run (aS1 : (List Int)) (aS2 : (List Int)) (r : Bool) (h : slices_Equal_int64 aS1 aS2 = some r) : SCall Tryd.prog 91 [.v (vl (eI .i64) aS1), .v (vl (eI .i64) aS2)] ⟨[.v (vb r)], [], false⟩ := by
  refine scall_in Tryd.func91 rfl [(.tmp 4)] rfl (fun r => ⟨[.v (vb r)], [], false⟩) (r := r) ?_
  unfold slices_Equal_int64 at h
  refine swp_seq ?_
  refine swp_reg ?_
  refine SRun.ck tbokGB 1 ⟨26, [(0, vl (eI .i64) aS1), (1, vl (eI .i64) aS2)], []⟩ ?_
  refine SRun.nil ?_
  refine nx_n ?_
  refine swp_seq ?_
  refine swp_seq ?_
  refine swp_reg ?_
  refine SRun.ck tbokGB 5 ⟨26, [(0, vl (eI .i64) aS1), (1, vl (eI .i64) aS2), (10, vb ((aS1.length : Int) != (aS2.length : Int)))], []⟩ ?_
  refine SRun.nil ?_
  refine nx_n ?_
  refine swp_cond (b := ((aS1.length : Int) != (aS2.length : Int))) (by kernel_rfl) (fun hb => ?_) (fun hb => ?_)
  replace h := cond_t hb h
  refine swp_seq ?_
  refine swp_reg ?_
  refine SRun.ck tbokGB 1 ⟨26, [(4, vb false)], []⟩ ?_
  refine SRun.nil ?_
  refine nx_n ?_
  refine swp_ret ?_
  replace h := Option.some.inj h
  subst h
  exact nx_r (q_fr (fin1 (by kernel_rfl) (finV rfl SV.flat_of (holds_t (by kernel_rfl)))))
  replace h := cond_f hb h
  refine swp_skip ?_
  refine nx_n ?_
  refine swp_seq ?_
  refine swp_seq ?_
  refine swp_reg ?_
  refine SRun.ck tbokGB 3 ⟨26, [(0, vl (eI .i64) aS1), (1, vl (eI .i64) aS2), (12, vi (aS1.length : Int)), (13, vi 0)], []⟩ ?_
  refine SRun.nil ?_
  refine nx_n ?_
  refine swp_seqE (r := r) h (fun j1 => ⟨26, [], []⟩) (fun v2 h => ?_) (fun j1 h => ?_)
  refine swp_blk (a := v2) ?_
  refine swp_lpL (r := v2) (s := (0, ())) _ (fun s3 => ⟨26, [(0, vl (eI .i64) aS1), (1, vl (eI .i64) aS2), (12, vi (aS1.length : Int)), (13, vi s3.1)], []⟩) _ (Le.sub0) h (fun s3 v4 h => ?_)
  refine swp_seq ?_
  refine swp_reg ?_
  refine SRun.ck tbokGB 1 ⟨26, [(0, vl (eI .i64) aS1), (1, vl (eI .i64) aS2), (12, vi (aS1.length : Int)), (13, vi s3.1), (14, vb (decide (s3.1 < (aS1.length : Int))))], []⟩ ?_
  refine SRun.nil ?_
  refine nx_n ?_
  refine swp_seq ?_
  refine swp_cond (b := (decide (s3.1 < (aS1.length : Int)))) (by kernel_rfl) (fun hb => ?_) (fun hb => ?_)
  replace h := cond_t hb h
  refine swp_skip ?_
  refine nx_n ?_
  refine swp_seq ?_
  refine swp_seqL (r := v4) h (fun j5 => ⟨26, [(0, vl (eI .i64) aS1), (1, vl (eI .i64) aS2), (12, vi (aS1.length : Int)), (13, vi s3.1)], []⟩) (fun v6 h => ?_) (fun j5 h => ?_)
  refine swp_blk (a := v6) ?_
  refine swp_seq ?_
  refine swp_reg ?_
  refine SRun.ck tbokGB 2 ⟨26, [(0, vl (eI .i64) aS1), (1, vl (eI .i64) aS2), (5, vi s3.1), (12, vi (aS1.length : Int)), (13, vi s3.1)], []⟩ ?_
  refine SRun.nil ?_
  refine nx_n ?_
  refine swp_seq ?_
  refine swp_dr mixed ?_
  refine DGo.chunk' tbokGB 2 (σ' := ⟨26, [(17, vi s3.1), (16, vl (eI .i64) aS1), (0, vl (eI .i64) aS1), (1, vl (eI .i64) aS2), (5, vi s3.1), (12, vi (aS1.length : Int)), (13, vi s3.1)], []⟩) (by kernel_rfl) ?_
  obtain ⟨x7, hx7, h⟩ := bind_some h
  refine DGo.step (x_index (L := aS1) (f := (eI .i64)) (ti := ti32) (tj := ti2) (e := 2) (k := .i64) tbokGB rfl hx7) ?_
  refine DGo.chunk' tbokGB 3 (σ' := ⟨26, [(21, vi s3.1), (20, vl (eI .i64) aS2), (19, vi x7), (18, .ptr (((eI .i64) x7).map .tr) 0), (17, vi s3.1), (16, vl (eI .i64) aS1), (0, vl (eI .i64) aS1), (1, vl (eI .i64) aS2), (5, vi s3.1), (12, vi (aS1.length : Int)), (13, vi s3.1)], []⟩) (by kernel_rfl) ?_
  obtain ⟨x8, hx8, h⟩ := bind_some h
  refine DGo.step (x_index (L := aS2) (f := (eI .i64)) (ti := ti32) (tj := ti2) (e := 2) (k := .i64) tbokGB rfl hx8) ?_
  refine DGo.chunk' tbokGB 2 (σ' := ⟨26, [(24, vb (x7 != x8)), (23, vi x8), (22, .ptr (((eI .i64) x8).map .tr) 0), (21, vi s3.1), (20, vl (eI .i64) aS2), (19, vi x7), (18, .ptr (((eI .i64) x7).map .tr) 0), (17, vi s3.1), (16, vl (eI .i64) aS1), (0, vl (eI .i64) aS1), (1, vl (eI .i64) aS2), (5, vi s3.1), (12, vi (aS1.length : Int)), (13, vi s3.1)], []⟩) (by kernel_rfl) ?_
  refine DGo.nil (by kernel_rfl) ?_
  refine nx_n ?_
  refine swp_cond (b := (x7 != x8)) (by kernel_rfl) (fun hb => ?_) (fun hb => ?_)
  replace h := cond_t hb h
  refine swp_seq ?_
  refine swp_reg ?_
  refine SRun.ck tbokGB 1 ⟨26, [(4, vb false)], []⟩ ?_
  refine SRun.nil ?_
  refine nx_n ?_
  refine swp_ret ?_
  replace h := Option.some.inj h
  subst h
  exact q_br (q_rr (q_rr (q_br (q_rr (q_fr (fin1 (by kernel_rfl) (finV rfl SV.flat_of (holds_t (by kernel_rfl)))))))))
  replace h := cond_f hb h
  refine swp_skip ?_
  replace h := Option.some.inj h
  subst h
  exact q_bn (q_l (Le.sub0))
  refine swp_reg ?_
  refine SRun.ck tbokGB 2 ⟨26, [(0, vl (eI .i64) aS1), (1, vl (eI .i64) aS2), (12, vi (aS1.length : Int)), (13, vi (w64 (s3.1 + 1)))], []⟩ ?_
  refine SRun.nil ?_
  replace h := Option.some.inj h
  subst h
  exact q_l (Le.sub0)
  replace h := cond_f hb h
  refine swp_exit ?_
  replace h := Option.some.inj h
  subst h
  exact nx_e (q_re (q_bh (q_l (Le.sub0))))
  refine swp_seq ?_
  refine swp_reg ?_
  refine SRun.ck tbokGB 1 ⟨26, [(4, vb true)], []⟩ ?_
  refine SRun.nil ?_
  refine nx_n ?_
  refine swp_ret ?_
  replace h := Option.some.inj h
  subst h
  exact q_fr (fin1 (by kernel_rfl) (finV rfl SV.flat_of (holds_t (by kernel_rfl))))
theorem ents91 : Ents Tryd.prog 91 := ents_of Tryd.func91 (by kernel_rfl) rfl
noncomputable def impl_Op_isSame (aX : Op) (aY : Op) : Option (Bool) :=
  (((bif (aX.Office == aY.Office) then (bif (aX.Number == aY.Number) then (bif (aX.Key.toList == aY.Key.toList) then (bif (aX.Text.toList == aY.Text.toList) then ((slices_Equal_int64 aX.Seen aY.Seen).bind fun x1 => some x1) else some false) else some false) else some false) else some false)).bind fun (j2 : Bool) => some j2)
set_option maxRecDepth 100000 in
set_option maxHeartbeats 4000000 in
theorem impl_Op_isSame_run (aX : Op) (aY : Op) (r : Bool) (h : impl_Op_isSame aX aY = some r) : SCall Tryd.prog 70 [.v (.agg [vi aX.Office, vi aX.Number, vs aX.Key, vs aX.Text, vl (eI .i64) aX.Seen]), .v (.agg [vi aY.Office, vi aY.Number, vs aY.Key, vs aY.Text, vl (eI .i64) aY.Seen])] ⟨[.v (vb r)], [], false⟩ := by
  refine scall_in Tryd.func70 rfl [(.tmp 4)] rfl (fun r => ⟨[.v (vb r)], [], false⟩) (r := r) ?_
  unfold impl_Op_isSame at h
  refine swp_seq ?_
  refine swp_reg ?_
  refine SRun.ck tbokGB 3 ⟨38, [(2, .ref 2 0), (3, .ref 3 0)], [(2, .box [vi aX.Office, vi aX.Number, vs aX.Key, vs aX.Text, vl (eI .i64) aX.Seen]), (3, .box [vi aY.Office, vi aY.Number, vs aY.Key, vs aY.Text, vl (eI .i64) aY.Seen])]⟩ ?_
  refine SRun.nil ?_
  refine nx_n ?_
  refine swp_seq ?_
  refine swp_regJ h (fun j2 => ⟨38, [(4, vb j2)], []⟩) (fun v3 h => ?_) (fun j2 h => ?_)
  refine SRun.ck tbokGB 6 ⟨38, [(2, .ref 2 0), (3, .ref 3 0), (10, vb (aX.Office == aY.Office))], [(2, .box [vi aX.Office, vi aX.Number, vs aX.Key, vs aX.Text, vl (eI .i64) aX.Seen]), (3, .box [vi aY.Office, vi aY.Number, vs aY.Key, vs aY.Text, vl (eI .i64) aY.Seen])]⟩ ?_
  refine SRun.cut [(10, fun b => b)] (b := (aX.Office == aY.Office)) (by kernel_rfl) (fun hb => ?_) (fun hb => ?_)
  replace h := cond_t hb h
  refine SRun.ck tbokGB 7 ⟨38, [(2, .ref 2 0), (3, .ref 3 0), (17, vb (aX.Number == aY.Number))], [(2, .box [vi aX.Office, vi aX.Number, vs aX.Key, vs aX.Text, vl (eI .i64) aX.Seen]), (3, .box [vi aY.Office, vi aY.Number, vs aY.Key, vs aY.Text, vl (eI .i64) aY.Seen])]⟩ ?_
  refine SRun.cut [(17, fun b => b)] (b := (aX.Number == aY.Number)) (by kernel_rfl) (fun hb => ?_) (fun hb => ?_)
  replace h := cond_t hb h
  refine SRun.ck tbokGB 7 ⟨38, [(2, .ref 2 0), (3, .ref 3 0), (24, vb (aX.Key.toList == aY.Key.toList))], [(2, .box [vi aX.Office, vi aX.Number, vs aX.Key, vs aX.Text, vl (eI .i64) aX.Seen]), (3, .box [vi aY.Office, vi aY.Number, vs aY.Key, vs aY.Text, vl (eI .i64) aY.Seen])]⟩ ?_
  refine SRun.cut [(24, fun b => b)] (b := (aX.Key.toList == aY.Key.toList)) (by kernel_rfl) (fun hb => ?_) (fun hb => ?_)
  replace h := cond_t hb h
  refine SRun.ck tbokGB 7 ⟨38, [(2, .ref 2 0), (3, .ref 3 0), (31, vb (aX.Text.toList == aY.Text.toList))], [(2, .box [vi aX.Office, vi aX.Number, vs aX.Key, vs aX.Text, vl (eI .i64) aX.Seen]), (3, .box [vi aY.Office, vi aY.Number, vs aY.Key, vs aY.Text, vl (eI .i64) aY.Seen])]⟩ ?_
  refine SRun.cut [(31, fun b => b)] (b := (aX.Text.toList == aY.Text.toList)) (by kernel_rfl) (fun hb => ?_) (fun hb => ?_)
  replace h := cond_t hb h
  refine SRun.ck tbokGB 4 ⟨38, [(31, vb true), (33, vl (eI .i64) aX.Seen), (35, vl (eI .i64) aY.Seen)], []⟩ ?_
  obtain ⟨x1, hx1, h⟩ := bind_some h
  refine SRun.ls (x_lstep_call (f := 91) (caps := []) (xs := [vl (eI .i64) aX.Seen, vl (eI .i64) aY.Seen]) (ys := [vl (eI .i64) aX.Seen, vl (eI .i64) aY.Seen]) (res := ⟨[.v (vb x1)], [], false⟩) (x := vb x1) (y := none) rfl ents91 (slices_Equal_int64_run aX.Seen aY.Seen _ hx1) rfl (by intro hc; cases hc)) ?_
  refine SRun.ck tbokGB 2 ⟨38, [(4, vb x1)], []⟩ ?_
  refine SRun.nil ?_
  replace h := Option.some.inj h
  subst h
  exact Le.sub0
  replace h := cond_f hb h
  refine SRun.ck tbokGB 7 ⟨38, [(4, vb false)], []⟩ ?_
  refine SRun.nil ?_
  replace h := Option.some.inj h
  subst h
  exact Le.sub0
  replace h := cond_f hb h
  refine SRun.ck tbokGB 14 ⟨38, [(4, vb false)], []⟩ ?_
  refine SRun.nil ?_
  replace h := Option.some.inj h
  subst h
  exact Le.sub0
  replace h := cond_f hb h
  refine SRun.ck tbokGB 21 ⟨38, [(4, vb false)], []⟩ ?_
  refine SRun.nil ?_
  replace h := Option.some.inj h
  subst h
  exact Le.sub0
  replace h := cond_f hb h
  refine SRun.ck tbokGB 28 ⟨38, [(4, vb false)], []⟩ ?_
  refine SRun.nil ?_
  replace h := Option.some.inj h
  subst h
  exact Le.sub0
  refine swp_ret ?_
  replace h := Option.some.inj h
  subst h
  exact q_fr (fin1 (by kernel_rfl) (finV rfl SV.flat_of (holds_t (by kernel_rfl))))
theorem ents70 : Ents Tryd.prog 70 := ents_of Tryd.func70 (by kernel_rfl) rfl
noncomputable def impl_MergeLogs (aA : (List Op)) (aB : (List Op)) : Option ((List Op) × Int) :=
  ((((impl_IsLog aA).bind fun x1 => (bif (!x1) then some true else ((impl_IsLog aB).bind fun x2 => some (!x2))))).bind fun (j3 : Bool) => (bif j3 then some (([] : List Op), 1) else ((impl_cloneLog aA).bind fun x5 => (((forN (aB.length : Int) (fun (i8 : Int) (s8 : (List Op)) => ((at' aB i8).bind fun x12 => ((impl_findOp aA x12).bind fun x13 => (bif (decide (x13 < 0)) then ((impl_Op_clone x12).bind fun x14 => ((app' s8 ([x14] : List Op)).bind fun x15 => some (.inl x15))) else ((at' aA x13).bind fun x16 => ((impl_Op_isSame x16 x12).bind fun x17 => (bif (!x17) then some (.inr (.inr (([] : List Op), 5))) else some (.inl s8)))))))) (fun (s8 : (List Op)) => .inl s8) 0 x5)).bind (Sum.elim (fun (j6 : (List Op)) => (bif (decide ((j6.length : Int) > 16)) then some (([] : List Op), 3) else some (j6, 0))) some)))))
set_option maxRecDepth 100000 in
set_option maxHeartbeats 4000000 in
theorem impl_MergeLogs_run (aA : (List Op)) (aB : (List Op)) (r : (List Op) × Int) (h : impl_MergeLogs aA aB = some r) : SCall Tryd.prog 36 [.v (vl eOp aA), .v (vl eOp aB)] ⟨[.deep 61 5 r.1.length [.flat, .flat, .flat, .flat, (.sl 2 1 [.flat])] (r.1.map eOp), .v (vi r.2)], [], false⟩ := by
  refine scall_in Tryd.func36 rfl [(.tmp 4), (.tmp 5)] rfl (fun r => ⟨[.deep 61 5 r.1.length [.flat, .flat, .flat, .flat, (.sl 2 1 [.flat])] (r.1.map eOp), .v (vi r.2)], [], false⟩) (r := r) ?_
  unfold impl_MergeLogs at h
  refine swp_seq ?_
  refine swp_reg ?_
  refine SRun.chunk tbokGB 1 (σ' := ⟨50, [(4, .own 4), (0, vl eOp aA), (1, vl eOp aB)], [(4, .arr 61 5 ([] : List Op).length (([] : List Op).map eOp))]⟩) (by kernel_rfl) ?_
  refine SRun.le (Le.deep0 (d := 4) (e := 61) (m := 5) (ss := [.flat, .flat, .flat, .flat, (.sl 2 1 [.flat])]) (by kernel_rfl) (by kernel_rfl)) ?_
  refine SRun.ck tbokGB 1 ⟨50, [(0, vl eOp aA), (1, vl eOp aB)], []⟩ ?_
  refine SRun.nil ?_
  refine nx_n ?_
  refine swp_seq ?_
  refine swp_seq ?_
  refine swp_regJ h (fun j3 => ⟨50, [(0, vl eOp aA), (1, vl eOp aB), (17, vb j3)], []⟩) (fun v4 h => ?_) (fun j3 h => ?_)
  refine SRun.ck tbokGB 1 ⟨50, [(0, vl eOp aA), (1, vl eOp aB), (10, vl eOp aA)], []⟩ ?_
  obtain ⟨x1, hx1, h⟩ := bind_some h
  refine SRun.ls (x_lstep_call (f := 15) (caps := []) (xs := [vl eOp aA]) (ys := [vl eOp aA]) (res := ⟨[.v (vb x1)], [], false⟩) (x := vb x1) (y := none) rfl ents15 (impl_IsLog_run aA _ hx1) rfl (by intro hc; cases hc)) ?_
  refine SRun.ck tbokGB 2 ⟨50, [(0, vl eOp aA), (1, vl eOp aB), (13, vb (!x1))], []⟩ ?_
  refine SRun.cut [(13, fun b => b)] (b := (!x1)) (by kernel_rfl) (fun hb => ?_) (fun hb => ?_)
  replace h := cond_t hb h
  refine SRun.ck tbokGB 4 ⟨50, [(0, vl eOp aA), (1, vl eOp aB), (17, vb true)], []⟩ ?_
  refine SRun.nil ?_
  replace h := Option.some.inj h
  subst h
  exact Le.sub0
  replace h := cond_f hb h
  refine SRun.ck tbokGB 1 ⟨50, [(0, vl eOp aA), (1, vl eOp aB), (13, vb false), (14, vl eOp aB)], []⟩ ?_
  obtain ⟨x2, hx2, h⟩ := bind_some h
  refine SRun.ls (x_lstep_call (f := 15) (caps := []) (xs := [vl eOp aB]) (ys := [vl eOp aB]) (res := ⟨[.v (vb x2)], [], false⟩) (x := vb x2) (y := none) rfl ents15 (impl_IsLog_run aB _ hx2) rfl (by intro hc; cases hc)) ?_
  refine SRun.ck tbokGB 2 ⟨50, [(0, vl eOp aA), (1, vl eOp aB), (17, vb (!x2))], []⟩ ?_
  refine SRun.nil ?_
  replace h := Option.some.inj h
  subst h
  exact Le.sub0
  refine swp_cond (b := j3) (by kernel_rfl) (fun hb => ?_) (fun hb => ?_)
  replace h := cond_t hb h
  refine swp_seq ?_
  refine swp_reg ?_
  refine SRun.chunk tbokGB 1 (σ' := ⟨50, [(4, .own 4), (0, vl eOp aA), (1, vl eOp aB), (17, vb j3)], [(4, .arr 61 5 ([] : List Op).length (([] : List Op).map eOp))]⟩) (by kernel_rfl) ?_
  refine SRun.le (Le.deep0 (d := 4) (e := 61) (m := 5) (ss := [.flat, .flat, .flat, .flat, (.sl 2 1 [.flat])]) (by kernel_rfl) (by kernel_rfl)) ?_
  refine SRun.ck tbokGB 1 ⟨50, [(4, .own 4), (5, vi 1)], [(4, .deep 61 5 ([] : List Op).length [.flat, .flat, .flat, .flat, (.sl 2 1 [.flat])] (([] : List Op).map eOp))]⟩ ?_
  refine SRun.nil ?_
  refine nx_n ?_
  refine swp_ret ?_
  replace h := Option.some.inj h
  subst h
  exact nx_r (q_fr (fin2 (by kernel_rfl) (finD (d := 4) (holds_t (by kernel_rfl)) (by kernel_rfl) (by kernel_rfl)) (finV rfl SV.flat_of (holds_t (by kernel_rfl)))))
  replace h := cond_f hb h
  refine swp_skip ?_
  refine nx_n ?_
  refine swp_seq ?_
  refine swp_reg ?_
  refine SRun.ck tbokGB 1 ⟨50, [(0, vl eOp aA), (1, vl eOp aB), (18, vl eOp aA)], []⟩ ?_
  obtain ⟨x5, hx5, h⟩ := bind_some h
  refine SRun.ls (x_lstep_call (f := 65) (caps := []) (xs := [vl eOp aA]) (ys := [vl eOp aA]) (res := ⟨[.deep 61 5 x5.length [.flat, .flat, .flat, .flat, (.sl 2 1 [.flat])] (x5.map eOp)], [], false⟩) (x := .own 19) (y := some (.deep 61 5 x5.length [.flat, .flat, .flat, .flat, (.sl 2 1 [.flat])] (x5.map eOp))) rfl ents65 (impl_cloneLog_run aA _ hx5) rfl (by intro hc; cases hc)) ?_
  refine SRun.ck tbokGB 1 ⟨50, [(0, vl eOp aA), (1, vl eOp aB), (6, .own 19)], [(19, .deep 61 5 x5.length [.flat, .flat, .flat, .flat, (.sl 2 1 [.flat])] (x5.map eOp))]⟩ ?_
  refine SRun.nil ?_
  refine nx_n ?_
  refine swp_seq ?_
  refine swp_seq ?_
  refine swp_reg ?_
  refine SRun.ck tbokGB 3 ⟨50, [(0, vl eOp aA), (6, .own 19), (20, vl eOp aB), (21, vi (aB.length : Int)), (22, vi 0)], [(19, .deep 61 5 x5.length [.flat, .flat, .flat, .flat, (.sl 2 1 [.flat])] (x5.map eOp))]⟩ ?_
  refine SRun.nil ?_
  refine nx_n ?_
  refine swp_seqE (r := r) h (fun j6 => ⟨50, [(6, .own 6)], [(6, .deep 61 5 j6.length [.flat, .flat, .flat, .flat, (.sl 2 1 [.flat])] (j6.map eOp))]⟩) (fun v7 h => ?_) (fun j6 h => ?_)
  refine swp_blk (a := v7) ?_
  refine swp_lpL (r := v7) (s := (0, x5)) _ (fun s8 => ⟨50, [(0, vl eOp aA), (6, .own 6), (20, vl eOp aB), (21, vi (aB.length : Int)), (22, vi s8.1)], [(6, .deep 61 5 s8.2.length [.flat, .flat, .flat, .flat, (.sl 2 1 [.flat])] (s8.2.map eOp))]⟩) _ ((Le.sub' ([(0, vl eOp aA), (6, .own 19), (20, vl eOp aB), (21, vi (aB.length : Int)), (22, vi 0)] : List (Nat × SV)) ([(19, .deep 61 5 x5.length [.flat, .flat, .flat, .flat, (.sl 2 1 [.flat])] (x5.map eOp))] : List (Nat × SO)) (by kernel_rfl) (by kernel_rfl)).trans ((Le.ren' (d := 19) (e := 6) (by kernel_rfl) (by kernel_rfl) (by kernel_rfl)).trans (Le.sub0))) h (fun s8 v9 h => ?_)
  refine swp_seq ?_
  refine swp_reg ?_
  refine SRun.ck tbokGB 1 ⟨50, [(0, vl eOp aA), (6, .own 6), (20, vl eOp aB), (21, vi (aB.length : Int)), (22, vi s8.1), (23, vb (decide (s8.1 < (aB.length : Int))))], [(6, .deep 61 5 s8.2.length [.flat, .flat, .flat, .flat, (.sl 2 1 [.flat])] (s8.2.map eOp))]⟩ ?_
  refine SRun.nil ?_
  refine nx_n ?_
  refine swp_seq ?_
  refine swp_cond (b := (decide (s8.1 < (aB.length : Int)))) (by kernel_rfl) (fun hb => ?_) (fun hb => ?_)
  replace h := cond_t hb h
  refine swp_skip ?_
  refine nx_n ?_
  refine swp_seq ?_
  refine swp_seqL (r := v9) h (fun j10 => ⟨50, [(0, vl eOp aA), (6, .own 6), (20, vl eOp aB), (21, vi (aB.length : Int)), (22, vi s8.1)], [(6, .deep 61 5 j10.length [.flat, .flat, .flat, .flat, (.sl 2 1 [.flat])] (j10.map eOp))]⟩) (fun v11 h => ?_) (fun j10 h => ?_)
  refine swp_blk (a := v11) ?_
  refine swp_seq ?_
  refine swp_reg ?_
  obtain ⟨x12, hx12, h⟩ := bind_some h
  refine SRun.ls (x_index (L := aB) (f := eOp) (ti := ti25) (tj := ti61) (e := 61) (k := .i64) tbokGB rfl hx12) ?_
  refine SRun.ck tbokGB 2 ⟨50, [(0, vl eOp aA), (6, .own 6), (8, .ref 8 0), (20, vl eOp aB), (21, vi (aB.length : Int)), (22, vi s8.1), (25, .agg [vi x12.Office, vi x12.Number, vs x12.Key, vs x12.Text, vl (eI .i64) x12.Seen])], [(6, .deep 61 5 s8.2.length [.flat, .flat, .flat, .flat, (.sl 2 1 [.flat])] (s8.2.map eOp)), (8, .box [vi 0, vi 0, vs (ByteArray.mk #[]), vs (ByteArray.mk #[]), vl (eI .i64) ([] : List Int)])]⟩ ?_
  refine SRun.estep (x_estep_store (d := 8) (k := 0) (ti := ti61) (cs := [vi 0, vi 0, vs (ByteArray.mk #[]), vs (ByteArray.mk #[]), vl (eI .i64) ([] : List Int)]) (vs := [vi x12.Office, vi x12.Number, vs x12.Key, vs x12.Text, vl (eI .i64) x12.Seen]) (v := .agg [vi x12.Office, vi x12.Number, vs x12.Key, vs x12.Text, vl (eI .i64) x12.Seen]) tbokGB rfl rfl) ?_
  refine SRun.nil ?_
  refine nx_n ?_
  refine swp_seq ?_
  refine swp_reg ?_
  refine SRun.ck tbokGB 2 ⟨50, [(0, vl eOp aA), (6, .own 6), (8, .ref 8 0), (20, vl eOp aB), (21, vi (aB.length : Int)), (22, vi s8.1), (26, vl eOp aA), (27, .agg [vi x12.Office, vi x12.Number, vs x12.Key, vs x12.Text, vl (eI .i64) x12.Seen])], [(6, .deep 61 5 s8.2.length [.flat, .flat, .flat, .flat, (.sl 2 1 [.flat])] (s8.2.map eOp)), (8, .box [vi x12.Office, vi x12.Number, vs x12.Key, vs x12.Text, vl (eI .i64) x12.Seen])]⟩ ?_
  obtain ⟨x13, hx13, h⟩ := bind_some h
  refine SRun.ls (x_lstep_call (f := 68) (caps := []) (xs := [vl eOp aA, .agg [vi x12.Office, vi x12.Number, vs x12.Key, vs x12.Text, vl (eI .i64) x12.Seen]]) (ys := [vl eOp aA, .agg [vi x12.Office, vi x12.Number, vs x12.Key, vs x12.Text, vl (eI .i64) x12.Seen]]) (res := ⟨[.v (vi x13)], [], false⟩) (x := vi x13) (y := none) rfl ents68 (impl_findOp_run aA x12 _ hx13) rfl (by intro hc; cases hc)) ?_
  refine SRun.ck tbokGB 1 ⟨50, [(0, vl eOp aA), (6, .own 6), (8, .ref 8 0), (9, vi x13), (20, vl eOp aB), (21, vi (aB.length : Int)), (22, vi s8.1)], [(6, .deep 61 5 s8.2.length [.flat, .flat, .flat, .flat, (.sl 2 1 [.flat])] (s8.2.map eOp)), (8, .box [vi x12.Office, vi x12.Number, vs x12.Key, vs x12.Text, vl (eI .i64) x12.Seen])]⟩ ?_
  refine SRun.nil ?_
  refine nx_n ?_
  refine swp_blk (a := v11) ?_
  refine swp_seq ?_
  refine swp_reg ?_
  refine SRun.ck tbokGB 3 ⟨50, [(0, vl eOp aA), (6, .own 6), (8, .ref 8 0), (9, vi x13), (20, vl eOp aB), (21, vi (aB.length : Int)), (22, vi s8.1), (29, vb (decide (x13 < 0)))], [(6, .deep 61 5 s8.2.length [.flat, .flat, .flat, .flat, (.sl 2 1 [.flat])] (s8.2.map eOp)), (8, .box [vi x12.Office, vi x12.Number, vs x12.Key, vs x12.Text, vl (eI .i64) x12.Seen])]⟩ ?_
  refine SRun.nil ?_
  refine nx_n ?_
  refine swp_cond (b := (decide (x13 < 0))) (by kernel_rfl) (fun hb => ?_) (fun hb => ?_)
  replace h := cond_t hb h
  refine swp_reg ?_
  refine SRun.ck tbokGB 2 ⟨50, [(0, vl eOp aA), (20, vl eOp aB), (21, vi (aB.length : Int)), (22, vi s8.1), (32, .own 6), (33, .agg [vi x12.Office, vi x12.Number, vs x12.Key, vs x12.Text, vl (eI .i64) x12.Seen])], [(6, .deep 61 5 s8.2.length [.flat, .flat, .flat, .flat, (.sl 2 1 [.flat])] (s8.2.map eOp))]⟩ ?_
  obtain ⟨x14, hx14, h⟩ := bind_some h
  refine SRun.ls (x_lstep_call (f := 69) (caps := []) (xs := [.agg [vi x12.Office, vi x12.Number, vs x12.Key, vs x12.Text, vl (eI .i64) x12.Seen]]) (ys := [.agg [vi x12.Office, vi x12.Number, vs x12.Key, vs x12.Text, vl (eI .i64) x12.Seen]]) (res := ⟨[.part [vi x14.Office, vi x14.Number, vs x14.Key, vs x14.Text] [] (.arr 2 1 x14.Seen.length (x14.Seen.map (eI .i64)))], [], false⟩) (x := .agg [vi x14.Office, vi x14.Number, vs x14.Key, vs x14.Text, .own 34]) (y := some (.arr 2 1 x14.Seen.length (x14.Seen.map (eI .i64)))) rfl ents69 (impl_Op_clone_run x12 _ hx14) rfl (by intro hc; cases hc)) ?_
  refine SRun.estep (x_build_deep (ti := ti25) (tj := ti61) (e := 61) (m := 5) (zs := [.int .i64 0, .int .i64 0, .string (ByteArray.mk #[]), .string (ByteArray.mk #[]), .slice none 0 0]) (v := .agg [vi x14.Office, vi x14.Number, vs x14.Key, vs x14.Text, .own 34]) (cs := [vi x14.Office, vi x14.Number, vs x14.Key, vs x14.Text, .own 34]) (ss := [.flat, .flat, .flat, .flat, (.sl 2 1 [.flat])]) (ts := [.int .i64 x14.Office, .int .i64 x14.Number, .str x14.Key, .str x14.Text, .sl x14.Seen.length (x14.Seen.map (eI .i64))]) (ds := [34]) tbokGB rfl rfl rfl (.cons _ _ _ [] _ _ _ _ (.flat (.int .i64 x14.Office) rfl) (.cons _ _ _ [] _ _ _ _ (.flat (.int .i64 x14.Number) rfl) (.cons _ _ _ [] _ _ _ _ (.flat (.str x14.Key) rfl) (.cons _ _ _ [] _ _ _ _ (.flat (.str x14.Text) rfl) (.cons _ _ _ [34] _ _ _ _ (cD_arr (d := 34) (e := 2) (m := 1) (n := x14.Seen.length) (es := x14.Seen.map (eI .i64)) (ss := [.flat]) (flat_map (eI_flat .i64) _)) .nil (by decide)) (by decide)) (by decide)) (by decide)) (by decide))) ?_
  obtain ⟨x15, hx15, h⟩ := bind_some h
  refine SRun.estep (x_append_deep (f := eOp) (L := s8.2) (M := ([x14] : List Op)) (t := 25) (ti := ti25) (tj := ti61) (zs := [.int .i64 0, .int .i64 0, .string (ByteArray.mk #[]), .string (ByteArray.mk #[]), .slice none 0 0]) (e := 61) (m := 5) (d := 6) (dx := 35) (ss := [.flat, .flat, .flat, .flat, (.sl 2 1 [.flat])]) hx15 tbokGB rfl rfl rfl rfl) ?_
  refine SRun.ck tbokGB 1 ⟨50, [(0, vl eOp aA), (6, .own 36), (20, vl eOp aB), (21, vi (aB.length : Int)), (22, vi s8.1)], [(36, .deep 61 5 x15.length [.flat, .flat, .flat, .flat, (.sl 2 1 [.flat])] (x15.map eOp))]⟩ ?_
  refine SRun.nil ?_
  replace h := Option.some.inj h
  subst h
  exact q_bn (q_bn (q_l ((Le.sub' ([(0, vl eOp aA), (6, .own 36), (20, vl eOp aB), (21, vi (aB.length : Int)), (22, vi s8.1)] : List (Nat × SV)) ([(36, .deep 61 5 x15.length [.flat, .flat, .flat, .flat, (.sl 2 1 [.flat])] (x15.map eOp))] : List (Nat × SO)) (by kernel_rfl) (by kernel_rfl)).trans ((Le.ren' (d := 36) (e := 6) (by kernel_rfl) (by kernel_rfl) (by kernel_rfl)).trans (Le.sub0)))))
  replace h := cond_f hb h
  refine swp_seq ?_
  refine swp_dr mixed ?_
  refine DGo.chunk' tbokGB 2 (σ' := ⟨50, [(39, vi x13), (38, vl eOp aA), (0, vl eOp aA), (6, .own 6), (8, .ref 8 0), (9, vi x13), (20, vl eOp aB), (21, vi (aB.length : Int)), (22, vi s8.1), (29, vb (decide (x13 < 0)))], [(6, .deep 61 5 s8.2.length [.flat, .flat, .flat, .flat, (.sl 2 1 [.flat])] (s8.2.map eOp)), (8, .box [vi x12.Office, vi x12.Number, vs x12.Key, vs x12.Text, vl (eI .i64) x12.Seen])]⟩) (by kernel_rfl) ?_
  obtain ⟨x16, hx16, h⟩ := bind_some h
  refine DGo.step (x_index (L := aA) (f := eOp) (ti := ti25) (tj := ti61) (e := 61) (k := .i64) tbokGB rfl hx16) ?_
  refine DGo.chunk' tbokGB 2 (σ' := ⟨50, [(42, .agg [vi x12.Office, vi x12.Number, vs x12.Key, vs x12.Text, vl (eI .i64) x12.Seen]), (41, .agg [vi x16.Office, vi x16.Number, vs x16.Key, vs x16.Text, vl (eI .i64) x16.Seen]), (40, .ptr ((eOp x16).map .tr) 0), (39, vi x13), (38, vl eOp aA), (0, vl eOp aA), (6, .own 6), (8, .ref 8 0), (9, vi x13), (20, vl eOp aB), (21, vi (aB.length : Int)), (22, vi s8.1), (29, vb (decide (x13 < 0)))], [(6, .deep 61 5 s8.2.length [.flat, .flat, .flat, .flat, (.sl 2 1 [.flat])] (s8.2.map eOp)), (8, .box [vi x12.Office, vi x12.Number, vs x12.Key, vs x12.Text, vl (eI .i64) x12.Seen])]⟩) (by kernel_rfl) ?_
  obtain ⟨x17, hx17, h⟩ := bind_some h
  refine DGo.step (x_lstep_call (f := 70) (caps := []) (xs := [.agg [vi x16.Office, vi x16.Number, vs x16.Key, vs x16.Text, vl (eI .i64) x16.Seen], .agg [vi x12.Office, vi x12.Number, vs x12.Key, vs x12.Text, vl (eI .i64) x12.Seen]]) (ys := [.agg [vi x16.Office, vi x16.Number, vs x16.Key, vs x16.Text, vl (eI .i64) x16.Seen], .agg [vi x12.Office, vi x12.Number, vs x12.Key, vs x12.Text, vl (eI .i64) x12.Seen]]) (res := ⟨[.v (vb x17)], [], false⟩) (x := vb x17) (y := none) rfl ents70 (impl_Op_isSame_run x16 x12 _ hx17) rfl (by intro hc; cases hc)) ?_
  refine DGo.chunk' tbokGB 2 (σ' := ⟨50, [(37, vb (!x17)), (44, vb (!x17)), (43, vb x17), (42, .agg [vi x12.Office, vi x12.Number, vs x12.Key, vs x12.Text, vl (eI .i64) x12.Seen]), (41, .agg [vi x16.Office, vi x16.Number, vs x16.Key, vs x16.Text, vl (eI .i64) x16.Seen]), (40, .ptr ((eOp x16).map .tr) 0), (39, vi x13), (38, vl eOp aA), (0, vl eOp aA), (6, .own 6), (8, .ref 8 0), (9, vi x13), (20, vl eOp aB), (21, vi (aB.length : Int)), (22, vi s8.1), (29, vb (decide (x13 < 0)))], [(6, .deep 61 5 s8.2.length [.flat, .flat, .flat, .flat, (.sl 2 1 [.flat])] (s8.2.map eOp)), (8, .box [vi x12.Office, vi x12.Number, vs x12.Key, vs x12.Text, vl (eI .i64) x12.Seen])]⟩) (by kernel_rfl) ?_
  refine DGo.nil (by kernel_rfl) ?_
  refine nx_n ?_
  refine swp_cond (b := (!x17)) (by kernel_rfl) (fun hb => ?_) (fun hb => ?_)
  replace h := cond_t hb h
  refine swp_seq ?_
  refine swp_reg ?_
  refine SRun.chunk tbokGB 1 (σ' := ⟨50, [(4, .own 4), (37, vb (!x17)), (44, vb (!x17)), (43, vb x17), (42, .agg [vi x12.Office, vi x12.Number, vs x12.Key, vs x12.Text, vl (eI .i64) x12.Seen]), (41, .agg [vi x16.Office, vi x16.Number, vs x16.Key, vs x16.Text, vl (eI .i64) x16.Seen]), (40, .ptr ((eOp x16).map .tr) 0), (39, vi x13), (38, vl eOp aA), (0, vl eOp aA), (6, .own 6), (8, .ref 8 0), (9, vi x13), (20, vl eOp aB), (21, vi (aB.length : Int)), (22, vi s8.1), (29, vb (decide (x13 < 0)))], [(4, .arr 61 5 ([] : List Op).length (([] : List Op).map eOp)), (6, .deep 61 5 s8.2.length [.flat, .flat, .flat, .flat, (.sl 2 1 [.flat])] (s8.2.map eOp)), (8, .box [vi x12.Office, vi x12.Number, vs x12.Key, vs x12.Text, vl (eI .i64) x12.Seen])]⟩) (by kernel_rfl) ?_
  refine SRun.le (Le.deep0 (d := 4) (e := 61) (m := 5) (ss := [.flat, .flat, .flat, .flat, (.sl 2 1 [.flat])]) (by kernel_rfl) (by kernel_rfl)) ?_
  refine SRun.ck tbokGB 1 ⟨50, [(4, .own 4), (5, vi 5)], [(4, .deep 61 5 ([] : List Op).length [.flat, .flat, .flat, .flat, (.sl 2 1 [.flat])] (([] : List Op).map eOp))]⟩ ?_
  refine SRun.nil ?_
  refine nx_n ?_
  refine swp_ret ?_
  replace h := Option.some.inj h
  subst h
  exact q_br (q_br (q_rr (q_rr (q_br (q_rr (q_fr (fin2 (by kernel_rfl) (finD (d := 4) (holds_t (by kernel_rfl)) (by kernel_rfl) (by kernel_rfl)) (finV rfl SV.flat_of (holds_t (by kernel_rfl))))))))))
  replace h := cond_f hb h
  refine swp_skip ?_
  replace h := Option.some.inj h
  subst h
  exact q_bn (q_bn (q_l (Le.sub0)))
  refine swp_reg ?_
  refine SRun.ck tbokGB 2 ⟨50, [(0, vl eOp aA), (6, .own 6), (20, vl eOp aB), (21, vi (aB.length : Int)), (22, vi (w64 (s8.1 + 1)))], [(6, .deep 61 5 j10.length [.flat, .flat, .flat, .flat, (.sl 2 1 [.flat])] (j10.map eOp))]⟩ ?_
  refine SRun.nil ?_
  replace h := Option.some.inj h
  subst h
  exact q_l (Le.sub0)
  replace h := cond_f hb h
  refine swp_exit ?_
  replace h := Option.some.inj h
  subst h
  exact nx_e (q_re (q_bh (q_l (Le.sub0))))
  refine swp_seq ?_
  refine swp_seq ?_
  refine swp_reg ?_
  refine SRun.ck tbokGB 1 ⟨50, [(6, .own 6), (46, .own 6)], [(6, .deep 61 5 j6.length [.flat, .flat, .flat, .flat, (.sl 2 1 [.flat])] (j6.map eOp))]⟩ ?_
  refine SRun.ls (x_len_deep (d := 6) (e := 61) (e' := 61) (m := 5) (n := j6.length) (ss := [.flat, .flat, .flat, .flat, (.sl 2 1 [.flat])]) (es := j6.map eOp) (ti := ti25) tbokGB rfl rfl rfl) ?_
  refine SRun.ck tbokGB 1 ⟨50, [(6, .own 6), (48, vb (decide ((j6.length : Int) > 16)))], [(6, .deep 61 5 j6.length [.flat, .flat, .flat, .flat, (.sl 2 1 [.flat])] (j6.map eOp))]⟩ ?_
  refine SRun.nil ?_
  refine nx_n ?_
  refine swp_cond (b := (decide ((j6.length : Int) > 16))) (by kernel_rfl) (fun hb => ?_) (fun hb => ?_)
  replace h := cond_t hb h
  refine swp_seq ?_
  refine swp_reg ?_
  refine SRun.chunk tbokGB 1 (σ' := ⟨50, [(4, .own 4), (6, .own 6), (48, vb (decide ((j6.length : Int) > 16)))], [(4, .arr 61 5 ([] : List Op).length (([] : List Op).map eOp)), (6, .deep 61 5 j6.length [.flat, .flat, .flat, .flat, (.sl 2 1 [.flat])] (j6.map eOp))]⟩) (by kernel_rfl) ?_
  refine SRun.le (Le.deep0 (d := 4) (e := 61) (m := 5) (ss := [.flat, .flat, .flat, .flat, (.sl 2 1 [.flat])]) (by kernel_rfl) (by kernel_rfl)) ?_
  refine SRun.ck tbokGB 1 ⟨50, [(4, .own 4), (5, vi 3)], [(4, .deep 61 5 ([] : List Op).length [.flat, .flat, .flat, .flat, (.sl 2 1 [.flat])] (([] : List Op).map eOp))]⟩ ?_
  refine SRun.nil ?_
  refine nx_n ?_
  refine swp_ret ?_
  replace h := Option.some.inj h
  subst h
  exact nx_r (q_fr (fin2 (by kernel_rfl) (finD (d := 4) (holds_t (by kernel_rfl)) (by kernel_rfl) (by kernel_rfl)) (finV rfl SV.flat_of (holds_t (by kernel_rfl)))))
  replace h := cond_f hb h
  refine swp_skip ?_
  refine nx_n ?_
  refine swp_seq ?_
  refine swp_reg ?_
  refine SRun.ck tbokGB 3 ⟨50, [(4, .own 6), (5, vi 0)], [(6, .deep 61 5 j6.length [.flat, .flat, .flat, .flat, (.sl 2 1 [.flat])] (j6.map eOp))]⟩ ?_
  refine SRun.nil ?_
  refine nx_n ?_
  refine swp_ret ?_
  replace h := Option.some.inj h
  subst h
  exact q_fr (fin2 (by kernel_rfl) (finD (d := 6) (holds_t (by kernel_rfl)) (by kernel_rfl) (by kernel_rfl)) (finV rfl SV.flat_of (holds_t (by kernel_rfl))))
theorem ents36 : Ents Tryd.prog 36 := ents_of Tryd.func36 (by kernel_rfl) rfl
end Go.Proofs.YthfcdicfcepfhaaDoor.Sh
