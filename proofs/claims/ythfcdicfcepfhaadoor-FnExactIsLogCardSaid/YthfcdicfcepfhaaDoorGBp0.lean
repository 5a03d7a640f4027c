/- Typed functions and the calls that do what they say. -/
import Derived.Test.YthfcdicfcepfhaaDoorSE
import Derived.Test.YthfcdicfcepfhaaDoorKA
import Derived.Test.YthfcdicfcepfhaaDoorKS
import Derived.Test.YthfcdicfcepfhaaDoorH1
import Derived.Test.YthfcdicfcepfhaaDoorGA
namespace Go.Proofs.YthfcdicfcepfhaaDoor.Sh
open Go.RowKit

def ti50 : TI := ⟨1, 24, .slice 5, [.sl ([] : List Int).length (([] : List Int).map (eI .u8))]⟩
def tblGB : Tb := [(2, ti2), (3, ti3), (4, ti4), (5, ti5), (9, ti9), (22, ti22), (25, ti25), (32, ti32), (50, ti50), (60, ti60), (61, ti61)]
theorem tbokGB : TbOk Tryd.prog tblGB := TbOk.cons ⟨by kernel_rfl, show Tryd.prog.underlying 2 = some (.int .i64) from by kernel_rfl⟩ (TbOk.cons ⟨by kernel_rfl, show Tryd.prog.underlying 3 = some (.int .i64) from by kernel_rfl⟩ (TbOk.cons ⟨by kernel_rfl, show Tryd.prog.underlying 4 = some (.bool) from by kernel_rfl⟩ (TbOk.cons ⟨by kernel_rfl, show Tryd.prog.underlying 5 = some (.int .u8) from by kernel_rfl⟩ (TbOk.cons ⟨by kernel_rfl, show Tryd.prog.underlying 9 = some (.string) from by kernel_rfl⟩ (TbOk.cons ⟨by kernel_rfl, show Tryd.prog.underlying 22 = some (.slice 60) from by kernel_rfl⟩ (TbOk.cons ⟨by kernel_rfl, show Tryd.prog.underlying 25 = some (.slice 61) from by kernel_rfl⟩ (TbOk.cons ⟨by kernel_rfl, show Tryd.prog.underlying 32 = some (.slice 2) from by kernel_rfl⟩ (TbOk.cons ⟨by kernel_rfl, show Tryd.prog.underlying 50 = some (.slice 5) from by kernel_rfl⟩ (TbOk.cons ⟨by kernel_rfl, show structOf Tryd.prog 60 = some [(0, 2), (1, 2), (2, 9), (3, 9), (4, 32)] from by kernel_rfl⟩ (TbOk.cons ⟨by kernel_rfl, show structOf Tryd.prog 61 = some [(0, 2), (1, 2), (2, 9), (3, 9), (4, 32)] from by kernel_rfl⟩ (TbOk.nil _)))))))))))
noncomputable def spec_l32Count (aLog : (List Op)) : Option ((List Int)) :=
  ((make' 0 4).bind fun x1 => (((forS (aLog.length : Int) (fun (i4 : Int) (s4 : (List Int)) => ((at' aLog i4).bind fun x8 => ((at' s4 x8.Office).bind fun x9 => ((at' s4 x8.Office).bind fun _ => some (List.set s4 (Int.toNat x8.Office) (w64 (x9 + 1))))))) (fun (s4 : (List Int)) => s4) 0 x1)).bind fun (j2 : (List Int)) => some j2))
set_option maxRecDepth 100000 in
set_option maxHeartbeats 4000000 in
theorem spec_l32Count_run (aLog : (List Op)) (r : (List Int)) (h : spec_l32Count aLog = some r) : SCall Tryd.prog 56 [.v (vl eOp aLog)] ⟨[.own 2 1 r.length (r.map (eI .i64))], [], false⟩ := by
  refine scall_in Tryd.func56 rfl [(.tmp 2)] rfl (fun r => ⟨[.own 2 1 r.length (r.map (eI .i64))], [], false⟩) (r := r) ?_
  unfold spec_l32Count at h
  refine swp_seq ?_
  refine swp_reg ?_
  refine SRun.ck tbokGB 1 ⟨23, [(0, vl eOp aLog)], []⟩ ?_
  refine SRun.nil ?_
  refine nx_n ?_
  refine swp_seq ?_
  refine swp_reg ?_
  obtain ⟨x1, hx1, h⟩ := bind_some h
  refine SRun.ls (x_make (z := 0) (f := (eI .i64)) (ti := ti32) (tj := ti2) (e := 2) (m := 1) (k := .i64) (k' := .i64) hx1 tbokGB rfl rfl (zs := [.int .i64 0])) ?_
  refine SRun.ck tbokGB 1 ⟨23, [(0, vl eOp aLog), (3, .own 5)], [(5, .arr 2 1 x1.length (x1.map (eI .i64)))]⟩ ?_
  refine SRun.nil ?_
  refine nx_n ?_
  refine swp_seq ?_
  refine swp_seq ?_
  refine swp_reg ?_
  refine SRun.ck tbokGB 1 ⟨23, [(0, vl eOp aLog), (3, .own 5), (4, vi 0)], [(5, .arr 2 1 x1.length (x1.map (eI .i64)))]⟩ ?_
  refine SRun.nil ?_
  refine nx_n ?_
  refine swp_seqJ h (fun j2 => ⟨23, [(3, .own 3)], [(3, .arr 2 1 j2.length (j2.map (eI .i64)))]⟩) (fun v3 h => ?_) (fun j2 h => ?_)
  refine swp_blk (a := v3) ?_
  refine swp_lpL (r := v3) (s := (0, x1)) _ (fun s4 => ⟨23, [(0, vl eOp aLog), (3, .own 3), (4, vi s4.1)], [(3, .arr 2 1 s4.2.length (s4.2.map (eI .i64)))]⟩) _ ((Le.sub' ([(0, vl eOp aLog), (3, .own 5), (4, vi 0)] : List (Nat × SV)) ([(5, .arr 2 1 x1.length (x1.map (eI .i64)))] : List (Nat × SO)) (by kernel_rfl) (by kernel_rfl)).trans ((Le.ren' (d := 5) (e := 3) (by kernel_rfl) (by kernel_rfl) (by kernel_rfl)).trans (Le.sub0))) h (fun s4 v5 h => ?_)
  refine swp_seq ?_
  refine swp_seq ?_
  refine swp_reg ?_
  refine SRun.ck tbokGB 4 ⟨23, [(0, vl eOp aLog), (3, .own 3), (4, vi s4.1), (9, vb (decide (s4.1 < (aLog.length : Int))))], [(3, .arr 2 1 s4.2.length (s4.2.map (eI .i64)))]⟩ ?_
  refine SRun.nil ?_
  refine nx_n ?_
  refine swp_cond (b := (decide (s4.1 < (aLog.length : Int)))) (by kernel_rfl) (fun hb => ?_) (fun hb => ?_)
  replace h := cond_t hb h
  refine swp_skip ?_
  refine nx_n ?_
  refine swp_seq ?_
  refine swp_seqJ h (fun j6 => ⟨23, [(0, vl eOp aLog), (3, .own 3), (4, vi s4.1)], [(3, .arr 2 1 j6.length (j6.map (eI .i64)))]⟩) (fun v7 h => ?_) (fun j6 h => ?_)
  refine swp_blk (a := v7) ?_
  refine swp_reg ?_
  refine SRun.ck tbokGB 3 ⟨23, [(0, vl eOp aLog), (3, .own 3), (4, vi s4.1), (12, .own 3), (13, vl eOp aLog), (14, vi s4.1)], [(3, .arr 2 1 s4.2.length (s4.2.map (eI .i64)))]⟩ ?_
  obtain ⟨x8, hx8, h⟩ := bind_some h
  refine SRun.ls (x_index (L := aLog) (f := eOp) (ti := ti25) (tj := ti61) (e := 61) (k := .i64) tbokGB rfl hx8) ?_
  refine SRun.ck tbokGB 2 ⟨23, [(0, vl eOp aLog), (3, .own 3), (4, vi s4.1), (12, .own 3), (17, vi x8.Office)], [(3, .arr 2 1 s4.2.length (s4.2.map (eI .i64)))]⟩ ?_
  obtain ⟨x9, hx9, h⟩ := bind_some h
  refine SRun.ls (x_index_own (d := 3) (L := s4.2) (f := (eI .i64)) (ti := ti32) (tj := ti2) (e := 2) (e' := 2) (m := 1) (k := .i64) tbokGB rfl hx9) ?_
  refine SRun.ls (x_load_own (d := 3) (m := 1) (j := 0) (L := s4.2) (f := (eI .i64)) (ti := ti2) (e := 2) (v := vi x9) tbokGB rfl hx9) ?_
  refine SRun.ck tbokGB 1 ⟨23, [(0, vl eOp aLog), (3, .own 3), (4, vi s4.1), (12, .own 3), (17, vi x8.Office), (20, vi (w64 (x9 + 1)))], [(3, .arr 2 1 s4.2.length (s4.2.map (eI .i64)))]⟩ ?_
  obtain ⟨x10, hx10, h⟩ := bind_some h
  refine SRun.ls (x_index_own (d := 3) (L := s4.2) (f := (eI .i64)) (ti := ti32) (tj := ti2) (e := 2) (e' := 2) (m := 1) (k := .i64) tbokGB rfl hx10) ?_
  refine SRun.estep (x_store_own (d := 3) (m := 1) (j := 0) (L := s4.2) (f := (eI .i64)) (x := (w64 (x9 + 1))) (z := x10) (ti := ti2) (e := 2) (ts := [.int .i64 (w64 (x9 + 1))]) (vs := [vi (w64 (x9 + 1))]) (v := vi (w64 (x9 + 1))) tbokGB rfl rfl hx10) ?_
  refine SRun.nil ?_
  replace h := Option.some.inj h
  subst h
  exact q_bn (q_j (Le.sub0))
  refine swp_reg ?_
  refine SRun.ck tbokGB 3 ⟨23, [(0, vl eOp aLog), (3, .own 3), (4, vi (w64 (s4.1 + 1)))], [(3, .arr 2 1 j6.length (j6.map (eI .i64)))]⟩ ?_
  refine SRun.nil ?_
  replace h := Option.some.inj h
  subst h
  exact q_l (Le.sub0)
  replace h := cond_f hb h
  refine swp_exit ?_
  replace h := Option.some.inj h
  subst h
  exact nx_e (q_re (q_bh (q_j (Le.sub0))))
  refine swp_seq ?_
  refine swp_reg ?_
  refine SRun.ck tbokGB 2 ⟨23, [(2, .own 3)], [(3, .arr 2 1 j2.length (j2.map (eI .i64)))]⟩ ?_
  refine SRun.nil ?_
  refine nx_n ?_
  refine swp_ret ?_
  replace h := Option.some.inj h
  subst h
  exact q_fr (fin1 (by kernel_rfl) (finO (d := 3) (holds_t (by kernel_rfl)) (by kernel_rfl) (flat_map (eI_flat .i64) _) (by kernel_rfl)))
theorem ents56 : Ents Tryd.prog 56 := ents_of Tryd.func56 (by kernel_rfl) rfl
noncomputable def spec_VectorOf (aLog : (List Op)) : Option ((List Int) × Int) :=
  ((spec_IsLog aLog).bind fun x1 => (bif (!x1) then some (([] : List Int), 1) else ((spec_l32Count aLog).bind fun x2 => some (x2, 0))))
set_option maxRecDepth 100000 in
set_option maxHeartbeats 4000000 in
theorem spec_VectorOf_run (aLog : (List Op)) (r : (List Int) × Int) (h : spec_VectorOf aLog = some r) : SCall Tryd.prog 19 [.v (vl eOp aLog)] ⟨[.own 2 1 r.1.length (r.1.map (eI .i64)), .v (vi r.2)], [], false⟩ := by
  refine scall_in Tryd.func19 rfl [(.tmp 2), (.tmp 3)] rfl (fun r => ⟨[.own 2 1 r.1.length (r.1.map (eI .i64)), .v (vi r.2)], [], false⟩) (r := r) ?_
  unfold spec_VectorOf at h
  refine swp_seq ?_
  refine swp_reg ?_
  refine SRun.ck tbokGB 2 ⟨9, [(0, vl eOp aLog)], []⟩ ?_
  refine SRun.nil ?_
  refine nx_n ?_
  refine swp_seq ?_
  refine swp_seq ?_
  refine swp_reg ?_
  refine SRun.ck tbokGB 1 ⟨9, [(0, vl eOp aLog), (4, vl eOp aLog)], []⟩ ?_
  obtain ⟨x1, hx1, h⟩ := bind_some h
  refine SRun.ls (x_lstep_call (f := 13) (caps := []) (xs := [vl eOp aLog]) (ys := [vl eOp aLog]) (res := ⟨[.v (vb x1)], [], false⟩) (x := vb x1) (y := none) rfl ents13 (spec_IsLog_run aLog _ hx1) rfl (by intro hc; cases hc)) ?_
  refine SRun.ck tbokGB 1 ⟨9, [(0, vl eOp aLog), (6, vb (!x1))], []⟩ ?_
  refine SRun.nil ?_
  refine nx_n ?_
  refine swp_cond (b := (!x1)) (by kernel_rfl) (fun hb => ?_) (fun hb => ?_)
  replace h := cond_t hb h
  refine swp_seq ?_
  refine swp_reg ?_
  refine SRun.ck tbokGB 2 ⟨9, [(2, .own 2), (3, vi 1)], [(2, .arr 2 1 ([] : List Int).length (([] : List Int).map (eI .i64)))]⟩ ?_
  refine SRun.nil ?_
  refine nx_n ?_
  refine swp_ret ?_
  replace h := Option.some.inj h
  subst h
  exact nx_r (q_fr (fin2 (by kernel_rfl) (finO (d := 2) (holds_t (by kernel_rfl)) (by kernel_rfl) (flat_map (eI_flat .i64) _) (by kernel_rfl)) (finV rfl SV.flat_of (holds_t (by kernel_rfl)))))
  replace h := cond_f hb h
  refine swp_skip ?_
  refine nx_n ?_
  refine swp_seq ?_
  refine swp_reg ?_
  refine SRun.ck tbokGB 1 ⟨9, [(7, vl eOp aLog)], []⟩ ?_
  obtain ⟨x2, hx2, h⟩ := bind_some h
  refine SRun.ls (x_lstep_call (f := 56) (caps := []) (xs := [vl eOp aLog]) (ys := [vl eOp aLog]) (res := ⟨[.own 2 1 x2.length (x2.map (eI .i64))], [], false⟩) (x := .own 8) (y := some (.arr 2 1 x2.length (x2.map (eI .i64)))) rfl ents56 (spec_l32Count_run aLog _ hx2) rfl (by intro hc; cases hc)) ?_
  refine SRun.ck tbokGB 2 ⟨9, [(2, .own 8), (3, vi 0)], [(8, .arr 2 1 x2.length (x2.map (eI .i64)))]⟩ ?_
  refine SRun.nil ?_
  refine nx_n ?_
  refine swp_ret ?_
  replace h := Option.some.inj h
  subst h
  exact q_fr (fin2 (by kernel_rfl) (finO (d := 8) (holds_t (by kernel_rfl)) (by kernel_rfl) (flat_map (eI_flat .i64) _) (by kernel_rfl)) (finV rfl SV.flat_of (holds_t (by kernel_rfl))))
theorem ents19 : Ents Tryd.prog 19 := ents_of Tryd.func19 (by kernel_rfl) rfl
noncomputable def impl_VectorOf (aLog : (List Op)) : Option ((List Int) × Int) :=
  ((impl_IsLog aLog).bind fun x1 => (bif (!x1) then some (([] : List Int), 1) else ((impl_vectorOf aLog).bind fun x2 => some (x2, 0))))
set_option maxRecDepth 100000 in
set_option maxHeartbeats 4000000 in
theorem impl_VectorOf_run (aLog : (List Op)) (r : (List Int) × Int) (h : impl_VectorOf aLog = some r) : SCall Tryd.prog 20 [.v (vl eOp aLog)] ⟨[.own 2 1 r.1.length (r.1.map (eI .i64)), .v (vi r.2)], [], false⟩ := by
  refine scall_in Tryd.func20 rfl [(.tmp 2), (.tmp 3)] rfl (fun r => ⟨[.own 2 1 r.1.length (r.1.map (eI .i64)), .v (vi r.2)], [], false⟩) (r := r) ?_
  unfold impl_VectorOf at h
  refine swp_seq ?_
  refine swp_reg ?_
  refine SRun.ck tbokGB 2 ⟨9, [(0, vl eOp aLog)], []⟩ ?_
  refine SRun.nil ?_
  refine nx_n ?_
  refine swp_seq ?_
  refine swp_seq ?_
  refine swp_reg ?_
  refine SRun.ck tbokGB 1 ⟨9, [(0, vl eOp aLog), (4, vl eOp aLog)], []⟩ ?_
  obtain ⟨x1, hx1, h⟩ := bind_some h
  refine SRun.ls (x_lstep_call (f := 15) (caps := []) (xs := [vl eOp aLog]) (ys := [vl eOp aLog]) (res := ⟨[.v (vb x1)], [], false⟩) (x := vb x1) (y := none) rfl ents15 (impl_IsLog_run aLog _ hx1) rfl (by intro hc; cases hc)) ?_
  refine SRun.ck tbokGB 1 ⟨9, [(0, vl eOp aLog), (6, vb (!x1))], []⟩ ?_
  refine SRun.nil ?_
  refine nx_n ?_
  refine swp_cond (b := (!x1)) (by kernel_rfl) (fun hb => ?_) (fun hb => ?_)
  replace h := cond_t hb h
  refine swp_seq ?_
  refine swp_reg ?_
  refine SRun.ck tbokGB 2 ⟨9, [(2, .own 2), (3, vi 1)], [(2, .arr 2 1 ([] : List Int).length (([] : List Int).map (eI .i64)))]⟩ ?_
  refine SRun.nil ?_
  refine nx_n ?_
  refine swp_ret ?_
  replace h := Option.some.inj h
  subst h
  exact nx_r (q_fr (fin2 (by kernel_rfl) (finO (d := 2) (holds_t (by kernel_rfl)) (by kernel_rfl) (flat_map (eI_flat .i64) _) (by kernel_rfl)) (finV rfl SV.flat_of (holds_t (by kernel_rfl)))))
  replace h := cond_f hb h
  refine swp_skip ?_
  refine nx_n ?_
  refine swp_seq ?_
  refine swp_reg ?_
  refine SRun.ck tbokGB 1 ⟨9, [(7, vl eOp aLog)], []⟩ ?_
  obtain ⟨x2, hx2, h⟩ := bind_some h
  refine SRun.ls (x_lstep_call (f := 50) (caps := []) (xs := [vl eOp aLog]) (ys := [vl eOp aLog]) (res := ⟨[.own 2 1 x2.length (x2.map (eI .i64))], [], false⟩) (x := .own 8) (y := some (.arr 2 1 x2.length (x2.map (eI .i64)))) rfl ents50 (impl_vectorOf_run aLog _ hx2) rfl (by intro hc; cases hc)) ?_
  refine SRun.ck tbokGB 2 ⟨9, [(2, .own 8), (3, vi 0)], [(8, .arr 2 1 x2.length (x2.map (eI .i64)))]⟩ ?_
  refine SRun.nil ?_
  refine nx_n ?_
  refine swp_ret ?_
  replace h := Option.some.inj h
  subst h
  exact q_fr (fin2 (by kernel_rfl) (finO (d := 8) (holds_t (by kernel_rfl)) (by kernel_rfl) (flat_map (eI_flat .i64) _) (by kernel_rfl)) (finV rfl SV.flat_of (holds_t (by kernel_rfl))))
theorem ents20 : Ents Tryd.prog 20 := ents_of Tryd.func20 (by kernel_rfl) rfl
noncomputable def laws_markText (aK : Int) : Option (ByteArray) :=
  (bif (decide (aK ≤ 0)) then some (ByteArray.mk #[109, 48]) else (((loop (fun (s3 : Int × ByteArray) => (bif (decide (s3.1 > 0)) then ((cat' (strOfNums ([(IntKind.wrap .u8 (w64 (48 + (Int.tmod s3.1 10))))] : List Int)) s3.2).bind fun x5 => some (.inl ((w64 (Int.tdiv s3.1 10)), x5))) else some (.inr s3.2))) (aK, (ByteArray.mk #[])))).bind fun (j1 : ByteArray) => ((cat' (ByteArray.mk #[109]) j1).bind fun x6 => some x6)))
set_option maxRecDepth 100000 in
set_option maxHeartbeats 4000000 in
theorem laws_markText_run (aK : Int) (r : ByteArray) (h : laws_markText aK = some r) : SCall Tryd.prog 57 [.v (vi aK)] ⟨[.v (vs r)], [], false⟩ := by
  refine scall_in Tryd.func57 rfl [(.tmp 2)] rfl (fun r => ⟨[.v (vs r)], [], false⟩) (r := r) ?_
  unfold laws_markText at h
  refine swp_seq ?_
  refine swp_reg ?_
  refine SRun.ck tbokGB 1 ⟨20, [(0, vi aK)], []⟩ ?_
  refine SRun.nil ?_
  refine nx_n ?_
  refine swp_seq ?_
  refine swp_seq ?_
  refine swp_reg ?_
  refine SRun.ck tbokGB 2 ⟨20, [(0, vi aK), (5, vb (decide (aK ≤ 0)))], []⟩ ?_
  refine SRun.nil ?_
  refine nx_n ?_
  refine swp_cond (b := (decide (aK ≤ 0))) (by kernel_rfl) (fun hb => ?_) (fun hb => ?_)
  replace h := cond_t hb h
  refine swp_seq ?_
  refine swp_reg ?_
  refine SRun.ck tbokGB 1 ⟨20, [(2, vs (ByteArray.mk #[109, 48]))], []⟩ ?_
  refine SRun.nil ?_
  refine nx_n ?_
  refine swp_ret ?_
  replace h := Option.some.inj h
  subst h
  exact nx_r (q_fr (fin1 (by kernel_rfl) (finV rfl SV.flat_of (holds_t (by kernel_rfl)))))
  replace h := cond_f hb h
  refine swp_skip ?_
  refine nx_n ?_
  refine swp_seq ?_
  refine swp_reg ?_
  refine SRun.ck tbokGB 1 ⟨20, [(0, vi aK), (3, vs (ByteArray.mk #[]))], []⟩ ?_
  refine SRun.nil ?_
  refine nx_n ?_
  refine swp_seq ?_
  refine swp_seqJ h (fun j1 => ⟨20, [(3, vs j1)], []⟩) (fun v2 h => ?_) (fun j1 h => ?_)
  refine swp_blk (a := v2) ?_
  refine swp_lpL (r := v2) (s := (aK, (ByteArray.mk #[]))) _ (fun s3 => ⟨20, [(0, vi s3.1), (3, vs s3.2)], []⟩) _ (Le.sub0) h (fun s3 v4 h => ?_)
  refine swp_seq ?_
  refine swp_seq ?_
  refine swp_reg ?_
  refine SRun.ck tbokGB 2 ⟨20, [(0, vi s3.1), (3, vs s3.2), (7, vb (decide (s3.1 > 0)))], []⟩ ?_
  refine SRun.nil ?_
  refine nx_n ?_
  refine swp_cond (b := (decide (s3.1 > 0))) (by kernel_rfl) (fun hb => ?_) (fun hb => ?_)
  replace h := cond_t hb h
  refine swp_skip ?_
  refine nx_n ?_
  refine swp_blk (a := v4) ?_
  refine swp_seq ?_
  refine swp_reg ?_
  refine SRun.ck tbokGB 5 ⟨20, [(0, vi s3.1), (3, vs s3.2), (12, .own 12)], [(12, .arr 5 1 ([(IntKind.wrap .u8 (w64 (48 + (Int.tmod s3.1 10))))] : List Int).length (([(IntKind.wrap .u8 (w64 (48 + (Int.tmod s3.1 10))))] : List Int).map (eI .u8)))]⟩ ?_
  refine SRun.ls (x_bytes_own (L := ([(IntKind.wrap .u8 (w64 (48 + (Int.tmod s3.1 10))))] : List Int)) (d := 12) (e' := 5) tbokGB rfl (e := 5) (ti := ti50) (tj := ti5) (tk := ti9)) ?_
  refine SRun.ck tbokGB 1 ⟨20, [(0, vi s3.1), (13, vs (strOfNums ([(IntKind.wrap .u8 (w64 (48 + (Int.tmod s3.1 10))))] : List Int))), (14, vs s3.2)], []⟩ ?_
  obtain ⟨x5, hx5, h⟩ := bind_some h
  refine SRun.ls (x_cat hx5 rfl) ?_
  refine SRun.ck tbokGB 1 ⟨20, [(0, vi s3.1), (3, vs x5)], []⟩ ?_
  refine SRun.nil ?_
  refine nx_n ?_
  refine swp_reg ?_
  refine SRun.ck tbokGB 3 ⟨20, [(0, vi (w64 (Int.tdiv s3.1 10))), (3, vs x5)], []⟩ ?_
  refine SRun.nil ?_
  replace h := Option.some.inj h
  subst h
  exact q_bn (q_l (Le.sub0))
  replace h := cond_f hb h
  refine swp_exit ?_
  replace h := Option.some.inj h
  subst h
  exact nx_e (q_re (q_bh (q_j (Le.sub0))))
  refine swp_seq ?_
  refine swp_reg ?_
  refine SRun.ck tbokGB 1 ⟨20, [(18, vs j1)], []⟩ ?_
  obtain ⟨x6, hx6, h⟩ := bind_some h
  refine SRun.ls (x_cat hx6 rfl) ?_
  refine SRun.ck tbokGB 1 ⟨20, [(2, vs x6)], []⟩ ?_
  refine SRun.nil ?_
  refine nx_n ?_
  refine swp_ret ?_
  replace h := Option.some.inj h
  subst h
  exact q_fr (fin1 (by kernel_rfl) (finV rfl SV.flat_of (holds_t (by kernel_rfl))))
theorem ents57 : Ents Tryd.prog 57 := ents_of Tryd.func57 (by kernel_rfl) rfl
noncomputable def laws_markInt64S (aA : (List Int)) (aK : Int) : Option (Int × (List Int)) :=
  (((forH (fun (i3 : Int) (s3 : Int × (List Int)) => (decide (i3 < (s3.2.length : Int)))) (fun (i3 : Int) (s3 : Int × (List Int)) => ((at' s3.2 i3).bind fun _ => some ((w64 (s3.1 + 1)), (List.set s3.2 (Int.toNat i3) s3.1)))) (fun (s3 : Int × (List Int)) => (s3.1, s3.2)) 0 (aK, aA))).bind fun (j1 : Int × (List Int)) => some (j1.1, j1.2))
set_option maxRecDepth 100000 in
set_option maxHeartbeats 4000000 in
theorem laws_markInt64S_run (aA : (List Int)) (aK : Int) (r : Int × (List Int)) (h : laws_markInt64S aA aK = some r) : SCall Tryd.prog 23 [.o (.arr 2 1 aA.length (aA.map (eI .i64))), .v (vi aK)] ⟨[.v (vi r.1)], [(0, .arr 2 1 r.2.length (r.2.map (eI .i64)))], false⟩ := by
  refine scall_in Tryd.func23 rfl [(.tmp 4)] rfl (fun r => ⟨[.v (vi r.1)], [(0, .arr 2 1 r.2.length (r.2.map (eI .i64)))], false⟩) (r := r) ?_
  unfold laws_markInt64S at h
  refine swp_seq ?_
  refine swp_reg ?_
  refine SRun.ck tbokGB 1 ⟨19, [(0, .own 1000000), (1, vi aK)], [(1000000, .arr 2 1 aA.length (aA.map (eI .i64)))]⟩ ?_
  refine SRun.nil ?_
  refine nx_n ?_
  refine swp_seq ?_
  refine swp_seq ?_
  refine swp_reg ?_
  refine SRun.ck tbokGB 1 ⟨19, [(0, .own 1000000), (1, vi aK), (5, vi 0)], [(1000000, .arr 2 1 aA.length (aA.map (eI .i64)))]⟩ ?_
  refine SRun.nil ?_
  refine nx_n ?_
  refine swp_seqJ h (fun j1 => ⟨19, [(1, vi j1.1)], [(1000000, .arr 2 1 j1.2.length (j1.2.map (eI .i64)))]⟩) (fun v2 h => ?_) (fun j1 h => ?_)
  refine swp_blk (a := v2) ?_
  refine swp_lpL (r := v2) (s := (0, aK, aA)) _ (fun s3 => ⟨19, [(0, .own 1000000), (1, vi s3.2.1), (5, vi s3.1)], [(1000000, .arr 2 1 s3.2.2.length (s3.2.2.map (eI .i64)))]⟩) _ (Le.sub0) h (fun s3 v4 h => ?_)
  refine swp_seq ?_
  refine swp_seq ?_
  refine swp_reg ?_
  refine SRun.ck tbokGB 4 ⟨19, [(0, .own 1000000), (1, vi s3.2.1), (5, vi s3.1), (9, vb (decide (s3.1 < (s3.2.2.length : Int))))], [(1000000, .arr 2 1 s3.2.2.length (s3.2.2.map (eI .i64)))]⟩ ?_
  refine SRun.nil ?_
  refine nx_n ?_
  refine swp_cond (b := (decide (s3.1 < (s3.2.2.length : Int)))) (by kernel_rfl) (fun hb => ?_) (fun hb => ?_)
  replace h := cond_t hb h
  refine swp_skip ?_
  refine nx_n ?_
  refine swp_seq ?_
  refine swp_seqJ h (fun j5 => ⟨19, [(0, .own 1000000), (1, vi j5.1), (5, vi s3.1)], [(1000000, .arr 2 1 j5.2.length (j5.2.map (eI .i64)))]⟩) (fun v6 h => ?_) (fun j5 h => ?_)
  refine swp_blk (a := v6) ?_
  refine swp_seq ?_
  refine swp_reg ?_
  refine SRun.ck tbokGB 3 ⟨19, [(0, .own 1000000), (1, vi s3.2.1), (5, vi s3.1), (12, .own 1000000), (13, vi s3.1), (14, vi s3.2.1)], [(1000000, .arr 2 1 s3.2.2.length (s3.2.2.map (eI .i64)))]⟩ ?_
  obtain ⟨x7, hx7, h⟩ := bind_some h
  refine SRun.ls (x_index_own (d := 1000000) (L := s3.2.2) (f := (eI .i64)) (ti := ti32) (tj := ti2) (e := 2) (e' := 2) (m := 1) (k := .i64) tbokGB rfl hx7) ?_
  refine SRun.estep (x_store_own (d := 1000000) (m := 1) (j := 0) (L := s3.2.2) (f := (eI .i64)) (x := s3.2.1) (z := x7) (ti := ti2) (e := 2) (ts := [.int .i64 s3.2.1]) (vs := [vi s3.2.1]) (v := vi s3.2.1) tbokGB rfl rfl hx7) ?_
  refine SRun.nil ?_
  refine nx_n ?_
  refine swp_reg ?_
  refine SRun.ck tbokGB 3 ⟨19, [(0, .own 1000000), (1, vi (w64 (s3.2.1 + 1))), (5, vi s3.1)], [(1000000, .arr 2 1 (List.set s3.2.2 (Int.toNat s3.1) s3.2.1).length ((List.set s3.2.2 (Int.toNat s3.1) s3.2.1).map (eI .i64)))]⟩ ?_
  refine SRun.nil ?_
  replace h := Option.some.inj h
  subst h
  exact q_bn (q_j (Le.sub0))
  refine swp_reg ?_
  refine SRun.ck tbokGB 3 ⟨19, [(0, .own 1000000), (1, vi j5.1), (5, vi (w64 (s3.1 + 1)))], [(1000000, .arr 2 1 j5.2.length (j5.2.map (eI .i64)))]⟩ ?_
  refine SRun.nil ?_
  replace h := Option.some.inj h
  subst h
  exact q_l (Le.sub0)
  replace h := cond_f hb h
  refine swp_exit ?_
  replace h := Option.some.inj h
  subst h
  exact nx_e (q_re (q_bh (q_j (Le.sub0))))
  refine swp_seq ?_
  refine swp_reg ?_
  refine SRun.ck tbokGB 2 ⟨19, [(4, vi j1.1)], [(1000000, .arr 2 1 j1.2.length (j1.2.map (eI .i64)))]⟩ ?_
  refine SRun.nil ?_
  refine nx_n ?_
  refine swp_ret ?_
  replace h := Option.some.inj h
  subst h
  exact q_fr (fin_io (fin1 (by kernel_rfl) (finV rfl SV.flat_of (holds_t (by kernel_rfl)))) (y := .arr 2 1 j1.2.length (j1.2.map (eI .i64))) (by kernel_rfl) rfl (by kernel_rfl) (by kernel_rfl))
theorem ents23 : Ents Tryd.prog 23 := ents_of Tryd.func23 (by kernel_rfl) rfl
noncomputable def laws_markOpS (aA : (List Op)) (aK : Int) : Option (Int × (List Op)) :=
  (((forH (fun (i3 : Int) (s3 : Int × (List Op)) => (decide (i3 < (s3.2.length : Int)))) (fun (i3 : Int) (s3 : Int × (List Op)) => ((at' s3.2 i3).bind fun x7 => ((at' (List.set s3.2 (Int.toNat i3) (Op.mk s3.1 x7.Number x7.Key x7.Text x7.Seen)) i3).bind fun x8 => ((laws_markText (w64 ((w64 (s3.1 + 1)) + 1))).bind fun x9 => ((at' (List.set (List.set s3.2 (Int.toNat i3) (Op.mk s3.1 x7.Number x7.Key x7.Text x7.Seen)) (Int.toNat i3) (Op.mk x8.Office (w64 (s3.1 + 1)) x8.Key x8.Text x8.Seen)) i3).bind fun x10 => ((laws_markText (w64 ((w64 ((w64 (s3.1 + 1)) + 1)) + 1))).bind fun x11 => ((at' (List.set (List.set (List.set s3.2 (Int.toNat i3) (Op.mk s3.1 x7.Number x7.Key x7.Text x7.Seen)) (Int.toNat i3) (Op.mk x8.Office (w64 (s3.1 + 1)) x8.Key x8.Text x8.Seen)) (Int.toNat i3) (Op.mk x10.Office x10.Number x9 x10.Text x10.Seen)) i3).bind fun x12 => ((at' (List.set (List.set (List.set (List.set s3.2 (Int.toNat i3) (Op.mk s3.1 x7.Number x7.Key x7.Text x7.Seen)) (Int.toNat i3) (Op.mk x8.Office (w64 (s3.1 + 1)) x8.Key x8.Text x8.Seen)) (Int.toNat i3) (Op.mk x10.Office x10.Number x9 x10.Text x10.Seen)) (Int.toNat i3) (Op.mk x12.Office x12.Number x12.Key x11 x12.Seen)) i3).bind fun x13 => ((laws_markInt64S x13.Seen (w64 ((w64 ((w64 ((w64 (s3.1 + 1)) + 1)) + 1)) + 1))).bind fun x14 => some (x14.1, (List.set (List.set (List.set (List.set (List.set s3.2 (Int.toNat i3) (Op.mk s3.1 x7.Number x7.Key x7.Text x7.Seen)) (Int.toNat i3) (Op.mk x8.Office (w64 (s3.1 + 1)) x8.Key x8.Text x8.Seen)) (Int.toNat i3) (Op.mk x10.Office x10.Number x9 x10.Text x10.Seen)) (Int.toNat i3) (Op.mk x12.Office x12.Number x12.Key x11 x12.Seen)) (Int.toNat i3) (Op.mk x13.Office x13.Number x13.Key x13.Text x14.2)))))))))))) (fun (s3 : Int × (List Op)) => (s3.1, s3.2)) 0 (aK, aA))).bind fun (j1 : Int × (List Op)) => some (j1.1, j1.2))
set_option maxRecDepth 100000 in
set_option maxHeartbeats 4000000 in
theorem laws_markOpS_run (aA : (List Op)) (aK : Int) (r : Int × (List Op)) (h : laws_markOpS aA aK = some r) : SCall Tryd.prog 22 [.o (.deep 61 5 aA.length [.flat, .flat, .flat, .flat, (.sl 2 1 [.flat])] (aA.map eOp)), .v (vi aK)] ⟨[.v (vi r.1)], [(0, .deep 61 5 r.2.length [.flat, .flat, .flat, .flat, (.sl 2 1 [.flat])] (r.2.map eOp))], false⟩ := by
  refine scall_in Tryd.func22 rfl [(.tmp 4)] rfl (fun r => ⟨[.v (vi r.1)], [(0, .deep 61 5 r.2.length [.flat, .flat, .flat, .flat, (.sl 2 1 [.flat])] (r.2.map eOp))], false⟩) (r := r) ?_
  unfold laws_markOpS at h
  refine swp_seq ?_
  refine swp_reg ?_
  refine SRun.ck tbokGB 1 ⟨50, [(0, .own 1000000), (1, vi aK)], [(1000000, .deep 61 5 aA.length [.flat, .flat, .flat, .flat, (.sl 2 1 [.flat])] (aA.map eOp))]⟩ ?_
  refine SRun.nil ?_
  refine nx_n ?_
  refine swp_seq ?_
  refine swp_seq ?_
  refine swp_reg ?_
  refine SRun.ck tbokGB 1 ⟨50, [(0, .own 1000000), (1, vi aK), (5, vi 0)], [(1000000, .deep 61 5 aA.length [.flat, .flat, .flat, .flat, (.sl 2 1 [.flat])] (aA.map eOp))]⟩ ?_
  refine SRun.nil ?_
  refine nx_n ?_
  refine swp_seqJ h (fun j1 => ⟨50, [(1, vi j1.1)], [(1000000, .deep 61 5 j1.2.length [.flat, .flat, .flat, .flat, (.sl 2 1 [.flat])] (j1.2.map eOp))]⟩) (fun v2 h => ?_) (fun j1 h => ?_)
  refine swp_blk (a := v2) ?_
  refine swp_lpL (r := v2) (s := (0, aK, aA)) _ (fun s3 => ⟨50, [(0, .own 1000000), (1, vi s3.2.1), (5, vi s3.1)], [(1000000, .deep 61 5 s3.2.2.length [.flat, .flat, .flat, .flat, (.sl 2 1 [.flat])] (s3.2.2.map eOp))]⟩) _ (Le.sub0) h (fun s3 v4 h => ?_)
  refine swp_seq ?_
  refine swp_seq ?_
  refine swp_reg ?_
  refine SRun.ck tbokGB 2 ⟨50, [(0, .own 1000000), (1, vi s3.2.1), (5, vi s3.1), (6, vi s3.1), (7, .own 1000000)], [(1000000, .deep 61 5 s3.2.2.length [.flat, .flat, .flat, .flat, (.sl 2 1 [.flat])] (s3.2.2.map eOp))]⟩ ?_
  refine SRun.ls (x_len_deep (d := 1000000) (e := 61) (e' := 61) (m := 5) (n := s3.2.2.length) (ss := [.flat, .flat, .flat, .flat, (.sl 2 1 [.flat])]) (es := s3.2.2.map eOp) (ti := ti25) tbokGB rfl rfl rfl) ?_
  refine SRun.ck tbokGB 1 ⟨50, [(0, .own 1000000), (1, vi s3.2.1), (5, vi s3.1), (9, vb (decide (s3.1 < (s3.2.2.length : Int))))], [(1000000, .deep 61 5 s3.2.2.length [.flat, .flat, .flat, .flat, (.sl 2 1 [.flat])] (s3.2.2.map eOp))]⟩ ?_
  refine SRun.nil ?_
  refine nx_n ?_
  refine swp_cond (b := (decide (s3.1 < (s3.2.2.length : Int)))) (by kernel_rfl) (fun hb => ?_) (fun hb => ?_)
  replace h := cond_t hb h
  refine swp_skip ?_
  refine nx_n ?_
  refine swp_seq ?_
  refine swp_seqJ h (fun j5 => ⟨50, [(0, .own 1000000), (1, vi j5.1), (5, vi s3.1)], [(1000000, .deep 61 5 j5.2.length [.flat, .flat, .flat, .flat, (.sl 2 1 [.flat])] (j5.2.map eOp))]⟩) (fun v6 h => ?_) (fun j5 h => ?_)
  refine swp_blk (a := v6) ?_
  refine swp_seq ?_
  refine swp_reg ?_
  refine SRun.ck tbokGB 3 ⟨50, [(0, .own 1000000), (1, vi s3.2.1), (5, vi s3.1), (12, .own 1000000), (13, vi s3.1), (14, vi s3.2.1)], [(1000000, .deep 61 5 s3.2.2.length [.flat, .flat, .flat, .flat, (.sl 2 1 [.flat])] (s3.2.2.map eOp))]⟩ ?_
  obtain ⟨x7, hx7, h⟩ := bind_some h
  refine SRun.ls (x_index_deep (d := 1000000) (L := s3.2.2) (f := eOp) (ti := ti25) (tj := ti61) (e := 61) (e' := 61) (m := 5) (k := .i64) (ss := [.flat, .flat, .flat, .flat, (.sl 2 1 [.flat])]) tbokGB rfl hx7) ?_
  refine SRun.ck tbokGB 1 ⟨50, [(0, .own 1000000), (1, vi s3.2.1), (5, vi s3.1), (14, vi s3.2.1), (16, .eref 1000000 5 (Int.toNat s3.1) 0)], [(1000000, .deep 61 5 s3.2.2.length [.flat, .flat, .flat, .flat, (.sl 2 1 [.flat])] (s3.2.2.map eOp))]⟩ ?_
  refine SRun.estep (x_store_deep (d := 1000000) (m := 5) (j := 0) (L := s3.2.2) (f := eOp) (x := (Op.mk s3.2.1 x7.Number x7.Key x7.Text x7.Seen)) (z := x7) (ti := ti2) (e := 61) (ss := [.flat, .flat, .flat, .flat, (.sl 2 1 [.flat])]) (ss2 := [.flat]) (ts := [.int .i64 s3.2.1]) (vs := [vi s3.2.1]) (v := vi s3.2.1) (ds := []) tbokGB rfl rfl hx7 (.cons _ _ _ [] _ _ _ _ (.flat (.int .i64 s3.2.1) rfl) .nil (by decide))) ?_
  refine SRun.nil ?_
  refine nx_n ?_
  refine swp_seq ?_
  refine swp_reg ?_
  refine SRun.ck tbokGB 3 ⟨50, [(0, .own 1000000), (1, vi (w64 (s3.2.1 + 1))), (5, vi s3.1)], [(1000000, .deep 61 5 (List.set s3.2.2 (Int.toNat s3.1) (Op.mk s3.2.1 x7.Number x7.Key x7.Text x7.Seen)).length [.flat, .flat, .flat, .flat, (.sl 2 1 [.flat])] ((List.set s3.2.2 (Int.toNat s3.1) (Op.mk s3.2.1 x7.Number x7.Key x7.Text x7.Seen)).map eOp))]⟩ ?_
  refine SRun.nil ?_
  refine nx_n ?_
  refine swp_seq ?_
  refine swp_reg ?_
  refine SRun.ck tbokGB 3 ⟨50, [(0, .own 1000000), (1, vi (w64 (s3.2.1 + 1))), (5, vi s3.1), (19, .own 1000000), (20, vi s3.1), (21, vi (w64 (s3.2.1 + 1)))], [(1000000, .deep 61 5 (List.set s3.2.2 (Int.toNat s3.1) (Op.mk s3.2.1 x7.Number x7.Key x7.Text x7.Seen)).length [.flat, .flat, .flat, .flat, (.sl 2 1 [.flat])] ((List.set s3.2.2 (Int.toNat s3.1) (Op.mk s3.2.1 x7.Number x7.Key x7.Text x7.Seen)).map eOp))]⟩ ?_
  obtain ⟨x8, hx8, h⟩ := bind_some h
  refine SRun.ls (x_index_deep (d := 1000000) (L := (List.set s3.2.2 (Int.toNat s3.1) (Op.mk s3.2.1 x7.Number x7.Key x7.Text x7.Seen))) (f := eOp) (ti := ti25) (tj := ti61) (e := 61) (e' := 61) (m := 5) (k := .i64) (ss := [.flat, .flat, .flat, .flat, (.sl 2 1 [.flat])]) tbokGB rfl hx8) ?_
  refine SRun.ck tbokGB 1 ⟨50, [(0, .own 1000000), (1, vi (w64 (s3.2.1 + 1))), (5, vi s3.1), (21, vi (w64 (s3.2.1 + 1))), (23, .eref 1000000 5 (Int.toNat s3.1) 1)], [(1000000, .deep 61 5 (List.set s3.2.2 (Int.toNat s3.1) (Op.mk s3.2.1 x7.Number x7.Key x7.Text x7.Seen)).length [.flat, .flat, .flat, .flat, (.sl 2 1 [.flat])] ((List.set s3.2.2 (Int.toNat s3.1) (Op.mk s3.2.1 x7.Number x7.Key x7.Text x7.Seen)).map eOp))]⟩ ?_
  refine SRun.estep (x_store_deep (d := 1000000) (m := 5) (j := 1) (L := (List.set s3.2.2 (Int.toNat s3.1) (Op.mk s3.2.1 x7.Number x7.Key x7.Text x7.Seen))) (f := eOp) (x := (Op.mk x8.Office (w64 (s3.2.1 + 1)) x8.Key x8.Text x8.Seen)) (z := x8) (ti := ti2) (e := 61) (ss := [.flat, .flat, .flat, .flat, (.sl 2 1 [.flat])]) (ss2 := [.flat]) (ts := [.int .i64 (w64 (s3.2.1 + 1))]) (vs := [vi (w64 (s3.2.1 + 1))]) (v := vi (w64 (s3.2.1 + 1))) (ds := []) tbokGB rfl rfl hx8 (.cons _ _ _ [] _ _ _ _ (.flat (.int .i64 (w64 (s3.2.1 + 1))) rfl) .nil (by decide))) ?_
  refine SRun.nil ?_
  refine nx_n ?_
  refine swp_seq ?_
  refine swp_reg ?_
  refine SRun.ck tbokGB 3 ⟨50, [(0, .own 1000000), (1, vi (w64 ((w64 (s3.2.1 + 1)) + 1))), (5, vi s3.1)], [(1000000, .deep 61 5 (List.set (List.set s3.2.2 (Int.toNat s3.1) (Op.mk s3.2.1 x7.Number x7.Key x7.Text x7.Seen)) (Int.toNat s3.1) (Op.mk x8.Office (w64 (s3.2.1 + 1)) x8.Key x8.Text x8.Seen)).length [.flat, .flat, .flat, .flat, (.sl 2 1 [.flat])] ((List.set (List.set s3.2.2 (Int.toNat s3.1) (Op.mk s3.2.1 x7.Number x7.Key x7.Text x7.Seen)) (Int.toNat s3.1) (Op.mk x8.Office (w64 (s3.2.1 + 1)) x8.Key x8.Text x8.Seen)).map eOp))]⟩ ?_
  refine SRun.nil ?_
  refine nx_n ?_
  refine swp_seq ?_
  refine swp_reg ?_
  refine SRun.ck tbokGB 3 ⟨50, [(0, .own 1000000), (1, vi (w64 ((w64 (s3.2.1 + 1)) + 1))), (5, vi s3.1), (26, .own 1000000), (27, vi s3.1), (28, vi (w64 ((w64 (s3.2.1 + 1)) + 1)))], [(1000000, .deep 61 5 (List.set (List.set s3.2.2 (Int.toNat s3.1) (Op.mk s3.2.1 x7.Number x7.Key x7.Text x7.Seen)) (Int.toNat s3.1) (Op.mk x8.Office (w64 (s3.2.1 + 1)) x8.Key x8.Text x8.Seen)).length [.flat, .flat, .flat, .flat, (.sl 2 1 [.flat])] ((List.set (List.set s3.2.2 (Int.toNat s3.1) (Op.mk s3.2.1 x7.Number x7.Key x7.Text x7.Seen)) (Int.toNat s3.1) (Op.mk x8.Office (w64 (s3.2.1 + 1)) x8.Key x8.Text x8.Seen)).map eOp))]⟩ ?_
  obtain ⟨x9, hx9, h⟩ := bind_some h
  refine SRun.ls (x_lstep_call (f := 57) (caps := []) (xs := [vi (w64 ((w64 (s3.2.1 + 1)) + 1))]) (ys := [vi (w64 ((w64 (s3.2.1 + 1)) + 1))]) (res := ⟨[.v (vs x9)], [], false⟩) (x := vs x9) (y := none) rfl ents57 (laws_markText_run (w64 ((w64 (s3.2.1 + 1)) + 1)) _ hx9) rfl (by intro hc; cases hc)) ?_
  obtain ⟨x10, hx10, h⟩ := bind_some h
  refine SRun.ls (x_index_deep (d := 1000000) (L := (List.set (List.set s3.2.2 (Int.toNat s3.1) (Op.mk s3.2.1 x7.Number x7.Key x7.Text x7.Seen)) (Int.toNat s3.1) (Op.mk x8.Office (w64 (s3.2.1 + 1)) x8.Key x8.Text x8.Seen))) (f := eOp) (ti := ti25) (tj := ti61) (e := 61) (e' := 61) (m := 5) (k := .i64) (ss := [.flat, .flat, .flat, .flat, (.sl 2 1 [.flat])]) tbokGB rfl hx10) ?_
  refine SRun.ck tbokGB 1 ⟨50, [(0, .own 1000000), (1, vi (w64 ((w64 (s3.2.1 + 1)) + 1))), (5, vi s3.1), (29, vs x9), (31, .eref 1000000 5 (Int.toNat s3.1) 2)], [(1000000, .deep 61 5 (List.set (List.set s3.2.2 (Int.toNat s3.1) (Op.mk s3.2.1 x7.Number x7.Key x7.Text x7.Seen)) (Int.toNat s3.1) (Op.mk x8.Office (w64 (s3.2.1 + 1)) x8.Key x8.Text x8.Seen)).length [.flat, .flat, .flat, .flat, (.sl 2 1 [.flat])] ((List.set (List.set s3.2.2 (Int.toNat s3.1) (Op.mk s3.2.1 x7.Number x7.Key x7.Text x7.Seen)) (Int.toNat s3.1) (Op.mk x8.Office (w64 (s3.2.1 + 1)) x8.Key x8.Text x8.Seen)).map eOp))]⟩ ?_
  refine SRun.estep (x_store_deep (d := 1000000) (m := 5) (j := 2) (L := (List.set (List.set s3.2.2 (Int.toNat s3.1) (Op.mk s3.2.1 x7.Number x7.Key x7.Text x7.Seen)) (Int.toNat s3.1) (Op.mk x8.Office (w64 (s3.2.1 + 1)) x8.Key x8.Text x8.Seen))) (f := eOp) (x := (Op.mk x10.Office x10.Number x9 x10.Text x10.Seen)) (z := x10) (ti := ti9) (e := 61) (ss := [.flat, .flat, .flat, .flat, (.sl 2 1 [.flat])]) (ss2 := [.flat]) (ts := [.str x9]) (vs := [vs x9]) (v := vs x9) (ds := []) tbokGB rfl rfl hx10 (.cons _ _ _ [] _ _ _ _ (.flat (.str x9) rfl) .nil (by decide))) ?_
  refine SRun.nil ?_
  refine nx_n ?_
  refine swp_seq ?_
  refine swp_reg ?_
  refine SRun.ck tbokGB 3 ⟨50, [(0, .own 1000000), (1, vi (w64 ((w64 ((w64 (s3.2.1 + 1)) + 1)) + 1))), (5, vi s3.1)], [(1000000, .deep 61 5 (List.set (List.set (List.set s3.2.2 (Int.toNat s3.1) (Op.mk s3.2.1 x7.Number x7.Key x7.Text x7.Seen)) (Int.toNat s3.1) (Op.mk x8.Office (w64 (s3.2.1 + 1)) x8.Key x8.Text x8.Seen)) (Int.toNat s3.1) (Op.mk x10.Office x10.Number x9 x10.Text x10.Seen)).length [.flat, .flat, .flat, .flat, (.sl 2 1 [.flat])] ((List.set (List.set (List.set s3.2.2 (Int.toNat s3.1) (Op.mk s3.2.1 x7.Number x7.Key x7.Text x7.Seen)) (Int.toNat s3.1) (Op.mk x8.Office (w64 (s3.2.1 + 1)) x8.Key x8.Text x8.Seen)) (Int.toNat s3.1) (Op.mk x10.Office x10.Number x9 x10.Text x10.Seen)).map eOp))]⟩ ?_
  refine SRun.nil ?_
  refine nx_n ?_
  refine swp_seq ?_
  refine swp_reg ?_
  refine SRun.ck tbokGB 3 ⟨50, [(0, .own 1000000), (1, vi (w64 ((w64 ((w64 (s3.2.1 + 1)) + 1)) + 1))), (5, vi s3.1), (34, .own 1000000), (35, vi s3.1), (36, vi (w64 ((w64 ((w64 (s3.2.1 + 1)) + 1)) + 1)))], [(1000000, .deep 61 5 (List.set (List.set (List.set s3.2.2 (Int.toNat s3.1) (Op.mk s3.2.1 x7.Number x7.Key x7.Text x7.Seen)) (Int.toNat s3.1) (Op.mk x8.Office (w64 (s3.2.1 + 1)) x8.Key x8.Text x8.Seen)) (Int.toNat s3.1) (Op.mk x10.Office x10.Number x9 x10.Text x10.Seen)).length [.flat, .flat, .flat, .flat, (.sl 2 1 [.flat])] ((List.set (List.set (List.set s3.2.2 (Int.toNat s3.1) (Op.mk s3.2.1 x7.Number x7.Key x7.Text x7.Seen)) (Int.toNat s3.1) (Op.mk x8.Office (w64 (s3.2.1 + 1)) x8.Key x8.Text x8.Seen)) (Int.toNat s3.1) (Op.mk x10.Office x10.Number x9 x10.Text x10.Seen)).map eOp))]⟩ ?_
  obtain ⟨x11, hx11, h⟩ := bind_some h
  refine SRun.ls (x_lstep_call (f := 57) (caps := []) (xs := [vi (w64 ((w64 ((w64 (s3.2.1 + 1)) + 1)) + 1))]) (ys := [vi (w64 ((w64 ((w64 (s3.2.1 + 1)) + 1)) + 1))]) (res := ⟨[.v (vs x11)], [], false⟩) (x := vs x11) (y := none) rfl ents57 (laws_markText_run (w64 ((w64 ((w64 (s3.2.1 + 1)) + 1)) + 1)) _ hx11) rfl (by intro hc; cases hc)) ?_
  obtain ⟨x12, hx12, h⟩ := bind_some h
  refine SRun.ls (x_index_deep (d := 1000000) (L := (List.set (List.set (List.set s3.2.2 (Int.toNat s3.1) (Op.mk s3.2.1 x7.Number x7.Key x7.Text x7.Seen)) (Int.toNat s3.1) (Op.mk x8.Office (w64 (s3.2.1 + 1)) x8.Key x8.Text x8.Seen)) (Int.toNat s3.1) (Op.mk x10.Office x10.Number x9 x10.Text x10.Seen))) (f := eOp) (ti := ti25) (tj := ti61) (e := 61) (e' := 61) (m := 5) (k := .i64) (ss := [.flat, .flat, .flat, .flat, (.sl 2 1 [.flat])]) tbokGB rfl hx12) ?_
  refine SRun.ck tbokGB 1 ⟨50, [(0, .own 1000000), (1, vi (w64 ((w64 ((w64 (s3.2.1 + 1)) + 1)) + 1))), (5, vi s3.1), (37, vs x11), (39, .eref 1000000 5 (Int.toNat s3.1) 3)], [(1000000, .deep 61 5 (List.set (List.set (List.set s3.2.2 (Int.toNat s3.1) (Op.mk s3.2.1 x7.Number x7.Key x7.Text x7.Seen)) (Int.toNat s3.1) (Op.mk x8.Office (w64 (s3.2.1 + 1)) x8.Key x8.Text x8.Seen)) (Int.toNat s3.1) (Op.mk x10.Office x10.Number x9 x10.Text x10.Seen)).length [.flat, .flat, .flat, .flat, (.sl 2 1 [.flat])] ((List.set (List.set (List.set s3.2.2 (Int.toNat s3.1) (Op.mk s3.2.1 x7.Number x7.Key x7.Text x7.Seen)) (Int.toNat s3.1) (Op.mk x8.Office (w64 (s3.2.1 + 1)) x8.Key x8.Text x8.Seen)) (Int.toNat s3.1) (Op.mk x10.Office x10.Number x9 x10.Text x10.Seen)).map eOp))]⟩ ?_
  refine SRun.estep (x_store_deep (d := 1000000) (m := 5) (j := 3) (L := (List.set (List.set (List.set s3.2.2 (Int.toNat s3.1) (Op.mk s3.2.1 x7.Number x7.Key x7.Text x7.Seen)) (Int.toNat s3.1) (Op.mk x8.Office (w64 (s3.2.1 + 1)) x8.Key x8.Text x8.Seen)) (Int.toNat s3.1) (Op.mk x10.Office x10.Number x9 x10.Text x10.Seen))) (f := eOp) (x := (Op.mk x12.Office x12.Number x12.Key x11 x12.Seen)) (z := x12) (ti := ti9) (e := 61) (ss := [.flat, .flat, .flat, .flat, (.sl 2 1 [.flat])]) (ss2 := [.flat]) (ts := [.str x11]) (vs := [vs x11]) (v := vs x11) (ds := []) tbokGB rfl rfl hx12 (.cons _ _ _ [] _ _ _ _ (.flat (.str x11) rfl) .nil (by decide))) ?_
  refine SRun.nil ?_
  refine nx_n ?_
  refine swp_seq ?_
  refine swp_reg ?_
  refine SRun.ck tbokGB 3 ⟨50, [(0, .own 1000000), (1, vi (w64 ((w64 ((w64 ((w64 (s3.2.1 + 1)) + 1)) + 1)) + 1))), (5, vi s3.1)], [(1000000, .deep 61 5 (List.set (List.set (List.set (List.set s3.2.2 (Int.toNat s3.1) (Op.mk s3.2.1 x7.Number x7.Key x7.Text x7.Seen)) (Int.toNat s3.1) (Op.mk x8.Office (w64 (s3.2.1 + 1)) x8.Key x8.Text x8.Seen)) (Int.toNat s3.1) (Op.mk x10.Office x10.Number x9 x10.Text x10.Seen)) (Int.toNat s3.1) (Op.mk x12.Office x12.Number x12.Key x11 x12.Seen)).length [.flat, .flat, .flat, .flat, (.sl 2 1 [.flat])] ((List.set (List.set (List.set (List.set s3.2.2 (Int.toNat s3.1) (Op.mk s3.2.1 x7.Number x7.Key x7.Text x7.Seen)) (Int.toNat s3.1) (Op.mk x8.Office (w64 (s3.2.1 + 1)) x8.Key x8.Text x8.Seen)) (Int.toNat s3.1) (Op.mk x10.Office x10.Number x9 x10.Text x10.Seen)) (Int.toNat s3.1) (Op.mk x12.Office x12.Number x12.Key x11 x12.Seen)).map eOp))]⟩ ?_
  refine SRun.nil ?_
  refine nx_n ?_
  refine swp_reg ?_
  refine SRun.ck tbokGB 2 ⟨50, [(0, .own 1000000), (1, vi (w64 ((w64 ((w64 ((w64 (s3.2.1 + 1)) + 1)) + 1)) + 1))), (5, vi s3.1), (42, .own 1000000), (43, vi s3.1)], [(1000000, .deep 61 5 (List.set (List.set (List.set (List.set s3.2.2 (Int.toNat s3.1) (Op.mk s3.2.1 x7.Number x7.Key x7.Text x7.Seen)) (Int.toNat s3.1) (Op.mk x8.Office (w64 (s3.2.1 + 1)) x8.Key x8.Text x8.Seen)) (Int.toNat s3.1) (Op.mk x10.Office x10.Number x9 x10.Text x10.Seen)) (Int.toNat s3.1) (Op.mk x12.Office x12.Number x12.Key x11 x12.Seen)).length [.flat, .flat, .flat, .flat, (.sl 2 1 [.flat])] ((List.set (List.set (List.set (List.set s3.2.2 (Int.toNat s3.1) (Op.mk s3.2.1 x7.Number x7.Key x7.Text x7.Seen)) (Int.toNat s3.1) (Op.mk x8.Office (w64 (s3.2.1 + 1)) x8.Key x8.Text x8.Seen)) (Int.toNat s3.1) (Op.mk x10.Office x10.Number x9 x10.Text x10.Seen)) (Int.toNat s3.1) (Op.mk x12.Office x12.Number x12.Key x11 x12.Seen)).map eOp))]⟩ ?_
  obtain ⟨x13, hx13, h⟩ := bind_some h
  refine SRun.ls (x_index_deep (d := 1000000) (L := (List.set (List.set (List.set (List.set s3.2.2 (Int.toNat s3.1) (Op.mk s3.2.1 x7.Number x7.Key x7.Text x7.Seen)) (Int.toNat s3.1) (Op.mk x8.Office (w64 (s3.2.1 + 1)) x8.Key x8.Text x8.Seen)) (Int.toNat s3.1) (Op.mk x10.Office x10.Number x9 x10.Text x10.Seen)) (Int.toNat s3.1) (Op.mk x12.Office x12.Number x12.Key x11 x12.Seen))) (f := eOp) (ti := ti25) (tj := ti61) (e := 61) (e' := 61) (m := 5) (k := .i64) (ss := [.flat, .flat, .flat, .flat, (.sl 2 1 [.flat])]) tbokGB rfl hx13) ?_
  refine SRun.ck tbokGB 1 ⟨50, [(0, .own 1000000), (1, vi (w64 ((w64 ((w64 ((w64 (s3.2.1 + 1)) + 1)) + 1)) + 1))), (5, vi s3.1), (45, .eref 1000000 5 (Int.toNat s3.1) 4)], [(1000000, .deep 61 5 (List.set (List.set (List.set (List.set s3.2.2 (Int.toNat s3.1) (Op.mk s3.2.1 x7.Number x7.Key x7.Text x7.Seen)) (Int.toNat s3.1) (Op.mk x8.Office (w64 (s3.2.1 + 1)) x8.Key x8.Text x8.Seen)) (Int.toNat s3.1) (Op.mk x10.Office x10.Number x9 x10.Text x10.Seen)) (Int.toNat s3.1) (Op.mk x12.Office x12.Number x12.Key x11 x12.Seen)).length [.flat, .flat, .flat, .flat, (.sl 2 1 [.flat])] ((List.set (List.set (List.set (List.set s3.2.2 (Int.toNat s3.1) (Op.mk s3.2.1 x7.Number x7.Key x7.Text x7.Seen)) (Int.toNat s3.1) (Op.mk x8.Office (w64 (s3.2.1 + 1)) x8.Key x8.Text x8.Seen)) (Int.toNat s3.1) (Op.mk x10.Office x10.Number x9 x10.Text x10.Seen)) (Int.toNat s3.1) (Op.mk x12.Office x12.Number x12.Key x11 x12.Seen)).map eOp))]⟩ ?_
  refine SRun.estep (x_split (L := (List.set (List.set (List.set (List.set s3.2.2 (Int.toNat s3.1) (Op.mk s3.2.1 x7.Number x7.Key x7.Text x7.Seen)) (Int.toNat s3.1) (Op.mk x8.Office (w64 (s3.2.1 + 1)) x8.Key x8.Text x8.Seen)) (Int.toNat s3.1) (Op.mk x10.Office x10.Number x9 x10.Text x10.Seen)) (Int.toNat s3.1) (Op.mk x12.Office x12.Number x12.Key x11 x12.Seen))) (f := eOp) (d := 1000000) (k := 2000046) (e := 61) (m := 5) (j := 4) (e' := 2) (m' := 1) (n' := x13.Seen.length) (ss := [.flat, .flat, .flat, .flat, (.sl 2 1 [.flat])]) (ss' := [.flat]) (es' := x13.Seen.map (eI .i64)) (ti := ti32) (y := .arr 2 1 x13.Seen.length (x13.Seen.map (eI .i64))) hx13 tbokGB rfl rfl (.inr ⟨rfl, rfl⟩)) ?_
  refine SRun.ck tbokGB 1 ⟨50, [(0, .own 1000000), (5, vi s3.1), (46, .own 2000046), (47, vi (w64 ((w64 ((w64 ((w64 (s3.2.1 + 1)) + 1)) + 1)) + 1)))], [(1000000, .hol 61 5 (List.set (List.set (List.set (List.set s3.2.2 (Int.toNat s3.1) (Op.mk s3.2.1 x7.Number x7.Key x7.Text x7.Seen)) (Int.toNat s3.1) (Op.mk x8.Office (w64 (s3.2.1 + 1)) x8.Key x8.Text x8.Seen)) (Int.toNat s3.1) (Op.mk x10.Office x10.Number x9 x10.Text x10.Seen)) (Int.toNat s3.1) (Op.mk x12.Office x12.Number x12.Key x11 x12.Seen)).length [.flat, .flat, .flat, .flat, (.sl 2 1 [.flat])] ((List.set (List.set (List.set (List.set s3.2.2 (Int.toNat s3.1) (Op.mk s3.2.1 x7.Number x7.Key x7.Text x7.Seen)) (Int.toNat s3.1) (Op.mk x8.Office (w64 (s3.2.1 + 1)) x8.Key x8.Text x8.Seen)) (Int.toNat s3.1) (Op.mk x10.Office x10.Number x9 x10.Text x10.Seen)) (Int.toNat s3.1) (Op.mk x12.Office x12.Number x12.Key x11 x12.Seen)).map eOp) (Int.toNat s3.1) 4 2000046), (2000046, .arr 2 1 x13.Seen.length (x13.Seen.map (eI .i64)))]⟩ ?_
  obtain ⟨x14, hx14, h⟩ := bind_some h
  refine SRun.estep (x_estep_call (f := 23) (caps := []) (xs := [.own 2000046, vi (w64 ((w64 ((w64 ((w64 (s3.2.1 + 1)) + 1)) + 1)) + 1))]) (pre := []) (post := [vi (w64 ((w64 ((w64 ((w64 (s3.2.1 + 1)) + 1)) + 1)) + 1))]) (qs := [vi (w64 ((w64 ((w64 ((w64 (s3.2.1 + 1)) + 1)) + 1)) + 1))]) (z := .own 2000046) (d := 2000046) (pl := 0) (y := .arr 2 1 x13.Seen.length (x13.Seen.map (eI .i64))) (y' := .arr 2 1 x14.2.length (x14.2.map (eI .i64))) (res := ⟨[.v (vi x14.1)], [(0, .arr 2 1 x14.2.length (x14.2.map (eI .i64)))], false⟩) (x := vi x14.1) (yo := none) rfl rfl rfl rfl rfl ents23 (laws_markInt64S_run x13.Seen (w64 ((w64 ((w64 ((w64 (s3.2.1 + 1)) + 1)) + 1)) + 1)) _ hx14) rfl rfl false (fun _ => rfl) (by intro hc; cases hc)) ?_
  refine SRun.le (x_join (L := (List.set (List.set (List.set (List.set s3.2.2 (Int.toNat s3.1) (Op.mk s3.2.1 x7.Number x7.Key x7.Text x7.Seen)) (Int.toNat s3.1) (Op.mk x8.Office (w64 (s3.2.1 + 1)) x8.Key x8.Text x8.Seen)) (Int.toNat s3.1) (Op.mk x10.Office x10.Number x9 x10.Text x10.Seen)) (Int.toNat s3.1) (Op.mk x12.Office x12.Number x12.Key x11 x12.Seen))) (f := eOp) (x' := (Op.mk x13.Office x13.Number x13.Key x13.Text x14.2)) (d := 1000000) (k := 2000046) (e := 61) (m := 5) (j := 4) (e' := 2) (m' := 1) (n' := x14.2.length) (ss := [.flat, .flat, .flat, .flat, (.sl 2 1 [.flat])]) (ss' := [.flat]) (es' := x14.2.map (eI .i64)) hx13 (flat_map (eI_flat .i64) _)) ?_
  refine SRun.ck tbokGB 1 ⟨50, [(0, .own 1000000), (1, vi x14.1), (5, vi s3.1)], [(1000000, .deep 61 5 (List.set (List.set (List.set (List.set (List.set s3.2.2 (Int.toNat s3.1) (Op.mk s3.2.1 x7.Number x7.Key x7.Text x7.Seen)) (Int.toNat s3.1) (Op.mk x8.Office (w64 (s3.2.1 + 1)) x8.Key x8.Text x8.Seen)) (Int.toNat s3.1) (Op.mk x10.Office x10.Number x9 x10.Text x10.Seen)) (Int.toNat s3.1) (Op.mk x12.Office x12.Number x12.Key x11 x12.Seen)) (Int.toNat s3.1) (Op.mk x13.Office x13.Number x13.Key x13.Text x14.2)).length [.flat, .flat, .flat, .flat, (.sl 2 1 [.flat])] ((List.set (List.set (List.set (List.set (List.set s3.2.2 (Int.toNat s3.1) (Op.mk s3.2.1 x7.Number x7.Key x7.Text x7.Seen)) (Int.toNat s3.1) (Op.mk x8.Office (w64 (s3.2.1 + 1)) x8.Key x8.Text x8.Seen)) (Int.toNat s3.1) (Op.mk x10.Office x10.Number x9 x10.Text x10.Seen)) (Int.toNat s3.1) (Op.mk x12.Office x12.Number x12.Key x11 x12.Seen)) (Int.toNat s3.1) (Op.mk x13.Office x13.Number x13.Key x13.Text x14.2)).map eOp))]⟩ ?_
  refine SRun.nil ?_
  replace h := Option.some.inj h
  subst h
  exact q_bn (q_j (Le.sub0))
  refine swp_reg ?_
  refine SRun.ck tbokGB 3 ⟨50, [(0, .own 1000000), (1, vi j5.1), (5, vi (w64 (s3.1 + 1)))], [(1000000, .deep 61 5 j5.2.length [.flat, .flat, .flat, .flat, (.sl 2 1 [.flat])] (j5.2.map eOp))]⟩ ?_
  refine SRun.nil ?_
  replace h := Option.some.inj h
  subst h
  exact q_l (Le.sub0)
  replace h := cond_f hb h
  refine swp_exit ?_
  replace h := Option.some.inj h
  subst h
  exact nx_e (q_re (q_bh (q_j (Le.sub0))))
  refine swp_seq ?_
  refine swp_reg ?_
  refine SRun.ck tbokGB 2 ⟨50, [(4, vi j1.1)], [(1000000, .deep 61 5 j1.2.length [.flat, .flat, .flat, .flat, (.sl 2 1 [.flat])] (j1.2.map eOp))]⟩ ?_
  refine SRun.nil ?_
  refine nx_n ?_
  refine swp_ret ?_
  replace h := Option.some.inj h
  subst h
  exact q_fr (fin_io (fin1 (by kernel_rfl) (finV rfl SV.flat_of (holds_t (by kernel_rfl)))) (y := .deep 61 5 j1.2.length [.flat, .flat, .flat, .flat, (.sl 2 1 [.flat])] (j1.2.map eOp)) (by kernel_rfl) rfl (by kernel_rfl) (by kernel_rfl))
theorem ents22 : Ents Tryd.prog 22 := ents_of Tryd.func22 (by kernel_rfl) rfl
noncomputable def laws_heldInt64S (aA : (List Int)) (aK : Int) : Option (Int) :=
  (((forN (aA.length : Int) (fun (i3 : Int) (s3 : Int) => ((at' aA i3).bind fun x7 => (bif (x7 != s3) then some (.inr (.inr (-1))) else some (.inl (w64 (s3 + 1)))))) (fun (s3 : Int) => .inl s3) 0 aK)).bind (Sum.elim (fun (j1 : Int) => some j1) some))
set_option maxRecDepth 100000 in
set_option maxHeartbeats 4000000 in
theorem laws_heldInt64S_run (aA : (List Int)) (aK : Int) (r : Int) (h : laws_heldInt64S aA aK = some r) : SCall Tryd.prog 24 [.v (vl (eI .i64) aA), .v (vi aK)] ⟨[.v (vi r)], [], false⟩ := by
  refine scall_in Tryd.func24 rfl [(.tmp 4)] rfl (fun r => ⟨[.v (vi r)], [], false⟩) (r := r) ?_
  unfold laws_heldInt64S at h
  refine swp_seq ?_
  refine swp_reg ?_
  refine SRun.ck tbokGB 1 ⟨21, [(0, vl (eI .i64) aA), (1, vi aK)], []⟩ ?_
  refine SRun.nil ?_
  refine nx_n ?_
  refine swp_seq ?_
  refine swp_seq ?_
  refine swp_reg ?_
  refine SRun.ck tbokGB 1 ⟨21, [(0, vl (eI .i64) aA), (1, vi aK), (5, vi 0)], []⟩ ?_
  refine SRun.nil ?_
  refine nx_n ?_
  refine swp_seqE (r := r) h (fun j1 => ⟨21, [(1, vi j1)], []⟩) (fun v2 h => ?_) (fun j1 h => ?_)
  refine swp_blk (a := v2) ?_
  refine swp_lpL (r := v2) (s := (0, aK)) _ (fun s3 => ⟨21, [(0, vl (eI .i64) aA), (1, vi s3.2), (5, vi s3.1)], []⟩) _ (Le.sub0) h (fun s3 v4 h => ?_)
  refine swp_seq ?_
  refine swp_seq ?_
  refine swp_reg ?_
  refine SRun.ck tbokGB 4 ⟨21, [(0, vl (eI .i64) aA), (1, vi s3.2), (5, vi s3.1), (9, vb (decide (s3.1 < (aA.length : Int))))], []⟩ ?_
  refine SRun.nil ?_
  refine nx_n ?_
  refine swp_cond (b := (decide (s3.1 < (aA.length : Int)))) (by kernel_rfl) (fun hb => ?_) (fun hb => ?_)
  replace h := cond_t hb h
  refine swp_skip ?_
  refine nx_n ?_
  refine swp_seq ?_
  refine swp_seqL (r := v4) h (fun j5 => ⟨21, [(0, vl (eI .i64) aA), (1, vi j5), (5, vi s3.1)], []⟩) (fun v6 h => ?_) (fun j5 h => ?_)
  refine swp_blk (a := v6) ?_
  refine swp_seq ?_
  refine swp_seq ?_
  refine swp_reg ?_
  refine SRun.ck tbokGB 2 ⟨21, [(0, vl (eI .i64) aA), (1, vi s3.2), (5, vi s3.1), (12, vl (eI .i64) aA), (13, vi s3.1)], []⟩ ?_
  obtain ⟨x7, hx7, h⟩ := bind_some h
  refine SRun.ls (x_index (L := aA) (f := (eI .i64)) (ti := ti32) (tj := ti2) (e := 2) (k := .i64) tbokGB rfl hx7) ?_
  refine SRun.ck tbokGB 3 ⟨21, [(0, vl (eI .i64) aA), (1, vi s3.2), (5, vi s3.1), (17, vb (x7 != s3.2))], []⟩ ?_
  refine SRun.nil ?_
  refine nx_n ?_
  refine swp_cond (b := (x7 != s3.2)) (by kernel_rfl) (fun hb => ?_) (fun hb => ?_)
  replace h := cond_t hb h
  refine swp_seq ?_
  refine swp_reg ?_
  refine SRun.ck tbokGB 1 ⟨21, [(4, vi (-1))], []⟩ ?_
  refine SRun.nil ?_
  refine nx_n ?_
  refine swp_ret ?_
  replace h := Option.some.inj h
  subst h
  exact nx_r (q_br (q_rr (q_rr (q_br (q_rr (q_fr (fin1 (by kernel_rfl) (finV rfl SV.flat_of (holds_t (by kernel_rfl))))))))))
  replace h := cond_f hb h
  refine swp_skip ?_
  refine nx_n ?_
  refine swp_reg ?_
  refine SRun.ck tbokGB 3 ⟨21, [(0, vl (eI .i64) aA), (1, vi (w64 (s3.2 + 1))), (5, vi s3.1)], []⟩ ?_
  refine SRun.nil ?_
  replace h := Option.some.inj h
  subst h
  exact q_bn (q_l (Le.sub0))
  refine swp_reg ?_
  refine SRun.ck tbokGB 3 ⟨21, [(0, vl (eI .i64) aA), (1, vi j5), (5, vi (w64 (s3.1 + 1)))], []⟩ ?_
  refine SRun.nil ?_
  replace h := Option.some.inj h
  subst h
  exact q_l (Le.sub0)
  replace h := cond_f hb h
  refine swp_exit ?_
  replace h := Option.some.inj h
  subst h
  exact nx_e (q_re (q_bh (q_l (Le.sub0))))
  refine swp_seq ?_
  refine swp_reg ?_
  refine SRun.ck tbokGB 2 ⟨21, [(4, vi j1)], []⟩ ?_
  refine SRun.nil ?_
  refine nx_n ?_
  refine swp_ret ?_
  replace h := Option.some.inj h
  subst h
  exact q_fr (fin1 (by kernel_rfl) (finV rfl SV.flat_of (holds_t (by kernel_rfl))))
theorem ents24 : Ents Tryd.prog 24 := ents_of Tryd.func24 (by kernel_rfl) rfl
noncomputable def laws_FnExactVectorOf (aALog : (List Op)) : Option (Bool) :=
  ((laws_szOpS aALog 1048576).bind fun x1 => (bif (decide (x1 < 0)) then some true else ((laws_toOpS aALog).bind fun x2 => ((spec_VectorOf x2).bind fun x3 => ((laws_toOpS aALog).bind fun x4 => ((impl_VectorOf x4).bind fun x5 => ((((laws_eqInt64S x5.1 x3.1).bind fun x6 => (bif (!x6) then some true else some (x5.2 != x3.2)))).bind fun (j7 : Bool) => (bif j7 then some false else ((laws_toOpS aALog).bind fun x9 => ((laws_eqOpS x4 x9).bind fun x10 => (bif (!x10) then some false else ((laws_markOpS x4 1).bind fun x11 => (((bif (decide (x11.1 < 0)) then some true else ((laws_eqInt64S x5.1 x3.1).bind fun x12 => (bif (!x12) then some true else some (x5.2 != x3.2))))).bind fun (j13 : Bool) => (bif j13 then some false else ((laws_markInt64S x5.1 1).bind fun x15 => ((laws_heldInt64S x15.2 1).bind fun x16 => (bif (decide (x16 < 0)) then some false else (bif (x16 != x15.1) then some false else ((laws_toOpS aALog).bind fun x17 => ((impl_VectorOf x17).bind fun x18 => ((((laws_eqInt64S x18.1 x3.1).bind fun x19 => (bif (!x19) then some true else some (x18.2 != x3.2)))).bind fun (j20 : Bool) => (bif j20 then some false else ((laws_heldInt64S x15.2 1).bind fun x22 => (bif (decide (x22 < 0)) then some false else (bif (x22 != x15.1) then some false else some true)))))))))))))))))))))))))
set_option maxRecDepth 100000 in
set_option maxHeartbeats 4000000 in
theorem laws_FnExactVectorOf_run (aALog : (List Op)) (r : Bool) (h : laws_FnExactVectorOf aALog = some r) : SCall Tryd.prog 5 [.v (vl eOp aALog)] ⟨[.v (vb r)], [], false⟩ := by
  refine scall_in Tryd.func5 rfl [(.tmp 2)] rfl (fun r => ⟨[.v (vb r)], [], false⟩) (r := r) ?_
  unfold laws_FnExactVectorOf at h
  refine swp_seq ?_
  refine swp_reg ?_
  refine SRun.ck tbokGB 1 ⟨96, [(0, vl eOp aALog)], []⟩ ?_
  refine SRun.nil ?_
  refine nx_n ?_
  refine swp_seq ?_
  refine swp_reg ?_
  refine SRun.ck tbokGB 1 ⟨96, [(0, vl eOp aALog), (3, vi 1048576)], []⟩ ?_
  refine SRun.nil ?_
  refine nx_n ?_
  refine swp_seq ?_
  refine swp_reg ?_
  refine SRun.ck tbokGB 2 ⟨96, [(0, vl eOp aALog), (14, vl eOp aALog), (15, vi 1048576)], []⟩ ?_
  obtain ⟨x1, hx1, h⟩ := bind_some h
  refine SRun.ls (x_lstep_call (f := 12) (caps := []) (xs := [vl eOp aALog, vi 1048576]) (ys := [vl eOp aALog, vi 1048576]) (res := ⟨[.v (vi x1)], [], false⟩) (x := vi x1) (y := none) rfl ents12 (laws_szOpS_run aALog 1048576 _ hx1) rfl (by intro hc; cases hc)) ?_
  refine SRun.ck tbokGB 1 ⟨96, [(0, vl eOp aALog), (3, vi x1)], []⟩ ?_
  refine SRun.nil ?_
  refine nx_n ?_
  refine swp_seq ?_
  refine swp_seq ?_
  refine swp_reg ?_
  refine SRun.ck tbokGB 2 ⟨96, [(0, vl eOp aALog), (18, vb (decide (x1 < 0)))], []⟩ ?_
  refine SRun.nil ?_
  refine nx_n ?_
  refine swp_cond (b := (decide (x1 < 0))) (by kernel_rfl) (fun hb => ?_) (fun hb => ?_)
  replace h := cond_t hb h
  refine swp_seq ?_
  refine swp_reg ?_
  refine SRun.ck tbokGB 1 ⟨96, [(2, vb true)], []⟩ ?_
  refine SRun.nil ?_
  refine nx_n ?_
  refine swp_ret ?_
  replace h := Option.some.inj h
  subst h
  exact nx_r (q_fr (fin1 (by kernel_rfl) (finV rfl SV.flat_of (holds_t (by kernel_rfl)))))
  replace h := cond_f hb h
  refine swp_skip ?_
  refine nx_n ?_
  refine swp_seq ?_
  refine swp_reg ?_
  refine SRun.ck tbokGB 1 ⟨96, [(0, vl eOp aALog), (20, vl eOp aALog)], []⟩ ?_
  obtain ⟨x2, hx2, h⟩ := bind_some h
  refine SRun.ls (x_lstep_call (f := 14) (caps := []) (xs := [vl eOp aALog]) (ys := [vl eOp aALog]) (res := ⟨[.deep 61 5 x2.length [.flat, .flat, .flat, .flat, (.sl 2 1 [.flat])] (x2.map eOp)], [], false⟩) (x := .own 21) (y := some (.deep 61 5 x2.length [.flat, .flat, .flat, .flat, (.sl 2 1 [.flat])] (x2.map eOp))) rfl ents14 (laws_toOpS_run aALog _ hx2) rfl (by intro hc; cases hc)) ?_
  obtain ⟨x3, hx3, h⟩ := bind_some h
  refine SRun.ls (x_lstep_call (f := 19) (caps := []) (xs := [.own 21]) (ys := [vl eOp x2]) (res := ⟨[.own 2 1 x3.1.length (x3.1.map (eI .i64)), .v (vi x3.2)], [], false⟩) (x := .tup [.own 22, vi x3.2]) (y := some (.arr 2 1 x3.1.length (x3.1.map (eI .i64)))) rfl ents19 (spec_VectorOf_run x2 _ hx3) rfl (by intro hc; cases hc)) ?_
  refine SRun.ck tbokGB 5 ⟨96, [(0, vl eOp aALog), (4, .own 22), (5, vi x3.2)], [(22, .arr 2 1 x3.1.length (x3.1.map (eI .i64)))]⟩ ?_
  refine SRun.nil ?_
  refine nx_n ?_
  refine swp_seq ?_
  refine swp_reg ?_
  refine SRun.ck tbokGB 1 ⟨96, [(0, vl eOp aALog), (4, .own 22), (5, vi x3.2), (25, vl eOp aALog)], [(22, .arr 2 1 x3.1.length (x3.1.map (eI .i64)))]⟩ ?_
  obtain ⟨x4, hx4, h⟩ := bind_some h
  refine SRun.ls (x_lstep_call (f := 14) (caps := []) (xs := [vl eOp aALog]) (ys := [vl eOp aALog]) (res := ⟨[.deep 61 5 x4.length [.flat, .flat, .flat, .flat, (.sl 2 1 [.flat])] (x4.map eOp)], [], false⟩) (x := .own 26) (y := some (.deep 61 5 x4.length [.flat, .flat, .flat, .flat, (.sl 2 1 [.flat])] (x4.map eOp))) rfl ents14 (laws_toOpS_run aALog _ hx4) rfl (by intro hc; cases hc)) ?_
  refine SRun.ck tbokGB 1 ⟨96, [(0, vl eOp aALog), (4, .own 22), (5, vi x3.2), (6, .own 26)], [(22, .arr 2 1 x3.1.length (x3.1.map (eI .i64))), (26, .deep 61 5 x4.length [.flat, .flat, .flat, .flat, (.sl 2 1 [.flat])] (x4.map eOp))]⟩ ?_
  refine SRun.nil ?_
  refine nx_n ?_
  refine swp_seq ?_
  refine swp_reg ?_
  refine SRun.ck tbokGB 1 ⟨96, [(0, vl eOp aALog), (4, .own 22), (5, vi x3.2), (6, .own 26), (28, .own 26)], [(22, .arr 2 1 x3.1.length (x3.1.map (eI .i64))), (26, .deep 61 5 x4.length [.flat, .flat, .flat, .flat, (.sl 2 1 [.flat])] (x4.map eOp))]⟩ ?_
  obtain ⟨x5, hx5, h⟩ := bind_some h
  refine SRun.ls (x_lstep_call (f := 20) (caps := []) (xs := [.own 26]) (ys := [vl eOp x4]) (res := ⟨[.own 2 1 x5.1.length (x5.1.map (eI .i64)), .v (vi x5.2)], [], false⟩) (x := .tup [.own 29, vi x5.2]) (y := some (.arr 2 1 x5.1.length (x5.1.map (eI .i64)))) rfl ents20 (impl_VectorOf_run x4 _ hx5) rfl (by intro hc; cases hc)) ?_
  refine SRun.ck tbokGB 5 ⟨96, [(0, vl eOp aALog), (4, .own 22), (5, vi x3.2), (6, .own 26), (7, .own 29), (8, vi x5.2)], [(22, .arr 2 1 x3.1.length (x3.1.map (eI .i64))), (26, .deep 61 5 x4.length [.flat, .flat, .flat, .flat, (.sl 2 1 [.flat])] (x4.map eOp)), (29, .arr 2 1 x5.1.length (x5.1.map (eI .i64)))]⟩ ?_
  refine SRun.nil ?_
  refine nx_n ?_
  refine swp_seq ?_
  refine swp_seq ?_
  refine swp_regJ h (fun j7 => ⟨96, [(0, vl eOp aALog), (4, .own 4), (5, vi x3.2), (6, .own 6), (7, .own 7), (8, vi x5.2), (40, vb j7)], [(4, .arr 2 1 x3.1.length (x3.1.map (eI .i64))), (6, .deep 61 5 x4.length [.flat, .flat, .flat, .flat, (.sl 2 1 [.flat])] (x4.map eOp)), (7, .arr 2 1 x5.1.length (x5.1.map (eI .i64)))]⟩) (fun v8 h => ?_) (fun j7 h => ?_)
  refine SRun.ck tbokGB 2 ⟨96, [(0, vl eOp aALog), (4, .own 22), (5, vi x3.2), (6, .own 26), (7, .own 29), (8, vi x5.2), (32, .own 29), (33, .own 22)], [(22, .arr 2 1 x3.1.length (x3.1.map (eI .i64))), (26, .deep 61 5 x4.length [.flat, .flat, .flat, .flat, (.sl 2 1 [.flat])] (x4.map eOp)), (29, .arr 2 1 x5.1.length (x5.1.map (eI .i64)))]⟩ ?_
  obtain ⟨x6, hx6, h⟩ := bind_some h
  refine SRun.ls (x_lstep_call (f := 21) (caps := []) (xs := [.own 29, .own 22]) (ys := [vl (eI .i64) x5.1, vl (eI .i64) x3.1]) (res := ⟨[.v (vb x6)], [], false⟩) (x := vb x6) (y := none) rfl ents21 (laws_eqInt64S_run x5.1 x3.1 _ hx6) rfl (by intro hc; cases hc)) ?_
  refine SRun.ck tbokGB 2 ⟨96, [(0, vl eOp aALog), (4, .own 22), (5, vi x3.2), (6, .own 26), (7, .own 29), (8, vi x5.2), (36, vb (!x6))], [(22, .arr 2 1 x3.1.length (x3.1.map (eI .i64))), (26, .deep 61 5 x4.length [.flat, .flat, .flat, .flat, (.sl 2 1 [.flat])] (x4.map eOp)), (29, .arr 2 1 x5.1.length (x5.1.map (eI .i64)))]⟩ ?_
  refine SRun.cut [(36, fun b => b)] (b := (!x6)) (by kernel_rfl) (fun hb => ?_) (fun hb => ?_)
  replace h := cond_t hb h
  refine SRun.ck tbokGB 4 ⟨96, [(0, vl eOp aALog), (4, .own 22), (5, vi x3.2), (6, .own 26), (7, .own 29), (8, vi x5.2), (40, vb true)], [(22, .arr 2 1 x3.1.length (x3.1.map (eI .i64))), (26, .deep 61 5 x4.length [.flat, .flat, .flat, .flat, (.sl 2 1 [.flat])] (x4.map eOp)), (29, .arr 2 1 x5.1.length (x5.1.map (eI .i64)))]⟩ ?_
  refine SRun.nil ?_
  replace h := Option.some.inj h
  subst h
  exact (Le.sub' ([(0, vl eOp aALog), (4, .own 22), (5, vi x3.2), (6, .own 26), (7, .own 29), (8, vi x5.2), (40, vb true)] : List (Nat × SV)) ([(22, .arr 2 1 x3.1.length (x3.1.map (eI .i64))), (26, .deep 61 5 x4.length [.flat, .flat, .flat, .flat, (.sl 2 1 [.flat])] (x4.map eOp)), (29, .arr 2 1 x5.1.length (x5.1.map (eI .i64)))] : List (Nat × SO)) (by kernel_rfl) (by kernel_rfl)).trans ((Le.ren' (d := 22) (e := 4) (by kernel_rfl) (by kernel_rfl) (by kernel_rfl)).trans ((Le.ren' (d := 26) (e := 6) (by kernel_rfl) (by kernel_rfl) (by kernel_rfl)).trans ((Le.ren' (d := 29) (e := 7) (by kernel_rfl) (by kernel_rfl) (by kernel_rfl)).trans (Le.sub0))))
  replace h := cond_f hb h
  refine SRun.ck tbokGB 4 ⟨96, [(0, vl eOp aALog), (4, .own 22), (5, vi x3.2), (6, .own 26), (7, .own 29), (8, vi x5.2), (40, vb (x5.2 != x3.2))], [(22, .arr 2 1 x3.1.length (x3.1.map (eI .i64))), (26, .deep 61 5 x4.length [.flat, .flat, .flat, .flat, (.sl 2 1 [.flat])] (x4.map eOp)), (29, .arr 2 1 x5.1.length (x5.1.map (eI .i64)))]⟩ ?_
  refine SRun.nil ?_
  replace h := Option.some.inj h
  subst h
  exact (Le.sub' ([(0, vl eOp aALog), (4, .own 22), (5, vi x3.2), (6, .own 26), (7, .own 29), (8, vi x5.2), (40, vb (x5.2 != x3.2))] : List (Nat × SV)) ([(22, .arr 2 1 x3.1.length (x3.1.map (eI .i64))), (26, .deep 61 5 x4.length [.flat, .flat, .flat, .flat, (.sl 2 1 [.flat])] (x4.map eOp)), (29, .arr 2 1 x5.1.length (x5.1.map (eI .i64)))] : List (Nat × SO)) (by kernel_rfl) (by kernel_rfl)).trans ((Le.ren' (d := 22) (e := 4) (by kernel_rfl) (by kernel_rfl) (by kernel_rfl)).trans ((Le.ren' (d := 26) (e := 6) (by kernel_rfl) (by kernel_rfl) (by kernel_rfl)).trans ((Le.ren' (d := 29) (e := 7) (by kernel_rfl) (by kernel_rfl) (by kernel_rfl)).trans (Le.sub0))))
  refine swp_cond (b := j7) (by kernel_rfl) (fun hb => ?_) (fun hb => ?_)
  replace h := cond_t hb h
  refine swp_seq ?_
  refine swp_reg ?_
  refine SRun.ck tbokGB 1 ⟨96, [(2, vb false)], []⟩ ?_
  refine SRun.nil ?_
  refine nx_n ?_
  refine swp_ret ?_
  replace h := Option.some.inj h
  subst h
  exact nx_r (q_fr (fin1 (by kernel_rfl) (finV rfl SV.flat_of (holds_t (by kernel_rfl)))))
  replace h := cond_f hb h
  refine swp_skip ?_
  refine nx_n ?_
  refine swp_seq ?_
  refine swp_seq ?_
  refine swp_reg ?_
  refine SRun.ck tbokGB 2 ⟨96, [(0, vl eOp aALog), (4, .own 4), (5, vi x3.2), (6, .own 6), (7, .own 7), (8, vi x5.2), (41, .own 6), (42, vl eOp aALog)], [(4, .arr 2 1 x3.1.length (x3.1.map (eI .i64))), (6, .deep 61 5 x4.length [.flat, .flat, .flat, .flat, (.sl 2 1 [.flat])] (x4.map eOp)), (7, .arr 2 1 x5.1.length (x5.1.map (eI .i64)))]⟩ ?_
  obtain ⟨x9, hx9, h⟩ := bind_some h
  refine SRun.ls (x_lstep_call (f := 14) (caps := []) (xs := [vl eOp aALog]) (ys := [vl eOp aALog]) (res := ⟨[.deep 61 5 x9.length [.flat, .flat, .flat, .flat, (.sl 2 1 [.flat])] (x9.map eOp)], [], false⟩) (x := .own 43) (y := some (.deep 61 5 x9.length [.flat, .flat, .flat, .flat, (.sl 2 1 [.flat])] (x9.map eOp))) rfl ents14 (laws_toOpS_run aALog _ hx9) rfl (by intro hc; cases hc)) ?_
  obtain ⟨x10, hx10, h⟩ := bind_some h
  refine SRun.ls (x_lstep_call (f := 16) (caps := []) (xs := [.own 6, .own 43]) (ys := [vl eOp x4, vl eOp x9]) (res := ⟨[.v (vb x10)], [], false⟩) (x := vb x10) (y := none) rfl ents16 (laws_eqOpS_run x4 x9 _ hx10) rfl (by intro hc; cases hc)) ?_
  refine SRun.ck tbokGB 1 ⟨96, [(0, vl eOp aALog), (4, .own 4), (5, vi x3.2), (6, .own 6), (7, .own 7), (8, vi x5.2), (45, vb (!x10))], [(4, .arr 2 1 x3.1.length (x3.1.map (eI .i64))), (6, .deep 61 5 x4.length [.flat, .flat, .flat, .flat, (.sl 2 1 [.flat])] (x4.map eOp)), (7, .arr 2 1 x5.1.length (x5.1.map (eI .i64)))]⟩ ?_
  refine SRun.nil ?_
  refine nx_n ?_
  refine swp_cond (b := (!x10)) (by kernel_rfl) (fun hb => ?_) (fun hb => ?_)
  replace h := cond_t hb h
  refine swp_seq ?_
  refine swp_reg ?_
  refine SRun.ck tbokGB 1 ⟨96, [(2, vb false)], []⟩ ?_
  refine SRun.nil ?_
  refine nx_n ?_
  refine swp_ret ?_
  replace h := Option.some.inj h
  subst h
  exact nx_r (q_fr (fin1 (by kernel_rfl) (finV rfl SV.flat_of (holds_t (by kernel_rfl)))))
  replace h := cond_f hb h
  refine swp_skip ?_
  refine nx_n ?_
  refine swp_seq ?_
  refine swp_reg ?_
  refine SRun.ck tbokGB 1 ⟨96, [(0, vl eOp aALog), (4, .own 4), (5, vi x3.2), (6, .own 6), (7, .own 7), (8, vi x5.2), (9, vi 1)], [(4, .arr 2 1 x3.1.length (x3.1.map (eI .i64))), (6, .deep 61 5 x4.length [.flat, .flat, .flat, .flat, (.sl 2 1 [.flat])] (x4.map eOp)), (7, .arr 2 1 x5.1.length (x5.1.map (eI .i64)))]⟩ ?_
  refine SRun.nil ?_
  refine nx_n ?_
  refine swp_seq ?_
  refine swp_reg ?_
  refine SRun.ck tbokGB 2 ⟨96, [(0, vl eOp aALog), (4, .own 4), (5, vi x3.2), (7, .own 7), (8, vi x5.2), (46, .own 6), (47, vi 1)], [(4, .arr 2 1 x3.1.length (x3.1.map (eI .i64))), (6, .deep 61 5 x4.length [.flat, .flat, .flat, .flat, (.sl 2 1 [.flat])] (x4.map eOp)), (7, .arr 2 1 x5.1.length (x5.1.map (eI .i64)))]⟩ ?_
  obtain ⟨x11, hx11, h⟩ := bind_some h
  refine SRun.estep (x_estep_call (f := 22) (caps := []) (xs := [.own 6, vi 1]) (pre := []) (post := [vi 1]) (qs := [vi 1]) (z := .own 6) (d := 6) (pl := 0) (y := .deep 61 5 x4.length [.flat, .flat, .flat, .flat, (.sl 2 1 [.flat])] (x4.map eOp)) (y' := .deep 61 5 x11.2.length [.flat, .flat, .flat, .flat, (.sl 2 1 [.flat])] (x11.2.map eOp)) (res := ⟨[.v (vi x11.1)], [(0, .deep 61 5 x11.2.length [.flat, .flat, .flat, .flat, (.sl 2 1 [.flat])] (x11.2.map eOp))], false⟩) (x := vi x11.1) (yo := none) rfl rfl rfl rfl rfl ents22 (laws_markOpS_run x4 1 _ hx11) rfl rfl false (fun _ => rfl) (by intro hc; cases hc)) ?_
  refine SRun.ck tbokGB 1 ⟨96, [(0, vl eOp aALog), (4, .own 4), (5, vi x3.2), (7, .own 7), (8, vi x5.2), (9, vi x11.1)], [(4, .arr 2 1 x3.1.length (x3.1.map (eI .i64))), (7, .arr 2 1 x5.1.length (x5.1.map (eI .i64)))]⟩ ?_
  refine SRun.nil ?_
  refine nx_n ?_
  refine swp_seq ?_
  refine swp_seq ?_
  refine swp_regJ h (fun j13 => ⟨96, [(0, vl eOp aALog), (4, .own 4), (5, vi x3.2), (7, .own 7), (61, vb j13)], [(4, .arr 2 1 x3.1.length (x3.1.map (eI .i64))), (7, .arr 2 1 x5.1.length (x5.1.map (eI .i64)))]⟩) (fun v14 h => ?_) (fun j13 h => ?_)
  refine SRun.ck tbokGB 3 ⟨96, [(0, vl eOp aALog), (4, .own 4), (5, vi x3.2), (7, .own 7), (8, vi x5.2), (51, vb (decide (x11.1 < 0)))], [(4, .arr 2 1 x3.1.length (x3.1.map (eI .i64))), (7, .arr 2 1 x5.1.length (x5.1.map (eI .i64)))]⟩ ?_
  refine SRun.cut [(51, fun b => b)] (b := (decide (x11.1 < 0))) (by kernel_rfl) (fun hb => ?_) (fun hb => ?_)
  replace h := cond_t hb h
  refine SRun.ck tbokGB 10 ⟨96, [(0, vl eOp aALog), (4, .own 4), (5, vi x3.2), (7, .own 7), (61, vb true)], [(4, .arr 2 1 x3.1.length (x3.1.map (eI .i64))), (7, .arr 2 1 x5.1.length (x5.1.map (eI .i64)))]⟩ ?_
  refine SRun.nil ?_
  replace h := Option.some.inj h
  subst h
  exact Le.sub0
  replace h := cond_f hb h
  refine SRun.ck tbokGB 2 ⟨96, [(0, vl eOp aALog), (4, .own 4), (5, vi x3.2), (7, .own 7), (8, vi x5.2), (51, vb false), (52, .own 7), (53, .own 4)], [(4, .arr 2 1 x3.1.length (x3.1.map (eI .i64))), (7, .arr 2 1 x5.1.length (x5.1.map (eI .i64)))]⟩ ?_
  obtain ⟨x12, hx12, h⟩ := bind_some h
  refine SRun.ls (x_lstep_call (f := 21) (caps := []) (xs := [.own 7, .own 4]) (ys := [vl (eI .i64) x5.1, vl (eI .i64) x3.1]) (res := ⟨[.v (vb x12)], [], false⟩) (x := vb x12) (y := none) rfl ents21 (laws_eqInt64S_run x5.1 x3.1 _ hx12) rfl (by intro hc; cases hc)) ?_
  refine SRun.ck tbokGB 3 ⟨96, [(0, vl eOp aALog), (4, .own 4), (5, vi x3.2), (7, .own 7), (8, vi x5.2), (57, vb (!x12))], [(4, .arr 2 1 x3.1.length (x3.1.map (eI .i64))), (7, .arr 2 1 x5.1.length (x5.1.map (eI .i64)))]⟩ ?_
  refine SRun.cut [(57, fun b => b)] (b := (!x12)) (by kernel_rfl) (fun hb => ?_) (fun hb => ?_)
  replace h := cond_t hb h
  refine SRun.ck tbokGB 4 ⟨96, [(0, vl eOp aALog), (4, .own 4), (5, vi x3.2), (7, .own 7), (61, vb true)], [(4, .arr 2 1 x3.1.length (x3.1.map (eI .i64))), (7, .arr 2 1 x5.1.length (x5.1.map (eI .i64)))]⟩ ?_
  refine SRun.nil ?_
  replace h := Option.some.inj h
  subst h
  exact Le.sub0
  replace h := cond_f hb h
  refine SRun.ck tbokGB 4 ⟨96, [(0, vl eOp aALog), (4, .own 4), (5, vi x3.2), (7, .own 7), (61, vb (x5.2 != x3.2))], [(4, .arr 2 1 x3.1.length (x3.1.map (eI .i64))), (7, .arr 2 1 x5.1.length (x5.1.map (eI .i64)))]⟩ ?_
  refine SRun.nil ?_
  replace h := Option.some.inj h
  subst h
  exact Le.sub0
  refine swp_cond (b := j13) (by kernel_rfl) (fun hb => ?_) (fun hb => ?_)
  replace h := cond_t hb h
  refine swp_seq ?_
  refine swp_reg ?_
  refine SRun.ck tbokGB 1 ⟨96, [(2, vb false)], []⟩ ?_
  refine SRun.nil ?_
  refine nx_n ?_
  refine swp_ret ?_
  replace h := Option.some.inj h
  subst h
  exact nx_r (q_fr (fin1 (by kernel_rfl) (finV rfl SV.flat_of (holds_t (by kernel_rfl)))))
  replace h := cond_f hb h
  refine swp_skip ?_
  refine nx_n ?_
  refine swp_seq ?_
  refine swp_reg ?_
  refine SRun.ck tbokGB 1 ⟨96, [(0, vl eOp aALog), (4, .own 4), (5, vi x3.2), (7, .own 7), (10, vi 1)], [(4, .arr 2 1 x3.1.length (x3.1.map (eI .i64))), (7, .arr 2 1 x5.1.length (x5.1.map (eI .i64)))]⟩ ?_
  refine SRun.nil ?_
  refine nx_n ?_
  refine swp_seq ?_
  refine swp_reg ?_
  refine SRun.ck tbokGB 2 ⟨96, [(0, vl eOp aALog), (4, .own 4), (5, vi x3.2), (7, .own 7), (62, .own 7), (63, vi 1)], [(4, .arr 2 1 x3.1.length (x3.1.map (eI .i64))), (7, .arr 2 1 x5.1.length (x5.1.map (eI .i64)))]⟩ ?_
  obtain ⟨x15, hx15, h⟩ := bind_some h
  refine SRun.estep (x_estep_call (f := 23) (caps := []) (xs := [.own 7, vi 1]) (pre := []) (post := [vi 1]) (qs := [vi 1]) (z := .own 7) (d := 7) (pl := 0) (y := .arr 2 1 x5.1.length (x5.1.map (eI .i64))) (y' := .arr 2 1 x15.2.length (x15.2.map (eI .i64))) (res := ⟨[.v (vi x15.1)], [(0, .arr 2 1 x15.2.length (x15.2.map (eI .i64)))], false⟩) (x := vi x15.1) (yo := none) rfl rfl rfl rfl rfl ents23 (laws_markInt64S_run x5.1 1 _ hx15) rfl rfl false (fun _ => rfl) (by intro hc; cases hc)) ?_
  refine SRun.ck tbokGB 1 ⟨96, [(0, vl eOp aALog), (4, .own 4), (5, vi x3.2), (7, .own 7), (10, vi x15.1)], [(4, .arr 2 1 x3.1.length (x3.1.map (eI .i64))), (7, .arr 2 1 x15.2.length (x15.2.map (eI .i64)))]⟩ ?_
  refine SRun.nil ?_
  refine nx_n ?_
  refine swp_seq ?_
  refine swp_reg ?_
  refine SRun.ck tbokGB 1 ⟨96, [(0, vl eOp aALog), (4, .own 4), (5, vi x3.2), (7, .own 7), (10, vi x15.1), (11, vi 1)], [(4, .arr 2 1 x3.1.length (x3.1.map (eI .i64))), (7, .arr 2 1 x15.2.length (x15.2.map (eI .i64)))]⟩ ?_
  refine SRun.nil ?_
  refine nx_n ?_
  refine swp_seq ?_
  refine swp_reg ?_
  refine SRun.ck tbokGB 2 ⟨96, [(0, vl eOp aALog), (4, .own 4), (5, vi x3.2), (7, .own 7), (10, vi x15.1), (65, .own 7), (66, vi 1)], [(4, .arr 2 1 x3.1.length (x3.1.map (eI .i64))), (7, .arr 2 1 x15.2.length (x15.2.map (eI .i64)))]⟩ ?_
  obtain ⟨x16, hx16, h⟩ := bind_some h
  refine SRun.ls (x_lstep_call (f := 24) (caps := []) (xs := [.own 7, vi 1]) (ys := [vl (eI .i64) x15.2, vi 1]) (res := ⟨[.v (vi x16)], [], false⟩) (x := vi x16) (y := none) rfl ents24 (laws_heldInt64S_run x15.2 1 _ hx16) rfl (by intro hc; cases hc)) ?_
  refine SRun.ck tbokGB 1 ⟨96, [(0, vl eOp aALog), (4, .own 4), (5, vi x3.2), (7, .own 7), (10, vi x15.1), (11, vi x16)], [(4, .arr 2 1 x3.1.length (x3.1.map (eI .i64))), (7, .arr 2 1 x15.2.length (x15.2.map (eI .i64)))]⟩ ?_
  refine SRun.nil ?_
  refine nx_n ?_
  refine swp_seq ?_
  refine swp_seq ?_
  refine swp_reg ?_
  refine SRun.ck tbokGB 2 ⟨96, [(0, vl eOp aALog), (4, .own 4), (5, vi x3.2), (7, .own 7), (10, vi x15.1), (11, vi x16), (69, vb (decide (x16 < 0)))], [(4, .arr 2 1 x3.1.length (x3.1.map (eI .i64))), (7, .arr 2 1 x15.2.length (x15.2.map (eI .i64)))]⟩ ?_
  refine SRun.nil ?_
  refine nx_n ?_
  refine swp_cond (b := (decide (x16 < 0))) (by kernel_rfl) (fun hb => ?_) (fun hb => ?_)
  replace h := cond_t hb h
  refine swp_seq ?_
  refine swp_reg ?_
  refine SRun.ck tbokGB 1 ⟨96, [(2, vb false)], []⟩ ?_
  refine SRun.nil ?_
  refine nx_n ?_
  refine swp_ret ?_
  replace h := Option.some.inj h
  subst h
  exact nx_r (q_fr (fin1 (by kernel_rfl) (finV rfl SV.flat_of (holds_t (by kernel_rfl)))))
  replace h := cond_f hb h
  refine swp_skip ?_
  refine nx_n ?_
  refine swp_seq ?_
  refine swp_seq ?_
  refine swp_reg ?_
  refine SRun.ck tbokGB 3 ⟨96, [(0, vl eOp aALog), (4, .own 4), (5, vi x3.2), (7, .own 7), (10, vi x15.1), (72, vb (x16 != x15.1))], [(4, .arr 2 1 x3.1.length (x3.1.map (eI .i64))), (7, .arr 2 1 x15.2.length (x15.2.map (eI .i64)))]⟩ ?_
  refine SRun.nil ?_
  refine nx_n ?_
  refine swp_cond (b := (x16 != x15.1)) (by kernel_rfl) (fun hb => ?_) (fun hb => ?_)
  replace h := cond_t hb h
  refine swp_seq ?_
  refine swp_reg ?_
  refine SRun.ck tbokGB 1 ⟨96, [(2, vb false)], []⟩ ?_
  refine SRun.nil ?_
  refine nx_n ?_
  refine swp_ret ?_
  replace h := Option.some.inj h
  subst h
  exact nx_r (q_fr (fin1 (by kernel_rfl) (finV rfl SV.flat_of (holds_t (by kernel_rfl)))))
  replace h := cond_f hb h
  refine swp_skip ?_
  refine nx_n ?_
  refine swp_seq ?_
  refine swp_reg ?_
  refine SRun.ck tbokGB 1 ⟨96, [(4, .own 4), (5, vi x3.2), (7, .own 7), (10, vi x15.1), (74, vl eOp aALog)], [(4, .arr 2 1 x3.1.length (x3.1.map (eI .i64))), (7, .arr 2 1 x15.2.length (x15.2.map (eI .i64)))]⟩ ?_
  obtain ⟨x17, hx17, h⟩ := bind_some h
  refine SRun.ls (x_lstep_call (f := 14) (caps := []) (xs := [vl eOp aALog]) (ys := [vl eOp aALog]) (res := ⟨[.deep 61 5 x17.length [.flat, .flat, .flat, .flat, (.sl 2 1 [.flat])] (x17.map eOp)], [], false⟩) (x := .own 75) (y := some (.deep 61 5 x17.length [.flat, .flat, .flat, .flat, (.sl 2 1 [.flat])] (x17.map eOp))) rfl ents14 (laws_toOpS_run aALog _ hx17) rfl (by intro hc; cases hc)) ?_
  obtain ⟨x18, hx18, h⟩ := bind_some h
  refine SRun.ls (x_lstep_call (f := 20) (caps := []) (xs := [.own 75]) (ys := [vl eOp x17]) (res := ⟨[.own 2 1 x18.1.length (x18.1.map (eI .i64)), .v (vi x18.2)], [], false⟩) (x := .tup [.own 76, vi x18.2]) (y := some (.arr 2 1 x18.1.length (x18.1.map (eI .i64)))) rfl ents20 (impl_VectorOf_run x17 _ hx18) rfl (by intro hc; cases hc)) ?_
  refine SRun.ck tbokGB 5 ⟨96, [(4, .own 4), (5, vi x3.2), (7, .own 7), (10, vi x15.1), (12, .own 76), (13, vi x18.2)], [(4, .arr 2 1 x3.1.length (x3.1.map (eI .i64))), (7, .arr 2 1 x15.2.length (x15.2.map (eI .i64))), (76, .arr 2 1 x18.1.length (x18.1.map (eI .i64)))]⟩ ?_
  refine SRun.nil ?_
  refine nx_n ?_
  refine swp_seq ?_
  refine swp_seq ?_
  refine swp_regJ h (fun j20 => ⟨96, [(7, .own 7), (10, vi x15.1), (87, vb j20)], [(7, .arr 2 1 x15.2.length (x15.2.map (eI .i64)))]⟩) (fun v21 h => ?_) (fun j20 h => ?_)
  refine SRun.ck tbokGB 2 ⟨96, [(5, vi x3.2), (7, .own 7), (10, vi x15.1), (13, vi x18.2), (79, .own 76), (80, .own 4)], [(4, .arr 2 1 x3.1.length (x3.1.map (eI .i64))), (7, .arr 2 1 x15.2.length (x15.2.map (eI .i64))), (76, .arr 2 1 x18.1.length (x18.1.map (eI .i64)))]⟩ ?_
  obtain ⟨x19, hx19, h⟩ := bind_some h
  refine SRun.ls (x_lstep_call (f := 21) (caps := []) (xs := [.own 76, .own 4]) (ys := [vl (eI .i64) x18.1, vl (eI .i64) x3.1]) (res := ⟨[.v (vb x19)], [], false⟩) (x := vb x19) (y := none) rfl ents21 (laws_eqInt64S_run x18.1 x3.1 _ hx19) rfl (by intro hc; cases hc)) ?_
  refine SRun.ck tbokGB 2 ⟨96, [(5, vi x3.2), (7, .own 7), (10, vi x15.1), (13, vi x18.2), (83, vb (!x19))], [(7, .arr 2 1 x15.2.length (x15.2.map (eI .i64)))]⟩ ?_
  refine SRun.cut [(83, fun b => b)] (b := (!x19)) (by kernel_rfl) (fun hb => ?_) (fun hb => ?_)
  replace h := cond_t hb h
  refine SRun.ck tbokGB 4 ⟨96, [(7, .own 7), (10, vi x15.1), (87, vb true)], [(7, .arr 2 1 x15.2.length (x15.2.map (eI .i64)))]⟩ ?_
  refine SRun.nil ?_
  replace h := Option.some.inj h
  subst h
  exact Le.sub0
  replace h := cond_f hb h
  refine SRun.ck tbokGB 4 ⟨96, [(7, .own 7), (10, vi x15.1), (87, vb (x18.2 != x3.2))], [(7, .arr 2 1 x15.2.length (x15.2.map (eI .i64)))]⟩ ?_
  refine SRun.nil ?_
  replace h := Option.some.inj h
  subst h
  exact Le.sub0
  refine swp_cond (b := j20) (by kernel_rfl) (fun hb => ?_) (fun hb => ?_)
  replace h := cond_t hb h
  refine swp_seq ?_
  refine swp_reg ?_
  refine SRun.ck tbokGB 1 ⟨96, [(2, vb false)], []⟩ ?_
  refine SRun.nil ?_
  refine nx_n ?_
  refine swp_ret ?_
  replace h := Option.some.inj h
  subst h
  exact nx_r (q_fr (fin1 (by kernel_rfl) (finV rfl SV.flat_of (holds_t (by kernel_rfl)))))
  replace h := cond_f hb h
  refine swp_skip ?_
  refine nx_n ?_
  refine swp_seq ?_
  refine swp_reg ?_
  refine SRun.ck tbokGB 1 ⟨96, [(7, .own 7), (10, vi x15.1), (11, vi 1)], [(7, .arr 2 1 x15.2.length (x15.2.map (eI .i64)))]⟩ ?_
  refine SRun.nil ?_
  refine nx_n ?_
  refine swp_seq ?_
  refine swp_reg ?_
  refine SRun.ck tbokGB 2 ⟨96, [(10, vi x15.1), (88, .own 7), (89, vi 1)], [(7, .arr 2 1 x15.2.length (x15.2.map (eI .i64)))]⟩ ?_
  obtain ⟨x22, hx22, h⟩ := bind_some h
  refine SRun.ls (x_lstep_call (f := 24) (caps := []) (xs := [.own 7, vi 1]) (ys := [vl (eI .i64) x15.2, vi 1]) (res := ⟨[.v (vi x22)], [], false⟩) (x := vi x22) (y := none) rfl ents24 (laws_heldInt64S_run x15.2 1 _ hx22) rfl (by intro hc; cases hc)) ?_
  refine SRun.ck tbokGB 1 ⟨96, [(10, vi x15.1), (11, vi x22)], []⟩ ?_
  refine SRun.nil ?_
  refine nx_n ?_
  refine swp_seq ?_
  refine swp_seq ?_
  refine swp_reg ?_
  refine SRun.ck tbokGB 2 ⟨96, [(10, vi x15.1), (11, vi x22), (92, vb (decide (x22 < 0)))], []⟩ ?_
  refine SRun.nil ?_
  refine nx_n ?_
  refine swp_cond (b := (decide (x22 < 0))) (by kernel_rfl) (fun hb => ?_) (fun hb => ?_)
  replace h := cond_t hb h
  refine swp_seq ?_
  refine swp_reg ?_
  refine SRun.ck tbokGB 1 ⟨96, [(2, vb false)], []⟩ ?_
  refine SRun.nil ?_
  refine nx_n ?_
  refine swp_ret ?_
  replace h := Option.some.inj h
  subst h
  exact nx_r (q_fr (fin1 (by kernel_rfl) (finV rfl SV.flat_of (holds_t (by kernel_rfl)))))
  replace h := cond_f hb h
  refine swp_skip ?_
  refine nx_n ?_
  refine swp_seq ?_
  refine swp_seq ?_
  refine swp_reg ?_
  refine SRun.ck tbokGB 3 ⟨96, [(95, vb (x22 != x15.1))], []⟩ ?_
  refine SRun.nil ?_
  refine nx_n ?_
  refine swp_cond (b := (x22 != x15.1)) (by kernel_rfl) (fun hb => ?_) (fun hb => ?_)
  replace h := cond_t hb h
  refine swp_seq ?_
  refine swp_reg ?_
  refine SRun.ck tbokGB 1 ⟨96, [(2, vb false)], []⟩ ?_
  refine SRun.nil ?_
  refine nx_n ?_
  refine swp_ret ?_
  replace h := Option.some.inj h
  subst h
  exact nx_r (q_fr (fin1 (by kernel_rfl) (finV rfl SV.flat_of (holds_t (by kernel_rfl)))))
  replace h := cond_f hb h
  refine swp_skip ?_
  refine nx_n ?_
  refine swp_seq ?_
  refine swp_reg ?_
  refine SRun.ck tbokGB 1 ⟨96, [(2, vb true)], []⟩ ?_
  refine SRun.nil ?_
  refine nx_n ?_
  refine swp_ret ?_
  replace h := Option.some.inj h
  subst h
  exact q_fr (fin1 (by kernel_rfl) (finV rfl SV.flat_of (holds_t (by kernel_rfl))))
theorem ents5 : Ents Tryd.prog 5 := ents_of Tryd.func5 (by kernel_rfl) rfl
noncomputable def spec_MissingFor (aLog : (List Op)) (aVector : (List Int)) : Option ((List Int) × Int) :=
  ((((spec_IsLog aLog).bind fun x1 => (bif (!x1) then some true else ((spec_l32Vector aVector).bind fun x2 => some (!x2))))).bind fun (j3 : Bool) => (bif j3 then some (([] : List Int), 1) else (((forS (aLog.length : Int) (fun (i7 : Int) (s7 : (List Int)) => ((at' aLog i7).bind fun x11 => ((at' aLog i7).bind fun x12 => ((at' aVector x12.Office).bind fun x13 => (bif (decide (x11.Number > x13)) then ((app' s7 ([i7] : List Int)).bind fun x14 => some x14) else some s7))))) (fun (s7 : (List Int)) => s7) 0 ([] : List Int))).bind fun (j5 : (List Int)) => some (j5, 0))))
set_option maxRecDepth 100000 in
set_option maxHeartbeats 4000000 in
theorem spec_MissingFor_run (aLog : (List Op)) (aVector : (List Int)) (r : (List Int) × Int) (h : spec_MissingFor aLog aVector = some r) : SCall Tryd.prog 25 [.v (vl eOp aLog), .v (vl (eI .i64) aVector)] ⟨[.own 2 1 r.1.length (r.1.map (eI .i64)), .v (vi r.2)], [], false⟩ := by
  refine scall_in Tryd.func25 rfl [(.tmp 4), (.tmp 5)] rfl (fun r => ⟨[.own 2 1 r.1.length (r.1.map (eI .i64)), .v (vi r.2)], [], false⟩) (r := r) ?_
  unfold spec_MissingFor at h
  refine swp_seq ?_
  refine swp_reg ?_
  refine SRun.ck tbokGB 2 ⟨42, [(0, vl eOp aLog), (1, vl (eI .i64) aVector)], []⟩ ?_
  refine SRun.nil ?_
  refine nx_n ?_
  refine swp_seq ?_
  refine swp_seq ?_
  refine swp_regJ h (fun j3 => ⟨42, [(0, vl eOp aLog), (1, vl (eI .i64) aVector), (15, vb j3)], []⟩) (fun v4 h => ?_) (fun j3 h => ?_)
  refine SRun.ck tbokGB 1 ⟨42, [(0, vl eOp aLog), (1, vl (eI .i64) aVector), (8, vl eOp aLog)], []⟩ ?_
  obtain ⟨x1, hx1, h⟩ := bind_some h
  refine SRun.ls (x_lstep_call (f := 13) (caps := []) (xs := [vl eOp aLog]) (ys := [vl eOp aLog]) (res := ⟨[.v (vb x1)], [], false⟩) (x := vb x1) (y := none) rfl ents13 (spec_IsLog_run aLog _ hx1) rfl (by intro hc; cases hc)) ?_
  refine SRun.ck tbokGB 2 ⟨42, [(0, vl eOp aLog), (1, vl (eI .i64) aVector), (11, vb (!x1))], []⟩ ?_
  refine SRun.cut [(11, fun b => b)] (b := (!x1)) (by kernel_rfl) (fun hb => ?_) (fun hb => ?_)
  replace h := cond_t hb h
  refine SRun.ck tbokGB 4 ⟨42, [(0, vl eOp aLog), (1, vl (eI .i64) aVector), (15, vb true)], []⟩ ?_
  refine SRun.nil ?_
  replace h := Option.some.inj h
  subst h
  exact Le.sub0
  replace h := cond_f hb h
  refine SRun.ck tbokGB 1 ⟨42, [(0, vl eOp aLog), (1, vl (eI .i64) aVector), (11, vb false), (12, vl (eI .i64) aVector)], []⟩ ?_
  obtain ⟨x2, hx2, h⟩ := bind_some h
  refine SRun.ls (x_lstep_call (f := 47) (caps := []) (xs := [vl (eI .i64) aVector]) (ys := [vl (eI .i64) aVector]) (res := ⟨[.v (vb x2)], [], false⟩) (x := vb x2) (y := none) rfl ents47 (spec_l32Vector_run aVector _ hx2) rfl (by intro hc; cases hc)) ?_
  refine SRun.ck tbokGB 2 ⟨42, [(0, vl eOp aLog), (1, vl (eI .i64) aVector), (15, vb (!x2))], []⟩ ?_
  refine SRun.nil ?_
  replace h := Option.some.inj h
  subst h
  exact Le.sub0
  refine swp_cond (b := j3) (by kernel_rfl) (fun hb => ?_) (fun hb => ?_)
  replace h := cond_t hb h
  refine swp_seq ?_
  refine swp_reg ?_
  refine SRun.ck tbokGB 2 ⟨42, [(4, .own 4), (5, vi 1)], [(4, .arr 2 1 ([] : List Int).length (([] : List Int).map (eI .i64)))]⟩ ?_
  refine SRun.nil ?_
  refine nx_n ?_
  refine swp_ret ?_
  replace h := Option.some.inj h
  subst h
  exact nx_r (q_fr (fin2 (by kernel_rfl) (finO (d := 4) (holds_t (by kernel_rfl)) (by kernel_rfl) (flat_map (eI_flat .i64) _) (by kernel_rfl)) (finV rfl SV.flat_of (holds_t (by kernel_rfl)))))
  replace h := cond_f hb h
  refine swp_skip ?_
  refine nx_n ?_
  refine swp_seq ?_
  refine swp_reg ?_
  refine SRun.ck tbokGB 2 ⟨42, [(0, vl eOp aLog), (1, vl (eI .i64) aVector), (6, .own 16)], [(16, .arr 2 1 ([] : List Int).length (([] : List Int).map (eI .i64)))]⟩ ?_
  refine SRun.nil ?_
  refine nx_n ?_
  refine swp_seq ?_
  refine swp_seq ?_
  refine swp_reg ?_
  refine SRun.ck tbokGB 1 ⟨42, [(0, vl eOp aLog), (1, vl (eI .i64) aVector), (6, .own 16), (7, vi 0)], [(16, .arr 2 1 ([] : List Int).length (([] : List Int).map (eI .i64)))]⟩ ?_
  refine SRun.nil ?_
  refine nx_n ?_
  refine swp_seqJ h (fun j5 => ⟨42, [(6, .own 6)], [(6, .arr 2 1 j5.length (j5.map (eI .i64)))]⟩) (fun v6 h => ?_) (fun j5 h => ?_)
  refine swp_blk (a := v6) ?_
  refine swp_lpL (r := v6) (s := (0, ([] : List Int))) _ (fun s7 => ⟨42, [(0, vl eOp aLog), (1, vl (eI .i64) aVector), (6, .own 6), (7, vi s7.1)], [(6, .arr 2 1 s7.2.length (s7.2.map (eI .i64)))]⟩) _ ((Le.sub' ([(0, vl eOp aLog), (1, vl (eI .i64) aVector), (6, .own 16), (7, vi 0)] : List (Nat × SV)) ([(16, .arr 2 1 ([] : List Int).length (([] : List Int).map (eI .i64)))] : List (Nat × SO)) (by kernel_rfl) (by kernel_rfl)).trans ((Le.ren' (d := 16) (e := 6) (by kernel_rfl) (by kernel_rfl) (by kernel_rfl)).trans (Le.sub0))) h (fun s7 v8 h => ?_)
  refine swp_seq ?_
  refine swp_seq ?_
  refine swp_reg ?_
  refine SRun.ck tbokGB 4 ⟨42, [(0, vl eOp aLog), (1, vl (eI .i64) aVector), (6, .own 6), (7, vi s7.1), (20, vb (decide (s7.1 < (aLog.length : Int))))], [(6, .arr 2 1 s7.2.length (s7.2.map (eI .i64)))]⟩ ?_
  refine SRun.nil ?_
  refine nx_n ?_
  refine swp_cond (b := (decide (s7.1 < (aLog.length : Int)))) (by kernel_rfl) (fun hb => ?_) (fun hb => ?_)
  replace h := cond_t hb h
  refine swp_skip ?_
  refine nx_n ?_
  refine swp_seq ?_
  refine swp_seqJ h (fun j9 => ⟨42, [(0, vl eOp aLog), (1, vl (eI .i64) aVector), (6, .own 6), (7, vi s7.1)], [(6, .arr 2 1 j9.length (j9.map (eI .i64)))]⟩) (fun v10 h => ?_) (fun j9 h => ?_)
  refine swp_blk (a := v10) ?_
  refine swp_seq ?_
  refine swp_dr mixed ?_
  refine DGo.chunk' tbokGB 2 (σ' := ⟨42, [(24, vi s7.1), (23, vl eOp aLog), (0, vl eOp aLog), (1, vl (eI .i64) aVector), (6, .own 6), (7, vi s7.1), (20, vb (decide (s7.1 < (aLog.length : Int))))], [(6, .arr 2 1 s7.2.length (s7.2.map (eI .i64)))]⟩) (by kernel_rfl) ?_
  obtain ⟨x11, hx11, h⟩ := bind_some h
  refine DGo.step (x_index (L := aLog) (f := eOp) (ti := ti25) (tj := ti61) (e := 61) (k := .i64) tbokGB rfl hx11) ?_
  refine DGo.chunk' tbokGB 5 (σ' := ⟨42, [(30, vi s7.1), (29, vl eOp aLog), (28, vl (eI .i64) aVector), (27, vi x11.Number), (26, .ptr ((eOp x11).map .tr) 1), (25, .ptr ((eOp x11).map .tr) 0), (24, vi s7.1), (23, vl eOp aLog), (0, vl eOp aLog), (1, vl (eI .i64) aVector), (6, .own 6), (7, vi s7.1), (20, vb (decide (s7.1 < (aLog.length : Int))))], [(6, .arr 2 1 s7.2.length (s7.2.map (eI .i64)))]⟩) (by kernel_rfl) ?_
  obtain ⟨x12, hx12, h⟩ := bind_some h
  refine DGo.step (x_index (L := aLog) (f := eOp) (ti := ti25) (tj := ti61) (e := 61) (k := .i64) tbokGB rfl hx12) ?_
  refine DGo.chunk' tbokGB 2 (σ' := ⟨42, [(33, vi x12.Office), (32, .ptr ((eOp x12).map .tr) 0), (31, .ptr ((eOp x12).map .tr) 0), (30, vi s7.1), (29, vl eOp aLog), (28, vl (eI .i64) aVector), (27, vi x11.Number), (26, .ptr ((eOp x11).map .tr) 1), (25, .ptr ((eOp x11).map .tr) 0), (24, vi s7.1), (23, vl eOp aLog), (0, vl eOp aLog), (1, vl (eI .i64) aVector), (6, .own 6), (7, vi s7.1), (20, vb (decide (s7.1 < (aLog.length : Int))))], [(6, .arr 2 1 s7.2.length (s7.2.map (eI .i64)))]⟩) (by kernel_rfl) ?_
  obtain ⟨x13, hx13, h⟩ := bind_some h
  refine DGo.step (x_index (L := aVector) (f := (eI .i64)) (ti := ti32) (tj := ti2) (e := 2) (k := .i64) tbokGB rfl hx13) ?_
  refine DGo.chunk' tbokGB 2 (σ' := ⟨42, [(36, vb (decide (x11.Number > x13))), (35, vi x13), (34, .ptr (((eI .i64) x13).map .tr) 0), (33, vi x12.Office), (32, .ptr ((eOp x12).map .tr) 0), (31, .ptr ((eOp x12).map .tr) 0), (30, vi s7.1), (29, vl eOp aLog), (28, vl (eI .i64) aVector), (27, vi x11.Number), (26, .ptr ((eOp x11).map .tr) 1), (25, .ptr ((eOp x11).map .tr) 0), (24, vi s7.1), (23, vl eOp aLog), (0, vl eOp aLog), (1, vl (eI .i64) aVector), (6, .own 6), (7, vi s7.1), (20, vb (decide (s7.1 < (aLog.length : Int))))], [(6, .arr 2 1 s7.2.length (s7.2.map (eI .i64)))]⟩) (by kernel_rfl) ?_
  refine DGo.nil (by kernel_rfl) ?_
  refine nx_n ?_
  refine swp_cond (b := (decide (x11.Number > x13))) (by kernel_rfl) (fun hb => ?_) (fun hb => ?_)
  replace h := cond_t hb h
  refine swp_reg ?_
  refine SRun.ck tbokGB 3 ⟨42, [(0, vl eOp aLog), (1, vl (eI .i64) aVector), (7, vi s7.1), (37, .own 6), (39, .own 39)], [(6, .arr 2 1 s7.2.length (s7.2.map (eI .i64))), (39, .arr 2 1 ([s7.1] : List Int).length (([s7.1] : List Int).map (eI .i64)))]⟩ ?_
  obtain ⟨x14, hx14, h⟩ := bind_some h
  refine SRun.estep (x_append (f := (eI .i64)) (t := 32) (ti := ti32) (tj := ti2) (zs := [.int .i64 0]) (e := 2) (m := 1) (d := 6) (xv := .own 39) hx14 tbokGB rfl rfl rfl rfl (x_src_o (e := 2))) ?_
  refine SRun.ck tbokGB 1 ⟨42, [(0, vl eOp aLog), (1, vl (eI .i64) aVector), (6, .own 40), (7, vi s7.1)], [(40, .arr 2 1 x14.length (x14.map (eI .i64)))]⟩ ?_
  refine SRun.nil ?_
  replace h := Option.some.inj h
  subst h
  exact q_bn (q_j ((Le.sub' ([(0, vl eOp aLog), (1, vl (eI .i64) aVector), (6, .own 40), (7, vi s7.1)] : List (Nat × SV)) ([(40, .arr 2 1 x14.length (x14.map (eI .i64)))] : List (Nat × SO)) (by kernel_rfl) (by kernel_rfl)).trans ((Le.ren' (d := 40) (e := 6) (by kernel_rfl) (by kernel_rfl) (by kernel_rfl)).trans (Le.sub0))))
  replace h := cond_f hb h
  refine swp_skip ?_
  replace h := Option.some.inj h
  subst h
  exact q_bn (q_j (Le.sub0))
  refine swp_reg ?_
  refine SRun.ck tbokGB 3 ⟨42, [(0, vl eOp aLog), (1, vl (eI .i64) aVector), (6, .own 6), (7, vi (w64 (s7.1 + 1)))], [(6, .arr 2 1 j9.length (j9.map (eI .i64)))]⟩ ?_
  refine SRun.nil ?_
  replace h := Option.some.inj h
  subst h
  exact q_l (Le.sub0)
  replace h := cond_f hb h
  refine swp_exit ?_
  replace h := Option.some.inj h
  subst h
  exact nx_e (q_re (q_bh (q_j (Le.sub0))))
  refine swp_seq ?_
  refine swp_reg ?_
  refine SRun.ck tbokGB 3 ⟨42, [(4, .own 6), (5, vi 0)], [(6, .arr 2 1 j5.length (j5.map (eI .i64)))]⟩ ?_
  refine SRun.nil ?_
  refine nx_n ?_
  refine swp_ret ?_
  replace h := Option.some.inj h
  subst h
  exact q_fr (fin2 (by kernel_rfl) (finO (d := 6) (holds_t (by kernel_rfl)) (by kernel_rfl) (flat_map (eI_flat .i64) _) (by kernel_rfl)) (finV rfl SV.flat_of (holds_t (by kernel_rfl))))
theorem ents25 : Ents Tryd.prog 25 := ents_of Tryd.func25 (by kernel_rfl) rfl
noncomputable def impl_MissingFor (aLog : (List Op)) (aVector : (List Int)) : Option ((List Int) × Int) :=
  ((((impl_IsLog aLog).bind fun x1 => (bif (!x1) then some true else ((impl_isVector aVector).bind fun x2 => some (!x2))))).bind fun (j3 : Bool) => (bif j3 then some (([] : List Int), 1) else (((forS (aLog.length : Int) (fun (i7 : Int) (s7 : (List Int)) => ((at' aLog i7).bind fun x11 => ((at' aVector x11.Office).bind fun x12 => (bif (decide (x11.Number > x12)) then ((app' s7 ([i7] : List Int)).bind fun x13 => some x13) else some s7)))) (fun (s7 : (List Int)) => s7) 0 ([] : List Int))).bind fun (j5 : (List Int)) => some (j5, 0))))
set_option maxRecDepth 100000 in
set_option maxHeartbeats 4000000 in
theorem impl_MissingFor_run (aLog : (List Op)) (aVector : (List Int)) (r : (List Int) × Int) (h : impl_MissingFor aLog aVector = some r) : SCall Tryd.prog 27 [.v (vl eOp aLog), .v (vl (eI .i64) aVector)] ⟨[.own 2 1 r.1.length (r.1.map (eI .i64)), .v (vi r.2)], [], false⟩ := by
  refine scall_in Tryd.func27 rfl [(.tmp 4), (.tmp 5)] rfl (fun r => ⟨[.own 2 1 r.1.length (r.1.map (eI .i64)), .v (vi r.2)], [], false⟩) (r := r) ?_
  unfold impl_MissingFor at h
  refine swp_seq ?_
  refine swp_reg ?_
  refine SRun.ck tbokGB 2 ⟨38, [(0, vl eOp aLog), (1, vl (eI .i64) aVector)], []⟩ ?_
  refine SRun.nil ?_
  refine nx_n ?_
  refine swp_seq ?_
  refine swp_seq ?_
  refine swp_regJ h (fun j3 => ⟨38, [(0, vl eOp aLog), (1, vl (eI .i64) aVector), (16, vb j3)], []⟩) (fun v4 h => ?_) (fun j3 h => ?_)
  refine SRun.ck tbokGB 1 ⟨38, [(0, vl eOp aLog), (1, vl (eI .i64) aVector), (9, vl eOp aLog)], []⟩ ?_
  obtain ⟨x1, hx1, h⟩ := bind_some h
  refine SRun.ls (x_lstep_call (f := 15) (caps := []) (xs := [vl eOp aLog]) (ys := [vl eOp aLog]) (res := ⟨[.v (vb x1)], [], false⟩) (x := vb x1) (y := none) rfl ents15 (impl_IsLog_run aLog _ hx1) rfl (by intro hc; cases hc)) ?_
  refine SRun.ck tbokGB 2 ⟨38, [(0, vl eOp aLog), (1, vl (eI .i64) aVector), (12, vb (!x1))], []⟩ ?_
  refine SRun.cut [(12, fun b => b)] (b := (!x1)) (by kernel_rfl) (fun hb => ?_) (fun hb => ?_)
  replace h := cond_t hb h
  refine SRun.ck tbokGB 4 ⟨38, [(0, vl eOp aLog), (1, vl (eI .i64) aVector), (16, vb true)], []⟩ ?_
  refine SRun.nil ?_
  replace h := Option.some.inj h
  subst h
  exact Le.sub0
  replace h := cond_f hb h
  refine SRun.ck tbokGB 1 ⟨38, [(0, vl eOp aLog), (1, vl (eI .i64) aVector), (12, vb false), (13, vl (eI .i64) aVector)], []⟩ ?_
  obtain ⟨x2, hx2, h⟩ := bind_some h
  refine SRun.ls (x_lstep_call (f := 58) (caps := []) (xs := [vl (eI .i64) aVector]) (ys := [vl (eI .i64) aVector]) (res := ⟨[.v (vb x2)], [], false⟩) (x := vb x2) (y := none) rfl ents58 (impl_isVector_run aVector _ hx2) rfl (by intro hc; cases hc)) ?_
  refine SRun.ck tbokGB 2 ⟨38, [(0, vl eOp aLog), (1, vl (eI .i64) aVector), (16, vb (!x2))], []⟩ ?_
  refine SRun.nil ?_
  replace h := Option.some.inj h
  subst h
  exact Le.sub0
  refine swp_cond (b := j3) (by kernel_rfl) (fun hb => ?_) (fun hb => ?_)
  replace h := cond_t hb h
  refine swp_seq ?_
  refine swp_reg ?_
  refine SRun.ck tbokGB 2 ⟨38, [(4, .own 4), (5, vi 1)], [(4, .arr 2 1 ([] : List Int).length (([] : List Int).map (eI .i64)))]⟩ ?_
  refine SRun.nil ?_
  refine nx_n ?_
  refine swp_ret ?_
  replace h := Option.some.inj h
  subst h
  exact nx_r (q_fr (fin2 (by kernel_rfl) (finO (d := 4) (holds_t (by kernel_rfl)) (by kernel_rfl) (flat_map (eI_flat .i64) _) (by kernel_rfl)) (finV rfl SV.flat_of (holds_t (by kernel_rfl)))))
  replace h := cond_f hb h
  refine swp_skip ?_
  refine nx_n ?_
  refine swp_seq ?_
  refine swp_reg ?_
  refine SRun.ck tbokGB 1 ⟨38, [(0, vl eOp aLog), (1, vl (eI .i64) aVector), (6, .own 6)], [(6, .arr 2 1 ([] : List Int).length (([] : List Int).map (eI .i64)))]⟩ ?_
  refine SRun.nil ?_
  refine nx_n ?_
  refine swp_seq ?_
  refine swp_seq ?_
  refine swp_reg ?_
  refine SRun.ck tbokGB 3 ⟨38, [(1, vl (eI .i64) aVector), (6, .own 6), (17, vl eOp aLog), (18, vi (aLog.length : Int)), (19, vi 0)], [(6, .arr 2 1 ([] : List Int).length (([] : List Int).map (eI .i64)))]⟩ ?_
  refine SRun.nil ?_
  refine nx_n ?_
  refine swp_seqJ h (fun j5 => ⟨38, [(6, .own 6)], [(6, .arr 2 1 j5.length (j5.map (eI .i64)))]⟩) (fun v6 h => ?_) (fun j5 h => ?_)
  refine swp_blk (a := v6) ?_
  refine swp_lpL (r := v6) (s := (0, ([] : List Int))) _ (fun s7 => ⟨38, [(1, vl (eI .i64) aVector), (6, .own 6), (17, vl eOp aLog), (18, vi (aLog.length : Int)), (19, vi s7.1)], [(6, .arr 2 1 s7.2.length (s7.2.map (eI .i64)))]⟩) _ (Le.sub0) h (fun s7 v8 h => ?_)
  refine swp_seq ?_
  refine swp_reg ?_
  refine SRun.ck tbokGB 1 ⟨38, [(1, vl (eI .i64) aVector), (6, .own 6), (17, vl eOp aLog), (18, vi (aLog.length : Int)), (19, vi s7.1), (20, vb (decide (s7.1 < (aLog.length : Int))))], [(6, .arr 2 1 s7.2.length (s7.2.map (eI .i64)))]⟩ ?_
  refine SRun.nil ?_
  refine nx_n ?_
  refine swp_seq ?_
  refine swp_cond (b := (decide (s7.1 < (aLog.length : Int)))) (by kernel_rfl) (fun hb => ?_) (fun hb => ?_)
  replace h := cond_t hb h
  refine swp_skip ?_
  refine nx_n ?_
  refine swp_seq ?_
  refine swp_seqJ h (fun j9 => ⟨38, [(1, vl (eI .i64) aVector), (6, .own 6), (17, vl eOp aLog), (18, vi (aLog.length : Int)), (19, vi s7.1)], [(6, .arr 2 1 j9.length (j9.map (eI .i64)))]⟩) (fun v10 h => ?_) (fun j9 h => ?_)
  refine swp_blk (a := v10) ?_
  refine swp_seq ?_
  refine swp_reg ?_
  refine SRun.ck tbokGB 1 ⟨38, [(1, vl (eI .i64) aVector), (6, .own 6), (17, vl eOp aLog), (18, vi (aLog.length : Int)), (19, vi s7.1), (21, vi s7.1)], [(6, .arr 2 1 s7.2.length (s7.2.map (eI .i64)))]⟩ ?_
  obtain ⟨x11, hx11, h⟩ := bind_some h
  refine SRun.ls (x_index (L := aLog) (f := eOp) (ti := ti25) (tj := ti61) (e := 61) (k := .i64) tbokGB rfl hx11) ?_
  refine SRun.ck tbokGB 3 ⟨38, [(1, vl (eI .i64) aVector), (6, .own 6), (7, vi s7.1), (8, .ref 8 0), (17, vl eOp aLog), (18, vi (aLog.length : Int)), (19, vi s7.1), (23, .agg [vi x11.Office, vi x11.Number, vs x11.Key, vs x11.Text, vl (eI .i64) x11.Seen])], [(6, .arr 2 1 s7.2.length (s7.2.map (eI .i64))), (8, .box [vi 0, vi 0, vs (ByteArray.mk #[]), vs (ByteArray.mk #[]), vl (eI .i64) ([] : List Int)])]⟩ ?_
  refine SRun.estep (x_estep_store (d := 8) (k := 0) (ti := ti61) (cs := [vi 0, vi 0, vs (ByteArray.mk #[]), vs (ByteArray.mk #[]), vl (eI .i64) ([] : List Int)]) (vs := [vi x11.Office, vi x11.Number, vs x11.Key, vs x11.Text, vl (eI .i64) x11.Seen]) (v := .agg [vi x11.Office, vi x11.Number, vs x11.Key, vs x11.Text, vl (eI .i64) x11.Seen]) tbokGB rfl rfl) ?_
  refine SRun.nil ?_
  refine nx_n ?_
  refine swp_seq ?_
  refine swp_dr mixed ?_
  refine DGo.chunk' tbokGB 5 (σ' := ⟨38, [(28, vi x11.Office), (27, .ref 8 0), (26, vl (eI .i64) aVector), (25, vi x11.Number), (24, .ref 8 1), (1, vl (eI .i64) aVector), (6, .own 6), (7, vi s7.1), (8, .ref 8 0), (17, vl eOp aLog), (18, vi (aLog.length : Int)), (19, vi s7.1), (23, .agg [vi x11.Office, vi x11.Number, vs x11.Key, vs x11.Text, vl (eI .i64) x11.Seen])], [(8, .box [vi x11.Office, vi x11.Number, vs x11.Key, vs x11.Text, vl (eI .i64) x11.Seen]), (6, .arr 2 1 s7.2.length (s7.2.map (eI .i64)))]⟩) (by kernel_rfl) ?_
  obtain ⟨x12, hx12, h⟩ := bind_some h
  refine DGo.step (x_index (L := aVector) (f := (eI .i64)) (ti := ti32) (tj := ti2) (e := 2) (k := .i64) tbokGB rfl hx12) ?_
  refine DGo.chunk' tbokGB 2 (σ' := ⟨38, [(31, vb (decide (x11.Number > x12))), (30, vi x12), (29, .ptr (((eI .i64) x12).map .tr) 0), (28, vi x11.Office), (27, .ref 8 0), (26, vl (eI .i64) aVector), (25, vi x11.Number), (24, .ref 8 1), (1, vl (eI .i64) aVector), (6, .own 6), (7, vi s7.1), (8, .ref 8 0), (17, vl eOp aLog), (18, vi (aLog.length : Int)), (19, vi s7.1), (23, .agg [vi x11.Office, vi x11.Number, vs x11.Key, vs x11.Text, vl (eI .i64) x11.Seen])], [(8, .box [vi x11.Office, vi x11.Number, vs x11.Key, vs x11.Text, vl (eI .i64) x11.Seen]), (6, .arr 2 1 s7.2.length (s7.2.map (eI .i64)))]⟩) (by kernel_rfl) ?_
  refine DGo.nil (by kernel_rfl) ?_
  refine nx_n ?_
  refine swp_cond (b := (decide (x11.Number > x12))) (by kernel_rfl) (fun hb => ?_) (fun hb => ?_)
  replace h := cond_t hb h
  refine swp_reg ?_
  refine SRun.ck tbokGB 3 ⟨38, [(1, vl (eI .i64) aVector), (17, vl eOp aLog), (18, vi (aLog.length : Int)), (19, vi s7.1), (32, .own 6), (34, .own 34)], [(6, .arr 2 1 s7.2.length (s7.2.map (eI .i64))), (34, .arr 2 1 ([s7.1] : List Int).length (([s7.1] : List Int).map (eI .i64)))]⟩ ?_
  obtain ⟨x13, hx13, h⟩ := bind_some h
  refine SRun.estep (x_append (f := (eI .i64)) (t := 32) (ti := ti32) (tj := ti2) (zs := [.int .i64 0]) (e := 2) (m := 1) (d := 6) (xv := .own 34) hx13 tbokGB rfl rfl rfl rfl (x_src_o (e := 2))) ?_
  refine SRun.ck tbokGB 1 ⟨38, [(1, vl (eI .i64) aVector), (6, .own 35), (17, vl eOp aLog), (18, vi (aLog.length : Int)), (19, vi s7.1)], [(35, .arr 2 1 x13.length (x13.map (eI .i64)))]⟩ ?_
  refine SRun.nil ?_
  replace h := Option.some.inj h
  subst h
  exact q_bn (q_j ((Le.sub' ([(1, vl (eI .i64) aVector), (6, .own 35), (17, vl eOp aLog), (18, vi (aLog.length : Int)), (19, vi s7.1)] : List (Nat × SV)) ([(35, .arr 2 1 x13.length (x13.map (eI .i64)))] : List (Nat × SO)) (by kernel_rfl) (by kernel_rfl)).trans ((Le.ren' (d := 35) (e := 6) (by kernel_rfl) (by kernel_rfl) (by kernel_rfl)).trans (Le.sub0))))
  replace h := cond_f hb h
  refine swp_skip ?_
  replace h := Option.some.inj h
  subst h
  exact q_bn (q_j (Le.sub0))
  refine swp_reg ?_
  refine SRun.ck tbokGB 2 ⟨38, [(1, vl (eI .i64) aVector), (6, .own 6), (17, vl eOp aLog), (18, vi (aLog.length : Int)), (19, vi (w64 (s7.1 + 1)))], [(6, .arr 2 1 j9.length (j9.map (eI .i64)))]⟩ ?_
  refine SRun.nil ?_
  replace h := Option.some.inj h
  subst h
  exact q_l (Le.sub0)
  replace h := cond_f hb h
  refine swp_exit ?_
  replace h := Option.some.inj h
  subst h
  exact nx_e (q_re (q_bh (q_j (Le.sub0))))
  refine swp_seq ?_
  refine swp_reg ?_
  refine SRun.ck tbokGB 3 ⟨38, [(4, .own 6), (5, vi 0)], [(6, .arr 2 1 j5.length (j5.map (eI .i64)))]⟩ ?_
  refine SRun.nil ?_
  refine nx_n ?_
  refine swp_ret ?_
  replace h := Option.some.inj h
  subst h
  exact q_fr (fin2 (by kernel_rfl) (finO (d := 6) (holds_t (by kernel_rfl)) (by kernel_rfl) (flat_map (eI_flat .i64) _) (by kernel_rfl)) (finV rfl SV.flat_of (holds_t (by kernel_rfl))))
theorem ents27 : Ents Tryd.prog 27 := ents_of Tryd.func27 (by kernel_rfl) rfl
noncomputable def laws_FnExactMissingFor (aALog : (List Op)) (aAVector : (List Int)) : Option (Bool) :=
  (bif (decide ((aAVector.length : Int) > 1048576)) then some true else ((laws_szOpS aALog 1048576).bind fun x1 => (bif (decide (x1 < 0)) then some true else ((laws_toOpS aALog).bind fun x2 => ((laws_toInt64S aAVector).bind fun x3 => ((spec_MissingFor x2 x3).bind fun x4 => ((laws_toOpS aALog).bind fun x5 => ((laws_toInt64S aAVector).bind fun x6 => ((impl_MissingFor x5 x6).bind fun x7 => ((((laws_eqInt64S x7.1 x4.1).bind fun x8 => (bif (!x8) then some true else some (x7.2 != x4.2)))).bind fun (j9 : Bool) => (bif j9 then some false else ((laws_toOpS aALog).bind fun x11 => ((laws_eqOpS x5 x11).bind fun x12 => (bif (!x12) then some false else ((laws_toInt64S aAVector).bind fun x13 => ((laws_eqInt64S x6 x13).bind fun x14 => (bif (!x14) then some false else ((laws_markOpS x5 1).bind fun x15 => ((laws_markInt64S x6 x15.1).bind fun x16 => (((bif (decide (x16.1 < 0)) then some true else ((laws_eqInt64S x7.1 x4.1).bind fun x17 => (bif (!x17) then some true else some (x7.2 != x4.2))))).bind fun (j18 : Bool) => (bif j18 then some false else ((laws_markInt64S x7.1 1).bind fun x20 => ((laws_heldInt64S x20.2 1).bind fun x21 => (bif (decide (x21 < 0)) then some false else (bif (x21 != x20.1) then some false else ((laws_toOpS aALog).bind fun x22 => ((laws_toInt64S aAVector).bind fun x23 => ((impl_MissingFor x22 x23).bind fun x24 => ((((laws_eqInt64S x24.1 x4.1).bind fun x25 => (bif (!x25) then some true else some (x24.2 != x4.2)))).bind fun (j26 : Bool) => (bif j26 then some false else ((laws_heldInt64S x20.2 1).bind fun x28 => (bif (decide (x28 < 0)) then some false else (bif (x28 != x20.1) then some false else some true)))))))))))))))))))))))))))))))))
set_option maxRecDepth 100000 in
set_option maxHeartbeats 4000000 in
theorem laws_FnExactMissingFor_run (aALog : (List Op)) (aAVector : (List Int)) (r : Bool) (h : laws_FnExactMissingFor aALog aAVector = some r) : SCall Tryd.prog 6 [.v (vl eOp aALog), .v (vl (eI .i64) aAVector)] ⟨[.v (vb r)], [], false⟩ := by
  refine scall_in Tryd.func6 rfl [(.tmp 4)] rfl (fun r => ⟨[.v (vb r)], [], false⟩) (r := r) ?_
  unfold laws_FnExactMissingFor at h
  refine swp_seq ?_
  refine swp_reg ?_
  refine SRun.ck tbokGB 1 ⟨117, [(0, vl eOp aALog), (1, vl (eI .i64) aAVector)], []⟩ ?_
  refine SRun.nil ?_
  refine nx_n ?_
  refine swp_seq ?_
  refine swp_seq ?_
  refine swp_reg ?_
  refine SRun.ck tbokGB 3 ⟨117, [(0, vl eOp aALog), (1, vl (eI .i64) aAVector), (19, vb (decide ((aAVector.length : Int) > 1048576)))], []⟩ ?_
  refine SRun.nil ?_
  refine nx_n ?_
  refine swp_cond (b := (decide ((aAVector.length : Int) > 1048576))) (by kernel_rfl) (fun hb => ?_) (fun hb => ?_)
  replace h := cond_t hb h
  refine swp_seq ?_
  refine swp_reg ?_
  refine SRun.ck tbokGB 1 ⟨117, [(4, vb true)], []⟩ ?_
  refine SRun.nil ?_
  refine nx_n ?_
  refine swp_ret ?_
  replace h := Option.some.inj h
  subst h
  exact nx_r (q_fr (fin1 (by kernel_rfl) (finV rfl SV.flat_of (holds_t (by kernel_rfl)))))
  replace h := cond_f hb h
  refine swp_skip ?_
  refine nx_n ?_
  refine swp_seq ?_
  refine swp_reg ?_
  refine SRun.ck tbokGB 1 ⟨117, [(0, vl eOp aALog), (1, vl (eI .i64) aAVector), (5, vi 1048576)], []⟩ ?_
  refine SRun.nil ?_
  refine nx_n ?_
  refine swp_seq ?_
  refine swp_reg ?_
  refine SRun.ck tbokGB 2 ⟨117, [(0, vl eOp aALog), (1, vl (eI .i64) aAVector), (20, vl eOp aALog), (21, vi 1048576)], []⟩ ?_
  obtain ⟨x1, hx1, h⟩ := bind_some h
  refine SRun.ls (x_lstep_call (f := 12) (caps := []) (xs := [vl eOp aALog, vi 1048576]) (ys := [vl eOp aALog, vi 1048576]) (res := ⟨[.v (vi x1)], [], false⟩) (x := vi x1) (y := none) rfl ents12 (laws_szOpS_run aALog 1048576 _ hx1) rfl (by intro hc; cases hc)) ?_
  refine SRun.ck tbokGB 1 ⟨117, [(0, vl eOp aALog), (1, vl (eI .i64) aAVector), (5, vi x1)], []⟩ ?_
  refine SRun.nil ?_
  refine nx_n ?_
  refine swp_seq ?_
  refine swp_seq ?_
  refine swp_reg ?_
  refine SRun.ck tbokGB 2 ⟨117, [(0, vl eOp aALog), (1, vl (eI .i64) aAVector), (24, vb (decide (x1 < 0)))], []⟩ ?_
  refine SRun.nil ?_
  refine nx_n ?_
  refine swp_cond (b := (decide (x1 < 0))) (by kernel_rfl) (fun hb => ?_) (fun hb => ?_)
  replace h := cond_t hb h
  refine swp_seq ?_
  refine swp_reg ?_
  refine SRun.ck tbokGB 1 ⟨117, [(4, vb true)], []⟩ ?_
  refine SRun.nil ?_
  refine nx_n ?_
  refine swp_ret ?_
  replace h := Option.some.inj h
  subst h
  exact nx_r (q_fr (fin1 (by kernel_rfl) (finV rfl SV.flat_of (holds_t (by kernel_rfl)))))
  replace h := cond_f hb h
  refine swp_skip ?_
  refine nx_n ?_
  refine swp_seq ?_
  refine swp_reg ?_
  refine SRun.ck tbokGB 1 ⟨117, [(0, vl eOp aALog), (1, vl (eI .i64) aAVector), (26, vl eOp aALog)], []⟩ ?_
  obtain ⟨x2, hx2, h⟩ := bind_some h
  refine SRun.ls (x_lstep_call (f := 14) (caps := []) (xs := [vl eOp aALog]) (ys := [vl eOp aALog]) (res := ⟨[.deep 61 5 x2.length [.flat, .flat, .flat, .flat, (.sl 2 1 [.flat])] (x2.map eOp)], [], false⟩) (x := .own 27) (y := some (.deep 61 5 x2.length [.flat, .flat, .flat, .flat, (.sl 2 1 [.flat])] (x2.map eOp))) rfl ents14 (laws_toOpS_run aALog _ hx2) rfl (by intro hc; cases hc)) ?_
  refine SRun.ck tbokGB 1 ⟨117, [(0, vl eOp aALog), (1, vl (eI .i64) aAVector), (27, .own 27), (28, vl (eI .i64) aAVector)], [(27, .deep 61 5 x2.length [.flat, .flat, .flat, .flat, (.sl 2 1 [.flat])] (x2.map eOp))]⟩ ?_
  obtain ⟨x3, hx3, h⟩ := bind_some h
  refine SRun.ls (x_lstep_call (f := 26) (caps := []) (xs := [vl (eI .i64) aAVector]) (ys := [vl (eI .i64) aAVector]) (res := ⟨[.own 2 1 x3.length (x3.map (eI .i64))], [], false⟩) (x := .own 29) (y := some (.arr 2 1 x3.length (x3.map (eI .i64)))) rfl ents26 (laws_toInt64S_run aAVector _ hx3) rfl (by intro hc; cases hc)) ?_
  obtain ⟨x4, hx4, h⟩ := bind_some h
  refine SRun.ls (x_lstep_call (f := 25) (caps := []) (xs := [.own 27, .own 29]) (ys := [vl eOp x2, vl (eI .i64) x3]) (res := ⟨[.own 2 1 x4.1.length (x4.1.map (eI .i64)), .v (vi x4.2)], [], false⟩) (x := .tup [.own 30, vi x4.2]) (y := some (.arr 2 1 x4.1.length (x4.1.map (eI .i64)))) rfl ents25 (spec_MissingFor_run x2 x3 _ hx4) rfl (by intro hc; cases hc)) ?_
  refine SRun.ck tbokGB 5 ⟨117, [(0, vl eOp aALog), (1, vl (eI .i64) aAVector), (6, .own 30), (7, vi x4.2)], [(30, .arr 2 1 x4.1.length (x4.1.map (eI .i64)))]⟩ ?_
  refine SRun.nil ?_
  refine nx_n ?_
  refine swp_seq ?_
  refine swp_reg ?_
  refine SRun.ck tbokGB 1 ⟨117, [(0, vl eOp aALog), (1, vl (eI .i64) aAVector), (6, .own 30), (7, vi x4.2), (33, vl eOp aALog)], [(30, .arr 2 1 x4.1.length (x4.1.map (eI .i64)))]⟩ ?_
  obtain ⟨x5, hx5, h⟩ := bind_some h
  refine SRun.ls (x_lstep_call (f := 14) (caps := []) (xs := [vl eOp aALog]) (ys := [vl eOp aALog]) (res := ⟨[.deep 61 5 x5.length [.flat, .flat, .flat, .flat, (.sl 2 1 [.flat])] (x5.map eOp)], [], false⟩) (x := .own 34) (y := some (.deep 61 5 x5.length [.flat, .flat, .flat, .flat, (.sl 2 1 [.flat])] (x5.map eOp))) rfl ents14 (laws_toOpS_run aALog _ hx5) rfl (by intro hc; cases hc)) ?_
  refine SRun.ck tbokGB 1 ⟨117, [(0, vl eOp aALog), (1, vl (eI .i64) aAVector), (6, .own 30), (7, vi x4.2), (8, .own 34)], [(30, .arr 2 1 x4.1.length (x4.1.map (eI .i64))), (34, .deep 61 5 x5.length [.flat, .flat, .flat, .flat, (.sl 2 1 [.flat])] (x5.map eOp))]⟩ ?_
  refine SRun.nil ?_
  refine nx_n ?_
  refine swp_seq ?_
  refine swp_reg ?_
  refine SRun.ck tbokGB 1 ⟨117, [(0, vl eOp aALog), (1, vl (eI .i64) aAVector), (6, .own 30), (7, vi x4.2), (8, .own 34), (35, vl (eI .i64) aAVector)], [(30, .arr 2 1 x4.1.length (x4.1.map (eI .i64))), (34, .deep 61 5 x5.length [.flat, .flat, .flat, .flat, (.sl 2 1 [.flat])] (x5.map eOp))]⟩ ?_
  obtain ⟨x6, hx6, h⟩ := bind_some h
  refine SRun.ls (x_lstep_call (f := 26) (caps := []) (xs := [vl (eI .i64) aAVector]) (ys := [vl (eI .i64) aAVector]) (res := ⟨[.own 2 1 x6.length (x6.map (eI .i64))], [], false⟩) (x := .own 36) (y := some (.arr 2 1 x6.length (x6.map (eI .i64)))) rfl ents26 (laws_toInt64S_run aAVector _ hx6) rfl (by intro hc; cases hc)) ?_
  refine SRun.ck tbokGB 1 ⟨117, [(0, vl eOp aALog), (1, vl (eI .i64) aAVector), (6, .own 30), (7, vi x4.2), (8, .own 34), (9, .own 36)], [(30, .arr 2 1 x4.1.length (x4.1.map (eI .i64))), (34, .deep 61 5 x5.length [.flat, .flat, .flat, .flat, (.sl 2 1 [.flat])] (x5.map eOp)), (36, .arr 2 1 x6.length (x6.map (eI .i64)))]⟩ ?_
  refine SRun.nil ?_
  refine nx_n ?_
  refine swp_seq ?_
  refine swp_reg ?_
  refine SRun.ck tbokGB 2 ⟨117, [(0, vl eOp aALog), (1, vl (eI .i64) aAVector), (6, .own 30), (7, vi x4.2), (8, .own 34), (9, .own 36), (38, .own 34), (39, .own 36)], [(30, .arr 2 1 x4.1.length (x4.1.map (eI .i64))), (34, .deep 61 5 x5.length [.flat, .flat, .flat, .flat, (.sl 2 1 [.flat])] (x5.map eOp)), (36, .arr 2 1 x6.length (x6.map (eI .i64)))]⟩ ?_
  obtain ⟨x7, hx7, h⟩ := bind_some h
  refine SRun.ls (x_lstep_call (f := 27) (caps := []) (xs := [.own 34, .own 36]) (ys := [vl eOp x5, vl (eI .i64) x6]) (res := ⟨[.own 2 1 x7.1.length (x7.1.map (eI .i64)), .v (vi x7.2)], [], false⟩) (x := .tup [.own 40, vi x7.2]) (y := some (.arr 2 1 x7.1.length (x7.1.map (eI .i64)))) rfl ents27 (impl_MissingFor_run x5 x6 _ hx7) rfl (by intro hc; cases hc)) ?_
  refine SRun.ck tbokGB 5 ⟨117, [(0, vl eOp aALog), (1, vl (eI .i64) aAVector), (6, .own 30), (7, vi x4.2), (8, .own 34), (9, .own 36), (10, .own 40), (11, vi x7.2)], [(30, .arr 2 1 x4.1.length (x4.1.map (eI .i64))), (34, .deep 61 5 x5.length [.flat, .flat, .flat, .flat, (.sl 2 1 [.flat])] (x5.map eOp)), (36, .arr 2 1 x6.length (x6.map (eI .i64))), (40, .arr 2 1 x7.1.length (x7.1.map (eI .i64)))]⟩ ?_
  refine SRun.nil ?_
  refine nx_n ?_
  refine swp_seq ?_
  refine swp_seq ?_
  refine swp_regJ h (fun j9 => ⟨117, [(0, vl eOp aALog), (1, vl (eI .i64) aAVector), (6, .own 6), (7, vi x4.2), (8, .own 8), (9, .own 9), (10, .own 10), (11, vi x7.2), (51, vb j9)], [(6, .arr 2 1 x4.1.length (x4.1.map (eI .i64))), (8, .deep 61 5 x5.length [.flat, .flat, .flat, .flat, (.sl 2 1 [.flat])] (x5.map eOp)), (9, .arr 2 1 x6.length (x6.map (eI .i64))), (10, .arr 2 1 x7.1.length (x7.1.map (eI .i64)))]⟩) (fun v10 h => ?_) (fun j9 h => ?_)
  refine SRun.ck tbokGB 2 ⟨117, [(0, vl eOp aALog), (1, vl (eI .i64) aAVector), (6, .own 30), (7, vi x4.2), (8, .own 34), (9, .own 36), (10, .own 40), (11, vi x7.2), (43, .own 40), (44, .own 30)], [(30, .arr 2 1 x4.1.length (x4.1.map (eI .i64))), (34, .deep 61 5 x5.length [.flat, .flat, .flat, .flat, (.sl 2 1 [.flat])] (x5.map eOp)), (36, .arr 2 1 x6.length (x6.map (eI .i64))), (40, .arr 2 1 x7.1.length (x7.1.map (eI .i64)))]⟩ ?_
  obtain ⟨x8, hx8, h⟩ := bind_some h
  refine SRun.ls (x_lstep_call (f := 21) (caps := []) (xs := [.own 40, .own 30]) (ys := [vl (eI .i64) x7.1, vl (eI .i64) x4.1]) (res := ⟨[.v (vb x8)], [], false⟩) (x := vb x8) (y := none) rfl ents21 (laws_eqInt64S_run x7.1 x4.1 _ hx8) rfl (by intro hc; cases hc)) ?_
  refine SRun.ck tbokGB 2 ⟨117, [(0, vl eOp aALog), (1, vl (eI .i64) aAVector), (6, .own 30), (7, vi x4.2), (8, .own 34), (9, .own 36), (10, .own 40), (11, vi x7.2), (47, vb (!x8))], [(30, .arr 2 1 x4.1.length (x4.1.map (eI .i64))), (34, .deep 61 5 x5.length [.flat, .flat, .flat, .flat, (.sl 2 1 [.flat])] (x5.map eOp)), (36, .arr 2 1 x6.length (x6.map (eI .i64))), (40, .arr 2 1 x7.1.length (x7.1.map (eI .i64)))]⟩ ?_
  refine SRun.cut [(47, fun b => b)] (b := (!x8)) (by kernel_rfl) (fun hb => ?_) (fun hb => ?_)
  replace h := cond_t hb h
  refine SRun.ck tbokGB 4 ⟨117, [(0, vl eOp aALog), (1, vl (eI .i64) aAVector), (6, .own 30), (7, vi x4.2), (8, .own 34), (9, .own 36), (10, .own 40), (11, vi x7.2), (51, vb true)], [(30, .arr 2 1 x4.1.length (x4.1.map (eI .i64))), (34, .deep 61 5 x5.length [.flat, .flat, .flat, .flat, (.sl 2 1 [.flat])] (x5.map eOp)), (36, .arr 2 1 x6.length (x6.map (eI .i64))), (40, .arr 2 1 x7.1.length (x7.1.map (eI .i64)))]⟩ ?_
  refine SRun.nil ?_
  replace h := Option.some.inj h
  subst h
  exact (Le.sub' ([(0, vl eOp aALog), (1, vl (eI .i64) aAVector), (6, .own 30), (7, vi x4.2), (8, .own 34), (9, .own 36), (10, .own 40), (11, vi x7.2), (51, vb true)] : List (Nat × SV)) ([(30, .arr 2 1 x4.1.length (x4.1.map (eI .i64))), (34, .deep 61 5 x5.length [.flat, .flat, .flat, .flat, (.sl 2 1 [.flat])] (x5.map eOp)), (36, .arr 2 1 x6.length (x6.map (eI .i64))), (40, .arr 2 1 x7.1.length (x7.1.map (eI .i64)))] : List (Nat × SO)) (by kernel_rfl) (by kernel_rfl)).trans ((Le.ren' (d := 30) (e := 6) (by kernel_rfl) (by kernel_rfl) (by kernel_rfl)).trans ((Le.ren' (d := 34) (e := 8) (by kernel_rfl) (by kernel_rfl) (by kernel_rfl)).trans ((Le.ren' (d := 36) (e := 9) (by kernel_rfl) (by kernel_rfl) (by kernel_rfl)).trans ((Le.ren' (d := 40) (e := 10) (by kernel_rfl) (by kernel_rfl) (by kernel_rfl)).trans (Le.sub0)))))
  replace h := cond_f hb h
  refine SRun.ck tbokGB 4 ⟨117, [(0, vl eOp aALog), (1, vl (eI .i64) aAVector), (6, .own 30), (7, vi x4.2), (8, .own 34), (9, .own 36), (10, .own 40), (11, vi x7.2), (51, vb (x7.2 != x4.2))], [(30, .arr 2 1 x4.1.length (x4.1.map (eI .i64))), (34, .deep 61 5 x5.length [.flat, .flat, .flat, .flat, (.sl 2 1 [.flat])] (x5.map eOp)), (36, .arr 2 1 x6.length (x6.map (eI .i64))), (40, .arr 2 1 x7.1.length (x7.1.map (eI .i64)))]⟩ ?_
  refine SRun.nil ?_
  replace h := Option.some.inj h
  subst h
  exact (Le.sub' ([(0, vl eOp aALog), (1, vl (eI .i64) aAVector), (6, .own 30), (7, vi x4.2), (8, .own 34), (9, .own 36), (10, .own 40), (11, vi x7.2), (51, vb (x7.2 != x4.2))] : List (Nat × SV)) ([(30, .arr 2 1 x4.1.length (x4.1.map (eI .i64))), (34, .deep 61 5 x5.length [.flat, .flat, .flat, .flat, (.sl 2 1 [.flat])] (x5.map eOp)), (36, .arr 2 1 x6.length (x6.map (eI .i64))), (40, .arr 2 1 x7.1.length (x7.1.map (eI .i64)))] : List (Nat × SO)) (by kernel_rfl) (by kernel_rfl)).trans ((Le.ren' (d := 30) (e := 6) (by kernel_rfl) (by kernel_rfl) (by kernel_rfl)).trans ((Le.ren' (d := 34) (e := 8) (by kernel_rfl) (by kernel_rfl) (by kernel_rfl)).trans ((Le.ren' (d := 36) (e := 9) (by kernel_rfl) (by kernel_rfl) (by kernel_rfl)).trans ((Le.ren' (d := 40) (e := 10) (by kernel_rfl) (by kernel_rfl) (by kernel_rfl)).trans (Le.sub0)))))
  refine swp_cond (b := j9) (by kernel_rfl) (fun hb => ?_) (fun hb => ?_)
  replace h := cond_t hb h
  refine swp_seq ?_
  refine swp_reg ?_
  refine SRun.ck tbokGB 1 ⟨117, [(4, vb false)], []⟩ ?_
  refine SRun.nil ?_
  refine nx_n ?_
  refine swp_ret ?_
  replace h := Option.some.inj h
  subst h
  exact nx_r (q_fr (fin1 (by kernel_rfl) (finV rfl SV.flat_of (holds_t (by kernel_rfl)))))
  replace h := cond_f hb h
  refine swp_skip ?_
  refine nx_n ?_
  refine swp_seq ?_
  refine swp_seq ?_
  refine swp_reg ?_
  refine SRun.ck tbokGB 2 ⟨117, [(0, vl eOp aALog), (1, vl (eI .i64) aAVector), (6, .own 6), (7, vi x4.2), (8, .own 8), (9, .own 9), (10, .own 10), (11, vi x7.2), (52, .own 8), (53, vl eOp aALog)], [(6, .arr 2 1 x4.1.length (x4.1.map (eI .i64))), (8, .deep 61 5 x5.length [.flat, .flat, .flat, .flat, (.sl 2 1 [.flat])] (x5.map eOp)), (9, .arr 2 1 x6.length (x6.map (eI .i64))), (10, .arr 2 1 x7.1.length (x7.1.map (eI .i64)))]⟩ ?_
  obtain ⟨x11, hx11, h⟩ := bind_some h
  refine SRun.ls (x_lstep_call (f := 14) (caps := []) (xs := [vl eOp aALog]) (ys := [vl eOp aALog]) (res := ⟨[.deep 61 5 x11.length [.flat, .flat, .flat, .flat, (.sl 2 1 [.flat])] (x11.map eOp)], [], false⟩) (x := .own 54) (y := some (.deep 61 5 x11.length [.flat, .flat, .flat, .flat, (.sl 2 1 [.flat])] (x11.map eOp))) rfl ents14 (laws_toOpS_run aALog _ hx11) rfl (by intro hc; cases hc)) ?_
  obtain ⟨x12, hx12, h⟩ := bind_some h
  refine SRun.ls (x_lstep_call (f := 16) (caps := []) (xs := [.own 8, .own 54]) (ys := [vl eOp x5, vl eOp x11]) (res := ⟨[.v (vb x12)], [], false⟩) (x := vb x12) (y := none) rfl ents16 (laws_eqOpS_run x5 x11 _ hx12) rfl (by intro hc; cases hc)) ?_
  refine SRun.ck tbokGB 1 ⟨117, [(0, vl eOp aALog), (1, vl (eI .i64) aAVector), (6, .own 6), (7, vi x4.2), (8, .own 8), (9, .own 9), (10, .own 10), (11, vi x7.2), (56, vb (!x12))], [(6, .arr 2 1 x4.1.length (x4.1.map (eI .i64))), (8, .deep 61 5 x5.length [.flat, .flat, .flat, .flat, (.sl 2 1 [.flat])] (x5.map eOp)), (9, .arr 2 1 x6.length (x6.map (eI .i64))), (10, .arr 2 1 x7.1.length (x7.1.map (eI .i64)))]⟩ ?_
  refine SRun.nil ?_
  refine nx_n ?_
  refine swp_cond (b := (!x12)) (by kernel_rfl) (fun hb => ?_) (fun hb => ?_)
  replace h := cond_t hb h
  refine swp_seq ?_
  refine swp_reg ?_
  refine SRun.ck tbokGB 1 ⟨117, [(4, vb false)], []⟩ ?_
  refine SRun.nil ?_
  refine nx_n ?_
  refine swp_ret ?_
  replace h := Option.some.inj h
  subst h
  exact nx_r (q_fr (fin1 (by kernel_rfl) (finV rfl SV.flat_of (holds_t (by kernel_rfl)))))
  replace h := cond_f hb h
  refine swp_skip ?_
  refine nx_n ?_
  refine swp_seq ?_
  refine swp_seq ?_
  refine swp_reg ?_
  refine SRun.ck tbokGB 2 ⟨117, [(0, vl eOp aALog), (1, vl (eI .i64) aAVector), (6, .own 6), (7, vi x4.2), (8, .own 8), (9, .own 9), (10, .own 10), (11, vi x7.2), (57, .own 9), (58, vl (eI .i64) aAVector)], [(6, .arr 2 1 x4.1.length (x4.1.map (eI .i64))), (8, .deep 61 5 x5.length [.flat, .flat, .flat, .flat, (.sl 2 1 [.flat])] (x5.map eOp)), (9, .arr 2 1 x6.length (x6.map (eI .i64))), (10, .arr 2 1 x7.1.length (x7.1.map (eI .i64)))]⟩ ?_
  obtain ⟨x13, hx13, h⟩ := bind_some h
  refine SRun.ls (x_lstep_call (f := 26) (caps := []) (xs := [vl (eI .i64) aAVector]) (ys := [vl (eI .i64) aAVector]) (res := ⟨[.own 2 1 x13.length (x13.map (eI .i64))], [], false⟩) (x := .own 59) (y := some (.arr 2 1 x13.length (x13.map (eI .i64)))) rfl ents26 (laws_toInt64S_run aAVector _ hx13) rfl (by intro hc; cases hc)) ?_
  obtain ⟨x14, hx14, h⟩ := bind_some h
  refine SRun.ls (x_lstep_call (f := 21) (caps := []) (xs := [.own 9, .own 59]) (ys := [vl (eI .i64) x6, vl (eI .i64) x13]) (res := ⟨[.v (vb x14)], [], false⟩) (x := vb x14) (y := none) rfl ents21 (laws_eqInt64S_run x6 x13 _ hx14) rfl (by intro hc; cases hc)) ?_
  refine SRun.ck tbokGB 1 ⟨117, [(0, vl eOp aALog), (1, vl (eI .i64) aAVector), (6, .own 6), (7, vi x4.2), (8, .own 8), (9, .own 9), (10, .own 10), (11, vi x7.2), (61, vb (!x14))], [(6, .arr 2 1 x4.1.length (x4.1.map (eI .i64))), (8, .deep 61 5 x5.length [.flat, .flat, .flat, .flat, (.sl 2 1 [.flat])] (x5.map eOp)), (9, .arr 2 1 x6.length (x6.map (eI .i64))), (10, .arr 2 1 x7.1.length (x7.1.map (eI .i64)))]⟩ ?_
  refine SRun.nil ?_
  refine nx_n ?_
  refine swp_cond (b := (!x14)) (by kernel_rfl) (fun hb => ?_) (fun hb => ?_)
  replace h := cond_t hb h
  refine swp_seq ?_
  refine swp_reg ?_
  refine SRun.ck tbokGB 1 ⟨117, [(4, vb false)], []⟩ ?_
  refine SRun.nil ?_
  refine nx_n ?_
  refine swp_ret ?_
  replace h := Option.some.inj h
  subst h
  exact nx_r (q_fr (fin1 (by kernel_rfl) (finV rfl SV.flat_of (holds_t (by kernel_rfl)))))
  replace h := cond_f hb h
  refine swp_skip ?_
  refine nx_n ?_
  refine swp_seq ?_
  refine swp_reg ?_
  refine SRun.ck tbokGB 1 ⟨117, [(0, vl eOp aALog), (1, vl (eI .i64) aAVector), (6, .own 6), (7, vi x4.2), (8, .own 8), (9, .own 9), (10, .own 10), (11, vi x7.2), (12, vi 1)], [(6, .arr 2 1 x4.1.length (x4.1.map (eI .i64))), (8, .deep 61 5 x5.length [.flat, .flat, .flat, .flat, (.sl 2 1 [.flat])] (x5.map eOp)), (9, .arr 2 1 x6.length (x6.map (eI .i64))), (10, .arr 2 1 x7.1.length (x7.1.map (eI .i64)))]⟩ ?_
  refine SRun.nil ?_
  refine nx_n ?_
  refine swp_seq ?_
  refine swp_reg ?_
  refine SRun.ck tbokGB 2 ⟨117, [(0, vl eOp aALog), (1, vl (eI .i64) aAVector), (6, .own 6), (7, vi x4.2), (9, .own 9), (10, .own 10), (11, vi x7.2), (62, .own 8), (63, vi 1)], [(6, .arr 2 1 x4.1.length (x4.1.map (eI .i64))), (8, .deep 61 5 x5.length [.flat, .flat, .flat, .flat, (.sl 2 1 [.flat])] (x5.map eOp)), (9, .arr 2 1 x6.length (x6.map (eI .i64))), (10, .arr 2 1 x7.1.length (x7.1.map (eI .i64)))]⟩ ?_
  obtain ⟨x15, hx15, h⟩ := bind_some h
  refine SRun.estep (x_estep_call (f := 22) (caps := []) (xs := [.own 8, vi 1]) (pre := []) (post := [vi 1]) (qs := [vi 1]) (z := .own 8) (d := 8) (pl := 0) (y := .deep 61 5 x5.length [.flat, .flat, .flat, .flat, (.sl 2 1 [.flat])] (x5.map eOp)) (y' := .deep 61 5 x15.2.length [.flat, .flat, .flat, .flat, (.sl 2 1 [.flat])] (x15.2.map eOp)) (res := ⟨[.v (vi x15.1)], [(0, .deep 61 5 x15.2.length [.flat, .flat, .flat, .flat, (.sl 2 1 [.flat])] (x15.2.map eOp))], false⟩) (x := vi x15.1) (yo := none) rfl rfl rfl rfl rfl ents22 (laws_markOpS_run x5 1 _ hx15) rfl rfl false (fun _ => rfl) (by intro hc; cases hc)) ?_
  refine SRun.ck tbokGB 1 ⟨117, [(0, vl eOp aALog), (1, vl (eI .i64) aAVector), (6, .own 6), (7, vi x4.2), (9, .own 9), (10, .own 10), (11, vi x7.2), (12, vi x15.1)], [(6, .arr 2 1 x4.1.length (x4.1.map (eI .i64))), (9, .arr 2 1 x6.length (x6.map (eI .i64))), (10, .arr 2 1 x7.1.length (x7.1.map (eI .i64)))]⟩ ?_
  refine SRun.nil ?_
  refine nx_n ?_
  refine swp_seq ?_
  refine swp_reg ?_
  refine SRun.ck tbokGB 2 ⟨117, [(0, vl eOp aALog), (1, vl (eI .i64) aAVector), (6, .own 6), (7, vi x4.2), (10, .own 10), (11, vi x7.2), (65, .own 9), (66, vi x15.1)], [(6, .arr 2 1 x4.1.length (x4.1.map (eI .i64))), (9, .arr 2 1 x6.length (x6.map (eI .i64))), (10, .arr 2 1 x7.1.length (x7.1.map (eI .i64)))]⟩ ?_
  obtain ⟨x16, hx16, h⟩ := bind_some h
  refine SRun.estep (x_estep_call (f := 23) (caps := []) (xs := [.own 9, vi x15.1]) (pre := []) (post := [vi x15.1]) (qs := [vi x15.1]) (z := .own 9) (d := 9) (pl := 0) (y := .arr 2 1 x6.length (x6.map (eI .i64))) (y' := .arr 2 1 x16.2.length (x16.2.map (eI .i64))) (res := ⟨[.v (vi x16.1)], [(0, .arr 2 1 x16.2.length (x16.2.map (eI .i64)))], false⟩) (x := vi x16.1) (yo := none) rfl rfl rfl rfl rfl ents23 (laws_markInt64S_run x6 x15.1 _ hx16) rfl rfl false (fun _ => rfl) (by intro hc; cases hc)) ?_
  refine SRun.ck tbokGB 1 ⟨117, [(0, vl eOp aALog), (1, vl (eI .i64) aAVector), (6, .own 6), (7, vi x4.2), (10, .own 10), (11, vi x7.2), (12, vi x16.1)], [(6, .arr 2 1 x4.1.length (x4.1.map (eI .i64))), (10, .arr 2 1 x7.1.length (x7.1.map (eI .i64)))]⟩ ?_
  refine SRun.nil ?_
  refine nx_n ?_
  refine swp_seq ?_
  refine swp_seq ?_
  refine swp_regJ h (fun j18 => ⟨117, [(0, vl eOp aALog), (1, vl (eI .i64) aAVector), (6, .own 6), (7, vi x4.2), (10, .own 10), (80, vb j18)], [(6, .arr 2 1 x4.1.length (x4.1.map (eI .i64))), (10, .arr 2 1 x7.1.length (x7.1.map (eI .i64)))]⟩) (fun v19 h => ?_) (fun j18 h => ?_)
  refine SRun.ck tbokGB 3 ⟨117, [(0, vl eOp aALog), (1, vl (eI .i64) aAVector), (6, .own 6), (7, vi x4.2), (10, .own 10), (11, vi x7.2), (70, vb (decide (x16.1 < 0)))], [(6, .arr 2 1 x4.1.length (x4.1.map (eI .i64))), (10, .arr 2 1 x7.1.length (x7.1.map (eI .i64)))]⟩ ?_
  refine SRun.cut [(70, fun b => b)] (b := (decide (x16.1 < 0))) (by kernel_rfl) (fun hb => ?_) (fun hb => ?_)
  replace h := cond_t hb h
  refine SRun.ck tbokGB 10 ⟨117, [(0, vl eOp aALog), (1, vl (eI .i64) aAVector), (6, .own 6), (7, vi x4.2), (10, .own 10), (80, vb true)], [(6, .arr 2 1 x4.1.length (x4.1.map (eI .i64))), (10, .arr 2 1 x7.1.length (x7.1.map (eI .i64)))]⟩ ?_
  refine SRun.nil ?_
  replace h := Option.some.inj h
  subst h
  exact Le.sub0
  replace h := cond_f hb h
  refine SRun.ck tbokGB 2 ⟨117, [(0, vl eOp aALog), (1, vl (eI .i64) aAVector), (6, .own 6), (7, vi x4.2), (10, .own 10), (11, vi x7.2), (70, vb false), (71, .own 10), (72, .own 6)], [(6, .arr 2 1 x4.1.length (x4.1.map (eI .i64))), (10, .arr 2 1 x7.1.length (x7.1.map (eI .i64)))]⟩ ?_
  obtain ⟨x17, hx17, h⟩ := bind_some h
  refine SRun.ls (x_lstep_call (f := 21) (caps := []) (xs := [.own 10, .own 6]) (ys := [vl (eI .i64) x7.1, vl (eI .i64) x4.1]) (res := ⟨[.v (vb x17)], [], false⟩) (x := vb x17) (y := none) rfl ents21 (laws_eqInt64S_run x7.1 x4.1 _ hx17) rfl (by intro hc; cases hc)) ?_
  refine SRun.ck tbokGB 3 ⟨117, [(0, vl eOp aALog), (1, vl (eI .i64) aAVector), (6, .own 6), (7, vi x4.2), (10, .own 10), (11, vi x7.2), (76, vb (!x17))], [(6, .arr 2 1 x4.1.length (x4.1.map (eI .i64))), (10, .arr 2 1 x7.1.length (x7.1.map (eI .i64)))]⟩ ?_
  refine SRun.cut [(76, fun b => b)] (b := (!x17)) (by kernel_rfl) (fun hb => ?_) (fun hb => ?_)
  replace h := cond_t hb h
  refine SRun.ck tbokGB 4 ⟨117, [(0, vl eOp aALog), (1, vl (eI .i64) aAVector), (6, .own 6), (7, vi x4.2), (10, .own 10), (80, vb true)], [(6, .arr 2 1 x4.1.length (x4.1.map (eI .i64))), (10, .arr 2 1 x7.1.length (x7.1.map (eI .i64)))]⟩ ?_
  refine SRun.nil ?_
  replace h := Option.some.inj h
  subst h
  exact Le.sub0
  replace h := cond_f hb h
  refine SRun.ck tbokGB 4 ⟨117, [(0, vl eOp aALog), (1, vl (eI .i64) aAVector), (6, .own 6), (7, vi x4.2), (10, .own 10), (80, vb (x7.2 != x4.2))], [(6, .arr 2 1 x4.1.length (x4.1.map (eI .i64))), (10, .arr 2 1 x7.1.length (x7.1.map (eI .i64)))]⟩ ?_
  refine SRun.nil ?_
  replace h := Option.some.inj h
  subst h
  exact Le.sub0
  refine swp_cond (b := j18) (by kernel_rfl) (fun hb => ?_) (fun hb => ?_)
  replace h := cond_t hb h
  refine swp_seq ?_
  refine swp_reg ?_
  refine SRun.ck tbokGB 1 ⟨117, [(4, vb false)], []⟩ ?_
  refine SRun.nil ?_
  refine nx_n ?_
  refine swp_ret ?_
  replace h := Option.some.inj h
  subst h
  exact nx_r (q_fr (fin1 (by kernel_rfl) (finV rfl SV.flat_of (holds_t (by kernel_rfl)))))
  replace h := cond_f hb h
  refine swp_skip ?_
  refine nx_n ?_
  refine swp_seq ?_
  refine swp_reg ?_
  refine SRun.ck tbokGB 1 ⟨117, [(0, vl eOp aALog), (1, vl (eI .i64) aAVector), (6, .own 6), (7, vi x4.2), (10, .own 10), (13, vi 1)], [(6, .arr 2 1 x4.1.length (x4.1.map (eI .i64))), (10, .arr 2 1 x7.1.length (x7.1.map (eI .i64)))]⟩ ?_
  refine SRun.nil ?_
  refine nx_n ?_
  refine swp_seq ?_
  refine swp_reg ?_
  refine SRun.ck tbokGB 2 ⟨117, [(0, vl eOp aALog), (1, vl (eI .i64) aAVector), (6, .own 6), (7, vi x4.2), (10, .own 10), (81, .own 10), (82, vi 1)], [(6, .arr 2 1 x4.1.length (x4.1.map (eI .i64))), (10, .arr 2 1 x7.1.length (x7.1.map (eI .i64)))]⟩ ?_
  obtain ⟨x20, hx20, h⟩ := bind_some h
  refine SRun.estep (x_estep_call (f := 23) (caps := []) (xs := [.own 10, vi 1]) (pre := []) (post := [vi 1]) (qs := [vi 1]) (z := .own 10) (d := 10) (pl := 0) (y := .arr 2 1 x7.1.length (x7.1.map (eI .i64))) (y' := .arr 2 1 x20.2.length (x20.2.map (eI .i64))) (res := ⟨[.v (vi x20.1)], [(0, .arr 2 1 x20.2.length (x20.2.map (eI .i64)))], false⟩) (x := vi x20.1) (yo := none) rfl rfl rfl rfl rfl ents23 (laws_markInt64S_run x7.1 1 _ hx20) rfl rfl false (fun _ => rfl) (by intro hc; cases hc)) ?_
  refine SRun.ck tbokGB 1 ⟨117, [(0, vl eOp aALog), (1, vl (eI .i64) aAVector), (6, .own 6), (7, vi x4.2), (10, .own 10), (13, vi x20.1)], [(6, .arr 2 1 x4.1.length (x4.1.map (eI .i64))), (10, .arr 2 1 x20.2.length (x20.2.map (eI .i64)))]⟩ ?_
  refine SRun.nil ?_
  refine nx_n ?_
  refine swp_seq ?_
  refine swp_reg ?_
  refine SRun.ck tbokGB 1 ⟨117, [(0, vl eOp aALog), (1, vl (eI .i64) aAVector), (6, .own 6), (7, vi x4.2), (10, .own 10), (13, vi x20.1), (14, vi 1)], [(6, .arr 2 1 x4.1.length (x4.1.map (eI .i64))), (10, .arr 2 1 x20.2.length (x20.2.map (eI .i64)))]⟩ ?_
  refine SRun.nil ?_
  refine nx_n ?_
  refine swp_seq ?_
  refine swp_reg ?_
  refine SRun.ck tbokGB 2 ⟨117, [(0, vl eOp aALog), (1, vl (eI .i64) aAVector), (6, .own 6), (7, vi x4.2), (10, .own 10), (13, vi x20.1), (84, .own 10), (85, vi 1)], [(6, .arr 2 1 x4.1.length (x4.1.map (eI .i64))), (10, .arr 2 1 x20.2.length (x20.2.map (eI .i64)))]⟩ ?_
  obtain ⟨x21, hx21, h⟩ := bind_some h
  refine SRun.ls (x_lstep_call (f := 24) (caps := []) (xs := [.own 10, vi 1]) (ys := [vl (eI .i64) x20.2, vi 1]) (res := ⟨[.v (vi x21)], [], false⟩) (x := vi x21) (y := none) rfl ents24 (laws_heldInt64S_run x20.2 1 _ hx21) rfl (by intro hc; cases hc)) ?_
  refine SRun.ck tbokGB 1 ⟨117, [(0, vl eOp aALog), (1, vl (eI .i64) aAVector), (6, .own 6), (7, vi x4.2), (10, .own 10), (13, vi x20.1), (14, vi x21)], [(6, .arr 2 1 x4.1.length (x4.1.map (eI .i64))), (10, .arr 2 1 x20.2.length (x20.2.map (eI .i64)))]⟩ ?_
  refine SRun.nil ?_
  refine nx_n ?_
  refine swp_seq ?_
  refine swp_seq ?_
  refine swp_reg ?_
  refine SRun.ck tbokGB 2 ⟨117, [(0, vl eOp aALog), (1, vl (eI .i64) aAVector), (6, .own 6), (7, vi x4.2), (10, .own 10), (13, vi x20.1), (14, vi x21), (88, vb (decide (x21 < 0)))], [(6, .arr 2 1 x4.1.length (x4.1.map (eI .i64))), (10, .arr 2 1 x20.2.length (x20.2.map (eI .i64)))]⟩ ?_
  refine SRun.nil ?_
  refine nx_n ?_
  refine swp_cond (b := (decide (x21 < 0))) (by kernel_rfl) (fun hb => ?_) (fun hb => ?_)
  replace h := cond_t hb h
  refine swp_seq ?_
  refine swp_reg ?_
  refine SRun.ck tbokGB 1 ⟨117, [(4, vb false)], []⟩ ?_
  refine SRun.nil ?_
  refine nx_n ?_
  refine swp_ret ?_
  replace h := Option.some.inj h
  subst h
  exact nx_r (q_fr (fin1 (by kernel_rfl) (finV rfl SV.flat_of (holds_t (by kernel_rfl)))))
  replace h := cond_f hb h
  refine swp_skip ?_
  refine nx_n ?_
  refine swp_seq ?_
  refine swp_seq ?_
  refine swp_reg ?_
  refine SRun.ck tbokGB 3 ⟨117, [(0, vl eOp aALog), (1, vl (eI .i64) aAVector), (6, .own 6), (7, vi x4.2), (10, .own 10), (13, vi x20.1), (91, vb (x21 != x20.1))], [(6, .arr 2 1 x4.1.length (x4.1.map (eI .i64))), (10, .arr 2 1 x20.2.length (x20.2.map (eI .i64)))]⟩ ?_
  refine SRun.nil ?_
  refine nx_n ?_
  refine swp_cond (b := (x21 != x20.1)) (by kernel_rfl) (fun hb => ?_) (fun hb => ?_)
  replace h := cond_t hb h
  refine swp_seq ?_
  refine swp_reg ?_
  refine SRun.ck tbokGB 1 ⟨117, [(4, vb false)], []⟩ ?_
  refine SRun.nil ?_
  refine nx_n ?_
  refine swp_ret ?_
  replace h := Option.some.inj h
  subst h
  exact nx_r (q_fr (fin1 (by kernel_rfl) (finV rfl SV.flat_of (holds_t (by kernel_rfl)))))
  replace h := cond_f hb h
  refine swp_skip ?_
  refine nx_n ?_
  refine swp_seq ?_
  refine swp_reg ?_
  refine SRun.ck tbokGB 1 ⟨117, [(1, vl (eI .i64) aAVector), (6, .own 6), (7, vi x4.2), (10, .own 10), (13, vi x20.1), (93, vl eOp aALog)], [(6, .arr 2 1 x4.1.length (x4.1.map (eI .i64))), (10, .arr 2 1 x20.2.length (x20.2.map (eI .i64)))]⟩ ?_
  obtain ⟨x22, hx22, h⟩ := bind_some h
  refine SRun.ls (x_lstep_call (f := 14) (caps := []) (xs := [vl eOp aALog]) (ys := [vl eOp aALog]) (res := ⟨[.deep 61 5 x22.length [.flat, .flat, .flat, .flat, (.sl 2 1 [.flat])] (x22.map eOp)], [], false⟩) (x := .own 94) (y := some (.deep 61 5 x22.length [.flat, .flat, .flat, .flat, (.sl 2 1 [.flat])] (x22.map eOp))) rfl ents14 (laws_toOpS_run aALog _ hx22) rfl (by intro hc; cases hc)) ?_
  refine SRun.ck tbokGB 1 ⟨117, [(6, .own 6), (7, vi x4.2), (10, .own 10), (13, vi x20.1), (94, .own 94), (95, vl (eI .i64) aAVector)], [(6, .arr 2 1 x4.1.length (x4.1.map (eI .i64))), (10, .arr 2 1 x20.2.length (x20.2.map (eI .i64))), (94, .deep 61 5 x22.length [.flat, .flat, .flat, .flat, (.sl 2 1 [.flat])] (x22.map eOp))]⟩ ?_
  obtain ⟨x23, hx23, h⟩ := bind_some h
  refine SRun.ls (x_lstep_call (f := 26) (caps := []) (xs := [vl (eI .i64) aAVector]) (ys := [vl (eI .i64) aAVector]) (res := ⟨[.own 2 1 x23.length (x23.map (eI .i64))], [], false⟩) (x := .own 96) (y := some (.arr 2 1 x23.length (x23.map (eI .i64)))) rfl ents26 (laws_toInt64S_run aAVector _ hx23) rfl (by intro hc; cases hc)) ?_
  obtain ⟨x24, hx24, h⟩ := bind_some h
  refine SRun.ls (x_lstep_call (f := 27) (caps := []) (xs := [.own 94, .own 96]) (ys := [vl eOp x22, vl (eI .i64) x23]) (res := ⟨[.own 2 1 x24.1.length (x24.1.map (eI .i64)), .v (vi x24.2)], [], false⟩) (x := .tup [.own 97, vi x24.2]) (y := some (.arr 2 1 x24.1.length (x24.1.map (eI .i64)))) rfl ents27 (impl_MissingFor_run x22 x23 _ hx24) rfl (by intro hc; cases hc)) ?_
  refine SRun.ck tbokGB 5 ⟨117, [(6, .own 6), (7, vi x4.2), (10, .own 10), (13, vi x20.1), (15, .own 97), (16, vi x24.2)], [(6, .arr 2 1 x4.1.length (x4.1.map (eI .i64))), (10, .arr 2 1 x20.2.length (x20.2.map (eI .i64))), (97, .arr 2 1 x24.1.length (x24.1.map (eI .i64)))]⟩ ?_
  refine SRun.nil ?_
  refine nx_n ?_
  refine swp_seq ?_
  refine swp_seq ?_
  refine swp_regJ h (fun j26 => ⟨117, [(10, .own 10), (13, vi x20.1), (108, vb j26)], [(10, .arr 2 1 x20.2.length (x20.2.map (eI .i64)))]⟩) (fun v27 h => ?_) (fun j26 h => ?_)
  refine SRun.ck tbokGB 2 ⟨117, [(7, vi x4.2), (10, .own 10), (13, vi x20.1), (16, vi x24.2), (100, .own 97), (101, .own 6)], [(6, .arr 2 1 x4.1.length (x4.1.map (eI .i64))), (10, .arr 2 1 x20.2.length (x20.2.map (eI .i64))), (97, .arr 2 1 x24.1.length (x24.1.map (eI .i64)))]⟩ ?_
  obtain ⟨x25, hx25, h⟩ := bind_some h
  refine SRun.ls (x_lstep_call (f := 21) (caps := []) (xs := [.own 97, .own 6]) (ys := [vl (eI .i64) x24.1, vl (eI .i64) x4.1]) (res := ⟨[.v (vb x25)], [], false⟩) (x := vb x25) (y := none) rfl ents21 (laws_eqInt64S_run x24.1 x4.1 _ hx25) rfl (by intro hc; cases hc)) ?_
  refine SRun.ck tbokGB 2 ⟨117, [(7, vi x4.2), (10, .own 10), (13, vi x20.1), (16, vi x24.2), (104, vb (!x25))], [(10, .arr 2 1 x20.2.length (x20.2.map (eI .i64)))]⟩ ?_
  refine SRun.cut [(104, fun b => b)] (b := (!x25)) (by kernel_rfl) (fun hb => ?_) (fun hb => ?_)
  replace h := cond_t hb h
  refine SRun.ck tbokGB 4 ⟨117, [(10, .own 10), (13, vi x20.1), (108, vb true)], [(10, .arr 2 1 x20.2.length (x20.2.map (eI .i64)))]⟩ ?_
  refine SRun.nil ?_
  replace h := Option.some.inj h
  subst h
  exact Le.sub0
  replace h := cond_f hb h
  refine SRun.ck tbokGB 4 ⟨117, [(10, .own 10), (13, vi x20.1), (108, vb (x24.2 != x4.2))], [(10, .arr 2 1 x20.2.length (x20.2.map (eI .i64)))]⟩ ?_
  refine SRun.nil ?_
  replace h := Option.some.inj h
  subst h
  exact Le.sub0
  refine swp_cond (b := j26) (by kernel_rfl) (fun hb => ?_) (fun hb => ?_)
  replace h := cond_t hb h
  refine swp_seq ?_
  refine swp_reg ?_
  refine SRun.ck tbokGB 1 ⟨117, [(4, vb false)], []⟩ ?_
  refine SRun.nil ?_
  refine nx_n ?_
  refine swp_ret ?_
  replace h := Option.some.inj h
  subst h
  exact nx_r (q_fr (fin1 (by kernel_rfl) (finV rfl SV.flat_of (holds_t (by kernel_rfl)))))
  replace h := cond_f hb h
  refine swp_skip ?_
  refine nx_n ?_
  refine swp_seq ?_
  refine swp_reg ?_
  refine SRun.ck tbokGB 1 ⟨117, [(10, .own 10), (13, vi x20.1), (14, vi 1)], [(10, .arr 2 1 x20.2.length (x20.2.map (eI .i64)))]⟩ ?_
  refine SRun.nil ?_
  refine nx_n ?_
  refine swp_seq ?_
  refine swp_reg ?_
  refine SRun.ck tbokGB 2 ⟨117, [(13, vi x20.1), (109, .own 10), (110, vi 1)], [(10, .arr 2 1 x20.2.length (x20.2.map (eI .i64)))]⟩ ?_
  obtain ⟨x28, hx28, h⟩ := bind_some h
  refine SRun.ls (x_lstep_call (f := 24) (caps := []) (xs := [.own 10, vi 1]) (ys := [vl (eI .i64) x20.2, vi 1]) (res := ⟨[.v (vi x28)], [], false⟩) (x := vi x28) (y := none) rfl ents24 (laws_heldInt64S_run x20.2 1 _ hx28) rfl (by intro hc; cases hc)) ?_
  refine SRun.ck tbokGB 1 ⟨117, [(13, vi x20.1), (14, vi x28)], []⟩ ?_
  refine SRun.nil ?_
  refine nx_n ?_
  refine swp_seq ?_
  refine swp_seq ?_
  refine swp_reg ?_
  refine SRun.ck tbokGB 2 ⟨117, [(13, vi x20.1), (14, vi x28), (113, vb (decide (x28 < 0)))], []⟩ ?_
  refine SRun.nil ?_
  refine nx_n ?_
  refine swp_cond (b := (decide (x28 < 0))) (by kernel_rfl) (fun hb => ?_) (fun hb => ?_)
  replace h := cond_t hb h
  refine swp_seq ?_
  refine swp_reg ?_
  refine SRun.ck tbokGB 1 ⟨117, [(4, vb false)], []⟩ ?_
  refine SRun.nil ?_
  refine nx_n ?_
  refine swp_ret ?_
  replace h := Option.some.inj h
  subst h
  exact nx_r (q_fr (fin1 (by kernel_rfl) (finV rfl SV.flat_of (holds_t (by kernel_rfl)))))
  replace h := cond_f hb h
  refine swp_skip ?_
  refine nx_n ?_
  refine swp_seq ?_
  refine swp_seq ?_
  refine swp_reg ?_
  refine SRun.ck tbokGB 3 ⟨117, [(116, vb (x28 != x20.1))], []⟩ ?_
  refine SRun.nil ?_
  refine nx_n ?_
  refine swp_cond (b := (x28 != x20.1)) (by kernel_rfl) (fun hb => ?_) (fun hb => ?_)
  replace h := cond_t hb h
  refine swp_seq ?_
  refine swp_reg ?_
  refine SRun.ck tbokGB 1 ⟨117, [(4, vb false)], []⟩ ?_
  refine SRun.nil ?_
  refine nx_n ?_
  refine swp_ret ?_
  replace h := Option.some.inj h
  subst h
  exact nx_r (q_fr (fin1 (by kernel_rfl) (finV rfl SV.flat_of (holds_t (by kernel_rfl)))))
  replace h := cond_f hb h
  refine swp_skip ?_
  refine nx_n ?_
  refine swp_seq ?_
  refine swp_reg ?_
  refine SRun.ck tbokGB 1 ⟨117, [(4, vb true)], []⟩ ?_
  refine SRun.nil ?_
  refine nx_n ?_
  refine swp_ret ?_
  replace h := Option.some.inj h
  subst h
  exact q_fr (fin1 (by kernel_rfl) (finV rfl SV.flat_of (holds_t (by kernel_rfl))))
theorem ents6 : Ents Tryd.prog 6 := ents_of Tryd.func6 (by kernel_rfl) rfl
noncomputable def spec_RivalsOf (aLog : (List Op)) (aKey : ByteArray) : Option ((List Int) × Int) :=
  ((spec_IsLog aLog).bind fun x1 => (bif (!x1) then some (([] : List Int), 1) else ((spec_l32Rivals aLog aKey).bind fun x2 => some (x2, 0))))
set_option maxRecDepth 100000 in
set_option maxHeartbeats 4000000 in
theorem spec_RivalsOf_run (aLog : (List Op)) (aKey : ByteArray) (r : (List Int) × Int) (h : spec_RivalsOf aLog aKey = some r) : SCall Tryd.prog 30 [.v (vl eOp aLog), .v (vs aKey)] ⟨[.own 2 1 r.1.length (r.1.map (eI .i64)), .v (vi r.2)], [], false⟩ := by
  refine scall_in Tryd.func30 rfl [(.tmp 4), (.tmp 5)] rfl (fun r => ⟨[.own 2 1 r.1.length (r.1.map (eI .i64)), .v (vi r.2)], [], false⟩) (r := r) ?_
  unfold spec_RivalsOf at h
  refine swp_seq ?_
  refine swp_reg ?_
  refine SRun.ck tbokGB 2 ⟨12, [(0, vl eOp aLog), (1, vs aKey)], []⟩ ?_
  refine SRun.nil ?_
  refine nx_n ?_
  refine swp_seq ?_
  refine swp_seq ?_
  refine swp_reg ?_
  refine SRun.ck tbokGB 1 ⟨12, [(0, vl eOp aLog), (1, vs aKey), (6, vl eOp aLog)], []⟩ ?_
  obtain ⟨x1, hx1, h⟩ := bind_some h
  refine SRun.ls (x_lstep_call (f := 13) (caps := []) (xs := [vl eOp aLog]) (ys := [vl eOp aLog]) (res := ⟨[.v (vb x1)], [], false⟩) (x := vb x1) (y := none) rfl ents13 (spec_IsLog_run aLog _ hx1) rfl (by intro hc; cases hc)) ?_
  refine SRun.ck tbokGB 1 ⟨12, [(0, vl eOp aLog), (1, vs aKey), (8, vb (!x1))], []⟩ ?_
  refine SRun.nil ?_
  refine nx_n ?_
  refine swp_cond (b := (!x1)) (by kernel_rfl) (fun hb => ?_) (fun hb => ?_)
  replace h := cond_t hb h
  refine swp_seq ?_
  refine swp_reg ?_
  refine SRun.ck tbokGB 2 ⟨12, [(4, .own 4), (5, vi 1)], [(4, .arr 2 1 ([] : List Int).length (([] : List Int).map (eI .i64)))]⟩ ?_
  refine SRun.nil ?_
  refine nx_n ?_
  refine swp_ret ?_
  replace h := Option.some.inj h
  subst h
  exact nx_r (q_fr (fin2 (by kernel_rfl) (finO (d := 4) (holds_t (by kernel_rfl)) (by kernel_rfl) (flat_map (eI_flat .i64) _) (by kernel_rfl)) (finV rfl SV.flat_of (holds_t (by kernel_rfl)))))
  replace h := cond_f hb h
  refine swp_skip ?_
  refine nx_n ?_
  refine swp_seq ?_
  refine swp_reg ?_
  refine SRun.ck tbokGB 2 ⟨12, [(9, vl eOp aLog), (10, vs aKey)], []⟩ ?_
  obtain ⟨x2, hx2, h⟩ := bind_some h
  refine SRun.ls (x_lstep_call (f := 61) (caps := []) (xs := [vl eOp aLog, vs aKey]) (ys := [vl eOp aLog, vs aKey]) (res := ⟨[.own 2 1 x2.length (x2.map (eI .i64))], [], false⟩) (x := .own 11) (y := some (.arr 2 1 x2.length (x2.map (eI .i64)))) rfl ents61 (spec_l32Rivals_run aLog aKey _ hx2) rfl (by intro hc; cases hc)) ?_
  refine SRun.ck tbokGB 2 ⟨12, [(4, .own 11), (5, vi 0)], [(11, .arr 2 1 x2.length (x2.map (eI .i64)))]⟩ ?_
  refine SRun.nil ?_
  refine nx_n ?_
  refine swp_ret ?_
  replace h := Option.some.inj h
  subst h
  exact q_fr (fin2 (by kernel_rfl) (finO (d := 11) (holds_t (by kernel_rfl)) (by kernel_rfl) (flat_map (eI_flat .i64) _) (by kernel_rfl)) (finV rfl SV.flat_of (holds_t (by kernel_rfl))))
theorem ents30 : Ents Tryd.prog 30 := ents_of Tryd.func30 (by kernel_rfl) rfl
noncomputable def impl_RivalsOf (aLog : (List Op)) (aKey : ByteArray) : Option ((List Int) × Int) :=
  ((impl_IsLog aLog).bind fun x1 => (bif (!x1) then some (([] : List Int), 1) else ((impl_rivalsOf aLog aKey).bind fun x2 => some (x2, 0))))
set_option maxRecDepth 100000 in
set_option maxHeartbeats 4000000 in
theorem impl_RivalsOf_run (aLog : (List Op)) (aKey : ByteArray) (r : (List Int) × Int) (h : impl_RivalsOf aLog aKey = some r) : SCall Tryd.prog 31 [.v (vl eOp aLog), .v (vs aKey)] ⟨[.own 2 1 r.1.length (r.1.map (eI .i64)), .v (vi r.2)], [], false⟩ := by
  refine scall_in Tryd.func31 rfl [(.tmp 4), (.tmp 5)] rfl (fun r => ⟨[.own 2 1 r.1.length (r.1.map (eI .i64)), .v (vi r.2)], [], false⟩) (r := r) ?_
  unfold impl_RivalsOf at h
  refine swp_seq ?_
  refine swp_reg ?_
  refine SRun.ck tbokGB 2 ⟨12, [(0, vl eOp aLog), (1, vs aKey)], []⟩ ?_
  refine SRun.nil ?_
  refine nx_n ?_
  refine swp_seq ?_
  refine swp_seq ?_
  refine swp_reg ?_
  refine SRun.ck tbokGB 1 ⟨12, [(0, vl eOp aLog), (1, vs aKey), (6, vl eOp aLog)], []⟩ ?_
  obtain ⟨x1, hx1, h⟩ := bind_some h
  refine SRun.ls (x_lstep_call (f := 15) (caps := []) (xs := [vl eOp aLog]) (ys := [vl eOp aLog]) (res := ⟨[.v (vb x1)], [], false⟩) (x := vb x1) (y := none) rfl ents15 (impl_IsLog_run aLog _ hx1) rfl (by intro hc; cases hc)) ?_
  refine SRun.ck tbokGB 1 ⟨12, [(0, vl eOp aLog), (1, vs aKey), (8, vb (!x1))], []⟩ ?_
  refine SRun.nil ?_
  refine nx_n ?_
  refine swp_cond (b := (!x1)) (by kernel_rfl) (fun hb => ?_) (fun hb => ?_)
  replace h := cond_t hb h
  refine swp_seq ?_
  refine swp_reg ?_
  refine SRun.ck tbokGB 2 ⟨12, [(4, .own 4), (5, vi 1)], [(4, .arr 2 1 ([] : List Int).length (([] : List Int).map (eI .i64)))]⟩ ?_
  refine SRun.nil ?_
  refine nx_n ?_
  refine swp_ret ?_
  replace h := Option.some.inj h
  subst h
  exact nx_r (q_fr (fin2 (by kernel_rfl) (finO (d := 4) (holds_t (by kernel_rfl)) (by kernel_rfl) (flat_map (eI_flat .i64) _) (by kernel_rfl)) (finV rfl SV.flat_of (holds_t (by kernel_rfl)))))
  replace h := cond_f hb h
  refine swp_skip ?_
  refine nx_n ?_
  refine swp_seq ?_
  refine swp_reg ?_
  refine SRun.ck tbokGB 2 ⟨12, [(9, vl eOp aLog), (10, vs aKey)], []⟩ ?_
  obtain ⟨x2, hx2, h⟩ := bind_some h
  refine SRun.ls (x_lstep_call (f := 62) (caps := []) (xs := [vl eOp aLog, vs aKey]) (ys := [vl eOp aLog, vs aKey]) (res := ⟨[.own 2 1 x2.length (x2.map (eI .i64))], [], false⟩) (x := .own 11) (y := some (.arr 2 1 x2.length (x2.map (eI .i64)))) rfl ents62 (impl_rivalsOf_run aLog aKey _ hx2) rfl (by intro hc; cases hc)) ?_
  refine SRun.ck tbokGB 2 ⟨12, [(4, .own 11), (5, vi 0)], [(11, .arr 2 1 x2.length (x2.map (eI .i64)))]⟩ ?_
  refine SRun.nil ?_
  refine nx_n ?_
  refine swp_ret ?_
  replace h := Option.some.inj h
  subst h
  exact q_fr (fin2 (by kernel_rfl) (finO (d := 11) (holds_t (by kernel_rfl)) (by kernel_rfl) (flat_map (eI_flat .i64) _) (by kernel_rfl)) (finV rfl SV.flat_of (holds_t (by kernel_rfl))))
theorem ents31 : Ents Tryd.prog 31 := ents_of Tryd.func31 (by kernel_rfl) rfl
noncomputable def laws_FnExactRivalsOf (aALog : (List Op)) (aAKey : ByteArray) : Option (Bool) :=
  (bif (decide ((aAKey.size : Int) > 1048576)) then some true else ((laws_szOpS aALog 1048576).bind fun x1 => (bif (decide (x1 < 0)) then some true else ((laws_toOpS aALog).bind fun x2 => ((spec_RivalsOf x2 aAKey).bind fun x3 => ((laws_toOpS aALog).bind fun x4 => ((impl_RivalsOf x4 aAKey).bind fun x5 => ((((laws_eqInt64S x5.1 x3.1).bind fun x6 => (bif (!x6) then some true else some (x5.2 != x3.2)))).bind fun (j7 : Bool) => (bif j7 then some false else ((laws_toOpS aALog).bind fun x9 => ((laws_eqOpS x4 x9).bind fun x10 => (bif (!x10) then some false else ((laws_markOpS x4 1).bind fun x11 => (((bif (decide (x11.1 < 0)) then some true else ((laws_eqInt64S x5.1 x3.1).bind fun x12 => (bif (!x12) then some true else some (x5.2 != x3.2))))).bind fun (j13 : Bool) => (bif j13 then some false else ((laws_markInt64S x5.1 1).bind fun x15 => ((laws_heldInt64S x15.2 1).bind fun x16 => (bif (decide (x16 < 0)) then some false else (bif (x16 != x15.1) then some false else ((laws_toOpS aALog).bind fun x17 => ((impl_RivalsOf x17 aAKey).bind fun x18 => ((((laws_eqInt64S x18.1 x3.1).bind fun x19 => (bif (!x19) then some true else some (x18.2 != x3.2)))).bind fun (j20 : Bool) => (bif j20 then some false else ((laws_heldInt64S x15.2 1).bind fun x22 => (bif (decide (x22 < 0)) then some false else (bif (x22 != x15.1) then some false else some true))))))))))))))))))))))))))
set_option maxRecDepth 100000 in
set_option maxHeartbeats 4000000 in
theorem laws_FnExactRivalsOf_run (aALog : (List Op)) (aAKey : ByteArray) (r : Bool) (h : laws_FnExactRivalsOf aALog aAKey = some r) : SCall Tryd.prog 8 [.v (vl eOp aALog), .v (vs aAKey)] ⟨[.v (vb r)], [], false⟩ := by
  refine scall_in Tryd.func8 rfl [(.tmp 4)] rfl (fun r => ⟨[.v (vb r)], [], false⟩) (r := r) ?_
  unfold laws_FnExactRivalsOf at h
  refine swp_seq ?_
  refine swp_reg ?_
  refine SRun.ck tbokGB 1 ⟨104, [(0, vl eOp aALog), (1, vs aAKey)], []⟩ ?_
  refine SRun.nil ?_
  refine nx_n ?_
  refine swp_seq ?_
  refine swp_seq ?_
  refine swp_reg ?_
  refine SRun.ck tbokGB 3 ⟨104, [(0, vl eOp aALog), (1, vs aAKey), (18, vb (decide ((aAKey.size : Int) > 1048576)))], []⟩ ?_
  refine SRun.nil ?_
  refine nx_n ?_
  refine swp_cond (b := (decide ((aAKey.size : Int) > 1048576))) (by kernel_rfl) (fun hb => ?_) (fun hb => ?_)
  replace h := cond_t hb h
  refine swp_seq ?_
  refine swp_reg ?_
  refine SRun.ck tbokGB 1 ⟨104, [(4, vb true)], []⟩ ?_
  refine SRun.nil ?_
  refine nx_n ?_
  refine swp_ret ?_
  replace h := Option.some.inj h
  subst h
  exact nx_r (q_fr (fin1 (by kernel_rfl) (finV rfl SV.flat_of (holds_t (by kernel_rfl)))))
  replace h := cond_f hb h
  refine swp_skip ?_
  refine nx_n ?_
  refine swp_seq ?_
  refine swp_reg ?_
  refine SRun.ck tbokGB 1 ⟨104, [(0, vl eOp aALog), (1, vs aAKey), (5, vi 1048576)], []⟩ ?_
  refine SRun.nil ?_
  refine nx_n ?_
  refine swp_seq ?_
  refine swp_reg ?_
  refine SRun.ck tbokGB 2 ⟨104, [(0, vl eOp aALog), (1, vs aAKey), (19, vl eOp aALog), (20, vi 1048576)], []⟩ ?_
  obtain ⟨x1, hx1, h⟩ := bind_some h
  refine SRun.ls (x_lstep_call (f := 12) (caps := []) (xs := [vl eOp aALog, vi 1048576]) (ys := [vl eOp aALog, vi 1048576]) (res := ⟨[.v (vi x1)], [], false⟩) (x := vi x1) (y := none) rfl ents12 (laws_szOpS_run aALog 1048576 _ hx1) rfl (by intro hc; cases hc)) ?_
  refine SRun.ck tbokGB 1 ⟨104, [(0, vl eOp aALog), (1, vs aAKey), (5, vi x1)], []⟩ ?_
  refine SRun.nil ?_
  refine nx_n ?_
  refine swp_seq ?_
  refine swp_seq ?_
  refine swp_reg ?_
  refine SRun.ck tbokGB 2 ⟨104, [(0, vl eOp aALog), (1, vs aAKey), (23, vb (decide (x1 < 0)))], []⟩ ?_
  refine SRun.nil ?_
  refine nx_n ?_
  refine swp_cond (b := (decide (x1 < 0))) (by kernel_rfl) (fun hb => ?_) (fun hb => ?_)
  replace h := cond_t hb h
  refine swp_seq ?_
  refine swp_reg ?_
  refine SRun.ck tbokGB 1 ⟨104, [(4, vb true)], []⟩ ?_
  refine SRun.nil ?_
  refine nx_n ?_
  refine swp_ret ?_
  replace h := Option.some.inj h
  subst h
  exact nx_r (q_fr (fin1 (by kernel_rfl) (finV rfl SV.flat_of (holds_t (by kernel_rfl)))))
  replace h := cond_f hb h
  refine swp_skip ?_
  refine nx_n ?_
  refine swp_seq ?_
  refine swp_reg ?_
  refine SRun.ck tbokGB 1 ⟨104, [(0, vl eOp aALog), (1, vs aAKey), (25, vl eOp aALog)], []⟩ ?_
  obtain ⟨x2, hx2, h⟩ := bind_some h
  refine SRun.ls (x_lstep_call (f := 14) (caps := []) (xs := [vl eOp aALog]) (ys := [vl eOp aALog]) (res := ⟨[.deep 61 5 x2.length [.flat, .flat, .flat, .flat, (.sl 2 1 [.flat])] (x2.map eOp)], [], false⟩) (x := .own 26) (y := some (.deep 61 5 x2.length [.flat, .flat, .flat, .flat, (.sl 2 1 [.flat])] (x2.map eOp))) rfl ents14 (laws_toOpS_run aALog _ hx2) rfl (by intro hc; cases hc)) ?_
  refine SRun.ck tbokGB 1 ⟨104, [(0, vl eOp aALog), (1, vs aAKey), (26, .own 26), (27, vs aAKey)], [(26, .deep 61 5 x2.length [.flat, .flat, .flat, .flat, (.sl 2 1 [.flat])] (x2.map eOp))]⟩ ?_
  obtain ⟨x3, hx3, h⟩ := bind_some h
  refine SRun.ls (x_lstep_call (f := 30) (caps := []) (xs := [.own 26, vs aAKey]) (ys := [vl eOp x2, vs aAKey]) (res := ⟨[.own 2 1 x3.1.length (x3.1.map (eI .i64)), .v (vi x3.2)], [], false⟩) (x := .tup [.own 28, vi x3.2]) (y := some (.arr 2 1 x3.1.length (x3.1.map (eI .i64)))) rfl ents30 (spec_RivalsOf_run x2 aAKey _ hx3) rfl (by intro hc; cases hc)) ?_
  refine SRun.ck tbokGB 5 ⟨104, [(0, vl eOp aALog), (1, vs aAKey), (6, .own 28), (7, vi x3.2)], [(28, .arr 2 1 x3.1.length (x3.1.map (eI .i64)))]⟩ ?_
  refine SRun.nil ?_
  refine nx_n ?_
  refine swp_seq ?_
  refine swp_reg ?_
  refine SRun.ck tbokGB 1 ⟨104, [(0, vl eOp aALog), (1, vs aAKey), (6, .own 28), (7, vi x3.2), (31, vl eOp aALog)], [(28, .arr 2 1 x3.1.length (x3.1.map (eI .i64)))]⟩ ?_
  obtain ⟨x4, hx4, h⟩ := bind_some h
  refine SRun.ls (x_lstep_call (f := 14) (caps := []) (xs := [vl eOp aALog]) (ys := [vl eOp aALog]) (res := ⟨[.deep 61 5 x4.length [.flat, .flat, .flat, .flat, (.sl 2 1 [.flat])] (x4.map eOp)], [], false⟩) (x := .own 32) (y := some (.deep 61 5 x4.length [.flat, .flat, .flat, .flat, (.sl 2 1 [.flat])] (x4.map eOp))) rfl ents14 (laws_toOpS_run aALog _ hx4) rfl (by intro hc; cases hc)) ?_
  refine SRun.ck tbokGB 1 ⟨104, [(0, vl eOp aALog), (1, vs aAKey), (6, .own 28), (7, vi x3.2), (8, .own 32)], [(28, .arr 2 1 x3.1.length (x3.1.map (eI .i64))), (32, .deep 61 5 x4.length [.flat, .flat, .flat, .flat, (.sl 2 1 [.flat])] (x4.map eOp))]⟩ ?_
  refine SRun.nil ?_
  refine nx_n ?_
  refine swp_seq ?_
  refine swp_reg ?_
  refine SRun.ck tbokGB 2 ⟨104, [(0, vl eOp aALog), (1, vs aAKey), (6, .own 28), (7, vi x3.2), (8, .own 32), (34, .own 32), (35, vs aAKey)], [(28, .arr 2 1 x3.1.length (x3.1.map (eI .i64))), (32, .deep 61 5 x4.length [.flat, .flat, .flat, .flat, (.sl 2 1 [.flat])] (x4.map eOp))]⟩ ?_
  obtain ⟨x5, hx5, h⟩ := bind_some h
  refine SRun.ls (x_lstep_call (f := 31) (caps := []) (xs := [.own 32, vs aAKey]) (ys := [vl eOp x4, vs aAKey]) (res := ⟨[.own 2 1 x5.1.length (x5.1.map (eI .i64)), .v (vi x5.2)], [], false⟩) (x := .tup [.own 36, vi x5.2]) (y := some (.arr 2 1 x5.1.length (x5.1.map (eI .i64)))) rfl ents31 (impl_RivalsOf_run x4 aAKey _ hx5) rfl (by intro hc; cases hc)) ?_
  refine SRun.ck tbokGB 5 ⟨104, [(0, vl eOp aALog), (1, vs aAKey), (6, .own 28), (7, vi x3.2), (8, .own 32), (9, .own 36), (10, vi x5.2)], [(28, .arr 2 1 x3.1.length (x3.1.map (eI .i64))), (32, .deep 61 5 x4.length [.flat, .flat, .flat, .flat, (.sl 2 1 [.flat])] (x4.map eOp)), (36, .arr 2 1 x5.1.length (x5.1.map (eI .i64)))]⟩ ?_
  refine SRun.nil ?_
  refine nx_n ?_
  refine swp_seq ?_
  refine swp_seq ?_
  refine swp_regJ h (fun j7 => ⟨104, [(0, vl eOp aALog), (1, vs aAKey), (6, .own 6), (7, vi x3.2), (8, .own 8), (9, .own 9), (10, vi x5.2), (47, vb j7)], [(6, .arr 2 1 x3.1.length (x3.1.map (eI .i64))), (8, .deep 61 5 x4.length [.flat, .flat, .flat, .flat, (.sl 2 1 [.flat])] (x4.map eOp)), (9, .arr 2 1 x5.1.length (x5.1.map (eI .i64)))]⟩) (fun v8 h => ?_) (fun j7 h => ?_)
  refine SRun.ck tbokGB 2 ⟨104, [(0, vl eOp aALog), (1, vs aAKey), (6, .own 28), (7, vi x3.2), (8, .own 32), (9, .own 36), (10, vi x5.2), (39, .own 36), (40, .own 28)], [(28, .arr 2 1 x3.1.length (x3.1.map (eI .i64))), (32, .deep 61 5 x4.length [.flat, .flat, .flat, .flat, (.sl 2 1 [.flat])] (x4.map eOp)), (36, .arr 2 1 x5.1.length (x5.1.map (eI .i64)))]⟩ ?_
  obtain ⟨x6, hx6, h⟩ := bind_some h
  refine SRun.ls (x_lstep_call (f := 21) (caps := []) (xs := [.own 36, .own 28]) (ys := [vl (eI .i64) x5.1, vl (eI .i64) x3.1]) (res := ⟨[.v (vb x6)], [], false⟩) (x := vb x6) (y := none) rfl ents21 (laws_eqInt64S_run x5.1 x3.1 _ hx6) rfl (by intro hc; cases hc)) ?_
  refine SRun.ck tbokGB 2 ⟨104, [(0, vl eOp aALog), (1, vs aAKey), (6, .own 28), (7, vi x3.2), (8, .own 32), (9, .own 36), (10, vi x5.2), (43, vb (!x6))], [(28, .arr 2 1 x3.1.length (x3.1.map (eI .i64))), (32, .deep 61 5 x4.length [.flat, .flat, .flat, .flat, (.sl 2 1 [.flat])] (x4.map eOp)), (36, .arr 2 1 x5.1.length (x5.1.map (eI .i64)))]⟩ ?_
  refine SRun.cut [(43, fun b => b)] (b := (!x6)) (by kernel_rfl) (fun hb => ?_) (fun hb => ?_)
  replace h := cond_t hb h
  refine SRun.ck tbokGB 4 ⟨104, [(0, vl eOp aALog), (1, vs aAKey), (6, .own 28), (7, vi x3.2), (8, .own 32), (9, .own 36), (10, vi x5.2), (47, vb true)], [(28, .arr 2 1 x3.1.length (x3.1.map (eI .i64))), (32, .deep 61 5 x4.length [.flat, .flat, .flat, .flat, (.sl 2 1 [.flat])] (x4.map eOp)), (36, .arr 2 1 x5.1.length (x5.1.map (eI .i64)))]⟩ ?_
  refine SRun.nil ?_
  replace h := Option.some.inj h
  subst h
  exact (Le.sub' ([(0, vl eOp aALog), (1, vs aAKey), (6, .own 28), (7, vi x3.2), (8, .own 32), (9, .own 36), (10, vi x5.2), (47, vb true)] : List (Nat × SV)) ([(28, .arr 2 1 x3.1.length (x3.1.map (eI .i64))), (32, .deep 61 5 x4.length [.flat, .flat, .flat, .flat, (.sl 2 1 [.flat])] (x4.map eOp)), (36, .arr 2 1 x5.1.length (x5.1.map (eI .i64)))] : List (Nat × SO)) (by kernel_rfl) (by kernel_rfl)).trans ((Le.ren' (d := 28) (e := 6) (by kernel_rfl) (by kernel_rfl) (by kernel_rfl)).trans ((Le.ren' (d := 32) (e := 8) (by kernel_rfl) (by kernel_rfl) (by kernel_rfl)).trans ((Le.ren' (d := 36) (e := 9) (by kernel_rfl) (by kernel_rfl) (by kernel_rfl)).trans (Le.sub0))))
  replace h := cond_f hb h
  refine SRun.ck tbokGB 4 ⟨104, [(0, vl eOp aALog), (1, vs aAKey), (6, .own 28), (7, vi x3.2), (8, .own 32), (9, .own 36), (10, vi x5.2), (47, vb (x5.2 != x3.2))], [(28, .arr 2 1 x3.1.length (x3.1.map (eI .i64))), (32, .deep 61 5 x4.length [.flat, .flat, .flat, .flat, (.sl 2 1 [.flat])] (x4.map eOp)), (36, .arr 2 1 x5.1.length (x5.1.map (eI .i64)))]⟩ ?_
  refine SRun.nil ?_
  replace h := Option.some.inj h
  subst h
  exact (Le.sub' ([(0, vl eOp aALog), (1, vs aAKey), (6, .own 28), (7, vi x3.2), (8, .own 32), (9, .own 36), (10, vi x5.2), (47, vb (x5.2 != x3.2))] : List (Nat × SV)) ([(28, .arr 2 1 x3.1.length (x3.1.map (eI .i64))), (32, .deep 61 5 x4.length [.flat, .flat, .flat, .flat, (.sl 2 1 [.flat])] (x4.map eOp)), (36, .arr 2 1 x5.1.length (x5.1.map (eI .i64)))] : List (Nat × SO)) (by kernel_rfl) (by kernel_rfl)).trans ((Le.ren' (d := 28) (e := 6) (by kernel_rfl) (by kernel_rfl) (by kernel_rfl)).trans ((Le.ren' (d := 32) (e := 8) (by kernel_rfl) (by kernel_rfl) (by kernel_rfl)).trans ((Le.ren' (d := 36) (e := 9) (by kernel_rfl) (by kernel_rfl) (by kernel_rfl)).trans (Le.sub0))))
  refine swp_cond (b := j7) (by kernel_rfl) (fun hb => ?_) (fun hb => ?_)
  replace h := cond_t hb h
  refine swp_seq ?_
  refine swp_reg ?_
  refine SRun.ck tbokGB 1 ⟨104, [(4, vb false)], []⟩ ?_
  refine SRun.nil ?_
  refine nx_n ?_
  refine swp_ret ?_
  replace h := Option.some.inj h
  subst h
  exact nx_r (q_fr (fin1 (by kernel_rfl) (finV rfl SV.flat_of (holds_t (by kernel_rfl)))))
  replace h := cond_f hb h
  refine swp_skip ?_
  refine nx_n ?_
  refine swp_seq ?_
  refine swp_seq ?_
  refine swp_reg ?_
  refine SRun.ck tbokGB 2 ⟨104, [(0, vl eOp aALog), (1, vs aAKey), (6, .own 6), (7, vi x3.2), (8, .own 8), (9, .own 9), (10, vi x5.2), (48, .own 8), (49, vl eOp aALog)], [(6, .arr 2 1 x3.1.length (x3.1.map (eI .i64))), (8, .deep 61 5 x4.length [.flat, .flat, .flat, .flat, (.sl 2 1 [.flat])] (x4.map eOp)), (9, .arr 2 1 x5.1.length (x5.1.map (eI .i64)))]⟩ ?_
  obtain ⟨x9, hx9, h⟩ := bind_some h
  refine SRun.ls (x_lstep_call (f := 14) (caps := []) (xs := [vl eOp aALog]) (ys := [vl eOp aALog]) (res := ⟨[.deep 61 5 x9.length [.flat, .flat, .flat, .flat, (.sl 2 1 [.flat])] (x9.map eOp)], [], false⟩) (x := .own 50) (y := some (.deep 61 5 x9.length [.flat, .flat, .flat, .flat, (.sl 2 1 [.flat])] (x9.map eOp))) rfl ents14 (laws_toOpS_run aALog _ hx9) rfl (by intro hc; cases hc)) ?_
  obtain ⟨x10, hx10, h⟩ := bind_some h
  refine SRun.ls (x_lstep_call (f := 16) (caps := []) (xs := [.own 8, .own 50]) (ys := [vl eOp x4, vl eOp x9]) (res := ⟨[.v (vb x10)], [], false⟩) (x := vb x10) (y := none) rfl ents16 (laws_eqOpS_run x4 x9 _ hx10) rfl (by intro hc; cases hc)) ?_
  refine SRun.ck tbokGB 1 ⟨104, [(0, vl eOp aALog), (1, vs aAKey), (6, .own 6), (7, vi x3.2), (8, .own 8), (9, .own 9), (10, vi x5.2), (52, vb (!x10))], [(6, .arr 2 1 x3.1.length (x3.1.map (eI .i64))), (8, .deep 61 5 x4.length [.flat, .flat, .flat, .flat, (.sl 2 1 [.flat])] (x4.map eOp)), (9, .arr 2 1 x5.1.length (x5.1.map (eI .i64)))]⟩ ?_
  refine SRun.nil ?_
  refine nx_n ?_
  refine swp_cond (b := (!x10)) (by kernel_rfl) (fun hb => ?_) (fun hb => ?_)
  replace h := cond_t hb h
  refine swp_seq ?_
  refine swp_reg ?_
  refine SRun.ck tbokGB 1 ⟨104, [(4, vb false)], []⟩ ?_
  refine SRun.nil ?_
  refine nx_n ?_
  refine swp_ret ?_
  replace h := Option.some.inj h
  subst h
  exact nx_r (q_fr (fin1 (by kernel_rfl) (finV rfl SV.flat_of (holds_t (by kernel_rfl)))))
  replace h := cond_f hb h
  refine swp_skip ?_
  refine nx_n ?_
  refine swp_seq ?_
  refine swp_reg ?_
  refine SRun.ck tbokGB 1 ⟨104, [(0, vl eOp aALog), (1, vs aAKey), (6, .own 6), (7, vi x3.2), (8, .own 8), (9, .own 9), (10, vi x5.2), (11, vi 1)], [(6, .arr 2 1 x3.1.length (x3.1.map (eI .i64))), (8, .deep 61 5 x4.length [.flat, .flat, .flat, .flat, (.sl 2 1 [.flat])] (x4.map eOp)), (9, .arr 2 1 x5.1.length (x5.1.map (eI .i64)))]⟩ ?_
  refine SRun.nil ?_
  refine nx_n ?_
  refine swp_seq ?_
  refine swp_reg ?_
  refine SRun.ck tbokGB 2 ⟨104, [(0, vl eOp aALog), (1, vs aAKey), (6, .own 6), (7, vi x3.2), (9, .own 9), (10, vi x5.2), (53, .own 8), (54, vi 1)], [(6, .arr 2 1 x3.1.length (x3.1.map (eI .i64))), (8, .deep 61 5 x4.length [.flat, .flat, .flat, .flat, (.sl 2 1 [.flat])] (x4.map eOp)), (9, .arr 2 1 x5.1.length (x5.1.map (eI .i64)))]⟩ ?_
  obtain ⟨x11, hx11, h⟩ := bind_some h
  refine SRun.estep (x_estep_call (f := 22) (caps := []) (xs := [.own 8, vi 1]) (pre := []) (post := [vi 1]) (qs := [vi 1]) (z := .own 8) (d := 8) (pl := 0) (y := .deep 61 5 x4.length [.flat, .flat, .flat, .flat, (.sl 2 1 [.flat])] (x4.map eOp)) (y' := .deep 61 5 x11.2.length [.flat, .flat, .flat, .flat, (.sl 2 1 [.flat])] (x11.2.map eOp)) (res := ⟨[.v (vi x11.1)], [(0, .deep 61 5 x11.2.length [.flat, .flat, .flat, .flat, (.sl 2 1 [.flat])] (x11.2.map eOp))], false⟩) (x := vi x11.1) (yo := none) rfl rfl rfl rfl rfl ents22 (laws_markOpS_run x4 1 _ hx11) rfl rfl false (fun _ => rfl) (by intro hc; cases hc)) ?_
  refine SRun.ck tbokGB 1 ⟨104, [(0, vl eOp aALog), (1, vs aAKey), (6, .own 6), (7, vi x3.2), (9, .own 9), (10, vi x5.2), (11, vi x11.1)], [(6, .arr 2 1 x3.1.length (x3.1.map (eI .i64))), (9, .arr 2 1 x5.1.length (x5.1.map (eI .i64)))]⟩ ?_
  refine SRun.nil ?_
  refine nx_n ?_
  refine swp_seq ?_
  refine swp_seq ?_
  refine swp_regJ h (fun j13 => ⟨104, [(0, vl eOp aALog), (1, vs aAKey), (6, .own 6), (7, vi x3.2), (9, .own 9), (68, vb j13)], [(6, .arr 2 1 x3.1.length (x3.1.map (eI .i64))), (9, .arr 2 1 x5.1.length (x5.1.map (eI .i64)))]⟩) (fun v14 h => ?_) (fun j13 h => ?_)
  refine SRun.ck tbokGB 3 ⟨104, [(0, vl eOp aALog), (1, vs aAKey), (6, .own 6), (7, vi x3.2), (9, .own 9), (10, vi x5.2), (58, vb (decide (x11.1 < 0)))], [(6, .arr 2 1 x3.1.length (x3.1.map (eI .i64))), (9, .arr 2 1 x5.1.length (x5.1.map (eI .i64)))]⟩ ?_
  refine SRun.cut [(58, fun b => b)] (b := (decide (x11.1 < 0))) (by kernel_rfl) (fun hb => ?_) (fun hb => ?_)
  replace h := cond_t hb h
  refine SRun.ck tbokGB 10 ⟨104, [(0, vl eOp aALog), (1, vs aAKey), (6, .own 6), (7, vi x3.2), (9, .own 9), (68, vb true)], [(6, .arr 2 1 x3.1.length (x3.1.map (eI .i64))), (9, .arr 2 1 x5.1.length (x5.1.map (eI .i64)))]⟩ ?_
  refine SRun.nil ?_
  replace h := Option.some.inj h
  subst h
  exact Le.sub0
  replace h := cond_f hb h
  refine SRun.ck tbokGB 2 ⟨104, [(0, vl eOp aALog), (1, vs aAKey), (6, .own 6), (7, vi x3.2), (9, .own 9), (10, vi x5.2), (58, vb false), (59, .own 9), (60, .own 6)], [(6, .arr 2 1 x3.1.length (x3.1.map (eI .i64))), (9, .arr 2 1 x5.1.length (x5.1.map (eI .i64)))]⟩ ?_
  obtain ⟨x12, hx12, h⟩ := bind_some h
  refine SRun.ls (x_lstep_call (f := 21) (caps := []) (xs := [.own 9, .own 6]) (ys := [vl (eI .i64) x5.1, vl (eI .i64) x3.1]) (res := ⟨[.v (vb x12)], [], false⟩) (x := vb x12) (y := none) rfl ents21 (laws_eqInt64S_run x5.1 x3.1 _ hx12) rfl (by intro hc; cases hc)) ?_
  refine SRun.ck tbokGB 3 ⟨104, [(0, vl eOp aALog), (1, vs aAKey), (6, .own 6), (7, vi x3.2), (9, .own 9), (10, vi x5.2), (64, vb (!x12))], [(6, .arr 2 1 x3.1.length (x3.1.map (eI .i64))), (9, .arr 2 1 x5.1.length (x5.1.map (eI .i64)))]⟩ ?_
  refine SRun.cut [(64, fun b => b)] (b := (!x12)) (by kernel_rfl) (fun hb => ?_) (fun hb => ?_)
  replace h := cond_t hb h
  refine SRun.ck tbokGB 4 ⟨104, [(0, vl eOp aALog), (1, vs aAKey), (6, .own 6), (7, vi x3.2), (9, .own 9), (68, vb true)], [(6, .arr 2 1 x3.1.length (x3.1.map (eI .i64))), (9, .arr 2 1 x5.1.length (x5.1.map (eI .i64)))]⟩ ?_
  refine SRun.nil ?_
  replace h := Option.some.inj h
  subst h
  exact Le.sub0
  replace h := cond_f hb h
  refine SRun.ck tbokGB 4 ⟨104, [(0, vl eOp aALog), (1, vs aAKey), (6, .own 6), (7, vi x3.2), (9, .own 9), (68, vb (x5.2 != x3.2))], [(6, .arr 2 1 x3.1.length (x3.1.map (eI .i64))), (9, .arr 2 1 x5.1.length (x5.1.map (eI .i64)))]⟩ ?_
  refine SRun.nil ?_
  replace h := Option.some.inj h
  subst h
  exact Le.sub0
  refine swp_cond (b := j13) (by kernel_rfl) (fun hb => ?_) (fun hb => ?_)
  replace h := cond_t hb h
  refine swp_seq ?_
  refine swp_reg ?_
  refine SRun.ck tbokGB 1 ⟨104, [(4, vb false)], []⟩ ?_
  refine SRun.nil ?_
  refine nx_n ?_
  refine swp_ret ?_
  replace h := Option.some.inj h
  subst h
  exact nx_r (q_fr (fin1 (by kernel_rfl) (finV rfl SV.flat_of (holds_t (by kernel_rfl)))))
  replace h := cond_f hb h
  refine swp_skip ?_
  refine nx_n ?_
  refine swp_seq ?_
  refine swp_reg ?_
  refine SRun.ck tbokGB 1 ⟨104, [(0, vl eOp aALog), (1, vs aAKey), (6, .own 6), (7, vi x3.2), (9, .own 9), (12, vi 1)], [(6, .arr 2 1 x3.1.length (x3.1.map (eI .i64))), (9, .arr 2 1 x5.1.length (x5.1.map (eI .i64)))]⟩ ?_
  refine SRun.nil ?_
  refine nx_n ?_
  refine swp_seq ?_
  refine swp_reg ?_
  refine SRun.ck tbokGB 2 ⟨104, [(0, vl eOp aALog), (1, vs aAKey), (6, .own 6), (7, vi x3.2), (9, .own 9), (69, .own 9), (70, vi 1)], [(6, .arr 2 1 x3.1.length (x3.1.map (eI .i64))), (9, .arr 2 1 x5.1.length (x5.1.map (eI .i64)))]⟩ ?_
  obtain ⟨x15, hx15, h⟩ := bind_some h
  refine SRun.estep (x_estep_call (f := 23) (caps := []) (xs := [.own 9, vi 1]) (pre := []) (post := [vi 1]) (qs := [vi 1]) (z := .own 9) (d := 9) (pl := 0) (y := .arr 2 1 x5.1.length (x5.1.map (eI .i64))) (y' := .arr 2 1 x15.2.length (x15.2.map (eI .i64))) (res := ⟨[.v (vi x15.1)], [(0, .arr 2 1 x15.2.length (x15.2.map (eI .i64)))], false⟩) (x := vi x15.1) (yo := none) rfl rfl rfl rfl rfl ents23 (laws_markInt64S_run x5.1 1 _ hx15) rfl rfl false (fun _ => rfl) (by intro hc; cases hc)) ?_
  refine SRun.ck tbokGB 1 ⟨104, [(0, vl eOp aALog), (1, vs aAKey), (6, .own 6), (7, vi x3.2), (9, .own 9), (12, vi x15.1)], [(6, .arr 2 1 x3.1.length (x3.1.map (eI .i64))), (9, .arr 2 1 x15.2.length (x15.2.map (eI .i64)))]⟩ ?_
  refine SRun.nil ?_
  refine nx_n ?_
  refine swp_seq ?_
  refine swp_reg ?_
  refine SRun.ck tbokGB 1 ⟨104, [(0, vl eOp aALog), (1, vs aAKey), (6, .own 6), (7, vi x3.2), (9, .own 9), (12, vi x15.1), (13, vi 1)], [(6, .arr 2 1 x3.1.length (x3.1.map (eI .i64))), (9, .arr 2 1 x15.2.length (x15.2.map (eI .i64)))]⟩ ?_
  refine SRun.nil ?_
  refine nx_n ?_
  refine swp_seq ?_
  refine swp_reg ?_
  refine SRun.ck tbokGB 2 ⟨104, [(0, vl eOp aALog), (1, vs aAKey), (6, .own 6), (7, vi x3.2), (9, .own 9), (12, vi x15.1), (72, .own 9), (73, vi 1)], [(6, .arr 2 1 x3.1.length (x3.1.map (eI .i64))), (9, .arr 2 1 x15.2.length (x15.2.map (eI .i64)))]⟩ ?_
  obtain ⟨x16, hx16, h⟩ := bind_some h
  refine SRun.ls (x_lstep_call (f := 24) (caps := []) (xs := [.own 9, vi 1]) (ys := [vl (eI .i64) x15.2, vi 1]) (res := ⟨[.v (vi x16)], [], false⟩) (x := vi x16) (y := none) rfl ents24 (laws_heldInt64S_run x15.2 1 _ hx16) rfl (by intro hc; cases hc)) ?_
  refine SRun.ck tbokGB 1 ⟨104, [(0, vl eOp aALog), (1, vs aAKey), (6, .own 6), (7, vi x3.2), (9, .own 9), (12, vi x15.1), (13, vi x16)], [(6, .arr 2 1 x3.1.length (x3.1.map (eI .i64))), (9, .arr 2 1 x15.2.length (x15.2.map (eI .i64)))]⟩ ?_
  refine SRun.nil ?_
  refine nx_n ?_
  refine swp_seq ?_
  refine swp_seq ?_
  refine swp_reg ?_
  refine SRun.ck tbokGB 2 ⟨104, [(0, vl eOp aALog), (1, vs aAKey), (6, .own 6), (7, vi x3.2), (9, .own 9), (12, vi x15.1), (13, vi x16), (76, vb (decide (x16 < 0)))], [(6, .arr 2 1 x3.1.length (x3.1.map (eI .i64))), (9, .arr 2 1 x15.2.length (x15.2.map (eI .i64)))]⟩ ?_
  refine SRun.nil ?_
  refine nx_n ?_
  refine swp_cond (b := (decide (x16 < 0))) (by kernel_rfl) (fun hb => ?_) (fun hb => ?_)
  replace h := cond_t hb h
  refine swp_seq ?_
  refine swp_reg ?_
  refine SRun.ck tbokGB 1 ⟨104, [(4, vb false)], []⟩ ?_
  refine SRun.nil ?_
  refine nx_n ?_
  refine swp_ret ?_
  replace h := Option.some.inj h
  subst h
  exact nx_r (q_fr (fin1 (by kernel_rfl) (finV rfl SV.flat_of (holds_t (by kernel_rfl)))))
  replace h := cond_f hb h
  refine swp_skip ?_
  refine nx_n ?_
  refine swp_seq ?_
  refine swp_seq ?_
  refine swp_reg ?_
  refine SRun.ck tbokGB 3 ⟨104, [(0, vl eOp aALog), (1, vs aAKey), (6, .own 6), (7, vi x3.2), (9, .own 9), (12, vi x15.1), (79, vb (x16 != x15.1))], [(6, .arr 2 1 x3.1.length (x3.1.map (eI .i64))), (9, .arr 2 1 x15.2.length (x15.2.map (eI .i64)))]⟩ ?_
  refine SRun.nil ?_
  refine nx_n ?_
  refine swp_cond (b := (x16 != x15.1)) (by kernel_rfl) (fun hb => ?_) (fun hb => ?_)
  replace h := cond_t hb h
  refine swp_seq ?_
  refine swp_reg ?_
  refine SRun.ck tbokGB 1 ⟨104, [(4, vb false)], []⟩ ?_
  refine SRun.nil ?_
  refine nx_n ?_
  refine swp_ret ?_
  replace h := Option.some.inj h
  subst h
  exact nx_r (q_fr (fin1 (by kernel_rfl) (finV rfl SV.flat_of (holds_t (by kernel_rfl)))))
  replace h := cond_f hb h
  refine swp_skip ?_
  refine nx_n ?_
  refine swp_seq ?_
  refine swp_reg ?_
  refine SRun.ck tbokGB 1 ⟨104, [(1, vs aAKey), (6, .own 6), (7, vi x3.2), (9, .own 9), (12, vi x15.1), (81, vl eOp aALog)], [(6, .arr 2 1 x3.1.length (x3.1.map (eI .i64))), (9, .arr 2 1 x15.2.length (x15.2.map (eI .i64)))]⟩ ?_
  obtain ⟨x17, hx17, h⟩ := bind_some h
  refine SRun.ls (x_lstep_call (f := 14) (caps := []) (xs := [vl eOp aALog]) (ys := [vl eOp aALog]) (res := ⟨[.deep 61 5 x17.length [.flat, .flat, .flat, .flat, (.sl 2 1 [.flat])] (x17.map eOp)], [], false⟩) (x := .own 82) (y := some (.deep 61 5 x17.length [.flat, .flat, .flat, .flat, (.sl 2 1 [.flat])] (x17.map eOp))) rfl ents14 (laws_toOpS_run aALog _ hx17) rfl (by intro hc; cases hc)) ?_
  refine SRun.ck tbokGB 1 ⟨104, [(6, .own 6), (7, vi x3.2), (9, .own 9), (12, vi x15.1), (82, .own 82), (83, vs aAKey)], [(6, .arr 2 1 x3.1.length (x3.1.map (eI .i64))), (9, .arr 2 1 x15.2.length (x15.2.map (eI .i64))), (82, .deep 61 5 x17.length [.flat, .flat, .flat, .flat, (.sl 2 1 [.flat])] (x17.map eOp))]⟩ ?_
  obtain ⟨x18, hx18, h⟩ := bind_some h
  refine SRun.ls (x_lstep_call (f := 31) (caps := []) (xs := [.own 82, vs aAKey]) (ys := [vl eOp x17, vs aAKey]) (res := ⟨[.own 2 1 x18.1.length (x18.1.map (eI .i64)), .v (vi x18.2)], [], false⟩) (x := .tup [.own 84, vi x18.2]) (y := some (.arr 2 1 x18.1.length (x18.1.map (eI .i64)))) rfl ents31 (impl_RivalsOf_run x17 aAKey _ hx18) rfl (by intro hc; cases hc)) ?_
  refine SRun.ck tbokGB 5 ⟨104, [(6, .own 6), (7, vi x3.2), (9, .own 9), (12, vi x15.1), (14, .own 84), (15, vi x18.2)], [(6, .arr 2 1 x3.1.length (x3.1.map (eI .i64))), (9, .arr 2 1 x15.2.length (x15.2.map (eI .i64))), (84, .arr 2 1 x18.1.length (x18.1.map (eI .i64)))]⟩ ?_
  refine SRun.nil ?_
  refine nx_n ?_
  refine swp_seq ?_
  refine swp_seq ?_
  refine swp_regJ h (fun j20 => ⟨104, [(9, .own 9), (12, vi x15.1), (95, vb j20)], [(9, .arr 2 1 x15.2.length (x15.2.map (eI .i64)))]⟩) (fun v21 h => ?_) (fun j20 h => ?_)
  refine SRun.ck tbokGB 2 ⟨104, [(7, vi x3.2), (9, .own 9), (12, vi x15.1), (15, vi x18.2), (87, .own 84), (88, .own 6)], [(6, .arr 2 1 x3.1.length (x3.1.map (eI .i64))), (9, .arr 2 1 x15.2.length (x15.2.map (eI .i64))), (84, .arr 2 1 x18.1.length (x18.1.map (eI .i64)))]⟩ ?_
  obtain ⟨x19, hx19, h⟩ := bind_some h
  refine SRun.ls (x_lstep_call (f := 21) (caps := []) (xs := [.own 84, .own 6]) (ys := [vl (eI .i64) x18.1, vl (eI .i64) x3.1]) (res := ⟨[.v (vb x19)], [], false⟩) (x := vb x19) (y := none) rfl ents21 (laws_eqInt64S_run x18.1 x3.1 _ hx19) rfl (by intro hc; cases hc)) ?_
  refine SRun.ck tbokGB 2 ⟨104, [(7, vi x3.2), (9, .own 9), (12, vi x15.1), (15, vi x18.2), (91, vb (!x19))], [(9, .arr 2 1 x15.2.length (x15.2.map (eI .i64)))]⟩ ?_
  refine SRun.cut [(91, fun b => b)] (b := (!x19)) (by kernel_rfl) (fun hb => ?_) (fun hb => ?_)
  replace h := cond_t hb h
  refine SRun.ck tbokGB 4 ⟨104, [(9, .own 9), (12, vi x15.1), (95, vb true)], [(9, .arr 2 1 x15.2.length (x15.2.map (eI .i64)))]⟩ ?_
  refine SRun.nil ?_
  replace h := Option.some.inj h
  subst h
  exact Le.sub0
  replace h := cond_f hb h
  refine SRun.ck tbokGB 4 ⟨104, [(9, .own 9), (12, vi x15.1), (95, vb (x18.2 != x3.2))], [(9, .arr 2 1 x15.2.length (x15.2.map (eI .i64)))]⟩ ?_
  refine SRun.nil ?_
  replace h := Option.some.inj h
  subst h
  exact Le.sub0
  refine swp_cond (b := j20) (by kernel_rfl) (fun hb => ?_) (fun hb => ?_)
  replace h := cond_t hb h
  refine swp_seq ?_
  refine swp_reg ?_
  refine SRun.ck tbokGB 1 ⟨104, [(4, vb false)], []⟩ ?_
  refine SRun.nil ?_
  refine nx_n ?_
  refine swp_ret ?_
  replace h := Option.some.inj h
  subst h
  exact nx_r (q_fr (fin1 (by kernel_rfl) (finV rfl SV.flat_of (holds_t (by kernel_rfl)))))
  replace h := cond_f hb h
  refine swp_skip ?_
  refine nx_n ?_
  refine swp_seq ?_
  refine swp_reg ?_
  refine SRun.ck tbokGB 1 ⟨104, [(9, .own 9), (12, vi x15.1), (13, vi 1)], [(9, .arr 2 1 x15.2.length (x15.2.map (eI .i64)))]⟩ ?_
  refine SRun.nil ?_
  refine nx_n ?_
  refine swp_seq ?_
  refine swp_reg ?_
  refine SRun.ck tbokGB 2 ⟨104, [(12, vi x15.1), (96, .own 9), (97, vi 1)], [(9, .arr 2 1 x15.2.length (x15.2.map (eI .i64)))]⟩ ?_
  obtain ⟨x22, hx22, h⟩ := bind_some h
  refine SRun.ls (x_lstep_call (f := 24) (caps := []) (xs := [.own 9, vi 1]) (ys := [vl (eI .i64) x15.2, vi 1]) (res := ⟨[.v (vi x22)], [], false⟩) (x := vi x22) (y := none) rfl ents24 (laws_heldInt64S_run x15.2 1 _ hx22) rfl (by intro hc; cases hc)) ?_
  refine SRun.ck tbokGB 1 ⟨104, [(12, vi x15.1), (13, vi x22)], []⟩ ?_
  refine SRun.nil ?_
  refine nx_n ?_
  refine swp_seq ?_
  refine swp_seq ?_
  refine swp_reg ?_
  refine SRun.ck tbokGB 2 ⟨104, [(12, vi x15.1), (13, vi x22), (100, vb (decide (x22 < 0)))], []⟩ ?_
  refine SRun.nil ?_
  refine nx_n ?_
  refine swp_cond (b := (decide (x22 < 0))) (by kernel_rfl) (fun hb => ?_) (fun hb => ?_)
  replace h := cond_t hb h
  refine swp_seq ?_
  refine swp_reg ?_
  refine SRun.ck tbokGB 1 ⟨104, [(4, vb false)], []⟩ ?_
  refine SRun.nil ?_
  refine nx_n ?_
  refine swp_ret ?_
  replace h := Option.some.inj h
  subst h
  exact nx_r (q_fr (fin1 (by kernel_rfl) (finV rfl SV.flat_of (holds_t (by kernel_rfl)))))
  replace h := cond_f hb h
  refine swp_skip ?_
  refine nx_n ?_
  refine swp_seq ?_
  refine swp_seq ?_
  refine swp_reg ?_
  refine SRun.ck tbokGB 3 ⟨104, [(103, vb (x22 != x15.1))], []⟩ ?_
  refine SRun.nil ?_
  refine nx_n ?_
  refine swp_cond (b := (x22 != x15.1)) (by kernel_rfl) (fun hb => ?_) (fun hb => ?_)
  replace h := cond_t hb h
  refine swp_seq ?_
  refine swp_reg ?_
  refine SRun.ck tbokGB 1 ⟨104, [(4, vb false)], []⟩ ?_
  refine SRun.nil ?_
  refine nx_n ?_
  refine swp_ret ?_
  replace h := Option.some.inj h
  subst h
  exact nx_r (q_fr (fin1 (by kernel_rfl) (finV rfl SV.flat_of (holds_t (by kernel_rfl)))))
  replace h := cond_f hb h
  refine swp_skip ?_
  refine nx_n ?_
  refine swp_seq ?_
  refine swp_reg ?_
  refine SRun.ck tbokGB 1 ⟨104, [(4, vb true)], []⟩ ?_
  refine SRun.nil ?_
  refine nx_n ?_
  refine swp_ret ?_
  replace h := Option.some.inj h
  subst h
  exact q_fr (fin1 (by kernel_rfl) (finV rfl SV.flat_of (holds_t (by kernel_rfl))))
theorem ents8 : Ents Tryd.prog 8 := ents_of Tryd.func8 (by kernel_rfl) rfl
noncomputable def spec_l01Own (aList : (List Int)) : Option ((List Int)) :=
  ((app' ([] : List Int) aList).bind fun x1 => some x1)
set_option maxRecDepth 100000 in
set_option maxHeartbeats 4000000 in
theorem spec_l01Own_run (aList : (List Int)) (r : (List Int)) (h : spec_l01Own aList = some r) : SCall Tryd.prog 86 [.v (vl (eI .i64) aList)] ⟨[.own 2 1 r.length (r.map (eI .i64))], [], false⟩ := by
  refine scall_in Tryd.func86 rfl [(.tmp 2)] rfl (fun r => ⟨[.own 2 1 r.length (r.map (eI .i64))], [], false⟩) (r := r) ?_
  unfold spec_l01Own at h
  refine swp_seq ?_
  refine swp_reg ?_
  refine SRun.ck tbokGB 1 ⟨6, [(0, vl (eI .i64) aList)], []⟩ ?_
  refine SRun.nil ?_
  refine nx_n ?_
  refine swp_seq ?_
  refine swp_reg ?_
  refine SRun.ck tbokGB 2 ⟨6, [(3, .own 3), (4, vl (eI .i64) aList)], [(3, .arr 2 1 ([] : List Int).length (([] : List Int).map (eI .i64)))]⟩ ?_
  obtain ⟨x1, hx1, h⟩ := bind_some h
  refine SRun.estep (x_append (f := (eI .i64)) (t := 32) (ti := ti32) (tj := ti2) (zs := [.int .i64 0]) (e := 2) (m := 1) (d := 3) (xv := vl (eI .i64) aList) hx1 tbokGB rfl rfl rfl rfl (src_e (fun _ => rfl))) ?_
  refine SRun.ck tbokGB 1 ⟨6, [(2, .own 5)], [(5, .arr 2 1 x1.length (x1.map (eI .i64)))]⟩ ?_
  refine SRun.nil ?_
  refine nx_n ?_
  refine swp_ret ?_
  replace h := Option.some.inj h
  subst h
  exact q_fr (fin1 (by kernel_rfl) (finO (d := 5) (holds_t (by kernel_rfl)) (by kernel_rfl) (flat_map (eI_flat .i64) _) (by kernel_rfl)))
theorem ents86 : Ents Tryd.prog 86 := ents_of Tryd.func86 (by kernel_rfl) rfl
noncomputable def spec_l32Own (aLog : (List Op)) : Option ((List Op)) :=
  (((forS (aLog.length : Int) (fun (i3 : Int) (s3 : (List Op)) => ((at' aLog i3).bind fun x7 => ((spec_l01Own x7.Seen).bind fun x8 => ((app' s3 ([(Op.mk x7.Office x7.Number x7.Key x7.Text x8)] : List Op)).bind fun x9 => some x9)))) (fun (s3 : (List Op)) => s3) 0 ([] : List Op))).bind fun (j1 : (List Op)) => some j1)
set_option maxRecDepth 100000 in
set_option maxHeartbeats 4000000 in
theorem spec_l32Own_run (aLog : (List Op)) (r : (List Op)) (h : spec_l32Own aLog = some r) : SCall Tryd.prog 63 [.v (vl eOp aLog)] ⟨[.deep 61 5 r.length [.flat, .flat, .flat, .flat, (.sl 2 1 [.flat])] (r.map eOp)], [], false⟩ := by
  refine scall_in Tryd.func63 rfl [(.tmp 2)] rfl (fun r => ⟨[.deep 61 5 r.length [.flat, .flat, .flat, .flat, (.sl 2 1 [.flat])] (r.map eOp)], [], false⟩) (r := r) ?_
  unfold spec_l32Own at h
  refine swp_seq ?_
  refine swp_reg ?_
  refine SRun.chunk tbokGB 1 (σ' := ⟨26, [(2, .own 2), (0, vl eOp aLog)], [(2, .arr 61 5 ([] : List Op).length (([] : List Op).map eOp))]⟩) (by kernel_rfl) ?_
  refine SRun.le (Le.deep0 (d := 2) (e := 61) (m := 5) (ss := [.flat, .flat, .flat, .flat, (.sl 2 1 [.flat])]) (by kernel_rfl) (by kernel_rfl)) ?_
  refine SRun.nil ?_
  refine nx_n ?_
  refine swp_seq ?_
  refine swp_reg ?_
  refine SRun.chunk tbokGB 1 (σ' := ⟨26, [(6, .own 6), (2, .own 2), (0, vl eOp aLog)], [(6, .arr 61 5 ([] : List Op).length (([] : List Op).map eOp)), (2, .deep 61 5 ([] : List Op).length [.flat, .flat, .flat, .flat, (.sl 2 1 [.flat])] (([] : List Op).map eOp))]⟩) (by kernel_rfl) ?_
  refine SRun.le (Le.deep0 (d := 6) (e := 61) (m := 5) (ss := [.flat, .flat, .flat, .flat, (.sl 2 1 [.flat])]) (by kernel_rfl) (by kernel_rfl)) ?_
  refine SRun.ck tbokGB 1 ⟨26, [(0, vl eOp aLog), (3, .own 6)], [(6, .deep 61 5 ([] : List Op).length [.flat, .flat, .flat, .flat, (.sl 2 1 [.flat])] (([] : List Op).map eOp))]⟩ ?_
  refine SRun.nil ?_
  refine nx_n ?_
  refine swp_seq ?_
  refine swp_seq ?_
  refine swp_reg ?_
  refine SRun.ck tbokGB 1 ⟨26, [(0, vl eOp aLog), (3, .own 6), (4, vi 0)], [(6, .deep 61 5 ([] : List Op).length [.flat, .flat, .flat, .flat, (.sl 2 1 [.flat])] (([] : List Op).map eOp))]⟩ ?_
  refine SRun.nil ?_
  refine nx_n ?_
  refine swp_seqJ h (fun j1 => ⟨26, [(3, .own 3)], [(3, .deep 61 5 j1.length [.flat, .flat, .flat, .flat, (.sl 2 1 [.flat])] (j1.map eOp))]⟩) (fun v2 h => ?_) (fun j1 h => ?_)
  refine swp_blk (a := v2) ?_
  refine swp_lpL (r := v2) (s := (0, ([] : List Op))) _ (fun s3 => ⟨26, [(0, vl eOp aLog), (3, .own 3), (4, vi s3.1)], [(3, .deep 61 5 s3.2.length [.flat, .flat, .flat, .flat, (.sl 2 1 [.flat])] (s3.2.map eOp))]⟩) _ ((Le.sub' ([(0, vl eOp aLog), (3, .own 6), (4, vi 0)] : List (Nat × SV)) ([(6, .deep 61 5 ([] : List Op).length [.flat, .flat, .flat, .flat, (.sl 2 1 [.flat])] (([] : List Op).map eOp))] : List (Nat × SO)) (by kernel_rfl) (by kernel_rfl)).trans ((Le.ren' (d := 6) (e := 3) (by kernel_rfl) (by kernel_rfl) (by kernel_rfl)).trans (Le.sub0))) h (fun s3 v4 h => ?_)
  refine swp_seq ?_
  refine swp_seq ?_
  refine swp_reg ?_
  refine SRun.ck tbokGB 4 ⟨26, [(0, vl eOp aLog), (3, .own 3), (4, vi s3.1), (10, vb (decide (s3.1 < (aLog.length : Int))))], [(3, .deep 61 5 s3.2.length [.flat, .flat, .flat, .flat, (.sl 2 1 [.flat])] (s3.2.map eOp))]⟩ ?_
  refine SRun.nil ?_
  refine nx_n ?_
  refine swp_cond (b := (decide (s3.1 < (aLog.length : Int)))) (by kernel_rfl) (fun hb => ?_) (fun hb => ?_)
  replace h := cond_t hb h
  refine swp_skip ?_
  refine nx_n ?_
  refine swp_seq ?_
  refine swp_seqJ h (fun j5 => ⟨26, [(0, vl eOp aLog), (3, .own 3), (4, vi s3.1)], [(3, .deep 61 5 j5.length [.flat, .flat, .flat, .flat, (.sl 2 1 [.flat])] (j5.map eOp))]⟩) (fun v6 h => ?_) (fun j5 h => ?_)
  refine swp_blk (a := v6) ?_
  refine swp_seq ?_
  refine swp_reg ?_
  refine SRun.ck tbokGB 2 ⟨26, [(0, vl eOp aLog), (3, .own 3), (4, vi s3.1), (13, vl eOp aLog), (14, vi s3.1)], [(3, .deep 61 5 s3.2.length [.flat, .flat, .flat, .flat, (.sl 2 1 [.flat])] (s3.2.map eOp))]⟩ ?_
  obtain ⟨x7, hx7, h⟩ := bind_some h
  refine SRun.ls (x_index (L := aLog) (f := eOp) (ti := ti25) (tj := ti61) (e := 61) (k := .i64) tbokGB rfl hx7) ?_
  refine SRun.ck tbokGB 2 ⟨26, [(0, vl eOp aLog), (3, .own 3), (4, vi s3.1), (5, .ref 5 0), (16, .agg [vi x7.Office, vi x7.Number, vs x7.Key, vs x7.Text, vl (eI .i64) x7.Seen])], [(3, .deep 61 5 s3.2.length [.flat, .flat, .flat, .flat, (.sl 2 1 [.flat])] (s3.2.map eOp)), (5, .box [vi 0, vi 0, vs (ByteArray.mk #[]), vs (ByteArray.mk #[]), vl (eI .i64) ([] : List Int)])]⟩ ?_
  refine SRun.estep (x_estep_store (d := 5) (k := 0) (ti := ti61) (cs := [vi 0, vi 0, vs (ByteArray.mk #[]), vs (ByteArray.mk #[]), vl (eI .i64) ([] : List Int)]) (vs := [vi x7.Office, vi x7.Number, vs x7.Key, vs x7.Text, vl (eI .i64) x7.Seen]) (v := .agg [vi x7.Office, vi x7.Number, vs x7.Key, vs x7.Text, vl (eI .i64) x7.Seen]) tbokGB rfl rfl) ?_
  refine SRun.nil ?_
  refine nx_n ?_
  refine swp_seq ?_
  refine swp_reg ?_
  refine SRun.ck tbokGB 2 ⟨26, [(0, vl eOp aLog), (3, .own 3), (4, vi s3.1), (5, .ref 5 0), (18, vl (eI .i64) x7.Seen)], [(3, .deep 61 5 s3.2.length [.flat, .flat, .flat, .flat, (.sl 2 1 [.flat])] (s3.2.map eOp)), (5, .box [vi x7.Office, vi x7.Number, vs x7.Key, vs x7.Text, vl (eI .i64) x7.Seen])]⟩ ?_
  obtain ⟨x8, hx8, h⟩ := bind_some h
  refine SRun.ls (x_lstep_call (f := 86) (caps := []) (xs := [vl (eI .i64) x7.Seen]) (ys := [vl (eI .i64) x7.Seen]) (res := ⟨[.own 2 1 x8.length (x8.map (eI .i64))], [], false⟩) (x := .own 19) (y := some (.arr 2 1 x8.length (x8.map (eI .i64)))) rfl ents86 (spec_l01Own_run x7.Seen _ hx8) rfl (by intro hc; cases hc)) ?_
  refine SRun.ck tbokGB 1 ⟨26, [(0, vl eOp aLog), (3, .own 3), (4, vi s3.1), (5, .ref 5 0), (19, .own 19), (20, .ref 5 4)], [(3, .deep 61 5 s3.2.length [.flat, .flat, .flat, .flat, (.sl 2 1 [.flat])] (s3.2.map eOp)), (5, .box [vi x7.Office, vi x7.Number, vs x7.Key, vs x7.Text, vl (eI .i64) x7.Seen]), (19, .arr 2 1 x8.length (x8.map (eI .i64)))]⟩ ?_
  refine SRun.estep (x_estep_store (d := 5) (k := 4) (ti := ti32) (cs := [vi x7.Office, vi x7.Number, vs x7.Key, vs x7.Text, vl (eI .i64) x7.Seen]) (vs := [.own 19]) (v := .own 19) tbokGB rfl rfl) ?_
  refine SRun.nil ?_
  refine nx_n ?_
  refine swp_reg ?_
  refine SRun.ck tbokGB 2 ⟨26, [(0, vl eOp aLog), (4, vi s3.1), (21, .own 3), (22, .agg [vi x7.Office, vi x7.Number, vs x7.Key, vs x7.Text, .own 19])], [(3, .deep 61 5 s3.2.length [.flat, .flat, .flat, .flat, (.sl 2 1 [.flat])] (s3.2.map eOp)), (19, .arr 2 1 x8.length (x8.map (eI .i64)))]⟩ ?_
  refine SRun.estep (x_build_deep (ti := ti25) (tj := ti61) (e := 61) (m := 5) (zs := [.int .i64 0, .int .i64 0, .string (ByteArray.mk #[]), .string (ByteArray.mk #[]), .slice none 0 0]) (v := .agg [vi x7.Office, vi x7.Number, vs x7.Key, vs x7.Text, .own 19]) (cs := [vi x7.Office, vi x7.Number, vs x7.Key, vs x7.Text, .own 19]) (ss := [.flat, .flat, .flat, .flat, (.sl 2 1 [.flat])]) (ts := [.int .i64 x7.Office, .int .i64 x7.Number, .str x7.Key, .str x7.Text, .sl x8.length (x8.map (eI .i64))]) (ds := [19]) tbokGB rfl rfl rfl (.cons _ _ _ [] _ _ _ _ (.flat (.int .i64 x7.Office) rfl) (.cons _ _ _ [] _ _ _ _ (.flat (.int .i64 x7.Number) rfl) (.cons _ _ _ [] _ _ _ _ (.flat (.str x7.Key) rfl) (.cons _ _ _ [] _ _ _ _ (.flat (.str x7.Text) rfl) (.cons _ _ _ [19] _ _ _ _ (cD_arr (d := 19) (e := 2) (m := 1) (n := x8.length) (es := x8.map (eI .i64)) (ss := [.flat]) (flat_map (eI_flat .i64) _)) .nil (by decide)) (by decide)) (by decide)) (by decide)) (by decide))) ?_
  obtain ⟨x9, hx9, h⟩ := bind_some h
  refine SRun.estep (x_append_deep (f := eOp) (L := s3.2) (M := ([(Op.mk x7.Office x7.Number x7.Key x7.Text x8)] : List Op)) (t := 25) (ti := ti25) (tj := ti61) (zs := [.int .i64 0, .int .i64 0, .string (ByteArray.mk #[]), .string (ByteArray.mk #[]), .slice none 0 0]) (e := 61) (m := 5) (d := 3) (dx := 23) (ss := [.flat, .flat, .flat, .flat, (.sl 2 1 [.flat])]) hx9 tbokGB rfl rfl rfl rfl) ?_
  refine SRun.ck tbokGB 1 ⟨26, [(0, vl eOp aLog), (3, .own 24), (4, vi s3.1)], [(24, .deep 61 5 x9.length [.flat, .flat, .flat, .flat, (.sl 2 1 [.flat])] (x9.map eOp))]⟩ ?_
  refine SRun.nil ?_
  replace h := Option.some.inj h
  subst h
  exact q_bn (q_j ((Le.sub' ([(0, vl eOp aLog), (3, .own 24), (4, vi s3.1)] : List (Nat × SV)) ([(24, .deep 61 5 x9.length [.flat, .flat, .flat, .flat, (.sl 2 1 [.flat])] (x9.map eOp))] : List (Nat × SO)) (by kernel_rfl) (by kernel_rfl)).trans ((Le.ren' (d := 24) (e := 3) (by kernel_rfl) (by kernel_rfl) (by kernel_rfl)).trans (Le.sub0))))
  refine swp_reg ?_
  refine SRun.ck tbokGB 3 ⟨26, [(0, vl eOp aLog), (3, .own 3), (4, vi (w64 (s3.1 + 1)))], [(3, .deep 61 5 j5.length [.flat, .flat, .flat, .flat, (.sl 2 1 [.flat])] (j5.map eOp))]⟩ ?_
  refine SRun.nil ?_
  replace h := Option.some.inj h
  subst h
  exact q_l (Le.sub0)
  replace h := cond_f hb h
  refine swp_exit ?_
  replace h := Option.some.inj h
  subst h
  exact nx_e (q_re (q_bh (q_j (Le.sub0))))
  refine swp_seq ?_
  refine swp_reg ?_
  refine SRun.ck tbokGB 2 ⟨26, [(2, .own 3)], [(3, .deep 61 5 j1.length [.flat, .flat, .flat, .flat, (.sl 2 1 [.flat])] (j1.map eOp))]⟩ ?_
  refine SRun.nil ?_
  refine nx_n ?_
  refine swp_ret ?_
  replace h := Option.some.inj h
  subst h
  exact q_fr (fin1 (by kernel_rfl) (finD (d := 3) (holds_t (by kernel_rfl)) (by kernel_rfl) (by kernel_rfl)))
theorem ents63 : Ents Tryd.prog 63 := ents_of Tryd.func63 (by kernel_rfl) rfl
noncomputable def spec_MakeOp (aLog : (List Op)) (aOffice : Int) (aKey : ByteArray) (aText : ByteArray) : Option ((List Op) × Int) :=
  ((((spec_IsLog aLog).bind fun x1 => (bif (!x1) then some true else ((spec_l01In aOffice 0 3).bind fun x2 => (bif (!x2) then some true else ((spec_IsWord aKey).bind fun x3 => (bif (!x3) then some true else ((spec_IsPhrase aText).bind fun x4 => some (!x4))))))))).bind fun (j5 : Bool) => (bif j5 then some (([] : List Op), 1) else (bif ((aLog.length : Int) == 16) then some (([] : List Op), 3) else ((spec_l32Count aLog).bind fun x7 => ((at' x7 aOffice).bind fun x8 => ((app' ([] : List Op) aLog).bind fun x9 => ((app' x9 ([(Op.mk aOffice (w64 (x8 + 1)) aKey aText x7)] : List Op)).bind fun x10 => ((spec_l32Own x10).bind fun x11 => some (x11, 0)))))))))
set_option maxRecDepth 100000 in
set_option maxHeartbeats 4000000 in
theorem spec_MakeOp_run (aLog : (List Op)) (aOffice : Int) (aKey : ByteArray) (aText : ByteArray) (r : (List Op) × Int) (h : spec_MakeOp aLog aOffice aKey aText = some r) : SCall Tryd.prog 32 [.v (vl eOp aLog), .v (vi aOffice), .v (vs aKey), .v (vs aText)] ⟨[.deep 61 5 r.1.length [.flat, .flat, .flat, .flat, (.sl 2 1 [.flat])] (r.1.map eOp), .v (vi r.2)], [], false⟩ := by
  refine scall_in Tryd.func32 rfl [(.tmp 8), (.tmp 9)] rfl (fun r => ⟨[.deep 61 5 r.1.length [.flat, .flat, .flat, .flat, (.sl 2 1 [.flat])] (r.1.map eOp), .v (vi r.2)], [], false⟩) (r := r) ?_
  unfold spec_MakeOp at h
  refine swp_seq ?_
  refine swp_reg ?_
  refine SRun.ck tbokGB 2 ⟨52, [(0, vl eOp aLog), (1, vi aOffice), (2, vs aKey), (3, vs aText)], []⟩ ?_
  refine SRun.nil ?_
  refine nx_n ?_
  refine swp_seq ?_
  refine swp_seq ?_
  refine swp_regJ h (fun j5 => ⟨52, [(0, vl eOp aLog), (1, vi aOffice), (2, vs aKey), (3, vs aText), (29, vb j5)], []⟩) (fun v6 h => ?_) (fun j5 h => ?_)
  refine SRun.ck tbokGB 1 ⟨52, [(0, vl eOp aLog), (1, vi aOffice), (2, vs aKey), (3, vs aText), (12, vl eOp aLog)], []⟩ ?_
  obtain ⟨x1, hx1, h⟩ := bind_some h
  refine SRun.ls (x_lstep_call (f := 13) (caps := []) (xs := [vl eOp aLog]) (ys := [vl eOp aLog]) (res := ⟨[.v (vb x1)], [], false⟩) (x := vb x1) (y := none) rfl ents13 (spec_IsLog_run aLog _ hx1) rfl (by intro hc; cases hc)) ?_
  refine SRun.ck tbokGB 2 ⟨52, [(0, vl eOp aLog), (1, vi aOffice), (2, vs aKey), (3, vs aText), (15, vb (!x1))], []⟩ ?_
  refine SRun.cut [(15, fun b => b)] (b := (!x1)) (by kernel_rfl) (fun hb => ?_) (fun hb => ?_)
  replace h := cond_t hb h
  refine SRun.ck tbokGB 14 ⟨52, [(0, vl eOp aLog), (1, vi aOffice), (2, vs aKey), (3, vs aText), (29, vb true)], []⟩ ?_
  refine SRun.nil ?_
  replace h := Option.some.inj h
  subst h
  exact Le.sub0
  replace h := cond_f hb h
  refine SRun.ck tbokGB 1 ⟨52, [(0, vl eOp aLog), (1, vi aOffice), (2, vs aKey), (3, vs aText), (15, vb false), (16, vi aOffice)], []⟩ ?_
  obtain ⟨x2, hx2, h⟩ := bind_some h
  refine SRun.ls (x_lstep_call (f := 44) (caps := []) (xs := [vi aOffice, vi 0, vi 3]) (ys := [vi aOffice, vi 0, vi 3]) (res := ⟨[.v (vb x2)], [], false⟩) (x := vb x2) (y := none) rfl ents44 (spec_l01In_run aOffice 0 3 _ hx2) rfl (by intro hc; cases hc)) ?_
  refine SRun.ck tbokGB 3 ⟨52, [(0, vl eOp aLog), (1, vi aOffice), (2, vs aKey), (3, vs aText), (20, vb (!x2))], []⟩ ?_
  refine SRun.cut [(20, fun b => b)] (b := (!x2)) (by kernel_rfl) (fun hb => ?_) (fun hb => ?_)
  replace h := cond_t hb h
  refine SRun.ck tbokGB 9 ⟨52, [(0, vl eOp aLog), (1, vi aOffice), (2, vs aKey), (3, vs aText), (29, vb true)], []⟩ ?_
  refine SRun.nil ?_
  replace h := Option.some.inj h
  subst h
  exact Le.sub0
  replace h := cond_f hb h
  refine SRun.ck tbokGB 1 ⟨52, [(0, vl eOp aLog), (1, vi aOffice), (2, vs aKey), (3, vs aText), (20, vb false), (21, vs aKey)], []⟩ ?_
  obtain ⟨x3, hx3, h⟩ := bind_some h
  refine SRun.ls (x_lstep_call (f := 45) (caps := []) (xs := [vs aKey]) (ys := [vs aKey]) (res := ⟨[.v (vb x3)], [], false⟩) (x := vb x3) (y := none) rfl ents45 (spec_IsWord_run aKey _ hx3) rfl (by intro hc; cases hc)) ?_
  refine SRun.ck tbokGB 3 ⟨52, [(0, vl eOp aLog), (1, vi aOffice), (2, vs aKey), (3, vs aText), (25, vb (!x3))], []⟩ ?_
  refine SRun.cut [(25, fun b => b)] (b := (!x3)) (by kernel_rfl) (fun hb => ?_) (fun hb => ?_)
  replace h := cond_t hb h
  refine SRun.ck tbokGB 4 ⟨52, [(0, vl eOp aLog), (1, vi aOffice), (2, vs aKey), (3, vs aText), (29, vb true)], []⟩ ?_
  refine SRun.nil ?_
  replace h := Option.some.inj h
  subst h
  exact Le.sub0
  replace h := cond_f hb h
  refine SRun.ck tbokGB 1 ⟨52, [(0, vl eOp aLog), (1, vi aOffice), (2, vs aKey), (3, vs aText), (25, vb false), (26, vs aText)], []⟩ ?_
  obtain ⟨x4, hx4, h⟩ := bind_some h
  refine SRun.ls (x_lstep_call (f := 46) (caps := []) (xs := [vs aText]) (ys := [vs aText]) (res := ⟨[.v (vb x4)], [], false⟩) (x := vb x4) (y := none) rfl ents46 (spec_IsPhrase_run aText _ hx4) rfl (by intro hc; cases hc)) ?_
  refine SRun.ck tbokGB 2 ⟨52, [(0, vl eOp aLog), (1, vi aOffice), (2, vs aKey), (3, vs aText), (29, vb (!x4))], []⟩ ?_
  refine SRun.nil ?_
  replace h := Option.some.inj h
  subst h
  exact Le.sub0
  refine swp_cond (b := j5) (by kernel_rfl) (fun hb => ?_) (fun hb => ?_)
  replace h := cond_t hb h
  refine swp_seq ?_
  refine swp_reg ?_
  refine SRun.ck tbokGB 2 ⟨52, [(8, .own 8), (9, vi 1)], [(8, .arr 61 5 ([] : List Op).length (([] : List Op).map eOp))]⟩ ?_
  refine SRun.nil ?_
  refine nx_n ?_
  refine swp_le (Le.deep0 (d := 8) (e := 61) (m := 5) (ss := [.flat, .flat, .flat, .flat, (.sl 2 1 [.flat])]) (by kernel_rfl) (by kernel_rfl)) ?_
  refine swp_ret ?_
  replace h := Option.some.inj h
  subst h
  exact nx_r (q_fr (fin2 (by kernel_rfl) (finD (d := 8) (holds_t (by kernel_rfl)) (by kernel_rfl) (by kernel_rfl)) (finV rfl SV.flat_of (holds_t (by kernel_rfl)))))
  replace h := cond_f hb h
  refine swp_skip ?_
  refine nx_n ?_
  refine swp_seq ?_
  refine swp_seq ?_
  refine swp_reg ?_
  refine SRun.ck tbokGB 3 ⟨52, [(0, vl eOp aLog), (1, vi aOffice), (2, vs aKey), (3, vs aText), (32, vb ((aLog.length : Int) == 16))], []⟩ ?_
  refine SRun.nil ?_
  refine nx_n ?_
  refine swp_cond (b := ((aLog.length : Int) == 16)) (by kernel_rfl) (fun hb => ?_) (fun hb => ?_)
  replace h := cond_t hb h
  refine swp_seq ?_
  refine swp_reg ?_
  refine SRun.ck tbokGB 2 ⟨52, [(8, .own 8), (9, vi 3)], [(8, .arr 61 5 ([] : List Op).length (([] : List Op).map eOp))]⟩ ?_
  refine SRun.nil ?_
  refine nx_n ?_
  refine swp_le (Le.deep0 (d := 8) (e := 61) (m := 5) (ss := [.flat, .flat, .flat, .flat, (.sl 2 1 [.flat])]) (by kernel_rfl) (by kernel_rfl)) ?_
  refine swp_ret ?_
  replace h := Option.some.inj h
  subst h
  exact nx_r (q_fr (fin2 (by kernel_rfl) (finD (d := 8) (holds_t (by kernel_rfl)) (by kernel_rfl) (by kernel_rfl)) (finV rfl SV.flat_of (holds_t (by kernel_rfl)))))
  replace h := cond_f hb h
  refine swp_skip ?_
  refine nx_n ?_
  refine swp_seq ?_
  refine swp_reg ?_
  refine SRun.ck tbokGB 1 ⟨52, [(0, vl eOp aLog), (1, vi aOffice), (2, vs aKey), (3, vs aText), (33, vl eOp aLog)], []⟩ ?_
  obtain ⟨x7, hx7, h⟩ := bind_some h
  refine SRun.ls (x_lstep_call (f := 56) (caps := []) (xs := [vl eOp aLog]) (ys := [vl eOp aLog]) (res := ⟨[.own 2 1 x7.length (x7.map (eI .i64))], [], false⟩) (x := .own 34) (y := some (.arr 2 1 x7.length (x7.map (eI .i64)))) rfl ents56 (spec_l32Count_run aLog _ hx7) rfl (by intro hc; cases hc)) ?_
  refine SRun.ck tbokGB 1 ⟨52, [(0, vl eOp aLog), (1, vi aOffice), (2, vs aKey), (3, vs aText), (10, .own 34)], [(34, .arr 2 1 x7.length (x7.map (eI .i64)))]⟩ ?_
  refine SRun.nil ?_
  refine nx_n ?_
  refine swp_seq ?_
  refine swp_reg ?_
  refine SRun.ck tbokGB 3 ⟨52, [(0, vl eOp aLog), (2, vs aKey), (3, vs aText), (10, .own 34), (35, vi aOffice), (36, .own 34), (37, vi aOffice)], [(34, .arr 2 1 x7.length (x7.map (eI .i64)))]⟩ ?_
  obtain ⟨x8, hx8, h⟩ := bind_some h
  refine SRun.ls (x_index_own (d := 34) (L := x7) (f := (eI .i64)) (ti := ti32) (tj := ti2) (e := 2) (e' := 2) (m := 1) (k := .i64) tbokGB rfl hx8) ?_
  refine SRun.ls (x_load_own (d := 34) (m := 1) (j := 0) (L := x7) (f := (eI .i64)) (ti := ti2) (e := 2) (v := vi x8) tbokGB rfl hx8) ?_
  refine SRun.ck tbokGB 4 ⟨52, [(0, vl eOp aLog), (35, vi aOffice), (40, vi (w64 (x8 + 1))), (41, vs aKey), (42, vs aText), (43, .own 34)], [(34, .arr 2 1 x7.length (x7.map (eI .i64)))]⟩ ?_
  refine SRun.ls (x_lstep_build (v := .agg [vi aOffice, vi (w64 (x8 + 1)), vs aKey, vs aText, .own 34]) tbokGB rfl) ?_
  refine SRun.ck tbokGB 1 ⟨52, [(0, vl eOp aLog), (11, .ref 11 0), (44, .agg [vi aOffice, vi (w64 (x8 + 1)), vs aKey, vs aText, .own 34])], [(11, .box [vi 0, vi 0, vs (ByteArray.mk #[]), vs (ByteArray.mk #[]), vl (eI .i64) ([] : List Int)]), (34, .arr 2 1 x7.length (x7.map (eI .i64)))]⟩ ?_
  refine SRun.estep (x_estep_store (d := 11) (k := 0) (ti := ti61) (cs := [vi 0, vi 0, vs (ByteArray.mk #[]), vs (ByteArray.mk #[]), vl (eI .i64) ([] : List Int)]) (vs := [vi aOffice, vi (w64 (x8 + 1)), vs aKey, vs aText, .own 34]) (v := .agg [vi aOffice, vi (w64 (x8 + 1)), vs aKey, vs aText, .own 34]) tbokGB rfl rfl) ?_
  refine SRun.nil ?_
  refine nx_n ?_
  refine swp_seq ?_
  refine swp_le (Le.frz' (d := 34) (e := 2) (m := 1) (n := x7.length) (es := x7.map (eI .i64)) (by kernel_rfl) (by kernel_rfl)) ?_
  obtain ⟨x9, hx9, h⟩ := bind_some h
  obtain ⟨x10, hx10, h⟩ := bind_some h
  obtain ⟨x11, hx11, h⟩ := bind_some h
  refine swp_dr mixed ?_
  refine DGo.enum (σE := ⟨52, [(8, .own 51), (9, vi 0)], [(51, .deep 61 5 x11.length [.flat, .flat, .flat, .flat, (.sl 2 1 [.flat])] (x11.map eOp))]⟩) (n := 9) (L0 := #[false, false, false, false, false, false, false, false, false]) (by kernel_rfl) (by kernel_rfl) (fun K hk => ?_) ?_
  refine DE.share (fuel := 0) (L := #[true, true, true, true, true, true, true, true, true]) (σ := ⟨52, [(8, .own 51), (9, vi 0)], [(51, .deep 61 5 x11.length [.flat, .flat, .flat, .flat, (.sl 2 1 [.flat])] (x11.map eOp))]⟩) ?_ (fun d13 => ?_)
  exact DE.done (by kernel_rfl) hk
  refine DE.share (fuel := 1) (L := #[true, true, true, true, true, true, true, true, false]) (σ := ⟨52, [(8, .own 51)], [(51, .deep 61 5 x11.length [.flat, .flat, .flat, .flat, (.sl 2 1 [.flat])] (x11.map eOp))]⟩) ?_ (fun d12 => ?_)
  exact DE.take (i := 8) (L' := #[true, true, true, true, true, true, true, true, true]) rfl (.inr rfl) rfl (by kernel_rfl) (by kernel_rfl) (by kernel_rfl) (EStep.le (EStep.ofN2 tbokGB (σ' := ⟨52, [(9, vi 0), (8, .own 51)], [(51, .deep 61 5 x11.length [.flat, .flat, .flat, .flat, (.sl 2 1 [.flat])] (x11.map eOp))]⟩) (by kernel_rfl)) Le.sub0) (by kernel_rfl) d13
  refine DE.share (fuel := 2) (L := #[true, true, true, true, true, true, true, false, false]) (σ := ⟨52, [(51, .own 51)], [(51, .deep 61 5 x11.length [.flat, .flat, .flat, .flat, (.sl 2 1 [.flat])] (x11.map eOp))]⟩) ?_ (fun d11 => ?_)
  exact DE.take (i := 7) (L' := #[true, true, true, true, true, true, true, true, false]) rfl (.inr rfl) rfl (by kernel_rfl) (by kernel_rfl) (by kernel_rfl) (EStep.le (EStep.ofN2 tbokGB (σ' := ⟨52, [(8, .own 51), (51, .own 51)], [(51, .deep 61 5 x11.length [.flat, .flat, .flat, .flat, (.sl 2 1 [.flat])] (x11.map eOp))]⟩) (by kernel_rfl)) Le.sub0) (by kernel_rfl) d12
  refine DE.share (fuel := 3) (L := #[true, true, true, true, true, true, false, false, false]) (σ := ⟨52, [(50, .own 50)], [(50, .arr 61 5 x10.length (x10.map eOp))]⟩) ?_ (fun d10 => ?_)
  exact DE.all [6] (by kernel_rfl) (by simp) (List.forall_mem_cons.2 ⟨DEs.mk (i := 6) (L' := #[true, true, true, true, true, true, true, false, false]) rfl (EStep.le (EStep.ofL (x_lstep_call (f := 63) (caps := []) (xs := [.own 50]) (ys := [vl eOp x10]) (res := ⟨[.deep 61 5 x11.length [.flat, .flat, .flat, .flat, (.sl 2 1 [.flat])] (x11.map eOp)], [], false⟩) (x := .own 51) (y := some (.deep 61 5 x11.length [.flat, .flat, .flat, .flat, (.sl 2 1 [.flat])] (x11.map eOp))) rfl ents63 (spec_l32Own_run x10 _ hx11) rfl (by intro hc; cases hc)) (by kernel_rfl)) Le.sub0) (by kernel_rfl) d11, (fun _ h => absurd h List.not_mem_nil)⟩)
  refine DE.share (fuel := 4) (L := #[true, true, true, true, true, false, false, false, false]) (σ := ⟨52, [(47, .own 47), (49, .own 49)], [(47, .arr 61 5 x9.length (x9.map eOp)), (49, .arr 61 5 ([(Op.mk aOffice (w64 (x8 + 1)) aKey aText x7)] : List Op).length (([(Op.mk aOffice (w64 (x8 + 1)) aKey aText x7)] : List Op).map eOp))]⟩) ?_ (fun d9 => ?_)
  exact DE.all [5] (by kernel_rfl) (by simp) (List.forall_mem_cons.2 ⟨DEs.mk (i := 5) (L' := #[true, true, true, true, true, true, false, false, false]) rfl (EStep.le (x_append (f := eOp) (t := 25) (ti := ti25) (tj := ti61) (zs := [.int .i64 0, .int .i64 0, .string (ByteArray.mk #[]), .string (ByteArray.mk #[]), .slice none 0 0]) (e := 61) (m := 5) (d := 47) (xv := .own 49) hx10 tbokGB rfl rfl rfl rfl (x_src_o (e := 61))) Le.sub0) (by kernel_rfl) d10, (fun _ h => absurd h List.not_mem_nil)⟩)
  refine DE.share (fuel := 5) (L := #[true, true, false, true, true, false, false, false, false]) (σ := ⟨52, [(45, .own 45), (46, vl eOp aLog), (49, .own 49)], [(45, .arr 61 5 ([] : List Op).length (([] : List Op).map eOp)), (49, .arr 61 5 ([(Op.mk aOffice (w64 (x8 + 1)) aKey aText x7)] : List Op).length (([(Op.mk aOffice (w64 (x8 + 1)) aKey aText x7)] : List Op).map eOp))]⟩) ?_ (fun d8 => ?_)
  exact DE.all [2] (by kernel_rfl) (by simp) (List.forall_mem_cons.2 ⟨DEs.mk (i := 2) (L' := #[true, true, true, true, true, false, false, false, false]) rfl (EStep.le (x_append (f := eOp) (t := 25) (ti := ti25) (tj := ti61) (zs := [.int .i64 0, .int .i64 0, .string (ByteArray.mk #[]), .string (ByteArray.mk #[]), .slice none 0 0]) (e := 61) (m := 5) (d := 45) (xv := vl eOp aLog) hx9 tbokGB rfl rfl rfl rfl (src_e (fun _ => rfl))) Le.sub0) (by kernel_rfl) d9, (fun _ h => absurd h List.not_mem_nil)⟩)
  refine DE.share (fuel := 5) (L := #[true, true, true, true, false, false, false, false, false]) (σ := ⟨52, [(47, .own 47), (48, .agg [vi aOffice, vi (w64 (x8 + 1)), vs aKey, vs aText, vl (eI .i64) x7])], [(47, .arr 61 5 x9.length (x9.map eOp))]⟩) ?_ (fun d7 => ?_)
  exact DE.all [4] (by kernel_rfl) (by simp) (List.forall_mem_cons.2 ⟨DEs.mk (i := 4) (L' := #[true, true, true, true, true, false, false, false, false]) rfl (EStep.le (EStep.ofN2 tbokGB (σ' := ⟨52, [(49, .own 49), (47, .own 47), (48, .agg [vi aOffice, vi (w64 (x8 + 1)), vs aKey, vs aText, vl (eI .i64) x7])], [(49, .arr 61 5 ([(Op.mk aOffice (w64 (x8 + 1)) aKey aText x7)] : List Op).length (([(Op.mk aOffice (w64 (x8 + 1)) aKey aText x7)] : List Op).map eOp)), (47, .arr 61 5 x9.length (x9.map eOp))]⟩) (by kernel_rfl)) Le.sub0) (by kernel_rfl) d9, (fun _ h => absurd h List.not_mem_nil)⟩)
  refine DE.share (fuel := 6) (L := #[false, true, false, true, true, false, false, false, false]) (σ := ⟨52, [(46, vl eOp aLog), (49, .own 49)], [(49, .arr 61 5 ([(Op.mk aOffice (w64 (x8 + 1)) aKey aText x7)] : List Op).length (([(Op.mk aOffice (w64 (x8 + 1)) aKey aText x7)] : List Op).map eOp))]⟩) ?_ (fun d6 => ?_)
  exact DE.all [0] (by kernel_rfl) (by simp) (List.forall_mem_cons.2 ⟨DEs.mk (i := 0) (L' := #[true, true, false, true, true, false, false, false, false]) rfl (EStep.ofN2 tbokGB (σ' := ⟨52, [(45, .own 45), (46, vl eOp aLog), (49, .own 49)], [(45, .arr 61 5 ([] : List Op).length (([] : List Op).map eOp)), (49, .arr 61 5 ([(Op.mk aOffice (w64 (x8 + 1)) aKey aText x7)] : List Op).length (([(Op.mk aOffice (w64 (x8 + 1)) aKey aText x7)] : List Op).map eOp))]⟩) (by kernel_rfl)) (by kernel_rfl) d8, (fun _ h => absurd h List.not_mem_nil)⟩)
  refine DE.share (fuel := 6) (L := #[true, true, false, true, false, false, false, false, false]) (σ := ⟨52, [(45, .own 45), (46, vl eOp aLog), (48, .agg [vi aOffice, vi (w64 (x8 + 1)), vs aKey, vs aText, vl (eI .i64) x7])], [(45, .arr 61 5 ([] : List Op).length (([] : List Op).map eOp))]⟩) ?_ (fun d5 => ?_)
  exact DE.all [2, 4] (by kernel_rfl) (by simp) (List.forall_mem_cons.2 ⟨DEs.mk (i := 2) (L' := #[true, true, true, true, false, false, false, false, false]) rfl (EStep.le (x_append (f := eOp) (t := 25) (ti := ti25) (tj := ti61) (zs := [.int .i64 0, .int .i64 0, .string (ByteArray.mk #[]), .string (ByteArray.mk #[]), .slice none 0 0]) (e := 61) (m := 5) (d := 45) (xv := vl eOp aLog) hx9 tbokGB rfl rfl rfl rfl (src_e (fun _ => rfl))) Le.sub0) (by kernel_rfl) d7, (List.forall_mem_cons.2 ⟨DEs.mk (i := 4) (L' := #[true, true, false, true, true, false, false, false, false]) rfl (EStep.le (EStep.ofN2 tbokGB (σ' := ⟨52, [(49, .own 49), (45, .own 45), (46, vl eOp aLog), (48, .agg [vi aOffice, vi (w64 (x8 + 1)), vs aKey, vs aText, vl (eI .i64) x7])], [(49, .arr 61 5 ([(Op.mk aOffice (w64 (x8 + 1)) aKey aText x7)] : List Op).length (([(Op.mk aOffice (w64 (x8 + 1)) aKey aText x7)] : List Op).map eOp)), (45, .arr 61 5 ([] : List Op).length (([] : List Op).map eOp))]⟩) (by kernel_rfl)) Le.sub0) (by kernel_rfl) d8, (fun _ h => absurd h List.not_mem_nil)⟩)⟩)
  refine DE.share (fuel := 6) (L := #[true, true, true, false, false, false, false, false, false]) (σ := ⟨52, [(11, .ref 11 0), (47, .own 47)], [(11, .box [vi aOffice, vi (w64 (x8 + 1)), vs aKey, vs aText, vl (eI .i64) x7]), (47, .arr 61 5 x9.length (x9.map eOp))]⟩) ?_ (fun d4 => ?_)
  exact DE.all [3] (by kernel_rfl) (by simp) (List.forall_mem_cons.2 ⟨DEs.mk (i := 3) (L' := #[true, true, true, true, false, false, false, false, false]) rfl (EStep.le (EStep.ofN2 tbokGB (σ' := ⟨52, [(48, .agg [vi aOffice, vi (w64 (x8 + 1)), vs aKey, vs aText, vl (eI .i64) x7]), (11, .ref 11 0), (47, .own 47)], [(11, .box [vi aOffice, vi (w64 (x8 + 1)), vs aKey, vs aText, vl (eI .i64) x7]), (47, .arr 61 5 x9.length (x9.map eOp))]⟩) (by kernel_rfl)) Le.sub0) (by kernel_rfl) d7, (fun _ h => absurd h List.not_mem_nil)⟩)
  refine DE.share (fuel := 7) (L := #[false, true, false, true, false, false, false, false, false]) (σ := ⟨52, [(46, vl eOp aLog), (48, .agg [vi aOffice, vi (w64 (x8 + 1)), vs aKey, vs aText, vl (eI .i64) x7])], []⟩) ?_ (fun d3 => ?_)
  exact DE.all [0, 4] (by kernel_rfl) (by simp) (List.forall_mem_cons.2 ⟨DEs.mk (i := 0) (L' := #[true, true, false, true, false, false, false, false, false]) rfl (EStep.ofN2 tbokGB (σ' := ⟨52, [(45, .own 45), (46, vl eOp aLog), (48, .agg [vi aOffice, vi (w64 (x8 + 1)), vs aKey, vs aText, vl (eI .i64) x7])], [(45, .arr 61 5 ([] : List Op).length (([] : List Op).map eOp))]⟩) (by kernel_rfl)) (by kernel_rfl) d5, (List.forall_mem_cons.2 ⟨DEs.mk (i := 4) (L' := #[false, true, false, true, true, false, false, false, false]) rfl (EStep.le (EStep.ofN2 tbokGB (σ' := ⟨52, [(49, .own 49), (46, vl eOp aLog), (48, .agg [vi aOffice, vi (w64 (x8 + 1)), vs aKey, vs aText, vl (eI .i64) x7])], [(49, .arr 61 5 ([(Op.mk aOffice (w64 (x8 + 1)) aKey aText x7)] : List Op).length (([(Op.mk aOffice (w64 (x8 + 1)) aKey aText x7)] : List Op).map eOp))]⟩) (by kernel_rfl)) Le.sub0) (by kernel_rfl) d6, (fun _ h => absurd h List.not_mem_nil)⟩)⟩)
  refine DE.share (fuel := 7) (L := #[true, true, false, false, false, false, false, false, false]) (σ := ⟨52, [(11, .ref 11 0), (45, .own 45), (46, vl eOp aLog)], [(11, .box [vi aOffice, vi (w64 (x8 + 1)), vs aKey, vs aText, vl (eI .i64) x7]), (45, .arr 61 5 ([] : List Op).length (([] : List Op).map eOp))]⟩) ?_ (fun d2 => ?_)
  exact DE.all [2, 3] (by kernel_rfl) (by simp) (List.forall_mem_cons.2 ⟨DEs.mk (i := 2) (L' := #[true, true, true, false, false, false, false, false, false]) rfl (EStep.le (x_append (f := eOp) (t := 25) (ti := ti25) (tj := ti61) (zs := [.int .i64 0, .int .i64 0, .string (ByteArray.mk #[]), .string (ByteArray.mk #[]), .slice none 0 0]) (e := 61) (m := 5) (d := 45) (xv := vl eOp aLog) hx9 tbokGB rfl rfl rfl rfl (src_e (fun _ => rfl))) Le.sub0) (by kernel_rfl) d4, (List.forall_mem_cons.2 ⟨DEs.mk (i := 3) (L' := #[true, true, false, true, false, false, false, false, false]) rfl (EStep.le (EStep.ofN2 tbokGB (σ' := ⟨52, [(48, .agg [vi aOffice, vi (w64 (x8 + 1)), vs aKey, vs aText, vl (eI .i64) x7]), (11, .ref 11 0), (45, .own 45), (46, vl eOp aLog)], [(11, .box [vi aOffice, vi (w64 (x8 + 1)), vs aKey, vs aText, vl (eI .i64) x7]), (45, .arr 61 5 ([] : List Op).length (([] : List Op).map eOp))]⟩) (by kernel_rfl)) Le.sub0) (by kernel_rfl) d5, (fun _ h => absurd h List.not_mem_nil)⟩)⟩)
  refine DE.share (fuel := 8) (L := #[false, true, false, false, false, false, false, false, false]) (σ := ⟨52, [(11, .ref 11 0), (46, vl eOp aLog)], [(11, .box [vi aOffice, vi (w64 (x8 + 1)), vs aKey, vs aText, vl (eI .i64) x7])]⟩) ?_ (fun d1 => ?_)
  exact DE.all [0, 3] (by kernel_rfl) (by simp) (List.forall_mem_cons.2 ⟨DEs.mk (i := 0) (L' := #[true, true, false, false, false, false, false, false, false]) rfl (EStep.le (EStep.ofN2 tbokGB (σ' := ⟨52, [(45, .own 45), (11, .ref 11 0), (46, vl eOp aLog)], [(45, .arr 61 5 ([] : List Op).length (([] : List Op).map eOp)), (11, .box [vi aOffice, vi (w64 (x8 + 1)), vs aKey, vs aText, vl (eI .i64) x7])]⟩) (by kernel_rfl)) Le.sub0) (by kernel_rfl) d2, (List.forall_mem_cons.2 ⟨DEs.mk (i := 3) (L' := #[false, true, false, true, false, false, false, false, false]) rfl (EStep.le (EStep.ofN2 tbokGB (σ' := ⟨52, [(48, .agg [vi aOffice, vi (w64 (x8 + 1)), vs aKey, vs aText, vl (eI .i64) x7]), (11, .ref 11 0), (46, vl eOp aLog)], [(11, .box [vi aOffice, vi (w64 (x8 + 1)), vs aKey, vs aText, vl (eI .i64) x7])]⟩) (by kernel_rfl)) Le.sub0) (by kernel_rfl) d3, (fun _ h => absurd h List.not_mem_nil)⟩)⟩)
  exact DE.take (i := 1) (L' := #[false, true, false, false, false, false, false, false, false]) rfl (.inl rfl) rfl (by kernel_rfl) (by kernel_rfl) (by kernel_rfl) (EStep.le (EStep.ofN2 tbokGB (σ' := ⟨52, [(46, vl eOp aLog), (0, vl eOp aLog), (11, .ref 11 0), (44, .agg [vi aOffice, vi (w64 (x8 + 1)), vs aKey, vs aText, vl (eI .i64) x7])], [(11, .box [vi aOffice, vi (w64 (x8 + 1)), vs aKey, vs aText, vl (eI .i64) x7])]⟩) (by kernel_rfl)) Le.sub0) (by kernel_rfl) d1
  refine nx_n ?_
  refine swp_ret ?_
  replace h := Option.some.inj h
  subst h
  exact q_fr (fin2 (by kernel_rfl) (finD (d := 51) (holds_t (by kernel_rfl)) (by kernel_rfl) (by kernel_rfl)) (finV rfl SV.flat_of (holds_t (by kernel_rfl))))
theorem ents32 : Ents Tryd.prog 32 := ents_of Tryd.func32 (by kernel_rfl) rfl
def slices_Clone_int64 (L : List Int) : Option (List Int) := if L.length ≤ 68719476736 then some L else none
set_option maxRecDepth 100000 in
theorem slices_Clone_int64_run (L r : List Int) (h : slices_Clone_int64 L = some r) : SCall Tryd.prog 90 [.v (.tr (.sl L.length (L.map (eI .i64))))] ⟨[.own 2 1 r.length (r.map (eI .i64))], [], true⟩ := by
  unfold slices_Clone_int64 at h
  split at h
  · rename_i hh
    injection h with h
    subst h
    refine clone_scall (eI .i64) Tryd.cloneint64 90 2 rfl rfl _ _ 1 8 rfl rfl (by kernel_rfl) (by kernel_rfl) (by kernel_rfl) (by decide) (fun _ => rfl) (fun _ => rfl) L (by omega)
  · cases h
theorem ents90 : Ents Tryd.prog 90 := ents_of Tryd.func90 (by kernel_rfl) rfl
noncomputable def impl_Op_clone (aX : Op) : Option (Op) :=
  ((slices_Clone_int64 aX.Seen).bind fun x1 => some (Op.mk aX.Office aX.Number aX.Key aX.Text x1))
set_option maxRecDepth 100000 in
set_option maxHeartbeats 4000000 in
theorem impl_Op_clone_run (aX : Op) (r : Op) (h : impl_Op_clone aX = some r) : SCall Tryd.prog 69 [.v (.agg [vi aX.Office, vi aX.Number, vs aX.Key, vs aX.Text, vl (eI .i64) aX.Seen])] ⟨[.part [vi r.Office, vi r.Number, vs r.Key, vs r.Text] [] (.arr 2 1 r.Seen.length (r.Seen.map (eI .i64)))], [], false⟩ := by
  refine scall_in Tryd.func69 rfl [(.cell 2 61)] rfl (fun r => ⟨[.part [vi r.Office, vi r.Number, vs r.Key, vs r.Text] [] (.arr 2 1 r.Seen.length (r.Seen.map (eI .i64)))], [], false⟩) (r := r) ?_
  unfold impl_Op_clone at h
  refine swp_seq ?_
  refine swp_reg ?_
  refine SRun.ck tbokGB 2 ⟨8, [(1, .ref 1 0), (2, .ref 2 0)], [(1, .box [vi aX.Office, vi aX.Number, vs aX.Key, vs aX.Text, vl (eI .i64) aX.Seen]), (2, .box [vi 0, vi 0, vs (ByteArray.mk #[]), vs (ByteArray.mk #[]), vl (eI .i64) ([] : List Int)])]⟩ ?_
  refine SRun.nil ?_
  refine nx_n ?_
  refine swp_seq ?_
  refine swp_reg ?_
  refine SRun.ck tbokGB 2 ⟨8, [(1, .ref 1 0), (2, .ref 2 0), (4, vl (eI .i64) aX.Seen)], [(1, .box [vi aX.Office, vi aX.Number, vs aX.Key, vs aX.Text, vl (eI .i64) aX.Seen]), (2, .box [vi 0, vi 0, vs (ByteArray.mk #[]), vs (ByteArray.mk #[]), vl (eI .i64) ([] : List Int)])]⟩ ?_
  obtain ⟨x1, hx1, h⟩ := bind_some h
  refine SRun.ls (x_lstep_call (f := 90) (caps := []) (xs := [vl (eI .i64) aX.Seen]) (ys := [vl (eI .i64) aX.Seen]) (res := ⟨[.own 2 1 x1.length (x1.map (eI .i64))], [], true⟩) (x := .own 5) (y := some (.arr 2 1 x1.length (x1.map (eI .i64)))) rfl ents90 (slices_Clone_int64_run aX.Seen _ hx1) rfl (fun _ => rfl)) ?_
  refine SRun.ck tbokGB 1 ⟨8, [(1, .ref 1 0), (2, .ref 2 0), (5, .own 5), (6, .ref 1 4)], [(1, .box [vi aX.Office, vi aX.Number, vs aX.Key, vs aX.Text, vl (eI .i64) aX.Seen]), (2, .box [vi 0, vi 0, vs (ByteArray.mk #[]), vs (ByteArray.mk #[]), vl (eI .i64) ([] : List Int)]), (5, .arr 2 1 x1.length (x1.map (eI .i64)))]⟩ ?_
  refine SRun.estep (x_estep_store (d := 1) (k := 4) (ti := ti32) (cs := [vi aX.Office, vi aX.Number, vs aX.Key, vs aX.Text, vl (eI .i64) aX.Seen]) (vs := [.own 5]) (v := .own 5) tbokGB rfl rfl) ?_
  refine SRun.nil ?_
  refine nx_n ?_
  refine swp_seq ?_
  refine swp_reg ?_
  refine SRun.ck tbokGB 1 ⟨8, [(2, .ref 2 0), (7, .agg [vi aX.Office, vi aX.Number, vs aX.Key, vs aX.Text, .own 5])], [(2, .box [vi 0, vi 0, vs (ByteArray.mk #[]), vs (ByteArray.mk #[]), vl (eI .i64) ([] : List Int)]), (5, .arr 2 1 x1.length (x1.map (eI .i64)))]⟩ ?_
  refine SRun.estep (x_estep_store (d := 2) (k := 0) (ti := ti61) (cs := [vi 0, vi 0, vs (ByteArray.mk #[]), vs (ByteArray.mk #[]), vl (eI .i64) ([] : List Int)]) (vs := [vi aX.Office, vi aX.Number, vs aX.Key, vs aX.Text, .own 5]) (v := .agg [vi aX.Office, vi aX.Number, vs aX.Key, vs aX.Text, .own 5]) tbokGB rfl rfl) ?_
  refine SRun.nil ?_
  refine nx_n ?_
  refine swp_ret ?_
  replace h := Option.some.inj h
  subst h
  exact q_fr (fin1 (by kernel_rfl) (finP (d := 5) [vi aX.Office, vi aX.Number, vs aX.Key, vs aX.Text] [] (holds_c tbokGB (d := 2) (cs := [vi aX.Office, vi aX.Number, vs aX.Key, vs aX.Text, .own 5]) (ti := ti61) (by kernel_rfl) (by kernel_rfl) (by kernel_rfl) (by kernel_rfl)) (by kernel_rfl) (flat_map (eI_flat .i64) _) rfl rfl SV.flatL_of SV.flatL_of (by kernel_rfl)))
theorem ents69 : Ents Tryd.prog 69 := ents_of Tryd.func69 (by kernel_rfl) rfl
noncomputable def impl_cloneLog (aLog : (List Op)) : Option ((List Op)) :=
  (((forS (aLog.length : Int) (fun (i3 : Int) (s3 : (List Op)) => ((at' aLog i3).bind fun x7 => ((impl_Op_clone x7).bind fun x8 => ((app' s3 ([x8] : List Op)).bind fun x9 => some x9)))) (fun (s3 : (List Op)) => s3) 0 ([] : List Op))).bind fun (j1 : (List Op)) => some j1)
set_option maxRecDepth 100000 in
set_option maxHeartbeats 4000000 in
theorem impl_cloneLog_run (aLog : (List Op)) (r : (List Op)) (h : impl_cloneLog aLog = some r) : SCall Tryd.prog 65 [.v (vl eOp aLog)] ⟨[.deep 61 5 r.length [.flat, .flat, .flat, .flat, (.sl 2 1 [.flat])] (r.map eOp)], [], false⟩ := by
  refine scall_in Tryd.func65 rfl [(.tmp 2)] rfl (fun r => ⟨[.deep 61 5 r.length [.flat, .flat, .flat, .flat, (.sl 2 1 [.flat])] (r.map eOp)], [], false⟩) (r := r) ?_
  unfold impl_cloneLog at h
  refine swp_seq ?_
  refine swp_reg ?_
  refine SRun.chunk tbokGB 1 (σ' := ⟨19, [(2, .own 2), (0, vl eOp aLog)], [(2, .arr 61 5 ([] : List Op).length (([] : List Op).map eOp))]⟩) (by kernel_rfl) ?_
  refine SRun.le (Le.deep0 (d := 2) (e := 61) (m := 5) (ss := [.flat, .flat, .flat, .flat, (.sl 2 1 [.flat])]) (by kernel_rfl) (by kernel_rfl)) ?_
  refine SRun.nil ?_
  refine nx_n ?_
  refine swp_seq ?_
  refine swp_reg ?_
  refine SRun.chunk tbokGB 1 (σ' := ⟨19, [(3, .own 3), (2, .own 2), (0, vl eOp aLog)], [(3, .arr 61 5 ([] : List Op).length (([] : List Op).map eOp)), (2, .deep 61 5 ([] : List Op).length [.flat, .flat, .flat, .flat, (.sl 2 1 [.flat])] (([] : List Op).map eOp))]⟩) (by kernel_rfl) ?_
  refine SRun.le (Le.deep0 (d := 3) (e := 61) (m := 5) (ss := [.flat, .flat, .flat, .flat, (.sl 2 1 [.flat])]) (by kernel_rfl) (by kernel_rfl)) ?_
  refine SRun.nil ?_
  refine nx_n ?_
  refine swp_seq ?_
  refine swp_seq ?_
  refine swp_reg ?_
  refine SRun.ck tbokGB 3 ⟨19, [(3, .own 3), (6, vl eOp aLog), (7, vi (aLog.length : Int)), (8, vi 0)], [(3, .deep 61 5 ([] : List Op).length [.flat, .flat, .flat, .flat, (.sl 2 1 [.flat])] (([] : List Op).map eOp))]⟩ ?_
  refine SRun.nil ?_
  refine nx_n ?_
  refine swp_seqJ h (fun j1 => ⟨19, [(3, .own 3)], [(3, .deep 61 5 j1.length [.flat, .flat, .flat, .flat, (.sl 2 1 [.flat])] (j1.map eOp))]⟩) (fun v2 h => ?_) (fun j1 h => ?_)
  refine swp_blk (a := v2) ?_
  refine swp_lpL (r := v2) (s := (0, ([] : List Op))) _ (fun s3 => ⟨19, [(3, .own 3), (6, vl eOp aLog), (7, vi (aLog.length : Int)), (8, vi s3.1)], [(3, .deep 61 5 s3.2.length [.flat, .flat, .flat, .flat, (.sl 2 1 [.flat])] (s3.2.map eOp))]⟩) _ (Le.sub0) h (fun s3 v4 h => ?_)
  refine swp_seq ?_
  refine swp_reg ?_
  refine SRun.ck tbokGB 1 ⟨19, [(3, .own 3), (6, vl eOp aLog), (7, vi (aLog.length : Int)), (8, vi s3.1), (9, vb (decide (s3.1 < (aLog.length : Int))))], [(3, .deep 61 5 s3.2.length [.flat, .flat, .flat, .flat, (.sl 2 1 [.flat])] (s3.2.map eOp))]⟩ ?_
  refine SRun.nil ?_
  refine nx_n ?_
  refine swp_seq ?_
  refine swp_cond (b := (decide (s3.1 < (aLog.length : Int)))) (by kernel_rfl) (fun hb => ?_) (fun hb => ?_)
  replace h := cond_t hb h
  refine swp_skip ?_
  refine nx_n ?_
  refine swp_seq ?_
  refine swp_seqJ h (fun j5 => ⟨19, [(3, .own 3), (6, vl eOp aLog), (7, vi (aLog.length : Int)), (8, vi s3.1)], [(3, .deep 61 5 j5.length [.flat, .flat, .flat, .flat, (.sl 2 1 [.flat])] (j5.map eOp))]⟩) (fun v6 h => ?_) (fun j5 h => ?_)
  refine swp_blk (a := v6) ?_
  refine swp_seq ?_
  refine swp_reg ?_
  obtain ⟨x7, hx7, h⟩ := bind_some h
  refine SRun.ls (x_index (L := aLog) (f := eOp) (ti := ti25) (tj := ti61) (e := 61) (k := .i64) tbokGB rfl hx7) ?_
  refine SRun.ck tbokGB 2 ⟨19, [(3, .own 3), (5, .ref 5 0), (6, vl eOp aLog), (7, vi (aLog.length : Int)), (8, vi s3.1), (11, .agg [vi x7.Office, vi x7.Number, vs x7.Key, vs x7.Text, vl (eI .i64) x7.Seen])], [(3, .deep 61 5 s3.2.length [.flat, .flat, .flat, .flat, (.sl 2 1 [.flat])] (s3.2.map eOp)), (5, .box [vi 0, vi 0, vs (ByteArray.mk #[]), vs (ByteArray.mk #[]), vl (eI .i64) ([] : List Int)])]⟩ ?_
  refine SRun.estep (x_estep_store (d := 5) (k := 0) (ti := ti61) (cs := [vi 0, vi 0, vs (ByteArray.mk #[]), vs (ByteArray.mk #[]), vl (eI .i64) ([] : List Int)]) (vs := [vi x7.Office, vi x7.Number, vs x7.Key, vs x7.Text, vl (eI .i64) x7.Seen]) (v := .agg [vi x7.Office, vi x7.Number, vs x7.Key, vs x7.Text, vl (eI .i64) x7.Seen]) tbokGB rfl rfl) ?_
  refine SRun.nil ?_
  refine nx_n ?_
  refine swp_reg ?_
  refine SRun.ck tbokGB 2 ⟨19, [(6, vl eOp aLog), (7, vi (aLog.length : Int)), (8, vi s3.1), (12, .own 3), (13, .agg [vi x7.Office, vi x7.Number, vs x7.Key, vs x7.Text, vl (eI .i64) x7.Seen])], [(3, .deep 61 5 s3.2.length [.flat, .flat, .flat, .flat, (.sl 2 1 [.flat])] (s3.2.map eOp))]⟩ ?_
  obtain ⟨x8, hx8, h⟩ := bind_some h
  refine SRun.ls (x_lstep_call (f := 69) (caps := []) (xs := [.agg [vi x7.Office, vi x7.Number, vs x7.Key, vs x7.Text, vl (eI .i64) x7.Seen]]) (ys := [.agg [vi x7.Office, vi x7.Number, vs x7.Key, vs x7.Text, vl (eI .i64) x7.Seen]]) (res := ⟨[.part [vi x8.Office, vi x8.Number, vs x8.Key, vs x8.Text] [] (.arr 2 1 x8.Seen.length (x8.Seen.map (eI .i64)))], [], false⟩) (x := .agg [vi x8.Office, vi x8.Number, vs x8.Key, vs x8.Text, .own 14]) (y := some (.arr 2 1 x8.Seen.length (x8.Seen.map (eI .i64)))) rfl ents69 (impl_Op_clone_run x7 _ hx8) rfl (by intro hc; cases hc)) ?_
  refine SRun.estep (x_build_deep (ti := ti25) (tj := ti61) (e := 61) (m := 5) (zs := [.int .i64 0, .int .i64 0, .string (ByteArray.mk #[]), .string (ByteArray.mk #[]), .slice none 0 0]) (v := .agg [vi x8.Office, vi x8.Number, vs x8.Key, vs x8.Text, .own 14]) (cs := [vi x8.Office, vi x8.Number, vs x8.Key, vs x8.Text, .own 14]) (ss := [.flat, .flat, .flat, .flat, (.sl 2 1 [.flat])]) (ts := [.int .i64 x8.Office, .int .i64 x8.Number, .str x8.Key, .str x8.Text, .sl x8.Seen.length (x8.Seen.map (eI .i64))]) (ds := [14]) tbokGB rfl rfl rfl (.cons _ _ _ [] _ _ _ _ (.flat (.int .i64 x8.Office) rfl) (.cons _ _ _ [] _ _ _ _ (.flat (.int .i64 x8.Number) rfl) (.cons _ _ _ [] _ _ _ _ (.flat (.str x8.Key) rfl) (.cons _ _ _ [] _ _ _ _ (.flat (.str x8.Text) rfl) (.cons _ _ _ [14] _ _ _ _ (cD_arr (d := 14) (e := 2) (m := 1) (n := x8.Seen.length) (es := x8.Seen.map (eI .i64)) (ss := [.flat]) (flat_map (eI_flat .i64) _)) .nil (by decide)) (by decide)) (by decide)) (by decide)) (by decide))) ?_
  obtain ⟨x9, hx9, h⟩ := bind_some h
  refine SRun.estep (x_append_deep (f := eOp) (L := s3.2) (M := ([x8] : List Op)) (t := 25) (ti := ti25) (tj := ti61) (zs := [.int .i64 0, .int .i64 0, .string (ByteArray.mk #[]), .string (ByteArray.mk #[]), .slice none 0 0]) (e := 61) (m := 5) (d := 3) (dx := 15) (ss := [.flat, .flat, .flat, .flat, (.sl 2 1 [.flat])]) hx9 tbokGB rfl rfl rfl rfl) ?_
  refine SRun.ck tbokGB 1 ⟨19, [(3, .own 16), (6, vl eOp aLog), (7, vi (aLog.length : Int)), (8, vi s3.1)], [(16, .deep 61 5 x9.length [.flat, .flat, .flat, .flat, (.sl 2 1 [.flat])] (x9.map eOp))]⟩ ?_
  refine SRun.nil ?_
  replace h := Option.some.inj h
  subst h
  exact q_bn (q_j ((Le.sub' ([(3, .own 16), (6, vl eOp aLog), (7, vi (aLog.length : Int)), (8, vi s3.1)] : List (Nat × SV)) ([(16, .deep 61 5 x9.length [.flat, .flat, .flat, .flat, (.sl 2 1 [.flat])] (x9.map eOp))] : List (Nat × SO)) (by kernel_rfl) (by kernel_rfl)).trans ((Le.ren' (d := 16) (e := 3) (by kernel_rfl) (by kernel_rfl) (by kernel_rfl)).trans (Le.sub0))))
  refine swp_reg ?_
  refine SRun.ck tbokGB 2 ⟨19, [(3, .own 3), (6, vl eOp aLog), (7, vi (aLog.length : Int)), (8, vi (w64 (s3.1 + 1)))], [(3, .deep 61 5 j5.length [.flat, .flat, .flat, .flat, (.sl 2 1 [.flat])] (j5.map eOp))]⟩ ?_
  refine SRun.nil ?_
  replace h := Option.some.inj h
  subst h
  exact q_l (Le.sub0)
  replace h := cond_f hb h
  refine swp_exit ?_
  replace h := Option.some.inj h
  subst h
  exact nx_e (q_re (q_bh (q_j (Le.sub0))))
  refine swp_seq ?_
  refine swp_reg ?_
  refine SRun.ck tbokGB 2 ⟨19, [(2, .own 3)], [(3, .deep 61 5 j1.length [.flat, .flat, .flat, .flat, (.sl 2 1 [.flat])] (j1.map eOp))]⟩ ?_
  refine SRun.nil ?_
  refine nx_n ?_
  refine swp_ret ?_
  replace h := Option.some.inj h
  subst h
  exact q_fr (fin1 (by kernel_rfl) (finD (d := 3) (holds_t (by kernel_rfl)) (by kernel_rfl) (by kernel_rfl)))
theorem ents65 : Ents Tryd.prog 65 := ents_of Tryd.func65 (by kernel_rfl) rfl
noncomputable def impl_MakeOp (aLog : (List Op)) (aOffice : Int) (aKey : ByteArray) (aText : ByteArray) : Option ((List Op) × Int) :=
  ((((impl_IsLog aLog).bind fun x1 => (bif (!x1) then some true else ((impl_within aOffice 0 3).bind fun x2 => some (!x2))))).bind fun (j3 : Bool) => (bif j3 then some (([] : List Op), 1) else ((impl_vectorOf aLog).bind fun x5 => ((at' x5 aOffice).bind fun x6 => ((((impl_isOp (Op.mk aOffice (w64 (x6 + 1)) aKey aText x5)).bind fun x9 => (bif (!x9) then some (.inr (([] : List Op), 1)) else (bif ((aLog.length : Int) == 16) then some (.inr (([] : List Op), 3)) else some (.inl ()))))).bind (Sum.elim (fun (_ : Unit) => ((impl_cloneLog aLog).bind fun x10 => ((app' x10 ([(Op.mk aOffice (w64 (x6 + 1)) aKey aText x5)] : List Op)).bind fun x11 => some (x11, 0)))) some))))))
set_option maxRecDepth 100000 in
set_option maxHeartbeats 4000000 in
theorem impl_MakeOp_run (aLog : (List Op)) (aOffice : Int) (aKey : ByteArray) (aText : ByteArray) (r : (List Op) × Int) (h : impl_MakeOp aLog aOffice aKey aText = some r) : SCall Tryd.prog 33 [.v (vl eOp aLog), .v (vi aOffice), .v (vs aKey), .v (vs aText)] ⟨[.deep 61 5 r.1.length [.flat, .flat, .flat, .flat, (.sl 2 1 [.flat])] (r.1.map eOp), .v (vi r.2)], [], false⟩ := by
  refine scall_in Tryd.func33 rfl [(.tmp 8), (.tmp 9)] rfl (fun r => ⟨[.deep 61 5 r.1.length [.flat, .flat, .flat, .flat, (.sl 2 1 [.flat])] (r.1.map eOp), .v (vi r.2)], [], false⟩) (r := r) ?_
  unfold impl_MakeOp at h
  refine swp_seq ?_
  refine swp_reg ?_
  refine SRun.chunk tbokGB 1 (σ' := ⟨45, [(8, .own 8), (0, vl eOp aLog), (1, vi aOffice), (2, vs aKey), (3, vs aText)], [(8, .arr 61 5 ([] : List Op).length (([] : List Op).map eOp))]⟩) (by kernel_rfl) ?_
  refine SRun.le (Le.deep0 (d := 8) (e := 61) (m := 5) (ss := [.flat, .flat, .flat, .flat, (.sl 2 1 [.flat])]) (by kernel_rfl) (by kernel_rfl)) ?_
  refine SRun.ck tbokGB 1 ⟨45, [(0, vl eOp aLog), (1, vi aOffice), (2, vs aKey), (3, vs aText)], []⟩ ?_
  refine SRun.nil ?_
  refine nx_n ?_
  refine swp_seq ?_
  refine swp_seq ?_
  refine swp_regJ h (fun j3 => ⟨45, [(0, vl eOp aLog), (1, vi aOffice), (2, vs aKey), (3, vs aText), (19, vb j3)], []⟩) (fun v4 h => ?_) (fun j3 h => ?_)
  refine SRun.ck tbokGB 1 ⟨45, [(0, vl eOp aLog), (1, vi aOffice), (2, vs aKey), (3, vs aText), (12, vl eOp aLog)], []⟩ ?_
  obtain ⟨x1, hx1, h⟩ := bind_some h
  refine SRun.ls (x_lstep_call (f := 15) (caps := []) (xs := [vl eOp aLog]) (ys := [vl eOp aLog]) (res := ⟨[.v (vb x1)], [], false⟩) (x := vb x1) (y := none) rfl ents15 (impl_IsLog_run aLog _ hx1) rfl (by intro hc; cases hc)) ?_
  refine SRun.ck tbokGB 2 ⟨45, [(0, vl eOp aLog), (1, vi aOffice), (2, vs aKey), (3, vs aText), (15, vb (!x1))], []⟩ ?_
  refine SRun.cut [(15, fun b => b)] (b := (!x1)) (by kernel_rfl) (fun hb => ?_) (fun hb => ?_)
  replace h := cond_t hb h
  refine SRun.ck tbokGB 4 ⟨45, [(0, vl eOp aLog), (1, vi aOffice), (2, vs aKey), (3, vs aText), (19, vb true)], []⟩ ?_
  refine SRun.nil ?_
  replace h := Option.some.inj h
  subst h
  exact Le.sub0
  replace h := cond_f hb h
  refine SRun.ck tbokGB 1 ⟨45, [(0, vl eOp aLog), (1, vi aOffice), (2, vs aKey), (3, vs aText), (15, vb false), (16, vi aOffice)], []⟩ ?_
  obtain ⟨x2, hx2, h⟩ := bind_some h
  refine SRun.ls (x_lstep_call (f := 64) (caps := []) (xs := [vi aOffice, vi 0, vi 3]) (ys := [vi aOffice, vi 0, vi 3]) (res := ⟨[.v (vb x2)], [], false⟩) (x := vb x2) (y := none) rfl ents64 (impl_within_run aOffice 0 3 _ hx2) rfl (by intro hc; cases hc)) ?_
  refine SRun.ck tbokGB 2 ⟨45, [(0, vl eOp aLog), (1, vi aOffice), (2, vs aKey), (3, vs aText), (19, vb (!x2))], []⟩ ?_
  refine SRun.nil ?_
  replace h := Option.some.inj h
  subst h
  exact Le.sub0
  refine swp_cond (b := j3) (by kernel_rfl) (fun hb => ?_) (fun hb => ?_)
  replace h := cond_t hb h
  refine swp_seq ?_
  refine swp_reg ?_
  refine SRun.chunk tbokGB 1 (σ' := ⟨45, [(8, .own 8), (0, vl eOp aLog), (1, vi aOffice), (2, vs aKey), (3, vs aText), (19, vb j3)], [(8, .arr 61 5 ([] : List Op).length (([] : List Op).map eOp))]⟩) (by kernel_rfl) ?_
  refine SRun.le (Le.deep0 (d := 8) (e := 61) (m := 5) (ss := [.flat, .flat, .flat, .flat, (.sl 2 1 [.flat])]) (by kernel_rfl) (by kernel_rfl)) ?_
  refine SRun.ck tbokGB 1 ⟨45, [(8, .own 8), (9, vi 1)], [(8, .deep 61 5 ([] : List Op).length [.flat, .flat, .flat, .flat, (.sl 2 1 [.flat])] (([] : List Op).map eOp))]⟩ ?_
  refine SRun.nil ?_
  refine nx_n ?_
  refine swp_ret ?_
  replace h := Option.some.inj h
  subst h
  exact nx_r (q_fr (fin2 (by kernel_rfl) (finD (d := 8) (holds_t (by kernel_rfl)) (by kernel_rfl) (by kernel_rfl)) (finV rfl SV.flat_of (holds_t (by kernel_rfl)))))
  replace h := cond_f hb h
  refine swp_skip ?_
  refine nx_n ?_
  refine swp_seq ?_
  refine swp_reg ?_
  refine SRun.ck tbokGB 1 ⟨45, [(0, vl eOp aLog), (1, vi aOffice), (2, vs aKey), (3, vs aText), (20, vl eOp aLog)], []⟩ ?_
  obtain ⟨x5, hx5, h⟩ := bind_some h
  refine SRun.ls (x_lstep_call (f := 50) (caps := []) (xs := [vl eOp aLog]) (ys := [vl eOp aLog]) (res := ⟨[.own 2 1 x5.length (x5.map (eI .i64))], [], false⟩) (x := .own 21) (y := some (.arr 2 1 x5.length (x5.map (eI .i64)))) rfl ents50 (impl_vectorOf_run aLog _ hx5) rfl (by intro hc; cases hc)) ?_
  refine SRun.ck tbokGB 1 ⟨45, [(0, vl eOp aLog), (1, vi aOffice), (2, vs aKey), (3, vs aText), (10, .own 21)], [(21, .arr 2 1 x5.length (x5.map (eI .i64)))]⟩ ?_
  refine SRun.nil ?_
  refine nx_n ?_
  refine swp_seq ?_
  refine swp_reg ?_
  refine SRun.ck tbokGB 3 ⟨45, [(0, vl eOp aLog), (2, vs aKey), (3, vs aText), (10, .own 21), (22, vi aOffice), (23, .own 21), (24, vi aOffice)], [(21, .arr 2 1 x5.length (x5.map (eI .i64)))]⟩ ?_
  obtain ⟨x6, hx6, h⟩ := bind_some h
  refine SRun.ls (x_index_own (d := 21) (L := x5) (f := (eI .i64)) (ti := ti32) (tj := ti2) (e := 2) (e' := 2) (m := 1) (k := .i64) tbokGB rfl hx6) ?_
  refine SRun.ls (x_load_own (d := 21) (m := 1) (j := 0) (L := x5) (f := (eI .i64)) (ti := ti2) (e := 2) (v := vi x6) tbokGB rfl hx6) ?_
  refine SRun.ck tbokGB 4 ⟨45, [(0, vl eOp aLog), (22, vi aOffice), (27, vi (w64 (x6 + 1))), (28, vs aKey), (29, vs aText), (30, .own 21)], [(21, .arr 2 1 x5.length (x5.map (eI .i64)))]⟩ ?_
  refine SRun.ls (x_lstep_build (v := .agg [vi aOffice, vi (w64 (x6 + 1)), vs aKey, vs aText, .own 21]) tbokGB rfl) ?_
  refine SRun.ck tbokGB 1 ⟨45, [(0, vl eOp aLog), (11, .ref 11 0), (31, .agg [vi aOffice, vi (w64 (x6 + 1)), vs aKey, vs aText, .own 21])], [(11, .box [vi 0, vi 0, vs (ByteArray.mk #[]), vs (ByteArray.mk #[]), vl (eI .i64) ([] : List Int)]), (21, .arr 2 1 x5.length (x5.map (eI .i64)))]⟩ ?_
  refine SRun.estep (x_estep_store (d := 11) (k := 0) (ti := ti61) (cs := [vi 0, vi 0, vs (ByteArray.mk #[]), vs (ByteArray.mk #[]), vl (eI .i64) ([] : List Int)]) (vs := [vi aOffice, vi (w64 (x6 + 1)), vs aKey, vs aText, .own 21]) (v := .agg [vi aOffice, vi (w64 (x6 + 1)), vs aKey, vs aText, .own 21]) tbokGB rfl rfl) ?_
  refine SRun.nil ?_
  refine nx_n ?_
  refine swp_seq ?_
  refine swp_seqE (r := r) h (fun j7 => ⟨45, [(0, vl eOp aLog), (11, .ref 11 0)], [(11, .box [vi aOffice, vi (w64 (x6 + 1)), vs aKey, vs aText, .own 21]), (21, .arr 2 1 x5.length (x5.map (eI .i64)))]⟩) (fun v8 h => ?_) (fun j7 h => ?_)
  refine swp_blk (a := v8) ?_
  refine swp_seq ?_
  refine swp_reg ?_
  refine SRun.ck tbokGB 1 ⟨45, [(0, vl eOp aLog), (11, .ref 11 0), (33, .agg [vi aOffice, vi (w64 (x6 + 1)), vs aKey, vs aText, .own 21])], [(11, .box [vi aOffice, vi (w64 (x6 + 1)), vs aKey, vs aText, .own 21]), (21, .arr 2 1 x5.length (x5.map (eI .i64)))]⟩ ?_
  obtain ⟨x9, hx9, h⟩ := bind_some h
  refine SRun.ls (x_lstep_call (f := 49) (caps := []) (xs := [.agg [vi aOffice, vi (w64 (x6 + 1)), vs aKey, vs aText, .own 21]]) (ys := [.agg [vi aOffice, vi (w64 (x6 + 1)), vs aKey, vs aText, vl (eI .i64) x5]]) (res := ⟨[.v (vb x9)], [], false⟩) (x := vb x9) (y := none) rfl ents49 (impl_isOp_run (Op.mk aOffice (w64 (x6 + 1)) aKey aText x5) _ hx9) rfl (by intro hc; cases hc)) ?_
  refine SRun.ck tbokGB 2 ⟨45, [(0, vl eOp aLog), (11, .ref 11 0), (32, vb (!x9))], [(11, .box [vi aOffice, vi (w64 (x6 + 1)), vs aKey, vs aText, .own 21]), (21, .arr 2 1 x5.length (x5.map (eI .i64)))]⟩ ?_
  refine SRun.nil ?_
  refine nx_n ?_
  refine swp_cond (b := (!x9)) (by kernel_rfl) (fun hb => ?_) (fun hb => ?_)
  replace h := cond_t hb h
  refine swp_seq ?_
  refine swp_reg ?_
  refine SRun.chunk tbokGB 1 (σ' := ⟨45, [(8, .own 8), (0, vl eOp aLog), (11, .ref 11 0), (32, vb (!x9))], [(8, .arr 61 5 ([] : List Op).length (([] : List Op).map eOp)), (11, .box [vi aOffice, vi (w64 (x6 + 1)), vs aKey, vs aText, .own 21]), (21, .arr 2 1 x5.length (x5.map (eI .i64)))]⟩) (by kernel_rfl) ?_
  refine SRun.le (Le.deep0 (d := 8) (e := 61) (m := 5) (ss := [.flat, .flat, .flat, .flat, (.sl 2 1 [.flat])]) (by kernel_rfl) (by kernel_rfl)) ?_
  refine SRun.ck tbokGB 1 ⟨45, [(8, .own 8), (9, vi 1)], [(8, .deep 61 5 ([] : List Op).length [.flat, .flat, .flat, .flat, (.sl 2 1 [.flat])] (([] : List Op).map eOp))]⟩ ?_
  refine SRun.nil ?_
  refine nx_n ?_
  refine swp_ret ?_
  replace h := Option.some.inj h
  subst h
  exact q_br (q_rr (q_fr (fin2 (by kernel_rfl) (finD (d := 8) (holds_t (by kernel_rfl)) (by kernel_rfl) (by kernel_rfl)) (finV rfl SV.flat_of (holds_t (by kernel_rfl))))))
  replace h := cond_f hb h
  refine swp_seq ?_
  refine swp_reg ?_
  refine SRun.ck tbokGB 4 ⟨45, [(0, vl eOp aLog), (11, .ref 11 0), (36, vb ((aLog.length : Int) == 16))], [(11, .box [vi aOffice, vi (w64 (x6 + 1)), vs aKey, vs aText, .own 21]), (21, .arr 2 1 x5.length (x5.map (eI .i64)))]⟩ ?_
  refine SRun.nil ?_
  refine nx_n ?_
  refine swp_cond (b := ((aLog.length : Int) == 16)) (by kernel_rfl) (fun hb => ?_) (fun hb => ?_)
  replace h := cond_t hb h
  refine swp_seq ?_
  refine swp_reg ?_
  refine SRun.chunk tbokGB 1 (σ' := ⟨45, [(8, .own 8), (0, vl eOp aLog), (11, .ref 11 0), (36, vb ((aLog.length : Int) == 16))], [(8, .arr 61 5 ([] : List Op).length (([] : List Op).map eOp)), (11, .box [vi aOffice, vi (w64 (x6 + 1)), vs aKey, vs aText, .own 21]), (21, .arr 2 1 x5.length (x5.map (eI .i64)))]⟩) (by kernel_rfl) ?_
  refine SRun.le (Le.deep0 (d := 8) (e := 61) (m := 5) (ss := [.flat, .flat, .flat, .flat, (.sl 2 1 [.flat])]) (by kernel_rfl) (by kernel_rfl)) ?_
  refine SRun.ck tbokGB 1 ⟨45, [(8, .own 8), (9, vi 3)], [(8, .deep 61 5 ([] : List Op).length [.flat, .flat, .flat, .flat, (.sl 2 1 [.flat])] (([] : List Op).map eOp))]⟩ ?_
  refine SRun.nil ?_
  refine nx_n ?_
  refine swp_ret ?_
  replace h := Option.some.inj h
  subst h
  exact q_br (q_rr (q_fr (fin2 (by kernel_rfl) (finD (d := 8) (holds_t (by kernel_rfl)) (by kernel_rfl) (by kernel_rfl)) (finV rfl SV.flat_of (holds_t (by kernel_rfl))))))
  replace h := cond_f hb h
  refine swp_skip ?_
  replace h := Option.some.inj h
  subst h
  exact q_bn (q_l (Le.sub0))
  refine swp_seq ?_
  obtain ⟨x10, hx10, h⟩ := bind_some h
  obtain ⟨x11, hx11, h⟩ := bind_some h
  refine swp_dr mixed ?_
  refine DGo.enum (σE := ⟨45, [(8, .own 44), (9, vi 0)], [(44, .deep 61 5 x11.length [.flat, .flat, .flat, .flat, (.sl 2 1 [.flat])] (x11.map eOp))]⟩) (n := 7) (L0 := #[false, false, false, false, false, false, false]) (by kernel_rfl) (by kernel_rfl) (fun K hk => ?_) ?_
  refine DE.share (fuel := 0) (L := #[true, true, true, true, true, true, true]) (σ := ⟨45, [(8, .own 44), (9, vi 0)], [(44, .deep 61 5 x11.length [.flat, .flat, .flat, .flat, (.sl 2 1 [.flat])] (x11.map eOp))]⟩) ?_ (fun d9 => ?_)
  exact DE.done (by kernel_rfl) hk
  refine DE.share (fuel := 1) (L := #[true, true, true, true, true, true, false]) (σ := ⟨45, [(8, .own 44)], [(44, .deep 61 5 x11.length [.flat, .flat, .flat, .flat, (.sl 2 1 [.flat])] (x11.map eOp))]⟩) ?_ (fun d8 => ?_)
  exact DE.take (i := 6) (L' := #[true, true, true, true, true, true, true]) rfl (.inr rfl) rfl (by kernel_rfl) (by kernel_rfl) (by kernel_rfl) (EStep.le (EStep.ofN2 tbokGB (σ' := ⟨45, [(9, vi 0), (8, .own 44)], [(44, .deep 61 5 x11.length [.flat, .flat, .flat, .flat, (.sl 2 1 [.flat])] (x11.map eOp))]⟩) (by kernel_rfl)) Le.sub0) (by kernel_rfl) d9
  refine DE.share (fuel := 2) (L := #[true, true, true, true, true, false, false]) (σ := ⟨45, [(44, .own 44)], [(44, .deep 61 5 x11.length [.flat, .flat, .flat, .flat, (.sl 2 1 [.flat])] (x11.map eOp))]⟩) ?_ (fun d7 => ?_)
  exact DE.take (i := 5) (L' := #[true, true, true, true, true, true, false]) rfl (.inr rfl) rfl (by kernel_rfl) (by kernel_rfl) (by kernel_rfl) (EStep.le (EStep.ofN2 tbokGB (σ' := ⟨45, [(8, .own 44), (44, .own 44)], [(44, .deep 61 5 x11.length [.flat, .flat, .flat, .flat, (.sl 2 1 [.flat])] (x11.map eOp))]⟩) (by kernel_rfl)) Le.sub0) (by kernel_rfl) d8
  refine DE.share (fuel := 3) (L := #[true, true, true, true, false, false, false]) (σ := ⟨45, [(41, .own 41), (43, .own 43)], [(41, .deep 61 5 x10.length [.flat, .flat, .flat, .flat, (.sl 2 1 [.flat])] (x10.map eOp)), (43, .deep 61 5 ([(Op.mk aOffice (w64 (x6 + 1)) aKey aText x5)] : List Op).length [.flat, .flat, .flat, .flat, (.sl 2 1 [.flat])] (([(Op.mk aOffice (w64 (x6 + 1)) aKey aText x5)] : List Op).map eOp))]⟩) ?_ (fun d6 => ?_)
  exact DE.all [4] (by kernel_rfl) (by simp) (List.forall_mem_cons.2 ⟨DEs.mk (i := 4) (L' := #[true, true, true, true, true, false, false]) rfl (EStep.le (x_append_deep (f := eOp) (L := x10) (M := ([(Op.mk aOffice (w64 (x6 + 1)) aKey aText x5)] : List Op)) (t := 25) (ti := ti25) (tj := ti61) (zs := [.int .i64 0, .int .i64 0, .string (ByteArray.mk #[]), .string (ByteArray.mk #[]), .slice none 0 0]) (e := 61) (m := 5) (d := 41) (dx := 43) (ss := [.flat, .flat, .flat, .flat, (.sl 2 1 [.flat])]) hx11 tbokGB rfl rfl rfl rfl) Le.sub0) (by kernel_rfl) d7, (fun _ h => absurd h List.not_mem_nil)⟩)
  refine DE.share (fuel := 4) (L := #[true, false, true, true, false, false, false]) (σ := ⟨45, [(40, vl eOp aLog), (43, .own 43)], [(43, .deep 61 5 ([(Op.mk aOffice (w64 (x6 + 1)) aKey aText x5)] : List Op).length [.flat, .flat, .flat, .flat, (.sl 2 1 [.flat])] (([(Op.mk aOffice (w64 (x6 + 1)) aKey aText x5)] : List Op).map eOp))]⟩) ?_ (fun d5 => ?_)
  exact DE.all [1] (by kernel_rfl) (by simp) (List.forall_mem_cons.2 ⟨DEs.mk (i := 1) (L' := #[true, true, true, true, false, false, false]) rfl (EStep.le (EStep.ofL (x_lstep_call (f := 65) (caps := []) (xs := [vl eOp aLog]) (ys := [vl eOp aLog]) (res := ⟨[.deep 61 5 x10.length [.flat, .flat, .flat, .flat, (.sl 2 1 [.flat])] (x10.map eOp)], [], false⟩) (x := .own 41) (y := some (.deep 61 5 x10.length [.flat, .flat, .flat, .flat, (.sl 2 1 [.flat])] (x10.map eOp))) rfl ents65 (impl_cloneLog_run aLog _ hx10) rfl (by intro hc; cases hc)) (by kernel_rfl)) Le.sub0) (by kernel_rfl) d6, (fun _ h => absurd h List.not_mem_nil)⟩)
  refine DE.share (fuel := 4) (L := #[true, true, true, false, false, false, false]) (σ := ⟨45, [(41, .own 41), (42, .agg [vi aOffice, vi (w64 (x6 + 1)), vs aKey, vs aText, .own 21])], [(21, .arr 2 1 x5.length (x5.map (eI .i64))), (41, .deep 61 5 x10.length [.flat, .flat, .flat, .flat, (.sl 2 1 [.flat])] (x10.map eOp))]⟩) ?_ (fun d4 => ?_)
  exact DE.all [3] (by kernel_rfl) (by simp) (List.forall_mem_cons.2 ⟨DEs.mk (i := 3) (L' := #[true, true, true, true, false, false, false]) rfl (EStep.le (x_build_deep (ti := ti25) (tj := ti61) (e := 61) (m := 5) (zs := [.int .i64 0, .int .i64 0, .string (ByteArray.mk #[]), .string (ByteArray.mk #[]), .slice none 0 0]) (v := .agg [vi aOffice, vi (w64 (x6 + 1)), vs aKey, vs aText, .own 21]) (cs := [vi aOffice, vi (w64 (x6 + 1)), vs aKey, vs aText, .own 21]) (ss := [.flat, .flat, .flat, .flat, (.sl 2 1 [.flat])]) (ts := [.int .i64 aOffice, .int .i64 (w64 (x6 + 1)), .str aKey, .str aText, .sl x5.length (x5.map (eI .i64))]) (ds := [21]) tbokGB rfl rfl rfl (.cons _ _ _ [] _ _ _ _ (.flat (.int .i64 aOffice) rfl) (.cons _ _ _ [] _ _ _ _ (.flat (.int .i64 (w64 (x6 + 1))) rfl) (.cons _ _ _ [] _ _ _ _ (.flat (.str aKey) rfl) (.cons _ _ _ [] _ _ _ _ (.flat (.str aText) rfl) (.cons _ _ _ [21] _ _ _ _ (cD_arr (d := 21) (e := 2) (m := 1) (n := x5.length) (es := x5.map (eI .i64)) (ss := [.flat]) (flat_map (eI_flat .i64) _)) .nil (by decide)) (by decide)) (by decide)) (by decide)) (by decide))) Le.sub0) (by kernel_rfl) d6, (fun _ h => absurd h List.not_mem_nil)⟩)
  refine DE.share (fuel := 5) (L := #[true, false, true, false, false, false, false]) (σ := ⟨45, [(40, vl eOp aLog), (42, .agg [vi aOffice, vi (w64 (x6 + 1)), vs aKey, vs aText, .own 21])], [(21, .arr 2 1 x5.length (x5.map (eI .i64)))]⟩) ?_ (fun d3 => ?_)
  exact DE.all [1, 3] (by kernel_rfl) (by simp) (List.forall_mem_cons.2 ⟨DEs.mk (i := 1) (L' := #[true, true, true, false, false, false, false]) rfl (EStep.le (EStep.ofL (x_lstep_call (f := 65) (caps := []) (xs := [vl eOp aLog]) (ys := [vl eOp aLog]) (res := ⟨[.deep 61 5 x10.length [.flat, .flat, .flat, .flat, (.sl 2 1 [.flat])] (x10.map eOp)], [], false⟩) (x := .own 41) (y := some (.deep 61 5 x10.length [.flat, .flat, .flat, .flat, (.sl 2 1 [.flat])] (x10.map eOp))) rfl ents65 (impl_cloneLog_run aLog _ hx10) rfl (by intro hc; cases hc)) (by kernel_rfl)) Le.sub0) (by kernel_rfl) d4, (List.forall_mem_cons.2 ⟨DEs.mk (i := 3) (L' := #[true, false, true, true, false, false, false]) rfl (EStep.le (x_build_deep (ti := ti25) (tj := ti61) (e := 61) (m := 5) (zs := [.int .i64 0, .int .i64 0, .string (ByteArray.mk #[]), .string (ByteArray.mk #[]), .slice none 0 0]) (v := .agg [vi aOffice, vi (w64 (x6 + 1)), vs aKey, vs aText, .own 21]) (cs := [vi aOffice, vi (w64 (x6 + 1)), vs aKey, vs aText, .own 21]) (ss := [.flat, .flat, .flat, .flat, (.sl 2 1 [.flat])]) (ts := [.int .i64 aOffice, .int .i64 (w64 (x6 + 1)), .str aKey, .str aText, .sl x5.length (x5.map (eI .i64))]) (ds := [21]) tbokGB rfl rfl rfl (.cons _ _ _ [] _ _ _ _ (.flat (.int .i64 aOffice) rfl) (.cons _ _ _ [] _ _ _ _ (.flat (.int .i64 (w64 (x6 + 1))) rfl) (.cons _ _ _ [] _ _ _ _ (.flat (.str aKey) rfl) (.cons _ _ _ [] _ _ _ _ (.flat (.str aText) rfl) (.cons _ _ _ [21] _ _ _ _ (cD_arr (d := 21) (e := 2) (m := 1) (n := x5.length) (es := x5.map (eI .i64)) (ss := [.flat]) (flat_map (eI_flat .i64) _)) .nil (by decide)) (by decide)) (by decide)) (by decide)) (by decide))) Le.sub0) (by kernel_rfl) d5, (fun _ h => absurd h List.not_mem_nil)⟩)⟩)
  refine DE.share (fuel := 5) (L := #[true, true, false, false, false, false, false]) (σ := ⟨45, [(11, .ref 11 0), (41, .own 41)], [(11, .box [vi aOffice, vi (w64 (x6 + 1)), vs aKey, vs aText, .own 21]), (21, .arr 2 1 x5.length (x5.map (eI .i64))), (41, .deep 61 5 x10.length [.flat, .flat, .flat, .flat, (.sl 2 1 [.flat])] (x10.map eOp))]⟩) ?_ (fun d2 => ?_)
  exact DE.all [2] (by kernel_rfl) (by simp) (List.forall_mem_cons.2 ⟨DEs.mk (i := 2) (L' := #[true, true, true, false, false, false, false]) rfl (EStep.le (EStep.ofN2 tbokGB (σ' := ⟨45, [(42, .agg [vi aOffice, vi (w64 (x6 + 1)), vs aKey, vs aText, .own 21]), (11, .ref 11 0), (41, .own 41)], [(11, .box [vi aOffice, vi (w64 (x6 + 1)), vs aKey, vs aText, .own 21]), (21, .arr 2 1 x5.length (x5.map (eI .i64))), (41, .deep 61 5 x10.length [.flat, .flat, .flat, .flat, (.sl 2 1 [.flat])] (x10.map eOp))]⟩) (by kernel_rfl)) Le.sub0) (by kernel_rfl) d4, (fun _ h => absurd h List.not_mem_nil)⟩)
  refine DE.share (fuel := 6) (L := #[true, false, false, false, false, false, false]) (σ := ⟨45, [(11, .ref 11 0), (40, vl eOp aLog)], [(11, .box [vi aOffice, vi (w64 (x6 + 1)), vs aKey, vs aText, .own 21]), (21, .arr 2 1 x5.length (x5.map (eI .i64)))]⟩) ?_ (fun d1 => ?_)
  exact DE.all [1, 2] (by kernel_rfl) (by simp) (List.forall_mem_cons.2 ⟨DEs.mk (i := 1) (L' := #[true, true, false, false, false, false, false]) rfl (EStep.le (EStep.ofL (x_lstep_call (f := 65) (caps := []) (xs := [vl eOp aLog]) (ys := [vl eOp aLog]) (res := ⟨[.deep 61 5 x10.length [.flat, .flat, .flat, .flat, (.sl 2 1 [.flat])] (x10.map eOp)], [], false⟩) (x := .own 41) (y := some (.deep 61 5 x10.length [.flat, .flat, .flat, .flat, (.sl 2 1 [.flat])] (x10.map eOp))) rfl ents65 (impl_cloneLog_run aLog _ hx10) rfl (by intro hc; cases hc)) (by kernel_rfl)) Le.sub0) (by kernel_rfl) d2, (List.forall_mem_cons.2 ⟨DEs.mk (i := 2) (L' := #[true, false, true, false, false, false, false]) rfl (EStep.le (EStep.ofN2 tbokGB (σ' := ⟨45, [(42, .agg [vi aOffice, vi (w64 (x6 + 1)), vs aKey, vs aText, .own 21]), (11, .ref 11 0), (40, vl eOp aLog)], [(11, .box [vi aOffice, vi (w64 (x6 + 1)), vs aKey, vs aText, .own 21]), (21, .arr 2 1 x5.length (x5.map (eI .i64)))]⟩) (by kernel_rfl)) Le.sub0) (by kernel_rfl) d3, (fun _ h => absurd h List.not_mem_nil)⟩)⟩)
  exact DE.take (i := 0) (L' := #[true, false, false, false, false, false, false]) rfl (.inl rfl) rfl (by kernel_rfl) (by kernel_rfl) (by kernel_rfl) (EStep.le (EStep.ofN2 tbokGB (σ' := ⟨45, [(40, vl eOp aLog), (0, vl eOp aLog), (11, .ref 11 0)], [(11, .box [vi aOffice, vi (w64 (x6 + 1)), vs aKey, vs aText, .own 21]), (21, .arr 2 1 x5.length (x5.map (eI .i64)))]⟩) (by kernel_rfl)) Le.sub0) (by kernel_rfl) d1
  refine nx_n ?_
  refine swp_ret ?_
  replace h := Option.some.inj h
  subst h
  exact q_fr (fin2 (by kernel_rfl) (finD (d := 44) (holds_t (by kernel_rfl)) (by kernel_rfl) (by kernel_rfl)) (finV rfl SV.flat_of (holds_t (by kernel_rfl))))
theorem ents33 : Ents Tryd.prog 33 := ents_of Tryd.func33 (by kernel_rfl) rfl
noncomputable def laws_heldOpS (aA : (List Op)) (aK : Int) : Option (Int) :=
  (((forN (aA.length : Int) (fun (i3 : Int) (s3 : Int) => ((at' aA i3).bind fun x7 => (bif (x7.Office != s3) then some (.inr (.inr (-1))) else ((at' aA i3).bind fun x8 => (bif (x8.Number != (w64 (s3 + 1))) then some (.inr (.inr (-1))) else ((at' aA i3).bind fun x9 => ((laws_markText (w64 ((w64 (s3 + 1)) + 1))).bind fun x10 => (bif (!(x9.Key.toList == x10.toList)) then some (.inr (.inr (-1))) else ((at' aA i3).bind fun x11 => ((laws_markText (w64 ((w64 ((w64 (s3 + 1)) + 1)) + 1))).bind fun x12 => (bif (!(x11.Text.toList == x12.toList)) then some (.inr (.inr (-1))) else ((at' aA i3).bind fun x13 => ((laws_heldInt64S x13.Seen (w64 ((w64 ((w64 ((w64 (s3 + 1)) + 1)) + 1)) + 1))).bind fun x14 => (bif (decide (x14 < 0)) then some (.inr (.inr (-1))) else some (.inl x14))))))))))))))) (fun (s3 : Int) => .inl s3) 0 aK)).bind (Sum.elim (fun (j1 : Int) => some j1) some))
set_option maxRecDepth 100000 in
set_option maxHeartbeats 4000000 in
theorem laws_heldOpS_run (aA : (List Op)) (aK : Int) (r : Int) (h : laws_heldOpS aA aK = some r) : SCall Tryd.prog 34 [.v (vl eOp aA), .v (vi aK)] ⟨[.v (vi r)], [], false⟩ := by
  refine scall_in Tryd.func34 rfl [(.tmp 4)] rfl (fun r => ⟨[.v (vi r)], [], false⟩) (r := r) ?_
  unfold laws_heldOpS at h
  refine swp_seq ?_
  refine swp_reg ?_
  refine SRun.ck tbokGB 1 ⟨60, [(0, vl eOp aA), (1, vi aK)], []⟩ ?_
  refine SRun.nil ?_
  refine nx_n ?_
  refine swp_seq ?_
  refine swp_seq ?_
  refine swp_reg ?_
  refine SRun.ck tbokGB 1 ⟨60, [(0, vl eOp aA), (1, vi aK), (5, vi 0)], []⟩ ?_
  refine SRun.nil ?_
  refine nx_n ?_
  refine swp_seqE (r := r) h (fun j1 => ⟨60, [(1, vi j1)], []⟩) (fun v2 h => ?_) (fun j1 h => ?_)
  refine swp_blk (a := v2) ?_
  refine swp_lpL (r := v2) (s := (0, aK)) _ (fun s3 => ⟨60, [(0, vl eOp aA), (1, vi s3.2), (5, vi s3.1)], []⟩) _ (Le.sub0) h (fun s3 v4 h => ?_)
  refine swp_seq ?_
  refine swp_seq ?_
  refine swp_reg ?_
  refine SRun.ck tbokGB 4 ⟨60, [(0, vl eOp aA), (1, vi s3.2), (5, vi s3.1), (9, vb (decide (s3.1 < (aA.length : Int))))], []⟩ ?_
  refine SRun.nil ?_
  refine nx_n ?_
  refine swp_cond (b := (decide (s3.1 < (aA.length : Int)))) (by kernel_rfl) (fun hb => ?_) (fun hb => ?_)
  replace h := cond_t hb h
  refine swp_skip ?_
  refine nx_n ?_
  refine swp_seq ?_
  refine swp_seqL (r := v4) h (fun j5 => ⟨60, [(0, vl eOp aA), (1, vi j5), (5, vi s3.1)], []⟩) (fun v6 h => ?_) (fun j5 h => ?_)
  refine swp_blk (a := v6) ?_
  refine swp_seq ?_
  refine swp_seq ?_
  refine swp_reg ?_
  refine SRun.ck tbokGB 2 ⟨60, [(0, vl eOp aA), (1, vi s3.2), (5, vi s3.1), (12, vl eOp aA), (13, vi s3.1)], []⟩ ?_
  obtain ⟨x7, hx7, h⟩ := bind_some h
  refine SRun.ls (x_index (L := aA) (f := eOp) (ti := ti25) (tj := ti61) (e := 61) (k := .i64) tbokGB rfl hx7) ?_
  refine SRun.ck tbokGB 4 ⟨60, [(0, vl eOp aA), (1, vi s3.2), (5, vi s3.1), (18, vb (x7.Office != s3.2))], []⟩ ?_
  refine SRun.nil ?_
  refine nx_n ?_
  refine swp_cond (b := (x7.Office != s3.2)) (by kernel_rfl) (fun hb => ?_) (fun hb => ?_)
  replace h := cond_t hb h
  refine swp_seq ?_
  refine swp_reg ?_
  refine SRun.ck tbokGB 1 ⟨60, [(4, vi (-1))], []⟩ ?_
  refine SRun.nil ?_
  refine nx_n ?_
  refine swp_ret ?_
  replace h := Option.some.inj h
  subst h
  exact nx_r (q_br (q_rr (q_rr (q_br (q_rr (q_fr (fin1 (by kernel_rfl) (finV rfl SV.flat_of (holds_t (by kernel_rfl))))))))))
  replace h := cond_f hb h
  refine swp_skip ?_
  refine nx_n ?_
  refine swp_seq ?_
  refine swp_reg ?_
  refine SRun.ck tbokGB 3 ⟨60, [(0, vl eOp aA), (1, vi (w64 (s3.2 + 1))), (5, vi s3.1)], []⟩ ?_
  refine SRun.nil ?_
  refine nx_n ?_
  refine swp_seq ?_
  refine swp_seq ?_
  refine swp_reg ?_
  refine SRun.ck tbokGB 2 ⟨60, [(0, vl eOp aA), (1, vi (w64 (s3.2 + 1))), (5, vi s3.1), (21, vl eOp aA), (22, vi s3.1)], []⟩ ?_
  obtain ⟨x8, hx8, h⟩ := bind_some h
  refine SRun.ls (x_index (L := aA) (f := eOp) (ti := ti25) (tj := ti61) (e := 61) (k := .i64) tbokGB rfl hx8) ?_
  refine SRun.ck tbokGB 4 ⟨60, [(0, vl eOp aA), (1, vi (w64 (s3.2 + 1))), (5, vi s3.1), (27, vb (x8.Number != (w64 (s3.2 + 1))))], []⟩ ?_
  refine SRun.nil ?_
  refine nx_n ?_
  refine swp_cond (b := (x8.Number != (w64 (s3.2 + 1)))) (by kernel_rfl) (fun hb => ?_) (fun hb => ?_)
  replace h := cond_t hb h
  refine swp_seq ?_
  refine swp_reg ?_
  refine SRun.ck tbokGB 1 ⟨60, [(4, vi (-1))], []⟩ ?_
  refine SRun.nil ?_
  refine nx_n ?_
  refine swp_ret ?_
  replace h := Option.some.inj h
  subst h
  exact nx_r (q_br (q_rr (q_rr (q_br (q_rr (q_fr (fin1 (by kernel_rfl) (finV rfl SV.flat_of (holds_t (by kernel_rfl))))))))))
  replace h := cond_f hb h
  refine swp_skip ?_
  refine nx_n ?_
  refine swp_seq ?_
  refine swp_reg ?_
  refine SRun.ck tbokGB 3 ⟨60, [(0, vl eOp aA), (1, vi (w64 ((w64 (s3.2 + 1)) + 1))), (5, vi s3.1)], []⟩ ?_
  refine SRun.nil ?_
  refine nx_n ?_
  refine swp_seq ?_
  refine swp_seq ?_
  refine swp_dr mixed ?_
  refine DGo.chunk' tbokGB 2 (σ' := ⟨60, [(31, vi s3.1), (30, vl eOp aA), (0, vl eOp aA), (1, vi (w64 ((w64 (s3.2 + 1)) + 1))), (5, vi s3.1)], []⟩) (by kernel_rfl) ?_
  obtain ⟨x9, hx9, h⟩ := bind_some h
  refine DGo.step (x_index (L := aA) (f := eOp) (ti := ti25) (tj := ti61) (e := 61) (k := .i64) tbokGB rfl hx9) ?_
  refine DGo.chunk' tbokGB 3 (σ' := ⟨60, [(35, vi (w64 ((w64 (s3.2 + 1)) + 1))), (34, vs x9.Key), (33, .ptr ((eOp x9).map .tr) 2), (32, .ptr ((eOp x9).map .tr) 0), (31, vi s3.1), (30, vl eOp aA), (0, vl eOp aA), (1, vi (w64 ((w64 (s3.2 + 1)) + 1))), (5, vi s3.1)], []⟩) (by kernel_rfl) ?_
  obtain ⟨x10, hx10, h⟩ := bind_some h
  refine DGo.step (x_lstep_call (f := 57) (caps := []) (xs := [vi (w64 ((w64 (s3.2 + 1)) + 1))]) (ys := [vi (w64 ((w64 (s3.2 + 1)) + 1))]) (res := ⟨[.v (vs x10)], [], false⟩) (x := vs x10) (y := none) rfl ents57 (laws_markText_run (w64 ((w64 (s3.2 + 1)) + 1)) _ hx10) rfl (by intro hc; cases hc)) ?_
  refine DGo.chunk' tbokGB 1 (σ' := ⟨60, [(37, vb (!(x9.Key.toList == x10.toList))), (36, vs x10), (35, vi (w64 ((w64 (s3.2 + 1)) + 1))), (34, vs x9.Key), (33, .ptr ((eOp x9).map .tr) 2), (32, .ptr ((eOp x9).map .tr) 0), (31, vi s3.1), (30, vl eOp aA), (0, vl eOp aA), (1, vi (w64 ((w64 (s3.2 + 1)) + 1))), (5, vi s3.1)], []⟩) (by kernel_rfl) ?_
  refine DGo.nil (by kernel_rfl) ?_
  refine nx_n ?_
  refine swp_cond (b := (!(x9.Key.toList == x10.toList))) (by kernel_rfl) (fun hb => ?_) (fun hb => ?_)
  replace h := cond_t hb h
  refine swp_seq ?_
  refine swp_reg ?_
  refine SRun.ck tbokGB 1 ⟨60, [(4, vi (-1))], []⟩ ?_
  refine SRun.nil ?_
  refine nx_n ?_
  refine swp_ret ?_
  replace h := Option.some.inj h
  subst h
  exact nx_r (q_br (q_rr (q_rr (q_br (q_rr (q_fr (fin1 (by kernel_rfl) (finV rfl SV.flat_of (holds_t (by kernel_rfl))))))))))
  replace h := cond_f hb h
  refine swp_skip ?_
  refine nx_n ?_
  refine swp_seq ?_
  refine swp_reg ?_
  refine SRun.ck tbokGB 3 ⟨60, [(0, vl eOp aA), (1, vi (w64 ((w64 ((w64 (s3.2 + 1)) + 1)) + 1))), (5, vi s3.1)], []⟩ ?_
  refine SRun.nil ?_
  refine nx_n ?_
  refine swp_seq ?_
  refine swp_seq ?_
  refine swp_dr mixed ?_
  refine DGo.chunk' tbokGB 2 (σ' := ⟨60, [(41, vi s3.1), (40, vl eOp aA), (0, vl eOp aA), (1, vi (w64 ((w64 ((w64 (s3.2 + 1)) + 1)) + 1))), (5, vi s3.1)], []⟩) (by kernel_rfl) ?_
  obtain ⟨x11, hx11, h⟩ := bind_some h
  refine DGo.step (x_index (L := aA) (f := eOp) (ti := ti25) (tj := ti61) (e := 61) (k := .i64) tbokGB rfl hx11) ?_
  refine DGo.chunk' tbokGB 3 (σ' := ⟨60, [(45, vi (w64 ((w64 ((w64 (s3.2 + 1)) + 1)) + 1))), (44, vs x11.Text), (43, .ptr ((eOp x11).map .tr) 3), (42, .ptr ((eOp x11).map .tr) 0), (41, vi s3.1), (40, vl eOp aA), (0, vl eOp aA), (1, vi (w64 ((w64 ((w64 (s3.2 + 1)) + 1)) + 1))), (5, vi s3.1)], []⟩) (by kernel_rfl) ?_
  obtain ⟨x12, hx12, h⟩ := bind_some h
  refine DGo.step (x_lstep_call (f := 57) (caps := []) (xs := [vi (w64 ((w64 ((w64 (s3.2 + 1)) + 1)) + 1))]) (ys := [vi (w64 ((w64 ((w64 (s3.2 + 1)) + 1)) + 1))]) (res := ⟨[.v (vs x12)], [], false⟩) (x := vs x12) (y := none) rfl ents57 (laws_markText_run (w64 ((w64 ((w64 (s3.2 + 1)) + 1)) + 1)) _ hx12) rfl (by intro hc; cases hc)) ?_
  refine DGo.chunk' tbokGB 1 (σ' := ⟨60, [(47, vb (!(x11.Text.toList == x12.toList))), (46, vs x12), (45, vi (w64 ((w64 ((w64 (s3.2 + 1)) + 1)) + 1))), (44, vs x11.Text), (43, .ptr ((eOp x11).map .tr) 3), (42, .ptr ((eOp x11).map .tr) 0), (41, vi s3.1), (40, vl eOp aA), (0, vl eOp aA), (1, vi (w64 ((w64 ((w64 (s3.2 + 1)) + 1)) + 1))), (5, vi s3.1)], []⟩) (by kernel_rfl) ?_
  refine DGo.nil (by kernel_rfl) ?_
  refine nx_n ?_
  refine swp_cond (b := (!(x11.Text.toList == x12.toList))) (by kernel_rfl) (fun hb => ?_) (fun hb => ?_)
  replace h := cond_t hb h
  refine swp_seq ?_
  refine swp_reg ?_
  refine SRun.ck tbokGB 1 ⟨60, [(4, vi (-1))], []⟩ ?_
  refine SRun.nil ?_
  refine nx_n ?_
  refine swp_ret ?_
  replace h := Option.some.inj h
  subst h
  exact nx_r (q_br (q_rr (q_rr (q_br (q_rr (q_fr (fin1 (by kernel_rfl) (finV rfl SV.flat_of (holds_t (by kernel_rfl))))))))))
  replace h := cond_f hb h
  refine swp_skip ?_
  refine nx_n ?_
  refine swp_seq ?_
  refine swp_reg ?_
  refine SRun.ck tbokGB 3 ⟨60, [(0, vl eOp aA), (1, vi (w64 ((w64 ((w64 ((w64 (s3.2 + 1)) + 1)) + 1)) + 1))), (5, vi s3.1)], []⟩ ?_
  refine SRun.nil ?_
  refine nx_n ?_
  refine swp_seq ?_
  refine swp_reg ?_
  refine SRun.ck tbokGB 2 ⟨60, [(0, vl eOp aA), (1, vi (w64 ((w64 ((w64 ((w64 (s3.2 + 1)) + 1)) + 1)) + 1))), (5, vi s3.1), (50, vl eOp aA), (51, vi s3.1)], []⟩ ?_
  obtain ⟨x13, hx13, h⟩ := bind_some h
  refine SRun.ls (x_index (L := aA) (f := eOp) (ti := ti25) (tj := ti61) (e := 61) (k := .i64) tbokGB rfl hx13) ?_
  refine SRun.ck tbokGB 3 ⟨60, [(0, vl eOp aA), (5, vi s3.1), (54, vl (eI .i64) x13.Seen), (55, vi (w64 ((w64 ((w64 ((w64 (s3.2 + 1)) + 1)) + 1)) + 1)))], []⟩ ?_
  obtain ⟨x14, hx14, h⟩ := bind_some h
  refine SRun.ls (x_lstep_call (f := 24) (caps := []) (xs := [vl (eI .i64) x13.Seen, vi (w64 ((w64 ((w64 ((w64 (s3.2 + 1)) + 1)) + 1)) + 1))]) (ys := [vl (eI .i64) x13.Seen, vi (w64 ((w64 ((w64 ((w64 (s3.2 + 1)) + 1)) + 1)) + 1))]) (res := ⟨[.v (vi x14)], [], false⟩) (x := vi x14) (y := none) rfl ents24 (laws_heldInt64S_run x13.Seen (w64 ((w64 ((w64 ((w64 (s3.2 + 1)) + 1)) + 1)) + 1)) _ hx14) rfl (by intro hc; cases hc)) ?_
  refine SRun.ck tbokGB 1 ⟨60, [(0, vl eOp aA), (1, vi x14), (5, vi s3.1)], []⟩ ?_
  refine SRun.nil ?_
  refine nx_n ?_
  refine swp_seq ?_
  refine swp_reg ?_
  refine SRun.ck tbokGB 2 ⟨60, [(0, vl eOp aA), (1, vi x14), (5, vi s3.1), (58, vb (decide (x14 < 0)))], []⟩ ?_
  refine SRun.nil ?_
  refine nx_n ?_
  refine swp_cond (b := (decide (x14 < 0))) (by kernel_rfl) (fun hb => ?_) (fun hb => ?_)
  replace h := cond_t hb h
  refine swp_seq ?_
  refine swp_reg ?_
  refine SRun.ck tbokGB 1 ⟨60, [(4, vi (-1))], []⟩ ?_
  refine SRun.nil ?_
  refine nx_n ?_
  refine swp_ret ?_
  replace h := Option.some.inj h
  subst h
  exact q_br (q_rr (q_rr (q_br (q_rr (q_fr (fin1 (by kernel_rfl) (finV rfl SV.flat_of (holds_t (by kernel_rfl)))))))))
  replace h := cond_f hb h
  refine swp_skip ?_
  replace h := Option.some.inj h
  subst h
  exact q_bn (q_l (Le.sub0))
  refine swp_reg ?_
  refine SRun.ck tbokGB 3 ⟨60, [(0, vl eOp aA), (1, vi j5), (5, vi (w64 (s3.1 + 1)))], []⟩ ?_
  refine SRun.nil ?_
  replace h := Option.some.inj h
  subst h
  exact q_l (Le.sub0)
  replace h := cond_f hb h
  refine swp_exit ?_
  replace h := Option.some.inj h
  subst h
  exact nx_e (q_re (q_bh (q_l (Le.sub0))))
  refine swp_seq ?_
  refine swp_reg ?_
  refine SRun.ck tbokGB 2 ⟨60, [(4, vi j1)], []⟩ ?_
  refine SRun.nil ?_
  refine nx_n ?_
  refine swp_ret ?_
  replace h := Option.some.inj h
  subst h
  exact q_fr (fin1 (by kernel_rfl) (finV rfl SV.flat_of (holds_t (by kernel_rfl))))
theorem ents34 : Ents Tryd.prog 34 := ents_of Tryd.func34 (by kernel_rfl) rfl
end Go.Proofs.YthfcdicfcepfhaaDoor.Sh
