/- Typed functions and the calls that do what they say. -/
import Derived.Test.YtmbejkchgdcdhaaDoorSB
import Derived.Test.YtmbejkchgdcdhaaDoorGA
import Derived.Test.YtmbejkchgdcdhaaDoorGB
namespace Go.Proofs.YtmbejkchgdcdhaaDoor.Sh
open Go.RowKit
structure l01Source where
  code : (List Int)
  at' : Int
  seed : Int
def el01Source (x : l01Source) : List Tr := [.sl x.code.length (x.code.map (eI .u8)), .int .i64 x.at', .int .i64 x.seed]
def ti103 : TI := ⟨3, 40, .struct [(0, 57), (1, 3), (2, 2)], [.sl ([] : List Int).length (([] : List Int).map (eI .u8)), .int .i64 0, .int .i64 0]⟩
def ti105 : TI := ⟨1, 24, .slice 9, [.sl ([] : List ByteArray).length (([] : List ByteArray).map eS)]⟩
def tblGD : Tb := [(2, ti2), (3, ti3), (5, ti5), (9, ti9), (50, ti50), (57, ti57), (103, ti103), (105, ti105)]
theorem tbokGD : TbOk Tryd.prog tblGD := TbOk.cons ⟨by kernel_rfl, show Tryd.prog.underlying 2 = some (.int .i64) from by kernel_rfl⟩ (TbOk.cons ⟨by kernel_rfl, show Tryd.prog.underlying 3 = some (.int .i64) from by kernel_rfl⟩ (TbOk.cons ⟨by kernel_rfl, show Tryd.prog.underlying 5 = some (.int .u8) from by kernel_rfl⟩ (TbOk.cons ⟨by kernel_rfl, show Tryd.prog.underlying 9 = some (.string) from by kernel_rfl⟩ (TbOk.cons ⟨by kernel_rfl, show Tryd.prog.underlying 50 = some (.slice 2) from by kernel_rfl⟩ (TbOk.cons ⟨by kernel_rfl, show Tryd.prog.underlying 57 = some (.slice 5) from by kernel_rfl⟩ (TbOk.cons ⟨by kernel_rfl, show structOf Tryd.prog 103 = some [(0, 57), (1, 3), (2, 2)] from by kernel_rfl⟩ (TbOk.cons ⟨by kernel_rfl, show Tryd.prog.underlying 105 = some (.slice 9) from by kernel_rfl⟩ (TbOk.nil _))))))))
noncomputable def spec_l01From (aCode : (List Int)) : Option (l01Source) :=
  (((forH (fun (i3 : Int) (_ : l01Source) => ((decide (i3 < (aCode.length : Int))) && (decide (i3 < 64)))) (fun (i3 : Int) (s3 : l01Source) => ((at' aCode i3).bind fun x7 => some (l01Source.mk s3.code s3.at' (Int.tmod (w64 ((w64 (s3.seed * 73)) + (w64 x7))) 2147483647)))) (fun (s3 : l01Source) => s3) 0 (l01Source.mk aCode 0 51031))).bind fun (j1 : l01Source) => some j1)
set_option maxRecDepth 100000 in
set_option maxHeartbeats 4000000 in
theorem spec_l01From_run (aCode : (List Int)) (r : l01Source) (h : spec_l01From aCode = some r) : SCall Tryd.prog 78 [.v (vl (eI .u8) aCode)] ⟨[.box [vl (eI .u8) r.code, vi r.at', vi r.seed]], [], true⟩ := by
  refine scall_in Tryd.func78 rfl [(.tmp 2)] rfl (fun r => ⟨[.box [vl (eI .u8) r.code, vi r.at', vi r.seed]], [], true⟩) (r := r) ?_
  unfold spec_l01From at h
  refine swp_seq ?_
  refine swp_reg ?_
  refine SRun.ls (x_lstep_skip rfl) ?_
  refine SRun.nil ?_
  refine nx_n ?_
  refine swp_seq ?_
  refine swp_reg ?_
  refine SRun.ck tbokGD 1 ⟨34, [(0, vl (eI .u8) aCode), (5, vl (eI .u8) aCode)], []⟩ ?_
  refine SRun.ls (x_lstep_build (v := .agg [vl (eI .u8) aCode, vi 0, vi 51031]) tbokGD rfl) ?_
  refine SRun.ck tbokGD 2 ⟨34, [(0, vl (eI .u8) aCode), (3, .ref 7 0)], [(7, .box [vl (eI .u8) aCode, vi 0, vi 51031])]⟩ ?_
  refine SRun.nil ?_
  refine nx_n ?_
  refine swp_seq ?_
  refine swp_seq ?_
  refine swp_reg ?_
  refine SRun.ck tbokGD 1 ⟨34, [(0, vl (eI .u8) aCode), (3, .ref 7 0), (4, vi 0)], [(7, .box [vl (eI .u8) aCode, vi 0, vi 51031])]⟩ ?_
  refine SRun.nil ?_
  refine nx_n ?_
  refine swp_seqJ h (fun j1 => ⟨34, [(3, .ref 7 0)], [(7, .box [vl (eI .u8) j1.code, vi j1.at', vi j1.seed])]⟩) (fun v2 h => ?_) (fun j1 h => ?_)
  refine swp_blk (a := v2) ?_
  refine swp_lpL (r := v2) (s := (0, (l01Source.mk aCode 0 51031))) _ (fun s3 => ⟨34, [(0, vl (eI .u8) aCode), (3, .ref 7 0), (4, vi s3.1)], [(7, .box [vl (eI .u8) s3.2.code, vi s3.2.at', vi s3.2.seed])]⟩) _ (Le.sub0) h (fun s3 v4 h => ?_)
  refine swp_seq ?_
  refine swp_seq ?_
  refine swp_regP ⟨34, [(0, vl (eI .u8) aCode), (3, .ref 7 0), (4, vi s3.1), (15, vb ((decide (s3.1 < (aCode.length : Int))) && (decide (s3.1 < 64))))], [(7, .box [vl (eI .u8) s3.2.code, vi s3.2.at', vi s3.2.seed])]⟩ ?_ ?_
  refine SRun.ck tbokGD 5 ⟨34, [(0, vl (eI .u8) aCode), (3, .ref 7 0), (4, vi s3.1), (12, vb (decide (s3.1 < (aCode.length : Int))))], [(7, .box [vl (eI .u8) s3.2.code, vi s3.2.at', vi s3.2.seed])]⟩ ?_
  generalize (decide (s3.1 < (aCode.length : Int))) = bb
  cases bb
  refine SRun.ck tbokGD 3 ⟨34, [(0, vl (eI .u8) aCode), (3, .ref 7 0), (4, vi s3.1), (15, vb false)], [(7, .box [vl (eI .u8) s3.2.code, vi s3.2.at', vi s3.2.seed])]⟩ ?_
  exact SRun.nil (Le.sub0)
  refine SRun.ck tbokGD 3 ⟨34, [(0, vl (eI .u8) aCode), (3, .ref 7 0), (4, vi s3.1), (15, vb (decide (s3.1 < 64)))], [(7, .box [vl (eI .u8) s3.2.code, vi s3.2.at', vi s3.2.seed])]⟩ ?_
  exact SRun.nil (Le.sub0)
  refine swp_cond (b := ((decide (s3.1 < (aCode.length : Int))) && (decide (s3.1 < 64)))) (by kernel_rfl) (fun hb => ?_) (fun hb => ?_)
  replace h := cond_t hb h
  refine swp_skip ?_
  refine nx_n ?_
  refine swp_seq ?_
  refine swp_seqJ h (fun j5 => ⟨34, [(0, vl (eI .u8) aCode), (3, .ref 7 0), (4, vi s3.1)], [(7, .box [vl (eI .u8) j5.code, vi j5.at', vi j5.seed])]⟩) (fun v6 h => ?_) (fun j5 h => ?_)
  refine swp_blk (a := v6) ?_
  refine swp_dr mixed ?_
  refine DGo.chunk' tbokGD 8 (σ' := ⟨34, [(25, vi s3.1), (24, vl (eI .u8) aCode), (23, vi (w64 (s3.2.seed * 73))), (22, vi s3.2.seed), (21, .ref 7 2), (20, .ref 7 0), (19, .ref 7 0), (18, .ref 7 0), (0, vl (eI .u8) aCode), (3, .ref 7 0), (4, vi s3.1), (15, vb ((decide (s3.1 < (aCode.length : Int))) && (decide (s3.1 < 64))))], [(7, .box [vl (eI .u8) s3.2.code, vi s3.2.at', vi s3.2.seed])]⟩) (by kernel_rfl) ?_
  obtain ⟨x7, hx7, h⟩ := bind_some h
  refine DGo.step (x_index (L := aCode) (f := (eI .u8)) (ti := ti57) (tj := ti5) (e := 5) (k := .i64) tbokGD rfl hx7) ?_
  refine DGo.chunk' tbokGD 6 (σ' := ⟨34, [(32, .ref 7 2), (31, .ref 7 0), (30, vi (Int.tmod (w64 ((w64 (s3.2.seed * 73)) + (w64 x7))) 2147483647)), (29, vi (w64 ((w64 (s3.2.seed * 73)) + (w64 x7)))), (28, vi (w64 x7)), (27, .tr (.int .u8 x7)), (26, .ptr (((eI .u8) x7).map .tr) 0), (25, vi s3.1), (24, vl (eI .u8) aCode), (23, vi (w64 (s3.2.seed * 73))), (22, vi s3.2.seed), (21, .ref 7 2), (20, .ref 7 0), (19, .ref 7 0), (18, .ref 7 0), (0, vl (eI .u8) aCode), (3, .ref 7 0), (4, vi s3.1), (15, vb ((decide (s3.1 < (aCode.length : Int))) && (decide (s3.1 < 64))))], [(7, .box [vl (eI .u8) s3.2.code, vi s3.2.at', vi s3.2.seed])]⟩) (by kernel_rfl) ?_
  refine DGo.seq (by kernel_rfl) (by kernel_rfl) ?_
  refine SRun.estep (x_estep_store (d := 7) (k := 2) (ti := ti2) (cs := [vl (eI .u8) s3.2.code, vi s3.2.at', vi s3.2.seed]) (vs := [vi (Int.tmod (w64 ((w64 (s3.2.seed * 73)) + (w64 x7))) 2147483647)]) (v := vi (Int.tmod (w64 ((w64 (s3.2.seed * 73)) + (w64 x7))) 2147483647)) tbokGD rfl rfl) ?_
  refine SRun.nil ?_
  replace h := Option.some.inj h
  subst h
  exact q_bn (q_j (Le.sub0))
  refine swp_reg ?_
  refine SRun.ck tbokGD 3 ⟨34, [(0, vl (eI .u8) aCode), (3, .ref 7 0), (4, vi (w64 (s3.1 + 1)))], [(7, .box [vl (eI .u8) j5.code, vi j5.at', vi j5.seed])]⟩ ?_
  refine SRun.nil ?_
  replace h := Option.some.inj h
  subst h
  exact q_l (Le.sub0)
  replace h := cond_f hb h
  refine swp_exit ?_
  replace h := Option.some.inj h
  subst h
  exact nx_e (q_re (q_bh (q_j (Le.sub0))))
  refine swp_seq ?_
  refine swp_reg ?_
  refine SRun.ck tbokGD 2 ⟨34, [(2, .ref 7 0)], [(7, .box [vl (eI .u8) j1.code, vi j1.at', vi j1.seed])]⟩ ?_
  refine SRun.nil ?_
  refine nx_n ?_
  refine swp_ret ?_
  replace h := Option.some.inj h
  subst h
  exact q_fr (fin1 (by kernel_rfl) (finBT (d := 7) (holds_t (by kernel_rfl)) (by kernel_rfl) rfl (by kernel_rfl)))
theorem ents78 : Ents Tryd.prog 78 := ents_of Tryd.func78 (by kernel_rfl) rfl
noncomputable def spec_l01Next (aS : l01Source) (aN : Int) : Option (Int × l01Source) :=
  (bif (decide (aN ≤ 1)) then some (0, aS) else (((bif (decide (aS.at' < (aS.code.length : Int))) then ((at' aS.code aS.at').bind fun x3 => (bif ((decide (aN ≤ 256)) && ((Int.tmod (w64 (aS.at' + 1)) 2) == 0)) then ((at' aS.code (w64 ((w64 (aS.at' + 1)) - 1))).bind fun x4 => some ((w64 x4), (l01Source.mk aS.code (w64 (aS.at' + 1)) (Int.tmod (w64 ((w64 (aS.seed * 48271)) + 29)) 2147483647)))) else some ((w64 ((w64 (Int.tdiv (Int.tmod (w64 ((w64 (aS.seed * 48271)) + 29)) 2147483647) 31)) + (w64 x3))), (l01Source.mk aS.code (w64 (aS.at' + 1)) (Int.tmod (w64 ((w64 (aS.seed * 48271)) + 29)) 2147483647))))) else some ((w64 (Int.tdiv (Int.tmod (w64 ((w64 (aS.seed * 48271)) + 29)) 2147483647) 31)), (l01Source.mk aS.code aS.at' (Int.tmod (w64 ((w64 (aS.seed * 48271)) + 29)) 2147483647))))).bind fun (j1 : Int × l01Source) => ((nz' aN).bind fun _ => some ((Int.tmod j1.1 aN), j1.2))))
set_option maxRecDepth 100000 in
set_option maxHeartbeats 4000000 in
theorem spec_l01Next_run (aS : l01Source) (aN : Int) (r : Int × l01Source) (h : spec_l01Next aS aN = some r) : SCall Tryd.prog 80 [.o (.box [vl (eI .u8) aS.code, vi aS.at', vi aS.seed]), .v (vi aN)] ⟨[.v (vi r.1)], [(0, .box [vl (eI .u8) r.2.code, vi r.2.at', vi r.2.seed])], false⟩ := by
  refine scall_in Tryd.func80 rfl [(.tmp 4)] rfl (fun r => ⟨[.v (vi r.1)], [(0, .box [vl (eI .u8) r.2.code, vi r.2.at', vi r.2.seed])], false⟩) (r := r) ?_
  unfold spec_l01Next at h
  refine swp_seq ?_
  refine swp_reg ?_
  refine SRun.ck tbokGD 1 ⟨78, [(0, .ref 1000000 0), (1, vi aN)], [(1000000, .box [vl (eI .u8) aS.code, vi aS.at', vi aS.seed])]⟩ ?_
  refine SRun.nil ?_
  refine nx_n ?_
  refine swp_seq ?_
  refine swp_seq ?_
  refine swp_reg ?_
  refine SRun.ck tbokGD 2 ⟨78, [(0, .ref 1000000 0), (1, vi aN), (7, vb (decide (aN ≤ 1)))], [(1000000, .box [vl (eI .u8) aS.code, vi aS.at', vi aS.seed])]⟩ ?_
  refine SRun.nil ?_
  refine nx_n ?_
  refine swp_cond (b := (decide (aN ≤ 1))) (by kernel_rfl) (fun hb => ?_) (fun hb => ?_)
  replace h := cond_t hb h
  refine swp_seq ?_
  refine swp_reg ?_
  refine SRun.ck tbokGD 1 ⟨78, [(4, vi 0)], [(1000000, .box [vl (eI .u8) aS.code, vi aS.at', vi aS.seed])]⟩ ?_
  refine SRun.nil ?_
  refine nx_n ?_
  refine swp_ret ?_
  replace h := Option.some.inj h
  subst h
  exact nx_r (q_fr (fin_io (fin1 (by kernel_rfl) (finV rfl SV.flat_of (holds_t (by kernel_rfl)))) (y := .box [vl (eI .u8) aS.code, vi aS.at', vi aS.seed]) (by kernel_rfl) rfl (by kernel_rfl) (by kernel_rfl)))
  replace h := cond_f hb h
  refine swp_skip ?_
  refine nx_n ?_
  refine swp_seq ?_
  refine swp_reg ?_
  refine SRun.ck tbokGD 10 ⟨78, [(0, .ref 1000000 0), (1, vi aN), (15, vi (Int.tmod (w64 ((w64 (aS.seed * 48271)) + 29)) 2147483647)), (17, .ref 1000000 2)], [(1000000, .box [vl (eI .u8) aS.code, vi aS.at', vi aS.seed])]⟩ ?_
  refine SRun.estep (x_estep_store (d := 1000000) (k := 2) (ti := ti2) (cs := [vl (eI .u8) aS.code, vi aS.at', vi aS.seed]) (vs := [vi (Int.tmod (w64 ((w64 (aS.seed * 48271)) + 29)) 2147483647)]) (v := vi (Int.tmod (w64 ((w64 (aS.seed * 48271)) + 29)) 2147483647)) tbokGD rfl rfl) ?_
  refine SRun.nil ?_
  refine nx_n ?_
  refine swp_seq ?_
  refine swp_reg ?_
  refine SRun.ck tbokGD 6 ⟨78, [(0, .ref 1000000 0), (1, vi aN), (5, vi (w64 (Int.tdiv (Int.tmod (w64 ((w64 (aS.seed * 48271)) + 29)) 2147483647) 31)))], [(1000000, .box [vl (eI .u8) aS.code, vi aS.at', vi (Int.tmod (w64 ((w64 (aS.seed * 48271)) + 29)) 2147483647)])]⟩ ?_
  refine SRun.nil ?_
  refine nx_n ?_
  refine swp_seq ?_
  refine swp_seq ?_
  refine swp_dr mixed ?_
  refine DGo.chunk' tbokGD 10 (σ' := ⟨78, [(32, vb (decide (aS.at' < (aS.code.length : Int)))), (31, vi (aS.code.length : Int)), (30, vl (eI .u8) aS.code), (29, .ref 1000000 0), (28, .ref 1000000 0), (27, .ref 1000000 0), (26, vi aS.at'), (25, .ref 1000000 1), (24, .ref 1000000 0), (23, .ref 1000000 0), (0, .ref 1000000 0), (1, vi aN), (5, vi (w64 (Int.tdiv (Int.tmod (w64 ((w64 (aS.seed * 48271)) + 29)) 2147483647) 31)))], [(1000000, .box [vl (eI .u8) aS.code, vi aS.at', vi (Int.tmod (w64 ((w64 (aS.seed * 48271)) + 29)) 2147483647)])]⟩) (by kernel_rfl) ?_
  refine DGo.nil (by kernel_rfl) ?_
  refine nx_n ?_
  refine swp_seqJ h (fun j1 => ⟨78, [(1, vi aN), (5, vi j1.1)], [(1000000, .box [vl (eI .u8) j1.2.code, vi j1.2.at', vi j1.2.seed])]⟩) (fun v2 h => ?_) (fun j1 h => ?_)
  refine swp_cond (b := (decide (aS.at' < (aS.code.length : Int)))) (by kernel_rfl) (fun hb => ?_) (fun hb => ?_)
  replace h := cond_t hb h
  refine swp_seq ?_
  refine swp_dr mixed ?_
  refine DGo.chunk' tbokGD 9 (σ' := ⟨78, [(41, vi aS.at'), (40, .ref 1000000 1), (39, .ref 1000000 0), (38, .ref 1000000 0), (37, vl (eI .u8) aS.code), (36, .ref 1000000 0), (35, .ref 1000000 0), (34, .ref 1000000 0), (33, vi (w64 (Int.tdiv (Int.tmod (w64 ((w64 (aS.seed * 48271)) + 29)) 2147483647) 31))), (32, vb (decide (aS.at' < (aS.code.length : Int)))), (31, vi (aS.code.length : Int)), (30, vl (eI .u8) aS.code), (29, .ref 1000000 0), (28, .ref 1000000 0), (27, .ref 1000000 0), (26, vi aS.at'), (25, .ref 1000000 1), (24, .ref 1000000 0), (23, .ref 1000000 0), (0, .ref 1000000 0), (1, vi aN), (5, vi (w64 (Int.tdiv (Int.tmod (w64 ((w64 (aS.seed * 48271)) + 29)) 2147483647) 31)))], [(1000000, .box [vl (eI .u8) aS.code, vi aS.at', vi (Int.tmod (w64 ((w64 (aS.seed * 48271)) + 29)) 2147483647)])]⟩) (by kernel_rfl) ?_
  obtain ⟨x3, hx3, h⟩ := bind_some h
  refine DGo.step (x_index (L := aS.code) (f := (eI .u8)) (ti := ti57) (tj := ti5) (e := 5) (k := .i64) tbokGD rfl hx3) ?_
  refine DGo.chunk' tbokGD 4 (σ' := ⟨78, [(5, vi (w64 ((w64 (Int.tdiv (Int.tmod (w64 ((w64 (aS.seed * 48271)) + 29)) 2147483647) 31)) + (w64 x3)))), (45, vi (w64 ((w64 (Int.tdiv (Int.tmod (w64 ((w64 (aS.seed * 48271)) + 29)) 2147483647) 31)) + (w64 x3)))), (44, vi (w64 x3)), (43, .tr (.int .u8 x3)), (42, .ptr (((eI .u8) x3).map .tr) 0), (41, vi aS.at'), (40, .ref 1000000 1), (39, .ref 1000000 0), (38, .ref 1000000 0), (37, vl (eI .u8) aS.code), (36, .ref 1000000 0), (35, .ref 1000000 0), (34, .ref 1000000 0), (33, vi (w64 (Int.tdiv (Int.tmod (w64 ((w64 (aS.seed * 48271)) + 29)) 2147483647) 31))), (32, vb (decide (aS.at' < (aS.code.length : Int)))), (31, vi (aS.code.length : Int)), (30, vl (eI .u8) aS.code), (29, .ref 1000000 0), (28, .ref 1000000 0), (27, .ref 1000000 0), (26, vi aS.at'), (25, .ref 1000000 1), (24, .ref 1000000 0), (23, .ref 1000000 0), (0, .ref 1000000 0), (1, vi aN)], [(1000000, .box [vl (eI .u8) aS.code, vi aS.at', vi (Int.tmod (w64 ((w64 (aS.seed * 48271)) + 29)) 2147483647)])]⟩) (by kernel_rfl) ?_
  refine DGo.nil (by kernel_rfl) ?_
  refine nx_n ?_
  refine swp_seq ?_
  refine swp_reg ?_
  refine SRun.ck tbokGD 7 ⟨78, [(0, .ref 1000000 0), (1, vi aN), (5, vi (w64 ((w64 (Int.tdiv (Int.tmod (w64 ((w64 (aS.seed * 48271)) + 29)) 2147483647) 31)) + (w64 x3)))), (50, vi (w64 (aS.at' + 1))), (52, .ref 1000000 1)], [(1000000, .box [vl (eI .u8) aS.code, vi aS.at', vi (Int.tmod (w64 ((w64 (aS.seed * 48271)) + 29)) 2147483647)])]⟩ ?_
  refine SRun.estep (x_estep_store (d := 1000000) (k := 1) (ti := ti3) (cs := [vl (eI .u8) aS.code, vi aS.at', vi (Int.tmod (w64 ((w64 (aS.seed * 48271)) + 29)) 2147483647)]) (vs := [vi (w64 (aS.at' + 1))]) (v := vi (w64 (aS.at' + 1))) tbokGD rfl rfl) ?_
  refine SRun.nil ?_
  refine nx_n ?_
  refine swp_seq ?_
  refine swp_regP ⟨78, [(0, .ref 1000000 0), (1, vi aN), (5, vi (w64 ((w64 (Int.tdiv (Int.tmod (w64 ((w64 (aS.seed * 48271)) + 29)) 2147483647) 31)) + (w64 x3)))), (62, vb ((decide (aN ≤ 256)) && ((Int.tmod (w64 (aS.at' + 1)) 2) == 0)))], [(1000000, .box [vl (eI .u8) aS.code, vi (w64 (aS.at' + 1)), vi (Int.tmod (w64 ((w64 (aS.seed * 48271)) + 29)) 2147483647)])]⟩ ?_ ?_
  refine SRun.ck tbokGD 3 ⟨78, [(0, .ref 1000000 0), (1, vi aN), (5, vi (w64 ((w64 (Int.tdiv (Int.tmod (w64 ((w64 (aS.seed * 48271)) + 29)) 2147483647) 31)) + (w64 x3)))), (55, vb (decide (aN ≤ 256)))], [(1000000, .box [vl (eI .u8) aS.code, vi (w64 (aS.at' + 1)), vi (Int.tmod (w64 ((w64 (aS.seed * 48271)) + 29)) 2147483647)])]⟩ ?_
  generalize (decide (aN ≤ 256)) = bb
  cases bb
  refine SRun.ck tbokGD 7 ⟨78, [(0, .ref 1000000 0), (1, vi aN), (5, vi (w64 ((w64 (Int.tdiv (Int.tmod (w64 ((w64 (aS.seed * 48271)) + 29)) 2147483647) 31)) + (w64 x3)))), (62, vb false)], [(1000000, .box [vl (eI .u8) aS.code, vi (w64 (aS.at' + 1)), vi (Int.tmod (w64 ((w64 (aS.seed * 48271)) + 29)) 2147483647)])]⟩ ?_
  exact SRun.nil (Le.sub0)
  refine SRun.ck tbokGD 7 ⟨78, [(0, .ref 1000000 0), (1, vi aN), (5, vi (w64 ((w64 (Int.tdiv (Int.tmod (w64 ((w64 (aS.seed * 48271)) + 29)) 2147483647) 31)) + (w64 x3)))), (62, vb ((Int.tmod (w64 (aS.at' + 1)) 2) == 0))], [(1000000, .box [vl (eI .u8) aS.code, vi (w64 (aS.at' + 1)), vi (Int.tmod (w64 ((w64 (aS.seed * 48271)) + 29)) 2147483647)])]⟩ ?_
  exact SRun.nil (Le.sub0)
  refine swp_cond (b := ((decide (aN ≤ 256)) && ((Int.tmod (w64 (aS.at' + 1)) 2) == 0))) (by kernel_rfl) (fun hb => ?_) (fun hb => ?_)
  replace h := cond_t hb h
  refine swp_dr mixed ?_
  refine DGo.chunk' tbokGD 9 (σ' := ⟨78, [(71, vi (w64 ((w64 (aS.at' + 1)) - 1))), (70, vi (w64 (aS.at' + 1))), (69, .ref 1000000 1), (68, .ref 1000000 0), (67, .ref 1000000 0), (66, vl (eI .u8) aS.code), (65, .ref 1000000 0), (64, .ref 1000000 0), (63, .ref 1000000 0), (0, .ref 1000000 0), (1, vi aN), (5, vi (w64 ((w64 (Int.tdiv (Int.tmod (w64 ((w64 (aS.seed * 48271)) + 29)) 2147483647) 31)) + (w64 x3)))), (62, vb ((decide (aN ≤ 256)) && ((Int.tmod (w64 (aS.at' + 1)) 2) == 0)))], [(1000000, .box [vl (eI .u8) aS.code, vi (w64 (aS.at' + 1)), vi (Int.tmod (w64 ((w64 (aS.seed * 48271)) + 29)) 2147483647)])]⟩) (by kernel_rfl) ?_
  obtain ⟨x4, hx4, h⟩ := bind_some h
  refine DGo.step (x_index (L := aS.code) (f := (eI .u8)) (ti := ti57) (tj := ti5) (e := 5) (k := .i64) tbokGD rfl hx4) ?_
  refine DGo.chunk' tbokGD 3 (σ' := ⟨78, [(5, vi (w64 x4)), (74, vi (w64 x4)), (73, .tr (.int .u8 x4)), (72, .ptr (((eI .u8) x4).map .tr) 0), (71, vi (w64 ((w64 (aS.at' + 1)) - 1))), (70, vi (w64 (aS.at' + 1))), (69, .ref 1000000 1), (68, .ref 1000000 0), (67, .ref 1000000 0), (66, vl (eI .u8) aS.code), (65, .ref 1000000 0), (64, .ref 1000000 0), (63, .ref 1000000 0), (0, .ref 1000000 0), (1, vi aN), (62, vb ((decide (aN ≤ 256)) && ((Int.tmod (w64 (aS.at' + 1)) 2) == 0)))], [(1000000, .box [vl (eI .u8) aS.code, vi (w64 (aS.at' + 1)), vi (Int.tmod (w64 ((w64 (aS.seed * 48271)) + 29)) 2147483647)])]⟩) (by kernel_rfl) ?_
  refine DGo.nil (by kernel_rfl) ?_
  replace h := Option.some.inj h
  subst h
  exact q_j (Le.sub0)
  replace h := cond_f hb h
  refine swp_skip ?_
  replace h := Option.some.inj h
  subst h
  exact q_j (Le.sub0)
  replace h := cond_f hb h
  refine swp_skip ?_
  replace h := Option.some.inj h
  subst h
  exact q_j (Le.sub0)
  refine swp_seq ?_
  refine swp_reg ?_
  refine SRun.ck tbokGD 2 ⟨78, [(75, vi j1.1), (76, vi aN)], [(1000000, .box [vl (eI .u8) j1.2.code, vi j1.2.at', vi j1.2.seed])]⟩ ?_
  obtain ⟨x5, hx5, h⟩ := bind_some h
  refine SRun.ls (x_lstep_quo (k := .i64) (i := j1.1) hx5 true rfl) ?_
  refine SRun.ck tbokGD 1 ⟨78, [(4, vi (Int.tmod j1.1 aN))], [(1000000, .box [vl (eI .u8) j1.2.code, vi j1.2.at', vi j1.2.seed])]⟩ ?_
  refine SRun.nil ?_
  refine nx_n ?_
  refine swp_ret ?_
  replace h := Option.some.inj h
  subst h
  exact q_fr (fin_io (fin1 (by kernel_rfl) (finV rfl SV.flat_of (holds_t (by kernel_rfl)))) (y := .box [vl (eI .u8) j1.2.code, vi j1.2.at', vi j1.2.seed]) (by kernel_rfl) rfl (by kernel_rfl) (by kernel_rfl))
theorem ents80 : Ents Tryd.prog 80 := ents_of Tryd.func80 (by kernel_rfl) rfl
noncomputable def spec_l01Pick (aS : l01Source) (aList : (List Int)) : Option (Int × l01Source) :=
  ((spec_l01Next aS (aList.length : Int)).bind fun x1 => ((at' aList x1.1).bind fun x2 => some (x2, x1.2)))
set_option maxRecDepth 100000 in
set_option maxHeartbeats 4000000 in
theorem spec_l01Pick_run (aS : l01Source) (aList : (List Int)) (r : Int × l01Source) (h : spec_l01Pick aS aList = some r) : SCall Tryd.prog 93 [.o (.box [vl (eI .u8) aS.code, vi aS.at', vi aS.seed]), .v (vl (eI .i64) aList)] ⟨[.v (vi r.1)], [(0, .box [vl (eI .u8) r.2.code, vi r.2.at', vi r.2.seed])], false⟩ := by
  refine scall_in Tryd.func93 rfl [(.tmp 4)] rfl (fun r => ⟨[.v (vi r.1)], [(0, .box [vl (eI .u8) r.2.code, vi r.2.at', vi r.2.seed])], false⟩) (r := r) ?_
  unfold spec_l01Pick at h
  refine swp_seq ?_
  refine swp_reg ?_
  refine SRun.ck tbokGD 1 ⟨12, [(0, .ref 1000000 0), (1, vl (eI .i64) aList)], [(1000000, .box [vl (eI .u8) aS.code, vi aS.at', vi aS.seed])]⟩ ?_
  refine SRun.nil ?_
  refine nx_n ?_
  refine swp_seq ?_
  refine swp_reg ?_
  refine SRun.ck tbokGD 4 ⟨12, [(5, vl (eI .i64) aList), (6, .ref 1000000 0), (8, vi (aList.length : Int))], [(1000000, .box [vl (eI .u8) aS.code, vi aS.at', vi aS.seed])]⟩ ?_
  obtain ⟨x1, hx1, h⟩ := bind_some h
  refine SRun.estep (x_estep_call (f := 80) (caps := []) (xs := [.ref 1000000 0, vi (aList.length : Int)]) (pre := []) (post := [vi (aList.length : Int)]) (qs := [vi (aList.length : Int)]) (z := .ref 1000000 0) (d := 1000000) (pl := 0) (y := .box [vl (eI .u8) aS.code, vi aS.at', vi aS.seed]) (y' := .box [vl (eI .u8) x1.2.code, vi x1.2.at', vi x1.2.seed]) (res := ⟨[.v (vi x1.1)], [(0, .box [vl (eI .u8) x1.2.code, vi x1.2.at', vi x1.2.seed])], false⟩) (x := vi x1.1) (yo := none) rfl rfl rfl rfl rfl ents80 (spec_l01Next_run aS (aList.length : Int) _ hx1) rfl rfl false (fun _ => rfl) (by intro hc; cases hc)) ?_
  obtain ⟨x2, hx2, h⟩ := bind_some h
  refine SRun.ls (x_index (L := aList) (f := (eI .i64)) (ti := ti50) (tj := ti2) (e := 2) (k := .i64) tbokGD rfl hx2) ?_
  refine SRun.ck tbokGD 2 ⟨12, [(4, vi x2)], [(1000000, .box [vl (eI .u8) x1.2.code, vi x1.2.at', vi x1.2.seed])]⟩ ?_
  refine SRun.nil ?_
  refine nx_n ?_
  refine swp_ret ?_
  replace h := Option.some.inj h
  subst h
  exact q_fr (fin_io (fin1 (by kernel_rfl) (finV rfl SV.flat_of (holds_t (by kernel_rfl)))) (y := .box [vl (eI .u8) x1.2.code, vi x1.2.at', vi x1.2.seed]) (by kernel_rfl) rfl (by kernel_rfl) (by kernel_rfl))
theorem ents93 : Ents Tryd.prog 93 := ents_of Tryd.func93 (by kernel_rfl) rfl
noncomputable def spec_l01Good (aS : l01Source) : Option (ByteArray × l01Source) :=
  ((spec_l01Next aS 3).bind fun x1 => (((loop (fun (s4 : ByteArray × Int × l01Source) => (bif (decide (s4.2.1 > 0)) then ((((spec_l01Next s4.2.2 (([(ByteArray.mk #[97, 115, 104]), (ByteArray.mk #[102, 111, 114, 100]), (ByteArray.mk #[116, 111, 110]), (ByteArray.mk #[98, 121]), (ByteArray.mk #[107, 105, 114, 107]), (ByteArray.mk #[104, 97, 114]), (ByteArray.mk #[119, 105, 99, 107]), (ByteArray.mk #[101, 108, 121]), (ByteArray.mk #[111, 115]), (ByteArray.mk #[108, 111]), (ByteArray.mk #[98, 114, 105, 103]), (ByteArray.mk #[109, 97]), (ByteArray.mk #[114, 105]), (ByteArray.mk #[110, 97]), (ByteArray.mk #[115, 116]), (ByteArray.mk #[97, 101])] : List ByteArray).length : Int)).bind fun x8 => ((at' ([(ByteArray.mk #[97, 115, 104]), (ByteArray.mk #[102, 111, 114, 100]), (ByteArray.mk #[116, 111, 110]), (ByteArray.mk #[98, 121]), (ByteArray.mk #[107, 105, 114, 107]), (ByteArray.mk #[104, 97, 114]), (ByteArray.mk #[119, 105, 99, 107]), (ByteArray.mk #[101, 108, 121]), (ByteArray.mk #[111, 115]), (ByteArray.mk #[108, 111]), (ByteArray.mk #[98, 114, 105, 103]), (ByteArray.mk #[109, 97]), (ByteArray.mk #[114, 105]), (ByteArray.mk #[110, 97]), (ByteArray.mk #[115, 116]), (ByteArray.mk #[97, 101])] : List ByteArray) x8.1).bind fun x9 => ((cat' s4.1 x9).bind fun x10 => some (x10, x8.2))))).bind fun (j6 : ByteArray × l01Source) => some (.inl (j6.1, (w64 (s4.2.1 - 1)), j6.2))) else some (.inr (s4.1, s4.2.2)))) ((ByteArray.mk #[]), (w64 (1 + x1.1)), x1.2))).bind fun (j2 : ByteArray × l01Source) => some (j2.1, j2.2)))
set_option maxRecDepth 100000 in
set_option maxHeartbeats 4000000 in
theorem spec_l01Good_run (aS : l01Source) (r : ByteArray × l01Source) (h : spec_l01Good aS = some r) : SCall Tryd.prog 100 [.o (.box [vl (eI .u8) aS.code, vi aS.at', vi aS.seed])] ⟨[.v (vs r.1)], [(0, .box [vl (eI .u8) r.2.code, vi r.2.at', vi r.2.seed])], false⟩ := by
  refine scall_in Tryd.func100 rfl [(.tmp 2)] rfl (fun r => ⟨[.v (vs r.1)], [(0, .box [vl (eI .u8) r.2.code, vi r.2.at', vi r.2.seed])], false⟩) (r := r) ?_
  unfold spec_l01Good at h
  refine swp_seq ?_
  refine swp_reg ?_
  refine SRun.ck tbokGD 1 ⟨24, [(0, .ref 1000000 0)], [(1000000, .box [vl (eI .u8) aS.code, vi aS.at', vi aS.seed])]⟩ ?_
  refine SRun.nil ?_
  refine nx_n ?_
  refine swp_seq ?_
  refine swp_reg ?_
  refine SRun.ck tbokGD 2 ⟨24, [(0, .ref 1000000 0), (3, .own 6)], [(6, .arr 9 1 ([(ByteArray.mk #[97, 115, 104]), (ByteArray.mk #[102, 111, 114, 100]), (ByteArray.mk #[116, 111, 110]), (ByteArray.mk #[98, 121]), (ByteArray.mk #[107, 105, 114, 107]), (ByteArray.mk #[104, 97, 114]), (ByteArray.mk #[119, 105, 99, 107]), (ByteArray.mk #[101, 108, 121]), (ByteArray.mk #[111, 115]), (ByteArray.mk #[108, 111]), (ByteArray.mk #[98, 114, 105, 103]), (ByteArray.mk #[109, 97]), (ByteArray.mk #[114, 105]), (ByteArray.mk #[110, 97]), (ByteArray.mk #[115, 116]), (ByteArray.mk #[97, 101])] : List ByteArray).length (([(ByteArray.mk #[97, 115, 104]), (ByteArray.mk #[102, 111, 114, 100]), (ByteArray.mk #[116, 111, 110]), (ByteArray.mk #[98, 121]), (ByteArray.mk #[107, 105, 114, 107]), (ByteArray.mk #[104, 97, 114]), (ByteArray.mk #[119, 105, 99, 107]), (ByteArray.mk #[101, 108, 121]), (ByteArray.mk #[111, 115]), (ByteArray.mk #[108, 111]), (ByteArray.mk #[98, 114, 105, 103]), (ByteArray.mk #[109, 97]), (ByteArray.mk #[114, 105]), (ByteArray.mk #[110, 97]), (ByteArray.mk #[115, 116]), (ByteArray.mk #[97, 101])] : List ByteArray).map eS)), (1000000, .box [vl (eI .u8) aS.code, vi aS.at', vi aS.seed])]⟩ ?_
  refine SRun.nil ?_
  refine nx_n ?_
  refine swp_seq ?_
  refine swp_reg ?_
  refine SRun.ck tbokGD 1 ⟨24, [(0, .ref 1000000 0), (3, .own 6), (4, vs (ByteArray.mk #[]))], [(6, .arr 9 1 ([(ByteArray.mk #[97, 115, 104]), (ByteArray.mk #[102, 111, 114, 100]), (ByteArray.mk #[116, 111, 110]), (ByteArray.mk #[98, 121]), (ByteArray.mk #[107, 105, 114, 107]), (ByteArray.mk #[104, 97, 114]), (ByteArray.mk #[119, 105, 99, 107]), (ByteArray.mk #[101, 108, 121]), (ByteArray.mk #[111, 115]), (ByteArray.mk #[108, 111]), (ByteArray.mk #[98, 114, 105, 103]), (ByteArray.mk #[109, 97]), (ByteArray.mk #[114, 105]), (ByteArray.mk #[110, 97]), (ByteArray.mk #[115, 116]), (ByteArray.mk #[97, 101])] : List ByteArray).length (([(ByteArray.mk #[97, 115, 104]), (ByteArray.mk #[102, 111, 114, 100]), (ByteArray.mk #[116, 111, 110]), (ByteArray.mk #[98, 121]), (ByteArray.mk #[107, 105, 114, 107]), (ByteArray.mk #[104, 97, 114]), (ByteArray.mk #[119, 105, 99, 107]), (ByteArray.mk #[101, 108, 121]), (ByteArray.mk #[111, 115]), (ByteArray.mk #[108, 111]), (ByteArray.mk #[98, 114, 105, 103]), (ByteArray.mk #[109, 97]), (ByteArray.mk #[114, 105]), (ByteArray.mk #[110, 97]), (ByteArray.mk #[115, 116]), (ByteArray.mk #[97, 101])] : List ByteArray).map eS)), (1000000, .box [vl (eI .u8) aS.code, vi aS.at', vi aS.seed])]⟩ ?_
  refine SRun.nil ?_
  refine nx_n ?_
  refine swp_seq ?_
  refine swp_seq ?_
  refine swp_reg ?_
  refine SRun.ck tbokGD 1 ⟨24, [(0, .ref 1000000 0), (3, .own 6), (4, vs (ByteArray.mk #[])), (7, .ref 1000000 0)], [(6, .arr 9 1 ([(ByteArray.mk #[97, 115, 104]), (ByteArray.mk #[102, 111, 114, 100]), (ByteArray.mk #[116, 111, 110]), (ByteArray.mk #[98, 121]), (ByteArray.mk #[107, 105, 114, 107]), (ByteArray.mk #[104, 97, 114]), (ByteArray.mk #[119, 105, 99, 107]), (ByteArray.mk #[101, 108, 121]), (ByteArray.mk #[111, 115]), (ByteArray.mk #[108, 111]), (ByteArray.mk #[98, 114, 105, 103]), (ByteArray.mk #[109, 97]), (ByteArray.mk #[114, 105]), (ByteArray.mk #[110, 97]), (ByteArray.mk #[115, 116]), (ByteArray.mk #[97, 101])] : List ByteArray).length (([(ByteArray.mk #[97, 115, 104]), (ByteArray.mk #[102, 111, 114, 100]), (ByteArray.mk #[116, 111, 110]), (ByteArray.mk #[98, 121]), (ByteArray.mk #[107, 105, 114, 107]), (ByteArray.mk #[104, 97, 114]), (ByteArray.mk #[119, 105, 99, 107]), (ByteArray.mk #[101, 108, 121]), (ByteArray.mk #[111, 115]), (ByteArray.mk #[108, 111]), (ByteArray.mk #[98, 114, 105, 103]), (ByteArray.mk #[109, 97]), (ByteArray.mk #[114, 105]), (ByteArray.mk #[110, 97]), (ByteArray.mk #[115, 116]), (ByteArray.mk #[97, 101])] : List ByteArray).map eS)), (1000000, .box [vl (eI .u8) aS.code, vi aS.at', vi aS.seed])]⟩ ?_
  obtain ⟨x1, hx1, h⟩ := bind_some h
  refine SRun.estep (x_estep_call (f := 80) (caps := []) (xs := [.ref 1000000 0, vi 3]) (pre := []) (post := [vi 3]) (qs := [vi 3]) (z := .ref 1000000 0) (d := 1000000) (pl := 0) (y := .box [vl (eI .u8) aS.code, vi aS.at', vi aS.seed]) (y' := .box [vl (eI .u8) x1.2.code, vi x1.2.at', vi x1.2.seed]) (res := ⟨[.v (vi x1.1)], [(0, .box [vl (eI .u8) x1.2.code, vi x1.2.at', vi x1.2.seed])], false⟩) (x := vi x1.1) (yo := none) rfl rfl rfl rfl rfl ents80 (spec_l01Next_run aS 3 _ hx1) rfl rfl false (fun _ => rfl) (by intro hc; cases hc)) ?_
  refine SRun.ck tbokGD 2 ⟨24, [(0, .ref 1000000 0), (3, .own 6), (4, vs (ByteArray.mk #[])), (5, vi (w64 (1 + x1.1)))], [(6, .arr 9 1 ([(ByteArray.mk #[97, 115, 104]), (ByteArray.mk #[102, 111, 114, 100]), (ByteArray.mk #[116, 111, 110]), (ByteArray.mk #[98, 121]), (ByteArray.mk #[107, 105, 114, 107]), (ByteArray.mk #[104, 97, 114]), (ByteArray.mk #[119, 105, 99, 107]), (ByteArray.mk #[101, 108, 121]), (ByteArray.mk #[111, 115]), (ByteArray.mk #[108, 111]), (ByteArray.mk #[98, 114, 105, 103]), (ByteArray.mk #[109, 97]), (ByteArray.mk #[114, 105]), (ByteArray.mk #[110, 97]), (ByteArray.mk #[115, 116]), (ByteArray.mk #[97, 101])] : List ByteArray).length (([(ByteArray.mk #[97, 115, 104]), (ByteArray.mk #[102, 111, 114, 100]), (ByteArray.mk #[116, 111, 110]), (ByteArray.mk #[98, 121]), (ByteArray.mk #[107, 105, 114, 107]), (ByteArray.mk #[104, 97, 114]), (ByteArray.mk #[119, 105, 99, 107]), (ByteArray.mk #[101, 108, 121]), (ByteArray.mk #[111, 115]), (ByteArray.mk #[108, 111]), (ByteArray.mk #[98, 114, 105, 103]), (ByteArray.mk #[109, 97]), (ByteArray.mk #[114, 105]), (ByteArray.mk #[110, 97]), (ByteArray.mk #[115, 116]), (ByteArray.mk #[97, 101])] : List ByteArray).map eS)), (1000000, .box [vl (eI .u8) x1.2.code, vi x1.2.at', vi x1.2.seed])]⟩ ?_
  refine SRun.nil ?_
  refine nx_n ?_
  refine swp_seqJ h (fun j2 => ⟨24, [(4, vs j2.1)], [(1000000, .box [vl (eI .u8) j2.2.code, vi j2.2.at', vi j2.2.seed])]⟩) (fun v3 h => ?_) (fun j2 h => ?_)
  refine swp_blk (a := v3) ?_
  refine swp_lpL (r := v3) (s := ((ByteArray.mk #[]), (w64 (1 + x1.1)), x1.2)) _ (fun s4 => ⟨24, [(0, .ref 1000000 0), (3, .own 3), (4, vs s4.1), (5, vi s4.2.1)], [(3, .arr 9 1 ([(ByteArray.mk #[97, 115, 104]), (ByteArray.mk #[102, 111, 114, 100]), (ByteArray.mk #[116, 111, 110]), (ByteArray.mk #[98, 121]), (ByteArray.mk #[107, 105, 114, 107]), (ByteArray.mk #[104, 97, 114]), (ByteArray.mk #[119, 105, 99, 107]), (ByteArray.mk #[101, 108, 121]), (ByteArray.mk #[111, 115]), (ByteArray.mk #[108, 111]), (ByteArray.mk #[98, 114, 105, 103]), (ByteArray.mk #[109, 97]), (ByteArray.mk #[114, 105]), (ByteArray.mk #[110, 97]), (ByteArray.mk #[115, 116]), (ByteArray.mk #[97, 101])] : List ByteArray).length (([(ByteArray.mk #[97, 115, 104]), (ByteArray.mk #[102, 111, 114, 100]), (ByteArray.mk #[116, 111, 110]), (ByteArray.mk #[98, 121]), (ByteArray.mk #[107, 105, 114, 107]), (ByteArray.mk #[104, 97, 114]), (ByteArray.mk #[119, 105, 99, 107]), (ByteArray.mk #[101, 108, 121]), (ByteArray.mk #[111, 115]), (ByteArray.mk #[108, 111]), (ByteArray.mk #[98, 114, 105, 103]), (ByteArray.mk #[109, 97]), (ByteArray.mk #[114, 105]), (ByteArray.mk #[110, 97]), (ByteArray.mk #[115, 116]), (ByteArray.mk #[97, 101])] : List ByteArray).map eS)), (1000000, .box [vl (eI .u8) s4.2.2.code, vi s4.2.2.at', vi s4.2.2.seed])]⟩) _ ((Le.sub' ([(0, .ref 1000000 0), (3, .own 6), (4, vs (ByteArray.mk #[])), (5, vi (w64 (1 + x1.1)))] : List (Nat × SV)) ([(6, .arr 9 1 ([(ByteArray.mk #[97, 115, 104]), (ByteArray.mk #[102, 111, 114, 100]), (ByteArray.mk #[116, 111, 110]), (ByteArray.mk #[98, 121]), (ByteArray.mk #[107, 105, 114, 107]), (ByteArray.mk #[104, 97, 114]), (ByteArray.mk #[119, 105, 99, 107]), (ByteArray.mk #[101, 108, 121]), (ByteArray.mk #[111, 115]), (ByteArray.mk #[108, 111]), (ByteArray.mk #[98, 114, 105, 103]), (ByteArray.mk #[109, 97]), (ByteArray.mk #[114, 105]), (ByteArray.mk #[110, 97]), (ByteArray.mk #[115, 116]), (ByteArray.mk #[97, 101])] : List ByteArray).length (([(ByteArray.mk #[97, 115, 104]), (ByteArray.mk #[102, 111, 114, 100]), (ByteArray.mk #[116, 111, 110]), (ByteArray.mk #[98, 121]), (ByteArray.mk #[107, 105, 114, 107]), (ByteArray.mk #[104, 97, 114]), (ByteArray.mk #[119, 105, 99, 107]), (ByteArray.mk #[101, 108, 121]), (ByteArray.mk #[111, 115]), (ByteArray.mk #[108, 111]), (ByteArray.mk #[98, 114, 105, 103]), (ByteArray.mk #[109, 97]), (ByteArray.mk #[114, 105]), (ByteArray.mk #[110, 97]), (ByteArray.mk #[115, 116]), (ByteArray.mk #[97, 101])] : List ByteArray).map eS)), (1000000, .box [vl (eI .u8) x1.2.code, vi x1.2.at', vi x1.2.seed])] : List (Nat × SO)) (by kernel_rfl) (by kernel_rfl)).trans ((Le.ren' (d := 6) (e := 3) (by kernel_rfl) (by kernel_rfl) (by kernel_rfl)).trans (Le.sub0))) h (fun s4 v5 h => ?_)
  refine swp_seq ?_
  refine swp_seq ?_
  refine swp_reg ?_
  refine SRun.ck tbokGD 2 ⟨24, [(0, .ref 1000000 0), (3, .own 3), (4, vs s4.1), (5, vi s4.2.1), (11, vb (decide (s4.2.1 > 0)))], [(3, .arr 9 1 ([(ByteArray.mk #[97, 115, 104]), (ByteArray.mk #[102, 111, 114, 100]), (ByteArray.mk #[116, 111, 110]), (ByteArray.mk #[98, 121]), (ByteArray.mk #[107, 105, 114, 107]), (ByteArray.mk #[104, 97, 114]), (ByteArray.mk #[119, 105, 99, 107]), (ByteArray.mk #[101, 108, 121]), (ByteArray.mk #[111, 115]), (ByteArray.mk #[108, 111]), (ByteArray.mk #[98, 114, 105, 103]), (ByteArray.mk #[109, 97]), (ByteArray.mk #[114, 105]), (ByteArray.mk #[110, 97]), (ByteArray.mk #[115, 116]), (ByteArray.mk #[97, 101])] : List ByteArray).length (([(ByteArray.mk #[97, 115, 104]), (ByteArray.mk #[102, 111, 114, 100]), (ByteArray.mk #[116, 111, 110]), (ByteArray.mk #[98, 121]), (ByteArray.mk #[107, 105, 114, 107]), (ByteArray.mk #[104, 97, 114]), (ByteArray.mk #[119, 105, 99, 107]), (ByteArray.mk #[101, 108, 121]), (ByteArray.mk #[111, 115]), (ByteArray.mk #[108, 111]), (ByteArray.mk #[98, 114, 105, 103]), (ByteArray.mk #[109, 97]), (ByteArray.mk #[114, 105]), (ByteArray.mk #[110, 97]), (ByteArray.mk #[115, 116]), (ByteArray.mk #[97, 101])] : List ByteArray).map eS)), (1000000, .box [vl (eI .u8) s4.2.2.code, vi s4.2.2.at', vi s4.2.2.seed])]⟩ ?_
  refine SRun.nil ?_
  refine nx_n ?_
  refine swp_cond (b := (decide (s4.2.1 > 0))) (by kernel_rfl) (fun hb => ?_) (fun hb => ?_)
  replace h := cond_t hb h
  refine swp_skip ?_
  refine nx_n ?_
  refine swp_seq ?_
  refine swp_seqJ h (fun j6 => ⟨24, [(0, .ref 1000000 0), (3, .own 3), (4, vs j6.1), (5, vi s4.2.1)], [(3, .arr 9 1 ([(ByteArray.mk #[97, 115, 104]), (ByteArray.mk #[102, 111, 114, 100]), (ByteArray.mk #[116, 111, 110]), (ByteArray.mk #[98, 121]), (ByteArray.mk #[107, 105, 114, 107]), (ByteArray.mk #[104, 97, 114]), (ByteArray.mk #[119, 105, 99, 107]), (ByteArray.mk #[101, 108, 121]), (ByteArray.mk #[111, 115]), (ByteArray.mk #[108, 111]), (ByteArray.mk #[98, 114, 105, 103]), (ByteArray.mk #[109, 97]), (ByteArray.mk #[114, 105]), (ByteArray.mk #[110, 97]), (ByteArray.mk #[115, 116]), (ByteArray.mk #[97, 101])] : List ByteArray).length (([(ByteArray.mk #[97, 115, 104]), (ByteArray.mk #[102, 111, 114, 100]), (ByteArray.mk #[116, 111, 110]), (ByteArray.mk #[98, 121]), (ByteArray.mk #[107, 105, 114, 107]), (ByteArray.mk #[104, 97, 114]), (ByteArray.mk #[119, 105, 99, 107]), (ByteArray.mk #[101, 108, 121]), (ByteArray.mk #[111, 115]), (ByteArray.mk #[108, 111]), (ByteArray.mk #[98, 114, 105, 103]), (ByteArray.mk #[109, 97]), (ByteArray.mk #[114, 105]), (ByteArray.mk #[110, 97]), (ByteArray.mk #[115, 116]), (ByteArray.mk #[97, 101])] : List ByteArray).map eS)), (1000000, .box [vl (eI .u8) j6.2.code, vi j6.2.at', vi j6.2.seed])]⟩) (fun v7 h => ?_) (fun j6 h => ?_)
  refine swp_blk (a := v7) ?_
  refine swp_reg ?_
  refine SRun.ck tbokGD 5 ⟨24, [(0, .ref 1000000 0), (3, .own 3), (5, vi s4.2.1), (14, vs s4.1), (15, .own 3), (16, .ref 1000000 0), (18, vi (([(ByteArray.mk #[97, 115, 104]), (ByteArray.mk #[102, 111, 114, 100]), (ByteArray.mk #[116, 111, 110]), (ByteArray.mk #[98, 121]), (ByteArray.mk #[107, 105, 114, 107]), (ByteArray.mk #[104, 97, 114]), (ByteArray.mk #[119, 105, 99, 107]), (ByteArray.mk #[101, 108, 121]), (ByteArray.mk #[111, 115]), (ByteArray.mk #[108, 111]), (ByteArray.mk #[98, 114, 105, 103]), (ByteArray.mk #[109, 97]), (ByteArray.mk #[114, 105]), (ByteArray.mk #[110, 97]), (ByteArray.mk #[115, 116]), (ByteArray.mk #[97, 101])] : List ByteArray).length : Int))], [(3, .arr 9 1 ([(ByteArray.mk #[97, 115, 104]), (ByteArray.mk #[102, 111, 114, 100]), (ByteArray.mk #[116, 111, 110]), (ByteArray.mk #[98, 121]), (ByteArray.mk #[107, 105, 114, 107]), (ByteArray.mk #[104, 97, 114]), (ByteArray.mk #[119, 105, 99, 107]), (ByteArray.mk #[101, 108, 121]), (ByteArray.mk #[111, 115]), (ByteArray.mk #[108, 111]), (ByteArray.mk #[98, 114, 105, 103]), (ByteArray.mk #[109, 97]), (ByteArray.mk #[114, 105]), (ByteArray.mk #[110, 97]), (ByteArray.mk #[115, 116]), (ByteArray.mk #[97, 101])] : List ByteArray).length (([(ByteArray.mk #[97, 115, 104]), (ByteArray.mk #[102, 111, 114, 100]), (ByteArray.mk #[116, 111, 110]), (ByteArray.mk #[98, 121]), (ByteArray.mk #[107, 105, 114, 107]), (ByteArray.mk #[104, 97, 114]), (ByteArray.mk #[119, 105, 99, 107]), (ByteArray.mk #[101, 108, 121]), (ByteArray.mk #[111, 115]), (ByteArray.mk #[108, 111]), (ByteArray.mk #[98, 114, 105, 103]), (ByteArray.mk #[109, 97]), (ByteArray.mk #[114, 105]), (ByteArray.mk #[110, 97]), (ByteArray.mk #[115, 116]), (ByteArray.mk #[97, 101])] : List ByteArray).map eS)), (1000000, .box [vl (eI .u8) s4.2.2.code, vi s4.2.2.at', vi s4.2.2.seed])]⟩ ?_
  obtain ⟨x8, hx8, h⟩ := bind_some h
  refine SRun.estep (x_estep_call (f := 80) (caps := []) (xs := [.ref 1000000 0, vi (([(ByteArray.mk #[97, 115, 104]), (ByteArray.mk #[102, 111, 114, 100]), (ByteArray.mk #[116, 111, 110]), (ByteArray.mk #[98, 121]), (ByteArray.mk #[107, 105, 114, 107]), (ByteArray.mk #[104, 97, 114]), (ByteArray.mk #[119, 105, 99, 107]), (ByteArray.mk #[101, 108, 121]), (ByteArray.mk #[111, 115]), (ByteArray.mk #[108, 111]), (ByteArray.mk #[98, 114, 105, 103]), (ByteArray.mk #[109, 97]), (ByteArray.mk #[114, 105]), (ByteArray.mk #[110, 97]), (ByteArray.mk #[115, 116]), (ByteArray.mk #[97, 101])] : List ByteArray).length : Int)]) (pre := []) (post := [vi (([(ByteArray.mk #[97, 115, 104]), (ByteArray.mk #[102, 111, 114, 100]), (ByteArray.mk #[116, 111, 110]), (ByteArray.mk #[98, 121]), (ByteArray.mk #[107, 105, 114, 107]), (ByteArray.mk #[104, 97, 114]), (ByteArray.mk #[119, 105, 99, 107]), (ByteArray.mk #[101, 108, 121]), (ByteArray.mk #[111, 115]), (ByteArray.mk #[108, 111]), (ByteArray.mk #[98, 114, 105, 103]), (ByteArray.mk #[109, 97]), (ByteArray.mk #[114, 105]), (ByteArray.mk #[110, 97]), (ByteArray.mk #[115, 116]), (ByteArray.mk #[97, 101])] : List ByteArray).length : Int)]) (qs := [vi (([(ByteArray.mk #[97, 115, 104]), (ByteArray.mk #[102, 111, 114, 100]), (ByteArray.mk #[116, 111, 110]), (ByteArray.mk #[98, 121]), (ByteArray.mk #[107, 105, 114, 107]), (ByteArray.mk #[104, 97, 114]), (ByteArray.mk #[119, 105, 99, 107]), (ByteArray.mk #[101, 108, 121]), (ByteArray.mk #[111, 115]), (ByteArray.mk #[108, 111]), (ByteArray.mk #[98, 114, 105, 103]), (ByteArray.mk #[109, 97]), (ByteArray.mk #[114, 105]), (ByteArray.mk #[110, 97]), (ByteArray.mk #[115, 116]), (ByteArray.mk #[97, 101])] : List ByteArray).length : Int)]) (z := .ref 1000000 0) (d := 1000000) (pl := 0) (y := .box [vl (eI .u8) s4.2.2.code, vi s4.2.2.at', vi s4.2.2.seed]) (y' := .box [vl (eI .u8) x8.2.code, vi x8.2.at', vi x8.2.seed]) (res := ⟨[.v (vi x8.1)], [(0, .box [vl (eI .u8) x8.2.code, vi x8.2.at', vi x8.2.seed])], false⟩) (x := vi x8.1) (yo := none) rfl rfl rfl rfl rfl ents80 (spec_l01Next_run s4.2.2 (([(ByteArray.mk #[97, 115, 104]), (ByteArray.mk #[102, 111, 114, 100]), (ByteArray.mk #[116, 111, 110]), (ByteArray.mk #[98, 121]), (ByteArray.mk #[107, 105, 114, 107]), (ByteArray.mk #[104, 97, 114]), (ByteArray.mk #[119, 105, 99, 107]), (ByteArray.mk #[101, 108, 121]), (ByteArray.mk #[111, 115]), (ByteArray.mk #[108, 111]), (ByteArray.mk #[98, 114, 105, 103]), (ByteArray.mk #[109, 97]), (ByteArray.mk #[114, 105]), (ByteArray.mk #[110, 97]), (ByteArray.mk #[115, 116]), (ByteArray.mk #[97, 101])] : List ByteArray).length : Int) _ hx8) rfl rfl false (fun _ => rfl) (by intro hc; cases hc)) ?_
  obtain ⟨x9, hx9, h⟩ := bind_some h
  refine SRun.ls (x_index_own (d := 3) (L := ([(ByteArray.mk #[97, 115, 104]), (ByteArray.mk #[102, 111, 114, 100]), (ByteArray.mk #[116, 111, 110]), (ByteArray.mk #[98, 121]), (ByteArray.mk #[107, 105, 114, 107]), (ByteArray.mk #[104, 97, 114]), (ByteArray.mk #[119, 105, 99, 107]), (ByteArray.mk #[101, 108, 121]), (ByteArray.mk #[111, 115]), (ByteArray.mk #[108, 111]), (ByteArray.mk #[98, 114, 105, 103]), (ByteArray.mk #[109, 97]), (ByteArray.mk #[114, 105]), (ByteArray.mk #[110, 97]), (ByteArray.mk #[115, 116]), (ByteArray.mk #[97, 101])] : List ByteArray)) (f := eS) (ti := ti105) (tj := ti9) (e := 9) (e' := 9) (m := 1) (k := .i64) tbokGD rfl hx9) ?_
  refine SRun.ls (x_load_own (d := 3) (m := 1) (j := 0) (L := ([(ByteArray.mk #[97, 115, 104]), (ByteArray.mk #[102, 111, 114, 100]), (ByteArray.mk #[116, 111, 110]), (ByteArray.mk #[98, 121]), (ByteArray.mk #[107, 105, 114, 107]), (ByteArray.mk #[104, 97, 114]), (ByteArray.mk #[119, 105, 99, 107]), (ByteArray.mk #[101, 108, 121]), (ByteArray.mk #[111, 115]), (ByteArray.mk #[108, 111]), (ByteArray.mk #[98, 114, 105, 103]), (ByteArray.mk #[109, 97]), (ByteArray.mk #[114, 105]), (ByteArray.mk #[110, 97]), (ByteArray.mk #[115, 116]), (ByteArray.mk #[97, 101])] : List ByteArray)) (f := eS) (ti := ti9) (e := 9) (v := vs x9) tbokGD rfl hx9) ?_
  obtain ⟨x10, hx10, h⟩ := bind_some h
  refine SRun.ls (x_cat hx10 rfl) ?_
  refine SRun.ck tbokGD 1 ⟨24, [(0, .ref 1000000 0), (3, .own 3), (4, vs x10), (5, vi s4.2.1)], [(3, .arr 9 1 ([(ByteArray.mk #[97, 115, 104]), (ByteArray.mk #[102, 111, 114, 100]), (ByteArray.mk #[116, 111, 110]), (ByteArray.mk #[98, 121]), (ByteArray.mk #[107, 105, 114, 107]), (ByteArray.mk #[104, 97, 114]), (ByteArray.mk #[119, 105, 99, 107]), (ByteArray.mk #[101, 108, 121]), (ByteArray.mk #[111, 115]), (ByteArray.mk #[108, 111]), (ByteArray.mk #[98, 114, 105, 103]), (ByteArray.mk #[109, 97]), (ByteArray.mk #[114, 105]), (ByteArray.mk #[110, 97]), (ByteArray.mk #[115, 116]), (ByteArray.mk #[97, 101])] : List ByteArray).length (([(ByteArray.mk #[97, 115, 104]), (ByteArray.mk #[102, 111, 114, 100]), (ByteArray.mk #[116, 111, 110]), (ByteArray.mk #[98, 121]), (ByteArray.mk #[107, 105, 114, 107]), (ByteArray.mk #[104, 97, 114]), (ByteArray.mk #[119, 105, 99, 107]), (ByteArray.mk #[101, 108, 121]), (ByteArray.mk #[111, 115]), (ByteArray.mk #[108, 111]), (ByteArray.mk #[98, 114, 105, 103]), (ByteArray.mk #[109, 97]), (ByteArray.mk #[114, 105]), (ByteArray.mk #[110, 97]), (ByteArray.mk #[115, 116]), (ByteArray.mk #[97, 101])] : List ByteArray).map eS)), (1000000, .box [vl (eI .u8) x8.2.code, vi x8.2.at', vi x8.2.seed])]⟩ ?_
  refine SRun.nil ?_
  replace h := Option.some.inj h
  subst h
  exact q_bn (q_j (Le.sub0))
  refine swp_reg ?_
  refine SRun.ck tbokGD 3 ⟨24, [(0, .ref 1000000 0), (3, .own 3), (4, vs j6.1), (5, vi (w64 (s4.2.1 - 1)))], [(3, .arr 9 1 ([(ByteArray.mk #[97, 115, 104]), (ByteArray.mk #[102, 111, 114, 100]), (ByteArray.mk #[116, 111, 110]), (ByteArray.mk #[98, 121]), (ByteArray.mk #[107, 105, 114, 107]), (ByteArray.mk #[104, 97, 114]), (ByteArray.mk #[119, 105, 99, 107]), (ByteArray.mk #[101, 108, 121]), (ByteArray.mk #[111, 115]), (ByteArray.mk #[108, 111]), (ByteArray.mk #[98, 114, 105, 103]), (ByteArray.mk #[109, 97]), (ByteArray.mk #[114, 105]), (ByteArray.mk #[110, 97]), (ByteArray.mk #[115, 116]), (ByteArray.mk #[97, 101])] : List ByteArray).length (([(ByteArray.mk #[97, 115, 104]), (ByteArray.mk #[102, 111, 114, 100]), (ByteArray.mk #[116, 111, 110]), (ByteArray.mk #[98, 121]), (ByteArray.mk #[107, 105, 114, 107]), (ByteArray.mk #[104, 97, 114]), (ByteArray.mk #[119, 105, 99, 107]), (ByteArray.mk #[101, 108, 121]), (ByteArray.mk #[111, 115]), (ByteArray.mk #[108, 111]), (ByteArray.mk #[98, 114, 105, 103]), (ByteArray.mk #[109, 97]), (ByteArray.mk #[114, 105]), (ByteArray.mk #[110, 97]), (ByteArray.mk #[115, 116]), (ByteArray.mk #[97, 101])] : List ByteArray).map eS)), (1000000, .box [vl (eI .u8) j6.2.code, vi j6.2.at', vi j6.2.seed])]⟩ ?_
  refine SRun.nil ?_
  replace h := Option.some.inj h
  subst h
  exact q_l (Le.sub0)
  replace h := cond_f hb h
  refine swp_exit ?_
  replace h := Option.some.inj h
  subst h
  exact nx_e (q_re (q_bh (q_j (Le.sub0))))
  refine swp_seq ?_
  refine swp_reg ?_
  refine SRun.ck tbokGD 2 ⟨24, [(2, vs j2.1)], [(1000000, .box [vl (eI .u8) j2.2.code, vi j2.2.at', vi j2.2.seed])]⟩ ?_
  refine SRun.nil ?_
  refine nx_n ?_
  refine swp_ret ?_
  replace h := Option.some.inj h
  subst h
  exact q_fr (fin_io (fin1 (by kernel_rfl) (finV rfl SV.flat_of (holds_t (by kernel_rfl)))) (y := .box [vl (eI .u8) j2.2.code, vi j2.2.at', vi j2.2.seed]) (by kernel_rfl) rfl (by kernel_rfl) (by kernel_rfl))
theorem ents100 : Ents Tryd.prog 100 := ents_of Tryd.func100 (by kernel_rfl) rfl
noncomputable def spec_l01DrawWord (aS : l01Source) : Option (ByteArray × l01Source) :=
  ((spec_l01Next aS 30).bind fun x1 => (bif (x1.1 == 0) then ((spec_l01Next x1.2 6).bind fun x2 => ((at' ([(ByteArray.mk #[]), (ByteArray.mk #[70, 111, 114, 100]), (ByteArray.mk #[97, 49]), (ByteArray.mk #[97, 98, 99, 100, 101, 102, 103, 104, 105, 106, 107, 108, 109, 110, 111, 112]), (ByteArray.mk #[97, 98, 99, 100, 101, 102, 103, 104, 105, 106, 107, 108, 109, 110, 111, 112, 113]), (ByteArray.mk #[97, 32, 98])] : List ByteArray) x2.1).bind fun x3 => some (x3, x2.2))) else ((spec_l01Good x1.2).bind fun x4 => some (x4.1, x4.2))))
set_option maxRecDepth 100000 in
set_option maxHeartbeats 4000000 in
theorem spec_l01DrawWord_run (aS : l01Source) (r : ByteArray × l01Source) (h : spec_l01DrawWord aS = some r) : SCall Tryd.prog 94 [.o (.box [vl (eI .u8) aS.code, vi aS.at', vi aS.seed])] ⟨[.v (vs r.1)], [(0, .box [vl (eI .u8) r.2.code, vi r.2.at', vi r.2.seed])], false⟩ := by
  refine scall_in Tryd.func94 rfl [(.tmp 2)] rfl (fun r => ⟨[.v (vs r.1)], [(0, .box [vl (eI .u8) r.2.code, vi r.2.at', vi r.2.seed])], false⟩) (r := r) ?_
  unfold spec_l01DrawWord at h
  refine swp_seq ?_
  refine swp_reg ?_
  refine SRun.ck tbokGD 1 ⟨13, [(0, .ref 1000000 0)], [(1000000, .box [vl (eI .u8) aS.code, vi aS.at', vi aS.seed])]⟩ ?_
  refine SRun.nil ?_
  refine nx_n ?_
  refine swp_seq ?_
  refine swp_seq ?_
  refine swp_reg ?_
  refine SRun.ck tbokGD 1 ⟨13, [(0, .ref 1000000 0), (3, .ref 1000000 0)], [(1000000, .box [vl (eI .u8) aS.code, vi aS.at', vi aS.seed])]⟩ ?_
  obtain ⟨x1, hx1, h⟩ := bind_some h
  refine SRun.estep (x_estep_call (f := 80) (caps := []) (xs := [.ref 1000000 0, vi 30]) (pre := []) (post := [vi 30]) (qs := [vi 30]) (z := .ref 1000000 0) (d := 1000000) (pl := 0) (y := .box [vl (eI .u8) aS.code, vi aS.at', vi aS.seed]) (y' := .box [vl (eI .u8) x1.2.code, vi x1.2.at', vi x1.2.seed]) (res := ⟨[.v (vi x1.1)], [(0, .box [vl (eI .u8) x1.2.code, vi x1.2.at', vi x1.2.seed])], false⟩) (x := vi x1.1) (yo := none) rfl rfl rfl rfl rfl ents80 (spec_l01Next_run aS 30 _ hx1) rfl rfl false (fun _ => rfl) (by intro hc; cases hc)) ?_
  refine SRun.ck tbokGD 1 ⟨13, [(0, .ref 1000000 0), (5, vb (x1.1 == 0))], [(1000000, .box [vl (eI .u8) x1.2.code, vi x1.2.at', vi x1.2.seed])]⟩ ?_
  refine SRun.nil ?_
  refine nx_n ?_
  refine swp_cond (b := (x1.1 == 0)) (by kernel_rfl) (fun hb => ?_) (fun hb => ?_)
  replace h := cond_t hb h
  refine swp_seq ?_
  refine swp_reg ?_
  refine SRun.ck tbokGD 2 ⟨13, [(6, .own 6), (7, .ref 1000000 0)], [(6, .arr 9 1 ([(ByteArray.mk #[]), (ByteArray.mk #[70, 111, 114, 100]), (ByteArray.mk #[97, 49]), (ByteArray.mk #[97, 98, 99, 100, 101, 102, 103, 104, 105, 106, 107, 108, 109, 110, 111, 112]), (ByteArray.mk #[97, 98, 99, 100, 101, 102, 103, 104, 105, 106, 107, 108, 109, 110, 111, 112, 113]), (ByteArray.mk #[97, 32, 98])] : List ByteArray).length (([(ByteArray.mk #[]), (ByteArray.mk #[70, 111, 114, 100]), (ByteArray.mk #[97, 49]), (ByteArray.mk #[97, 98, 99, 100, 101, 102, 103, 104, 105, 106, 107, 108, 109, 110, 111, 112]), (ByteArray.mk #[97, 98, 99, 100, 101, 102, 103, 104, 105, 106, 107, 108, 109, 110, 111, 112, 113]), (ByteArray.mk #[97, 32, 98])] : List ByteArray).map eS)), (1000000, .box [vl (eI .u8) x1.2.code, vi x1.2.at', vi x1.2.seed])]⟩ ?_
  obtain ⟨x2, hx2, h⟩ := bind_some h
  refine SRun.estep (x_estep_call (f := 80) (caps := []) (xs := [.ref 1000000 0, vi 6]) (pre := []) (post := [vi 6]) (qs := [vi 6]) (z := .ref 1000000 0) (d := 1000000) (pl := 0) (y := .box [vl (eI .u8) x1.2.code, vi x1.2.at', vi x1.2.seed]) (y' := .box [vl (eI .u8) x2.2.code, vi x2.2.at', vi x2.2.seed]) (res := ⟨[.v (vi x2.1)], [(0, .box [vl (eI .u8) x2.2.code, vi x2.2.at', vi x2.2.seed])], false⟩) (x := vi x2.1) (yo := none) rfl rfl rfl rfl rfl ents80 (spec_l01Next_run x1.2 6 _ hx2) rfl rfl false (fun _ => rfl) (by intro hc; cases hc)) ?_
  obtain ⟨x3, hx3, h⟩ := bind_some h
  refine SRun.ls (x_index_own (d := 6) (L := ([(ByteArray.mk #[]), (ByteArray.mk #[70, 111, 114, 100]), (ByteArray.mk #[97, 49]), (ByteArray.mk #[97, 98, 99, 100, 101, 102, 103, 104, 105, 106, 107, 108, 109, 110, 111, 112]), (ByteArray.mk #[97, 98, 99, 100, 101, 102, 103, 104, 105, 106, 107, 108, 109, 110, 111, 112, 113]), (ByteArray.mk #[97, 32, 98])] : List ByteArray)) (f := eS) (ti := ti105) (tj := ti9) (e := 9) (e' := 9) (m := 1) (k := .i64) tbokGD rfl hx3) ?_
  refine SRun.ls (x_load_own (d := 6) (m := 1) (j := 0) (L := ([(ByteArray.mk #[]), (ByteArray.mk #[70, 111, 114, 100]), (ByteArray.mk #[97, 49]), (ByteArray.mk #[97, 98, 99, 100, 101, 102, 103, 104, 105, 106, 107, 108, 109, 110, 111, 112]), (ByteArray.mk #[97, 98, 99, 100, 101, 102, 103, 104, 105, 106, 107, 108, 109, 110, 111, 112, 113]), (ByteArray.mk #[97, 32, 98])] : List ByteArray)) (f := eS) (ti := ti9) (e := 9) (v := vs x3) tbokGD rfl hx3) ?_
  refine SRun.ck tbokGD 1 ⟨13, [(2, vs x3)], [(1000000, .box [vl (eI .u8) x2.2.code, vi x2.2.at', vi x2.2.seed])]⟩ ?_
  refine SRun.nil ?_
  refine nx_n ?_
  refine swp_ret ?_
  replace h := Option.some.inj h
  subst h
  exact nx_r (q_fr (fin_io (fin1 (by kernel_rfl) (finV rfl SV.flat_of (holds_t (by kernel_rfl)))) (y := .box [vl (eI .u8) x2.2.code, vi x2.2.at', vi x2.2.seed]) (by kernel_rfl) rfl (by kernel_rfl) (by kernel_rfl)))
  replace h := cond_f hb h
  refine swp_skip ?_
  refine nx_n ?_
  refine swp_seq ?_
  refine swp_reg ?_
  refine SRun.ck tbokGD 1 ⟨13, [(11, .ref 1000000 0)], [(1000000, .box [vl (eI .u8) x1.2.code, vi x1.2.at', vi x1.2.seed])]⟩ ?_
  obtain ⟨x4, hx4, h⟩ := bind_some h
  refine SRun.estep (x_estep_call (f := 100) (caps := []) (xs := [.ref 1000000 0]) (pre := []) (post := []) (qs := []) (z := .ref 1000000 0) (d := 1000000) (pl := 0) (y := .box [vl (eI .u8) x1.2.code, vi x1.2.at', vi x1.2.seed]) (y' := .box [vl (eI .u8) x4.2.code, vi x4.2.at', vi x4.2.seed]) (res := ⟨[.v (vs x4.1)], [(0, .box [vl (eI .u8) x4.2.code, vi x4.2.at', vi x4.2.seed])], false⟩) (x := vs x4.1) (yo := none) rfl rfl rfl rfl rfl ents100 (spec_l01Good_run x1.2 _ hx4) rfl rfl false (fun _ => rfl) (by intro hc; cases hc)) ?_
  refine SRun.ck tbokGD 1 ⟨13, [(2, vs x4.1)], [(1000000, .box [vl (eI .u8) x4.2.code, vi x4.2.at', vi x4.2.seed])]⟩ ?_
  refine SRun.nil ?_
  refine nx_n ?_
  refine swp_ret ?_
  replace h := Option.some.inj h
  subst h
  exact q_fr (fin_io (fin1 (by kernel_rfl) (finV rfl SV.flat_of (holds_t (by kernel_rfl)))) (y := .box [vl (eI .u8) x4.2.code, vi x4.2.at', vi x4.2.seed]) (by kernel_rfl) rfl (by kernel_rfl) (by kernel_rfl))
theorem ents94 : Ents Tryd.prog 94 := ents_of Tryd.func94 (by kernel_rfl) rfl
end Go.Proofs.YtmbejkchgdcdhaaDoor.Sh
