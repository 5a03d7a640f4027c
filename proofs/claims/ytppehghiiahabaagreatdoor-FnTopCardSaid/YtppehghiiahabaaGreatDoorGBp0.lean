/- Typed functions and the calls that do what they say. -/
import Derived.Test.YtppehghiiahabaaGreatDoorSB
import Derived.Test.YtppehghiiahabaaGreatDoorFB
import Derived.Test.YtppehghiiahabaaGreatDoorKA
import Derived.Test.YtppehghiiahabaaGreatDoorKO
import Derived.Test.YtppehghiiahabaaGreatDoorKQ
import Derived.Test.YtppehghiiahabaaGreatDoorKS
import Derived.Test.YtppehghiiahabaaGreatDoorSF
import Derived.Test.YtppehghiiahabaaGreatDoorH1
import Derived.Test.YtppehghiiahabaaGreatDoorGA
namespace Go.Proofs.YtppehghiiahabaaGreatDoor.Sh
open Go.RowKit
set_option maxRecDepth 100000
set_option maxHeartbeats 4000000
structure l01Source where
  code : (List Int)
  at' : Int
  seed : Int
def el01Source (x : l01Source) : List Tr := [.sl x.code.length (x.code.map (eI .u8)), .int .i64 x.at', .int .i64 x.seed]
def ti22 : TI := ⟨1, 24, .slice 5, [.sl ([] : List Int).length (([] : List Int).map (eI .u8))]⟩
def ti58 : TI := ⟨4, 48, .struct [(0, 2), (1, 9), (2, 9), (3, 2)], [.int .i64 0, .str (ByteArray.mk #[]), .str (ByteArray.mk #[]), .int .i64 0]⟩
def ti92 : TI := ⟨3, 40, .struct [(0, 22), (1, 3), (2, 2)], [.sl ([] : List Int).length (([] : List Int).map (eI .u8)), .int .i64 0, .int .i64 0]⟩
def tblGB : Tb := [(2, ti2), (3, ti3), (4, ti4), (5, ti5), (9, ti9), (22, ti22), (24, ti24), (26, ti26), (35, ti35), (40, ti40), (42, ti42), (52, ti52), (58, ti58), (92, ti92), (101, ti101)]
theorem tbokGB : TbOk Tryz.prog tblGB := TbOk.cons ⟨by kernel_rfl, show Tryz.prog.underlying 2 = some (.int .i64) from by kernel_rfl⟩ (TbOk.cons ⟨by kernel_rfl, show Tryz.prog.underlying 3 = some (.int .i64) from by kernel_rfl⟩ (TbOk.cons ⟨by kernel_rfl, show Tryz.prog.underlying 4 = some (.bool) from by kernel_rfl⟩ (TbOk.cons ⟨by kernel_rfl, show Tryz.prog.underlying 5 = some (.int .u8) from by kernel_rfl⟩ (TbOk.cons ⟨by kernel_rfl, show Tryz.prog.underlying 9 = some (.string) from by kernel_rfl⟩ (TbOk.cons ⟨by kernel_rfl, show Tryz.prog.underlying 22 = some (.slice 5) from by kernel_rfl⟩ (TbOk.cons ⟨by kernel_rfl, show Tryz.prog.underlying 24 = some (.slice 42) from by kernel_rfl⟩ (TbOk.cons ⟨by kernel_rfl, show Tryz.prog.underlying 26 = some (.slice 2) from by kernel_rfl⟩ (TbOk.cons ⟨by kernel_rfl, show Tryz.prog.underlying 35 = some (.slice 26) from by kernel_rfl⟩ (TbOk.cons ⟨by kernel_rfl, show structOf Tryz.prog 40 = some [(0, 2), (1, 2)] from by kernel_rfl⟩ (TbOk.cons ⟨by kernel_rfl, show structOf Tryz.prog 42 = some [(0, 9), (1, 2), (2, 9), (3, 9), (4, 40), (6, 2)] from by kernel_rfl⟩ (TbOk.cons ⟨by kernel_rfl, show Tryz.prog.underlying 52 = some (.slice 9) from by kernel_rfl⟩ (TbOk.cons ⟨by kernel_rfl, show structOf Tryz.prog 58 = some [(0, 2), (1, 9), (2, 9), (3, 2)] from by kernel_rfl⟩ (TbOk.cons ⟨by kernel_rfl, show structOf Tryz.prog 92 = some [(0, 22), (1, 3), (2, 2)] from by kernel_rfl⟩ (TbOk.cons ⟨by kernel_rfl, show Tryz.prog.underlying 101 = some (.slice 4) from by kernel_rfl⟩ (TbOk.nil _)))))))))))))))
theorem ents165 : Ents Tryz.prog 165 := ents_of Tryz.func165 (by kernel_rfl) rfl
noncomputable def laws_big (aCode : (List Int)) : Option (Bool) :=
  some (decide ((aCode.length : Int) > 4096))
theorem laws_big_run (aCode : (List Int)) (r : Bool) (h : laws_big aCode = some r) : SCall Tryz.prog 7 [.v (vl (eI .u8) aCode)] ⟨[.v (vb r)], [], false⟩ := by
  refine scall_in Tryz.func7 rfl [(.tmp 2)] rfl (fun r => ⟨[.v (vb r)], [], false⟩) (r := r) ?_
  unfold laws_big at h
  refine srk tbokGB ⟨6, [(0, vl (eI .u8) aCode)], []⟩ ?_
  refine srk tbokGB ⟨6, [(2, vb (decide ((aCode.length : Int) > 4096)))], []⟩ ?_
  refine swp_ret ?_
  obtain rfl := inj h
  exact q_fr (f1 fv)
theorem ents7 : Ents Tryz.prog 7 := ents_of Tryz.func7 (by kernel_rfl) rfl
noncomputable def spec_l01From (aCode : (List Int)) : Option (l01Source) :=
  (((forH (fun (i3 : Int) (_ : l01Source) => ((decide (i3 < (aCode.length : Int))) && (decide (i3 < 64)))) (fun (i3 : Int) (s3 : l01Source) => ((at' aCode i3).bind fun x7 => some (l01Source.mk s3.code s3.at' (Int.tmod (w64 ((w64 (s3.seed * 73)) + (w64 x7))) 2147483647)))) (fun (s3 : l01Source) => s3) 0 (l01Source.mk aCode 0 51031))).bind fun (j1 : l01Source) => some j1)
theorem spec_l01From_run (aCode : (List Int)) (r : l01Source) (h : spec_l01From aCode = some r) : SCall Tryz.prog 33 [.v (vl (eI .u8) aCode)] ⟨[.box [vl (eI .u8) r.code, vi r.at', vi r.seed]], [], true⟩ := by
  refine scall_in Tryz.func33 rfl [(.tmp 2)] rfl (fun r => ⟨[.box [vl (eI .u8) r.code, vi r.at', vi r.seed]], [], true⟩) (r := r) ?_
  unfold spec_l01From at h
  refine sr ?_
  refine SRun.ls (x_lstep_skip rfl) ?_
  refine SRun.nx ?_
  refine sr ?_
  refine SRun.ck tbokGB 1 ⟨34, [(0, vl (eI .u8) aCode), (5, vl (eI .u8) aCode)], []⟩ ?_
  refine SRun.ls (x_lstep_build (v := .agg [vl (eI .u8) aCode, vi 0, vi 51031]) tbokGB rfl) ?_
  refine ckn tbokGB 2 ⟨34, [(0, vl (eI .u8) aCode), (3, .ref 7 0)], [(7, .box [vl (eI .u8) aCode, vi 0, vi 51031])]⟩ ?_
  refine swp_seq ?_
  refine srk tbokGB ⟨34, [(0, vl (eI .u8) aCode), (3, .ref 7 0), (4, vi 0)], [(7, .box [vl (eI .u8) aCode, vi 0, vi 51031])]⟩ ?_
  refine swp_seqJ h (fun j1 => ⟨34, [(3, .ref 7 0)], [(7, .box (tc el01Source j1))]⟩) (fun v2 h => ?_) (fun j1 h => ?_)
  refine swp_blk (a := v2) ?_
  refine swp_lpL (r := v2) (s := (0, (l01Source.mk aCode 0 51031))) _ (fun s3 => ⟨34, [(0, vl (eI .u8) aCode), (3, .ref 7 0), (4, vi s3.1)], [(7, .box (tc el01Source s3.2))]⟩) _ (Le.sub0) h (fun s3 v4 h => ?_)
  refine swp_seq ?_
  refine swp_seq ?_
  refine swp_regP ⟨34, [(0, vl (eI .u8) aCode), (3, .ref 7 0), (4, vi s3.1), (15, vb ((decide (s3.1 < (aCode.length : Int))) && (decide (s3.1 < 64))))], [(7, .box (tc el01Source s3.2))]⟩ ?_ ?_
  refine SRun.ck tbokGB 5 ⟨34, [(0, vl (eI .u8) aCode), (3, .ref 7 0), (4, vi s3.1), (12, vb (decide (s3.1 < (aCode.length : Int))))], [(7, .box (tc el01Source s3.2))]⟩ ?_
  generalize (decide (s3.1 < (aCode.length : Int))) = bb
  cases bb
  refine SRun.ck tbokGB 3 ⟨34, [(0, vl (eI .u8) aCode), (3, .ref 7 0), (4, vi s3.1), (15, vb false)], [(7, .box (tc el01Source s3.2))]⟩ ?_
  exact SRun.nil (Le.sub0)
  refine SRun.ck tbokGB 3 ⟨34, [(0, vl (eI .u8) aCode), (3, .ref 7 0), (4, vi s3.1), (15, vb (decide (s3.1 < 64)))], [(7, .box (tc el01Source s3.2))]⟩ ?_
  exact SRun.nil (Le.sub0)
  refine swp_cd h (fun h => ?_) fun h => ?_
  refine swp_skip ?_
  refine nx_n ?_
  refine swp_seq ?_
  refine swp_seqJ h (fun j5 => ⟨34, [(0, vl (eI .u8) aCode), (3, .ref 7 0), (4, vi s3.1)], [(7, .box (tc el01Source j5))]⟩) (fun v6 h => ?_) (fun j5 h => ?_)
  refine swp_blk (a := v6) ?_
  refine swp_dr mixed ?_
  refine DGo.ck tbokGB false 8 ⟨34, [(0, vl (eI .u8) aCode), (3, .ref 7 0), (4, vi s3.1), (18, .ref 7 0), (23, vi (w64 (s3.2.seed * 73))), (24, vl (eI .u8) aCode), (25, vi s3.1)], [(7, .box (tc el01Source s3.2))]⟩ ?_
  obtain ⟨x7, hx7, h⟩ := bind_some h
  refine DGo.step (x_index (L := aCode) (f := (eI .u8)) (ti := ti22) (tj := ti5) (e := 5) (k := .i64) tbokGB rfl hx7) ?_
  refine DGo.ck tbokGB false 6 ⟨34, [(0, vl (eI .u8) aCode), (3, .ref 7 0), (4, vi s3.1), (30, vi (Int.tmod (w64 ((w64 (s3.2.seed * 73)) + (w64 x7))) 2147483647)), (32, .ref 7 2)], [(7, .box (tc el01Source s3.2))]⟩ ?_
  refine DGo.seq (by kernel_rfl) (by kernel_rfl) ?_
  refine SRun.ck tbokGB 1 ⟨34, [(0, vl (eI .u8) aCode), (3, .ref 7 0), (4, vi s3.1)], [(7, .box [vl (eI .u8) s3.2.code, vi s3.2.at', vi (Int.tmod (w64 ((w64 (s3.2.seed * 73)) + (w64 x7))) 2147483647)])]⟩ ?_
  refine SRun.nil ?_
  obtain rfl := inj h
  exact q_bn (q_j (Le.sub0))
  refine swp_reg ?_
  refine SRun.ck tbokGB 3 ⟨34, [(0, vl (eI .u8) aCode), (3, .ref 7 0), (4, vi (w64 (s3.1 + 1)))], [(7, .box (tc el01Source j5))]⟩ ?_
  refine SRun.nil ?_
  obtain rfl := inj h
  exact q_l (Le.sub0)
  refine swp_exit ?_
  obtain rfl := inj h
  exact nx_e (q_re (q_bh (q_j (Le.sub0))))
  refine srk tbokGB ⟨34, [(2, .ref 7 0)], [(7, .box (tc el01Source j1))]⟩ ?_
  refine swp_ret ?_
  obtain rfl := inj h
  exact q_fr (f1 (finBT (d := 7) (holds_t (by kernel_rfl)) (by kernel_rfl) rfl (by kernel_rfl)))
theorem ents33 : Ents Tryz.prog 33 := ents_of Tryz.func33 (by kernel_rfl) rfl
noncomputable def spec_l01Next (aS : l01Source) (aN : Int) : Option (Int × l01Source) :=
  (bif (decide (aN ≤ 1)) then some (0, aS) else (((bif (decide (aS.at' < (aS.code.length : Int))) then ((at' aS.code aS.at').bind fun x3 => (bif ((decide (aN ≤ 256)) && ((Int.tmod (w64 (aS.at' + 1)) 2) == 0)) then ((at' aS.code (w64 ((w64 (aS.at' + 1)) - 1))).bind fun x4 => some ((w64 x4), (l01Source.mk aS.code (w64 (aS.at' + 1)) (Int.tmod (w64 ((w64 (aS.seed * 48271)) + 29)) 2147483647)))) else some ((w64 ((w64 (Int.tdiv (Int.tmod (w64 ((w64 (aS.seed * 48271)) + 29)) 2147483647) 31)) + (w64 x3))), (l01Source.mk aS.code (w64 (aS.at' + 1)) (Int.tmod (w64 ((w64 (aS.seed * 48271)) + 29)) 2147483647))))) else some ((w64 (Int.tdiv (Int.tmod (w64 ((w64 (aS.seed * 48271)) + 29)) 2147483647) 31)), (l01Source.mk aS.code aS.at' (Int.tmod (w64 ((w64 (aS.seed * 48271)) + 29)) 2147483647))))).bind fun (j1 : Int × l01Source) => ((nz' aN).bind fun _ => some ((Int.tmod j1.1 aN), j1.2))))
theorem spec_l01Next_run (aS : l01Source) (aN : Int) (r : Int × l01Source) (h : spec_l01Next aS aN = some r) : SCall Tryz.prog 62 [.o (.box [vl (eI .u8) aS.code, vi aS.at', vi aS.seed]), .v (vi aN)] ⟨[.v (vi r.1)], [(0, .box (tc el01Source r.2))], false⟩ := by
  refine scall_in Tryz.func62 rfl [(.tmp 4)] rfl (fun r => ⟨[.v (vi r.1)], [(0, .box (tc el01Source r.2))], false⟩) (r := r) ?_
  unfold spec_l01Next at h
  refine srk tbokGB ⟨78, [(0, .ref 1000000 0), (1, vi aN)], [(1000000, .box (tc el01Source aS))]⟩ ?_
  refine swp_seq ?_
  refine srk tbokGB ⟨78, [(0, .ref 1000000 0), (1, vi aN), (7, vb (decide (aN ≤ 1)))], [(1000000, .box (tc el01Source aS))]⟩ ?_
  refine swp_cd h (fun h => ?_) fun h => ?_
  refine srk tbokGB ⟨78, [(4, vi 0)], [(1000000, .box (tc el01Source aS))]⟩ ?_
  refine swp_ret ?_
  obtain rfl := inj h
  exact nx_r (q_fr (fin_io (f1 fv) (y := .box (tc el01Source aS)) (by kernel_rfl) rfl (by kernel_rfl) (by kernel_rfl)))
  refine swp_skip ?_
  refine nx_n ?_
  refine srk tbokGB ⟨78, [(0, .ref 1000000 0), (1, vi aN)], [(1000000, .box [vl (eI .u8) aS.code, vi aS.at', vi (Int.tmod (w64 ((w64 (aS.seed * 48271)) + 29)) 2147483647)])]⟩ ?_
  refine srk tbokGB ⟨78, [(0, .ref 1000000 0), (1, vi aN), (5, vi (w64 (Int.tdiv (Int.tmod (w64 ((w64 (aS.seed * 48271)) + 29)) 2147483647) 31)))], [(1000000, .box [vl (eI .u8) aS.code, vi aS.at', vi (Int.tmod (w64 ((w64 (aS.seed * 48271)) + 29)) 2147483647)])]⟩ ?_
  refine swp_seq ?_
  refine swp_seq ?_
  refine swp_dr mixed ?_
  refine DGo.ck tbokGB false 10 ⟨78, [(0, .ref 1000000 0), (1, vi aN), (5, vi (w64 (Int.tdiv (Int.tmod (w64 ((w64 (aS.seed * 48271)) + 29)) 2147483647) 31))), (32, vb (decide (aS.at' < (aS.code.length : Int))))], [(1000000, .box [vl (eI .u8) aS.code, vi aS.at', vi (Int.tmod (w64 ((w64 (aS.seed * 48271)) + 29)) 2147483647)])]⟩ ?_
  refine DGo.nx ?_
  refine swp_seqJ h (fun j1 => ⟨78, [(1, vi aN), (5, vi j1.1)], [(1000000, .box (tc el01Source j1.2))]⟩) (fun v2 h => ?_) (fun j1 h => ?_)
  refine swp_cd h (fun h => ?_) fun h => ?_
  refine swp_seq ?_
  refine swp_dr mixed ?_
  refine DGo.ck tbokGB false 9 ⟨78, [(0, .ref 1000000 0), (1, vi aN), (33, vi (w64 (Int.tdiv (Int.tmod (w64 ((w64 (aS.seed * 48271)) + 29)) 2147483647) 31))), (37, vl (eI .u8) aS.code), (41, vi aS.at')], [(1000000, .box [vl (eI .u8) aS.code, vi aS.at', vi (Int.tmod (w64 ((w64 (aS.seed * 48271)) + 29)) 2147483647)])]⟩ ?_
  obtain ⟨x3, hx3, h⟩ := bind_some h
  refine DGo.step (x_index (L := aS.code) (f := (eI .u8)) (ti := ti22) (tj := ti5) (e := 5) (k := .i64) tbokGB rfl hx3) ?_
  refine DGo.ck tbokGB false 4 ⟨78, [(0, .ref 1000000 0), (1, vi aN), (5, vi (w64 ((w64 (Int.tdiv (Int.tmod (w64 ((w64 (aS.seed * 48271)) + 29)) 2147483647) 31)) + (w64 x3))))], [(1000000, .box [vl (eI .u8) aS.code, vi aS.at', vi (Int.tmod (w64 ((w64 (aS.seed * 48271)) + 29)) 2147483647)])]⟩ ?_
  refine DGo.nx ?_
  refine srk tbokGB ⟨78, [(0, .ref 1000000 0), (1, vi aN), (5, vi (w64 ((w64 (Int.tdiv (Int.tmod (w64 ((w64 (aS.seed * 48271)) + 29)) 2147483647) 31)) + (w64 x3))))], [(1000000, .box [vl (eI .u8) aS.code, vi (w64 (aS.at' + 1)), vi (Int.tmod (w64 ((w64 (aS.seed * 48271)) + 29)) 2147483647)])]⟩ ?_
  refine swp_seq ?_
  refine swp_regP ⟨78, [(0, .ref 1000000 0), (1, vi aN), (5, vi (w64 ((w64 (Int.tdiv (Int.tmod (w64 ((w64 (aS.seed * 48271)) + 29)) 2147483647) 31)) + (w64 x3)))), (62, vb ((decide (aN ≤ 256)) && ((Int.tmod (w64 (aS.at' + 1)) 2) == 0)))], [(1000000, .box [vl (eI .u8) aS.code, vi (w64 (aS.at' + 1)), vi (Int.tmod (w64 ((w64 (aS.seed * 48271)) + 29)) 2147483647)])]⟩ ?_ ?_
  refine SRun.ck tbokGB 3 ⟨78, [(0, .ref 1000000 0), (1, vi aN), (5, vi (w64 ((w64 (Int.tdiv (Int.tmod (w64 ((w64 (aS.seed * 48271)) + 29)) 2147483647) 31)) + (w64 x3)))), (55, vb (decide (aN ≤ 256)))], [(1000000, .box [vl (eI .u8) aS.code, vi (w64 (aS.at' + 1)), vi (Int.tmod (w64 ((w64 (aS.seed * 48271)) + 29)) 2147483647)])]⟩ ?_
  generalize (decide (aN ≤ 256)) = bb
  cases bb
  refine SRun.ck tbokGB 7 ⟨78, [(0, .ref 1000000 0), (1, vi aN), (5, vi (w64 ((w64 (Int.tdiv (Int.tmod (w64 ((w64 (aS.seed * 48271)) + 29)) 2147483647) 31)) + (w64 x3)))), (62, vb false)], [(1000000, .box [vl (eI .u8) aS.code, vi (w64 (aS.at' + 1)), vi (Int.tmod (w64 ((w64 (aS.seed * 48271)) + 29)) 2147483647)])]⟩ ?_
  exact SRun.nil (Le.sub0)
  refine SRun.ck tbokGB 7 ⟨78, [(0, .ref 1000000 0), (1, vi aN), (5, vi (w64 ((w64 (Int.tdiv (Int.tmod (w64 ((w64 (aS.seed * 48271)) + 29)) 2147483647) 31)) + (w64 x3)))), (62, vb ((Int.tmod (w64 (aS.at' + 1)) 2) == 0))], [(1000000, .box [vl (eI .u8) aS.code, vi (w64 (aS.at' + 1)), vi (Int.tmod (w64 ((w64 (aS.seed * 48271)) + 29)) 2147483647)])]⟩ ?_
  exact SRun.nil (Le.sub0)
  refine swp_cd h (fun h => ?_) fun h => ?_
  refine swp_dr mixed ?_
  refine DGo.ck tbokGB false 9 ⟨78, [(1, vi aN), (66, vl (eI .u8) aS.code), (71, vi (w64 ((w64 (aS.at' + 1)) - 1)))], [(1000000, .box [vl (eI .u8) aS.code, vi (w64 (aS.at' + 1)), vi (Int.tmod (w64 ((w64 (aS.seed * 48271)) + 29)) 2147483647)])]⟩ ?_
  obtain ⟨x4, hx4, h⟩ := bind_some h
  refine DGo.step (x_index (L := aS.code) (f := (eI .u8)) (ti := ti22) (tj := ti5) (e := 5) (k := .i64) tbokGB rfl hx4) ?_
  refine DGo.ck tbokGB false 3 ⟨78, [(1, vi aN), (5, vi (w64 x4))], [(1000000, .box [vl (eI .u8) aS.code, vi (w64 (aS.at' + 1)), vi (Int.tmod (w64 ((w64 (aS.seed * 48271)) + 29)) 2147483647)])]⟩ ?_
  refine DGo.nil (by kernel_rfl) ?_
  obtain rfl := inj h
  exact q_j (Le.sub0)
  refine swp_skip ?_
  obtain rfl := inj h
  exact q_j (Le.sub0)
  refine swp_skip ?_
  obtain rfl := inj h
  exact q_j (Le.sub0)
  refine sr ?_
  refine SRun.ck tbokGB 2 ⟨78, [(75, vi j1.1), (76, vi aN)], [(1000000, .box (tc el01Source j1.2))]⟩ ?_
  obtain ⟨x5, hx5, h⟩ := bind_some h
  refine SRun.ls (x_lstep_quo (k := .i64) (i := j1.1) hx5 true rfl) ?_
  refine ckn tbokGB 1 ⟨78, [(4, vi (Int.tmod j1.1 aN))], [(1000000, .box (tc el01Source j1.2))]⟩ ?_
  refine swp_ret ?_
  obtain rfl := inj h
  exact q_fr (fin_io (f1 fv) (y := .box (tc el01Source j1.2)) (by kernel_rfl) rfl (by kernel_rfl) (by kernel_rfl))
theorem ents62 : Ents Tryz.prog 62 := ents_of Tryz.func62 (by kernel_rfl) rfl
noncomputable def spec_l01Pick (aS : l01Source) (aList : (List Int)) : Option (Int × l01Source) :=
  ((spec_l01Next aS (aList.length : Int)).bind fun x1 => ((at' aList x1.1).bind fun x2 => some (x2, x1.2)))
theorem spec_l01Pick_run (aS : l01Source) (aList : (List Int)) (r : Int × l01Source) (h : spec_l01Pick aS aList = some r) : SCall Tryz.prog 140 [.o (.box [vl (eI .u8) aS.code, vi aS.at', vi aS.seed]), .v (vl (eI .i64) aList)] ⟨[.v (vi r.1)], [(0, .box (tc el01Source r.2))], false⟩ := by
  refine scall_in Tryz.func140 rfl [(.tmp 4)] rfl (fun r => ⟨[.v (vi r.1)], [(0, .box (tc el01Source r.2))], false⟩) (r := r) ?_
  unfold spec_l01Pick at h
  refine srk tbokGB ⟨12, [(0, .ref 1000000 0), (1, vl (eI .i64) aList)], [(1000000, .box (tc el01Source aS))]⟩ ?_
  refine sr ?_
  refine SRun.ck tbokGB 4 ⟨12, [(5, vl (eI .i64) aList), (6, .ref 1000000 0), (8, vi (aList.length : Int))], [(1000000, .box (tc el01Source aS))]⟩ ?_
  obtain ⟨x1, hx1, h⟩ := bind_some h
  refine SRun.estep (xe ents62 (spec_l01Next_run aS (aList.length : Int) _ hx1)) ?_
  obtain ⟨x2, hx2, h⟩ := bind_some h
  refine SRun.ls (x_index (L := aList) (f := (eI .i64)) (ti := ti26) (tj := ti2) (e := 2) (k := .i64) tbokGB rfl hx2) ?_
  refine ckn tbokGB 2 ⟨12, [(4, vi x2)], [(1000000, .box (tc el01Source x1.2))]⟩ ?_
  refine swp_ret ?_
  obtain rfl := inj h
  exact q_fr (fin_io (f1 fv) (y := .box (tc el01Source x1.2)) (by kernel_rfl) rfl (by kernel_rfl) (by kernel_rfl))
theorem ents140 : Ents Tryz.prog 140 := ents_of Tryz.func140 (by kernel_rfl) rfl
noncomputable def spec_l20Good (aS : l01Source) : Option (Claim × l01Source) :=
  ((spec_l01Next aS 4).bind fun x1 => ((at' ([(ByteArray.mk #[97, 116, 108, 97, 115]), (ByteArray.mk #[99, 104, 97, 114, 116, 101, 114]), (ByteArray.mk #[100, 105, 97, 114, 121]), (ByteArray.mk #[114, 111, 108, 108])] : List ByteArray) x1.1).bind fun x2 => ((spec_l01Pick x1.2 ([0, 0, 1, 1, 2, 3] : List Int)).bind fun x3 => ((spec_l01Next x3.2 3).bind fun x4 => ((at' ([(ByteArray.mk #[97, 115, 104]), (ByteArray.mk #[98, 114, 105, 103]), (ByteArray.mk #[99, 111, 114, 107])] : List ByteArray) x4.1).bind fun x5 => ((spec_l01Next x4.2 60).bind fun x6 => ((spec_l01Next x6.2 9).bind fun x7 => ((spec_l01Next x7.2 60).bind fun x8 => (((bif (x3.1 == 0) then ((spec_l01Next x8.2 3).bind fun x11 => ((at' ([(ByteArray.mk #[111, 108, 100, 32, 97, 115, 104]), (ByteArray.mk #[110, 101, 119, 116, 111, 110]), (ByteArray.mk #[97, 115, 104, 98, 121])] : List ByteArray) x11.1).bind fun x12 => some ((Claim.mk x2 x3.1 x5 x12 (Span.mk (w64 (1200 + x6.1)) (w64 ((w64 (1200 + x6.1)) + x8.1))) (w64 (1 + x7.1))), x11.2))) else (bif (x3.1 == 1) then ((spec_l01Next x8.2 4).bind fun x13 => ((at' ([(ByteArray.mk #[97, 115, 104]), (ByteArray.mk #[98, 114, 105, 103]), (ByteArray.mk #[99, 111, 114, 107]), (ByteArray.mk #[100, 101, 118, 97])] : List ByteArray) x13.1).bind fun x14 => (bif (x14.toList == x5.toList) then some ((Claim.mk x2 x3.1 x5 (ByteArray.mk #[100, 101, 118, 97]) (Span.mk (w64 (1200 + x6.1)) (w64 ((w64 (1200 + x6.1)) + x8.1))) (w64 (1 + x7.1))), x13.2) else some ((Claim.mk x2 x3.1 x5 x14 (Span.mk (w64 (1200 + x6.1)) (w64 ((w64 (1200 + x6.1)) + x8.1))) (w64 (1 + x7.1))), x13.2)))) else some ((Claim.mk x2 x3.1 x5 (ByteArray.mk #[]) (Span.mk (w64 (1200 + x6.1)) (w64 ((w64 (1200 + x6.1)) + x8.1))) (w64 (1 + x7.1))), x8.2)))).bind fun (j9 : Claim × l01Source) => some (j9.1, j9.2))))))))))
theorem spec_l20Good_run (aS : l01Source) (r : Claim × l01Source) (h : spec_l20Good aS = some r) : SCall Tryz.prog 115 [.o (.box [vl (eI .u8) aS.code, vi aS.at', vi aS.seed])] ⟨[.v (.agg (tc eClaim r.1))], [(0, .box (tc el01Source r.2))], false⟩ := by
  refine scall_in Tryz.func115 rfl [(.cell 2 42)] rfl (fun r => ⟨[.v (.agg (tc eClaim r.1))], [(0, .box (tc el01Source r.2))], false⟩) (r := r) ?_
  unfold spec_l20Good at h
  refine srk tbokGB ⟨60, [(0, .ref 1000000 0), (2, .ref 2 0)], [(2, .box [vs (ByteArray.mk #[]), vi 0, vs (ByteArray.mk #[]), vs (ByteArray.mk #[]), vi 0, vi 0, vi 0]), (1000000, .box (tc el01Source aS))]⟩ ?_
  refine srk tbokGB ⟨60, [(0, .ref 1000000 0), (2, .ref 2 0), (3, .own 5)], [(2, .box [vs (ByteArray.mk #[]), vi 0, vs (ByteArray.mk #[]), vs (ByteArray.mk #[]), vi 0, vi 0, vi 0]), (5, oa 9 1 eS ([(ByteArray.mk #[97, 115, 104]), (ByteArray.mk #[98, 114, 105, 103]), (ByteArray.mk #[99, 111, 114, 107])] : List ByteArray)), (1000000, .box (tc el01Source aS))]⟩ ?_
  refine swp_seq ?_
  refine swp_drD [1000000] mixed ?_
  refine DGo.ck tbokGB false 2 ⟨60, [(0, .ref 1000000 0), (2, .ref 2 0), (3, .own 5), (6, .own 6), (7, .ref 1000000 0)], [(2, .box [vs (ByteArray.mk #[]), vi 0, vs (ByteArray.mk #[]), vs (ByteArray.mk #[]), vi 0, vi 0, vi 0]), (5, oa 9 1 eS ([(ByteArray.mk #[97, 115, 104]), (ByteArray.mk #[98, 114, 105, 103]), (ByteArray.mk #[99, 111, 114, 107])] : List ByteArray)), (6, oa 9 1 eS ([(ByteArray.mk #[97, 116, 108, 97, 115]), (ByteArray.mk #[99, 104, 97, 114, 116, 101, 114]), (ByteArray.mk #[100, 105, 97, 114, 121]), (ByteArray.mk #[114, 111, 108, 108])] : List ByteArray)), (1000000, .box (tc el01Source aS))]⟩ ?_
  obtain ⟨x1, hx1, h⟩ := bind_some h
  refine DGo.write [] (xw ents62 (spec_l01Next_run aS 4 _ hx1)) ?_
  obtain ⟨x2, hx2, h⟩ := bind_some h
  refine DGo.stepW false [6] (x_index_own (d := 6) (L := ([(ByteArray.mk #[97, 116, 108, 97, 115]), (ByteArray.mk #[99, 104, 97, 114, 116, 101, 114]), (ByteArray.mk #[100, 105, 97, 114, 121]), (ByteArray.mk #[114, 111, 108, 108])] : List ByteArray)) (f := eS) (ti := ti52) (tj := ti9) (e := 9) (e' := 9) (m := 1) (k := .i64) tbokGB rfl hx2) ?_
  refine DGo.stepW false [6] (x_load_own (d := 6) (m := 1) (j := 0) (L := ([(ByteArray.mk #[97, 116, 108, 97, 115]), (ByteArray.mk #[99, 104, 97, 114, 116, 101, 114]), (ByteArray.mk #[100, 105, 97, 114, 121]), (ByteArray.mk #[114, 111, 108, 108])] : List ByteArray)) (f := eS) (ti := ti9) (e := 9) (v := vs x2) tbokGB rfl hx2) ?_
  refine DGo.ck tbokGB false 1 ⟨60, [(0, .ref 1000000 0), (2, .ref 2 0), (3, .own 5), (10, vs x2), (11, .ref 1000000 0)], [(2, .box [vs (ByteArray.mk #[]), vi 0, vs (ByteArray.mk #[]), vs (ByteArray.mk #[]), vi 0, vi 0, vi 0]), (5, oa 9 1 eS ([(ByteArray.mk #[97, 115, 104]), (ByteArray.mk #[98, 114, 105, 103]), (ByteArray.mk #[99, 111, 114, 107])] : List ByteArray)), (1000000, .box (tc el01Source x1.2))]⟩ ?_
  refine DGo.step (x_frz tbokGB (d := 12) (e := 2) (m := 1) (([0, 0, 1, 1, 2, 3] : List Int).length) (([0, 0, 1, 1, 2, 3] : List Int).map (eI .i64))) ?_
  obtain ⟨x3, hx3, h⟩ := bind_some h
  refine DGo.write [] (xw ents140 (spec_l01Pick_run x1.2 ([0, 0, 1, 1, 2, 3] : List Int) _ hx3)) ?_
  refine DGo.ck tbokGB false 2 ⟨60, [(0, .ref 1000000 0), (2, .ref 2 0), (10, vs x2), (13, vi x3.1), (14, .own 5), (15, .ref 1000000 0)], [(2, .box [vs (ByteArray.mk #[]), vi 0, vs (ByteArray.mk #[]), vs (ByteArray.mk #[]), vi 0, vi 0, vi 0]), (5, oa 9 1 eS ([(ByteArray.mk #[97, 115, 104]), (ByteArray.mk #[98, 114, 105, 103]), (ByteArray.mk #[99, 111, 114, 107])] : List ByteArray)), (1000000, .box (tc el01Source x3.2))]⟩ ?_
  obtain ⟨x4, hx4, h⟩ := bind_some h
  refine DGo.write [] (xw ents62 (spec_l01Next_run x3.2 3 _ hx4)) ?_
  obtain ⟨x5, hx5, h⟩ := bind_some h
  refine DGo.step (x_index_own (d := 5) (L := ([(ByteArray.mk #[97, 115, 104]), (ByteArray.mk #[98, 114, 105, 103]), (ByteArray.mk #[99, 111, 114, 107])] : List ByteArray)) (f := eS) (ti := ti52) (tj := ti9) (e := 9) (e' := 9) (m := 1) (k := .i64) tbokGB rfl hx5) ?_
  refine DGo.step (x_load_own (d := 5) (m := 1) (j := 0) (L := ([(ByteArray.mk #[97, 115, 104]), (ByteArray.mk #[98, 114, 105, 103]), (ByteArray.mk #[99, 111, 114, 107])] : List ByteArray)) (f := eS) (ti := ti9) (e := 9) (v := vs x5) tbokGB rfl hx5) ?_
  refine DGo.ck tbokGB false 1 ⟨60, [(0, .ref 1000000 0), (2, .ref 2 0), (10, vs x2), (13, vi x3.1), (18, vs x5), (19, .ref 1000000 0)], [(2, .box [vs (ByteArray.mk #[]), vi 0, vs (ByteArray.mk #[]), vs (ByteArray.mk #[]), vi 0, vi 0, vi 0]), (1000000, .box (tc el01Source x4.2))]⟩ ?_
  obtain ⟨x6, hx6, h⟩ := bind_some h
  refine DGo.write [] (xw ents62 (spec_l01Next_run x4.2 60 _ hx6)) ?_
  refine DGo.ck tbokGB false 1 ⟨60, [(0, .ref 1000000 0), (2, .ref 2 0), (10, vs x2), (13, vi x3.1), (18, vs x5), (21, vi (w64 (1200 + x6.1)))], [(2, .box [vs (ByteArray.mk #[]), vi 0, vs (ByteArray.mk #[]), vs (ByteArray.mk #[]), vi 0, vi 0, vi 0]), (1000000, .box (tc el01Source x6.2))]⟩ ?_
  refine DGo.step (x_lstep_build (v := .agg [vi (w64 (1200 + x6.1)), vi 0]) tbokGB rfl) ?_
  refine DGo.ck tbokGB false 1 ⟨60, [(0, .ref 1000000 0), (2, .ref 2 0), (10, vs x2), (13, vi x3.1), (18, vs x5), (22, .agg [vi (w64 (1200 + x6.1)), vi 0]), (23, .ref 1000000 0)], [(2, .box [vs (ByteArray.mk #[]), vi 0, vs (ByteArray.mk #[]), vs (ByteArray.mk #[]), vi 0, vi 0, vi 0]), (1000000, .box (tc el01Source x6.2))]⟩ ?_
  obtain ⟨x7, hx7, h⟩ := bind_some h
  refine DGo.write [] (xw ents62 (spec_l01Next_run x6.2 9 _ hx7)) ?_
  refine DGo.ck tbokGB false 1 ⟨60, [(0, .ref 1000000 0), (2, .ref 2 0), (10, vs x2), (13, vi x3.1), (18, vs x5), (22, .agg [vi (w64 (1200 + x6.1)), vi 0]), (25, vi (w64 (1 + x7.1)))], [(2, .box [vs (ByteArray.mk #[]), vi 0, vs (ByteArray.mk #[]), vs (ByteArray.mk #[]), vi 0, vi 0, vi 0]), (1000000, .box (tc el01Source x7.2))]⟩ ?_
  refine DGo.step (x_lstep_build (v := .agg [vs x2, vi x3.1, vs x5, vs (ByteArray.mk #[]), vi (w64 (1200 + x6.1)), vi 0, vi (w64 (1 + x7.1))]) tbokGB rfl) ?_
  refine DGo.ck tbokGB false 1 ⟨60, [(0, .ref 1000000 0), (2, .ref 2 0), (4, .ref 4 0), (26, .agg [vs x2, vi x3.1, vs x5, vs (ByteArray.mk #[]), vi (w64 (1200 + x6.1)), vi 0, vi (w64 (1 + x7.1))])], [(2, .box [vs (ByteArray.mk #[]), vi 0, vs (ByteArray.mk #[]), vs (ByteArray.mk #[]), vi 0, vi 0, vi 0]), (4, .box [vs (ByteArray.mk #[]), vi 0, vs (ByteArray.mk #[]), vs (ByteArray.mk #[]), vi 0, vi 0, vi 0]), (1000000, .box (tc el01Source x7.2))]⟩ ?_
  refine DGo.seq (by kernel_rfl) (by kernel_rfl) ?_
  refine ckn tbokGB 1 ⟨60, [(0, .ref 1000000 0), (2, .ref 2 0), (4, .ref 4 0)], [(2, .box [vs (ByteArray.mk #[]), vi 0, vs (ByteArray.mk #[]), vs (ByteArray.mk #[]), vi 0, vi 0, vi 0]), (4, .box [vs x2, vi x3.1, vs x5, vs (ByteArray.mk #[]), vi (w64 (1200 + x6.1)), vi 0, vi (w64 (1 + x7.1))]), (1000000, .box (tc el01Source x7.2))]⟩ ?_
  refine swp_seq ?_
  refine swp_drD [1000000] mixed ?_
  refine DGo.ck tbokGB false 4 ⟨60, [(0, .ref 1000000 0), (2, .ref 2 0), (4, .ref 4 0), (29, vi (w64 (1200 + x6.1))), (30, .ref 1000000 0)], [(2, .box [vs (ByteArray.mk #[]), vi 0, vs (ByteArray.mk #[]), vs (ByteArray.mk #[]), vi 0, vi 0, vi 0]), (4, .box [vs x2, vi x3.1, vs x5, vs (ByteArray.mk #[]), vi (w64 (1200 + x6.1)), vi 0, vi (w64 (1 + x7.1))]), (1000000, .box (tc el01Source x7.2))]⟩ ?_
  obtain ⟨x8, hx8, h⟩ := bind_some h
  refine DGo.write [] (xw ents62 (spec_l01Next_run x7.2 60 _ hx8)) ?_
  refine DGo.ck tbokGB false 3 ⟨60, [(0, .ref 1000000 0), (2, .ref 2 0), (4, .ref 4 0), (32, vi (w64 ((w64 (1200 + x6.1)) + x8.1))), (34, .ref 4 5)], [(2, .box [vs (ByteArray.mk #[]), vi 0, vs (ByteArray.mk #[]), vs (ByteArray.mk #[]), vi 0, vi 0, vi 0]), (4, .box [vs x2, vi x3.1, vs x5, vs (ByteArray.mk #[]), vi (w64 (1200 + x6.1)), vi 0, vi (w64 (1 + x7.1))]), (1000000, .box (tc el01Source x8.2))]⟩ ?_
  refine DGo.seq (by kernel_rfl) (by kernel_rfl) ?_
  refine ckn tbokGB 1 ⟨60, [(0, .ref 1000000 0), (2, .ref 2 0), (4, .ref 4 0)], [(2, .box [vs (ByteArray.mk #[]), vi 0, vs (ByteArray.mk #[]), vs (ByteArray.mk #[]), vi 0, vi 0, vi 0]), (4, .box [vs x2, vi x3.1, vs x5, vs (ByteArray.mk #[]), vi (w64 (1200 + x6.1)), vi (w64 ((w64 (1200 + x6.1)) + x8.1)), vi (w64 (1 + x7.1))]), (1000000, .box (tc el01Source x8.2))]⟩ ?_
  refine swp_seq ?_
  refine srk tbokGB ⟨60, [(0, .ref 1000000 0), (2, .ref 2 0), (4, .ref 4 0), (36, vi x3.1)], [(2, .box [vs (ByteArray.mk #[]), vi 0, vs (ByteArray.mk #[]), vs (ByteArray.mk #[]), vi 0, vi 0, vi 0]), (4, .box [vs x2, vi x3.1, vs x5, vs (ByteArray.mk #[]), vi (w64 (1200 + x6.1)), vi (w64 ((w64 (1200 + x6.1)) + x8.1)), vi (w64 (1 + x7.1))]), (1000000, .box (tc el01Source x8.2))]⟩ ?_
  refine swp_seqJ h (fun j9 => ⟨60, [(2, .ref 2 0), (4, .ref 4 0)], [(2, .box [vs (ByteArray.mk #[]), vi 0, vs (ByteArray.mk #[]), vs (ByteArray.mk #[]), vi 0, vi 0, vi 0]), (4, .box (tc eClaim j9.1)), (1000000, .box (tc el01Source j9.2))]⟩) (fun v10 h => ?_) (fun j9 h => ?_)
  refine swp_blk (a := v10) ?_
  refine srk tbokGB ⟨60, [(0, .ref 1000000 0), (2, .ref 2 0), (4, .ref 4 0), (36, vi x3.1), (37, vb (x3.1 == 0))], [(2, .box [vs (ByteArray.mk #[]), vi 0, vs (ByteArray.mk #[]), vs (ByteArray.mk #[]), vi 0, vi 0, vi 0]), (4, .box [vs x2, vi x3.1, vs x5, vs (ByteArray.mk #[]), vi (w64 (1200 + x6.1)), vi (w64 ((w64 (1200 + x6.1)) + x8.1)), vi (w64 (1 + x7.1))]), (1000000, .box (tc el01Source x8.2))]⟩ ?_
  refine swp_cd h (fun h => ?_) fun h => ?_
  refine swp_reg ?_
  refine SRun.ck tbokGB 2 ⟨60, [(2, .ref 2 0), (4, .ref 4 0), (39, .own 39), (40, .ref 1000000 0)], [(2, .box [vs (ByteArray.mk #[]), vi 0, vs (ByteArray.mk #[]), vs (ByteArray.mk #[]), vi 0, vi 0, vi 0]), (4, .box [vs x2, vi x3.1, vs x5, vs (ByteArray.mk #[]), vi (w64 (1200 + x6.1)), vi (w64 ((w64 (1200 + x6.1)) + x8.1)), vi (w64 (1 + x7.1))]), (39, oa 9 1 eS ([(ByteArray.mk #[111, 108, 100, 32, 97, 115, 104]), (ByteArray.mk #[110, 101, 119, 116, 111, 110]), (ByteArray.mk #[97, 115, 104, 98, 121])] : List ByteArray)), (1000000, .box (tc el01Source x8.2))]⟩ ?_
  obtain ⟨x11, hx11, h⟩ := bind_some h
  refine SRun.estep (xe ents62 (spec_l01Next_run x8.2 3 _ hx11)) ?_
  obtain ⟨x12, hx12, h⟩ := bind_some h
  refine SRun.ls (x_index_own (d := 39) (L := ([(ByteArray.mk #[111, 108, 100, 32, 97, 115, 104]), (ByteArray.mk #[110, 101, 119, 116, 111, 110]), (ByteArray.mk #[97, 115, 104, 98, 121])] : List ByteArray)) (f := eS) (ti := ti52) (tj := ti9) (e := 9) (e' := 9) (m := 1) (k := .i64) tbokGB rfl hx12) ?_
  refine SRun.ls (x_load_own (d := 39) (m := 1) (j := 0) (L := ([(ByteArray.mk #[111, 108, 100, 32, 97, 115, 104]), (ByteArray.mk #[110, 101, 119, 116, 111, 110]), (ByteArray.mk #[97, 115, 104, 98, 121])] : List ByteArray)) (f := eS) (ti := ti9) (e := 9) (v := vs x12) tbokGB rfl hx12) ?_
  refine SRun.ck tbokGB 2 ⟨60, [(2, .ref 2 0), (4, .ref 4 0)], [(2, .box [vs (ByteArray.mk #[]), vi 0, vs (ByteArray.mk #[]), vs (ByteArray.mk #[]), vi 0, vi 0, vi 0]), (4, .box [vs x2, vi x3.1, vs x5, vs x12, vi (w64 (1200 + x6.1)), vi (w64 ((w64 (1200 + x6.1)) + x8.1)), vi (w64 (1 + x7.1))]), (1000000, .box (tc el01Source x11.2))]⟩ ?_
  refine SRun.nil ?_
  obtain rfl := inj h
  exact q_bn (q_j (Le.sub0))
  refine srk tbokGB ⟨60, [(0, .ref 1000000 0), (2, .ref 2 0), (4, .ref 4 0), (45, vb (x3.1 == 1))], [(2, .box [vs (ByteArray.mk #[]), vi 0, vs (ByteArray.mk #[]), vs (ByteArray.mk #[]), vi 0, vi 0, vi 0]), (4, .box [vs x2, vi x3.1, vs x5, vs (ByteArray.mk #[]), vi (w64 (1200 + x6.1)), vi (w64 ((w64 (1200 + x6.1)) + x8.1)), vi (w64 (1 + x7.1))]), (1000000, .box (tc el01Source x8.2))]⟩ ?_
  refine swp_cd h (fun h => ?_) fun h => ?_
  refine sr ?_
  refine SRun.ck tbokGB 2 ⟨60, [(2, .ref 2 0), (4, .ref 4 0), (47, .own 47), (48, .ref 1000000 0)], [(2, .box [vs (ByteArray.mk #[]), vi 0, vs (ByteArray.mk #[]), vs (ByteArray.mk #[]), vi 0, vi 0, vi 0]), (4, .box [vs x2, vi x3.1, vs x5, vs (ByteArray.mk #[]), vi (w64 (1200 + x6.1)), vi (w64 ((w64 (1200 + x6.1)) + x8.1)), vi (w64 (1 + x7.1))]), (47, oa 9 1 eS ([(ByteArray.mk #[97, 115, 104]), (ByteArray.mk #[98, 114, 105, 103]), (ByteArray.mk #[99, 111, 114, 107]), (ByteArray.mk #[100, 101, 118, 97])] : List ByteArray)), (1000000, .box (tc el01Source x8.2))]⟩ ?_
  obtain ⟨x13, hx13, h⟩ := bind_some h
  refine SRun.estep (xe ents62 (spec_l01Next_run x8.2 4 _ hx13)) ?_
  obtain ⟨x14, hx14, h⟩ := bind_some h
  refine SRun.ls (x_index_own (d := 47) (L := ([(ByteArray.mk #[97, 115, 104]), (ByteArray.mk #[98, 114, 105, 103]), (ByteArray.mk #[99, 111, 114, 107]), (ByteArray.mk #[100, 101, 118, 97])] : List ByteArray)) (f := eS) (ti := ti52) (tj := ti9) (e := 9) (e' := 9) (m := 1) (k := .i64) tbokGB rfl hx14) ?_
  refine SRun.ls (x_load_own (d := 47) (m := 1) (j := 0) (L := ([(ByteArray.mk #[97, 115, 104]), (ByteArray.mk #[98, 114, 105, 103]), (ByteArray.mk #[99, 111, 114, 107]), (ByteArray.mk #[100, 101, 118, 97])] : List ByteArray)) (f := eS) (ti := ti9) (e := 9) (v := vs x14) tbokGB rfl hx14) ?_
  refine ckn tbokGB 2 ⟨60, [(2, .ref 2 0), (4, .ref 4 0)], [(2, .box [vs (ByteArray.mk #[]), vi 0, vs (ByteArray.mk #[]), vs (ByteArray.mk #[]), vi 0, vi 0, vi 0]), (4, .box [vs x2, vi x3.1, vs x5, vs x14, vi (w64 (1200 + x6.1)), vi (w64 ((w64 (1200 + x6.1)) + x8.1)), vi (w64 (1 + x7.1))]), (1000000, .box (tc el01Source x13.2))]⟩ ?_
  refine srk tbokGB ⟨60, [(2, .ref 2 0), (4, .ref 4 0), (57, vb (x14.toList == x5.toList))], [(2, .box [vs (ByteArray.mk #[]), vi 0, vs (ByteArray.mk #[]), vs (ByteArray.mk #[]), vi 0, vi 0, vi 0]), (4, .box [vs x2, vi x3.1, vs x5, vs x14, vi (w64 (1200 + x6.1)), vi (w64 ((w64 (1200 + x6.1)) + x8.1)), vi (w64 (1 + x7.1))]), (1000000, .box (tc el01Source x13.2))]⟩ ?_
  refine swp_cd h (fun h => ?_) fun h => ?_
  refine swp_reg ?_
  refine SRun.ck tbokGB 2 ⟨60, [(2, .ref 2 0), (4, .ref 4 0)], [(2, .box [vs (ByteArray.mk #[]), vi 0, vs (ByteArray.mk #[]), vs (ByteArray.mk #[]), vi 0, vi 0, vi 0]), (4, .box [vs x2, vi x3.1, vs x5, vs (ByteArray.mk #[100, 101, 118, 97]), vi (w64 (1200 + x6.1)), vi (w64 ((w64 (1200 + x6.1)) + x8.1)), vi (w64 (1 + x7.1))]), (1000000, .box (tc el01Source x13.2))]⟩ ?_
  refine SRun.nil ?_
  obtain rfl := inj h
  exact q_bn (q_j (Le.sub0))
  refine swp_skip ?_
  obtain rfl := inj h
  exact q_bn (q_j (Le.sub0))
  refine swp_skip ?_
  obtain rfl := inj h
  exact q_bn (q_j (Le.sub0))
  refine srk tbokGB ⟨60, [(2, .ref 2 0)], [(2, .box (tc eClaim j9.1)), (1000000, .box (tc el01Source j9.2))]⟩ ?_
  refine swp_ret ?_
  obtain rfl := inj h
  exact q_fr (fin_io (f1 (fc tbokGB)) (y := .box (tc el01Source j9.2)) (by kernel_rfl) rfl (by kernel_rfl) (by kernel_rfl))
theorem ents115 : Ents Tryz.prog 115 := ents_of Tryz.func115 (by kernel_rfl) rfl
noncomputable def spec_l02Good (aS : l01Source) : Option (Span × l01Source) :=
  ((spec_l01Next aS 1000).bind fun x1 => ((spec_l01Next x1.2 20).bind fun x2 => ((spec_l01Next x2.2 300).bind fun x3 => ((spec_l01Pick x3.2 ([0, x2.1, x3.1, 2000] : List Int)).bind fun x4 => some ((Span.mk (w64 (1000 + x1.1)) (minI 3000 (w64 ((w64 (1000 + x1.1)) + x4.1)))), x4.2)))))
theorem spec_l02Good_run (aS : l01Source) (r : Span × l01Source) (h : spec_l02Good aS = some r) : SCall Tryz.prog 179 [.o (.box [vl (eI .u8) aS.code, vi aS.at', vi aS.seed])] ⟨[.v (.agg (tc eSpan r.1))], [(0, .box (tc el01Source r.2))], false⟩ := by
  refine scall_in Tryz.func179 rfl [(.cell 2 40)] rfl (fun r => ⟨[.v (.agg (tc eSpan r.1))], [(0, .box (tc el01Source r.2))], false⟩) (r := r) ?_
  unfold spec_l02Good at h
  refine srk tbokGB ⟨19, [(0, .ref 1000000 0), (2, .ref 2 0)], [(2, .box [vi 0, vi 0]), (1000000, .box (tc el01Source aS))]⟩ ?_
  refine sr ?_
  refine SRun.ck tbokGB 1 ⟨19, [(0, .ref 1000000 0), (2, .ref 2 0), (4, .ref 1000000 0)], [(2, .box [vi 0, vi 0]), (1000000, .box (tc el01Source aS))]⟩ ?_
  obtain ⟨x1, hx1, h⟩ := bind_some h
  refine SRun.estep (xe ents62 (spec_l01Next_run aS 1000 _ hx1)) ?_
  refine ckn tbokGB 2 ⟨19, [(0, .ref 1000000 0), (2, .ref 2 0), (3, vi (w64 (1000 + x1.1)))], [(2, .box [vi 0, vi 0]), (1000000, .box (tc el01Source x1.2))]⟩ ?_
  refine sr ?_
  refine SRun.ck tbokGB 4 ⟨19, [(0, .ref 1000000 0), (2, .ref 2 0), (7, vi (w64 (1000 + x1.1))), (8, vi (w64 (1000 + x1.1))), (9, .ref 1000000 0), (10, .ref 1000000 0)], [(2, .box [vi 0, vi 0]), (1000000, .box (tc el01Source x1.2))]⟩ ?_
  obtain ⟨x2, hx2, h⟩ := bind_some h
  refine SRun.estep (xe ents62 (spec_l01Next_run x1.2 20 _ hx2)) ?_
  refine SRun.ck tbokGB 1 ⟨19, [(2, .ref 2 0), (7, vi (w64 (1000 + x1.1))), (8, vi (w64 (1000 + x1.1))), (9, .ref 1000000 0), (11, vi x2.1), (12, .ref 1000000 0)], [(2, .box [vi 0, vi 0]), (1000000, .box (tc el01Source x2.2))]⟩ ?_
  obtain ⟨x3, hx3, h⟩ := bind_some h
  refine SRun.estep (xe ents62 (spec_l01Next_run x2.2 300 _ hx3)) ?_
  refine SRun.ck tbokGB 1 ⟨19, [(2, .ref 2 0), (7, vi (w64 (1000 + x1.1))), (8, vi (w64 (1000 + x1.1))), (9, .ref 1000000 0), (14, .own 14)], [(2, .box [vi 0, vi 0]), (14, oa 2 1 (eI .i64) ([0, x2.1, x3.1, 2000] : List Int)), (1000000, .box (tc el01Source x3.2))]⟩ ?_
  refine SRun.le (Le.frz' (d := 14) (e := 2) (m := 1) (n := ([0, x2.1, x3.1, 2000] : List Int).length) (es := ([0, x2.1, x3.1, 2000] : List Int).map (eI .i64)) (by kernel_rfl) (by kernel_rfl)) ?_
  obtain ⟨x4, hx4, h⟩ := bind_some h
  refine SRun.estep (xe ents140 (spec_l01Pick_run x3.2 ([0, x2.1, x3.1, 2000] : List Int) _ hx4)) ?_
  refine SRun.ck tbokGB 2 ⟨19, [(2, .ref 2 0), (7, vi (w64 (1000 + x1.1))), (17, vi (minI 3000 (w64 ((w64 (1000 + x1.1)) + x4.1))))], [(2, .box [vi 0, vi 0]), (1000000, .box (tc el01Source x4.2))]⟩ ?_
  refine SRun.ls (x_lstep_build (v := .agg [vi (w64 (1000 + x1.1)), vi (minI 3000 (w64 ((w64 (1000 + x1.1)) + x4.1)))]) tbokGB rfl) ?_
  refine ckn tbokGB 1 ⟨19, [(2, .ref 2 0)], [(2, .box [vi (w64 (1000 + x1.1)), vi (minI 3000 (w64 ((w64 (1000 + x1.1)) + x4.1)))]), (1000000, .box (tc el01Source x4.2))]⟩ ?_
  refine swp_ret ?_
  obtain rfl := inj h
  exact q_fr (fin_io (f1 (fc tbokGB)) (y := .box (tc el01Source x4.2)) (by kernel_rfl) rfl (by kernel_rfl) (by kernel_rfl))
theorem ents179 : Ents Tryz.prog 179 := ents_of Tryz.func179 (by kernel_rfl) rfl
noncomputable def spec_l02Draw (aS : l01Source) : Option (Span × l01Source) :=
  ((spec_l02Good aS).bind fun x1 => ((spec_l01Next x1.2 20).bind fun x2 => (((bif (x2.1 == 0) then some ((Span.mk x1.1.From (w64 (x1.1.From - 1))), x2.2) else (bif (x2.1 == 1) then ((spec_l01Pick x2.2 ([(-3000), (-3001), 3001] : List Int)).bind fun x5 => some ((Span.mk x5.1 x1.1.To), x5.2)) else (bif (x2.1 == 2) then ((spec_l01Pick x2.2 ([3000, 3001] : List Int)).bind fun x6 => some ((Span.mk x1.1.From x6.1), x6.2)) else some (x1.1, x2.2))))).bind fun (j3 : Span × l01Source) => some (j3.1, j3.2))))
theorem spec_l02Draw_run (aS : l01Source) (r : Span × l01Source) (h : spec_l02Draw aS = some r) : SCall Tryz.prog 147 [.o (.box [vl (eI .u8) aS.code, vi aS.at', vi aS.seed])] ⟨[.v (.agg (tc eSpan r.1))], [(0, .box (tc el01Source r.2))], false⟩ := by
  refine scall_in Tryz.func147 rfl [(.cell 2 40)] rfl (fun r => ⟨[.v (.agg (tc eSpan r.1))], [(0, .box (tc el01Source r.2))], false⟩) (r := r) ?_
  unfold spec_l02Draw at h
  refine srk tbokGB ⟨27, [(0, .ref 1000000 0), (2, .ref 2 0)], [(2, .box [vi 0, vi 0]), (1000000, .box (tc el01Source aS))]⟩ ?_
  refine sr ?_
  refine SRun.ck tbokGB 1 ⟨27, [(0, .ref 1000000 0), (2, .ref 2 0), (4, .ref 1000000 0)], [(2, .box [vi 0, vi 0]), (1000000, .box (tc el01Source aS))]⟩ ?_
  obtain ⟨x1, hx1, h⟩ := bind_some h
  refine SRun.estep (xe ents179 (spec_l02Good_run aS _ hx1)) ?_
  refine ckn tbokGB 2 ⟨27, [(0, .ref 1000000 0), (2, .ref 2 0), (3, .ref 3 0)], [(2, .box [vi 0, vi 0]), (3, .box (tc eSpan x1.1)), (1000000, .box (tc el01Source x1.2))]⟩ ?_
  refine swp_seq ?_
  refine sr ?_
  refine SRun.ck tbokGB 1 ⟨27, [(0, .ref 1000000 0), (2, .ref 2 0), (3, .ref 3 0), (6, .ref 1000000 0)], [(2, .box [vi 0, vi 0]), (3, .box (tc eSpan x1.1)), (1000000, .box (tc el01Source x1.2))]⟩ ?_
  obtain ⟨x2, hx2, h⟩ := bind_some h
  refine SRun.estep (xe ents62 (spec_l01Next_run x1.2 20 _ hx2)) ?_
  refine SRun.nx ?_
  refine swp_seqJ h (fun j3 => ⟨27, [(2, .ref 2 0), (3, .ref 3 0)], [(2, .box [vi 0, vi 0]), (3, .box (tc eSpan j3.1)), (1000000, .box (tc el01Source j3.2))]⟩) (fun v4 h => ?_) (fun j3 h => ?_)
  refine swp_blk (a := v4) ?_
  refine srk tbokGB ⟨27, [(0, .ref 1000000 0), (2, .ref 2 0), (3, .ref 3 0), (7, vi x2.1), (8, vb (x2.1 == 0))], [(2, .box [vi 0, vi 0]), (3, .box (tc eSpan x1.1)), (1000000, .box (tc el01Source x2.2))]⟩ ?_
  refine swp_cd h (fun h => ?_) fun h => ?_
  refine swp_reg ?_
  refine SRun.ck tbokGB 5 ⟨27, [(2, .ref 2 0), (3, .ref 3 0)], [(2, .box [vi 0, vi 0]), (3, .box [vi x1.1.From, vi (w64 (x1.1.From - 1))]), (1000000, .box (tc el01Source x2.2))]⟩ ?_
  refine SRun.nil ?_
  obtain rfl := inj h
  exact q_bn (q_j (Le.sub0))
  refine srk tbokGB ⟨27, [(0, .ref 1000000 0), (2, .ref 2 0), (3, .ref 3 0), (7, vi x2.1), (14, vb (x2.1 == 1))], [(2, .box [vi 0, vi 0]), (3, .box (tc eSpan x1.1)), (1000000, .box (tc el01Source x2.2))]⟩ ?_
  refine swp_cd h (fun h => ?_) fun h => ?_
  refine swp_reg ?_
  refine SRun.ck tbokGB 2 ⟨27, [(2, .ref 2 0), (3, .ref 3 0), (16, .ref 1000000 0), (17, .own 17)], [(2, .box [vi 0, vi 0]), (3, .box (tc eSpan x1.1)), (17, oa 2 1 (eI .i64) ([(-3000), (-3001), 3001] : List Int)), (1000000, .box (tc el01Source x2.2))]⟩ ?_
  refine SRun.le (Le.frz' (d := 17) (e := 2) (m := 1) (n := ([(-3000), (-3001), 3001] : List Int).length) (es := ([(-3000), (-3001), 3001] : List Int).map (eI .i64)) (by kernel_rfl) (by kernel_rfl)) ?_
  obtain ⟨x5, hx5, h⟩ := bind_some h
  refine SRun.estep (xe ents140 (spec_l01Pick_run x2.2 ([(-3000), (-3001), 3001] : List Int) _ hx5)) ?_
  refine SRun.ck tbokGB 2 ⟨27, [(2, .ref 2 0), (3, .ref 3 0)], [(2, .box [vi 0, vi 0]), (3, .box [vi x5.1, vi x1.1.To]), (1000000, .box (tc el01Source x5.2))]⟩ ?_
  refine SRun.nil ?_
  obtain rfl := inj h
  exact q_bn (q_j (Le.sub0))
  refine srk tbokGB ⟨27, [(0, .ref 1000000 0), (2, .ref 2 0), (3, .ref 3 0), (20, vb (x2.1 == 2))], [(2, .box [vi 0, vi 0]), (3, .box (tc eSpan x1.1)), (1000000, .box (tc el01Source x2.2))]⟩ ?_
  refine swp_cd h (fun h => ?_) fun h => ?_
  refine swp_reg ?_
  refine SRun.ck tbokGB 2 ⟨27, [(2, .ref 2 0), (3, .ref 3 0), (22, .ref 1000000 0), (23, .own 23)], [(2, .box [vi 0, vi 0]), (3, .box (tc eSpan x1.1)), (23, oa 2 1 (eI .i64) ([3000, 3001] : List Int)), (1000000, .box (tc el01Source x2.2))]⟩ ?_
  refine SRun.le (Le.frz' (d := 23) (e := 2) (m := 1) (n := ([3000, 3001] : List Int).length) (es := ([3000, 3001] : List Int).map (eI .i64)) (by kernel_rfl) (by kernel_rfl)) ?_
  obtain ⟨x6, hx6, h⟩ := bind_some h
  refine SRun.estep (xe ents140 (spec_l01Pick_run x2.2 ([3000, 3001] : List Int) _ hx6)) ?_
  refine SRun.ck tbokGB 2 ⟨27, [(2, .ref 2 0), (3, .ref 3 0)], [(2, .box [vi 0, vi 0]), (3, .box [vi x1.1.From, vi x6.1]), (1000000, .box (tc el01Source x6.2))]⟩ ?_
  refine SRun.nil ?_
  obtain rfl := inj h
  exact q_bn (q_j (Le.sub0))
  refine swp_skip ?_
  obtain rfl := inj h
  exact q_bn (q_j (Le.sub0))
  refine srk tbokGB ⟨27, [(2, .ref 2 0)], [(2, .box (tc eSpan j3.1)), (1000000, .box (tc el01Source j3.2))]⟩ ?_
  refine swp_ret ?_
  obtain rfl := inj h
  exact q_fr (fin_io (f1 (fc tbokGB)) (y := .box (tc el01Source j3.2)) (by kernel_rfl) rfl (by kernel_rfl) (by kernel_rfl))
theorem ents147 : Ents Tryz.prog 147 := ents_of Tryz.func147 (by kernel_rfl) rfl
noncomputable def spec_l20Draw (aS : l01Source) : Option (Claim × l01Source) :=
  ((spec_l20Good aS).bind fun x1 => ((spec_l01Next x1.2 24).bind fun x2 => (((bif (x2.1 == 0) then ((spec_l01Pick x2.2 ([0, 100, 101] : List Int)).bind fun x5 => some ((Claim.mk x1.1.Source x1.1.Kind x1.1.Place x1.1.Value x1.1.Years x5.1), x5.2)) else (bif (x2.1 == 1) then ((spec_l01Next x2.2 3).bind fun x6 => ((at' ([(ByteArray.mk #[]), (ByteArray.mk #[97, 115, 104]), (ByteArray.mk #[79, 108, 100])] : List ByteArray) x6.1).bind fun x7 => some ((Claim.mk x1.1.Source x1.1.Kind x1.1.Place x7 x1.1.Years x1.1.Weight), x6.2))) else (bif (x2.1 == 2) then ((spec_l01Next x2.2 6).bind fun x8 => some ((Claim.mk x1.1.Source (w64 (x8.1 - 1)) x1.1.Place x1.1.Value x1.1.Years x1.1.Weight), x8.2)) else (bif (x2.1 == 3) then ((spec_l02Draw x2.2).bind fun x9 => some ((Claim.mk x1.1.Source x1.1.Kind x1.1.Place x1.1.Value x9.1 x1.1.Weight), x9.2)) else some (x1.1, x2.2)))))).bind fun (j3 : Claim × l01Source) => some (j3.1, j3.2))))
theorem spec_l20Draw_run (aS : l01Source) (r : Claim × l01Source) (h : spec_l20Draw aS = some r) : SCall Tryz.prog 116 [.o (.box [vl (eI .u8) aS.code, vi aS.at', vi aS.seed])] ⟨[.v (.agg (tc eClaim r.1))], [(0, .box (tc el01Source r.2))], false⟩ := by
  refine scall_in Tryz.func116 rfl [(.cell 2 42)] rfl (fun r => ⟨[.v (.agg (tc eClaim r.1))], [(0, .box (tc el01Source r.2))], false⟩) (r := r) ?_
  unfold spec_l20Draw at h
  refine srk tbokGB ⟨34, [(0, .ref 1000000 0), (2, .ref 2 0)], [(2, .box [vs (ByteArray.mk #[]), vi 0, vs (ByteArray.mk #[]), vs (ByteArray.mk #[]), vi 0, vi 0, vi 0]), (1000000, .box (tc el01Source aS))]⟩ ?_
  refine sr ?_
  refine SRun.ck tbokGB 1 ⟨34, [(0, .ref 1000000 0), (2, .ref 2 0), (4, .ref 1000000 0)], [(2, .box [vs (ByteArray.mk #[]), vi 0, vs (ByteArray.mk #[]), vs (ByteArray.mk #[]), vi 0, vi 0, vi 0]), (1000000, .box (tc el01Source aS))]⟩ ?_
  obtain ⟨x1, hx1, h⟩ := bind_some h
  refine SRun.estep (xe ents115 (spec_l20Good_run aS _ hx1)) ?_
  refine ckn tbokGB 2 ⟨34, [(0, .ref 1000000 0), (2, .ref 2 0), (3, .ref 3 0)], [(2, .box [vs (ByteArray.mk #[]), vi 0, vs (ByteArray.mk #[]), vs (ByteArray.mk #[]), vi 0, vi 0, vi 0]), (3, .box (tc eClaim x1.1)), (1000000, .box (tc el01Source x1.2))]⟩ ?_
  refine swp_seq ?_
  refine sr ?_
  refine SRun.ck tbokGB 1 ⟨34, [(0, .ref 1000000 0), (2, .ref 2 0), (3, .ref 3 0), (6, .ref 1000000 0)], [(2, .box [vs (ByteArray.mk #[]), vi 0, vs (ByteArray.mk #[]), vs (ByteArray.mk #[]), vi 0, vi 0, vi 0]), (3, .box (tc eClaim x1.1)), (1000000, .box (tc el01Source x1.2))]⟩ ?_
  obtain ⟨x2, hx2, h⟩ := bind_some h
  refine SRun.estep (xe ents62 (spec_l01Next_run x1.2 24 _ hx2)) ?_
  refine SRun.nx ?_
  refine swp_seqJ h (fun j3 => ⟨34, [(2, .ref 2 0), (3, .ref 3 0)], [(2, .box [vs (ByteArray.mk #[]), vi 0, vs (ByteArray.mk #[]), vs (ByteArray.mk #[]), vi 0, vi 0, vi 0]), (3, .box (tc eClaim j3.1)), (1000000, .box (tc el01Source j3.2))]⟩) (fun v4 h => ?_) (fun j3 h => ?_)
  refine swp_blk (a := v4) ?_
  refine srk tbokGB ⟨34, [(0, .ref 1000000 0), (2, .ref 2 0), (3, .ref 3 0), (7, vi x2.1), (8, vb (x2.1 == 0))], [(2, .box [vs (ByteArray.mk #[]), vi 0, vs (ByteArray.mk #[]), vs (ByteArray.mk #[]), vi 0, vi 0, vi 0]), (3, .box (tc eClaim x1.1)), (1000000, .box (tc el01Source x2.2))]⟩ ?_
  refine swp_cd h (fun h => ?_) fun h => ?_
  refine swp_reg ?_
  refine SRun.ck tbokGB 2 ⟨34, [(2, .ref 2 0), (3, .ref 3 0), (10, .ref 1000000 0), (11, .own 11)], [(2, .box [vs (ByteArray.mk #[]), vi 0, vs (ByteArray.mk #[]), vs (ByteArray.mk #[]), vi 0, vi 0, vi 0]), (3, .box (tc eClaim x1.1)), (11, oa 2 1 (eI .i64) ([0, 100, 101] : List Int)), (1000000, .box (tc el01Source x2.2))]⟩ ?_
  refine SRun.le (Le.frz' (d := 11) (e := 2) (m := 1) (n := ([0, 100, 101] : List Int).length) (es := ([0, 100, 101] : List Int).map (eI .i64)) (by kernel_rfl) (by kernel_rfl)) ?_
  obtain ⟨x5, hx5, h⟩ := bind_some h
  refine SRun.estep (xe ents140 (spec_l01Pick_run x2.2 ([0, 100, 101] : List Int) _ hx5)) ?_
  refine SRun.ck tbokGB 2 ⟨34, [(2, .ref 2 0), (3, .ref 3 0)], [(2, .box [vs (ByteArray.mk #[]), vi 0, vs (ByteArray.mk #[]), vs (ByteArray.mk #[]), vi 0, vi 0, vi 0]), (3, .box [vs x1.1.Source, vi x1.1.Kind, vs x1.1.Place, vs x1.1.Value, vi x1.1.Years.From, vi x1.1.Years.To, vi x5.1]), (1000000, .box (tc el01Source x5.2))]⟩ ?_
  refine SRun.nil ?_
  obtain rfl := inj h
  exact q_bn (q_j (Le.sub0))
  refine srk tbokGB ⟨34, [(0, .ref 1000000 0), (2, .ref 2 0), (3, .ref 3 0), (7, vi x2.1), (14, vb (x2.1 == 1))], [(2, .box [vs (ByteArray.mk #[]), vi 0, vs (ByteArray.mk #[]), vs (ByteArray.mk #[]), vi 0, vi 0, vi 0]), (3, .box (tc eClaim x1.1)), (1000000, .box (tc el01Source x2.2))]⟩ ?_
  refine swp_cd h (fun h => ?_) fun h => ?_
  refine swp_reg ?_
  refine SRun.ck tbokGB 2 ⟨34, [(2, .ref 2 0), (3, .ref 3 0), (16, .own 16), (17, .ref 1000000 0)], [(2, .box [vs (ByteArray.mk #[]), vi 0, vs (ByteArray.mk #[]), vs (ByteArray.mk #[]), vi 0, vi 0, vi 0]), (3, .box (tc eClaim x1.1)), (16, oa 9 1 eS ([(ByteArray.mk #[]), (ByteArray.mk #[97, 115, 104]), (ByteArray.mk #[79, 108, 100])] : List ByteArray)), (1000000, .box (tc el01Source x2.2))]⟩ ?_
  obtain ⟨x6, hx6, h⟩ := bind_some h
  refine SRun.estep (xe ents62 (spec_l01Next_run x2.2 3 _ hx6)) ?_
  obtain ⟨x7, hx7, h⟩ := bind_some h
  refine SRun.ls (x_index_own (d := 16) (L := ([(ByteArray.mk #[]), (ByteArray.mk #[97, 115, 104]), (ByteArray.mk #[79, 108, 100])] : List ByteArray)) (f := eS) (ti := ti52) (tj := ti9) (e := 9) (e' := 9) (m := 1) (k := .i64) tbokGB rfl hx7) ?_
  refine SRun.ls (x_load_own (d := 16) (m := 1) (j := 0) (L := ([(ByteArray.mk #[]), (ByteArray.mk #[97, 115, 104]), (ByteArray.mk #[79, 108, 100])] : List ByteArray)) (f := eS) (ti := ti9) (e := 9) (v := vs x7) tbokGB rfl hx7) ?_
  refine SRun.ck tbokGB 2 ⟨34, [(2, .ref 2 0), (3, .ref 3 0)], [(2, .box [vs (ByteArray.mk #[]), vi 0, vs (ByteArray.mk #[]), vs (ByteArray.mk #[]), vi 0, vi 0, vi 0]), (3, .box [vs x1.1.Source, vi x1.1.Kind, vs x1.1.Place, vs x7, vi x1.1.Years.From, vi x1.1.Years.To, vi x1.1.Weight]), (1000000, .box (tc el01Source x6.2))]⟩ ?_
  refine SRun.nil ?_
  obtain rfl := inj h
  exact q_bn (q_j (Le.sub0))
  refine srk tbokGB ⟨34, [(0, .ref 1000000 0), (2, .ref 2 0), (3, .ref 3 0), (7, vi x2.1), (22, vb (x2.1 == 2))], [(2, .box [vs (ByteArray.mk #[]), vi 0, vs (ByteArray.mk #[]), vs (ByteArray.mk #[]), vi 0, vi 0, vi 0]), (3, .box (tc eClaim x1.1)), (1000000, .box (tc el01Source x2.2))]⟩ ?_
  refine swp_cd h (fun h => ?_) fun h => ?_
  refine swp_reg ?_
  refine SRun.ck tbokGB 1 ⟨34, [(2, .ref 2 0), (3, .ref 3 0), (24, .ref 1000000 0)], [(2, .box [vs (ByteArray.mk #[]), vi 0, vs (ByteArray.mk #[]), vs (ByteArray.mk #[]), vi 0, vi 0, vi 0]), (3, .box (tc eClaim x1.1)), (1000000, .box (tc el01Source x2.2))]⟩ ?_
  obtain ⟨x8, hx8, h⟩ := bind_some h
  refine SRun.estep (xe ents62 (spec_l01Next_run x2.2 6 _ hx8)) ?_
  refine SRun.ck tbokGB 3 ⟨34, [(2, .ref 2 0), (3, .ref 3 0)], [(2, .box [vs (ByteArray.mk #[]), vi 0, vs (ByteArray.mk #[]), vs (ByteArray.mk #[]), vi 0, vi 0, vi 0]), (3, .box [vs x1.1.Source, vi (w64 (x8.1 - 1)), vs x1.1.Place, vs x1.1.Value, vi x1.1.Years.From, vi x1.1.Years.To, vi x1.1.Weight]), (1000000, .box (tc el01Source x8.2))]⟩ ?_
  refine SRun.nil ?_
  obtain rfl := inj h
  exact q_bn (q_j (Le.sub0))
  refine srk tbokGB ⟨34, [(0, .ref 1000000 0), (2, .ref 2 0), (3, .ref 3 0), (28, vb (x2.1 == 3))], [(2, .box [vs (ByteArray.mk #[]), vi 0, vs (ByteArray.mk #[]), vs (ByteArray.mk #[]), vi 0, vi 0, vi 0]), (3, .box (tc eClaim x1.1)), (1000000, .box (tc el01Source x2.2))]⟩ ?_
  refine swp_cd h (fun h => ?_) fun h => ?_
  refine swp_reg ?_
  refine SRun.ck tbokGB 1 ⟨34, [(2, .ref 2 0), (3, .ref 3 0), (30, .ref 1000000 0)], [(2, .box [vs (ByteArray.mk #[]), vi 0, vs (ByteArray.mk #[]), vs (ByteArray.mk #[]), vi 0, vi 0, vi 0]), (3, .box (tc eClaim x1.1)), (1000000, .box (tc el01Source x2.2))]⟩ ?_
  obtain ⟨x9, hx9, h⟩ := bind_some h
  refine SRun.estep (xe ents147 (spec_l02Draw_run x2.2 _ hx9)) ?_
  refine SRun.ck tbokGB 2 ⟨34, [(2, .ref 2 0), (3, .ref 3 0)], [(2, .box [vs (ByteArray.mk #[]), vi 0, vs (ByteArray.mk #[]), vs (ByteArray.mk #[]), vi 0, vi 0, vi 0]), (3, .box [vs x1.1.Source, vi x1.1.Kind, vs x1.1.Place, vs x1.1.Value, vi x9.1.From, vi x9.1.To, vi x1.1.Weight]), (1000000, .box (tc el01Source x9.2))]⟩ ?_
  refine SRun.nil ?_
  obtain rfl := inj h
  exact q_bn (q_j (Le.sub0))
  refine swp_skip ?_
  obtain rfl := inj h
  exact q_bn (q_j (Le.sub0))
  refine srk tbokGB ⟨34, [(2, .ref 2 0)], [(2, .box (tc eClaim j3.1)), (1000000, .box (tc el01Source j3.2))]⟩ ?_
  refine swp_ret ?_
  obtain rfl := inj h
  exact q_fr (fin_io (f1 (fc tbokGB)) (y := .box (tc el01Source j3.2)) (by kernel_rfl) rfl (by kernel_rfl) (by kernel_rfl))
theorem ents116 : Ents Tryz.prog 116 := ents_of Tryz.func116 (by kernel_rfl) rfl
noncomputable def spec_l20List (aS : l01Source) : Option ((List Claim) × l01Source) :=
  ((spec_l01Next aS 9).bind fun x1 => (((loop (fun (s4 : Int × (List Claim) × l01Source) => (bif (decide (s4.1 > 0)) then ((((spec_l20Good s4.2.2).bind fun x8 => ((app' s4.2.1 ([x8.1] : List Claim)).bind fun x9 => some (x9, x8.2)))).bind fun (j6 : (List Claim) × l01Source) => some (.inl ((w64 (s4.1 - 1)), j6.1, j6.2))) else some (.inr (s4.2.1, s4.2.2)))) (x1.1, ([] : List Claim), x1.2))).bind fun (j2 : (List Claim) × l01Source) => ((spec_l01Next j2.2 24).bind fun x10 => (((bif (x10.1 == 0) then ((spec_l20Draw x10.2).bind fun x13 => ((app' j2.1 ([x13.1] : List Claim)).bind fun x14 => some (x14, x13.2))) else (bif (x10.1 == 1) then (loop (fun (s15 : (List Claim) × l01Source) => ((spec_l01Next s15.2 2).bind fun x17 => (bif (decide ((s15.1.length : Int) < (w64 (12 + x17.1)))) then ((spec_l20Good x17.2).bind fun x18 => ((app' s15.1 ([x18.1] : List Claim)).bind fun x19 => some (.inl (x19, x18.2)))) else some (.inr (s15.1, x17.2))))) (j2.1, x10.2)) else some (j2.1, x10.2)))).bind fun (j11 : (List Claim) × l01Source) => some (j11.1, j11.2)))))
theorem spec_l20List_run (aS : l01Source) (r : (List Claim) × l01Source) (h : spec_l20List aS = some r) : SCall Tryz.prog 64 [.o (.box [vl (eI .u8) aS.code, vi aS.at', vi aS.seed])] ⟨[.own 42 7 r.1.length (r.1.map eClaim)], [(0, .box (tc el01Source r.2))], false⟩ := by
  refine scall_in Tryz.func64 rfl [(.tmp 2)] rfl (fun r => ⟨[.own 42 7 r.1.length (r.1.map eClaim)], [(0, .box (tc el01Source r.2))], false⟩) (r := r) ?_
  unfold spec_l20List at h
  refine srk tbokGB ⟨40, [(0, .ref 1000000 0)], [(1000000, .box (tc el01Source aS))]⟩ ?_
  refine srk tbokGB ⟨40, [(0, .ref 1000000 0), (3, .own 5)], [(5, oa 42 7 eClaim ([] : List Claim)), (1000000, .box (tc el01Source aS))]⟩ ?_
  refine swp_seq ?_
  refine sr ?_
  refine SRun.ck tbokGB 1 ⟨40, [(0, .ref 1000000 0), (3, .own 5), (6, .ref 1000000 0)], [(5, oa 42 7 eClaim ([] : List Claim)), (1000000, .box (tc el01Source aS))]⟩ ?_
  obtain ⟨x1, hx1, h⟩ := bind_some h
  refine SRun.estep (xe ents62 (spec_l01Next_run aS 9 _ hx1)) ?_
  refine ckn tbokGB 1 ⟨40, [(0, .ref 1000000 0), (3, .own 5), (4, vi x1.1)], [(5, oa 42 7 eClaim ([] : List Claim)), (1000000, .box (tc el01Source x1.2))]⟩ ?_
  refine swp_seqJ h (fun j2 => ⟨40, [(0, .ref 1000000 0), (3, .own 3)], [(3, oa 42 7 eClaim j2.1), (1000000, .box (tc el01Source j2.2))]⟩) (fun v3 h => ?_) (fun j2 h => ?_)
  refine swp_blk (a := v3) ?_
  refine swp_lpL (r := v3) (s := (x1.1, ([] : List Claim), x1.2)) _ (fun s4 => ⟨40, [(0, .ref 1000000 0), (3, .own 3), (4, vi s4.1)], [(3, oa 42 7 eClaim s4.2.1), (1000000, .box (tc el01Source s4.2.2))]⟩) _ (Le.rr [5, 1000000] [(5, 3)]) h (fun s4 v5 h => ?_)
  refine swp_seq ?_
  refine srk tbokGB ⟨40, [(0, .ref 1000000 0), (3, .own 3), (4, vi s4.1), (9, vb (decide (s4.1 > 0)))], [(3, oa 42 7 eClaim s4.2.1), (1000000, .box (tc el01Source s4.2.2))]⟩ ?_
  refine swp_cd h (fun h => ?_) fun h => ?_
  refine swp_skip ?_
  refine nx_n ?_
  refine swp_seq ?_
  refine swp_seqJ h (fun j6 => ⟨40, [(0, .ref 1000000 0), (3, .own 3), (4, vi s4.1)], [(3, oa 42 7 eClaim j6.1), (1000000, .box (tc el01Source j6.2))]⟩) (fun v7 h => ?_) (fun j6 h => ?_)
  refine swp_blk (a := v7) ?_
  refine swp_reg ?_
  refine SRun.ck tbokGB 2 ⟨40, [(0, .ref 1000000 0), (4, vi s4.1), (12, .own 3), (13, .ref 1000000 0)], [(3, oa 42 7 eClaim s4.2.1), (1000000, .box (tc el01Source s4.2.2))]⟩ ?_
  obtain ⟨x8, hx8, h⟩ := bind_some h
  refine SRun.estep (xe ents115 (spec_l20Good_run s4.2.2 _ hx8)) ?_
  refine SRun.ck tbokGB 1 ⟨40, [(0, .ref 1000000 0), (4, vi s4.1), (12, .own 3), (15, .own 15)], [(3, oa 42 7 eClaim s4.2.1), (15, oa 42 7 eClaim ([x8.1] : List Claim)), (1000000, .box (tc el01Source x8.2))]⟩ ?_
  obtain ⟨x9, hx9, h⟩ := bind_some h
  refine SRun.estep (x_append (f := eClaim) (t := 24) (ti := ti24) (tj := ti42) (zs := [.string (ByteArray.mk #[]), .int .i64 0, .string (ByteArray.mk #[]), .string (ByteArray.mk #[]), .int .i64 0, .int .i64 0, .int .i64 0]) (e := 42) (m := 7) (d := 3) (xv := .own 15) hx9 tbokGB rfl rfl rfl rfl (x_src_o (e := 42))) ?_
  refine SRun.ck tbokGB 1 ⟨40, [(0, .ref 1000000 0), (3, .own 16), (4, vi s4.1)], [(16, oa 42 7 eClaim x9), (1000000, .box (tc el01Source x8.2))]⟩ ?_
  refine SRun.nil ?_
  obtain rfl := inj h
  exact q_bn (q_j (Le.rr [16, 1000000] [(16, 3)]))
  refine swp_reg ?_
  refine SRun.ck tbokGB 3 ⟨40, [(0, .ref 1000000 0), (3, .own 3), (4, vi (w64 (s4.1 - 1)))], [(3, oa 42 7 eClaim j6.1), (1000000, .box (tc el01Source j6.2))]⟩ ?_
  refine SRun.nil ?_
  obtain rfl := inj h
  exact q_l (Le.sub0)
  refine swp_exit ?_
  obtain rfl := inj h
  exact nx_e (q_re (q_bh (q_j (Le.sub0))))
  refine swp_seq ?_
  refine sr ?_
  refine SRun.ck tbokGB 1 ⟨40, [(0, .ref 1000000 0), (3, .own 3), (17, .ref 1000000 0)], [(3, oa 42 7 eClaim j2.1), (1000000, .box (tc el01Source j2.2))]⟩ ?_
  obtain ⟨x10, hx10, h⟩ := bind_some h
  refine SRun.estep (xe ents62 (spec_l01Next_run j2.2 24 _ hx10)) ?_
  refine SRun.nx ?_
  refine swp_seqJ h (fun j11 => ⟨40, [(3, .own 3)], [(3, oa 42 7 eClaim j11.1), (1000000, .box (tc el01Source j11.2))]⟩) (fun v12 h => ?_) (fun j11 h => ?_)
  refine swp_blk (a := v12) ?_
  refine srk tbokGB ⟨40, [(0, .ref 1000000 0), (3, .own 3), (18, vi x10.1), (19, vb (x10.1 == 0))], [(3, oa 42 7 eClaim j2.1), (1000000, .box (tc el01Source x10.2))]⟩ ?_
  refine swp_cd h (fun h => ?_) fun h => ?_
  refine swp_reg ?_
  refine SRun.ck tbokGB 2 ⟨40, [(21, .own 3), (22, .ref 1000000 0)], [(3, oa 42 7 eClaim j2.1), (1000000, .box (tc el01Source x10.2))]⟩ ?_
  obtain ⟨x13, hx13, h⟩ := bind_some h
  refine SRun.estep (xe ents116 (spec_l20Draw_run x10.2 _ hx13)) ?_
  refine SRun.ck tbokGB 1 ⟨40, [(21, .own 3), (24, .own 24)], [(3, oa 42 7 eClaim j2.1), (24, oa 42 7 eClaim ([x13.1] : List Claim)), (1000000, .box (tc el01Source x13.2))]⟩ ?_
  obtain ⟨x14, hx14, h⟩ := bind_some h
  refine SRun.estep (x_append (f := eClaim) (t := 24) (ti := ti24) (tj := ti42) (zs := [.string (ByteArray.mk #[]), .int .i64 0, .string (ByteArray.mk #[]), .string (ByteArray.mk #[]), .int .i64 0, .int .i64 0, .int .i64 0]) (e := 42) (m := 7) (d := 3) (xv := .own 24) hx14 tbokGB rfl rfl rfl rfl (x_src_o (e := 42))) ?_
  refine SRun.ck tbokGB 1 ⟨40, [(3, .own 25)], [(25, oa 42 7 eClaim x14), (1000000, .box (tc el01Source x13.2))]⟩ ?_
  refine SRun.nil ?_
  obtain rfl := inj h
  exact q_bn (q_j (Le.rr [25, 1000000] [(25, 3)]))
  refine srk tbokGB ⟨40, [(0, .ref 1000000 0), (3, .own 3), (26, vb (x10.1 == 1))], [(3, oa 42 7 eClaim j2.1), (1000000, .box (tc el01Source x10.2))]⟩ ?_
  refine swp_cd h (fun h => ?_) fun h => ?_
  refine swp_blk (a := v12) ?_
  refine swp_lpL (r := v12) (s := (j2.1, x10.2)) _ (fun s15 => ⟨40, [(0, .ref 1000000 0), (3, .own 3)], [(3, oa 42 7 eClaim s15.1), (1000000, .box (tc el01Source s15.2))]⟩) _ (Le.sub0) h (fun s15 v16 h => ?_)
  refine swp_seq ?_
  refine sr ?_
  refine SRun.ck tbokGB 3 ⟨40, [(0, .ref 1000000 0), (3, .own 3), (29, vi (s15.1.length : Int)), (30, .ref 1000000 0)], [(3, oa 42 7 eClaim s15.1), (1000000, .box (tc el01Source s15.2))]⟩ ?_
  obtain ⟨x17, hx17, h⟩ := bind_some h
  refine SRun.estep (xe ents62 (spec_l01Next_run s15.2 2 _ hx17)) ?_
  refine ckn tbokGB 2 ⟨40, [(0, .ref 1000000 0), (3, .own 3), (33, vb (decide ((s15.1.length : Int) < (w64 (12 + x17.1)))))], [(3, oa 42 7 eClaim s15.1), (1000000, .box (tc el01Source x17.2))]⟩ ?_
  refine swp_cd h (fun h => ?_) fun h => ?_
  refine swp_skip ?_
  refine nx_n ?_
  refine swp_blk (a := v16) ?_
  refine swp_reg ?_
  refine SRun.ck tbokGB 2 ⟨40, [(0, .ref 1000000 0), (34, .own 3), (35, .ref 1000000 0)], [(3, oa 42 7 eClaim s15.1), (1000000, .box (tc el01Source x17.2))]⟩ ?_
  obtain ⟨x18, hx18, h⟩ := bind_some h
  refine SRun.estep (xe ents115 (spec_l20Good_run x17.2 _ hx18)) ?_
  refine SRun.ck tbokGB 1 ⟨40, [(0, .ref 1000000 0), (34, .own 3), (37, .own 37)], [(3, oa 42 7 eClaim s15.1), (37, oa 42 7 eClaim ([x18.1] : List Claim)), (1000000, .box (tc el01Source x18.2))]⟩ ?_
  obtain ⟨x19, hx19, h⟩ := bind_some h
  refine SRun.estep (x_append (f := eClaim) (t := 24) (ti := ti24) (tj := ti42) (zs := [.string (ByteArray.mk #[]), .int .i64 0, .string (ByteArray.mk #[]), .string (ByteArray.mk #[]), .int .i64 0, .int .i64 0, .int .i64 0]) (e := 42) (m := 7) (d := 3) (xv := .own 37) hx19 tbokGB rfl rfl rfl rfl (x_src_o (e := 42))) ?_
  refine SRun.ck tbokGB 1 ⟨40, [(0, .ref 1000000 0), (3, .own 38)], [(38, oa 42 7 eClaim x19), (1000000, .box (tc el01Source x18.2))]⟩ ?_
  refine SRun.nil ?_
  obtain rfl := inj h
  exact q_bn (q_l (Le.rr [38, 1000000] [(38, 3)]))
  refine swp_exit ?_
  obtain rfl := inj h
  exact nx_e (q_re (q_bh (q_bn (q_j (Le.sub0)))))
  refine swp_skip ?_
  obtain rfl := inj h
  exact q_bn (q_j (Le.sub0))
  refine srk tbokGB ⟨40, [(2, .own 3)], [(3, oa 42 7 eClaim j11.1), (1000000, .box (tc el01Source j11.2))]⟩ ?_
  refine swp_ret ?_
  obtain rfl := inj h
  exact q_fr (fin_io (f1 (fo eClaim_flat)) (y := .box (tc el01Source j11.2)) (by kernel_rfl) rfl (by kernel_rfl) (by kernel_rfl))
theorem ents64 : Ents Tryz.prog 64 := ents_of Tryz.func64 (by kernel_rfl) rfl
noncomputable def spec_l21List (aS : l01Source) : Option ((List Claim) × l01Source) :=
  ((spec_l01Next aS 3).bind fun x1 => (((bif (x1.1 == 0) then (forS 3 (fun (i4 : Int) (s4 : (List Claim) × l01Source) => ((at' ([(ByteArray.mk #[97, 116, 108, 97, 115]), (ByteArray.mk #[99, 104, 97, 114, 116, 101, 114]), (ByteArray.mk #[114, 111, 108, 108])] : List ByteArray) i4).bind fun x8 => ((at' ([(ByteArray.mk #[97, 115, 104]), (ByteArray.mk #[98, 114, 105, 103]), (ByteArray.mk #[99, 111, 114, 107]), (ByteArray.mk #[97, 115, 104])] : List ByteArray) i4).bind fun x9 => ((at' ([(ByteArray.mk #[97, 115, 104]), (ByteArray.mk #[98, 114, 105, 103]), (ByteArray.mk #[99, 111, 114, 107]), (ByteArray.mk #[97, 115, 104])] : List ByteArray) (w64 (i4 + 1))).bind fun x10 => ((spec_l01Next s4.2 20).bind fun x11 => ((spec_l01Next x11.2 30).bind fun x12 => ((spec_l01Next x12.2 9).bind fun x13 => ((spec_IsClaim (Claim.mk x8 1 x9 x10 (Span.mk (w64 (1200 + x11.1)) (w64 (1215 + x12.1))) (w64 (1 + x13.1)))).bind fun x14 => (bif x14 then ((app' s4.1 ([(Claim.mk x8 1 x9 x10 (Span.mk (w64 (1200 + x11.1)) (w64 (1215 + x12.1))) (w64 (1 + x13.1)))] : List Claim)).bind fun x15 => some (x15, x13.2)) else some (s4.1, x13.2)))))))))) (fun (s4 : (List Claim) × l01Source) => (s4.1, s4.2)) 0 (([] : List Claim), x1.2)) else some (([] : List Claim), x1.2))).bind fun (j2 : (List Claim) × l01Source) => ((spec_l20List j2.2).bind fun x16 => (((forH (fun (i19 : Int) (s19 : (List Claim)) => ((decide (i19 < (x16.1.length : Int))) && (decide ((s19.length : Int) < 9)))) (fun (i19 : Int) (s19 : (List Claim)) => ((at' x16.1 i19).bind fun x23 => ((app' s19 ([x23] : List Claim)).bind fun x24 => some x24))) (fun (s19 : (List Claim)) => s19) 0 j2.1)).bind fun (j17 : (List Claim)) => some (j17, x16.2)))))
theorem spec_l21List_run (aS : l01Source) (r : (List Claim) × l01Source) (h : spec_l21List aS = some r) : SCall Tryz.prog 32 [.o (.box [vl (eI .u8) aS.code, vi aS.at', vi aS.seed])] ⟨[.own 42 7 r.1.length (r.1.map eClaim)], [(0, .box (tc el01Source r.2))], false⟩ := by
  refine scall_in Tryz.func32 rfl [(.tmp 2)] rfl (fun r => ⟨[.own 42 7 r.1.length (r.1.map eClaim)], [(0, .box (tc el01Source r.2))], false⟩) (r := r) ?_
  unfold spec_l21List at h
  refine srk tbokGB ⟨69, [(0, .ref 1000000 0)], [(1000000, .box (tc el01Source aS))]⟩ ?_
  refine srk tbokGB ⟨69, [(0, .ref 1000000 0), (3, .own 9)], [(9, oa 42 7 eClaim ([] : List Claim)), (1000000, .box (tc el01Source aS))]⟩ ?_
  refine swp_seq ?_
  refine sr ?_
  refine SRun.ck tbokGB 1 ⟨69, [(0, .ref 1000000 0), (3, .own 9), (10, .ref 1000000 0)], [(9, oa 42 7 eClaim ([] : List Claim)), (1000000, .box (tc el01Source aS))]⟩ ?_
  obtain ⟨x1, hx1, h⟩ := bind_some h
  refine SRun.estep (xe ents62 (spec_l01Next_run aS 3 _ hx1)) ?_
  refine ckn tbokGB 1 ⟨69, [(0, .ref 1000000 0), (3, .own 9), (12, vb (x1.1 == 0))], [(9, oa 42 7 eClaim ([] : List Claim)), (1000000, .box (tc el01Source x1.2))]⟩ ?_
  refine swp_seqJ h (fun j2 => ⟨69, [(0, .ref 1000000 0), (3, .own 3)], [(3, oa 42 7 eClaim j2.1), (1000000, .box (tc el01Source j2.2))]⟩) (fun v3 h => ?_) (fun j2 h => ?_)
  refine swp_cd h (fun h => ?_) fun h => ?_
  refine srk tbokGB ⟨69, [(0, .ref 1000000 0), (3, .own 9), (4, .own 13)], [(9, oa 42 7 eClaim ([] : List Claim)), (13, oa 9 1 eS ([(ByteArray.mk #[97, 115, 104]), (ByteArray.mk #[98, 114, 105, 103]), (ByteArray.mk #[99, 111, 114, 107]), (ByteArray.mk #[97, 115, 104])] : List ByteArray)), (1000000, .box (tc el01Source x1.2))]⟩ ?_
  refine srk tbokGB ⟨69, [(0, .ref 1000000 0), (3, .own 9), (4, .own 13), (5, vi 0)], [(9, oa 42 7 eClaim ([] : List Claim)), (13, oa 9 1 eS ([(ByteArray.mk #[97, 115, 104]), (ByteArray.mk #[98, 114, 105, 103]), (ByteArray.mk #[99, 111, 114, 107]), (ByteArray.mk #[97, 115, 104])] : List ByteArray)), (1000000, .box (tc el01Source x1.2))]⟩ ?_
  refine swp_blk (a := v3) ?_
  refine swp_lpL (r := v3) (s := (0, ([] : List Claim), x1.2)) _ (fun s4 => ⟨69, [(0, .ref 1000000 0), (3, .own 3), (4, .own 4), (5, vi s4.1)], [(3, oa 42 7 eClaim s4.2.1), (4, oa 9 1 eS ([(ByteArray.mk #[97, 115, 104]), (ByteArray.mk #[98, 114, 105, 103]), (ByteArray.mk #[99, 111, 114, 107]), (ByteArray.mk #[97, 115, 104])] : List ByteArray)), (1000000, .box (tc el01Source s4.2.2))]⟩) _ (Le.rr [9, 13, 1000000] [(9, 3), (13, 4)]) h (fun s4 v5 h => ?_)
  refine swp_seq ?_
  refine srk tbokGB ⟨69, [(0, .ref 1000000 0), (3, .own 3), (4, .own 4), (5, vi s4.1), (15, vb (decide (s4.1 < 3)))], [(3, oa 42 7 eClaim s4.2.1), (4, oa 9 1 eS ([(ByteArray.mk #[97, 115, 104]), (ByteArray.mk #[98, 114, 105, 103]), (ByteArray.mk #[99, 111, 114, 107]), (ByteArray.mk #[97, 115, 104])] : List ByteArray)), (1000000, .box (tc el01Source s4.2.2))]⟩ ?_
  refine swp_cd h (fun h => ?_) fun h => ?_
  refine swp_skip ?_
  refine nx_n ?_
  refine swp_seq ?_
  refine swp_seqJ h (fun j6 => ⟨69, [(0, .ref 1000000 0), (3, .own 3), (4, .own 4), (5, vi s4.1)], [(3, oa 42 7 eClaim j6.1), (4, oa 9 1 eS ([(ByteArray.mk #[97, 115, 104]), (ByteArray.mk #[98, 114, 105, 103]), (ByteArray.mk #[99, 111, 114, 107]), (ByteArray.mk #[97, 115, 104])] : List ByteArray)), (1000000, .box (tc el01Source j6.2))]⟩) (fun v7 h => ?_) (fun j6 h => ?_)
  refine swp_blk (a := v7) ?_
  refine swp_seq ?_
  refine swp_drD [1000000] mixed ?_
  refine DGo.ck tbokGB false 2 ⟨69, [(0, .ref 1000000 0), (3, .own 3), (4, .own 4), (5, vi s4.1), (18, .own 18), (19, vi s4.1)], [(3, oa 42 7 eClaim s4.2.1), (4, oa 9 1 eS ([(ByteArray.mk #[97, 115, 104]), (ByteArray.mk #[98, 114, 105, 103]), (ByteArray.mk #[99, 111, 114, 107]), (ByteArray.mk #[97, 115, 104])] : List ByteArray)), (18, oa 9 1 eS ([(ByteArray.mk #[97, 116, 108, 97, 115]), (ByteArray.mk #[99, 104, 97, 114, 116, 101, 114]), (ByteArray.mk #[114, 111, 108, 108])] : List ByteArray)), (1000000, .box (tc el01Source s4.2.2))]⟩ ?_
  obtain ⟨x8, hx8, h⟩ := bind_some h
  refine DGo.stepW false [18] (x_index_own (d := 18) (L := ([(ByteArray.mk #[97, 116, 108, 97, 115]), (ByteArray.mk #[99, 104, 97, 114, 116, 101, 114]), (ByteArray.mk #[114, 111, 108, 108])] : List ByteArray)) (f := eS) (ti := ti52) (tj := ti9) (e := 9) (e' := 9) (m := 1) (k := .i64) tbokGB rfl hx8) ?_
  refine DGo.stepW false [18] (x_load_own (d := 18) (m := 1) (j := 0) (L := ([(ByteArray.mk #[97, 116, 108, 97, 115]), (ByteArray.mk #[99, 104, 97, 114, 116, 101, 114]), (ByteArray.mk #[114, 111, 108, 108])] : List ByteArray)) (f := eS) (ti := ti9) (e := 9) (v := vs x8) tbokGB rfl hx8) ?_
  refine DGo.ck tbokGB false 2 ⟨69, [(0, .ref 1000000 0), (3, .own 3), (4, .own 4), (5, vi s4.1), (21, vs x8), (22, .own 4), (23, vi s4.1)], [(3, oa 42 7 eClaim s4.2.1), (4, oa 9 1 eS ([(ByteArray.mk #[97, 115, 104]), (ByteArray.mk #[98, 114, 105, 103]), (ByteArray.mk #[99, 111, 114, 107]), (ByteArray.mk #[97, 115, 104])] : List ByteArray)), (1000000, .box (tc el01Source s4.2.2))]⟩ ?_
  obtain ⟨x9, hx9, h⟩ := bind_some h
  refine DGo.step (x_index_own (d := 4) (L := ([(ByteArray.mk #[97, 115, 104]), (ByteArray.mk #[98, 114, 105, 103]), (ByteArray.mk #[99, 111, 114, 107]), (ByteArray.mk #[97, 115, 104])] : List ByteArray)) (f := eS) (ti := ti52) (tj := ti9) (e := 9) (e' := 9) (m := 1) (k := .i64) tbokGB rfl hx9) ?_
  refine DGo.step (x_load_own (d := 4) (m := 1) (j := 0) (L := ([(ByteArray.mk #[97, 115, 104]), (ByteArray.mk #[98, 114, 105, 103]), (ByteArray.mk #[99, 111, 114, 107]), (ByteArray.mk #[97, 115, 104])] : List ByteArray)) (f := eS) (ti := ti9) (e := 9) (v := vs x9) tbokGB rfl hx9) ?_
  refine DGo.ck tbokGB false 3 ⟨69, [(0, .ref 1000000 0), (3, .own 3), (4, .own 4), (5, vi s4.1), (21, vs x8), (25, vs x9), (26, .own 4), (28, vi (w64 (s4.1 + 1)))], [(3, oa 42 7 eClaim s4.2.1), (4, oa 9 1 eS ([(ByteArray.mk #[97, 115, 104]), (ByteArray.mk #[98, 114, 105, 103]), (ByteArray.mk #[99, 111, 114, 107]), (ByteArray.mk #[97, 115, 104])] : List ByteArray)), (1000000, .box (tc el01Source s4.2.2))]⟩ ?_
  obtain ⟨x10, hx10, h⟩ := bind_some h
  refine DGo.step (x_index_own (d := 4) (L := ([(ByteArray.mk #[97, 115, 104]), (ByteArray.mk #[98, 114, 105, 103]), (ByteArray.mk #[99, 111, 114, 107]), (ByteArray.mk #[97, 115, 104])] : List ByteArray)) (f := eS) (ti := ti52) (tj := ti9) (e := 9) (e' := 9) (m := 1) (k := .i64) tbokGB rfl hx10) ?_
  refine DGo.step (x_load_own (d := 4) (m := 1) (j := 0) (L := ([(ByteArray.mk #[97, 115, 104]), (ByteArray.mk #[98, 114, 105, 103]), (ByteArray.mk #[99, 111, 114, 107]), (ByteArray.mk #[97, 115, 104])] : List ByteArray)) (f := eS) (ti := ti9) (e := 9) (v := vs x10) tbokGB rfl hx10) ?_
  refine DGo.ck tbokGB false 1 ⟨69, [(0, .ref 1000000 0), (3, .own 3), (4, .own 4), (5, vi s4.1), (21, vs x8), (25, vs x9), (30, vs x10), (31, .ref 1000000 0)], [(3, oa 42 7 eClaim s4.2.1), (4, oa 9 1 eS ([(ByteArray.mk #[97, 115, 104]), (ByteArray.mk #[98, 114, 105, 103]), (ByteArray.mk #[99, 111, 114, 107]), (ByteArray.mk #[97, 115, 104])] : List ByteArray)), (1000000, .box (tc el01Source s4.2.2))]⟩ ?_
  obtain ⟨x11, hx11, h⟩ := bind_some h
  refine DGo.write [] (xw ents62 (spec_l01Next_run s4.2.2 20 _ hx11)) ?_
  refine DGo.ck tbokGB false 2 ⟨69, [(0, .ref 1000000 0), (3, .own 3), (4, .own 4), (5, vi s4.1), (21, vs x8), (25, vs x9), (30, vs x10), (33, vi (w64 (1200 + x11.1))), (34, .ref 1000000 0)], [(3, oa 42 7 eClaim s4.2.1), (4, oa 9 1 eS ([(ByteArray.mk #[97, 115, 104]), (ByteArray.mk #[98, 114, 105, 103]), (ByteArray.mk #[99, 111, 114, 107]), (ByteArray.mk #[97, 115, 104])] : List ByteArray)), (1000000, .box (tc el01Source x11.2))]⟩ ?_
  obtain ⟨x12, hx12, h⟩ := bind_some h
  refine DGo.write [] (xw ents62 (spec_l01Next_run x11.2 30 _ hx12)) ?_
  refine DGo.ck tbokGB false 1 ⟨69, [(0, .ref 1000000 0), (3, .own 3), (4, .own 4), (5, vi s4.1), (21, vs x8), (25, vs x9), (30, vs x10), (33, vi (w64 (1200 + x11.1))), (36, vi (w64 (1215 + x12.1)))], [(3, oa 42 7 eClaim s4.2.1), (4, oa 9 1 eS ([(ByteArray.mk #[97, 115, 104]), (ByteArray.mk #[98, 114, 105, 103]), (ByteArray.mk #[99, 111, 114, 107]), (ByteArray.mk #[97, 115, 104])] : List ByteArray)), (1000000, .box (tc el01Source x12.2))]⟩ ?_
  refine DGo.step (x_lstep_build (v := .agg [vi (w64 (1200 + x11.1)), vi (w64 (1215 + x12.1))]) tbokGB rfl) ?_
  refine DGo.ck tbokGB false 1 ⟨69, [(0, .ref 1000000 0), (3, .own 3), (4, .own 4), (5, vi s4.1), (21, vs x8), (25, vs x9), (30, vs x10), (37, .agg [vi (w64 (1200 + x11.1)), vi (w64 (1215 + x12.1))]), (38, .ref 1000000 0)], [(3, oa 42 7 eClaim s4.2.1), (4, oa 9 1 eS ([(ByteArray.mk #[97, 115, 104]), (ByteArray.mk #[98, 114, 105, 103]), (ByteArray.mk #[99, 111, 114, 107]), (ByteArray.mk #[97, 115, 104])] : List ByteArray)), (1000000, .box (tc el01Source x12.2))]⟩ ?_
  obtain ⟨x13, hx13, h⟩ := bind_some h
  refine DGo.write [] (xw ents62 (spec_l01Next_run x12.2 9 _ hx13)) ?_
  refine DGo.ck tbokGB false 1 ⟨69, [(0, .ref 1000000 0), (3, .own 3), (4, .own 4), (5, vi s4.1), (21, vs x8), (25, vs x9), (30, vs x10), (37, .agg [vi (w64 (1200 + x11.1)), vi (w64 (1215 + x12.1))]), (40, vi (w64 (1 + x13.1)))], [(3, oa 42 7 eClaim s4.2.1), (4, oa 9 1 eS ([(ByteArray.mk #[97, 115, 104]), (ByteArray.mk #[98, 114, 105, 103]), (ByteArray.mk #[99, 111, 114, 107]), (ByteArray.mk #[97, 115, 104])] : List ByteArray)), (1000000, .box (tc el01Source x13.2))]⟩ ?_
  refine DGo.step (x_lstep_build (v := .agg [vs x8, vi 1, vs x9, vs x10, vi (w64 (1200 + x11.1)), vi (w64 (1215 + x12.1)), vi (w64 (1 + x13.1))]) tbokGB rfl) ?_
  refine DGo.ck tbokGB false 1 ⟨69, [(0, .ref 1000000 0), (3, .own 3), (4, .own 4), (5, vi s4.1), (6, .ref 6 0), (41, .agg [vs x8, vi 1, vs x9, vs x10, vi (w64 (1200 + x11.1)), vi (w64 (1215 + x12.1)), vi (w64 (1 + x13.1))])], [(3, oa 42 7 eClaim s4.2.1), (4, oa 9 1 eS ([(ByteArray.mk #[97, 115, 104]), (ByteArray.mk #[98, 114, 105, 103]), (ByteArray.mk #[99, 111, 114, 107]), (ByteArray.mk #[97, 115, 104])] : List ByteArray)), (6, .box [vs (ByteArray.mk #[]), vi 0, vs (ByteArray.mk #[]), vs (ByteArray.mk #[]), vi 0, vi 0, vi 0]), (1000000, .box (tc el01Source x13.2))]⟩ ?_
  refine DGo.seq (by kernel_rfl) (by kernel_rfl) ?_
  refine ckn tbokGB 1 ⟨69, [(0, .ref 1000000 0), (3, .own 3), (4, .own 4), (5, vi s4.1), (6, .ref 6 0)], [(3, oa 42 7 eClaim s4.2.1), (4, oa 9 1 eS ([(ByteArray.mk #[97, 115, 104]), (ByteArray.mk #[98, 114, 105, 103]), (ByteArray.mk #[99, 111, 114, 107]), (ByteArray.mk #[97, 115, 104])] : List ByteArray)), (6, .box [vs x8, vi 1, vs x9, vs x10, vi (w64 (1200 + x11.1)), vi (w64 (1215 + x12.1)), vi (w64 (1 + x13.1))]), (1000000, .box (tc el01Source x13.2))]⟩ ?_
  refine sr ?_
  refine SRun.ck tbokGB 1 ⟨69, [(0, .ref 1000000 0), (3, .own 3), (4, .own 4), (5, vi s4.1), (6, .ref 6 0), (42, .agg [vs x8, vi 1, vs x9, vs x10, vi (w64 (1200 + x11.1)), vi (w64 (1215 + x12.1)), vi (w64 (1 + x13.1))])], [(3, oa 42 7 eClaim s4.2.1), (4, oa 9 1 eS ([(ByteArray.mk #[97, 115, 104]), (ByteArray.mk #[98, 114, 105, 103]), (ByteArray.mk #[99, 111, 114, 107]), (ByteArray.mk #[97, 115, 104])] : List ByteArray)), (6, .box [vs x8, vi 1, vs x9, vs x10, vi (w64 (1200 + x11.1)), vi (w64 (1215 + x12.1)), vi (w64 (1 + x13.1))]), (1000000, .box (tc el01Source x13.2))]⟩ ?_
  obtain ⟨x14, hx14, h⟩ := bind_some h
  refine SRun.ls (xc ents63 (spec_IsClaim_run (Claim.mk x8 1 x9 x10 (Span.mk (w64 (1200 + x11.1)) (w64 (1215 + x12.1))) (w64 (1 + x13.1))) _ hx14)) ?_
  refine SRun.nx ?_
  refine swp_cd h (fun h => ?_) fun h => ?_
  refine swp_reg ?_
  refine SRun.ck tbokGB 3 ⟨69, [(0, .ref 1000000 0), (4, .own 4), (5, vi s4.1), (44, .own 3), (46, .own 46)], [(3, oa 42 7 eClaim s4.2.1), (4, oa 9 1 eS ([(ByteArray.mk #[97, 115, 104]), (ByteArray.mk #[98, 114, 105, 103]), (ByteArray.mk #[99, 111, 114, 107]), (ByteArray.mk #[97, 115, 104])] : List ByteArray)), (46, oa 42 7 eClaim ([(Claim.mk x8 1 x9 x10 (Span.mk (w64 (1200 + x11.1)) (w64 (1215 + x12.1))) (w64 (1 + x13.1)))] : List Claim)), (1000000, .box (tc el01Source x13.2))]⟩ ?_
  obtain ⟨x15, hx15, h⟩ := bind_some h
  refine SRun.estep (x_append (f := eClaim) (t := 24) (ti := ti24) (tj := ti42) (zs := [.string (ByteArray.mk #[]), .int .i64 0, .string (ByteArray.mk #[]), .string (ByteArray.mk #[]), .int .i64 0, .int .i64 0, .int .i64 0]) (e := 42) (m := 7) (d := 3) (xv := .own 46) hx15 tbokGB rfl rfl rfl rfl (x_src_o (e := 42))) ?_
  refine SRun.ck tbokGB 1 ⟨69, [(0, .ref 1000000 0), (3, .own 47), (4, .own 4), (5, vi s4.1)], [(4, oa 9 1 eS ([(ByteArray.mk #[97, 115, 104]), (ByteArray.mk #[98, 114, 105, 103]), (ByteArray.mk #[99, 111, 114, 107]), (ByteArray.mk #[97, 115, 104])] : List ByteArray)), (47, oa 42 7 eClaim x15), (1000000, .box (tc el01Source x13.2))]⟩ ?_
  refine SRun.nil ?_
  obtain rfl := inj h
  exact q_bn (q_j (Le.rr [4, 47, 1000000] [(47, 3)]))
  refine swp_skip ?_
  obtain rfl := inj h
  exact q_bn (q_j (Le.sub0))
  refine swp_reg ?_
  refine SRun.ck tbokGB 3 ⟨69, [(0, .ref 1000000 0), (3, .own 3), (4, .own 4), (5, vi (w64 (s4.1 + 1)))], [(3, oa 42 7 eClaim j6.1), (4, oa 9 1 eS ([(ByteArray.mk #[97, 115, 104]), (ByteArray.mk #[98, 114, 105, 103]), (ByteArray.mk #[99, 111, 114, 107]), (ByteArray.mk #[97, 115, 104])] : List ByteArray)), (1000000, .box (tc el01Source j6.2))]⟩ ?_
  refine SRun.nil ?_
  obtain rfl := inj h
  exact q_l (Le.sub0)
  refine swp_exit ?_
  obtain rfl := inj h
  exact nx_e (q_re (q_bh (q_j (Le.sub0))))
  refine swp_skip ?_
  obtain rfl := inj h
  exact q_j (Le.rr [9, 1000000] [(9, 3)])
  refine sr ?_
  refine SRun.ck tbokGB 1 ⟨69, [(3, .own 3), (48, .ref 1000000 0)], [(3, oa 42 7 eClaim j2.1), (1000000, .box (tc el01Source j2.2))]⟩ ?_
  obtain ⟨x16, hx16, h⟩ := bind_some h
  refine SRun.estep (xe ents64 (spec_l20List_run j2.2 _ hx16)) ?_
  refine ckn tbokGB 1 ⟨69, [(3, .own 3), (7, .own 49)], [(3, oa 42 7 eClaim j2.1), (49, oa 42 7 eClaim x16.1), (1000000, .box (tc el01Source x16.2))]⟩ ?_
  refine swp_seq ?_
  refine srk tbokGB ⟨69, [(3, .own 3), (7, .own 49), (8, vi 0)], [(3, oa 42 7 eClaim j2.1), (49, oa 42 7 eClaim x16.1), (1000000, .box (tc el01Source x16.2))]⟩ ?_
  refine swp_seqJ h (fun j17 => ⟨69, [(3, .own 3)], [(3, oa 42 7 eClaim j17), (1000000, .box (tc el01Source x16.2))]⟩) (fun v18 h => ?_) (fun j17 h => ?_)
  refine swp_blk (a := v18) ?_
  refine swp_lpL (r := v18) (s := (0, j2.1)) _ (fun s19 => ⟨69, [(3, .own 3), (7, .own 7), (8, vi s19.1)], [(3, oa 42 7 eClaim s19.2), (7, oa 42 7 eClaim x16.1), (1000000, .box (tc el01Source x16.2))]⟩) _ (Le.rr [3, 49, 1000000] [(49, 7)]) h (fun s19 v20 h => ?_)
  refine swp_seq ?_
  refine swp_seq ?_
  refine swp_regP ⟨69, [(3, .own 3), (7, .own 7), (8, vi s19.1), (58, vb ((decide (s19.1 < (x16.1.length : Int))) && (decide ((s19.2.length : Int) < 9))))], [(3, oa 42 7 eClaim s19.2), (7, oa 42 7 eClaim x16.1), (1000000, .box (tc el01Source x16.2))]⟩ ?_ ?_
  refine SRun.ck tbokGB 5 ⟨69, [(3, .own 3), (7, .own 7), (8, vi s19.1), (54, vb (decide (s19.1 < (x16.1.length : Int))))], [(3, oa 42 7 eClaim s19.2), (7, oa 42 7 eClaim x16.1), (1000000, .box (tc el01Source x16.2))]⟩ ?_
  generalize (decide (s19.1 < (x16.1.length : Int))) = bb
  cases bb
  refine SRun.ck tbokGB 4 ⟨69, [(3, .own 3), (7, .own 7), (8, vi s19.1), (58, vb false)], [(3, oa 42 7 eClaim s19.2), (7, oa 42 7 eClaim x16.1), (1000000, .box (tc el01Source x16.2))]⟩ ?_
  exact SRun.nil (Le.sub0)
  refine SRun.ck tbokGB 4 ⟨69, [(3, .own 3), (7, .own 7), (8, vi s19.1), (58, vb (decide ((s19.2.length : Int) < 9)))], [(3, oa 42 7 eClaim s19.2), (7, oa 42 7 eClaim x16.1), (1000000, .box (tc el01Source x16.2))]⟩ ?_
  exact SRun.nil (Le.sub0)
  refine swp_cd h (fun h => ?_) fun h => ?_
  refine swp_skip ?_
  refine nx_n ?_
  refine swp_seq ?_
  refine swp_seqJ h (fun j21 => ⟨69, [(3, .own 3), (7, .own 7), (8, vi s19.1)], [(3, oa 42 7 eClaim j21), (7, oa 42 7 eClaim x16.1), (1000000, .box (tc el01Source x16.2))]⟩) (fun v22 h => ?_) (fun j21 h => ?_)
  refine swp_blk (a := v22) ?_
  refine swp_reg ?_
  refine SRun.ck tbokGB 3 ⟨69, [(7, .own 7), (8, vi s19.1), (61, .own 3), (62, .own 7), (63, vi s19.1)], [(3, oa 42 7 eClaim s19.2), (7, oa 42 7 eClaim x16.1), (1000000, .box (tc el01Source x16.2))]⟩ ?_
  obtain ⟨x23, hx23, h⟩ := bind_some h
  refine SRun.ls (x_index_own (d := 7) (L := x16.1) (f := eClaim) (ti := ti24) (tj := ti42) (e := 42) (e' := 42) (m := 7) (k := .i64) tbokGB rfl hx23) ?_
  refine SRun.ls (x_load_own (d := 7) (m := 7) (j := 0) (L := x16.1) (f := eClaim) (ti := ti42) (e := 42) (v := .agg (tc eClaim x23)) tbokGB rfl hx23) ?_
  refine SRun.ck tbokGB 1 ⟨69, [(7, .own 7), (8, vi s19.1), (61, .own 3), (66, .own 66)], [(3, oa 42 7 eClaim s19.2), (7, oa 42 7 eClaim x16.1), (66, oa 42 7 eClaim ([x23] : List Claim)), (1000000, .box (tc el01Source x16.2))]⟩ ?_
  obtain ⟨x24, hx24, h⟩ := bind_some h
  refine SRun.estep (x_append (f := eClaim) (t := 24) (ti := ti24) (tj := ti42) (zs := [.string (ByteArray.mk #[]), .int .i64 0, .string (ByteArray.mk #[]), .string (ByteArray.mk #[]), .int .i64 0, .int .i64 0, .int .i64 0]) (e := 42) (m := 7) (d := 3) (xv := .own 66) hx24 tbokGB rfl rfl rfl rfl (x_src_o (e := 42))) ?_
  refine SRun.ck tbokGB 1 ⟨69, [(3, .own 67), (7, .own 7), (8, vi s19.1)], [(7, oa 42 7 eClaim x16.1), (67, oa 42 7 eClaim x24), (1000000, .box (tc el01Source x16.2))]⟩ ?_
  refine SRun.nil ?_
  obtain rfl := inj h
  exact q_bn (q_j (Le.rr [7, 67, 1000000] [(67, 3)]))
  refine swp_reg ?_
  refine SRun.ck tbokGB 3 ⟨69, [(3, .own 3), (7, .own 7), (8, vi (w64 (s19.1 + 1)))], [(3, oa 42 7 eClaim j21), (7, oa 42 7 eClaim x16.1), (1000000, .box (tc el01Source x16.2))]⟩ ?_
  refine SRun.nil ?_
  obtain rfl := inj h
  exact q_l (Le.sub0)
  refine swp_exit ?_
  obtain rfl := inj h
  exact nx_e (q_re (q_bh (q_j (Le.sub0))))
  refine srk tbokGB ⟨69, [(2, .own 3)], [(3, oa 42 7 eClaim j17), (1000000, .box (tc el01Source x16.2))]⟩ ?_
  refine swp_ret ?_
  obtain rfl := inj h
  exact q_fr (fin_io (f1 (fo eClaim_flat)) (y := .box (tc el01Source x16.2)) (by kernel_rfl) rfl (by kernel_rfl) (by kernel_rfl))
theorem ents32 : Ents Tryz.prog 32 := ents_of Tryz.func32 (by kernel_rfl) rfl
noncomputable def spec_DrawBestRepair (aCode : (List Int)) : Option ((List Claim)) :=
  ((spec_l01From aCode).bind fun x1 => ((spec_l21List x1).bind fun x2 => some x2.1))
theorem spec_DrawBestRepair_run (aCode : (List Int)) (r : (List Claim)) (h : spec_DrawBestRepair aCode = some r) : SCall Tryz.prog 8 [.v (vl (eI .u8) aCode)] ⟨[.own 42 7 r.length (r.map eClaim)], [], false⟩ := by
  refine scall_in Tryz.func8 rfl [(.tmp 2)] rfl (fun r => ⟨[.own 42 7 r.length (r.map eClaim)], [], false⟩) (r := r) ?_
  unfold spec_DrawBestRepair at h
  refine srk tbokGB ⟨6, [(0, vl (eI .u8) aCode)], []⟩ ?_
  refine sr ?_
  refine SRun.ck tbokGB 1 ⟨6, [(3, vl (eI .u8) aCode)], []⟩ ?_
  obtain ⟨x1, hx1, h⟩ := bind_some h
  refine SRun.ls (xc ents33 (spec_l01From_run aCode _ hx1)) ?_
  obtain ⟨x2, hx2, h⟩ := bind_some h
  refine SRun.estep (xe ents32 (spec_l21List_run x1 _ hx2)) ?_
  refine ckn tbokGB 1 ⟨6, [(2, .own 5)], [(5, oa 42 7 eClaim x2.1)]⟩ ?_
  refine swp_ret ?_
  obtain rfl := inj h
  exact q_fr (f1 (fo eClaim_flat))
theorem ents8 : Ents Tryz.prog 8 := ents_of Tryz.func8 (by kernel_rfl) rfl
noncomputable def impl_BestRepair (aList : (List Claim)) : Option ((List Int) × Int × Int) :=
  ((impl_AreClaims aList).bind fun x1 => (bif (!x1) then some (([] : List Int), 0, 1) else ((impl_bestRepair aList).bind fun x2 => ((impl_weightOf aList x2).bind fun x3 => some (x2, x3, 0)))))
theorem impl_BestRepair_run (aList : (List Claim)) (r : (List Int) × Int × Int) (h : impl_BestRepair aList = some r) : SCall Tryz.prog 9 [.v (vl eClaim aList)] ⟨[.v (vl (eI .i64) r.1), .v (vi r.2.1), .v (vi r.2.2)], [], true⟩ := by
  refine scall_in Tryz.func9 rfl [(.tmp 2), (.tmp 3), (.tmp 4)] rfl (fun r => ⟨[.v (vl (eI .i64) r.1), .v (vi r.2.1), .v (vi r.2.2)], [], true⟩) (r := r) ?_
  unfold impl_BestRepair at h
  refine srk tbokGB ⟨15, [(0, vl eClaim aList)], []⟩ ?_
  refine swp_seq ?_
  refine sr ?_
  refine SRun.ck tbokGB 1 ⟨15, [(0, vl eClaim aList), (6, vl eClaim aList)], []⟩ ?_
  obtain ⟨x1, hx1, h⟩ := bind_some h
  refine SRun.ls (xc ents34 (impl_AreClaims_run aList _ hx1)) ?_
  refine ckn tbokGB 1 ⟨15, [(0, vl eClaim aList), (8, vb (!x1))], []⟩ ?_
  refine swp_cd h (fun h => ?_) fun h => ?_
  refine srk tbokGB ⟨15, [(2, .own 2), (3, vi 0), (4, vi 1)], [(2, oa 2 1 (eI .i64) ([] : List Int))]⟩ ?_
  refine swp_le (Le.frz' (d := 2) (e := 2) (m := 1) (n := ([] : List Int).length) (es := ([] : List Int).map (eI .i64)) (by kernel_rfl) (by kernel_rfl)) ?_
  refine swp_ret ?_
  obtain rfl := inj h
  exact nx_r (q_fr (fin3 (by kernel_rfl) ft ft ft))
  refine swp_skip ?_
  refine nx_n ?_
  refine sr ?_
  refine SRun.ck tbokGB 1 ⟨15, [(0, vl eClaim aList), (9, vl eClaim aList)], []⟩ ?_
  obtain ⟨x2, hx2, h⟩ := bind_some h
  refine SRun.ls (xc ents35 (impl_bestRepair_run aList _ hx2)) ?_
  refine ckn tbokGB 1 ⟨15, [(0, vl eClaim aList), (5, vl (eI .i64) x2)], []⟩ ?_
  refine sr ?_
  refine SRun.ck tbokGB 3 ⟨15, [(11, vl (eI .i64) x2), (12, vl eClaim aList), (13, vl (eI .i64) x2)], []⟩ ?_
  obtain ⟨x3, hx3, h⟩ := bind_some h
  refine SRun.ls (xc ents36 (impl_weightOf_run aList x2 _ hx3)) ?_
  refine ckn tbokGB 3 ⟨15, [(2, vl (eI .i64) x2), (3, vi x3), (4, vi 0)], []⟩ ?_
  refine swp_ret ?_
  obtain rfl := inj h
  exact q_fr (fin3 (by kernel_rfl) ft ft ft)
theorem ents9 : Ents Tryz.prog 9 := ents_of Tryz.func9 (by kernel_rfl) rfl
noncomputable def spec_BestRepair (aList : (List Claim)) : Option ((List Int) × Int × Int) :=
  ((spec_AreClaims aList).bind fun x1 => (bif (!x1) then some (([] : List Int), 0, 1) else ((spec_l22Best aList).bind fun x2 => some (x2.1, x2.2, 0))))
theorem spec_BestRepair_run (aList : (List Claim)) (r : (List Int) × Int × Int) (h : spec_BestRepair aList = some r) : SCall Tryz.prog 10 [.v (vl eClaim aList)] ⟨[.v (vl (eI .i64) r.1), .v (vi r.2.1), .v (vi r.2.2)], [], true⟩ := by
  refine scall_in Tryz.func10 rfl [(.tmp 2), (.tmp 3), (.tmp 4)] rfl (fun r => ⟨[.v (vl (eI .i64) r.1), .v (vi r.2.1), .v (vi r.2.2)], [], true⟩) (r := r) ?_
  unfold spec_BestRepair at h
  refine srk tbokGB ⟨17, [(0, vl eClaim aList)], []⟩ ?_
  refine swp_seq ?_
  refine sr ?_
  refine SRun.ck tbokGB 1 ⟨17, [(0, vl eClaim aList), (7, vl eClaim aList)], []⟩ ?_
  obtain ⟨x1, hx1, h⟩ := bind_some h
  refine SRun.ls (xc ents37 (spec_AreClaims_run aList _ hx1)) ?_
  refine ckn tbokGB 1 ⟨17, [(0, vl eClaim aList), (9, vb (!x1))], []⟩ ?_
  refine swp_cd h (fun h => ?_) fun h => ?_
  refine srk tbokGB ⟨17, [(2, .own 2), (3, vi 0), (4, vi 1)], [(2, oa 2 1 (eI .i64) ([] : List Int))]⟩ ?_
  refine swp_le (Le.frz' (d := 2) (e := 2) (m := 1) (n := ([] : List Int).length) (es := ([] : List Int).map (eI .i64)) (by kernel_rfl) (by kernel_rfl)) ?_
  refine swp_ret ?_
  obtain rfl := inj h
  exact nx_r (q_fr (fin3 (by kernel_rfl) ft ft ft))
  refine swp_skip ?_
  refine nx_n ?_
  refine sr ?_
  refine SRun.ck tbokGB 1 ⟨17, [(11, vl eClaim aList)], []⟩ ?_
  obtain ⟨x2, hx2, h⟩ := bind_some h
  refine SRun.ls (xc ents38 (spec_l22Best_run aList _ hx2)) ?_
  refine ckn tbokGB 5 ⟨17, [(5, vl (eI .i64) x2.1), (6, vi x2.2)], []⟩ ?_
  refine srk tbokGB ⟨17, [(2, vl (eI .i64) x2.1), (3, vi x2.2), (4, vi 0)], []⟩ ?_
  refine swp_ret ?_
  obtain rfl := inj h
  exact q_fr (fin3 (by kernel_rfl) ft ft ft)
theorem ents10 : Ents Tryz.prog 10 := ents_of Tryz.func10 (by kernel_rfl) rfl
noncomputable def laws_likeInts (aA : (List Int)) (aB : (List Int)) : Option (Bool) :=
  (bif ((aA.length : Int) != (aB.length : Int)) then some false else (((forN (aA.length : Int) (fun (i3 : Int) (_ : Unit) => ((at' aA i3).bind fun x7 => ((at' aB i3).bind fun x8 => (bif (x7 != x8) then some (.inr (.inr false)) else some (.inl ()))))) (fun (_ : Unit) => .inl ()) 0 ())).bind (Sum.elim (fun (_ : Unit) => some true) some)))
theorem laws_likeInts_run (aA : (List Int)) (aB : (List Int)) (r : Bool) (h : laws_likeInts aA aB = some r) : SCall Tryz.prog 11 [.v (vl (eI .i64) aA), .v (vl (eI .i64) aB)] ⟨[.v (vb r)], [], false⟩ := by
  refine scall_in Tryz.func11 rfl [(.tmp 4)] rfl (fun r => ⟨[.v (vb r)], [], false⟩) (r := r) ?_
  unfold laws_likeInts at h
  refine srk tbokGB ⟨26, [(0, vl (eI .i64) aA), (1, vl (eI .i64) aB)], []⟩ ?_
  refine swp_seq ?_
  refine srk tbokGB ⟨26, [(0, vl (eI .i64) aA), (1, vl (eI .i64) aB), (10, vb ((aA.length : Int) != (aB.length : Int)))], []⟩ ?_
  refine swp_cd h (fun h => ?_) fun h => ?_
  refine srk tbokGB ⟨26, [(4, vb false)], []⟩ ?_
  refine swp_ret ?_
  obtain rfl := inj h
  exact nx_r (q_fr (f1 fv))
  refine swp_skip ?_
  refine nx_n ?_
  refine swp_seq ?_
  refine srk tbokGB ⟨26, [(0, vl (eI .i64) aA), (1, vl (eI .i64) aB), (5, vi 0)], []⟩ ?_
  refine swp_seqE (r := r) h (fun j1 => ⟨26, [], []⟩) (fun v2 h => ?_) (fun j1 h => ?_)
  refine swp_blk (a := v2) ?_
  refine swp_lpL (r := v2) (s := (0, ())) _ (fun s3 => ⟨26, [(0, vl (eI .i64) aA), (1, vl (eI .i64) aB), (5, vi s3.1)], []⟩) _ (Le.sub0) h (fun s3 v4 h => ?_)
  refine swp_seq ?_
  refine srk tbokGB ⟨26, [(0, vl (eI .i64) aA), (1, vl (eI .i64) aB), (5, vi s3.1), (14, vb (decide (s3.1 < (aA.length : Int))))], []⟩ ?_
  refine swp_cd h (fun h => ?_) fun h => ?_
  refine swp_skip ?_
  refine nx_n ?_
  refine swp_seq ?_
  refine swp_seqL (r := v4) h (fun j5 => ⟨26, [(0, vl (eI .i64) aA), (1, vl (eI .i64) aB), (5, vi s3.1)], []⟩) (fun v6 h => ?_) (fun j5 h => ?_)
  refine swp_blk (a := v6) ?_
  refine swp_seq ?_
  refine swp_dr mixed ?_
  refine DGo.ck tbokGB false 2 ⟨26, [(0, vl (eI .i64) aA), (1, vl (eI .i64) aB), (5, vi s3.1), (17, vl (eI .i64) aA), (18, vi s3.1)], []⟩ ?_
  obtain ⟨x7, hx7, h⟩ := bind_some h
  refine DGo.step (x_index (L := aA) (f := (eI .i64)) (ti := ti26) (tj := ti2) (e := 2) (k := .i64) tbokGB rfl hx7) ?_
  refine DGo.ck tbokGB false 3 ⟨26, [(0, vl (eI .i64) aA), (1, vl (eI .i64) aB), (5, vi s3.1), (20, vi x7), (21, vl (eI .i64) aB), (22, vi s3.1)], []⟩ ?_
  obtain ⟨x8, hx8, h⟩ := bind_some h
  refine DGo.step (x_index (L := aB) (f := (eI .i64)) (ti := ti26) (tj := ti2) (e := 2) (k := .i64) tbokGB rfl hx8) ?_
  refine DGo.ck tbokGB false 2 ⟨26, [(0, vl (eI .i64) aA), (1, vl (eI .i64) aB), (5, vi s3.1), (25, vb (x7 != x8))], []⟩ ?_
  refine DGo.nx ?_
  refine swp_cd h (fun h => ?_) fun h => ?_
  refine srk tbokGB ⟨26, [(4, vb false)], []⟩ ?_
  refine swp_ret ?_
  obtain rfl := inj h
  exact q_br (q_rr (q_rr (q_br (q_rr (q_fr (f1 fv))))))
  refine swp_skip ?_
  obtain rfl := inj h
  exact q_bn (q_l (Le.sub0))
  refine swp_reg ?_
  refine SRun.ck tbokGB 3 ⟨26, [(0, vl (eI .i64) aA), (1, vl (eI .i64) aB), (5, vi (w64 (s3.1 + 1)))], []⟩ ?_
  refine SRun.nil ?_
  obtain rfl := inj h
  exact q_l (Le.sub0)
  refine swp_exit ?_
  obtain rfl := inj h
  exact nx_e (q_re (q_bh (q_l (Le.sub0))))
  refine srk tbokGB ⟨26, [(4, vb true)], []⟩ ?_
  refine swp_ret ?_
  obtain rfl := inj h
  exact q_fr (f1 fv)
theorem ents11 : Ents Tryz.prog 11 := ents_of Tryz.func11 (by kernel_rfl) rfl
noncomputable def impl_length_Claim (aList : (List Claim)) : Option (Int) :=
  some (aList.length : Int)
theorem impl_length_Claim_run (aList : (List Claim)) (r : Int) (h : impl_length_Claim aList = some r) : SCall Tryz.prog 78 [.v (vl eClaim aList)] ⟨[.v (vi r)], [], false⟩ := by
  refine scall_in Tryz.func78 rfl [(.tmp 2)] rfl (fun r => ⟨[.v (vi r)], [], false⟩) (r := r) ?_
  unfold impl_length_Claim at h
  refine srk tbokGB ⟨5, [(0, vl eClaim aList)], []⟩ ?_
  refine srk tbokGB ⟨5, [(2, vi (aList.length : Int))], []⟩ ?_
  refine swp_ret ?_
  obtain rfl := inj h
  exact q_fr (f1 fv)
theorem ents78 : Ents Tryz.prog 78 := ents_of Tryz.func78 (by kernel_rfl) rfl
noncomputable def impl_areIndices (aList : (List Int)) (aN : Int) : Option (Bool) :=
  (((forN (aList.length : Int) (fun (i3 : Int) (_ : Unit) => ((at' aList i3).bind fun x7 => ((((impl_within x7 0 (w64 (aN - 1))).bind fun x8 => (bif (!x8) then some true else (bif (decide (i3 > 0)) then ((at' aList (w64 (i3 - 1))).bind fun x9 => some (decide (x9 ≥ x7))) else some false)))).bind fun (j10 : Bool) => (bif j10 then some (.inr (.inr false)) else some (.inl ()))))) (fun (_ : Unit) => .inl ()) 0 ())).bind (Sum.elim (fun (_ : Unit) => some true) some))
theorem impl_areIndices_run (aList : (List Int)) (aN : Int) (r : Bool) (h : impl_areIndices aList aN = some r) : SCall Tryz.prog 77 [.v (vl (eI .i64) aList), .v (vi aN)] ⟨[.v (vb r)], [], false⟩ := by
  refine scall_in Tryz.func77 rfl [(.tmp 4)] rfl (fun r => ⟨[.v (vb r)], [], false⟩) (r := r) ?_
  unfold impl_areIndices at h
  refine srk tbokGB ⟨33, [(0, vl (eI .i64) aList), (1, vi aN)], []⟩ ?_
  refine swp_seq ?_
  refine srk tbokGB ⟨33, [(0, vl (eI .i64) aList), (1, vi aN), (7, vl (eI .i64) aList), (8, vi (aList.length : Int)), (9, vi 0)], []⟩ ?_
  refine swp_seqE (r := r) h (fun j1 => ⟨33, [], []⟩) (fun v2 h => ?_) (fun j1 h => ?_)
  refine swp_blk (a := v2) ?_
  refine swp_lpL (r := v2) (s := (0, ())) _ (fun s3 => ⟨33, [(0, vl (eI .i64) aList), (1, vi aN), (7, vl (eI .i64) aList), (8, vi (aList.length : Int)), (9, vi s3.1)], []⟩) _ (Le.sub0) h (fun s3 v4 h => ?_)
  refine srk tbokGB ⟨33, [(0, vl (eI .i64) aList), (1, vi aN), (7, vl (eI .i64) aList), (8, vi (aList.length : Int)), (9, vi s3.1), (10, vb (decide (s3.1 < (aList.length : Int))))], []⟩ ?_
  refine swp_seq ?_
  refine swp_cd h (fun h => ?_) fun h => ?_
  refine swp_skip ?_
  refine nx_n ?_
  refine swp_seq ?_
  refine swp_seqL (r := v4) h (fun j5 => ⟨33, [(0, vl (eI .i64) aList), (1, vi aN), (7, vl (eI .i64) aList), (8, vi (aList.length : Int)), (9, vi s3.1)], []⟩) (fun v6 h => ?_) (fun j5 h => ?_)
  refine swp_blk (a := v6) ?_
  refine sr ?_
  refine SRun.ck tbokGB 1 ⟨33, [(0, vl (eI .i64) aList), (1, vi aN), (7, vl (eI .i64) aList), (8, vi (aList.length : Int)), (9, vi s3.1), (11, vi s3.1)], []⟩ ?_
  obtain ⟨x7, hx7, h⟩ := bind_some h
  refine SRun.ls (x_index (L := aList) (f := (eI .i64)) (ti := ti26) (tj := ti2) (e := 2) (k := .i64) tbokGB rfl hx7) ?_
  refine ckn tbokGB 3 ⟨33, [(0, vl (eI .i64) aList), (1, vi aN), (5, vi s3.1), (6, vi x7), (7, vl (eI .i64) aList), (8, vi (aList.length : Int)), (9, vi s3.1)], []⟩ ?_
  refine swp_seq ?_
  refine swp_regJ h (fun j10 => ⟨33, [(0, vl (eI .i64) aList), (1, vi aN), (7, vl (eI .i64) aList), (8, vi (aList.length : Int)), (9, vi s3.1), (31, vb j10)], []⟩) (fun v11 h => ?_) (fun j10 h => ?_)
  refine SRun.ck tbokGB 3 ⟨33, [(0, vl (eI .i64) aList), (1, vi aN), (5, vi s3.1), (6, vi x7), (7, vl (eI .i64) aList), (8, vi (aList.length : Int)), (9, vi s3.1), (14, vi x7), (16, vi (w64 (aN - 1)))], []⟩ ?_
  obtain ⟨x8, hx8, h⟩ := bind_some h
  refine SRun.ls (xc ents121 (impl_within_run x7 0 (w64 (aN - 1)) _ hx8)) ?_
  refine SRun.ck tbokGB 2 ⟨33, [(0, vl (eI .i64) aList), (1, vi aN), (5, vi s3.1), (6, vi x7), (7, vl (eI .i64) aList), (8, vi (aList.length : Int)), (9, vi s3.1), (19, vb (!x8))], []⟩ ?_
  refine SRun.cu [(19, fun b => b)] h (fun h => ?_) fun h => ?_
  refine SRun.ck tbokGB 12 ⟨33, [(0, vl (eI .i64) aList), (1, vi aN), (7, vl (eI .i64) aList), (8, vi (aList.length : Int)), (9, vi s3.1), (31, vb true)], []⟩ ?_
  refine SRun.nil ?_
  obtain rfl := inj h
  exact Le.sub0
  refine SRun.ck tbokGB 3 ⟨33, [(0, vl (eI .i64) aList), (1, vi aN), (5, vi s3.1), (6, vi x7), (7, vl (eI .i64) aList), (8, vi (aList.length : Int)), (9, vi s3.1), (19, vb false), (22, vb (decide (s3.1 > 0)))], []⟩ ?_
  refine SRun.cu [(22, fun b => b)] h (fun h => ?_) fun h => ?_
  refine SRun.ck tbokGB 3 ⟨33, [(0, vl (eI .i64) aList), (1, vi aN), (6, vi x7), (7, vl (eI .i64) aList), (8, vi (aList.length : Int)), (9, vi s3.1), (19, vb false), (22, vb true), (23, vl (eI .i64) aList), (25, vi (w64 (s3.1 - 1)))], []⟩ ?_
  obtain ⟨x9, hx9, h⟩ := bind_some h
  refine SRun.ls (x_index (L := aList) (f := (eI .i64)) (ti := ti26) (tj := ti2) (e := 2) (k := .i64) tbokGB rfl hx9) ?_
  refine SRun.ck tbokGB 5 ⟨33, [(0, vl (eI .i64) aList), (1, vi aN), (7, vl (eI .i64) aList), (8, vi (aList.length : Int)), (9, vi s3.1), (31, vb (decide (x9 ≥ x7)))], []⟩ ?_
  refine SRun.nil ?_
  obtain rfl := inj h
  exact Le.sub0
  refine SRun.ck tbokGB 9 ⟨33, [(0, vl (eI .i64) aList), (1, vi aN), (7, vl (eI .i64) aList), (8, vi (aList.length : Int)), (9, vi s3.1), (31, vb false)], []⟩ ?_
  refine SRun.nil ?_
  obtain rfl := inj h
  exact Le.sub0
  refine swp_cd h (fun h => ?_) fun h => ?_
  refine srk tbokGB ⟨33, [(4, vb false)], []⟩ ?_
  refine swp_ret ?_
  obtain rfl := inj h
  exact q_br (q_rr (q_rr (q_br (q_rr (q_fr (f1 fv))))))
  refine swp_skip ?_
  obtain rfl := inj h
  exact q_bn (q_l (Le.sub0))
  refine swp_reg ?_
  refine SRun.ck tbokGB 2 ⟨33, [(0, vl (eI .i64) aList), (1, vi aN), (7, vl (eI .i64) aList), (8, vi (aList.length : Int)), (9, vi (w64 (s3.1 + 1)))], []⟩ ?_
  refine SRun.nil ?_
  obtain rfl := inj h
  exact q_l (Le.sub0)
  refine swp_exit ?_
  obtain rfl := inj h
  exact nx_e (q_re (q_bh (q_l (Le.sub0))))
  refine srk tbokGB ⟨33, [(4, vb true)], []⟩ ?_
  refine swp_ret ?_
  obtain rfl := inj h
  exact q_fr (f1 fv)
theorem ents77 : Ents Tryz.prog 77 := ents_of Tryz.func77 (by kernel_rfl) rfl
noncomputable def impl_chosenCode (aList : (List Claim)) (aIndices : (List Int)) : Option (Int) :=
  ((((impl_AreClaims aList).bind fun x3 => (bif (!x3) then some (.inr 1) else ((impl_length_Claim aList).bind fun x4 => ((impl_areIndices aIndices x4).bind fun x5 => (bif (!x5) then some (.inr 2) else some (.inl ()))))))).bind (Sum.elim (fun (_ : Unit) => some 0) some))
theorem impl_chosenCode_run (aList : (List Claim)) (aIndices : (List Int)) (r : Int) (h : impl_chosenCode aList aIndices = some r) : SCall Tryz.prog 39 [.v (vl eClaim aList), .v (vl (eI .i64) aIndices)] ⟨[.v (vi r)], [], false⟩ := by
  refine scall_in Tryz.func39 rfl [(.tmp 4)] rfl (fun r => ⟨[.v (vi r)], [], false⟩) (r := r) ?_
  unfold impl_chosenCode at h
  refine srk tbokGB ⟨15, [(0, vl eClaim aList), (1, vl (eI .i64) aIndices)], []⟩ ?_
  refine swp_seq ?_
  refine swp_seqE (r := r) h (fun j1 => ⟨15, [], []⟩) (fun v2 h => ?_) (fun j1 h => ?_)
  refine swp_blk (a := v2) ?_
  refine sr ?_
  refine SRun.ck tbokGB 1 ⟨15, [(0, vl eClaim aList), (1, vl (eI .i64) aIndices), (6, vl eClaim aList)], []⟩ ?_
  obtain ⟨x3, hx3, h⟩ := bind_some h
  refine SRun.ls (xc ents34 (impl_AreClaims_run aList _ hx3)) ?_
  refine ckn tbokGB 2 ⟨15, [(0, vl eClaim aList), (1, vl (eI .i64) aIndices), (5, vb (!x3))], []⟩ ?_
  refine swp_cd h (fun h => ?_) fun h => ?_
  refine srk tbokGB ⟨15, [(4, vi 1)], []⟩ ?_
  refine swp_ret ?_
  obtain rfl := inj h
  exact q_br (q_rr (q_fr (f1 fv)))
  refine sr ?_
  refine SRun.ck tbokGB 2 ⟨15, [(10, vl (eI .i64) aIndices), (11, vl eClaim aList)], []⟩ ?_
  obtain ⟨x4, hx4, h⟩ := bind_some h
  refine SRun.ls (xc ents78 (impl_length_Claim_run aList _ hx4)) ?_
  obtain ⟨x5, hx5, h⟩ := bind_some h
  refine SRun.ls (xc ents77 (impl_areIndices_run aIndices x4 _ hx5)) ?_
  refine ckn tbokGB 2 ⟨15, [(9, vb (!x5))], []⟩ ?_
  refine swp_cd h (fun h => ?_) fun h => ?_
  refine srk tbokGB ⟨15, [(4, vi 2)], []⟩ ?_
  refine swp_ret ?_
  obtain rfl := inj h
  exact q_br (q_rr (q_fr (f1 fv)))
  refine swp_skip ?_
  obtain rfl := inj h
  exact q_bn (q_l (Le.sub0))
  refine srk tbokGB ⟨15, [(4, vi 0)], []⟩ ?_
  refine swp_ret ?_
  obtain rfl := inj h
  exact q_fr (f1 fv)
theorem ents39 : Ents Tryz.prog 39 := ents_of Tryz.func39 (by kernel_rfl) rfl
noncomputable def impl_KeptClaims (aList : (List Claim)) (aRemoved : (List Int)) : Option ((List Claim) × Int) :=
  ((impl_chosenCode aList aRemoved).bind fun x1 => (bif (x1 != 0) then some (([] : List Claim), x1) else ((impl_kept aList aRemoved).bind fun x2 => some (x2, 0))))
theorem impl_KeptClaims_run (aList : (List Claim)) (aRemoved : (List Int)) (r : (List Claim) × Int) (h : impl_KeptClaims aList aRemoved = some r) : SCall Tryz.prog 12 [.v (vl eClaim aList), .v (vl (eI .i64) aRemoved)] ⟨[.own 42 7 r.1.length (r.1.map eClaim), .v (vi r.2)], [], false⟩ := by
  refine scall_in Tryz.func12 rfl [(.tmp 4), (.tmp 5)] rfl (fun r => ⟨[.own 42 7 r.1.length (r.1.map eClaim), .v (vi r.2)], [], false⟩) (r := r) ?_
  unfold impl_KeptClaims at h
  refine srk tbokGB ⟨16, [(0, vl eClaim aList), (1, vl (eI .i64) aRemoved)], []⟩ ?_
  refine swp_seq ?_
  refine sr ?_
  refine SRun.ck tbokGB 2 ⟨16, [(0, vl eClaim aList), (1, vl (eI .i64) aRemoved), (7, vl eClaim aList), (8, vl (eI .i64) aRemoved)], []⟩ ?_
  obtain ⟨x1, hx1, h⟩ := bind_some h
  refine SRun.ls (xc ents39 (impl_chosenCode_run aList aRemoved _ hx1)) ?_
  refine ckn tbokGB 1 ⟨16, [(0, vl eClaim aList), (1, vl (eI .i64) aRemoved), (6, vi x1)], []⟩ ?_
  refine srk tbokGB ⟨16, [(0, vl eClaim aList), (1, vl (eI .i64) aRemoved), (6, vi x1), (11, vb (x1 != 0))], []⟩ ?_
  refine swp_cd h (fun h => ?_) fun h => ?_
  refine srk tbokGB ⟨16, [(4, .own 4), (5, vi x1)], [(4, oa 42 7 eClaim ([] : List Claim))]⟩ ?_
  refine swp_ret ?_
  obtain rfl := inj h
  exact nx_r (q_fr (f2 (fo eClaim_flat) fv))
  refine swp_skip ?_
  refine nx_n ?_
  refine sr ?_
  refine SRun.ck tbokGB 2 ⟨16, [(13, vl eClaim aList), (14, vl (eI .i64) aRemoved)], []⟩ ?_
  obtain ⟨x2, hx2, h⟩ := bind_some h
  refine SRun.ls (xc ents40 (impl_kept_run aList aRemoved _ hx2)) ?_
  refine ckn tbokGB 2 ⟨16, [(4, .own 15), (5, vi 0)], [(15, oa 42 7 eClaim x2)]⟩ ?_
  refine swp_ret ?_
  obtain rfl := inj h
  exact q_fr (f2 (fo eClaim_flat) fv)
theorem ents12 : Ents Tryz.prog 12 := ents_of Tryz.func12 (by kernel_rfl) rfl
noncomputable def impl_AreConsistent (aList : (List Claim)) : Option (Bool × Int) :=
  ((impl_AreClaims aList).bind fun x1 => (bif (!x1) then some (false, 1) else ((impl_areConsistent aList).bind fun x2 => some (x2, 0))))
theorem impl_AreConsistent_run (aList : (List Claim)) (r : Bool × Int) (h : impl_AreConsistent aList = some r) : SCall Tryz.prog 13 [.v (vl eClaim aList)] ⟨[.v (vb r.1), .v (vi r.2)], [], false⟩ := by
  refine scall_in Tryz.func13 rfl [(.tmp 2), (.tmp 3)] rfl (fun r => ⟨[.v (vb r.1), .v (vi r.2)], [], false⟩) (r := r) ?_
  unfold impl_AreConsistent at h
  refine srk tbokGB ⟨9, [(0, vl eClaim aList)], []⟩ ?_
  refine swp_seq ?_
  refine sr ?_
  refine SRun.ck tbokGB 1 ⟨9, [(0, vl eClaim aList), (4, vl eClaim aList)], []⟩ ?_
  obtain ⟨x1, hx1, h⟩ := bind_some h
  refine SRun.ls (xc ents34 (impl_AreClaims_run aList _ hx1)) ?_
  refine ckn tbokGB 1 ⟨9, [(0, vl eClaim aList), (6, vb (!x1))], []⟩ ?_
  refine swp_cd h (fun h => ?_) fun h => ?_
  refine srk tbokGB ⟨9, [(2, vb false), (3, vi 1)], []⟩ ?_
  refine swp_ret ?_
  obtain rfl := inj h
  exact nx_r (q_fr (f2 fv fv))
  refine swp_skip ?_
  refine nx_n ?_
  refine sr ?_
  refine SRun.ck tbokGB 1 ⟨9, [(7, vl eClaim aList)], []⟩ ?_
  obtain ⟨x2, hx2, h⟩ := bind_some h
  refine SRun.ls (xc ents41 (impl_areConsistent_run aList _ hx2)) ?_
  refine ckn tbokGB 2 ⟨9, [(2, vb x2), (3, vi 0)], []⟩ ?_
  refine swp_ret ?_
  obtain rfl := inj h
  exact q_fr (f2 fv fv)
theorem ents13 : Ents Tryz.prog 13 := ents_of Tryz.func13 (by kernel_rfl) rfl
noncomputable def impl_HitsAll (aList : (List Claim)) (aIndices : (List Int)) : Option (Bool × Int) :=
  ((impl_chosenCode aList aIndices).bind fun x1 => (bif (x1 != 0) then some (false, x1) else ((impl_kept aList aIndices).bind fun x2 => ((impl_areConsistent x2).bind fun x3 => some (x3, 0)))))
theorem impl_HitsAll_run (aList : (List Claim)) (aIndices : (List Int)) (r : Bool × Int) (h : impl_HitsAll aList aIndices = some r) : SCall Tryz.prog 14 [.v (vl eClaim aList), .v (vl (eI .i64) aIndices)] ⟨[.v (vb r.1), .v (vi r.2)], [], false⟩ := by
  refine scall_in Tryz.func14 rfl [(.tmp 4), (.tmp 5)] rfl (fun r => ⟨[.v (vb r.1), .v (vi r.2)], [], false⟩) (r := r) ?_
  unfold impl_HitsAll at h
  refine srk tbokGB ⟨17, [(0, vl eClaim aList), (1, vl (eI .i64) aIndices)], []⟩ ?_
  refine swp_seq ?_
  refine sr ?_
  refine SRun.ck tbokGB 2 ⟨17, [(0, vl eClaim aList), (1, vl (eI .i64) aIndices), (7, vl eClaim aList), (8, vl (eI .i64) aIndices)], []⟩ ?_
  obtain ⟨x1, hx1, h⟩ := bind_some h
  refine SRun.ls (xc ents39 (impl_chosenCode_run aList aIndices _ hx1)) ?_
  refine ckn tbokGB 1 ⟨17, [(0, vl eClaim aList), (1, vl (eI .i64) aIndices), (6, vi x1)], []⟩ ?_
  refine srk tbokGB ⟨17, [(0, vl eClaim aList), (1, vl (eI .i64) aIndices), (6, vi x1), (11, vb (x1 != 0))], []⟩ ?_
  refine swp_cd h (fun h => ?_) fun h => ?_
  refine srk tbokGB ⟨17, [(4, vb false), (5, vi x1)], []⟩ ?_
  refine swp_ret ?_
  obtain rfl := inj h
  exact nx_r (q_fr (f2 fv fv))
  refine swp_skip ?_
  refine nx_n ?_
  refine sr ?_
  refine SRun.ck tbokGB 2 ⟨17, [(13, vl eClaim aList), (14, vl (eI .i64) aIndices)], []⟩ ?_
  obtain ⟨x2, hx2, h⟩ := bind_some h
  refine SRun.ls (xc ents40 (impl_kept_run aList aIndices _ hx2)) ?_
  obtain ⟨x3, hx3, h⟩ := bind_some h
  refine SRun.ls (xc ents41 (impl_areConsistent_run x2 _ hx3)) ?_
  refine ckn tbokGB 2 ⟨17, [(4, vb x3), (5, vi 0)], []⟩ ?_
  refine swp_ret ?_
  obtain rfl := inj h
  exact q_fr (f2 fv fv)
theorem ents14 : Ents Tryz.prog 14 := ents_of Tryz.func14 (by kernel_rfl) rfl
noncomputable def impl_coresOf_1 (aI : Int) (c0 : (List Bool)) (c1 : Int) : Option (Bool) :=
  ((sh' aI).bind fun _ => ((at' c0 (w64 ((BitVec.ofInt 64 c1 &&& ~~~BitVec.ofInt 64 (w64 (1 * 2 ^ min (Int.toNat aI) 64))).toNat : Int))).bind fun x2 => some x2))
theorem impl_coresOf_1_run (aI : Int) (c0 : (List Bool)) (c1 : Int) (r : Bool) (h : impl_coresOf_1 aI c0 c1 = some r) : SCall Tryz.prog 84 [.v (vi aI), .v (.ptr [vl eB c0] 0), .v (.ptr [vi c1] 0)] ⟨[.v (vb r)], [], false⟩ := by
  refine scall_in Tryz.func84 rfl [(.tmp 4)] rfl (fun r => ⟨[.v (vb r)], [], false⟩) (r := r) ?_
  unfold impl_coresOf_1 at h
  refine srk tbokGB ⟨12, [(0, vi aI), (1, .ptr [vl eB c0] 0), (2, .ptr [vi c1] 0)], []⟩ ?_
  refine swp_seq ?_
  refine swp_dr mixed ?_
  refine DGo.ck tbokGB false 3 ⟨12, [(5, vl eB c0), (6, vi c1), (7, vi aI)], []⟩ ?_
  obtain ⟨x1, hx1, h⟩ := bind_some h
  refine DGo.step (lstep_shv (k := .i64) (k' := .i64) (i := 1) (j := aI) hx1 true rfl) ?_
  refine DGo.ck tbokGB false 1 ⟨12, [(5, vl eB c0), (9, vi (w64 ((BitVec.ofInt 64 c1 &&& ~~~BitVec.ofInt 64 (w64 (1 * 2 ^ min (Int.toNat aI) 64))).toNat : Int)))], []⟩ ?_
  obtain ⟨x2, hx2, h⟩ := bind_some h
  refine DGo.step (x_index (L := c0) (f := eB) (ti := ti101) (tj := ti4) (e := 4) (k := .i64) tbokGB rfl hx2) ?_
  refine DGo.ck tbokGB false 2 ⟨12, [(4, vb x2)], []⟩ ?_
  refine DGo.nx ?_
  refine swp_ret ?_
  obtain rfl := inj h
  exact q_fr (f1 fv)
theorem ents84 : Ents Tryz.prog 84 := ents_of Tryz.func84 (by kernel_rfl) rfl
noncomputable def slices_IndexFunc_int64_impl_coresOf_1 (aS : (List Int)) (aF0 : (List Bool)) (aF1 : Int) : Option (Int) :=
  (((forN (aS.length : Int) (fun (i3 : Int) (_ : Unit) => ((at' aS i3).bind fun x7 => ((impl_coresOf_1 x7 aF0 aF1).bind fun x8 => (bif x8 then some (.inr (.inr i3)) else some (.inl ()))))) (fun (_ : Unit) => .inl ()) 0 ())).bind (Sum.elim (fun (_ : Unit) => some (-1)) some))
theorem slices_IndexFunc_int64_impl_coresOf_1_run (aS : (List Int)) (aF0 : (List Bool)) (aF1 : Int) (r : Int) (h : slices_IndexFunc_int64_impl_coresOf_1 aS aF0 aF1 = some r) : SCall Tryz.prog 131 [.v (vl (eI .i64) aS), .v (.clo 84 [.ptr [vl eB aF0] 0, .ptr [vi aF1] 0])] ⟨[.v (vi r)], [], false⟩ := by
  refine scall_in Tryz.func131 rfl [(.tmp 4)] rfl (fun r => ⟨[.v (vi r)], [], false⟩) (r := r) ?_
  unfold slices_IndexFunc_int64_impl_coresOf_1 at h
  refine srk tbokGB ⟨19, [(0, vl (eI .i64) aS), (1, .clo 84 [.ptr [vl eB aF0] 0, .ptr [vi aF1] 0])], []⟩ ?_
  refine swp_seq ?_
  refine srk tbokGB ⟨19, [(0, vl (eI .i64) aS), (1, .clo 84 [.ptr [vl eB aF0] 0, .ptr [vi aF1] 0]), (7, vi (aS.length : Int)), (8, vi 0)], []⟩ ?_
  refine swp_seqE (r := r) h (fun j1 => ⟨19, [], []⟩) (fun v2 h => ?_) (fun j1 h => ?_)
  refine swp_blk (a := v2) ?_
  refine swp_lpL (r := v2) (s := (0, ())) _ (fun s3 => ⟨19, [(0, vl (eI .i64) aS), (1, .clo 84 [.ptr [vl eB aF0] 0, .ptr [vi aF1] 0]), (7, vi (aS.length : Int)), (8, vi s3.1)], []⟩) _ (Le.sub0) h (fun s3 v4 h => ?_)
  refine srk tbokGB ⟨19, [(0, vl (eI .i64) aS), (1, .clo 84 [.ptr [vl eB aF0] 0, .ptr [vi aF1] 0]), (7, vi (aS.length : Int)), (8, vi s3.1), (9, vb (decide (s3.1 < (aS.length : Int))))], []⟩ ?_
  refine swp_seq ?_
  refine swp_cd h (fun h => ?_) fun h => ?_
  refine swp_skip ?_
  refine nx_n ?_
  refine swp_seq ?_
  refine swp_seqL (r := v4) h (fun j5 => ⟨19, [(0, vl (eI .i64) aS), (1, .clo 84 [.ptr [vl eB aF0] 0, .ptr [vi aF1] 0]), (7, vi (aS.length : Int)), (8, vi s3.1)], []⟩) (fun v6 h => ?_) (fun j5 h => ?_)
  refine swp_blk (a := v6) ?_
  refine srk tbokGB ⟨19, [(0, vl (eI .i64) aS), (1, .clo 84 [.ptr [vl eB aF0] 0, .ptr [vi aF1] 0]), (5, vi s3.1), (7, vi (aS.length : Int)), (8, vi s3.1)], []⟩ ?_
  refine sr ?_
  refine SRun.ck tbokGB 3 ⟨19, [(0, vl (eI .i64) aS), (1, .clo 84 [.ptr [vl eB aF0] 0, .ptr [vi aF1] 0]), (5, vi s3.1), (7, vi (aS.length : Int)), (8, vi s3.1), (11, .clo 84 [.ptr [vl eB aF0] 0, .ptr [vi aF1] 0]), (12, vl (eI .i64) aS), (13, vi s3.1)], []⟩ ?_
  obtain ⟨x7, hx7, h⟩ := bind_some h
  refine SRun.ls (x_index (L := aS) (f := (eI .i64)) (ti := ti26) (tj := ti2) (e := 2) (k := .i64) tbokGB rfl hx7) ?_
  refine SRun.ck tbokGB 1 ⟨19, [(0, vl (eI .i64) aS), (1, .clo 84 [.ptr [vl eB aF0] 0, .ptr [vi aF1] 0]), (5, vi s3.1), (7, vi (aS.length : Int)), (8, vi s3.1), (11, .clo 84 [.ptr [vl eB aF0] 0, .ptr [vi aF1] 0]), (15, vi x7)], []⟩ ?_
  obtain ⟨x8, hx8, h⟩ := bind_some h
  refine SRun.ls (xc ents84 (impl_coresOf_1_run x7 aF0 aF1 _ hx8)) ?_
  refine SRun.nx ?_
  refine swp_cd h (fun h => ?_) fun h => ?_
  refine srk tbokGB ⟨19, [(4, vi s3.1)], []⟩ ?_
  refine swp_ret ?_
  obtain rfl := inj h
  exact q_br (q_rr (q_rr (q_br (q_rr (q_fr (f1 fv))))))
  refine swp_skip ?_
  obtain rfl := inj h
  exact q_bn (q_l (Le.sub0))
  refine swp_reg ?_
  refine SRun.ck tbokGB 2 ⟨19, [(0, vl (eI .i64) aS), (1, .clo 84 [.ptr [vl eB aF0] 0, .ptr [vi aF1] 0]), (7, vi (aS.length : Int)), (8, vi (w64 (s3.1 + 1)))], []⟩ ?_
  refine SRun.nil ?_
  obtain rfl := inj h
  exact q_l (Le.sub0)
  refine swp_exit ?_
  obtain rfl := inj h
  exact nx_e (q_re (q_bh (q_l (Le.sub0))))
  refine srk tbokGB ⟨19, [(4, vi (-1))], []⟩ ?_
  refine swp_ret ?_
  obtain rfl := inj h
  exact q_fr (f1 fv)
noncomputable def slices_ContainsFunc_int64_impl_coresOf_1 (aS : (List Int)) (aF0 : (List Bool)) (aF1 : Int) : Option (Bool) :=
  ((slices_IndexFunc_int64_impl_coresOf_1 aS aF0 aF1).bind fun x1 => some (decide (x1 ≥ 0)))
theorem slices_ContainsFunc_int64_impl_coresOf_1_run (aS : (List Int)) (aF0 : (List Bool)) (aF1 : Int) (r : Bool) (h : slices_ContainsFunc_int64_impl_coresOf_1 aS aF0 aF1 = some r) : SCall Tryz.prog 83 [.v (vl (eI .i64) aS), .v (.clo 84 [.ptr [vl eB aF0] 0, .ptr [vi aF1] 0])] ⟨[.v (vb r)], [], false⟩ := by
  refine scall_in Tryz.func83 rfl [(.tmp 4)] rfl (fun r => ⟨[.v (vb r)], [], false⟩) (r := r) ?_
  unfold slices_ContainsFunc_int64_impl_coresOf_1 at h
  refine srk tbokGB ⟨9, [(0, vl (eI .i64) aS), (1, .clo 84 [.ptr [vl eB aF0] 0, .ptr [vi aF1] 0])], []⟩ ?_
  refine sr ?_
  refine SRun.ck tbokGB 2 ⟨9, [(5, vl (eI .i64) aS), (6, .clo 84 [.ptr [vl eB aF0] 0, .ptr [vi aF1] 0])], []⟩ ?_
  obtain ⟨x1, hx1, h⟩ := bind_some h
  refine SRun.ls (xc ents131 (slices_IndexFunc_int64_impl_coresOf_1_run aS aF0 aF1 _ hx1)) ?_
  refine ckn tbokGB 2 ⟨9, [(4, vb (decide (x1 ≥ 0)))], []⟩ ?_
  refine swp_ret ?_
  obtain rfl := inj h
  exact q_fr (f1 fv)
noncomputable def impl_chosen (aList : (List Claim)) (aIndices : (List Int)) : Option ((List Claim)) :=
  (((forS (aIndices.length : Int) (fun (i3 : Int) (s3 : (List Claim)) => ((at' aIndices i3).bind fun x7 => ((at' aList x7).bind fun x8 => ((app' s3 ([x8] : List Claim)).bind fun x9 => some x9)))) (fun (s3 : (List Claim)) => s3) 0 ([] : List Claim))).bind fun (j1 : (List Claim)) => some j1)
theorem impl_chosen_run (aList : (List Claim)) (aIndices : (List Int)) (r : (List Claim)) (h : impl_chosen aList aIndices = some r) : SCall Tryz.prog 85 [.v (vl eClaim aList), .v (vl (eI .i64) aIndices)] ⟨[.own 42 7 r.length (r.map eClaim)], [], false⟩ := by
  refine scall_in Tryz.func85 rfl [(.tmp 4)] rfl (fun r => ⟨[.own 42 7 r.length (r.map eClaim)], [], false⟩) (r := r) ?_
  unfold impl_chosen at h
  refine srk tbokGB ⟨23, [(0, vl eClaim aList), (1, vl (eI .i64) aIndices)], []⟩ ?_
  refine srk tbokGB ⟨23, [(0, vl eClaim aList), (1, vl (eI .i64) aIndices), (5, .own 5)], [(5, oa 42 7 eClaim ([] : List Claim))]⟩ ?_
  refine swp_seq ?_
  refine srk tbokGB ⟨23, [(0, vl eClaim aList), (5, .own 5), (8, vl (eI .i64) aIndices), (9, vi (aIndices.length : Int)), (10, vi 0)], [(5, oa 42 7 eClaim ([] : List Claim))]⟩ ?_
  refine swp_seqJ h (fun j1 => ⟨23, [(5, .own 5)], [(5, oa 42 7 eClaim j1)]⟩) (fun v2 h => ?_) (fun j1 h => ?_)
  refine swp_blk (a := v2) ?_
  refine swp_lpL (r := v2) (s := (0, ([] : List Claim))) _ (fun s3 => ⟨23, [(0, vl eClaim aList), (5, .own 5), (8, vl (eI .i64) aIndices), (9, vi (aIndices.length : Int)), (10, vi s3.1)], [(5, oa 42 7 eClaim s3.2)]⟩) _ (Le.sub0) h (fun s3 v4 h => ?_)
  refine srk tbokGB ⟨23, [(0, vl eClaim aList), (5, .own 5), (8, vl (eI .i64) aIndices), (9, vi (aIndices.length : Int)), (10, vi s3.1), (11, vb (decide (s3.1 < (aIndices.length : Int))))], [(5, oa 42 7 eClaim s3.2)]⟩ ?_
  refine swp_seq ?_
  refine swp_cd h (fun h => ?_) fun h => ?_
  refine swp_skip ?_
  refine nx_n ?_
  refine swp_seq ?_
  refine swp_seqJ h (fun j5 => ⟨23, [(0, vl eClaim aList), (5, .own 5), (8, vl (eI .i64) aIndices), (9, vi (aIndices.length : Int)), (10, vi s3.1)], [(5, oa 42 7 eClaim j5)]⟩) (fun v6 h => ?_) (fun j5 h => ?_)
  refine swp_blk (a := v6) ?_
  refine sr ?_
  obtain ⟨x7, hx7, h⟩ := bind_some h
  refine SRun.ls (x_index (L := aIndices) (f := (eI .i64)) (ti := ti26) (tj := ti2) (e := 2) (k := .i64) tbokGB rfl hx7) ?_
  refine ckn tbokGB 2 ⟨23, [(0, vl eClaim aList), (5, .own 5), (7, vi x7), (8, vl (eI .i64) aIndices), (9, vi (aIndices.length : Int)), (10, vi s3.1)], [(5, oa 42 7 eClaim s3.2)]⟩ ?_
  refine swp_reg ?_
  refine SRun.ck tbokGB 3 ⟨23, [(0, vl eClaim aList), (8, vl (eI .i64) aIndices), (9, vi (aIndices.length : Int)), (10, vi s3.1), (14, .own 5), (15, vl eClaim aList), (16, vi x7)], [(5, oa 42 7 eClaim s3.2)]⟩ ?_
  obtain ⟨x8, hx8, h⟩ := bind_some h
  refine SRun.ls (x_index (L := aList) (f := eClaim) (ti := ti24) (tj := ti42) (e := 42) (k := .i64) tbokGB rfl hx8) ?_
  refine SRun.ck tbokGB 2 ⟨23, [(0, vl eClaim aList), (8, vl (eI .i64) aIndices), (9, vi (aIndices.length : Int)), (10, vi s3.1), (14, .own 5), (19, .own 19)], [(5, oa 42 7 eClaim s3.2), (19, oa 42 7 eClaim ([x8] : List Claim))]⟩ ?_
  obtain ⟨x9, hx9, h⟩ := bind_some h
  refine SRun.estep (x_append (f := eClaim) (t := 24) (ti := ti24) (tj := ti42) (zs := [.string (ByteArray.mk #[]), .int .i64 0, .string (ByteArray.mk #[]), .string (ByteArray.mk #[]), .int .i64 0, .int .i64 0, .int .i64 0]) (e := 42) (m := 7) (d := 5) (xv := .own 19) hx9 tbokGB rfl rfl rfl rfl (x_src_o (e := 42))) ?_
  refine SRun.ck tbokGB 1 ⟨23, [(0, vl eClaim aList), (5, .own 20), (8, vl (eI .i64) aIndices), (9, vi (aIndices.length : Int)), (10, vi s3.1)], [(20, oa 42 7 eClaim x9)]⟩ ?_
  refine SRun.nil ?_
  obtain rfl := inj h
  exact q_bn (q_j (Le.rr [20] [(20, 5)]))
  refine swp_reg ?_
  refine SRun.ck tbokGB 2 ⟨23, [(0, vl eClaim aList), (5, .own 5), (8, vl (eI .i64) aIndices), (9, vi (aIndices.length : Int)), (10, vi (w64 (s3.1 + 1)))], [(5, oa 42 7 eClaim j5)]⟩ ?_
  refine SRun.nil ?_
  obtain rfl := inj h
  exact q_l (Le.sub0)
  refine swp_exit ?_
  obtain rfl := inj h
  exact nx_e (q_re (q_bh (q_j (Le.sub0))))
  refine srk tbokGB ⟨23, [(4, .own 5)], [(5, oa 42 7 eClaim j1)]⟩ ?_
  refine swp_ret ?_
  obtain rfl := inj h
  exact q_fr (f1 (fo eClaim_flat))
theorem ents85 : Ents Tryz.prog 85 := ents_of Tryz.func85 (by kernel_rfl) rfl
noncomputable def impl_coresOf (aList : (List Claim)) : Option ((List (List Int))) :=
  ((sh' (aList.length : Int)).bind fun _ => ((make' false (w64 (1 * 2 ^ min (Int.toNat (aList.length : Int)) 64))).bind fun x2 => ((sh' (aList.length : Int)).bind fun _ => (((forS (w64 (1 * 2 ^ min (Int.toNat (aList.length : Int)) 64)) (fun (i6 : Int) (s6 : (List (List Int)) × (List Bool)) => ((impl_subset i6).bind fun x10 => ((slices_ContainsFunc_int64_impl_coresOf_1 x10 s6.2 i6).bind fun x11 => (((bif x11 then ((at' s6.2 i6).bind fun _ => some (true, (List.set s6.2 (Int.toNat i6) true))) else ((impl_chosen aList x10).bind fun x13 => ((impl_areConsistent x13).bind fun x14 => ((at' s6.2 i6).bind fun _ => some (false, (List.set s6.2 (Int.toNat i6) (!x14)))))))).bind fun (j16 : Bool × (List Bool)) => ((((at' j16.2 i6).bind fun x18 => (bif x18 then some (!j16.1) else some false))).bind fun (j19 : Bool) => (bif j19 then ((app' s6.1 ([x10] : List (List Int))).bind fun x21 => some (x21, j16.2)) else some (s6.1, j16.2))))))) (fun (s6 : (List (List Int)) × (List Bool)) => s6.1) 0 (([] : List (List Int)), x2))).bind fun (j4 : (List (List Int))) => ((slices_SortFunc_int64_slices_Compare_int64 j4).bind fun x22 => some x22)))))
theorem impl_coresOf_run (aList : (List Claim)) (r : (List (List Int))) (h : impl_coresOf aList = some r) : SCall Tryz.prog 42 [.v (vl eClaim aList)] ⟨[.own 26 1 r.length (r.map (eL (eI .i64)))], [], true⟩ := by
  refine scall_in Tryz.func42 rfl [(.tmp 2)] rfl (fun r => ⟨[.own 26 1 r.length (r.map (eL (eI .i64)))], [], true⟩) (r := r) ?_
  unfold impl_coresOf at h
  refine srk tbokGB ⟨50, [(0, vl eClaim aList)], []⟩ ?_
  refine sr ?_
  refine SRun.ck tbokGB 2 ⟨50, [(0, vl eClaim aList), (9, vi (aList.length : Int))], []⟩ ?_
  obtain ⟨x1, hx1, h⟩ := bind_some h
  refine SRun.ls (lstep_shv (k := .i64) (k' := .i64) (i := 1) (j := (aList.length : Int)) hx1 true rfl) ?_
  obtain ⟨x2, hx2, h⟩ := bind_some h
  refine SRun.ls (x_make (z := false) (f := eB) (ti := ti101) (tj := ti4) (e := 4) (m := 1) (k := .i64) (k' := .i64) hx2 tbokGB rfl rfl (zs := [.bool false])) ?_
  refine ckn tbokGB 2 ⟨50, [(0, vl eClaim aList), (3, .ref 3 0)], [(3, .box [.own 11]), (11, oa 4 1 eB x2)]⟩ ?_
  refine srk tbokGB ⟨50, [(0, vl eClaim aList), (3, .ref 3 0), (4, .own 4)], [(3, .box [.own 11]), (4, oa 26 1 (eL (eI .i64)) ([] : List (List Int))), (11, oa 4 1 eB x2)]⟩ ?_
  refine swp_seq ?_
  refine sr ?_
  refine SRun.ck tbokGB 2 ⟨50, [(0, vl eClaim aList), (3, .ref 3 0), (4, .own 4), (13, vi (aList.length : Int))], [(3, .box [.own 11]), (4, oa 26 1 (eL (eI .i64)) ([] : List (List Int))), (11, oa 4 1 eB x2)]⟩ ?_
  obtain ⟨x3, hx3, h⟩ := bind_some h
  refine SRun.ls (lstep_shv (k := .i64) (k' := .i64) (i := 1) (j := (aList.length : Int)) hx3 true rfl) ?_
  refine ckn tbokGB 1 ⟨50, [(0, vl eClaim aList), (3, .ref 3 0), (4, .own 4), (14, vi (w64 (1 * 2 ^ min (Int.toNat (aList.length : Int)) 64))), (15, vi 0)], [(3, .box [.own 11]), (4, oa 26 1 (eL (eI .i64)) ([] : List (List Int))), (11, oa 4 1 eB x2)]⟩ ?_
  refine swp_seqJ h (fun j4 => ⟨50, [(4, .own 4)], [(4, oa 26 1 (eL (eI .i64)) j4)]⟩) (fun v5 h => ?_) (fun j4 h => ?_)
  refine swp_blk (a := v5) ?_
  refine swp_lpL (r := v5) (s := (0, ([] : List (List Int)), x2)) _ (fun s6 => ⟨50, [(0, vl eClaim aList), (3, .ref 3 0), (4, .own 4), (14, vi (w64 (1 * 2 ^ min (Int.toNat (aList.length : Int)) 64))), (15, vi s6.1)], [(3, .box [.own 11]), (4, oa 26 1 (eL (eI .i64)) s6.2.1), (11, oa 4 1 eB s6.2.2)]⟩) _ (Le.sub0) h (fun s6 v7 h => ?_)
  refine srk tbokGB ⟨50, [(0, vl eClaim aList), (3, .ref 3 0), (4, .own 4), (14, vi (w64 (1 * 2 ^ min (Int.toNat (aList.length : Int)) 64))), (15, vi s6.1), (16, vb (decide (s6.1 < (w64 (1 * 2 ^ min (Int.toNat (aList.length : Int)) 64)))))], [(3, .box [.own 11]), (4, oa 26 1 (eL (eI .i64)) s6.2.1), (11, oa 4 1 eB s6.2.2)]⟩ ?_
  refine swp_seq ?_
  refine swp_cd h (fun h => ?_) fun h => ?_
  refine swp_skip ?_
  refine nx_n ?_
  refine swp_seq ?_
  refine swp_seqJ h (fun j8 => ⟨50, [(0, vl eClaim aList), (3, .ref 3 0), (4, .own 4), (14, vi (w64 (1 * 2 ^ min (Int.toNat (aList.length : Int)) 64))), (15, vi s6.1)], [(3, .box [.own 11]), (4, oa 26 1 (eL (eI .i64)) j8.1), (11, oa 4 1 eB j8.2)]⟩) (fun v9 h => ?_) (fun j8 h => ?_)
  refine swp_blk (a := v9) ?_
  refine srk tbokGB ⟨50, [(0, vl eClaim aList), (3, .ref 3 0), (4, .own 4), (5, .ref 5 0), (14, vi (w64 (1 * 2 ^ min (Int.toNat (aList.length : Int)) 64))), (15, vi s6.1)], [(3, .box [.own 11]), (4, oa 26 1 (eL (eI .i64)) s6.2.1), (5, .box [vi s6.1]), (11, oa 4 1 eB s6.2.2)]⟩ ?_
  refine sr ?_
  refine SRun.ck tbokGB 1 ⟨50, [(0, vl eClaim aList), (3, .ref 3 0), (4, .own 4), (5, .ref 5 0), (14, vi (w64 (1 * 2 ^ min (Int.toNat (aList.length : Int)) 64))), (15, vi s6.1), (18, vi s6.1)], [(3, .box [.own 11]), (4, oa 26 1 (eL (eI .i64)) s6.2.1), (5, .box [vi s6.1]), (11, oa 4 1 eB s6.2.2)]⟩ ?_
  obtain ⟨x10, hx10, h⟩ := bind_some h
  refine SRun.ls (xc ents82 (impl_subset_run s6.1 _ hx10)) ?_
  refine ckn tbokGB 1 ⟨50, [(0, vl eClaim aList), (3, .ref 3 0), (4, .own 4), (5, .ref 5 0), (6, .own 19), (14, vi (w64 (1 * 2 ^ min (Int.toNat (aList.length : Int)) 64))), (15, vi s6.1)], [(3, .box [.own 11]), (4, oa 26 1 (eL (eI .i64)) s6.2.1), (5, .box [vi s6.1]), (11, oa 4 1 eB s6.2.2), (19, oa 2 1 (eI .i64) x10)]⟩ ?_
  refine sr ?_
  refine SRun.ck tbokGB 2 ⟨50, [(0, vl eClaim aList), (3, .ref 3 0), (4, .own 4), (5, .ref 5 0), (6, .own 19), (14, vi (w64 (1 * 2 ^ min (Int.toNat (aList.length : Int)) 64))), (15, vi s6.1), (20, .own 19), (21, .clo 84 [.ref 3 0, .ref 5 0])], [(3, .box [.own 11]), (4, oa 26 1 (eL (eI .i64)) s6.2.1), (5, .box [vi s6.1]), (11, oa 4 1 eB s6.2.2), (19, oa 2 1 (eI .i64) x10)]⟩ ?_
  obtain ⟨x11, hx11, h⟩ := bind_some h
  refine SRun.ls (xc ents83 (slices_ContainsFunc_int64_impl_coresOf_1_run x10 s6.2.2 s6.1 _ hx11)) ?_
  refine ckn tbokGB 1 ⟨50, [(0, vl eClaim aList), (3, .ref 3 0), (4, .own 4), (5, .ref 5 0), (6, .own 19), (7, vb x11), (14, vi (w64 (1 * 2 ^ min (Int.toNat (aList.length : Int)) 64))), (15, vi s6.1)], [(3, .box [.own 11]), (4, oa 26 1 (eL (eI .i64)) s6.2.1), (5, .box [vi s6.1]), (11, oa 4 1 eB s6.2.2), (19, oa 2 1 (eI .i64) x10)]⟩ ?_
  refine swp_seq ?_
  refine swp_drJ mixed h (fun j16 => ⟨50, [(0, vl eClaim aList), (3, .ref 3 0), (4, .own 4), (5, .ref 5 0), (6, .own 6), (7, vb j16.1), (14, vi (w64 (1 * 2 ^ min (Int.toNat (aList.length : Int)) 64))), (15, vi s6.1)], [(3, .box [.own 11]), (4, oa 26 1 (eL (eI .i64)) s6.2.1), (5, .box [vi s6.1]), (11, oa 4 1 eB j16.2), (6, oa 2 1 (eI .i64) x10)]⟩) (fun v17 h => ?_) (fun j16 h => ?_)
  refine DGo.ck tbokGB false 4 ⟨50, [(0, vl eClaim aList), (3, .ref 3 0), (4, .own 4), (5, .ref 5 0), (6, .own 19), (7, vb x11), (14, vi (w64 (1 * 2 ^ min (Int.toNat (aList.length : Int)) 64))), (15, vi s6.1), (23, .own 11), (24, vi s6.1), (26, vb x11)], [(3, .box [.own 11]), (4, oa 26 1 (eL (eI .i64)) s6.2.1), (5, .box [vi s6.1]), (11, oa 4 1 eB s6.2.2), (19, oa 2 1 (eI .i64) x10)]⟩ ?_
  refine DGo.cu [(7, fun b => b), (26, fun b => b)] h (fun h => ?_) fun h => ?_
  refine DGo.ck tbokGB false 6 ⟨50, [(0, vl eClaim aList), (3, .ref 3 0), (4, .own 4), (5, .ref 5 0), (6, .own 19), (7, vb true), (14, vi (w64 (1 * 2 ^ min (Int.toNat (aList.length : Int)) 64))), (15, vi s6.1), (23, .own 11), (24, vi s6.1), (32, vb true)], [(3, .box [.own 11]), (4, oa 26 1 (eL (eI .i64)) s6.2.1), (5, .box [vi s6.1]), (11, oa 4 1 eB s6.2.2), (19, oa 2 1 (eI .i64) x10)]⟩ ?_
  obtain ⟨x12, hx12, h⟩ := bind_some h
  refine DGo.step (x_index_own (d := 11) (L := s6.2.2) (f := eB) (ti := ti101) (tj := ti4) (e := 4) (e' := 4) (m := 1) (k := .i64) tbokGB rfl hx12) ?_
  refine DGo.seq (by kernel_rfl) (by kernel_rfl) ?_
  refine SRun.estep (x_store_own (d := 11) (m := 1) (j := 0) (L := s6.2.2) (f := eB) (x := true) (z := x12) (ti := ti4) (e := 4) (ts := [.bool true]) (vs := [vb true]) (v := vb true) tbokGB rfl rfl hx12) ?_
  refine SRun.nil ?_
  obtain rfl := inj h
  exact Le.rr [3, 4, 5, 11, 19] [(19, 6)]
  refine DGo.ck tbokGB false 2 ⟨50, [(0, vl eClaim aList), (3, .ref 3 0), (4, .own 4), (5, .ref 5 0), (6, .own 19), (7, vb false), (14, vi (w64 (1 * 2 ^ min (Int.toNat (aList.length : Int)) 64))), (15, vi s6.1), (23, .own 11), (24, vi s6.1), (26, vb false), (27, vl eClaim aList), (28, .own 19)], [(3, .box [.own 11]), (4, oa 26 1 (eL (eI .i64)) s6.2.1), (5, .box [vi s6.1]), (11, oa 4 1 eB s6.2.2), (19, oa 2 1 (eI .i64) x10)]⟩ ?_
  obtain ⟨x13, hx13, h⟩ := bind_some h
  refine DGo.step (xc ents85 (impl_chosen_run aList x10 _ hx13)) ?_
  obtain ⟨x14, hx14, h⟩ := bind_some h
  refine DGo.stepW false [29] (xc ents41 (impl_areConsistent_run x13 _ hx14)) ?_
  refine DGo.ck tbokGB false 2 ⟨50, [(0, vl eClaim aList), (3, .ref 3 0), (4, .own 4), (5, .ref 5 0), (6, .own 19), (7, vb false), (14, vi (w64 (1 * 2 ^ min (Int.toNat (aList.length : Int)) 64))), (15, vi s6.1), (23, .own 11), (24, vi s6.1), (32, vb (!x14))], [(3, .box [.own 11]), (4, oa 26 1 (eL (eI .i64)) s6.2.1), (5, .box [vi s6.1]), (11, oa 4 1 eB s6.2.2), (19, oa 2 1 (eI .i64) x10)]⟩ ?_
  obtain ⟨x15, hx15, h⟩ := bind_some h
  refine DGo.step (x_index_own (d := 11) (L := s6.2.2) (f := eB) (ti := ti101) (tj := ti4) (e := 4) (e' := 4) (m := 1) (k := .i64) tbokGB rfl hx15) ?_
  refine DGo.seq (by kernel_rfl) (by kernel_rfl) ?_
  refine SRun.estep (x_store_own (d := 11) (m := 1) (j := 0) (L := s6.2.2) (f := eB) (x := (!x14)) (z := x15) (ti := ti4) (e := 4) (ts := [.bool (!x14)]) (vs := [vb (!x14)]) (v := vb (!x14)) tbokGB rfl rfl hx15) ?_
  refine SRun.nil ?_
  obtain rfl := inj h
  exact Le.rr [3, 4, 5, 11, 19] [(19, 6)]
  refine swp_seq ?_
  refine swp_regJ h (fun j19 => ⟨50, [(0, vl eClaim aList), (3, .ref 3 0), (4, .own 4), (6, .own 6), (14, vi (w64 (1 * 2 ^ min (Int.toNat (aList.length : Int)) 64))), (15, vi s6.1), (41, vb j19)], [(3, .box [.own 11]), (4, oa 26 1 (eL (eI .i64)) s6.2.1), (6, oa 2 1 (eI .i64) x10), (11, oa 4 1 eB j16.2)]⟩) (fun v20 h => ?_) (fun j19 h => ?_)
  refine SRun.ck tbokGB 2 ⟨50, [(0, vl eClaim aList), (3, .ref 3 0), (4, .own 4), (6, .own 6), (7, vb j16.1), (14, vi (w64 (1 * 2 ^ min (Int.toNat (aList.length : Int)) 64))), (15, vi s6.1), (34, .own 11), (35, vi s6.1)], [(3, .box [.own 11]), (4, oa 26 1 (eL (eI .i64)) s6.2.1), (6, oa 2 1 (eI .i64) x10), (11, oa 4 1 eB j16.2)]⟩ ?_
  obtain ⟨x18, hx18, h⟩ := bind_some h
  refine SRun.ls (x_index_own (d := 11) (L := j16.2) (f := eB) (ti := ti101) (tj := ti4) (e := 4) (e' := 4) (m := 1) (k := .i64) tbokGB rfl hx18) ?_
  refine SRun.ls (x_load_own (d := 11) (m := 1) (j := 0) (L := j16.2) (f := eB) (ti := ti4) (e := 4) (v := vb x18) tbokGB rfl hx18) ?_
  refine SRun.ck tbokGB 1 ⟨50, [(0, vl eClaim aList), (3, .ref 3 0), (4, .own 4), (6, .own 6), (7, vb j16.1), (14, vi (w64 (1 * 2 ^ min (Int.toNat (aList.length : Int)) 64))), (15, vi s6.1), (38, vb x18)], [(3, .box [.own 11]), (4, oa 26 1 (eL (eI .i64)) s6.2.1), (6, oa 2 1 (eI .i64) x10), (11, oa 4 1 eB j16.2)]⟩ ?_
  refine SRun.cu [(38, fun b => b)] h (fun h => ?_) fun h => ?_
  refine SRun.ck tbokGB 3 ⟨50, [(0, vl eClaim aList), (3, .ref 3 0), (4, .own 4), (6, .own 6), (14, vi (w64 (1 * 2 ^ min (Int.toNat (aList.length : Int)) 64))), (15, vi s6.1), (41, vb (!j16.1))], [(3, .box [.own 11]), (4, oa 26 1 (eL (eI .i64)) s6.2.1), (6, oa 2 1 (eI .i64) x10), (11, oa 4 1 eB j16.2)]⟩ ?_
  refine SRun.nil ?_
  obtain rfl := inj h
  exact Le.sub0
  refine SRun.ck tbokGB 3 ⟨50, [(0, vl eClaim aList), (3, .ref 3 0), (4, .own 4), (6, .own 6), (14, vi (w64 (1 * 2 ^ min (Int.toNat (aList.length : Int)) 64))), (15, vi s6.1), (41, vb false)], [(3, .box [.own 11]), (4, oa 26 1 (eL (eI .i64)) s6.2.1), (6, oa 2 1 (eI .i64) x10), (11, oa 4 1 eB j16.2)]⟩ ?_
  refine SRun.nil ?_
  obtain rfl := inj h
  exact Le.sub0
  refine swp_cd h (fun h => ?_) fun h => ?_
  refine swp_reg ?_
  refine SRun.ck tbokGB 2 ⟨50, [(0, vl eClaim aList), (3, .ref 3 0), (14, vi (w64 (1 * 2 ^ min (Int.toNat (aList.length : Int)) 64))), (15, vi s6.1), (42, .own 4), (43, .own 6)], [(3, .box [.own 11]), (4, oa 26 1 (eL (eI .i64)) s6.2.1), (6, oa 2 1 (eI .i64) x10), (11, oa 4 1 eB j16.2)]⟩ ?_
  refine SRun.le (Le.frz' (d := 6) (e := 2) (m := 1) (n := x10.length) (es := x10.map (eI .i64)) (by kernel_rfl) (by kernel_rfl)) ?_
  refine SRun.ck tbokGB 1 ⟨50, [(0, vl eClaim aList), (3, .ref 3 0), (14, vi (w64 (1 * 2 ^ min (Int.toNat (aList.length : Int)) 64))), (15, vi s6.1), (42, .own 4), (44, .own 44)], [(3, .box [.own 11]), (4, oa 26 1 (eL (eI .i64)) s6.2.1), (11, oa 4 1 eB j16.2), (44, oa 26 1 (eL (eI .i64)) ([x10] : List (List Int)))]⟩ ?_
  obtain ⟨x21, hx21, h⟩ := bind_some h
  refine SRun.estep (x_append (f := (eL (eI .i64))) (t := 35) (ti := ti35) (tj := ti26) (zs := [.slice none 0 0]) (e := 26) (m := 1) (d := 4) (xv := .own 44) hx21 tbokGB rfl rfl rfl rfl (x_src_o (e := 26))) ?_
  refine SRun.ck tbokGB 1 ⟨50, [(0, vl eClaim aList), (3, .ref 3 0), (4, .own 45), (14, vi (w64 (1 * 2 ^ min (Int.toNat (aList.length : Int)) 64))), (15, vi s6.1)], [(3, .box [.own 11]), (11, oa 4 1 eB j16.2), (45, oa 26 1 (eL (eI .i64)) x21)]⟩ ?_
  refine SRun.nil ?_
  obtain rfl := inj h
  exact q_bn (q_j (Le.rr [3, 11, 45] [(45, 4)]))
  refine swp_skip ?_
  obtain rfl := inj h
  exact q_bn (q_j (Le.sub0))
  refine swp_reg ?_
  refine SRun.ck tbokGB 2 ⟨50, [(0, vl eClaim aList), (3, .ref 3 0), (4, .own 4), (14, vi (w64 (1 * 2 ^ min (Int.toNat (aList.length : Int)) 64))), (15, vi (w64 (s6.1 + 1)))], [(3, .box [.own 11]), (4, oa 26 1 (eL (eI .i64)) j8.1), (11, oa 4 1 eB j8.2)]⟩ ?_
  refine SRun.nil ?_
  obtain rfl := inj h
  exact q_l (Le.sub0)
  refine swp_exit ?_
  obtain rfl := inj h
  exact nx_e (q_re (q_bh (q_j (Le.sub0))))
  refine sr ?_
  refine SRun.ck tbokGB 1 ⟨50, [(4, .own 4), (47, .own 4)], [(4, oa 26 1 (eL (eI .i64)) j4)]⟩ ?_
  obtain ⟨x22, hx22, h⟩ := bind_some h
  refine SRun.estep (xe ents86 (slices_SortFunc_int64_slices_Compare_int64_run j4 _ hx22)) ?_
  refine SRun.nx ?_
  refine srk tbokGB ⟨50, [(2, .own 4)], [(4, oa 26 1 (eL (eI .i64)) x22)]⟩ ?_
  refine swp_ret ?_
  obtain rfl := inj h
  exact q_fr (f1 (finOT (d := 4) (holds_t (by kernel_rfl)) (by kernel_rfl) (by kernel_rfl)))
theorem ents42 : Ents Tryz.prog 42 := ents_of Tryz.func42 (by kernel_rfl) rfl
noncomputable def impl_CoresOf (aList : (List Claim)) : Option ((List (List Int)) × Int) :=
  ((impl_AreClaims aList).bind fun x1 => (bif (!x1) then some (([] : List (List Int)), 1) else ((impl_coresOf aList).bind fun x2 => (bif (decide ((x2.length : Int) > 60)) then some (([] : List (List Int)), 3) else some (x2, 0)))))
theorem impl_CoresOf_run (aList : (List Claim)) (r : (List (List Int)) × Int) (h : impl_CoresOf aList = some r) : SCall Tryz.prog 15 [.v (vl eClaim aList)] ⟨[.own 26 1 r.1.length (r.1.map (eL (eI .i64))), .v (vi r.2)], [], true⟩ := by
  refine scall_in Tryz.func15 rfl [(.tmp 2), (.tmp 3)] rfl (fun r => ⟨[.own 26 1 r.1.length (r.1.map (eL (eI .i64))), .v (vi r.2)], [], true⟩) (r := r) ?_
  unfold impl_CoresOf at h
  refine srk tbokGB ⟨14, [(0, vl eClaim aList)], []⟩ ?_
  refine swp_seq ?_
  refine sr ?_
  refine SRun.ck tbokGB 1 ⟨14, [(0, vl eClaim aList), (5, vl eClaim aList)], []⟩ ?_
  obtain ⟨x1, hx1, h⟩ := bind_some h
  refine SRun.ls (xc ents34 (impl_AreClaims_run aList _ hx1)) ?_
  refine ckn tbokGB 1 ⟨14, [(0, vl eClaim aList), (7, vb (!x1))], []⟩ ?_
  refine swp_cd h (fun h => ?_) fun h => ?_
  refine srk tbokGB ⟨14, [(2, .own 2), (3, vi 1)], [(2, oa 26 1 (eL (eI .i64)) ([] : List (List Int)))]⟩ ?_
  refine swp_ret ?_
  obtain rfl := inj h
  exact nx_r (q_fr (f2 (finOT (d := 2) (holds_t (by kernel_rfl)) (by kernel_rfl) (by kernel_rfl)) ft))
  refine swp_skip ?_
  refine nx_n ?_
  refine sr ?_
  refine SRun.ck tbokGB 1 ⟨14, [(8, vl eClaim aList)], []⟩ ?_
  obtain ⟨x2, hx2, h⟩ := bind_some h
  refine SRun.ls (xc ents42 (impl_coresOf_run aList _ hx2)) ?_
  refine ckn tbokGB 1 ⟨14, [(4, .own 9)], [(9, oa 26 1 (eL (eI .i64)) x2)]⟩ ?_
  refine swp_seq ?_
  refine srk tbokGB ⟨14, [(4, .own 9), (12, vb (decide ((x2.length : Int) > 60)))], [(9, oa 26 1 (eL (eI .i64)) x2)]⟩ ?_
  refine swp_cd h (fun h => ?_) fun h => ?_
  refine srk tbokGB ⟨14, [(2, .own 2), (3, vi 3)], [(2, oa 26 1 (eL (eI .i64)) ([] : List (List Int)))]⟩ ?_
  refine swp_ret ?_
  obtain rfl := inj h
  exact nx_r (q_fr (f2 (finOT (d := 2) (holds_t (by kernel_rfl)) (by kernel_rfl) (by kernel_rfl)) ft))
  refine swp_skip ?_
  refine nx_n ?_
  refine srk tbokGB ⟨14, [(2, .own 9), (3, vi 0)], [(9, oa 26 1 (eL (eI .i64)) x2)]⟩ ?_
  refine swp_ret ?_
  obtain rfl := inj h
  exact q_fr (f2 (finOT (d := 9) (holds_t (by kernel_rfl)) (by kernel_rfl) (by kernel_rfl)) ft)
theorem ents15 : Ents Tryz.prog 15 := ents_of Tryz.func15 (by kernel_rfl) rfl
noncomputable def spec_l23Core (aList : (List Claim)) (aIndices : (List Int)) : Option (Bool) :=
  ((spec_l21Chosen aList aIndices).bind fun x1 => ((spec_l21Consistent x1).bind fun x2 => (bif x2 then some false else (((forN (aIndices.length : Int) (fun (i5 : Int) (_ : Unit) => ((spec_l22Without aIndices i5).bind fun x9 => ((spec_l21Chosen aList x9).bind fun x10 => ((spec_l21Consistent x10).bind fun x11 => (bif (!x11) then some (.inr (.inr false)) else some (.inl ())))))) (fun (_ : Unit) => .inl ()) 0 ())).bind (Sum.elim (fun (_ : Unit) => some true) some)))))
theorem spec_l23Core_run (aList : (List Claim)) (aIndices : (List Int)) (r : Bool) (h : spec_l23Core aList aIndices = some r) : SCall Tryz.prog 89 [.v (vl eClaim aList), .v (vl (eI .i64) aIndices)] ⟨[.v (vb r)], [], false⟩ := by
  refine scall_in Tryz.func89 rfl [(.tmp 4)] rfl (fun r => ⟨[.v (vb r)], [], false⟩) (r := r) ?_
  unfold spec_l23Core at h
  refine srk tbokGB ⟨23, [(0, vl eClaim aList), (1, vl (eI .i64) aIndices)], []⟩ ?_
  refine swp_seq ?_
  refine sr ?_
  refine SRun.ck tbokGB 2 ⟨23, [(0, vl eClaim aList), (1, vl (eI .i64) aIndices), (6, vl eClaim aList), (7, vl (eI .i64) aIndices)], []⟩ ?_
  obtain ⟨x1, hx1, h⟩ := bind_some h
  refine SRun.ls (xc ents88 (spec_l21Chosen_run aList aIndices _ hx1)) ?_
  obtain ⟨x2, hx2, h⟩ := bind_some h
  refine SRun.ls (xc ents87 (spec_l21Consistent_run x1 _ hx2)) ?_
  refine SRun.nx ?_
  refine swp_cd h (fun h => ?_) fun h => ?_
  refine srk tbokGB ⟨23, [(4, vb false)], []⟩ ?_
  refine swp_ret ?_
  obtain rfl := inj h
  exact nx_r (q_fr (f1 fv))
  refine swp_skip ?_
  refine nx_n ?_
  refine swp_seq ?_
  refine srk tbokGB ⟨23, [(0, vl eClaim aList), (1, vl (eI .i64) aIndices), (5, vi 0)], []⟩ ?_
  refine swp_seqE (r := r) h (fun j3 => ⟨23, [], []⟩) (fun v4 h => ?_) (fun j3 h => ?_)
  refine swp_blk (a := v4) ?_
  refine swp_lpL (r := v4) (s := (0, ())) _ (fun s5 => ⟨23, [(0, vl eClaim aList), (1, vl (eI .i64) aIndices), (5, vi s5.1)], []⟩) _ (Le.sub0) h (fun s5 v6 h => ?_)
  refine swp_seq ?_
  refine srk tbokGB ⟨23, [(0, vl eClaim aList), (1, vl (eI .i64) aIndices), (5, vi s5.1), (13, vb (decide (s5.1 < (aIndices.length : Int))))], []⟩ ?_
  refine swp_cd h (fun h => ?_) fun h => ?_
  refine swp_skip ?_
  refine nx_n ?_
  refine swp_seq ?_
  refine swp_seqL (r := v6) h (fun j7 => ⟨23, [(0, vl eClaim aList), (1, vl (eI .i64) aIndices), (5, vi s5.1)], []⟩) (fun v8 h => ?_) (fun j7 h => ?_)
  refine swp_blk (a := v8) ?_
  refine sr ?_
  refine SRun.ck tbokGB 3 ⟨23, [(0, vl eClaim aList), (1, vl (eI .i64) aIndices), (5, vi s5.1), (16, vl eClaim aList), (17, vl (eI .i64) aIndices), (18, vi s5.1)], []⟩ ?_
  obtain ⟨x9, hx9, h⟩ := bind_some h
  refine SRun.ls (xc ents136 (spec_l22Without_run aIndices s5.1 _ hx9)) ?_
  obtain ⟨x10, hx10, h⟩ := bind_some h
  refine SRun.ls (xc ents88 (spec_l21Chosen_run aList x9 _ hx10)) ?_
  obtain ⟨x11, hx11, h⟩ := bind_some h
  refine SRun.ls (xc ents87 (spec_l21Consistent_run x10 _ hx11)) ?_
  refine ckn tbokGB 1 ⟨23, [(0, vl eClaim aList), (1, vl (eI .i64) aIndices), (5, vi s5.1), (22, vb (!x11))], []⟩ ?_
  refine swp_cd h (fun h => ?_) fun h => ?_
  refine srk tbokGB ⟨23, [(4, vb false)], []⟩ ?_
  refine swp_ret ?_
  obtain rfl := inj h
  exact q_br (q_rr (q_rr (q_br (q_rr (q_fr (f1 fv))))))
  refine swp_skip ?_
  obtain rfl := inj h
  exact q_bn (q_l (Le.sub0))
  refine swp_reg ?_
  refine SRun.ck tbokGB 3 ⟨23, [(0, vl eClaim aList), (1, vl (eI .i64) aIndices), (5, vi (w64 (s5.1 + 1)))], []⟩ ?_
  refine SRun.nil ?_
  obtain rfl := inj h
  exact q_l (Le.sub0)
  refine swp_exit ?_
  obtain rfl := inj h
  exact nx_e (q_re (q_bh (q_l (Le.sub0))))
  refine srk tbokGB ⟨23, [(4, vb true)], []⟩ ?_
  refine swp_ret ?_
  obtain rfl := inj h
  exact q_fr (f1 fv)
theorem ents89 : Ents Tryz.prog 89 := ents_of Tryz.func89 (by kernel_rfl) rfl
noncomputable def spec_l23All_f : Nat → (List Claim) → (List Int) → Option ((List (List Int)))
  | 0, _, _ => none
  | fuel + 1, aList, aIndices =>
  ((spec_l21Chosen aList aIndices).bind fun x1 => ((spec_l21Consistent x1).bind fun x2 => (bif (!x2) then ((spec_l23Core aList aIndices).bind fun x3 => (bif x3 then some ([aIndices] : List (List Int)) else some ([] : List (List Int)))) else (((bif (decide ((aIndices.length : Int) > 0)) then ((at' aIndices (w64 ((aIndices.length : Int) - 1))).bind fun x6 => some (w64 (x6 + 1))) else some 0)).bind fun (j4 : Int) => (((forS (aList.length : Int) (fun (i9 : Int) (s9 : (List (List Int))) => ((spec_l01Own aIndices).bind fun x13 => ((app' x13 ([i9] : List Int)).bind fun x14 => ((spec_l23All_f fuel aList x14).bind fun x15 => ((app' s9 x15).bind fun x16 => some x16))))) (fun (s9 : (List (List Int))) => s9) j4 ([] : List (List Int)))).bind fun (j7 : (List (List Int))) => some j7)))))
noncomputable def spec_l23All (aList : (List Claim)) (aIndices : (List Int)) : Option ((List (List Int))) := spec_l23All_f 1000 aList aIndices
theorem ents43 : Ents Tryz.prog 43 := ents_of Tryz.func43 (by kernel_rfl) rfl
theorem spec_l23All_f_run : ∀ (fuel : Nat) (aList : (List Claim)) (aIndices : (List Int)) (r : (List (List Int))), spec_l23All_f fuel aList aIndices = some r → SCall Tryz.prog 43 [.v (vl eClaim aList), .v (vl (eI .i64) aIndices)] ⟨[.own 26 1 r.length (r.map (eL (eI .i64)))], [], true⟩ := by
  intro fuel
  induction fuel with
  | zero => intro aList aIndices r h; cases h
  | succ fuel ih =>
  intro aList aIndices r h
  refine scall_in Tryz.func43 rfl [(.tmp 4)] rfl (fun r => ⟨[.own 26 1 r.length (r.map (eL (eI .i64)))], [], true⟩) (r := r) ?_
  unfold spec_l23All_f at h
  refine srk tbokGB ⟨47, [(0, vl eClaim aList), (1, vl (eI .i64) aIndices)], []⟩ ?_
  refine swp_seq ?_
  refine sr ?_
  refine SRun.ck tbokGB 2 ⟨47, [(0, vl eClaim aList), (1, vl (eI .i64) aIndices), (8, vl eClaim aList), (9, vl (eI .i64) aIndices)], []⟩ ?_
  obtain ⟨x1, hx1, h⟩ := bind_some h
  refine SRun.ls (xc ents88 (spec_l21Chosen_run aList aIndices _ hx1)) ?_
  obtain ⟨x2, hx2, h⟩ := bind_some h
  refine SRun.ls (xc ents87 (spec_l21Consistent_run x1 _ hx2)) ?_
  refine ckn tbokGB 1 ⟨47, [(0, vl eClaim aList), (1, vl (eI .i64) aIndices), (12, vb (!x2))], []⟩ ?_
  refine swp_cd h (fun h => ?_) fun h => ?_
  refine swp_seq ?_
  refine sr ?_
  refine SRun.ck tbokGB 2 ⟨47, [(1, vl (eI .i64) aIndices), (13, vl eClaim aList), (14, vl (eI .i64) aIndices)], []⟩ ?_
  obtain ⟨x3, hx3, h⟩ := bind_some h
  refine SRun.ls (xc ents89 (spec_l23Core_run aList aIndices _ hx3)) ?_
  refine SRun.nx ?_
  refine swp_cd h (fun h => ?_) fun h => ?_
  refine srk tbokGB ⟨47, [(4, .own 17)], [(17, oa 26 1 (eL (eI .i64)) ([aIndices] : List (List Int)))]⟩ ?_
  refine swp_ret ?_
  obtain rfl := inj h
  exact nx_r (nx_r (q_fr (f1 (finOT (d := 17) (holds_t (by kernel_rfl)) (by kernel_rfl) (by kernel_rfl)))))
  refine swp_skip ?_
  refine nx_n ?_
  refine srk tbokGB ⟨47, [(4, .own 18)], [(18, oa 26 1 (eL (eI .i64)) ([] : List (List Int)))]⟩ ?_
  refine swp_ret ?_
  obtain rfl := inj h
  exact nx_r (q_fr (f1 (finOT (d := 18) (holds_t (by kernel_rfl)) (by kernel_rfl) (by kernel_rfl))))
  refine swp_skip ?_
  refine nx_n ?_
  refine srk tbokGB ⟨47, [(0, vl eClaim aList), (1, vl (eI .i64) aIndices), (5, .own 19)], [(19, oa 26 1 (eL (eI .i64)) ([] : List (List Int)))]⟩ ?_
  refine srk tbokGB ⟨47, [(0, vl eClaim aList), (1, vl (eI .i64) aIndices), (5, .own 19), (6, vi 0)], [(19, oa 26 1 (eL (eI .i64)) ([] : List (List Int)))]⟩ ?_
  refine swp_seq ?_
  refine srk tbokGB ⟨47, [(0, vl eClaim aList), (1, vl (eI .i64) aIndices), (5, .own 19), (6, vi 0), (22, vb (decide ((aIndices.length : Int) > 0)))], [(19, oa 26 1 (eL (eI .i64)) ([] : List (List Int)))]⟩ ?_
  refine swp_seqJ h (fun j4 => ⟨47, [(0, vl eClaim aList), (1, vl (eI .i64) aIndices), (5, .own 5), (6, vi j4)], [(5, oa 26 1 (eL (eI .i64)) ([] : List (List Int)))]⟩) (fun v5 h => ?_) (fun j4 h => ?_)
  refine swp_cd h (fun h => ?_) fun h => ?_
  refine swp_reg ?_
  refine SRun.ck tbokGB 4 ⟨47, [(0, vl eClaim aList), (1, vl (eI .i64) aIndices), (5, .own 19), (23, vl (eI .i64) aIndices), (26, vi (w64 ((aIndices.length : Int) - 1)))], [(19, oa 26 1 (eL (eI .i64)) ([] : List (List Int)))]⟩ ?_
  obtain ⟨x6, hx6, h⟩ := bind_some h
  refine SRun.ls (x_index (L := aIndices) (f := (eI .i64)) (ti := ti26) (tj := ti2) (e := 2) (k := .i64) tbokGB rfl hx6) ?_
  refine SRun.ck tbokGB 3 ⟨47, [(0, vl eClaim aList), (1, vl (eI .i64) aIndices), (5, .own 19), (6, vi (w64 (x6 + 1)))], [(19, oa 26 1 (eL (eI .i64)) ([] : List (List Int)))]⟩ ?_
  refine SRun.nil ?_
  obtain rfl := inj h
  exact q_j (Le.rr [19] [(19, 5)])
  refine swp_skip ?_
  obtain rfl := inj h
  exact q_j (Le.rr [19] [(19, 5)])
  refine swp_seq ?_
  refine srk tbokGB ⟨47, [(0, vl eClaim aList), (1, vl (eI .i64) aIndices), (5, .own 5), (7, vi j4)], [(5, oa 26 1 (eL (eI .i64)) ([] : List (List Int)))]⟩ ?_
  refine swp_seqJ h (fun j7 => ⟨47, [(5, .own 5)], [(5, oa 26 1 (eL (eI .i64)) j7)]⟩) (fun v8 h => ?_) (fun j7 h => ?_)
  refine swp_blk (a := v8) ?_
  refine swp_lpL (r := v8) (s := (j4, ([] : List (List Int)))) _ (fun s9 => ⟨47, [(0, vl eClaim aList), (1, vl (eI .i64) aIndices), (5, .own 5), (7, vi s9.1)], [(5, oa 26 1 (eL (eI .i64)) s9.2)]⟩) _ (Le.sub0) h (fun s9 v10 h => ?_)
  refine swp_seq ?_
  refine srk tbokGB ⟨47, [(0, vl eClaim aList), (1, vl (eI .i64) aIndices), (5, .own 5), (7, vi s9.1), (34, vb (decide (s9.1 < (aList.length : Int))))], [(5, oa 26 1 (eL (eI .i64)) s9.2)]⟩ ?_
  refine swp_cd h (fun h => ?_) fun h => ?_
  refine swp_skip ?_
  refine nx_n ?_
  refine swp_seq ?_
  refine swp_seqJ h (fun j11 => ⟨47, [(0, vl eClaim aList), (1, vl (eI .i64) aIndices), (5, .own 5), (7, vi s9.1)], [(5, oa 26 1 (eL (eI .i64)) j11)]⟩) (fun v12 h => ?_) (fun j11 h => ?_)
  refine swp_blk (a := v12) ?_
  refine swp_reg ?_
  refine SRun.ck tbokGB 3 ⟨47, [(0, vl eClaim aList), (1, vl (eI .i64) aIndices), (7, vi s9.1), (37, .own 5), (38, vl eClaim aList), (39, vl (eI .i64) aIndices)], [(5, oa 26 1 (eL (eI .i64)) s9.2)]⟩ ?_
  obtain ⟨x13, hx13, h⟩ := bind_some h
  refine SRun.ls (xc ents90 (spec_l01Own_run aIndices _ hx13)) ?_
  refine SRun.ck tbokGB 2 ⟨47, [(0, vl eClaim aList), (1, vl (eI .i64) aIndices), (7, vi s9.1), (37, .own 5), (38, vl eClaim aList), (40, .own 40), (42, .own 42)], [(5, oa 26 1 (eL (eI .i64)) s9.2), (40, oa 2 1 (eI .i64) x13), (42, oa 2 1 (eI .i64) ([s9.1] : List Int))]⟩ ?_
  obtain ⟨x14, hx14, h⟩ := bind_some h
  refine SRun.estep (x_append (f := (eI .i64)) (t := 26) (ti := ti26) (tj := ti2) (zs := [.int .i64 0]) (e := 2) (m := 1) (d := 40) (xv := .own 42) hx14 tbokGB rfl rfl rfl rfl (x_src_o (e := 2))) ?_
  refine SRun.le (Le.frz' (d := 43) (e := 2) (m := 1) (n := x14.length) (es := x14.map (eI .i64)) (by kernel_rfl) (by kernel_rfl)) ?_
  obtain ⟨x15, hx15, h⟩ := bind_some h
  refine SRun.ls (xc ents43 (ih aList x14 _ hx15)) ?_
  obtain ⟨x16, hx16, h⟩ := bind_some h
  refine SRun.estep (x_append (f := (eL (eI .i64))) (t := 35) (ti := ti35) (tj := ti26) (zs := [.slice none 0 0]) (e := 26) (m := 1) (d := 5) (xv := .own 44) hx16 tbokGB rfl rfl rfl rfl (x_src_o (e := 26))) ?_
  refine SRun.ck tbokGB 1 ⟨47, [(0, vl eClaim aList), (1, vl (eI .i64) aIndices), (5, .own 45), (7, vi s9.1)], [(45, oa 26 1 (eL (eI .i64)) x16)]⟩ ?_
  refine SRun.nil ?_
  obtain rfl := inj h
  exact q_bn (q_j (Le.rr [45] [(45, 5)]))
  refine swp_reg ?_
  refine SRun.ck tbokGB 3 ⟨47, [(0, vl eClaim aList), (1, vl (eI .i64) aIndices), (5, .own 5), (7, vi (w64 (s9.1 + 1)))], [(5, oa 26 1 (eL (eI .i64)) j11)]⟩ ?_
  refine SRun.nil ?_
  obtain rfl := inj h
  exact q_l (Le.sub0)
  refine swp_exit ?_
  obtain rfl := inj h
  exact nx_e (q_re (q_bh (q_j (Le.sub0))))
  refine srk tbokGB ⟨47, [(4, .own 5)], [(5, oa 26 1 (eL (eI .i64)) j7)]⟩ ?_
  refine swp_ret ?_
  obtain rfl := inj h
  exact q_fr (f1 (finOT (d := 5) (holds_t (by kernel_rfl)) (by kernel_rfl) (by kernel_rfl)))
theorem spec_l23All_run (aList : (List Claim)) (aIndices : (List Int)) (r : (List (List Int))) (h : spec_l23All aList aIndices = some r) : SCall Tryz.prog 43 [.v (vl eClaim aList), .v (vl (eI .i64) aIndices)] ⟨[.own 26 1 r.length (r.map (eL (eI .i64)))], [], true⟩ := spec_l23All_f_run 1000 aList aIndices r h
noncomputable def spec_CoresOf (aList : (List Claim)) : Option ((List (List Int)) × Int) :=
  ((spec_AreClaims aList).bind fun x1 => (bif (!x1) then some (([] : List (List Int)), 1) else ((spec_l23All aList ([] : List Int)).bind fun x2 => (bif (decide ((x2.length : Int) > 60)) then some (([] : List (List Int)), 3) else some (x2, 0)))))
theorem spec_CoresOf_run (aList : (List Claim)) (r : (List (List Int)) × Int) (h : spec_CoresOf aList = some r) : SCall Tryz.prog 16 [.v (vl eClaim aList)] ⟨[.own 26 1 r.1.length (r.1.map (eL (eI .i64))), .v (vi r.2)], [], true⟩ := by
  refine scall_in Tryz.func16 rfl [(.tmp 2), (.tmp 3)] rfl (fun r => ⟨[.own 26 1 r.1.length (r.1.map (eL (eI .i64))), .v (vi r.2)], [], true⟩) (r := r) ?_
  unfold spec_CoresOf at h
  refine srk tbokGB ⟨15, [(0, vl eClaim aList)], []⟩ ?_
  refine swp_seq ?_
  refine sr ?_
  refine SRun.ck tbokGB 1 ⟨15, [(0, vl eClaim aList), (5, vl eClaim aList)], []⟩ ?_
  obtain ⟨x1, hx1, h⟩ := bind_some h
  refine SRun.ls (xc ents37 (spec_AreClaims_run aList _ hx1)) ?_
  refine ckn tbokGB 1 ⟨15, [(0, vl eClaim aList), (7, vb (!x1))], []⟩ ?_
  refine swp_cd h (fun h => ?_) fun h => ?_
  refine srk tbokGB ⟨15, [(2, .own 2), (3, vi 1)], [(2, oa 26 1 (eL (eI .i64)) ([] : List (List Int)))]⟩ ?_
  refine swp_ret ?_
  obtain rfl := inj h
  exact nx_r (q_fr (f2 (finOT (d := 2) (holds_t (by kernel_rfl)) (by kernel_rfl) (by kernel_rfl)) ft))
  refine swp_skip ?_
  refine nx_n ?_
  refine sr ?_
  refine SRun.ck tbokGB 2 ⟨15, [(8, vl eClaim aList), (9, .own 9)], [(9, oa 2 1 (eI .i64) ([] : List Int))]⟩ ?_
  refine SRun.le (Le.frz' (d := 9) (e := 2) (m := 1) (n := ([] : List Int).length) (es := ([] : List Int).map (eI .i64)) (by kernel_rfl) (by kernel_rfl)) ?_
  obtain ⟨x2, hx2, h⟩ := bind_some h
  refine SRun.ls (xc ents43 (spec_l23All_run aList ([] : List Int) _ hx2)) ?_
  refine ckn tbokGB 1 ⟨15, [(4, .own 10)], [(10, oa 26 1 (eL (eI .i64)) x2)]⟩ ?_
  refine swp_seq ?_
  refine srk tbokGB ⟨15, [(4, .own 10), (13, vb (decide ((x2.length : Int) > 60)))], [(10, oa 26 1 (eL (eI .i64)) x2)]⟩ ?_
  refine swp_cd h (fun h => ?_) fun h => ?_
  refine srk tbokGB ⟨15, [(2, .own 2), (3, vi 3)], [(2, oa 26 1 (eL (eI .i64)) ([] : List (List Int)))]⟩ ?_
  refine swp_ret ?_
  obtain rfl := inj h
  exact nx_r (q_fr (f2 (finOT (d := 2) (holds_t (by kernel_rfl)) (by kernel_rfl) (by kernel_rfl)) ft))
  refine swp_skip ?_
  refine nx_n ?_
  refine srk tbokGB ⟨15, [(2, .own 10), (3, vi 0)], [(10, oa 26 1 (eL (eI .i64)) x2)]⟩ ?_
  refine swp_ret ?_
  obtain rfl := inj h
  exact q_fr (f2 (finOT (d := 10) (holds_t (by kernel_rfl)) (by kernel_rfl) (by kernel_rfl)) ft)
theorem ents16 : Ents Tryz.prog 16 := ents_of Tryz.func16 (by kernel_rfl) rfl
noncomputable def laws_likeTables (aA : (List (List Int))) (aB : (List (List Int))) : Option (Bool) :=
  (bif ((aA.length : Int) != (aB.length : Int)) then some false else (((forN (aA.length : Int) (fun (i3 : Int) (_ : Unit) => ((at' aA i3).bind fun x7 => ((at' aB i3).bind fun x8 => ((laws_likeInts x7 x8).bind fun x9 => (bif (!x9) then some (.inr (.inr false)) else some (.inl ())))))) (fun (_ : Unit) => .inl ()) 0 ())).bind (Sum.elim (fun (_ : Unit) => some true) some)))
theorem laws_likeTables_run (aA : (List (List Int))) (aB : (List (List Int))) (r : Bool) (h : laws_likeTables aA aB = some r) : SCall Tryz.prog 17 [.v (vl (eL (eI .i64)) aA), .v (vl (eL (eI .i64)) aB)] ⟨[.v (vb r)], [], false⟩ := by
  refine scall_in Tryz.func17 rfl [(.tmp 4)] rfl (fun r => ⟨[.v (vb r)], [], false⟩) (r := r) ?_
  unfold laws_likeTables at h
  refine srk tbokGB ⟨27, [(0, vl (eL (eI .i64)) aA), (1, vl (eL (eI .i64)) aB)], []⟩ ?_
  refine swp_seq ?_
  refine srk tbokGB ⟨27, [(0, vl (eL (eI .i64)) aA), (1, vl (eL (eI .i64)) aB), (10, vb ((aA.length : Int) != (aB.length : Int)))], []⟩ ?_
  refine swp_cd h (fun h => ?_) fun h => ?_
  refine srk tbokGB ⟨27, [(4, vb false)], []⟩ ?_
  refine swp_ret ?_
  obtain rfl := inj h
  exact nx_r (q_fr (f1 fv))
  refine swp_skip ?_
  refine nx_n ?_
  refine swp_seq ?_
  refine srk tbokGB ⟨27, [(0, vl (eL (eI .i64)) aA), (1, vl (eL (eI .i64)) aB), (5, vi 0)], []⟩ ?_
  refine swp_seqE (r := r) h (fun j1 => ⟨27, [], []⟩) (fun v2 h => ?_) (fun j1 h => ?_)
  refine swp_blk (a := v2) ?_
  refine swp_lpL (r := v2) (s := (0, ())) _ (fun s3 => ⟨27, [(0, vl (eL (eI .i64)) aA), (1, vl (eL (eI .i64)) aB), (5, vi s3.1)], []⟩) _ (Le.sub0) h (fun s3 v4 h => ?_)
  refine swp_seq ?_
  refine srk tbokGB ⟨27, [(0, vl (eL (eI .i64)) aA), (1, vl (eL (eI .i64)) aB), (5, vi s3.1), (14, vb (decide (s3.1 < (aA.length : Int))))], []⟩ ?_
  refine swp_cd h (fun h => ?_) fun h => ?_
  refine swp_skip ?_
  refine nx_n ?_
  refine swp_seq ?_
  refine swp_seqL (r := v4) h (fun j5 => ⟨27, [(0, vl (eL (eI .i64)) aA), (1, vl (eL (eI .i64)) aB), (5, vi s3.1)], []⟩) (fun v6 h => ?_) (fun j5 h => ?_)
  refine swp_blk (a := v6) ?_
  refine swp_seq ?_
  refine swp_dr mixed ?_
  refine DGo.ck tbokGB false 2 ⟨27, [(0, vl (eL (eI .i64)) aA), (1, vl (eL (eI .i64)) aB), (5, vi s3.1), (17, vl (eL (eI .i64)) aA), (18, vi s3.1)], []⟩ ?_
  obtain ⟨x7, hx7, h⟩ := bind_some h
  refine DGo.step (x_index (L := aA) (f := (eL (eI .i64))) (ti := ti35) (tj := ti26) (e := 26) (k := .i64) tbokGB rfl hx7) ?_
  refine DGo.ck tbokGB false 3 ⟨27, [(0, vl (eL (eI .i64)) aA), (1, vl (eL (eI .i64)) aB), (5, vi s3.1), (20, vl (eI .i64) x7), (21, vl (eL (eI .i64)) aB), (22, vi s3.1)], []⟩ ?_
  obtain ⟨x8, hx8, h⟩ := bind_some h
  refine DGo.step (x_index (L := aB) (f := (eL (eI .i64))) (ti := ti35) (tj := ti26) (e := 26) (k := .i64) tbokGB rfl hx8) ?_
  refine DGo.ck tbokGB false 1 ⟨27, [(0, vl (eL (eI .i64)) aA), (1, vl (eL (eI .i64)) aB), (5, vi s3.1), (20, vl (eI .i64) x7), (24, vl (eI .i64) x8)], []⟩ ?_
  obtain ⟨x9, hx9, h⟩ := bind_some h
  refine DGo.step (xc ents11 (laws_likeInts_run x7 x8 _ hx9)) ?_
  refine DGo.ck tbokGB false 1 ⟨27, [(0, vl (eL (eI .i64)) aA), (1, vl (eL (eI .i64)) aB), (5, vi s3.1), (26, vb (!x9))], []⟩ ?_
  refine DGo.nx ?_
  refine swp_cd h (fun h => ?_) fun h => ?_
  refine srk tbokGB ⟨27, [(4, vb false)], []⟩ ?_
  refine swp_ret ?_
  obtain rfl := inj h
  exact q_br (q_rr (q_rr (q_br (q_rr (q_fr (f1 fv))))))
  refine swp_skip ?_
  obtain rfl := inj h
  exact q_bn (q_l (Le.sub0))
  refine swp_reg ?_
  refine SRun.ck tbokGB 3 ⟨27, [(0, vl (eL (eI .i64)) aA), (1, vl (eL (eI .i64)) aB), (5, vi (w64 (s3.1 + 1)))], []⟩ ?_
  refine SRun.nil ?_
  obtain rfl := inj h
  exact q_l (Le.sub0)
  refine swp_exit ?_
  obtain rfl := inj h
  exact nx_e (q_re (q_bh (q_l (Le.sub0))))
  refine srk tbokGB ⟨27, [(4, vb true)], []⟩ ?_
  refine swp_ret ?_
  obtain rfl := inj h
  exact q_fr (f1 fv)
theorem ents17 : Ents Tryz.prog 17 := ents_of Tryz.func17 (by kernel_rfl) rfl
noncomputable def slices_Concat_int64 (aSlices : (List (List Int))) : Option ((List Int)) :=
  (((forS (aSlices.length : Int) (fun (i3 : Int) (s3 : Int) => ((at' aSlices i3).bind fun x7 => (bif (decide ((w64 (s3 + (x7.length : Int))) < 0)) then none else some (w64 (s3 + (x7.length : Int)))))) (fun (s3 : Int) => s3) 0 0)).bind fun (j1 : Int) => ((grow' j1).bind fun _ => (((forS (aSlices.length : Int) (fun (i11 : Int) (s11 : (List Int)) => ((at' aSlices i11).bind fun x15 => ((app' s11 x15).bind fun x16 => some x16))) (fun (s11 : (List Int)) => s11) 0 ([] : List Int))).bind fun (j9 : (List Int)) => some j9)))
theorem slices_Concat_int64_run (aSlices : (List (List Int))) (r : (List Int)) (h : slices_Concat_int64 aSlices = some r) : SCall Tryz.prog 137 [.v (vl (eL (eI .i64)) aSlices)] ⟨[.own 2 1 r.length (r.map (eI .i64))], [], false⟩ := by
  refine scall_in Tryz.func137 rfl [(.tmp 2)] rfl (fun r => ⟨[.own 2 1 r.length (r.map (eI .i64))], [], false⟩) (r := r) ?_
  unfold slices_Concat_int64 at h
  refine srk tbokGB ⟨36, [(0, vl (eL (eI .i64)) aSlices)], []⟩ ?_
  refine srk tbokGB ⟨36, [(0, vl (eL (eI .i64)) aSlices), (3, vi 0)], []⟩ ?_
  refine swp_seq ?_
  refine srk tbokGB ⟨36, [(0, vl (eL (eI .i64)) aSlices), (3, vi 0), (9, vl (eL (eI .i64)) aSlices), (10, vi (aSlices.length : Int)), (11, vi 0)], []⟩ ?_
  refine swp_seqJ h (fun j1 => ⟨36, [(0, vl (eL (eI .i64)) aSlices), (3, vi j1)], []⟩) (fun v2 h => ?_) (fun j1 h => ?_)
  refine swp_blk (a := v2) ?_
  refine swp_lpL (r := v2) (s := (0, 0)) _ (fun s3 => ⟨36, [(0, vl (eL (eI .i64)) aSlices), (3, vi s3.2), (9, vl (eL (eI .i64)) aSlices), (10, vi (aSlices.length : Int)), (11, vi s3.1)], []⟩) _ (Le.sub0) h (fun s3 v4 h => ?_)
  refine srk tbokGB ⟨36, [(0, vl (eL (eI .i64)) aSlices), (3, vi s3.2), (9, vl (eL (eI .i64)) aSlices), (10, vi (aSlices.length : Int)), (11, vi s3.1), (12, vb (decide (s3.1 < (aSlices.length : Int))))], []⟩ ?_
  refine swp_seq ?_
  refine swp_cd h (fun h => ?_) fun h => ?_
  refine swp_skip ?_
  refine nx_n ?_
  refine swp_seq ?_
  refine swp_seqJ h (fun j5 => ⟨36, [(0, vl (eL (eI .i64)) aSlices), (3, vi j5), (9, vl (eL (eI .i64)) aSlices), (10, vi (aSlices.length : Int)), (11, vi s3.1)], []⟩) (fun v6 h => ?_) (fun j5 h => ?_)
  refine swp_blk (a := v6) ?_
  refine sr ?_
  obtain ⟨x7, hx7, h⟩ := bind_some h
  refine SRun.ls (x_index (L := aSlices) (f := (eL (eI .i64))) (ti := ti35) (tj := ti26) (e := 26) (k := .i64) tbokGB rfl hx7) ?_
  refine ckn tbokGB 2 ⟨36, [(0, vl (eL (eI .i64)) aSlices), (3, vi s3.2), (5, vl (eI .i64) x7), (9, vl (eL (eI .i64)) aSlices), (10, vi (aSlices.length : Int)), (11, vi s3.1)], []⟩ ?_
  refine srk tbokGB ⟨36, [(0, vl (eL (eI .i64)) aSlices), (3, vi (w64 (s3.2 + (x7.length : Int)))), (9, vl (eL (eI .i64)) aSlices), (10, vi (aSlices.length : Int)), (11, vi s3.1)], []⟩ ?_
  refine srk tbokGB ⟨36, [(0, vl (eL (eI .i64)) aSlices), (3, vi (w64 (s3.2 + (x7.length : Int)))), (9, vl (eL (eI .i64)) aSlices), (10, vi (aSlices.length : Int)), (11, vi s3.1), (20, vb (decide ((w64 (s3.2 + (x7.length : Int))) < 0)))], []⟩ ?_
  refine swp_cd h (fun h => ?_) fun h => ?_
  refine swp_reg ?_
  exact dead h
  refine swp_skip ?_
  obtain rfl := inj h
  exact q_bn (q_j (Le.sub0))
  refine swp_reg ?_
  refine SRun.ck tbokGB 2 ⟨36, [(0, vl (eL (eI .i64)) aSlices), (3, vi j5), (9, vl (eL (eI .i64)) aSlices), (10, vi (aSlices.length : Int)), (11, vi (w64 (s3.1 + 1)))], []⟩ ?_
  refine SRun.nil ?_
  obtain rfl := inj h
  exact q_l (Le.sub0)
  refine swp_exit ?_
  obtain rfl := inj h
  exact nx_e (q_re (q_bh (q_j (Le.sub0))))
  refine sr ?_
  refine SRun.ck tbokGB 1 ⟨36, [(0, vl (eL (eI .i64)) aSlices), (23, vi j1)], []⟩ ?_
  obtain ⟨x8, hx8, h⟩ := bind_some h
  refine SRun.ls (lstep_callV nil0 (f := 165) (caps := []) (xs := [.tr (.sl 0 []), vi j1]) (ys := [.tr (.sl 0 []), vi j1]) (res := ⟨[.own 2 1 ([] : List Int).length (([] : List Int).map (eI .i64))], [], true⟩) (x := .own 24) (y := some (oa 2 1 (eI .i64) ([] : List Int))) rfl (by kernel_rfl) (by kernel_rfl) (by kernel_rfl) (by kernel_rfl) (by kernel_rfl) ents165 (grow_nil (eI .i64) Tryz.growint64 165 2 rfl rfl _ _ 1 rfl rfl (by kernel_rfl) (by kernel_rfl) (by kernel_rfl) (by decide) j1 _ hx8 ([] : List Int) rfl) (nil0_of rfl) rfl (fun _ => rfl) (by kernel_rfl)) ?_
  refine ckn tbokGB 1 ⟨36, [(0, vl (eL (eI .i64)) aSlices), (6, .own 24)], [(24, oa 2 1 (eI .i64) ([] : List Int))]⟩ ?_
  refine swp_seq ?_
  refine srk tbokGB ⟨36, [(6, .own 24), (25, vl (eL (eI .i64)) aSlices), (26, vi (aSlices.length : Int)), (27, vi 0)], [(24, oa 2 1 (eI .i64) ([] : List Int))]⟩ ?_
  refine swp_seqJ h (fun j9 => ⟨36, [(6, .own 6)], [(6, oa 2 1 (eI .i64) j9)]⟩) (fun v10 h => ?_) (fun j9 h => ?_)
  refine swp_blk (a := v10) ?_
  refine swp_lpL (r := v10) (s := (0, ([] : List Int))) _ (fun s11 => ⟨36, [(6, .own 6), (25, vl (eL (eI .i64)) aSlices), (26, vi (aSlices.length : Int)), (27, vi s11.1)], [(6, oa 2 1 (eI .i64) s11.2)]⟩) _ (Le.rr [24] [(24, 6)]) h (fun s11 v12 h => ?_)
  refine srk tbokGB ⟨36, [(6, .own 6), (25, vl (eL (eI .i64)) aSlices), (26, vi (aSlices.length : Int)), (27, vi s11.1), (28, vb (decide (s11.1 < (aSlices.length : Int))))], [(6, oa 2 1 (eI .i64) s11.2)]⟩ ?_
  refine swp_seq ?_
  refine swp_cd h (fun h => ?_) fun h => ?_
  refine swp_skip ?_
  refine nx_n ?_
  refine swp_seq ?_
  refine swp_seqJ h (fun j13 => ⟨36, [(6, .own 6), (25, vl (eL (eI .i64)) aSlices), (26, vi (aSlices.length : Int)), (27, vi s11.1)], [(6, oa 2 1 (eI .i64) j13)]⟩) (fun v14 h => ?_) (fun j13 h => ?_)
  refine swp_blk (a := v14) ?_
  refine sr ?_
  obtain ⟨x15, hx15, h⟩ := bind_some h
  refine SRun.ls (x_index (L := aSlices) (f := (eL (eI .i64))) (ti := ti35) (tj := ti26) (e := 26) (k := .i64) tbokGB rfl hx15) ?_
  refine ckn tbokGB 2 ⟨36, [(6, .own 6), (8, vl (eI .i64) x15), (25, vl (eL (eI .i64)) aSlices), (26, vi (aSlices.length : Int)), (27, vi s11.1)], [(6, oa 2 1 (eI .i64) s11.2)]⟩ ?_
  refine swp_reg ?_
  refine SRun.ck tbokGB 2 ⟨36, [(25, vl (eL (eI .i64)) aSlices), (26, vi (aSlices.length : Int)), (27, vi s11.1), (31, .own 6), (32, vl (eI .i64) x15)], [(6, oa 2 1 (eI .i64) s11.2)]⟩ ?_
  obtain ⟨x16, hx16, h⟩ := bind_some h
  refine SRun.estep (x_append (f := (eI .i64)) (t := 26) (ti := ti26) (tj := ti2) (zs := [.int .i64 0]) (e := 2) (m := 1) (d := 6) (xv := vl (eI .i64) x15) hx16 tbokGB rfl rfl rfl rfl (src_e (fun _ => rfl))) ?_
  refine SRun.ck tbokGB 1 ⟨36, [(6, .own 33), (25, vl (eL (eI .i64)) aSlices), (26, vi (aSlices.length : Int)), (27, vi s11.1)], [(33, oa 2 1 (eI .i64) x16)]⟩ ?_
  refine SRun.nil ?_
  obtain rfl := inj h
  exact q_bn (q_j (Le.rr [33] [(33, 6)]))
  refine swp_reg ?_
  refine SRun.ck tbokGB 2 ⟨36, [(6, .own 6), (25, vl (eL (eI .i64)) aSlices), (26, vi (aSlices.length : Int)), (27, vi (w64 (s11.1 + 1)))], [(6, oa 2 1 (eI .i64) j13)]⟩ ?_
  refine SRun.nil ?_
  obtain rfl := inj h
  exact q_l (Le.sub0)
  refine swp_exit ?_
  obtain rfl := inj h
  exact nx_e (q_re (q_bh (q_j (Le.sub0))))
  refine srk tbokGB ⟨36, [(2, .own 6)], [(6, oa 2 1 (eI .i64) j9)]⟩ ?_
  refine swp_ret ?_
  obtain rfl := inj h
  exact q_fr (f1 (fo (eI_flat .i64)))
theorem ents137 : Ents Tryz.prog 137 := ents_of Tryz.func137 (by kernel_rfl) rfl
noncomputable def impl_lacking (aList : (List Int)) (aI : Int) : Option ((List Int)) :=
  ((part' aList 0 aI).bind fun x1 => ((part' aList (w64 (aI + 1)) (aList.length : Int)).bind fun x2 => ((slices_Concat_int64 ([x1, x2] : List (List Int))).bind fun x3 => some x3)))
theorem impl_lacking_run (aList : (List Int)) (aI : Int) (r : (List Int)) (h : impl_lacking aList aI = some r) : SCall Tryz.prog 91 [.v (vl (eI .i64) aList), .v (vi aI)] ⟨[.own 2 1 r.length (r.map (eI .i64))], [], false⟩ := by
  refine scall_in Tryz.func91 rfl [(.tmp 4)] rfl (fun r => ⟨[.own 2 1 r.length (r.map (eI .i64))], [], false⟩) (r := r) ?_
  unfold impl_lacking at h
  refine srk tbokGB ⟨14, [(0, vl (eI .i64) aList), (1, vi aI)], []⟩ ?_
  refine swp_seq ?_
  refine swp_dr mixed ?_
  refine DGo.ck tbokGB false 2 ⟨14, [(0, vl (eI .i64) aList), (1, vi aI), (5, vl (eI .i64) aList), (6, vi aI)], []⟩ ?_
  obtain ⟨x1, hx1, h⟩ := bind_some h
  refine DGo.step (x_slice (m := 1) (f := (eI .i64)) (ti := ti26) (tj := ti2) (e := 2) hx1 (fun _ => rfl) tbokGB rfl) ?_
  refine DGo.ck tbokGB false 3 ⟨14, [(7, vl (eI .i64) x1), (8, vl (eI .i64) aList), (10, vi (w64 (aI + 1)))], []⟩ ?_
  obtain ⟨x2, hx2, h⟩ := bind_some h
  refine DGo.step (x_slice (m := 1) (f := (eI .i64)) (ti := ti26) (tj := ti2) (e := 2) hx2 (fun _ => rfl) tbokGB rfl) ?_
  refine DGo.ck tbokGB false 1 ⟨14, [(12, .own 12)], [(12, oa 26 1 (eL (eI .i64)) ([x1, x2] : List (List Int)))]⟩ ?_
  obtain ⟨x3, hx3, h⟩ := bind_some h
  refine DGo.stepW false [12] (xc ents137 (slices_Concat_int64_run ([x1, x2] : List (List Int)) _ hx3)) ?_
  refine DGo.ck tbokGB false 1 ⟨14, [(4, .own 13)], [(13, oa 2 1 (eI .i64) x3)]⟩ ?_
  refine DGo.nx ?_
  refine swp_ret ?_
  obtain rfl := inj h
  exact q_fr (f1 (fo (eI_flat .i64)))
theorem ents91 : Ents Tryz.prog 91 := ents_of Tryz.func91 (by kernel_rfl) rfl
noncomputable def impl_isCore (aList : (List Claim)) (aIndices : (List Int)) : Option (Bool) :=
  ((impl_chosen aList aIndices).bind fun x1 => ((impl_areConsistent x1).bind fun x2 => (bif x2 then some false else (((forN (aIndices.length : Int) (fun (i5 : Int) (_ : Unit) => ((impl_lacking aIndices i5).bind fun x9 => ((impl_chosen aList x9).bind fun x10 => ((impl_areConsistent x10).bind fun x11 => (bif (!x11) then some (.inr (.inr false)) else some (.inl ())))))) (fun (_ : Unit) => .inl ()) 0 ())).bind (Sum.elim (fun (_ : Unit) => some true) some)))))
theorem impl_isCore_run (aList : (List Claim)) (aIndices : (List Int)) (r : Bool) (h : impl_isCore aList aIndices = some r) : SCall Tryz.prog 44 [.v (vl eClaim aList), .v (vl (eI .i64) aIndices)] ⟨[.v (vb r)], [], false⟩ := by
  refine scall_in Tryz.func44 rfl [(.tmp 4)] rfl (fun r => ⟨[.v (vb r)], [], false⟩) (r := r) ?_
  unfold impl_isCore at h
  refine srk tbokGB ⟨23, [(0, vl eClaim aList), (1, vl (eI .i64) aIndices)], []⟩ ?_
  refine swp_seq ?_
  refine sr ?_
  refine SRun.ck tbokGB 2 ⟨23, [(0, vl eClaim aList), (1, vl (eI .i64) aIndices), (6, vl eClaim aList), (7, vl (eI .i64) aIndices)], []⟩ ?_
  obtain ⟨x1, hx1, h⟩ := bind_some h
  refine SRun.ls (xc ents85 (impl_chosen_run aList aIndices _ hx1)) ?_
  obtain ⟨x2, hx2, h⟩ := bind_some h
  refine SRun.ls (xc ents41 (impl_areConsistent_run x1 _ hx2)) ?_
  refine SRun.nx ?_
  refine swp_cd h (fun h => ?_) fun h => ?_
  refine srk tbokGB ⟨23, [(4, vb false)], []⟩ ?_
  refine swp_ret ?_
  obtain rfl := inj h
  exact nx_r (q_fr (f1 fv))
  refine swp_skip ?_
  refine nx_n ?_
  refine swp_seq ?_
  refine srk tbokGB ⟨23, [(0, vl eClaim aList), (1, vl (eI .i64) aIndices), (11, vi (aIndices.length : Int)), (12, vi 0)], []⟩ ?_
  refine swp_seqE (r := r) h (fun j3 => ⟨23, [], []⟩) (fun v4 h => ?_) (fun j3 h => ?_)
  refine swp_blk (a := v4) ?_
  refine swp_lpL (r := v4) (s := (0, ())) _ (fun s5 => ⟨23, [(0, vl eClaim aList), (1, vl (eI .i64) aIndices), (11, vi (aIndices.length : Int)), (12, vi s5.1)], []⟩) _ (Le.sub0) h (fun s5 v6 h => ?_)
  refine srk tbokGB ⟨23, [(0, vl eClaim aList), (1, vl (eI .i64) aIndices), (11, vi (aIndices.length : Int)), (12, vi s5.1), (13, vb (decide (s5.1 < (aIndices.length : Int))))], []⟩ ?_
  refine swp_seq ?_
  refine swp_cd h (fun h => ?_) fun h => ?_
  refine swp_skip ?_
  refine nx_n ?_
  refine swp_seq ?_
  refine swp_seqL (r := v6) h (fun j7 => ⟨23, [(0, vl eClaim aList), (1, vl (eI .i64) aIndices), (11, vi (aIndices.length : Int)), (12, vi s5.1)], []⟩) (fun v8 h => ?_) (fun j7 h => ?_)
  refine swp_blk (a := v8) ?_
  refine srk tbokGB ⟨23, [(0, vl eClaim aList), (1, vl (eI .i64) aIndices), (5, vi s5.1), (11, vi (aIndices.length : Int)), (12, vi s5.1)], []⟩ ?_
  refine sr ?_
  refine SRun.ck tbokGB 3 ⟨23, [(0, vl eClaim aList), (1, vl (eI .i64) aIndices), (11, vi (aIndices.length : Int)), (12, vi s5.1), (15, vl eClaim aList), (16, vl (eI .i64) aIndices), (17, vi s5.1)], []⟩ ?_
  obtain ⟨x9, hx9, h⟩ := bind_some h
  refine SRun.ls (xc ents91 (impl_lacking_run aIndices s5.1 _ hx9)) ?_
  obtain ⟨x10, hx10, h⟩ := bind_some h
  refine SRun.ls (xc ents85 (impl_chosen_run aList x9 _ hx10)) ?_
  obtain ⟨x11, hx11, h⟩ := bind_some h
  refine SRun.ls (xc ents41 (impl_areConsistent_run x10 _ hx11)) ?_
  refine ckn tbokGB 1 ⟨23, [(0, vl eClaim aList), (1, vl (eI .i64) aIndices), (11, vi (aIndices.length : Int)), (12, vi s5.1), (21, vb (!x11))], []⟩ ?_
  refine swp_cd h (fun h => ?_) fun h => ?_
  refine srk tbokGB ⟨23, [(4, vb false)], []⟩ ?_
  refine swp_ret ?_
  obtain rfl := inj h
  exact q_br (q_rr (q_rr (q_br (q_rr (q_fr (f1 fv))))))
  refine swp_skip ?_
  obtain rfl := inj h
  exact q_bn (q_l (Le.sub0))
  refine swp_reg ?_
  refine SRun.ck tbokGB 2 ⟨23, [(0, vl eClaim aList), (1, vl (eI .i64) aIndices), (11, vi (aIndices.length : Int)), (12, vi (w64 (s5.1 + 1)))], []⟩ ?_
  refine SRun.nil ?_
  obtain rfl := inj h
  exact q_l (Le.sub0)
  refine swp_exit ?_
  obtain rfl := inj h
  exact nx_e (q_re (q_bh (q_l (Le.sub0))))
  refine srk tbokGB ⟨23, [(4, vb true)], []⟩ ?_
  refine swp_ret ?_
  obtain rfl := inj h
  exact q_fr (f1 fv)
theorem ents44 : Ents Tryz.prog 44 := ents_of Tryz.func44 (by kernel_rfl) rfl
noncomputable def impl_IsCore (aList : (List Claim)) (aIndices : (List Int)) : Option (Bool × Int) :=
  ((impl_chosenCode aList aIndices).bind fun x1 => (bif (x1 != 0) then some (false, x1) else ((impl_isCore aList aIndices).bind fun x2 => some (x2, 0))))
theorem impl_IsCore_run (aList : (List Claim)) (aIndices : (List Int)) (r : Bool × Int) (h : impl_IsCore aList aIndices = some r) : SCall Tryz.prog 18 [.v (vl eClaim aList), .v (vl (eI .i64) aIndices)] ⟨[.v (vb r.1), .v (vi r.2)], [], false⟩ := by
  refine scall_in Tryz.func18 rfl [(.tmp 4), (.tmp 5)] rfl (fun r => ⟨[.v (vb r.1), .v (vi r.2)], [], false⟩) (r := r) ?_
  unfold impl_IsCore at h
  refine srk tbokGB ⟨16, [(0, vl eClaim aList), (1, vl (eI .i64) aIndices)], []⟩ ?_
  refine swp_seq ?_
  refine sr ?_
  refine SRun.ck tbokGB 2 ⟨16, [(0, vl eClaim aList), (1, vl (eI .i64) aIndices), (7, vl eClaim aList), (8, vl (eI .i64) aIndices)], []⟩ ?_
  obtain ⟨x1, hx1, h⟩ := bind_some h
  refine SRun.ls (xc ents39 (impl_chosenCode_run aList aIndices _ hx1)) ?_
  refine ckn tbokGB 1 ⟨16, [(0, vl eClaim aList), (1, vl (eI .i64) aIndices), (6, vi x1)], []⟩ ?_
  refine srk tbokGB ⟨16, [(0, vl eClaim aList), (1, vl (eI .i64) aIndices), (6, vi x1), (11, vb (x1 != 0))], []⟩ ?_
  refine swp_cd h (fun h => ?_) fun h => ?_
  refine srk tbokGB ⟨16, [(4, vb false), (5, vi x1)], []⟩ ?_
  refine swp_ret ?_
  obtain rfl := inj h
  exact nx_r (q_fr (f2 fv fv))
  refine swp_skip ?_
  refine nx_n ?_
  refine sr ?_
  refine SRun.ck tbokGB 2 ⟨16, [(13, vl eClaim aList), (14, vl (eI .i64) aIndices)], []⟩ ?_
  obtain ⟨x2, hx2, h⟩ := bind_some h
  refine SRun.ls (xc ents44 (impl_isCore_run aList aIndices _ hx2)) ?_
  refine ckn tbokGB 2 ⟨16, [(4, vb x2), (5, vi 0)], []⟩ ?_
  refine swp_ret ?_
  obtain rfl := inj h
  exact q_fr (f2 fv fv)
theorem ents18 : Ents Tryz.prog 18 := ents_of Tryz.func18 (by kernel_rfl) rfl
noncomputable def laws_FnTop (aCode : (List Int)) : Option (Bool) :=
  ((laws_big aCode).bind fun x1 => (bif x1 then some true else ((spec_DrawBestRepair aCode).bind fun x2 => ((impl_BestRepair x2).bind fun x3 => ((spec_BestRepair x2).bind fun x4 => (((bif (x3.2.2 != x4.2.2) then some true else ((laws_likeInts x3.1 x4.1).bind fun x5 => (bif (!x5) then some true else some (x3.2.1 != x4.2.1))))).bind fun (j6 : Bool) => (bif j6 then some false else (bif (x3.2.2 != 0) then some true else ((impl_KeptClaims x2 x3.1).bind fun x8 => ((impl_AreConsistent x8.1).bind fun x9 => ((impl_HitsAll x2 x3.1).bind fun x10 => ((impl_CoresOf x2).bind fun x11 => ((spec_CoresOf x2).bind fun x12 => (((bif (x8.2 != 0) then some true else (bif (x9.2 != 0) then some true else (bif (!x9.1) then some true else (bif (x10.2 != 0) then some true else (bif (!x10.1) then some true else (bif (x11.2 != x12.2) then some true else ((laws_likeTables x11.1 x12.1).bind fun x13 => (bif (!x13) then some true else some ((w64 ((x8.1.length : Int) + (x3.1.length : Int))) != (x2.length : Int))))))))))).bind fun (j14 : Bool) => (bif j14 then some false else (((forN (x11.1.length : Int) (fun (i18 : Int) (_ : Unit) => ((at' x11.1 i18).bind fun x22 => ((impl_IsCore x2 x22).bind fun x23 => (bif ((x23.2 != 0) || (!x23.1)) then some (.inr (.inr false)) else some (.inl ()))))) (fun (_ : Unit) => .inl ()) 0 ())).bind (Sum.elim (fun (_ : Unit) => (((forN (x8.1.length : Int) (fun (i26 : Int) (_ : Unit) => ((at' x8.1 i26).bind fun x30 => (bif (x30.Kind != 0) then some (.inl ()) else ((at' x8.1 i26).bind fun x31 => ((at' x8.1 i26).bind fun x32 => ((impl_BestName x2 x31.Place x32.Years.From).bind fun x33 => (((bif (x33.2 != 0) then some true else ((at' x8.1 i26).bind fun x34 => some (!(x33.1.toList == x34.Value.toList))))).bind fun (j35 : Bool) => (bif j35 then some (.inr (.inr false)) else some (.inl ()))))))))) (fun (_ : Unit) => .inl ()) 0 ())).bind (Sum.elim (fun (_ : Unit) => some ((x11.2 != 0) || (((x11.1.length : Int) == 0) == ((x3.1.length : Int) == 0)))) some))) some)))))))))))))))))
theorem laws_FnTop_run (aCode : (List Int)) (r : Bool) (h : laws_FnTop aCode = some r) : SCall Tryz.prog 3 [.v (vl (eI .u8) aCode)] ⟨[.v (vb r)], [], false⟩ := by
  refine scall_in Tryz.func3 rfl [(.tmp 2)] rfl (fun r => ⟨[.v (vb r)], [], false⟩) (r := r) ?_
  unfold laws_FnTop at h
  refine srk tbokGB ⟨195, [(0, vl (eI .u8) aCode)], []⟩ ?_
  refine swp_seq ?_
  refine sr ?_
  refine SRun.ck tbokGB 1 ⟨195, [(0, vl (eI .u8) aCode), (26, vl (eI .u8) aCode)], []⟩ ?_
  obtain ⟨x1, hx1, h⟩ := bind_some h
  refine SRun.ls (xc ents7 (laws_big_run aCode _ hx1)) ?_
  refine SRun.nx ?_
  refine swp_cd h (fun h => ?_) fun h => ?_
  refine srk tbokGB ⟨195, [(2, vb true)], []⟩ ?_
  refine swp_ret ?_
  obtain rfl := inj h
  exact nx_r (q_fr (f1 fv))
  refine swp_skip ?_
  refine nx_n ?_
  refine sr ?_
  refine SRun.ck tbokGB 1 ⟨195, [(28, vl (eI .u8) aCode)], []⟩ ?_
  obtain ⟨x2, hx2, h⟩ := bind_some h
  refine SRun.ls (xc ents8 (spec_DrawBestRepair_run aCode _ hx2)) ?_
  refine ckn tbokGB 1 ⟨195, [(3, .own 29)], [(29, oa 42 7 eClaim x2)]⟩ ?_
  refine sr ?_
  refine SRun.ck tbokGB 1 ⟨195, [(3, .own 29), (31, .own 29)], [(29, oa 42 7 eClaim x2)]⟩ ?_
  refine SRun.le (Le.frz' (d := 29) (e := 42) (m := 7) (n := x2.length) (es := x2.map eClaim) (by kernel_rfl) (by kernel_rfl)) ?_
  obtain ⟨x3, hx3, h⟩ := bind_some h
  refine SRun.ls (xc ents9 (impl_BestRepair_run x2 _ hx3)) ?_
  refine ckn tbokGB 7 ⟨195, [(3, vl eClaim x2), (4, vl (eI .i64) x3.1), (5, vi x3.2.1), (6, vi x3.2.2)], []⟩ ?_
  refine sr ?_
  refine SRun.ck tbokGB 1 ⟨195, [(3, vl eClaim x2), (4, vl (eI .i64) x3.1), (5, vi x3.2.1), (6, vi x3.2.2), (37, vl eClaim x2)], []⟩ ?_
  obtain ⟨x4, hx4, h⟩ := bind_some h
  refine SRun.ls (xc ents10 (spec_BestRepair_run x2 _ hx4)) ?_
  refine ckn tbokGB 7 ⟨195, [(3, vl eClaim x2), (4, vl (eI .i64) x3.1), (5, vi x3.2.1), (6, vi x3.2.2), (7, vl (eI .i64) x4.1), (8, vi x4.2.1), (9, vi x4.2.2)], []⟩ ?_
  refine swp_seq ?_
  refine swp_seq ?_
  refine swp_regJ h (fun j6 => ⟨195, [(3, vl eClaim x2), (4, vl (eI .i64) x3.1), (6, vi x3.2.2), (55, vb j6)], []⟩) (fun v7 h => ?_) (fun j6 h => ?_)
  refine SRun.ck tbokGB 4 ⟨195, [(3, vl eClaim x2), (4, vl (eI .i64) x3.1), (5, vi x3.2.1), (6, vi x3.2.2), (7, vl (eI .i64) x4.1), (8, vi x4.2.1), (45, vb (x3.2.2 != x4.2.2))], []⟩ ?_
  refine SRun.cu [(45, fun b => b)] h (fun h => ?_) fun h => ?_
  refine SRun.ck tbokGB 10 ⟨195, [(3, vl eClaim x2), (4, vl (eI .i64) x3.1), (6, vi x3.2.2), (55, vb true)], []⟩ ?_
  refine SRun.nil ?_
  obtain rfl := inj h
  exact Le.sub0
  refine SRun.ck tbokGB 2 ⟨195, [(3, vl eClaim x2), (4, vl (eI .i64) x3.1), (5, vi x3.2.1), (6, vi x3.2.2), (8, vi x4.2.1), (45, vb false), (46, vl (eI .i64) x3.1), (47, vl (eI .i64) x4.1)], []⟩ ?_
  obtain ⟨x5, hx5, h⟩ := bind_some h
  refine SRun.ls (xc ents11 (laws_likeInts_run x3.1 x4.1 _ hx5)) ?_
  refine SRun.ck tbokGB 3 ⟨195, [(3, vl eClaim x2), (4, vl (eI .i64) x3.1), (5, vi x3.2.1), (6, vi x3.2.2), (8, vi x4.2.1), (51, vb (!x5))], []⟩ ?_
  refine SRun.cu [(51, fun b => b)] h (fun h => ?_) fun h => ?_
  refine SRun.ck tbokGB 4 ⟨195, [(3, vl eClaim x2), (4, vl (eI .i64) x3.1), (6, vi x3.2.2), (55, vb true)], []⟩ ?_
  refine SRun.nil ?_
  obtain rfl := inj h
  exact Le.sub0
  refine SRun.ck tbokGB 4 ⟨195, [(3, vl eClaim x2), (4, vl (eI .i64) x3.1), (6, vi x3.2.2), (55, vb (x3.2.1 != x4.2.1))], []⟩ ?_
  refine SRun.nil ?_
  obtain rfl := inj h
  exact Le.sub0
  refine swp_cd h (fun h => ?_) fun h => ?_
  refine srk tbokGB ⟨195, [(2, vb false)], []⟩ ?_
  refine swp_ret ?_
  obtain rfl := inj h
  exact nx_r (q_fr (f1 fv))
  refine swp_skip ?_
  refine nx_n ?_
  refine swp_seq ?_
  refine srk tbokGB ⟨195, [(3, vl eClaim x2), (4, vl (eI .i64) x3.1), (57, vb (x3.2.2 != 0))], []⟩ ?_
  refine swp_cd h (fun h => ?_) fun h => ?_
  refine srk tbokGB ⟨195, [(2, vb true)], []⟩ ?_
  refine swp_ret ?_
  obtain rfl := inj h
  exact nx_r (q_fr (f1 fv))
  refine swp_skip ?_
  refine nx_n ?_
  refine sr ?_
  refine SRun.ck tbokGB 2 ⟨195, [(3, vl eClaim x2), (4, vl (eI .i64) x3.1), (59, vl eClaim x2), (60, vl (eI .i64) x3.1)], []⟩ ?_
  obtain ⟨x8, hx8, h⟩ := bind_some h
  refine SRun.ls (xc ents12 (impl_KeptClaims_run x2 x3.1 _ hx8)) ?_
  refine ckn tbokGB 5 ⟨195, [(3, vl eClaim x2), (4, vl (eI .i64) x3.1), (10, .own 61), (11, vi x8.2)], [(61, oa 42 7 eClaim x8.1)]⟩ ?_
  refine sr ?_
  refine SRun.ck tbokGB 1 ⟨195, [(3, vl eClaim x2), (4, vl (eI .i64) x3.1), (10, .own 61), (11, vi x8.2), (65, .own 61)], [(61, oa 42 7 eClaim x8.1)]⟩ ?_
  obtain ⟨x9, hx9, h⟩ := bind_some h
  refine SRun.ls (xc ents13 (impl_AreConsistent_run x8.1 _ hx9)) ?_
  refine ckn tbokGB 5 ⟨195, [(3, vl eClaim x2), (4, vl (eI .i64) x3.1), (10, .own 61), (11, vi x8.2), (12, vb x9.1), (13, vi x9.2)], [(61, oa 42 7 eClaim x8.1)]⟩ ?_
  refine sr ?_
  refine SRun.ck tbokGB 2 ⟨195, [(3, vl eClaim x2), (4, vl (eI .i64) x3.1), (10, .own 61), (11, vi x8.2), (12, vb x9.1), (13, vi x9.2), (70, vl eClaim x2), (71, vl (eI .i64) x3.1)], [(61, oa 42 7 eClaim x8.1)]⟩ ?_
  obtain ⟨x10, hx10, h⟩ := bind_some h
  refine SRun.ls (xc ents14 (impl_HitsAll_run x2 x3.1 _ hx10)) ?_
  refine ckn tbokGB 5 ⟨195, [(3, vl eClaim x2), (4, vl (eI .i64) x3.1), (10, .own 61), (11, vi x8.2), (12, vb x9.1), (13, vi x9.2), (14, vb x10.1), (15, vi x10.2)], [(61, oa 42 7 eClaim x8.1)]⟩ ?_
  refine sr ?_
  refine SRun.ck tbokGB 1 ⟨195, [(3, vl eClaim x2), (4, vl (eI .i64) x3.1), (10, .own 61), (11, vi x8.2), (12, vb x9.1), (13, vi x9.2), (14, vb x10.1), (15, vi x10.2), (76, vl eClaim x2)], [(61, oa 42 7 eClaim x8.1)]⟩ ?_
  obtain ⟨x11, hx11, h⟩ := bind_some h
  refine SRun.ls (xc ents15 (impl_CoresOf_run x2 _ hx11)) ?_
  refine ckn tbokGB 5 ⟨195, [(3, vl eClaim x2), (4, vl (eI .i64) x3.1), (10, .own 61), (11, vi x8.2), (12, vb x9.1), (13, vi x9.2), (14, vb x10.1), (15, vi x10.2), (16, .own 77), (17, vi x11.2)], [(61, oa 42 7 eClaim x8.1), (77, oa 26 1 (eL (eI .i64)) x11.1)]⟩ ?_
  refine sr ?_
  refine SRun.ck tbokGB 1 ⟨195, [(3, vl eClaim x2), (4, vl (eI .i64) x3.1), (10, .own 61), (11, vi x8.2), (12, vb x9.1), (13, vi x9.2), (14, vb x10.1), (15, vi x10.2), (16, .own 77), (17, vi x11.2), (81, vl eClaim x2)], [(61, oa 42 7 eClaim x8.1), (77, oa 26 1 (eL (eI .i64)) x11.1)]⟩ ?_
  obtain ⟨x12, hx12, h⟩ := bind_some h
  refine SRun.ls (xc ents16 (spec_CoresOf_run x2 _ hx12)) ?_
  refine ckn tbokGB 5 ⟨195, [(3, vl eClaim x2), (4, vl (eI .i64) x3.1), (10, .own 61), (11, vi x8.2), (12, vb x9.1), (13, vi x9.2), (14, vb x10.1), (15, vi x10.2), (16, .own 77), (17, vi x11.2), (18, .own 82), (19, vi x12.2)], [(61, oa 42 7 eClaim x8.1), (77, oa 26 1 (eL (eI .i64)) x11.1), (82, oa 26 1 (eL (eI .i64)) x12.1)]⟩ ?_
  refine swp_seq ?_
  refine swp_seq ?_
  refine swp_regJ h (fun j14 => ⟨195, [(3, vl eClaim x2), (4, vl (eI .i64) x3.1), (10, .own 10), (16, .own 16), (17, vi x11.2), (123, vb j14)], [(10, oa 42 7 eClaim x8.1), (16, oa 26 1 (eL (eI .i64)) x11.1)]⟩) (fun v15 h => ?_) (fun j14 h => ?_)
  refine SRun.ck tbokGB 3 ⟨195, [(3, vl eClaim x2), (4, vl (eI .i64) x3.1), (10, .own 61), (12, vb x9.1), (13, vi x9.2), (14, vb x10.1), (15, vi x10.2), (16, .own 77), (17, vi x11.2), (18, .own 82), (19, vi x12.2), (87, vb (x8.2 != 0))], [(61, oa 42 7 eClaim x8.1), (77, oa 26 1 (eL (eI .i64)) x11.1), (82, oa 26 1 (eL (eI .i64)) x12.1)]⟩ ?_
  refine SRun.cu [(87, fun b => b)] h (fun h => ?_) fun h => ?_
  refine SRun.ck tbokGB 36 ⟨195, [(3, vl eClaim x2), (4, vl (eI .i64) x3.1), (10, .own 61), (16, .own 77), (17, vi x11.2), (123, vb true)], [(61, oa 42 7 eClaim x8.1), (77, oa 26 1 (eL (eI .i64)) x11.1)]⟩ ?_
  refine SRun.nil ?_
  obtain rfl := inj h
  exact Le.rr [61, 77] [(61, 10), (77, 16)]
  refine SRun.ck tbokGB 4 ⟨195, [(3, vl eClaim x2), (4, vl (eI .i64) x3.1), (10, .own 61), (12, vb x9.1), (14, vb x10.1), (15, vi x10.2), (16, .own 77), (17, vi x11.2), (18, .own 82), (19, vi x12.2), (91, vb (x9.2 != 0))], [(61, oa 42 7 eClaim x8.1), (77, oa 26 1 (eL (eI .i64)) x11.1), (82, oa 26 1 (eL (eI .i64)) x12.1)]⟩ ?_
  refine SRun.cu [(91, fun b => b)] h (fun h => ?_) fun h => ?_
  refine SRun.ck tbokGB 32 ⟨195, [(3, vl eClaim x2), (4, vl (eI .i64) x3.1), (10, .own 61), (16, .own 77), (17, vi x11.2), (123, vb true)], [(61, oa 42 7 eClaim x8.1), (77, oa 26 1 (eL (eI .i64)) x11.1)]⟩ ?_
  refine SRun.nil ?_
  obtain rfl := inj h
  exact Le.rr [61, 77] [(61, 10), (77, 16)]
  refine SRun.ck tbokGB 4 ⟨195, [(3, vl eClaim x2), (4, vl (eI .i64) x3.1), (10, .own 61), (14, vb x10.1), (15, vi x10.2), (16, .own 77), (17, vi x11.2), (18, .own 82), (19, vi x12.2), (95, vb (!x9.1))], [(61, oa 42 7 eClaim x8.1), (77, oa 26 1 (eL (eI .i64)) x11.1), (82, oa 26 1 (eL (eI .i64)) x12.1)]⟩ ?_
  refine SRun.cu [(95, fun b => b)] h (fun h => ?_) fun h => ?_
  refine SRun.ck tbokGB 28 ⟨195, [(3, vl eClaim x2), (4, vl (eI .i64) x3.1), (10, .own 61), (16, .own 77), (17, vi x11.2), (123, vb true)], [(61, oa 42 7 eClaim x8.1), (77, oa 26 1 (eL (eI .i64)) x11.1)]⟩ ?_
  refine SRun.nil ?_
  obtain rfl := inj h
  exact Le.rr [61, 77] [(61, 10), (77, 16)]
  refine SRun.ck tbokGB 4 ⟨195, [(3, vl eClaim x2), (4, vl (eI .i64) x3.1), (10, .own 61), (14, vb x10.1), (16, .own 77), (17, vi x11.2), (18, .own 82), (19, vi x12.2), (99, vb (x10.2 != 0))], [(61, oa 42 7 eClaim x8.1), (77, oa 26 1 (eL (eI .i64)) x11.1), (82, oa 26 1 (eL (eI .i64)) x12.1)]⟩ ?_
  refine SRun.cu [(99, fun b => b)] h (fun h => ?_) fun h => ?_
  refine SRun.ck tbokGB 24 ⟨195, [(3, vl eClaim x2), (4, vl (eI .i64) x3.1), (10, .own 61), (16, .own 77), (17, vi x11.2), (123, vb true)], [(61, oa 42 7 eClaim x8.1), (77, oa 26 1 (eL (eI .i64)) x11.1)]⟩ ?_
  refine SRun.nil ?_
  obtain rfl := inj h
  exact Le.rr [61, 77] [(61, 10), (77, 16)]
  refine SRun.ck tbokGB 4 ⟨195, [(3, vl eClaim x2), (4, vl (eI .i64) x3.1), (10, .own 61), (16, .own 77), (17, vi x11.2), (18, .own 82), (19, vi x12.2), (103, vb (!x10.1))], [(61, oa 42 7 eClaim x8.1), (77, oa 26 1 (eL (eI .i64)) x11.1), (82, oa 26 1 (eL (eI .i64)) x12.1)]⟩ ?_
  refine SRun.cu [(103, fun b => b)] h (fun h => ?_) fun h => ?_
  refine SRun.ck tbokGB 20 ⟨195, [(3, vl eClaim x2), (4, vl (eI .i64) x3.1), (10, .own 61), (16, .own 77), (17, vi x11.2), (123, vb true)], [(61, oa 42 7 eClaim x8.1), (77, oa 26 1 (eL (eI .i64)) x11.1)]⟩ ?_
  refine SRun.nil ?_
  obtain rfl := inj h
  exact Le.rr [61, 77] [(61, 10), (77, 16)]
  refine SRun.ck tbokGB 5 ⟨195, [(3, vl eClaim x2), (4, vl (eI .i64) x3.1), (10, .own 61), (16, .own 77), (17, vi x11.2), (18, .own 82), (108, vb (x11.2 != x12.2))], [(61, oa 42 7 eClaim x8.1), (77, oa 26 1 (eL (eI .i64)) x11.1), (82, oa 26 1 (eL (eI .i64)) x12.1)]⟩ ?_
  refine SRun.cu [(108, fun b => b)] h (fun h => ?_) fun h => ?_
  refine SRun.ck tbokGB 15 ⟨195, [(3, vl eClaim x2), (4, vl (eI .i64) x3.1), (10, .own 61), (16, .own 77), (17, vi x11.2), (123, vb true)], [(61, oa 42 7 eClaim x8.1), (77, oa 26 1 (eL (eI .i64)) x11.1)]⟩ ?_
  refine SRun.nil ?_
  obtain rfl := inj h
  exact Le.rr [61, 77] [(61, 10), (77, 16)]
  refine SRun.ck tbokGB 2 ⟨195, [(3, vl eClaim x2), (4, vl (eI .i64) x3.1), (10, .own 61), (16, .own 77), (17, vi x11.2), (108, vb false), (109, .own 77), (110, .own 82)], [(61, oa 42 7 eClaim x8.1), (77, oa 26 1 (eL (eI .i64)) x11.1), (82, oa 26 1 (eL (eI .i64)) x12.1)]⟩ ?_
  obtain ⟨x13, hx13, h⟩ := bind_some h
  refine SRun.ls (xc ents17 (laws_likeTables_run x11.1 x12.1 _ hx13)) ?_
  refine SRun.ck tbokGB 3 ⟨195, [(3, vl eClaim x2), (4, vl (eI .i64) x3.1), (10, .own 61), (16, .own 77), (17, vi x11.2), (114, vb (!x13))], [(61, oa 42 7 eClaim x8.1), (77, oa 26 1 (eL (eI .i64)) x11.1)]⟩ ?_
  refine SRun.cu [(114, fun b => b)] h (fun h => ?_) fun h => ?_
  refine SRun.ck tbokGB 9 ⟨195, [(3, vl eClaim x2), (4, vl (eI .i64) x3.1), (10, .own 61), (16, .own 77), (17, vi x11.2), (123, vb true)], [(61, oa 42 7 eClaim x8.1), (77, oa 26 1 (eL (eI .i64)) x11.1)]⟩ ?_
  refine SRun.nil ?_
  obtain rfl := inj h
  exact Le.rr [61, 77] [(61, 10), (77, 16)]
  refine SRun.ck tbokGB 9 ⟨195, [(3, vl eClaim x2), (4, vl (eI .i64) x3.1), (10, .own 61), (16, .own 77), (17, vi x11.2), (123, vb ((w64 ((x8.1.length : Int) + (x3.1.length : Int))) != (x2.length : Int)))], [(61, oa 42 7 eClaim x8.1), (77, oa 26 1 (eL (eI .i64)) x11.1)]⟩ ?_
  refine SRun.nil ?_
  obtain rfl := inj h
  exact Le.rr [61, 77] [(61, 10), (77, 16)]
  refine swp_cd h (fun h => ?_) fun h => ?_
  refine srk tbokGB ⟨195, [(2, vb false)], []⟩ ?_
  refine swp_ret ?_
  obtain rfl := inj h
  exact nx_r (q_fr (f1 fv))
  refine swp_skip ?_
  refine nx_n ?_
  refine swp_seq ?_
  refine srk tbokGB ⟨195, [(3, vl eClaim x2), (4, vl (eI .i64) x3.1), (10, .own 10), (16, .own 16), (17, vi x11.2), (20, vi 0)], [(10, oa 42 7 eClaim x8.1), (16, oa 26 1 (eL (eI .i64)) x11.1)]⟩ ?_
  refine swp_seqE (r := r) h (fun j16 => ⟨195, [(3, vl eClaim x2), (4, vl (eI .i64) x3.1), (10, .own 10), (16, .own 16), (17, vi x11.2)], [(10, oa 42 7 eClaim x8.1), (16, oa 26 1 (eL (eI .i64)) x11.1)]⟩) (fun v17 h => ?_) (fun j16 h => ?_)
  refine swp_blk (a := v17) ?_
  refine swp_lpL (r := v17) (s := (0, ())) _ (fun s18 => ⟨195, [(3, vl eClaim x2), (4, vl (eI .i64) x3.1), (10, .own 10), (16, .own 16), (17, vi x11.2), (20, vi s18.1)], [(10, oa 42 7 eClaim x8.1), (16, oa 26 1 (eL (eI .i64)) x11.1)]⟩) _ (Le.sub0) h (fun s18 v19 h => ?_)
  refine swp_seq ?_
  refine srk tbokGB ⟨195, [(3, vl eClaim x2), (4, vl (eI .i64) x3.1), (10, .own 10), (16, .own 16), (17, vi x11.2), (20, vi s18.1), (127, vb (decide (s18.1 < (x11.1.length : Int))))], [(10, oa 42 7 eClaim x8.1), (16, oa 26 1 (eL (eI .i64)) x11.1)]⟩ ?_
  refine swp_cd h (fun h => ?_) fun h => ?_
  refine swp_skip ?_
  refine nx_n ?_
  refine swp_seq ?_
  refine swp_seqL (r := v19) h (fun j20 => ⟨195, [(3, vl eClaim x2), (4, vl (eI .i64) x3.1), (10, .own 10), (16, .own 16), (17, vi x11.2), (20, vi s18.1)], [(10, oa 42 7 eClaim x8.1), (16, oa 26 1 (eL (eI .i64)) x11.1)]⟩) (fun v21 h => ?_) (fun j20 h => ?_)
  refine swp_blk (a := v21) ?_
  refine sr ?_
  refine SRun.ck tbokGB 3 ⟨195, [(3, vl eClaim x2), (4, vl (eI .i64) x3.1), (10, .own 10), (16, .own 16), (17, vi x11.2), (20, vi s18.1), (131, vl eClaim x2), (132, .own 16), (133, vi s18.1)], [(10, oa 42 7 eClaim x8.1), (16, oa 26 1 (eL (eI .i64)) x11.1)]⟩ ?_
  obtain ⟨x22, hx22, h⟩ := bind_some h
  refine SRun.ls (x_index_own (d := 16) (L := x11.1) (f := (eL (eI .i64))) (ti := ti35) (tj := ti26) (e := 26) (e' := 26) (m := 1) (k := .i64) tbokGB rfl hx22) ?_
  refine SRun.ls (x_load_own (d := 16) (m := 1) (j := 0) (L := x11.1) (f := (eL (eI .i64))) (ti := ti26) (e := 26) (v := vl (eI .i64) x22) tbokGB rfl hx22) ?_
  obtain ⟨x23, hx23, h⟩ := bind_some h
  refine SRun.ls (xc ents18 (impl_IsCore_run x2 x22 _ hx23)) ?_
  refine ckn tbokGB 5 ⟨195, [(3, vl eClaim x2), (4, vl (eI .i64) x3.1), (10, .own 10), (16, .own 16), (17, vi x11.2), (20, vi s18.1), (21, vb x23.1), (22, vi x23.2)], [(10, oa 42 7 eClaim x8.1), (16, oa 26 1 (eL (eI .i64)) x11.1)]⟩ ?_
  refine swp_seq ?_
  refine swp_regP ⟨195, [(3, vl eClaim x2), (4, vl (eI .i64) x3.1), (10, .own 10), (16, .own 16), (17, vi x11.2), (20, vi s18.1), (144, vb ((x23.2 != 0) || (!x23.1)))], [(10, oa 42 7 eClaim x8.1), (16, oa 26 1 (eL (eI .i64)) x11.1)]⟩ ?_ ?_
  refine SRun.ck tbokGB 3 ⟨195, [(3, vl eClaim x2), (4, vl (eI .i64) x3.1), (10, .own 10), (16, .own 16), (17, vi x11.2), (20, vi s18.1), (21, vb x23.1), (141, vb (x23.2 != 0))], [(10, oa 42 7 eClaim x8.1), (16, oa 26 1 (eL (eI .i64)) x11.1)]⟩ ?_
  generalize (x23.2 != 0) = bb
  cases bb
  refine SRun.ck tbokGB 3 ⟨195, [(3, vl eClaim x2), (4, vl (eI .i64) x3.1), (10, .own 10), (16, .own 16), (17, vi x11.2), (20, vi s18.1), (144, vb (!x23.1))], [(10, oa 42 7 eClaim x8.1), (16, oa 26 1 (eL (eI .i64)) x11.1)]⟩ ?_
  exact SRun.nil (Le.sub0)
  refine SRun.ck tbokGB 3 ⟨195, [(3, vl eClaim x2), (4, vl (eI .i64) x3.1), (10, .own 10), (16, .own 16), (17, vi x11.2), (20, vi s18.1), (144, vb true)], [(10, oa 42 7 eClaim x8.1), (16, oa 26 1 (eL (eI .i64)) x11.1)]⟩ ?_
  exact SRun.nil (Le.sub0)
  refine swp_cd h (fun h => ?_) fun h => ?_
  refine srk tbokGB ⟨195, [(2, vb false)], []⟩ ?_
  refine swp_ret ?_
  obtain rfl := inj h
  exact q_br (q_rr (q_rr (q_br (q_rr (q_fr (f1 fv))))))
  refine swp_skip ?_
  obtain rfl := inj h
  exact q_bn (q_l (Le.sub0))
  refine swp_reg ?_
  refine SRun.ck tbokGB 3 ⟨195, [(3, vl eClaim x2), (4, vl (eI .i64) x3.1), (10, .own 10), (16, .own 16), (17, vi x11.2), (20, vi (w64 (s18.1 + 1)))], [(10, oa 42 7 eClaim x8.1), (16, oa 26 1 (eL (eI .i64)) x11.1)]⟩ ?_
  refine SRun.nil ?_
  obtain rfl := inj h
  exact q_l (Le.sub0)
  refine swp_exit ?_
  obtain rfl := inj h
  exact nx_e (q_re (q_bh (q_l (Le.sub0))))
  refine swp_seq ?_
  refine srk tbokGB ⟨195, [(3, vl eClaim x2), (4, vl (eI .i64) x3.1), (10, .own 10), (16, .own 16), (17, vi x11.2), (23, vi 0)], [(10, oa 42 7 eClaim x8.1), (16, oa 26 1 (eL (eI .i64)) x11.1)]⟩ ?_
  refine swp_seqE (r := r) h (fun j24 => ⟨195, [(4, vl (eI .i64) x3.1), (16, .own 16), (17, vi x11.2)], [(16, oa 26 1 (eL (eI .i64)) x11.1)]⟩) (fun v25 h => ?_) (fun j24 h => ?_)
  refine swp_blk (a := v25) ?_
  refine swp_lpL (r := v25) (s := (0, ())) _ (fun s26 => ⟨195, [(3, vl eClaim x2), (4, vl (eI .i64) x3.1), (10, .own 10), (16, .own 16), (17, vi x11.2), (23, vi s26.1)], [(10, oa 42 7 eClaim x8.1), (16, oa 26 1 (eL (eI .i64)) x11.1)]⟩) _ (Le.sub0) h (fun s26 v27 h => ?_)
  refine swp_seq ?_
  refine srk tbokGB ⟨195, [(3, vl eClaim x2), (4, vl (eI .i64) x3.1), (10, .own 10), (16, .own 16), (17, vi x11.2), (23, vi s26.1), (148, vb (decide (s26.1 < (x8.1.length : Int))))], [(10, oa 42 7 eClaim x8.1), (16, oa 26 1 (eL (eI .i64)) x11.1)]⟩ ?_
  refine swp_cd h (fun h => ?_) fun h => ?_
  refine swp_skip ?_
  refine nx_n ?_
  refine swp_seq ?_
  refine swp_seqL (r := v27) h (fun j28 => ⟨195, [(3, vl eClaim x2), (4, vl (eI .i64) x3.1), (10, .own 10), (16, .own 16), (17, vi x11.2), (23, vi s26.1)], [(10, oa 42 7 eClaim x8.1), (16, oa 26 1 (eL (eI .i64)) x11.1)]⟩) (fun v29 h => ?_) (fun j28 h => ?_)
  refine swp_blk (a := v29) ?_
  refine swp_seq ?_
  refine sr ?_
  refine SRun.ck tbokGB 2 ⟨195, [(3, vl eClaim x2), (4, vl (eI .i64) x3.1), (10, .own 10), (16, .own 16), (17, vi x11.2), (23, vi s26.1), (151, .own 10), (152, vi s26.1)], [(10, oa 42 7 eClaim x8.1), (16, oa 26 1 (eL (eI .i64)) x11.1)]⟩ ?_
  obtain ⟨x30, hx30, h⟩ := bind_some h
  refine SRun.ls (x_index_own (d := 10) (L := x8.1) (f := eClaim) (ti := ti24) (tj := ti42) (e := 42) (e' := 42) (m := 7) (k := .i64) tbokGB rfl hx30) ?_
  refine SRun.ck tbokGB 1 ⟨195, [(3, vl eClaim x2), (4, vl (eI .i64) x3.1), (10, .own 10), (16, .own 16), (17, vi x11.2), (23, vi s26.1), (154, .eref 10 7 (Int.toNat s26.1) 1)], [(10, oa 42 7 eClaim x8.1), (16, oa 26 1 (eL (eI .i64)) x11.1)]⟩ ?_
  refine SRun.ls (x_load_own (d := 10) (m := 7) (j := 1) (L := x8.1) (f := eClaim) (ti := ti2) (e := 42) (v := vi x30.Kind) tbokGB rfl hx30) ?_
  refine ckn tbokGB 1 ⟨195, [(3, vl eClaim x2), (4, vl (eI .i64) x3.1), (10, .own 10), (16, .own 16), (17, vi x11.2), (23, vi s26.1), (156, vb (x30.Kind != 0))], [(10, oa 42 7 eClaim x8.1), (16, oa 26 1 (eL (eI .i64)) x11.1)]⟩ ?_
  refine swp_cd h (fun h => ?_) fun h => ?_
  refine swp_exit ?_
  obtain rfl := inj h
  exact nx_e (q_bh (q_l (Le.sub0)))
  refine swp_skip ?_
  refine nx_n ?_
  refine swp_seq ?_
  refine swp_dr mixed ?_
  refine DGo.ck tbokGB false 3 ⟨195, [(3, vl eClaim x2), (4, vl (eI .i64) x3.1), (10, .own 10), (16, .own 16), (17, vi x11.2), (23, vi s26.1), (158, vl eClaim x2), (159, .own 10), (160, vi s26.1)], [(10, oa 42 7 eClaim x8.1), (16, oa 26 1 (eL (eI .i64)) x11.1)]⟩ ?_
  obtain ⟨x31, hx31, h⟩ := bind_some h
  refine DGo.step (x_index_own (d := 10) (L := x8.1) (f := eClaim) (ti := ti24) (tj := ti42) (e := 42) (e' := 42) (m := 7) (k := .i64) tbokGB rfl hx31) ?_
  refine DGo.ck tbokGB false 1 ⟨195, [(3, vl eClaim x2), (4, vl (eI .i64) x3.1), (10, .own 10), (16, .own 16), (17, vi x11.2), (23, vi s26.1), (158, vl eClaim x2), (162, .eref 10 7 (Int.toNat s26.1) 2)], [(10, oa 42 7 eClaim x8.1), (16, oa 26 1 (eL (eI .i64)) x11.1)]⟩ ?_
  refine DGo.step (x_load_own (d := 10) (m := 7) (j := 2) (L := x8.1) (f := eClaim) (ti := ti9) (e := 42) (v := vs x31.Place) tbokGB rfl hx31) ?_
  refine DGo.ck tbokGB false 2 ⟨195, [(3, vl eClaim x2), (4, vl (eI .i64) x3.1), (10, .own 10), (16, .own 16), (17, vi x11.2), (23, vi s26.1), (158, vl eClaim x2), (163, vs x31.Place), (164, .own 10), (165, vi s26.1)], [(10, oa 42 7 eClaim x8.1), (16, oa 26 1 (eL (eI .i64)) x11.1)]⟩ ?_
  obtain ⟨x32, hx32, h⟩ := bind_some h
  refine DGo.step (x_index_own (d := 10) (L := x8.1) (f := eClaim) (ti := ti24) (tj := ti42) (e := 42) (e' := 42) (m := 7) (k := .i64) tbokGB rfl hx32) ?_
  refine DGo.ck tbokGB false 2 ⟨195, [(3, vl eClaim x2), (4, vl (eI .i64) x3.1), (10, .own 10), (16, .own 16), (17, vi x11.2), (23, vi s26.1), (158, vl eClaim x2), (163, vs x31.Place), (168, .eref 10 7 (Int.toNat s26.1) 4)], [(10, oa 42 7 eClaim x8.1), (16, oa 26 1 (eL (eI .i64)) x11.1)]⟩ ?_
  refine DGo.step (x_load_own (d := 10) (m := 7) (j := 4) (L := x8.1) (f := eClaim) (ti := ti2) (e := 42) (v := vi x32.Years.From) tbokGB rfl hx32) ?_
  obtain ⟨x33, hx33, h⟩ := bind_some h
  refine DGo.step (xc ents19 (impl_BestName_run x2 x31.Place x32.Years.From _ hx33)) ?_
  refine DGo.ck tbokGB false 5 ⟨195, [(3, vl eClaim x2), (4, vl (eI .i64) x3.1), (10, .own 10), (16, .own 16), (17, vi x11.2), (23, vi s26.1), (24, vs x33.1), (25, vi x33.2)], [(10, oa 42 7 eClaim x8.1), (16, oa 26 1 (eL (eI .i64)) x11.1)]⟩ ?_
  refine DGo.nx ?_
  refine swp_seq ?_
  refine swp_regJ h (fun j35 => ⟨195, [(3, vl eClaim x2), (4, vl (eI .i64) x3.1), (10, .own 10), (16, .own 16), (17, vi x11.2), (23, vi s26.1), (183, vb j35)], [(10, oa 42 7 eClaim x8.1), (16, oa 26 1 (eL (eI .i64)) x11.1)]⟩) (fun v36 h => ?_) (fun j35 h => ?_)
  refine SRun.ck tbokGB 3 ⟨195, [(3, vl eClaim x2), (4, vl (eI .i64) x3.1), (10, .own 10), (16, .own 16), (17, vi x11.2), (23, vi s26.1), (24, vs x33.1), (175, vb (x33.2 != 0))], [(10, oa 42 7 eClaim x8.1), (16, oa 26 1 (eL (eI .i64)) x11.1)]⟩ ?_
  refine SRun.cu [(175, fun b => b)] h (fun h => ?_) fun h => ?_
  refine SRun.ck tbokGB 8 ⟨195, [(3, vl eClaim x2), (4, vl (eI .i64) x3.1), (10, .own 10), (16, .own 16), (17, vi x11.2), (23, vi s26.1), (183, vb true)], [(10, oa 42 7 eClaim x8.1), (16, oa 26 1 (eL (eI .i64)) x11.1)]⟩ ?_
  refine SRun.nil ?_
  obtain rfl := inj h
  exact Le.sub0
  refine SRun.ck tbokGB 3 ⟨195, [(3, vl eClaim x2), (4, vl (eI .i64) x3.1), (10, .own 10), (16, .own 16), (17, vi x11.2), (23, vi s26.1), (175, vb false), (176, vs x33.1), (177, .own 10), (178, vi s26.1)], [(10, oa 42 7 eClaim x8.1), (16, oa 26 1 (eL (eI .i64)) x11.1)]⟩ ?_
  obtain ⟨x34, hx34, h⟩ := bind_some h
  refine SRun.ls (x_index_own (d := 10) (L := x8.1) (f := eClaim) (ti := ti24) (tj := ti42) (e := 42) (e' := 42) (m := 7) (k := .i64) tbokGB rfl hx34) ?_
  refine SRun.ck tbokGB 1 ⟨195, [(3, vl eClaim x2), (4, vl (eI .i64) x3.1), (10, .own 10), (16, .own 16), (17, vi x11.2), (23, vi s26.1), (175, vb false), (176, vs x33.1), (180, .eref 10 7 (Int.toNat s26.1) 3)], [(10, oa 42 7 eClaim x8.1), (16, oa 26 1 (eL (eI .i64)) x11.1)]⟩ ?_
  refine SRun.ls (x_load_own (d := 10) (m := 7) (j := 3) (L := x8.1) (f := eClaim) (ti := ti9) (e := 42) (v := vs x34.Value) tbokGB rfl hx34) ?_
  refine SRun.ck tbokGB 2 ⟨195, [(3, vl eClaim x2), (4, vl (eI .i64) x3.1), (10, .own 10), (16, .own 16), (17, vi x11.2), (23, vi s26.1), (183, vb (!(x33.1.toList == x34.Value.toList)))], [(10, oa 42 7 eClaim x8.1), (16, oa 26 1 (eL (eI .i64)) x11.1)]⟩ ?_
  refine SRun.nil ?_
  obtain rfl := inj h
  exact Le.sub0
  refine swp_cd h (fun h => ?_) fun h => ?_
  refine srk tbokGB ⟨195, [(2, vb false)], []⟩ ?_
  refine swp_ret ?_
  obtain rfl := inj h
  exact q_br (q_rr (q_rr (q_br (q_rr (q_fr (f1 fv))))))
  refine swp_skip ?_
  obtain rfl := inj h
  exact q_bn (q_l (Le.sub0))
  refine swp_reg ?_
  refine SRun.ck tbokGB 3 ⟨195, [(3, vl eClaim x2), (4, vl (eI .i64) x3.1), (10, .own 10), (16, .own 16), (17, vi x11.2), (23, vi (w64 (s26.1 + 1)))], [(10, oa 42 7 eClaim x8.1), (16, oa 26 1 (eL (eI .i64)) x11.1)]⟩ ?_
  refine SRun.nil ?_
  obtain rfl := inj h
  exact q_l (Le.sub0)
  refine swp_exit ?_
  obtain rfl := inj h
  exact nx_e (q_re (q_bh (q_l (Le.sub0))))
  refine swp_seq ?_
  refine swp_regP ⟨195, [(2, vb ((x11.2 != 0) || (((x11.1.length : Int) == 0) == ((x3.1.length : Int) == 0))))], []⟩ ?_ ?_
  refine SRun.ck tbokGB 3 ⟨195, [(4, vl (eI .i64) x3.1), (16, .own 16), (186, vb (x11.2 != 0))], [(16, oa 26 1 (eL (eI .i64)) x11.1)]⟩ ?_
  generalize (x11.2 != 0) = bb
  cases bb
  refine SRun.ck tbokGB 6 ⟨195, [(186, vb false), (189, vb ((x11.1.length : Int) == 0)), (192, vb ((x3.1.length : Int) == 0))], []⟩ ?_
  refine SRun.ls (x_lstep_eqb tbokGB (ti := ti4) (i := ((x11.1.length : Int) == 0)) (j := ((x3.1.length : Int) == 0)) false rfl) ?_
  refine SRun.ck tbokGB 2 ⟨195, [(2, vb (((x11.1.length : Int) == 0) == ((x3.1.length : Int) == 0)))], []⟩ ?_
  exact SRun.nil (Le.sub0)
  refine SRun.ck tbokGB 9 ⟨195, [(2, vb true)], []⟩ ?_
  exact SRun.nil (Le.sub0)
  refine swp_ret ?_
  obtain rfl := inj h
  exact q_fr (f1 fv)
end Go.Proofs.YtppehghiiahabaaGreatDoor.Sh
