/- Typed functions and the calls that do what they say. -/
import Derived.Test.YtppehghiiahabaaGreatDoorSB
import Derived.Test.YtppehghiiahabaaGreatDoorFB
import Derived.Test.YtppehghiiahabaaGreatDoorKA
import Derived.Test.YtppehghiiahabaaGreatDoorKO
import Derived.Test.YtppehghiiahabaaGreatDoorKQ
import Derived.Test.YtppehghiiahabaaGreatDoorKS
import Derived.Test.YtppehghiiahabaaGreatDoorSF
import Derived.Test.YtppehghiiahabaaGreatDoorH1
import Derived.Test.YtppehghiiahabaaGreatDoorGA
namespace Go.Proofs.YtppehghiiahabaaGreatDoor.Sh
open Go.RowKit
set_option maxRecDepth 100000
set_option maxHeartbeats 4000000
structure Fact where
  Kind : Int
  Place : ByteArray
  Value : ByteArray
  Year : Int
def eFact (x : Fact) : List Tr := [.int .i64 x.Kind, .str x.Place, .str x.Value, .int .i64 x.Year]
structure l01Source where
  code : (List Int)
  at' : Int
  seed : Int
def el01Source (x : l01Source) : List Tr := [.sl x.code.length (x.code.map (eI .u8)), .int .i64 x.at', .int .i64 x.seed]
def ti22 : TI := ⟨1, 24, .slice 5, [.sl ([] : List Int).length (([] : List Int).map (eI .u8))]⟩
def ti58 : TI := ⟨4, 48, .struct [(0, 2), (1, 9), (2, 9), (3, 2)], [.int .i64 0, .str (ByteArray.mk #[]), .str (ByteArray.mk #[]), .int .i64 0]⟩
def ti92 : TI := ⟨3, 40, .struct [(0, 22), (1, 3), (2, 2)], [.sl ([] : List Int).length (([] : List Int).map (eI .u8)), .int .i64 0, .int .i64 0]⟩
def tblGB : Tb := [(2, ti2), (3, ti3), (4, ti4), (5, ti5), (9, ti9), (22, ti22), (24, ti24), (26, ti26), (35, ti35), (40, ti40), (42, ti42), (52, ti52), (58, ti58), (92, ti92), (101, ti101)]
theorem tbokGB : TbOk Tryz.prog tblGB := TbOk.cons ⟨by kernel_rfl, show Tryz.prog.underlying 2 = some (.int .i64) from by kernel_rfl⟩ (TbOk.cons ⟨by kernel_rfl, show Tryz.prog.underlying 3 = some (.int .i64) from by kernel_rfl⟩ (TbOk.cons ⟨by kernel_rfl, show Tryz.prog.underlying 4 = some (.bool) from by kernel_rfl⟩ (TbOk.cons ⟨by kernel_rfl, show Tryz.prog.underlying 5 = some (.int .u8) from by kernel_rfl⟩ (TbOk.cons ⟨by kernel_rfl, show Tryz.prog.underlying 9 = some (.string) from by kernel_rfl⟩ (TbOk.cons ⟨by kernel_rfl, show Tryz.prog.underlying 22 = some (.slice 5) from by kernel_rfl⟩ (TbOk.cons ⟨by kernel_rfl, show Tryz.prog.underlying 24 = some (.slice 42) from by kernel_rfl⟩ (TbOk.cons ⟨by kernel_rfl, show Tryz.prog.underlying 26 = some (.slice 2) from by kernel_rfl⟩ (TbOk.cons ⟨by kernel_rfl, show Tryz.prog.underlying 35 = some (.slice 26) from by kernel_rfl⟩ (TbOk.cons ⟨by kernel_rfl, show structOf Tryz.prog 40 = some [(0, 2), (1, 2)] from by kernel_rfl⟩ (TbOk.cons ⟨by kernel_rfl, show structOf Tryz.prog 42 = some [(0, 9), (1, 2), (2, 9), (3, 9), (4, 40), (6, 2)] from by kernel_rfl⟩ (TbOk.cons ⟨by kernel_rfl, show Tryz.prog.underlying 52 = some (.slice 9) from by kernel_rfl⟩ (TbOk.cons ⟨by kernel_rfl, show structOf Tryz.prog 58 = some [(0, 2), (1, 9), (2, 9), (3, 2)] from by kernel_rfl⟩ (TbOk.cons ⟨by kernel_rfl, show structOf Tryz.prog 92 = some [(0, 22), (1, 3), (2, 2)] from by kernel_rfl⟩ (TbOk.cons ⟨by kernel_rfl, show Tryz.prog.underlying 101 = some (.slice 4) from by kernel_rfl⟩ (TbOk.nil _)))))))))))))))
noncomputable def laws_big (aCode : (List Int)) : Option (Bool) :=
  some (decide ((aCode.length : Int) > 4096))
theorem laws_big_run (aCode : (List Int)) (r : Bool) (h : laws_big aCode = some r) : SCall Tryz.prog 7 [.v (vl (eI .u8) aCode)] ⟨[.v (vb r)], [], false⟩ := by
  refine scall_in Tryz.func7 rfl [(.tmp 2)] rfl (fun r => ⟨[.v (vb r)], [], false⟩) (r := r) ?_
  unfold laws_big at h
  refine srk tbokGB ⟨6, [(0, vl (eI .u8) aCode)], []⟩ ?_
  refine srk tbokGB ⟨6, [(2, vb (decide ((aCode.length : Int) > 4096)))], []⟩ ?_
  refine swp_ret ?_
  obtain rfl := inj h
  exact q_fr (f1 fv)
theorem ents7 : Ents Tryz.prog 7 := ents_of Tryz.func7 (by kernel_rfl) rfl
noncomputable def spec_l01From (aCode : (List Int)) : Option (l01Source) :=
  (((forH (fun (i3 : Int) (_ : l01Source) => ((decide (i3 < (aCode.length : Int))) && (decide (i3 < 64)))) (fun (i3 : Int) (s3 : l01Source) => ((at' aCode i3).bind fun x7 => some (l01Source.mk s3.code s3.at' (Int.tmod (w64 ((w64 (s3.seed * 73)) + (w64 x7))) 2147483647)))) (fun (s3 : l01Source) => s3) 0 (l01Source.mk aCode 0 51031))).bind fun (j1 : l01Source) => some j1)
theorem spec_l01From_run (aCode : (List Int)) (r : l01Source) (h : spec_l01From aCode = some r) : SCall Tryz.prog 33 [.v (vl (eI .u8) aCode)] ⟨[.box [vl (eI .u8) r.code, vi r.at', vi r.seed]], [], true⟩ := by
  refine scall_in Tryz.func33 rfl [(.tmp 2)] rfl (fun r => ⟨[.box [vl (eI .u8) r.code, vi r.at', vi r.seed]], [], true⟩) (r := r) ?_
  unfold spec_l01From at h
  refine sr ?_
  refine SRun.ls (x_lstep_skip rfl) ?_
  refine SRun.nx ?_
  refine sr ?_
  refine SRun.ck tbokGB 1 ⟨34, [(0, vl (eI .u8) aCode), (5, vl (eI .u8) aCode)], []⟩ ?_
  refine SRun.ls (x_lstep_build (v := .agg [vl (eI .u8) aCode, vi 0, vi 51031]) tbokGB rfl) ?_
  refine ckn tbokGB 2 ⟨34, [(0, vl (eI .u8) aCode), (3, .ref 7 0)], [(7, .box [vl (eI .u8) aCode, vi 0, vi 51031])]⟩ ?_
  refine swp_seq ?_
  refine srk tbokGB ⟨34, [(0, vl (eI .u8) aCode), (3, .ref 7 0), (4, vi 0)], [(7, .box [vl (eI .u8) aCode, vi 0, vi 51031])]⟩ ?_
  refine swp_seqJ h (fun j1 => ⟨34, [(3, .ref 7 0)], [(7, .box (tc el01Source j1))]⟩) (fun v2 h => ?_) (fun j1 h => ?_)
  refine swp_blk (a := v2) ?_
  refine swp_lpL (r := v2) (s := (0, (l01Source.mk aCode 0 51031))) _ (fun s3 => ⟨34, [(0, vl (eI .u8) aCode), (3, .ref 7 0), (4, vi s3.1)], [(7, .box (tc el01Source s3.2))]⟩) _ (Le.sub0) h (fun s3 v4 h => ?_)
  refine swp_seq ?_
  refine swp_seq ?_
  refine swp_regP ⟨34, [(0, vl (eI .u8) aCode), (3, .ref 7 0), (4, vi s3.1), (15, vb ((decide (s3.1 < (aCode.length : Int))) && (decide (s3.1 < 64))))], [(7, .box (tc el01Source s3.2))]⟩ ?_ ?_
  refine SRun.ck tbokGB 5 ⟨34, [(0, vl (eI .u8) aCode), (3, .ref 7 0), (4, vi s3.1), (12, vb (decide (s3.1 < (aCode.length : Int))))], [(7, .box (tc el01Source s3.2))]⟩ ?_
  generalize (decide (s3.1 < (aCode.length : Int))) = bb
  cases bb
  refine SRun.ck tbokGB 3 ⟨34, [(0, vl (eI .u8) aCode), (3, .ref 7 0), (4, vi s3.1), (15, vb false)], [(7, .box (tc el01Source s3.2))]⟩ ?_
  exact SRun.nil (Le.sub0)
  refine SRun.ck tbokGB 3 ⟨34, [(0, vl (eI .u8) aCode), (3, .ref 7 0), (4, vi s3.1), (15, vb (decide (s3.1 < 64)))], [(7, .box (tc el01Source s3.2))]⟩ ?_
  exact SRun.nil (Le.sub0)
  refine swp_cd h (fun h => ?_) fun h => ?_
  refine swp_skip ?_
  refine nx_n ?_
  refine swp_seq ?_
  refine swp_seqJ h (fun j5 => ⟨34, [(0, vl (eI .u8) aCode), (3, .ref 7 0), (4, vi s3.1)], [(7, .box (tc el01Source j5))]⟩) (fun v6 h => ?_) (fun j5 h => ?_)
  refine swp_blk (a := v6) ?_
  refine swp_dr mixed ?_
  refine DGo.ck tbokGB false 8 ⟨34, [(0, vl (eI .u8) aCode), (3, .ref 7 0), (4, vi s3.1), (18, .ref 7 0), (23, vi (w64 (s3.2.seed * 73))), (24, vl (eI .u8) aCode), (25, vi s3.1)], [(7, .box (tc el01Source s3.2))]⟩ ?_
  obtain ⟨x7, hx7, h⟩ := bind_some h
  refine DGo.step (x_index (L := aCode) (f := (eI .u8)) (ti := ti22) (tj := ti5) (e := 5) (k := .i64) tbokGB rfl hx7) ?_
  refine DGo.ck tbokGB false 6 ⟨34, [(0, vl (eI .u8) aCode), (3, .ref 7 0), (4, vi s3.1), (30, vi (Int.tmod (w64 ((w64 (s3.2.seed * 73)) + (w64 x7))) 2147483647)), (32, .ref 7 2)], [(7, .box (tc el01Source s3.2))]⟩ ?_
  refine DGo.seq (by kernel_rfl) (by kernel_rfl) ?_
  refine SRun.ck tbokGB 1 ⟨34, [(0, vl (eI .u8) aCode), (3, .ref 7 0), (4, vi s3.1)], [(7, .box [vl (eI .u8) s3.2.code, vi s3.2.at', vi (Int.tmod (w64 ((w64 (s3.2.seed * 73)) + (w64 x7))) 2147483647)])]⟩ ?_
  refine SRun.nil ?_
  obtain rfl := inj h
  exact q_bn (q_j (Le.sub0))
  refine swp_reg ?_
  refine SRun.ck tbokGB 3 ⟨34, [(0, vl (eI .u8) aCode), (3, .ref 7 0), (4, vi (w64 (s3.1 + 1)))], [(7, .box (tc el01Source j5))]⟩ ?_
  refine SRun.nil ?_
  obtain rfl := inj h
  exact q_l (Le.sub0)
  refine swp_exit ?_
  obtain rfl := inj h
  exact nx_e (q_re (q_bh (q_j (Le.sub0))))
  refine srk tbokGB ⟨34, [(2, .ref 7 0)], [(7, .box (tc el01Source j1))]⟩ ?_
  refine swp_ret ?_
  obtain rfl := inj h
  exact q_fr (f1 (finBT (d := 7) (holds_t (by kernel_rfl)) (by kernel_rfl) rfl (by kernel_rfl)))
theorem ents33 : Ents Tryz.prog 33 := ents_of Tryz.func33 (by kernel_rfl) rfl
noncomputable def spec_l01Next (aS : l01Source) (aN : Int) : Option (Int × l01Source) :=
  (bif (decide (aN ≤ 1)) then some (0, aS) else (((bif (decide (aS.at' < (aS.code.length : Int))) then ((at' aS.code aS.at').bind fun x3 => (bif ((decide (aN ≤ 256)) && ((Int.tmod (w64 (aS.at' + 1)) 2) == 0)) then ((at' aS.code (w64 ((w64 (aS.at' + 1)) - 1))).bind fun x4 => some ((w64 x4), (l01Source.mk aS.code (w64 (aS.at' + 1)) (Int.tmod (w64 ((w64 (aS.seed * 48271)) + 29)) 2147483647)))) else some ((w64 ((w64 (Int.tdiv (Int.tmod (w64 ((w64 (aS.seed * 48271)) + 29)) 2147483647) 31)) + (w64 x3))), (l01Source.mk aS.code (w64 (aS.at' + 1)) (Int.tmod (w64 ((w64 (aS.seed * 48271)) + 29)) 2147483647))))) else some ((w64 (Int.tdiv (Int.tmod (w64 ((w64 (aS.seed * 48271)) + 29)) 2147483647) 31)), (l01Source.mk aS.code aS.at' (Int.tmod (w64 ((w64 (aS.seed * 48271)) + 29)) 2147483647))))).bind fun (j1 : Int × l01Source) => ((nz' aN).bind fun _ => some ((Int.tmod j1.1 aN), j1.2))))
theorem spec_l01Next_run (aS : l01Source) (aN : Int) (r : Int × l01Source) (h : spec_l01Next aS aN = some r) : SCall Tryz.prog 62 [.o (.box [vl (eI .u8) aS.code, vi aS.at', vi aS.seed]), .v (vi aN)] ⟨[.v (vi r.1)], [(0, .box (tc el01Source r.2))], false⟩ := by
  refine scall_in Tryz.func62 rfl [(.tmp 4)] rfl (fun r => ⟨[.v (vi r.1)], [(0, .box (tc el01Source r.2))], false⟩) (r := r) ?_
  unfold spec_l01Next at h
  refine srk tbokGB ⟨78, [(0, .ref 1000000 0), (1, vi aN)], [(1000000, .box (tc el01Source aS))]⟩ ?_
  refine swp_seq ?_
  refine srk tbokGB ⟨78, [(0, .ref 1000000 0), (1, vi aN), (7, vb (decide (aN ≤ 1)))], [(1000000, .box (tc el01Source aS))]⟩ ?_
  refine swp_cd h (fun h => ?_) fun h => ?_
  refine srk tbokGB ⟨78, [(4, vi 0)], [(1000000, .box (tc el01Source aS))]⟩ ?_
  refine swp_ret ?_
  obtain rfl := inj h
  exact nx_r (q_fr (fin_io (f1 fv) (y := .box (tc el01Source aS)) (by kernel_rfl) rfl (by kernel_rfl) (by kernel_rfl)))
  refine swp_skip ?_
  refine nx_n ?_
  refine srk tbokGB ⟨78, [(0, .ref 1000000 0), (1, vi aN)], [(1000000, .box [vl (eI .u8) aS.code, vi aS.at', vi (Int.tmod (w64 ((w64 (aS.seed * 48271)) + 29)) 2147483647)])]⟩ ?_
  refine srk tbokGB ⟨78, [(0, .ref 1000000 0), (1, vi aN), (5, vi (w64 (Int.tdiv (Int.tmod (w64 ((w64 (aS.seed * 48271)) + 29)) 2147483647) 31)))], [(1000000, .box [vl (eI .u8) aS.code, vi aS.at', vi (Int.tmod (w64 ((w64 (aS.seed * 48271)) + 29)) 2147483647)])]⟩ ?_
  refine swp_seq ?_
  refine swp_seq ?_
  refine swp_dr mixed ?_
  refine DGo.ck tbokGB false 10 ⟨78, [(0, .ref 1000000 0), (1, vi aN), (5, vi (w64 (Int.tdiv (Int.tmod (w64 ((w64 (aS.seed * 48271)) + 29)) 2147483647) 31))), (32, vb (decide (aS.at' < (aS.code.length : Int))))], [(1000000, .box [vl (eI .u8) aS.code, vi aS.at', vi (Int.tmod (w64 ((w64 (aS.seed * 48271)) + 29)) 2147483647)])]⟩ ?_
  refine DGo.nx ?_
  refine swp_seqJ h (fun j1 => ⟨78, [(1, vi aN), (5, vi j1.1)], [(1000000, .box (tc el01Source j1.2))]⟩) (fun v2 h => ?_) (fun j1 h => ?_)
  refine swp_cd h (fun h => ?_) fun h => ?_
  refine swp_seq ?_
  refine swp_dr mixed ?_
  refine DGo.ck tbokGB false 9 ⟨78, [(0, .ref 1000000 0), (1, vi aN), (33, vi (w64 (Int.tdiv (Int.tmod (w64 ((w64 (aS.seed * 48271)) + 29)) 2147483647) 31))), (37, vl (eI .u8) aS.code), (41, vi aS.at')], [(1000000, .box [vl (eI .u8) aS.code, vi aS.at', vi (Int.tmod (w64 ((w64 (aS.seed * 48271)) + 29)) 2147483647)])]⟩ ?_
  obtain ⟨x3, hx3, h⟩ := bind_some h
  refine DGo.step (x_index (L := aS.code) (f := (eI .u8)) (ti := ti22) (tj := ti5) (e := 5) (k := .i64) tbokGB rfl hx3) ?_
  refine DGo.ck tbokGB false 4 ⟨78, [(0, .ref 1000000 0), (1, vi aN), (5, vi (w64 ((w64 (Int.tdiv (Int.tmod (w64 ((w64 (aS.seed * 48271)) + 29)) 2147483647) 31)) + (w64 x3))))], [(1000000, .box [vl (eI .u8) aS.code, vi aS.at', vi (Int.tmod (w64 ((w64 (aS.seed * 48271)) + 29)) 2147483647)])]⟩ ?_
  refine DGo.nx ?_
  refine srk tbokGB ⟨78, [(0, .ref 1000000 0), (1, vi aN), (5, vi (w64 ((w64 (Int.tdiv (Int.tmod (w64 ((w64 (aS.seed * 48271)) + 29)) 2147483647) 31)) + (w64 x3))))], [(1000000, .box [vl (eI .u8) aS.code, vi (w64 (aS.at' + 1)), vi (Int.tmod (w64 ((w64 (aS.seed * 48271)) + 29)) 2147483647)])]⟩ ?_
  refine swp_seq ?_
  refine swp_regP ⟨78, [(0, .ref 1000000 0), (1, vi aN), (5, vi (w64 ((w64 (Int.tdiv (Int.tmod (w64 ((w64 (aS.seed * 48271)) + 29)) 2147483647) 31)) + (w64 x3)))), (62, vb ((decide (aN ≤ 256)) && ((Int.tmod (w64 (aS.at' + 1)) 2) == 0)))], [(1000000, .box [vl (eI .u8) aS.code, vi (w64 (aS.at' + 1)), vi (Int.tmod (w64 ((w64 (aS.seed * 48271)) + 29)) 2147483647)])]⟩ ?_ ?_
  refine SRun.ck tbokGB 3 ⟨78, [(0, .ref 1000000 0), (1, vi aN), (5, vi (w64 ((w64 (Int.tdiv (Int.tmod (w64 ((w64 (aS.seed * 48271)) + 29)) 2147483647) 31)) + (w64 x3)))), (55, vb (decide (aN ≤ 256)))], [(1000000, .box [vl (eI .u8) aS.code, vi (w64 (aS.at' + 1)), vi (Int.tmod (w64 ((w64 (aS.seed * 48271)) + 29)) 2147483647)])]⟩ ?_
  generalize (decide (aN ≤ 256)) = bb
  cases bb
  refine SRun.ck tbokGB 7 ⟨78, [(0, .ref 1000000 0), (1, vi aN), (5, vi (w64 ((w64 (Int.tdiv (Int.tmod (w64 ((w64 (aS.seed * 48271)) + 29)) 2147483647) 31)) + (w64 x3)))), (62, vb false)], [(1000000, .box [vl (eI .u8) aS.code, vi (w64 (aS.at' + 1)), vi (Int.tmod (w64 ((w64 (aS.seed * 48271)) + 29)) 2147483647)])]⟩ ?_
  exact SRun.nil (Le.sub0)
  refine SRun.ck tbokGB 7 ⟨78, [(0, .ref 1000000 0), (1, vi aN), (5, vi (w64 ((w64 (Int.tdiv (Int.tmod (w64 ((w64 (aS.seed * 48271)) + 29)) 2147483647) 31)) + (w64 x3)))), (62, vb ((Int.tmod (w64 (aS.at' + 1)) 2) == 0))], [(1000000, .box [vl (eI .u8) aS.code, vi (w64 (aS.at' + 1)), vi (Int.tmod (w64 ((w64 (aS.seed * 48271)) + 29)) 2147483647)])]⟩ ?_
  exact SRun.nil (Le.sub0)
  refine swp_cd h (fun h => ?_) fun h => ?_
  refine swp_dr mixed ?_
  refine DGo.ck tbokGB false 9 ⟨78, [(1, vi aN), (66, vl (eI .u8) aS.code), (71, vi (w64 ((w64 (aS.at' + 1)) - 1)))], [(1000000, .box [vl (eI .u8) aS.code, vi (w64 (aS.at' + 1)), vi (Int.tmod (w64 ((w64 (aS.seed * 48271)) + 29)) 2147483647)])]⟩ ?_
  obtain ⟨x4, hx4, h⟩ := bind_some h
  refine DGo.step (x_index (L := aS.code) (f := (eI .u8)) (ti := ti22) (tj := ti5) (e := 5) (k := .i64) tbokGB rfl hx4) ?_
  refine DGo.ck tbokGB false 3 ⟨78, [(1, vi aN), (5, vi (w64 x4))], [(1000000, .box [vl (eI .u8) aS.code, vi (w64 (aS.at' + 1)), vi (Int.tmod (w64 ((w64 (aS.seed * 48271)) + 29)) 2147483647)])]⟩ ?_
  refine DGo.nil (by kernel_rfl) ?_
  obtain rfl := inj h
  exact q_j (Le.sub0)
  refine swp_skip ?_
  obtain rfl := inj h
  exact q_j (Le.sub0)
  refine swp_skip ?_
  obtain rfl := inj h
  exact q_j (Le.sub0)
  refine sr ?_
  refine SRun.ck tbokGB 2 ⟨78, [(75, vi j1.1), (76, vi aN)], [(1000000, .box (tc el01Source j1.2))]⟩ ?_
  obtain ⟨x5, hx5, h⟩ := bind_some h
  refine SRun.ls (x_lstep_quo (k := .i64) (i := j1.1) hx5 true rfl) ?_
  refine ckn tbokGB 1 ⟨78, [(4, vi (Int.tmod j1.1 aN))], [(1000000, .box (tc el01Source j1.2))]⟩ ?_
  refine swp_ret ?_
  obtain rfl := inj h
  exact q_fr (fin_io (f1 fv) (y := .box (tc el01Source j1.2)) (by kernel_rfl) rfl (by kernel_rfl) (by kernel_rfl))
theorem ents62 : Ents Tryz.prog 62 := ents_of Tryz.func62 (by kernel_rfl) rfl
noncomputable def spec_l01Pick (aS : l01Source) (aList : (List Int)) : Option (Int × l01Source) :=
  ((spec_l01Next aS (aList.length : Int)).bind fun x1 => ((at' aList x1.1).bind fun x2 => some (x2, x1.2)))
theorem spec_l01Pick_run (aS : l01Source) (aList : (List Int)) (r : Int × l01Source) (h : spec_l01Pick aS aList = some r) : SCall Tryz.prog 140 [.o (.box [vl (eI .u8) aS.code, vi aS.at', vi aS.seed]), .v (vl (eI .i64) aList)] ⟨[.v (vi r.1)], [(0, .box (tc el01Source r.2))], false⟩ := by
  refine scall_in Tryz.func140 rfl [(.tmp 4)] rfl (fun r => ⟨[.v (vi r.1)], [(0, .box (tc el01Source r.2))], false⟩) (r := r) ?_
  unfold spec_l01Pick at h
  refine srk tbokGB ⟨12, [(0, .ref 1000000 0), (1, vl (eI .i64) aList)], [(1000000, .box (tc el01Source aS))]⟩ ?_
  refine sr ?_
  refine SRun.ck tbokGB 4 ⟨12, [(5, vl (eI .i64) aList), (6, .ref 1000000 0), (8, vi (aList.length : Int))], [(1000000, .box (tc el01Source aS))]⟩ ?_
  obtain ⟨x1, hx1, h⟩ := bind_some h
  refine SRun.estep (xe ents62 (spec_l01Next_run aS (aList.length : Int) _ hx1)) ?_
  obtain ⟨x2, hx2, h⟩ := bind_some h
  refine SRun.ls (x_index (L := aList) (f := (eI .i64)) (ti := ti26) (tj := ti2) (e := 2) (k := .i64) tbokGB rfl hx2) ?_
  refine ckn tbokGB 2 ⟨12, [(4, vi x2)], [(1000000, .box (tc el01Source x1.2))]⟩ ?_
  refine swp_ret ?_
  obtain rfl := inj h
  exact q_fr (fin_io (f1 fv) (y := .box (tc el01Source x1.2)) (by kernel_rfl) rfl (by kernel_rfl) (by kernel_rfl))
theorem ents140 : Ents Tryz.prog 140 := ents_of Tryz.func140 (by kernel_rfl) rfl
noncomputable def spec_l20Good (aS : l01Source) : Option (Claim × l01Source) :=
  ((spec_l01Next aS 4).bind fun x1 => ((at' ([(ByteArray.mk #[97, 116, 108, 97, 115]), (ByteArray.mk #[99, 104, 97, 114, 116, 101, 114]), (ByteArray.mk #[100, 105, 97, 114, 121]), (ByteArray.mk #[114, 111, 108, 108])] : List ByteArray) x1.1).bind fun x2 => ((spec_l01Pick x1.2 ([0, 0, 1, 1, 2, 3] : List Int)).bind fun x3 => ((spec_l01Next x3.2 3).bind fun x4 => ((at' ([(ByteArray.mk #[97, 115, 104]), (ByteArray.mk #[98, 114, 105, 103]), (ByteArray.mk #[99, 111, 114, 107])] : List ByteArray) x4.1).bind fun x5 => ((spec_l01Next x4.2 60).bind fun x6 => ((spec_l01Next x6.2 9).bind fun x7 => ((spec_l01Next x7.2 60).bind fun x8 => (((bif (x3.1 == 0) then ((spec_l01Next x8.2 3).bind fun x11 => ((at' ([(ByteArray.mk #[111, 108, 100, 32, 97, 115, 104]), (ByteArray.mk #[110, 101, 119, 116, 111, 110]), (ByteArray.mk #[97, 115, 104, 98, 121])] : List ByteArray) x11.1).bind fun x12 => some ((Claim.mk x2 x3.1 x5 x12 (Span.mk (w64 (1200 + x6.1)) (w64 ((w64 (1200 + x6.1)) + x8.1))) (w64 (1 + x7.1))), x11.2))) else (bif (x3.1 == 1) then ((spec_l01Next x8.2 4).bind fun x13 => ((at' ([(ByteArray.mk #[97, 115, 104]), (ByteArray.mk #[98, 114, 105, 103]), (ByteArray.mk #[99, 111, 114, 107]), (ByteArray.mk #[100, 101, 118, 97])] : List ByteArray) x13.1).bind fun x14 => (bif (x14.toList == x5.toList) then some ((Claim.mk x2 x3.1 x5 (ByteArray.mk #[100, 101, 118, 97]) (Span.mk (w64 (1200 + x6.1)) (w64 ((w64 (1200 + x6.1)) + x8.1))) (w64 (1 + x7.1))), x13.2) else some ((Claim.mk x2 x3.1 x5 x14 (Span.mk (w64 (1200 + x6.1)) (w64 ((w64 (1200 + x6.1)) + x8.1))) (w64 (1 + x7.1))), x13.2)))) else some ((Claim.mk x2 x3.1 x5 (ByteArray.mk #[]) (Span.mk (w64 (1200 + x6.1)) (w64 ((w64 (1200 + x6.1)) + x8.1))) (w64 (1 + x7.1))), x8.2)))).bind fun (j9 : Claim × l01Source) => some (j9.1, j9.2))))))))))
theorem spec_l20Good_run (aS : l01Source) (r : Claim × l01Source) (h : spec_l20Good aS = some r) : SCall Tryz.prog 115 [.o (.box [vl (eI .u8) aS.code, vi aS.at', vi aS.seed])] ⟨[.v (.agg (tc eClaim r.1))], [(0, .box (tc el01Source r.2))], false⟩ := by
  refine scall_in Tryz.func115 rfl [(.cell 2 42)] rfl (fun r => ⟨[.v (.agg (tc eClaim r.1))], [(0, .box (tc el01Source r.2))], false⟩) (r := r) ?_
  unfold spec_l20Good at h
  refine srk tbokGB ⟨60, [(0, .ref 1000000 0), (2, .ref 2 0)], [(2, .box [vs (ByteArray.mk #[]), vi 0, vs (ByteArray.mk #[]), vs (ByteArray.mk #[]), vi 0, vi 0, vi 0]), (1000000, .box (tc el01Source aS))]⟩ ?_
  refine srk tbokGB ⟨60, [(0, .ref 1000000 0), (2, .ref 2 0), (3, .own 5)], [(2, .box [vs (ByteArray.mk #[]), vi 0, vs (ByteArray.mk #[]), vs (ByteArray.mk #[]), vi 0, vi 0, vi 0]), (5, oa 9 1 eS ([(ByteArray.mk #[97, 115, 104]), (ByteArray.mk #[98, 114, 105, 103]), (ByteArray.mk #[99, 111, 114, 107])] : List ByteArray)), (1000000, .box (tc el01Source aS))]⟩ ?_
  refine swp_seq ?_
  refine swp_drD [1000000] mixed ?_
  refine DGo.ck tbokGB false 2 ⟨60, [(0, .ref 1000000 0), (2, .ref 2 0), (3, .own 5), (6, .own 6), (7, .ref 1000000 0)], [(2, .box [vs (ByteArray.mk #[]), vi 0, vs (ByteArray.mk #[]), vs (ByteArray.mk #[]), vi 0, vi 0, vi 0]), (5, oa 9 1 eS ([(ByteArray.mk #[97, 115, 104]), (ByteArray.mk #[98, 114, 105, 103]), (ByteArray.mk #[99, 111, 114, 107])] : List ByteArray)), (6, oa 9 1 eS ([(ByteArray.mk #[97, 116, 108, 97, 115]), (ByteArray.mk #[99, 104, 97, 114, 116, 101, 114]), (ByteArray.mk #[100, 105, 97, 114, 121]), (ByteArray.mk #[114, 111, 108, 108])] : List ByteArray)), (1000000, .box (tc el01Source aS))]⟩ ?_
  obtain ⟨x1, hx1, h⟩ := bind_some h
  refine DGo.write [] (xw ents62 (spec_l01Next_run aS 4 _ hx1)) ?_
  obtain ⟨x2, hx2, h⟩ := bind_some h
  refine DGo.stepW false [6] (x_index_own (d := 6) (L := ([(ByteArray.mk #[97, 116, 108, 97, 115]), (ByteArray.mk #[99, 104, 97, 114, 116, 101, 114]), (ByteArray.mk #[100, 105, 97, 114, 121]), (ByteArray.mk #[114, 111, 108, 108])] : List ByteArray)) (f := eS) (ti := ti52) (tj := ti9) (e := 9) (e' := 9) (m := 1) (k := .i64) tbokGB rfl hx2) ?_
  refine DGo.stepW false [6] (x_load_own (d := 6) (m := 1) (j := 0) (L := ([(ByteArray.mk #[97, 116, 108, 97, 115]), (ByteArray.mk #[99, 104, 97, 114, 116, 101, 114]), (ByteArray.mk #[100, 105, 97, 114, 121]), (ByteArray.mk #[114, 111, 108, 108])] : List ByteArray)) (f := eS) (ti := ti9) (e := 9) (v := vs x2) tbokGB rfl hx2) ?_
  refine DGo.ck tbokGB false 1 ⟨60, [(0, .ref 1000000 0), (2, .ref 2 0), (3, .own 5), (10, vs x2), (11, .ref 1000000 0)], [(2, .box [vs (ByteArray.mk #[]), vi 0, vs (ByteArray.mk #[]), vs (ByteArray.mk #[]), vi 0, vi 0, vi 0]), (5, oa 9 1 eS ([(ByteArray.mk #[97, 115, 104]), (ByteArray.mk #[98, 114, 105, 103]), (ByteArray.mk #[99, 111, 114, 107])] : List ByteArray)), (1000000, .box (tc el01Source x1.2))]⟩ ?_
  refine DGo.step (x_frz tbokGB (d := 12) (e := 2) (m := 1) (([0, 0, 1, 1, 2, 3] : List Int).length) (([0, 0, 1, 1, 2, 3] : List Int).map (eI .i64))) ?_
  obtain ⟨x3, hx3, h⟩ := bind_some h
  refine DGo.write [] (xw ents140 (spec_l01Pick_run x1.2 ([0, 0, 1, 1, 2, 3] : List Int) _ hx3)) ?_
  refine DGo.ck tbokGB false 2 ⟨60, [(0, .ref 1000000 0), (2, .ref 2 0), (10, vs x2), (13, vi x3.1), (14, .own 5), (15, .ref 1000000 0)], [(2, .box [vs (ByteArray.mk #[]), vi 0, vs (ByteArray.mk #[]), vs (ByteArray.mk #[]), vi 0, vi 0, vi 0]), (5, oa 9 1 eS ([(ByteArray.mk #[97, 115, 104]), (ByteArray.mk #[98, 114, 105, 103]), (ByteArray.mk #[99, 111, 114, 107])] : List ByteArray)), (1000000, .box (tc el01Source x3.2))]⟩ ?_
  obtain ⟨x4, hx4, h⟩ := bind_some h
  refine DGo.write [] (xw ents62 (spec_l01Next_run x3.2 3 _ hx4)) ?_
  obtain ⟨x5, hx5, h⟩ := bind_some h
  refine DGo.step (x_index_own (d := 5) (L := ([(ByteArray.mk #[97, 115, 104]), (ByteArray.mk #[98, 114, 105, 103]), (ByteArray.mk #[99, 111, 114, 107])] : List ByteArray)) (f := eS) (ti := ti52) (tj := ti9) (e := 9) (e' := 9) (m := 1) (k := .i64) tbokGB rfl hx5) ?_
  refine DGo.step (x_load_own (d := 5) (m := 1) (j := 0) (L := ([(ByteArray.mk #[97, 115, 104]), (ByteArray.mk #[98, 114, 105, 103]), (ByteArray.mk #[99, 111, 114, 107])] : List ByteArray)) (f := eS) (ti := ti9) (e := 9) (v := vs x5) tbokGB rfl hx5) ?_
  refine DGo.ck tbokGB false 1 ⟨60, [(0, .ref 1000000 0), (2, .ref 2 0), (10, vs x2), (13, vi x3.1), (18, vs x5), (19, .ref 1000000 0)], [(2, .box [vs (ByteArray.mk #[]), vi 0, vs (ByteArray.mk #[]), vs (ByteArray.mk #[]), vi 0, vi 0, vi 0]), (1000000, .box (tc el01Source x4.2))]⟩ ?_
  obtain ⟨x6, hx6, h⟩ := bind_some h
  refine DGo.write [] (xw ents62 (spec_l01Next_run x4.2 60 _ hx6)) ?_
  refine DGo.ck tbokGB false 1 ⟨60, [(0, .ref 1000000 0), (2, .ref 2 0), (10, vs x2), (13, vi x3.1), (18, vs x5), (21, vi (w64 (1200 + x6.1)))], [(2, .box [vs (ByteArray.mk #[]), vi 0, vs (ByteArray.mk #[]), vs (ByteArray.mk #[]), vi 0, vi 0, vi 0]), (1000000, .box (tc el01Source x6.2))]⟩ ?_
  refine DGo.step (x_lstep_build (v := .agg [vi (w64 (1200 + x6.1)), vi 0]) tbokGB rfl) ?_
  refine DGo.ck tbokGB false 1 ⟨60, [(0, .ref 1000000 0), (2, .ref 2 0), (10, vs x2), (13, vi x3.1), (18, vs x5), (22, .agg [vi (w64 (1200 + x6.1)), vi 0]), (23, .ref 1000000 0)], [(2, .box [vs (ByteArray.mk #[]), vi 0, vs (ByteArray.mk #[]), vs (ByteArray.mk #[]), vi 0, vi 0, vi 0]), (1000000, .box (tc el01Source x6.2))]⟩ ?_
  obtain ⟨x7, hx7, h⟩ := bind_some h
  refine DGo.write [] (xw ents62 (spec_l01Next_run x6.2 9 _ hx7)) ?_
  refine DGo.ck tbokGB false 1 ⟨60, [(0, .ref 1000000 0), (2, .ref 2 0), (10, vs x2), (13, vi x3.1), (18, vs x5), (22, .agg [vi (w64 (1200 + x6.1)), vi 0]), (25, vi (w64 (1 + x7.1)))], [(2, .box [vs (ByteArray.mk #[]), vi 0, vs (ByteArray.mk #[]), vs (ByteArray.mk #[]), vi 0, vi 0, vi 0]), (1000000, .box (tc el01Source x7.2))]⟩ ?_
  refine DGo.step (x_lstep_build (v := .agg [vs x2, vi x3.1, vs x5, vs (ByteArray.mk #[]), vi (w64 (1200 + x6.1)), vi 0, vi (w64 (1 + x7.1))]) tbokGB rfl) ?_
  refine DGo.ck tbokGB false 1 ⟨60, [(0, .ref 1000000 0), (2, .ref 2 0), (4, .ref 4 0), (26, .agg [vs x2, vi x3.1, vs x5, vs (ByteArray.mk #[]), vi (w64 (1200 + x6.1)), vi 0, vi (w64 (1 + x7.1))])], [(2, .box [vs (ByteArray.mk #[]), vi 0, vs (ByteArray.mk #[]), vs (ByteArray.mk #[]), vi 0, vi 0, vi 0]), (4, .box [vs (ByteArray.mk #[]), vi 0, vs (ByteArray.mk #[]), vs (ByteArray.mk #[]), vi 0, vi 0, vi 0]), (1000000, .box (tc el01Source x7.2))]⟩ ?_
  refine DGo.seq (by kernel_rfl) (by kernel_rfl) ?_
  refine ckn tbokGB 1 ⟨60, [(0, .ref 1000000 0), (2, .ref 2 0), (4, .ref 4 0)], [(2, .box [vs (ByteArray.mk #[]), vi 0, vs (ByteArray.mk #[]), vs (ByteArray.mk #[]), vi 0, vi 0, vi 0]), (4, .box [vs x2, vi x3.1, vs x5, vs (ByteArray.mk #[]), vi (w64 (1200 + x6.1)), vi 0, vi (w64 (1 + x7.1))]), (1000000, .box (tc el01Source x7.2))]⟩ ?_
  refine swp_seq ?_
  refine swp_drD [1000000] mixed ?_
  refine DGo.ck tbokGB false 4 ⟨60, [(0, .ref 1000000 0), (2, .ref 2 0), (4, .ref 4 0), (29, vi (w64 (1200 + x6.1))), (30, .ref 1000000 0)], [(2, .box [vs (ByteArray.mk #[]), vi 0, vs (ByteArray.mk #[]), vs (ByteArray.mk #[]), vi 0, vi 0, vi 0]), (4, .box [vs x2, vi x3.1, vs x5, vs (ByteArray.mk #[]), vi (w64 (1200 + x6.1)), vi 0, vi (w64 (1 + x7.1))]), (1000000, .box (tc el01Source x7.2))]⟩ ?_
  obtain ⟨x8, hx8, h⟩ := bind_some h
  refine DGo.write [] (xw ents62 (spec_l01Next_run x7.2 60 _ hx8)) ?_
  refine DGo.ck tbokGB false 3 ⟨60, [(0, .ref 1000000 0), (2, .ref 2 0), (4, .ref 4 0), (32, vi (w64 ((w64 (1200 + x6.1)) + x8.1))), (34, .ref 4 5)], [(2, .box [vs (ByteArray.mk #[]), vi 0, vs (ByteArray.mk #[]), vs (ByteArray.mk #[]), vi 0, vi 0, vi 0]), (4, .box [vs x2, vi x3.1, vs x5, vs (ByteArray.mk #[]), vi (w64 (1200 + x6.1)), vi 0, vi (w64 (1 + x7.1))]), (1000000, .box (tc el01Source x8.2))]⟩ ?_
  refine DGo.seq (by kernel_rfl) (by kernel_rfl) ?_
  refine ckn tbokGB 1 ⟨60, [(0, .ref 1000000 0), (2, .ref 2 0), (4, .ref 4 0)], [(2, .box [vs (ByteArray.mk #[]), vi 0, vs (ByteArray.mk #[]), vs (ByteArray.mk #[]), vi 0, vi 0, vi 0]), (4, .box [vs x2, vi x3.1, vs x5, vs (ByteArray.mk #[]), vi (w64 (1200 + x6.1)), vi (w64 ((w64 (1200 + x6.1)) + x8.1)), vi (w64 (1 + x7.1))]), (1000000, .box (tc el01Source x8.2))]⟩ ?_
  refine swp_seq ?_
  refine srk tbokGB ⟨60, [(0, .ref 1000000 0), (2, .ref 2 0), (4, .ref 4 0), (36, vi x3.1)], [(2, .box [vs (ByteArray.mk #[]), vi 0, vs (ByteArray.mk #[]), vs (ByteArray.mk #[]), vi 0, vi 0, vi 0]), (4, .box [vs x2, vi x3.1, vs x5, vs (ByteArray.mk #[]), vi (w64 (1200 + x6.1)), vi (w64 ((w64 (1200 + x6.1)) + x8.1)), vi (w64 (1 + x7.1))]), (1000000, .box (tc el01Source x8.2))]⟩ ?_
  refine swp_seqJ h (fun j9 => ⟨60, [(2, .ref 2 0), (4, .ref 4 0)], [(2, .box [vs (ByteArray.mk #[]), vi 0, vs (ByteArray.mk #[]), vs (ByteArray.mk #[]), vi 0, vi 0, vi 0]), (4, .box (tc eClaim j9.1)), (1000000, .box (tc el01Source j9.2))]⟩) (fun v10 h => ?_) (fun j9 h => ?_)
  refine swp_blk (a := v10) ?_
  refine srk tbokGB ⟨60, [(0, .ref 1000000 0), (2, .ref 2 0), (4, .ref 4 0), (36, vi x3.1), (37, vb (x3.1 == 0))], [(2, .box [vs (ByteArray.mk #[]), vi 0, vs (ByteArray.mk #[]), vs (ByteArray.mk #[]), vi 0, vi 0, vi 0]), (4, .box [vs x2, vi x3.1, vs x5, vs (ByteArray.mk #[]), vi (w64 (1200 + x6.1)), vi (w64 ((w64 (1200 + x6.1)) + x8.1)), vi (w64 (1 + x7.1))]), (1000000, .box (tc el01Source x8.2))]⟩ ?_
  refine swp_cd h (fun h => ?_) fun h => ?_
  refine swp_reg ?_
  refine SRun.ck tbokGB 2 ⟨60, [(2, .ref 2 0), (4, .ref 4 0), (39, .own 39), (40, .ref 1000000 0)], [(2, .box [vs (ByteArray.mk #[]), vi 0, vs (ByteArray.mk #[]), vs (ByteArray.mk #[]), vi 0, vi 0, vi 0]), (4, .box [vs x2, vi x3.1, vs x5, vs (ByteArray.mk #[]), vi (w64 (1200 + x6.1)), vi (w64 ((w64 (1200 + x6.1)) + x8.1)), vi (w64 (1 + x7.1))]), (39, oa 9 1 eS ([(ByteArray.mk #[111, 108, 100, 32, 97, 115, 104]), (ByteArray.mk #[110, 101, 119, 116, 111, 110]), (ByteArray.mk #[97, 115, 104, 98, 121])] : List ByteArray)), (1000000, .box (tc el01Source x8.2))]⟩ ?_
  obtain ⟨x11, hx11, h⟩ := bind_some h
  refine SRun.estep (xe ents62 (spec_l01Next_run x8.2 3 _ hx11)) ?_
  obtain ⟨x12, hx12, h⟩ := bind_some h
  refine SRun.ls (x_index_own (d := 39) (L := ([(ByteArray.mk #[111, 108, 100, 32, 97, 115, 104]), (ByteArray.mk #[110, 101, 119, 116, 111, 110]), (ByteArray.mk #[97, 115, 104, 98, 121])] : List ByteArray)) (f := eS) (ti := ti52) (tj := ti9) (e := 9) (e' := 9) (m := 1) (k := .i64) tbokGB rfl hx12) ?_
  refine SRun.ls (x_load_own (d := 39) (m := 1) (j := 0) (L := ([(ByteArray.mk #[111, 108, 100, 32, 97, 115, 104]), (ByteArray.mk #[110, 101, 119, 116, 111, 110]), (ByteArray.mk #[97, 115, 104, 98, 121])] : List ByteArray)) (f := eS) (ti := ti9) (e := 9) (v := vs x12) tbokGB rfl hx12) ?_
  refine SRun.ck tbokGB 2 ⟨60, [(2, .ref 2 0), (4, .ref 4 0)], [(2, .box [vs (ByteArray.mk #[]), vi 0, vs (ByteArray.mk #[]), vs (ByteArray.mk #[]), vi 0, vi 0, vi 0]), (4, .box [vs x2, vi x3.1, vs x5, vs x12, vi (w64 (1200 + x6.1)), vi (w64 ((w64 (1200 + x6.1)) + x8.1)), vi (w64 (1 + x7.1))]), (1000000, .box (tc el01Source x11.2))]⟩ ?_
  refine SRun.nil ?_
  obtain rfl := inj h
  exact q_bn (q_j (Le.sub0))
  refine srk tbokGB ⟨60, [(0, .ref 1000000 0), (2, .ref 2 0), (4, .ref 4 0), (45, vb (x3.1 == 1))], [(2, .box [vs (ByteArray.mk #[]), vi 0, vs (ByteArray.mk #[]), vs (ByteArray.mk #[]), vi 0, vi 0, vi 0]), (4, .box [vs x2, vi x3.1, vs x5, vs (ByteArray.mk #[]), vi (w64 (1200 + x6.1)), vi (w64 ((w64 (1200 + x6.1)) + x8.1)), vi (w64 (1 + x7.1))]), (1000000, .box (tc el01Source x8.2))]⟩ ?_
  refine swp_cd h (fun h => ?_) fun h => ?_
  refine sr ?_
  refine SRun.ck tbokGB 2 ⟨60, [(2, .ref 2 0), (4, .ref 4 0), (47, .own 47), (48, .ref 1000000 0)], [(2, .box [vs (ByteArray.mk #[]), vi 0, vs (ByteArray.mk #[]), vs (ByteArray.mk #[]), vi 0, vi 0, vi 0]), (4, .box [vs x2, vi x3.1, vs x5, vs (ByteArray.mk #[]), vi (w64 (1200 + x6.1)), vi (w64 ((w64 (1200 + x6.1)) + x8.1)), vi (w64 (1 + x7.1))]), (47, oa 9 1 eS ([(ByteArray.mk #[97, 115, 104]), (ByteArray.mk #[98, 114, 105, 103]), (ByteArray.mk #[99, 111, 114, 107]), (ByteArray.mk #[100, 101, 118, 97])] : List ByteArray)), (1000000, .box (tc el01Source x8.2))]⟩ ?_
  obtain ⟨x13, hx13, h⟩ := bind_some h
  refine SRun.estep (xe ents62 (spec_l01Next_run x8.2 4 _ hx13)) ?_
  obtain ⟨x14, hx14, h⟩ := bind_some h
  refine SRun.ls (x_index_own (d := 47) (L := ([(ByteArray.mk #[97, 115, 104]), (ByteArray.mk #[98, 114, 105, 103]), (ByteArray.mk #[99, 111, 114, 107]), (ByteArray.mk #[100, 101, 118, 97])] : List ByteArray)) (f := eS) (ti := ti52) (tj := ti9) (e := 9) (e' := 9) (m := 1) (k := .i64) tbokGB rfl hx14) ?_
  refine SRun.ls (x_load_own (d := 47) (m := 1) (j := 0) (L := ([(ByteArray.mk #[97, 115, 104]), (ByteArray.mk #[98, 114, 105, 103]), (ByteArray.mk #[99, 111, 114, 107]), (ByteArray.mk #[100, 101, 118, 97])] : List ByteArray)) (f := eS) (ti := ti9) (e := 9) (v := vs x14) tbokGB rfl hx14) ?_
  refine ckn tbokGB 2 ⟨60, [(2, .ref 2 0), (4, .ref 4 0)], [(2, .box [vs (ByteArray.mk #[]), vi 0, vs (ByteArray.mk #[]), vs (ByteArray.mk #[]), vi 0, vi 0, vi 0]), (4, .box [vs x2, vi x3.1, vs x5, vs x14, vi (w64 (1200 + x6.1)), vi (w64 ((w64 (1200 + x6.1)) + x8.1)), vi (w64 (1 + x7.1))]), (1000000, .box (tc el01Source x13.2))]⟩ ?_
  refine srk tbokGB ⟨60, [(2, .ref 2 0), (4, .ref 4 0), (57, vb (x14.toList == x5.toList))], [(2, .box [vs (ByteArray.mk #[]), vi 0, vs (ByteArray.mk #[]), vs (ByteArray.mk #[]), vi 0, vi 0, vi 0]), (4, .box [vs x2, vi x3.1, vs x5, vs x14, vi (w64 (1200 + x6.1)), vi (w64 ((w64 (1200 + x6.1)) + x8.1)), vi (w64 (1 + x7.1))]), (1000000, .box (tc el01Source x13.2))]⟩ ?_
  refine swp_cd h (fun h => ?_) fun h => ?_
  refine swp_reg ?_
  refine SRun.ck tbokGB 2 ⟨60, [(2, .ref 2 0), (4, .ref 4 0)], [(2, .box [vs (ByteArray.mk #[]), vi 0, vs (ByteArray.mk #[]), vs (ByteArray.mk #[]), vi 0, vi 0, vi 0]), (4, .box [vs x2, vi x3.1, vs x5, vs (ByteArray.mk #[100, 101, 118, 97]), vi (w64 (1200 + x6.1)), vi (w64 ((w64 (1200 + x6.1)) + x8.1)), vi (w64 (1 + x7.1))]), (1000000, .box (tc el01Source x13.2))]⟩ ?_
  refine SRun.nil ?_
  obtain rfl := inj h
  exact q_bn (q_j (Le.sub0))
  refine swp_skip ?_
  obtain rfl := inj h
  exact q_bn (q_j (Le.sub0))
  refine swp_skip ?_
  obtain rfl := inj h
  exact q_bn (q_j (Le.sub0))
  refine srk tbokGB ⟨60, [(2, .ref 2 0)], [(2, .box (tc eClaim j9.1)), (1000000, .box (tc el01Source j9.2))]⟩ ?_
  refine swp_ret ?_
  obtain rfl := inj h
  exact q_fr (fin_io (f1 (fc tbokGB)) (y := .box (tc el01Source j9.2)) (by kernel_rfl) rfl (by kernel_rfl) (by kernel_rfl))
theorem ents115 : Ents Tryz.prog 115 := ents_of Tryz.func115 (by kernel_rfl) rfl
noncomputable def spec_l02Good (aS : l01Source) : Option (Span × l01Source) :=
  ((spec_l01Next aS 1000).bind fun x1 => ((spec_l01Next x1.2 20).bind fun x2 => ((spec_l01Next x2.2 300).bind fun x3 => ((spec_l01Pick x3.2 ([0, x2.1, x3.1, 2000] : List Int)).bind fun x4 => some ((Span.mk (w64 (1000 + x1.1)) (minI 3000 (w64 ((w64 (1000 + x1.1)) + x4.1)))), x4.2)))))
theorem spec_l02Good_run (aS : l01Source) (r : Span × l01Source) (h : spec_l02Good aS = some r) : SCall Tryz.prog 179 [.o (.box [vl (eI .u8) aS.code, vi aS.at', vi aS.seed])] ⟨[.v (.agg (tc eSpan r.1))], [(0, .box (tc el01Source r.2))], false⟩ := by
  refine scall_in Tryz.func179 rfl [(.cell 2 40)] rfl (fun r => ⟨[.v (.agg (tc eSpan r.1))], [(0, .box (tc el01Source r.2))], false⟩) (r := r) ?_
  unfold spec_l02Good at h
  refine srk tbokGB ⟨19, [(0, .ref 1000000 0), (2, .ref 2 0)], [(2, .box [vi 0, vi 0]), (1000000, .box (tc el01Source aS))]⟩ ?_
  refine sr ?_
  refine SRun.ck tbokGB 1 ⟨19, [(0, .ref 1000000 0), (2, .ref 2 0), (4, .ref 1000000 0)], [(2, .box [vi 0, vi 0]), (1000000, .box (tc el01Source aS))]⟩ ?_
  obtain ⟨x1, hx1, h⟩ := bind_some h
  refine SRun.estep (xe ents62 (spec_l01Next_run aS 1000 _ hx1)) ?_
  refine ckn tbokGB 2 ⟨19, [(0, .ref 1000000 0), (2, .ref 2 0), (3, vi (w64 (1000 + x1.1)))], [(2, .box [vi 0, vi 0]), (1000000, .box (tc el01Source x1.2))]⟩ ?_
  refine sr ?_
  refine SRun.ck tbokGB 4 ⟨19, [(0, .ref 1000000 0), (2, .ref 2 0), (7, vi (w64 (1000 + x1.1))), (8, vi (w64 (1000 + x1.1))), (9, .ref 1000000 0), (10, .ref 1000000 0)], [(2, .box [vi 0, vi 0]), (1000000, .box (tc el01Source x1.2))]⟩ ?_
  obtain ⟨x2, hx2, h⟩ := bind_some h
  refine SRun.estep (xe ents62 (spec_l01Next_run x1.2 20 _ hx2)) ?_
  refine SRun.ck tbokGB 1 ⟨19, [(2, .ref 2 0), (7, vi (w64 (1000 + x1.1))), (8, vi (w64 (1000 + x1.1))), (9, .ref 1000000 0), (11, vi x2.1), (12, .ref 1000000 0)], [(2, .box [vi 0, vi 0]), (1000000, .box (tc el01Source x2.2))]⟩ ?_
  obtain ⟨x3, hx3, h⟩ := bind_some h
  refine SRun.estep (xe ents62 (spec_l01Next_run x2.2 300 _ hx3)) ?_
  refine SRun.ck tbokGB 1 ⟨19, [(2, .ref 2 0), (7, vi (w64 (1000 + x1.1))), (8, vi (w64 (1000 + x1.1))), (9, .ref 1000000 0), (14, .own 14)], [(2, .box [vi 0, vi 0]), (14, oa 2 1 (eI .i64) ([0, x2.1, x3.1, 2000] : List Int)), (1000000, .box (tc el01Source x3.2))]⟩ ?_
  refine SRun.le (Le.frz' (d := 14) (e := 2) (m := 1) (n := ([0, x2.1, x3.1, 2000] : List Int).length) (es := ([0, x2.1, x3.1, 2000] : List Int).map (eI .i64)) (by kernel_rfl) (by kernel_rfl)) ?_
  obtain ⟨x4, hx4, h⟩ := bind_some h
  refine SRun.estep (xe ents140 (spec_l01Pick_run x3.2 ([0, x2.1, x3.1, 2000] : List Int) _ hx4)) ?_
  refine SRun.ck tbokGB 2 ⟨19, [(2, .ref 2 0), (7, vi (w64 (1000 + x1.1))), (17, vi (minI 3000 (w64 ((w64 (1000 + x1.1)) + x4.1))))], [(2, .box [vi 0, vi 0]), (1000000, .box (tc el01Source x4.2))]⟩ ?_
  refine SRun.ls (x_lstep_build (v := .agg [vi (w64 (1000 + x1.1)), vi (minI 3000 (w64 ((w64 (1000 + x1.1)) + x4.1)))]) tbokGB rfl) ?_
  refine ckn tbokGB 1 ⟨19, [(2, .ref 2 0)], [(2, .box [vi (w64 (1000 + x1.1)), vi (minI 3000 (w64 ((w64 (1000 + x1.1)) + x4.1)))]), (1000000, .box (tc el01Source x4.2))]⟩ ?_
  refine swp_ret ?_
  obtain rfl := inj h
  exact q_fr (fin_io (f1 (fc tbokGB)) (y := .box (tc el01Source x4.2)) (by kernel_rfl) rfl (by kernel_rfl) (by kernel_rfl))
theorem ents179 : Ents Tryz.prog 179 := ents_of Tryz.func179 (by kernel_rfl) rfl
noncomputable def spec_l02Draw (aS : l01Source) : Option (Span × l01Source) :=
  ((spec_l02Good aS).bind fun x1 => ((spec_l01Next x1.2 20).bind fun x2 => (((bif (x2.1 == 0) then some ((Span.mk x1.1.From (w64 (x1.1.From - 1))), x2.2) else (bif (x2.1 == 1) then ((spec_l01Pick x2.2 ([(-3000), (-3001), 3001] : List Int)).bind fun x5 => some ((Span.mk x5.1 x1.1.To), x5.2)) else (bif (x2.1 == 2) then ((spec_l01Pick x2.2 ([3000, 3001] : List Int)).bind fun x6 => some ((Span.mk x1.1.From x6.1), x6.2)) else some (x1.1, x2.2))))).bind fun (j3 : Span × l01Source) => some (j3.1, j3.2))))
theorem spec_l02Draw_run (aS : l01Source) (r : Span × l01Source) (h : spec_l02Draw aS = some r) : SCall Tryz.prog 147 [.o (.box [vl (eI .u8) aS.code, vi aS.at', vi aS.seed])] ⟨[.v (.agg (tc eSpan r.1))], [(0, .box (tc el01Source r.2))], false⟩ := by
  refine scall_in Tryz.func147 rfl [(.cell 2 40)] rfl (fun r => ⟨[.v (.agg (tc eSpan r.1))], [(0, .box (tc el01Source r.2))], false⟩) (r := r) ?_
  unfold spec_l02Draw at h
  refine srk tbokGB ⟨27, [(0, .ref 1000000 0), (2, .ref 2 0)], [(2, .box [vi 0, vi 0]), (1000000, .box (tc el01Source aS))]⟩ ?_
  refine sr ?_
  refine SRun.ck tbokGB 1 ⟨27, [(0, .ref 1000000 0), (2, .ref 2 0), (4, .ref 1000000 0)], [(2, .box [vi 0, vi 0]), (1000000, .box (tc el01Source aS))]⟩ ?_
  obtain ⟨x1, hx1, h⟩ := bind_some h
  refine SRun.estep (xe ents179 (spec_l02Good_run aS _ hx1)) ?_
  refine ckn tbokGB 2 ⟨27, [(0, .ref 1000000 0), (2, .ref 2 0), (3, .ref 3 0)], [(2, .box [vi 0, vi 0]), (3, .box (tc eSpan x1.1)), (1000000, .box (tc el01Source x1.2))]⟩ ?_
  refine swp_seq ?_
  refine sr ?_
  refine SRun.ck tbokGB 1 ⟨27, [(0, .ref 1000000 0), (2, .ref 2 0), (3, .ref 3 0), (6, .ref 1000000 0)], [(2, .box [vi 0, vi 0]), (3, .box (tc eSpan x1.1)), (1000000, .box (tc el01Source x1.2))]⟩ ?_
  obtain ⟨x2, hx2, h⟩ := bind_some h
  refine SRun.estep (xe ents62 (spec_l01Next_run x1.2 20 _ hx2)) ?_
  refine SRun.nx ?_
  refine swp_seqJ h (fun j3 => ⟨27, [(2, .ref 2 0), (3, .ref 3 0)], [(2, .box [vi 0, vi 0]), (3, .box (tc eSpan j3.1)), (1000000, .box (tc el01Source j3.2))]⟩) (fun v4 h => ?_) (fun j3 h => ?_)
  refine swp_blk (a := v4) ?_
  refine srk tbokGB ⟨27, [(0, .ref 1000000 0), (2, .ref 2 0), (3, .ref 3 0), (7, vi x2.1), (8, vb (x2.1 == 0))], [(2, .box [vi 0, vi 0]), (3, .box (tc eSpan x1.1)), (1000000, .box (tc el01Source x2.2))]⟩ ?_
  refine swp_cd h (fun h => ?_) fun h => ?_
  refine swp_reg ?_
  refine SRun.ck tbokGB 5 ⟨27, [(2, .ref 2 0), (3, .ref 3 0)], [(2, .box [vi 0, vi 0]), (3, .box [vi x1.1.From, vi (w64 (x1.1.From - 1))]), (1000000, .box (tc el01Source x2.2))]⟩ ?_
  refine SRun.nil ?_
  obtain rfl := inj h
  exact q_bn (q_j (Le.sub0))
  refine srk tbokGB ⟨27, [(0, .ref 1000000 0), (2, .ref 2 0), (3, .ref 3 0), (7, vi x2.1), (14, vb (x2.1 == 1))], [(2, .box [vi 0, vi 0]), (3, .box (tc eSpan x1.1)), (1000000, .box (tc el01Source x2.2))]⟩ ?_
  refine swp_cd h (fun h => ?_) fun h => ?_
  refine swp_reg ?_
  refine SRun.ck tbokGB 2 ⟨27, [(2, .ref 2 0), (3, .ref 3 0), (16, .ref 1000000 0), (17, .own 17)], [(2, .box [vi 0, vi 0]), (3, .box (tc eSpan x1.1)), (17, oa 2 1 (eI .i64) ([(-3000), (-3001), 3001] : List Int)), (1000000, .box (tc el01Source x2.2))]⟩ ?_
  refine SRun.le (Le.frz' (d := 17) (e := 2) (m := 1) (n := ([(-3000), (-3001), 3001] : List Int).length) (es := ([(-3000), (-3001), 3001] : List Int).map (eI .i64)) (by kernel_rfl) (by kernel_rfl)) ?_
  obtain ⟨x5, hx5, h⟩ := bind_some h
  refine SRun.estep (xe ents140 (spec_l01Pick_run x2.2 ([(-3000), (-3001), 3001] : List Int) _ hx5)) ?_
  refine SRun.ck tbokGB 2 ⟨27, [(2, .ref 2 0), (3, .ref 3 0)], [(2, .box [vi 0, vi 0]), (3, .box [vi x5.1, vi x1.1.To]), (1000000, .box (tc el01Source x5.2))]⟩ ?_
  refine SRun.nil ?_
  obtain rfl := inj h
  exact q_bn (q_j (Le.sub0))
  refine srk tbokGB ⟨27, [(0, .ref 1000000 0), (2, .ref 2 0), (3, .ref 3 0), (20, vb (x2.1 == 2))], [(2, .box [vi 0, vi 0]), (3, .box (tc eSpan x1.1)), (1000000, .box (tc el01Source x2.2))]⟩ ?_
  refine swp_cd h (fun h => ?_) fun h => ?_
  refine swp_reg ?_
  refine SRun.ck tbokGB 2 ⟨27, [(2, .ref 2 0), (3, .ref 3 0), (22, .ref 1000000 0), (23, .own 23)], [(2, .box [vi 0, vi 0]), (3, .box (tc eSpan x1.1)), (23, oa 2 1 (eI .i64) ([3000, 3001] : List Int)), (1000000, .box (tc el01Source x2.2))]⟩ ?_
  refine SRun.le (Le.frz' (d := 23) (e := 2) (m := 1) (n := ([3000, 3001] : List Int).length) (es := ([3000, 3001] : List Int).map (eI .i64)) (by kernel_rfl) (by kernel_rfl)) ?_
  obtain ⟨x6, hx6, h⟩ := bind_some h
  refine SRun.estep (xe ents140 (spec_l01Pick_run x2.2 ([3000, 3001] : List Int) _ hx6)) ?_
  refine SRun.ck tbokGB 2 ⟨27, [(2, .ref 2 0), (3, .ref 3 0)], [(2, .box [vi 0, vi 0]), (3, .box [vi x1.1.From, vi x6.1]), (1000000, .box (tc el01Source x6.2))]⟩ ?_
  refine SRun.nil ?_
  obtain rfl := inj h
  exact q_bn (q_j (Le.sub0))
  refine swp_skip ?_
  obtain rfl := inj h
  exact q_bn (q_j (Le.sub0))
  refine srk tbokGB ⟨27, [(2, .ref 2 0)], [(2, .box (tc eSpan j3.1)), (1000000, .box (tc el01Source j3.2))]⟩ ?_
  refine swp_ret ?_
  obtain rfl := inj h
  exact q_fr (fin_io (f1 (fc tbokGB)) (y := .box (tc el01Source j3.2)) (by kernel_rfl) rfl (by kernel_rfl) (by kernel_rfl))
theorem ents147 : Ents Tryz.prog 147 := ents_of Tryz.func147 (by kernel_rfl) rfl
noncomputable def spec_l20Draw (aS : l01Source) : Option (Claim × l01Source) :=
  ((spec_l20Good aS).bind fun x1 => ((spec_l01Next x1.2 24).bind fun x2 => (((bif (x2.1 == 0) then ((spec_l01Pick x2.2 ([0, 100, 101] : List Int)).bind fun x5 => some ((Claim.mk x1.1.Source x1.1.Kind x1.1.Place x1.1.Value x1.1.Years x5.1), x5.2)) else (bif (x2.1 == 1) then ((spec_l01Next x2.2 3).bind fun x6 => ((at' ([(ByteArray.mk #[]), (ByteArray.mk #[97, 115, 104]), (ByteArray.mk #[79, 108, 100])] : List ByteArray) x6.1).bind fun x7 => some ((Claim.mk x1.1.Source x1.1.Kind x1.1.Place x7 x1.1.Years x1.1.Weight), x6.2))) else (bif (x2.1 == 2) then ((spec_l01Next x2.2 6).bind fun x8 => some ((Claim.mk x1.1.Source (w64 (x8.1 - 1)) x1.1.Place x1.1.Value x1.1.Years x1.1.Weight), x8.2)) else (bif (x2.1 == 3) then ((spec_l02Draw x2.2).bind fun x9 => some ((Claim.mk x1.1.Source x1.1.Kind x1.1.Place x1.1.Value x9.1 x1.1.Weight), x9.2)) else some (x1.1, x2.2)))))).bind fun (j3 : Claim × l01Source) => some (j3.1, j3.2))))
theorem spec_l20Draw_run (aS : l01Source) (r : Claim × l01Source) (h : spec_l20Draw aS = some r) : SCall Tryz.prog 116 [.o (.box [vl (eI .u8) aS.code, vi aS.at', vi aS.seed])] ⟨[.v (.agg (tc eClaim r.1))], [(0, .box (tc el01Source r.2))], false⟩ := by
  refine scall_in Tryz.func116 rfl [(.cell 2 42)] rfl (fun r => ⟨[.v (.agg (tc eClaim r.1))], [(0, .box (tc el01Source r.2))], false⟩) (r := r) ?_
  unfold spec_l20Draw at h
  refine srk tbokGB ⟨34, [(0, .ref 1000000 0), (2, .ref 2 0)], [(2, .box [vs (ByteArray.mk #[]), vi 0, vs (ByteArray.mk #[]), vs (ByteArray.mk #[]), vi 0, vi 0, vi 0]), (1000000, .box (tc el01Source aS))]⟩ ?_
  refine sr ?_
  refine SRun.ck tbokGB 1 ⟨34, [(0, .ref 1000000 0), (2, .ref 2 0), (4, .ref 1000000 0)], [(2, .box [vs (ByteArray.mk #[]), vi 0, vs (ByteArray.mk #[]), vs (ByteArray.mk #[]), vi 0, vi 0, vi 0]), (1000000, .box (tc el01Source aS))]⟩ ?_
  obtain ⟨x1, hx1, h⟩ := bind_some h
  refine SRun.estep (xe ents115 (spec_l20Good_run aS _ hx1)) ?_
  refine ckn tbokGB 2 ⟨34, [(0, .ref 1000000 0), (2, .ref 2 0), (3, .ref 3 0)], [(2, .box [vs (ByteArray.mk #[]), vi 0, vs (ByteArray.mk #[]), vs (ByteArray.mk #[]), vi 0, vi 0, vi 0]), (3, .box (tc eClaim x1.1)), (1000000, .box (tc el01Source x1.2))]⟩ ?_
  refine swp_seq ?_
  refine sr ?_
  refine SRun.ck tbokGB 1 ⟨34, [(0, .ref 1000000 0), (2, .ref 2 0), (3, .ref 3 0), (6, .ref 1000000 0)], [(2, .box [vs (ByteArray.mk #[]), vi 0, vs (ByteArray.mk #[]), vs (ByteArray.mk #[]), vi 0, vi 0, vi 0]), (3, .box (tc eClaim x1.1)), (1000000, .box (tc el01Source x1.2))]⟩ ?_
  obtain ⟨x2, hx2, h⟩ := bind_some h
  refine SRun.estep (xe ents62 (spec_l01Next_run x1.2 24 _ hx2)) ?_
  refine SRun.nx ?_
  refine swp_seqJ h (fun j3 => ⟨34, [(2, .ref 2 0), (3, .ref 3 0)], [(2, .box [vs (ByteArray.mk #[]), vi 0, vs (ByteArray.mk #[]), vs (ByteArray.mk #[]), vi 0, vi 0, vi 0]), (3, .box (tc eClaim j3.1)), (1000000, .box (tc el01Source j3.2))]⟩) (fun v4 h => ?_) (fun j3 h => ?_)
  refine swp_blk (a := v4) ?_
  refine srk tbokGB ⟨34, [(0, .ref 1000000 0), (2, .ref 2 0), (3, .ref 3 0), (7, vi x2.1), (8, vb (x2.1 == 0))], [(2, .box [vs (ByteArray.mk #[]), vi 0, vs (ByteArray.mk #[]), vs (ByteArray.mk #[]), vi 0, vi 0, vi 0]), (3, .box (tc eClaim x1.1)), (1000000, .box (tc el01Source x2.2))]⟩ ?_
  refine swp_cd h (fun h => ?_) fun h => ?_
  refine swp_reg ?_
  refine SRun.ck tbokGB 2 ⟨34, [(2, .ref 2 0), (3, .ref 3 0), (10, .ref 1000000 0), (11, .own 11)], [(2, .box [vs (ByteArray.mk #[]), vi 0, vs (ByteArray.mk #[]), vs (ByteArray.mk #[]), vi 0, vi 0, vi 0]), (3, .box (tc eClaim x1.1)), (11, oa 2 1 (eI .i64) ([0, 100, 101] : List Int)), (1000000, .box (tc el01Source x2.2))]⟩ ?_
  refine SRun.le (Le.frz' (d := 11) (e := 2) (m := 1) (n := ([0, 100, 101] : List Int).length) (es := ([0, 100, 101] : List Int).map (eI .i64)) (by kernel_rfl) (by kernel_rfl)) ?_
  obtain ⟨x5, hx5, h⟩ := bind_some h
  refine SRun.estep (xe ents140 (spec_l01Pick_run x2.2 ([0, 100, 101] : List Int) _ hx5)) ?_
  refine SRun.ck tbokGB 2 ⟨34, [(2, .ref 2 0), (3, .ref 3 0)], [(2, .box [vs (ByteArray.mk #[]), vi 0, vs (ByteArray.mk #[]), vs (ByteArray.mk #[]), vi 0, vi 0, vi 0]), (3, .box [vs x1.1.Source, vi x1.1.Kind, vs x1.1.Place, vs x1.1.Value, vi x1.1.Years.From, vi x1.1.Years.To, vi x5.1]), (1000000, .box (tc el01Source x5.2))]⟩ ?_
  refine SRun.nil ?_
  obtain rfl := inj h
  exact q_bn (q_j (Le.sub0))
  refine srk tbokGB ⟨34, [(0, .ref 1000000 0), (2, .ref 2 0), (3, .ref 3 0), (7, vi x2.1), (14, vb (x2.1 == 1))], [(2, .box [vs (ByteArray.mk #[]), vi 0, vs (ByteArray.mk #[]), vs (ByteArray.mk #[]), vi 0, vi 0, vi 0]), (3, .box (tc eClaim x1.1)), (1000000, .box (tc el01Source x2.2))]⟩ ?_
  refine swp_cd h (fun h => ?_) fun h => ?_
  refine swp_reg ?_
  refine SRun.ck tbokGB 2 ⟨34, [(2, .ref 2 0), (3, .ref 3 0), (16, .own 16), (17, .ref 1000000 0)], [(2, .box [vs (ByteArray.mk #[]), vi 0, vs (ByteArray.mk #[]), vs (ByteArray.mk #[]), vi 0, vi 0, vi 0]), (3, .box (tc eClaim x1.1)), (16, oa 9 1 eS ([(ByteArray.mk #[]), (ByteArray.mk #[97, 115, 104]), (ByteArray.mk #[79, 108, 100])] : List ByteArray)), (1000000, .box (tc el01Source x2.2))]⟩ ?_
  obtain ⟨x6, hx6, h⟩ := bind_some h
  refine SRun.estep (xe ents62 (spec_l01Next_run x2.2 3 _ hx6)) ?_
  obtain ⟨x7, hx7, h⟩ := bind_some h
  refine SRun.ls (x_index_own (d := 16) (L := ([(ByteArray.mk #[]), (ByteArray.mk #[97, 115, 104]), (ByteArray.mk #[79, 108, 100])] : List ByteArray)) (f := eS) (ti := ti52) (tj := ti9) (e := 9) (e' := 9) (m := 1) (k := .i64) tbokGB rfl hx7) ?_
  refine SRun.ls (x_load_own (d := 16) (m := 1) (j := 0) (L := ([(ByteArray.mk #[]), (ByteArray.mk #[97, 115, 104]), (ByteArray.mk #[79, 108, 100])] : List ByteArray)) (f := eS) (ti := ti9) (e := 9) (v := vs x7) tbokGB rfl hx7) ?_
  refine SRun.ck tbokGB 2 ⟨34, [(2, .ref 2 0), (3, .ref 3 0)], [(2, .box [vs (ByteArray.mk #[]), vi 0, vs (ByteArray.mk #[]), vs (ByteArray.mk #[]), vi 0, vi 0, vi 0]), (3, .box [vs x1.1.Source, vi x1.1.Kind, vs x1.1.Place, vs x7, vi x1.1.Years.From, vi x1.1.Years.To, vi x1.1.Weight]), (1000000, .box (tc el01Source x6.2))]⟩ ?_
  refine SRun.nil ?_
  obtain rfl := inj h
  exact q_bn (q_j (Le.sub0))
  refine srk tbokGB ⟨34, [(0, .ref 1000000 0), (2, .ref 2 0), (3, .ref 3 0), (7, vi x2.1), (22, vb (x2.1 == 2))], [(2, .box [vs (ByteArray.mk #[]), vi 0, vs (ByteArray.mk #[]), vs (ByteArray.mk #[]), vi 0, vi 0, vi 0]), (3, .box (tc eClaim x1.1)), (1000000, .box (tc el01Source x2.2))]⟩ ?_
  refine swp_cd h (fun h => ?_) fun h => ?_
  refine swp_reg ?_
  refine SRun.ck tbokGB 1 ⟨34, [(2, .ref 2 0), (3, .ref 3 0), (24, .ref 1000000 0)], [(2, .box [vs (ByteArray.mk #[]), vi 0, vs (ByteArray.mk #[]), vs (ByteArray.mk #[]), vi 0, vi 0, vi 0]), (3, .box (tc eClaim x1.1)), (1000000, .box (tc el01Source x2.2))]⟩ ?_
  obtain ⟨x8, hx8, h⟩ := bind_some h
  refine SRun.estep (xe ents62 (spec_l01Next_run x2.2 6 _ hx8)) ?_
  refine SRun.ck tbokGB 3 ⟨34, [(2, .ref 2 0), (3, .ref 3 0)], [(2, .box [vs (ByteArray.mk #[]), vi 0, vs (ByteArray.mk #[]), vs (ByteArray.mk #[]), vi 0, vi 0, vi 0]), (3, .box [vs x1.1.Source, vi (w64 (x8.1 - 1)), vs x1.1.Place, vs x1.1.Value, vi x1.1.Years.From, vi x1.1.Years.To, vi x1.1.Weight]), (1000000, .box (tc el01Source x8.2))]⟩ ?_
  refine SRun.nil ?_
  obtain rfl := inj h
  exact q_bn (q_j (Le.sub0))
  refine srk tbokGB ⟨34, [(0, .ref 1000000 0), (2, .ref 2 0), (3, .ref 3 0), (28, vb (x2.1 == 3))], [(2, .box [vs (ByteArray.mk #[]), vi 0, vs (ByteArray.mk #[]), vs (ByteArray.mk #[]), vi 0, vi 0, vi 0]), (3, .box (tc eClaim x1.1)), (1000000, .box (tc el01Source x2.2))]⟩ ?_
  refine swp_cd h (fun h => ?_) fun h => ?_
  refine swp_reg ?_
  refine SRun.ck tbokGB 1 ⟨34, [(2, .ref 2 0), (3, .ref 3 0), (30, .ref 1000000 0)], [(2, .box [vs (ByteArray.mk #[]), vi 0, vs (ByteArray.mk #[]), vs (ByteArray.mk #[]), vi 0, vi 0, vi 0]), (3, .box (tc eClaim x1.1)), (1000000, .box (tc el01Source x2.2))]⟩ ?_
  obtain ⟨x9, hx9, h⟩ := bind_some h
  refine SRun.estep (xe ents147 (spec_l02Draw_run x2.2 _ hx9)) ?_
  refine SRun.ck tbokGB 2 ⟨34, [(2, .ref 2 0), (3, .ref 3 0)], [(2, .box [vs (ByteArray.mk #[]), vi 0, vs (ByteArray.mk #[]), vs (ByteArray.mk #[]), vi 0, vi 0, vi 0]), (3, .box [vs x1.1.Source, vi x1.1.Kind, vs x1.1.Place, vs x1.1.Value, vi x9.1.From, vi x9.1.To, vi x1.1.Weight]), (1000000, .box (tc el01Source x9.2))]⟩ ?_
  refine SRun.nil ?_
  obtain rfl := inj h
  exact q_bn (q_j (Le.sub0))
  refine swp_skip ?_
  obtain rfl := inj h
  exact q_bn (q_j (Le.sub0))
  refine srk tbokGB ⟨34, [(2, .ref 2 0)], [(2, .box (tc eClaim j3.1)), (1000000, .box (tc el01Source j3.2))]⟩ ?_
  refine swp_ret ?_
  obtain rfl := inj h
  exact q_fr (fin_io (f1 (fc tbokGB)) (y := .box (tc el01Source j3.2)) (by kernel_rfl) rfl (by kernel_rfl) (by kernel_rfl))
theorem ents116 : Ents Tryz.prog 116 := ents_of Tryz.func116 (by kernel_rfl) rfl
noncomputable def spec_l20List (aS : l01Source) : Option ((List Claim) × l01Source) :=
  ((spec_l01Next aS 9).bind fun x1 => (((loop (fun (s4 : Int × (List Claim) × l01Source) => (bif (decide (s4.1 > 0)) then ((((spec_l20Good s4.2.2).bind fun x8 => ((app' s4.2.1 ([x8.1] : List Claim)).bind fun x9 => some (x9, x8.2)))).bind fun (j6 : (List Claim) × l01Source) => some (.inl ((w64 (s4.1 - 1)), j6.1, j6.2))) else some (.inr (s4.2.1, s4.2.2)))) (x1.1, ([] : List Claim), x1.2))).bind fun (j2 : (List Claim) × l01Source) => ((spec_l01Next j2.2 24).bind fun x10 => (((bif (x10.1 == 0) then ((spec_l20Draw x10.2).bind fun x13 => ((app' j2.1 ([x13.1] : List Claim)).bind fun x14 => some (x14, x13.2))) else (bif (x10.1 == 1) then (loop (fun (s15 : (List Claim) × l01Source) => ((spec_l01Next s15.2 2).bind fun x17 => (bif (decide ((s15.1.length : Int) < (w64 (12 + x17.1)))) then ((spec_l20Good x17.2).bind fun x18 => ((app' s15.1 ([x18.1] : List Claim)).bind fun x19 => some (.inl (x19, x18.2)))) else some (.inr (s15.1, x17.2))))) (j2.1, x10.2)) else some (j2.1, x10.2)))).bind fun (j11 : (List Claim) × l01Source) => some (j11.1, j11.2)))))
theorem spec_l20List_run (aS : l01Source) (r : (List Claim) × l01Source) (h : spec_l20List aS = some r) : SCall Tryz.prog 64 [.o (.box [vl (eI .u8) aS.code, vi aS.at', vi aS.seed])] ⟨[.own 42 7 r.1.length (r.1.map eClaim)], [(0, .box (tc el01Source r.2))], false⟩ := by
  refine scall_in Tryz.func64 rfl [(.tmp 2)] rfl (fun r => ⟨[.own 42 7 r.1.length (r.1.map eClaim)], [(0, .box (tc el01Source r.2))], false⟩) (r := r) ?_
  unfold spec_l20List at h
  refine srk tbokGB ⟨40, [(0, .ref 1000000 0)], [(1000000, .box (tc el01Source aS))]⟩ ?_
  refine srk tbokGB ⟨40, [(0, .ref 1000000 0), (3, .own 5)], [(5, oa 42 7 eClaim ([] : List Claim)), (1000000, .box (tc el01Source aS))]⟩ ?_
  refine swp_seq ?_
  refine sr ?_
  refine SRun.ck tbokGB 1 ⟨40, [(0, .ref 1000000 0), (3, .own 5), (6, .ref 1000000 0)], [(5, oa 42 7 eClaim ([] : List Claim)), (1000000, .box (tc el01Source aS))]⟩ ?_
  obtain ⟨x1, hx1, h⟩ := bind_some h
  refine SRun.estep (xe ents62 (spec_l01Next_run aS 9 _ hx1)) ?_
  refine ckn tbokGB 1 ⟨40, [(0, .ref 1000000 0), (3, .own 5), (4, vi x1.1)], [(5, oa 42 7 eClaim ([] : List Claim)), (1000000, .box (tc el01Source x1.2))]⟩ ?_
  refine swp_seqJ h (fun j2 => ⟨40, [(0, .ref 1000000 0), (3, .own 3)], [(3, oa 42 7 eClaim j2.1), (1000000, .box (tc el01Source j2.2))]⟩) (fun v3 h => ?_) (fun j2 h => ?_)
  refine swp_blk (a := v3) ?_
  refine swp_lpL (r := v3) (s := (x1.1, ([] : List Claim), x1.2)) _ (fun s4 => ⟨40, [(0, .ref 1000000 0), (3, .own 3), (4, vi s4.1)], [(3, oa 42 7 eClaim s4.2.1), (1000000, .box (tc el01Source s4.2.2))]⟩) _ (Le.rr [5, 1000000] [(5, 3)]) h (fun s4 v5 h => ?_)
  refine swp_seq ?_
  refine srk tbokGB ⟨40, [(0, .ref 1000000 0), (3, .own 3), (4, vi s4.1), (9, vb (decide (s4.1 > 0)))], [(3, oa 42 7 eClaim s4.2.1), (1000000, .box (tc el01Source s4.2.2))]⟩ ?_
  refine swp_cd h (fun h => ?_) fun h => ?_
  refine swp_skip ?_
  refine nx_n ?_
  refine swp_seq ?_
  refine swp_seqJ h (fun j6 => ⟨40, [(0, .ref 1000000 0), (3, .own 3), (4, vi s4.1)], [(3, oa 42 7 eClaim j6.1), (1000000, .box (tc el01Source j6.2))]⟩) (fun v7 h => ?_) (fun j6 h => ?_)
  refine swp_blk (a := v7) ?_
  refine swp_reg ?_
  refine SRun.ck tbokGB 2 ⟨40, [(0, .ref 1000000 0), (4, vi s4.1), (12, .own 3), (13, .ref 1000000 0)], [(3, oa 42 7 eClaim s4.2.1), (1000000, .box (tc el01Source s4.2.2))]⟩ ?_
  obtain ⟨x8, hx8, h⟩ := bind_some h
  refine SRun.estep (xe ents115 (spec_l20Good_run s4.2.2 _ hx8)) ?_
  refine SRun.ck tbokGB 1 ⟨40, [(0, .ref 1000000 0), (4, vi s4.1), (12, .own 3), (15, .own 15)], [(3, oa 42 7 eClaim s4.2.1), (15, oa 42 7 eClaim ([x8.1] : List Claim)), (1000000, .box (tc el01Source x8.2))]⟩ ?_
  obtain ⟨x9, hx9, h⟩ := bind_some h
  refine SRun.estep (x_append (f := eClaim) (t := 24) (ti := ti24) (tj := ti42) (zs := [.string (ByteArray.mk #[]), .int .i64 0, .string (ByteArray.mk #[]), .string (ByteArray.mk #[]), .int .i64 0, .int .i64 0, .int .i64 0]) (e := 42) (m := 7) (d := 3) (xv := .own 15) hx9 tbokGB rfl rfl rfl rfl (x_src_o (e := 42))) ?_
  refine SRun.ck tbokGB 1 ⟨40, [(0, .ref 1000000 0), (3, .own 16), (4, vi s4.1)], [(16, oa 42 7 eClaim x9), (1000000, .box (tc el01Source x8.2))]⟩ ?_
  refine SRun.nil ?_
  obtain rfl := inj h
  exact q_bn (q_j (Le.rr [16, 1000000] [(16, 3)]))
  refine swp_reg ?_
  refine SRun.ck tbokGB 3 ⟨40, [(0, .ref 1000000 0), (3, .own 3), (4, vi (w64 (s4.1 - 1)))], [(3, oa 42 7 eClaim j6.1), (1000000, .box (tc el01Source j6.2))]⟩ ?_
  refine SRun.nil ?_
  obtain rfl := inj h
  exact q_l (Le.sub0)
  refine swp_exit ?_
  obtain rfl := inj h
  exact nx_e (q_re (q_bh (q_j (Le.sub0))))
  refine swp_seq ?_
  refine sr ?_
  refine SRun.ck tbokGB 1 ⟨40, [(0, .ref 1000000 0), (3, .own 3), (17, .ref 1000000 0)], [(3, oa 42 7 eClaim j2.1), (1000000, .box (tc el01Source j2.2))]⟩ ?_
  obtain ⟨x10, hx10, h⟩ := bind_some h
  refine SRun.estep (xe ents62 (spec_l01Next_run j2.2 24 _ hx10)) ?_
  refine SRun.nx ?_
  refine swp_seqJ h (fun j11 => ⟨40, [(3, .own 3)], [(3, oa 42 7 eClaim j11.1), (1000000, .box (tc el01Source j11.2))]⟩) (fun v12 h => ?_) (fun j11 h => ?_)
  refine swp_blk (a := v12) ?_
  refine srk tbokGB ⟨40, [(0, .ref 1000000 0), (3, .own 3), (18, vi x10.1), (19, vb (x10.1 == 0))], [(3, oa 42 7 eClaim j2.1), (1000000, .box (tc el01Source x10.2))]⟩ ?_
  refine swp_cd h (fun h => ?_) fun h => ?_
  refine swp_reg ?_
  refine SRun.ck tbokGB 2 ⟨40, [(21, .own 3), (22, .ref 1000000 0)], [(3, oa 42 7 eClaim j2.1), (1000000, .box (tc el01Source x10.2))]⟩ ?_
  obtain ⟨x13, hx13, h⟩ := bind_some h
  refine SRun.estep (xe ents116 (spec_l20Draw_run x10.2 _ hx13)) ?_
  refine SRun.ck tbokGB 1 ⟨40, [(21, .own 3), (24, .own 24)], [(3, oa 42 7 eClaim j2.1), (24, oa 42 7 eClaim ([x13.1] : List Claim)), (1000000, .box (tc el01Source x13.2))]⟩ ?_
  obtain ⟨x14, hx14, h⟩ := bind_some h
  refine SRun.estep (x_append (f := eClaim) (t := 24) (ti := ti24) (tj := ti42) (zs := [.string (ByteArray.mk #[]), .int .i64 0, .string (ByteArray.mk #[]), .string (ByteArray.mk #[]), .int .i64 0, .int .i64 0, .int .i64 0]) (e := 42) (m := 7) (d := 3) (xv := .own 24) hx14 tbokGB rfl rfl rfl rfl (x_src_o (e := 42))) ?_
  refine SRun.ck tbokGB 1 ⟨40, [(3, .own 25)], [(25, oa 42 7 eClaim x14), (1000000, .box (tc el01Source x13.2))]⟩ ?_
  refine SRun.nil ?_
  obtain rfl := inj h
  exact q_bn (q_j (Le.rr [25, 1000000] [(25, 3)]))
  refine srk tbokGB ⟨40, [(0, .ref 1000000 0), (3, .own 3), (26, vb (x10.1 == 1))], [(3, oa 42 7 eClaim j2.1), (1000000, .box (tc el01Source x10.2))]⟩ ?_
  refine swp_cd h (fun h => ?_) fun h => ?_
  refine swp_blk (a := v12) ?_
  refine swp_lpL (r := v12) (s := (j2.1, x10.2)) _ (fun s15 => ⟨40, [(0, .ref 1000000 0), (3, .own 3)], [(3, oa 42 7 eClaim s15.1), (1000000, .box (tc el01Source s15.2))]⟩) _ (Le.sub0) h (fun s15 v16 h => ?_)
  refine swp_seq ?_
  refine sr ?_
  refine SRun.ck tbokGB 3 ⟨40, [(0, .ref 1000000 0), (3, .own 3), (29, vi (s15.1.length : Int)), (30, .ref 1000000 0)], [(3, oa 42 7 eClaim s15.1), (1000000, .box (tc el01Source s15.2))]⟩ ?_
  obtain ⟨x17, hx17, h⟩ := bind_some h
  refine SRun.estep (xe ents62 (spec_l01Next_run s15.2 2 _ hx17)) ?_
  refine ckn tbokGB 2 ⟨40, [(0, .ref 1000000 0), (3, .own 3), (33, vb (decide ((s15.1.length : Int) < (w64 (12 + x17.1)))))], [(3, oa 42 7 eClaim s15.1), (1000000, .box (tc el01Source x17.2))]⟩ ?_
  refine swp_cd h (fun h => ?_) fun h => ?_
  refine swp_skip ?_
  refine nx_n ?_
  refine swp_blk (a := v16) ?_
  refine swp_reg ?_
  refine SRun.ck tbokGB 2 ⟨40, [(0, .ref 1000000 0), (34, .own 3), (35, .ref 1000000 0)], [(3, oa 42 7 eClaim s15.1), (1000000, .box (tc el01Source x17.2))]⟩ ?_
  obtain ⟨x18, hx18, h⟩ := bind_some h
  refine SRun.estep (xe ents115 (spec_l20Good_run x17.2 _ hx18)) ?_
  refine SRun.ck tbokGB 1 ⟨40, [(0, .ref 1000000 0), (34, .own 3), (37, .own 37)], [(3, oa 42 7 eClaim s15.1), (37, oa 42 7 eClaim ([x18.1] : List Claim)), (1000000, .box (tc el01Source x18.2))]⟩ ?_
  obtain ⟨x19, hx19, h⟩ := bind_some h
  refine SRun.estep (x_append (f := eClaim) (t := 24) (ti := ti24) (tj := ti42) (zs := [.string (ByteArray.mk #[]), .int .i64 0, .string (ByteArray.mk #[]), .string (ByteArray.mk #[]), .int .i64 0, .int .i64 0, .int .i64 0]) (e := 42) (m := 7) (d := 3) (xv := .own 37) hx19 tbokGB rfl rfl rfl rfl (x_src_o (e := 42))) ?_
  refine SRun.ck tbokGB 1 ⟨40, [(0, .ref 1000000 0), (3, .own 38)], [(38, oa 42 7 eClaim x19), (1000000, .box (tc el01Source x18.2))]⟩ ?_
  refine SRun.nil ?_
  obtain rfl := inj h
  exact q_bn (q_l (Le.rr [38, 1000000] [(38, 3)]))
  refine swp_exit ?_
  obtain rfl := inj h
  exact nx_e (q_re (q_bh (q_bn (q_j (Le.sub0)))))
  refine swp_skip ?_
  obtain rfl := inj h
  exact q_bn (q_j (Le.sub0))
  refine srk tbokGB ⟨40, [(2, .own 3)], [(3, oa 42 7 eClaim j11.1), (1000000, .box (tc el01Source j11.2))]⟩ ?_
  refine swp_ret ?_
  obtain rfl := inj h
  exact q_fr (fin_io (f1 (fo eClaim_flat)) (y := .box (tc el01Source j11.2)) (by kernel_rfl) rfl (by kernel_rfl) (by kernel_rfl))
theorem ents64 : Ents Tryz.prog 64 := ents_of Tryz.func64 (by kernel_rfl) rfl
noncomputable def spec_l21List (aS : l01Source) : Option ((List Claim) × l01Source) :=
  ((spec_l01Next aS 3).bind fun x1 => (((bif (x1.1 == 0) then (forS 3 (fun (i4 : Int) (s4 : (List Claim) × l01Source) => ((at' ([(ByteArray.mk #[97, 116, 108, 97, 115]), (ByteArray.mk #[99, 104, 97, 114, 116, 101, 114]), (ByteArray.mk #[114, 111, 108, 108])] : List ByteArray) i4).bind fun x8 => ((at' ([(ByteArray.mk #[97, 115, 104]), (ByteArray.mk #[98, 114, 105, 103]), (ByteArray.mk #[99, 111, 114, 107]), (ByteArray.mk #[97, 115, 104])] : List ByteArray) i4).bind fun x9 => ((at' ([(ByteArray.mk #[97, 115, 104]), (ByteArray.mk #[98, 114, 105, 103]), (ByteArray.mk #[99, 111, 114, 107]), (ByteArray.mk #[97, 115, 104])] : List ByteArray) (w64 (i4 + 1))).bind fun x10 => ((spec_l01Next s4.2 20).bind fun x11 => ((spec_l01Next x11.2 30).bind fun x12 => ((spec_l01Next x12.2 9).bind fun x13 => ((spec_IsClaim (Claim.mk x8 1 x9 x10 (Span.mk (w64 (1200 + x11.1)) (w64 (1215 + x12.1))) (w64 (1 + x13.1)))).bind fun x14 => (bif x14 then ((app' s4.1 ([(Claim.mk x8 1 x9 x10 (Span.mk (w64 (1200 + x11.1)) (w64 (1215 + x12.1))) (w64 (1 + x13.1)))] : List Claim)).bind fun x15 => some (x15, x13.2)) else some (s4.1, x13.2)))))))))) (fun (s4 : (List Claim) × l01Source) => (s4.1, s4.2)) 0 (([] : List Claim), x1.2)) else some (([] : List Claim), x1.2))).bind fun (j2 : (List Claim) × l01Source) => ((spec_l20List j2.2).bind fun x16 => (((forH (fun (i19 : Int) (s19 : (List Claim)) => ((decide (i19 < (x16.1.length : Int))) && (decide ((s19.length : Int) < 9)))) (fun (i19 : Int) (s19 : (List Claim)) => ((at' x16.1 i19).bind fun x23 => ((app' s19 ([x23] : List Claim)).bind fun x24 => some x24))) (fun (s19 : (List Claim)) => s19) 0 j2.1)).bind fun (j17 : (List Claim)) => some (j17, x16.2)))))
theorem spec_l21List_run (aS : l01Source) (r : (List Claim) × l01Source) (h : spec_l21List aS = some r) : SCall Tryz.prog 32 [.o (.box [vl (eI .u8) aS.code, vi aS.at', vi aS.seed])] ⟨[.own 42 7 r.1.length (r.1.map eClaim)], [(0, .box (tc el01Source r.2))], false⟩ := by
  refine scall_in Tryz.func32 rfl [(.tmp 2)] rfl (fun r => ⟨[.own 42 7 r.1.length (r.1.map eClaim)], [(0, .box (tc el01Source r.2))], false⟩) (r := r) ?_
  unfold spec_l21List at h
  refine srk tbokGB ⟨69, [(0, .ref 1000000 0)], [(1000000, .box (tc el01Source aS))]⟩ ?_
  refine srk tbokGB ⟨69, [(0, .ref 1000000 0), (3, .own 9)], [(9, oa 42 7 eClaim ([] : List Claim)), (1000000, .box (tc el01Source aS))]⟩ ?_
  refine swp_seq ?_
  refine sr ?_
  refine SRun.ck tbokGB 1 ⟨69, [(0, .ref 1000000 0), (3, .own 9), (10, .ref 1000000 0)], [(9, oa 42 7 eClaim ([] : List Claim)), (1000000, .box (tc el01Source aS))]⟩ ?_
  obtain ⟨x1, hx1, h⟩ := bind_some h
  refine SRun.estep (xe ents62 (spec_l01Next_run aS 3 _ hx1)) ?_
  refine ckn tbokGB 1 ⟨69, [(0, .ref 1000000 0), (3, .own 9), (12, vb (x1.1 == 0))], [(9, oa 42 7 eClaim ([] : List Claim)), (1000000, .box (tc el01Source x1.2))]⟩ ?_
  refine swp_seqJ h (fun j2 => ⟨69, [(0, .ref 1000000 0), (3, .own 3)], [(3, oa 42 7 eClaim j2.1), (1000000, .box (tc el01Source j2.2))]⟩) (fun v3 h => ?_) (fun j2 h => ?_)
  refine swp_cd h (fun h => ?_) fun h => ?_
  refine srk tbokGB ⟨69, [(0, .ref 1000000 0), (3, .own 9), (4, .own 13)], [(9, oa 42 7 eClaim ([] : List Claim)), (13, oa 9 1 eS ([(ByteArray.mk #[97, 115, 104]), (ByteArray.mk #[98, 114, 105, 103]), (ByteArray.mk #[99, 111, 114, 107]), (ByteArray.mk #[97, 115, 104])] : List ByteArray)), (1000000, .box (tc el01Source x1.2))]⟩ ?_
  refine srk tbokGB ⟨69, [(0, .ref 1000000 0), (3, .own 9), (4, .own 13), (5, vi 0)], [(9, oa 42 7 eClaim ([] : List Claim)), (13, oa 9 1 eS ([(ByteArray.mk #[97, 115, 104]), (ByteArray.mk #[98, 114, 105, 103]), (ByteArray.mk #[99, 111, 114, 107]), (ByteArray.mk #[97, 115, 104])] : List ByteArray)), (1000000, .box (tc el01Source x1.2))]⟩ ?_
  refine swp_blk (a := v3) ?_
  refine swp_lpL (r := v3) (s := (0, ([] : List Claim), x1.2)) _ (fun s4 => ⟨69, [(0, .ref 1000000 0), (3, .own 3), (4, .own 4), (5, vi s4.1)], [(3, oa 42 7 eClaim s4.2.1), (4, oa 9 1 eS ([(ByteArray.mk #[97, 115, 104]), (ByteArray.mk #[98, 114, 105, 103]), (ByteArray.mk #[99, 111, 114, 107]), (ByteArray.mk #[97, 115, 104])] : List ByteArray)), (1000000, .box (tc el01Source s4.2.2))]⟩) _ (Le.rr [9, 13, 1000000] [(9, 3), (13, 4)]) h (fun s4 v5 h => ?_)
  refine swp_seq ?_
  refine srk tbokGB ⟨69, [(0, .ref 1000000 0), (3, .own 3), (4, .own 4), (5, vi s4.1), (15, vb (decide (s4.1 < 3)))], [(3, oa 42 7 eClaim s4.2.1), (4, oa 9 1 eS ([(ByteArray.mk #[97, 115, 104]), (ByteArray.mk #[98, 114, 105, 103]), (ByteArray.mk #[99, 111, 114, 107]), (ByteArray.mk #[97, 115, 104])] : List ByteArray)), (1000000, .box (tc el01Source s4.2.2))]⟩ ?_
  refine swp_cd h (fun h => ?_) fun h => ?_
  refine swp_skip ?_
  refine nx_n ?_
  refine swp_seq ?_
  refine swp_seqJ h (fun j6 => ⟨69, [(0, .ref 1000000 0), (3, .own 3), (4, .own 4), (5, vi s4.1)], [(3, oa 42 7 eClaim j6.1), (4, oa 9 1 eS ([(ByteArray.mk #[97, 115, 104]), (ByteArray.mk #[98, 114, 105, 103]), (ByteArray.mk #[99, 111, 114, 107]), (ByteArray.mk #[97, 115, 104])] : List ByteArray)), (1000000, .box (tc el01Source j6.2))]⟩) (fun v7 h => ?_) (fun j6 h => ?_)
  refine swp_blk (a := v7) ?_
  refine swp_seq ?_
  refine swp_drD [1000000] mixed ?_
  refine DGo.ck tbokGB false 2 ⟨69, [(0, .ref 1000000 0), (3, .own 3), (4, .own 4), (5, vi s4.1), (18, .own 18), (19, vi s4.1)], [(3, oa 42 7 eClaim s4.2.1), (4, oa 9 1 eS ([(ByteArray.mk #[97, 115, 104]), (ByteArray.mk #[98, 114, 105, 103]), (ByteArray.mk #[99, 111, 114, 107]), (ByteArray.mk #[97, 115, 104])] : List ByteArray)), (18, oa 9 1 eS ([(ByteArray.mk #[97, 116, 108, 97, 115]), (ByteArray.mk #[99, 104, 97, 114, 116, 101, 114]), (ByteArray.mk #[114, 111, 108, 108])] : List ByteArray)), (1000000, .box (tc el01Source s4.2.2))]⟩ ?_
  obtain ⟨x8, hx8, h⟩ := bind_some h
  refine DGo.stepW false [18] (x_index_own (d := 18) (L := ([(ByteArray.mk #[97, 116, 108, 97, 115]), (ByteArray.mk #[99, 104, 97, 114, 116, 101, 114]), (ByteArray.mk #[114, 111, 108, 108])] : List ByteArray)) (f := eS) (ti := ti52) (tj := ti9) (e := 9) (e' := 9) (m := 1) (k := .i64) tbokGB rfl hx8) ?_
  refine DGo.stepW false [18] (x_load_own (d := 18) (m := 1) (j := 0) (L := ([(ByteArray.mk #[97, 116, 108, 97, 115]), (ByteArray.mk #[99, 104, 97, 114, 116, 101, 114]), (ByteArray.mk #[114, 111, 108, 108])] : List ByteArray)) (f := eS) (ti := ti9) (e := 9) (v := vs x8) tbokGB rfl hx8) ?_
  refine DGo.ck tbokGB false 2 ⟨69, [(0, .ref 1000000 0), (3, .own 3), (4, .own 4), (5, vi s4.1), (21, vs x8), (22, .own 4), (23, vi s4.1)], [(3, oa 42 7 eClaim s4.2.1), (4, oa 9 1 eS ([(ByteArray.mk #[97, 115, 104]), (ByteArray.mk #[98, 114, 105, 103]), (ByteArray.mk #[99, 111, 114, 107]), (ByteArray.mk #[97, 115, 104])] : List ByteArray)), (1000000, .box (tc el01Source s4.2.2))]⟩ ?_
  obtain ⟨x9, hx9, h⟩ := bind_some h
  refine DGo.step (x_index_own (d := 4) (L := ([(ByteArray.mk #[97, 115, 104]), (ByteArray.mk #[98, 114, 105, 103]), (ByteArray.mk #[99, 111, 114, 107]), (ByteArray.mk #[97, 115, 104])] : List ByteArray)) (f := eS) (ti := ti52) (tj := ti9) (e := 9) (e' := 9) (m := 1) (k := .i64) tbokGB rfl hx9) ?_
  refine DGo.step (x_load_own (d := 4) (m := 1) (j := 0) (L := ([(ByteArray.mk #[97, 115, 104]), (ByteArray.mk #[98, 114, 105, 103]), (ByteArray.mk #[99, 111, 114, 107]), (ByteArray.mk #[97, 115, 104])] : List ByteArray)) (f := eS) (ti := ti9) (e := 9) (v := vs x9) tbokGB rfl hx9) ?_
  refine DGo.ck tbokGB false 3 ⟨69, [(0, .ref 1000000 0), (3, .own 3), (4, .own 4), (5, vi s4.1), (21, vs x8), (25, vs x9), (26, .own 4), (28, vi (w64 (s4.1 + 1)))], [(3, oa 42 7 eClaim s4.2.1), (4, oa 9 1 eS ([(ByteArray.mk #[97, 115, 104]), (ByteArray.mk #[98, 114, 105, 103]), (ByteArray.mk #[99, 111, 114, 107]), (ByteArray.mk #[97, 115, 104])] : List ByteArray)), (1000000, .box (tc el01Source s4.2.2))]⟩ ?_
  obtain ⟨x10, hx10, h⟩ := bind_some h
  refine DGo.step (x_index_own (d := 4) (L := ([(ByteArray.mk #[97, 115, 104]), (ByteArray.mk #[98, 114, 105, 103]), (ByteArray.mk #[99, 111, 114, 107]), (ByteArray.mk #[97, 115, 104])] : List ByteArray)) (f := eS) (ti := ti52) (tj := ti9) (e := 9) (e' := 9) (m := 1) (k := .i64) tbokGB rfl hx10) ?_
  refine DGo.step (x_load_own (d := 4) (m := 1) (j := 0) (L := ([(ByteArray.mk #[97, 115, 104]), (ByteArray.mk #[98, 114, 105, 103]), (ByteArray.mk #[99, 111, 114, 107]), (ByteArray.mk #[97, 115, 104])] : List ByteArray)) (f := eS) (ti := ti9) (e := 9) (v := vs x10) tbokGB rfl hx10) ?_
  refine DGo.ck tbokGB false 1 ⟨69, [(0, .ref 1000000 0), (3, .own 3), (4, .own 4), (5, vi s4.1), (21, vs x8), (25, vs x9), (30, vs x10), (31, .ref 1000000 0)], [(3, oa 42 7 eClaim s4.2.1), (4, oa 9 1 eS ([(ByteArray.mk #[97, 115, 104]), (ByteArray.mk #[98, 114, 105, 103]), (ByteArray.mk #[99, 111, 114, 107]), (ByteArray.mk #[97, 115, 104])] : List ByteArray)), (1000000, .box (tc el01Source s4.2.2))]⟩ ?_
  obtain ⟨x11, hx11, h⟩ := bind_some h
  refine DGo.write [] (xw ents62 (spec_l01Next_run s4.2.2 20 _ hx11)) ?_
  refine DGo.ck tbokGB false 2 ⟨69, [(0, .ref 1000000 0), (3, .own 3), (4, .own 4), (5, vi s4.1), (21, vs x8), (25, vs x9), (30, vs x10), (33, vi (w64 (1200 + x11.1))), (34, .ref 1000000 0)], [(3, oa 42 7 eClaim s4.2.1), (4, oa 9 1 eS ([(ByteArray.mk #[97, 115, 104]), (ByteArray.mk #[98, 114, 105, 103]), (ByteArray.mk #[99, 111, 114, 107]), (ByteArray.mk #[97, 115, 104])] : List ByteArray)), (1000000, .box (tc el01Source x11.2))]⟩ ?_
  obtain ⟨x12, hx12, h⟩ := bind_some h
  refine DGo.write [] (xw ents62 (spec_l01Next_run x11.2 30 _ hx12)) ?_
  refine DGo.ck tbokGB false 1 ⟨69, [(0, .ref 1000000 0), (3, .own 3), (4, .own 4), (5, vi s4.1), (21, vs x8), (25, vs x9), (30, vs x10), (33, vi (w64 (1200 + x11.1))), (36, vi (w64 (1215 + x12.1)))], [(3, oa 42 7 eClaim s4.2.1), (4, oa 9 1 eS ([(ByteArray.mk #[97, 115, 104]), (ByteArray.mk #[98, 114, 105, 103]), (ByteArray.mk #[99, 111, 114, 107]), (ByteArray.mk #[97, 115, 104])] : List ByteArray)), (1000000, .box (tc el01Source x12.2))]⟩ ?_
  refine DGo.step (x_lstep_build (v := .agg [vi (w64 (1200 + x11.1)), vi (w64 (1215 + x12.1))]) tbokGB rfl) ?_
  refine DGo.ck tbokGB false 1 ⟨69, [(0, .ref 1000000 0), (3, .own 3), (4, .own 4), (5, vi s4.1), (21, vs x8), (25, vs x9), (30, vs x10), (37, .agg [vi (w64 (1200 + x11.1)), vi (w64 (1215 + x12.1))]), (38, .ref 1000000 0)], [(3, oa 42 7 eClaim s4.2.1), (4, oa 9 1 eS ([(ByteArray.mk #[97, 115, 104]), (ByteArray.mk #[98, 114, 105, 103]), (ByteArray.mk #[99, 111, 114, 107]), (ByteArray.mk #[97, 115, 104])] : List ByteArray)), (1000000, .box (tc el01Source x12.2))]⟩ ?_
  obtain ⟨x13, hx13, h⟩ := bind_some h
  refine DGo.write [] (xw ents62 (spec_l01Next_run x12.2 9 _ hx13)) ?_
  refine DGo.ck tbokGB false 1 ⟨69, [(0, .ref 1000000 0), (3, .own 3), (4, .own 4), (5, vi s4.1), (21, vs x8), (25, vs x9), (30, vs x10), (37, .agg [vi (w64 (1200 + x11.1)), vi (w64 (1215 + x12.1))]), (40, vi (w64 (1 + x13.1)))], [(3, oa 42 7 eClaim s4.2.1), (4, oa 9 1 eS ([(ByteArray.mk #[97, 115, 104]), (ByteArray.mk #[98, 114, 105, 103]), (ByteArray.mk #[99, 111, 114, 107]), (ByteArray.mk #[97, 115, 104])] : List ByteArray)), (1000000, .box (tc el01Source x13.2))]⟩ ?_
  refine DGo.step (x_lstep_build (v := .agg [vs x8, vi 1, vs x9, vs x10, vi (w64 (1200 + x11.1)), vi (w64 (1215 + x12.1)), vi (w64 (1 + x13.1))]) tbokGB rfl) ?_
  refine DGo.ck tbokGB false 1 ⟨69, [(0, .ref 1000000 0), (3, .own 3), (4, .own 4), (5, vi s4.1), (6, .ref 6 0), (41, .agg [vs x8, vi 1, vs x9, vs x10, vi (w64 (1200 + x11.1)), vi (w64 (1215 + x12.1)), vi (w64 (1 + x13.1))])], [(3, oa 42 7 eClaim s4.2.1), (4, oa 9 1 eS ([(ByteArray.mk #[97, 115, 104]), (ByteArray.mk #[98, 114, 105, 103]), (ByteArray.mk #[99, 111, 114, 107]), (ByteArray.mk #[97, 115, 104])] : List ByteArray)), (6, .box [vs (ByteArray.mk #[]), vi 0, vs (ByteArray.mk #[]), vs (ByteArray.mk #[]), vi 0, vi 0, vi 0]), (1000000, .box (tc el01Source x13.2))]⟩ ?_
  refine DGo.seq (by kernel_rfl) (by kernel_rfl) ?_
  refine ckn tbokGB 1 ⟨69, [(0, .ref 1000000 0), (3, .own 3), (4, .own 4), (5, vi s4.1), (6, .ref 6 0)], [(3, oa 42 7 eClaim s4.2.1), (4, oa 9 1 eS ([(ByteArray.mk #[97, 115, 104]), (ByteArray.mk #[98, 114, 105, 103]), (ByteArray.mk #[99, 111, 114, 107]), (ByteArray.mk #[97, 115, 104])] : List ByteArray)), (6, .box [vs x8, vi 1, vs x9, vs x10, vi (w64 (1200 + x11.1)), vi (w64 (1215 + x12.1)), vi (w64 (1 + x13.1))]), (1000000, .box (tc el01Source x13.2))]⟩ ?_
  refine sr ?_
  refine SRun.ck tbokGB 1 ⟨69, [(0, .ref 1000000 0), (3, .own 3), (4, .own 4), (5, vi s4.1), (6, .ref 6 0), (42, .agg [vs x8, vi 1, vs x9, vs x10, vi (w64 (1200 + x11.1)), vi (w64 (1215 + x12.1)), vi (w64 (1 + x13.1))])], [(3, oa 42 7 eClaim s4.2.1), (4, oa 9 1 eS ([(ByteArray.mk #[97, 115, 104]), (ByteArray.mk #[98, 114, 105, 103]), (ByteArray.mk #[99, 111, 114, 107]), (ByteArray.mk #[97, 115, 104])] : List ByteArray)), (6, .box [vs x8, vi 1, vs x9, vs x10, vi (w64 (1200 + x11.1)), vi (w64 (1215 + x12.1)), vi (w64 (1 + x13.1))]), (1000000, .box (tc el01Source x13.2))]⟩ ?_
  obtain ⟨x14, hx14, h⟩ := bind_some h
  refine SRun.ls (xc ents63 (spec_IsClaim_run (Claim.mk x8 1 x9 x10 (Span.mk (w64 (1200 + x11.1)) (w64 (1215 + x12.1))) (w64 (1 + x13.1))) _ hx14)) ?_
  refine SRun.nx ?_
  refine swp_cd h (fun h => ?_) fun h => ?_
  refine swp_reg ?_
  refine SRun.ck tbokGB 3 ⟨69, [(0, .ref 1000000 0), (4, .own 4), (5, vi s4.1), (44, .own 3), (46, .own 46)], [(3, oa 42 7 eClaim s4.2.1), (4, oa 9 1 eS ([(ByteArray.mk #[97, 115, 104]), (ByteArray.mk #[98, 114, 105, 103]), (ByteArray.mk #[99, 111, 114, 107]), (ByteArray.mk #[97, 115, 104])] : List ByteArray)), (46, oa 42 7 eClaim ([(Claim.mk x8 1 x9 x10 (Span.mk (w64 (1200 + x11.1)) (w64 (1215 + x12.1))) (w64 (1 + x13.1)))] : List Claim)), (1000000, .box (tc el01Source x13.2))]⟩ ?_
  obtain ⟨x15, hx15, h⟩ := bind_some h
  refine SRun.estep (x_append (f := eClaim) (t := 24) (ti := ti24) (tj := ti42) (zs := [.string (ByteArray.mk #[]), .int .i64 0, .string (ByteArray.mk #[]), .string (ByteArray.mk #[]), .int .i64 0, .int .i64 0, .int .i64 0]) (e := 42) (m := 7) (d := 3) (xv := .own 46) hx15 tbokGB rfl rfl rfl rfl (x_src_o (e := 42))) ?_
  refine SRun.ck tbokGB 1 ⟨69, [(0, .ref 1000000 0), (3, .own 47), (4, .own 4), (5, vi s4.1)], [(4, oa 9 1 eS ([(ByteArray.mk #[97, 115, 104]), (ByteArray.mk #[98, 114, 105, 103]), (ByteArray.mk #[99, 111, 114, 107]), (ByteArray.mk #[97, 115, 104])] : List ByteArray)), (47, oa 42 7 eClaim x15), (1000000, .box (tc el01Source x13.2))]⟩ ?_
  refine SRun.nil ?_
  obtain rfl := inj h
  exact q_bn (q_j (Le.rr [4, 47, 1000000] [(47, 3)]))
  refine swp_skip ?_
  obtain rfl := inj h
  exact q_bn (q_j (Le.sub0))
  refine swp_reg ?_
  refine SRun.ck tbokGB 3 ⟨69, [(0, .ref 1000000 0), (3, .own 3), (4, .own 4), (5, vi (w64 (s4.1 + 1)))], [(3, oa 42 7 eClaim j6.1), (4, oa 9 1 eS ([(ByteArray.mk #[97, 115, 104]), (ByteArray.mk #[98, 114, 105, 103]), (ByteArray.mk #[99, 111, 114, 107]), (ByteArray.mk #[97, 115, 104])] : List ByteArray)), (1000000, .box (tc el01Source j6.2))]⟩ ?_
  refine SRun.nil ?_
  obtain rfl := inj h
  exact q_l (Le.sub0)
  refine swp_exit ?_
  obtain rfl := inj h
  exact nx_e (q_re (q_bh (q_j (Le.sub0))))
  refine swp_skip ?_
  obtain rfl := inj h
  exact q_j (Le.rr [9, 1000000] [(9, 3)])
  refine sr ?_
  refine SRun.ck tbokGB 1 ⟨69, [(3, .own 3), (48, .ref 1000000 0)], [(3, oa 42 7 eClaim j2.1), (1000000, .box (tc el01Source j2.2))]⟩ ?_
  obtain ⟨x16, hx16, h⟩ := bind_some h
  refine SRun.estep (xe ents64 (spec_l20List_run j2.2 _ hx16)) ?_
  refine ckn tbokGB 1 ⟨69, [(3, .own 3), (7, .own 49)], [(3, oa 42 7 eClaim j2.1), (49, oa 42 7 eClaim x16.1), (1000000, .box (tc el01Source x16.2))]⟩ ?_
  refine swp_seq ?_
  refine srk tbokGB ⟨69, [(3, .own 3), (7, .own 49), (8, vi 0)], [(3, oa 42 7 eClaim j2.1), (49, oa 42 7 eClaim x16.1), (1000000, .box (tc el01Source x16.2))]⟩ ?_
  refine swp_seqJ h (fun j17 => ⟨69, [(3, .own 3)], [(3, oa 42 7 eClaim j17), (1000000, .box (tc el01Source x16.2))]⟩) (fun v18 h => ?_) (fun j17 h => ?_)
  refine swp_blk (a := v18) ?_
  refine swp_lpL (r := v18) (s := (0, j2.1)) _ (fun s19 => ⟨69, [(3, .own 3), (7, .own 7), (8, vi s19.1)], [(3, oa 42 7 eClaim s19.2), (7, oa 42 7 eClaim x16.1), (1000000, .box (tc el01Source x16.2))]⟩) _ (Le.rr [3, 49, 1000000] [(49, 7)]) h (fun s19 v20 h => ?_)
  refine swp_seq ?_
  refine swp_seq ?_
  refine swp_regP ⟨69, [(3, .own 3), (7, .own 7), (8, vi s19.1), (58, vb ((decide (s19.1 < (x16.1.length : Int))) && (decide ((s19.2.length : Int) < 9))))], [(3, oa 42 7 eClaim s19.2), (7, oa 42 7 eClaim x16.1), (1000000, .box (tc el01Source x16.2))]⟩ ?_ ?_
  refine SRun.ck tbokGB 5 ⟨69, [(3, .own 3), (7, .own 7), (8, vi s19.1), (54, vb (decide (s19.1 < (x16.1.length : Int))))], [(3, oa 42 7 eClaim s19.2), (7, oa 42 7 eClaim x16.1), (1000000, .box (tc el01Source x16.2))]⟩ ?_
  generalize (decide (s19.1 < (x16.1.length : Int))) = bb
  cases bb
  refine SRun.ck tbokGB 4 ⟨69, [(3, .own 3), (7, .own 7), (8, vi s19.1), (58, vb false)], [(3, oa 42 7 eClaim s19.2), (7, oa 42 7 eClaim x16.1), (1000000, .box (tc el01Source x16.2))]⟩ ?_
  exact SRun.nil (Le.sub0)
  refine SRun.ck tbokGB 4 ⟨69, [(3, .own 3), (7, .own 7), (8, vi s19.1), (58, vb (decide ((s19.2.length : Int) < 9)))], [(3, oa 42 7 eClaim s19.2), (7, oa 42 7 eClaim x16.1), (1000000, .box (tc el01Source x16.2))]⟩ ?_
  exact SRun.nil (Le.sub0)
  refine swp_cd h (fun h => ?_) fun h => ?_
  refine swp_skip ?_
  refine nx_n ?_
  refine swp_seq ?_
  refine swp_seqJ h (fun j21 => ⟨69, [(3, .own 3), (7, .own 7), (8, vi s19.1)], [(3, oa 42 7 eClaim j21), (7, oa 42 7 eClaim x16.1), (1000000, .box (tc el01Source x16.2))]⟩) (fun v22 h => ?_) (fun j21 h => ?_)
  refine swp_blk (a := v22) ?_
  refine swp_reg ?_
  refine SRun.ck tbokGB 3 ⟨69, [(7, .own 7), (8, vi s19.1), (61, .own 3), (62, .own 7), (63, vi s19.1)], [(3, oa 42 7 eClaim s19.2), (7, oa 42 7 eClaim x16.1), (1000000, .box (tc el01Source x16.2))]⟩ ?_
  obtain ⟨x23, hx23, h⟩ := bind_some h
  refine SRun.ls (x_index_own (d := 7) (L := x16.1) (f := eClaim) (ti := ti24) (tj := ti42) (e := 42) (e' := 42) (m := 7) (k := .i64) tbokGB rfl hx23) ?_
  refine SRun.ls (x_load_own (d := 7) (m := 7) (j := 0) (L := x16.1) (f := eClaim) (ti := ti42) (e := 42) (v := .agg (tc eClaim x23)) tbokGB rfl hx23) ?_
  refine SRun.ck tbokGB 1 ⟨69, [(7, .own 7), (8, vi s19.1), (61, .own 3), (66, .own 66)], [(3, oa 42 7 eClaim s19.2), (7, oa 42 7 eClaim x16.1), (66, oa 42 7 eClaim ([x23] : List Claim)), (1000000, .box (tc el01Source x16.2))]⟩ ?_
  obtain ⟨x24, hx24, h⟩ := bind_some h
  refine SRun.estep (x_append (f := eClaim) (t := 24) (ti := ti24) (tj := ti42) (zs := [.string (ByteArray.mk #[]), .int .i64 0, .string (ByteArray.mk #[]), .string (ByteArray.mk #[]), .int .i64 0, .int .i64 0, .int .i64 0]) (e := 42) (m := 7) (d := 3) (xv := .own 66) hx24 tbokGB rfl rfl rfl rfl (x_src_o (e := 42))) ?_
  refine SRun.ck tbokGB 1 ⟨69, [(3, .own 67), (7, .own 7), (8, vi s19.1)], [(7, oa 42 7 eClaim x16.1), (67, oa 42 7 eClaim x24), (1000000, .box (tc el01Source x16.2))]⟩ ?_
  refine SRun.nil ?_
  obtain rfl := inj h
  exact q_bn (q_j (Le.rr [7, 67, 1000000] [(67, 3)]))
  refine swp_reg ?_
  refine SRun.ck tbokGB 3 ⟨69, [(3, .own 3), (7, .own 7), (8, vi (w64 (s19.1 + 1)))], [(3, oa 42 7 eClaim j21), (7, oa 42 7 eClaim x16.1), (1000000, .box (tc el01Source x16.2))]⟩ ?_
  refine SRun.nil ?_
  obtain rfl := inj h
  exact q_l (Le.sub0)
  refine swp_exit ?_
  obtain rfl := inj h
  exact nx_e (q_re (q_bh (q_j (Le.sub0))))
  refine srk tbokGB ⟨69, [(2, .own 3)], [(3, oa 42 7 eClaim j17), (1000000, .box (tc el01Source x16.2))]⟩ ?_
  refine swp_ret ?_
  obtain rfl := inj h
  exact q_fr (fin_io (f1 (fo eClaim_flat)) (y := .box (tc el01Source x16.2)) (by kernel_rfl) rfl (by kernel_rfl) (by kernel_rfl))
theorem ents32 : Ents Tryz.prog 32 := ents_of Tryz.func32 (by kernel_rfl) rfl
noncomputable def impl_chosen (aList : (List Claim)) (aIndices : (List Int)) : Option ((List Claim)) :=
  (((forS (aIndices.length : Int) (fun (i3 : Int) (s3 : (List Claim)) => ((at' aIndices i3).bind fun x7 => ((at' aList x7).bind fun x8 => ((app' s3 ([x8] : List Claim)).bind fun x9 => some x9)))) (fun (s3 : (List Claim)) => s3) 0 ([] : List Claim))).bind fun (j1 : (List Claim)) => some j1)
noncomputable def spec_l21Year (aS : l01Source) : Option (Int × l01Source) :=
  ((spec_l01Next aS 50).bind fun x1 => ((spec_l01Next x1.2 110).bind fun x2 => ((spec_l01Pick x2.2 ([(w64 (1200 + x1.1)), (w64 (1200 + x2.1)), 1215, 3001, 1220, 1230] : List Int)).bind fun x3 => some (x3.1, x3.2))))
theorem spec_l21Year_run (aS : l01Source) (r : Int × l01Source) (h : spec_l21Year aS = some r) : SCall Tryz.prog 101 [.o (.box [vl (eI .u8) aS.code, vi aS.at', vi aS.seed])] ⟨[.v (vi r.1)], [(0, .box (tc el01Source r.2))], false⟩ := by
  refine scall_in Tryz.func101 rfl [(.tmp 2)] rfl (fun r => ⟨[.v (vi r.1)], [(0, .box (tc el01Source r.2))], false⟩) (r := r) ?_
  unfold spec_l21Year at h
  refine srk tbokGB ⟨12, [(0, .ref 1000000 0)], [(1000000, .box (tc el01Source aS))]⟩ ?_
  refine sr ?_
  refine SRun.ck tbokGB 2 ⟨12, [(0, .ref 1000000 0), (3, .ref 1000000 0), (4, .ref 1000000 0)], [(1000000, .box (tc el01Source aS))]⟩ ?_
  obtain ⟨x1, hx1, h⟩ := bind_some h
  refine SRun.estep (xe ents62 (spec_l01Next_run aS 50 _ hx1)) ?_
  refine SRun.ck tbokGB 2 ⟨12, [(3, .ref 1000000 0), (6, vi (w64 (1200 + x1.1))), (7, .ref 1000000 0)], [(1000000, .box (tc el01Source x1.2))]⟩ ?_
  obtain ⟨x2, hx2, h⟩ := bind_some h
  refine SRun.estep (xe ents62 (spec_l01Next_run x1.2 110 _ hx2)) ?_
  refine SRun.ck tbokGB 2 ⟨12, [(3, .ref 1000000 0), (10, .own 10)], [(10, oa 2 1 (eI .i64) ([(w64 (1200 + x1.1)), (w64 (1200 + x2.1)), 1215, 3001, 1220, 1230] : List Int)), (1000000, .box (tc el01Source x2.2))]⟩ ?_
  refine SRun.le (Le.frz' (d := 10) (e := 2) (m := 1) (n := ([(w64 (1200 + x1.1)), (w64 (1200 + x2.1)), 1215, 3001, 1220, 1230] : List Int).length) (es := ([(w64 (1200 + x1.1)), (w64 (1200 + x2.1)), 1215, 3001, 1220, 1230] : List Int).map (eI .i64)) (by kernel_rfl) (by kernel_rfl)) ?_
  obtain ⟨x3, hx3, h⟩ := bind_some h
  refine SRun.estep (xe ents140 (spec_l01Pick_run x2.2 ([(w64 (1200 + x1.1)), (w64 (1200 + x2.1)), 1215, 3001, 1220, 1230] : List Int) _ hx3)) ?_
  refine ckn tbokGB 1 ⟨12, [(2, vi x3.1)], [(1000000, .box (tc el01Source x3.2))]⟩ ?_
  refine swp_ret ?_
  obtain rfl := inj h
  exact q_fr (fin_io (f1 fv) (y := .box (tc el01Source x3.2)) (by kernel_rfl) rfl (by kernel_rfl) (by kernel_rfl))
theorem ents101 : Ents Tryz.prog 101 := ents_of Tryz.func101 (by kernel_rfl) rfl
noncomputable def spec_DrawCircleIn (aCode : (List Int)) : Option ((List Claim) × ByteArray × Int) :=
  ((spec_l01From aCode).bind fun x1 => ((spec_l21List x1).bind fun x2 => ((spec_l01Next x2.2 5).bind fun x3 => ((at' ([(ByteArray.mk #[97, 115, 104]), (ByteArray.mk #[98, 114, 105, 103]), (ByteArray.mk #[99, 111, 114, 107]), (ByteArray.mk #[100, 101, 118, 97]), (ByteArray.mk #[])] : List ByteArray) x3.1).bind fun x4 => ((spec_l21Year x3.2).bind fun x5 => some (x2.1, x4, x5.1))))))
theorem spec_DrawCircleIn_run (aCode : (List Int)) (r : (List Claim) × ByteArray × Int) (h : spec_DrawCircleIn aCode = some r) : SCall Tryz.prog 53 [.v (vl (eI .u8) aCode)] ⟨[.own 42 7 r.1.length (r.1.map eClaim), .v (vs r.2.1), .v (vi r.2.2)], [], false⟩ := by
  refine scall_in Tryz.func53 rfl [(.tmp 2), (.tmp 3), (.tmp 4)] rfl (fun r => ⟨[.own 42 7 r.1.length (r.1.map eClaim), .v (vs r.2.1), .v (vi r.2.2)], [], false⟩) (r := r) ?_
  unfold spec_DrawCircleIn at h
  refine srk tbokGB ⟨21, [(0, vl (eI .u8) aCode)], []⟩ ?_
  refine sr ?_
  refine SRun.ck tbokGB 1 ⟨21, [(8, vl (eI .u8) aCode)], []⟩ ?_
  obtain ⟨x1, hx1, h⟩ := bind_some h
  refine SRun.ls (xc ents33 (spec_l01From_run aCode _ hx1)) ?_
  refine ckn tbokGB 1 ⟨21, [(5, .ref 9 0)], [(9, .box (tc el01Source x1))]⟩ ?_
  refine sr ?_
  refine SRun.ck tbokGB 1 ⟨21, [(5, .ref 9 0), (10, .ref 9 0)], [(9, .box (tc el01Source x1))]⟩ ?_
  obtain ⟨x2, hx2, h⟩ := bind_some h
  refine SRun.estep (xe ents32 (spec_l21List_run x1 _ hx2)) ?_
  refine ckn tbokGB 1 ⟨21, [(5, .ref 9 0), (6, .own 11)], [(9, .box (tc el01Source x2.2)), (11, oa 42 7 eClaim x2.1)]⟩ ?_
  refine sr ?_
  refine SRun.ck tbokGB 2 ⟨21, [(5, .ref 9 0), (6, .own 11), (12, .own 12), (13, .ref 9 0)], [(9, .box (tc el01Source x2.2)), (11, oa 42 7 eClaim x2.1), (12, oa 9 1 eS ([(ByteArray.mk #[97, 115, 104]), (ByteArray.mk #[98, 114, 105, 103]), (ByteArray.mk #[99, 111, 114, 107]), (ByteArray.mk #[100, 101, 118, 97]), (ByteArray.mk #[])] : List ByteArray))]⟩ ?_
  obtain ⟨x3, hx3, h⟩ := bind_some h
  refine SRun.estep (xe ents62 (spec_l01Next_run x2.2 5 _ hx3)) ?_
  obtain ⟨x4, hx4, h⟩ := bind_some h
  refine SRun.ls (x_index_own (d := 12) (L := ([(ByteArray.mk #[97, 115, 104]), (ByteArray.mk #[98, 114, 105, 103]), (ByteArray.mk #[99, 111, 114, 107]), (ByteArray.mk #[100, 101, 118, 97]), (ByteArray.mk #[])] : List ByteArray)) (f := eS) (ti := ti52) (tj := ti9) (e := 9) (e' := 9) (m := 1) (k := .i64) tbokGB rfl hx4) ?_
  refine SRun.ls (x_load_own (d := 12) (m := 1) (j := 0) (L := ([(ByteArray.mk #[97, 115, 104]), (ByteArray.mk #[98, 114, 105, 103]), (ByteArray.mk #[99, 111, 114, 107]), (ByteArray.mk #[100, 101, 118, 97]), (ByteArray.mk #[])] : List ByteArray)) (f := eS) (ti := ti9) (e := 9) (v := vs x4) tbokGB rfl hx4) ?_
  refine ckn tbokGB 1 ⟨21, [(5, .ref 9 0), (6, .own 11), (7, vs x4)], [(9, .box (tc el01Source x3.2)), (11, oa 42 7 eClaim x2.1)]⟩ ?_
  refine sr ?_
  refine SRun.ck tbokGB 3 ⟨21, [(17, .own 11), (18, vs x4), (19, .ref 9 0)], [(9, .box (tc el01Source x3.2)), (11, oa 42 7 eClaim x2.1)]⟩ ?_
  obtain ⟨x5, hx5, h⟩ := bind_some h
  refine SRun.estep (xe ents101 (spec_l21Year_run x3.2 _ hx5)) ?_
  refine ckn tbokGB 3 ⟨21, [(2, .own 11), (3, vs x4), (4, vi x5.1)], [(11, oa 42 7 eClaim x2.1)]⟩ ?_
  refine swp_ret ?_
  obtain rfl := inj h
  exact q_fr (fin3 (by kernel_rfl) (fo eClaim_flat) fv fv)
theorem ents53 : Ents Tryz.prog 53 := ents_of Tryz.func53 (by kernel_rfl) rfl
noncomputable def spec_DrawBestName (aCode : (List Int)) : Option ((List Claim) × ByteArray × Int) :=
  ((spec_DrawCircleIn aCode).bind fun x1 => some (x1.1, x1.2.1, x1.2.2))
theorem spec_DrawBestName_run (aCode : (List Int)) (r : (List Claim) × ByteArray × Int) (h : spec_DrawBestName aCode = some r) : SCall Tryz.prog 26 [.v (vl (eI .u8) aCode)] ⟨[.own 42 7 r.1.length (r.1.map eClaim), .v (vs r.2.1), .v (vi r.2.2)], [], false⟩ := by
  refine scall_in Tryz.func26 rfl [(.tmp 2), (.tmp 3), (.tmp 4)] rfl (fun r => ⟨[.own 42 7 r.1.length (r.1.map eClaim), .v (vs r.2.1), .v (vi r.2.2)], [], false⟩) (r := r) ?_
  unfold spec_DrawBestName at h
  refine srk tbokGB ⟨10, [(0, vl (eI .u8) aCode)], []⟩ ?_
  refine sr ?_
  refine SRun.ck tbokGB 1 ⟨10, [(5, vl (eI .u8) aCode)], []⟩ ?_
  obtain ⟨x1, hx1, h⟩ := bind_some h
  refine SRun.ls (xc ents53 (spec_DrawCircleIn_run aCode _ hx1)) ?_
  refine ckn tbokGB 6 ⟨10, [(2, .own 6), (3, vs x1.2.1), (4, vi x1.2.2)], [(6, oa 42 7 eClaim x1.1)]⟩ ?_
  refine swp_ret ?_
  obtain rfl := inj h
  exact q_fr (fin3 (by kernel_rfl) (fo eClaim_flat) fv fv)
theorem ents26 : Ents Tryz.prog 26 := ents_of Tryz.func26 (by kernel_rfl) rfl
noncomputable def impl_Claim_tells (aC : Claim) (aF : Fact) : Option (Bool) :=
  (((bif (aC.Kind == aF.Kind) then (bif (aC.Place.toList == aF.Place.toList) then (bif (aC.Value.toList == aF.Value.toList) then ((impl_Span_has aC.Years aF.Year).bind fun x1 => some x1) else some false) else some false) else some false)).bind fun (j2 : Bool) => some j2)
theorem impl_Claim_tells_run (aC : Claim) (aF : Fact) (r : Bool) (h : impl_Claim_tells aC aF = some r) : SCall Tryz.prog 55 [.v (.agg (tc eClaim aC)), .v (.agg (tc eFact aF))] ⟨[.v (vb r)], [], false⟩ := by
  refine scall_in Tryz.func55 rfl [(.tmp 4)] rfl (fun r => ⟨[.v (vb r)], [], false⟩) (r := r) ?_
  unfold impl_Claim_tells at h
  refine srk tbokGB ⟨31, [(2, .ref 2 0), (3, .ref 3 0)], [(2, .box (tc eClaim aC)), (3, .box (tc eFact aF))]⟩ ?_
  refine swp_seq ?_
  refine swp_regJ h (fun j2 => ⟨31, [(4, vb j2)], []⟩) (fun v3 h => ?_) (fun j2 h => ?_)
  refine SRun.ck tbokGB 6 ⟨31, [(2, .ref 2 0), (3, .ref 3 0), (10, vb (aC.Kind == aF.Kind))], [(2, .box (tc eClaim aC)), (3, .box (tc eFact aF))]⟩ ?_
  refine SRun.cu [(10, fun b => b)] h (fun h => ?_) fun h => ?_
  refine SRun.ck tbokGB 7 ⟨31, [(2, .ref 2 0), (3, .ref 3 0), (17, vb (aC.Place.toList == aF.Place.toList))], [(2, .box (tc eClaim aC)), (3, .box (tc eFact aF))]⟩ ?_
  refine SRun.cu [(17, fun b => b)] h (fun h => ?_) fun h => ?_
  refine SRun.ck tbokGB 7 ⟨31, [(2, .ref 2 0), (3, .ref 3 0), (24, vb (aC.Value.toList == aF.Value.toList))], [(2, .box (tc eClaim aC)), (3, .box (tc eFact aF))]⟩ ?_
  refine SRun.cu [(24, fun b => b)] h (fun h => ?_) fun h => ?_
  refine SRun.ck tbokGB 4 ⟨31, [(24, vb true), (26, .agg (tc eSpan aC.Years)), (28, vi aF.Year)], []⟩ ?_
  obtain ⟨x1, hx1, h⟩ := bind_some h
  refine SRun.ls (xc ents104 (impl_Span_has_run aC.Years aF.Year _ hx1)) ?_
  refine SRun.ck tbokGB 2 ⟨31, [(4, vb x1)], []⟩ ?_
  refine SRun.nil ?_
  obtain rfl := inj h
  exact Le.sub0
  refine SRun.ck tbokGB 7 ⟨31, [(4, vb false)], []⟩ ?_
  refine SRun.nil ?_
  obtain rfl := inj h
  exact Le.sub0
  refine SRun.ck tbokGB 14 ⟨31, [(4, vb false)], []⟩ ?_
  refine SRun.nil ?_
  obtain rfl := inj h
  exact Le.sub0
  refine SRun.ck tbokGB 21 ⟨31, [(4, vb false)], []⟩ ?_
  refine SRun.nil ?_
  obtain rfl := inj h
  exact Le.sub0
  refine swp_ret ?_
  obtain rfl := inj h
  exact q_fr (f1 fv)
theorem ents55 : Ents Tryz.prog 55 := ents_of Tryz.func55 (by kernel_rfl) rfl
noncomputable def impl_telling_1 (aC : Claim) (c0 : Fact) : Option (Bool) :=
  ((impl_Claim_tells aC c0).bind fun x1 => some x1)
theorem impl_telling_1_run (aC : Claim) (c0 : Fact) (r : Bool) (h : impl_telling_1 aC c0 = some r) : SCall Tryz.prog 168 [.v (.agg (tc eClaim aC)), .v (.ptr [vi c0.Kind, vs c0.Place, vs c0.Value, vi c0.Year] 0)] ⟨[.v (vb r)], [], false⟩ := by
  refine scall_in Tryz.func168 rfl [(.tmp 3)] rfl (fun r => ⟨[.v (vb r)], [], false⟩) (r := r) ?_
  unfold impl_telling_1 at h
  refine srk tbokGB ⟨7, [(1, .ptr [vi c0.Kind, vs c0.Place, vs c0.Value, vi c0.Year] 0), (2, .ref 2 0)], [(2, .box (tc eClaim aC))]⟩ ?_
  refine sr ?_
  refine SRun.ck tbokGB 2 ⟨7, [(4, .agg (tc eClaim aC)), (5, .agg (tc eFact c0))], []⟩ ?_
  obtain ⟨x1, hx1, h⟩ := bind_some h
  refine SRun.ls (xc ents55 (impl_Claim_tells_run aC c0 _ hx1)) ?_
  refine ckn tbokGB 1 ⟨7, [(3, vb x1)], []⟩ ?_
  refine swp_ret ?_
  obtain rfl := inj h
  exact q_fr (f1 fv)
theorem ents168 : Ents Tryz.prog 168 := ents_of Tryz.func168 (by kernel_rfl) rfl
noncomputable def impl_claimsWhere_impl_telling_1 (aList : (List Claim)) (aIs0 : Fact) : Option ((List Int)) :=
  (((forS (aList.length : Int) (fun (i3 : Int) (s3 : (List Int)) => ((at' aList i3).bind fun x7 => ((impl_telling_1 x7 aIs0).bind fun x8 => (bif x8 then ((app' s3 ([i3] : List Int)).bind fun x9 => some x9) else some s3)))) (fun (s3 : (List Int)) => s3) 0 ([] : List Int))).bind fun (j1 : (List Int)) => some j1)
theorem impl_claimsWhere_impl_telling_1_run (aList : (List Claim)) (aIs0 : Fact) (r : (List Int)) (h : impl_claimsWhere_impl_telling_1 aList aIs0 = some r) : SCall Tryz.prog 167 [.v (vl eClaim aList), .v (.clo 168 [.ptr [vi aIs0.Kind, vs aIs0.Place, vs aIs0.Value, vi aIs0.Year] 0])] ⟨[.own 2 1 r.length (r.map (eI .i64))], [], false⟩ := by
  refine scall_in Tryz.func167 rfl [(.tmp 4)] rfl (fun r => ⟨[.own 2 1 r.length (r.map (eI .i64))], [], false⟩) (r := r) ?_
  unfold impl_claimsWhere_impl_telling_1 at h
  refine srk tbokGB ⟨24, [(0, vl eClaim aList), (1, .clo 168 [.ptr [vi aIs0.Kind, vs aIs0.Place, vs aIs0.Value, vi aIs0.Year] 0])], []⟩ ?_
  refine srk tbokGB ⟨24, [(0, vl eClaim aList), (1, .clo 168 [.ptr [vi aIs0.Kind, vs aIs0.Place, vs aIs0.Value, vi aIs0.Year] 0]), (5, .own 5)], [(5, oa 2 1 (eI .i64) ([] : List Int))]⟩ ?_
  refine swp_seq ?_
  refine srk tbokGB ⟨24, [(1, .clo 168 [.ptr [vi aIs0.Kind, vs aIs0.Place, vs aIs0.Value, vi aIs0.Year] 0]), (5, .own 5), (8, vl eClaim aList), (9, vi (aList.length : Int)), (10, vi 0)], [(5, oa 2 1 (eI .i64) ([] : List Int))]⟩ ?_
  refine swp_seqJ h (fun j1 => ⟨24, [(5, .own 5)], [(5, oa 2 1 (eI .i64) j1)]⟩) (fun v2 h => ?_) (fun j1 h => ?_)
  refine swp_blk (a := v2) ?_
  refine swp_lpL (r := v2) (s := (0, ([] : List Int))) _ (fun s3 => ⟨24, [(1, .clo 168 [.ptr [vi aIs0.Kind, vs aIs0.Place, vs aIs0.Value, vi aIs0.Year] 0]), (5, .own 5), (8, vl eClaim aList), (9, vi (aList.length : Int)), (10, vi s3.1)], [(5, oa 2 1 (eI .i64) s3.2)]⟩) _ (Le.sub0) h (fun s3 v4 h => ?_)
  refine srk tbokGB ⟨24, [(1, .clo 168 [.ptr [vi aIs0.Kind, vs aIs0.Place, vs aIs0.Value, vi aIs0.Year] 0]), (5, .own 5), (8, vl eClaim aList), (9, vi (aList.length : Int)), (10, vi s3.1), (11, vb (decide (s3.1 < (aList.length : Int))))], [(5, oa 2 1 (eI .i64) s3.2)]⟩ ?_
  refine swp_seq ?_
  refine swp_cd h (fun h => ?_) fun h => ?_
  refine swp_skip ?_
  refine nx_n ?_
  refine swp_seq ?_
  refine swp_seqJ h (fun j5 => ⟨24, [(1, .clo 168 [.ptr [vi aIs0.Kind, vs aIs0.Place, vs aIs0.Value, vi aIs0.Year] 0]), (5, .own 5), (8, vl eClaim aList), (9, vi (aList.length : Int)), (10, vi s3.1)], [(5, oa 2 1 (eI .i64) j5)]⟩) (fun v6 h => ?_) (fun j5 h => ?_)
  refine swp_blk (a := v6) ?_
  refine sr ?_
  refine SRun.ck tbokGB 1 ⟨24, [(1, .clo 168 [.ptr [vi aIs0.Kind, vs aIs0.Place, vs aIs0.Value, vi aIs0.Year] 0]), (5, .own 5), (8, vl eClaim aList), (9, vi (aList.length : Int)), (10, vi s3.1), (12, vi s3.1)], [(5, oa 2 1 (eI .i64) s3.2)]⟩ ?_
  obtain ⟨x7, hx7, h⟩ := bind_some h
  refine SRun.ls (x_index (L := aList) (f := eClaim) (ti := ti24) (tj := ti42) (e := 42) (k := .i64) tbokGB rfl hx7) ?_
  refine ckn tbokGB 4 ⟨24, [(1, .clo 168 [.ptr [vi aIs0.Kind, vs aIs0.Place, vs aIs0.Value, vi aIs0.Year] 0]), (5, .own 5), (6, vi s3.1), (7, .ref 7 0), (8, vl eClaim aList), (9, vi (aList.length : Int)), (10, vi s3.1)], [(5, oa 2 1 (eI .i64) s3.2), (7, .box (tc eClaim x7))]⟩ ?_
  refine sr ?_
  refine SRun.ck tbokGB 2 ⟨24, [(1, .clo 168 [.ptr [vi aIs0.Kind, vs aIs0.Place, vs aIs0.Value, vi aIs0.Year] 0]), (5, .own 5), (6, vi s3.1), (8, vl eClaim aList), (9, vi (aList.length : Int)), (10, vi s3.1), (15, .clo 168 [.ptr [vi aIs0.Kind, vs aIs0.Place, vs aIs0.Value, vi aIs0.Year] 0]), (16, .agg (tc eClaim x7))], [(5, oa 2 1 (eI .i64) s3.2)]⟩ ?_
  obtain ⟨x8, hx8, h⟩ := bind_some h
  refine SRun.ls (xc ents168 (impl_telling_1_run x7 aIs0 _ hx8)) ?_
  refine SRun.nx ?_
  refine swp_cd h (fun h => ?_) fun h => ?_
  refine swp_reg ?_
  refine SRun.ck tbokGB 3 ⟨24, [(1, .clo 168 [.ptr [vi aIs0.Kind, vs aIs0.Place, vs aIs0.Value, vi aIs0.Year] 0]), (8, vl eClaim aList), (9, vi (aList.length : Int)), (10, vi s3.1), (18, .own 5), (20, .own 20)], [(5, oa 2 1 (eI .i64) s3.2), (20, oa 2 1 (eI .i64) ([s3.1] : List Int))]⟩ ?_
  obtain ⟨x9, hx9, h⟩ := bind_some h
  refine SRun.estep (x_append (f := (eI .i64)) (t := 26) (ti := ti26) (tj := ti2) (zs := [.int .i64 0]) (e := 2) (m := 1) (d := 5) (xv := .own 20) hx9 tbokGB rfl rfl rfl rfl (x_src_o (e := 2))) ?_
  refine SRun.ck tbokGB 1 ⟨24, [(1, .clo 168 [.ptr [vi aIs0.Kind, vs aIs0.Place, vs aIs0.Value, vi aIs0.Year] 0]), (5, .own 21), (8, vl eClaim aList), (9, vi (aList.length : Int)), (10, vi s3.1)], [(21, oa 2 1 (eI .i64) x9)]⟩ ?_
  refine SRun.nil ?_
  obtain rfl := inj h
  exact q_bn (q_j (Le.rr [21] [(21, 5)]))
  refine swp_skip ?_
  obtain rfl := inj h
  exact q_bn (q_j (Le.sub0))
  refine swp_reg ?_
  refine SRun.ck tbokGB 2 ⟨24, [(1, .clo 168 [.ptr [vi aIs0.Kind, vs aIs0.Place, vs aIs0.Value, vi aIs0.Year] 0]), (5, .own 5), (8, vl eClaim aList), (9, vi (aList.length : Int)), (10, vi (w64 (s3.1 + 1)))], [(5, oa 2 1 (eI .i64) j5)]⟩ ?_
  refine SRun.nil ?_
  obtain rfl := inj h
  exact q_l (Le.sub0)
  refine swp_exit ?_
  obtain rfl := inj h
  exact nx_e (q_re (q_bh (q_j (Le.sub0))))
  refine srk tbokGB ⟨24, [(4, .own 5)], [(5, oa 2 1 (eI .i64) j1)]⟩ ?_
  refine swp_ret ?_
  obtain rfl := inj h
  exact q_fr (f1 (fo (eI_flat .i64)))
theorem ents167 : Ents Tryz.prog 167 := ents_of Tryz.func167 (by kernel_rfl) rfl
noncomputable def impl_telling (aList : (List Claim)) (aF : Fact) : Option ((List Int)) :=
  ((impl_claimsWhere_impl_telling_1 aList aF).bind fun x1 => some x1)
theorem impl_telling_run (aList : (List Claim)) (aF : Fact) (r : (List Int)) (h : impl_telling aList aF = some r) : SCall Tryz.prog 143 [.v (vl eClaim aList), .v (.agg (tc eFact aF))] ⟨[.own 2 1 r.length (r.map (eI .i64))], [], false⟩ := by
  refine scall_in Tryz.func143 rfl [(.tmp 4)] rfl (fun r => ⟨[.own 2 1 r.length (r.map (eI .i64))], [], false⟩) (r := r) ?_
  unfold impl_telling at h
  refine srk tbokGB ⟨8, [(0, vl eClaim aList), (3, .ref 3 0)], [(3, .box (tc eFact aF))]⟩ ?_
  refine sr ?_
  refine SRun.ck tbokGB 2 ⟨8, [(5, vl eClaim aList), (6, .clo 168 [.ref 3 0])], [(3, .box (tc eFact aF))]⟩ ?_
  obtain ⟨x1, hx1, h⟩ := bind_some h
  refine SRun.ls (xc ents167 (impl_claimsWhere_impl_telling_1_run aList aF _ hx1)) ?_
  refine ckn tbokGB 1 ⟨8, [(4, .own 7)], [(7, oa 2 1 (eI .i64) x1)]⟩ ?_
  refine swp_ret ?_
  obtain rfl := inj h
  exact q_fr (f1 (fo (eI_flat .i64)))
theorem ents143 : Ents Tryz.prog 143 := ents_of Tryz.func143 (by kernel_rfl) rfl
noncomputable def impl_isTold (aList : (List Claim)) (aRemoved : (List Int)) (aF : Fact) : Option (Bool) :=
  ((impl_kept aList aRemoved).bind fun x1 => ((impl_telling x1 aF).bind fun x2 => some (decide ((x2.length : Int) > 0))))
theorem impl_isTold_run (aList : (List Claim)) (aRemoved : (List Int)) (aF : Fact) (r : Bool) (h : impl_isTold aList aRemoved aF = some r) : SCall Tryz.prog 107 [.v (vl eClaim aList), .v (vl (eI .i64) aRemoved), .v (.agg (tc eFact aF))] ⟨[.v (vb r)], [], false⟩ := by
  refine scall_in Tryz.func107 rfl [(.tmp 6)] rfl (fun r => ⟨[.v (vb r)], [], false⟩) (r := r) ?_
  unfold impl_isTold at h
  refine srk tbokGB ⟨14, [(0, vl eClaim aList), (1, vl (eI .i64) aRemoved), (5, .ref 5 0)], [(5, .box (tc eFact aF))]⟩ ?_
  refine swp_seq ?_
  refine swp_dr mixed ?_
  refine DGo.ck tbokGB false 2 ⟨14, [(5, .ref 5 0), (7, vl eClaim aList), (8, vl (eI .i64) aRemoved)], [(5, .box (tc eFact aF))]⟩ ?_
  obtain ⟨x1, hx1, h⟩ := bind_some h
  refine DGo.step (xc ents40 (impl_kept_run aList aRemoved _ hx1)) ?_
  refine DGo.ck tbokGB false 1 ⟨14, [(9, .own 9), (10, .agg (tc eFact aF))], [(9, oa 42 7 eClaim x1)]⟩ ?_
  obtain ⟨x2, hx2, h⟩ := bind_some h
  refine DGo.stepW false [9] (xc ents143 (impl_telling_run x1 aF _ hx2)) ?_
  refine DGo.ck tbokGB false 3 ⟨14, [(6, vb (decide ((x2.length : Int) > 0)))], []⟩ ?_
  refine DGo.nx ?_
  refine swp_ret ?_
  obtain rfl := inj h
  exact q_fr (f1 fv)
theorem ents107 : Ents Tryz.prog 107 := ents_of Tryz.func107 (by kernel_rfl) rfl
noncomputable def impl_isPossible_1 (aRemoved : (List Int)) (c0 : (List Claim)) (c1 : Fact) : Option (Bool) :=
  ((impl_isTold c0 aRemoved c1).bind fun x1 => some x1)
theorem impl_isPossible_1_run (aRemoved : (List Int)) (c0 : (List Claim)) (c1 : Fact) (r : Bool) (h : impl_isPossible_1 aRemoved c0 c1 = some r) : SCall Tryz.prog 106 [.v (vl (eI .i64) aRemoved), .v (.ptr [vl eClaim c0] 0), .v (.ptr [vi c1.Kind, vs c1.Place, vs c1.Value, vi c1.Year] 0)] ⟨[.v (vb r)], [], false⟩ := by
  refine scall_in Tryz.func106 rfl [(.tmp 4)] rfl (fun r => ⟨[.v (vb r)], [], false⟩) (r := r) ?_
  unfold impl_isPossible_1 at h
  refine srk tbokGB ⟨9, [(0, vl (eI .i64) aRemoved), (1, .ptr [vl eClaim c0] 0), (2, .ptr [vi c1.Kind, vs c1.Place, vs c1.Value, vi c1.Year] 0)], []⟩ ?_
  refine sr ?_
  refine SRun.ck tbokGB 3 ⟨9, [(5, vl eClaim c0), (6, vl (eI .i64) aRemoved), (7, .agg (tc eFact c1))], []⟩ ?_
  obtain ⟨x1, hx1, h⟩ := bind_some h
  refine SRun.ls (xc ents107 (impl_isTold_run c0 aRemoved c1 _ hx1)) ?_
  refine ckn tbokGB 1 ⟨9, [(4, vb x1)], []⟩ ?_
  refine swp_ret ?_
  obtain rfl := inj h
  exact q_fr (f1 fv)
theorem ents106 : Ents Tryz.prog 106 := ents_of Tryz.func106 (by kernel_rfl) rfl
noncomputable def slices_IndexFunc_int64_impl_isPossible_1 (aS : (List (List Int))) (aF0 : (List Claim)) (aF1 : Fact) : Option (Int) :=
  (((forN (aS.length : Int) (fun (i3 : Int) (_ : Unit) => ((at' aS i3).bind fun x7 => ((impl_isPossible_1 x7 aF0 aF1).bind fun x8 => (bif x8 then some (.inr (.inr i3)) else some (.inl ()))))) (fun (_ : Unit) => .inl ()) 0 ())).bind (Sum.elim (fun (_ : Unit) => some (-1)) some))
theorem slices_IndexFunc_int64_impl_isPossible_1_run (aS : (List (List Int))) (aF0 : (List Claim)) (aF1 : Fact) (r : Int) (h : slices_IndexFunc_int64_impl_isPossible_1 aS aF0 aF1 = some r) : SCall Tryz.prog 142 [.v (vl (eL (eI .i64)) aS), .v (.clo 106 [.ptr [vl eClaim aF0] 0, .ptr [vi aF1.Kind, vs aF1.Place, vs aF1.Value, vi aF1.Year] 0])] ⟨[.v (vi r)], [], false⟩ := by
  refine scall_in Tryz.func142 rfl [(.tmp 4)] rfl (fun r => ⟨[.v (vi r)], [], false⟩) (r := r) ?_
  unfold slices_IndexFunc_int64_impl_isPossible_1 at h
  refine srk tbokGB ⟨19, [(0, vl (eL (eI .i64)) aS), (1, .clo 106 [.ptr [vl eClaim aF0] 0, .ptr [vi aF1.Kind, vs aF1.Place, vs aF1.Value, vi aF1.Year] 0])], []⟩ ?_
  refine swp_seq ?_
  refine srk tbokGB ⟨19, [(0, vl (eL (eI .i64)) aS), (1, .clo 106 [.ptr [vl eClaim aF0] 0, .ptr [vi aF1.Kind, vs aF1.Place, vs aF1.Value, vi aF1.Year] 0]), (7, vi (aS.length : Int)), (8, vi 0)], []⟩ ?_
  refine swp_seqE (r := r) h (fun j1 => ⟨19, [], []⟩) (fun v2 h => ?_) (fun j1 h => ?_)
  refine swp_blk (a := v2) ?_
  refine swp_lpL (r := v2) (s := (0, ())) _ (fun s3 => ⟨19, [(0, vl (eL (eI .i64)) aS), (1, .clo 106 [.ptr [vl eClaim aF0] 0, .ptr [vi aF1.Kind, vs aF1.Place, vs aF1.Value, vi aF1.Year] 0]), (7, vi (aS.length : Int)), (8, vi s3.1)], []⟩) _ (Le.sub0) h (fun s3 v4 h => ?_)
  refine srk tbokGB ⟨19, [(0, vl (eL (eI .i64)) aS), (1, .clo 106 [.ptr [vl eClaim aF0] 0, .ptr [vi aF1.Kind, vs aF1.Place, vs aF1.Value, vi aF1.Year] 0]), (7, vi (aS.length : Int)), (8, vi s3.1), (9, vb (decide (s3.1 < (aS.length : Int))))], []⟩ ?_
  refine swp_seq ?_
  refine swp_cd h (fun h => ?_) fun h => ?_
  refine swp_skip ?_
  refine nx_n ?_
  refine swp_seq ?_
  refine swp_seqL (r := v4) h (fun j5 => ⟨19, [(0, vl (eL (eI .i64)) aS), (1, .clo 106 [.ptr [vl eClaim aF0] 0, .ptr [vi aF1.Kind, vs aF1.Place, vs aF1.Value, vi aF1.Year] 0]), (7, vi (aS.length : Int)), (8, vi s3.1)], []⟩) (fun v6 h => ?_) (fun j5 h => ?_)
  refine swp_blk (a := v6) ?_
  refine srk tbokGB ⟨19, [(0, vl (eL (eI .i64)) aS), (1, .clo 106 [.ptr [vl eClaim aF0] 0, .ptr [vi aF1.Kind, vs aF1.Place, vs aF1.Value, vi aF1.Year] 0]), (5, vi s3.1), (7, vi (aS.length : Int)), (8, vi s3.1)], []⟩ ?_
  refine sr ?_
  refine SRun.ck tbokGB 3 ⟨19, [(0, vl (eL (eI .i64)) aS), (1, .clo 106 [.ptr [vl eClaim aF0] 0, .ptr [vi aF1.Kind, vs aF1.Place, vs aF1.Value, vi aF1.Year] 0]), (5, vi s3.1), (7, vi (aS.length : Int)), (8, vi s3.1), (11, .clo 106 [.ptr [vl eClaim aF0] 0, .ptr [vi aF1.Kind, vs aF1.Place, vs aF1.Value, vi aF1.Year] 0]), (12, vl (eL (eI .i64)) aS), (13, vi s3.1)], []⟩ ?_
  obtain ⟨x7, hx7, h⟩ := bind_some h
  refine SRun.ls (x_index (L := aS) (f := (eL (eI .i64))) (ti := ti35) (tj := ti26) (e := 26) (k := .i64) tbokGB rfl hx7) ?_
  refine SRun.ck tbokGB 1 ⟨19, [(0, vl (eL (eI .i64)) aS), (1, .clo 106 [.ptr [vl eClaim aF0] 0, .ptr [vi aF1.Kind, vs aF1.Place, vs aF1.Value, vi aF1.Year] 0]), (5, vi s3.1), (7, vi (aS.length : Int)), (8, vi s3.1), (11, .clo 106 [.ptr [vl eClaim aF0] 0, .ptr [vi aF1.Kind, vs aF1.Place, vs aF1.Value, vi aF1.Year] 0]), (15, vl (eI .i64) x7)], []⟩ ?_
  obtain ⟨x8, hx8, h⟩ := bind_some h
  refine SRun.ls (xc ents106 (impl_isPossible_1_run x7 aF0 aF1 _ hx8)) ?_
  refine SRun.nx ?_
  refine swp_cd h (fun h => ?_) fun h => ?_
  refine srk tbokGB ⟨19, [(4, vi s3.1)], []⟩ ?_
  refine swp_ret ?_
  obtain rfl := inj h
  exact q_br (q_rr (q_rr (q_br (q_rr (q_fr (f1 fv))))))
  refine swp_skip ?_
  obtain rfl := inj h
  exact q_bn (q_l (Le.sub0))
  refine swp_reg ?_
  refine SRun.ck tbokGB 2 ⟨19, [(0, vl (eL (eI .i64)) aS), (1, .clo 106 [.ptr [vl eClaim aF0] 0, .ptr [vi aF1.Kind, vs aF1.Place, vs aF1.Value, vi aF1.Year] 0]), (7, vi (aS.length : Int)), (8, vi (w64 (s3.1 + 1)))], []⟩ ?_
  refine SRun.nil ?_
  obtain rfl := inj h
  exact q_l (Le.sub0)
  refine swp_exit ?_
  obtain rfl := inj h
  exact nx_e (q_re (q_bh (q_l (Le.sub0))))
  refine srk tbokGB ⟨19, [(4, vi (-1))], []⟩ ?_
  refine swp_ret ?_
  obtain rfl := inj h
  exact q_fr (f1 fv)
theorem ents142 : Ents Tryz.prog 142 := ents_of Tryz.func142 (by kernel_rfl) rfl
noncomputable def slices_ContainsFunc_int64_impl_isPossible_1 (aS : (List (List Int))) (aF0 : (List Claim)) (aF1 : Fact) : Option (Bool) :=
  ((slices_IndexFunc_int64_impl_isPossible_1 aS aF0 aF1).bind fun x1 => some (decide (x1 ≥ 0)))
theorem slices_ContainsFunc_int64_impl_isPossible_1_run (aS : (List (List Int))) (aF0 : (List Claim)) (aF1 : Fact) (r : Bool) (h : slices_ContainsFunc_int64_impl_isPossible_1 aS aF0 aF1 = some r) : SCall Tryz.prog 105 [.v (vl (eL (eI .i64)) aS), .v (.clo 106 [.ptr [vl eClaim aF0] 0, .ptr [vi aF1.Kind, vs aF1.Place, vs aF1.Value, vi aF1.Year] 0])] ⟨[.v (vb r)], [], false⟩ := by
  refine scall_in Tryz.func105 rfl [(.tmp 4)] rfl (fun r => ⟨[.v (vb r)], [], false⟩) (r := r) ?_
  unfold slices_ContainsFunc_int64_impl_isPossible_1 at h
  refine srk tbokGB ⟨9, [(0, vl (eL (eI .i64)) aS), (1, .clo 106 [.ptr [vl eClaim aF0] 0, .ptr [vi aF1.Kind, vs aF1.Place, vs aF1.Value, vi aF1.Year] 0])], []⟩ ?_
  refine sr ?_
  refine SRun.ck tbokGB 2 ⟨9, [(5, vl (eL (eI .i64)) aS), (6, .clo 106 [.ptr [vl eClaim aF0] 0, .ptr [vi aF1.Kind, vs aF1.Place, vs aF1.Value, vi aF1.Year] 0])], []⟩ ?_
  obtain ⟨x1, hx1, h⟩ := bind_some h
  refine SRun.ls (xc ents142 (slices_IndexFunc_int64_impl_isPossible_1_run aS aF0 aF1 _ hx1)) ?_
  refine ckn tbokGB 2 ⟨9, [(4, vb (decide (x1 ≥ 0)))], []⟩ ?_
  refine swp_ret ?_
  obtain rfl := inj h
  exact q_fr (f1 fv)
theorem ents105 : Ents Tryz.prog 105 := ents_of Tryz.func105 (by kernel_rfl) rfl
noncomputable def impl_isPossible (aList : (List Claim)) (aF : Fact) : Option (Bool) :=
  ((impl_minimalRepairs aList).bind fun x1 => ((slices_ContainsFunc_int64_impl_isPossible_1 x1 aList aF).bind fun x2 => some x2))
theorem impl_isPossible_run (aList : (List Claim)) (aF : Fact) (r : Bool) (h : impl_isPossible aList aF = some r) : SCall Tryz.prog 56 [.v (vl eClaim aList), .v (.agg (tc eFact aF))] ⟨[.v (vb r)], [], false⟩ := by
  refine scall_in Tryz.func56 rfl [(.tmp 4)] rfl (fun r => ⟨[.v (vb r)], [], false⟩) (r := r) ?_
  unfold impl_isPossible at h
  refine srk tbokGB ⟨9, [(2, .ref 2 0), (3, .ref 3 0)], [(2, .box [vl eClaim aList]), (3, .box (tc eFact aF))]⟩ ?_
  refine sr ?_
  refine SRun.ck tbokGB 1 ⟨9, [(2, .ref 2 0), (3, .ref 3 0), (5, vl eClaim aList)], [(2, .box [vl eClaim aList]), (3, .box (tc eFact aF))]⟩ ?_
  obtain ⟨x1, hx1, h⟩ := bind_some h
  refine SRun.ls (xc ents69 (impl_minimalRepairs_run aList _ hx1)) ?_
  refine SRun.ck tbokGB 1 ⟨9, [(6, .own 6), (7, .clo 106 [.ref 2 0, .ref 3 0])], [(2, .box [vl eClaim aList]), (3, .box (tc eFact aF)), (6, oa 26 1 (eL (eI .i64)) x1)]⟩ ?_
  obtain ⟨x2, hx2, h⟩ := bind_some h
  refine SRun.ls (xc ents105 (slices_ContainsFunc_int64_impl_isPossible_1_run x1 aList aF _ hx2)) ?_
  refine ckn tbokGB 1 ⟨9, [(4, vb x2)], []⟩ ?_
  refine swp_ret ?_
  obtain rfl := inj h
  exact q_fr (f1 fv)
theorem ents56 : Ents Tryz.prog 56 := ents_of Tryz.func56 (by kernel_rfl) rfl
theorem impl_sorted_run (L r : List ByteArray) (h : impl_sorted L = some r) : CutCall Tryz.prog 57 9 1 (L.map eS) (r.map eS) := sorted_cut Tryz.lays190 rfl Tryz.lays194 rfl 9 L r h
theorem ents57 : Ents Tryz.prog 57 := ents_of Tryz.func57 (by kernel_rfl) rfl
noncomputable def impl_NamesPossible (aList : (List Claim)) (aPlace : ByteArray) (aYear : Int) : Option ((List ByteArray) × Int) :=
  ((impl_aboutCode aList aPlace aYear).bind fun x1 => (bif (x1 != 0) then some (([] : List ByteArray), x1) else (((forS (aList.length : Int) (fun (i4 : Int) (s4 : (List ByteArray)) => ((at' aList i4).bind fun x8 => ((((impl_Claim_tells x8 (Fact.mk 0 aPlace x8.Value aYear)).bind fun x9 => (bif x9 then ((impl_isPossible aList (Fact.mk 0 aPlace x8.Value aYear)).bind fun x10 => some x10) else some false))).bind fun (j11 : Bool) => (bif j11 then ((app' s4 ([x8.Value] : List ByteArray)).bind fun x13 => some x13) else some s4)))) (fun (s4 : (List ByteArray)) => s4) 0 ([] : List ByteArray))).bind fun (j2 : (List ByteArray)) => ((impl_sorted j2).bind fun x14 => some (x14, 0)))))
theorem impl_NamesPossible_run (aList : (List Claim)) (aPlace : ByteArray) (aYear : Int) (r : (List ByteArray) × Int) (h : impl_NamesPossible aList aPlace aYear = some r) : SCall Tryz.prog 27 [.v (vl eClaim aList), .v (vs aPlace), .v (vi aYear)] ⟨[.own 9 1 r.1.length (r.1.map eS), .v (vi r.2)], [], false⟩ := by
  refine scall_in Tryz.func27 rfl [(.tmp 6), (.tmp 7)] rfl (fun r => ⟨[.own 9 1 r.1.length (r.1.map eS), .v (vi r.2)], [], false⟩) (r := r) ?_
  unfold impl_NamesPossible at h
  refine srk tbokGB ⟨47, [(0, vl eClaim aList), (1, vs aPlace), (2, vi aYear)], []⟩ ?_
  refine swp_seq ?_
  refine sr ?_
  refine SRun.ck tbokGB 3 ⟨47, [(0, vl eClaim aList), (1, vs aPlace), (2, vi aYear), (13, vl eClaim aList), (14, vs aPlace), (15, vi aYear)], []⟩ ?_
  obtain ⟨x1, hx1, h⟩ := bind_some h
  refine SRun.ls (xc ents54 (impl_aboutCode_run aList aPlace aYear _ hx1)) ?_
  refine ckn tbokGB 1 ⟨47, [(0, vl eClaim aList), (1, vs aPlace), (2, vi aYear), (8, vi x1)], []⟩ ?_
  refine srk tbokGB ⟨47, [(0, vl eClaim aList), (1, vs aPlace), (2, vi aYear), (8, vi x1), (18, vb (x1 != 0))], []⟩ ?_
  refine swp_cd h (fun h => ?_) fun h => ?_
  refine srk tbokGB ⟨47, [(6, .own 6), (7, vi x1)], [(6, oa 9 1 eS ([] : List ByteArray))]⟩ ?_
  refine swp_ret ?_
  obtain rfl := inj h
  exact nx_r (q_fr (f2 (fo eS_flat) fv))
  refine swp_skip ?_
  refine nx_n ?_
  refine srk tbokGB ⟨47, [(0, vl eClaim aList), (1, vs aPlace), (2, vi aYear), (9, .own 9)], [(9, oa 9 1 eS ([] : List ByteArray))]⟩ ?_
  refine swp_seq ?_
  refine srk tbokGB ⟨47, [(0, vl eClaim aList), (1, vs aPlace), (2, vi aYear), (9, .own 9), (20, vl eClaim aList), (21, vi (aList.length : Int)), (22, vi 0)], [(9, oa 9 1 eS ([] : List ByteArray))]⟩ ?_
  refine swp_seqJ h (fun j2 => ⟨47, [(9, .own 9)], [(9, oa 9 1 eS j2)]⟩) (fun v3 h => ?_) (fun j2 h => ?_)
  refine swp_blk (a := v3) ?_
  refine swp_lpL (r := v3) (s := (0, ([] : List ByteArray))) _ (fun s4 => ⟨47, [(0, vl eClaim aList), (1, vs aPlace), (2, vi aYear), (9, .own 9), (20, vl eClaim aList), (21, vi (aList.length : Int)), (22, vi s4.1)], [(9, oa 9 1 eS s4.2)]⟩) _ (Le.sub0) h (fun s4 v5 h => ?_)
  refine srk tbokGB ⟨47, [(0, vl eClaim aList), (1, vs aPlace), (2, vi aYear), (9, .own 9), (20, vl eClaim aList), (21, vi (aList.length : Int)), (22, vi s4.1), (23, vb (decide (s4.1 < (aList.length : Int))))], [(9, oa 9 1 eS s4.2)]⟩ ?_
  refine swp_seq ?_
  refine swp_cd h (fun h => ?_) fun h => ?_
  refine swp_skip ?_
  refine nx_n ?_
  refine swp_seq ?_
  refine swp_seqJ h (fun j6 => ⟨47, [(0, vl eClaim aList), (1, vs aPlace), (2, vi aYear), (9, .own 9), (20, vl eClaim aList), (21, vi (aList.length : Int)), (22, vi s4.1)], [(9, oa 9 1 eS j6)]⟩) (fun v7 h => ?_) (fun j6 h => ?_)
  refine swp_blk (a := v7) ?_
  refine sr ?_
  obtain ⟨x8, hx8, h⟩ := bind_some h
  refine SRun.ls (x_index (L := aList) (f := eClaim) (ti := ti24) (tj := ti42) (e := 42) (k := .i64) tbokGB rfl hx8) ?_
  refine ckn tbokGB 3 ⟨47, [(0, vl eClaim aList), (1, vs aPlace), (2, vi aYear), (9, .own 9), (11, .ref 11 0), (20, vl eClaim aList), (21, vi (aList.length : Int)), (22, vi s4.1)], [(9, oa 9 1 eS s4.2), (11, .box (tc eClaim x8))]⟩ ?_
  refine sr ?_
  refine SRun.ck tbokGB 4 ⟨47, [(0, vl eClaim aList), (1, vs aPlace), (2, vi aYear), (9, .own 9), (11, .ref 11 0), (20, vl eClaim aList), (21, vi (aList.length : Int)), (22, vi s4.1), (26, vs aPlace), (28, vs x8.Value), (29, vi aYear)], [(9, oa 9 1 eS s4.2), (11, .box (tc eClaim x8))]⟩ ?_
  refine SRun.ls (x_lstep_build (v := .agg [vi 0, vs aPlace, vs x8.Value, vi aYear]) tbokGB rfl) ?_
  refine ckn tbokGB 2 ⟨47, [(0, vl eClaim aList), (1, vs aPlace), (2, vi aYear), (9, .own 9), (11, .ref 11 0), (12, .ref 12 0), (20, vl eClaim aList), (21, vi (aList.length : Int)), (22, vi s4.1)], [(9, oa 9 1 eS s4.2), (11, .box (tc eClaim x8)), (12, .box [vi 0, vs aPlace, vs x8.Value, vi aYear])]⟩ ?_
  refine swp_seq ?_
  refine swp_regJ h (fun j11 => ⟨47, [(0, vl eClaim aList), (1, vs aPlace), (2, vi aYear), (9, .own 9), (11, .ref 11 0), (20, vl eClaim aList), (21, vi (aList.length : Int)), (22, vi s4.1), (38, vb j11)], [(9, oa 9 1 eS s4.2), (11, .box (tc eClaim x8))]⟩) (fun v12 h => ?_) (fun j11 h => ?_)
  refine SRun.ck tbokGB 2 ⟨47, [(0, vl eClaim aList), (1, vs aPlace), (2, vi aYear), (9, .own 9), (11, .ref 11 0), (12, .ref 12 0), (20, vl eClaim aList), (21, vi (aList.length : Int)), (22, vi s4.1), (31, .agg (tc eClaim x8)), (32, .agg [vi 0, vs aPlace, vs x8.Value, vi aYear])], [(9, oa 9 1 eS s4.2), (11, .box (tc eClaim x8)), (12, .box [vi 0, vs aPlace, vs x8.Value, vi aYear])]⟩ ?_
  obtain ⟨x9, hx9, h⟩ := bind_some h
  refine SRun.ls (xc ents55 (impl_Claim_tells_run x8 (Fact.mk 0 aPlace x8.Value aYear) _ hx9)) ?_
  refine SRun.ck tbokGB 1 ⟨47, [(0, vl eClaim aList), (1, vs aPlace), (2, vi aYear), (9, .own 9), (11, .ref 11 0), (12, .ref 12 0), (20, vl eClaim aList), (21, vi (aList.length : Int)), (22, vi s4.1), (34, vb x9)], [(9, oa 9 1 eS s4.2), (11, .box (tc eClaim x8)), (12, .box [vi 0, vs aPlace, vs x8.Value, vi aYear])]⟩ ?_
  refine SRun.cu [(34, fun b => b)] h (fun h => ?_) fun h => ?_
  refine SRun.ck tbokGB 2 ⟨47, [(0, vl eClaim aList), (1, vs aPlace), (2, vi aYear), (9, .own 9), (11, .ref 11 0), (20, vl eClaim aList), (21, vi (aList.length : Int)), (22, vi s4.1), (34, vb true), (35, vl eClaim aList), (36, .agg [vi 0, vs aPlace, vs x8.Value, vi aYear])], [(9, oa 9 1 eS s4.2), (11, .box (tc eClaim x8))]⟩ ?_
  obtain ⟨x10, hx10, h⟩ := bind_some h
  refine SRun.ls (xc ents56 (impl_isPossible_run aList (Fact.mk 0 aPlace x8.Value aYear) _ hx10)) ?_
  refine SRun.ck tbokGB 1 ⟨47, [(0, vl eClaim aList), (1, vs aPlace), (2, vi aYear), (9, .own 9), (11, .ref 11 0), (20, vl eClaim aList), (21, vi (aList.length : Int)), (22, vi s4.1), (38, vb x10)], [(9, oa 9 1 eS s4.2), (11, .box (tc eClaim x8))]⟩ ?_
  refine SRun.nil ?_
  obtain rfl := inj h
  exact Le.sub0
  refine SRun.ck tbokGB 4 ⟨47, [(0, vl eClaim aList), (1, vs aPlace), (2, vi aYear), (9, .own 9), (11, .ref 11 0), (20, vl eClaim aList), (21, vi (aList.length : Int)), (22, vi s4.1), (38, vb false)], [(9, oa 9 1 eS s4.2), (11, .box (tc eClaim x8))]⟩ ?_
  refine SRun.nil ?_
  obtain rfl := inj h
  exact Le.sub0
  refine swp_cd h (fun h => ?_) fun h => ?_
  refine swp_reg ?_
  refine SRun.ck tbokGB 4 ⟨47, [(0, vl eClaim aList), (1, vs aPlace), (2, vi aYear), (20, vl eClaim aList), (21, vi (aList.length : Int)), (22, vi s4.1), (39, .own 9), (42, .own 42)], [(9, oa 9 1 eS s4.2), (42, oa 9 1 eS ([x8.Value] : List ByteArray))]⟩ ?_
  obtain ⟨x13, hx13, h⟩ := bind_some h
  refine SRun.estep (x_append (f := eS) (t := 52) (ti := ti52) (tj := ti9) (zs := [.string (ByteArray.mk #[])]) (e := 9) (m := 1) (d := 9) (xv := .own 42) hx13 tbokGB rfl rfl rfl rfl (x_src_o (e := 9))) ?_
  refine SRun.ck tbokGB 1 ⟨47, [(0, vl eClaim aList), (1, vs aPlace), (2, vi aYear), (9, .own 43), (20, vl eClaim aList), (21, vi (aList.length : Int)), (22, vi s4.1)], [(43, oa 9 1 eS x13)]⟩ ?_
  refine SRun.nil ?_
  obtain rfl := inj h
  exact q_bn (q_j (Le.rr [43] [(43, 9)]))
  refine swp_skip ?_
  obtain rfl := inj h
  exact q_bn (q_j (Le.sub0))
  refine swp_reg ?_
  refine SRun.ck tbokGB 2 ⟨47, [(0, vl eClaim aList), (1, vs aPlace), (2, vi aYear), (9, .own 9), (20, vl eClaim aList), (21, vi (aList.length : Int)), (22, vi (w64 (s4.1 + 1)))], [(9, oa 9 1 eS j6)]⟩ ?_
  refine SRun.nil ?_
  obtain rfl := inj h
  exact q_l (Le.sub0)
  refine swp_exit ?_
  obtain rfl := inj h
  exact nx_e (q_re (q_bh (q_j (Le.sub0))))
  refine sr ?_
  refine SRun.ck tbokGB 1 ⟨47, [(45, .own 9)], [(9, oa 9 1 eS j2)]⟩ ?_
  obtain ⟨x14, hx14, h⟩ := bind_some h
  refine SRun.estep (ecut (d := 9) (d0 := 46) (n := j2.length) (n' := x14.length) (es := j2.map eS) ents57 (impl_sorted_run j2 _ hx14) (flat_map eS_flat _) (flat_map eS_flat _) rfl rfl rfl (List.length_map _) (List.length_map _)) ?_
  refine ckn tbokGB 2 ⟨47, [(6, .own 46), (7, vi 0)], [(46, oa 9 1 eS x14)]⟩ ?_
  refine swp_ret ?_
  obtain rfl := inj h
  exact q_fr (f2 (fo eS_flat) fv)
theorem ents27 : Ents Tryz.prog 27 := ents_of Tryz.func27 (by kernel_rfl) rfl
noncomputable def spec_l24Tells (aC : Claim) (aF : Fact) : Option (Bool) :=
  (((bif (aC.Kind == aF.Kind) then (bif (aC.Place.toList == aF.Place.toList) then (bif (aC.Value.toList == aF.Value.toList) then ((spec_l01In aF.Year aC.Years.From aC.Years.To).bind fun x1 => some x1) else some false) else some false) else some false)).bind fun (j2 : Bool) => some j2)
theorem spec_l24Tells_run (aC : Claim) (aF : Fact) (r : Bool) (h : spec_l24Tells aC aF = some r) : SCall Tryz.prog 58 [.v (.agg (tc eClaim aC)), .v (.agg (tc eFact aF))] ⟨[.v (vb r)], [], false⟩ := by
  refine scall_in Tryz.func58 rfl [(.tmp 4)] rfl (fun r => ⟨[.v (vb r)], [], false⟩) (r := r) ?_
  unfold spec_l24Tells at h
  refine srk tbokGB ⟨35, [(2, .ref 2 0), (3, .ref 3 0)], [(2, .box (tc eClaim aC)), (3, .box (tc eFact aF))]⟩ ?_
  refine swp_seq ?_
  refine swp_regJ h (fun j2 => ⟨35, [(4, vb j2)], []⟩) (fun v3 h => ?_) (fun j2 h => ?_)
  refine SRun.ck tbokGB 6 ⟨35, [(2, .ref 2 0), (3, .ref 3 0), (10, vb (aC.Kind == aF.Kind))], [(2, .box (tc eClaim aC)), (3, .box (tc eFact aF))]⟩ ?_
  refine SRun.cu [(10, fun b => b)] h (fun h => ?_) fun h => ?_
  refine SRun.ck tbokGB 7 ⟨35, [(2, .ref 2 0), (3, .ref 3 0), (17, vb (aC.Place.toList == aF.Place.toList))], [(2, .box (tc eClaim aC)), (3, .box (tc eFact aF))]⟩ ?_
  refine SRun.cu [(17, fun b => b)] h (fun h => ?_) fun h => ?_
  refine SRun.ck tbokGB 7 ⟨35, [(2, .ref 2 0), (3, .ref 3 0), (24, vb (aC.Value.toList == aF.Value.toList))], [(2, .box (tc eClaim aC)), (3, .box (tc eFact aF))]⟩ ?_
  refine SRun.cu [(24, fun b => b)] h (fun h => ?_) fun h => ?_
  refine SRun.ck tbokGB 8 ⟨35, [(24, vb true), (26, vi aF.Year), (29, vi aC.Years.From), (32, vi aC.Years.To)], []⟩ ?_
  obtain ⟨x1, hx1, h⟩ := bind_some h
  refine SRun.ls (xc ents110 (spec_l01In_run aF.Year aC.Years.From aC.Years.To _ hx1)) ?_
  refine SRun.ck tbokGB 2 ⟨35, [(4, vb x1)], []⟩ ?_
  refine SRun.nil ?_
  obtain rfl := inj h
  exact Le.sub0
  refine SRun.ck tbokGB 11 ⟨35, [(4, vb false)], []⟩ ?_
  refine SRun.nil ?_
  obtain rfl := inj h
  exact Le.sub0
  refine SRun.ck tbokGB 18 ⟨35, [(4, vb false)], []⟩ ?_
  refine SRun.nil ?_
  obtain rfl := inj h
  exact Le.sub0
  refine SRun.ck tbokGB 25 ⟨35, [(4, vb false)], []⟩ ?_
  refine SRun.nil ?_
  obtain rfl := inj h
  exact Le.sub0
  refine swp_ret ?_
  obtain rfl := inj h
  exact q_fr (f1 fv)
theorem ents58 : Ents Tryz.prog 58 := ents_of Tryz.func58 (by kernel_rfl) rfl
noncomputable def spec_l24Telling (aList : (List Claim)) (aF : Fact) : Option ((List Int)) :=
  (((forS (aList.length : Int) (fun (i3 : Int) (s3 : (List Int)) => ((at' aList i3).bind fun x7 => ((spec_l24Tells x7 aF).bind fun x8 => (bif x8 then ((app' s3 ([i3] : List Int)).bind fun x9 => some x9) else some s3)))) (fun (s3 : (List Int)) => s3) 0 ([] : List Int))).bind fun (j1 : (List Int)) => some j1)
theorem spec_l24Telling_run (aList : (List Claim)) (aF : Fact) (r : (List Int)) (h : spec_l24Telling aList aF = some r) : SCall Tryz.prog 111 [.v (vl eClaim aList), .v (.agg (tc eFact aF))] ⟨[.own 2 1 r.length (r.map (eI .i64))], [], false⟩ := by
  refine scall_in Tryz.func111 rfl [(.tmp 4)] rfl (fun r => ⟨[.own 2 1 r.length (r.map (eI .i64))], [], false⟩) (r := r) ?_
  unfold spec_l24Telling at h
  refine srk tbokGB ⟨25, [(0, vl eClaim aList), (3, .ref 3 0)], [(3, .box (tc eFact aF))]⟩ ?_
  refine srk tbokGB ⟨25, [(0, vl eClaim aList), (3, .ref 3 0), (5, .own 7)], [(3, .box (tc eFact aF)), (7, oa 2 1 (eI .i64) ([] : List Int))]⟩ ?_
  refine swp_seq ?_
  refine srk tbokGB ⟨25, [(0, vl eClaim aList), (3, .ref 3 0), (5, .own 7), (6, vi 0)], [(3, .box (tc eFact aF)), (7, oa 2 1 (eI .i64) ([] : List Int))]⟩ ?_
  refine swp_seqJ h (fun j1 => ⟨25, [(5, .own 5)], [(5, oa 2 1 (eI .i64) j1)]⟩) (fun v2 h => ?_) (fun j1 h => ?_)
  refine swp_blk (a := v2) ?_
  refine swp_lpL (r := v2) (s := (0, ([] : List Int))) _ (fun s3 => ⟨25, [(0, vl eClaim aList), (3, .ref 3 0), (5, .own 5), (6, vi s3.1)], [(3, .box (tc eFact aF)), (5, oa 2 1 (eI .i64) s3.2)]⟩) _ (Le.rr [3, 7] [(7, 5)]) h (fun s3 v4 h => ?_)
  refine swp_seq ?_
  refine srk tbokGB ⟨25, [(0, vl eClaim aList), (3, .ref 3 0), (5, .own 5), (6, vi s3.1), (11, vb (decide (s3.1 < (aList.length : Int))))], [(3, .box (tc eFact aF)), (5, oa 2 1 (eI .i64) s3.2)]⟩ ?_
  refine swp_cd h (fun h => ?_) fun h => ?_
  refine swp_skip ?_
  refine nx_n ?_
  refine swp_seq ?_
  refine swp_seqJ h (fun j5 => ⟨25, [(0, vl eClaim aList), (3, .ref 3 0), (5, .own 5), (6, vi s3.1)], [(3, .box (tc eFact aF)), (5, oa 2 1 (eI .i64) j5)]⟩) (fun v6 h => ?_) (fun j5 h => ?_)
  refine swp_blk (a := v6) ?_
  refine swp_seq ?_
  refine swp_dr mixed ?_
  refine DGo.ck tbokGB false 2 ⟨25, [(0, vl eClaim aList), (3, .ref 3 0), (5, .own 5), (6, vi s3.1), (14, vl eClaim aList), (15, vi s3.1)], [(3, .box (tc eFact aF)), (5, oa 2 1 (eI .i64) s3.2)]⟩ ?_
  obtain ⟨x7, hx7, h⟩ := bind_some h
  refine DGo.step (x_index (L := aList) (f := eClaim) (ti := ti24) (tj := ti42) (e := 42) (k := .i64) tbokGB rfl hx7) ?_
  refine DGo.ck tbokGB false 2 ⟨25, [(0, vl eClaim aList), (3, .ref 3 0), (5, .own 5), (6, vi s3.1), (17, .agg (tc eClaim x7)), (18, .agg (tc eFact aF))], [(3, .box (tc eFact aF)), (5, oa 2 1 (eI .i64) s3.2)]⟩ ?_
  obtain ⟨x8, hx8, h⟩ := bind_some h
  refine DGo.step (xc ents58 (spec_l24Tells_run x7 aF _ hx8)) ?_
  refine DGo.nx ?_
  refine swp_cd h (fun h => ?_) fun h => ?_
  refine swp_reg ?_
  refine SRun.ck tbokGB 3 ⟨25, [(0, vl eClaim aList), (3, .ref 3 0), (6, vi s3.1), (20, .own 5), (22, .own 22)], [(3, .box (tc eFact aF)), (5, oa 2 1 (eI .i64) s3.2), (22, oa 2 1 (eI .i64) ([s3.1] : List Int))]⟩ ?_
  obtain ⟨x9, hx9, h⟩ := bind_some h
  refine SRun.estep (x_append (f := (eI .i64)) (t := 26) (ti := ti26) (tj := ti2) (zs := [.int .i64 0]) (e := 2) (m := 1) (d := 5) (xv := .own 22) hx9 tbokGB rfl rfl rfl rfl (x_src_o (e := 2))) ?_
  refine SRun.ck tbokGB 1 ⟨25, [(0, vl eClaim aList), (3, .ref 3 0), (5, .own 23), (6, vi s3.1)], [(3, .box (tc eFact aF)), (23, oa 2 1 (eI .i64) x9)]⟩ ?_
  refine SRun.nil ?_
  obtain rfl := inj h
  exact q_bn (q_j (Le.rr [3, 23] [(23, 5)]))
  refine swp_skip ?_
  obtain rfl := inj h
  exact q_bn (q_j (Le.sub0))
  refine swp_reg ?_
  refine SRun.ck tbokGB 3 ⟨25, [(0, vl eClaim aList), (3, .ref 3 0), (5, .own 5), (6, vi (w64 (s3.1 + 1)))], [(3, .box (tc eFact aF)), (5, oa 2 1 (eI .i64) j5)]⟩ ?_
  refine SRun.nil ?_
  obtain rfl := inj h
  exact q_l (Le.sub0)
  refine swp_exit ?_
  obtain rfl := inj h
  exact nx_e (q_re (q_bh (q_j (Le.sub0))))
  refine srk tbokGB ⟨25, [(4, .own 5)], [(5, oa 2 1 (eI .i64) j1)]⟩ ?_
  refine swp_ret ?_
  obtain rfl := inj h
  exact q_fr (f1 (fo (eI_flat .i64)))
theorem ents111 : Ents Tryz.prog 111 := ents_of Tryz.func111 (by kernel_rfl) rfl
noncomputable def spec_l24Counts (aList : (List Claim)) (aF : Fact) : Option (Int × Int) :=
  ((spec_l22All aList ([] : List Int)).bind fun x1 => (((forS (x1.length : Int) (fun (i4 : Int) (s4 : Int) => ((at' x1 i4).bind fun x8 => ((spec_l22Rest aList x8).bind fun x9 => ((spec_l21Chosen aList x9).bind fun x10 => ((spec_l24Telling x10 aF).bind fun x11 => (bif (decide ((x11.length : Int) > 0)) then some (w64 (s4 + 1)) else some s4)))))) (fun (s4 : Int) => s4) 0 0)).bind fun (j2 : Int) => some (j2, (x1.length : Int))))
theorem spec_l24Counts_run (aList : (List Claim)) (aF : Fact) (r : Int × Int) (h : spec_l24Counts aList aF = some r) : SCall Tryz.prog 59 [.v (vl eClaim aList), .v (.agg (tc eFact aF))] ⟨[.v (vi r.1), .v (vi r.2)], [], false⟩ := by
  refine scall_in Tryz.func59 rfl [(.tmp 4), (.tmp 5)] rfl (fun r => ⟨[.v (vi r.1), .v (vi r.2)], [], false⟩) (r := r) ?_
  unfold spec_l24Counts at h
  refine srk tbokGB ⟨35, [(0, vl eClaim aList), (3, .ref 3 0)], [(3, .box (tc eFact aF))]⟩ ?_
  refine sr ?_
  refine SRun.ck tbokGB 2 ⟨35, [(0, vl eClaim aList), (3, .ref 3 0), (9, vl eClaim aList), (10, .own 10)], [(3, .box (tc eFact aF)), (10, oa 2 1 (eI .i64) ([] : List Int))]⟩ ?_
  refine SRun.le (Le.frz' (d := 10) (e := 2) (m := 1) (n := ([] : List Int).length) (es := ([] : List Int).map (eI .i64)) (by kernel_rfl) (by kernel_rfl)) ?_
  obtain ⟨x1, hx1, h⟩ := bind_some h
  refine SRun.ls (xc ents75 (spec_l22All_run aList ([] : List Int) _ hx1)) ?_
  refine ckn tbokGB 1 ⟨35, [(0, vl eClaim aList), (3, .ref 3 0), (6, .own 11)], [(3, .box (tc eFact aF)), (11, oa 26 1 (eL (eI .i64)) x1)]⟩ ?_
  refine srk tbokGB ⟨35, [(0, vl eClaim aList), (3, .ref 3 0), (6, .own 11), (7, vi 0)], [(3, .box (tc eFact aF)), (11, oa 26 1 (eL (eI .i64)) x1)]⟩ ?_
  refine swp_seq ?_
  refine srk tbokGB ⟨35, [(0, vl eClaim aList), (3, .ref 3 0), (6, .own 11), (7, vi 0), (8, vi 0)], [(3, .box (tc eFact aF)), (11, oa 26 1 (eL (eI .i64)) x1)]⟩ ?_
  refine swp_seqJ h (fun j2 => ⟨35, [(6, .own 6), (7, vi j2)], [(6, oa 26 1 (eL (eI .i64)) x1)]⟩) (fun v3 h => ?_) (fun j2 h => ?_)
  refine swp_blk (a := v3) ?_
  refine swp_lpL (r := v3) (s := (0, 0)) _ (fun s4 => ⟨35, [(0, vl eClaim aList), (3, .ref 3 0), (6, .own 6), (7, vi s4.2), (8, vi s4.1)], [(3, .box (tc eFact aF)), (6, oa 26 1 (eL (eI .i64)) x1)]⟩) _ (Le.rr [3, 11] [(11, 6)]) h (fun s4 v5 h => ?_)
  refine swp_seq ?_
  refine srk tbokGB ⟨35, [(0, vl eClaim aList), (3, .ref 3 0), (6, .own 6), (7, vi s4.2), (8, vi s4.1), (15, vb (decide (s4.1 < (x1.length : Int))))], [(3, .box (tc eFact aF)), (6, oa 26 1 (eL (eI .i64)) x1)]⟩ ?_
  refine swp_cd h (fun h => ?_) fun h => ?_
  refine swp_skip ?_
  refine nx_n ?_
  refine swp_seq ?_
  refine swp_seqJ h (fun j6 => ⟨35, [(0, vl eClaim aList), (3, .ref 3 0), (6, .own 6), (7, vi j6), (8, vi s4.1)], [(3, .box (tc eFact aF)), (6, oa 26 1 (eL (eI .i64)) x1)]⟩) (fun v7 h => ?_) (fun j6 h => ?_)
  refine swp_blk (a := v7) ?_
  refine swp_seq ?_
  refine swp_dr mixed ?_
  refine DGo.ck tbokGB false 4 ⟨35, [(0, vl eClaim aList), (3, .ref 3 0), (6, .own 6), (7, vi s4.2), (8, vi s4.1), (18, vl eClaim aList), (19, vl eClaim aList), (20, .own 6), (21, vi s4.1)], [(3, .box (tc eFact aF)), (6, oa 26 1 (eL (eI .i64)) x1)]⟩ ?_
  obtain ⟨x8, hx8, h⟩ := bind_some h
  refine DGo.step (x_index_own (d := 6) (L := x1) (f := (eL (eI .i64))) (ti := ti35) (tj := ti26) (e := 26) (e' := 26) (m := 1) (k := .i64) tbokGB rfl hx8) ?_
  refine DGo.step (x_load_own (d := 6) (m := 1) (j := 0) (L := x1) (f := (eL (eI .i64))) (ti := ti26) (e := 26) (v := vl (eI .i64) x8) tbokGB rfl hx8) ?_
  obtain ⟨x9, hx9, h⟩ := bind_some h
  refine DGo.step (xc ents97 (spec_l22Rest_run aList x8 _ hx9)) ?_
  obtain ⟨x10, hx10, h⟩ := bind_some h
  refine DGo.stepW false [24] (xc ents88 (spec_l21Chosen_run aList x9 _ hx10)) ?_
  refine DGo.ck tbokGB false 1 ⟨35, [(0, vl eClaim aList), (3, .ref 3 0), (6, .own 6), (7, vi s4.2), (8, vi s4.1), (25, .own 25), (26, .agg (tc eFact aF))], [(3, .box (tc eFact aF)), (6, oa 26 1 (eL (eI .i64)) x1), (25, oa 42 7 eClaim x10)]⟩ ?_
  obtain ⟨x11, hx11, h⟩ := bind_some h
  refine DGo.stepW false [25] (xc ents111 (spec_l24Telling_run x10 aF _ hx11)) ?_
  refine DGo.ck tbokGB false 2 ⟨35, [(0, vl eClaim aList), (3, .ref 3 0), (6, .own 6), (7, vi s4.2), (8, vi s4.1), (29, vb (decide ((x11.length : Int) > 0)))], [(3, .box (tc eFact aF)), (6, oa 26 1 (eL (eI .i64)) x1)]⟩ ?_
  refine DGo.nx ?_
  refine swp_cd h (fun h => ?_) fun h => ?_
  refine swp_reg ?_
  refine SRun.ck tbokGB 3 ⟨35, [(0, vl eClaim aList), (3, .ref 3 0), (6, .own 6), (7, vi (w64 (s4.2 + 1))), (8, vi s4.1)], [(3, .box (tc eFact aF)), (6, oa 26 1 (eL (eI .i64)) x1)]⟩ ?_
  refine SRun.nil ?_
  obtain rfl := inj h
  exact q_bn (q_j (Le.sub0))
  refine swp_skip ?_
  obtain rfl := inj h
  exact q_bn (q_j (Le.sub0))
  refine swp_reg ?_
  refine SRun.ck tbokGB 3 ⟨35, [(0, vl eClaim aList), (3, .ref 3 0), (6, .own 6), (7, vi j6), (8, vi (w64 (s4.1 + 1)))], [(3, .box (tc eFact aF)), (6, oa 26 1 (eL (eI .i64)) x1)]⟩ ?_
  refine SRun.nil ?_
  obtain rfl := inj h
  exact q_l (Le.sub0)
  refine swp_exit ?_
  obtain rfl := inj h
  exact nx_e (q_re (q_bh (q_j (Le.sub0))))
  refine srk tbokGB ⟨35, [(4, vi j2), (5, vi (x1.length : Int))], []⟩ ?_
  refine swp_ret ?_
  obtain rfl := inj h
  exact q_fr (f2 fv fv)
theorem ents59 : Ents Tryz.prog 59 := ents_of Tryz.func59 (by kernel_rfl) rfl
end Go.Proofs.YtppehghiiahabaaGreatDoor.Sh
