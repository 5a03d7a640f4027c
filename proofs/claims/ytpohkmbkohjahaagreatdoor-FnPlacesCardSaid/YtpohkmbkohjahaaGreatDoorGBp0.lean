/- Typed functions and the calls that do what they say. -/
import Derived.Test.YtpohkmbkohjahaaGreatDoorSE
import Derived.Test.YtpohkmbkohjahaaGreatDoorKA
import Derived.Test.YtpohkmbkohjahaaGreatDoorKC
import Derived.Test.YtpohkmbkohjahaaGreatDoorKJ
import Derived.Test.YtpohkmbkohjahaaGreatDoorKO
import Derived.Test.YtpohkmbkohjahaaGreatDoorKS
import Derived.Test.YtpohkmbkohjahaaGreatDoorSF
import Derived.Test.YtpohkmbkohjahaaGreatDoorSN
import Derived.Test.YtpohkmbkohjahaaGreatDoorSP
import Derived.Test.YtpohkmbkohjahaaGreatDoorH1
import Derived.Test.YtpohkmbkohjahaaGreatDoorGA
namespace Go.Proofs.YtpohkmbkohjahaaGreatDoor.Sh
open Go.RowKit
set_option maxRecDepth 100000
set_option maxHeartbeats 4000000
structure l01Source where
  code : (List Int)
  at' : Int
  seed : Int
def el01Source (x : l01Source) : List Tr := [.sl x.code.length (x.code.map (eI .u8)), .int .i64 x.at', .int .i64 x.seed]
def ti118 : TI := ⟨3, 40, .struct [(0, 46), (1, 3), (2, 2)], [.sl ([] : List Int).length (([] : List Int).map (eI .u8)), .int .i64 0, .int .i64 0]⟩
def ti123 : TI := ⟨1, 24, .slice 2, [.sl ([] : List Int).length (([] : List Int).map (eI .i64))]⟩
def tblGB : Tb := [(2, ti2), (3, ti3), (4, ti4), (5, ti5), (9, ti9), (24, ti24), (38, ti38), (39, ti39), (41, ti41), (46, ti46), (53, ti53), (95, ti95), (118, ti118), (123, ti123)]
theorem tbokGB : TbOk Tryz.prog tblGB := TbOk.cons ⟨by kernel_rfl, show Tryz.prog.underlying 2 = some (.int .i64) from by kernel_rfl⟩ (TbOk.cons ⟨by kernel_rfl, show Tryz.prog.underlying 3 = some (.int .i64) from by kernel_rfl⟩ (TbOk.cons ⟨by kernel_rfl, show Tryz.prog.underlying 4 = some (.bool) from by kernel_rfl⟩ (TbOk.cons ⟨by kernel_rfl, show Tryz.prog.underlying 5 = some (.int .u8) from by kernel_rfl⟩ (TbOk.cons ⟨by kernel_rfl, show Tryz.prog.underlying 9 = some (.string) from by kernel_rfl⟩ (TbOk.cons ⟨by kernel_rfl, show Tryz.prog.underlying 24 = some (.slice 41) from by kernel_rfl⟩ (TbOk.cons ⟨by kernel_rfl, show structOf Tryz.prog 38 = some [(0, 2), (1, 2)] from by kernel_rfl⟩ (TbOk.cons ⟨by kernel_rfl, show Tryz.prog.underlying 39 = some (.slice 95) from by kernel_rfl⟩ (TbOk.cons ⟨by kernel_rfl, show structOf Tryz.prog 41 = some [(0, 9), (1, 2), (2, 38), (4, 39)] from by kernel_rfl⟩ (TbOk.cons ⟨by kernel_rfl, show Tryz.prog.underlying 46 = some (.slice 5) from by kernel_rfl⟩ (TbOk.cons ⟨by kernel_rfl, show Tryz.prog.underlying 53 = some (.slice 9) from by kernel_rfl⟩ (TbOk.cons ⟨by kernel_rfl, show structOf Tryz.prog 95 = some [(0, 9), (1, 9), (2, 2), (3, 38)] from by kernel_rfl⟩ (TbOk.cons ⟨by kernel_rfl, show structOf Tryz.prog 118 = some [(0, 46), (1, 3), (2, 2)] from by kernel_rfl⟩ (TbOk.cons ⟨by kernel_rfl, show Tryz.prog.underlying 123 = some (.slice 2) from by kernel_rfl⟩ (TbOk.nil _))))))))))))))
noncomputable def laws_big (aCode : (List Int)) : Option (Bool) :=
  some (decide ((aCode.length : Int) > 4096))
theorem laws_big_run (aCode : (List Int)) (r : Bool) (h : laws_big aCode = some r) : SCall Tryz.prog 19 [.v (vl (eI .u8) aCode)] ⟨[.v (vb r)], [], false⟩ := by
  refine scall_in Tryz.func19 rfl [(.tmp 2)] rfl (fun r => ⟨[.v (vb r)], [], false⟩) (r := r) ?_
  unfold laws_big at h
  refine srk tbokGB ⟨6, [(0, vl (eI .u8) aCode)], []⟩ ?_
  refine srk tbokGB ⟨6, [(2, vb (decide ((aCode.length : Int) > 4096)))], []⟩ ?_
  refine swp_ret ?_
  obtain rfl := inj h
  exact q_fr (f1 fv)
theorem ents19 : Ents Tryz.prog 19 := ents_of Tryz.func19 (by kernel_rfl) rfl
noncomputable def spec_l01From (aCode : (List Int)) : Option (l01Source) :=
  (((forH (fun (i3 : Int) (_ : l01Source) => ((decide (i3 < (aCode.length : Int))) && (decide (i3 < 64)))) (fun (i3 : Int) (s3 : l01Source) => ((at' aCode i3).bind fun x7 => some (l01Source.mk s3.code s3.at' (Int.tmod (w64 ((w64 (s3.seed * 73)) + (w64 x7))) 2147483647)))) (fun (s3 : l01Source) => s3) 0 (l01Source.mk aCode 0 51031))).bind fun (j1 : l01Source) => some j1)
theorem spec_l01From_run (aCode : (List Int)) (r : l01Source) (h : spec_l01From aCode = some r) : SCall Tryz.prog 57 [.v (vl (eI .u8) aCode)] ⟨[.box [vl (eI .u8) r.code, vi r.at', vi r.seed]], [], true⟩ := by
  refine scall_in Tryz.func57 rfl [(.tmp 2)] rfl (fun r => ⟨[.box [vl (eI .u8) r.code, vi r.at', vi r.seed]], [], true⟩) (r := r) ?_
  unfold spec_l01From at h
  refine sr ?_
  refine SRun.ls (x_lstep_skip rfl) ?_
  refine SRun.nx ?_
  refine sr ?_
  refine SRun.ck tbokGB 1 ⟨34, [(0, vl (eI .u8) aCode), (5, vl (eI .u8) aCode)], []⟩ ?_
  refine SRun.ls (x_lstep_build (v := .agg [vl (eI .u8) aCode, vi 0, vi 51031]) tbokGB rfl) ?_
  refine ckn tbokGB 2 ⟨34, [(0, vl (eI .u8) aCode), (3, .ref 7 0)], [(7, .box [vl (eI .u8) aCode, vi 0, vi 51031])]⟩ ?_
  refine swp_seq ?_
  refine srk tbokGB ⟨34, [(0, vl (eI .u8) aCode), (3, .ref 7 0), (4, vi 0)], [(7, .box [vl (eI .u8) aCode, vi 0, vi 51031])]⟩ ?_
  refine swp_seqJ h (fun j1 => ⟨34, [(3, .ref 7 0)], [(7, .box (tc el01Source j1))]⟩) (fun v2 h => ?_) (fun j1 h => ?_)
  refine swp_blk (a := v2) ?_
  refine swp_lpL (r := v2) (s := (0, (l01Source.mk aCode 0 51031))) _ (fun s3 => ⟨34, [(0, vl (eI .u8) aCode), (3, .ref 7 0), (4, vi s3.1)], [(7, .box (tc el01Source s3.2))]⟩) _ (Le.sub0) h (fun s3 v4 h => ?_)
  refine swp_seq ?_
  refine swp_seq ?_
  refine swp_regP ⟨34, [(0, vl (eI .u8) aCode), (3, .ref 7 0), (4, vi s3.1), (15, vb ((decide (s3.1 < (aCode.length : Int))) && (decide (s3.1 < 64))))], [(7, .box (tc el01Source s3.2))]⟩ ?_ ?_
  refine SRun.ck tbokGB 5 ⟨34, [(0, vl (eI .u8) aCode), (3, .ref 7 0), (4, vi s3.1), (12, vb (decide (s3.1 < (aCode.length : Int))))], [(7, .box (tc el01Source s3.2))]⟩ ?_
  generalize (decide (s3.1 < (aCode.length : Int))) = bb
  cases bb
  refine SRun.ck tbokGB 3 ⟨34, [(0, vl (eI .u8) aCode), (3, .ref 7 0), (4, vi s3.1), (15, vb false)], [(7, .box (tc el01Source s3.2))]⟩ ?_
  exact SRun.nil (Le.sub0)
  refine SRun.ck tbokGB 3 ⟨34, [(0, vl (eI .u8) aCode), (3, .ref 7 0), (4, vi s3.1), (15, vb (decide (s3.1 < 64)))], [(7, .box (tc el01Source s3.2))]⟩ ?_
  exact SRun.nil (Le.sub0)
  refine swp_cd h (fun h => ?_) fun h => ?_
  refine swp_skip ?_
  refine nx_n ?_
  refine swp_seq ?_
  refine swp_seqJ h (fun j5 => ⟨34, [(0, vl (eI .u8) aCode), (3, .ref 7 0), (4, vi s3.1)], [(7, .box (tc el01Source j5))]⟩) (fun v6 h => ?_) (fun j5 h => ?_)
  refine swp_blk (a := v6) ?_
  refine swp_dr mixed ?_
  refine DGo.ck tbokGB false 8 ⟨34, [(0, vl (eI .u8) aCode), (3, .ref 7 0), (4, vi s3.1), (18, .ref 7 0), (23, vi (w64 (s3.2.seed * 73))), (24, vl (eI .u8) aCode), (25, vi s3.1)], [(7, .box (tc el01Source s3.2))]⟩ ?_
  obtain ⟨x7, hx7, h⟩ := bind_some h
  refine DGo.step (x_index (L := aCode) (f := (eI .u8)) (ti := ti46) (tj := ti5) (e := 5) (k := .i64) tbokGB rfl hx7) ?_
  refine DGo.ck tbokGB false 6 ⟨34, [(0, vl (eI .u8) aCode), (3, .ref 7 0), (4, vi s3.1), (30, vi (Int.tmod (w64 ((w64 (s3.2.seed * 73)) + (w64 x7))) 2147483647)), (32, .ref 7 2)], [(7, .box (tc el01Source s3.2))]⟩ ?_
  refine DGo.seq (by kernel_rfl) (by kernel_rfl) ?_
  refine SRun.ck tbokGB 1 ⟨34, [(0, vl (eI .u8) aCode), (3, .ref 7 0), (4, vi s3.1)], [(7, .box [vl (eI .u8) s3.2.code, vi s3.2.at', vi (Int.tmod (w64 ((w64 (s3.2.seed * 73)) + (w64 x7))) 2147483647)])]⟩ ?_
  refine SRun.nil ?_
  obtain rfl := inj h
  exact q_bn (q_j (Le.sub0))
  refine swp_reg ?_
  refine SRun.ck tbokGB 3 ⟨34, [(0, vl (eI .u8) aCode), (3, .ref 7 0), (4, vi (w64 (s3.1 + 1)))], [(7, .box (tc el01Source j5))]⟩ ?_
  refine SRun.nil ?_
  obtain rfl := inj h
  exact q_l (Le.sub0)
  refine swp_exit ?_
  obtain rfl := inj h
  exact nx_e (q_re (q_bh (q_j (Le.sub0))))
  refine srk tbokGB ⟨34, [(2, .ref 7 0)], [(7, .box (tc el01Source j1))]⟩ ?_
  refine swp_ret ?_
  obtain rfl := inj h
  exact q_fr (f1 (finBT (d := 7) (holds_t (by kernel_rfl)) (by kernel_rfl) rfl (by kernel_rfl)))
theorem ents57 : Ents Tryz.prog 57 := ents_of Tryz.func57 (by kernel_rfl) rfl
noncomputable def spec_l01Next (aS : l01Source) (aN : Int) : Option (Int × l01Source) :=
  (bif (decide (aN ≤ 1)) then some (0, aS) else (((bif (decide (aS.at' < (aS.code.length : Int))) then ((at' aS.code aS.at').bind fun x3 => (bif ((decide (aN ≤ 256)) && ((Int.tmod (w64 (aS.at' + 1)) 2) == 0)) then ((at' aS.code (w64 ((w64 (aS.at' + 1)) - 1))).bind fun x4 => some ((w64 x4), (l01Source.mk aS.code (w64 (aS.at' + 1)) (Int.tmod (w64 ((w64 (aS.seed * 48271)) + 29)) 2147483647)))) else some ((w64 ((w64 (Int.tdiv (Int.tmod (w64 ((w64 (aS.seed * 48271)) + 29)) 2147483647) 31)) + (w64 x3))), (l01Source.mk aS.code (w64 (aS.at' + 1)) (Int.tmod (w64 ((w64 (aS.seed * 48271)) + 29)) 2147483647))))) else some ((w64 (Int.tdiv (Int.tmod (w64 ((w64 (aS.seed * 48271)) + 29)) 2147483647) 31)), (l01Source.mk aS.code aS.at' (Int.tmod (w64 ((w64 (aS.seed * 48271)) + 29)) 2147483647))))).bind fun (j1 : Int × l01Source) => ((nz' aN).bind fun _ => some ((Int.tmod j1.1 aN), j1.2))))
theorem spec_l01Next_run (aS : l01Source) (aN : Int) (r : Int × l01Source) (h : spec_l01Next aS aN = some r) : SCall Tryz.prog 61 [.o (.box [vl (eI .u8) aS.code, vi aS.at', vi aS.seed]), .v (vi aN)] ⟨[.v (vi r.1)], [(0, .box (tc el01Source r.2))], false⟩ := by
  refine scall_in Tryz.func61 rfl [(.tmp 4)] rfl (fun r => ⟨[.v (vi r.1)], [(0, .box (tc el01Source r.2))], false⟩) (r := r) ?_
  unfold spec_l01Next at h
  refine srk tbokGB ⟨78, [(0, .ref 1000000 0), (1, vi aN)], [(1000000, .box (tc el01Source aS))]⟩ ?_
  refine swp_seq ?_
  refine srk tbokGB ⟨78, [(0, .ref 1000000 0), (1, vi aN), (7, vb (decide (aN ≤ 1)))], [(1000000, .box (tc el01Source aS))]⟩ ?_
  refine swp_cd h (fun h => ?_) fun h => ?_
  refine srk tbokGB ⟨78, [(4, vi 0)], [(1000000, .box (tc el01Source aS))]⟩ ?_
  refine swp_ret ?_
  obtain rfl := inj h
  exact nx_r (q_fr (fin_io (f1 fv) (y := .box (tc el01Source aS)) (by kernel_rfl) rfl (by kernel_rfl) (by kernel_rfl)))
  refine swp_skip ?_
  refine nx_n ?_
  refine srk tbokGB ⟨78, [(0, .ref 1000000 0), (1, vi aN)], [(1000000, .box [vl (eI .u8) aS.code, vi aS.at', vi (Int.tmod (w64 ((w64 (aS.seed * 48271)) + 29)) 2147483647)])]⟩ ?_
  refine srk tbokGB ⟨78, [(0, .ref 1000000 0), (1, vi aN), (5, vi (w64 (Int.tdiv (Int.tmod (w64 ((w64 (aS.seed * 48271)) + 29)) 2147483647) 31)))], [(1000000, .box [vl (eI .u8) aS.code, vi aS.at', vi (Int.tmod (w64 ((w64 (aS.seed * 48271)) + 29)) 2147483647)])]⟩ ?_
  refine swp_seq ?_
  refine swp_seq ?_
  refine swp_dr mixed ?_
  refine DGo.ck tbokGB false 10 ⟨78, [(0, .ref 1000000 0), (1, vi aN), (5, vi (w64 (Int.tdiv (Int.tmod (w64 ((w64 (aS.seed * 48271)) + 29)) 2147483647) 31))), (32, vb (decide (aS.at' < (aS.code.length : Int))))], [(1000000, .box [vl (eI .u8) aS.code, vi aS.at', vi (Int.tmod (w64 ((w64 (aS.seed * 48271)) + 29)) 2147483647)])]⟩ ?_
  refine DGo.nx ?_
  refine swp_seqJ h (fun j1 => ⟨78, [(1, vi aN), (5, vi j1.1)], [(1000000, .box (tc el01Source j1.2))]⟩) (fun v2 h => ?_) (fun j1 h => ?_)
  refine swp_cd h (fun h => ?_) fun h => ?_
  refine swp_seq ?_
  refine swp_dr mixed ?_
  refine DGo.ck tbokGB false 9 ⟨78, [(0, .ref 1000000 0), (1, vi aN), (33, vi (w64 (Int.tdiv (Int.tmod (w64 ((w64 (aS.seed * 48271)) + 29)) 2147483647) 31))), (37, vl (eI .u8) aS.code), (41, vi aS.at')], [(1000000, .box [vl (eI .u8) aS.code, vi aS.at', vi (Int.tmod (w64 ((w64 (aS.seed * 48271)) + 29)) 2147483647)])]⟩ ?_
  obtain ⟨x3, hx3, h⟩ := bind_some h
  refine DGo.step (x_index (L := aS.code) (f := (eI .u8)) (ti := ti46) (tj := ti5) (e := 5) (k := .i64) tbokGB rfl hx3) ?_
  refine DGo.ck tbokGB false 4 ⟨78, [(0, .ref 1000000 0), (1, vi aN), (5, vi (w64 ((w64 (Int.tdiv (Int.tmod (w64 ((w64 (aS.seed * 48271)) + 29)) 2147483647) 31)) + (w64 x3))))], [(1000000, .box [vl (eI .u8) aS.code, vi aS.at', vi (Int.tmod (w64 ((w64 (aS.seed * 48271)) + 29)) 2147483647)])]⟩ ?_
  refine DGo.nx ?_
  refine srk tbokGB ⟨78, [(0, .ref 1000000 0), (1, vi aN), (5, vi (w64 ((w64 (Int.tdiv (Int.tmod (w64 ((w64 (aS.seed * 48271)) + 29)) 2147483647) 31)) + (w64 x3))))], [(1000000, .box [vl (eI .u8) aS.code, vi (w64 (aS.at' + 1)), vi (Int.tmod (w64 ((w64 (aS.seed * 48271)) + 29)) 2147483647)])]⟩ ?_
  refine swp_seq ?_
  refine swp_regP ⟨78, [(0, .ref 1000000 0), (1, vi aN), (5, vi (w64 ((w64 (Int.tdiv (Int.tmod (w64 ((w64 (aS.seed * 48271)) + 29)) 2147483647) 31)) + (w64 x3)))), (62, vb ((decide (aN ≤ 256)) && ((Int.tmod (w64 (aS.at' + 1)) 2) == 0)))], [(1000000, .box [vl (eI .u8) aS.code, vi (w64 (aS.at' + 1)), vi (Int.tmod (w64 ((w64 (aS.seed * 48271)) + 29)) 2147483647)])]⟩ ?_ ?_
  refine SRun.ck tbokGB 3 ⟨78, [(0, .ref 1000000 0), (1, vi aN), (5, vi (w64 ((w64 (Int.tdiv (Int.tmod (w64 ((w64 (aS.seed * 48271)) + 29)) 2147483647) 31)) + (w64 x3)))), (55, vb (decide (aN ≤ 256)))], [(1000000, .box [vl (eI .u8) aS.code, vi (w64 (aS.at' + 1)), vi (Int.tmod (w64 ((w64 (aS.seed * 48271)) + 29)) 2147483647)])]⟩ ?_
  generalize (decide (aN ≤ 256)) = bb
  cases bb
  refine SRun.ck tbokGB 7 ⟨78, [(0, .ref 1000000 0), (1, vi aN), (5, vi (w64 ((w64 (Int.tdiv (Int.tmod (w64 ((w64 (aS.seed * 48271)) + 29)) 2147483647) 31)) + (w64 x3)))), (62, vb false)], [(1000000, .box [vl (eI .u8) aS.code, vi (w64 (aS.at' + 1)), vi (Int.tmod (w64 ((w64 (aS.seed * 48271)) + 29)) 2147483647)])]⟩ ?_
  exact SRun.nil (Le.sub0)
  refine SRun.ck tbokGB 7 ⟨78, [(0, .ref 1000000 0), (1, vi aN), (5, vi (w64 ((w64 (Int.tdiv (Int.tmod (w64 ((w64 (aS.seed * 48271)) + 29)) 2147483647) 31)) + (w64 x3)))), (62, vb ((Int.tmod (w64 (aS.at' + 1)) 2) == 0))], [(1000000, .box [vl (eI .u8) aS.code, vi (w64 (aS.at' + 1)), vi (Int.tmod (w64 ((w64 (aS.seed * 48271)) + 29)) 2147483647)])]⟩ ?_
  exact SRun.nil (Le.sub0)
  refine swp_cd h (fun h => ?_) fun h => ?_
  refine swp_dr mixed ?_
  refine DGo.ck tbokGB false 9 ⟨78, [(1, vi aN), (66, vl (eI .u8) aS.code), (71, vi (w64 ((w64 (aS.at' + 1)) - 1)))], [(1000000, .box [vl (eI .u8) aS.code, vi (w64 (aS.at' + 1)), vi (Int.tmod (w64 ((w64 (aS.seed * 48271)) + 29)) 2147483647)])]⟩ ?_
  obtain ⟨x4, hx4, h⟩ := bind_some h
  refine DGo.step (x_index (L := aS.code) (f := (eI .u8)) (ti := ti46) (tj := ti5) (e := 5) (k := .i64) tbokGB rfl hx4) ?_
  refine DGo.ck tbokGB false 3 ⟨78, [(1, vi aN), (5, vi (w64 x4))], [(1000000, .box [vl (eI .u8) aS.code, vi (w64 (aS.at' + 1)), vi (Int.tmod (w64 ((w64 (aS.seed * 48271)) + 29)) 2147483647)])]⟩ ?_
  refine DGo.nil (by kernel_rfl) ?_
  obtain rfl := inj h
  exact q_j (Le.sub0)
  refine swp_skip ?_
  obtain rfl := inj h
  exact q_j (Le.sub0)
  refine swp_skip ?_
  obtain rfl := inj h
  exact q_j (Le.sub0)
  refine sr ?_
  refine SRun.ck tbokGB 2 ⟨78, [(75, vi j1.1), (76, vi aN)], [(1000000, .box (tc el01Source j1.2))]⟩ ?_
  obtain ⟨x5, hx5, h⟩ := bind_some h
  refine SRun.ls (x_lstep_quo (k := .i64) (i := j1.1) hx5 true rfl) ?_
  refine ckn tbokGB 1 ⟨78, [(4, vi (Int.tmod j1.1 aN))], [(1000000, .box (tc el01Source j1.2))]⟩ ?_
  refine swp_ret ?_
  obtain rfl := inj h
  exact q_fr (fin_io (f1 fv) (y := .box (tc el01Source j1.2)) (by kernel_rfl) rfl (by kernel_rfl) (by kernel_rfl))
theorem ents61 : Ents Tryz.prog 61 := ents_of Tryz.func61 (by kernel_rfl) rfl
noncomputable def spec_l01Good (aS : l01Source) : Option (ByteArray × l01Source) :=
  ((spec_l01Next aS 3).bind fun x1 => (((loop (fun (s4 : ByteArray × Int × l01Source) => (bif (decide (s4.2.1 > 0)) then ((((spec_l01Next s4.2.2 (([(ByteArray.mk #[97, 115, 104]), (ByteArray.mk #[102, 111, 114, 100]), (ByteArray.mk #[116, 111, 110]), (ByteArray.mk #[98, 121]), (ByteArray.mk #[107, 105, 114, 107]), (ByteArray.mk #[104, 97, 114]), (ByteArray.mk #[119, 105, 99, 107]), (ByteArray.mk #[101, 108, 121]), (ByteArray.mk #[111, 115]), (ByteArray.mk #[108, 111]), (ByteArray.mk #[98, 114, 105, 103]), (ByteArray.mk #[109, 97]), (ByteArray.mk #[114, 105]), (ByteArray.mk #[110, 97]), (ByteArray.mk #[115, 116]), (ByteArray.mk #[97, 101])] : List ByteArray).length : Int)).bind fun x8 => ((at' ([(ByteArray.mk #[97, 115, 104]), (ByteArray.mk #[102, 111, 114, 100]), (ByteArray.mk #[116, 111, 110]), (ByteArray.mk #[98, 121]), (ByteArray.mk #[107, 105, 114, 107]), (ByteArray.mk #[104, 97, 114]), (ByteArray.mk #[119, 105, 99, 107]), (ByteArray.mk #[101, 108, 121]), (ByteArray.mk #[111, 115]), (ByteArray.mk #[108, 111]), (ByteArray.mk #[98, 114, 105, 103]), (ByteArray.mk #[109, 97]), (ByteArray.mk #[114, 105]), (ByteArray.mk #[110, 97]), (ByteArray.mk #[115, 116]), (ByteArray.mk #[97, 101])] : List ByteArray) x8.1).bind fun x9 => ((cat' s4.1 x9).bind fun x10 => some (x10, x8.2))))).bind fun (j6 : ByteArray × l01Source) => some (.inl (j6.1, (w64 (s4.2.1 - 1)), j6.2))) else some (.inr (s4.1, s4.2.2)))) ((ByteArray.mk #[]), (w64 (1 + x1.1)), x1.2))).bind fun (j2 : ByteArray × l01Source) => some (j2.1, j2.2)))
theorem spec_l01Good_run (aS : l01Source) (r : ByteArray × l01Source) (h : spec_l01Good aS = some r) : SCall Tryz.prog 121 [.o (.box [vl (eI .u8) aS.code, vi aS.at', vi aS.seed])] ⟨[.v (vs r.1)], [(0, .box (tc el01Source r.2))], false⟩ := by
  refine scall_in Tryz.func121 rfl [(.tmp 2)] rfl (fun r => ⟨[.v (vs r.1)], [(0, .box (tc el01Source r.2))], false⟩) (r := r) ?_
  unfold spec_l01Good at h
  refine srk tbokGB ⟨24, [(0, .ref 1000000 0)], [(1000000, .box (tc el01Source aS))]⟩ ?_
  refine srk tbokGB ⟨24, [(0, .ref 1000000 0), (3, .own 6)], [(6, oa 9 1 eS ([(ByteArray.mk #[97, 115, 104]), (ByteArray.mk #[102, 111, 114, 100]), (ByteArray.mk #[116, 111, 110]), (ByteArray.mk #[98, 121]), (ByteArray.mk #[107, 105, 114, 107]), (ByteArray.mk #[104, 97, 114]), (ByteArray.mk #[119, 105, 99, 107]), (ByteArray.mk #[101, 108, 121]), (ByteArray.mk #[111, 115]), (ByteArray.mk #[108, 111]), (ByteArray.mk #[98, 114, 105, 103]), (ByteArray.mk #[109, 97]), (ByteArray.mk #[114, 105]), (ByteArray.mk #[110, 97]), (ByteArray.mk #[115, 116]), (ByteArray.mk #[97, 101])] : List ByteArray)), (1000000, .box (tc el01Source aS))]⟩ ?_
  refine srk tbokGB ⟨24, [(0, .ref 1000000 0), (3, .own 6), (4, vs (ByteArray.mk #[]))], [(6, oa 9 1 eS ([(ByteArray.mk #[97, 115, 104]), (ByteArray.mk #[102, 111, 114, 100]), (ByteArray.mk #[116, 111, 110]), (ByteArray.mk #[98, 121]), (ByteArray.mk #[107, 105, 114, 107]), (ByteArray.mk #[104, 97, 114]), (ByteArray.mk #[119, 105, 99, 107]), (ByteArray.mk #[101, 108, 121]), (ByteArray.mk #[111, 115]), (ByteArray.mk #[108, 111]), (ByteArray.mk #[98, 114, 105, 103]), (ByteArray.mk #[109, 97]), (ByteArray.mk #[114, 105]), (ByteArray.mk #[110, 97]), (ByteArray.mk #[115, 116]), (ByteArray.mk #[97, 101])] : List ByteArray)), (1000000, .box (tc el01Source aS))]⟩ ?_
  refine swp_seq ?_
  refine sr ?_
  refine SRun.ck tbokGB 1 ⟨24, [(0, .ref 1000000 0), (3, .own 6), (4, vs (ByteArray.mk #[])), (7, .ref 1000000 0)], [(6, oa 9 1 eS ([(ByteArray.mk #[97, 115, 104]), (ByteArray.mk #[102, 111, 114, 100]), (ByteArray.mk #[116, 111, 110]), (ByteArray.mk #[98, 121]), (ByteArray.mk #[107, 105, 114, 107]), (ByteArray.mk #[104, 97, 114]), (ByteArray.mk #[119, 105, 99, 107]), (ByteArray.mk #[101, 108, 121]), (ByteArray.mk #[111, 115]), (ByteArray.mk #[108, 111]), (ByteArray.mk #[98, 114, 105, 103]), (ByteArray.mk #[109, 97]), (ByteArray.mk #[114, 105]), (ByteArray.mk #[110, 97]), (ByteArray.mk #[115, 116]), (ByteArray.mk #[97, 101])] : List ByteArray)), (1000000, .box (tc el01Source aS))]⟩ ?_
  obtain ⟨x1, hx1, h⟩ := bind_some h
  refine SRun.estep (xe ents61 (spec_l01Next_run aS 3 _ hx1)) ?_
  refine ckn tbokGB 2 ⟨24, [(0, .ref 1000000 0), (3, .own 6), (4, vs (ByteArray.mk #[])), (5, vi (w64 (1 + x1.1)))], [(6, oa 9 1 eS ([(ByteArray.mk #[97, 115, 104]), (ByteArray.mk #[102, 111, 114, 100]), (ByteArray.mk #[116, 111, 110]), (ByteArray.mk #[98, 121]), (ByteArray.mk #[107, 105, 114, 107]), (ByteArray.mk #[104, 97, 114]), (ByteArray.mk #[119, 105, 99, 107]), (ByteArray.mk #[101, 108, 121]), (ByteArray.mk #[111, 115]), (ByteArray.mk #[108, 111]), (ByteArray.mk #[98, 114, 105, 103]), (ByteArray.mk #[109, 97]), (ByteArray.mk #[114, 105]), (ByteArray.mk #[110, 97]), (ByteArray.mk #[115, 116]), (ByteArray.mk #[97, 101])] : List ByteArray)), (1000000, .box (tc el01Source x1.2))]⟩ ?_
  refine swp_seqJ h (fun j2 => ⟨24, [(4, vs j2.1)], [(1000000, .box (tc el01Source j2.2))]⟩) (fun v3 h => ?_) (fun j2 h => ?_)
  refine swp_blk (a := v3) ?_
  refine swp_lpL (r := v3) (s := ((ByteArray.mk #[]), (w64 (1 + x1.1)), x1.2)) _ (fun s4 => ⟨24, [(0, .ref 1000000 0), (3, .own 3), (4, vs s4.1), (5, vi s4.2.1)], [(3, oa 9 1 eS ([(ByteArray.mk #[97, 115, 104]), (ByteArray.mk #[102, 111, 114, 100]), (ByteArray.mk #[116, 111, 110]), (ByteArray.mk #[98, 121]), (ByteArray.mk #[107, 105, 114, 107]), (ByteArray.mk #[104, 97, 114]), (ByteArray.mk #[119, 105, 99, 107]), (ByteArray.mk #[101, 108, 121]), (ByteArray.mk #[111, 115]), (ByteArray.mk #[108, 111]), (ByteArray.mk #[98, 114, 105, 103]), (ByteArray.mk #[109, 97]), (ByteArray.mk #[114, 105]), (ByteArray.mk #[110, 97]), (ByteArray.mk #[115, 116]), (ByteArray.mk #[97, 101])] : List ByteArray)), (1000000, .box (tc el01Source s4.2.2))]⟩) _ (Le.rr [6, 1000000] [(6, 3)]) h (fun s4 v5 h => ?_)
  refine swp_seq ?_
  refine srk tbokGB ⟨24, [(0, .ref 1000000 0), (3, .own 3), (4, vs s4.1), (5, vi s4.2.1), (11, vb (decide (s4.2.1 > 0)))], [(3, oa 9 1 eS ([(ByteArray.mk #[97, 115, 104]), (ByteArray.mk #[102, 111, 114, 100]), (ByteArray.mk #[116, 111, 110]), (ByteArray.mk #[98, 121]), (ByteArray.mk #[107, 105, 114, 107]), (ByteArray.mk #[104, 97, 114]), (ByteArray.mk #[119, 105, 99, 107]), (ByteArray.mk #[101, 108, 121]), (ByteArray.mk #[111, 115]), (ByteArray.mk #[108, 111]), (ByteArray.mk #[98, 114, 105, 103]), (ByteArray.mk #[109, 97]), (ByteArray.mk #[114, 105]), (ByteArray.mk #[110, 97]), (ByteArray.mk #[115, 116]), (ByteArray.mk #[97, 101])] : List ByteArray)), (1000000, .box (tc el01Source s4.2.2))]⟩ ?_
  refine swp_cd h (fun h => ?_) fun h => ?_
  refine swp_skip ?_
  refine nx_n ?_
  refine swp_seq ?_
  refine swp_seqJ h (fun j6 => ⟨24, [(0, .ref 1000000 0), (3, .own 3), (4, vs j6.1), (5, vi s4.2.1)], [(3, oa 9 1 eS ([(ByteArray.mk #[97, 115, 104]), (ByteArray.mk #[102, 111, 114, 100]), (ByteArray.mk #[116, 111, 110]), (ByteArray.mk #[98, 121]), (ByteArray.mk #[107, 105, 114, 107]), (ByteArray.mk #[104, 97, 114]), (ByteArray.mk #[119, 105, 99, 107]), (ByteArray.mk #[101, 108, 121]), (ByteArray.mk #[111, 115]), (ByteArray.mk #[108, 111]), (ByteArray.mk #[98, 114, 105, 103]), (ByteArray.mk #[109, 97]), (ByteArray.mk #[114, 105]), (ByteArray.mk #[110, 97]), (ByteArray.mk #[115, 116]), (ByteArray.mk #[97, 101])] : List ByteArray)), (1000000, .box (tc el01Source j6.2))]⟩) (fun v7 h => ?_) (fun j6 h => ?_)
  refine swp_blk (a := v7) ?_
  refine swp_reg ?_
  refine SRun.ck tbokGB 5 ⟨24, [(0, .ref 1000000 0), (3, .own 3), (5, vi s4.2.1), (14, vs s4.1), (15, .own 3), (16, .ref 1000000 0), (18, vi (([(ByteArray.mk #[97, 115, 104]), (ByteArray.mk #[102, 111, 114, 100]), (ByteArray.mk #[116, 111, 110]), (ByteArray.mk #[98, 121]), (ByteArray.mk #[107, 105, 114, 107]), (ByteArray.mk #[104, 97, 114]), (ByteArray.mk #[119, 105, 99, 107]), (ByteArray.mk #[101, 108, 121]), (ByteArray.mk #[111, 115]), (ByteArray.mk #[108, 111]), (ByteArray.mk #[98, 114, 105, 103]), (ByteArray.mk #[109, 97]), (ByteArray.mk #[114, 105]), (ByteArray.mk #[110, 97]), (ByteArray.mk #[115, 116]), (ByteArray.mk #[97, 101])] : List ByteArray).length : Int))], [(3, oa 9 1 eS ([(ByteArray.mk #[97, 115, 104]), (ByteArray.mk #[102, 111, 114, 100]), (ByteArray.mk #[116, 111, 110]), (ByteArray.mk #[98, 121]), (ByteArray.mk #[107, 105, 114, 107]), (ByteArray.mk #[104, 97, 114]), (ByteArray.mk #[119, 105, 99, 107]), (ByteArray.mk #[101, 108, 121]), (ByteArray.mk #[111, 115]), (ByteArray.mk #[108, 111]), (ByteArray.mk #[98, 114, 105, 103]), (ByteArray.mk #[109, 97]), (ByteArray.mk #[114, 105]), (ByteArray.mk #[110, 97]), (ByteArray.mk #[115, 116]), (ByteArray.mk #[97, 101])] : List ByteArray)), (1000000, .box (tc el01Source s4.2.2))]⟩ ?_
  obtain ⟨x8, hx8, h⟩ := bind_some h
  refine SRun.estep (xe ents61 (spec_l01Next_run s4.2.2 (([(ByteArray.mk #[97, 115, 104]), (ByteArray.mk #[102, 111, 114, 100]), (ByteArray.mk #[116, 111, 110]), (ByteArray.mk #[98, 121]), (ByteArray.mk #[107, 105, 114, 107]), (ByteArray.mk #[104, 97, 114]), (ByteArray.mk #[119, 105, 99, 107]), (ByteArray.mk #[101, 108, 121]), (ByteArray.mk #[111, 115]), (ByteArray.mk #[108, 111]), (ByteArray.mk #[98, 114, 105, 103]), (ByteArray.mk #[109, 97]), (ByteArray.mk #[114, 105]), (ByteArray.mk #[110, 97]), (ByteArray.mk #[115, 116]), (ByteArray.mk #[97, 101])] : List ByteArray).length : Int) _ hx8)) ?_
  obtain ⟨x9, hx9, h⟩ := bind_some h
  refine SRun.ls (x_index_own (d := 3) (L := ([(ByteArray.mk #[97, 115, 104]), (ByteArray.mk #[102, 111, 114, 100]), (ByteArray.mk #[116, 111, 110]), (ByteArray.mk #[98, 121]), (ByteArray.mk #[107, 105, 114, 107]), (ByteArray.mk #[104, 97, 114]), (ByteArray.mk #[119, 105, 99, 107]), (ByteArray.mk #[101, 108, 121]), (ByteArray.mk #[111, 115]), (ByteArray.mk #[108, 111]), (ByteArray.mk #[98, 114, 105, 103]), (ByteArray.mk #[109, 97]), (ByteArray.mk #[114, 105]), (ByteArray.mk #[110, 97]), (ByteArray.mk #[115, 116]), (ByteArray.mk #[97, 101])] : List ByteArray)) (f := eS) (ti := ti53) (tj := ti9) (e := 9) (e' := 9) (m := 1) (k := .i64) tbokGB rfl hx9) ?_
  refine SRun.ls (x_load_own (d := 3) (m := 1) (j := 0) (L := ([(ByteArray.mk #[97, 115, 104]), (ByteArray.mk #[102, 111, 114, 100]), (ByteArray.mk #[116, 111, 110]), (ByteArray.mk #[98, 121]), (ByteArray.mk #[107, 105, 114, 107]), (ByteArray.mk #[104, 97, 114]), (ByteArray.mk #[119, 105, 99, 107]), (ByteArray.mk #[101, 108, 121]), (ByteArray.mk #[111, 115]), (ByteArray.mk #[108, 111]), (ByteArray.mk #[98, 114, 105, 103]), (ByteArray.mk #[109, 97]), (ByteArray.mk #[114, 105]), (ByteArray.mk #[110, 97]), (ByteArray.mk #[115, 116]), (ByteArray.mk #[97, 101])] : List ByteArray)) (f := eS) (ti := ti9) (e := 9) (v := vs x9) tbokGB rfl hx9) ?_
  obtain ⟨x10, hx10, h⟩ := bind_some h
  refine SRun.ls (x_cat hx10 rfl) ?_
  refine SRun.ck tbokGB 1 ⟨24, [(0, .ref 1000000 0), (3, .own 3), (4, vs x10), (5, vi s4.2.1)], [(3, oa 9 1 eS ([(ByteArray.mk #[97, 115, 104]), (ByteArray.mk #[102, 111, 114, 100]), (ByteArray.mk #[116, 111, 110]), (ByteArray.mk #[98, 121]), (ByteArray.mk #[107, 105, 114, 107]), (ByteArray.mk #[104, 97, 114]), (ByteArray.mk #[119, 105, 99, 107]), (ByteArray.mk #[101, 108, 121]), (ByteArray.mk #[111, 115]), (ByteArray.mk #[108, 111]), (ByteArray.mk #[98, 114, 105, 103]), (ByteArray.mk #[109, 97]), (ByteArray.mk #[114, 105]), (ByteArray.mk #[110, 97]), (ByteArray.mk #[115, 116]), (ByteArray.mk #[97, 101])] : List ByteArray)), (1000000, .box (tc el01Source x8.2))]⟩ ?_
  refine SRun.nil ?_
  obtain rfl := inj h
  exact q_bn (q_j (Le.sub0))
  refine swp_reg ?_
  refine SRun.ck tbokGB 3 ⟨24, [(0, .ref 1000000 0), (3, .own 3), (4, vs j6.1), (5, vi (w64 (s4.2.1 - 1)))], [(3, oa 9 1 eS ([(ByteArray.mk #[97, 115, 104]), (ByteArray.mk #[102, 111, 114, 100]), (ByteArray.mk #[116, 111, 110]), (ByteArray.mk #[98, 121]), (ByteArray.mk #[107, 105, 114, 107]), (ByteArray.mk #[104, 97, 114]), (ByteArray.mk #[119, 105, 99, 107]), (ByteArray.mk #[101, 108, 121]), (ByteArray.mk #[111, 115]), (ByteArray.mk #[108, 111]), (ByteArray.mk #[98, 114, 105, 103]), (ByteArray.mk #[109, 97]), (ByteArray.mk #[114, 105]), (ByteArray.mk #[110, 97]), (ByteArray.mk #[115, 116]), (ByteArray.mk #[97, 101])] : List ByteArray)), (1000000, .box (tc el01Source j6.2))]⟩ ?_
  refine SRun.nil ?_
  obtain rfl := inj h
  exact q_l (Le.sub0)
  refine swp_exit ?_
  obtain rfl := inj h
  exact nx_e (q_re (q_bh (q_j (Le.sub0))))
  refine srk tbokGB ⟨24, [(2, vs j2.1)], [(1000000, .box (tc el01Source j2.2))]⟩ ?_
  refine swp_ret ?_
  obtain rfl := inj h
  exact q_fr (fin_io (f1 fv) (y := .box (tc el01Source j2.2)) (by kernel_rfl) rfl (by kernel_rfl) (by kernel_rfl))
theorem ents121 : Ents Tryz.prog 121 := ents_of Tryz.func121 (by kernel_rfl) rfl
noncomputable def spec_l01Words (aWords : (List ByteArray)) : Option (ByteArray) :=
  (((forS (aWords.length : Int) (fun (i3 : Int) (s3 : ByteArray) => (((bif (decide (i3 > 0)) then ((cat' s3 (ByteArray.mk #[32])).bind fun x9 => some x9) else some s3)).bind fun (j7 : ByteArray) => ((at' aWords i3).bind fun x10 => ((cat' j7 x10).bind fun x11 => some x11)))) (fun (s3 : ByteArray) => s3) 0 (ByteArray.mk #[]))).bind fun (j1 : ByteArray) => some j1)
theorem spec_l01Words_run (aWords : (List ByteArray)) (r : ByteArray) (h : spec_l01Words aWords = some r) : SCall Tryz.prog 158 [.v (vl eS aWords)] ⟨[.v (vs r)], [], false⟩ := by
  refine scall_in Tryz.func158 rfl [(.tmp 2)] rfl (fun r => ⟨[.v (vs r)], [], false⟩) (r := r) ?_
  unfold spec_l01Words at h
  refine srk tbokGB ⟨22, [(0, vl eS aWords)], []⟩ ?_
  refine srk tbokGB ⟨22, [(0, vl eS aWords), (3, vs (ByteArray.mk #[]))], []⟩ ?_
  refine swp_seq ?_
  refine srk tbokGB ⟨22, [(0, vl eS aWords), (3, vs (ByteArray.mk #[])), (4, vi 0)], []⟩ ?_
  refine swp_seqJ h (fun j1 => ⟨22, [(3, vs j1)], []⟩) (fun v2 h => ?_) (fun j1 h => ?_)
  refine swp_blk (a := v2) ?_
  refine swp_lpL (r := v2) (s := (0, (ByteArray.mk #[]))) _ (fun s3 => ⟨22, [(0, vl eS aWords), (3, vs s3.2), (4, vi s3.1)], []⟩) _ (Le.sub0) h (fun s3 v4 h => ?_)
  refine swp_seq ?_
  refine srk tbokGB ⟨22, [(0, vl eS aWords), (3, vs s3.2), (4, vi s3.1), (8, vb (decide (s3.1 < (aWords.length : Int))))], []⟩ ?_
  refine swp_cd h (fun h => ?_) fun h => ?_
  refine swp_skip ?_
  refine nx_n ?_
  refine swp_seq ?_
  refine swp_seqJ h (fun j5 => ⟨22, [(0, vl eS aWords), (3, vs j5), (4, vi s3.1)], []⟩) (fun v6 h => ?_) (fun j5 h => ?_)
  refine swp_blk (a := v6) ?_
  refine swp_seq ?_
  refine srk tbokGB ⟨22, [(0, vl eS aWords), (3, vs s3.2), (4, vi s3.1), (12, vb (decide (s3.1 > 0)))], []⟩ ?_
  refine swp_seqJ h (fun j7 => ⟨22, [(0, vl eS aWords), (3, vs j7), (4, vi s3.1)], []⟩) (fun v8 h => ?_) (fun j7 h => ?_)
  refine swp_cd h (fun h => ?_) fun h => ?_
  refine swp_reg ?_
  refine SRun.ck tbokGB 1 ⟨22, [(0, vl eS aWords), (4, vi s3.1), (13, vs s3.2)], []⟩ ?_
  obtain ⟨x9, hx9, h⟩ := bind_some h
  refine SRun.ls (x_cat hx9 rfl) ?_
  refine SRun.ck tbokGB 1 ⟨22, [(0, vl eS aWords), (3, vs x9), (4, vi s3.1)], []⟩ ?_
  refine SRun.nil ?_
  obtain rfl := inj h
  exact q_j (Le.sub0)
  refine swp_skip ?_
  obtain rfl := inj h
  exact q_j (Le.sub0)
  refine swp_reg ?_
  refine SRun.ck tbokGB 3 ⟨22, [(0, vl eS aWords), (4, vi s3.1), (15, vs j7), (16, vl eS aWords), (17, vi s3.1)], []⟩ ?_
  obtain ⟨x10, hx10, h⟩ := bind_some h
  refine SRun.ls (x_index (L := aWords) (f := eS) (ti := ti53) (tj := ti9) (e := 9) (k := .i64) tbokGB rfl hx10) ?_
  refine SRun.ck tbokGB 1 ⟨22, [(0, vl eS aWords), (4, vi s3.1), (15, vs j7), (19, vs x10)], []⟩ ?_
  obtain ⟨x11, hx11, h⟩ := bind_some h
  refine SRun.ls (x_cat hx11 rfl) ?_
  refine SRun.ck tbokGB 1 ⟨22, [(0, vl eS aWords), (3, vs x11), (4, vi s3.1)], []⟩ ?_
  refine SRun.nil ?_
  obtain rfl := inj h
  exact q_bn (q_j (Le.sub0))
  refine swp_reg ?_
  refine SRun.ck tbokGB 3 ⟨22, [(0, vl eS aWords), (3, vs j5), (4, vi (w64 (s3.1 + 1)))], []⟩ ?_
  refine SRun.nil ?_
  obtain rfl := inj h
  exact q_l (Le.sub0)
  refine swp_exit ?_
  obtain rfl := inj h
  exact nx_e (q_re (q_bh (q_j (Le.sub0))))
  refine srk tbokGB ⟨22, [(2, vs j1)], []⟩ ?_
  refine swp_ret ?_
  obtain rfl := inj h
  exact q_fr (f1 fv)
theorem ents158 : Ents Tryz.prog 158 := ents_of Tryz.func158 (by kernel_rfl) rfl
noncomputable def spec_l01GoodPhrase (aS : l01Source) : Option (ByteArray × l01Source) :=
  ((spec_l01Next aS 3).bind fun x1 => (((loop (fun (s4 : Int × (List ByteArray) × l01Source) => (bif (decide (s4.1 > 0)) then ((((spec_l01Good s4.2.2).bind fun x8 => ((app' s4.2.1 ([x8.1] : List ByteArray)).bind fun x9 => some (x9, x8.2)))).bind fun (j6 : (List ByteArray) × l01Source) => some (.inl ((w64 (s4.1 - 1)), j6.1, j6.2))) else some (.inr (s4.2.1, s4.2.2)))) ((w64 (1 + x1.1)), ([] : List ByteArray), x1.2))).bind fun (j2 : (List ByteArray) × l01Source) => ((spec_l01Words j2.1).bind fun x10 => some (x10, j2.2))))
theorem spec_l01GoodPhrase_run (aS : l01Source) (r : ByteArray × l01Source) (h : spec_l01GoodPhrase aS = some r) : SCall Tryz.prog 138 [.o (.box [vl (eI .u8) aS.code, vi aS.at', vi aS.seed])] ⟨[.v (vs r.1)], [(0, .box (tc el01Source r.2))], false⟩ := by
  refine scall_in Tryz.func138 rfl [(.tmp 2)] rfl (fun r => ⟨[.v (vs r.1)], [(0, .box (tc el01Source r.2))], false⟩) (r := r) ?_
  unfold spec_l01GoodPhrase at h
  refine srk tbokGB ⟨20, [(0, .ref 1000000 0)], [(1000000, .box (tc el01Source aS))]⟩ ?_
  refine srk tbokGB ⟨20, [(0, .ref 1000000 0), (3, .own 5)], [(5, oa 9 1 eS ([] : List ByteArray)), (1000000, .box (tc el01Source aS))]⟩ ?_
  refine swp_seq ?_
  refine sr ?_
  refine SRun.ck tbokGB 1 ⟨20, [(0, .ref 1000000 0), (3, .own 5), (6, .ref 1000000 0)], [(5, oa 9 1 eS ([] : List ByteArray)), (1000000, .box (tc el01Source aS))]⟩ ?_
  obtain ⟨x1, hx1, h⟩ := bind_some h
  refine SRun.estep (xe ents61 (spec_l01Next_run aS 3 _ hx1)) ?_
  refine ckn tbokGB 2 ⟨20, [(0, .ref 1000000 0), (3, .own 5), (4, vi (w64 (1 + x1.1)))], [(5, oa 9 1 eS ([] : List ByteArray)), (1000000, .box (tc el01Source x1.2))]⟩ ?_
  refine swp_seqJ h (fun j2 => ⟨20, [(3, .own 3)], [(3, oa 9 1 eS j2.1), (1000000, .box (tc el01Source j2.2))]⟩) (fun v3 h => ?_) (fun j2 h => ?_)
  refine swp_blk (a := v3) ?_
  refine swp_lpL (r := v3) (s := ((w64 (1 + x1.1)), ([] : List ByteArray), x1.2)) _ (fun s4 => ⟨20, [(0, .ref 1000000 0), (3, .own 3), (4, vi s4.1)], [(3, oa 9 1 eS s4.2.1), (1000000, .box (tc el01Source s4.2.2))]⟩) _ (Le.rr [5, 1000000] [(5, 3)]) h (fun s4 v5 h => ?_)
  refine swp_seq ?_
  refine srk tbokGB ⟨20, [(0, .ref 1000000 0), (3, .own 3), (4, vi s4.1), (10, vb (decide (s4.1 > 0)))], [(3, oa 9 1 eS s4.2.1), (1000000, .box (tc el01Source s4.2.2))]⟩ ?_
  refine swp_cd h (fun h => ?_) fun h => ?_
  refine swp_skip ?_
  refine nx_n ?_
  refine swp_seq ?_
  refine swp_seqJ h (fun j6 => ⟨20, [(0, .ref 1000000 0), (3, .own 3), (4, vi s4.1)], [(3, oa 9 1 eS j6.1), (1000000, .box (tc el01Source j6.2))]⟩) (fun v7 h => ?_) (fun j6 h => ?_)
  refine swp_blk (a := v7) ?_
  refine swp_reg ?_
  refine SRun.ck tbokGB 2 ⟨20, [(0, .ref 1000000 0), (4, vi s4.1), (13, .own 3), (14, .ref 1000000 0)], [(3, oa 9 1 eS s4.2.1), (1000000, .box (tc el01Source s4.2.2))]⟩ ?_
  obtain ⟨x8, hx8, h⟩ := bind_some h
  refine SRun.estep (xe ents121 (spec_l01Good_run s4.2.2 _ hx8)) ?_
  refine SRun.ck tbokGB 1 ⟨20, [(0, .ref 1000000 0), (4, vi s4.1), (13, .own 3), (16, .own 16)], [(3, oa 9 1 eS s4.2.1), (16, oa 9 1 eS ([x8.1] : List ByteArray)), (1000000, .box (tc el01Source x8.2))]⟩ ?_
  obtain ⟨x9, hx9, h⟩ := bind_some h
  refine SRun.estep (x_append (f := eS) (t := 53) (ti := ti53) (tj := ti9) (zs := [.string (ByteArray.mk #[])]) (e := 9) (m := 1) (d := 3) (xv := .own 16) hx9 tbokGB rfl rfl rfl rfl (x_src_o (e := 9))) ?_
  refine SRun.ck tbokGB 1 ⟨20, [(0, .ref 1000000 0), (3, .own 17), (4, vi s4.1)], [(17, oa 9 1 eS x9), (1000000, .box (tc el01Source x8.2))]⟩ ?_
  refine SRun.nil ?_
  obtain rfl := inj h
  exact q_bn (q_j (Le.rr [17, 1000000] [(17, 3)]))
  refine swp_reg ?_
  refine SRun.ck tbokGB 3 ⟨20, [(0, .ref 1000000 0), (3, .own 3), (4, vi (w64 (s4.1 - 1)))], [(3, oa 9 1 eS j6.1), (1000000, .box (tc el01Source j6.2))]⟩ ?_
  refine SRun.nil ?_
  obtain rfl := inj h
  exact q_l (Le.sub0)
  refine swp_exit ?_
  obtain rfl := inj h
  exact nx_e (q_re (q_bh (q_j (Le.sub0))))
  refine sr ?_
  refine SRun.ck tbokGB 1 ⟨20, [(18, .own 3)], [(3, oa 9 1 eS j2.1), (1000000, .box (tc el01Source j2.2))]⟩ ?_
  obtain ⟨x10, hx10, h⟩ := bind_some h
  refine SRun.ls (xc ents158 (spec_l01Words_run j2.1 _ hx10)) ?_
  refine ckn tbokGB 1 ⟨20, [(2, vs x10)], [(1000000, .box (tc el01Source j2.2))]⟩ ?_
  refine swp_ret ?_
  obtain rfl := inj h
  exact q_fr (fin_io (f1 fv) (y := .box (tc el01Source j2.2)) (by kernel_rfl) rfl (by kernel_rfl) (by kernel_rfl))
theorem ents138 : Ents Tryz.prog 138 := ents_of Tryz.func138 (by kernel_rfl) rfl
noncomputable def spec_l01Pick (aS : l01Source) (aList : (List Int)) : Option (Int × l01Source) :=
  ((spec_l01Next aS (aList.length : Int)).bind fun x1 => ((at' aList x1.1).bind fun x2 => some (x2, x1.2)))
theorem spec_l01Pick_run (aS : l01Source) (aList : (List Int)) (r : Int × l01Source) (h : spec_l01Pick aS aList = some r) : SCall Tryz.prog 62 [.o (.box [vl (eI .u8) aS.code, vi aS.at', vi aS.seed]), .v (vl (eI .i64) aList)] ⟨[.v (vi r.1)], [(0, .box (tc el01Source r.2))], false⟩ := by
  refine scall_in Tryz.func62 rfl [(.tmp 4)] rfl (fun r => ⟨[.v (vi r.1)], [(0, .box (tc el01Source r.2))], false⟩) (r := r) ?_
  unfold spec_l01Pick at h
  refine srk tbokGB ⟨12, [(0, .ref 1000000 0), (1, vl (eI .i64) aList)], [(1000000, .box (tc el01Source aS))]⟩ ?_
  refine sr ?_
  refine SRun.ck tbokGB 4 ⟨12, [(5, vl (eI .i64) aList), (6, .ref 1000000 0), (8, vi (aList.length : Int))], [(1000000, .box (tc el01Source aS))]⟩ ?_
  obtain ⟨x1, hx1, h⟩ := bind_some h
  refine SRun.estep (xe ents61 (spec_l01Next_run aS (aList.length : Int) _ hx1)) ?_
  obtain ⟨x2, hx2, h⟩ := bind_some h
  refine SRun.ls (x_index (L := aList) (f := (eI .i64)) (ti := ti123) (tj := ti2) (e := 2) (k := .i64) tbokGB rfl hx2) ?_
  refine ckn tbokGB 2 ⟨12, [(4, vi x2)], [(1000000, .box (tc el01Source x1.2))]⟩ ?_
  refine swp_ret ?_
  obtain rfl := inj h
  exact q_fr (fin_io (f1 fv) (y := .box (tc el01Source x1.2)) (by kernel_rfl) rfl (by kernel_rfl) (by kernel_rfl))
theorem ents62 : Ents Tryz.prog 62 := ents_of Tryz.func62 (by kernel_rfl) rfl
noncomputable def spec_l02Good (aS : l01Source) : Option (Span × l01Source) :=
  ((spec_l01Next aS 1000).bind fun x1 => ((spec_l01Next x1.2 20).bind fun x2 => ((spec_l01Next x2.2 300).bind fun x3 => ((spec_l01Pick x3.2 ([0, x2.1, x3.1, 2000] : List Int)).bind fun x4 => some ((Span.mk (w64 (1000 + x1.1)) (minI 3000 (w64 ((w64 (1000 + x1.1)) + x4.1)))), x4.2)))))
theorem spec_l02Good_run (aS : l01Source) (r : Span × l01Source) (h : spec_l02Good aS = some r) : SCall Tryz.prog 122 [.o (.box [vl (eI .u8) aS.code, vi aS.at', vi aS.seed])] ⟨[.v (.agg (tc eSpan r.1))], [(0, .box (tc el01Source r.2))], false⟩ := by
  refine scall_in Tryz.func122 rfl [(.cell 2 38)] rfl (fun r => ⟨[.v (.agg (tc eSpan r.1))], [(0, .box (tc el01Source r.2))], false⟩) (r := r) ?_
  unfold spec_l02Good at h
  refine srk tbokGB ⟨19, [(0, .ref 1000000 0), (2, .ref 2 0)], [(2, .box [vi 0, vi 0]), (1000000, .box (tc el01Source aS))]⟩ ?_
  refine sr ?_
  refine SRun.ck tbokGB 1 ⟨19, [(0, .ref 1000000 0), (2, .ref 2 0), (4, .ref 1000000 0)], [(2, .box [vi 0, vi 0]), (1000000, .box (tc el01Source aS))]⟩ ?_
  obtain ⟨x1, hx1, h⟩ := bind_some h
  refine SRun.estep (xe ents61 (spec_l01Next_run aS 1000 _ hx1)) ?_
  refine ckn tbokGB 2 ⟨19, [(0, .ref 1000000 0), (2, .ref 2 0), (3, vi (w64 (1000 + x1.1)))], [(2, .box [vi 0, vi 0]), (1000000, .box (tc el01Source x1.2))]⟩ ?_
  refine sr ?_
  refine SRun.ck tbokGB 4 ⟨19, [(0, .ref 1000000 0), (2, .ref 2 0), (7, vi (w64 (1000 + x1.1))), (8, vi (w64 (1000 + x1.1))), (9, .ref 1000000 0), (10, .ref 1000000 0)], [(2, .box [vi 0, vi 0]), (1000000, .box (tc el01Source x1.2))]⟩ ?_
  obtain ⟨x2, hx2, h⟩ := bind_some h
  refine SRun.estep (xe ents61 (spec_l01Next_run x1.2 20 _ hx2)) ?_
  refine SRun.ck tbokGB 1 ⟨19, [(2, .ref 2 0), (7, vi (w64 (1000 + x1.1))), (8, vi (w64 (1000 + x1.1))), (9, .ref 1000000 0), (11, vi x2.1), (12, .ref 1000000 0)], [(2, .box [vi 0, vi 0]), (1000000, .box (tc el01Source x2.2))]⟩ ?_
  obtain ⟨x3, hx3, h⟩ := bind_some h
  refine SRun.estep (xe ents61 (spec_l01Next_run x2.2 300 _ hx3)) ?_
  refine SRun.ck tbokGB 1 ⟨19, [(2, .ref 2 0), (7, vi (w64 (1000 + x1.1))), (8, vi (w64 (1000 + x1.1))), (9, .ref 1000000 0), (14, .own 14)], [(2, .box [vi 0, vi 0]), (14, oa 2 1 (eI .i64) ([0, x2.1, x3.1, 2000] : List Int)), (1000000, .box (tc el01Source x3.2))]⟩ ?_
  refine SRun.le (Le.frz' (d := 14) (e := 2) (m := 1) (n := ([0, x2.1, x3.1, 2000] : List Int).length) (es := ([0, x2.1, x3.1, 2000] : List Int).map (eI .i64)) (by kernel_rfl) (by kernel_rfl)) ?_
  obtain ⟨x4, hx4, h⟩ := bind_some h
  refine SRun.estep (xe ents62 (spec_l01Pick_run x3.2 ([0, x2.1, x3.1, 2000] : List Int) _ hx4)) ?_
  refine SRun.ck tbokGB 2 ⟨19, [(2, .ref 2 0), (7, vi (w64 (1000 + x1.1))), (17, vi (minI 3000 (w64 ((w64 (1000 + x1.1)) + x4.1))))], [(2, .box [vi 0, vi 0]), (1000000, .box (tc el01Source x4.2))]⟩ ?_
  refine SRun.ls (x_lstep_build (v := .agg [vi (w64 (1000 + x1.1)), vi (minI 3000 (w64 ((w64 (1000 + x1.1)) + x4.1)))]) tbokGB rfl) ?_
  refine ckn tbokGB 1 ⟨19, [(2, .ref 2 0)], [(2, .box [vi (w64 (1000 + x1.1)), vi (minI 3000 (w64 ((w64 (1000 + x1.1)) + x4.1)))]), (1000000, .box (tc el01Source x4.2))]⟩ ?_
  refine swp_ret ?_
  obtain rfl := inj h
  exact q_fr (fin_io (f1 (fc tbokGB)) (y := .box (tc el01Source x4.2)) (by kernel_rfl) rfl (by kernel_rfl) (by kernel_rfl))
theorem ents122 : Ents Tryz.prog 122 := ents_of Tryz.func122 (by kernel_rfl) rfl
noncomputable def spec_l01Damage (aS : l01Source) (aT : ByteArray) : Option (ByteArray × l01Source) :=
  ((spec_l01Next aS (w64 ((aT.size : Int) + 1))).bind fun x1 => ((spec_l01Next x1.2 8).bind fun x2 => (((bif (x2.1 == 0) then ((sub' aT 0 x1.1).bind fun x5 => some (.inr (x5, x2.2))) else (bif (x2.1 == 1) then ((sub' aT 0 x1.1).bind fun x6 => ((spec_l01Next x2.2 8).bind fun x7 => ((at' ([(ByteArray.mk #[48]), (ByteArray.mk #[35]), (ByteArray.mk #[46]), (ByteArray.mk #[47]), (ByteArray.mk #[32]), (ByteArray.mk #[97]), (ByteArray.mk #[45]), (ByteArray.mk #[10])] : List ByteArray) x7.1).bind fun x8 => ((cat' x6 x8).bind fun x9 => ((sub' aT x1.1 (aT.size : Int)).bind fun x10 => ((cat' x9 x10).bind fun x11 => some (.inr (x11, x7.2)))))))) else (bif (x2.1 == 2) then (bif (decide (x1.1 < (aT.size : Int))) then ((sub' aT 0 x1.1).bind fun x12 => ((sub' aT (w64 (x1.1 + 1)) (aT.size : Int)).bind fun x13 => ((cat' x12 x13).bind fun x14 => some (.inr (x14, x2.2))))) else some (.inl x2.2)) else some (.inl x2.2))))).bind (Sum.elim (fun (j3 : l01Source) => some (aT, j3)) some))))
theorem spec_l01Damage_run (aS : l01Source) (aT : ByteArray) (r : ByteArray × l01Source) (h : spec_l01Damage aS aT = some r) : SCall Tryz.prog 159 [.o (.box [vl (eI .u8) aS.code, vi aS.at', vi aS.seed]), .v (vs aT)] ⟨[.v (vs r.1)], [(0, .box (tc el01Source r.2))], false⟩ := by
  refine scall_in Tryz.func159 rfl [(.tmp 4)] rfl (fun r => ⟨[.v (vs r.1)], [(0, .box (tc el01Source r.2))], false⟩) (r := r) ?_
  unfold spec_l01Damage at h
  refine srk tbokGB ⟨48, [(0, .ref 1000000 0), (1, vs aT)], [(1000000, .box (tc el01Source aS))]⟩ ?_
  refine sr ?_
  refine SRun.ck tbokGB 4 ⟨48, [(0, .ref 1000000 0), (1, vs aT), (6, .ref 1000000 0), (9, vi (w64 ((aT.size : Int) + 1)))], [(1000000, .box (tc el01Source aS))]⟩ ?_
  obtain ⟨x1, hx1, h⟩ := bind_some h
  refine SRun.estep (xe ents61 (spec_l01Next_run aS (w64 ((aT.size : Int) + 1)) _ hx1)) ?_
  refine ckn tbokGB 1 ⟨48, [(0, .ref 1000000 0), (1, vs aT), (5, vi x1.1)], [(1000000, .box (tc el01Source x1.2))]⟩ ?_
  refine swp_seq ?_
  refine sr ?_
  refine SRun.ck tbokGB 1 ⟨48, [(0, .ref 1000000 0), (1, vs aT), (5, vi x1.1), (11, .ref 1000000 0)], [(1000000, .box (tc el01Source x1.2))]⟩ ?_
  obtain ⟨x2, hx2, h⟩ := bind_some h
  refine SRun.estep (xe ents61 (spec_l01Next_run x1.2 8 _ hx2)) ?_
  refine SRun.nx ?_
  refine swp_seqE (r := r) h (fun j3 => ⟨48, [(1, vs aT)], [(1000000, .box (tc el01Source j3))]⟩) (fun v4 h => ?_) (fun j3 h => ?_)
  refine swp_blk (a := v4) ?_
  refine srk tbokGB ⟨48, [(0, .ref 1000000 0), (1, vs aT), (5, vi x1.1), (12, vi x2.1), (13, vb (x2.1 == 0))], [(1000000, .box (tc el01Source x2.2))]⟩ ?_
  refine swp_cd h (fun h => ?_) fun h => ?_
  refine sr ?_
  refine SRun.ck tbokGB 2 ⟨48, [(15, vs aT), (16, vi x1.1)], [(1000000, .box (tc el01Source x2.2))]⟩ ?_
  obtain ⟨x5, hx5, h⟩ := bind_some h
  refine SRun.ls (x_sub (ti := ti9) hx5 tbokGB rfl) ?_
  refine ckn tbokGB 1 ⟨48, [(4, vs x5)], [(1000000, .box (tc el01Source x2.2))]⟩ ?_
  refine swp_ret ?_
  obtain rfl := inj h
  exact q_br (q_rr (q_fr (fin_io (f1 fv) (y := .box (tc el01Source x2.2)) (by kernel_rfl) rfl (by kernel_rfl) (by kernel_rfl))))
  refine srk tbokGB ⟨48, [(0, .ref 1000000 0), (1, vs aT), (5, vi x1.1), (12, vi x2.1), (18, vb (x2.1 == 1))], [(1000000, .box (tc el01Source x2.2))]⟩ ?_
  refine swp_cd h (fun h => ?_) fun h => ?_
  refine swp_seq ?_
  refine swp_drD [1000000] mixed ?_
  refine DGo.ck tbokGB false 2 ⟨48, [(0, .ref 1000000 0), (1, vs aT), (5, vi x1.1), (20, vs aT), (21, vi x1.1)], [(1000000, .box (tc el01Source x2.2))]⟩ ?_
  obtain ⟨x6, hx6, h⟩ := bind_some h
  refine DGo.step (x_sub (ti := ti9) hx6 tbokGB rfl) ?_
  refine DGo.ck tbokGB false 2 ⟨48, [(1, vs aT), (5, vi x1.1), (22, vs x6), (23, .own 23), (24, .ref 1000000 0)], [(23, oa 9 1 eS ([(ByteArray.mk #[48]), (ByteArray.mk #[35]), (ByteArray.mk #[46]), (ByteArray.mk #[47]), (ByteArray.mk #[32]), (ByteArray.mk #[97]), (ByteArray.mk #[45]), (ByteArray.mk #[10])] : List ByteArray)), (1000000, .box (tc el01Source x2.2))]⟩ ?_
  obtain ⟨x7, hx7, h⟩ := bind_some h
  refine DGo.write [] (xw ents61 (spec_l01Next_run x2.2 8 _ hx7)) ?_
  obtain ⟨x8, hx8, h⟩ := bind_some h
  refine DGo.stepW false [23] (x_index_own (d := 23) (L := ([(ByteArray.mk #[48]), (ByteArray.mk #[35]), (ByteArray.mk #[46]), (ByteArray.mk #[47]), (ByteArray.mk #[32]), (ByteArray.mk #[97]), (ByteArray.mk #[45]), (ByteArray.mk #[10])] : List ByteArray)) (f := eS) (ti := ti53) (tj := ti9) (e := 9) (e' := 9) (m := 1) (k := .i64) tbokGB rfl hx8) ?_
  refine DGo.stepW false [23] (x_load_own (d := 23) (m := 1) (j := 0) (L := ([(ByteArray.mk #[48]), (ByteArray.mk #[35]), (ByteArray.mk #[46]), (ByteArray.mk #[47]), (ByteArray.mk #[32]), (ByteArray.mk #[97]), (ByteArray.mk #[45]), (ByteArray.mk #[10])] : List ByteArray)) (f := eS) (ti := ti9) (e := 9) (v := vs x8) tbokGB rfl hx8) ?_
  obtain ⟨x9, hx9, h⟩ := bind_some h
  refine DGo.step (x_cat hx9 rfl) ?_
  refine DGo.ck tbokGB false 2 ⟨48, [(28, vs x9), (29, vs aT), (30, vi x1.1)], [(1000000, .box (tc el01Source x7.2))]⟩ ?_
  obtain ⟨x10, hx10, h⟩ := bind_some h
  refine DGo.step (x_sub (ti := ti9) hx10 tbokGB rfl) ?_
  obtain ⟨x11, hx11, h⟩ := bind_some h
  refine DGo.step (x_cat hx11 rfl) ?_
  refine DGo.ck tbokGB false 1 ⟨48, [(4, vs x11)], [(1000000, .box (tc el01Source x7.2))]⟩ ?_
  refine DGo.nx ?_
  refine swp_ret ?_
  obtain rfl := inj h
  exact q_br (q_rr (q_fr (fin_io (f1 fv) (y := .box (tc el01Source x7.2)) (by kernel_rfl) rfl (by kernel_rfl) (by kernel_rfl))))
  refine srk tbokGB ⟨48, [(1, vs aT), (5, vi x1.1), (33, vb (x2.1 == 2))], [(1000000, .box (tc el01Source x2.2))]⟩ ?_
  refine swp_cd h (fun h => ?_) fun h => ?_
  refine srk tbokGB ⟨48, [(1, vs aT), (5, vi x1.1), (38, vb (decide (x1.1 < (aT.size : Int))))], [(1000000, .box (tc el01Source x2.2))]⟩ ?_
  refine swp_cd h (fun h => ?_) fun h => ?_
  refine swp_seq ?_
  refine swp_dr mixed ?_
  refine DGo.ck tbokGB false 2 ⟨48, [(1, vs aT), (5, vi x1.1), (39, vs aT), (40, vi x1.1)], [(1000000, .box (tc el01Source x2.2))]⟩ ?_
  obtain ⟨x12, hx12, h⟩ := bind_some h
  refine DGo.step (x_sub (ti := ti9) hx12 tbokGB rfl) ?_
  refine DGo.ck tbokGB false 3 ⟨48, [(41, vs x12), (42, vs aT), (44, vi (w64 (x1.1 + 1)))], [(1000000, .box (tc el01Source x2.2))]⟩ ?_
  obtain ⟨x13, hx13, h⟩ := bind_some h
  refine DGo.step (x_sub (ti := ti9) hx13 tbokGB rfl) ?_
  obtain ⟨x14, hx14, h⟩ := bind_some h
  refine DGo.step (x_cat hx14 rfl) ?_
  refine DGo.ck tbokGB false 1 ⟨48, [(4, vs x14)], [(1000000, .box (tc el01Source x2.2))]⟩ ?_
  refine DGo.nx ?_
  refine swp_ret ?_
  obtain rfl := inj h
  exact q_br (q_rr (q_fr (fin_io (f1 fv) (y := .box (tc el01Source x2.2)) (by kernel_rfl) rfl (by kernel_rfl) (by kernel_rfl))))
  refine swp_skip ?_
  obtain rfl := inj h
  exact q_bn (q_l (Le.sub0))
  refine swp_skip ?_
  obtain rfl := inj h
  exact q_bn (q_l (Le.sub0))
  refine srk tbokGB ⟨48, [(4, vs aT)], [(1000000, .box (tc el01Source j3))]⟩ ?_
  refine swp_ret ?_
  obtain rfl := inj h
  exact q_fr (fin_io (f1 fv) (y := .box (tc el01Source j3)) (by kernel_rfl) rfl (by kernel_rfl) (by kernel_rfl))
theorem ents159 : Ents Tryz.prog 159 := ents_of Tryz.func159 (by kernel_rfl) rfl
noncomputable def spec_l01DrawPhrase (aS : l01Source) : Option (ByteArray × l01Source) :=
  ((spec_l01GoodPhrase aS).bind fun x1 => ((spec_l01Next x1.2 20).bind fun x2 => (((bif (x2.1 == 0) then ((spec_l01Damage x2.2 x1.1).bind fun x5 => some (.inr (x5.1, x5.2))) else (bif (x2.1 == 1) then ((spec_l01Next x2.2 5).bind fun x6 => ((at' ([(ByteArray.mk #[]), (ByteArray.mk #[97, 32, 32, 98]), (ByteArray.mk #[32, 97]), (ByteArray.mk #[97, 32, 98, 32, 99, 32, 100, 32, 101, 32, 102, 32, 103, 32, 104]), (ByteArray.mk #[97, 32, 98, 32, 99, 32, 100, 32, 101, 32, 102, 32, 103, 32, 104, 32, 105])] : List ByteArray) x6.1).bind fun x7 => some (.inr (x7, x6.2)))) else some (.inl x2.2)))).bind (Sum.elim (fun (j3 : l01Source) => some (x1.1, j3)) some))))
theorem spec_l01DrawPhrase_run (aS : l01Source) (r : ByteArray × l01Source) (h : spec_l01DrawPhrase aS = some r) : SCall Tryz.prog 139 [.o (.box [vl (eI .u8) aS.code, vi aS.at', vi aS.seed])] ⟨[.v (vs r.1)], [(0, .box (tc el01Source r.2))], false⟩ := by
  refine scall_in Tryz.func139 rfl [(.tmp 2)] rfl (fun r => ⟨[.v (vs r.1)], [(0, .box (tc el01Source r.2))], false⟩) (r := r) ?_
  unfold spec_l01DrawPhrase at h
  refine srk tbokGB ⟨21, [(0, .ref 1000000 0)], [(1000000, .box (tc el01Source aS))]⟩ ?_
  refine sr ?_
  refine SRun.ck tbokGB 1 ⟨21, [(0, .ref 1000000 0), (4, .ref 1000000 0)], [(1000000, .box (tc el01Source aS))]⟩ ?_
  obtain ⟨x1, hx1, h⟩ := bind_some h
  refine SRun.estep (xe ents138 (spec_l01GoodPhrase_run aS _ hx1)) ?_
  refine ckn tbokGB 1 ⟨21, [(0, .ref 1000000 0), (3, vs x1.1)], [(1000000, .box (tc el01Source x1.2))]⟩ ?_
  refine swp_seq ?_
  refine sr ?_
  refine SRun.ck tbokGB 1 ⟨21, [(0, .ref 1000000 0), (3, vs x1.1), (6, .ref 1000000 0)], [(1000000, .box (tc el01Source x1.2))]⟩ ?_
  obtain ⟨x2, hx2, h⟩ := bind_some h
  refine SRun.estep (xe ents61 (spec_l01Next_run x1.2 20 _ hx2)) ?_
  refine SRun.nx ?_
  refine swp_seqE (r := r) h (fun j3 => ⟨21, [(3, vs x1.1)], [(1000000, .box (tc el01Source j3))]⟩) (fun v4 h => ?_) (fun j3 h => ?_)
  refine swp_blk (a := v4) ?_
  refine srk tbokGB ⟨21, [(0, .ref 1000000 0), (3, vs x1.1), (7, vi x2.1), (8, vb (x2.1 == 0))], [(1000000, .box (tc el01Source x2.2))]⟩ ?_
  refine swp_cd h (fun h => ?_) fun h => ?_
  refine sr ?_
  refine SRun.ck tbokGB 2 ⟨21, [(10, .ref 1000000 0), (11, vs x1.1)], [(1000000, .box (tc el01Source x2.2))]⟩ ?_
  obtain ⟨x5, hx5, h⟩ := bind_some h
  refine SRun.estep (xe ents159 (spec_l01Damage_run x2.2 x1.1 _ hx5)) ?_
  refine ckn tbokGB 1 ⟨21, [(2, vs x5.1)], [(1000000, .box (tc el01Source x5.2))]⟩ ?_
  refine swp_ret ?_
  obtain rfl := inj h
  exact q_br (q_rr (q_fr (fin_io (f1 fv) (y := .box (tc el01Source x5.2)) (by kernel_rfl) rfl (by kernel_rfl) (by kernel_rfl))))
  refine srk tbokGB ⟨21, [(0, .ref 1000000 0), (3, vs x1.1), (13, vb (x2.1 == 1))], [(1000000, .box (tc el01Source x2.2))]⟩ ?_
  refine swp_cd h (fun h => ?_) fun h => ?_
  refine sr ?_
  refine SRun.ck tbokGB 2 ⟨21, [(15, .own 15), (16, .ref 1000000 0)], [(15, oa 9 1 eS ([(ByteArray.mk #[]), (ByteArray.mk #[97, 32, 32, 98]), (ByteArray.mk #[32, 97]), (ByteArray.mk #[97, 32, 98, 32, 99, 32, 100, 32, 101, 32, 102, 32, 103, 32, 104]), (ByteArray.mk #[97, 32, 98, 32, 99, 32, 100, 32, 101, 32, 102, 32, 103, 32, 104, 32, 105])] : List ByteArray)), (1000000, .box (tc el01Source x2.2))]⟩ ?_
  obtain ⟨x6, hx6, h⟩ := bind_some h
  refine SRun.estep (xe ents61 (spec_l01Next_run x2.2 5 _ hx6)) ?_
  obtain ⟨x7, hx7, h⟩ := bind_some h
  refine SRun.ls (x_index_own (d := 15) (L := ([(ByteArray.mk #[]), (ByteArray.mk #[97, 32, 32, 98]), (ByteArray.mk #[32, 97]), (ByteArray.mk #[97, 32, 98, 32, 99, 32, 100, 32, 101, 32, 102, 32, 103, 32, 104]), (ByteArray.mk #[97, 32, 98, 32, 99, 32, 100, 32, 101, 32, 102, 32, 103, 32, 104, 32, 105])] : List ByteArray)) (f := eS) (ti := ti53) (tj := ti9) (e := 9) (e' := 9) (m := 1) (k := .i64) tbokGB rfl hx7) ?_
  refine SRun.ls (x_load_own (d := 15) (m := 1) (j := 0) (L := ([(ByteArray.mk #[]), (ByteArray.mk #[97, 32, 32, 98]), (ByteArray.mk #[32, 97]), (ByteArray.mk #[97, 32, 98, 32, 99, 32, 100, 32, 101, 32, 102, 32, 103, 32, 104]), (ByteArray.mk #[97, 32, 98, 32, 99, 32, 100, 32, 101, 32, 102, 32, 103, 32, 104, 32, 105])] : List ByteArray)) (f := eS) (ti := ti9) (e := 9) (v := vs x7) tbokGB rfl hx7) ?_
  refine ckn tbokGB 1 ⟨21, [(2, vs x7)], [(1000000, .box (tc el01Source x6.2))]⟩ ?_
  refine swp_ret ?_
  obtain rfl := inj h
  exact q_br (q_rr (q_fr (fin_io (f1 fv) (y := .box (tc el01Source x6.2)) (by kernel_rfl) rfl (by kernel_rfl) (by kernel_rfl))))
  refine swp_skip ?_
  obtain rfl := inj h
  exact q_bn (q_l (Le.sub0))
  refine srk tbokGB ⟨21, [(2, vs x1.1)], [(1000000, .box (tc el01Source j3))]⟩ ?_
  refine swp_ret ?_
  obtain rfl := inj h
  exact q_fr (fin_io (f1 fv) (y := .box (tc el01Source j3)) (by kernel_rfl) rfl (by kernel_rfl) (by kernel_rfl))
theorem ents139 : Ents Tryz.prog 139 := ents_of Tryz.func139 (by kernel_rfl) rfl
noncomputable def spec_l02Draw (aS : l01Source) : Option (Span × l01Source) :=
  ((spec_l02Good aS).bind fun x1 => ((spec_l01Next x1.2 20).bind fun x2 => (((bif (x2.1 == 0) then some ((Span.mk x1.1.From (w64 (x1.1.From - 1))), x2.2) else (bif (x2.1 == 1) then ((spec_l01Pick x2.2 ([(-3000), (-3001), 3001] : List Int)).bind fun x5 => some ((Span.mk x5.1 x1.1.To), x5.2)) else (bif (x2.1 == 2) then ((spec_l01Pick x2.2 ([3000, 3001] : List Int)).bind fun x6 => some ((Span.mk x1.1.From x6.1), x6.2)) else some (x1.1, x2.2))))).bind fun (j3 : Span × l01Source) => some (j3.1, j3.2))))
theorem spec_l02Draw_run (aS : l01Source) (r : Span × l01Source) (h : spec_l02Draw aS = some r) : SCall Tryz.prog 100 [.o (.box [vl (eI .u8) aS.code, vi aS.at', vi aS.seed])] ⟨[.v (.agg (tc eSpan r.1))], [(0, .box (tc el01Source r.2))], false⟩ := by
  refine scall_in Tryz.func100 rfl [(.cell 2 38)] rfl (fun r => ⟨[.v (.agg (tc eSpan r.1))], [(0, .box (tc el01Source r.2))], false⟩) (r := r) ?_
  unfold spec_l02Draw at h
  refine srk tbokGB ⟨27, [(0, .ref 1000000 0), (2, .ref 2 0)], [(2, .box [vi 0, vi 0]), (1000000, .box (tc el01Source aS))]⟩ ?_
  refine sr ?_
  refine SRun.ck tbokGB 1 ⟨27, [(0, .ref 1000000 0), (2, .ref 2 0), (4, .ref 1000000 0)], [(2, .box [vi 0, vi 0]), (1000000, .box (tc el01Source aS))]⟩ ?_
  obtain ⟨x1, hx1, h⟩ := bind_some h
  refine SRun.estep (xe ents122 (spec_l02Good_run aS _ hx1)) ?_
  refine ckn tbokGB 2 ⟨27, [(0, .ref 1000000 0), (2, .ref 2 0), (3, .ref 3 0)], [(2, .box [vi 0, vi 0]), (3, .box (tc eSpan x1.1)), (1000000, .box (tc el01Source x1.2))]⟩ ?_
  refine swp_seq ?_
  refine sr ?_
  refine SRun.ck tbokGB 1 ⟨27, [(0, .ref 1000000 0), (2, .ref 2 0), (3, .ref 3 0), (6, .ref 1000000 0)], [(2, .box [vi 0, vi 0]), (3, .box (tc eSpan x1.1)), (1000000, .box (tc el01Source x1.2))]⟩ ?_
  obtain ⟨x2, hx2, h⟩ := bind_some h
  refine SRun.estep (xe ents61 (spec_l01Next_run x1.2 20 _ hx2)) ?_
  refine SRun.nx ?_
  refine swp_seqJ h (fun j3 => ⟨27, [(2, .ref 2 0), (3, .ref 3 0)], [(2, .box [vi 0, vi 0]), (3, .box (tc eSpan j3.1)), (1000000, .box (tc el01Source j3.2))]⟩) (fun v4 h => ?_) (fun j3 h => ?_)
  refine swp_blk (a := v4) ?_
  refine srk tbokGB ⟨27, [(0, .ref 1000000 0), (2, .ref 2 0), (3, .ref 3 0), (7, vi x2.1), (8, vb (x2.1 == 0))], [(2, .box [vi 0, vi 0]), (3, .box (tc eSpan x1.1)), (1000000, .box (tc el01Source x2.2))]⟩ ?_
  refine swp_cd h (fun h => ?_) fun h => ?_
  refine swp_reg ?_
  refine SRun.ck tbokGB 5 ⟨27, [(2, .ref 2 0), (3, .ref 3 0)], [(2, .box [vi 0, vi 0]), (3, .box [vi x1.1.From, vi (w64 (x1.1.From - 1))]), (1000000, .box (tc el01Source x2.2))]⟩ ?_
  refine SRun.nil ?_
  obtain rfl := inj h
  exact q_bn (q_j (Le.sub0))
  refine srk tbokGB ⟨27, [(0, .ref 1000000 0), (2, .ref 2 0), (3, .ref 3 0), (7, vi x2.1), (14, vb (x2.1 == 1))], [(2, .box [vi 0, vi 0]), (3, .box (tc eSpan x1.1)), (1000000, .box (tc el01Source x2.2))]⟩ ?_
  refine swp_cd h (fun h => ?_) fun h => ?_
  refine swp_reg ?_
  refine SRun.ck tbokGB 2 ⟨27, [(2, .ref 2 0), (3, .ref 3 0), (16, .ref 1000000 0), (17, .own 17)], [(2, .box [vi 0, vi 0]), (3, .box (tc eSpan x1.1)), (17, oa 2 1 (eI .i64) ([(-3000), (-3001), 3001] : List Int)), (1000000, .box (tc el01Source x2.2))]⟩ ?_
  refine SRun.le (Le.frz' (d := 17) (e := 2) (m := 1) (n := ([(-3000), (-3001), 3001] : List Int).length) (es := ([(-3000), (-3001), 3001] : List Int).map (eI .i64)) (by kernel_rfl) (by kernel_rfl)) ?_
  obtain ⟨x5, hx5, h⟩ := bind_some h
  refine SRun.estep (xe ents62 (spec_l01Pick_run x2.2 ([(-3000), (-3001), 3001] : List Int) _ hx5)) ?_
  refine SRun.ck tbokGB 2 ⟨27, [(2, .ref 2 0), (3, .ref 3 0)], [(2, .box [vi 0, vi 0]), (3, .box [vi x5.1, vi x1.1.To]), (1000000, .box (tc el01Source x5.2))]⟩ ?_
  refine SRun.nil ?_
  obtain rfl := inj h
  exact q_bn (q_j (Le.sub0))
  refine srk tbokGB ⟨27, [(0, .ref 1000000 0), (2, .ref 2 0), (3, .ref 3 0), (20, vb (x2.1 == 2))], [(2, .box [vi 0, vi 0]), (3, .box (tc eSpan x1.1)), (1000000, .box (tc el01Source x2.2))]⟩ ?_
  refine swp_cd h (fun h => ?_) fun h => ?_
  refine swp_reg ?_
  refine SRun.ck tbokGB 2 ⟨27, [(2, .ref 2 0), (3, .ref 3 0), (22, .ref 1000000 0), (23, .own 23)], [(2, .box [vi 0, vi 0]), (3, .box (tc eSpan x1.1)), (23, oa 2 1 (eI .i64) ([3000, 3001] : List Int)), (1000000, .box (tc el01Source x2.2))]⟩ ?_
  refine SRun.le (Le.frz' (d := 23) (e := 2) (m := 1) (n := ([3000, 3001] : List Int).length) (es := ([3000, 3001] : List Int).map (eI .i64)) (by kernel_rfl) (by kernel_rfl)) ?_
  obtain ⟨x6, hx6, h⟩ := bind_some h
  refine SRun.estep (xe ents62 (spec_l01Pick_run x2.2 ([3000, 3001] : List Int) _ hx6)) ?_
  refine SRun.ck tbokGB 2 ⟨27, [(2, .ref 2 0), (3, .ref 3 0)], [(2, .box [vi 0, vi 0]), (3, .box [vi x1.1.From, vi x6.1]), (1000000, .box (tc el01Source x6.2))]⟩ ?_
  refine SRun.nil ?_
  obtain rfl := inj h
  exact q_bn (q_j (Le.sub0))
  refine swp_skip ?_
  obtain rfl := inj h
  exact q_bn (q_j (Le.sub0))
  refine srk tbokGB ⟨27, [(2, .ref 2 0)], [(2, .box (tc eSpan j3.1)), (1000000, .box (tc el01Source j3.2))]⟩ ?_
  refine swp_ret ?_
  obtain rfl := inj h
  exact q_fr (fin_io (f1 (fc tbokGB)) (y := .box (tc el01Source j3.2)) (by kernel_rfl) rfl (by kernel_rfl) (by kernel_rfl))
theorem ents100 : Ents Tryz.prog 100 := ents_of Tryz.func100 (by kernel_rfl) rfl
noncomputable def spec_l09Draw (aS : l01Source) : Option (Name × l01Source) :=
  ((spec_l01GoodPhrase aS).bind fun x1 => ((spec_l01Next x1.2 4).bind fun x2 => ((at' ([(ByteArray.mk #[101, 110]), (ByteArray.mk #[100, 101]), (ByteArray.mk #[102, 114]), (ByteArray.mk #[108, 97, 116])] : List ByteArray) x2.1).bind fun x3 => ((spec_l01Pick x2.2 ([0, 0, 1, 2] : List Int)).bind fun x4 => ((spec_l02Good x4.2).bind fun x5 => ((spec_l01Next x5.2 30).bind fun x6 => (((bif (x6.1 == 0) then ((spec_l01DrawPhrase x6.2).bind fun x9 => some ((Name.mk x9.1 x3 x4.1 x5.1), x9.2)) else (bif (x6.1 == 1) then ((spec_l01Next x6.2 4).bind fun x10 => ((at' ([(ByteArray.mk #[101]), (ByteArray.mk #[101, 110, 103, 108]), (ByteArray.mk #[69, 78]), (ByteArray.mk #[97, 98, 99])] : List ByteArray) x10.1).bind fun x11 => some ((Name.mk x1.1 x11 x4.1 x5.1), x10.2))) else (bif (x6.1 == 2) then ((spec_l01Pick x6.2 ([(-1), 3] : List Int)).bind fun x12 => some ((Name.mk x1.1 x3 x12.1 x5.1), x12.2)) else (bif (x6.1 == 3) then ((spec_l02Draw x6.2).bind fun x13 => some ((Name.mk x1.1 x3 x4.1 x13.1), x13.2)) else some ((Name.mk x1.1 x3 x4.1 x5.1), x6.2)))))).bind fun (j7 : Name × l01Source) => some (j7.1, j7.2))))))))
theorem spec_l09Draw_run (aS : l01Source) (r : Name × l01Source) (h : spec_l09Draw aS = some r) : SCall Tryz.prog 120 [.o (.box [vl (eI .u8) aS.code, vi aS.at', vi aS.seed])] ⟨[.v (.agg (tc eName r.1))], [(0, .box (tc el01Source r.2))], false⟩ := by
  refine scall_in Tryz.func120 rfl [(.cell 2 95)] rfl (fun r => ⟨[.v (.agg (tc eName r.1))], [(0, .box (tc el01Source r.2))], false⟩) (r := r) ?_
  unfold spec_l09Draw at h
  refine srk tbokGB ⟨44, [(0, .ref 1000000 0), (2, .ref 2 0)], [(2, .box [vs (ByteArray.mk #[]), vs (ByteArray.mk #[]), vi 0, vi 0, vi 0]), (1000000, .box (tc el01Source aS))]⟩ ?_
  refine swp_seq ?_
  refine swp_drD [1000000] mixed ?_
  refine DGo.ck tbokGB false 1 ⟨44, [(0, .ref 1000000 0), (2, .ref 2 0), (4, .ref 1000000 0)], [(2, .box [vs (ByteArray.mk #[]), vs (ByteArray.mk #[]), vi 0, vi 0, vi 0]), (1000000, .box (tc el01Source aS))]⟩ ?_
  obtain ⟨x1, hx1, h⟩ := bind_some h
  refine DGo.write [] (xw ents138 (spec_l01GoodPhrase_run aS _ hx1)) ?_
  refine DGo.ck tbokGB false 2 ⟨44, [(0, .ref 1000000 0), (2, .ref 2 0), (5, vs x1.1), (6, .own 6), (7, .ref 1000000 0)], [(2, .box [vs (ByteArray.mk #[]), vs (ByteArray.mk #[]), vi 0, vi 0, vi 0]), (6, oa 9 1 eS ([(ByteArray.mk #[101, 110]), (ByteArray.mk #[100, 101]), (ByteArray.mk #[102, 114]), (ByteArray.mk #[108, 97, 116])] : List ByteArray)), (1000000, .box (tc el01Source x1.2))]⟩ ?_
  obtain ⟨x2, hx2, h⟩ := bind_some h
  refine DGo.write [] (xw ents61 (spec_l01Next_run x1.2 4 _ hx2)) ?_
  obtain ⟨x3, hx3, h⟩ := bind_some h
  refine DGo.stepW false [6] (x_index_own (d := 6) (L := ([(ByteArray.mk #[101, 110]), (ByteArray.mk #[100, 101]), (ByteArray.mk #[102, 114]), (ByteArray.mk #[108, 97, 116])] : List ByteArray)) (f := eS) (ti := ti53) (tj := ti9) (e := 9) (e' := 9) (m := 1) (k := .i64) tbokGB rfl hx3) ?_
  refine DGo.stepW false [6] (x_load_own (d := 6) (m := 1) (j := 0) (L := ([(ByteArray.mk #[101, 110]), (ByteArray.mk #[100, 101]), (ByteArray.mk #[102, 114]), (ByteArray.mk #[108, 97, 116])] : List ByteArray)) (f := eS) (ti := ti9) (e := 9) (v := vs x3) tbokGB rfl hx3) ?_
  refine DGo.ck tbokGB false 1 ⟨44, [(0, .ref 1000000 0), (2, .ref 2 0), (5, vs x1.1), (10, vs x3), (11, .ref 1000000 0)], [(2, .box [vs (ByteArray.mk #[]), vs (ByteArray.mk #[]), vi 0, vi 0, vi 0]), (1000000, .box (tc el01Source x2.2))]⟩ ?_
  refine DGo.step (x_frz tbokGB (d := 12) (e := 2) (m := 1) (([0, 0, 1, 2] : List Int).length) (([0, 0, 1, 2] : List Int).map (eI .i64))) ?_
  obtain ⟨x4, hx4, h⟩ := bind_some h
  refine DGo.write [] (xw ents62 (spec_l01Pick_run x2.2 ([0, 0, 1, 2] : List Int) _ hx4)) ?_
  refine DGo.ck tbokGB false 1 ⟨44, [(0, .ref 1000000 0), (2, .ref 2 0), (5, vs x1.1), (10, vs x3), (13, vi x4.1), (14, .ref 1000000 0)], [(2, .box [vs (ByteArray.mk #[]), vs (ByteArray.mk #[]), vi 0, vi 0, vi 0]), (1000000, .box (tc el01Source x4.2))]⟩ ?_
  obtain ⟨x5, hx5, h⟩ := bind_some h
  refine DGo.write [] (xw ents122 (spec_l02Good_run x4.2 _ hx5)) ?_
  refine DGo.step (x_lstep_build (v := .agg [vs x1.1, vs x3, vi x4.1, vi x5.1.From, vi x5.1.To]) tbokGB rfl) ?_
  refine DGo.ck tbokGB false 1 ⟨44, [(0, .ref 1000000 0), (2, .ref 2 0), (3, .ref 3 0), (16, .agg [vs x1.1, vs x3, vi x4.1, vi x5.1.From, vi x5.1.To])], [(2, .box [vs (ByteArray.mk #[]), vs (ByteArray.mk #[]), vi 0, vi 0, vi 0]), (3, .box [vs (ByteArray.mk #[]), vs (ByteArray.mk #[]), vi 0, vi 0, vi 0]), (1000000, .box (tc el01Source x5.2))]⟩ ?_
  refine DGo.seq (by kernel_rfl) (by kernel_rfl) ?_
  refine ckn tbokGB 1 ⟨44, [(0, .ref 1000000 0), (2, .ref 2 0), (3, .ref 3 0)], [(2, .box [vs (ByteArray.mk #[]), vs (ByteArray.mk #[]), vi 0, vi 0, vi 0]), (3, .box [vs x1.1, vs x3, vi x4.1, vi x5.1.From, vi x5.1.To]), (1000000, .box (tc el01Source x5.2))]⟩ ?_
  refine swp_seq ?_
  refine sr ?_
  refine SRun.ck tbokGB 1 ⟨44, [(0, .ref 1000000 0), (2, .ref 2 0), (3, .ref 3 0), (17, .ref 1000000 0)], [(2, .box [vs (ByteArray.mk #[]), vs (ByteArray.mk #[]), vi 0, vi 0, vi 0]), (3, .box [vs x1.1, vs x3, vi x4.1, vi x5.1.From, vi x5.1.To]), (1000000, .box (tc el01Source x5.2))]⟩ ?_
  obtain ⟨x6, hx6, h⟩ := bind_some h
  refine SRun.estep (xe ents61 (spec_l01Next_run x5.2 30 _ hx6)) ?_
  refine SRun.nx ?_
  refine swp_seqJ h (fun j7 => ⟨44, [(2, .ref 2 0), (3, .ref 3 0)], [(2, .box [vs (ByteArray.mk #[]), vs (ByteArray.mk #[]), vi 0, vi 0, vi 0]), (3, .box (tc eName j7.1)), (1000000, .box (tc el01Source j7.2))]⟩) (fun v8 h => ?_) (fun j7 h => ?_)
  refine swp_blk (a := v8) ?_
  refine srk tbokGB ⟨44, [(0, .ref 1000000 0), (2, .ref 2 0), (3, .ref 3 0), (18, vi x6.1), (19, vb (x6.1 == 0))], [(2, .box [vs (ByteArray.mk #[]), vs (ByteArray.mk #[]), vi 0, vi 0, vi 0]), (3, .box [vs x1.1, vs x3, vi x4.1, vi x5.1.From, vi x5.1.To]), (1000000, .box (tc el01Source x6.2))]⟩ ?_
  refine swp_cd h (fun h => ?_) fun h => ?_
  refine swp_reg ?_
  refine SRun.ck tbokGB 1 ⟨44, [(2, .ref 2 0), (3, .ref 3 0), (21, .ref 1000000 0)], [(2, .box [vs (ByteArray.mk #[]), vs (ByteArray.mk #[]), vi 0, vi 0, vi 0]), (3, .box [vs x1.1, vs x3, vi x4.1, vi x5.1.From, vi x5.1.To]), (1000000, .box (tc el01Source x6.2))]⟩ ?_
  obtain ⟨x9, hx9, h⟩ := bind_some h
  refine SRun.estep (xe ents139 (spec_l01DrawPhrase_run x6.2 _ hx9)) ?_
  refine SRun.ck tbokGB 2 ⟨44, [(2, .ref 2 0), (3, .ref 3 0)], [(2, .box [vs (ByteArray.mk #[]), vs (ByteArray.mk #[]), vi 0, vi 0, vi 0]), (3, .box [vs x9.1, vs x3, vi x4.1, vi x5.1.From, vi x5.1.To]), (1000000, .box (tc el01Source x9.2))]⟩ ?_
  refine SRun.nil ?_
  obtain rfl := inj h
  exact q_bn (q_j (Le.sub0))
  refine srk tbokGB ⟨44, [(0, .ref 1000000 0), (2, .ref 2 0), (3, .ref 3 0), (18, vi x6.1), (24, vb (x6.1 == 1))], [(2, .box [vs (ByteArray.mk #[]), vs (ByteArray.mk #[]), vi 0, vi 0, vi 0]), (3, .box [vs x1.1, vs x3, vi x4.1, vi x5.1.From, vi x5.1.To]), (1000000, .box (tc el01Source x6.2))]⟩ ?_
  refine swp_cd h (fun h => ?_) fun h => ?_
  refine swp_reg ?_
  refine SRun.ck tbokGB 2 ⟨44, [(2, .ref 2 0), (3, .ref 3 0), (26, .own 26), (27, .ref 1000000 0)], [(2, .box [vs (ByteArray.mk #[]), vs (ByteArray.mk #[]), vi 0, vi 0, vi 0]), (3, .box [vs x1.1, vs x3, vi x4.1, vi x5.1.From, vi x5.1.To]), (26, oa 9 1 eS ([(ByteArray.mk #[101]), (ByteArray.mk #[101, 110, 103, 108]), (ByteArray.mk #[69, 78]), (ByteArray.mk #[97, 98, 99])] : List ByteArray)), (1000000, .box (tc el01Source x6.2))]⟩ ?_
  obtain ⟨x10, hx10, h⟩ := bind_some h
  refine SRun.estep (xe ents61 (spec_l01Next_run x6.2 4 _ hx10)) ?_
  obtain ⟨x11, hx11, h⟩ := bind_some h
  refine SRun.ls (x_index_own (d := 26) (L := ([(ByteArray.mk #[101]), (ByteArray.mk #[101, 110, 103, 108]), (ByteArray.mk #[69, 78]), (ByteArray.mk #[97, 98, 99])] : List ByteArray)) (f := eS) (ti := ti53) (tj := ti9) (e := 9) (e' := 9) (m := 1) (k := .i64) tbokGB rfl hx11) ?_
  refine SRun.ls (x_load_own (d := 26) (m := 1) (j := 0) (L := ([(ByteArray.mk #[101]), (ByteArray.mk #[101, 110, 103, 108]), (ByteArray.mk #[69, 78]), (ByteArray.mk #[97, 98, 99])] : List ByteArray)) (f := eS) (ti := ti9) (e := 9) (v := vs x11) tbokGB rfl hx11) ?_
  refine SRun.ck tbokGB 2 ⟨44, [(2, .ref 2 0), (3, .ref 3 0)], [(2, .box [vs (ByteArray.mk #[]), vs (ByteArray.mk #[]), vi 0, vi 0, vi 0]), (3, .box [vs x1.1, vs x11, vi x4.1, vi x5.1.From, vi x5.1.To]), (1000000, .box (tc el01Source x10.2))]⟩ ?_
  refine SRun.nil ?_
  obtain rfl := inj h
  exact q_bn (q_j (Le.sub0))
  refine srk tbokGB ⟨44, [(0, .ref 1000000 0), (2, .ref 2 0), (3, .ref 3 0), (18, vi x6.1), (32, vb (x6.1 == 2))], [(2, .box [vs (ByteArray.mk #[]), vs (ByteArray.mk #[]), vi 0, vi 0, vi 0]), (3, .box [vs x1.1, vs x3, vi x4.1, vi x5.1.From, vi x5.1.To]), (1000000, .box (tc el01Source x6.2))]⟩ ?_
  refine swp_cd h (fun h => ?_) fun h => ?_
  refine swp_reg ?_
  refine SRun.ck tbokGB 2 ⟨44, [(2, .ref 2 0), (3, .ref 3 0), (34, .ref 1000000 0), (35, .own 35)], [(2, .box [vs (ByteArray.mk #[]), vs (ByteArray.mk #[]), vi 0, vi 0, vi 0]), (3, .box [vs x1.1, vs x3, vi x4.1, vi x5.1.From, vi x5.1.To]), (35, oa 2 1 (eI .i64) ([(-1), 3] : List Int)), (1000000, .box (tc el01Source x6.2))]⟩ ?_
  refine SRun.le (Le.frz' (d := 35) (e := 2) (m := 1) (n := ([(-1), 3] : List Int).length) (es := ([(-1), 3] : List Int).map (eI .i64)) (by kernel_rfl) (by kernel_rfl)) ?_
  obtain ⟨x12, hx12, h⟩ := bind_some h
  refine SRun.estep (xe ents62 (spec_l01Pick_run x6.2 ([(-1), 3] : List Int) _ hx12)) ?_
  refine SRun.ck tbokGB 2 ⟨44, [(2, .ref 2 0), (3, .ref 3 0)], [(2, .box [vs (ByteArray.mk #[]), vs (ByteArray.mk #[]), vi 0, vi 0, vi 0]), (3, .box [vs x1.1, vs x3, vi x12.1, vi x5.1.From, vi x5.1.To]), (1000000, .box (tc el01Source x12.2))]⟩ ?_
  refine SRun.nil ?_
  obtain rfl := inj h
  exact q_bn (q_j (Le.sub0))
  refine srk tbokGB ⟨44, [(0, .ref 1000000 0), (2, .ref 2 0), (3, .ref 3 0), (38, vb (x6.1 == 3))], [(2, .box [vs (ByteArray.mk #[]), vs (ByteArray.mk #[]), vi 0, vi 0, vi 0]), (3, .box [vs x1.1, vs x3, vi x4.1, vi x5.1.From, vi x5.1.To]), (1000000, .box (tc el01Source x6.2))]⟩ ?_
  refine swp_cd h (fun h => ?_) fun h => ?_
  refine swp_reg ?_
  refine SRun.ck tbokGB 1 ⟨44, [(2, .ref 2 0), (3, .ref 3 0), (40, .ref 1000000 0)], [(2, .box [vs (ByteArray.mk #[]), vs (ByteArray.mk #[]), vi 0, vi 0, vi 0]), (3, .box [vs x1.1, vs x3, vi x4.1, vi x5.1.From, vi x5.1.To]), (1000000, .box (tc el01Source x6.2))]⟩ ?_
  obtain ⟨x13, hx13, h⟩ := bind_some h
  refine SRun.estep (xe ents100 (spec_l02Draw_run x6.2 _ hx13)) ?_
  refine SRun.ck tbokGB 2 ⟨44, [(2, .ref 2 0), (3, .ref 3 0)], [(2, .box [vs (ByteArray.mk #[]), vs (ByteArray.mk #[]), vi 0, vi 0, vi 0]), (3, .box [vs x1.1, vs x3, vi x4.1, vi x13.1.From, vi x13.1.To]), (1000000, .box (tc el01Source x13.2))]⟩ ?_
  refine SRun.nil ?_
  obtain rfl := inj h
  exact q_bn (q_j (Le.sub0))
  refine swp_skip ?_
  obtain rfl := inj h
  exact q_bn (q_j (Le.sub0))
  refine srk tbokGB ⟨44, [(2, .ref 2 0)], [(2, .box (tc eName j7.1)), (1000000, .box (tc el01Source j7.2))]⟩ ?_
  refine swp_ret ?_
  obtain rfl := inj h
  exact q_fr (fin_io (f1 (fc tbokGB)) (y := .box (tc el01Source j7.2)) (by kernel_rfl) rfl (by kernel_rfl) (by kernel_rfl))
theorem ents120 : Ents Tryz.prog 120 := ents_of Tryz.func120 (by kernel_rfl) rfl
noncomputable def spec_l11Good (aS : l01Source) : Option (Place × l01Source) :=
  ((spec_l01Next aS 8).bind fun x1 => ((at' ([(ByteArray.mk #[97, 115, 104]), (ByteArray.mk #[98, 114, 105, 103]), (ByteArray.mk #[99, 111, 114, 107]), (ByteArray.mk #[100, 101, 118, 97]), (ByteArray.mk #[101, 108, 121]), (ByteArray.mk #[102, 105, 102, 101]), (ByteArray.mk #[103, 97, 116, 101]), (ByteArray.mk #[104, 117, 108, 108])] : List ByteArray) x1.1).bind fun x2 => ((spec_l01Next x1.2 6).bind fun x3 => ((spec_l01Next x3.2 600).bind fun x4 => ((spec_l01Next x4.2 1000).bind fun x5 => ((spec_l01Next x5.2 4).bind fun x6 => (((loop (fun (s9 : Int × ByteArray × Int × Int × Int × (List Name) × l01Source) => (bif (decide (s9.1 > 0)) then ((((spec_l09Draw s9.2.2.2.2.2.2).bind fun x13 => ((spec_l01Next x13.2 60).bind fun x14 => ((spec_l01Next x14.2 30).bind fun x15 => ((spec_l01Pick x15.2 ([0, x15.1] : List Int)).bind fun x16 => ((spec_l01Next x16.2 3).bind fun x17 => (((bif (x17.1 == 0) then ((spec_l01Next x17.2 2).bind fun x20 => ((at' ([(ByteArray.mk #[111, 108, 100, 32, 97, 115, 104]), (ByteArray.mk #[110, 101, 119, 116, 111, 110])] : List ByteArray) x20.1).bind fun x21 => some ((Name.mk x21 x13.1.Language x13.1.Status (Span.mk (w64 (s9.2.2.2.1 + x14.1)) (w64 (s9.2.2.2.2.1 - x16.1)))), x20.2))) else some ((Name.mk x13.1.Text x13.1.Language x13.1.Status (Span.mk (w64 (s9.2.2.2.1 + x14.1)) (w64 (s9.2.2.2.2.1 - x16.1)))), x17.2))).bind fun (j18 : Name × l01Source) => ((app' ([] : List Name) s9.2.2.2.2.2.1).bind fun x22 => ((app' x22 ([j18.1] : List Name)).bind fun x23 => ((((spec_AreNames x23).bind fun x24 => (bif x24 then some (decide (j18.1.Years.From ≤ j18.1.Years.To)) else some false))).bind fun (j25 : Bool) => (bif j25 then some (s9.2.1, s9.2.2.1, s9.2.2.2.1, s9.2.2.2.2.1, x23, j18.2) else some (s9.2.1, s9.2.2.1, s9.2.2.2.1, s9.2.2.2.2.1, s9.2.2.2.2.2.1, j18.2)))))))))))).bind fun (j11 : ByteArray × Int × Int × Int × (List Name) × l01Source) => some (.inl ((w64 (s9.1 - 1)), j11.1, j11.2.1, j11.2.2.1, j11.2.2.2.1, j11.2.2.2.2.1, j11.2.2.2.2.2))) else some (.inr (s9.2.1, s9.2.2.1, s9.2.2.2.1, s9.2.2.2.2.1, s9.2.2.2.2.2.1, s9.2.2.2.2.2.2)))) (x6.1, x2, x3.1, (w64 (1000 + x4.1)), (w64 ((w64 ((w64 (1000 + x4.1)) + 100)) + x5.1)), ([] : List Name), x6.2))).bind fun (j7 : ByteArray × Int × Int × Int × (List Name) × l01Source) => some ((Place.mk j7.1 j7.2.1 (Span.mk j7.2.2.1 j7.2.2.2.1) j7.2.2.2.2.1), j7.2.2.2.2.2))))))))
theorem spec_l11Good_run (aS : l01Source) (r : Place × l01Source) (h : spec_l11Good aS = some r) : SCall Tryz.prog 98 [.o (.box [vl (eI .u8) aS.code, vi aS.at', vi aS.seed])] ⟨[.part [vs r.1.Code, vi r.1.Class, vi r.1.Years.From, vi r.1.Years.To] [] (oa 95 5 eName r.1.Names)], [(0, .box (tc el01Source r.2))], false⟩ := by
  refine scall_in Tryz.func98 rfl [(.cell 2 41)] rfl (fun r => ⟨[.part [vs r.1.Code, vi r.1.Class, vi r.1.Years.From, vi r.1.Years.To] [] (oa 95 5 eName r.1.Names)], [(0, .box (tc el01Source r.2))], false⟩) (r := r) ?_
  unfold spec_l11Good at h
  refine srk tbokGB ⟨84, [(0, .ref 1000000 0), (2, .ref 2 0)], [(2, .box [vs (ByteArray.mk #[]), vi 0, vi 0, vi 0, vl eName ([] : List Name)]), (1000000, .box (tc el01Source aS))]⟩ ?_
  refine swp_seq ?_
  refine swp_drD [1000000] mixed ?_
  refine DGo.ck tbokGB false 2 ⟨84, [(0, .ref 1000000 0), (2, .ref 2 0), (7, .own 7), (8, .ref 1000000 0)], [(2, .box [vs (ByteArray.mk #[]), vi 0, vi 0, vi 0, vl eName ([] : List Name)]), (7, oa 9 1 eS ([(ByteArray.mk #[97, 115, 104]), (ByteArray.mk #[98, 114, 105, 103]), (ByteArray.mk #[99, 111, 114, 107]), (ByteArray.mk #[100, 101, 118, 97]), (ByteArray.mk #[101, 108, 121]), (ByteArray.mk #[102, 105, 102, 101]), (ByteArray.mk #[103, 97, 116, 101]), (ByteArray.mk #[104, 117, 108, 108])] : List ByteArray)), (1000000, .box (tc el01Source aS))]⟩ ?_
  obtain ⟨x1, hx1, h⟩ := bind_some h
  refine DGo.write [] (xw ents61 (spec_l01Next_run aS 8 _ hx1)) ?_
  obtain ⟨x2, hx2, h⟩ := bind_some h
  refine DGo.stepW false [7] (x_index_own (d := 7) (L := ([(ByteArray.mk #[97, 115, 104]), (ByteArray.mk #[98, 114, 105, 103]), (ByteArray.mk #[99, 111, 114, 107]), (ByteArray.mk #[100, 101, 118, 97]), (ByteArray.mk #[101, 108, 121]), (ByteArray.mk #[102, 105, 102, 101]), (ByteArray.mk #[103, 97, 116, 101]), (ByteArray.mk #[104, 117, 108, 108])] : List ByteArray)) (f := eS) (ti := ti53) (tj := ti9) (e := 9) (e' := 9) (m := 1) (k := .i64) tbokGB rfl hx2) ?_
  refine DGo.stepW false [7] (x_load_own (d := 7) (m := 1) (j := 0) (L := ([(ByteArray.mk #[97, 115, 104]), (ByteArray.mk #[98, 114, 105, 103]), (ByteArray.mk #[99, 111, 114, 107]), (ByteArray.mk #[100, 101, 118, 97]), (ByteArray.mk #[101, 108, 121]), (ByteArray.mk #[102, 105, 102, 101]), (ByteArray.mk #[103, 97, 116, 101]), (ByteArray.mk #[104, 117, 108, 108])] : List ByteArray)) (f := eS) (ti := ti9) (e := 9) (v := vs x2) tbokGB rfl hx2) ?_
  refine DGo.ck tbokGB false 1 ⟨84, [(0, .ref 1000000 0), (2, .ref 2 0), (11, vs x2), (12, .ref 1000000 0)], [(2, .box [vs (ByteArray.mk #[]), vi 0, vi 0, vi 0, vl eName ([] : List Name)]), (1000000, .box (tc el01Source x1.2))]⟩ ?_
  obtain ⟨x3, hx3, h⟩ := bind_some h
  refine DGo.write [] (xw ents61 (spec_l01Next_run x1.2 6 _ hx3)) ?_
  refine DGo.ck tbokGB false 1 ⟨84, [(0, .ref 1000000 0), (2, .ref 2 0), (11, vs x2), (13, vi x3.1), (14, .ref 1000000 0)], [(2, .box [vs (ByteArray.mk #[]), vi 0, vi 0, vi 0, vl eName ([] : List Name)]), (1000000, .box (tc el01Source x3.2))]⟩ ?_
  obtain ⟨x4, hx4, h⟩ := bind_some h
  refine DGo.write [] (xw ents61 (spec_l01Next_run x3.2 600 _ hx4)) ?_
  refine DGo.ck tbokGB false 1 ⟨84, [(0, .ref 1000000 0), (2, .ref 2 0), (11, vs x2), (13, vi x3.1), (16, vi (w64 (1000 + x4.1)))], [(2, .box [vs (ByteArray.mk #[]), vi 0, vi 0, vi 0, vl eName ([] : List Name)]), (1000000, .box (tc el01Source x4.2))]⟩ ?_
  refine DGo.step (x_lstep_build (v := .agg [vi (w64 (1000 + x4.1)), vi 0]) tbokGB rfl) ?_
  refine DGo.ck tbokGB false 1 ⟨84, [(0, .ref 1000000 0), (2, .ref 2 0), (11, vs x2), (13, vi x3.1), (17, .agg [vi (w64 (1000 + x4.1)), vi 0]), (18, .own 18)], [(2, .box [vs (ByteArray.mk #[]), vi 0, vi 0, vi 0, vl eName ([] : List Name)]), (18, oa 95 5 eName ([] : List Name)), (1000000, .box (tc el01Source x4.2))]⟩ ?_
  refine DGo.stepW false [18] (x_lstep_build (v := .agg [vs x2, vi x3.1, vi (w64 (1000 + x4.1)), vi 0, .own 18]) tbokGB rfl) ?_
  refine DGo.ck tbokGB false 1 ⟨84, [(0, .ref 1000000 0), (2, .ref 2 0), (3, .ref 3 0), (19, .agg [vs x2, vi x3.1, vi (w64 (1000 + x4.1)), vi 0, .own 18])], [(2, .box [vs (ByteArray.mk #[]), vi 0, vi 0, vi 0, vl eName ([] : List Name)]), (3, .box [vs (ByteArray.mk #[]), vi 0, vi 0, vi 0, vl eName ([] : List Name)]), (18, oa 95 5 eName ([] : List Name)), (1000000, .box (tc el01Source x4.2))]⟩ ?_
  refine DGo.seq (by kernel_rfl) (by kernel_rfl) ?_
  refine ckn tbokGB 1 ⟨84, [(0, .ref 1000000 0), (2, .ref 2 0), (3, .ref 3 0)], [(2, .box [vs (ByteArray.mk #[]), vi 0, vi 0, vi 0, vl eName ([] : List Name)]), (3, .box [vs x2, vi x3.1, vi (w64 (1000 + x4.1)), vi 0, .own 18]), (18, oa 95 5 eName ([] : List Name)), (1000000, .box (tc el01Source x4.2))]⟩ ?_
  refine swp_seq ?_
  refine swp_drD [1000000] mixed ?_
  refine DGo.ck tbokGB false 5 ⟨84, [(0, .ref 1000000 0), (2, .ref 2 0), (3, .ref 3 0), (23, vi (w64 ((w64 (1000 + x4.1)) + 100))), (24, .ref 1000000 0)], [(2, .box [vs (ByteArray.mk #[]), vi 0, vi 0, vi 0, vl eName ([] : List Name)]), (3, .box [vs x2, vi x3.1, vi (w64 (1000 + x4.1)), vi 0, .own 18]), (18, oa 95 5 eName ([] : List Name)), (1000000, .box (tc el01Source x4.2))]⟩ ?_
  obtain ⟨x5, hx5, h⟩ := bind_some h
  refine DGo.write [] (xw ents61 (spec_l01Next_run x4.2 1000 _ hx5)) ?_
  refine DGo.ck tbokGB false 3 ⟨84, [(0, .ref 1000000 0), (2, .ref 2 0), (3, .ref 3 0), (26, vi (w64 ((w64 ((w64 (1000 + x4.1)) + 100)) + x5.1))), (28, .ref 3 3)], [(2, .box [vs (ByteArray.mk #[]), vi 0, vi 0, vi 0, vl eName ([] : List Name)]), (3, .box [vs x2, vi x3.1, vi (w64 (1000 + x4.1)), vi 0, .own 18]), (18, oa 95 5 eName ([] : List Name)), (1000000, .box (tc el01Source x5.2))]⟩ ?_
  refine DGo.seq (by kernel_rfl) (by kernel_rfl) ?_
  refine ckn tbokGB 1 ⟨84, [(0, .ref 1000000 0), (2, .ref 2 0), (3, .ref 3 0)], [(2, .box [vs (ByteArray.mk #[]), vi 0, vi 0, vi 0, vl eName ([] : List Name)]), (3, .box [vs x2, vi x3.1, vi (w64 (1000 + x4.1)), vi (w64 ((w64 ((w64 (1000 + x4.1)) + 100)) + x5.1)), .own 18]), (18, oa 95 5 eName ([] : List Name)), (1000000, .box (tc el01Source x5.2))]⟩ ?_
  refine swp_seq ?_
  refine sr ?_
  refine SRun.ck tbokGB 1 ⟨84, [(0, .ref 1000000 0), (2, .ref 2 0), (3, .ref 3 0), (29, .ref 1000000 0)], [(2, .box [vs (ByteArray.mk #[]), vi 0, vi 0, vi 0, vl eName ([] : List Name)]), (3, .box [vs x2, vi x3.1, vi (w64 (1000 + x4.1)), vi (w64 ((w64 ((w64 (1000 + x4.1)) + 100)) + x5.1)), .own 18]), (18, oa 95 5 eName ([] : List Name)), (1000000, .box (tc el01Source x5.2))]⟩ ?_
  obtain ⟨x6, hx6, h⟩ := bind_some h
  refine SRun.estep (xe ents61 (spec_l01Next_run x5.2 4 _ hx6)) ?_
  refine ckn tbokGB 1 ⟨84, [(0, .ref 1000000 0), (2, .ref 2 0), (3, .ref 3 0), (4, vi x6.1)], [(2, .box [vs (ByteArray.mk #[]), vi 0, vi 0, vi 0, vl eName ([] : List Name)]), (3, .box [vs x2, vi x3.1, vi (w64 (1000 + x4.1)), vi (w64 ((w64 ((w64 (1000 + x4.1)) + 100)) + x5.1)), .own 18]), (18, oa 95 5 eName ([] : List Name)), (1000000, .box (tc el01Source x6.2))]⟩ ?_
  refine swp_seqJ h (fun j7 => ⟨84, [(2, .ref 2 0), (3, .ref 3 0)], [(2, .box [vs (ByteArray.mk #[]), vi 0, vi 0, vi 0, vl eName ([] : List Name)]), (3, .box [vs j7.1, vi j7.2.1, vi j7.2.2.1, vi j7.2.2.2.1, .own 18]), (18, oa 95 5 eName j7.2.2.2.2.1), (1000000, .box (tc el01Source j7.2.2.2.2.2))]⟩) (fun v8 h => ?_) (fun j7 h => ?_)
  refine swp_blk (a := v8) ?_
  refine swp_lpL (r := v8) (s := (x6.1, x2, x3.1, (w64 (1000 + x4.1)), (w64 ((w64 ((w64 (1000 + x4.1)) + 100)) + x5.1)), ([] : List Name), x6.2)) _ (fun s9 => ⟨84, [(0, .ref 1000000 0), (2, .ref 2 0), (3, .ref 3 0), (4, vi s9.1)], [(2, .box [vs (ByteArray.mk #[]), vi 0, vi 0, vi 0, vl eName ([] : List Name)]), (3, .box [vs s9.2.1, vi s9.2.2.1, vi s9.2.2.2.1, vi s9.2.2.2.2.1, .own 18]), (18, oa 95 5 eName s9.2.2.2.2.2.1), (1000000, .box (tc el01Source s9.2.2.2.2.2.2))]⟩) _ (Le.sub0) h (fun s9 v10 h => ?_)
  refine swp_seq ?_
  refine srk tbokGB ⟨84, [(0, .ref 1000000 0), (2, .ref 2 0), (3, .ref 3 0), (4, vi s9.1), (32, vb (decide (s9.1 > 0)))], [(2, .box [vs (ByteArray.mk #[]), vi 0, vi 0, vi 0, vl eName ([] : List Name)]), (3, .box [vs s9.2.1, vi s9.2.2.1, vi s9.2.2.2.1, vi s9.2.2.2.2.1, .own 18]), (18, oa 95 5 eName s9.2.2.2.2.2.1), (1000000, .box (tc el01Source s9.2.2.2.2.2.2))]⟩ ?_
  refine swp_cd h (fun h => ?_) fun h => ?_
  refine swp_skip ?_
  refine nx_n ?_
  refine swp_seq ?_
  refine swp_seqJ h (fun j11 => ⟨84, [(0, .ref 1000000 0), (2, .ref 2 0), (3, .ref 3 0), (4, vi s9.1)], [(2, .box [vs (ByteArray.mk #[]), vi 0, vi 0, vi 0, vl eName ([] : List Name)]), (3, .box [vs j11.1, vi j11.2.1, vi j11.2.2.1, vi j11.2.2.2.1, .own 18]), (18, oa 95 5 eName j11.2.2.2.2.1), (1000000, .box (tc el01Source j11.2.2.2.2.2))]⟩) (fun v12 h => ?_) (fun j11 h => ?_)
  refine swp_blk (a := v12) ?_
  refine sr ?_
  refine SRun.ck tbokGB 1 ⟨84, [(0, .ref 1000000 0), (2, .ref 2 0), (3, .ref 3 0), (4, vi s9.1), (35, .ref 1000000 0)], [(2, .box [vs (ByteArray.mk #[]), vi 0, vi 0, vi 0, vl eName ([] : List Name)]), (3, .box [vs s9.2.1, vi s9.2.2.1, vi s9.2.2.2.1, vi s9.2.2.2.2.1, .own 18]), (18, oa 95 5 eName s9.2.2.2.2.2.1), (1000000, .box (tc el01Source s9.2.2.2.2.2.2))]⟩ ?_
  obtain ⟨x13, hx13, h⟩ := bind_some h
  refine SRun.estep (xe ents120 (spec_l09Draw_run s9.2.2.2.2.2.2 _ hx13)) ?_
  refine ckn tbokGB 2 ⟨84, [(0, .ref 1000000 0), (2, .ref 2 0), (3, .ref 3 0), (4, vi s9.1), (5, .ref 5 0)], [(2, .box [vs (ByteArray.mk #[]), vi 0, vi 0, vi 0, vl eName ([] : List Name)]), (3, .box [vs s9.2.1, vi s9.2.2.1, vi s9.2.2.2.1, vi s9.2.2.2.2.1, .own 18]), (5, .box (tc eName x13.1)), (18, oa 95 5 eName s9.2.2.2.2.2.1), (1000000, .box (tc el01Source x13.2))]⟩ ?_
  refine swp_seq ?_
  refine swp_drD [1000000] mixed ?_
  refine DGo.ck tbokGB false 4 ⟨84, [(0, .ref 1000000 0), (2, .ref 2 0), (3, .ref 3 0), (4, vi s9.1), (5, .ref 5 0), (39, vi s9.2.2.2.1), (40, .ref 1000000 0)], [(2, .box [vs (ByteArray.mk #[]), vi 0, vi 0, vi 0, vl eName ([] : List Name)]), (3, .box [vs s9.2.1, vi s9.2.2.1, vi s9.2.2.2.1, vi s9.2.2.2.2.1, .own 18]), (5, .box (tc eName x13.1)), (18, oa 95 5 eName s9.2.2.2.2.2.1), (1000000, .box (tc el01Source x13.2))]⟩ ?_
  obtain ⟨x14, hx14, h⟩ := bind_some h
  refine DGo.write [] (xw ents61 (spec_l01Next_run x13.2 60 _ hx14)) ?_
  refine DGo.ck tbokGB false 6 ⟨84, [(0, .ref 1000000 0), (2, .ref 2 0), (3, .ref 3 0), (4, vi s9.1), (5, .ref 5 0), (42, vi (w64 (s9.2.2.2.1 + x14.1))), (45, vi s9.2.2.2.2.1), (46, .ref 1000000 0), (47, .ref 1000000 0)], [(2, .box [vs (ByteArray.mk #[]), vi 0, vi 0, vi 0, vl eName ([] : List Name)]), (3, .box [vs s9.2.1, vi s9.2.2.1, vi s9.2.2.2.1, vi s9.2.2.2.2.1, .own 18]), (5, .box (tc eName x13.1)), (18, oa 95 5 eName s9.2.2.2.2.2.1), (1000000, .box (tc el01Source x14.2))]⟩ ?_
  obtain ⟨x15, hx15, h⟩ := bind_some h
  refine DGo.write [] (xw ents61 (spec_l01Next_run x14.2 30 _ hx15)) ?_
  refine DGo.step (x_frz tbokGB (d := 49) (e := 2) (m := 1) (([0, x15.1] : List Int).length) (([0, x15.1] : List Int).map (eI .i64))) ?_
  obtain ⟨x16, hx16, h⟩ := bind_some h
  refine DGo.write [] (xw ents62 (spec_l01Pick_run x15.2 ([0, x15.1] : List Int) _ hx16)) ?_
  refine DGo.ck tbokGB false 1 ⟨84, [(0, .ref 1000000 0), (2, .ref 2 0), (3, .ref 3 0), (4, vi s9.1), (5, .ref 5 0), (42, vi (w64 (s9.2.2.2.1 + x14.1))), (51, vi (w64 (s9.2.2.2.2.1 - x16.1)))], [(2, .box [vs (ByteArray.mk #[]), vi 0, vi 0, vi 0, vl eName ([] : List Name)]), (3, .box [vs s9.2.1, vi s9.2.2.1, vi s9.2.2.2.1, vi s9.2.2.2.2.1, .own 18]), (5, .box (tc eName x13.1)), (18, oa 95 5 eName s9.2.2.2.2.2.1), (1000000, .box (tc el01Source x16.2))]⟩ ?_
  refine DGo.step (x_lstep_build (v := .agg [vi (w64 (s9.2.2.2.1 + x14.1)), vi (w64 (s9.2.2.2.2.1 - x16.1))]) tbokGB rfl) ?_
  refine DGo.ck tbokGB false 1 ⟨84, [(0, .ref 1000000 0), (2, .ref 2 0), (3, .ref 3 0), (4, vi s9.1), (5, .ref 5 0), (52, .agg [vi (w64 (s9.2.2.2.1 + x14.1)), vi (w64 (s9.2.2.2.2.1 - x16.1))]), (53, .ref 5 3)], [(2, .box [vs (ByteArray.mk #[]), vi 0, vi 0, vi 0, vl eName ([] : List Name)]), (3, .box [vs s9.2.1, vi s9.2.2.1, vi s9.2.2.2.1, vi s9.2.2.2.2.1, .own 18]), (5, .box (tc eName x13.1)), (18, oa 95 5 eName s9.2.2.2.2.2.1), (1000000, .box (tc el01Source x16.2))]⟩ ?_
  refine DGo.seq (by kernel_rfl) (by kernel_rfl) ?_
  refine ckn tbokGB 1 ⟨84, [(0, .ref 1000000 0), (2, .ref 2 0), (3, .ref 3 0), (4, vi s9.1), (5, .ref 5 0)], [(2, .box [vs (ByteArray.mk #[]), vi 0, vi 0, vi 0, vl eName ([] : List Name)]), (3, .box [vs s9.2.1, vi s9.2.2.1, vi s9.2.2.2.1, vi s9.2.2.2.2.1, .own 18]), (5, .box [vs x13.1.Text, vs x13.1.Language, vi x13.1.Status, vi (w64 (s9.2.2.2.1 + x14.1)), vi (w64 (s9.2.2.2.2.1 - x16.1))]), (18, oa 95 5 eName s9.2.2.2.2.2.1), (1000000, .box (tc el01Source x16.2))]⟩ ?_
  refine swp_seq ?_
  refine sr ?_
  refine SRun.ck tbokGB 1 ⟨84, [(0, .ref 1000000 0), (2, .ref 2 0), (3, .ref 3 0), (4, vi s9.1), (5, .ref 5 0), (54, .ref 1000000 0)], [(2, .box [vs (ByteArray.mk #[]), vi 0, vi 0, vi 0, vl eName ([] : List Name)]), (3, .box [vs s9.2.1, vi s9.2.2.1, vi s9.2.2.2.1, vi s9.2.2.2.2.1, .own 18]), (5, .box [vs x13.1.Text, vs x13.1.Language, vi x13.1.Status, vi (w64 (s9.2.2.2.1 + x14.1)), vi (w64 (s9.2.2.2.2.1 - x16.1))]), (18, oa 95 5 eName s9.2.2.2.2.2.1), (1000000, .box (tc el01Source x16.2))]⟩ ?_
  obtain ⟨x17, hx17, h⟩ := bind_some h
  refine SRun.estep (xe ents61 (spec_l01Next_run x16.2 3 _ hx17)) ?_
  refine ckn tbokGB 1 ⟨84, [(0, .ref 1000000 0), (2, .ref 2 0), (3, .ref 3 0), (4, vi s9.1), (5, .ref 5 0), (56, vb (x17.1 == 0))], [(2, .box [vs (ByteArray.mk #[]), vi 0, vi 0, vi 0, vl eName ([] : List Name)]), (3, .box [vs s9.2.1, vi s9.2.2.1, vi s9.2.2.2.1, vi s9.2.2.2.2.1, .own 18]), (5, .box [vs x13.1.Text, vs x13.1.Language, vi x13.1.Status, vi (w64 (s9.2.2.2.1 + x14.1)), vi (w64 (s9.2.2.2.2.1 - x16.1))]), (18, oa 95 5 eName s9.2.2.2.2.2.1), (1000000, .box (tc el01Source x17.2))]⟩ ?_
  refine swp_seqJ h (fun j18 => ⟨84, [(0, .ref 1000000 0), (2, .ref 2 0), (3, .ref 3 0), (4, vi s9.1), (5, .ref 5 0)], [(2, .box [vs (ByteArray.mk #[]), vi 0, vi 0, vi 0, vl eName ([] : List Name)]), (3, .box [vs s9.2.1, vi s9.2.2.1, vi s9.2.2.2.1, vi s9.2.2.2.2.1, .own 18]), (5, .box (tc eName j18.1)), (18, oa 95 5 eName s9.2.2.2.2.2.1), (1000000, .box (tc el01Source j18.2))]⟩) (fun v19 h => ?_) (fun j18 h => ?_)
  refine swp_cd h (fun h => ?_) fun h => ?_
  refine swp_reg ?_
  refine SRun.ck tbokGB 2 ⟨84, [(0, .ref 1000000 0), (2, .ref 2 0), (3, .ref 3 0), (4, vi s9.1), (5, .ref 5 0), (57, .own 57), (58, .ref 1000000 0)], [(2, .box [vs (ByteArray.mk #[]), vi 0, vi 0, vi 0, vl eName ([] : List Name)]), (3, .box [vs s9.2.1, vi s9.2.2.1, vi s9.2.2.2.1, vi s9.2.2.2.2.1, .own 18]), (5, .box [vs x13.1.Text, vs x13.1.Language, vi x13.1.Status, vi (w64 (s9.2.2.2.1 + x14.1)), vi (w64 (s9.2.2.2.2.1 - x16.1))]), (18, oa 95 5 eName s9.2.2.2.2.2.1), (57, oa 9 1 eS ([(ByteArray.mk #[111, 108, 100, 32, 97, 115, 104]), (ByteArray.mk #[110, 101, 119, 116, 111, 110])] : List ByteArray)), (1000000, .box (tc el01Source x17.2))]⟩ ?_
  obtain ⟨x20, hx20, h⟩ := bind_some h
  refine SRun.estep (xe ents61 (spec_l01Next_run x17.2 2 _ hx20)) ?_
  obtain ⟨x21, hx21, h⟩ := bind_some h
  refine SRun.ls (x_index_own (d := 57) (L := ([(ByteArray.mk #[111, 108, 100, 32, 97, 115, 104]), (ByteArray.mk #[110, 101, 119, 116, 111, 110])] : List ByteArray)) (f := eS) (ti := ti53) (tj := ti9) (e := 9) (e' := 9) (m := 1) (k := .i64) tbokGB rfl hx21) ?_
  refine SRun.ls (x_load_own (d := 57) (m := 1) (j := 0) (L := ([(ByteArray.mk #[111, 108, 100, 32, 97, 115, 104]), (ByteArray.mk #[110, 101, 119, 116, 111, 110])] : List ByteArray)) (f := eS) (ti := ti9) (e := 9) (v := vs x21) tbokGB rfl hx21) ?_
  refine SRun.ck tbokGB 2 ⟨84, [(0, .ref 1000000 0), (2, .ref 2 0), (3, .ref 3 0), (4, vi s9.1), (5, .ref 5 0)], [(2, .box [vs (ByteArray.mk #[]), vi 0, vi 0, vi 0, vl eName ([] : List Name)]), (3, .box [vs s9.2.1, vi s9.2.2.1, vi s9.2.2.2.1, vi s9.2.2.2.2.1, .own 18]), (5, .box [vs x21, vs x13.1.Language, vi x13.1.Status, vi (w64 (s9.2.2.2.1 + x14.1)), vi (w64 (s9.2.2.2.2.1 - x16.1))]), (18, oa 95 5 eName s9.2.2.2.2.2.1), (1000000, .box (tc el01Source x20.2))]⟩ ?_
  refine SRun.nil ?_
  obtain rfl := inj h
  exact q_j (Le.sub0)
  refine swp_skip ?_
  obtain rfl := inj h
  exact q_j (Le.sub0)
  refine swp_seq ?_
  obtain ⟨x22, hx22, h⟩ := bind_some h
  obtain ⟨x23, hx23, h⟩ := bind_some h
  refine swp_dr mixed ?_
  refine DGo.enum (σE := ⟨84, [(0, .ref 1000000 0), (2, .ref 2 0), (3, .ref 3 0), (4, vi s9.1), (5, .ref 5 0), (6, .own 69)], [(2, .box [vs (ByteArray.mk #[]), vi 0, vi 0, vi 0, vl eName ([] : List Name)]), (3, .box [vs s9.2.1, vi s9.2.2.1, vi s9.2.2.2.1, vi s9.2.2.2.2.1, .own 18]), (5, .box (tc eName j18.1)), (18, oa 95 5 eName s9.2.2.2.2.2.1), (69, oa 95 5 eName x23), (1000000, .box (tc el01Source j18.2))]⟩) (n := 8) (L0 := #[false, false, false, false, false, false, false, false]) (by kernel_rfl) (by kernel_rfl) (fun K hk => ?_) ?_
  refine DE.share (fuel := 0) (L := #[true, true, true, true, true, true, true, true]) (σ := ⟨84, [(0, .ref 1000000 0), (2, .ref 2 0), (3, .ref 3 0), (4, vi s9.1), (5, .ref 5 0), (6, .own 69)], [(2, .box [vs (ByteArray.mk #[]), vi 0, vi 0, vi 0, vl eName ([] : List Name)]), (3, .box [vs s9.2.1, vi s9.2.2.1, vi s9.2.2.2.1, vi s9.2.2.2.2.1, .own 18]), (5, .box (tc eName j18.1)), (18, oa 95 5 eName s9.2.2.2.2.2.1), (69, oa 95 5 eName x23), (1000000, .box (tc el01Source j18.2))]⟩) ?_ (fun d22 => ?_)
  exact DE.done (by kernel_rfl) hk
  refine DE.share (fuel := 1) (L := #[true, true, true, true, true, true, true, false]) (σ := ⟨84, [(0, .ref 1000000 0), (2, .ref 2 0), (3, .ref 3 0), (4, vi s9.1), (5, .ref 5 0), (69, .own 69)], [(2, .box [vs (ByteArray.mk #[]), vi 0, vi 0, vi 0, vl eName ([] : List Name)]), (3, .box [vs s9.2.1, vi s9.2.2.1, vi s9.2.2.2.1, vi s9.2.2.2.2.1, .own 18]), (5, .box (tc eName j18.1)), (18, oa 95 5 eName s9.2.2.2.2.2.1), (69, oa 95 5 eName x23), (1000000, .box (tc el01Source j18.2))]⟩) ?_ (fun d21 => ?_)
  exact DE.take (i := 7) (L' := #[true, true, true, true, true, true, true, true]) rfl (.inr rfl) rfl (by kernel_rfl) (by kernel_rfl) (by kernel_rfl) (EStep.le (EStep.ofN2 tbokGB (σ' := ⟨84, [(6, .own 69), (0, .ref 1000000 0), (2, .ref 2 0), (3, .ref 3 0), (4, vi s9.1), (5, .ref 5 0), (69, .own 69)], [(2, .box [vs (ByteArray.mk #[]), vi 0, vi 0, vi 0, vl eName ([] : List Name)]), (3, .box [vs s9.2.1, vi s9.2.2.1, vi s9.2.2.2.1, vi s9.2.2.2.2.1, .own 18]), (5, .box (tc eName j18.1)), (18, oa 95 5 eName s9.2.2.2.2.2.1), (69, oa 95 5 eName x23), (1000000, .box (tc el01Source j18.2))]⟩) (by kernel_rfl)) Le.sub0) (by kernel_rfl) d22
  refine DE.share (fuel := 2) (L := #[true, true, true, true, true, true, false, false]) (σ := ⟨84, [(0, .ref 1000000 0), (2, .ref 2 0), (3, .ref 3 0), (4, vi s9.1), (5, .ref 5 0), (66, .own 66), (68, .own 68)], [(2, .box [vs (ByteArray.mk #[]), vi 0, vi 0, vi 0, vl eName ([] : List Name)]), (3, .box [vs s9.2.1, vi s9.2.2.1, vi s9.2.2.2.1, vi s9.2.2.2.2.1, .own 18]), (5, .box (tc eName j18.1)), (18, oa 95 5 eName s9.2.2.2.2.2.1), (66, oa 95 5 eName x22), (68, oa 95 5 eName ([j18.1] : List Name)), (1000000, .box (tc el01Source j18.2))]⟩) ?_ (fun d20 => ?_)
  exact DE.all [6] (by kernel_rfl) (by simp) (List.forall_mem_cons.2 ⟨DEs.mk (i := 6) (L' := #[true, true, true, true, true, true, true, false]) rfl (EStep.le (x_append (f := eName) (t := 39) (ti := ti39) (tj := ti95) (zs := [.string (ByteArray.mk #[]), .string (ByteArray.mk #[]), .int .i64 0, .int .i64 0, .int .i64 0]) (e := 95) (m := 5) (d := 66) (xv := .own 68) hx23 tbokGB rfl rfl rfl rfl (x_src_o (e := 95))) Le.sub0) (by kernel_rfl) d21, (fun _ h => absurd h List.not_mem_nil)⟩)
  refine DE.share (fuel := 3) (L := #[true, true, true, false, true, true, false, false]) (σ := ⟨84, [(0, .ref 1000000 0), (2, .ref 2 0), (3, .ref 3 0), (4, vi s9.1), (5, .ref 5 0), (63, .own 63), (65, .own 18), (68, .own 68)], [(2, .box [vs (ByteArray.mk #[]), vi 0, vi 0, vi 0, vl eName ([] : List Name)]), (3, .box [vs s9.2.1, vi s9.2.2.1, vi s9.2.2.2.1, vi s9.2.2.2.2.1, .own 18]), (5, .box (tc eName j18.1)), (18, oa 95 5 eName s9.2.2.2.2.2.1), (63, oa 95 5 eName ([] : List Name)), (68, oa 95 5 eName ([j18.1] : List Name)), (1000000, .box (tc el01Source j18.2))]⟩) ?_ (fun d19 => ?_)
  exact DE.all [3] (by kernel_rfl) (by simp) (List.forall_mem_cons.2 ⟨DEs.mk (i := 3) (L' := #[true, true, true, true, true, true, false, false]) rfl (EStep.le (x_append (f := eName) (t := 39) (ti := ti39) (tj := ti95) (zs := [.string (ByteArray.mk #[]), .string (ByteArray.mk #[]), .int .i64 0, .int .i64 0, .int .i64 0]) (e := 95) (m := 5) (d := 63) (xv := .own 18) hx22 tbokGB rfl rfl rfl rfl (x_src_o (e := 95))) Le.sub0) (by kernel_rfl) d20, (fun _ h => absurd h List.not_mem_nil)⟩)
  refine DE.share (fuel := 3) (L := #[true, true, true, true, true, false, false, false]) (σ := ⟨84, [(0, .ref 1000000 0), (2, .ref 2 0), (3, .ref 3 0), (4, vi s9.1), (5, .ref 5 0), (66, .own 66), (67, .agg (tc eName j18.1))], [(2, .box [vs (ByteArray.mk #[]), vi 0, vi 0, vi 0, vl eName ([] : List Name)]), (3, .box [vs s9.2.1, vi s9.2.2.1, vi s9.2.2.2.1, vi s9.2.2.2.2.1, .own 18]), (5, .box (tc eName j18.1)), (18, oa 95 5 eName s9.2.2.2.2.2.1), (66, oa 95 5 eName x22), (1000000, .box (tc el01Source j18.2))]⟩) ?_ (fun d18 => ?_)
  exact DE.all [5] (by kernel_rfl) (by simp) (List.forall_mem_cons.2 ⟨DEs.mk (i := 5) (L' := #[true, true, true, true, true, true, false, false]) rfl (EStep.le (EStep.ofN2 tbokGB (σ' := ⟨84, [(68, .own 68), (0, .ref 1000000 0), (2, .ref 2 0), (3, .ref 3 0), (4, vi s9.1), (5, .ref 5 0), (66, .own 66), (67, .agg (tc eName j18.1))], [(68, oa 95 5 eName ([j18.1] : List Name)), (2, .box [vs (ByteArray.mk #[]), vi 0, vi 0, vi 0, vl eName ([] : List Name)]), (3, .box [vs s9.2.1, vi s9.2.2.1, vi s9.2.2.2.1, vi s9.2.2.2.2.1, .own 18]), (5, .box (tc eName j18.1)), (18, oa 95 5 eName s9.2.2.2.2.2.1), (66, oa 95 5 eName x22), (1000000, .box (tc el01Source j18.2))]⟩) (by kernel_rfl)) Le.sub0) (by kernel_rfl) d20, (fun _ h => absurd h List.not_mem_nil)⟩)
  refine DE.share (fuel := 4) (L := #[false, true, true, false, true, true, false, false]) (σ := ⟨84, [(0, .ref 1000000 0), (2, .ref 2 0), (3, .ref 3 0), (4, vi s9.1), (5, .ref 5 0), (65, .own 18), (68, .own 68)], [(2, .box [vs (ByteArray.mk #[]), vi 0, vi 0, vi 0, vl eName ([] : List Name)]), (3, .box [vs s9.2.1, vi s9.2.2.1, vi s9.2.2.2.1, vi s9.2.2.2.2.1, .own 18]), (5, .box (tc eName j18.1)), (18, oa 95 5 eName s9.2.2.2.2.2.1), (68, oa 95 5 eName ([j18.1] : List Name)), (1000000, .box (tc el01Source j18.2))]⟩) ?_ (fun d17 => ?_)
  exact DE.all [0] (by kernel_rfl) (by simp) (List.forall_mem_cons.2 ⟨DEs.mk (i := 0) (L' := #[true, true, true, false, true, true, false, false]) rfl (EStep.le (EStep.ofN2 tbokGB (σ' := ⟨84, [(63, .own 63), (0, .ref 1000000 0), (2, .ref 2 0), (3, .ref 3 0), (4, vi s9.1), (5, .ref 5 0), (65, .own 18), (68, .own 68)], [(63, oa 95 5 eName ([] : List Name)), (2, .box [vs (ByteArray.mk #[]), vi 0, vi 0, vi 0, vl eName ([] : List Name)]), (3, .box [vs s9.2.1, vi s9.2.2.1, vi s9.2.2.2.1, vi s9.2.2.2.2.1, .own 18]), (5, .box (tc eName j18.1)), (18, oa 95 5 eName s9.2.2.2.2.2.1), (68, oa 95 5 eName ([j18.1] : List Name)), (1000000, .box (tc el01Source j18.2))]⟩) (by kernel_rfl)) Le.sub0) (by kernel_rfl) d19, (fun _ h => absurd h List.not_mem_nil)⟩)
  refine DE.share (fuel := 4) (L := #[true, true, false, false, true, true, false, false]) (σ := ⟨84, [(0, .ref 1000000 0), (2, .ref 2 0), (3, .ref 3 0), (4, vi s9.1), (5, .ref 5 0), (63, .own 63), (64, .ref 3 4), (68, .own 68)], [(2, .box [vs (ByteArray.mk #[]), vi 0, vi 0, vi 0, vl eName ([] : List Name)]), (3, .box [vs s9.2.1, vi s9.2.2.1, vi s9.2.2.2.1, vi s9.2.2.2.2.1, .own 18]), (5, .box (tc eName j18.1)), (18, oa 95 5 eName s9.2.2.2.2.2.1), (63, oa 95 5 eName ([] : List Name)), (68, oa 95 5 eName ([j18.1] : List Name)), (1000000, .box (tc el01Source j18.2))]⟩) ?_ (fun d16 => ?_)
  exact DE.all [2] (by kernel_rfl) (by simp) (List.forall_mem_cons.2 ⟨DEs.mk (i := 2) (L' := #[true, true, true, false, true, true, false, false]) rfl (EStep.le (EStep.ofN2 tbokGB (σ' := ⟨84, [(65, .own 18), (0, .ref 1000000 0), (2, .ref 2 0), (3, .ref 3 0), (4, vi s9.1), (5, .ref 5 0), (63, .own 63), (64, .ref 3 4), (68, .own 68)], [(2, .box [vs (ByteArray.mk #[]), vi 0, vi 0, vi 0, vl eName ([] : List Name)]), (3, .box [vs s9.2.1, vi s9.2.2.1, vi s9.2.2.2.1, vi s9.2.2.2.2.1, .own 18]), (5, .box (tc eName j18.1)), (18, oa 95 5 eName s9.2.2.2.2.2.1), (63, oa 95 5 eName ([] : List Name)), (68, oa 95 5 eName ([j18.1] : List Name)), (1000000, .box (tc el01Source j18.2))]⟩) (by kernel_rfl)) Le.sub0) (by kernel_rfl) d19, (fun _ h => absurd h List.not_mem_nil)⟩)
  refine DE.share (fuel := 4) (L := #[true, true, true, false, true, false, false, false]) (σ := ⟨84, [(0, .ref 1000000 0), (2, .ref 2 0), (3, .ref 3 0), (4, vi s9.1), (5, .ref 5 0), (63, .own 63), (65, .own 18), (67, .agg (tc eName j18.1))], [(2, .box [vs (ByteArray.mk #[]), vi 0, vi 0, vi 0, vl eName ([] : List Name)]), (3, .box [vs s9.2.1, vi s9.2.2.1, vi s9.2.2.2.1, vi s9.2.2.2.2.1, .own 18]), (5, .box (tc eName j18.1)), (18, oa 95 5 eName s9.2.2.2.2.2.1), (63, oa 95 5 eName ([] : List Name)), (1000000, .box (tc el01Source j18.2))]⟩) ?_ (fun d15 => ?_)
  exact DE.all [3, 5] (by kernel_rfl) (by simp) (List.forall_mem_cons.2 ⟨DEs.mk (i := 3) (L' := #[true, true, true, true, true, false, false, false]) rfl (EStep.le (x_append (f := eName) (t := 39) (ti := ti39) (tj := ti95) (zs := [.string (ByteArray.mk #[]), .string (ByteArray.mk #[]), .int .i64 0, .int .i64 0, .int .i64 0]) (e := 95) (m := 5) (d := 63) (xv := .own 18) hx22 tbokGB rfl rfl rfl rfl (x_src_o (e := 95))) Le.sub0) (by kernel_rfl) d18, (List.forall_mem_cons.2 ⟨DEs.mk (i := 5) (L' := #[true, true, true, false, true, true, false, false]) rfl (EStep.le (EStep.ofN2 tbokGB (σ' := ⟨84, [(68, .own 68), (0, .ref 1000000 0), (2, .ref 2 0), (3, .ref 3 0), (4, vi s9.1), (5, .ref 5 0), (63, .own 63), (65, .own 18), (67, .agg (tc eName j18.1))], [(68, oa 95 5 eName ([j18.1] : List Name)), (2, .box [vs (ByteArray.mk #[]), vi 0, vi 0, vi 0, vl eName ([] : List Name)]), (3, .box [vs s9.2.1, vi s9.2.2.1, vi s9.2.2.2.1, vi s9.2.2.2.2.1, .own 18]), (5, .box (tc eName j18.1)), (18, oa 95 5 eName s9.2.2.2.2.2.1), (63, oa 95 5 eName ([] : List Name)), (1000000, .box (tc el01Source j18.2))]⟩) (by kernel_rfl)) Le.sub0) (by kernel_rfl) d19, (fun _ h => absurd h List.not_mem_nil)⟩)⟩)
  refine DE.share (fuel := 4) (L := #[true, true, true, true, false, false, false, false]) (σ := ⟨84, [(0, .ref 1000000 0), (2, .ref 2 0), (3, .ref 3 0), (4, vi s9.1), (5, .ref 5 0), (66, .own 66)], [(2, .box [vs (ByteArray.mk #[]), vi 0, vi 0, vi 0, vl eName ([] : List Name)]), (3, .box [vs s9.2.1, vi s9.2.2.1, vi s9.2.2.2.1, vi s9.2.2.2.2.1, .own 18]), (5, .box (tc eName j18.1)), (18, oa 95 5 eName s9.2.2.2.2.2.1), (66, oa 95 5 eName x22), (1000000, .box (tc el01Source j18.2))]⟩) ?_ (fun d14 => ?_)
  exact DE.all [4] (by kernel_rfl) (by simp) (List.forall_mem_cons.2 ⟨DEs.mk (i := 4) (L' := #[true, true, true, true, true, false, false, false]) rfl (EStep.le (EStep.ofN2 tbokGB (σ' := ⟨84, [(67, .agg (tc eName j18.1)), (0, .ref 1000000 0), (2, .ref 2 0), (3, .ref 3 0), (4, vi s9.1), (5, .ref 5 0), (66, .own 66)], [(2, .box [vs (ByteArray.mk #[]), vi 0, vi 0, vi 0, vl eName ([] : List Name)]), (3, .box [vs s9.2.1, vi s9.2.2.1, vi s9.2.2.2.1, vi s9.2.2.2.2.1, .own 18]), (5, .box (tc eName j18.1)), (18, oa 95 5 eName s9.2.2.2.2.2.1), (66, oa 95 5 eName x22), (1000000, .box (tc el01Source j18.2))]⟩) (by kernel_rfl)) Le.sub0) (by kernel_rfl) d18, (fun _ h => absurd h List.not_mem_nil)⟩)
  refine DE.share (fuel := 5) (L := #[false, true, false, false, true, true, false, false]) (σ := ⟨84, [(0, .ref 1000000 0), (2, .ref 2 0), (3, .ref 3 0), (4, vi s9.1), (5, .ref 5 0), (64, .ref 3 4), (68, .own 68)], [(2, .box [vs (ByteArray.mk #[]), vi 0, vi 0, vi 0, vl eName ([] : List Name)]), (3, .box [vs s9.2.1, vi s9.2.2.1, vi s9.2.2.2.1, vi s9.2.2.2.2.1, .own 18]), (5, .box (tc eName j18.1)), (18, oa 95 5 eName s9.2.2.2.2.2.1), (68, oa 95 5 eName ([j18.1] : List Name)), (1000000, .box (tc el01Source j18.2))]⟩) ?_ (fun d13 => ?_)
  exact DE.all [0, 2] (by kernel_rfl) (by simp) (List.forall_mem_cons.2 ⟨DEs.mk (i := 0) (L' := #[true, true, false, false, true, true, false, false]) rfl (EStep.le (EStep.ofN2 tbokGB (σ' := ⟨84, [(63, .own 63), (0, .ref 1000000 0), (2, .ref 2 0), (3, .ref 3 0), (4, vi s9.1), (5, .ref 5 0), (64, .ref 3 4), (68, .own 68)], [(63, oa 95 5 eName ([] : List Name)), (2, .box [vs (ByteArray.mk #[]), vi 0, vi 0, vi 0, vl eName ([] : List Name)]), (3, .box [vs s9.2.1, vi s9.2.2.1, vi s9.2.2.2.1, vi s9.2.2.2.2.1, .own 18]), (5, .box (tc eName j18.1)), (18, oa 95 5 eName s9.2.2.2.2.2.1), (68, oa 95 5 eName ([j18.1] : List Name)), (1000000, .box (tc el01Source j18.2))]⟩) (by kernel_rfl)) Le.sub0) (by kernel_rfl) d16, (List.forall_mem_cons.2 ⟨DEs.mk (i := 2) (L' := #[false, true, true, false, true, true, false, false]) rfl (EStep.le (EStep.ofN2 tbokGB (σ' := ⟨84, [(65, .own 18), (0, .ref 1000000 0), (2, .ref 2 0), (3, .ref 3 0), (4, vi s9.1), (5, .ref 5 0), (64, .ref 3 4), (68, .own 68)], [(2, .box [vs (ByteArray.mk #[]), vi 0, vi 0, vi 0, vl eName ([] : List Name)]), (3, .box [vs s9.2.1, vi s9.2.2.1, vi s9.2.2.2.1, vi s9.2.2.2.2.1, .own 18]), (5, .box (tc eName j18.1)), (18, oa 95 5 eName s9.2.2.2.2.2.1), (68, oa 95 5 eName ([j18.1] : List Name)), (1000000, .box (tc el01Source j18.2))]⟩) (by kernel_rfl)) Le.sub0) (by kernel_rfl) d17, (fun _ h => absurd h List.not_mem_nil)⟩)⟩)
  refine DE.share (fuel := 5) (L := #[false, true, true, false, true, false, false, false]) (σ := ⟨84, [(0, .ref 1000000 0), (2, .ref 2 0), (3, .ref 3 0), (4, vi s9.1), (5, .ref 5 0), (65, .own 18), (67, .agg (tc eName j18.1))], [(2, .box [vs (ByteArray.mk #[]), vi 0, vi 0, vi 0, vl eName ([] : List Name)]), (3, .box [vs s9.2.1, vi s9.2.2.1, vi s9.2.2.2.1, vi s9.2.2.2.2.1, .own 18]), (5, .box (tc eName j18.1)), (18, oa 95 5 eName s9.2.2.2.2.2.1), (1000000, .box (tc el01Source j18.2))]⟩) ?_ (fun d12 => ?_)
  exact DE.all [0, 5] (by kernel_rfl) (by simp) (List.forall_mem_cons.2 ⟨DEs.mk (i := 0) (L' := #[true, true, true, false, true, false, false, false]) rfl (EStep.le (EStep.ofN2 tbokGB (σ' := ⟨84, [(63, .own 63), (0, .ref 1000000 0), (2, .ref 2 0), (3, .ref 3 0), (4, vi s9.1), (5, .ref 5 0), (65, .own 18), (67, .agg (tc eName j18.1))], [(63, oa 95 5 eName ([] : List Name)), (2, .box [vs (ByteArray.mk #[]), vi 0, vi 0, vi 0, vl eName ([] : List Name)]), (3, .box [vs s9.2.1, vi s9.2.2.1, vi s9.2.2.2.1, vi s9.2.2.2.2.1, .own 18]), (5, .box (tc eName j18.1)), (18, oa 95 5 eName s9.2.2.2.2.2.1), (1000000, .box (tc el01Source j18.2))]⟩) (by kernel_rfl)) Le.sub0) (by kernel_rfl) d15, (List.forall_mem_cons.2 ⟨DEs.mk (i := 5) (L' := #[false, true, true, false, true, true, false, false]) rfl (EStep.le (EStep.ofN2 tbokGB (σ' := ⟨84, [(68, .own 68), (0, .ref 1000000 0), (2, .ref 2 0), (3, .ref 3 0), (4, vi s9.1), (5, .ref 5 0), (65, .own 18), (67, .agg (tc eName j18.1))], [(68, oa 95 5 eName ([j18.1] : List Name)), (2, .box [vs (ByteArray.mk #[]), vi 0, vi 0, vi 0, vl eName ([] : List Name)]), (3, .box [vs s9.2.1, vi s9.2.2.1, vi s9.2.2.2.1, vi s9.2.2.2.2.1, .own 18]), (5, .box (tc eName j18.1)), (18, oa 95 5 eName s9.2.2.2.2.2.1), (1000000, .box (tc el01Source j18.2))]⟩) (by kernel_rfl)) Le.sub0) (by kernel_rfl) d17, (fun _ h => absurd h List.not_mem_nil)⟩)⟩)
  refine DE.share (fuel := 5) (L := #[true, false, false, false, true, true, false, false]) (σ := ⟨84, [(0, .ref 1000000 0), (2, .ref 2 0), (3, .ref 3 0), (4, vi s9.1), (5, .ref 5 0), (63, .own 63), (68, .own 68)], [(2, .box [vs (ByteArray.mk #[]), vi 0, vi 0, vi 0, vl eName ([] : List Name)]), (3, .box [vs s9.2.1, vi s9.2.2.1, vi s9.2.2.2.1, vi s9.2.2.2.2.1, .own 18]), (5, .box (tc eName j18.1)), (18, oa 95 5 eName s9.2.2.2.2.2.1), (63, oa 95 5 eName ([] : List Name)), (68, oa 95 5 eName ([j18.1] : List Name)), (1000000, .box (tc el01Source j18.2))]⟩) ?_ (fun d11 => ?_)
  exact DE.all [1] (by kernel_rfl) (by simp) (List.forall_mem_cons.2 ⟨DEs.mk (i := 1) (L' := #[true, true, false, false, true, true, false, false]) rfl (EStep.le (EStep.ofN2 tbokGB (σ' := ⟨84, [(64, .ref 3 4), (0, .ref 1000000 0), (2, .ref 2 0), (3, .ref 3 0), (4, vi s9.1), (5, .ref 5 0), (63, .own 63), (68, .own 68)], [(2, .box [vs (ByteArray.mk #[]), vi 0, vi 0, vi 0, vl eName ([] : List Name)]), (3, .box [vs s9.2.1, vi s9.2.2.1, vi s9.2.2.2.1, vi s9.2.2.2.2.1, .own 18]), (5, .box (tc eName j18.1)), (18, oa 95 5 eName s9.2.2.2.2.2.1), (63, oa 95 5 eName ([] : List Name)), (68, oa 95 5 eName ([j18.1] : List Name)), (1000000, .box (tc el01Source j18.2))]⟩) (by kernel_rfl)) Le.sub0) (by kernel_rfl) d16, (fun _ h => absurd h List.not_mem_nil)⟩)
  refine DE.share (fuel := 5) (L := #[true, true, false, false, true, false, false, false]) (σ := ⟨84, [(0, .ref 1000000 0), (2, .ref 2 0), (3, .ref 3 0), (4, vi s9.1), (5, .ref 5 0), (63, .own 63), (64, .ref 3 4), (67, .agg (tc eName j18.1))], [(2, .box [vs (ByteArray.mk #[]), vi 0, vi 0, vi 0, vl eName ([] : List Name)]), (3, .box [vs s9.2.1, vi s9.2.2.1, vi s9.2.2.2.1, vi s9.2.2.2.2.1, .own 18]), (5, .box (tc eName j18.1)), (18, oa 95 5 eName s9.2.2.2.2.2.1), (63, oa 95 5 eName ([] : List Name)), (1000000, .box (tc el01Source j18.2))]⟩) ?_ (fun d10 => ?_)
  exact DE.all [2, 5] (by kernel_rfl) (by simp) (List.forall_mem_cons.2 ⟨DEs.mk (i := 2) (L' := #[true, true, true, false, true, false, false, false]) rfl (EStep.le (EStep.ofN2 tbokGB (σ' := ⟨84, [(65, .own 18), (0, .ref 1000000 0), (2, .ref 2 0), (3, .ref 3 0), (4, vi s9.1), (5, .ref 5 0), (63, .own 63), (64, .ref 3 4), (67, .agg (tc eName j18.1))], [(2, .box [vs (ByteArray.mk #[]), vi 0, vi 0, vi 0, vl eName ([] : List Name)]), (3, .box [vs s9.2.1, vi s9.2.2.1, vi s9.2.2.2.1, vi s9.2.2.2.2.1, .own 18]), (5, .box (tc eName j18.1)), (18, oa 95 5 eName s9.2.2.2.2.2.1), (63, oa 95 5 eName ([] : List Name)), (1000000, .box (tc el01Source j18.2))]⟩) (by kernel_rfl)) Le.sub0) (by kernel_rfl) d15, (List.forall_mem_cons.2 ⟨DEs.mk (i := 5) (L' := #[true, true, false, false, true, true, false, false]) rfl (EStep.le (EStep.ofN2 tbokGB (σ' := ⟨84, [(68, .own 68), (0, .ref 1000000 0), (2, .ref 2 0), (3, .ref 3 0), (4, vi s9.1), (5, .ref 5 0), (63, .own 63), (64, .ref 3 4), (67, .agg (tc eName j18.1))], [(68, oa 95 5 eName ([j18.1] : List Name)), (2, .box [vs (ByteArray.mk #[]), vi 0, vi 0, vi 0, vl eName ([] : List Name)]), (3, .box [vs s9.2.1, vi s9.2.2.1, vi s9.2.2.2.1, vi s9.2.2.2.2.1, .own 18]), (5, .box (tc eName j18.1)), (18, oa 95 5 eName s9.2.2.2.2.2.1), (63, oa 95 5 eName ([] : List Name)), (1000000, .box (tc el01Source j18.2))]⟩) (by kernel_rfl)) Le.sub0) (by kernel_rfl) d16, (fun _ h => absurd h List.not_mem_nil)⟩)⟩)
  refine DE.share (fuel := 5) (L := #[true, true, true, false, false, false, false, false]) (σ := ⟨84, [(0, .ref 1000000 0), (2, .ref 2 0), (3, .ref 3 0), (4, vi s9.1), (5, .ref 5 0), (63, .own 63), (65, .own 18)], [(2, .box [vs (ByteArray.mk #[]), vi 0, vi 0, vi 0, vl eName ([] : List Name)]), (3, .box [vs s9.2.1, vi s9.2.2.1, vi s9.2.2.2.1, vi s9.2.2.2.2.1, .own 18]), (5, .box (tc eName j18.1)), (18, oa 95 5 eName s9.2.2.2.2.2.1), (63, oa 95 5 eName ([] : List Name)), (1000000, .box (tc el01Source j18.2))]⟩) ?_ (fun d9 => ?_)
  exact DE.all [3, 4] (by kernel_rfl) (by simp) (List.forall_mem_cons.2 ⟨DEs.mk (i := 3) (L' := #[true, true, true, true, false, false, false, false]) rfl (EStep.le (x_append (f := eName) (t := 39) (ti := ti39) (tj := ti95) (zs := [.string (ByteArray.mk #[]), .string (ByteArray.mk #[]), .int .i64 0, .int .i64 0, .int .i64 0]) (e := 95) (m := 5) (d := 63) (xv := .own 18) hx22 tbokGB rfl rfl rfl rfl (x_src_o (e := 95))) Le.sub0) (by kernel_rfl) d14, (List.forall_mem_cons.2 ⟨DEs.mk (i := 4) (L' := #[true, true, true, false, true, false, false, false]) rfl (EStep.le (EStep.ofN2 tbokGB (σ' := ⟨84, [(67, .agg (tc eName j18.1)), (0, .ref 1000000 0), (2, .ref 2 0), (3, .ref 3 0), (4, vi s9.1), (5, .ref 5 0), (63, .own 63), (65, .own 18)], [(2, .box [vs (ByteArray.mk #[]), vi 0, vi 0, vi 0, vl eName ([] : List Name)]), (3, .box [vs s9.2.1, vi s9.2.2.1, vi s9.2.2.2.1, vi s9.2.2.2.2.1, .own 18]), (5, .box (tc eName j18.1)), (18, oa 95 5 eName s9.2.2.2.2.2.1), (63, oa 95 5 eName ([] : List Name)), (1000000, .box (tc el01Source j18.2))]⟩) (by kernel_rfl)) Le.sub0) (by kernel_rfl) d15, (fun _ h => absurd h List.not_mem_nil)⟩)⟩)
  refine DE.share (fuel := 6) (L := #[false, false, false, false, true, true, false, false]) (σ := ⟨84, [(0, .ref 1000000 0), (2, .ref 2 0), (3, .ref 3 0), (4, vi s9.1), (5, .ref 5 0), (68, .own 68)], [(2, .box [vs (ByteArray.mk #[]), vi 0, vi 0, vi 0, vl eName ([] : List Name)]), (3, .box [vs s9.2.1, vi s9.2.2.1, vi s9.2.2.2.1, vi s9.2.2.2.2.1, .own 18]), (5, .box (tc eName j18.1)), (18, oa 95 5 eName s9.2.2.2.2.2.1), (68, oa 95 5 eName ([j18.1] : List Name)), (1000000, .box (tc el01Source j18.2))]⟩) ?_ (fun d8 => ?_)
  exact DE.all [0, 1] (by kernel_rfl) (by simp) (List.forall_mem_cons.2 ⟨DEs.mk (i := 0) (L' := #[true, false, false, false, true, true, false, false]) rfl (EStep.le (EStep.ofN2 tbokGB (σ' := ⟨84, [(63, .own 63), (0, .ref 1000000 0), (2, .ref 2 0), (3, .ref 3 0), (4, vi s9.1), (5, .ref 5 0), (68, .own 68)], [(63, oa 95 5 eName ([] : List Name)), (2, .box [vs (ByteArray.mk #[]), vi 0, vi 0, vi 0, vl eName ([] : List Name)]), (3, .box [vs s9.2.1, vi s9.2.2.1, vi s9.2.2.2.1, vi s9.2.2.2.2.1, .own 18]), (5, .box (tc eName j18.1)), (18, oa 95 5 eName s9.2.2.2.2.2.1), (68, oa 95 5 eName ([j18.1] : List Name)), (1000000, .box (tc el01Source j18.2))]⟩) (by kernel_rfl)) Le.sub0) (by kernel_rfl) d11, (List.forall_mem_cons.2 ⟨DEs.mk (i := 1) (L' := #[false, true, false, false, true, true, false, false]) rfl (EStep.le (EStep.ofN2 tbokGB (σ' := ⟨84, [(64, .ref 3 4), (0, .ref 1000000 0), (2, .ref 2 0), (3, .ref 3 0), (4, vi s9.1), (5, .ref 5 0), (68, .own 68)], [(2, .box [vs (ByteArray.mk #[]), vi 0, vi 0, vi 0, vl eName ([] : List Name)]), (3, .box [vs s9.2.1, vi s9.2.2.1, vi s9.2.2.2.1, vi s9.2.2.2.2.1, .own 18]), (5, .box (tc eName j18.1)), (18, oa 95 5 eName s9.2.2.2.2.2.1), (68, oa 95 5 eName ([j18.1] : List Name)), (1000000, .box (tc el01Source j18.2))]⟩) (by kernel_rfl)) Le.sub0) (by kernel_rfl) d13, (fun _ h => absurd h List.not_mem_nil)⟩)⟩)
  refine DE.share (fuel := 6) (L := #[false, true, false, false, true, false, false, false]) (σ := ⟨84, [(0, .ref 1000000 0), (2, .ref 2 0), (3, .ref 3 0), (4, vi s9.1), (5, .ref 5 0), (64, .ref 3 4), (67, .agg (tc eName j18.1))], [(2, .box [vs (ByteArray.mk #[]), vi 0, vi 0, vi 0, vl eName ([] : List Name)]), (3, .box [vs s9.2.1, vi s9.2.2.1, vi s9.2.2.2.1, vi s9.2.2.2.2.1, .own 18]), (5, .box (tc eName j18.1)), (18, oa 95 5 eName s9.2.2.2.2.2.1), (1000000, .box (tc el01Source j18.2))]⟩) ?_ (fun d7 => ?_)
  exact DE.all [0, 2, 5] (by kernel_rfl) (by simp) (List.forall_mem_cons.2 ⟨DEs.mk (i := 0) (L' := #[true, true, false, false, true, false, false, false]) rfl (EStep.le (EStep.ofN2 tbokGB (σ' := ⟨84, [(63, .own 63), (0, .ref 1000000 0), (2, .ref 2 0), (3, .ref 3 0), (4, vi s9.1), (5, .ref 5 0), (64, .ref 3 4), (67, .agg (tc eName j18.1))], [(63, oa 95 5 eName ([] : List Name)), (2, .box [vs (ByteArray.mk #[]), vi 0, vi 0, vi 0, vl eName ([] : List Name)]), (3, .box [vs s9.2.1, vi s9.2.2.1, vi s9.2.2.2.1, vi s9.2.2.2.2.1, .own 18]), (5, .box (tc eName j18.1)), (18, oa 95 5 eName s9.2.2.2.2.2.1), (1000000, .box (tc el01Source j18.2))]⟩) (by kernel_rfl)) Le.sub0) (by kernel_rfl) d10, (List.forall_mem_cons.2 ⟨DEs.mk (i := 2) (L' := #[false, true, true, false, true, false, false, false]) rfl (EStep.le (EStep.ofN2 tbokGB (σ' := ⟨84, [(65, .own 18), (0, .ref 1000000 0), (2, .ref 2 0), (3, .ref 3 0), (4, vi s9.1), (5, .ref 5 0), (64, .ref 3 4), (67, .agg (tc eName j18.1))], [(2, .box [vs (ByteArray.mk #[]), vi 0, vi 0, vi 0, vl eName ([] : List Name)]), (3, .box [vs s9.2.1, vi s9.2.2.1, vi s9.2.2.2.1, vi s9.2.2.2.2.1, .own 18]), (5, .box (tc eName j18.1)), (18, oa 95 5 eName s9.2.2.2.2.2.1), (1000000, .box (tc el01Source j18.2))]⟩) (by kernel_rfl)) Le.sub0) (by kernel_rfl) d12, (List.forall_mem_cons.2 ⟨DEs.mk (i := 5) (L' := #[false, true, false, false, true, true, false, false]) rfl (EStep.le (EStep.ofN2 tbokGB (σ' := ⟨84, [(68, .own 68), (0, .ref 1000000 0), (2, .ref 2 0), (3, .ref 3 0), (4, vi s9.1), (5, .ref 5 0), (64, .ref 3 4), (67, .agg (tc eName j18.1))], [(68, oa 95 5 eName ([j18.1] : List Name)), (2, .box [vs (ByteArray.mk #[]), vi 0, vi 0, vi 0, vl eName ([] : List Name)]), (3, .box [vs s9.2.1, vi s9.2.2.1, vi s9.2.2.2.1, vi s9.2.2.2.2.1, .own 18]), (5, .box (tc eName j18.1)), (18, oa 95 5 eName s9.2.2.2.2.2.1), (1000000, .box (tc el01Source j18.2))]⟩) (by kernel_rfl)) Le.sub0) (by kernel_rfl) d13, (fun _ h => absurd h List.not_mem_nil)⟩)⟩)⟩)
  refine DE.share (fuel := 6) (L := #[false, true, true, false, false, false, false, false]) (σ := ⟨84, [(0, .ref 1000000 0), (2, .ref 2 0), (3, .ref 3 0), (4, vi s9.1), (5, .ref 5 0), (65, .own 18)], [(2, .box [vs (ByteArray.mk #[]), vi 0, vi 0, vi 0, vl eName ([] : List Name)]), (3, .box [vs s9.2.1, vi s9.2.2.1, vi s9.2.2.2.1, vi s9.2.2.2.2.1, .own 18]), (5, .box (tc eName j18.1)), (18, oa 95 5 eName s9.2.2.2.2.2.1), (1000000, .box (tc el01Source j18.2))]⟩) ?_ (fun d6 => ?_)
  exact DE.all [0, 4] (by kernel_rfl) (by simp) (List.forall_mem_cons.2 ⟨DEs.mk (i := 0) (L' := #[true, true, true, false, false, false, false, false]) rfl (EStep.le (EStep.ofN2 tbokGB (σ' := ⟨84, [(63, .own 63), (0, .ref 1000000 0), (2, .ref 2 0), (3, .ref 3 0), (4, vi s9.1), (5, .ref 5 0), (65, .own 18)], [(63, oa 95 5 eName ([] : List Name)), (2, .box [vs (ByteArray.mk #[]), vi 0, vi 0, vi 0, vl eName ([] : List Name)]), (3, .box [vs s9.2.1, vi s9.2.2.1, vi s9.2.2.2.1, vi s9.2.2.2.2.1, .own 18]), (5, .box (tc eName j18.1)), (18, oa 95 5 eName s9.2.2.2.2.2.1), (1000000, .box (tc el01Source j18.2))]⟩) (by kernel_rfl)) Le.sub0) (by kernel_rfl) d9, (List.forall_mem_cons.2 ⟨DEs.mk (i := 4) (L' := #[false, true, true, false, true, false, false, false]) rfl (EStep.le (EStep.ofN2 tbokGB (σ' := ⟨84, [(67, .agg (tc eName j18.1)), (0, .ref 1000000 0), (2, .ref 2 0), (3, .ref 3 0), (4, vi s9.1), (5, .ref 5 0), (65, .own 18)], [(2, .box [vs (ByteArray.mk #[]), vi 0, vi 0, vi 0, vl eName ([] : List Name)]), (3, .box [vs s9.2.1, vi s9.2.2.1, vi s9.2.2.2.1, vi s9.2.2.2.2.1, .own 18]), (5, .box (tc eName j18.1)), (18, oa 95 5 eName s9.2.2.2.2.2.1), (1000000, .box (tc el01Source j18.2))]⟩) (by kernel_rfl)) Le.sub0) (by kernel_rfl) d12, (fun _ h => absurd h List.not_mem_nil)⟩)⟩)
  refine DE.share (fuel := 6) (L := #[true, false, false, false, true, false, false, false]) (σ := ⟨84, [(0, .ref 1000000 0), (2, .ref 2 0), (3, .ref 3 0), (4, vi s9.1), (5, .ref 5 0), (63, .own 63), (67, .agg (tc eName j18.1))], [(2, .box [vs (ByteArray.mk #[]), vi 0, vi 0, vi 0, vl eName ([] : List Name)]), (3, .box [vs s9.2.1, vi s9.2.2.1, vi s9.2.2.2.1, vi s9.2.2.2.2.1, .own 18]), (5, .box (tc eName j18.1)), (18, oa 95 5 eName s9.2.2.2.2.2.1), (63, oa 95 5 eName ([] : List Name)), (1000000, .box (tc el01Source j18.2))]⟩) ?_ (fun d5 => ?_)
  exact DE.all [1, 5] (by kernel_rfl) (by simp) (List.forall_mem_cons.2 ⟨DEs.mk (i := 1) (L' := #[true, true, false, false, true, false, false, false]) rfl (EStep.le (EStep.ofN2 tbokGB (σ' := ⟨84, [(64, .ref 3 4), (0, .ref 1000000 0), (2, .ref 2 0), (3, .ref 3 0), (4, vi s9.1), (5, .ref 5 0), (63, .own 63), (67, .agg (tc eName j18.1))], [(2, .box [vs (ByteArray.mk #[]), vi 0, vi 0, vi 0, vl eName ([] : List Name)]), (3, .box [vs s9.2.1, vi s9.2.2.1, vi s9.2.2.2.1, vi s9.2.2.2.2.1, .own 18]), (5, .box (tc eName j18.1)), (18, oa 95 5 eName s9.2.2.2.2.2.1), (63, oa 95 5 eName ([] : List Name)), (1000000, .box (tc el01Source j18.2))]⟩) (by kernel_rfl)) Le.sub0) (by kernel_rfl) d10, (List.forall_mem_cons.2 ⟨DEs.mk (i := 5) (L' := #[true, false, false, false, true, true, false, false]) rfl (EStep.le (EStep.ofN2 tbokGB (σ' := ⟨84, [(68, .own 68), (0, .ref 1000000 0), (2, .ref 2 0), (3, .ref 3 0), (4, vi s9.1), (5, .ref 5 0), (63, .own 63), (67, .agg (tc eName j18.1))], [(68, oa 95 5 eName ([j18.1] : List Name)), (2, .box [vs (ByteArray.mk #[]), vi 0, vi 0, vi 0, vl eName ([] : List Name)]), (3, .box [vs s9.2.1, vi s9.2.2.1, vi s9.2.2.2.1, vi s9.2.2.2.2.1, .own 18]), (5, .box (tc eName j18.1)), (18, oa 95 5 eName s9.2.2.2.2.2.1), (63, oa 95 5 eName ([] : List Name)), (1000000, .box (tc el01Source j18.2))]⟩) (by kernel_rfl)) Le.sub0) (by kernel_rfl) d11, (fun _ h => absurd h List.not_mem_nil)⟩)⟩)
  refine DE.share (fuel := 6) (L := #[true, true, false, false, false, false, false, false]) (σ := ⟨84, [(0, .ref 1000000 0), (2, .ref 2 0), (3, .ref 3 0), (4, vi s9.1), (5, .ref 5 0), (63, .own 63), (64, .ref 3 4)], [(2, .box [vs (ByteArray.mk #[]), vi 0, vi 0, vi 0, vl eName ([] : List Name)]), (3, .box [vs s9.2.1, vi s9.2.2.1, vi s9.2.2.2.1, vi s9.2.2.2.2.1, .own 18]), (5, .box (tc eName j18.1)), (18, oa 95 5 eName s9.2.2.2.2.2.1), (63, oa 95 5 eName ([] : List Name)), (1000000, .box (tc el01Source j18.2))]⟩) ?_ (fun d4 => ?_)
  exact DE.all [2, 4] (by kernel_rfl) (by simp) (List.forall_mem_cons.2 ⟨DEs.mk (i := 2) (L' := #[true, true, true, false, false, false, false, false]) rfl (EStep.le (EStep.ofN2 tbokGB (σ' := ⟨84, [(65, .own 18), (0, .ref 1000000 0), (2, .ref 2 0), (3, .ref 3 0), (4, vi s9.1), (5, .ref 5 0), (63, .own 63), (64, .ref 3 4)], [(2, .box [vs (ByteArray.mk #[]), vi 0, vi 0, vi 0, vl eName ([] : List Name)]), (3, .box [vs s9.2.1, vi s9.2.2.1, vi s9.2.2.2.1, vi s9.2.2.2.2.1, .own 18]), (5, .box (tc eName j18.1)), (18, oa 95 5 eName s9.2.2.2.2.2.1), (63, oa 95 5 eName ([] : List Name)), (1000000, .box (tc el01Source j18.2))]⟩) (by kernel_rfl)) Le.sub0) (by kernel_rfl) d9, (List.forall_mem_cons.2 ⟨DEs.mk (i := 4) (L' := #[true, true, false, false, true, false, false, false]) rfl (EStep.le (EStep.ofN2 tbokGB (σ' := ⟨84, [(67, .agg (tc eName j18.1)), (0, .ref 1000000 0), (2, .ref 2 0), (3, .ref 3 0), (4, vi s9.1), (5, .ref 5 0), (63, .own 63), (64, .ref 3 4)], [(2, .box [vs (ByteArray.mk #[]), vi 0, vi 0, vi 0, vl eName ([] : List Name)]), (3, .box [vs s9.2.1, vi s9.2.2.1, vi s9.2.2.2.1, vi s9.2.2.2.2.1, .own 18]), (5, .box (tc eName j18.1)), (18, oa 95 5 eName s9.2.2.2.2.2.1), (63, oa 95 5 eName ([] : List Name)), (1000000, .box (tc el01Source j18.2))]⟩) (by kernel_rfl)) Le.sub0) (by kernel_rfl) d10, (fun _ h => absurd h List.not_mem_nil)⟩)⟩)
  refine DE.share (fuel := 7) (L := #[false, false, false, false, true, false, false, false]) (σ := ⟨84, [(0, .ref 1000000 0), (2, .ref 2 0), (3, .ref 3 0), (4, vi s9.1), (5, .ref 5 0), (67, .agg (tc eName j18.1))], [(2, .box [vs (ByteArray.mk #[]), vi 0, vi 0, vi 0, vl eName ([] : List Name)]), (3, .box [vs s9.2.1, vi s9.2.2.1, vi s9.2.2.2.1, vi s9.2.2.2.2.1, .own 18]), (5, .box (tc eName j18.1)), (18, oa 95 5 eName s9.2.2.2.2.2.1), (1000000, .box (tc el01Source j18.2))]⟩) ?_ (fun d3 => ?_)
  exact DE.all [0, 1, 5] (by kernel_rfl) (by simp) (List.forall_mem_cons.2 ⟨DEs.mk (i := 0) (L' := #[true, false, false, false, true, false, false, false]) rfl (EStep.le (EStep.ofN2 tbokGB (σ' := ⟨84, [(63, .own 63), (0, .ref 1000000 0), (2, .ref 2 0), (3, .ref 3 0), (4, vi s9.1), (5, .ref 5 0), (67, .agg (tc eName j18.1))], [(63, oa 95 5 eName ([] : List Name)), (2, .box [vs (ByteArray.mk #[]), vi 0, vi 0, vi 0, vl eName ([] : List Name)]), (3, .box [vs s9.2.1, vi s9.2.2.1, vi s9.2.2.2.1, vi s9.2.2.2.2.1, .own 18]), (5, .box (tc eName j18.1)), (18, oa 95 5 eName s9.2.2.2.2.2.1), (1000000, .box (tc el01Source j18.2))]⟩) (by kernel_rfl)) Le.sub0) (by kernel_rfl) d5, (List.forall_mem_cons.2 ⟨DEs.mk (i := 1) (L' := #[false, true, false, false, true, false, false, false]) rfl (EStep.le (EStep.ofN2 tbokGB (σ' := ⟨84, [(64, .ref 3 4), (0, .ref 1000000 0), (2, .ref 2 0), (3, .ref 3 0), (4, vi s9.1), (5, .ref 5 0), (67, .agg (tc eName j18.1))], [(2, .box [vs (ByteArray.mk #[]), vi 0, vi 0, vi 0, vl eName ([] : List Name)]), (3, .box [vs s9.2.1, vi s9.2.2.1, vi s9.2.2.2.1, vi s9.2.2.2.2.1, .own 18]), (5, .box (tc eName j18.1)), (18, oa 95 5 eName s9.2.2.2.2.2.1), (1000000, .box (tc el01Source j18.2))]⟩) (by kernel_rfl)) Le.sub0) (by kernel_rfl) d7, (List.forall_mem_cons.2 ⟨DEs.mk (i := 5) (L' := #[false, false, false, false, true, true, false, false]) rfl (EStep.le (EStep.ofN2 tbokGB (σ' := ⟨84, [(68, .own 68), (0, .ref 1000000 0), (2, .ref 2 0), (3, .ref 3 0), (4, vi s9.1), (5, .ref 5 0), (67, .agg (tc eName j18.1))], [(68, oa 95 5 eName ([j18.1] : List Name)), (2, .box [vs (ByteArray.mk #[]), vi 0, vi 0, vi 0, vl eName ([] : List Name)]), (3, .box [vs s9.2.1, vi s9.2.2.1, vi s9.2.2.2.1, vi s9.2.2.2.2.1, .own 18]), (5, .box (tc eName j18.1)), (18, oa 95 5 eName s9.2.2.2.2.2.1), (1000000, .box (tc el01Source j18.2))]⟩) (by kernel_rfl)) Le.sub0) (by kernel_rfl) d8, (fun _ h => absurd h List.not_mem_nil)⟩)⟩)⟩)
  refine DE.share (fuel := 7) (L := #[false, true, false, false, false, false, false, false]) (σ := ⟨84, [(0, .ref 1000000 0), (2, .ref 2 0), (3, .ref 3 0), (4, vi s9.1), (5, .ref 5 0), (64, .ref 3 4)], [(2, .box [vs (ByteArray.mk #[]), vi 0, vi 0, vi 0, vl eName ([] : List Name)]), (3, .box [vs s9.2.1, vi s9.2.2.1, vi s9.2.2.2.1, vi s9.2.2.2.2.1, .own 18]), (5, .box (tc eName j18.1)), (18, oa 95 5 eName s9.2.2.2.2.2.1), (1000000, .box (tc el01Source j18.2))]⟩) ?_ (fun d2 => ?_)
  exact DE.all [0, 2, 4] (by kernel_rfl) (by simp) (List.forall_mem_cons.2 ⟨DEs.mk (i := 0) (L' := #[true, true, false, false, false, false, false, false]) rfl (EStep.le (EStep.ofN2 tbokGB (σ' := ⟨84, [(63, .own 63), (0, .ref 1000000 0), (2, .ref 2 0), (3, .ref 3 0), (4, vi s9.1), (5, .ref 5 0), (64, .ref 3 4)], [(63, oa 95 5 eName ([] : List Name)), (2, .box [vs (ByteArray.mk #[]), vi 0, vi 0, vi 0, vl eName ([] : List Name)]), (3, .box [vs s9.2.1, vi s9.2.2.1, vi s9.2.2.2.1, vi s9.2.2.2.2.1, .own 18]), (5, .box (tc eName j18.1)), (18, oa 95 5 eName s9.2.2.2.2.2.1), (1000000, .box (tc el01Source j18.2))]⟩) (by kernel_rfl)) Le.sub0) (by kernel_rfl) d4, (List.forall_mem_cons.2 ⟨DEs.mk (i := 2) (L' := #[false, true, true, false, false, false, false, false]) rfl (EStep.le (EStep.ofN2 tbokGB (σ' := ⟨84, [(65, .own 18), (0, .ref 1000000 0), (2, .ref 2 0), (3, .ref 3 0), (4, vi s9.1), (5, .ref 5 0), (64, .ref 3 4)], [(2, .box [vs (ByteArray.mk #[]), vi 0, vi 0, vi 0, vl eName ([] : List Name)]), (3, .box [vs s9.2.1, vi s9.2.2.1, vi s9.2.2.2.1, vi s9.2.2.2.2.1, .own 18]), (5, .box (tc eName j18.1)), (18, oa 95 5 eName s9.2.2.2.2.2.1), (1000000, .box (tc el01Source j18.2))]⟩) (by kernel_rfl)) Le.sub0) (by kernel_rfl) d6, (List.forall_mem_cons.2 ⟨DEs.mk (i := 4) (L' := #[false, true, false, false, true, false, false, false]) rfl (EStep.le (EStep.ofN2 tbokGB (σ' := ⟨84, [(67, .agg (tc eName j18.1)), (0, .ref 1000000 0), (2, .ref 2 0), (3, .ref 3 0), (4, vi s9.1), (5, .ref 5 0), (64, .ref 3 4)], [(2, .box [vs (ByteArray.mk #[]), vi 0, vi 0, vi 0, vl eName ([] : List Name)]), (3, .box [vs s9.2.1, vi s9.2.2.1, vi s9.2.2.2.1, vi s9.2.2.2.2.1, .own 18]), (5, .box (tc eName j18.1)), (18, oa 95 5 eName s9.2.2.2.2.2.1), (1000000, .box (tc el01Source j18.2))]⟩) (by kernel_rfl)) Le.sub0) (by kernel_rfl) d7, (fun _ h => absurd h List.not_mem_nil)⟩)⟩)⟩)
  refine DE.share (fuel := 7) (L := #[true, false, false, false, false, false, false, false]) (σ := ⟨84, [(0, .ref 1000000 0), (2, .ref 2 0), (3, .ref 3 0), (4, vi s9.1), (5, .ref 5 0), (63, .own 63)], [(2, .box [vs (ByteArray.mk #[]), vi 0, vi 0, vi 0, vl eName ([] : List Name)]), (3, .box [vs s9.2.1, vi s9.2.2.1, vi s9.2.2.2.1, vi s9.2.2.2.2.1, .own 18]), (5, .box (tc eName j18.1)), (18, oa 95 5 eName s9.2.2.2.2.2.1), (63, oa 95 5 eName ([] : List Name)), (1000000, .box (tc el01Source j18.2))]⟩) ?_ (fun d1 => ?_)
  exact DE.all [1, 4] (by kernel_rfl) (by simp) (List.forall_mem_cons.2 ⟨DEs.mk (i := 1) (L' := #[true, true, false, false, false, false, false, false]) rfl (EStep.le (EStep.ofN2 tbokGB (σ' := ⟨84, [(64, .ref 3 4), (0, .ref 1000000 0), (2, .ref 2 0), (3, .ref 3 0), (4, vi s9.1), (5, .ref 5 0), (63, .own 63)], [(2, .box [vs (ByteArray.mk #[]), vi 0, vi 0, vi 0, vl eName ([] : List Name)]), (3, .box [vs s9.2.1, vi s9.2.2.1, vi s9.2.2.2.1, vi s9.2.2.2.2.1, .own 18]), (5, .box (tc eName j18.1)), (18, oa 95 5 eName s9.2.2.2.2.2.1), (63, oa 95 5 eName ([] : List Name)), (1000000, .box (tc el01Source j18.2))]⟩) (by kernel_rfl)) Le.sub0) (by kernel_rfl) d4, (List.forall_mem_cons.2 ⟨DEs.mk (i := 4) (L' := #[true, false, false, false, true, false, false, false]) rfl (EStep.le (EStep.ofN2 tbokGB (σ' := ⟨84, [(67, .agg (tc eName j18.1)), (0, .ref 1000000 0), (2, .ref 2 0), (3, .ref 3 0), (4, vi s9.1), (5, .ref 5 0), (63, .own 63)], [(2, .box [vs (ByteArray.mk #[]), vi 0, vi 0, vi 0, vl eName ([] : List Name)]), (3, .box [vs s9.2.1, vi s9.2.2.1, vi s9.2.2.2.1, vi s9.2.2.2.2.1, .own 18]), (5, .box (tc eName j18.1)), (18, oa 95 5 eName s9.2.2.2.2.2.1), (63, oa 95 5 eName ([] : List Name)), (1000000, .box (tc el01Source j18.2))]⟩) (by kernel_rfl)) Le.sub0) (by kernel_rfl) d5, (fun _ h => absurd h List.not_mem_nil)⟩)⟩)
  exact DE.all [0, 1, 4] (by kernel_rfl) (by simp) (List.forall_mem_cons.2 ⟨DEs.mk (i := 0) (L' := #[true, false, false, false, false, false, false, false]) rfl (EStep.le (EStep.ofN2 tbokGB (σ' := ⟨84, [(63, .own 63), (0, .ref 1000000 0), (2, .ref 2 0), (3, .ref 3 0), (4, vi s9.1), (5, .ref 5 0)], [(63, oa 95 5 eName ([] : List Name)), (2, .box [vs (ByteArray.mk #[]), vi 0, vi 0, vi 0, vl eName ([] : List Name)]), (3, .box [vs s9.2.1, vi s9.2.2.1, vi s9.2.2.2.1, vi s9.2.2.2.2.1, .own 18]), (5, .box (tc eName j18.1)), (18, oa 95 5 eName s9.2.2.2.2.2.1), (1000000, .box (tc el01Source j18.2))]⟩) (by kernel_rfl)) Le.sub0) (by kernel_rfl) d1, (List.forall_mem_cons.2 ⟨DEs.mk (i := 1) (L' := #[false, true, false, false, false, false, false, false]) rfl (EStep.le (EStep.ofN2 tbokGB (σ' := ⟨84, [(64, .ref 3 4), (0, .ref 1000000 0), (2, .ref 2 0), (3, .ref 3 0), (4, vi s9.1), (5, .ref 5 0)], [(2, .box [vs (ByteArray.mk #[]), vi 0, vi 0, vi 0, vl eName ([] : List Name)]), (3, .box [vs s9.2.1, vi s9.2.2.1, vi s9.2.2.2.1, vi s9.2.2.2.2.1, .own 18]), (5, .box (tc eName j18.1)), (18, oa 95 5 eName s9.2.2.2.2.2.1), (1000000, .box (tc el01Source j18.2))]⟩) (by kernel_rfl)) Le.sub0) (by kernel_rfl) d2, (List.forall_mem_cons.2 ⟨DEs.mk (i := 4) (L' := #[false, false, false, false, true, false, false, false]) rfl (EStep.le (EStep.ofN2 tbokGB (σ' := ⟨84, [(67, .agg (tc eName j18.1)), (0, .ref 1000000 0), (2, .ref 2 0), (3, .ref 3 0), (4, vi s9.1), (5, .ref 5 0)], [(2, .box [vs (ByteArray.mk #[]), vi 0, vi 0, vi 0, vl eName ([] : List Name)]), (3, .box [vs s9.2.1, vi s9.2.2.1, vi s9.2.2.2.1, vi s9.2.2.2.2.1, .own 18]), (5, .box (tc eName j18.1)), (18, oa 95 5 eName s9.2.2.2.2.2.1), (1000000, .box (tc el01Source j18.2))]⟩) (by kernel_rfl)) Le.sub0) (by kernel_rfl) d3, (fun _ h => absurd h List.not_mem_nil)⟩)⟩)⟩)
  refine nx_n ?_
  refine swp_seq ?_
  refine swp_regJ h (fun j25 => ⟨84, [(0, .ref 1000000 0), (2, .ref 2 0), (3, .ref 3 0), (4, vi s9.1), (6, .own 6), (80, vb j25)], [(2, .box [vs (ByteArray.mk #[]), vi 0, vi 0, vi 0, vl eName ([] : List Name)]), (3, .box [vs s9.2.1, vi s9.2.2.1, vi s9.2.2.2.1, vi s9.2.2.2.2.1, .own 18]), (18, oa 95 5 eName s9.2.2.2.2.2.1), (6, oa 95 5 eName x23), (1000000, .box (tc el01Source j18.2))]⟩) (fun v26 h => ?_) (fun j25 h => ?_)
  refine SRun.ck tbokGB 1 ⟨84, [(0, .ref 1000000 0), (2, .ref 2 0), (3, .ref 3 0), (4, vi s9.1), (5, .ref 5 0), (6, .own 69), (70, .own 69)], [(2, .box [vs (ByteArray.mk #[]), vi 0, vi 0, vi 0, vl eName ([] : List Name)]), (3, .box [vs s9.2.1, vi s9.2.2.1, vi s9.2.2.2.1, vi s9.2.2.2.2.1, .own 18]), (5, .box (tc eName j18.1)), (18, oa 95 5 eName s9.2.2.2.2.2.1), (69, oa 95 5 eName x23), (1000000, .box (tc el01Source j18.2))]⟩ ?_
  obtain ⟨x24, hx24, h⟩ := bind_some h
  refine SRun.ls (xc ents83 (spec_AreNames_run x23 _ hx24)) ?_
  refine SRun.ck tbokGB 1 ⟨84, [(0, .ref 1000000 0), (2, .ref 2 0), (3, .ref 3 0), (4, vi s9.1), (5, .ref 5 0), (6, .own 69), (72, vb x24)], [(2, .box [vs (ByteArray.mk #[]), vi 0, vi 0, vi 0, vl eName ([] : List Name)]), (3, .box [vs s9.2.1, vi s9.2.2.1, vi s9.2.2.2.1, vi s9.2.2.2.2.1, .own 18]), (5, .box (tc eName j18.1)), (18, oa 95 5 eName s9.2.2.2.2.2.1), (69, oa 95 5 eName x23), (1000000, .box (tc el01Source j18.2))]⟩ ?_
  refine SRun.cu [(72, fun b => b)] h (fun h => ?_) fun h => ?_
  refine SRun.ck tbokGB 8 ⟨84, [(0, .ref 1000000 0), (2, .ref 2 0), (3, .ref 3 0), (4, vi s9.1), (6, .own 69), (80, vb (decide (j18.1.Years.From ≤ j18.1.Years.To)))], [(2, .box [vs (ByteArray.mk #[]), vi 0, vi 0, vi 0, vl eName ([] : List Name)]), (3, .box [vs s9.2.1, vi s9.2.2.1, vi s9.2.2.2.1, vi s9.2.2.2.2.1, .own 18]), (18, oa 95 5 eName s9.2.2.2.2.2.1), (69, oa 95 5 eName x23), (1000000, .box (tc el01Source j18.2))]⟩ ?_
  refine SRun.nil ?_
  obtain rfl := inj h
  exact Le.rr [2, 3, 18, 69, 1000000] [(69, 6)]
  refine SRun.ck tbokGB 8 ⟨84, [(0, .ref 1000000 0), (2, .ref 2 0), (3, .ref 3 0), (4, vi s9.1), (6, .own 69), (80, vb false)], [(2, .box [vs (ByteArray.mk #[]), vi 0, vi 0, vi 0, vl eName ([] : List Name)]), (3, .box [vs s9.2.1, vi s9.2.2.1, vi s9.2.2.2.1, vi s9.2.2.2.2.1, .own 18]), (18, oa 95 5 eName s9.2.2.2.2.2.1), (69, oa 95 5 eName x23), (1000000, .box (tc el01Source j18.2))]⟩ ?_
  refine SRun.nil ?_
  obtain rfl := inj h
  exact Le.rr [2, 3, 18, 69, 1000000] [(69, 6)]
  refine swp_cd h (fun h => ?_) fun h => ?_
  refine swp_reg ?_
  refine SRun.ck tbokGB 3 ⟨84, [(0, .ref 1000000 0), (2, .ref 2 0), (3, .ref 3 0), (4, vi s9.1)], [(2, .box [vs (ByteArray.mk #[]), vi 0, vi 0, vi 0, vl eName ([] : List Name)]), (3, .box [vs s9.2.1, vi s9.2.2.1, vi s9.2.2.2.1, vi s9.2.2.2.2.1, .own 6]), (6, oa 95 5 eName x23), (1000000, .box (tc el01Source j18.2))]⟩ ?_
  refine SRun.nil ?_
  obtain rfl := inj h
  exact q_bn (q_j (Le.rr [2, 3, 6, 1000000] [(6, 18)]))
  refine swp_skip ?_
  obtain rfl := inj h
  exact q_bn (q_j (Le.sub0))
  refine swp_reg ?_
  refine SRun.ck tbokGB 3 ⟨84, [(0, .ref 1000000 0), (2, .ref 2 0), (3, .ref 3 0), (4, vi (w64 (s9.1 - 1)))], [(2, .box [vs (ByteArray.mk #[]), vi 0, vi 0, vi 0, vl eName ([] : List Name)]), (3, .box [vs j11.1, vi j11.2.1, vi j11.2.2.1, vi j11.2.2.2.1, .own 18]), (18, oa 95 5 eName j11.2.2.2.2.1), (1000000, .box (tc el01Source j11.2.2.2.2.2))]⟩ ?_
  refine SRun.nil ?_
  obtain rfl := inj h
  exact q_l (Le.sub0)
  refine swp_exit ?_
  obtain rfl := inj h
  exact nx_e (q_re (q_bh (q_j (Le.sub0))))
  refine srk tbokGB ⟨84, [(2, .ref 2 0)], [(2, .box [vs j7.1, vi j7.2.1, vi j7.2.2.1, vi j7.2.2.2.1, .own 18]), (18, oa 95 5 eName j7.2.2.2.2.1), (1000000, .box (tc el01Source j7.2.2.2.2.2))]⟩ ?_
  refine swp_ret ?_
  obtain rfl := inj h
  exact q_fr (fin_io (f1 (finP (d := 18) [vs j7.1, vi j7.2.1, vi j7.2.2.1, vi j7.2.2.2.1] [] (holds_c tbokGB (d := 2) (cs := [vs j7.1, vi j7.2.1, vi j7.2.2.1, vi j7.2.2.2.1, .own 18]) (ti := ti41) (by kernel_rfl) (by kernel_rfl) (by kernel_rfl) (by kernel_rfl)) (by kernel_rfl) (flat_map eName_flat _) rfl rfl SV.flatL_of SV.flatL_of (by kernel_rfl))) (y := .box (tc el01Source j7.2.2.2.2.2)) (by kernel_rfl) rfl (by kernel_rfl) (by kernel_rfl))
theorem ents98 : Ents Tryz.prog 98 := ents_of Tryz.func98 (by kernel_rfl) rfl
noncomputable def spec_l01DrawWord (aS : l01Source) : Option (ByteArray × l01Source) :=
  ((spec_l01Next aS 30).bind fun x1 => (bif (x1.1 == 0) then ((spec_l01Next x1.2 6).bind fun x2 => ((at' ([(ByteArray.mk #[]), (ByteArray.mk #[70, 111, 114, 100]), (ByteArray.mk #[97, 49]), (ByteArray.mk #[97, 98, 99, 100, 101, 102, 103, 104, 105, 106, 107, 108, 109, 110, 111, 112]), (ByteArray.mk #[97, 98, 99, 100, 101, 102, 103, 104, 105, 106, 107, 108, 109, 110, 111, 112, 113]), (ByteArray.mk #[97, 32, 98])] : List ByteArray) x2.1).bind fun x3 => some (x3, x2.2))) else ((spec_l01Good x1.2).bind fun x4 => some (x4.1, x4.2))))
theorem spec_l01DrawWord_run (aS : l01Source) (r : ByteArray × l01Source) (h : spec_l01DrawWord aS = some r) : SCall Tryz.prog 99 [.o (.box [vl (eI .u8) aS.code, vi aS.at', vi aS.seed])] ⟨[.v (vs r.1)], [(0, .box (tc el01Source r.2))], false⟩ := by
  refine scall_in Tryz.func99 rfl [(.tmp 2)] rfl (fun r => ⟨[.v (vs r.1)], [(0, .box (tc el01Source r.2))], false⟩) (r := r) ?_
  unfold spec_l01DrawWord at h
  refine srk tbokGB ⟨13, [(0, .ref 1000000 0)], [(1000000, .box (tc el01Source aS))]⟩ ?_
  refine swp_seq ?_
  refine sr ?_
  refine SRun.ck tbokGB 1 ⟨13, [(0, .ref 1000000 0), (3, .ref 1000000 0)], [(1000000, .box (tc el01Source aS))]⟩ ?_
  obtain ⟨x1, hx1, h⟩ := bind_some h
  refine SRun.estep (xe ents61 (spec_l01Next_run aS 30 _ hx1)) ?_
  refine ckn tbokGB 1 ⟨13, [(0, .ref 1000000 0), (5, vb (x1.1 == 0))], [(1000000, .box (tc el01Source x1.2))]⟩ ?_
  refine swp_cd h (fun h => ?_) fun h => ?_
  refine sr ?_
  refine SRun.ck tbokGB 2 ⟨13, [(6, .own 6), (7, .ref 1000000 0)], [(6, oa 9 1 eS ([(ByteArray.mk #[]), (ByteArray.mk #[70, 111, 114, 100]), (ByteArray.mk #[97, 49]), (ByteArray.mk #[97, 98, 99, 100, 101, 102, 103, 104, 105, 106, 107, 108, 109, 110, 111, 112]), (ByteArray.mk #[97, 98, 99, 100, 101, 102, 103, 104, 105, 106, 107, 108, 109, 110, 111, 112, 113]), (ByteArray.mk #[97, 32, 98])] : List ByteArray)), (1000000, .box (tc el01Source x1.2))]⟩ ?_
  obtain ⟨x2, hx2, h⟩ := bind_some h
  refine SRun.estep (xe ents61 (spec_l01Next_run x1.2 6 _ hx2)) ?_
  obtain ⟨x3, hx3, h⟩ := bind_some h
  refine SRun.ls (x_index_own (d := 6) (L := ([(ByteArray.mk #[]), (ByteArray.mk #[70, 111, 114, 100]), (ByteArray.mk #[97, 49]), (ByteArray.mk #[97, 98, 99, 100, 101, 102, 103, 104, 105, 106, 107, 108, 109, 110, 111, 112]), (ByteArray.mk #[97, 98, 99, 100, 101, 102, 103, 104, 105, 106, 107, 108, 109, 110, 111, 112, 113]), (ByteArray.mk #[97, 32, 98])] : List ByteArray)) (f := eS) (ti := ti53) (tj := ti9) (e := 9) (e' := 9) (m := 1) (k := .i64) tbokGB rfl hx3) ?_
  refine SRun.ls (x_load_own (d := 6) (m := 1) (j := 0) (L := ([(ByteArray.mk #[]), (ByteArray.mk #[70, 111, 114, 100]), (ByteArray.mk #[97, 49]), (ByteArray.mk #[97, 98, 99, 100, 101, 102, 103, 104, 105, 106, 107, 108, 109, 110, 111, 112]), (ByteArray.mk #[97, 98, 99, 100, 101, 102, 103, 104, 105, 106, 107, 108, 109, 110, 111, 112, 113]), (ByteArray.mk #[97, 32, 98])] : List ByteArray)) (f := eS) (ti := ti9) (e := 9) (v := vs x3) tbokGB rfl hx3) ?_
  refine ckn tbokGB 1 ⟨13, [(2, vs x3)], [(1000000, .box (tc el01Source x2.2))]⟩ ?_
  refine swp_ret ?_
  obtain rfl := inj h
  exact nx_r (q_fr (fin_io (f1 fv) (y := .box (tc el01Source x2.2)) (by kernel_rfl) rfl (by kernel_rfl) (by kernel_rfl)))
  refine swp_skip ?_
  refine nx_n ?_
  refine sr ?_
  refine SRun.ck tbokGB 1 ⟨13, [(11, .ref 1000000 0)], [(1000000, .box (tc el01Source x1.2))]⟩ ?_
  obtain ⟨x4, hx4, h⟩ := bind_some h
  refine SRun.estep (xe ents121 (spec_l01Good_run x1.2 _ hx4)) ?_
  refine ckn tbokGB 1 ⟨13, [(2, vs x4.1)], [(1000000, .box (tc el01Source x4.2))]⟩ ?_
  refine swp_ret ?_
  obtain rfl := inj h
  exact q_fr (fin_io (f1 fv) (y := .box (tc el01Source x4.2)) (by kernel_rfl) rfl (by kernel_rfl) (by kernel_rfl))
theorem ents99 : Ents Tryz.prog 99 := ents_of Tryz.func99 (by kernel_rfl) rfl
noncomputable def spec_l09List (aS : l01Source) : Option ((List Name) × l01Source) :=
  ((spec_l01Next aS 6).bind fun x1 => (((loop (fun (s4 : Int × (List Name) × l01Source) => (bif (decide (s4.1 > 0)) then ((((app' ([] : List Name) s4.2.1).bind fun x8 => ((spec_l09Draw s4.2.2).bind fun x9 => ((app' x8 ([x9.1] : List Name)).bind fun x10 => ((spec_AreNames x10).bind fun x11 => (bif x11 then some (x10, x9.2) else some (s4.2.1, x9.2))))))).bind fun (j6 : (List Name) × l01Source) => some (.inl ((w64 (s4.1 - 1)), j6.1, j6.2))) else some (.inr (s4.2.1, s4.2.2)))) (x1.1, ([] : List Name), x1.2))).bind fun (j2 : (List Name) × l01Source) => ((spec_l01Next j2.2 24).bind fun x12 => (((bif (x12.1 == 0) then ((spec_l09Draw x12.2).bind fun x15 => ((app' j2.1 ([x15.1] : List Name)).bind fun x16 => some (x16, x15.2))) else (bif (x12.1 == 1) then (loop (fun (s17 : (List Name) × l01Source) => ((spec_l01Next s17.2 2).bind fun x19 => (bif (decide ((s17.1.length : Int) < (w64 (12 + x19.1)))) then ((app' s17.1 ([(Name.mk (ByteArray.mk #[111, 108, 100, 32, 97, 115, 104]) (ByteArray.mk #[108, 97, 116]) 2 (Span.mk 1 9))] : List Name)).bind fun x20 => some (.inl (x20, x19.2))) else some (.inr (s17.1, x19.2))))) (j2.1, x12.2)) else some (j2.1, x12.2)))).bind fun (j13 : (List Name) × l01Source) => some (j13.1, j13.2)))))
theorem spec_l09List_run (aS : l01Source) (r : (List Name) × l01Source) (h : spec_l09List aS = some r) : SCall Tryz.prog 101 [.o (.box [vl (eI .u8) aS.code, vi aS.at', vi aS.seed])] ⟨[.own 95 5 r.1.length (r.1.map eName)], [(0, .box (tc el01Source r.2))], false⟩ := by
  refine scall_in Tryz.func101 rfl [(.tmp 2)] rfl (fun r => ⟨[.own 95 5 r.1.length (r.1.map eName)], [(0, .box (tc el01Source r.2))], false⟩) (r := r) ?_
  unfold spec_l09List at h
  refine srk tbokGB ⟨46, [(0, .ref 1000000 0)], [(1000000, .box (tc el01Source aS))]⟩ ?_
  refine srk tbokGB ⟨46, [(0, .ref 1000000 0), (3, .own 6)], [(6, oa 95 5 eName ([] : List Name)), (1000000, .box (tc el01Source aS))]⟩ ?_
  refine swp_seq ?_
  refine sr ?_
  refine SRun.ck tbokGB 1 ⟨46, [(0, .ref 1000000 0), (3, .own 6), (7, .ref 1000000 0)], [(6, oa 95 5 eName ([] : List Name)), (1000000, .box (tc el01Source aS))]⟩ ?_
  obtain ⟨x1, hx1, h⟩ := bind_some h
  refine SRun.estep (xe ents61 (spec_l01Next_run aS 6 _ hx1)) ?_
  refine ckn tbokGB 1 ⟨46, [(0, .ref 1000000 0), (3, .own 6), (4, vi x1.1)], [(6, oa 95 5 eName ([] : List Name)), (1000000, .box (tc el01Source x1.2))]⟩ ?_
  refine swp_seqJ h (fun j2 => ⟨46, [(0, .ref 1000000 0), (3, .own 3)], [(3, oa 95 5 eName j2.1), (1000000, .box (tc el01Source j2.2))]⟩) (fun v3 h => ?_) (fun j2 h => ?_)
  refine swp_blk (a := v3) ?_
  refine swp_lpL (r := v3) (s := (x1.1, ([] : List Name), x1.2)) _ (fun s4 => ⟨46, [(0, .ref 1000000 0), (3, .own 3), (4, vi s4.1)], [(3, oa 95 5 eName s4.2.1), (1000000, .box (tc el01Source s4.2.2))]⟩) _ (Le.rr [6, 1000000] [(6, 3)]) h (fun s4 v5 h => ?_)
  refine swp_seq ?_
  refine srk tbokGB ⟨46, [(0, .ref 1000000 0), (3, .own 3), (4, vi s4.1), (10, vb (decide (s4.1 > 0)))], [(3, oa 95 5 eName s4.2.1), (1000000, .box (tc el01Source s4.2.2))]⟩ ?_
  refine swp_cd h (fun h => ?_) fun h => ?_
  refine swp_skip ?_
  refine nx_n ?_
  refine swp_seq ?_
  refine swp_seqJ h (fun j6 => ⟨46, [(0, .ref 1000000 0), (3, .own 3), (4, vi s4.1)], [(3, oa 95 5 eName j6.1), (1000000, .box (tc el01Source j6.2))]⟩) (fun v7 h => ?_) (fun j6 h => ?_)
  refine swp_blk (a := v7) ?_
  refine sr ?_
  refine SRun.ck tbokGB 2 ⟨46, [(0, .ref 1000000 0), (3, .own 3), (4, vi s4.1), (13, .own 13), (14, .own 3)], [(3, oa 95 5 eName s4.2.1), (13, oa 95 5 eName ([] : List Name)), (1000000, .box (tc el01Source s4.2.2))]⟩ ?_
  obtain ⟨x8, hx8, h⟩ := bind_some h
  refine SRun.estep (x_append (f := eName) (t := 39) (ti := ti39) (tj := ti95) (zs := [.string (ByteArray.mk #[]), .string (ByteArray.mk #[]), .int .i64 0, .int .i64 0, .int .i64 0]) (e := 95) (m := 5) (d := 13) (xv := .own 3) hx8 tbokGB rfl rfl rfl rfl (x_src_o (e := 95))) ?_
  refine SRun.ck tbokGB 1 ⟨46, [(0, .ref 1000000 0), (3, .own 3), (4, vi s4.1), (15, .own 15), (16, .ref 1000000 0)], [(3, oa 95 5 eName s4.2.1), (15, oa 95 5 eName x8), (1000000, .box (tc el01Source s4.2.2))]⟩ ?_
  obtain ⟨x9, hx9, h⟩ := bind_some h
  refine SRun.estep (xe ents120 (spec_l09Draw_run s4.2.2 _ hx9)) ?_
  refine SRun.ck tbokGB 1 ⟨46, [(0, .ref 1000000 0), (3, .own 3), (4, vi s4.1), (15, .own 15), (18, .own 18)], [(3, oa 95 5 eName s4.2.1), (15, oa 95 5 eName x8), (18, oa 95 5 eName ([x9.1] : List Name)), (1000000, .box (tc el01Source x9.2))]⟩ ?_
  obtain ⟨x10, hx10, h⟩ := bind_some h
  refine SRun.estep (x_append (f := eName) (t := 39) (ti := ti39) (tj := ti95) (zs := [.string (ByteArray.mk #[]), .string (ByteArray.mk #[]), .int .i64 0, .int .i64 0, .int .i64 0]) (e := 95) (m := 5) (d := 15) (xv := .own 18) hx10 tbokGB rfl rfl rfl rfl (x_src_o (e := 95))) ?_
  refine ckn tbokGB 1 ⟨46, [(0, .ref 1000000 0), (3, .own 3), (4, vi s4.1), (5, .own 19)], [(3, oa 95 5 eName s4.2.1), (19, oa 95 5 eName x10), (1000000, .box (tc el01Source x9.2))]⟩ ?_
  refine sr ?_
  refine SRun.ck tbokGB 1 ⟨46, [(0, .ref 1000000 0), (3, .own 3), (4, vi s4.1), (5, .own 19), (20, .own 19)], [(3, oa 95 5 eName s4.2.1), (19, oa 95 5 eName x10), (1000000, .box (tc el01Source x9.2))]⟩ ?_
  obtain ⟨x11, hx11, h⟩ := bind_some h
  refine SRun.ls (xc ents83 (spec_AreNames_run x10 _ hx11)) ?_
  refine SRun.nx ?_
  refine swp_cd h (fun h => ?_) fun h => ?_
  refine swp_reg ?_
  refine SRun.ck tbokGB 2 ⟨46, [(0, .ref 1000000 0), (3, .own 19), (4, vi s4.1)], [(19, oa 95 5 eName x10), (1000000, .box (tc el01Source x9.2))]⟩ ?_
  refine SRun.nil ?_
  obtain rfl := inj h
  exact q_bn (q_j (Le.rr [19, 1000000] [(19, 3)]))
  refine swp_skip ?_
  obtain rfl := inj h
  exact q_bn (q_j (Le.sub0))
  refine swp_reg ?_
  refine SRun.ck tbokGB 3 ⟨46, [(0, .ref 1000000 0), (3, .own 3), (4, vi (w64 (s4.1 - 1)))], [(3, oa 95 5 eName j6.1), (1000000, .box (tc el01Source j6.2))]⟩ ?_
  refine SRun.nil ?_
  obtain rfl := inj h
  exact q_l (Le.sub0)
  refine swp_exit ?_
  obtain rfl := inj h
  exact nx_e (q_re (q_bh (q_j (Le.sub0))))
  refine swp_seq ?_
  refine sr ?_
  refine SRun.ck tbokGB 1 ⟨46, [(0, .ref 1000000 0), (3, .own 3), (23, .ref 1000000 0)], [(3, oa 95 5 eName j2.1), (1000000, .box (tc el01Source j2.2))]⟩ ?_
  obtain ⟨x12, hx12, h⟩ := bind_some h
  refine SRun.estep (xe ents61 (spec_l01Next_run j2.2 24 _ hx12)) ?_
  refine SRun.nx ?_
  refine swp_seqJ h (fun j13 => ⟨46, [(3, .own 3)], [(3, oa 95 5 eName j13.1), (1000000, .box (tc el01Source j13.2))]⟩) (fun v14 h => ?_) (fun j13 h => ?_)
  refine swp_blk (a := v14) ?_
  refine srk tbokGB ⟨46, [(0, .ref 1000000 0), (3, .own 3), (24, vi x12.1), (25, vb (x12.1 == 0))], [(3, oa 95 5 eName j2.1), (1000000, .box (tc el01Source x12.2))]⟩ ?_
  refine swp_cd h (fun h => ?_) fun h => ?_
  refine swp_reg ?_
  refine SRun.ck tbokGB 2 ⟨46, [(27, .own 3), (28, .ref 1000000 0)], [(3, oa 95 5 eName j2.1), (1000000, .box (tc el01Source x12.2))]⟩ ?_
  obtain ⟨x15, hx15, h⟩ := bind_some h
  refine SRun.estep (xe ents120 (spec_l09Draw_run x12.2 _ hx15)) ?_
  refine SRun.ck tbokGB 1 ⟨46, [(27, .own 3), (30, .own 30)], [(3, oa 95 5 eName j2.1), (30, oa 95 5 eName ([x15.1] : List Name)), (1000000, .box (tc el01Source x15.2))]⟩ ?_
  obtain ⟨x16, hx16, h⟩ := bind_some h
  refine SRun.estep (x_append (f := eName) (t := 39) (ti := ti39) (tj := ti95) (zs := [.string (ByteArray.mk #[]), .string (ByteArray.mk #[]), .int .i64 0, .int .i64 0, .int .i64 0]) (e := 95) (m := 5) (d := 3) (xv := .own 30) hx16 tbokGB rfl rfl rfl rfl (x_src_o (e := 95))) ?_
  refine SRun.ck tbokGB 1 ⟨46, [(3, .own 31)], [(31, oa 95 5 eName x16), (1000000, .box (tc el01Source x15.2))]⟩ ?_
  refine SRun.nil ?_
  obtain rfl := inj h
  exact q_bn (q_j (Le.rr [31, 1000000] [(31, 3)]))
  refine srk tbokGB ⟨46, [(0, .ref 1000000 0), (3, .own 3), (32, vb (x12.1 == 1))], [(3, oa 95 5 eName j2.1), (1000000, .box (tc el01Source x12.2))]⟩ ?_
  refine swp_cd h (fun h => ?_) fun h => ?_
  refine swp_blk (a := v14) ?_
  refine swp_lpL (r := v14) (s := (j2.1, x12.2)) _ (fun s17 => ⟨46, [(0, .ref 1000000 0), (3, .own 3)], [(3, oa 95 5 eName s17.1), (1000000, .box (tc el01Source s17.2))]⟩) _ (Le.sub0) h (fun s17 v18 h => ?_)
  refine swp_seq ?_
  refine sr ?_
  refine SRun.ck tbokGB 3 ⟨46, [(0, .ref 1000000 0), (3, .own 3), (35, vi (s17.1.length : Int)), (36, .ref 1000000 0)], [(3, oa 95 5 eName s17.1), (1000000, .box (tc el01Source s17.2))]⟩ ?_
  obtain ⟨x19, hx19, h⟩ := bind_some h
  refine SRun.estep (xe ents61 (spec_l01Next_run s17.2 2 _ hx19)) ?_
  refine ckn tbokGB 2 ⟨46, [(0, .ref 1000000 0), (3, .own 3), (39, vb (decide ((s17.1.length : Int) < (w64 (12 + x19.1)))))], [(3, oa 95 5 eName s17.1), (1000000, .box (tc el01Source x19.2))]⟩ ?_
  refine swp_cd h (fun h => ?_) fun h => ?_
  refine swp_skip ?_
  refine nx_n ?_
  refine swp_blk (a := v18) ?_
  refine swp_reg ?_
  refine SRun.ck tbokGB 1 ⟨46, [(0, .ref 1000000 0), (40, .own 3)], [(3, oa 95 5 eName s17.1), (1000000, .box (tc el01Source x19.2))]⟩ ?_
  refine SRun.ls (x_lstep_build (v := .agg [vi 1, vi 9]) tbokGB rfl) ?_
  refine SRun.ls (x_lstep_build (v := .agg [vs (ByteArray.mk #[111, 108, 100, 32, 97, 115, 104]), vs (ByteArray.mk #[108, 97, 116]), vi 2, vi 1, vi 9]) tbokGB rfl) ?_
  refine SRun.ck tbokGB 1 ⟨46, [(0, .ref 1000000 0), (40, .own 3), (43, .own 43)], [(3, oa 95 5 eName s17.1), (43, oa 95 5 eName ([(Name.mk (ByteArray.mk #[111, 108, 100, 32, 97, 115, 104]) (ByteArray.mk #[108, 97, 116]) 2 (Span.mk 1 9))] : List Name)), (1000000, .box (tc el01Source x19.2))]⟩ ?_
  obtain ⟨x20, hx20, h⟩ := bind_some h
  refine SRun.estep (x_append (f := eName) (t := 39) (ti := ti39) (tj := ti95) (zs := [.string (ByteArray.mk #[]), .string (ByteArray.mk #[]), .int .i64 0, .int .i64 0, .int .i64 0]) (e := 95) (m := 5) (d := 3) (xv := .own 43) hx20 tbokGB rfl rfl rfl rfl (x_src_o (e := 95))) ?_
  refine SRun.ck tbokGB 1 ⟨46, [(0, .ref 1000000 0), (3, .own 44)], [(44, oa 95 5 eName x20), (1000000, .box (tc el01Source x19.2))]⟩ ?_
  refine SRun.nil ?_
  obtain rfl := inj h
  exact q_bn (q_l (Le.rr [44, 1000000] [(44, 3)]))
  refine swp_exit ?_
  obtain rfl := inj h
  exact nx_e (q_re (q_bh (q_bn (q_j (Le.sub0)))))
  refine swp_skip ?_
  obtain rfl := inj h
  exact q_bn (q_j (Le.sub0))
  refine srk tbokGB ⟨46, [(2, .own 3)], [(3, oa 95 5 eName j13.1), (1000000, .box (tc el01Source j13.2))]⟩ ?_
  refine swp_ret ?_
  obtain rfl := inj h
  exact q_fr (fin_io (f1 (fo eName_flat)) (y := .box (tc el01Source j13.2)) (by kernel_rfl) rfl (by kernel_rfl) (by kernel_rfl))
theorem ents101 : Ents Tryz.prog 101 := ents_of Tryz.func101 (by kernel_rfl) rfl
noncomputable def spec_l11Draw (aS : l01Source) : Option (Place × l01Source) :=
  ((spec_l11Good aS).bind fun x1 => ((spec_l01Next x1.2 24).bind fun x2 => (((bif (x2.1 == 0) then ((spec_l01DrawWord x2.2).bind fun x5 => some (x5.1, x1.1.Class, x1.1.Years.From, x1.1.Years.To, x1.1.Names, x5.2)) else (bif (x2.1 == 1) then ((spec_l01Pick x2.2 ([(-1), 19, 20] : List Int)).bind fun x6 => some (x1.1.Code, x6.1, x1.1.Years.From, x1.1.Years.To, x1.1.Names, x6.2)) else (bif (x2.1 == 2) then ((spec_l02Draw x2.2).bind fun x7 => some (x1.1.Code, x1.1.Class, x7.1.From, x7.1.To, x1.1.Names, x7.2)) else (bif (x2.1 == 3) then ((spec_l09List x2.2).bind fun x8 => some (x1.1.Code, x1.1.Class, x1.1.Years.From, x1.1.Years.To, x8.1, x8.2)) else some (x1.1.Code, x1.1.Class, x1.1.Years.From, x1.1.Years.To, x1.1.Names, x2.2)))))).bind fun (j3 : ByteArray × Int × Int × Int × (List Name) × l01Source) => some ((Place.mk j3.1 j3.2.1 (Span.mk j3.2.2.1 j3.2.2.2.1) j3.2.2.2.2.1), j3.2.2.2.2.2))))
theorem spec_l11Draw_run (aS : l01Source) (r : Place × l01Source) (h : spec_l11Draw aS = some r) : SCall Tryz.prog 59 [.o (.box [vl (eI .u8) aS.code, vi aS.at', vi aS.seed])] ⟨[.part [vs r.1.Code, vi r.1.Class, vi r.1.Years.From, vi r.1.Years.To] [] (oa 95 5 eName r.1.Names)], [(0, .box (tc el01Source r.2))], false⟩ := by
  refine scall_in Tryz.func59 rfl [(.cell 2 41)] rfl (fun r => ⟨[.part [vs r.1.Code, vi r.1.Class, vi r.1.Years.From, vi r.1.Years.To] [] (oa 95 5 eName r.1.Names)], [(0, .box (tc el01Source r.2))], false⟩) (r := r) ?_
  unfold spec_l11Draw at h
  refine srk tbokGB ⟨30, [(0, .ref 1000000 0), (2, .ref 2 0)], [(2, .box [vs (ByteArray.mk #[]), vi 0, vi 0, vi 0, vl eName ([] : List Name)]), (1000000, .box (tc el01Source aS))]⟩ ?_
  refine sr ?_
  refine SRun.ck tbokGB 1 ⟨30, [(0, .ref 1000000 0), (2, .ref 2 0), (4, .ref 1000000 0)], [(2, .box [vs (ByteArray.mk #[]), vi 0, vi 0, vi 0, vl eName ([] : List Name)]), (1000000, .box (tc el01Source aS))]⟩ ?_
  obtain ⟨x1, hx1, h⟩ := bind_some h
  refine SRun.estep (xe ents98 (spec_l11Good_run aS _ hx1)) ?_
  refine ckn tbokGB 2 ⟨30, [(0, .ref 1000000 0), (2, .ref 2 0), (3, .ref 3 0)], [(2, .box [vs (ByteArray.mk #[]), vi 0, vi 0, vi 0, vl eName ([] : List Name)]), (3, .box [vs x1.1.Code, vi x1.1.Class, vi x1.1.Years.From, vi x1.1.Years.To, .own 5]), (5, oa 95 5 eName x1.1.Names), (1000000, .box (tc el01Source x1.2))]⟩ ?_
  refine swp_seq ?_
  refine sr ?_
  refine SRun.ck tbokGB 1 ⟨30, [(0, .ref 1000000 0), (2, .ref 2 0), (3, .ref 3 0), (6, .ref 1000000 0)], [(2, .box [vs (ByteArray.mk #[]), vi 0, vi 0, vi 0, vl eName ([] : List Name)]), (3, .box [vs x1.1.Code, vi x1.1.Class, vi x1.1.Years.From, vi x1.1.Years.To, .own 5]), (5, oa 95 5 eName x1.1.Names), (1000000, .box (tc el01Source x1.2))]⟩ ?_
  obtain ⟨x2, hx2, h⟩ := bind_some h
  refine SRun.estep (xe ents61 (spec_l01Next_run x1.2 24 _ hx2)) ?_
  refine SRun.nx ?_
  refine swp_seqJ h (fun j3 => ⟨30, [(2, .ref 2 0), (3, .ref 3 0)], [(2, .box [vs (ByteArray.mk #[]), vi 0, vi 0, vi 0, vl eName ([] : List Name)]), (3, .box [vs j3.1, vi j3.2.1, vi j3.2.2.1, vi j3.2.2.2.1, .own 5]), (5, oa 95 5 eName j3.2.2.2.2.1), (1000000, .box (tc el01Source j3.2.2.2.2.2))]⟩) (fun v4 h => ?_) (fun j3 h => ?_)
  refine swp_blk (a := v4) ?_
  refine srk tbokGB ⟨30, [(0, .ref 1000000 0), (2, .ref 2 0), (3, .ref 3 0), (7, vi x2.1), (8, vb (x2.1 == 0))], [(2, .box [vs (ByteArray.mk #[]), vi 0, vi 0, vi 0, vl eName ([] : List Name)]), (3, .box [vs x1.1.Code, vi x1.1.Class, vi x1.1.Years.From, vi x1.1.Years.To, .own 5]), (5, oa 95 5 eName x1.1.Names), (1000000, .box (tc el01Source x2.2))]⟩ ?_
  refine swp_cd h (fun h => ?_) fun h => ?_
  refine swp_reg ?_
  refine SRun.ck tbokGB 1 ⟨30, [(2, .ref 2 0), (3, .ref 3 0), (10, .ref 1000000 0)], [(2, .box [vs (ByteArray.mk #[]), vi 0, vi 0, vi 0, vl eName ([] : List Name)]), (3, .box [vs x1.1.Code, vi x1.1.Class, vi x1.1.Years.From, vi x1.1.Years.To, .own 5]), (5, oa 95 5 eName x1.1.Names), (1000000, .box (tc el01Source x2.2))]⟩ ?_
  obtain ⟨x5, hx5, h⟩ := bind_some h
  refine SRun.estep (xe ents99 (spec_l01DrawWord_run x2.2 _ hx5)) ?_
  refine SRun.ck tbokGB 2 ⟨30, [(2, .ref 2 0), (3, .ref 3 0)], [(2, .box [vs (ByteArray.mk #[]), vi 0, vi 0, vi 0, vl eName ([] : List Name)]), (3, .box [vs x5.1, vi x1.1.Class, vi x1.1.Years.From, vi x1.1.Years.To, .own 5]), (5, oa 95 5 eName x1.1.Names), (1000000, .box (tc el01Source x5.2))]⟩ ?_
  refine SRun.nil ?_
  obtain rfl := inj h
  exact q_bn (q_j (Le.sub0))
  refine srk tbokGB ⟨30, [(0, .ref 1000000 0), (2, .ref 2 0), (3, .ref 3 0), (7, vi x2.1), (13, vb (x2.1 == 1))], [(2, .box [vs (ByteArray.mk #[]), vi 0, vi 0, vi 0, vl eName ([] : List Name)]), (3, .box [vs x1.1.Code, vi x1.1.Class, vi x1.1.Years.From, vi x1.1.Years.To, .own 5]), (5, oa 95 5 eName x1.1.Names), (1000000, .box (tc el01Source x2.2))]⟩ ?_
  refine swp_cd h (fun h => ?_) fun h => ?_
  refine swp_reg ?_
  refine SRun.ck tbokGB 2 ⟨30, [(2, .ref 2 0), (3, .ref 3 0), (15, .ref 1000000 0), (16, .own 16)], [(2, .box [vs (ByteArray.mk #[]), vi 0, vi 0, vi 0, vl eName ([] : List Name)]), (3, .box [vs x1.1.Code, vi x1.1.Class, vi x1.1.Years.From, vi x1.1.Years.To, .own 5]), (5, oa 95 5 eName x1.1.Names), (16, oa 2 1 (eI .i64) ([(-1), 19, 20] : List Int)), (1000000, .box (tc el01Source x2.2))]⟩ ?_
  refine SRun.le (Le.frz' (d := 16) (e := 2) (m := 1) (n := ([(-1), 19, 20] : List Int).length) (es := ([(-1), 19, 20] : List Int).map (eI .i64)) (by kernel_rfl) (by kernel_rfl)) ?_
  obtain ⟨x6, hx6, h⟩ := bind_some h
  refine SRun.estep (xe ents62 (spec_l01Pick_run x2.2 ([(-1), 19, 20] : List Int) _ hx6)) ?_
  refine SRun.ck tbokGB 2 ⟨30, [(2, .ref 2 0), (3, .ref 3 0)], [(2, .box [vs (ByteArray.mk #[]), vi 0, vi 0, vi 0, vl eName ([] : List Name)]), (3, .box [vs x1.1.Code, vi x6.1, vi x1.1.Years.From, vi x1.1.Years.To, .own 5]), (5, oa 95 5 eName x1.1.Names), (1000000, .box (tc el01Source x6.2))]⟩ ?_
  refine SRun.nil ?_
  obtain rfl := inj h
  exact q_bn (q_j (Le.sub0))
  refine srk tbokGB ⟨30, [(0, .ref 1000000 0), (2, .ref 2 0), (3, .ref 3 0), (7, vi x2.1), (19, vb (x2.1 == 2))], [(2, .box [vs (ByteArray.mk #[]), vi 0, vi 0, vi 0, vl eName ([] : List Name)]), (3, .box [vs x1.1.Code, vi x1.1.Class, vi x1.1.Years.From, vi x1.1.Years.To, .own 5]), (5, oa 95 5 eName x1.1.Names), (1000000, .box (tc el01Source x2.2))]⟩ ?_
  refine swp_cd h (fun h => ?_) fun h => ?_
  refine swp_reg ?_
  refine SRun.ck tbokGB 1 ⟨30, [(2, .ref 2 0), (3, .ref 3 0), (21, .ref 1000000 0)], [(2, .box [vs (ByteArray.mk #[]), vi 0, vi 0, vi 0, vl eName ([] : List Name)]), (3, .box [vs x1.1.Code, vi x1.1.Class, vi x1.1.Years.From, vi x1.1.Years.To, .own 5]), (5, oa 95 5 eName x1.1.Names), (1000000, .box (tc el01Source x2.2))]⟩ ?_
  obtain ⟨x7, hx7, h⟩ := bind_some h
  refine SRun.estep (xe ents100 (spec_l02Draw_run x2.2 _ hx7)) ?_
  refine SRun.ck tbokGB 2 ⟨30, [(2, .ref 2 0), (3, .ref 3 0)], [(2, .box [vs (ByteArray.mk #[]), vi 0, vi 0, vi 0, vl eName ([] : List Name)]), (3, .box [vs x1.1.Code, vi x1.1.Class, vi x7.1.From, vi x7.1.To, .own 5]), (5, oa 95 5 eName x1.1.Names), (1000000, .box (tc el01Source x7.2))]⟩ ?_
  refine SRun.nil ?_
  obtain rfl := inj h
  exact q_bn (q_j (Le.sub0))
  refine srk tbokGB ⟨30, [(0, .ref 1000000 0), (2, .ref 2 0), (3, .ref 3 0), (24, vb (x2.1 == 3))], [(2, .box [vs (ByteArray.mk #[]), vi 0, vi 0, vi 0, vl eName ([] : List Name)]), (3, .box [vs x1.1.Code, vi x1.1.Class, vi x1.1.Years.From, vi x1.1.Years.To, .own 5]), (5, oa 95 5 eName x1.1.Names), (1000000, .box (tc el01Source x2.2))]⟩ ?_
  refine swp_cd h (fun h => ?_) fun h => ?_
  refine swp_reg ?_
  refine SRun.ck tbokGB 1 ⟨30, [(2, .ref 2 0), (3, .ref 3 0), (26, .ref 1000000 0)], [(2, .box [vs (ByteArray.mk #[]), vi 0, vi 0, vi 0, vl eName ([] : List Name)]), (3, .box [vs x1.1.Code, vi x1.1.Class, vi x1.1.Years.From, vi x1.1.Years.To, .own 5]), (5, oa 95 5 eName x1.1.Names), (1000000, .box (tc el01Source x2.2))]⟩ ?_
  obtain ⟨x8, hx8, h⟩ := bind_some h
  refine SRun.estep (xe ents101 (spec_l09List_run x2.2 _ hx8)) ?_
  refine SRun.ck tbokGB 2 ⟨30, [(2, .ref 2 0), (3, .ref 3 0)], [(2, .box [vs (ByteArray.mk #[]), vi 0, vi 0, vi 0, vl eName ([] : List Name)]), (3, .box [vs x1.1.Code, vi x1.1.Class, vi x1.1.Years.From, vi x1.1.Years.To, .own 27]), (27, oa 95 5 eName x8.1), (1000000, .box (tc el01Source x8.2))]⟩ ?_
  refine SRun.nil ?_
  obtain rfl := inj h
  exact q_bn (q_j (Le.rr [2, 3, 27, 1000000] [(27, 5)]))
  refine swp_skip ?_
  obtain rfl := inj h
  exact q_bn (q_j (Le.sub0))
  refine srk tbokGB ⟨30, [(2, .ref 2 0)], [(2, .box [vs j3.1, vi j3.2.1, vi j3.2.2.1, vi j3.2.2.2.1, .own 5]), (5, oa 95 5 eName j3.2.2.2.2.1), (1000000, .box (tc el01Source j3.2.2.2.2.2))]⟩ ?_
  refine swp_ret ?_
  obtain rfl := inj h
  exact q_fr (fin_io (f1 (finP (d := 5) [vs j3.1, vi j3.2.1, vi j3.2.2.1, vi j3.2.2.2.1] [] (holds_c tbokGB (d := 2) (cs := [vs j3.1, vi j3.2.1, vi j3.2.2.1, vi j3.2.2.2.1, .own 5]) (ti := ti41) (by kernel_rfl) (by kernel_rfl) (by kernel_rfl) (by kernel_rfl)) (by kernel_rfl) (flat_map eName_flat _) rfl rfl SV.flatL_of SV.flatL_of (by kernel_rfl))) (y := .box (tc el01Source j3.2.2.2.2.2)) (by kernel_rfl) rfl (by kernel_rfl) (by kernel_rfl))
theorem ents59 : Ents Tryz.prog 59 := ents_of Tryz.func59 (by kernel_rfl) rfl
noncomputable def spec_l11List (aS : l01Source) : Option ((List Place) × l01Source) :=
  ((spec_l01Next aS 7).bind fun x1 => (((loop (fun (s4 : Int × (List Place) × l01Source) => (bif (decide (s4.1 > 0)) then ((((spec_l11Good s4.2.2).bind fun x8 => ((spec_AddPlace s4.2.1 x8.1).bind fun x9 => (bif (x9.2 == 0) then some (x9.1, x8.2) else some (s4.2.1, x8.2))))).bind fun (j6 : (List Place) × l01Source) => some (.inl ((w64 (s4.1 - 1)), j6.1, j6.2))) else some (.inr (s4.2.1, s4.2.2)))) (x1.1, ([] : List Place), x1.2))).bind fun (j2 : (List Place) × l01Source) => ((spec_l01Next j2.2 24).bind fun x10 => (((bif (x10.1 == 0) then ((spec_l11Draw x10.2).bind fun x13 => ((app' j2.1 ([x13.1] : List Place)).bind fun x14 => some (x14, x13.2))) else (bif (x10.1 == 1) then (loop (fun (s15 : Int × (List Place) × l01Source) => ((((spec_l01Next s15.2.2 2).bind fun x17 => (bif (decide ((s15.2.1.length : Int) < (w64 (10 + x17.1)))) then some ((decide (s15.1 < 12)), x17.2) else some (false, x17.2)))).bind fun (j18 : Bool × l01Source) => (bif j18.1 then ((((sub' (ByteArray.mk #[97, 98, 99, 100, 101, 102, 103, 104, 105, 106, 107, 108]) s15.1 (w64 (s15.1 + 1))).bind fun x22 => ((cat' (ByteArray.mk #[122]) x22).bind fun x23 => ((app' s15.2.1 ([(Place.mk x23 0 (Span.mk 1500 1600) ([] : List Name))] : List Place)).bind fun x24 => some x24)))).bind fun (j20 : (List Place)) => some (.inl ((w64 (s15.1 + 1)), j20, j18.2))) else some (.inr (s15.2.1, j18.2))))) (0, j2.1, x10.2)) else some (j2.1, x10.2)))).bind fun (j11 : (List Place) × l01Source) => some (j11.1, j11.2)))))
theorem spec_l11List_run (aS : l01Source) (r : (List Place) × l01Source) (h : spec_l11List aS = some r) : SCall Tryz.prog 58 [.o (.box [vl (eI .u8) aS.code, vi aS.at', vi aS.seed])] ⟨[.own 41 5 r.1.length (r.1.map ePlace)], [(0, .box (tc el01Source r.2))], true⟩ := by
  refine scall_in Tryz.func58 rfl [(.tmp 2)] rfl (fun r => ⟨[.own 41 5 r.1.length (r.1.map ePlace)], [(0, .box (tc el01Source r.2))], true⟩) (r := r) ?_
  unfold spec_l11List at h
  refine srk tbokGB ⟨59, [(0, .ref 1000000 0)], [(1000000, .box (tc el01Source aS))]⟩ ?_
  refine srk tbokGB ⟨59, [(0, .ref 1000000 0), (3, .own 8)], [(8, oa 41 5 ePlace ([] : List Place)), (1000000, .box (tc el01Source aS))]⟩ ?_
  refine swp_seq ?_
  refine sr ?_
  refine SRun.ck tbokGB 1 ⟨59, [(0, .ref 1000000 0), (3, .own 8), (9, .ref 1000000 0)], [(8, oa 41 5 ePlace ([] : List Place)), (1000000, .box (tc el01Source aS))]⟩ ?_
  obtain ⟨x1, hx1, h⟩ := bind_some h
  refine SRun.estep (xe ents61 (spec_l01Next_run aS 7 _ hx1)) ?_
  refine ckn tbokGB 1 ⟨59, [(0, .ref 1000000 0), (3, .own 8), (4, vi x1.1)], [(8, oa 41 5 ePlace ([] : List Place)), (1000000, .box (tc el01Source x1.2))]⟩ ?_
  refine swp_seqJ h (fun j2 => ⟨59, [(0, .ref 1000000 0), (3, .own 3)], [(3, oa 41 5 ePlace j2.1), (1000000, .box (tc el01Source j2.2))]⟩) (fun v3 h => ?_) (fun j2 h => ?_)
  refine swp_blk (a := v3) ?_
  refine swp_lpL (r := v3) (s := (x1.1, ([] : List Place), x1.2)) _ (fun s4 => ⟨59, [(0, .ref 1000000 0), (3, .own 3), (4, vi s4.1)], [(3, oa 41 5 ePlace s4.2.1), (1000000, .box (tc el01Source s4.2.2))]⟩) _ (Le.rr [8, 1000000] [(8, 3)]) h (fun s4 v5 h => ?_)
  refine swp_seq ?_
  refine srk tbokGB ⟨59, [(0, .ref 1000000 0), (3, .own 3), (4, vi s4.1), (12, vb (decide (s4.1 > 0)))], [(3, oa 41 5 ePlace s4.2.1), (1000000, .box (tc el01Source s4.2.2))]⟩ ?_
  refine swp_cd h (fun h => ?_) fun h => ?_
  refine swp_skip ?_
  refine nx_n ?_
  refine swp_seq ?_
  refine swp_seqJ h (fun j6 => ⟨59, [(0, .ref 1000000 0), (3, .own 3), (4, vi s4.1)], [(3, oa 41 5 ePlace j6.1), (1000000, .box (tc el01Source j6.2))]⟩) (fun v7 h => ?_) (fun j6 h => ?_)
  refine swp_blk (a := v7) ?_
  refine sr ?_
  refine SRun.ck tbokGB 2 ⟨59, [(0, .ref 1000000 0), (3, .own 3), (4, vi s4.1), (16, .own 3), (17, .ref 1000000 0)], [(3, oa 41 5 ePlace s4.2.1), (1000000, .box (tc el01Source s4.2.2))]⟩ ?_
  obtain ⟨x8, hx8, h⟩ := bind_some h
  refine SRun.estep (xe ents98 (spec_l11Good_run s4.2.2 _ hx8)) ?_
  obtain ⟨x9, hx9, h⟩ := bind_some h
  refine SRun.ls (xc ents14 (spec_AddPlace_run s4.2.1 x8.1 _ hx9)) ?_
  refine ckn tbokGB 5 ⟨59, [(0, .ref 1000000 0), (3, .own 3), (4, vi s4.1), (5, .own 19), (6, vi x9.2)], [(3, oa 41 5 ePlace s4.2.1), (19, .deep 41 5 x9.1.length [.flat, .flat, .flat, .flat, (.sl 95 5 [.flat, .flat, .flat, .flat, .flat])] (x9.1.map ePlace)), (1000000, .box (tc el01Source x8.2))]⟩ ?_
  refine srk tbokGB ⟨59, [(0, .ref 1000000 0), (3, .own 3), (4, vi s4.1), (5, .own 19), (23, vb (x9.2 == 0))], [(3, oa 41 5 ePlace s4.2.1), (19, .deep 41 5 x9.1.length [.flat, .flat, .flat, .flat, (.sl 95 5 [.flat, .flat, .flat, .flat, .flat])] (x9.1.map ePlace)), (1000000, .box (tc el01Source x8.2))]⟩ ?_
  refine swp_cd h (fun h => ?_) fun h => ?_
  refine swp_reg ?_
  refine SRun.ck tbokGB 2 ⟨59, [(0, .ref 1000000 0), (3, .own 19), (4, vi s4.1)], [(19, .deep 41 5 x9.1.length [.flat, .flat, .flat, .flat, (.sl 95 5 [.flat, .flat, .flat, .flat, .flat])] (x9.1.map ePlace)), (1000000, .box (tc el01Source x8.2))]⟩ ?_
  refine SRun.nil ?_
  obtain rfl := inj h
  exact q_bn (q_j ((Le.shal (d := 19) (e := 41) (m := 5) (n := x9.1.length) (ss := [.flat, .flat, .flat, .flat, (.sl 95 5 [.flat, .flat, .flat, .flat, .flat])]) (es := x9.1.map ePlace) (by kernel_rfl) (by kernel_rfl)).trans (Le.rr [19, 1000000] [(19, 3)])))
  refine swp_skip ?_
  obtain rfl := inj h
  exact q_bn (q_j (Le.sub0))
  refine swp_reg ?_
  refine SRun.ck tbokGB 3 ⟨59, [(0, .ref 1000000 0), (3, .own 3), (4, vi (w64 (s4.1 - 1)))], [(3, oa 41 5 ePlace j6.1), (1000000, .box (tc el01Source j6.2))]⟩ ?_
  refine SRun.nil ?_
  obtain rfl := inj h
  exact q_l (Le.sub0)
  refine swp_exit ?_
  obtain rfl := inj h
  exact nx_e (q_re (q_bh (q_j (Le.sub0))))
  refine swp_seq ?_
  refine sr ?_
  refine SRun.ck tbokGB 1 ⟨59, [(0, .ref 1000000 0), (3, .own 3), (25, .ref 1000000 0)], [(3, oa 41 5 ePlace j2.1), (1000000, .box (tc el01Source j2.2))]⟩ ?_
  obtain ⟨x10, hx10, h⟩ := bind_some h
  refine SRun.estep (xe ents61 (spec_l01Next_run j2.2 24 _ hx10)) ?_
  refine SRun.nx ?_
  refine swp_seqJ h (fun j11 => ⟨59, [(3, .own 3)], [(3, oa 41 5 ePlace j11.1), (1000000, .box (tc el01Source j11.2))]⟩) (fun v12 h => ?_) (fun j11 h => ?_)
  refine swp_blk (a := v12) ?_
  refine srk tbokGB ⟨59, [(0, .ref 1000000 0), (3, .own 3), (26, vi x10.1), (27, vb (x10.1 == 0))], [(3, oa 41 5 ePlace j2.1), (1000000, .box (tc el01Source x10.2))]⟩ ?_
  refine swp_cd h (fun h => ?_) fun h => ?_
  refine swp_reg ?_
  refine SRun.ck tbokGB 2 ⟨59, [(29, .own 3), (30, .ref 1000000 0)], [(3, oa 41 5 ePlace j2.1), (1000000, .box (tc el01Source x10.2))]⟩ ?_
  obtain ⟨x13, hx13, h⟩ := bind_some h
  refine SRun.estep (xe ents59 (spec_l11Draw_run x10.2 _ hx13)) ?_
  refine SRun.le (Le.frz' (d := 31) (e := 95) (m := 5) (n := x13.1.Names.length) (es := x13.1.Names.map eName) (by kernel_rfl) (by kernel_rfl)) ?_
  refine SRun.ck tbokGB 1 ⟨59, [(29, .own 3), (32, .own 32)], [(3, oa 41 5 ePlace j2.1), (32, oa 41 5 ePlace ([x13.1] : List Place)), (1000000, .box (tc el01Source x13.2))]⟩ ?_
  obtain ⟨x14, hx14, h⟩ := bind_some h
  refine SRun.estep (x_append (f := ePlace) (t := 24) (ti := ti24) (tj := ti41) (zs := [.string (ByteArray.mk #[]), .int .i64 0, .int .i64 0, .int .i64 0, .slice none 0 0]) (e := 41) (m := 5) (d := 3) (xv := .own 32) hx14 tbokGB rfl rfl rfl rfl (x_src_o (e := 41))) ?_
  refine SRun.ck tbokGB 1 ⟨59, [(3, .own 33)], [(33, oa 41 5 ePlace x14), (1000000, .box (tc el01Source x13.2))]⟩ ?_
  refine SRun.nil ?_
  obtain rfl := inj h
  exact q_bn (q_j (Le.rr [33, 1000000] [(33, 3)]))
  refine srk tbokGB ⟨59, [(0, .ref 1000000 0), (3, .own 3), (34, vb (x10.1 == 1))], [(3, oa 41 5 ePlace j2.1), (1000000, .box (tc el01Source x10.2))]⟩ ?_
  refine swp_cd h (fun h => ?_) fun h => ?_
  refine srk tbokGB ⟨59, [(0, .ref 1000000 0), (3, .own 3), (7, vi 0)], [(3, oa 41 5 ePlace j2.1), (1000000, .box (tc el01Source x10.2))]⟩ ?_
  refine swp_blk (a := v12) ?_
  refine swp_lpL (r := v12) (s := (0, j2.1, x10.2)) _ (fun s15 => ⟨59, [(0, .ref 1000000 0), (3, .own 3), (7, vi s15.1)], [(3, oa 41 5 ePlace s15.2.1), (1000000, .box (tc el01Source s15.2.2))]⟩) _ (Le.sub0) h (fun s15 v16 h => ?_)
  refine swp_seq ?_
  refine swp_seq ?_
  refine swp_regJ h (fun j18 => ⟨59, [(0, .ref 1000000 0), (3, .own 3), (7, vi s15.1), (45, vb j18.1)], [(3, oa 41 5 ePlace s15.2.1), (1000000, .box (tc el01Source j18.2))]⟩) (fun v19 h => ?_) (fun j18 h => ?_)
  refine SRun.ck tbokGB 3 ⟨59, [(0, .ref 1000000 0), (3, .own 3), (7, vi s15.1), (37, vi (s15.2.1.length : Int)), (38, .ref 1000000 0)], [(3, oa 41 5 ePlace s15.2.1), (1000000, .box (tc el01Source s15.2.2))]⟩ ?_
  obtain ⟨x17, hx17, h⟩ := bind_some h
  refine SRun.estep (xe ents61 (spec_l01Next_run s15.2.2 2 _ hx17)) ?_
  refine SRun.ck tbokGB 3 ⟨59, [(0, .ref 1000000 0), (3, .own 3), (7, vi s15.1), (42, vb (decide ((s15.2.1.length : Int) < (w64 (10 + x17.1)))))], [(3, oa 41 5 ePlace s15.2.1), (1000000, .box (tc el01Source x17.2))]⟩ ?_
  refine SRun.cu [(42, fun b => b)] h (fun h => ?_) fun h => ?_
  refine SRun.ck tbokGB 3 ⟨59, [(0, .ref 1000000 0), (3, .own 3), (7, vi s15.1), (45, vb (decide (s15.1 < 12)))], [(3, oa 41 5 ePlace s15.2.1), (1000000, .box (tc el01Source x17.2))]⟩ ?_
  refine SRun.nil ?_
  obtain rfl := inj h
  exact Le.sub0
  refine SRun.ck tbokGB 3 ⟨59, [(0, .ref 1000000 0), (3, .own 3), (7, vi s15.1), (45, vb false)], [(3, oa 41 5 ePlace s15.2.1), (1000000, .box (tc el01Source x17.2))]⟩ ?_
  refine SRun.nil ?_
  obtain rfl := inj h
  exact Le.sub0
  refine swp_cd h (fun h => ?_) fun h => ?_
  refine swp_skip ?_
  refine nx_n ?_
  refine swp_seq ?_
  refine swp_seqJ h (fun j20 => ⟨59, [(0, .ref 1000000 0), (3, .own 3), (7, vi s15.1)], [(3, oa 41 5 ePlace j20), (1000000, .box (tc el01Source j18.2))]⟩) (fun v21 h => ?_) (fun j20 h => ?_)
  refine swp_blk (a := v21) ?_
  refine swp_reg ?_
  refine SRun.ck tbokGB 4 ⟨59, [(0, .ref 1000000 0), (7, vi s15.1), (48, .own 3), (49, vi s15.1), (51, vi (w64 (s15.1 + 1)))], [(3, oa 41 5 ePlace s15.2.1), (1000000, .box (tc el01Source j18.2))]⟩ ?_
  obtain ⟨x22, hx22, h⟩ := bind_some h
  refine SRun.ls (x_sub (ti := ti9) hx22 tbokGB rfl) ?_
  obtain ⟨x23, hx23, h⟩ := bind_some h
  refine SRun.ls (x_cat hx23 rfl) ?_
  refine SRun.ls (x_lstep_build (v := .agg [vi 1500, vi 1600]) tbokGB rfl) ?_
  refine SRun.ls (x_lstep_build (v := .agg [vs x23, vi 0, vi 1500, vi 1600, vl eName ([] : List Name)]) tbokGB rfl) ?_
  refine SRun.ck tbokGB 1 ⟨59, [(0, .ref 1000000 0), (7, vi s15.1), (48, .own 3), (56, .own 56)], [(3, oa 41 5 ePlace s15.2.1), (56, oa 41 5 ePlace ([(Place.mk x23 0 (Span.mk 1500 1600) ([] : List Name))] : List Place)), (1000000, .box (tc el01Source j18.2))]⟩ ?_
  obtain ⟨x24, hx24, h⟩ := bind_some h
  refine SRun.estep (x_append (f := ePlace) (t := 24) (ti := ti24) (tj := ti41) (zs := [.string (ByteArray.mk #[]), .int .i64 0, .int .i64 0, .int .i64 0, .slice none 0 0]) (e := 41) (m := 5) (d := 3) (xv := .own 56) hx24 tbokGB rfl rfl rfl rfl (x_src_o (e := 41))) ?_
  refine SRun.ck tbokGB 1 ⟨59, [(0, .ref 1000000 0), (3, .own 57), (7, vi s15.1)], [(57, oa 41 5 ePlace x24), (1000000, .box (tc el01Source j18.2))]⟩ ?_
  refine SRun.nil ?_
  obtain rfl := inj h
  exact q_bn (q_j (Le.rr [57, 1000000] [(57, 3)]))
  refine swp_reg ?_
  refine SRun.ck tbokGB 3 ⟨59, [(0, .ref 1000000 0), (3, .own 3), (7, vi (w64 (s15.1 + 1)))], [(3, oa 41 5 ePlace j20), (1000000, .box (tc el01Source j18.2))]⟩ ?_
  refine SRun.nil ?_
  obtain rfl := inj h
  exact q_l (Le.sub0)
  refine swp_exit ?_
  obtain rfl := inj h
  exact nx_e (q_re (q_bh (q_bn (q_j (Le.sub0)))))
  refine swp_skip ?_
  obtain rfl := inj h
  exact q_bn (q_j (Le.sub0))
  refine srk tbokGB ⟨59, [(2, .own 3)], [(3, oa 41 5 ePlace j11.1), (1000000, .box (tc el01Source j11.2))]⟩ ?_
  refine swp_ret ?_
  obtain rfl := inj h
  exact q_fr (fin_io (f1 (finOT (d := 3) (holds_t (by kernel_rfl)) (by kernel_rfl) (by kernel_rfl))) (y := .box (tc el01Source j11.2)) (by kernel_rfl) rfl (by kernel_rfl) (by kernel_rfl))
theorem ents58 : Ents Tryz.prog 58 := ents_of Tryz.func58 (by kernel_rfl) rfl
noncomputable def spec_DrawAddPlace (aCode : (List Int)) : Option ((List Place) × Place) :=
  ((spec_l01From aCode).bind fun x1 => ((spec_l11List x1).bind fun x2 => ((spec_l11Draw x2.2).bind fun x3 => some (x2.1, x3.1))))
theorem spec_DrawAddPlace_run (aCode : (List Int)) (r : (List Place) × Place) (h : spec_DrawAddPlace aCode = some r) : SCall Tryz.prog 20 [.v (vl (eI .u8) aCode)] ⟨[.own 41 5 r.1.length (r.1.map ePlace), .v (.agg (tc ePlace r.2))], [], true⟩ := by
  refine scall_in Tryz.func20 rfl [(.tmp 2), (.cell 3 41)] rfl (fun r => ⟨[.own 41 5 r.1.length (r.1.map ePlace), .v (.agg (tc ePlace r.2))], [], true⟩) (r := r) ?_
  unfold spec_DrawAddPlace at h
  refine srk tbokGB ⟨13, [(0, vl (eI .u8) aCode), (3, .ref 3 0)], [(3, .box [vs (ByteArray.mk #[]), vi 0, vi 0, vi 0, vl eName ([] : List Name)])]⟩ ?_
  refine sr ?_
  refine SRun.ck tbokGB 1 ⟨13, [(3, .ref 3 0), (6, vl (eI .u8) aCode)], [(3, .box [vs (ByteArray.mk #[]), vi 0, vi 0, vi 0, vl eName ([] : List Name)])]⟩ ?_
  obtain ⟨x1, hx1, h⟩ := bind_some h
  refine SRun.ls (xc ents57 (spec_l01From_run aCode _ hx1)) ?_
  refine ckn tbokGB 1 ⟨13, [(3, .ref 3 0), (4, .ref 7 0)], [(3, .box [vs (ByteArray.mk #[]), vi 0, vi 0, vi 0, vl eName ([] : List Name)]), (7, .box (tc el01Source x1))]⟩ ?_
  refine sr ?_
  refine SRun.ck tbokGB 1 ⟨13, [(3, .ref 3 0), (4, .ref 7 0), (8, .ref 7 0)], [(3, .box [vs (ByteArray.mk #[]), vi 0, vi 0, vi 0, vl eName ([] : List Name)]), (7, .box (tc el01Source x1))]⟩ ?_
  obtain ⟨x2, hx2, h⟩ := bind_some h
  refine SRun.estep (xe ents58 (spec_l11List_run x1 _ hx2)) ?_
  refine ckn tbokGB 1 ⟨13, [(3, .ref 3 0), (4, .ref 7 0), (5, .own 9)], [(3, .box [vs (ByteArray.mk #[]), vi 0, vi 0, vi 0, vl eName ([] : List Name)]), (7, .box (tc el01Source x2.2)), (9, oa 41 5 ePlace x2.1)]⟩ ?_
  refine sr ?_
  refine SRun.ck tbokGB 2 ⟨13, [(3, .ref 3 0), (10, .own 9), (11, .ref 7 0)], [(3, .box [vs (ByteArray.mk #[]), vi 0, vi 0, vi 0, vl eName ([] : List Name)]), (7, .box (tc el01Source x2.2)), (9, oa 41 5 ePlace x2.1)]⟩ ?_
  obtain ⟨x3, hx3, h⟩ := bind_some h
  refine SRun.estep (xe ents59 (spec_l11Draw_run x2.2 _ hx3)) ?_
  refine ckn tbokGB 2 ⟨13, [(2, .own 9), (3, .ref 3 0)], [(3, .box [vs x3.1.Code, vi x3.1.Class, vi x3.1.Years.From, vi x3.1.Years.To, .own 12]), (9, oa 41 5 ePlace x2.1), (12, oa 95 5 eName x3.1.Names)]⟩ ?_
  refine swp_le (Le.frz' (d := 12) (e := 95) (m := 5) (n := x3.1.Names.length) (es := x3.1.Names.map eName) (by kernel_rfl) (by kernel_rfl)) ?_
  refine swp_ret ?_
  obtain rfl := inj h
  exact q_fr (f2 (finOT (d := 9) (holds_t (by kernel_rfl)) (by kernel_rfl) (by kernel_rfl)) (finT rfl (holds_c tbokGB (d := 3) (cs := [vs x3.1.Code, vi x3.1.Class, vi x3.1.Years.From, vi x3.1.Years.To, vl eName x3.1.Names]) (ti := ti41) (by kernel_rfl) (by kernel_rfl) (by kernel_rfl) (by kernel_rfl))))
theorem ents20 : Ents Tryz.prog 20 := ents_of Tryz.func20 (by kernel_rfl) rfl
noncomputable def spec_l11CodeOf (aS : l01Source) (aList : (List Place)) : Option (ByteArray × l01Source) :=
  (((bif (decide ((aList.length : Int) > 0)) then ((spec_l01Next aS 6).bind fun x1 => some ((decide (x1.1 > 0)), x1.2)) else some (false, aS))).bind fun (j2 : Bool × l01Source) => (bif j2.1 then ((spec_l01Next j2.2 (aList.length : Int)).bind fun x4 => ((at' aList x4.1).bind fun x5 => some (x5.Code, x4.2))) else ((spec_l01Next j2.2 4).bind fun x6 => ((at' ([(ByteArray.mk #[97, 115, 104]), (ByteArray.mk #[110, 111, 119, 104, 101, 114, 101]), (ByteArray.mk #[]), (ByteArray.mk #[69, 108, 121])] : List ByteArray) x6.1).bind fun x7 => some (x7, x6.2)))))
theorem spec_l11CodeOf_run (aS : l01Source) (aList : (List Place)) (r : ByteArray × l01Source) (h : spec_l11CodeOf aS aList = some r) : SCall Tryz.prog 102 [.o (.box [vl (eI .u8) aS.code, vi aS.at', vi aS.seed]), .v (vl ePlace aList)] ⟨[.v (vs r.1)], [(0, .box (tc el01Source r.2))], false⟩ := by
  refine scall_in Tryz.func102 rfl [(.tmp 4)] rfl (fun r => ⟨[.v (vs r.1)], [(0, .box (tc el01Source r.2))], false⟩) (r := r) ?_
  unfold spec_l11CodeOf at h
  refine srk tbokGB ⟨26, [(0, .ref 1000000 0), (1, vl ePlace aList)], [(1000000, .box (tc el01Source aS))]⟩ ?_
  refine swp_seq ?_
  refine swp_seq ?_
  refine swp_regJ h (fun j2 => ⟨26, [(0, .ref 1000000 0), (1, vl ePlace aList), (12, vb j2.1)], [(1000000, .box (tc el01Source j2.2))]⟩) (fun v3 h => ?_) (fun j2 h => ?_)
  refine SRun.ck tbokGB 4 ⟨26, [(0, .ref 1000000 0), (1, vl ePlace aList), (8, vb (decide ((aList.length : Int) > 0)))], [(1000000, .box (tc el01Source aS))]⟩ ?_
  refine SRun.cu [(8, fun b => b)] h (fun h => ?_) fun h => ?_
  refine SRun.ck tbokGB 1 ⟨26, [(0, .ref 1000000 0), (1, vl ePlace aList), (8, vb true), (9, .ref 1000000 0)], [(1000000, .box (tc el01Source aS))]⟩ ?_
  obtain ⟨x1, hx1, h⟩ := bind_some h
  refine SRun.estep (xe ents61 (spec_l01Next_run aS 6 _ hx1)) ?_
  refine SRun.ck tbokGB 2 ⟨26, [(0, .ref 1000000 0), (1, vl ePlace aList), (12, vb (decide (x1.1 > 0)))], [(1000000, .box (tc el01Source x1.2))]⟩ ?_
  refine SRun.nil ?_
  obtain rfl := inj h
  exact Le.sub0
  refine SRun.ck tbokGB 4 ⟨26, [(0, .ref 1000000 0), (1, vl ePlace aList), (12, vb false)], [(1000000, .box (tc el01Source aS))]⟩ ?_
  refine SRun.nil ?_
  obtain rfl := inj h
  exact Le.sub0
  refine swp_cd h (fun h => ?_) fun h => ?_
  refine sr ?_
  refine SRun.ck tbokGB 4 ⟨26, [(13, vl ePlace aList), (14, .ref 1000000 0), (16, vi (aList.length : Int))], [(1000000, .box (tc el01Source j2.2))]⟩ ?_
  obtain ⟨x4, hx4, h⟩ := bind_some h
  refine SRun.estep (xe ents61 (spec_l01Next_run j2.2 (aList.length : Int) _ hx4)) ?_
  obtain ⟨x5, hx5, h⟩ := bind_some h
  refine SRun.ls (x_index (L := aList) (f := ePlace) (ti := ti24) (tj := ti41) (e := 41) (k := .i64) tbokGB rfl hx5) ?_
  refine ckn tbokGB 3 ⟨26, [(4, vs x5.Code)], [(1000000, .box (tc el01Source x4.2))]⟩ ?_
  refine swp_ret ?_
  obtain rfl := inj h
  exact nx_r (q_fr (fin_io (f1 fv) (y := .box (tc el01Source x4.2)) (by kernel_rfl) rfl (by kernel_rfl) (by kernel_rfl)))
  refine swp_skip ?_
  refine nx_n ?_
  refine sr ?_
  refine SRun.ck tbokGB 2 ⟨26, [(21, .own 21), (22, .ref 1000000 0)], [(21, oa 9 1 eS ([(ByteArray.mk #[97, 115, 104]), (ByteArray.mk #[110, 111, 119, 104, 101, 114, 101]), (ByteArray.mk #[]), (ByteArray.mk #[69, 108, 121])] : List ByteArray)), (1000000, .box (tc el01Source j2.2))]⟩ ?_
  obtain ⟨x6, hx6, h⟩ := bind_some h
  refine SRun.estep (xe ents61 (spec_l01Next_run j2.2 4 _ hx6)) ?_
  obtain ⟨x7, hx7, h⟩ := bind_some h
  refine SRun.ls (x_index_own (d := 21) (L := ([(ByteArray.mk #[97, 115, 104]), (ByteArray.mk #[110, 111, 119, 104, 101, 114, 101]), (ByteArray.mk #[]), (ByteArray.mk #[69, 108, 121])] : List ByteArray)) (f := eS) (ti := ti53) (tj := ti9) (e := 9) (e' := 9) (m := 1) (k := .i64) tbokGB rfl hx7) ?_
  refine SRun.ls (x_load_own (d := 21) (m := 1) (j := 0) (L := ([(ByteArray.mk #[97, 115, 104]), (ByteArray.mk #[110, 111, 119, 104, 101, 114, 101]), (ByteArray.mk #[]), (ByteArray.mk #[69, 108, 121])] : List ByteArray)) (f := eS) (ti := ti9) (e := 9) (v := vs x7) tbokGB rfl hx7) ?_
  refine ckn tbokGB 1 ⟨26, [(4, vs x7)], [(1000000, .box (tc el01Source x6.2))]⟩ ?_
  refine swp_ret ?_
  obtain rfl := inj h
  exact q_fr (fin_io (f1 fv) (y := .box (tc el01Source x6.2)) (by kernel_rfl) rfl (by kernel_rfl) (by kernel_rfl))
theorem ents102 : Ents Tryz.prog 102 := ents_of Tryz.func102 (by kernel_rfl) rfl
noncomputable def spec_DrawFindPlace (aCode : (List Int)) : Option ((List Place) × ByteArray) :=
  ((spec_l01From aCode).bind fun x1 => ((spec_l11List x1).bind fun x2 => ((spec_l11CodeOf x2.2 x2.1).bind fun x3 => some (x2.1, x3.1))))
theorem spec_DrawFindPlace_run (aCode : (List Int)) (r : (List Place) × ByteArray) (h : spec_DrawFindPlace aCode = some r) : SCall Tryz.prog 60 [.v (vl (eI .u8) aCode)] ⟨[.v (vl ePlace r.1), .v (vs r.2)], [], true⟩ := by
  refine scall_in Tryz.func60 rfl [(.tmp 2), (.tmp 3)] rfl (fun r => ⟨[.v (vl ePlace r.1), .v (vs r.2)], [], true⟩) (r := r) ?_
  unfold spec_DrawFindPlace at h
  refine srk tbokGB ⟨14, [(0, vl (eI .u8) aCode)], []⟩ ?_
  refine sr ?_
  refine SRun.ck tbokGB 1 ⟨14, [(6, vl (eI .u8) aCode)], []⟩ ?_
  obtain ⟨x1, hx1, h⟩ := bind_some h
  refine SRun.ls (xc ents57 (spec_l01From_run aCode _ hx1)) ?_
  refine ckn tbokGB 1 ⟨14, [(4, .ref 7 0)], [(7, .box (tc el01Source x1))]⟩ ?_
  refine sr ?_
  refine SRun.ck tbokGB 1 ⟨14, [(4, .ref 7 0), (8, .ref 7 0)], [(7, .box (tc el01Source x1))]⟩ ?_
  obtain ⟨x2, hx2, h⟩ := bind_some h
  refine SRun.estep (xe ents58 (spec_l11List_run x1 _ hx2)) ?_
  refine ckn tbokGB 1 ⟨14, [(4, .ref 7 0), (5, .own 9)], [(7, .box (tc el01Source x2.2)), (9, oa 41 5 ePlace x2.1)]⟩ ?_
  refine sr ?_
  refine SRun.ck tbokGB 3 ⟨14, [(10, .own 9), (11, .ref 7 0), (12, .own 9)], [(7, .box (tc el01Source x2.2)), (9, oa 41 5 ePlace x2.1)]⟩ ?_
  refine SRun.le (Le.frz' (d := 9) (e := 41) (m := 5) (n := x2.1.length) (es := x2.1.map ePlace) (by kernel_rfl) (by kernel_rfl)) ?_
  obtain ⟨x3, hx3, h⟩ := bind_some h
  refine SRun.estep (xe ents102 (spec_l11CodeOf_run x2.2 x2.1 _ hx3)) ?_
  refine ckn tbokGB 2 ⟨14, [(2, vl ePlace x2.1), (3, vs x3.1)], []⟩ ?_
  refine swp_ret ?_
  obtain rfl := inj h
  exact q_fr (f2 ft ft)
theorem ents60 : Ents Tryz.prog 60 := ents_of Tryz.func60 (by kernel_rfl) rfl
noncomputable def spec_l11Find (aList : (List Place)) (aCode : ByteArray) : Option (Int) :=
  (((forN (aList.length : Int) (fun (i3 : Int) (_ : Unit) => ((at' aList i3).bind fun x7 => (bif (x7.Code.toList == aCode.toList) then some (.inr (.inr i3)) else some (.inl ())))) (fun (_ : Unit) => .inl ()) 0 ())).bind (Sum.elim (fun (_ : Unit) => some (-1)) some))
theorem spec_l11Find_run (aList : (List Place)) (aCode : ByteArray) (r : Int) (h : spec_l11Find aList aCode = some r) : SCall Tryz.prog 37 [.v (vl ePlace aList), .v (vs aCode)] ⟨[.v (vi r)], [], false⟩ := by
  refine scall_in Tryz.func37 rfl [(.tmp 4)] rfl (fun r => ⟨[.v (vi r)], [], false⟩) (r := r) ?_
  unfold spec_l11Find at h
  refine srk tbokGB ⟨20, [(0, vl ePlace aList), (1, vs aCode)], []⟩ ?_
  refine swp_seq ?_
  refine srk tbokGB ⟨20, [(0, vl ePlace aList), (1, vs aCode), (5, vi 0)], []⟩ ?_
  refine swp_seqE (r := r) h (fun j1 => ⟨20, [], []⟩) (fun v2 h => ?_) (fun j1 h => ?_)
  refine swp_blk (a := v2) ?_
  refine swp_lpL (r := v2) (s := (0, ())) _ (fun s3 => ⟨20, [(0, vl ePlace aList), (1, vs aCode), (5, vi s3.1)], []⟩) _ (Le.sub0) h (fun s3 v4 h => ?_)
  refine swp_seq ?_
  refine srk tbokGB ⟨20, [(0, vl ePlace aList), (1, vs aCode), (5, vi s3.1), (9, vb (decide (s3.1 < (aList.length : Int))))], []⟩ ?_
  refine swp_cd h (fun h => ?_) fun h => ?_
  refine swp_skip ?_
  refine nx_n ?_
  refine swp_seq ?_
  refine swp_seqL (r := v4) h (fun j5 => ⟨20, [(0, vl ePlace aList), (1, vs aCode), (5, vi s3.1)], []⟩) (fun v6 h => ?_) (fun j5 h => ?_)
  refine swp_blk (a := v6) ?_
  refine sr ?_
  refine SRun.ck tbokGB 2 ⟨20, [(0, vl ePlace aList), (1, vs aCode), (5, vi s3.1), (12, vl ePlace aList), (13, vi s3.1)], []⟩ ?_
  obtain ⟨x7, hx7, h⟩ := bind_some h
  refine SRun.ls (x_index (L := aList) (f := ePlace) (ti := ti24) (tj := ti41) (e := 41) (k := .i64) tbokGB rfl hx7) ?_
  refine ckn tbokGB 4 ⟨20, [(0, vl ePlace aList), (1, vs aCode), (5, vi s3.1), (18, vb (x7.Code.toList == aCode.toList))], []⟩ ?_
  refine swp_cd h (fun h => ?_) fun h => ?_
  refine srk tbokGB ⟨20, [(4, vi s3.1)], []⟩ ?_
  refine swp_ret ?_
  obtain rfl := inj h
  exact q_br (q_rr (q_rr (q_br (q_rr (q_fr (f1 fv))))))
  refine swp_skip ?_
  obtain rfl := inj h
  exact q_bn (q_l (Le.sub0))
  refine swp_reg ?_
  refine SRun.ck tbokGB 3 ⟨20, [(0, vl ePlace aList), (1, vs aCode), (5, vi (w64 (s3.1 + 1)))], []⟩ ?_
  refine SRun.nil ?_
  obtain rfl := inj h
  exact q_l (Le.sub0)
  refine swp_exit ?_
  obtain rfl := inj h
  exact nx_e (q_re (q_bh (q_l (Le.sub0))))
  refine srk tbokGB ⟨20, [(4, vi (-1))], []⟩ ?_
  refine swp_ret ?_
  obtain rfl := inj h
  exact q_fr (f1 fv)
theorem ents37 : Ents Tryz.prog 37 := ents_of Tryz.func37 (by kernel_rfl) rfl
noncomputable def spec_l11YearOf (aS : l01Source) : Option (Int × l01Source) :=
  ((spec_l01Next aS 1200).bind fun x1 => ((spec_l01Next x1.2 500).bind fun x2 => ((spec_l01Next x2.2 500).bind fun x3 => ((spec_l01Next x3.2 1200).bind fun x4 => ((spec_l01Pick x4.2 ([(w64 (1000 + x1.1)), (w64 (1300 + x2.1)), (w64 (1300 + x3.1)), 3000, 3001, (w64 (1000 + x4.1))] : List Int)).bind fun x5 => some (x5.1, x5.2))))))
theorem spec_l11YearOf_run (aS : l01Source) (r : Int × l01Source) (h : spec_l11YearOf aS = some r) : SCall Tryz.prog 63 [.o (.box [vl (eI .u8) aS.code, vi aS.at', vi aS.seed])] ⟨[.v (vi r.1)], [(0, .box (tc el01Source r.2))], false⟩ := by
  refine scall_in Tryz.func63 rfl [(.tmp 2)] rfl (fun r => ⟨[.v (vi r.1)], [(0, .box (tc el01Source r.2))], false⟩) (r := r) ?_
  unfold spec_l11YearOf at h
  refine srk tbokGB ⟨18, [(0, .ref 1000000 0)], [(1000000, .box (tc el01Source aS))]⟩ ?_
  refine sr ?_
  refine SRun.ck tbokGB 2 ⟨18, [(0, .ref 1000000 0), (3, .ref 1000000 0), (4, .ref 1000000 0)], [(1000000, .box (tc el01Source aS))]⟩ ?_
  obtain ⟨x1, hx1, h⟩ := bind_some h
  refine SRun.estep (xe ents61 (spec_l01Next_run aS 1200 _ hx1)) ?_
  refine SRun.ck tbokGB 2 ⟨18, [(0, .ref 1000000 0), (3, .ref 1000000 0), (6, vi (w64 (1000 + x1.1))), (7, .ref 1000000 0)], [(1000000, .box (tc el01Source x1.2))]⟩ ?_
  obtain ⟨x2, hx2, h⟩ := bind_some h
  refine SRun.estep (xe ents61 (spec_l01Next_run x1.2 500 _ hx2)) ?_
  refine SRun.ck tbokGB 2 ⟨18, [(0, .ref 1000000 0), (3, .ref 1000000 0), (6, vi (w64 (1000 + x1.1))), (9, vi (w64 (1300 + x2.1))), (10, .ref 1000000 0)], [(1000000, .box (tc el01Source x2.2))]⟩ ?_
  obtain ⟨x3, hx3, h⟩ := bind_some h
  refine SRun.estep (xe ents61 (spec_l01Next_run x2.2 500 _ hx3)) ?_
  refine SRun.ck tbokGB 2 ⟨18, [(3, .ref 1000000 0), (6, vi (w64 (1000 + x1.1))), (9, vi (w64 (1300 + x2.1))), (12, vi (w64 (1300 + x3.1))), (13, .ref 1000000 0)], [(1000000, .box (tc el01Source x3.2))]⟩ ?_
  obtain ⟨x4, hx4, h⟩ := bind_some h
  refine SRun.estep (xe ents61 (spec_l01Next_run x3.2 1200 _ hx4)) ?_
  refine SRun.ck tbokGB 2 ⟨18, [(3, .ref 1000000 0), (16, .own 16)], [(16, oa 2 1 (eI .i64) ([(w64 (1000 + x1.1)), (w64 (1300 + x2.1)), (w64 (1300 + x3.1)), 3000, 3001, (w64 (1000 + x4.1))] : List Int)), (1000000, .box (tc el01Source x4.2))]⟩ ?_
  refine SRun.le (Le.frz' (d := 16) (e := 2) (m := 1) (n := ([(w64 (1000 + x1.1)), (w64 (1300 + x2.1)), (w64 (1300 + x3.1)), 3000, 3001, (w64 (1000 + x4.1))] : List Int).length) (es := ([(w64 (1000 + x1.1)), (w64 (1300 + x2.1)), (w64 (1300 + x3.1)), 3000, 3001, (w64 (1000 + x4.1))] : List Int).map (eI .i64)) (by kernel_rfl) (by kernel_rfl)) ?_
  obtain ⟨x5, hx5, h⟩ := bind_some h
  refine SRun.estep (xe ents62 (spec_l01Pick_run x4.2 ([(w64 (1000 + x1.1)), (w64 (1300 + x2.1)), (w64 (1300 + x3.1)), 3000, 3001, (w64 (1000 + x4.1))] : List Int) _ hx5)) ?_
  refine ckn tbokGB 1 ⟨18, [(2, vi x5.1)], [(1000000, .box (tc el01Source x5.2))]⟩ ?_
  refine swp_ret ?_
  obtain rfl := inj h
  exact q_fr (fin_io (f1 fv) (y := .box (tc el01Source x5.2)) (by kernel_rfl) rfl (by kernel_rfl) (by kernel_rfl))
theorem ents63 : Ents Tryz.prog 63 := ents_of Tryz.func63 (by kernel_rfl) rfl
noncomputable def spec_DrawEndPlace (aCode : (List Int)) : Option ((List Place) × ByteArray × Int) :=
  ((spec_l01From aCode).bind fun x1 => ((spec_DrawFindPlace aCode).bind fun x2 => ((spec_l11Find x2.1 x2.2).bind fun x3 => (((bif (decide (x3 ≥ 0)) then ((spec_l01Next x1 4).bind fun x4 => some ((decide (x4.1 > 0)), x4.2)) else some (false, x1))).bind fun (j5 : Bool × l01Source) => (bif j5.1 then ((at' x2.1 x3).bind fun x7 => ((spec_l01Next j5.2 100).bind fun x8 => ((at' x2.1 x3).bind fun x9 => ((at' x2.1 x3).bind fun x10 => ((at' x2.1 x3).bind fun x11 => ((spec_l01Pick x8.2 ([(w64 ((w64 (x7.Years.From + 1)) + x8.1)), x9.Years.From, x10.Years.To, (w64 (x11.Years.To + 1))] : List Int)).bind fun x12 => some (x2.1, x2.2, x12.1))))))) else ((spec_l11YearOf j5.2).bind fun x13 => some (x2.1, x2.2, x13.1)))))))
theorem spec_DrawEndPlace_run (aCode : (List Int)) (r : (List Place) × ByteArray × Int) (h : spec_DrawEndPlace aCode = some r) : SCall Tryz.prog 21 [.v (vl (eI .u8) aCode)] ⟨[.v (vl ePlace r.1), .v (vs r.2.1), .v (vi r.2.2)], [], true⟩ := by
  refine scall_in Tryz.func21 rfl [(.tmp 2), (.tmp 3), (.tmp 4)] rfl (fun r => ⟨[.v (vl ePlace r.1), .v (vs r.2.1), .v (vi r.2.2)], [], true⟩) (r := r) ?_
  unfold spec_DrawEndPlace at h
  refine srk tbokGB ⟨64, [(0, vl (eI .u8) aCode)], []⟩ ?_
  refine sr ?_
  refine SRun.ck tbokGB 1 ⟨64, [(0, vl (eI .u8) aCode), (9, vl (eI .u8) aCode)], []⟩ ?_
  obtain ⟨x1, hx1, h⟩ := bind_some h
  refine SRun.ls (xc ents57 (spec_l01From_run aCode _ hx1)) ?_
  refine ckn tbokGB 1 ⟨64, [(0, vl (eI .u8) aCode), (5, .ref 10 0)], [(10, .box (tc el01Source x1))]⟩ ?_
  refine sr ?_
  refine SRun.ck tbokGB 1 ⟨64, [(5, .ref 10 0), (12, vl (eI .u8) aCode)], [(10, .box (tc el01Source x1))]⟩ ?_
  obtain ⟨x2, hx2, h⟩ := bind_some h
  refine SRun.ls (xc ents60 (spec_DrawFindPlace_run aCode _ hx2)) ?_
  refine ckn tbokGB 5 ⟨64, [(5, .ref 10 0), (6, vl ePlace x2.1), (7, vs x2.2)], [(10, .box (tc el01Source x1))]⟩ ?_
  refine sr ?_
  refine SRun.ck tbokGB 2 ⟨64, [(5, .ref 10 0), (6, vl ePlace x2.1), (7, vs x2.2), (16, vl ePlace x2.1), (17, vs x2.2)], [(10, .box (tc el01Source x1))]⟩ ?_
  obtain ⟨x3, hx3, h⟩ := bind_some h
  refine SRun.ls (xc ents37 (spec_l11Find_run x2.1 x2.2 _ hx3)) ?_
  refine ckn tbokGB 1 ⟨64, [(5, .ref 10 0), (6, vl ePlace x2.1), (7, vs x2.2), (8, vi x3)], [(10, .box (tc el01Source x1))]⟩ ?_
  refine swp_seq ?_
  refine swp_seq ?_
  refine swp_regJ h (fun j5 => ⟨64, [(5, .ref 10 0), (6, vl ePlace x2.1), (7, vs x2.2), (8, vi x3), (25, vb j5.1)], [(10, .box (tc el01Source j5.2))]⟩) (fun v6 h => ?_) (fun j5 h => ?_)
  refine SRun.ck tbokGB 3 ⟨64, [(5, .ref 10 0), (6, vl ePlace x2.1), (7, vs x2.2), (8, vi x3), (21, vb (decide (x3 ≥ 0)))], [(10, .box (tc el01Source x1))]⟩ ?_
  refine SRun.cu [(21, fun b => b)] h (fun h => ?_) fun h => ?_
  refine SRun.ck tbokGB 1 ⟨64, [(5, .ref 10 0), (6, vl ePlace x2.1), (7, vs x2.2), (8, vi x3), (21, vb true), (22, .ref 10 0)], [(10, .box (tc el01Source x1))]⟩ ?_
  obtain ⟨x4, hx4, h⟩ := bind_some h
  refine SRun.estep (xe ents61 (spec_l01Next_run x1 4 _ hx4)) ?_
  refine SRun.ck tbokGB 2 ⟨64, [(5, .ref 10 0), (6, vl ePlace x2.1), (7, vs x2.2), (8, vi x3), (25, vb (decide (x4.1 > 0)))], [(10, .box (tc el01Source x4.2))]⟩ ?_
  refine SRun.nil ?_
  obtain rfl := inj h
  exact Le.sub0
  refine SRun.ck tbokGB 4 ⟨64, [(5, .ref 10 0), (6, vl ePlace x2.1), (7, vs x2.2), (8, vi x3), (25, vb false)], [(10, .box (tc el01Source x1))]⟩ ?_
  refine SRun.nil ?_
  obtain rfl := inj h
  exact Le.sub0
  refine swp_cd h (fun h => ?_) fun h => ?_
  refine swp_seq ?_
  refine swp_drD [10] mixed ?_
  refine DGo.ck tbokGB false 5 ⟨64, [(5, .ref 10 0), (6, vl ePlace x2.1), (8, vi x3), (26, vl ePlace x2.1), (27, vs x2.2), (28, .ref 10 0), (29, vl ePlace x2.1), (30, vi x3)], [(10, .box (tc el01Source j5.2))]⟩ ?_
  obtain ⟨x7, hx7, h⟩ := bind_some h
  refine DGo.step (x_index (L := x2.1) (f := ePlace) (ti := ti24) (tj := ti41) (e := 41) (k := .i64) tbokGB rfl hx7) ?_
  refine DGo.ck tbokGB false 5 ⟨64, [(6, vl ePlace x2.1), (8, vi x3), (26, vl ePlace x2.1), (27, vs x2.2), (28, .ref 10 0), (35, vi (w64 (x7.Years.From + 1))), (36, .ref 10 0)], [(10, .box (tc el01Source j5.2))]⟩ ?_
  obtain ⟨x8, hx8, h⟩ := bind_some h
  refine DGo.write [] (xw ents61 (spec_l01Next_run j5.2 100 _ hx8)) ?_
  refine DGo.ck tbokGB false 3 ⟨64, [(6, vl ePlace x2.1), (8, vi x3), (26, vl ePlace x2.1), (27, vs x2.2), (28, .ref 10 0), (38, vi (w64 ((w64 (x7.Years.From + 1)) + x8.1))), (39, vl ePlace x2.1), (40, vi x3)], [(10, .box (tc el01Source x8.2))]⟩ ?_
  obtain ⟨x9, hx9, h⟩ := bind_some h
  refine DGo.step (x_index (L := x2.1) (f := ePlace) (ti := ti24) (tj := ti41) (e := 41) (k := .i64) tbokGB rfl hx9) ?_
  refine DGo.ck tbokGB false 5 ⟨64, [(6, vl ePlace x2.1), (8, vi x3), (26, vl ePlace x2.1), (27, vs x2.2), (28, .ref 10 0), (38, vi (w64 ((w64 (x7.Years.From + 1)) + x8.1))), (44, vi x9.Years.From), (45, vl ePlace x2.1), (46, vi x3)], [(10, .box (tc el01Source x8.2))]⟩ ?_
  obtain ⟨x10, hx10, h⟩ := bind_some h
  refine DGo.step (x_index (L := x2.1) (f := ePlace) (ti := ti24) (tj := ti41) (e := 41) (k := .i64) tbokGB rfl hx10) ?_
  refine DGo.ck tbokGB false 5 ⟨64, [(26, vl ePlace x2.1), (27, vs x2.2), (28, .ref 10 0), (38, vi (w64 ((w64 (x7.Years.From + 1)) + x8.1))), (44, vi x9.Years.From), (50, vi x10.Years.To), (51, vl ePlace x2.1), (52, vi x3)], [(10, .box (tc el01Source x8.2))]⟩ ?_
  obtain ⟨x11, hx11, h⟩ := bind_some h
  refine DGo.step (x_index (L := x2.1) (f := ePlace) (ti := ti24) (tj := ti41) (e := 41) (k := .i64) tbokGB rfl hx11) ?_
  refine DGo.ck tbokGB false 4 ⟨64, [(26, vl ePlace x2.1), (27, vs x2.2), (28, .ref 10 0), (38, vi (w64 ((w64 (x7.Years.From + 1)) + x8.1))), (44, vi x9.Years.From), (50, vi x10.Years.To), (57, vi (w64 (x11.Years.To + 1)))], [(10, .box (tc el01Source x8.2))]⟩ ?_
  refine DGo.step (x_frz tbokGB (d := 58) (e := 2) (m := 1) (([(w64 ((w64 (x7.Years.From + 1)) + x8.1)), x9.Years.From, x10.Years.To, (w64 (x11.Years.To + 1))] : List Int).length) (([(w64 ((w64 (x7.Years.From + 1)) + x8.1)), x9.Years.From, x10.Years.To, (w64 (x11.Years.To + 1))] : List Int).map (eI .i64))) ?_
  obtain ⟨x12, hx12, h⟩ := bind_some h
  refine DGo.write [] (xw ents62 (spec_l01Pick_run x8.2 ([(w64 ((w64 (x7.Years.From + 1)) + x8.1)), x9.Years.From, x10.Years.To, (w64 (x11.Years.To + 1))] : List Int) _ hx12)) ?_
  refine DGo.ck tbokGB false 3 ⟨64, [(2, vl ePlace x2.1), (3, vs x2.2), (4, vi x12.1)], []⟩ ?_
  refine DGo.nx ?_
  refine swp_ret ?_
  obtain rfl := inj h
  exact nx_r (q_fr (fin3 (by kernel_rfl) ft ft ft))
  refine swp_skip ?_
  refine nx_n ?_
  refine sr ?_
  refine SRun.ck tbokGB 3 ⟨64, [(60, vl ePlace x2.1), (61, vs x2.2), (62, .ref 10 0)], [(10, .box (tc el01Source j5.2))]⟩ ?_
  obtain ⟨x13, hx13, h⟩ := bind_some h
  refine SRun.estep (xe ents63 (spec_l11YearOf_run j5.2 _ hx13)) ?_
  refine ckn tbokGB 3 ⟨64, [(2, vl ePlace x2.1), (3, vs x2.2), (4, vi x13.1)], []⟩ ?_
  refine swp_ret ?_
  obtain rfl := inj h
  exact q_fr (fin3 (by kernel_rfl) ft ft ft)
theorem ents21 : Ents Tryz.prog 21 := ents_of Tryz.func21 (by kernel_rfl) rfl
noncomputable def impl_registerCode (aList : (List Place)) (aOk : Bool) (aYear : Int) : Option (Int) :=
  ((((((impl_IsRegister aList).bind fun x3 => (bif (!x3) then some true else some (!aOk)))).bind fun (j4 : Bool) => (bif j4 then some (.inr 1) else ((impl_isYear aYear).bind fun x6 => (bif (!x6) then some (.inr 2) else some (.inl ())))))).bind (Sum.elim (fun (_ : Unit) => some 0) some))
theorem impl_registerCode_run (aList : (List Place)) (aOk : Bool) (aYear : Int) (r : Int) (h : impl_registerCode aList aOk aYear = some r) : SCall Tryz.prog 41 [.v (vl ePlace aList), .v (vb aOk), .v (vi aYear)] ⟨[.v (vi r)], [], false⟩ := by
  refine scall_in Tryz.func41 rfl [(.tmp 6)] rfl (fun r => ⟨[.v (vi r)], [], false⟩) (r := r) ?_
  unfold impl_registerCode at h
  refine srk tbokGB ⟨19, [(0, vl ePlace aList), (1, vb aOk), (2, vi aYear)], []⟩ ?_
  refine swp_seq ?_
  refine swp_seqE (r := r) h (fun j1 => ⟨19, [], []⟩) (fun v2 h => ?_) (fun j1 h => ?_)
  refine swp_blk (a := v2) ?_
  refine swp_seq ?_
  refine swp_regJ h (fun j4 => ⟨19, [(2, vi aYear), (7, vb j4)], []⟩) (fun v5 h => ?_) (fun j4 h => ?_)
  refine SRun.ck tbokGB 1 ⟨19, [(1, vb aOk), (2, vi aYear), (8, vl ePlace aList)], []⟩ ?_
  obtain ⟨x3, hx3, h⟩ := bind_some h
  refine SRun.ls (xc ents29 (impl_IsRegister_run aList _ hx3)) ?_
  refine SRun.ck tbokGB 2 ⟨19, [(1, vb aOk), (2, vi aYear), (11, vb (!x3))], []⟩ ?_
  refine SRun.cu [(11, fun b => b)] h (fun h => ?_) fun h => ?_
  refine SRun.ck tbokGB 4 ⟨19, [(2, vi aYear), (7, vb true)], []⟩ ?_
  refine SRun.nil ?_
  obtain rfl := inj h
  exact Le.sub0
  refine SRun.ck tbokGB 4 ⟨19, [(2, vi aYear), (7, vb (!aOk))], []⟩ ?_
  refine SRun.nil ?_
  obtain rfl := inj h
  exact Le.sub0
  refine swp_cd h (fun h => ?_) fun h => ?_
  refine srk tbokGB ⟨19, [(6, vi 1)], []⟩ ?_
  refine swp_ret ?_
  obtain rfl := inj h
  exact q_br (q_rr (q_fr (f1 fv)))
  refine sr ?_
  refine SRun.ck tbokGB 1 ⟨19, [(16, vi aYear)], []⟩ ?_
  obtain ⟨x6, hx6, h⟩ := bind_some h
  refine SRun.ls (xc ents87 (impl_isYear_run aYear _ hx6)) ?_
  refine ckn tbokGB 2 ⟨19, [(15, vb (!x6))], []⟩ ?_
  refine swp_cd h (fun h => ?_) fun h => ?_
  refine srk tbokGB ⟨19, [(6, vi 2)], []⟩ ?_
  refine swp_ret ?_
  obtain rfl := inj h
  exact q_br (q_rr (q_fr (f1 fv)))
  refine swp_skip ?_
  obtain rfl := inj h
  exact q_bn (q_l (Le.sub0))
  refine srk tbokGB ⟨19, [(6, vi 0)], []⟩ ?_
  refine swp_ret ?_
  obtain rfl := inj h
  exact q_fr (f1 fv)
theorem ents41 : Ents Tryz.prog 41 := ents_of Tryz.func41 (by kernel_rfl) rfl
noncomputable def impl_Span_has (aS : Span) (aYear : Int) : Option (Bool) :=
  ((impl_within aYear aS.From aS.To).bind fun x1 => some x1)
theorem impl_Span_has_run (aS : Span) (aYear : Int) (r : Bool) (h : impl_Span_has aS aYear = some r) : SCall Tryz.prog 44 [.v (.agg (tc eSpan aS)), .v (vi aYear)] ⟨[.v (vb r)], [], false⟩ := by
  refine scall_in Tryz.func44 rfl [(.tmp 4)] rfl (fun r => ⟨[.v (vb r)], [], false⟩) (r := r) ?_
  unfold impl_Span_has at h
  refine srk tbokGB ⟨11, [(1, vi aYear), (2, .ref 2 0)], [(2, .box (tc eSpan aS))]⟩ ?_
  refine sr ?_
  refine SRun.ck tbokGB 5 ⟨11, [(5, vi aYear), (7, vi aS.From), (9, vi aS.To)], []⟩ ?_
  obtain ⟨x1, hx1, h⟩ := bind_some h
  refine SRun.ls (xc ents74 (impl_within_run aYear aS.From aS.To _ hx1)) ?_
  refine ckn tbokGB 1 ⟨11, [(4, vb x1)], []⟩ ?_
  refine swp_ret ?_
  obtain rfl := inj h
  exact q_fr (f1 fv)
theorem ents44 : Ents Tryz.prog 44 := ents_of Tryz.func44 (by kernel_rfl) rfl
noncomputable def impl_Place_ended (aP : Place) (aYear : Int) : Option (Place) :=
  (((forS (aP.Names.length : Int) (fun (i3 : Int) (s3 : ByteArray × Int × Int × Int × (List Name)) => ((at' aP.Names i3).bind fun x7 => (bif (decide (x7.Years.From < aYear)) then ((app' s3.2.2.2.2 ([(Name.mk x7.Text x7.Language x7.Status (Span.mk x7.Years.From (minI x7.Years.To (w64 (aYear - 1)))))] : List Name)).bind fun x8 => some (s3.1, s3.2.1, s3.2.2.1, s3.2.2.2.1, x8)) else some (s3.1, s3.2.1, s3.2.2.1, s3.2.2.2.1, s3.2.2.2.2)))) (fun (s3 : ByteArray × Int × Int × Int × (List Name)) => (s3.1, s3.2.1, s3.2.2.1, s3.2.2.2.1, s3.2.2.2.2)) 0 (aP.Code, aP.Class, aP.Years.From, (w64 (aYear - 1)), ([] : List Name)))).bind fun (j1 : ByteArray × Int × Int × Int × (List Name)) => some (Place.mk j1.1 j1.2.1 (Span.mk j1.2.2.1 j1.2.2.2.1) j1.2.2.2.2))
theorem impl_Place_ended_run (aP : Place) (aYear : Int) (r : Place) (h : impl_Place_ended aP aYear = some r) : SCall Tryz.prog 46 [.v (.agg (tc ePlace aP)), .v (vi aYear)] ⟨[.part [vs r.Code, vi r.Class, vi r.Years.From, vi r.Years.To] [] (oa 95 5 eName r.Names)], [], false⟩ := by
  refine scall_in Tryz.func46 rfl [(.cell 4 41)] rfl (fun r => ⟨[.part [vs r.Code, vi r.Class, vi r.Years.From, vi r.Years.To] [] (oa 95 5 eName r.Names)], [], false⟩) (r := r) ?_
  unfold impl_Place_ended at h
  refine srk tbokGB ⟨47, [(1, vi aYear), (2, .ref 2 0), (4, .ref 4 0)], [(2, .box (tc ePlace aP)), (4, .box [vs (ByteArray.mk #[]), vi 0, vi 0, vi 0, vl eName ([] : List Name)])]⟩ ?_
  refine sr ?_
  refine SRun.ck tbokGB 9 ⟨47, [(1, vi aYear), (2, .ref 2 0), (4, .ref 4 0), (9, vs aP.Code), (11, vi aP.Class), (14, vi aP.Years.From), (16, vi (w64 (aYear - 1)))], [(2, .box (tc ePlace aP)), (4, .box [vs (ByteArray.mk #[]), vi 0, vi 0, vi 0, vl eName ([] : List Name)])]⟩ ?_
  refine SRun.ls (x_lstep_build (v := .agg [vi aP.Years.From, vi (w64 (aYear - 1))]) tbokGB rfl) ?_
  refine SRun.ls (lstep_build_nil (d := 18) (e := 95) (m := 5) (v := .agg [vs aP.Code, vi aP.Class, vi aP.Years.From, vi (w64 (aYear - 1)), .own 18]) tbokGB rfl (by kernel_rfl) rfl (by kernel_rfl) (by kernel_rfl)) ?_
  refine ckn tbokGB 2 ⟨47, [(1, vi aYear), (2, .ref 2 0), (4, .ref 4 0), (5, .ref 5 0)], [(2, .box (tc ePlace aP)), (4, .box [vs (ByteArray.mk #[]), vi 0, vi 0, vi 0, vl eName ([] : List Name)]), (5, .box [vs aP.Code, vi aP.Class, vi aP.Years.From, vi (w64 (aYear - 1)), .own 18]), (18, oa 95 5 eName ([] : List Name))]⟩ ?_
  refine swp_seq ?_
  refine srk tbokGB ⟨47, [(1, vi aYear), (4, .ref 4 0), (5, .ref 5 0), (20, vl eName aP.Names), (21, vi (aP.Names.length : Int)), (22, vi 0)], [(4, .box [vs (ByteArray.mk #[]), vi 0, vi 0, vi 0, vl eName ([] : List Name)]), (5, .box [vs aP.Code, vi aP.Class, vi aP.Years.From, vi (w64 (aYear - 1)), .own 18]), (18, oa 95 5 eName ([] : List Name))]⟩ ?_
  refine swp_seqJ h (fun j1 => ⟨47, [(4, .ref 4 0), (5, .ref 5 0)], [(4, .box [vs (ByteArray.mk #[]), vi 0, vi 0, vi 0, vl eName ([] : List Name)]), (5, .box [vs j1.1, vi j1.2.1, vi j1.2.2.1, vi j1.2.2.2.1, .own 18]), (18, oa 95 5 eName j1.2.2.2.2)]⟩) (fun v2 h => ?_) (fun j1 h => ?_)
  refine swp_blk (a := v2) ?_
  refine swp_lpL (r := v2) (s := (0, aP.Code, aP.Class, aP.Years.From, (w64 (aYear - 1)), ([] : List Name))) _ (fun s3 => ⟨47, [(1, vi aYear), (4, .ref 4 0), (5, .ref 5 0), (20, vl eName aP.Names), (21, vi (aP.Names.length : Int)), (22, vi s3.1)], [(4, .box [vs (ByteArray.mk #[]), vi 0, vi 0, vi 0, vl eName ([] : List Name)]), (5, .box [vs s3.2.1, vi s3.2.2.1, vi s3.2.2.2.1, vi s3.2.2.2.2.1, .own 18]), (18, oa 95 5 eName s3.2.2.2.2.2)]⟩) _ (Le.sub0) h (fun s3 v4 h => ?_)
  refine srk tbokGB ⟨47, [(1, vi aYear), (4, .ref 4 0), (5, .ref 5 0), (20, vl eName aP.Names), (21, vi (aP.Names.length : Int)), (22, vi s3.1), (23, vb (decide (s3.1 < (aP.Names.length : Int))))], [(4, .box [vs (ByteArray.mk #[]), vi 0, vi 0, vi 0, vl eName ([] : List Name)]), (5, .box [vs s3.2.1, vi s3.2.2.1, vi s3.2.2.2.1, vi s3.2.2.2.2.1, .own 18]), (18, oa 95 5 eName s3.2.2.2.2.2)]⟩ ?_
  refine swp_seq ?_
  refine swp_cd h (fun h => ?_) fun h => ?_
  refine swp_skip ?_
  refine nx_n ?_
  refine swp_seq ?_
  refine swp_seqJ h (fun j5 => ⟨47, [(1, vi aYear), (4, .ref 4 0), (5, .ref 5 0), (20, vl eName aP.Names), (21, vi (aP.Names.length : Int)), (22, vi s3.1)], [(4, .box [vs (ByteArray.mk #[]), vi 0, vi 0, vi 0, vl eName ([] : List Name)]), (5, .box [vs j5.1, vi j5.2.1, vi j5.2.2.1, vi j5.2.2.2.1, .own 18]), (18, oa 95 5 eName j5.2.2.2.2)]⟩) (fun v6 h => ?_) (fun j5 h => ?_)
  refine swp_blk (a := v6) ?_
  refine sr ?_
  obtain ⟨x7, hx7, h⟩ := bind_some h
  refine SRun.ls (x_index (L := aP.Names) (f := eName) (ti := ti39) (tj := ti95) (e := 95) (k := .i64) tbokGB rfl hx7) ?_
  refine ckn tbokGB 3 ⟨47, [(1, vi aYear), (4, .ref 4 0), (5, .ref 5 0), (7, .ref 7 0), (20, vl eName aP.Names), (21, vi (aP.Names.length : Int)), (22, vi s3.1)], [(4, .box [vs (ByteArray.mk #[]), vi 0, vi 0, vi 0, vl eName ([] : List Name)]), (5, .box [vs s3.2.1, vi s3.2.2.1, vi s3.2.2.2.1, vi s3.2.2.2.2.1, .own 18]), (7, .box (tc eName x7)), (18, oa 95 5 eName s3.2.2.2.2.2)]⟩ ?_
  refine srk tbokGB ⟨47, [(1, vi aYear), (4, .ref 4 0), (5, .ref 5 0), (7, .ref 7 0), (20, vl eName aP.Names), (21, vi (aP.Names.length : Int)), (22, vi s3.1), (30, vb (decide (x7.Years.From < aYear)))], [(4, .box [vs (ByteArray.mk #[]), vi 0, vi 0, vi 0, vl eName ([] : List Name)]), (5, .box [vs s3.2.1, vi s3.2.2.1, vi s3.2.2.2.1, vi s3.2.2.2.2.1, .own 18]), (7, .box (tc eName x7)), (18, oa 95 5 eName s3.2.2.2.2.2)]⟩ ?_
  refine swp_cd h (fun h => ?_) fun h => ?_
  refine srk tbokGB ⟨47, [(1, vi aYear), (4, .ref 4 0), (5, .ref 5 0), (7, .ref 7 0), (20, vl eName aP.Names), (21, vi (aP.Names.length : Int)), (22, vi s3.1)], [(4, .box [vs (ByteArray.mk #[]), vi 0, vi 0, vi 0, vl eName ([] : List Name)]), (5, .box [vs s3.2.1, vi s3.2.2.1, vi s3.2.2.2.1, vi s3.2.2.2.2.1, .own 18]), (7, .box [vs x7.Text, vs x7.Language, vi x7.Status, vi x7.Years.From, vi (minI x7.Years.To (w64 (aYear - 1)))]), (18, oa 95 5 eName s3.2.2.2.2.2)]⟩ ?_
  refine swp_reg ?_
  refine SRun.ck tbokGB 4 ⟨47, [(1, vi aYear), (4, .ref 4 0), (5, .ref 5 0), (20, vl eName aP.Names), (21, vi (aP.Names.length : Int)), (22, vi s3.1), (40, .own 18), (42, .own 42)], [(4, .box [vs (ByteArray.mk #[]), vi 0, vi 0, vi 0, vl eName ([] : List Name)]), (5, .box [vs s3.2.1, vi s3.2.2.1, vi s3.2.2.2.1, vi s3.2.2.2.2.1, .own 18]), (18, oa 95 5 eName s3.2.2.2.2.2), (42, oa 95 5 eName ([(Name.mk x7.Text x7.Language x7.Status (Span.mk x7.Years.From (minI x7.Years.To (w64 (aYear - 1)))))] : List Name))]⟩ ?_
  refine SRun.le (Le.anyCell (d := 5) (j := 4) (k := 18) (cs := [vs s3.2.1, vi s3.2.2.1, vi s3.2.2.2.1, vi s3.2.2.2.2.1, .own 18]) (by kernel_rfl) rfl) ?_
  obtain ⟨x8, hx8, h⟩ := bind_some h
  refine SRun.estep (x_append (f := eName) (t := 39) (ti := ti39) (tj := ti95) (zs := [.string (ByteArray.mk #[]), .string (ByteArray.mk #[]), .int .i64 0, .int .i64 0, .int .i64 0]) (e := 95) (m := 5) (d := 18) (xv := .own 42) hx8 tbokGB rfl rfl rfl rfl (x_src_o (e := 95))) ?_
  refine SRun.ck tbokGB 2 ⟨47, [(1, vi aYear), (4, .ref 4 0), (5, .ref 5 0), (20, vl eName aP.Names), (21, vi (aP.Names.length : Int)), (22, vi s3.1)], [(4, .box [vs (ByteArray.mk #[]), vi 0, vi 0, vi 0, vl eName ([] : List Name)]), (5, .box [vs s3.2.1, vi s3.2.2.1, vi s3.2.2.2.1, vi s3.2.2.2.2.1, .own 43]), (43, oa 95 5 eName x8)]⟩ ?_
  refine SRun.nil ?_
  obtain rfl := inj h
  exact q_bn (q_j (Le.rr [4, 5, 43] [(43, 18)]))
  refine swp_skip ?_
  obtain rfl := inj h
  exact q_bn (q_j (Le.sub0))
  refine swp_reg ?_
  refine SRun.ck tbokGB 2 ⟨47, [(1, vi aYear), (4, .ref 4 0), (5, .ref 5 0), (20, vl eName aP.Names), (21, vi (aP.Names.length : Int)), (22, vi (w64 (s3.1 + 1)))], [(4, .box [vs (ByteArray.mk #[]), vi 0, vi 0, vi 0, vl eName ([] : List Name)]), (5, .box [vs j5.1, vi j5.2.1, vi j5.2.2.1, vi j5.2.2.2.1, .own 18]), (18, oa 95 5 eName j5.2.2.2.2)]⟩ ?_
  refine SRun.nil ?_
  obtain rfl := inj h
  exact q_l (Le.sub0)
  refine swp_exit ?_
  obtain rfl := inj h
  exact nx_e (q_re (q_bh (q_j (Le.sub0))))
  refine srk tbokGB ⟨47, [(4, .ref 4 0)], [(4, .box [vs j1.1, vi j1.2.1, vi j1.2.2.1, vi j1.2.2.2.1, .own 18]), (18, oa 95 5 eName j1.2.2.2.2)]⟩ ?_
  refine swp_ret ?_
  obtain rfl := inj h
  exact q_fr (f1 (finP (d := 18) [vs j1.1, vi j1.2.1, vi j1.2.2.1, vi j1.2.2.2.1] [] (holds_c tbokGB (d := 4) (cs := [vs j1.1, vi j1.2.1, vi j1.2.2.1, vi j1.2.2.2.1, .own 18]) (ti := ti41) (by kernel_rfl) (by kernel_rfl) (by kernel_rfl) (by kernel_rfl)) (by kernel_rfl) (flat_map eName_flat _) rfl rfl SV.flatL_of SV.flatL_of (by kernel_rfl)))
theorem ents46 : Ents Tryz.prog 46 := ents_of Tryz.func46 (by kernel_rfl) rfl
noncomputable def impl_EndPlace (aList : (List Place)) (aCode : ByteArray) (aYear : Int) : Option ((List Place) × Int) :=
  ((impl_IsWord aCode).bind fun x1 => ((impl_registerCode aList x1 aYear).bind fun x2 => (bif (x2 != 0) then some (([] : List Place), x2) else ((impl_findPlace aList aCode).bind fun x3 => (((bif (!x3.2) then some (.inr (([] : List Place), 4)) else ((at' aList x3.1).bind fun x6 => ((impl_Span_has x6.Years (w64 (aYear - 1))).bind fun x7 => (bif (!x7) then some (.inr (([] : List Place), 5)) else some (.inl ())))))).bind (Sum.elim (fun (_ : Unit) => ((impl_cloneRegister aList).bind fun x8 => ((at' x8 x3.1).bind fun x9 => ((impl_Place_ended x9 aYear).bind fun x10 => ((at' x8 x3.1).bind fun _ => some ((List.set x8 (Int.toNat x3.1) x10), 0)))))) some))))))
theorem impl_EndPlace_run (aList : (List Place)) (aCode : ByteArray) (aYear : Int) (r : (List Place) × Int) (h : impl_EndPlace aList aCode aYear = some r) : SCall Tryz.prog 9 [.v (vl ePlace aList), .v (vs aCode), .v (vi aYear)] ⟨[.deep 41 5 r.1.length [.flat, .flat, .flat, .flat, (.sl 95 5 [.flat, .flat, .flat, .flat, .flat])] (r.1.map ePlace), .v (vi r.2)], [], false⟩ := by
  refine scall_in Tryz.func9 rfl [(.tmp 6), (.tmp 7)] rfl (fun r => ⟨[.deep 41 5 r.1.length [.flat, .flat, .flat, .flat, (.sl 95 5 [.flat, .flat, .flat, .flat, .flat])] (r.1.map ePlace), .v (vi r.2)], [], false⟩) (r := r) ?_
  unfold impl_EndPlace at h
  refine sr ?_
  refine SRun.ck tbokGB 1 ⟨51, [(6, .own 6), (0, vl ePlace aList), (1, vs aCode), (2, vi aYear)], [(6, oa 41 5 ePlace ([] : List Place))]⟩ ?_
  refine SRun.le (Le.deep0 (d := 6) (e := 41) (m := 5) (ss := [.flat, .flat, .flat, .flat, (.sl 95 5 [.flat, .flat, .flat, .flat, .flat])]) (by kernel_rfl) (by kernel_rfl)) ?_
  refine ckn tbokGB 1 ⟨51, [(0, vl ePlace aList), (1, vs aCode), (2, vi aYear)], []⟩ ?_
  refine swp_seq ?_
  refine sr ?_
  refine SRun.ck tbokGB 2 ⟨51, [(0, vl ePlace aList), (1, vs aCode), (2, vi aYear), (12, vl ePlace aList), (13, vs aCode)], []⟩ ?_
  obtain ⟨x1, hx1, h⟩ := bind_some h
  refine SRun.ls (xc ents42 (impl_IsWord_run aCode _ hx1)) ?_
  refine SRun.ck tbokGB 1 ⟨51, [(0, vl ePlace aList), (1, vs aCode), (2, vi aYear), (12, vl ePlace aList), (14, vb x1), (15, vi aYear)], []⟩ ?_
  obtain ⟨x2, hx2, h⟩ := bind_some h
  refine SRun.ls (xc ents41 (impl_registerCode_run aList x1 aYear _ hx2)) ?_
  refine ckn tbokGB 1 ⟨51, [(0, vl ePlace aList), (1, vs aCode), (2, vi aYear), (8, vi x2)], []⟩ ?_
  refine srk tbokGB ⟨51, [(0, vl ePlace aList), (1, vs aCode), (2, vi aYear), (8, vi x2), (18, vb (x2 != 0))], []⟩ ?_
  refine swp_cd h (fun h => ?_) fun h => ?_
  refine sr ?_
  refine SRun.ck tbokGB 2 ⟨51, [(6, .own 6), (19, vi x2), (0, vl ePlace aList), (1, vs aCode), (2, vi aYear), (8, vi x2), (18, vb (x2 != 0))], [(6, oa 41 5 ePlace ([] : List Place))]⟩ ?_
  refine SRun.le (Le.deep0 (d := 6) (e := 41) (m := 5) (ss := [.flat, .flat, .flat, .flat, (.sl 95 5 [.flat, .flat, .flat, .flat, .flat])]) (by kernel_rfl) (by kernel_rfl)) ?_
  refine ckn tbokGB 1 ⟨51, [(6, .own 6), (7, vi x2)], [(6, .deep 41 5 ([] : List Place).length [.flat, .flat, .flat, .flat, (.sl 95 5 [.flat, .flat, .flat, .flat, .flat])] (([] : List Place).map ePlace))]⟩ ?_
  refine swp_ret ?_
  obtain rfl := inj h
  exact nx_r (q_fr (f2 (finD (d := 6) (holds_t (by kernel_rfl)) (by kernel_rfl) (by kernel_rfl)) fv))
  refine swp_skip ?_
  refine nx_n ?_
  refine sr ?_
  refine SRun.ck tbokGB 2 ⟨51, [(0, vl ePlace aList), (2, vi aYear), (21, vl ePlace aList), (22, vs aCode)], []⟩ ?_
  obtain ⟨x3, hx3, h⟩ := bind_some h
  refine SRun.ls (xc ents43 (impl_findPlace_run aList aCode _ hx3)) ?_
  refine ckn tbokGB 5 ⟨51, [(0, vl ePlace aList), (2, vi aYear), (9, vi x3.1), (10, vb x3.2)], []⟩ ?_
  refine swp_seq ?_
  refine swp_seqE (r := r) h (fun j4 => ⟨51, [(0, vl ePlace aList), (2, vi aYear), (9, vi x3.1)], []⟩) (fun v5 h => ?_) (fun j4 h => ?_)
  refine swp_blk (a := v5) ?_
  refine srk tbokGB ⟨51, [(0, vl ePlace aList), (2, vi aYear), (9, vi x3.1), (26, vb (!x3.2))], []⟩ ?_
  refine swp_cd h (fun h => ?_) fun h => ?_
  refine sr ?_
  refine SRun.ck tbokGB 1 ⟨51, [(6, .own 6), (0, vl ePlace aList), (2, vi aYear), (9, vi x3.1), (26, vb (!x3.2))], [(6, oa 41 5 ePlace ([] : List Place))]⟩ ?_
  refine SRun.le (Le.deep0 (d := 6) (e := 41) (m := 5) (ss := [.flat, .flat, .flat, .flat, (.sl 95 5 [.flat, .flat, .flat, .flat, .flat])]) (by kernel_rfl) (by kernel_rfl)) ?_
  refine ckn tbokGB 1 ⟨51, [(6, .own 6), (7, vi 4)], [(6, .deep 41 5 ([] : List Place).length [.flat, .flat, .flat, .flat, (.sl 95 5 [.flat, .flat, .flat, .flat, .flat])] (([] : List Place).map ePlace))]⟩ ?_
  refine swp_ret ?_
  obtain rfl := inj h
  exact q_br (q_rr (q_fr (f2 (finD (d := 6) (holds_t (by kernel_rfl)) (by kernel_rfl) (by kernel_rfl)) fv)))
  refine sr ?_
  refine SRun.ck tbokGB 2 ⟨51, [(0, vl ePlace aList), (2, vi aYear), (9, vi x3.1), (30, vl ePlace aList), (31, vi x3.1)], []⟩ ?_
  obtain ⟨x6, hx6, h⟩ := bind_some h
  refine SRun.ls (x_index (L := aList) (f := ePlace) (ti := ti24) (tj := ti41) (e := 41) (k := .i64) tbokGB rfl hx6) ?_
  refine SRun.ck tbokGB 4 ⟨51, [(0, vl ePlace aList), (2, vi aYear), (9, vi x3.1), (34, .agg (tc eSpan x6.Years)), (36, vi (w64 (aYear - 1)))], []⟩ ?_
  obtain ⟨x7, hx7, h⟩ := bind_some h
  refine SRun.ls (xc ents44 (impl_Span_has_run x6.Years (w64 (aYear - 1)) _ hx7)) ?_
  refine ckn tbokGB 2 ⟨51, [(0, vl ePlace aList), (2, vi aYear), (9, vi x3.1), (29, vb (!x7))], []⟩ ?_
  refine swp_cd h (fun h => ?_) fun h => ?_
  refine sr ?_
  refine SRun.ck tbokGB 1 ⟨51, [(6, .own 6), (0, vl ePlace aList), (2, vi aYear), (9, vi x3.1), (29, vb (!x7))], [(6, oa 41 5 ePlace ([] : List Place))]⟩ ?_
  refine SRun.le (Le.deep0 (d := 6) (e := 41) (m := 5) (ss := [.flat, .flat, .flat, .flat, (.sl 95 5 [.flat, .flat, .flat, .flat, .flat])]) (by kernel_rfl) (by kernel_rfl)) ?_
  refine ckn tbokGB 1 ⟨51, [(6, .own 6), (7, vi 5)], [(6, .deep 41 5 ([] : List Place).length [.flat, .flat, .flat, .flat, (.sl 95 5 [.flat, .flat, .flat, .flat, .flat])] (([] : List Place).map ePlace))]⟩ ?_
  refine swp_ret ?_
  obtain rfl := inj h
  exact q_br (q_rr (q_fr (f2 (finD (d := 6) (holds_t (by kernel_rfl)) (by kernel_rfl) (by kernel_rfl)) fv)))
  refine swp_skip ?_
  obtain rfl := inj h
  exact q_bn (q_l (Le.sub0))
  refine sr ?_
  refine SRun.ck tbokGB 1 ⟨51, [(2, vi aYear), (9, vi x3.1), (39, vl ePlace aList)], []⟩ ?_
  obtain ⟨x8, hx8, h⟩ := bind_some h
  refine SRun.ls (xc ents45 (impl_cloneRegister_run aList _ hx8)) ?_
  refine ckn tbokGB 1 ⟨51, [(2, vi aYear), (9, vi x3.1), (11, .own 40)], [(40, .deep 41 5 x8.length [.flat, .flat, .flat, .flat, (.sl 95 5 [.flat, .flat, .flat, .flat, .flat])] (x8.map ePlace))]⟩ ?_
  refine sr ?_
  refine SRun.ck tbokGB 4 ⟨51, [(2, vi aYear), (11, .own 40), (41, .own 40), (42, vi x3.1), (43, .own 40), (44, vi x3.1)], [(40, .deep 41 5 x8.length [.flat, .flat, .flat, .flat, (.sl 95 5 [.flat, .flat, .flat, .flat, .flat])] (x8.map ePlace))]⟩ ?_
  obtain ⟨x9, hx9, h⟩ := bind_some h
  obtain ⟨x10, hx10, h⟩ := bind_some h
  refine SRun.peek 4 [(43, .sl x8.length (x8.map ePlace)), (44, .int .i64 x3.1), (2, .int .i64 aYear)] 48 (.agg [vs x10.Code, vi x10.Class, vi x10.Years.From, vi x10.Years.To, .own 48]) 48 (oa 95 5 eName x10.Names) ?_ (.inl ⟨_, _, _, _, rfl, flatE_map eName_flat⟩) ?_
  refine SRun.ls (x_index (L := x8) (f := ePlace) (ti := ti24) (tj := ti41) (e := 41) (k := .i64) tbokGB rfl hx9) ?_
  refine SRun.ck tbokGB 2 ⟨51, [(47, vi aYear), (46, .agg (tc ePlace x9)), (45, .ptr ((ePlace x9).map .tr) 0), (43, vl ePlace x8), (44, vi x3.1), (2, vi aYear)], []⟩ ?_
  refine SRun.ls (xc ents46 (impl_Place_ended_run x9 aYear _ hx10)) ?_
  refine SRun.nil ?_
  exact ⟨by kernel_rfl, by kernel_rfl⟩
  obtain ⟨x11, hx11, h⟩ := bind_some h
  refine SRun.ls (x_index_deep (d := 40) (L := x8) (f := ePlace) (ti := ti24) (tj := ti41) (e := 41) (e' := 41) (m := 5) (k := .i64) (ss := [.flat, .flat, .flat, .flat, (.sl 95 5 [.flat, .flat, .flat, .flat, .flat])]) tbokGB rfl hx11) ?_
  refine SRun.estep (x_store_deep (d := 40) (m := 5) (j := 0) (L := x8) (f := ePlace) (x := x10) (z := x11) (ti := ti41) (e := 41) (ss := [.flat, .flat, .flat, .flat, (.sl 95 5 [.flat, .flat, .flat, .flat, .flat])]) (ss2 := [.flat, .flat, .flat, .flat, (.sl 95 5 [.flat, .flat, .flat, .flat, .flat])]) (ts := [.str x10.Code, .int .i64 x10.Class, .int .i64 x10.Years.From, .int .i64 x10.Years.To, .sl x10.Names.length (x10.Names.map eName)]) (vs := [vs x10.Code, vi x10.Class, vi x10.Years.From, vi x10.Years.To, .own 48]) (v := .agg [vs x10.Code, vi x10.Class, vi x10.Years.From, vi x10.Years.To, .own 48]) (ds := [48]) tbokGB rfl rfl hx11 (.cons _ _ _ [] _ _ _ _ (.flat (.str x10.Code) rfl) (.cons _ _ _ [] _ _ _ _ (.flat (.int .i64 x10.Class) rfl) (.cons _ _ _ [] _ _ _ _ (.flat (.int .i64 x10.Years.From) rfl) (.cons _ _ _ [] _ _ _ _ (.flat (.int .i64 x10.Years.To) rfl) (.cons _ _ _ [48] _ _ _ _ (cD_arr (d := 48) (e := 95) (m := 5) (n := x10.Names.length) (es := x10.Names.map eName) (ss := [.flat, .flat, .flat, .flat, .flat]) (flat_map eName_flat _)) .nil (by decide)) (by decide)) (by decide)) (by decide)) (by decide))) ?_
  refine SRun.nx ?_
  refine srk tbokGB ⟨51, [(6, .own 40), (7, vi 0)], [(40, .deep 41 5 (List.set x8 (Int.toNat x3.1) x10).length [.flat, .flat, .flat, .flat, (.sl 95 5 [.flat, .flat, .flat, .flat, .flat])] ((List.set x8 (Int.toNat x3.1) x10).map ePlace))]⟩ ?_
  refine swp_ret ?_
  obtain rfl := inj h
  exact q_fr (f2 (finD (d := 40) (holds_t (by kernel_rfl)) (by kernel_rfl) (by kernel_rfl)) fv)
theorem ents9 : Ents Tryz.prog 9 := ents_of Tryz.func9 (by kernel_rfl) rfl
noncomputable def spec_l11Code (aList : (List Place)) (aCode : ByteArray) (aYear : Int) : Option (Int) :=
  ((((spec_IsRegister aList).bind fun x1 => (bif (!x1) then some true else ((spec_IsWord aCode).bind fun x2 => some (!x2))))).bind fun (j3 : Bool) => (bif j3 then some 1 else ((spec_l02Year aYear).bind fun x5 => (bif (!x5) then some 2 else ((spec_l11Find aList aCode).bind fun x6 => (bif (decide (x6 < 0)) then some 4 else some 0))))))
theorem spec_l11Code_run (aList : (List Place)) (aCode : ByteArray) (aYear : Int) (r : Int) (h : spec_l11Code aList aCode aYear = some r) : SCall Tryz.prog 36 [.v (vl ePlace aList), .v (vs aCode), .v (vi aYear)] ⟨[.v (vi r)], [], false⟩ := by
  refine scall_in Tryz.func36 rfl [(.tmp 6)] rfl (fun r => ⟨[.v (vi r)], [], false⟩) (r := r) ?_
  unfold spec_l11Code at h
  refine srk tbokGB ⟨22, [(0, vl ePlace aList), (1, vs aCode), (2, vi aYear)], []⟩ ?_
  refine swp_seq ?_
  refine swp_seq ?_
  refine swp_regJ h (fun j3 => ⟨22, [(0, vl ePlace aList), (1, vs aCode), (2, vi aYear), (14, vb j3)], []⟩) (fun v4 h => ?_) (fun j3 h => ?_)
  refine SRun.ck tbokGB 1 ⟨22, [(0, vl ePlace aList), (1, vs aCode), (2, vi aYear), (7, vl ePlace aList)], []⟩ ?_
  obtain ⟨x1, hx1, h⟩ := bind_some h
  refine SRun.ls (xc ents30 (spec_IsRegister_run aList _ hx1)) ?_
  refine SRun.ck tbokGB 2 ⟨22, [(0, vl ePlace aList), (1, vs aCode), (2, vi aYear), (10, vb (!x1))], []⟩ ?_
  refine SRun.cu [(10, fun b => b)] h (fun h => ?_) fun h => ?_
  refine SRun.ck tbokGB 4 ⟨22, [(0, vl ePlace aList), (1, vs aCode), (2, vi aYear), (14, vb true)], []⟩ ?_
  refine SRun.nil ?_
  obtain rfl := inj h
  exact Le.sub0
  refine SRun.ck tbokGB 1 ⟨22, [(0, vl ePlace aList), (1, vs aCode), (2, vi aYear), (10, vb false), (11, vs aCode)], []⟩ ?_
  obtain ⟨x2, hx2, h⟩ := bind_some h
  refine SRun.ls (xc ents80 (spec_IsWord_run aCode _ hx2)) ?_
  refine SRun.ck tbokGB 2 ⟨22, [(0, vl ePlace aList), (1, vs aCode), (2, vi aYear), (14, vb (!x2))], []⟩ ?_
  refine SRun.nil ?_
  obtain rfl := inj h
  exact Le.sub0
  refine swp_cd h (fun h => ?_) fun h => ?_
  refine srk tbokGB ⟨22, [(6, vi 1)], []⟩ ?_
  refine swp_ret ?_
  obtain rfl := inj h
  exact nx_r (q_fr (f1 fv))
  refine swp_skip ?_
  refine nx_n ?_
  refine swp_seq ?_
  refine sr ?_
  refine SRun.ck tbokGB 1 ⟨22, [(0, vl ePlace aList), (1, vs aCode), (15, vi aYear)], []⟩ ?_
  obtain ⟨x5, hx5, h⟩ := bind_some h
  refine SRun.ls (xc ents86 (spec_l02Year_run aYear _ hx5)) ?_
  refine ckn tbokGB 1 ⟨22, [(0, vl ePlace aList), (1, vs aCode), (17, vb (!x5))], []⟩ ?_
  refine swp_cd h (fun h => ?_) fun h => ?_
  refine srk tbokGB ⟨22, [(6, vi 2)], []⟩ ?_
  refine swp_ret ?_
  obtain rfl := inj h
  exact nx_r (q_fr (f1 fv))
  refine swp_skip ?_
  refine nx_n ?_
  refine swp_seq ?_
  refine sr ?_
  refine SRun.ck tbokGB 2 ⟨22, [(18, vl ePlace aList), (19, vs aCode)], []⟩ ?_
  obtain ⟨x6, hx6, h⟩ := bind_some h
  refine SRun.ls (xc ents37 (spec_l11Find_run aList aCode _ hx6)) ?_
  refine ckn tbokGB 1 ⟨22, [(21, vb (decide (x6 < 0)))], []⟩ ?_
  refine swp_cd h (fun h => ?_) fun h => ?_
  refine srk tbokGB ⟨22, [(6, vi 4)], []⟩ ?_
  refine swp_ret ?_
  obtain rfl := inj h
  exact nx_r (q_fr (f1 fv))
  refine swp_skip ?_
  refine nx_n ?_
  refine srk tbokGB ⟨22, [(6, vi 0)], []⟩ ?_
  refine swp_ret ?_
  obtain rfl := inj h
  exact q_fr (f1 fv)
theorem ents36 : Ents Tryz.prog 36 := ents_of Tryz.func36 (by kernel_rfl) rfl
noncomputable def spec_l11Exists (aP : Place) (aYear : Int) : Option (Bool) :=
  ((spec_l01In aYear aP.Years.From aP.Years.To).bind fun x1 => some x1)
theorem spec_l11Exists_run (aP : Place) (aYear : Int) (r : Bool) (h : spec_l11Exists aP aYear = some r) : SCall Tryz.prog 38 [.v (.agg (tc ePlace aP)), .v (vi aYear)] ⟨[.v (vb r)], [], false⟩ := by
  refine scall_in Tryz.func38 rfl [(.tmp 4)] rfl (fun r => ⟨[.v (vb r)], [], false⟩) (r := r) ?_
  unfold spec_l11Exists at h
  refine srk tbokGB ⟨13, [(1, vi aYear), (2, .ref 2 0)], [(2, .box (tc ePlace aP))]⟩ ?_
  refine sr ?_
  refine SRun.ck tbokGB 7 ⟨13, [(5, vi aYear), (8, vi aP.Years.From), (11, vi aP.Years.To)], []⟩ ?_
  obtain ⟨x1, hx1, h⟩ := bind_some h
  refine SRun.ls (xc ents81 (spec_l01In_run aYear aP.Years.From aP.Years.To _ hx1)) ?_
  refine ckn tbokGB 1 ⟨13, [(4, vb x1)], []⟩ ?_
  refine swp_ret ?_
  obtain rfl := inj h
  exact q_fr (f1 fv)
theorem ents38 : Ents Tryz.prog 38 := ents_of Tryz.func38 (by kernel_rfl) rfl
noncomputable def spec_l11End (aP : Place) (aYear : Int) : Option (Place) :=
  (((forS (aP.Names.length : Int) (fun (i3 : Int) (s3 : (List Name)) => ((at' aP.Names i3).bind fun x7 => (bif (decide (x7.Years.From ≤ (minI x7.Years.To (w64 (aYear - 1))))) then ((app' s3 ([(Name.mk x7.Text x7.Language x7.Status (Span.mk x7.Years.From (minI x7.Years.To (w64 (aYear - 1)))))] : List Name)).bind fun x8 => some x8) else some s3))) (fun (s3 : (List Name)) => s3) 0 ([] : List Name))).bind fun (j1 : (List Name)) => some (Place.mk aP.Code aP.Class (Span.mk aP.Years.From (minI aP.Years.To (w64 (aYear - 1)))) j1))
theorem spec_l11End_run (aP : Place) (aYear : Int) (r : Place) (h : spec_l11End aP aYear = some r) : SCall Tryz.prog 39 [.v (.agg (tc ePlace aP)), .v (vi aYear)] ⟨[.part [vs r.Code, vi r.Class, vi r.Years.From, vi r.Years.To] [] (oa 95 5 eName r.Names)], [], false⟩ := by
  refine scall_in Tryz.func39 rfl [(.cell 4 41)] rfl (fun r => ⟨[.part [vs r.Code, vi r.Class, vi r.Years.From, vi r.Years.To] [] (oa 95 5 eName r.Names)], [], false⟩) (r := r) ?_
  unfold spec_l11End at h
  refine srk tbokGB ⟨59, [(1, vi aYear), (2, .ref 2 0), (4, .ref 4 0)], [(2, .box (tc ePlace aP)), (4, .box [vs (ByteArray.mk #[]), vi 0, vi 0, vi 0, vl eName ([] : List Name)])]⟩ ?_
  refine srk tbokGB ⟨59, [(1, vi aYear), (2, .ref 2 0), (4, .ref 4 0), (5, .own 8)], [(2, .box (tc ePlace aP)), (4, .box [vs (ByteArray.mk #[]), vi 0, vi 0, vi 0, vl eName ([] : List Name)]), (8, oa 95 5 eName ([] : List Name))]⟩ ?_
  refine swp_seq ?_
  refine srk tbokGB ⟨59, [(1, vi aYear), (2, .ref 2 0), (4, .ref 4 0), (5, .own 8), (6, vi 0)], [(2, .box (tc ePlace aP)), (4, .box [vs (ByteArray.mk #[]), vi 0, vi 0, vi 0, vl eName ([] : List Name)]), (8, oa 95 5 eName ([] : List Name))]⟩ ?_
  refine swp_seqJ h (fun j1 => ⟨59, [(1, vi aYear), (2, .ref 2 0), (4, .ref 4 0), (5, .own 5)], [(2, .box (tc ePlace aP)), (4, .box [vs (ByteArray.mk #[]), vi 0, vi 0, vi 0, vl eName ([] : List Name)]), (5, oa 95 5 eName j1)]⟩) (fun v2 h => ?_) (fun j1 h => ?_)
  refine swp_blk (a := v2) ?_
  refine swp_lpL (r := v2) (s := (0, ([] : List Name))) _ (fun s3 => ⟨59, [(1, vi aYear), (2, .ref 2 0), (4, .ref 4 0), (5, .own 5), (6, vi s3.1)], [(2, .box (tc ePlace aP)), (4, .box [vs (ByteArray.mk #[]), vi 0, vi 0, vi 0, vl eName ([] : List Name)]), (5, oa 95 5 eName s3.2)]⟩) _ (Le.rr [2, 4, 8] [(8, 5)]) h (fun s3 v4 h => ?_)
  refine swp_seq ?_
  refine srk tbokGB ⟨59, [(1, vi aYear), (2, .ref 2 0), (4, .ref 4 0), (5, .own 5), (6, vi s3.1), (13, vb (decide (s3.1 < (aP.Names.length : Int))))], [(2, .box (tc ePlace aP)), (4, .box [vs (ByteArray.mk #[]), vi 0, vi 0, vi 0, vl eName ([] : List Name)]), (5, oa 95 5 eName s3.2)]⟩ ?_
  refine swp_cd h (fun h => ?_) fun h => ?_
  refine swp_skip ?_
  refine nx_n ?_
  refine swp_seq ?_
  refine swp_seqJ h (fun j5 => ⟨59, [(1, vi aYear), (2, .ref 2 0), (4, .ref 4 0), (5, .own 5), (6, vi s3.1)], [(2, .box (tc ePlace aP)), (4, .box [vs (ByteArray.mk #[]), vi 0, vi 0, vi 0, vl eName ([] : List Name)]), (5, oa 95 5 eName j5)]⟩) (fun v6 h => ?_) (fun j5 h => ?_)
  refine swp_blk (a := v6) ?_
  refine sr ?_
  refine SRun.ck tbokGB 3 ⟨59, [(1, vi aYear), (2, .ref 2 0), (4, .ref 4 0), (5, .own 5), (6, vi s3.1), (17, vl eName aP.Names), (18, vi s3.1)], [(2, .box (tc ePlace aP)), (4, .box [vs (ByteArray.mk #[]), vi 0, vi 0, vi 0, vl eName ([] : List Name)]), (5, oa 95 5 eName s3.2)]⟩ ?_
  obtain ⟨x7, hx7, h⟩ := bind_some h
  refine SRun.ls (x_index (L := aP.Names) (f := eName) (ti := ti39) (tj := ti95) (e := 95) (k := .i64) tbokGB rfl hx7) ?_
  refine ckn tbokGB 3 ⟨59, [(1, vi aYear), (2, .ref 2 0), (4, .ref 4 0), (5, .own 5), (6, vi s3.1), (7, .ref 7 0)], [(2, .box (tc ePlace aP)), (4, .box [vs (ByteArray.mk #[]), vi 0, vi 0, vi 0, vl eName ([] : List Name)]), (5, oa 95 5 eName s3.2), (7, .box (tc eName x7))]⟩ ?_
  refine sr ?_
  refine SRun.ck tbokGB 9 ⟨59, [(1, vi aYear), (2, .ref 2 0), (4, .ref 4 0), (5, .own 5), (6, vi s3.1), (7, .ref 7 0), (23, vi x7.Years.From), (29, vi (minI x7.Years.To (w64 (aYear - 1))))], [(2, .box (tc ePlace aP)), (4, .box [vs (ByteArray.mk #[]), vi 0, vi 0, vi 0, vl eName ([] : List Name)]), (5, oa 95 5 eName s3.2), (7, .box (tc eName x7))]⟩ ?_
  refine SRun.ls (x_lstep_build (v := .agg [vi x7.Years.From, vi (minI x7.Years.To (w64 (aYear - 1)))]) tbokGB rfl) ?_
  refine ckn tbokGB 2 ⟨59, [(1, vi aYear), (2, .ref 2 0), (4, .ref 4 0), (5, .own 5), (6, vi s3.1), (7, .ref 7 0)], [(2, .box (tc ePlace aP)), (4, .box [vs (ByteArray.mk #[]), vi 0, vi 0, vi 0, vl eName ([] : List Name)]), (5, oa 95 5 eName s3.2), (7, .box [vs x7.Text, vs x7.Language, vi x7.Status, vi x7.Years.From, vi (minI x7.Years.To (w64 (aYear - 1)))])]⟩ ?_
  refine srk tbokGB ⟨59, [(1, vi aYear), (2, .ref 2 0), (4, .ref 4 0), (5, .own 5), (6, vi s3.1), (7, .ref 7 0), (38, vb (decide (x7.Years.From ≤ (minI x7.Years.To (w64 (aYear - 1))))))], [(2, .box (tc ePlace aP)), (4, .box [vs (ByteArray.mk #[]), vi 0, vi 0, vi 0, vl eName ([] : List Name)]), (5, oa 95 5 eName s3.2), (7, .box [vs x7.Text, vs x7.Language, vi x7.Status, vi x7.Years.From, vi (minI x7.Years.To (w64 (aYear - 1)))])]⟩ ?_
  refine swp_cd h (fun h => ?_) fun h => ?_
  refine swp_reg ?_
  refine SRun.ck tbokGB 3 ⟨59, [(1, vi aYear), (2, .ref 2 0), (4, .ref 4 0), (6, vi s3.1), (39, .own 5), (41, .own 41)], [(2, .box (tc ePlace aP)), (4, .box [vs (ByteArray.mk #[]), vi 0, vi 0, vi 0, vl eName ([] : List Name)]), (5, oa 95 5 eName s3.2), (41, oa 95 5 eName ([(Name.mk x7.Text x7.Language x7.Status (Span.mk x7.Years.From (minI x7.Years.To (w64 (aYear - 1)))))] : List Name))]⟩ ?_
  obtain ⟨x8, hx8, h⟩ := bind_some h
  refine SRun.estep (x_append (f := eName) (t := 39) (ti := ti39) (tj := ti95) (zs := [.string (ByteArray.mk #[]), .string (ByteArray.mk #[]), .int .i64 0, .int .i64 0, .int .i64 0]) (e := 95) (m := 5) (d := 5) (xv := .own 41) hx8 tbokGB rfl rfl rfl rfl (x_src_o (e := 95))) ?_
  refine SRun.ck tbokGB 1 ⟨59, [(1, vi aYear), (2, .ref 2 0), (4, .ref 4 0), (5, .own 42), (6, vi s3.1)], [(2, .box (tc ePlace aP)), (4, .box [vs (ByteArray.mk #[]), vi 0, vi 0, vi 0, vl eName ([] : List Name)]), (42, oa 95 5 eName x8)]⟩ ?_
  refine SRun.nil ?_
  obtain rfl := inj h
  exact q_bn (q_j (Le.rr [2, 4, 42] [(42, 5)]))
  refine swp_skip ?_
  obtain rfl := inj h
  exact q_bn (q_j (Le.sub0))
  refine swp_reg ?_
  refine SRun.ck tbokGB 3 ⟨59, [(1, vi aYear), (2, .ref 2 0), (4, .ref 4 0), (5, .own 5), (6, vi (w64 (s3.1 + 1)))], [(2, .box (tc ePlace aP)), (4, .box [vs (ByteArray.mk #[]), vi 0, vi 0, vi 0, vl eName ([] : List Name)]), (5, oa 95 5 eName j5)]⟩ ?_
  refine SRun.nil ?_
  obtain rfl := inj h
  exact q_l (Le.sub0)
  refine swp_exit ?_
  obtain rfl := inj h
  exact nx_e (q_re (q_bh (q_j (Le.sub0))))
  refine sr ?_
  refine SRun.ck tbokGB 13 ⟨59, [(4, .ref 4 0), (5, .own 5), (44, vs aP.Code), (46, vi aP.Class), (49, vi aP.Years.From), (55, vi (minI aP.Years.To (w64 (aYear - 1))))], [(4, .box [vs (ByteArray.mk #[]), vi 0, vi 0, vi 0, vl eName ([] : List Name)]), (5, oa 95 5 eName j1)]⟩ ?_
  refine SRun.ls (x_lstep_build (v := .agg [vi aP.Years.From, vi (minI aP.Years.To (w64 (aYear - 1)))]) tbokGB rfl) ?_
  refine SRun.ck tbokGB 1 ⟨59, [(4, .ref 4 0), (44, vs aP.Code), (46, vi aP.Class), (56, .agg [vi aP.Years.From, vi (minI aP.Years.To (w64 (aYear - 1)))]), (57, .own 5)], [(4, .box [vs (ByteArray.mk #[]), vi 0, vi 0, vi 0, vl eName ([] : List Name)]), (5, oa 95 5 eName j1)]⟩ ?_
  refine SRun.ls (x_lstep_build (v := .agg [vs aP.Code, vi aP.Class, vi aP.Years.From, vi (minI aP.Years.To (w64 (aYear - 1))), .own 5]) tbokGB rfl) ?_
  refine ckn tbokGB 1 ⟨59, [(4, .ref 4 0)], [(4, .box [vs aP.Code, vi aP.Class, vi aP.Years.From, vi (minI aP.Years.To (w64 (aYear - 1))), .own 5]), (5, oa 95 5 eName j1)]⟩ ?_
  refine swp_ret ?_
  obtain rfl := inj h
  exact q_fr (f1 (finP (d := 5) [vs aP.Code, vi aP.Class, vi aP.Years.From, vi (minI aP.Years.To (w64 (aYear - 1)))] [] (holds_c tbokGB (d := 4) (cs := [vs aP.Code, vi aP.Class, vi aP.Years.From, vi (minI aP.Years.To (w64 (aYear - 1))), .own 5]) (ti := ti41) (by kernel_rfl) (by kernel_rfl) (by kernel_rfl) (by kernel_rfl)) (by kernel_rfl) (flat_map eName_flat _) rfl rfl SV.flatL_of SV.flatL_of (by kernel_rfl)))
theorem ents39 : Ents Tryz.prog 39 := ents_of Tryz.func39 (by kernel_rfl) rfl
noncomputable def spec_EndPlace (aList : (List Place)) (aCode : ByteArray) (aYear : Int) : Option ((List Place) × Int) :=
  ((spec_l11Code aList aCode aYear).bind fun x1 => (bif (x1 != 0) then some (([] : List Place), x1) else ((spec_l11Find aList aCode).bind fun x2 => ((at' aList x2).bind fun x3 => ((spec_l11Exists x3 (w64 (aYear - 1))).bind fun x4 => (bif (!x4) then some (([] : List Place), 5) else ((app' ([] : List Place) aList).bind fun x5 => ((at' aList x2).bind fun x6 => ((spec_l11End x6 aYear).bind fun x7 => ((at' x5 x2).bind fun _ => ((spec_l11Own (List.set x5 (Int.toNat x2) x7)).bind fun x9 => some (x9, 0))))))))))))
theorem spec_EndPlace_run (aList : (List Place)) (aCode : ByteArray) (aYear : Int) (r : (List Place) × Int) (h : spec_EndPlace aList aCode aYear = some r) : SCall Tryz.prog 7 [.v (vl ePlace aList), .v (vs aCode), .v (vi aYear)] ⟨[.deep 41 5 r.1.length [.flat, .flat, .flat, .flat, (.sl 95 5 [.flat, .flat, .flat, .flat, .flat])] (r.1.map ePlace), .v (vi r.2)], [], false⟩ := by
  refine scall_in Tryz.func7 rfl [(.tmp 6), (.tmp 7)] rfl (fun r => ⟨[.deep 41 5 r.1.length [.flat, .flat, .flat, .flat, (.sl 95 5 [.flat, .flat, .flat, .flat, .flat])] (r.1.map ePlace), .v (vi r.2)], [], false⟩) (r := r) ?_
  unfold spec_EndPlace at h
  refine srk tbokGB ⟨43, [(0, vl ePlace aList), (1, vs aCode), (2, vi aYear)], []⟩ ?_
  refine sr ?_
  refine SRun.ck tbokGB 3 ⟨43, [(0, vl ePlace aList), (1, vs aCode), (2, vi aYear), (11, vl ePlace aList), (12, vs aCode), (13, vi aYear)], []⟩ ?_
  obtain ⟨x1, hx1, h⟩ := bind_some h
  refine SRun.ls (xc ents36 (spec_l11Code_run aList aCode aYear _ hx1)) ?_
  refine ckn tbokGB 1 ⟨43, [(0, vl ePlace aList), (1, vs aCode), (2, vi aYear), (8, vi x1)], []⟩ ?_
  refine swp_seq ?_
  refine srk tbokGB ⟨43, [(0, vl ePlace aList), (1, vs aCode), (2, vi aYear), (8, vi x1), (16, vb (x1 != 0))], []⟩ ?_
  refine swp_cd h (fun h => ?_) fun h => ?_
  refine srk tbokGB ⟨43, [(6, .own 6), (7, vi x1)], [(6, oa 41 5 ePlace ([] : List Place))]⟩ ?_
  refine swp_le (Le.deep0 (d := 6) (e := 41) (m := 5) (ss := [.flat, .flat, .flat, .flat, (.sl 95 5 [.flat, .flat, .flat, .flat, .flat])]) (by kernel_rfl) (by kernel_rfl)) ?_
  refine swp_ret ?_
  obtain rfl := inj h
  exact nx_r (q_fr (f2 (finD (d := 6) (holds_t (by kernel_rfl)) (by kernel_rfl) (by kernel_rfl)) fv))
  refine swp_skip ?_
  refine nx_n ?_
  refine sr ?_
  refine SRun.ck tbokGB 2 ⟨43, [(0, vl ePlace aList), (2, vi aYear), (18, vl ePlace aList), (19, vs aCode)], []⟩ ?_
  obtain ⟨x2, hx2, h⟩ := bind_some h
  refine SRun.ls (xc ents37 (spec_l11Find_run aList aCode _ hx2)) ?_
  refine ckn tbokGB 1 ⟨43, [(0, vl ePlace aList), (2, vi aYear), (9, vi x2)], []⟩ ?_
  refine swp_seq ?_
  refine sr ?_
  refine SRun.ck tbokGB 2 ⟨43, [(0, vl ePlace aList), (2, vi aYear), (9, vi x2), (21, vl ePlace aList), (22, vi x2)], []⟩ ?_
  obtain ⟨x3, hx3, h⟩ := bind_some h
  refine SRun.ls (x_index (L := aList) (f := ePlace) (ti := ti24) (tj := ti41) (e := 41) (k := .i64) tbokGB rfl hx3) ?_
  refine SRun.ck tbokGB 3 ⟨43, [(0, vl ePlace aList), (2, vi aYear), (9, vi x2), (24, .agg (tc ePlace x3)), (26, vi (w64 (aYear - 1)))], []⟩ ?_
  obtain ⟨x4, hx4, h⟩ := bind_some h
  refine SRun.ls (xc ents38 (spec_l11Exists_run x3 (w64 (aYear - 1)) _ hx4)) ?_
  refine ckn tbokGB 1 ⟨43, [(0, vl ePlace aList), (2, vi aYear), (9, vi x2), (28, vb (!x4))], []⟩ ?_
  refine swp_cd h (fun h => ?_) fun h => ?_
  refine srk tbokGB ⟨43, [(6, .own 6), (7, vi 5)], [(6, oa 41 5 ePlace ([] : List Place))]⟩ ?_
  refine swp_le (Le.deep0 (d := 6) (e := 41) (m := 5) (ss := [.flat, .flat, .flat, .flat, (.sl 95 5 [.flat, .flat, .flat, .flat, .flat])]) (by kernel_rfl) (by kernel_rfl)) ?_
  refine swp_ret ?_
  obtain rfl := inj h
  exact nx_r (q_fr (f2 (finD (d := 6) (holds_t (by kernel_rfl)) (by kernel_rfl) (by kernel_rfl)) fv))
  refine swp_skip ?_
  refine nx_n ?_
  refine sr ?_
  refine SRun.ck tbokGB 2 ⟨43, [(0, vl ePlace aList), (2, vi aYear), (9, vi x2), (29, .own 29), (30, vl ePlace aList)], [(29, oa 41 5 ePlace ([] : List Place))]⟩ ?_
  obtain ⟨x5, hx5, h⟩ := bind_some h
  refine SRun.estep (x_append (f := ePlace) (t := 24) (ti := ti24) (tj := ti41) (zs := [.string (ByteArray.mk #[]), .int .i64 0, .int .i64 0, .int .i64 0, .slice none 0 0]) (e := 41) (m := 5) (d := 29) (xv := vl ePlace aList) hx5 tbokGB rfl rfl rfl rfl (src_e (fun _ => rfl))) ?_
  refine ckn tbokGB 1 ⟨43, [(0, vl ePlace aList), (2, vi aYear), (9, vi x2), (10, .own 31)], [(31, oa 41 5 ePlace x5)]⟩ ?_
  refine sr ?_
  refine SRun.ck tbokGB 4 ⟨43, [(2, vi aYear), (10, .own 31), (32, .own 31), (33, vi x2), (34, vl ePlace aList), (35, vi x2)], [(31, oa 41 5 ePlace x5)]⟩ ?_
  obtain ⟨x6, hx6, h⟩ := bind_some h
  refine SRun.ls (x_index (L := aList) (f := ePlace) (ti := ti24) (tj := ti41) (e := 41) (k := .i64) tbokGB rfl hx6) ?_
  refine SRun.ck tbokGB 2 ⟨43, [(10, .own 31), (32, .own 31), (33, vi x2), (37, .agg (tc ePlace x6)), (38, vi aYear)], [(31, oa 41 5 ePlace x5)]⟩ ?_
  obtain ⟨x7, hx7, h⟩ := bind_some h
  refine SRun.ls (xc ents39 (spec_l11End_run x6 aYear _ hx7)) ?_
  obtain ⟨x8, hx8, h⟩ := bind_some h
  refine SRun.ls (x_index_own (d := 31) (L := x5) (f := ePlace) (ti := ti24) (tj := ti41) (e := 41) (e' := 41) (m := 5) (k := .i64) tbokGB rfl hx8) ?_
  refine SRun.le (Le.frz' (d := 39) (e := 95) (m := 5) (n := x7.Names.length) (es := x7.Names.map eName) (by kernel_rfl) (by kernel_rfl)) ?_
  refine SRun.estep (x_store_own (d := 31) (m := 5) (j := 0) (L := x5) (f := ePlace) (x := x7) (z := x8) (ti := ti41) (e := 41) (ts := [.str x7.Code, .int .i64 x7.Class, .int .i64 x7.Years.From, .int .i64 x7.Years.To, .sl x7.Names.length (x7.Names.map eName)]) (vs := [vs x7.Code, vi x7.Class, vi x7.Years.From, vi x7.Years.To, vl eName x7.Names]) (v := .agg (tc ePlace x7)) tbokGB rfl rfl hx8) ?_
  refine SRun.nx ?_
  refine sr ?_
  refine SRun.ck tbokGB 1 ⟨43, [(41, .own 31)], [(31, oa 41 5 ePlace (List.set x5 (Int.toNat x2) x7))]⟩ ?_
  obtain ⟨x9, hx9, h⟩ := bind_some h
  refine SRun.ls (xc ents40 (spec_l11Own_run (List.set x5 (Int.toNat x2) x7) _ hx9)) ?_
  refine ckn tbokGB 2 ⟨43, [(6, .own 42), (7, vi 0)], [(42, .deep 41 5 x9.length [.flat, .flat, .flat, .flat, (.sl 95 5 [.flat, .flat, .flat, .flat, .flat])] (x9.map ePlace))]⟩ ?_
  refine swp_ret ?_
  obtain rfl := inj h
  exact q_fr (f2 (finD (d := 42) (holds_t (by kernel_rfl)) (by kernel_rfl) (by kernel_rfl)) fv)
theorem ents7 : Ents Tryz.prog 7 := ents_of Tryz.func7 (by kernel_rfl) rfl
noncomputable def spec_DrawPlacesIn (aCode : (List Int)) : Option ((List Place) × Int) :=
  ((spec_l01From aCode).bind fun x1 => ((spec_l11List x1).bind fun x2 => ((spec_l11YearOf x2.2).bind fun x3 => some (x2.1, x3.1))))
theorem spec_DrawPlacesIn_run (aCode : (List Int)) (r : (List Place) × Int) (h : spec_DrawPlacesIn aCode = some r) : SCall Tryz.prog 22 [.v (vl (eI .u8) aCode)] ⟨[.own 41 5 r.1.length (r.1.map ePlace), .v (vi r.2)], [], true⟩ := by
  refine scall_in Tryz.func22 rfl [(.tmp 2), (.tmp 3)] rfl (fun r => ⟨[.own 41 5 r.1.length (r.1.map ePlace), .v (vi r.2)], [], true⟩) (r := r) ?_
  unfold spec_DrawPlacesIn at h
  refine srk tbokGB ⟨13, [(0, vl (eI .u8) aCode)], []⟩ ?_
  refine sr ?_
  refine SRun.ck tbokGB 1 ⟨13, [(6, vl (eI .u8) aCode)], []⟩ ?_
  obtain ⟨x1, hx1, h⟩ := bind_some h
  refine SRun.ls (xc ents57 (spec_l01From_run aCode _ hx1)) ?_
  refine ckn tbokGB 1 ⟨13, [(4, .ref 7 0)], [(7, .box (tc el01Source x1))]⟩ ?_
  refine sr ?_
  refine SRun.ck tbokGB 1 ⟨13, [(4, .ref 7 0), (8, .ref 7 0)], [(7, .box (tc el01Source x1))]⟩ ?_
  obtain ⟨x2, hx2, h⟩ := bind_some h
  refine SRun.estep (xe ents58 (spec_l11List_run x1 _ hx2)) ?_
  refine ckn tbokGB 1 ⟨13, [(4, .ref 7 0), (5, .own 9)], [(7, .box (tc el01Source x2.2)), (9, oa 41 5 ePlace x2.1)]⟩ ?_
  refine sr ?_
  refine SRun.ck tbokGB 2 ⟨13, [(10, .own 9), (11, .ref 7 0)], [(7, .box (tc el01Source x2.2)), (9, oa 41 5 ePlace x2.1)]⟩ ?_
  obtain ⟨x3, hx3, h⟩ := bind_some h
  refine SRun.estep (xe ents63 (spec_l11YearOf_run x2.2 _ hx3)) ?_
  refine ckn tbokGB 2 ⟨13, [(2, .own 9), (3, vi x3.1)], [(9, oa 41 5 ePlace x2.1)]⟩ ?_
  refine swp_ret ?_
  obtain rfl := inj h
  exact q_fr (f2 (finOT (d := 9) (holds_t (by kernel_rfl)) (by kernel_rfl) (by kernel_rfl)) ft)
theorem ents22 : Ents Tryz.prog 22 := ents_of Tryz.func22 (by kernel_rfl) rfl
noncomputable def impl_PlacesIn_1 (aP : Place) (c0 : Int) : Option (Bool) :=
  ((impl_Span_has aP.Years c0).bind fun x1 => some x1)
theorem impl_PlacesIn_1_run (aP : Place) (c0 : Int) (r : Bool) (h : impl_PlacesIn_1 aP c0 = some r) : SCall Tryz.prog 65 [.v (.agg (tc ePlace aP)), .v (.ptr [vi c0] 0)] ⟨[.v (vb r)], [], false⟩ := by
  refine scall_in Tryz.func65 rfl [(.tmp 3)] rfl (fun r => ⟨[.v (vb r)], [], false⟩) (r := r) ?_
  unfold impl_PlacesIn_1 at h
  refine srk tbokGB ⟨8, [(1, .ptr [vi c0] 0), (2, .ref 2 0)], [(2, .box (tc ePlace aP))]⟩ ?_
  refine sr ?_
  refine SRun.ck tbokGB 3 ⟨8, [(5, .agg (tc eSpan aP.Years)), (6, vi c0)], []⟩ ?_
  obtain ⟨x1, hx1, h⟩ := bind_some h
  refine SRun.ls (xc ents44 (impl_Span_has_run aP.Years c0 _ hx1)) ?_
  refine ckn tbokGB 1 ⟨8, [(3, vb x1)], []⟩ ?_
  refine swp_ret ?_
  obtain rfl := inj h
  exact q_fr (f1 fv)
theorem ents65 : Ents Tryz.prog 65 := ents_of Tryz.func65 (by kernel_rfl) rfl
noncomputable def impl_codesOf_impl_PlacesIn_1 (aList : (List Place)) (aIs0 : Int) : Option ((List ByteArray)) :=
  (((forS (aList.length : Int) (fun (i3 : Int) (s3 : (List ByteArray)) => ((at' aList i3).bind fun x7 => ((impl_PlacesIn_1 x7 aIs0).bind fun x8 => (bif x8 then ((app' s3 ([x7.Code] : List ByteArray)).bind fun x9 => some x9) else some s3)))) (fun (s3 : (List ByteArray)) => s3) 0 ([] : List ByteArray))).bind fun (j1 : (List ByteArray)) => some j1)
theorem impl_codesOf_impl_PlacesIn_1_run (aList : (List Place)) (aIs0 : Int) (r : (List ByteArray)) (h : impl_codesOf_impl_PlacesIn_1 aList aIs0 = some r) : SCall Tryz.prog 64 [.v (vl ePlace aList), .v (.clo 65 [.ptr [vi aIs0] 0])] ⟨[.own 9 1 r.length (r.map eS)], [], false⟩ := by
  refine scall_in Tryz.func64 rfl [(.tmp 4)] rfl (fun r => ⟨[.own 9 1 r.length (r.map eS)], [], false⟩) (r := r) ?_
  unfold impl_codesOf_impl_PlacesIn_1 at h
  refine srk tbokGB ⟨24, [(0, vl ePlace aList), (1, .clo 65 [.ptr [vi aIs0] 0])], []⟩ ?_
  refine srk tbokGB ⟨24, [(0, vl ePlace aList), (1, .clo 65 [.ptr [vi aIs0] 0]), (5, .own 5)], [(5, oa 9 1 eS ([] : List ByteArray))]⟩ ?_
  refine swp_seq ?_
  refine srk tbokGB ⟨24, [(1, .clo 65 [.ptr [vi aIs0] 0]), (5, .own 5), (8, vl ePlace aList), (9, vi (aList.length : Int)), (10, vi 0)], [(5, oa 9 1 eS ([] : List ByteArray))]⟩ ?_
  refine swp_seqJ h (fun j1 => ⟨24, [(5, .own 5)], [(5, oa 9 1 eS j1)]⟩) (fun v2 h => ?_) (fun j1 h => ?_)
  refine swp_blk (a := v2) ?_
  refine swp_lpL (r := v2) (s := (0, ([] : List ByteArray))) _ (fun s3 => ⟨24, [(1, .clo 65 [.ptr [vi aIs0] 0]), (5, .own 5), (8, vl ePlace aList), (9, vi (aList.length : Int)), (10, vi s3.1)], [(5, oa 9 1 eS s3.2)]⟩) _ (Le.sub0) h (fun s3 v4 h => ?_)
  refine srk tbokGB ⟨24, [(1, .clo 65 [.ptr [vi aIs0] 0]), (5, .own 5), (8, vl ePlace aList), (9, vi (aList.length : Int)), (10, vi s3.1), (11, vb (decide (s3.1 < (aList.length : Int))))], [(5, oa 9 1 eS s3.2)]⟩ ?_
  refine swp_seq ?_
  refine swp_cd h (fun h => ?_) fun h => ?_
  refine swp_skip ?_
  refine nx_n ?_
  refine swp_seq ?_
  refine swp_seqJ h (fun j5 => ⟨24, [(1, .clo 65 [.ptr [vi aIs0] 0]), (5, .own 5), (8, vl ePlace aList), (9, vi (aList.length : Int)), (10, vi s3.1)], [(5, oa 9 1 eS j5)]⟩) (fun v6 h => ?_) (fun j5 h => ?_)
  refine swp_blk (a := v6) ?_
  refine sr ?_
  obtain ⟨x7, hx7, h⟩ := bind_some h
  refine SRun.ls (x_index (L := aList) (f := ePlace) (ti := ti24) (tj := ti41) (e := 41) (k := .i64) tbokGB rfl hx7) ?_
  refine ckn tbokGB 3 ⟨24, [(1, .clo 65 [.ptr [vi aIs0] 0]), (5, .own 5), (7, .ref 7 0), (8, vl ePlace aList), (9, vi (aList.length : Int)), (10, vi s3.1)], [(5, oa 9 1 eS s3.2), (7, .box (tc ePlace x7))]⟩ ?_
  refine sr ?_
  refine SRun.ck tbokGB 2 ⟨24, [(1, .clo 65 [.ptr [vi aIs0] 0]), (5, .own 5), (7, .ref 7 0), (8, vl ePlace aList), (9, vi (aList.length : Int)), (10, vi s3.1), (14, .clo 65 [.ptr [vi aIs0] 0]), (15, .agg (tc ePlace x7))], [(5, oa 9 1 eS s3.2), (7, .box (tc ePlace x7))]⟩ ?_
  obtain ⟨x8, hx8, h⟩ := bind_some h
  refine SRun.ls (xc ents65 (impl_PlacesIn_1_run x7 aIs0 _ hx8)) ?_
  refine SRun.nx ?_
  refine swp_cd h (fun h => ?_) fun h => ?_
  refine swp_reg ?_
  refine SRun.ck tbokGB 4 ⟨24, [(1, .clo 65 [.ptr [vi aIs0] 0]), (8, vl ePlace aList), (9, vi (aList.length : Int)), (10, vi s3.1), (17, .own 5), (20, .own 20)], [(5, oa 9 1 eS s3.2), (20, oa 9 1 eS ([x7.Code] : List ByteArray))]⟩ ?_
  obtain ⟨x9, hx9, h⟩ := bind_some h
  refine SRun.estep (x_append (f := eS) (t := 53) (ti := ti53) (tj := ti9) (zs := [.string (ByteArray.mk #[])]) (e := 9) (m := 1) (d := 5) (xv := .own 20) hx9 tbokGB rfl rfl rfl rfl (x_src_o (e := 9))) ?_
  refine SRun.ck tbokGB 1 ⟨24, [(1, .clo 65 [.ptr [vi aIs0] 0]), (5, .own 21), (8, vl ePlace aList), (9, vi (aList.length : Int)), (10, vi s3.1)], [(21, oa 9 1 eS x9)]⟩ ?_
  refine SRun.nil ?_
  obtain rfl := inj h
  exact q_bn (q_j (Le.rr [21] [(21, 5)]))
  refine swp_skip ?_
  obtain rfl := inj h
  exact q_bn (q_j (Le.sub0))
  refine swp_reg ?_
  refine SRun.ck tbokGB 2 ⟨24, [(1, .clo 65 [.ptr [vi aIs0] 0]), (5, .own 5), (8, vl ePlace aList), (9, vi (aList.length : Int)), (10, vi (w64 (s3.1 + 1)))], [(5, oa 9 1 eS j5)]⟩ ?_
  refine SRun.nil ?_
  obtain rfl := inj h
  exact q_l (Le.sub0)
  refine swp_exit ?_
  obtain rfl := inj h
  exact nx_e (q_re (q_bh (q_j (Le.sub0))))
  refine srk tbokGB ⟨24, [(4, .own 5)], [(5, oa 9 1 eS j1)]⟩ ?_
  refine swp_ret ?_
  obtain rfl := inj h
  exact q_fr (f1 (fo eS_flat))
theorem ents64 : Ents Tryz.prog 64 := ents_of Tryz.func64 (by kernel_rfl) rfl
noncomputable def impl_PlacesIn (aList : (List Place)) (aYear : Int) : Option ((List ByteArray) × Int) :=
  ((impl_registerCode aList true aYear).bind fun x1 => (bif (x1 != 0) then some (([] : List ByteArray), x1) else ((impl_codesOf_impl_PlacesIn_1 aList aYear).bind fun x2 => some (x2, 0))))
theorem impl_PlacesIn_run (aList : (List Place)) (aYear : Int) (r : (List ByteArray) × Int) (h : impl_PlacesIn aList aYear = some r) : SCall Tryz.prog 23 [.v (vl ePlace aList), .v (vi aYear)] ⟨[.own 9 1 r.1.length (r.1.map eS), .v (vi r.2)], [], false⟩ := by
  refine scall_in Tryz.func23 rfl [(.tmp 4), (.tmp 5)] rfl (fun r => ⟨[.own 9 1 r.1.length (r.1.map eS), .v (vi r.2)], [], false⟩) (r := r) ?_
  unfold impl_PlacesIn at h
  refine srk tbokGB ⟨16, [(0, vl ePlace aList), (3, .ref 3 0)], [(3, .box [vi aYear])]⟩ ?_
  refine swp_seq ?_
  refine sr ?_
  refine SRun.ck tbokGB 2 ⟨16, [(0, vl ePlace aList), (3, .ref 3 0), (7, vl ePlace aList), (8, vi aYear)], [(3, .box [vi aYear])]⟩ ?_
  obtain ⟨x1, hx1, h⟩ := bind_some h
  refine SRun.ls (xc ents41 (impl_registerCode_run aList true aYear _ hx1)) ?_
  refine ckn tbokGB 1 ⟨16, [(0, vl ePlace aList), (3, .ref 3 0), (6, vi x1)], [(3, .box [vi aYear])]⟩ ?_
  refine srk tbokGB ⟨16, [(0, vl ePlace aList), (3, .ref 3 0), (6, vi x1), (11, vb (x1 != 0))], [(3, .box [vi aYear])]⟩ ?_
  refine swp_cd h (fun h => ?_) fun h => ?_
  refine srk tbokGB ⟨16, [(4, .own 4), (5, vi x1)], [(4, oa 9 1 eS ([] : List ByteArray))]⟩ ?_
  refine swp_ret ?_
  obtain rfl := inj h
  exact nx_r (q_fr (f2 (fo eS_flat) fv))
  refine swp_skip ?_
  refine nx_n ?_
  refine sr ?_
  refine SRun.ck tbokGB 2 ⟨16, [(13, vl ePlace aList), (14, .clo 65 [.ref 3 0])], [(3, .box [vi aYear])]⟩ ?_
  obtain ⟨x2, hx2, h⟩ := bind_some h
  refine SRun.ls (xc ents64 (impl_codesOf_impl_PlacesIn_1_run aList aYear _ hx2)) ?_
  refine ckn tbokGB 2 ⟨16, [(4, .own 15), (5, vi 0)], [(15, oa 9 1 eS x2)]⟩ ?_
  refine swp_ret ?_
  obtain rfl := inj h
  exact q_fr (f2 (fo eS_flat) fv)
theorem ents23 : Ents Tryz.prog 23 := ents_of Tryz.func23 (by kernel_rfl) rfl
noncomputable def spec_l11Year (aList : (List Place)) (aYear : Int) : Option (Int) :=
  ((spec_IsRegister aList).bind fun x1 => (bif (!x1) then some 1 else ((spec_l02Year aYear).bind fun x2 => (bif (!x2) then some 2 else some 0))))
theorem spec_l11Year_run (aList : (List Place)) (aYear : Int) (r : Int) (h : spec_l11Year aList aYear = some r) : SCall Tryz.prog 66 [.v (vl ePlace aList), .v (vi aYear)] ⟨[.v (vi r)], [], false⟩ := by
  refine scall_in Tryz.func66 rfl [(.tmp 4)] rfl (fun r => ⟨[.v (vi r)], [], false⟩) (r := r) ?_
  unfold spec_l11Year at h
  refine srk tbokGB ⟨11, [(0, vl ePlace aList), (1, vi aYear)], []⟩ ?_
  refine swp_seq ?_
  refine sr ?_
  refine SRun.ck tbokGB 1 ⟨11, [(1, vi aYear), (5, vl ePlace aList)], []⟩ ?_
  obtain ⟨x1, hx1, h⟩ := bind_some h
  refine SRun.ls (xc ents30 (spec_IsRegister_run aList _ hx1)) ?_
  refine ckn tbokGB 1 ⟨11, [(1, vi aYear), (7, vb (!x1))], []⟩ ?_
  refine swp_cd h (fun h => ?_) fun h => ?_
  refine srk tbokGB ⟨11, [(4, vi 1)], []⟩ ?_
  refine swp_ret ?_
  obtain rfl := inj h
  exact nx_r (q_fr (f1 fv))
  refine swp_skip ?_
  refine nx_n ?_
  refine swp_seq ?_
  refine sr ?_
  refine SRun.ck tbokGB 1 ⟨11, [(8, vi aYear)], []⟩ ?_
  obtain ⟨x2, hx2, h⟩ := bind_some h
  refine SRun.ls (xc ents86 (spec_l02Year_run aYear _ hx2)) ?_
  refine ckn tbokGB 1 ⟨11, [(10, vb (!x2))], []⟩ ?_
  refine swp_cd h (fun h => ?_) fun h => ?_
  refine srk tbokGB ⟨11, [(4, vi 2)], []⟩ ?_
  refine swp_ret ?_
  obtain rfl := inj h
  exact nx_r (q_fr (f1 fv))
  refine swp_skip ?_
  refine nx_n ?_
  refine srk tbokGB ⟨11, [(4, vi 0)], []⟩ ?_
  refine swp_ret ?_
  obtain rfl := inj h
  exact q_fr (f1 fv)
theorem ents66 : Ents Tryz.prog 66 := ents_of Tryz.func66 (by kernel_rfl) rfl
noncomputable def spec_PlacesIn (aList : (List Place)) (aYear : Int) : Option ((List ByteArray) × Int) :=
  ((spec_l11Year aList aYear).bind fun x1 => (bif (x1 != 0) then some (([] : List ByteArray), x1) else (((forS (aList.length : Int) (fun (i4 : Int) (s4 : (List ByteArray)) => ((at' aList i4).bind fun x8 => ((spec_l11Exists x8 aYear).bind fun x9 => (bif x9 then ((at' aList i4).bind fun x10 => ((app' s4 ([x10.Code] : List ByteArray)).bind fun x11 => some x11)) else some s4)))) (fun (s4 : (List ByteArray)) => s4) 0 ([] : List ByteArray))).bind fun (j2 : (List ByteArray)) => some (j2, 0))))
theorem spec_PlacesIn_run (aList : (List Place)) (aYear : Int) (r : (List ByteArray) × Int) (h : spec_PlacesIn aList aYear = some r) : SCall Tryz.prog 24 [.v (vl ePlace aList), .v (vi aYear)] ⟨[.own 9 1 r.1.length (r.1.map eS), .v (vi r.2)], [], false⟩ := by
  refine scall_in Tryz.func24 rfl [(.tmp 4), (.tmp 5)] rfl (fun r => ⟨[.own 9 1 r.1.length (r.1.map eS), .v (vi r.2)], [], false⟩) (r := r) ?_
  unfold spec_PlacesIn at h
  refine srk tbokGB ⟨37, [(0, vl ePlace aList), (1, vi aYear)], []⟩ ?_
  refine sr ?_
  refine SRun.ck tbokGB 2 ⟨37, [(0, vl ePlace aList), (1, vi aYear), (9, vl ePlace aList), (10, vi aYear)], []⟩ ?_
  obtain ⟨x1, hx1, h⟩ := bind_some h
  refine SRun.ls (xc ents66 (spec_l11Year_run aList aYear _ hx1)) ?_
  refine ckn tbokGB 1 ⟨37, [(0, vl ePlace aList), (1, vi aYear), (6, vi x1)], []⟩ ?_
  refine swp_seq ?_
  refine srk tbokGB ⟨37, [(0, vl ePlace aList), (1, vi aYear), (6, vi x1), (13, vb (x1 != 0))], []⟩ ?_
  refine swp_cd h (fun h => ?_) fun h => ?_
  refine srk tbokGB ⟨37, [(4, .own 4), (5, vi x1)], [(4, oa 9 1 eS ([] : List ByteArray))]⟩ ?_
  refine swp_ret ?_
  obtain rfl := inj h
  exact nx_r (q_fr (f2 (fo eS_flat) fv))
  refine swp_skip ?_
  refine nx_n ?_
  refine srk tbokGB ⟨37, [(0, vl ePlace aList), (1, vi aYear), (7, .own 15)], [(15, oa 9 1 eS ([] : List ByteArray))]⟩ ?_
  refine swp_seq ?_
  refine srk tbokGB ⟨37, [(0, vl ePlace aList), (1, vi aYear), (7, .own 15), (8, vi 0)], [(15, oa 9 1 eS ([] : List ByteArray))]⟩ ?_
  refine swp_seqJ h (fun j2 => ⟨37, [(7, .own 7)], [(7, oa 9 1 eS j2)]⟩) (fun v3 h => ?_) (fun j2 h => ?_)
  refine swp_blk (a := v3) ?_
  refine swp_lpL (r := v3) (s := (0, ([] : List ByteArray))) _ (fun s4 => ⟨37, [(0, vl ePlace aList), (1, vi aYear), (7, .own 7), (8, vi s4.1)], [(7, oa 9 1 eS s4.2)]⟩) _ (Le.rr [15] [(15, 7)]) h (fun s4 v5 h => ?_)
  refine swp_seq ?_
  refine srk tbokGB ⟨37, [(0, vl ePlace aList), (1, vi aYear), (7, .own 7), (8, vi s4.1), (19, vb (decide (s4.1 < (aList.length : Int))))], [(7, oa 9 1 eS s4.2)]⟩ ?_
  refine swp_cd h (fun h => ?_) fun h => ?_
  refine swp_skip ?_
  refine nx_n ?_
  refine swp_seq ?_
  refine swp_seqJ h (fun j6 => ⟨37, [(0, vl ePlace aList), (1, vi aYear), (7, .own 7), (8, vi s4.1)], [(7, oa 9 1 eS j6)]⟩) (fun v7 h => ?_) (fun j6 h => ?_)
  refine swp_blk (a := v7) ?_
  refine sr ?_
  refine SRun.ck tbokGB 2 ⟨37, [(0, vl ePlace aList), (1, vi aYear), (7, .own 7), (8, vi s4.1), (22, vl ePlace aList), (23, vi s4.1)], [(7, oa 9 1 eS s4.2)]⟩ ?_
  obtain ⟨x8, hx8, h⟩ := bind_some h
  refine SRun.ls (x_index (L := aList) (f := ePlace) (ti := ti24) (tj := ti41) (e := 41) (k := .i64) tbokGB rfl hx8) ?_
  refine SRun.ck tbokGB 2 ⟨37, [(0, vl ePlace aList), (1, vi aYear), (7, .own 7), (8, vi s4.1), (25, .agg (tc ePlace x8)), (26, vi aYear)], [(7, oa 9 1 eS s4.2)]⟩ ?_
  obtain ⟨x9, hx9, h⟩ := bind_some h
  refine SRun.ls (xc ents38 (spec_l11Exists_run x8 aYear _ hx9)) ?_
  refine SRun.nx ?_
  refine swp_cd h (fun h => ?_) fun h => ?_
  refine swp_reg ?_
  refine SRun.ck tbokGB 3 ⟨37, [(0, vl ePlace aList), (1, vi aYear), (8, vi s4.1), (28, .own 7), (29, vl ePlace aList), (30, vi s4.1)], [(7, oa 9 1 eS s4.2)]⟩ ?_
  obtain ⟨x10, hx10, h⟩ := bind_some h
  refine SRun.ls (x_index (L := aList) (f := ePlace) (ti := ti24) (tj := ti41) (e := 41) (k := .i64) tbokGB rfl hx10) ?_
  refine SRun.ck tbokGB 3 ⟨37, [(0, vl ePlace aList), (1, vi aYear), (8, vi s4.1), (28, .own 7), (34, .own 34)], [(7, oa 9 1 eS s4.2), (34, oa 9 1 eS ([x10.Code] : List ByteArray))]⟩ ?_
  obtain ⟨x11, hx11, h⟩ := bind_some h
  refine SRun.estep (x_append (f := eS) (t := 53) (ti := ti53) (tj := ti9) (zs := [.string (ByteArray.mk #[])]) (e := 9) (m := 1) (d := 7) (xv := .own 34) hx11 tbokGB rfl rfl rfl rfl (x_src_o (e := 9))) ?_
  refine SRun.ck tbokGB 1 ⟨37, [(0, vl ePlace aList), (1, vi aYear), (7, .own 35), (8, vi s4.1)], [(35, oa 9 1 eS x11)]⟩ ?_
  refine SRun.nil ?_
  obtain rfl := inj h
  exact q_bn (q_j (Le.rr [35] [(35, 7)]))
  refine swp_skip ?_
  obtain rfl := inj h
  exact q_bn (q_j (Le.sub0))
  refine swp_reg ?_
  refine SRun.ck tbokGB 3 ⟨37, [(0, vl ePlace aList), (1, vi aYear), (7, .own 7), (8, vi (w64 (s4.1 + 1)))], [(7, oa 9 1 eS j6)]⟩ ?_
  refine SRun.nil ?_
  obtain rfl := inj h
  exact q_l (Le.sub0)
  refine swp_exit ?_
  obtain rfl := inj h
  exact nx_e (q_re (q_bh (q_j (Le.sub0))))
  refine srk tbokGB ⟨37, [(4, .own 7), (5, vi 0)], [(7, oa 9 1 eS j2)]⟩ ?_
  refine swp_ret ?_
  obtain rfl := inj h
  exact q_fr (f2 (fo eS_flat) fv)
theorem ents24 : Ents Tryz.prog 24 := ents_of Tryz.func24 (by kernel_rfl) rfl
noncomputable def impl_Place_isNamed_1 (aN : Name) (c0 : ByteArray) (c1 : Int) : Option (Bool) :=
  (((bif (aN.Text.toList == c0.toList) then ((impl_Span_has aN.Years c1).bind fun x1 => some x1) else some false)).bind fun (j2 : Bool) => some j2)
theorem impl_Place_isNamed_1_run (aN : Name) (c0 : ByteArray) (c1 : Int) (r : Bool) (h : impl_Place_isNamed_1 aN c0 c1 = some r) : SCall Tryz.prog 104 [.v (.agg (tc eName aN)), .v (.ptr [vs c0] 0), .v (.ptr [vi c1] 0)] ⟨[.v (vb r)], [], false⟩ := by
  refine scall_in Tryz.func104 rfl [(.tmp 4)] rfl (fun r => ⟨[.v (vb r)], [], false⟩) (r := r) ?_
  unfold impl_Place_isNamed_1 at h
  refine srk tbokGB ⟨15, [(1, .ptr [vs c0] 0), (2, .ptr [vi c1] 0), (3, .ref 3 0)], [(3, .box (tc eName aN))]⟩ ?_
  refine swp_seq ?_
  refine swp_regJ h (fun j2 => ⟨15, [(4, vb j2)], []⟩) (fun v3 h => ?_) (fun j2 h => ?_)
  refine SRun.ck tbokGB 5 ⟨15, [(2, .ptr [vi c1] 0), (3, .ref 3 0), (9, vb (aN.Text.toList == c0.toList))], [(3, .box (tc eName aN))]⟩ ?_
  refine SRun.cu [(9, fun b => b)] h (fun h => ?_) fun h => ?_
  refine SRun.ck tbokGB 3 ⟨15, [(9, vb true), (11, .agg (tc eSpan aN.Years)), (12, vi c1)], []⟩ ?_
  obtain ⟨x1, hx1, h⟩ := bind_some h
  refine SRun.ls (xc ents44 (impl_Span_has_run aN.Years c1 _ hx1)) ?_
  refine SRun.ck tbokGB 2 ⟨15, [(4, vb x1)], []⟩ ?_
  refine SRun.nil ?_
  obtain rfl := inj h
  exact Le.sub0
  refine SRun.ck tbokGB 6 ⟨15, [(4, vb false)], []⟩ ?_
  refine SRun.nil ?_
  obtain rfl := inj h
  exact Le.sub0
  refine swp_ret ?_
  obtain rfl := inj h
  exact q_fr (f1 fv)
theorem ents104 : Ents Tryz.prog 104 := ents_of Tryz.func104 (by kernel_rfl) rfl
noncomputable def slices_IndexFunc_Name_impl_Place_isNamed_1 (aS : (List Name)) (aF0 : ByteArray) (aF1 : Int) : Option (Int) :=
  (((forN (aS.length : Int) (fun (i3 : Int) (_ : Unit) => ((at' aS i3).bind fun x7 => ((impl_Place_isNamed_1 x7 aF0 aF1).bind fun x8 => (bif x8 then some (.inr (.inr i3)) else some (.inl ()))))) (fun (_ : Unit) => .inl ()) 0 ())).bind (Sum.elim (fun (_ : Unit) => some (-1)) some))
theorem slices_IndexFunc_Name_impl_Place_isNamed_1_run (aS : (List Name)) (aF0 : ByteArray) (aF1 : Int) (r : Int) (h : slices_IndexFunc_Name_impl_Place_isNamed_1 aS aF0 aF1 = some r) : SCall Tryz.prog 112 [.v (vl eName aS), .v (.clo 104 [.ptr [vs aF0] 0, .ptr [vi aF1] 0])] ⟨[.v (vi r)], [], false⟩ := by
  refine scall_in Tryz.func112 rfl [(.tmp 4)] rfl (fun r => ⟨[.v (vi r)], [], false⟩) (r := r) ?_
  unfold slices_IndexFunc_Name_impl_Place_isNamed_1 at h
  refine srk tbokGB ⟨19, [(0, vl eName aS), (1, .clo 104 [.ptr [vs aF0] 0, .ptr [vi aF1] 0])], []⟩ ?_
  refine swp_seq ?_
  refine srk tbokGB ⟨19, [(0, vl eName aS), (1, .clo 104 [.ptr [vs aF0] 0, .ptr [vi aF1] 0]), (7, vi (aS.length : Int)), (8, vi 0)], []⟩ ?_
  refine swp_seqE (r := r) h (fun j1 => ⟨19, [], []⟩) (fun v2 h => ?_) (fun j1 h => ?_)
  refine swp_blk (a := v2) ?_
  refine swp_lpL (r := v2) (s := (0, ())) _ (fun s3 => ⟨19, [(0, vl eName aS), (1, .clo 104 [.ptr [vs aF0] 0, .ptr [vi aF1] 0]), (7, vi (aS.length : Int)), (8, vi s3.1)], []⟩) _ (Le.sub0) h (fun s3 v4 h => ?_)
  refine srk tbokGB ⟨19, [(0, vl eName aS), (1, .clo 104 [.ptr [vs aF0] 0, .ptr [vi aF1] 0]), (7, vi (aS.length : Int)), (8, vi s3.1), (9, vb (decide (s3.1 < (aS.length : Int))))], []⟩ ?_
  refine swp_seq ?_
  refine swp_cd h (fun h => ?_) fun h => ?_
  refine swp_skip ?_
  refine nx_n ?_
  refine swp_seq ?_
  refine swp_seqL (r := v4) h (fun j5 => ⟨19, [(0, vl eName aS), (1, .clo 104 [.ptr [vs aF0] 0, .ptr [vi aF1] 0]), (7, vi (aS.length : Int)), (8, vi s3.1)], []⟩) (fun v6 h => ?_) (fun j5 h => ?_)
  refine swp_blk (a := v6) ?_
  refine srk tbokGB ⟨19, [(0, vl eName aS), (1, .clo 104 [.ptr [vs aF0] 0, .ptr [vi aF1] 0]), (5, vi s3.1), (7, vi (aS.length : Int)), (8, vi s3.1)], []⟩ ?_
  refine sr ?_
  refine SRun.ck tbokGB 3 ⟨19, [(0, vl eName aS), (1, .clo 104 [.ptr [vs aF0] 0, .ptr [vi aF1] 0]), (5, vi s3.1), (7, vi (aS.length : Int)), (8, vi s3.1), (11, .clo 104 [.ptr [vs aF0] 0, .ptr [vi aF1] 0]), (12, vl eName aS), (13, vi s3.1)], []⟩ ?_
  obtain ⟨x7, hx7, h⟩ := bind_some h
  refine SRun.ls (x_index (L := aS) (f := eName) (ti := ti39) (tj := ti95) (e := 95) (k := .i64) tbokGB rfl hx7) ?_
  refine SRun.ck tbokGB 1 ⟨19, [(0, vl eName aS), (1, .clo 104 [.ptr [vs aF0] 0, .ptr [vi aF1] 0]), (5, vi s3.1), (7, vi (aS.length : Int)), (8, vi s3.1), (11, .clo 104 [.ptr [vs aF0] 0, .ptr [vi aF1] 0]), (15, .agg (tc eName x7))], []⟩ ?_
  obtain ⟨x8, hx8, h⟩ := bind_some h
  refine SRun.ls (xc ents104 (impl_Place_isNamed_1_run x7 aF0 aF1 _ hx8)) ?_
  refine SRun.nx ?_
  refine swp_cd h (fun h => ?_) fun h => ?_
  refine srk tbokGB ⟨19, [(4, vi s3.1)], []⟩ ?_
  refine swp_ret ?_
  obtain rfl := inj h
  exact q_br (q_rr (q_rr (q_br (q_rr (q_fr (f1 fv))))))
  refine swp_skip ?_
  obtain rfl := inj h
  exact q_bn (q_l (Le.sub0))
  refine swp_reg ?_
  refine SRun.ck tbokGB 2 ⟨19, [(0, vl eName aS), (1, .clo 104 [.ptr [vs aF0] 0, .ptr [vi aF1] 0]), (7, vi (aS.length : Int)), (8, vi (w64 (s3.1 + 1)))], []⟩ ?_
  refine SRun.nil ?_
  obtain rfl := inj h
  exact q_l (Le.sub0)
  refine swp_exit ?_
  obtain rfl := inj h
  exact nx_e (q_re (q_bh (q_l (Le.sub0))))
  refine srk tbokGB ⟨19, [(4, vi (-1))], []⟩ ?_
  refine swp_ret ?_
  obtain rfl := inj h
  exact q_fr (f1 fv)
noncomputable def slices_ContainsFunc_Name_impl_Place_isNamed_1 (aS : (List Name)) (aF0 : ByteArray) (aF1 : Int) : Option (Bool) :=
  ((slices_IndexFunc_Name_impl_Place_isNamed_1 aS aF0 aF1).bind fun x1 => some (decide (x1 ≥ 0)))
theorem slices_ContainsFunc_Name_impl_Place_isNamed_1_run (aS : (List Name)) (aF0 : ByteArray) (aF1 : Int) (r : Bool) (h : slices_ContainsFunc_Name_impl_Place_isNamed_1 aS aF0 aF1 = some r) : SCall Tryz.prog 77 [.v (vl eName aS), .v (.clo 104 [.ptr [vs aF0] 0, .ptr [vi aF1] 0])] ⟨[.v (vb r)], [], false⟩ := by
  refine scall_in Tryz.func77 rfl [(.tmp 4)] rfl (fun r => ⟨[.v (vb r)], [], false⟩) (r := r) ?_
  unfold slices_ContainsFunc_Name_impl_Place_isNamed_1 at h
  refine srk tbokGB ⟨9, [(0, vl eName aS), (1, .clo 104 [.ptr [vs aF0] 0, .ptr [vi aF1] 0])], []⟩ ?_
  refine sr ?_
  refine SRun.ck tbokGB 2 ⟨9, [(5, vl eName aS), (6, .clo 104 [.ptr [vs aF0] 0, .ptr [vi aF1] 0])], []⟩ ?_
  obtain ⟨x1, hx1, h⟩ := bind_some h
  refine SRun.ls (xc ents112 (slices_IndexFunc_Name_impl_Place_isNamed_1_run aS aF0 aF1 _ hx1)) ?_
  refine ckn tbokGB 2 ⟨9, [(4, vb (decide (x1 ≥ 0)))], []⟩ ?_
  refine swp_ret ?_
  obtain rfl := inj h
  exact q_fr (f1 fv)
noncomputable def impl_Place_isNamed (aP : Place) (aText : ByteArray) (aYear : Int) : Option (Bool) :=
  ((slices_ContainsFunc_Name_impl_Place_isNamed_1 aP.Names aText aYear).bind fun x1 => some x1)
theorem impl_Place_isNamed_run (aP : Place) (aText : ByteArray) (aYear : Int) (r : Bool) (h : impl_Place_isNamed aP aText aYear = some r) : SCall Tryz.prog 69 [.v (.agg (tc ePlace aP)), .v (vs aText), .v (vi aYear)] ⟨[.v (vb r)], [], false⟩ := by
  refine scall_in Tryz.func69 rfl [(.tmp 6)] rfl (fun r => ⟨[.v (vb r)], [], false⟩) (r := r) ?_
  unfold impl_Place_isNamed at h
  refine srk tbokGB ⟨11, [(3, .ref 3 0), (4, .ref 4 0), (5, .ref 5 0)], [(3, .box (tc ePlace aP)), (4, .box [vs aText]), (5, .box [vi aYear])]⟩ ?_
  refine sr ?_
  refine SRun.ck tbokGB 3 ⟨11, [(8, vl eName aP.Names), (9, .clo 104 [.ref 4 0, .ref 5 0])], [(4, .box [vs aText]), (5, .box [vi aYear])]⟩ ?_
  obtain ⟨x1, hx1, h⟩ := bind_some h
  refine SRun.ls (xc ents77 (slices_ContainsFunc_Name_impl_Place_isNamed_1_run aP.Names aText aYear _ hx1)) ?_
  refine ckn tbokGB 1 ⟨11, [(6, vb x1)], []⟩ ?_
  refine swp_ret ?_
  obtain rfl := inj h
  exact q_fr (f1 fv)
theorem ents69 : Ents Tryz.prog 69 := ents_of Tryz.func69 (by kernel_rfl) rfl
noncomputable def impl_HomonymsIn_1 (aQ : Place) (c0 : Name) (c1 : Int) : Option (Bool) :=
  ((impl_Place_isNamed aQ c0.Text c1).bind fun x1 => some x1)
theorem impl_HomonymsIn_1_run (aQ : Place) (c0 : Name) (c1 : Int) (r : Bool) (h : impl_HomonymsIn_1 aQ c0 c1 = some r) : SCall Tryz.prog 68 [.v (.agg (tc ePlace aQ)), .v (.ptr [vs c0.Text, vs c0.Language, vi c0.Status, vi c0.Years.From, vi c0.Years.To] 0), .v (.ptr [vi c1] 0)] ⟨[.v (vb r)], [], false⟩ := by
  refine scall_in Tryz.func68 rfl [(.tmp 4)] rfl (fun r => ⟨[.v (vb r)], [], false⟩) (r := r) ?_
  unfold impl_HomonymsIn_1 at h
  refine srk tbokGB ⟨10, [(1, .ptr [vs c0.Text, vs c0.Language, vi c0.Status, vi c0.Years.From, vi c0.Years.To] 0), (2, .ptr [vi c1] 0), (3, .ref 3 0)], [(3, .box (tc ePlace aQ))]⟩ ?_
  refine sr ?_
  refine SRun.ck tbokGB 4 ⟨10, [(5, .agg (tc ePlace aQ)), (7, vs c0.Text), (8, vi c1)], []⟩ ?_
  obtain ⟨x1, hx1, h⟩ := bind_some h
  refine SRun.ls (xc ents69 (impl_Place_isNamed_run aQ c0.Text c1 _ hx1)) ?_
  refine ckn tbokGB 1 ⟨10, [(4, vb x1)], []⟩ ?_
  refine swp_ret ?_
  obtain rfl := inj h
  exact q_fr (f1 fv)
theorem ents68 : Ents Tryz.prog 68 := ents_of Tryz.func68 (by kernel_rfl) rfl
end Go.Proofs.YtpohkmbkohjahaaGreatDoor.Sh
