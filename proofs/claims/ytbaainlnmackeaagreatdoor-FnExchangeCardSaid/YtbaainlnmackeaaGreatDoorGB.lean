/- Typed functions and the calls that do what they say. -/
import Derived.Test.YtbaainlnmackeaaGreatDoorSE
import Derived.Test.YtbaainlnmackeaaGreatDoorKA
import Derived.Test.YtbaainlnmackeaaGreatDoorKO
import Derived.Test.YtbaainlnmackeaaGreatDoorKS
import Derived.Test.YtbaainlnmackeaaGreatDoorH1
import Derived.Test.YtbaainlnmackeaaGreatDoorGA
namespace Go.Proofs.YtbaainlnmackeaaGreatDoor.Sh
open Go.RowKit
set_option maxRecDepth 100000
set_option maxHeartbeats 4000000
structure l01Source where
  code : (List Int)
  at' : Int
  seed : Int
def el01Source (x : l01Source) : List Tr := [.sl x.code.length (x.code.map (eI .u8)), .int .i64 x.at', .int .i64 x.seed]
def ti80 : TI := ⟨3, 40, .struct [(0, 34), (1, 3), (2, 2)], [.sl ([] : List Int).length (([] : List Int).map (eI .u8)), .int .i64 0, .int .i64 0]⟩
def tblGB : Tb := [(2, ti2), (3, ti3), (4, ti4), (5, ti5), (9, ti9), (24, ti24), (27, ti27), (34, ti34), (40, ti40), (53, ti53), (80, ti80)]
theorem tbokGB : TbOk Tryz.prog tblGB := TbOk.cons ⟨by kernel_rfl, show Tryz.prog.underlying 2 = some (.int .i64) from by kernel_rfl⟩ (TbOk.cons ⟨by kernel_rfl, show Tryz.prog.underlying 3 = some (.int .i64) from by kernel_rfl⟩ (TbOk.cons ⟨by kernel_rfl, show Tryz.prog.underlying 4 = some (.bool) from by kernel_rfl⟩ (TbOk.cons ⟨by kernel_rfl, show Tryz.prog.underlying 5 = some (.int .u8) from by kernel_rfl⟩ (TbOk.cons ⟨by kernel_rfl, show Tryz.prog.underlying 9 = some (.string) from by kernel_rfl⟩ (TbOk.cons ⟨by kernel_rfl, show Tryz.prog.underlying 24 = some (.slice 9) from by kernel_rfl⟩ (TbOk.cons ⟨by kernel_rfl, show Tryz.prog.underlying 27 = some (.slice 53) from by kernel_rfl⟩ (TbOk.cons ⟨by kernel_rfl, show Tryz.prog.underlying 34 = some (.slice 5) from by kernel_rfl⟩ (TbOk.cons ⟨by kernel_rfl, show Tryz.prog.underlying 40 = some (.slice 2) from by kernel_rfl⟩ (TbOk.cons ⟨by kernel_rfl, show structOf Tryz.prog 53 = some [(0, 2), (1, 2), (2, 9), (3, 9), (4, 40)] from by kernel_rfl⟩ (TbOk.cons ⟨by kernel_rfl, show structOf Tryz.prog 80 = some [(0, 34), (1, 3), (2, 2)] from by kernel_rfl⟩ (TbOk.nil _)))))))))))
noncomputable def laws_big (aCode : (List Int)) : Option (Bool) :=
  some (decide ((aCode.length : Int) > 4096))
theorem laws_big_run (aCode : (List Int)) (r : Bool) (h : laws_big aCode = some r) : SCall Tryz.prog 14 [.v (vl (eI .u8) aCode)] ⟨[.v (vb r)], [], false⟩ := by
  refine scall_in Tryz.func14 rfl [(.tmp 2)] rfl (fun r => ⟨[.v (vb r)], [], false⟩) (r := r) ?_
  unfold laws_big at h
  refine srk tbokGB ⟨6, [(0, vl (eI .u8) aCode)], []⟩ ?_
  refine srk tbokGB ⟨6, [(2, vb (decide ((aCode.length : Int) > 4096)))], []⟩ ?_
  refine swp_ret ?_
  obtain rfl := inj h
  exact q_fr (f1 fv)
theorem ents14 : Ents Tryz.prog 14 := ents_of Tryz.func14 (by kernel_rfl) rfl
noncomputable def spec_l01From (aCode : (List Int)) : Option (l01Source) :=
  (((forH (fun (i3 : Int) (_ : l01Source) => ((decide (i3 < (aCode.length : Int))) && (decide (i3 < 64)))) (fun (i3 : Int) (s3 : l01Source) => ((at' aCode i3).bind fun x7 => some (l01Source.mk s3.code s3.at' (Int.tmod (w64 ((w64 (s3.seed * 73)) + (w64 x7))) 2147483647)))) (fun (s3 : l01Source) => s3) 0 (l01Source.mk aCode 0 51031))).bind fun (j1 : l01Source) => some j1)
theorem spec_l01From_run (aCode : (List Int)) (r : l01Source) (h : spec_l01From aCode = some r) : SCall Tryz.prog 37 [.v (vl (eI .u8) aCode)] ⟨[.box [vl (eI .u8) r.code, vi r.at', vi r.seed]], [], true⟩ := by
  refine scall_in Tryz.func37 rfl [(.tmp 2)] rfl (fun r => ⟨[.box [vl (eI .u8) r.code, vi r.at', vi r.seed]], [], true⟩) (r := r) ?_
  unfold spec_l01From at h
  refine sr ?_
  refine SRun.ls (x_lstep_skip rfl) ?_
  refine SRun.nx ?_
  refine sr ?_
  refine SRun.ck tbokGB 1 ⟨34, [(0, vl (eI .u8) aCode), (5, vl (eI .u8) aCode)], []⟩ ?_
  refine SRun.ls (x_lstep_build (v := .agg [vl (eI .u8) aCode, vi 0, vi 51031]) tbokGB rfl) ?_
  refine ckn tbokGB 2 ⟨34, [(0, vl (eI .u8) aCode), (3, .ref 7 0)], [(7, .box [vl (eI .u8) aCode, vi 0, vi 51031])]⟩ ?_
  refine swp_seq ?_
  refine srk tbokGB ⟨34, [(0, vl (eI .u8) aCode), (3, .ref 7 0), (4, vi 0)], [(7, .box [vl (eI .u8) aCode, vi 0, vi 51031])]⟩ ?_
  refine swp_seqJ h (fun j1 => ⟨34, [(3, .ref 7 0)], [(7, .box (tc el01Source j1))]⟩) (fun v2 h => ?_) (fun j1 h => ?_)
  refine swp_blk (a := v2) ?_
  refine swp_lpL (r := v2) (s := (0, (l01Source.mk aCode 0 51031))) _ (fun s3 => ⟨34, [(0, vl (eI .u8) aCode), (3, .ref 7 0), (4, vi s3.1)], [(7, .box (tc el01Source s3.2))]⟩) _ (Le.sub0) h (fun s3 v4 h => ?_)
  refine swp_seq ?_
  refine swp_seq ?_
  refine swp_regP ⟨34, [(0, vl (eI .u8) aCode), (3, .ref 7 0), (4, vi s3.1), (15, vb ((decide (s3.1 < (aCode.length : Int))) && (decide (s3.1 < 64))))], [(7, .box (tc el01Source s3.2))]⟩ ?_ ?_
  refine SRun.ck tbokGB 5 ⟨34, [(0, vl (eI .u8) aCode), (3, .ref 7 0), (4, vi s3.1), (12, vb (decide (s3.1 < (aCode.length : Int))))], [(7, .box (tc el01Source s3.2))]⟩ ?_
  generalize (decide (s3.1 < (aCode.length : Int))) = bb
  cases bb
  refine SRun.ck tbokGB 3 ⟨34, [(0, vl (eI .u8) aCode), (3, .ref 7 0), (4, vi s3.1), (15, vb false)], [(7, .box (tc el01Source s3.2))]⟩ ?_
  exact SRun.nil (Le.sub0)
  refine SRun.ck tbokGB 3 ⟨34, [(0, vl (eI .u8) aCode), (3, .ref 7 0), (4, vi s3.1), (15, vb (decide (s3.1 < 64)))], [(7, .box (tc el01Source s3.2))]⟩ ?_
  exact SRun.nil (Le.sub0)
  refine swp_cd h (fun h => ?_) fun h => ?_
  refine swp_skip ?_
  refine nx_n ?_
  refine swp_seq ?_
  refine swp_seqJ h (fun j5 => ⟨34, [(0, vl (eI .u8) aCode), (3, .ref 7 0), (4, vi s3.1)], [(7, .box (tc el01Source j5))]⟩) (fun v6 h => ?_) (fun j5 h => ?_)
  refine swp_blk (a := v6) ?_
  refine swp_dr mixed ?_
  refine DGo.ck tbokGB false 8 ⟨34, [(0, vl (eI .u8) aCode), (3, .ref 7 0), (4, vi s3.1), (18, .ref 7 0), (23, vi (w64 (s3.2.seed * 73))), (24, vl (eI .u8) aCode), (25, vi s3.1)], [(7, .box (tc el01Source s3.2))]⟩ ?_
  obtain ⟨x7, hx7, h⟩ := bind_some h
  refine DGo.step (x_index (L := aCode) (f := (eI .u8)) (ti := ti34) (tj := ti5) (e := 5) (k := .i64) tbokGB rfl hx7) ?_
  refine DGo.ck tbokGB false 6 ⟨34, [(0, vl (eI .u8) aCode), (3, .ref 7 0), (4, vi s3.1), (30, vi (Int.tmod (w64 ((w64 (s3.2.seed * 73)) + (w64 x7))) 2147483647)), (32, .ref 7 2)], [(7, .box (tc el01Source s3.2))]⟩ ?_
  refine DGo.seq (by kernel_rfl) (by kernel_rfl) ?_
  refine SRun.ck tbokGB 1 ⟨34, [(0, vl (eI .u8) aCode), (3, .ref 7 0), (4, vi s3.1)], [(7, .box [vl (eI .u8) s3.2.code, vi s3.2.at', vi (Int.tmod (w64 ((w64 (s3.2.seed * 73)) + (w64 x7))) 2147483647)])]⟩ ?_
  refine SRun.nil ?_
  obtain rfl := inj h
  exact q_bn (q_j (Le.sub0))
  refine swp_reg ?_
  refine SRun.ck tbokGB 3 ⟨34, [(0, vl (eI .u8) aCode), (3, .ref 7 0), (4, vi (w64 (s3.1 + 1)))], [(7, .box (tc el01Source j5))]⟩ ?_
  refine SRun.nil ?_
  obtain rfl := inj h
  exact q_l (Le.sub0)
  refine swp_exit ?_
  obtain rfl := inj h
  exact nx_e (q_re (q_bh (q_j (Le.sub0))))
  refine srk tbokGB ⟨34, [(2, .ref 7 0)], [(7, .box (tc el01Source j1))]⟩ ?_
  refine swp_ret ?_
  obtain rfl := inj h
  exact q_fr (f1 (finBT (d := 7) (holds_t (by kernel_rfl)) (by kernel_rfl) rfl (by kernel_rfl)))
theorem ents37 : Ents Tryz.prog 37 := ents_of Tryz.func37 (by kernel_rfl) rfl
noncomputable def spec_l01Next (aS : l01Source) (aN : Int) : Option (Int × l01Source) :=
  (bif (decide (aN ≤ 1)) then some (0, aS) else (((bif (decide (aS.at' < (aS.code.length : Int))) then ((at' aS.code aS.at').bind fun x3 => (bif ((decide (aN ≤ 256)) && ((Int.tmod (w64 (aS.at' + 1)) 2) == 0)) then ((at' aS.code (w64 ((w64 (aS.at' + 1)) - 1))).bind fun x4 => some ((w64 x4), (l01Source.mk aS.code (w64 (aS.at' + 1)) (Int.tmod (w64 ((w64 (aS.seed * 48271)) + 29)) 2147483647)))) else some ((w64 ((w64 (Int.tdiv (Int.tmod (w64 ((w64 (aS.seed * 48271)) + 29)) 2147483647) 31)) + (w64 x3))), (l01Source.mk aS.code (w64 (aS.at' + 1)) (Int.tmod (w64 ((w64 (aS.seed * 48271)) + 29)) 2147483647))))) else some ((w64 (Int.tdiv (Int.tmod (w64 ((w64 (aS.seed * 48271)) + 29)) 2147483647) 31)), (l01Source.mk aS.code aS.at' (Int.tmod (w64 ((w64 (aS.seed * 48271)) + 29)) 2147483647))))).bind fun (j1 : Int × l01Source) => ((nz' aN).bind fun _ => some ((Int.tmod j1.1 aN), j1.2))))
theorem spec_l01Next_run (aS : l01Source) (aN : Int) (r : Int × l01Source) (h : spec_l01Next aS aN = some r) : SCall Tryz.prog 38 [.o (.box [vl (eI .u8) aS.code, vi aS.at', vi aS.seed]), .v (vi aN)] ⟨[.v (vi r.1)], [(0, .box (tc el01Source r.2))], false⟩ := by
  refine scall_in Tryz.func38 rfl [(.tmp 4)] rfl (fun r => ⟨[.v (vi r.1)], [(0, .box (tc el01Source r.2))], false⟩) (r := r) ?_
  unfold spec_l01Next at h
  refine srk tbokGB ⟨78, [(0, .ref 1000000 0), (1, vi aN)], [(1000000, .box (tc el01Source aS))]⟩ ?_
  refine swp_seq ?_
  refine srk tbokGB ⟨78, [(0, .ref 1000000 0), (1, vi aN), (7, vb (decide (aN ≤ 1)))], [(1000000, .box (tc el01Source aS))]⟩ ?_
  refine swp_cd h (fun h => ?_) fun h => ?_
  refine srk tbokGB ⟨78, [(4, vi 0)], [(1000000, .box (tc el01Source aS))]⟩ ?_
  refine swp_ret ?_
  obtain rfl := inj h
  exact nx_r (q_fr (fin_io (f1 fv) (y := .box (tc el01Source aS)) (by kernel_rfl) rfl (by kernel_rfl) (by kernel_rfl)))
  refine swp_skip ?_
  refine nx_n ?_
  refine srk tbokGB ⟨78, [(0, .ref 1000000 0), (1, vi aN)], [(1000000, .box [vl (eI .u8) aS.code, vi aS.at', vi (Int.tmod (w64 ((w64 (aS.seed * 48271)) + 29)) 2147483647)])]⟩ ?_
  refine srk tbokGB ⟨78, [(0, .ref 1000000 0), (1, vi aN), (5, vi (w64 (Int.tdiv (Int.tmod (w64 ((w64 (aS.seed * 48271)) + 29)) 2147483647) 31)))], [(1000000, .box [vl (eI .u8) aS.code, vi aS.at', vi (Int.tmod (w64 ((w64 (aS.seed * 48271)) + 29)) 2147483647)])]⟩ ?_
  refine swp_seq ?_
  refine swp_seq ?_
  refine swp_dr mixed ?_
  refine DGo.ck tbokGB false 10 ⟨78, [(0, .ref 1000000 0), (1, vi aN), (5, vi (w64 (Int.tdiv (Int.tmod (w64 ((w64 (aS.seed * 48271)) + 29)) 2147483647) 31))), (32, vb (decide (aS.at' < (aS.code.length : Int))))], [(1000000, .box [vl (eI .u8) aS.code, vi aS.at', vi (Int.tmod (w64 ((w64 (aS.seed * 48271)) + 29)) 2147483647)])]⟩ ?_
  refine DGo.nx ?_
  refine swp_seqJ h (fun j1 => ⟨78, [(1, vi aN), (5, vi j1.1)], [(1000000, .box (tc el01Source j1.2))]⟩) (fun v2 h => ?_) (fun j1 h => ?_)
  refine swp_cd h (fun h => ?_) fun h => ?_
  refine swp_seq ?_
  refine swp_dr mixed ?_
  refine DGo.ck tbokGB false 9 ⟨78, [(0, .ref 1000000 0), (1, vi aN), (33, vi (w64 (Int.tdiv (Int.tmod (w64 ((w64 (aS.seed * 48271)) + 29)) 2147483647) 31))), (37, vl (eI .u8) aS.code), (41, vi aS.at')], [(1000000, .box [vl (eI .u8) aS.code, vi aS.at', vi (Int.tmod (w64 ((w64 (aS.seed * 48271)) + 29)) 2147483647)])]⟩ ?_
  obtain ⟨x3, hx3, h⟩ := bind_some h
  refine DGo.step (x_index (L := aS.code) (f := (eI .u8)) (ti := ti34) (tj := ti5) (e := 5) (k := .i64) tbokGB rfl hx3) ?_
  refine DGo.ck tbokGB false 4 ⟨78, [(0, .ref 1000000 0), (1, vi aN), (5, vi (w64 ((w64 (Int.tdiv (Int.tmod (w64 ((w64 (aS.seed * 48271)) + 29)) 2147483647) 31)) + (w64 x3))))], [(1000000, .box [vl (eI .u8) aS.code, vi aS.at', vi (Int.tmod (w64 ((w64 (aS.seed * 48271)) + 29)) 2147483647)])]⟩ ?_
  refine DGo.nx ?_
  refine srk tbokGB ⟨78, [(0, .ref 1000000 0), (1, vi aN), (5, vi (w64 ((w64 (Int.tdiv (Int.tmod (w64 ((w64 (aS.seed * 48271)) + 29)) 2147483647) 31)) + (w64 x3))))], [(1000000, .box [vl (eI .u8) aS.code, vi (w64 (aS.at' + 1)), vi (Int.tmod (w64 ((w64 (aS.seed * 48271)) + 29)) 2147483647)])]⟩ ?_
  refine swp_seq ?_
  refine swp_regP ⟨78, [(0, .ref 1000000 0), (1, vi aN), (5, vi (w64 ((w64 (Int.tdiv (Int.tmod (w64 ((w64 (aS.seed * 48271)) + 29)) 2147483647) 31)) + (w64 x3)))), (62, vb ((decide (aN ≤ 256)) && ((Int.tmod (w64 (aS.at' + 1)) 2) == 0)))], [(1000000, .box [vl (eI .u8) aS.code, vi (w64 (aS.at' + 1)), vi (Int.tmod (w64 ((w64 (aS.seed * 48271)) + 29)) 2147483647)])]⟩ ?_ ?_
  refine SRun.ck tbokGB 3 ⟨78, [(0, .ref 1000000 0), (1, vi aN), (5, vi (w64 ((w64 (Int.tdiv (Int.tmod (w64 ((w64 (aS.seed * 48271)) + 29)) 2147483647) 31)) + (w64 x3)))), (55, vb (decide (aN ≤ 256)))], [(1000000, .box [vl (eI .u8) aS.code, vi (w64 (aS.at' + 1)), vi (Int.tmod (w64 ((w64 (aS.seed * 48271)) + 29)) 2147483647)])]⟩ ?_
  generalize (decide (aN ≤ 256)) = bb
  cases bb
  refine SRun.ck tbokGB 7 ⟨78, [(0, .ref 1000000 0), (1, vi aN), (5, vi (w64 ((w64 (Int.tdiv (Int.tmod (w64 ((w64 (aS.seed * 48271)) + 29)) 2147483647) 31)) + (w64 x3)))), (62, vb false)], [(1000000, .box [vl (eI .u8) aS.code, vi (w64 (aS.at' + 1)), vi (Int.tmod (w64 ((w64 (aS.seed * 48271)) + 29)) 2147483647)])]⟩ ?_
  exact SRun.nil (Le.sub0)
  refine SRun.ck tbokGB 7 ⟨78, [(0, .ref 1000000 0), (1, vi aN), (5, vi (w64 ((w64 (Int.tdiv (Int.tmod (w64 ((w64 (aS.seed * 48271)) + 29)) 2147483647) 31)) + (w64 x3)))), (62, vb ((Int.tmod (w64 (aS.at' + 1)) 2) == 0))], [(1000000, .box [vl (eI .u8) aS.code, vi (w64 (aS.at' + 1)), vi (Int.tmod (w64 ((w64 (aS.seed * 48271)) + 29)) 2147483647)])]⟩ ?_
  exact SRun.nil (Le.sub0)
  refine swp_cd h (fun h => ?_) fun h => ?_
  refine swp_dr mixed ?_
  refine DGo.ck tbokGB false 9 ⟨78, [(1, vi aN), (66, vl (eI .u8) aS.code), (71, vi (w64 ((w64 (aS.at' + 1)) - 1)))], [(1000000, .box [vl (eI .u8) aS.code, vi (w64 (aS.at' + 1)), vi (Int.tmod (w64 ((w64 (aS.seed * 48271)) + 29)) 2147483647)])]⟩ ?_
  obtain ⟨x4, hx4, h⟩ := bind_some h
  refine DGo.step (x_index (L := aS.code) (f := (eI .u8)) (ti := ti34) (tj := ti5) (e := 5) (k := .i64) tbokGB rfl hx4) ?_
  refine DGo.ck tbokGB false 3 ⟨78, [(1, vi aN), (5, vi (w64 x4))], [(1000000, .box [vl (eI .u8) aS.code, vi (w64 (aS.at' + 1)), vi (Int.tmod (w64 ((w64 (aS.seed * 48271)) + 29)) 2147483647)])]⟩ ?_
  refine DGo.nil (by kernel_rfl) ?_
  obtain rfl := inj h
  exact q_j (Le.sub0)
  refine swp_skip ?_
  obtain rfl := inj h
  exact q_j (Le.sub0)
  refine swp_skip ?_
  obtain rfl := inj h
  exact q_j (Le.sub0)
  refine sr ?_
  refine SRun.ck tbokGB 2 ⟨78, [(75, vi j1.1), (76, vi aN)], [(1000000, .box (tc el01Source j1.2))]⟩ ?_
  obtain ⟨x5, hx5, h⟩ := bind_some h
  refine SRun.ls (x_lstep_quo (k := .i64) (i := j1.1) hx5 true rfl) ?_
  refine ckn tbokGB 1 ⟨78, [(4, vi (Int.tmod j1.1 aN))], [(1000000, .box (tc el01Source j1.2))]⟩ ?_
  refine swp_ret ?_
  obtain rfl := inj h
  exact q_fr (fin_io (f1 fv) (y := .box (tc el01Source j1.2)) (by kernel_rfl) rfl (by kernel_rfl) (by kernel_rfl))
theorem ents38 : Ents Tryz.prog 38 := ents_of Tryz.func38 (by kernel_rfl) rfl
noncomputable def spec_l01Good (aS : l01Source) : Option (ByteArray × l01Source) :=
  ((spec_l01Next aS 3).bind fun x1 => (((loop (fun (s4 : ByteArray × Int × l01Source) => (bif (decide (s4.2.1 > 0)) then ((((spec_l01Next s4.2.2 (([(ByteArray.mk #[97, 115, 104]), (ByteArray.mk #[102, 111, 114, 100]), (ByteArray.mk #[116, 111, 110]), (ByteArray.mk #[98, 121]), (ByteArray.mk #[107, 105, 114, 107]), (ByteArray.mk #[104, 97, 114]), (ByteArray.mk #[119, 105, 99, 107]), (ByteArray.mk #[101, 108, 121]), (ByteArray.mk #[111, 115]), (ByteArray.mk #[108, 111]), (ByteArray.mk #[98, 114, 105, 103]), (ByteArray.mk #[109, 97]), (ByteArray.mk #[114, 105]), (ByteArray.mk #[110, 97]), (ByteArray.mk #[115, 116]), (ByteArray.mk #[97, 101])] : List ByteArray).length : Int)).bind fun x8 => ((at' ([(ByteArray.mk #[97, 115, 104]), (ByteArray.mk #[102, 111, 114, 100]), (ByteArray.mk #[116, 111, 110]), (ByteArray.mk #[98, 121]), (ByteArray.mk #[107, 105, 114, 107]), (ByteArray.mk #[104, 97, 114]), (ByteArray.mk #[119, 105, 99, 107]), (ByteArray.mk #[101, 108, 121]), (ByteArray.mk #[111, 115]), (ByteArray.mk #[108, 111]), (ByteArray.mk #[98, 114, 105, 103]), (ByteArray.mk #[109, 97]), (ByteArray.mk #[114, 105]), (ByteArray.mk #[110, 97]), (ByteArray.mk #[115, 116]), (ByteArray.mk #[97, 101])] : List ByteArray) x8.1).bind fun x9 => ((cat' s4.1 x9).bind fun x10 => some (x10, x8.2))))).bind fun (j6 : ByteArray × l01Source) => some (.inl (j6.1, (w64 (s4.2.1 - 1)), j6.2))) else some (.inr (s4.1, s4.2.2)))) ((ByteArray.mk #[]), (w64 (1 + x1.1)), x1.2))).bind fun (j2 : ByteArray × l01Source) => some (j2.1, j2.2)))
theorem spec_l01Good_run (aS : l01Source) (r : ByteArray × l01Source) (h : spec_l01Good aS = some r) : SCall Tryz.prog 83 [.o (.box [vl (eI .u8) aS.code, vi aS.at', vi aS.seed])] ⟨[.v (vs r.1)], [(0, .box (tc el01Source r.2))], false⟩ := by
  refine scall_in Tryz.func83 rfl [(.tmp 2)] rfl (fun r => ⟨[.v (vs r.1)], [(0, .box (tc el01Source r.2))], false⟩) (r := r) ?_
  unfold spec_l01Good at h
  refine srk tbokGB ⟨24, [(0, .ref 1000000 0)], [(1000000, .box (tc el01Source aS))]⟩ ?_
  refine srk tbokGB ⟨24, [(0, .ref 1000000 0), (3, .own 6)], [(6, oa 9 1 eS ([(ByteArray.mk #[97, 115, 104]), (ByteArray.mk #[102, 111, 114, 100]), (ByteArray.mk #[116, 111, 110]), (ByteArray.mk #[98, 121]), (ByteArray.mk #[107, 105, 114, 107]), (ByteArray.mk #[104, 97, 114]), (ByteArray.mk #[119, 105, 99, 107]), (ByteArray.mk #[101, 108, 121]), (ByteArray.mk #[111, 115]), (ByteArray.mk #[108, 111]), (ByteArray.mk #[98, 114, 105, 103]), (ByteArray.mk #[109, 97]), (ByteArray.mk #[114, 105]), (ByteArray.mk #[110, 97]), (ByteArray.mk #[115, 116]), (ByteArray.mk #[97, 101])] : List ByteArray)), (1000000, .box (tc el01Source aS))]⟩ ?_
  refine srk tbokGB ⟨24, [(0, .ref 1000000 0), (3, .own 6), (4, vs (ByteArray.mk #[]))], [(6, oa 9 1 eS ([(ByteArray.mk #[97, 115, 104]), (ByteArray.mk #[102, 111, 114, 100]), (ByteArray.mk #[116, 111, 110]), (ByteArray.mk #[98, 121]), (ByteArray.mk #[107, 105, 114, 107]), (ByteArray.mk #[104, 97, 114]), (ByteArray.mk #[119, 105, 99, 107]), (ByteArray.mk #[101, 108, 121]), (ByteArray.mk #[111, 115]), (ByteArray.mk #[108, 111]), (ByteArray.mk #[98, 114, 105, 103]), (ByteArray.mk #[109, 97]), (ByteArray.mk #[114, 105]), (ByteArray.mk #[110, 97]), (ByteArray.mk #[115, 116]), (ByteArray.mk #[97, 101])] : List ByteArray)), (1000000, .box (tc el01Source aS))]⟩ ?_
  refine swp_seq ?_
  refine sr ?_
  refine SRun.ck tbokGB 1 ⟨24, [(0, .ref 1000000 0), (3, .own 6), (4, vs (ByteArray.mk #[])), (7, .ref 1000000 0)], [(6, oa 9 1 eS ([(ByteArray.mk #[97, 115, 104]), (ByteArray.mk #[102, 111, 114, 100]), (ByteArray.mk #[116, 111, 110]), (ByteArray.mk #[98, 121]), (ByteArray.mk #[107, 105, 114, 107]), (ByteArray.mk #[104, 97, 114]), (ByteArray.mk #[119, 105, 99, 107]), (ByteArray.mk #[101, 108, 121]), (ByteArray.mk #[111, 115]), (ByteArray.mk #[108, 111]), (ByteArray.mk #[98, 114, 105, 103]), (ByteArray.mk #[109, 97]), (ByteArray.mk #[114, 105]), (ByteArray.mk #[110, 97]), (ByteArray.mk #[115, 116]), (ByteArray.mk #[97, 101])] : List ByteArray)), (1000000, .box (tc el01Source aS))]⟩ ?_
  obtain ⟨x1, hx1, h⟩ := bind_some h
  refine SRun.estep (xe ents38 (spec_l01Next_run aS 3 _ hx1)) ?_
  refine ckn tbokGB 2 ⟨24, [(0, .ref 1000000 0), (3, .own 6), (4, vs (ByteArray.mk #[])), (5, vi (w64 (1 + x1.1)))], [(6, oa 9 1 eS ([(ByteArray.mk #[97, 115, 104]), (ByteArray.mk #[102, 111, 114, 100]), (ByteArray.mk #[116, 111, 110]), (ByteArray.mk #[98, 121]), (ByteArray.mk #[107, 105, 114, 107]), (ByteArray.mk #[104, 97, 114]), (ByteArray.mk #[119, 105, 99, 107]), (ByteArray.mk #[101, 108, 121]), (ByteArray.mk #[111, 115]), (ByteArray.mk #[108, 111]), (ByteArray.mk #[98, 114, 105, 103]), (ByteArray.mk #[109, 97]), (ByteArray.mk #[114, 105]), (ByteArray.mk #[110, 97]), (ByteArray.mk #[115, 116]), (ByteArray.mk #[97, 101])] : List ByteArray)), (1000000, .box (tc el01Source x1.2))]⟩ ?_
  refine swp_seqJ h (fun j2 => ⟨24, [(4, vs j2.1)], [(1000000, .box (tc el01Source j2.2))]⟩) (fun v3 h => ?_) (fun j2 h => ?_)
  refine swp_blk (a := v3) ?_
  refine swp_lpL (r := v3) (s := ((ByteArray.mk #[]), (w64 (1 + x1.1)), x1.2)) _ (fun s4 => ⟨24, [(0, .ref 1000000 0), (3, .own 3), (4, vs s4.1), (5, vi s4.2.1)], [(3, oa 9 1 eS ([(ByteArray.mk #[97, 115, 104]), (ByteArray.mk #[102, 111, 114, 100]), (ByteArray.mk #[116, 111, 110]), (ByteArray.mk #[98, 121]), (ByteArray.mk #[107, 105, 114, 107]), (ByteArray.mk #[104, 97, 114]), (ByteArray.mk #[119, 105, 99, 107]), (ByteArray.mk #[101, 108, 121]), (ByteArray.mk #[111, 115]), (ByteArray.mk #[108, 111]), (ByteArray.mk #[98, 114, 105, 103]), (ByteArray.mk #[109, 97]), (ByteArray.mk #[114, 105]), (ByteArray.mk #[110, 97]), (ByteArray.mk #[115, 116]), (ByteArray.mk #[97, 101])] : List ByteArray)), (1000000, .box (tc el01Source s4.2.2))]⟩) _ (Le.rr [6, 1000000] [(6, 3)]) h (fun s4 v5 h => ?_)
  refine swp_seq ?_
  refine srk tbokGB ⟨24, [(0, .ref 1000000 0), (3, .own 3), (4, vs s4.1), (5, vi s4.2.1), (11, vb (decide (s4.2.1 > 0)))], [(3, oa 9 1 eS ([(ByteArray.mk #[97, 115, 104]), (ByteArray.mk #[102, 111, 114, 100]), (ByteArray.mk #[116, 111, 110]), (ByteArray.mk #[98, 121]), (ByteArray.mk #[107, 105, 114, 107]), (ByteArray.mk #[104, 97, 114]), (ByteArray.mk #[119, 105, 99, 107]), (ByteArray.mk #[101, 108, 121]), (ByteArray.mk #[111, 115]), (ByteArray.mk #[108, 111]), (ByteArray.mk #[98, 114, 105, 103]), (ByteArray.mk #[109, 97]), (ByteArray.mk #[114, 105]), (ByteArray.mk #[110, 97]), (ByteArray.mk #[115, 116]), (ByteArray.mk #[97, 101])] : List ByteArray)), (1000000, .box (tc el01Source s4.2.2))]⟩ ?_
  refine swp_cd h (fun h => ?_) fun h => ?_
  refine swp_skip ?_
  refine nx_n ?_
  refine swp_seq ?_
  refine swp_seqJ h (fun j6 => ⟨24, [(0, .ref 1000000 0), (3, .own 3), (4, vs j6.1), (5, vi s4.2.1)], [(3, oa 9 1 eS ([(ByteArray.mk #[97, 115, 104]), (ByteArray.mk #[102, 111, 114, 100]), (ByteArray.mk #[116, 111, 110]), (ByteArray.mk #[98, 121]), (ByteArray.mk #[107, 105, 114, 107]), (ByteArray.mk #[104, 97, 114]), (ByteArray.mk #[119, 105, 99, 107]), (ByteArray.mk #[101, 108, 121]), (ByteArray.mk #[111, 115]), (ByteArray.mk #[108, 111]), (ByteArray.mk #[98, 114, 105, 103]), (ByteArray.mk #[109, 97]), (ByteArray.mk #[114, 105]), (ByteArray.mk #[110, 97]), (ByteArray.mk #[115, 116]), (ByteArray.mk #[97, 101])] : List ByteArray)), (1000000, .box (tc el01Source j6.2))]⟩) (fun v7 h => ?_) (fun j6 h => ?_)
  refine swp_blk (a := v7) ?_
  refine swp_reg ?_
  refine SRun.ck tbokGB 5 ⟨24, [(0, .ref 1000000 0), (3, .own 3), (5, vi s4.2.1), (14, vs s4.1), (15, .own 3), (16, .ref 1000000 0), (18, vi (([(ByteArray.mk #[97, 115, 104]), (ByteArray.mk #[102, 111, 114, 100]), (ByteArray.mk #[116, 111, 110]), (ByteArray.mk #[98, 121]), (ByteArray.mk #[107, 105, 114, 107]), (ByteArray.mk #[104, 97, 114]), (ByteArray.mk #[119, 105, 99, 107]), (ByteArray.mk #[101, 108, 121]), (ByteArray.mk #[111, 115]), (ByteArray.mk #[108, 111]), (ByteArray.mk #[98, 114, 105, 103]), (ByteArray.mk #[109, 97]), (ByteArray.mk #[114, 105]), (ByteArray.mk #[110, 97]), (ByteArray.mk #[115, 116]), (ByteArray.mk #[97, 101])] : List ByteArray).length : Int))], [(3, oa 9 1 eS ([(ByteArray.mk #[97, 115, 104]), (ByteArray.mk #[102, 111, 114, 100]), (ByteArray.mk #[116, 111, 110]), (ByteArray.mk #[98, 121]), (ByteArray.mk #[107, 105, 114, 107]), (ByteArray.mk #[104, 97, 114]), (ByteArray.mk #[119, 105, 99, 107]), (ByteArray.mk #[101, 108, 121]), (ByteArray.mk #[111, 115]), (ByteArray.mk #[108, 111]), (ByteArray.mk #[98, 114, 105, 103]), (ByteArray.mk #[109, 97]), (ByteArray.mk #[114, 105]), (ByteArray.mk #[110, 97]), (ByteArray.mk #[115, 116]), (ByteArray.mk #[97, 101])] : List ByteArray)), (1000000, .box (tc el01Source s4.2.2))]⟩ ?_
  obtain ⟨x8, hx8, h⟩ := bind_some h
  refine SRun.estep (xe ents38 (spec_l01Next_run s4.2.2 (([(ByteArray.mk #[97, 115, 104]), (ByteArray.mk #[102, 111, 114, 100]), (ByteArray.mk #[116, 111, 110]), (ByteArray.mk #[98, 121]), (ByteArray.mk #[107, 105, 114, 107]), (ByteArray.mk #[104, 97, 114]), (ByteArray.mk #[119, 105, 99, 107]), (ByteArray.mk #[101, 108, 121]), (ByteArray.mk #[111, 115]), (ByteArray.mk #[108, 111]), (ByteArray.mk #[98, 114, 105, 103]), (ByteArray.mk #[109, 97]), (ByteArray.mk #[114, 105]), (ByteArray.mk #[110, 97]), (ByteArray.mk #[115, 116]), (ByteArray.mk #[97, 101])] : List ByteArray).length : Int) _ hx8)) ?_
  obtain ⟨x9, hx9, h⟩ := bind_some h
  refine SRun.ls (x_index_own (d := 3) (L := ([(ByteArray.mk #[97, 115, 104]), (ByteArray.mk #[102, 111, 114, 100]), (ByteArray.mk #[116, 111, 110]), (ByteArray.mk #[98, 121]), (ByteArray.mk #[107, 105, 114, 107]), (ByteArray.mk #[104, 97, 114]), (ByteArray.mk #[119, 105, 99, 107]), (ByteArray.mk #[101, 108, 121]), (ByteArray.mk #[111, 115]), (ByteArray.mk #[108, 111]), (ByteArray.mk #[98, 114, 105, 103]), (ByteArray.mk #[109, 97]), (ByteArray.mk #[114, 105]), (ByteArray.mk #[110, 97]), (ByteArray.mk #[115, 116]), (ByteArray.mk #[97, 101])] : List ByteArray)) (f := eS) (ti := ti24) (tj := ti9) (e := 9) (e' := 9) (m := 1) (k := .i64) tbokGB rfl hx9) ?_
  refine SRun.ls (x_load_own (d := 3) (m := 1) (j := 0) (L := ([(ByteArray.mk #[97, 115, 104]), (ByteArray.mk #[102, 111, 114, 100]), (ByteArray.mk #[116, 111, 110]), (ByteArray.mk #[98, 121]), (ByteArray.mk #[107, 105, 114, 107]), (ByteArray.mk #[104, 97, 114]), (ByteArray.mk #[119, 105, 99, 107]), (ByteArray.mk #[101, 108, 121]), (ByteArray.mk #[111, 115]), (ByteArray.mk #[108, 111]), (ByteArray.mk #[98, 114, 105, 103]), (ByteArray.mk #[109, 97]), (ByteArray.mk #[114, 105]), (ByteArray.mk #[110, 97]), (ByteArray.mk #[115, 116]), (ByteArray.mk #[97, 101])] : List ByteArray)) (f := eS) (ti := ti9) (e := 9) (v := vs x9) tbokGB rfl hx9) ?_
  obtain ⟨x10, hx10, h⟩ := bind_some h
  refine SRun.ls (x_cat hx10 rfl) ?_
  refine SRun.ck tbokGB 1 ⟨24, [(0, .ref 1000000 0), (3, .own 3), (4, vs x10), (5, vi s4.2.1)], [(3, oa 9 1 eS ([(ByteArray.mk #[97, 115, 104]), (ByteArray.mk #[102, 111, 114, 100]), (ByteArray.mk #[116, 111, 110]), (ByteArray.mk #[98, 121]), (ByteArray.mk #[107, 105, 114, 107]), (ByteArray.mk #[104, 97, 114]), (ByteArray.mk #[119, 105, 99, 107]), (ByteArray.mk #[101, 108, 121]), (ByteArray.mk #[111, 115]), (ByteArray.mk #[108, 111]), (ByteArray.mk #[98, 114, 105, 103]), (ByteArray.mk #[109, 97]), (ByteArray.mk #[114, 105]), (ByteArray.mk #[110, 97]), (ByteArray.mk #[115, 116]), (ByteArray.mk #[97, 101])] : List ByteArray)), (1000000, .box (tc el01Source x8.2))]⟩ ?_
  refine SRun.nil ?_
  obtain rfl := inj h
  exact q_bn (q_j (Le.sub0))
  refine swp_reg ?_
  refine SRun.ck tbokGB 3 ⟨24, [(0, .ref 1000000 0), (3, .own 3), (4, vs j6.1), (5, vi (w64 (s4.2.1 - 1)))], [(3, oa 9 1 eS ([(ByteArray.mk #[97, 115, 104]), (ByteArray.mk #[102, 111, 114, 100]), (ByteArray.mk #[116, 111, 110]), (ByteArray.mk #[98, 121]), (ByteArray.mk #[107, 105, 114, 107]), (ByteArray.mk #[104, 97, 114]), (ByteArray.mk #[119, 105, 99, 107]), (ByteArray.mk #[101, 108, 121]), (ByteArray.mk #[111, 115]), (ByteArray.mk #[108, 111]), (ByteArray.mk #[98, 114, 105, 103]), (ByteArray.mk #[109, 97]), (ByteArray.mk #[114, 105]), (ByteArray.mk #[110, 97]), (ByteArray.mk #[115, 116]), (ByteArray.mk #[97, 101])] : List ByteArray)), (1000000, .box (tc el01Source j6.2))]⟩ ?_
  refine SRun.nil ?_
  obtain rfl := inj h
  exact q_l (Le.sub0)
  refine swp_exit ?_
  obtain rfl := inj h
  exact nx_e (q_re (q_bh (q_j (Le.sub0))))
  refine srk tbokGB ⟨24, [(2, vs j2.1)], [(1000000, .box (tc el01Source j2.2))]⟩ ?_
  refine swp_ret ?_
  obtain rfl := inj h
  exact q_fr (fin_io (f1 fv) (y := .box (tc el01Source j2.2)) (by kernel_rfl) rfl (by kernel_rfl) (by kernel_rfl))
theorem ents83 : Ents Tryz.prog 83 := ents_of Tryz.func83 (by kernel_rfl) rfl
noncomputable def spec_l01Words (aWords : (List ByteArray)) : Option (ByteArray) :=
  (((forS (aWords.length : Int) (fun (i3 : Int) (s3 : ByteArray) => (((bif (decide (i3 > 0)) then ((cat' s3 (ByteArray.mk #[32])).bind fun x9 => some x9) else some s3)).bind fun (j7 : ByteArray) => ((at' aWords i3).bind fun x10 => ((cat' j7 x10).bind fun x11 => some x11)))) (fun (s3 : ByteArray) => s3) 0 (ByteArray.mk #[]))).bind fun (j1 : ByteArray) => some j1)
theorem spec_l01Words_run (aWords : (List ByteArray)) (r : ByteArray) (h : spec_l01Words aWords = some r) : SCall Tryz.prog 84 [.v (vl eS aWords)] ⟨[.v (vs r)], [], false⟩ := by
  refine scall_in Tryz.func84 rfl [(.tmp 2)] rfl (fun r => ⟨[.v (vs r)], [], false⟩) (r := r) ?_
  unfold spec_l01Words at h
  refine srk tbokGB ⟨22, [(0, vl eS aWords)], []⟩ ?_
  refine srk tbokGB ⟨22, [(0, vl eS aWords), (3, vs (ByteArray.mk #[]))], []⟩ ?_
  refine swp_seq ?_
  refine srk tbokGB ⟨22, [(0, vl eS aWords), (3, vs (ByteArray.mk #[])), (4, vi 0)], []⟩ ?_
  refine swp_seqJ h (fun j1 => ⟨22, [(3, vs j1)], []⟩) (fun v2 h => ?_) (fun j1 h => ?_)
  refine swp_blk (a := v2) ?_
  refine swp_lpL (r := v2) (s := (0, (ByteArray.mk #[]))) _ (fun s3 => ⟨22, [(0, vl eS aWords), (3, vs s3.2), (4, vi s3.1)], []⟩) _ (Le.sub0) h (fun s3 v4 h => ?_)
  refine swp_seq ?_
  refine srk tbokGB ⟨22, [(0, vl eS aWords), (3, vs s3.2), (4, vi s3.1), (8, vb (decide (s3.1 < (aWords.length : Int))))], []⟩ ?_
  refine swp_cd h (fun h => ?_) fun h => ?_
  refine swp_skip ?_
  refine nx_n ?_
  refine swp_seq ?_
  refine swp_seqJ h (fun j5 => ⟨22, [(0, vl eS aWords), (3, vs j5), (4, vi s3.1)], []⟩) (fun v6 h => ?_) (fun j5 h => ?_)
  refine swp_blk (a := v6) ?_
  refine swp_seq ?_
  refine srk tbokGB ⟨22, [(0, vl eS aWords), (3, vs s3.2), (4, vi s3.1), (12, vb (decide (s3.1 > 0)))], []⟩ ?_
  refine swp_seqJ h (fun j7 => ⟨22, [(0, vl eS aWords), (3, vs j7), (4, vi s3.1)], []⟩) (fun v8 h => ?_) (fun j7 h => ?_)
  refine swp_cd h (fun h => ?_) fun h => ?_
  refine swp_reg ?_
  refine SRun.ck tbokGB 1 ⟨22, [(0, vl eS aWords), (4, vi s3.1), (13, vs s3.2)], []⟩ ?_
  obtain ⟨x9, hx9, h⟩ := bind_some h
  refine SRun.ls (x_cat hx9 rfl) ?_
  refine SRun.ck tbokGB 1 ⟨22, [(0, vl eS aWords), (3, vs x9), (4, vi s3.1)], []⟩ ?_
  refine SRun.nil ?_
  obtain rfl := inj h
  exact q_j (Le.sub0)
  refine swp_skip ?_
  obtain rfl := inj h
  exact q_j (Le.sub0)
  refine swp_reg ?_
  refine SRun.ck tbokGB 3 ⟨22, [(0, vl eS aWords), (4, vi s3.1), (15, vs j7), (16, vl eS aWords), (17, vi s3.1)], []⟩ ?_
  obtain ⟨x10, hx10, h⟩ := bind_some h
  refine SRun.ls (x_index (L := aWords) (f := eS) (ti := ti24) (tj := ti9) (e := 9) (k := .i64) tbokGB rfl hx10) ?_
  refine SRun.ck tbokGB 1 ⟨22, [(0, vl eS aWords), (4, vi s3.1), (15, vs j7), (19, vs x10)], []⟩ ?_
  obtain ⟨x11, hx11, h⟩ := bind_some h
  refine SRun.ls (x_cat hx11 rfl) ?_
  refine SRun.ck tbokGB 1 ⟨22, [(0, vl eS aWords), (3, vs x11), (4, vi s3.1)], []⟩ ?_
  refine SRun.nil ?_
  obtain rfl := inj h
  exact q_bn (q_j (Le.sub0))
  refine swp_reg ?_
  refine SRun.ck tbokGB 3 ⟨22, [(0, vl eS aWords), (3, vs j5), (4, vi (w64 (s3.1 + 1)))], []⟩ ?_
  refine SRun.nil ?_
  obtain rfl := inj h
  exact q_l (Le.sub0)
  refine swp_exit ?_
  obtain rfl := inj h
  exact nx_e (q_re (q_bh (q_j (Le.sub0))))
  refine srk tbokGB ⟨22, [(2, vs j1)], []⟩ ?_
  refine swp_ret ?_
  obtain rfl := inj h
  exact q_fr (f1 fv)
theorem ents84 : Ents Tryz.prog 84 := ents_of Tryz.func84 (by kernel_rfl) rfl
noncomputable def spec_l01GoodPhrase (aS : l01Source) : Option (ByteArray × l01Source) :=
  ((spec_l01Next aS 3).bind fun x1 => (((loop (fun (s4 : Int × (List ByteArray) × l01Source) => (bif (decide (s4.1 > 0)) then ((((spec_l01Good s4.2.2).bind fun x8 => ((app' s4.2.1 ([x8.1] : List ByteArray)).bind fun x9 => some (x9, x8.2)))).bind fun (j6 : (List ByteArray) × l01Source) => some (.inl ((w64 (s4.1 - 1)), j6.1, j6.2))) else some (.inr (s4.2.1, s4.2.2)))) ((w64 (1 + x1.1)), ([] : List ByteArray), x1.2))).bind fun (j2 : (List ByteArray) × l01Source) => ((spec_l01Words j2.1).bind fun x10 => some (x10, j2.2))))
theorem spec_l01GoodPhrase_run (aS : l01Source) (r : ByteArray × l01Source) (h : spec_l01GoodPhrase aS = some r) : SCall Tryz.prog 66 [.o (.box [vl (eI .u8) aS.code, vi aS.at', vi aS.seed])] ⟨[.v (vs r.1)], [(0, .box (tc el01Source r.2))], false⟩ := by
  refine scall_in Tryz.func66 rfl [(.tmp 2)] rfl (fun r => ⟨[.v (vs r.1)], [(0, .box (tc el01Source r.2))], false⟩) (r := r) ?_
  unfold spec_l01GoodPhrase at h
  refine srk tbokGB ⟨20, [(0, .ref 1000000 0)], [(1000000, .box (tc el01Source aS))]⟩ ?_
  refine srk tbokGB ⟨20, [(0, .ref 1000000 0), (3, .own 5)], [(5, oa 9 1 eS ([] : List ByteArray)), (1000000, .box (tc el01Source aS))]⟩ ?_
  refine swp_seq ?_
  refine sr ?_
  refine SRun.ck tbokGB 1 ⟨20, [(0, .ref 1000000 0), (3, .own 5), (6, .ref 1000000 0)], [(5, oa 9 1 eS ([] : List ByteArray)), (1000000, .box (tc el01Source aS))]⟩ ?_
  obtain ⟨x1, hx1, h⟩ := bind_some h
  refine SRun.estep (xe ents38 (spec_l01Next_run aS 3 _ hx1)) ?_
  refine ckn tbokGB 2 ⟨20, [(0, .ref 1000000 0), (3, .own 5), (4, vi (w64 (1 + x1.1)))], [(5, oa 9 1 eS ([] : List ByteArray)), (1000000, .box (tc el01Source x1.2))]⟩ ?_
  refine swp_seqJ h (fun j2 => ⟨20, [(3, .own 3)], [(3, oa 9 1 eS j2.1), (1000000, .box (tc el01Source j2.2))]⟩) (fun v3 h => ?_) (fun j2 h => ?_)
  refine swp_blk (a := v3) ?_
  refine swp_lpL (r := v3) (s := ((w64 (1 + x1.1)), ([] : List ByteArray), x1.2)) _ (fun s4 => ⟨20, [(0, .ref 1000000 0), (3, .own 3), (4, vi s4.1)], [(3, oa 9 1 eS s4.2.1), (1000000, .box (tc el01Source s4.2.2))]⟩) _ (Le.rr [5, 1000000] [(5, 3)]) h (fun s4 v5 h => ?_)
  refine swp_seq ?_
  refine srk tbokGB ⟨20, [(0, .ref 1000000 0), (3, .own 3), (4, vi s4.1), (10, vb (decide (s4.1 > 0)))], [(3, oa 9 1 eS s4.2.1), (1000000, .box (tc el01Source s4.2.2))]⟩ ?_
  refine swp_cd h (fun h => ?_) fun h => ?_
  refine swp_skip ?_
  refine nx_n ?_
  refine swp_seq ?_
  refine swp_seqJ h (fun j6 => ⟨20, [(0, .ref 1000000 0), (3, .own 3), (4, vi s4.1)], [(3, oa 9 1 eS j6.1), (1000000, .box (tc el01Source j6.2))]⟩) (fun v7 h => ?_) (fun j6 h => ?_)
  refine swp_blk (a := v7) ?_
  refine swp_reg ?_
  refine SRun.ck tbokGB 2 ⟨20, [(0, .ref 1000000 0), (4, vi s4.1), (13, .own 3), (14, .ref 1000000 0)], [(3, oa 9 1 eS s4.2.1), (1000000, .box (tc el01Source s4.2.2))]⟩ ?_
  obtain ⟨x8, hx8, h⟩ := bind_some h
  refine SRun.estep (xe ents83 (spec_l01Good_run s4.2.2 _ hx8)) ?_
  refine SRun.ck tbokGB 1 ⟨20, [(0, .ref 1000000 0), (4, vi s4.1), (13, .own 3), (16, .own 16)], [(3, oa 9 1 eS s4.2.1), (16, oa 9 1 eS ([x8.1] : List ByteArray)), (1000000, .box (tc el01Source x8.2))]⟩ ?_
  obtain ⟨x9, hx9, h⟩ := bind_some h
  refine SRun.estep (x_append (f := eS) (t := 24) (ti := ti24) (tj := ti9) (zs := [.string (ByteArray.mk #[])]) (e := 9) (m := 1) (d := 3) (xv := .own 16) hx9 tbokGB rfl rfl rfl rfl (x_src_o (e := 9))) ?_
  refine SRun.ck tbokGB 1 ⟨20, [(0, .ref 1000000 0), (3, .own 17), (4, vi s4.1)], [(17, oa 9 1 eS x9), (1000000, .box (tc el01Source x8.2))]⟩ ?_
  refine SRun.nil ?_
  obtain rfl := inj h
  exact q_bn (q_j (Le.rr [17, 1000000] [(17, 3)]))
  refine swp_reg ?_
  refine SRun.ck tbokGB 3 ⟨20, [(0, .ref 1000000 0), (3, .own 3), (4, vi (w64 (s4.1 - 1)))], [(3, oa 9 1 eS j6.1), (1000000, .box (tc el01Source j6.2))]⟩ ?_
  refine SRun.nil ?_
  obtain rfl := inj h
  exact q_l (Le.sub0)
  refine swp_exit ?_
  obtain rfl := inj h
  exact nx_e (q_re (q_bh (q_j (Le.sub0))))
  refine sr ?_
  refine SRun.ck tbokGB 1 ⟨20, [(18, .own 3)], [(3, oa 9 1 eS j2.1), (1000000, .box (tc el01Source j2.2))]⟩ ?_
  obtain ⟨x10, hx10, h⟩ := bind_some h
  refine SRun.ls (xc ents84 (spec_l01Words_run j2.1 _ hx10)) ?_
  refine ckn tbokGB 1 ⟨20, [(2, vs x10)], [(1000000, .box (tc el01Source j2.2))]⟩ ?_
  refine swp_ret ?_
  obtain rfl := inj h
  exact q_fr (fin_io (f1 fv) (y := .box (tc el01Source j2.2)) (by kernel_rfl) rfl (by kernel_rfl) (by kernel_rfl))
theorem ents66 : Ents Tryz.prog 66 := ents_of Tryz.func66 (by kernel_rfl) rfl
noncomputable def spec_l32Count (aLog : (List Op)) : Option ((List Int)) :=
  ((make' 0 4).bind fun x1 => (((forS (aLog.length : Int) (fun (i4 : Int) (s4 : (List Int)) => ((at' aLog i4).bind fun x8 => ((at' s4 x8.Office).bind fun x9 => ((at' s4 x8.Office).bind fun _ => some (List.set s4 (Int.toNat x8.Office) (w64 (x9 + 1))))))) (fun (s4 : (List Int)) => s4) 0 x1)).bind fun (j2 : (List Int)) => some j2))
theorem spec_l32Count_run (aLog : (List Op)) (r : (List Int)) (h : spec_l32Count aLog = some r) : SCall Tryz.prog 51 [.v (vl eOp aLog)] ⟨[.own 2 1 r.length (r.map (eI .i64))], [], false⟩ := by
  refine scall_in Tryz.func51 rfl [(.tmp 2)] rfl (fun r => ⟨[.own 2 1 r.length (r.map (eI .i64))], [], false⟩) (r := r) ?_
  unfold spec_l32Count at h
  refine srk tbokGB ⟨23, [(0, vl eOp aLog)], []⟩ ?_
  refine sr ?_
  obtain ⟨x1, hx1, h⟩ := bind_some h
  refine SRun.ls (x_make (z := 0) (f := (eI .i64)) (ti := ti40) (tj := ti2) (e := 2) (m := 1) (k := .i64) (k' := .i64) hx1 tbokGB rfl rfl (zs := [.int .i64 0])) ?_
  refine ckn tbokGB 1 ⟨23, [(0, vl eOp aLog), (3, .own 5)], [(5, oa 2 1 (eI .i64) x1)]⟩ ?_
  refine swp_seq ?_
  refine srk tbokGB ⟨23, [(0, vl eOp aLog), (3, .own 5), (4, vi 0)], [(5, oa 2 1 (eI .i64) x1)]⟩ ?_
  refine swp_seqJ h (fun j2 => ⟨23, [(3, .own 3)], [(3, oa 2 1 (eI .i64) j2)]⟩) (fun v3 h => ?_) (fun j2 h => ?_)
  refine swp_blk (a := v3) ?_
  refine swp_lpL (r := v3) (s := (0, x1)) _ (fun s4 => ⟨23, [(0, vl eOp aLog), (3, .own 3), (4, vi s4.1)], [(3, oa 2 1 (eI .i64) s4.2)]⟩) _ (Le.rr [5] [(5, 3)]) h (fun s4 v5 h => ?_)
  refine swp_seq ?_
  refine srk tbokGB ⟨23, [(0, vl eOp aLog), (3, .own 3), (4, vi s4.1), (9, vb (decide (s4.1 < (aLog.length : Int))))], [(3, oa 2 1 (eI .i64) s4.2)]⟩ ?_
  refine swp_cd h (fun h => ?_) fun h => ?_
  refine swp_skip ?_
  refine nx_n ?_
  refine swp_seq ?_
  refine swp_seqJ h (fun j6 => ⟨23, [(0, vl eOp aLog), (3, .own 3), (4, vi s4.1)], [(3, oa 2 1 (eI .i64) j6)]⟩) (fun v7 h => ?_) (fun j6 h => ?_)
  refine swp_blk (a := v7) ?_
  refine swp_reg ?_
  refine SRun.ck tbokGB 3 ⟨23, [(0, vl eOp aLog), (3, .own 3), (4, vi s4.1), (12, .own 3), (13, vl eOp aLog), (14, vi s4.1)], [(3, oa 2 1 (eI .i64) s4.2)]⟩ ?_
  obtain ⟨x8, hx8, h⟩ := bind_some h
  refine SRun.ls (x_index (L := aLog) (f := eOp) (ti := ti27) (tj := ti53) (e := 53) (k := .i64) tbokGB rfl hx8) ?_
  refine SRun.ck tbokGB 2 ⟨23, [(0, vl eOp aLog), (3, .own 3), (4, vi s4.1), (12, .own 3), (17, vi x8.Office)], [(3, oa 2 1 (eI .i64) s4.2)]⟩ ?_
  obtain ⟨x9, hx9, h⟩ := bind_some h
  refine SRun.ls (x_index_own (d := 3) (L := s4.2) (f := (eI .i64)) (ti := ti40) (tj := ti2) (e := 2) (e' := 2) (m := 1) (k := .i64) tbokGB rfl hx9) ?_
  refine SRun.ls (x_load_own (d := 3) (m := 1) (j := 0) (L := s4.2) (f := (eI .i64)) (ti := ti2) (e := 2) (v := vi x9) tbokGB rfl hx9) ?_
  refine SRun.ck tbokGB 1 ⟨23, [(0, vl eOp aLog), (3, .own 3), (4, vi s4.1), (12, .own 3), (17, vi x8.Office), (20, vi (w64 (x9 + 1)))], [(3, oa 2 1 (eI .i64) s4.2)]⟩ ?_
  obtain ⟨x10, hx10, h⟩ := bind_some h
  refine SRun.ls (x_index_own (d := 3) (L := s4.2) (f := (eI .i64)) (ti := ti40) (tj := ti2) (e := 2) (e' := 2) (m := 1) (k := .i64) tbokGB rfl hx10) ?_
  refine SRun.estep (x_store_own (d := 3) (m := 1) (j := 0) (L := s4.2) (f := (eI .i64)) (x := (w64 (x9 + 1))) (z := x10) (ti := ti2) (e := 2) (ts := [.int .i64 (w64 (x9 + 1))]) (vs := [vi (w64 (x9 + 1))]) (v := vi (w64 (x9 + 1))) tbokGB rfl rfl hx10) ?_
  refine SRun.nil ?_
  obtain rfl := inj h
  exact q_bn (q_j (Le.sub0))
  refine swp_reg ?_
  refine SRun.ck tbokGB 3 ⟨23, [(0, vl eOp aLog), (3, .own 3), (4, vi (w64 (s4.1 + 1)))], [(3, oa 2 1 (eI .i64) j6)]⟩ ?_
  refine SRun.nil ?_
  obtain rfl := inj h
  exact q_l (Le.sub0)
  refine swp_exit ?_
  obtain rfl := inj h
  exact nx_e (q_re (q_bh (q_j (Le.sub0))))
  refine srk tbokGB ⟨23, [(2, .own 3)], [(3, oa 2 1 (eI .i64) j2)]⟩ ?_
  refine swp_ret ?_
  obtain rfl := inj h
  exact q_fr (f1 (fo (eI_flat .i64)))
theorem ents51 : Ents Tryz.prog 51 := ents_of Tryz.func51 (by kernel_rfl) rfl
noncomputable def spec_l01Own (aList : (List Int)) : Option ((List Int)) :=
  ((app' ([] : List Int) aList).bind fun x1 => some x1)
theorem spec_l01Own_run (aList : (List Int)) (r : (List Int)) (h : spec_l01Own aList = some r) : SCall Tryz.prog 72 [.v (vl (eI .i64) aList)] ⟨[.own 2 1 r.length (r.map (eI .i64))], [], false⟩ := by
  refine scall_in Tryz.func72 rfl [(.tmp 2)] rfl (fun r => ⟨[.own 2 1 r.length (r.map (eI .i64))], [], false⟩) (r := r) ?_
  unfold spec_l01Own at h
  refine srk tbokGB ⟨6, [(0, vl (eI .i64) aList)], []⟩ ?_
  refine sr ?_
  refine SRun.ck tbokGB 2 ⟨6, [(3, .own 3), (4, vl (eI .i64) aList)], [(3, oa 2 1 (eI .i64) ([] : List Int))]⟩ ?_
  obtain ⟨x1, hx1, h⟩ := bind_some h
  refine SRun.estep (x_append (f := (eI .i64)) (t := 40) (ti := ti40) (tj := ti2) (zs := [.int .i64 0]) (e := 2) (m := 1) (d := 3) (xv := vl (eI .i64) aList) hx1 tbokGB rfl rfl rfl rfl (src_e (fun _ => rfl))) ?_
  refine ckn tbokGB 1 ⟨6, [(2, .own 5)], [(5, oa 2 1 (eI .i64) x1)]⟩ ?_
  refine swp_ret ?_
  obtain rfl := inj h
  exact q_fr (f1 (fo (eI_flat .i64)))
theorem ents72 : Ents Tryz.prog 72 := ents_of Tryz.func72 (by kernel_rfl) rfl
noncomputable def spec_l32Own (aLog : (List Op)) : Option ((List Op)) :=
  (((forS (aLog.length : Int) (fun (i3 : Int) (s3 : (List Op)) => ((at' aLog i3).bind fun x7 => ((spec_l01Own x7.Seen).bind fun x8 => ((app' s3 ([(Op.mk x7.Office x7.Number x7.Key x7.Text x8)] : List Op)).bind fun x9 => some x9)))) (fun (s3 : (List Op)) => s3) 0 ([] : List Op))).bind fun (j1 : (List Op)) => some j1)
theorem spec_l32Own_run (aLog : (List Op)) (r : (List Op)) (h : spec_l32Own aLog = some r) : SCall Tryz.prog 47 [.v (vl eOp aLog)] ⟨[.deep 53 5 r.length [.flat, .flat, .flat, .flat, (.sl 2 1 [.flat])] (r.map eOp)], [], false⟩ := by
  refine scall_in Tryz.func47 rfl [(.tmp 2)] rfl (fun r => ⟨[.deep 53 5 r.length [.flat, .flat, .flat, .flat, (.sl 2 1 [.flat])] (r.map eOp)], [], false⟩) (r := r) ?_
  unfold spec_l32Own at h
  refine sr ?_
  refine SRun.ck tbokGB 1 ⟨26, [(2, .own 2), (0, vl eOp aLog)], [(2, oa 53 5 eOp ([] : List Op))]⟩ ?_
  refine SRun.le (Le.deep0 (d := 2) (e := 53) (m := 5) (ss := [.flat, .flat, .flat, .flat, (.sl 2 1 [.flat])]) (by kernel_rfl) (by kernel_rfl)) ?_
  refine SRun.nx ?_
  refine sr ?_
  refine SRun.ck tbokGB 1 ⟨26, [(6, .own 6), (2, .own 2), (0, vl eOp aLog)], [(6, oa 53 5 eOp ([] : List Op)), (2, .deep 53 5 ([] : List Op).length [.flat, .flat, .flat, .flat, (.sl 2 1 [.flat])] (([] : List Op).map eOp))]⟩ ?_
  refine SRun.le (Le.deep0 (d := 6) (e := 53) (m := 5) (ss := [.flat, .flat, .flat, .flat, (.sl 2 1 [.flat])]) (by kernel_rfl) (by kernel_rfl)) ?_
  refine ckn tbokGB 1 ⟨26, [(0, vl eOp aLog), (3, .own 6)], [(6, .deep 53 5 ([] : List Op).length [.flat, .flat, .flat, .flat, (.sl 2 1 [.flat])] (([] : List Op).map eOp))]⟩ ?_
  refine swp_seq ?_
  refine srk tbokGB ⟨26, [(0, vl eOp aLog), (3, .own 6), (4, vi 0)], [(6, .deep 53 5 ([] : List Op).length [.flat, .flat, .flat, .flat, (.sl 2 1 [.flat])] (([] : List Op).map eOp))]⟩ ?_
  refine swp_seqJ h (fun j1 => ⟨26, [(3, .own 3)], [(3, .deep 53 5 j1.length [.flat, .flat, .flat, .flat, (.sl 2 1 [.flat])] (j1.map eOp))]⟩) (fun v2 h => ?_) (fun j1 h => ?_)
  refine swp_blk (a := v2) ?_
  refine swp_lpL (r := v2) (s := (0, ([] : List Op))) _ (fun s3 => ⟨26, [(0, vl eOp aLog), (3, .own 3), (4, vi s3.1)], [(3, .deep 53 5 s3.2.length [.flat, .flat, .flat, .flat, (.sl 2 1 [.flat])] (s3.2.map eOp))]⟩) _ (Le.rr [6] [(6, 3)]) h (fun s3 v4 h => ?_)
  refine swp_seq ?_
  refine srk tbokGB ⟨26, [(0, vl eOp aLog), (3, .own 3), (4, vi s3.1), (10, vb (decide (s3.1 < (aLog.length : Int))))], [(3, .deep 53 5 s3.2.length [.flat, .flat, .flat, .flat, (.sl 2 1 [.flat])] (s3.2.map eOp))]⟩ ?_
  refine swp_cd h (fun h => ?_) fun h => ?_
  refine swp_skip ?_
  refine nx_n ?_
  refine swp_seq ?_
  refine swp_seqJ h (fun j5 => ⟨26, [(0, vl eOp aLog), (3, .own 3), (4, vi s3.1)], [(3, .deep 53 5 j5.length [.flat, .flat, .flat, .flat, (.sl 2 1 [.flat])] (j5.map eOp))]⟩) (fun v6 h => ?_) (fun j5 h => ?_)
  refine swp_blk (a := v6) ?_
  refine sr ?_
  refine SRun.ck tbokGB 2 ⟨26, [(0, vl eOp aLog), (3, .own 3), (4, vi s3.1), (13, vl eOp aLog), (14, vi s3.1)], [(3, .deep 53 5 s3.2.length [.flat, .flat, .flat, .flat, (.sl 2 1 [.flat])] (s3.2.map eOp))]⟩ ?_
  obtain ⟨x7, hx7, h⟩ := bind_some h
  refine SRun.ls (x_index (L := aLog) (f := eOp) (ti := ti27) (tj := ti53) (e := 53) (k := .i64) tbokGB rfl hx7) ?_
  refine ckn tbokGB 3 ⟨26, [(0, vl eOp aLog), (3, .own 3), (4, vi s3.1), (5, .ref 5 0)], [(3, .deep 53 5 s3.2.length [.flat, .flat, .flat, .flat, (.sl 2 1 [.flat])] (s3.2.map eOp)), (5, .box (tc eOp x7))]⟩ ?_
  refine sr ?_
  refine SRun.ck tbokGB 2 ⟨26, [(0, vl eOp aLog), (3, .own 3), (4, vi s3.1), (5, .ref 5 0), (18, vl (eI .i64) x7.Seen)], [(3, .deep 53 5 s3.2.length [.flat, .flat, .flat, .flat, (.sl 2 1 [.flat])] (s3.2.map eOp)), (5, .box (tc eOp x7))]⟩ ?_
  obtain ⟨x8, hx8, h⟩ := bind_some h
  refine SRun.ls (xc ents72 (spec_l01Own_run x7.Seen _ hx8)) ?_
  refine ckn tbokGB 2 ⟨26, [(0, vl eOp aLog), (3, .own 3), (4, vi s3.1), (5, .ref 5 0)], [(3, .deep 53 5 s3.2.length [.flat, .flat, .flat, .flat, (.sl 2 1 [.flat])] (s3.2.map eOp)), (5, .box [vi x7.Office, vi x7.Number, vs x7.Key, vs x7.Text, .own 19]), (19, oa 2 1 (eI .i64) x8)]⟩ ?_
  refine swp_reg ?_
  refine SRun.ck tbokGB 2 ⟨26, [(0, vl eOp aLog), (4, vi s3.1), (21, .own 3), (22, .agg [vi x7.Office, vi x7.Number, vs x7.Key, vs x7.Text, .own 19])], [(3, .deep 53 5 s3.2.length [.flat, .flat, .flat, .flat, (.sl 2 1 [.flat])] (s3.2.map eOp)), (19, oa 2 1 (eI .i64) x8)]⟩ ?_
  refine SRun.estep (x_build_deep (ti := ti27) (tj := ti53) (e := 53) (m := 5) (zs := [.int .i64 0, .int .i64 0, .string (ByteArray.mk #[]), .string (ByteArray.mk #[]), .slice none 0 0]) (v := .agg [vi x7.Office, vi x7.Number, vs x7.Key, vs x7.Text, .own 19]) (cs := [vi x7.Office, vi x7.Number, vs x7.Key, vs x7.Text, .own 19]) (ss := [.flat, .flat, .flat, .flat, (.sl 2 1 [.flat])]) (ts := [.int .i64 x7.Office, .int .i64 x7.Number, .str x7.Key, .str x7.Text, .sl x8.length (x8.map (eI .i64))]) (ds := [19]) tbokGB rfl rfl rfl (.cons _ _ _ [] _ _ _ _ (.flat (.int .i64 x7.Office) rfl) (.cons _ _ _ [] _ _ _ _ (.flat (.int .i64 x7.Number) rfl) (.cons _ _ _ [] _ _ _ _ (.flat (.str x7.Key) rfl) (.cons _ _ _ [] _ _ _ _ (.flat (.str x7.Text) rfl) (.cons _ _ _ [19] _ _ _ _ (cD_arr (d := 19) (e := 2) (m := 1) (n := x8.length) (es := x8.map (eI .i64)) (ss := [.flat]) (flat_map (eI_flat .i64) _)) .nil (by decide)) (by decide)) (by decide)) (by decide)) (by decide))) ?_
  obtain ⟨x9, hx9, h⟩ := bind_some h
  refine SRun.estep (x_append_deep (f := eOp) (L := s3.2) (M := ([(Op.mk x7.Office x7.Number x7.Key x7.Text x8)] : List Op)) (t := 27) (ti := ti27) (tj := ti53) (zs := [.int .i64 0, .int .i64 0, .string (ByteArray.mk #[]), .string (ByteArray.mk #[]), .slice none 0 0]) (e := 53) (m := 5) (d := 3) (dx := 23) (ss := [.flat, .flat, .flat, .flat, (.sl 2 1 [.flat])]) hx9 tbokGB rfl rfl rfl rfl) ?_
  refine SRun.ck tbokGB 1 ⟨26, [(0, vl eOp aLog), (3, .own 24), (4, vi s3.1)], [(24, .deep 53 5 x9.length [.flat, .flat, .flat, .flat, (.sl 2 1 [.flat])] (x9.map eOp))]⟩ ?_
  refine SRun.nil ?_
  obtain rfl := inj h
  exact q_bn (q_j (Le.rr [24] [(24, 3)]))
  refine swp_reg ?_
  refine SRun.ck tbokGB 3 ⟨26, [(0, vl eOp aLog), (3, .own 3), (4, vi (w64 (s3.1 + 1)))], [(3, .deep 53 5 j5.length [.flat, .flat, .flat, .flat, (.sl 2 1 [.flat])] (j5.map eOp))]⟩ ?_
  refine SRun.nil ?_
  obtain rfl := inj h
  exact q_l (Le.sub0)
  refine swp_exit ?_
  obtain rfl := inj h
  exact nx_e (q_re (q_bh (q_j (Le.sub0))))
  refine srk tbokGB ⟨26, [(2, .own 3)], [(3, .deep 53 5 j1.length [.flat, .flat, .flat, .flat, (.sl 2 1 [.flat])] (j1.map eOp))]⟩ ?_
  refine swp_ret ?_
  obtain rfl := inj h
  exact q_fr (f1 (finD (d := 3) (holds_t (by kernel_rfl)) (by kernel_rfl) (by kernel_rfl)))
theorem ents47 : Ents Tryz.prog 47 := ents_of Tryz.func47 (by kernel_rfl) rfl
noncomputable def spec_MakeOp (aLog : (List Op)) (aOffice : Int) (aKey : ByteArray) (aText : ByteArray) : Option ((List Op) × Int) :=
  ((((spec_IsLog aLog).bind fun x1 => (bif (!x1) then some true else ((spec_l01In aOffice 0 3).bind fun x2 => (bif (!x2) then some true else ((spec_IsWord aKey).bind fun x3 => (bif (!x3) then some true else ((spec_IsPhrase aText).bind fun x4 => some (!x4))))))))).bind fun (j5 : Bool) => (bif j5 then some (([] : List Op), 1) else (bif ((aLog.length : Int) == 16) then some (([] : List Op), 3) else ((spec_l32Count aLog).bind fun x7 => ((at' x7 aOffice).bind fun x8 => ((app' ([] : List Op) aLog).bind fun x9 => ((app' x9 ([(Op.mk aOffice (w64 (x8 + 1)) aKey aText x7)] : List Op)).bind fun x10 => ((spec_l32Own x10).bind fun x11 => some (x11, 0)))))))))
theorem spec_MakeOp_run (aLog : (List Op)) (aOffice : Int) (aKey : ByteArray) (aText : ByteArray) (r : (List Op) × Int) (h : spec_MakeOp aLog aOffice aKey aText = some r) : SCall Tryz.prog 65 [.v (vl eOp aLog), .v (vi aOffice), .v (vs aKey), .v (vs aText)] ⟨[.deep 53 5 r.1.length [.flat, .flat, .flat, .flat, (.sl 2 1 [.flat])] (r.1.map eOp), .v (vi r.2)], [], false⟩ := by
  refine scall_in Tryz.func65 rfl [(.tmp 8), (.tmp 9)] rfl (fun r => ⟨[.deep 53 5 r.1.length [.flat, .flat, .flat, .flat, (.sl 2 1 [.flat])] (r.1.map eOp), .v (vi r.2)], [], false⟩) (r := r) ?_
  unfold spec_MakeOp at h
  refine srk tbokGB ⟨52, [(0, vl eOp aLog), (1, vi aOffice), (2, vs aKey), (3, vs aText)], []⟩ ?_
  refine swp_seq ?_
  refine swp_seq ?_
  refine swp_regJ h (fun j5 => ⟨52, [(0, vl eOp aLog), (1, vi aOffice), (2, vs aKey), (3, vs aText), (29, vb j5)], []⟩) (fun v6 h => ?_) (fun j5 h => ?_)
  refine SRun.ck tbokGB 1 ⟨52, [(0, vl eOp aLog), (1, vi aOffice), (2, vs aKey), (3, vs aText), (12, vl eOp aLog)], []⟩ ?_
  obtain ⟨x1, hx1, h⟩ := bind_some h
  refine SRun.ls (xc ents29 (spec_IsLog_run aLog _ hx1)) ?_
  refine SRun.ck tbokGB 2 ⟨52, [(0, vl eOp aLog), (1, vi aOffice), (2, vs aKey), (3, vs aText), (15, vb (!x1))], []⟩ ?_
  refine SRun.cu [(15, fun b => b)] h (fun h => ?_) fun h => ?_
  refine SRun.ck tbokGB 14 ⟨52, [(0, vl eOp aLog), (1, vi aOffice), (2, vs aKey), (3, vs aText), (29, vb true)], []⟩ ?_
  refine SRun.nil ?_
  obtain rfl := inj h
  exact Le.sub0
  refine SRun.ck tbokGB 1 ⟨52, [(0, vl eOp aLog), (1, vi aOffice), (2, vs aKey), (3, vs aText), (15, vb false), (16, vi aOffice)], []⟩ ?_
  obtain ⟨x2, hx2, h⟩ := bind_some h
  refine SRun.ls (xc ents54 (spec_l01In_run aOffice 0 3 _ hx2)) ?_
  refine SRun.ck tbokGB 3 ⟨52, [(0, vl eOp aLog), (1, vi aOffice), (2, vs aKey), (3, vs aText), (20, vb (!x2))], []⟩ ?_
  refine SRun.cu [(20, fun b => b)] h (fun h => ?_) fun h => ?_
  refine SRun.ck tbokGB 9 ⟨52, [(0, vl eOp aLog), (1, vi aOffice), (2, vs aKey), (3, vs aText), (29, vb true)], []⟩ ?_
  refine SRun.nil ?_
  obtain rfl := inj h
  exact Le.sub0
  refine SRun.ck tbokGB 1 ⟨52, [(0, vl eOp aLog), (1, vi aOffice), (2, vs aKey), (3, vs aText), (20, vb false), (21, vs aKey)], []⟩ ?_
  obtain ⟨x3, hx3, h⟩ := bind_some h
  refine SRun.ls (xc ents55 (spec_IsWord_run aKey _ hx3)) ?_
  refine SRun.ck tbokGB 3 ⟨52, [(0, vl eOp aLog), (1, vi aOffice), (2, vs aKey), (3, vs aText), (25, vb (!x3))], []⟩ ?_
  refine SRun.cu [(25, fun b => b)] h (fun h => ?_) fun h => ?_
  refine SRun.ck tbokGB 4 ⟨52, [(0, vl eOp aLog), (1, vi aOffice), (2, vs aKey), (3, vs aText), (29, vb true)], []⟩ ?_
  refine SRun.nil ?_
  obtain rfl := inj h
  exact Le.sub0
  refine SRun.ck tbokGB 1 ⟨52, [(0, vl eOp aLog), (1, vi aOffice), (2, vs aKey), (3, vs aText), (25, vb false), (26, vs aText)], []⟩ ?_
  obtain ⟨x4, hx4, h⟩ := bind_some h
  refine SRun.ls (xc ents56 (spec_IsPhrase_run aText _ hx4)) ?_
  refine SRun.ck tbokGB 2 ⟨52, [(0, vl eOp aLog), (1, vi aOffice), (2, vs aKey), (3, vs aText), (29, vb (!x4))], []⟩ ?_
  refine SRun.nil ?_
  obtain rfl := inj h
  exact Le.sub0
  refine swp_cd h (fun h => ?_) fun h => ?_
  refine srk tbokGB ⟨52, [(8, .own 8), (9, vi 1)], [(8, oa 53 5 eOp ([] : List Op))]⟩ ?_
  refine swp_le (Le.deep0 (d := 8) (e := 53) (m := 5) (ss := [.flat, .flat, .flat, .flat, (.sl 2 1 [.flat])]) (by kernel_rfl) (by kernel_rfl)) ?_
  refine swp_ret ?_
  obtain rfl := inj h
  exact nx_r (q_fr (f2 (finD (d := 8) (holds_t (by kernel_rfl)) (by kernel_rfl) (by kernel_rfl)) fv))
  refine swp_skip ?_
  refine nx_n ?_
  refine swp_seq ?_
  refine srk tbokGB ⟨52, [(0, vl eOp aLog), (1, vi aOffice), (2, vs aKey), (3, vs aText), (32, vb ((aLog.length : Int) == 16))], []⟩ ?_
  refine swp_cd h (fun h => ?_) fun h => ?_
  refine srk tbokGB ⟨52, [(8, .own 8), (9, vi 3)], [(8, oa 53 5 eOp ([] : List Op))]⟩ ?_
  refine swp_le (Le.deep0 (d := 8) (e := 53) (m := 5) (ss := [.flat, .flat, .flat, .flat, (.sl 2 1 [.flat])]) (by kernel_rfl) (by kernel_rfl)) ?_
  refine swp_ret ?_
  obtain rfl := inj h
  exact nx_r (q_fr (f2 (finD (d := 8) (holds_t (by kernel_rfl)) (by kernel_rfl) (by kernel_rfl)) fv))
  refine swp_skip ?_
  refine nx_n ?_
  refine sr ?_
  refine SRun.ck tbokGB 1 ⟨52, [(0, vl eOp aLog), (1, vi aOffice), (2, vs aKey), (3, vs aText), (33, vl eOp aLog)], []⟩ ?_
  obtain ⟨x7, hx7, h⟩ := bind_some h
  refine SRun.ls (xc ents51 (spec_l32Count_run aLog _ hx7)) ?_
  refine ckn tbokGB 1 ⟨52, [(0, vl eOp aLog), (1, vi aOffice), (2, vs aKey), (3, vs aText), (10, .own 34)], [(34, oa 2 1 (eI .i64) x7)]⟩ ?_
  refine sr ?_
  refine SRun.ck tbokGB 3 ⟨52, [(0, vl eOp aLog), (2, vs aKey), (3, vs aText), (10, .own 34), (35, vi aOffice), (36, .own 34), (37, vi aOffice)], [(34, oa 2 1 (eI .i64) x7)]⟩ ?_
  obtain ⟨x8, hx8, h⟩ := bind_some h
  refine SRun.ls (x_index_own (d := 34) (L := x7) (f := (eI .i64)) (ti := ti40) (tj := ti2) (e := 2) (e' := 2) (m := 1) (k := .i64) tbokGB rfl hx8) ?_
  refine SRun.ls (x_load_own (d := 34) (m := 1) (j := 0) (L := x7) (f := (eI .i64)) (ti := ti2) (e := 2) (v := vi x8) tbokGB rfl hx8) ?_
  refine SRun.ck tbokGB 4 ⟨52, [(0, vl eOp aLog), (35, vi aOffice), (40, vi (w64 (x8 + 1))), (41, vs aKey), (42, vs aText), (43, .own 34)], [(34, oa 2 1 (eI .i64) x7)]⟩ ?_
  refine SRun.ls (x_lstep_build (v := .agg [vi aOffice, vi (w64 (x8 + 1)), vs aKey, vs aText, .own 34]) tbokGB rfl) ?_
  refine ckn tbokGB 2 ⟨52, [(0, vl eOp aLog), (11, .ref 11 0)], [(11, .box [vi aOffice, vi (w64 (x8 + 1)), vs aKey, vs aText, .own 34]), (34, oa 2 1 (eI .i64) x7)]⟩ ?_
  refine swp_seq ?_
  refine swp_le (Le.frz' (d := 34) (e := 2) (m := 1) (n := x7.length) (es := x7.map (eI .i64)) (by kernel_rfl) (by kernel_rfl)) ?_
  obtain ⟨x9, hx9, h⟩ := bind_some h
  obtain ⟨x10, hx10, h⟩ := bind_some h
  obtain ⟨x11, hx11, h⟩ := bind_some h
  refine swp_dr mixed ?_
  refine DGo.enum (σE := ⟨52, [(8, .own 51), (9, vi 0)], [(51, .deep 53 5 x11.length [.flat, .flat, .flat, .flat, (.sl 2 1 [.flat])] (x11.map eOp))]⟩) (n := 9) (L0 := #[false, false, false, false, false, false, false, false, false]) (by kernel_rfl) (by kernel_rfl) (fun K hk => ?_) ?_
  refine DE.share (fuel := 0) (L := #[true, true, true, true, true, true, true, true, true]) (σ := ⟨52, [(8, .own 51), (9, vi 0)], [(51, .deep 53 5 x11.length [.flat, .flat, .flat, .flat, (.sl 2 1 [.flat])] (x11.map eOp))]⟩) ?_ (fun d13 => ?_)
  exact DE.done (by kernel_rfl) hk
  refine DE.share (fuel := 1) (L := #[true, true, true, true, true, true, true, true, false]) (σ := ⟨52, [(8, .own 51)], [(51, .deep 53 5 x11.length [.flat, .flat, .flat, .flat, (.sl 2 1 [.flat])] (x11.map eOp))]⟩) ?_ (fun d12 => ?_)
  exact DE.take (i := 8) (L' := #[true, true, true, true, true, true, true, true, true]) rfl (.inr rfl) rfl (by kernel_rfl) (by kernel_rfl) (by kernel_rfl) (EStep.le (EStep.ofN2 tbokGB (σ' := ⟨52, [(9, vi 0), (8, .own 51)], [(51, .deep 53 5 x11.length [.flat, .flat, .flat, .flat, (.sl 2 1 [.flat])] (x11.map eOp))]⟩) (by kernel_rfl)) Le.sub0) (by kernel_rfl) d13
  refine DE.share (fuel := 2) (L := #[true, true, true, true, true, true, true, false, false]) (σ := ⟨52, [(51, .own 51)], [(51, .deep 53 5 x11.length [.flat, .flat, .flat, .flat, (.sl 2 1 [.flat])] (x11.map eOp))]⟩) ?_ (fun d11 => ?_)
  exact DE.take (i := 7) (L' := #[true, true, true, true, true, true, true, true, false]) rfl (.inr rfl) rfl (by kernel_rfl) (by kernel_rfl) (by kernel_rfl) (EStep.le (EStep.ofN2 tbokGB (σ' := ⟨52, [(8, .own 51), (51, .own 51)], [(51, .deep 53 5 x11.length [.flat, .flat, .flat, .flat, (.sl 2 1 [.flat])] (x11.map eOp))]⟩) (by kernel_rfl)) Le.sub0) (by kernel_rfl) d12
  refine DE.share (fuel := 3) (L := #[true, true, true, true, true, true, false, false, false]) (σ := ⟨52, [(50, .own 50)], [(50, oa 53 5 eOp x10)]⟩) ?_ (fun d10 => ?_)
  exact DE.all [6] (by kernel_rfl) (by simp) (List.forall_mem_cons.2 ⟨DEs.mk (i := 6) (L' := #[true, true, true, true, true, true, true, false, false]) rfl (EStep.le (EStep.ofL (xc ents47 (spec_l32Own_run x10 _ hx11)) (by kernel_rfl)) Le.sub0) (by kernel_rfl) d11, (fun _ h => absurd h List.not_mem_nil)⟩)
  refine DE.share (fuel := 4) (L := #[true, true, true, true, true, false, false, false, false]) (σ := ⟨52, [(47, .own 47), (49, .own 49)], [(47, oa 53 5 eOp x9), (49, oa 53 5 eOp ([(Op.mk aOffice (w64 (x8 + 1)) aKey aText x7)] : List Op))]⟩) ?_ (fun d9 => ?_)
  exact DE.all [5] (by kernel_rfl) (by simp) (List.forall_mem_cons.2 ⟨DEs.mk (i := 5) (L' := #[true, true, true, true, true, true, false, false, false]) rfl (EStep.le (x_append (f := eOp) (t := 27) (ti := ti27) (tj := ti53) (zs := [.int .i64 0, .int .i64 0, .string (ByteArray.mk #[]), .string (ByteArray.mk #[]), .slice none 0 0]) (e := 53) (m := 5) (d := 47) (xv := .own 49) hx10 tbokGB rfl rfl rfl rfl (x_src_o (e := 53))) Le.sub0) (by kernel_rfl) d10, (fun _ h => absurd h List.not_mem_nil)⟩)
  refine DE.share (fuel := 5) (L := #[true, true, false, true, true, false, false, false, false]) (σ := ⟨52, [(45, .own 45), (46, vl eOp aLog), (49, .own 49)], [(45, oa 53 5 eOp ([] : List Op)), (49, oa 53 5 eOp ([(Op.mk aOffice (w64 (x8 + 1)) aKey aText x7)] : List Op))]⟩) ?_ (fun d8 => ?_)
  exact DE.all [2] (by kernel_rfl) (by simp) (List.forall_mem_cons.2 ⟨DEs.mk (i := 2) (L' := #[true, true, true, true, true, false, false, false, false]) rfl (EStep.le (x_append (f := eOp) (t := 27) (ti := ti27) (tj := ti53) (zs := [.int .i64 0, .int .i64 0, .string (ByteArray.mk #[]), .string (ByteArray.mk #[]), .slice none 0 0]) (e := 53) (m := 5) (d := 45) (xv := vl eOp aLog) hx9 tbokGB rfl rfl rfl rfl (src_e (fun _ => rfl))) Le.sub0) (by kernel_rfl) d9, (fun _ h => absurd h List.not_mem_nil)⟩)
  refine DE.share (fuel := 5) (L := #[true, true, true, true, false, false, false, false, false]) (σ := ⟨52, [(47, .own 47), (48, .agg [vi aOffice, vi (w64 (x8 + 1)), vs aKey, vs aText, vl (eI .i64) x7])], [(47, oa 53 5 eOp x9)]⟩) ?_ (fun d7 => ?_)
  exact DE.all [4] (by kernel_rfl) (by simp) (List.forall_mem_cons.2 ⟨DEs.mk (i := 4) (L' := #[true, true, true, true, true, false, false, false, false]) rfl (EStep.le (EStep.ofN2 tbokGB (σ' := ⟨52, [(49, .own 49), (47, .own 47), (48, .agg [vi aOffice, vi (w64 (x8 + 1)), vs aKey, vs aText, vl (eI .i64) x7])], [(49, oa 53 5 eOp ([(Op.mk aOffice (w64 (x8 + 1)) aKey aText x7)] : List Op)), (47, oa 53 5 eOp x9)]⟩) (by kernel_rfl)) Le.sub0) (by kernel_rfl) d9, (fun _ h => absurd h List.not_mem_nil)⟩)
  refine DE.share (fuel := 6) (L := #[false, true, false, true, true, false, false, false, false]) (σ := ⟨52, [(46, vl eOp aLog), (49, .own 49)], [(49, oa 53 5 eOp ([(Op.mk aOffice (w64 (x8 + 1)) aKey aText x7)] : List Op))]⟩) ?_ (fun d6 => ?_)
  exact DE.all [0] (by kernel_rfl) (by simp) (List.forall_mem_cons.2 ⟨DEs.mk (i := 0) (L' := #[true, true, false, true, true, false, false, false, false]) rfl (EStep.ofN2 tbokGB (σ' := ⟨52, [(45, .own 45), (46, vl eOp aLog), (49, .own 49)], [(45, oa 53 5 eOp ([] : List Op)), (49, oa 53 5 eOp ([(Op.mk aOffice (w64 (x8 + 1)) aKey aText x7)] : List Op))]⟩) (by kernel_rfl)) (by kernel_rfl) d8, (fun _ h => absurd h List.not_mem_nil)⟩)
  refine DE.share (fuel := 6) (L := #[true, true, false, true, false, false, false, false, false]) (σ := ⟨52, [(45, .own 45), (46, vl eOp aLog), (48, .agg [vi aOffice, vi (w64 (x8 + 1)), vs aKey, vs aText, vl (eI .i64) x7])], [(45, oa 53 5 eOp ([] : List Op))]⟩) ?_ (fun d5 => ?_)
  exact DE.all [2, 4] (by kernel_rfl) (by simp) (List.forall_mem_cons.2 ⟨DEs.mk (i := 2) (L' := #[true, true, true, true, false, false, false, false, false]) rfl (EStep.le (x_append (f := eOp) (t := 27) (ti := ti27) (tj := ti53) (zs := [.int .i64 0, .int .i64 0, .string (ByteArray.mk #[]), .string (ByteArray.mk #[]), .slice none 0 0]) (e := 53) (m := 5) (d := 45) (xv := vl eOp aLog) hx9 tbokGB rfl rfl rfl rfl (src_e (fun _ => rfl))) Le.sub0) (by kernel_rfl) d7, (List.forall_mem_cons.2 ⟨DEs.mk (i := 4) (L' := #[true, true, false, true, true, false, false, false, false]) rfl (EStep.le (EStep.ofN2 tbokGB (σ' := ⟨52, [(49, .own 49), (45, .own 45), (46, vl eOp aLog), (48, .agg [vi aOffice, vi (w64 (x8 + 1)), vs aKey, vs aText, vl (eI .i64) x7])], [(49, oa 53 5 eOp ([(Op.mk aOffice (w64 (x8 + 1)) aKey aText x7)] : List Op)), (45, oa 53 5 eOp ([] : List Op))]⟩) (by kernel_rfl)) Le.sub0) (by kernel_rfl) d8, (fun _ h => absurd h List.not_mem_nil)⟩)⟩)
  refine DE.share (fuel := 6) (L := #[true, true, true, false, false, false, false, false, false]) (σ := ⟨52, [(11, .ref 11 0), (47, .own 47)], [(11, .box [vi aOffice, vi (w64 (x8 + 1)), vs aKey, vs aText, vl (eI .i64) x7]), (47, oa 53 5 eOp x9)]⟩) ?_ (fun d4 => ?_)
  exact DE.all [3] (by kernel_rfl) (by simp) (List.forall_mem_cons.2 ⟨DEs.mk (i := 3) (L' := #[true, true, true, true, false, false, false, false, false]) rfl (EStep.le (EStep.ofN2 tbokGB (σ' := ⟨52, [(48, .agg [vi aOffice, vi (w64 (x8 + 1)), vs aKey, vs aText, vl (eI .i64) x7]), (11, .ref 11 0), (47, .own 47)], [(11, .box [vi aOffice, vi (w64 (x8 + 1)), vs aKey, vs aText, vl (eI .i64) x7]), (47, oa 53 5 eOp x9)]⟩) (by kernel_rfl)) Le.sub0) (by kernel_rfl) d7, (fun _ h => absurd h List.not_mem_nil)⟩)
  refine DE.share (fuel := 7) (L := #[false, true, false, true, false, false, false, false, false]) (σ := ⟨52, [(46, vl eOp aLog), (48, .agg [vi aOffice, vi (w64 (x8 + 1)), vs aKey, vs aText, vl (eI .i64) x7])], []⟩) ?_ (fun d3 => ?_)
  exact DE.all [0, 4] (by kernel_rfl) (by simp) (List.forall_mem_cons.2 ⟨DEs.mk (i := 0) (L' := #[true, true, false, true, false, false, false, false, false]) rfl (EStep.ofN2 tbokGB (σ' := ⟨52, [(45, .own 45), (46, vl eOp aLog), (48, .agg [vi aOffice, vi (w64 (x8 + 1)), vs aKey, vs aText, vl (eI .i64) x7])], [(45, oa 53 5 eOp ([] : List Op))]⟩) (by kernel_rfl)) (by kernel_rfl) d5, (List.forall_mem_cons.2 ⟨DEs.mk (i := 4) (L' := #[false, true, false, true, true, false, false, false, false]) rfl (EStep.le (EStep.ofN2 tbokGB (σ' := ⟨52, [(49, .own 49), (46, vl eOp aLog), (48, .agg [vi aOffice, vi (w64 (x8 + 1)), vs aKey, vs aText, vl (eI .i64) x7])], [(49, oa 53 5 eOp ([(Op.mk aOffice (w64 (x8 + 1)) aKey aText x7)] : List Op))]⟩) (by kernel_rfl)) Le.sub0) (by kernel_rfl) d6, (fun _ h => absurd h List.not_mem_nil)⟩)⟩)
  refine DE.share (fuel := 7) (L := #[true, true, false, false, false, false, false, false, false]) (σ := ⟨52, [(11, .ref 11 0), (45, .own 45), (46, vl eOp aLog)], [(11, .box [vi aOffice, vi (w64 (x8 + 1)), vs aKey, vs aText, vl (eI .i64) x7]), (45, oa 53 5 eOp ([] : List Op))]⟩) ?_ (fun d2 => ?_)
  exact DE.all [2, 3] (by kernel_rfl) (by simp) (List.forall_mem_cons.2 ⟨DEs.mk (i := 2) (L' := #[true, true, true, false, false, false, false, false, false]) rfl (EStep.le (x_append (f := eOp) (t := 27) (ti := ti27) (tj := ti53) (zs := [.int .i64 0, .int .i64 0, .string (ByteArray.mk #[]), .string (ByteArray.mk #[]), .slice none 0 0]) (e := 53) (m := 5) (d := 45) (xv := vl eOp aLog) hx9 tbokGB rfl rfl rfl rfl (src_e (fun _ => rfl))) Le.sub0) (by kernel_rfl) d4, (List.forall_mem_cons.2 ⟨DEs.mk (i := 3) (L' := #[true, true, false, true, false, false, false, false, false]) rfl (EStep.le (EStep.ofN2 tbokGB (σ' := ⟨52, [(48, .agg [vi aOffice, vi (w64 (x8 + 1)), vs aKey, vs aText, vl (eI .i64) x7]), (11, .ref 11 0), (45, .own 45), (46, vl eOp aLog)], [(11, .box [vi aOffice, vi (w64 (x8 + 1)), vs aKey, vs aText, vl (eI .i64) x7]), (45, oa 53 5 eOp ([] : List Op))]⟩) (by kernel_rfl)) Le.sub0) (by kernel_rfl) d5, (fun _ h => absurd h List.not_mem_nil)⟩)⟩)
  refine DE.share (fuel := 8) (L := #[false, true, false, false, false, false, false, false, false]) (σ := ⟨52, [(11, .ref 11 0), (46, vl eOp aLog)], [(11, .box [vi aOffice, vi (w64 (x8 + 1)), vs aKey, vs aText, vl (eI .i64) x7])]⟩) ?_ (fun d1 => ?_)
  exact DE.all [0, 3] (by kernel_rfl) (by simp) (List.forall_mem_cons.2 ⟨DEs.mk (i := 0) (L' := #[true, true, false, false, false, false, false, false, false]) rfl (EStep.le (EStep.ofN2 tbokGB (σ' := ⟨52, [(45, .own 45), (11, .ref 11 0), (46, vl eOp aLog)], [(45, oa 53 5 eOp ([] : List Op)), (11, .box [vi aOffice, vi (w64 (x8 + 1)), vs aKey, vs aText, vl (eI .i64) x7])]⟩) (by kernel_rfl)) Le.sub0) (by kernel_rfl) d2, (List.forall_mem_cons.2 ⟨DEs.mk (i := 3) (L' := #[false, true, false, true, false, false, false, false, false]) rfl (EStep.le (EStep.ofN2 tbokGB (σ' := ⟨52, [(48, .agg [vi aOffice, vi (w64 (x8 + 1)), vs aKey, vs aText, vl (eI .i64) x7]), (11, .ref 11 0), (46, vl eOp aLog)], [(11, .box [vi aOffice, vi (w64 (x8 + 1)), vs aKey, vs aText, vl (eI .i64) x7])]⟩) (by kernel_rfl)) Le.sub0) (by kernel_rfl) d3, (fun _ h => absurd h List.not_mem_nil)⟩)⟩)
  exact DE.take (i := 1) (L' := #[false, true, false, false, false, false, false, false, false]) rfl (.inl rfl) rfl (by kernel_rfl) (by kernel_rfl) (by kernel_rfl) (EStep.le (EStep.ofN2 tbokGB (σ' := ⟨52, [(46, vl eOp aLog), (0, vl eOp aLog), (11, .ref 11 0)], [(11, .box [vi aOffice, vi (w64 (x8 + 1)), vs aKey, vs aText, vl (eI .i64) x7])]⟩) (by kernel_rfl)) Le.sub0) (by kernel_rfl) d1
  refine nx_n ?_
  refine swp_ret ?_
  obtain rfl := inj h
  exact q_fr (f2 (finD (d := 51) (holds_t (by kernel_rfl)) (by kernel_rfl) (by kernel_rfl)) fv)
theorem ents65 : Ents Tryz.prog 65 := ents_of Tryz.func65 (by kernel_rfl) rfl
noncomputable def spec_l32Grow (aS : l01Source) (aLog : (List Op)) (aN : Int) : Option ((List Op) × l01Source) :=
  (((loop (fun (s3 : (List Op) × Int × l01Source) => (bif (decide (s3.2.1 > 0)) then ((((spec_l01Next s3.2.2 4).bind fun x7 => ((spec_l01Next x7.2 2).bind fun x8 => ((at' ([(ByteArray.mk #[97, 115, 104]), (ByteArray.mk #[98, 114, 105, 103])] : List ByteArray) x8.1).bind fun x9 => ((spec_l01GoodPhrase x8.2).bind fun x10 => ((spec_MakeOp s3.1 x7.1 x9 x10.1).bind fun x11 => (bif (x11.2 == 0) then some (x11.1, x10.2) else some (s3.1, x10.2)))))))).bind fun (j5 : (List Op) × l01Source) => some (.inl (j5.1, (w64 (s3.2.1 - 1)), j5.2))) else some (.inr (s3.1, s3.2.2)))) (aLog, aN, aS))).bind fun (j1 : (List Op) × l01Source) => some (j1.1, j1.2))
theorem spec_l32Grow_run (aS : l01Source) (aLog : (List Op)) (aN : Int) (r : (List Op) × l01Source) (h : spec_l32Grow aS aLog aN = some r) : SCall Tryz.prog 62 [.o (.box [vl (eI .u8) aS.code, vi aS.at', vi aS.seed]), .v (vl eOp aLog), .v (vi aN)] ⟨[.v (vl eOp r.1)], [(0, .box (tc el01Source r.2))], true⟩ := by
  refine scall_in Tryz.func62 rfl [(.tmp 6)] rfl (fun r => ⟨[.v (vl eOp r.1)], [(0, .box (tc el01Source r.2))], true⟩) (r := r) ?_
  unfold spec_l32Grow at h
  refine srk tbokGB ⟨31, [(0, .ref 1000000 0), (1, vl eOp aLog), (2, vi aN)], [(1000000, .box (tc el01Source aS))]⟩ ?_
  refine swp_seq ?_
  refine swp_seqJ h (fun j1 => ⟨31, [(1, vl eOp j1.1)], [(1000000, .box (tc el01Source j1.2))]⟩) (fun v2 h => ?_) (fun j1 h => ?_)
  refine swp_blk (a := v2) ?_
  refine swp_lpL (r := v2) (s := (aLog, aN, aS)) _ (fun s3 => ⟨31, [(0, .ref 1000000 0), (1, vl eOp s3.1), (2, vi s3.2.1)], [(1000000, .box (tc el01Source s3.2.2))]⟩) _ (Le.sub0) h (fun s3 v4 h => ?_)
  refine swp_seq ?_
  refine srk tbokGB ⟨31, [(0, .ref 1000000 0), (1, vl eOp s3.1), (2, vi s3.2.1), (10, vb (decide (s3.2.1 > 0)))], [(1000000, .box (tc el01Source s3.2.2))]⟩ ?_
  refine swp_cd h (fun h => ?_) fun h => ?_
  refine swp_skip ?_
  refine nx_n ?_
  refine swp_seq ?_
  refine swp_seqJ h (fun j5 => ⟨31, [(0, .ref 1000000 0), (1, vl eOp j5.1), (2, vi s3.2.1)], [(1000000, .box (tc el01Source j5.2))]⟩) (fun v6 h => ?_) (fun j5 h => ?_)
  refine swp_blk (a := v6) ?_
  refine swp_seq ?_
  refine swp_drD [1000000] mixed ?_
  refine DGo.ck tbokGB false 2 ⟨31, [(0, .ref 1000000 0), (1, vl eOp s3.1), (2, vi s3.2.1), (14, vl eOp s3.1), (15, .ref 1000000 0)], [(1000000, .box (tc el01Source s3.2.2))]⟩ ?_
  obtain ⟨x7, hx7, h⟩ := bind_some h
  refine DGo.write [] (xw ents38 (spec_l01Next_run s3.2.2 4 _ hx7)) ?_
  refine DGo.ck tbokGB false 2 ⟨31, [(0, .ref 1000000 0), (1, vl eOp s3.1), (2, vi s3.2.1), (14, vl eOp s3.1), (16, vi x7.1), (17, .own 17), (18, .ref 1000000 0)], [(17, oa 9 1 eS ([(ByteArray.mk #[97, 115, 104]), (ByteArray.mk #[98, 114, 105, 103])] : List ByteArray)), (1000000, .box (tc el01Source x7.2))]⟩ ?_
  obtain ⟨x8, hx8, h⟩ := bind_some h
  refine DGo.write [] (xw ents38 (spec_l01Next_run x7.2 2 _ hx8)) ?_
  obtain ⟨x9, hx9, h⟩ := bind_some h
  refine DGo.stepW false [17] (x_index_own (d := 17) (L := ([(ByteArray.mk #[97, 115, 104]), (ByteArray.mk #[98, 114, 105, 103])] : List ByteArray)) (f := eS) (ti := ti24) (tj := ti9) (e := 9) (e' := 9) (m := 1) (k := .i64) tbokGB rfl hx9) ?_
  refine DGo.stepW false [17] (x_load_own (d := 17) (m := 1) (j := 0) (L := ([(ByteArray.mk #[97, 115, 104]), (ByteArray.mk #[98, 114, 105, 103])] : List ByteArray)) (f := eS) (ti := ti9) (e := 9) (v := vs x9) tbokGB rfl hx9) ?_
  refine DGo.ck tbokGB false 1 ⟨31, [(0, .ref 1000000 0), (1, vl eOp s3.1), (2, vi s3.2.1), (14, vl eOp s3.1), (16, vi x7.1), (21, vs x9), (22, .ref 1000000 0)], [(1000000, .box (tc el01Source x8.2))]⟩ ?_
  obtain ⟨x10, hx10, h⟩ := bind_some h
  refine DGo.write [] (xw ents66 (spec_l01GoodPhrase_run x8.2 _ hx10)) ?_
  obtain ⟨x11, hx11, h⟩ := bind_some h
  refine DGo.step (xc ents65 (spec_MakeOp_run s3.1 x7.1 x9 x10.1 _ hx11)) ?_
  refine DGo.ck tbokGB false 5 ⟨31, [(0, .ref 1000000 0), (1, vl eOp s3.1), (2, vi s3.2.1), (7, .own 24), (8, vi x11.2)], [(24, .deep 53 5 x11.1.length [.flat, .flat, .flat, .flat, (.sl 2 1 [.flat])] (x11.1.map eOp)), (1000000, .box (tc el01Source x10.2))]⟩ ?_
  refine DGo.nx ?_
  refine srk tbokGB ⟨31, [(0, .ref 1000000 0), (1, vl eOp s3.1), (2, vi s3.2.1), (7, .own 24), (28, vb (x11.2 == 0))], [(24, .deep 53 5 x11.1.length [.flat, .flat, .flat, .flat, (.sl 2 1 [.flat])] (x11.1.map eOp)), (1000000, .box (tc el01Source x10.2))]⟩ ?_
  refine swp_cd h (fun h => ?_) fun h => ?_
  refine swp_reg ?_
  refine SRun.ck tbokGB 2 ⟨31, [(0, .ref 1000000 0), (1, .own 24), (2, vi s3.2.1)], [(24, .deep 53 5 x11.1.length [.flat, .flat, .flat, .flat, (.sl 2 1 [.flat])] (x11.1.map eOp)), (1000000, .box (tc el01Source x10.2))]⟩ ?_
  refine SRun.nil ?_
  obtain rfl := inj h
  exact q_bn (q_j ((Le.frzD' (d := 24) (e := 53) (m := 5) (n := x11.1.length) (ss := [.flat, .flat, .flat, .flat, (.sl 2 1 [.flat])]) (es := x11.1.map eOp) (by kernel_rfl) (by kernel_rfl)).trans (Le.sub0)))
  refine swp_skip ?_
  obtain rfl := inj h
  exact q_bn (q_j (Le.sub0))
  refine swp_reg ?_
  refine SRun.ck tbokGB 3 ⟨31, [(0, .ref 1000000 0), (1, vl eOp j5.1), (2, vi (w64 (s3.2.1 - 1)))], [(1000000, .box (tc el01Source j5.2))]⟩ ?_
  refine SRun.nil ?_
  obtain rfl := inj h
  exact q_l (Le.sub0)
  refine swp_exit ?_
  obtain rfl := inj h
  exact nx_e (q_re (q_bh (q_j (Le.sub0))))
  refine srk tbokGB ⟨31, [(6, vl eOp j1.1)], [(1000000, .box (tc el01Source j1.2))]⟩ ?_
  refine swp_ret ?_
  obtain rfl := inj h
  exact q_fr (fin_io (f1 ft) (y := .box (tc el01Source j1.2)) (by kernel_rfl) rfl (by kernel_rfl) (by kernel_rfl))
theorem ents62 : Ents Tryz.prog 62 := ents_of Tryz.func62 (by kernel_rfl) rfl
noncomputable def spec_l32Two (aS : l01Source) : Option ((List Op) × (List Op) × l01Source) :=
  ((spec_l01Next aS 4).bind fun x1 => ((spec_l32Grow x1.2 ([] : List Op) x1.1).bind fun x2 => ((spec_l01Next x2.2 4).bind fun x3 => (((loop (fun (s6 : (List Op) × Int × l01Source) => (bif (decide (s6.2.1 > 0)) then ((((spec_l01Next s6.2.2 2).bind fun x10 => ((spec_l01Next x10.2 2).bind fun x11 => ((at' ([(ByteArray.mk #[97, 115, 104]), (ByteArray.mk #[98, 114, 105, 103])] : List ByteArray) x11.1).bind fun x12 => ((spec_l01GoodPhrase x11.2).bind fun x13 => ((spec_MakeOp s6.1 x10.1 x12 x13.1).bind fun x14 => (bif (x14.2 == 0) then some (x14.1, x13.2) else some (s6.1, x13.2)))))))).bind fun (j8 : (List Op) × l01Source) => some (.inl (j8.1, (w64 (s6.2.1 - 1)), j8.2))) else some (.inr (s6.1, s6.2.2)))) (x2.1, x3.1, x3.2))).bind fun (j4 : (List Op) × l01Source) => ((spec_l01Next j4.2 4).bind fun x15 => (((loop (fun (s18 : (List Op) × Int × l01Source) => (bif (decide (s18.2.1 > 0)) then ((((spec_l01Next s18.2.2 2).bind fun x22 => ((spec_l01Next x22.2 2).bind fun x23 => ((at' ([(ByteArray.mk #[97, 115, 104]), (ByteArray.mk #[98, 114, 105, 103])] : List ByteArray) x23.1).bind fun x24 => ((spec_l01GoodPhrase x23.2).bind fun x25 => ((spec_MakeOp s18.1 (w64 (2 + x22.1)) x24 x25.1).bind fun x26 => (bif (x26.2 == 0) then some (x26.1, x25.2) else some (s18.1, x25.2)))))))).bind fun (j20 : (List Op) × l01Source) => some (.inl (j20.1, (w64 (s18.2.1 - 1)), j20.2))) else some (.inr (s18.1, s18.2.2)))) (x2.1, x15.1, x15.2))).bind fun (j16 : (List Op) × l01Source) => ((spec_l01Next j16.2 8).bind fun x27 => (((bif (x27.1 == 0) then ((spec_l32Grow x27.2 j16.1 2).bind fun x30 => some (x30.1, x30.2)) else some (j16.1, x27.2))).bind fun (j28 : (List Op) × l01Source) => some (j4.1, j28.1, j28.2)))))))))
theorem spec_l32Two_run (aS : l01Source) (r : (List Op) × (List Op) × l01Source) (h : spec_l32Two aS = some r) : SCall Tryz.prog 40 [.o (.box [vl (eI .u8) aS.code, vi aS.at', vi aS.seed])] ⟨[.v (vl eOp r.1), .v (vl eOp r.2.1)], [(0, .box (tc el01Source r.2.2))], true⟩ := by
  refine scall_in Tryz.func40 rfl [(.tmp 2), (.tmp 3)] rfl (fun r => ⟨[.v (vl eOp r.1), .v (vl eOp r.2.1)], [(0, .box (tc el01Source r.2.2))], true⟩) (r := r) ?_
  unfold spec_l32Two at h
  refine srk tbokGB ⟨75, [(0, .ref 1000000 0)], [(1000000, .box (tc el01Source aS))]⟩ ?_
  refine sr ?_
  refine SRun.ck tbokGB 3 ⟨75, [(0, .ref 1000000 0), (13, .ref 1000000 0), (14, .own 14), (15, .ref 1000000 0)], [(14, oa 53 5 eOp ([] : List Op)), (1000000, .box (tc el01Source aS))]⟩ ?_
  obtain ⟨x1, hx1, h⟩ := bind_some h
  refine SRun.estep (xe ents38 (spec_l01Next_run aS 4 _ hx1)) ?_
  refine SRun.le (Le.frz' (d := 14) (e := 53) (m := 5) (n := ([] : List Op).length) (es := ([] : List Op).map eOp) (by kernel_rfl) (by kernel_rfl)) ?_
  obtain ⟨x2, hx2, h⟩ := bind_some h
  refine SRun.estep (xe ents62 (spec_l32Grow_run x1.2 ([] : List Op) x1.1 _ hx2)) ?_
  refine ckn tbokGB 1 ⟨75, [(0, .ref 1000000 0), (4, vl eOp x2.1)], [(1000000, .box (tc el01Source x2.2))]⟩ ?_
  refine srk tbokGB ⟨75, [(0, .ref 1000000 0), (5, vl eOp x2.1), (6, vl eOp x2.1)], [(1000000, .box (tc el01Source x2.2))]⟩ ?_
  refine swp_seq ?_
  refine sr ?_
  refine SRun.ck tbokGB 1 ⟨75, [(0, .ref 1000000 0), (5, vl eOp x2.1), (6, vl eOp x2.1), (20, .ref 1000000 0)], [(1000000, .box (tc el01Source x2.2))]⟩ ?_
  obtain ⟨x3, hx3, h⟩ := bind_some h
  refine SRun.estep (xe ents38 (spec_l01Next_run x2.2 4 _ hx3)) ?_
  refine ckn tbokGB 1 ⟨75, [(0, .ref 1000000 0), (5, vl eOp x2.1), (6, vl eOp x2.1), (7, vi x3.1)], [(1000000, .box (tc el01Source x3.2))]⟩ ?_
  refine swp_seqJ h (fun j4 => ⟨75, [(0, .ref 1000000 0), (5, vl eOp j4.1), (6, vl eOp x2.1)], [(1000000, .box (tc el01Source j4.2))]⟩) (fun v5 h => ?_) (fun j4 h => ?_)
  refine swp_blk (a := v5) ?_
  refine swp_lpL (r := v5) (s := (x2.1, x3.1, x3.2)) _ (fun s6 => ⟨75, [(0, .ref 1000000 0), (5, vl eOp s6.1), (6, vl eOp x2.1), (7, vi s6.2.1)], [(1000000, .box (tc el01Source s6.2.2))]⟩) _ (Le.sub0) h (fun s6 v7 h => ?_)
  refine swp_seq ?_
  refine srk tbokGB ⟨75, [(0, .ref 1000000 0), (5, vl eOp s6.1), (6, vl eOp x2.1), (7, vi s6.2.1), (23, vb (decide (s6.2.1 > 0)))], [(1000000, .box (tc el01Source s6.2.2))]⟩ ?_
  refine swp_cd h (fun h => ?_) fun h => ?_
  refine swp_skip ?_
  refine nx_n ?_
  refine swp_seq ?_
  refine swp_seqJ h (fun j8 => ⟨75, [(0, .ref 1000000 0), (5, vl eOp j8.1), (6, vl eOp x2.1), (7, vi s6.2.1)], [(1000000, .box (tc el01Source j8.2))]⟩) (fun v9 h => ?_) (fun j8 h => ?_)
  refine swp_blk (a := v9) ?_
  refine swp_seq ?_
  refine swp_drD [1000000] mixed ?_
  refine DGo.ck tbokGB false 2 ⟨75, [(0, .ref 1000000 0), (5, vl eOp s6.1), (6, vl eOp x2.1), (7, vi s6.2.1), (27, vl eOp s6.1), (28, .ref 1000000 0)], [(1000000, .box (tc el01Source s6.2.2))]⟩ ?_
  obtain ⟨x10, hx10, h⟩ := bind_some h
  refine DGo.write [] (xw ents38 (spec_l01Next_run s6.2.2 2 _ hx10)) ?_
  refine DGo.ck tbokGB false 2 ⟨75, [(0, .ref 1000000 0), (5, vl eOp s6.1), (6, vl eOp x2.1), (7, vi s6.2.1), (27, vl eOp s6.1), (29, vi x10.1), (30, .own 30), (31, .ref 1000000 0)], [(30, oa 9 1 eS ([(ByteArray.mk #[97, 115, 104]), (ByteArray.mk #[98, 114, 105, 103])] : List ByteArray)), (1000000, .box (tc el01Source x10.2))]⟩ ?_
  obtain ⟨x11, hx11, h⟩ := bind_some h
  refine DGo.write [] (xw ents38 (spec_l01Next_run x10.2 2 _ hx11)) ?_
  obtain ⟨x12, hx12, h⟩ := bind_some h
  refine DGo.stepW false [30] (x_index_own (d := 30) (L := ([(ByteArray.mk #[97, 115, 104]), (ByteArray.mk #[98, 114, 105, 103])] : List ByteArray)) (f := eS) (ti := ti24) (tj := ti9) (e := 9) (e' := 9) (m := 1) (k := .i64) tbokGB rfl hx12) ?_
  refine DGo.stepW false [30] (x_load_own (d := 30) (m := 1) (j := 0) (L := ([(ByteArray.mk #[97, 115, 104]), (ByteArray.mk #[98, 114, 105, 103])] : List ByteArray)) (f := eS) (ti := ti9) (e := 9) (v := vs x12) tbokGB rfl hx12) ?_
  refine DGo.ck tbokGB false 1 ⟨75, [(0, .ref 1000000 0), (5, vl eOp s6.1), (6, vl eOp x2.1), (7, vi s6.2.1), (27, vl eOp s6.1), (29, vi x10.1), (34, vs x12), (35, .ref 1000000 0)], [(1000000, .box (tc el01Source x11.2))]⟩ ?_
  obtain ⟨x13, hx13, h⟩ := bind_some h
  refine DGo.write [] (xw ents66 (spec_l01GoodPhrase_run x11.2 _ hx13)) ?_
  obtain ⟨x14, hx14, h⟩ := bind_some h
  refine DGo.step (xc ents65 (spec_MakeOp_run s6.1 x10.1 x12 x13.1 _ hx14)) ?_
  refine DGo.ck tbokGB false 5 ⟨75, [(0, .ref 1000000 0), (5, vl eOp s6.1), (6, vl eOp x2.1), (7, vi s6.2.1), (8, .own 37), (9, vi x14.2)], [(37, .deep 53 5 x14.1.length [.flat, .flat, .flat, .flat, (.sl 2 1 [.flat])] (x14.1.map eOp)), (1000000, .box (tc el01Source x13.2))]⟩ ?_
  refine DGo.nx ?_
  refine srk tbokGB ⟨75, [(0, .ref 1000000 0), (5, vl eOp s6.1), (6, vl eOp x2.1), (7, vi s6.2.1), (8, .own 37), (41, vb (x14.2 == 0))], [(37, .deep 53 5 x14.1.length [.flat, .flat, .flat, .flat, (.sl 2 1 [.flat])] (x14.1.map eOp)), (1000000, .box (tc el01Source x13.2))]⟩ ?_
  refine swp_cd h (fun h => ?_) fun h => ?_
  refine swp_reg ?_
  refine SRun.ck tbokGB 2 ⟨75, [(0, .ref 1000000 0), (5, .own 37), (6, vl eOp x2.1), (7, vi s6.2.1)], [(37, .deep 53 5 x14.1.length [.flat, .flat, .flat, .flat, (.sl 2 1 [.flat])] (x14.1.map eOp)), (1000000, .box (tc el01Source x13.2))]⟩ ?_
  refine SRun.nil ?_
  obtain rfl := inj h
  exact q_bn (q_j ((Le.frzD' (d := 37) (e := 53) (m := 5) (n := x14.1.length) (ss := [.flat, .flat, .flat, .flat, (.sl 2 1 [.flat])]) (es := x14.1.map eOp) (by kernel_rfl) (by kernel_rfl)).trans (Le.sub0)))
  refine swp_skip ?_
  obtain rfl := inj h
  exact q_bn (q_j (Le.sub0))
  refine swp_reg ?_
  refine SRun.ck tbokGB 3 ⟨75, [(0, .ref 1000000 0), (5, vl eOp j8.1), (6, vl eOp x2.1), (7, vi (w64 (s6.2.1 - 1)))], [(1000000, .box (tc el01Source j8.2))]⟩ ?_
  refine SRun.nil ?_
  obtain rfl := inj h
  exact q_l (Le.sub0)
  refine swp_exit ?_
  obtain rfl := inj h
  exact nx_e (q_re (q_bh (q_j (Le.sub0))))
  refine swp_seq ?_
  refine sr ?_
  refine SRun.ck tbokGB 1 ⟨75, [(0, .ref 1000000 0), (5, vl eOp j4.1), (6, vl eOp x2.1), (43, .ref 1000000 0)], [(1000000, .box (tc el01Source j4.2))]⟩ ?_
  obtain ⟨x15, hx15, h⟩ := bind_some h
  refine SRun.estep (xe ents38 (spec_l01Next_run j4.2 4 _ hx15)) ?_
  refine ckn tbokGB 1 ⟨75, [(0, .ref 1000000 0), (5, vl eOp j4.1), (6, vl eOp x2.1), (10, vi x15.1)], [(1000000, .box (tc el01Source x15.2))]⟩ ?_
  refine swp_seqJ h (fun j16 => ⟨75, [(0, .ref 1000000 0), (5, vl eOp j4.1), (6, vl eOp j16.1)], [(1000000, .box (tc el01Source j16.2))]⟩) (fun v17 h => ?_) (fun j16 h => ?_)
  refine swp_blk (a := v17) ?_
  refine swp_lpL (r := v17) (s := (x2.1, x15.1, x15.2)) _ (fun s18 => ⟨75, [(0, .ref 1000000 0), (5, vl eOp j4.1), (6, vl eOp s18.1), (10, vi s18.2.1)], [(1000000, .box (tc el01Source s18.2.2))]⟩) _ (Le.sub0) h (fun s18 v19 h => ?_)
  refine swp_seq ?_
  refine srk tbokGB ⟨75, [(0, .ref 1000000 0), (5, vl eOp j4.1), (6, vl eOp s18.1), (10, vi s18.2.1), (46, vb (decide (s18.2.1 > 0)))], [(1000000, .box (tc el01Source s18.2.2))]⟩ ?_
  refine swp_cd h (fun h => ?_) fun h => ?_
  refine swp_skip ?_
  refine nx_n ?_
  refine swp_seq ?_
  refine swp_seqJ h (fun j20 => ⟨75, [(0, .ref 1000000 0), (5, vl eOp j4.1), (6, vl eOp j20.1), (10, vi s18.2.1)], [(1000000, .box (tc el01Source j20.2))]⟩) (fun v21 h => ?_) (fun j20 h => ?_)
  refine swp_blk (a := v21) ?_
  refine swp_seq ?_
  refine swp_drD [1000000] mixed ?_
  refine DGo.ck tbokGB false 2 ⟨75, [(0, .ref 1000000 0), (5, vl eOp j4.1), (6, vl eOp s18.1), (10, vi s18.2.1), (50, vl eOp s18.1), (51, .ref 1000000 0)], [(1000000, .box (tc el01Source s18.2.2))]⟩ ?_
  obtain ⟨x22, hx22, h⟩ := bind_some h
  refine DGo.write [] (xw ents38 (spec_l01Next_run s18.2.2 2 _ hx22)) ?_
  refine DGo.ck tbokGB false 3 ⟨75, [(0, .ref 1000000 0), (5, vl eOp j4.1), (6, vl eOp s18.1), (10, vi s18.2.1), (50, vl eOp s18.1), (53, vi (w64 (2 + x22.1))), (54, .own 54), (55, .ref 1000000 0)], [(54, oa 9 1 eS ([(ByteArray.mk #[97, 115, 104]), (ByteArray.mk #[98, 114, 105, 103])] : List ByteArray)), (1000000, .box (tc el01Source x22.2))]⟩ ?_
  obtain ⟨x23, hx23, h⟩ := bind_some h
  refine DGo.write [] (xw ents38 (spec_l01Next_run x22.2 2 _ hx23)) ?_
  obtain ⟨x24, hx24, h⟩ := bind_some h
  refine DGo.stepW false [54] (x_index_own (d := 54) (L := ([(ByteArray.mk #[97, 115, 104]), (ByteArray.mk #[98, 114, 105, 103])] : List ByteArray)) (f := eS) (ti := ti24) (tj := ti9) (e := 9) (e' := 9) (m := 1) (k := .i64) tbokGB rfl hx24) ?_
  refine DGo.stepW false [54] (x_load_own (d := 54) (m := 1) (j := 0) (L := ([(ByteArray.mk #[97, 115, 104]), (ByteArray.mk #[98, 114, 105, 103])] : List ByteArray)) (f := eS) (ti := ti9) (e := 9) (v := vs x24) tbokGB rfl hx24) ?_
  refine DGo.ck tbokGB false 1 ⟨75, [(0, .ref 1000000 0), (5, vl eOp j4.1), (6, vl eOp s18.1), (10, vi s18.2.1), (50, vl eOp s18.1), (53, vi (w64 (2 + x22.1))), (58, vs x24), (59, .ref 1000000 0)], [(1000000, .box (tc el01Source x23.2))]⟩ ?_
  obtain ⟨x25, hx25, h⟩ := bind_some h
  refine DGo.write [] (xw ents66 (spec_l01GoodPhrase_run x23.2 _ hx25)) ?_
  obtain ⟨x26, hx26, h⟩ := bind_some h
  refine DGo.step (xc ents65 (spec_MakeOp_run s18.1 (w64 (2 + x22.1)) x24 x25.1 _ hx26)) ?_
  refine DGo.ck tbokGB false 5 ⟨75, [(0, .ref 1000000 0), (5, vl eOp j4.1), (6, vl eOp s18.1), (10, vi s18.2.1), (11, .own 61), (12, vi x26.2)], [(61, .deep 53 5 x26.1.length [.flat, .flat, .flat, .flat, (.sl 2 1 [.flat])] (x26.1.map eOp)), (1000000, .box (tc el01Source x25.2))]⟩ ?_
  refine DGo.nx ?_
  refine srk tbokGB ⟨75, [(0, .ref 1000000 0), (5, vl eOp j4.1), (6, vl eOp s18.1), (10, vi s18.2.1), (11, .own 61), (65, vb (x26.2 == 0))], [(61, .deep 53 5 x26.1.length [.flat, .flat, .flat, .flat, (.sl 2 1 [.flat])] (x26.1.map eOp)), (1000000, .box (tc el01Source x25.2))]⟩ ?_
  refine swp_cd h (fun h => ?_) fun h => ?_
  refine swp_reg ?_
  refine SRun.ck tbokGB 2 ⟨75, [(0, .ref 1000000 0), (5, vl eOp j4.1), (6, .own 61), (10, vi s18.2.1)], [(61, .deep 53 5 x26.1.length [.flat, .flat, .flat, .flat, (.sl 2 1 [.flat])] (x26.1.map eOp)), (1000000, .box (tc el01Source x25.2))]⟩ ?_
  refine SRun.nil ?_
  obtain rfl := inj h
  exact q_bn (q_j ((Le.frzD' (d := 61) (e := 53) (m := 5) (n := x26.1.length) (ss := [.flat, .flat, .flat, .flat, (.sl 2 1 [.flat])]) (es := x26.1.map eOp) (by kernel_rfl) (by kernel_rfl)).trans (Le.sub0)))
  refine swp_skip ?_
  obtain rfl := inj h
  exact q_bn (q_j (Le.sub0))
  refine swp_reg ?_
  refine SRun.ck tbokGB 3 ⟨75, [(0, .ref 1000000 0), (5, vl eOp j4.1), (6, vl eOp j20.1), (10, vi (w64 (s18.2.1 - 1)))], [(1000000, .box (tc el01Source j20.2))]⟩ ?_
  refine SRun.nil ?_
  obtain rfl := inj h
  exact q_l (Le.sub0)
  refine swp_exit ?_
  obtain rfl := inj h
  exact nx_e (q_re (q_bh (q_j (Le.sub0))))
  refine swp_seq ?_
  refine sr ?_
  refine SRun.ck tbokGB 1 ⟨75, [(0, .ref 1000000 0), (5, vl eOp j4.1), (6, vl eOp j16.1), (67, .ref 1000000 0)], [(1000000, .box (tc el01Source j16.2))]⟩ ?_
  obtain ⟨x27, hx27, h⟩ := bind_some h
  refine SRun.estep (xe ents38 (spec_l01Next_run j16.2 8 _ hx27)) ?_
  refine ckn tbokGB 1 ⟨75, [(0, .ref 1000000 0), (5, vl eOp j4.1), (6, vl eOp j16.1), (69, vb (x27.1 == 0))], [(1000000, .box (tc el01Source x27.2))]⟩ ?_
  refine swp_seqJ h (fun j28 => ⟨75, [(5, vl eOp j4.1), (6, vl eOp j28.1)], [(1000000, .box (tc el01Source j28.2))]⟩) (fun v29 h => ?_) (fun j28 h => ?_)
  refine swp_cd h (fun h => ?_) fun h => ?_
  refine swp_reg ?_
  refine SRun.ck tbokGB 2 ⟨75, [(5, vl eOp j4.1), (70, .ref 1000000 0), (71, vl eOp j16.1)], [(1000000, .box (tc el01Source x27.2))]⟩ ?_
  obtain ⟨x30, hx30, h⟩ := bind_some h
  refine SRun.estep (xe ents62 (spec_l32Grow_run x27.2 j16.1 2 _ hx30)) ?_
  refine SRun.ck tbokGB 1 ⟨75, [(5, vl eOp j4.1), (6, vl eOp x30.1)], [(1000000, .box (tc el01Source x30.2))]⟩ ?_
  refine SRun.nil ?_
  obtain rfl := inj h
  exact q_j (Le.sub0)
  refine swp_skip ?_
  obtain rfl := inj h
  exact q_j (Le.sub0)
  refine srk tbokGB ⟨75, [(2, vl eOp j4.1), (3, vl eOp j28.1)], [(1000000, .box (tc el01Source j28.2))]⟩ ?_
  refine swp_ret ?_
  obtain rfl := inj h
  exact q_fr (fin_io (f2 ft ft) (y := .box (tc el01Source j28.2)) (by kernel_rfl) rfl (by kernel_rfl) (by kernel_rfl))
theorem ents40 : Ents Tryz.prog 40 := ents_of Tryz.func40 (by kernel_rfl) rfl
noncomputable def spec_l32Find (aLog : (List Op)) (aOffice : Int) (aNumber : Int) : Option (Int) :=
  (((forN (aLog.length : Int) (fun (i3 : Int) (_ : Unit) => ((((at' aLog i3).bind fun x7 => (bif (x7.Office == aOffice) then ((at' aLog i3).bind fun x8 => some (x8.Number == aNumber)) else some false))).bind fun (j9 : Bool) => (bif j9 then some (.inr (.inr i3)) else some (.inl ())))) (fun (_ : Unit) => .inl ()) 0 ())).bind (Sum.elim (fun (_ : Unit) => some (-1)) some))
theorem spec_l32Find_run (aLog : (List Op)) (aOffice : Int) (aNumber : Int) (r : Int) (h : spec_l32Find aLog aOffice aNumber = some r) : SCall Tryz.prog 45 [.v (vl eOp aLog), .v (vi aOffice), .v (vi aNumber)] ⟨[.v (vi r)], [], false⟩ := by
  refine scall_in Tryz.func45 rfl [(.tmp 6)] rfl (fun r => ⟨[.v (vi r)], [], false⟩) (r := r) ?_
  unfold spec_l32Find at h
  refine srk tbokGB ⟨31, [(0, vl eOp aLog), (1, vi aOffice), (2, vi aNumber)], []⟩ ?_
  refine swp_seq ?_
  refine srk tbokGB ⟨31, [(0, vl eOp aLog), (1, vi aOffice), (2, vi aNumber), (7, vi 0)], []⟩ ?_
  refine swp_seqE (r := r) h (fun j1 => ⟨31, [], []⟩) (fun v2 h => ?_) (fun j1 h => ?_)
  refine swp_blk (a := v2) ?_
  refine swp_lpL (r := v2) (s := (0, ())) _ (fun s3 => ⟨31, [(0, vl eOp aLog), (1, vi aOffice), (2, vi aNumber), (7, vi s3.1)], []⟩) _ (Le.sub0) h (fun s3 v4 h => ?_)
  refine swp_seq ?_
  refine srk tbokGB ⟨31, [(0, vl eOp aLog), (1, vi aOffice), (2, vi aNumber), (7, vi s3.1), (11, vb (decide (s3.1 < (aLog.length : Int))))], []⟩ ?_
  refine swp_cd h (fun h => ?_) fun h => ?_
  refine swp_skip ?_
  refine nx_n ?_
  refine swp_seq ?_
  refine swp_seqL (r := v4) h (fun j5 => ⟨31, [(0, vl eOp aLog), (1, vi aOffice), (2, vi aNumber), (7, vi s3.1)], []⟩) (fun v6 h => ?_) (fun j5 h => ?_)
  refine swp_blk (a := v6) ?_
  refine swp_seq ?_
  refine swp_regJ h (fun j9 => ⟨31, [(0, vl eOp aLog), (1, vi aOffice), (2, vi aNumber), (7, vi s3.1), (29, vb j9)], []⟩) (fun v10 h => ?_) (fun j9 h => ?_)
  refine SRun.ck tbokGB 2 ⟨31, [(0, vl eOp aLog), (1, vi aOffice), (2, vi aNumber), (7, vi s3.1), (14, vl eOp aLog), (15, vi s3.1)], []⟩ ?_
  obtain ⟨x7, hx7, h⟩ := bind_some h
  refine SRun.ls (x_index (L := aLog) (f := eOp) (ti := ti27) (tj := ti53) (e := 53) (k := .i64) tbokGB rfl hx7) ?_
  refine SRun.ck tbokGB 5 ⟨31, [(0, vl eOp aLog), (1, vi aOffice), (2, vi aNumber), (7, vi s3.1), (21, vb (x7.Office == aOffice))], []⟩ ?_
  refine SRun.cu [(21, fun b => b)] h (fun h => ?_) fun h => ?_
  refine SRun.ck tbokGB 2 ⟨31, [(0, vl eOp aLog), (1, vi aOffice), (2, vi aNumber), (7, vi s3.1), (21, vb true), (22, vl eOp aLog), (23, vi s3.1)], []⟩ ?_
  obtain ⟨x8, hx8, h⟩ := bind_some h
  refine SRun.ls (x_index (L := aLog) (f := eOp) (ti := ti27) (tj := ti53) (e := 53) (k := .i64) tbokGB rfl hx8) ?_
  refine SRun.ck tbokGB 5 ⟨31, [(0, vl eOp aLog), (1, vi aOffice), (2, vi aNumber), (7, vi s3.1), (29, vb (x8.Number == aNumber))], []⟩ ?_
  refine SRun.nil ?_
  obtain rfl := inj h
  exact Le.sub0
  refine SRun.ck tbokGB 8 ⟨31, [(0, vl eOp aLog), (1, vi aOffice), (2, vi aNumber), (7, vi s3.1), (29, vb false)], []⟩ ?_
  refine SRun.nil ?_
  obtain rfl := inj h
  exact Le.sub0
  refine swp_cd h (fun h => ?_) fun h => ?_
  refine srk tbokGB ⟨31, [(6, vi s3.1)], []⟩ ?_
  refine swp_ret ?_
  obtain rfl := inj h
  exact q_br (q_rr (q_rr (q_br (q_rr (q_fr (f1 fv))))))
  refine swp_skip ?_
  obtain rfl := inj h
  exact q_bn (q_l (Le.sub0))
  refine swp_reg ?_
  refine SRun.ck tbokGB 3 ⟨31, [(0, vl eOp aLog), (1, vi aOffice), (2, vi aNumber), (7, vi (w64 (s3.1 + 1)))], []⟩ ?_
  refine SRun.nil ?_
  obtain rfl := inj h
  exact q_l (Le.sub0)
  refine swp_exit ?_
  obtain rfl := inj h
  exact nx_e (q_re (q_bh (q_l (Le.sub0))))
  refine srk tbokGB ⟨31, [(6, vi (-1))], []⟩ ?_
  refine swp_ret ?_
  obtain rfl := inj h
  exact q_fr (f1 fv)
theorem ents45 : Ents Tryz.prog 45 := ents_of Tryz.func45 (by kernel_rfl) rfl
noncomputable def spec_l01Same (aA : (List Int)) (aB : (List Int)) : Option (Bool) :=
  (bif ((aA.length : Int) != (aB.length : Int)) then some false else (((forN (aA.length : Int) (fun (i3 : Int) (_ : Unit) => ((at' aA i3).bind fun x7 => ((at' aB i3).bind fun x8 => (bif (x7 != x8) then some (.inr (.inr false)) else some (.inl ()))))) (fun (_ : Unit) => .inl ()) 0 ())).bind (Sum.elim (fun (_ : Unit) => some true) some)))
theorem spec_l01Same_run (aA : (List Int)) (aB : (List Int)) (r : Bool) (h : spec_l01Same aA aB = some r) : SCall Tryz.prog 71 [.v (vl (eI .i64) aA), .v (vl (eI .i64) aB)] ⟨[.v (vb r)], [], false⟩ := by
  refine scall_in Tryz.func71 rfl [(.tmp 4)] rfl (fun r => ⟨[.v (vb r)], [], false⟩) (r := r) ?_
  unfold spec_l01Same at h
  refine srk tbokGB ⟨26, [(0, vl (eI .i64) aA), (1, vl (eI .i64) aB)], []⟩ ?_
  refine swp_seq ?_
  refine srk tbokGB ⟨26, [(0, vl (eI .i64) aA), (1, vl (eI .i64) aB), (10, vb ((aA.length : Int) != (aB.length : Int)))], []⟩ ?_
  refine swp_cd h (fun h => ?_) fun h => ?_
  refine srk tbokGB ⟨26, [(4, vb false)], []⟩ ?_
  refine swp_ret ?_
  obtain rfl := inj h
  exact nx_r (q_fr (f1 fv))
  refine swp_skip ?_
  refine nx_n ?_
  refine swp_seq ?_
  refine srk tbokGB ⟨26, [(0, vl (eI .i64) aA), (1, vl (eI .i64) aB), (5, vi 0)], []⟩ ?_
  refine swp_seqE (r := r) h (fun j1 => ⟨26, [], []⟩) (fun v2 h => ?_) (fun j1 h => ?_)
  refine swp_blk (a := v2) ?_
  refine swp_lpL (r := v2) (s := (0, ())) _ (fun s3 => ⟨26, [(0, vl (eI .i64) aA), (1, vl (eI .i64) aB), (5, vi s3.1)], []⟩) _ (Le.sub0) h (fun s3 v4 h => ?_)
  refine swp_seq ?_
  refine srk tbokGB ⟨26, [(0, vl (eI .i64) aA), (1, vl (eI .i64) aB), (5, vi s3.1), (14, vb (decide (s3.1 < (aA.length : Int))))], []⟩ ?_
  refine swp_cd h (fun h => ?_) fun h => ?_
  refine swp_skip ?_
  refine nx_n ?_
  refine swp_seq ?_
  refine swp_seqL (r := v4) h (fun j5 => ⟨26, [(0, vl (eI .i64) aA), (1, vl (eI .i64) aB), (5, vi s3.1)], []⟩) (fun v6 h => ?_) (fun j5 h => ?_)
  refine swp_blk (a := v6) ?_
  refine swp_seq ?_
  refine swp_dr mixed ?_
  refine DGo.ck tbokGB false 2 ⟨26, [(0, vl (eI .i64) aA), (1, vl (eI .i64) aB), (5, vi s3.1), (17, vl (eI .i64) aA), (18, vi s3.1)], []⟩ ?_
  obtain ⟨x7, hx7, h⟩ := bind_some h
  refine DGo.step (x_index (L := aA) (f := (eI .i64)) (ti := ti40) (tj := ti2) (e := 2) (k := .i64) tbokGB rfl hx7) ?_
  refine DGo.ck tbokGB false 3 ⟨26, [(0, vl (eI .i64) aA), (1, vl (eI .i64) aB), (5, vi s3.1), (20, vi x7), (21, vl (eI .i64) aB), (22, vi s3.1)], []⟩ ?_
  obtain ⟨x8, hx8, h⟩ := bind_some h
  refine DGo.step (x_index (L := aB) (f := (eI .i64)) (ti := ti40) (tj := ti2) (e := 2) (k := .i64) tbokGB rfl hx8) ?_
  refine DGo.ck tbokGB false 2 ⟨26, [(0, vl (eI .i64) aA), (1, vl (eI .i64) aB), (5, vi s3.1), (25, vb (x7 != x8))], []⟩ ?_
  refine DGo.nx ?_
  refine swp_cd h (fun h => ?_) fun h => ?_
  refine srk tbokGB ⟨26, [(4, vb false)], []⟩ ?_
  refine swp_ret ?_
  obtain rfl := inj h
  exact q_br (q_rr (q_rr (q_br (q_rr (q_fr (f1 fv))))))
  refine swp_skip ?_
  obtain rfl := inj h
  exact q_bn (q_l (Le.sub0))
  refine swp_reg ?_
  refine SRun.ck tbokGB 3 ⟨26, [(0, vl (eI .i64) aA), (1, vl (eI .i64) aB), (5, vi (w64 (s3.1 + 1)))], []⟩ ?_
  refine SRun.nil ?_
  obtain rfl := inj h
  exact q_l (Le.sub0)
  refine swp_exit ?_
  obtain rfl := inj h
  exact nx_e (q_re (q_bh (q_l (Le.sub0))))
  refine srk tbokGB ⟨26, [(4, vb true)], []⟩ ?_
  refine swp_ret ?_
  obtain rfl := inj h
  exact q_fr (f1 fv)
theorem ents71 : Ents Tryz.prog 71 := ents_of Tryz.func71 (by kernel_rfl) rfl
noncomputable def spec_l32Same (aA : Op) (aB : Op) : Option (Bool) :=
  (((bif (aA.Office == aB.Office) then (bif (aA.Number == aB.Number) then (bif (aA.Key.toList == aB.Key.toList) then (bif (aA.Text.toList == aB.Text.toList) then ((spec_l01Same aA.Seen aB.Seen).bind fun x1 => some x1) else some false) else some false) else some false) else some false)).bind fun (j2 : Bool) => some j2)
theorem spec_l32Same_run (aA : Op) (aB : Op) (r : Bool) (h : spec_l32Same aA aB = some r) : SCall Tryz.prog 46 [.v (.agg (tc eOp aA)), .v (.agg (tc eOp aB))] ⟨[.v (vb r)], [], false⟩ := by
  refine scall_in Tryz.func46 rfl [(.tmp 4)] rfl (fun r => ⟨[.v (vb r)], [], false⟩) (r := r) ?_
  unfold spec_l32Same at h
  refine srk tbokGB ⟨38, [(2, .ref 2 0), (3, .ref 3 0)], [(2, .box (tc eOp aA)), (3, .box (tc eOp aB))]⟩ ?_
  refine swp_seq ?_
  refine swp_regJ h (fun j2 => ⟨38, [(4, vb j2)], []⟩) (fun v3 h => ?_) (fun j2 h => ?_)
  refine SRun.ck tbokGB 6 ⟨38, [(2, .ref 2 0), (3, .ref 3 0), (10, vb (aA.Office == aB.Office))], [(2, .box (tc eOp aA)), (3, .box (tc eOp aB))]⟩ ?_
  refine SRun.cu [(10, fun b => b)] h (fun h => ?_) fun h => ?_
  refine SRun.ck tbokGB 7 ⟨38, [(2, .ref 2 0), (3, .ref 3 0), (17, vb (aA.Number == aB.Number))], [(2, .box (tc eOp aA)), (3, .box (tc eOp aB))]⟩ ?_
  refine SRun.cu [(17, fun b => b)] h (fun h => ?_) fun h => ?_
  refine SRun.ck tbokGB 7 ⟨38, [(2, .ref 2 0), (3, .ref 3 0), (24, vb (aA.Key.toList == aB.Key.toList))], [(2, .box (tc eOp aA)), (3, .box (tc eOp aB))]⟩ ?_
  refine SRun.cu [(24, fun b => b)] h (fun h => ?_) fun h => ?_
  refine SRun.ck tbokGB 7 ⟨38, [(2, .ref 2 0), (3, .ref 3 0), (31, vb (aA.Text.toList == aB.Text.toList))], [(2, .box (tc eOp aA)), (3, .box (tc eOp aB))]⟩ ?_
  refine SRun.cu [(31, fun b => b)] h (fun h => ?_) fun h => ?_
  refine SRun.ck tbokGB 4 ⟨38, [(31, vb true), (33, vl (eI .i64) aA.Seen), (35, vl (eI .i64) aB.Seen)], []⟩ ?_
  obtain ⟨x1, hx1, h⟩ := bind_some h
  refine SRun.ls (xc ents71 (spec_l01Same_run aA.Seen aB.Seen _ hx1)) ?_
  refine SRun.ck tbokGB 2 ⟨38, [(4, vb x1)], []⟩ ?_
  refine SRun.nil ?_
  obtain rfl := inj h
  exact Le.sub0
  refine SRun.ck tbokGB 7 ⟨38, [(4, vb false)], []⟩ ?_
  refine SRun.nil ?_
  obtain rfl := inj h
  exact Le.sub0
  refine SRun.ck tbokGB 14 ⟨38, [(4, vb false)], []⟩ ?_
  refine SRun.nil ?_
  obtain rfl := inj h
  exact Le.sub0
  refine SRun.ck tbokGB 21 ⟨38, [(4, vb false)], []⟩ ?_
  refine SRun.nil ?_
  obtain rfl := inj h
  exact Le.sub0
  refine SRun.ck tbokGB 28 ⟨38, [(4, vb false)], []⟩ ?_
  refine SRun.nil ?_
  obtain rfl := inj h
  exact Le.sub0
  refine swp_ret ?_
  obtain rfl := inj h
  exact q_fr (f1 fv)
theorem ents46 : Ents Tryz.prog 46 := ents_of Tryz.func46 (by kernel_rfl) rfl
noncomputable def spec_MergeLogs (aA : (List Op)) (aB : (List Op)) : Option ((List Op) × Int) :=
  ((((spec_IsLog aA).bind fun x1 => (bif (!x1) then some true else ((spec_IsLog aB).bind fun x2 => some (!x2))))).bind fun (j3 : Bool) => (bif j3 then some (([] : List Op), 1) else ((app' ([] : List Op) aA).bind fun x5 => (((forN (aB.length : Int) (fun (i8 : Int) (s8 : (List Op)) => ((at' aB i8).bind fun x12 => ((at' aB i8).bind fun x13 => ((spec_l32Find aA x12.Office x13.Number).bind fun x14 => (bif (decide (x14 < 0)) then ((at' aB i8).bind fun x15 => ((app' s8 ([x15] : List Op)).bind fun x16 => some (.inl x16))) else ((at' aA x14).bind fun x17 => ((at' aB i8).bind fun x18 => ((spec_l32Same x17 x18).bind fun x19 => (bif (!x19) then some (.inr (.inr (([] : List Op), 5))) else some (.inl s8)))))))))) (fun (s8 : (List Op)) => .inl s8) 0 x5)).bind (Sum.elim (fun (j6 : (List Op)) => (bif (decide ((j6.length : Int) > 16)) then some (([] : List Op), 3) else ((spec_l32Own j6).bind fun x20 => some (x20, 0)))) some)))))
theorem spec_MergeLogs_run (aA : (List Op)) (aB : (List Op)) (r : (List Op) × Int) (h : spec_MergeLogs aA aB = some r) : SCall Tryz.prog 17 [.v (vl eOp aA), .v (vl eOp aB)] ⟨[.deep 53 5 r.1.length [.flat, .flat, .flat, .flat, (.sl 2 1 [.flat])] (r.1.map eOp), .v (vi r.2)], [], false⟩ := by
  refine scall_in Tryz.func17 rfl [(.tmp 4), (.tmp 5)] rfl (fun r => ⟨[.deep 53 5 r.1.length [.flat, .flat, .flat, .flat, (.sl 2 1 [.flat])] (r.1.map eOp), .v (vi r.2)], [], false⟩) (r := r) ?_
  unfold spec_MergeLogs at h
  refine srk tbokGB ⟨62, [(0, vl eOp aA), (1, vl eOp aB)], []⟩ ?_
  refine swp_seq ?_
  refine swp_seq ?_
  refine swp_regJ h (fun j3 => ⟨62, [(0, vl eOp aA), (1, vl eOp aB), (16, vb j3)], []⟩) (fun v4 h => ?_) (fun j3 h => ?_)
  refine SRun.ck tbokGB 1 ⟨62, [(0, vl eOp aA), (1, vl eOp aB), (9, vl eOp aA)], []⟩ ?_
  obtain ⟨x1, hx1, h⟩ := bind_some h
  refine SRun.ls (xc ents29 (spec_IsLog_run aA _ hx1)) ?_
  refine SRun.ck tbokGB 2 ⟨62, [(0, vl eOp aA), (1, vl eOp aB), (12, vb (!x1))], []⟩ ?_
  refine SRun.cu [(12, fun b => b)] h (fun h => ?_) fun h => ?_
  refine SRun.ck tbokGB 4 ⟨62, [(0, vl eOp aA), (1, vl eOp aB), (16, vb true)], []⟩ ?_
  refine SRun.nil ?_
  obtain rfl := inj h
  exact Le.sub0
  refine SRun.ck tbokGB 1 ⟨62, [(0, vl eOp aA), (1, vl eOp aB), (12, vb false), (13, vl eOp aB)], []⟩ ?_
  obtain ⟨x2, hx2, h⟩ := bind_some h
  refine SRun.ls (xc ents29 (spec_IsLog_run aB _ hx2)) ?_
  refine SRun.ck tbokGB 2 ⟨62, [(0, vl eOp aA), (1, vl eOp aB), (16, vb (!x2))], []⟩ ?_
  refine SRun.nil ?_
  obtain rfl := inj h
  exact Le.sub0
  refine swp_cd h (fun h => ?_) fun h => ?_
  refine srk tbokGB ⟨62, [(4, .own 4), (5, vi 1)], [(4, oa 53 5 eOp ([] : List Op))]⟩ ?_
  refine swp_le (Le.deep0 (d := 4) (e := 53) (m := 5) (ss := [.flat, .flat, .flat, .flat, (.sl 2 1 [.flat])]) (by kernel_rfl) (by kernel_rfl)) ?_
  refine swp_ret ?_
  obtain rfl := inj h
  exact nx_r (q_fr (f2 (finD (d := 4) (holds_t (by kernel_rfl)) (by kernel_rfl) (by kernel_rfl)) fv))
  refine swp_skip ?_
  refine nx_n ?_
  refine sr ?_
  refine SRun.ck tbokGB 2 ⟨62, [(0, vl eOp aA), (1, vl eOp aB), (17, .own 17), (18, vl eOp aA)], [(17, oa 53 5 eOp ([] : List Op))]⟩ ?_
  obtain ⟨x5, hx5, h⟩ := bind_some h
  refine SRun.estep (x_append (f := eOp) (t := 27) (ti := ti27) (tj := ti53) (zs := [.int .i64 0, .int .i64 0, .string (ByteArray.mk #[]), .string (ByteArray.mk #[]), .slice none 0 0]) (e := 53) (m := 5) (d := 17) (xv := vl eOp aA) hx5 tbokGB rfl rfl rfl rfl (src_e (fun _ => rfl))) ?_
  refine ckn tbokGB 1 ⟨62, [(0, vl eOp aA), (1, vl eOp aB), (6, .own 19)], [(19, oa 53 5 eOp x5)]⟩ ?_
  refine swp_seq ?_
  refine srk tbokGB ⟨62, [(0, vl eOp aA), (1, vl eOp aB), (6, .own 19), (7, vi 0)], [(19, oa 53 5 eOp x5)]⟩ ?_
  refine swp_seqE (r := r) h (fun j6 => ⟨62, [(6, .own 6)], [(6, oa 53 5 eOp j6)]⟩) (fun v7 h => ?_) (fun j6 h => ?_)
  refine swp_blk (a := v7) ?_
  refine swp_lpL (r := v7) (s := (0, x5)) _ (fun s8 => ⟨62, [(0, vl eOp aA), (1, vl eOp aB), (6, .own 6), (7, vi s8.1)], [(6, oa 53 5 eOp s8.2)]⟩) _ (Le.rr [19] [(19, 6)]) h (fun s8 v9 h => ?_)
  refine swp_seq ?_
  refine srk tbokGB ⟨62, [(0, vl eOp aA), (1, vl eOp aB), (6, .own 6), (7, vi s8.1), (23, vb (decide (s8.1 < (aB.length : Int))))], [(6, oa 53 5 eOp s8.2)]⟩ ?_
  refine swp_cd h (fun h => ?_) fun h => ?_
  refine swp_skip ?_
  refine nx_n ?_
  refine swp_seq ?_
  refine swp_seqL (r := v9) h (fun j10 => ⟨62, [(0, vl eOp aA), (1, vl eOp aB), (6, .own 6), (7, vi s8.1)], [(6, oa 53 5 eOp j10)]⟩) (fun v11 h => ?_) (fun j10 h => ?_)
  refine swp_blk (a := v11) ?_
  refine swp_seq ?_
  refine swp_dr mixed ?_
  refine DGo.ck tbokGB false 3 ⟨62, [(0, vl eOp aA), (1, vl eOp aB), (6, .own 6), (7, vi s8.1), (26, vl eOp aA), (27, vl eOp aB), (28, vi s8.1)], [(6, oa 53 5 eOp s8.2)]⟩ ?_
  obtain ⟨x12, hx12, h⟩ := bind_some h
  refine DGo.step (x_index (L := aB) (f := eOp) (ti := ti27) (tj := ti53) (e := 53) (k := .i64) tbokGB rfl hx12) ?_
  refine DGo.ck tbokGB false 4 ⟨62, [(0, vl eOp aA), (1, vl eOp aB), (6, .own 6), (7, vi s8.1), (26, vl eOp aA), (31, vi x12.Office), (32, vl eOp aB), (33, vi s8.1)], [(6, oa 53 5 eOp s8.2)]⟩ ?_
  obtain ⟨x13, hx13, h⟩ := bind_some h
  refine DGo.step (x_index (L := aB) (f := eOp) (ti := ti27) (tj := ti53) (e := 53) (k := .i64) tbokGB rfl hx13) ?_
  refine DGo.ck tbokGB false 2 ⟨62, [(0, vl eOp aA), (1, vl eOp aB), (6, .own 6), (7, vi s8.1), (26, vl eOp aA), (31, vi x12.Office), (36, vi x13.Number)], [(6, oa 53 5 eOp s8.2)]⟩ ?_
  obtain ⟨x14, hx14, h⟩ := bind_some h
  refine DGo.step (xc ents45 (spec_l32Find_run aA x12.Office x13.Number _ hx14)) ?_
  refine DGo.ck tbokGB false 1 ⟨62, [(0, vl eOp aA), (1, vl eOp aB), (6, .own 6), (7, vi s8.1), (8, vi x14)], [(6, oa 53 5 eOp s8.2)]⟩ ?_
  refine DGo.nx ?_
  refine srk tbokGB ⟨62, [(0, vl eOp aA), (1, vl eOp aB), (6, .own 6), (7, vi s8.1), (8, vi x14), (39, vb (decide (x14 < 0)))], [(6, oa 53 5 eOp s8.2)]⟩ ?_
  refine swp_cd h (fun h => ?_) fun h => ?_
  refine swp_reg ?_
  refine SRun.ck tbokGB 3 ⟨62, [(0, vl eOp aA), (1, vl eOp aB), (7, vi s8.1), (40, .own 6), (41, vl eOp aB), (42, vi s8.1)], [(6, oa 53 5 eOp s8.2)]⟩ ?_
  obtain ⟨x15, hx15, h⟩ := bind_some h
  refine SRun.ls (x_index (L := aB) (f := eOp) (ti := ti27) (tj := ti53) (e := 53) (k := .i64) tbokGB rfl hx15) ?_
  refine SRun.ck tbokGB 2 ⟨62, [(0, vl eOp aA), (1, vl eOp aB), (7, vi s8.1), (40, .own 6), (45, .own 45)], [(6, oa 53 5 eOp s8.2), (45, oa 53 5 eOp ([x15] : List Op))]⟩ ?_
  obtain ⟨x16, hx16, h⟩ := bind_some h
  refine SRun.estep (x_append (f := eOp) (t := 27) (ti := ti27) (tj := ti53) (zs := [.int .i64 0, .int .i64 0, .string (ByteArray.mk #[]), .string (ByteArray.mk #[]), .slice none 0 0]) (e := 53) (m := 5) (d := 6) (xv := .own 45) hx16 tbokGB rfl rfl rfl rfl (x_src_o (e := 53))) ?_
  refine SRun.ck tbokGB 1 ⟨62, [(0, vl eOp aA), (1, vl eOp aB), (6, .own 46), (7, vi s8.1)], [(46, oa 53 5 eOp x16)]⟩ ?_
  refine SRun.nil ?_
  obtain rfl := inj h
  exact q_bn (q_l (Le.rr [46] [(46, 6)]))
  refine swp_seq ?_
  refine swp_dr mixed ?_
  refine DGo.ck tbokGB false 2 ⟨62, [(0, vl eOp aA), (1, vl eOp aB), (6, .own 6), (7, vi s8.1), (47, vl eOp aA), (48, vi x14)], [(6, oa 53 5 eOp s8.2)]⟩ ?_
  obtain ⟨x17, hx17, h⟩ := bind_some h
  refine DGo.step (x_index (L := aA) (f := eOp) (ti := ti27) (tj := ti53) (e := 53) (k := .i64) tbokGB rfl hx17) ?_
  refine DGo.ck tbokGB false 3 ⟨62, [(0, vl eOp aA), (1, vl eOp aB), (6, .own 6), (7, vi s8.1), (50, .agg (tc eOp x17)), (51, vl eOp aB), (52, vi s8.1)], [(6, oa 53 5 eOp s8.2)]⟩ ?_
  obtain ⟨x18, hx18, h⟩ := bind_some h
  refine DGo.step (x_index (L := aB) (f := eOp) (ti := ti27) (tj := ti53) (e := 53) (k := .i64) tbokGB rfl hx18) ?_
  refine DGo.ck tbokGB false 1 ⟨62, [(0, vl eOp aA), (1, vl eOp aB), (6, .own 6), (7, vi s8.1), (50, .agg (tc eOp x17)), (54, .agg (tc eOp x18))], [(6, oa 53 5 eOp s8.2)]⟩ ?_
  obtain ⟨x19, hx19, h⟩ := bind_some h
  refine DGo.step (xc ents46 (spec_l32Same_run x17 x18 _ hx19)) ?_
  refine DGo.ck tbokGB false 1 ⟨62, [(0, vl eOp aA), (1, vl eOp aB), (6, .own 6), (7, vi s8.1), (56, vb (!x19))], [(6, oa 53 5 eOp s8.2)]⟩ ?_
  refine DGo.nx ?_
  refine swp_cd h (fun h => ?_) fun h => ?_
  refine srk tbokGB ⟨62, [(4, .own 4), (5, vi 5)], [(4, oa 53 5 eOp ([] : List Op))]⟩ ?_
  refine swp_le (Le.deep0 (d := 4) (e := 53) (m := 5) (ss := [.flat, .flat, .flat, .flat, (.sl 2 1 [.flat])]) (by kernel_rfl) (by kernel_rfl)) ?_
  refine swp_ret ?_
  obtain rfl := inj h
  exact q_br (q_rr (q_rr (q_br (q_rr (q_fr (f2 (finD (d := 4) (holds_t (by kernel_rfl)) (by kernel_rfl) (by kernel_rfl)) fv))))))
  refine swp_skip ?_
  obtain rfl := inj h
  exact q_bn (q_l (Le.sub0))
  refine swp_reg ?_
  refine SRun.ck tbokGB 3 ⟨62, [(0, vl eOp aA), (1, vl eOp aB), (6, .own 6), (7, vi (w64 (s8.1 + 1)))], [(6, oa 53 5 eOp j10)]⟩ ?_
  refine SRun.nil ?_
  obtain rfl := inj h
  exact q_l (Le.sub0)
  refine swp_exit ?_
  obtain rfl := inj h
  exact nx_e (q_re (q_bh (q_l (Le.sub0))))
  refine swp_seq ?_
  refine srk tbokGB ⟨62, [(6, .own 6), (59, vb (decide ((j6.length : Int) > 16)))], [(6, oa 53 5 eOp j6)]⟩ ?_
  refine swp_cd h (fun h => ?_) fun h => ?_
  refine srk tbokGB ⟨62, [(4, .own 4), (5, vi 3)], [(4, oa 53 5 eOp ([] : List Op))]⟩ ?_
  refine swp_le (Le.deep0 (d := 4) (e := 53) (m := 5) (ss := [.flat, .flat, .flat, .flat, (.sl 2 1 [.flat])]) (by kernel_rfl) (by kernel_rfl)) ?_
  refine swp_ret ?_
  obtain rfl := inj h
  exact nx_r (q_fr (f2 (finD (d := 4) (holds_t (by kernel_rfl)) (by kernel_rfl) (by kernel_rfl)) fv))
  refine swp_skip ?_
  refine nx_n ?_
  refine sr ?_
  refine SRun.ck tbokGB 1 ⟨62, [(60, .own 6)], [(6, oa 53 5 eOp j6)]⟩ ?_
  obtain ⟨x20, hx20, h⟩ := bind_some h
  refine SRun.ls (xc ents47 (spec_l32Own_run j6 _ hx20)) ?_
  refine ckn tbokGB 2 ⟨62, [(4, .own 61), (5, vi 0)], [(61, .deep 53 5 x20.length [.flat, .flat, .flat, .flat, (.sl 2 1 [.flat])] (x20.map eOp))]⟩ ?_
  refine swp_ret ?_
  obtain rfl := inj h
  exact q_fr (f2 (finD (d := 61) (holds_t (by kernel_rfl)) (by kernel_rfl) (by kernel_rfl)) fv)
theorem ents17 : Ents Tryz.prog 17 := ents_of Tryz.func17 (by kernel_rfl) rfl
noncomputable def spec_l01DrawWord (aS : l01Source) : Option (ByteArray × l01Source) :=
  ((spec_l01Next aS 30).bind fun x1 => (bif (x1.1 == 0) then ((spec_l01Next x1.2 6).bind fun x2 => ((at' ([(ByteArray.mk #[]), (ByteArray.mk #[70, 111, 114, 100]), (ByteArray.mk #[97, 49]), (ByteArray.mk #[97, 98, 99, 100, 101, 102, 103, 104, 105, 106, 107, 108, 109, 110, 111, 112]), (ByteArray.mk #[97, 98, 99, 100, 101, 102, 103, 104, 105, 106, 107, 108, 109, 110, 111, 112, 113]), (ByteArray.mk #[97, 32, 98])] : List ByteArray) x2.1).bind fun x3 => some (x3, x2.2))) else ((spec_l01Good x1.2).bind fun x4 => some (x4.1, x4.2))))
theorem spec_l01DrawWord_run (aS : l01Source) (r : ByteArray × l01Source) (h : spec_l01DrawWord aS = some r) : SCall Tryz.prog 63 [.o (.box [vl (eI .u8) aS.code, vi aS.at', vi aS.seed])] ⟨[.v (vs r.1)], [(0, .box (tc el01Source r.2))], false⟩ := by
  refine scall_in Tryz.func63 rfl [(.tmp 2)] rfl (fun r => ⟨[.v (vs r.1)], [(0, .box (tc el01Source r.2))], false⟩) (r := r) ?_
  unfold spec_l01DrawWord at h
  refine srk tbokGB ⟨13, [(0, .ref 1000000 0)], [(1000000, .box (tc el01Source aS))]⟩ ?_
  refine swp_seq ?_
  refine sr ?_
  refine SRun.ck tbokGB 1 ⟨13, [(0, .ref 1000000 0), (3, .ref 1000000 0)], [(1000000, .box (tc el01Source aS))]⟩ ?_
  obtain ⟨x1, hx1, h⟩ := bind_some h
  refine SRun.estep (xe ents38 (spec_l01Next_run aS 30 _ hx1)) ?_
  refine ckn tbokGB 1 ⟨13, [(0, .ref 1000000 0), (5, vb (x1.1 == 0))], [(1000000, .box (tc el01Source x1.2))]⟩ ?_
  refine swp_cd h (fun h => ?_) fun h => ?_
  refine sr ?_
  refine SRun.ck tbokGB 2 ⟨13, [(6, .own 6), (7, .ref 1000000 0)], [(6, oa 9 1 eS ([(ByteArray.mk #[]), (ByteArray.mk #[70, 111, 114, 100]), (ByteArray.mk #[97, 49]), (ByteArray.mk #[97, 98, 99, 100, 101, 102, 103, 104, 105, 106, 107, 108, 109, 110, 111, 112]), (ByteArray.mk #[97, 98, 99, 100, 101, 102, 103, 104, 105, 106, 107, 108, 109, 110, 111, 112, 113]), (ByteArray.mk #[97, 32, 98])] : List ByteArray)), (1000000, .box (tc el01Source x1.2))]⟩ ?_
  obtain ⟨x2, hx2, h⟩ := bind_some h
  refine SRun.estep (xe ents38 (spec_l01Next_run x1.2 6 _ hx2)) ?_
  obtain ⟨x3, hx3, h⟩ := bind_some h
  refine SRun.ls (x_index_own (d := 6) (L := ([(ByteArray.mk #[]), (ByteArray.mk #[70, 111, 114, 100]), (ByteArray.mk #[97, 49]), (ByteArray.mk #[97, 98, 99, 100, 101, 102, 103, 104, 105, 106, 107, 108, 109, 110, 111, 112]), (ByteArray.mk #[97, 98, 99, 100, 101, 102, 103, 104, 105, 106, 107, 108, 109, 110, 111, 112, 113]), (ByteArray.mk #[97, 32, 98])] : List ByteArray)) (f := eS) (ti := ti24) (tj := ti9) (e := 9) (e' := 9) (m := 1) (k := .i64) tbokGB rfl hx3) ?_
  refine SRun.ls (x_load_own (d := 6) (m := 1) (j := 0) (L := ([(ByteArray.mk #[]), (ByteArray.mk #[70, 111, 114, 100]), (ByteArray.mk #[97, 49]), (ByteArray.mk #[97, 98, 99, 100, 101, 102, 103, 104, 105, 106, 107, 108, 109, 110, 111, 112]), (ByteArray.mk #[97, 98, 99, 100, 101, 102, 103, 104, 105, 106, 107, 108, 109, 110, 111, 112, 113]), (ByteArray.mk #[97, 32, 98])] : List ByteArray)) (f := eS) (ti := ti9) (e := 9) (v := vs x3) tbokGB rfl hx3) ?_
  refine ckn tbokGB 1 ⟨13, [(2, vs x3)], [(1000000, .box (tc el01Source x2.2))]⟩ ?_
  refine swp_ret ?_
  obtain rfl := inj h
  exact nx_r (q_fr (fin_io (f1 fv) (y := .box (tc el01Source x2.2)) (by kernel_rfl) rfl (by kernel_rfl) (by kernel_rfl)))
  refine swp_skip ?_
  refine nx_n ?_
  refine sr ?_
  refine SRun.ck tbokGB 1 ⟨13, [(11, .ref 1000000 0)], [(1000000, .box (tc el01Source x1.2))]⟩ ?_
  obtain ⟨x4, hx4, h⟩ := bind_some h
  refine SRun.estep (xe ents83 (spec_l01Good_run x1.2 _ hx4)) ?_
  refine ckn tbokGB 1 ⟨13, [(2, vs x4.1)], [(1000000, .box (tc el01Source x4.2))]⟩ ?_
  refine swp_ret ?_
  obtain rfl := inj h
  exact q_fr (fin_io (f1 fv) (y := .box (tc el01Source x4.2)) (by kernel_rfl) rfl (by kernel_rfl) (by kernel_rfl))
theorem ents63 : Ents Tryz.prog 63 := ents_of Tryz.func63 (by kernel_rfl) rfl
noncomputable def spec_l01Pick (aS : l01Source) (aList : (List Int)) : Option (Int × l01Source) :=
  ((spec_l01Next aS (aList.length : Int)).bind fun x1 => ((at' aList x1.1).bind fun x2 => some (x2, x1.2)))
theorem spec_l01Pick_run (aS : l01Source) (aList : (List Int)) (r : Int × l01Source) (h : spec_l01Pick aS aList = some r) : SCall Tryz.prog 64 [.o (.box [vl (eI .u8) aS.code, vi aS.at', vi aS.seed]), .v (vl (eI .i64) aList)] ⟨[.v (vi r.1)], [(0, .box (tc el01Source r.2))], false⟩ := by
  refine scall_in Tryz.func64 rfl [(.tmp 4)] rfl (fun r => ⟨[.v (vi r.1)], [(0, .box (tc el01Source r.2))], false⟩) (r := r) ?_
  unfold spec_l01Pick at h
  refine srk tbokGB ⟨12, [(0, .ref 1000000 0), (1, vl (eI .i64) aList)], [(1000000, .box (tc el01Source aS))]⟩ ?_
  refine sr ?_
  refine SRun.ck tbokGB 4 ⟨12, [(5, vl (eI .i64) aList), (6, .ref 1000000 0), (8, vi (aList.length : Int))], [(1000000, .box (tc el01Source aS))]⟩ ?_
  obtain ⟨x1, hx1, h⟩ := bind_some h
  refine SRun.estep (xe ents38 (spec_l01Next_run aS (aList.length : Int) _ hx1)) ?_
  obtain ⟨x2, hx2, h⟩ := bind_some h
  refine SRun.ls (x_index (L := aList) (f := (eI .i64)) (ti := ti40) (tj := ti2) (e := 2) (k := .i64) tbokGB rfl hx2) ?_
  refine ckn tbokGB 2 ⟨12, [(4, vi x2)], [(1000000, .box (tc el01Source x1.2))]⟩ ?_
  refine swp_ret ?_
  obtain rfl := inj h
  exact q_fr (fin_io (f1 fv) (y := .box (tc el01Source x1.2)) (by kernel_rfl) rfl (by kernel_rfl) (by kernel_rfl))
theorem ents64 : Ents Tryz.prog 64 := ents_of Tryz.func64 (by kernel_rfl) rfl
noncomputable def spec_l32Draw (aS : l01Source) : Option ((List Op) × l01Source) :=
  ((spec_l32Two aS).bind fun x1 => ((spec_MergeLogs x1.1 x1.2.1).bind fun x2 => (((bif (x2.2 != 0) then some x1.1 else some x2.1)).bind fun (j3 : (List Op)) => ((spec_l01Next x1.2.2 3).bind fun x5 => ((spec_l32Grow x5.2 j3 x5.1).bind fun x6 => ((app' ([] : List Op) x6.1).bind fun x7 => (((bif (decide ((x7.length : Int) > 0)) then ((spec_l01Next x6.2 (x7.length : Int)).bind fun x10 => ((spec_l01Next x10.2 30).bind fun x11 => (bif (x11.1 == 0) then ((spec_l01Next x11.2 5).bind fun x12 => ((at' x7 x10.1).bind fun x13 => some ((List.set x7 (Int.toNat x10.1) (Op.mk x13.Office x12.1 x13.Key x13.Text x13.Seen)), x12.2))) else (bif (x11.1 == 1) then ((spec_l01DrawWord x11.2).bind fun x14 => ((at' x7 x10.1).bind fun x15 => some ((List.set x7 (Int.toNat x10.1) (Op.mk x15.Office x15.Number x14.1 x15.Text x15.Seen)), x14.2))) else (bif (x11.1 == 2) then ((at' x7 x10.1).bind fun x16 => some ((List.set x7 (Int.toNat x10.1) (Op.mk x16.Office x16.Number x16.Key x16.Text ([9, 0, 0, 0] : List Int))), x11.2)) else (bif (x11.1 == 3) then ((spec_l01Pick x11.2 ([0, 3, 4, (-1)] : List Int)).bind fun x17 => ((at' x7 x10.1).bind fun x18 => some ((List.set x7 (Int.toNat x10.1) (Op.mk x17.1 x18.Number x18.Key x18.Text x18.Seen)), x17.2))) else (bif (x11.1 == 4) then ((spec_l32Grow x11.2 x7 17).bind fun x19 => some (x19.1, x19.2)) else some (x7, x11.2)))))))) else some (x7, x6.2))).bind fun (j8 : (List Op) × l01Source) => some (j8.1, j8.2))))))))
theorem spec_l32Draw_run (aS : l01Source) (r : (List Op) × l01Source) (h : spec_l32Draw aS = some r) : SCall Tryz.prog 39 [.o (.box [vl (eI .u8) aS.code, vi aS.at', vi aS.seed])] ⟨[.v (vl eOp r.1)], [(0, .box (tc el01Source r.2))], true⟩ := by
  refine scall_in Tryz.func39 rfl [(.tmp 2)] rfl (fun r => ⟨[.v (vl eOp r.1)], [(0, .box (tc el01Source r.2))], true⟩) (r := r) ?_
  unfold spec_l32Draw at h
  refine srk tbokGB ⟨76, [(0, .ref 1000000 0)], [(1000000, .box (tc el01Source aS))]⟩ ?_
  refine sr ?_
  refine SRun.ck tbokGB 1 ⟨76, [(0, .ref 1000000 0), (9, .ref 1000000 0)], [(1000000, .box (tc el01Source aS))]⟩ ?_
  obtain ⟨x1, hx1, h⟩ := bind_some h
  refine SRun.estep (xe ents40 (spec_l32Two_run aS _ hx1)) ?_
  refine ckn tbokGB 5 ⟨76, [(0, .ref 1000000 0), (3, vl eOp x1.1), (4, vl eOp x1.2.1)], [(1000000, .box (tc el01Source x1.2.2))]⟩ ?_
  refine sr ?_
  refine SRun.ck tbokGB 2 ⟨76, [(0, .ref 1000000 0), (3, vl eOp x1.1), (14, vl eOp x1.1), (15, vl eOp x1.2.1)], [(1000000, .box (tc el01Source x1.2.2))]⟩ ?_
  obtain ⟨x2, hx2, h⟩ := bind_some h
  refine SRun.ls (xc ents17 (spec_MergeLogs_run x1.1 x1.2.1 _ hx2)) ?_
  refine ckn tbokGB 5 ⟨76, [(0, .ref 1000000 0), (3, vl eOp x1.1), (5, .own 16), (6, vi x2.2)], [(16, .deep 53 5 x2.1.length [.flat, .flat, .flat, .flat, (.sl 2 1 [.flat])] (x2.1.map eOp)), (1000000, .box (tc el01Source x1.2.2))]⟩ ?_
  refine swp_seq ?_
  refine srk tbokGB ⟨76, [(0, .ref 1000000 0), (3, vl eOp x1.1), (5, .own 16), (20, vb (x2.2 != 0))], [(16, .deep 53 5 x2.1.length [.flat, .flat, .flat, .flat, (.sl 2 1 [.flat])] (x2.1.map eOp)), (1000000, .box (tc el01Source x1.2.2))]⟩ ?_
  refine swp_seqJ h (fun j3 => ⟨76, [(0, .ref 1000000 0), (5, vl eOp j3)], [(1000000, .box (tc el01Source x1.2.2))]⟩) (fun v4 h => ?_) (fun j3 h => ?_)
  refine swp_cd h (fun h => ?_) fun h => ?_
  refine swp_reg ?_
  refine SRun.ck tbokGB 2 ⟨76, [(0, .ref 1000000 0), (5, vl eOp x1.1)], [(1000000, .box (tc el01Source x1.2.2))]⟩ ?_
  refine SRun.nil ?_
  obtain rfl := inj h
  exact q_j (Le.sub0)
  refine swp_skip ?_
  obtain rfl := inj h
  exact q_j ((Le.frzD' (d := 16) (e := 53) (m := 5) (n := x2.1.length) (ss := [.flat, .flat, .flat, .flat, (.sl 2 1 [.flat])]) (es := x2.1.map eOp) (by kernel_rfl) (by kernel_rfl)).trans (Le.sub0))
  refine sr ?_
  refine SRun.ck tbokGB 4 ⟨76, [(0, .ref 1000000 0), (22, .own 22), (23, .ref 1000000 0), (24, vl eOp j3), (25, .ref 1000000 0)], [(22, oa 53 5 eOp ([] : List Op)), (1000000, .box (tc el01Source x1.2.2))]⟩ ?_
  obtain ⟨x5, hx5, h⟩ := bind_some h
  refine SRun.estep (xe ents38 (spec_l01Next_run x1.2.2 3 _ hx5)) ?_
  obtain ⟨x6, hx6, h⟩ := bind_some h
  refine SRun.estep (xe ents62 (spec_l32Grow_run x5.2 j3 x5.1 _ hx6)) ?_
  obtain ⟨x7, hx7, h⟩ := bind_some h
  refine SRun.estep (x_append (f := eOp) (t := 27) (ti := ti27) (tj := ti53) (zs := [.int .i64 0, .int .i64 0, .string (ByteArray.mk #[]), .string (ByteArray.mk #[]), .slice none 0 0]) (e := 53) (m := 5) (d := 22) (xv := vl eOp x6.1) hx7 tbokGB rfl rfl rfl rfl (src_e (fun _ => rfl))) ?_
  refine ckn tbokGB 1 ⟨76, [(0, .ref 1000000 0), (5, .own 28)], [(28, oa 53 5 eOp x7), (1000000, .box (tc el01Source x6.2))]⟩ ?_
  refine swp_seq ?_
  refine srk tbokGB ⟨76, [(0, .ref 1000000 0), (5, .own 28), (31, vb (decide ((x7.length : Int) > 0)))], [(28, oa 53 5 eOp x7), (1000000, .box (tc el01Source x6.2))]⟩ ?_
  refine swp_seqJ h (fun j8 => ⟨76, [(5, vl eOp j8.1)], [(1000000, .box (tc el01Source j8.2))]⟩) (fun v9 h => ?_) (fun j8 h => ?_)
  refine swp_cd h (fun h => ?_) fun h => ?_
  refine sr ?_
  refine SRun.ck tbokGB 3 ⟨76, [(0, .ref 1000000 0), (5, .own 28), (32, .ref 1000000 0), (34, vi (x7.length : Int))], [(28, oa 53 5 eOp x7), (1000000, .box (tc el01Source x6.2))]⟩ ?_
  obtain ⟨x10, hx10, h⟩ := bind_some h
  refine SRun.estep (xe ents38 (spec_l01Next_run x6.2 (x7.length : Int) _ hx10)) ?_
  refine ckn tbokGB 1 ⟨76, [(0, .ref 1000000 0), (5, .own 28), (7, vi x10.1)], [(28, oa 53 5 eOp x7), (1000000, .box (tc el01Source x10.2))]⟩ ?_
  refine sr ?_
  refine SRun.ck tbokGB 1 ⟨76, [(0, .ref 1000000 0), (5, .own 28), (7, vi x10.1), (36, .ref 1000000 0)], [(28, oa 53 5 eOp x7), (1000000, .box (tc el01Source x10.2))]⟩ ?_
  obtain ⟨x11, hx11, h⟩ := bind_some h
  refine SRun.estep (xe ents38 (spec_l01Next_run x10.2 30 _ hx11)) ?_
  refine SRun.nx ?_
  refine swp_blk (a := v9) ?_
  refine srk tbokGB ⟨76, [(0, .ref 1000000 0), (5, .own 28), (7, vi x10.1), (37, vi x11.1), (38, vb (x11.1 == 0))], [(28, oa 53 5 eOp x7), (1000000, .box (tc el01Source x11.2))]⟩ ?_
  refine swp_cd h (fun h => ?_) fun h => ?_
  refine swp_reg ?_
  refine SRun.ck tbokGB 3 ⟨76, [(5, .own 28), (40, .own 28), (41, vi x10.1), (42, .ref 1000000 0)], [(28, oa 53 5 eOp x7), (1000000, .box (tc el01Source x11.2))]⟩ ?_
  obtain ⟨x12, hx12, h⟩ := bind_some h
  refine SRun.estep (xe ents38 (spec_l01Next_run x11.2 5 _ hx12)) ?_
  obtain ⟨x13, hx13, h⟩ := bind_some h
  refine SRun.ls (x_index_own (d := 28) (L := x7) (f := eOp) (ti := ti27) (tj := ti53) (e := 53) (e' := 53) (m := 5) (k := .i64) tbokGB rfl hx13) ?_
  refine SRun.ck tbokGB 1 ⟨76, [(5, .own 28), (43, vi x12.1), (45, .eref 28 5 (Int.toNat x10.1) 1)], [(28, oa 53 5 eOp x7), (1000000, .box (tc el01Source x12.2))]⟩ ?_
  refine SRun.estep (x_store_own (d := 28) (m := 5) (j := 1) (L := x7) (f := eOp) (x := (Op.mk x13.Office x12.1 x13.Key x13.Text x13.Seen)) (z := x13) (ti := ti2) (e := 53) (ts := [.int .i64 x12.1]) (vs := [vi x12.1]) (v := vi x12.1) tbokGB rfl rfl hx13) ?_
  refine SRun.nil ?_
  obtain rfl := inj h
  exact q_bn (q_j ((Le.frz' (d := 28) (e := 53) (m := 5) (n := (List.set x7 (Int.toNat x10.1) (Op.mk x13.Office x12.1 x13.Key x13.Text x13.Seen)).length) (es := (List.set x7 (Int.toNat x10.1) (Op.mk x13.Office x12.1 x13.Key x13.Text x13.Seen)).map eOp) (by kernel_rfl) (by kernel_rfl)).trans (Le.sub0)))
  refine srk tbokGB ⟨76, [(0, .ref 1000000 0), (5, .own 28), (7, vi x10.1), (37, vi x11.1), (46, vb (x11.1 == 1))], [(28, oa 53 5 eOp x7), (1000000, .box (tc el01Source x11.2))]⟩ ?_
  refine swp_cd h (fun h => ?_) fun h => ?_
  refine swp_reg ?_
  refine SRun.ck tbokGB 3 ⟨76, [(5, .own 28), (48, .own 28), (49, vi x10.1), (50, .ref 1000000 0)], [(28, oa 53 5 eOp x7), (1000000, .box (tc el01Source x11.2))]⟩ ?_
  obtain ⟨x14, hx14, h⟩ := bind_some h
  refine SRun.estep (xe ents63 (spec_l01DrawWord_run x11.2 _ hx14)) ?_
  obtain ⟨x15, hx15, h⟩ := bind_some h
  refine SRun.ls (x_index_own (d := 28) (L := x7) (f := eOp) (ti := ti27) (tj := ti53) (e := 53) (e' := 53) (m := 5) (k := .i64) tbokGB rfl hx15) ?_
  refine SRun.ck tbokGB 1 ⟨76, [(5, .own 28), (51, vs x14.1), (53, .eref 28 5 (Int.toNat x10.1) 2)], [(28, oa 53 5 eOp x7), (1000000, .box (tc el01Source x14.2))]⟩ ?_
  refine SRun.estep (x_store_own (d := 28) (m := 5) (j := 2) (L := x7) (f := eOp) (x := (Op.mk x15.Office x15.Number x14.1 x15.Text x15.Seen)) (z := x15) (ti := ti9) (e := 53) (ts := [.str x14.1]) (vs := [vs x14.1]) (v := vs x14.1) tbokGB rfl rfl hx15) ?_
  refine SRun.nil ?_
  obtain rfl := inj h
  exact q_bn (q_j ((Le.frz' (d := 28) (e := 53) (m := 5) (n := (List.set x7 (Int.toNat x10.1) (Op.mk x15.Office x15.Number x14.1 x15.Text x15.Seen)).length) (es := (List.set x7 (Int.toNat x10.1) (Op.mk x15.Office x15.Number x14.1 x15.Text x15.Seen)).map eOp) (by kernel_rfl) (by kernel_rfl)).trans (Le.sub0)))
  refine srk tbokGB ⟨76, [(0, .ref 1000000 0), (5, .own 28), (7, vi x10.1), (37, vi x11.1), (54, vb (x11.1 == 2))], [(28, oa 53 5 eOp x7), (1000000, .box (tc el01Source x11.2))]⟩ ?_
  refine swp_cd h (fun h => ?_) fun h => ?_
  refine swp_reg ?_
  refine SRun.ck tbokGB 3 ⟨76, [(5, .own 28), (56, .own 28), (57, vi x10.1), (58, .own 58)], [(28, oa 53 5 eOp x7), (58, oa 2 1 (eI .i64) ([9, 0, 0, 0] : List Int)), (1000000, .box (tc el01Source x11.2))]⟩ ?_
  obtain ⟨x16, hx16, h⟩ := bind_some h
  refine SRun.ls (x_index_own (d := 28) (L := x7) (f := eOp) (ti := ti27) (tj := ti53) (e := 53) (e' := 53) (m := 5) (k := .i64) tbokGB rfl hx16) ?_
  refine SRun.ck tbokGB 1 ⟨76, [(5, .own 28), (58, .own 58), (60, .eref 28 5 (Int.toNat x10.1) 4)], [(28, oa 53 5 eOp x7), (58, oa 2 1 (eI .i64) ([9, 0, 0, 0] : List Int)), (1000000, .box (tc el01Source x11.2))]⟩ ?_
  refine SRun.le (Le.frz' (d := 58) (e := 2) (m := 1) (n := ([9, 0, 0, 0] : List Int).length) (es := ([9, 0, 0, 0] : List Int).map (eI .i64)) (by kernel_rfl) (by kernel_rfl)) ?_
  refine SRun.estep (x_store_own (d := 28) (m := 5) (j := 4) (L := x7) (f := eOp) (x := (Op.mk x16.Office x16.Number x16.Key x16.Text ([9, 0, 0, 0] : List Int))) (z := x16) (ti := ti40) (e := 53) (ts := [.sl ([9, 0, 0, 0] : List Int).length (([9, 0, 0, 0] : List Int).map (eI .i64))]) (vs := [vl (eI .i64) ([9, 0, 0, 0] : List Int)]) (v := vl (eI .i64) ([9, 0, 0, 0] : List Int)) tbokGB rfl rfl hx16) ?_
  refine SRun.nil ?_
  obtain rfl := inj h
  exact q_bn (q_j ((Le.frz' (d := 28) (e := 53) (m := 5) (n := (List.set x7 (Int.toNat x10.1) (Op.mk x16.Office x16.Number x16.Key x16.Text ([9, 0, 0, 0] : List Int))).length) (es := (List.set x7 (Int.toNat x10.1) (Op.mk x16.Office x16.Number x16.Key x16.Text ([9, 0, 0, 0] : List Int))).map eOp) (by kernel_rfl) (by kernel_rfl)).trans (Le.sub0)))
  refine srk tbokGB ⟨76, [(0, .ref 1000000 0), (5, .own 28), (7, vi x10.1), (37, vi x11.1), (61, vb (x11.1 == 3))], [(28, oa 53 5 eOp x7), (1000000, .box (tc el01Source x11.2))]⟩ ?_
  refine swp_cd h (fun h => ?_) fun h => ?_
  refine swp_reg ?_
  refine SRun.ck tbokGB 4 ⟨76, [(5, .own 28), (63, .own 28), (64, vi x10.1), (65, .ref 1000000 0), (66, .own 66)], [(28, oa 53 5 eOp x7), (66, oa 2 1 (eI .i64) ([0, 3, 4, (-1)] : List Int)), (1000000, .box (tc el01Source x11.2))]⟩ ?_
  refine SRun.le (Le.frz' (d := 66) (e := 2) (m := 1) (n := ([0, 3, 4, (-1)] : List Int).length) (es := ([0, 3, 4, (-1)] : List Int).map (eI .i64)) (by kernel_rfl) (by kernel_rfl)) ?_
  obtain ⟨x17, hx17, h⟩ := bind_some h
  refine SRun.estep (xe ents64 (spec_l01Pick_run x11.2 ([0, 3, 4, (-1)] : List Int) _ hx17)) ?_
  obtain ⟨x18, hx18, h⟩ := bind_some h
  refine SRun.ls (x_index_own (d := 28) (L := x7) (f := eOp) (ti := ti27) (tj := ti53) (e := 53) (e' := 53) (m := 5) (k := .i64) tbokGB rfl hx18) ?_
  refine SRun.ck tbokGB 1 ⟨76, [(5, .own 28), (67, vi x17.1), (69, .eref 28 5 (Int.toNat x10.1) 0)], [(28, oa 53 5 eOp x7), (1000000, .box (tc el01Source x17.2))]⟩ ?_
  refine SRun.estep (x_store_own (d := 28) (m := 5) (j := 0) (L := x7) (f := eOp) (x := (Op.mk x17.1 x18.Number x18.Key x18.Text x18.Seen)) (z := x18) (ti := ti2) (e := 53) (ts := [.int .i64 x17.1]) (vs := [vi x17.1]) (v := vi x17.1) tbokGB rfl rfl hx18) ?_
  refine SRun.nil ?_
  obtain rfl := inj h
  exact q_bn (q_j ((Le.frz' (d := 28) (e := 53) (m := 5) (n := (List.set x7 (Int.toNat x10.1) (Op.mk x17.1 x18.Number x18.Key x18.Text x18.Seen)).length) (es := (List.set x7 (Int.toNat x10.1) (Op.mk x17.1 x18.Number x18.Key x18.Text x18.Seen)).map eOp) (by kernel_rfl) (by kernel_rfl)).trans (Le.sub0)))
  refine srk tbokGB ⟨76, [(0, .ref 1000000 0), (5, .own 28), (70, vb (x11.1 == 4))], [(28, oa 53 5 eOp x7), (1000000, .box (tc el01Source x11.2))]⟩ ?_
  refine swp_cd h (fun h => ?_) fun h => ?_
  refine swp_reg ?_
  refine SRun.ck tbokGB 2 ⟨76, [(72, .ref 1000000 0), (73, .own 28)], [(28, oa 53 5 eOp x7), (1000000, .box (tc el01Source x11.2))]⟩ ?_
  refine SRun.le (Le.frz' (d := 28) (e := 53) (m := 5) (n := x7.length) (es := x7.map eOp) (by kernel_rfl) (by kernel_rfl)) ?_
  obtain ⟨x19, hx19, h⟩ := bind_some h
  refine SRun.estep (xe ents62 (spec_l32Grow_run x11.2 x7 17 _ hx19)) ?_
  refine SRun.ck tbokGB 1 ⟨76, [(5, vl eOp x19.1)], [(1000000, .box (tc el01Source x19.2))]⟩ ?_
  refine SRun.nil ?_
  obtain rfl := inj h
  exact q_bn (q_j (Le.sub0))
  refine swp_skip ?_
  obtain rfl := inj h
  exact q_bn (q_j ((Le.frz' (d := 28) (e := 53) (m := 5) (n := x7.length) (es := x7.map eOp) (by kernel_rfl) (by kernel_rfl)).trans (Le.sub0)))
  refine swp_skip ?_
  obtain rfl := inj h
  exact q_j ((Le.frz' (d := 28) (e := 53) (m := 5) (n := x7.length) (es := x7.map eOp) (by kernel_rfl) (by kernel_rfl)).trans (Le.sub0))
  refine srk tbokGB ⟨76, [(2, vl eOp j8.1)], [(1000000, .box (tc el01Source j8.2))]⟩ ?_
  refine swp_ret ?_
  obtain rfl := inj h
  exact q_fr (fin_io (f1 ft) (y := .box (tc el01Source j8.2)) (by kernel_rfl) rfl (by kernel_rfl) (by kernel_rfl))
theorem ents39 : Ents Tryz.prog 39 := ents_of Tryz.func39 (by kernel_rfl) rfl
noncomputable def spec_DrawMergeLogs (aCode : (List Int)) : Option ((List Op) × (List Op)) :=
  ((spec_l01From aCode).bind fun x1 => ((spec_l01Next x1 12).bind fun x2 => (bif (x2.1 == 0) then ((spec_l32Draw x2.2).bind fun x3 => ((spec_l32Draw x3.2).bind fun x4 => some (x3.1, x4.1))) else ((spec_l32Two x2.2).bind fun x5 => some (x5.1, x5.2.1)))))
theorem spec_DrawMergeLogs_run (aCode : (List Int)) (r : (List Op) × (List Op)) (h : spec_DrawMergeLogs aCode = some r) : SCall Tryz.prog 15 [.v (vl (eI .u8) aCode)] ⟨[.v (vl eOp r.1), .v (vl eOp r.2)], [], true⟩ := by
  refine scall_in Tryz.func15 rfl [(.tmp 2), (.tmp 3)] rfl (fun r => ⟨[.v (vl eOp r.1), .v (vl eOp r.2)], [], true⟩) (r := r) ?_
  unfold spec_DrawMergeLogs at h
  refine srk tbokGB ⟨23, [(0, vl (eI .u8) aCode)], []⟩ ?_
  refine sr ?_
  refine SRun.ck tbokGB 1 ⟨23, [(7, vl (eI .u8) aCode)], []⟩ ?_
  obtain ⟨x1, hx1, h⟩ := bind_some h
  refine SRun.ls (xc ents37 (spec_l01From_run aCode _ hx1)) ?_
  refine ckn tbokGB 1 ⟨23, [(4, .ref 8 0)], [(8, .box (tc el01Source x1))]⟩ ?_
  refine swp_seq ?_
  refine sr ?_
  refine SRun.ck tbokGB 1 ⟨23, [(4, .ref 8 0), (9, .ref 8 0)], [(8, .box (tc el01Source x1))]⟩ ?_
  obtain ⟨x2, hx2, h⟩ := bind_some h
  refine SRun.estep (xe ents38 (spec_l01Next_run x1 12 _ hx2)) ?_
  refine ckn tbokGB 1 ⟨23, [(4, .ref 8 0), (11, vb (x2.1 == 0))], [(8, .box (tc el01Source x2.2))]⟩ ?_
  refine swp_cd h (fun h => ?_) fun h => ?_
  refine sr ?_
  refine SRun.ck tbokGB 1 ⟨23, [(4, .ref 8 0), (12, .ref 8 0)], [(8, .box (tc el01Source x2.2))]⟩ ?_
  obtain ⟨x3, hx3, h⟩ := bind_some h
  refine SRun.estep (xe ents39 (spec_l32Draw_run x2.2 _ hx3)) ?_
  refine SRun.ck tbokGB 1 ⟨23, [(13, vl eOp x3.1), (14, .ref 8 0)], [(8, .box (tc el01Source x3.2))]⟩ ?_
  obtain ⟨x4, hx4, h⟩ := bind_some h
  refine SRun.estep (xe ents39 (spec_l32Draw_run x3.2 _ hx4)) ?_
  refine ckn tbokGB 2 ⟨23, [(2, vl eOp x3.1), (3, vl eOp x4.1)], []⟩ ?_
  refine swp_ret ?_
  obtain rfl := inj h
  exact nx_r (q_fr (f2 ft ft))
  refine swp_skip ?_
  refine nx_n ?_
  refine sr ?_
  refine SRun.ck tbokGB 1 ⟨23, [(17, .ref 8 0)], [(8, .box (tc el01Source x2.2))]⟩ ?_
  obtain ⟨x5, hx5, h⟩ := bind_some h
  refine SRun.estep (xe ents40 (spec_l32Two_run x2.2 _ hx5)) ?_
  refine ckn tbokGB 5 ⟨23, [(5, vl eOp x5.1), (6, vl eOp x5.2.1)], []⟩ ?_
  refine srk tbokGB ⟨23, [(2, vl eOp x5.1), (3, vl eOp x5.2.1)], []⟩ ?_
  refine swp_ret ?_
  obtain rfl := inj h
  exact q_fr (f2 ft ft)
theorem ents15 : Ents Tryz.prog 15 := ents_of Tryz.func15 (by kernel_rfl) rfl
def slices_Clone_int64 (L : List Int) : Option (List Int) := if L.length ≤ 68719476736 then some L else none
set_option maxRecDepth 100000 in
theorem slices_Clone_int64_run (L r : List Int) (h : slices_Clone_int64 L = some r) : SCall Tryz.prog 69 [.v (.tr (.sl L.length (L.map (eI .i64))))] ⟨[.own 2 1 r.length (r.map (eI .i64))], [], true⟩ := by
  unfold slices_Clone_int64 at h
  split at h
  · rename_i hh
    injection h with h
    subst h
    refine clone_scall (eI .i64) Tryz.cloneint64 69 2 rfl rfl _ _ 1 8 rfl rfl (by kernel_rfl) (by kernel_rfl) (by kernel_rfl) (by decide) (fun _ => rfl) (fun _ => rfl) L (by omega)
  · cases h
theorem ents69 : Ents Tryz.prog 69 := ents_of Tryz.func69 (by kernel_rfl) rfl
noncomputable def impl_Op_clone (aX : Op) : Option (Op) :=
  ((slices_Clone_int64 aX.Seen).bind fun x1 => some (Op.mk aX.Office aX.Number aX.Key aX.Text x1))
theorem impl_Op_clone_run (aX : Op) (r : Op) (h : impl_Op_clone aX = some r) : SCall Tryz.prog 43 [.v (.agg (tc eOp aX))] ⟨[.part [vi r.Office, vi r.Number, vs r.Key, vs r.Text] [] (oa 2 1 (eI .i64) r.Seen)], [], false⟩ := by
  refine scall_in Tryz.func43 rfl [(.cell 2 53)] rfl (fun r => ⟨[.part [vi r.Office, vi r.Number, vs r.Key, vs r.Text] [] (oa 2 1 (eI .i64) r.Seen)], [], false⟩) (r := r) ?_
  unfold impl_Op_clone at h
  refine srk tbokGB ⟨8, [(1, .ref 1 0), (2, .ref 2 0)], [(1, .box (tc eOp aX)), (2, .box [vi 0, vi 0, vs (ByteArray.mk #[]), vs (ByteArray.mk #[]), vl (eI .i64) ([] : List Int)])]⟩ ?_
  refine sr ?_
  refine SRun.ck tbokGB 2 ⟨8, [(1, .ref 1 0), (2, .ref 2 0), (4, vl (eI .i64) aX.Seen)], [(1, .box (tc eOp aX)), (2, .box [vi 0, vi 0, vs (ByteArray.mk #[]), vs (ByteArray.mk #[]), vl (eI .i64) ([] : List Int)])]⟩ ?_
  obtain ⟨x1, hx1, h⟩ := bind_some h
  refine SRun.ls (xc ents69 (slices_Clone_int64_run aX.Seen _ hx1)) ?_
  refine ckn tbokGB 2 ⟨8, [(1, .ref 1 0), (2, .ref 2 0)], [(1, .box [vi aX.Office, vi aX.Number, vs aX.Key, vs aX.Text, .own 5]), (2, .box [vi 0, vi 0, vs (ByteArray.mk #[]), vs (ByteArray.mk #[]), vl (eI .i64) ([] : List Int)]), (5, oa 2 1 (eI .i64) x1)]⟩ ?_
  refine srk tbokGB ⟨8, [(2, .ref 2 0)], [(2, .box [vi aX.Office, vi aX.Number, vs aX.Key, vs aX.Text, .own 5]), (5, oa 2 1 (eI .i64) x1)]⟩ ?_
  refine swp_ret ?_
  obtain rfl := inj h
  exact q_fr (f1 (finP (d := 5) [vi aX.Office, vi aX.Number, vs aX.Key, vs aX.Text] [] (holds_c tbokGB (d := 2) (cs := [vi aX.Office, vi aX.Number, vs aX.Key, vs aX.Text, .own 5]) (ti := ti53) (by kernel_rfl) (by kernel_rfl) (by kernel_rfl) (by kernel_rfl)) (by kernel_rfl) (flat_map (eI_flat .i64) _) rfl rfl SV.flatL_of SV.flatL_of (by kernel_rfl)))
theorem ents43 : Ents Tryz.prog 43 := ents_of Tryz.func43 (by kernel_rfl) rfl
noncomputable def impl_cloneLog (aLog : (List Op)) : Option ((List Op)) :=
  (((forS (aLog.length : Int) (fun (i3 : Int) (s3 : (List Op)) => ((at' aLog i3).bind fun x7 => ((impl_Op_clone x7).bind fun x8 => ((app' s3 ([x8] : List Op)).bind fun x9 => some x9)))) (fun (s3 : (List Op)) => s3) 0 ([] : List Op))).bind fun (j1 : (List Op)) => some j1)
theorem impl_cloneLog_run (aLog : (List Op)) (r : (List Op)) (h : impl_cloneLog aLog = some r) : SCall Tryz.prog 41 [.v (vl eOp aLog)] ⟨[.deep 53 5 r.length [.flat, .flat, .flat, .flat, (.sl 2 1 [.flat])] (r.map eOp)], [], false⟩ := by
  refine scall_in Tryz.func41 rfl [(.tmp 2)] rfl (fun r => ⟨[.deep 53 5 r.length [.flat, .flat, .flat, .flat, (.sl 2 1 [.flat])] (r.map eOp)], [], false⟩) (r := r) ?_
  unfold impl_cloneLog at h
  refine sr ?_
  refine SRun.ck tbokGB 1 ⟨19, [(2, .own 2), (0, vl eOp aLog)], [(2, oa 53 5 eOp ([] : List Op))]⟩ ?_
  refine SRun.le (Le.deep0 (d := 2) (e := 53) (m := 5) (ss := [.flat, .flat, .flat, .flat, (.sl 2 1 [.flat])]) (by kernel_rfl) (by kernel_rfl)) ?_
  refine SRun.nx ?_
  refine sr ?_
  refine SRun.ck tbokGB 1 ⟨19, [(3, .own 3), (2, .own 2), (0, vl eOp aLog)], [(3, oa 53 5 eOp ([] : List Op)), (2, .deep 53 5 ([] : List Op).length [.flat, .flat, .flat, .flat, (.sl 2 1 [.flat])] (([] : List Op).map eOp))]⟩ ?_
  refine SRun.le (Le.deep0 (d := 3) (e := 53) (m := 5) (ss := [.flat, .flat, .flat, .flat, (.sl 2 1 [.flat])]) (by kernel_rfl) (by kernel_rfl)) ?_
  refine SRun.nx ?_
  refine swp_seq ?_
  refine srk tbokGB ⟨19, [(3, .own 3), (6, vl eOp aLog), (7, vi (aLog.length : Int)), (8, vi 0)], [(3, .deep 53 5 ([] : List Op).length [.flat, .flat, .flat, .flat, (.sl 2 1 [.flat])] (([] : List Op).map eOp))]⟩ ?_
  refine swp_seqJ h (fun j1 => ⟨19, [(3, .own 3)], [(3, .deep 53 5 j1.length [.flat, .flat, .flat, .flat, (.sl 2 1 [.flat])] (j1.map eOp))]⟩) (fun v2 h => ?_) (fun j1 h => ?_)
  refine swp_blk (a := v2) ?_
  refine swp_lpL (r := v2) (s := (0, ([] : List Op))) _ (fun s3 => ⟨19, [(3, .own 3), (6, vl eOp aLog), (7, vi (aLog.length : Int)), (8, vi s3.1)], [(3, .deep 53 5 s3.2.length [.flat, .flat, .flat, .flat, (.sl 2 1 [.flat])] (s3.2.map eOp))]⟩) _ (Le.sub0) h (fun s3 v4 h => ?_)
  refine srk tbokGB ⟨19, [(3, .own 3), (6, vl eOp aLog), (7, vi (aLog.length : Int)), (8, vi s3.1), (9, vb (decide (s3.1 < (aLog.length : Int))))], [(3, .deep 53 5 s3.2.length [.flat, .flat, .flat, .flat, (.sl 2 1 [.flat])] (s3.2.map eOp))]⟩ ?_
  refine swp_seq ?_
  refine swp_cd h (fun h => ?_) fun h => ?_
  refine swp_skip ?_
  refine nx_n ?_
  refine swp_seq ?_
  refine swp_seqJ h (fun j5 => ⟨19, [(3, .own 3), (6, vl eOp aLog), (7, vi (aLog.length : Int)), (8, vi s3.1)], [(3, .deep 53 5 j5.length [.flat, .flat, .flat, .flat, (.sl 2 1 [.flat])] (j5.map eOp))]⟩) (fun v6 h => ?_) (fun j5 h => ?_)
  refine swp_blk (a := v6) ?_
  refine sr ?_
  obtain ⟨x7, hx7, h⟩ := bind_some h
  refine SRun.ls (x_index (L := aLog) (f := eOp) (ti := ti27) (tj := ti53) (e := 53) (k := .i64) tbokGB rfl hx7) ?_
  refine ckn tbokGB 3 ⟨19, [(3, .own 3), (5, .ref 5 0), (6, vl eOp aLog), (7, vi (aLog.length : Int)), (8, vi s3.1)], [(3, .deep 53 5 s3.2.length [.flat, .flat, .flat, .flat, (.sl 2 1 [.flat])] (s3.2.map eOp)), (5, .box (tc eOp x7))]⟩ ?_
  refine swp_reg ?_
  refine SRun.ck tbokGB 2 ⟨19, [(6, vl eOp aLog), (7, vi (aLog.length : Int)), (8, vi s3.1), (12, .own 3), (13, .agg (tc eOp x7))], [(3, .deep 53 5 s3.2.length [.flat, .flat, .flat, .flat, (.sl 2 1 [.flat])] (s3.2.map eOp))]⟩ ?_
  obtain ⟨x8, hx8, h⟩ := bind_some h
  refine SRun.ls (xc ents43 (impl_Op_clone_run x7 _ hx8)) ?_
  refine SRun.estep (x_build_deep (ti := ti27) (tj := ti53) (e := 53) (m := 5) (zs := [.int .i64 0, .int .i64 0, .string (ByteArray.mk #[]), .string (ByteArray.mk #[]), .slice none 0 0]) (v := .agg [vi x8.Office, vi x8.Number, vs x8.Key, vs x8.Text, .own 14]) (cs := [vi x8.Office, vi x8.Number, vs x8.Key, vs x8.Text, .own 14]) (ss := [.flat, .flat, .flat, .flat, (.sl 2 1 [.flat])]) (ts := [.int .i64 x8.Office, .int .i64 x8.Number, .str x8.Key, .str x8.Text, .sl x8.Seen.length (x8.Seen.map (eI .i64))]) (ds := [14]) tbokGB rfl rfl rfl (.cons _ _ _ [] _ _ _ _ (.flat (.int .i64 x8.Office) rfl) (.cons _ _ _ [] _ _ _ _ (.flat (.int .i64 x8.Number) rfl) (.cons _ _ _ [] _ _ _ _ (.flat (.str x8.Key) rfl) (.cons _ _ _ [] _ _ _ _ (.flat (.str x8.Text) rfl) (.cons _ _ _ [14] _ _ _ _ (cD_arr (d := 14) (e := 2) (m := 1) (n := x8.Seen.length) (es := x8.Seen.map (eI .i64)) (ss := [.flat]) (flat_map (eI_flat .i64) _)) .nil (by decide)) (by decide)) (by decide)) (by decide)) (by decide))) ?_
  obtain ⟨x9, hx9, h⟩ := bind_some h
  refine SRun.estep (x_append_deep (f := eOp) (L := s3.2) (M := ([x8] : List Op)) (t := 27) (ti := ti27) (tj := ti53) (zs := [.int .i64 0, .int .i64 0, .string (ByteArray.mk #[]), .string (ByteArray.mk #[]), .slice none 0 0]) (e := 53) (m := 5) (d := 3) (dx := 15) (ss := [.flat, .flat, .flat, .flat, (.sl 2 1 [.flat])]) hx9 tbokGB rfl rfl rfl rfl) ?_
  refine SRun.ck tbokGB 1 ⟨19, [(3, .own 16), (6, vl eOp aLog), (7, vi (aLog.length : Int)), (8, vi s3.1)], [(16, .deep 53 5 x9.length [.flat, .flat, .flat, .flat, (.sl 2 1 [.flat])] (x9.map eOp))]⟩ ?_
  refine SRun.nil ?_
  obtain rfl := inj h
  exact q_bn (q_j (Le.rr [16] [(16, 3)]))
  refine swp_reg ?_
  refine SRun.ck tbokGB 2 ⟨19, [(3, .own 3), (6, vl eOp aLog), (7, vi (aLog.length : Int)), (8, vi (w64 (s3.1 + 1)))], [(3, .deep 53 5 j5.length [.flat, .flat, .flat, .flat, (.sl 2 1 [.flat])] (j5.map eOp))]⟩ ?_
  refine SRun.nil ?_
  obtain rfl := inj h
  exact q_l (Le.sub0)
  refine swp_exit ?_
  obtain rfl := inj h
  exact nx_e (q_re (q_bh (q_j (Le.sub0))))
  refine srk tbokGB ⟨19, [(2, .own 3)], [(3, .deep 53 5 j1.length [.flat, .flat, .flat, .flat, (.sl 2 1 [.flat])] (j1.map eOp))]⟩ ?_
  refine swp_ret ?_
  obtain rfl := inj h
  exact q_fr (f1 (finD (d := 3) (holds_t (by kernel_rfl)) (by kernel_rfl) (by kernel_rfl)))
theorem ents41 : Ents Tryz.prog 41 := ents_of Tryz.func41 (by kernel_rfl) rfl
noncomputable def impl_findOp_1 (aY : Op) (c0 : Op) : Option (Bool) :=
  some ((aY.Office == c0.Office) && (aY.Number == c0.Number))
theorem impl_findOp_1_run (aY : Op) (c0 : Op) (r : Bool) (h : impl_findOp_1 aY c0 = some r) : SCall Tryz.prog 68 [.v (.agg (tc eOp aY)), .v (.ptr [vi c0.Office, vi c0.Number, vs c0.Key, vs c0.Text, vl (eI .i64) c0.Seen] 0)] ⟨[.v (vb r)], [], false⟩ := by
  refine scall_in Tryz.func68 rfl [(.tmp 3)] rfl (fun r => ⟨[.v (vb r)], [], false⟩) (r := r) ?_
  unfold impl_findOp_1 at h
  refine srk tbokGB ⟨16, [(1, .ptr [vi c0.Office, vi c0.Number, vs c0.Key, vs c0.Text, vl (eI .i64) c0.Seen] 0), (2, .ref 2 0)], [(2, .box (tc eOp aY))]⟩ ?_
  refine swp_seq ?_
  refine swp_regP ⟨16, [(3, vb ((aY.Office == c0.Office) && (aY.Number == c0.Number)))], []⟩ ?_ ?_
  refine SRun.ck tbokGB 6 ⟨16, [(1, .ptr [vi c0.Office, vi c0.Number, vs c0.Key, vs c0.Text, vl (eI .i64) c0.Seen] 0), (2, .ref 2 0), (9, vb (aY.Office == c0.Office))], [(2, .box (tc eOp aY))]⟩ ?_
  generalize (aY.Office == c0.Office) = bb
  cases bb
  refine SRun.ck tbokGB 7 ⟨16, [(3, vb false)], []⟩ ?_
  exact SRun.nil (Le.sub0)
  refine SRun.ck tbokGB 7 ⟨16, [(3, vb (aY.Number == c0.Number))], []⟩ ?_
  exact SRun.nil (Le.sub0)
  refine swp_ret ?_
  obtain rfl := inj h
  exact q_fr (f1 fv)
theorem ents68 : Ents Tryz.prog 68 := ents_of Tryz.func68 (by kernel_rfl) rfl
noncomputable def slices_IndexFunc_Op_impl_findOp_1 (aS : (List Op)) (aF0 : Op) : Option (Int) :=
  (((forN (aS.length : Int) (fun (i3 : Int) (_ : Unit) => ((at' aS i3).bind fun x7 => ((impl_findOp_1 x7 aF0).bind fun x8 => (bif x8 then some (.inr (.inr i3)) else some (.inl ()))))) (fun (_ : Unit) => .inl ()) 0 ())).bind (Sum.elim (fun (_ : Unit) => some (-1)) some))
theorem slices_IndexFunc_Op_impl_findOp_1_run (aS : (List Op)) (aF0 : Op) (r : Int) (h : slices_IndexFunc_Op_impl_findOp_1 aS aF0 = some r) : SCall Tryz.prog 67 [.v (vl eOp aS), .v (.clo 68 [.ptr [vi aF0.Office, vi aF0.Number, vs aF0.Key, vs aF0.Text, vl (eI .i64) aF0.Seen] 0])] ⟨[.v (vi r)], [], false⟩ := by
  refine scall_in Tryz.func67 rfl [(.tmp 4)] rfl (fun r => ⟨[.v (vi r)], [], false⟩) (r := r) ?_
  unfold slices_IndexFunc_Op_impl_findOp_1 at h
  refine srk tbokGB ⟨19, [(0, vl eOp aS), (1, .clo 68 [.ptr [vi aF0.Office, vi aF0.Number, vs aF0.Key, vs aF0.Text, vl (eI .i64) aF0.Seen] 0])], []⟩ ?_
  refine swp_seq ?_
  refine srk tbokGB ⟨19, [(0, vl eOp aS), (1, .clo 68 [.ptr [vi aF0.Office, vi aF0.Number, vs aF0.Key, vs aF0.Text, vl (eI .i64) aF0.Seen] 0]), (7, vi (aS.length : Int)), (8, vi 0)], []⟩ ?_
  refine swp_seqE (r := r) h (fun j1 => ⟨19, [], []⟩) (fun v2 h => ?_) (fun j1 h => ?_)
  refine swp_blk (a := v2) ?_
  refine swp_lpL (r := v2) (s := (0, ())) _ (fun s3 => ⟨19, [(0, vl eOp aS), (1, .clo 68 [.ptr [vi aF0.Office, vi aF0.Number, vs aF0.Key, vs aF0.Text, vl (eI .i64) aF0.Seen] 0]), (7, vi (aS.length : Int)), (8, vi s3.1)], []⟩) _ (Le.sub0) h (fun s3 v4 h => ?_)
  refine srk tbokGB ⟨19, [(0, vl eOp aS), (1, .clo 68 [.ptr [vi aF0.Office, vi aF0.Number, vs aF0.Key, vs aF0.Text, vl (eI .i64) aF0.Seen] 0]), (7, vi (aS.length : Int)), (8, vi s3.1), (9, vb (decide (s3.1 < (aS.length : Int))))], []⟩ ?_
  refine swp_seq ?_
  refine swp_cd h (fun h => ?_) fun h => ?_
  refine swp_skip ?_
  refine nx_n ?_
  refine swp_seq ?_
  refine swp_seqL (r := v4) h (fun j5 => ⟨19, [(0, vl eOp aS), (1, .clo 68 [.ptr [vi aF0.Office, vi aF0.Number, vs aF0.Key, vs aF0.Text, vl (eI .i64) aF0.Seen] 0]), (7, vi (aS.length : Int)), (8, vi s3.1)], []⟩) (fun v6 h => ?_) (fun j5 h => ?_)
  refine swp_blk (a := v6) ?_
  refine srk tbokGB ⟨19, [(0, vl eOp aS), (1, .clo 68 [.ptr [vi aF0.Office, vi aF0.Number, vs aF0.Key, vs aF0.Text, vl (eI .i64) aF0.Seen] 0]), (5, vi s3.1), (7, vi (aS.length : Int)), (8, vi s3.1)], []⟩ ?_
  refine sr ?_
  refine SRun.ck tbokGB 3 ⟨19, [(0, vl eOp aS), (1, .clo 68 [.ptr [vi aF0.Office, vi aF0.Number, vs aF0.Key, vs aF0.Text, vl (eI .i64) aF0.Seen] 0]), (5, vi s3.1), (7, vi (aS.length : Int)), (8, vi s3.1), (11, .clo 68 [.ptr [vi aF0.Office, vi aF0.Number, vs aF0.Key, vs aF0.Text, vl (eI .i64) aF0.Seen] 0]), (12, vl eOp aS), (13, vi s3.1)], []⟩ ?_
  obtain ⟨x7, hx7, h⟩ := bind_some h
  refine SRun.ls (x_index (L := aS) (f := eOp) (ti := ti27) (tj := ti53) (e := 53) (k := .i64) tbokGB rfl hx7) ?_
  refine SRun.ck tbokGB 1 ⟨19, [(0, vl eOp aS), (1, .clo 68 [.ptr [vi aF0.Office, vi aF0.Number, vs aF0.Key, vs aF0.Text, vl (eI .i64) aF0.Seen] 0]), (5, vi s3.1), (7, vi (aS.length : Int)), (8, vi s3.1), (11, .clo 68 [.ptr [vi aF0.Office, vi aF0.Number, vs aF0.Key, vs aF0.Text, vl (eI .i64) aF0.Seen] 0]), (15, .agg (tc eOp x7))], []⟩ ?_
  obtain ⟨x8, hx8, h⟩ := bind_some h
  refine SRun.ls (xc ents68 (impl_findOp_1_run x7 aF0 _ hx8)) ?_
  refine SRun.nx ?_
  refine swp_cd h (fun h => ?_) fun h => ?_
  refine srk tbokGB ⟨19, [(4, vi s3.1)], []⟩ ?_
  refine swp_ret ?_
  obtain rfl := inj h
  exact q_br (q_rr (q_rr (q_br (q_rr (q_fr (f1 fv))))))
  refine swp_skip ?_
  obtain rfl := inj h
  exact q_bn (q_l (Le.sub0))
  refine swp_reg ?_
  refine SRun.ck tbokGB 2 ⟨19, [(0, vl eOp aS), (1, .clo 68 [.ptr [vi aF0.Office, vi aF0.Number, vs aF0.Key, vs aF0.Text, vl (eI .i64) aF0.Seen] 0]), (7, vi (aS.length : Int)), (8, vi (w64 (s3.1 + 1)))], []⟩ ?_
  refine SRun.nil ?_
  obtain rfl := inj h
  exact q_l (Le.sub0)
  refine swp_exit ?_
  obtain rfl := inj h
  exact nx_e (q_re (q_bh (q_l (Le.sub0))))
  refine srk tbokGB ⟨19, [(4, vi (-1))], []⟩ ?_
  refine swp_ret ?_
  obtain rfl := inj h
  exact q_fr (f1 fv)
noncomputable def impl_findOp (aLog : (List Op)) (aX : Op) : Option (Int) :=
  ((slices_IndexFunc_Op_impl_findOp_1 aLog aX).bind fun x1 => some x1)
theorem impl_findOp_run (aLog : (List Op)) (aX : Op) (r : Int) (h : impl_findOp aLog aX = some r) : SCall Tryz.prog 42 [.v (vl eOp aLog), .v (.agg (tc eOp aX))] ⟨[.v (vi r)], [], false⟩ := by
  refine scall_in Tryz.func42 rfl [(.tmp 4)] rfl (fun r => ⟨[.v (vi r)], [], false⟩) (r := r) ?_
  unfold impl_findOp at h
  refine srk tbokGB ⟨8, [(0, vl eOp aLog), (3, .ref 3 0)], [(3, .box (tc eOp aX))]⟩ ?_
  refine sr ?_
  refine SRun.ck tbokGB 2 ⟨8, [(5, vl eOp aLog), (6, .clo 68 [.ref 3 0])], [(3, .box (tc eOp aX))]⟩ ?_
  obtain ⟨x1, hx1, h⟩ := bind_some h
  refine SRun.ls (xc ents67 (slices_IndexFunc_Op_impl_findOp_1_run aLog aX _ hx1)) ?_
  refine ckn tbokGB 1 ⟨8, [(4, vi x1)], []⟩ ?_
  refine swp_ret ?_
  obtain rfl := inj h
  exact q_fr (f1 fv)
theorem ents42 : Ents Tryz.prog 42 := ents_of Tryz.func42 (by kernel_rfl) rfl
noncomputable def slices_Equal_int64 (aS1 : (List Int)) (aS2 : (List Int)) : Option (Bool) :=
  (bif ((aS1.length : Int) != (aS2.length : Int)) then some false else (((forN (aS1.length : Int) (fun (i3 : Int) (_ : Unit) => ((at' aS1 i3).bind fun x7 => ((at' aS2 i3).bind fun x8 => (bif (x7 != x8) then some (.inr (.inr false)) else some (.inl ()))))) (fun (_ : Unit) => .inl ()) 0 ())).bind (Sum.elim (fun (_ : Unit) => some true) some)))
theorem slices_Equal_int64_run (aS1 : (List Int)) (aS2 : (List Int)) (r : Bool) (h : slices_Equal_int64 aS1 aS2 = some r) : SCall Tryz.prog 70 [.v (vl (eI .i64) aS1), .v (vl (eI .i64) aS2)] ⟨[.v (vb r)], [], false⟩ := by
  refine scall_in Tryz.func70 rfl [(.tmp 4)] rfl (fun r => ⟨[.v (vb r)], [], false⟩) (r := r) ?_
  unfold slices_Equal_int64 at h
  refine srk tbokGB ⟨26, [(0, vl (eI .i64) aS1), (1, vl (eI .i64) aS2)], []⟩ ?_
  refine swp_seq ?_
  refine srk tbokGB ⟨26, [(0, vl (eI .i64) aS1), (1, vl (eI .i64) aS2), (10, vb ((aS1.length : Int) != (aS2.length : Int)))], []⟩ ?_
  refine swp_cd h (fun h => ?_) fun h => ?_
  refine srk tbokGB ⟨26, [(4, vb false)], []⟩ ?_
  refine swp_ret ?_
  obtain rfl := inj h
  exact nx_r (q_fr (f1 fv))
  refine swp_skip ?_
  refine nx_n ?_
  refine swp_seq ?_
  refine srk tbokGB ⟨26, [(0, vl (eI .i64) aS1), (1, vl (eI .i64) aS2), (12, vi (aS1.length : Int)), (13, vi 0)], []⟩ ?_
  refine swp_seqE (r := r) h (fun j1 => ⟨26, [], []⟩) (fun v2 h => ?_) (fun j1 h => ?_)
  refine swp_blk (a := v2) ?_
  refine swp_lpL (r := v2) (s := (0, ())) _ (fun s3 => ⟨26, [(0, vl (eI .i64) aS1), (1, vl (eI .i64) aS2), (12, vi (aS1.length : Int)), (13, vi s3.1)], []⟩) _ (Le.sub0) h (fun s3 v4 h => ?_)
  refine srk tbokGB ⟨26, [(0, vl (eI .i64) aS1), (1, vl (eI .i64) aS2), (12, vi (aS1.length : Int)), (13, vi s3.1), (14, vb (decide (s3.1 < (aS1.length : Int))))], []⟩ ?_
  refine swp_seq ?_
  refine swp_cd h (fun h => ?_) fun h => ?_
  refine swp_skip ?_
  refine nx_n ?_
  refine swp_seq ?_
  refine swp_seqL (r := v4) h (fun j5 => ⟨26, [(0, vl (eI .i64) aS1), (1, vl (eI .i64) aS2), (12, vi (aS1.length : Int)), (13, vi s3.1)], []⟩) (fun v6 h => ?_) (fun j5 h => ?_)
  refine swp_blk (a := v6) ?_
  refine srk tbokGB ⟨26, [(0, vl (eI .i64) aS1), (1, vl (eI .i64) aS2), (5, vi s3.1), (12, vi (aS1.length : Int)), (13, vi s3.1)], []⟩ ?_
  refine swp_seq ?_
  refine swp_dr mixed ?_
  refine DGo.ck tbokGB false 2 ⟨26, [(0, vl (eI .i64) aS1), (1, vl (eI .i64) aS2), (5, vi s3.1), (12, vi (aS1.length : Int)), (13, vi s3.1), (16, vl (eI .i64) aS1), (17, vi s3.1)], []⟩ ?_
  obtain ⟨x7, hx7, h⟩ := bind_some h
  refine DGo.step (x_index (L := aS1) (f := (eI .i64)) (ti := ti40) (tj := ti2) (e := 2) (k := .i64) tbokGB rfl hx7) ?_
  refine DGo.ck tbokGB false 3 ⟨26, [(0, vl (eI .i64) aS1), (1, vl (eI .i64) aS2), (12, vi (aS1.length : Int)), (13, vi s3.1), (19, vi x7), (20, vl (eI .i64) aS2), (21, vi s3.1)], []⟩ ?_
  obtain ⟨x8, hx8, h⟩ := bind_some h
  refine DGo.step (x_index (L := aS2) (f := (eI .i64)) (ti := ti40) (tj := ti2) (e := 2) (k := .i64) tbokGB rfl hx8) ?_
  refine DGo.ck tbokGB false 2 ⟨26, [(0, vl (eI .i64) aS1), (1, vl (eI .i64) aS2), (12, vi (aS1.length : Int)), (13, vi s3.1), (24, vb (x7 != x8))], []⟩ ?_
  refine DGo.nx ?_
  refine swp_cd h (fun h => ?_) fun h => ?_
  refine srk tbokGB ⟨26, [(4, vb false)], []⟩ ?_
  refine swp_ret ?_
  obtain rfl := inj h
  exact q_br (q_rr (q_rr (q_br (q_rr (q_fr (f1 fv))))))
  refine swp_skip ?_
  obtain rfl := inj h
  exact q_bn (q_l (Le.sub0))
  refine swp_reg ?_
  refine SRun.ck tbokGB 2 ⟨26, [(0, vl (eI .i64) aS1), (1, vl (eI .i64) aS2), (12, vi (aS1.length : Int)), (13, vi (w64 (s3.1 + 1)))], []⟩ ?_
  refine SRun.nil ?_
  obtain rfl := inj h
  exact q_l (Le.sub0)
  refine swp_exit ?_
  obtain rfl := inj h
  exact nx_e (q_re (q_bh (q_l (Le.sub0))))
  refine srk tbokGB ⟨26, [(4, vb true)], []⟩ ?_
  refine swp_ret ?_
  obtain rfl := inj h
  exact q_fr (f1 fv)
theorem ents70 : Ents Tryz.prog 70 := ents_of Tryz.func70 (by kernel_rfl) rfl
noncomputable def impl_Op_isSame (aX : Op) (aY : Op) : Option (Bool) :=
  (((bif (aX.Office == aY.Office) then (bif (aX.Number == aY.Number) then (bif (aX.Key.toList == aY.Key.toList) then (bif (aX.Text.toList == aY.Text.toList) then ((slices_Equal_int64 aX.Seen aY.Seen).bind fun x1 => some x1) else some false) else some false) else some false) else some false)).bind fun (j2 : Bool) => some j2)
theorem impl_Op_isSame_run (aX : Op) (aY : Op) (r : Bool) (h : impl_Op_isSame aX aY = some r) : SCall Tryz.prog 44 [.v (.agg (tc eOp aX)), .v (.agg (tc eOp aY))] ⟨[.v (vb r)], [], false⟩ := by
  refine scall_in Tryz.func44 rfl [(.tmp 4)] rfl (fun r => ⟨[.v (vb r)], [], false⟩) (r := r) ?_
  unfold impl_Op_isSame at h
  refine srk tbokGB ⟨38, [(2, .ref 2 0), (3, .ref 3 0)], [(2, .box (tc eOp aX)), (3, .box (tc eOp aY))]⟩ ?_
  refine swp_seq ?_
  refine swp_regJ h (fun j2 => ⟨38, [(4, vb j2)], []⟩) (fun v3 h => ?_) (fun j2 h => ?_)
  refine SRun.ck tbokGB 6 ⟨38, [(2, .ref 2 0), (3, .ref 3 0), (10, vb (aX.Office == aY.Office))], [(2, .box (tc eOp aX)), (3, .box (tc eOp aY))]⟩ ?_
  refine SRun.cu [(10, fun b => b)] h (fun h => ?_) fun h => ?_
  refine SRun.ck tbokGB 7 ⟨38, [(2, .ref 2 0), (3, .ref 3 0), (17, vb (aX.Number == aY.Number))], [(2, .box (tc eOp aX)), (3, .box (tc eOp aY))]⟩ ?_
  refine SRun.cu [(17, fun b => b)] h (fun h => ?_) fun h => ?_
  refine SRun.ck tbokGB 7 ⟨38, [(2, .ref 2 0), (3, .ref 3 0), (24, vb (aX.Key.toList == aY.Key.toList))], [(2, .box (tc eOp aX)), (3, .box (tc eOp aY))]⟩ ?_
  refine SRun.cu [(24, fun b => b)] h (fun h => ?_) fun h => ?_
  refine SRun.ck tbokGB 7 ⟨38, [(2, .ref 2 0), (3, .ref 3 0), (31, vb (aX.Text.toList == aY.Text.toList))], [(2, .box (tc eOp aX)), (3, .box (tc eOp aY))]⟩ ?_
  refine SRun.cu [(31, fun b => b)] h (fun h => ?_) fun h => ?_
  refine SRun.ck tbokGB 4 ⟨38, [(31, vb true), (33, vl (eI .i64) aX.Seen), (35, vl (eI .i64) aY.Seen)], []⟩ ?_
  obtain ⟨x1, hx1, h⟩ := bind_some h
  refine SRun.ls (xc ents70 (slices_Equal_int64_run aX.Seen aY.Seen _ hx1)) ?_
  refine SRun.ck tbokGB 2 ⟨38, [(4, vb x1)], []⟩ ?_
  refine SRun.nil ?_
  obtain rfl := inj h
  exact Le.sub0
  refine SRun.ck tbokGB 7 ⟨38, [(4, vb false)], []⟩ ?_
  refine SRun.nil ?_
  obtain rfl := inj h
  exact Le.sub0
  refine SRun.ck tbokGB 14 ⟨38, [(4, vb false)], []⟩ ?_
  refine SRun.nil ?_
  obtain rfl := inj h
  exact Le.sub0
  refine SRun.ck tbokGB 21 ⟨38, [(4, vb false)], []⟩ ?_
  refine SRun.nil ?_
  obtain rfl := inj h
  exact Le.sub0
  refine SRun.ck tbokGB 28 ⟨38, [(4, vb false)], []⟩ ?_
  refine SRun.nil ?_
  obtain rfl := inj h
  exact Le.sub0
  refine swp_ret ?_
  obtain rfl := inj h
  exact q_fr (f1 fv)
theorem ents44 : Ents Tryz.prog 44 := ents_of Tryz.func44 (by kernel_rfl) rfl
noncomputable def impl_MergeLogs (aA : (List Op)) (aB : (List Op)) : Option ((List Op) × Int) :=
  ((((impl_IsLog aA).bind fun x1 => (bif (!x1) then some true else ((impl_IsLog aB).bind fun x2 => some (!x2))))).bind fun (j3 : Bool) => (bif j3 then some (([] : List Op), 1) else ((impl_cloneLog aA).bind fun x5 => (((forN (aB.length : Int) (fun (i8 : Int) (s8 : (List Op)) => ((at' aB i8).bind fun x12 => ((impl_findOp aA x12).bind fun x13 => (bif (decide (x13 < 0)) then ((impl_Op_clone x12).bind fun x14 => ((app' s8 ([x14] : List Op)).bind fun x15 => some (.inl x15))) else ((at' aA x13).bind fun x16 => ((impl_Op_isSame x16 x12).bind fun x17 => (bif (!x17) then some (.inr (.inr (([] : List Op), 5))) else some (.inl s8)))))))) (fun (s8 : (List Op)) => .inl s8) 0 x5)).bind (Sum.elim (fun (j6 : (List Op)) => (bif (decide ((j6.length : Int) > 16)) then some (([] : List Op), 3) else some (j6, 0))) some)))))
theorem impl_MergeLogs_run (aA : (List Op)) (aB : (List Op)) (r : (List Op) × Int) (h : impl_MergeLogs aA aB = some r) : SCall Tryz.prog 16 [.v (vl eOp aA), .v (vl eOp aB)] ⟨[.deep 53 5 r.1.length [.flat, .flat, .flat, .flat, (.sl 2 1 [.flat])] (r.1.map eOp), .v (vi r.2)], [], false⟩ := by
  refine scall_in Tryz.func16 rfl [(.tmp 4), (.tmp 5)] rfl (fun r => ⟨[.deep 53 5 r.1.length [.flat, .flat, .flat, .flat, (.sl 2 1 [.flat])] (r.1.map eOp), .v (vi r.2)], [], false⟩) (r := r) ?_
  unfold impl_MergeLogs at h
  refine sr ?_
  refine SRun.ck tbokGB 1 ⟨50, [(4, .own 4), (0, vl eOp aA), (1, vl eOp aB)], [(4, oa 53 5 eOp ([] : List Op))]⟩ ?_
  refine SRun.le (Le.deep0 (d := 4) (e := 53) (m := 5) (ss := [.flat, .flat, .flat, .flat, (.sl 2 1 [.flat])]) (by kernel_rfl) (by kernel_rfl)) ?_
  refine ckn tbokGB 1 ⟨50, [(0, vl eOp aA), (1, vl eOp aB)], []⟩ ?_
  refine swp_seq ?_
  refine swp_seq ?_
  refine swp_regJ h (fun j3 => ⟨50, [(0, vl eOp aA), (1, vl eOp aB), (17, vb j3)], []⟩) (fun v4 h => ?_) (fun j3 h => ?_)
  refine SRun.ck tbokGB 1 ⟨50, [(0, vl eOp aA), (1, vl eOp aB), (10, vl eOp aA)], []⟩ ?_
  obtain ⟨x1, hx1, h⟩ := bind_some h
  refine SRun.ls (xc ents27 (impl_IsLog_run aA _ hx1)) ?_
  refine SRun.ck tbokGB 2 ⟨50, [(0, vl eOp aA), (1, vl eOp aB), (13, vb (!x1))], []⟩ ?_
  refine SRun.cu [(13, fun b => b)] h (fun h => ?_) fun h => ?_
  refine SRun.ck tbokGB 4 ⟨50, [(0, vl eOp aA), (1, vl eOp aB), (17, vb true)], []⟩ ?_
  refine SRun.nil ?_
  obtain rfl := inj h
  exact Le.sub0
  refine SRun.ck tbokGB 1 ⟨50, [(0, vl eOp aA), (1, vl eOp aB), (13, vb false), (14, vl eOp aB)], []⟩ ?_
  obtain ⟨x2, hx2, h⟩ := bind_some h
  refine SRun.ls (xc ents27 (impl_IsLog_run aB _ hx2)) ?_
  refine SRun.ck tbokGB 2 ⟨50, [(0, vl eOp aA), (1, vl eOp aB), (17, vb (!x2))], []⟩ ?_
  refine SRun.nil ?_
  obtain rfl := inj h
  exact Le.sub0
  refine swp_cd h (fun h => ?_) fun h => ?_
  refine sr ?_
  refine SRun.ck tbokGB 1 ⟨50, [(4, .own 4), (0, vl eOp aA), (1, vl eOp aB), (17, vb j3)], [(4, oa 53 5 eOp ([] : List Op))]⟩ ?_
  refine SRun.le (Le.deep0 (d := 4) (e := 53) (m := 5) (ss := [.flat, .flat, .flat, .flat, (.sl 2 1 [.flat])]) (by kernel_rfl) (by kernel_rfl)) ?_
  refine ckn tbokGB 1 ⟨50, [(4, .own 4), (5, vi 1)], [(4, .deep 53 5 ([] : List Op).length [.flat, .flat, .flat, .flat, (.sl 2 1 [.flat])] (([] : List Op).map eOp))]⟩ ?_
  refine swp_ret ?_
  obtain rfl := inj h
  exact nx_r (q_fr (f2 (finD (d := 4) (holds_t (by kernel_rfl)) (by kernel_rfl) (by kernel_rfl)) fv))
  refine swp_skip ?_
  refine nx_n ?_
  refine sr ?_
  refine SRun.ck tbokGB 1 ⟨50, [(0, vl eOp aA), (1, vl eOp aB), (18, vl eOp aA)], []⟩ ?_
  obtain ⟨x5, hx5, h⟩ := bind_some h
  refine SRun.ls (xc ents41 (impl_cloneLog_run aA _ hx5)) ?_
  refine ckn tbokGB 1 ⟨50, [(0, vl eOp aA), (1, vl eOp aB), (6, .own 19)], [(19, .deep 53 5 x5.length [.flat, .flat, .flat, .flat, (.sl 2 1 [.flat])] (x5.map eOp))]⟩ ?_
  refine swp_seq ?_
  refine srk tbokGB ⟨50, [(0, vl eOp aA), (6, .own 19), (20, vl eOp aB), (21, vi (aB.length : Int)), (22, vi 0)], [(19, .deep 53 5 x5.length [.flat, .flat, .flat, .flat, (.sl 2 1 [.flat])] (x5.map eOp))]⟩ ?_
  refine swp_seqE (r := r) h (fun j6 => ⟨50, [(6, .own 6)], [(6, .deep 53 5 j6.length [.flat, .flat, .flat, .flat, (.sl 2 1 [.flat])] (j6.map eOp))]⟩) (fun v7 h => ?_) (fun j6 h => ?_)
  refine swp_blk (a := v7) ?_
  refine swp_lpL (r := v7) (s := (0, x5)) _ (fun s8 => ⟨50, [(0, vl eOp aA), (6, .own 6), (20, vl eOp aB), (21, vi (aB.length : Int)), (22, vi s8.1)], [(6, .deep 53 5 s8.2.length [.flat, .flat, .flat, .flat, (.sl 2 1 [.flat])] (s8.2.map eOp))]⟩) _ (Le.rr [19] [(19, 6)]) h (fun s8 v9 h => ?_)
  refine srk tbokGB ⟨50, [(0, vl eOp aA), (6, .own 6), (20, vl eOp aB), (21, vi (aB.length : Int)), (22, vi s8.1), (23, vb (decide (s8.1 < (aB.length : Int))))], [(6, .deep 53 5 s8.2.length [.flat, .flat, .flat, .flat, (.sl 2 1 [.flat])] (s8.2.map eOp))]⟩ ?_
  refine swp_seq ?_
  refine swp_cd h (fun h => ?_) fun h => ?_
  refine swp_skip ?_
  refine nx_n ?_
  refine swp_seq ?_
  refine swp_seqL (r := v9) h (fun j10 => ⟨50, [(0, vl eOp aA), (6, .own 6), (20, vl eOp aB), (21, vi (aB.length : Int)), (22, vi s8.1)], [(6, .deep 53 5 j10.length [.flat, .flat, .flat, .flat, (.sl 2 1 [.flat])] (j10.map eOp))]⟩) (fun v11 h => ?_) (fun j10 h => ?_)
  refine swp_blk (a := v11) ?_
  refine sr ?_
  obtain ⟨x12, hx12, h⟩ := bind_some h
  refine SRun.ls (x_index (L := aB) (f := eOp) (ti := ti27) (tj := ti53) (e := 53) (k := .i64) tbokGB rfl hx12) ?_
  refine ckn tbokGB 3 ⟨50, [(0, vl eOp aA), (6, .own 6), (8, .ref 8 0), (20, vl eOp aB), (21, vi (aB.length : Int)), (22, vi s8.1)], [(6, .deep 53 5 s8.2.length [.flat, .flat, .flat, .flat, (.sl 2 1 [.flat])] (s8.2.map eOp)), (8, .box (tc eOp x12))]⟩ ?_
  refine sr ?_
  refine SRun.ck tbokGB 2 ⟨50, [(0, vl eOp aA), (6, .own 6), (8, .ref 8 0), (20, vl eOp aB), (21, vi (aB.length : Int)), (22, vi s8.1), (26, vl eOp aA), (27, .agg (tc eOp x12))], [(6, .deep 53 5 s8.2.length [.flat, .flat, .flat, .flat, (.sl 2 1 [.flat])] (s8.2.map eOp)), (8, .box (tc eOp x12))]⟩ ?_
  obtain ⟨x13, hx13, h⟩ := bind_some h
  refine SRun.ls (xc ents42 (impl_findOp_run aA x12 _ hx13)) ?_
  refine ckn tbokGB 1 ⟨50, [(0, vl eOp aA), (6, .own 6), (8, .ref 8 0), (9, vi x13), (20, vl eOp aB), (21, vi (aB.length : Int)), (22, vi s8.1)], [(6, .deep 53 5 s8.2.length [.flat, .flat, .flat, .flat, (.sl 2 1 [.flat])] (s8.2.map eOp)), (8, .box (tc eOp x12))]⟩ ?_
  refine swp_blk (a := v11) ?_
  refine srk tbokGB ⟨50, [(0, vl eOp aA), (6, .own 6), (8, .ref 8 0), (9, vi x13), (20, vl eOp aB), (21, vi (aB.length : Int)), (22, vi s8.1), (29, vb (decide (x13 < 0)))], [(6, .deep 53 5 s8.2.length [.flat, .flat, .flat, .flat, (.sl 2 1 [.flat])] (s8.2.map eOp)), (8, .box (tc eOp x12))]⟩ ?_
  refine swp_cd h (fun h => ?_) fun h => ?_
  refine swp_reg ?_
  refine SRun.ck tbokGB 2 ⟨50, [(0, vl eOp aA), (20, vl eOp aB), (21, vi (aB.length : Int)), (22, vi s8.1), (32, .own 6), (33, .agg (tc eOp x12))], [(6, .deep 53 5 s8.2.length [.flat, .flat, .flat, .flat, (.sl 2 1 [.flat])] (s8.2.map eOp))]⟩ ?_
  obtain ⟨x14, hx14, h⟩ := bind_some h
  refine SRun.ls (xc ents43 (impl_Op_clone_run x12 _ hx14)) ?_
  refine SRun.estep (x_build_deep (ti := ti27) (tj := ti53) (e := 53) (m := 5) (zs := [.int .i64 0, .int .i64 0, .string (ByteArray.mk #[]), .string (ByteArray.mk #[]), .slice none 0 0]) (v := .agg [vi x14.Office, vi x14.Number, vs x14.Key, vs x14.Text, .own 34]) (cs := [vi x14.Office, vi x14.Number, vs x14.Key, vs x14.Text, .own 34]) (ss := [.flat, .flat, .flat, .flat, (.sl 2 1 [.flat])]) (ts := [.int .i64 x14.Office, .int .i64 x14.Number, .str x14.Key, .str x14.Text, .sl x14.Seen.length (x14.Seen.map (eI .i64))]) (ds := [34]) tbokGB rfl rfl rfl (.cons _ _ _ [] _ _ _ _ (.flat (.int .i64 x14.Office) rfl) (.cons _ _ _ [] _ _ _ _ (.flat (.int .i64 x14.Number) rfl) (.cons _ _ _ [] _ _ _ _ (.flat (.str x14.Key) rfl) (.cons _ _ _ [] _ _ _ _ (.flat (.str x14.Text) rfl) (.cons _ _ _ [34] _ _ _ _ (cD_arr (d := 34) (e := 2) (m := 1) (n := x14.Seen.length) (es := x14.Seen.map (eI .i64)) (ss := [.flat]) (flat_map (eI_flat .i64) _)) .nil (by decide)) (by decide)) (by decide)) (by decide)) (by decide))) ?_
  obtain ⟨x15, hx15, h⟩ := bind_some h
  refine SRun.estep (x_append_deep (f := eOp) (L := s8.2) (M := ([x14] : List Op)) (t := 27) (ti := ti27) (tj := ti53) (zs := [.int .i64 0, .int .i64 0, .string (ByteArray.mk #[]), .string (ByteArray.mk #[]), .slice none 0 0]) (e := 53) (m := 5) (d := 6) (dx := 35) (ss := [.flat, .flat, .flat, .flat, (.sl 2 1 [.flat])]) hx15 tbokGB rfl rfl rfl rfl) ?_
  refine SRun.ck tbokGB 1 ⟨50, [(0, vl eOp aA), (6, .own 36), (20, vl eOp aB), (21, vi (aB.length : Int)), (22, vi s8.1)], [(36, .deep 53 5 x15.length [.flat, .flat, .flat, .flat, (.sl 2 1 [.flat])] (x15.map eOp))]⟩ ?_
  refine SRun.nil ?_
  obtain rfl := inj h
  exact q_bn (q_bn (q_l (Le.rr [36] [(36, 6)])))
  refine swp_seq ?_
  refine swp_dr mixed ?_
  refine DGo.ck tbokGB false 2 ⟨50, [(0, vl eOp aA), (6, .own 6), (8, .ref 8 0), (20, vl eOp aB), (21, vi (aB.length : Int)), (22, vi s8.1), (38, vl eOp aA), (39, vi x13)], [(6, .deep 53 5 s8.2.length [.flat, .flat, .flat, .flat, (.sl 2 1 [.flat])] (s8.2.map eOp)), (8, .box (tc eOp x12))]⟩ ?_
  obtain ⟨x16, hx16, h⟩ := bind_some h
  refine DGo.step (x_index (L := aA) (f := eOp) (ti := ti27) (tj := ti53) (e := 53) (k := .i64) tbokGB rfl hx16) ?_
  refine DGo.ck tbokGB false 2 ⟨50, [(0, vl eOp aA), (6, .own 6), (20, vl eOp aB), (21, vi (aB.length : Int)), (22, vi s8.1), (41, .agg (tc eOp x16)), (42, .agg (tc eOp x12))], [(6, .deep 53 5 s8.2.length [.flat, .flat, .flat, .flat, (.sl 2 1 [.flat])] (s8.2.map eOp))]⟩ ?_
  obtain ⟨x17, hx17, h⟩ := bind_some h
  refine DGo.step (xc ents44 (impl_Op_isSame_run x16 x12 _ hx17)) ?_
  refine DGo.ck tbokGB false 2 ⟨50, [(0, vl eOp aA), (6, .own 6), (20, vl eOp aB), (21, vi (aB.length : Int)), (22, vi s8.1), (37, vb (!x17))], [(6, .deep 53 5 s8.2.length [.flat, .flat, .flat, .flat, (.sl 2 1 [.flat])] (s8.2.map eOp))]⟩ ?_
  refine DGo.nx ?_
  refine swp_cd h (fun h => ?_) fun h => ?_
  refine sr ?_
  refine SRun.ck tbokGB 1 ⟨50, [(4, .own 4), (0, vl eOp aA), (6, .own 6), (20, vl eOp aB), (21, vi (aB.length : Int)), (22, vi s8.1), (37, vb (!x17))], [(4, oa 53 5 eOp ([] : List Op)), (6, .deep 53 5 s8.2.length [.flat, .flat, .flat, .flat, (.sl 2 1 [.flat])] (s8.2.map eOp))]⟩ ?_
  refine SRun.le (Le.deep0 (d := 4) (e := 53) (m := 5) (ss := [.flat, .flat, .flat, .flat, (.sl 2 1 [.flat])]) (by kernel_rfl) (by kernel_rfl)) ?_
  refine ckn tbokGB 1 ⟨50, [(4, .own 4), (5, vi 5)], [(4, .deep 53 5 ([] : List Op).length [.flat, .flat, .flat, .flat, (.sl 2 1 [.flat])] (([] : List Op).map eOp))]⟩ ?_
  refine swp_ret ?_
  obtain rfl := inj h
  exact q_br (q_br (q_rr (q_rr (q_br (q_rr (q_fr (f2 (finD (d := 4) (holds_t (by kernel_rfl)) (by kernel_rfl) (by kernel_rfl)) fv)))))))
  refine swp_skip ?_
  obtain rfl := inj h
  exact q_bn (q_bn (q_l (Le.sub0)))
  refine swp_reg ?_
  refine SRun.ck tbokGB 2 ⟨50, [(0, vl eOp aA), (6, .own 6), (20, vl eOp aB), (21, vi (aB.length : Int)), (22, vi (w64 (s8.1 + 1)))], [(6, .deep 53 5 j10.length [.flat, .flat, .flat, .flat, (.sl 2 1 [.flat])] (j10.map eOp))]⟩ ?_
  refine SRun.nil ?_
  obtain rfl := inj h
  exact q_l (Le.sub0)
  refine swp_exit ?_
  obtain rfl := inj h
  exact nx_e (q_re (q_bh (q_l (Le.sub0))))
  refine swp_seq ?_
  refine sr ?_
  refine SRun.ck tbokGB 1 ⟨50, [(6, .own 6), (46, .own 6)], [(6, .deep 53 5 j6.length [.flat, .flat, .flat, .flat, (.sl 2 1 [.flat])] (j6.map eOp))]⟩ ?_
  refine SRun.ls (x_len_deep (d := 6) (e := 53) (e' := 53) (m := 5) (n := j6.length) (ss := [.flat, .flat, .flat, .flat, (.sl 2 1 [.flat])]) (es := j6.map eOp) (ti := ti27) tbokGB rfl rfl rfl) ?_
  refine ckn tbokGB 1 ⟨50, [(6, .own 6), (48, vb (decide ((j6.length : Int) > 16)))], [(6, .deep 53 5 j6.length [.flat, .flat, .flat, .flat, (.sl 2 1 [.flat])] (j6.map eOp))]⟩ ?_
  refine swp_cd h (fun h => ?_) fun h => ?_
  refine sr ?_
  refine SRun.ck tbokGB 1 ⟨50, [(4, .own 4), (6, .own 6), (48, vb (decide ((j6.length : Int) > 16)))], [(4, oa 53 5 eOp ([] : List Op)), (6, .deep 53 5 j6.length [.flat, .flat, .flat, .flat, (.sl 2 1 [.flat])] (j6.map eOp))]⟩ ?_
  refine SRun.le (Le.deep0 (d := 4) (e := 53) (m := 5) (ss := [.flat, .flat, .flat, .flat, (.sl 2 1 [.flat])]) (by kernel_rfl) (by kernel_rfl)) ?_
  refine ckn tbokGB 1 ⟨50, [(4, .own 4), (5, vi 3)], [(4, .deep 53 5 ([] : List Op).length [.flat, .flat, .flat, .flat, (.sl 2 1 [.flat])] (([] : List Op).map eOp))]⟩ ?_
  refine swp_ret ?_
  obtain rfl := inj h
  exact nx_r (q_fr (f2 (finD (d := 4) (holds_t (by kernel_rfl)) (by kernel_rfl) (by kernel_rfl)) fv))
  refine swp_skip ?_
  refine nx_n ?_
  refine srk tbokGB ⟨50, [(4, .own 6), (5, vi 0)], [(6, .deep 53 5 j6.length [.flat, .flat, .flat, .flat, (.sl 2 1 [.flat])] (j6.map eOp))]⟩ ?_
  refine swp_ret ?_
  obtain rfl := inj h
  exact q_fr (f2 (finD (d := 6) (holds_t (by kernel_rfl)) (by kernel_rfl) (by kernel_rfl)) fv)
theorem ents16 : Ents Tryz.prog 16 := ents_of Tryz.func16 (by kernel_rfl) rfl
noncomputable def spec_DrawMissingFor (aCode : (List Int)) : Option ((List Op) × (List Int)) :=
  ((spec_l01From aCode).bind fun x1 => ((spec_l32Draw x1).bind fun x2 => ((spec_l01Next x2.2 4).bind fun x3 => ((spec_l01Next x3.2 4).bind fun x4 => ((spec_l01Next x4.2 3).bind fun x5 => ((spec_l01Next x5.2 3).bind fun x6 => ((spec_l01Next x6.2 24).bind fun x7 => (((bif (x7.1 == 0) then ((at' ([x3.1, x4.1, x5.1, x6.1] : List Int) 0).bind fun _ => some (List.set ([x3.1, x4.1, x5.1, x6.1] : List Int) (Int.toNat 0) (-1))) else some ([x3.1, x4.1, x5.1, x6.1] : List Int))).bind fun (j8 : (List Int)) => ((spec_l01Next x7.2 24).bind fun x11 => ((part' j8 0 (w64 (4 - (w64 (Int.tdiv x11.1 23))))).bind fun x12 => some (x2.1, x12)))))))))))
theorem spec_DrawMissingFor_run (aCode : (List Int)) (r : (List Op) × (List Int)) (h : spec_DrawMissingFor aCode = some r) : SCall Tryz.prog 18 [.v (vl (eI .u8) aCode)] ⟨[.v (vl eOp r.1), .v (vl (eI .i64) r.2)], [], true⟩ := by
  refine scall_in Tryz.func18 rfl [(.tmp 2), (.tmp 3)] rfl (fun r => ⟨[.v (vl eOp r.1), .v (vl (eI .i64) r.2)], [], true⟩) (r := r) ?_
  unfold spec_DrawMissingFor at h
  refine srk tbokGB ⟨32, [(0, vl (eI .u8) aCode)], []⟩ ?_
  refine sr ?_
  refine SRun.ck tbokGB 1 ⟨32, [(7, vl (eI .u8) aCode)], []⟩ ?_
  obtain ⟨x1, hx1, h⟩ := bind_some h
  refine SRun.ls (xc ents37 (spec_l01From_run aCode _ hx1)) ?_
  refine ckn tbokGB 1 ⟨32, [(4, .ref 8 0)], [(8, .box (tc el01Source x1))]⟩ ?_
  refine sr ?_
  refine SRun.ck tbokGB 1 ⟨32, [(4, .ref 8 0), (9, .ref 8 0)], [(8, .box (tc el01Source x1))]⟩ ?_
  obtain ⟨x2, hx2, h⟩ := bind_some h
  refine SRun.estep (xe ents39 (spec_l32Draw_run x1 _ hx2)) ?_
  refine ckn tbokGB 1 ⟨32, [(4, .ref 8 0), (5, vl eOp x2.1)], [(8, .box (tc el01Source x2.2))]⟩ ?_
  refine sr ?_
  refine SRun.ck tbokGB 1 ⟨32, [(4, .ref 8 0), (5, vl eOp x2.1), (11, .ref 8 0)], [(8, .box (tc el01Source x2.2))]⟩ ?_
  obtain ⟨x3, hx3, h⟩ := bind_some h
  refine SRun.estep (xe ents38 (spec_l01Next_run x2.2 4 _ hx3)) ?_
  refine SRun.ck tbokGB 1 ⟨32, [(4, .ref 8 0), (5, vl eOp x2.1), (12, vi x3.1), (13, .ref 8 0)], [(8, .box (tc el01Source x3.2))]⟩ ?_
  obtain ⟨x4, hx4, h⟩ := bind_some h
  refine SRun.estep (xe ents38 (spec_l01Next_run x3.2 4 _ hx4)) ?_
  refine SRun.ck tbokGB 1 ⟨32, [(4, .ref 8 0), (5, vl eOp x2.1), (12, vi x3.1), (14, vi x4.1), (15, .ref 8 0)], [(8, .box (tc el01Source x4.2))]⟩ ?_
  obtain ⟨x5, hx5, h⟩ := bind_some h
  refine SRun.estep (xe ents38 (spec_l01Next_run x4.2 3 _ hx5)) ?_
  refine SRun.ck tbokGB 1 ⟨32, [(4, .ref 8 0), (5, vl eOp x2.1), (12, vi x3.1), (14, vi x4.1), (16, vi x5.1), (17, .ref 8 0)], [(8, .box (tc el01Source x5.2))]⟩ ?_
  obtain ⟨x6, hx6, h⟩ := bind_some h
  refine SRun.estep (xe ents38 (spec_l01Next_run x5.2 3 _ hx6)) ?_
  refine ckn tbokGB 2 ⟨32, [(4, .ref 8 0), (5, vl eOp x2.1), (6, .own 19)], [(8, .box (tc el01Source x6.2)), (19, oa 2 1 (eI .i64) ([x3.1, x4.1, x5.1, x6.1] : List Int))]⟩ ?_
  refine swp_seq ?_
  refine sr ?_
  refine SRun.ck tbokGB 1 ⟨32, [(4, .ref 8 0), (5, vl eOp x2.1), (6, .own 19), (20, .ref 8 0)], [(8, .box (tc el01Source x6.2)), (19, oa 2 1 (eI .i64) ([x3.1, x4.1, x5.1, x6.1] : List Int))]⟩ ?_
  obtain ⟨x7, hx7, h⟩ := bind_some h
  refine SRun.estep (xe ents38 (spec_l01Next_run x6.2 24 _ hx7)) ?_
  refine ckn tbokGB 1 ⟨32, [(4, .ref 8 0), (5, vl eOp x2.1), (6, .own 19), (22, vb (x7.1 == 0))], [(8, .box (tc el01Source x7.2)), (19, oa 2 1 (eI .i64) ([x3.1, x4.1, x5.1, x6.1] : List Int))]⟩ ?_
  refine swp_seqJ h (fun j8 => ⟨32, [(4, .ref 8 0), (5, vl eOp x2.1), (6, .own 6)], [(8, .box (tc el01Source x7.2)), (6, oa 2 1 (eI .i64) j8)]⟩) (fun v9 h => ?_) (fun j8 h => ?_)
  refine swp_cd h (fun h => ?_) fun h => ?_
  refine swp_reg ?_
  refine SRun.ck tbokGB 1 ⟨32, [(4, .ref 8 0), (5, vl eOp x2.1), (6, .own 19), (23, .own 19)], [(8, .box (tc el01Source x7.2)), (19, oa 2 1 (eI .i64) ([x3.1, x4.1, x5.1, x6.1] : List Int))]⟩ ?_
  obtain ⟨x10, hx10, h⟩ := bind_some h
  refine SRun.ls (x_index_own (d := 19) (L := ([x3.1, x4.1, x5.1, x6.1] : List Int)) (f := (eI .i64)) (ti := ti40) (tj := ti2) (e := 2) (e' := 2) (m := 1) (k := .i64) tbokGB rfl hx10) ?_
  refine SRun.estep (x_store_own (d := 19) (m := 1) (j := 0) (L := ([x3.1, x4.1, x5.1, x6.1] : List Int)) (f := (eI .i64)) (x := (-1)) (z := x10) (ti := ti2) (e := 2) (ts := [.int .i64 (-1)]) (vs := [vi (-1)]) (v := vi (-1)) tbokGB rfl rfl hx10) ?_
  refine SRun.nil ?_
  obtain rfl := inj h
  exact q_j (Le.rr [8, 19] [(19, 6)])
  refine swp_skip ?_
  obtain rfl := inj h
  exact q_j (Le.rr [8, 19] [(19, 6)])
  refine swp_seq ?_
  refine swp_le (Le.frz' (d := 6) (e := 2) (m := 1) (n := j8.length) (es := j8.map (eI .i64)) (by kernel_rfl) (by kernel_rfl)) ?_
  refine swp_drD [8] mixed ?_
  refine DGo.ck tbokGB false 3 ⟨32, [(25, vl eOp x2.1), (26, vl (eI .i64) j8), (27, .ref 8 0)], [(8, .box (tc el01Source x7.2))]⟩ ?_
  obtain ⟨x11, hx11, h⟩ := bind_some h
  refine DGo.write [] (xw ents38 (spec_l01Next_run x7.2 24 _ hx11)) ?_
  refine DGo.ck tbokGB false 2 ⟨32, [(25, vl eOp x2.1), (26, vl (eI .i64) j8), (30, vi (w64 (4 - (w64 (Int.tdiv x11.1 23)))))], []⟩ ?_
  obtain ⟨x12, hx12, h⟩ := bind_some h
  refine DGo.step (x_slice (m := 1) (f := (eI .i64)) (ti := ti40) (tj := ti2) (e := 2) hx12 (fun _ => rfl) tbokGB rfl) ?_
  refine DGo.ck tbokGB false 2 ⟨32, [(2, vl eOp x2.1), (3, vl (eI .i64) x12)], []⟩ ?_
  refine DGo.nx ?_
  refine swp_ret ?_
  obtain rfl := inj h
  exact q_fr (f2 ft ft)
theorem ents18 : Ents Tryz.prog 18 := ents_of Tryz.func18 (by kernel_rfl) rfl
noncomputable def impl_MissingFor (aLog : (List Op)) (aVector : (List Int)) : Option ((List Int) × Int) :=
  ((((impl_IsLog aLog).bind fun x1 => (bif (!x1) then some true else ((impl_isVector aVector).bind fun x2 => some (!x2))))).bind fun (j3 : Bool) => (bif j3 then some (([] : List Int), 1) else (((forS (aLog.length : Int) (fun (i7 : Int) (s7 : (List Int)) => ((at' aLog i7).bind fun x11 => ((at' aVector x11.Office).bind fun x12 => (bif (decide (x11.Number > x12)) then ((app' s7 ([i7] : List Int)).bind fun x13 => some x13) else some s7)))) (fun (s7 : (List Int)) => s7) 0 ([] : List Int))).bind fun (j5 : (List Int)) => some (j5, 0))))
theorem impl_MissingFor_run (aLog : (List Op)) (aVector : (List Int)) (r : (List Int) × Int) (h : impl_MissingFor aLog aVector = some r) : SCall Tryz.prog 19 [.v (vl eOp aLog), .v (vl (eI .i64) aVector)] ⟨[.own 2 1 r.1.length (r.1.map (eI .i64)), .v (vi r.2)], [], false⟩ := by
  refine scall_in Tryz.func19 rfl [(.tmp 4), (.tmp 5)] rfl (fun r => ⟨[.own 2 1 r.1.length (r.1.map (eI .i64)), .v (vi r.2)], [], false⟩) (r := r) ?_
  unfold impl_MissingFor at h
  refine srk tbokGB ⟨38, [(0, vl eOp aLog), (1, vl (eI .i64) aVector)], []⟩ ?_
  refine swp_seq ?_
  refine swp_seq ?_
  refine swp_regJ h (fun j3 => ⟨38, [(0, vl eOp aLog), (1, vl (eI .i64) aVector), (16, vb j3)], []⟩) (fun v4 h => ?_) (fun j3 h => ?_)
  refine SRun.ck tbokGB 1 ⟨38, [(0, vl eOp aLog), (1, vl (eI .i64) aVector), (9, vl eOp aLog)], []⟩ ?_
  obtain ⟨x1, hx1, h⟩ := bind_some h
  refine SRun.ls (xc ents27 (impl_IsLog_run aLog _ hx1)) ?_
  refine SRun.ck tbokGB 2 ⟨38, [(0, vl eOp aLog), (1, vl (eI .i64) aVector), (12, vb (!x1))], []⟩ ?_
  refine SRun.cu [(12, fun b => b)] h (fun h => ?_) fun h => ?_
  refine SRun.ck tbokGB 4 ⟨38, [(0, vl eOp aLog), (1, vl (eI .i64) aVector), (16, vb true)], []⟩ ?_
  refine SRun.nil ?_
  obtain rfl := inj h
  exact Le.sub0
  refine SRun.ck tbokGB 1 ⟨38, [(0, vl eOp aLog), (1, vl (eI .i64) aVector), (12, vb false), (13, vl (eI .i64) aVector)], []⟩ ?_
  obtain ⟨x2, hx2, h⟩ := bind_some h
  refine SRun.ls (xc ents48 (impl_isVector_run aVector _ hx2)) ?_
  refine SRun.ck tbokGB 2 ⟨38, [(0, vl eOp aLog), (1, vl (eI .i64) aVector), (16, vb (!x2))], []⟩ ?_
  refine SRun.nil ?_
  obtain rfl := inj h
  exact Le.sub0
  refine swp_cd h (fun h => ?_) fun h => ?_
  refine srk tbokGB ⟨38, [(4, .own 4), (5, vi 1)], [(4, oa 2 1 (eI .i64) ([] : List Int))]⟩ ?_
  refine swp_ret ?_
  obtain rfl := inj h
  exact nx_r (q_fr (f2 (fo (eI_flat .i64)) fv))
  refine swp_skip ?_
  refine nx_n ?_
  refine srk tbokGB ⟨38, [(0, vl eOp aLog), (1, vl (eI .i64) aVector), (6, .own 6)], [(6, oa 2 1 (eI .i64) ([] : List Int))]⟩ ?_
  refine swp_seq ?_
  refine srk tbokGB ⟨38, [(1, vl (eI .i64) aVector), (6, .own 6), (17, vl eOp aLog), (18, vi (aLog.length : Int)), (19, vi 0)], [(6, oa 2 1 (eI .i64) ([] : List Int))]⟩ ?_
  refine swp_seqJ h (fun j5 => ⟨38, [(6, .own 6)], [(6, oa 2 1 (eI .i64) j5)]⟩) (fun v6 h => ?_) (fun j5 h => ?_)
  refine swp_blk (a := v6) ?_
  refine swp_lpL (r := v6) (s := (0, ([] : List Int))) _ (fun s7 => ⟨38, [(1, vl (eI .i64) aVector), (6, .own 6), (17, vl eOp aLog), (18, vi (aLog.length : Int)), (19, vi s7.1)], [(6, oa 2 1 (eI .i64) s7.2)]⟩) _ (Le.sub0) h (fun s7 v8 h => ?_)
  refine srk tbokGB ⟨38, [(1, vl (eI .i64) aVector), (6, .own 6), (17, vl eOp aLog), (18, vi (aLog.length : Int)), (19, vi s7.1), (20, vb (decide (s7.1 < (aLog.length : Int))))], [(6, oa 2 1 (eI .i64) s7.2)]⟩ ?_
  refine swp_seq ?_
  refine swp_cd h (fun h => ?_) fun h => ?_
  refine swp_skip ?_
  refine nx_n ?_
  refine swp_seq ?_
  refine swp_seqJ h (fun j9 => ⟨38, [(1, vl (eI .i64) aVector), (6, .own 6), (17, vl eOp aLog), (18, vi (aLog.length : Int)), (19, vi s7.1)], [(6, oa 2 1 (eI .i64) j9)]⟩) (fun v10 h => ?_) (fun j9 h => ?_)
  refine swp_blk (a := v10) ?_
  refine sr ?_
  refine SRun.ck tbokGB 1 ⟨38, [(1, vl (eI .i64) aVector), (6, .own 6), (17, vl eOp aLog), (18, vi (aLog.length : Int)), (19, vi s7.1), (21, vi s7.1)], [(6, oa 2 1 (eI .i64) s7.2)]⟩ ?_
  obtain ⟨x11, hx11, h⟩ := bind_some h
  refine SRun.ls (x_index (L := aLog) (f := eOp) (ti := ti27) (tj := ti53) (e := 53) (k := .i64) tbokGB rfl hx11) ?_
  refine ckn tbokGB 4 ⟨38, [(1, vl (eI .i64) aVector), (6, .own 6), (7, vi s7.1), (8, .ref 8 0), (17, vl eOp aLog), (18, vi (aLog.length : Int)), (19, vi s7.1)], [(6, oa 2 1 (eI .i64) s7.2), (8, .box (tc eOp x11))]⟩ ?_
  refine swp_seq ?_
  refine swp_dr mixed ?_
  refine DGo.ck tbokGB false 5 ⟨38, [(1, vl (eI .i64) aVector), (6, .own 6), (7, vi s7.1), (17, vl eOp aLog), (18, vi (aLog.length : Int)), (19, vi s7.1), (25, vi x11.Number), (26, vl (eI .i64) aVector), (28, vi x11.Office)], [(6, oa 2 1 (eI .i64) s7.2)]⟩ ?_
  obtain ⟨x12, hx12, h⟩ := bind_some h
  refine DGo.step (x_index (L := aVector) (f := (eI .i64)) (ti := ti40) (tj := ti2) (e := 2) (k := .i64) tbokGB rfl hx12) ?_
  refine DGo.ck tbokGB false 2 ⟨38, [(1, vl (eI .i64) aVector), (6, .own 6), (7, vi s7.1), (17, vl eOp aLog), (18, vi (aLog.length : Int)), (19, vi s7.1), (31, vb (decide (x11.Number > x12)))], [(6, oa 2 1 (eI .i64) s7.2)]⟩ ?_
  refine DGo.nx ?_
  refine swp_cd h (fun h => ?_) fun h => ?_
  refine swp_reg ?_
  refine SRun.ck tbokGB 3 ⟨38, [(1, vl (eI .i64) aVector), (17, vl eOp aLog), (18, vi (aLog.length : Int)), (19, vi s7.1), (32, .own 6), (34, .own 34)], [(6, oa 2 1 (eI .i64) s7.2), (34, oa 2 1 (eI .i64) ([s7.1] : List Int))]⟩ ?_
  obtain ⟨x13, hx13, h⟩ := bind_some h
  refine SRun.estep (x_append (f := (eI .i64)) (t := 40) (ti := ti40) (tj := ti2) (zs := [.int .i64 0]) (e := 2) (m := 1) (d := 6) (xv := .own 34) hx13 tbokGB rfl rfl rfl rfl (x_src_o (e := 2))) ?_
  refine SRun.ck tbokGB 1 ⟨38, [(1, vl (eI .i64) aVector), (6, .own 35), (17, vl eOp aLog), (18, vi (aLog.length : Int)), (19, vi s7.1)], [(35, oa 2 1 (eI .i64) x13)]⟩ ?_
  refine SRun.nil ?_
  obtain rfl := inj h
  exact q_bn (q_j (Le.rr [35] [(35, 6)]))
  refine swp_skip ?_
  obtain rfl := inj h
  exact q_bn (q_j (Le.sub0))
  refine swp_reg ?_
  refine SRun.ck tbokGB 2 ⟨38, [(1, vl (eI .i64) aVector), (6, .own 6), (17, vl eOp aLog), (18, vi (aLog.length : Int)), (19, vi (w64 (s7.1 + 1)))], [(6, oa 2 1 (eI .i64) j9)]⟩ ?_
  refine SRun.nil ?_
  obtain rfl := inj h
  exact q_l (Le.sub0)
  refine swp_exit ?_
  obtain rfl := inj h
  exact nx_e (q_re (q_bh (q_j (Le.sub0))))
  refine srk tbokGB ⟨38, [(4, .own 6), (5, vi 0)], [(6, oa 2 1 (eI .i64) j5)]⟩ ?_
  refine swp_ret ?_
  obtain rfl := inj h
  exact q_fr (f2 (fo (eI_flat .i64)) fv)
theorem ents19 : Ents Tryz.prog 19 := ents_of Tryz.func19 (by kernel_rfl) rfl
noncomputable def spec_MissingFor (aLog : (List Op)) (aVector : (List Int)) : Option ((List Int) × Int) :=
  ((((spec_IsLog aLog).bind fun x1 => (bif (!x1) then some true else ((spec_l32Vector aVector).bind fun x2 => some (!x2))))).bind fun (j3 : Bool) => (bif j3 then some (([] : List Int), 1) else (((forS (aLog.length : Int) (fun (i7 : Int) (s7 : (List Int)) => ((at' aLog i7).bind fun x11 => ((at' aLog i7).bind fun x12 => ((at' aVector x12.Office).bind fun x13 => (bif (decide (x11.Number > x13)) then ((app' s7 ([i7] : List Int)).bind fun x14 => some x14) else some s7))))) (fun (s7 : (List Int)) => s7) 0 ([] : List Int))).bind fun (j5 : (List Int)) => some (j5, 0))))
theorem spec_MissingFor_run (aLog : (List Op)) (aVector : (List Int)) (r : (List Int) × Int) (h : spec_MissingFor aLog aVector = some r) : SCall Tryz.prog 20 [.v (vl eOp aLog), .v (vl (eI .i64) aVector)] ⟨[.own 2 1 r.1.length (r.1.map (eI .i64)), .v (vi r.2)], [], false⟩ := by
  refine scall_in Tryz.func20 rfl [(.tmp 4), (.tmp 5)] rfl (fun r => ⟨[.own 2 1 r.1.length (r.1.map (eI .i64)), .v (vi r.2)], [], false⟩) (r := r) ?_
  unfold spec_MissingFor at h
  refine srk tbokGB ⟨42, [(0, vl eOp aLog), (1, vl (eI .i64) aVector)], []⟩ ?_
  refine swp_seq ?_
  refine swp_seq ?_
  refine swp_regJ h (fun j3 => ⟨42, [(0, vl eOp aLog), (1, vl (eI .i64) aVector), (15, vb j3)], []⟩) (fun v4 h => ?_) (fun j3 h => ?_)
  refine SRun.ck tbokGB 1 ⟨42, [(0, vl eOp aLog), (1, vl (eI .i64) aVector), (8, vl eOp aLog)], []⟩ ?_
  obtain ⟨x1, hx1, h⟩ := bind_some h
  refine SRun.ls (xc ents29 (spec_IsLog_run aLog _ hx1)) ?_
  refine SRun.ck tbokGB 2 ⟨42, [(0, vl eOp aLog), (1, vl (eI .i64) aVector), (11, vb (!x1))], []⟩ ?_
  refine SRun.cu [(11, fun b => b)] h (fun h => ?_) fun h => ?_
  refine SRun.ck tbokGB 4 ⟨42, [(0, vl eOp aLog), (1, vl (eI .i64) aVector), (15, vb true)], []⟩ ?_
  refine SRun.nil ?_
  obtain rfl := inj h
  exact Le.sub0
  refine SRun.ck tbokGB 1 ⟨42, [(0, vl eOp aLog), (1, vl (eI .i64) aVector), (11, vb false), (12, vl (eI .i64) aVector)], []⟩ ?_
  obtain ⟨x2, hx2, h⟩ := bind_some h
  refine SRun.ls (xc ents49 (spec_l32Vector_run aVector _ hx2)) ?_
  refine SRun.ck tbokGB 2 ⟨42, [(0, vl eOp aLog), (1, vl (eI .i64) aVector), (15, vb (!x2))], []⟩ ?_
  refine SRun.nil ?_
  obtain rfl := inj h
  exact Le.sub0
  refine swp_cd h (fun h => ?_) fun h => ?_
  refine srk tbokGB ⟨42, [(4, .own 4), (5, vi 1)], [(4, oa 2 1 (eI .i64) ([] : List Int))]⟩ ?_
  refine swp_ret ?_
  obtain rfl := inj h
  exact nx_r (q_fr (f2 (fo (eI_flat .i64)) fv))
  refine swp_skip ?_
  refine nx_n ?_
  refine srk tbokGB ⟨42, [(0, vl eOp aLog), (1, vl (eI .i64) aVector), (6, .own 16)], [(16, oa 2 1 (eI .i64) ([] : List Int))]⟩ ?_
  refine swp_seq ?_
  refine srk tbokGB ⟨42, [(0, vl eOp aLog), (1, vl (eI .i64) aVector), (6, .own 16), (7, vi 0)], [(16, oa 2 1 (eI .i64) ([] : List Int))]⟩ ?_
  refine swp_seqJ h (fun j5 => ⟨42, [(6, .own 6)], [(6, oa 2 1 (eI .i64) j5)]⟩) (fun v6 h => ?_) (fun j5 h => ?_)
  refine swp_blk (a := v6) ?_
  refine swp_lpL (r := v6) (s := (0, ([] : List Int))) _ (fun s7 => ⟨42, [(0, vl eOp aLog), (1, vl (eI .i64) aVector), (6, .own 6), (7, vi s7.1)], [(6, oa 2 1 (eI .i64) s7.2)]⟩) _ (Le.rr [16] [(16, 6)]) h (fun s7 v8 h => ?_)
  refine swp_seq ?_
  refine srk tbokGB ⟨42, [(0, vl eOp aLog), (1, vl (eI .i64) aVector), (6, .own 6), (7, vi s7.1), (20, vb (decide (s7.1 < (aLog.length : Int))))], [(6, oa 2 1 (eI .i64) s7.2)]⟩ ?_
  refine swp_cd h (fun h => ?_) fun h => ?_
  refine swp_skip ?_
  refine nx_n ?_
  refine swp_seq ?_
  refine swp_seqJ h (fun j9 => ⟨42, [(0, vl eOp aLog), (1, vl (eI .i64) aVector), (6, .own 6), (7, vi s7.1)], [(6, oa 2 1 (eI .i64) j9)]⟩) (fun v10 h => ?_) (fun j9 h => ?_)
  refine swp_blk (a := v10) ?_
  refine swp_seq ?_
  refine swp_dr mixed ?_
  refine DGo.ck tbokGB false 2 ⟨42, [(0, vl eOp aLog), (1, vl (eI .i64) aVector), (6, .own 6), (7, vi s7.1), (23, vl eOp aLog), (24, vi s7.1)], [(6, oa 2 1 (eI .i64) s7.2)]⟩ ?_
  obtain ⟨x11, hx11, h⟩ := bind_some h
  refine DGo.step (x_index (L := aLog) (f := eOp) (ti := ti27) (tj := ti53) (e := 53) (k := .i64) tbokGB rfl hx11) ?_
  refine DGo.ck tbokGB false 5 ⟨42, [(0, vl eOp aLog), (1, vl (eI .i64) aVector), (6, .own 6), (7, vi s7.1), (27, vi x11.Number), (28, vl (eI .i64) aVector), (29, vl eOp aLog), (30, vi s7.1)], [(6, oa 2 1 (eI .i64) s7.2)]⟩ ?_
  obtain ⟨x12, hx12, h⟩ := bind_some h
  refine DGo.step (x_index (L := aLog) (f := eOp) (ti := ti27) (tj := ti53) (e := 53) (k := .i64) tbokGB rfl hx12) ?_
  refine DGo.ck tbokGB false 2 ⟨42, [(0, vl eOp aLog), (1, vl (eI .i64) aVector), (6, .own 6), (7, vi s7.1), (27, vi x11.Number), (28, vl (eI .i64) aVector), (33, vi x12.Office)], [(6, oa 2 1 (eI .i64) s7.2)]⟩ ?_
  obtain ⟨x13, hx13, h⟩ := bind_some h
  refine DGo.step (x_index (L := aVector) (f := (eI .i64)) (ti := ti40) (tj := ti2) (e := 2) (k := .i64) tbokGB rfl hx13) ?_
  refine DGo.ck tbokGB false 2 ⟨42, [(0, vl eOp aLog), (1, vl (eI .i64) aVector), (6, .own 6), (7, vi s7.1), (36, vb (decide (x11.Number > x13)))], [(6, oa 2 1 (eI .i64) s7.2)]⟩ ?_
  refine DGo.nx ?_
  refine swp_cd h (fun h => ?_) fun h => ?_
  refine swp_reg ?_
  refine SRun.ck tbokGB 3 ⟨42, [(0, vl eOp aLog), (1, vl (eI .i64) aVector), (7, vi s7.1), (37, .own 6), (39, .own 39)], [(6, oa 2 1 (eI .i64) s7.2), (39, oa 2 1 (eI .i64) ([s7.1] : List Int))]⟩ ?_
  obtain ⟨x14, hx14, h⟩ := bind_some h
  refine SRun.estep (x_append (f := (eI .i64)) (t := 40) (ti := ti40) (tj := ti2) (zs := [.int .i64 0]) (e := 2) (m := 1) (d := 6) (xv := .own 39) hx14 tbokGB rfl rfl rfl rfl (x_src_o (e := 2))) ?_
  refine SRun.ck tbokGB 1 ⟨42, [(0, vl eOp aLog), (1, vl (eI .i64) aVector), (6, .own 40), (7, vi s7.1)], [(40, oa 2 1 (eI .i64) x14)]⟩ ?_
  refine SRun.nil ?_
  obtain rfl := inj h
  exact q_bn (q_j (Le.rr [40] [(40, 6)]))
  refine swp_skip ?_
  obtain rfl := inj h
  exact q_bn (q_j (Le.sub0))
  refine swp_reg ?_
  refine SRun.ck tbokGB 3 ⟨42, [(0, vl eOp aLog), (1, vl (eI .i64) aVector), (6, .own 6), (7, vi (w64 (s7.1 + 1)))], [(6, oa 2 1 (eI .i64) j9)]⟩ ?_
  refine SRun.nil ?_
  obtain rfl := inj h
  exact q_l (Le.sub0)
  refine swp_exit ?_
  obtain rfl := inj h
  exact nx_e (q_re (q_bh (q_j (Le.sub0))))
  refine srk tbokGB ⟨42, [(4, .own 6), (5, vi 0)], [(6, oa 2 1 (eI .i64) j5)]⟩ ?_
  refine swp_ret ?_
  obtain rfl := inj h
  exact q_fr (f2 (fo (eI_flat .i64)) fv)
theorem ents20 : Ents Tryz.prog 20 := ents_of Tryz.func20 (by kernel_rfl) rfl
noncomputable def spec_DrawStateOfLog (aCode : (List Int)) : Option ((List Op)) :=
  ((spec_l01From aCode).bind fun x1 => ((spec_l32Draw x1).bind fun x2 => some x2.1))
theorem spec_DrawStateOfLog_run (aCode : (List Int)) (r : (List Op)) (h : spec_DrawStateOfLog aCode = some r) : SCall Tryz.prog 21 [.v (vl (eI .u8) aCode)] ⟨[.v (vl eOp r)], [], true⟩ := by
  refine scall_in Tryz.func21 rfl [(.tmp 2)] rfl (fun r => ⟨[.v (vl eOp r)], [], true⟩) (r := r) ?_
  unfold spec_DrawStateOfLog at h
  refine srk tbokGB ⟨6, [(0, vl (eI .u8) aCode)], []⟩ ?_
  refine sr ?_
  refine SRun.ck tbokGB 1 ⟨6, [(3, vl (eI .u8) aCode)], []⟩ ?_
  obtain ⟨x1, hx1, h⟩ := bind_some h
  refine SRun.ls (xc ents37 (spec_l01From_run aCode _ hx1)) ?_
  obtain ⟨x2, hx2, h⟩ := bind_some h
  refine SRun.estep (xe ents39 (spec_l32Draw_run x1 _ hx2)) ?_
  refine ckn tbokGB 1 ⟨6, [(2, vl eOp x2.1)], []⟩ ?_
  refine swp_ret ?_
  obtain rfl := inj h
  exact q_fr (f1 ft)
theorem ents21 : Ents Tryz.prog 21 := ents_of Tryz.func21 (by kernel_rfl) rfl
noncomputable def impl_VectorOf (aLog : (List Op)) : Option ((List Int) × Int) :=
  ((impl_IsLog aLog).bind fun x1 => (bif (!x1) then some (([] : List Int), 1) else ((impl_vectorOf aLog).bind fun x2 => some (x2, 0))))
theorem impl_VectorOf_run (aLog : (List Op)) (r : (List Int) × Int) (h : impl_VectorOf aLog = some r) : SCall Tryz.prog 22 [.v (vl eOp aLog)] ⟨[.own 2 1 r.1.length (r.1.map (eI .i64)), .v (vi r.2)], [], false⟩ := by
  refine scall_in Tryz.func22 rfl [(.tmp 2), (.tmp 3)] rfl (fun r => ⟨[.own 2 1 r.1.length (r.1.map (eI .i64)), .v (vi r.2)], [], false⟩) (r := r) ?_
  unfold impl_VectorOf at h
  refine srk tbokGB ⟨9, [(0, vl eOp aLog)], []⟩ ?_
  refine swp_seq ?_
  refine sr ?_
  refine SRun.ck tbokGB 1 ⟨9, [(0, vl eOp aLog), (4, vl eOp aLog)], []⟩ ?_
  obtain ⟨x1, hx1, h⟩ := bind_some h
  refine SRun.ls (xc ents27 (impl_IsLog_run aLog _ hx1)) ?_
  refine ckn tbokGB 1 ⟨9, [(0, vl eOp aLog), (6, vb (!x1))], []⟩ ?_
  refine swp_cd h (fun h => ?_) fun h => ?_
  refine srk tbokGB ⟨9, [(2, .own 2), (3, vi 1)], [(2, oa 2 1 (eI .i64) ([] : List Int))]⟩ ?_
  refine swp_ret ?_
  obtain rfl := inj h
  exact nx_r (q_fr (f2 (fo (eI_flat .i64)) fv))
  refine swp_skip ?_
  refine nx_n ?_
  refine sr ?_
  refine SRun.ck tbokGB 1 ⟨9, [(7, vl eOp aLog)], []⟩ ?_
  obtain ⟨x2, hx2, h⟩ := bind_some h
  refine SRun.ls (xc ents50 (impl_vectorOf_run aLog _ hx2)) ?_
  refine ckn tbokGB 2 ⟨9, [(2, .own 8), (3, vi 0)], [(8, oa 2 1 (eI .i64) x2)]⟩ ?_
  refine swp_ret ?_
  obtain rfl := inj h
  exact q_fr (f2 (fo (eI_flat .i64)) fv)
theorem ents22 : Ents Tryz.prog 22 := ents_of Tryz.func22 (by kernel_rfl) rfl
noncomputable def spec_VectorOf (aLog : (List Op)) : Option ((List Int) × Int) :=
  ((spec_IsLog aLog).bind fun x1 => (bif (!x1) then some (([] : List Int), 1) else ((spec_l32Count aLog).bind fun x2 => some (x2, 0))))
theorem spec_VectorOf_run (aLog : (List Op)) (r : (List Int) × Int) (h : spec_VectorOf aLog = some r) : SCall Tryz.prog 23 [.v (vl eOp aLog)] ⟨[.own 2 1 r.1.length (r.1.map (eI .i64)), .v (vi r.2)], [], false⟩ := by
  refine scall_in Tryz.func23 rfl [(.tmp 2), (.tmp 3)] rfl (fun r => ⟨[.own 2 1 r.1.length (r.1.map (eI .i64)), .v (vi r.2)], [], false⟩) (r := r) ?_
  unfold spec_VectorOf at h
  refine srk tbokGB ⟨9, [(0, vl eOp aLog)], []⟩ ?_
  refine swp_seq ?_
  refine sr ?_
  refine SRun.ck tbokGB 1 ⟨9, [(0, vl eOp aLog), (4, vl eOp aLog)], []⟩ ?_
  obtain ⟨x1, hx1, h⟩ := bind_some h
  refine SRun.ls (xc ents29 (spec_IsLog_run aLog _ hx1)) ?_
  refine ckn tbokGB 1 ⟨9, [(0, vl eOp aLog), (6, vb (!x1))], []⟩ ?_
  refine swp_cd h (fun h => ?_) fun h => ?_
  refine srk tbokGB ⟨9, [(2, .own 2), (3, vi 1)], [(2, oa 2 1 (eI .i64) ([] : List Int))]⟩ ?_
  refine swp_ret ?_
  obtain rfl := inj h
  exact nx_r (q_fr (f2 (fo (eI_flat .i64)) fv))
  refine swp_skip ?_
  refine nx_n ?_
  refine sr ?_
  refine SRun.ck tbokGB 1 ⟨9, [(7, vl eOp aLog)], []⟩ ?_
  obtain ⟨x2, hx2, h⟩ := bind_some h
  refine SRun.ls (xc ents51 (spec_l32Count_run aLog _ hx2)) ?_
  refine ckn tbokGB 2 ⟨9, [(2, .own 8), (3, vi 0)], [(8, oa 2 1 (eI .i64) x2)]⟩ ?_
  refine swp_ret ?_
  obtain rfl := inj h
  exact q_fr (f2 (fo (eI_flat .i64)) fv)
theorem ents23 : Ents Tryz.prog 23 := ents_of Tryz.func23 (by kernel_rfl) rfl
noncomputable def laws_likeInts (aA : (List Int)) (aB : (List Int)) : Option (Bool) :=
  (bif ((aA.length : Int) != (aB.length : Int)) then some false else (((forN (aA.length : Int) (fun (i3 : Int) (_ : Unit) => ((at' aA i3).bind fun x7 => ((at' aB i3).bind fun x8 => (bif (x7 != x8) then some (.inr (.inr false)) else some (.inl ()))))) (fun (_ : Unit) => .inl ()) 0 ())).bind (Sum.elim (fun (_ : Unit) => some true) some)))
theorem laws_likeInts_run (aA : (List Int)) (aB : (List Int)) (r : Bool) (h : laws_likeInts aA aB = some r) : SCall Tryz.prog 25 [.v (vl (eI .i64) aA), .v (vl (eI .i64) aB)] ⟨[.v (vb r)], [], false⟩ := by
  refine scall_in Tryz.func25 rfl [(.tmp 4)] rfl (fun r => ⟨[.v (vb r)], [], false⟩) (r := r) ?_
  unfold laws_likeInts at h
  refine srk tbokGB ⟨26, [(0, vl (eI .i64) aA), (1, vl (eI .i64) aB)], []⟩ ?_
  refine swp_seq ?_
  refine srk tbokGB ⟨26, [(0, vl (eI .i64) aA), (1, vl (eI .i64) aB), (10, vb ((aA.length : Int) != (aB.length : Int)))], []⟩ ?_
  refine swp_cd h (fun h => ?_) fun h => ?_
  refine srk tbokGB ⟨26, [(4, vb false)], []⟩ ?_
  refine swp_ret ?_
  obtain rfl := inj h
  exact nx_r (q_fr (f1 fv))
  refine swp_skip ?_
  refine nx_n ?_
  refine swp_seq ?_
  refine srk tbokGB ⟨26, [(0, vl (eI .i64) aA), (1, vl (eI .i64) aB), (5, vi 0)], []⟩ ?_
  refine swp_seqE (r := r) h (fun j1 => ⟨26, [], []⟩) (fun v2 h => ?_) (fun j1 h => ?_)
  refine swp_blk (a := v2) ?_
  refine swp_lpL (r := v2) (s := (0, ())) _ (fun s3 => ⟨26, [(0, vl (eI .i64) aA), (1, vl (eI .i64) aB), (5, vi s3.1)], []⟩) _ (Le.sub0) h (fun s3 v4 h => ?_)
  refine swp_seq ?_
  refine srk tbokGB ⟨26, [(0, vl (eI .i64) aA), (1, vl (eI .i64) aB), (5, vi s3.1), (14, vb (decide (s3.1 < (aA.length : Int))))], []⟩ ?_
  refine swp_cd h (fun h => ?_) fun h => ?_
  refine swp_skip ?_
  refine nx_n ?_
  refine swp_seq ?_
  refine swp_seqL (r := v4) h (fun j5 => ⟨26, [(0, vl (eI .i64) aA), (1, vl (eI .i64) aB), (5, vi s3.1)], []⟩) (fun v6 h => ?_) (fun j5 h => ?_)
  refine swp_blk (a := v6) ?_
  refine swp_seq ?_
  refine swp_dr mixed ?_
  refine DGo.ck tbokGB false 2 ⟨26, [(0, vl (eI .i64) aA), (1, vl (eI .i64) aB), (5, vi s3.1), (17, vl (eI .i64) aA), (18, vi s3.1)], []⟩ ?_
  obtain ⟨x7, hx7, h⟩ := bind_some h
  refine DGo.step (x_index (L := aA) (f := (eI .i64)) (ti := ti40) (tj := ti2) (e := 2) (k := .i64) tbokGB rfl hx7) ?_
  refine DGo.ck tbokGB false 3 ⟨26, [(0, vl (eI .i64) aA), (1, vl (eI .i64) aB), (5, vi s3.1), (20, vi x7), (21, vl (eI .i64) aB), (22, vi s3.1)], []⟩ ?_
  obtain ⟨x8, hx8, h⟩ := bind_some h
  refine DGo.step (x_index (L := aB) (f := (eI .i64)) (ti := ti40) (tj := ti2) (e := 2) (k := .i64) tbokGB rfl hx8) ?_
  refine DGo.ck tbokGB false 2 ⟨26, [(0, vl (eI .i64) aA), (1, vl (eI .i64) aB), (5, vi s3.1), (25, vb (x7 != x8))], []⟩ ?_
  refine DGo.nx ?_
  refine swp_cd h (fun h => ?_) fun h => ?_
  refine srk tbokGB ⟨26, [(4, vb false)], []⟩ ?_
  refine swp_ret ?_
  obtain rfl := inj h
  exact q_br (q_rr (q_rr (q_br (q_rr (q_fr (f1 fv))))))
  refine swp_skip ?_
  obtain rfl := inj h
  exact q_bn (q_l (Le.sub0))
  refine swp_reg ?_
  refine SRun.ck tbokGB 3 ⟨26, [(0, vl (eI .i64) aA), (1, vl (eI .i64) aB), (5, vi (w64 (s3.1 + 1)))], []⟩ ?_
  refine SRun.nil ?_
  obtain rfl := inj h
  exact q_l (Le.sub0)
  refine swp_exit ?_
  obtain rfl := inj h
  exact nx_e (q_re (q_bh (q_l (Le.sub0))))
  refine srk tbokGB ⟨26, [(4, vb true)], []⟩ ?_
  refine swp_ret ?_
  obtain rfl := inj h
  exact q_fr (f1 fv)
theorem ents25 : Ents Tryz.prog 25 := ents_of Tryz.func25 (by kernel_rfl) rfl
noncomputable def laws_likeOps (aA : (List Op)) (aB : (List Op)) : Option (Bool) :=
  (bif ((aA.length : Int) != (aB.length : Int)) then some false else (((forN (aA.length : Int) (fun (i3 : Int) (_ : Unit) => ((((at' aA i3).bind fun x7 => ((at' aB i3).bind fun x8 => (bif (x7.Office != x8.Office) then some true else ((at' aA i3).bind fun x9 => ((at' aB i3).bind fun x10 => (bif (x9.Number != x10.Number) then some true else ((at' aA i3).bind fun x11 => ((at' aB i3).bind fun x12 => (bif (!(x11.Key.toList == x12.Key.toList)) then some true else ((at' aA i3).bind fun x13 => ((at' aB i3).bind fun x14 => (bif (!(x13.Text.toList == x14.Text.toList)) then some true else ((at' aA i3).bind fun x15 => ((at' aB i3).bind fun x16 => ((laws_likeInts x15.Seen x16.Seen).bind fun x17 => some (!x17))))))))))))))))).bind fun (j18 : Bool) => (bif j18 then some (.inr (.inr false)) else some (.inl ())))) (fun (_ : Unit) => .inl ()) 0 ())).bind (Sum.elim (fun (_ : Unit) => some true) some)))
theorem laws_likeOps_run (aA : (List Op)) (aB : (List Op)) (r : Bool) (h : laws_likeOps aA aB = some r) : SCall Tryz.prog 24 [.v (vl eOp aA), .v (vl eOp aB)] ⟨[.v (vb r)], [], false⟩ := by
  refine scall_in Tryz.func24 rfl [(.tmp 4)] rfl (fun r => ⟨[.v (vb r)], [], false⟩) (r := r) ?_
  unfold laws_likeOps at h
  refine srk tbokGB ⟨81, [(0, vl eOp aA), (1, vl eOp aB)], []⟩ ?_
  refine swp_seq ?_
  refine srk tbokGB ⟨81, [(0, vl eOp aA), (1, vl eOp aB), (10, vb ((aA.length : Int) != (aB.length : Int)))], []⟩ ?_
  refine swp_cd h (fun h => ?_) fun h => ?_
  refine srk tbokGB ⟨81, [(4, vb false)], []⟩ ?_
  refine swp_ret ?_
  obtain rfl := inj h
  exact nx_r (q_fr (f1 fv))
  refine swp_skip ?_
  refine nx_n ?_
  refine swp_seq ?_
  refine srk tbokGB ⟨81, [(0, vl eOp aA), (1, vl eOp aB), (5, vi 0)], []⟩ ?_
  refine swp_seqE (r := r) h (fun j1 => ⟨81, [], []⟩) (fun v2 h => ?_) (fun j1 h => ?_)
  refine swp_blk (a := v2) ?_
  refine swp_lpL (r := v2) (s := (0, ())) _ (fun s3 => ⟨81, [(0, vl eOp aA), (1, vl eOp aB), (5, vi s3.1)], []⟩) _ (Le.sub0) h (fun s3 v4 h => ?_)
  refine swp_seq ?_
  refine srk tbokGB ⟨81, [(0, vl eOp aA), (1, vl eOp aB), (5, vi s3.1), (14, vb (decide (s3.1 < (aA.length : Int))))], []⟩ ?_
  refine swp_cd h (fun h => ?_) fun h => ?_
  refine swp_skip ?_
  refine nx_n ?_
  refine swp_seq ?_
  refine swp_seqL (r := v4) h (fun j5 => ⟨81, [(0, vl eOp aA), (1, vl eOp aB), (5, vi s3.1)], []⟩) (fun v6 h => ?_) (fun j5 h => ?_)
  refine swp_blk (a := v6) ?_
  refine swp_seq ?_
  refine swp_drJ mixed h (fun j18 => ⟨81, [(0, vl eOp aA), (1, vl eOp aB), (5, vi s3.1), (80, vb j18)], []⟩) (fun v19 h => ?_) (fun j18 h => ?_)
  refine DGo.ck tbokGB false 2 ⟨81, [(0, vl eOp aA), (1, vl eOp aB), (5, vi s3.1), (17, vl eOp aA), (18, vi s3.1)], []⟩ ?_
  obtain ⟨x7, hx7, h⟩ := bind_some h
  refine DGo.step (x_index (L := aA) (f := eOp) (ti := ti27) (tj := ti53) (e := 53) (k := .i64) tbokGB rfl hx7) ?_
  refine DGo.ck tbokGB false 4 ⟨81, [(0, vl eOp aA), (1, vl eOp aB), (5, vi s3.1), (21, vi x7.Office), (22, vl eOp aB), (23, vi s3.1)], []⟩ ?_
  obtain ⟨x8, hx8, h⟩ := bind_some h
  refine DGo.step (x_index (L := aB) (f := eOp) (ti := ti27) (tj := ti53) (e := 53) (k := .i64) tbokGB rfl hx8) ?_
  refine DGo.ck tbokGB false 4 ⟨81, [(0, vl eOp aA), (1, vl eOp aB), (5, vi s3.1), (28, vb (x7.Office != x8.Office))], []⟩ ?_
  refine DGo.cu [(28, fun b => b)] h (fun h => ?_) fun h => ?_
  refine DGo.ck tbokGB false 52 ⟨81, [(0, vl eOp aA), (1, vl eOp aB), (5, vi s3.1), (80, vb true)], []⟩ ?_
  refine DGo.nil (by kernel_rfl) ?_
  obtain rfl := inj h
  exact Le.sub0
  refine DGo.ck tbokGB false 2 ⟨81, [(0, vl eOp aA), (1, vl eOp aB), (5, vi s3.1), (28, vb false), (29, vl eOp aA), (30, vi s3.1)], []⟩ ?_
  obtain ⟨x9, hx9, h⟩ := bind_some h
  refine DGo.step (x_index (L := aA) (f := eOp) (ti := ti27) (tj := ti53) (e := 53) (k := .i64) tbokGB rfl hx9) ?_
  refine DGo.ck tbokGB false 4 ⟨81, [(0, vl eOp aA), (1, vl eOp aB), (5, vi s3.1), (28, vb false), (33, vi x9.Number), (34, vl eOp aB), (35, vi s3.1)], []⟩ ?_
  obtain ⟨x10, hx10, h⟩ := bind_some h
  refine DGo.step (x_index (L := aB) (f := eOp) (ti := ti27) (tj := ti53) (e := 53) (k := .i64) tbokGB rfl hx10) ?_
  refine DGo.ck tbokGB false 5 ⟨81, [(0, vl eOp aA), (1, vl eOp aB), (5, vi s3.1), (41, vb (x9.Number != x10.Number))], []⟩ ?_
  refine DGo.cu [(41, fun b => b)] h (fun h => ?_) fun h => ?_
  refine DGo.ck tbokGB false 39 ⟨81, [(0, vl eOp aA), (1, vl eOp aB), (5, vi s3.1), (80, vb true)], []⟩ ?_
  refine DGo.nil (by kernel_rfl) ?_
  obtain rfl := inj h
  exact Le.sub0
  refine DGo.ck tbokGB false 2 ⟨81, [(0, vl eOp aA), (1, vl eOp aB), (5, vi s3.1), (41, vb false), (42, vl eOp aA), (43, vi s3.1)], []⟩ ?_
  obtain ⟨x11, hx11, h⟩ := bind_some h
  refine DGo.step (x_index (L := aA) (f := eOp) (ti := ti27) (tj := ti53) (e := 53) (k := .i64) tbokGB rfl hx11) ?_
  refine DGo.ck tbokGB false 4 ⟨81, [(0, vl eOp aA), (1, vl eOp aB), (5, vi s3.1), (41, vb false), (46, vs x11.Key), (47, vl eOp aB), (48, vi s3.1)], []⟩ ?_
  obtain ⟨x12, hx12, h⟩ := bind_some h
  refine DGo.step (x_index (L := aB) (f := eOp) (ti := ti27) (tj := ti53) (e := 53) (k := .i64) tbokGB rfl hx12) ?_
  refine DGo.ck tbokGB false 5 ⟨81, [(0, vl eOp aA), (1, vl eOp aB), (5, vi s3.1), (54, vb (!(x11.Key.toList == x12.Key.toList)))], []⟩ ?_
  refine DGo.cu [(54, fun b => b)] h (fun h => ?_) fun h => ?_
  refine DGo.ck tbokGB false 26 ⟨81, [(0, vl eOp aA), (1, vl eOp aB), (5, vi s3.1), (80, vb true)], []⟩ ?_
  refine DGo.nil (by kernel_rfl) ?_
  obtain rfl := inj h
  exact Le.sub0
  refine DGo.ck tbokGB false 2 ⟨81, [(0, vl eOp aA), (1, vl eOp aB), (5, vi s3.1), (54, vb false), (55, vl eOp aA), (56, vi s3.1)], []⟩ ?_
  obtain ⟨x13, hx13, h⟩ := bind_some h
  refine DGo.step (x_index (L := aA) (f := eOp) (ti := ti27) (tj := ti53) (e := 53) (k := .i64) tbokGB rfl hx13) ?_
  refine DGo.ck tbokGB false 4 ⟨81, [(0, vl eOp aA), (1, vl eOp aB), (5, vi s3.1), (54, vb false), (59, vs x13.Text), (60, vl eOp aB), (61, vi s3.1)], []⟩ ?_
  obtain ⟨x14, hx14, h⟩ := bind_some h
  refine DGo.step (x_index (L := aB) (f := eOp) (ti := ti27) (tj := ti53) (e := 53) (k := .i64) tbokGB rfl hx14) ?_
  refine DGo.ck tbokGB false 5 ⟨81, [(0, vl eOp aA), (1, vl eOp aB), (5, vi s3.1), (67, vb (!(x13.Text.toList == x14.Text.toList)))], []⟩ ?_
  refine DGo.cu [(67, fun b => b)] h (fun h => ?_) fun h => ?_
  refine DGo.ck tbokGB false 13 ⟨81, [(0, vl eOp aA), (1, vl eOp aB), (5, vi s3.1), (80, vb true)], []⟩ ?_
  refine DGo.nil (by kernel_rfl) ?_
  obtain rfl := inj h
  exact Le.sub0
  refine DGo.ck tbokGB false 2 ⟨81, [(0, vl eOp aA), (1, vl eOp aB), (5, vi s3.1), (67, vb false), (68, vl eOp aA), (69, vi s3.1)], []⟩ ?_
  obtain ⟨x15, hx15, h⟩ := bind_some h
  refine DGo.step (x_index (L := aA) (f := eOp) (ti := ti27) (tj := ti53) (e := 53) (k := .i64) tbokGB rfl hx15) ?_
  refine DGo.ck tbokGB false 4 ⟨81, [(0, vl eOp aA), (1, vl eOp aB), (5, vi s3.1), (67, vb false), (72, vl (eI .i64) x15.Seen), (73, vl eOp aB), (74, vi s3.1)], []⟩ ?_
  obtain ⟨x16, hx16, h⟩ := bind_some h
  refine DGo.step (x_index (L := aB) (f := eOp) (ti := ti27) (tj := ti53) (e := 53) (k := .i64) tbokGB rfl hx16) ?_
  refine DGo.ck tbokGB false 2 ⟨81, [(0, vl eOp aA), (1, vl eOp aB), (5, vi s3.1), (67, vb false), (72, vl (eI .i64) x15.Seen), (77, vl (eI .i64) x16.Seen)], []⟩ ?_
  obtain ⟨x17, hx17, h⟩ := bind_some h
  refine DGo.step (xc ents25 (laws_likeInts_run x15.Seen x16.Seen _ hx17)) ?_
  refine DGo.ck tbokGB false 2 ⟨81, [(0, vl eOp aA), (1, vl eOp aB), (5, vi s3.1), (80, vb (!x17))], []⟩ ?_
  refine DGo.nil (by kernel_rfl) ?_
  obtain rfl := inj h
  exact Le.sub0
  refine swp_cd h (fun h => ?_) fun h => ?_
  refine srk tbokGB ⟨81, [(4, vb false)], []⟩ ?_
  refine swp_ret ?_
  obtain rfl := inj h
  exact q_br (q_rr (q_rr (q_br (q_rr (q_fr (f1 fv))))))
  refine swp_skip ?_
  obtain rfl := inj h
  exact q_bn (q_l (Le.sub0))
  refine swp_reg ?_
  refine SRun.ck tbokGB 3 ⟨81, [(0, vl eOp aA), (1, vl eOp aB), (5, vi (w64 (s3.1 + 1)))], []⟩ ?_
  refine SRun.nil ?_
  obtain rfl := inj h
  exact q_l (Le.sub0)
  refine swp_exit ?_
  obtain rfl := inj h
  exact nx_e (q_re (q_bh (q_l (Le.sub0))))
  refine srk tbokGB ⟨81, [(4, vb true)], []⟩ ?_
  refine swp_ret ?_
  obtain rfl := inj h
  exact q_fr (f1 fv)
theorem ents24 : Ents Tryz.prog 24 := ents_of Tryz.func24 (by kernel_rfl) rfl
noncomputable def laws_likeTexts (aA : (List ByteArray)) (aB : (List ByteArray)) : Option (Bool) :=
  (bif ((aA.length : Int) != (aB.length : Int)) then some false else (((forN (aA.length : Int) (fun (i3 : Int) (_ : Unit) => ((at' aA i3).bind fun x7 => ((at' aB i3).bind fun x8 => (bif (!(x7.toList == x8.toList)) then some (.inr (.inr false)) else some (.inl ()))))) (fun (_ : Unit) => .inl ()) 0 ())).bind (Sum.elim (fun (_ : Unit) => some true) some)))
theorem laws_likeTexts_run (aA : (List ByteArray)) (aB : (List ByteArray)) (r : Bool) (h : laws_likeTexts aA aB = some r) : SCall Tryz.prog 26 [.v (vl eS aA), .v (vl eS aB)] ⟨[.v (vb r)], [], false⟩ := by
  refine scall_in Tryz.func26 rfl [(.tmp 4)] rfl (fun r => ⟨[.v (vb r)], [], false⟩) (r := r) ?_
  unfold laws_likeTexts at h
  refine srk tbokGB ⟨26, [(0, vl eS aA), (1, vl eS aB)], []⟩ ?_
  refine swp_seq ?_
  refine srk tbokGB ⟨26, [(0, vl eS aA), (1, vl eS aB), (10, vb ((aA.length : Int) != (aB.length : Int)))], []⟩ ?_
  refine swp_cd h (fun h => ?_) fun h => ?_
  refine srk tbokGB ⟨26, [(4, vb false)], []⟩ ?_
  refine swp_ret ?_
  obtain rfl := inj h
  exact nx_r (q_fr (f1 fv))
  refine swp_skip ?_
  refine nx_n ?_
  refine swp_seq ?_
  refine srk tbokGB ⟨26, [(0, vl eS aA), (1, vl eS aB), (5, vi 0)], []⟩ ?_
  refine swp_seqE (r := r) h (fun j1 => ⟨26, [], []⟩) (fun v2 h => ?_) (fun j1 h => ?_)
  refine swp_blk (a := v2) ?_
  refine swp_lpL (r := v2) (s := (0, ())) _ (fun s3 => ⟨26, [(0, vl eS aA), (1, vl eS aB), (5, vi s3.1)], []⟩) _ (Le.sub0) h (fun s3 v4 h => ?_)
  refine swp_seq ?_
  refine srk tbokGB ⟨26, [(0, vl eS aA), (1, vl eS aB), (5, vi s3.1), (14, vb (decide (s3.1 < (aA.length : Int))))], []⟩ ?_
  refine swp_cd h (fun h => ?_) fun h => ?_
  refine swp_skip ?_
  refine nx_n ?_
  refine swp_seq ?_
  refine swp_seqL (r := v4) h (fun j5 => ⟨26, [(0, vl eS aA), (1, vl eS aB), (5, vi s3.1)], []⟩) (fun v6 h => ?_) (fun j5 h => ?_)
  refine swp_blk (a := v6) ?_
  refine swp_seq ?_
  refine swp_dr mixed ?_
  refine DGo.ck tbokGB false 2 ⟨26, [(0, vl eS aA), (1, vl eS aB), (5, vi s3.1), (17, vl eS aA), (18, vi s3.1)], []⟩ ?_
  obtain ⟨x7, hx7, h⟩ := bind_some h
  refine DGo.step (x_index (L := aA) (f := eS) (ti := ti24) (tj := ti9) (e := 9) (k := .i64) tbokGB rfl hx7) ?_
  refine DGo.ck tbokGB false 3 ⟨26, [(0, vl eS aA), (1, vl eS aB), (5, vi s3.1), (20, vs x7), (21, vl eS aB), (22, vi s3.1)], []⟩ ?_
  obtain ⟨x8, hx8, h⟩ := bind_some h
  refine DGo.step (x_index (L := aB) (f := eS) (ti := ti24) (tj := ti9) (e := 9) (k := .i64) tbokGB rfl hx8) ?_
  refine DGo.ck tbokGB false 2 ⟨26, [(0, vl eS aA), (1, vl eS aB), (5, vi s3.1), (25, vb (!(x7.toList == x8.toList)))], []⟩ ?_
  refine DGo.nx ?_
  refine swp_cd h (fun h => ?_) fun h => ?_
  refine srk tbokGB ⟨26, [(4, vb false)], []⟩ ?_
  refine swp_ret ?_
  obtain rfl := inj h
  exact q_br (q_rr (q_rr (q_br (q_rr (q_fr (f1 fv))))))
  refine swp_skip ?_
  obtain rfl := inj h
  exact q_bn (q_l (Le.sub0))
  refine swp_reg ?_
  refine SRun.ck tbokGB 3 ⟨26, [(0, vl eS aA), (1, vl eS aB), (5, vi (w64 (s3.1 + 1)))], []⟩ ?_
  refine SRun.nil ?_
  obtain rfl := inj h
  exact q_l (Le.sub0)
  refine swp_exit ?_
  obtain rfl := inj h
  exact nx_e (q_re (q_bh (q_l (Le.sub0))))
  refine srk tbokGB ⟨26, [(4, vb true)], []⟩ ?_
  refine swp_ret ?_
  obtain rfl := inj h
  exact q_fr (f1 fv)
theorem ents26 : Ents Tryz.prog 26 := ents_of Tryz.func26 (by kernel_rfl) rfl
noncomputable def laws_FnExchange (aCode : (List Int)) : Option (Bool) :=
  ((laws_big aCode).bind fun x1 => (bif x1 then some true else ((spec_DrawMergeLogs aCode).bind fun x2 => ((impl_MergeLogs x2.1 x2.2).bind fun x3 => ((spec_MergeLogs x2.1 x2.2).bind fun x4 => ((spec_DrawMissingFor aCode).bind fun x5 => ((impl_MissingFor x5.1 x5.2).bind fun x6 => ((spec_MissingFor x5.1 x5.2).bind fun x7 => ((spec_DrawStateOfLog aCode).bind fun x8 => ((impl_StateOfLog x8).bind fun x9 => ((spec_StateOfLog x8).bind fun x10 => ((impl_VectorOf x8).bind fun x11 => ((spec_VectorOf x8).bind fun x12 => (((bif (x3.2 != x4.2) then some true else ((laws_likeOps x3.1 x4.1).bind fun x13 => (bif (!x13) then some true else (bif (x6.2 != x7.2) then some true else ((laws_likeInts x6.1 x7.1).bind fun x14 => (bif (!x14) then some true else (bif (x9.2 != x10.2) then some true else ((laws_likeTexts x9.1 x10.1).bind fun x15 => (bif (!x15) then some true else (bif (x11.2 != x12.2) then some true else ((laws_likeInts x11.1 x12.1).bind fun x16 => (bif (!x16) then some true else ((impl_IsLog x8).bind fun x17 => some (!(x17 == (x12.2 == 0))))))))))))))))).bind fun (j18 : Bool) => (bif j18 then some false else (bif (x3.2 != 0) then some true else ((impl_MergeLogs x2.2 x2.1).bind fun x20 => ((impl_StateOfLog x3.1).bind fun x21 => ((impl_StateOfLog x20.1).bind fun x22 => ((impl_VectorOf x3.1).bind fun x23 => ((impl_MissingFor x2.1 x23.1).bind fun x24 => ((impl_MissingFor x2.2 x23.1).bind fun x25 => ((((impl_IsLog x3.1).bind fun x26 => (bif x26 then (bif (x20.2 == 0) then (bif (x21.2 == 0) then (bif (x22.2 == 0) then ((laws_likeTexts x21.1 x22.1).bind fun x27 => (bif x27 then (bif (x23.2 == 0) then (bif (x24.2 == 0) then (bif ((x24.1.length : Int) == 0) then (bif (x25.2 == 0) then some ((x25.1.length : Int) == 0) else some false) else some false) else some false) else some false) else some false)) else some false) else some false) else some false) else some false))).bind fun (j28 : Bool) => some j28)))))))))))))))))))))))
theorem laws_FnExchange_run (aCode : (List Int)) (r : Bool) (h : laws_FnExchange aCode = some r) : SCall Tryz.prog 4 [.v (vl (eI .u8) aCode)] ⟨[.v (vb r)], [], false⟩ := by
  refine scall_in Tryz.func4 rfl [(.tmp 2)] rfl (fun r => ⟨[.v (vb r)], [], false⟩) (r := r) ?_
  unfold laws_FnExchange at h
  refine srk tbokGB ⟨219, [(0, vl (eI .u8) aCode)], []⟩ ?_
  refine swp_seq ?_
  refine sr ?_
  refine SRun.ck tbokGB 1 ⟨219, [(0, vl (eI .u8) aCode), (36, vl (eI .u8) aCode)], []⟩ ?_
  obtain ⟨x1, hx1, h⟩ := bind_some h
  refine SRun.ls (xc ents14 (laws_big_run aCode _ hx1)) ?_
  refine SRun.nx ?_
  refine swp_cd h (fun h => ?_) fun h => ?_
  refine srk tbokGB ⟨219, [(2, vb true)], []⟩ ?_
  refine swp_ret ?_
  obtain rfl := inj h
  exact nx_r (q_fr (f1 fv))
  refine swp_skip ?_
  refine nx_n ?_
  refine sr ?_
  refine SRun.ck tbokGB 1 ⟨219, [(0, vl (eI .u8) aCode), (39, vl (eI .u8) aCode)], []⟩ ?_
  obtain ⟨x2, hx2, h⟩ := bind_some h
  refine SRun.ls (xc ents15 (spec_DrawMergeLogs_run aCode _ hx2)) ?_
  refine ckn tbokGB 5 ⟨219, [(0, vl (eI .u8) aCode), (3, vl eOp x2.1), (4, vl eOp x2.2)], []⟩ ?_
  refine sr ?_
  refine SRun.ck tbokGB 2 ⟨219, [(0, vl (eI .u8) aCode), (3, vl eOp x2.1), (4, vl eOp x2.2), (44, vl eOp x2.1), (45, vl eOp x2.2)], []⟩ ?_
  obtain ⟨x3, hx3, h⟩ := bind_some h
  refine SRun.ls (xc ents16 (impl_MergeLogs_run x2.1 x2.2 _ hx3)) ?_
  refine ckn tbokGB 5 ⟨219, [(0, vl (eI .u8) aCode), (3, vl eOp x2.1), (4, vl eOp x2.2), (5, .own 46), (6, vi x3.2)], [(46, .deep 53 5 x3.1.length [.flat, .flat, .flat, .flat, (.sl 2 1 [.flat])] (x3.1.map eOp))]⟩ ?_
  refine sr ?_
  refine SRun.ck tbokGB 2 ⟨219, [(0, vl (eI .u8) aCode), (3, vl eOp x2.1), (4, vl eOp x2.2), (5, .own 46), (6, vi x3.2), (50, vl eOp x2.1), (51, vl eOp x2.2)], [(46, .deep 53 5 x3.1.length [.flat, .flat, .flat, .flat, (.sl 2 1 [.flat])] (x3.1.map eOp))]⟩ ?_
  obtain ⟨x4, hx4, h⟩ := bind_some h
  refine SRun.ls (xc ents17 (spec_MergeLogs_run x2.1 x2.2 _ hx4)) ?_
  refine ckn tbokGB 5 ⟨219, [(0, vl (eI .u8) aCode), (3, vl eOp x2.1), (4, vl eOp x2.2), (5, .own 46), (6, vi x3.2), (7, .own 52), (8, vi x4.2)], [(46, .deep 53 5 x3.1.length [.flat, .flat, .flat, .flat, (.sl 2 1 [.flat])] (x3.1.map eOp)), (52, .deep 53 5 x4.1.length [.flat, .flat, .flat, .flat, (.sl 2 1 [.flat])] (x4.1.map eOp))]⟩ ?_
  refine sr ?_
  refine SRun.ck tbokGB 1 ⟨219, [(0, vl (eI .u8) aCode), (3, vl eOp x2.1), (4, vl eOp x2.2), (5, .own 46), (6, vi x3.2), (7, .own 52), (8, vi x4.2), (56, vl (eI .u8) aCode)], [(46, .deep 53 5 x3.1.length [.flat, .flat, .flat, .flat, (.sl 2 1 [.flat])] (x3.1.map eOp)), (52, .deep 53 5 x4.1.length [.flat, .flat, .flat, .flat, (.sl 2 1 [.flat])] (x4.1.map eOp))]⟩ ?_
  obtain ⟨x5, hx5, h⟩ := bind_some h
  refine SRun.ls (xc ents18 (spec_DrawMissingFor_run aCode _ hx5)) ?_
  refine ckn tbokGB 5 ⟨219, [(0, vl (eI .u8) aCode), (3, vl eOp x2.1), (4, vl eOp x2.2), (5, .own 46), (6, vi x3.2), (7, .own 52), (8, vi x4.2), (9, vl eOp x5.1), (10, vl (eI .i64) x5.2)], [(46, .deep 53 5 x3.1.length [.flat, .flat, .flat, .flat, (.sl 2 1 [.flat])] (x3.1.map eOp)), (52, .deep 53 5 x4.1.length [.flat, .flat, .flat, .flat, (.sl 2 1 [.flat])] (x4.1.map eOp))]⟩ ?_
  refine sr ?_
  refine SRun.ck tbokGB 2 ⟨219, [(0, vl (eI .u8) aCode), (3, vl eOp x2.1), (4, vl eOp x2.2), (5, .own 46), (6, vi x3.2), (7, .own 52), (8, vi x4.2), (9, vl eOp x5.1), (10, vl (eI .i64) x5.2), (61, vl eOp x5.1), (62, vl (eI .i64) x5.2)], [(46, .deep 53 5 x3.1.length [.flat, .flat, .flat, .flat, (.sl 2 1 [.flat])] (x3.1.map eOp)), (52, .deep 53 5 x4.1.length [.flat, .flat, .flat, .flat, (.sl 2 1 [.flat])] (x4.1.map eOp))]⟩ ?_
  obtain ⟨x6, hx6, h⟩ := bind_some h
  refine SRun.ls (xc ents19 (impl_MissingFor_run x5.1 x5.2 _ hx6)) ?_
  refine ckn tbokGB 5 ⟨219, [(0, vl (eI .u8) aCode), (3, vl eOp x2.1), (4, vl eOp x2.2), (5, .own 46), (6, vi x3.2), (7, .own 52), (8, vi x4.2), (9, vl eOp x5.1), (10, vl (eI .i64) x5.2), (11, .own 63), (12, vi x6.2)], [(46, .deep 53 5 x3.1.length [.flat, .flat, .flat, .flat, (.sl 2 1 [.flat])] (x3.1.map eOp)), (52, .deep 53 5 x4.1.length [.flat, .flat, .flat, .flat, (.sl 2 1 [.flat])] (x4.1.map eOp)), (63, oa 2 1 (eI .i64) x6.1)]⟩ ?_
  refine sr ?_
  refine SRun.ck tbokGB 2 ⟨219, [(0, vl (eI .u8) aCode), (3, vl eOp x2.1), (4, vl eOp x2.2), (5, .own 46), (6, vi x3.2), (7, .own 52), (8, vi x4.2), (11, .own 63), (12, vi x6.2), (67, vl eOp x5.1), (68, vl (eI .i64) x5.2)], [(46, .deep 53 5 x3.1.length [.flat, .flat, .flat, .flat, (.sl 2 1 [.flat])] (x3.1.map eOp)), (52, .deep 53 5 x4.1.length [.flat, .flat, .flat, .flat, (.sl 2 1 [.flat])] (x4.1.map eOp)), (63, oa 2 1 (eI .i64) x6.1)]⟩ ?_
  obtain ⟨x7, hx7, h⟩ := bind_some h
  refine SRun.ls (xc ents20 (spec_MissingFor_run x5.1 x5.2 _ hx7)) ?_
  refine ckn tbokGB 5 ⟨219, [(0, vl (eI .u8) aCode), (3, vl eOp x2.1), (4, vl eOp x2.2), (5, .own 46), (6, vi x3.2), (7, .own 52), (8, vi x4.2), (11, .own 63), (12, vi x6.2), (13, .own 69), (14, vi x7.2)], [(46, .deep 53 5 x3.1.length [.flat, .flat, .flat, .flat, (.sl 2 1 [.flat])] (x3.1.map eOp)), (52, .deep 53 5 x4.1.length [.flat, .flat, .flat, .flat, (.sl 2 1 [.flat])] (x4.1.map eOp)), (63, oa 2 1 (eI .i64) x6.1), (69, oa 2 1 (eI .i64) x7.1)]⟩ ?_
  refine sr ?_
  refine SRun.ck tbokGB 1 ⟨219, [(3, vl eOp x2.1), (4, vl eOp x2.2), (5, .own 46), (6, vi x3.2), (7, .own 52), (8, vi x4.2), (11, .own 63), (12, vi x6.2), (13, .own 69), (14, vi x7.2), (72, vl (eI .u8) aCode)], [(46, .deep 53 5 x3.1.length [.flat, .flat, .flat, .flat, (.sl 2 1 [.flat])] (x3.1.map eOp)), (52, .deep 53 5 x4.1.length [.flat, .flat, .flat, .flat, (.sl 2 1 [.flat])] (x4.1.map eOp)), (63, oa 2 1 (eI .i64) x6.1), (69, oa 2 1 (eI .i64) x7.1)]⟩ ?_
  obtain ⟨x8, hx8, h⟩ := bind_some h
  refine SRun.ls (xc ents21 (spec_DrawStateOfLog_run aCode _ hx8)) ?_
  refine ckn tbokGB 1 ⟨219, [(3, vl eOp x2.1), (4, vl eOp x2.2), (5, .own 46), (6, vi x3.2), (7, .own 52), (8, vi x4.2), (11, .own 63), (12, vi x6.2), (13, .own 69), (14, vi x7.2), (15, vl eOp x8)], [(46, .deep 53 5 x3.1.length [.flat, .flat, .flat, .flat, (.sl 2 1 [.flat])] (x3.1.map eOp)), (52, .deep 53 5 x4.1.length [.flat, .flat, .flat, .flat, (.sl 2 1 [.flat])] (x4.1.map eOp)), (63, oa 2 1 (eI .i64) x6.1), (69, oa 2 1 (eI .i64) x7.1)]⟩ ?_
  refine sr ?_
  refine SRun.ck tbokGB 1 ⟨219, [(3, vl eOp x2.1), (4, vl eOp x2.2), (5, .own 46), (6, vi x3.2), (7, .own 52), (8, vi x4.2), (11, .own 63), (12, vi x6.2), (13, .own 69), (14, vi x7.2), (15, vl eOp x8), (75, vl eOp x8)], [(46, .deep 53 5 x3.1.length [.flat, .flat, .flat, .flat, (.sl 2 1 [.flat])] (x3.1.map eOp)), (52, .deep 53 5 x4.1.length [.flat, .flat, .flat, .flat, (.sl 2 1 [.flat])] (x4.1.map eOp)), (63, oa 2 1 (eI .i64) x6.1), (69, oa 2 1 (eI .i64) x7.1)]⟩ ?_
  obtain ⟨x9, hx9, h⟩ := bind_some h
  refine SRun.ls (xc ents8 (impl_StateOfLog_run x8 _ hx9)) ?_
  refine ckn tbokGB 5 ⟨219, [(3, vl eOp x2.1), (4, vl eOp x2.2), (5, .own 46), (6, vi x3.2), (7, .own 52), (8, vi x4.2), (11, .own 63), (12, vi x6.2), (13, .own 69), (14, vi x7.2), (15, vl eOp x8), (16, .own 76), (17, vi x9.2)], [(46, .deep 53 5 x3.1.length [.flat, .flat, .flat, .flat, (.sl 2 1 [.flat])] (x3.1.map eOp)), (52, .deep 53 5 x4.1.length [.flat, .flat, .flat, .flat, (.sl 2 1 [.flat])] (x4.1.map eOp)), (63, oa 2 1 (eI .i64) x6.1), (69, oa 2 1 (eI .i64) x7.1), (76, oa 9 1 eS x9.1)]⟩ ?_
  refine sr ?_
  refine SRun.ck tbokGB 1 ⟨219, [(3, vl eOp x2.1), (4, vl eOp x2.2), (5, .own 46), (6, vi x3.2), (7, .own 52), (8, vi x4.2), (11, .own 63), (12, vi x6.2), (13, .own 69), (14, vi x7.2), (15, vl eOp x8), (16, .own 76), (17, vi x9.2), (80, vl eOp x8)], [(46, .deep 53 5 x3.1.length [.flat, .flat, .flat, .flat, (.sl 2 1 [.flat])] (x3.1.map eOp)), (52, .deep 53 5 x4.1.length [.flat, .flat, .flat, .flat, (.sl 2 1 [.flat])] (x4.1.map eOp)), (63, oa 2 1 (eI .i64) x6.1), (69, oa 2 1 (eI .i64) x7.1), (76, oa 9 1 eS x9.1)]⟩ ?_
  obtain ⟨x10, hx10, h⟩ := bind_some h
  refine SRun.ls (xc ents6 (spec_StateOfLog_run x8 _ hx10)) ?_
  refine ckn tbokGB 5 ⟨219, [(3, vl eOp x2.1), (4, vl eOp x2.2), (5, .own 46), (6, vi x3.2), (7, .own 52), (8, vi x4.2), (11, .own 63), (12, vi x6.2), (13, .own 69), (14, vi x7.2), (15, vl eOp x8), (16, .own 76), (17, vi x9.2), (18, .own 81), (19, vi x10.2)], [(46, .deep 53 5 x3.1.length [.flat, .flat, .flat, .flat, (.sl 2 1 [.flat])] (x3.1.map eOp)), (52, .deep 53 5 x4.1.length [.flat, .flat, .flat, .flat, (.sl 2 1 [.flat])] (x4.1.map eOp)), (63, oa 2 1 (eI .i64) x6.1), (69, oa 2 1 (eI .i64) x7.1), (76, oa 9 1 eS x9.1), (81, oa 9 1 eS x10.1)]⟩ ?_
  refine sr ?_
  refine SRun.ck tbokGB 1 ⟨219, [(3, vl eOp x2.1), (4, vl eOp x2.2), (5, .own 46), (6, vi x3.2), (7, .own 52), (8, vi x4.2), (11, .own 63), (12, vi x6.2), (13, .own 69), (14, vi x7.2), (15, vl eOp x8), (16, .own 76), (17, vi x9.2), (18, .own 81), (19, vi x10.2), (85, vl eOp x8)], [(46, .deep 53 5 x3.1.length [.flat, .flat, .flat, .flat, (.sl 2 1 [.flat])] (x3.1.map eOp)), (52, .deep 53 5 x4.1.length [.flat, .flat, .flat, .flat, (.sl 2 1 [.flat])] (x4.1.map eOp)), (63, oa 2 1 (eI .i64) x6.1), (69, oa 2 1 (eI .i64) x7.1), (76, oa 9 1 eS x9.1), (81, oa 9 1 eS x10.1)]⟩ ?_
  obtain ⟨x11, hx11, h⟩ := bind_some h
  refine SRun.ls (xc ents22 (impl_VectorOf_run x8 _ hx11)) ?_
  refine ckn tbokGB 5 ⟨219, [(3, vl eOp x2.1), (4, vl eOp x2.2), (5, .own 46), (6, vi x3.2), (7, .own 52), (8, vi x4.2), (11, .own 63), (12, vi x6.2), (13, .own 69), (14, vi x7.2), (15, vl eOp x8), (16, .own 76), (17, vi x9.2), (18, .own 81), (19, vi x10.2), (20, .own 86), (21, vi x11.2)], [(46, .deep 53 5 x3.1.length [.flat, .flat, .flat, .flat, (.sl 2 1 [.flat])] (x3.1.map eOp)), (52, .deep 53 5 x4.1.length [.flat, .flat, .flat, .flat, (.sl 2 1 [.flat])] (x4.1.map eOp)), (63, oa 2 1 (eI .i64) x6.1), (69, oa 2 1 (eI .i64) x7.1), (76, oa 9 1 eS x9.1), (81, oa 9 1 eS x10.1), (86, oa 2 1 (eI .i64) x11.1)]⟩ ?_
  refine sr ?_
  refine SRun.ck tbokGB 1 ⟨219, [(3, vl eOp x2.1), (4, vl eOp x2.2), (5, .own 46), (6, vi x3.2), (7, .own 52), (8, vi x4.2), (11, .own 63), (12, vi x6.2), (13, .own 69), (14, vi x7.2), (15, vl eOp x8), (16, .own 76), (17, vi x9.2), (18, .own 81), (19, vi x10.2), (20, .own 86), (21, vi x11.2), (90, vl eOp x8)], [(46, .deep 53 5 x3.1.length [.flat, .flat, .flat, .flat, (.sl 2 1 [.flat])] (x3.1.map eOp)), (52, .deep 53 5 x4.1.length [.flat, .flat, .flat, .flat, (.sl 2 1 [.flat])] (x4.1.map eOp)), (63, oa 2 1 (eI .i64) x6.1), (69, oa 2 1 (eI .i64) x7.1), (76, oa 9 1 eS x9.1), (81, oa 9 1 eS x10.1), (86, oa 2 1 (eI .i64) x11.1)]⟩ ?_
  obtain ⟨x12, hx12, h⟩ := bind_some h
  refine SRun.ls (xc ents23 (spec_VectorOf_run x8 _ hx12)) ?_
  refine ckn tbokGB 5 ⟨219, [(3, vl eOp x2.1), (4, vl eOp x2.2), (5, .own 46), (6, vi x3.2), (7, .own 52), (8, vi x4.2), (11, .own 63), (12, vi x6.2), (13, .own 69), (14, vi x7.2), (15, vl eOp x8), (16, .own 76), (17, vi x9.2), (18, .own 81), (19, vi x10.2), (20, .own 86), (21, vi x11.2), (22, .own 91), (23, vi x12.2)], [(46, .deep 53 5 x3.1.length [.flat, .flat, .flat, .flat, (.sl 2 1 [.flat])] (x3.1.map eOp)), (52, .deep 53 5 x4.1.length [.flat, .flat, .flat, .flat, (.sl 2 1 [.flat])] (x4.1.map eOp)), (63, oa 2 1 (eI .i64) x6.1), (69, oa 2 1 (eI .i64) x7.1), (76, oa 9 1 eS x9.1), (81, oa 9 1 eS x10.1), (86, oa 2 1 (eI .i64) x11.1), (91, oa 2 1 (eI .i64) x12.1)]⟩ ?_
  refine swp_seq ?_
  refine swp_seq ?_
  refine swp_regJ h (fun j18 => ⟨219, [(3, vl eOp x2.1), (4, vl eOp x2.2), (5, .own 5), (6, vi x3.2), (142, vb j18)], [(5, .deep 53 5 x3.1.length [.flat, .flat, .flat, .flat, (.sl 2 1 [.flat])] (x3.1.map eOp))]⟩) (fun v19 h => ?_) (fun j18 h => ?_)
  refine SRun.ck tbokGB 4 ⟨219, [(3, vl eOp x2.1), (4, vl eOp x2.2), (5, .own 46), (6, vi x3.2), (7, .own 52), (11, .own 63), (12, vi x6.2), (13, .own 69), (14, vi x7.2), (15, vl eOp x8), (16, .own 76), (17, vi x9.2), (18, .own 81), (19, vi x10.2), (20, .own 86), (21, vi x11.2), (22, .own 91), (23, vi x12.2), (97, vb (x3.2 != x4.2))], [(46, .deep 53 5 x3.1.length [.flat, .flat, .flat, .flat, (.sl 2 1 [.flat])] (x3.1.map eOp)), (52, .deep 53 5 x4.1.length [.flat, .flat, .flat, .flat, (.sl 2 1 [.flat])] (x4.1.map eOp)), (63, oa 2 1 (eI .i64) x6.1), (69, oa 2 1 (eI .i64) x7.1), (76, oa 9 1 eS x9.1), (81, oa 9 1 eS x10.1), (86, oa 2 1 (eI .i64) x11.1), (91, oa 2 1 (eI .i64) x12.1)]⟩ ?_
  refine SRun.cu [(97, fun b => b)] h (fun h => ?_) fun h => ?_
  refine SRun.ck tbokGB 45 ⟨219, [(3, vl eOp x2.1), (4, vl eOp x2.2), (5, .own 46), (6, vi x3.2), (142, vb true)], [(46, .deep 53 5 x3.1.length [.flat, .flat, .flat, .flat, (.sl 2 1 [.flat])] (x3.1.map eOp))]⟩ ?_
  refine SRun.nil ?_
  obtain rfl := inj h
  exact Le.rr [46] [(46, 5)]
  refine SRun.ck tbokGB 2 ⟨219, [(3, vl eOp x2.1), (4, vl eOp x2.2), (5, .own 46), (6, vi x3.2), (11, .own 63), (12, vi x6.2), (13, .own 69), (14, vi x7.2), (15, vl eOp x8), (16, .own 76), (17, vi x9.2), (18, .own 81), (19, vi x10.2), (20, .own 86), (21, vi x11.2), (22, .own 91), (23, vi x12.2), (97, vb false), (98, .own 46), (99, .own 52)], [(46, .deep 53 5 x3.1.length [.flat, .flat, .flat, .flat, (.sl 2 1 [.flat])] (x3.1.map eOp)), (52, .deep 53 5 x4.1.length [.flat, .flat, .flat, .flat, (.sl 2 1 [.flat])] (x4.1.map eOp)), (63, oa 2 1 (eI .i64) x6.1), (69, oa 2 1 (eI .i64) x7.1), (76, oa 9 1 eS x9.1), (81, oa 9 1 eS x10.1), (86, oa 2 1 (eI .i64) x11.1), (91, oa 2 1 (eI .i64) x12.1)]⟩ ?_
  obtain ⟨x13, hx13, h⟩ := bind_some h
  refine SRun.ls (xc ents24 (laws_likeOps_run x3.1 x4.1 _ hx13)) ?_
  refine SRun.ck tbokGB 3 ⟨219, [(3, vl eOp x2.1), (4, vl eOp x2.2), (5, .own 46), (6, vi x3.2), (11, .own 63), (12, vi x6.2), (13, .own 69), (14, vi x7.2), (15, vl eOp x8), (16, .own 76), (17, vi x9.2), (18, .own 81), (19, vi x10.2), (20, .own 86), (21, vi x11.2), (22, .own 91), (23, vi x12.2), (103, vb (!x13))], [(46, .deep 53 5 x3.1.length [.flat, .flat, .flat, .flat, (.sl 2 1 [.flat])] (x3.1.map eOp)), (63, oa 2 1 (eI .i64) x6.1), (69, oa 2 1 (eI .i64) x7.1), (76, oa 9 1 eS x9.1), (81, oa 9 1 eS x10.1), (86, oa 2 1 (eI .i64) x11.1), (91, oa 2 1 (eI .i64) x12.1)]⟩ ?_
  refine SRun.cu [(103, fun b => b)] h (fun h => ?_) fun h => ?_
  refine SRun.ck tbokGB 39 ⟨219, [(3, vl eOp x2.1), (4, vl eOp x2.2), (5, .own 46), (6, vi x3.2), (142, vb true)], [(46, .deep 53 5 x3.1.length [.flat, .flat, .flat, .flat, (.sl 2 1 [.flat])] (x3.1.map eOp))]⟩ ?_
  refine SRun.nil ?_
  obtain rfl := inj h
  exact Le.rr [46] [(46, 5)]
  refine SRun.ck tbokGB 5 ⟨219, [(3, vl eOp x2.1), (4, vl eOp x2.2), (5, .own 46), (6, vi x3.2), (11, .own 63), (13, .own 69), (15, vl eOp x8), (16, .own 76), (17, vi x9.2), (18, .own 81), (19, vi x10.2), (20, .own 86), (21, vi x11.2), (22, .own 91), (23, vi x12.2), (108, vb (x6.2 != x7.2))], [(46, .deep 53 5 x3.1.length [.flat, .flat, .flat, .flat, (.sl 2 1 [.flat])] (x3.1.map eOp)), (63, oa 2 1 (eI .i64) x6.1), (69, oa 2 1 (eI .i64) x7.1), (76, oa 9 1 eS x9.1), (81, oa 9 1 eS x10.1), (86, oa 2 1 (eI .i64) x11.1), (91, oa 2 1 (eI .i64) x12.1)]⟩ ?_
  refine SRun.cu [(108, fun b => b)] h (fun h => ?_) fun h => ?_
  refine SRun.ck tbokGB 34 ⟨219, [(3, vl eOp x2.1), (4, vl eOp x2.2), (5, .own 46), (6, vi x3.2), (142, vb true)], [(46, .deep 53 5 x3.1.length [.flat, .flat, .flat, .flat, (.sl 2 1 [.flat])] (x3.1.map eOp))]⟩ ?_
  refine SRun.nil ?_
  obtain rfl := inj h
  exact Le.rr [46] [(46, 5)]
  refine SRun.ck tbokGB 2 ⟨219, [(3, vl eOp x2.1), (4, vl eOp x2.2), (5, .own 46), (6, vi x3.2), (15, vl eOp x8), (16, .own 76), (17, vi x9.2), (18, .own 81), (19, vi x10.2), (20, .own 86), (21, vi x11.2), (22, .own 91), (23, vi x12.2), (108, vb false), (109, .own 63), (110, .own 69)], [(46, .deep 53 5 x3.1.length [.flat, .flat, .flat, .flat, (.sl 2 1 [.flat])] (x3.1.map eOp)), (63, oa 2 1 (eI .i64) x6.1), (69, oa 2 1 (eI .i64) x7.1), (76, oa 9 1 eS x9.1), (81, oa 9 1 eS x10.1), (86, oa 2 1 (eI .i64) x11.1), (91, oa 2 1 (eI .i64) x12.1)]⟩ ?_
  obtain ⟨x14, hx14, h⟩ := bind_some h
  refine SRun.ls (xc ents25 (laws_likeInts_run x6.1 x7.1 _ hx14)) ?_
  refine SRun.ck tbokGB 3 ⟨219, [(3, vl eOp x2.1), (4, vl eOp x2.2), (5, .own 46), (6, vi x3.2), (15, vl eOp x8), (16, .own 76), (17, vi x9.2), (18, .own 81), (19, vi x10.2), (20, .own 86), (21, vi x11.2), (22, .own 91), (23, vi x12.2), (114, vb (!x14))], [(46, .deep 53 5 x3.1.length [.flat, .flat, .flat, .flat, (.sl 2 1 [.flat])] (x3.1.map eOp)), (76, oa 9 1 eS x9.1), (81, oa 9 1 eS x10.1), (86, oa 2 1 (eI .i64) x11.1), (91, oa 2 1 (eI .i64) x12.1)]⟩ ?_
  refine SRun.cu [(114, fun b => b)] h (fun h => ?_) fun h => ?_
  refine SRun.ck tbokGB 28 ⟨219, [(3, vl eOp x2.1), (4, vl eOp x2.2), (5, .own 46), (6, vi x3.2), (142, vb true)], [(46, .deep 53 5 x3.1.length [.flat, .flat, .flat, .flat, (.sl 2 1 [.flat])] (x3.1.map eOp))]⟩ ?_
  refine SRun.nil ?_
  obtain rfl := inj h
  exact Le.rr [46] [(46, 5)]
  refine SRun.ck tbokGB 5 ⟨219, [(3, vl eOp x2.1), (4, vl eOp x2.2), (5, .own 46), (6, vi x3.2), (15, vl eOp x8), (16, .own 76), (18, .own 81), (20, .own 86), (21, vi x11.2), (22, .own 91), (23, vi x12.2), (119, vb (x9.2 != x10.2))], [(46, .deep 53 5 x3.1.length [.flat, .flat, .flat, .flat, (.sl 2 1 [.flat])] (x3.1.map eOp)), (76, oa 9 1 eS x9.1), (81, oa 9 1 eS x10.1), (86, oa 2 1 (eI .i64) x11.1), (91, oa 2 1 (eI .i64) x12.1)]⟩ ?_
  refine SRun.cu [(119, fun b => b)] h (fun h => ?_) fun h => ?_
  refine SRun.ck tbokGB 23 ⟨219, [(3, vl eOp x2.1), (4, vl eOp x2.2), (5, .own 46), (6, vi x3.2), (142, vb true)], [(46, .deep 53 5 x3.1.length [.flat, .flat, .flat, .flat, (.sl 2 1 [.flat])] (x3.1.map eOp))]⟩ ?_
  refine SRun.nil ?_
  obtain rfl := inj h
  exact Le.rr [46] [(46, 5)]
  refine SRun.ck tbokGB 2 ⟨219, [(3, vl eOp x2.1), (4, vl eOp x2.2), (5, .own 46), (6, vi x3.2), (15, vl eOp x8), (20, .own 86), (21, vi x11.2), (22, .own 91), (23, vi x12.2), (119, vb false), (120, .own 76), (121, .own 81)], [(46, .deep 53 5 x3.1.length [.flat, .flat, .flat, .flat, (.sl 2 1 [.flat])] (x3.1.map eOp)), (76, oa 9 1 eS x9.1), (81, oa 9 1 eS x10.1), (86, oa 2 1 (eI .i64) x11.1), (91, oa 2 1 (eI .i64) x12.1)]⟩ ?_
  obtain ⟨x15, hx15, h⟩ := bind_some h
  refine SRun.ls (xc ents26 (laws_likeTexts_run x9.1 x10.1 _ hx15)) ?_
  refine SRun.ck tbokGB 3 ⟨219, [(3, vl eOp x2.1), (4, vl eOp x2.2), (5, .own 46), (6, vi x3.2), (15, vl eOp x8), (20, .own 86), (21, vi x11.2), (22, .own 91), (23, vi x12.2), (125, vb (!x15))], [(46, .deep 53 5 x3.1.length [.flat, .flat, .flat, .flat, (.sl 2 1 [.flat])] (x3.1.map eOp)), (86, oa 2 1 (eI .i64) x11.1), (91, oa 2 1 (eI .i64) x12.1)]⟩ ?_
  refine SRun.cu [(125, fun b => b)] h (fun h => ?_) fun h => ?_
  refine SRun.ck tbokGB 17 ⟨219, [(3, vl eOp x2.1), (4, vl eOp x2.2), (5, .own 46), (6, vi x3.2), (142, vb true)], [(46, .deep 53 5 x3.1.length [.flat, .flat, .flat, .flat, (.sl 2 1 [.flat])] (x3.1.map eOp))]⟩ ?_
  refine SRun.nil ?_
  obtain rfl := inj h
  exact Le.rr [46] [(46, 5)]
  refine SRun.ck tbokGB 5 ⟨219, [(3, vl eOp x2.1), (4, vl eOp x2.2), (5, .own 46), (6, vi x3.2), (15, vl eOp x8), (20, .own 86), (22, .own 91), (23, vi x12.2), (130, vb (x11.2 != x12.2))], [(46, .deep 53 5 x3.1.length [.flat, .flat, .flat, .flat, (.sl 2 1 [.flat])] (x3.1.map eOp)), (86, oa 2 1 (eI .i64) x11.1), (91, oa 2 1 (eI .i64) x12.1)]⟩ ?_
  refine SRun.cu [(130, fun b => b)] h (fun h => ?_) fun h => ?_
  refine SRun.ck tbokGB 12 ⟨219, [(3, vl eOp x2.1), (4, vl eOp x2.2), (5, .own 46), (6, vi x3.2), (142, vb true)], [(46, .deep 53 5 x3.1.length [.flat, .flat, .flat, .flat, (.sl 2 1 [.flat])] (x3.1.map eOp))]⟩ ?_
  refine SRun.nil ?_
  obtain rfl := inj h
  exact Le.rr [46] [(46, 5)]
  refine SRun.ck tbokGB 2 ⟨219, [(3, vl eOp x2.1), (4, vl eOp x2.2), (5, .own 46), (6, vi x3.2), (15, vl eOp x8), (23, vi x12.2), (130, vb false), (131, .own 86), (132, .own 91)], [(46, .deep 53 5 x3.1.length [.flat, .flat, .flat, .flat, (.sl 2 1 [.flat])] (x3.1.map eOp)), (86, oa 2 1 (eI .i64) x11.1), (91, oa 2 1 (eI .i64) x12.1)]⟩ ?_
  obtain ⟨x16, hx16, h⟩ := bind_some h
  refine SRun.ls (xc ents25 (laws_likeInts_run x11.1 x12.1 _ hx16)) ?_
  refine SRun.ck tbokGB 3 ⟨219, [(3, vl eOp x2.1), (4, vl eOp x2.2), (5, .own 46), (6, vi x3.2), (15, vl eOp x8), (23, vi x12.2), (136, vb (!x16))], [(46, .deep 53 5 x3.1.length [.flat, .flat, .flat, .flat, (.sl 2 1 [.flat])] (x3.1.map eOp))]⟩ ?_
  refine SRun.cu [(136, fun b => b)] h (fun h => ?_) fun h => ?_
  refine SRun.ck tbokGB 6 ⟨219, [(3, vl eOp x2.1), (4, vl eOp x2.2), (5, .own 46), (6, vi x3.2), (142, vb true)], [(46, .deep 53 5 x3.1.length [.flat, .flat, .flat, .flat, (.sl 2 1 [.flat])] (x3.1.map eOp))]⟩ ?_
  refine SRun.nil ?_
  obtain rfl := inj h
  exact Le.rr [46] [(46, 5)]
  refine SRun.ck tbokGB 1 ⟨219, [(3, vl eOp x2.1), (4, vl eOp x2.2), (5, .own 46), (6, vi x3.2), (23, vi x12.2), (136, vb false), (137, vl eOp x8)], [(46, .deep 53 5 x3.1.length [.flat, .flat, .flat, .flat, (.sl 2 1 [.flat])] (x3.1.map eOp))]⟩ ?_
  obtain ⟨x17, hx17, h⟩ := bind_some h
  refine SRun.ls (xc ents27 (impl_IsLog_run x8 _ hx17)) ?_
  refine SRun.ck tbokGB 2 ⟨219, [(3, vl eOp x2.1), (4, vl eOp x2.2), (5, .own 46), (6, vi x3.2), (136, vb false), (138, vb x17), (140, vb (x12.2 == 0))], [(46, .deep 53 5 x3.1.length [.flat, .flat, .flat, .flat, (.sl 2 1 [.flat])] (x3.1.map eOp))]⟩ ?_
  refine SRun.ls (x_lstep_eqb tbokGB (ti := ti4) (i := x17) (j := (x12.2 == 0)) true rfl) ?_
  refine SRun.ck tbokGB 1 ⟨219, [(3, vl eOp x2.1), (4, vl eOp x2.2), (5, .own 46), (6, vi x3.2), (142, vb (!(x17 == (x12.2 == 0))))], [(46, .deep 53 5 x3.1.length [.flat, .flat, .flat, .flat, (.sl 2 1 [.flat])] (x3.1.map eOp))]⟩ ?_
  refine SRun.nil ?_
  obtain rfl := inj h
  exact Le.rr [46] [(46, 5)]
  refine swp_cd h (fun h => ?_) fun h => ?_
  refine srk tbokGB ⟨219, [(2, vb false)], []⟩ ?_
  refine swp_ret ?_
  obtain rfl := inj h
  exact nx_r (q_fr (f1 fv))
  refine swp_skip ?_
  refine nx_n ?_
  refine swp_seq ?_
  refine srk tbokGB ⟨219, [(3, vl eOp x2.1), (4, vl eOp x2.2), (5, .own 5), (144, vb (x3.2 != 0))], [(5, .deep 53 5 x3.1.length [.flat, .flat, .flat, .flat, (.sl 2 1 [.flat])] (x3.1.map eOp))]⟩ ?_
  refine swp_cd h (fun h => ?_) fun h => ?_
  refine srk tbokGB ⟨219, [(2, vb true)], []⟩ ?_
  refine swp_ret ?_
  obtain rfl := inj h
  exact nx_r (q_fr (f1 fv))
  refine swp_skip ?_
  refine nx_n ?_
  refine sr ?_
  refine SRun.ck tbokGB 2 ⟨219, [(3, vl eOp x2.1), (4, vl eOp x2.2), (5, .own 5), (146, vl eOp x2.2), (147, vl eOp x2.1)], [(5, .deep 53 5 x3.1.length [.flat, .flat, .flat, .flat, (.sl 2 1 [.flat])] (x3.1.map eOp))]⟩ ?_
  obtain ⟨x20, hx20, h⟩ := bind_some h
  refine SRun.ls (xc ents16 (impl_MergeLogs_run x2.2 x2.1 _ hx20)) ?_
  refine ckn tbokGB 5 ⟨219, [(3, vl eOp x2.1), (4, vl eOp x2.2), (5, .own 5), (24, .own 148), (25, vi x20.2)], [(5, .deep 53 5 x3.1.length [.flat, .flat, .flat, .flat, (.sl 2 1 [.flat])] (x3.1.map eOp)), (148, .deep 53 5 x20.1.length [.flat, .flat, .flat, .flat, (.sl 2 1 [.flat])] (x20.1.map eOp))]⟩ ?_
  refine sr ?_
  refine SRun.ck tbokGB 1 ⟨219, [(3, vl eOp x2.1), (4, vl eOp x2.2), (5, .own 5), (24, .own 148), (25, vi x20.2), (152, .own 5)], [(5, .deep 53 5 x3.1.length [.flat, .flat, .flat, .flat, (.sl 2 1 [.flat])] (x3.1.map eOp)), (148, .deep 53 5 x20.1.length [.flat, .flat, .flat, .flat, (.sl 2 1 [.flat])] (x20.1.map eOp))]⟩ ?_
  obtain ⟨x21, hx21, h⟩ := bind_some h
  refine SRun.ls (xc ents8 (impl_StateOfLog_run x3.1 _ hx21)) ?_
  refine ckn tbokGB 5 ⟨219, [(3, vl eOp x2.1), (4, vl eOp x2.2), (5, .own 5), (24, .own 148), (25, vi x20.2), (26, .own 153), (27, vi x21.2)], [(5, .deep 53 5 x3.1.length [.flat, .flat, .flat, .flat, (.sl 2 1 [.flat])] (x3.1.map eOp)), (148, .deep 53 5 x20.1.length [.flat, .flat, .flat, .flat, (.sl 2 1 [.flat])] (x20.1.map eOp)), (153, oa 9 1 eS x21.1)]⟩ ?_
  refine sr ?_
  refine SRun.ck tbokGB 1 ⟨219, [(3, vl eOp x2.1), (4, vl eOp x2.2), (5, .own 5), (25, vi x20.2), (26, .own 153), (27, vi x21.2), (157, .own 148)], [(5, .deep 53 5 x3.1.length [.flat, .flat, .flat, .flat, (.sl 2 1 [.flat])] (x3.1.map eOp)), (148, .deep 53 5 x20.1.length [.flat, .flat, .flat, .flat, (.sl 2 1 [.flat])] (x20.1.map eOp)), (153, oa 9 1 eS x21.1)]⟩ ?_
  obtain ⟨x22, hx22, h⟩ := bind_some h
  refine SRun.ls (xc ents8 (impl_StateOfLog_run x20.1 _ hx22)) ?_
  refine ckn tbokGB 5 ⟨219, [(3, vl eOp x2.1), (4, vl eOp x2.2), (5, .own 5), (25, vi x20.2), (26, .own 153), (27, vi x21.2), (28, .own 158), (29, vi x22.2)], [(5, .deep 53 5 x3.1.length [.flat, .flat, .flat, .flat, (.sl 2 1 [.flat])] (x3.1.map eOp)), (153, oa 9 1 eS x21.1), (158, oa 9 1 eS x22.1)]⟩ ?_
  refine sr ?_
  refine SRun.ck tbokGB 1 ⟨219, [(3, vl eOp x2.1), (4, vl eOp x2.2), (5, .own 5), (25, vi x20.2), (26, .own 153), (27, vi x21.2), (28, .own 158), (29, vi x22.2), (162, .own 5)], [(5, .deep 53 5 x3.1.length [.flat, .flat, .flat, .flat, (.sl 2 1 [.flat])] (x3.1.map eOp)), (153, oa 9 1 eS x21.1), (158, oa 9 1 eS x22.1)]⟩ ?_
  obtain ⟨x23, hx23, h⟩ := bind_some h
  refine SRun.ls (xc ents22 (impl_VectorOf_run x3.1 _ hx23)) ?_
  refine ckn tbokGB 5 ⟨219, [(3, vl eOp x2.1), (4, vl eOp x2.2), (5, .own 5), (25, vi x20.2), (26, .own 153), (27, vi x21.2), (28, .own 158), (29, vi x22.2), (30, .own 163), (31, vi x23.2)], [(5, .deep 53 5 x3.1.length [.flat, .flat, .flat, .flat, (.sl 2 1 [.flat])] (x3.1.map eOp)), (153, oa 9 1 eS x21.1), (158, oa 9 1 eS x22.1), (163, oa 2 1 (eI .i64) x23.1)]⟩ ?_
  refine sr ?_
  refine SRun.ck tbokGB 2 ⟨219, [(4, vl eOp x2.2), (5, .own 5), (25, vi x20.2), (26, .own 153), (27, vi x21.2), (28, .own 158), (29, vi x22.2), (30, .own 163), (31, vi x23.2), (167, vl eOp x2.1), (168, .own 163)], [(5, .deep 53 5 x3.1.length [.flat, .flat, .flat, .flat, (.sl 2 1 [.flat])] (x3.1.map eOp)), (153, oa 9 1 eS x21.1), (158, oa 9 1 eS x22.1), (163, oa 2 1 (eI .i64) x23.1)]⟩ ?_
  obtain ⟨x24, hx24, h⟩ := bind_some h
  refine SRun.ls (xc ents19 (impl_MissingFor_run x2.1 x23.1 _ hx24)) ?_
  refine ckn tbokGB 5 ⟨219, [(4, vl eOp x2.2), (5, .own 5), (25, vi x20.2), (26, .own 153), (27, vi x21.2), (28, .own 158), (29, vi x22.2), (30, .own 163), (31, vi x23.2), (32, .own 169), (33, vi x24.2)], [(5, .deep 53 5 x3.1.length [.flat, .flat, .flat, .flat, (.sl 2 1 [.flat])] (x3.1.map eOp)), (153, oa 9 1 eS x21.1), (158, oa 9 1 eS x22.1), (163, oa 2 1 (eI .i64) x23.1), (169, oa 2 1 (eI .i64) x24.1)]⟩ ?_
  refine sr ?_
  refine SRun.ck tbokGB 2 ⟨219, [(5, .own 5), (25, vi x20.2), (26, .own 153), (27, vi x21.2), (28, .own 158), (29, vi x22.2), (31, vi x23.2), (32, .own 169), (33, vi x24.2), (173, vl eOp x2.2), (174, .own 163)], [(5, .deep 53 5 x3.1.length [.flat, .flat, .flat, .flat, (.sl 2 1 [.flat])] (x3.1.map eOp)), (153, oa 9 1 eS x21.1), (158, oa 9 1 eS x22.1), (163, oa 2 1 (eI .i64) x23.1), (169, oa 2 1 (eI .i64) x24.1)]⟩ ?_
  obtain ⟨x25, hx25, h⟩ := bind_some h
  refine SRun.ls (xc ents19 (impl_MissingFor_run x2.2 x23.1 _ hx25)) ?_
  refine ckn tbokGB 5 ⟨219, [(5, .own 5), (25, vi x20.2), (26, .own 153), (27, vi x21.2), (28, .own 158), (29, vi x22.2), (31, vi x23.2), (32, .own 169), (33, vi x24.2), (34, .own 175), (35, vi x25.2)], [(5, .deep 53 5 x3.1.length [.flat, .flat, .flat, .flat, (.sl 2 1 [.flat])] (x3.1.map eOp)), (153, oa 9 1 eS x21.1), (158, oa 9 1 eS x22.1), (169, oa 2 1 (eI .i64) x24.1), (175, oa 2 1 (eI .i64) x25.1)]⟩ ?_
  refine swp_seq ?_
  refine swp_regJ h (fun j28 => ⟨219, [(2, vb j28)], []⟩) (fun v29 h => ?_) (fun j28 h => ?_)
  refine SRun.ck tbokGB 1 ⟨219, [(25, vi x20.2), (26, .own 153), (27, vi x21.2), (28, .own 158), (29, vi x22.2), (31, vi x23.2), (32, .own 169), (33, vi x24.2), (34, .own 175), (35, vi x25.2), (178, .own 5)], [(5, .deep 53 5 x3.1.length [.flat, .flat, .flat, .flat, (.sl 2 1 [.flat])] (x3.1.map eOp)), (153, oa 9 1 eS x21.1), (158, oa 9 1 eS x22.1), (169, oa 2 1 (eI .i64) x24.1), (175, oa 2 1 (eI .i64) x25.1)]⟩ ?_
  obtain ⟨x26, hx26, h⟩ := bind_some h
  refine SRun.ls (xc ents27 (impl_IsLog_run x3.1 _ hx26)) ?_
  refine SRun.ck tbokGB 1 ⟨219, [(25, vi x20.2), (26, .own 153), (27, vi x21.2), (28, .own 158), (29, vi x22.2), (31, vi x23.2), (32, .own 169), (33, vi x24.2), (34, .own 175), (35, vi x25.2), (180, vb x26)], [(153, oa 9 1 eS x21.1), (158, oa 9 1 eS x22.1), (169, oa 2 1 (eI .i64) x24.1), (175, oa 2 1 (eI .i64) x25.1)]⟩ ?_
  refine SRun.cu [(180, fun b => b)] h (fun h => ?_) fun h => ?_
  refine SRun.ck tbokGB 4 ⟨219, [(26, .own 153), (27, vi x21.2), (28, .own 158), (29, vi x22.2), (31, vi x23.2), (32, .own 169), (33, vi x24.2), (34, .own 175), (35, vi x25.2), (184, vb (x20.2 == 0))], [(153, oa 9 1 eS x21.1), (158, oa 9 1 eS x22.1), (169, oa 2 1 (eI .i64) x24.1), (175, oa 2 1 (eI .i64) x25.1)]⟩ ?_
  refine SRun.cu [(184, fun b => b)] h (fun h => ?_) fun h => ?_
  refine SRun.ck tbokGB 4 ⟨219, [(26, .own 153), (28, .own 158), (29, vi x22.2), (31, vi x23.2), (32, .own 169), (33, vi x24.2), (34, .own 175), (35, vi x25.2), (188, vb (x21.2 == 0))], [(153, oa 9 1 eS x21.1), (158, oa 9 1 eS x22.1), (169, oa 2 1 (eI .i64) x24.1), (175, oa 2 1 (eI .i64) x25.1)]⟩ ?_
  refine SRun.cu [(188, fun b => b)] h (fun h => ?_) fun h => ?_
  refine SRun.ck tbokGB 4 ⟨219, [(26, .own 153), (28, .own 158), (31, vi x23.2), (32, .own 169), (33, vi x24.2), (34, .own 175), (35, vi x25.2), (192, vb (x22.2 == 0))], [(153, oa 9 1 eS x21.1), (158, oa 9 1 eS x22.1), (169, oa 2 1 (eI .i64) x24.1), (175, oa 2 1 (eI .i64) x25.1)]⟩ ?_
  refine SRun.cu [(192, fun b => b)] h (fun h => ?_) fun h => ?_
  refine SRun.ck tbokGB 2 ⟨219, [(31, vi x23.2), (32, .own 169), (33, vi x24.2), (34, .own 175), (35, vi x25.2), (192, vb true), (193, .own 153), (194, .own 158)], [(153, oa 9 1 eS x21.1), (158, oa 9 1 eS x22.1), (169, oa 2 1 (eI .i64) x24.1), (175, oa 2 1 (eI .i64) x25.1)]⟩ ?_
  obtain ⟨x27, hx27, h⟩ := bind_some h
  refine SRun.ls (xc ents26 (laws_likeTexts_run x21.1 x22.1 _ hx27)) ?_
  refine SRun.ck tbokGB 2 ⟨219, [(31, vi x23.2), (32, .own 169), (33, vi x24.2), (34, .own 175), (35, vi x25.2), (197, vb x27)], [(169, oa 2 1 (eI .i64) x24.1), (175, oa 2 1 (eI .i64) x25.1)]⟩ ?_
  refine SRun.cu [(197, fun b => b)] h (fun h => ?_) fun h => ?_
  refine SRun.ck tbokGB 4 ⟨219, [(32, .own 169), (33, vi x24.2), (34, .own 175), (35, vi x25.2), (201, vb (x23.2 == 0))], [(169, oa 2 1 (eI .i64) x24.1), (175, oa 2 1 (eI .i64) x25.1)]⟩ ?_
  refine SRun.cu [(201, fun b => b)] h (fun h => ?_) fun h => ?_
  refine SRun.ck tbokGB 4 ⟨219, [(32, .own 169), (34, .own 175), (35, vi x25.2), (205, vb (x24.2 == 0))], [(169, oa 2 1 (eI .i64) x24.1), (175, oa 2 1 (eI .i64) x25.1)]⟩ ?_
  refine SRun.cu [(205, fun b => b)] h (fun h => ?_) fun h => ?_
  refine SRun.ck tbokGB 5 ⟨219, [(34, .own 175), (35, vi x25.2), (210, vb ((x24.1.length : Int) == 0))], [(175, oa 2 1 (eI .i64) x25.1)]⟩ ?_
  refine SRun.cu [(210, fun b => b)] h (fun h => ?_) fun h => ?_
  refine SRun.ck tbokGB 4 ⟨219, [(34, .own 175), (214, vb (x25.2 == 0))], [(175, oa 2 1 (eI .i64) x25.1)]⟩ ?_
  refine SRun.cu [(214, fun b => b)] h (fun h => ?_) fun h => ?_
  refine SRun.ck tbokGB 5 ⟨219, [(2, vb ((x25.1.length : Int) == 0))], []⟩ ?_
  refine SRun.nil ?_
  obtain rfl := inj h
  exact Le.sub0
  refine SRun.ck tbokGB 5 ⟨219, [(2, vb false)], []⟩ ?_
  refine SRun.nil ?_
  obtain rfl := inj h
  exact Le.sub0
  refine SRun.ck tbokGB 9 ⟨219, [(2, vb false)], []⟩ ?_
  refine SRun.nil ?_
  obtain rfl := inj h
  exact Le.sub0
  refine SRun.ck tbokGB 14 ⟨219, [(2, vb false)], []⟩ ?_
  refine SRun.nil ?_
  obtain rfl := inj h
  exact Le.sub0
  refine SRun.ck tbokGB 18 ⟨219, [(2, vb false)], []⟩ ?_
  refine SRun.nil ?_
  obtain rfl := inj h
  exact Le.sub0
  refine SRun.ck tbokGB 22 ⟨219, [(2, vb false)], []⟩ ?_
  refine SRun.nil ?_
  obtain rfl := inj h
  exact Le.sub0
  refine SRun.ck tbokGB 27 ⟨219, [(2, vb false)], []⟩ ?_
  refine SRun.nil ?_
  obtain rfl := inj h
  exact Le.sub0
  refine SRun.ck tbokGB 31 ⟨219, [(2, vb false)], []⟩ ?_
  refine SRun.nil ?_
  obtain rfl := inj h
  exact Le.sub0
  refine SRun.ck tbokGB 35 ⟨219, [(2, vb false)], []⟩ ?_
  refine SRun.nil ?_
  obtain rfl := inj h
  exact Le.sub0
  refine SRun.ck tbokGB 39 ⟨219, [(2, vb false)], []⟩ ?_
  refine SRun.nil ?_
  obtain rfl := inj h
  exact Le.sub0
  refine swp_ret ?_
  obtain rfl := inj h
  exact q_fr (f1 fv)
end Go.Proofs.YtbaainlnmackeaaGreatDoor.Sh
