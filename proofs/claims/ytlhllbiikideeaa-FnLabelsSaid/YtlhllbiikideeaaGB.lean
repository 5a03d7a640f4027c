/- Typed functions and the calls that do what they say. -/
import Derived.Test.YtlhllbiikideeaaSE
import Derived.Test.YtlhllbiikideeaaBP3
import Derived.Test.YtlhllbiikideeaaKR
import Derived.Test.YtlhllbiikideeaaH1
import Derived.Test.YtlhllbiikideeaaGA
namespace Go.Proofs.Ytlhllbiikideeaa.Sh
open Go.RowKit
set_option maxRecDepth 100000
set_option maxHeartbeats 4000000
structure l01Source where
  code : (List Int)
  at' : Int
  seed : Int
def el01Source (x : l01Source) : List Tr := [.sl x.code.length (x.code.map (eI .u8)), .int .i64 x.at', .int .i64 x.seed]
def ti5 : TI := ⟨1, 1, .int .u8, [.int .u8 0]⟩
def ti34 : TI := ⟨1, 24, .slice 5, [.sl ([] : List Int).length (([] : List Int).map (eI .u8))]⟩
def ti89 : TI := ⟨3, 40, .struct [(0, 34), (1, 3), (2, 2)], [.sl ([] : List Int).length (([] : List Int).map (eI .u8)), .int .i64 0, .int .i64 0]⟩
def tblGB : Tb := [(2, ti2), (3, ti3), (4, ti4), (5, ti5), (24, ti24), (27, ti27), (34, ti34), (43, ti43), (50, ti50), (52, ti52), (89, ti89)]
theorem tbokGB : TbOk Try.prog tblGB := TbOk.cons ⟨by kernel_rfl, show Try.prog.underlying 2 = some (.int .i64) from by kernel_rfl⟩ (TbOk.cons ⟨by kernel_rfl, show Try.prog.underlying 3 = some (.int .i64) from by kernel_rfl⟩ (TbOk.cons ⟨by kernel_rfl, show Try.prog.underlying 4 = some (.bool) from by kernel_rfl⟩ (TbOk.cons ⟨by kernel_rfl, show Try.prog.underlying 5 = some (.int .u8) from by kernel_rfl⟩ (TbOk.cons ⟨by kernel_rfl, show Try.prog.underlying 24 = some (.slice 2) from by kernel_rfl⟩ (TbOk.cons ⟨by kernel_rfl, show Try.prog.underlying 27 = some (.slice 52) from by kernel_rfl⟩ (TbOk.cons ⟨by kernel_rfl, show Try.prog.underlying 34 = some (.slice 5) from by kernel_rfl⟩ (TbOk.cons ⟨by kernel_rfl, show Try.prog.underlying 43 = some (.slice 24) from by kernel_rfl⟩ (TbOk.cons ⟨by kernel_rfl, show structOf Try.prog 50 = some [(0, 2), (1, 2)] from by kernel_rfl⟩ (TbOk.cons ⟨by kernel_rfl, show structOf Try.prog 52 = some [(0, 50), (2, 2), (3, 2)] from by kernel_rfl⟩ (TbOk.cons ⟨by kernel_rfl, show structOf Try.prog 89 = some [(0, 34), (1, 3), (2, 2)] from by kernel_rfl⟩ (TbOk.nil _)))))))))))
noncomputable def laws_big (aCode : (List Int)) : Option (Bool) :=
  some (decide ((aCode.length : Int) > 4096))
theorem laws_big_run (aCode : (List Int)) (r : Bool) (h : laws_big aCode = some r) : SCall Try.prog 17 [.v (vl (eI .u8) aCode)] ⟨[.v (vb r)], [], false⟩ := by
  refine scall_in Try.func17 rfl [(.tmp 2)] rfl (fun r => ⟨[.v (vb r)], [], false⟩) (r := r) ?_
  unfold laws_big at h
  refine srk tbokGB ⟨6, [(0, vl (eI .u8) aCode)], []⟩ ?_
  refine srk tbokGB ⟨6, [(2, vb (decide ((aCode.length : Int) > 4096)))], []⟩ ?_
  refine swp_ret ?_
  obtain rfl := inj h
  exact q_fr (f1 fv)
theorem ents17 : Ents Try.prog 17 := ents_of Try.func17 (by kernel_rfl) rfl
noncomputable def spec_l01From (aCode : (List Int)) : Option (l01Source) :=
  (((forH (fun (i3 : Int) (_ : l01Source) => ((decide (i3 < (aCode.length : Int))) && (decide (i3 < 64)))) (fun (i3 : Int) (s3 : l01Source) => ((at' aCode i3).bind fun x7 => some (l01Source.mk s3.code s3.at' (Int.tmod (w64 ((w64 (s3.seed * 73)) + (w64 x7))) 2147483647)))) (fun (s3 : l01Source) => s3) 0 (l01Source.mk aCode 0 51031))).bind fun (j1 : l01Source) => some j1)
theorem spec_l01From_run (aCode : (List Int)) (r : l01Source) (h : spec_l01From aCode = some r) : SCall Try.prog 44 [.v (vl (eI .u8) aCode)] ⟨[.box [vl (eI .u8) r.code, vi r.at', vi r.seed]], [], true⟩ := by
  refine scall_in Try.func44 rfl [(.tmp 2)] rfl (fun r => ⟨[.box [vl (eI .u8) r.code, vi r.at', vi r.seed]], [], true⟩) (r := r) ?_
  unfold spec_l01From at h
  refine sr ?_
  refine SRun.ls (x_lstep_skip rfl) ?_
  refine SRun.nx ?_
  refine sr ?_
  refine SRun.ck tbokGB 1 ⟨34, [(0, vl (eI .u8) aCode), (5, vl (eI .u8) aCode)], []⟩ ?_
  refine SRun.ls (x_lstep_build (v := .agg [vl (eI .u8) aCode, vi 0, vi 51031]) tbokGB rfl) ?_
  refine ckn tbokGB 2 ⟨34, [(0, vl (eI .u8) aCode), (3, .ref 7 0)], [(7, .box [vl (eI .u8) aCode, vi 0, vi 51031])]⟩ ?_
  refine swp_seq ?_
  refine srk tbokGB ⟨34, [(0, vl (eI .u8) aCode), (3, .ref 7 0), (4, vi 0)], [(7, .box [vl (eI .u8) aCode, vi 0, vi 51031])]⟩ ?_
  refine swp_seqJ h (fun j1 => ⟨34, [(3, .ref 7 0)], [(7, .box (tc el01Source j1))]⟩) (fun v2 h => ?_) (fun j1 h => ?_)
  refine swp_blk (a := v2) ?_
  refine swp_lpL (r := v2) (s := (0, (l01Source.mk aCode 0 51031))) _ (fun s3 => ⟨34, [(0, vl (eI .u8) aCode), (3, .ref 7 0), (4, vi s3.1)], [(7, .box (tc el01Source s3.2))]⟩) _ (Le.sub0) h (fun s3 v4 h => ?_)
  refine swp_seq ?_
  refine swp_seq ?_
  refine swp_regP ⟨34, [(0, vl (eI .u8) aCode), (3, .ref 7 0), (4, vi s3.1), (15, vb ((decide (s3.1 < (aCode.length : Int))) && (decide (s3.1 < 64))))], [(7, .box (tc el01Source s3.2))]⟩ ?_ ?_
  refine SRun.ck tbokGB 5 ⟨34, [(0, vl (eI .u8) aCode), (3, .ref 7 0), (4, vi s3.1), (12, vb (decide (s3.1 < (aCode.length : Int))))], [(7, .box (tc el01Source s3.2))]⟩ ?_
  generalize (decide (s3.1 < (aCode.length : Int))) = bb
  cases bb
  refine SRun.ck tbokGB 3 ⟨34, [(0, vl (eI .u8) aCode), (3, .ref 7 0), (4, vi s3.1), (15, vb false)], [(7, .box (tc el01Source s3.2))]⟩ ?_
  exact SRun.nil (Le.sub0)
  refine SRun.ck tbokGB 3 ⟨34, [(0, vl (eI .u8) aCode), (3, .ref 7 0), (4, vi s3.1), (15, vb (decide (s3.1 < 64)))], [(7, .box (tc el01Source s3.2))]⟩ ?_
  exact SRun.nil (Le.sub0)
  refine swp_cd h (fun h => ?_) fun h => ?_
  refine swp_skip ?_
  refine nx_n ?_
  refine swp_seq ?_
  refine swp_seqJ h (fun j5 => ⟨34, [(0, vl (eI .u8) aCode), (3, .ref 7 0), (4, vi s3.1)], [(7, .box (tc el01Source j5))]⟩) (fun v6 h => ?_) (fun j5 h => ?_)
  refine swp_blk (a := v6) ?_
  refine swp_dr mixed ?_
  refine DGo.ck tbokGB false 8 ⟨34, [(0, vl (eI .u8) aCode), (3, .ref 7 0), (4, vi s3.1), (18, .ref 7 0), (23, vi (w64 (s3.2.seed * 73))), (24, vl (eI .u8) aCode), (25, vi s3.1)], [(7, .box (tc el01Source s3.2))]⟩ ?_
  obtain ⟨x7, hx7, h⟩ := bind_some h
  refine DGo.step (x_index (L := aCode) (f := (eI .u8)) (ti := ti34) (tj := ti5) (e := 5) (k := .i64) tbokGB rfl hx7) ?_
  refine DGo.ck tbokGB false 6 ⟨34, [(0, vl (eI .u8) aCode), (3, .ref 7 0), (4, vi s3.1), (30, vi (Int.tmod (w64 ((w64 (s3.2.seed * 73)) + (w64 x7))) 2147483647)), (32, .ref 7 2)], [(7, .box (tc el01Source s3.2))]⟩ ?_
  refine DGo.seq (by kernel_rfl) (by kernel_rfl) ?_
  refine SRun.ck tbokGB 1 ⟨34, [(0, vl (eI .u8) aCode), (3, .ref 7 0), (4, vi s3.1)], [(7, .box [vl (eI .u8) s3.2.code, vi s3.2.at', vi (Int.tmod (w64 ((w64 (s3.2.seed * 73)) + (w64 x7))) 2147483647)])]⟩ ?_
  refine SRun.nil ?_
  obtain rfl := inj h
  exact q_bn (q_j (Le.sub0))
  refine swp_reg ?_
  refine SRun.ck tbokGB 3 ⟨34, [(0, vl (eI .u8) aCode), (3, .ref 7 0), (4, vi (w64 (s3.1 + 1)))], [(7, .box (tc el01Source j5))]⟩ ?_
  refine SRun.nil ?_
  obtain rfl := inj h
  exact q_l (Le.sub0)
  refine swp_exit ?_
  obtain rfl := inj h
  exact nx_e (q_re (q_bh (q_j (Le.sub0))))
  refine srk tbokGB ⟨34, [(2, .ref 7 0)], [(7, .box (tc el01Source j1))]⟩ ?_
  refine swp_ret ?_
  obtain rfl := inj h
  exact q_fr (f1 (finBT (d := 7) (holds_t (by kernel_rfl)) (by kernel_rfl) rfl (by kernel_rfl)))
theorem ents44 : Ents Try.prog 44 := ents_of Try.func44 (by kernel_rfl) rfl
noncomputable def spec_l01Next (aS : l01Source) (aN : Int) : Option (Int × l01Source) :=
  (bif (decide (aN ≤ 1)) then some (0, aS) else (((bif (decide (aS.at' < (aS.code.length : Int))) then ((at' aS.code aS.at').bind fun x3 => (bif ((decide (aN ≤ 256)) && ((Int.tmod (w64 (aS.at' + 1)) 2) == 0)) then ((at' aS.code (w64 ((w64 (aS.at' + 1)) - 1))).bind fun x4 => some ((w64 x4), (l01Source.mk aS.code (w64 (aS.at' + 1)) (Int.tmod (w64 ((w64 (aS.seed * 48271)) + 29)) 2147483647)))) else some ((w64 ((w64 (Int.tdiv (Int.tmod (w64 ((w64 (aS.seed * 48271)) + 29)) 2147483647) 31)) + (w64 x3))), (l01Source.mk aS.code (w64 (aS.at' + 1)) (Int.tmod (w64 ((w64 (aS.seed * 48271)) + 29)) 2147483647))))) else some ((w64 (Int.tdiv (Int.tmod (w64 ((w64 (aS.seed * 48271)) + 29)) 2147483647) 31)), (l01Source.mk aS.code aS.at' (Int.tmod (w64 ((w64 (aS.seed * 48271)) + 29)) 2147483647))))).bind fun (j1 : Int × l01Source) => ((nz' aN).bind fun _ => some ((Int.tmod j1.1 aN), j1.2))))
theorem spec_l01Next_run (aS : l01Source) (aN : Int) (r : Int × l01Source) (h : spec_l01Next aS aN = some r) : SCall Try.prog 65 [.o (.box [vl (eI .u8) aS.code, vi aS.at', vi aS.seed]), .v (vi aN)] ⟨[.v (vi r.1)], [(0, .box (tc el01Source r.2))], false⟩ := by
  refine scall_in Try.func65 rfl [(.tmp 4)] rfl (fun r => ⟨[.v (vi r.1)], [(0, .box (tc el01Source r.2))], false⟩) (r := r) ?_
  unfold spec_l01Next at h
  refine srk tbokGB ⟨78, [(0, .ref 1000000 0), (1, vi aN)], [(1000000, .box (tc el01Source aS))]⟩ ?_
  refine swp_seq ?_
  refine srk tbokGB ⟨78, [(0, .ref 1000000 0), (1, vi aN), (7, vb (decide (aN ≤ 1)))], [(1000000, .box (tc el01Source aS))]⟩ ?_
  refine swp_cd h (fun h => ?_) fun h => ?_
  refine srk tbokGB ⟨78, [(4, vi 0)], [(1000000, .box (tc el01Source aS))]⟩ ?_
  refine swp_ret ?_
  obtain rfl := inj h
  exact nx_r (q_fr (fin_io (f1 fv) (y := .box (tc el01Source aS)) (by kernel_rfl) rfl (by kernel_rfl) (by kernel_rfl)))
  refine swp_skip ?_
  refine nx_n ?_
  refine srk tbokGB ⟨78, [(0, .ref 1000000 0), (1, vi aN)], [(1000000, .box [vl (eI .u8) aS.code, vi aS.at', vi (Int.tmod (w64 ((w64 (aS.seed * 48271)) + 29)) 2147483647)])]⟩ ?_
  refine srk tbokGB ⟨78, [(0, .ref 1000000 0), (1, vi aN), (5, vi (w64 (Int.tdiv (Int.tmod (w64 ((w64 (aS.seed * 48271)) + 29)) 2147483647) 31)))], [(1000000, .box [vl (eI .u8) aS.code, vi aS.at', vi (Int.tmod (w64 ((w64 (aS.seed * 48271)) + 29)) 2147483647)])]⟩ ?_
  refine swp_seq ?_
  refine swp_seq ?_
  refine swp_dr mixed ?_
  refine DGo.ck tbokGB false 10 ⟨78, [(0, .ref 1000000 0), (1, vi aN), (5, vi (w64 (Int.tdiv (Int.tmod (w64 ((w64 (aS.seed * 48271)) + 29)) 2147483647) 31))), (32, vb (decide (aS.at' < (aS.code.length : Int))))], [(1000000, .box [vl (eI .u8) aS.code, vi aS.at', vi (Int.tmod (w64 ((w64 (aS.seed * 48271)) + 29)) 2147483647)])]⟩ ?_
  refine DGo.nx ?_
  refine swp_seqJ h (fun j1 => ⟨78, [(1, vi aN), (5, vi j1.1)], [(1000000, .box (tc el01Source j1.2))]⟩) (fun v2 h => ?_) (fun j1 h => ?_)
  refine swp_cd h (fun h => ?_) fun h => ?_
  refine swp_seq ?_
  refine swp_dr mixed ?_
  refine DGo.ck tbokGB false 9 ⟨78, [(0, .ref 1000000 0), (1, vi aN), (33, vi (w64 (Int.tdiv (Int.tmod (w64 ((w64 (aS.seed * 48271)) + 29)) 2147483647) 31))), (37, vl (eI .u8) aS.code), (41, vi aS.at')], [(1000000, .box [vl (eI .u8) aS.code, vi aS.at', vi (Int.tmod (w64 ((w64 (aS.seed * 48271)) + 29)) 2147483647)])]⟩ ?_
  obtain ⟨x3, hx3, h⟩ := bind_some h
  refine DGo.step (x_index (L := aS.code) (f := (eI .u8)) (ti := ti34) (tj := ti5) (e := 5) (k := .i64) tbokGB rfl hx3) ?_
  refine DGo.ck tbokGB false 4 ⟨78, [(0, .ref 1000000 0), (1, vi aN), (5, vi (w64 ((w64 (Int.tdiv (Int.tmod (w64 ((w64 (aS.seed * 48271)) + 29)) 2147483647) 31)) + (w64 x3))))], [(1000000, .box [vl (eI .u8) aS.code, vi aS.at', vi (Int.tmod (w64 ((w64 (aS.seed * 48271)) + 29)) 2147483647)])]⟩ ?_
  refine DGo.nx ?_
  refine srk tbokGB ⟨78, [(0, .ref 1000000 0), (1, vi aN), (5, vi (w64 ((w64 (Int.tdiv (Int.tmod (w64 ((w64 (aS.seed * 48271)) + 29)) 2147483647) 31)) + (w64 x3))))], [(1000000, .box [vl (eI .u8) aS.code, vi (w64 (aS.at' + 1)), vi (Int.tmod (w64 ((w64 (aS.seed * 48271)) + 29)) 2147483647)])]⟩ ?_
  refine swp_seq ?_
  refine swp_regP ⟨78, [(0, .ref 1000000 0), (1, vi aN), (5, vi (w64 ((w64 (Int.tdiv (Int.tmod (w64 ((w64 (aS.seed * 48271)) + 29)) 2147483647) 31)) + (w64 x3)))), (62, vb ((decide (aN ≤ 256)) && ((Int.tmod (w64 (aS.at' + 1)) 2) == 0)))], [(1000000, .box [vl (eI .u8) aS.code, vi (w64 (aS.at' + 1)), vi (Int.tmod (w64 ((w64 (aS.seed * 48271)) + 29)) 2147483647)])]⟩ ?_ ?_
  refine SRun.ck tbokGB 3 ⟨78, [(0, .ref 1000000 0), (1, vi aN), (5, vi (w64 ((w64 (Int.tdiv (Int.tmod (w64 ((w64 (aS.seed * 48271)) + 29)) 2147483647) 31)) + (w64 x3)))), (55, vb (decide (aN ≤ 256)))], [(1000000, .box [vl (eI .u8) aS.code, vi (w64 (aS.at' + 1)), vi (Int.tmod (w64 ((w64 (aS.seed * 48271)) + 29)) 2147483647)])]⟩ ?_
  generalize (decide (aN ≤ 256)) = bb
  cases bb
  refine SRun.ck tbokGB 7 ⟨78, [(0, .ref 1000000 0), (1, vi aN), (5, vi (w64 ((w64 (Int.tdiv (Int.tmod (w64 ((w64 (aS.seed * 48271)) + 29)) 2147483647) 31)) + (w64 x3)))), (62, vb false)], [(1000000, .box [vl (eI .u8) aS.code, vi (w64 (aS.at' + 1)), vi (Int.tmod (w64 ((w64 (aS.seed * 48271)) + 29)) 2147483647)])]⟩ ?_
  exact SRun.nil (Le.sub0)
  refine SRun.ck tbokGB 7 ⟨78, [(0, .ref 1000000 0), (1, vi aN), (5, vi (w64 ((w64 (Int.tdiv (Int.tmod (w64 ((w64 (aS.seed * 48271)) + 29)) 2147483647) 31)) + (w64 x3)))), (62, vb ((Int.tmod (w64 (aS.at' + 1)) 2) == 0))], [(1000000, .box [vl (eI .u8) aS.code, vi (w64 (aS.at' + 1)), vi (Int.tmod (w64 ((w64 (aS.seed * 48271)) + 29)) 2147483647)])]⟩ ?_
  exact SRun.nil (Le.sub0)
  refine swp_cd h (fun h => ?_) fun h => ?_
  refine swp_dr mixed ?_
  refine DGo.ck tbokGB false 9 ⟨78, [(1, vi aN), (66, vl (eI .u8) aS.code), (71, vi (w64 ((w64 (aS.at' + 1)) - 1)))], [(1000000, .box [vl (eI .u8) aS.code, vi (w64 (aS.at' + 1)), vi (Int.tmod (w64 ((w64 (aS.seed * 48271)) + 29)) 2147483647)])]⟩ ?_
  obtain ⟨x4, hx4, h⟩ := bind_some h
  refine DGo.step (x_index (L := aS.code) (f := (eI .u8)) (ti := ti34) (tj := ti5) (e := 5) (k := .i64) tbokGB rfl hx4) ?_
  refine DGo.ck tbokGB false 3 ⟨78, [(1, vi aN), (5, vi (w64 x4))], [(1000000, .box [vl (eI .u8) aS.code, vi (w64 (aS.at' + 1)), vi (Int.tmod (w64 ((w64 (aS.seed * 48271)) + 29)) 2147483647)])]⟩ ?_
  refine DGo.nil (by kernel_rfl) ?_
  obtain rfl := inj h
  exact q_j (Le.sub0)
  refine swp_skip ?_
  obtain rfl := inj h
  exact q_j (Le.sub0)
  refine swp_skip ?_
  obtain rfl := inj h
  exact q_j (Le.sub0)
  refine sr ?_
  refine SRun.ck tbokGB 2 ⟨78, [(75, vi j1.1), (76, vi aN)], [(1000000, .box (tc el01Source j1.2))]⟩ ?_
  obtain ⟨x5, hx5, h⟩ := bind_some h
  refine SRun.ls (x_lstep_quo (k := .i64) (i := j1.1) hx5 true rfl) ?_
  refine ckn tbokGB 1 ⟨78, [(4, vi (Int.tmod j1.1 aN))], [(1000000, .box (tc el01Source j1.2))]⟩ ?_
  refine swp_ret ?_
  obtain rfl := inj h
  exact q_fr (fin_io (f1 fv) (y := .box (tc el01Source j1.2)) (by kernel_rfl) rfl (by kernel_rfl) (by kernel_rfl))
theorem ents65 : Ents Try.prog 65 := ents_of Try.func65 (by kernel_rfl) rfl
noncomputable def spec_l01Pick (aS : l01Source) (aList : (List Int)) : Option (Int × l01Source) :=
  ((spec_l01Next aS (aList.length : Int)).bind fun x1 => ((at' aList x1.1).bind fun x2 => some (x2, x1.2)))
theorem spec_l01Pick_run (aS : l01Source) (aList : (List Int)) (r : Int × l01Source) (h : spec_l01Pick aS aList = some r) : SCall Try.prog 66 [.o (.box [vl (eI .u8) aS.code, vi aS.at', vi aS.seed]), .v (vl (eI .i64) aList)] ⟨[.v (vi r.1)], [(0, .box (tc el01Source r.2))], false⟩ := by
  refine scall_in Try.func66 rfl [(.tmp 4)] rfl (fun r => ⟨[.v (vi r.1)], [(0, .box (tc el01Source r.2))], false⟩) (r := r) ?_
  unfold spec_l01Pick at h
  refine srk tbokGB ⟨12, [(0, .ref 1000000 0), (1, vl (eI .i64) aList)], [(1000000, .box (tc el01Source aS))]⟩ ?_
  refine sr ?_
  refine SRun.ck tbokGB 4 ⟨12, [(5, vl (eI .i64) aList), (6, .ref 1000000 0), (8, vi (aList.length : Int))], [(1000000, .box (tc el01Source aS))]⟩ ?_
  obtain ⟨x1, hx1, h⟩ := bind_some h
  refine SRun.estep (xe ents65 (spec_l01Next_run aS (aList.length : Int) _ hx1)) ?_
  obtain ⟨x2, hx2, h⟩ := bind_some h
  refine SRun.ls (x_index (L := aList) (f := (eI .i64)) (ti := ti24) (tj := ti2) (e := 2) (k := .i64) tbokGB rfl hx2) ?_
  refine ckn tbokGB 2 ⟨12, [(4, vi x2)], [(1000000, .box (tc el01Source x1.2))]⟩ ?_
  refine swp_ret ?_
  obtain rfl := inj h
  exact q_fr (fin_io (f1 fv) (y := .box (tc el01Source x1.2)) (by kernel_rfl) rfl (by kernel_rfl) (by kernel_rfl))
theorem ents66 : Ents Try.prog 66 := ents_of Try.func66 (by kernel_rfl) rfl
noncomputable def spec_l33Draw (aS : l01Source) : Option ((List Label) × l01Source) :=
  ((spec_l01Next aS 7).bind fun x1 => (((loop (fun (s4 : Int × (List Label) × l01Source) => (bif (decide (s4.1 > 0)) then ((((spec_l01Next s4.2.2 9).bind fun x8 => ((spec_l01Next x8.2 4).bind fun x9 => ((spec_l01Next x9.2 6).bind fun x10 => ((spec_l01Next x10.2 4).bind fun x11 => ((app' ([] : List Label) s4.2.1).bind fun x12 => ((app' x12 ([(Label.mk (Point.mk x8.1 x9.1) (w64 (1 + x10.1)) (w64 (1 + x11.1)))] : List Label)).bind fun x13 => ((spec_AreLabels x13).bind fun x14 => (bif x14 then some (x13, x11.2) else some (s4.2.1, x11.2)))))))))).bind fun (j6 : (List Label) × l01Source) => some (.inl ((w64 (s4.1 - 1)), j6.1, j6.2))) else some (.inr (s4.2.1, s4.2.2)))) (x1.1, ([] : List Label), x1.2))).bind fun (j2 : (List Label) × l01Source) => (((bif (decide ((j2.1.length : Int) > 0)) then ((spec_l01Next j2.2 (j2.1.length : Int)).bind fun x17 => ((spec_l01Next x17.2 30).bind fun x18 => (bif (x18.1 == 0) then ((spec_l01Pick x18.2 ([0, 20, 21] : List Int)).bind fun x19 => ((at' j2.1 x17.1).bind fun x20 => some ((List.set j2.1 (Int.toNat x17.1) (Label.mk x20.At x19.1 x20.Priority)), x19.2))) else (bif (x18.1 == 1) then ((spec_l01Pick x18.2 ([0, 9, 10] : List Int)).bind fun x21 => ((at' j2.1 x17.1).bind fun x22 => some ((List.set j2.1 (Int.toNat x17.1) (Label.mk x22.At x22.Length x21.1)), x21.2))) else (bif (x18.1 == 2) then ((at' j2.1 x17.1).bind fun x23 => ((app' j2.1 ([x23] : List Label)).bind fun x24 => some (x24, x18.2))) else (bif (x18.1 == 3) then ((spec_l01Pick x18.2 ([1000, 1001] : List Int)).bind fun x25 => ((at' j2.1 x17.1).bind fun x26 => some ((List.set j2.1 (Int.toNat x17.1) (Label.mk (Point.mk x25.1 x26.At.Y) x26.Length x26.Priority)), x25.2))) else some (j2.1, x18.2))))))) else some (j2.1, j2.2))).bind fun (j15 : (List Label) × l01Source) => some (j15.1, j15.2))))
theorem spec_l33Draw_run (aS : l01Source) (r : (List Label) × l01Source) (h : spec_l33Draw aS = some r) : SCall Try.prog 43 [.o (.box [vl (eI .u8) aS.code, vi aS.at', vi aS.seed])] ⟨[.own 52 4 r.1.length (r.1.map eLabel)], [(0, .box (tc el01Source r.2))], false⟩ := by
  refine scall_in Try.func43 rfl [(.tmp 2)] rfl (fun r => ⟨[.own 52 4 r.1.length (r.1.map eLabel)], [(0, .box (tc el01Source r.2))], false⟩) (r := r) ?_
  unfold spec_l33Draw at h
  refine srk tbokGB ⟨83, [(0, .ref 1000000 0)], [(1000000, .box (tc el01Source aS))]⟩ ?_
  refine srk tbokGB ⟨83, [(0, .ref 1000000 0), (3, .own 8)], [(8, oa 52 4 eLabel ([] : List Label)), (1000000, .box (tc el01Source aS))]⟩ ?_
  refine swp_seq ?_
  refine sr ?_
  refine SRun.ck tbokGB 1 ⟨83, [(0, .ref 1000000 0), (3, .own 8), (9, .ref 1000000 0)], [(8, oa 52 4 eLabel ([] : List Label)), (1000000, .box (tc el01Source aS))]⟩ ?_
  obtain ⟨x1, hx1, h⟩ := bind_some h
  refine SRun.estep (xe ents65 (spec_l01Next_run aS 7 _ hx1)) ?_
  refine ckn tbokGB 1 ⟨83, [(0, .ref 1000000 0), (3, .own 8), (4, vi x1.1)], [(8, oa 52 4 eLabel ([] : List Label)), (1000000, .box (tc el01Source x1.2))]⟩ ?_
  refine swp_seqJ h (fun j2 => ⟨83, [(0, .ref 1000000 0), (3, .own 3)], [(3, oa 52 4 eLabel j2.1), (1000000, .box (tc el01Source j2.2))]⟩) (fun v3 h => ?_) (fun j2 h => ?_)
  refine swp_blk (a := v3) ?_
  refine swp_lpL (r := v3) (s := (x1.1, ([] : List Label), x1.2)) _ (fun s4 => ⟨83, [(0, .ref 1000000 0), (3, .own 3), (4, vi s4.1)], [(3, oa 52 4 eLabel s4.2.1), (1000000, .box (tc el01Source s4.2.2))]⟩) _ (Le.rr [8, 1000000] [(8, 3)]) h (fun s4 v5 h => ?_)
  refine swp_seq ?_
  refine srk tbokGB ⟨83, [(0, .ref 1000000 0), (3, .own 3), (4, vi s4.1), (12, vb (decide (s4.1 > 0)))], [(3, oa 52 4 eLabel s4.2.1), (1000000, .box (tc el01Source s4.2.2))]⟩ ?_
  refine swp_cd h (fun h => ?_) fun h => ?_
  refine swp_skip ?_
  refine nx_n ?_
  refine swp_seq ?_
  refine swp_seqJ h (fun j6 => ⟨83, [(0, .ref 1000000 0), (3, .own 3), (4, vi s4.1)], [(3, oa 52 4 eLabel j6.1), (1000000, .box (tc el01Source j6.2))]⟩) (fun v7 h => ?_) (fun j6 h => ?_)
  refine swp_blk (a := v7) ?_
  refine sr ?_
  refine SRun.ck tbokGB 1 ⟨83, [(0, .ref 1000000 0), (3, .own 3), (4, vi s4.1), (15, .ref 1000000 0)], [(3, oa 52 4 eLabel s4.2.1), (1000000, .box (tc el01Source s4.2.2))]⟩ ?_
  obtain ⟨x8, hx8, h⟩ := bind_some h
  refine SRun.estep (xe ents65 (spec_l01Next_run s4.2.2 9 _ hx8)) ?_
  refine SRun.ck tbokGB 1 ⟨83, [(0, .ref 1000000 0), (3, .own 3), (4, vi s4.1), (16, vi x8.1), (17, .ref 1000000 0)], [(3, oa 52 4 eLabel s4.2.1), (1000000, .box (tc el01Source x8.2))]⟩ ?_
  obtain ⟨x9, hx9, h⟩ := bind_some h
  refine SRun.estep (xe ents65 (spec_l01Next_run x8.2 4 _ hx9)) ?_
  refine SRun.ls (x_lstep_build (v := .agg [vi x8.1, vi x9.1]) tbokGB rfl) ?_
  refine SRun.ck tbokGB 1 ⟨83, [(0, .ref 1000000 0), (3, .own 3), (4, vi s4.1), (19, .agg [vi x8.1, vi x9.1]), (20, .ref 1000000 0)], [(3, oa 52 4 eLabel s4.2.1), (1000000, .box (tc el01Source x9.2))]⟩ ?_
  obtain ⟨x10, hx10, h⟩ := bind_some h
  refine SRun.estep (xe ents65 (spec_l01Next_run x9.2 6 _ hx10)) ?_
  refine SRun.ck tbokGB 2 ⟨83, [(0, .ref 1000000 0), (3, .own 3), (4, vi s4.1), (19, .agg [vi x8.1, vi x9.1]), (22, vi (w64 (1 + x10.1))), (23, .ref 1000000 0)], [(3, oa 52 4 eLabel s4.2.1), (1000000, .box (tc el01Source x10.2))]⟩ ?_
  obtain ⟨x11, hx11, h⟩ := bind_some h
  refine SRun.estep (xe ents65 (spec_l01Next_run x10.2 4 _ hx11)) ?_
  refine SRun.ck tbokGB 1 ⟨83, [(0, .ref 1000000 0), (3, .own 3), (4, vi s4.1), (19, .agg [vi x8.1, vi x9.1]), (22, vi (w64 (1 + x10.1))), (25, vi (w64 (1 + x11.1)))], [(3, oa 52 4 eLabel s4.2.1), (1000000, .box (tc el01Source x11.2))]⟩ ?_
  refine SRun.ls (x_lstep_build (v := .agg [vi x8.1, vi x9.1, vi (w64 (1 + x10.1)), vi (w64 (1 + x11.1))]) tbokGB rfl) ?_
  refine ckn tbokGB 2 ⟨83, [(0, .ref 1000000 0), (3, .own 3), (4, vi s4.1), (5, .ref 5 0)], [(3, oa 52 4 eLabel s4.2.1), (5, .box [vi x8.1, vi x9.1, vi (w64 (1 + x10.1)), vi (w64 (1 + x11.1))]), (1000000, .box (tc el01Source x11.2))]⟩ ?_
  refine swp_seq ?_
  obtain ⟨x12, hx12, h⟩ := bind_some h
  obtain ⟨x13, hx13, h⟩ := bind_some h
  refine swp_dr mixed ?_
  refine DGo.enum (σE := ⟨83, [(0, .ref 1000000 0), (3, .own 3), (4, vi s4.1), (6, .own 32)], [(3, oa 52 4 eLabel s4.2.1), (32, oa 52 4 eLabel x13), (1000000, .box (tc el01Source x11.2))]⟩) (n := 7) (L0 := #[false, false, false, false, false, false, false]) (by kernel_rfl) (by kernel_rfl) (fun K hk => ?_) ?_
  refine DE.share (fuel := 0) (L := #[true, true, true, true, true, true, true]) (σ := ⟨83, [(0, .ref 1000000 0), (3, .own 3), (4, vi s4.1), (6, .own 32)], [(3, oa 52 4 eLabel s4.2.1), (32, oa 52 4 eLabel x13), (1000000, .box (tc el01Source x11.2))]⟩) ?_ (fun d11 => ?_)
  exact DE.done (by kernel_rfl) hk
  refine DE.share (fuel := 1) (L := #[true, true, true, true, true, true, false]) (σ := ⟨83, [(0, .ref 1000000 0), (3, .own 3), (4, vi s4.1), (32, .own 32)], [(3, oa 52 4 eLabel s4.2.1), (32, oa 52 4 eLabel x13), (1000000, .box (tc el01Source x11.2))]⟩) ?_ (fun d10 => ?_)
  exact DE.take (i := 6) (L' := #[true, true, true, true, true, true, true]) rfl (.inr rfl) rfl (by kernel_rfl) (by kernel_rfl) (by kernel_rfl) (EStep.le (EStep.ofN2 tbokGB (σ' := ⟨83, [(6, .own 32), (0, .ref 1000000 0), (3, .own 3), (4, vi s4.1), (32, .own 32)], [(3, oa 52 4 eLabel s4.2.1), (32, oa 52 4 eLabel x13), (1000000, .box (tc el01Source x11.2))]⟩) (by kernel_rfl)) Le.sub0) (by kernel_rfl) d11
  refine DE.share (fuel := 2) (L := #[true, true, true, true, true, false, false]) (σ := ⟨83, [(0, .ref 1000000 0), (3, .own 3), (4, vi s4.1), (29, .own 29), (31, .own 31)], [(3, oa 52 4 eLabel s4.2.1), (29, oa 52 4 eLabel x12), (31, oa 52 4 eLabel ([(Label.mk (Point.mk x8.1 x9.1) (w64 (1 + x10.1)) (w64 (1 + x11.1)))] : List Label)), (1000000, .box (tc el01Source x11.2))]⟩) ?_ (fun d9 => ?_)
  exact DE.all [5] (by kernel_rfl) (by simp) (List.forall_mem_cons.2 ⟨DEs.mk (i := 5) (L' := #[true, true, true, true, true, true, false]) rfl (EStep.le (x_append (f := eLabel) (t := 27) (ti := ti27) (tj := ti52) (zs := [.int .i64 0, .int .i64 0, .int .i64 0, .int .i64 0]) (e := 52) (m := 4) (d := 29) (xv := .own 31) hx13 tbokGB rfl rfl rfl rfl (x_src_o (e := 52))) Le.sub0) (by kernel_rfl) d10, (fun _ h => absurd h List.not_mem_nil)⟩)
  refine DE.share (fuel := 3) (L := #[true, true, false, true, true, false, false]) (σ := ⟨83, [(0, .ref 1000000 0), (3, .own 3), (4, vi s4.1), (27, .own 27), (28, .own 3), (31, .own 31)], [(3, oa 52 4 eLabel s4.2.1), (27, oa 52 4 eLabel ([] : List Label)), (31, oa 52 4 eLabel ([(Label.mk (Point.mk x8.1 x9.1) (w64 (1 + x10.1)) (w64 (1 + x11.1)))] : List Label)), (1000000, .box (tc el01Source x11.2))]⟩) ?_ (fun d8 => ?_)
  exact DE.all [2] (by kernel_rfl) (by simp) (List.forall_mem_cons.2 ⟨DEs.mk (i := 2) (L' := #[true, true, true, true, true, false, false]) rfl (EStep.le (x_append (f := eLabel) (t := 27) (ti := ti27) (tj := ti52) (zs := [.int .i64 0, .int .i64 0, .int .i64 0, .int .i64 0]) (e := 52) (m := 4) (d := 27) (xv := .own 3) hx12 tbokGB rfl rfl rfl rfl (x_src_o (e := 52))) Le.sub0) (by kernel_rfl) d9, (fun _ h => absurd h List.not_mem_nil)⟩)
  refine DE.share (fuel := 3) (L := #[true, true, true, true, false, false, false]) (σ := ⟨83, [(0, .ref 1000000 0), (3, .own 3), (4, vi s4.1), (29, .own 29), (30, .agg [vi x8.1, vi x9.1, vi (w64 (1 + x10.1)), vi (w64 (1 + x11.1))])], [(3, oa 52 4 eLabel s4.2.1), (29, oa 52 4 eLabel x12), (1000000, .box (tc el01Source x11.2))]⟩) ?_ (fun d7 => ?_)
  exact DE.all [4] (by kernel_rfl) (by simp) (List.forall_mem_cons.2 ⟨DEs.mk (i := 4) (L' := #[true, true, true, true, true, false, false]) rfl (EStep.le (EStep.ofN2 tbokGB (σ' := ⟨83, [(31, .own 31), (0, .ref 1000000 0), (3, .own 3), (4, vi s4.1), (29, .own 29), (30, .agg [vi x8.1, vi x9.1, vi (w64 (1 + x10.1)), vi (w64 (1 + x11.1))])], [(31, oa 52 4 eLabel ([(Label.mk (Point.mk x8.1 x9.1) (w64 (1 + x10.1)) (w64 (1 + x11.1)))] : List Label)), (3, oa 52 4 eLabel s4.2.1), (29, oa 52 4 eLabel x12), (1000000, .box (tc el01Source x11.2))]⟩) (by kernel_rfl)) Le.sub0) (by kernel_rfl) d9, (fun _ h => absurd h List.not_mem_nil)⟩)
  refine DE.share (fuel := 4) (L := #[false, true, false, true, true, false, false]) (σ := ⟨83, [(0, .ref 1000000 0), (3, .own 3), (4, vi s4.1), (28, .own 3), (31, .own 31)], [(3, oa 52 4 eLabel s4.2.1), (31, oa 52 4 eLabel ([(Label.mk (Point.mk x8.1 x9.1) (w64 (1 + x10.1)) (w64 (1 + x11.1)))] : List Label)), (1000000, .box (tc el01Source x11.2))]⟩) ?_ (fun d6 => ?_)
  exact DE.all [0] (by kernel_rfl) (by simp) (List.forall_mem_cons.2 ⟨DEs.mk (i := 0) (L' := #[true, true, false, true, true, false, false]) rfl (EStep.le (EStep.ofN2 tbokGB (σ' := ⟨83, [(27, .own 27), (0, .ref 1000000 0), (3, .own 3), (4, vi s4.1), (28, .own 3), (31, .own 31)], [(27, oa 52 4 eLabel ([] : List Label)), (3, oa 52 4 eLabel s4.2.1), (31, oa 52 4 eLabel ([(Label.mk (Point.mk x8.1 x9.1) (w64 (1 + x10.1)) (w64 (1 + x11.1)))] : List Label)), (1000000, .box (tc el01Source x11.2))]⟩) (by kernel_rfl)) Le.sub0) (by kernel_rfl) d8, (fun _ h => absurd h List.not_mem_nil)⟩)
  refine DE.share (fuel := 4) (L := #[true, true, false, true, false, false, false]) (σ := ⟨83, [(0, .ref 1000000 0), (3, .own 3), (4, vi s4.1), (27, .own 27), (28, .own 3), (30, .agg [vi x8.1, vi x9.1, vi (w64 (1 + x10.1)), vi (w64 (1 + x11.1))])], [(3, oa 52 4 eLabel s4.2.1), (27, oa 52 4 eLabel ([] : List Label)), (1000000, .box (tc el01Source x11.2))]⟩) ?_ (fun d5 => ?_)
  exact DE.all [2, 4] (by kernel_rfl) (by simp) (List.forall_mem_cons.2 ⟨DEs.mk (i := 2) (L' := #[true, true, true, true, false, false, false]) rfl (EStep.le (x_append (f := eLabel) (t := 27) (ti := ti27) (tj := ti52) (zs := [.int .i64 0, .int .i64 0, .int .i64 0, .int .i64 0]) (e := 52) (m := 4) (d := 27) (xv := .own 3) hx12 tbokGB rfl rfl rfl rfl (x_src_o (e := 52))) Le.sub0) (by kernel_rfl) d7, (List.forall_mem_cons.2 ⟨DEs.mk (i := 4) (L' := #[true, true, false, true, true, false, false]) rfl (EStep.le (EStep.ofN2 tbokGB (σ' := ⟨83, [(31, .own 31), (0, .ref 1000000 0), (3, .own 3), (4, vi s4.1), (27, .own 27), (28, .own 3), (30, .agg [vi x8.1, vi x9.1, vi (w64 (1 + x10.1)), vi (w64 (1 + x11.1))])], [(31, oa 52 4 eLabel ([(Label.mk (Point.mk x8.1 x9.1) (w64 (1 + x10.1)) (w64 (1 + x11.1)))] : List Label)), (3, oa 52 4 eLabel s4.2.1), (27, oa 52 4 eLabel ([] : List Label)), (1000000, .box (tc el01Source x11.2))]⟩) (by kernel_rfl)) Le.sub0) (by kernel_rfl) d8, (fun _ h => absurd h List.not_mem_nil)⟩)⟩)
  refine DE.share (fuel := 4) (L := #[true, true, true, false, false, false, false]) (σ := ⟨83, [(0, .ref 1000000 0), (3, .own 3), (4, vi s4.1), (5, .ref 5 0), (29, .own 29)], [(3, oa 52 4 eLabel s4.2.1), (5, .box [vi x8.1, vi x9.1, vi (w64 (1 + x10.1)), vi (w64 (1 + x11.1))]), (29, oa 52 4 eLabel x12), (1000000, .box (tc el01Source x11.2))]⟩) ?_ (fun d4 => ?_)
  exact DE.all [3] (by kernel_rfl) (by simp) (List.forall_mem_cons.2 ⟨DEs.mk (i := 3) (L' := #[true, true, true, true, false, false, false]) rfl (EStep.le (EStep.ofN2 tbokGB (σ' := ⟨83, [(30, .agg [vi x8.1, vi x9.1, vi (w64 (1 + x10.1)), vi (w64 (1 + x11.1))]), (0, .ref 1000000 0), (3, .own 3), (4, vi s4.1), (5, .ref 5 0), (29, .own 29)], [(3, oa 52 4 eLabel s4.2.1), (5, .box [vi x8.1, vi x9.1, vi (w64 (1 + x10.1)), vi (w64 (1 + x11.1))]), (29, oa 52 4 eLabel x12), (1000000, .box (tc el01Source x11.2))]⟩) (by kernel_rfl)) Le.sub0) (by kernel_rfl) d7, (fun _ h => absurd h List.not_mem_nil)⟩)
  refine DE.share (fuel := 5) (L := #[false, true, false, true, false, false, false]) (σ := ⟨83, [(0, .ref 1000000 0), (3, .own 3), (4, vi s4.1), (28, .own 3), (30, .agg [vi x8.1, vi x9.1, vi (w64 (1 + x10.1)), vi (w64 (1 + x11.1))])], [(3, oa 52 4 eLabel s4.2.1), (1000000, .box (tc el01Source x11.2))]⟩) ?_ (fun d3 => ?_)
  exact DE.all [0, 4] (by kernel_rfl) (by simp) (List.forall_mem_cons.2 ⟨DEs.mk (i := 0) (L' := #[true, true, false, true, false, false, false]) rfl (EStep.le (EStep.ofN2 tbokGB (σ' := ⟨83, [(27, .own 27), (0, .ref 1000000 0), (3, .own 3), (4, vi s4.1), (28, .own 3), (30, .agg [vi x8.1, vi x9.1, vi (w64 (1 + x10.1)), vi (w64 (1 + x11.1))])], [(27, oa 52 4 eLabel ([] : List Label)), (3, oa 52 4 eLabel s4.2.1), (1000000, .box (tc el01Source x11.2))]⟩) (by kernel_rfl)) Le.sub0) (by kernel_rfl) d5, (List.forall_mem_cons.2 ⟨DEs.mk (i := 4) (L' := #[false, true, false, true, true, false, false]) rfl (EStep.le (EStep.ofN2 tbokGB (σ' := ⟨83, [(31, .own 31), (0, .ref 1000000 0), (3, .own 3), (4, vi s4.1), (28, .own 3), (30, .agg [vi x8.1, vi x9.1, vi (w64 (1 + x10.1)), vi (w64 (1 + x11.1))])], [(31, oa 52 4 eLabel ([(Label.mk (Point.mk x8.1 x9.1) (w64 (1 + x10.1)) (w64 (1 + x11.1)))] : List Label)), (3, oa 52 4 eLabel s4.2.1), (1000000, .box (tc el01Source x11.2))]⟩) (by kernel_rfl)) Le.sub0) (by kernel_rfl) d6, (fun _ h => absurd h List.not_mem_nil)⟩)⟩)
  refine DE.share (fuel := 5) (L := #[true, true, false, false, false, false, false]) (σ := ⟨83, [(0, .ref 1000000 0), (3, .own 3), (4, vi s4.1), (5, .ref 5 0), (27, .own 27), (28, .own 3)], [(3, oa 52 4 eLabel s4.2.1), (5, .box [vi x8.1, vi x9.1, vi (w64 (1 + x10.1)), vi (w64 (1 + x11.1))]), (27, oa 52 4 eLabel ([] : List Label)), (1000000, .box (tc el01Source x11.2))]⟩) ?_ (fun d2 => ?_)
  exact DE.all [2, 3] (by kernel_rfl) (by simp) (List.forall_mem_cons.2 ⟨DEs.mk (i := 2) (L' := #[true, true, true, false, false, false, false]) rfl (EStep.le (x_append (f := eLabel) (t := 27) (ti := ti27) (tj := ti52) (zs := [.int .i64 0, .int .i64 0, .int .i64 0, .int .i64 0]) (e := 52) (m := 4) (d := 27) (xv := .own 3) hx12 tbokGB rfl rfl rfl rfl (x_src_o (e := 52))) Le.sub0) (by kernel_rfl) d4, (List.forall_mem_cons.2 ⟨DEs.mk (i := 3) (L' := #[true, true, false, true, false, false, false]) rfl (EStep.le (EStep.ofN2 tbokGB (σ' := ⟨83, [(30, .agg [vi x8.1, vi x9.1, vi (w64 (1 + x10.1)), vi (w64 (1 + x11.1))]), (0, .ref 1000000 0), (3, .own 3), (4, vi s4.1), (5, .ref 5 0), (27, .own 27), (28, .own 3)], [(3, oa 52 4 eLabel s4.2.1), (5, .box [vi x8.1, vi x9.1, vi (w64 (1 + x10.1)), vi (w64 (1 + x11.1))]), (27, oa 52 4 eLabel ([] : List Label)), (1000000, .box (tc el01Source x11.2))]⟩) (by kernel_rfl)) Le.sub0) (by kernel_rfl) d5, (fun _ h => absurd h List.not_mem_nil)⟩)⟩)
  refine DE.share (fuel := 6) (L := #[false, true, false, false, false, false, false]) (σ := ⟨83, [(0, .ref 1000000 0), (3, .own 3), (4, vi s4.1), (5, .ref 5 0), (28, .own 3)], [(3, oa 52 4 eLabel s4.2.1), (5, .box [vi x8.1, vi x9.1, vi (w64 (1 + x10.1)), vi (w64 (1 + x11.1))]), (1000000, .box (tc el01Source x11.2))]⟩) ?_ (fun d1 => ?_)
  exact DE.all [0, 3] (by kernel_rfl) (by simp) (List.forall_mem_cons.2 ⟨DEs.mk (i := 0) (L' := #[true, true, false, false, false, false, false]) rfl (EStep.le (EStep.ofN2 tbokGB (σ' := ⟨83, [(27, .own 27), (0, .ref 1000000 0), (3, .own 3), (4, vi s4.1), (5, .ref 5 0), (28, .own 3)], [(27, oa 52 4 eLabel ([] : List Label)), (3, oa 52 4 eLabel s4.2.1), (5, .box [vi x8.1, vi x9.1, vi (w64 (1 + x10.1)), vi (w64 (1 + x11.1))]), (1000000, .box (tc el01Source x11.2))]⟩) (by kernel_rfl)) Le.sub0) (by kernel_rfl) d2, (List.forall_mem_cons.2 ⟨DEs.mk (i := 3) (L' := #[false, true, false, true, false, false, false]) rfl (EStep.le (EStep.ofN2 tbokGB (σ' := ⟨83, [(30, .agg [vi x8.1, vi x9.1, vi (w64 (1 + x10.1)), vi (w64 (1 + x11.1))]), (0, .ref 1000000 0), (3, .own 3), (4, vi s4.1), (5, .ref 5 0), (28, .own 3)], [(3, oa 52 4 eLabel s4.2.1), (5, .box [vi x8.1, vi x9.1, vi (w64 (1 + x10.1)), vi (w64 (1 + x11.1))]), (1000000, .box (tc el01Source x11.2))]⟩) (by kernel_rfl)) Le.sub0) (by kernel_rfl) d3, (fun _ h => absurd h List.not_mem_nil)⟩)⟩)
  exact DE.take (i := 1) (L' := #[false, true, false, false, false, false, false]) rfl (.inl rfl) rfl (by kernel_rfl) (by kernel_rfl) (by kernel_rfl) (EStep.le (EStep.ofN2 tbokGB (σ' := ⟨83, [(28, .own 3), (0, .ref 1000000 0), (3, .own 3), (4, vi s4.1), (5, .ref 5 0)], [(3, oa 52 4 eLabel s4.2.1), (5, .box [vi x8.1, vi x9.1, vi (w64 (1 + x10.1)), vi (w64 (1 + x11.1))]), (1000000, .box (tc el01Source x11.2))]⟩) (by kernel_rfl)) Le.sub0) (by kernel_rfl) d1
  refine nx_n ?_
  refine sr ?_
  refine SRun.ck tbokGB 1 ⟨83, [(0, .ref 1000000 0), (3, .own 3), (4, vi s4.1), (6, .own 32), (33, .own 32)], [(3, oa 52 4 eLabel s4.2.1), (32, oa 52 4 eLabel x13), (1000000, .box (tc el01Source x11.2))]⟩ ?_
  obtain ⟨x14, hx14, h⟩ := bind_some h
  refine SRun.ls (xc ents29 (spec_AreLabels_run x13 _ hx14)) ?_
  refine SRun.nx ?_
  refine swp_cd h (fun h => ?_) fun h => ?_
  refine swp_reg ?_
  refine SRun.ck tbokGB 2 ⟨83, [(0, .ref 1000000 0), (3, .own 32), (4, vi s4.1)], [(32, oa 52 4 eLabel x13), (1000000, .box (tc el01Source x11.2))]⟩ ?_
  refine SRun.nil ?_
  obtain rfl := inj h
  exact q_bn (q_j (Le.rr [32, 1000000] [(32, 3)]))
  refine swp_skip ?_
  obtain rfl := inj h
  exact q_bn (q_j (Le.sub0))
  refine swp_reg ?_
  refine SRun.ck tbokGB 3 ⟨83, [(0, .ref 1000000 0), (3, .own 3), (4, vi (w64 (s4.1 - 1)))], [(3, oa 52 4 eLabel j6.1), (1000000, .box (tc el01Source j6.2))]⟩ ?_
  refine SRun.nil ?_
  obtain rfl := inj h
  exact q_l (Le.sub0)
  refine swp_exit ?_
  obtain rfl := inj h
  exact nx_e (q_re (q_bh (q_j (Le.sub0))))
  refine swp_seq ?_
  refine srk tbokGB ⟨83, [(0, .ref 1000000 0), (3, .own 3), (38, vb (decide ((j2.1.length : Int) > 0)))], [(3, oa 52 4 eLabel j2.1), (1000000, .box (tc el01Source j2.2))]⟩ ?_
  refine swp_seqJ h (fun j15 => ⟨83, [(3, .own 3)], [(3, oa 52 4 eLabel j15.1), (1000000, .box (tc el01Source j15.2))]⟩) (fun v16 h => ?_) (fun j15 h => ?_)
  refine swp_cd h (fun h => ?_) fun h => ?_
  refine sr ?_
  refine SRun.ck tbokGB 3 ⟨83, [(0, .ref 1000000 0), (3, .own 3), (39, .ref 1000000 0), (41, vi (j2.1.length : Int))], [(3, oa 52 4 eLabel j2.1), (1000000, .box (tc el01Source j2.2))]⟩ ?_
  obtain ⟨x17, hx17, h⟩ := bind_some h
  refine SRun.estep (xe ents65 (spec_l01Next_run j2.2 (j2.1.length : Int) _ hx17)) ?_
  refine ckn tbokGB 1 ⟨83, [(0, .ref 1000000 0), (3, .own 3), (7, vi x17.1)], [(3, oa 52 4 eLabel j2.1), (1000000, .box (tc el01Source x17.2))]⟩ ?_
  refine sr ?_
  refine SRun.ck tbokGB 1 ⟨83, [(0, .ref 1000000 0), (3, .own 3), (7, vi x17.1), (43, .ref 1000000 0)], [(3, oa 52 4 eLabel j2.1), (1000000, .box (tc el01Source x17.2))]⟩ ?_
  obtain ⟨x18, hx18, h⟩ := bind_some h
  refine SRun.estep (xe ents65 (spec_l01Next_run x17.2 30 _ hx18)) ?_
  refine SRun.nx ?_
  refine swp_blk (a := v16) ?_
  refine srk tbokGB ⟨83, [(0, .ref 1000000 0), (3, .own 3), (7, vi x17.1), (44, vi x18.1), (45, vb (x18.1 == 0))], [(3, oa 52 4 eLabel j2.1), (1000000, .box (tc el01Source x18.2))]⟩ ?_
  refine swp_cd h (fun h => ?_) fun h => ?_
  refine swp_reg ?_
  refine SRun.ck tbokGB 4 ⟨83, [(3, .own 3), (47, .own 3), (48, vi x17.1), (49, .ref 1000000 0), (50, .own 50)], [(3, oa 52 4 eLabel j2.1), (50, oa 2 1 (eI .i64) ([0, 20, 21] : List Int)), (1000000, .box (tc el01Source x18.2))]⟩ ?_
  refine SRun.le (Le.frz' (d := 50) (e := 2) (m := 1) (n := ([0, 20, 21] : List Int).length) (es := ([0, 20, 21] : List Int).map (eI .i64)) (by kernel_rfl) (by kernel_rfl)) ?_
  obtain ⟨x19, hx19, h⟩ := bind_some h
  refine SRun.estep (xe ents66 (spec_l01Pick_run x18.2 ([0, 20, 21] : List Int) _ hx19)) ?_
  obtain ⟨x20, hx20, h⟩ := bind_some h
  refine SRun.ls (x_index_own (d := 3) (L := j2.1) (f := eLabel) (ti := ti27) (tj := ti52) (e := 52) (e' := 52) (m := 4) (k := .i64) tbokGB rfl hx20) ?_
  refine SRun.ck tbokGB 1 ⟨83, [(3, .own 3), (51, vi x19.1), (53, .eref 3 4 (Int.toNat x17.1) 2)], [(3, oa 52 4 eLabel j2.1), (1000000, .box (tc el01Source x19.2))]⟩ ?_
  refine SRun.estep (x_store_own (d := 3) (m := 4) (j := 2) (L := j2.1) (f := eLabel) (x := (Label.mk x20.At x19.1 x20.Priority)) (z := x20) (ti := ti2) (e := 52) (ts := [.int .i64 x19.1]) (vs := [vi x19.1]) (v := vi x19.1) tbokGB rfl rfl hx20) ?_
  refine SRun.nil ?_
  obtain rfl := inj h
  exact q_bn (q_j (Le.sub0))
  refine srk tbokGB ⟨83, [(0, .ref 1000000 0), (3, .own 3), (7, vi x17.1), (44, vi x18.1), (54, vb (x18.1 == 1))], [(3, oa 52 4 eLabel j2.1), (1000000, .box (tc el01Source x18.2))]⟩ ?_
  refine swp_cd h (fun h => ?_) fun h => ?_
  refine swp_reg ?_
  refine SRun.ck tbokGB 4 ⟨83, [(3, .own 3), (56, .own 3), (57, vi x17.1), (58, .ref 1000000 0), (59, .own 59)], [(3, oa 52 4 eLabel j2.1), (59, oa 2 1 (eI .i64) ([0, 9, 10] : List Int)), (1000000, .box (tc el01Source x18.2))]⟩ ?_
  refine SRun.le (Le.frz' (d := 59) (e := 2) (m := 1) (n := ([0, 9, 10] : List Int).length) (es := ([0, 9, 10] : List Int).map (eI .i64)) (by kernel_rfl) (by kernel_rfl)) ?_
  obtain ⟨x21, hx21, h⟩ := bind_some h
  refine SRun.estep (xe ents66 (spec_l01Pick_run x18.2 ([0, 9, 10] : List Int) _ hx21)) ?_
  obtain ⟨x22, hx22, h⟩ := bind_some h
  refine SRun.ls (x_index_own (d := 3) (L := j2.1) (f := eLabel) (ti := ti27) (tj := ti52) (e := 52) (e' := 52) (m := 4) (k := .i64) tbokGB rfl hx22) ?_
  refine SRun.ck tbokGB 1 ⟨83, [(3, .own 3), (60, vi x21.1), (62, .eref 3 4 (Int.toNat x17.1) 3)], [(3, oa 52 4 eLabel j2.1), (1000000, .box (tc el01Source x21.2))]⟩ ?_
  refine SRun.estep (x_store_own (d := 3) (m := 4) (j := 3) (L := j2.1) (f := eLabel) (x := (Label.mk x22.At x22.Length x21.1)) (z := x22) (ti := ti2) (e := 52) (ts := [.int .i64 x21.1]) (vs := [vi x21.1]) (v := vi x21.1) tbokGB rfl rfl hx22) ?_
  refine SRun.nil ?_
  obtain rfl := inj h
  exact q_bn (q_j (Le.sub0))
  refine srk tbokGB ⟨83, [(0, .ref 1000000 0), (3, .own 3), (7, vi x17.1), (44, vi x18.1), (63, vb (x18.1 == 2))], [(3, oa 52 4 eLabel j2.1), (1000000, .box (tc el01Source x18.2))]⟩ ?_
  refine swp_cd h (fun h => ?_) fun h => ?_
  refine swp_reg ?_
  refine SRun.ck tbokGB 3 ⟨83, [(65, .own 3), (66, .own 3), (67, vi x17.1)], [(3, oa 52 4 eLabel j2.1), (1000000, .box (tc el01Source x18.2))]⟩ ?_
  obtain ⟨x23, hx23, h⟩ := bind_some h
  refine SRun.ls (x_index_own (d := 3) (L := j2.1) (f := eLabel) (ti := ti27) (tj := ti52) (e := 52) (e' := 52) (m := 4) (k := .i64) tbokGB rfl hx23) ?_
  refine SRun.ls (x_load_own (d := 3) (m := 4) (j := 0) (L := j2.1) (f := eLabel) (ti := ti52) (e := 52) (v := .agg (tc eLabel x23)) tbokGB rfl hx23) ?_
  refine SRun.ck tbokGB 1 ⟨83, [(65, .own 3), (70, .own 70)], [(3, oa 52 4 eLabel j2.1), (70, oa 52 4 eLabel ([x23] : List Label)), (1000000, .box (tc el01Source x18.2))]⟩ ?_
  obtain ⟨x24, hx24, h⟩ := bind_some h
  refine SRun.estep (x_append (f := eLabel) (t := 27) (ti := ti27) (tj := ti52) (zs := [.int .i64 0, .int .i64 0, .int .i64 0, .int .i64 0]) (e := 52) (m := 4) (d := 3) (xv := .own 70) hx24 tbokGB rfl rfl rfl rfl (x_src_o (e := 52))) ?_
  refine SRun.ck tbokGB 1 ⟨83, [(3, .own 71)], [(71, oa 52 4 eLabel x24), (1000000, .box (tc el01Source x18.2))]⟩ ?_
  refine SRun.nil ?_
  obtain rfl := inj h
  exact q_bn (q_j (Le.rr [71, 1000000] [(71, 3)]))
  refine srk tbokGB ⟨83, [(0, .ref 1000000 0), (3, .own 3), (7, vi x17.1), (72, vb (x18.1 == 3))], [(3, oa 52 4 eLabel j2.1), (1000000, .box (tc el01Source x18.2))]⟩ ?_
  refine swp_cd h (fun h => ?_) fun h => ?_
  refine swp_reg ?_
  refine SRun.ck tbokGB 4 ⟨83, [(3, .own 3), (74, .own 3), (75, vi x17.1), (76, .ref 1000000 0), (77, .own 77)], [(3, oa 52 4 eLabel j2.1), (77, oa 2 1 (eI .i64) ([1000, 1001] : List Int)), (1000000, .box (tc el01Source x18.2))]⟩ ?_
  refine SRun.le (Le.frz' (d := 77) (e := 2) (m := 1) (n := ([1000, 1001] : List Int).length) (es := ([1000, 1001] : List Int).map (eI .i64)) (by kernel_rfl) (by kernel_rfl)) ?_
  obtain ⟨x25, hx25, h⟩ := bind_some h
  refine SRun.estep (xe ents66 (spec_l01Pick_run x18.2 ([1000, 1001] : List Int) _ hx25)) ?_
  obtain ⟨x26, hx26, h⟩ := bind_some h
  refine SRun.ls (x_index_own (d := 3) (L := j2.1) (f := eLabel) (ti := ti27) (tj := ti52) (e := 52) (e' := 52) (m := 4) (k := .i64) tbokGB rfl hx26) ?_
  refine SRun.ck tbokGB 2 ⟨83, [(3, .own 3), (78, vi x25.1), (81, .eref 3 4 (Int.toNat x17.1) 0)], [(3, oa 52 4 eLabel j2.1), (1000000, .box (tc el01Source x25.2))]⟩ ?_
  refine SRun.estep (x_store_own (d := 3) (m := 4) (j := 0) (L := j2.1) (f := eLabel) (x := (Label.mk (Point.mk x25.1 x26.At.Y) x26.Length x26.Priority)) (z := x26) (ti := ti2) (e := 52) (ts := [.int .i64 x25.1]) (vs := [vi x25.1]) (v := vi x25.1) tbokGB rfl rfl hx26) ?_
  refine SRun.nil ?_
  obtain rfl := inj h
  exact q_bn (q_j (Le.sub0))
  refine swp_skip ?_
  obtain rfl := inj h
  exact q_bn (q_j (Le.sub0))
  refine swp_skip ?_
  obtain rfl := inj h
  exact q_j (Le.sub0)
  refine srk tbokGB ⟨83, [(2, .own 3)], [(3, oa 52 4 eLabel j15.1), (1000000, .box (tc el01Source j15.2))]⟩ ?_
  refine swp_ret ?_
  obtain rfl := inj h
  exact q_fr (fin_io (f1 (fo eLabel_flat)) (y := .box (tc el01Source j15.2)) (by kernel_rfl) rfl (by kernel_rfl) (by kernel_rfl))
theorem ents43 : Ents Try.prog 43 := ents_of Try.func43 (by kernel_rfl) rfl
noncomputable def spec_DrawBestPlacement (aCode : (List Int)) : Option ((List Label)) :=
  ((spec_l01From aCode).bind fun x1 => ((spec_l33Draw x1).bind fun x2 => some x2.1))
theorem spec_DrawBestPlacement_run (aCode : (List Int)) (r : (List Label)) (h : spec_DrawBestPlacement aCode = some r) : SCall Try.prog 18 [.v (vl (eI .u8) aCode)] ⟨[.own 52 4 r.length (r.map eLabel)], [], false⟩ := by
  refine scall_in Try.func18 rfl [(.tmp 2)] rfl (fun r => ⟨[.own 52 4 r.length (r.map eLabel)], [], false⟩) (r := r) ?_
  unfold spec_DrawBestPlacement at h
  refine srk tbokGB ⟨6, [(0, vl (eI .u8) aCode)], []⟩ ?_
  refine sr ?_
  refine SRun.ck tbokGB 1 ⟨6, [(3, vl (eI .u8) aCode)], []⟩ ?_
  obtain ⟨x1, hx1, h⟩ := bind_some h
  refine SRun.ls (xc ents44 (spec_l01From_run aCode _ hx1)) ?_
  obtain ⟨x2, hx2, h⟩ := bind_some h
  refine SRun.estep (xe ents43 (spec_l33Draw_run x1 _ hx2)) ?_
  refine ckn tbokGB 1 ⟨6, [(2, .own 5)], [(5, oa 52 4 eLabel x2.1)]⟩ ?_
  refine swp_ret ?_
  obtain rfl := inj h
  exact q_fr (f1 (fo eLabel_flat))
theorem ents18 : Ents Try.prog 18 := ents_of Try.func18 (by kernel_rfl) rfl

theorem ents9 : Ents Try.prog 9 := ents_of Try.func9 (by kernel_rfl) rfl
noncomputable def spec_l33Positions (aCode : (List Int)) : Option ((List Label) × (List Int)) :=
  ((spec_l01From aCode).bind fun x1 => ((spec_l33Draw x1).bind fun x2 => ((spec_BestPlacement x2.1).bind fun x3 => (((loop (fun (s6 : Int × l01Source × (List Int)) => (bif (decide (s6.1 < (x2.1.length : Int))) then (((((bif (x3.2 == 0) then ((spec_l01Next s6.2.1 4).bind fun x10 => some ((decide (x10.1 > 0)), x10.2)) else some (false, s6.2.1))).bind fun (j11 : Bool × l01Source) => (bif j11.1 then ((at' x3.1 s6.1).bind fun x13 => ((app' s6.2.2 ([x13] : List Int)).bind fun x14 => some (x14, j11.2))) else ((spec_l01Next j11.2 5).bind fun x15 => ((app' s6.2.2 ([x15.1] : List Int)).bind fun x16 => some (x16, x15.2)))))).bind fun (j8 : (List Int) × l01Source) => some (.inl ((w64 (s6.1 + 1)), j8.2, j8.1))) else some (.inr (s6.2.1, s6.2.2)))) (0, x2.2, ([] : List Int)))).bind fun (j4 : l01Source × (List Int)) => ((spec_l01Next j4.1 24).bind fun x17 => (((bif (x17.1 == 0) then ((app' j4.2 ([4] : List Int)).bind fun x20 => some x20) else (bif (x17.1 == 1) then (bif (decide ((j4.2.length : Int) > 0)) then ((spec_l01Pick x17.2 ([(-1), 5] : List Int)).bind fun x21 => ((at' j4.2 0).bind fun _ => some (List.set j4.2 (Int.toNat 0) x21.1))) else some j4.2) else some j4.2))).bind fun (j18 : (List Int)) => some (x2.1, j18)))))))
theorem spec_l33Positions_run (aCode : (List Int)) (r : (List Label) × (List Int)) (h : spec_l33Positions aCode = some r) : SCall Try.prog 45 [.v (vl (eI .u8) aCode)] ⟨[.v (vl eLabel r.1), .v (vl (eI .i64) r.2)], [], true⟩ := by
  refine scall_in Try.func45 rfl [(.tmp 2), (.tmp 3)] rfl (fun r => ⟨[.v (vl eLabel r.1), .v (vl (eI .i64) r.2)], [], true⟩) (r := r) ?_
  unfold spec_l33Positions at h
  refine srk tbokGB ⟨64, [(0, vl (eI .u8) aCode)], []⟩ ?_
  refine sr ?_
  refine SRun.ck tbokGB 1 ⟨64, [(10, vl (eI .u8) aCode)], []⟩ ?_
  obtain ⟨x1, hx1, h⟩ := bind_some h
  refine SRun.ls (xc ents44 (spec_l01From_run aCode _ hx1)) ?_
  refine ckn tbokGB 1 ⟨64, [(4, .ref 11 0)], [(11, .box (tc el01Source x1))]⟩ ?_
  refine sr ?_
  refine SRun.ck tbokGB 1 ⟨64, [(4, .ref 11 0), (12, .ref 11 0)], [(11, .box (tc el01Source x1))]⟩ ?_
  obtain ⟨x2, hx2, h⟩ := bind_some h
  refine SRun.estep (xe ents43 (spec_l33Draw_run x1 _ hx2)) ?_
  refine ckn tbokGB 1 ⟨64, [(4, .ref 11 0), (5, .own 13)], [(11, .box (tc el01Source x2.2)), (13, oa 52 4 eLabel x2.1)]⟩ ?_
  refine srk tbokGB ⟨64, [(4, .ref 11 0), (5, .own 13), (6, .own 14)], [(11, .box (tc el01Source x2.2)), (13, oa 52 4 eLabel x2.1), (14, oa 2 1 (eI .i64) ([] : List Int))]⟩ ?_
  refine sr ?_
  refine SRun.ck tbokGB 1 ⟨64, [(4, .ref 11 0), (5, .own 13), (6, .own 14), (16, .own 13)], [(11, .box (tc el01Source x2.2)), (13, oa 52 4 eLabel x2.1), (14, oa 2 1 (eI .i64) ([] : List Int))]⟩ ?_
  refine SRun.le (Le.frz' (d := 13) (e := 52) (m := 4) (n := x2.1.length) (es := x2.1.map eLabel) (by kernel_rfl) (by kernel_rfl)) ?_
  obtain ⟨x3, hx3, h⟩ := bind_some h
  refine SRun.ls (xc ents7 (spec_BestPlacement_run x2.1 _ hx3)) ?_
  refine ckn tbokGB 5 ⟨64, [(4, .ref 11 0), (5, vl eLabel x2.1), (6, .own 14), (7, vl (eI .i64) x3.1), (8, vi x3.2)], [(11, .box (tc el01Source x2.2)), (14, oa 2 1 (eI .i64) ([] : List Int))]⟩ ?_
  refine swp_seq ?_
  refine srk tbokGB ⟨64, [(4, .ref 11 0), (5, vl eLabel x2.1), (6, .own 14), (7, vl (eI .i64) x3.1), (8, vi x3.2), (9, vi 0)], [(11, .box (tc el01Source x2.2)), (14, oa 2 1 (eI .i64) ([] : List Int))]⟩ ?_
  refine swp_seqJ h (fun j4 => ⟨64, [(4, .ref 11 0), (5, vl eLabel x2.1), (6, .own 6)], [(11, .box (tc el01Source j4.1)), (6, oa 2 1 (eI .i64) j4.2)]⟩) (fun v5 h => ?_) (fun j4 h => ?_)
  refine swp_blk (a := v5) ?_
  refine swp_lpL (r := v5) (s := (0, x2.2, ([] : List Int))) _ (fun s6 => ⟨64, [(4, .ref 11 0), (5, vl eLabel x2.1), (6, .own 6), (7, vl (eI .i64) x3.1), (8, vi x3.2), (9, vi s6.1)], [(11, .box (tc el01Source s6.2.1)), (6, oa 2 1 (eI .i64) s6.2.2)]⟩) _ (Le.rr [11, 14] [(14, 6)]) h (fun s6 v7 h => ?_)
  refine swp_seq ?_
  refine srk tbokGB ⟨64, [(4, .ref 11 0), (5, vl eLabel x2.1), (6, .own 6), (7, vl (eI .i64) x3.1), (8, vi x3.2), (9, vi s6.1), (23, vb (decide (s6.1 < (x2.1.length : Int))))], [(6, oa 2 1 (eI .i64) s6.2.2), (11, .box (tc el01Source s6.2.1))]⟩ ?_
  refine swp_cd h (fun h => ?_) fun h => ?_
  refine swp_skip ?_
  refine nx_n ?_
  refine swp_seq ?_
  refine swp_seqJ h (fun j8 => ⟨64, [(4, .ref 11 0), (5, vl eLabel x2.1), (6, .own 6), (7, vl (eI .i64) x3.1), (8, vi x3.2), (9, vi s6.1)], [(6, oa 2 1 (eI .i64) j8.1), (11, .box (tc el01Source j8.2))]⟩) (fun v9 h => ?_) (fun j8 h => ?_)
  refine swp_blk (a := v9) ?_
  refine swp_seq ?_
  refine swp_regJ h (fun j11 => ⟨64, [(4, .ref 11 0), (5, vl eLabel x2.1), (6, .own 6), (7, vl (eI .i64) x3.1), (8, vi x3.2), (9, vi s6.1), (32, vb j11.1)], [(6, oa 2 1 (eI .i64) s6.2.2), (11, .box (tc el01Source j11.2))]⟩) (fun v12 h => ?_) (fun j11 h => ?_)
  refine SRun.ck tbokGB 3 ⟨64, [(4, .ref 11 0), (5, vl eLabel x2.1), (6, .own 6), (7, vl (eI .i64) x3.1), (8, vi x3.2), (9, vi s6.1), (28, vb (x3.2 == 0))], [(6, oa 2 1 (eI .i64) s6.2.2), (11, .box (tc el01Source s6.2.1))]⟩ ?_
  refine SRun.cu [(28, fun b => b)] h (fun h => ?_) fun h => ?_
  refine SRun.ck tbokGB 1 ⟨64, [(4, .ref 11 0), (5, vl eLabel x2.1), (6, .own 6), (7, vl (eI .i64) x3.1), (8, vi x3.2), (9, vi s6.1), (28, vb true), (29, .ref 11 0)], [(6, oa 2 1 (eI .i64) s6.2.2), (11, .box (tc el01Source s6.2.1))]⟩ ?_
  obtain ⟨x10, hx10, h⟩ := bind_some h
  refine SRun.estep (xe ents65 (spec_l01Next_run s6.2.1 4 _ hx10)) ?_
  refine SRun.ck tbokGB 2 ⟨64, [(4, .ref 11 0), (5, vl eLabel x2.1), (6, .own 6), (7, vl (eI .i64) x3.1), (8, vi x3.2), (9, vi s6.1), (32, vb (decide (x10.1 > 0)))], [(6, oa 2 1 (eI .i64) s6.2.2), (11, .box (tc el01Source x10.2))]⟩ ?_
  refine SRun.nil ?_
  obtain rfl := inj h
  exact Le.sub0
  refine SRun.ck tbokGB 4 ⟨64, [(4, .ref 11 0), (5, vl eLabel x2.1), (6, .own 6), (7, vl (eI .i64) x3.1), (8, vi x3.2), (9, vi s6.1), (32, vb false)], [(6, oa 2 1 (eI .i64) s6.2.2), (11, .box (tc el01Source s6.2.1))]⟩ ?_
  refine SRun.nil ?_
  obtain rfl := inj h
  exact Le.sub0
  refine swp_cd h (fun h => ?_) fun h => ?_
  refine swp_reg ?_
  refine SRun.ck tbokGB 3 ⟨64, [(4, .ref 11 0), (5, vl eLabel x2.1), (7, vl (eI .i64) x3.1), (8, vi x3.2), (9, vi s6.1), (33, .own 6), (34, vl (eI .i64) x3.1), (35, vi s6.1)], [(6, oa 2 1 (eI .i64) s6.2.2), (11, .box (tc el01Source j11.2))]⟩ ?_
  obtain ⟨x13, hx13, h⟩ := bind_some h
  refine SRun.ls (x_index (L := x3.1) (f := (eI .i64)) (ti := ti24) (tj := ti2) (e := 2) (k := .i64) tbokGB rfl hx13) ?_
  refine SRun.ck tbokGB 2 ⟨64, [(4, .ref 11 0), (5, vl eLabel x2.1), (7, vl (eI .i64) x3.1), (8, vi x3.2), (9, vi s6.1), (33, .own 6), (38, .own 38)], [(6, oa 2 1 (eI .i64) s6.2.2), (11, .box (tc el01Source j11.2)), (38, oa 2 1 (eI .i64) ([x13] : List Int))]⟩ ?_
  obtain ⟨x14, hx14, h⟩ := bind_some h
  refine SRun.estep (x_append (f := (eI .i64)) (t := 24) (ti := ti24) (tj := ti2) (zs := [.int .i64 0]) (e := 2) (m := 1) (d := 6) (xv := .own 38) hx14 tbokGB rfl rfl rfl rfl (x_src_o (e := 2))) ?_
  refine SRun.ck tbokGB 1 ⟨64, [(4, .ref 11 0), (5, vl eLabel x2.1), (6, .own 39), (7, vl (eI .i64) x3.1), (8, vi x3.2), (9, vi s6.1)], [(11, .box (tc el01Source j11.2)), (39, oa 2 1 (eI .i64) x14)]⟩ ?_
  refine SRun.nil ?_
  obtain rfl := inj h
  exact q_bn (q_j (Le.rr [11, 39] [(39, 6)]))
  refine swp_reg ?_
  refine SRun.ck tbokGB 2 ⟨64, [(4, .ref 11 0), (5, vl eLabel x2.1), (7, vl (eI .i64) x3.1), (8, vi x3.2), (9, vi s6.1), (40, .own 6), (41, .ref 11 0)], [(6, oa 2 1 (eI .i64) s6.2.2), (11, .box (tc el01Source j11.2))]⟩ ?_
  obtain ⟨x15, hx15, h⟩ := bind_some h
  refine SRun.estep (xe ents65 (spec_l01Next_run j11.2 5 _ hx15)) ?_
  refine SRun.ck tbokGB 1 ⟨64, [(4, .ref 11 0), (5, vl eLabel x2.1), (7, vl (eI .i64) x3.1), (8, vi x3.2), (9, vi s6.1), (40, .own 6), (43, .own 43)], [(6, oa 2 1 (eI .i64) s6.2.2), (11, .box (tc el01Source x15.2)), (43, oa 2 1 (eI .i64) ([x15.1] : List Int))]⟩ ?_
  obtain ⟨x16, hx16, h⟩ := bind_some h
  refine SRun.estep (x_append (f := (eI .i64)) (t := 24) (ti := ti24) (tj := ti2) (zs := [.int .i64 0]) (e := 2) (m := 1) (d := 6) (xv := .own 43) hx16 tbokGB rfl rfl rfl rfl (x_src_o (e := 2))) ?_
  refine SRun.ck tbokGB 1 ⟨64, [(4, .ref 11 0), (5, vl eLabel x2.1), (6, .own 44), (7, vl (eI .i64) x3.1), (8, vi x3.2), (9, vi s6.1)], [(11, .box (tc el01Source x15.2)), (44, oa 2 1 (eI .i64) x16)]⟩ ?_
  refine SRun.nil ?_
  obtain rfl := inj h
  exact q_bn (q_j (Le.rr [11, 44] [(44, 6)]))
  refine swp_reg ?_
  refine SRun.ck tbokGB 3 ⟨64, [(4, .ref 11 0), (5, vl eLabel x2.1), (6, .own 6), (7, vl (eI .i64) x3.1), (8, vi x3.2), (9, vi (w64 (s6.1 + 1)))], [(6, oa 2 1 (eI .i64) j8.1), (11, .box (tc el01Source j8.2))]⟩ ?_
  refine SRun.nil ?_
  obtain rfl := inj h
  exact q_l (Le.sub0)
  refine swp_exit ?_
  obtain rfl := inj h
  exact nx_e (q_re (q_bh (q_j (Le.sub0))))
  refine swp_seq ?_
  refine sr ?_
  refine SRun.ck tbokGB 1 ⟨64, [(4, .ref 11 0), (5, vl eLabel x2.1), (6, .own 6), (45, .ref 11 0)], [(6, oa 2 1 (eI .i64) j4.2), (11, .box (tc el01Source j4.1))]⟩ ?_
  obtain ⟨x17, hx17, h⟩ := bind_some h
  refine SRun.estep (xe ents65 (spec_l01Next_run j4.1 24 _ hx17)) ?_
  refine SRun.nx ?_
  refine swp_seqJ h (fun j18 => ⟨64, [(5, vl eLabel x2.1), (6, .own 6)], [(6, oa 2 1 (eI .i64) j18)]⟩) (fun v19 h => ?_) (fun j18 h => ?_)
  refine swp_blk (a := v19) ?_
  refine srk tbokGB ⟨64, [(4, .ref 11 0), (5, vl eLabel x2.1), (6, .own 6), (46, vi x17.1), (47, vb (x17.1 == 0))], [(6, oa 2 1 (eI .i64) j4.2), (11, .box (tc el01Source x17.2))]⟩ ?_
  refine swp_cd h (fun h => ?_) fun h => ?_
  refine swp_reg ?_
  refine SRun.ck tbokGB 2 ⟨64, [(5, vl eLabel x2.1), (49, .own 6), (50, .own 50)], [(6, oa 2 1 (eI .i64) j4.2), (50, oa 2 1 (eI .i64) ([4] : List Int))]⟩ ?_
  obtain ⟨x20, hx20, h⟩ := bind_some h
  refine SRun.estep (x_append (f := (eI .i64)) (t := 24) (ti := ti24) (tj := ti2) (zs := [.int .i64 0]) (e := 2) (m := 1) (d := 6) (xv := .own 50) hx20 tbokGB rfl rfl rfl rfl (x_src_o (e := 2))) ?_
  refine SRun.ck tbokGB 1 ⟨64, [(5, vl eLabel x2.1), (6, .own 51)], [(51, oa 2 1 (eI .i64) x20)]⟩ ?_
  refine SRun.nil ?_
  obtain rfl := inj h
  exact q_bn (q_j (Le.rr [51] [(51, 6)]))
  refine srk tbokGB ⟨64, [(4, .ref 11 0), (5, vl eLabel x2.1), (6, .own 6), (52, vb (x17.1 == 1))], [(6, oa 2 1 (eI .i64) j4.2), (11, .box (tc el01Source x17.2))]⟩ ?_
  refine swp_cd h (fun h => ?_) fun h => ?_
  refine srk tbokGB ⟨64, [(4, .ref 11 0), (5, vl eLabel x2.1), (6, .own 6), (56, vb (decide ((j4.2.length : Int) > 0)))], [(6, oa 2 1 (eI .i64) j4.2), (11, .box (tc el01Source x17.2))]⟩ ?_
  refine swp_cd h (fun h => ?_) fun h => ?_
  refine swp_reg ?_
  refine SRun.ck tbokGB 3 ⟨64, [(5, vl eLabel x2.1), (6, .own 6), (57, .own 6), (58, .ref 11 0), (59, .own 59)], [(6, oa 2 1 (eI .i64) j4.2), (11, .box (tc el01Source x17.2)), (59, oa 2 1 (eI .i64) ([(-1), 5] : List Int))]⟩ ?_
  refine SRun.le (Le.frz' (d := 59) (e := 2) (m := 1) (n := ([(-1), 5] : List Int).length) (es := ([(-1), 5] : List Int).map (eI .i64)) (by kernel_rfl) (by kernel_rfl)) ?_
  obtain ⟨x21, hx21, h⟩ := bind_some h
  refine SRun.estep (xe ents66 (spec_l01Pick_run x17.2 ([(-1), 5] : List Int) _ hx21)) ?_
  obtain ⟨x22, hx22, h⟩ := bind_some h
  refine SRun.ls (x_index_own (d := 6) (L := j4.2) (f := (eI .i64)) (ti := ti24) (tj := ti2) (e := 2) (e' := 2) (m := 1) (k := .i64) tbokGB rfl hx22) ?_
  refine SRun.estep (x_store_own (d := 6) (m := 1) (j := 0) (L := j4.2) (f := (eI .i64)) (x := x21.1) (z := x22) (ti := ti2) (e := 2) (ts := [.int .i64 x21.1]) (vs := [vi x21.1]) (v := vi x21.1) tbokGB rfl rfl hx22) ?_
  refine SRun.nil ?_
  obtain rfl := inj h
  exact q_bn (q_j (Le.sub0))
  refine swp_skip ?_
  obtain rfl := inj h
  exact q_bn (q_j (Le.sub0))
  refine swp_skip ?_
  obtain rfl := inj h
  exact q_bn (q_j (Le.sub0))
  refine srk tbokGB ⟨64, [(2, vl eLabel x2.1), (3, .own 6)], [(6, oa 2 1 (eI .i64) j18)]⟩ ?_
  refine swp_le (Le.frz' (d := 6) (e := 2) (m := 1) (n := j18.length) (es := j18.map (eI .i64)) (by kernel_rfl) (by kernel_rfl)) ?_
  refine swp_ret ?_
  obtain rfl := inj h
  exact q_fr (f2 ft ft)
theorem ents45 : Ents Try.prog 45 := ents_of Try.func45 (by kernel_rfl) rfl
noncomputable def spec_DrawIsClear (aCode : (List Int)) : Option ((List Label) × (List Int)) :=
  ((spec_l33Positions aCode).bind fun x1 => some (x1.1, x1.2))
theorem spec_DrawIsClear_run (aCode : (List Int)) (r : (List Label) × (List Int)) (h : spec_DrawIsClear aCode = some r) : SCall Try.prog 19 [.v (vl (eI .u8) aCode)] ⟨[.v (vl eLabel r.1), .v (vl (eI .i64) r.2)], [], true⟩ := by
  refine scall_in Try.func19 rfl [(.tmp 2), (.tmp 3)] rfl (fun r => ⟨[.v (vl eLabel r.1), .v (vl (eI .i64) r.2)], [], true⟩) (r := r) ?_
  unfold spec_DrawIsClear at h
  refine srk tbokGB ⟨8, [(0, vl (eI .u8) aCode)], []⟩ ?_
  refine sr ?_
  refine SRun.ck tbokGB 1 ⟨8, [(4, vl (eI .u8) aCode)], []⟩ ?_
  obtain ⟨x1, hx1, h⟩ := bind_some h
  refine SRun.ls (xc ents45 (spec_l33Positions_run aCode _ hx1)) ?_
  refine ckn tbokGB 4 ⟨8, [(2, vl eLabel x1.1), (3, vl (eI .i64) x1.2)], []⟩ ?_
  refine swp_ret ?_
  obtain rfl := inj h
  exact q_fr (f2 ft ft)
theorem ents19 : Ents Try.prog 19 := ents_of Try.func19 (by kernel_rfl) rfl
noncomputable def impl_areWithin (aList : (List Int)) (aLow : Int) (aHigh : Int) : Option (Bool) :=
  (((forN (aList.length : Int) (fun (i3 : Int) (_ : Unit) => ((at' aList i3).bind fun x7 => ((impl_within x7 aLow aHigh).bind fun x8 => (bif (!x8) then some (.inr (.inr false)) else some (.inl ()))))) (fun (_ : Unit) => .inl ()) 0 ())).bind (Sum.elim (fun (_ : Unit) => some true) some))
theorem impl_areWithin_run (aList : (List Int)) (aLow : Int) (aHigh : Int) (r : Bool) (h : impl_areWithin aList aLow aHigh = some r) : SCall Try.prog 67 [.v (vl (eI .i64) aList), .v (vi aLow), .v (vi aHigh)] ⟨[.v (vb r)], [], false⟩ := by
  refine scall_in Try.func67 rfl [(.tmp 6)] rfl (fun r => ⟨[.v (vb r)], [], false⟩) (r := r) ?_
  unfold impl_areWithin at h
  refine srk tbokGB ⟨21, [(0, vl (eI .i64) aList), (1, vi aLow), (2, vi aHigh)], []⟩ ?_
  refine swp_seq ?_
  refine srk tbokGB ⟨21, [(1, vi aLow), (2, vi aHigh), (9, vl (eI .i64) aList), (10, vi (aList.length : Int)), (11, vi 0)], []⟩ ?_
  refine swp_seqE (r := r) h (fun j1 => ⟨21, [], []⟩) (fun v2 h => ?_) (fun j1 h => ?_)
  refine swp_blk (a := v2) ?_
  refine swp_lpL (r := v2) (s := (0, ())) _ (fun s3 => ⟨21, [(1, vi aLow), (2, vi aHigh), (9, vl (eI .i64) aList), (10, vi (aList.length : Int)), (11, vi s3.1)], []⟩) _ (Le.sub0) h (fun s3 v4 h => ?_)
  refine srk tbokGB ⟨21, [(1, vi aLow), (2, vi aHigh), (9, vl (eI .i64) aList), (10, vi (aList.length : Int)), (11, vi s3.1), (12, vb (decide (s3.1 < (aList.length : Int))))], []⟩ ?_
  refine swp_seq ?_
  refine swp_cd h (fun h => ?_) fun h => ?_
  refine swp_skip ?_
  refine nx_n ?_
  refine swp_seq ?_
  refine swp_seqL (r := v4) h (fun j5 => ⟨21, [(1, vi aLow), (2, vi aHigh), (9, vl (eI .i64) aList), (10, vi (aList.length : Int)), (11, vi s3.1)], []⟩) (fun v6 h => ?_) (fun j5 h => ?_)
  refine swp_blk (a := v6) ?_
  refine sr ?_
  obtain ⟨x7, hx7, h⟩ := bind_some h
  refine SRun.ls (x_index (L := aList) (f := (eI .i64)) (ti := ti24) (tj := ti2) (e := 2) (k := .i64) tbokGB rfl hx7) ?_
  refine ckn tbokGB 2 ⟨21, [(1, vi aLow), (2, vi aHigh), (8, vi x7), (9, vl (eI .i64) aList), (10, vi (aList.length : Int)), (11, vi s3.1)], []⟩ ?_
  refine sr ?_
  refine SRun.ck tbokGB 3 ⟨21, [(1, vi aLow), (2, vi aHigh), (9, vl (eI .i64) aList), (10, vi (aList.length : Int)), (11, vi s3.1), (15, vi x7), (16, vi aLow), (17, vi aHigh)], []⟩ ?_
  obtain ⟨x8, hx8, h⟩ := bind_some h
  refine SRun.ls (xc ents52 (impl_within_run x7 aLow aHigh _ hx8)) ?_
  refine ckn tbokGB 1 ⟨21, [(1, vi aLow), (2, vi aHigh), (9, vl (eI .i64) aList), (10, vi (aList.length : Int)), (11, vi s3.1), (19, vb (!x8))], []⟩ ?_
  refine swp_cd h (fun h => ?_) fun h => ?_
  refine srk tbokGB ⟨21, [(6, vb false)], []⟩ ?_
  refine swp_ret ?_
  obtain rfl := inj h
  exact q_br (q_rr (q_rr (q_br (q_rr (q_fr (f1 fv))))))
  refine swp_skip ?_
  obtain rfl := inj h
  exact q_bn (q_l (Le.sub0))
  refine swp_reg ?_
  refine SRun.ck tbokGB 2 ⟨21, [(1, vi aLow), (2, vi aHigh), (9, vl (eI .i64) aList), (10, vi (aList.length : Int)), (11, vi (w64 (s3.1 + 1)))], []⟩ ?_
  refine SRun.nil ?_
  obtain rfl := inj h
  exact q_l (Le.sub0)
  refine swp_exit ?_
  obtain rfl := inj h
  exact nx_e (q_re (q_bh (q_l (Le.sub0))))
  refine srk tbokGB ⟨21, [(6, vb true)], []⟩ ?_
  refine swp_ret ?_
  obtain rfl := inj h
  exact q_fr (f1 fv)
theorem ents67 : Ents Try.prog 67 := ents_of Try.func67 (by kernel_rfl) rfl
noncomputable def impl_placementCode (aList : (List Label)) (aPlacement : (List Int)) : Option (Int) :=
  ((((impl_AreLabels aList).bind fun x3 => (bif (!x3) then some (.inr 1) else (((bif ((aPlacement.length : Int) != (aList.length : Int)) then some true else ((impl_areWithin aPlacement 0 4).bind fun x4 => some (!x4)))).bind fun (j5 : Bool) => (bif j5 then some (.inr 2) else some (.inl ())))))).bind (Sum.elim (fun (_ : Unit) => some 0) some))
theorem impl_placementCode_run (aList : (List Label)) (aPlacement : (List Int)) (r : Int) (h : impl_placementCode aList aPlacement = some r) : SCall Try.prog 46 [.v (vl eLabel aList), .v (vl (eI .i64) aPlacement)] ⟨[.v (vi r)], [], false⟩ := by
  refine scall_in Try.func46 rfl [(.tmp 4)] rfl (fun r => ⟨[.v (vi r)], [], false⟩) (r := r) ?_
  unfold impl_placementCode at h
  refine srk tbokGB ⟨20, [(0, vl eLabel aList), (1, vl (eI .i64) aPlacement)], []⟩ ?_
  refine swp_seq ?_
  refine swp_seqE (r := r) h (fun j1 => ⟨20, [], []⟩) (fun v2 h => ?_) (fun j1 h => ?_)
  refine swp_blk (a := v2) ?_
  refine sr ?_
  refine SRun.ck tbokGB 1 ⟨20, [(0, vl eLabel aList), (1, vl (eI .i64) aPlacement), (6, vl eLabel aList)], []⟩ ?_
  obtain ⟨x3, hx3, h⟩ := bind_some h
  refine SRun.ls (xc ents28 (impl_AreLabels_run aList _ hx3)) ?_
  refine ckn tbokGB 2 ⟨20, [(0, vl eLabel aList), (1, vl (eI .i64) aPlacement), (5, vb (!x3))], []⟩ ?_
  refine swp_cd h (fun h => ?_) fun h => ?_
  refine srk tbokGB ⟨20, [(4, vi 1)], []⟩ ?_
  refine swp_ret ?_
  obtain rfl := inj h
  exact q_br (q_rr (q_fr (f1 fv)))
  refine swp_seq ?_
  refine swp_regJ h (fun j5 => ⟨20, [(9, vb j5)], []⟩) (fun v6 h => ?_) (fun j5 h => ?_)
  refine SRun.ck tbokGB 6 ⟨20, [(1, vl (eI .i64) aPlacement), (15, vb ((aPlacement.length : Int) != (aList.length : Int)))], []⟩ ?_
  refine SRun.cu [(15, fun b => b)] h (fun h => ?_) fun h => ?_
  refine SRun.ck tbokGB 5 ⟨20, [(9, vb true)], []⟩ ?_
  refine SRun.nil ?_
  obtain rfl := inj h
  exact Le.sub0
  refine SRun.ck tbokGB 1 ⟨20, [(15, vb false), (16, vl (eI .i64) aPlacement)], []⟩ ?_
  obtain ⟨x4, hx4, h⟩ := bind_some h
  refine SRun.ls (xc ents67 (impl_areWithin_run aPlacement 0 4 _ hx4)) ?_
  refine SRun.ck tbokGB 3 ⟨20, [(9, vb (!x4))], []⟩ ?_
  refine SRun.nil ?_
  obtain rfl := inj h
  exact Le.sub0
  refine swp_cd h (fun h => ?_) fun h => ?_
  refine srk tbokGB ⟨20, [(4, vi 2)], []⟩ ?_
  refine swp_ret ?_
  obtain rfl := inj h
  exact q_br (q_rr (q_fr (f1 fv)))
  refine swp_skip ?_
  obtain rfl := inj h
  exact q_bn (q_l (Le.sub0))
  refine srk tbokGB ⟨20, [(4, vi 0)], []⟩ ?_
  refine swp_ret ?_
  obtain rfl := inj h
  exact q_fr (f1 fv)
theorem ents46 : Ents Try.prog 46 := ents_of Try.func46 (by kernel_rfl) rfl
noncomputable def impl_IsClear (aList : (List Label)) (aPlacement : (List Int)) : Option (Bool × Int) :=
  ((impl_placementCode aList aPlacement).bind fun x1 => (bif (x1 != 0) then some (false, x1) else ((impl_isClear aList aPlacement).bind fun x2 => some (x2, 0))))
theorem impl_IsClear_run (aList : (List Label)) (aPlacement : (List Int)) (r : Bool × Int) (h : impl_IsClear aList aPlacement = some r) : SCall Try.prog 20 [.v (vl eLabel aList), .v (vl (eI .i64) aPlacement)] ⟨[.v (vb r.1), .v (vi r.2)], [], false⟩ := by
  refine scall_in Try.func20 rfl [(.tmp 4), (.tmp 5)] rfl (fun r => ⟨[.v (vb r.1), .v (vi r.2)], [], false⟩) (r := r) ?_
  unfold impl_IsClear at h
  refine srk tbokGB ⟨16, [(0, vl eLabel aList), (1, vl (eI .i64) aPlacement)], []⟩ ?_
  refine swp_seq ?_
  refine sr ?_
  refine SRun.ck tbokGB 2 ⟨16, [(0, vl eLabel aList), (1, vl (eI .i64) aPlacement), (7, vl eLabel aList), (8, vl (eI .i64) aPlacement)], []⟩ ?_
  obtain ⟨x1, hx1, h⟩ := bind_some h
  refine SRun.ls (xc ents46 (impl_placementCode_run aList aPlacement _ hx1)) ?_
  refine ckn tbokGB 1 ⟨16, [(0, vl eLabel aList), (1, vl (eI .i64) aPlacement), (6, vi x1)], []⟩ ?_
  refine srk tbokGB ⟨16, [(0, vl eLabel aList), (1, vl (eI .i64) aPlacement), (6, vi x1), (11, vb (x1 != 0))], []⟩ ?_
  refine swp_cd h (fun h => ?_) fun h => ?_
  refine srk tbokGB ⟨16, [(4, vb false), (5, vi x1)], []⟩ ?_
  refine swp_ret ?_
  obtain rfl := inj h
  exact nx_r (q_fr (f2 fv fv))
  refine swp_skip ?_
  refine nx_n ?_
  refine sr ?_
  refine SRun.ck tbokGB 2 ⟨16, [(13, vl eLabel aList), (14, vl (eI .i64) aPlacement)], []⟩ ?_
  obtain ⟨x2, hx2, h⟩ := bind_some h
  refine SRun.ls (xc ents42 (impl_isClear_run aList aPlacement _ hx2)) ?_
  refine ckn tbokGB 2 ⟨16, [(4, vb x2), (5, vi 0)], []⟩ ?_
  refine swp_ret ?_
  obtain rfl := inj h
  exact q_fr (f2 fv fv)
theorem ents20 : Ents Try.prog 20 := ents_of Try.func20 (by kernel_rfl) rfl
noncomputable def spec_l33Placement (aList : (List Label)) (aPlacement : (List Int)) : Option (Int) :=
  ((spec_AreLabels aList).bind fun x1 => (bif (!x1) then some 1 else (bif ((aPlacement.length : Int) != (aList.length : Int)) then some 2 else (((forN (aPlacement.length : Int) (fun (i4 : Int) (_ : Unit) => ((at' aPlacement i4).bind fun x8 => ((spec_l01In x8 0 4).bind fun x9 => (bif (!x9) then some (.inr (.inr 2)) else some (.inl ()))))) (fun (_ : Unit) => .inl ()) 0 ())).bind (Sum.elim (fun (_ : Unit) => some 0) some)))))
theorem spec_l33Placement_run (aList : (List Label)) (aPlacement : (List Int)) (r : Int) (h : spec_l33Placement aList aPlacement = some r) : SCall Try.prog 47 [.v (vl eLabel aList), .v (vl (eI .i64) aPlacement)] ⟨[.v (vi r)], [], false⟩ := by
  refine scall_in Try.func47 rfl [(.tmp 4)] rfl (fun r => ⟨[.v (vi r)], [], false⟩) (r := r) ?_
  unfold spec_l33Placement at h
  refine srk tbokGB ⟨26, [(0, vl eLabel aList), (1, vl (eI .i64) aPlacement)], []⟩ ?_
  refine swp_seq ?_
  refine sr ?_
  refine SRun.ck tbokGB 1 ⟨26, [(0, vl eLabel aList), (1, vl (eI .i64) aPlacement), (6, vl eLabel aList)], []⟩ ?_
  obtain ⟨x1, hx1, h⟩ := bind_some h
  refine SRun.ls (xc ents29 (spec_AreLabels_run aList _ hx1)) ?_
  refine ckn tbokGB 1 ⟨26, [(0, vl eLabel aList), (1, vl (eI .i64) aPlacement), (8, vb (!x1))], []⟩ ?_
  refine swp_cd h (fun h => ?_) fun h => ?_
  refine srk tbokGB ⟨26, [(4, vi 1)], []⟩ ?_
  refine swp_ret ?_
  obtain rfl := inj h
  exact nx_r (q_fr (f1 fv))
  refine swp_skip ?_
  refine nx_n ?_
  refine swp_seq ?_
  refine srk tbokGB ⟨26, [(1, vl (eI .i64) aPlacement), (13, vb ((aPlacement.length : Int) != (aList.length : Int)))], []⟩ ?_
  refine swp_cd h (fun h => ?_) fun h => ?_
  refine srk tbokGB ⟨26, [(4, vi 2)], []⟩ ?_
  refine swp_ret ?_
  obtain rfl := inj h
  exact nx_r (q_fr (f1 fv))
  refine swp_skip ?_
  refine nx_n ?_
  refine swp_seq ?_
  refine srk tbokGB ⟨26, [(1, vl (eI .i64) aPlacement), (5, vi 0)], []⟩ ?_
  refine swp_seqE (r := r) h (fun j2 => ⟨26, [], []⟩) (fun v3 h => ?_) (fun j2 h => ?_)
  refine swp_blk (a := v3) ?_
  refine swp_lpL (r := v3) (s := (0, ())) _ (fun s4 => ⟨26, [(1, vl (eI .i64) aPlacement), (5, vi s4.1)], []⟩) _ (Le.sub0) h (fun s4 v5 h => ?_)
  refine swp_seq ?_
  refine srk tbokGB ⟨26, [(1, vl (eI .i64) aPlacement), (5, vi s4.1), (17, vb (decide (s4.1 < (aPlacement.length : Int))))], []⟩ ?_
  refine swp_cd h (fun h => ?_) fun h => ?_
  refine swp_skip ?_
  refine nx_n ?_
  refine swp_seq ?_
  refine swp_seqL (r := v5) h (fun j6 => ⟨26, [(1, vl (eI .i64) aPlacement), (5, vi s4.1)], []⟩) (fun v7 h => ?_) (fun j6 h => ?_)
  refine swp_blk (a := v7) ?_
  refine sr ?_
  refine SRun.ck tbokGB 2 ⟨26, [(1, vl (eI .i64) aPlacement), (5, vi s4.1), (20, vl (eI .i64) aPlacement), (21, vi s4.1)], []⟩ ?_
  obtain ⟨x8, hx8, h⟩ := bind_some h
  refine SRun.ls (x_index (L := aPlacement) (f := (eI .i64)) (ti := ti24) (tj := ti2) (e := 2) (k := .i64) tbokGB rfl hx8) ?_
  refine SRun.ck tbokGB 1 ⟨26, [(1, vl (eI .i64) aPlacement), (5, vi s4.1), (23, vi x8)], []⟩ ?_
  obtain ⟨x9, hx9, h⟩ := bind_some h
  refine SRun.ls (xc ents55 (spec_l01In_run x8 0 4 _ hx9)) ?_
  refine ckn tbokGB 1 ⟨26, [(1, vl (eI .i64) aPlacement), (5, vi s4.1), (25, vb (!x9))], []⟩ ?_
  refine swp_cd h (fun h => ?_) fun h => ?_
  refine srk tbokGB ⟨26, [(4, vi 2)], []⟩ ?_
  refine swp_ret ?_
  obtain rfl := inj h
  exact q_br (q_rr (q_rr (q_br (q_rr (q_fr (f1 fv))))))
  refine swp_skip ?_
  obtain rfl := inj h
  exact q_bn (q_l (Le.sub0))
  refine swp_reg ?_
  refine SRun.ck tbokGB 3 ⟨26, [(1, vl (eI .i64) aPlacement), (5, vi (w64 (s4.1 + 1)))], []⟩ ?_
  refine SRun.nil ?_
  obtain rfl := inj h
  exact q_l (Le.sub0)
  refine swp_exit ?_
  obtain rfl := inj h
  exact nx_e (q_re (q_bh (q_l (Le.sub0))))
  refine srk tbokGB ⟨26, [(4, vi 0)], []⟩ ?_
  refine swp_ret ?_
  obtain rfl := inj h
  exact q_fr (f1 fv)
theorem ents47 : Ents Try.prog 47 := ents_of Try.func47 (by kernel_rfl) rfl
noncomputable def spec_IsClear (aList : (List Label)) (aPlacement : (List Int)) : Option (Bool × Int) :=
  ((spec_l33Placement aList aPlacement).bind fun x1 => (bif (x1 != 0) then some (false, x1) else (((forN (aList.length : Int) (fun (i4 : Int) (_ : Unit) => ((at' aPlacement i4).bind fun x8 => ((spec_l33Fits aList aPlacement i4 x8).bind fun x9 => (bif (!x9) then some (.inr (.inr (false, 0))) else some (.inl ()))))) (fun (_ : Unit) => .inl ()) 0 ())).bind (Sum.elim (fun (_ : Unit) => some (true, 0)) some))))
theorem spec_IsClear_run (aList : (List Label)) (aPlacement : (List Int)) (r : Bool × Int) (h : spec_IsClear aList aPlacement = some r) : SCall Try.prog 21 [.v (vl eLabel aList), .v (vl (eI .i64) aPlacement)] ⟨[.v (vb r.1), .v (vi r.2)], [], false⟩ := by
  refine scall_in Try.func21 rfl [(.tmp 4), (.tmp 5)] rfl (fun r => ⟨[.v (vb r.1), .v (vi r.2)], [], false⟩) (r := r) ?_
  unfold spec_IsClear at h
  refine srk tbokGB ⟨29, [(0, vl eLabel aList), (1, vl (eI .i64) aPlacement)], []⟩ ?_
  refine sr ?_
  refine SRun.ck tbokGB 2 ⟨29, [(0, vl eLabel aList), (1, vl (eI .i64) aPlacement), (8, vl eLabel aList), (9, vl (eI .i64) aPlacement)], []⟩ ?_
  obtain ⟨x1, hx1, h⟩ := bind_some h
  refine SRun.ls (xc ents47 (spec_l33Placement_run aList aPlacement _ hx1)) ?_
  refine ckn tbokGB 1 ⟨29, [(0, vl eLabel aList), (1, vl (eI .i64) aPlacement), (6, vi x1)], []⟩ ?_
  refine swp_seq ?_
  refine srk tbokGB ⟨29, [(0, vl eLabel aList), (1, vl (eI .i64) aPlacement), (6, vi x1), (12, vb (x1 != 0))], []⟩ ?_
  refine swp_cd h (fun h => ?_) fun h => ?_
  refine srk tbokGB ⟨29, [(4, vb false), (5, vi x1)], []⟩ ?_
  refine swp_ret ?_
  obtain rfl := inj h
  exact nx_r (q_fr (f2 fv fv))
  refine swp_skip ?_
  refine nx_n ?_
  refine swp_seq ?_
  refine srk tbokGB ⟨29, [(0, vl eLabel aList), (1, vl (eI .i64) aPlacement), (7, vi 0)], []⟩ ?_
  refine swp_seqE (r := r) h (fun j2 => ⟨29, [], []⟩) (fun v3 h => ?_) (fun j2 h => ?_)
  refine swp_blk (a := v3) ?_
  refine swp_lpL (r := v3) (s := (0, ())) _ (fun s4 => ⟨29, [(0, vl eLabel aList), (1, vl (eI .i64) aPlacement), (7, vi s4.1)], []⟩) _ (Le.sub0) h (fun s4 v5 h => ?_)
  refine swp_seq ?_
  refine srk tbokGB ⟨29, [(0, vl eLabel aList), (1, vl (eI .i64) aPlacement), (7, vi s4.1), (17, vb (decide (s4.1 < (aList.length : Int))))], []⟩ ?_
  refine swp_cd h (fun h => ?_) fun h => ?_
  refine swp_skip ?_
  refine nx_n ?_
  refine swp_seq ?_
  refine swp_seqL (r := v5) h (fun j6 => ⟨29, [(0, vl eLabel aList), (1, vl (eI .i64) aPlacement), (7, vi s4.1)], []⟩) (fun v7 h => ?_) (fun j6 h => ?_)
  refine swp_blk (a := v7) ?_
  refine sr ?_
  refine SRun.ck tbokGB 5 ⟨29, [(0, vl eLabel aList), (1, vl (eI .i64) aPlacement), (7, vi s4.1), (20, vl eLabel aList), (21, vl (eI .i64) aPlacement), (22, vi s4.1), (23, vl (eI .i64) aPlacement), (24, vi s4.1)], []⟩ ?_
  obtain ⟨x8, hx8, h⟩ := bind_some h
  refine SRun.ls (x_index (L := aPlacement) (f := (eI .i64)) (ti := ti24) (tj := ti2) (e := 2) (k := .i64) tbokGB rfl hx8) ?_
  refine SRun.ck tbokGB 1 ⟨29, [(0, vl eLabel aList), (1, vl (eI .i64) aPlacement), (7, vi s4.1), (20, vl eLabel aList), (21, vl (eI .i64) aPlacement), (22, vi s4.1), (26, vi x8)], []⟩ ?_
  obtain ⟨x9, hx9, h⟩ := bind_some h
  refine SRun.ls (xc ents38 (spec_l33Fits_run aList aPlacement s4.1 x8 _ hx9)) ?_
  refine ckn tbokGB 1 ⟨29, [(0, vl eLabel aList), (1, vl (eI .i64) aPlacement), (7, vi s4.1), (28, vb (!x9))], []⟩ ?_
  refine swp_cd h (fun h => ?_) fun h => ?_
  refine srk tbokGB ⟨29, [(4, vb false), (5, vi 0)], []⟩ ?_
  refine swp_ret ?_
  obtain rfl := inj h
  exact q_br (q_rr (q_rr (q_br (q_rr (q_fr (f2 fv fv))))))
  refine swp_skip ?_
  obtain rfl := inj h
  exact q_bn (q_l (Le.sub0))
  refine swp_reg ?_
  refine SRun.ck tbokGB 3 ⟨29, [(0, vl eLabel aList), (1, vl (eI .i64) aPlacement), (7, vi (w64 (s4.1 + 1)))], []⟩ ?_
  refine SRun.nil ?_
  obtain rfl := inj h
  exact q_l (Le.sub0)
  refine swp_exit ?_
  obtain rfl := inj h
  exact nx_e (q_re (q_bh (q_l (Le.sub0))))
  refine srk tbokGB ⟨29, [(4, vb true), (5, vi 0)], []⟩ ?_
  refine swp_ret ?_
  obtain rfl := inj h
  exact q_fr (f2 fv fv)
theorem ents21 : Ents Try.prog 21 := ents_of Try.func21 (by kernel_rfl) rfl
noncomputable def impl_ScoreOf (aList : (List Label)) (aPlacement : (List Int)) : Option (Int × Int) :=
  ((impl_placementCode aList aPlacement).bind fun x1 => (bif (x1 != 0) then some (0, x1) else ((impl_score aList aPlacement).bind fun x2 => some (x2, 0))))
theorem impl_ScoreOf_run (aList : (List Label)) (aPlacement : (List Int)) (r : Int × Int) (h : impl_ScoreOf aList aPlacement = some r) : SCall Try.prog 22 [.v (vl eLabel aList), .v (vl (eI .i64) aPlacement)] ⟨[.v (vi r.1), .v (vi r.2)], [], false⟩ := by
  refine scall_in Try.func22 rfl [(.tmp 4), (.tmp 5)] rfl (fun r => ⟨[.v (vi r.1), .v (vi r.2)], [], false⟩) (r := r) ?_
  unfold impl_ScoreOf at h
  refine srk tbokGB ⟨16, [(0, vl eLabel aList), (1, vl (eI .i64) aPlacement)], []⟩ ?_
  refine swp_seq ?_
  refine sr ?_
  refine SRun.ck tbokGB 2 ⟨16, [(0, vl eLabel aList), (1, vl (eI .i64) aPlacement), (7, vl eLabel aList), (8, vl (eI .i64) aPlacement)], []⟩ ?_
  obtain ⟨x1, hx1, h⟩ := bind_some h
  refine SRun.ls (xc ents46 (impl_placementCode_run aList aPlacement _ hx1)) ?_
  refine ckn tbokGB 1 ⟨16, [(0, vl eLabel aList), (1, vl (eI .i64) aPlacement), (6, vi x1)], []⟩ ?_
  refine srk tbokGB ⟨16, [(0, vl eLabel aList), (1, vl (eI .i64) aPlacement), (6, vi x1), (11, vb (x1 != 0))], []⟩ ?_
  refine swp_cd h (fun h => ?_) fun h => ?_
  refine srk tbokGB ⟨16, [(4, vi 0), (5, vi x1)], []⟩ ?_
  refine swp_ret ?_
  obtain rfl := inj h
  exact nx_r (q_fr (f2 fv fv))
  refine swp_skip ?_
  refine nx_n ?_
  refine sr ?_
  refine SRun.ck tbokGB 2 ⟨16, [(13, vl eLabel aList), (14, vl (eI .i64) aPlacement)], []⟩ ?_
  obtain ⟨x2, hx2, h⟩ := bind_some h
  refine SRun.ls (xc ents34 (impl_score_run aList aPlacement _ hx2)) ?_
  refine ckn tbokGB 2 ⟨16, [(4, vi x2), (5, vi 0)], []⟩ ?_
  refine swp_ret ?_
  obtain rfl := inj h
  exact q_fr (f2 fv fv)
theorem ents22 : Ents Try.prog 22 := ents_of Try.func22 (by kernel_rfl) rfl
noncomputable def spec_ScoreOf (aList : (List Label)) (aPlacement : (List Int)) : Option (Int × Int) :=
  ((spec_l33Placement aList aPlacement).bind fun x1 => (bif (x1 != 0) then some (0, x1) else ((spec_l33Score aList aPlacement).bind fun x2 => some (x2, 0))))
theorem spec_ScoreOf_run (aList : (List Label)) (aPlacement : (List Int)) (r : Int × Int) (h : spec_ScoreOf aList aPlacement = some r) : SCall Try.prog 23 [.v (vl eLabel aList), .v (vl (eI .i64) aPlacement)] ⟨[.v (vi r.1), .v (vi r.2)], [], false⟩ := by
  refine scall_in Try.func23 rfl [(.tmp 4), (.tmp 5)] rfl (fun r => ⟨[.v (vi r.1), .v (vi r.2)], [], false⟩) (r := r) ?_
  unfold spec_ScoreOf at h
  refine srk tbokGB ⟨16, [(0, vl eLabel aList), (1, vl (eI .i64) aPlacement)], []⟩ ?_
  refine sr ?_
  refine SRun.ck tbokGB 2 ⟨16, [(0, vl eLabel aList), (1, vl (eI .i64) aPlacement), (7, vl eLabel aList), (8, vl (eI .i64) aPlacement)], []⟩ ?_
  obtain ⟨x1, hx1, h⟩ := bind_some h
  refine SRun.ls (xc ents47 (spec_l33Placement_run aList aPlacement _ hx1)) ?_
  refine ckn tbokGB 1 ⟨16, [(0, vl eLabel aList), (1, vl (eI .i64) aPlacement), (6, vi x1)], []⟩ ?_
  refine swp_seq ?_
  refine srk tbokGB ⟨16, [(0, vl eLabel aList), (1, vl (eI .i64) aPlacement), (6, vi x1), (11, vb (x1 != 0))], []⟩ ?_
  refine swp_cd h (fun h => ?_) fun h => ?_
  refine srk tbokGB ⟨16, [(4, vi 0), (5, vi x1)], []⟩ ?_
  refine swp_ret ?_
  obtain rfl := inj h
  exact nx_r (q_fr (f2 fv fv))
  refine swp_skip ?_
  refine nx_n ?_
  refine sr ?_
  refine SRun.ck tbokGB 2 ⟨16, [(13, vl eLabel aList), (14, vl (eI .i64) aPlacement)], []⟩ ?_
  obtain ⟨x2, hx2, h⟩ := bind_some h
  refine SRun.ls (xc ents48 (spec_l33Score_run aList aPlacement _ hx2)) ?_
  refine ckn tbokGB 2 ⟨16, [(4, vi x2), (5, vi 0)], []⟩ ?_
  refine swp_ret ?_
  obtain rfl := inj h
  exact q_fr (f2 fv fv)
theorem ents23 : Ents Try.prog 23 := ents_of Try.func23 (by kernel_rfl) rfl
noncomputable def impl_ClashesOf (aList : (List Label)) (aPlacement : (List Int)) : Option ((List (List Int)) × Int) :=
  ((impl_placementCode aList aPlacement).bind fun x1 => (bif (x1 != 0) then some (([] : List (List Int)), x1) else (((forS (aList.length : Int) (fun (i4 : Int) (s4 : (List (List Int))) => (forS (aList.length : Int) (fun (i8 : Int) (s8 : (List (List Int))) => ((impl_clash aList aPlacement i4 i8).bind fun x12 => (bif x12 then ((app' s8 ([([i4, i8] : List Int)] : List (List Int))).bind fun x13 => some x13) else some s8))) (fun (s8 : (List (List Int))) => s8) (w64 (i4 + 1)) s4)) (fun (s4 : (List (List Int))) => s4) 0 ([] : List (List Int)))).bind fun (j2 : (List (List Int))) => some (j2, 0))))
theorem impl_ClashesOf_run (aList : (List Label)) (aPlacement : (List Int)) (r : (List (List Int)) × Int) (h : impl_ClashesOf aList aPlacement = some r) : SCall Try.prog 24 [.v (vl eLabel aList), .v (vl (eI .i64) aPlacement)] ⟨[.deep 24 1 r.1.length [(.sl 2 1 [.flat])] (r.1.map (eL (eI .i64))), .v (vi r.2)], [], false⟩ := by
  refine scall_in Try.func24 rfl [(.tmp 4), (.tmp 5)] rfl (fun r => ⟨[.deep 24 1 r.1.length [(.sl 2 1 [.flat])] (r.1.map (eL (eI .i64))), .v (vi r.2)], [], false⟩) (r := r) ?_
  unfold impl_ClashesOf at h
  refine sr ?_
  refine SRun.ck tbokGB 1 ⟨42, [(4, .own 4), (0, vl eLabel aList), (1, vl (eI .i64) aPlacement)], [(4, oa 24 1 (eL (eI .i64)) ([] : List (List Int)))]⟩ ?_
  refine SRun.le (Le.deep0 (d := 4) (e := 24) (m := 1) (ss := [(.sl 2 1 [.flat])]) (by kernel_rfl) (by kernel_rfl)) ?_
  refine ckn tbokGB 1 ⟨42, [(0, vl eLabel aList), (1, vl (eI .i64) aPlacement)], []⟩ ?_
  refine swp_seq ?_
  refine sr ?_
  refine SRun.ck tbokGB 2 ⟨42, [(0, vl eLabel aList), (1, vl (eI .i64) aPlacement), (10, vl eLabel aList), (11, vl (eI .i64) aPlacement)], []⟩ ?_
  obtain ⟨x1, hx1, h⟩ := bind_some h
  refine SRun.ls (xc ents46 (impl_placementCode_run aList aPlacement _ hx1)) ?_
  refine ckn tbokGB 1 ⟨42, [(0, vl eLabel aList), (1, vl (eI .i64) aPlacement), (6, vi x1)], []⟩ ?_
  refine srk tbokGB ⟨42, [(0, vl eLabel aList), (1, vl (eI .i64) aPlacement), (6, vi x1), (14, vb (x1 != 0))], []⟩ ?_
  refine swp_cd h (fun h => ?_) fun h => ?_
  refine sr ?_
  refine SRun.ck tbokGB 2 ⟨42, [(4, .own 4), (15, vi x1), (0, vl eLabel aList), (1, vl (eI .i64) aPlacement), (6, vi x1), (14, vb (x1 != 0))], [(4, oa 24 1 (eL (eI .i64)) ([] : List (List Int)))]⟩ ?_
  refine SRun.le (Le.deep0 (d := 4) (e := 24) (m := 1) (ss := [(.sl 2 1 [.flat])]) (by kernel_rfl) (by kernel_rfl)) ?_
  refine ckn tbokGB 1 ⟨42, [(4, .own 4), (5, vi x1)], [(4, .deep 24 1 ([] : List (List Int)).length [(.sl 2 1 [.flat])] (([] : List (List Int)).map (eL (eI .i64))))]⟩ ?_
  refine swp_ret ?_
  obtain rfl := inj h
  exact nx_r (q_fr (f2 (finD (d := 4) (holds_t (by kernel_rfl)) (by kernel_rfl) (by kernel_rfl)) fv))
  refine swp_skip ?_
  refine nx_n ?_
  refine sr ?_
  refine SRun.ck tbokGB 1 ⟨42, [(7, .own 7), (0, vl eLabel aList), (1, vl (eI .i64) aPlacement), (6, vi x1), (14, vb (x1 != 0))], [(7, oa 24 1 (eL (eI .i64)) ([] : List (List Int)))]⟩ ?_
  refine SRun.le (Le.deep0 (d := 7) (e := 24) (m := 1) (ss := [(.sl 2 1 [.flat])]) (by kernel_rfl) (by kernel_rfl)) ?_
  refine SRun.nx ?_
  refine swp_seq ?_
  refine srk tbokGB ⟨42, [(0, vl eLabel aList), (1, vl (eI .i64) aPlacement), (7, .own 7), (17, vi (aList.length : Int)), (18, vi 0)], [(7, .deep 24 1 ([] : List (List Int)).length [(.sl 2 1 [.flat])] (([] : List (List Int)).map (eL (eI .i64))))]⟩ ?_
  refine swp_seqJ h (fun j2 => ⟨42, [(7, .own 7)], [(7, .deep 24 1 j2.length [(.sl 2 1 [.flat])] (j2.map (eL (eI .i64))))]⟩) (fun v3 h => ?_) (fun j2 h => ?_)
  refine swp_blk (a := v3) ?_
  refine swp_lpL (r := v3) (s := (0, ([] : List (List Int)))) _ (fun s4 => ⟨42, [(0, vl eLabel aList), (1, vl (eI .i64) aPlacement), (7, .own 7), (17, vi (aList.length : Int)), (18, vi s4.1)], [(7, .deep 24 1 s4.2.length [(.sl 2 1 [.flat])] (s4.2.map (eL (eI .i64))))]⟩) _ (Le.sub0) h (fun s4 v5 h => ?_)
  refine srk tbokGB ⟨42, [(0, vl eLabel aList), (1, vl (eI .i64) aPlacement), (7, .own 7), (17, vi (aList.length : Int)), (18, vi s4.1), (19, vb (decide (s4.1 < (aList.length : Int))))], [(7, .deep 24 1 s4.2.length [(.sl 2 1 [.flat])] (s4.2.map (eL (eI .i64))))]⟩ ?_
  refine swp_seq ?_
  refine swp_cd h (fun h => ?_) fun h => ?_
  refine swp_skip ?_
  refine nx_n ?_
  refine swp_seq ?_
  refine swp_seqJ h (fun j6 => ⟨42, [(0, vl eLabel aList), (1, vl (eI .i64) aPlacement), (7, .own 7), (17, vi (aList.length : Int)), (18, vi s4.1)], [(7, .deep 24 1 j6.length [(.sl 2 1 [.flat])] (j6.map (eL (eI .i64))))]⟩) (fun v7 h => ?_) (fun j6 h => ?_)
  refine swp_blk (a := v7) ?_
  refine srk tbokGB ⟨42, [(0, vl eLabel aList), (1, vl (eI .i64) aPlacement), (7, .own 7), (8, vi s4.1), (17, vi (aList.length : Int)), (18, vi s4.1)], [(7, .deep 24 1 s4.2.length [(.sl 2 1 [.flat])] (s4.2.map (eL (eI .i64))))]⟩ ?_
  refine srk tbokGB ⟨42, [(0, vl eLabel aList), (1, vl (eI .i64) aPlacement), (7, .own 7), (8, vi s4.1), (9, vi (w64 (s4.1 + 1))), (17, vi (aList.length : Int)), (18, vi s4.1)], [(7, .deep 24 1 s4.2.length [(.sl 2 1 [.flat])] (s4.2.map (eL (eI .i64))))]⟩ ?_
  refine swp_blk (a := v7) ?_
  refine swp_lpL (r := v7) (s := ((w64 (s4.1 + 1)), s4.2)) _ (fun s8 => ⟨42, [(0, vl eLabel aList), (1, vl (eI .i64) aPlacement), (7, .own 7), (8, vi s4.1), (9, vi s8.1), (17, vi (aList.length : Int)), (18, vi s4.1)], [(7, .deep 24 1 s8.2.length [(.sl 2 1 [.flat])] (s8.2.map (eL (eI .i64))))]⟩) _ (Le.sub0) h (fun s8 v9 h => ?_)
  refine swp_seq ?_
  refine srk tbokGB ⟨42, [(0, vl eLabel aList), (1, vl (eI .i64) aPlacement), (7, .own 7), (8, vi s4.1), (9, vi s8.1), (17, vi (aList.length : Int)), (18, vi s4.1), (26, vb (decide (s8.1 < (aList.length : Int))))], [(7, .deep 24 1 s8.2.length [(.sl 2 1 [.flat])] (s8.2.map (eL (eI .i64))))]⟩ ?_
  refine swp_cd h (fun h => ?_) fun h => ?_
  refine swp_skip ?_
  refine nx_n ?_
  refine swp_seq ?_
  refine swp_seqJ h (fun j10 => ⟨42, [(0, vl eLabel aList), (1, vl (eI .i64) aPlacement), (7, .own 7), (8, vi s4.1), (9, vi s8.1), (17, vi (aList.length : Int)), (18, vi s4.1)], [(7, .deep 24 1 j10.length [(.sl 2 1 [.flat])] (j10.map (eL (eI .i64))))]⟩) (fun v11 h => ?_) (fun j10 h => ?_)
  refine swp_blk (a := v11) ?_
  refine sr ?_
  refine SRun.ck tbokGB 4 ⟨42, [(0, vl eLabel aList), (1, vl (eI .i64) aPlacement), (7, .own 7), (8, vi s4.1), (9, vi s8.1), (17, vi (aList.length : Int)), (18, vi s4.1), (29, vl eLabel aList), (30, vl (eI .i64) aPlacement), (31, vi s4.1), (32, vi s8.1)], [(7, .deep 24 1 s8.2.length [(.sl 2 1 [.flat])] (s8.2.map (eL (eI .i64))))]⟩ ?_
  obtain ⟨x12, hx12, h⟩ := bind_some h
  refine SRun.ls (xc ents49 (impl_clash_run aList aPlacement s4.1 s8.1 _ hx12)) ?_
  refine SRun.nx ?_
  refine swp_cd h (fun h => ?_) fun h => ?_
  refine swp_reg ?_
  refine SRun.ck tbokGB 4 ⟨42, [(0, vl eLabel aList), (1, vl (eI .i64) aPlacement), (8, vi s4.1), (9, vi s8.1), (17, vi (aList.length : Int)), (18, vi s4.1), (34, .own 7), (37, .own 37)], [(7, .deep 24 1 s8.2.length [(.sl 2 1 [.flat])] (s8.2.map (eL (eI .i64)))), (37, oa 2 1 (eI .i64) ([s4.1, s8.1] : List Int))]⟩ ?_
  refine SRun.estep (x_build_deep (ti := ti43) (tj := ti24) (e := 24) (m := 1) (zs := [.slice none 0 0]) (v := .own 37) (cs := [.own 37]) (ss := [(.sl 2 1 [.flat])]) (ts := [.sl ([s4.1, s8.1] : List Int).length (([s4.1, s8.1] : List Int).map (eI .i64))]) (ds := [37]) tbokGB rfl rfl rfl (.cons _ _ _ [37] _ _ _ _ (cD_arr (d := 37) (e := 2) (m := 1) (n := ([s4.1, s8.1] : List Int).length) (es := ([s4.1, s8.1] : List Int).map (eI .i64)) (ss := [.flat]) (flat_map (eI_flat .i64) _)) .nil (by decide))) ?_
  obtain ⟨x13, hx13, h⟩ := bind_some h
  refine SRun.estep (x_append_deep (f := (eL (eI .i64))) (L := s8.2) (M := ([([s4.1, s8.1] : List Int)] : List (List Int))) (t := 43) (ti := ti43) (tj := ti24) (zs := [.slice none 0 0]) (e := 24) (m := 1) (d := 7) (dx := 38) (ss := [(.sl 2 1 [.flat])]) hx13 tbokGB rfl rfl rfl rfl) ?_
  refine SRun.ck tbokGB 1 ⟨42, [(0, vl eLabel aList), (1, vl (eI .i64) aPlacement), (7, .own 39), (8, vi s4.1), (9, vi s8.1), (17, vi (aList.length : Int)), (18, vi s4.1)], [(39, .deep 24 1 x13.length [(.sl 2 1 [.flat])] (x13.map (eL (eI .i64))))]⟩ ?_
  refine SRun.nil ?_
  obtain rfl := inj h
  exact q_bn (q_j (Le.rr [39] [(39, 7)]))
  refine swp_skip ?_
  obtain rfl := inj h
  exact q_bn (q_j (Le.sub0))
  refine swp_reg ?_
  refine SRun.ck tbokGB 3 ⟨42, [(0, vl eLabel aList), (1, vl (eI .i64) aPlacement), (7, .own 7), (8, vi s4.1), (9, vi (w64 (s8.1 + 1))), (17, vi (aList.length : Int)), (18, vi s4.1)], [(7, .deep 24 1 j10.length [(.sl 2 1 [.flat])] (j10.map (eL (eI .i64))))]⟩ ?_
  refine SRun.nil ?_
  obtain rfl := inj h
  exact q_l (Le.sub0)
  refine swp_exit ?_
  obtain rfl := inj h
  exact nx_e (q_re (q_bh (q_bn (q_j (Le.sub0)))))
  refine swp_reg ?_
  refine SRun.ck tbokGB 2 ⟨42, [(0, vl eLabel aList), (1, vl (eI .i64) aPlacement), (7, .own 7), (17, vi (aList.length : Int)), (18, vi (w64 (s4.1 + 1)))], [(7, .deep 24 1 j6.length [(.sl 2 1 [.flat])] (j6.map (eL (eI .i64))))]⟩ ?_
  refine SRun.nil ?_
  obtain rfl := inj h
  exact q_l (Le.sub0)
  refine swp_exit ?_
  obtain rfl := inj h
  exact nx_e (q_re (q_bh (q_j (Le.sub0))))
  refine srk tbokGB ⟨42, [(4, .own 7), (5, vi 0)], [(7, .deep 24 1 j2.length [(.sl 2 1 [.flat])] (j2.map (eL (eI .i64))))]⟩ ?_
  refine swp_ret ?_
  obtain rfl := inj h
  exact q_fr (f2 (finD (d := 7) (holds_t (by kernel_rfl)) (by kernel_rfl) (by kernel_rfl)) fv)
theorem ents24 : Ents Try.prog 24 := ents_of Try.func24 (by kernel_rfl) rfl
noncomputable def spec_ClashesOf (aList : (List Label)) (aPlacement : (List Int)) : Option ((List (List Int)) × Int) :=
  ((spec_l33Placement aList aPlacement).bind fun x1 => (bif (x1 != 0) then some (([] : List (List Int)), x1) else (((forS (aList.length : Int) (fun (i4 : Int) (s4 : (List (List Int))) => (forS (aList.length : Int) (fun (i8 : Int) (s8 : (List (List Int))) => ((at' aList i4).bind fun x12 => ((at' aPlacement i4).bind fun x13 => ((at' aList i8).bind fun x14 => ((at' aPlacement i8).bind fun x15 => ((spec_l33Clash x12 x13 x14 x15).bind fun x16 => (bif x16 then ((app' s8 ([([i4, i8] : List Int)] : List (List Int))).bind fun x17 => some x17) else some s8))))))) (fun (s8 : (List (List Int))) => s8) (w64 (i4 + 1)) s4)) (fun (s4 : (List (List Int))) => s4) 0 ([] : List (List Int)))).bind fun (j2 : (List (List Int))) => some (j2, 0))))
theorem spec_ClashesOf_run (aList : (List Label)) (aPlacement : (List Int)) (r : (List (List Int)) × Int) (h : spec_ClashesOf aList aPlacement = some r) : SCall Try.prog 25 [.v (vl eLabel aList), .v (vl (eI .i64) aPlacement)] ⟨[.deep 24 1 r.1.length [(.sl 2 1 [.flat])] (r.1.map (eL (eI .i64))), .v (vi r.2)], [], false⟩ := by
  refine scall_in Try.func25 rfl [(.tmp 4), (.tmp 5)] rfl (fun r => ⟨[.deep 24 1 r.1.length [(.sl 2 1 [.flat])] (r.1.map (eL (eI .i64))), .v (vi r.2)], [], false⟩) (r := r) ?_
  unfold spec_ClashesOf at h
  refine sr ?_
  refine SRun.ck tbokGB 1 ⟨55, [(4, .own 4), (0, vl eLabel aList), (1, vl (eI .i64) aPlacement)], [(4, oa 24 1 (eL (eI .i64)) ([] : List (List Int)))]⟩ ?_
  refine SRun.le (Le.deep0 (d := 4) (e := 24) (m := 1) (ss := [(.sl 2 1 [.flat])]) (by kernel_rfl) (by kernel_rfl)) ?_
  refine ckn tbokGB 1 ⟨55, [(0, vl eLabel aList), (1, vl (eI .i64) aPlacement)], []⟩ ?_
  refine sr ?_
  refine SRun.ck tbokGB 2 ⟨55, [(0, vl eLabel aList), (1, vl (eI .i64) aPlacement), (10, vl eLabel aList), (11, vl (eI .i64) aPlacement)], []⟩ ?_
  obtain ⟨x1, hx1, h⟩ := bind_some h
  refine SRun.ls (xc ents47 (spec_l33Placement_run aList aPlacement _ hx1)) ?_
  refine ckn tbokGB 1 ⟨55, [(0, vl eLabel aList), (1, vl (eI .i64) aPlacement), (6, vi x1)], []⟩ ?_
  refine swp_seq ?_
  refine srk tbokGB ⟨55, [(0, vl eLabel aList), (1, vl (eI .i64) aPlacement), (6, vi x1), (14, vb (x1 != 0))], []⟩ ?_
  refine swp_cd h (fun h => ?_) fun h => ?_
  refine sr ?_
  refine SRun.ck tbokGB 2 ⟨55, [(4, .own 4), (15, vi x1), (0, vl eLabel aList), (1, vl (eI .i64) aPlacement), (6, vi x1), (14, vb (x1 != 0))], [(4, oa 24 1 (eL (eI .i64)) ([] : List (List Int)))]⟩ ?_
  refine SRun.le (Le.deep0 (d := 4) (e := 24) (m := 1) (ss := [(.sl 2 1 [.flat])]) (by kernel_rfl) (by kernel_rfl)) ?_
  refine ckn tbokGB 1 ⟨55, [(4, .own 4), (5, vi x1)], [(4, .deep 24 1 ([] : List (List Int)).length [(.sl 2 1 [.flat])] (([] : List (List Int)).map (eL (eI .i64))))]⟩ ?_
  refine swp_ret ?_
  obtain rfl := inj h
  exact nx_r (q_fr (f2 (finD (d := 4) (holds_t (by kernel_rfl)) (by kernel_rfl) (by kernel_rfl)) fv))
  refine swp_skip ?_
  refine nx_n ?_
  refine sr ?_
  refine SRun.ck tbokGB 1 ⟨55, [(16, .own 16), (0, vl eLabel aList), (1, vl (eI .i64) aPlacement), (6, vi x1), (14, vb (x1 != 0))], [(16, oa 24 1 (eL (eI .i64)) ([] : List (List Int)))]⟩ ?_
  refine SRun.le (Le.deep0 (d := 16) (e := 24) (m := 1) (ss := [(.sl 2 1 [.flat])]) (by kernel_rfl) (by kernel_rfl)) ?_
  refine ckn tbokGB 1 ⟨55, [(0, vl eLabel aList), (1, vl (eI .i64) aPlacement), (7, .own 16)], [(16, .deep 24 1 ([] : List (List Int)).length [(.sl 2 1 [.flat])] (([] : List (List Int)).map (eL (eI .i64))))]⟩ ?_
  refine swp_seq ?_
  refine srk tbokGB ⟨55, [(0, vl eLabel aList), (1, vl (eI .i64) aPlacement), (7, .own 16), (8, vi 0)], [(16, .deep 24 1 ([] : List (List Int)).length [(.sl 2 1 [.flat])] (([] : List (List Int)).map (eL (eI .i64))))]⟩ ?_
  refine swp_seqJ h (fun j2 => ⟨55, [(7, .own 7)], [(7, .deep 24 1 j2.length [(.sl 2 1 [.flat])] (j2.map (eL (eI .i64))))]⟩) (fun v3 h => ?_) (fun j2 h => ?_)
  refine swp_blk (a := v3) ?_
  refine swp_lpL (r := v3) (s := (0, ([] : List (List Int)))) _ (fun s4 => ⟨55, [(0, vl eLabel aList), (1, vl (eI .i64) aPlacement), (7, .own 7), (8, vi s4.1)], [(7, .deep 24 1 s4.2.length [(.sl 2 1 [.flat])] (s4.2.map (eL (eI .i64))))]⟩) _ (Le.rr [16] [(16, 7)]) h (fun s4 v5 h => ?_)
  refine swp_seq ?_
  refine srk tbokGB ⟨55, [(0, vl eLabel aList), (1, vl (eI .i64) aPlacement), (7, .own 7), (8, vi s4.1), (20, vb (decide (s4.1 < (aList.length : Int))))], [(7, .deep 24 1 s4.2.length [(.sl 2 1 [.flat])] (s4.2.map (eL (eI .i64))))]⟩ ?_
  refine swp_cd h (fun h => ?_) fun h => ?_
  refine swp_skip ?_
  refine nx_n ?_
  refine swp_seq ?_
  refine swp_seqJ h (fun j6 => ⟨55, [(0, vl eLabel aList), (1, vl (eI .i64) aPlacement), (7, .own 7), (8, vi s4.1)], [(7, .deep 24 1 j6.length [(.sl 2 1 [.flat])] (j6.map (eL (eI .i64))))]⟩) (fun v7 h => ?_) (fun j6 h => ?_)
  refine swp_blk (a := v7) ?_
  refine srk tbokGB ⟨55, [(0, vl eLabel aList), (1, vl (eI .i64) aPlacement), (7, .own 7), (8, vi s4.1), (9, vi (w64 (s4.1 + 1)))], [(7, .deep 24 1 s4.2.length [(.sl 2 1 [.flat])] (s4.2.map (eL (eI .i64))))]⟩ ?_
  refine swp_blk (a := v7) ?_
  refine swp_lpL (r := v7) (s := ((w64 (s4.1 + 1)), s4.2)) _ (fun s8 => ⟨55, [(0, vl eLabel aList), (1, vl (eI .i64) aPlacement), (7, .own 7), (8, vi s4.1), (9, vi s8.1)], [(7, .deep 24 1 s8.2.length [(.sl 2 1 [.flat])] (s8.2.map (eL (eI .i64))))]⟩) _ (Le.sub0) h (fun s8 v9 h => ?_)
  refine swp_seq ?_
  refine srk tbokGB ⟨55, [(0, vl eLabel aList), (1, vl (eI .i64) aPlacement), (7, .own 7), (8, vi s4.1), (9, vi s8.1), (28, vb (decide (s8.1 < (aList.length : Int))))], [(7, .deep 24 1 s8.2.length [(.sl 2 1 [.flat])] (s8.2.map (eL (eI .i64))))]⟩ ?_
  refine swp_cd h (fun h => ?_) fun h => ?_
  refine swp_skip ?_
  refine nx_n ?_
  refine swp_seq ?_
  refine swp_seqJ h (fun j10 => ⟨55, [(0, vl eLabel aList), (1, vl (eI .i64) aPlacement), (7, .own 7), (8, vi s4.1), (9, vi s8.1)], [(7, .deep 24 1 j10.length [(.sl 2 1 [.flat])] (j10.map (eL (eI .i64))))]⟩) (fun v11 h => ?_) (fun j10 h => ?_)
  refine swp_blk (a := v11) ?_
  refine swp_seq ?_
  refine swp_dr mixed ?_
  refine DGo.ck tbokGB false 2 ⟨55, [(0, vl eLabel aList), (1, vl (eI .i64) aPlacement), (7, .own 7), (8, vi s4.1), (9, vi s8.1), (31, vl eLabel aList), (32, vi s4.1)], [(7, .deep 24 1 s8.2.length [(.sl 2 1 [.flat])] (s8.2.map (eL (eI .i64))))]⟩ ?_
  obtain ⟨x12, hx12, h⟩ := bind_some h
  refine DGo.step (x_index (L := aList) (f := eLabel) (ti := ti27) (tj := ti52) (e := 52) (k := .i64) tbokGB rfl hx12) ?_
  refine DGo.ck tbokGB false 3 ⟨55, [(0, vl eLabel aList), (1, vl (eI .i64) aPlacement), (7, .own 7), (8, vi s4.1), (9, vi s8.1), (34, .agg (tc eLabel x12)), (35, vl (eI .i64) aPlacement), (36, vi s4.1)], [(7, .deep 24 1 s8.2.length [(.sl 2 1 [.flat])] (s8.2.map (eL (eI .i64))))]⟩ ?_
  obtain ⟨x13, hx13, h⟩ := bind_some h
  refine DGo.step (x_index (L := aPlacement) (f := (eI .i64)) (ti := ti24) (tj := ti2) (e := 2) (k := .i64) tbokGB rfl hx13) ?_
  refine DGo.ck tbokGB false 3 ⟨55, [(0, vl eLabel aList), (1, vl (eI .i64) aPlacement), (7, .own 7), (8, vi s4.1), (9, vi s8.1), (34, .agg (tc eLabel x12)), (38, vi x13), (39, vl eLabel aList), (40, vi s8.1)], [(7, .deep 24 1 s8.2.length [(.sl 2 1 [.flat])] (s8.2.map (eL (eI .i64))))]⟩ ?_
  obtain ⟨x14, hx14, h⟩ := bind_some h
  refine DGo.step (x_index (L := aList) (f := eLabel) (ti := ti27) (tj := ti52) (e := 52) (k := .i64) tbokGB rfl hx14) ?_
  refine DGo.ck tbokGB false 3 ⟨55, [(0, vl eLabel aList), (1, vl (eI .i64) aPlacement), (7, .own 7), (8, vi s4.1), (9, vi s8.1), (34, .agg (tc eLabel x12)), (38, vi x13), (42, .agg (tc eLabel x14)), (43, vl (eI .i64) aPlacement), (44, vi s8.1)], [(7, .deep 24 1 s8.2.length [(.sl 2 1 [.flat])] (s8.2.map (eL (eI .i64))))]⟩ ?_
  obtain ⟨x15, hx15, h⟩ := bind_some h
  refine DGo.step (x_index (L := aPlacement) (f := (eI .i64)) (ti := ti24) (tj := ti2) (e := 2) (k := .i64) tbokGB rfl hx15) ?_
  refine DGo.ck tbokGB false 1 ⟨55, [(0, vl eLabel aList), (1, vl (eI .i64) aPlacement), (7, .own 7), (8, vi s4.1), (9, vi s8.1), (34, .agg (tc eLabel x12)), (38, vi x13), (42, .agg (tc eLabel x14)), (46, vi x15)], [(7, .deep 24 1 s8.2.length [(.sl 2 1 [.flat])] (s8.2.map (eL (eI .i64))))]⟩ ?_
  obtain ⟨x16, hx16, h⟩ := bind_some h
  refine DGo.step (xc ents50 (spec_l33Clash_run x12 x13 x14 x15 _ hx16)) ?_
  refine DGo.nx ?_
  refine swp_cd h (fun h => ?_) fun h => ?_
  refine swp_reg ?_
  refine SRun.ck tbokGB 4 ⟨55, [(0, vl eLabel aList), (1, vl (eI .i64) aPlacement), (8, vi s4.1), (9, vi s8.1), (48, .own 7), (51, .own 51)], [(7, .deep 24 1 s8.2.length [(.sl 2 1 [.flat])] (s8.2.map (eL (eI .i64)))), (51, oa 2 1 (eI .i64) ([s4.1, s8.1] : List Int))]⟩ ?_
  refine SRun.estep (x_build_deep (ti := ti43) (tj := ti24) (e := 24) (m := 1) (zs := [.slice none 0 0]) (v := .own 51) (cs := [.own 51]) (ss := [(.sl 2 1 [.flat])]) (ts := [.sl ([s4.1, s8.1] : List Int).length (([s4.1, s8.1] : List Int).map (eI .i64))]) (ds := [51]) tbokGB rfl rfl rfl (.cons _ _ _ [51] _ _ _ _ (cD_arr (d := 51) (e := 2) (m := 1) (n := ([s4.1, s8.1] : List Int).length) (es := ([s4.1, s8.1] : List Int).map (eI .i64)) (ss := [.flat]) (flat_map (eI_flat .i64) _)) .nil (by decide))) ?_
  obtain ⟨x17, hx17, h⟩ := bind_some h
  refine SRun.estep (x_append_deep (f := (eL (eI .i64))) (L := s8.2) (M := ([([s4.1, s8.1] : List Int)] : List (List Int))) (t := 43) (ti := ti43) (tj := ti24) (zs := [.slice none 0 0]) (e := 24) (m := 1) (d := 7) (dx := 52) (ss := [(.sl 2 1 [.flat])]) hx17 tbokGB rfl rfl rfl rfl) ?_
  refine SRun.ck tbokGB 1 ⟨55, [(0, vl eLabel aList), (1, vl (eI .i64) aPlacement), (7, .own 53), (8, vi s4.1), (9, vi s8.1)], [(53, .deep 24 1 x17.length [(.sl 2 1 [.flat])] (x17.map (eL (eI .i64))))]⟩ ?_
  refine SRun.nil ?_
  obtain rfl := inj h
  exact q_bn (q_j (Le.rr [53] [(53, 7)]))
  refine swp_skip ?_
  obtain rfl := inj h
  exact q_bn (q_j (Le.sub0))
  refine swp_reg ?_
  refine SRun.ck tbokGB 3 ⟨55, [(0, vl eLabel aList), (1, vl (eI .i64) aPlacement), (7, .own 7), (8, vi s4.1), (9, vi (w64 (s8.1 + 1)))], [(7, .deep 24 1 j10.length [(.sl 2 1 [.flat])] (j10.map (eL (eI .i64))))]⟩ ?_
  refine SRun.nil ?_
  obtain rfl := inj h
  exact q_l (Le.sub0)
  refine swp_exit ?_
  obtain rfl := inj h
  exact nx_e (q_re (q_bh (q_bn (q_j (Le.sub0)))))
  refine swp_reg ?_
  refine SRun.ck tbokGB 3 ⟨55, [(0, vl eLabel aList), (1, vl (eI .i64) aPlacement), (7, .own 7), (8, vi (w64 (s4.1 + 1)))], [(7, .deep 24 1 j6.length [(.sl 2 1 [.flat])] (j6.map (eL (eI .i64))))]⟩ ?_
  refine SRun.nil ?_
  obtain rfl := inj h
  exact q_l (Le.sub0)
  refine swp_exit ?_
  obtain rfl := inj h
  exact nx_e (q_re (q_bh (q_j (Le.sub0))))
  refine srk tbokGB ⟨55, [(4, .own 7), (5, vi 0)], [(7, .deep 24 1 j2.length [(.sl 2 1 [.flat])] (j2.map (eL (eI .i64))))]⟩ ?_
  refine swp_ret ?_
  obtain rfl := inj h
  exact q_fr (f2 (finD (d := 7) (holds_t (by kernel_rfl)) (by kernel_rfl) (by kernel_rfl)) fv)
theorem ents25 : Ents Try.prog 25 := ents_of Try.func25 (by kernel_rfl) rfl
noncomputable def laws_likeInts (aA : (List Int)) (aB : (List Int)) : Option (Bool) :=
  (bif ((aA.length : Int) != (aB.length : Int)) then some false else (((forN (aA.length : Int) (fun (i3 : Int) (_ : Unit) => ((at' aA i3).bind fun x7 => ((at' aB i3).bind fun x8 => (bif (x7 != x8) then some (.inr (.inr false)) else some (.inl ()))))) (fun (_ : Unit) => .inl ()) 0 ())).bind (Sum.elim (fun (_ : Unit) => some true) some)))
theorem laws_likeInts_run (aA : (List Int)) (aB : (List Int)) (r : Bool) (h : laws_likeInts aA aB = some r) : SCall Try.prog 26 [.v (vl (eI .i64) aA), .v (vl (eI .i64) aB)] ⟨[.v (vb r)], [], false⟩ := by
  refine scall_in Try.func26 rfl [(.tmp 4)] rfl (fun r => ⟨[.v (vb r)], [], false⟩) (r := r) ?_
  unfold laws_likeInts at h
  refine srk tbokGB ⟨26, [(0, vl (eI .i64) aA), (1, vl (eI .i64) aB)], []⟩ ?_
  refine swp_seq ?_
  refine srk tbokGB ⟨26, [(0, vl (eI .i64) aA), (1, vl (eI .i64) aB), (10, vb ((aA.length : Int) != (aB.length : Int)))], []⟩ ?_
  refine swp_cd h (fun h => ?_) fun h => ?_
  refine srk tbokGB ⟨26, [(4, vb false)], []⟩ ?_
  refine swp_ret ?_
  obtain rfl := inj h
  exact nx_r (q_fr (f1 fv))
  refine swp_skip ?_
  refine nx_n ?_
  refine swp_seq ?_
  refine srk tbokGB ⟨26, [(0, vl (eI .i64) aA), (1, vl (eI .i64) aB), (5, vi 0)], []⟩ ?_
  refine swp_seqE (r := r) h (fun j1 => ⟨26, [], []⟩) (fun v2 h => ?_) (fun j1 h => ?_)
  refine swp_blk (a := v2) ?_
  refine swp_lpL (r := v2) (s := (0, ())) _ (fun s3 => ⟨26, [(0, vl (eI .i64) aA), (1, vl (eI .i64) aB), (5, vi s3.1)], []⟩) _ (Le.sub0) h (fun s3 v4 h => ?_)
  refine swp_seq ?_
  refine srk tbokGB ⟨26, [(0, vl (eI .i64) aA), (1, vl (eI .i64) aB), (5, vi s3.1), (14, vb (decide (s3.1 < (aA.length : Int))))], []⟩ ?_
  refine swp_cd h (fun h => ?_) fun h => ?_
  refine swp_skip ?_
  refine nx_n ?_
  refine swp_seq ?_
  refine swp_seqL (r := v4) h (fun j5 => ⟨26, [(0, vl (eI .i64) aA), (1, vl (eI .i64) aB), (5, vi s3.1)], []⟩) (fun v6 h => ?_) (fun j5 h => ?_)
  refine swp_blk (a := v6) ?_
  refine swp_seq ?_
  refine swp_dr mixed ?_
  refine DGo.ck tbokGB false 2 ⟨26, [(0, vl (eI .i64) aA), (1, vl (eI .i64) aB), (5, vi s3.1), (17, vl (eI .i64) aA), (18, vi s3.1)], []⟩ ?_
  obtain ⟨x7, hx7, h⟩ := bind_some h
  refine DGo.step (x_index (L := aA) (f := (eI .i64)) (ti := ti24) (tj := ti2) (e := 2) (k := .i64) tbokGB rfl hx7) ?_
  refine DGo.ck tbokGB false 3 ⟨26, [(0, vl (eI .i64) aA), (1, vl (eI .i64) aB), (5, vi s3.1), (20, vi x7), (21, vl (eI .i64) aB), (22, vi s3.1)], []⟩ ?_
  obtain ⟨x8, hx8, h⟩ := bind_some h
  refine DGo.step (x_index (L := aB) (f := (eI .i64)) (ti := ti24) (tj := ti2) (e := 2) (k := .i64) tbokGB rfl hx8) ?_
  refine DGo.ck tbokGB false 2 ⟨26, [(0, vl (eI .i64) aA), (1, vl (eI .i64) aB), (5, vi s3.1), (25, vb (x7 != x8))], []⟩ ?_
  refine DGo.nx ?_
  refine swp_cd h (fun h => ?_) fun h => ?_
  refine srk tbokGB ⟨26, [(4, vb false)], []⟩ ?_
  refine swp_ret ?_
  obtain rfl := inj h
  exact q_br (q_rr (q_rr (q_br (q_rr (q_fr (f1 fv))))))
  refine swp_skip ?_
  obtain rfl := inj h
  exact q_bn (q_l (Le.sub0))
  refine swp_reg ?_
  refine SRun.ck tbokGB 3 ⟨26, [(0, vl (eI .i64) aA), (1, vl (eI .i64) aB), (5, vi (w64 (s3.1 + 1)))], []⟩ ?_
  refine SRun.nil ?_
  obtain rfl := inj h
  exact q_l (Le.sub0)
  refine swp_exit ?_
  obtain rfl := inj h
  exact nx_e (q_re (q_bh (q_l (Le.sub0))))
  refine srk tbokGB ⟨26, [(4, vb true)], []⟩ ?_
  refine swp_ret ?_
  obtain rfl := inj h
  exact q_fr (f1 fv)
theorem ents26 : Ents Try.prog 26 := ents_of Try.func26 (by kernel_rfl) rfl
noncomputable def laws_likeTables (aA : (List (List Int))) (aB : (List (List Int))) : Option (Bool) :=
  (bif ((aA.length : Int) != (aB.length : Int)) then some false else (((forN (aA.length : Int) (fun (i3 : Int) (_ : Unit) => ((at' aA i3).bind fun x7 => ((at' aB i3).bind fun x8 => ((laws_likeInts x7 x8).bind fun x9 => (bif (!x9) then some (.inr (.inr false)) else some (.inl ())))))) (fun (_ : Unit) => .inl ()) 0 ())).bind (Sum.elim (fun (_ : Unit) => some true) some)))
theorem laws_likeTables_run (aA : (List (List Int))) (aB : (List (List Int))) (r : Bool) (h : laws_likeTables aA aB = some r) : SCall Try.prog 27 [.v (vl (eL (eI .i64)) aA), .v (vl (eL (eI .i64)) aB)] ⟨[.v (vb r)], [], false⟩ := by
  refine scall_in Try.func27 rfl [(.tmp 4)] rfl (fun r => ⟨[.v (vb r)], [], false⟩) (r := r) ?_
  unfold laws_likeTables at h
  refine srk tbokGB ⟨27, [(0, vl (eL (eI .i64)) aA), (1, vl (eL (eI .i64)) aB)], []⟩ ?_
  refine swp_seq ?_
  refine srk tbokGB ⟨27, [(0, vl (eL (eI .i64)) aA), (1, vl (eL (eI .i64)) aB), (10, vb ((aA.length : Int) != (aB.length : Int)))], []⟩ ?_
  refine swp_cd h (fun h => ?_) fun h => ?_
  refine srk tbokGB ⟨27, [(4, vb false)], []⟩ ?_
  refine swp_ret ?_
  obtain rfl := inj h
  exact nx_r (q_fr (f1 fv))
  refine swp_skip ?_
  refine nx_n ?_
  refine swp_seq ?_
  refine srk tbokGB ⟨27, [(0, vl (eL (eI .i64)) aA), (1, vl (eL (eI .i64)) aB), (5, vi 0)], []⟩ ?_
  refine swp_seqE (r := r) h (fun j1 => ⟨27, [], []⟩) (fun v2 h => ?_) (fun j1 h => ?_)
  refine swp_blk (a := v2) ?_
  refine swp_lpL (r := v2) (s := (0, ())) _ (fun s3 => ⟨27, [(0, vl (eL (eI .i64)) aA), (1, vl (eL (eI .i64)) aB), (5, vi s3.1)], []⟩) _ (Le.sub0) h (fun s3 v4 h => ?_)
  refine swp_seq ?_
  refine srk tbokGB ⟨27, [(0, vl (eL (eI .i64)) aA), (1, vl (eL (eI .i64)) aB), (5, vi s3.1), (14, vb (decide (s3.1 < (aA.length : Int))))], []⟩ ?_
  refine swp_cd h (fun h => ?_) fun h => ?_
  refine swp_skip ?_
  refine nx_n ?_
  refine swp_seq ?_
  refine swp_seqL (r := v4) h (fun j5 => ⟨27, [(0, vl (eL (eI .i64)) aA), (1, vl (eL (eI .i64)) aB), (5, vi s3.1)], []⟩) (fun v6 h => ?_) (fun j5 h => ?_)
  refine swp_blk (a := v6) ?_
  refine swp_seq ?_
  refine swp_dr mixed ?_
  refine DGo.ck tbokGB false 2 ⟨27, [(0, vl (eL (eI .i64)) aA), (1, vl (eL (eI .i64)) aB), (5, vi s3.1), (17, vl (eL (eI .i64)) aA), (18, vi s3.1)], []⟩ ?_
  obtain ⟨x7, hx7, h⟩ := bind_some h
  refine DGo.step (x_index (L := aA) (f := (eL (eI .i64))) (ti := ti43) (tj := ti24) (e := 24) (k := .i64) tbokGB rfl hx7) ?_
  refine DGo.ck tbokGB false 3 ⟨27, [(0, vl (eL (eI .i64)) aA), (1, vl (eL (eI .i64)) aB), (5, vi s3.1), (20, vl (eI .i64) x7), (21, vl (eL (eI .i64)) aB), (22, vi s3.1)], []⟩ ?_
  obtain ⟨x8, hx8, h⟩ := bind_some h
  refine DGo.step (x_index (L := aB) (f := (eL (eI .i64))) (ti := ti43) (tj := ti24) (e := 24) (k := .i64) tbokGB rfl hx8) ?_
  refine DGo.ck tbokGB false 1 ⟨27, [(0, vl (eL (eI .i64)) aA), (1, vl (eL (eI .i64)) aB), (5, vi s3.1), (20, vl (eI .i64) x7), (24, vl (eI .i64) x8)], []⟩ ?_
  obtain ⟨x9, hx9, h⟩ := bind_some h
  refine DGo.step (xc ents26 (laws_likeInts_run x7 x8 _ hx9)) ?_
  refine DGo.ck tbokGB false 1 ⟨27, [(0, vl (eL (eI .i64)) aA), (1, vl (eL (eI .i64)) aB), (5, vi s3.1), (26, vb (!x9))], []⟩ ?_
  refine DGo.nx ?_
  refine swp_cd h (fun h => ?_) fun h => ?_
  refine srk tbokGB ⟨27, [(4, vb false)], []⟩ ?_
  refine swp_ret ?_
  obtain rfl := inj h
  exact q_br (q_rr (q_rr (q_br (q_rr (q_fr (f1 fv))))))
  refine swp_skip ?_
  obtain rfl := inj h
  exact q_bn (q_l (Le.sub0))
  refine swp_reg ?_
  refine SRun.ck tbokGB 3 ⟨27, [(0, vl (eL (eI .i64)) aA), (1, vl (eL (eI .i64)) aB), (5, vi (w64 (s3.1 + 1)))], []⟩ ?_
  refine SRun.nil ?_
  obtain rfl := inj h
  exact q_l (Le.sub0)
  refine swp_exit ?_
  obtain rfl := inj h
  exact nx_e (q_re (q_bh (q_l (Le.sub0))))
  refine srk tbokGB ⟨27, [(4, vb true)], []⟩ ?_
  refine swp_ret ?_
  obtain rfl := inj h
  exact q_fr (f1 fv)
theorem ents27 : Ents Try.prog 27 := ents_of Try.func27 (by kernel_rfl) rfl
noncomputable def laws_FnLabels (aCode : (List Int)) : Option (Bool) :=
  ((laws_big aCode).bind fun x1 => (bif x1 then some true else ((spec_DrawBestPlacement aCode).bind fun x2 => ((impl_BestPlacement x2).bind fun x3 => ((spec_BestPlacement x2).bind fun x4 => ((impl_GreedyPlacement x2).bind fun x5 => ((spec_GreedyPlacement x2).bind fun x6 => ((spec_DrawIsClear aCode).bind fun x7 => ((impl_IsClear x7.1 x7.2).bind fun x8 => ((spec_IsClear x7.1 x7.2).bind fun x9 => ((impl_ScoreOf x7.1 x7.2).bind fun x10 => ((spec_ScoreOf x7.1 x7.2).bind fun x11 => ((impl_ClashesOf x7.1 x7.2).bind fun x12 => ((spec_ClashesOf x7.1 x7.2).bind fun x13 => (((bif (x3.2 != x4.2) then some true else ((laws_likeInts x3.1 x4.1).bind fun x14 => (bif (!x14) then some true else (bif (x5.2 != x6.2) then some true else ((laws_likeInts x5.1 x6.1).bind fun x15 => (bif (!x15) then some true else (bif (x8.2 != x9.2) then some true else (bif (!(x8.1 == x9.1)) then some true else (bif (x10.2 != x11.2) then some true else (bif (x10.1 != x11.1) then some true else (bif (x12.2 != x13.2) then some true else ((laws_likeTables x12.1 x13.1).bind fun x16 => (bif (!x16) then some true else ((impl_AreLabels x2).bind fun x17 => (bif (!(x17 == (x4.2 == 0))) then some true else some (x5.2 != x3.2))))))))))))))))).bind fun (j18 : Bool) => (bif j18 then some false else (bif ((x8.2 == 0) && (x8.1 && (decide ((x12.1.length : Int) > 0)))) then some false else (bif (x3.2 != 0) then some true else ((impl_IsClear x2 x3.1).bind fun x20 => ((impl_IsClear x2 x5.1).bind fun x21 => ((impl_ScoreOf x2 x3.1).bind fun x22 => ((impl_ScoreOf x2 x5.1).bind fun x23 => some ((x20.2 == 0) && (x20.1 && ((x21.2 == 0) && (x21.1 && ((x22.2 == 0) && ((x23.2 == 0) && (decide (x23.1 ≤ x22.1))))))))))))))))))))))))))))))
theorem laws_FnLabels_run (aCode : (List Int)) (r : Bool) (h : laws_FnLabels aCode = some r) : SCall Try.prog 5 [.v (vl (eI .u8) aCode)] ⟨[.v (vb r)], [], false⟩ := by
  refine scall_in Try.func5 rfl [(.tmp 2)] rfl (fun r => ⟨[.v (vb r)], [], false⟩) (r := r) ?_
  unfold laws_FnLabels at h
  refine srk tbokGB ⟨223, [(0, vl (eI .u8) aCode)], []⟩ ?_
  refine swp_seq ?_
  refine sr ?_
  refine SRun.ck tbokGB 1 ⟨223, [(0, vl (eI .u8) aCode), (34, vl (eI .u8) aCode)], []⟩ ?_
  obtain ⟨x1, hx1, h⟩ := bind_some h
  refine SRun.ls (xc ents17 (laws_big_run aCode _ hx1)) ?_
  refine SRun.nx ?_
  refine swp_cd h (fun h => ?_) fun h => ?_
  refine srk tbokGB ⟨223, [(2, vb true)], []⟩ ?_
  refine swp_ret ?_
  obtain rfl := inj h
  exact nx_r (q_fr (f1 fv))
  refine swp_skip ?_
  refine nx_n ?_
  refine sr ?_
  refine SRun.ck tbokGB 1 ⟨223, [(0, vl (eI .u8) aCode), (36, vl (eI .u8) aCode)], []⟩ ?_
  obtain ⟨x2, hx2, h⟩ := bind_some h
  refine SRun.ls (xc ents18 (spec_DrawBestPlacement_run aCode _ hx2)) ?_
  refine ckn tbokGB 1 ⟨223, [(0, vl (eI .u8) aCode), (3, .own 37)], [(37, oa 52 4 eLabel x2)]⟩ ?_
  refine sr ?_
  refine SRun.ck tbokGB 1 ⟨223, [(0, vl (eI .u8) aCode), (3, .own 37), (39, .own 37)], [(37, oa 52 4 eLabel x2)]⟩ ?_
  refine SRun.le (Le.frz' (d := 37) (e := 52) (m := 4) (n := x2.length) (es := x2.map eLabel) (by kernel_rfl) (by kernel_rfl)) ?_
  obtain ⟨x3, hx3, h⟩ := bind_some h
  refine SRun.ls (xc ents9 (impl_BestPlacement_run x2 _ hx3)) ?_
  refine ckn tbokGB 5 ⟨223, [(0, vl (eI .u8) aCode), (3, vl eLabel x2), (4, vl (eI .i64) x3.1), (5, vi x3.2)], []⟩ ?_
  refine sr ?_
  refine SRun.ck tbokGB 1 ⟨223, [(0, vl (eI .u8) aCode), (3, vl eLabel x2), (4, vl (eI .i64) x3.1), (5, vi x3.2), (44, vl eLabel x2)], []⟩ ?_
  obtain ⟨x4, hx4, h⟩ := bind_some h
  refine SRun.ls (xc ents7 (spec_BestPlacement_run x2 _ hx4)) ?_
  refine ckn tbokGB 5 ⟨223, [(0, vl (eI .u8) aCode), (3, vl eLabel x2), (4, vl (eI .i64) x3.1), (5, vi x3.2), (6, vl (eI .i64) x4.1), (7, vi x4.2)], []⟩ ?_
  refine sr ?_
  refine SRun.ck tbokGB 1 ⟨223, [(0, vl (eI .u8) aCode), (3, vl eLabel x2), (4, vl (eI .i64) x3.1), (5, vi x3.2), (6, vl (eI .i64) x4.1), (7, vi x4.2), (49, vl eLabel x2)], []⟩ ?_
  obtain ⟨x5, hx5, h⟩ := bind_some h
  refine SRun.ls (xc ents16 (impl_GreedyPlacement_run x2 _ hx5)) ?_
  refine ckn tbokGB 5 ⟨223, [(0, vl (eI .u8) aCode), (3, vl eLabel x2), (4, vl (eI .i64) x3.1), (5, vi x3.2), (6, vl (eI .i64) x4.1), (7, vi x4.2), (8, .own 50), (9, vi x5.2)], [(50, oa 2 1 (eI .i64) x5.1)]⟩ ?_
  refine sr ?_
  refine SRun.ck tbokGB 1 ⟨223, [(0, vl (eI .u8) aCode), (3, vl eLabel x2), (4, vl (eI .i64) x3.1), (5, vi x3.2), (6, vl (eI .i64) x4.1), (7, vi x4.2), (8, .own 50), (9, vi x5.2), (54, vl eLabel x2)], [(50, oa 2 1 (eI .i64) x5.1)]⟩ ?_
  obtain ⟨x6, hx6, h⟩ := bind_some h
  refine SRun.ls (xc ents15 (spec_GreedyPlacement_run x2 _ hx6)) ?_
  refine ckn tbokGB 5 ⟨223, [(0, vl (eI .u8) aCode), (3, vl eLabel x2), (4, vl (eI .i64) x3.1), (5, vi x3.2), (6, vl (eI .i64) x4.1), (7, vi x4.2), (8, .own 50), (9, vi x5.2), (10, .own 55), (11, vi x6.2)], [(50, oa 2 1 (eI .i64) x5.1), (55, oa 2 1 (eI .i64) x6.1)]⟩ ?_
  refine sr ?_
  refine SRun.ck tbokGB 1 ⟨223, [(3, vl eLabel x2), (4, vl (eI .i64) x3.1), (5, vi x3.2), (6, vl (eI .i64) x4.1), (7, vi x4.2), (8, .own 50), (9, vi x5.2), (10, .own 55), (11, vi x6.2), (59, vl (eI .u8) aCode)], [(50, oa 2 1 (eI .i64) x5.1), (55, oa 2 1 (eI .i64) x6.1)]⟩ ?_
  obtain ⟨x7, hx7, h⟩ := bind_some h
  refine SRun.ls (xc ents19 (spec_DrawIsClear_run aCode _ hx7)) ?_
  refine ckn tbokGB 5 ⟨223, [(3, vl eLabel x2), (4, vl (eI .i64) x3.1), (5, vi x3.2), (6, vl (eI .i64) x4.1), (7, vi x4.2), (8, .own 50), (9, vi x5.2), (10, .own 55), (11, vi x6.2), (12, vl eLabel x7.1), (13, vl (eI .i64) x7.2)], [(50, oa 2 1 (eI .i64) x5.1), (55, oa 2 1 (eI .i64) x6.1)]⟩ ?_
  refine sr ?_
  refine SRun.ck tbokGB 2 ⟨223, [(3, vl eLabel x2), (4, vl (eI .i64) x3.1), (5, vi x3.2), (6, vl (eI .i64) x4.1), (7, vi x4.2), (8, .own 50), (9, vi x5.2), (10, .own 55), (11, vi x6.2), (12, vl eLabel x7.1), (13, vl (eI .i64) x7.2), (64, vl eLabel x7.1), (65, vl (eI .i64) x7.2)], [(50, oa 2 1 (eI .i64) x5.1), (55, oa 2 1 (eI .i64) x6.1)]⟩ ?_
  obtain ⟨x8, hx8, h⟩ := bind_some h
  refine SRun.ls (xc ents20 (impl_IsClear_run x7.1 x7.2 _ hx8)) ?_
  refine ckn tbokGB 5 ⟨223, [(3, vl eLabel x2), (4, vl (eI .i64) x3.1), (5, vi x3.2), (6, vl (eI .i64) x4.1), (7, vi x4.2), (8, .own 50), (9, vi x5.2), (10, .own 55), (11, vi x6.2), (12, vl eLabel x7.1), (13, vl (eI .i64) x7.2), (14, vb x8.1), (15, vi x8.2)], [(50, oa 2 1 (eI .i64) x5.1), (55, oa 2 1 (eI .i64) x6.1)]⟩ ?_
  refine sr ?_
  refine SRun.ck tbokGB 2 ⟨223, [(3, vl eLabel x2), (4, vl (eI .i64) x3.1), (5, vi x3.2), (6, vl (eI .i64) x4.1), (7, vi x4.2), (8, .own 50), (9, vi x5.2), (10, .own 55), (11, vi x6.2), (12, vl eLabel x7.1), (13, vl (eI .i64) x7.2), (14, vb x8.1), (15, vi x8.2), (70, vl eLabel x7.1), (71, vl (eI .i64) x7.2)], [(50, oa 2 1 (eI .i64) x5.1), (55, oa 2 1 (eI .i64) x6.1)]⟩ ?_
  obtain ⟨x9, hx9, h⟩ := bind_some h
  refine SRun.ls (xc ents21 (spec_IsClear_run x7.1 x7.2 _ hx9)) ?_
  refine ckn tbokGB 5 ⟨223, [(3, vl eLabel x2), (4, vl (eI .i64) x3.1), (5, vi x3.2), (6, vl (eI .i64) x4.1), (7, vi x4.2), (8, .own 50), (9, vi x5.2), (10, .own 55), (11, vi x6.2), (12, vl eLabel x7.1), (13, vl (eI .i64) x7.2), (14, vb x8.1), (15, vi x8.2), (16, vb x9.1), (17, vi x9.2)], [(50, oa 2 1 (eI .i64) x5.1), (55, oa 2 1 (eI .i64) x6.1)]⟩ ?_
  refine sr ?_
  refine SRun.ck tbokGB 2 ⟨223, [(3, vl eLabel x2), (4, vl (eI .i64) x3.1), (5, vi x3.2), (6, vl (eI .i64) x4.1), (7, vi x4.2), (8, .own 50), (9, vi x5.2), (10, .own 55), (11, vi x6.2), (12, vl eLabel x7.1), (13, vl (eI .i64) x7.2), (14, vb x8.1), (15, vi x8.2), (16, vb x9.1), (17, vi x9.2), (76, vl eLabel x7.1), (77, vl (eI .i64) x7.2)], [(50, oa 2 1 (eI .i64) x5.1), (55, oa 2 1 (eI .i64) x6.1)]⟩ ?_
  obtain ⟨x10, hx10, h⟩ := bind_some h
  refine SRun.ls (xc ents22 (impl_ScoreOf_run x7.1 x7.2 _ hx10)) ?_
  refine ckn tbokGB 5 ⟨223, [(3, vl eLabel x2), (4, vl (eI .i64) x3.1), (5, vi x3.2), (6, vl (eI .i64) x4.1), (7, vi x4.2), (8, .own 50), (9, vi x5.2), (10, .own 55), (11, vi x6.2), (12, vl eLabel x7.1), (13, vl (eI .i64) x7.2), (14, vb x8.1), (15, vi x8.2), (16, vb x9.1), (17, vi x9.2), (18, vi x10.1), (19, vi x10.2)], [(50, oa 2 1 (eI .i64) x5.1), (55, oa 2 1 (eI .i64) x6.1)]⟩ ?_
  refine sr ?_
  refine SRun.ck tbokGB 2 ⟨223, [(3, vl eLabel x2), (4, vl (eI .i64) x3.1), (5, vi x3.2), (6, vl (eI .i64) x4.1), (7, vi x4.2), (8, .own 50), (9, vi x5.2), (10, .own 55), (11, vi x6.2), (12, vl eLabel x7.1), (13, vl (eI .i64) x7.2), (14, vb x8.1), (15, vi x8.2), (16, vb x9.1), (17, vi x9.2), (18, vi x10.1), (19, vi x10.2), (82, vl eLabel x7.1), (83, vl (eI .i64) x7.2)], [(50, oa 2 1 (eI .i64) x5.1), (55, oa 2 1 (eI .i64) x6.1)]⟩ ?_
  obtain ⟨x11, hx11, h⟩ := bind_some h
  refine SRun.ls (xc ents23 (spec_ScoreOf_run x7.1 x7.2 _ hx11)) ?_
  refine ckn tbokGB 5 ⟨223, [(3, vl eLabel x2), (4, vl (eI .i64) x3.1), (5, vi x3.2), (6, vl (eI .i64) x4.1), (7, vi x4.2), (8, .own 50), (9, vi x5.2), (10, .own 55), (11, vi x6.2), (12, vl eLabel x7.1), (13, vl (eI .i64) x7.2), (14, vb x8.1), (15, vi x8.2), (16, vb x9.1), (17, vi x9.2), (18, vi x10.1), (19, vi x10.2), (20, vi x11.1), (21, vi x11.2)], [(50, oa 2 1 (eI .i64) x5.1), (55, oa 2 1 (eI .i64) x6.1)]⟩ ?_
  refine sr ?_
  refine SRun.ck tbokGB 2 ⟨223, [(3, vl eLabel x2), (4, vl (eI .i64) x3.1), (5, vi x3.2), (6, vl (eI .i64) x4.1), (7, vi x4.2), (8, .own 50), (9, vi x5.2), (10, .own 55), (11, vi x6.2), (12, vl eLabel x7.1), (13, vl (eI .i64) x7.2), (14, vb x8.1), (15, vi x8.2), (16, vb x9.1), (17, vi x9.2), (18, vi x10.1), (19, vi x10.2), (20, vi x11.1), (21, vi x11.2), (88, vl eLabel x7.1), (89, vl (eI .i64) x7.2)], [(50, oa 2 1 (eI .i64) x5.1), (55, oa 2 1 (eI .i64) x6.1)]⟩ ?_
  obtain ⟨x12, hx12, h⟩ := bind_some h
  refine SRun.ls (xc ents24 (impl_ClashesOf_run x7.1 x7.2 _ hx12)) ?_
  refine ckn tbokGB 5 ⟨223, [(3, vl eLabel x2), (4, vl (eI .i64) x3.1), (5, vi x3.2), (6, vl (eI .i64) x4.1), (7, vi x4.2), (8, .own 50), (9, vi x5.2), (10, .own 55), (11, vi x6.2), (12, vl eLabel x7.1), (13, vl (eI .i64) x7.2), (14, vb x8.1), (15, vi x8.2), (16, vb x9.1), (17, vi x9.2), (18, vi x10.1), (19, vi x10.2), (20, vi x11.1), (21, vi x11.2), (22, .own 90), (23, vi x12.2)], [(50, oa 2 1 (eI .i64) x5.1), (55, oa 2 1 (eI .i64) x6.1), (90, .deep 24 1 x12.1.length [(.sl 2 1 [.flat])] (x12.1.map (eL (eI .i64))))]⟩ ?_
  refine sr ?_
  refine SRun.ck tbokGB 2 ⟨223, [(3, vl eLabel x2), (4, vl (eI .i64) x3.1), (5, vi x3.2), (6, vl (eI .i64) x4.1), (7, vi x4.2), (8, .own 50), (9, vi x5.2), (10, .own 55), (11, vi x6.2), (14, vb x8.1), (15, vi x8.2), (16, vb x9.1), (17, vi x9.2), (18, vi x10.1), (19, vi x10.2), (20, vi x11.1), (21, vi x11.2), (22, .own 90), (23, vi x12.2), (94, vl eLabel x7.1), (95, vl (eI .i64) x7.2)], [(50, oa 2 1 (eI .i64) x5.1), (55, oa 2 1 (eI .i64) x6.1), (90, .deep 24 1 x12.1.length [(.sl 2 1 [.flat])] (x12.1.map (eL (eI .i64))))]⟩ ?_
  obtain ⟨x13, hx13, h⟩ := bind_some h
  refine SRun.ls (xc ents25 (spec_ClashesOf_run x7.1 x7.2 _ hx13)) ?_
  refine ckn tbokGB 5 ⟨223, [(3, vl eLabel x2), (4, vl (eI .i64) x3.1), (5, vi x3.2), (6, vl (eI .i64) x4.1), (7, vi x4.2), (8, .own 50), (9, vi x5.2), (10, .own 55), (11, vi x6.2), (14, vb x8.1), (15, vi x8.2), (16, vb x9.1), (17, vi x9.2), (18, vi x10.1), (19, vi x10.2), (20, vi x11.1), (21, vi x11.2), (22, .own 90), (23, vi x12.2), (24, .own 96), (25, vi x13.2)], [(50, oa 2 1 (eI .i64) x5.1), (55, oa 2 1 (eI .i64) x6.1), (90, .deep 24 1 x12.1.length [(.sl 2 1 [.flat])] (x12.1.map (eL (eI .i64)))), (96, .deep 24 1 x13.1.length [(.sl 2 1 [.flat])] (x13.1.map (eL (eI .i64))))]⟩ ?_
  refine swp_seq ?_
  refine swp_seq ?_
  refine swp_regJ h (fun j18 => ⟨223, [(3, vl eLabel x2), (4, vl (eI .i64) x3.1), (5, vi x3.2), (8, .own 8), (14, vb x8.1), (15, vi x8.2), (22, .own 22), (161, vb j18)], [(8, oa 2 1 (eI .i64) x5.1), (22, .deep 24 1 x12.1.length [(.sl 2 1 [.flat])] (x12.1.map (eL (eI .i64))))]⟩) (fun v19 h => ?_) (fun j18 h => ?_)
  refine SRun.ck tbokGB 4 ⟨223, [(3, vl eLabel x2), (4, vl (eI .i64) x3.1), (5, vi x3.2), (6, vl (eI .i64) x4.1), (7, vi x4.2), (8, .own 50), (9, vi x5.2), (10, .own 55), (11, vi x6.2), (14, vb x8.1), (15, vi x8.2), (16, vb x9.1), (17, vi x9.2), (18, vi x10.1), (19, vi x10.2), (20, vi x11.1), (21, vi x11.2), (22, .own 90), (23, vi x12.2), (24, .own 96), (25, vi x13.2), (102, vb (x3.2 != x4.2))], [(50, oa 2 1 (eI .i64) x5.1), (55, oa 2 1 (eI .i64) x6.1), (90, .deep 24 1 x12.1.length [(.sl 2 1 [.flat])] (x12.1.map (eL (eI .i64)))), (96, .deep 24 1 x13.1.length [(.sl 2 1 [.flat])] (x13.1.map (eL (eI .i64))))]⟩ ?_
  refine SRun.cu [(102, fun b => b)] h (fun h => ?_) fun h => ?_
  refine SRun.ck tbokGB 59 ⟨223, [(3, vl eLabel x2), (4, vl (eI .i64) x3.1), (5, vi x3.2), (8, .own 50), (14, vb x8.1), (15, vi x8.2), (22, .own 90), (161, vb true)], [(50, oa 2 1 (eI .i64) x5.1), (90, .deep 24 1 x12.1.length [(.sl 2 1 [.flat])] (x12.1.map (eL (eI .i64))))]⟩ ?_
  refine SRun.nil ?_
  obtain rfl := inj h
  exact Le.rr [50, 90] [(50, 8), (90, 22)]
  refine SRun.ck tbokGB 2 ⟨223, [(3, vl eLabel x2), (4, vl (eI .i64) x3.1), (5, vi x3.2), (7, vi x4.2), (8, .own 50), (9, vi x5.2), (10, .own 55), (11, vi x6.2), (14, vb x8.1), (15, vi x8.2), (16, vb x9.1), (17, vi x9.2), (18, vi x10.1), (19, vi x10.2), (20, vi x11.1), (21, vi x11.2), (22, .own 90), (23, vi x12.2), (24, .own 96), (25, vi x13.2), (102, vb false), (103, vl (eI .i64) x3.1), (104, vl (eI .i64) x4.1)], [(50, oa 2 1 (eI .i64) x5.1), (55, oa 2 1 (eI .i64) x6.1), (90, .deep 24 1 x12.1.length [(.sl 2 1 [.flat])] (x12.1.map (eL (eI .i64)))), (96, .deep 24 1 x13.1.length [(.sl 2 1 [.flat])] (x13.1.map (eL (eI .i64))))]⟩ ?_
  obtain ⟨x14, hx14, h⟩ := bind_some h
  refine SRun.ls (xc ents26 (laws_likeInts_run x3.1 x4.1 _ hx14)) ?_
  refine SRun.ck tbokGB 3 ⟨223, [(3, vl eLabel x2), (4, vl (eI .i64) x3.1), (5, vi x3.2), (7, vi x4.2), (8, .own 50), (9, vi x5.2), (10, .own 55), (11, vi x6.2), (14, vb x8.1), (15, vi x8.2), (16, vb x9.1), (17, vi x9.2), (18, vi x10.1), (19, vi x10.2), (20, vi x11.1), (21, vi x11.2), (22, .own 90), (23, vi x12.2), (24, .own 96), (25, vi x13.2), (108, vb (!x14))], [(50, oa 2 1 (eI .i64) x5.1), (55, oa 2 1 (eI .i64) x6.1), (90, .deep 24 1 x12.1.length [(.sl 2 1 [.flat])] (x12.1.map (eL (eI .i64)))), (96, .deep 24 1 x13.1.length [(.sl 2 1 [.flat])] (x13.1.map (eL (eI .i64))))]⟩ ?_
  refine SRun.cu [(108, fun b => b)] h (fun h => ?_) fun h => ?_
  refine SRun.ck tbokGB 53 ⟨223, [(3, vl eLabel x2), (4, vl (eI .i64) x3.1), (5, vi x3.2), (8, .own 50), (14, vb x8.1), (15, vi x8.2), (22, .own 90), (161, vb true)], [(50, oa 2 1 (eI .i64) x5.1), (90, .deep 24 1 x12.1.length [(.sl 2 1 [.flat])] (x12.1.map (eL (eI .i64))))]⟩ ?_
  refine SRun.nil ?_
  obtain rfl := inj h
  exact Le.rr [50, 90] [(50, 8), (90, 22)]
  refine SRun.ck tbokGB 5 ⟨223, [(3, vl eLabel x2), (4, vl (eI .i64) x3.1), (5, vi x3.2), (7, vi x4.2), (8, .own 50), (9, vi x5.2), (10, .own 55), (14, vb x8.1), (15, vi x8.2), (16, vb x9.1), (17, vi x9.2), (18, vi x10.1), (19, vi x10.2), (20, vi x11.1), (21, vi x11.2), (22, .own 90), (23, vi x12.2), (24, .own 96), (25, vi x13.2), (113, vb (x5.2 != x6.2))], [(50, oa 2 1 (eI .i64) x5.1), (55, oa 2 1 (eI .i64) x6.1), (90, .deep 24 1 x12.1.length [(.sl 2 1 [.flat])] (x12.1.map (eL (eI .i64)))), (96, .deep 24 1 x13.1.length [(.sl 2 1 [.flat])] (x13.1.map (eL (eI .i64))))]⟩ ?_
  refine SRun.cu [(113, fun b => b)] h (fun h => ?_) fun h => ?_
  refine SRun.ck tbokGB 48 ⟨223, [(3, vl eLabel x2), (4, vl (eI .i64) x3.1), (5, vi x3.2), (8, .own 50), (14, vb x8.1), (15, vi x8.2), (22, .own 90), (161, vb true)], [(50, oa 2 1 (eI .i64) x5.1), (90, .deep 24 1 x12.1.length [(.sl 2 1 [.flat])] (x12.1.map (eL (eI .i64))))]⟩ ?_
  refine SRun.nil ?_
  obtain rfl := inj h
  exact Le.rr [50, 90] [(50, 8), (90, 22)]
  refine SRun.ck tbokGB 2 ⟨223, [(3, vl eLabel x2), (4, vl (eI .i64) x3.1), (5, vi x3.2), (7, vi x4.2), (8, .own 50), (9, vi x5.2), (14, vb x8.1), (15, vi x8.2), (16, vb x9.1), (17, vi x9.2), (18, vi x10.1), (19, vi x10.2), (20, vi x11.1), (21, vi x11.2), (22, .own 90), (23, vi x12.2), (24, .own 96), (25, vi x13.2), (113, vb false), (114, .own 50), (115, .own 55)], [(50, oa 2 1 (eI .i64) x5.1), (55, oa 2 1 (eI .i64) x6.1), (90, .deep 24 1 x12.1.length [(.sl 2 1 [.flat])] (x12.1.map (eL (eI .i64)))), (96, .deep 24 1 x13.1.length [(.sl 2 1 [.flat])] (x13.1.map (eL (eI .i64))))]⟩ ?_
  obtain ⟨x15, hx15, h⟩ := bind_some h
  refine SRun.ls (xc ents26 (laws_likeInts_run x5.1 x6.1 _ hx15)) ?_
  refine SRun.ck tbokGB 3 ⟨223, [(3, vl eLabel x2), (4, vl (eI .i64) x3.1), (5, vi x3.2), (7, vi x4.2), (8, .own 50), (9, vi x5.2), (14, vb x8.1), (15, vi x8.2), (16, vb x9.1), (17, vi x9.2), (18, vi x10.1), (19, vi x10.2), (20, vi x11.1), (21, vi x11.2), (22, .own 90), (23, vi x12.2), (24, .own 96), (25, vi x13.2), (119, vb (!x15))], [(50, oa 2 1 (eI .i64) x5.1), (90, .deep 24 1 x12.1.length [(.sl 2 1 [.flat])] (x12.1.map (eL (eI .i64)))), (96, .deep 24 1 x13.1.length [(.sl 2 1 [.flat])] (x13.1.map (eL (eI .i64))))]⟩ ?_
  refine SRun.cu [(119, fun b => b)] h (fun h => ?_) fun h => ?_
  refine SRun.ck tbokGB 42 ⟨223, [(3, vl eLabel x2), (4, vl (eI .i64) x3.1), (5, vi x3.2), (8, .own 50), (14, vb x8.1), (15, vi x8.2), (22, .own 90), (161, vb true)], [(50, oa 2 1 (eI .i64) x5.1), (90, .deep 24 1 x12.1.length [(.sl 2 1 [.flat])] (x12.1.map (eL (eI .i64))))]⟩ ?_
  refine SRun.nil ?_
  obtain rfl := inj h
  exact Le.rr [50, 90] [(50, 8), (90, 22)]
  refine SRun.ck tbokGB 5 ⟨223, [(3, vl eLabel x2), (4, vl (eI .i64) x3.1), (5, vi x3.2), (7, vi x4.2), (8, .own 50), (9, vi x5.2), (14, vb x8.1), (15, vi x8.2), (16, vb x9.1), (18, vi x10.1), (19, vi x10.2), (20, vi x11.1), (21, vi x11.2), (22, .own 90), (23, vi x12.2), (24, .own 96), (25, vi x13.2), (124, vb (x8.2 != x9.2))], [(50, oa 2 1 (eI .i64) x5.1), (90, .deep 24 1 x12.1.length [(.sl 2 1 [.flat])] (x12.1.map (eL (eI .i64)))), (96, .deep 24 1 x13.1.length [(.sl 2 1 [.flat])] (x13.1.map (eL (eI .i64))))]⟩ ?_
  refine SRun.cu [(124, fun b => b)] h (fun h => ?_) fun h => ?_
  refine SRun.ck tbokGB 37 ⟨223, [(3, vl eLabel x2), (4, vl (eI .i64) x3.1), (5, vi x3.2), (8, .own 50), (14, vb x8.1), (15, vi x8.2), (22, .own 90), (161, vb true)], [(50, oa 2 1 (eI .i64) x5.1), (90, .deep 24 1 x12.1.length [(.sl 2 1 [.flat])] (x12.1.map (eL (eI .i64))))]⟩ ?_
  refine SRun.nil ?_
  obtain rfl := inj h
  exact Le.rr [50, 90] [(50, 8), (90, 22)]
  refine SRun.ck tbokGB 2 ⟨223, [(3, vl eLabel x2), (4, vl (eI .i64) x3.1), (5, vi x3.2), (7, vi x4.2), (8, .own 50), (9, vi x5.2), (14, vb x8.1), (15, vi x8.2), (18, vi x10.1), (19, vi x10.2), (20, vi x11.1), (21, vi x11.2), (22, .own 90), (23, vi x12.2), (24, .own 96), (25, vi x13.2), (124, vb false), (125, vb x8.1), (126, vb x9.1)], [(50, oa 2 1 (eI .i64) x5.1), (90, .deep 24 1 x12.1.length [(.sl 2 1 [.flat])] (x12.1.map (eL (eI .i64)))), (96, .deep 24 1 x13.1.length [(.sl 2 1 [.flat])] (x13.1.map (eL (eI .i64))))]⟩ ?_
  refine SRun.ls (x_lstep_eqb tbokGB (ti := ti4) (i := x8.1) (j := x9.1) true rfl) ?_
  refine SRun.ck tbokGB 2 ⟨223, [(3, vl eLabel x2), (4, vl (eI .i64) x3.1), (5, vi x3.2), (7, vi x4.2), (8, .own 50), (9, vi x5.2), (14, vb x8.1), (15, vi x8.2), (18, vi x10.1), (19, vi x10.2), (20, vi x11.1), (21, vi x11.2), (22, .own 90), (23, vi x12.2), (24, .own 96), (25, vi x13.2), (129, vb (!(x8.1 == x9.1)))], [(50, oa 2 1 (eI .i64) x5.1), (90, .deep 24 1 x12.1.length [(.sl 2 1 [.flat])] (x12.1.map (eL (eI .i64)))), (96, .deep 24 1 x13.1.length [(.sl 2 1 [.flat])] (x13.1.map (eL (eI .i64))))]⟩ ?_
  refine SRun.cu [(129, fun b => b)] h (fun h => ?_) fun h => ?_
  refine SRun.ck tbokGB 32 ⟨223, [(3, vl eLabel x2), (4, vl (eI .i64) x3.1), (5, vi x3.2), (8, .own 50), (14, vb x8.1), (15, vi x8.2), (22, .own 90), (161, vb true)], [(50, oa 2 1 (eI .i64) x5.1), (90, .deep 24 1 x12.1.length [(.sl 2 1 [.flat])] (x12.1.map (eL (eI .i64))))]⟩ ?_
  refine SRun.nil ?_
  obtain rfl := inj h
  exact Le.rr [50, 90] [(50, 8), (90, 22)]
  refine SRun.ck tbokGB 5 ⟨223, [(3, vl eLabel x2), (4, vl (eI .i64) x3.1), (5, vi x3.2), (7, vi x4.2), (8, .own 50), (9, vi x5.2), (14, vb x8.1), (15, vi x8.2), (18, vi x10.1), (20, vi x11.1), (22, .own 90), (23, vi x12.2), (24, .own 96), (25, vi x13.2), (134, vb (x10.2 != x11.2))], [(50, oa 2 1 (eI .i64) x5.1), (90, .deep 24 1 x12.1.length [(.sl 2 1 [.flat])] (x12.1.map (eL (eI .i64)))), (96, .deep 24 1 x13.1.length [(.sl 2 1 [.flat])] (x13.1.map (eL (eI .i64))))]⟩ ?_
  refine SRun.cu [(134, fun b => b)] h (fun h => ?_) fun h => ?_
  refine SRun.ck tbokGB 27 ⟨223, [(3, vl eLabel x2), (4, vl (eI .i64) x3.1), (5, vi x3.2), (8, .own 50), (14, vb x8.1), (15, vi x8.2), (22, .own 90), (161, vb true)], [(50, oa 2 1 (eI .i64) x5.1), (90, .deep 24 1 x12.1.length [(.sl 2 1 [.flat])] (x12.1.map (eL (eI .i64))))]⟩ ?_
  refine SRun.nil ?_
  obtain rfl := inj h
  exact Le.rr [50, 90] [(50, 8), (90, 22)]
  refine SRun.ck tbokGB 5 ⟨223, [(3, vl eLabel x2), (4, vl (eI .i64) x3.1), (5, vi x3.2), (7, vi x4.2), (8, .own 50), (9, vi x5.2), (14, vb x8.1), (15, vi x8.2), (22, .own 90), (23, vi x12.2), (24, .own 96), (25, vi x13.2), (139, vb (x10.1 != x11.1))], [(50, oa 2 1 (eI .i64) x5.1), (90, .deep 24 1 x12.1.length [(.sl 2 1 [.flat])] (x12.1.map (eL (eI .i64)))), (96, .deep 24 1 x13.1.length [(.sl 2 1 [.flat])] (x13.1.map (eL (eI .i64))))]⟩ ?_
  refine SRun.cu [(139, fun b => b)] h (fun h => ?_) fun h => ?_
  refine SRun.ck tbokGB 22 ⟨223, [(3, vl eLabel x2), (4, vl (eI .i64) x3.1), (5, vi x3.2), (8, .own 50), (14, vb x8.1), (15, vi x8.2), (22, .own 90), (161, vb true)], [(50, oa 2 1 (eI .i64) x5.1), (90, .deep 24 1 x12.1.length [(.sl 2 1 [.flat])] (x12.1.map (eL (eI .i64))))]⟩ ?_
  refine SRun.nil ?_
  obtain rfl := inj h
  exact Le.rr [50, 90] [(50, 8), (90, 22)]
  refine SRun.ck tbokGB 5 ⟨223, [(3, vl eLabel x2), (4, vl (eI .i64) x3.1), (5, vi x3.2), (7, vi x4.2), (8, .own 50), (9, vi x5.2), (14, vb x8.1), (15, vi x8.2), (22, .own 90), (24, .own 96), (144, vb (x12.2 != x13.2))], [(50, oa 2 1 (eI .i64) x5.1), (90, .deep 24 1 x12.1.length [(.sl 2 1 [.flat])] (x12.1.map (eL (eI .i64)))), (96, .deep 24 1 x13.1.length [(.sl 2 1 [.flat])] (x13.1.map (eL (eI .i64))))]⟩ ?_
  refine SRun.cu [(144, fun b => b)] h (fun h => ?_) fun h => ?_
  refine SRun.ck tbokGB 17 ⟨223, [(3, vl eLabel x2), (4, vl (eI .i64) x3.1), (5, vi x3.2), (8, .own 50), (14, vb x8.1), (15, vi x8.2), (22, .own 90), (161, vb true)], [(50, oa 2 1 (eI .i64) x5.1), (90, .deep 24 1 x12.1.length [(.sl 2 1 [.flat])] (x12.1.map (eL (eI .i64))))]⟩ ?_
  refine SRun.nil ?_
  obtain rfl := inj h
  exact Le.rr [50, 90] [(50, 8), (90, 22)]
  refine SRun.ck tbokGB 2 ⟨223, [(3, vl eLabel x2), (4, vl (eI .i64) x3.1), (5, vi x3.2), (7, vi x4.2), (8, .own 50), (9, vi x5.2), (14, vb x8.1), (15, vi x8.2), (22, .own 90), (144, vb false), (145, .own 90), (146, .own 96)], [(50, oa 2 1 (eI .i64) x5.1), (90, .deep 24 1 x12.1.length [(.sl 2 1 [.flat])] (x12.1.map (eL (eI .i64)))), (96, .deep 24 1 x13.1.length [(.sl 2 1 [.flat])] (x13.1.map (eL (eI .i64))))]⟩ ?_
  obtain ⟨x16, hx16, h⟩ := bind_some h
  refine SRun.ls (xc ents27 (laws_likeTables_run x12.1 x13.1 _ hx16)) ?_
  refine SRun.ck tbokGB 3 ⟨223, [(3, vl eLabel x2), (4, vl (eI .i64) x3.1), (5, vi x3.2), (7, vi x4.2), (8, .own 50), (9, vi x5.2), (14, vb x8.1), (15, vi x8.2), (22, .own 90), (150, vb (!x16))], [(50, oa 2 1 (eI .i64) x5.1), (90, .deep 24 1 x12.1.length [(.sl 2 1 [.flat])] (x12.1.map (eL (eI .i64))))]⟩ ?_
  refine SRun.cu [(150, fun b => b)] h (fun h => ?_) fun h => ?_
  refine SRun.ck tbokGB 11 ⟨223, [(3, vl eLabel x2), (4, vl (eI .i64) x3.1), (5, vi x3.2), (8, .own 50), (14, vb x8.1), (15, vi x8.2), (22, .own 90), (161, vb true)], [(50, oa 2 1 (eI .i64) x5.1), (90, .deep 24 1 x12.1.length [(.sl 2 1 [.flat])] (x12.1.map (eL (eI .i64))))]⟩ ?_
  refine SRun.nil ?_
  obtain rfl := inj h
  exact Le.rr [50, 90] [(50, 8), (90, 22)]
  refine SRun.ck tbokGB 1 ⟨223, [(3, vl eLabel x2), (4, vl (eI .i64) x3.1), (5, vi x3.2), (7, vi x4.2), (8, .own 50), (9, vi x5.2), (14, vb x8.1), (15, vi x8.2), (22, .own 90), (150, vb false), (151, vl eLabel x2)], [(50, oa 2 1 (eI .i64) x5.1), (90, .deep 24 1 x12.1.length [(.sl 2 1 [.flat])] (x12.1.map (eL (eI .i64))))]⟩ ?_
  obtain ⟨x17, hx17, h⟩ := bind_some h
  refine SRun.ls (xc ents28 (impl_AreLabels_run x2 _ hx17)) ?_
  refine SRun.ck tbokGB 2 ⟨223, [(3, vl eLabel x2), (4, vl (eI .i64) x3.1), (5, vi x3.2), (8, .own 50), (9, vi x5.2), (14, vb x8.1), (15, vi x8.2), (22, .own 90), (150, vb false), (152, vb x17), (154, vb (x4.2 == 0))], [(50, oa 2 1 (eI .i64) x5.1), (90, .deep 24 1 x12.1.length [(.sl 2 1 [.flat])] (x12.1.map (eL (eI .i64))))]⟩ ?_
  refine SRun.ls (x_lstep_eqb tbokGB (ti := ti4) (i := x17) (j := (x4.2 == 0)) true rfl) ?_
  refine SRun.ck tbokGB 2 ⟨223, [(3, vl eLabel x2), (4, vl (eI .i64) x3.1), (5, vi x3.2), (8, .own 50), (9, vi x5.2), (14, vb x8.1), (15, vi x8.2), (22, .own 90), (157, vb (!(x17 == (x4.2 == 0))))], [(50, oa 2 1 (eI .i64) x5.1), (90, .deep 24 1 x12.1.length [(.sl 2 1 [.flat])] (x12.1.map (eL (eI .i64))))]⟩ ?_
  refine SRun.cu [(157, fun b => b)] h (fun h => ?_) fun h => ?_
  refine SRun.ck tbokGB 4 ⟨223, [(3, vl eLabel x2), (4, vl (eI .i64) x3.1), (5, vi x3.2), (8, .own 50), (14, vb x8.1), (15, vi x8.2), (22, .own 90), (161, vb true)], [(50, oa 2 1 (eI .i64) x5.1), (90, .deep 24 1 x12.1.length [(.sl 2 1 [.flat])] (x12.1.map (eL (eI .i64))))]⟩ ?_
  refine SRun.nil ?_
  obtain rfl := inj h
  exact Le.rr [50, 90] [(50, 8), (90, 22)]
  refine SRun.ck tbokGB 4 ⟨223, [(3, vl eLabel x2), (4, vl (eI .i64) x3.1), (5, vi x3.2), (8, .own 50), (14, vb x8.1), (15, vi x8.2), (22, .own 90), (161, vb (x5.2 != x3.2))], [(50, oa 2 1 (eI .i64) x5.1), (90, .deep 24 1 x12.1.length [(.sl 2 1 [.flat])] (x12.1.map (eL (eI .i64))))]⟩ ?_
  refine SRun.nil ?_
  obtain rfl := inj h
  exact Le.rr [50, 90] [(50, 8), (90, 22)]
  refine swp_cd h (fun h => ?_) fun h => ?_
  refine srk tbokGB ⟨223, [(2, vb false)], []⟩ ?_
  refine swp_ret ?_
  obtain rfl := inj h
  exact nx_r (q_fr (f1 fv))
  refine swp_skip ?_
  refine nx_n ?_
  refine swp_seq ?_
  refine swp_seq ?_
  refine swp_regP ⟨223, [(3, vl eLabel x2), (4, vl (eI .i64) x3.1), (5, vi x3.2), (8, .own 8), (171, vb ((x8.2 == 0) && (x8.1 && (decide ((x12.1.length : Int) > 0)))))], [(8, oa 2 1 (eI .i64) x5.1)]⟩ ?_ ?_
  refine SRun.ck tbokGB 3 ⟨223, [(3, vl eLabel x2), (4, vl (eI .i64) x3.1), (5, vi x3.2), (8, .own 8), (14, vb x8.1), (22, .own 22), (164, vb (x8.2 == 0))], [(8, oa 2 1 (eI .i64) x5.1), (22, .deep 24 1 x12.1.length [(.sl 2 1 [.flat])] (x12.1.map (eL (eI .i64))))]⟩ ?_
  generalize (x8.2 == 0) = bb
  cases bb
  refine SRun.ck tbokGB 7 ⟨223, [(3, vl eLabel x2), (4, vl (eI .i64) x3.1), (5, vi x3.2), (8, .own 8), (171, vb false)], [(8, oa 2 1 (eI .i64) x5.1)]⟩ ?_
  exact SRun.nil (Le.sub0)
  refine SRun.ck tbokGB 3 ⟨223, [(3, vl eLabel x2), (4, vl (eI .i64) x3.1), (5, vi x3.2), (8, .own 8), (22, .own 22), (167, vb x8.1)], [(8, oa 2 1 (eI .i64) x5.1), (22, .deep 24 1 x12.1.length [(.sl 2 1 [.flat])] (x12.1.map (eL (eI .i64))))]⟩ ?_
  generalize x8.1 = bb
  cases bb
  refine SRun.ck tbokGB 4 ⟨223, [(3, vl eLabel x2), (4, vl (eI .i64) x3.1), (5, vi x3.2), (8, .own 8), (171, vb false)], [(8, oa 2 1 (eI .i64) x5.1)]⟩ ?_
  exact SRun.nil (Le.sub0)
  refine SRun.ck tbokGB 1 ⟨223, [(3, vl eLabel x2), (4, vl (eI .i64) x3.1), (5, vi x3.2), (8, .own 8), (167, vb true), (168, .own 22)], [(8, oa 2 1 (eI .i64) x5.1), (22, .deep 24 1 x12.1.length [(.sl 2 1 [.flat])] (x12.1.map (eL (eI .i64))))]⟩ ?_
  refine SRun.ls (x_len_deep (d := 22) (e := 24) (e' := 24) (m := 1) (n := x12.1.length) (ss := [(.sl 2 1 [.flat])]) (es := x12.1.map (eL (eI .i64))) (ti := ti43) tbokGB rfl rfl rfl) ?_
  refine SRun.ck tbokGB 2 ⟨223, [(3, vl eLabel x2), (4, vl (eI .i64) x3.1), (5, vi x3.2), (8, .own 8), (171, vb (decide ((x12.1.length : Int) > 0)))], [(8, oa 2 1 (eI .i64) x5.1)]⟩ ?_
  exact SRun.nil (Le.sub0)
  refine swp_cd h (fun h => ?_) fun h => ?_
  refine srk tbokGB ⟨223, [(2, vb false)], []⟩ ?_
  refine swp_ret ?_
  obtain rfl := inj h
  exact nx_r (q_fr (f1 fv))
  refine swp_skip ?_
  refine nx_n ?_
  refine swp_seq ?_
  refine srk tbokGB ⟨223, [(3, vl eLabel x2), (4, vl (eI .i64) x3.1), (8, .own 8), (173, vb (x3.2 != 0))], [(8, oa 2 1 (eI .i64) x5.1)]⟩ ?_
  refine swp_cd h (fun h => ?_) fun h => ?_
  refine srk tbokGB ⟨223, [(2, vb true)], []⟩ ?_
  refine swp_ret ?_
  obtain rfl := inj h
  exact nx_r (q_fr (f1 fv))
  refine swp_skip ?_
  refine nx_n ?_
  refine sr ?_
  refine SRun.ck tbokGB 2 ⟨223, [(3, vl eLabel x2), (4, vl (eI .i64) x3.1), (8, .own 8), (175, vl eLabel x2), (176, vl (eI .i64) x3.1)], [(8, oa 2 1 (eI .i64) x5.1)]⟩ ?_
  obtain ⟨x20, hx20, h⟩ := bind_some h
  refine SRun.ls (xc ents20 (impl_IsClear_run x2 x3.1 _ hx20)) ?_
  refine ckn tbokGB 5 ⟨223, [(3, vl eLabel x2), (4, vl (eI .i64) x3.1), (8, .own 8), (26, vb x20.1), (27, vi x20.2)], [(8, oa 2 1 (eI .i64) x5.1)]⟩ ?_
  refine sr ?_
  refine SRun.ck tbokGB 2 ⟨223, [(3, vl eLabel x2), (4, vl (eI .i64) x3.1), (8, .own 8), (26, vb x20.1), (27, vi x20.2), (181, vl eLabel x2), (182, .own 8)], [(8, oa 2 1 (eI .i64) x5.1)]⟩ ?_
  obtain ⟨x21, hx21, h⟩ := bind_some h
  refine SRun.ls (xc ents20 (impl_IsClear_run x2 x5.1 _ hx21)) ?_
  refine ckn tbokGB 5 ⟨223, [(3, vl eLabel x2), (4, vl (eI .i64) x3.1), (8, .own 8), (26, vb x20.1), (27, vi x20.2), (28, vb x21.1), (29, vi x21.2)], [(8, oa 2 1 (eI .i64) x5.1)]⟩ ?_
  refine sr ?_
  refine SRun.ck tbokGB 2 ⟨223, [(3, vl eLabel x2), (8, .own 8), (26, vb x20.1), (27, vi x20.2), (28, vb x21.1), (29, vi x21.2), (187, vl eLabel x2), (188, vl (eI .i64) x3.1)], [(8, oa 2 1 (eI .i64) x5.1)]⟩ ?_
  obtain ⟨x22, hx22, h⟩ := bind_some h
  refine SRun.ls (xc ents22 (impl_ScoreOf_run x2 x3.1 _ hx22)) ?_
  refine ckn tbokGB 5 ⟨223, [(3, vl eLabel x2), (8, .own 8), (26, vb x20.1), (27, vi x20.2), (28, vb x21.1), (29, vi x21.2), (30, vi x22.1), (31, vi x22.2)], [(8, oa 2 1 (eI .i64) x5.1)]⟩ ?_
  refine sr ?_
  refine SRun.ck tbokGB 2 ⟨223, [(26, vb x20.1), (27, vi x20.2), (28, vb x21.1), (29, vi x21.2), (30, vi x22.1), (31, vi x22.2), (193, vl eLabel x2), (194, .own 8)], [(8, oa 2 1 (eI .i64) x5.1)]⟩ ?_
  obtain ⟨x23, hx23, h⟩ := bind_some h
  refine SRun.ls (xc ents22 (impl_ScoreOf_run x2 x5.1 _ hx23)) ?_
  refine ckn tbokGB 5 ⟨223, [(26, vb x20.1), (27, vi x20.2), (28, vb x21.1), (29, vi x21.2), (30, vi x22.1), (31, vi x22.2), (32, vi x23.1), (33, vi x23.2)], []⟩ ?_
  refine swp_seq ?_
  refine swp_regP ⟨223, [(2, vb ((x20.2 == 0) && (x20.1 && ((x21.2 == 0) && (x21.1 && ((x22.2 == 0) && ((x23.2 == 0) && (decide (x23.1 ≤ x22.1)))))))))], []⟩ ?_ ?_
  refine SRun.ck tbokGB 3 ⟨223, [(26, vb x20.1), (28, vb x21.1), (29, vi x21.2), (30, vi x22.1), (31, vi x22.2), (32, vi x23.1), (33, vi x23.2), (200, vb (x20.2 == 0))], []⟩ ?_
  generalize (x20.2 == 0) = bb
  cases bb
  refine SRun.ck tbokGB 23 ⟨223, [(2, vb false)], []⟩ ?_
  exact SRun.nil (Le.sub0)
  refine SRun.ck tbokGB 3 ⟨223, [(28, vb x21.1), (29, vi x21.2), (30, vi x22.1), (31, vi x22.2), (32, vi x23.1), (33, vi x23.2), (203, vb x20.1)], []⟩ ?_
  generalize x20.1 = bb
  cases bb
  refine SRun.ck tbokGB 20 ⟨223, [(2, vb false)], []⟩ ?_
  exact SRun.nil (Le.sub0)
  refine SRun.ck tbokGB 4 ⟨223, [(28, vb x21.1), (30, vi x22.1), (31, vi x22.2), (32, vi x23.1), (33, vi x23.2), (207, vb (x21.2 == 0))], []⟩ ?_
  generalize (x21.2 == 0) = bb
  cases bb
  refine SRun.ck tbokGB 16 ⟨223, [(2, vb false)], []⟩ ?_
  exact SRun.nil (Le.sub0)
  refine SRun.ck tbokGB 3 ⟨223, [(30, vi x22.1), (31, vi x22.2), (32, vi x23.1), (33, vi x23.2), (210, vb x21.1)], []⟩ ?_
  generalize x21.1 = bb
  cases bb
  refine SRun.ck tbokGB 13 ⟨223, [(2, vb false)], []⟩ ?_
  exact SRun.nil (Le.sub0)
  refine SRun.ck tbokGB 4 ⟨223, [(30, vi x22.1), (32, vi x23.1), (33, vi x23.2), (214, vb (x22.2 == 0))], []⟩ ?_
  generalize (x22.2 == 0) = bb
  cases bb
  refine SRun.ck tbokGB 9 ⟨223, [(2, vb false)], []⟩ ?_
  exact SRun.nil (Le.sub0)
  refine SRun.ck tbokGB 4 ⟨223, [(30, vi x22.1), (32, vi x23.1), (218, vb (x23.2 == 0))], []⟩ ?_
  generalize (x23.2 == 0) = bb
  cases bb
  refine SRun.ck tbokGB 5 ⟨223, [(2, vb false)], []⟩ ?_
  exact SRun.nil (Le.sub0)
  refine SRun.ck tbokGB 5 ⟨223, [(2, vb (decide (x23.1 ≤ x22.1)))], []⟩ ?_
  exact SRun.nil (Le.sub0)
  refine swp_ret ?_
  obtain rfl := inj h
  exact q_fr (f1 fv)
end Go.Proofs.Ytlhllbiikideeaa.Sh
