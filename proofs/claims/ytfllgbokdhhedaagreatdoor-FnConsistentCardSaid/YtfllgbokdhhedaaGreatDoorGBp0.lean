/- Typed functions and the calls that do what they say. -/
import Derived.Test.YtfllgbokdhhedaaGreatDoorSE
import Derived.Test.YtfllgbokdhhedaaGreatDoorKA
import Derived.Test.YtfllgbokdhhedaaGreatDoorKS
import Derived.Test.YtfllgbokdhhedaaGreatDoorSF
import Derived.Test.YtfllgbokdhhedaaGreatDoorH1
namespace Go.Proofs.YtfllgbokdhhedaaGreatDoor.Sh
open Go.RowKit
set_option maxRecDepth 100000
set_option maxHeartbeats 4000000
structure Span where
  From : Int
  To : Int
def eSpan (x : Span) : List Tr := [.int .i64 x.From, .int .i64 x.To]
structure Claim where
  Source : ByteArray
  Kind : Int
  Place : ByteArray
  Value : ByteArray
  Years : Span
  Weight : Int
def eClaim (x : Claim) : List Tr := [.str x.Source, .int .i64 x.Kind, .str x.Place, .str x.Value, .int .i64 x.Years.From, .int .i64 x.Years.To, .int .i64 x.Weight]
theorem eClaim_flat (x : Claim) : ∀ t ∈ eClaim x, t.flat = true := by simp [eClaim, Tr.flat]
structure l01Source where
  code : (List Int)
  at' : Int
  seed : Int
def el01Source (x : l01Source) : List Tr := [.sl x.code.length (x.code.map (eI .u8)), .int .i64 x.at', .int .i64 x.seed]
def ti2 : TI := ⟨1, 8, .int .i64, [.int .i64 0]⟩
def ti3 : TI := ⟨1, 8, .int .i64, [.int .i64 0]⟩
def ti4 : TI := ⟨1, 1, .bool, [.bool false]⟩
def ti5 : TI := ⟨1, 1, .int .u8, [.int .u8 0]⟩
def ti9 : TI := ⟨1, 16, .str, [.str (ByteArray.mk #[])]⟩
def ti22 : TI := ⟨1, 24, .slice 5, [.sl ([] : List Int).length (([] : List Int).map (eI .u8))]⟩
def ti24 : TI := ⟨1, 24, .slice 35, [.sl ([] : List Claim).length (([] : List Claim).map eClaim)]⟩
def ti28 : TI := ⟨1, 24, .slice 2, [.sl ([] : List Int).length (([] : List Int).map (eI .i64))]⟩
def ti33 : TI := ⟨2, 16, .struct [(0, 2), (1, 2)], [.int .i64 0, .int .i64 0]⟩
def ti35 : TI := ⟨7, 80, .struct [(0, 9), (1, 2), (2, 9), (3, 9), (4, 33), (6, 2)], [.str (ByteArray.mk #[]), .int .i64 0, .str (ByteArray.mk #[]), .str (ByteArray.mk #[]), .int .i64 0, .int .i64 0, .int .i64 0]⟩
def ti45 : TI := ⟨1, 24, .slice 28, [.sl ([] : List (List Int)).length (([] : List (List Int)).map (eL (eI .i64)))]⟩
def ti60 : TI := ⟨1, 24, .slice 9, [.sl ([] : List ByteArray).length (([] : List ByteArray).map eS)]⟩
def ti66 : TI := ⟨3, 40, .struct [(0, 22), (1, 3), (2, 2)], [.sl ([] : List Int).length (([] : List Int).map (eI .u8)), .int .i64 0, .int .i64 0]⟩
def tbl : Tb := [(2, ti2), (3, ti3), (4, ti4), (5, ti5), (9, ti9), (22, ti22), (24, ti24), (28, ti28), (33, ti33), (35, ti35), (45, ti45), (60, ti60), (66, ti66)]
theorem tbok : TbOk Tryz.prog tbl := TbOk.cons ⟨by kernel_rfl, show Tryz.prog.underlying 2 = some (.int .i64) from by kernel_rfl⟩ (TbOk.cons ⟨by kernel_rfl, show Tryz.prog.underlying 3 = some (.int .i64) from by kernel_rfl⟩ (TbOk.cons ⟨by kernel_rfl, show Tryz.prog.underlying 4 = some (.bool) from by kernel_rfl⟩ (TbOk.cons ⟨by kernel_rfl, show Tryz.prog.underlying 5 = some (.int .u8) from by kernel_rfl⟩ (TbOk.cons ⟨by kernel_rfl, show Tryz.prog.underlying 9 = some (.string) from by kernel_rfl⟩ (TbOk.cons ⟨by kernel_rfl, show Tryz.prog.underlying 22 = some (.slice 5) from by kernel_rfl⟩ (TbOk.cons ⟨by kernel_rfl, show Tryz.prog.underlying 24 = some (.slice 35) from by kernel_rfl⟩ (TbOk.cons ⟨by kernel_rfl, show Tryz.prog.underlying 28 = some (.slice 2) from by kernel_rfl⟩ (TbOk.cons ⟨by kernel_rfl, show structOf Tryz.prog 33 = some [(0, 2), (1, 2)] from by kernel_rfl⟩ (TbOk.cons ⟨by kernel_rfl, show structOf Tryz.prog 35 = some [(0, 9), (1, 2), (2, 9), (3, 9), (4, 33), (6, 2)] from by kernel_rfl⟩ (TbOk.cons ⟨by kernel_rfl, show Tryz.prog.underlying 45 = some (.slice 28) from by kernel_rfl⟩ (TbOk.cons ⟨by kernel_rfl, show Tryz.prog.underlying 60 = some (.slice 9) from by kernel_rfl⟩ (TbOk.cons ⟨by kernel_rfl, show structOf Tryz.prog 66 = some [(0, 22), (1, 3), (2, 2)] from by kernel_rfl⟩ (TbOk.nil _)))))))))))))
theorem mixed : Tryz.prog.follows .mixedOrders = true := by kernel_rfl
noncomputable def laws_big (aCode : (List Int)) : Option (Bool) :=
  some (decide ((aCode.length : Int) > 4096))
theorem laws_big_run (aCode : (List Int)) (r : Bool) (h : laws_big aCode = some r) : SCall Tryz.prog 4 [.v (vl (eI .u8) aCode)] ⟨[.v (vb r)], [], false⟩ := by
  refine scall_in Tryz.func4 rfl [(.tmp 2)] rfl (fun r => ⟨[.v (vb r)], [], false⟩) (r := r) ?_
  unfold laws_big at h
  refine srk tbok ⟨6, [(0, vl (eI .u8) aCode)], []⟩ ?_
  refine srk tbok ⟨6, [(2, vb (decide ((aCode.length : Int) > 4096)))], []⟩ ?_
  refine swp_ret ?_
  obtain rfl := inj h
  exact q_fr (f1 fv)
theorem ents4 : Ents Tryz.prog 4 := ents_of Tryz.func4 (by kernel_rfl) rfl
noncomputable def spec_l01From (aCode : (List Int)) : Option (l01Source) :=
  (((forH (fun (i3 : Int) (_ : l01Source) => ((decide (i3 < (aCode.length : Int))) && (decide (i3 < 64)))) (fun (i3 : Int) (s3 : l01Source) => ((at' aCode i3).bind fun x7 => some (l01Source.mk s3.code s3.at' (Int.tmod (w64 ((w64 (s3.seed * 73)) + (w64 x7))) 2147483647)))) (fun (s3 : l01Source) => s3) 0 (l01Source.mk aCode 0 51031))).bind fun (j1 : l01Source) => some j1)
theorem spec_l01From_run (aCode : (List Int)) (r : l01Source) (h : spec_l01From aCode = some r) : SCall Tryz.prog 22 [.v (vl (eI .u8) aCode)] ⟨[.box [vl (eI .u8) r.code, vi r.at', vi r.seed]], [], true⟩ := by
  refine scall_in Tryz.func22 rfl [(.tmp 2)] rfl (fun r => ⟨[.box [vl (eI .u8) r.code, vi r.at', vi r.seed]], [], true⟩) (r := r) ?_
  unfold spec_l01From at h
  refine sr ?_
  refine SRun.ls (x_lstep_skip rfl) ?_
  refine SRun.nx ?_
  refine sr ?_
  refine SRun.ck tbok 1 ⟨34, [(0, vl (eI .u8) aCode), (5, vl (eI .u8) aCode)], []⟩ ?_
  refine SRun.ls (x_lstep_build (v := .agg [vl (eI .u8) aCode, vi 0, vi 51031]) tbok rfl) ?_
  refine ckn tbok 2 ⟨34, [(0, vl (eI .u8) aCode), (3, .ref 7 0)], [(7, .box [vl (eI .u8) aCode, vi 0, vi 51031])]⟩ ?_
  refine swp_seq ?_
  refine srk tbok ⟨34, [(0, vl (eI .u8) aCode), (3, .ref 7 0), (4, vi 0)], [(7, .box [vl (eI .u8) aCode, vi 0, vi 51031])]⟩ ?_
  refine swp_seqJ h (fun j1 => ⟨34, [(3, .ref 7 0)], [(7, .box (tc el01Source j1))]⟩) (fun v2 h => ?_) (fun j1 h => ?_)
  refine swp_blk (a := v2) ?_
  refine swp_lpL (r := v2) (s := (0, (l01Source.mk aCode 0 51031))) _ (fun s3 => ⟨34, [(0, vl (eI .u8) aCode), (3, .ref 7 0), (4, vi s3.1)], [(7, .box (tc el01Source s3.2))]⟩) _ (Le.sub0) h (fun s3 v4 h => ?_)
  refine swp_seq ?_
  refine swp_seq ?_
  refine swp_regP ⟨34, [(0, vl (eI .u8) aCode), (3, .ref 7 0), (4, vi s3.1), (15, vb ((decide (s3.1 < (aCode.length : Int))) && (decide (s3.1 < 64))))], [(7, .box (tc el01Source s3.2))]⟩ ?_ ?_
  refine SRun.ck tbok 5 ⟨34, [(0, vl (eI .u8) aCode), (3, .ref 7 0), (4, vi s3.1), (12, vb (decide (s3.1 < (aCode.length : Int))))], [(7, .box (tc el01Source s3.2))]⟩ ?_
  generalize (decide (s3.1 < (aCode.length : Int))) = bb
  cases bb
  refine SRun.ck tbok 3 ⟨34, [(0, vl (eI .u8) aCode), (3, .ref 7 0), (4, vi s3.1), (15, vb false)], [(7, .box (tc el01Source s3.2))]⟩ ?_
  exact SRun.nil (Le.sub0)
  refine SRun.ck tbok 3 ⟨34, [(0, vl (eI .u8) aCode), (3, .ref 7 0), (4, vi s3.1), (15, vb (decide (s3.1 < 64)))], [(7, .box (tc el01Source s3.2))]⟩ ?_
  exact SRun.nil (Le.sub0)
  refine swp_cd h (fun h => ?_) fun h => ?_
  refine swp_skip ?_
  refine nx_n ?_
  refine swp_seq ?_
  refine swp_seqJ h (fun j5 => ⟨34, [(0, vl (eI .u8) aCode), (3, .ref 7 0), (4, vi s3.1)], [(7, .box (tc el01Source j5))]⟩) (fun v6 h => ?_) (fun j5 h => ?_)
  refine swp_blk (a := v6) ?_
  refine swp_dr mixed ?_
  refine DGo.ck tbok false 8 ⟨34, [(0, vl (eI .u8) aCode), (3, .ref 7 0), (4, vi s3.1), (18, .ref 7 0), (23, vi (w64 (s3.2.seed * 73))), (24, vl (eI .u8) aCode), (25, vi s3.1)], [(7, .box (tc el01Source s3.2))]⟩ ?_
  obtain ⟨x7, hx7, h⟩ := bind_some h
  refine DGo.step (x_index (L := aCode) (f := (eI .u8)) (ti := ti22) (tj := ti5) (e := 5) (k := .i64) tbok rfl hx7) ?_
  refine DGo.ck tbok false 6 ⟨34, [(0, vl (eI .u8) aCode), (3, .ref 7 0), (4, vi s3.1), (30, vi (Int.tmod (w64 ((w64 (s3.2.seed * 73)) + (w64 x7))) 2147483647)), (32, .ref 7 2)], [(7, .box (tc el01Source s3.2))]⟩ ?_
  refine DGo.seq (by kernel_rfl) (by kernel_rfl) ?_
  refine SRun.ck tbok 1 ⟨34, [(0, vl (eI .u8) aCode), (3, .ref 7 0), (4, vi s3.1)], [(7, .box [vl (eI .u8) s3.2.code, vi s3.2.at', vi (Int.tmod (w64 ((w64 (s3.2.seed * 73)) + (w64 x7))) 2147483647)])]⟩ ?_
  refine SRun.nil ?_
  obtain rfl := inj h
  exact q_bn (q_j (Le.sub0))
  refine swp_reg ?_
  refine SRun.ck tbok 3 ⟨34, [(0, vl (eI .u8) aCode), (3, .ref 7 0), (4, vi (w64 (s3.1 + 1)))], [(7, .box (tc el01Source j5))]⟩ ?_
  refine SRun.nil ?_
  obtain rfl := inj h
  exact q_l (Le.sub0)
  refine swp_exit ?_
  obtain rfl := inj h
  exact nx_e (q_re (q_bh (q_j (Le.sub0))))
  refine srk tbok ⟨34, [(2, .ref 7 0)], [(7, .box (tc el01Source j1))]⟩ ?_
  refine swp_ret ?_
  obtain rfl := inj h
  exact q_fr (f1 (finBT (d := 7) (holds_t (by kernel_rfl)) (by kernel_rfl) rfl (by kernel_rfl)))
theorem ents22 : Ents Tryz.prog 22 := ents_of Tryz.func22 (by kernel_rfl) rfl
noncomputable def spec_l01Next (aS : l01Source) (aN : Int) : Option (Int × l01Source) :=
  (bif (decide (aN ≤ 1)) then some (0, aS) else (((bif (decide (aS.at' < (aS.code.length : Int))) then ((at' aS.code aS.at').bind fun x3 => (bif ((decide (aN ≤ 256)) && ((Int.tmod (w64 (aS.at' + 1)) 2) == 0)) then ((at' aS.code (w64 ((w64 (aS.at' + 1)) - 1))).bind fun x4 => some ((w64 x4), (l01Source.mk aS.code (w64 (aS.at' + 1)) (Int.tmod (w64 ((w64 (aS.seed * 48271)) + 29)) 2147483647)))) else some ((w64 ((w64 (Int.tdiv (Int.tmod (w64 ((w64 (aS.seed * 48271)) + 29)) 2147483647) 31)) + (w64 x3))), (l01Source.mk aS.code (w64 (aS.at' + 1)) (Int.tmod (w64 ((w64 (aS.seed * 48271)) + 29)) 2147483647))))) else some ((w64 (Int.tdiv (Int.tmod (w64 ((w64 (aS.seed * 48271)) + 29)) 2147483647) 31)), (l01Source.mk aS.code aS.at' (Int.tmod (w64 ((w64 (aS.seed * 48271)) + 29)) 2147483647))))).bind fun (j1 : Int × l01Source) => ((nz' aN).bind fun _ => some ((Int.tmod j1.1 aN), j1.2))))
theorem spec_l01Next_run (aS : l01Source) (aN : Int) (r : Int × l01Source) (h : spec_l01Next aS aN = some r) : SCall Tryz.prog 23 [.o (.box [vl (eI .u8) aS.code, vi aS.at', vi aS.seed]), .v (vi aN)] ⟨[.v (vi r.1)], [(0, .box (tc el01Source r.2))], false⟩ := by
  refine scall_in Tryz.func23 rfl [(.tmp 4)] rfl (fun r => ⟨[.v (vi r.1)], [(0, .box (tc el01Source r.2))], false⟩) (r := r) ?_
  unfold spec_l01Next at h
  refine srk tbok ⟨78, [(0, .ref 1000000 0), (1, vi aN)], [(1000000, .box (tc el01Source aS))]⟩ ?_
  refine swp_seq ?_
  refine srk tbok ⟨78, [(0, .ref 1000000 0), (1, vi aN), (7, vb (decide (aN ≤ 1)))], [(1000000, .box (tc el01Source aS))]⟩ ?_
  refine swp_cd h (fun h => ?_) fun h => ?_
  refine srk tbok ⟨78, [(4, vi 0)], [(1000000, .box (tc el01Source aS))]⟩ ?_
  refine swp_ret ?_
  obtain rfl := inj h
  exact nx_r (q_fr (fin_io (f1 fv) (y := .box (tc el01Source aS)) (by kernel_rfl) rfl (by kernel_rfl) (by kernel_rfl)))
  refine swp_skip ?_
  refine nx_n ?_
  refine srk tbok ⟨78, [(0, .ref 1000000 0), (1, vi aN)], [(1000000, .box [vl (eI .u8) aS.code, vi aS.at', vi (Int.tmod (w64 ((w64 (aS.seed * 48271)) + 29)) 2147483647)])]⟩ ?_
  refine srk tbok ⟨78, [(0, .ref 1000000 0), (1, vi aN), (5, vi (w64 (Int.tdiv (Int.tmod (w64 ((w64 (aS.seed * 48271)) + 29)) 2147483647) 31)))], [(1000000, .box [vl (eI .u8) aS.code, vi aS.at', vi (Int.tmod (w64 ((w64 (aS.seed * 48271)) + 29)) 2147483647)])]⟩ ?_
  refine swp_seq ?_
  refine swp_seq ?_
  refine swp_dr mixed ?_
  refine DGo.ck tbok false 10 ⟨78, [(0, .ref 1000000 0), (1, vi aN), (5, vi (w64 (Int.tdiv (Int.tmod (w64 ((w64 (aS.seed * 48271)) + 29)) 2147483647) 31))), (32, vb (decide (aS.at' < (aS.code.length : Int))))], [(1000000, .box [vl (eI .u8) aS.code, vi aS.at', vi (Int.tmod (w64 ((w64 (aS.seed * 48271)) + 29)) 2147483647)])]⟩ ?_
  refine DGo.nx ?_
  refine swp_seqJ h (fun j1 => ⟨78, [(1, vi aN), (5, vi j1.1)], [(1000000, .box (tc el01Source j1.2))]⟩) (fun v2 h => ?_) (fun j1 h => ?_)
  refine swp_cd h (fun h => ?_) fun h => ?_
  refine swp_seq ?_
  refine swp_dr mixed ?_
  refine DGo.ck tbok false 9 ⟨78, [(0, .ref 1000000 0), (1, vi aN), (33, vi (w64 (Int.tdiv (Int.tmod (w64 ((w64 (aS.seed * 48271)) + 29)) 2147483647) 31))), (37, vl (eI .u8) aS.code), (41, vi aS.at')], [(1000000, .box [vl (eI .u8) aS.code, vi aS.at', vi (Int.tmod (w64 ((w64 (aS.seed * 48271)) + 29)) 2147483647)])]⟩ ?_
  obtain ⟨x3, hx3, h⟩ := bind_some h
  refine DGo.step (x_index (L := aS.code) (f := (eI .u8)) (ti := ti22) (tj := ti5) (e := 5) (k := .i64) tbok rfl hx3) ?_
  refine DGo.ck tbok false 4 ⟨78, [(0, .ref 1000000 0), (1, vi aN), (5, vi (w64 ((w64 (Int.tdiv (Int.tmod (w64 ((w64 (aS.seed * 48271)) + 29)) 2147483647) 31)) + (w64 x3))))], [(1000000, .box [vl (eI .u8) aS.code, vi aS.at', vi (Int.tmod (w64 ((w64 (aS.seed * 48271)) + 29)) 2147483647)])]⟩ ?_
  refine DGo.nx ?_
  refine srk tbok ⟨78, [(0, .ref 1000000 0), (1, vi aN), (5, vi (w64 ((w64 (Int.tdiv (Int.tmod (w64 ((w64 (aS.seed * 48271)) + 29)) 2147483647) 31)) + (w64 x3))))], [(1000000, .box [vl (eI .u8) aS.code, vi (w64 (aS.at' + 1)), vi (Int.tmod (w64 ((w64 (aS.seed * 48271)) + 29)) 2147483647)])]⟩ ?_
  refine swp_seq ?_
  refine swp_regP ⟨78, [(0, .ref 1000000 0), (1, vi aN), (5, vi (w64 ((w64 (Int.tdiv (Int.tmod (w64 ((w64 (aS.seed * 48271)) + 29)) 2147483647) 31)) + (w64 x3)))), (62, vb ((decide (aN ≤ 256)) && ((Int.tmod (w64 (aS.at' + 1)) 2) == 0)))], [(1000000, .box [vl (eI .u8) aS.code, vi (w64 (aS.at' + 1)), vi (Int.tmod (w64 ((w64 (aS.seed * 48271)) + 29)) 2147483647)])]⟩ ?_ ?_
  refine SRun.ck tbok 3 ⟨78, [(0, .ref 1000000 0), (1, vi aN), (5, vi (w64 ((w64 (Int.tdiv (Int.tmod (w64 ((w64 (aS.seed * 48271)) + 29)) 2147483647) 31)) + (w64 x3)))), (55, vb (decide (aN ≤ 256)))], [(1000000, .box [vl (eI .u8) aS.code, vi (w64 (aS.at' + 1)), vi (Int.tmod (w64 ((w64 (aS.seed * 48271)) + 29)) 2147483647)])]⟩ ?_
  generalize (decide (aN ≤ 256)) = bb
  cases bb
  refine SRun.ck tbok 7 ⟨78, [(0, .ref 1000000 0), (1, vi aN), (5, vi (w64 ((w64 (Int.tdiv (Int.tmod (w64 ((w64 (aS.seed * 48271)) + 29)) 2147483647) 31)) + (w64 x3)))), (62, vb false)], [(1000000, .box [vl (eI .u8) aS.code, vi (w64 (aS.at' + 1)), vi (Int.tmod (w64 ((w64 (aS.seed * 48271)) + 29)) 2147483647)])]⟩ ?_
  exact SRun.nil (Le.sub0)
  refine SRun.ck tbok 7 ⟨78, [(0, .ref 1000000 0), (1, vi aN), (5, vi (w64 ((w64 (Int.tdiv (Int.tmod (w64 ((w64 (aS.seed * 48271)) + 29)) 2147483647) 31)) + (w64 x3)))), (62, vb ((Int.tmod (w64 (aS.at' + 1)) 2) == 0))], [(1000000, .box [vl (eI .u8) aS.code, vi (w64 (aS.at' + 1)), vi (Int.tmod (w64 ((w64 (aS.seed * 48271)) + 29)) 2147483647)])]⟩ ?_
  exact SRun.nil (Le.sub0)
  refine swp_cd h (fun h => ?_) fun h => ?_
  refine swp_dr mixed ?_
  refine DGo.ck tbok false 9 ⟨78, [(1, vi aN), (66, vl (eI .u8) aS.code), (71, vi (w64 ((w64 (aS.at' + 1)) - 1)))], [(1000000, .box [vl (eI .u8) aS.code, vi (w64 (aS.at' + 1)), vi (Int.tmod (w64 ((w64 (aS.seed * 48271)) + 29)) 2147483647)])]⟩ ?_
  obtain ⟨x4, hx4, h⟩ := bind_some h
  refine DGo.step (x_index (L := aS.code) (f := (eI .u8)) (ti := ti22) (tj := ti5) (e := 5) (k := .i64) tbok rfl hx4) ?_
  refine DGo.ck tbok false 3 ⟨78, [(1, vi aN), (5, vi (w64 x4))], [(1000000, .box [vl (eI .u8) aS.code, vi (w64 (aS.at' + 1)), vi (Int.tmod (w64 ((w64 (aS.seed * 48271)) + 29)) 2147483647)])]⟩ ?_
  refine DGo.nil (by kernel_rfl) ?_
  obtain rfl := inj h
  exact q_j (Le.sub0)
  refine swp_skip ?_
  obtain rfl := inj h
  exact q_j (Le.sub0)
  refine swp_skip ?_
  obtain rfl := inj h
  exact q_j (Le.sub0)
  refine sr ?_
  refine SRun.ck tbok 2 ⟨78, [(75, vi j1.1), (76, vi aN)], [(1000000, .box (tc el01Source j1.2))]⟩ ?_
  obtain ⟨x5, hx5, h⟩ := bind_some h
  refine SRun.ls (x_lstep_quo (k := .i64) (i := j1.1) hx5 true rfl) ?_
  refine ckn tbok 1 ⟨78, [(4, vi (Int.tmod j1.1 aN))], [(1000000, .box (tc el01Source j1.2))]⟩ ?_
  refine swp_ret ?_
  obtain rfl := inj h
  exact q_fr (fin_io (f1 fv) (y := .box (tc el01Source j1.2)) (by kernel_rfl) rfl (by kernel_rfl) (by kernel_rfl))
theorem ents23 : Ents Tryz.prog 23 := ents_of Tryz.func23 (by kernel_rfl) rfl
noncomputable def spec_l01In (aN : Int) (aLow : Int) (aHigh : Int) : Option (Bool) :=
  some ((decide (aN ≥ aLow)) && (decide (aN ≤ aHigh)))
theorem spec_l01In_run (aN : Int) (aLow : Int) (aHigh : Int) (r : Bool) (h : spec_l01In aN aLow aHigh = some r) : SCall Tryz.prog 57 [.v (vi aN), .v (vi aLow), .v (vi aHigh)] ⟨[.v (vb r)], [], false⟩ := by
  refine scall_in Tryz.func57 rfl [(.tmp 6)] rfl (fun r => ⟨[.v (vb r)], [], false⟩) (r := r) ?_
  unfold spec_l01In at h
  refine srk tbok ⟨15, [(0, vi aN), (1, vi aLow), (2, vi aHigh)], []⟩ ?_
  refine swp_seq ?_
  refine swp_regP ⟨15, [(6, vb ((decide (aN ≥ aLow)) && (decide (aN ≤ aHigh))))], []⟩ ?_ ?_
  refine SRun.ck tbok 4 ⟨15, [(0, vi aN), (2, vi aHigh), (10, vb (decide (aN ≥ aLow)))], []⟩ ?_
  generalize (decide (aN ≥ aLow)) = bb
  cases bb
  refine SRun.ck tbok 5 ⟨15, [(6, vb false)], []⟩ ?_
  exact SRun.nil (Le.sub0)
  refine SRun.ck tbok 5 ⟨15, [(6, vb (decide (aN ≤ aHigh)))], []⟩ ?_
  exact SRun.nil (Le.sub0)
  refine swp_ret ?_
  obtain rfl := inj h
  exact q_fr (f1 fv)
theorem ents57 : Ents Tryz.prog 57 := ents_of Tryz.func57 (by kernel_rfl) rfl
noncomputable def spec_IsWord (aS : ByteArray) : Option (Bool) :=
  (((forN (aS.size : Int) (fun (i3 : Int) (_ : Unit) => ((((byte' aS i3).bind fun x7 => (bif (decide (x7 < 97)) then some true else ((byte' aS i3).bind fun x8 => some (decide (x8 > 122)))))).bind fun (j9 : Bool) => (bif j9 then some (.inr (.inr false)) else some (.inl ())))) (fun (_ : Unit) => .inl ()) 0 ())).bind (Sum.elim (fun (_ : Unit) => ((spec_l01In (aS.size : Int) 1 16).bind fun x11 => some x11)) some))
theorem spec_IsWord_run (aS : ByteArray) (r : Bool) (h : spec_IsWord aS = some r) : SCall Tryz.prog 65 [.v (vs aS)] ⟨[.v (vb r)], [], false⟩ := by
  refine scall_in Tryz.func65 rfl [(.tmp 2)] rfl (fun r => ⟨[.v (vb r)], [], false⟩) (r := r) ?_
  unfold spec_IsWord at h
  refine srk tbok ⟨23, [(0, vs aS)], []⟩ ?_
  refine swp_seq ?_
  refine srk tbok ⟨23, [(0, vs aS), (3, vi 0)], []⟩ ?_
  refine swp_seqE (r := r) h (fun j1 => ⟨23, [(0, vs aS)], []⟩) (fun v2 h => ?_) (fun j1 h => ?_)
  refine swp_blk (a := v2) ?_
  refine swp_lpL (r := v2) (s := (0, ())) _ (fun s3 => ⟨23, [(0, vs aS), (3, vi s3.1)], []⟩) _ (Le.sub0) h (fun s3 v4 h => ?_)
  refine swp_seq ?_
  refine srk tbok ⟨23, [(0, vs aS), (3, vi s3.1), (7, vb (decide (s3.1 < (aS.size : Int))))], []⟩ ?_
  refine swp_cd h (fun h => ?_) fun h => ?_
  refine swp_skip ?_
  refine nx_n ?_
  refine swp_seq ?_
  refine swp_seqL (r := v4) h (fun j5 => ⟨23, [(0, vs aS), (3, vi s3.1)], []⟩) (fun v6 h => ?_) (fun j5 h => ?_)
  refine swp_blk (a := v6) ?_
  refine swp_seq ?_
  refine swp_regJ h (fun j9 => ⟨23, [(0, vs aS), (3, vi s3.1), (19, vb j9)], []⟩) (fun v10 h => ?_) (fun j9 h => ?_)
  refine SRun.ck tbok 2 ⟨23, [(0, vs aS), (3, vi s3.1), (10, vs aS), (11, vi s3.1)], []⟩ ?_
  obtain ⟨x7, hx7, h⟩ := bind_some h
  refine SRun.ls (x_byte (ti := ti9) (k := .i64) hx7 tbok rfl) ?_
  refine SRun.ck tbok 2 ⟨23, [(0, vs aS), (3, vi s3.1), (14, vb (decide (x7 < 97)))], []⟩ ?_
  refine SRun.cu [(14, fun b => b)] h (fun h => ?_) fun h => ?_
  refine SRun.ck tbok 5 ⟨23, [(0, vs aS), (3, vi s3.1), (19, vb true)], []⟩ ?_
  refine SRun.nil ?_
  obtain rfl := inj h
  exact Le.sub0
  refine SRun.ck tbok 2 ⟨23, [(0, vs aS), (3, vi s3.1), (14, vb false), (15, vs aS), (16, vi s3.1)], []⟩ ?_
  obtain ⟨x8, hx8, h⟩ := bind_some h
  refine SRun.ls (x_byte (ti := ti9) (k := .i64) hx8 tbok rfl) ?_
  refine SRun.ck tbok 2 ⟨23, [(0, vs aS), (3, vi s3.1), (19, vb (decide (x8 > 122)))], []⟩ ?_
  refine SRun.nil ?_
  obtain rfl := inj h
  exact Le.sub0
  refine swp_cd h (fun h => ?_) fun h => ?_
  refine srk tbok ⟨23, [(2, vb false)], []⟩ ?_
  refine swp_ret ?_
  obtain rfl := inj h
  exact q_br (q_rr (q_rr (q_br (q_rr (q_fr (f1 fv))))))
  refine swp_skip ?_
  obtain rfl := inj h
  exact q_bn (q_l (Le.sub0))
  refine swp_reg ?_
  refine SRun.ck tbok 3 ⟨23, [(0, vs aS), (3, vi (w64 (s3.1 + 1)))], []⟩ ?_
  refine SRun.nil ?_
  obtain rfl := inj h
  exact q_l (Le.sub0)
  refine swp_exit ?_
  obtain rfl := inj h
  exact nx_e (q_re (q_bh (q_l (Le.sub0))))
  refine sr ?_
  refine SRun.ck tbok 2 ⟨23, [(21, vi (aS.size : Int))], []⟩ ?_
  obtain ⟨x11, hx11, h⟩ := bind_some h
  refine SRun.ls (xc ents57 (spec_l01In_run (aS.size : Int) 1 16 _ hx11)) ?_
  refine ckn tbok 1 ⟨23, [(2, vb x11)], []⟩ ?_
  refine swp_ret ?_
  obtain rfl := inj h
  exact q_fr (f1 fv)
theorem ents65 : Ents Tryz.prog 65 := ents_of Tryz.func65 (by kernel_rfl) rfl
noncomputable def spec_l02Year (aN : Int) : Option (Bool) :=
  ((spec_l01In aN (-3000) 3000).bind fun x1 => some x1)
theorem spec_l02Year_run (aN : Int) (r : Bool) (h : spec_l02Year aN = some r) : SCall Tryz.prog 82 [.v (vi aN)] ⟨[.v (vb r)], [], false⟩ := by
  refine scall_in Tryz.func82 rfl [(.tmp 2)] rfl (fun r => ⟨[.v (vb r)], [], false⟩) (r := r) ?_
  unfold spec_l02Year at h
  refine srk tbok ⟨5, [(0, vi aN)], []⟩ ?_
  refine sr ?_
  refine SRun.ck tbok 1 ⟨5, [(3, vi aN)], []⟩ ?_
  obtain ⟨x1, hx1, h⟩ := bind_some h
  refine SRun.ls (xc ents57 (spec_l01In_run aN (-3000) 3000 _ hx1)) ?_
  refine ckn tbok 1 ⟨5, [(2, vb x1)], []⟩ ?_
  refine swp_ret ?_
  obtain rfl := inj h
  exact q_fr (f1 fv)
theorem ents82 : Ents Tryz.prog 82 := ents_of Tryz.func82 (by kernel_rfl) rfl
noncomputable def spec_IsSpan (aS : Span) : Option (Bool) :=
  ((((spec_l02Year aS.From).bind fun x1 => (bif x1 then ((spec_l02Year aS.To).bind fun x2 => (bif x2 then some (decide (aS.From ≤ aS.To)) else some false)) else some false))).bind fun (j3 : Bool) => some j3)
theorem spec_IsSpan_run (aS : Span) (r : Bool) (h : spec_IsSpan aS = some r) : SCall Tryz.prog 66 [.v (.agg (tc eSpan aS))] ⟨[.v (vb r)], [], false⟩ := by
  refine scall_in Tryz.func66 rfl [(.tmp 2)] rfl (fun r => ⟨[.v (vb r)], [], false⟩) (r := r) ?_
  unfold spec_IsSpan at h
  refine srk tbok ⟨18, [(1, .ref 1 0)], [(1, .box (tc eSpan aS))]⟩ ?_
  refine swp_seq ?_
  refine swp_regJ h (fun j3 => ⟨18, [(2, vb j3)], []⟩) (fun v4 h => ?_) (fun j3 h => ?_)
  refine SRun.ck tbok 2 ⟨18, [(1, .ref 1 0), (4, vi aS.From)], [(1, .box (tc eSpan aS))]⟩ ?_
  obtain ⟨x1, hx1, h⟩ := bind_some h
  refine SRun.ls (xc ents82 (spec_l02Year_run aS.From _ hx1)) ?_
  refine SRun.ck tbok 1 ⟨18, [(1, .ref 1 0), (6, vb x1)], [(1, .box (tc eSpan aS))]⟩ ?_
  refine SRun.cu [(6, fun b => b)] h (fun h => ?_) fun h => ?_
  refine SRun.ck tbok 2 ⟨18, [(1, .ref 1 0), (6, vb true), (8, vi aS.To)], [(1, .box (tc eSpan aS))]⟩ ?_
  obtain ⟨x2, hx2, h⟩ := bind_some h
  refine SRun.ls (xc ents82 (spec_l02Year_run aS.To _ hx2)) ?_
  refine SRun.ck tbok 2 ⟨18, [(1, .ref 1 0), (11, vb x2)], [(1, .box (tc eSpan aS))]⟩ ?_
  refine SRun.cu [(11, fun b => b)] h (fun h => ?_) fun h => ?_
  refine SRun.ck tbok 7 ⟨18, [(2, vb (decide (aS.From ≤ aS.To)))], []⟩ ?_
  refine SRun.nil ?_
  obtain rfl := inj h
  exact Le.sub0
  refine SRun.ck tbok 7 ⟨18, [(2, vb false)], []⟩ ?_
  refine SRun.nil ?_
  obtain rfl := inj h
  exact Le.sub0
  refine SRun.ck tbok 12 ⟨18, [(2, vb false)], []⟩ ?_
  refine SRun.nil ?_
  obtain rfl := inj h
  exact Le.sub0
  refine swp_ret ?_
  obtain rfl := inj h
  exact q_fr (f1 fv)
theorem ents66 : Ents Tryz.prog 66 := ents_of Tryz.func66 (by kernel_rfl) rfl
noncomputable def spec_l01Split (aS : ByteArray) (aBy : Int) : Option ((List ByteArray)) :=
  (((forH (fun (i3 : Int) (_ : Int × (List ByteArray)) => (decide (i3 ≤ (aS.size : Int)))) (fun (i3 : Int) (s3 : Int × (List ByteArray)) => (((bif (i3 == (aS.size : Int)) then some true else ((byte' aS i3).bind fun x7 => some (x7 == aBy)))).bind fun (j8 : Bool) => (bif j8 then ((sub' aS s3.1 i3).bind fun x10 => ((app' s3.2 ([x10] : List ByteArray)).bind fun x11 => some ((w64 (i3 + 1)), x11))) else some (s3.1, s3.2)))) (fun (s3 : Int × (List ByteArray)) => s3.2) 0 (0, ([] : List ByteArray)))).bind fun (j1 : (List ByteArray)) => some j1)
theorem spec_l01Split_run (aS : ByteArray) (aBy : Int) (r : (List ByteArray)) (h : spec_l01Split aS aBy = some r) : SCall Tryz.prog 89 [.v (vs aS), .v (.tr (.int .u8 aBy))] ⟨[.own 9 1 r.length (r.map eS)], [], false⟩ := by
  refine scall_in Tryz.func89 rfl [(.tmp 4)] rfl (fun r => ⟨[.own 9 1 r.length (r.map eS)], [], false⟩) (r := r) ?_
  unfold spec_l01Split at h
  refine srk tbok ⟨36, [(0, vs aS), (1, .tr (.int .u8 aBy))], []⟩ ?_
  refine srk tbok ⟨36, [(0, vs aS), (1, .tr (.int .u8 aBy)), (5, .own 8)], [(8, oa 9 1 eS ([] : List ByteArray))]⟩ ?_
  refine srk tbok ⟨36, [(0, vs aS), (1, .tr (.int .u8 aBy)), (5, .own 8), (6, vi 0)], [(8, oa 9 1 eS ([] : List ByteArray))]⟩ ?_
  refine swp_seq ?_
  refine srk tbok ⟨36, [(0, vs aS), (1, .tr (.int .u8 aBy)), (5, .own 8), (6, vi 0), (7, vi 0)], [(8, oa 9 1 eS ([] : List ByteArray))]⟩ ?_
  refine swp_seqJ h (fun j1 => ⟨36, [(5, .own 5)], [(5, oa 9 1 eS j1)]⟩) (fun v2 h => ?_) (fun j1 h => ?_)
  refine swp_blk (a := v2) ?_
  refine swp_lpL (r := v2) (s := (0, 0, ([] : List ByteArray))) _ (fun s3 => ⟨36, [(0, vs aS), (1, .tr (.int .u8 aBy)), (5, .own 5), (6, vi s3.2.1), (7, vi s3.1)], [(5, oa 9 1 eS s3.2.2)]⟩) _ (Le.rr [8] [(8, 5)]) h (fun s3 v4 h => ?_)
  refine swp_seq ?_
  refine srk tbok ⟨36, [(0, vs aS), (1, .tr (.int .u8 aBy)), (5, .own 5), (6, vi s3.2.1), (7, vi s3.1), (12, vb (decide (s3.1 ≤ (aS.size : Int))))], [(5, oa 9 1 eS s3.2.2)]⟩ ?_
  refine swp_cd h (fun h => ?_) fun h => ?_
  refine swp_skip ?_
  refine nx_n ?_
  refine swp_seq ?_
  refine swp_seqJ h (fun j5 => ⟨36, [(0, vs aS), (1, .tr (.int .u8 aBy)), (5, .own 5), (6, vi j5.1), (7, vi s3.1)], [(5, oa 9 1 eS j5.2)]⟩) (fun v6 h => ?_) (fun j5 h => ?_)
  refine swp_blk (a := v6) ?_
  refine swp_seq ?_
  refine swp_regJ h (fun j8 => ⟨36, [(0, vs aS), (1, .tr (.int .u8 aBy)), (5, .own 5), (6, vi s3.2.1), (7, vi s3.1), (25, vb j8)], [(5, oa 9 1 eS s3.2.2)]⟩) (fun v9 h => ?_) (fun j8 h => ?_)
  refine SRun.ck tbok 5 ⟨36, [(0, vs aS), (1, .tr (.int .u8 aBy)), (5, .own 5), (6, vi s3.2.1), (7, vi s3.1), (19, vb (s3.1 == (aS.size : Int)))], [(5, oa 9 1 eS s3.2.2)]⟩ ?_
  refine SRun.cu [(19, fun b => b)] h (fun h => ?_) fun h => ?_
  refine SRun.ck tbok 6 ⟨36, [(0, vs aS), (1, .tr (.int .u8 aBy)), (5, .own 5), (6, vi s3.2.1), (7, vi s3.1), (25, vb true)], [(5, oa 9 1 eS s3.2.2)]⟩ ?_
  refine SRun.nil ?_
  obtain rfl := inj h
  exact Le.sub0
  refine SRun.ck tbok 2 ⟨36, [(0, vs aS), (1, .tr (.int .u8 aBy)), (5, .own 5), (6, vi s3.2.1), (7, vi s3.1), (19, vb false), (20, vs aS), (21, vi s3.1)], [(5, oa 9 1 eS s3.2.2)]⟩ ?_
  obtain ⟨x7, hx7, h⟩ := bind_some h
  refine SRun.ls (x_byte (ti := ti9) (k := .i64) hx7 tbok rfl) ?_
  refine SRun.ck tbok 3 ⟨36, [(0, vs aS), (1, .tr (.int .u8 aBy)), (5, .own 5), (6, vi s3.2.1), (7, vi s3.1), (25, vb (x7 == aBy))], [(5, oa 9 1 eS s3.2.2)]⟩ ?_
  refine SRun.nil ?_
  obtain rfl := inj h
  exact Le.sub0
  refine swp_cd h (fun h => ?_) fun h => ?_
  refine sr ?_
  refine SRun.ck tbok 4 ⟨36, [(0, vs aS), (1, .tr (.int .u8 aBy)), (7, vi s3.1), (26, .own 5), (27, vs aS), (28, vi s3.2.1), (29, vi s3.1)], [(5, oa 9 1 eS s3.2.2)]⟩ ?_
  obtain ⟨x10, hx10, h⟩ := bind_some h
  refine SRun.ls (x_sub (ti := ti9) hx10 tbok rfl) ?_
  refine SRun.ck tbok 1 ⟨36, [(0, vs aS), (1, .tr (.int .u8 aBy)), (7, vi s3.1), (26, .own 5), (31, .own 31)], [(5, oa 9 1 eS s3.2.2), (31, oa 9 1 eS ([x10] : List ByteArray))]⟩ ?_
  obtain ⟨x11, hx11, h⟩ := bind_some h
  refine SRun.estep (x_append (f := eS) (t := 60) (ti := ti60) (tj := ti9) (zs := [.string (ByteArray.mk #[])]) (e := 9) (m := 1) (d := 5) (xv := .own 31) hx11 tbok rfl rfl rfl rfl (x_src_o (e := 9))) ?_
  refine ckn tbok 1 ⟨36, [(0, vs aS), (1, .tr (.int .u8 aBy)), (5, .own 32), (7, vi s3.1)], [(32, oa 9 1 eS x11)]⟩ ?_
  refine swp_reg ?_
  refine SRun.ck tbok 3 ⟨36, [(0, vs aS), (1, .tr (.int .u8 aBy)), (5, .own 32), (6, vi (w64 (s3.1 + 1))), (7, vi s3.1)], [(32, oa 9 1 eS x11)]⟩ ?_
  refine SRun.nil ?_
  obtain rfl := inj h
  exact q_bn (q_j (Le.rr [32] [(32, 5)]))
  refine swp_skip ?_
  obtain rfl := inj h
  exact q_bn (q_j (Le.sub0))
  refine swp_reg ?_
  refine SRun.ck tbok 3 ⟨36, [(0, vs aS), (1, .tr (.int .u8 aBy)), (5, .own 5), (6, vi j5.1), (7, vi (w64 (s3.1 + 1)))], [(5, oa 9 1 eS j5.2)]⟩ ?_
  refine SRun.nil ?_
  obtain rfl := inj h
  exact q_l (Le.sub0)
  refine swp_exit ?_
  obtain rfl := inj h
  exact nx_e (q_re (q_bh (q_j (Le.sub0))))
  refine srk tbok ⟨36, [(4, .own 5)], [(5, oa 9 1 eS j1)]⟩ ?_
  refine swp_ret ?_
  obtain rfl := inj h
  exact q_fr (f1 (fo eS_flat))
theorem ents89 : Ents Tryz.prog 89 := ents_of Tryz.func89 (by kernel_rfl) rfl
noncomputable def spec_l01Phrase (aS : ByteArray) : Option ((List ByteArray) × Bool) :=
  ((spec_l01Split aS 32).bind fun x1 => (((forN (x1.length : Int) (fun (i4 : Int) (_ : Unit) => ((at' x1 i4).bind fun x8 => ((spec_IsWord x8).bind fun x9 => (bif (!x9) then some (.inr (.inr (([] : List ByteArray), false))) else some (.inl ()))))) (fun (_ : Unit) => .inl ()) 0 ())).bind (Sum.elim (fun (_ : Unit) => some (x1, (decide ((x1.length : Int) ≤ 8)))) some)))
theorem spec_l01Phrase_run (aS : ByteArray) (r : (List ByteArray) × Bool) (h : spec_l01Phrase aS = some r) : SCall Tryz.prog 83 [.v (vs aS)] ⟨[.own 9 1 r.1.length (r.1.map eS), .v (vb r.2)], [], false⟩ := by
  refine scall_in Tryz.func83 rfl [(.tmp 2), (.tmp 3)] rfl (fun r => ⟨[.own 9 1 r.1.length (r.1.map eS), .v (vb r.2)], [], false⟩) (r := r) ?_
  unfold spec_l01Phrase at h
  refine srk tbok ⟨24, [(0, vs aS)], []⟩ ?_
  refine sr ?_
  refine SRun.ck tbok 1 ⟨24, [(6, vs aS)], []⟩ ?_
  obtain ⟨x1, hx1, h⟩ := bind_some h
  refine SRun.ls (xc ents89 (spec_l01Split_run aS 32 _ hx1)) ?_
  refine ckn tbok 1 ⟨24, [(4, .own 7)], [(7, oa 9 1 eS x1)]⟩ ?_
  refine swp_seq ?_
  refine srk tbok ⟨24, [(4, .own 7), (5, vi 0)], [(7, oa 9 1 eS x1)]⟩ ?_
  refine swp_seqE (r := r) h (fun j2 => ⟨24, [(4, .own 4)], [(4, oa 9 1 eS x1)]⟩) (fun v3 h => ?_) (fun j2 h => ?_)
  refine swp_blk (a := v3) ?_
  refine swp_lpL (r := v3) (s := (0, ())) _ (fun s4 => ⟨24, [(4, .own 4), (5, vi s4.1)], [(4, oa 9 1 eS x1)]⟩) _ (Le.rr [7] [(7, 4)]) h (fun s4 v5 h => ?_)
  refine swp_seq ?_
  refine srk tbok ⟨24, [(4, .own 4), (5, vi s4.1), (11, vb (decide (s4.1 < (x1.length : Int))))], [(4, oa 9 1 eS x1)]⟩ ?_
  refine swp_cd h (fun h => ?_) fun h => ?_
  refine swp_skip ?_
  refine nx_n ?_
  refine swp_seq ?_
  refine swp_seqL (r := v5) h (fun j6 => ⟨24, [(4, .own 4), (5, vi s4.1)], [(4, oa 9 1 eS x1)]⟩) (fun v7 h => ?_) (fun j6 h => ?_)
  refine swp_blk (a := v7) ?_
  refine sr ?_
  refine SRun.ck tbok 2 ⟨24, [(4, .own 4), (5, vi s4.1), (14, .own 4), (15, vi s4.1)], [(4, oa 9 1 eS x1)]⟩ ?_
  obtain ⟨x8, hx8, h⟩ := bind_some h
  refine SRun.ls (x_index_own (d := 4) (L := x1) (f := eS) (ti := ti60) (tj := ti9) (e := 9) (e' := 9) (m := 1) (k := .i64) tbok rfl hx8) ?_
  refine SRun.ls (x_load_own (d := 4) (m := 1) (j := 0) (L := x1) (f := eS) (ti := ti9) (e := 9) (v := vs x8) tbok rfl hx8) ?_
  obtain ⟨x9, hx9, h⟩ := bind_some h
  refine SRun.ls (xc ents65 (spec_IsWord_run x8 _ hx9)) ?_
  refine ckn tbok 1 ⟨24, [(4, .own 4), (5, vi s4.1), (19, vb (!x9))], [(4, oa 9 1 eS x1)]⟩ ?_
  refine swp_cd h (fun h => ?_) fun h => ?_
  refine srk tbok ⟨24, [(2, .own 2), (3, vb false)], [(2, oa 9 1 eS ([] : List ByteArray))]⟩ ?_
  refine swp_ret ?_
  obtain rfl := inj h
  exact q_br (q_rr (q_rr (q_br (q_rr (q_fr (f2 (fo eS_flat) fv))))))
  refine swp_skip ?_
  obtain rfl := inj h
  exact q_bn (q_l (Le.sub0))
  refine swp_reg ?_
  refine SRun.ck tbok 3 ⟨24, [(4, .own 4), (5, vi (w64 (s4.1 + 1)))], [(4, oa 9 1 eS x1)]⟩ ?_
  refine SRun.nil ?_
  obtain rfl := inj h
  exact q_l (Le.sub0)
  refine swp_exit ?_
  obtain rfl := inj h
  exact nx_e (q_re (q_bh (q_l (Le.sub0))))
  refine srk tbok ⟨24, [(2, .own 4), (3, vb (decide ((x1.length : Int) ≤ 8)))], [(4, oa 9 1 eS x1)]⟩ ?_
  refine swp_ret ?_
  obtain rfl := inj h
  exact q_fr (f2 (fo eS_flat) fv)
theorem ents83 : Ents Tryz.prog 83 := ents_of Tryz.func83 (by kernel_rfl) rfl
noncomputable def spec_IsPhrase (aS : ByteArray) : Option (Bool) :=
  ((spec_l01Phrase aS).bind fun x1 => some x1.2)
theorem spec_IsPhrase_run (aS : ByteArray) (r : Bool) (h : spec_IsPhrase aS = some r) : SCall Tryz.prog 67 [.v (vs aS)] ⟨[.v (vb r)], [], false⟩ := by
  refine scall_in Tryz.func67 rfl [(.tmp 2)] rfl (fun r => ⟨[.v (vb r)], [], false⟩) (r := r) ?_
  unfold spec_IsPhrase at h
  refine srk tbok ⟨11, [(0, vs aS)], []⟩ ?_
  refine sr ?_
  refine SRun.ck tbok 1 ⟨11, [(6, vs aS)], []⟩ ?_
  obtain ⟨x1, hx1, h⟩ := bind_some h
  refine SRun.ls (xc ents83 (spec_l01Phrase_run aS _ hx1)) ?_
  refine ckn tbok 5 ⟨11, [(4, vb x1.2)], []⟩ ?_
  refine srk tbok ⟨11, [(2, vb x1.2)], []⟩ ?_
  refine swp_ret ?_
  obtain rfl := inj h
  exact q_fr (f1 fv)
theorem ents67 : Ents Tryz.prog 67 := ents_of Tryz.func67 (by kernel_rfl) rfl
noncomputable def spec_IsClaim (aC : Claim) : Option (Bool) :=
  ((((spec_IsWord aC.Source).bind fun x1 => (bif (!x1) then some true else ((spec_IsWord aC.Place).bind fun x2 => (bif (!x2) then some true else ((spec_IsSpan aC.Years).bind fun x3 => (bif (!x3) then some true else ((spec_l01In aC.Weight 1 100).bind fun x4 => some (!x4))))))))).bind fun (j5 : Bool) => (bif j5 then some false else (((bif (aC.Kind == 0) then ((spec_IsPhrase aC.Value).bind fun x9 => some (.inr x9)) else (bif (aC.Kind == 1) then ((((spec_IsWord aC.Value).bind fun x10 => (bif x10 then some (!(aC.Value.toList == aC.Place.toList)) else some false))).bind fun (j11 : Bool) => some (.inr j11)) else (((bif (aC.Kind == 2) then some (aC.Kind == 2) else some (aC.Kind == 3))).bind fun (j13 : Bool) => (bif j13 then some (.inr (aC.Value.toList == (ByteArray.mk #[]).toList)) else some (.inl ())))))).bind (Sum.elim (fun (_ : Unit) => some false) some))))
theorem spec_IsClaim_run (aC : Claim) (r : Bool) (h : spec_IsClaim aC = some r) : SCall Tryz.prog 38 [.v (.agg (tc eClaim aC))] ⟨[.v (vb r)], [], false⟩ := by
  refine scall_in Tryz.func38 rfl [(.tmp 2)] rfl (fun r => ⟨[.v (vb r)], [], false⟩) (r := r) ?_
  unfold spec_IsClaim at h
  refine srk tbok ⟨50, [(1, .ref 1 0)], [(1, .box (tc eClaim aC))]⟩ ?_
  refine swp_seq ?_
  refine swp_seq ?_
  refine swp_regJ h (fun j5 => ⟨50, [(1, .ref 1 0), (24, vb j5)], [(1, .box (tc eClaim aC))]⟩) (fun v6 h => ?_) (fun j5 h => ?_)
  refine SRun.ck tbok 2 ⟨50, [(1, .ref 1 0), (4, vs aC.Source)], [(1, .box (tc eClaim aC))]⟩ ?_
  obtain ⟨x1, hx1, h⟩ := bind_some h
  refine SRun.ls (xc ents65 (spec_IsWord_run aC.Source _ hx1)) ?_
  refine SRun.ck tbok 2 ⟨50, [(1, .ref 1 0), (7, vb (!x1))], [(1, .box (tc eClaim aC))]⟩ ?_
  refine SRun.cu [(7, fun b => b)] h (fun h => ?_) fun h => ?_
  refine SRun.ck tbok 17 ⟨50, [(1, .ref 1 0), (24, vb true)], [(1, .box (tc eClaim aC))]⟩ ?_
  refine SRun.nil ?_
  obtain rfl := inj h
  exact Le.sub0
  refine SRun.ck tbok 2 ⟨50, [(1, .ref 1 0), (7, vb false), (9, vs aC.Place)], [(1, .box (tc eClaim aC))]⟩ ?_
  obtain ⟨x2, hx2, h⟩ := bind_some h
  refine SRun.ls (xc ents65 (spec_IsWord_run aC.Place _ hx2)) ?_
  refine SRun.ck tbok 3 ⟨50, [(1, .ref 1 0), (13, vb (!x2))], [(1, .box (tc eClaim aC))]⟩ ?_
  refine SRun.cu [(13, fun b => b)] h (fun h => ?_) fun h => ?_
  refine SRun.ck tbok 11 ⟨50, [(1, .ref 1 0), (24, vb true)], [(1, .box (tc eClaim aC))]⟩ ?_
  refine SRun.nil ?_
  obtain rfl := inj h
  exact Le.sub0
  refine SRun.ck tbok 2 ⟨50, [(1, .ref 1 0), (13, vb false), (15, .agg (tc eSpan aC.Years))], [(1, .box (tc eClaim aC))]⟩ ?_
  obtain ⟨x3, hx3, h⟩ := bind_some h
  refine SRun.ls (xc ents66 (spec_IsSpan_run aC.Years _ hx3)) ?_
  refine SRun.ck tbok 3 ⟨50, [(1, .ref 1 0), (19, vb (!x3))], [(1, .box (tc eClaim aC))]⟩ ?_
  refine SRun.cu [(19, fun b => b)] h (fun h => ?_) fun h => ?_
  refine SRun.ck tbok 5 ⟨50, [(1, .ref 1 0), (24, vb true)], [(1, .box (tc eClaim aC))]⟩ ?_
  refine SRun.nil ?_
  obtain rfl := inj h
  exact Le.sub0
  refine SRun.ck tbok 2 ⟨50, [(1, .ref 1 0), (19, vb false), (21, vi aC.Weight)], [(1, .box (tc eClaim aC))]⟩ ?_
  obtain ⟨x4, hx4, h⟩ := bind_some h
  refine SRun.ls (xc ents57 (spec_l01In_run aC.Weight 1 100 _ hx4)) ?_
  refine SRun.ck tbok 2 ⟨50, [(1, .ref 1 0), (24, vb (!x4))], [(1, .box (tc eClaim aC))]⟩ ?_
  refine SRun.nil ?_
  obtain rfl := inj h
  exact Le.sub0
  refine swp_cd h (fun h => ?_) fun h => ?_
  refine srk tbok ⟨50, [(2, vb false)], []⟩ ?_
  refine swp_ret ?_
  obtain rfl := inj h
  exact nx_r (q_fr (f1 fv))
  refine swp_skip ?_
  refine nx_n ?_
  refine swp_seq ?_
  refine srk tbok ⟨50, [(1, .ref 1 0), (26, vi aC.Kind)], [(1, .box (tc eClaim aC))]⟩ ?_
  refine swp_seqE (r := r) h (fun j7 => ⟨50, [], []⟩) (fun v8 h => ?_) (fun j7 h => ?_)
  refine swp_blk (a := v8) ?_
  refine srk tbok ⟨50, [(1, .ref 1 0), (26, vi aC.Kind), (27, vb (aC.Kind == 0))], [(1, .box (tc eClaim aC))]⟩ ?_
  refine swp_cd h (fun h => ?_) fun h => ?_
  refine sr ?_
  refine SRun.ck tbok 2 ⟨50, [(30, vs aC.Value)], []⟩ ?_
  obtain ⟨x9, hx9, h⟩ := bind_some h
  refine SRun.ls (xc ents67 (spec_IsPhrase_run aC.Value _ hx9)) ?_
  refine ckn tbok 1 ⟨50, [(2, vb x9)], []⟩ ?_
  refine swp_ret ?_
  obtain rfl := inj h
  exact q_br (q_rr (q_fr (f1 fv)))
  refine srk tbok ⟨50, [(1, .ref 1 0), (26, vi aC.Kind), (32, vb (aC.Kind == 1))], [(1, .box (tc eClaim aC))]⟩ ?_
  refine swp_cd h (fun h => ?_) fun h => ?_
  refine swp_seq ?_
  refine swp_regJ h (fun j11 => ⟨50, [(2, vb j11)], []⟩) (fun v12 h => ?_) (fun j11 h => ?_)
  refine SRun.ck tbok 2 ⟨50, [(1, .ref 1 0), (35, vs aC.Value)], [(1, .box (tc eClaim aC))]⟩ ?_
  obtain ⟨x10, hx10, h⟩ := bind_some h
  refine SRun.ls (xc ents65 (spec_IsWord_run aC.Value _ hx10)) ?_
  refine SRun.ck tbok 1 ⟨50, [(1, .ref 1 0), (37, vb x10)], [(1, .box (tc eClaim aC))]⟩ ?_
  refine SRun.cu [(37, fun b => b)] h (fun h => ?_) fun h => ?_
  refine SRun.ck tbok 7 ⟨50, [(2, vb (!(aC.Value.toList == aC.Place.toList)))], []⟩ ?_
  refine SRun.nil ?_
  obtain rfl := inj h
  exact Le.sub0
  refine SRun.ck tbok 7 ⟨50, [(2, vb false)], []⟩ ?_
  refine SRun.nil ?_
  obtain rfl := inj h
  exact Le.sub0
  refine swp_ret ?_
  obtain rfl := inj h
  exact q_br (q_rr (q_fr (f1 fv)))
  refine swp_seq ?_
  refine srk tbok ⟨50, [(1, .ref 1 0), (26, vi aC.Kind), (44, vb (aC.Kind == 2))], [(1, .box (tc eClaim aC))]⟩ ?_
  refine swp_seqJ h (fun j13 => ⟨50, [(1, .ref 1 0), (44, vb j13)], [(1, .box (tc eClaim aC))]⟩) (fun v14 h => ?_) (fun j13 h => ?_)
  refine swp_cd h (fun h => ?_) fun h => ?_
  refine swp_skip ?_
  obtain rfl := inj h
  exact q_j (Le.sub0)
  refine swp_reg ?_
  refine SRun.ck tbok 2 ⟨50, [(1, .ref 1 0), (44, vb (aC.Kind == 3))], [(1, .box (tc eClaim aC))]⟩ ?_
  refine SRun.nil ?_
  obtain rfl := inj h
  exact q_j (Le.sub0)
  refine swp_cd h (fun h => ?_) fun h => ?_
  refine srk tbok ⟨50, [(2, vb (aC.Value.toList == (ByteArray.mk #[]).toList))], []⟩ ?_
  refine swp_ret ?_
  obtain rfl := inj h
  exact q_br (q_rr (q_fr (f1 fv)))
  refine swp_skip ?_
  obtain rfl := inj h
  exact q_bn (q_l (Le.sub0))
  refine srk tbok ⟨50, [(2, vb false)], []⟩ ?_
  refine swp_ret ?_
  obtain rfl := inj h
  exact q_fr (f1 fv)
theorem ents38 : Ents Tryz.prog 38 := ents_of Tryz.func38 (by kernel_rfl) rfl
noncomputable def spec_l01Pick (aS : l01Source) (aList : (List Int)) : Option (Int × l01Source) :=
  ((spec_l01Next aS (aList.length : Int)).bind fun x1 => ((at' aList x1.1).bind fun x2 => some (x2, x1.2)))
theorem spec_l01Pick_run (aS : l01Source) (aList : (List Int)) (r : Int × l01Source) (h : spec_l01Pick aS aList = some r) : SCall Tryz.prog 59 [.o (.box [vl (eI .u8) aS.code, vi aS.at', vi aS.seed]), .v (vl (eI .i64) aList)] ⟨[.v (vi r.1)], [(0, .box (tc el01Source r.2))], false⟩ := by
  refine scall_in Tryz.func59 rfl [(.tmp 4)] rfl (fun r => ⟨[.v (vi r.1)], [(0, .box (tc el01Source r.2))], false⟩) (r := r) ?_
  unfold spec_l01Pick at h
  refine srk tbok ⟨12, [(0, .ref 1000000 0), (1, vl (eI .i64) aList)], [(1000000, .box (tc el01Source aS))]⟩ ?_
  refine sr ?_
  refine SRun.ck tbok 4 ⟨12, [(5, vl (eI .i64) aList), (6, .ref 1000000 0), (8, vi (aList.length : Int))], [(1000000, .box (tc el01Source aS))]⟩ ?_
  obtain ⟨x1, hx1, h⟩ := bind_some h
  refine SRun.estep (xe ents23 (spec_l01Next_run aS (aList.length : Int) _ hx1)) ?_
  obtain ⟨x2, hx2, h⟩ := bind_some h
  refine SRun.ls (x_index (L := aList) (f := (eI .i64)) (ti := ti28) (tj := ti2) (e := 2) (k := .i64) tbok rfl hx2) ?_
  refine ckn tbok 2 ⟨12, [(4, vi x2)], [(1000000, .box (tc el01Source x1.2))]⟩ ?_
  refine swp_ret ?_
  obtain rfl := inj h
  exact q_fr (fin_io (f1 fv) (y := .box (tc el01Source x1.2)) (by kernel_rfl) rfl (by kernel_rfl) (by kernel_rfl))
theorem ents59 : Ents Tryz.prog 59 := ents_of Tryz.func59 (by kernel_rfl) rfl
noncomputable def spec_l20Good (aS : l01Source) : Option (Claim × l01Source) :=
  ((spec_l01Next aS 4).bind fun x1 => ((at' ([(ByteArray.mk #[97, 116, 108, 97, 115]), (ByteArray.mk #[99, 104, 97, 114, 116, 101, 114]), (ByteArray.mk #[100, 105, 97, 114, 121]), (ByteArray.mk #[114, 111, 108, 108])] : List ByteArray) x1.1).bind fun x2 => ((spec_l01Pick x1.2 ([0, 0, 1, 1, 2, 3] : List Int)).bind fun x3 => ((spec_l01Next x3.2 3).bind fun x4 => ((at' ([(ByteArray.mk #[97, 115, 104]), (ByteArray.mk #[98, 114, 105, 103]), (ByteArray.mk #[99, 111, 114, 107])] : List ByteArray) x4.1).bind fun x5 => ((spec_l01Next x4.2 60).bind fun x6 => ((spec_l01Next x6.2 9).bind fun x7 => ((spec_l01Next x7.2 60).bind fun x8 => (((bif (x3.1 == 0) then ((spec_l01Next x8.2 3).bind fun x11 => ((at' ([(ByteArray.mk #[111, 108, 100, 32, 97, 115, 104]), (ByteArray.mk #[110, 101, 119, 116, 111, 110]), (ByteArray.mk #[97, 115, 104, 98, 121])] : List ByteArray) x11.1).bind fun x12 => some ((Claim.mk x2 x3.1 x5 x12 (Span.mk (w64 (1200 + x6.1)) (w64 ((w64 (1200 + x6.1)) + x8.1))) (w64 (1 + x7.1))), x11.2))) else (bif (x3.1 == 1) then ((spec_l01Next x8.2 4).bind fun x13 => ((at' ([(ByteArray.mk #[97, 115, 104]), (ByteArray.mk #[98, 114, 105, 103]), (ByteArray.mk #[99, 111, 114, 107]), (ByteArray.mk #[100, 101, 118, 97])] : List ByteArray) x13.1).bind fun x14 => (bif (x14.toList == x5.toList) then some ((Claim.mk x2 x3.1 x5 (ByteArray.mk #[100, 101, 118, 97]) (Span.mk (w64 (1200 + x6.1)) (w64 ((w64 (1200 + x6.1)) + x8.1))) (w64 (1 + x7.1))), x13.2) else some ((Claim.mk x2 x3.1 x5 x14 (Span.mk (w64 (1200 + x6.1)) (w64 ((w64 (1200 + x6.1)) + x8.1))) (w64 (1 + x7.1))), x13.2)))) else some ((Claim.mk x2 x3.1 x5 (ByteArray.mk #[]) (Span.mk (w64 (1200 + x6.1)) (w64 ((w64 (1200 + x6.1)) + x8.1))) (w64 (1 + x7.1))), x8.2)))).bind fun (j9 : Claim × l01Source) => some (j9.1, j9.2))))))))))
theorem spec_l20Good_run (aS : l01Source) (r : Claim × l01Source) (h : spec_l20Good aS = some r) : SCall Tryz.prog 58 [.o (.box [vl (eI .u8) aS.code, vi aS.at', vi aS.seed])] ⟨[.v (.agg (tc eClaim r.1))], [(0, .box (tc el01Source r.2))], false⟩ := by
  refine scall_in Tryz.func58 rfl [(.cell 2 35)] rfl (fun r => ⟨[.v (.agg (tc eClaim r.1))], [(0, .box (tc el01Source r.2))], false⟩) (r := r) ?_
  unfold spec_l20Good at h
  refine srk tbok ⟨60, [(0, .ref 1000000 0), (2, .ref 2 0)], [(2, .box [vs (ByteArray.mk #[]), vi 0, vs (ByteArray.mk #[]), vs (ByteArray.mk #[]), vi 0, vi 0, vi 0]), (1000000, .box (tc el01Source aS))]⟩ ?_
  refine srk tbok ⟨60, [(0, .ref 1000000 0), (2, .ref 2 0), (3, .own 5)], [(2, .box [vs (ByteArray.mk #[]), vi 0, vs (ByteArray.mk #[]), vs (ByteArray.mk #[]), vi 0, vi 0, vi 0]), (5, oa 9 1 eS ([(ByteArray.mk #[97, 115, 104]), (ByteArray.mk #[98, 114, 105, 103]), (ByteArray.mk #[99, 111, 114, 107])] : List ByteArray)), (1000000, .box (tc el01Source aS))]⟩ ?_
  refine swp_seq ?_
  refine swp_drD [1000000] mixed ?_
  refine DGo.ck tbok false 2 ⟨60, [(0, .ref 1000000 0), (2, .ref 2 0), (3, .own 5), (6, .own 6), (7, .ref 1000000 0)], [(2, .box [vs (ByteArray.mk #[]), vi 0, vs (ByteArray.mk #[]), vs (ByteArray.mk #[]), vi 0, vi 0, vi 0]), (5, oa 9 1 eS ([(ByteArray.mk #[97, 115, 104]), (ByteArray.mk #[98, 114, 105, 103]), (ByteArray.mk #[99, 111, 114, 107])] : List ByteArray)), (6, oa 9 1 eS ([(ByteArray.mk #[97, 116, 108, 97, 115]), (ByteArray.mk #[99, 104, 97, 114, 116, 101, 114]), (ByteArray.mk #[100, 105, 97, 114, 121]), (ByteArray.mk #[114, 111, 108, 108])] : List ByteArray)), (1000000, .box (tc el01Source aS))]⟩ ?_
  obtain ⟨x1, hx1, h⟩ := bind_some h
  refine DGo.write [] (xw ents23 (spec_l01Next_run aS 4 _ hx1)) ?_
  obtain ⟨x2, hx2, h⟩ := bind_some h
  refine DGo.stepW false [6] (x_index_own (d := 6) (L := ([(ByteArray.mk #[97, 116, 108, 97, 115]), (ByteArray.mk #[99, 104, 97, 114, 116, 101, 114]), (ByteArray.mk #[100, 105, 97, 114, 121]), (ByteArray.mk #[114, 111, 108, 108])] : List ByteArray)) (f := eS) (ti := ti60) (tj := ti9) (e := 9) (e' := 9) (m := 1) (k := .i64) tbok rfl hx2) ?_
  refine DGo.stepW false [6] (x_load_own (d := 6) (m := 1) (j := 0) (L := ([(ByteArray.mk #[97, 116, 108, 97, 115]), (ByteArray.mk #[99, 104, 97, 114, 116, 101, 114]), (ByteArray.mk #[100, 105, 97, 114, 121]), (ByteArray.mk #[114, 111, 108, 108])] : List ByteArray)) (f := eS) (ti := ti9) (e := 9) (v := vs x2) tbok rfl hx2) ?_
  refine DGo.ck tbok false 1 ⟨60, [(0, .ref 1000000 0), (2, .ref 2 0), (3, .own 5), (10, vs x2), (11, .ref 1000000 0)], [(2, .box [vs (ByteArray.mk #[]), vi 0, vs (ByteArray.mk #[]), vs (ByteArray.mk #[]), vi 0, vi 0, vi 0]), (5, oa 9 1 eS ([(ByteArray.mk #[97, 115, 104]), (ByteArray.mk #[98, 114, 105, 103]), (ByteArray.mk #[99, 111, 114, 107])] : List ByteArray)), (1000000, .box (tc el01Source x1.2))]⟩ ?_
  refine DGo.step (x_frz tbok (d := 12) (e := 2) (m := 1) (([0, 0, 1, 1, 2, 3] : List Int).length) (([0, 0, 1, 1, 2, 3] : List Int).map (eI .i64))) ?_
  obtain ⟨x3, hx3, h⟩ := bind_some h
  refine DGo.write [] (xw ents59 (spec_l01Pick_run x1.2 ([0, 0, 1, 1, 2, 3] : List Int) _ hx3)) ?_
  refine DGo.ck tbok false 2 ⟨60, [(0, .ref 1000000 0), (2, .ref 2 0), (10, vs x2), (13, vi x3.1), (14, .own 5), (15, .ref 1000000 0)], [(2, .box [vs (ByteArray.mk #[]), vi 0, vs (ByteArray.mk #[]), vs (ByteArray.mk #[]), vi 0, vi 0, vi 0]), (5, oa 9 1 eS ([(ByteArray.mk #[97, 115, 104]), (ByteArray.mk #[98, 114, 105, 103]), (ByteArray.mk #[99, 111, 114, 107])] : List ByteArray)), (1000000, .box (tc el01Source x3.2))]⟩ ?_
  obtain ⟨x4, hx4, h⟩ := bind_some h
  refine DGo.write [] (xw ents23 (spec_l01Next_run x3.2 3 _ hx4)) ?_
  obtain ⟨x5, hx5, h⟩ := bind_some h
  refine DGo.step (x_index_own (d := 5) (L := ([(ByteArray.mk #[97, 115, 104]), (ByteArray.mk #[98, 114, 105, 103]), (ByteArray.mk #[99, 111, 114, 107])] : List ByteArray)) (f := eS) (ti := ti60) (tj := ti9) (e := 9) (e' := 9) (m := 1) (k := .i64) tbok rfl hx5) ?_
  refine DGo.step (x_load_own (d := 5) (m := 1) (j := 0) (L := ([(ByteArray.mk #[97, 115, 104]), (ByteArray.mk #[98, 114, 105, 103]), (ByteArray.mk #[99, 111, 114, 107])] : List ByteArray)) (f := eS) (ti := ti9) (e := 9) (v := vs x5) tbok rfl hx5) ?_
  refine DGo.ck tbok false 1 ⟨60, [(0, .ref 1000000 0), (2, .ref 2 0), (10, vs x2), (13, vi x3.1), (18, vs x5), (19, .ref 1000000 0)], [(2, .box [vs (ByteArray.mk #[]), vi 0, vs (ByteArray.mk #[]), vs (ByteArray.mk #[]), vi 0, vi 0, vi 0]), (1000000, .box (tc el01Source x4.2))]⟩ ?_
  obtain ⟨x6, hx6, h⟩ := bind_some h
  refine DGo.write [] (xw ents23 (spec_l01Next_run x4.2 60 _ hx6)) ?_
  refine DGo.ck tbok false 1 ⟨60, [(0, .ref 1000000 0), (2, .ref 2 0), (10, vs x2), (13, vi x3.1), (18, vs x5), (21, vi (w64 (1200 + x6.1)))], [(2, .box [vs (ByteArray.mk #[]), vi 0, vs (ByteArray.mk #[]), vs (ByteArray.mk #[]), vi 0, vi 0, vi 0]), (1000000, .box (tc el01Source x6.2))]⟩ ?_
  refine DGo.step (x_lstep_build (v := .agg [vi (w64 (1200 + x6.1)), vi 0]) tbok rfl) ?_
  refine DGo.ck tbok false 1 ⟨60, [(0, .ref 1000000 0), (2, .ref 2 0), (10, vs x2), (13, vi x3.1), (18, vs x5), (22, .agg [vi (w64 (1200 + x6.1)), vi 0]), (23, .ref 1000000 0)], [(2, .box [vs (ByteArray.mk #[]), vi 0, vs (ByteArray.mk #[]), vs (ByteArray.mk #[]), vi 0, vi 0, vi 0]), (1000000, .box (tc el01Source x6.2))]⟩ ?_
  obtain ⟨x7, hx7, h⟩ := bind_some h
  refine DGo.write [] (xw ents23 (spec_l01Next_run x6.2 9 _ hx7)) ?_
  refine DGo.ck tbok false 1 ⟨60, [(0, .ref 1000000 0), (2, .ref 2 0), (10, vs x2), (13, vi x3.1), (18, vs x5), (22, .agg [vi (w64 (1200 + x6.1)), vi 0]), (25, vi (w64 (1 + x7.1)))], [(2, .box [vs (ByteArray.mk #[]), vi 0, vs (ByteArray.mk #[]), vs (ByteArray.mk #[]), vi 0, vi 0, vi 0]), (1000000, .box (tc el01Source x7.2))]⟩ ?_
  refine DGo.step (x_lstep_build (v := .agg [vs x2, vi x3.1, vs x5, vs (ByteArray.mk #[]), vi (w64 (1200 + x6.1)), vi 0, vi (w64 (1 + x7.1))]) tbok rfl) ?_
  refine DGo.ck tbok false 1 ⟨60, [(0, .ref 1000000 0), (2, .ref 2 0), (4, .ref 4 0), (26, .agg [vs x2, vi x3.1, vs x5, vs (ByteArray.mk #[]), vi (w64 (1200 + x6.1)), vi 0, vi (w64 (1 + x7.1))])], [(2, .box [vs (ByteArray.mk #[]), vi 0, vs (ByteArray.mk #[]), vs (ByteArray.mk #[]), vi 0, vi 0, vi 0]), (4, .box [vs (ByteArray.mk #[]), vi 0, vs (ByteArray.mk #[]), vs (ByteArray.mk #[]), vi 0, vi 0, vi 0]), (1000000, .box (tc el01Source x7.2))]⟩ ?_
  refine DGo.seq (by kernel_rfl) (by kernel_rfl) ?_
  refine ckn tbok 1 ⟨60, [(0, .ref 1000000 0), (2, .ref 2 0), (4, .ref 4 0)], [(2, .box [vs (ByteArray.mk #[]), vi 0, vs (ByteArray.mk #[]), vs (ByteArray.mk #[]), vi 0, vi 0, vi 0]), (4, .box [vs x2, vi x3.1, vs x5, vs (ByteArray.mk #[]), vi (w64 (1200 + x6.1)), vi 0, vi (w64 (1 + x7.1))]), (1000000, .box (tc el01Source x7.2))]⟩ ?_
  refine swp_seq ?_
  refine swp_drD [1000000] mixed ?_
  refine DGo.ck tbok false 4 ⟨60, [(0, .ref 1000000 0), (2, .ref 2 0), (4, .ref 4 0), (29, vi (w64 (1200 + x6.1))), (30, .ref 1000000 0)], [(2, .box [vs (ByteArray.mk #[]), vi 0, vs (ByteArray.mk #[]), vs (ByteArray.mk #[]), vi 0, vi 0, vi 0]), (4, .box [vs x2, vi x3.1, vs x5, vs (ByteArray.mk #[]), vi (w64 (1200 + x6.1)), vi 0, vi (w64 (1 + x7.1))]), (1000000, .box (tc el01Source x7.2))]⟩ ?_
  obtain ⟨x8, hx8, h⟩ := bind_some h
  refine DGo.write [] (xw ents23 (spec_l01Next_run x7.2 60 _ hx8)) ?_
  refine DGo.ck tbok false 3 ⟨60, [(0, .ref 1000000 0), (2, .ref 2 0), (4, .ref 4 0), (32, vi (w64 ((w64 (1200 + x6.1)) + x8.1))), (34, .ref 4 5)], [(2, .box [vs (ByteArray.mk #[]), vi 0, vs (ByteArray.mk #[]), vs (ByteArray.mk #[]), vi 0, vi 0, vi 0]), (4, .box [vs x2, vi x3.1, vs x5, vs (ByteArray.mk #[]), vi (w64 (1200 + x6.1)), vi 0, vi (w64 (1 + x7.1))]), (1000000, .box (tc el01Source x8.2))]⟩ ?_
  refine DGo.seq (by kernel_rfl) (by kernel_rfl) ?_
  refine ckn tbok 1 ⟨60, [(0, .ref 1000000 0), (2, .ref 2 0), (4, .ref 4 0)], [(2, .box [vs (ByteArray.mk #[]), vi 0, vs (ByteArray.mk #[]), vs (ByteArray.mk #[]), vi 0, vi 0, vi 0]), (4, .box [vs x2, vi x3.1, vs x5, vs (ByteArray.mk #[]), vi (w64 (1200 + x6.1)), vi (w64 ((w64 (1200 + x6.1)) + x8.1)), vi (w64 (1 + x7.1))]), (1000000, .box (tc el01Source x8.2))]⟩ ?_
  refine swp_seq ?_
  refine srk tbok ⟨60, [(0, .ref 1000000 0), (2, .ref 2 0), (4, .ref 4 0), (36, vi x3.1)], [(2, .box [vs (ByteArray.mk #[]), vi 0, vs (ByteArray.mk #[]), vs (ByteArray.mk #[]), vi 0, vi 0, vi 0]), (4, .box [vs x2, vi x3.1, vs x5, vs (ByteArray.mk #[]), vi (w64 (1200 + x6.1)), vi (w64 ((w64 (1200 + x6.1)) + x8.1)), vi (w64 (1 + x7.1))]), (1000000, .box (tc el01Source x8.2))]⟩ ?_
  refine swp_seqJ h (fun j9 => ⟨60, [(2, .ref 2 0), (4, .ref 4 0)], [(2, .box [vs (ByteArray.mk #[]), vi 0, vs (ByteArray.mk #[]), vs (ByteArray.mk #[]), vi 0, vi 0, vi 0]), (4, .box (tc eClaim j9.1)), (1000000, .box (tc el01Source j9.2))]⟩) (fun v10 h => ?_) (fun j9 h => ?_)
  refine swp_blk (a := v10) ?_
  refine srk tbok ⟨60, [(0, .ref 1000000 0), (2, .ref 2 0), (4, .ref 4 0), (36, vi x3.1), (37, vb (x3.1 == 0))], [(2, .box [vs (ByteArray.mk #[]), vi 0, vs (ByteArray.mk #[]), vs (ByteArray.mk #[]), vi 0, vi 0, vi 0]), (4, .box [vs x2, vi x3.1, vs x5, vs (ByteArray.mk #[]), vi (w64 (1200 + x6.1)), vi (w64 ((w64 (1200 + x6.1)) + x8.1)), vi (w64 (1 + x7.1))]), (1000000, .box (tc el01Source x8.2))]⟩ ?_
  refine swp_cd h (fun h => ?_) fun h => ?_
  refine swp_reg ?_
  refine SRun.ck tbok 2 ⟨60, [(2, .ref 2 0), (4, .ref 4 0), (39, .own 39), (40, .ref 1000000 0)], [(2, .box [vs (ByteArray.mk #[]), vi 0, vs (ByteArray.mk #[]), vs (ByteArray.mk #[]), vi 0, vi 0, vi 0]), (4, .box [vs x2, vi x3.1, vs x5, vs (ByteArray.mk #[]), vi (w64 (1200 + x6.1)), vi (w64 ((w64 (1200 + x6.1)) + x8.1)), vi (w64 (1 + x7.1))]), (39, oa 9 1 eS ([(ByteArray.mk #[111, 108, 100, 32, 97, 115, 104]), (ByteArray.mk #[110, 101, 119, 116, 111, 110]), (ByteArray.mk #[97, 115, 104, 98, 121])] : List ByteArray)), (1000000, .box (tc el01Source x8.2))]⟩ ?_
  obtain ⟨x11, hx11, h⟩ := bind_some h
  refine SRun.estep (xe ents23 (spec_l01Next_run x8.2 3 _ hx11)) ?_
  obtain ⟨x12, hx12, h⟩ := bind_some h
  refine SRun.ls (x_index_own (d := 39) (L := ([(ByteArray.mk #[111, 108, 100, 32, 97, 115, 104]), (ByteArray.mk #[110, 101, 119, 116, 111, 110]), (ByteArray.mk #[97, 115, 104, 98, 121])] : List ByteArray)) (f := eS) (ti := ti60) (tj := ti9) (e := 9) (e' := 9) (m := 1) (k := .i64) tbok rfl hx12) ?_
  refine SRun.ls (x_load_own (d := 39) (m := 1) (j := 0) (L := ([(ByteArray.mk #[111, 108, 100, 32, 97, 115, 104]), (ByteArray.mk #[110, 101, 119, 116, 111, 110]), (ByteArray.mk #[97, 115, 104, 98, 121])] : List ByteArray)) (f := eS) (ti := ti9) (e := 9) (v := vs x12) tbok rfl hx12) ?_
  refine SRun.ck tbok 2 ⟨60, [(2, .ref 2 0), (4, .ref 4 0)], [(2, .box [vs (ByteArray.mk #[]), vi 0, vs (ByteArray.mk #[]), vs (ByteArray.mk #[]), vi 0, vi 0, vi 0]), (4, .box [vs x2, vi x3.1, vs x5, vs x12, vi (w64 (1200 + x6.1)), vi (w64 ((w64 (1200 + x6.1)) + x8.1)), vi (w64 (1 + x7.1))]), (1000000, .box (tc el01Source x11.2))]⟩ ?_
  refine SRun.nil ?_
  obtain rfl := inj h
  exact q_bn (q_j (Le.sub0))
  refine srk tbok ⟨60, [(0, .ref 1000000 0), (2, .ref 2 0), (4, .ref 4 0), (45, vb (x3.1 == 1))], [(2, .box [vs (ByteArray.mk #[]), vi 0, vs (ByteArray.mk #[]), vs (ByteArray.mk #[]), vi 0, vi 0, vi 0]), (4, .box [vs x2, vi x3.1, vs x5, vs (ByteArray.mk #[]), vi (w64 (1200 + x6.1)), vi (w64 ((w64 (1200 + x6.1)) + x8.1)), vi (w64 (1 + x7.1))]), (1000000, .box (tc el01Source x8.2))]⟩ ?_
  refine swp_cd h (fun h => ?_) fun h => ?_
  refine sr ?_
  refine SRun.ck tbok 2 ⟨60, [(2, .ref 2 0), (4, .ref 4 0), (47, .own 47), (48, .ref 1000000 0)], [(2, .box [vs (ByteArray.mk #[]), vi 0, vs (ByteArray.mk #[]), vs (ByteArray.mk #[]), vi 0, vi 0, vi 0]), (4, .box [vs x2, vi x3.1, vs x5, vs (ByteArray.mk #[]), vi (w64 (1200 + x6.1)), vi (w64 ((w64 (1200 + x6.1)) + x8.1)), vi (w64 (1 + x7.1))]), (47, oa 9 1 eS ([(ByteArray.mk #[97, 115, 104]), (ByteArray.mk #[98, 114, 105, 103]), (ByteArray.mk #[99, 111, 114, 107]), (ByteArray.mk #[100, 101, 118, 97])] : List ByteArray)), (1000000, .box (tc el01Source x8.2))]⟩ ?_
  obtain ⟨x13, hx13, h⟩ := bind_some h
  refine SRun.estep (xe ents23 (spec_l01Next_run x8.2 4 _ hx13)) ?_
  obtain ⟨x14, hx14, h⟩ := bind_some h
  refine SRun.ls (x_index_own (d := 47) (L := ([(ByteArray.mk #[97, 115, 104]), (ByteArray.mk #[98, 114, 105, 103]), (ByteArray.mk #[99, 111, 114, 107]), (ByteArray.mk #[100, 101, 118, 97])] : List ByteArray)) (f := eS) (ti := ti60) (tj := ti9) (e := 9) (e' := 9) (m := 1) (k := .i64) tbok rfl hx14) ?_
  refine SRun.ls (x_load_own (d := 47) (m := 1) (j := 0) (L := ([(ByteArray.mk #[97, 115, 104]), (ByteArray.mk #[98, 114, 105, 103]), (ByteArray.mk #[99, 111, 114, 107]), (ByteArray.mk #[100, 101, 118, 97])] : List ByteArray)) (f := eS) (ti := ti9) (e := 9) (v := vs x14) tbok rfl hx14) ?_
  refine ckn tbok 2 ⟨60, [(2, .ref 2 0), (4, .ref 4 0)], [(2, .box [vs (ByteArray.mk #[]), vi 0, vs (ByteArray.mk #[]), vs (ByteArray.mk #[]), vi 0, vi 0, vi 0]), (4, .box [vs x2, vi x3.1, vs x5, vs x14, vi (w64 (1200 + x6.1)), vi (w64 ((w64 (1200 + x6.1)) + x8.1)), vi (w64 (1 + x7.1))]), (1000000, .box (tc el01Source x13.2))]⟩ ?_
  refine srk tbok ⟨60, [(2, .ref 2 0), (4, .ref 4 0), (57, vb (x14.toList == x5.toList))], [(2, .box [vs (ByteArray.mk #[]), vi 0, vs (ByteArray.mk #[]), vs (ByteArray.mk #[]), vi 0, vi 0, vi 0]), (4, .box [vs x2, vi x3.1, vs x5, vs x14, vi (w64 (1200 + x6.1)), vi (w64 ((w64 (1200 + x6.1)) + x8.1)), vi (w64 (1 + x7.1))]), (1000000, .box (tc el01Source x13.2))]⟩ ?_
  refine swp_cd h (fun h => ?_) fun h => ?_
  refine swp_reg ?_
  refine SRun.ck tbok 2 ⟨60, [(2, .ref 2 0), (4, .ref 4 0)], [(2, .box [vs (ByteArray.mk #[]), vi 0, vs (ByteArray.mk #[]), vs (ByteArray.mk #[]), vi 0, vi 0, vi 0]), (4, .box [vs x2, vi x3.1, vs x5, vs (ByteArray.mk #[100, 101, 118, 97]), vi (w64 (1200 + x6.1)), vi (w64 ((w64 (1200 + x6.1)) + x8.1)), vi (w64 (1 + x7.1))]), (1000000, .box (tc el01Source x13.2))]⟩ ?_
  refine SRun.nil ?_
  obtain rfl := inj h
  exact q_bn (q_j (Le.sub0))
  refine swp_skip ?_
  obtain rfl := inj h
  exact q_bn (q_j (Le.sub0))
  refine swp_skip ?_
  obtain rfl := inj h
  exact q_bn (q_j (Le.sub0))
  refine srk tbok ⟨60, [(2, .ref 2 0)], [(2, .box (tc eClaim j9.1)), (1000000, .box (tc el01Source j9.2))]⟩ ?_
  refine swp_ret ?_
  obtain rfl := inj h
  exact q_fr (fin_io (f1 (fc tbok)) (y := .box (tc el01Source j9.2)) (by kernel_rfl) rfl (by kernel_rfl) (by kernel_rfl))
theorem ents58 : Ents Tryz.prog 58 := ents_of Tryz.func58 (by kernel_rfl) rfl
noncomputable def spec_l02Good (aS : l01Source) : Option (Span × l01Source) :=
  ((spec_l01Next aS 1000).bind fun x1 => ((spec_l01Next x1.2 20).bind fun x2 => ((spec_l01Next x2.2 300).bind fun x3 => ((spec_l01Pick x3.2 ([0, x2.1, x3.1, 2000] : List Int)).bind fun x4 => some ((Span.mk (w64 (1000 + x1.1)) (minI 3000 (w64 ((w64 (1000 + x1.1)) + x4.1)))), x4.2)))))
theorem spec_l02Good_run (aS : l01Source) (r : Span × l01Source) (h : spec_l02Good aS = some r) : SCall Tryz.prog 78 [.o (.box [vl (eI .u8) aS.code, vi aS.at', vi aS.seed])] ⟨[.v (.agg (tc eSpan r.1))], [(0, .box (tc el01Source r.2))], false⟩ := by
  refine scall_in Tryz.func78 rfl [(.cell 2 33)] rfl (fun r => ⟨[.v (.agg (tc eSpan r.1))], [(0, .box (tc el01Source r.2))], false⟩) (r := r) ?_
  unfold spec_l02Good at h
  refine srk tbok ⟨19, [(0, .ref 1000000 0), (2, .ref 2 0)], [(2, .box [vi 0, vi 0]), (1000000, .box (tc el01Source aS))]⟩ ?_
  refine sr ?_
  refine SRun.ck tbok 1 ⟨19, [(0, .ref 1000000 0), (2, .ref 2 0), (4, .ref 1000000 0)], [(2, .box [vi 0, vi 0]), (1000000, .box (tc el01Source aS))]⟩ ?_
  obtain ⟨x1, hx1, h⟩ := bind_some h
  refine SRun.estep (xe ents23 (spec_l01Next_run aS 1000 _ hx1)) ?_
  refine ckn tbok 2 ⟨19, [(0, .ref 1000000 0), (2, .ref 2 0), (3, vi (w64 (1000 + x1.1)))], [(2, .box [vi 0, vi 0]), (1000000, .box (tc el01Source x1.2))]⟩ ?_
  refine sr ?_
  refine SRun.ck tbok 4 ⟨19, [(0, .ref 1000000 0), (2, .ref 2 0), (7, vi (w64 (1000 + x1.1))), (8, vi (w64 (1000 + x1.1))), (9, .ref 1000000 0), (10, .ref 1000000 0)], [(2, .box [vi 0, vi 0]), (1000000, .box (tc el01Source x1.2))]⟩ ?_
  obtain ⟨x2, hx2, h⟩ := bind_some h
  refine SRun.estep (xe ents23 (spec_l01Next_run x1.2 20 _ hx2)) ?_
  refine SRun.ck tbok 1 ⟨19, [(2, .ref 2 0), (7, vi (w64 (1000 + x1.1))), (8, vi (w64 (1000 + x1.1))), (9, .ref 1000000 0), (11, vi x2.1), (12, .ref 1000000 0)], [(2, .box [vi 0, vi 0]), (1000000, .box (tc el01Source x2.2))]⟩ ?_
  obtain ⟨x3, hx3, h⟩ := bind_some h
  refine SRun.estep (xe ents23 (spec_l01Next_run x2.2 300 _ hx3)) ?_
  refine SRun.ck tbok 1 ⟨19, [(2, .ref 2 0), (7, vi (w64 (1000 + x1.1))), (8, vi (w64 (1000 + x1.1))), (9, .ref 1000000 0), (14, .own 14)], [(2, .box [vi 0, vi 0]), (14, oa 2 1 (eI .i64) ([0, x2.1, x3.1, 2000] : List Int)), (1000000, .box (tc el01Source x3.2))]⟩ ?_
  refine SRun.le (Le.frz' (d := 14) (e := 2) (m := 1) (n := ([0, x2.1, x3.1, 2000] : List Int).length) (es := ([0, x2.1, x3.1, 2000] : List Int).map (eI .i64)) (by kernel_rfl) (by kernel_rfl)) ?_
  obtain ⟨x4, hx4, h⟩ := bind_some h
  refine SRun.estep (xe ents59 (spec_l01Pick_run x3.2 ([0, x2.1, x3.1, 2000] : List Int) _ hx4)) ?_
  refine SRun.ck tbok 2 ⟨19, [(2, .ref 2 0), (7, vi (w64 (1000 + x1.1))), (17, vi (minI 3000 (w64 ((w64 (1000 + x1.1)) + x4.1))))], [(2, .box [vi 0, vi 0]), (1000000, .box (tc el01Source x4.2))]⟩ ?_
  refine SRun.ls (x_lstep_build (v := .agg [vi (w64 (1000 + x1.1)), vi (minI 3000 (w64 ((w64 (1000 + x1.1)) + x4.1)))]) tbok rfl) ?_
  refine ckn tbok 1 ⟨19, [(2, .ref 2 0)], [(2, .box [vi (w64 (1000 + x1.1)), vi (minI 3000 (w64 ((w64 (1000 + x1.1)) + x4.1)))]), (1000000, .box (tc el01Source x4.2))]⟩ ?_
  refine swp_ret ?_
  obtain rfl := inj h
  exact q_fr (fin_io (f1 (fc tbok)) (y := .box (tc el01Source x4.2)) (by kernel_rfl) rfl (by kernel_rfl) (by kernel_rfl))
theorem ents78 : Ents Tryz.prog 78 := ents_of Tryz.func78 (by kernel_rfl) rfl
noncomputable def spec_l02Draw (aS : l01Source) : Option (Span × l01Source) :=
  ((spec_l02Good aS).bind fun x1 => ((spec_l01Next x1.2 20).bind fun x2 => (((bif (x2.1 == 0) then some ((Span.mk x1.1.From (w64 (x1.1.From - 1))), x2.2) else (bif (x2.1 == 1) then ((spec_l01Pick x2.2 ([(-3000), (-3001), 3001] : List Int)).bind fun x5 => some ((Span.mk x5.1 x1.1.To), x5.2)) else (bif (x2.1 == 2) then ((spec_l01Pick x2.2 ([3000, 3001] : List Int)).bind fun x6 => some ((Span.mk x1.1.From x6.1), x6.2)) else some (x1.1, x2.2))))).bind fun (j3 : Span × l01Source) => some (j3.1, j3.2))))
theorem spec_l02Draw_run (aS : l01Source) (r : Span × l01Source) (h : spec_l02Draw aS = some r) : SCall Tryz.prog 60 [.o (.box [vl (eI .u8) aS.code, vi aS.at', vi aS.seed])] ⟨[.v (.agg (tc eSpan r.1))], [(0, .box (tc el01Source r.2))], false⟩ := by
  refine scall_in Tryz.func60 rfl [(.cell 2 33)] rfl (fun r => ⟨[.v (.agg (tc eSpan r.1))], [(0, .box (tc el01Source r.2))], false⟩) (r := r) ?_
  unfold spec_l02Draw at h
  refine srk tbok ⟨27, [(0, .ref 1000000 0), (2, .ref 2 0)], [(2, .box [vi 0, vi 0]), (1000000, .box (tc el01Source aS))]⟩ ?_
  refine sr ?_
  refine SRun.ck tbok 1 ⟨27, [(0, .ref 1000000 0), (2, .ref 2 0), (4, .ref 1000000 0)], [(2, .box [vi 0, vi 0]), (1000000, .box (tc el01Source aS))]⟩ ?_
  obtain ⟨x1, hx1, h⟩ := bind_some h
  refine SRun.estep (xe ents78 (spec_l02Good_run aS _ hx1)) ?_
  refine ckn tbok 2 ⟨27, [(0, .ref 1000000 0), (2, .ref 2 0), (3, .ref 3 0)], [(2, .box [vi 0, vi 0]), (3, .box (tc eSpan x1.1)), (1000000, .box (tc el01Source x1.2))]⟩ ?_
  refine swp_seq ?_
  refine sr ?_
  refine SRun.ck tbok 1 ⟨27, [(0, .ref 1000000 0), (2, .ref 2 0), (3, .ref 3 0), (6, .ref 1000000 0)], [(2, .box [vi 0, vi 0]), (3, .box (tc eSpan x1.1)), (1000000, .box (tc el01Source x1.2))]⟩ ?_
  obtain ⟨x2, hx2, h⟩ := bind_some h
  refine SRun.estep (xe ents23 (spec_l01Next_run x1.2 20 _ hx2)) ?_
  refine SRun.nx ?_
  refine swp_seqJ h (fun j3 => ⟨27, [(2, .ref 2 0), (3, .ref 3 0)], [(2, .box [vi 0, vi 0]), (3, .box (tc eSpan j3.1)), (1000000, .box (tc el01Source j3.2))]⟩) (fun v4 h => ?_) (fun j3 h => ?_)
  refine swp_blk (a := v4) ?_
  refine srk tbok ⟨27, [(0, .ref 1000000 0), (2, .ref 2 0), (3, .ref 3 0), (7, vi x2.1), (8, vb (x2.1 == 0))], [(2, .box [vi 0, vi 0]), (3, .box (tc eSpan x1.1)), (1000000, .box (tc el01Source x2.2))]⟩ ?_
  refine swp_cd h (fun h => ?_) fun h => ?_
  refine swp_reg ?_
  refine SRun.ck tbok 5 ⟨27, [(2, .ref 2 0), (3, .ref 3 0)], [(2, .box [vi 0, vi 0]), (3, .box [vi x1.1.From, vi (w64 (x1.1.From - 1))]), (1000000, .box (tc el01Source x2.2))]⟩ ?_
  refine SRun.nil ?_
  obtain rfl := inj h
  exact q_bn (q_j (Le.sub0))
  refine srk tbok ⟨27, [(0, .ref 1000000 0), (2, .ref 2 0), (3, .ref 3 0), (7, vi x2.1), (14, vb (x2.1 == 1))], [(2, .box [vi 0, vi 0]), (3, .box (tc eSpan x1.1)), (1000000, .box (tc el01Source x2.2))]⟩ ?_
  refine swp_cd h (fun h => ?_) fun h => ?_
  refine swp_reg ?_
  refine SRun.ck tbok 2 ⟨27, [(2, .ref 2 0), (3, .ref 3 0), (16, .ref 1000000 0), (17, .own 17)], [(2, .box [vi 0, vi 0]), (3, .box (tc eSpan x1.1)), (17, oa 2 1 (eI .i64) ([(-3000), (-3001), 3001] : List Int)), (1000000, .box (tc el01Source x2.2))]⟩ ?_
  refine SRun.le (Le.frz' (d := 17) (e := 2) (m := 1) (n := ([(-3000), (-3001), 3001] : List Int).length) (es := ([(-3000), (-3001), 3001] : List Int).map (eI .i64)) (by kernel_rfl) (by kernel_rfl)) ?_
  obtain ⟨x5, hx5, h⟩ := bind_some h
  refine SRun.estep (xe ents59 (spec_l01Pick_run x2.2 ([(-3000), (-3001), 3001] : List Int) _ hx5)) ?_
  refine SRun.ck tbok 2 ⟨27, [(2, .ref 2 0), (3, .ref 3 0)], [(2, .box [vi 0, vi 0]), (3, .box [vi x5.1, vi x1.1.To]), (1000000, .box (tc el01Source x5.2))]⟩ ?_
  refine SRun.nil ?_
  obtain rfl := inj h
  exact q_bn (q_j (Le.sub0))
  refine srk tbok ⟨27, [(0, .ref 1000000 0), (2, .ref 2 0), (3, .ref 3 0), (20, vb (x2.1 == 2))], [(2, .box [vi 0, vi 0]), (3, .box (tc eSpan x1.1)), (1000000, .box (tc el01Source x2.2))]⟩ ?_
  refine swp_cd h (fun h => ?_) fun h => ?_
  refine swp_reg ?_
  refine SRun.ck tbok 2 ⟨27, [(2, .ref 2 0), (3, .ref 3 0), (22, .ref 1000000 0), (23, .own 23)], [(2, .box [vi 0, vi 0]), (3, .box (tc eSpan x1.1)), (23, oa 2 1 (eI .i64) ([3000, 3001] : List Int)), (1000000, .box (tc el01Source x2.2))]⟩ ?_
  refine SRun.le (Le.frz' (d := 23) (e := 2) (m := 1) (n := ([3000, 3001] : List Int).length) (es := ([3000, 3001] : List Int).map (eI .i64)) (by kernel_rfl) (by kernel_rfl)) ?_
  obtain ⟨x6, hx6, h⟩ := bind_some h
  refine SRun.estep (xe ents59 (spec_l01Pick_run x2.2 ([3000, 3001] : List Int) _ hx6)) ?_
  refine SRun.ck tbok 2 ⟨27, [(2, .ref 2 0), (3, .ref 3 0)], [(2, .box [vi 0, vi 0]), (3, .box [vi x1.1.From, vi x6.1]), (1000000, .box (tc el01Source x6.2))]⟩ ?_
  refine SRun.nil ?_
  obtain rfl := inj h
  exact q_bn (q_j (Le.sub0))
  refine swp_skip ?_
  obtain rfl := inj h
  exact q_bn (q_j (Le.sub0))
  refine srk tbok ⟨27, [(2, .ref 2 0)], [(2, .box (tc eSpan j3.1)), (1000000, .box (tc el01Source j3.2))]⟩ ?_
  refine swp_ret ?_
  obtain rfl := inj h
  exact q_fr (fin_io (f1 (fc tbok)) (y := .box (tc el01Source j3.2)) (by kernel_rfl) rfl (by kernel_rfl) (by kernel_rfl))
theorem ents60 : Ents Tryz.prog 60 := ents_of Tryz.func60 (by kernel_rfl) rfl
noncomputable def spec_l20Draw (aS : l01Source) : Option (Claim × l01Source) :=
  ((spec_l20Good aS).bind fun x1 => ((spec_l01Next x1.2 24).bind fun x2 => (((bif (x2.1 == 0) then ((spec_l01Pick x2.2 ([0, 100, 101] : List Int)).bind fun x5 => some ((Claim.mk x1.1.Source x1.1.Kind x1.1.Place x1.1.Value x1.1.Years x5.1), x5.2)) else (bif (x2.1 == 1) then ((spec_l01Next x2.2 3).bind fun x6 => ((at' ([(ByteArray.mk #[]), (ByteArray.mk #[97, 115, 104]), (ByteArray.mk #[79, 108, 100])] : List ByteArray) x6.1).bind fun x7 => some ((Claim.mk x1.1.Source x1.1.Kind x1.1.Place x7 x1.1.Years x1.1.Weight), x6.2))) else (bif (x2.1 == 2) then ((spec_l01Next x2.2 6).bind fun x8 => some ((Claim.mk x1.1.Source (w64 (x8.1 - 1)) x1.1.Place x1.1.Value x1.1.Years x1.1.Weight), x8.2)) else (bif (x2.1 == 3) then ((spec_l02Draw x2.2).bind fun x9 => some ((Claim.mk x1.1.Source x1.1.Kind x1.1.Place x1.1.Value x9.1 x1.1.Weight), x9.2)) else some (x1.1, x2.2)))))).bind fun (j3 : Claim × l01Source) => some (j3.1, j3.2))))
theorem spec_l20Draw_run (aS : l01Source) (r : Claim × l01Source) (h : spec_l20Draw aS = some r) : SCall Tryz.prog 35 [.o (.box [vl (eI .u8) aS.code, vi aS.at', vi aS.seed])] ⟨[.v (.agg (tc eClaim r.1))], [(0, .box (tc el01Source r.2))], false⟩ := by
  refine scall_in Tryz.func35 rfl [(.cell 2 35)] rfl (fun r => ⟨[.v (.agg (tc eClaim r.1))], [(0, .box (tc el01Source r.2))], false⟩) (r := r) ?_
  unfold spec_l20Draw at h
  refine srk tbok ⟨34, [(0, .ref 1000000 0), (2, .ref 2 0)], [(2, .box [vs (ByteArray.mk #[]), vi 0, vs (ByteArray.mk #[]), vs (ByteArray.mk #[]), vi 0, vi 0, vi 0]), (1000000, .box (tc el01Source aS))]⟩ ?_
  refine sr ?_
  refine SRun.ck tbok 1 ⟨34, [(0, .ref 1000000 0), (2, .ref 2 0), (4, .ref 1000000 0)], [(2, .box [vs (ByteArray.mk #[]), vi 0, vs (ByteArray.mk #[]), vs (ByteArray.mk #[]), vi 0, vi 0, vi 0]), (1000000, .box (tc el01Source aS))]⟩ ?_
  obtain ⟨x1, hx1, h⟩ := bind_some h
  refine SRun.estep (xe ents58 (spec_l20Good_run aS _ hx1)) ?_
  refine ckn tbok 2 ⟨34, [(0, .ref 1000000 0), (2, .ref 2 0), (3, .ref 3 0)], [(2, .box [vs (ByteArray.mk #[]), vi 0, vs (ByteArray.mk #[]), vs (ByteArray.mk #[]), vi 0, vi 0, vi 0]), (3, .box (tc eClaim x1.1)), (1000000, .box (tc el01Source x1.2))]⟩ ?_
  refine swp_seq ?_
  refine sr ?_
  refine SRun.ck tbok 1 ⟨34, [(0, .ref 1000000 0), (2, .ref 2 0), (3, .ref 3 0), (6, .ref 1000000 0)], [(2, .box [vs (ByteArray.mk #[]), vi 0, vs (ByteArray.mk #[]), vs (ByteArray.mk #[]), vi 0, vi 0, vi 0]), (3, .box (tc eClaim x1.1)), (1000000, .box (tc el01Source x1.2))]⟩ ?_
  obtain ⟨x2, hx2, h⟩ := bind_some h
  refine SRun.estep (xe ents23 (spec_l01Next_run x1.2 24 _ hx2)) ?_
  refine SRun.nx ?_
  refine swp_seqJ h (fun j3 => ⟨34, [(2, .ref 2 0), (3, .ref 3 0)], [(2, .box [vs (ByteArray.mk #[]), vi 0, vs (ByteArray.mk #[]), vs (ByteArray.mk #[]), vi 0, vi 0, vi 0]), (3, .box (tc eClaim j3.1)), (1000000, .box (tc el01Source j3.2))]⟩) (fun v4 h => ?_) (fun j3 h => ?_)
  refine swp_blk (a := v4) ?_
  refine srk tbok ⟨34, [(0, .ref 1000000 0), (2, .ref 2 0), (3, .ref 3 0), (7, vi x2.1), (8, vb (x2.1 == 0))], [(2, .box [vs (ByteArray.mk #[]), vi 0, vs (ByteArray.mk #[]), vs (ByteArray.mk #[]), vi 0, vi 0, vi 0]), (3, .box (tc eClaim x1.1)), (1000000, .box (tc el01Source x2.2))]⟩ ?_
  refine swp_cd h (fun h => ?_) fun h => ?_
  refine swp_reg ?_
  refine SRun.ck tbok 2 ⟨34, [(2, .ref 2 0), (3, .ref 3 0), (10, .ref 1000000 0), (11, .own 11)], [(2, .box [vs (ByteArray.mk #[]), vi 0, vs (ByteArray.mk #[]), vs (ByteArray.mk #[]), vi 0, vi 0, vi 0]), (3, .box (tc eClaim x1.1)), (11, oa 2 1 (eI .i64) ([0, 100, 101] : List Int)), (1000000, .box (tc el01Source x2.2))]⟩ ?_
  refine SRun.le (Le.frz' (d := 11) (e := 2) (m := 1) (n := ([0, 100, 101] : List Int).length) (es := ([0, 100, 101] : List Int).map (eI .i64)) (by kernel_rfl) (by kernel_rfl)) ?_
  obtain ⟨x5, hx5, h⟩ := bind_some h
  refine SRun.estep (xe ents59 (spec_l01Pick_run x2.2 ([0, 100, 101] : List Int) _ hx5)) ?_
  refine SRun.ck tbok 2 ⟨34, [(2, .ref 2 0), (3, .ref 3 0)], [(2, .box [vs (ByteArray.mk #[]), vi 0, vs (ByteArray.mk #[]), vs (ByteArray.mk #[]), vi 0, vi 0, vi 0]), (3, .box [vs x1.1.Source, vi x1.1.Kind, vs x1.1.Place, vs x1.1.Value, vi x1.1.Years.From, vi x1.1.Years.To, vi x5.1]), (1000000, .box (tc el01Source x5.2))]⟩ ?_
  refine SRun.nil ?_
  obtain rfl := inj h
  exact q_bn (q_j (Le.sub0))
  refine srk tbok ⟨34, [(0, .ref 1000000 0), (2, .ref 2 0), (3, .ref 3 0), (7, vi x2.1), (14, vb (x2.1 == 1))], [(2, .box [vs (ByteArray.mk #[]), vi 0, vs (ByteArray.mk #[]), vs (ByteArray.mk #[]), vi 0, vi 0, vi 0]), (3, .box (tc eClaim x1.1)), (1000000, .box (tc el01Source x2.2))]⟩ ?_
  refine swp_cd h (fun h => ?_) fun h => ?_
  refine swp_reg ?_
  refine SRun.ck tbok 2 ⟨34, [(2, .ref 2 0), (3, .ref 3 0), (16, .own 16), (17, .ref 1000000 0)], [(2, .box [vs (ByteArray.mk #[]), vi 0, vs (ByteArray.mk #[]), vs (ByteArray.mk #[]), vi 0, vi 0, vi 0]), (3, .box (tc eClaim x1.1)), (16, oa 9 1 eS ([(ByteArray.mk #[]), (ByteArray.mk #[97, 115, 104]), (ByteArray.mk #[79, 108, 100])] : List ByteArray)), (1000000, .box (tc el01Source x2.2))]⟩ ?_
  obtain ⟨x6, hx6, h⟩ := bind_some h
  refine SRun.estep (xe ents23 (spec_l01Next_run x2.2 3 _ hx6)) ?_
  obtain ⟨x7, hx7, h⟩ := bind_some h
  refine SRun.ls (x_index_own (d := 16) (L := ([(ByteArray.mk #[]), (ByteArray.mk #[97, 115, 104]), (ByteArray.mk #[79, 108, 100])] : List ByteArray)) (f := eS) (ti := ti60) (tj := ti9) (e := 9) (e' := 9) (m := 1) (k := .i64) tbok rfl hx7) ?_
  refine SRun.ls (x_load_own (d := 16) (m := 1) (j := 0) (L := ([(ByteArray.mk #[]), (ByteArray.mk #[97, 115, 104]), (ByteArray.mk #[79, 108, 100])] : List ByteArray)) (f := eS) (ti := ti9) (e := 9) (v := vs x7) tbok rfl hx7) ?_
  refine SRun.ck tbok 2 ⟨34, [(2, .ref 2 0), (3, .ref 3 0)], [(2, .box [vs (ByteArray.mk #[]), vi 0, vs (ByteArray.mk #[]), vs (ByteArray.mk #[]), vi 0, vi 0, vi 0]), (3, .box [vs x1.1.Source, vi x1.1.Kind, vs x1.1.Place, vs x7, vi x1.1.Years.From, vi x1.1.Years.To, vi x1.1.Weight]), (1000000, .box (tc el01Source x6.2))]⟩ ?_
  refine SRun.nil ?_
  obtain rfl := inj h
  exact q_bn (q_j (Le.sub0))
  refine srk tbok ⟨34, [(0, .ref 1000000 0), (2, .ref 2 0), (3, .ref 3 0), (7, vi x2.1), (22, vb (x2.1 == 2))], [(2, .box [vs (ByteArray.mk #[]), vi 0, vs (ByteArray.mk #[]), vs (ByteArray.mk #[]), vi 0, vi 0, vi 0]), (3, .box (tc eClaim x1.1)), (1000000, .box (tc el01Source x2.2))]⟩ ?_
  refine swp_cd h (fun h => ?_) fun h => ?_
  refine swp_reg ?_
  refine SRun.ck tbok 1 ⟨34, [(2, .ref 2 0), (3, .ref 3 0), (24, .ref 1000000 0)], [(2, .box [vs (ByteArray.mk #[]), vi 0, vs (ByteArray.mk #[]), vs (ByteArray.mk #[]), vi 0, vi 0, vi 0]), (3, .box (tc eClaim x1.1)), (1000000, .box (tc el01Source x2.2))]⟩ ?_
  obtain ⟨x8, hx8, h⟩ := bind_some h
  refine SRun.estep (xe ents23 (spec_l01Next_run x2.2 6 _ hx8)) ?_
  refine SRun.ck tbok 3 ⟨34, [(2, .ref 2 0), (3, .ref 3 0)], [(2, .box [vs (ByteArray.mk #[]), vi 0, vs (ByteArray.mk #[]), vs (ByteArray.mk #[]), vi 0, vi 0, vi 0]), (3, .box [vs x1.1.Source, vi (w64 (x8.1 - 1)), vs x1.1.Place, vs x1.1.Value, vi x1.1.Years.From, vi x1.1.Years.To, vi x1.1.Weight]), (1000000, .box (tc el01Source x8.2))]⟩ ?_
  refine SRun.nil ?_
  obtain rfl := inj h
  exact q_bn (q_j (Le.sub0))
  refine srk tbok ⟨34, [(0, .ref 1000000 0), (2, .ref 2 0), (3, .ref 3 0), (28, vb (x2.1 == 3))], [(2, .box [vs (ByteArray.mk #[]), vi 0, vs (ByteArray.mk #[]), vs (ByteArray.mk #[]), vi 0, vi 0, vi 0]), (3, .box (tc eClaim x1.1)), (1000000, .box (tc el01Source x2.2))]⟩ ?_
  refine swp_cd h (fun h => ?_) fun h => ?_
  refine swp_reg ?_
  refine SRun.ck tbok 1 ⟨34, [(2, .ref 2 0), (3, .ref 3 0), (30, .ref 1000000 0)], [(2, .box [vs (ByteArray.mk #[]), vi 0, vs (ByteArray.mk #[]), vs (ByteArray.mk #[]), vi 0, vi 0, vi 0]), (3, .box (tc eClaim x1.1)), (1000000, .box (tc el01Source x2.2))]⟩ ?_
  obtain ⟨x9, hx9, h⟩ := bind_some h
  refine SRun.estep (xe ents60 (spec_l02Draw_run x2.2 _ hx9)) ?_
  refine SRun.ck tbok 2 ⟨34, [(2, .ref 2 0), (3, .ref 3 0)], [(2, .box [vs (ByteArray.mk #[]), vi 0, vs (ByteArray.mk #[]), vs (ByteArray.mk #[]), vi 0, vi 0, vi 0]), (3, .box [vs x1.1.Source, vi x1.1.Kind, vs x1.1.Place, vs x1.1.Value, vi x9.1.From, vi x9.1.To, vi x1.1.Weight]), (1000000, .box (tc el01Source x9.2))]⟩ ?_
  refine SRun.nil ?_
  obtain rfl := inj h
  exact q_bn (q_j (Le.sub0))
  refine swp_skip ?_
  obtain rfl := inj h
  exact q_bn (q_j (Le.sub0))
  refine srk tbok ⟨34, [(2, .ref 2 0)], [(2, .box (tc eClaim j3.1)), (1000000, .box (tc el01Source j3.2))]⟩ ?_
  refine swp_ret ?_
  obtain rfl := inj h
  exact q_fr (fin_io (f1 (fc tbok)) (y := .box (tc el01Source j3.2)) (by kernel_rfl) rfl (by kernel_rfl) (by kernel_rfl))
theorem ents35 : Ents Tryz.prog 35 := ents_of Tryz.func35 (by kernel_rfl) rfl
noncomputable def spec_l20List (aS : l01Source) : Option ((List Claim) × l01Source) :=
  ((spec_l01Next aS 9).bind fun x1 => (((loop (fun (s4 : Int × (List Claim) × l01Source) => (bif (decide (s4.1 > 0)) then ((((spec_l20Good s4.2.2).bind fun x8 => ((app' s4.2.1 ([x8.1] : List Claim)).bind fun x9 => some (x9, x8.2)))).bind fun (j6 : (List Claim) × l01Source) => some (.inl ((w64 (s4.1 - 1)), j6.1, j6.2))) else some (.inr (s4.2.1, s4.2.2)))) (x1.1, ([] : List Claim), x1.2))).bind fun (j2 : (List Claim) × l01Source) => ((spec_l01Next j2.2 24).bind fun x10 => (((bif (x10.1 == 0) then ((spec_l20Draw x10.2).bind fun x13 => ((app' j2.1 ([x13.1] : List Claim)).bind fun x14 => some (x14, x13.2))) else (bif (x10.1 == 1) then (loop (fun (s15 : (List Claim) × l01Source) => ((spec_l01Next s15.2 2).bind fun x17 => (bif (decide ((s15.1.length : Int) < (w64 (12 + x17.1)))) then ((spec_l20Good x17.2).bind fun x18 => ((app' s15.1 ([x18.1] : List Claim)).bind fun x19 => some (.inl (x19, x18.2)))) else some (.inr (s15.1, x17.2))))) (j2.1, x10.2)) else some (j2.1, x10.2)))).bind fun (j11 : (List Claim) × l01Source) => some (j11.1, j11.2)))))
theorem spec_l20List_run (aS : l01Source) (r : (List Claim) × l01Source) (h : spec_l20List aS = some r) : SCall Tryz.prog 48 [.o (.box [vl (eI .u8) aS.code, vi aS.at', vi aS.seed])] ⟨[.own 35 7 r.1.length (r.1.map eClaim)], [(0, .box (tc el01Source r.2))], false⟩ := by
  refine scall_in Tryz.func48 rfl [(.tmp 2)] rfl (fun r => ⟨[.own 35 7 r.1.length (r.1.map eClaim)], [(0, .box (tc el01Source r.2))], false⟩) (r := r) ?_
  unfold spec_l20List at h
  refine srk tbok ⟨40, [(0, .ref 1000000 0)], [(1000000, .box (tc el01Source aS))]⟩ ?_
  refine srk tbok ⟨40, [(0, .ref 1000000 0), (3, .own 5)], [(5, oa 35 7 eClaim ([] : List Claim)), (1000000, .box (tc el01Source aS))]⟩ ?_
  refine swp_seq ?_
  refine sr ?_
  refine SRun.ck tbok 1 ⟨40, [(0, .ref 1000000 0), (3, .own 5), (6, .ref 1000000 0)], [(5, oa 35 7 eClaim ([] : List Claim)), (1000000, .box (tc el01Source aS))]⟩ ?_
  obtain ⟨x1, hx1, h⟩ := bind_some h
  refine SRun.estep (xe ents23 (spec_l01Next_run aS 9 _ hx1)) ?_
  refine ckn tbok 1 ⟨40, [(0, .ref 1000000 0), (3, .own 5), (4, vi x1.1)], [(5, oa 35 7 eClaim ([] : List Claim)), (1000000, .box (tc el01Source x1.2))]⟩ ?_
  refine swp_seqJ h (fun j2 => ⟨40, [(0, .ref 1000000 0), (3, .own 3)], [(3, oa 35 7 eClaim j2.1), (1000000, .box (tc el01Source j2.2))]⟩) (fun v3 h => ?_) (fun j2 h => ?_)
  refine swp_blk (a := v3) ?_
  refine swp_lpL (r := v3) (s := (x1.1, ([] : List Claim), x1.2)) _ (fun s4 => ⟨40, [(0, .ref 1000000 0), (3, .own 3), (4, vi s4.1)], [(3, oa 35 7 eClaim s4.2.1), (1000000, .box (tc el01Source s4.2.2))]⟩) _ (Le.rr [5, 1000000] [(5, 3)]) h (fun s4 v5 h => ?_)
  refine swp_seq ?_
  refine srk tbok ⟨40, [(0, .ref 1000000 0), (3, .own 3), (4, vi s4.1), (9, vb (decide (s4.1 > 0)))], [(3, oa 35 7 eClaim s4.2.1), (1000000, .box (tc el01Source s4.2.2))]⟩ ?_
  refine swp_cd h (fun h => ?_) fun h => ?_
  refine swp_skip ?_
  refine nx_n ?_
  refine swp_seq ?_
  refine swp_seqJ h (fun j6 => ⟨40, [(0, .ref 1000000 0), (3, .own 3), (4, vi s4.1)], [(3, oa 35 7 eClaim j6.1), (1000000, .box (tc el01Source j6.2))]⟩) (fun v7 h => ?_) (fun j6 h => ?_)
  refine swp_blk (a := v7) ?_
  refine swp_reg ?_
  refine SRun.ck tbok 2 ⟨40, [(0, .ref 1000000 0), (4, vi s4.1), (12, .own 3), (13, .ref 1000000 0)], [(3, oa 35 7 eClaim s4.2.1), (1000000, .box (tc el01Source s4.2.2))]⟩ ?_
  obtain ⟨x8, hx8, h⟩ := bind_some h
  refine SRun.estep (xe ents58 (spec_l20Good_run s4.2.2 _ hx8)) ?_
  refine SRun.ck tbok 1 ⟨40, [(0, .ref 1000000 0), (4, vi s4.1), (12, .own 3), (15, .own 15)], [(3, oa 35 7 eClaim s4.2.1), (15, oa 35 7 eClaim ([x8.1] : List Claim)), (1000000, .box (tc el01Source x8.2))]⟩ ?_
  obtain ⟨x9, hx9, h⟩ := bind_some h
  refine SRun.estep (x_append (f := eClaim) (t := 24) (ti := ti24) (tj := ti35) (zs := [.string (ByteArray.mk #[]), .int .i64 0, .string (ByteArray.mk #[]), .string (ByteArray.mk #[]), .int .i64 0, .int .i64 0, .int .i64 0]) (e := 35) (m := 7) (d := 3) (xv := .own 15) hx9 tbok rfl rfl rfl rfl (x_src_o (e := 35))) ?_
  refine SRun.ck tbok 1 ⟨40, [(0, .ref 1000000 0), (3, .own 16), (4, vi s4.1)], [(16, oa 35 7 eClaim x9), (1000000, .box (tc el01Source x8.2))]⟩ ?_
  refine SRun.nil ?_
  obtain rfl := inj h
  exact q_bn (q_j (Le.rr [16, 1000000] [(16, 3)]))
  refine swp_reg ?_
  refine SRun.ck tbok 3 ⟨40, [(0, .ref 1000000 0), (3, .own 3), (4, vi (w64 (s4.1 - 1)))], [(3, oa 35 7 eClaim j6.1), (1000000, .box (tc el01Source j6.2))]⟩ ?_
  refine SRun.nil ?_
  obtain rfl := inj h
  exact q_l (Le.sub0)
  refine swp_exit ?_
  obtain rfl := inj h
  exact nx_e (q_re (q_bh (q_j (Le.sub0))))
  refine swp_seq ?_
  refine sr ?_
  refine SRun.ck tbok 1 ⟨40, [(0, .ref 1000000 0), (3, .own 3), (17, .ref 1000000 0)], [(3, oa 35 7 eClaim j2.1), (1000000, .box (tc el01Source j2.2))]⟩ ?_
  obtain ⟨x10, hx10, h⟩ := bind_some h
  refine SRun.estep (xe ents23 (spec_l01Next_run j2.2 24 _ hx10)) ?_
  refine SRun.nx ?_
  refine swp_seqJ h (fun j11 => ⟨40, [(3, .own 3)], [(3, oa 35 7 eClaim j11.1), (1000000, .box (tc el01Source j11.2))]⟩) (fun v12 h => ?_) (fun j11 h => ?_)
  refine swp_blk (a := v12) ?_
  refine srk tbok ⟨40, [(0, .ref 1000000 0), (3, .own 3), (18, vi x10.1), (19, vb (x10.1 == 0))], [(3, oa 35 7 eClaim j2.1), (1000000, .box (tc el01Source x10.2))]⟩ ?_
  refine swp_cd h (fun h => ?_) fun h => ?_
  refine swp_reg ?_
  refine SRun.ck tbok 2 ⟨40, [(21, .own 3), (22, .ref 1000000 0)], [(3, oa 35 7 eClaim j2.1), (1000000, .box (tc el01Source x10.2))]⟩ ?_
  obtain ⟨x13, hx13, h⟩ := bind_some h
  refine SRun.estep (xe ents35 (spec_l20Draw_run x10.2 _ hx13)) ?_
  refine SRun.ck tbok 1 ⟨40, [(21, .own 3), (24, .own 24)], [(3, oa 35 7 eClaim j2.1), (24, oa 35 7 eClaim ([x13.1] : List Claim)), (1000000, .box (tc el01Source x13.2))]⟩ ?_
  obtain ⟨x14, hx14, h⟩ := bind_some h
  refine SRun.estep (x_append (f := eClaim) (t := 24) (ti := ti24) (tj := ti35) (zs := [.string (ByteArray.mk #[]), .int .i64 0, .string (ByteArray.mk #[]), .string (ByteArray.mk #[]), .int .i64 0, .int .i64 0, .int .i64 0]) (e := 35) (m := 7) (d := 3) (xv := .own 24) hx14 tbok rfl rfl rfl rfl (x_src_o (e := 35))) ?_
  refine SRun.ck tbok 1 ⟨40, [(3, .own 25)], [(25, oa 35 7 eClaim x14), (1000000, .box (tc el01Source x13.2))]⟩ ?_
  refine SRun.nil ?_
  obtain rfl := inj h
  exact q_bn (q_j (Le.rr [25, 1000000] [(25, 3)]))
  refine srk tbok ⟨40, [(0, .ref 1000000 0), (3, .own 3), (26, vb (x10.1 == 1))], [(3, oa 35 7 eClaim j2.1), (1000000, .box (tc el01Source x10.2))]⟩ ?_
  refine swp_cd h (fun h => ?_) fun h => ?_
  refine swp_blk (a := v12) ?_
  refine swp_lpL (r := v12) (s := (j2.1, x10.2)) _ (fun s15 => ⟨40, [(0, .ref 1000000 0), (3, .own 3)], [(3, oa 35 7 eClaim s15.1), (1000000, .box (tc el01Source s15.2))]⟩) _ (Le.sub0) h (fun s15 v16 h => ?_)
  refine swp_seq ?_
  refine sr ?_
  refine SRun.ck tbok 3 ⟨40, [(0, .ref 1000000 0), (3, .own 3), (29, vi (s15.1.length : Int)), (30, .ref 1000000 0)], [(3, oa 35 7 eClaim s15.1), (1000000, .box (tc el01Source s15.2))]⟩ ?_
  obtain ⟨x17, hx17, h⟩ := bind_some h
  refine SRun.estep (xe ents23 (spec_l01Next_run s15.2 2 _ hx17)) ?_
  refine ckn tbok 2 ⟨40, [(0, .ref 1000000 0), (3, .own 3), (33, vb (decide ((s15.1.length : Int) < (w64 (12 + x17.1)))))], [(3, oa 35 7 eClaim s15.1), (1000000, .box (tc el01Source x17.2))]⟩ ?_
  refine swp_cd h (fun h => ?_) fun h => ?_
  refine swp_skip ?_
  refine nx_n ?_
  refine swp_blk (a := v16) ?_
  refine swp_reg ?_
  refine SRun.ck tbok 2 ⟨40, [(0, .ref 1000000 0), (34, .own 3), (35, .ref 1000000 0)], [(3, oa 35 7 eClaim s15.1), (1000000, .box (tc el01Source x17.2))]⟩ ?_
  obtain ⟨x18, hx18, h⟩ := bind_some h
  refine SRun.estep (xe ents58 (spec_l20Good_run x17.2 _ hx18)) ?_
  refine SRun.ck tbok 1 ⟨40, [(0, .ref 1000000 0), (34, .own 3), (37, .own 37)], [(3, oa 35 7 eClaim s15.1), (37, oa 35 7 eClaim ([x18.1] : List Claim)), (1000000, .box (tc el01Source x18.2))]⟩ ?_
  obtain ⟨x19, hx19, h⟩ := bind_some h
  refine SRun.estep (x_append (f := eClaim) (t := 24) (ti := ti24) (tj := ti35) (zs := [.string (ByteArray.mk #[]), .int .i64 0, .string (ByteArray.mk #[]), .string (ByteArray.mk #[]), .int .i64 0, .int .i64 0, .int .i64 0]) (e := 35) (m := 7) (d := 3) (xv := .own 37) hx19 tbok rfl rfl rfl rfl (x_src_o (e := 35))) ?_
  refine SRun.ck tbok 1 ⟨40, [(0, .ref 1000000 0), (3, .own 38)], [(38, oa 35 7 eClaim x19), (1000000, .box (tc el01Source x18.2))]⟩ ?_
  refine SRun.nil ?_
  obtain rfl := inj h
  exact q_bn (q_l (Le.rr [38, 1000000] [(38, 3)]))
  refine swp_exit ?_
  obtain rfl := inj h
  exact nx_e (q_re (q_bh (q_bn (q_j (Le.sub0)))))
  refine swp_skip ?_
  obtain rfl := inj h
  exact q_bn (q_j (Le.sub0))
  refine srk tbok ⟨40, [(2, .own 3)], [(3, oa 35 7 eClaim j11.1), (1000000, .box (tc el01Source j11.2))]⟩ ?_
  refine swp_ret ?_
  obtain rfl := inj h
  exact q_fr (fin_io (f1 (fo eClaim_flat)) (y := .box (tc el01Source j11.2)) (by kernel_rfl) rfl (by kernel_rfl) (by kernel_rfl))
theorem ents48 : Ents Tryz.prog 48 := ents_of Tryz.func48 (by kernel_rfl) rfl
noncomputable def spec_l21List (aS : l01Source) : Option ((List Claim) × l01Source) :=
  ((spec_l01Next aS 3).bind fun x1 => (((bif (x1.1 == 0) then (forS 3 (fun (i4 : Int) (s4 : (List Claim) × l01Source) => ((at' ([(ByteArray.mk #[97, 116, 108, 97, 115]), (ByteArray.mk #[99, 104, 97, 114, 116, 101, 114]), (ByteArray.mk #[114, 111, 108, 108])] : List ByteArray) i4).bind fun x8 => ((at' ([(ByteArray.mk #[97, 115, 104]), (ByteArray.mk #[98, 114, 105, 103]), (ByteArray.mk #[99, 111, 114, 107]), (ByteArray.mk #[97, 115, 104])] : List ByteArray) i4).bind fun x9 => ((at' ([(ByteArray.mk #[97, 115, 104]), (ByteArray.mk #[98, 114, 105, 103]), (ByteArray.mk #[99, 111, 114, 107]), (ByteArray.mk #[97, 115, 104])] : List ByteArray) (w64 (i4 + 1))).bind fun x10 => ((spec_l01Next s4.2 20).bind fun x11 => ((spec_l01Next x11.2 30).bind fun x12 => ((spec_l01Next x12.2 9).bind fun x13 => ((spec_IsClaim (Claim.mk x8 1 x9 x10 (Span.mk (w64 (1200 + x11.1)) (w64 (1215 + x12.1))) (w64 (1 + x13.1)))).bind fun x14 => (bif x14 then ((app' s4.1 ([(Claim.mk x8 1 x9 x10 (Span.mk (w64 (1200 + x11.1)) (w64 (1215 + x12.1))) (w64 (1 + x13.1)))] : List Claim)).bind fun x15 => some (x15, x13.2)) else some (s4.1, x13.2)))))))))) (fun (s4 : (List Claim) × l01Source) => (s4.1, s4.2)) 0 (([] : List Claim), x1.2)) else some (([] : List Claim), x1.2))).bind fun (j2 : (List Claim) × l01Source) => ((spec_l20List j2.2).bind fun x16 => (((forH (fun (i19 : Int) (s19 : (List Claim)) => ((decide (i19 < (x16.1.length : Int))) && (decide ((s19.length : Int) < 9)))) (fun (i19 : Int) (s19 : (List Claim)) => ((at' x16.1 i19).bind fun x23 => ((app' s19 ([x23] : List Claim)).bind fun x24 => some x24))) (fun (s19 : (List Claim)) => s19) 0 j2.1)).bind fun (j17 : (List Claim)) => some (j17, x16.2)))))
theorem spec_l21List_run (aS : l01Source) (r : (List Claim) × l01Source) (h : spec_l21List aS = some r) : SCall Tryz.prog 25 [.o (.box [vl (eI .u8) aS.code, vi aS.at', vi aS.seed])] ⟨[.own 35 7 r.1.length (r.1.map eClaim)], [(0, .box (tc el01Source r.2))], false⟩ := by
  refine scall_in Tryz.func25 rfl [(.tmp 2)] rfl (fun r => ⟨[.own 35 7 r.1.length (r.1.map eClaim)], [(0, .box (tc el01Source r.2))], false⟩) (r := r) ?_
  unfold spec_l21List at h
  refine srk tbok ⟨69, [(0, .ref 1000000 0)], [(1000000, .box (tc el01Source aS))]⟩ ?_
  refine srk tbok ⟨69, [(0, .ref 1000000 0), (3, .own 9)], [(9, oa 35 7 eClaim ([] : List Claim)), (1000000, .box (tc el01Source aS))]⟩ ?_
  refine swp_seq ?_
  refine sr ?_
  refine SRun.ck tbok 1 ⟨69, [(0, .ref 1000000 0), (3, .own 9), (10, .ref 1000000 0)], [(9, oa 35 7 eClaim ([] : List Claim)), (1000000, .box (tc el01Source aS))]⟩ ?_
  obtain ⟨x1, hx1, h⟩ := bind_some h
  refine SRun.estep (xe ents23 (spec_l01Next_run aS 3 _ hx1)) ?_
  refine ckn tbok 1 ⟨69, [(0, .ref 1000000 0), (3, .own 9), (12, vb (x1.1 == 0))], [(9, oa 35 7 eClaim ([] : List Claim)), (1000000, .box (tc el01Source x1.2))]⟩ ?_
  refine swp_seqJ h (fun j2 => ⟨69, [(0, .ref 1000000 0), (3, .own 3)], [(3, oa 35 7 eClaim j2.1), (1000000, .box (tc el01Source j2.2))]⟩) (fun v3 h => ?_) (fun j2 h => ?_)
  refine swp_cd h (fun h => ?_) fun h => ?_
  refine srk tbok ⟨69, [(0, .ref 1000000 0), (3, .own 9), (4, .own 13)], [(9, oa 35 7 eClaim ([] : List Claim)), (13, oa 9 1 eS ([(ByteArray.mk #[97, 115, 104]), (ByteArray.mk #[98, 114, 105, 103]), (ByteArray.mk #[99, 111, 114, 107]), (ByteArray.mk #[97, 115, 104])] : List ByteArray)), (1000000, .box (tc el01Source x1.2))]⟩ ?_
  refine srk tbok ⟨69, [(0, .ref 1000000 0), (3, .own 9), (4, .own 13), (5, vi 0)], [(9, oa 35 7 eClaim ([] : List Claim)), (13, oa 9 1 eS ([(ByteArray.mk #[97, 115, 104]), (ByteArray.mk #[98, 114, 105, 103]), (ByteArray.mk #[99, 111, 114, 107]), (ByteArray.mk #[97, 115, 104])] : List ByteArray)), (1000000, .box (tc el01Source x1.2))]⟩ ?_
  refine swp_blk (a := v3) ?_
  refine swp_lpL (r := v3) (s := (0, ([] : List Claim), x1.2)) _ (fun s4 => ⟨69, [(0, .ref 1000000 0), (3, .own 3), (4, .own 4), (5, vi s4.1)], [(3, oa 35 7 eClaim s4.2.1), (4, oa 9 1 eS ([(ByteArray.mk #[97, 115, 104]), (ByteArray.mk #[98, 114, 105, 103]), (ByteArray.mk #[99, 111, 114, 107]), (ByteArray.mk #[97, 115, 104])] : List ByteArray)), (1000000, .box (tc el01Source s4.2.2))]⟩) _ (Le.rr [9, 13, 1000000] [(9, 3), (13, 4)]) h (fun s4 v5 h => ?_)
  refine swp_seq ?_
  refine srk tbok ⟨69, [(0, .ref 1000000 0), (3, .own 3), (4, .own 4), (5, vi s4.1), (15, vb (decide (s4.1 < 3)))], [(3, oa 35 7 eClaim s4.2.1), (4, oa 9 1 eS ([(ByteArray.mk #[97, 115, 104]), (ByteArray.mk #[98, 114, 105, 103]), (ByteArray.mk #[99, 111, 114, 107]), (ByteArray.mk #[97, 115, 104])] : List ByteArray)), (1000000, .box (tc el01Source s4.2.2))]⟩ ?_
  refine swp_cd h (fun h => ?_) fun h => ?_
  refine swp_skip ?_
  refine nx_n ?_
  refine swp_seq ?_
  refine swp_seqJ h (fun j6 => ⟨69, [(0, .ref 1000000 0), (3, .own 3), (4, .own 4), (5, vi s4.1)], [(3, oa 35 7 eClaim j6.1), (4, oa 9 1 eS ([(ByteArray.mk #[97, 115, 104]), (ByteArray.mk #[98, 114, 105, 103]), (ByteArray.mk #[99, 111, 114, 107]), (ByteArray.mk #[97, 115, 104])] : List ByteArray)), (1000000, .box (tc el01Source j6.2))]⟩) (fun v7 h => ?_) (fun j6 h => ?_)
  refine swp_blk (a := v7) ?_
  refine swp_seq ?_
  refine swp_drD [1000000] mixed ?_
  refine DGo.ck tbok false 2 ⟨69, [(0, .ref 1000000 0), (3, .own 3), (4, .own 4), (5, vi s4.1), (18, .own 18), (19, vi s4.1)], [(3, oa 35 7 eClaim s4.2.1), (4, oa 9 1 eS ([(ByteArray.mk #[97, 115, 104]), (ByteArray.mk #[98, 114, 105, 103]), (ByteArray.mk #[99, 111, 114, 107]), (ByteArray.mk #[97, 115, 104])] : List ByteArray)), (18, oa 9 1 eS ([(ByteArray.mk #[97, 116, 108, 97, 115]), (ByteArray.mk #[99, 104, 97, 114, 116, 101, 114]), (ByteArray.mk #[114, 111, 108, 108])] : List ByteArray)), (1000000, .box (tc el01Source s4.2.2))]⟩ ?_
  obtain ⟨x8, hx8, h⟩ := bind_some h
  refine DGo.stepW false [18] (x_index_own (d := 18) (L := ([(ByteArray.mk #[97, 116, 108, 97, 115]), (ByteArray.mk #[99, 104, 97, 114, 116, 101, 114]), (ByteArray.mk #[114, 111, 108, 108])] : List ByteArray)) (f := eS) (ti := ti60) (tj := ti9) (e := 9) (e' := 9) (m := 1) (k := .i64) tbok rfl hx8) ?_
  refine DGo.stepW false [18] (x_load_own (d := 18) (m := 1) (j := 0) (L := ([(ByteArray.mk #[97, 116, 108, 97, 115]), (ByteArray.mk #[99, 104, 97, 114, 116, 101, 114]), (ByteArray.mk #[114, 111, 108, 108])] : List ByteArray)) (f := eS) (ti := ti9) (e := 9) (v := vs x8) tbok rfl hx8) ?_
  refine DGo.ck tbok false 2 ⟨69, [(0, .ref 1000000 0), (3, .own 3), (4, .own 4), (5, vi s4.1), (21, vs x8), (22, .own 4), (23, vi s4.1)], [(3, oa 35 7 eClaim s4.2.1), (4, oa 9 1 eS ([(ByteArray.mk #[97, 115, 104]), (ByteArray.mk #[98, 114, 105, 103]), (ByteArray.mk #[99, 111, 114, 107]), (ByteArray.mk #[97, 115, 104])] : List ByteArray)), (1000000, .box (tc el01Source s4.2.2))]⟩ ?_
  obtain ⟨x9, hx9, h⟩ := bind_some h
  refine DGo.step (x_index_own (d := 4) (L := ([(ByteArray.mk #[97, 115, 104]), (ByteArray.mk #[98, 114, 105, 103]), (ByteArray.mk #[99, 111, 114, 107]), (ByteArray.mk #[97, 115, 104])] : List ByteArray)) (f := eS) (ti := ti60) (tj := ti9) (e := 9) (e' := 9) (m := 1) (k := .i64) tbok rfl hx9) ?_
  refine DGo.step (x_load_own (d := 4) (m := 1) (j := 0) (L := ([(ByteArray.mk #[97, 115, 104]), (ByteArray.mk #[98, 114, 105, 103]), (ByteArray.mk #[99, 111, 114, 107]), (ByteArray.mk #[97, 115, 104])] : List ByteArray)) (f := eS) (ti := ti9) (e := 9) (v := vs x9) tbok rfl hx9) ?_
  refine DGo.ck tbok false 3 ⟨69, [(0, .ref 1000000 0), (3, .own 3), (4, .own 4), (5, vi s4.1), (21, vs x8), (25, vs x9), (26, .own 4), (28, vi (w64 (s4.1 + 1)))], [(3, oa 35 7 eClaim s4.2.1), (4, oa 9 1 eS ([(ByteArray.mk #[97, 115, 104]), (ByteArray.mk #[98, 114, 105, 103]), (ByteArray.mk #[99, 111, 114, 107]), (ByteArray.mk #[97, 115, 104])] : List ByteArray)), (1000000, .box (tc el01Source s4.2.2))]⟩ ?_
  obtain ⟨x10, hx10, h⟩ := bind_some h
  refine DGo.step (x_index_own (d := 4) (L := ([(ByteArray.mk #[97, 115, 104]), (ByteArray.mk #[98, 114, 105, 103]), (ByteArray.mk #[99, 111, 114, 107]), (ByteArray.mk #[97, 115, 104])] : List ByteArray)) (f := eS) (ti := ti60) (tj := ti9) (e := 9) (e' := 9) (m := 1) (k := .i64) tbok rfl hx10) ?_
  refine DGo.step (x_load_own (d := 4) (m := 1) (j := 0) (L := ([(ByteArray.mk #[97, 115, 104]), (ByteArray.mk #[98, 114, 105, 103]), (ByteArray.mk #[99, 111, 114, 107]), (ByteArray.mk #[97, 115, 104])] : List ByteArray)) (f := eS) (ti := ti9) (e := 9) (v := vs x10) tbok rfl hx10) ?_
  refine DGo.ck tbok false 1 ⟨69, [(0, .ref 1000000 0), (3, .own 3), (4, .own 4), (5, vi s4.1), (21, vs x8), (25, vs x9), (30, vs x10), (31, .ref 1000000 0)], [(3, oa 35 7 eClaim s4.2.1), (4, oa 9 1 eS ([(ByteArray.mk #[97, 115, 104]), (ByteArray.mk #[98, 114, 105, 103]), (ByteArray.mk #[99, 111, 114, 107]), (ByteArray.mk #[97, 115, 104])] : List ByteArray)), (1000000, .box (tc el01Source s4.2.2))]⟩ ?_
  obtain ⟨x11, hx11, h⟩ := bind_some h
  refine DGo.write [] (xw ents23 (spec_l01Next_run s4.2.2 20 _ hx11)) ?_
  refine DGo.ck tbok false 2 ⟨69, [(0, .ref 1000000 0), (3, .own 3), (4, .own 4), (5, vi s4.1), (21, vs x8), (25, vs x9), (30, vs x10), (33, vi (w64 (1200 + x11.1))), (34, .ref 1000000 0)], [(3, oa 35 7 eClaim s4.2.1), (4, oa 9 1 eS ([(ByteArray.mk #[97, 115, 104]), (ByteArray.mk #[98, 114, 105, 103]), (ByteArray.mk #[99, 111, 114, 107]), (ByteArray.mk #[97, 115, 104])] : List ByteArray)), (1000000, .box (tc el01Source x11.2))]⟩ ?_
  obtain ⟨x12, hx12, h⟩ := bind_some h
  refine DGo.write [] (xw ents23 (spec_l01Next_run x11.2 30 _ hx12)) ?_
  refine DGo.ck tbok false 1 ⟨69, [(0, .ref 1000000 0), (3, .own 3), (4, .own 4), (5, vi s4.1), (21, vs x8), (25, vs x9), (30, vs x10), (33, vi (w64 (1200 + x11.1))), (36, vi (w64 (1215 + x12.1)))], [(3, oa 35 7 eClaim s4.2.1), (4, oa 9 1 eS ([(ByteArray.mk #[97, 115, 104]), (ByteArray.mk #[98, 114, 105, 103]), (ByteArray.mk #[99, 111, 114, 107]), (ByteArray.mk #[97, 115, 104])] : List ByteArray)), (1000000, .box (tc el01Source x12.2))]⟩ ?_
  refine DGo.step (x_lstep_build (v := .agg [vi (w64 (1200 + x11.1)), vi (w64 (1215 + x12.1))]) tbok rfl) ?_
  refine DGo.ck tbok false 1 ⟨69, [(0, .ref 1000000 0), (3, .own 3), (4, .own 4), (5, vi s4.1), (21, vs x8), (25, vs x9), (30, vs x10), (37, .agg [vi (w64 (1200 + x11.1)), vi (w64 (1215 + x12.1))]), (38, .ref 1000000 0)], [(3, oa 35 7 eClaim s4.2.1), (4, oa 9 1 eS ([(ByteArray.mk #[97, 115, 104]), (ByteArray.mk #[98, 114, 105, 103]), (ByteArray.mk #[99, 111, 114, 107]), (ByteArray.mk #[97, 115, 104])] : List ByteArray)), (1000000, .box (tc el01Source x12.2))]⟩ ?_
  obtain ⟨x13, hx13, h⟩ := bind_some h
  refine DGo.write [] (xw ents23 (spec_l01Next_run x12.2 9 _ hx13)) ?_
  refine DGo.ck tbok false 1 ⟨69, [(0, .ref 1000000 0), (3, .own 3), (4, .own 4), (5, vi s4.1), (21, vs x8), (25, vs x9), (30, vs x10), (37, .agg [vi (w64 (1200 + x11.1)), vi (w64 (1215 + x12.1))]), (40, vi (w64 (1 + x13.1)))], [(3, oa 35 7 eClaim s4.2.1), (4, oa 9 1 eS ([(ByteArray.mk #[97, 115, 104]), (ByteArray.mk #[98, 114, 105, 103]), (ByteArray.mk #[99, 111, 114, 107]), (ByteArray.mk #[97, 115, 104])] : List ByteArray)), (1000000, .box (tc el01Source x13.2))]⟩ ?_
  refine DGo.step (x_lstep_build (v := .agg [vs x8, vi 1, vs x9, vs x10, vi (w64 (1200 + x11.1)), vi (w64 (1215 + x12.1)), vi (w64 (1 + x13.1))]) tbok rfl) ?_
  refine DGo.ck tbok false 1 ⟨69, [(0, .ref 1000000 0), (3, .own 3), (4, .own 4), (5, vi s4.1), (6, .ref 6 0), (41, .agg [vs x8, vi 1, vs x9, vs x10, vi (w64 (1200 + x11.1)), vi (w64 (1215 + x12.1)), vi (w64 (1 + x13.1))])], [(3, oa 35 7 eClaim s4.2.1), (4, oa 9 1 eS ([(ByteArray.mk #[97, 115, 104]), (ByteArray.mk #[98, 114, 105, 103]), (ByteArray.mk #[99, 111, 114, 107]), (ByteArray.mk #[97, 115, 104])] : List ByteArray)), (6, .box [vs (ByteArray.mk #[]), vi 0, vs (ByteArray.mk #[]), vs (ByteArray.mk #[]), vi 0, vi 0, vi 0]), (1000000, .box (tc el01Source x13.2))]⟩ ?_
  refine DGo.seq (by kernel_rfl) (by kernel_rfl) ?_
  refine ckn tbok 1 ⟨69, [(0, .ref 1000000 0), (3, .own 3), (4, .own 4), (5, vi s4.1), (6, .ref 6 0)], [(3, oa 35 7 eClaim s4.2.1), (4, oa 9 1 eS ([(ByteArray.mk #[97, 115, 104]), (ByteArray.mk #[98, 114, 105, 103]), (ByteArray.mk #[99, 111, 114, 107]), (ByteArray.mk #[97, 115, 104])] : List ByteArray)), (6, .box [vs x8, vi 1, vs x9, vs x10, vi (w64 (1200 + x11.1)), vi (w64 (1215 + x12.1)), vi (w64 (1 + x13.1))]), (1000000, .box (tc el01Source x13.2))]⟩ ?_
  refine sr ?_
  refine SRun.ck tbok 1 ⟨69, [(0, .ref 1000000 0), (3, .own 3), (4, .own 4), (5, vi s4.1), (6, .ref 6 0), (42, .agg [vs x8, vi 1, vs x9, vs x10, vi (w64 (1200 + x11.1)), vi (w64 (1215 + x12.1)), vi (w64 (1 + x13.1))])], [(3, oa 35 7 eClaim s4.2.1), (4, oa 9 1 eS ([(ByteArray.mk #[97, 115, 104]), (ByteArray.mk #[98, 114, 105, 103]), (ByteArray.mk #[99, 111, 114, 107]), (ByteArray.mk #[97, 115, 104])] : List ByteArray)), (6, .box [vs x8, vi 1, vs x9, vs x10, vi (w64 (1200 + x11.1)), vi (w64 (1215 + x12.1)), vi (w64 (1 + x13.1))]), (1000000, .box (tc el01Source x13.2))]⟩ ?_
  obtain ⟨x14, hx14, h⟩ := bind_some h
  refine SRun.ls (xc ents38 (spec_IsClaim_run (Claim.mk x8 1 x9 x10 (Span.mk (w64 (1200 + x11.1)) (w64 (1215 + x12.1))) (w64 (1 + x13.1))) _ hx14)) ?_
  refine SRun.nx ?_
  refine swp_cd h (fun h => ?_) fun h => ?_
  refine swp_reg ?_
  refine SRun.ck tbok 3 ⟨69, [(0, .ref 1000000 0), (4, .own 4), (5, vi s4.1), (44, .own 3), (46, .own 46)], [(3, oa 35 7 eClaim s4.2.1), (4, oa 9 1 eS ([(ByteArray.mk #[97, 115, 104]), (ByteArray.mk #[98, 114, 105, 103]), (ByteArray.mk #[99, 111, 114, 107]), (ByteArray.mk #[97, 115, 104])] : List ByteArray)), (46, oa 35 7 eClaim ([(Claim.mk x8 1 x9 x10 (Span.mk (w64 (1200 + x11.1)) (w64 (1215 + x12.1))) (w64 (1 + x13.1)))] : List Claim)), (1000000, .box (tc el01Source x13.2))]⟩ ?_
  obtain ⟨x15, hx15, h⟩ := bind_some h
  refine SRun.estep (x_append (f := eClaim) (t := 24) (ti := ti24) (tj := ti35) (zs := [.string (ByteArray.mk #[]), .int .i64 0, .string (ByteArray.mk #[]), .string (ByteArray.mk #[]), .int .i64 0, .int .i64 0, .int .i64 0]) (e := 35) (m := 7) (d := 3) (xv := .own 46) hx15 tbok rfl rfl rfl rfl (x_src_o (e := 35))) ?_
  refine SRun.ck tbok 1 ⟨69, [(0, .ref 1000000 0), (3, .own 47), (4, .own 4), (5, vi s4.1)], [(4, oa 9 1 eS ([(ByteArray.mk #[97, 115, 104]), (ByteArray.mk #[98, 114, 105, 103]), (ByteArray.mk #[99, 111, 114, 107]), (ByteArray.mk #[97, 115, 104])] : List ByteArray)), (47, oa 35 7 eClaim x15), (1000000, .box (tc el01Source x13.2))]⟩ ?_
  refine SRun.nil ?_
  obtain rfl := inj h
  exact q_bn (q_j (Le.rr [4, 47, 1000000] [(47, 3)]))
  refine swp_skip ?_
  obtain rfl := inj h
  exact q_bn (q_j (Le.sub0))
  refine swp_reg ?_
  refine SRun.ck tbok 3 ⟨69, [(0, .ref 1000000 0), (3, .own 3), (4, .own 4), (5, vi (w64 (s4.1 + 1)))], [(3, oa 35 7 eClaim j6.1), (4, oa 9 1 eS ([(ByteArray.mk #[97, 115, 104]), (ByteArray.mk #[98, 114, 105, 103]), (ByteArray.mk #[99, 111, 114, 107]), (ByteArray.mk #[97, 115, 104])] : List ByteArray)), (1000000, .box (tc el01Source j6.2))]⟩ ?_
  refine SRun.nil ?_
  obtain rfl := inj h
  exact q_l (Le.sub0)
  refine swp_exit ?_
  obtain rfl := inj h
  exact nx_e (q_re (q_bh (q_j (Le.sub0))))
  refine swp_skip ?_
  obtain rfl := inj h
  exact q_j (Le.rr [9, 1000000] [(9, 3)])
  refine sr ?_
  refine SRun.ck tbok 1 ⟨69, [(3, .own 3), (48, .ref 1000000 0)], [(3, oa 35 7 eClaim j2.1), (1000000, .box (tc el01Source j2.2))]⟩ ?_
  obtain ⟨x16, hx16, h⟩ := bind_some h
  refine SRun.estep (xe ents48 (spec_l20List_run j2.2 _ hx16)) ?_
  refine ckn tbok 1 ⟨69, [(3, .own 3), (7, .own 49)], [(3, oa 35 7 eClaim j2.1), (49, oa 35 7 eClaim x16.1), (1000000, .box (tc el01Source x16.2))]⟩ ?_
  refine swp_seq ?_
  refine srk tbok ⟨69, [(3, .own 3), (7, .own 49), (8, vi 0)], [(3, oa 35 7 eClaim j2.1), (49, oa 35 7 eClaim x16.1), (1000000, .box (tc el01Source x16.2))]⟩ ?_
  refine swp_seqJ h (fun j17 => ⟨69, [(3, .own 3)], [(3, oa 35 7 eClaim j17), (1000000, .box (tc el01Source x16.2))]⟩) (fun v18 h => ?_) (fun j17 h => ?_)
  refine swp_blk (a := v18) ?_
  refine swp_lpL (r := v18) (s := (0, j2.1)) _ (fun s19 => ⟨69, [(3, .own 3), (7, .own 7), (8, vi s19.1)], [(3, oa 35 7 eClaim s19.2), (7, oa 35 7 eClaim x16.1), (1000000, .box (tc el01Source x16.2))]⟩) _ (Le.rr [3, 49, 1000000] [(49, 7)]) h (fun s19 v20 h => ?_)
  refine swp_seq ?_
  refine swp_seq ?_
  refine swp_regP ⟨69, [(3, .own 3), (7, .own 7), (8, vi s19.1), (58, vb ((decide (s19.1 < (x16.1.length : Int))) && (decide ((s19.2.length : Int) < 9))))], [(3, oa 35 7 eClaim s19.2), (7, oa 35 7 eClaim x16.1), (1000000, .box (tc el01Source x16.2))]⟩ ?_ ?_
  refine SRun.ck tbok 5 ⟨69, [(3, .own 3), (7, .own 7), (8, vi s19.1), (54, vb (decide (s19.1 < (x16.1.length : Int))))], [(3, oa 35 7 eClaim s19.2), (7, oa 35 7 eClaim x16.1), (1000000, .box (tc el01Source x16.2))]⟩ ?_
  generalize (decide (s19.1 < (x16.1.length : Int))) = bb
  cases bb
  refine SRun.ck tbok 4 ⟨69, [(3, .own 3), (7, .own 7), (8, vi s19.1), (58, vb false)], [(3, oa 35 7 eClaim s19.2), (7, oa 35 7 eClaim x16.1), (1000000, .box (tc el01Source x16.2))]⟩ ?_
  exact SRun.nil (Le.sub0)
  refine SRun.ck tbok 4 ⟨69, [(3, .own 3), (7, .own 7), (8, vi s19.1), (58, vb (decide ((s19.2.length : Int) < 9)))], [(3, oa 35 7 eClaim s19.2), (7, oa 35 7 eClaim x16.1), (1000000, .box (tc el01Source x16.2))]⟩ ?_
  exact SRun.nil (Le.sub0)
  refine swp_cd h (fun h => ?_) fun h => ?_
  refine swp_skip ?_
  refine nx_n ?_
  refine swp_seq ?_
  refine swp_seqJ h (fun j21 => ⟨69, [(3, .own 3), (7, .own 7), (8, vi s19.1)], [(3, oa 35 7 eClaim j21), (7, oa 35 7 eClaim x16.1), (1000000, .box (tc el01Source x16.2))]⟩) (fun v22 h => ?_) (fun j21 h => ?_)
  refine swp_blk (a := v22) ?_
  refine swp_reg ?_
  refine SRun.ck tbok 3 ⟨69, [(7, .own 7), (8, vi s19.1), (61, .own 3), (62, .own 7), (63, vi s19.1)], [(3, oa 35 7 eClaim s19.2), (7, oa 35 7 eClaim x16.1), (1000000, .box (tc el01Source x16.2))]⟩ ?_
  obtain ⟨x23, hx23, h⟩ := bind_some h
  refine SRun.ls (x_index_own (d := 7) (L := x16.1) (f := eClaim) (ti := ti24) (tj := ti35) (e := 35) (e' := 35) (m := 7) (k := .i64) tbok rfl hx23) ?_
  refine SRun.ls (x_load_own (d := 7) (m := 7) (j := 0) (L := x16.1) (f := eClaim) (ti := ti35) (e := 35) (v := .agg (tc eClaim x23)) tbok rfl hx23) ?_
  refine SRun.ck tbok 1 ⟨69, [(7, .own 7), (8, vi s19.1), (61, .own 3), (66, .own 66)], [(3, oa 35 7 eClaim s19.2), (7, oa 35 7 eClaim x16.1), (66, oa 35 7 eClaim ([x23] : List Claim)), (1000000, .box (tc el01Source x16.2))]⟩ ?_
  obtain ⟨x24, hx24, h⟩ := bind_some h
  refine SRun.estep (x_append (f := eClaim) (t := 24) (ti := ti24) (tj := ti35) (zs := [.string (ByteArray.mk #[]), .int .i64 0, .string (ByteArray.mk #[]), .string (ByteArray.mk #[]), .int .i64 0, .int .i64 0, .int .i64 0]) (e := 35) (m := 7) (d := 3) (xv := .own 66) hx24 tbok rfl rfl rfl rfl (x_src_o (e := 35))) ?_
  refine SRun.ck tbok 1 ⟨69, [(3, .own 67), (7, .own 7), (8, vi s19.1)], [(7, oa 35 7 eClaim x16.1), (67, oa 35 7 eClaim x24), (1000000, .box (tc el01Source x16.2))]⟩ ?_
  refine SRun.nil ?_
  obtain rfl := inj h
  exact q_bn (q_j (Le.rr [7, 67, 1000000] [(67, 3)]))
  refine swp_reg ?_
  refine SRun.ck tbok 3 ⟨69, [(3, .own 3), (7, .own 7), (8, vi (w64 (s19.1 + 1)))], [(3, oa 35 7 eClaim j21), (7, oa 35 7 eClaim x16.1), (1000000, .box (tc el01Source x16.2))]⟩ ?_
  refine SRun.nil ?_
  obtain rfl := inj h
  exact q_l (Le.sub0)
  refine swp_exit ?_
  obtain rfl := inj h
  exact nx_e (q_re (q_bh (q_j (Le.sub0))))
  refine srk tbok ⟨69, [(2, .own 3)], [(3, oa 35 7 eClaim j17), (1000000, .box (tc el01Source x16.2))]⟩ ?_
  refine swp_ret ?_
  obtain rfl := inj h
  exact q_fr (fin_io (f1 (fo eClaim_flat)) (y := .box (tc el01Source x16.2)) (by kernel_rfl) rfl (by kernel_rfl) (by kernel_rfl))
theorem ents25 : Ents Tryz.prog 25 := ents_of Tryz.func25 (by kernel_rfl) rfl
noncomputable def spec_l02Meet (aA : Span) (aB : Span) : Option (Bool) :=
  some ((decide (aA.From ≤ aB.To)) && (decide (aB.From ≤ aA.To)))
theorem spec_l02Meet_run (aA : Span) (aB : Span) (r : Bool) (h : spec_l02Meet aA aB = some r) : SCall Tryz.prog 76 [.v (.agg (tc eSpan aA)), .v (.agg (tc eSpan aB))] ⟨[.v (vb r)], [], false⟩ := by
  refine scall_in Tryz.func76 rfl [(.tmp 4)] rfl (fun r => ⟨[.v (vb r)], [], false⟩) (r := r) ?_
  unfold spec_l02Meet at h
  refine srk tbok ⟨17, [(2, .ref 2 0), (3, .ref 3 0)], [(2, .box (tc eSpan aA)), (3, .box (tc eSpan aB))]⟩ ?_
  refine swp_seq ?_
  refine swp_regP ⟨17, [(4, vb ((decide (aA.From ≤ aB.To)) && (decide (aB.From ≤ aA.To))))], []⟩ ?_ ?_
  refine SRun.ck tbok 6 ⟨17, [(2, .ref 2 0), (3, .ref 3 0), (10, vb (decide (aA.From ≤ aB.To)))], [(2, .box (tc eSpan aA)), (3, .box (tc eSpan aB))]⟩ ?_
  generalize (decide (aA.From ≤ aB.To)) = bb
  cases bb
  refine SRun.ck tbok 7 ⟨17, [(4, vb false)], []⟩ ?_
  exact SRun.nil (Le.sub0)
  refine SRun.ck tbok 7 ⟨17, [(4, vb (decide (aB.From ≤ aA.To)))], []⟩ ?_
  exact SRun.nil (Le.sub0)
  refine swp_ret ?_
  obtain rfl := inj h
  exact q_fr (f1 fv)
theorem ents76 : Ents Tryz.prog 76 := ents_of Tryz.func76 (by kernel_rfl) rfl
noncomputable def spec_l20Contradict (aA : Claim) (aB : Claim) : Option (Bool) :=
  ((spec_l02Meet aA.Years aB.Years).bind fun x1 => (bif (!x1) then some false else (bif (cond (aA.Kind == 1) (cond (aB.Kind == 3) ((aA.Value.toList == aB.Place.toList) || ((aB.Kind == 1) && ((aA.Kind == 3) && (aB.Value.toList == aA.Place.toList)))) ((aB.Kind == 1) && ((aA.Kind == 3) && (aB.Value.toList == aA.Place.toList)))) ((aB.Kind == 1) && ((aA.Kind == 3) && (aB.Value.toList == aA.Place.toList)))) then some true else (bif (!(aA.Place.toList == aB.Place.toList)) then some false else (bif (aA.Kind == aB.Kind) then some (cond (aA.Kind == 0) (!(aA.Value.toList == aB.Value.toList)) ((aA.Kind == 1) && (!(aA.Value.toList == aB.Value.toList)))) else some ((aA.Kind == 3) || (aB.Kind == 3)))))))
theorem spec_l20Contradict_run (aA : Claim) (aB : Claim) (r : Bool) (h : spec_l20Contradict aA aB = some r) : SCall Tryz.prog 53 [.v (.agg (tc eClaim aA)), .v (.agg (tc eClaim aB))] ⟨[.v (vb r)], [], false⟩ := by
  refine scall_in Tryz.func53 rfl [(.tmp 4)] rfl (fun r => ⟨[.v (vb r)], [], false⟩) (r := r) ?_
  unfold spec_l20Contradict at h
  refine srk tbok ⟨76, [(2, .ref 2 0), (3, .ref 3 0)], [(2, .box (tc eClaim aA)), (3, .box (tc eClaim aB))]⟩ ?_
  refine swp_seq ?_
  refine sr ?_
  refine SRun.ck tbok 4 ⟨76, [(2, .ref 2 0), (3, .ref 3 0), (6, .agg (tc eSpan aA.Years)), (8, .agg (tc eSpan aB.Years))], [(2, .box (tc eClaim aA)), (3, .box (tc eClaim aB))]⟩ ?_
  obtain ⟨x1, hx1, h⟩ := bind_some h
  refine SRun.ls (xc ents76 (spec_l02Meet_run aA.Years aB.Years _ hx1)) ?_
  refine ckn tbok 1 ⟨76, [(2, .ref 2 0), (3, .ref 3 0), (10, vb (!x1))], [(2, .box (tc eClaim aA)), (3, .box (tc eClaim aB))]⟩ ?_
  refine swp_cd h (fun h => ?_) fun h => ?_
  refine srk tbok ⟨76, [(4, vb false)], []⟩ ?_
  refine swp_ret ?_
  obtain rfl := inj h
  exact nx_r (q_fr (f1 fv))
  refine swp_skip ?_
  refine nx_n ?_
  refine swp_seq ?_
  refine swp_seq ?_
  refine swp_regP ⟨76, [(2, .ref 2 0), (3, .ref 3 0), (42, vb (cond (aA.Kind == 1) (cond (aB.Kind == 3) ((aA.Value.toList == aB.Place.toList) || ((aB.Kind == 1) && ((aA.Kind == 3) && (aB.Value.toList == aA.Place.toList)))) ((aB.Kind == 1) && ((aA.Kind == 3) && (aB.Value.toList == aA.Place.toList)))) ((aB.Kind == 1) && ((aA.Kind == 3) && (aB.Value.toList == aA.Place.toList)))))], [(2, .box (tc eClaim aA)), (3, .box (tc eClaim aB))]⟩ ?_ ?_
  refine SRun.ck tbok 4 ⟨76, [(2, .ref 2 0), (3, .ref 3 0), (14, vb (aA.Kind == 1))], [(2, .box (tc eClaim aA)), (3, .box (tc eClaim aB))]⟩ ?_
  generalize (aA.Kind == 1) = bb
  cases bb
  refine SRun.ck tbok 16 ⟨76, [(2, .ref 2 0), (3, .ref 3 0), (26, vb false), (30, vb (aB.Kind == 1))], [(2, .box (tc eClaim aA)), (3, .box (tc eClaim aB))]⟩ ?_
  generalize (aB.Kind == 1) = bb
  cases bb
  refine SRun.ck tbok 12 ⟨76, [(2, .ref 2 0), (3, .ref 3 0), (42, vb false)], [(2, .box (tc eClaim aA)), (3, .box (tc eClaim aB))]⟩ ?_
  exact SRun.nil (Le.sub0)
  refine SRun.ck tbok 5 ⟨76, [(2, .ref 2 0), (3, .ref 3 0), (26, vb false), (35, vb (aA.Kind == 3))], [(2, .box (tc eClaim aA)), (3, .box (tc eClaim aB))]⟩ ?_
  generalize (aA.Kind == 3) = bb
  cases bb
  refine SRun.ck tbok 7 ⟨76, [(2, .ref 2 0), (3, .ref 3 0), (42, vb false)], [(2, .box (tc eClaim aA)), (3, .box (tc eClaim aB))]⟩ ?_
  exact SRun.nil (Le.sub0)
  refine SRun.ck tbok 7 ⟨76, [(2, .ref 2 0), (3, .ref 3 0), (42, vb (aB.Value.toList == aA.Place.toList))], [(2, .box (tc eClaim aA)), (3, .box (tc eClaim aB))]⟩ ?_
  exact SRun.nil (Le.sub0)
  refine SRun.ck tbok 5 ⟨76, [(2, .ref 2 0), (3, .ref 3 0), (19, vb (aB.Kind == 3))], [(2, .box (tc eClaim aA)), (3, .box (tc eClaim aB))]⟩ ?_
  generalize (aB.Kind == 3) = bb
  cases bb
  refine SRun.ck tbok 11 ⟨76, [(2, .ref 2 0), (3, .ref 3 0), (26, vb false), (30, vb (aB.Kind == 1))], [(2, .box (tc eClaim aA)), (3, .box (tc eClaim aB))]⟩ ?_
  generalize (aB.Kind == 1) = bb
  cases bb
  refine SRun.ck tbok 12 ⟨76, [(2, .ref 2 0), (3, .ref 3 0), (42, vb false)], [(2, .box (tc eClaim aA)), (3, .box (tc eClaim aB))]⟩ ?_
  exact SRun.nil (Le.sub0)
  refine SRun.ck tbok 5 ⟨76, [(2, .ref 2 0), (3, .ref 3 0), (26, vb false), (35, vb (aA.Kind == 3))], [(2, .box (tc eClaim aA)), (3, .box (tc eClaim aB))]⟩ ?_
  generalize (aA.Kind == 3) = bb
  cases bb
  refine SRun.ck tbok 7 ⟨76, [(2, .ref 2 0), (3, .ref 3 0), (42, vb false)], [(2, .box (tc eClaim aA)), (3, .box (tc eClaim aB))]⟩ ?_
  exact SRun.nil (Le.sub0)
  refine SRun.ck tbok 7 ⟨76, [(2, .ref 2 0), (3, .ref 3 0), (42, vb (aB.Value.toList == aA.Place.toList))], [(2, .box (tc eClaim aA)), (3, .box (tc eClaim aB))]⟩ ?_
  exact SRun.nil (Le.sub0)
  refine SRun.ck tbok 7 ⟨76, [(2, .ref 2 0), (3, .ref 3 0), (26, vb (aA.Value.toList == aB.Place.toList))], [(2, .box (tc eClaim aA)), (3, .box (tc eClaim aB))]⟩ ?_
  generalize (aA.Value.toList == aB.Place.toList) = bb
  cases bb
  refine SRun.ck tbok 4 ⟨76, [(2, .ref 2 0), (3, .ref 3 0), (26, vb false), (30, vb (aB.Kind == 1))], [(2, .box (tc eClaim aA)), (3, .box (tc eClaim aB))]⟩ ?_
  generalize (aB.Kind == 1) = bb
  cases bb
  refine SRun.ck tbok 12 ⟨76, [(2, .ref 2 0), (3, .ref 3 0), (42, vb false)], [(2, .box (tc eClaim aA)), (3, .box (tc eClaim aB))]⟩ ?_
  exact SRun.nil (Le.sub0)
  refine SRun.ck tbok 5 ⟨76, [(2, .ref 2 0), (3, .ref 3 0), (26, vb false), (35, vb (aA.Kind == 3))], [(2, .box (tc eClaim aA)), (3, .box (tc eClaim aB))]⟩ ?_
  generalize (aA.Kind == 3) = bb
  cases bb
  refine SRun.ck tbok 7 ⟨76, [(2, .ref 2 0), (3, .ref 3 0), (42, vb false)], [(2, .box (tc eClaim aA)), (3, .box (tc eClaim aB))]⟩ ?_
  exact SRun.nil (Le.sub0)
  refine SRun.ck tbok 7 ⟨76, [(2, .ref 2 0), (3, .ref 3 0), (42, vb (aB.Value.toList == aA.Place.toList))], [(2, .box (tc eClaim aA)), (3, .box (tc eClaim aB))]⟩ ?_
  exact SRun.nil (Le.sub0)
  refine SRun.ck tbok 16 ⟨76, [(2, .ref 2 0), (3, .ref 3 0), (42, vb true)], [(2, .box (tc eClaim aA)), (3, .box (tc eClaim aB))]⟩ ?_
  exact SRun.nil (Le.sub0)
  refine swp_cd h (fun h => ?_) fun h => ?_
  refine srk tbok ⟨76, [(4, vb true)], []⟩ ?_
  refine swp_ret ?_
  obtain rfl := inj h
  exact nx_r (q_fr (f1 fv))
  refine swp_skip ?_
  refine nx_n ?_
  refine swp_seq ?_
  refine srk tbok ⟨76, [(2, .ref 2 0), (3, .ref 3 0), (47, vb (!(aA.Place.toList == aB.Place.toList)))], [(2, .box (tc eClaim aA)), (3, .box (tc eClaim aB))]⟩ ?_
  refine swp_cd h (fun h => ?_) fun h => ?_
  refine srk tbok ⟨76, [(4, vb false)], []⟩ ?_
  refine swp_ret ?_
  obtain rfl := inj h
  exact nx_r (q_fr (f1 fv))
  refine swp_skip ?_
  refine nx_n ?_
  refine swp_seq ?_
  refine srk tbok ⟨76, [(2, .ref 2 0), (3, .ref 3 0), (52, vb (aA.Kind == aB.Kind))], [(2, .box (tc eClaim aA)), (3, .box (tc eClaim aB))]⟩ ?_
  refine swp_cd h (fun h => ?_) fun h => ?_
  refine swp_seq ?_
  refine swp_regP ⟨76, [(4, vb (cond (aA.Kind == 0) (!(aA.Value.toList == aB.Value.toList)) ((aA.Kind == 1) && (!(aA.Value.toList == aB.Value.toList)))))], []⟩ ?_ ?_
  refine SRun.ck tbok 4 ⟨76, [(2, .ref 2 0), (3, .ref 3 0), (56, vb (aA.Kind == 0))], [(2, .box (tc eClaim aA)), (3, .box (tc eClaim aB))]⟩ ?_
  generalize (aA.Kind == 0) = bb
  cases bb
  refine SRun.ck tbok 5 ⟨76, [(2, .ref 2 0), (3, .ref 3 0), (61, vb (aA.Kind == 1))], [(2, .box (tc eClaim aA)), (3, .box (tc eClaim aB))]⟩ ?_
  generalize (aA.Kind == 1) = bb
  cases bb
  refine SRun.ck tbok 7 ⟨76, [(4, vb false)], []⟩ ?_
  exact SRun.nil (Le.sub0)
  refine SRun.ck tbok 7 ⟨76, [(4, vb (!(aA.Value.toList == aB.Value.toList)))], []⟩ ?_
  exact SRun.nil (Le.sub0)
  refine SRun.ck tbok 12 ⟨76, [(4, vb (!(aA.Value.toList == aB.Value.toList)))], []⟩ ?_
  exact SRun.nil (Le.sub0)
  refine swp_ret ?_
  obtain rfl := inj h
  exact nx_r (q_fr (f1 fv))
  refine swp_skip ?_
  refine nx_n ?_
  refine swp_seq ?_
  refine swp_regP ⟨76, [(4, vb ((aA.Kind == 3) || (aB.Kind == 3)))], []⟩ ?_ ?_
  refine SRun.ck tbok 4 ⟨76, [(3, .ref 3 0), (71, vb (aA.Kind == 3))], [(3, .box (tc eClaim aB))]⟩ ?_
  generalize (aA.Kind == 3) = bb
  cases bb
  refine SRun.ck tbok 5 ⟨76, [(4, vb (aB.Kind == 3))], []⟩ ?_
  exact SRun.nil (Le.sub0)
  refine SRun.ck tbok 5 ⟨76, [(4, vb true)], []⟩ ?_
  exact SRun.nil (Le.sub0)
  refine swp_ret ?_
  obtain rfl := inj h
  exact q_fr (f1 fv)
theorem ents53 : Ents Tryz.prog 53 := ents_of Tryz.func53 (by kernel_rfl) rfl
noncomputable def spec_l03Find (aList : (List ByteArray)) (aS : ByteArray) : Option (Int) :=
  (((forN (aList.length : Int) (fun (i3 : Int) (_ : Unit) => ((at' aList i3).bind fun x7 => (bif (x7.toList == aS.toList) then some (.inr (.inr i3)) else some (.inl ())))) (fun (_ : Unit) => .inl ()) 0 ())).bind (Sum.elim (fun (_ : Unit) => some (-1)) some))
theorem spec_l03Find_run (aList : (List ByteArray)) (aS : ByteArray) (r : Int) (h : spec_l03Find aList aS = some r) : SCall Tryz.prog 77 [.v (vl eS aList), .v (vs aS)] ⟨[.v (vi r)], [], false⟩ := by
  refine scall_in Tryz.func77 rfl [(.tmp 4)] rfl (fun r => ⟨[.v (vi r)], [], false⟩) (r := r) ?_
  unfold spec_l03Find at h
  refine srk tbok ⟨19, [(0, vl eS aList), (1, vs aS)], []⟩ ?_
  refine swp_seq ?_
  refine srk tbok ⟨19, [(0, vl eS aList), (1, vs aS), (5, vi 0)], []⟩ ?_
  refine swp_seqE (r := r) h (fun j1 => ⟨19, [], []⟩) (fun v2 h => ?_) (fun j1 h => ?_)
  refine swp_blk (a := v2) ?_
  refine swp_lpL (r := v2) (s := (0, ())) _ (fun s3 => ⟨19, [(0, vl eS aList), (1, vs aS), (5, vi s3.1)], []⟩) _ (Le.sub0) h (fun s3 v4 h => ?_)
  refine swp_seq ?_
  refine srk tbok ⟨19, [(0, vl eS aList), (1, vs aS), (5, vi s3.1), (9, vb (decide (s3.1 < (aList.length : Int))))], []⟩ ?_
  refine swp_cd h (fun h => ?_) fun h => ?_
  refine swp_skip ?_
  refine nx_n ?_
  refine swp_seq ?_
  refine swp_seqL (r := v4) h (fun j5 => ⟨19, [(0, vl eS aList), (1, vs aS), (5, vi s3.1)], []⟩) (fun v6 h => ?_) (fun j5 h => ?_)
  refine swp_blk (a := v6) ?_
  refine sr ?_
  refine SRun.ck tbok 2 ⟨19, [(0, vl eS aList), (1, vs aS), (5, vi s3.1), (12, vl eS aList), (13, vi s3.1)], []⟩ ?_
  obtain ⟨x7, hx7, h⟩ := bind_some h
  refine SRun.ls (x_index (L := aList) (f := eS) (ti := ti60) (tj := ti9) (e := 9) (k := .i64) tbok rfl hx7) ?_
  refine ckn tbok 3 ⟨19, [(0, vl eS aList), (1, vs aS), (5, vi s3.1), (17, vb (x7.toList == aS.toList))], []⟩ ?_
  refine swp_cd h (fun h => ?_) fun h => ?_
  refine srk tbok ⟨19, [(4, vi s3.1)], []⟩ ?_
  refine swp_ret ?_
  obtain rfl := inj h
  exact q_br (q_rr (q_rr (q_br (q_rr (q_fr (f1 fv))))))
  refine swp_skip ?_
  obtain rfl := inj h
  exact q_bn (q_l (Le.sub0))
  refine swp_reg ?_
  refine SRun.ck tbok 3 ⟨19, [(0, vl eS aList), (1, vs aS), (5, vi (w64 (s3.1 + 1)))], []⟩ ?_
  refine SRun.nil ?_
  obtain rfl := inj h
  exact q_l (Le.sub0)
  refine swp_exit ?_
  obtain rfl := inj h
  exact nx_e (q_re (q_bh (q_l (Le.sub0))))
  refine srk tbok ⟨19, [(4, vi (-1))], []⟩ ?_
  refine swp_ret ?_
  obtain rfl := inj h
  exact q_fr (f1 fv)
theorem ents77 : Ents Tryz.prog 77 := ents_of Tryz.func77 (by kernel_rfl) rfl
noncomputable def spec_l21Parent (aList : (List Claim)) (aPlace : ByteArray) (aYear : Int) : Option (ByteArray) :=
  (((forN (aList.length : Int) (fun (i3 : Int) (_ : Unit) => ((at' aList i3).bind fun x7 => (((bif (x7.Kind == 1) then (bif (x7.Place.toList == aPlace.toList) then ((spec_l01In aYear x7.Years.From x7.Years.To).bind fun x8 => some x8) else some false) else some false)).bind fun (j9 : Bool) => (bif j9 then some (.inr (.inr x7.Value)) else some (.inl ()))))) (fun (_ : Unit) => .inl ()) 0 ())).bind (Sum.elim (fun (_ : Unit) => some (ByteArray.mk #[])) some))
theorem spec_l21Parent_run (aList : (List Claim)) (aPlace : ByteArray) (aYear : Int) (r : ByteArray) (h : spec_l21Parent aList aPlace aYear = some r) : SCall Tryz.prog 43 [.v (vl eClaim aList), .v (vs aPlace), .v (vi aYear)] ⟨[.v (vs r)], [], false⟩ := by
  refine scall_in Tryz.func43 rfl [(.tmp 6)] rfl (fun r => ⟨[.v (vs r)], [], false⟩) (r := r) ?_
  unfold spec_l21Parent at h
  refine srk tbok ⟨40, [(0, vl eClaim aList), (1, vs aPlace), (2, vi aYear)], []⟩ ?_
  refine swp_seq ?_
  refine srk tbok ⟨40, [(0, vl eClaim aList), (1, vs aPlace), (2, vi aYear), (7, vi 0)], []⟩ ?_
  refine swp_seqE (r := r) h (fun j1 => ⟨40, [], []⟩) (fun v2 h => ?_) (fun j1 h => ?_)
  refine swp_blk (a := v2) ?_
  refine swp_lpL (r := v2) (s := (0, ())) _ (fun s3 => ⟨40, [(0, vl eClaim aList), (1, vs aPlace), (2, vi aYear), (7, vi s3.1)], []⟩) _ (Le.sub0) h (fun s3 v4 h => ?_)
  refine swp_seq ?_
  refine srk tbok ⟨40, [(0, vl eClaim aList), (1, vs aPlace), (2, vi aYear), (7, vi s3.1), (12, vb (decide (s3.1 < (aList.length : Int))))], []⟩ ?_
  refine swp_cd h (fun h => ?_) fun h => ?_
  refine swp_skip ?_
  refine nx_n ?_
  refine swp_seq ?_
  refine swp_seqL (r := v4) h (fun j5 => ⟨40, [(0, vl eClaim aList), (1, vs aPlace), (2, vi aYear), (7, vi s3.1)], []⟩) (fun v6 h => ?_) (fun j5 h => ?_)
  refine swp_blk (a := v6) ?_
  refine sr ?_
  refine SRun.ck tbok 2 ⟨40, [(0, vl eClaim aList), (1, vs aPlace), (2, vi aYear), (7, vi s3.1), (15, vl eClaim aList), (16, vi s3.1)], []⟩ ?_
  obtain ⟨x7, hx7, h⟩ := bind_some h
  refine SRun.ls (x_index (L := aList) (f := eClaim) (ti := ti24) (tj := ti35) (e := 35) (k := .i64) tbok rfl hx7) ?_
  refine ckn tbok 3 ⟨40, [(0, vl eClaim aList), (1, vs aPlace), (2, vi aYear), (7, vi s3.1), (8, .ref 8 0)], [(8, .box (tc eClaim x7))]⟩ ?_
  refine swp_seq ?_
  refine swp_regJ h (fun j9 => ⟨40, [(0, vl eClaim aList), (1, vs aPlace), (2, vi aYear), (7, vi s3.1), (8, .ref 8 0), (37, vb j9)], [(8, .box (tc eClaim x7))]⟩) (fun v10 h => ?_) (fun j9 h => ?_)
  refine SRun.ck tbok 4 ⟨40, [(0, vl eClaim aList), (1, vs aPlace), (2, vi aYear), (7, vi s3.1), (8, .ref 8 0), (22, vb (x7.Kind == 1))], [(8, .box (tc eClaim x7))]⟩ ?_
  refine SRun.cu [(22, fun b => b)] h (fun h => ?_) fun h => ?_
  refine SRun.ck tbok 6 ⟨40, [(0, vl eClaim aList), (1, vs aPlace), (2, vi aYear), (7, vi s3.1), (8, .ref 8 0), (28, vb (x7.Place.toList == aPlace.toList))], [(8, .box (tc eClaim x7))]⟩ ?_
  refine SRun.cu [(28, fun b => b)] h (fun h => ?_) fun h => ?_
  refine SRun.ck tbok 7 ⟨40, [(0, vl eClaim aList), (1, vs aPlace), (2, vi aYear), (7, vi s3.1), (8, .ref 8 0), (28, vb true), (29, vi aYear), (32, vi x7.Years.From), (35, vi x7.Years.To)], [(8, .box (tc eClaim x7))]⟩ ?_
  obtain ⟨x8, hx8, h⟩ := bind_some h
  refine SRun.ls (xc ents57 (spec_l01In_run aYear x7.Years.From x7.Years.To _ hx8)) ?_
  refine SRun.ck tbok 1 ⟨40, [(0, vl eClaim aList), (1, vs aPlace), (2, vi aYear), (7, vi s3.1), (8, .ref 8 0), (37, vb x8)], [(8, .box (tc eClaim x7))]⟩ ?_
  refine SRun.nil ?_
  obtain rfl := inj h
  exact Le.sub0
  refine SRun.ck tbok 9 ⟨40, [(0, vl eClaim aList), (1, vs aPlace), (2, vi aYear), (7, vi s3.1), (8, .ref 8 0), (37, vb false)], [(8, .box (tc eClaim x7))]⟩ ?_
  refine SRun.nil ?_
  obtain rfl := inj h
  exact Le.sub0
  refine SRun.ck tbok 15 ⟨40, [(0, vl eClaim aList), (1, vs aPlace), (2, vi aYear), (7, vi s3.1), (8, .ref 8 0), (37, vb false)], [(8, .box (tc eClaim x7))]⟩ ?_
  refine SRun.nil ?_
  obtain rfl := inj h
  exact Le.sub0
  refine swp_cd h (fun h => ?_) fun h => ?_
  refine srk tbok ⟨40, [(6, vs x7.Value)], []⟩ ?_
  refine swp_ret ?_
  obtain rfl := inj h
  exact q_br (q_rr (q_rr (q_br (q_rr (q_fr (f1 fv))))))
  refine swp_skip ?_
  obtain rfl := inj h
  exact q_bn (q_l (Le.sub0))
  refine swp_reg ?_
  refine SRun.ck tbok 3 ⟨40, [(0, vl eClaim aList), (1, vs aPlace), (2, vi aYear), (7, vi (w64 (s3.1 + 1)))], []⟩ ?_
  refine SRun.nil ?_
  obtain rfl := inj h
  exact q_l (Le.sub0)
  refine swp_exit ?_
  obtain rfl := inj h
  exact nx_e (q_re (q_bh (q_l (Le.sub0))))
  refine srk tbok ⟨40, [(6, vs (ByteArray.mk #[]))], []⟩ ?_
  refine swp_ret ?_
  obtain rfl := inj h
  exact q_fr (f1 fv)
theorem ents43 : Ents Tryz.prog 43 := ents_of Tryz.func43 (by kernel_rfl) rfl
noncomputable def spec_l21Circle (aList : (List Claim)) (aPlace : ByteArray) (aYear : Int) : Option ((List ByteArray) × Bool) :=
  (((loop (fun (s3 : ByteArray × (List ByteArray)) => ((spec_l03Find s3.2 s3.1).bind fun x5 => (bif (decide (x5 < 0)) then ((app' s3.2 ([s3.1] : List ByteArray)).bind fun x6 => ((spec_l21Parent aList s3.1 aYear).bind fun x7 => (bif (x7.toList == (ByteArray.mk #[]).toList) then some (.inr (.inr (([] : List ByteArray), false))) else some (.inl (x7, x6))))) else some (.inr (.inl (s3.1, s3.2)))))) (aPlace, ([] : List ByteArray)))).bind (Sum.elim (fun (j1 : ByteArray × (List ByteArray)) => some (j1.2, (j1.1.toList == aPlace.toList))) some))
theorem spec_l21Circle_run (aList : (List Claim)) (aPlace : ByteArray) (aYear : Int) (r : (List ByteArray) × Bool) (h : spec_l21Circle aList aPlace aYear = some r) : SCall Tryz.prog 54 [.v (vl eClaim aList), .v (vs aPlace), .v (vi aYear)] ⟨[.own 9 1 r.1.length (r.1.map eS), .v (vb r.2)], [], false⟩ := by
  refine scall_in Tryz.func54 rfl [(.tmp 6), (.tmp 7)] rfl (fun r => ⟨[.own 9 1 r.1.length (r.1.map eS), .v (vb r.2)], [], false⟩) (r := r) ?_
  unfold spec_l21Circle at h
  refine srk tbok ⟨30, [(0, vl eClaim aList), (1, vs aPlace), (2, vi aYear)], []⟩ ?_
  refine srk tbok ⟨30, [(0, vl eClaim aList), (1, vs aPlace), (2, vi aYear), (8, .own 10)], [(10, oa 9 1 eS ([] : List ByteArray))]⟩ ?_
  refine srk tbok ⟨30, [(0, vl eClaim aList), (1, vs aPlace), (2, vi aYear), (8, .own 10), (9, vs aPlace)], [(10, oa 9 1 eS ([] : List ByteArray))]⟩ ?_
  refine swp_seq ?_
  refine swp_seqE (r := r) h (fun j1 => ⟨30, [(1, vs aPlace), (8, .own 8), (9, vs j1.1)], [(8, oa 9 1 eS j1.2)]⟩) (fun v2 h => ?_) (fun j1 h => ?_)
  refine swp_blk (a := v2) ?_
  refine swp_lpL (r := v2) (s := (aPlace, ([] : List ByteArray))) _ (fun s3 => ⟨30, [(0, vl eClaim aList), (1, vs aPlace), (2, vi aYear), (8, .own 8), (9, vs s3.1)], [(8, oa 9 1 eS s3.2)]⟩) _ (Le.rr [10] [(10, 8)]) h (fun s3 v4 h => ?_)
  refine swp_seq ?_
  refine sr ?_
  refine SRun.ck tbok 2 ⟨30, [(0, vl eClaim aList), (1, vs aPlace), (2, vi aYear), (8, .own 8), (9, vs s3.1), (12, .own 8), (13, vs s3.1)], [(8, oa 9 1 eS s3.2)]⟩ ?_
  obtain ⟨x5, hx5, h⟩ := bind_some h
  refine SRun.ls (xc ents77 (spec_l03Find_run s3.2 s3.1 _ hx5)) ?_
  refine ckn tbok 1 ⟨30, [(0, vl eClaim aList), (1, vs aPlace), (2, vi aYear), (8, .own 8), (9, vs s3.1), (15, vb (decide (x5 < 0)))], [(8, oa 9 1 eS s3.2)]⟩ ?_
  refine swp_cd h (fun h => ?_) fun h => ?_
  refine swp_skip ?_
  refine nx_n ?_
  refine swp_blk (a := v4) ?_
  refine sr ?_
  refine SRun.ck tbok 3 ⟨30, [(0, vl eClaim aList), (1, vs aPlace), (2, vi aYear), (9, vs s3.1), (16, .own 8), (18, .own 18)], [(8, oa 9 1 eS s3.2), (18, oa 9 1 eS ([s3.1] : List ByteArray))]⟩ ?_
  obtain ⟨x6, hx6, h⟩ := bind_some h
  refine SRun.estep (x_append (f := eS) (t := 60) (ti := ti60) (tj := ti9) (zs := [.string (ByteArray.mk #[])]) (e := 9) (m := 1) (d := 8) (xv := .own 18) hx6 tbok rfl rfl rfl rfl (x_src_o (e := 9))) ?_
  refine ckn tbok 1 ⟨30, [(0, vl eClaim aList), (1, vs aPlace), (2, vi aYear), (8, .own 19), (9, vs s3.1)], [(19, oa 9 1 eS x6)]⟩ ?_
  refine sr ?_
  refine SRun.ck tbok 3 ⟨30, [(0, vl eClaim aList), (1, vs aPlace), (2, vi aYear), (8, .own 19), (20, vl eClaim aList), (21, vs s3.1), (22, vi aYear)], [(19, oa 9 1 eS x6)]⟩ ?_
  obtain ⟨x7, hx7, h⟩ := bind_some h
  refine SRun.ls (xc ents43 (spec_l21Parent_run aList s3.1 aYear _ hx7)) ?_
  refine ckn tbok 1 ⟨30, [(0, vl eClaim aList), (1, vs aPlace), (2, vi aYear), (8, .own 19), (9, vs x7)], [(19, oa 9 1 eS x6)]⟩ ?_
  refine srk tbok ⟨30, [(0, vl eClaim aList), (1, vs aPlace), (2, vi aYear), (8, .own 19), (9, vs x7), (25, vb (x7.toList == (ByteArray.mk #[]).toList))], [(19, oa 9 1 eS x6)]⟩ ?_
  refine swp_cd h (fun h => ?_) fun h => ?_
  refine srk tbok ⟨30, [(6, .own 6), (7, vb false)], [(6, oa 9 1 eS ([] : List ByteArray))]⟩ ?_
  refine swp_ret ?_
  obtain rfl := inj h
  exact q_br (q_rr (q_br (q_rr (q_fr (f2 (fo eS_flat) fv)))))
  refine swp_skip ?_
  obtain rfl := inj h
  exact q_bn (q_l (Le.rr [19] [(19, 8)]))
  refine swp_exit ?_
  obtain rfl := inj h
  exact nx_e (q_re (q_bh (q_l (Le.sub0))))
  refine srk tbok ⟨30, [(6, .own 8), (7, vb (j1.1.toList == aPlace.toList))], [(8, oa 9 1 eS j1.2)]⟩ ?_
  refine swp_ret ?_
  obtain rfl := inj h
  exact q_fr (f2 (fo eS_flat) fv)
theorem ents54 : Ents Tryz.prog 54 := ents_of Tryz.func54 (by kernel_rfl) rfl
noncomputable def spec_l21Consistent (aList : (List Claim)) : Option (Bool) :=
  (((forN (aList.length : Int) (fun (i3 : Int) (_ : Unit) => (forN i3 (fun (i7 : Int) (_ : Unit) => ((at' aList i3).bind fun x11 => ((at' aList i7).bind fun x12 => ((spec_l20Contradict x11 x12).bind fun x13 => (bif x13 then some (.inr (.inr (.inr false))) else some (.inl ())))))) (fun (_ : Unit) => .inl ()) 0 ())) (fun (_ : Unit) => .inl ()) 0 ())).bind (Sum.elim (fun (_ : Unit) => (((forN (aList.length : Int) (fun (i16 : Int) (_ : Unit) => (loop (fun (s20 : Int) => (((bif (decide (s20 < (aList.length : Int))) then ((at' aList i16).bind fun x22 => some (x22.Kind == 1)) else some false)).bind fun (j23 : Bool) => (bif j23 then ((((at' aList s20).bind fun x27 => ((at' aList i16).bind fun x28 => ((spec_l21Circle aList x27.Place x28.Years.From).bind fun x29 => (bif x29.2 then some (.inr (.inr (.inr false))) else some (.inl ())))))).bind (Sum.elim (fun (_ : Unit) => some (.inl (w64 (s20 + 1)))) (fun a => some (.inr a)))) else some (.inr (.inl ()))))) 0)) (fun (_ : Unit) => .inl ()) 0 ())).bind (Sum.elim (fun (_ : Unit) => some true) some))) some))
theorem spec_l21Consistent_run (aList : (List Claim)) (r : Bool) (h : spec_l21Consistent aList = some r) : SCall Tryz.prog 29 [.v (vl eClaim aList)] ⟨[.v (vb r)], [], false⟩ := by
  refine scall_in Tryz.func29 rfl [(.tmp 2)] rfl (fun r => ⟨[.v (vb r)], [], false⟩) (r := r) ?_
  unfold spec_l21Consistent at h
  refine srk tbok ⟨66, [(0, vl eClaim aList)], []⟩ ?_
  refine swp_seq ?_
  refine srk tbok ⟨66, [(0, vl eClaim aList), (3, vi 0)], []⟩ ?_
  refine swp_seqE (r := r) h (fun j1 => ⟨66, [(0, vl eClaim aList)], []⟩) (fun v2 h => ?_) (fun j1 h => ?_)
  refine swp_blk (a := v2) ?_
  refine swp_lpL (r := v2) (s := (0, ())) _ (fun s3 => ⟨66, [(0, vl eClaim aList), (3, vi s3.1)], []⟩) _ (Le.sub0) h (fun s3 v4 h => ?_)
  refine swp_seq ?_
  refine srk tbok ⟨66, [(0, vl eClaim aList), (3, vi s3.1), (12, vb (decide (s3.1 < (aList.length : Int))))], []⟩ ?_
  refine swp_cd h (fun h => ?_) fun h => ?_
  refine swp_skip ?_
  refine nx_n ?_
  refine swp_seq ?_
  refine swp_seqL (r := v4) h (fun j5 => ⟨66, [(0, vl eClaim aList), (3, vi s3.1)], []⟩) (fun v6 h => ?_) (fun j5 h => ?_)
  refine swp_blk (a := v6) ?_
  refine srk tbok ⟨66, [(0, vl eClaim aList), (3, vi s3.1), (4, vi 0)], []⟩ ?_
  refine swp_blk (a := v6) ?_
  refine swp_lpL (r := v6) (s := (0, ())) _ (fun s7 => ⟨66, [(0, vl eClaim aList), (3, vi s3.1), (4, vi s7.1)], []⟩) _ (Le.sub0) h (fun s7 v8 h => ?_)
  refine swp_seq ?_
  refine srk tbok ⟨66, [(0, vl eClaim aList), (3, vi s3.1), (4, vi s7.1), (17, vb (decide (s7.1 < s3.1)))], []⟩ ?_
  refine swp_cd h (fun h => ?_) fun h => ?_
  refine swp_skip ?_
  refine nx_n ?_
  refine swp_seq ?_
  refine swp_seqL (r := v8) h (fun j9 => ⟨66, [(0, vl eClaim aList), (3, vi s3.1), (4, vi s7.1)], []⟩) (fun v10 h => ?_) (fun j9 h => ?_)
  refine swp_blk (a := v10) ?_
  refine swp_seq ?_
  refine swp_dr mixed ?_
  refine DGo.ck tbok false 2 ⟨66, [(0, vl eClaim aList), (3, vi s3.1), (4, vi s7.1), (20, vl eClaim aList), (21, vi s3.1)], []⟩ ?_
  obtain ⟨x11, hx11, h⟩ := bind_some h
  refine DGo.step (x_index (L := aList) (f := eClaim) (ti := ti24) (tj := ti35) (e := 35) (k := .i64) tbok rfl hx11) ?_
  refine DGo.ck tbok false 3 ⟨66, [(0, vl eClaim aList), (3, vi s3.1), (4, vi s7.1), (23, .agg (tc eClaim x11)), (24, vl eClaim aList), (25, vi s7.1)], []⟩ ?_
  obtain ⟨x12, hx12, h⟩ := bind_some h
  refine DGo.step (x_index (L := aList) (f := eClaim) (ti := ti24) (tj := ti35) (e := 35) (k := .i64) tbok rfl hx12) ?_
  refine DGo.ck tbok false 1 ⟨66, [(0, vl eClaim aList), (3, vi s3.1), (4, vi s7.1), (23, .agg (tc eClaim x11)), (27, .agg (tc eClaim x12))], []⟩ ?_
  obtain ⟨x13, hx13, h⟩ := bind_some h
  refine DGo.step (xc ents53 (spec_l20Contradict_run x11 x12 _ hx13)) ?_
  refine DGo.nx ?_
  refine swp_cd h (fun h => ?_) fun h => ?_
  refine srk tbok ⟨66, [(2, vb false)], []⟩ ?_
  refine swp_ret ?_
  obtain rfl := inj h
  exact q_br (q_rr (q_rr (q_br (q_br (q_rr (q_rr (q_br (q_rr (q_fr (f1 fv))))))))))
  refine swp_skip ?_
  obtain rfl := inj h
  exact q_bn (q_l (Le.sub0))
  refine swp_reg ?_
  refine SRun.ck tbok 3 ⟨66, [(0, vl eClaim aList), (3, vi s3.1), (4, vi (w64 (s7.1 + 1)))], []⟩ ?_
  refine SRun.nil ?_
  obtain rfl := inj h
  exact q_l (Le.sub0)
  refine swp_exit ?_
  obtain rfl := inj h
  exact nx_e (q_re (q_bh (q_bn (q_l (Le.sub0)))))
  refine swp_reg ?_
  refine SRun.ck tbok 3 ⟨66, [(0, vl eClaim aList), (3, vi (w64 (s3.1 + 1)))], []⟩ ?_
  refine SRun.nil ?_
  obtain rfl := inj h
  exact q_l (Le.sub0)
  refine swp_exit ?_
  obtain rfl := inj h
  exact nx_e (q_re (q_bh (q_l (Le.sub0))))
  refine swp_seq ?_
  refine srk tbok ⟨66, [(0, vl eClaim aList), (5, vi 0)], []⟩ ?_
  refine swp_seqE (r := r) h (fun j14 => ⟨66, [], []⟩) (fun v15 h => ?_) (fun j14 h => ?_)
  refine swp_blk (a := v15) ?_
  refine swp_lpL (r := v15) (s := (0, ())) _ (fun s16 => ⟨66, [(0, vl eClaim aList), (5, vi s16.1)], []⟩) _ (Le.sub0) h (fun s16 v17 h => ?_)
  refine swp_seq ?_
  refine srk tbok ⟨66, [(0, vl eClaim aList), (5, vi s16.1), (32, vb (decide (s16.1 < (aList.length : Int))))], []⟩ ?_
  refine swp_cd h (fun h => ?_) fun h => ?_
  refine swp_skip ?_
  refine nx_n ?_
  refine swp_seq ?_
  refine swp_seqL (r := v17) h (fun j18 => ⟨66, [(0, vl eClaim aList), (5, vi s16.1)], []⟩) (fun v19 h => ?_) (fun j18 h => ?_)
  refine swp_blk (a := v19) ?_
  refine srk tbok ⟨66, [(0, vl eClaim aList), (5, vi s16.1), (6, vi 0)], []⟩ ?_
  refine swp_blk (a := v19) ?_
  refine swp_lpL (r := v19) (s := 0) _ (fun s20 => ⟨66, [(0, vl eClaim aList), (5, vi s16.1), (6, vi s20)], []⟩) _ (Le.sub0) h (fun s20 v21 h => ?_)
  refine swp_seq ?_
  refine swp_seq ?_
  refine swp_regJ h (fun j23 => ⟨66, [(0, vl eClaim aList), (5, vi s16.1), (6, vi s20), (46, vb j23)], []⟩) (fun v24 h => ?_) (fun j23 h => ?_)
  refine SRun.ck tbok 5 ⟨66, [(0, vl eClaim aList), (5, vi s16.1), (6, vi s20), (39, vb (decide (s20 < (aList.length : Int))))], []⟩ ?_
  refine SRun.cu [(39, fun b => b)] h (fun h => ?_) fun h => ?_
  refine SRun.ck tbok 2 ⟨66, [(0, vl eClaim aList), (5, vi s16.1), (6, vi s20), (39, vb true), (40, vl eClaim aList), (41, vi s16.1)], []⟩ ?_
  obtain ⟨x22, hx22, h⟩ := bind_some h
  refine SRun.ls (x_index (L := aList) (f := eClaim) (ti := ti24) (tj := ti35) (e := 35) (k := .i64) tbok rfl hx22) ?_
  refine SRun.ck tbok 4 ⟨66, [(0, vl eClaim aList), (5, vi s16.1), (6, vi s20), (46, vb (x22.Kind == 1))], []⟩ ?_
  refine SRun.nil ?_
  obtain rfl := inj h
  exact Le.sub0
  refine SRun.ck tbok 7 ⟨66, [(0, vl eClaim aList), (5, vi s16.1), (6, vi s20), (46, vb false)], []⟩ ?_
  refine SRun.nil ?_
  obtain rfl := inj h
  exact Le.sub0
  refine swp_cd h (fun h => ?_) fun h => ?_
  refine swp_skip ?_
  refine nx_n ?_
  refine swp_seq ?_
  refine swp_seqL (r := v21) h (fun j25 => ⟨66, [(0, vl eClaim aList), (5, vi s16.1), (6, vi s20)], []⟩) (fun v26 h => ?_) (fun j25 h => ?_)
  refine swp_blk (a := v26) ?_
  refine swp_seq ?_
  refine swp_dr mixed ?_
  refine DGo.ck tbok false 3 ⟨66, [(0, vl eClaim aList), (5, vi s16.1), (6, vi s20), (50, vl eClaim aList), (51, vl eClaim aList), (52, vi s20)], []⟩ ?_
  obtain ⟨x27, hx27, h⟩ := bind_some h
  refine DGo.step (x_index (L := aList) (f := eClaim) (ti := ti24) (tj := ti35) (e := 35) (k := .i64) tbok rfl hx27) ?_
  refine DGo.ck tbok false 4 ⟨66, [(0, vl eClaim aList), (5, vi s16.1), (6, vi s20), (50, vl eClaim aList), (55, vs x27.Place), (56, vl eClaim aList), (57, vi s16.1)], []⟩ ?_
  obtain ⟨x28, hx28, h⟩ := bind_some h
  refine DGo.step (x_index (L := aList) (f := eClaim) (ti := ti24) (tj := ti35) (e := 35) (k := .i64) tbok rfl hx28) ?_
  refine DGo.ck tbok false 3 ⟨66, [(0, vl eClaim aList), (5, vi s16.1), (6, vi s20), (50, vl eClaim aList), (55, vs x27.Place), (61, vi x28.Years.From)], []⟩ ?_
  obtain ⟨x29, hx29, h⟩ := bind_some h
  refine DGo.step (xc ents54 (spec_l21Circle_run aList x27.Place x28.Years.From _ hx29)) ?_
  refine DGo.ck tbok false 5 ⟨66, [(0, vl eClaim aList), (5, vi s16.1), (6, vi s20), (8, vb x29.2)], []⟩ ?_
  refine DGo.nx ?_
  refine srk tbok ⟨66, [(0, vl eClaim aList), (5, vi s16.1), (6, vi s20), (65, vb x29.2)], []⟩ ?_
  refine swp_cd h (fun h => ?_) fun h => ?_
  refine srk tbok ⟨66, [(2, vb false)], []⟩ ?_
  refine swp_ret ?_
  obtain rfl := inj h
  exact q_br (q_rr (q_rr (q_br (q_br (q_rr (q_rr (q_br (q_rr (q_fr (f1 fv))))))))))
  refine swp_skip ?_
  obtain rfl := inj h
  exact q_bn (q_l (Le.sub0))
  refine swp_reg ?_
  refine SRun.ck tbok 3 ⟨66, [(0, vl eClaim aList), (5, vi s16.1), (6, vi (w64 (s20 + 1)))], []⟩ ?_
  refine SRun.nil ?_
  obtain rfl := inj h
  exact q_l (Le.sub0)
  refine swp_exit ?_
  obtain rfl := inj h
  exact nx_e (q_re (q_bh (q_bn (q_l (Le.sub0)))))
  refine swp_reg ?_
  refine SRun.ck tbok 3 ⟨66, [(0, vl eClaim aList), (5, vi (w64 (s16.1 + 1)))], []⟩ ?_
  refine SRun.nil ?_
  obtain rfl := inj h
  exact q_l (Le.sub0)
  refine swp_exit ?_
  obtain rfl := inj h
  exact nx_e (q_re (q_bh (q_l (Le.sub0))))
  refine srk tbok ⟨66, [(2, vb true)], []⟩ ?_
  refine swp_ret ?_
  obtain rfl := inj h
  exact q_fr (f1 fv)
theorem ents29 : Ents Tryz.prog 29 := ents_of Tryz.func29 (by kernel_rfl) rfl
noncomputable def spec_l21Sure (aS : l01Source) : Option ((List Claim) × l01Source) :=
  ((spec_l21List aS).bind fun x1 => ((spec_l01Next x1.2 8).bind fun x2 => (bif (x2.1 == 0) then some (x1.1, x2.2) else (((forS (x1.1.length : Int) (fun (i5 : Int) (s5 : (List Claim)) => ((app' ([] : List Claim) s5).bind fun x9 => ((at' x1.1 i5).bind fun x10 => ((app' x9 ([x10] : List Claim)).bind fun x11 => ((((at' x1.1 i5).bind fun x12 => ((spec_IsClaim x12).bind fun x13 => (bif x13 then ((spec_l21Consistent x11).bind fun x14 => some x14) else some false)))).bind fun (j15 : Bool) => (bif j15 then some x11 else some s5)))))) (fun (s5 : (List Claim)) => s5) 0 ([] : List Claim))).bind fun (j3 : (List Claim)) => some (j3, x2.2)))))
theorem spec_l21Sure_run (aS : l01Source) (r : (List Claim) × l01Source) (h : spec_l21Sure aS = some r) : SCall Tryz.prog 24 [.o (.box [vl (eI .u8) aS.code, vi aS.at', vi aS.seed])] ⟨[.own 35 7 r.1.length (r.1.map eClaim)], [(0, .box (tc el01Source r.2))], false⟩ := by
  refine scall_in Tryz.func24 rfl [(.tmp 2)] rfl (fun r => ⟨[.own 35 7 r.1.length (r.1.map eClaim)], [(0, .box (tc el01Source r.2))], false⟩) (r := r) ?_
  unfold spec_l21Sure at h
  refine srk tbok ⟨40, [(0, .ref 1000000 0)], [(1000000, .box (tc el01Source aS))]⟩ ?_
  refine sr ?_
  refine SRun.ck tbok 1 ⟨40, [(0, .ref 1000000 0), (7, .ref 1000000 0)], [(1000000, .box (tc el01Source aS))]⟩ ?_
  obtain ⟨x1, hx1, h⟩ := bind_some h
  refine SRun.estep (xe ents25 (spec_l21List_run aS _ hx1)) ?_
  refine ckn tbok 1 ⟨40, [(0, .ref 1000000 0), (3, .own 8)], [(8, oa 35 7 eClaim x1.1), (1000000, .box (tc el01Source x1.2))]⟩ ?_
  refine swp_seq ?_
  refine sr ?_
  refine SRun.ck tbok 1 ⟨40, [(3, .own 8), (9, .ref 1000000 0)], [(8, oa 35 7 eClaim x1.1), (1000000, .box (tc el01Source x1.2))]⟩ ?_
  obtain ⟨x2, hx2, h⟩ := bind_some h
  refine SRun.estep (xe ents23 (spec_l01Next_run x1.2 8 _ hx2)) ?_
  refine ckn tbok 1 ⟨40, [(3, .own 8), (11, vb (x2.1 == 0))], [(8, oa 35 7 eClaim x1.1), (1000000, .box (tc el01Source x2.2))]⟩ ?_
  refine swp_cd h (fun h => ?_) fun h => ?_
  refine srk tbok ⟨40, [(2, .own 8)], [(8, oa 35 7 eClaim x1.1), (1000000, .box (tc el01Source x2.2))]⟩ ?_
  refine swp_ret ?_
  obtain rfl := inj h
  exact nx_r (q_fr (fin_io (f1 (fo eClaim_flat)) (y := .box (tc el01Source x2.2)) (by kernel_rfl) rfl (by kernel_rfl) (by kernel_rfl)))
  refine swp_skip ?_
  refine nx_n ?_
  refine srk tbok ⟨40, [(3, .own 8), (4, .own 13)], [(8, oa 35 7 eClaim x1.1), (13, oa 35 7 eClaim ([] : List Claim)), (1000000, .box (tc el01Source x2.2))]⟩ ?_
  refine swp_seq ?_
  refine srk tbok ⟨40, [(3, .own 8), (4, .own 13), (5, vi 0)], [(8, oa 35 7 eClaim x1.1), (13, oa 35 7 eClaim ([] : List Claim)), (1000000, .box (tc el01Source x2.2))]⟩ ?_
  refine swp_seqJ h (fun j3 => ⟨40, [(4, .own 4)], [(4, oa 35 7 eClaim j3), (1000000, .box (tc el01Source x2.2))]⟩) (fun v4 h => ?_) (fun j3 h => ?_)
  refine swp_blk (a := v4) ?_
  refine swp_lpL (r := v4) (s := (0, ([] : List Claim))) _ (fun s5 => ⟨40, [(3, .own 3), (4, .own 4), (5, vi s5.1)], [(3, oa 35 7 eClaim x1.1), (4, oa 35 7 eClaim s5.2), (1000000, .box (tc el01Source x2.2))]⟩) _ (Le.rr [8, 13, 1000000] [(8, 3), (13, 4)]) h (fun s5 v6 h => ?_)
  refine swp_seq ?_
  refine srk tbok ⟨40, [(3, .own 3), (4, .own 4), (5, vi s5.1), (17, vb (decide (s5.1 < (x1.1.length : Int))))], [(3, oa 35 7 eClaim x1.1), (4, oa 35 7 eClaim s5.2), (1000000, .box (tc el01Source x2.2))]⟩ ?_
  refine swp_cd h (fun h => ?_) fun h => ?_
  refine swp_skip ?_
  refine nx_n ?_
  refine swp_seq ?_
  refine swp_seqJ h (fun j7 => ⟨40, [(3, .own 3), (4, .own 4), (5, vi s5.1)], [(3, oa 35 7 eClaim x1.1), (4, oa 35 7 eClaim j7), (1000000, .box (tc el01Source x2.2))]⟩) (fun v8 h => ?_) (fun j7 h => ?_)
  refine swp_blk (a := v8) ?_
  refine swp_seq ?_
  obtain ⟨x9, hx9, h⟩ := bind_some h
  obtain ⟨x10, hx10, h⟩ := bind_some h
  obtain ⟨x11, hx11, h⟩ := bind_some h
  refine swp_dr mixed ?_
  refine DGo.enum (σE := ⟨40, [(3, .own 3), (4, .own 4), (5, vi s5.1), (6, .own 28)], [(3, oa 35 7 eClaim x1.1), (4, oa 35 7 eClaim s5.2), (28, oa 35 7 eClaim x11), (1000000, .box (tc el01Source x2.2))]⟩) (n := 10) (L0 := #[false, false, false, false, false, false, false, false, false, false]) (by kernel_rfl) (by kernel_rfl) (fun K hk => ?_) ?_
  refine DE.share (fuel := 0) (L := #[true, true, true, true, true, true, true, true, true, true]) (σ := ⟨40, [(3, .own 3), (4, .own 4), (5, vi s5.1), (6, .own 28)], [(3, oa 35 7 eClaim x1.1), (4, oa 35 7 eClaim s5.2), (28, oa 35 7 eClaim x11), (1000000, .box (tc el01Source x2.2))]⟩) ?_ (fun d16 => ?_)
  exact DE.done (by kernel_rfl) hk
  refine DE.share (fuel := 1) (L := #[true, true, true, true, true, true, true, true, true, false]) (σ := ⟨40, [(3, .own 3), (4, .own 4), (5, vi s5.1), (28, .own 28)], [(3, oa 35 7 eClaim x1.1), (4, oa 35 7 eClaim s5.2), (28, oa 35 7 eClaim x11), (1000000, .box (tc el01Source x2.2))]⟩) ?_ (fun d15 => ?_)
  exact DE.take (i := 9) (L' := #[true, true, true, true, true, true, true, true, true, true]) rfl (.inr rfl) rfl (by kernel_rfl) (by kernel_rfl) (by kernel_rfl) (EStep.le (EStep.ofN2 tbok (σ' := ⟨40, [(6, .own 28), (3, .own 3), (4, .own 4), (5, vi s5.1), (28, .own 28)], [(3, oa 35 7 eClaim x1.1), (4, oa 35 7 eClaim s5.2), (28, oa 35 7 eClaim x11), (1000000, .box (tc el01Source x2.2))]⟩) (by kernel_rfl)) Le.sub0) (by kernel_rfl) d16
  refine DE.share (fuel := 2) (L := #[true, true, true, true, true, true, true, true, false, false]) (σ := ⟨40, [(3, .own 3), (4, .own 4), (5, vi s5.1), (22, .own 22), (27, .own 27)], [(3, oa 35 7 eClaim x1.1), (4, oa 35 7 eClaim s5.2), (22, oa 35 7 eClaim x9), (27, oa 35 7 eClaim ([x10] : List Claim)), (1000000, .box (tc el01Source x2.2))]⟩) ?_ (fun d14 => ?_)
  exact DE.all [8] (by kernel_rfl) (by simp) (List.forall_mem_cons.2 ⟨DEs.mk (i := 8) (L' := #[true, true, true, true, true, true, true, true, true, false]) rfl (EStep.le (x_append (f := eClaim) (t := 24) (ti := ti24) (tj := ti35) (zs := [.string (ByteArray.mk #[]), .int .i64 0, .string (ByteArray.mk #[]), .string (ByteArray.mk #[]), .int .i64 0, .int .i64 0, .int .i64 0]) (e := 35) (m := 7) (d := 22) (xv := .own 27) hx11 tbok rfl rfl rfl rfl (x_src_o (e := 35))) Le.sub0) (by kernel_rfl) d15, (fun _ h => absurd h List.not_mem_nil)⟩)
  refine DE.share (fuel := 3) (L := #[true, true, false, true, true, true, true, true, false, false]) (σ := ⟨40, [(3, .own 3), (4, .own 4), (5, vi s5.1), (20, .own 20), (21, .own 4), (27, .own 27)], [(3, oa 35 7 eClaim x1.1), (4, oa 35 7 eClaim s5.2), (20, oa 35 7 eClaim ([] : List Claim)), (27, oa 35 7 eClaim ([x10] : List Claim)), (1000000, .box (tc el01Source x2.2))]⟩) ?_ (fun d13 => ?_)
  exact DE.all [2] (by kernel_rfl) (by simp) (List.forall_mem_cons.2 ⟨DEs.mk (i := 2) (L' := #[true, true, true, true, true, true, true, true, false, false]) rfl (EStep.le (x_append (f := eClaim) (t := 24) (ti := ti24) (tj := ti35) (zs := [.string (ByteArray.mk #[]), .int .i64 0, .string (ByteArray.mk #[]), .string (ByteArray.mk #[]), .int .i64 0, .int .i64 0, .int .i64 0]) (e := 35) (m := 7) (d := 20) (xv := .own 4) hx9 tbok rfl rfl rfl rfl (x_src_o (e := 35))) Le.sub0) (by kernel_rfl) d14, (fun _ h => absurd h List.not_mem_nil)⟩)
  refine DE.share (fuel := 3) (L := #[true, true, true, true, true, true, true, false, false, false]) (σ := ⟨40, [(3, .own 3), (4, .own 4), (5, vi s5.1), (22, .own 22), (26, .agg (tc eClaim x10))], [(3, oa 35 7 eClaim x1.1), (4, oa 35 7 eClaim s5.2), (22, oa 35 7 eClaim x9), (1000000, .box (tc el01Source x2.2))]⟩) ?_ (fun d12 => ?_)
  exact DE.all [7] (by kernel_rfl) (by simp) (List.forall_mem_cons.2 ⟨DEs.mk (i := 7) (L' := #[true, true, true, true, true, true, true, true, false, false]) rfl (EStep.le (EStep.ofN2 tbok (σ' := ⟨40, [(27, .own 27), (3, .own 3), (4, .own 4), (5, vi s5.1), (22, .own 22), (26, .agg (tc eClaim x10))], [(27, oa 35 7 eClaim ([x10] : List Claim)), (3, oa 35 7 eClaim x1.1), (4, oa 35 7 eClaim s5.2), (22, oa 35 7 eClaim x9), (1000000, .box (tc el01Source x2.2))]⟩) (by kernel_rfl)) Le.sub0) (by kernel_rfl) d14, (fun _ h => absurd h List.not_mem_nil)⟩)
  refine DE.share (fuel := 4) (L := #[false, true, false, true, true, true, true, true, false, false]) (σ := ⟨40, [(3, .own 3), (4, .own 4), (5, vi s5.1), (21, .own 4), (27, .own 27)], [(3, oa 35 7 eClaim x1.1), (4, oa 35 7 eClaim s5.2), (27, oa 35 7 eClaim ([x10] : List Claim)), (1000000, .box (tc el01Source x2.2))]⟩) ?_ (fun d11 => ?_)
  exact DE.all [0] (by kernel_rfl) (by simp) (List.forall_mem_cons.2 ⟨DEs.mk (i := 0) (L' := #[true, true, false, true, true, true, true, true, false, false]) rfl (EStep.le (EStep.ofN2 tbok (σ' := ⟨40, [(20, .own 20), (3, .own 3), (4, .own 4), (5, vi s5.1), (21, .own 4), (27, .own 27)], [(20, oa 35 7 eClaim ([] : List Claim)), (3, oa 35 7 eClaim x1.1), (4, oa 35 7 eClaim s5.2), (27, oa 35 7 eClaim ([x10] : List Claim)), (1000000, .box (tc el01Source x2.2))]⟩) (by kernel_rfl)) Le.sub0) (by kernel_rfl) d13, (fun _ h => absurd h List.not_mem_nil)⟩)
  refine DE.share (fuel := 4) (L := #[true, true, false, true, true, true, true, false, false, false]) (σ := ⟨40, [(3, .own 3), (4, .own 4), (5, vi s5.1), (20, .own 20), (21, .own 4), (26, .agg (tc eClaim x10))], [(3, oa 35 7 eClaim x1.1), (4, oa 35 7 eClaim s5.2), (20, oa 35 7 eClaim ([] : List Claim)), (1000000, .box (tc el01Source x2.2))]⟩) ?_ (fun d10 => ?_)
  exact DE.all [2, 7] (by kernel_rfl) (by simp) (List.forall_mem_cons.2 ⟨DEs.mk (i := 2) (L' := #[true, true, true, true, true, true, true, false, false, false]) rfl (EStep.le (x_append (f := eClaim) (t := 24) (ti := ti24) (tj := ti35) (zs := [.string (ByteArray.mk #[]), .int .i64 0, .string (ByteArray.mk #[]), .string (ByteArray.mk #[]), .int .i64 0, .int .i64 0, .int .i64 0]) (e := 35) (m := 7) (d := 20) (xv := .own 4) hx9 tbok rfl rfl rfl rfl (x_src_o (e := 35))) Le.sub0) (by kernel_rfl) d12, (List.forall_mem_cons.2 ⟨DEs.mk (i := 7) (L' := #[true, true, false, true, true, true, true, true, false, false]) rfl (EStep.le (EStep.ofN2 tbok (σ' := ⟨40, [(27, .own 27), (3, .own 3), (4, .own 4), (5, vi s5.1), (20, .own 20), (21, .own 4), (26, .agg (tc eClaim x10))], [(27, oa 35 7 eClaim ([x10] : List Claim)), (3, oa 35 7 eClaim x1.1), (4, oa 35 7 eClaim s5.2), (20, oa 35 7 eClaim ([] : List Claim)), (1000000, .box (tc el01Source x2.2))]⟩) (by kernel_rfl)) Le.sub0) (by kernel_rfl) d13, (fun _ h => absurd h List.not_mem_nil)⟩)⟩)
  refine DE.share (fuel := 4) (L := #[true, true, true, true, true, true, false, false, false, false]) (σ := ⟨40, [(3, .own 3), (4, .own 4), (5, vi s5.1), (22, .own 22), (25, .eref 3 7 (Int.toNat s5.1) 0)], [(3, oa 35 7 eClaim x1.1), (4, oa 35 7 eClaim s5.2), (22, oa 35 7 eClaim x9), (1000000, .box (tc el01Source x2.2))]⟩) ?_ (fun d9 => ?_)
  exact DE.all [6] (by kernel_rfl) (by simp) (List.forall_mem_cons.2 ⟨DEs.mk (i := 6) (L' := #[true, true, true, true, true, true, true, false, false, false]) rfl (EStep.le (EStep.ofL (x_load_own (d := 3) (m := 7) (j := 0) (L := x1.1) (f := eClaim) (ti := ti35) (e := 35) (v := .agg (tc eClaim x10)) tbok rfl hx10) (by kernel_rfl)) Le.sub0) (by kernel_rfl) d12, (fun _ h => absurd h List.not_mem_nil)⟩)
  refine DE.share (fuel := 5) (L := #[false, true, false, true, true, true, true, false, false, false]) (σ := ⟨40, [(3, .own 3), (4, .own 4), (5, vi s5.1), (21, .own 4), (26, .agg (tc eClaim x10))], [(3, oa 35 7 eClaim x1.1), (4, oa 35 7 eClaim s5.2), (1000000, .box (tc el01Source x2.2))]⟩) ?_ (fun d8 => ?_)
  exact DE.all [0, 7] (by kernel_rfl) (by simp) (List.forall_mem_cons.2 ⟨DEs.mk (i := 0) (L' := #[true, true, false, true, true, true, true, false, false, false]) rfl (EStep.le (EStep.ofN2 tbok (σ' := ⟨40, [(20, .own 20), (3, .own 3), (4, .own 4), (5, vi s5.1), (21, .own 4), (26, .agg (tc eClaim x10))], [(20, oa 35 7 eClaim ([] : List Claim)), (3, oa 35 7 eClaim x1.1), (4, oa 35 7 eClaim s5.2), (1000000, .box (tc el01Source x2.2))]⟩) (by kernel_rfl)) Le.sub0) (by kernel_rfl) d10, (List.forall_mem_cons.2 ⟨DEs.mk (i := 7) (L' := #[false, true, false, true, true, true, true, true, false, false]) rfl (EStep.le (EStep.ofN2 tbok (σ' := ⟨40, [(27, .own 27), (3, .own 3), (4, .own 4), (5, vi s5.1), (21, .own 4), (26, .agg (tc eClaim x10))], [(27, oa 35 7 eClaim ([x10] : List Claim)), (3, oa 35 7 eClaim x1.1), (4, oa 35 7 eClaim s5.2), (1000000, .box (tc el01Source x2.2))]⟩) (by kernel_rfl)) Le.sub0) (by kernel_rfl) d11, (fun _ h => absurd h List.not_mem_nil)⟩)⟩)
  refine DE.share (fuel := 5) (L := #[true, true, false, true, true, true, false, false, false, false]) (σ := ⟨40, [(3, .own 3), (4, .own 4), (5, vi s5.1), (20, .own 20), (21, .own 4), (25, .eref 3 7 (Int.toNat s5.1) 0)], [(3, oa 35 7 eClaim x1.1), (4, oa 35 7 eClaim s5.2), (20, oa 35 7 eClaim ([] : List Claim)), (1000000, .box (tc el01Source x2.2))]⟩) ?_ (fun d7 => ?_)
  exact DE.all [2, 6] (by kernel_rfl) (by simp) (List.forall_mem_cons.2 ⟨DEs.mk (i := 2) (L' := #[true, true, true, true, true, true, false, false, false, false]) rfl (EStep.le (x_append (f := eClaim) (t := 24) (ti := ti24) (tj := ti35) (zs := [.string (ByteArray.mk #[]), .int .i64 0, .string (ByteArray.mk #[]), .string (ByteArray.mk #[]), .int .i64 0, .int .i64 0, .int .i64 0]) (e := 35) (m := 7) (d := 20) (xv := .own 4) hx9 tbok rfl rfl rfl rfl (x_src_o (e := 35))) Le.sub0) (by kernel_rfl) d9, (List.forall_mem_cons.2 ⟨DEs.mk (i := 6) (L' := #[true, true, false, true, true, true, true, false, false, false]) rfl (EStep.le (EStep.ofL (x_load_own (d := 3) (m := 7) (j := 0) (L := x1.1) (f := eClaim) (ti := ti35) (e := 35) (v := .agg (tc eClaim x10)) tbok rfl hx10) (by kernel_rfl)) Le.sub0) (by kernel_rfl) d10, (fun _ h => absurd h List.not_mem_nil)⟩)⟩)
  refine DE.share (fuel := 5) (L := #[true, true, true, true, true, false, false, false, false, false]) (σ := ⟨40, [(3, .own 3), (4, .own 4), (5, vi s5.1), (22, .own 22), (23, .own 3), (24, vi s5.1)], [(3, oa 35 7 eClaim x1.1), (4, oa 35 7 eClaim s5.2), (22, oa 35 7 eClaim x9), (1000000, .box (tc el01Source x2.2))]⟩) ?_ (fun d6 => ?_)
  exact DE.all [5] (by kernel_rfl) (by simp) (List.forall_mem_cons.2 ⟨DEs.mk (i := 5) (L' := #[true, true, true, true, true, true, false, false, false, false]) rfl (EStep.le (EStep.ofL (x_index_own (d := 3) (L := x1.1) (f := eClaim) (ti := ti24) (tj := ti35) (e := 35) (e' := 35) (m := 7) (k := .i64) tbok rfl hx10) (by kernel_rfl)) Le.sub0) (by kernel_rfl) d9, (fun _ h => absurd h List.not_mem_nil)⟩)
  refine DE.share (fuel := 6) (L := #[false, true, false, true, true, true, false, false, false, false]) (σ := ⟨40, [(3, .own 3), (4, .own 4), (5, vi s5.1), (21, .own 4), (25, .eref 3 7 (Int.toNat s5.1) 0)], [(3, oa 35 7 eClaim x1.1), (4, oa 35 7 eClaim s5.2), (1000000, .box (tc el01Source x2.2))]⟩) ?_ (fun d5 => ?_)
  exact DE.all [0, 6] (by kernel_rfl) (by simp) (List.forall_mem_cons.2 ⟨DEs.mk (i := 0) (L' := #[true, true, false, true, true, true, false, false, false, false]) rfl (EStep.le (EStep.ofN2 tbok (σ' := ⟨40, [(20, .own 20), (3, .own 3), (4, .own 4), (5, vi s5.1), (21, .own 4), (25, .eref 3 7 (Int.toNat s5.1) 0)], [(20, oa 35 7 eClaim ([] : List Claim)), (3, oa 35 7 eClaim x1.1), (4, oa 35 7 eClaim s5.2), (1000000, .box (tc el01Source x2.2))]⟩) (by kernel_rfl)) Le.sub0) (by kernel_rfl) d7, (List.forall_mem_cons.2 ⟨DEs.mk (i := 6) (L' := #[false, true, false, true, true, true, true, false, false, false]) rfl (EStep.le (EStep.ofL (x_load_own (d := 3) (m := 7) (j := 0) (L := x1.1) (f := eClaim) (ti := ti35) (e := 35) (v := .agg (tc eClaim x10)) tbok rfl hx10) (by kernel_rfl)) Le.sub0) (by kernel_rfl) d8, (fun _ h => absurd h List.not_mem_nil)⟩)⟩)
  refine DE.share (fuel := 6) (L := #[true, true, false, true, true, false, false, false, false, false]) (σ := ⟨40, [(3, .own 3), (4, .own 4), (5, vi s5.1), (20, .own 20), (21, .own 4), (23, .own 3), (24, vi s5.1)], [(3, oa 35 7 eClaim x1.1), (4, oa 35 7 eClaim s5.2), (20, oa 35 7 eClaim ([] : List Claim)), (1000000, .box (tc el01Source x2.2))]⟩) ?_ (fun d4 => ?_)
  exact DE.all [2, 5] (by kernel_rfl) (by simp) (List.forall_mem_cons.2 ⟨DEs.mk (i := 2) (L' := #[true, true, true, true, true, false, false, false, false, false]) rfl (EStep.le (x_append (f := eClaim) (t := 24) (ti := ti24) (tj := ti35) (zs := [.string (ByteArray.mk #[]), .int .i64 0, .string (ByteArray.mk #[]), .string (ByteArray.mk #[]), .int .i64 0, .int .i64 0, .int .i64 0]) (e := 35) (m := 7) (d := 20) (xv := .own 4) hx9 tbok rfl rfl rfl rfl (x_src_o (e := 35))) Le.sub0) (by kernel_rfl) d6, (List.forall_mem_cons.2 ⟨DEs.mk (i := 5) (L' := #[true, true, false, true, true, true, false, false, false, false]) rfl (EStep.le (EStep.ofL (x_index_own (d := 3) (L := x1.1) (f := eClaim) (ti := ti24) (tj := ti35) (e := 35) (e' := 35) (m := 7) (k := .i64) tbok rfl hx10) (by kernel_rfl)) Le.sub0) (by kernel_rfl) d7, (fun _ h => absurd h List.not_mem_nil)⟩)⟩)
  refine DE.share (fuel := 7) (L := #[false, true, false, true, true, false, false, false, false, false]) (σ := ⟨40, [(3, .own 3), (4, .own 4), (5, vi s5.1), (21, .own 4), (23, .own 3), (24, vi s5.1)], [(3, oa 35 7 eClaim x1.1), (4, oa 35 7 eClaim s5.2), (1000000, .box (tc el01Source x2.2))]⟩) ?_ (fun d3 => ?_)
  exact DE.all [0, 5] (by kernel_rfl) (by simp) (List.forall_mem_cons.2 ⟨DEs.mk (i := 0) (L' := #[true, true, false, true, true, false, false, false, false, false]) rfl (EStep.le (EStep.ofN2 tbok (σ' := ⟨40, [(20, .own 20), (3, .own 3), (4, .own 4), (5, vi s5.1), (21, .own 4), (23, .own 3), (24, vi s5.1)], [(20, oa 35 7 eClaim ([] : List Claim)), (3, oa 35 7 eClaim x1.1), (4, oa 35 7 eClaim s5.2), (1000000, .box (tc el01Source x2.2))]⟩) (by kernel_rfl)) Le.sub0) (by kernel_rfl) d4, (List.forall_mem_cons.2 ⟨DEs.mk (i := 5) (L' := #[false, true, false, true, true, true, false, false, false, false]) rfl (EStep.le (EStep.ofL (x_index_own (d := 3) (L := x1.1) (f := eClaim) (ti := ti24) (tj := ti35) (e := 35) (e' := 35) (m := 7) (k := .i64) tbok rfl hx10) (by kernel_rfl)) Le.sub0) (by kernel_rfl) d5, (fun _ h => absurd h List.not_mem_nil)⟩)⟩)
  refine DE.share (fuel := 8) (L := #[false, true, false, true, false, false, false, false, false, false]) (σ := ⟨40, [(3, .own 3), (4, .own 4), (5, vi s5.1), (21, .own 4), (23, .own 3)], [(3, oa 35 7 eClaim x1.1), (4, oa 35 7 eClaim s5.2), (1000000, .box (tc el01Source x2.2))]⟩) ?_ (fun d2 => ?_)
  exact DE.take (i := 4) (L' := #[false, true, false, true, true, false, false, false, false, false]) rfl (.inl rfl) rfl (by kernel_rfl) (by kernel_rfl) (by kernel_rfl) (EStep.le (EStep.ofN2 tbok (σ' := ⟨40, [(24, vi s5.1), (3, .own 3), (4, .own 4), (5, vi s5.1), (21, .own 4), (23, .own 3)], [(3, oa 35 7 eClaim x1.1), (4, oa 35 7 eClaim s5.2), (1000000, .box (tc el01Source x2.2))]⟩) (by kernel_rfl)) Le.sub0) (by kernel_rfl) d3
  refine DE.share (fuel := 9) (L := #[false, true, false, false, false, false, false, false, false, false]) (σ := ⟨40, [(3, .own 3), (4, .own 4), (5, vi s5.1), (21, .own 4)], [(3, oa 35 7 eClaim x1.1), (4, oa 35 7 eClaim s5.2), (1000000, .box (tc el01Source x2.2))]⟩) ?_ (fun d1 => ?_)
  exact DE.take (i := 3) (L' := #[false, true, false, true, false, false, false, false, false, false]) rfl (.inl rfl) rfl (by kernel_rfl) (by kernel_rfl) (by kernel_rfl) (EStep.le (EStep.ofN2 tbok (σ' := ⟨40, [(23, .own 3), (3, .own 3), (4, .own 4), (5, vi s5.1), (21, .own 4)], [(3, oa 35 7 eClaim x1.1), (4, oa 35 7 eClaim s5.2), (1000000, .box (tc el01Source x2.2))]⟩) (by kernel_rfl)) Le.sub0) (by kernel_rfl) d2
  exact DE.take (i := 1) (L' := #[false, true, false, false, false, false, false, false, false, false]) rfl (.inl rfl) rfl (by kernel_rfl) (by kernel_rfl) (by kernel_rfl) (EStep.le (EStep.ofN2 tbok (σ' := ⟨40, [(21, .own 4), (3, .own 3), (4, .own 4), (5, vi s5.1), (17, vb (decide (s5.1 < (x1.1.length : Int))))], [(3, oa 35 7 eClaim x1.1), (4, oa 35 7 eClaim s5.2), (1000000, .box (tc el01Source x2.2))]⟩) (by kernel_rfl)) Le.sub0) (by kernel_rfl) d1
  refine nx_n ?_
  refine swp_seq ?_
  refine swp_regJ h (fun j15 => ⟨40, [(3, .own 3), (4, .own 4), (5, vi s5.1), (6, .own 6), (37, vb j15)], [(3, oa 35 7 eClaim x1.1), (4, oa 35 7 eClaim s5.2), (6, oa 35 7 eClaim x11), (1000000, .box (tc el01Source x2.2))]⟩) (fun v16 h => ?_) (fun j15 h => ?_)
  refine SRun.ck tbok 2 ⟨40, [(3, .own 3), (4, .own 4), (5, vi s5.1), (6, .own 28), (29, .own 3), (30, vi s5.1)], [(3, oa 35 7 eClaim x1.1), (4, oa 35 7 eClaim s5.2), (28, oa 35 7 eClaim x11), (1000000, .box (tc el01Source x2.2))]⟩ ?_
  obtain ⟨x12, hx12, h⟩ := bind_some h
  refine SRun.ls (x_index_own (d := 3) (L := x1.1) (f := eClaim) (ti := ti24) (tj := ti35) (e := 35) (e' := 35) (m := 7) (k := .i64) tbok rfl hx12) ?_
  refine SRun.ls (x_load_own (d := 3) (m := 7) (j := 0) (L := x1.1) (f := eClaim) (ti := ti35) (e := 35) (v := .agg (tc eClaim x12)) tbok rfl hx12) ?_
  obtain ⟨x13, hx13, h⟩ := bind_some h
  refine SRun.ls (xc ents38 (spec_IsClaim_run x12 _ hx13)) ?_
  refine SRun.ck tbok 1 ⟨40, [(3, .own 3), (4, .own 4), (5, vi s5.1), (6, .own 28), (34, vb x13)], [(3, oa 35 7 eClaim x1.1), (4, oa 35 7 eClaim s5.2), (28, oa 35 7 eClaim x11), (1000000, .box (tc el01Source x2.2))]⟩ ?_
  refine SRun.cu [(34, fun b => b)] h (fun h => ?_) fun h => ?_
  refine SRun.ck tbok 1 ⟨40, [(3, .own 3), (4, .own 4), (5, vi s5.1), (6, .own 28), (34, vb true), (35, .own 28)], [(3, oa 35 7 eClaim x1.1), (4, oa 35 7 eClaim s5.2), (28, oa 35 7 eClaim x11), (1000000, .box (tc el01Source x2.2))]⟩ ?_
  obtain ⟨x14, hx14, h⟩ := bind_some h
  refine SRun.ls (xc ents29 (spec_l21Consistent_run x11 _ hx14)) ?_
  refine SRun.ck tbok 1 ⟨40, [(3, .own 3), (4, .own 4), (5, vi s5.1), (6, .own 28), (37, vb x14)], [(3, oa 35 7 eClaim x1.1), (4, oa 35 7 eClaim s5.2), (28, oa 35 7 eClaim x11), (1000000, .box (tc el01Source x2.2))]⟩ ?_
  refine SRun.nil ?_
  obtain rfl := inj h
  exact Le.rr [3, 4, 28, 1000000] [(28, 6)]
  refine SRun.ck tbok 3 ⟨40, [(3, .own 3), (4, .own 4), (5, vi s5.1), (6, .own 28), (37, vb false)], [(3, oa 35 7 eClaim x1.1), (4, oa 35 7 eClaim s5.2), (28, oa 35 7 eClaim x11), (1000000, .box (tc el01Source x2.2))]⟩ ?_
  refine SRun.nil ?_
  obtain rfl := inj h
  exact Le.rr [3, 4, 28, 1000000] [(28, 6)]
  refine swp_cd h (fun h => ?_) fun h => ?_
  refine swp_reg ?_
  refine SRun.ck tbok 2 ⟨40, [(3, .own 3), (4, .own 6), (5, vi s5.1)], [(3, oa 35 7 eClaim x1.1), (6, oa 35 7 eClaim x11), (1000000, .box (tc el01Source x2.2))]⟩ ?_
  refine SRun.nil ?_
  obtain rfl := inj h
  exact q_bn (q_j (Le.rr [3, 6, 1000000] [(6, 4)]))
  refine swp_skip ?_
  obtain rfl := inj h
  exact q_bn (q_j (Le.sub0))
  refine swp_reg ?_
  refine SRun.ck tbok 3 ⟨40, [(3, .own 3), (4, .own 4), (5, vi (w64 (s5.1 + 1)))], [(3, oa 35 7 eClaim x1.1), (4, oa 35 7 eClaim j7), (1000000, .box (tc el01Source x2.2))]⟩ ?_
  refine SRun.nil ?_
  obtain rfl := inj h
  exact q_l (Le.sub0)
  refine swp_exit ?_
  obtain rfl := inj h
  exact nx_e (q_re (q_bh (q_j (Le.sub0))))
  refine srk tbok ⟨40, [(2, .own 4)], [(4, oa 35 7 eClaim j3), (1000000, .box (tc el01Source x2.2))]⟩ ?_
  refine swp_ret ?_
  obtain rfl := inj h
  exact q_fr (fin_io (f1 (fo eClaim_flat)) (y := .box (tc el01Source x2.2)) (by kernel_rfl) rfl (by kernel_rfl) (by kernel_rfl))
theorem ents24 : Ents Tryz.prog 24 := ents_of Tryz.func24 (by kernel_rfl) rfl
noncomputable def spec_DrawAreConsistent (aCode : (List Int)) : Option ((List Claim)) :=
  ((spec_l01From aCode).bind fun x1 => ((spec_l01Next x1 2).bind fun x2 => (bif (x2.1 == 0) then ((spec_l21Sure x2.2).bind fun x3 => some x3.1) else ((spec_l21List x2.2).bind fun x4 => some x4.1))))
theorem spec_DrawAreConsistent_run (aCode : (List Int)) (r : (List Claim)) (h : spec_DrawAreConsistent aCode = some r) : SCall Tryz.prog 5 [.v (vl (eI .u8) aCode)] ⟨[.own 35 7 r.length (r.map eClaim)], [], false⟩ := by
  refine scall_in Tryz.func5 rfl [(.tmp 2)] rfl (fun r => ⟨[.own 35 7 r.length (r.map eClaim)], [], false⟩) (r := r) ?_
  unfold spec_DrawAreConsistent at h
  refine srk tbok ⟨13, [(0, vl (eI .u8) aCode)], []⟩ ?_
  refine sr ?_
  refine SRun.ck tbok 1 ⟨13, [(4, vl (eI .u8) aCode)], []⟩ ?_
  obtain ⟨x1, hx1, h⟩ := bind_some h
  refine SRun.ls (xc ents22 (spec_l01From_run aCode _ hx1)) ?_
  refine ckn tbok 1 ⟨13, [(3, .ref 5 0)], [(5, .box (tc el01Source x1))]⟩ ?_
  refine swp_seq ?_
  refine sr ?_
  refine SRun.ck tbok 1 ⟨13, [(3, .ref 5 0), (6, .ref 5 0)], [(5, .box (tc el01Source x1))]⟩ ?_
  obtain ⟨x2, hx2, h⟩ := bind_some h
  refine SRun.estep (xe ents23 (spec_l01Next_run x1 2 _ hx2)) ?_
  refine ckn tbok 1 ⟨13, [(3, .ref 5 0), (8, vb (x2.1 == 0))], [(5, .box (tc el01Source x2.2))]⟩ ?_
  refine swp_cd h (fun h => ?_) fun h => ?_
  refine sr ?_
  refine SRun.ck tbok 1 ⟨13, [(9, .ref 5 0)], [(5, .box (tc el01Source x2.2))]⟩ ?_
  obtain ⟨x3, hx3, h⟩ := bind_some h
  refine SRun.estep (xe ents24 (spec_l21Sure_run x2.2 _ hx3)) ?_
  refine ckn tbok 1 ⟨13, [(2, .own 10)], [(10, oa 35 7 eClaim x3.1)]⟩ ?_
  refine swp_ret ?_
  obtain rfl := inj h
  exact nx_r (q_fr (f1 (fo eClaim_flat)))
  refine swp_skip ?_
  refine nx_n ?_
  refine sr ?_
  refine SRun.ck tbok 1 ⟨13, [(11, .ref 5 0)], [(5, .box (tc el01Source x2.2))]⟩ ?_
  obtain ⟨x4, hx4, h⟩ := bind_some h
  refine SRun.estep (xe ents25 (spec_l21List_run x2.2 _ hx4)) ?_
  refine ckn tbok 1 ⟨13, [(2, .own 12)], [(12, oa 35 7 eClaim x4.1)]⟩ ?_
  refine swp_ret ?_
  obtain rfl := inj h
  exact q_fr (f1 (fo eClaim_flat))
theorem ents5 : Ents Tryz.prog 5 := ents_of Tryz.func5 (by kernel_rfl) rfl
noncomputable def impl_within (aX : Int) (aLow : Int) (aHigh : Int) : Option (Bool) :=
  some ((decide (aX ≥ aLow)) && (decide (aX ≤ aHigh)))
theorem impl_within_run (aX : Int) (aLow : Int) (aHigh : Int) (r : Bool) (h : impl_within aX aLow aHigh = some r) : SCall Tryz.prog 64 [.v (vi aX), .v (vi aLow), .v (vi aHigh)] ⟨[.v (vb r)], [], false⟩ := by
  refine scall_in Tryz.func64 rfl [(.tmp 6)] rfl (fun r => ⟨[.v (vb r)], [], false⟩) (r := r) ?_
  unfold impl_within at h
  refine srk tbok ⟨15, [(0, vi aX), (1, vi aLow), (2, vi aHigh)], []⟩ ?_
  refine swp_seq ?_
  refine swp_regP ⟨15, [(6, vb ((decide (aX ≥ aLow)) && (decide (aX ≤ aHigh))))], []⟩ ?_ ?_
  refine SRun.ck tbok 4 ⟨15, [(0, vi aX), (2, vi aHigh), (10, vb (decide (aX ≥ aLow)))], []⟩ ?_
  generalize (decide (aX ≥ aLow)) = bb
  cases bb
  refine SRun.ck tbok 5 ⟨15, [(6, vb false)], []⟩ ?_
  exact SRun.nil (Le.sub0)
  refine SRun.ck tbok 5 ⟨15, [(6, vb (decide (aX ≤ aHigh)))], []⟩ ?_
  exact SRun.nil (Le.sub0)
  refine swp_ret ?_
  obtain rfl := inj h
  exact q_fr (f1 fv)
theorem ents64 : Ents Tryz.prog 64 := ents_of Tryz.func64 (by kernel_rfl) rfl
theorem strings_Trim_run (s c r : ByteArray) (h : strings_Trim s c = some r) : SCall Tryz.prog 92 [.v (.tr (.str s)), .v (.tr (.str c))] ⟨[.v (.tr (.str r))], [], false⟩ := trim_run Tryz.lays160 (by kernel_rfl) 92 rfl s c r h
theorem ents92 : Ents Tryz.prog 92 := ents_of Tryz.func92 (by kernel_rfl) rfl
noncomputable def impl_isSmall (aS : ByteArray) (aLeast : Int) (aMost : Int) : Option (Bool) :=
  ((((impl_within (aS.size : Int) aLeast aMost).bind fun x1 => (bif x1 then ((strings_Trim aS (ByteArray.mk #[97, 98, 99, 100, 101, 102, 103, 104, 105, 106, 107, 108, 109, 110, 111, 112, 113, 114, 115, 116, 117, 118, 119, 120, 121, 122])).bind fun x2 => some (x2.toList == (ByteArray.mk #[]).toList)) else some false))).bind fun (j3 : Bool) => some j3)
theorem impl_isSmall_run (aS : ByteArray) (aLeast : Int) (aMost : Int) (r : Bool) (h : impl_isSmall aS aLeast aMost = some r) : SCall Tryz.prog 87 [.v (vs aS), .v (vi aLeast), .v (vi aMost)] ⟨[.v (vb r)], [], false⟩ := by
  refine scall_in Tryz.func87 rfl [(.tmp 6)] rfl (fun r => ⟨[.v (vb r)], [], false⟩) (r := r) ?_
  unfold impl_isSmall at h
  refine srk tbok ⟨17, [(0, vs aS), (1, vi aLeast), (2, vi aMost)], []⟩ ?_
  refine swp_seq ?_
  refine swp_regJ h (fun j3 => ⟨17, [(6, vb j3)], []⟩) (fun v4 h => ?_) (fun j3 h => ?_)
  refine SRun.ck tbok 4 ⟨17, [(0, vs aS), (8, vi (aS.size : Int)), (9, vi aLeast), (10, vi aMost)], []⟩ ?_
  obtain ⟨x1, hx1, h⟩ := bind_some h
  refine SRun.ls (xc ents64 (impl_within_run (aS.size : Int) aLeast aMost _ hx1)) ?_
  refine SRun.ck tbok 1 ⟨17, [(0, vs aS), (12, vb x1)], []⟩ ?_
  refine SRun.cu [(12, fun b => b)] h (fun h => ?_) fun h => ?_
  refine SRun.ck tbok 1 ⟨17, [(12, vb true), (13, vs aS)], []⟩ ?_
  obtain ⟨x2, hx2, h⟩ := bind_some h
  refine SRun.ls (xc ents92 (strings_Trim_run aS (ByteArray.mk #[97, 98, 99, 100, 101, 102, 103, 104, 105, 106, 107, 108, 109, 110, 111, 112, 113, 114, 115, 116, 117, 118, 119, 120, 121, 122]) _ hx2)) ?_
  refine SRun.ck tbok 3 ⟨17, [(6, vb (x2.toList == (ByteArray.mk #[]).toList))], []⟩ ?_
  refine SRun.nil ?_
  obtain rfl := inj h
  exact Le.sub0
  refine SRun.ck tbok 5 ⟨17, [(6, vb false)], []⟩ ?_
  refine SRun.nil ?_
  obtain rfl := inj h
  exact Le.sub0
  refine swp_ret ?_
  obtain rfl := inj h
  exact q_fr (f1 fv)
theorem ents87 : Ents Tryz.prog 87 := ents_of Tryz.func87 (by kernel_rfl) rfl
noncomputable def impl_IsWord (aS : ByteArray) : Option (Bool) :=
  ((impl_isSmall aS 1 16).bind fun x1 => some x1)
theorem impl_IsWord_run (aS : ByteArray) (r : Bool) (h : impl_IsWord aS = some r) : SCall Tryz.prog 79 [.v (vs aS)] ⟨[.v (vb r)], [], false⟩ := by
  refine scall_in Tryz.func79 rfl [(.tmp 2)] rfl (fun r => ⟨[.v (vb r)], [], false⟩) (r := r) ?_
  unfold impl_IsWord at h
  refine srk tbok ⟨5, [(0, vs aS)], []⟩ ?_
  refine sr ?_
  refine SRun.ck tbok 1 ⟨5, [(3, vs aS)], []⟩ ?_
  obtain ⟨x1, hx1, h⟩ := bind_some h
  refine SRun.ls (xc ents87 (impl_isSmall_run aS 1 16 _ hx1)) ?_
  refine ckn tbok 1 ⟨5, [(2, vb x1)], []⟩ ?_
  refine swp_ret ?_
  obtain rfl := inj h
  exact q_fr (f1 fv)
theorem ents79 : Ents Tryz.prog 79 := ents_of Tryz.func79 (by kernel_rfl) rfl
noncomputable def impl_areWords (aList : (List ByteArray)) : Option (Bool) :=
  (((forN (aList.length : Int) (fun (i3 : Int) (_ : Unit) => ((at' aList i3).bind fun x7 => ((impl_IsWord x7).bind fun x8 => (bif (!x8) then some (.inr (.inr false)) else some (.inl ()))))) (fun (_ : Unit) => .inl ()) 0 ())).bind (Sum.elim (fun (_ : Unit) => some true) some))
theorem impl_areWords_run (aList : (List ByteArray)) (r : Bool) (h : impl_areWords aList = some r) : SCall Tryz.prog 61 [.v (vl eS aList)] ⟨[.v (vb r)], [], false⟩ := by
  refine scall_in Tryz.func61 rfl [(.tmp 2)] rfl (fun r => ⟨[.v (vb r)], [], false⟩) (r := r) ?_
  unfold impl_areWords at h
  refine srk tbok ⟨15, [(0, vl eS aList)], []⟩ ?_
  refine swp_seq ?_
  refine srk tbok ⟨15, [(5, vl eS aList), (6, vi (aList.length : Int)), (7, vi 0)], []⟩ ?_
  refine swp_seqE (r := r) h (fun j1 => ⟨15, [], []⟩) (fun v2 h => ?_) (fun j1 h => ?_)
  refine swp_blk (a := v2) ?_
  refine swp_lpL (r := v2) (s := (0, ())) _ (fun s3 => ⟨15, [(5, vl eS aList), (6, vi (aList.length : Int)), (7, vi s3.1)], []⟩) _ (Le.sub0) h (fun s3 v4 h => ?_)
  refine srk tbok ⟨15, [(5, vl eS aList), (6, vi (aList.length : Int)), (7, vi s3.1), (8, vb (decide (s3.1 < (aList.length : Int))))], []⟩ ?_
  refine swp_seq ?_
  refine swp_cd h (fun h => ?_) fun h => ?_
  refine swp_skip ?_
  refine nx_n ?_
  refine swp_seq ?_
  refine swp_seqL (r := v4) h (fun j5 => ⟨15, [(5, vl eS aList), (6, vi (aList.length : Int)), (7, vi s3.1)], []⟩) (fun v6 h => ?_) (fun j5 h => ?_)
  refine swp_blk (a := v6) ?_
  refine sr ?_
  obtain ⟨x7, hx7, h⟩ := bind_some h
  refine SRun.ls (x_index (L := aList) (f := eS) (ti := ti60) (tj := ti9) (e := 9) (k := .i64) tbok rfl hx7) ?_
  refine ckn tbok 2 ⟨15, [(4, vs x7), (5, vl eS aList), (6, vi (aList.length : Int)), (7, vi s3.1)], []⟩ ?_
  refine sr ?_
  refine SRun.ck tbok 1 ⟨15, [(5, vl eS aList), (6, vi (aList.length : Int)), (7, vi s3.1), (11, vs x7)], []⟩ ?_
  obtain ⟨x8, hx8, h⟩ := bind_some h
  refine SRun.ls (xc ents79 (impl_IsWord_run x7 _ hx8)) ?_
  refine ckn tbok 1 ⟨15, [(5, vl eS aList), (6, vi (aList.length : Int)), (7, vi s3.1), (13, vb (!x8))], []⟩ ?_
  refine swp_cd h (fun h => ?_) fun h => ?_
  refine srk tbok ⟨15, [(2, vb false)], []⟩ ?_
  refine swp_ret ?_
  obtain rfl := inj h
  exact q_br (q_rr (q_rr (q_br (q_rr (q_fr (f1 fv))))))
  refine swp_skip ?_
  obtain rfl := inj h
  exact q_bn (q_l (Le.sub0))
  refine swp_reg ?_
  refine SRun.ck tbok 2 ⟨15, [(5, vl eS aList), (6, vi (aList.length : Int)), (7, vi (w64 (s3.1 + 1)))], []⟩ ?_
  refine SRun.nil ?_
  obtain rfl := inj h
  exact q_l (Le.sub0)
  refine swp_exit ?_
  obtain rfl := inj h
  exact nx_e (q_re (q_bh (q_l (Le.sub0))))
  refine srk tbok ⟨15, [(2, vb true)], []⟩ ?_
  refine swp_ret ?_
  obtain rfl := inj h
  exact q_fr (f1 fv)
theorem ents61 : Ents Tryz.prog 61 := ents_of Tryz.func61 (by kernel_rfl) rfl
theorem strings_Split_run (s c : ByteArray) (r : List ByteArray) (h : strings_Split s c = some r) : SCall Tryz.prog 93 [.v (.tr (.str s)), .v (.tr (.str c))] ⟨[.own 9 1 r.length (r.map eS)], [], false⟩ := split_run Tryz.lays146 (by kernel_rfl) 93 9 rfl rfl s c r h
theorem ents93 : Ents Tryz.prog 93 := ents_of Tryz.func93 (by kernel_rfl) rfl
noncomputable def impl_wordsOf (aS : ByteArray) : Option ((List ByteArray)) :=
  ((strings_Split aS (ByteArray.mk #[32])).bind fun x1 => some x1)
theorem impl_wordsOf_run (aS : ByteArray) (r : (List ByteArray)) (h : impl_wordsOf aS = some r) : SCall Tryz.prog 88 [.v (vs aS)] ⟨[.own 9 1 r.length (r.map eS)], [], false⟩ := by
  refine scall_in Tryz.func88 rfl [(.tmp 2)] rfl (fun r => ⟨[.own 9 1 r.length (r.map eS)], [], false⟩) (r := r) ?_
  unfold impl_wordsOf at h
  refine srk tbok ⟨5, [(0, vs aS)], []⟩ ?_
  refine sr ?_
  refine SRun.ck tbok 1 ⟨5, [(3, vs aS)], []⟩ ?_
  obtain ⟨x1, hx1, h⟩ := bind_some h
  refine SRun.ls (xc ents93 (strings_Split_run aS (ByteArray.mk #[32]) _ hx1)) ?_
  refine ckn tbok 1 ⟨5, [(2, .own 4)], [(4, oa 9 1 eS x1)]⟩ ?_
  refine swp_ret ?_
  obtain rfl := inj h
  exact q_fr (f1 (fo eS_flat))
theorem ents88 : Ents Tryz.prog 88 := ents_of Tryz.func88 (by kernel_rfl) rfl
noncomputable def impl_IsPhrase (aS : ByteArray) : Option (Bool) :=
  ((impl_wordsOf aS).bind fun x1 => (((bif (decide ((x1.length : Int) ≤ 8)) then ((impl_areWords x1).bind fun x2 => some x2) else some false)).bind fun (j3 : Bool) => some j3))
theorem impl_IsPhrase_run (aS : ByteArray) (r : Bool) (h : impl_IsPhrase aS = some r) : SCall Tryz.prog 80 [.v (vs aS)] ⟨[.v (vb r)], [], false⟩ := by
  refine scall_in Tryz.func80 rfl [(.tmp 2)] rfl (fun r => ⟨[.v (vb r)], [], false⟩) (r := r) ?_
  unfold impl_IsPhrase at h
  refine srk tbok ⟨13, [(0, vs aS)], []⟩ ?_
  refine sr ?_
  refine SRun.ck tbok 1 ⟨13, [(4, vs aS)], []⟩ ?_
  obtain ⟨x1, hx1, h⟩ := bind_some h
  refine SRun.ls (xc ents88 (impl_wordsOf_run aS _ hx1)) ?_
  refine ckn tbok 1 ⟨13, [(3, .own 5)], [(5, oa 9 1 eS x1)]⟩ ?_
  refine swp_seq ?_
  refine swp_regJ h (fun j3 => ⟨13, [(2, vb j3)], []⟩) (fun v4 h => ?_) (fun j3 h => ?_)
  refine SRun.ck tbok 4 ⟨13, [(3, .own 5), (9, vb (decide ((x1.length : Int) ≤ 8)))], [(5, oa 9 1 eS x1)]⟩ ?_
  refine SRun.cu [(9, fun b => b)] h (fun h => ?_) fun h => ?_
  refine SRun.ck tbok 1 ⟨13, [(9, vb true), (10, .own 5)], [(5, oa 9 1 eS x1)]⟩ ?_
  obtain ⟨x2, hx2, h⟩ := bind_some h
  refine SRun.ls (xc ents61 (impl_areWords_run x1 _ hx2)) ?_
  refine SRun.ck tbok 2 ⟨13, [(2, vb x2)], []⟩ ?_
  refine SRun.nil ?_
  obtain rfl := inj h
  exact Le.sub0
  refine SRun.ck tbok 4 ⟨13, [(2, vb false)], []⟩ ?_
  refine SRun.nil ?_
  obtain rfl := inj h
  exact Le.sub0
  refine swp_ret ?_
  obtain rfl := inj h
  exact q_fr (f1 fv)
theorem ents80 : Ents Tryz.prog 80 := ents_of Tryz.func80 (by kernel_rfl) rfl
noncomputable def impl_isClaimValue (aC : Claim) : Option (Bool) :=
  (((bif (aC.Kind == 0) then ((impl_IsPhrase aC.Value).bind fun x3 => some (.inr x3)) else (bif (aC.Kind == 1) then ((((impl_IsWord aC.Value).bind fun x4 => (bif x4 then some (!(aC.Value.toList == aC.Place.toList)) else some false))).bind fun (j5 : Bool) => some (.inr j5)) else (((bif (aC.Kind == 2) then some (aC.Kind == 2) else some (aC.Kind == 3))).bind fun (j7 : Bool) => (bif j7 then some (.inr (aC.Value.toList == (ByteArray.mk #[]).toList)) else some (.inl ())))))).bind (Sum.elim (fun (_ : Unit) => some false) some))
theorem impl_isClaimValue_run (aC : Claim) (r : Bool) (h : impl_isClaimValue aC = some r) : SCall Tryz.prog 62 [.v (.agg (tc eClaim aC))] ⟨[.v (vb r)], [], false⟩ := by
  refine scall_in Tryz.func62 rfl [(.tmp 2)] rfl (fun r => ⟨[.v (vb r)], [], false⟩) (r := r) ?_
  unfold impl_isClaimValue at h
  refine srk tbok ⟨28, [(1, .ref 1 0)], [(1, .box (tc eClaim aC))]⟩ ?_
  refine swp_seq ?_
  refine srk tbok ⟨28, [(1, .ref 1 0), (4, vi aC.Kind)], [(1, .box (tc eClaim aC))]⟩ ?_
  refine swp_seqE (r := r) h (fun j1 => ⟨28, [], []⟩) (fun v2 h => ?_) (fun j1 h => ?_)
  refine swp_blk (a := v2) ?_
  refine srk tbok ⟨28, [(1, .ref 1 0), (4, vi aC.Kind), (5, vb (aC.Kind == 0))], [(1, .box (tc eClaim aC))]⟩ ?_
  refine swp_cd h (fun h => ?_) fun h => ?_
  refine sr ?_
  refine SRun.ck tbok 2 ⟨28, [(8, vs aC.Value)], []⟩ ?_
  obtain ⟨x3, hx3, h⟩ := bind_some h
  refine SRun.ls (xc ents80 (impl_IsPhrase_run aC.Value _ hx3)) ?_
  refine ckn tbok 1 ⟨28, [(2, vb x3)], []⟩ ?_
  refine swp_ret ?_
  obtain rfl := inj h
  exact q_br (q_rr (q_fr (f1 fv)))
  refine srk tbok ⟨28, [(1, .ref 1 0), (4, vi aC.Kind), (10, vb (aC.Kind == 1))], [(1, .box (tc eClaim aC))]⟩ ?_
  refine swp_cd h (fun h => ?_) fun h => ?_
  refine swp_seq ?_
  refine swp_regJ h (fun j5 => ⟨28, [(2, vb j5)], []⟩) (fun v6 h => ?_) (fun j5 h => ?_)
  refine SRun.ck tbok 2 ⟨28, [(1, .ref 1 0), (13, vs aC.Value)], [(1, .box (tc eClaim aC))]⟩ ?_
  obtain ⟨x4, hx4, h⟩ := bind_some h
  refine SRun.ls (xc ents79 (impl_IsWord_run aC.Value _ hx4)) ?_
  refine SRun.ck tbok 1 ⟨28, [(1, .ref 1 0), (15, vb x4)], [(1, .box (tc eClaim aC))]⟩ ?_
  refine SRun.cu [(15, fun b => b)] h (fun h => ?_) fun h => ?_
  refine SRun.ck tbok 7 ⟨28, [(2, vb (!(aC.Value.toList == aC.Place.toList)))], []⟩ ?_
  refine SRun.nil ?_
  obtain rfl := inj h
  exact Le.sub0
  refine SRun.ck tbok 7 ⟨28, [(2, vb false)], []⟩ ?_
  refine SRun.nil ?_
  obtain rfl := inj h
  exact Le.sub0
  refine swp_ret ?_
  obtain rfl := inj h
  exact q_br (q_rr (q_fr (f1 fv)))
  refine swp_seq ?_
  refine srk tbok ⟨28, [(1, .ref 1 0), (4, vi aC.Kind), (22, vb (aC.Kind == 2))], [(1, .box (tc eClaim aC))]⟩ ?_
  refine swp_seqJ h (fun j7 => ⟨28, [(1, .ref 1 0), (22, vb j7)], [(1, .box (tc eClaim aC))]⟩) (fun v8 h => ?_) (fun j7 h => ?_)
  refine swp_cd h (fun h => ?_) fun h => ?_
  refine swp_skip ?_
  obtain rfl := inj h
  exact q_j (Le.sub0)
  refine swp_reg ?_
  refine SRun.ck tbok 2 ⟨28, [(1, .ref 1 0), (22, vb (aC.Kind == 3))], [(1, .box (tc eClaim aC))]⟩ ?_
  refine SRun.nil ?_
  obtain rfl := inj h
  exact q_j (Le.sub0)
  refine swp_cd h (fun h => ?_) fun h => ?_
  refine srk tbok ⟨28, [(2, vb (aC.Value.toList == (ByteArray.mk #[]).toList))], []⟩ ?_
  refine swp_ret ?_
  obtain rfl := inj h
  exact q_br (q_rr (q_fr (f1 fv)))
  refine swp_skip ?_
  obtain rfl := inj h
  exact q_bn (q_l (Le.sub0))
  refine srk tbok ⟨28, [(2, vb false)], []⟩ ?_
  refine swp_ret ?_
  obtain rfl := inj h
  exact q_fr (f1 fv)
theorem ents62 : Ents Tryz.prog 62 := ents_of Tryz.func62 (by kernel_rfl) rfl
noncomputable def impl_isYear (aYear : Int) : Option (Bool) :=
  ((impl_within aYear (-3000) 3000).bind fun x1 => some x1)
theorem impl_isYear_run (aYear : Int) (r : Bool) (h : impl_isYear aYear = some r) : SCall Tryz.prog 81 [.v (vi aYear)] ⟨[.v (vb r)], [], false⟩ := by
  refine scall_in Tryz.func81 rfl [(.tmp 2)] rfl (fun r => ⟨[.v (vb r)], [], false⟩) (r := r) ?_
  unfold impl_isYear at h
  refine srk tbok ⟨5, [(0, vi aYear)], []⟩ ?_
  refine sr ?_
  refine SRun.ck tbok 1 ⟨5, [(3, vi aYear)], []⟩ ?_
  obtain ⟨x1, hx1, h⟩ := bind_some h
  refine SRun.ls (xc ents64 (impl_within_run aYear (-3000) 3000 _ hx1)) ?_
  refine ckn tbok 1 ⟨5, [(2, vb x1)], []⟩ ?_
  refine swp_ret ?_
  obtain rfl := inj h
  exact q_fr (f1 fv)
theorem ents81 : Ents Tryz.prog 81 := ents_of Tryz.func81 (by kernel_rfl) rfl
noncomputable def impl_IsSpan (aS : Span) : Option (Bool) :=
  ((((impl_isYear aS.From).bind fun x1 => (bif x1 then ((impl_isYear aS.To).bind fun x2 => (bif x2 then some (decide (aS.From ≤ aS.To)) else some false)) else some false))).bind fun (j3 : Bool) => some j3)
theorem impl_IsSpan_run (aS : Span) (r : Bool) (h : impl_IsSpan aS = some r) : SCall Tryz.prog 63 [.v (.agg (tc eSpan aS))] ⟨[.v (vb r)], [], false⟩ := by
  refine scall_in Tryz.func63 rfl [(.tmp 2)] rfl (fun r => ⟨[.v (vb r)], [], false⟩) (r := r) ?_
  unfold impl_IsSpan at h
  refine srk tbok ⟨18, [(1, .ref 1 0)], [(1, .box (tc eSpan aS))]⟩ ?_
  refine swp_seq ?_
  refine swp_regJ h (fun j3 => ⟨18, [(2, vb j3)], []⟩) (fun v4 h => ?_) (fun j3 h => ?_)
  refine SRun.ck tbok 2 ⟨18, [(1, .ref 1 0), (4, vi aS.From)], [(1, .box (tc eSpan aS))]⟩ ?_
  obtain ⟨x1, hx1, h⟩ := bind_some h
  refine SRun.ls (xc ents81 (impl_isYear_run aS.From _ hx1)) ?_
  refine SRun.ck tbok 1 ⟨18, [(1, .ref 1 0), (6, vb x1)], [(1, .box (tc eSpan aS))]⟩ ?_
  refine SRun.cu [(6, fun b => b)] h (fun h => ?_) fun h => ?_
  refine SRun.ck tbok 2 ⟨18, [(1, .ref 1 0), (6, vb true), (8, vi aS.To)], [(1, .box (tc eSpan aS))]⟩ ?_
  obtain ⟨x2, hx2, h⟩ := bind_some h
  refine SRun.ls (xc ents81 (impl_isYear_run aS.To _ hx2)) ?_
  refine SRun.ck tbok 2 ⟨18, [(1, .ref 1 0), (11, vb x2)], [(1, .box (tc eSpan aS))]⟩ ?_
  refine SRun.cu [(11, fun b => b)] h (fun h => ?_) fun h => ?_
  refine SRun.ck tbok 7 ⟨18, [(2, vb (decide (aS.From ≤ aS.To)))], []⟩ ?_
  refine SRun.nil ?_
  obtain rfl := inj h
  exact Le.sub0
  refine SRun.ck tbok 7 ⟨18, [(2, vb false)], []⟩ ?_
  refine SRun.nil ?_
  obtain rfl := inj h
  exact Le.sub0
  refine SRun.ck tbok 12 ⟨18, [(2, vb false)], []⟩ ?_
  refine SRun.nil ?_
  obtain rfl := inj h
  exact Le.sub0
  refine swp_ret ?_
  obtain rfl := inj h
  exact q_fr (f1 fv)
theorem ents63 : Ents Tryz.prog 63 := ents_of Tryz.func63 (by kernel_rfl) rfl
noncomputable def impl_IsClaim (aC : Claim) : Option (Bool) :=
  ((((impl_areWords ([aC.Source, aC.Place] : List ByteArray)).bind fun x1 => (bif x1 then ((impl_isClaimValue aC).bind fun x2 => (bif x2 then ((impl_IsSpan aC.Years).bind fun x3 => (bif x3 then ((impl_within aC.Weight 1 100).bind fun x4 => some x4) else some false)) else some false)) else some false))).bind fun (j5 : Bool) => some j5)
theorem impl_IsClaim_run (aC : Claim) (r : Bool) (h : impl_IsClaim aC = some r) : SCall Tryz.prog 36 [.v (.agg (tc eClaim aC))] ⟨[.v (vb r)], [], false⟩ := by
  refine scall_in Tryz.func36 rfl [(.tmp 2)] rfl (fun r => ⟨[.v (vb r)], [], false⟩) (r := r) ?_
  unfold impl_IsClaim at h
  refine srk tbok ⟨23, [(1, .ref 1 0)], [(1, .box (tc eClaim aC))]⟩ ?_
  refine swp_seq ?_
  refine swp_regJ h (fun j5 => ⟨23, [(2, vb j5)], []⟩) (fun v6 h => ?_) (fun j5 h => ?_)
  refine SRun.ck tbok 5 ⟨23, [(1, .ref 1 0), (7, .own 7)], [(1, .box (tc eClaim aC)), (7, oa 9 1 eS ([aC.Source, aC.Place] : List ByteArray))]⟩ ?_
  obtain ⟨x1, hx1, h⟩ := bind_some h
  refine SRun.ls (xc ents61 (impl_areWords_run ([aC.Source, aC.Place] : List ByteArray) _ hx1)) ?_
  refine SRun.ck tbok 1 ⟨23, [(1, .ref 1 0), (9, vb x1)], [(1, .box (tc eClaim aC))]⟩ ?_
  refine SRun.cu [(9, fun b => b)] h (fun h => ?_) fun h => ?_
  refine SRun.ck tbok 1 ⟨23, [(1, .ref 1 0), (9, vb true), (10, .agg (tc eClaim aC))], [(1, .box (tc eClaim aC))]⟩ ?_
  obtain ⟨x2, hx2, h⟩ := bind_some h
  refine SRun.ls (xc ents62 (impl_isClaimValue_run aC _ hx2)) ?_
  refine SRun.ck tbok 2 ⟨23, [(1, .ref 1 0), (13, vb x2)], [(1, .box (tc eClaim aC))]⟩ ?_
  refine SRun.cu [(13, fun b => b)] h (fun h => ?_) fun h => ?_
  refine SRun.ck tbok 2 ⟨23, [(1, .ref 1 0), (13, vb true), (15, .agg (tc eSpan aC.Years))], [(1, .box (tc eClaim aC))]⟩ ?_
  obtain ⟨x3, hx3, h⟩ := bind_some h
  refine SRun.ls (xc ents63 (impl_IsSpan_run aC.Years _ hx3)) ?_
  refine SRun.ck tbok 2 ⟨23, [(1, .ref 1 0), (18, vb x3)], [(1, .box (tc eClaim aC))]⟩ ?_
  refine SRun.cu [(18, fun b => b)] h (fun h => ?_) fun h => ?_
  refine SRun.ck tbok 2 ⟨23, [(18, vb true), (20, vi aC.Weight)], []⟩ ?_
  obtain ⟨x4, hx4, h⟩ := bind_some h
  refine SRun.ls (xc ents64 (impl_within_run aC.Weight 1 100 _ hx4)) ?_
  refine SRun.ck tbok 2 ⟨23, [(2, vb x4)], []⟩ ?_
  refine SRun.nil ?_
  obtain rfl := inj h
  exact Le.sub0
  refine SRun.ck tbok 5 ⟨23, [(2, vb false)], []⟩ ?_
  refine SRun.nil ?_
  obtain rfl := inj h
  exact Le.sub0
  refine SRun.ck tbok 10 ⟨23, [(2, vb false)], []⟩ ?_
  refine SRun.nil ?_
  obtain rfl := inj h
  exact Le.sub0
  refine SRun.ck tbok 14 ⟨23, [(2, vb false)], []⟩ ?_
  refine SRun.nil ?_
  obtain rfl := inj h
  exact Le.sub0
  refine swp_ret ?_
  obtain rfl := inj h
  exact q_fr (f1 fv)
theorem ents36 : Ents Tryz.prog 36 := ents_of Tryz.func36 (by kernel_rfl) rfl
noncomputable def impl_AreClaims_1 (aC : Claim) : Option (Bool) :=
  ((impl_IsClaim aC).bind fun x1 => some (!x1))
theorem impl_AreClaims_1_run (aC : Claim) (r : Bool) (h : impl_AreClaims_1 aC = some r) : SCall Tryz.prog 50 [.v (.agg (tc eClaim aC))] ⟨[.v (vb r)], [], false⟩ := by
  refine scall_in Tryz.func50 rfl [(.tmp 2)] rfl (fun r => ⟨[.v (vb r)], [], false⟩) (r := r) ?_
  unfold impl_AreClaims_1 at h
  refine srk tbok ⟨6, [(1, .ref 1 0)], [(1, .box (tc eClaim aC))]⟩ ?_
  refine sr ?_
  refine SRun.ck tbok 1 ⟨6, [(3, .agg (tc eClaim aC))], []⟩ ?_
  obtain ⟨x1, hx1, h⟩ := bind_some h
  refine SRun.ls (xc ents36 (impl_IsClaim_run aC _ hx1)) ?_
  refine ckn tbok 2 ⟨6, [(2, vb (!x1))], []⟩ ?_
  refine swp_ret ?_
  obtain rfl := inj h
  exact q_fr (f1 fv)
theorem ents50 : Ents Tryz.prog 50 := ents_of Tryz.func50 (by kernel_rfl) rfl
noncomputable def slices_IndexFunc_Claim_impl_AreClaims_1 (aS : (List Claim)) : Option (Int) :=
  (((forN (aS.length : Int) (fun (i3 : Int) (_ : Unit) => ((at' aS i3).bind fun x7 => ((impl_AreClaims_1 x7).bind fun x8 => (bif x8 then some (.inr (.inr i3)) else some (.inl ()))))) (fun (_ : Unit) => .inl ()) 0 ())).bind (Sum.elim (fun (_ : Unit) => some (-1)) some))
theorem slices_IndexFunc_Claim_impl_AreClaims_1_run (aS : (List Claim)) (r : Int) (h : slices_IndexFunc_Claim_impl_AreClaims_1 aS = some r) : SCall Tryz.prog 74 [.v (vl eClaim aS), .v (.clo 50 [])] ⟨[.v (vi r)], [], false⟩ := by
  refine scall_in Tryz.func74 rfl [(.tmp 4)] rfl (fun r => ⟨[.v (vi r)], [], false⟩) (r := r) ?_
  unfold slices_IndexFunc_Claim_impl_AreClaims_1 at h
  refine srk tbok ⟨19, [(0, vl eClaim aS), (1, .clo 50 [])], []⟩ ?_
  refine swp_seq ?_
  refine srk tbok ⟨19, [(0, vl eClaim aS), (1, .clo 50 []), (7, vi (aS.length : Int)), (8, vi 0)], []⟩ ?_
  refine swp_seqE (r := r) h (fun j1 => ⟨19, [], []⟩) (fun v2 h => ?_) (fun j1 h => ?_)
  refine swp_blk (a := v2) ?_
  refine swp_lpL (r := v2) (s := (0, ())) _ (fun s3 => ⟨19, [(0, vl eClaim aS), (1, .clo 50 []), (7, vi (aS.length : Int)), (8, vi s3.1)], []⟩) _ (Le.sub0) h (fun s3 v4 h => ?_)
  refine srk tbok ⟨19, [(0, vl eClaim aS), (1, .clo 50 []), (7, vi (aS.length : Int)), (8, vi s3.1), (9, vb (decide (s3.1 < (aS.length : Int))))], []⟩ ?_
  refine swp_seq ?_
  refine swp_cd h (fun h => ?_) fun h => ?_
  refine swp_skip ?_
  refine nx_n ?_
  refine swp_seq ?_
  refine swp_seqL (r := v4) h (fun j5 => ⟨19, [(0, vl eClaim aS), (1, .clo 50 []), (7, vi (aS.length : Int)), (8, vi s3.1)], []⟩) (fun v6 h => ?_) (fun j5 h => ?_)
  refine swp_blk (a := v6) ?_
  refine srk tbok ⟨19, [(0, vl eClaim aS), (1, .clo 50 []), (5, vi s3.1), (7, vi (aS.length : Int)), (8, vi s3.1)], []⟩ ?_
  refine sr ?_
  refine SRun.ck tbok 3 ⟨19, [(0, vl eClaim aS), (1, .clo 50 []), (5, vi s3.1), (7, vi (aS.length : Int)), (8, vi s3.1), (11, .clo 50 []), (12, vl eClaim aS), (13, vi s3.1)], []⟩ ?_
  obtain ⟨x7, hx7, h⟩ := bind_some h
  refine SRun.ls (x_index (L := aS) (f := eClaim) (ti := ti24) (tj := ti35) (e := 35) (k := .i64) tbok rfl hx7) ?_
  refine SRun.ck tbok 1 ⟨19, [(0, vl eClaim aS), (1, .clo 50 []), (5, vi s3.1), (7, vi (aS.length : Int)), (8, vi s3.1), (11, .clo 50 []), (15, .agg (tc eClaim x7))], []⟩ ?_
  obtain ⟨x8, hx8, h⟩ := bind_some h
  refine SRun.ls (xc ents50 (impl_AreClaims_1_run x7 _ hx8)) ?_
  refine SRun.nx ?_
  refine swp_cd h (fun h => ?_) fun h => ?_
  refine srk tbok ⟨19, [(4, vi s3.1)], []⟩ ?_
  refine swp_ret ?_
  obtain rfl := inj h
  exact q_br (q_rr (q_rr (q_br (q_rr (q_fr (f1 fv))))))
  refine swp_skip ?_
  obtain rfl := inj h
  exact q_bn (q_l (Le.sub0))
  refine swp_reg ?_
  refine SRun.ck tbok 2 ⟨19, [(0, vl eClaim aS), (1, .clo 50 []), (7, vi (aS.length : Int)), (8, vi (w64 (s3.1 + 1)))], []⟩ ?_
  refine SRun.nil ?_
  obtain rfl := inj h
  exact q_l (Le.sub0)
  refine swp_exit ?_
  obtain rfl := inj h
  exact nx_e (q_re (q_bh (q_l (Le.sub0))))
  refine srk tbok ⟨19, [(4, vi (-1))], []⟩ ?_
  refine swp_ret ?_
  obtain rfl := inj h
  exact q_fr (f1 fv)
theorem ents74 : Ents Tryz.prog 74 := ents_of Tryz.func74 (by kernel_rfl) rfl
noncomputable def slices_ContainsFunc_Claim_impl_AreClaims_1 (aS : (List Claim)) : Option (Bool) :=
  ((slices_IndexFunc_Claim_impl_AreClaims_1 aS).bind fun x1 => some (decide (x1 ≥ 0)))
theorem slices_ContainsFunc_Claim_impl_AreClaims_1_run (aS : (List Claim)) (r : Bool) (h : slices_ContainsFunc_Claim_impl_AreClaims_1 aS = some r) : SCall Tryz.prog 49 [.v (vl eClaim aS), .v (.clo 50 [])] ⟨[.v (vb r)], [], false⟩ := by
  refine scall_in Tryz.func49 rfl [(.tmp 4)] rfl (fun r => ⟨[.v (vb r)], [], false⟩) (r := r) ?_
  unfold slices_ContainsFunc_Claim_impl_AreClaims_1 at h
  refine srk tbok ⟨9, [(0, vl eClaim aS), (1, .clo 50 [])], []⟩ ?_
  refine sr ?_
  refine SRun.ck tbok 2 ⟨9, [(5, vl eClaim aS), (6, .clo 50 [])], []⟩ ?_
  obtain ⟨x1, hx1, h⟩ := bind_some h
  refine SRun.ls (xc ents74 (slices_IndexFunc_Claim_impl_AreClaims_1_run aS _ hx1)) ?_
  refine ckn tbok 2 ⟨9, [(4, vb (decide (x1 ≥ 0)))], []⟩ ?_
  refine swp_ret ?_
  obtain rfl := inj h
  exact q_fr (f1 fv)
theorem ents49 : Ents Tryz.prog 49 := ents_of Tryz.func49 (by kernel_rfl) rfl
noncomputable def impl_AreClaims (aList : (List Claim)) : Option (Bool) :=
  (((bif (decide ((aList.length : Int) ≤ 12)) then ((slices_ContainsFunc_Claim_impl_AreClaims_1 aList).bind fun x1 => some (!x1)) else some false)).bind fun (j2 : Bool) => some j2)
theorem impl_AreClaims_run (aList : (List Claim)) (r : Bool) (h : impl_AreClaims aList = some r) : SCall Tryz.prog 26 [.v (vl eClaim aList)] ⟨[.v (vb r)], [], false⟩ := by
  refine scall_in Tryz.func26 rfl [(.tmp 2)] rfl (fun r => ⟨[.v (vb r)], [], false⟩) (r := r) ?_
  unfold impl_AreClaims at h
  refine srk tbok ⟨11, [(0, vl eClaim aList)], []⟩ ?_
  refine swp_seq ?_
  refine swp_regJ h (fun j2 => ⟨11, [(2, vb j2)], []⟩) (fun v3 h => ?_) (fun j2 h => ?_)
  refine SRun.ck tbok 4 ⟨11, [(0, vl eClaim aList), (6, vb (decide ((aList.length : Int) ≤ 12)))], []⟩ ?_
  refine SRun.cu [(6, fun b => b)] h (fun h => ?_) fun h => ?_
  refine SRun.ck tbok 1 ⟨11, [(6, vb true), (7, vl eClaim aList)], []⟩ ?_
  obtain ⟨x1, hx1, h⟩ := bind_some h
  refine SRun.ls (xc ents49 (slices_ContainsFunc_Claim_impl_AreClaims_1_run aList _ hx1)) ?_
  refine SRun.ck tbok 3 ⟨11, [(2, vb (!x1))], []⟩ ?_
  refine SRun.nil ?_
  obtain rfl := inj h
  exact Le.sub0
  refine SRun.ck tbok 5 ⟨11, [(2, vb false)], []⟩ ?_
  refine SRun.nil ?_
  obtain rfl := inj h
  exact Le.sub0
  refine swp_ret ?_
  obtain rfl := inj h
  exact q_fr (f1 fv)
theorem ents26 : Ents Tryz.prog 26 := ents_of Tryz.func26 (by kernel_rfl) rfl
noncomputable def impl_Span_meets (aS : Span) (aT : Span) : Option (Bool) :=
  some ((decide (aS.From ≤ aT.To)) && (decide (aT.From ≤ aS.To)))
theorem impl_Span_meets_run (aS : Span) (aT : Span) (r : Bool) (h : impl_Span_meets aS aT = some r) : SCall Tryz.prog 72 [.v (.agg (tc eSpan aS)), .v (.agg (tc eSpan aT))] ⟨[.v (vb r)], [], false⟩ := by
  refine scall_in Tryz.func72 rfl [(.tmp 4)] rfl (fun r => ⟨[.v (vb r)], [], false⟩) (r := r) ?_
  unfold impl_Span_meets at h
  refine srk tbok ⟨17, [(2, .ref 2 0), (3, .ref 3 0)], [(2, .box (tc eSpan aS)), (3, .box (tc eSpan aT))]⟩ ?_
  refine swp_seq ?_
  refine swp_regP ⟨17, [(4, vb ((decide (aS.From ≤ aT.To)) && (decide (aT.From ≤ aS.To))))], []⟩ ?_ ?_
  refine SRun.ck tbok 6 ⟨17, [(2, .ref 2 0), (3, .ref 3 0), (10, vb (decide (aS.From ≤ aT.To)))], [(2, .box (tc eSpan aS)), (3, .box (tc eSpan aT))]⟩ ?_
  generalize (decide (aS.From ≤ aT.To)) = bb
  cases bb
  refine SRun.ck tbok 7 ⟨17, [(4, vb false)], []⟩ ?_
  exact SRun.nil (Le.sub0)
  refine SRun.ck tbok 7 ⟨17, [(4, vb (decide (aT.From ≤ aS.To)))], []⟩ ?_
  exact SRun.nil (Le.sub0)
  refine swp_ret ?_
  obtain rfl := inj h
  exact q_fr (f1 fv)
theorem ents72 : Ents Tryz.prog 72 := ents_of Tryz.func72 (by kernel_rfl) rfl
noncomputable def impl_Claim_isWithout (aC : Claim) (aD : Claim) : Option (Bool) :=
  some ((aC.Kind == 1) && ((aD.Kind == 3) && (aD.Place.toList == aC.Value.toList)))
theorem impl_Claim_isWithout_run (aC : Claim) (aD : Claim) (r : Bool) (h : impl_Claim_isWithout aC aD = some r) : SCall Tryz.prog 73 [.v (.agg (tc eClaim aC)), .v (.agg (tc eClaim aD))] ⟨[.v (vb r)], [], false⟩ := by
  refine scall_in Tryz.func73 rfl [(.tmp 4)] rfl (fun r => ⟨[.v (vb r)], [], false⟩) (r := r) ?_
  unfold impl_Claim_isWithout at h
  refine srk tbok ⟨20, [(2, .ref 2 0), (3, .ref 3 0)], [(2, .box (tc eClaim aC)), (3, .box (tc eClaim aD))]⟩ ?_
  refine swp_seq ?_
  refine swp_regP ⟨20, [(4, vb ((aC.Kind == 1) && ((aD.Kind == 3) && (aD.Place.toList == aC.Value.toList))))], []⟩ ?_ ?_
  refine SRun.ck tbok 4 ⟨20, [(2, .ref 2 0), (3, .ref 3 0), (8, vb (aC.Kind == 1))], [(2, .box (tc eClaim aC)), (3, .box (tc eClaim aD))]⟩ ?_
  generalize (aC.Kind == 1) = bb
  cases bb
  refine SRun.ck tbok 12 ⟨20, [(4, vb false)], []⟩ ?_
  exact SRun.nil (Le.sub0)
  refine SRun.ck tbok 5 ⟨20, [(2, .ref 2 0), (3, .ref 3 0), (13, vb (aD.Kind == 3))], [(2, .box (tc eClaim aC)), (3, .box (tc eClaim aD))]⟩ ?_
  generalize (aD.Kind == 3) = bb
  cases bb
  refine SRun.ck tbok 7 ⟨20, [(4, vb false)], []⟩ ?_
  exact SRun.nil (Le.sub0)
  refine SRun.ck tbok 7 ⟨20, [(4, vb (aD.Place.toList == aC.Value.toList))], []⟩ ?_
  exact SRun.nil (Le.sub0)
  refine swp_ret ?_
  obtain rfl := inj h
  exact q_fr (f1 fv)
theorem ents73 : Ents Tryz.prog 73 := ents_of Tryz.func73 (by kernel_rfl) rfl
noncomputable def impl_Claim_contradicts (aC : Claim) (aD : Claim) : Option (Bool) :=
  ((impl_Span_meets aC.Years aD.Years).bind fun x1 => (bif (!x1) then some false else ((((impl_Claim_isWithout aC aD).bind fun x2 => (bif x2 then some true else ((impl_Claim_isWithout aD aC).bind fun x3 => some x3)))).bind fun (j4 : Bool) => (bif j4 then some true else (bif (!(aC.Place.toList == aD.Place.toList)) then some false else (bif (!((aC.Kind == 3) == (aD.Kind == 3))) then some true else some ((aC.Kind == aD.Kind) && (cond (aC.Kind == 0) (!(aC.Value.toList == aD.Value.toList)) ((aC.Kind == 1) && (!(aC.Value.toList == aD.Value.toList)))))))))))
theorem impl_Claim_contradicts_run (aC : Claim) (aD : Claim) (r : Bool) (h : impl_Claim_contradicts aC aD = some r) : SCall Tryz.prog 47 [.v (.agg (tc eClaim aC)), .v (.agg (tc eClaim aD))] ⟨[.v (vb r)], [], false⟩ := by
  refine scall_in Tryz.func47 rfl [(.tmp 4)] rfl (fun r => ⟨[.v (vb r)], [], false⟩) (r := r) ?_
  unfold impl_Claim_contradicts at h
  refine srk tbok ⟨53, [(2, .ref 2 0), (3, .ref 3 0)], [(2, .box (tc eClaim aC)), (3, .box (tc eClaim aD))]⟩ ?_
  refine swp_seq ?_
  refine sr ?_
  refine SRun.ck tbok 4 ⟨53, [(2, .ref 2 0), (3, .ref 3 0), (6, .agg (tc eSpan aC.Years)), (8, .agg (tc eSpan aD.Years))], [(2, .box (tc eClaim aC)), (3, .box (tc eClaim aD))]⟩ ?_
  obtain ⟨x1, hx1, h⟩ := bind_some h
  refine SRun.ls (xc ents72 (impl_Span_meets_run aC.Years aD.Years _ hx1)) ?_
  refine ckn tbok 1 ⟨53, [(2, .ref 2 0), (3, .ref 3 0), (10, vb (!x1))], [(2, .box (tc eClaim aC)), (3, .box (tc eClaim aD))]⟩ ?_
  refine swp_cd h (fun h => ?_) fun h => ?_
  refine srk tbok ⟨53, [(4, vb false)], []⟩ ?_
  refine swp_ret ?_
  obtain rfl := inj h
  exact nx_r (q_fr (f1 fv))
  refine swp_skip ?_
  refine nx_n ?_
  refine swp_seq ?_
  refine swp_seq ?_
  refine swp_regJ h (fun j4 => ⟨53, [(2, .ref 2 0), (3, .ref 3 0), (18, vb j4)], [(2, .box (tc eClaim aC)), (3, .box (tc eClaim aD))]⟩) (fun v5 h => ?_) (fun j4 h => ?_)
  refine SRun.ck tbok 2 ⟨53, [(2, .ref 2 0), (3, .ref 3 0), (11, .agg (tc eClaim aC)), (12, .agg (tc eClaim aD))], [(2, .box (tc eClaim aC)), (3, .box (tc eClaim aD))]⟩ ?_
  obtain ⟨x2, hx2, h⟩ := bind_some h
  refine SRun.ls (xc ents73 (impl_Claim_isWithout_run aC aD _ hx2)) ?_
  refine SRun.ck tbok 1 ⟨53, [(2, .ref 2 0), (3, .ref 3 0), (14, vb x2)], [(2, .box (tc eClaim aC)), (3, .box (tc eClaim aD))]⟩ ?_
  refine SRun.cu [(14, fun b => b)] h (fun h => ?_) fun h => ?_
  refine SRun.ck tbok 4 ⟨53, [(2, .ref 2 0), (3, .ref 3 0), (18, vb true)], [(2, .box (tc eClaim aC)), (3, .box (tc eClaim aD))]⟩ ?_
  refine SRun.nil ?_
  obtain rfl := inj h
  exact Le.sub0
  refine SRun.ck tbok 2 ⟨53, [(2, .ref 2 0), (3, .ref 3 0), (14, vb false), (15, .agg (tc eClaim aD)), (16, .agg (tc eClaim aC))], [(2, .box (tc eClaim aC)), (3, .box (tc eClaim aD))]⟩ ?_
  obtain ⟨x3, hx3, h⟩ := bind_some h
  refine SRun.ls (xc ents73 (impl_Claim_isWithout_run aD aC _ hx3)) ?_
  refine SRun.ck tbok 1 ⟨53, [(2, .ref 2 0), (3, .ref 3 0), (18, vb x3)], [(2, .box (tc eClaim aC)), (3, .box (tc eClaim aD))]⟩ ?_
  refine SRun.nil ?_
  obtain rfl := inj h
  exact Le.sub0
  refine swp_cd h (fun h => ?_) fun h => ?_
  refine srk tbok ⟨53, [(4, vb true)], []⟩ ?_
  refine swp_ret ?_
  obtain rfl := inj h
  exact nx_r (q_fr (f1 fv))
  refine swp_skip ?_
  refine nx_n ?_
  refine swp_seq ?_
  refine srk tbok ⟨53, [(2, .ref 2 0), (3, .ref 3 0), (23, vb (!(aC.Place.toList == aD.Place.toList)))], [(2, .box (tc eClaim aC)), (3, .box (tc eClaim aD))]⟩ ?_
  refine swp_cd h (fun h => ?_) fun h => ?_
  refine srk tbok ⟨53, [(4, vb false)], []⟩ ?_
  refine swp_ret ?_
  obtain rfl := inj h
  exact nx_r (q_fr (f1 fv))
  refine swp_skip ?_
  refine nx_n ?_
  refine swp_seq ?_
  refine sr ?_
  refine SRun.ck tbok 6 ⟨53, [(2, .ref 2 0), (3, .ref 3 0), (26, vb (aC.Kind == 3)), (29, vb (aD.Kind == 3))], [(2, .box (tc eClaim aC)), (3, .box (tc eClaim aD))]⟩ ?_
  refine SRun.ls (x_lstep_eqb tbok (ti := ti4) (i := (aC.Kind == 3)) (j := (aD.Kind == 3)) true rfl) ?_
  refine SRun.nx ?_
  refine swp_cd h (fun h => ?_) fun h => ?_
  refine srk tbok ⟨53, [(4, vb true)], []⟩ ?_
  refine swp_ret ?_
  obtain rfl := inj h
  exact nx_r (q_fr (f1 fv))
  refine swp_skip ?_
  refine nx_n ?_
  refine swp_seq ?_
  refine swp_regP ⟨53, [(4, vb ((aC.Kind == aD.Kind) && (cond (aC.Kind == 0) (!(aC.Value.toList == aD.Value.toList)) ((aC.Kind == 1) && (!(aC.Value.toList == aD.Value.toList))))))], []⟩ ?_ ?_
  refine SRun.ck tbok 6 ⟨53, [(2, .ref 2 0), (3, .ref 3 0), (36, vb (aC.Kind == aD.Kind))], [(2, .box (tc eClaim aC)), (3, .box (tc eClaim aD))]⟩ ?_
  generalize (aC.Kind == aD.Kind) = bb
  cases bb
  refine SRun.ck tbok 17 ⟨53, [(4, vb false)], []⟩ ?_
  exact SRun.nil (Le.sub0)
  refine SRun.ck tbok 4 ⟨53, [(2, .ref 2 0), (3, .ref 3 0), (36, vb true), (40, vb (aC.Kind == 0))], [(2, .box (tc eClaim aC)), (3, .box (tc eClaim aD))]⟩ ?_
  generalize (aC.Kind == 0) = bb
  cases bb
  refine SRun.ck tbok 6 ⟨53, [(2, .ref 2 0), (3, .ref 3 0), (46, vb (aC.Kind == 1))], [(2, .box (tc eClaim aC)), (3, .box (tc eClaim aD))]⟩ ?_
  generalize (aC.Kind == 1) = bb
  cases bb
  refine SRun.ck tbok 7 ⟨53, [(4, vb false)], []⟩ ?_
  exact SRun.nil (Le.sub0)
  refine SRun.ck tbok 7 ⟨53, [(4, vb (!(aC.Value.toList == aD.Value.toList)))], []⟩ ?_
  exact SRun.nil (Le.sub0)
  refine SRun.ck tbok 13 ⟨53, [(4, vb (!(aC.Value.toList == aD.Value.toList)))], []⟩ ?_
  exact SRun.nil (Le.sub0)
  refine swp_ret ?_
  obtain rfl := inj h
  exact q_fr (f1 fv)
theorem ents47 : Ents Tryz.prog 47 := ents_of Tryz.func47 (by kernel_rfl) rfl
noncomputable def slices_IndexFunc_Claim_impl_Claim_contradicts (aS : (List Claim)) (aF0 : Claim) : Option (Int) :=
  (((forN (aS.length : Int) (fun (i3 : Int) (_ : Unit) => ((at' aS i3).bind fun x7 => ((impl_Claim_contradicts aF0 x7).bind fun x8 => (bif x8 then some (.inr (.inr i3)) else some (.inl ()))))) (fun (_ : Unit) => .inl ()) 0 ())).bind (Sum.elim (fun (_ : Unit) => some (-1)) some))
theorem slices_IndexFunc_Claim_impl_Claim_contradicts_run (aS : (List Claim)) (aF0 : Claim) (r : Int) (h : slices_IndexFunc_Claim_impl_Claim_contradicts aS aF0 = some r) : SCall Tryz.prog 74 [.v (vl eClaim aS), .v (.mth 47 [.agg (tc eClaim aF0)])] ⟨[.v (vi r)], [], false⟩ := by
  refine scall_in Tryz.func74 rfl [(.tmp 4)] rfl (fun r => ⟨[.v (vi r)], [], false⟩) (r := r) ?_
  unfold slices_IndexFunc_Claim_impl_Claim_contradicts at h
  refine srk tbok ⟨19, [(0, vl eClaim aS), (1, .mth 47 [.agg (tc eClaim aF0)])], []⟩ ?_
  refine swp_seq ?_
  refine srk tbok ⟨19, [(0, vl eClaim aS), (1, .mth 47 [.agg (tc eClaim aF0)]), (7, vi (aS.length : Int)), (8, vi 0)], []⟩ ?_
  refine swp_seqE (r := r) h (fun j1 => ⟨19, [], []⟩) (fun v2 h => ?_) (fun j1 h => ?_)
  refine swp_blk (a := v2) ?_
  refine swp_lpL (r := v2) (s := (0, ())) _ (fun s3 => ⟨19, [(0, vl eClaim aS), (1, .mth 47 [.agg (tc eClaim aF0)]), (7, vi (aS.length : Int)), (8, vi s3.1)], []⟩) _ (Le.sub0) h (fun s3 v4 h => ?_)
  refine srk tbok ⟨19, [(0, vl eClaim aS), (1, .mth 47 [.agg (tc eClaim aF0)]), (7, vi (aS.length : Int)), (8, vi s3.1), (9, vb (decide (s3.1 < (aS.length : Int))))], []⟩ ?_
  refine swp_seq ?_
  refine swp_cd h (fun h => ?_) fun h => ?_
  refine swp_skip ?_
  refine nx_n ?_
  refine swp_seq ?_
  refine swp_seqL (r := v4) h (fun j5 => ⟨19, [(0, vl eClaim aS), (1, .mth 47 [.agg (tc eClaim aF0)]), (7, vi (aS.length : Int)), (8, vi s3.1)], []⟩) (fun v6 h => ?_) (fun j5 h => ?_)
  refine swp_blk (a := v6) ?_
  refine srk tbok ⟨19, [(0, vl eClaim aS), (1, .mth 47 [.agg (tc eClaim aF0)]), (5, vi s3.1), (7, vi (aS.length : Int)), (8, vi s3.1)], []⟩ ?_
  refine sr ?_
  refine SRun.ck tbok 3 ⟨19, [(0, vl eClaim aS), (1, .mth 47 [.agg (tc eClaim aF0)]), (5, vi s3.1), (7, vi (aS.length : Int)), (8, vi s3.1), (11, .mth 47 [.agg (tc eClaim aF0)]), (12, vl eClaim aS), (13, vi s3.1)], []⟩ ?_
  obtain ⟨x7, hx7, h⟩ := bind_some h
  refine SRun.ls (x_index (L := aS) (f := eClaim) (ti := ti24) (tj := ti35) (e := 35) (k := .i64) tbok rfl hx7) ?_
  refine SRun.ck tbok 1 ⟨19, [(0, vl eClaim aS), (1, .mth 47 [.agg (tc eClaim aF0)]), (5, vi s3.1), (7, vi (aS.length : Int)), (8, vi s3.1), (11, .mth 47 [.agg (tc eClaim aF0)]), (15, .agg (tc eClaim x7))], []⟩ ?_
  obtain ⟨x8, hx8, h⟩ := bind_some h
  refine SRun.ls (xc ents47 (impl_Claim_contradicts_run aF0 x7 _ hx8)) ?_
  refine SRun.nx ?_
  refine swp_cd h (fun h => ?_) fun h => ?_
  refine srk tbok ⟨19, [(4, vi s3.1)], []⟩ ?_
  refine swp_ret ?_
  obtain rfl := inj h
  exact q_br (q_rr (q_rr (q_br (q_rr (q_fr (f1 fv))))))
  refine swp_skip ?_
  obtain rfl := inj h
  exact q_bn (q_l (Le.sub0))
  refine swp_reg ?_
  refine SRun.ck tbok 2 ⟨19, [(0, vl eClaim aS), (1, .mth 47 [.agg (tc eClaim aF0)]), (7, vi (aS.length : Int)), (8, vi (w64 (s3.1 + 1)))], []⟩ ?_
  refine SRun.nil ?_
  obtain rfl := inj h
  exact q_l (Le.sub0)
  refine swp_exit ?_
  obtain rfl := inj h
  exact nx_e (q_re (q_bh (q_l (Le.sub0))))
  refine srk tbok ⟨19, [(4, vi (-1))], []⟩ ?_
  refine swp_ret ?_
  obtain rfl := inj h
  exact q_fr (f1 fv)
noncomputable def slices_ContainsFunc_Claim_impl_Claim_contradicts (aS : (List Claim)) (aF0 : Claim) : Option (Bool) :=
  ((slices_IndexFunc_Claim_impl_Claim_contradicts aS aF0).bind fun x1 => some (decide (x1 ≥ 0)))
theorem slices_ContainsFunc_Claim_impl_Claim_contradicts_run (aS : (List Claim)) (aF0 : Claim) (r : Bool) (h : slices_ContainsFunc_Claim_impl_Claim_contradicts aS aF0 = some r) : SCall Tryz.prog 49 [.v (vl eClaim aS), .v (.mth 47 [.agg (tc eClaim aF0)])] ⟨[.v (vb r)], [], false⟩ := by
  refine scall_in Tryz.func49 rfl [(.tmp 4)] rfl (fun r => ⟨[.v (vb r)], [], false⟩) (r := r) ?_
  unfold slices_ContainsFunc_Claim_impl_Claim_contradicts at h
  refine srk tbok ⟨9, [(0, vl eClaim aS), (1, .mth 47 [.agg (tc eClaim aF0)])], []⟩ ?_
  refine sr ?_
  refine SRun.ck tbok 2 ⟨9, [(5, vl eClaim aS), (6, .mth 47 [.agg (tc eClaim aF0)])], []⟩ ?_
  obtain ⟨x1, hx1, h⟩ := bind_some h
  refine SRun.ls (xc ents74 (slices_IndexFunc_Claim_impl_Claim_contradicts_run aS aF0 _ hx1)) ?_
  refine ckn tbok 2 ⟨9, [(4, vb (decide (x1 ≥ 0)))], []⟩ ?_
  refine swp_ret ?_
  obtain rfl := inj h
  exact q_fr (f1 fv)
noncomputable def impl_hasPair (aList : (List Claim)) : Option (Bool) :=
  (((forN (aList.length : Int) (fun (i3 : Int) (_ : Unit) => ((at' aList i3).bind fun x7 => ((part' aList 0 i3).bind fun x8 => ((slices_ContainsFunc_Claim_impl_Claim_contradicts x8 x7).bind fun x9 => (bif x9 then some (.inr (.inr true)) else some (.inl ())))))) (fun (_ : Unit) => .inl ()) 0 ())).bind (Sum.elim (fun (_ : Unit) => some false) some))
theorem impl_hasPair_run (aList : (List Claim)) (r : Bool) (h : impl_hasPair aList = some r) : SCall Tryz.prog 51 [.v (vl eClaim aList)] ⟨[.v (vb r)], [], false⟩ := by
  refine scall_in Tryz.func51 rfl [(.tmp 2)] rfl (fun r => ⟨[.v (vb r)], [], false⟩) (r := r) ?_
  unfold impl_hasPair at h
  refine srk tbok ⟨19, [(0, vl eClaim aList)], []⟩ ?_
  refine swp_seq ?_
  refine srk tbok ⟨19, [(0, vl eClaim aList), (5, vl eClaim aList), (6, vi (aList.length : Int)), (7, vi 0)], []⟩ ?_
  refine swp_seqE (r := r) h (fun j1 => ⟨19, [], []⟩) (fun v2 h => ?_) (fun j1 h => ?_)
  refine swp_blk (a := v2) ?_
  refine swp_lpL (r := v2) (s := (0, ())) _ (fun s3 => ⟨19, [(0, vl eClaim aList), (5, vl eClaim aList), (6, vi (aList.length : Int)), (7, vi s3.1)], []⟩) _ (Le.sub0) h (fun s3 v4 h => ?_)
  refine srk tbok ⟨19, [(0, vl eClaim aList), (5, vl eClaim aList), (6, vi (aList.length : Int)), (7, vi s3.1), (8, vb (decide (s3.1 < (aList.length : Int))))], []⟩ ?_
  refine swp_seq ?_
  refine swp_cd h (fun h => ?_) fun h => ?_
  refine swp_skip ?_
  refine nx_n ?_
  refine swp_seq ?_
  refine swp_seqL (r := v4) h (fun j5 => ⟨19, [(0, vl eClaim aList), (5, vl eClaim aList), (6, vi (aList.length : Int)), (7, vi s3.1)], []⟩) (fun v6 h => ?_) (fun j5 h => ?_)
  refine swp_blk (a := v6) ?_
  refine sr ?_
  refine SRun.ck tbok 1 ⟨19, [(0, vl eClaim aList), (5, vl eClaim aList), (6, vi (aList.length : Int)), (7, vi s3.1), (9, vi s3.1)], []⟩ ?_
  obtain ⟨x7, hx7, h⟩ := bind_some h
  refine SRun.ls (x_index (L := aList) (f := eClaim) (ti := ti24) (tj := ti35) (e := 35) (k := .i64) tbok rfl hx7) ?_
  refine ckn tbok 4 ⟨19, [(0, vl eClaim aList), (3, vi s3.1), (4, .ref 4 0), (5, vl eClaim aList), (6, vi (aList.length : Int)), (7, vi s3.1)], [(4, .box (tc eClaim x7))]⟩ ?_
  refine swp_seq ?_
  refine swp_dr mixed ?_
  refine DGo.ck tbok false 2 ⟨19, [(0, vl eClaim aList), (4, .ref 4 0), (5, vl eClaim aList), (6, vi (aList.length : Int)), (7, vi s3.1), (12, vl eClaim aList), (13, vi s3.1)], [(4, .box (tc eClaim x7))]⟩ ?_
  obtain ⟨x8, hx8, h⟩ := bind_some h
  refine DGo.step (x_slice (m := 7) (f := eClaim) (ti := ti24) (tj := ti35) (e := 35) hx8 (fun _ => rfl) tbok rfl) ?_
  refine DGo.ck tbok false 2 ⟨19, [(0, vl eClaim aList), (5, vl eClaim aList), (6, vi (aList.length : Int)), (7, vi s3.1), (14, vl eClaim x8), (16, .mth 47 [.agg (tc eClaim x7)])], []⟩ ?_
  obtain ⟨x9, hx9, h⟩ := bind_some h
  refine DGo.step (xc ents49 (slices_ContainsFunc_Claim_impl_Claim_contradicts_run x8 x7 _ hx9)) ?_
  refine DGo.nx ?_
  refine swp_cd h (fun h => ?_) fun h => ?_
  refine srk tbok ⟨19, [(2, vb true)], []⟩ ?_
  refine swp_ret ?_
  obtain rfl := inj h
  exact q_br (q_rr (q_rr (q_br (q_rr (q_fr (f1 fv))))))
  refine swp_skip ?_
  obtain rfl := inj h
  exact q_bn (q_l (Le.sub0))
  refine swp_reg ?_
  refine SRun.ck tbok 2 ⟨19, [(0, vl eClaim aList), (5, vl eClaim aList), (6, vi (aList.length : Int)), (7, vi (w64 (s3.1 + 1)))], []⟩ ?_
  refine SRun.nil ?_
  obtain rfl := inj h
  exact q_l (Le.sub0)
  refine swp_exit ?_
  obtain rfl := inj h
  exact nx_e (q_re (q_bh (q_l (Le.sub0))))
  refine srk tbok ⟨19, [(2, vb false)], []⟩ ?_
  refine swp_ret ?_
  obtain rfl := inj h
  exact q_fr (f1 fv)
theorem ents51 : Ents Tryz.prog 51 := ents_of Tryz.func51 (by kernel_rfl) rfl
noncomputable def impl_Span_has (aS : Span) (aYear : Int) : Option (Bool) :=
  ((impl_within aYear aS.From aS.To).bind fun x1 => some x1)
theorem impl_Span_has_run (aS : Span) (aYear : Int) (r : Bool) (h : impl_Span_has aS aYear = some r) : SCall Tryz.prog 71 [.v (.agg (tc eSpan aS)), .v (vi aYear)] ⟨[.v (vb r)], [], false⟩ := by
  refine scall_in Tryz.func71 rfl [(.tmp 4)] rfl (fun r => ⟨[.v (vb r)], [], false⟩) (r := r) ?_
  unfold impl_Span_has at h
  refine srk tbok ⟨11, [(1, vi aYear), (2, .ref 2 0)], [(2, .box (tc eSpan aS))]⟩ ?_
  refine sr ?_
  refine SRun.ck tbok 5 ⟨11, [(5, vi aYear), (7, vi aS.From), (9, vi aS.To)], []⟩ ?_
  obtain ⟨x1, hx1, h⟩ := bind_some h
  refine SRun.ls (xc ents64 (impl_within_run aYear aS.From aS.To _ hx1)) ?_
  refine ckn tbok 1 ⟨11, [(4, vb x1)], []⟩ ?_
  refine swp_ret ?_
  obtain rfl := inj h
  exact q_fr (f1 fv)
theorem ents71 : Ents Tryz.prog 71 := ents_of Tryz.func71 (by kernel_rfl) rfl
noncomputable def impl_parentClaim_1 (aC : Claim) (c0 : ByteArray) (c1 : Int) : Option (Bool) :=
  (((bif (aC.Kind == 1) then (bif (aC.Place.toList == c0.toList) then ((impl_Span_has aC.Years c1).bind fun x1 => some x1) else some false) else some false)).bind fun (j2 : Bool) => some j2)
theorem impl_parentClaim_1_run (aC : Claim) (c0 : ByteArray) (c1 : Int) (r : Bool) (h : impl_parentClaim_1 aC c0 c1 = some r) : SCall Tryz.prog 90 [.v (.agg (tc eClaim aC)), .v (.ptr [vs c0] 0), .v (.ptr [vi c1] 0)] ⟨[.v (vb r)], [], false⟩ := by
  refine scall_in Tryz.func90 rfl [(.tmp 4)] rfl (fun r => ⟨[.v (vb r)], [], false⟩) (r := r) ?_
  unfold impl_parentClaim_1 at h
  refine srk tbok ⟨20, [(1, .ptr [vs c0] 0), (2, .ptr [vi c1] 0), (3, .ref 3 0)], [(3, .box (tc eClaim aC))]⟩ ?_
  refine swp_seq ?_
  refine swp_regJ h (fun j2 => ⟨20, [(4, vb j2)], []⟩) (fun v3 h => ?_) (fun j2 h => ?_)
  refine SRun.ck tbok 4 ⟨20, [(1, .ptr [vs c0] 0), (2, .ptr [vi c1] 0), (3, .ref 3 0), (8, vb (aC.Kind == 1))], [(3, .box (tc eClaim aC))]⟩ ?_
  refine SRun.cu [(8, fun b => b)] h (fun h => ?_) fun h => ?_
  refine SRun.ck tbok 6 ⟨20, [(2, .ptr [vi c1] 0), (3, .ref 3 0), (14, vb (aC.Place.toList == c0.toList))], [(3, .box (tc eClaim aC))]⟩ ?_
  refine SRun.cu [(14, fun b => b)] h (fun h => ?_) fun h => ?_
  refine SRun.ck tbok 3 ⟨20, [(14, vb true), (16, .agg (tc eSpan aC.Years)), (17, vi c1)], []⟩ ?_
  obtain ⟨x1, hx1, h⟩ := bind_some h
  refine SRun.ls (xc ents71 (impl_Span_has_run aC.Years c1 _ hx1)) ?_
  refine SRun.ck tbok 2 ⟨20, [(4, vb x1)], []⟩ ?_
  refine SRun.nil ?_
  obtain rfl := inj h
  exact Le.sub0
  refine SRun.ck tbok 6 ⟨20, [(4, vb false)], []⟩ ?_
  refine SRun.nil ?_
  obtain rfl := inj h
  exact Le.sub0
  refine SRun.ck tbok 12 ⟨20, [(4, vb false)], []⟩ ?_
  refine SRun.nil ?_
  obtain rfl := inj h
  exact Le.sub0
  refine swp_ret ?_
  obtain rfl := inj h
  exact q_fr (f1 fv)
theorem ents90 : Ents Tryz.prog 90 := ents_of Tryz.func90 (by kernel_rfl) rfl
noncomputable def slices_IndexFunc_Claim_impl_parentClaim_1 (aS : (List Claim)) (aF0 : ByteArray) (aF1 : Int) : Option (Int) :=
  (((forN (aS.length : Int) (fun (i3 : Int) (_ : Unit) => ((at' aS i3).bind fun x7 => ((impl_parentClaim_1 x7 aF0 aF1).bind fun x8 => (bif x8 then some (.inr (.inr i3)) else some (.inl ()))))) (fun (_ : Unit) => .inl ()) 0 ())).bind (Sum.elim (fun (_ : Unit) => some (-1)) some))
theorem slices_IndexFunc_Claim_impl_parentClaim_1_run (aS : (List Claim)) (aF0 : ByteArray) (aF1 : Int) (r : Int) (h : slices_IndexFunc_Claim_impl_parentClaim_1 aS aF0 aF1 = some r) : SCall Tryz.prog 74 [.v (vl eClaim aS), .v (.clo 90 [.ptr [vs aF0] 0, .ptr [vi aF1] 0])] ⟨[.v (vi r)], [], false⟩ := by
  refine scall_in Tryz.func74 rfl [(.tmp 4)] rfl (fun r => ⟨[.v (vi r)], [], false⟩) (r := r) ?_
  unfold slices_IndexFunc_Claim_impl_parentClaim_1 at h
  refine srk tbok ⟨19, [(0, vl eClaim aS), (1, .clo 90 [.ptr [vs aF0] 0, .ptr [vi aF1] 0])], []⟩ ?_
  refine swp_seq ?_
  refine srk tbok ⟨19, [(0, vl eClaim aS), (1, .clo 90 [.ptr [vs aF0] 0, .ptr [vi aF1] 0]), (7, vi (aS.length : Int)), (8, vi 0)], []⟩ ?_
  refine swp_seqE (r := r) h (fun j1 => ⟨19, [], []⟩) (fun v2 h => ?_) (fun j1 h => ?_)
  refine swp_blk (a := v2) ?_
  refine swp_lpL (r := v2) (s := (0, ())) _ (fun s3 => ⟨19, [(0, vl eClaim aS), (1, .clo 90 [.ptr [vs aF0] 0, .ptr [vi aF1] 0]), (7, vi (aS.length : Int)), (8, vi s3.1)], []⟩) _ (Le.sub0) h (fun s3 v4 h => ?_)
  refine srk tbok ⟨19, [(0, vl eClaim aS), (1, .clo 90 [.ptr [vs aF0] 0, .ptr [vi aF1] 0]), (7, vi (aS.length : Int)), (8, vi s3.1), (9, vb (decide (s3.1 < (aS.length : Int))))], []⟩ ?_
  refine swp_seq ?_
  refine swp_cd h (fun h => ?_) fun h => ?_
  refine swp_skip ?_
  refine nx_n ?_
  refine swp_seq ?_
  refine swp_seqL (r := v4) h (fun j5 => ⟨19, [(0, vl eClaim aS), (1, .clo 90 [.ptr [vs aF0] 0, .ptr [vi aF1] 0]), (7, vi (aS.length : Int)), (8, vi s3.1)], []⟩) (fun v6 h => ?_) (fun j5 h => ?_)
  refine swp_blk (a := v6) ?_
  refine srk tbok ⟨19, [(0, vl eClaim aS), (1, .clo 90 [.ptr [vs aF0] 0, .ptr [vi aF1] 0]), (5, vi s3.1), (7, vi (aS.length : Int)), (8, vi s3.1)], []⟩ ?_
  refine sr ?_
  refine SRun.ck tbok 3 ⟨19, [(0, vl eClaim aS), (1, .clo 90 [.ptr [vs aF0] 0, .ptr [vi aF1] 0]), (5, vi s3.1), (7, vi (aS.length : Int)), (8, vi s3.1), (11, .clo 90 [.ptr [vs aF0] 0, .ptr [vi aF1] 0]), (12, vl eClaim aS), (13, vi s3.1)], []⟩ ?_
  obtain ⟨x7, hx7, h⟩ := bind_some h
  refine SRun.ls (x_index (L := aS) (f := eClaim) (ti := ti24) (tj := ti35) (e := 35) (k := .i64) tbok rfl hx7) ?_
  refine SRun.ck tbok 1 ⟨19, [(0, vl eClaim aS), (1, .clo 90 [.ptr [vs aF0] 0, .ptr [vi aF1] 0]), (5, vi s3.1), (7, vi (aS.length : Int)), (8, vi s3.1), (11, .clo 90 [.ptr [vs aF0] 0, .ptr [vi aF1] 0]), (15, .agg (tc eClaim x7))], []⟩ ?_
  obtain ⟨x8, hx8, h⟩ := bind_some h
  refine SRun.ls (xc ents90 (impl_parentClaim_1_run x7 aF0 aF1 _ hx8)) ?_
  refine SRun.nx ?_
  refine swp_cd h (fun h => ?_) fun h => ?_
  refine srk tbok ⟨19, [(4, vi s3.1)], []⟩ ?_
  refine swp_ret ?_
  obtain rfl := inj h
  exact q_br (q_rr (q_rr (q_br (q_rr (q_fr (f1 fv))))))
  refine swp_skip ?_
  obtain rfl := inj h
  exact q_bn (q_l (Le.sub0))
  refine swp_reg ?_
  refine SRun.ck tbok 2 ⟨19, [(0, vl eClaim aS), (1, .clo 90 [.ptr [vs aF0] 0, .ptr [vi aF1] 0]), (7, vi (aS.length : Int)), (8, vi (w64 (s3.1 + 1)))], []⟩ ?_
  refine SRun.nil ?_
  obtain rfl := inj h
  exact q_l (Le.sub0)
  refine swp_exit ?_
  obtain rfl := inj h
  exact nx_e (q_re (q_bh (q_l (Le.sub0))))
  refine srk tbok ⟨19, [(4, vi (-1))], []⟩ ?_
  refine swp_ret ?_
  obtain rfl := inj h
  exact q_fr (f1 fv)
noncomputable def impl_parentClaim (aList : (List Claim)) (aPlace : ByteArray) (aYear : Int) : Option (ByteArray × Bool) :=
  ((slices_IndexFunc_Claim_impl_parentClaim_1 aList aPlace aYear).bind fun x1 => (bif (decide (x1 < 0)) then some ((ByteArray.mk #[]), false) else ((at' aList x1).bind fun x2 => some (x2.Value, true))))
theorem impl_parentClaim_run (aList : (List Claim)) (aPlace : ByteArray) (aYear : Int) (r : ByteArray × Bool) (h : impl_parentClaim aList aPlace aYear = some r) : SCall Tryz.prog 85 [.v (vl eClaim aList), .v (vs aPlace), .v (vi aYear)] ⟨[.v (vs r.1), .v (vb r.2)], [], false⟩ := by
  refine scall_in Tryz.func85 rfl [(.tmp 6), (.tmp 7)] rfl (fun r => ⟨[.v (vs r.1), .v (vb r.2)], [], false⟩) (r := r) ?_
  unfold impl_parentClaim at h
  refine srk tbok ⟨19, [(0, vl eClaim aList), (4, .ref 4 0), (5, .ref 5 0)], [(4, .box [vs aPlace]), (5, .box [vi aYear])]⟩ ?_
  refine sr ?_
  refine SRun.ck tbok 2 ⟨19, [(0, vl eClaim aList), (9, vl eClaim aList), (10, .clo 90 [.ref 4 0, .ref 5 0])], [(4, .box [vs aPlace]), (5, .box [vi aYear])]⟩ ?_
  obtain ⟨x1, hx1, h⟩ := bind_some h
  refine SRun.ls (xc ents74 (slices_IndexFunc_Claim_impl_parentClaim_1_run aList aPlace aYear _ hx1)) ?_
  refine ckn tbok 1 ⟨19, [(0, vl eClaim aList), (8, vi x1)], []⟩ ?_
  refine swp_seq ?_
  refine srk tbok ⟨19, [(0, vl eClaim aList), (8, vi x1), (13, vb (decide (x1 < 0)))], []⟩ ?_
  refine swp_cd h (fun h => ?_) fun h => ?_
  refine srk tbok ⟨19, [(6, vs (ByteArray.mk #[])), (7, vb false)], []⟩ ?_
  refine swp_ret ?_
  obtain rfl := inj h
  exact nx_r (q_fr (f2 fv fv))
  refine swp_skip ?_
  refine nx_n ?_
  refine sr ?_
  refine SRun.ck tbok 2 ⟨19, [(14, vl eClaim aList), (15, vi x1)], []⟩ ?_
  obtain ⟨x2, hx2, h⟩ := bind_some h
  refine SRun.ls (x_index (L := aList) (f := eClaim) (ti := ti24) (tj := ti35) (e := 35) (k := .i64) tbok rfl hx2) ?_
  refine ckn tbok 4 ⟨19, [(6, vs x2.Value), (7, vb true)], []⟩ ?_
  refine swp_ret ?_
  obtain rfl := inj h
  exact q_fr (f2 fv fv)
theorem ents85 : Ents Tryz.prog 85 := ents_of Tryz.func85 (by kernel_rfl) rfl
noncomputable def slices_Index_string (aS : (List ByteArray)) (aV : ByteArray) : Option (Int) :=
  (((forN (aS.length : Int) (fun (i3 : Int) (_ : Unit) => ((at' aS i3).bind fun x7 => (bif (aV.toList == x7.toList) then some (.inr (.inr i3)) else some (.inl ())))) (fun (_ : Unit) => .inl ()) 0 ())).bind (Sum.elim (fun (_ : Unit) => some (-1)) some))
theorem slices_Index_string_run (aS : (List ByteArray)) (aV : ByteArray) (r : Int) (h : slices_Index_string aS aV = some r) : SCall Tryz.prog 91 [.v (vl eS aS), .v (vs aV)] ⟨[.v (vi r)], [], false⟩ := by
  refine scall_in Tryz.func91 rfl [(.tmp 4)] rfl (fun r => ⟨[.v (vi r)], [], false⟩) (r := r) ?_
  unfold slices_Index_string at h
  refine srk tbok ⟨19, [(0, vl eS aS), (1, vs aV)], []⟩ ?_
  refine swp_seq ?_
  refine srk tbok ⟨19, [(0, vl eS aS), (1, vs aV), (7, vi (aS.length : Int)), (8, vi 0)], []⟩ ?_
  refine swp_seqE (r := r) h (fun j1 => ⟨19, [], []⟩) (fun v2 h => ?_) (fun j1 h => ?_)
  refine swp_blk (a := v2) ?_
  refine swp_lpL (r := v2) (s := (0, ())) _ (fun s3 => ⟨19, [(0, vl eS aS), (1, vs aV), (7, vi (aS.length : Int)), (8, vi s3.1)], []⟩) _ (Le.sub0) h (fun s3 v4 h => ?_)
  refine srk tbok ⟨19, [(0, vl eS aS), (1, vs aV), (7, vi (aS.length : Int)), (8, vi s3.1), (9, vb (decide (s3.1 < (aS.length : Int))))], []⟩ ?_
  refine swp_seq ?_
  refine swp_cd h (fun h => ?_) fun h => ?_
  refine swp_skip ?_
  refine nx_n ?_
  refine swp_seq ?_
  refine swp_seqL (r := v4) h (fun j5 => ⟨19, [(0, vl eS aS), (1, vs aV), (7, vi (aS.length : Int)), (8, vi s3.1)], []⟩) (fun v6 h => ?_) (fun j5 h => ?_)
  refine swp_blk (a := v6) ?_
  refine srk tbok ⟨19, [(0, vl eS aS), (1, vs aV), (5, vi s3.1), (7, vi (aS.length : Int)), (8, vi s3.1)], []⟩ ?_
  refine sr ?_
  refine SRun.ck tbok 3 ⟨19, [(0, vl eS aS), (1, vs aV), (5, vi s3.1), (7, vi (aS.length : Int)), (8, vi s3.1), (11, vs aV), (12, vl eS aS), (13, vi s3.1)], []⟩ ?_
  obtain ⟨x7, hx7, h⟩ := bind_some h
  refine SRun.ls (x_index (L := aS) (f := eS) (ti := ti60) (tj := ti9) (e := 9) (k := .i64) tbok rfl hx7) ?_
  refine ckn tbok 2 ⟨19, [(0, vl eS aS), (1, vs aV), (5, vi s3.1), (7, vi (aS.length : Int)), (8, vi s3.1), (16, vb (aV.toList == x7.toList))], []⟩ ?_
  refine swp_cd h (fun h => ?_) fun h => ?_
  refine srk tbok ⟨19, [(4, vi s3.1)], []⟩ ?_
  refine swp_ret ?_
  obtain rfl := inj h
  exact q_br (q_rr (q_rr (q_br (q_rr (q_fr (f1 fv))))))
  refine swp_skip ?_
  obtain rfl := inj h
  exact q_bn (q_l (Le.sub0))
  refine swp_reg ?_
  refine SRun.ck tbok 2 ⟨19, [(0, vl eS aS), (1, vs aV), (7, vi (aS.length : Int)), (8, vi (w64 (s3.1 + 1)))], []⟩ ?_
  refine SRun.nil ?_
  obtain rfl := inj h
  exact q_l (Le.sub0)
  refine swp_exit ?_
  obtain rfl := inj h
  exact nx_e (q_re (q_bh (q_l (Le.sub0))))
  refine srk tbok ⟨19, [(4, vi (-1))], []⟩ ?_
  refine swp_ret ?_
  obtain rfl := inj h
  exact q_fr (f1 fv)
theorem ents91 : Ents Tryz.prog 91 := ents_of Tryz.func91 (by kernel_rfl) rfl
noncomputable def slices_Contains_string (aS : (List ByteArray)) (aV : ByteArray) : Option (Bool) :=
  ((slices_Index_string aS aV).bind fun x1 => some (decide (x1 ≥ 0)))
theorem slices_Contains_string_run (aS : (List ByteArray)) (aV : ByteArray) (r : Bool) (h : slices_Contains_string aS aV = some r) : SCall Tryz.prog 86 [.v (vl eS aS), .v (vs aV)] ⟨[.v (vb r)], [], false⟩ := by
  refine scall_in Tryz.func86 rfl [(.tmp 4)] rfl (fun r => ⟨[.v (vb r)], [], false⟩) (r := r) ?_
  unfold slices_Contains_string at h
  refine srk tbok ⟨9, [(0, vl eS aS), (1, vs aV)], []⟩ ?_
  refine sr ?_
  refine SRun.ck tbok 2 ⟨9, [(5, vl eS aS), (6, vs aV)], []⟩ ?_
  obtain ⟨x1, hx1, h⟩ := bind_some h
  refine SRun.ls (xc ents91 (slices_Index_string_run aS aV _ hx1)) ?_
  refine ckn tbok 2 ⟨9, [(4, vb (decide (x1 ≥ 0)))], []⟩ ?_
  refine swp_ret ?_
  obtain rfl := inj h
  exact q_fr (f1 fv)
theorem ents86 : Ents Tryz.prog 86 := ents_of Tryz.func86 (by kernel_rfl) rfl
noncomputable def impl_circleIn (aList : (List Claim)) (aPlace : ByteArray) (aYear : Int) : Option ((List ByteArray) × Bool) :=
  (loop (fun (s1 : (List ByteArray)) => ((at' s1 (w64 ((s1.length : Int) - 1))).bind fun x3 => ((impl_parentClaim aList x3 aYear).bind fun x4 => (((bif (x4.2 && (x4.1.toList == aPlace.toList)) then some (.inr (.inr (s1, true))) else (((bif (!x4.2) then some true else ((slices_Contains_string s1 x4.1).bind fun x7 => some x7))).bind fun (j8 : Bool) => (bif j8 then some (.inr (.inr (([] : List ByteArray), false))) else some (.inl ()))))).bind (Sum.elim (fun (_ : Unit) => ((app' s1 ([x4.1] : List ByteArray)).bind fun x10 => some (.inl x10))) some))))) ([aPlace] : List ByteArray))
theorem impl_circleIn_run (aList : (List Claim)) (aPlace : ByteArray) (aYear : Int) (r : (List ByteArray) × Bool) (h : impl_circleIn aList aPlace aYear = some r) : SCall Tryz.prog 75 [.v (vl eClaim aList), .v (vs aPlace), .v (vi aYear)] ⟨[.own 9 1 r.1.length (r.1.map eS), .v (vb r.2)], [], false⟩ := by
  refine scall_in Tryz.func75 rfl [(.tmp 6), (.tmp 7)] rfl (fun r => ⟨[.own 9 1 r.1.length (r.1.map eS), .v (vb r.2)], [], false⟩) (r := r) ?_
  unfold impl_circleIn at h
  refine srk tbok ⟨45, [(0, vl eClaim aList), (1, vs aPlace), (2, vi aYear)], []⟩ ?_
  refine srk tbok ⟨45, [(0, vl eClaim aList), (1, vs aPlace), (2, vi aYear), (8, .own 12)], [(12, oa 9 1 eS ([aPlace] : List ByteArray))]⟩ ?_
  refine swp_blk (a := r) ?_
  refine swp_lpL (r := r) (s := ([aPlace] : List ByteArray)) _ (fun s1 => ⟨45, [(0, vl eClaim aList), (1, vs aPlace), (2, vi aYear), (8, .own 8)], [(8, oa 9 1 eS s1)]⟩) _ (Le.rr [12] [(12, 8)]) h (fun s1 v2 h => ?_)
  refine swp_blk (a := v2) ?_
  refine sr ?_
  refine SRun.ck tbok 5 ⟨45, [(0, vl eClaim aList), (1, vs aPlace), (2, vi aYear), (8, .own 8), (14, vl eClaim aList), (15, .own 8), (18, vi (w64 ((s1.length : Int) - 1)))], [(8, oa 9 1 eS s1)]⟩ ?_
  obtain ⟨x3, hx3, h⟩ := bind_some h
  refine SRun.ls (x_index_own (d := 8) (L := s1) (f := eS) (ti := ti60) (tj := ti9) (e := 9) (e' := 9) (m := 1) (k := .i64) tbok rfl hx3) ?_
  refine SRun.ls (x_load_own (d := 8) (m := 1) (j := 0) (L := s1) (f := eS) (ti := ti9) (e := 9) (v := vs x3) tbok rfl hx3) ?_
  refine SRun.ck tbok 1 ⟨45, [(0, vl eClaim aList), (1, vs aPlace), (2, vi aYear), (8, .own 8), (14, vl eClaim aList), (20, vs x3), (21, vi aYear)], [(8, oa 9 1 eS s1)]⟩ ?_
  obtain ⟨x4, hx4, h⟩ := bind_some h
  refine SRun.ls (xc ents85 (impl_parentClaim_run aList x3 aYear _ hx4)) ?_
  refine ckn tbok 5 ⟨45, [(0, vl eClaim aList), (1, vs aPlace), (2, vi aYear), (8, .own 8), (9, vs x4.1), (10, vb x4.2)], [(8, oa 9 1 eS s1)]⟩ ?_
  refine swp_seq ?_
  refine swp_seqE (r := v2) h (fun j5 => ⟨45, [(0, vl eClaim aList), (1, vs aPlace), (2, vi aYear), (8, .own 8), (9, vs x4.1)], [(8, oa 9 1 eS s1)]⟩) (fun v6 h => ?_) (fun j5 h => ?_)
  refine swp_blk (a := v6) ?_
  refine swp_seq ?_
  refine swp_regP ⟨45, [(0, vl eClaim aList), (1, vs aPlace), (2, vi aYear), (8, .own 8), (9, vs x4.1), (10, vb x4.2), (25, vb (x4.2 && (x4.1.toList == aPlace.toList)))], [(8, oa 9 1 eS s1)]⟩ ?_ ?_
  refine SRun.ck tbok 2 ⟨45, [(0, vl eClaim aList), (1, vs aPlace), (2, vi aYear), (8, .own 8), (9, vs x4.1), (10, vb x4.2), (27, vb x4.2)], [(8, oa 9 1 eS s1)]⟩ ?_
  generalize x4.2 = bb
  cases bb
  refine SRun.ck tbok 5 ⟨45, [(0, vl eClaim aList), (1, vs aPlace), (2, vi aYear), (8, .own 8), (9, vs x4.1), (10, vb false), (25, vb false)], [(8, oa 9 1 eS s1)]⟩ ?_
  exact SRun.nil (Le.sub0)
  refine SRun.ck tbok 5 ⟨45, [(0, vl eClaim aList), (1, vs aPlace), (2, vi aYear), (8, .own 8), (9, vs x4.1), (10, vb true), (25, vb (x4.1.toList == aPlace.toList))], [(8, oa 9 1 eS s1)]⟩ ?_
  exact SRun.nil (Le.sub0)
  refine swp_cd h (fun h => ?_) fun h => ?_
  refine srk tbok ⟨45, [(6, .own 8), (7, vb true)], [(8, oa 9 1 eS s1)]⟩ ?_
  refine swp_ret ?_
  obtain rfl := inj h
  exact q_br (q_rr (q_br (q_rr (q_br (q_fr (f2 (fo eS_flat) fv))))))
  refine swp_seq ?_
  refine swp_regJ h (fun j8 => ⟨45, [(0, vl eClaim aList), (1, vs aPlace), (2, vi aYear), (8, .own 8), (9, vs x4.1), (33, vb j8)], [(8, oa 9 1 eS s1)]⟩) (fun v9 h => ?_) (fun j8 h => ?_)
  refine SRun.ck tbok 3 ⟨45, [(0, vl eClaim aList), (1, vs aPlace), (2, vi aYear), (8, .own 8), (9, vs x4.1), (36, vb (!x4.2))], [(8, oa 9 1 eS s1)]⟩ ?_
  refine SRun.cu [(36, fun b => b)] h (fun h => ?_) fun h => ?_
  refine SRun.ck tbok 5 ⟨45, [(0, vl eClaim aList), (1, vs aPlace), (2, vi aYear), (8, .own 8), (9, vs x4.1), (33, vb true)], [(8, oa 9 1 eS s1)]⟩ ?_
  refine SRun.nil ?_
  obtain rfl := inj h
  exact Le.sub0
  refine SRun.ck tbok 2 ⟨45, [(0, vl eClaim aList), (1, vs aPlace), (2, vi aYear), (8, .own 8), (9, vs x4.1), (36, vb false), (37, .own 8), (38, vs x4.1)], [(8, oa 9 1 eS s1)]⟩ ?_
  obtain ⟨x7, hx7, h⟩ := bind_some h
  refine SRun.ls (xc ents86 (slices_Contains_string_run s1 x4.1 _ hx7)) ?_
  refine SRun.ck tbok 2 ⟨45, [(0, vl eClaim aList), (1, vs aPlace), (2, vi aYear), (8, .own 8), (9, vs x4.1), (33, vb x7)], [(8, oa 9 1 eS s1)]⟩ ?_
  refine SRun.nil ?_
  obtain rfl := inj h
  exact Le.sub0
  refine swp_cd h (fun h => ?_) fun h => ?_
  refine srk tbok ⟨45, [(6, .own 6), (7, vb false)], [(6, oa 9 1 eS ([] : List ByteArray))]⟩ ?_
  refine swp_ret ?_
  obtain rfl := inj h
  exact q_br (q_rr (q_br (q_rr (q_br (q_fr (f2 (fo eS_flat) fv))))))
  refine swp_skip ?_
  obtain rfl := inj h
  exact q_bn (q_l (Le.sub0))
  refine swp_reg ?_
  refine SRun.ck tbok 3 ⟨45, [(0, vl eClaim aList), (1, vs aPlace), (2, vi aYear), (41, .own 8), (43, .own 43)], [(8, oa 9 1 eS s1), (43, oa 9 1 eS ([x4.1] : List ByteArray))]⟩ ?_
  obtain ⟨x10, hx10, h⟩ := bind_some h
  refine SRun.estep (x_append (f := eS) (t := 60) (ti := ti60) (tj := ti9) (zs := [.string (ByteArray.mk #[])]) (e := 9) (m := 1) (d := 8) (xv := .own 43) hx10 tbok rfl rfl rfl rfl (x_src_o (e := 9))) ?_
  refine SRun.ck tbok 1 ⟨45, [(0, vl eClaim aList), (1, vs aPlace), (2, vi aYear), (8, .own 44)], [(44, oa 9 1 eS x10)]⟩ ?_
  refine SRun.nil ?_
  obtain rfl := inj h
  exact q_bn (q_l (Le.rr [44] [(44, 8)]))
theorem ents75 : Ents Tryz.prog 75 := ents_of Tryz.func75 (by kernel_rfl) rfl
noncomputable def impl_hasCircle (aList : (List Claim)) : Option (Bool) :=
  (((forN (aList.length : Int) (fun (i3 : Int) (_ : Unit) => ((at' aList i3).bind fun x7 => (forN (aList.length : Int) (fun (i8 : Int) (_ : Unit) => ((at' aList i8).bind fun x12 => (((bif (x7.Kind != 1) then some true else (bif (x12.Kind != 1) then some true else ((impl_Span_has x12.Years x7.Years.From).bind fun x13 => some (!x13))))).bind fun (j14 : Bool) => (bif j14 then some (.inl ()) else ((impl_circleIn aList x12.Place x7.Years.From).bind fun x16 => (bif x16.2 then some (.inr (.inr (.inr true))) else some (.inl ()))))))) (fun (_ : Unit) => .inl ()) 0 ()))) (fun (_ : Unit) => .inl ()) 0 ())).bind (Sum.elim (fun (_ : Unit) => some false) some))
theorem impl_hasCircle_run (aList : (List Claim)) (r : Bool) (h : impl_hasCircle aList = some r) : SCall Tryz.prog 52 [.v (vl eClaim aList)] ⟨[.v (vb r)], [], false⟩ := by
  refine scall_in Tryz.func52 rfl [(.tmp 2)] rfl (fun r => ⟨[.v (vb r)], [], false⟩) (r := r) ?_
  unfold impl_hasCircle at h
  refine srk tbok ⟨51, [(0, vl eClaim aList)], []⟩ ?_
  refine swp_seq ?_
  refine srk tbok ⟨51, [(0, vl eClaim aList), (9, vl eClaim aList), (10, vi (aList.length : Int)), (11, vi 0)], []⟩ ?_
  refine swp_seqE (r := r) h (fun j1 => ⟨51, [], []⟩) (fun v2 h => ?_) (fun j1 h => ?_)
  refine swp_blk (a := v2) ?_
  refine swp_lpL (r := v2) (s := (0, ())) _ (fun s3 => ⟨51, [(0, vl eClaim aList), (9, vl eClaim aList), (10, vi (aList.length : Int)), (11, vi s3.1)], []⟩) _ (Le.sub0) h (fun s3 v4 h => ?_)
  refine srk tbok ⟨51, [(0, vl eClaim aList), (9, vl eClaim aList), (10, vi (aList.length : Int)), (11, vi s3.1), (12, vb (decide (s3.1 < (aList.length : Int))))], []⟩ ?_
  refine swp_seq ?_
  refine swp_cd h (fun h => ?_) fun h => ?_
  refine swp_skip ?_
  refine nx_n ?_
  refine swp_seq ?_
  refine swp_seqL (r := v4) h (fun j5 => ⟨51, [(0, vl eClaim aList), (9, vl eClaim aList), (10, vi (aList.length : Int)), (11, vi s3.1)], []⟩) (fun v6 h => ?_) (fun j5 h => ?_)
  refine swp_blk (a := v6) ?_
  refine sr ?_
  obtain ⟨x7, hx7, h⟩ := bind_some h
  refine SRun.ls (x_index (L := aList) (f := eClaim) (ti := ti24) (tj := ti35) (e := 35) (k := .i64) tbok rfl hx7) ?_
  refine ckn tbok 3 ⟨51, [(0, vl eClaim aList), (4, .ref 4 0), (9, vl eClaim aList), (10, vi (aList.length : Int)), (11, vi s3.1)], [(4, .box (tc eClaim x7))]⟩ ?_
  refine srk tbok ⟨51, [(0, vl eClaim aList), (4, .ref 4 0), (9, vl eClaim aList), (10, vi (aList.length : Int)), (11, vi s3.1), (15, vl eClaim aList), (16, vi (aList.length : Int)), (17, vi 0)], [(4, .box (tc eClaim x7))]⟩ ?_
  refine swp_blk (a := v6) ?_
  refine swp_lpL (r := v6) (s := (0, ())) _ (fun s8 => ⟨51, [(0, vl eClaim aList), (4, .ref 4 0), (9, vl eClaim aList), (10, vi (aList.length : Int)), (11, vi s3.1), (15, vl eClaim aList), (16, vi (aList.length : Int)), (17, vi s8.1)], [(4, .box (tc eClaim x7))]⟩) _ (Le.sub0) h (fun s8 v9 h => ?_)
  refine srk tbok ⟨51, [(0, vl eClaim aList), (4, .ref 4 0), (9, vl eClaim aList), (10, vi (aList.length : Int)), (11, vi s3.1), (15, vl eClaim aList), (16, vi (aList.length : Int)), (17, vi s8.1), (18, vb (decide (s8.1 < (aList.length : Int))))], [(4, .box (tc eClaim x7))]⟩ ?_
  refine swp_seq ?_
  refine swp_cd h (fun h => ?_) fun h => ?_
  refine swp_skip ?_
  refine nx_n ?_
  refine swp_seq ?_
  refine swp_seqL (r := v9) h (fun j10 => ⟨51, [(0, vl eClaim aList), (4, .ref 4 0), (9, vl eClaim aList), (10, vi (aList.length : Int)), (11, vi s3.1), (15, vl eClaim aList), (16, vi (aList.length : Int)), (17, vi s8.1)], [(4, .box (tc eClaim x7))]⟩) (fun v11 h => ?_) (fun j10 h => ?_)
  refine swp_blk (a := v11) ?_
  refine sr ?_
  obtain ⟨x12, hx12, h⟩ := bind_some h
  refine SRun.ls (x_index (L := aList) (f := eClaim) (ti := ti24) (tj := ti35) (e := 35) (k := .i64) tbok rfl hx12) ?_
  refine ckn tbok 3 ⟨51, [(0, vl eClaim aList), (4, .ref 4 0), (6, .ref 6 0), (9, vl eClaim aList), (10, vi (aList.length : Int)), (11, vi s3.1), (15, vl eClaim aList), (16, vi (aList.length : Int)), (17, vi s8.1)], [(4, .box (tc eClaim x7)), (6, .box (tc eClaim x12))]⟩ ?_
  refine swp_seq ?_
  refine swp_seq ?_
  refine swp_regJ h (fun j14 => ⟨51, [(0, vl eClaim aList), (4, .ref 4 0), (6, .ref 6 0), (9, vl eClaim aList), (10, vi (aList.length : Int)), (11, vi s3.1), (15, vl eClaim aList), (16, vi (aList.length : Int)), (17, vi s8.1), (37, vb j14)], [(4, .box (tc eClaim x7)), (6, .box (tc eClaim x12))]⟩) (fun v15 h => ?_) (fun j14 h => ?_)
  refine SRun.ck tbok 4 ⟨51, [(0, vl eClaim aList), (4, .ref 4 0), (6, .ref 6 0), (9, vl eClaim aList), (10, vi (aList.length : Int)), (11, vi s3.1), (15, vl eClaim aList), (16, vi (aList.length : Int)), (17, vi s8.1), (24, vb (x7.Kind != 1))], [(4, .box (tc eClaim x7)), (6, .box (tc eClaim x12))]⟩ ?_
  refine SRun.cu [(24, fun b => b)] h (fun h => ?_) fun h => ?_
  refine SRun.ck tbok 13 ⟨51, [(0, vl eClaim aList), (4, .ref 4 0), (6, .ref 6 0), (9, vl eClaim aList), (10, vi (aList.length : Int)), (11, vi s3.1), (15, vl eClaim aList), (16, vi (aList.length : Int)), (17, vi s8.1), (37, vb true)], [(4, .box (tc eClaim x7)), (6, .box (tc eClaim x12))]⟩ ?_
  refine SRun.nil ?_
  obtain rfl := inj h
  exact Le.sub0
  refine SRun.ck tbok 5 ⟨51, [(0, vl eClaim aList), (4, .ref 4 0), (6, .ref 6 0), (9, vl eClaim aList), (10, vi (aList.length : Int)), (11, vi s3.1), (15, vl eClaim aList), (16, vi (aList.length : Int)), (17, vi s8.1), (29, vb (x12.Kind != 1))], [(4, .box (tc eClaim x7)), (6, .box (tc eClaim x12))]⟩ ?_
  refine SRun.cu [(29, fun b => b)] h (fun h => ?_) fun h => ?_
  refine SRun.ck tbok 8 ⟨51, [(0, vl eClaim aList), (4, .ref 4 0), (6, .ref 6 0), (9, vl eClaim aList), (10, vi (aList.length : Int)), (11, vi s3.1), (15, vl eClaim aList), (16, vi (aList.length : Int)), (17, vi s8.1), (37, vb true)], [(4, .box (tc eClaim x7)), (6, .box (tc eClaim x12))]⟩ ?_
  refine SRun.nil ?_
  obtain rfl := inj h
  exact Le.sub0
  refine SRun.ck tbok 5 ⟨51, [(0, vl eClaim aList), (4, .ref 4 0), (6, .ref 6 0), (9, vl eClaim aList), (10, vi (aList.length : Int)), (11, vi s3.1), (15, vl eClaim aList), (16, vi (aList.length : Int)), (17, vi s8.1), (29, vb false), (31, .agg (tc eSpan x12.Years)), (34, vi x7.Years.From)], [(4, .box (tc eClaim x7)), (6, .box (tc eClaim x12))]⟩ ?_
  obtain ⟨x13, hx13, h⟩ := bind_some h
  refine SRun.ls (xc ents71 (impl_Span_has_run x12.Years x7.Years.From _ hx13)) ?_
  refine SRun.ck tbok 2 ⟨51, [(0, vl eClaim aList), (4, .ref 4 0), (6, .ref 6 0), (9, vl eClaim aList), (10, vi (aList.length : Int)), (11, vi s3.1), (15, vl eClaim aList), (16, vi (aList.length : Int)), (17, vi s8.1), (37, vb (!x13))], [(4, .box (tc eClaim x7)), (6, .box (tc eClaim x12))]⟩ ?_
  refine SRun.nil ?_
  obtain rfl := inj h
  exact Le.sub0
  refine swp_cd h (fun h => ?_) fun h => ?_
  refine swp_exit ?_
  obtain rfl := inj h
  exact nx_e (q_bh (q_l (Le.sub0)))
  refine swp_skip ?_
  refine nx_n ?_
  refine sr ?_
  refine SRun.ck tbok 6 ⟨51, [(0, vl eClaim aList), (4, .ref 4 0), (9, vl eClaim aList), (10, vi (aList.length : Int)), (11, vi s3.1), (15, vl eClaim aList), (16, vi (aList.length : Int)), (17, vi s8.1), (39, vl eClaim aList), (41, vs x12.Place), (44, vi x7.Years.From)], [(4, .box (tc eClaim x7))]⟩ ?_
  obtain ⟨x16, hx16, h⟩ := bind_some h
  refine SRun.ls (xc ents75 (impl_circleIn_run aList x12.Place x7.Years.From _ hx16)) ?_
  refine ckn tbok 5 ⟨51, [(0, vl eClaim aList), (4, .ref 4 0), (8, vb x16.2), (9, vl eClaim aList), (10, vi (aList.length : Int)), (11, vi s3.1), (15, vl eClaim aList), (16, vi (aList.length : Int)), (17, vi s8.1)], [(4, .box (tc eClaim x7))]⟩ ?_
  refine srk tbok ⟨51, [(0, vl eClaim aList), (4, .ref 4 0), (9, vl eClaim aList), (10, vi (aList.length : Int)), (11, vi s3.1), (15, vl eClaim aList), (16, vi (aList.length : Int)), (17, vi s8.1), (48, vb x16.2)], [(4, .box (tc eClaim x7))]⟩ ?_
  refine swp_cd h (fun h => ?_) fun h => ?_
  refine srk tbok ⟨51, [(2, vb true)], []⟩ ?_
  refine swp_ret ?_
  obtain rfl := inj h
  exact q_br (q_rr (q_rr (q_br (q_br (q_rr (q_rr (q_br (q_rr (q_fr (f1 fv))))))))))
  refine swp_skip ?_
  obtain rfl := inj h
  exact q_bn (q_l (Le.sub0))
  refine swp_reg ?_
  refine SRun.ck tbok 2 ⟨51, [(0, vl eClaim aList), (4, .ref 4 0), (9, vl eClaim aList), (10, vi (aList.length : Int)), (11, vi s3.1), (15, vl eClaim aList), (16, vi (aList.length : Int)), (17, vi (w64 (s8.1 + 1)))], [(4, .box (tc eClaim x7))]⟩ ?_
  refine SRun.nil ?_
  obtain rfl := inj h
  exact q_l (Le.sub0)
  refine swp_exit ?_
  obtain rfl := inj h
  exact nx_e (q_re (q_bh (q_bn (q_l (Le.sub0)))))
  refine swp_reg ?_
  refine SRun.ck tbok 2 ⟨51, [(0, vl eClaim aList), (9, vl eClaim aList), (10, vi (aList.length : Int)), (11, vi (w64 (s3.1 + 1)))], []⟩ ?_
  refine SRun.nil ?_
  obtain rfl := inj h
  exact q_l (Le.sub0)
  refine swp_exit ?_
  obtain rfl := inj h
  exact nx_e (q_re (q_bh (q_l (Le.sub0))))
  refine srk tbok ⟨51, [(2, vb false)], []⟩ ?_
  refine swp_ret ?_
  obtain rfl := inj h
  exact q_fr (f1 fv)
theorem ents52 : Ents Tryz.prog 52 := ents_of Tryz.func52 (by kernel_rfl) rfl
noncomputable def impl_areConsistent (aList : (List Claim)) : Option (Bool) :=
  ((((impl_hasPair aList).bind fun x1 => (bif (!x1) then ((impl_hasCircle aList).bind fun x2 => some (!x2)) else some false))).bind fun (j3 : Bool) => some j3)
theorem impl_areConsistent_run (aList : (List Claim)) (r : Bool) (h : impl_areConsistent aList = some r) : SCall Tryz.prog 27 [.v (vl eClaim aList)] ⟨[.v (vb r)], [], false⟩ := by
  refine scall_in Tryz.func27 rfl [(.tmp 2)] rfl (fun r => ⟨[.v (vb r)], [], false⟩) (r := r) ?_
  unfold impl_areConsistent at h
  refine srk tbok ⟨11, [(0, vl eClaim aList)], []⟩ ?_
  refine swp_seq ?_
  refine swp_regJ h (fun j3 => ⟨11, [(2, vb j3)], []⟩) (fun v4 h => ?_) (fun j3 h => ?_)
  refine SRun.ck tbok 1 ⟨11, [(0, vl eClaim aList), (3, vl eClaim aList)], []⟩ ?_
  obtain ⟨x1, hx1, h⟩ := bind_some h
  refine SRun.ls (xc ents51 (impl_hasPair_run aList _ hx1)) ?_
  refine SRun.ck tbok 2 ⟨11, [(0, vl eClaim aList), (6, vb (!x1))], []⟩ ?_
  refine SRun.cu [(6, fun b => b)] h (fun h => ?_) fun h => ?_
  refine SRun.ck tbok 1 ⟨11, [(6, vb true), (7, vl eClaim aList)], []⟩ ?_
  obtain ⟨x2, hx2, h⟩ := bind_some h
  refine SRun.ls (xc ents52 (impl_hasCircle_run aList _ hx2)) ?_
  refine SRun.ck tbok 3 ⟨11, [(2, vb (!x2))], []⟩ ?_
  refine SRun.nil ?_
  obtain rfl := inj h
  exact Le.sub0
  refine SRun.ck tbok 5 ⟨11, [(2, vb false)], []⟩ ?_
  refine SRun.nil ?_
  obtain rfl := inj h
  exact Le.sub0
  refine swp_ret ?_
  obtain rfl := inj h
  exact q_fr (f1 fv)
theorem ents27 : Ents Tryz.prog 27 := ents_of Tryz.func27 (by kernel_rfl) rfl
noncomputable def impl_AreConsistent (aList : (List Claim)) : Option (Bool × Int) :=
  ((impl_AreClaims aList).bind fun x1 => (bif (!x1) then some (false, 1) else ((impl_areConsistent aList).bind fun x2 => some (x2, 0))))
theorem impl_AreConsistent_run (aList : (List Claim)) (r : Bool × Int) (h : impl_AreConsistent aList = some r) : SCall Tryz.prog 6 [.v (vl eClaim aList)] ⟨[.v (vb r.1), .v (vi r.2)], [], false⟩ := by
  refine scall_in Tryz.func6 rfl [(.tmp 2), (.tmp 3)] rfl (fun r => ⟨[.v (vb r.1), .v (vi r.2)], [], false⟩) (r := r) ?_
  unfold impl_AreConsistent at h
  refine srk tbok ⟨9, [(0, vl eClaim aList)], []⟩ ?_
  refine swp_seq ?_
  refine sr ?_
  refine SRun.ck tbok 1 ⟨9, [(0, vl eClaim aList), (4, vl eClaim aList)], []⟩ ?_
  obtain ⟨x1, hx1, h⟩ := bind_some h
  refine SRun.ls (xc ents26 (impl_AreClaims_run aList _ hx1)) ?_
  refine ckn tbok 1 ⟨9, [(0, vl eClaim aList), (6, vb (!x1))], []⟩ ?_
  refine swp_cd h (fun h => ?_) fun h => ?_
  refine srk tbok ⟨9, [(2, vb false), (3, vi 1)], []⟩ ?_
  refine swp_ret ?_
  obtain rfl := inj h
  exact nx_r (q_fr (f2 fv fv))
  refine swp_skip ?_
  refine nx_n ?_
  refine sr ?_
  refine SRun.ck tbok 1 ⟨9, [(7, vl eClaim aList)], []⟩ ?_
  obtain ⟨x2, hx2, h⟩ := bind_some h
  refine SRun.ls (xc ents27 (impl_areConsistent_run aList _ hx2)) ?_
  refine ckn tbok 2 ⟨9, [(2, vb x2), (3, vi 0)], []⟩ ?_
  refine swp_ret ?_
  obtain rfl := inj h
  exact q_fr (f2 fv fv)
theorem ents6 : Ents Tryz.prog 6 := ents_of Tryz.func6 (by kernel_rfl) rfl
noncomputable def spec_AreClaims (aList : (List Claim)) : Option (Bool) :=
  (((forN (aList.length : Int) (fun (i3 : Int) (_ : Unit) => ((at' aList i3).bind fun x7 => ((spec_IsClaim x7).bind fun x8 => (bif (!x8) then some (.inr (.inr false)) else some (.inl ()))))) (fun (_ : Unit) => .inl ()) 0 ())).bind (Sum.elim (fun (_ : Unit) => some (decide ((aList.length : Int) ≤ 12))) some))
theorem spec_AreClaims_run (aList : (List Claim)) (r : Bool) (h : spec_AreClaims aList = some r) : SCall Tryz.prog 28 [.v (vl eClaim aList)] ⟨[.v (vb r)], [], false⟩ := by
  refine scall_in Tryz.func28 rfl [(.tmp 2)] rfl (fun r => ⟨[.v (vb r)], [], false⟩) (r := r) ?_
  unfold spec_AreClaims at h
  refine srk tbok ⟨19, [(0, vl eClaim aList)], []⟩ ?_
  refine swp_seq ?_
  refine srk tbok ⟨19, [(0, vl eClaim aList), (3, vi 0)], []⟩ ?_
  refine swp_seqE (r := r) h (fun j1 => ⟨19, [(0, vl eClaim aList)], []⟩) (fun v2 h => ?_) (fun j1 h => ?_)
  refine swp_blk (a := v2) ?_
  refine swp_lpL (r := v2) (s := (0, ())) _ (fun s3 => ⟨19, [(0, vl eClaim aList), (3, vi s3.1)], []⟩) _ (Le.sub0) h (fun s3 v4 h => ?_)
  refine swp_seq ?_
  refine srk tbok ⟨19, [(0, vl eClaim aList), (3, vi s3.1), (7, vb (decide (s3.1 < (aList.length : Int))))], []⟩ ?_
  refine swp_cd h (fun h => ?_) fun h => ?_
  refine swp_skip ?_
  refine nx_n ?_
  refine swp_seq ?_
  refine swp_seqL (r := v4) h (fun j5 => ⟨19, [(0, vl eClaim aList), (3, vi s3.1)], []⟩) (fun v6 h => ?_) (fun j5 h => ?_)
  refine swp_blk (a := v6) ?_
  refine sr ?_
  refine SRun.ck tbok 2 ⟨19, [(0, vl eClaim aList), (3, vi s3.1), (10, vl eClaim aList), (11, vi s3.1)], []⟩ ?_
  obtain ⟨x7, hx7, h⟩ := bind_some h
  refine SRun.ls (x_index (L := aList) (f := eClaim) (ti := ti24) (tj := ti35) (e := 35) (k := .i64) tbok rfl hx7) ?_
  refine SRun.ck tbok 1 ⟨19, [(0, vl eClaim aList), (3, vi s3.1), (13, .agg (tc eClaim x7))], []⟩ ?_
  obtain ⟨x8, hx8, h⟩ := bind_some h
  refine SRun.ls (xc ents38 (spec_IsClaim_run x7 _ hx8)) ?_
  refine ckn tbok 1 ⟨19, [(0, vl eClaim aList), (3, vi s3.1), (15, vb (!x8))], []⟩ ?_
  refine swp_cd h (fun h => ?_) fun h => ?_
  refine srk tbok ⟨19, [(2, vb false)], []⟩ ?_
  refine swp_ret ?_
  obtain rfl := inj h
  exact q_br (q_rr (q_rr (q_br (q_rr (q_fr (f1 fv))))))
  refine swp_skip ?_
  obtain rfl := inj h
  exact q_bn (q_l (Le.sub0))
  refine swp_reg ?_
  refine SRun.ck tbok 3 ⟨19, [(0, vl eClaim aList), (3, vi (w64 (s3.1 + 1)))], []⟩ ?_
  refine SRun.nil ?_
  obtain rfl := inj h
  exact q_l (Le.sub0)
  refine swp_exit ?_
  obtain rfl := inj h
  exact nx_e (q_re (q_bh (q_l (Le.sub0))))
  refine srk tbok ⟨19, [(2, vb (decide ((aList.length : Int) ≤ 12)))], []⟩ ?_
  refine swp_ret ?_
  obtain rfl := inj h
  exact q_fr (f1 fv)
theorem ents28 : Ents Tryz.prog 28 := ents_of Tryz.func28 (by kernel_rfl) rfl
noncomputable def spec_AreConsistent (aList : (List Claim)) : Option (Bool × Int) :=
  ((spec_AreClaims aList).bind fun x1 => (bif (!x1) then some (false, 1) else ((spec_l21Consistent aList).bind fun x2 => some (x2, 0))))
theorem spec_AreConsistent_run (aList : (List Claim)) (r : Bool × Int) (h : spec_AreConsistent aList = some r) : SCall Tryz.prog 7 [.v (vl eClaim aList)] ⟨[.v (vb r.1), .v (vi r.2)], [], false⟩ := by
  refine scall_in Tryz.func7 rfl [(.tmp 2), (.tmp 3)] rfl (fun r => ⟨[.v (vb r.1), .v (vi r.2)], [], false⟩) (r := r) ?_
  unfold spec_AreConsistent at h
  refine srk tbok ⟨9, [(0, vl eClaim aList)], []⟩ ?_
  refine swp_seq ?_
  refine sr ?_
  refine SRun.ck tbok 1 ⟨9, [(0, vl eClaim aList), (4, vl eClaim aList)], []⟩ ?_
  obtain ⟨x1, hx1, h⟩ := bind_some h
  refine SRun.ls (xc ents28 (spec_AreClaims_run aList _ hx1)) ?_
  refine ckn tbok 1 ⟨9, [(0, vl eClaim aList), (6, vb (!x1))], []⟩ ?_
  refine swp_cd h (fun h => ?_) fun h => ?_
  refine srk tbok ⟨9, [(2, vb false), (3, vi 1)], []⟩ ?_
  refine swp_ret ?_
  obtain rfl := inj h
  exact nx_r (q_fr (f2 fv fv))
  refine swp_skip ?_
  refine nx_n ?_
  refine sr ?_
  refine SRun.ck tbok 1 ⟨9, [(7, vl eClaim aList)], []⟩ ?_
  obtain ⟨x2, hx2, h⟩ := bind_some h
  refine SRun.ls (xc ents29 (spec_l21Consistent_run aList _ hx2)) ?_
  refine ckn tbok 2 ⟨9, [(2, vb x2), (3, vi 0)], []⟩ ?_
  refine swp_ret ?_
  obtain rfl := inj h
  exact q_fr (f2 fv fv)
theorem ents7 : Ents Tryz.prog 7 := ents_of Tryz.func7 (by kernel_rfl) rfl
noncomputable def spec_l20Indices (aS : l01Source) (aList : (List Claim)) : Option ((List Int) × l01Source) :=
  (((forS (aList.length : Int) (fun (i3 : Int) (s3 : (List Int) × l01Source) => ((spec_l01Next s3.2 2).bind fun x7 => (bif (x7.1 == 0) then ((app' s3.1 ([i3] : List Int)).bind fun x8 => some (x8, x7.2)) else some (s3.1, x7.2)))) (fun (s3 : (List Int) × l01Source) => (s3.1, s3.2)) 0 (([] : List Int), aS))).bind fun (j1 : (List Int) × l01Source) => ((spec_l01Next j1.2 16).bind fun x9 => (((bif (x9.1 == 0) then ((spec_l01Next x9.2 14).bind fun x12 => ((app' j1.1 ([(w64 (x12.1 - 1))] : List Int)).bind fun x13 => some (x13, x12.2))) else some (j1.1, x9.2))).bind fun (j10 : (List Int) × l01Source) => some (j10.1, j10.2))))
theorem spec_l20Indices_run (aS : l01Source) (aList : (List Claim)) (r : (List Int) × l01Source) (h : spec_l20Indices aS aList = some r) : SCall Tryz.prog 30 [.o (.box [vl (eI .u8) aS.code, vi aS.at', vi aS.seed]), .v (vl eClaim aList)] ⟨[.own 2 1 r.1.length (r.1.map (eI .i64))], [(0, .box (tc el01Source r.2))], false⟩ := by
  refine scall_in Tryz.func30 rfl [(.tmp 4)] rfl (fun r => ⟨[.own 2 1 r.1.length (r.1.map (eI .i64))], [(0, .box (tc el01Source r.2))], false⟩) (r := r) ?_
  unfold spec_l20Indices at h
  refine srk tbok ⟨31, [(0, .ref 1000000 0), (1, vl eClaim aList)], [(1000000, .box (tc el01Source aS))]⟩ ?_
  refine srk tbok ⟨31, [(0, .ref 1000000 0), (1, vl eClaim aList), (5, .own 7)], [(7, oa 2 1 (eI .i64) ([] : List Int)), (1000000, .box (tc el01Source aS))]⟩ ?_
  refine swp_seq ?_
  refine srk tbok ⟨31, [(0, .ref 1000000 0), (1, vl eClaim aList), (5, .own 7), (6, vi 0)], [(7, oa 2 1 (eI .i64) ([] : List Int)), (1000000, .box (tc el01Source aS))]⟩ ?_
  refine swp_seqJ h (fun j1 => ⟨31, [(0, .ref 1000000 0), (5, .own 5)], [(5, oa 2 1 (eI .i64) j1.1), (1000000, .box (tc el01Source j1.2))]⟩) (fun v2 h => ?_) (fun j1 h => ?_)
  refine swp_blk (a := v2) ?_
  refine swp_lpL (r := v2) (s := (0, ([] : List Int), aS)) _ (fun s3 => ⟨31, [(0, .ref 1000000 0), (1, vl eClaim aList), (5, .own 5), (6, vi s3.1)], [(5, oa 2 1 (eI .i64) s3.2.1), (1000000, .box (tc el01Source s3.2.2))]⟩) _ (Le.rr [7, 1000000] [(7, 5)]) h (fun s3 v4 h => ?_)
  refine swp_seq ?_
  refine srk tbok ⟨31, [(0, .ref 1000000 0), (1, vl eClaim aList), (5, .own 5), (6, vi s3.1), (11, vb (decide (s3.1 < (aList.length : Int))))], [(5, oa 2 1 (eI .i64) s3.2.1), (1000000, .box (tc el01Source s3.2.2))]⟩ ?_
  refine swp_cd h (fun h => ?_) fun h => ?_
  refine swp_skip ?_
  refine nx_n ?_
  refine swp_seq ?_
  refine swp_seqJ h (fun j5 => ⟨31, [(0, .ref 1000000 0), (1, vl eClaim aList), (5, .own 5), (6, vi s3.1)], [(5, oa 2 1 (eI .i64) j5.1), (1000000, .box (tc el01Source j5.2))]⟩) (fun v6 h => ?_) (fun j5 h => ?_)
  refine swp_blk (a := v6) ?_
  refine sr ?_
  refine SRun.ck tbok 1 ⟨31, [(0, .ref 1000000 0), (1, vl eClaim aList), (5, .own 5), (6, vi s3.1), (14, .ref 1000000 0)], [(5, oa 2 1 (eI .i64) s3.2.1), (1000000, .box (tc el01Source s3.2.2))]⟩ ?_
  obtain ⟨x7, hx7, h⟩ := bind_some h
  refine SRun.estep (xe ents23 (spec_l01Next_run s3.2.2 2 _ hx7)) ?_
  refine ckn tbok 1 ⟨31, [(0, .ref 1000000 0), (1, vl eClaim aList), (5, .own 5), (6, vi s3.1), (16, vb (x7.1 == 0))], [(5, oa 2 1 (eI .i64) s3.2.1), (1000000, .box (tc el01Source x7.2))]⟩ ?_
  refine swp_cd h (fun h => ?_) fun h => ?_
  refine swp_reg ?_
  refine SRun.ck tbok 3 ⟨31, [(0, .ref 1000000 0), (1, vl eClaim aList), (6, vi s3.1), (17, .own 5), (19, .own 19)], [(5, oa 2 1 (eI .i64) s3.2.1), (19, oa 2 1 (eI .i64) ([s3.1] : List Int)), (1000000, .box (tc el01Source x7.2))]⟩ ?_
  obtain ⟨x8, hx8, h⟩ := bind_some h
  refine SRun.estep (x_append (f := (eI .i64)) (t := 28) (ti := ti28) (tj := ti2) (zs := [.int .i64 0]) (e := 2) (m := 1) (d := 5) (xv := .own 19) hx8 tbok rfl rfl rfl rfl (x_src_o (e := 2))) ?_
  refine SRun.ck tbok 1 ⟨31, [(0, .ref 1000000 0), (1, vl eClaim aList), (5, .own 20), (6, vi s3.1)], [(20, oa 2 1 (eI .i64) x8), (1000000, .box (tc el01Source x7.2))]⟩ ?_
  refine SRun.nil ?_
  obtain rfl := inj h
  exact q_bn (q_j (Le.rr [20, 1000000] [(20, 5)]))
  refine swp_skip ?_
  obtain rfl := inj h
  exact q_bn (q_j (Le.sub0))
  refine swp_reg ?_
  refine SRun.ck tbok 3 ⟨31, [(0, .ref 1000000 0), (1, vl eClaim aList), (5, .own 5), (6, vi (w64 (s3.1 + 1)))], [(5, oa 2 1 (eI .i64) j5.1), (1000000, .box (tc el01Source j5.2))]⟩ ?_
  refine SRun.nil ?_
  obtain rfl := inj h
  exact q_l (Le.sub0)
  refine swp_exit ?_
  obtain rfl := inj h
  exact nx_e (q_re (q_bh (q_j (Le.sub0))))
  refine swp_seq ?_
  refine sr ?_
  refine SRun.ck tbok 1 ⟨31, [(0, .ref 1000000 0), (5, .own 5), (21, .ref 1000000 0)], [(5, oa 2 1 (eI .i64) j1.1), (1000000, .box (tc el01Source j1.2))]⟩ ?_
  obtain ⟨x9, hx9, h⟩ := bind_some h
  refine SRun.estep (xe ents23 (spec_l01Next_run j1.2 16 _ hx9)) ?_
  refine ckn tbok 1 ⟨31, [(0, .ref 1000000 0), (5, .own 5), (23, vb (x9.1 == 0))], [(5, oa 2 1 (eI .i64) j1.1), (1000000, .box (tc el01Source x9.2))]⟩ ?_
  refine swp_seqJ h (fun j10 => ⟨31, [(5, .own 5)], [(5, oa 2 1 (eI .i64) j10.1), (1000000, .box (tc el01Source j10.2))]⟩) (fun v11 h => ?_) (fun j10 h => ?_)
  refine swp_cd h (fun h => ?_) fun h => ?_
  refine swp_reg ?_
  refine SRun.ck tbok 2 ⟨31, [(24, .own 5), (25, .ref 1000000 0)], [(5, oa 2 1 (eI .i64) j1.1), (1000000, .box (tc el01Source x9.2))]⟩ ?_
  obtain ⟨x12, hx12, h⟩ := bind_some h
  refine SRun.estep (xe ents23 (spec_l01Next_run x9.2 14 _ hx12)) ?_
  refine SRun.ck tbok 2 ⟨31, [(24, .own 5), (28, .own 28)], [(5, oa 2 1 (eI .i64) j1.1), (28, oa 2 1 (eI .i64) ([(w64 (x12.1 - 1))] : List Int)), (1000000, .box (tc el01Source x12.2))]⟩ ?_
  obtain ⟨x13, hx13, h⟩ := bind_some h
  refine SRun.estep (x_append (f := (eI .i64)) (t := 28) (ti := ti28) (tj := ti2) (zs := [.int .i64 0]) (e := 2) (m := 1) (d := 5) (xv := .own 28) hx13 tbok rfl rfl rfl rfl (x_src_o (e := 2))) ?_
  refine SRun.ck tbok 1 ⟨31, [(5, .own 29)], [(29, oa 2 1 (eI .i64) x13), (1000000, .box (tc el01Source x12.2))]⟩ ?_
  refine SRun.nil ?_
  obtain rfl := inj h
  exact q_j (Le.rr [29, 1000000] [(29, 5)])
  refine swp_skip ?_
  obtain rfl := inj h
  exact q_j (Le.sub0)
  refine srk tbok ⟨31, [(4, .own 5)], [(5, oa 2 1 (eI .i64) j10.1), (1000000, .box (tc el01Source j10.2))]⟩ ?_
  refine swp_ret ?_
  obtain rfl := inj h
  exact q_fr (fin_io (f1 (fo (eI_flat .i64))) (y := .box (tc el01Source j10.2)) (by kernel_rfl) rfl (by kernel_rfl) (by kernel_rfl))
theorem ents30 : Ents Tryz.prog 30 := ents_of Tryz.func30 (by kernel_rfl) rfl
noncomputable def spec_DrawAreChosenConsistent (aCode : (List Int)) : Option ((List Claim) × (List Int)) :=
  ((spec_l01From aCode).bind fun x1 => ((spec_l21List x1).bind fun x2 => ((spec_l20Indices x2.2 x2.1).bind fun x3 => some (x2.1, x3.1))))
theorem spec_DrawAreChosenConsistent_run (aCode : (List Int)) (r : (List Claim) × (List Int)) (h : spec_DrawAreChosenConsistent aCode = some r) : SCall Tryz.prog 8 [.v (vl (eI .u8) aCode)] ⟨[.v (vl eClaim r.1), .v (vl (eI .i64) r.2)], [], true⟩ := by
  refine scall_in Tryz.func8 rfl [(.tmp 2), (.tmp 3)] rfl (fun r => ⟨[.v (vl eClaim r.1), .v (vl (eI .i64) r.2)], [], true⟩) (r := r) ?_
  unfold spec_DrawAreChosenConsistent at h
  refine srk tbok ⟨14, [(0, vl (eI .u8) aCode)], []⟩ ?_
  refine sr ?_
  refine SRun.ck tbok 1 ⟨14, [(6, vl (eI .u8) aCode)], []⟩ ?_
  obtain ⟨x1, hx1, h⟩ := bind_some h
  refine SRun.ls (xc ents22 (spec_l01From_run aCode _ hx1)) ?_
  refine ckn tbok 1 ⟨14, [(4, .ref 7 0)], [(7, .box (tc el01Source x1))]⟩ ?_
  refine sr ?_
  refine SRun.ck tbok 1 ⟨14, [(4, .ref 7 0), (8, .ref 7 0)], [(7, .box (tc el01Source x1))]⟩ ?_
  obtain ⟨x2, hx2, h⟩ := bind_some h
  refine SRun.estep (xe ents25 (spec_l21List_run x1 _ hx2)) ?_
  refine ckn tbok 1 ⟨14, [(4, .ref 7 0), (5, .own 9)], [(7, .box (tc el01Source x2.2)), (9, oa 35 7 eClaim x2.1)]⟩ ?_
  refine sr ?_
  refine SRun.ck tbok 3 ⟨14, [(10, .own 9), (11, .ref 7 0), (12, .own 9)], [(7, .box (tc el01Source x2.2)), (9, oa 35 7 eClaim x2.1)]⟩ ?_
  refine SRun.le (Le.frz' (d := 9) (e := 35) (m := 7) (n := x2.1.length) (es := x2.1.map eClaim) (by kernel_rfl) (by kernel_rfl)) ?_
  obtain ⟨x3, hx3, h⟩ := bind_some h
  refine SRun.estep (xe ents30 (spec_l20Indices_run x2.2 x2.1 _ hx3)) ?_
  refine ckn tbok 2 ⟨14, [(2, vl eClaim x2.1), (3, .own 13)], [(13, oa 2 1 (eI .i64) x3.1)]⟩ ?_
  refine swp_le (Le.frz' (d := 13) (e := 2) (m := 1) (n := x3.1.length) (es := x3.1.map (eI .i64)) (by kernel_rfl) (by kernel_rfl)) ?_
  refine swp_ret ?_
  obtain rfl := inj h
  exact q_fr (f2 ft ft)
theorem ents8 : Ents Tryz.prog 8 := ents_of Tryz.func8 (by kernel_rfl) rfl
noncomputable def impl_length_Claim (aList : (List Claim)) : Option (Int) :=
  some (aList.length : Int)
theorem impl_length_Claim_run (aList : (List Claim)) (r : Int) (h : impl_length_Claim aList = some r) : SCall Tryz.prog 56 [.v (vl eClaim aList)] ⟨[.v (vi r)], [], false⟩ := by
  refine scall_in Tryz.func56 rfl [(.tmp 2)] rfl (fun r => ⟨[.v (vi r)], [], false⟩) (r := r) ?_
  unfold impl_length_Claim at h
  refine srk tbok ⟨5, [(0, vl eClaim aList)], []⟩ ?_
  refine srk tbok ⟨5, [(2, vi (aList.length : Int))], []⟩ ?_
  refine swp_ret ?_
  obtain rfl := inj h
  exact q_fr (f1 fv)
theorem ents56 : Ents Tryz.prog 56 := ents_of Tryz.func56 (by kernel_rfl) rfl
noncomputable def impl_areIndices (aList : (List Int)) (aN : Int) : Option (Bool) :=
  (((forN (aList.length : Int) (fun (i3 : Int) (_ : Unit) => ((at' aList i3).bind fun x7 => ((((impl_within x7 0 (w64 (aN - 1))).bind fun x8 => (bif (!x8) then some true else (bif (decide (i3 > 0)) then ((at' aList (w64 (i3 - 1))).bind fun x9 => some (decide (x9 ≥ x7))) else some false)))).bind fun (j10 : Bool) => (bif j10 then some (.inr (.inr false)) else some (.inl ()))))) (fun (_ : Unit) => .inl ()) 0 ())).bind (Sum.elim (fun (_ : Unit) => some true) some))
theorem impl_areIndices_run (aList : (List Int)) (aN : Int) (r : Bool) (h : impl_areIndices aList aN = some r) : SCall Tryz.prog 55 [.v (vl (eI .i64) aList), .v (vi aN)] ⟨[.v (vb r)], [], false⟩ := by
  refine scall_in Tryz.func55 rfl [(.tmp 4)] rfl (fun r => ⟨[.v (vb r)], [], false⟩) (r := r) ?_
  unfold impl_areIndices at h
  refine srk tbok ⟨33, [(0, vl (eI .i64) aList), (1, vi aN)], []⟩ ?_
  refine swp_seq ?_
  refine srk tbok ⟨33, [(0, vl (eI .i64) aList), (1, vi aN), (7, vl (eI .i64) aList), (8, vi (aList.length : Int)), (9, vi 0)], []⟩ ?_
  refine swp_seqE (r := r) h (fun j1 => ⟨33, [], []⟩) (fun v2 h => ?_) (fun j1 h => ?_)
  refine swp_blk (a := v2) ?_
  refine swp_lpL (r := v2) (s := (0, ())) _ (fun s3 => ⟨33, [(0, vl (eI .i64) aList), (1, vi aN), (7, vl (eI .i64) aList), (8, vi (aList.length : Int)), (9, vi s3.1)], []⟩) _ (Le.sub0) h (fun s3 v4 h => ?_)
  refine srk tbok ⟨33, [(0, vl (eI .i64) aList), (1, vi aN), (7, vl (eI .i64) aList), (8, vi (aList.length : Int)), (9, vi s3.1), (10, vb (decide (s3.1 < (aList.length : Int))))], []⟩ ?_
  refine swp_seq ?_
  refine swp_cd h (fun h => ?_) fun h => ?_
  refine swp_skip ?_
  refine nx_n ?_
  refine swp_seq ?_
  refine swp_seqL (r := v4) h (fun j5 => ⟨33, [(0, vl (eI .i64) aList), (1, vi aN), (7, vl (eI .i64) aList), (8, vi (aList.length : Int)), (9, vi s3.1)], []⟩) (fun v6 h => ?_) (fun j5 h => ?_)
  refine swp_blk (a := v6) ?_
  refine sr ?_
  refine SRun.ck tbok 1 ⟨33, [(0, vl (eI .i64) aList), (1, vi aN), (7, vl (eI .i64) aList), (8, vi (aList.length : Int)), (9, vi s3.1), (11, vi s3.1)], []⟩ ?_
  obtain ⟨x7, hx7, h⟩ := bind_some h
  refine SRun.ls (x_index (L := aList) (f := (eI .i64)) (ti := ti28) (tj := ti2) (e := 2) (k := .i64) tbok rfl hx7) ?_
  refine ckn tbok 3 ⟨33, [(0, vl (eI .i64) aList), (1, vi aN), (5, vi s3.1), (6, vi x7), (7, vl (eI .i64) aList), (8, vi (aList.length : Int)), (9, vi s3.1)], []⟩ ?_
  refine swp_seq ?_
  refine swp_regJ h (fun j10 => ⟨33, [(0, vl (eI .i64) aList), (1, vi aN), (7, vl (eI .i64) aList), (8, vi (aList.length : Int)), (9, vi s3.1), (31, vb j10)], []⟩) (fun v11 h => ?_) (fun j10 h => ?_)
  refine SRun.ck tbok 3 ⟨33, [(0, vl (eI .i64) aList), (1, vi aN), (5, vi s3.1), (6, vi x7), (7, vl (eI .i64) aList), (8, vi (aList.length : Int)), (9, vi s3.1), (14, vi x7), (16, vi (w64 (aN - 1)))], []⟩ ?_
  obtain ⟨x8, hx8, h⟩ := bind_some h
  refine SRun.ls (xc ents64 (impl_within_run x7 0 (w64 (aN - 1)) _ hx8)) ?_
  refine SRun.ck tbok 2 ⟨33, [(0, vl (eI .i64) aList), (1, vi aN), (5, vi s3.1), (6, vi x7), (7, vl (eI .i64) aList), (8, vi (aList.length : Int)), (9, vi s3.1), (19, vb (!x8))], []⟩ ?_
  refine SRun.cu [(19, fun b => b)] h (fun h => ?_) fun h => ?_
  refine SRun.ck tbok 12 ⟨33, [(0, vl (eI .i64) aList), (1, vi aN), (7, vl (eI .i64) aList), (8, vi (aList.length : Int)), (9, vi s3.1), (31, vb true)], []⟩ ?_
  refine SRun.nil ?_
  obtain rfl := inj h
  exact Le.sub0
  refine SRun.ck tbok 3 ⟨33, [(0, vl (eI .i64) aList), (1, vi aN), (5, vi s3.1), (6, vi x7), (7, vl (eI .i64) aList), (8, vi (aList.length : Int)), (9, vi s3.1), (19, vb false), (22, vb (decide (s3.1 > 0)))], []⟩ ?_
  refine SRun.cu [(22, fun b => b)] h (fun h => ?_) fun h => ?_
  refine SRun.ck tbok 3 ⟨33, [(0, vl (eI .i64) aList), (1, vi aN), (6, vi x7), (7, vl (eI .i64) aList), (8, vi (aList.length : Int)), (9, vi s3.1), (19, vb false), (22, vb true), (23, vl (eI .i64) aList), (25, vi (w64 (s3.1 - 1)))], []⟩ ?_
  obtain ⟨x9, hx9, h⟩ := bind_some h
  refine SRun.ls (x_index (L := aList) (f := (eI .i64)) (ti := ti28) (tj := ti2) (e := 2) (k := .i64) tbok rfl hx9) ?_
  refine SRun.ck tbok 5 ⟨33, [(0, vl (eI .i64) aList), (1, vi aN), (7, vl (eI .i64) aList), (8, vi (aList.length : Int)), (9, vi s3.1), (31, vb (decide (x9 ≥ x7)))], []⟩ ?_
  refine SRun.nil ?_
  obtain rfl := inj h
  exact Le.sub0
  refine SRun.ck tbok 9 ⟨33, [(0, vl (eI .i64) aList), (1, vi aN), (7, vl (eI .i64) aList), (8, vi (aList.length : Int)), (9, vi s3.1), (31, vb false)], []⟩ ?_
  refine SRun.nil ?_
  obtain rfl := inj h
  exact Le.sub0
  refine swp_cd h (fun h => ?_) fun h => ?_
  refine srk tbok ⟨33, [(4, vb false)], []⟩ ?_
  refine swp_ret ?_
  obtain rfl := inj h
  exact q_br (q_rr (q_rr (q_br (q_rr (q_fr (f1 fv))))))
  refine swp_skip ?_
  obtain rfl := inj h
  exact q_bn (q_l (Le.sub0))
  refine swp_reg ?_
  refine SRun.ck tbok 2 ⟨33, [(0, vl (eI .i64) aList), (1, vi aN), (7, vl (eI .i64) aList), (8, vi (aList.length : Int)), (9, vi (w64 (s3.1 + 1)))], []⟩ ?_
  refine SRun.nil ?_
  obtain rfl := inj h
  exact q_l (Le.sub0)
  refine swp_exit ?_
  obtain rfl := inj h
  exact nx_e (q_re (q_bh (q_l (Le.sub0))))
  refine srk tbok ⟨33, [(4, vb true)], []⟩ ?_
  refine swp_ret ?_
  obtain rfl := inj h
  exact q_fr (f1 fv)
theorem ents55 : Ents Tryz.prog 55 := ents_of Tryz.func55 (by kernel_rfl) rfl
noncomputable def impl_chosenCode (aList : (List Claim)) (aIndices : (List Int)) : Option (Int) :=
  ((((impl_AreClaims aList).bind fun x3 => (bif (!x3) then some (.inr 1) else ((impl_length_Claim aList).bind fun x4 => ((impl_areIndices aIndices x4).bind fun x5 => (bif (!x5) then some (.inr 2) else some (.inl ()))))))).bind (Sum.elim (fun (_ : Unit) => some 0) some))
theorem impl_chosenCode_run (aList : (List Claim)) (aIndices : (List Int)) (r : Int) (h : impl_chosenCode aList aIndices = some r) : SCall Tryz.prog 31 [.v (vl eClaim aList), .v (vl (eI .i64) aIndices)] ⟨[.v (vi r)], [], false⟩ := by
  refine scall_in Tryz.func31 rfl [(.tmp 4)] rfl (fun r => ⟨[.v (vi r)], [], false⟩) (r := r) ?_
  unfold impl_chosenCode at h
  refine srk tbok ⟨15, [(0, vl eClaim aList), (1, vl (eI .i64) aIndices)], []⟩ ?_
  refine swp_seq ?_
  refine swp_seqE (r := r) h (fun j1 => ⟨15, [], []⟩) (fun v2 h => ?_) (fun j1 h => ?_)
  refine swp_blk (a := v2) ?_
  refine sr ?_
  refine SRun.ck tbok 1 ⟨15, [(0, vl eClaim aList), (1, vl (eI .i64) aIndices), (6, vl eClaim aList)], []⟩ ?_
  obtain ⟨x3, hx3, h⟩ := bind_some h
  refine SRun.ls (xc ents26 (impl_AreClaims_run aList _ hx3)) ?_
  refine ckn tbok 2 ⟨15, [(0, vl eClaim aList), (1, vl (eI .i64) aIndices), (5, vb (!x3))], []⟩ ?_
  refine swp_cd h (fun h => ?_) fun h => ?_
  refine srk tbok ⟨15, [(4, vi 1)], []⟩ ?_
  refine swp_ret ?_
  obtain rfl := inj h
  exact q_br (q_rr (q_fr (f1 fv)))
  refine sr ?_
  refine SRun.ck tbok 2 ⟨15, [(10, vl (eI .i64) aIndices), (11, vl eClaim aList)], []⟩ ?_
  obtain ⟨x4, hx4, h⟩ := bind_some h
  refine SRun.ls (xc ents56 (impl_length_Claim_run aList _ hx4)) ?_
  obtain ⟨x5, hx5, h⟩ := bind_some h
  refine SRun.ls (xc ents55 (impl_areIndices_run aIndices x4 _ hx5)) ?_
  refine ckn tbok 2 ⟨15, [(9, vb (!x5))], []⟩ ?_
  refine swp_cd h (fun h => ?_) fun h => ?_
  refine srk tbok ⟨15, [(4, vi 2)], []⟩ ?_
  refine swp_ret ?_
  obtain rfl := inj h
  exact q_br (q_rr (q_fr (f1 fv)))
  refine swp_skip ?_
  obtain rfl := inj h
  exact q_bn (q_l (Le.sub0))
  refine srk tbok ⟨15, [(4, vi 0)], []⟩ ?_
  refine swp_ret ?_
  obtain rfl := inj h
  exact q_fr (f1 fv)
theorem ents31 : Ents Tryz.prog 31 := ents_of Tryz.func31 (by kernel_rfl) rfl
end Go.Proofs.YtfllgbokdhhedaaGreatDoor.Sh
