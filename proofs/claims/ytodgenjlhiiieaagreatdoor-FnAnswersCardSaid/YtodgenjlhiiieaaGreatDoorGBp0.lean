/- Typed functions and the calls that do what they say. -/
import Derived.Test.YtodgenjlhiiieaaGreatDoorSE
import Derived.Test.YtodgenjlhiiieaaGreatDoorKA
import Derived.Test.YtodgenjlhiiieaaGreatDoorKC
import Derived.Test.YtodgenjlhiiieaaGreatDoorKF
import Derived.Test.YtodgenjlhiiieaaGreatDoorKS
import Derived.Test.YtodgenjlhiiieaaGreatDoorSN
import Derived.Test.YtodgenjlhiiieaaGreatDoorH1
namespace Go.Proofs.YtodgenjlhiiieaaGreatDoor.Sh
open Go.RowKit
set_option maxRecDepth 100000
set_option maxHeartbeats 4000000
structure Point where
  X : Int
  Y : Int
def ePoint (x : Point) : List Tr := [.int .i64 x.X, .int .i64 x.Y]
structure Candidate where
  Code : ByteArray
  Text : ByteArray
  At : Point
def eCandidate (x : Candidate) : List Tr := [.str x.Code, .str x.Text, .int .i64 x.At.X, .int .i64 x.At.Y]
theorem eCandidate_flat (x : Candidate) : ∀ t ∈ eCandidate x, t.flat = true := by simp [eCandidate, Tr.flat]
structure Site where
  Code : ByteArray
  At : Point
def eSite (x : Site) : List Tr := [.str x.Code, .int .i64 x.At.X, .int .i64 x.At.Y]
theorem eSite_flat (x : Site) : ∀ t ∈ eSite x, t.flat = true := by simp [eSite, Tr.flat]
structure Description where
  Kind : Int
  Count : Int
  Unit : ByteArray
  Direction : Int
  A : ByteArray
  B : ByteArray
def eDescription (x : Description) : List Tr := [.int .i64 x.Kind, .int .i64 x.Count, .str x.Unit, .int .i64 x.Direction, .str x.A, .str x.B]
theorem eDescription_flat (x : Description) : ∀ t ∈ eDescription x, t.flat = true := by simp [eDescription, Tr.flat]
structure Answer where
  Code : ByteArray
  Distance : Int
  Satisfied : Int
def eAnswer (x : Answer) : List Tr := [.str x.Code, .int .i64 x.Distance, .int .i64 x.Satisfied]
theorem eAnswer_flat (x : Answer) : ∀ t ∈ eAnswer x, t.flat = true := by simp [eAnswer, Tr.flat]
structure question where
  text : ByteArray
  sites : (List Site)
  descriptions : (List Description)
def equestion (x : question) : List Tr := [.str x.text, .sl x.sites.length (x.sites.map eSite), .sl x.descriptions.length (x.descriptions.map eDescription)]
structure l01Source where
  code : (List Int)
  at' : Int
  seed : Int
def el01Source (x : l01Source) : List Tr := [.sl x.code.length (x.code.map (eI .u8)), .int .i64 x.at', .int .i64 x.seed]
structure Mask where
  Low : Point
  Width : Int
  Height : Int
  Cells : (List Bool)
def eMask (x : Mask) : List Tr := [.int .i64 x.Low.X, .int .i64 x.Low.Y, .int .i64 x.Width, .int .i64 x.Height, .sl x.Cells.length (x.Cells.map eB)]
def ti2 : TI := ⟨1, 8, .int .i64, [.int .i64 0]⟩
def ti3 : TI := ⟨1, 8, .int .i64, [.int .i64 0]⟩
def ti4 : TI := ⟨1, 1, .bool, [.bool false]⟩
def ti5 : TI := ⟨1, 1, .int .u8, [.int .u8 0]⟩
def ti9 : TI := ⟨1, 16, .str, [.str (ByteArray.mk #[])]⟩
def ti28 : TI := ⟨1, 24, .slice 9, [.sl ([] : List ByteArray).length (([] : List ByteArray).map eS)]⟩
def ti31 : TI := ⟨1, 24, .slice 87, [.sl ([] : List Candidate).length (([] : List Candidate).map eCandidate)]⟩
def ti33 : TI := ⟨1, 24, .slice 92, [.sl ([] : List Site).length (([] : List Site).map eSite)]⟩
def ti35 : TI := ⟨1, 24, .slice 84, [.sl ([] : List Description).length (([] : List Description).map eDescription)]⟩
def ti46 : TI := ⟨1, 24, .slice 5, [.sl ([] : List Int).length (([] : List Int).map (eI .u8))]⟩
def ti54 : TI := ⟨1, 24, .slice 2, [.sl ([] : List Int).length (([] : List Int).map (eI .i64))]⟩
def ti59 : TI := ⟨3, 32, .struct [(0, 9), (1, 2), (2, 2)], [.str (ByteArray.mk #[]), .int .i64 0, .int .i64 0]⟩
def ti62 : TI := ⟨1, 24, .slice 59, [.sl ([] : List Answer).length (([] : List Answer).map eAnswer)]⟩
def ti84 : TI := ⟨6, 72, .struct [(0, 2), (1, 2), (2, 9), (3, 2), (4, 9), (5, 9)], [.int .i64 0, .int .i64 0, .str (ByteArray.mk #[]), .int .i64 0, .str (ByteArray.mk #[]), .str (ByteArray.mk #[])]⟩
def ti85 : TI := ⟨2, 16, .struct [(0, 2), (1, 2)], [.int .i64 0, .int .i64 0]⟩
def ti87 : TI := ⟨4, 48, .struct [(0, 9), (1, 9), (2, 85)], [.str (ByteArray.mk #[]), .str (ByteArray.mk #[]), .int .i64 0, .int .i64 0]⟩
def ti92 : TI := ⟨3, 32, .struct [(0, 9), (1, 85)], [.str (ByteArray.mk #[]), .int .i64 0, .int .i64 0]⟩
def ti113 : TI := ⟨3, 64, .struct [(0, 9), (1, 33), (2, 35)], [.str (ByteArray.mk #[]), .sl ([] : List Site).length (([] : List Site).map eSite), .sl ([] : List Description).length (([] : List Description).map eDescription)]⟩
def ti138 : TI := ⟨8, 128, .array 8 9, [.str (ByteArray.mk #[]), .str (ByteArray.mk #[]), .str (ByteArray.mk #[]), .str (ByteArray.mk #[]), .str (ByteArray.mk #[]), .str (ByteArray.mk #[]), .str (ByteArray.mk #[]), .str (ByteArray.mk #[])]⟩
def ti143 : TI := ⟨3, 40, .struct [(0, 46), (1, 3), (2, 2)], [.sl ([] : List Int).length (([] : List Int).map (eI .u8)), .int .i64 0, .int .i64 0]⟩
def ti148 : TI := ⟨1, 24, .slice 4, [.sl ([] : List Bool).length (([] : List Bool).map eB)]⟩
def ti150 : TI := ⟨5, 56, .struct [(0, 85), (2, 2), (3, 2), (4, 148)], [.int .i64 0, .int .i64 0, .int .i64 0, .int .i64 0, .sl ([] : List Bool).length (([] : List Bool).map eB)]⟩
def ti159 : TI := ⟨1, 24, .slice 35, [.sl ([] : List (List Description)).length (([] : List (List Description)).map (eL eDescription))]⟩
def ti175 : TI := ⟨1, 8, .int .u64, [.int .u64 0]⟩
def ti183 : TI := ⟨1, 24, .slice 3, [.sl ([] : List Int).length (([] : List Int).map (eI .i64))]⟩
def ti187 : TI := ⟨3, 24, .array 3 2, [.int .i64 0, .int .i64 0, .int .i64 0]⟩
def ti188 : TI := ⟨9, 72, .array 3 187, [.int .i64 0, .int .i64 0, .int .i64 0, .int .i64 0, .int .i64 0, .int .i64 0, .int .i64 0, .int .i64 0, .int .i64 0]⟩
def ti197 : TI := ⟨1, 4, .int .u32, [.int .u32 0]⟩
def ti199 : TI := ⟨1, 8, .int .u64, [.int .u64 0]⟩
def tbl : Tb := [(2, ti2), (3, ti3), (4, ti4), (5, ti5), (9, ti9), (28, ti28), (31, ti31), (33, ti33), (35, ti35), (46, ti46), (54, ti54), (59, ti59), (62, ti62), (84, ti84), (85, ti85), (87, ti87), (92, ti92), (113, ti113), (138, ti138), (143, ti143), (148, ti148), (150, ti150), (159, ti159), (175, ti175), (183, ti183), (187, ti187), (188, ti188), (197, ti197), (199, ti199)]
theorem tbok : TbOk Tryz.prog tbl := TbOk.cons ⟨by kernel_rfl, show Tryz.prog.underlying 2 = some (.int .i64) from by kernel_rfl⟩ (TbOk.cons ⟨by kernel_rfl, show Tryz.prog.underlying 3 = some (.int .i64) from by kernel_rfl⟩ (TbOk.cons ⟨by kernel_rfl, show Tryz.prog.underlying 4 = some (.bool) from by kernel_rfl⟩ (TbOk.cons ⟨by kernel_rfl, show Tryz.prog.underlying 5 = some (.int .u8) from by kernel_rfl⟩ (TbOk.cons ⟨by kernel_rfl, show Tryz.prog.underlying 9 = some (.string) from by kernel_rfl⟩ (TbOk.cons ⟨by kernel_rfl, show Tryz.prog.underlying 28 = some (.slice 9) from by kernel_rfl⟩ (TbOk.cons ⟨by kernel_rfl, show Tryz.prog.underlying 31 = some (.slice 87) from by kernel_rfl⟩ (TbOk.cons ⟨by kernel_rfl, show Tryz.prog.underlying 33 = some (.slice 92) from by kernel_rfl⟩ (TbOk.cons ⟨by kernel_rfl, show Tryz.prog.underlying 35 = some (.slice 84) from by kernel_rfl⟩ (TbOk.cons ⟨by kernel_rfl, show Tryz.prog.underlying 46 = some (.slice 5) from by kernel_rfl⟩ (TbOk.cons ⟨by kernel_rfl, show Tryz.prog.underlying 54 = some (.slice 2) from by kernel_rfl⟩ (TbOk.cons ⟨by kernel_rfl, show structOf Tryz.prog 59 = some [(0, 9), (1, 2), (2, 2)] from by kernel_rfl⟩ (TbOk.cons ⟨by kernel_rfl, show Tryz.prog.underlying 62 = some (.slice 59) from by kernel_rfl⟩ (TbOk.cons ⟨by kernel_rfl, show structOf Tryz.prog 84 = some [(0, 2), (1, 2), (2, 9), (3, 2), (4, 9), (5, 9)] from by kernel_rfl⟩ (TbOk.cons ⟨by kernel_rfl, show structOf Tryz.prog 85 = some [(0, 2), (1, 2)] from by kernel_rfl⟩ (TbOk.cons ⟨by kernel_rfl, show structOf Tryz.prog 87 = some [(0, 9), (1, 9), (2, 85)] from by kernel_rfl⟩ (TbOk.cons ⟨by kernel_rfl, show structOf Tryz.prog 92 = some [(0, 9), (1, 85)] from by kernel_rfl⟩ (TbOk.cons ⟨by kernel_rfl, show structOf Tryz.prog 113 = some [(0, 9), (1, 33), (2, 35)] from by kernel_rfl⟩ (TbOk.cons ⟨by kernel_rfl, show Tryz.prog.underlying 138 = some (.array 8 9) from by kernel_rfl⟩ (TbOk.cons ⟨by kernel_rfl, show structOf Tryz.prog 143 = some [(0, 46), (1, 3), (2, 2)] from by kernel_rfl⟩ (TbOk.cons ⟨by kernel_rfl, show Tryz.prog.underlying 148 = some (.slice 4) from by kernel_rfl⟩ (TbOk.cons ⟨by kernel_rfl, show structOf Tryz.prog 150 = some [(0, 85), (2, 2), (3, 2), (4, 148)] from by kernel_rfl⟩ (TbOk.cons ⟨by kernel_rfl, show Tryz.prog.underlying 159 = some (.slice 35) from by kernel_rfl⟩ (TbOk.cons ⟨by kernel_rfl, show Tryz.prog.underlying 175 = some (.int .u64) from by kernel_rfl⟩ (TbOk.cons ⟨by kernel_rfl, show Tryz.prog.underlying 183 = some (.slice 3) from by kernel_rfl⟩ (TbOk.cons ⟨by kernel_rfl, show Tryz.prog.underlying 187 = some (.array 3 2) from by kernel_rfl⟩ (TbOk.cons ⟨by kernel_rfl, show Tryz.prog.underlying 188 = some (.array 3 187) from by kernel_rfl⟩ (TbOk.cons ⟨by kernel_rfl, show Tryz.prog.underlying 197 = some (.int .u32) from by kernel_rfl⟩ (TbOk.cons ⟨by kernel_rfl, show Tryz.prog.underlying 199 = some (.int .u64) from by kernel_rfl⟩ (TbOk.nil _)))))))))))))))))))))))))))))
theorem mixed : Tryz.prog.follows .mixedOrders = true := by kernel_rfl
noncomputable def laws_big (aCode : (List Int)) : Option (Bool) :=
  some (decide ((aCode.length : Int) > 4096))
theorem laws_big_run (aCode : (List Int)) (r : Bool) (h : laws_big aCode = some r) : SCall Tryz.prog 26 [.v (vl (eI .u8) aCode)] ⟨[.v (vb r)], [], false⟩ := by
  refine scall_in Tryz.func26 rfl [(.tmp 2)] rfl (fun r => ⟨[.v (vb r)], [], false⟩) (r := r) ?_
  unfold laws_big at h
  refine srk tbok ⟨6, [(0, vl (eI .u8) aCode)], []⟩ ?_
  refine srk tbok ⟨6, [(2, vb (decide ((aCode.length : Int) > 4096)))], []⟩ ?_
  refine swp_ret ?_
  obtain rfl := inj h
  exact q_fr (f1 fv)
theorem ents26 : Ents Tryz.prog 26 := ents_of Tryz.func26 (by kernel_rfl) rfl
noncomputable def spec_l01From (aCode : (List Int)) : Option (l01Source) :=
  (((forH (fun (i3 : Int) (_ : l01Source) => ((decide (i3 < (aCode.length : Int))) && (decide (i3 < 64)))) (fun (i3 : Int) (s3 : l01Source) => ((at' aCode i3).bind fun x7 => some (l01Source.mk s3.code s3.at' (Int.tmod (w64 ((w64 (s3.seed * 73)) + (w64 x7))) 2147483647)))) (fun (s3 : l01Source) => s3) 0 (l01Source.mk aCode 0 51031))).bind fun (j1 : l01Source) => some j1)
theorem spec_l01From_run (aCode : (List Int)) (r : l01Source) (h : spec_l01From aCode = some r) : SCall Tryz.prog 71 [.v (vl (eI .u8) aCode)] ⟨[.box [vl (eI .u8) r.code, vi r.at', vi r.seed]], [], true⟩ := by
  refine scall_in Tryz.func71 rfl [(.tmp 2)] rfl (fun r => ⟨[.box [vl (eI .u8) r.code, vi r.at', vi r.seed]], [], true⟩) (r := r) ?_
  unfold spec_l01From at h
  refine sr ?_
  refine SRun.ls (x_lstep_skip rfl) ?_
  refine SRun.nx ?_
  refine sr ?_
  refine SRun.ck tbok 1 ⟨34, [(0, vl (eI .u8) aCode), (5, vl (eI .u8) aCode)], []⟩ ?_
  refine SRun.ls (x_lstep_build (v := .agg [vl (eI .u8) aCode, vi 0, vi 51031]) tbok rfl) ?_
  refine ckn tbok 2 ⟨34, [(0, vl (eI .u8) aCode), (3, .ref 7 0)], [(7, .box [vl (eI .u8) aCode, vi 0, vi 51031])]⟩ ?_
  refine swp_seq ?_
  refine srk tbok ⟨34, [(0, vl (eI .u8) aCode), (3, .ref 7 0), (4, vi 0)], [(7, .box [vl (eI .u8) aCode, vi 0, vi 51031])]⟩ ?_
  refine swp_seqJ h (fun j1 => ⟨34, [(3, .ref 7 0)], [(7, .box (tc el01Source j1))]⟩) (fun v2 h => ?_) (fun j1 h => ?_)
  refine swp_blk (a := v2) ?_
  refine swp_lpL (r := v2) (s := (0, (l01Source.mk aCode 0 51031))) _ (fun s3 => ⟨34, [(0, vl (eI .u8) aCode), (3, .ref 7 0), (4, vi s3.1)], [(7, .box (tc el01Source s3.2))]⟩) _ (Le.sub0) h (fun s3 v4 h => ?_)
  refine swp_seq ?_
  refine swp_seq ?_
  refine swp_regP ⟨34, [(0, vl (eI .u8) aCode), (3, .ref 7 0), (4, vi s3.1), (15, vb ((decide (s3.1 < (aCode.length : Int))) && (decide (s3.1 < 64))))], [(7, .box (tc el01Source s3.2))]⟩ ?_ ?_
  refine SRun.ck tbok 5 ⟨34, [(0, vl (eI .u8) aCode), (3, .ref 7 0), (4, vi s3.1), (12, vb (decide (s3.1 < (aCode.length : Int))))], [(7, .box (tc el01Source s3.2))]⟩ ?_
  generalize (decide (s3.1 < (aCode.length : Int))) = bb
  cases bb
  refine SRun.ck tbok 3 ⟨34, [(0, vl (eI .u8) aCode), (3, .ref 7 0), (4, vi s3.1), (15, vb false)], [(7, .box (tc el01Source s3.2))]⟩ ?_
  exact SRun.nil (Le.sub0)
  refine SRun.ck tbok 3 ⟨34, [(0, vl (eI .u8) aCode), (3, .ref 7 0), (4, vi s3.1), (15, vb (decide (s3.1 < 64)))], [(7, .box (tc el01Source s3.2))]⟩ ?_
  exact SRun.nil (Le.sub0)
  refine swp_cd h (fun h => ?_) fun h => ?_
  refine swp_skip ?_
  refine nx_n ?_
  refine swp_seq ?_
  refine swp_seqJ h (fun j5 => ⟨34, [(0, vl (eI .u8) aCode), (3, .ref 7 0), (4, vi s3.1)], [(7, .box (tc el01Source j5))]⟩) (fun v6 h => ?_) (fun j5 h => ?_)
  refine swp_blk (a := v6) ?_
  refine swp_dr mixed ?_
  refine DGo.ck tbok false 8 ⟨34, [(0, vl (eI .u8) aCode), (3, .ref 7 0), (4, vi s3.1), (18, .ref 7 0), (23, vi (w64 (s3.2.seed * 73))), (24, vl (eI .u8) aCode), (25, vi s3.1)], [(7, .box (tc el01Source s3.2))]⟩ ?_
  obtain ⟨x7, hx7, h⟩ := bind_some h
  refine DGo.step (x_index (L := aCode) (f := (eI .u8)) (ti := ti46) (tj := ti5) (e := 5) (k := .i64) tbok rfl hx7) ?_
  refine DGo.ck tbok false 6 ⟨34, [(0, vl (eI .u8) aCode), (3, .ref 7 0), (4, vi s3.1), (30, vi (Int.tmod (w64 ((w64 (s3.2.seed * 73)) + (w64 x7))) 2147483647)), (32, .ref 7 2)], [(7, .box (tc el01Source s3.2))]⟩ ?_
  refine DGo.seq (by kernel_rfl) (by kernel_rfl) ?_
  refine SRun.ck tbok 1 ⟨34, [(0, vl (eI .u8) aCode), (3, .ref 7 0), (4, vi s3.1)], [(7, .box [vl (eI .u8) s3.2.code, vi s3.2.at', vi (Int.tmod (w64 ((w64 (s3.2.seed * 73)) + (w64 x7))) 2147483647)])]⟩ ?_
  refine SRun.nil ?_
  obtain rfl := inj h
  exact q_bn (q_j (Le.sub0))
  refine swp_reg ?_
  refine SRun.ck tbok 3 ⟨34, [(0, vl (eI .u8) aCode), (3, .ref 7 0), (4, vi (w64 (s3.1 + 1)))], [(7, .box (tc el01Source j5))]⟩ ?_
  refine SRun.nil ?_
  obtain rfl := inj h
  exact q_l (Le.sub0)
  refine swp_exit ?_
  obtain rfl := inj h
  exact nx_e (q_re (q_bh (q_j (Le.sub0))))
  refine srk tbok ⟨34, [(2, .ref 7 0)], [(7, .box (tc el01Source j1))]⟩ ?_
  refine swp_ret ?_
  obtain rfl := inj h
  exact q_fr (f1 (finBT (d := 7) (holds_t (by kernel_rfl)) (by kernel_rfl) rfl (by kernel_rfl)))
theorem ents71 : Ents Tryz.prog 71 := ents_of Tryz.func71 (by kernel_rfl) rfl
noncomputable def spec_l01Next (aS : l01Source) (aN : Int) : Option (Int × l01Source) :=
  (bif (decide (aN ≤ 1)) then some (0, aS) else (((bif (decide (aS.at' < (aS.code.length : Int))) then ((at' aS.code aS.at').bind fun x3 => (bif ((decide (aN ≤ 256)) && ((Int.tmod (w64 (aS.at' + 1)) 2) == 0)) then ((at' aS.code (w64 ((w64 (aS.at' + 1)) - 1))).bind fun x4 => some ((w64 x4), (l01Source.mk aS.code (w64 (aS.at' + 1)) (Int.tmod (w64 ((w64 (aS.seed * 48271)) + 29)) 2147483647)))) else some ((w64 ((w64 (Int.tdiv (Int.tmod (w64 ((w64 (aS.seed * 48271)) + 29)) 2147483647) 31)) + (w64 x3))), (l01Source.mk aS.code (w64 (aS.at' + 1)) (Int.tmod (w64 ((w64 (aS.seed * 48271)) + 29)) 2147483647))))) else some ((w64 (Int.tdiv (Int.tmod (w64 ((w64 (aS.seed * 48271)) + 29)) 2147483647) 31)), (l01Source.mk aS.code aS.at' (Int.tmod (w64 ((w64 (aS.seed * 48271)) + 29)) 2147483647))))).bind fun (j1 : Int × l01Source) => ((nz' aN).bind fun _ => some ((Int.tmod j1.1 aN), j1.2))))
theorem spec_l01Next_run (aS : l01Source) (aN : Int) (r : Int × l01Source) (h : spec_l01Next aS aN = some r) : SCall Tryz.prog 73 [.o (.box [vl (eI .u8) aS.code, vi aS.at', vi aS.seed]), .v (vi aN)] ⟨[.v (vi r.1)], [(0, .box (tc el01Source r.2))], false⟩ := by
  refine scall_in Tryz.func73 rfl [(.tmp 4)] rfl (fun r => ⟨[.v (vi r.1)], [(0, .box (tc el01Source r.2))], false⟩) (r := r) ?_
  unfold spec_l01Next at h
  refine srk tbok ⟨78, [(0, .ref 1000000 0), (1, vi aN)], [(1000000, .box (tc el01Source aS))]⟩ ?_
  refine swp_seq ?_
  refine srk tbok ⟨78, [(0, .ref 1000000 0), (1, vi aN), (7, vb (decide (aN ≤ 1)))], [(1000000, .box (tc el01Source aS))]⟩ ?_
  refine swp_cd h (fun h => ?_) fun h => ?_
  refine srk tbok ⟨78, [(4, vi 0)], [(1000000, .box (tc el01Source aS))]⟩ ?_
  refine swp_ret ?_
  obtain rfl := inj h
  exact nx_r (q_fr (fin_io (f1 fv) (y := .box (tc el01Source aS)) (by kernel_rfl) rfl (by kernel_rfl) (by kernel_rfl)))
  refine swp_skip ?_
  refine nx_n ?_
  refine srk tbok ⟨78, [(0, .ref 1000000 0), (1, vi aN)], [(1000000, .box [vl (eI .u8) aS.code, vi aS.at', vi (Int.tmod (w64 ((w64 (aS.seed * 48271)) + 29)) 2147483647)])]⟩ ?_
  refine srk tbok ⟨78, [(0, .ref 1000000 0), (1, vi aN), (5, vi (w64 (Int.tdiv (Int.tmod (w64 ((w64 (aS.seed * 48271)) + 29)) 2147483647) 31)))], [(1000000, .box [vl (eI .u8) aS.code, vi aS.at', vi (Int.tmod (w64 ((w64 (aS.seed * 48271)) + 29)) 2147483647)])]⟩ ?_
  refine swp_seq ?_
  refine swp_seq ?_
  refine swp_dr mixed ?_
  refine DGo.ck tbok false 10 ⟨78, [(0, .ref 1000000 0), (1, vi aN), (5, vi (w64 (Int.tdiv (Int.tmod (w64 ((w64 (aS.seed * 48271)) + 29)) 2147483647) 31))), (32, vb (decide (aS.at' < (aS.code.length : Int))))], [(1000000, .box [vl (eI .u8) aS.code, vi aS.at', vi (Int.tmod (w64 ((w64 (aS.seed * 48271)) + 29)) 2147483647)])]⟩ ?_
  refine DGo.nx ?_
  refine swp_seqJ h (fun j1 => ⟨78, [(1, vi aN), (5, vi j1.1)], [(1000000, .box (tc el01Source j1.2))]⟩) (fun v2 h => ?_) (fun j1 h => ?_)
  refine swp_cd h (fun h => ?_) fun h => ?_
  refine swp_seq ?_
  refine swp_dr mixed ?_
  refine DGo.ck tbok false 9 ⟨78, [(0, .ref 1000000 0), (1, vi aN), (33, vi (w64 (Int.tdiv (Int.tmod (w64 ((w64 (aS.seed * 48271)) + 29)) 2147483647) 31))), (37, vl (eI .u8) aS.code), (41, vi aS.at')], [(1000000, .box [vl (eI .u8) aS.code, vi aS.at', vi (Int.tmod (w64 ((w64 (aS.seed * 48271)) + 29)) 2147483647)])]⟩ ?_
  obtain ⟨x3, hx3, h⟩ := bind_some h
  refine DGo.step (x_index (L := aS.code) (f := (eI .u8)) (ti := ti46) (tj := ti5) (e := 5) (k := .i64) tbok rfl hx3) ?_
  refine DGo.ck tbok false 4 ⟨78, [(0, .ref 1000000 0), (1, vi aN), (5, vi (w64 ((w64 (Int.tdiv (Int.tmod (w64 ((w64 (aS.seed * 48271)) + 29)) 2147483647) 31)) + (w64 x3))))], [(1000000, .box [vl (eI .u8) aS.code, vi aS.at', vi (Int.tmod (w64 ((w64 (aS.seed * 48271)) + 29)) 2147483647)])]⟩ ?_
  refine DGo.nx ?_
  refine srk tbok ⟨78, [(0, .ref 1000000 0), (1, vi aN), (5, vi (w64 ((w64 (Int.tdiv (Int.tmod (w64 ((w64 (aS.seed * 48271)) + 29)) 2147483647) 31)) + (w64 x3))))], [(1000000, .box [vl (eI .u8) aS.code, vi (w64 (aS.at' + 1)), vi (Int.tmod (w64 ((w64 (aS.seed * 48271)) + 29)) 2147483647)])]⟩ ?_
  refine swp_seq ?_
  refine swp_regP ⟨78, [(0, .ref 1000000 0), (1, vi aN), (5, vi (w64 ((w64 (Int.tdiv (Int.tmod (w64 ((w64 (aS.seed * 48271)) + 29)) 2147483647) 31)) + (w64 x3)))), (62, vb ((decide (aN ≤ 256)) && ((Int.tmod (w64 (aS.at' + 1)) 2) == 0)))], [(1000000, .box [vl (eI .u8) aS.code, vi (w64 (aS.at' + 1)), vi (Int.tmod (w64 ((w64 (aS.seed * 48271)) + 29)) 2147483647)])]⟩ ?_ ?_
  refine SRun.ck tbok 3 ⟨78, [(0, .ref 1000000 0), (1, vi aN), (5, vi (w64 ((w64 (Int.tdiv (Int.tmod (w64 ((w64 (aS.seed * 48271)) + 29)) 2147483647) 31)) + (w64 x3)))), (55, vb (decide (aN ≤ 256)))], [(1000000, .box [vl (eI .u8) aS.code, vi (w64 (aS.at' + 1)), vi (Int.tmod (w64 ((w64 (aS.seed * 48271)) + 29)) 2147483647)])]⟩ ?_
  generalize (decide (aN ≤ 256)) = bb
  cases bb
  refine SRun.ck tbok 7 ⟨78, [(0, .ref 1000000 0), (1, vi aN), (5, vi (w64 ((w64 (Int.tdiv (Int.tmod (w64 ((w64 (aS.seed * 48271)) + 29)) 2147483647) 31)) + (w64 x3)))), (62, vb false)], [(1000000, .box [vl (eI .u8) aS.code, vi (w64 (aS.at' + 1)), vi (Int.tmod (w64 ((w64 (aS.seed * 48271)) + 29)) 2147483647)])]⟩ ?_
  exact SRun.nil (Le.sub0)
  refine SRun.ck tbok 7 ⟨78, [(0, .ref 1000000 0), (1, vi aN), (5, vi (w64 ((w64 (Int.tdiv (Int.tmod (w64 ((w64 (aS.seed * 48271)) + 29)) 2147483647) 31)) + (w64 x3)))), (62, vb ((Int.tmod (w64 (aS.at' + 1)) 2) == 0))], [(1000000, .box [vl (eI .u8) aS.code, vi (w64 (aS.at' + 1)), vi (Int.tmod (w64 ((w64 (aS.seed * 48271)) + 29)) 2147483647)])]⟩ ?_
  exact SRun.nil (Le.sub0)
  refine swp_cd h (fun h => ?_) fun h => ?_
  refine swp_dr mixed ?_
  refine DGo.ck tbok false 9 ⟨78, [(1, vi aN), (66, vl (eI .u8) aS.code), (71, vi (w64 ((w64 (aS.at' + 1)) - 1)))], [(1000000, .box [vl (eI .u8) aS.code, vi (w64 (aS.at' + 1)), vi (Int.tmod (w64 ((w64 (aS.seed * 48271)) + 29)) 2147483647)])]⟩ ?_
  obtain ⟨x4, hx4, h⟩ := bind_some h
  refine DGo.step (x_index (L := aS.code) (f := (eI .u8)) (ti := ti46) (tj := ti5) (e := 5) (k := .i64) tbok rfl hx4) ?_
  refine DGo.ck tbok false 3 ⟨78, [(1, vi aN), (5, vi (w64 x4))], [(1000000, .box [vl (eI .u8) aS.code, vi (w64 (aS.at' + 1)), vi (Int.tmod (w64 ((w64 (aS.seed * 48271)) + 29)) 2147483647)])]⟩ ?_
  refine DGo.nil (by kernel_rfl) ?_
  obtain rfl := inj h
  exact q_j (Le.sub0)
  refine swp_skip ?_
  obtain rfl := inj h
  exact q_j (Le.sub0)
  refine swp_skip ?_
  obtain rfl := inj h
  exact q_j (Le.sub0)
  refine sr ?_
  refine SRun.ck tbok 2 ⟨78, [(75, vi j1.1), (76, vi aN)], [(1000000, .box (tc el01Source j1.2))]⟩ ?_
  obtain ⟨x5, hx5, h⟩ := bind_some h
  refine SRun.ls (x_lstep_quo (k := .i64) (i := j1.1) hx5 true rfl) ?_
  refine ckn tbok 1 ⟨78, [(4, vi (Int.tmod j1.1 aN))], [(1000000, .box (tc el01Source j1.2))]⟩ ?_
  refine swp_ret ?_
  obtain rfl := inj h
  exact q_fr (fin_io (f1 fv) (y := .box (tc el01Source j1.2)) (by kernel_rfl) rfl (by kernel_rfl) (by kernel_rfl))
theorem ents73 : Ents Tryz.prog 73 := ents_of Tryz.func73 (by kernel_rfl) rfl
noncomputable def spec_l15Good (aS : l01Source) : Option (Point × l01Source) :=
  ((spec_l01Next aS 3).bind fun x1 => (bif (x1.1 == 0) then ((spec_l01Next x1.2 2001).bind fun x2 => ((spec_l01Next x2.2 2001).bind fun x3 => some ((Point.mk (w64 (x2.1 - 1000)) (w64 (x3.1 - 1000))), x3.2))) else ((spec_l01Next x1.2 9).bind fun x4 => ((spec_l01Next x4.2 9).bind fun x5 => some ((Point.mk (w64 (x4.1 - 4)) (w64 (x5.1 - 4))), x5.2)))))
theorem spec_l15Good_run (aS : l01Source) (r : Point × l01Source) (h : spec_l15Good aS = some r) : SCall Tryz.prog 218 [.o (.box [vl (eI .u8) aS.code, vi aS.at', vi aS.seed])] ⟨[.v (.agg (tc ePoint r.1))], [(0, .box (tc el01Source r.2))], false⟩ := by
  refine scall_in Tryz.func218 rfl [(.cell 2 85)] rfl (fun r => ⟨[.v (.agg (tc ePoint r.1))], [(0, .box (tc el01Source r.2))], false⟩) (r := r) ?_
  unfold spec_l15Good at h
  refine srk tbok ⟨20, [(0, .ref 1000000 0), (2, .ref 2 0)], [(2, .box [vi 0, vi 0]), (1000000, .box (tc el01Source aS))]⟩ ?_
  refine swp_seq ?_
  refine sr ?_
  refine SRun.ck tbok 1 ⟨20, [(0, .ref 1000000 0), (2, .ref 2 0), (3, .ref 1000000 0)], [(2, .box [vi 0, vi 0]), (1000000, .box (tc el01Source aS))]⟩ ?_
  obtain ⟨x1, hx1, h⟩ := bind_some h
  refine SRun.estep (xe ents73 (spec_l01Next_run aS 3 _ hx1)) ?_
  refine ckn tbok 1 ⟨20, [(0, .ref 1000000 0), (2, .ref 2 0), (5, vb (x1.1 == 0))], [(2, .box [vi 0, vi 0]), (1000000, .box (tc el01Source x1.2))]⟩ ?_
  refine swp_cd h (fun h => ?_) fun h => ?_
  refine sr ?_
  refine SRun.ck tbok 1 ⟨20, [(0, .ref 1000000 0), (2, .ref 2 0), (6, .ref 1000000 0)], [(2, .box [vi 0, vi 0]), (1000000, .box (tc el01Source x1.2))]⟩ ?_
  obtain ⟨x2, hx2, h⟩ := bind_some h
  refine SRun.estep (xe ents73 (spec_l01Next_run x1.2 2001 _ hx2)) ?_
  refine SRun.ck tbok 2 ⟨20, [(2, .ref 2 0), (8, vi (w64 (x2.1 - 1000))), (9, .ref 1000000 0)], [(2, .box [vi 0, vi 0]), (1000000, .box (tc el01Source x2.2))]⟩ ?_
  obtain ⟨x3, hx3, h⟩ := bind_some h
  refine SRun.estep (xe ents73 (spec_l01Next_run x2.2 2001 _ hx3)) ?_
  refine SRun.ck tbok 1 ⟨20, [(2, .ref 2 0), (8, vi (w64 (x2.1 - 1000))), (11, vi (w64 (x3.1 - 1000)))], [(2, .box [vi 0, vi 0]), (1000000, .box (tc el01Source x3.2))]⟩ ?_
  refine SRun.ls (x_lstep_build (v := .agg [vi (w64 (x2.1 - 1000)), vi (w64 (x3.1 - 1000))]) tbok rfl) ?_
  refine ckn tbok 1 ⟨20, [(2, .ref 2 0)], [(2, .box [vi (w64 (x2.1 - 1000)), vi (w64 (x3.1 - 1000))]), (1000000, .box (tc el01Source x3.2))]⟩ ?_
  refine swp_ret ?_
  obtain rfl := inj h
  exact nx_r (q_fr (fin_io (f1 (fc tbok)) (y := .box (tc el01Source x3.2)) (by kernel_rfl) rfl (by kernel_rfl) (by kernel_rfl)))
  refine swp_skip ?_
  refine nx_n ?_
  refine sr ?_
  refine SRun.ck tbok 1 ⟨20, [(0, .ref 1000000 0), (2, .ref 2 0), (13, .ref 1000000 0)], [(2, .box [vi 0, vi 0]), (1000000, .box (tc el01Source x1.2))]⟩ ?_
  obtain ⟨x4, hx4, h⟩ := bind_some h
  refine SRun.estep (xe ents73 (spec_l01Next_run x1.2 9 _ hx4)) ?_
  refine SRun.ck tbok 2 ⟨20, [(2, .ref 2 0), (15, vi (w64 (x4.1 - 4))), (16, .ref 1000000 0)], [(2, .box [vi 0, vi 0]), (1000000, .box (tc el01Source x4.2))]⟩ ?_
  obtain ⟨x5, hx5, h⟩ := bind_some h
  refine SRun.estep (xe ents73 (spec_l01Next_run x4.2 9 _ hx5)) ?_
  refine SRun.ck tbok 1 ⟨20, [(2, .ref 2 0), (15, vi (w64 (x4.1 - 4))), (18, vi (w64 (x5.1 - 4)))], [(2, .box [vi 0, vi 0]), (1000000, .box (tc el01Source x5.2))]⟩ ?_
  refine SRun.ls (x_lstep_build (v := .agg [vi (w64 (x4.1 - 4)), vi (w64 (x5.1 - 4))]) tbok rfl) ?_
  refine ckn tbok 1 ⟨20, [(2, .ref 2 0)], [(2, .box [vi (w64 (x4.1 - 4)), vi (w64 (x5.1 - 4))]), (1000000, .box (tc el01Source x5.2))]⟩ ?_
  refine swp_ret ?_
  obtain rfl := inj h
  exact q_fr (fin_io (f1 (fc tbok)) (y := .box (tc el01Source x5.2)) (by kernel_rfl) rfl (by kernel_rfl) (by kernel_rfl))
theorem ents218 : Ents Tryz.prog 218 := ents_of Tryz.func218 (by kernel_rfl) rfl
noncomputable def spec_l01Pick (aS : l01Source) (aList : (List Int)) : Option (Int × l01Source) :=
  ((spec_l01Next aS (aList.length : Int)).bind fun x1 => ((at' aList x1.1).bind fun x2 => some (x2, x1.2)))
theorem spec_l01Pick_run (aS : l01Source) (aList : (List Int)) (r : Int × l01Source) (h : spec_l01Pick aS aList = some r) : SCall Tryz.prog 219 [.o (.box [vl (eI .u8) aS.code, vi aS.at', vi aS.seed]), .v (vl (eI .i64) aList)] ⟨[.v (vi r.1)], [(0, .box (tc el01Source r.2))], false⟩ := by
  refine scall_in Tryz.func219 rfl [(.tmp 4)] rfl (fun r => ⟨[.v (vi r.1)], [(0, .box (tc el01Source r.2))], false⟩) (r := r) ?_
  unfold spec_l01Pick at h
  refine srk tbok ⟨12, [(0, .ref 1000000 0), (1, vl (eI .i64) aList)], [(1000000, .box (tc el01Source aS))]⟩ ?_
  refine sr ?_
  refine SRun.ck tbok 4 ⟨12, [(5, vl (eI .i64) aList), (6, .ref 1000000 0), (8, vi (aList.length : Int))], [(1000000, .box (tc el01Source aS))]⟩ ?_
  obtain ⟨x1, hx1, h⟩ := bind_some h
  refine SRun.estep (xe ents73 (spec_l01Next_run aS (aList.length : Int) _ hx1)) ?_
  obtain ⟨x2, hx2, h⟩ := bind_some h
  refine SRun.ls (x_index (L := aList) (f := (eI .i64)) (ti := ti54) (tj := ti2) (e := 2) (k := .i64) tbok rfl hx2) ?_
  refine ckn tbok 2 ⟨12, [(4, vi x2)], [(1000000, .box (tc el01Source x1.2))]⟩ ?_
  refine swp_ret ?_
  obtain rfl := inj h
  exact q_fr (fin_io (f1 fv) (y := .box (tc el01Source x1.2)) (by kernel_rfl) rfl (by kernel_rfl) (by kernel_rfl))
theorem ents219 : Ents Tryz.prog 219 := ents_of Tryz.func219 (by kernel_rfl) rfl
noncomputable def spec_l15Draw (aS : l01Source) : Option (Point × l01Source) :=
  ((spec_l15Good aS).bind fun x1 => ((spec_l01Next x1.2 40).bind fun x2 => (((bif (x2.1 == 0) then ((spec_l01Pick x2.2 ([1000, 1001, (-1001)] : List Int)).bind fun x5 => some ((Point.mk x5.1 x1.1.Y), x5.2)) else some (x1.1, x2.2))).bind fun (j3 : Point × l01Source) => some (j3.1, j3.2))))
theorem spec_l15Draw_run (aS : l01Source) (r : Point × l01Source) (h : spec_l15Draw aS = some r) : SCall Tryz.prog 181 [.o (.box [vl (eI .u8) aS.code, vi aS.at', vi aS.seed])] ⟨[.v (.agg (tc ePoint r.1))], [(0, .box (tc el01Source r.2))], false⟩ := by
  refine scall_in Tryz.func181 rfl [(.cell 2 85)] rfl (fun r => ⟨[.v (.agg (tc ePoint r.1))], [(0, .box (tc el01Source r.2))], false⟩) (r := r) ?_
  unfold spec_l15Draw at h
  refine srk tbok ⟨14, [(0, .ref 1000000 0), (2, .ref 2 0)], [(2, .box [vi 0, vi 0]), (1000000, .box (tc el01Source aS))]⟩ ?_
  refine sr ?_
  refine SRun.ck tbok 1 ⟨14, [(0, .ref 1000000 0), (2, .ref 2 0), (4, .ref 1000000 0)], [(2, .box [vi 0, vi 0]), (1000000, .box (tc el01Source aS))]⟩ ?_
  obtain ⟨x1, hx1, h⟩ := bind_some h
  refine SRun.estep (xe ents218 (spec_l15Good_run aS _ hx1)) ?_
  refine ckn tbok 2 ⟨14, [(0, .ref 1000000 0), (2, .ref 2 0), (3, .ref 3 0)], [(2, .box [vi 0, vi 0]), (3, .box (tc ePoint x1.1)), (1000000, .box (tc el01Source x1.2))]⟩ ?_
  refine swp_seq ?_
  refine sr ?_
  refine SRun.ck tbok 1 ⟨14, [(0, .ref 1000000 0), (2, .ref 2 0), (3, .ref 3 0), (6, .ref 1000000 0)], [(2, .box [vi 0, vi 0]), (3, .box (tc ePoint x1.1)), (1000000, .box (tc el01Source x1.2))]⟩ ?_
  obtain ⟨x2, hx2, h⟩ := bind_some h
  refine SRun.estep (xe ents73 (spec_l01Next_run x1.2 40 _ hx2)) ?_
  refine ckn tbok 1 ⟨14, [(0, .ref 1000000 0), (2, .ref 2 0), (3, .ref 3 0), (8, vb (x2.1 == 0))], [(2, .box [vi 0, vi 0]), (3, .box (tc ePoint x1.1)), (1000000, .box (tc el01Source x2.2))]⟩ ?_
  refine swp_seqJ h (fun j3 => ⟨14, [(2, .ref 2 0), (3, .ref 3 0)], [(2, .box [vi 0, vi 0]), (3, .box (tc ePoint j3.1)), (1000000, .box (tc el01Source j3.2))]⟩) (fun v4 h => ?_) (fun j3 h => ?_)
  refine swp_cd h (fun h => ?_) fun h => ?_
  refine swp_reg ?_
  refine SRun.ck tbok 2 ⟨14, [(2, .ref 2 0), (3, .ref 3 0), (9, .ref 1000000 0), (10, .own 10)], [(2, .box [vi 0, vi 0]), (3, .box (tc ePoint x1.1)), (10, oa 2 1 (eI .i64) ([1000, 1001, (-1001)] : List Int)), (1000000, .box (tc el01Source x2.2))]⟩ ?_
  refine SRun.le (Le.frz' (d := 10) (e := 2) (m := 1) (n := ([1000, 1001, (-1001)] : List Int).length) (es := ([1000, 1001, (-1001)] : List Int).map (eI .i64)) (by kernel_rfl) (by kernel_rfl)) ?_
  obtain ⟨x5, hx5, h⟩ := bind_some h
  refine SRun.estep (xe ents219 (spec_l01Pick_run x2.2 ([1000, 1001, (-1001)] : List Int) _ hx5)) ?_
  refine SRun.ck tbok 2 ⟨14, [(2, .ref 2 0), (3, .ref 3 0)], [(2, .box [vi 0, vi 0]), (3, .box [vi x5.1, vi x1.1.Y]), (1000000, .box (tc el01Source x5.2))]⟩ ?_
  refine SRun.nil ?_
  obtain rfl := inj h
  exact q_j (Le.sub0)
  refine swp_skip ?_
  obtain rfl := inj h
  exact q_j (Le.sub0)
  refine srk tbok ⟨14, [(2, .ref 2 0)], [(2, .box (tc ePoint j3.1)), (1000000, .box (tc el01Source j3.2))]⟩ ?_
  refine swp_ret ?_
  obtain rfl := inj h
  exact q_fr (fin_io (f1 (fc tbok)) (y := .box (tc el01Source j3.2)) (by kernel_rfl) rfl (by kernel_rfl) (by kernel_rfl))
theorem ents181 : Ents Tryz.prog 181 := ents_of Tryz.func181 (by kernel_rfl) rfl
noncomputable def spec_l29Sites (aS : l01Source) : Option ((List Site) × l01Source) :=
  (((forS (([(ByteArray.mk #[97, 115, 104]), (ByteArray.mk #[98, 114, 105, 103]), (ByteArray.mk #[99, 111, 114, 107]), (ByteArray.mk #[100, 101, 118, 97]), (ByteArray.mk #[101, 108, 121])] : List ByteArray).length : Int) (fun (i3 : Int) (s3 : (List Site) × l01Source) => ((spec_l01Next s3.2 8).bind fun x7 => (bif (decide (x7.1 > 0)) then ((at' ([(ByteArray.mk #[97, 115, 104]), (ByteArray.mk #[98, 114, 105, 103]), (ByteArray.mk #[99, 111, 114, 107]), (ByteArray.mk #[100, 101, 118, 97]), (ByteArray.mk #[101, 108, 121])] : List ByteArray) i3).bind fun x8 => ((spec_l01Next x7.2 25).bind fun x9 => ((spec_l01Next x9.2 25).bind fun x10 => ((app' s3.1 ([(Site.mk x8 (Point.mk (w64 (x9.1 - 12)) (w64 (x10.1 - 12))))] : List Site)).bind fun x12 => some (x12, x10.2))))) else some (s3.1, x7.2)))) (fun (s3 : (List Site) × l01Source) => (s3.1, s3.2)) 0 (([] : List Site), aS))).bind fun (j1 : (List Site) × l01Source) => ((spec_l01Next j1.2 24).bind fun x13 => (((bif (x13.1 == 0) then ((spec_l01Next x13.2 3).bind fun x16 => ((at' ([(ByteArray.mk #[110, 101, 97, 114]), (ByteArray.mk #[122, 101, 100]), (ByteArray.mk #[97, 115, 104])] : List ByteArray) x16.1).bind fun x17 => ((spec_l15Draw x16.2).bind fun x18 => ((app' j1.1 ([(Site.mk x17 x18.1)] : List Site)).bind fun x20 => some (x20, x18.2))))) else (bif (x13.1 == 1) then (loop (fun (s21 : Int × (List Site) × l01Source) => ((((spec_l01Next s21.2.2 2).bind fun x23 => (bif (decide ((s21.2.1.length : Int) < (w64 (10 + x23.1)))) then some ((decide (s21.1 < 12)), x23.2) else some (false, x23.2)))).bind fun (j24 : Bool × l01Source) => (bif j24.1 then ((((sub' (ByteArray.mk #[97, 98, 99, 100, 101, 102, 103, 104, 105, 106, 107, 108]) s21.1 (w64 (s21.1 + 1))).bind fun x28 => ((cat' (ByteArray.mk #[122]) x28).bind fun x29 => ((app' s21.2.1 ([(Site.mk x29 (Point.mk 0 0))] : List Site)).bind fun x30 => some x30)))).bind fun (j26 : (List Site)) => some (.inl ((w64 (s21.1 + 1)), j26, j24.2))) else some (.inr (s21.2.1, j24.2))))) (0, j1.1, x13.2)) else some (j1.1, x13.2)))).bind fun (j14 : (List Site) × l01Source) => some (j14.1, j14.2))))
theorem spec_l29Sites_run (aS : l01Source) (r : (List Site) × l01Source) (h : spec_l29Sites aS = some r) : SCall Tryz.prog 157 [.o (.box [vl (eI .u8) aS.code, vi aS.at', vi aS.seed])] ⟨[.own 92 3 r.1.length (r.1.map eSite)], [(0, .box (tc el01Source r.2))], false⟩ := by
  refine scall_in Tryz.func157 rfl [(.tmp 2)] rfl (fun r => ⟨[.own 92 3 r.1.length (r.1.map eSite)], [(0, .box (tc el01Source r.2))], false⟩) (r := r) ?_
  unfold spec_l29Sites at h
  refine srk tbok ⟨72, [(0, .ref 1000000 0)], [(1000000, .box (tc el01Source aS))]⟩ ?_
  refine srk tbok ⟨72, [(0, .ref 1000000 0), (3, .own 7)], [(7, oa 92 3 eSite ([] : List Site)), (1000000, .box (tc el01Source aS))]⟩ ?_
  refine srk tbok ⟨72, [(0, .ref 1000000 0), (3, .own 7), (4, .own 8)], [(7, oa 92 3 eSite ([] : List Site)), (8, oa 9 1 eS ([(ByteArray.mk #[97, 115, 104]), (ByteArray.mk #[98, 114, 105, 103]), (ByteArray.mk #[99, 111, 114, 107]), (ByteArray.mk #[100, 101, 118, 97]), (ByteArray.mk #[101, 108, 121])] : List ByteArray)), (1000000, .box (tc el01Source aS))]⟩ ?_
  refine swp_seq ?_
  refine srk tbok ⟨72, [(0, .ref 1000000 0), (3, .own 7), (4, .own 8), (5, vi 0)], [(7, oa 92 3 eSite ([] : List Site)), (8, oa 9 1 eS ([(ByteArray.mk #[97, 115, 104]), (ByteArray.mk #[98, 114, 105, 103]), (ByteArray.mk #[99, 111, 114, 107]), (ByteArray.mk #[100, 101, 118, 97]), (ByteArray.mk #[101, 108, 121])] : List ByteArray)), (1000000, .box (tc el01Source aS))]⟩ ?_
  refine swp_seqJ h (fun j1 => ⟨72, [(0, .ref 1000000 0), (3, .own 3)], [(3, oa 92 3 eSite j1.1), (1000000, .box (tc el01Source j1.2))]⟩) (fun v2 h => ?_) (fun j1 h => ?_)
  refine swp_blk (a := v2) ?_
  refine swp_lpL (r := v2) (s := (0, ([] : List Site), aS)) _ (fun s3 => ⟨72, [(0, .ref 1000000 0), (3, .own 3), (4, .own 4), (5, vi s3.1)], [(3, oa 92 3 eSite s3.2.1), (4, oa 9 1 eS ([(ByteArray.mk #[97, 115, 104]), (ByteArray.mk #[98, 114, 105, 103]), (ByteArray.mk #[99, 111, 114, 107]), (ByteArray.mk #[100, 101, 118, 97]), (ByteArray.mk #[101, 108, 121])] : List ByteArray)), (1000000, .box (tc el01Source s3.2.2))]⟩) _ (Le.rr [7, 8, 1000000] [(7, 3), (8, 4)]) h (fun s3 v4 h => ?_)
  refine swp_seq ?_
  refine srk tbok ⟨72, [(0, .ref 1000000 0), (3, .own 3), (4, .own 4), (5, vi s3.1), (12, vb (decide (s3.1 < (([(ByteArray.mk #[97, 115, 104]), (ByteArray.mk #[98, 114, 105, 103]), (ByteArray.mk #[99, 111, 114, 107]), (ByteArray.mk #[100, 101, 118, 97]), (ByteArray.mk #[101, 108, 121])] : List ByteArray).length : Int))))], [(3, oa 92 3 eSite s3.2.1), (4, oa 9 1 eS ([(ByteArray.mk #[97, 115, 104]), (ByteArray.mk #[98, 114, 105, 103]), (ByteArray.mk #[99, 111, 114, 107]), (ByteArray.mk #[100, 101, 118, 97]), (ByteArray.mk #[101, 108, 121])] : List ByteArray)), (1000000, .box (tc el01Source s3.2.2))]⟩ ?_
  refine swp_cd h (fun h => ?_) fun h => ?_
  refine swp_skip ?_
  refine nx_n ?_
  refine swp_seq ?_
  refine swp_seqJ h (fun j5 => ⟨72, [(0, .ref 1000000 0), (3, .own 3), (4, .own 4), (5, vi s3.1)], [(3, oa 92 3 eSite j5.1), (4, oa 9 1 eS ([(ByteArray.mk #[97, 115, 104]), (ByteArray.mk #[98, 114, 105, 103]), (ByteArray.mk #[99, 111, 114, 107]), (ByteArray.mk #[100, 101, 118, 97]), (ByteArray.mk #[101, 108, 121])] : List ByteArray)), (1000000, .box (tc el01Source j5.2))]⟩) (fun v6 h => ?_) (fun j5 h => ?_)
  refine swp_blk (a := v6) ?_
  refine sr ?_
  refine SRun.ck tbok 1 ⟨72, [(0, .ref 1000000 0), (3, .own 3), (4, .own 4), (5, vi s3.1), (15, .ref 1000000 0)], [(3, oa 92 3 eSite s3.2.1), (4, oa 9 1 eS ([(ByteArray.mk #[97, 115, 104]), (ByteArray.mk #[98, 114, 105, 103]), (ByteArray.mk #[99, 111, 114, 107]), (ByteArray.mk #[100, 101, 118, 97]), (ByteArray.mk #[101, 108, 121])] : List ByteArray)), (1000000, .box (tc el01Source s3.2.2))]⟩ ?_
  obtain ⟨x7, hx7, h⟩ := bind_some h
  refine SRun.estep (xe ents73 (spec_l01Next_run s3.2.2 8 _ hx7)) ?_
  refine ckn tbok 1 ⟨72, [(0, .ref 1000000 0), (3, .own 3), (4, .own 4), (5, vi s3.1), (17, vb (decide (x7.1 > 0)))], [(3, oa 92 3 eSite s3.2.1), (4, oa 9 1 eS ([(ByteArray.mk #[97, 115, 104]), (ByteArray.mk #[98, 114, 105, 103]), (ByteArray.mk #[99, 111, 114, 107]), (ByteArray.mk #[100, 101, 118, 97]), (ByteArray.mk #[101, 108, 121])] : List ByteArray)), (1000000, .box (tc el01Source x7.2))]⟩ ?_
  refine swp_cd h (fun h => ?_) fun h => ?_
  refine swp_drD [1000000] mixed ?_
  refine DGo.ck tbok false 3 ⟨72, [(0, .ref 1000000 0), (4, .own 4), (5, vi s3.1), (18, .own 3), (19, .own 4), (20, vi s3.1)], [(3, oa 92 3 eSite s3.2.1), (4, oa 9 1 eS ([(ByteArray.mk #[97, 115, 104]), (ByteArray.mk #[98, 114, 105, 103]), (ByteArray.mk #[99, 111, 114, 107]), (ByteArray.mk #[100, 101, 118, 97]), (ByteArray.mk #[101, 108, 121])] : List ByteArray)), (1000000, .box (tc el01Source x7.2))]⟩ ?_
  obtain ⟨x8, hx8, h⟩ := bind_some h
  refine DGo.step (x_index_own (d := 4) (L := ([(ByteArray.mk #[97, 115, 104]), (ByteArray.mk #[98, 114, 105, 103]), (ByteArray.mk #[99, 111, 114, 107]), (ByteArray.mk #[100, 101, 118, 97]), (ByteArray.mk #[101, 108, 121])] : List ByteArray)) (f := eS) (ti := ti28) (tj := ti9) (e := 9) (e' := 9) (m := 1) (k := .i64) tbok rfl hx8) ?_
  refine DGo.step (x_load_own (d := 4) (m := 1) (j := 0) (L := ([(ByteArray.mk #[97, 115, 104]), (ByteArray.mk #[98, 114, 105, 103]), (ByteArray.mk #[99, 111, 114, 107]), (ByteArray.mk #[100, 101, 118, 97]), (ByteArray.mk #[101, 108, 121])] : List ByteArray)) (f := eS) (ti := ti9) (e := 9) (v := vs x8) tbok rfl hx8) ?_
  refine DGo.ck tbok false 1 ⟨72, [(0, .ref 1000000 0), (4, .own 4), (5, vi s3.1), (18, .own 3), (22, vs x8), (23, .ref 1000000 0)], [(3, oa 92 3 eSite s3.2.1), (4, oa 9 1 eS ([(ByteArray.mk #[97, 115, 104]), (ByteArray.mk #[98, 114, 105, 103]), (ByteArray.mk #[99, 111, 114, 107]), (ByteArray.mk #[100, 101, 118, 97]), (ByteArray.mk #[101, 108, 121])] : List ByteArray)), (1000000, .box (tc el01Source x7.2))]⟩ ?_
  obtain ⟨x9, hx9, h⟩ := bind_some h
  refine DGo.write [] (xw ents73 (spec_l01Next_run x7.2 25 _ hx9)) ?_
  refine DGo.ck tbok false 2 ⟨72, [(0, .ref 1000000 0), (4, .own 4), (5, vi s3.1), (18, .own 3), (22, vs x8), (25, vi (w64 (x9.1 - 12))), (26, .ref 1000000 0)], [(3, oa 92 3 eSite s3.2.1), (4, oa 9 1 eS ([(ByteArray.mk #[97, 115, 104]), (ByteArray.mk #[98, 114, 105, 103]), (ByteArray.mk #[99, 111, 114, 107]), (ByteArray.mk #[100, 101, 118, 97]), (ByteArray.mk #[101, 108, 121])] : List ByteArray)), (1000000, .box (tc el01Source x9.2))]⟩ ?_
  obtain ⟨x10, hx10, h⟩ := bind_some h
  refine DGo.write [] (xw ents73 (spec_l01Next_run x9.2 25 _ hx10)) ?_
  refine DGo.ck tbok false 1 ⟨72, [(0, .ref 1000000 0), (4, .own 4), (5, vi s3.1), (18, .own 3), (22, vs x8), (25, vi (w64 (x9.1 - 12))), (28, vi (w64 (x10.1 - 12)))], [(3, oa 92 3 eSite s3.2.1), (4, oa 9 1 eS ([(ByteArray.mk #[97, 115, 104]), (ByteArray.mk #[98, 114, 105, 103]), (ByteArray.mk #[99, 111, 114, 107]), (ByteArray.mk #[100, 101, 118, 97]), (ByteArray.mk #[101, 108, 121])] : List ByteArray)), (1000000, .box (tc el01Source x10.2))]⟩ ?_
  refine DGo.step (x_lstep_build (v := .agg [vi (w64 (x9.1 - 12)), vi (w64 (x10.1 - 12))]) tbok rfl) ?_
  refine DGo.step (x_lstep_build (v := .agg [vs x8, vi (w64 (x9.1 - 12)), vi (w64 (x10.1 - 12))]) tbok rfl) ?_
  refine DGo.ck tbok false 1 ⟨72, [(0, .ref 1000000 0), (4, .own 4), (5, vi s3.1), (18, .own 3), (31, .own 31)], [(3, oa 92 3 eSite s3.2.1), (4, oa 9 1 eS ([(ByteArray.mk #[97, 115, 104]), (ByteArray.mk #[98, 114, 105, 103]), (ByteArray.mk #[99, 111, 114, 107]), (ByteArray.mk #[100, 101, 118, 97]), (ByteArray.mk #[101, 108, 121])] : List ByteArray)), (31, oa 92 3 eSite ([(Site.mk x8 (Point.mk (w64 (x9.1 - 12)) (w64 (x10.1 - 12))))] : List Site)), (1000000, .box (tc el01Source x10.2))]⟩ ?_
  refine DGo.seq (by kernel_rfl) (by kernel_rfl) ?_
  obtain ⟨x12, hx12, h⟩ := bind_some h
  refine SRun.estep (x_append (f := eSite) (t := 33) (ti := ti33) (tj := ti92) (zs := [.string (ByteArray.mk #[]), .int .i64 0, .int .i64 0]) (e := 92) (m := 3) (d := 3) (xv := .own 31) hx12 tbok rfl rfl rfl rfl (x_src_o (e := 92))) ?_
  refine SRun.ck tbok 1 ⟨72, [(0, .ref 1000000 0), (3, .own 32), (4, .own 4), (5, vi s3.1)], [(4, oa 9 1 eS ([(ByteArray.mk #[97, 115, 104]), (ByteArray.mk #[98, 114, 105, 103]), (ByteArray.mk #[99, 111, 114, 107]), (ByteArray.mk #[100, 101, 118, 97]), (ByteArray.mk #[101, 108, 121])] : List ByteArray)), (32, oa 92 3 eSite x12), (1000000, .box (tc el01Source x10.2))]⟩ ?_
  refine SRun.nil ?_
  obtain rfl := inj h
  exact q_bn (q_j (Le.rr [4, 32, 1000000] [(32, 3)]))
  refine swp_skip ?_
  obtain rfl := inj h
  exact q_bn (q_j (Le.sub0))
  refine swp_reg ?_
  refine SRun.ck tbok 3 ⟨72, [(0, .ref 1000000 0), (3, .own 3), (4, .own 4), (5, vi (w64 (s3.1 + 1)))], [(3, oa 92 3 eSite j5.1), (4, oa 9 1 eS ([(ByteArray.mk #[97, 115, 104]), (ByteArray.mk #[98, 114, 105, 103]), (ByteArray.mk #[99, 111, 114, 107]), (ByteArray.mk #[100, 101, 118, 97]), (ByteArray.mk #[101, 108, 121])] : List ByteArray)), (1000000, .box (tc el01Source j5.2))]⟩ ?_
  refine SRun.nil ?_
  obtain rfl := inj h
  exact q_l (Le.sub0)
  refine swp_exit ?_
  obtain rfl := inj h
  exact nx_e (q_re (q_bh (q_j (Le.sub0))))
  refine swp_seq ?_
  refine sr ?_
  refine SRun.ck tbok 1 ⟨72, [(0, .ref 1000000 0), (3, .own 3), (33, .ref 1000000 0)], [(3, oa 92 3 eSite j1.1), (1000000, .box (tc el01Source j1.2))]⟩ ?_
  obtain ⟨x13, hx13, h⟩ := bind_some h
  refine SRun.estep (xe ents73 (spec_l01Next_run j1.2 24 _ hx13)) ?_
  refine SRun.nx ?_
  refine swp_seqJ h (fun j14 => ⟨72, [(3, .own 3)], [(3, oa 92 3 eSite j14.1), (1000000, .box (tc el01Source j14.2))]⟩) (fun v15 h => ?_) (fun j14 h => ?_)
  refine swp_blk (a := v15) ?_
  refine srk tbok ⟨72, [(0, .ref 1000000 0), (3, .own 3), (34, vi x13.1), (35, vb (x13.1 == 0))], [(3, oa 92 3 eSite j1.1), (1000000, .box (tc el01Source x13.2))]⟩ ?_
  refine swp_cd h (fun h => ?_) fun h => ?_
  refine swp_drD [1000000] mixed ?_
  refine DGo.ck tbok false 3 ⟨72, [(0, .ref 1000000 0), (37, .own 3), (38, .own 38), (39, .ref 1000000 0)], [(3, oa 92 3 eSite j1.1), (38, oa 9 1 eS ([(ByteArray.mk #[110, 101, 97, 114]), (ByteArray.mk #[122, 101, 100]), (ByteArray.mk #[97, 115, 104])] : List ByteArray)), (1000000, .box (tc el01Source x13.2))]⟩ ?_
  obtain ⟨x16, hx16, h⟩ := bind_some h
  refine DGo.write [] (xw ents73 (spec_l01Next_run x13.2 3 _ hx16)) ?_
  obtain ⟨x17, hx17, h⟩ := bind_some h
  refine DGo.stepW false [38] (x_index_own (d := 38) (L := ([(ByteArray.mk #[110, 101, 97, 114]), (ByteArray.mk #[122, 101, 100]), (ByteArray.mk #[97, 115, 104])] : List ByteArray)) (f := eS) (ti := ti28) (tj := ti9) (e := 9) (e' := 9) (m := 1) (k := .i64) tbok rfl hx17) ?_
  refine DGo.stepW false [38] (x_load_own (d := 38) (m := 1) (j := 0) (L := ([(ByteArray.mk #[110, 101, 97, 114]), (ByteArray.mk #[122, 101, 100]), (ByteArray.mk #[97, 115, 104])] : List ByteArray)) (f := eS) (ti := ti9) (e := 9) (v := vs x17) tbok rfl hx17) ?_
  refine DGo.ck tbok false 1 ⟨72, [(37, .own 3), (42, vs x17), (43, .ref 1000000 0)], [(3, oa 92 3 eSite j1.1), (1000000, .box (tc el01Source x16.2))]⟩ ?_
  obtain ⟨x18, hx18, h⟩ := bind_some h
  refine DGo.write [] (xw ents181 (spec_l15Draw_run x16.2 _ hx18)) ?_
  refine DGo.step (x_lstep_build (v := .agg [vs x17, vi x18.1.X, vi x18.1.Y]) tbok rfl) ?_
  refine DGo.ck tbok false 1 ⟨72, [(37, .own 3), (46, .own 46)], [(3, oa 92 3 eSite j1.1), (46, oa 92 3 eSite ([(Site.mk x17 x18.1)] : List Site)), (1000000, .box (tc el01Source x18.2))]⟩ ?_
  refine DGo.seq (by kernel_rfl) (by kernel_rfl) ?_
  obtain ⟨x20, hx20, h⟩ := bind_some h
  refine SRun.estep (x_append (f := eSite) (t := 33) (ti := ti33) (tj := ti92) (zs := [.string (ByteArray.mk #[]), .int .i64 0, .int .i64 0]) (e := 92) (m := 3) (d := 3) (xv := .own 46) hx20 tbok rfl rfl rfl rfl (x_src_o (e := 92))) ?_
  refine SRun.ck tbok 1 ⟨72, [(3, .own 47)], [(47, oa 92 3 eSite x20), (1000000, .box (tc el01Source x18.2))]⟩ ?_
  refine SRun.nil ?_
  obtain rfl := inj h
  exact q_bn (q_j (Le.rr [47, 1000000] [(47, 3)]))
  refine srk tbok ⟨72, [(0, .ref 1000000 0), (3, .own 3), (48, vb (x13.1 == 1))], [(3, oa 92 3 eSite j1.1), (1000000, .box (tc el01Source x13.2))]⟩ ?_
  refine swp_cd h (fun h => ?_) fun h => ?_
  refine srk tbok ⟨72, [(0, .ref 1000000 0), (3, .own 3), (6, vi 0)], [(3, oa 92 3 eSite j1.1), (1000000, .box (tc el01Source x13.2))]⟩ ?_
  refine swp_blk (a := v15) ?_
  refine swp_lpL (r := v15) (s := (0, j1.1, x13.2)) _ (fun s21 => ⟨72, [(0, .ref 1000000 0), (3, .own 3), (6, vi s21.1)], [(3, oa 92 3 eSite s21.2.1), (1000000, .box (tc el01Source s21.2.2))]⟩) _ (Le.sub0) h (fun s21 v22 h => ?_)
  refine swp_seq ?_
  refine swp_seq ?_
  refine swp_regJ h (fun j24 => ⟨72, [(0, .ref 1000000 0), (3, .own 3), (6, vi s21.1), (59, vb j24.1)], [(3, oa 92 3 eSite s21.2.1), (1000000, .box (tc el01Source j24.2))]⟩) (fun v25 h => ?_) (fun j24 h => ?_)
  refine SRun.ck tbok 3 ⟨72, [(0, .ref 1000000 0), (3, .own 3), (6, vi s21.1), (51, vi (s21.2.1.length : Int)), (52, .ref 1000000 0)], [(3, oa 92 3 eSite s21.2.1), (1000000, .box (tc el01Source s21.2.2))]⟩ ?_
  obtain ⟨x23, hx23, h⟩ := bind_some h
  refine SRun.estep (xe ents73 (spec_l01Next_run s21.2.2 2 _ hx23)) ?_
  refine SRun.ck tbok 3 ⟨72, [(0, .ref 1000000 0), (3, .own 3), (6, vi s21.1), (56, vb (decide ((s21.2.1.length : Int) < (w64 (10 + x23.1)))))], [(3, oa 92 3 eSite s21.2.1), (1000000, .box (tc el01Source x23.2))]⟩ ?_
  refine SRun.cu [(56, fun b => b)] h (fun h => ?_) fun h => ?_
  refine SRun.ck tbok 3 ⟨72, [(0, .ref 1000000 0), (3, .own 3), (6, vi s21.1), (59, vb (decide (s21.1 < 12)))], [(3, oa 92 3 eSite s21.2.1), (1000000, .box (tc el01Source x23.2))]⟩ ?_
  refine SRun.nil ?_
  obtain rfl := inj h
  exact Le.sub0
  refine SRun.ck tbok 3 ⟨72, [(0, .ref 1000000 0), (3, .own 3), (6, vi s21.1), (59, vb false)], [(3, oa 92 3 eSite s21.2.1), (1000000, .box (tc el01Source x23.2))]⟩ ?_
  refine SRun.nil ?_
  obtain rfl := inj h
  exact Le.sub0
  refine swp_cd h (fun h => ?_) fun h => ?_
  refine swp_skip ?_
  refine nx_n ?_
  refine swp_seq ?_
  refine swp_seqJ h (fun j26 => ⟨72, [(0, .ref 1000000 0), (3, .own 3), (6, vi s21.1)], [(3, oa 92 3 eSite j26), (1000000, .box (tc el01Source j24.2))]⟩) (fun v27 h => ?_) (fun j26 h => ?_)
  refine swp_blk (a := v27) ?_
  refine swp_reg ?_
  refine SRun.ck tbok 4 ⟨72, [(0, .ref 1000000 0), (6, vi s21.1), (62, .own 3), (63, vi s21.1), (65, vi (w64 (s21.1 + 1)))], [(3, oa 92 3 eSite s21.2.1), (1000000, .box (tc el01Source j24.2))]⟩ ?_
  obtain ⟨x28, hx28, h⟩ := bind_some h
  refine SRun.ls (x_sub (ti := ti9) hx28 tbok rfl) ?_
  obtain ⟨x29, hx29, h⟩ := bind_some h
  refine SRun.ls (x_cat hx29 rfl) ?_
  refine SRun.ls (x_lstep_build (v := .agg [vs x29, vi 0, vi 0]) tbok rfl) ?_
  refine SRun.ck tbok 1 ⟨72, [(0, .ref 1000000 0), (6, vi s21.1), (62, .own 3), (69, .own 69)], [(3, oa 92 3 eSite s21.2.1), (69, oa 92 3 eSite ([(Site.mk x29 (Point.mk 0 0))] : List Site)), (1000000, .box (tc el01Source j24.2))]⟩ ?_
  obtain ⟨x30, hx30, h⟩ := bind_some h
  refine SRun.estep (x_append (f := eSite) (t := 33) (ti := ti33) (tj := ti92) (zs := [.string (ByteArray.mk #[]), .int .i64 0, .int .i64 0]) (e := 92) (m := 3) (d := 3) (xv := .own 69) hx30 tbok rfl rfl rfl rfl (x_src_o (e := 92))) ?_
  refine SRun.ck tbok 1 ⟨72, [(0, .ref 1000000 0), (3, .own 70), (6, vi s21.1)], [(70, oa 92 3 eSite x30), (1000000, .box (tc el01Source j24.2))]⟩ ?_
  refine SRun.nil ?_
  obtain rfl := inj h
  exact q_bn (q_j (Le.rr [70, 1000000] [(70, 3)]))
  refine swp_reg ?_
  refine SRun.ck tbok 3 ⟨72, [(0, .ref 1000000 0), (3, .own 3), (6, vi (w64 (s21.1 + 1)))], [(3, oa 92 3 eSite j26), (1000000, .box (tc el01Source j24.2))]⟩ ?_
  refine SRun.nil ?_
  obtain rfl := inj h
  exact q_l (Le.sub0)
  refine swp_exit ?_
  obtain rfl := inj h
  exact nx_e (q_re (q_bh (q_bn (q_j (Le.sub0)))))
  refine swp_skip ?_
  obtain rfl := inj h
  exact q_bn (q_j (Le.sub0))
  refine srk tbok ⟨72, [(2, .own 3)], [(3, oa 92 3 eSite j14.1), (1000000, .box (tc el01Source j14.2))]⟩ ?_
  refine swp_ret ?_
  obtain rfl := inj h
  exact q_fr (fin_io (f1 (fo eSite_flat)) (y := .box (tc el01Source j14.2)) (by kernel_rfl) rfl (by kernel_rfl) (by kernel_rfl))
theorem ents157 : Ents Tryz.prog 157 := ents_of Tryz.func157 (by kernel_rfl) rfl
noncomputable def spec_l28Good (aS : l01Source) : Option (Description × l01Source) :=
  ((spec_l01Next aS 4).bind fun x1 => ((spec_l01Next x1.2 3).bind fun x2 => ((at' ([(ByteArray.mk #[97, 115, 104]), (ByteArray.mk #[98, 114, 105, 103]), (ByteArray.mk #[99, 111, 114, 107]), (ByteArray.mk #[100, 101, 118, 97])] : List ByteArray) x2.1).bind fun x3 => (((bif (x1.1 == 2) then ((spec_l01Next x2.2 12).bind fun x6 => ((spec_l01Pick x6.2 ([1, 2, 3, (w64 (1 + x6.1))] : List Int)).bind fun x7 => ((spec_l01Next x7.2 3).bind fun x8 => ((at' ([(ByteArray.mk #[109, 105, 108, 101]), (ByteArray.mk #[109, 105, 108, 101]), (ByteArray.mk #[108, 101, 97, 103, 117, 101])] : List ByteArray) x8.1).bind fun x9 => (((bif (x7.1 != 1) then ((cat' x9 (ByteArray.mk #[115])).bind fun x12 => some (Description.mk x1.1 x7.1 x12 0 x3 (ByteArray.mk #[]))) else some (Description.mk x1.1 x7.1 x9 0 x3 (ByteArray.mk #[])))).bind fun (j10 : Description) => ((spec_l01Next x8.2 8).bind fun x13 => some ((Description.mk j10.Kind j10.Count j10.Unit x13.1 j10.A j10.B), x13.2))))))) else (bif (x1.1 == 3) then ((at' ([(ByteArray.mk #[97, 115, 104]), (ByteArray.mk #[98, 114, 105, 103]), (ByteArray.mk #[99, 111, 114, 107]), (ByteArray.mk #[100, 101, 118, 97])] : List ByteArray) 3).bind fun x14 => some ((Description.mk x1.1 0 (ByteArray.mk #[]) 0 x3 x14), x2.2)) else some ((Description.mk x1.1 0 (ByteArray.mk #[]) 0 x3 (ByteArray.mk #[])), x2.2)))).bind fun (j4 : Description × l01Source) => some (j4.1, j4.2)))))
theorem spec_l28Good_run (aS : l01Source) (r : Description × l01Source) (h : spec_l28Good aS = some r) : SCall Tryz.prog 182 [.o (.box [vl (eI .u8) aS.code, vi aS.at', vi aS.seed])] ⟨[.v (.agg (tc eDescription r.1))], [(0, .box (tc el01Source r.2))], false⟩ := by
  refine scall_in Tryz.func182 rfl [(.cell 2 84)] rfl (fun r => ⟨[.v (.agg (tc eDescription r.1))], [(0, .box (tc el01Source r.2))], false⟩) (r := r) ?_
  unfold spec_l28Good at h
  refine srk tbok ⟨48, [(0, .ref 1000000 0), (2, .ref 2 0)], [(2, .box [vi 0, vi 0, vs (ByteArray.mk #[]), vi 0, vs (ByteArray.mk #[]), vs (ByteArray.mk #[])]), (1000000, .box (tc el01Source aS))]⟩ ?_
  refine srk tbok ⟨48, [(0, .ref 1000000 0), (2, .ref 2 0), (3, .own 5)], [(2, .box [vi 0, vi 0, vs (ByteArray.mk #[]), vi 0, vs (ByteArray.mk #[]), vs (ByteArray.mk #[])]), (5, oa 9 1 eS ([(ByteArray.mk #[97, 115, 104]), (ByteArray.mk #[98, 114, 105, 103]), (ByteArray.mk #[99, 111, 114, 107]), (ByteArray.mk #[100, 101, 118, 97])] : List ByteArray)), (1000000, .box (tc el01Source aS))]⟩ ?_
  refine sr ?_
  refine SRun.ck tbok 1 ⟨48, [(0, .ref 1000000 0), (2, .ref 2 0), (3, .own 5), (6, .ref 1000000 0)], [(2, .box [vi 0, vi 0, vs (ByteArray.mk #[]), vi 0, vs (ByteArray.mk #[]), vs (ByteArray.mk #[])]), (5, oa 9 1 eS ([(ByteArray.mk #[97, 115, 104]), (ByteArray.mk #[98, 114, 105, 103]), (ByteArray.mk #[99, 111, 114, 107]), (ByteArray.mk #[100, 101, 118, 97])] : List ByteArray)), (1000000, .box (tc el01Source aS))]⟩ ?_
  obtain ⟨x1, hx1, h⟩ := bind_some h
  refine SRun.estep (xe ents73 (spec_l01Next_run aS 4 _ hx1)) ?_
  refine SRun.ck tbok 2 ⟨48, [(0, .ref 1000000 0), (2, .ref 2 0), (3, .own 5), (7, vi x1.1), (8, .own 5), (9, .ref 1000000 0)], [(2, .box [vi 0, vi 0, vs (ByteArray.mk #[]), vi 0, vs (ByteArray.mk #[]), vs (ByteArray.mk #[])]), (5, oa 9 1 eS ([(ByteArray.mk #[97, 115, 104]), (ByteArray.mk #[98, 114, 105, 103]), (ByteArray.mk #[99, 111, 114, 107]), (ByteArray.mk #[100, 101, 118, 97])] : List ByteArray)), (1000000, .box (tc el01Source x1.2))]⟩ ?_
  obtain ⟨x2, hx2, h⟩ := bind_some h
  refine SRun.estep (xe ents73 (spec_l01Next_run x1.2 3 _ hx2)) ?_
  obtain ⟨x3, hx3, h⟩ := bind_some h
  refine SRun.ls (x_index_own (d := 5) (L := ([(ByteArray.mk #[97, 115, 104]), (ByteArray.mk #[98, 114, 105, 103]), (ByteArray.mk #[99, 111, 114, 107]), (ByteArray.mk #[100, 101, 118, 97])] : List ByteArray)) (f := eS) (ti := ti28) (tj := ti9) (e := 9) (e' := 9) (m := 1) (k := .i64) tbok rfl hx3) ?_
  refine SRun.ls (x_load_own (d := 5) (m := 1) (j := 0) (L := ([(ByteArray.mk #[97, 115, 104]), (ByteArray.mk #[98, 114, 105, 103]), (ByteArray.mk #[99, 111, 114, 107]), (ByteArray.mk #[100, 101, 118, 97])] : List ByteArray)) (f := eS) (ti := ti9) (e := 9) (v := vs x3) tbok rfl hx3) ?_
  refine SRun.ls (x_lstep_build (v := .agg [vi x1.1, vi 0, vs (ByteArray.mk #[]), vi 0, vs x3, vs (ByteArray.mk #[])]) tbok rfl) ?_
  refine ckn tbok 2 ⟨48, [(0, .ref 1000000 0), (2, .ref 2 0), (3, .own 5), (4, .ref 4 0)], [(2, .box [vi 0, vi 0, vs (ByteArray.mk #[]), vi 0, vs (ByteArray.mk #[]), vs (ByteArray.mk #[])]), (4, .box [vi x1.1, vi 0, vs (ByteArray.mk #[]), vi 0, vs x3, vs (ByteArray.mk #[])]), (5, oa 9 1 eS ([(ByteArray.mk #[97, 115, 104]), (ByteArray.mk #[98, 114, 105, 103]), (ByteArray.mk #[99, 111, 114, 107]), (ByteArray.mk #[100, 101, 118, 97])] : List ByteArray)), (1000000, .box (tc el01Source x2.2))]⟩ ?_
  refine swp_seq ?_
  refine srk tbok ⟨48, [(0, .ref 1000000 0), (2, .ref 2 0), (3, .own 5), (4, .ref 4 0), (15, vi x1.1)], [(2, .box [vi 0, vi 0, vs (ByteArray.mk #[]), vi 0, vs (ByteArray.mk #[]), vs (ByteArray.mk #[])]), (4, .box [vi x1.1, vi 0, vs (ByteArray.mk #[]), vi 0, vs x3, vs (ByteArray.mk #[])]), (5, oa 9 1 eS ([(ByteArray.mk #[97, 115, 104]), (ByteArray.mk #[98, 114, 105, 103]), (ByteArray.mk #[99, 111, 114, 107]), (ByteArray.mk #[100, 101, 118, 97])] : List ByteArray)), (1000000, .box (tc el01Source x2.2))]⟩ ?_
  refine swp_seqJ h (fun j4 => ⟨48, [(2, .ref 2 0), (4, .ref 4 0)], [(2, .box [vi 0, vi 0, vs (ByteArray.mk #[]), vi 0, vs (ByteArray.mk #[]), vs (ByteArray.mk #[])]), (4, .box (tc eDescription j4.1)), (1000000, .box (tc el01Source j4.2))]⟩) (fun v5 h => ?_) (fun j4 h => ?_)
  refine swp_blk (a := v5) ?_
  refine srk tbok ⟨48, [(0, .ref 1000000 0), (2, .ref 2 0), (3, .own 5), (4, .ref 4 0), (15, vi x1.1), (16, vb (x1.1 == 2))], [(2, .box [vi 0, vi 0, vs (ByteArray.mk #[]), vi 0, vs (ByteArray.mk #[]), vs (ByteArray.mk #[])]), (4, .box [vi x1.1, vi 0, vs (ByteArray.mk #[]), vi 0, vs x3, vs (ByteArray.mk #[])]), (5, oa 9 1 eS ([(ByteArray.mk #[97, 115, 104]), (ByteArray.mk #[98, 114, 105, 103]), (ByteArray.mk #[99, 111, 114, 107]), (ByteArray.mk #[100, 101, 118, 97])] : List ByteArray)), (1000000, .box (tc el01Source x2.2))]⟩ ?_
  refine swp_cd h (fun h => ?_) fun h => ?_
  refine sr ?_
  refine SRun.ck tbok 2 ⟨48, [(0, .ref 1000000 0), (2, .ref 2 0), (4, .ref 4 0), (18, .ref 1000000 0), (19, .ref 1000000 0)], [(2, .box [vi 0, vi 0, vs (ByteArray.mk #[]), vi 0, vs (ByteArray.mk #[]), vs (ByteArray.mk #[])]), (4, .box [vi x1.1, vi 0, vs (ByteArray.mk #[]), vi 0, vs x3, vs (ByteArray.mk #[])]), (1000000, .box (tc el01Source x2.2))]⟩ ?_
  obtain ⟨x6, hx6, h⟩ := bind_some h
  refine SRun.estep (xe ents73 (spec_l01Next_run x2.2 12 _ hx6)) ?_
  refine SRun.ck tbok 2 ⟨48, [(0, .ref 1000000 0), (2, .ref 2 0), (4, .ref 4 0), (18, .ref 1000000 0), (22, .own 22)], [(2, .box [vi 0, vi 0, vs (ByteArray.mk #[]), vi 0, vs (ByteArray.mk #[]), vs (ByteArray.mk #[])]), (4, .box [vi x1.1, vi 0, vs (ByteArray.mk #[]), vi 0, vs x3, vs (ByteArray.mk #[])]), (22, oa 2 1 (eI .i64) ([1, 2, 3, (w64 (1 + x6.1))] : List Int)), (1000000, .box (tc el01Source x6.2))]⟩ ?_
  refine SRun.le (Le.frz' (d := 22) (e := 2) (m := 1) (n := ([1, 2, 3, (w64 (1 + x6.1))] : List Int).length) (es := ([1, 2, 3, (w64 (1 + x6.1))] : List Int).map (eI .i64)) (by kernel_rfl) (by kernel_rfl)) ?_
  obtain ⟨x7, hx7, h⟩ := bind_some h
  refine SRun.estep (xe ents219 (spec_l01Pick_run x6.2 ([1, 2, 3, (w64 (1 + x6.1))] : List Int) _ hx7)) ?_
  refine ckn tbok 2 ⟨48, [(0, .ref 1000000 0), (2, .ref 2 0), (4, .ref 4 0)], [(2, .box [vi 0, vi 0, vs (ByteArray.mk #[]), vi 0, vs (ByteArray.mk #[]), vs (ByteArray.mk #[])]), (4, .box [vi x1.1, vi x7.1, vs (ByteArray.mk #[]), vi 0, vs x3, vs (ByteArray.mk #[])]), (1000000, .box (tc el01Source x7.2))]⟩ ?_
  refine sr ?_
  refine SRun.ck tbok 2 ⟨48, [(0, .ref 1000000 0), (2, .ref 2 0), (4, .ref 4 0), (25, .own 25), (26, .ref 1000000 0)], [(2, .box [vi 0, vi 0, vs (ByteArray.mk #[]), vi 0, vs (ByteArray.mk #[]), vs (ByteArray.mk #[])]), (4, .box [vi x1.1, vi x7.1, vs (ByteArray.mk #[]), vi 0, vs x3, vs (ByteArray.mk #[])]), (25, oa 9 1 eS ([(ByteArray.mk #[109, 105, 108, 101]), (ByteArray.mk #[109, 105, 108, 101]), (ByteArray.mk #[108, 101, 97, 103, 117, 101])] : List ByteArray)), (1000000, .box (tc el01Source x7.2))]⟩ ?_
  obtain ⟨x8, hx8, h⟩ := bind_some h
  refine SRun.estep (xe ents73 (spec_l01Next_run x7.2 3 _ hx8)) ?_
  obtain ⟨x9, hx9, h⟩ := bind_some h
  refine SRun.ls (x_index_own (d := 25) (L := ([(ByteArray.mk #[109, 105, 108, 101]), (ByteArray.mk #[109, 105, 108, 101]), (ByteArray.mk #[108, 101, 97, 103, 117, 101])] : List ByteArray)) (f := eS) (ti := ti28) (tj := ti9) (e := 9) (e' := 9) (m := 1) (k := .i64) tbok rfl hx9) ?_
  refine SRun.ls (x_load_own (d := 25) (m := 1) (j := 0) (L := ([(ByteArray.mk #[109, 105, 108, 101]), (ByteArray.mk #[109, 105, 108, 101]), (ByteArray.mk #[108, 101, 97, 103, 117, 101])] : List ByteArray)) (f := eS) (ti := ti9) (e := 9) (v := vs x9) tbok rfl hx9) ?_
  refine ckn tbok 2 ⟨48, [(0, .ref 1000000 0), (2, .ref 2 0), (4, .ref 4 0)], [(2, .box [vi 0, vi 0, vs (ByteArray.mk #[]), vi 0, vs (ByteArray.mk #[]), vs (ByteArray.mk #[])]), (4, .box [vi x1.1, vi x7.1, vs x9, vi 0, vs x3, vs (ByteArray.mk #[])]), (1000000, .box (tc el01Source x8.2))]⟩ ?_
  refine swp_seq ?_
  refine srk tbok ⟨48, [(0, .ref 1000000 0), (2, .ref 2 0), (4, .ref 4 0), (33, vb (x7.1 != 1))], [(2, .box [vi 0, vi 0, vs (ByteArray.mk #[]), vi 0, vs (ByteArray.mk #[]), vs (ByteArray.mk #[])]), (4, .box [vi x1.1, vi x7.1, vs x9, vi 0, vs x3, vs (ByteArray.mk #[])]), (1000000, .box (tc el01Source x8.2))]⟩ ?_
  refine swp_seqJ h (fun j10 => ⟨48, [(0, .ref 1000000 0), (2, .ref 2 0), (4, .ref 4 0)], [(2, .box [vi 0, vi 0, vs (ByteArray.mk #[]), vi 0, vs (ByteArray.mk #[]), vs (ByteArray.mk #[])]), (4, .box (tc eDescription j10)), (1000000, .box (tc el01Source x8.2))]⟩) (fun v11 h => ?_) (fun j10 h => ?_)
  refine swp_cd h (fun h => ?_) fun h => ?_
  refine swp_reg ?_
  refine SRun.ck tbok 2 ⟨48, [(0, .ref 1000000 0), (2, .ref 2 0), (4, .ref 4 0), (35, vs x9)], [(2, .box [vi 0, vi 0, vs (ByteArray.mk #[]), vi 0, vs (ByteArray.mk #[]), vs (ByteArray.mk #[])]), (4, .box [vi x1.1, vi x7.1, vs x9, vi 0, vs x3, vs (ByteArray.mk #[])]), (1000000, .box (tc el01Source x8.2))]⟩ ?_
  obtain ⟨x12, hx12, h⟩ := bind_some h
  refine SRun.ls (x_cat hx12 rfl) ?_
  refine SRun.ck tbok 2 ⟨48, [(0, .ref 1000000 0), (2, .ref 2 0), (4, .ref 4 0)], [(2, .box [vi 0, vi 0, vs (ByteArray.mk #[]), vi 0, vs (ByteArray.mk #[]), vs (ByteArray.mk #[])]), (4, .box [vi x1.1, vi x7.1, vs x12, vi 0, vs x3, vs (ByteArray.mk #[])]), (1000000, .box (tc el01Source x8.2))]⟩ ?_
  refine SRun.nil ?_
  obtain rfl := inj h
  exact q_j (Le.sub0)
  refine swp_skip ?_
  obtain rfl := inj h
  exact q_j (Le.sub0)
  refine swp_reg ?_
  refine SRun.ck tbok 1 ⟨48, [(2, .ref 2 0), (4, .ref 4 0), (38, .ref 1000000 0)], [(2, .box [vi 0, vi 0, vs (ByteArray.mk #[]), vi 0, vs (ByteArray.mk #[]), vs (ByteArray.mk #[])]), (4, .box (tc eDescription j10)), (1000000, .box (tc el01Source x8.2))]⟩ ?_
  obtain ⟨x13, hx13, h⟩ := bind_some h
  refine SRun.estep (xe ents73 (spec_l01Next_run x8.2 8 _ hx13)) ?_
  refine SRun.ck tbok 2 ⟨48, [(2, .ref 2 0), (4, .ref 4 0)], [(2, .box [vi 0, vi 0, vs (ByteArray.mk #[]), vi 0, vs (ByteArray.mk #[]), vs (ByteArray.mk #[])]), (4, .box [vi j10.Kind, vi j10.Count, vs j10.Unit, vi x13.1, vs j10.A, vs j10.B]), (1000000, .box (tc el01Source x13.2))]⟩ ?_
  refine SRun.nil ?_
  obtain rfl := inj h
  exact q_bn (q_j (Le.sub0))
  refine srk tbok ⟨48, [(2, .ref 2 0), (3, .own 5), (4, .ref 4 0), (41, vb (x1.1 == 3))], [(2, .box [vi 0, vi 0, vs (ByteArray.mk #[]), vi 0, vs (ByteArray.mk #[]), vs (ByteArray.mk #[])]), (4, .box [vi x1.1, vi 0, vs (ByteArray.mk #[]), vi 0, vs x3, vs (ByteArray.mk #[])]), (5, oa 9 1 eS ([(ByteArray.mk #[97, 115, 104]), (ByteArray.mk #[98, 114, 105, 103]), (ByteArray.mk #[99, 111, 114, 107]), (ByteArray.mk #[100, 101, 118, 97])] : List ByteArray)), (1000000, .box (tc el01Source x2.2))]⟩ ?_
  refine swp_cd h (fun h => ?_) fun h => ?_
  refine swp_reg ?_
  refine SRun.ck tbok 1 ⟨48, [(2, .ref 2 0), (4, .ref 4 0), (43, .own 5)], [(2, .box [vi 0, vi 0, vs (ByteArray.mk #[]), vi 0, vs (ByteArray.mk #[]), vs (ByteArray.mk #[])]), (4, .box [vi x1.1, vi 0, vs (ByteArray.mk #[]), vi 0, vs x3, vs (ByteArray.mk #[])]), (5, oa 9 1 eS ([(ByteArray.mk #[97, 115, 104]), (ByteArray.mk #[98, 114, 105, 103]), (ByteArray.mk #[99, 111, 114, 107]), (ByteArray.mk #[100, 101, 118, 97])] : List ByteArray)), (1000000, .box (tc el01Source x2.2))]⟩ ?_
  obtain ⟨x14, hx14, h⟩ := bind_some h
  refine SRun.ls (x_index_own (d := 5) (L := ([(ByteArray.mk #[97, 115, 104]), (ByteArray.mk #[98, 114, 105, 103]), (ByteArray.mk #[99, 111, 114, 107]), (ByteArray.mk #[100, 101, 118, 97])] : List ByteArray)) (f := eS) (ti := ti28) (tj := ti9) (e := 9) (e' := 9) (m := 1) (k := .i64) tbok rfl hx14) ?_
  refine SRun.ls (x_load_own (d := 5) (m := 1) (j := 0) (L := ([(ByteArray.mk #[97, 115, 104]), (ByteArray.mk #[98, 114, 105, 103]), (ByteArray.mk #[99, 111, 114, 107]), (ByteArray.mk #[100, 101, 118, 97])] : List ByteArray)) (f := eS) (ti := ti9) (e := 9) (v := vs x14) tbok rfl hx14) ?_
  refine SRun.ck tbok 2 ⟨48, [(2, .ref 2 0), (4, .ref 4 0)], [(2, .box [vi 0, vi 0, vs (ByteArray.mk #[]), vi 0, vs (ByteArray.mk #[]), vs (ByteArray.mk #[])]), (4, .box [vi x1.1, vi 0, vs (ByteArray.mk #[]), vi 0, vs x3, vs x14]), (1000000, .box (tc el01Source x2.2))]⟩ ?_
  refine SRun.nil ?_
  obtain rfl := inj h
  exact q_bn (q_j (Le.sub0))
  refine swp_skip ?_
  obtain rfl := inj h
  exact q_bn (q_j (Le.sub0))
  refine srk tbok ⟨48, [(2, .ref 2 0)], [(2, .box (tc eDescription j4.1)), (1000000, .box (tc el01Source j4.2))]⟩ ?_
  refine swp_ret ?_
  obtain rfl := inj h
  exact q_fr (fin_io (f1 (fc tbok)) (y := .box (tc el01Source j4.2)) (by kernel_rfl) rfl (by kernel_rfl) (by kernel_rfl))
theorem ents182 : Ents Tryz.prog 182 := ents_of Tryz.func182 (by kernel_rfl) rfl
noncomputable def spec_l28Draw (aS : l01Source) : Option (Description × l01Source) :=
  ((spec_l28Good aS).bind fun x1 => ((spec_l01Next x1.2 30).bind fun x2 => (((bif (x2.1 == 0) then ((spec_l01Pick x2.2 ([0, 1, 2, 99, 100] : List Int)).bind fun x5 => some ((Description.mk x1.1.Kind x5.1 x1.1.Unit x1.1.Direction x1.1.A x1.1.B), x5.2)) else (bif (x2.1 == 1) then ((spec_l01Next x2.2 5).bind fun x6 => ((at' ([(ByteArray.mk #[]), (ByteArray.mk #[110, 101, 97, 114]), (ByteArray.mk #[110, 111, 114, 116, 104]), (ByteArray.mk #[65, 115, 104]), (ByteArray.mk #[108, 101, 97, 103, 117, 101, 115])] : List ByteArray) x6.1).bind fun x7 => some ((Description.mk x1.1.Kind x1.1.Count x1.1.Unit x1.1.Direction x7 x1.1.B), x6.2))) else (bif (x2.1 == 2) then ((spec_l01Next x2.2 6).bind fun x8 => some ((Description.mk (w64 (x8.1 - 1)) x1.1.Count x1.1.Unit x1.1.Direction x1.1.A x1.1.B), x8.2)) else (bif (x2.1 == 3) then ((spec_l01Next x2.2 3).bind fun x9 => ((at' ([(ByteArray.mk #[97, 115, 104]), (ByteArray.mk #[97, 110, 100]), (ByteArray.mk #[])] : List ByteArray) x9.1).bind fun x10 => some ((Description.mk x1.1.Kind x1.1.Count x1.1.Unit x1.1.Direction x1.1.A x10), x9.2))) else (bif (x2.1 == 4) then ((spec_l01Pick x2.2 ([(-1), 8, 3] : List Int)).bind fun x11 => some ((Description.mk x1.1.Kind x1.1.Count x1.1.Unit x11.1 x1.1.A x1.1.B), x11.2)) else some (x1.1, x2.2))))))).bind fun (j3 : Description × l01Source) => some (j3.1, j3.2))))
theorem spec_l28Draw_run (aS : l01Source) (r : Description × l01Source) (h : spec_l28Draw aS = some r) : SCall Tryz.prog 183 [.o (.box [vl (eI .u8) aS.code, vi aS.at', vi aS.seed])] ⟨[.v (.agg (tc eDescription r.1))], [(0, .box (tc el01Source r.2))], false⟩ := by
  refine scall_in Tryz.func183 rfl [(.cell 2 84)] rfl (fun r => ⟨[.v (.agg (tc eDescription r.1))], [(0, .box (tc el01Source r.2))], false⟩) (r := r) ?_
  unfold spec_l28Draw at h
  refine srk tbok ⟨43, [(0, .ref 1000000 0), (2, .ref 2 0)], [(2, .box [vi 0, vi 0, vs (ByteArray.mk #[]), vi 0, vs (ByteArray.mk #[]), vs (ByteArray.mk #[])]), (1000000, .box (tc el01Source aS))]⟩ ?_
  refine sr ?_
  refine SRun.ck tbok 1 ⟨43, [(0, .ref 1000000 0), (2, .ref 2 0), (4, .ref 1000000 0)], [(2, .box [vi 0, vi 0, vs (ByteArray.mk #[]), vi 0, vs (ByteArray.mk #[]), vs (ByteArray.mk #[])]), (1000000, .box (tc el01Source aS))]⟩ ?_
  obtain ⟨x1, hx1, h⟩ := bind_some h
  refine SRun.estep (xe ents182 (spec_l28Good_run aS _ hx1)) ?_
  refine ckn tbok 2 ⟨43, [(0, .ref 1000000 0), (2, .ref 2 0), (3, .ref 3 0)], [(2, .box [vi 0, vi 0, vs (ByteArray.mk #[]), vi 0, vs (ByteArray.mk #[]), vs (ByteArray.mk #[])]), (3, .box (tc eDescription x1.1)), (1000000, .box (tc el01Source x1.2))]⟩ ?_
  refine swp_seq ?_
  refine sr ?_
  refine SRun.ck tbok 1 ⟨43, [(0, .ref 1000000 0), (2, .ref 2 0), (3, .ref 3 0), (6, .ref 1000000 0)], [(2, .box [vi 0, vi 0, vs (ByteArray.mk #[]), vi 0, vs (ByteArray.mk #[]), vs (ByteArray.mk #[])]), (3, .box (tc eDescription x1.1)), (1000000, .box (tc el01Source x1.2))]⟩ ?_
  obtain ⟨x2, hx2, h⟩ := bind_some h
  refine SRun.estep (xe ents73 (spec_l01Next_run x1.2 30 _ hx2)) ?_
  refine SRun.nx ?_
  refine swp_seqJ h (fun j3 => ⟨43, [(2, .ref 2 0), (3, .ref 3 0)], [(2, .box [vi 0, vi 0, vs (ByteArray.mk #[]), vi 0, vs (ByteArray.mk #[]), vs (ByteArray.mk #[])]), (3, .box (tc eDescription j3.1)), (1000000, .box (tc el01Source j3.2))]⟩) (fun v4 h => ?_) (fun j3 h => ?_)
  refine swp_blk (a := v4) ?_
  refine srk tbok ⟨43, [(0, .ref 1000000 0), (2, .ref 2 0), (3, .ref 3 0), (7, vi x2.1), (8, vb (x2.1 == 0))], [(2, .box [vi 0, vi 0, vs (ByteArray.mk #[]), vi 0, vs (ByteArray.mk #[]), vs (ByteArray.mk #[])]), (3, .box (tc eDescription x1.1)), (1000000, .box (tc el01Source x2.2))]⟩ ?_
  refine swp_cd h (fun h => ?_) fun h => ?_
  refine swp_reg ?_
  refine SRun.ck tbok 2 ⟨43, [(2, .ref 2 0), (3, .ref 3 0), (10, .ref 1000000 0), (11, .own 11)], [(2, .box [vi 0, vi 0, vs (ByteArray.mk #[]), vi 0, vs (ByteArray.mk #[]), vs (ByteArray.mk #[])]), (3, .box (tc eDescription x1.1)), (11, oa 2 1 (eI .i64) ([0, 1, 2, 99, 100] : List Int)), (1000000, .box (tc el01Source x2.2))]⟩ ?_
  refine SRun.le (Le.frz' (d := 11) (e := 2) (m := 1) (n := ([0, 1, 2, 99, 100] : List Int).length) (es := ([0, 1, 2, 99, 100] : List Int).map (eI .i64)) (by kernel_rfl) (by kernel_rfl)) ?_
  obtain ⟨x5, hx5, h⟩ := bind_some h
  refine SRun.estep (xe ents219 (spec_l01Pick_run x2.2 ([0, 1, 2, 99, 100] : List Int) _ hx5)) ?_
  refine SRun.ck tbok 2 ⟨43, [(2, .ref 2 0), (3, .ref 3 0)], [(2, .box [vi 0, vi 0, vs (ByteArray.mk #[]), vi 0, vs (ByteArray.mk #[]), vs (ByteArray.mk #[])]), (3, .box [vi x1.1.Kind, vi x5.1, vs x1.1.Unit, vi x1.1.Direction, vs x1.1.A, vs x1.1.B]), (1000000, .box (tc el01Source x5.2))]⟩ ?_
  refine SRun.nil ?_
  obtain rfl := inj h
  exact q_bn (q_j (Le.sub0))
  refine srk tbok ⟨43, [(0, .ref 1000000 0), (2, .ref 2 0), (3, .ref 3 0), (7, vi x2.1), (14, vb (x2.1 == 1))], [(2, .box [vi 0, vi 0, vs (ByteArray.mk #[]), vi 0, vs (ByteArray.mk #[]), vs (ByteArray.mk #[])]), (3, .box (tc eDescription x1.1)), (1000000, .box (tc el01Source x2.2))]⟩ ?_
  refine swp_cd h (fun h => ?_) fun h => ?_
  refine swp_reg ?_
  refine SRun.ck tbok 2 ⟨43, [(2, .ref 2 0), (3, .ref 3 0), (16, .own 16), (17, .ref 1000000 0)], [(2, .box [vi 0, vi 0, vs (ByteArray.mk #[]), vi 0, vs (ByteArray.mk #[]), vs (ByteArray.mk #[])]), (3, .box (tc eDescription x1.1)), (16, oa 9 1 eS ([(ByteArray.mk #[]), (ByteArray.mk #[110, 101, 97, 114]), (ByteArray.mk #[110, 111, 114, 116, 104]), (ByteArray.mk #[65, 115, 104]), (ByteArray.mk #[108, 101, 97, 103, 117, 101, 115])] : List ByteArray)), (1000000, .box (tc el01Source x2.2))]⟩ ?_
  obtain ⟨x6, hx6, h⟩ := bind_some h
  refine SRun.estep (xe ents73 (spec_l01Next_run x2.2 5 _ hx6)) ?_
  obtain ⟨x7, hx7, h⟩ := bind_some h
  refine SRun.ls (x_index_own (d := 16) (L := ([(ByteArray.mk #[]), (ByteArray.mk #[110, 101, 97, 114]), (ByteArray.mk #[110, 111, 114, 116, 104]), (ByteArray.mk #[65, 115, 104]), (ByteArray.mk #[108, 101, 97, 103, 117, 101, 115])] : List ByteArray)) (f := eS) (ti := ti28) (tj := ti9) (e := 9) (e' := 9) (m := 1) (k := .i64) tbok rfl hx7) ?_
  refine SRun.ls (x_load_own (d := 16) (m := 1) (j := 0) (L := ([(ByteArray.mk #[]), (ByteArray.mk #[110, 101, 97, 114]), (ByteArray.mk #[110, 111, 114, 116, 104]), (ByteArray.mk #[65, 115, 104]), (ByteArray.mk #[108, 101, 97, 103, 117, 101, 115])] : List ByteArray)) (f := eS) (ti := ti9) (e := 9) (v := vs x7) tbok rfl hx7) ?_
  refine SRun.ck tbok 2 ⟨43, [(2, .ref 2 0), (3, .ref 3 0)], [(2, .box [vi 0, vi 0, vs (ByteArray.mk #[]), vi 0, vs (ByteArray.mk #[]), vs (ByteArray.mk #[])]), (3, .box [vi x1.1.Kind, vi x1.1.Count, vs x1.1.Unit, vi x1.1.Direction, vs x7, vs x1.1.B]), (1000000, .box (tc el01Source x6.2))]⟩ ?_
  refine SRun.nil ?_
  obtain rfl := inj h
  exact q_bn (q_j (Le.sub0))
  refine srk tbok ⟨43, [(0, .ref 1000000 0), (2, .ref 2 0), (3, .ref 3 0), (7, vi x2.1), (22, vb (x2.1 == 2))], [(2, .box [vi 0, vi 0, vs (ByteArray.mk #[]), vi 0, vs (ByteArray.mk #[]), vs (ByteArray.mk #[])]), (3, .box (tc eDescription x1.1)), (1000000, .box (tc el01Source x2.2))]⟩ ?_
  refine swp_cd h (fun h => ?_) fun h => ?_
  refine swp_reg ?_
  refine SRun.ck tbok 1 ⟨43, [(2, .ref 2 0), (3, .ref 3 0), (24, .ref 1000000 0)], [(2, .box [vi 0, vi 0, vs (ByteArray.mk #[]), vi 0, vs (ByteArray.mk #[]), vs (ByteArray.mk #[])]), (3, .box (tc eDescription x1.1)), (1000000, .box (tc el01Source x2.2))]⟩ ?_
  obtain ⟨x8, hx8, h⟩ := bind_some h
  refine SRun.estep (xe ents73 (spec_l01Next_run x2.2 6 _ hx8)) ?_
  refine SRun.ck tbok 3 ⟨43, [(2, .ref 2 0), (3, .ref 3 0)], [(2, .box [vi 0, vi 0, vs (ByteArray.mk #[]), vi 0, vs (ByteArray.mk #[]), vs (ByteArray.mk #[])]), (3, .box [vi (w64 (x8.1 - 1)), vi x1.1.Count, vs x1.1.Unit, vi x1.1.Direction, vs x1.1.A, vs x1.1.B]), (1000000, .box (tc el01Source x8.2))]⟩ ?_
  refine SRun.nil ?_
  obtain rfl := inj h
  exact q_bn (q_j (Le.sub0))
  refine srk tbok ⟨43, [(0, .ref 1000000 0), (2, .ref 2 0), (3, .ref 3 0), (7, vi x2.1), (28, vb (x2.1 == 3))], [(2, .box [vi 0, vi 0, vs (ByteArray.mk #[]), vi 0, vs (ByteArray.mk #[]), vs (ByteArray.mk #[])]), (3, .box (tc eDescription x1.1)), (1000000, .box (tc el01Source x2.2))]⟩ ?_
  refine swp_cd h (fun h => ?_) fun h => ?_
  refine swp_reg ?_
  refine SRun.ck tbok 2 ⟨43, [(2, .ref 2 0), (3, .ref 3 0), (30, .own 30), (31, .ref 1000000 0)], [(2, .box [vi 0, vi 0, vs (ByteArray.mk #[]), vi 0, vs (ByteArray.mk #[]), vs (ByteArray.mk #[])]), (3, .box (tc eDescription x1.1)), (30, oa 9 1 eS ([(ByteArray.mk #[97, 115, 104]), (ByteArray.mk #[97, 110, 100]), (ByteArray.mk #[])] : List ByteArray)), (1000000, .box (tc el01Source x2.2))]⟩ ?_
  obtain ⟨x9, hx9, h⟩ := bind_some h
  refine SRun.estep (xe ents73 (spec_l01Next_run x2.2 3 _ hx9)) ?_
  obtain ⟨x10, hx10, h⟩ := bind_some h
  refine SRun.ls (x_index_own (d := 30) (L := ([(ByteArray.mk #[97, 115, 104]), (ByteArray.mk #[97, 110, 100]), (ByteArray.mk #[])] : List ByteArray)) (f := eS) (ti := ti28) (tj := ti9) (e := 9) (e' := 9) (m := 1) (k := .i64) tbok rfl hx10) ?_
  refine SRun.ls (x_load_own (d := 30) (m := 1) (j := 0) (L := ([(ByteArray.mk #[97, 115, 104]), (ByteArray.mk #[97, 110, 100]), (ByteArray.mk #[])] : List ByteArray)) (f := eS) (ti := ti9) (e := 9) (v := vs x10) tbok rfl hx10) ?_
  refine SRun.ck tbok 2 ⟨43, [(2, .ref 2 0), (3, .ref 3 0)], [(2, .box [vi 0, vi 0, vs (ByteArray.mk #[]), vi 0, vs (ByteArray.mk #[]), vs (ByteArray.mk #[])]), (3, .box [vi x1.1.Kind, vi x1.1.Count, vs x1.1.Unit, vi x1.1.Direction, vs x1.1.A, vs x10]), (1000000, .box (tc el01Source x9.2))]⟩ ?_
  refine SRun.nil ?_
  obtain rfl := inj h
  exact q_bn (q_j (Le.sub0))
  refine srk tbok ⟨43, [(0, .ref 1000000 0), (2, .ref 2 0), (3, .ref 3 0), (36, vb (x2.1 == 4))], [(2, .box [vi 0, vi 0, vs (ByteArray.mk #[]), vi 0, vs (ByteArray.mk #[]), vs (ByteArray.mk #[])]), (3, .box (tc eDescription x1.1)), (1000000, .box (tc el01Source x2.2))]⟩ ?_
  refine swp_cd h (fun h => ?_) fun h => ?_
  refine swp_reg ?_
  refine SRun.ck tbok 2 ⟨43, [(2, .ref 2 0), (3, .ref 3 0), (38, .ref 1000000 0), (39, .own 39)], [(2, .box [vi 0, vi 0, vs (ByteArray.mk #[]), vi 0, vs (ByteArray.mk #[]), vs (ByteArray.mk #[])]), (3, .box (tc eDescription x1.1)), (39, oa 2 1 (eI .i64) ([(-1), 8, 3] : List Int)), (1000000, .box (tc el01Source x2.2))]⟩ ?_
  refine SRun.le (Le.frz' (d := 39) (e := 2) (m := 1) (n := ([(-1), 8, 3] : List Int).length) (es := ([(-1), 8, 3] : List Int).map (eI .i64)) (by kernel_rfl) (by kernel_rfl)) ?_
  obtain ⟨x11, hx11, h⟩ := bind_some h
  refine SRun.estep (xe ents219 (spec_l01Pick_run x2.2 ([(-1), 8, 3] : List Int) _ hx11)) ?_
  refine SRun.ck tbok 2 ⟨43, [(2, .ref 2 0), (3, .ref 3 0)], [(2, .box [vi 0, vi 0, vs (ByteArray.mk #[]), vi 0, vs (ByteArray.mk #[]), vs (ByteArray.mk #[])]), (3, .box [vi x1.1.Kind, vi x1.1.Count, vs x1.1.Unit, vi x11.1, vs x1.1.A, vs x1.1.B]), (1000000, .box (tc el01Source x11.2))]⟩ ?_
  refine SRun.nil ?_
  obtain rfl := inj h
  exact q_bn (q_j (Le.sub0))
  refine swp_skip ?_
  obtain rfl := inj h
  exact q_bn (q_j (Le.sub0))
  refine srk tbok ⟨43, [(2, .ref 2 0)], [(2, .box (tc eDescription j3.1)), (1000000, .box (tc el01Source j3.2))]⟩ ?_
  refine swp_ret ?_
  obtain rfl := inj h
  exact q_fr (fin_io (f1 (fc tbok)) (y := .box (tc el01Source j3.2)) (by kernel_rfl) rfl (by kernel_rfl) (by kernel_rfl))
theorem ents183 : Ents Tryz.prog 183 := ents_of Tryz.func183 (by kernel_rfl) rfl
noncomputable def spec_l29Descriptions (aS : l01Source) : Option ((List Description) × l01Source) :=
  ((spec_l01Next aS 4).bind fun x1 => (((loop (fun (s4 : Int × (List Description) × l01Source) => (bif (decide (s4.1 > 0)) then ((((spec_l28Good s4.2.2).bind fun x8 => ((spec_l01Next x8.2 30).bind fun x9 => (((bif (x9.1 == 0) then ((spec_l28Draw x9.2).bind fun x12 => some (x12.1, x12.2)) else some (x8.1, x9.2))).bind fun (j10 : Description × l01Source) => ((app' s4.2.1 ([j10.1] : List Description)).bind fun x13 => some (x13, j10.2)))))).bind fun (j6 : (List Description) × l01Source) => some (.inl ((w64 (s4.1 - 1)), j6.1, j6.2))) else some (.inr (s4.2.1, s4.2.2)))) (x1.1, ([] : List Description), x1.2))).bind fun (j2 : (List Description) × l01Source) => ((spec_l01Next j2.2 30).bind fun x14 => (((bif (x14.1 == 0) then (loop (fun (s17 : (List Description) × l01Source) => ((spec_l01Next s17.2 2).bind fun x19 => (bif (decide ((s17.1.length : Int) < (w64 (8 + x19.1)))) then ((app' s17.1 ([(Description.mk 1 0 (ByteArray.mk #[]) 0 (ByteArray.mk #[97, 115, 104]) (ByteArray.mk #[]))] : List Description)).bind fun x20 => some (.inl (x20, x19.2))) else some (.inr (s17.1, x19.2))))) (j2.1, x14.2)) else some (j2.1, x14.2))).bind fun (j15 : (List Description) × l01Source) => some (j15.1, j15.2)))))
theorem spec_l29Descriptions_run (aS : l01Source) (r : (List Description) × l01Source) (h : spec_l29Descriptions aS = some r) : SCall Tryz.prog 158 [.o (.box [vl (eI .u8) aS.code, vi aS.at', vi aS.seed])] ⟨[.own 84 6 r.1.length (r.1.map eDescription)], [(0, .box (tc el01Source r.2))], false⟩ := by
  refine scall_in Tryz.func158 rfl [(.tmp 2)] rfl (fun r => ⟨[.own 84 6 r.1.length (r.1.map eDescription)], [(0, .box (tc el01Source r.2))], false⟩) (r := r) ?_
  unfold spec_l29Descriptions at h
  refine srk tbok ⟨38, [(0, .ref 1000000 0)], [(1000000, .box (tc el01Source aS))]⟩ ?_
  refine srk tbok ⟨38, [(0, .ref 1000000 0), (3, .own 6)], [(6, oa 84 6 eDescription ([] : List Description)), (1000000, .box (tc el01Source aS))]⟩ ?_
  refine swp_seq ?_
  refine sr ?_
  refine SRun.ck tbok 1 ⟨38, [(0, .ref 1000000 0), (3, .own 6), (7, .ref 1000000 0)], [(6, oa 84 6 eDescription ([] : List Description)), (1000000, .box (tc el01Source aS))]⟩ ?_
  obtain ⟨x1, hx1, h⟩ := bind_some h
  refine SRun.estep (xe ents73 (spec_l01Next_run aS 4 _ hx1)) ?_
  refine ckn tbok 1 ⟨38, [(0, .ref 1000000 0), (3, .own 6), (4, vi x1.1)], [(6, oa 84 6 eDescription ([] : List Description)), (1000000, .box (tc el01Source x1.2))]⟩ ?_
  refine swp_seqJ h (fun j2 => ⟨38, [(0, .ref 1000000 0), (3, .own 3)], [(3, oa 84 6 eDescription j2.1), (1000000, .box (tc el01Source j2.2))]⟩) (fun v3 h => ?_) (fun j2 h => ?_)
  refine swp_blk (a := v3) ?_
  refine swp_lpL (r := v3) (s := (x1.1, ([] : List Description), x1.2)) _ (fun s4 => ⟨38, [(0, .ref 1000000 0), (3, .own 3), (4, vi s4.1)], [(3, oa 84 6 eDescription s4.2.1), (1000000, .box (tc el01Source s4.2.2))]⟩) _ (Le.rr [6, 1000000] [(6, 3)]) h (fun s4 v5 h => ?_)
  refine swp_seq ?_
  refine srk tbok ⟨38, [(0, .ref 1000000 0), (3, .own 3), (4, vi s4.1), (10, vb (decide (s4.1 > 0)))], [(3, oa 84 6 eDescription s4.2.1), (1000000, .box (tc el01Source s4.2.2))]⟩ ?_
  refine swp_cd h (fun h => ?_) fun h => ?_
  refine swp_skip ?_
  refine nx_n ?_
  refine swp_seq ?_
  refine swp_seqJ h (fun j6 => ⟨38, [(0, .ref 1000000 0), (3, .own 3), (4, vi s4.1)], [(3, oa 84 6 eDescription j6.1), (1000000, .box (tc el01Source j6.2))]⟩) (fun v7 h => ?_) (fun j6 h => ?_)
  refine swp_blk (a := v7) ?_
  refine sr ?_
  refine SRun.ck tbok 1 ⟨38, [(0, .ref 1000000 0), (3, .own 3), (4, vi s4.1), (13, .ref 1000000 0)], [(3, oa 84 6 eDescription s4.2.1), (1000000, .box (tc el01Source s4.2.2))]⟩ ?_
  obtain ⟨x8, hx8, h⟩ := bind_some h
  refine SRun.estep (xe ents182 (spec_l28Good_run s4.2.2 _ hx8)) ?_
  refine ckn tbok 2 ⟨38, [(0, .ref 1000000 0), (3, .own 3), (4, vi s4.1), (5, .ref 5 0)], [(3, oa 84 6 eDescription s4.2.1), (5, .box (tc eDescription x8.1)), (1000000, .box (tc el01Source x8.2))]⟩ ?_
  refine swp_seq ?_
  refine sr ?_
  refine SRun.ck tbok 1 ⟨38, [(0, .ref 1000000 0), (3, .own 3), (4, vi s4.1), (5, .ref 5 0), (15, .ref 1000000 0)], [(3, oa 84 6 eDescription s4.2.1), (5, .box (tc eDescription x8.1)), (1000000, .box (tc el01Source x8.2))]⟩ ?_
  obtain ⟨x9, hx9, h⟩ := bind_some h
  refine SRun.estep (xe ents73 (spec_l01Next_run x8.2 30 _ hx9)) ?_
  refine ckn tbok 1 ⟨38, [(0, .ref 1000000 0), (3, .own 3), (4, vi s4.1), (5, .ref 5 0), (17, vb (x9.1 == 0))], [(3, oa 84 6 eDescription s4.2.1), (5, .box (tc eDescription x8.1)), (1000000, .box (tc el01Source x9.2))]⟩ ?_
  refine swp_seqJ h (fun j10 => ⟨38, [(0, .ref 1000000 0), (3, .own 3), (4, vi s4.1), (5, .ref 5 0)], [(3, oa 84 6 eDescription s4.2.1), (5, .box (tc eDescription j10.1)), (1000000, .box (tc el01Source j10.2))]⟩) (fun v11 h => ?_) (fun j10 h => ?_)
  refine swp_cd h (fun h => ?_) fun h => ?_
  refine swp_reg ?_
  refine SRun.ck tbok 1 ⟨38, [(0, .ref 1000000 0), (3, .own 3), (4, vi s4.1), (5, .ref 5 0), (18, .ref 1000000 0)], [(3, oa 84 6 eDescription s4.2.1), (5, .box (tc eDescription x8.1)), (1000000, .box (tc el01Source x9.2))]⟩ ?_
  obtain ⟨x12, hx12, h⟩ := bind_some h
  refine SRun.estep (xe ents183 (spec_l28Draw_run x9.2 _ hx12)) ?_
  refine SRun.ck tbok 1 ⟨38, [(0, .ref 1000000 0), (3, .own 3), (4, vi s4.1), (5, .ref 5 0)], [(3, oa 84 6 eDescription s4.2.1), (5, .box (tc eDescription x12.1)), (1000000, .box (tc el01Source x12.2))]⟩ ?_
  refine SRun.nil ?_
  obtain rfl := inj h
  exact q_j (Le.sub0)
  refine swp_skip ?_
  obtain rfl := inj h
  exact q_j (Le.sub0)
  refine swp_reg ?_
  refine SRun.ck tbok 3 ⟨38, [(0, .ref 1000000 0), (4, vi s4.1), (20, .own 3), (22, .own 22)], [(3, oa 84 6 eDescription s4.2.1), (22, oa 84 6 eDescription ([j10.1] : List Description)), (1000000, .box (tc el01Source j10.2))]⟩ ?_
  obtain ⟨x13, hx13, h⟩ := bind_some h
  refine SRun.estep (x_append (f := eDescription) (t := 35) (ti := ti35) (tj := ti84) (zs := [.int .i64 0, .int .i64 0, .string (ByteArray.mk #[]), .int .i64 0, .string (ByteArray.mk #[]), .string (ByteArray.mk #[])]) (e := 84) (m := 6) (d := 3) (xv := .own 22) hx13 tbok rfl rfl rfl rfl (x_src_o (e := 84))) ?_
  refine SRun.ck tbok 1 ⟨38, [(0, .ref 1000000 0), (3, .own 23), (4, vi s4.1)], [(23, oa 84 6 eDescription x13), (1000000, .box (tc el01Source j10.2))]⟩ ?_
  refine SRun.nil ?_
  obtain rfl := inj h
  exact q_bn (q_j (Le.rr [23, 1000000] [(23, 3)]))
  refine swp_reg ?_
  refine SRun.ck tbok 3 ⟨38, [(0, .ref 1000000 0), (3, .own 3), (4, vi (w64 (s4.1 - 1)))], [(3, oa 84 6 eDescription j6.1), (1000000, .box (tc el01Source j6.2))]⟩ ?_
  refine SRun.nil ?_
  obtain rfl := inj h
  exact q_l (Le.sub0)
  refine swp_exit ?_
  obtain rfl := inj h
  exact nx_e (q_re (q_bh (q_j (Le.sub0))))
  refine swp_seq ?_
  refine sr ?_
  refine SRun.ck tbok 1 ⟨38, [(0, .ref 1000000 0), (3, .own 3), (24, .ref 1000000 0)], [(3, oa 84 6 eDescription j2.1), (1000000, .box (tc el01Source j2.2))]⟩ ?_
  obtain ⟨x14, hx14, h⟩ := bind_some h
  refine SRun.estep (xe ents73 (spec_l01Next_run j2.2 30 _ hx14)) ?_
  refine ckn tbok 1 ⟨38, [(0, .ref 1000000 0), (3, .own 3), (26, vb (x14.1 == 0))], [(3, oa 84 6 eDescription j2.1), (1000000, .box (tc el01Source x14.2))]⟩ ?_
  refine swp_seqJ h (fun j15 => ⟨38, [(3, .own 3)], [(3, oa 84 6 eDescription j15.1), (1000000, .box (tc el01Source j15.2))]⟩) (fun v16 h => ?_) (fun j15 h => ?_)
  refine swp_cd h (fun h => ?_) fun h => ?_
  refine swp_blk (a := v16) ?_
  refine swp_lpL (r := v16) (s := (j2.1, x14.2)) _ (fun s17 => ⟨38, [(0, .ref 1000000 0), (3, .own 3)], [(3, oa 84 6 eDescription s17.1), (1000000, .box (tc el01Source s17.2))]⟩) _ (Le.sub0) h (fun s17 v18 h => ?_)
  refine swp_seq ?_
  refine sr ?_
  refine SRun.ck tbok 3 ⟨38, [(0, .ref 1000000 0), (3, .own 3), (28, vi (s17.1.length : Int)), (29, .ref 1000000 0)], [(3, oa 84 6 eDescription s17.1), (1000000, .box (tc el01Source s17.2))]⟩ ?_
  obtain ⟨x19, hx19, h⟩ := bind_some h
  refine SRun.estep (xe ents73 (spec_l01Next_run s17.2 2 _ hx19)) ?_
  refine ckn tbok 2 ⟨38, [(0, .ref 1000000 0), (3, .own 3), (32, vb (decide ((s17.1.length : Int) < (w64 (8 + x19.1)))))], [(3, oa 84 6 eDescription s17.1), (1000000, .box (tc el01Source x19.2))]⟩ ?_
  refine swp_cd h (fun h => ?_) fun h => ?_
  refine swp_skip ?_
  refine nx_n ?_
  refine swp_blk (a := v18) ?_
  refine swp_reg ?_
  refine SRun.ck tbok 1 ⟨38, [(0, .ref 1000000 0), (33, .own 3)], [(3, oa 84 6 eDescription s17.1), (1000000, .box (tc el01Source x19.2))]⟩ ?_
  refine SRun.ls (x_lstep_build (v := .agg [vi 1, vi 0, vs (ByteArray.mk #[]), vi 0, vs (ByteArray.mk #[97, 115, 104]), vs (ByteArray.mk #[])]) tbok rfl) ?_
  refine SRun.ck tbok 1 ⟨38, [(0, .ref 1000000 0), (33, .own 3), (35, .own 35)], [(3, oa 84 6 eDescription s17.1), (35, oa 84 6 eDescription ([(Description.mk 1 0 (ByteArray.mk #[]) 0 (ByteArray.mk #[97, 115, 104]) (ByteArray.mk #[]))] : List Description)), (1000000, .box (tc el01Source x19.2))]⟩ ?_
  obtain ⟨x20, hx20, h⟩ := bind_some h
  refine SRun.estep (x_append (f := eDescription) (t := 35) (ti := ti35) (tj := ti84) (zs := [.int .i64 0, .int .i64 0, .string (ByteArray.mk #[]), .int .i64 0, .string (ByteArray.mk #[]), .string (ByteArray.mk #[])]) (e := 84) (m := 6) (d := 3) (xv := .own 35) hx20 tbok rfl rfl rfl rfl (x_src_o (e := 84))) ?_
  refine SRun.ck tbok 1 ⟨38, [(0, .ref 1000000 0), (3, .own 36)], [(36, oa 84 6 eDescription x20), (1000000, .box (tc el01Source x19.2))]⟩ ?_
  refine SRun.nil ?_
  obtain rfl := inj h
  exact q_bn (q_l (Le.rr [36, 1000000] [(36, 3)]))
  refine swp_exit ?_
  obtain rfl := inj h
  exact nx_e (q_re (q_bh (q_j (Le.sub0))))
  refine swp_skip ?_
  obtain rfl := inj h
  exact q_j (Le.sub0)
  refine srk tbok ⟨38, [(2, .own 3)], [(3, oa 84 6 eDescription j15.1), (1000000, .box (tc el01Source j15.2))]⟩ ?_
  refine swp_ret ?_
  obtain rfl := inj h
  exact q_fr (fin_io (f1 (fo eDescription_flat)) (y := .box (tc el01Source j15.2)) (by kernel_rfl) rfl (by kernel_rfl) (by kernel_rfl))
theorem ents158 : Ents Tryz.prog 158 := ents_of Tryz.func158 (by kernel_rfl) rfl
noncomputable def spec_l19Empty (aM : Mask) : Option (Mask) :=
  ((make' false (w64 (aM.Width * aM.Height))).bind fun x1 => some (Mask.mk aM.Low aM.Width aM.Height x1))
theorem spec_l19Empty_run (aM : Mask) (r : Mask) (h : spec_l19Empty aM = some r) : SCall Tryz.prog 185 [.v (.agg (tc eMask aM))] ⟨[.part [vi r.Low.X, vi r.Low.Y, vi r.Width, vi r.Height] [] (oa 4 1 eB r.Cells)], [], false⟩ := by
  refine scall_in Tryz.func185 rfl [(.cell 2 150)] rfl (fun r => ⟨[.part [vi r.Low.X, vi r.Low.Y, vi r.Width, vi r.Height] [] (oa 4 1 eB r.Cells)], [], false⟩) (r := r) ?_
  unfold spec_l19Empty at h
  refine srk tbok ⟨16, [(1, .ref 1 0), (2, .ref 2 0)], [(1, .box (tc eMask aM)), (2, .box [vi 0, vi 0, vi 0, vi 0, vl eB ([] : List Bool)])]⟩ ?_
  refine swp_seq ?_
  refine swp_dr mixed ?_
  refine DGo.ck tbok false 11 ⟨16, [(2, .ref 2 0), (4, .agg (tc ePoint aM.Low)), (6, vi aM.Width), (8, vi aM.Height), (13, vi (w64 (aM.Width * aM.Height)))], [(2, .box [vi 0, vi 0, vi 0, vi 0, vl eB ([] : List Bool)])]⟩ ?_
  obtain ⟨x1, hx1, h⟩ := bind_some h
  refine DGo.step (x_make (z := false) (f := eB) (ti := ti148) (tj := ti4) (e := 4) (m := 1) (k := .i64) (k' := .i64) hx1 tbok rfl rfl (zs := [.bool false])) ?_
  refine DGo.stepW false [14] (x_lstep_build (v := .agg [vi aM.Low.X, vi aM.Low.Y, vi aM.Width, vi aM.Height, .own 14]) tbok rfl) ?_
  refine DGo.seq (by kernel_rfl) (by kernel_rfl) ?_
  refine ckn tbok 1 ⟨16, [(2, .ref 2 0)], [(2, .box [vi aM.Low.X, vi aM.Low.Y, vi aM.Width, vi aM.Height, .own 14]), (14, oa 4 1 eB x1)]⟩ ?_
  refine swp_ret ?_
  obtain rfl := inj h
  exact q_fr (f1 (finP (d := 14) [vi aM.Low.X, vi aM.Low.Y, vi aM.Width, vi aM.Height] [] (holds_c tbok (d := 2) (cs := [vi aM.Low.X, vi aM.Low.Y, vi aM.Width, vi aM.Height, .own 14]) (ti := ti150) (by kernel_rfl) (by kernel_rfl) (by kernel_rfl) (by kernel_rfl)) (by kernel_rfl) (flat_map eB_flat _) rfl rfl SV.flatL_of SV.flatL_of (by kernel_rfl)))
theorem ents185 : Ents Tryz.prog 185 := ents_of Tryz.func185 (by kernel_rfl) rfl
noncomputable def spec_l19Good (aS : l01Source) : Option (Mask × l01Source) :=
  ((spec_l01Next aS 9).bind fun x1 => ((spec_l01Next x1.2 9).bind fun x2 => ((spec_l01Next x2.2 9).bind fun x3 => ((spec_l01Next x3.2 9).bind fun x4 => ((spec_l19Empty (Mask.mk (Point.mk (w64 (x1.1 - 6)) (w64 (x2.1 - 6))) (w64 (1 + x3.1)) (w64 (1 + x4.1)) ([] : List Bool))).bind fun x5 => ((spec_l01Next x4.2 4).bind fun x6 => (((forS (x5.Cells.length : Int) (fun (i9 : Int) (s9 : Int × Int × Int × Int × (List Bool) × l01Source) => ((spec_l01Next s9.2.2.2.2.2 5).bind fun x13 => ((at' s9.2.2.2.2.1 i9).bind fun _ => some (s9.1, s9.2.1, s9.2.2.1, s9.2.2.2.1, (List.set s9.2.2.2.2.1 (Int.toNat i9) (decide (x13.1 < (w64 (1 + x6.1))))), x13.2)))) (fun (s9 : Int × Int × Int × Int × (List Bool) × l01Source) => (s9.1, s9.2.1, s9.2.2.1, s9.2.2.2.1, s9.2.2.2.2.1, s9.2.2.2.2.2)) 0 (x5.Low.X, x5.Low.Y, x5.Width, x5.Height, x5.Cells, x6.2))).bind fun (j7 : Int × Int × Int × Int × (List Bool) × l01Source) => some ((Mask.mk (Point.mk j7.1 j7.2.1) j7.2.2.1 j7.2.2.2.1 j7.2.2.2.2.1), j7.2.2.2.2.2))))))))
theorem spec_l19Good_run (aS : l01Source) (r : Mask × l01Source) (h : spec_l19Good aS = some r) : SCall Tryz.prog 220 [.o (.box [vl (eI .u8) aS.code, vi aS.at', vi aS.seed])] ⟨[.part [vi r.1.Low.X, vi r.1.Low.Y, vi r.1.Width, vi r.1.Height] [] (oa 4 1 eB r.1.Cells)], [(0, .box (tc el01Source r.2))], false⟩ := by
  refine scall_in Tryz.func220 rfl [(.cell 2 150)] rfl (fun r => ⟨[.part [vi r.1.Low.X, vi r.1.Low.Y, vi r.1.Width, vi r.1.Height] [] (oa 4 1 eB r.1.Cells)], [(0, .box (tc el01Source r.2))], false⟩) (r := r) ?_
  unfold spec_l19Good at h
  refine srk tbok ⟨41, [(0, .ref 1000000 0), (2, .ref 2 0)], [(2, .box [vi 0, vi 0, vi 0, vi 0, vl eB ([] : List Bool)]), (1000000, .box (tc el01Source aS))]⟩ ?_
  refine sr ?_
  refine SRun.ck tbok 1 ⟨41, [(0, .ref 1000000 0), (2, .ref 2 0), (6, .ref 1000000 0)], [(2, .box [vi 0, vi 0, vi 0, vi 0, vl eB ([] : List Bool)]), (1000000, .box (tc el01Source aS))]⟩ ?_
  obtain ⟨x1, hx1, h⟩ := bind_some h
  refine SRun.estep (xe ents73 (spec_l01Next_run aS 9 _ hx1)) ?_
  refine SRun.ck tbok 2 ⟨41, [(0, .ref 1000000 0), (2, .ref 2 0), (8, vi (w64 (x1.1 - 6))), (9, .ref 1000000 0)], [(2, .box [vi 0, vi 0, vi 0, vi 0, vl eB ([] : List Bool)]), (1000000, .box (tc el01Source x1.2))]⟩ ?_
  obtain ⟨x2, hx2, h⟩ := bind_some h
  refine SRun.estep (xe ents73 (spec_l01Next_run x1.2 9 _ hx2)) ?_
  refine SRun.ck tbok 1 ⟨41, [(0, .ref 1000000 0), (2, .ref 2 0), (8, vi (w64 (x1.1 - 6))), (11, vi (w64 (x2.1 - 6)))], [(2, .box [vi 0, vi 0, vi 0, vi 0, vl eB ([] : List Bool)]), (1000000, .box (tc el01Source x2.2))]⟩ ?_
  refine SRun.ls (x_lstep_build (v := .agg [vi (w64 (x1.1 - 6)), vi (w64 (x2.1 - 6))]) tbok rfl) ?_
  refine SRun.ck tbok 1 ⟨41, [(0, .ref 1000000 0), (2, .ref 2 0), (12, .agg [vi (w64 (x1.1 - 6)), vi (w64 (x2.1 - 6))]), (13, .ref 1000000 0)], [(2, .box [vi 0, vi 0, vi 0, vi 0, vl eB ([] : List Bool)]), (1000000, .box (tc el01Source x2.2))]⟩ ?_
  obtain ⟨x3, hx3, h⟩ := bind_some h
  refine SRun.estep (xe ents73 (spec_l01Next_run x2.2 9 _ hx3)) ?_
  refine SRun.ck tbok 2 ⟨41, [(0, .ref 1000000 0), (2, .ref 2 0), (12, .agg [vi (w64 (x1.1 - 6)), vi (w64 (x2.1 - 6))]), (15, vi (w64 (1 + x3.1))), (16, .ref 1000000 0)], [(2, .box [vi 0, vi 0, vi 0, vi 0, vl eB ([] : List Bool)]), (1000000, .box (tc el01Source x3.2))]⟩ ?_
  obtain ⟨x4, hx4, h⟩ := bind_some h
  refine SRun.estep (xe ents73 (spec_l01Next_run x3.2 9 _ hx4)) ?_
  refine SRun.ck tbok 1 ⟨41, [(0, .ref 1000000 0), (2, .ref 2 0), (12, .agg [vi (w64 (x1.1 - 6)), vi (w64 (x2.1 - 6))]), (15, vi (w64 (1 + x3.1))), (18, vi (w64 (1 + x4.1)))], [(2, .box [vi 0, vi 0, vi 0, vi 0, vl eB ([] : List Bool)]), (1000000, .box (tc el01Source x4.2))]⟩ ?_
  refine SRun.ls (x_lstep_build (v := .agg [vi (w64 (x1.1 - 6)), vi (w64 (x2.1 - 6)), vi (w64 (1 + x3.1)), vi (w64 (1 + x4.1)), vl eB ([] : List Bool)]) tbok rfl) ?_
  refine ckn tbok 2 ⟨41, [(0, .ref 1000000 0), (2, .ref 2 0), (3, .ref 3 0)], [(2, .box [vi 0, vi 0, vi 0, vi 0, vl eB ([] : List Bool)]), (3, .box [vi (w64 (x1.1 - 6)), vi (w64 (x2.1 - 6)), vi (w64 (1 + x3.1)), vi (w64 (1 + x4.1)), vl eB ([] : List Bool)]), (1000000, .box (tc el01Source x4.2))]⟩ ?_
  refine sr ?_
  refine SRun.ck tbok 1 ⟨41, [(0, .ref 1000000 0), (2, .ref 2 0), (3, .ref 3 0), (20, .agg [vi (w64 (x1.1 - 6)), vi (w64 (x2.1 - 6)), vi (w64 (1 + x3.1)), vi (w64 (1 + x4.1)), vl eB ([] : List Bool)])], [(2, .box [vi 0, vi 0, vi 0, vi 0, vl eB ([] : List Bool)]), (3, .box [vi (w64 (x1.1 - 6)), vi (w64 (x2.1 - 6)), vi (w64 (1 + x3.1)), vi (w64 (1 + x4.1)), vl eB ([] : List Bool)]), (1000000, .box (tc el01Source x4.2))]⟩ ?_
  obtain ⟨x5, hx5, h⟩ := bind_some h
  refine SRun.ls (xc ents185 (spec_l19Empty_run (Mask.mk (Point.mk (w64 (x1.1 - 6)) (w64 (x2.1 - 6))) (w64 (1 + x3.1)) (w64 (1 + x4.1)) ([] : List Bool)) _ hx5)) ?_
  refine ckn tbok 1 ⟨41, [(0, .ref 1000000 0), (2, .ref 2 0), (3, .ref 3 0)], [(2, .box [vi 0, vi 0, vi 0, vi 0, vl eB ([] : List Bool)]), (3, .box [vi x5.Low.X, vi x5.Low.Y, vi x5.Width, vi x5.Height, .own 21]), (21, oa 4 1 eB x5.Cells), (1000000, .box (tc el01Source x4.2))]⟩ ?_
  refine sr ?_
  refine SRun.ck tbok 1 ⟨41, [(0, .ref 1000000 0), (2, .ref 2 0), (3, .ref 3 0), (22, .ref 1000000 0)], [(2, .box [vi 0, vi 0, vi 0, vi 0, vl eB ([] : List Bool)]), (3, .box [vi x5.Low.X, vi x5.Low.Y, vi x5.Width, vi x5.Height, .own 21]), (21, oa 4 1 eB x5.Cells), (1000000, .box (tc el01Source x4.2))]⟩ ?_
  obtain ⟨x6, hx6, h⟩ := bind_some h
  refine SRun.estep (xe ents73 (spec_l01Next_run x4.2 4 _ hx6)) ?_
  refine ckn tbok 2 ⟨41, [(0, .ref 1000000 0), (2, .ref 2 0), (3, .ref 3 0), (4, vi (w64 (1 + x6.1)))], [(2, .box [vi 0, vi 0, vi 0, vi 0, vl eB ([] : List Bool)]), (3, .box [vi x5.Low.X, vi x5.Low.Y, vi x5.Width, vi x5.Height, .own 21]), (21, oa 4 1 eB x5.Cells), (1000000, .box (tc el01Source x6.2))]⟩ ?_
  refine swp_seq ?_
  refine srk tbok ⟨41, [(0, .ref 1000000 0), (2, .ref 2 0), (3, .ref 3 0), (4, vi (w64 (1 + x6.1))), (27, vi (x5.Cells.length : Int)), (28, vi 0)], [(2, .box [vi 0, vi 0, vi 0, vi 0, vl eB ([] : List Bool)]), (3, .box [vi x5.Low.X, vi x5.Low.Y, vi x5.Width, vi x5.Height, .own 21]), (21, oa 4 1 eB x5.Cells), (1000000, .box (tc el01Source x6.2))]⟩ ?_
  refine swp_seqJ h (fun j7 => ⟨41, [(2, .ref 2 0), (3, .ref 3 0)], [(2, .box [vi 0, vi 0, vi 0, vi 0, vl eB ([] : List Bool)]), (3, .box [vi j7.1, vi j7.2.1, vi j7.2.2.1, vi j7.2.2.2.1, .own 21]), (21, oa 4 1 eB j7.2.2.2.2.1), (1000000, .box (tc el01Source j7.2.2.2.2.2))]⟩) (fun v8 h => ?_) (fun j7 h => ?_)
  refine swp_blk (a := v8) ?_
  refine swp_lpL (r := v8) (s := (0, x5.Low.X, x5.Low.Y, x5.Width, x5.Height, x5.Cells, x6.2)) _ (fun s9 => ⟨41, [(0, .ref 1000000 0), (2, .ref 2 0), (3, .ref 3 0), (4, vi (w64 (1 + x6.1))), (27, vi (x5.Cells.length : Int)), (28, vi s9.1)], [(2, .box [vi 0, vi 0, vi 0, vi 0, vl eB ([] : List Bool)]), (3, .box [vi s9.2.1, vi s9.2.2.1, vi s9.2.2.2.1, vi s9.2.2.2.2.1, .own 21]), (21, oa 4 1 eB s9.2.2.2.2.2.1), (1000000, .box (tc el01Source s9.2.2.2.2.2.2))]⟩) _ (Le.sub0) h (fun s9 v10 h => ?_)
  refine srk tbok ⟨41, [(0, .ref 1000000 0), (2, .ref 2 0), (3, .ref 3 0), (4, vi (w64 (1 + x6.1))), (27, vi (x5.Cells.length : Int)), (28, vi s9.1), (29, vb (decide (s9.1 < (x5.Cells.length : Int))))], [(2, .box [vi 0, vi 0, vi 0, vi 0, vl eB ([] : List Bool)]), (3, .box [vi s9.2.1, vi s9.2.2.1, vi s9.2.2.2.1, vi s9.2.2.2.2.1, .own 21]), (21, oa 4 1 eB s9.2.2.2.2.2.1), (1000000, .box (tc el01Source s9.2.2.2.2.2.2))]⟩ ?_
  refine swp_seq ?_
  refine swp_cd h (fun h => ?_) fun h => ?_
  refine swp_skip ?_
  refine nx_n ?_
  refine swp_seq ?_
  refine swp_seqJ h (fun j11 => ⟨41, [(0, .ref 1000000 0), (2, .ref 2 0), (3, .ref 3 0), (4, vi (w64 (1 + x6.1))), (27, vi (x5.Cells.length : Int)), (28, vi s9.1)], [(2, .box [vi 0, vi 0, vi 0, vi 0, vl eB ([] : List Bool)]), (3, .box [vi j11.1, vi j11.2.1, vi j11.2.2.1, vi j11.2.2.2.1, .own 21]), (21, oa 4 1 eB j11.2.2.2.2.1), (1000000, .box (tc el01Source j11.2.2.2.2.2))]⟩) (fun v12 h => ?_) (fun j11 h => ?_)
  refine swp_blk (a := v12) ?_
  refine srk tbok ⟨41, [(0, .ref 1000000 0), (2, .ref 2 0), (3, .ref 3 0), (4, vi (w64 (1 + x6.1))), (5, vi s9.1), (27, vi (x5.Cells.length : Int)), (28, vi s9.1)], [(2, .box [vi 0, vi 0, vi 0, vi 0, vl eB ([] : List Bool)]), (3, .box [vi s9.2.1, vi s9.2.2.1, vi s9.2.2.2.1, vi s9.2.2.2.2.1, .own 21]), (21, oa 4 1 eB s9.2.2.2.2.2.1), (1000000, .box (tc el01Source s9.2.2.2.2.2.2))]⟩ ?_
  refine swp_drD [1000000] mixed ?_
  refine DGo.ck tbok false 4 ⟨41, [(0, .ref 1000000 0), (2, .ref 2 0), (3, .ref 3 0), (4, vi (w64 (1 + x6.1))), (27, vi (x5.Cells.length : Int)), (28, vi s9.1), (32, .own 21), (33, vi s9.1), (34, .ref 1000000 0)], [(2, .box [vi 0, vi 0, vi 0, vi 0, vl eB ([] : List Bool)]), (3, .box [vi s9.2.1, vi s9.2.2.1, vi s9.2.2.2.1, vi s9.2.2.2.2.1, .own 21]), (21, oa 4 1 eB s9.2.2.2.2.2.1), (1000000, .box (tc el01Source s9.2.2.2.2.2.2))]⟩ ?_
  obtain ⟨x13, hx13, h⟩ := bind_some h
  refine DGo.write [] (xw ents73 (spec_l01Next_run s9.2.2.2.2.2.2 5 _ hx13)) ?_
  refine DGo.ck tbok false 2 ⟨41, [(0, .ref 1000000 0), (2, .ref 2 0), (3, .ref 3 0), (4, vi (w64 (1 + x6.1))), (27, vi (x5.Cells.length : Int)), (28, vi s9.1), (32, .own 21), (33, vi s9.1), (37, vb (decide (x13.1 < (w64 (1 + x6.1)))))], [(2, .box [vi 0, vi 0, vi 0, vi 0, vl eB ([] : List Bool)]), (3, .box [vi s9.2.1, vi s9.2.2.1, vi s9.2.2.2.1, vi s9.2.2.2.2.1, .own 21]), (21, oa 4 1 eB s9.2.2.2.2.2.1), (1000000, .box (tc el01Source x13.2))]⟩ ?_
  obtain ⟨x14, hx14, h⟩ := bind_some h
  refine DGo.step (x_index_own (d := 21) (L := s9.2.2.2.2.2.1) (f := eB) (ti := ti148) (tj := ti4) (e := 4) (e' := 4) (m := 1) (k := .i64) tbok rfl hx14) ?_
  refine DGo.seq (by kernel_rfl) (by kernel_rfl) ?_
  refine SRun.estep (x_store_own (d := 21) (m := 1) (j := 0) (L := s9.2.2.2.2.2.1) (f := eB) (x := (decide (x13.1 < (w64 (1 + x6.1))))) (z := x14) (ti := ti4) (e := 4) (ts := [.bool (decide (x13.1 < (w64 (1 + x6.1))))]) (vs := [vb (decide (x13.1 < (w64 (1 + x6.1))))]) (v := vb (decide (x13.1 < (w64 (1 + x6.1))))) tbok rfl rfl hx14) ?_
  refine SRun.nil ?_
  obtain rfl := inj h
  exact q_bn (q_j (Le.sub0))
  refine swp_reg ?_
  refine SRun.ck tbok 2 ⟨41, [(0, .ref 1000000 0), (2, .ref 2 0), (3, .ref 3 0), (4, vi (w64 (1 + x6.1))), (27, vi (x5.Cells.length : Int)), (28, vi (w64 (s9.1 + 1)))], [(2, .box [vi 0, vi 0, vi 0, vi 0, vl eB ([] : List Bool)]), (3, .box [vi j11.1, vi j11.2.1, vi j11.2.2.1, vi j11.2.2.2.1, .own 21]), (21, oa 4 1 eB j11.2.2.2.2.1), (1000000, .box (tc el01Source j11.2.2.2.2.2))]⟩ ?_
  refine SRun.nil ?_
  obtain rfl := inj h
  exact q_l (Le.sub0)
  refine swp_exit ?_
  obtain rfl := inj h
  exact nx_e (q_re (q_bh (q_j (Le.sub0))))
  refine srk tbok ⟨41, [(2, .ref 2 0)], [(2, .box [vi j7.1, vi j7.2.1, vi j7.2.2.1, vi j7.2.2.2.1, .own 21]), (21, oa 4 1 eB j7.2.2.2.2.1), (1000000, .box (tc el01Source j7.2.2.2.2.2))]⟩ ?_
  refine swp_ret ?_
  obtain rfl := inj h
  exact q_fr (fin_io (f1 (finP (d := 21) [vi j7.1, vi j7.2.1, vi j7.2.2.1, vi j7.2.2.2.1] [] (holds_c tbok (d := 2) (cs := [vi j7.1, vi j7.2.1, vi j7.2.2.1, vi j7.2.2.2.1, .own 21]) (ti := ti150) (by kernel_rfl) (by kernel_rfl) (by kernel_rfl) (by kernel_rfl)) (by kernel_rfl) (flat_map eB_flat _) rfl rfl SV.flatL_of SV.flatL_of (by kernel_rfl))) (y := .box (tc el01Source j7.2.2.2.2.2)) (by kernel_rfl) rfl (by kernel_rfl) (by kernel_rfl))
theorem ents220 : Ents Tryz.prog 220 := ents_of Tryz.func220 (by kernel_rfl) rfl
noncomputable def spec_l19Draw (aS : l01Source) : Option (Mask × l01Source) :=
  ((spec_l19Good aS).bind fun x1 => ((spec_l01Next x1.2 30).bind fun x2 => (((bif (x2.1 == 0) then ((spec_l01Pick x2.2 ([0, 24, 25, (w64 (x1.1.Width + 1))] : List Int)).bind fun x5 => some (x1.1.Low.X, x1.1.Low.Y, x5.1, x1.1.Height, x1.1.Cells, x5.2)) else (bif (x2.1 == 1) then ((spec_l01Pick x2.2 ([1000, 995, (-1000), (-1001)] : List Int)).bind fun x6 => some (x6.1, x1.1.Low.Y, x1.1.Width, x1.1.Height, x1.1.Cells, x6.2)) else (bif (x2.1 == 2) then ((app' x1.1.Cells ([true] : List Bool)).bind fun x7 => some (x1.1.Low.X, x1.1.Low.Y, x1.1.Width, x1.1.Height, x7, x2.2)) else (bif (x2.1 == 3) then ((spec_l01Next x2.2 2).bind fun x8 => ((spec_l19Empty (Mask.mk (Point.mk 0 0) (w64 (24 + x8.1)) 2 ([] : List Bool))).bind fun x9 => some (x9.Low.X, x9.Low.Y, x9.Width, x9.Height, x9.Cells, x8.2))) else some (x1.1.Low.X, x1.1.Low.Y, x1.1.Width, x1.1.Height, x1.1.Cells, x2.2)))))).bind fun (j3 : Int × Int × Int × Int × (List Bool) × l01Source) => some ((Mask.mk (Point.mk j3.1 j3.2.1) j3.2.2.1 j3.2.2.2.1 j3.2.2.2.2.1), j3.2.2.2.2.2))))
theorem spec_l19Draw_run (aS : l01Source) (r : Mask × l01Source) (h : spec_l19Draw aS = some r) : SCall Tryz.prog 184 [.o (.box [vl (eI .u8) aS.code, vi aS.at', vi aS.seed])] ⟨[.part [vi r.1.Low.X, vi r.1.Low.Y, vi r.1.Width, vi r.1.Height] [] (oa 4 1 eB r.1.Cells)], [(0, .box (tc el01Source r.2))], false⟩ := by
  refine scall_in Tryz.func184 rfl [(.cell 2 150)] rfl (fun r => ⟨[.part [vi r.1.Low.X, vi r.1.Low.Y, vi r.1.Width, vi r.1.Height] [] (oa 4 1 eB r.1.Cells)], [(0, .box (tc el01Source r.2))], false⟩) (r := r) ?_
  unfold spec_l19Draw at h
  refine srk tbok ⟨39, [(0, .ref 1000000 0), (2, .ref 2 0)], [(2, .box [vi 0, vi 0, vi 0, vi 0, vl eB ([] : List Bool)]), (1000000, .box (tc el01Source aS))]⟩ ?_
  refine sr ?_
  refine SRun.ck tbok 1 ⟨39, [(0, .ref 1000000 0), (2, .ref 2 0), (4, .ref 1000000 0)], [(2, .box [vi 0, vi 0, vi 0, vi 0, vl eB ([] : List Bool)]), (1000000, .box (tc el01Source aS))]⟩ ?_
  obtain ⟨x1, hx1, h⟩ := bind_some h
  refine SRun.estep (xe ents220 (spec_l19Good_run aS _ hx1)) ?_
  refine ckn tbok 2 ⟨39, [(0, .ref 1000000 0), (2, .ref 2 0), (3, .ref 3 0)], [(2, .box [vi 0, vi 0, vi 0, vi 0, vl eB ([] : List Bool)]), (3, .box [vi x1.1.Low.X, vi x1.1.Low.Y, vi x1.1.Width, vi x1.1.Height, .own 5]), (5, oa 4 1 eB x1.1.Cells), (1000000, .box (tc el01Source x1.2))]⟩ ?_
  refine swp_seq ?_
  refine sr ?_
  refine SRun.ck tbok 1 ⟨39, [(0, .ref 1000000 0), (2, .ref 2 0), (3, .ref 3 0), (6, .ref 1000000 0)], [(2, .box [vi 0, vi 0, vi 0, vi 0, vl eB ([] : List Bool)]), (3, .box [vi x1.1.Low.X, vi x1.1.Low.Y, vi x1.1.Width, vi x1.1.Height, .own 5]), (5, oa 4 1 eB x1.1.Cells), (1000000, .box (tc el01Source x1.2))]⟩ ?_
  obtain ⟨x2, hx2, h⟩ := bind_some h
  refine SRun.estep (xe ents73 (spec_l01Next_run x1.2 30 _ hx2)) ?_
  refine SRun.nx ?_
  refine swp_seqJ h (fun j3 => ⟨39, [(2, .ref 2 0), (3, .ref 3 0)], [(2, .box [vi 0, vi 0, vi 0, vi 0, vl eB ([] : List Bool)]), (3, .box [vi j3.1, vi j3.2.1, vi j3.2.2.1, vi j3.2.2.2.1, .own 5]), (5, oa 4 1 eB j3.2.2.2.2.1), (1000000, .box (tc el01Source j3.2.2.2.2.2))]⟩) (fun v4 h => ?_) (fun j3 h => ?_)
  refine swp_blk (a := v4) ?_
  refine srk tbok ⟨39, [(0, .ref 1000000 0), (2, .ref 2 0), (3, .ref 3 0), (7, vi x2.1), (8, vb (x2.1 == 0))], [(2, .box [vi 0, vi 0, vi 0, vi 0, vl eB ([] : List Bool)]), (3, .box [vi x1.1.Low.X, vi x1.1.Low.Y, vi x1.1.Width, vi x1.1.Height, .own 5]), (5, oa 4 1 eB x1.1.Cells), (1000000, .box (tc el01Source x2.2))]⟩ ?_
  refine swp_cd h (fun h => ?_) fun h => ?_
  refine swp_reg ?_
  refine SRun.ck tbok 5 ⟨39, [(2, .ref 2 0), (3, .ref 3 0), (10, .ref 1000000 0), (14, .own 14)], [(2, .box [vi 0, vi 0, vi 0, vi 0, vl eB ([] : List Bool)]), (3, .box [vi x1.1.Low.X, vi x1.1.Low.Y, vi x1.1.Width, vi x1.1.Height, .own 5]), (5, oa 4 1 eB x1.1.Cells), (14, oa 2 1 (eI .i64) ([0, 24, 25, (w64 (x1.1.Width + 1))] : List Int)), (1000000, .box (tc el01Source x2.2))]⟩ ?_
  refine SRun.le (Le.frz' (d := 14) (e := 2) (m := 1) (n := ([0, 24, 25, (w64 (x1.1.Width + 1))] : List Int).length) (es := ([0, 24, 25, (w64 (x1.1.Width + 1))] : List Int).map (eI .i64)) (by kernel_rfl) (by kernel_rfl)) ?_
  obtain ⟨x5, hx5, h⟩ := bind_some h
  refine SRun.estep (xe ents219 (spec_l01Pick_run x2.2 ([0, 24, 25, (w64 (x1.1.Width + 1))] : List Int) _ hx5)) ?_
  refine SRun.ck tbok 2 ⟨39, [(2, .ref 2 0), (3, .ref 3 0)], [(2, .box [vi 0, vi 0, vi 0, vi 0, vl eB ([] : List Bool)]), (3, .box [vi x1.1.Low.X, vi x1.1.Low.Y, vi x5.1, vi x1.1.Height, .own 5]), (5, oa 4 1 eB x1.1.Cells), (1000000, .box (tc el01Source x5.2))]⟩ ?_
  refine SRun.nil ?_
  obtain rfl := inj h
  exact q_bn (q_j (Le.sub0))
  refine srk tbok ⟨39, [(0, .ref 1000000 0), (2, .ref 2 0), (3, .ref 3 0), (7, vi x2.1), (17, vb (x2.1 == 1))], [(2, .box [vi 0, vi 0, vi 0, vi 0, vl eB ([] : List Bool)]), (3, .box [vi x1.1.Low.X, vi x1.1.Low.Y, vi x1.1.Width, vi x1.1.Height, .own 5]), (5, oa 4 1 eB x1.1.Cells), (1000000, .box (tc el01Source x2.2))]⟩ ?_
  refine swp_cd h (fun h => ?_) fun h => ?_
  refine swp_reg ?_
  refine SRun.ck tbok 2 ⟨39, [(2, .ref 2 0), (3, .ref 3 0), (19, .ref 1000000 0), (20, .own 20)], [(2, .box [vi 0, vi 0, vi 0, vi 0, vl eB ([] : List Bool)]), (3, .box [vi x1.1.Low.X, vi x1.1.Low.Y, vi x1.1.Width, vi x1.1.Height, .own 5]), (5, oa 4 1 eB x1.1.Cells), (20, oa 2 1 (eI .i64) ([1000, 995, (-1000), (-1001)] : List Int)), (1000000, .box (tc el01Source x2.2))]⟩ ?_
  refine SRun.le (Le.frz' (d := 20) (e := 2) (m := 1) (n := ([1000, 995, (-1000), (-1001)] : List Int).length) (es := ([1000, 995, (-1000), (-1001)] : List Int).map (eI .i64)) (by kernel_rfl) (by kernel_rfl)) ?_
  obtain ⟨x6, hx6, h⟩ := bind_some h
  refine SRun.estep (xe ents219 (spec_l01Pick_run x2.2 ([1000, 995, (-1000), (-1001)] : List Int) _ hx6)) ?_
  refine SRun.ck tbok 3 ⟨39, [(2, .ref 2 0), (3, .ref 3 0)], [(2, .box [vi 0, vi 0, vi 0, vi 0, vl eB ([] : List Bool)]), (3, .box [vi x6.1, vi x1.1.Low.Y, vi x1.1.Width, vi x1.1.Height, .own 5]), (5, oa 4 1 eB x1.1.Cells), (1000000, .box (tc el01Source x6.2))]⟩ ?_
  refine SRun.nil ?_
  obtain rfl := inj h
  exact q_bn (q_j (Le.sub0))
  refine srk tbok ⟨39, [(0, .ref 1000000 0), (2, .ref 2 0), (3, .ref 3 0), (7, vi x2.1), (24, vb (x2.1 == 2))], [(2, .box [vi 0, vi 0, vi 0, vi 0, vl eB ([] : List Bool)]), (3, .box [vi x1.1.Low.X, vi x1.1.Low.Y, vi x1.1.Width, vi x1.1.Height, .own 5]), (5, oa 4 1 eB x1.1.Cells), (1000000, .box (tc el01Source x2.2))]⟩ ?_
  refine swp_cd h (fun h => ?_) fun h => ?_
  refine swp_reg ?_
  refine SRun.ck tbok 3 ⟨39, [(2, .ref 2 0), (3, .ref 3 0), (27, .own 5), (28, .own 28)], [(2, .box [vi 0, vi 0, vi 0, vi 0, vl eB ([] : List Bool)]), (3, .box [vi x1.1.Low.X, vi x1.1.Low.Y, vi x1.1.Width, vi x1.1.Height, .own 5]), (5, oa 4 1 eB x1.1.Cells), (28, oa 4 1 eB ([true] : List Bool)), (1000000, .box (tc el01Source x2.2))]⟩ ?_
  refine SRun.le (Le.anyCell (d := 3) (j := 4) (k := 5) (cs := [vi x1.1.Low.X, vi x1.1.Low.Y, vi x1.1.Width, vi x1.1.Height, .own 5]) (by kernel_rfl) rfl) ?_
  obtain ⟨x7, hx7, h⟩ := bind_some h
  refine SRun.estep (x_append (f := eB) (t := 148) (ti := ti148) (tj := ti4) (zs := [.bool false]) (e := 4) (m := 1) (d := 5) (xv := .own 28) hx7 tbok rfl rfl rfl rfl (x_src_o (e := 4))) ?_
  refine SRun.ck tbok 2 ⟨39, [(2, .ref 2 0), (3, .ref 3 0)], [(2, .box [vi 0, vi 0, vi 0, vi 0, vl eB ([] : List Bool)]), (3, .box [vi x1.1.Low.X, vi x1.1.Low.Y, vi x1.1.Width, vi x1.1.Height, .own 29]), (29, oa 4 1 eB x7), (1000000, .box (tc el01Source x2.2))]⟩ ?_
  refine SRun.nil ?_
  obtain rfl := inj h
  exact q_bn (q_j (Le.rr [2, 3, 29, 1000000] [(29, 5)]))
  refine srk tbok ⟨39, [(0, .ref 1000000 0), (2, .ref 2 0), (3, .ref 3 0), (31, vb (x2.1 == 3))], [(2, .box [vi 0, vi 0, vi 0, vi 0, vl eB ([] : List Bool)]), (3, .box [vi x1.1.Low.X, vi x1.1.Low.Y, vi x1.1.Width, vi x1.1.Height, .own 5]), (5, oa 4 1 eB x1.1.Cells), (1000000, .box (tc el01Source x2.2))]⟩ ?_
  refine swp_cd h (fun h => ?_) fun h => ?_
  refine swp_reg ?_
  refine SRun.ck tbok 1 ⟨39, [(2, .ref 2 0), (3, .ref 3 0), (33, .ref 1000000 0)], [(2, .box [vi 0, vi 0, vi 0, vi 0, vl eB ([] : List Bool)]), (3, .box [vi x1.1.Low.X, vi x1.1.Low.Y, vi x1.1.Width, vi x1.1.Height, .own 5]), (5, oa 4 1 eB x1.1.Cells), (1000000, .box (tc el01Source x2.2))]⟩ ?_
  obtain ⟨x8, hx8, h⟩ := bind_some h
  refine SRun.estep (xe ents73 (spec_l01Next_run x2.2 2 _ hx8)) ?_
  refine SRun.ck tbok 1 ⟨39, [(2, .ref 2 0), (3, .ref 3 0), (35, vi (w64 (24 + x8.1)))], [(2, .box [vi 0, vi 0, vi 0, vi 0, vl eB ([] : List Bool)]), (3, .box [vi x1.1.Low.X, vi x1.1.Low.Y, vi x1.1.Width, vi x1.1.Height, .own 5]), (5, oa 4 1 eB x1.1.Cells), (1000000, .box (tc el01Source x8.2))]⟩ ?_
  refine SRun.ls (x_lstep_build (v := .agg [vi 0, vi 0, vi (w64 (24 + x8.1)), vi 2, vl eB ([] : List Bool)]) tbok rfl) ?_
  obtain ⟨x9, hx9, h⟩ := bind_some h
  refine SRun.ls (xc ents185 (spec_l19Empty_run (Mask.mk (Point.mk 0 0) (w64 (24 + x8.1)) 2 ([] : List Bool)) _ hx9)) ?_
  refine SRun.ck tbok 1 ⟨39, [(2, .ref 2 0), (3, .ref 3 0)], [(2, .box [vi 0, vi 0, vi 0, vi 0, vl eB ([] : List Bool)]), (3, .box [vi x9.Low.X, vi x9.Low.Y, vi x9.Width, vi x9.Height, .own 37]), (37, oa 4 1 eB x9.Cells), (1000000, .box (tc el01Source x8.2))]⟩ ?_
  refine SRun.nil ?_
  obtain rfl := inj h
  exact q_bn (q_j (Le.rr [2, 3, 37, 1000000] [(37, 5)]))
  refine swp_skip ?_
  obtain rfl := inj h
  exact q_bn (q_j (Le.sub0))
  refine srk tbok ⟨39, [(2, .ref 2 0)], [(2, .box [vi j3.1, vi j3.2.1, vi j3.2.2.1, vi j3.2.2.2.1, .own 5]), (5, oa 4 1 eB j3.2.2.2.2.1), (1000000, .box (tc el01Source j3.2.2.2.2.2))]⟩ ?_
  refine swp_ret ?_
  obtain rfl := inj h
  exact q_fr (fin_io (f1 (finP (d := 5) [vi j3.1, vi j3.2.1, vi j3.2.2.1, vi j3.2.2.2.1] [] (holds_c tbok (d := 2) (cs := [vi j3.1, vi j3.2.1, vi j3.2.2.1, vi j3.2.2.2.1, .own 5]) (ti := ti150) (by kernel_rfl) (by kernel_rfl) (by kernel_rfl) (by kernel_rfl)) (by kernel_rfl) (flat_map eB_flat _) rfl rfl SV.flatL_of SV.flatL_of (by kernel_rfl))) (y := .box (tc el01Source j3.2.2.2.2.2)) (by kernel_rfl) rfl (by kernel_rfl) (by kernel_rfl))
theorem ents184 : Ents Tryz.prog 184 := ents_of Tryz.func184 (by kernel_rfl) rfl
noncomputable def spec_l29Mask (aS : l01Source) : Option (Mask × l01Source) :=
  ((spec_l01Next aS 12).bind fun x1 => (bif (x1.1 == 0) then ((spec_l19Draw x1.2).bind fun x2 => some (x2.1, x2.2)) else ((spec_l01Next x1.2 9).bind fun x3 => ((spec_l01Next x3.2 9).bind fun x4 => ((spec_l01Next x4.2 9).bind fun x5 => ((spec_l01Next x5.2 9).bind fun x6 => ((spec_l19Empty (Mask.mk (Point.mk (w64 (x3.1 - 12)) (w64 (x4.1 - 12))) (w64 (6 + x5.1)) (w64 (6 + x6.1)) ([] : List Bool))).bind fun x7 => (((forS (x7.Cells.length : Int) (fun (i10 : Int) (s10 : Int × Int × Int × Int × (List Bool) × l01Source) => ((spec_l01Next s10.2.2.2.2.2 3).bind fun x14 => ((at' s10.2.2.2.2.1 i10).bind fun _ => some (s10.1, s10.2.1, s10.2.2.1, s10.2.2.2.1, (List.set s10.2.2.2.2.1 (Int.toNat i10) (x14.1 == 0)), x14.2)))) (fun (s10 : Int × Int × Int × Int × (List Bool) × l01Source) => (s10.1, s10.2.1, s10.2.2.1, s10.2.2.2.1, s10.2.2.2.2.1, s10.2.2.2.2.2)) 0 (x7.Low.X, x7.Low.Y, x7.Width, x7.Height, x7.Cells, x6.2))).bind fun (j8 : Int × Int × Int × Int × (List Bool) × l01Source) => some ((Mask.mk (Point.mk j8.1 j8.2.1) j8.2.2.1 j8.2.2.2.1 j8.2.2.2.2.1), j8.2.2.2.2.2)))))))))
theorem spec_l29Mask_run (aS : l01Source) (r : Mask × l01Source) (h : spec_l29Mask aS = some r) : SCall Tryz.prog 159 [.o (.box [vl (eI .u8) aS.code, vi aS.at', vi aS.seed])] ⟨[.part [vi r.1.Low.X, vi r.1.Low.Y, vi r.1.Width, vi r.1.Height] [] (oa 4 1 eB r.1.Cells)], [(0, .box (tc el01Source r.2))], false⟩ := by
  refine scall_in Tryz.func159 rfl [(.cell 2 150)] rfl (fun r => ⟨[.part [vi r.1.Low.X, vi r.1.Low.Y, vi r.1.Width, vi r.1.Height] [] (oa 4 1 eB r.1.Cells)], [(0, .box (tc el01Source r.2))], false⟩) (r := r) ?_
  unfold spec_l29Mask at h
  refine srk tbok ⟨40, [(0, .ref 1000000 0), (2, .ref 2 0)], [(2, .box [vi 0, vi 0, vi 0, vi 0, vl eB ([] : List Bool)]), (1000000, .box (tc el01Source aS))]⟩ ?_
  refine swp_seq ?_
  refine sr ?_
  refine SRun.ck tbok 1 ⟨40, [(0, .ref 1000000 0), (2, .ref 2 0), (5, .ref 1000000 0)], [(2, .box [vi 0, vi 0, vi 0, vi 0, vl eB ([] : List Bool)]), (1000000, .box (tc el01Source aS))]⟩ ?_
  obtain ⟨x1, hx1, h⟩ := bind_some h
  refine SRun.estep (xe ents73 (spec_l01Next_run aS 12 _ hx1)) ?_
  refine ckn tbok 1 ⟨40, [(0, .ref 1000000 0), (2, .ref 2 0), (7, vb (x1.1 == 0))], [(2, .box [vi 0, vi 0, vi 0, vi 0, vl eB ([] : List Bool)]), (1000000, .box (tc el01Source x1.2))]⟩ ?_
  refine swp_cd h (fun h => ?_) fun h => ?_
  refine sr ?_
  refine SRun.ck tbok 1 ⟨40, [(2, .ref 2 0), (8, .ref 1000000 0)], [(2, .box [vi 0, vi 0, vi 0, vi 0, vl eB ([] : List Bool)]), (1000000, .box (tc el01Source x1.2))]⟩ ?_
  obtain ⟨x2, hx2, h⟩ := bind_some h
  refine SRun.estep (xe ents184 (spec_l19Draw_run x1.2 _ hx2)) ?_
  refine ckn tbok 1 ⟨40, [(2, .ref 2 0)], [(2, .box [vi x2.1.Low.X, vi x2.1.Low.Y, vi x2.1.Width, vi x2.1.Height, .own 9]), (9, oa 4 1 eB x2.1.Cells), (1000000, .box (tc el01Source x2.2))]⟩ ?_
  refine swp_ret ?_
  obtain rfl := inj h
  exact nx_r (q_fr (fin_io (f1 (finP (d := 9) [vi x2.1.Low.X, vi x2.1.Low.Y, vi x2.1.Width, vi x2.1.Height] [] (holds_c tbok (d := 2) (cs := [vi x2.1.Low.X, vi x2.1.Low.Y, vi x2.1.Width, vi x2.1.Height, .own 9]) (ti := ti150) (by kernel_rfl) (by kernel_rfl) (by kernel_rfl) (by kernel_rfl)) (by kernel_rfl) (flat_map eB_flat _) rfl rfl SV.flatL_of SV.flatL_of (by kernel_rfl))) (y := .box (tc el01Source x2.2)) (by kernel_rfl) rfl (by kernel_rfl) (by kernel_rfl)))
  refine swp_skip ?_
  refine nx_n ?_
  refine sr ?_
  refine SRun.ck tbok 1 ⟨40, [(0, .ref 1000000 0), (2, .ref 2 0), (10, .ref 1000000 0)], [(2, .box [vi 0, vi 0, vi 0, vi 0, vl eB ([] : List Bool)]), (1000000, .box (tc el01Source x1.2))]⟩ ?_
  obtain ⟨x3, hx3, h⟩ := bind_some h
  refine SRun.estep (xe ents73 (spec_l01Next_run x1.2 9 _ hx3)) ?_
  refine SRun.ck tbok 2 ⟨40, [(0, .ref 1000000 0), (2, .ref 2 0), (12, vi (w64 (x3.1 - 12))), (13, .ref 1000000 0)], [(2, .box [vi 0, vi 0, vi 0, vi 0, vl eB ([] : List Bool)]), (1000000, .box (tc el01Source x3.2))]⟩ ?_
  obtain ⟨x4, hx4, h⟩ := bind_some h
  refine SRun.estep (xe ents73 (spec_l01Next_run x3.2 9 _ hx4)) ?_
  refine SRun.ck tbok 1 ⟨40, [(0, .ref 1000000 0), (2, .ref 2 0), (12, vi (w64 (x3.1 - 12))), (15, vi (w64 (x4.1 - 12)))], [(2, .box [vi 0, vi 0, vi 0, vi 0, vl eB ([] : List Bool)]), (1000000, .box (tc el01Source x4.2))]⟩ ?_
  refine SRun.ls (x_lstep_build (v := .agg [vi (w64 (x3.1 - 12)), vi (w64 (x4.1 - 12))]) tbok rfl) ?_
  refine SRun.ck tbok 1 ⟨40, [(0, .ref 1000000 0), (2, .ref 2 0), (16, .agg [vi (w64 (x3.1 - 12)), vi (w64 (x4.1 - 12))]), (17, .ref 1000000 0)], [(2, .box [vi 0, vi 0, vi 0, vi 0, vl eB ([] : List Bool)]), (1000000, .box (tc el01Source x4.2))]⟩ ?_
  obtain ⟨x5, hx5, h⟩ := bind_some h
  refine SRun.estep (xe ents73 (spec_l01Next_run x4.2 9 _ hx5)) ?_
  refine SRun.ck tbok 2 ⟨40, [(0, .ref 1000000 0), (2, .ref 2 0), (16, .agg [vi (w64 (x3.1 - 12)), vi (w64 (x4.1 - 12))]), (19, vi (w64 (6 + x5.1))), (20, .ref 1000000 0)], [(2, .box [vi 0, vi 0, vi 0, vi 0, vl eB ([] : List Bool)]), (1000000, .box (tc el01Source x5.2))]⟩ ?_
  obtain ⟨x6, hx6, h⟩ := bind_some h
  refine SRun.estep (xe ents73 (spec_l01Next_run x5.2 9 _ hx6)) ?_
  refine SRun.ck tbok 1 ⟨40, [(0, .ref 1000000 0), (2, .ref 2 0), (16, .agg [vi (w64 (x3.1 - 12)), vi (w64 (x4.1 - 12))]), (19, vi (w64 (6 + x5.1))), (22, vi (w64 (6 + x6.1)))], [(2, .box [vi 0, vi 0, vi 0, vi 0, vl eB ([] : List Bool)]), (1000000, .box (tc el01Source x6.2))]⟩ ?_
  refine SRun.ls (x_lstep_build (v := .agg [vi (w64 (x3.1 - 12)), vi (w64 (x4.1 - 12)), vi (w64 (6 + x5.1)), vi (w64 (6 + x6.1)), vl eB ([] : List Bool)]) tbok rfl) ?_
  obtain ⟨x7, hx7, h⟩ := bind_some h
  refine SRun.ls (xc ents185 (spec_l19Empty_run (Mask.mk (Point.mk (w64 (x3.1 - 12)) (w64 (x4.1 - 12))) (w64 (6 + x5.1)) (w64 (6 + x6.1)) ([] : List Bool)) _ hx7)) ?_
  refine ckn tbok 2 ⟨40, [(0, .ref 1000000 0), (2, .ref 2 0), (3, .ref 3 0)], [(2, .box [vi 0, vi 0, vi 0, vi 0, vl eB ([] : List Bool)]), (3, .box [vi x7.Low.X, vi x7.Low.Y, vi x7.Width, vi x7.Height, .own 24]), (24, oa 4 1 eB x7.Cells), (1000000, .box (tc el01Source x6.2))]⟩ ?_
  refine swp_seq ?_
  refine srk tbok ⟨40, [(0, .ref 1000000 0), (2, .ref 2 0), (3, .ref 3 0), (27, vi (x7.Cells.length : Int)), (28, vi 0)], [(2, .box [vi 0, vi 0, vi 0, vi 0, vl eB ([] : List Bool)]), (3, .box [vi x7.Low.X, vi x7.Low.Y, vi x7.Width, vi x7.Height, .own 24]), (24, oa 4 1 eB x7.Cells), (1000000, .box (tc el01Source x6.2))]⟩ ?_
  refine swp_seqJ h (fun j8 => ⟨40, [(2, .ref 2 0), (3, .ref 3 0)], [(2, .box [vi 0, vi 0, vi 0, vi 0, vl eB ([] : List Bool)]), (3, .box [vi j8.1, vi j8.2.1, vi j8.2.2.1, vi j8.2.2.2.1, .own 24]), (24, oa 4 1 eB j8.2.2.2.2.1), (1000000, .box (tc el01Source j8.2.2.2.2.2))]⟩) (fun v9 h => ?_) (fun j8 h => ?_)
  refine swp_blk (a := v9) ?_
  refine swp_lpL (r := v9) (s := (0, x7.Low.X, x7.Low.Y, x7.Width, x7.Height, x7.Cells, x6.2)) _ (fun s10 => ⟨40, [(0, .ref 1000000 0), (2, .ref 2 0), (3, .ref 3 0), (27, vi (x7.Cells.length : Int)), (28, vi s10.1)], [(2, .box [vi 0, vi 0, vi 0, vi 0, vl eB ([] : List Bool)]), (3, .box [vi s10.2.1, vi s10.2.2.1, vi s10.2.2.2.1, vi s10.2.2.2.2.1, .own 24]), (24, oa 4 1 eB s10.2.2.2.2.2.1), (1000000, .box (tc el01Source s10.2.2.2.2.2.2))]⟩) _ (Le.sub0) h (fun s10 v11 h => ?_)
  refine srk tbok ⟨40, [(0, .ref 1000000 0), (2, .ref 2 0), (3, .ref 3 0), (27, vi (x7.Cells.length : Int)), (28, vi s10.1), (29, vb (decide (s10.1 < (x7.Cells.length : Int))))], [(2, .box [vi 0, vi 0, vi 0, vi 0, vl eB ([] : List Bool)]), (3, .box [vi s10.2.1, vi s10.2.2.1, vi s10.2.2.2.1, vi s10.2.2.2.2.1, .own 24]), (24, oa 4 1 eB s10.2.2.2.2.2.1), (1000000, .box (tc el01Source s10.2.2.2.2.2.2))]⟩ ?_
  refine swp_seq ?_
  refine swp_cd h (fun h => ?_) fun h => ?_
  refine swp_skip ?_
  refine nx_n ?_
  refine swp_seq ?_
  refine swp_seqJ h (fun j12 => ⟨40, [(0, .ref 1000000 0), (2, .ref 2 0), (3, .ref 3 0), (27, vi (x7.Cells.length : Int)), (28, vi s10.1)], [(2, .box [vi 0, vi 0, vi 0, vi 0, vl eB ([] : List Bool)]), (3, .box [vi j12.1, vi j12.2.1, vi j12.2.2.1, vi j12.2.2.2.1, .own 24]), (24, oa 4 1 eB j12.2.2.2.2.1), (1000000, .box (tc el01Source j12.2.2.2.2.2))]⟩) (fun v13 h => ?_) (fun j12 h => ?_)
  refine swp_blk (a := v13) ?_
  refine srk tbok ⟨40, [(0, .ref 1000000 0), (2, .ref 2 0), (3, .ref 3 0), (4, vi s10.1), (27, vi (x7.Cells.length : Int)), (28, vi s10.1)], [(2, .box [vi 0, vi 0, vi 0, vi 0, vl eB ([] : List Bool)]), (3, .box [vi s10.2.1, vi s10.2.2.1, vi s10.2.2.2.1, vi s10.2.2.2.2.1, .own 24]), (24, oa 4 1 eB s10.2.2.2.2.2.1), (1000000, .box (tc el01Source s10.2.2.2.2.2.2))]⟩ ?_
  refine swp_drD [1000000] mixed ?_
  refine DGo.ck tbok false 4 ⟨40, [(0, .ref 1000000 0), (2, .ref 2 0), (3, .ref 3 0), (27, vi (x7.Cells.length : Int)), (28, vi s10.1), (32, .own 24), (33, vi s10.1), (34, .ref 1000000 0)], [(2, .box [vi 0, vi 0, vi 0, vi 0, vl eB ([] : List Bool)]), (3, .box [vi s10.2.1, vi s10.2.2.1, vi s10.2.2.2.1, vi s10.2.2.2.2.1, .own 24]), (24, oa 4 1 eB s10.2.2.2.2.2.1), (1000000, .box (tc el01Source s10.2.2.2.2.2.2))]⟩ ?_
  obtain ⟨x14, hx14, h⟩ := bind_some h
  refine DGo.write [] (xw ents73 (spec_l01Next_run s10.2.2.2.2.2.2 3 _ hx14)) ?_
  refine DGo.ck tbok false 1 ⟨40, [(0, .ref 1000000 0), (2, .ref 2 0), (3, .ref 3 0), (27, vi (x7.Cells.length : Int)), (28, vi s10.1), (32, .own 24), (33, vi s10.1), (36, vb (x14.1 == 0))], [(2, .box [vi 0, vi 0, vi 0, vi 0, vl eB ([] : List Bool)]), (3, .box [vi s10.2.1, vi s10.2.2.1, vi s10.2.2.2.1, vi s10.2.2.2.2.1, .own 24]), (24, oa 4 1 eB s10.2.2.2.2.2.1), (1000000, .box (tc el01Source x14.2))]⟩ ?_
  obtain ⟨x15, hx15, h⟩ := bind_some h
  refine DGo.step (x_index_own (d := 24) (L := s10.2.2.2.2.2.1) (f := eB) (ti := ti148) (tj := ti4) (e := 4) (e' := 4) (m := 1) (k := .i64) tbok rfl hx15) ?_
  refine DGo.seq (by kernel_rfl) (by kernel_rfl) ?_
  refine SRun.estep (x_store_own (d := 24) (m := 1) (j := 0) (L := s10.2.2.2.2.2.1) (f := eB) (x := (x14.1 == 0)) (z := x15) (ti := ti4) (e := 4) (ts := [.bool (x14.1 == 0)]) (vs := [vb (x14.1 == 0)]) (v := vb (x14.1 == 0)) tbok rfl rfl hx15) ?_
  refine SRun.nil ?_
  obtain rfl := inj h
  exact q_bn (q_j (Le.sub0))
  refine swp_reg ?_
  refine SRun.ck tbok 2 ⟨40, [(0, .ref 1000000 0), (2, .ref 2 0), (3, .ref 3 0), (27, vi (x7.Cells.length : Int)), (28, vi (w64 (s10.1 + 1)))], [(2, .box [vi 0, vi 0, vi 0, vi 0, vl eB ([] : List Bool)]), (3, .box [vi j12.1, vi j12.2.1, vi j12.2.2.1, vi j12.2.2.2.1, .own 24]), (24, oa 4 1 eB j12.2.2.2.2.1), (1000000, .box (tc el01Source j12.2.2.2.2.2))]⟩ ?_
  refine SRun.nil ?_
  obtain rfl := inj h
  exact q_l (Le.sub0)
  refine swp_exit ?_
  obtain rfl := inj h
  exact nx_e (q_re (q_bh (q_j (Le.sub0))))
  refine srk tbok ⟨40, [(2, .ref 2 0)], [(2, .box [vi j8.1, vi j8.2.1, vi j8.2.2.1, vi j8.2.2.2.1, .own 24]), (24, oa 4 1 eB j8.2.2.2.2.1), (1000000, .box (tc el01Source j8.2.2.2.2.2))]⟩ ?_
  refine swp_ret ?_
  obtain rfl := inj h
  exact q_fr (fin_io (f1 (finP (d := 24) [vi j8.1, vi j8.2.1, vi j8.2.2.1, vi j8.2.2.2.1] [] (holds_c tbok (d := 2) (cs := [vi j8.1, vi j8.2.1, vi j8.2.2.1, vi j8.2.2.2.1, .own 24]) (ti := ti150) (by kernel_rfl) (by kernel_rfl) (by kernel_rfl) (by kernel_rfl)) (by kernel_rfl) (flat_map eB_flat _) rfl rfl SV.flatL_of SV.flatL_of (by kernel_rfl))) (y := .box (tc el01Source j8.2.2.2.2.2)) (by kernel_rfl) rfl (by kernel_rfl) (by kernel_rfl))
theorem ents159 : Ents Tryz.prog 159 := ents_of Tryz.func159 (by kernel_rfl) rfl
noncomputable def spec_DrawRegionOf (aCode : (List Int)) : Option ((List Site) × (List Description) × Mask) :=
  ((spec_l01From aCode).bind fun x1 => ((spec_l29Sites x1).bind fun x2 => ((spec_l29Descriptions x2.2).bind fun x3 => ((spec_l29Mask x3.2).bind fun x4 => some (x2.1, x3.1, x4.1)))))
theorem spec_DrawRegionOf_run (aCode : (List Int)) (r : (List Site) × (List Description) × Mask) (h : spec_DrawRegionOf aCode = some r) : SCall Tryz.prog 123 [.v (vl (eI .u8) aCode)] ⟨[.own 92 3 r.1.length (r.1.map eSite), .v (vl eDescription r.2.1), .v (.agg (tc eMask r.2.2))], [], true⟩ := by
  refine scall_in Tryz.func123 rfl [(.tmp 2), (.tmp 3), (.cell 4 150)] rfl (fun r => ⟨[.own 92 3 r.1.length (r.1.map eSite), .v (vl eDescription r.2.1), .v (.agg (tc eMask r.2.2))], [], true⟩) (r := r) ?_
  unfold spec_DrawRegionOf at h
  refine srk tbok ⟨18, [(0, vl (eI .u8) aCode), (4, .ref 4 0)], [(4, .box [vi 0, vi 0, vi 0, vi 0, vl eB ([] : List Bool)])]⟩ ?_
  refine sr ?_
  refine SRun.ck tbok 1 ⟨18, [(4, .ref 4 0), (8, vl (eI .u8) aCode)], [(4, .box [vi 0, vi 0, vi 0, vi 0, vl eB ([] : List Bool)])]⟩ ?_
  obtain ⟨x1, hx1, h⟩ := bind_some h
  refine SRun.ls (xc ents71 (spec_l01From_run aCode _ hx1)) ?_
  refine ckn tbok 1 ⟨18, [(4, .ref 4 0), (5, .ref 9 0)], [(4, .box [vi 0, vi 0, vi 0, vi 0, vl eB ([] : List Bool)]), (9, .box (tc el01Source x1))]⟩ ?_
  refine sr ?_
  refine SRun.ck tbok 1 ⟨18, [(4, .ref 4 0), (5, .ref 9 0), (10, .ref 9 0)], [(4, .box [vi 0, vi 0, vi 0, vi 0, vl eB ([] : List Bool)]), (9, .box (tc el01Source x1))]⟩ ?_
  obtain ⟨x2, hx2, h⟩ := bind_some h
  refine SRun.estep (xe ents157 (spec_l29Sites_run x1 _ hx2)) ?_
  refine ckn tbok 1 ⟨18, [(4, .ref 4 0), (5, .ref 9 0), (6, .own 11)], [(4, .box [vi 0, vi 0, vi 0, vi 0, vl eB ([] : List Bool)]), (9, .box (tc el01Source x2.2)), (11, oa 92 3 eSite x2.1)]⟩ ?_
  refine sr ?_
  refine SRun.ck tbok 1 ⟨18, [(4, .ref 4 0), (5, .ref 9 0), (6, .own 11), (12, .ref 9 0)], [(4, .box [vi 0, vi 0, vi 0, vi 0, vl eB ([] : List Bool)]), (9, .box (tc el01Source x2.2)), (11, oa 92 3 eSite x2.1)]⟩ ?_
  obtain ⟨x3, hx3, h⟩ := bind_some h
  refine SRun.estep (xe ents158 (spec_l29Descriptions_run x2.2 _ hx3)) ?_
  refine ckn tbok 1 ⟨18, [(4, .ref 4 0), (5, .ref 9 0), (6, .own 11), (7, .own 13)], [(4, .box [vi 0, vi 0, vi 0, vi 0, vl eB ([] : List Bool)]), (9, .box (tc el01Source x3.2)), (11, oa 92 3 eSite x2.1), (13, oa 84 6 eDescription x3.1)]⟩ ?_
  refine sr ?_
  refine SRun.ck tbok 3 ⟨18, [(4, .ref 4 0), (14, .own 11), (15, .own 13), (16, .ref 9 0)], [(4, .box [vi 0, vi 0, vi 0, vi 0, vl eB ([] : List Bool)]), (9, .box (tc el01Source x3.2)), (11, oa 92 3 eSite x2.1), (13, oa 84 6 eDescription x3.1)]⟩ ?_
  obtain ⟨x4, hx4, h⟩ := bind_some h
  refine SRun.estep (xe ents159 (spec_l29Mask_run x3.2 _ hx4)) ?_
  refine ckn tbok 3 ⟨18, [(2, .own 11), (3, .own 13), (4, .ref 4 0)], [(4, .box [vi x4.1.Low.X, vi x4.1.Low.Y, vi x4.1.Width, vi x4.1.Height, .own 17]), (11, oa 92 3 eSite x2.1), (13, oa 84 6 eDescription x3.1), (17, oa 4 1 eB x4.1.Cells)]⟩ ?_
  refine swp_le (Le.frz' (d := 13) (e := 84) (m := 6) (n := x3.1.length) (es := x3.1.map eDescription) (by kernel_rfl) (by kernel_rfl)) ?_
  refine swp_le (Le.frz' (d := 17) (e := 4) (m := 1) (n := x4.1.Cells.length) (es := x4.1.Cells.map eB) (by kernel_rfl) (by kernel_rfl)) ?_
  refine swp_ret ?_
  obtain rfl := inj h
  exact q_fr (fin3 (by kernel_rfl) (finOT (d := 11) (holds_t (by kernel_rfl)) (by kernel_rfl) (by kernel_rfl)) ft (finT rfl (holds_c tbok (d := 4) (cs := [vi x4.1.Low.X, vi x4.1.Low.Y, vi x4.1.Width, vi x4.1.Height, vl eB x4.1.Cells]) (ti := ti150) (by kernel_rfl) (by kernel_rfl) (by kernel_rfl) (by kernel_rfl))))
theorem ents123 : Ents Tryz.prog 123 := ents_of Tryz.func123 (by kernel_rfl) rfl
noncomputable def spec_l01Good (aS : l01Source) : Option (ByteArray × l01Source) :=
  ((spec_l01Next aS 3).bind fun x1 => (((loop (fun (s4 : ByteArray × Int × l01Source) => (bif (decide (s4.2.1 > 0)) then ((((spec_l01Next s4.2.2 (([(ByteArray.mk #[97, 115, 104]), (ByteArray.mk #[102, 111, 114, 100]), (ByteArray.mk #[116, 111, 110]), (ByteArray.mk #[98, 121]), (ByteArray.mk #[107, 105, 114, 107]), (ByteArray.mk #[104, 97, 114]), (ByteArray.mk #[119, 105, 99, 107]), (ByteArray.mk #[101, 108, 121]), (ByteArray.mk #[111, 115]), (ByteArray.mk #[108, 111]), (ByteArray.mk #[98, 114, 105, 103]), (ByteArray.mk #[109, 97]), (ByteArray.mk #[114, 105]), (ByteArray.mk #[110, 97]), (ByteArray.mk #[115, 116]), (ByteArray.mk #[97, 101])] : List ByteArray).length : Int)).bind fun x8 => ((at' ([(ByteArray.mk #[97, 115, 104]), (ByteArray.mk #[102, 111, 114, 100]), (ByteArray.mk #[116, 111, 110]), (ByteArray.mk #[98, 121]), (ByteArray.mk #[107, 105, 114, 107]), (ByteArray.mk #[104, 97, 114]), (ByteArray.mk #[119, 105, 99, 107]), (ByteArray.mk #[101, 108, 121]), (ByteArray.mk #[111, 115]), (ByteArray.mk #[108, 111]), (ByteArray.mk #[98, 114, 105, 103]), (ByteArray.mk #[109, 97]), (ByteArray.mk #[114, 105]), (ByteArray.mk #[110, 97]), (ByteArray.mk #[115, 116]), (ByteArray.mk #[97, 101])] : List ByteArray) x8.1).bind fun x9 => ((cat' s4.1 x9).bind fun x10 => some (x10, x8.2))))).bind fun (j6 : ByteArray × l01Source) => some (.inl (j6.1, (w64 (s4.2.1 - 1)), j6.2))) else some (.inr (s4.1, s4.2.2)))) ((ByteArray.mk #[]), (w64 (1 + x1.1)), x1.2))).bind fun (j2 : ByteArray × l01Source) => some (j2.1, j2.2)))
theorem spec_l01Good_run (aS : l01Source) (r : ByteArray × l01Source) (h : spec_l01Good aS = some r) : SCall Tryz.prog 153 [.o (.box [vl (eI .u8) aS.code, vi aS.at', vi aS.seed])] ⟨[.v (vs r.1)], [(0, .box (tc el01Source r.2))], false⟩ := by
  refine scall_in Tryz.func153 rfl [(.tmp 2)] rfl (fun r => ⟨[.v (vs r.1)], [(0, .box (tc el01Source r.2))], false⟩) (r := r) ?_
  unfold spec_l01Good at h
  refine srk tbok ⟨24, [(0, .ref 1000000 0)], [(1000000, .box (tc el01Source aS))]⟩ ?_
  refine srk tbok ⟨24, [(0, .ref 1000000 0), (3, .own 6)], [(6, oa 9 1 eS ([(ByteArray.mk #[97, 115, 104]), (ByteArray.mk #[102, 111, 114, 100]), (ByteArray.mk #[116, 111, 110]), (ByteArray.mk #[98, 121]), (ByteArray.mk #[107, 105, 114, 107]), (ByteArray.mk #[104, 97, 114]), (ByteArray.mk #[119, 105, 99, 107]), (ByteArray.mk #[101, 108, 121]), (ByteArray.mk #[111, 115]), (ByteArray.mk #[108, 111]), (ByteArray.mk #[98, 114, 105, 103]), (ByteArray.mk #[109, 97]), (ByteArray.mk #[114, 105]), (ByteArray.mk #[110, 97]), (ByteArray.mk #[115, 116]), (ByteArray.mk #[97, 101])] : List ByteArray)), (1000000, .box (tc el01Source aS))]⟩ ?_
  refine srk tbok ⟨24, [(0, .ref 1000000 0), (3, .own 6), (4, vs (ByteArray.mk #[]))], [(6, oa 9 1 eS ([(ByteArray.mk #[97, 115, 104]), (ByteArray.mk #[102, 111, 114, 100]), (ByteArray.mk #[116, 111, 110]), (ByteArray.mk #[98, 121]), (ByteArray.mk #[107, 105, 114, 107]), (ByteArray.mk #[104, 97, 114]), (ByteArray.mk #[119, 105, 99, 107]), (ByteArray.mk #[101, 108, 121]), (ByteArray.mk #[111, 115]), (ByteArray.mk #[108, 111]), (ByteArray.mk #[98, 114, 105, 103]), (ByteArray.mk #[109, 97]), (ByteArray.mk #[114, 105]), (ByteArray.mk #[110, 97]), (ByteArray.mk #[115, 116]), (ByteArray.mk #[97, 101])] : List ByteArray)), (1000000, .box (tc el01Source aS))]⟩ ?_
  refine swp_seq ?_
  refine sr ?_
  refine SRun.ck tbok 1 ⟨24, [(0, .ref 1000000 0), (3, .own 6), (4, vs (ByteArray.mk #[])), (7, .ref 1000000 0)], [(6, oa 9 1 eS ([(ByteArray.mk #[97, 115, 104]), (ByteArray.mk #[102, 111, 114, 100]), (ByteArray.mk #[116, 111, 110]), (ByteArray.mk #[98, 121]), (ByteArray.mk #[107, 105, 114, 107]), (ByteArray.mk #[104, 97, 114]), (ByteArray.mk #[119, 105, 99, 107]), (ByteArray.mk #[101, 108, 121]), (ByteArray.mk #[111, 115]), (ByteArray.mk #[108, 111]), (ByteArray.mk #[98, 114, 105, 103]), (ByteArray.mk #[109, 97]), (ByteArray.mk #[114, 105]), (ByteArray.mk #[110, 97]), (ByteArray.mk #[115, 116]), (ByteArray.mk #[97, 101])] : List ByteArray)), (1000000, .box (tc el01Source aS))]⟩ ?_
  obtain ⟨x1, hx1, h⟩ := bind_some h
  refine SRun.estep (xe ents73 (spec_l01Next_run aS 3 _ hx1)) ?_
  refine ckn tbok 2 ⟨24, [(0, .ref 1000000 0), (3, .own 6), (4, vs (ByteArray.mk #[])), (5, vi (w64 (1 + x1.1)))], [(6, oa 9 1 eS ([(ByteArray.mk #[97, 115, 104]), (ByteArray.mk #[102, 111, 114, 100]), (ByteArray.mk #[116, 111, 110]), (ByteArray.mk #[98, 121]), (ByteArray.mk #[107, 105, 114, 107]), (ByteArray.mk #[104, 97, 114]), (ByteArray.mk #[119, 105, 99, 107]), (ByteArray.mk #[101, 108, 121]), (ByteArray.mk #[111, 115]), (ByteArray.mk #[108, 111]), (ByteArray.mk #[98, 114, 105, 103]), (ByteArray.mk #[109, 97]), (ByteArray.mk #[114, 105]), (ByteArray.mk #[110, 97]), (ByteArray.mk #[115, 116]), (ByteArray.mk #[97, 101])] : List ByteArray)), (1000000, .box (tc el01Source x1.2))]⟩ ?_
  refine swp_seqJ h (fun j2 => ⟨24, [(4, vs j2.1)], [(1000000, .box (tc el01Source j2.2))]⟩) (fun v3 h => ?_) (fun j2 h => ?_)
  refine swp_blk (a := v3) ?_
  refine swp_lpL (r := v3) (s := ((ByteArray.mk #[]), (w64 (1 + x1.1)), x1.2)) _ (fun s4 => ⟨24, [(0, .ref 1000000 0), (3, .own 3), (4, vs s4.1), (5, vi s4.2.1)], [(3, oa 9 1 eS ([(ByteArray.mk #[97, 115, 104]), (ByteArray.mk #[102, 111, 114, 100]), (ByteArray.mk #[116, 111, 110]), (ByteArray.mk #[98, 121]), (ByteArray.mk #[107, 105, 114, 107]), (ByteArray.mk #[104, 97, 114]), (ByteArray.mk #[119, 105, 99, 107]), (ByteArray.mk #[101, 108, 121]), (ByteArray.mk #[111, 115]), (ByteArray.mk #[108, 111]), (ByteArray.mk #[98, 114, 105, 103]), (ByteArray.mk #[109, 97]), (ByteArray.mk #[114, 105]), (ByteArray.mk #[110, 97]), (ByteArray.mk #[115, 116]), (ByteArray.mk #[97, 101])] : List ByteArray)), (1000000, .box (tc el01Source s4.2.2))]⟩) _ (Le.rr [6, 1000000] [(6, 3)]) h (fun s4 v5 h => ?_)
  refine swp_seq ?_
  refine srk tbok ⟨24, [(0, .ref 1000000 0), (3, .own 3), (4, vs s4.1), (5, vi s4.2.1), (11, vb (decide (s4.2.1 > 0)))], [(3, oa 9 1 eS ([(ByteArray.mk #[97, 115, 104]), (ByteArray.mk #[102, 111, 114, 100]), (ByteArray.mk #[116, 111, 110]), (ByteArray.mk #[98, 121]), (ByteArray.mk #[107, 105, 114, 107]), (ByteArray.mk #[104, 97, 114]), (ByteArray.mk #[119, 105, 99, 107]), (ByteArray.mk #[101, 108, 121]), (ByteArray.mk #[111, 115]), (ByteArray.mk #[108, 111]), (ByteArray.mk #[98, 114, 105, 103]), (ByteArray.mk #[109, 97]), (ByteArray.mk #[114, 105]), (ByteArray.mk #[110, 97]), (ByteArray.mk #[115, 116]), (ByteArray.mk #[97, 101])] : List ByteArray)), (1000000, .box (tc el01Source s4.2.2))]⟩ ?_
  refine swp_cd h (fun h => ?_) fun h => ?_
  refine swp_skip ?_
  refine nx_n ?_
  refine swp_seq ?_
  refine swp_seqJ h (fun j6 => ⟨24, [(0, .ref 1000000 0), (3, .own 3), (4, vs j6.1), (5, vi s4.2.1)], [(3, oa 9 1 eS ([(ByteArray.mk #[97, 115, 104]), (ByteArray.mk #[102, 111, 114, 100]), (ByteArray.mk #[116, 111, 110]), (ByteArray.mk #[98, 121]), (ByteArray.mk #[107, 105, 114, 107]), (ByteArray.mk #[104, 97, 114]), (ByteArray.mk #[119, 105, 99, 107]), (ByteArray.mk #[101, 108, 121]), (ByteArray.mk #[111, 115]), (ByteArray.mk #[108, 111]), (ByteArray.mk #[98, 114, 105, 103]), (ByteArray.mk #[109, 97]), (ByteArray.mk #[114, 105]), (ByteArray.mk #[110, 97]), (ByteArray.mk #[115, 116]), (ByteArray.mk #[97, 101])] : List ByteArray)), (1000000, .box (tc el01Source j6.2))]⟩) (fun v7 h => ?_) (fun j6 h => ?_)
  refine swp_blk (a := v7) ?_
  refine swp_reg ?_
  refine SRun.ck tbok 5 ⟨24, [(0, .ref 1000000 0), (3, .own 3), (5, vi s4.2.1), (14, vs s4.1), (15, .own 3), (16, .ref 1000000 0), (18, vi (([(ByteArray.mk #[97, 115, 104]), (ByteArray.mk #[102, 111, 114, 100]), (ByteArray.mk #[116, 111, 110]), (ByteArray.mk #[98, 121]), (ByteArray.mk #[107, 105, 114, 107]), (ByteArray.mk #[104, 97, 114]), (ByteArray.mk #[119, 105, 99, 107]), (ByteArray.mk #[101, 108, 121]), (ByteArray.mk #[111, 115]), (ByteArray.mk #[108, 111]), (ByteArray.mk #[98, 114, 105, 103]), (ByteArray.mk #[109, 97]), (ByteArray.mk #[114, 105]), (ByteArray.mk #[110, 97]), (ByteArray.mk #[115, 116]), (ByteArray.mk #[97, 101])] : List ByteArray).length : Int))], [(3, oa 9 1 eS ([(ByteArray.mk #[97, 115, 104]), (ByteArray.mk #[102, 111, 114, 100]), (ByteArray.mk #[116, 111, 110]), (ByteArray.mk #[98, 121]), (ByteArray.mk #[107, 105, 114, 107]), (ByteArray.mk #[104, 97, 114]), (ByteArray.mk #[119, 105, 99, 107]), (ByteArray.mk #[101, 108, 121]), (ByteArray.mk #[111, 115]), (ByteArray.mk #[108, 111]), (ByteArray.mk #[98, 114, 105, 103]), (ByteArray.mk #[109, 97]), (ByteArray.mk #[114, 105]), (ByteArray.mk #[110, 97]), (ByteArray.mk #[115, 116]), (ByteArray.mk #[97, 101])] : List ByteArray)), (1000000, .box (tc el01Source s4.2.2))]⟩ ?_
  obtain ⟨x8, hx8, h⟩ := bind_some h
  refine SRun.estep (xe ents73 (spec_l01Next_run s4.2.2 (([(ByteArray.mk #[97, 115, 104]), (ByteArray.mk #[102, 111, 114, 100]), (ByteArray.mk #[116, 111, 110]), (ByteArray.mk #[98, 121]), (ByteArray.mk #[107, 105, 114, 107]), (ByteArray.mk #[104, 97, 114]), (ByteArray.mk #[119, 105, 99, 107]), (ByteArray.mk #[101, 108, 121]), (ByteArray.mk #[111, 115]), (ByteArray.mk #[108, 111]), (ByteArray.mk #[98, 114, 105, 103]), (ByteArray.mk #[109, 97]), (ByteArray.mk #[114, 105]), (ByteArray.mk #[110, 97]), (ByteArray.mk #[115, 116]), (ByteArray.mk #[97, 101])] : List ByteArray).length : Int) _ hx8)) ?_
  obtain ⟨x9, hx9, h⟩ := bind_some h
  refine SRun.ls (x_index_own (d := 3) (L := ([(ByteArray.mk #[97, 115, 104]), (ByteArray.mk #[102, 111, 114, 100]), (ByteArray.mk #[116, 111, 110]), (ByteArray.mk #[98, 121]), (ByteArray.mk #[107, 105, 114, 107]), (ByteArray.mk #[104, 97, 114]), (ByteArray.mk #[119, 105, 99, 107]), (ByteArray.mk #[101, 108, 121]), (ByteArray.mk #[111, 115]), (ByteArray.mk #[108, 111]), (ByteArray.mk #[98, 114, 105, 103]), (ByteArray.mk #[109, 97]), (ByteArray.mk #[114, 105]), (ByteArray.mk #[110, 97]), (ByteArray.mk #[115, 116]), (ByteArray.mk #[97, 101])] : List ByteArray)) (f := eS) (ti := ti28) (tj := ti9) (e := 9) (e' := 9) (m := 1) (k := .i64) tbok rfl hx9) ?_
  refine SRun.ls (x_load_own (d := 3) (m := 1) (j := 0) (L := ([(ByteArray.mk #[97, 115, 104]), (ByteArray.mk #[102, 111, 114, 100]), (ByteArray.mk #[116, 111, 110]), (ByteArray.mk #[98, 121]), (ByteArray.mk #[107, 105, 114, 107]), (ByteArray.mk #[104, 97, 114]), (ByteArray.mk #[119, 105, 99, 107]), (ByteArray.mk #[101, 108, 121]), (ByteArray.mk #[111, 115]), (ByteArray.mk #[108, 111]), (ByteArray.mk #[98, 114, 105, 103]), (ByteArray.mk #[109, 97]), (ByteArray.mk #[114, 105]), (ByteArray.mk #[110, 97]), (ByteArray.mk #[115, 116]), (ByteArray.mk #[97, 101])] : List ByteArray)) (f := eS) (ti := ti9) (e := 9) (v := vs x9) tbok rfl hx9) ?_
  obtain ⟨x10, hx10, h⟩ := bind_some h
  refine SRun.ls (x_cat hx10 rfl) ?_
  refine SRun.ck tbok 1 ⟨24, [(0, .ref 1000000 0), (3, .own 3), (4, vs x10), (5, vi s4.2.1)], [(3, oa 9 1 eS ([(ByteArray.mk #[97, 115, 104]), (ByteArray.mk #[102, 111, 114, 100]), (ByteArray.mk #[116, 111, 110]), (ByteArray.mk #[98, 121]), (ByteArray.mk #[107, 105, 114, 107]), (ByteArray.mk #[104, 97, 114]), (ByteArray.mk #[119, 105, 99, 107]), (ByteArray.mk #[101, 108, 121]), (ByteArray.mk #[111, 115]), (ByteArray.mk #[108, 111]), (ByteArray.mk #[98, 114, 105, 103]), (ByteArray.mk #[109, 97]), (ByteArray.mk #[114, 105]), (ByteArray.mk #[110, 97]), (ByteArray.mk #[115, 116]), (ByteArray.mk #[97, 101])] : List ByteArray)), (1000000, .box (tc el01Source x8.2))]⟩ ?_
  refine SRun.nil ?_
  obtain rfl := inj h
  exact q_bn (q_j (Le.sub0))
  refine swp_reg ?_
  refine SRun.ck tbok 3 ⟨24, [(0, .ref 1000000 0), (3, .own 3), (4, vs j6.1), (5, vi (w64 (s4.2.1 - 1)))], [(3, oa 9 1 eS ([(ByteArray.mk #[97, 115, 104]), (ByteArray.mk #[102, 111, 114, 100]), (ByteArray.mk #[116, 111, 110]), (ByteArray.mk #[98, 121]), (ByteArray.mk #[107, 105, 114, 107]), (ByteArray.mk #[104, 97, 114]), (ByteArray.mk #[119, 105, 99, 107]), (ByteArray.mk #[101, 108, 121]), (ByteArray.mk #[111, 115]), (ByteArray.mk #[108, 111]), (ByteArray.mk #[98, 114, 105, 103]), (ByteArray.mk #[109, 97]), (ByteArray.mk #[114, 105]), (ByteArray.mk #[110, 97]), (ByteArray.mk #[115, 116]), (ByteArray.mk #[97, 101])] : List ByteArray)), (1000000, .box (tc el01Source j6.2))]⟩ ?_
  refine SRun.nil ?_
  obtain rfl := inj h
  exact q_l (Le.sub0)
  refine swp_exit ?_
  obtain rfl := inj h
  exact nx_e (q_re (q_bh (q_j (Le.sub0))))
  refine srk tbok ⟨24, [(2, vs j2.1)], [(1000000, .box (tc el01Source j2.2))]⟩ ?_
  refine swp_ret ?_
  obtain rfl := inj h
  exact q_fr (fin_io (f1 fv) (y := .box (tc el01Source j2.2)) (by kernel_rfl) rfl (by kernel_rfl) (by kernel_rfl))
theorem ents153 : Ents Tryz.prog 153 := ents_of Tryz.func153 (by kernel_rfl) rfl
noncomputable def spec_l01Words (aWords : (List ByteArray)) : Option (ByteArray) :=
  (((forS (aWords.length : Int) (fun (i3 : Int) (s3 : ByteArray) => (((bif (decide (i3 > 0)) then ((cat' s3 (ByteArray.mk #[32])).bind fun x9 => some x9) else some s3)).bind fun (j7 : ByteArray) => ((at' aWords i3).bind fun x10 => ((cat' j7 x10).bind fun x11 => some x11)))) (fun (s3 : ByteArray) => s3) 0 (ByteArray.mk #[]))).bind fun (j1 : ByteArray) => some j1)
theorem spec_l01Words_run (aWords : (List ByteArray)) (r : ByteArray) (h : spec_l01Words aWords = some r) : SCall Tryz.prog 154 [.v (vl eS aWords)] ⟨[.v (vs r)], [], false⟩ := by
  refine scall_in Tryz.func154 rfl [(.tmp 2)] rfl (fun r => ⟨[.v (vs r)], [], false⟩) (r := r) ?_
  unfold spec_l01Words at h
  refine srk tbok ⟨22, [(0, vl eS aWords)], []⟩ ?_
  refine srk tbok ⟨22, [(0, vl eS aWords), (3, vs (ByteArray.mk #[]))], []⟩ ?_
  refine swp_seq ?_
  refine srk tbok ⟨22, [(0, vl eS aWords), (3, vs (ByteArray.mk #[])), (4, vi 0)], []⟩ ?_
  refine swp_seqJ h (fun j1 => ⟨22, [(3, vs j1)], []⟩) (fun v2 h => ?_) (fun j1 h => ?_)
  refine swp_blk (a := v2) ?_
  refine swp_lpL (r := v2) (s := (0, (ByteArray.mk #[]))) _ (fun s3 => ⟨22, [(0, vl eS aWords), (3, vs s3.2), (4, vi s3.1)], []⟩) _ (Le.sub0) h (fun s3 v4 h => ?_)
  refine swp_seq ?_
  refine srk tbok ⟨22, [(0, vl eS aWords), (3, vs s3.2), (4, vi s3.1), (8, vb (decide (s3.1 < (aWords.length : Int))))], []⟩ ?_
  refine swp_cd h (fun h => ?_) fun h => ?_
  refine swp_skip ?_
  refine nx_n ?_
  refine swp_seq ?_
  refine swp_seqJ h (fun j5 => ⟨22, [(0, vl eS aWords), (3, vs j5), (4, vi s3.1)], []⟩) (fun v6 h => ?_) (fun j5 h => ?_)
  refine swp_blk (a := v6) ?_
  refine swp_seq ?_
  refine srk tbok ⟨22, [(0, vl eS aWords), (3, vs s3.2), (4, vi s3.1), (12, vb (decide (s3.1 > 0)))], []⟩ ?_
  refine swp_seqJ h (fun j7 => ⟨22, [(0, vl eS aWords), (3, vs j7), (4, vi s3.1)], []⟩) (fun v8 h => ?_) (fun j7 h => ?_)
  refine swp_cd h (fun h => ?_) fun h => ?_
  refine swp_reg ?_
  refine SRun.ck tbok 1 ⟨22, [(0, vl eS aWords), (4, vi s3.1), (13, vs s3.2)], []⟩ ?_
  obtain ⟨x9, hx9, h⟩ := bind_some h
  refine SRun.ls (x_cat hx9 rfl) ?_
  refine SRun.ck tbok 1 ⟨22, [(0, vl eS aWords), (3, vs x9), (4, vi s3.1)], []⟩ ?_
  refine SRun.nil ?_
  obtain rfl := inj h
  exact q_j (Le.sub0)
  refine swp_skip ?_
  obtain rfl := inj h
  exact q_j (Le.sub0)
  refine swp_reg ?_
  refine SRun.ck tbok 3 ⟨22, [(0, vl eS aWords), (4, vi s3.1), (15, vs j7), (16, vl eS aWords), (17, vi s3.1)], []⟩ ?_
  obtain ⟨x10, hx10, h⟩ := bind_some h
  refine SRun.ls (x_index (L := aWords) (f := eS) (ti := ti28) (tj := ti9) (e := 9) (k := .i64) tbok rfl hx10) ?_
  refine SRun.ck tbok 1 ⟨22, [(0, vl eS aWords), (4, vi s3.1), (15, vs j7), (19, vs x10)], []⟩ ?_
  obtain ⟨x11, hx11, h⟩ := bind_some h
  refine SRun.ls (x_cat hx11 rfl) ?_
  refine SRun.ck tbok 1 ⟨22, [(0, vl eS aWords), (3, vs x11), (4, vi s3.1)], []⟩ ?_
  refine SRun.nil ?_
  obtain rfl := inj h
  exact q_bn (q_j (Le.sub0))
  refine swp_reg ?_
  refine SRun.ck tbok 3 ⟨22, [(0, vl eS aWords), (3, vs j5), (4, vi (w64 (s3.1 + 1)))], []⟩ ?_
  refine SRun.nil ?_
  obtain rfl := inj h
  exact q_l (Le.sub0)
  refine swp_exit ?_
  obtain rfl := inj h
  exact nx_e (q_re (q_bh (q_j (Le.sub0))))
  refine srk tbok ⟨22, [(2, vs j1)], []⟩ ?_
  refine swp_ret ?_
  obtain rfl := inj h
  exact q_fr (f1 fv)
theorem ents154 : Ents Tryz.prog 154 := ents_of Tryz.func154 (by kernel_rfl) rfl
noncomputable def spec_l01GoodPhrase (aS : l01Source) : Option (ByteArray × l01Source) :=
  ((spec_l01Next aS 3).bind fun x1 => (((loop (fun (s4 : Int × (List ByteArray) × l01Source) => (bif (decide (s4.1 > 0)) then ((((spec_l01Good s4.2.2).bind fun x8 => ((app' s4.2.1 ([x8.1] : List ByteArray)).bind fun x9 => some (x9, x8.2)))).bind fun (j6 : (List ByteArray) × l01Source) => some (.inl ((w64 (s4.1 - 1)), j6.1, j6.2))) else some (.inr (s4.2.1, s4.2.2)))) ((w64 (1 + x1.1)), ([] : List ByteArray), x1.2))).bind fun (j2 : (List ByteArray) × l01Source) => ((spec_l01Words j2.1).bind fun x10 => some (x10, j2.2))))
theorem spec_l01GoodPhrase_run (aS : l01Source) (r : ByteArray × l01Source) (h : spec_l01GoodPhrase aS = some r) : SCall Tryz.prog 117 [.o (.box [vl (eI .u8) aS.code, vi aS.at', vi aS.seed])] ⟨[.v (vs r.1)], [(0, .box (tc el01Source r.2))], false⟩ := by
  refine scall_in Tryz.func117 rfl [(.tmp 2)] rfl (fun r => ⟨[.v (vs r.1)], [(0, .box (tc el01Source r.2))], false⟩) (r := r) ?_
  unfold spec_l01GoodPhrase at h
  refine srk tbok ⟨20, [(0, .ref 1000000 0)], [(1000000, .box (tc el01Source aS))]⟩ ?_
  refine srk tbok ⟨20, [(0, .ref 1000000 0), (3, .own 5)], [(5, oa 9 1 eS ([] : List ByteArray)), (1000000, .box (tc el01Source aS))]⟩ ?_
  refine swp_seq ?_
  refine sr ?_
  refine SRun.ck tbok 1 ⟨20, [(0, .ref 1000000 0), (3, .own 5), (6, .ref 1000000 0)], [(5, oa 9 1 eS ([] : List ByteArray)), (1000000, .box (tc el01Source aS))]⟩ ?_
  obtain ⟨x1, hx1, h⟩ := bind_some h
  refine SRun.estep (xe ents73 (spec_l01Next_run aS 3 _ hx1)) ?_
  refine ckn tbok 2 ⟨20, [(0, .ref 1000000 0), (3, .own 5), (4, vi (w64 (1 + x1.1)))], [(5, oa 9 1 eS ([] : List ByteArray)), (1000000, .box (tc el01Source x1.2))]⟩ ?_
  refine swp_seqJ h (fun j2 => ⟨20, [(3, .own 3)], [(3, oa 9 1 eS j2.1), (1000000, .box (tc el01Source j2.2))]⟩) (fun v3 h => ?_) (fun j2 h => ?_)
  refine swp_blk (a := v3) ?_
  refine swp_lpL (r := v3) (s := ((w64 (1 + x1.1)), ([] : List ByteArray), x1.2)) _ (fun s4 => ⟨20, [(0, .ref 1000000 0), (3, .own 3), (4, vi s4.1)], [(3, oa 9 1 eS s4.2.1), (1000000, .box (tc el01Source s4.2.2))]⟩) _ (Le.rr [5, 1000000] [(5, 3)]) h (fun s4 v5 h => ?_)
  refine swp_seq ?_
  refine srk tbok ⟨20, [(0, .ref 1000000 0), (3, .own 3), (4, vi s4.1), (10, vb (decide (s4.1 > 0)))], [(3, oa 9 1 eS s4.2.1), (1000000, .box (tc el01Source s4.2.2))]⟩ ?_
  refine swp_cd h (fun h => ?_) fun h => ?_
  refine swp_skip ?_
  refine nx_n ?_
  refine swp_seq ?_
  refine swp_seqJ h (fun j6 => ⟨20, [(0, .ref 1000000 0), (3, .own 3), (4, vi s4.1)], [(3, oa 9 1 eS j6.1), (1000000, .box (tc el01Source j6.2))]⟩) (fun v7 h => ?_) (fun j6 h => ?_)
  refine swp_blk (a := v7) ?_
  refine swp_reg ?_
  refine SRun.ck tbok 2 ⟨20, [(0, .ref 1000000 0), (4, vi s4.1), (13, .own 3), (14, .ref 1000000 0)], [(3, oa 9 1 eS s4.2.1), (1000000, .box (tc el01Source s4.2.2))]⟩ ?_
  obtain ⟨x8, hx8, h⟩ := bind_some h
  refine SRun.estep (xe ents153 (spec_l01Good_run s4.2.2 _ hx8)) ?_
  refine SRun.ck tbok 1 ⟨20, [(0, .ref 1000000 0), (4, vi s4.1), (13, .own 3), (16, .own 16)], [(3, oa 9 1 eS s4.2.1), (16, oa 9 1 eS ([x8.1] : List ByteArray)), (1000000, .box (tc el01Source x8.2))]⟩ ?_
  obtain ⟨x9, hx9, h⟩ := bind_some h
  refine SRun.estep (x_append (f := eS) (t := 28) (ti := ti28) (tj := ti9) (zs := [.string (ByteArray.mk #[])]) (e := 9) (m := 1) (d := 3) (xv := .own 16) hx9 tbok rfl rfl rfl rfl (x_src_o (e := 9))) ?_
  refine SRun.ck tbok 1 ⟨20, [(0, .ref 1000000 0), (3, .own 17), (4, vi s4.1)], [(17, oa 9 1 eS x9), (1000000, .box (tc el01Source x8.2))]⟩ ?_
  refine SRun.nil ?_
  obtain rfl := inj h
  exact q_bn (q_j (Le.rr [17, 1000000] [(17, 3)]))
  refine swp_reg ?_
  refine SRun.ck tbok 3 ⟨20, [(0, .ref 1000000 0), (3, .own 3), (4, vi (w64 (s4.1 - 1)))], [(3, oa 9 1 eS j6.1), (1000000, .box (tc el01Source j6.2))]⟩ ?_
  refine SRun.nil ?_
  obtain rfl := inj h
  exact q_l (Le.sub0)
  refine swp_exit ?_
  obtain rfl := inj h
  exact nx_e (q_re (q_bh (q_j (Le.sub0))))
  refine sr ?_
  refine SRun.ck tbok 1 ⟨20, [(18, .own 3)], [(3, oa 9 1 eS j2.1), (1000000, .box (tc el01Source j2.2))]⟩ ?_
  obtain ⟨x10, hx10, h⟩ := bind_some h
  refine SRun.ls (xc ents154 (spec_l01Words_run j2.1 _ hx10)) ?_
  refine ckn tbok 1 ⟨20, [(2, vs x10)], [(1000000, .box (tc el01Source j2.2))]⟩ ?_
  refine swp_ret ?_
  obtain rfl := inj h
  exact q_fr (fin_io (f1 fv) (y := .box (tc el01Source j2.2)) (by kernel_rfl) rfl (by kernel_rfl) (by kernel_rfl))
theorem ents117 : Ents Tryz.prog 117 := ents_of Tryz.func117 (by kernel_rfl) rfl
noncomputable def spec_l01Damage (aS : l01Source) (aT : ByteArray) : Option (ByteArray × l01Source) :=
  ((spec_l01Next aS (w64 ((aT.size : Int) + 1))).bind fun x1 => ((spec_l01Next x1.2 8).bind fun x2 => (((bif (x2.1 == 0) then ((sub' aT 0 x1.1).bind fun x5 => some (.inr (x5, x2.2))) else (bif (x2.1 == 1) then ((sub' aT 0 x1.1).bind fun x6 => ((spec_l01Next x2.2 8).bind fun x7 => ((at' ([(ByteArray.mk #[48]), (ByteArray.mk #[35]), (ByteArray.mk #[46]), (ByteArray.mk #[47]), (ByteArray.mk #[32]), (ByteArray.mk #[97]), (ByteArray.mk #[45]), (ByteArray.mk #[10])] : List ByteArray) x7.1).bind fun x8 => ((cat' x6 x8).bind fun x9 => ((sub' aT x1.1 (aT.size : Int)).bind fun x10 => ((cat' x9 x10).bind fun x11 => some (.inr (x11, x7.2)))))))) else (bif (x2.1 == 2) then (bif (decide (x1.1 < (aT.size : Int))) then ((sub' aT 0 x1.1).bind fun x12 => ((sub' aT (w64 (x1.1 + 1)) (aT.size : Int)).bind fun x13 => ((cat' x12 x13).bind fun x14 => some (.inr (x14, x2.2))))) else some (.inl x2.2)) else some (.inl x2.2))))).bind (Sum.elim (fun (j3 : l01Source) => some (aT, j3)) some))))
theorem spec_l01Damage_run (aS : l01Source) (aT : ByteArray) (r : ByteArray × l01Source) (h : spec_l01Damage aS aT = some r) : SCall Tryz.prog 118 [.o (.box [vl (eI .u8) aS.code, vi aS.at', vi aS.seed]), .v (vs aT)] ⟨[.v (vs r.1)], [(0, .box (tc el01Source r.2))], false⟩ := by
  refine scall_in Tryz.func118 rfl [(.tmp 4)] rfl (fun r => ⟨[.v (vs r.1)], [(0, .box (tc el01Source r.2))], false⟩) (r := r) ?_
  unfold spec_l01Damage at h
  refine srk tbok ⟨48, [(0, .ref 1000000 0), (1, vs aT)], [(1000000, .box (tc el01Source aS))]⟩ ?_
  refine sr ?_
  refine SRun.ck tbok 4 ⟨48, [(0, .ref 1000000 0), (1, vs aT), (6, .ref 1000000 0), (9, vi (w64 ((aT.size : Int) + 1)))], [(1000000, .box (tc el01Source aS))]⟩ ?_
  obtain ⟨x1, hx1, h⟩ := bind_some h
  refine SRun.estep (xe ents73 (spec_l01Next_run aS (w64 ((aT.size : Int) + 1)) _ hx1)) ?_
  refine ckn tbok 1 ⟨48, [(0, .ref 1000000 0), (1, vs aT), (5, vi x1.1)], [(1000000, .box (tc el01Source x1.2))]⟩ ?_
  refine swp_seq ?_
  refine sr ?_
  refine SRun.ck tbok 1 ⟨48, [(0, .ref 1000000 0), (1, vs aT), (5, vi x1.1), (11, .ref 1000000 0)], [(1000000, .box (tc el01Source x1.2))]⟩ ?_
  obtain ⟨x2, hx2, h⟩ := bind_some h
  refine SRun.estep (xe ents73 (spec_l01Next_run x1.2 8 _ hx2)) ?_
  refine SRun.nx ?_
  refine swp_seqE (r := r) h (fun j3 => ⟨48, [(1, vs aT)], [(1000000, .box (tc el01Source j3))]⟩) (fun v4 h => ?_) (fun j3 h => ?_)
  refine swp_blk (a := v4) ?_
  refine srk tbok ⟨48, [(0, .ref 1000000 0), (1, vs aT), (5, vi x1.1), (12, vi x2.1), (13, vb (x2.1 == 0))], [(1000000, .box (tc el01Source x2.2))]⟩ ?_
  refine swp_cd h (fun h => ?_) fun h => ?_
  refine sr ?_
  refine SRun.ck tbok 2 ⟨48, [(15, vs aT), (16, vi x1.1)], [(1000000, .box (tc el01Source x2.2))]⟩ ?_
  obtain ⟨x5, hx5, h⟩ := bind_some h
  refine SRun.ls (x_sub (ti := ti9) hx5 tbok rfl) ?_
  refine ckn tbok 1 ⟨48, [(4, vs x5)], [(1000000, .box (tc el01Source x2.2))]⟩ ?_
  refine swp_ret ?_
  obtain rfl := inj h
  exact q_br (q_rr (q_fr (fin_io (f1 fv) (y := .box (tc el01Source x2.2)) (by kernel_rfl) rfl (by kernel_rfl) (by kernel_rfl))))
  refine srk tbok ⟨48, [(0, .ref 1000000 0), (1, vs aT), (5, vi x1.1), (12, vi x2.1), (18, vb (x2.1 == 1))], [(1000000, .box (tc el01Source x2.2))]⟩ ?_
  refine swp_cd h (fun h => ?_) fun h => ?_
  refine swp_seq ?_
  refine swp_drD [1000000] mixed ?_
  refine DGo.ck tbok false 2 ⟨48, [(0, .ref 1000000 0), (1, vs aT), (5, vi x1.1), (20, vs aT), (21, vi x1.1)], [(1000000, .box (tc el01Source x2.2))]⟩ ?_
  obtain ⟨x6, hx6, h⟩ := bind_some h
  refine DGo.step (x_sub (ti := ti9) hx6 tbok rfl) ?_
  refine DGo.ck tbok false 2 ⟨48, [(1, vs aT), (5, vi x1.1), (22, vs x6), (23, .own 23), (24, .ref 1000000 0)], [(23, oa 9 1 eS ([(ByteArray.mk #[48]), (ByteArray.mk #[35]), (ByteArray.mk #[46]), (ByteArray.mk #[47]), (ByteArray.mk #[32]), (ByteArray.mk #[97]), (ByteArray.mk #[45]), (ByteArray.mk #[10])] : List ByteArray)), (1000000, .box (tc el01Source x2.2))]⟩ ?_
  obtain ⟨x7, hx7, h⟩ := bind_some h
  refine DGo.write [] (xw ents73 (spec_l01Next_run x2.2 8 _ hx7)) ?_
  obtain ⟨x8, hx8, h⟩ := bind_some h
  refine DGo.stepW false [23] (x_index_own (d := 23) (L := ([(ByteArray.mk #[48]), (ByteArray.mk #[35]), (ByteArray.mk #[46]), (ByteArray.mk #[47]), (ByteArray.mk #[32]), (ByteArray.mk #[97]), (ByteArray.mk #[45]), (ByteArray.mk #[10])] : List ByteArray)) (f := eS) (ti := ti28) (tj := ti9) (e := 9) (e' := 9) (m := 1) (k := .i64) tbok rfl hx8) ?_
  refine DGo.stepW false [23] (x_load_own (d := 23) (m := 1) (j := 0) (L := ([(ByteArray.mk #[48]), (ByteArray.mk #[35]), (ByteArray.mk #[46]), (ByteArray.mk #[47]), (ByteArray.mk #[32]), (ByteArray.mk #[97]), (ByteArray.mk #[45]), (ByteArray.mk #[10])] : List ByteArray)) (f := eS) (ti := ti9) (e := 9) (v := vs x8) tbok rfl hx8) ?_
  obtain ⟨x9, hx9, h⟩ := bind_some h
  refine DGo.step (x_cat hx9 rfl) ?_
  refine DGo.ck tbok false 2 ⟨48, [(28, vs x9), (29, vs aT), (30, vi x1.1)], [(1000000, .box (tc el01Source x7.2))]⟩ ?_
  obtain ⟨x10, hx10, h⟩ := bind_some h
  refine DGo.step (x_sub (ti := ti9) hx10 tbok rfl) ?_
  obtain ⟨x11, hx11, h⟩ := bind_some h
  refine DGo.step (x_cat hx11 rfl) ?_
  refine DGo.ck tbok false 1 ⟨48, [(4, vs x11)], [(1000000, .box (tc el01Source x7.2))]⟩ ?_
  refine DGo.nx ?_
  refine swp_ret ?_
  obtain rfl := inj h
  exact q_br (q_rr (q_fr (fin_io (f1 fv) (y := .box (tc el01Source x7.2)) (by kernel_rfl) rfl (by kernel_rfl) (by kernel_rfl))))
  refine srk tbok ⟨48, [(1, vs aT), (5, vi x1.1), (33, vb (x2.1 == 2))], [(1000000, .box (tc el01Source x2.2))]⟩ ?_
  refine swp_cd h (fun h => ?_) fun h => ?_
  refine srk tbok ⟨48, [(1, vs aT), (5, vi x1.1), (38, vb (decide (x1.1 < (aT.size : Int))))], [(1000000, .box (tc el01Source x2.2))]⟩ ?_
  refine swp_cd h (fun h => ?_) fun h => ?_
  refine swp_seq ?_
  refine swp_dr mixed ?_
  refine DGo.ck tbok false 2 ⟨48, [(1, vs aT), (5, vi x1.1), (39, vs aT), (40, vi x1.1)], [(1000000, .box (tc el01Source x2.2))]⟩ ?_
  obtain ⟨x12, hx12, h⟩ := bind_some h
  refine DGo.step (x_sub (ti := ti9) hx12 tbok rfl) ?_
  refine DGo.ck tbok false 3 ⟨48, [(41, vs x12), (42, vs aT), (44, vi (w64 (x1.1 + 1)))], [(1000000, .box (tc el01Source x2.2))]⟩ ?_
  obtain ⟨x13, hx13, h⟩ := bind_some h
  refine DGo.step (x_sub (ti := ti9) hx13 tbok rfl) ?_
  obtain ⟨x14, hx14, h⟩ := bind_some h
  refine DGo.step (x_cat hx14 rfl) ?_
  refine DGo.ck tbok false 1 ⟨48, [(4, vs x14)], [(1000000, .box (tc el01Source x2.2))]⟩ ?_
  refine DGo.nx ?_
  refine swp_ret ?_
  obtain rfl := inj h
  exact q_br (q_rr (q_fr (fin_io (f1 fv) (y := .box (tc el01Source x2.2)) (by kernel_rfl) rfl (by kernel_rfl) (by kernel_rfl))))
  refine swp_skip ?_
  obtain rfl := inj h
  exact q_bn (q_l (Le.sub0))
  refine swp_skip ?_
  obtain rfl := inj h
  exact q_bn (q_l (Le.sub0))
  refine srk tbok ⟨48, [(4, vs aT)], [(1000000, .box (tc el01Source j3))]⟩ ?_
  refine swp_ret ?_
  obtain rfl := inj h
  exact q_fr (fin_io (f1 fv) (y := .box (tc el01Source j3)) (by kernel_rfl) rfl (by kernel_rfl) (by kernel_rfl))
theorem ents118 : Ents Tryz.prog 118 := ents_of Tryz.func118 (by kernel_rfl) rfl
noncomputable def spec_l01DrawPhrase (aS : l01Source) : Option (ByteArray × l01Source) :=
  ((spec_l01GoodPhrase aS).bind fun x1 => ((spec_l01Next x1.2 20).bind fun x2 => (((bif (x2.1 == 0) then ((spec_l01Damage x2.2 x1.1).bind fun x5 => some (.inr (x5.1, x5.2))) else (bif (x2.1 == 1) then ((spec_l01Next x2.2 5).bind fun x6 => ((at' ([(ByteArray.mk #[]), (ByteArray.mk #[97, 32, 32, 98]), (ByteArray.mk #[32, 97]), (ByteArray.mk #[97, 32, 98, 32, 99, 32, 100, 32, 101, 32, 102, 32, 103, 32, 104]), (ByteArray.mk #[97, 32, 98, 32, 99, 32, 100, 32, 101, 32, 102, 32, 103, 32, 104, 32, 105])] : List ByteArray) x6.1).bind fun x7 => some (.inr (x7, x6.2)))) else some (.inl x2.2)))).bind (Sum.elim (fun (j3 : l01Source) => some (x1.1, j3)) some))))
theorem spec_l01DrawPhrase_run (aS : l01Source) (r : ByteArray × l01Source) (h : spec_l01DrawPhrase aS = some r) : SCall Tryz.prog 72 [.o (.box [vl (eI .u8) aS.code, vi aS.at', vi aS.seed])] ⟨[.v (vs r.1)], [(0, .box (tc el01Source r.2))], false⟩ := by
  refine scall_in Tryz.func72 rfl [(.tmp 2)] rfl (fun r => ⟨[.v (vs r.1)], [(0, .box (tc el01Source r.2))], false⟩) (r := r) ?_
  unfold spec_l01DrawPhrase at h
  refine srk tbok ⟨21, [(0, .ref 1000000 0)], [(1000000, .box (tc el01Source aS))]⟩ ?_
  refine sr ?_
  refine SRun.ck tbok 1 ⟨21, [(0, .ref 1000000 0), (4, .ref 1000000 0)], [(1000000, .box (tc el01Source aS))]⟩ ?_
  obtain ⟨x1, hx1, h⟩ := bind_some h
  refine SRun.estep (xe ents117 (spec_l01GoodPhrase_run aS _ hx1)) ?_
  refine ckn tbok 1 ⟨21, [(0, .ref 1000000 0), (3, vs x1.1)], [(1000000, .box (tc el01Source x1.2))]⟩ ?_
  refine swp_seq ?_
  refine sr ?_
  refine SRun.ck tbok 1 ⟨21, [(0, .ref 1000000 0), (3, vs x1.1), (6, .ref 1000000 0)], [(1000000, .box (tc el01Source x1.2))]⟩ ?_
  obtain ⟨x2, hx2, h⟩ := bind_some h
  refine SRun.estep (xe ents73 (spec_l01Next_run x1.2 20 _ hx2)) ?_
  refine SRun.nx ?_
  refine swp_seqE (r := r) h (fun j3 => ⟨21, [(3, vs x1.1)], [(1000000, .box (tc el01Source j3))]⟩) (fun v4 h => ?_) (fun j3 h => ?_)
  refine swp_blk (a := v4) ?_
  refine srk tbok ⟨21, [(0, .ref 1000000 0), (3, vs x1.1), (7, vi x2.1), (8, vb (x2.1 == 0))], [(1000000, .box (tc el01Source x2.2))]⟩ ?_
  refine swp_cd h (fun h => ?_) fun h => ?_
  refine sr ?_
  refine SRun.ck tbok 2 ⟨21, [(10, .ref 1000000 0), (11, vs x1.1)], [(1000000, .box (tc el01Source x2.2))]⟩ ?_
  obtain ⟨x5, hx5, h⟩ := bind_some h
  refine SRun.estep (xe ents118 (spec_l01Damage_run x2.2 x1.1 _ hx5)) ?_
  refine ckn tbok 1 ⟨21, [(2, vs x5.1)], [(1000000, .box (tc el01Source x5.2))]⟩ ?_
  refine swp_ret ?_
  obtain rfl := inj h
  exact q_br (q_rr (q_fr (fin_io (f1 fv) (y := .box (tc el01Source x5.2)) (by kernel_rfl) rfl (by kernel_rfl) (by kernel_rfl))))
  refine srk tbok ⟨21, [(0, .ref 1000000 0), (3, vs x1.1), (13, vb (x2.1 == 1))], [(1000000, .box (tc el01Source x2.2))]⟩ ?_
  refine swp_cd h (fun h => ?_) fun h => ?_
  refine sr ?_
  refine SRun.ck tbok 2 ⟨21, [(15, .own 15), (16, .ref 1000000 0)], [(15, oa 9 1 eS ([(ByteArray.mk #[]), (ByteArray.mk #[97, 32, 32, 98]), (ByteArray.mk #[32, 97]), (ByteArray.mk #[97, 32, 98, 32, 99, 32, 100, 32, 101, 32, 102, 32, 103, 32, 104]), (ByteArray.mk #[97, 32, 98, 32, 99, 32, 100, 32, 101, 32, 102, 32, 103, 32, 104, 32, 105])] : List ByteArray)), (1000000, .box (tc el01Source x2.2))]⟩ ?_
  obtain ⟨x6, hx6, h⟩ := bind_some h
  refine SRun.estep (xe ents73 (spec_l01Next_run x2.2 5 _ hx6)) ?_
  obtain ⟨x7, hx7, h⟩ := bind_some h
  refine SRun.ls (x_index_own (d := 15) (L := ([(ByteArray.mk #[]), (ByteArray.mk #[97, 32, 32, 98]), (ByteArray.mk #[32, 97]), (ByteArray.mk #[97, 32, 98, 32, 99, 32, 100, 32, 101, 32, 102, 32, 103, 32, 104]), (ByteArray.mk #[97, 32, 98, 32, 99, 32, 100, 32, 101, 32, 102, 32, 103, 32, 104, 32, 105])] : List ByteArray)) (f := eS) (ti := ti28) (tj := ti9) (e := 9) (e' := 9) (m := 1) (k := .i64) tbok rfl hx7) ?_
  refine SRun.ls (x_load_own (d := 15) (m := 1) (j := 0) (L := ([(ByteArray.mk #[]), (ByteArray.mk #[97, 32, 32, 98]), (ByteArray.mk #[32, 97]), (ByteArray.mk #[97, 32, 98, 32, 99, 32, 100, 32, 101, 32, 102, 32, 103, 32, 104]), (ByteArray.mk #[97, 32, 98, 32, 99, 32, 100, 32, 101, 32, 102, 32, 103, 32, 104, 32, 105])] : List ByteArray)) (f := eS) (ti := ti9) (e := 9) (v := vs x7) tbok rfl hx7) ?_
  refine ckn tbok 1 ⟨21, [(2, vs x7)], [(1000000, .box (tc el01Source x6.2))]⟩ ?_
  refine swp_ret ?_
  obtain rfl := inj h
  exact q_br (q_rr (q_fr (fin_io (f1 fv) (y := .box (tc el01Source x6.2)) (by kernel_rfl) rfl (by kernel_rfl) (by kernel_rfl))))
  refine swp_skip ?_
  obtain rfl := inj h
  exact q_bn (q_l (Le.sub0))
  refine srk tbok ⟨21, [(2, vs x1.1)], [(1000000, .box (tc el01Source j3))]⟩ ?_
  refine swp_ret ?_
  obtain rfl := inj h
  exact q_fr (fin_io (f1 fv) (y := .box (tc el01Source j3)) (by kernel_rfl) rfl (by kernel_rfl) (by kernel_rfl))
theorem ents72 : Ents Tryz.prog 72 := ents_of Tryz.func72 (by kernel_rfl) rfl
noncomputable def spec_l30List (aS : l01Source) (aSites : (List Site)) : Option ((List Candidate) × l01Source) :=
  (((forS (([(ByteArray.mk #[111, 110, 101]), (ByteArray.mk #[116, 119, 111]), (ByteArray.mk #[116, 104, 114, 101, 101]), (ByteArray.mk #[102, 111, 117, 114]), (ByteArray.mk #[102, 105, 118, 101])] : List ByteArray).length : Int) (fun (i3 : Int) (s3 : (List Candidate) × l01Source) => ((spec_l01Next s3.2 4).bind fun x7 => (bif (decide (x7.1 > 0)) then ((at' ([(ByteArray.mk #[111, 110, 101]), (ByteArray.mk #[116, 119, 111]), (ByteArray.mk #[116, 104, 114, 101, 101]), (ByteArray.mk #[102, 111, 117, 114]), (ByteArray.mk #[102, 105, 118, 101])] : List ByteArray) i3).bind fun x8 => ((spec_l01GoodPhrase x7.2).bind fun x9 => ((spec_l01Next x9.2 4).bind fun x10 => ((at' ([(ByteArray.mk #[111, 108, 100, 32, 97, 115, 104]), (ByteArray.mk #[97, 115, 104]), (ByteArray.mk #[110, 101, 119, 116, 111, 110]), x9.1] : List ByteArray) x10.1).bind fun x11 => ((spec_l01Next x10.2 31).bind fun x12 => ((spec_l01Next x12.2 31).bind fun x13 => (((bif (decide ((aSites.length : Int) > 0)) then ((spec_l01Next x13.2 3).bind fun x14 => some ((x14.1 == 0), x14.2)) else some (false, x13.2))).bind fun (j15 : Bool × l01Source) => (((bif j15.1 then ((spec_l01Next j15.2 (aSites.length : Int)).bind fun x19 => ((at' aSites x19.1).bind fun x20 => some ((Candidate.mk x8 x11 x20.At), x19.2))) else some ((Candidate.mk x8 x11 (Point.mk (w64 (x12.1 - 15)) (w64 (x13.1 - 15)))), j15.2))).bind fun (j17 : Candidate × l01Source) => ((app' s3.1 ([j17.1] : List Candidate)).bind fun x21 => some (x21, j17.2)))))))))) else some (s3.1, x7.2)))) (fun (s3 : (List Candidate) × l01Source) => (s3.1, s3.2)) 0 (([] : List Candidate), aS))).bind fun (j1 : (List Candidate) × l01Source) => ((spec_l01Next j1.2 24).bind fun x22 => (((bif (x22.1 == 0) then ((spec_l01Next x22.2 3).bind fun x25 => ((at' ([(ByteArray.mk #[111, 110, 101]), (ByteArray.mk #[]), (ByteArray.mk #[115, 105, 120])] : List ByteArray) x25.1).bind fun x26 => ((spec_l01DrawPhrase x25.2).bind fun x27 => ((app' j1.1 ([(Candidate.mk x26 x27.1 (Point.mk 0 0))] : List Candidate)).bind fun x29 => some (x29, x27.2))))) else (bif (x22.1 == 1) then (loop (fun (s30 : Int × (List Candidate) × l01Source) => ((((spec_l01Next s30.2.2 2).bind fun x32 => (bif (decide ((s30.2.1.length : Int) < (w64 (10 + x32.1)))) then some ((decide (s30.1 < 12)), x32.2) else some (false, x32.2)))).bind fun (j33 : Bool × l01Source) => (bif j33.1 then ((((sub' (ByteArray.mk #[97, 98, 99, 100, 101, 102, 103, 104, 105, 106, 107, 108]) s30.1 (w64 (s30.1 + 1))).bind fun x37 => ((cat' (ByteArray.mk #[122]) x37).bind fun x38 => ((app' s30.2.1 ([(Candidate.mk x38 (ByteArray.mk #[97, 115, 104]) (Point.mk 0 0))] : List Candidate)).bind fun x39 => some x39)))).bind fun (j35 : (List Candidate)) => some (.inl ((w64 (s30.1 + 1)), j35, j33.2))) else some (.inr (s30.2.1, j33.2))))) (0, j1.1, x22.2)) else some (j1.1, x22.2)))).bind fun (j23 : (List Candidate) × l01Source) => some (j23.1, j23.2))))
theorem spec_l30List_run (aS : l01Source) (aSites : (List Site)) (r : (List Candidate) × l01Source) (h : spec_l30List aS aSites = some r) : SCall Tryz.prog 124 [.o (.box [vl (eI .u8) aS.code, vi aS.at', vi aS.seed]), .v (vl eSite aSites)] ⟨[.own 87 4 r.1.length (r.1.map eCandidate)], [(0, .box (tc el01Source r.2))], false⟩ := by
  refine scall_in Tryz.func124 rfl [(.tmp 4)] rfl (fun r => ⟨[.own 87 4 r.1.length (r.1.map eCandidate)], [(0, .box (tc el01Source r.2))], false⟩) (r := r) ?_
  unfold spec_l30List at h
  refine srk tbok ⟨100, [(0, .ref 1000000 0), (1, vl eSite aSites)], [(1000000, .box (tc el01Source aS))]⟩ ?_
  refine srk tbok ⟨100, [(0, .ref 1000000 0), (1, vl eSite aSites), (5, .own 10)], [(10, oa 87 4 eCandidate ([] : List Candidate)), (1000000, .box (tc el01Source aS))]⟩ ?_
  refine srk tbok ⟨100, [(0, .ref 1000000 0), (1, vl eSite aSites), (5, .own 10), (6, .own 11)], [(10, oa 87 4 eCandidate ([] : List Candidate)), (11, oa 9 1 eS ([(ByteArray.mk #[111, 110, 101]), (ByteArray.mk #[116, 119, 111]), (ByteArray.mk #[116, 104, 114, 101, 101]), (ByteArray.mk #[102, 111, 117, 114]), (ByteArray.mk #[102, 105, 118, 101])] : List ByteArray)), (1000000, .box (tc el01Source aS))]⟩ ?_
  refine swp_seq ?_
  refine srk tbok ⟨100, [(0, .ref 1000000 0), (1, vl eSite aSites), (5, .own 10), (6, .own 11), (7, vi 0)], [(10, oa 87 4 eCandidate ([] : List Candidate)), (11, oa 9 1 eS ([(ByteArray.mk #[111, 110, 101]), (ByteArray.mk #[116, 119, 111]), (ByteArray.mk #[116, 104, 114, 101, 101]), (ByteArray.mk #[102, 111, 117, 114]), (ByteArray.mk #[102, 105, 118, 101])] : List ByteArray)), (1000000, .box (tc el01Source aS))]⟩ ?_
  refine swp_seqJ h (fun j1 => ⟨100, [(0, .ref 1000000 0), (5, .own 5)], [(5, oa 87 4 eCandidate j1.1), (1000000, .box (tc el01Source j1.2))]⟩) (fun v2 h => ?_) (fun j1 h => ?_)
  refine swp_blk (a := v2) ?_
  refine swp_lpL (r := v2) (s := (0, ([] : List Candidate), aS)) _ (fun s3 => ⟨100, [(0, .ref 1000000 0), (1, vl eSite aSites), (5, .own 5), (6, .own 6), (7, vi s3.1)], [(5, oa 87 4 eCandidate s3.2.1), (6, oa 9 1 eS ([(ByteArray.mk #[111, 110, 101]), (ByteArray.mk #[116, 119, 111]), (ByteArray.mk #[116, 104, 114, 101, 101]), (ByteArray.mk #[102, 111, 117, 114]), (ByteArray.mk #[102, 105, 118, 101])] : List ByteArray)), (1000000, .box (tc el01Source s3.2.2))]⟩) _ (Le.rr [10, 11, 1000000] [(10, 5), (11, 6)]) h (fun s3 v4 h => ?_)
  refine swp_seq ?_
  refine srk tbok ⟨100, [(0, .ref 1000000 0), (1, vl eSite aSites), (5, .own 5), (6, .own 6), (7, vi s3.1), (15, vb (decide (s3.1 < (([(ByteArray.mk #[111, 110, 101]), (ByteArray.mk #[116, 119, 111]), (ByteArray.mk #[116, 104, 114, 101, 101]), (ByteArray.mk #[102, 111, 117, 114]), (ByteArray.mk #[102, 105, 118, 101])] : List ByteArray).length : Int))))], [(5, oa 87 4 eCandidate s3.2.1), (6, oa 9 1 eS ([(ByteArray.mk #[111, 110, 101]), (ByteArray.mk #[116, 119, 111]), (ByteArray.mk #[116, 104, 114, 101, 101]), (ByteArray.mk #[102, 111, 117, 114]), (ByteArray.mk #[102, 105, 118, 101])] : List ByteArray)), (1000000, .box (tc el01Source s3.2.2))]⟩ ?_
  refine swp_cd h (fun h => ?_) fun h => ?_
  refine swp_skip ?_
  refine nx_n ?_
  refine swp_seq ?_
  refine swp_seqJ h (fun j5 => ⟨100, [(0, .ref 1000000 0), (1, vl eSite aSites), (5, .own 5), (6, .own 6), (7, vi s3.1)], [(5, oa 87 4 eCandidate j5.1), (6, oa 9 1 eS ([(ByteArray.mk #[111, 110, 101]), (ByteArray.mk #[116, 119, 111]), (ByteArray.mk #[116, 104, 114, 101, 101]), (ByteArray.mk #[102, 111, 117, 114]), (ByteArray.mk #[102, 105, 118, 101])] : List ByteArray)), (1000000, .box (tc el01Source j5.2))]⟩) (fun v6 h => ?_) (fun j5 h => ?_)
  refine swp_blk (a := v6) ?_
  refine sr ?_
  refine SRun.ck tbok 1 ⟨100, [(0, .ref 1000000 0), (1, vl eSite aSites), (5, .own 5), (6, .own 6), (7, vi s3.1), (18, .ref 1000000 0)], [(5, oa 87 4 eCandidate s3.2.1), (6, oa 9 1 eS ([(ByteArray.mk #[111, 110, 101]), (ByteArray.mk #[116, 119, 111]), (ByteArray.mk #[116, 104, 114, 101, 101]), (ByteArray.mk #[102, 111, 117, 114]), (ByteArray.mk #[102, 105, 118, 101])] : List ByteArray)), (1000000, .box (tc el01Source s3.2.2))]⟩ ?_
  obtain ⟨x7, hx7, h⟩ := bind_some h
  refine SRun.estep (xe ents73 (spec_l01Next_run s3.2.2 4 _ hx7)) ?_
  refine ckn tbok 1 ⟨100, [(0, .ref 1000000 0), (1, vl eSite aSites), (5, .own 5), (6, .own 6), (7, vi s3.1), (20, vb (decide (x7.1 > 0)))], [(5, oa 87 4 eCandidate s3.2.1), (6, oa 9 1 eS ([(ByteArray.mk #[111, 110, 101]), (ByteArray.mk #[116, 119, 111]), (ByteArray.mk #[116, 104, 114, 101, 101]), (ByteArray.mk #[102, 111, 117, 114]), (ByteArray.mk #[102, 105, 118, 101])] : List ByteArray)), (1000000, .box (tc el01Source x7.2))]⟩ ?_
  refine swp_cd h (fun h => ?_) fun h => ?_
  refine swp_seq ?_
  refine swp_drD [1000000] mixed ?_
  refine DGo.ck tbok false 2 ⟨100, [(0, .ref 1000000 0), (1, vl eSite aSites), (5, .own 5), (6, .own 6), (7, vi s3.1), (21, .own 6), (22, vi s3.1)], [(5, oa 87 4 eCandidate s3.2.1), (6, oa 9 1 eS ([(ByteArray.mk #[111, 110, 101]), (ByteArray.mk #[116, 119, 111]), (ByteArray.mk #[116, 104, 114, 101, 101]), (ByteArray.mk #[102, 111, 117, 114]), (ByteArray.mk #[102, 105, 118, 101])] : List ByteArray)), (1000000, .box (tc el01Source x7.2))]⟩ ?_
  obtain ⟨x8, hx8, h⟩ := bind_some h
  refine DGo.step (x_index_own (d := 6) (L := ([(ByteArray.mk #[111, 110, 101]), (ByteArray.mk #[116, 119, 111]), (ByteArray.mk #[116, 104, 114, 101, 101]), (ByteArray.mk #[102, 111, 117, 114]), (ByteArray.mk #[102, 105, 118, 101])] : List ByteArray)) (f := eS) (ti := ti28) (tj := ti9) (e := 9) (e' := 9) (m := 1) (k := .i64) tbok rfl hx8) ?_
  refine DGo.step (x_load_own (d := 6) (m := 1) (j := 0) (L := ([(ByteArray.mk #[111, 110, 101]), (ByteArray.mk #[116, 119, 111]), (ByteArray.mk #[116, 104, 114, 101, 101]), (ByteArray.mk #[102, 111, 117, 114]), (ByteArray.mk #[102, 105, 118, 101])] : List ByteArray)) (f := eS) (ti := ti9) (e := 9) (v := vs x8) tbok rfl hx8) ?_
  refine DGo.ck tbok false 1 ⟨100, [(0, .ref 1000000 0), (1, vl eSite aSites), (5, .own 5), (6, .own 6), (7, vi s3.1), (24, vs x8), (25, .ref 1000000 0)], [(5, oa 87 4 eCandidate s3.2.1), (6, oa 9 1 eS ([(ByteArray.mk #[111, 110, 101]), (ByteArray.mk #[116, 119, 111]), (ByteArray.mk #[116, 104, 114, 101, 101]), (ByteArray.mk #[102, 111, 117, 114]), (ByteArray.mk #[102, 105, 118, 101])] : List ByteArray)), (1000000, .box (tc el01Source x7.2))]⟩ ?_
  obtain ⟨x9, hx9, h⟩ := bind_some h
  refine DGo.write [] (xw ents117 (spec_l01GoodPhrase_run x7.2 _ hx9)) ?_
  refine DGo.ck tbok false 2 ⟨100, [(0, .ref 1000000 0), (1, vl eSite aSites), (5, .own 5), (6, .own 6), (7, vi s3.1), (24, vs x8), (27, .own 27), (28, .ref 1000000 0)], [(5, oa 87 4 eCandidate s3.2.1), (6, oa 9 1 eS ([(ByteArray.mk #[111, 110, 101]), (ByteArray.mk #[116, 119, 111]), (ByteArray.mk #[116, 104, 114, 101, 101]), (ByteArray.mk #[102, 111, 117, 114]), (ByteArray.mk #[102, 105, 118, 101])] : List ByteArray)), (27, oa 9 1 eS ([(ByteArray.mk #[111, 108, 100, 32, 97, 115, 104]), (ByteArray.mk #[97, 115, 104]), (ByteArray.mk #[110, 101, 119, 116, 111, 110]), x9.1] : List ByteArray)), (1000000, .box (tc el01Source x9.2))]⟩ ?_
  obtain ⟨x10, hx10, h⟩ := bind_some h
  refine DGo.write [] (xw ents73 (spec_l01Next_run x9.2 4 _ hx10)) ?_
  obtain ⟨x11, hx11, h⟩ := bind_some h
  refine DGo.stepW false [27] (x_index_own (d := 27) (L := ([(ByteArray.mk #[111, 108, 100, 32, 97, 115, 104]), (ByteArray.mk #[97, 115, 104]), (ByteArray.mk #[110, 101, 119, 116, 111, 110]), x9.1] : List ByteArray)) (f := eS) (ti := ti28) (tj := ti9) (e := 9) (e' := 9) (m := 1) (k := .i64) tbok rfl hx11) ?_
  refine DGo.stepW false [27] (x_load_own (d := 27) (m := 1) (j := 0) (L := ([(ByteArray.mk #[111, 108, 100, 32, 97, 115, 104]), (ByteArray.mk #[97, 115, 104]), (ByteArray.mk #[110, 101, 119, 116, 111, 110]), x9.1] : List ByteArray)) (f := eS) (ti := ti9) (e := 9) (v := vs x11) tbok rfl hx11) ?_
  refine DGo.ck tbok false 1 ⟨100, [(0, .ref 1000000 0), (1, vl eSite aSites), (5, .own 5), (6, .own 6), (7, vi s3.1), (24, vs x8), (31, vs x11), (32, .ref 1000000 0)], [(5, oa 87 4 eCandidate s3.2.1), (6, oa 9 1 eS ([(ByteArray.mk #[111, 110, 101]), (ByteArray.mk #[116, 119, 111]), (ByteArray.mk #[116, 104, 114, 101, 101]), (ByteArray.mk #[102, 111, 117, 114]), (ByteArray.mk #[102, 105, 118, 101])] : List ByteArray)), (1000000, .box (tc el01Source x10.2))]⟩ ?_
  obtain ⟨x12, hx12, h⟩ := bind_some h
  refine DGo.write [] (xw ents73 (spec_l01Next_run x10.2 31 _ hx12)) ?_
  refine DGo.ck tbok false 2 ⟨100, [(0, .ref 1000000 0), (1, vl eSite aSites), (5, .own 5), (6, .own 6), (7, vi s3.1), (24, vs x8), (31, vs x11), (34, vi (w64 (x12.1 - 15))), (35, .ref 1000000 0)], [(5, oa 87 4 eCandidate s3.2.1), (6, oa 9 1 eS ([(ByteArray.mk #[111, 110, 101]), (ByteArray.mk #[116, 119, 111]), (ByteArray.mk #[116, 104, 114, 101, 101]), (ByteArray.mk #[102, 111, 117, 114]), (ByteArray.mk #[102, 105, 118, 101])] : List ByteArray)), (1000000, .box (tc el01Source x12.2))]⟩ ?_
  obtain ⟨x13, hx13, h⟩ := bind_some h
  refine DGo.write [] (xw ents73 (spec_l01Next_run x12.2 31 _ hx13)) ?_
  refine DGo.ck tbok false 1 ⟨100, [(0, .ref 1000000 0), (1, vl eSite aSites), (5, .own 5), (6, .own 6), (7, vi s3.1), (24, vs x8), (31, vs x11), (34, vi (w64 (x12.1 - 15))), (37, vi (w64 (x13.1 - 15)))], [(5, oa 87 4 eCandidate s3.2.1), (6, oa 9 1 eS ([(ByteArray.mk #[111, 110, 101]), (ByteArray.mk #[116, 119, 111]), (ByteArray.mk #[116, 104, 114, 101, 101]), (ByteArray.mk #[102, 111, 117, 114]), (ByteArray.mk #[102, 105, 118, 101])] : List ByteArray)), (1000000, .box (tc el01Source x13.2))]⟩ ?_
  refine DGo.step (x_lstep_build (v := .agg [vi (w64 (x12.1 - 15)), vi (w64 (x13.1 - 15))]) tbok rfl) ?_
  refine DGo.step (x_lstep_build (v := .agg [vs x8, vs x11, vi (w64 (x12.1 - 15)), vi (w64 (x13.1 - 15))]) tbok rfl) ?_
  refine DGo.ck tbok false 1 ⟨100, [(0, .ref 1000000 0), (1, vl eSite aSites), (5, .own 5), (6, .own 6), (7, vi s3.1), (8, .ref 8 0), (39, .agg [vs x8, vs x11, vi (w64 (x12.1 - 15)), vi (w64 (x13.1 - 15))])], [(5, oa 87 4 eCandidate s3.2.1), (6, oa 9 1 eS ([(ByteArray.mk #[111, 110, 101]), (ByteArray.mk #[116, 119, 111]), (ByteArray.mk #[116, 104, 114, 101, 101]), (ByteArray.mk #[102, 111, 117, 114]), (ByteArray.mk #[102, 105, 118, 101])] : List ByteArray)), (8, .box [vs (ByteArray.mk #[]), vs (ByteArray.mk #[]), vi 0, vi 0]), (1000000, .box (tc el01Source x13.2))]⟩ ?_
  refine DGo.seq (by kernel_rfl) (by kernel_rfl) ?_
  refine ckn tbok 1 ⟨100, [(0, .ref 1000000 0), (1, vl eSite aSites), (5, .own 5), (6, .own 6), (7, vi s3.1), (8, .ref 8 0)], [(5, oa 87 4 eCandidate s3.2.1), (6, oa 9 1 eS ([(ByteArray.mk #[111, 110, 101]), (ByteArray.mk #[116, 119, 111]), (ByteArray.mk #[116, 104, 114, 101, 101]), (ByteArray.mk #[102, 111, 117, 114]), (ByteArray.mk #[102, 105, 118, 101])] : List ByteArray)), (8, .box [vs x8, vs x11, vi (w64 (x12.1 - 15)), vi (w64 (x13.1 - 15))]), (1000000, .box (tc el01Source x13.2))]⟩ ?_
  refine swp_seq ?_
  refine swp_seq ?_
  refine swp_regJ h (fun j15 => ⟨100, [(0, .ref 1000000 0), (1, vl eSite aSites), (5, .own 5), (6, .own 6), (7, vi s3.1), (8, .ref 8 0), (47, vb j15.1)], [(5, oa 87 4 eCandidate s3.2.1), (6, oa 9 1 eS ([(ByteArray.mk #[111, 110, 101]), (ByteArray.mk #[116, 119, 111]), (ByteArray.mk #[116, 104, 114, 101, 101]), (ByteArray.mk #[102, 111, 117, 114]), (ByteArray.mk #[102, 105, 118, 101])] : List ByteArray)), (8, .box [vs x8, vs x11, vi (w64 (x12.1 - 15)), vi (w64 (x13.1 - 15))]), (1000000, .box (tc el01Source j15.2))]⟩) (fun v16 h => ?_) (fun j15 h => ?_)
  refine SRun.ck tbok 4 ⟨100, [(0, .ref 1000000 0), (1, vl eSite aSites), (5, .own 5), (6, .own 6), (7, vi s3.1), (8, .ref 8 0), (43, vb (decide ((aSites.length : Int) > 0)))], [(5, oa 87 4 eCandidate s3.2.1), (6, oa 9 1 eS ([(ByteArray.mk #[111, 110, 101]), (ByteArray.mk #[116, 119, 111]), (ByteArray.mk #[116, 104, 114, 101, 101]), (ByteArray.mk #[102, 111, 117, 114]), (ByteArray.mk #[102, 105, 118, 101])] : List ByteArray)), (8, .box [vs x8, vs x11, vi (w64 (x12.1 - 15)), vi (w64 (x13.1 - 15))]), (1000000, .box (tc el01Source x13.2))]⟩ ?_
  refine SRun.cu [(43, fun b => b)] h (fun h => ?_) fun h => ?_
  refine SRun.ck tbok 1 ⟨100, [(0, .ref 1000000 0), (1, vl eSite aSites), (5, .own 5), (6, .own 6), (7, vi s3.1), (8, .ref 8 0), (43, vb true), (44, .ref 1000000 0)], [(5, oa 87 4 eCandidate s3.2.1), (6, oa 9 1 eS ([(ByteArray.mk #[111, 110, 101]), (ByteArray.mk #[116, 119, 111]), (ByteArray.mk #[116, 104, 114, 101, 101]), (ByteArray.mk #[102, 111, 117, 114]), (ByteArray.mk #[102, 105, 118, 101])] : List ByteArray)), (8, .box [vs x8, vs x11, vi (w64 (x12.1 - 15)), vi (w64 (x13.1 - 15))]), (1000000, .box (tc el01Source x13.2))]⟩ ?_
  obtain ⟨x14, hx14, h⟩ := bind_some h
  refine SRun.estep (xe ents73 (spec_l01Next_run x13.2 3 _ hx14)) ?_
  refine SRun.ck tbok 2 ⟨100, [(0, .ref 1000000 0), (1, vl eSite aSites), (5, .own 5), (6, .own 6), (7, vi s3.1), (8, .ref 8 0), (47, vb (x14.1 == 0))], [(5, oa 87 4 eCandidate s3.2.1), (6, oa 9 1 eS ([(ByteArray.mk #[111, 110, 101]), (ByteArray.mk #[116, 119, 111]), (ByteArray.mk #[116, 104, 114, 101, 101]), (ByteArray.mk #[102, 111, 117, 114]), (ByteArray.mk #[102, 105, 118, 101])] : List ByteArray)), (8, .box [vs x8, vs x11, vi (w64 (x12.1 - 15)), vi (w64 (x13.1 - 15))]), (1000000, .box (tc el01Source x14.2))]⟩ ?_
  refine SRun.nil ?_
  obtain rfl := inj h
  exact Le.sub0
  refine SRun.ck tbok 4 ⟨100, [(0, .ref 1000000 0), (1, vl eSite aSites), (5, .own 5), (6, .own 6), (7, vi s3.1), (8, .ref 8 0), (47, vb false)], [(5, oa 87 4 eCandidate s3.2.1), (6, oa 9 1 eS ([(ByteArray.mk #[111, 110, 101]), (ByteArray.mk #[116, 119, 111]), (ByteArray.mk #[116, 104, 114, 101, 101]), (ByteArray.mk #[102, 111, 117, 114]), (ByteArray.mk #[102, 105, 118, 101])] : List ByteArray)), (8, .box [vs x8, vs x11, vi (w64 (x12.1 - 15)), vi (w64 (x13.1 - 15))]), (1000000, .box (tc el01Source x13.2))]⟩ ?_
  refine SRun.nil ?_
  obtain rfl := inj h
  exact Le.sub0
  refine swp_seqJ h (fun j17 => ⟨100, [(0, .ref 1000000 0), (1, vl eSite aSites), (5, .own 5), (6, .own 6), (7, vi s3.1), (8, .ref 8 0)], [(5, oa 87 4 eCandidate s3.2.1), (6, oa 9 1 eS ([(ByteArray.mk #[111, 110, 101]), (ByteArray.mk #[116, 119, 111]), (ByteArray.mk #[116, 104, 114, 101, 101]), (ByteArray.mk #[102, 111, 117, 114]), (ByteArray.mk #[102, 105, 118, 101])] : List ByteArray)), (8, .box (tc eCandidate j17.1)), (1000000, .box (tc el01Source j17.2))]⟩) (fun v18 h => ?_) (fun j17 h => ?_)
  refine swp_cd h (fun h => ?_) fun h => ?_
  refine swp_reg ?_
  refine SRun.ck tbok 4 ⟨100, [(0, .ref 1000000 0), (1, vl eSite aSites), (5, .own 5), (6, .own 6), (7, vi s3.1), (8, .ref 8 0), (48, vl eSite aSites), (49, .ref 1000000 0), (51, vi (aSites.length : Int))], [(5, oa 87 4 eCandidate s3.2.1), (6, oa 9 1 eS ([(ByteArray.mk #[111, 110, 101]), (ByteArray.mk #[116, 119, 111]), (ByteArray.mk #[116, 104, 114, 101, 101]), (ByteArray.mk #[102, 111, 117, 114]), (ByteArray.mk #[102, 105, 118, 101])] : List ByteArray)), (8, .box [vs x8, vs x11, vi (w64 (x12.1 - 15)), vi (w64 (x13.1 - 15))]), (1000000, .box (tc el01Source j15.2))]⟩ ?_
  obtain ⟨x19, hx19, h⟩ := bind_some h
  refine SRun.estep (xe ents73 (spec_l01Next_run j15.2 (aSites.length : Int) _ hx19)) ?_
  obtain ⟨x20, hx20, h⟩ := bind_some h
  refine SRun.ls (x_index (L := aSites) (f := eSite) (ti := ti33) (tj := ti92) (e := 92) (k := .i64) tbok rfl hx20) ?_
  refine SRun.ck tbok 4 ⟨100, [(0, .ref 1000000 0), (1, vl eSite aSites), (5, .own 5), (6, .own 6), (7, vi s3.1), (8, .ref 8 0)], [(5, oa 87 4 eCandidate s3.2.1), (6, oa 9 1 eS ([(ByteArray.mk #[111, 110, 101]), (ByteArray.mk #[116, 119, 111]), (ByteArray.mk #[116, 104, 114, 101, 101]), (ByteArray.mk #[102, 111, 117, 114]), (ByteArray.mk #[102, 105, 118, 101])] : List ByteArray)), (8, .box [vs x8, vs x11, vi x20.At.X, vi x20.At.Y]), (1000000, .box (tc el01Source x19.2))]⟩ ?_
  refine SRun.nil ?_
  obtain rfl := inj h
  exact q_j (Le.sub0)
  refine swp_skip ?_
  obtain rfl := inj h
  exact q_j (Le.sub0)
  refine swp_reg ?_
  refine SRun.ck tbok 3 ⟨100, [(0, .ref 1000000 0), (1, vl eSite aSites), (6, .own 6), (7, vi s3.1), (57, .own 5), (59, .own 59)], [(5, oa 87 4 eCandidate s3.2.1), (6, oa 9 1 eS ([(ByteArray.mk #[111, 110, 101]), (ByteArray.mk #[116, 119, 111]), (ByteArray.mk #[116, 104, 114, 101, 101]), (ByteArray.mk #[102, 111, 117, 114]), (ByteArray.mk #[102, 105, 118, 101])] : List ByteArray)), (59, oa 87 4 eCandidate ([j17.1] : List Candidate)), (1000000, .box (tc el01Source j17.2))]⟩ ?_
  obtain ⟨x21, hx21, h⟩ := bind_some h
  refine SRun.estep (x_append (f := eCandidate) (t := 31) (ti := ti31) (tj := ti87) (zs := [.string (ByteArray.mk #[]), .string (ByteArray.mk #[]), .int .i64 0, .int .i64 0]) (e := 87) (m := 4) (d := 5) (xv := .own 59) hx21 tbok rfl rfl rfl rfl (x_src_o (e := 87))) ?_
  refine SRun.ck tbok 1 ⟨100, [(0, .ref 1000000 0), (1, vl eSite aSites), (5, .own 60), (6, .own 6), (7, vi s3.1)], [(6, oa 9 1 eS ([(ByteArray.mk #[111, 110, 101]), (ByteArray.mk #[116, 119, 111]), (ByteArray.mk #[116, 104, 114, 101, 101]), (ByteArray.mk #[102, 111, 117, 114]), (ByteArray.mk #[102, 105, 118, 101])] : List ByteArray)), (60, oa 87 4 eCandidate x21), (1000000, .box (tc el01Source j17.2))]⟩ ?_
  refine SRun.nil ?_
  obtain rfl := inj h
  exact q_bn (q_j (Le.rr [6, 60, 1000000] [(60, 5)]))
  refine swp_skip ?_
  obtain rfl := inj h
  exact q_bn (q_j (Le.sub0))
  refine swp_reg ?_
  refine SRun.ck tbok 3 ⟨100, [(0, .ref 1000000 0), (1, vl eSite aSites), (5, .own 5), (6, .own 6), (7, vi (w64 (s3.1 + 1)))], [(5, oa 87 4 eCandidate j5.1), (6, oa 9 1 eS ([(ByteArray.mk #[111, 110, 101]), (ByteArray.mk #[116, 119, 111]), (ByteArray.mk #[116, 104, 114, 101, 101]), (ByteArray.mk #[102, 111, 117, 114]), (ByteArray.mk #[102, 105, 118, 101])] : List ByteArray)), (1000000, .box (tc el01Source j5.2))]⟩ ?_
  refine SRun.nil ?_
  obtain rfl := inj h
  exact q_l (Le.sub0)
  refine swp_exit ?_
  obtain rfl := inj h
  exact nx_e (q_re (q_bh (q_j (Le.sub0))))
  refine swp_seq ?_
  refine sr ?_
  refine SRun.ck tbok 1 ⟨100, [(0, .ref 1000000 0), (5, .own 5), (61, .ref 1000000 0)], [(5, oa 87 4 eCandidate j1.1), (1000000, .box (tc el01Source j1.2))]⟩ ?_
  obtain ⟨x22, hx22, h⟩ := bind_some h
  refine SRun.estep (xe ents73 (spec_l01Next_run j1.2 24 _ hx22)) ?_
  refine SRun.nx ?_
  refine swp_seqJ h (fun j23 => ⟨100, [(5, .own 5)], [(5, oa 87 4 eCandidate j23.1), (1000000, .box (tc el01Source j23.2))]⟩) (fun v24 h => ?_) (fun j23 h => ?_)
  refine swp_blk (a := v24) ?_
  refine srk tbok ⟨100, [(0, .ref 1000000 0), (5, .own 5), (62, vi x22.1), (63, vb (x22.1 == 0))], [(5, oa 87 4 eCandidate j1.1), (1000000, .box (tc el01Source x22.2))]⟩ ?_
  refine swp_cd h (fun h => ?_) fun h => ?_
  refine swp_drD [1000000] mixed ?_
  refine DGo.ck tbok false 3 ⟨100, [(0, .ref 1000000 0), (65, .own 5), (66, .own 66), (67, .ref 1000000 0)], [(5, oa 87 4 eCandidate j1.1), (66, oa 9 1 eS ([(ByteArray.mk #[111, 110, 101]), (ByteArray.mk #[]), (ByteArray.mk #[115, 105, 120])] : List ByteArray)), (1000000, .box (tc el01Source x22.2))]⟩ ?_
  obtain ⟨x25, hx25, h⟩ := bind_some h
  refine DGo.write [] (xw ents73 (spec_l01Next_run x22.2 3 _ hx25)) ?_
  obtain ⟨x26, hx26, h⟩ := bind_some h
  refine DGo.stepW false [66] (x_index_own (d := 66) (L := ([(ByteArray.mk #[111, 110, 101]), (ByteArray.mk #[]), (ByteArray.mk #[115, 105, 120])] : List ByteArray)) (f := eS) (ti := ti28) (tj := ti9) (e := 9) (e' := 9) (m := 1) (k := .i64) tbok rfl hx26) ?_
  refine DGo.stepW false [66] (x_load_own (d := 66) (m := 1) (j := 0) (L := ([(ByteArray.mk #[111, 110, 101]), (ByteArray.mk #[]), (ByteArray.mk #[115, 105, 120])] : List ByteArray)) (f := eS) (ti := ti9) (e := 9) (v := vs x26) tbok rfl hx26) ?_
  refine DGo.ck tbok false 1 ⟨100, [(65, .own 5), (70, vs x26), (71, .ref 1000000 0)], [(5, oa 87 4 eCandidate j1.1), (1000000, .box (tc el01Source x25.2))]⟩ ?_
  obtain ⟨x27, hx27, h⟩ := bind_some h
  refine DGo.write [] (xw ents72 (spec_l01DrawPhrase_run x25.2 _ hx27)) ?_
  refine DGo.step (x_lstep_build (v := .agg [vs x26, vs x27.1, vi 0, vi 0]) tbok rfl) ?_
  refine DGo.ck tbok false 1 ⟨100, [(65, .own 5), (74, .own 74)], [(5, oa 87 4 eCandidate j1.1), (74, oa 87 4 eCandidate ([(Candidate.mk x26 x27.1 (Point.mk 0 0))] : List Candidate)), (1000000, .box (tc el01Source x27.2))]⟩ ?_
  refine DGo.seq (by kernel_rfl) (by kernel_rfl) ?_
  obtain ⟨x29, hx29, h⟩ := bind_some h
  refine SRun.estep (x_append (f := eCandidate) (t := 31) (ti := ti31) (tj := ti87) (zs := [.string (ByteArray.mk #[]), .string (ByteArray.mk #[]), .int .i64 0, .int .i64 0]) (e := 87) (m := 4) (d := 5) (xv := .own 74) hx29 tbok rfl rfl rfl rfl (x_src_o (e := 87))) ?_
  refine SRun.ck tbok 1 ⟨100, [(5, .own 75)], [(75, oa 87 4 eCandidate x29), (1000000, .box (tc el01Source x27.2))]⟩ ?_
  refine SRun.nil ?_
  obtain rfl := inj h
  exact q_bn (q_j (Le.rr [75, 1000000] [(75, 5)]))
  refine srk tbok ⟨100, [(0, .ref 1000000 0), (5, .own 5), (76, vb (x22.1 == 1))], [(5, oa 87 4 eCandidate j1.1), (1000000, .box (tc el01Source x22.2))]⟩ ?_
  refine swp_cd h (fun h => ?_) fun h => ?_
  refine srk tbok ⟨100, [(0, .ref 1000000 0), (5, .own 5), (9, vi 0)], [(5, oa 87 4 eCandidate j1.1), (1000000, .box (tc el01Source x22.2))]⟩ ?_
  refine swp_blk (a := v24) ?_
  refine swp_lpL (r := v24) (s := (0, j1.1, x22.2)) _ (fun s30 => ⟨100, [(0, .ref 1000000 0), (5, .own 5), (9, vi s30.1)], [(5, oa 87 4 eCandidate s30.2.1), (1000000, .box (tc el01Source s30.2.2))]⟩) _ (Le.sub0) h (fun s30 v31 h => ?_)
  refine swp_seq ?_
  refine swp_seq ?_
  refine swp_regJ h (fun j33 => ⟨100, [(0, .ref 1000000 0), (5, .own 5), (9, vi s30.1), (87, vb j33.1)], [(5, oa 87 4 eCandidate s30.2.1), (1000000, .box (tc el01Source j33.2))]⟩) (fun v34 h => ?_) (fun j33 h => ?_)
  refine SRun.ck tbok 3 ⟨100, [(0, .ref 1000000 0), (5, .own 5), (9, vi s30.1), (79, vi (s30.2.1.length : Int)), (80, .ref 1000000 0)], [(5, oa 87 4 eCandidate s30.2.1), (1000000, .box (tc el01Source s30.2.2))]⟩ ?_
  obtain ⟨x32, hx32, h⟩ := bind_some h
  refine SRun.estep (xe ents73 (spec_l01Next_run s30.2.2 2 _ hx32)) ?_
  refine SRun.ck tbok 3 ⟨100, [(0, .ref 1000000 0), (5, .own 5), (9, vi s30.1), (84, vb (decide ((s30.2.1.length : Int) < (w64 (10 + x32.1)))))], [(5, oa 87 4 eCandidate s30.2.1), (1000000, .box (tc el01Source x32.2))]⟩ ?_
  refine SRun.cu [(84, fun b => b)] h (fun h => ?_) fun h => ?_
  refine SRun.ck tbok 3 ⟨100, [(0, .ref 1000000 0), (5, .own 5), (9, vi s30.1), (87, vb (decide (s30.1 < 12)))], [(5, oa 87 4 eCandidate s30.2.1), (1000000, .box (tc el01Source x32.2))]⟩ ?_
  refine SRun.nil ?_
  obtain rfl := inj h
  exact Le.sub0
  refine SRun.ck tbok 3 ⟨100, [(0, .ref 1000000 0), (5, .own 5), (9, vi s30.1), (87, vb false)], [(5, oa 87 4 eCandidate s30.2.1), (1000000, .box (tc el01Source x32.2))]⟩ ?_
  refine SRun.nil ?_
  obtain rfl := inj h
  exact Le.sub0
  refine swp_cd h (fun h => ?_) fun h => ?_
  refine swp_skip ?_
  refine nx_n ?_
  refine swp_seq ?_
  refine swp_seqJ h (fun j35 => ⟨100, [(0, .ref 1000000 0), (5, .own 5), (9, vi s30.1)], [(5, oa 87 4 eCandidate j35), (1000000, .box (tc el01Source j33.2))]⟩) (fun v36 h => ?_) (fun j35 h => ?_)
  refine swp_blk (a := v36) ?_
  refine swp_reg ?_
  refine SRun.ck tbok 4 ⟨100, [(0, .ref 1000000 0), (9, vi s30.1), (90, .own 5), (91, vi s30.1), (93, vi (w64 (s30.1 + 1)))], [(5, oa 87 4 eCandidate s30.2.1), (1000000, .box (tc el01Source j33.2))]⟩ ?_
  obtain ⟨x37, hx37, h⟩ := bind_some h
  refine SRun.ls (x_sub (ti := ti9) hx37 tbok rfl) ?_
  obtain ⟨x38, hx38, h⟩ := bind_some h
  refine SRun.ls (x_cat hx38 rfl) ?_
  refine SRun.ls (x_lstep_build (v := .agg [vs x38, vs (ByteArray.mk #[97, 115, 104]), vi 0, vi 0]) tbok rfl) ?_
  refine SRun.ck tbok 1 ⟨100, [(0, .ref 1000000 0), (9, vi s30.1), (90, .own 5), (97, .own 97)], [(5, oa 87 4 eCandidate s30.2.1), (97, oa 87 4 eCandidate ([(Candidate.mk x38 (ByteArray.mk #[97, 115, 104]) (Point.mk 0 0))] : List Candidate)), (1000000, .box (tc el01Source j33.2))]⟩ ?_
  obtain ⟨x39, hx39, h⟩ := bind_some h
  refine SRun.estep (x_append (f := eCandidate) (t := 31) (ti := ti31) (tj := ti87) (zs := [.string (ByteArray.mk #[]), .string (ByteArray.mk #[]), .int .i64 0, .int .i64 0]) (e := 87) (m := 4) (d := 5) (xv := .own 97) hx39 tbok rfl rfl rfl rfl (x_src_o (e := 87))) ?_
  refine SRun.ck tbok 1 ⟨100, [(0, .ref 1000000 0), (5, .own 98), (9, vi s30.1)], [(98, oa 87 4 eCandidate x39), (1000000, .box (tc el01Source j33.2))]⟩ ?_
  refine SRun.nil ?_
  obtain rfl := inj h
  exact q_bn (q_j (Le.rr [98, 1000000] [(98, 5)]))
  refine swp_reg ?_
  refine SRun.ck tbok 3 ⟨100, [(0, .ref 1000000 0), (5, .own 5), (9, vi (w64 (s30.1 + 1)))], [(5, oa 87 4 eCandidate j35), (1000000, .box (tc el01Source j33.2))]⟩ ?_
  refine SRun.nil ?_
  obtain rfl := inj h
  exact q_l (Le.sub0)
  refine swp_exit ?_
  obtain rfl := inj h
  exact nx_e (q_re (q_bh (q_bn (q_j (Le.sub0)))))
  refine swp_skip ?_
  obtain rfl := inj h
  exact q_bn (q_j (Le.sub0))
  refine srk tbok ⟨100, [(4, .own 5)], [(5, oa 87 4 eCandidate j23.1), (1000000, .box (tc el01Source j23.2))]⟩ ?_
  refine swp_ret ?_
  obtain rfl := inj h
  exact q_fr (fin_io (f1 (fo eCandidate_flat)) (y := .box (tc el01Source j23.2)) (by kernel_rfl) rfl (by kernel_rfl) (by kernel_rfl))
theorem ents124 : Ents Tryz.prog 124 := ents_of Tryz.func124 (by kernel_rfl) rfl
noncomputable def spec_l30Draw (aCode : (List Int)) : Option ((List Candidate) × ByteArray × (List Site) × (List Description)) :=
  ((spec_l01From aCode).bind fun x1 => ((spec_DrawRegionOf aCode).bind fun x2 => ((spec_l30List x1 x2.1).bind fun x3 => ((spec_l01DrawPhrase x3.2).bind fun x4 => ((spec_l01Next x4.2 4).bind fun x5 => ((at' ([(ByteArray.mk #[111, 108, 100, 32, 97, 115, 104]), (ByteArray.mk #[97, 115, 104]), (ByteArray.mk #[111, 108, 100, 32, 97, 115, 104, 101]), x4.1] : List ByteArray) x5.1).bind fun x6 => some (x3.1, x6, x2.1, x2.2.1)))))))
theorem spec_l30Draw_run (aCode : (List Int)) (r : (List Candidate) × ByteArray × (List Site) × (List Description)) (h : spec_l30Draw aCode = some r) : SCall Tryz.prog 78 [.v (vl (eI .u8) aCode)] ⟨[.own 87 4 r.1.length (r.1.map eCandidate), .v (vs r.2.1), .v (vl eSite r.2.2.1), .v (vl eDescription r.2.2.2)], [], true⟩ := by
  refine scall_in Tryz.func78 rfl [(.tmp 2), (.tmp 3), (.tmp 4), (.tmp 5)] rfl (fun r => ⟨[.own 87 4 r.1.length (r.1.map eCandidate), .v (vs r.2.1), .v (vl eSite r.2.2.1), .v (vl eDescription r.2.2.2)], [], true⟩) (r := r) ?_
  unfold spec_l30Draw at h
  refine srk tbok ⟨34, [(0, vl (eI .u8) aCode)], []⟩ ?_
  refine sr ?_
  refine SRun.ck tbok 1 ⟨34, [(0, vl (eI .u8) aCode), (12, vl (eI .u8) aCode)], []⟩ ?_
  obtain ⟨x1, hx1, h⟩ := bind_some h
  refine SRun.ls (xc ents71 (spec_l01From_run aCode _ hx1)) ?_
  refine ckn tbok 1 ⟨34, [(0, vl (eI .u8) aCode), (6, .ref 13 0)], [(13, .box (tc el01Source x1))]⟩ ?_
  refine sr ?_
  refine SRun.ck tbok 1 ⟨34, [(6, .ref 13 0), (15, vl (eI .u8) aCode)], [(13, .box (tc el01Source x1))]⟩ ?_
  obtain ⟨x2, hx2, h⟩ := bind_some h
  refine SRun.ls (xc ents123 (spec_DrawRegionOf_run aCode _ hx2)) ?_
  refine ckn tbok 8 ⟨34, [(6, .ref 13 0), (7, .own 16), (8, vl eDescription x2.2.1)], [(13, .box (tc el01Source x1)), (16, oa 92 3 eSite x2.1)]⟩ ?_
  refine sr ?_
  refine SRun.ck tbok 2 ⟨34, [(6, .ref 13 0), (7, .own 16), (8, vl eDescription x2.2.1), (20, .ref 13 0), (21, .own 16)], [(13, .box (tc el01Source x1)), (16, oa 92 3 eSite x2.1)]⟩ ?_
  refine SRun.le (Le.frz' (d := 16) (e := 92) (m := 3) (n := x2.1.length) (es := x2.1.map eSite) (by kernel_rfl) (by kernel_rfl)) ?_
  obtain ⟨x3, hx3, h⟩ := bind_some h
  refine SRun.estep (xe ents124 (spec_l30List_run x1 x2.1 _ hx3)) ?_
  refine ckn tbok 1 ⟨34, [(6, .ref 13 0), (7, vl eSite x2.1), (8, vl eDescription x2.2.1), (10, .own 22)], [(13, .box (tc el01Source x3.2)), (22, oa 87 4 eCandidate x3.1)]⟩ ?_
  refine sr ?_
  refine SRun.ck tbok 1 ⟨34, [(6, .ref 13 0), (7, vl eSite x2.1), (8, vl eDescription x2.2.1), (10, .own 22), (23, .ref 13 0)], [(13, .box (tc el01Source x3.2)), (22, oa 87 4 eCandidate x3.1)]⟩ ?_
  obtain ⟨x4, hx4, h⟩ := bind_some h
  refine SRun.estep (xe ents72 (spec_l01DrawPhrase_run x3.2 _ hx4)) ?_
  refine SRun.ck tbok 2 ⟨34, [(7, vl eSite x2.1), (8, vl eDescription x2.2.1), (10, .own 22), (25, .own 25), (26, .ref 13 0)], [(13, .box (tc el01Source x4.2)), (22, oa 87 4 eCandidate x3.1), (25, oa 9 1 eS ([(ByteArray.mk #[111, 108, 100, 32, 97, 115, 104]), (ByteArray.mk #[97, 115, 104]), (ByteArray.mk #[111, 108, 100, 32, 97, 115, 104, 101]), x4.1] : List ByteArray))]⟩ ?_
  obtain ⟨x5, hx5, h⟩ := bind_some h
  refine SRun.estep (xe ents73 (spec_l01Next_run x4.2 4 _ hx5)) ?_
  obtain ⟨x6, hx6, h⟩ := bind_some h
  refine SRun.ls (x_index_own (d := 25) (L := ([(ByteArray.mk #[111, 108, 100, 32, 97, 115, 104]), (ByteArray.mk #[97, 115, 104]), (ByteArray.mk #[111, 108, 100, 32, 97, 115, 104, 101]), x4.1] : List ByteArray)) (f := eS) (ti := ti28) (tj := ti9) (e := 9) (e' := 9) (m := 1) (k := .i64) tbok rfl hx6) ?_
  refine SRun.ls (x_load_own (d := 25) (m := 1) (j := 0) (L := ([(ByteArray.mk #[111, 108, 100, 32, 97, 115, 104]), (ByteArray.mk #[97, 115, 104]), (ByteArray.mk #[111, 108, 100, 32, 97, 115, 104, 101]), x4.1] : List ByteArray)) (f := eS) (ti := ti9) (e := 9) (v := vs x6) tbok rfl hx6) ?_
  refine ckn tbok 1 ⟨34, [(7, vl eSite x2.1), (8, vl eDescription x2.2.1), (10, .own 22), (11, vs x6)], [(22, oa 87 4 eCandidate x3.1)]⟩ ?_
  refine srk tbok ⟨34, [(2, .own 22), (3, vs x6), (4, vl eSite x2.1), (5, vl eDescription x2.2.1)], [(22, oa 87 4 eCandidate x3.1)]⟩ ?_
  refine swp_ret ?_
  obtain rfl := inj h
  exact q_fr (fin4 (by kernel_rfl) (finOT (d := 22) (holds_t (by kernel_rfl)) (by kernel_rfl) (by kernel_rfl)) ft ft ft)
theorem ents78 : Ents Tryz.prog 78 := ents_of Tryz.func78 (by kernel_rfl) rfl
noncomputable def spec_DrawAnswersOf (aCode : (List Int)) : Option ((List Candidate) × ByteArray × (List Site) × (List Description)) :=
  ((spec_l30Draw aCode).bind fun x1 => some (x1.1, x1.2.1, x1.2.2.1, x1.2.2.2))
theorem spec_DrawAnswersOf_run (aCode : (List Int)) (r : (List Candidate) × ByteArray × (List Site) × (List Description)) (h : spec_DrawAnswersOf aCode = some r) : SCall Tryz.prog 37 [.v (vl (eI .u8) aCode)] ⟨[.own 87 4 r.1.length (r.1.map eCandidate), .v (vs r.2.1), .v (vl eSite r.2.2.1), .v (vl eDescription r.2.2.2)], [], true⟩ := by
  refine scall_in Tryz.func37 rfl [(.tmp 2), (.tmp 3), (.tmp 4), (.tmp 5)] rfl (fun r => ⟨[.own 87 4 r.1.length (r.1.map eCandidate), .v (vs r.2.1), .v (vl eSite r.2.2.1), .v (vl eDescription r.2.2.2)], [], true⟩) (r := r) ?_
  unfold spec_DrawAnswersOf at h
  refine srk tbok ⟨12, [(0, vl (eI .u8) aCode)], []⟩ ?_
  refine sr ?_
  refine SRun.ck tbok 1 ⟨12, [(6, vl (eI .u8) aCode)], []⟩ ?_
  obtain ⟨x1, hx1, h⟩ := bind_some h
  refine SRun.ls (xc ents78 (spec_l30Draw_run aCode _ hx1)) ?_
  refine ckn tbok 8 ⟨12, [(2, .own 7), (3, vs x1.2.1), (4, vl eSite x1.2.2.1), (5, vl eDescription x1.2.2.2)], [(7, oa 87 4 eCandidate x1.1)]⟩ ?_
  refine swp_ret ?_
  obtain rfl := inj h
  exact q_fr (fin4 (by kernel_rfl) (finOT (d := 7) (holds_t (by kernel_rfl)) (by kernel_rfl) (by kernel_rfl)) ft ft ft)
theorem ents37 : Ents Tryz.prog 37 := ents_of Tryz.func37 (by kernel_rfl) rfl
noncomputable def impl_within (aX : Int) (aLow : Int) (aHigh : Int) : Option (Bool) :=
  some ((decide (aX ≥ aLow)) && (decide (aX ≤ aHigh)))
theorem impl_within_run (aX : Int) (aLow : Int) (aHigh : Int) (r : Bool) (h : impl_within aX aLow aHigh = some r) : SCall Tryz.prog 135 [.v (vi aX), .v (vi aLow), .v (vi aHigh)] ⟨[.v (vb r)], [], false⟩ := by
  refine scall_in Tryz.func135 rfl [(.tmp 6)] rfl (fun r => ⟨[.v (vb r)], [], false⟩) (r := r) ?_
  unfold impl_within at h
  refine srk tbok ⟨15, [(0, vi aX), (1, vi aLow), (2, vi aHigh)], []⟩ ?_
  refine swp_seq ?_
  refine swp_regP ⟨15, [(6, vb ((decide (aX ≥ aLow)) && (decide (aX ≤ aHigh))))], []⟩ ?_ ?_
  refine SRun.ck tbok 4 ⟨15, [(0, vi aX), (2, vi aHigh), (10, vb (decide (aX ≥ aLow)))], []⟩ ?_
  generalize (decide (aX ≥ aLow)) = bb
  cases bb
  refine SRun.ck tbok 5 ⟨15, [(6, vb false)], []⟩ ?_
  exact SRun.nil (Le.sub0)
  refine SRun.ck tbok 5 ⟨15, [(6, vb (decide (aX ≤ aHigh)))], []⟩ ?_
  exact SRun.nil (Le.sub0)
  refine swp_ret ?_
  obtain rfl := inj h
  exact q_fr (f1 fv)
theorem ents135 : Ents Tryz.prog 135 := ents_of Tryz.func135 (by kernel_rfl) rfl
theorem strings_Trim_run (s c r : ByteArray) (h : strings_Trim s c = some r) : SCall Tryz.prog 163 [.v (.tr (.str s)), .v (.tr (.str c))] ⟨[.v (.tr (.str r))], [], false⟩ := trim_run Tryz.lays160 (by kernel_rfl) 163 rfl s c r h
theorem ents163 : Ents Tryz.prog 163 := ents_of Tryz.func163 (by kernel_rfl) rfl
noncomputable def impl_isSmall (aS : ByteArray) (aLeast : Int) (aMost : Int) : Option (Bool) :=
  ((((impl_within (aS.size : Int) aLeast aMost).bind fun x1 => (bif x1 then ((strings_Trim aS (ByteArray.mk #[97, 98, 99, 100, 101, 102, 103, 104, 105, 106, 107, 108, 109, 110, 111, 112, 113, 114, 115, 116, 117, 118, 119, 120, 121, 122])).bind fun x2 => some (x2.toList == (ByteArray.mk #[]).toList)) else some false))).bind fun (j3 : Bool) => some j3)
theorem impl_isSmall_run (aS : ByteArray) (aLeast : Int) (aMost : Int) (r : Bool) (h : impl_isSmall aS aLeast aMost = some r) : SCall Tryz.prog 133 [.v (vs aS), .v (vi aLeast), .v (vi aMost)] ⟨[.v (vb r)], [], false⟩ := by
  refine scall_in Tryz.func133 rfl [(.tmp 6)] rfl (fun r => ⟨[.v (vb r)], [], false⟩) (r := r) ?_
  unfold impl_isSmall at h
  refine srk tbok ⟨17, [(0, vs aS), (1, vi aLeast), (2, vi aMost)], []⟩ ?_
  refine swp_seq ?_
  refine swp_regJ h (fun j3 => ⟨17, [(6, vb j3)], []⟩) (fun v4 h => ?_) (fun j3 h => ?_)
  refine SRun.ck tbok 4 ⟨17, [(0, vs aS), (8, vi (aS.size : Int)), (9, vi aLeast), (10, vi aMost)], []⟩ ?_
  obtain ⟨x1, hx1, h⟩ := bind_some h
  refine SRun.ls (xc ents135 (impl_within_run (aS.size : Int) aLeast aMost _ hx1)) ?_
  refine SRun.ck tbok 1 ⟨17, [(0, vs aS), (12, vb x1)], []⟩ ?_
  refine SRun.cu [(12, fun b => b)] h (fun h => ?_) fun h => ?_
  refine SRun.ck tbok 1 ⟨17, [(12, vb true), (13, vs aS)], []⟩ ?_
  obtain ⟨x2, hx2, h⟩ := bind_some h
  refine SRun.ls (xc ents163 (strings_Trim_run aS (ByteArray.mk #[97, 98, 99, 100, 101, 102, 103, 104, 105, 106, 107, 108, 109, 110, 111, 112, 113, 114, 115, 116, 117, 118, 119, 120, 121, 122]) _ hx2)) ?_
  refine SRun.ck tbok 3 ⟨17, [(6, vb (x2.toList == (ByteArray.mk #[]).toList))], []⟩ ?_
  refine SRun.nil ?_
  obtain rfl := inj h
  exact Le.sub0
  refine SRun.ck tbok 5 ⟨17, [(6, vb false)], []⟩ ?_
  refine SRun.nil ?_
  obtain rfl := inj h
  exact Le.sub0
  refine swp_ret ?_
  obtain rfl := inj h
  exact q_fr (f1 fv)
theorem ents133 : Ents Tryz.prog 133 := ents_of Tryz.func133 (by kernel_rfl) rfl
noncomputable def impl_IsWord (aS : ByteArray) : Option (Bool) :=
  ((impl_isSmall aS 1 16).bind fun x1 => some x1)
theorem impl_IsWord_run (aS : ByteArray) (r : Bool) (h : impl_IsWord aS = some r) : SCall Tryz.prog 86 [.v (vs aS)] ⟨[.v (vb r)], [], false⟩ := by
  refine scall_in Tryz.func86 rfl [(.tmp 2)] rfl (fun r => ⟨[.v (vb r)], [], false⟩) (r := r) ?_
  unfold impl_IsWord at h
  refine srk tbok ⟨5, [(0, vs aS)], []⟩ ?_
  refine sr ?_
  refine SRun.ck tbok 1 ⟨5, [(3, vs aS)], []⟩ ?_
  obtain ⟨x1, hx1, h⟩ := bind_some h
  refine SRun.ls (xc ents133 (impl_isSmall_run aS 1 16 _ hx1)) ?_
  refine ckn tbok 1 ⟨5, [(2, vb x1)], []⟩ ?_
  refine swp_ret ?_
  obtain rfl := inj h
  exact q_fr (f1 fv)
theorem ents86 : Ents Tryz.prog 86 := ents_of Tryz.func86 (by kernel_rfl) rfl
theorem strings_Split_run (s c : ByteArray) (r : List ByteArray) (h : strings_Split s c = some r) : SCall Tryz.prog 155 [.v (.tr (.str s)), .v (.tr (.str c))] ⟨[.own 9 1 r.length (r.map eS)], [], false⟩ := split_run Tryz.lays146 (by kernel_rfl) 155 9 rfl rfl s c r h
theorem ents155 : Ents Tryz.prog 155 := ents_of Tryz.func155 (by kernel_rfl) rfl
noncomputable def impl_wordsOf (aS : ByteArray) : Option ((List ByteArray)) :=
  ((strings_Split aS (ByteArray.mk #[32])).bind fun x1 => some x1)
theorem impl_wordsOf_run (aS : ByteArray) (r : (List ByteArray)) (h : impl_wordsOf aS = some r) : SCall Tryz.prog 119 [.v (vs aS)] ⟨[.own 9 1 r.length (r.map eS)], [], false⟩ := by
  refine scall_in Tryz.func119 rfl [(.tmp 2)] rfl (fun r => ⟨[.own 9 1 r.length (r.map eS)], [], false⟩) (r := r) ?_
  unfold impl_wordsOf at h
  refine srk tbok ⟨5, [(0, vs aS)], []⟩ ?_
  refine sr ?_
  refine SRun.ck tbok 1 ⟨5, [(3, vs aS)], []⟩ ?_
  obtain ⟨x1, hx1, h⟩ := bind_some h
  refine SRun.ls (xc ents155 (strings_Split_run aS (ByteArray.mk #[32]) _ hx1)) ?_
  refine ckn tbok 1 ⟨5, [(2, .own 4)], [(4, oa 9 1 eS x1)]⟩ ?_
  refine swp_ret ?_
  obtain rfl := inj h
  exact q_fr (f1 (fo eS_flat))
theorem ents119 : Ents Tryz.prog 119 := ents_of Tryz.func119 (by kernel_rfl) rfl
noncomputable def impl_areWords (aList : (List ByteArray)) : Option (Bool) :=
  (((forN (aList.length : Int) (fun (i3 : Int) (_ : Unit) => ((at' aList i3).bind fun x7 => ((impl_IsWord x7).bind fun x8 => (bif (!x8) then some (.inr (.inr false)) else some (.inl ()))))) (fun (_ : Unit) => .inl ()) 0 ())).bind (Sum.elim (fun (_ : Unit) => some true) some))
theorem impl_areWords_run (aList : (List ByteArray)) (r : Bool) (h : impl_areWords aList = some r) : SCall Tryz.prog 134 [.v (vl eS aList)] ⟨[.v (vb r)], [], false⟩ := by
  refine scall_in Tryz.func134 rfl [(.tmp 2)] rfl (fun r => ⟨[.v (vb r)], [], false⟩) (r := r) ?_
  unfold impl_areWords at h
  refine srk tbok ⟨15, [(0, vl eS aList)], []⟩ ?_
  refine swp_seq ?_
  refine srk tbok ⟨15, [(5, vl eS aList), (6, vi (aList.length : Int)), (7, vi 0)], []⟩ ?_
  refine swp_seqE (r := r) h (fun j1 => ⟨15, [], []⟩) (fun v2 h => ?_) (fun j1 h => ?_)
  refine swp_blk (a := v2) ?_
  refine swp_lpL (r := v2) (s := (0, ())) _ (fun s3 => ⟨15, [(5, vl eS aList), (6, vi (aList.length : Int)), (7, vi s3.1)], []⟩) _ (Le.sub0) h (fun s3 v4 h => ?_)
  refine srk tbok ⟨15, [(5, vl eS aList), (6, vi (aList.length : Int)), (7, vi s3.1), (8, vb (decide (s3.1 < (aList.length : Int))))], []⟩ ?_
  refine swp_seq ?_
  refine swp_cd h (fun h => ?_) fun h => ?_
  refine swp_skip ?_
  refine nx_n ?_
  refine swp_seq ?_
  refine swp_seqL (r := v4) h (fun j5 => ⟨15, [(5, vl eS aList), (6, vi (aList.length : Int)), (7, vi s3.1)], []⟩) (fun v6 h => ?_) (fun j5 h => ?_)
  refine swp_blk (a := v6) ?_
  refine sr ?_
  obtain ⟨x7, hx7, h⟩ := bind_some h
  refine SRun.ls (x_index (L := aList) (f := eS) (ti := ti28) (tj := ti9) (e := 9) (k := .i64) tbok rfl hx7) ?_
  refine ckn tbok 2 ⟨15, [(4, vs x7), (5, vl eS aList), (6, vi (aList.length : Int)), (7, vi s3.1)], []⟩ ?_
  refine sr ?_
  refine SRun.ck tbok 1 ⟨15, [(5, vl eS aList), (6, vi (aList.length : Int)), (7, vi s3.1), (11, vs x7)], []⟩ ?_
  obtain ⟨x8, hx8, h⟩ := bind_some h
  refine SRun.ls (xc ents86 (impl_IsWord_run x7 _ hx8)) ?_
  refine ckn tbok 1 ⟨15, [(5, vl eS aList), (6, vi (aList.length : Int)), (7, vi s3.1), (13, vb (!x8))], []⟩ ?_
  refine swp_cd h (fun h => ?_) fun h => ?_
  refine srk tbok ⟨15, [(2, vb false)], []⟩ ?_
  refine swp_ret ?_
  obtain rfl := inj h
  exact q_br (q_rr (q_rr (q_br (q_rr (q_fr (f1 fv))))))
  refine swp_skip ?_
  obtain rfl := inj h
  exact q_bn (q_l (Le.sub0))
  refine swp_reg ?_
  refine SRun.ck tbok 2 ⟨15, [(5, vl eS aList), (6, vi (aList.length : Int)), (7, vi (w64 (s3.1 + 1)))], []⟩ ?_
  refine SRun.nil ?_
  obtain rfl := inj h
  exact q_l (Le.sub0)
  refine swp_exit ?_
  obtain rfl := inj h
  exact nx_e (q_re (q_bh (q_l (Le.sub0))))
  refine srk tbok ⟨15, [(2, vb true)], []⟩ ?_
  refine swp_ret ?_
  obtain rfl := inj h
  exact q_fr (f1 fv)
theorem ents134 : Ents Tryz.prog 134 := ents_of Tryz.func134 (by kernel_rfl) rfl
noncomputable def impl_IsPhrase (aS : ByteArray) : Option (Bool) :=
  ((impl_wordsOf aS).bind fun x1 => (((bif (decide ((x1.length : Int) ≤ 8)) then ((impl_areWords x1).bind fun x2 => some x2) else some false)).bind fun (j3 : Bool) => some j3))
theorem impl_IsPhrase_run (aS : ByteArray) (r : Bool) (h : impl_IsPhrase aS = some r) : SCall Tryz.prog 87 [.v (vs aS)] ⟨[.v (vb r)], [], false⟩ := by
  refine scall_in Tryz.func87 rfl [(.tmp 2)] rfl (fun r => ⟨[.v (vb r)], [], false⟩) (r := r) ?_
  unfold impl_IsPhrase at h
  refine srk tbok ⟨13, [(0, vs aS)], []⟩ ?_
  refine sr ?_
  refine SRun.ck tbok 1 ⟨13, [(4, vs aS)], []⟩ ?_
  obtain ⟨x1, hx1, h⟩ := bind_some h
  refine SRun.ls (xc ents119 (impl_wordsOf_run aS _ hx1)) ?_
  refine ckn tbok 1 ⟨13, [(3, .own 5)], [(5, oa 9 1 eS x1)]⟩ ?_
  refine swp_seq ?_
  refine swp_regJ h (fun j3 => ⟨13, [(2, vb j3)], []⟩) (fun v4 h => ?_) (fun j3 h => ?_)
  refine SRun.ck tbok 4 ⟨13, [(3, .own 5), (9, vb (decide ((x1.length : Int) ≤ 8)))], [(5, oa 9 1 eS x1)]⟩ ?_
  refine SRun.cu [(9, fun b => b)] h (fun h => ?_) fun h => ?_
  refine SRun.ck tbok 1 ⟨13, [(9, vb true), (10, .own 5)], [(5, oa 9 1 eS x1)]⟩ ?_
  obtain ⟨x2, hx2, h⟩ := bind_some h
  refine SRun.ls (xc ents134 (impl_areWords_run x1 _ hx2)) ?_
  refine SRun.ck tbok 2 ⟨13, [(2, vb x2)], []⟩ ?_
  refine SRun.nil ?_
  obtain rfl := inj h
  exact Le.sub0
  refine SRun.ck tbok 4 ⟨13, [(2, vb false)], []⟩ ?_
  refine SRun.nil ?_
  obtain rfl := inj h
  exact Le.sub0
  refine swp_ret ?_
  obtain rfl := inj h
  exact q_fr (f1 fv)
theorem ents87 : Ents Tryz.prog 87 := ents_of Tryz.func87 (by kernel_rfl) rfl
noncomputable def impl_IsPoint (aP : Point) : Option (Bool) :=
  ((((impl_within aP.X (-1000) 1000).bind fun x1 => (bif x1 then ((impl_within aP.Y (-1000) 1000).bind fun x2 => some x2) else some false))).bind fun (j3 : Bool) => some j3)
theorem impl_IsPoint_run (aP : Point) (r : Bool) (h : impl_IsPoint aP = some r) : SCall Tryz.prog 88 [.v (.agg (tc ePoint aP))] ⟨[.v (vb r)], [], false⟩ := by
  refine scall_in Tryz.func88 rfl [(.tmp 2)] rfl (fun r => ⟨[.v (vb r)], [], false⟩) (r := r) ?_
  unfold impl_IsPoint at h
  refine srk tbok ⟨11, [(1, .ref 1 0)], [(1, .box (tc ePoint aP))]⟩ ?_
  refine swp_seq ?_
  refine swp_regJ h (fun j3 => ⟨11, [(2, vb j3)], []⟩) (fun v4 h => ?_) (fun j3 h => ?_)
  refine SRun.ck tbok 2 ⟨11, [(1, .ref 1 0), (4, vi aP.X)], [(1, .box (tc ePoint aP))]⟩ ?_
  obtain ⟨x1, hx1, h⟩ := bind_some h
  refine SRun.ls (xc ents135 (impl_within_run aP.X (-1000) 1000 _ hx1)) ?_
  refine SRun.ck tbok 1 ⟨11, [(1, .ref 1 0), (6, vb x1)], [(1, .box (tc ePoint aP))]⟩ ?_
  refine SRun.cu [(6, fun b => b)] h (fun h => ?_) fun h => ?_
  refine SRun.ck tbok 2 ⟨11, [(6, vb true), (8, vi aP.Y)], []⟩ ?_
  obtain ⟨x2, hx2, h⟩ := bind_some h
  refine SRun.ls (xc ents135 (impl_within_run aP.Y (-1000) 1000 _ hx2)) ?_
  refine SRun.ck tbok 2 ⟨11, [(2, vb x2)], []⟩ ?_
  refine SRun.nil ?_
  obtain rfl := inj h
  exact Le.sub0
  refine SRun.ck tbok 5 ⟨11, [(2, vb false)], []⟩ ?_
  refine SRun.nil ?_
  obtain rfl := inj h
  exact Le.sub0
  refine swp_ret ?_
  obtain rfl := inj h
  exact q_fr (f1 fv)
theorem ents88 : Ents Tryz.prog 88 := ents_of Tryz.func88 (by kernel_rfl) rfl
noncomputable def impl_findCandidate_1 (aC : Candidate) (c0 : ByteArray) : Option (Bool) :=
  some (aC.Code.toList == c0.toList)
theorem impl_findCandidate_1_run (aC : Candidate) (c0 : ByteArray) (r : Bool) (h : impl_findCandidate_1 aC c0 = some r) : SCall Tryz.prog 107 [.v (.agg (tc eCandidate aC)), .v (.ptr [vs c0] 0)] ⟨[.v (vb r)], [], false⟩ := by
  refine scall_in Tryz.func107 rfl [(.tmp 3)] rfl (fun r => ⟨[.v (vb r)], [], false⟩) (r := r) ?_
  unfold impl_findCandidate_1 at h
  refine srk tbok ⟨8, [(1, .ptr [vs c0] 0), (2, .ref 2 0)], [(2, .box (tc eCandidate aC))]⟩ ?_
  refine srk tbok ⟨8, [(3, vb (aC.Code.toList == c0.toList))], []⟩ ?_
  refine swp_ret ?_
  obtain rfl := inj h
  exact q_fr (f1 fv)
theorem ents107 : Ents Tryz.prog 107 := ents_of Tryz.func107 (by kernel_rfl) rfl
noncomputable def slices_IndexFunc_Candidate_impl_findCandidate_1 (aS : (List Candidate)) (aF0 : ByteArray) : Option (Int) :=
  (((forN (aS.length : Int) (fun (i3 : Int) (_ : Unit) => ((at' aS i3).bind fun x7 => ((impl_findCandidate_1 x7 aF0).bind fun x8 => (bif x8 then some (.inr (.inr i3)) else some (.inl ()))))) (fun (_ : Unit) => .inl ()) 0 ())).bind (Sum.elim (fun (_ : Unit) => some (-1)) some))
theorem slices_IndexFunc_Candidate_impl_findCandidate_1_run (aS : (List Candidate)) (aF0 : ByteArray) (r : Int) (h : slices_IndexFunc_Candidate_impl_findCandidate_1 aS aF0 = some r) : SCall Tryz.prog 106 [.v (vl eCandidate aS), .v (.clo 107 [.ptr [vs aF0] 0])] ⟨[.v (vi r)], [], false⟩ := by
  refine scall_in Tryz.func106 rfl [(.tmp 4)] rfl (fun r => ⟨[.v (vi r)], [], false⟩) (r := r) ?_
  unfold slices_IndexFunc_Candidate_impl_findCandidate_1 at h
  refine srk tbok ⟨19, [(0, vl eCandidate aS), (1, .clo 107 [.ptr [vs aF0] 0])], []⟩ ?_
  refine swp_seq ?_
  refine srk tbok ⟨19, [(0, vl eCandidate aS), (1, .clo 107 [.ptr [vs aF0] 0]), (7, vi (aS.length : Int)), (8, vi 0)], []⟩ ?_
  refine swp_seqE (r := r) h (fun j1 => ⟨19, [], []⟩) (fun v2 h => ?_) (fun j1 h => ?_)
  refine swp_blk (a := v2) ?_
  refine swp_lpL (r := v2) (s := (0, ())) _ (fun s3 => ⟨19, [(0, vl eCandidate aS), (1, .clo 107 [.ptr [vs aF0] 0]), (7, vi (aS.length : Int)), (8, vi s3.1)], []⟩) _ (Le.sub0) h (fun s3 v4 h => ?_)
  refine srk tbok ⟨19, [(0, vl eCandidate aS), (1, .clo 107 [.ptr [vs aF0] 0]), (7, vi (aS.length : Int)), (8, vi s3.1), (9, vb (decide (s3.1 < (aS.length : Int))))], []⟩ ?_
  refine swp_seq ?_
  refine swp_cd h (fun h => ?_) fun h => ?_
  refine swp_skip ?_
  refine nx_n ?_
  refine swp_seq ?_
  refine swp_seqL (r := v4) h (fun j5 => ⟨19, [(0, vl eCandidate aS), (1, .clo 107 [.ptr [vs aF0] 0]), (7, vi (aS.length : Int)), (8, vi s3.1)], []⟩) (fun v6 h => ?_) (fun j5 h => ?_)
  refine swp_blk (a := v6) ?_
  refine srk tbok ⟨19, [(0, vl eCandidate aS), (1, .clo 107 [.ptr [vs aF0] 0]), (5, vi s3.1), (7, vi (aS.length : Int)), (8, vi s3.1)], []⟩ ?_
  refine sr ?_
  refine SRun.ck tbok 3 ⟨19, [(0, vl eCandidate aS), (1, .clo 107 [.ptr [vs aF0] 0]), (5, vi s3.1), (7, vi (aS.length : Int)), (8, vi s3.1), (11, .clo 107 [.ptr [vs aF0] 0]), (12, vl eCandidate aS), (13, vi s3.1)], []⟩ ?_
  obtain ⟨x7, hx7, h⟩ := bind_some h
  refine SRun.ls (x_index (L := aS) (f := eCandidate) (ti := ti31) (tj := ti87) (e := 87) (k := .i64) tbok rfl hx7) ?_
  refine SRun.ck tbok 1 ⟨19, [(0, vl eCandidate aS), (1, .clo 107 [.ptr [vs aF0] 0]), (5, vi s3.1), (7, vi (aS.length : Int)), (8, vi s3.1), (11, .clo 107 [.ptr [vs aF0] 0]), (15, .agg (tc eCandidate x7))], []⟩ ?_
  obtain ⟨x8, hx8, h⟩ := bind_some h
  refine SRun.ls (xc ents107 (impl_findCandidate_1_run x7 aF0 _ hx8)) ?_
  refine SRun.nx ?_
  refine swp_cd h (fun h => ?_) fun h => ?_
  refine srk tbok ⟨19, [(4, vi s3.1)], []⟩ ?_
  refine swp_ret ?_
  obtain rfl := inj h
  exact q_br (q_rr (q_rr (q_br (q_rr (q_fr (f1 fv))))))
  refine swp_skip ?_
  obtain rfl := inj h
  exact q_bn (q_l (Le.sub0))
  refine swp_reg ?_
  refine SRun.ck tbok 2 ⟨19, [(0, vl eCandidate aS), (1, .clo 107 [.ptr [vs aF0] 0]), (7, vi (aS.length : Int)), (8, vi (w64 (s3.1 + 1)))], []⟩ ?_
  refine SRun.nil ?_
  obtain rfl := inj h
  exact q_l (Le.sub0)
  refine swp_exit ?_
  obtain rfl := inj h
  exact nx_e (q_re (q_bh (q_l (Le.sub0))))
  refine srk tbok ⟨19, [(4, vi (-1))], []⟩ ?_
  refine swp_ret ?_
  obtain rfl := inj h
  exact q_fr (f1 fv)
theorem ents106 : Ents Tryz.prog 106 := ents_of Tryz.func106 (by kernel_rfl) rfl
noncomputable def impl_findCandidate (aList : (List Candidate)) (aCode : ByteArray) : Option (Int) :=
  ((slices_IndexFunc_Candidate_impl_findCandidate_1 aList aCode).bind fun x1 => some x1)
theorem impl_findCandidate_run (aList : (List Candidate)) (aCode : ByteArray) (r : Int) (h : impl_findCandidate aList aCode = some r) : SCall Tryz.prog 59 [.v (vl eCandidate aList), .v (vs aCode)] ⟨[.v (vi r)], [], false⟩ := by
  refine scall_in Tryz.func59 rfl [(.tmp 4)] rfl (fun r => ⟨[.v (vi r)], [], false⟩) (r := r) ?_
  unfold impl_findCandidate at h
  refine srk tbok ⟨8, [(0, vl eCandidate aList), (3, .ref 3 0)], [(3, .box [vs aCode])]⟩ ?_
  refine sr ?_
  refine SRun.ck tbok 2 ⟨8, [(5, vl eCandidate aList), (6, .clo 107 [.ref 3 0])], [(3, .box [vs aCode])]⟩ ?_
  obtain ⟨x1, hx1, h⟩ := bind_some h
  refine SRun.ls (xc ents106 (slices_IndexFunc_Candidate_impl_findCandidate_1_run aList aCode _ hx1)) ?_
  refine ckn tbok 1 ⟨8, [(4, vi x1)], []⟩ ?_
  refine swp_ret ?_
  obtain rfl := inj h
  exact q_fr (f1 fv)
theorem ents59 : Ents Tryz.prog 59 := ents_of Tryz.func59 (by kernel_rfl) rfl
noncomputable def impl_AreCandidates (aList : (List Candidate)) : Option (Bool) :=
  (((forN (aList.length : Int) (fun (i3 : Int) (_ : Unit) => ((at' aList i3).bind fun x7 => ((((impl_IsWord x7.Code).bind fun x8 => (bif (!x8) then some true else ((impl_IsPhrase x7.Text).bind fun x9 => (bif (!x9) then some true else ((impl_IsPoint x7.At).bind fun x10 => (bif (!x10) then some true else ((part' aList 0 i3).bind fun x11 => ((impl_findCandidate x11 x7.Code).bind fun x12 => some (decide (x12 ≥ 0))))))))))).bind fun (j13 : Bool) => (bif j13 then some (.inr (.inr false)) else some (.inl ()))))) (fun (_ : Unit) => .inl ()) 0 ())).bind (Sum.elim (fun (_ : Unit) => some (decide ((aList.length : Int) ≤ 10))) some))
theorem impl_AreCandidates_run (aList : (List Candidate)) (r : Bool) (h : impl_AreCandidates aList = some r) : SCall Tryz.prog 45 [.v (vl eCandidate aList)] ⟨[.v (vb r)], [], false⟩ := by
  refine scall_in Tryz.func45 rfl [(.tmp 2)] rfl (fun r => ⟨[.v (vb r)], [], false⟩) (r := r) ?_
  unfold impl_AreCandidates at h
  refine srk tbok ⟨41, [(0, vl eCandidate aList)], []⟩ ?_
  refine swp_seq ?_
  refine srk tbok ⟨41, [(0, vl eCandidate aList), (5, vl eCandidate aList), (6, vi (aList.length : Int)), (7, vi 0)], []⟩ ?_
  refine swp_seqE (r := r) h (fun j1 => ⟨41, [(0, vl eCandidate aList)], []⟩) (fun v2 h => ?_) (fun j1 h => ?_)
  refine swp_blk (a := v2) ?_
  refine swp_lpL (r := v2) (s := (0, ())) _ (fun s3 => ⟨41, [(0, vl eCandidate aList), (5, vl eCandidate aList), (6, vi (aList.length : Int)), (7, vi s3.1)], []⟩) _ (Le.sub0) h (fun s3 v4 h => ?_)
  refine srk tbok ⟨41, [(0, vl eCandidate aList), (5, vl eCandidate aList), (6, vi (aList.length : Int)), (7, vi s3.1), (8, vb (decide (s3.1 < (aList.length : Int))))], []⟩ ?_
  refine swp_seq ?_
  refine swp_cd h (fun h => ?_) fun h => ?_
  refine swp_skip ?_
  refine nx_n ?_
  refine swp_seq ?_
  refine swp_seqL (r := v4) h (fun j5 => ⟨41, [(0, vl eCandidate aList), (5, vl eCandidate aList), (6, vi (aList.length : Int)), (7, vi s3.1)], []⟩) (fun v6 h => ?_) (fun j5 h => ?_)
  refine swp_blk (a := v6) ?_
  refine sr ?_
  refine SRun.ck tbok 1 ⟨41, [(0, vl eCandidate aList), (5, vl eCandidate aList), (6, vi (aList.length : Int)), (7, vi s3.1), (9, vi s3.1)], []⟩ ?_
  obtain ⟨x7, hx7, h⟩ := bind_some h
  refine SRun.ls (x_index (L := aList) (f := eCandidate) (ti := ti31) (tj := ti87) (e := 87) (k := .i64) tbok rfl hx7) ?_
  refine ckn tbok 4 ⟨41, [(0, vl eCandidate aList), (3, vi s3.1), (4, .ref 4 0), (5, vl eCandidate aList), (6, vi (aList.length : Int)), (7, vi s3.1)], [(4, .box (tc eCandidate x7))]⟩ ?_
  refine swp_seq ?_
  refine swp_drJ mixed h (fun j13 => ⟨41, [(0, vl eCandidate aList), (5, vl eCandidate aList), (6, vi (aList.length : Int)), (7, vi s3.1), (36, vb j13)], []⟩) (fun v14 h => ?_) (fun j13 h => ?_)
  refine DGo.ck tbok false 2 ⟨41, [(0, vl eCandidate aList), (3, vi s3.1), (4, .ref 4 0), (5, vl eCandidate aList), (6, vi (aList.length : Int)), (7, vi s3.1), (13, vs x7.Code)], [(4, .box (tc eCandidate x7))]⟩ ?_
  obtain ⟨x8, hx8, h⟩ := bind_some h
  refine DGo.step (xc ents86 (impl_IsWord_run x7.Code _ hx8)) ?_
  refine DGo.ck tbok false 2 ⟨41, [(0, vl eCandidate aList), (3, vi s3.1), (4, .ref 4 0), (5, vl eCandidate aList), (6, vi (aList.length : Int)), (7, vi s3.1), (16, vb (!x8))], [(4, .box (tc eCandidate x7))]⟩ ?_
  refine DGo.cu [(16, fun b => b)] h (fun h => ?_) fun h => ?_
  refine DGo.ck tbok false 20 ⟨41, [(0, vl eCandidate aList), (5, vl eCandidate aList), (6, vi (aList.length : Int)), (7, vi s3.1), (36, vb true)], []⟩ ?_
  refine DGo.nil (by kernel_rfl) ?_
  obtain rfl := inj h
  exact Le.sub0
  refine DGo.ck tbok false 2 ⟨41, [(0, vl eCandidate aList), (3, vi s3.1), (4, .ref 4 0), (5, vl eCandidate aList), (6, vi (aList.length : Int)), (7, vi s3.1), (16, vb false), (18, vs x7.Text)], [(4, .box (tc eCandidate x7))]⟩ ?_
  obtain ⟨x9, hx9, h⟩ := bind_some h
  refine DGo.step (xc ents87 (impl_IsPhrase_run x7.Text _ hx9)) ?_
  refine DGo.ck tbok false 3 ⟨41, [(0, vl eCandidate aList), (3, vi s3.1), (4, .ref 4 0), (5, vl eCandidate aList), (6, vi (aList.length : Int)), (7, vi s3.1), (22, vb (!x9))], [(4, .box (tc eCandidate x7))]⟩ ?_
  refine DGo.cu [(22, fun b => b)] h (fun h => ?_) fun h => ?_
  refine DGo.ck tbok false 14 ⟨41, [(0, vl eCandidate aList), (5, vl eCandidate aList), (6, vi (aList.length : Int)), (7, vi s3.1), (36, vb true)], []⟩ ?_
  refine DGo.nil (by kernel_rfl) ?_
  obtain rfl := inj h
  exact Le.sub0
  refine DGo.ck tbok false 2 ⟨41, [(0, vl eCandidate aList), (3, vi s3.1), (4, .ref 4 0), (5, vl eCandidate aList), (6, vi (aList.length : Int)), (7, vi s3.1), (22, vb false), (24, .agg (tc ePoint x7.At))], [(4, .box (tc eCandidate x7))]⟩ ?_
  obtain ⟨x10, hx10, h⟩ := bind_some h
  refine DGo.step (xc ents88 (impl_IsPoint_run x7.At _ hx10)) ?_
  refine DGo.ck tbok false 3 ⟨41, [(0, vl eCandidate aList), (3, vi s3.1), (4, .ref 4 0), (5, vl eCandidate aList), (6, vi (aList.length : Int)), (7, vi s3.1), (28, vb (!x10))], [(4, .box (tc eCandidate x7))]⟩ ?_
  refine DGo.cu [(28, fun b => b)] h (fun h => ?_) fun h => ?_
  refine DGo.ck tbok false 8 ⟨41, [(0, vl eCandidate aList), (5, vl eCandidate aList), (6, vi (aList.length : Int)), (7, vi s3.1), (36, vb true)], []⟩ ?_
  refine DGo.nil (by kernel_rfl) ?_
  obtain rfl := inj h
  exact Le.sub0
  refine DGo.ck tbok false 2 ⟨41, [(0, vl eCandidate aList), (4, .ref 4 0), (5, vl eCandidate aList), (6, vi (aList.length : Int)), (7, vi s3.1), (28, vb false), (29, vl eCandidate aList), (30, vi s3.1)], [(4, .box (tc eCandidate x7))]⟩ ?_
  obtain ⟨x11, hx11, h⟩ := bind_some h
  refine DGo.step (x_slice (m := 4) (f := eCandidate) (ti := ti31) (tj := ti87) (e := 87) hx11 (fun _ => rfl) tbok rfl) ?_
  refine DGo.ck tbok false 2 ⟨41, [(0, vl eCandidate aList), (5, vl eCandidate aList), (6, vi (aList.length : Int)), (7, vi s3.1), (28, vb false), (31, vl eCandidate x11), (33, vs x7.Code)], []⟩ ?_
  obtain ⟨x12, hx12, h⟩ := bind_some h
  refine DGo.step (xc ents59 (impl_findCandidate_run x11 x7.Code _ hx12)) ?_
  refine DGo.ck tbok false 2 ⟨41, [(0, vl eCandidate aList), (5, vl eCandidate aList), (6, vi (aList.length : Int)), (7, vi s3.1), (36, vb (decide (x12 ≥ 0)))], []⟩ ?_
  refine DGo.nil (by kernel_rfl) ?_
  obtain rfl := inj h
  exact Le.sub0
  refine swp_cd h (fun h => ?_) fun h => ?_
  refine srk tbok ⟨41, [(2, vb false)], []⟩ ?_
  refine swp_ret ?_
  obtain rfl := inj h
  exact q_br (q_rr (q_rr (q_br (q_rr (q_fr (f1 fv))))))
  refine swp_skip ?_
  obtain rfl := inj h
  exact q_bn (q_l (Le.sub0))
  refine swp_reg ?_
  refine SRun.ck tbok 2 ⟨41, [(0, vl eCandidate aList), (5, vl eCandidate aList), (6, vi (aList.length : Int)), (7, vi (w64 (s3.1 + 1)))], []⟩ ?_
  refine SRun.nil ?_
  obtain rfl := inj h
  exact q_l (Le.sub0)
  refine swp_exit ?_
  obtain rfl := inj h
  exact nx_e (q_re (q_bh (q_l (Le.sub0))))
  refine srk tbok ⟨41, [(2, vb (decide ((aList.length : Int) ≤ 10)))], []⟩ ?_
  refine swp_ret ?_
  obtain rfl := inj h
  exact q_fr (f1 fv)
theorem ents45 : Ents Tryz.prog 45 := ents_of Tryz.func45 (by kernel_rfl) rfl
noncomputable def slices_Index_string (aS : (List ByteArray)) (aV : ByteArray) : Option (Int) :=
  (((forN (aS.length : Int) (fun (i3 : Int) (_ : Unit) => ((at' aS i3).bind fun x7 => (bif (aV.toList == x7.toList) then some (.inr (.inr i3)) else some (.inl ())))) (fun (_ : Unit) => .inl ()) 0 ())).bind (Sum.elim (fun (_ : Unit) => some (-1)) some))
theorem slices_Index_string_run (aS : (List ByteArray)) (aV : ByteArray) (r : Int) (h : slices_Index_string aS aV = some r) : SCall Tryz.prog 228 [.v (vl eS aS), .v (vs aV)] ⟨[.v (vi r)], [], false⟩ := by
  refine scall_in Tryz.func228 rfl [(.tmp 4)] rfl (fun r => ⟨[.v (vi r)], [], false⟩) (r := r) ?_
  unfold slices_Index_string at h
  refine srk tbok ⟨19, [(0, vl eS aS), (1, vs aV)], []⟩ ?_
  refine swp_seq ?_
  refine srk tbok ⟨19, [(0, vl eS aS), (1, vs aV), (7, vi (aS.length : Int)), (8, vi 0)], []⟩ ?_
  refine swp_seqE (r := r) h (fun j1 => ⟨19, [], []⟩) (fun v2 h => ?_) (fun j1 h => ?_)
  refine swp_blk (a := v2) ?_
  refine swp_lpL (r := v2) (s := (0, ())) _ (fun s3 => ⟨19, [(0, vl eS aS), (1, vs aV), (7, vi (aS.length : Int)), (8, vi s3.1)], []⟩) _ (Le.sub0) h (fun s3 v4 h => ?_)
  refine srk tbok ⟨19, [(0, vl eS aS), (1, vs aV), (7, vi (aS.length : Int)), (8, vi s3.1), (9, vb (decide (s3.1 < (aS.length : Int))))], []⟩ ?_
  refine swp_seq ?_
  refine swp_cd h (fun h => ?_) fun h => ?_
  refine swp_skip ?_
  refine nx_n ?_
  refine swp_seq ?_
  refine swp_seqL (r := v4) h (fun j5 => ⟨19, [(0, vl eS aS), (1, vs aV), (7, vi (aS.length : Int)), (8, vi s3.1)], []⟩) (fun v6 h => ?_) (fun j5 h => ?_)
  refine swp_blk (a := v6) ?_
  refine srk tbok ⟨19, [(0, vl eS aS), (1, vs aV), (5, vi s3.1), (7, vi (aS.length : Int)), (8, vi s3.1)], []⟩ ?_
  refine sr ?_
  refine SRun.ck tbok 3 ⟨19, [(0, vl eS aS), (1, vs aV), (5, vi s3.1), (7, vi (aS.length : Int)), (8, vi s3.1), (11, vs aV), (12, vl eS aS), (13, vi s3.1)], []⟩ ?_
  obtain ⟨x7, hx7, h⟩ := bind_some h
  refine SRun.ls (x_index (L := aS) (f := eS) (ti := ti28) (tj := ti9) (e := 9) (k := .i64) tbok rfl hx7) ?_
  refine ckn tbok 2 ⟨19, [(0, vl eS aS), (1, vs aV), (5, vi s3.1), (7, vi (aS.length : Int)), (8, vi s3.1), (16, vb (aV.toList == x7.toList))], []⟩ ?_
  refine swp_cd h (fun h => ?_) fun h => ?_
  refine srk tbok ⟨19, [(4, vi s3.1)], []⟩ ?_
  refine swp_ret ?_
  obtain rfl := inj h
  exact q_br (q_rr (q_rr (q_br (q_rr (q_fr (f1 fv))))))
  refine swp_skip ?_
  obtain rfl := inj h
  exact q_bn (q_l (Le.sub0))
  refine swp_reg ?_
  refine SRun.ck tbok 2 ⟨19, [(0, vl eS aS), (1, vs aV), (7, vi (aS.length : Int)), (8, vi (w64 (s3.1 + 1)))], []⟩ ?_
  refine SRun.nil ?_
  obtain rfl := inj h
  exact q_l (Le.sub0)
  refine swp_exit ?_
  obtain rfl := inj h
  exact nx_e (q_re (q_bh (q_l (Le.sub0))))
  refine srk tbok ⟨19, [(4, vi (-1))], []⟩ ?_
  refine swp_ret ?_
  obtain rfl := inj h
  exact q_fr (f1 fv)
theorem ents228 : Ents Tryz.prog 228 := ents_of Tryz.func228 (by kernel_rfl) rfl
noncomputable def slices_Contains_string (aS : (List ByteArray)) (aV : ByteArray) : Option (Bool) :=
  ((slices_Index_string aS aV).bind fun x1 => some (decide (x1 ≥ 0)))
theorem slices_Contains_string_run (aS : (List ByteArray)) (aV : ByteArray) (r : Bool) (h : slices_Contains_string aS aV = some r) : SCall Tryz.prog 202 [.v (vl eS aS), .v (vs aV)] ⟨[.v (vb r)], [], false⟩ := by
  refine scall_in Tryz.func202 rfl [(.tmp 4)] rfl (fun r => ⟨[.v (vb r)], [], false⟩) (r := r) ?_
  unfold slices_Contains_string at h
  refine srk tbok ⟨9, [(0, vl eS aS), (1, vs aV)], []⟩ ?_
  refine sr ?_
  refine SRun.ck tbok 2 ⟨9, [(5, vl eS aS), (6, vs aV)], []⟩ ?_
  obtain ⟨x1, hx1, h⟩ := bind_some h
  refine SRun.ls (xc ents228 (slices_Index_string_run aS aV _ hx1)) ?_
  refine ckn tbok 2 ⟨9, [(4, vb (decide (x1 ≥ 0)))], []⟩ ?_
  refine swp_ret ?_
  obtain rfl := inj h
  exact q_fr (f1 fv)
theorem ents202 : Ents Tryz.prog 202 := ents_of Tryz.func202 (by kernel_rfl) rfl
noncomputable def impl_isOwnWord (aS : ByteArray) : Option (Bool) :=
  ((((slices_Contains_string ([(ByteArray.mk #[97, 116]), (ByteArray.mk #[110, 101, 97, 114]), (ByteArray.mk #[111, 102]), (ByteArray.mk #[98, 101, 116, 119, 101, 101, 110]), (ByteArray.mk #[97, 110, 100]), (ByteArray.mk #[109, 105, 108, 101]), (ByteArray.mk #[109, 105, 108, 101, 115]), (ByteArray.mk #[108, 101, 97, 103, 117, 101]), (ByteArray.mk #[108, 101, 97, 103, 117, 101, 115])] : List ByteArray) aS).bind fun x1 => (bif x1 then some true else ((slices_Contains_string glob0 aS).bind fun x2 => some x2)))).bind fun (j3 : Bool) => some j3)
theorem impl_isOwnWord_run (aS : ByteArray) (r : Bool) (h : impl_isOwnWord aS = some r) : SCall Tryz.prog 164 [.v (vs aS)] ⟨[.v (vb r)], [], false⟩ := by
  refine scall_in Tryz.func164 rfl [(.tmp 2)] rfl (fun r => ⟨[.v (vb r)], [], false⟩) (r := r) ?_
  unfold impl_isOwnWord at h
  refine srk tbok ⟨11, [(0, vs aS)], []⟩ ?_
  refine swp_seq ?_
  refine swp_regJ h (fun j3 => ⟨11, [(2, vb j3)], []⟩) (fun v4 h => ?_) (fun j3 h => ?_)
  refine SRun.ck tbok 2 ⟨11, [(0, vs aS), (3, .own 3), (4, vs aS)], [(3, oa 9 1 eS ([(ByteArray.mk #[97, 116]), (ByteArray.mk #[110, 101, 97, 114]), (ByteArray.mk #[111, 102]), (ByteArray.mk #[98, 101, 116, 119, 101, 101, 110]), (ByteArray.mk #[97, 110, 100]), (ByteArray.mk #[109, 105, 108, 101]), (ByteArray.mk #[109, 105, 108, 101, 115]), (ByteArray.mk #[108, 101, 97, 103, 117, 101]), (ByteArray.mk #[108, 101, 97, 103, 117, 101, 115])] : List ByteArray))]⟩ ?_
  obtain ⟨x1, hx1, h⟩ := bind_some h
  refine SRun.ls (xc ents202 (slices_Contains_string_run ([(ByteArray.mk #[97, 116]), (ByteArray.mk #[110, 101, 97, 114]), (ByteArray.mk #[111, 102]), (ByteArray.mk #[98, 101, 116, 119, 101, 101, 110]), (ByteArray.mk #[97, 110, 100]), (ByteArray.mk #[109, 105, 108, 101]), (ByteArray.mk #[109, 105, 108, 101, 115]), (ByteArray.mk #[108, 101, 97, 103, 117, 101]), (ByteArray.mk #[108, 101, 97, 103, 117, 101, 115])] : List ByteArray) aS _ hx1)) ?_
  refine SRun.ck tbok 1 ⟨11, [(0, vs aS), (6, vb x1)], []⟩ ?_
  refine SRun.cu [(6, fun b => b)] h (fun h => ?_) fun h => ?_
  refine SRun.ck tbok 5 ⟨11, [(2, vb true)], []⟩ ?_
  refine SRun.nil ?_
  obtain rfl := inj h
  exact Le.sub0
  refine SRun.ls (lstep_slice_glob (L := glob0) (n := 8) (e := 9) (ti := ti138) (tj := ti9) tbok rfl (by kernel_rfl) (by kernel_rfl) List.mem_cons_self (by kernel_rfl) rfl (by kernel_rfl) rfl (by kernel_rfl) (by kernel_rfl)) ?_
  refine SRun.ck tbok 1 ⟨11, [(6, vb false), (7, vl eS glob0), (8, vs aS)], []⟩ ?_
  obtain ⟨x2, hx2, h⟩ := bind_some h
  refine SRun.ls (xc ents202 (slices_Contains_string_run glob0 aS _ hx2)) ?_
  refine SRun.ck tbok 2 ⟨11, [(2, vb x2)], []⟩ ?_
  refine SRun.nil ?_
  obtain rfl := inj h
  exact Le.sub0
  refine swp_ret ?_
  obtain rfl := inj h
  exact q_fr (f1 fv)
theorem ents164 : Ents Tryz.prog 164 := ents_of Tryz.func164 (by kernel_rfl) rfl
noncomputable def impl_isCode (aS : ByteArray) : Option (Bool) :=
  ((((impl_IsWord aS).bind fun x1 => (bif x1 then ((impl_isOwnWord aS).bind fun x2 => some (!x2)) else some false))).bind fun (j3 : Bool) => some j3)
theorem impl_isCode_run (aS : ByteArray) (r : Bool) (h : impl_isCode aS = some r) : SCall Tryz.prog 139 [.v (vs aS)] ⟨[.v (vb r)], [], false⟩ := by
  refine scall_in Tryz.func139 rfl [(.tmp 2)] rfl (fun r => ⟨[.v (vb r)], [], false⟩) (r := r) ?_
  unfold impl_isCode at h
  refine srk tbok ⟨10, [(0, vs aS)], []⟩ ?_
  refine swp_seq ?_
  refine swp_regJ h (fun j3 => ⟨10, [(2, vb j3)], []⟩) (fun v4 h => ?_) (fun j3 h => ?_)
  refine SRun.ck tbok 1 ⟨10, [(0, vs aS), (3, vs aS)], []⟩ ?_
  obtain ⟨x1, hx1, h⟩ := bind_some h
  refine SRun.ls (xc ents86 (impl_IsWord_run aS _ hx1)) ?_
  refine SRun.ck tbok 1 ⟨10, [(0, vs aS), (5, vb x1)], []⟩ ?_
  refine SRun.cu [(5, fun b => b)] h (fun h => ?_) fun h => ?_
  refine SRun.ck tbok 1 ⟨10, [(5, vb true), (6, vs aS)], []⟩ ?_
  obtain ⟨x2, hx2, h⟩ := bind_some h
  refine SRun.ls (xc ents164 (impl_isOwnWord_run aS _ hx2)) ?_
  refine SRun.ck tbok 3 ⟨10, [(2, vb (!x2))], []⟩ ?_
  refine SRun.nil ?_
  obtain rfl := inj h
  exact Le.sub0
  refine SRun.ck tbok 5 ⟨10, [(2, vb false)], []⟩ ?_
  refine SRun.nil ?_
  obtain rfl := inj h
  exact Le.sub0
  refine swp_ret ?_
  obtain rfl := inj h
  exact q_fr (f1 fv)
theorem ents139 : Ents Tryz.prog 139 := ents_of Tryz.func139 (by kernel_rfl) rfl
noncomputable def impl_AreSites (aList : (List Site)) : Option (Bool) :=
  (((forN (aList.length : Int) (fun (i3 : Int) (_ : Unit) => ((at' aList i3).bind fun x7 => ((((impl_isCode x7.Code).bind fun x8 => (bif (!x8) then some true else ((impl_IsPoint x7.At).bind fun x9 => (bif (!x9) then some true else (bif (decide (i3 > 0)) then ((at' aList (w64 (i3 - 1))).bind fun x10 => some (!(Op.bytesLess x10.Code.toList x7.Code.toList))) else some false)))))).bind fun (j11 : Bool) => (bif j11 then some (.inr (.inr false)) else some (.inl ()))))) (fun (_ : Unit) => .inl ()) 0 ())).bind (Sum.elim (fun (_ : Unit) => some (decide ((aList.length : Int) ≤ 10))) some))
theorem impl_AreSites_run (aList : (List Site)) (r : Bool) (h : impl_AreSites aList = some r) : SCall Tryz.prog 100 [.v (vl eSite aList)] ⟨[.v (vb r)], [], false⟩ := by
  refine scall_in Tryz.func100 rfl [(.tmp 2)] rfl (fun r => ⟨[.v (vb r)], [], false⟩) (r := r) ?_
  unfold impl_AreSites at h
  refine srk tbok ⟨41, [(0, vl eSite aList)], []⟩ ?_
  refine swp_seq ?_
  refine srk tbok ⟨41, [(0, vl eSite aList), (5, vl eSite aList), (6, vi (aList.length : Int)), (7, vi 0)], []⟩ ?_
  refine swp_seqE (r := r) h (fun j1 => ⟨41, [(0, vl eSite aList)], []⟩) (fun v2 h => ?_) (fun j1 h => ?_)
  refine swp_blk (a := v2) ?_
  refine swp_lpL (r := v2) (s := (0, ())) _ (fun s3 => ⟨41, [(0, vl eSite aList), (5, vl eSite aList), (6, vi (aList.length : Int)), (7, vi s3.1)], []⟩) _ (Le.sub0) h (fun s3 v4 h => ?_)
  refine srk tbok ⟨41, [(0, vl eSite aList), (5, vl eSite aList), (6, vi (aList.length : Int)), (7, vi s3.1), (8, vb (decide (s3.1 < (aList.length : Int))))], []⟩ ?_
  refine swp_seq ?_
  refine swp_cd h (fun h => ?_) fun h => ?_
  refine swp_skip ?_
  refine nx_n ?_
  refine swp_seq ?_
  refine swp_seqL (r := v4) h (fun j5 => ⟨41, [(0, vl eSite aList), (5, vl eSite aList), (6, vi (aList.length : Int)), (7, vi s3.1)], []⟩) (fun v6 h => ?_) (fun j5 h => ?_)
  refine swp_blk (a := v6) ?_
  refine sr ?_
  refine SRun.ck tbok 1 ⟨41, [(0, vl eSite aList), (5, vl eSite aList), (6, vi (aList.length : Int)), (7, vi s3.1), (9, vi s3.1)], []⟩ ?_
  obtain ⟨x7, hx7, h⟩ := bind_some h
  refine SRun.ls (x_index (L := aList) (f := eSite) (ti := ti33) (tj := ti92) (e := 92) (k := .i64) tbok rfl hx7) ?_
  refine ckn tbok 4 ⟨41, [(0, vl eSite aList), (3, vi s3.1), (4, .ref 4 0), (5, vl eSite aList), (6, vi (aList.length : Int)), (7, vi s3.1)], [(4, .box (tc eSite x7))]⟩ ?_
  refine swp_seq ?_
  refine swp_drJ mixed h (fun j11 => ⟨41, [(0, vl eSite aList), (5, vl eSite aList), (6, vi (aList.length : Int)), (7, vi s3.1), (36, vb j11)], []⟩) (fun v12 h => ?_) (fun j11 h => ?_)
  refine DGo.ck tbok false 2 ⟨41, [(0, vl eSite aList), (3, vi s3.1), (4, .ref 4 0), (5, vl eSite aList), (6, vi (aList.length : Int)), (7, vi s3.1), (13, vs x7.Code)], [(4, .box (tc eSite x7))]⟩ ?_
  obtain ⟨x8, hx8, h⟩ := bind_some h
  refine DGo.step (xc ents139 (impl_isCode_run x7.Code _ hx8)) ?_
  refine DGo.ck tbok false 2 ⟨41, [(0, vl eSite aList), (3, vi s3.1), (4, .ref 4 0), (5, vl eSite aList), (6, vi (aList.length : Int)), (7, vi s3.1), (16, vb (!x8))], [(4, .box (tc eSite x7))]⟩ ?_
  refine DGo.cu [(16, fun b => b)] h (fun h => ?_) fun h => ?_
  refine DGo.ck tbok false 20 ⟨41, [(0, vl eSite aList), (5, vl eSite aList), (6, vi (aList.length : Int)), (7, vi s3.1), (36, vb true)], []⟩ ?_
  refine DGo.nil (by kernel_rfl) ?_
  obtain rfl := inj h
  exact Le.sub0
  refine DGo.ck tbok false 2 ⟨41, [(0, vl eSite aList), (3, vi s3.1), (4, .ref 4 0), (5, vl eSite aList), (6, vi (aList.length : Int)), (7, vi s3.1), (16, vb false), (18, .agg (tc ePoint x7.At))], [(4, .box (tc eSite x7))]⟩ ?_
  obtain ⟨x9, hx9, h⟩ := bind_some h
  refine DGo.step (xc ents88 (impl_IsPoint_run x7.At _ hx9)) ?_
  refine DGo.ck tbok false 3 ⟨41, [(0, vl eSite aList), (3, vi s3.1), (4, .ref 4 0), (5, vl eSite aList), (6, vi (aList.length : Int)), (7, vi s3.1), (22, vb (!x9))], [(4, .box (tc eSite x7))]⟩ ?_
  refine DGo.cu [(22, fun b => b)] h (fun h => ?_) fun h => ?_
  refine DGo.ck tbok false 14 ⟨41, [(0, vl eSite aList), (5, vl eSite aList), (6, vi (aList.length : Int)), (7, vi s3.1), (36, vb true)], []⟩ ?_
  refine DGo.nil (by kernel_rfl) ?_
  obtain rfl := inj h
  exact Le.sub0
  refine DGo.ck tbok false 3 ⟨41, [(0, vl eSite aList), (3, vi s3.1), (4, .ref 4 0), (5, vl eSite aList), (6, vi (aList.length : Int)), (7, vi s3.1), (22, vb false), (25, vb (decide (s3.1 > 0)))], [(4, .box (tc eSite x7))]⟩ ?_
  refine DGo.cu [(25, fun b => b)] h (fun h => ?_) fun h => ?_
  refine DGo.ck tbok false 3 ⟨41, [(0, vl eSite aList), (4, .ref 4 0), (5, vl eSite aList), (6, vi (aList.length : Int)), (7, vi s3.1), (22, vb false), (25, vb true), (26, vl eSite aList), (28, vi (w64 (s3.1 - 1)))], [(4, .box (tc eSite x7))]⟩ ?_
  obtain ⟨x10, hx10, h⟩ := bind_some h
  refine DGo.step (x_index (L := aList) (f := eSite) (ti := ti33) (tj := ti92) (e := 92) (k := .i64) tbok rfl hx10) ?_
  refine DGo.ck tbok false 7 ⟨41, [(0, vl eSite aList), (5, vl eSite aList), (6, vi (aList.length : Int)), (7, vi s3.1), (36, vb (!(Op.bytesLess x10.Code.toList x7.Code.toList)))], []⟩ ?_
  refine DGo.nil (by kernel_rfl) ?_
  obtain rfl := inj h
  exact Le.sub0
  refine DGo.ck tbok false 11 ⟨41, [(0, vl eSite aList), (5, vl eSite aList), (6, vi (aList.length : Int)), (7, vi s3.1), (36, vb false)], []⟩ ?_
  refine DGo.nil (by kernel_rfl) ?_
  obtain rfl := inj h
  exact Le.sub0
  refine swp_cd h (fun h => ?_) fun h => ?_
  refine srk tbok ⟨41, [(2, vb false)], []⟩ ?_
  refine swp_ret ?_
  obtain rfl := inj h
  exact q_br (q_rr (q_rr (q_br (q_rr (q_fr (f1 fv))))))
  refine swp_skip ?_
  obtain rfl := inj h
  exact q_bn (q_l (Le.sub0))
  refine swp_reg ?_
  refine SRun.ck tbok 2 ⟨41, [(0, vl eSite aList), (5, vl eSite aList), (6, vi (aList.length : Int)), (7, vi (w64 (s3.1 + 1)))], []⟩ ?_
  refine SRun.nil ?_
  obtain rfl := inj h
  exact q_l (Le.sub0)
  refine swp_exit ?_
  obtain rfl := inj h
  exact nx_e (q_re (q_bh (q_l (Le.sub0))))
  refine srk tbok ⟨41, [(2, vb (decide ((aList.length : Int) ≤ 10)))], []⟩ ?_
  refine swp_ret ?_
  obtain rfl := inj h
  exact q_fr (f1 fv)
theorem ents100 : Ents Tryz.prog 100 := ents_of Tryz.func100 (by kernel_rfl) rfl
noncomputable def impl_isUnit (aUnit : ByteArray) (aCount : Int) : Option (Bool) :=
  (bif (aCount == 1) then some ((aUnit.toList == (ByteArray.mk #[109, 105, 108, 101]).toList) || (aUnit.toList == (ByteArray.mk #[108, 101, 97, 103, 117, 101]).toList)) else some ((aUnit.toList == (ByteArray.mk #[109, 105, 108, 101, 115]).toList) || (aUnit.toList == (ByteArray.mk #[108, 101, 97, 103, 117, 101, 115]).toList)))
theorem impl_isUnit_run (aUnit : ByteArray) (aCount : Int) (r : Bool) (h : impl_isUnit aUnit aCount = some r) : SCall Tryz.prog 141 [.v (vs aUnit), .v (vi aCount)] ⟨[.v (vb r)], [], false⟩ := by
  refine scall_in Tryz.func141 rfl [(.tmp 4)] rfl (fun r => ⟨[.v (vb r)], [], false⟩) (r := r) ?_
  unfold impl_isUnit at h
  refine srk tbok ⟨19, [(0, vs aUnit), (1, vi aCount)], []⟩ ?_
  refine swp_seq ?_
  refine srk tbok ⟨19, [(0, vs aUnit), (6, vb (aCount == 1))], []⟩ ?_
  refine swp_cd h (fun h => ?_) fun h => ?_
  refine swp_seq ?_
  refine swp_regP ⟨19, [(4, vb ((aUnit.toList == (ByteArray.mk #[109, 105, 108, 101]).toList) || (aUnit.toList == (ByteArray.mk #[108, 101, 97, 103, 117, 101]).toList)))], []⟩ ?_ ?_
  refine SRun.ck tbok 3 ⟨19, [(0, vs aUnit), (9, vb (aUnit.toList == (ByteArray.mk #[109, 105, 108, 101]).toList))], []⟩ ?_
  generalize (aUnit.toList == (ByteArray.mk #[109, 105, 108, 101]).toList) = bb
  cases bb
  refine SRun.ck tbok 4 ⟨19, [(4, vb (aUnit.toList == (ByteArray.mk #[108, 101, 97, 103, 117, 101]).toList))], []⟩ ?_
  exact SRun.nil (Le.sub0)
  refine SRun.ck tbok 4 ⟨19, [(4, vb true)], []⟩ ?_
  exact SRun.nil (Le.sub0)
  refine swp_ret ?_
  obtain rfl := inj h
  exact nx_r (q_fr (f1 fv))
  refine swp_skip ?_
  refine nx_n ?_
  refine swp_seq ?_
  refine swp_regP ⟨19, [(4, vb ((aUnit.toList == (ByteArray.mk #[109, 105, 108, 101, 115]).toList) || (aUnit.toList == (ByteArray.mk #[108, 101, 97, 103, 117, 101, 115]).toList)))], []⟩ ?_ ?_
  refine SRun.ck tbok 3 ⟨19, [(0, vs aUnit), (15, vb (aUnit.toList == (ByteArray.mk #[109, 105, 108, 101, 115]).toList))], []⟩ ?_
  generalize (aUnit.toList == (ByteArray.mk #[109, 105, 108, 101, 115]).toList) = bb
  cases bb
  refine SRun.ck tbok 4 ⟨19, [(4, vb (aUnit.toList == (ByteArray.mk #[108, 101, 97, 103, 117, 101, 115]).toList))], []⟩ ?_
  exact SRun.nil (Le.sub0)
  refine SRun.ck tbok 4 ⟨19, [(4, vb true)], []⟩ ?_
  exact SRun.nil (Le.sub0)
  refine swp_ret ?_
  obtain rfl := inj h
  exact q_fr (f1 fv)
theorem ents141 : Ents Tryz.prog 141 := ents_of Tryz.func141 (by kernel_rfl) rfl
noncomputable def impl_IsDescription (aD : Description) : Option (Bool) :=
  ((impl_isCode aD.A).bind fun x1 => (bif (!x1) then some false else (((((bif (aD.Kind == 0) then some (aD.Kind == 0) else some (aD.Kind == 1))).bind fun (j4 : Bool) => (bif j4 then some (.inr ((aD.Kind == aD.Kind) && ((aD.Count == 0) && ((aD.Unit.toList == (ByteArray.mk #[]).toList) && ((aD.Direction == 0) && ((aD.A.toList == aD.A.toList) && (aD.B.toList == (ByteArray.mk #[]).toList))))))) else (bif (aD.Kind == 2) then ((((impl_within aD.Count 1 99).bind fun x6 => (bif x6 then ((impl_isUnit aD.Unit aD.Count).bind fun x7 => (bif x7 then ((impl_within aD.Direction 0 7).bind fun x8 => (bif x8 then some (aD.B.toList == (ByteArray.mk #[]).toList) else some false)) else some false)) else some false))).bind fun (j9 : Bool) => some (.inr j9)) else (bif (aD.Kind == 3) then (((bif ((aD.Kind == aD.Kind) && ((aD.Count == 0) && ((aD.Unit.toList == (ByteArray.mk #[]).toList) && ((aD.Direction == 0) && ((aD.A.toList == aD.A.toList) && (aD.B.toList == aD.B.toList)))))) then ((impl_isCode aD.B).bind fun x11 => (bif x11 then some (!(aD.A.toList == aD.B.toList)) else some false)) else some false)).bind fun (j12 : Bool) => some (.inr j12)) else some (.inl ())))))).bind (Sum.elim (fun (_ : Unit) => some false) some))))
theorem impl_IsDescription_run (aD : Description) (r : Bool) (h : impl_IsDescription aD = some r) : SCall Tryz.prog 103 [.v (.agg (tc eDescription aD))] ⟨[.v (vb r)], [], false⟩ := by
  refine scall_in Tryz.func103 rfl [(.tmp 2)] rfl (fun r => ⟨[.v (vb r)], [], false⟩) (r := r) ?_
  unfold impl_IsDescription at h
  refine srk tbok ⟨64, [(1, .ref 1 0)], [(1, .box (tc eDescription aD))]⟩ ?_
  refine swp_seq ?_
  refine sr ?_
  refine SRun.ck tbok 2 ⟨64, [(1, .ref 1 0), (4, vs aD.A)], [(1, .box (tc eDescription aD))]⟩ ?_
  obtain ⟨x1, hx1, h⟩ := bind_some h
  refine SRun.ls (xc ents139 (impl_isCode_run aD.A _ hx1)) ?_
  refine ckn tbok 1 ⟨64, [(1, .ref 1 0), (6, vb (!x1))], [(1, .box (tc eDescription aD))]⟩ ?_
  refine swp_cd h (fun h => ?_) fun h => ?_
  refine srk tbok ⟨64, [(2, vb false)], []⟩ ?_
  refine swp_ret ?_
  obtain rfl := inj h
  exact nx_r (q_fr (f1 fv))
  refine swp_skip ?_
  refine nx_n ?_
  refine swp_seq ?_
  refine srk tbok ⟨64, [(1, .ref 1 0), (8, vi aD.Kind)], [(1, .box (tc eDescription aD))]⟩ ?_
  refine swp_seqE (r := r) h (fun j2 => ⟨64, [], []⟩) (fun v3 h => ?_) (fun j2 h => ?_)
  refine swp_blk (a := v3) ?_
  refine swp_seq ?_
  refine srk tbok ⟨64, [(1, .ref 1 0), (8, vi aD.Kind), (9, vb (aD.Kind == 0))], [(1, .box (tc eDescription aD))]⟩ ?_
  refine swp_seqJ h (fun j4 => ⟨64, [(1, .ref 1 0), (8, vi aD.Kind), (9, vb j4)], [(1, .box (tc eDescription aD))]⟩) (fun v5 h => ?_) (fun j4 h => ?_)
  refine swp_cd h (fun h => ?_) fun h => ?_
  refine swp_skip ?_
  obtain rfl := inj h
  exact q_j (Le.sub0)
  refine swp_reg ?_
  refine SRun.ck tbok 2 ⟨64, [(1, .ref 1 0), (8, vi aD.Kind), (9, vb (aD.Kind == 1))], [(1, .box (tc eDescription aD))]⟩ ?_
  refine SRun.nil ?_
  obtain rfl := inj h
  exact q_j (Le.sub0)
  refine swp_cd h (fun h => ?_) fun h => ?_
  refine sr ?_
  refine SRun.ck tbok 5 ⟨64, [(12, .agg (tc eDescription aD)), (14, vi aD.Kind), (16, vs aD.A)], []⟩ ?_
  refine SRun.ls (x_lstep_build (v := .agg [vi aD.Kind, vi 0, vs (ByteArray.mk #[]), vi 0, vs aD.A, vs (ByteArray.mk #[])]) tbok rfl) ?_
  refine SRun.ls (x_lstep_eq tbok false (xs := [vi aD.Kind, vi aD.Count, vs aD.Unit, vi aD.Direction, vs aD.A, vs aD.B]) (ys := [vi aD.Kind, vi 0, vs (ByteArray.mk #[]), vi 0, vs aD.A, vs (ByteArray.mk #[])]) (b := ((aD.Kind == aD.Kind) && ((aD.Count == 0) && ((aD.Unit.toList == (ByteArray.mk #[]).toList) && ((aD.Direction == 0) && ((aD.A.toList == aD.A.toList) && (aD.B.toList == (ByteArray.mk #[]).toList))))))) rfl) ?_
  refine ckn tbok 1 ⟨64, [(2, vb ((aD.Kind == aD.Kind) && ((aD.Count == 0) && ((aD.Unit.toList == (ByteArray.mk #[]).toList) && ((aD.Direction == 0) && ((aD.A.toList == aD.A.toList) && (aD.B.toList == (ByteArray.mk #[]).toList)))))))], []⟩ ?_
  refine swp_ret ?_
  obtain rfl := inj h
  exact q_br (q_rr (q_fr (f1 fv)))
  refine srk tbok ⟨64, [(1, .ref 1 0), (8, vi aD.Kind), (19, vb (aD.Kind == 2))], [(1, .box (tc eDescription aD))]⟩ ?_
  refine swp_cd h (fun h => ?_) fun h => ?_
  refine swp_seq ?_
  refine swp_regJ h (fun j9 => ⟨64, [(2, vb j9)], []⟩) (fun v10 h => ?_) (fun j9 h => ?_)
  refine SRun.ck tbok 2 ⟨64, [(1, .ref 1 0), (22, vi aD.Count)], [(1, .box (tc eDescription aD))]⟩ ?_
  obtain ⟨x6, hx6, h⟩ := bind_some h
  refine SRun.ls (xc ents135 (impl_within_run aD.Count 1 99 _ hx6)) ?_
  refine SRun.ck tbok 1 ⟨64, [(1, .ref 1 0), (24, vb x6)], [(1, .box (tc eDescription aD))]⟩ ?_
  refine SRun.cu [(24, fun b => b)] h (fun h => ?_) fun h => ?_
  refine SRun.ck tbok 4 ⟨64, [(1, .ref 1 0), (24, vb true), (26, vs aD.Unit), (28, vi aD.Count)], [(1, .box (tc eDescription aD))]⟩ ?_
  obtain ⟨x7, hx7, h⟩ := bind_some h
  refine SRun.ls (xc ents141 (impl_isUnit_run aD.Unit aD.Count _ hx7)) ?_
  refine SRun.ck tbok 2 ⟨64, [(1, .ref 1 0), (31, vb x7)], [(1, .box (tc eDescription aD))]⟩ ?_
  refine SRun.cu [(31, fun b => b)] h (fun h => ?_) fun h => ?_
  refine SRun.ck tbok 2 ⟨64, [(1, .ref 1 0), (31, vb true), (33, vi aD.Direction)], [(1, .box (tc eDescription aD))]⟩ ?_
  obtain ⟨x8, hx8, h⟩ := bind_some h
  refine SRun.ls (xc ents135 (impl_within_run aD.Direction 0 7 _ hx8)) ?_
  refine SRun.ck tbok 2 ⟨64, [(1, .ref 1 0), (36, vb x8)], [(1, .box (tc eDescription aD))]⟩ ?_
  refine SRun.cu [(36, fun b => b)] h (fun h => ?_) fun h => ?_
  refine SRun.ck tbok 5 ⟨64, [(2, vb (aD.B.toList == (ByteArray.mk #[]).toList))], []⟩ ?_
  refine SRun.nil ?_
  obtain rfl := inj h
  exact Le.sub0
  refine SRun.ck tbok 5 ⟨64, [(2, vb false)], []⟩ ?_
  refine SRun.nil ?_
  obtain rfl := inj h
  exact Le.sub0
  refine SRun.ck tbok 10 ⟨64, [(2, vb false)], []⟩ ?_
  refine SRun.nil ?_
  obtain rfl := inj h
  exact Le.sub0
  refine SRun.ck tbok 17 ⟨64, [(2, vb false)], []⟩ ?_
  refine SRun.nil ?_
  obtain rfl := inj h
  exact Le.sub0
  refine swp_ret ?_
  obtain rfl := inj h
  exact q_br (q_rr (q_fr (f1 fv)))
  refine srk tbok ⟨64, [(1, .ref 1 0), (41, vb (aD.Kind == 3))], [(1, .box (tc eDescription aD))]⟩ ?_
  refine swp_cd h (fun h => ?_) fun h => ?_
  refine swp_seq ?_
  refine swp_regJ h (fun j12 => ⟨64, [(2, vb j12)], []⟩) (fun v13 h => ?_) (fun j12 h => ?_)
  refine SRun.ck tbok 7 ⟨64, [(1, .ref 1 0), (43, .agg (tc eDescription aD)), (45, vi aD.Kind), (47, vs aD.A), (49, vs aD.B)], [(1, .box (tc eDescription aD))]⟩ ?_
  refine SRun.ls (x_lstep_build (v := .agg [vi aD.Kind, vi 0, vs (ByteArray.mk #[]), vi 0, vs aD.A, vs aD.B]) tbok rfl) ?_
  refine SRun.ls (x_lstep_eq tbok false (xs := [vi aD.Kind, vi aD.Count, vs aD.Unit, vi aD.Direction, vs aD.A, vs aD.B]) (ys := [vi aD.Kind, vi 0, vs (ByteArray.mk #[]), vi 0, vs aD.A, vs aD.B]) (b := ((aD.Kind == aD.Kind) && ((aD.Count == 0) && ((aD.Unit.toList == (ByteArray.mk #[]).toList) && ((aD.Direction == 0) && ((aD.A.toList == aD.A.toList) && (aD.B.toList == aD.B.toList))))))) rfl) ?_
  refine SRun.ck tbok 1 ⟨64, [(1, .ref 1 0), (52, vb ((aD.Kind == aD.Kind) && ((aD.Count == 0) && ((aD.Unit.toList == (ByteArray.mk #[]).toList) && ((aD.Direction == 0) && ((aD.A.toList == aD.A.toList) && (aD.B.toList == aD.B.toList)))))))], [(1, .box (tc eDescription aD))]⟩ ?_
  refine SRun.cu [(52, fun b => b)] h (fun h => ?_) fun h => ?_
  refine SRun.ck tbok 2 ⟨64, [(1, .ref 1 0), (52, vb true), (54, vs aD.B)], [(1, .box (tc eDescription aD))]⟩ ?_
  obtain ⟨x11, hx11, h⟩ := bind_some h
  refine SRun.ls (xc ents139 (impl_isCode_run aD.B _ hx11)) ?_
  refine SRun.ck tbok 2 ⟨64, [(1, .ref 1 0), (57, vb x11)], [(1, .box (tc eDescription aD))]⟩ ?_
  refine SRun.cu [(57, fun b => b)] h (fun h => ?_) fun h => ?_
  refine SRun.ck tbok 7 ⟨64, [(2, vb (!(aD.A.toList == aD.B.toList)))], []⟩ ?_
  refine SRun.nil ?_
  obtain rfl := inj h
  exact Le.sub0
  refine SRun.ck tbok 7 ⟨64, [(2, vb false)], []⟩ ?_
  refine SRun.nil ?_
  obtain rfl := inj h
  exact Le.sub0
  refine SRun.ck tbok 12 ⟨64, [(2, vb false)], []⟩ ?_
  refine SRun.nil ?_
  obtain rfl := inj h
  exact Le.sub0
  refine swp_ret ?_
  obtain rfl := inj h
  exact q_br (q_rr (q_fr (f1 fv)))
  refine swp_skip ?_
  obtain rfl := inj h
  exact q_bn (q_l (Le.sub0))
  refine srk tbok ⟨64, [(2, vb false)], []⟩ ?_
  refine swp_ret ?_
  obtain rfl := inj h
  exact q_fr (f1 fv)
theorem ents103 : Ents Tryz.prog 103 := ents_of Tryz.func103 (by kernel_rfl) rfl
noncomputable def impl_siteCode_1 (aD : Description) : Option (Bool) :=
  ((impl_IsDescription aD).bind fun x1 => some (!x1))
theorem impl_siteCode_1_run (aD : Description) (r : Bool) (h : impl_siteCode_1 aD = some r) : SCall Tryz.prog 102 [.v (.agg (tc eDescription aD))] ⟨[.v (vb r)], [], false⟩ := by
  refine scall_in Tryz.func102 rfl [(.tmp 2)] rfl (fun r => ⟨[.v (vb r)], [], false⟩) (r := r) ?_
  unfold impl_siteCode_1 at h
  refine srk tbok ⟨6, [(1, .ref 1 0)], [(1, .box (tc eDescription aD))]⟩ ?_
  refine sr ?_
  refine SRun.ck tbok 1 ⟨6, [(3, .agg (tc eDescription aD))], []⟩ ?_
  obtain ⟨x1, hx1, h⟩ := bind_some h
  refine SRun.ls (xc ents103 (impl_IsDescription_run aD _ hx1)) ?_
  refine ckn tbok 2 ⟨6, [(2, vb (!x1))], []⟩ ?_
  refine swp_ret ?_
  obtain rfl := inj h
  exact q_fr (f1 fv)
theorem ents102 : Ents Tryz.prog 102 := ents_of Tryz.func102 (by kernel_rfl) rfl
noncomputable def slices_IndexFunc_Description_impl_siteCode_1 (aS : (List Description)) : Option (Int) :=
  (((forN (aS.length : Int) (fun (i3 : Int) (_ : Unit) => ((at' aS i3).bind fun x7 => ((impl_siteCode_1 x7).bind fun x8 => (bif x8 then some (.inr (.inr i3)) else some (.inl ()))))) (fun (_ : Unit) => .inl ()) 0 ())).bind (Sum.elim (fun (_ : Unit) => some (-1)) some))
theorem slices_IndexFunc_Description_impl_siteCode_1_run (aS : (List Description)) (r : Int) (h : slices_IndexFunc_Description_impl_siteCode_1 aS = some r) : SCall Tryz.prog 140 [.v (vl eDescription aS), .v (.clo 102 [])] ⟨[.v (vi r)], [], false⟩ := by
  refine scall_in Tryz.func140 rfl [(.tmp 4)] rfl (fun r => ⟨[.v (vi r)], [], false⟩) (r := r) ?_
  unfold slices_IndexFunc_Description_impl_siteCode_1 at h
  refine srk tbok ⟨19, [(0, vl eDescription aS), (1, .clo 102 [])], []⟩ ?_
  refine swp_seq ?_
  refine srk tbok ⟨19, [(0, vl eDescription aS), (1, .clo 102 []), (7, vi (aS.length : Int)), (8, vi 0)], []⟩ ?_
  refine swp_seqE (r := r) h (fun j1 => ⟨19, [], []⟩) (fun v2 h => ?_) (fun j1 h => ?_)
  refine swp_blk (a := v2) ?_
  refine swp_lpL (r := v2) (s := (0, ())) _ (fun s3 => ⟨19, [(0, vl eDescription aS), (1, .clo 102 []), (7, vi (aS.length : Int)), (8, vi s3.1)], []⟩) _ (Le.sub0) h (fun s3 v4 h => ?_)
  refine srk tbok ⟨19, [(0, vl eDescription aS), (1, .clo 102 []), (7, vi (aS.length : Int)), (8, vi s3.1), (9, vb (decide (s3.1 < (aS.length : Int))))], []⟩ ?_
  refine swp_seq ?_
  refine swp_cd h (fun h => ?_) fun h => ?_
  refine swp_skip ?_
  refine nx_n ?_
  refine swp_seq ?_
  refine swp_seqL (r := v4) h (fun j5 => ⟨19, [(0, vl eDescription aS), (1, .clo 102 []), (7, vi (aS.length : Int)), (8, vi s3.1)], []⟩) (fun v6 h => ?_) (fun j5 h => ?_)
  refine swp_blk (a := v6) ?_
  refine srk tbok ⟨19, [(0, vl eDescription aS), (1, .clo 102 []), (5, vi s3.1), (7, vi (aS.length : Int)), (8, vi s3.1)], []⟩ ?_
  refine sr ?_
  refine SRun.ck tbok 3 ⟨19, [(0, vl eDescription aS), (1, .clo 102 []), (5, vi s3.1), (7, vi (aS.length : Int)), (8, vi s3.1), (11, .clo 102 []), (12, vl eDescription aS), (13, vi s3.1)], []⟩ ?_
  obtain ⟨x7, hx7, h⟩ := bind_some h
  refine SRun.ls (x_index (L := aS) (f := eDescription) (ti := ti35) (tj := ti84) (e := 84) (k := .i64) tbok rfl hx7) ?_
  refine SRun.ck tbok 1 ⟨19, [(0, vl eDescription aS), (1, .clo 102 []), (5, vi s3.1), (7, vi (aS.length : Int)), (8, vi s3.1), (11, .clo 102 []), (15, .agg (tc eDescription x7))], []⟩ ?_
  obtain ⟨x8, hx8, h⟩ := bind_some h
  refine SRun.ls (xc ents102 (impl_siteCode_1_run x7 _ hx8)) ?_
  refine SRun.nx ?_
  refine swp_cd h (fun h => ?_) fun h => ?_
  refine srk tbok ⟨19, [(4, vi s3.1)], []⟩ ?_
  refine swp_ret ?_
  obtain rfl := inj h
  exact q_br (q_rr (q_rr (q_br (q_rr (q_fr (f1 fv))))))
  refine swp_skip ?_
  obtain rfl := inj h
  exact q_bn (q_l (Le.sub0))
  refine swp_reg ?_
  refine SRun.ck tbok 2 ⟨19, [(0, vl eDescription aS), (1, .clo 102 []), (7, vi (aS.length : Int)), (8, vi (w64 (s3.1 + 1)))], []⟩ ?_
  refine SRun.nil ?_
  obtain rfl := inj h
  exact q_l (Le.sub0)
  refine swp_exit ?_
  obtain rfl := inj h
  exact nx_e (q_re (q_bh (q_l (Le.sub0))))
  refine srk tbok ⟨19, [(4, vi (-1))], []⟩ ?_
  refine swp_ret ?_
  obtain rfl := inj h
  exact q_fr (f1 fv)
theorem ents140 : Ents Tryz.prog 140 := ents_of Tryz.func140 (by kernel_rfl) rfl
noncomputable def slices_ContainsFunc_Description_impl_siteCode_1 (aS : (List Description)) : Option (Bool) :=
  ((slices_IndexFunc_Description_impl_siteCode_1 aS).bind fun x1 => some (decide (x1 ≥ 0)))
theorem slices_ContainsFunc_Description_impl_siteCode_1_run (aS : (List Description)) (r : Bool) (h : slices_ContainsFunc_Description_impl_siteCode_1 aS = some r) : SCall Tryz.prog 101 [.v (vl eDescription aS), .v (.clo 102 [])] ⟨[.v (vb r)], [], false⟩ := by
  refine scall_in Tryz.func101 rfl [(.tmp 4)] rfl (fun r => ⟨[.v (vb r)], [], false⟩) (r := r) ?_
  unfold slices_ContainsFunc_Description_impl_siteCode_1 at h
  refine srk tbok ⟨9, [(0, vl eDescription aS), (1, .clo 102 [])], []⟩ ?_
  refine sr ?_
  refine SRun.ck tbok 2 ⟨9, [(5, vl eDescription aS), (6, .clo 102 [])], []⟩ ?_
  obtain ⟨x1, hx1, h⟩ := bind_some h
  refine SRun.ls (xc ents140 (slices_IndexFunc_Description_impl_siteCode_1_run aS _ hx1)) ?_
  refine ckn tbok 2 ⟨9, [(4, vb (decide (x1 ≥ 0)))], []⟩ ?_
  refine swp_ret ?_
  obtain rfl := inj h
  exact q_fr (f1 fv)
theorem ents101 : Ents Tryz.prog 101 := ents_of Tryz.func101 (by kernel_rfl) rfl
noncomputable def impl_Description_places (aD : Description) : Option ((List ByteArray)) :=
  (bif (aD.Kind == 3) then some ([aD.A, aD.B] : List ByteArray) else some ([aD.A] : List ByteArray))
theorem impl_Description_places_run (aD : Description) (r : (List ByteArray)) (h : impl_Description_places aD = some r) : SCall Tryz.prog 104 [.v (.agg (tc eDescription aD))] ⟨[.own 9 1 r.length (r.map eS)], [], false⟩ := by
  refine scall_in Tryz.func104 rfl [(.tmp 2)] rfl (fun r => ⟨[.own 9 1 r.length (r.map eS)], [], false⟩) (r := r) ?_
  unfold impl_Description_places at h
  refine srk tbok ⟨14, [(1, .ref 1 0)], [(1, .box (tc eDescription aD))]⟩ ?_
  refine swp_seq ?_
  refine srk tbok ⟨14, [(1, .ref 1 0), (5, vb (aD.Kind == 3))], [(1, .box (tc eDescription aD))]⟩ ?_
  refine swp_cd h (fun h => ?_) fun h => ?_
  refine srk tbok ⟨14, [(2, .own 10)], [(10, oa 9 1 eS ([aD.A, aD.B] : List ByteArray))]⟩ ?_
  refine swp_ret ?_
  obtain rfl := inj h
  exact nx_r (q_fr (f1 (fo eS_flat)))
  refine swp_skip ?_
  refine nx_n ?_
  refine srk tbok ⟨14, [(2, .own 13)], [(13, oa 9 1 eS ([aD.A] : List ByteArray))]⟩ ?_
  refine swp_ret ?_
  obtain rfl := inj h
  exact q_fr (f1 (fo eS_flat))
theorem ents104 : Ents Tryz.prog 104 := ents_of Tryz.func104 (by kernel_rfl) rfl
theorem strings_Compare_run (s c : ByteArray) (r : Int) (h : strings_Compare s c = some r) : SCall Tryz.prog 129 [.v (.tr (.str s)), .v (.tr (.str c))] ⟨[.v (.tr (.int .i64 r))], [], false⟩ := compare_run Tryz.lays106 129 rfl s c r h
theorem ents129 : Ents Tryz.prog 129 := ents_of Tryz.func129 (by kernel_rfl) rfl
noncomputable def impl_findSite_1 (aS : Site) (aCode : ByteArray) : Option (Int) :=
  ((strings_Compare aS.Code aCode).bind fun x1 => some x1)
theorem impl_findSite_1_run (aS : Site) (aCode : ByteArray) (r : Int) (h : impl_findSite_1 aS aCode = some r) : SCall Tryz.prog 143 [.v (.agg (tc eSite aS)), .v (vs aCode)] ⟨[.v (vi r)], [], false⟩ := by
  refine scall_in Tryz.func143 rfl [(.tmp 4)] rfl (fun r => ⟨[.v (vi r)], [], false⟩) (r := r) ?_
  unfold impl_findSite_1 at h
  refine srk tbok ⟨9, [(1, vs aCode), (2, .ref 2 0)], [(2, .box (tc eSite aS))]⟩ ?_
  refine sr ?_
  refine SRun.ck tbok 3 ⟨9, [(6, vs aS.Code), (7, vs aCode)], []⟩ ?_
  obtain ⟨x1, hx1, h⟩ := bind_some h
  refine SRun.ls (xc ents129 (strings_Compare_run aS.Code aCode _ hx1)) ?_
  refine ckn tbok 1 ⟨9, [(4, vi x1)], []⟩ ?_
  refine swp_ret ?_
  obtain rfl := inj h
  exact q_fr (f1 fv)
theorem ents143 : Ents Tryz.prog 143 := ents_of Tryz.func143 (by kernel_rfl) rfl
noncomputable def slices_BinarySearchFunc_string_impl_findSite_1 (aX : (List Site)) (aTarget : ByteArray) : Option (Int × Bool) :=
  (((loop (fun (s3 : Int × Int) => (bif (decide (s3.1 < s3.2)) then ((at' aX (w64 (Int.fdiv (IntKind.wrap .u64 (w64 (s3.1 + s3.2))) (2 ^ 1)))).bind fun x5 => ((impl_findSite_1 x5 aTarget).bind fun x6 => (bif (decide (x6 < 0)) then some (.inl ((w64 ((w64 (Int.fdiv (IntKind.wrap .u64 (w64 (s3.1 + s3.2))) (2 ^ 1))) + 1)), s3.2)) else some (.inl (s3.1, (w64 (Int.fdiv (IntKind.wrap .u64 (w64 (s3.1 + s3.2))) (2 ^ 1)))))))) else some (.inr s3.1))) (0, (aX.length : Int)))).bind fun (j1 : Int) => (((bif (decide (j1 < (aX.length : Int))) then ((at' aX j1).bind fun x7 => ((impl_findSite_1 x7 aTarget).bind fun x8 => some (x8 == 0))) else some false)).bind fun (j9 : Bool) => some (j1, j9)))
theorem slices_BinarySearchFunc_string_impl_findSite_1_run (aX : (List Site)) (aTarget : ByteArray) (r : Int × Bool) (h : slices_BinarySearchFunc_string_impl_findSite_1 aX aTarget = some r) : SCall Tryz.prog 142 [.v (vl eSite aX), .v (vs aTarget), .v (.clo 143 [])] ⟨[.v (vi r.1), .v (vb r.2)], [], false⟩ := by
  refine scall_in Tryz.func142 rfl [(.tmp 6), (.tmp 7)] rfl (fun r => ⟨[.v (vi r.1), .v (vb r.2)], [], false⟩) (r := r) ?_
  unfold slices_BinarySearchFunc_string_impl_findSite_1 at h
  refine srk tbok ⟨49, [(0, vl eSite aX), (1, vs aTarget), (2, .clo 143 [])], []⟩ ?_
  refine srk tbok ⟨49, [(0, vl eSite aX), (1, vs aTarget), (2, .clo 143 []), (8, vi (aX.length : Int))], []⟩ ?_
  refine srk tbok ⟨49, [(0, vl eSite aX), (1, vs aTarget), (2, .clo 143 []), (8, vi (aX.length : Int)), (9, vi 0), (10, vi (aX.length : Int))], []⟩ ?_
  refine swp_seq ?_
  refine swp_seqJ h (fun j1 => ⟨49, [(0, vl eSite aX), (1, vs aTarget), (2, .clo 143 []), (8, vi (aX.length : Int)), (9, vi j1)], []⟩) (fun v2 h => ?_) (fun j1 h => ?_)
  refine swp_blk (a := v2) ?_
  refine swp_lpL (r := v2) (s := (0, (aX.length : Int))) _ (fun s3 => ⟨49, [(0, vl eSite aX), (1, vs aTarget), (2, .clo 143 []), (8, vi (aX.length : Int)), (9, vi s3.1), (10, vi s3.2)], []⟩) _ (Le.sub0) h (fun s3 v4 h => ?_)
  refine swp_seq ?_
  refine srk tbok ⟨49, [(0, vl eSite aX), (1, vs aTarget), (2, .clo 143 []), (8, vi (aX.length : Int)), (9, vi s3.1), (10, vi s3.2), (17, vb (decide (s3.1 < s3.2)))], []⟩ ?_
  refine swp_cd h (fun h => ?_) fun h => ?_
  refine swp_skip ?_
  refine nx_n ?_
  refine swp_blk (a := v4) ?_
  refine srk tbok ⟨49, [(0, vl eSite aX), (1, vs aTarget), (2, .clo 143 []), (8, vi (aX.length : Int)), (9, vi s3.1), (10, vi s3.2), (11, vi (w64 (Int.fdiv (IntKind.wrap .u64 (w64 (s3.1 + s3.2))) (2 ^ 1))))], []⟩ ?_
  refine sr ?_
  refine SRun.ck tbok 3 ⟨49, [(0, vl eSite aX), (1, vs aTarget), (2, .clo 143 []), (8, vi (aX.length : Int)), (9, vi s3.1), (10, vi s3.2), (11, vi (w64 (Int.fdiv (IntKind.wrap .u64 (w64 (s3.1 + s3.2))) (2 ^ 1)))), (24, .clo 143 []), (25, vl eSite aX), (26, vi (w64 (Int.fdiv (IntKind.wrap .u64 (w64 (s3.1 + s3.2))) (2 ^ 1))))], []⟩ ?_
  obtain ⟨x5, hx5, h⟩ := bind_some h
  refine SRun.ls (x_index (L := aX) (f := eSite) (ti := ti33) (tj := ti92) (e := 92) (k := .i64) tbok rfl hx5) ?_
  refine SRun.ck tbok 2 ⟨49, [(0, vl eSite aX), (1, vs aTarget), (2, .clo 143 []), (8, vi (aX.length : Int)), (9, vi s3.1), (10, vi s3.2), (11, vi (w64 (Int.fdiv (IntKind.wrap .u64 (w64 (s3.1 + s3.2))) (2 ^ 1)))), (24, .clo 143 []), (28, .agg (tc eSite x5)), (29, vs aTarget)], []⟩ ?_
  obtain ⟨x6, hx6, h⟩ := bind_some h
  refine SRun.ls (xc ents143 (impl_findSite_1_run x5 aTarget _ hx6)) ?_
  refine ckn tbok 1 ⟨49, [(0, vl eSite aX), (1, vs aTarget), (2, .clo 143 []), (8, vi (aX.length : Int)), (9, vi s3.1), (10, vi s3.2), (11, vi (w64 (Int.fdiv (IntKind.wrap .u64 (w64 (s3.1 + s3.2))) (2 ^ 1)))), (31, vb (decide (x6 < 0)))], []⟩ ?_
  refine swp_cd h (fun h => ?_) fun h => ?_
  refine swp_reg ?_
  refine SRun.ck tbok 3 ⟨49, [(0, vl eSite aX), (1, vs aTarget), (2, .clo 143 []), (8, vi (aX.length : Int)), (9, vi (w64 ((w64 (Int.fdiv (IntKind.wrap .u64 (w64 (s3.1 + s3.2))) (2 ^ 1))) + 1))), (10, vi s3.2)], []⟩ ?_
  refine SRun.nil ?_
  obtain rfl := inj h
  exact q_bn (q_l (Le.sub0))
  refine swp_reg ?_
  refine SRun.ck tbok 2 ⟨49, [(0, vl eSite aX), (1, vs aTarget), (2, .clo 143 []), (8, vi (aX.length : Int)), (9, vi s3.1), (10, vi (w64 (Int.fdiv (IntKind.wrap .u64 (w64 (s3.1 + s3.2))) (2 ^ 1))))], []⟩ ?_
  refine SRun.nil ?_
  obtain rfl := inj h
  exact q_bn (q_l (Le.sub0))
  refine swp_exit ?_
  obtain rfl := inj h
  exact nx_e (q_re (q_bh (q_j (Le.sub0))))
  refine swp_seq ?_
  refine swp_regJ h (fun j9 => ⟨49, [(6, vi j1), (7, vb j9)], []⟩) (fun v10 h => ?_) (fun j9 h => ?_)
  refine SRun.ck tbok 5 ⟨49, [(0, vl eSite aX), (1, vs aTarget), (2, .clo 143 []), (9, vi j1), (35, vi j1), (39, vb (decide (j1 < (aX.length : Int))))], []⟩ ?_
  refine SRun.cu [(39, fun b => b)] h (fun h => ?_) fun h => ?_
  refine SRun.ck tbok 3 ⟨49, [(1, vs aTarget), (35, vi j1), (39, vb true), (40, .clo 143 []), (41, vl eSite aX), (42, vi j1)], []⟩ ?_
  obtain ⟨x7, hx7, h⟩ := bind_some h
  refine SRun.ls (x_index (L := aX) (f := eSite) (ti := ti33) (tj := ti92) (e := 92) (k := .i64) tbok rfl hx7) ?_
  refine SRun.ck tbok 2 ⟨49, [(35, vi j1), (39, vb true), (40, .clo 143 []), (44, .agg (tc eSite x7)), (45, vs aTarget)], []⟩ ?_
  obtain ⟨x8, hx8, h⟩ := bind_some h
  refine SRun.ls (xc ents143 (impl_findSite_1_run x7 aTarget _ hx8)) ?_
  refine SRun.ck tbok 4 ⟨49, [(6, vi j1), (7, vb (x8 == 0))], []⟩ ?_
  refine SRun.nil ?_
  obtain rfl := inj h
  exact Le.sub0
  refine SRun.ck tbok 11 ⟨49, [(6, vi j1), (7, vb false)], []⟩ ?_
  refine SRun.nil ?_
  obtain rfl := inj h
  exact Le.sub0
  refine swp_ret ?_
  obtain rfl := inj h
  exact q_fr (f2 fv fv)
theorem ents142 : Ents Tryz.prog 142 := ents_of Tryz.func142 (by kernel_rfl) rfl
noncomputable def impl_findSite (aList : (List Site)) (aCode : ByteArray) : Option (Point × Bool) :=
  ((slices_BinarySearchFunc_string_impl_findSite_1 aList aCode).bind fun x1 => (bif (!x1.2) then some ((Point.mk 0 0), false) else ((at' aList x1.1).bind fun x2 => some (x2.At, true))))
theorem impl_findSite_run (aList : (List Site)) (aCode : ByteArray) (r : Point × Bool) (h : impl_findSite aList aCode = some r) : SCall Tryz.prog 105 [.v (vl eSite aList), .v (vs aCode)] ⟨[.v (.agg (tc ePoint r.1)), .v (vb r.2)], [], false⟩ := by
  refine scall_in Tryz.func105 rfl [(.cell 4 85), (.tmp 5)] rfl (fun r => ⟨[.v (.agg (tc ePoint r.1)), .v (vb r.2)], [], false⟩) (r := r) ?_
  unfold impl_findSite at h
  refine srk tbok ⟨22, [(0, vl eSite aList), (1, vs aCode), (4, .ref 4 0)], [(4, .box [vi 0, vi 0])]⟩ ?_
  refine sr ?_
  refine SRun.ck tbok 2 ⟨22, [(0, vl eSite aList), (4, .ref 4 0), (9, vl eSite aList), (10, vs aCode)], [(4, .box [vi 0, vi 0])]⟩ ?_
  obtain ⟨x1, hx1, h⟩ := bind_some h
  refine SRun.ls (xc ents142 (slices_BinarySearchFunc_string_impl_findSite_1_run aList aCode _ hx1)) ?_
  refine ckn tbok 5 ⟨22, [(0, vl eSite aList), (4, .ref 4 0), (6, vi x1.1), (7, vb x1.2)], [(4, .box [vi 0, vi 0])]⟩ ?_
  refine swp_seq ?_
  refine srk tbok ⟨22, [(0, vl eSite aList), (4, .ref 4 0), (6, vi x1.1), (15, vb (!x1.2))], [(4, .box [vi 0, vi 0])]⟩ ?_
  refine swp_cd h (fun h => ?_) fun h => ?_
  refine sr ?_
  refine SRun.ls (x_lstep_build (v := .agg [vi 0, vi 0]) tbok rfl) ?_
  refine ckn tbok 2 ⟨22, [(4, .ref 4 0), (5, vb false)], [(4, .box [vi 0, vi 0])]⟩ ?_
  refine swp_ret ?_
  obtain rfl := inj h
  exact nx_r (q_fr (f2 (fc tbok) fv))
  refine swp_skip ?_
  refine nx_n ?_
  refine sr ?_
  refine SRun.ck tbok 2 ⟨22, [(4, .ref 4 0), (17, vl eSite aList), (18, vi x1.1)], [(4, .box [vi 0, vi 0])]⟩ ?_
  obtain ⟨x2, hx2, h⟩ := bind_some h
  refine SRun.ls (x_index (L := aList) (f := eSite) (ti := ti33) (tj := ti92) (e := 92) (k := .i64) tbok rfl hx2) ?_
  refine ckn tbok 4 ⟨22, [(4, .ref 4 0), (5, vb true)], [(4, .box (tc ePoint x2.At))]⟩ ?_
  refine swp_ret ?_
  obtain rfl := inj h
  exact q_fr (f2 (fc tbok) fv)
theorem ents105 : Ents Tryz.prog 105 := ents_of Tryz.func105 (by kernel_rfl) rfl
end Go.Proofs.YtodgenjlhiiieaaGreatDoor.Sh
