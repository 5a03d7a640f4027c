/- Typed functions and the calls that do what they say. -/
import Derived.Test.YtodgenjlhiiieaaGreatDoorSB
import Derived.Test.YtodgenjlhiiieaaGreatDoorKA
import Derived.Test.YtodgenjlhiiieaaGreatDoorKC
import Derived.Test.YtodgenjlhiiieaaGreatDoorKF
import Derived.Test.YtodgenjlhiiieaaGreatDoorKS
import Derived.Test.YtodgenjlhiiieaaGreatDoorSN
import Derived.Test.YtodgenjlhiiieaaGreatDoorH1
namespace Go.Proofs.YtodgenjlhiiieaaGreatDoor.Sh
open Go.RowKit
set_option maxRecDepth 100000
set_option maxHeartbeats 4000000
structure Point where
  X : Int
  Y : Int
def ePoint (x : Point) : List Tr := [.int .i64 x.X, .int .i64 x.Y]
structure Candidate where
  Code : ByteArray
  Text : ByteArray
  At : Point
def eCandidate (x : Candidate) : List Tr := [.str x.Code, .str x.Text, .int .i64 x.At.X, .int .i64 x.At.Y]
theorem eCandidate_flat (x : Candidate) : ∀ t ∈ eCandidate x, t.flat = true := by simp [eCandidate, Tr.flat]
structure Site where
  Code : ByteArray
  At : Point
def eSite (x : Site) : List Tr := [.str x.Code, .int .i64 x.At.X, .int .i64 x.At.Y]
theorem eSite_flat (x : Site) : ∀ t ∈ eSite x, t.flat = true := by simp [eSite, Tr.flat]
structure Description where
  Kind : Int
  Count : Int
  Unit : ByteArray
  Direction : Int
  A : ByteArray
  B : ByteArray
def eDescription (x : Description) : List Tr := [.int .i64 x.Kind, .int .i64 x.Count, .str x.Unit, .int .i64 x.Direction, .str x.A, .str x.B]
theorem eDescription_flat (x : Description) : ∀ t ∈ eDescription x, t.flat = true := by simp [eDescription, Tr.flat]
structure Answer where
  Code : ByteArray
  Distance : Int
  Satisfied : Int
def eAnswer (x : Answer) : List Tr := [.str x.Code, .int .i64 x.Distance, .int .i64 x.Satisfied]
theorem eAnswer_flat (x : Answer) : ∀ t ∈ eAnswer x, t.flat = true := by simp [eAnswer, Tr.flat]
structure question where
  text : ByteArray
  sites : (List Site)
  descriptions : (List Description)
def equestion (x : question) : List Tr := [.str x.text, .sl x.sites.length (x.sites.map eSite), .sl x.descriptions.length (x.descriptions.map eDescription)]
def ti2 : TI := ⟨1, 8, .int .i64, [.int .i64 0]⟩
def ti3 : TI := ⟨1, 8, .int .i64, [.int .i64 0]⟩
def ti4 : TI := ⟨1, 1, .bool, [.bool false]⟩
def ti5 : TI := ⟨1, 1, .int .u8, [.int .u8 0]⟩
def ti9 : TI := ⟨1, 16, .str, [.str (ByteArray.mk #[])]⟩
def ti22 : TI := ⟨1, 24, .slice 75, [.sl ([] : List Candidate).length (([] : List Candidate).map eCandidate)]⟩
def ti23 : TI := ⟨1, 24, .slice 78, [.sl ([] : List Site).length (([] : List Site).map eSite)]⟩
def ti24 : TI := ⟨1, 24, .slice 81, [.sl ([] : List Description).length (([] : List Description).map eDescription)]⟩
def ti28 : TI := ⟨1, 24, .slice 9, [.sl ([] : List ByteArray).length (([] : List ByteArray).map eS)]⟩
def ti31 : TI := ⟨1, 24, .slice 87, [.sl ([] : List Candidate).length (([] : List Candidate).map eCandidate)]⟩
def ti33 : TI := ⟨1, 24, .slice 92, [.sl ([] : List Site).length (([] : List Site).map eSite)]⟩
def ti35 : TI := ⟨1, 24, .slice 84, [.sl ([] : List Description).length (([] : List Description).map eDescription)]⟩
def ti46 : TI := ⟨1, 24, .slice 5, [.sl ([] : List Int).length (([] : List Int).map (eI .u8))]⟩
def ti54 : TI := ⟨1, 24, .slice 2, [.sl ([] : List Int).length (([] : List Int).map (eI .i64))]⟩
def ti59 : TI := ⟨3, 32, .struct [(0, 9), (1, 2), (2, 2)], [.str (ByteArray.mk #[]), .int .i64 0, .int .i64 0]⟩
def ti62 : TI := ⟨1, 24, .slice 59, [.sl ([] : List Answer).length (([] : List Answer).map eAnswer)]⟩
def ti73 : TI := ⟨2, 16, .struct [(0, 2), (1, 2)], [.int .i64 0, .int .i64 0]⟩
def ti75 : TI := ⟨4, 48, .struct [(0, 9), (1, 9), (2, 73)], [.str (ByteArray.mk #[]), .str (ByteArray.mk #[]), .int .i64 0, .int .i64 0]⟩
def ti78 : TI := ⟨3, 32, .struct [(0, 9), (1, 73)], [.str (ByteArray.mk #[]), .int .i64 0, .int .i64 0]⟩
def ti81 : TI := ⟨6, 72, .struct [(0, 2), (1, 2), (2, 9), (3, 2), (4, 9), (5, 9)], [.int .i64 0, .int .i64 0, .str (ByteArray.mk #[]), .int .i64 0, .str (ByteArray.mk #[]), .str (ByteArray.mk #[])]⟩
def ti84 : TI := ⟨6, 72, .struct [(0, 2), (1, 2), (2, 9), (3, 2), (4, 9), (5, 9)], [.int .i64 0, .int .i64 0, .str (ByteArray.mk #[]), .int .i64 0, .str (ByteArray.mk #[]), .str (ByteArray.mk #[])]⟩
def ti85 : TI := ⟨2, 16, .struct [(0, 2), (1, 2)], [.int .i64 0, .int .i64 0]⟩
def ti87 : TI := ⟨4, 48, .struct [(0, 9), (1, 9), (2, 85)], [.str (ByteArray.mk #[]), .str (ByteArray.mk #[]), .int .i64 0, .int .i64 0]⟩
def ti92 : TI := ⟨3, 32, .struct [(0, 9), (1, 85)], [.str (ByteArray.mk #[]), .int .i64 0, .int .i64 0]⟩
def ti113 : TI := ⟨3, 64, .struct [(0, 9), (1, 33), (2, 35)], [.str (ByteArray.mk #[]), .sl ([] : List Site).length (([] : List Site).map eSite), .sl ([] : List Description).length (([] : List Description).map eDescription)]⟩
def ti138 : TI := ⟨8, 128, .array 8 9, [.str (ByteArray.mk #[]), .str (ByteArray.mk #[]), .str (ByteArray.mk #[]), .str (ByteArray.mk #[]), .str (ByteArray.mk #[]), .str (ByteArray.mk #[]), .str (ByteArray.mk #[]), .str (ByteArray.mk #[])]⟩
def ti175 : TI := ⟨1, 8, .int .u64, [.int .u64 0]⟩
def ti183 : TI := ⟨1, 24, .slice 3, [.sl ([] : List Int).length (([] : List Int).map (eI .i64))]⟩
def ti187 : TI := ⟨3, 24, .array 3 2, [.int .i64 0, .int .i64 0, .int .i64 0]⟩
def ti188 : TI := ⟨9, 72, .array 3 187, [.int .i64 0, .int .i64 0, .int .i64 0, .int .i64 0, .int .i64 0, .int .i64 0, .int .i64 0, .int .i64 0, .int .i64 0]⟩
def ti197 : TI := ⟨1, 4, .int .u32, [.int .u32 0]⟩
def ti199 : TI := ⟨1, 8, .int .u64, [.int .u64 0]⟩
def tbl : Tb := [(2, ti2), (3, ti3), (4, ti4), (5, ti5), (9, ti9), (22, ti22), (23, ti23), (24, ti24), (28, ti28), (31, ti31), (33, ti33), (35, ti35), (46, ti46), (54, ti54), (59, ti59), (62, ti62), (73, ti73), (75, ti75), (78, ti78), (81, ti81), (84, ti84), (85, ti85), (87, ti87), (92, ti92), (113, ti113), (138, ti138), (175, ti175), (183, ti183), (187, ti187), (188, ti188), (197, ti197), (199, ti199)]
theorem tbok : TbOk Tryz.prog tbl := TbOk.cons ⟨by kernel_rfl, show Tryz.prog.underlying 2 = some (.int .i64) from by kernel_rfl⟩ (TbOk.cons ⟨by kernel_rfl, show Tryz.prog.underlying 3 = some (.int .i64) from by kernel_rfl⟩ (TbOk.cons ⟨by kernel_rfl, show Tryz.prog.underlying 4 = some (.bool) from by kernel_rfl⟩ (TbOk.cons ⟨by kernel_rfl, show Tryz.prog.underlying 5 = some (.int .u8) from by kernel_rfl⟩ (TbOk.cons ⟨by kernel_rfl, show Tryz.prog.underlying 9 = some (.string) from by kernel_rfl⟩ (TbOk.cons ⟨by kernel_rfl, show Tryz.prog.underlying 22 = some (.slice 75) from by kernel_rfl⟩ (TbOk.cons ⟨by kernel_rfl, show Tryz.prog.underlying 23 = some (.slice 78) from by kernel_rfl⟩ (TbOk.cons ⟨by kernel_rfl, show Tryz.prog.underlying 24 = some (.slice 81) from by kernel_rfl⟩ (TbOk.cons ⟨by kernel_rfl, show Tryz.prog.underlying 28 = some (.slice 9) from by kernel_rfl⟩ (TbOk.cons ⟨by kernel_rfl, show Tryz.prog.underlying 31 = some (.slice 87) from by kernel_rfl⟩ (TbOk.cons ⟨by kernel_rfl, show Tryz.prog.underlying 33 = some (.slice 92) from by kernel_rfl⟩ (TbOk.cons ⟨by kernel_rfl, show Tryz.prog.underlying 35 = some (.slice 84) from by kernel_rfl⟩ (TbOk.cons ⟨by kernel_rfl, show Tryz.prog.underlying 46 = some (.slice 5) from by kernel_rfl⟩ (TbOk.cons ⟨by kernel_rfl, show Tryz.prog.underlying 54 = some (.slice 2) from by kernel_rfl⟩ (TbOk.cons ⟨by kernel_rfl, show structOf Tryz.prog 59 = some [(0, 9), (1, 2), (2, 2)] from by kernel_rfl⟩ (TbOk.cons ⟨by kernel_rfl, show Tryz.prog.underlying 62 = some (.slice 59) from by kernel_rfl⟩ (TbOk.cons ⟨by kernel_rfl, show structOf Tryz.prog 73 = some [(0, 2), (1, 2)] from by kernel_rfl⟩ (TbOk.cons ⟨by kernel_rfl, show structOf Tryz.prog 75 = some [(0, 9), (1, 9), (2, 73)] from by kernel_rfl⟩ (TbOk.cons ⟨by kernel_rfl, show structOf Tryz.prog 78 = some [(0, 9), (1, 73)] from by kernel_rfl⟩ (TbOk.cons ⟨by kernel_rfl, show structOf Tryz.prog 81 = some [(0, 2), (1, 2), (2, 9), (3, 2), (4, 9), (5, 9)] from by kernel_rfl⟩ (TbOk.cons ⟨by kernel_rfl, show structOf Tryz.prog 84 = some [(0, 2), (1, 2), (2, 9), (3, 2), (4, 9), (5, 9)] from by kernel_rfl⟩ (TbOk.cons ⟨by kernel_rfl, show structOf Tryz.prog 85 = some [(0, 2), (1, 2)] from by kernel_rfl⟩ (TbOk.cons ⟨by kernel_rfl, show structOf Tryz.prog 87 = some [(0, 9), (1, 9), (2, 85)] from by kernel_rfl⟩ (TbOk.cons ⟨by kernel_rfl, show structOf Tryz.prog 92 = some [(0, 9), (1, 85)] from by kernel_rfl⟩ (TbOk.cons ⟨by kernel_rfl, show structOf Tryz.prog 113 = some [(0, 9), (1, 33), (2, 35)] from by kernel_rfl⟩ (TbOk.cons ⟨by kernel_rfl, show Tryz.prog.underlying 138 = some (.array 8 9) from by kernel_rfl⟩ (TbOk.cons ⟨by kernel_rfl, show Tryz.prog.underlying 175 = some (.int .u64) from by kernel_rfl⟩ (TbOk.cons ⟨by kernel_rfl, show Tryz.prog.underlying 183 = some (.slice 3) from by kernel_rfl⟩ (TbOk.cons ⟨by kernel_rfl, show Tryz.prog.underlying 187 = some (.array 3 2) from by kernel_rfl⟩ (TbOk.cons ⟨by kernel_rfl, show Tryz.prog.underlying 188 = some (.array 3 187) from by kernel_rfl⟩ (TbOk.cons ⟨by kernel_rfl, show Tryz.prog.underlying 197 = some (.int .u32) from by kernel_rfl⟩ (TbOk.cons ⟨by kernel_rfl, show Tryz.prog.underlying 199 = some (.int .u64) from by kernel_rfl⟩ (TbOk.nil _))))))))))))))))))))))))))))))))
theorem mixed : Tryz.prog.follows .mixedOrders = true := by kernel_rfl
noncomputable def laws_szCandidate (aA : Candidate) (aLeft : Int) : Option (Int) :=
  (bif (decide ((w64 (aLeft - (aA.Code.size : Int))) < 0)) then some (-1) else (bif (decide ((w64 ((w64 (aLeft - (aA.Code.size : Int))) - (aA.Text.size : Int))) < 0)) then some (-1) else some (w64 ((w64 (aLeft - (aA.Code.size : Int))) - (aA.Text.size : Int)))))
theorem laws_szCandidate_run (aA : Candidate) (aLeft : Int) (r : Int) (h : laws_szCandidate aA aLeft = some r) : SCall Tryz.prog 48 [.v (.agg (tc eCandidate aA)), .v (vi aLeft)] ⟨[.v (vi r)], [], false⟩ := by
  refine scall_in Tryz.func48 rfl [(.tmp 4)] rfl (fun r => ⟨[.v (vi r)], [], false⟩) (r := r) ?_
  unfold laws_szCandidate at h
  refine srk tbok ⟨20, [(1, vi aLeft), (2, .ref 2 0)], [(2, .box (tc eCandidate aA))]⟩ ?_
  refine srk tbok ⟨20, [(1, vi (w64 (aLeft - (aA.Code.size : Int)))), (2, .ref 2 0)], [(2, .box (tc eCandidate aA))]⟩ ?_
  refine swp_seq ?_
  refine srk tbok ⟨20, [(1, vi (w64 (aLeft - (aA.Code.size : Int)))), (2, .ref 2 0), (11, vb (decide ((w64 (aLeft - (aA.Code.size : Int))) < 0)))], [(2, .box (tc eCandidate aA))]⟩ ?_
  refine swp_cd h (fun h => ?_) fun h => ?_
  refine srk tbok ⟨20, [(4, vi (-1))], []⟩ ?_
  refine swp_ret ?_
  obtain rfl := inj h
  exact nx_r (q_fr (f1 fv))
  refine swp_skip ?_
  refine nx_n ?_
  refine srk tbok ⟨20, [(1, vi (w64 ((w64 (aLeft - (aA.Code.size : Int))) - (aA.Text.size : Int))))], []⟩ ?_
  refine swp_seq ?_
  refine srk tbok ⟨20, [(1, vi (w64 ((w64 (aLeft - (aA.Code.size : Int))) - (aA.Text.size : Int)))), (18, vb (decide ((w64 ((w64 (aLeft - (aA.Code.size : Int))) - (aA.Text.size : Int))) < 0)))], []⟩ ?_
  refine swp_cd h (fun h => ?_) fun h => ?_
  refine srk tbok ⟨20, [(4, vi (-1))], []⟩ ?_
  refine swp_ret ?_
  obtain rfl := inj h
  exact nx_r (q_fr (f1 fv))
  refine swp_skip ?_
  refine nx_n ?_
  refine srk tbok ⟨20, [(4, vi (w64 ((w64 (aLeft - (aA.Code.size : Int))) - (aA.Text.size : Int))))], []⟩ ?_
  refine swp_ret ?_
  obtain rfl := inj h
  exact q_fr (f1 fv)
theorem ents48 : Ents Tryz.prog 48 := ents_of Tryz.func48 (by kernel_rfl) rfl
noncomputable def laws_szCandidateS (aA : (List Candidate)) (aLeft : Int) : Option (Int) :=
  (bif (decide ((w64 (aLeft - (aA.length : Int))) < 0)) then some (-1) else (((forN (aA.length : Int) (fun (i3 : Int) (s3 : Int) => ((at' aA i3).bind fun x7 => ((laws_szCandidate x7 s3).bind fun x8 => (bif (decide (x8 < 0)) then some (.inr (.inr (-1))) else some (.inl x8))))) (fun (s3 : Int) => .inl s3) 0 (w64 (aLeft - (aA.length : Int))))).bind (Sum.elim (fun (j1 : Int) => some j1) some)))
theorem laws_szCandidateS_run (aA : (List Candidate)) (aLeft : Int) (r : Int) (h : laws_szCandidateS aA aLeft = some r) : SCall Tryz.prog 7 [.v (vl eCandidate aA), .v (vi aLeft)] ⟨[.v (vi r)], [], false⟩ := by
  refine scall_in Tryz.func7 rfl [(.tmp 4)] rfl (fun r => ⟨[.v (vi r)], [], false⟩) (r := r) ?_
  unfold laws_szCandidateS at h
  refine srk tbok ⟨27, [(0, vl eCandidate aA), (1, vi aLeft)], []⟩ ?_
  refine srk tbok ⟨27, [(0, vl eCandidate aA), (1, vi (w64 (aLeft - (aA.length : Int))))], []⟩ ?_
  refine swp_seq ?_
  refine srk tbok ⟨27, [(0, vl eCandidate aA), (1, vi (w64 (aLeft - (aA.length : Int)))), (11, vb (decide ((w64 (aLeft - (aA.length : Int))) < 0)))], []⟩ ?_
  refine swp_cd h (fun h => ?_) fun h => ?_
  refine srk tbok ⟨27, [(4, vi (-1))], []⟩ ?_
  refine swp_ret ?_
  obtain rfl := inj h
  exact nx_r (q_fr (f1 fv))
  refine swp_skip ?_
  refine nx_n ?_
  refine swp_seq ?_
  refine srk tbok ⟨27, [(0, vl eCandidate aA), (1, vi (w64 (aLeft - (aA.length : Int)))), (5, vi 0)], []⟩ ?_
  refine swp_seqE (r := r) h (fun j1 => ⟨27, [(1, vi j1)], []⟩) (fun v2 h => ?_) (fun j1 h => ?_)
  refine swp_blk (a := v2) ?_
  refine swp_lpL (r := v2) (s := (0, (w64 (aLeft - (aA.length : Int))))) _ (fun s3 => ⟨27, [(0, vl eCandidate aA), (1, vi s3.2), (5, vi s3.1)], []⟩) _ (Le.sub0) h (fun s3 v4 h => ?_)
  refine swp_seq ?_
  refine srk tbok ⟨27, [(0, vl eCandidate aA), (1, vi s3.2), (5, vi s3.1), (15, vb (decide (s3.1 < (aA.length : Int))))], []⟩ ?_
  refine swp_cd h (fun h => ?_) fun h => ?_
  refine swp_skip ?_
  refine nx_n ?_
  refine swp_seq ?_
  refine swp_seqL (r := v4) h (fun j5 => ⟨27, [(0, vl eCandidate aA), (1, vi j5), (5, vi s3.1)], []⟩) (fun v6 h => ?_) (fun j5 h => ?_)
  refine swp_blk (a := v6) ?_
  refine sr ?_
  refine SRun.ck tbok 2 ⟨27, [(0, vl eCandidate aA), (1, vi s3.2), (5, vi s3.1), (18, vl eCandidate aA), (19, vi s3.1)], []⟩ ?_
  obtain ⟨x7, hx7, h⟩ := bind_some h
  refine SRun.ls (x_index (L := aA) (f := eCandidate) (ti := ti22) (tj := ti75) (e := 75) (k := .i64) tbok rfl hx7) ?_
  refine SRun.ck tbok 2 ⟨27, [(0, vl eCandidate aA), (5, vi s3.1), (21, .agg (tc eCandidate x7)), (22, vi s3.2)], []⟩ ?_
  obtain ⟨x8, hx8, h⟩ := bind_some h
  refine SRun.ls (xc ents48 (laws_szCandidate_run x7 s3.2 _ hx8)) ?_
  refine ckn tbok 1 ⟨27, [(0, vl eCandidate aA), (1, vi x8), (5, vi s3.1)], []⟩ ?_
  refine srk tbok ⟨27, [(0, vl eCandidate aA), (1, vi x8), (5, vi s3.1), (25, vb (decide (x8 < 0)))], []⟩ ?_
  refine swp_cd h (fun h => ?_) fun h => ?_
  refine srk tbok ⟨27, [(4, vi (-1))], []⟩ ?_
  refine swp_ret ?_
  obtain rfl := inj h
  exact q_br (q_rr (q_rr (q_br (q_rr (q_fr (f1 fv))))))
  refine swp_skip ?_
  obtain rfl := inj h
  exact q_bn (q_l (Le.sub0))
  refine swp_reg ?_
  refine SRun.ck tbok 3 ⟨27, [(0, vl eCandidate aA), (1, vi j5), (5, vi (w64 (s3.1 + 1)))], []⟩ ?_
  refine SRun.nil ?_
  obtain rfl := inj h
  exact q_l (Le.sub0)
  refine swp_exit ?_
  obtain rfl := inj h
  exact nx_e (q_re (q_bh (q_l (Le.sub0))))
  refine srk tbok ⟨27, [(4, vi j1)], []⟩ ?_
  refine swp_ret ?_
  obtain rfl := inj h
  exact q_fr (f1 fv)
theorem ents7 : Ents Tryz.prog 7 := ents_of Tryz.func7 (by kernel_rfl) rfl
noncomputable def laws_szSite (aA : Site) (aLeft : Int) : Option (Int) :=
  (bif (decide ((w64 (aLeft - (aA.Code.size : Int))) < 0)) then some (-1) else some (w64 (aLeft - (aA.Code.size : Int))))
theorem laws_szSite_run (aA : Site) (aLeft : Int) (r : Int) (h : laws_szSite aA aLeft = some r) : SCall Tryz.prog 49 [.v (.agg (tc eSite aA)), .v (vi aLeft)] ⟨[.v (vi r)], [], false⟩ := by
  refine scall_in Tryz.func49 rfl [(.tmp 4)] rfl (fun r => ⟨[.v (vi r)], [], false⟩) (r := r) ?_
  unfold laws_szSite at h
  refine srk tbok ⟨13, [(1, vi aLeft), (2, .ref 2 0)], [(2, .box (tc eSite aA))]⟩ ?_
  refine srk tbok ⟨13, [(1, vi (w64 (aLeft - (aA.Code.size : Int))))], []⟩ ?_
  refine swp_seq ?_
  refine srk tbok ⟨13, [(1, vi (w64 (aLeft - (aA.Code.size : Int)))), (11, vb (decide ((w64 (aLeft - (aA.Code.size : Int))) < 0)))], []⟩ ?_
  refine swp_cd h (fun h => ?_) fun h => ?_
  refine srk tbok ⟨13, [(4, vi (-1))], []⟩ ?_
  refine swp_ret ?_
  obtain rfl := inj h
  exact nx_r (q_fr (f1 fv))
  refine swp_skip ?_
  refine nx_n ?_
  refine srk tbok ⟨13, [(4, vi (w64 (aLeft - (aA.Code.size : Int))))], []⟩ ?_
  refine swp_ret ?_
  obtain rfl := inj h
  exact q_fr (f1 fv)
theorem ents49 : Ents Tryz.prog 49 := ents_of Tryz.func49 (by kernel_rfl) rfl
noncomputable def laws_szSiteS (aA : (List Site)) (aLeft : Int) : Option (Int) :=
  (bif (decide ((w64 (aLeft - (aA.length : Int))) < 0)) then some (-1) else (((forN (aA.length : Int) (fun (i3 : Int) (s3 : Int) => ((at' aA i3).bind fun x7 => ((laws_szSite x7 s3).bind fun x8 => (bif (decide (x8 < 0)) then some (.inr (.inr (-1))) else some (.inl x8))))) (fun (s3 : Int) => .inl s3) 0 (w64 (aLeft - (aA.length : Int))))).bind (Sum.elim (fun (j1 : Int) => some j1) some)))
theorem laws_szSiteS_run (aA : (List Site)) (aLeft : Int) (r : Int) (h : laws_szSiteS aA aLeft = some r) : SCall Tryz.prog 8 [.v (vl eSite aA), .v (vi aLeft)] ⟨[.v (vi r)], [], false⟩ := by
  refine scall_in Tryz.func8 rfl [(.tmp 4)] rfl (fun r => ⟨[.v (vi r)], [], false⟩) (r := r) ?_
  unfold laws_szSiteS at h
  refine srk tbok ⟨27, [(0, vl eSite aA), (1, vi aLeft)], []⟩ ?_
  refine srk tbok ⟨27, [(0, vl eSite aA), (1, vi (w64 (aLeft - (aA.length : Int))))], []⟩ ?_
  refine swp_seq ?_
  refine srk tbok ⟨27, [(0, vl eSite aA), (1, vi (w64 (aLeft - (aA.length : Int)))), (11, vb (decide ((w64 (aLeft - (aA.length : Int))) < 0)))], []⟩ ?_
  refine swp_cd h (fun h => ?_) fun h => ?_
  refine srk tbok ⟨27, [(4, vi (-1))], []⟩ ?_
  refine swp_ret ?_
  obtain rfl := inj h
  exact nx_r (q_fr (f1 fv))
  refine swp_skip ?_
  refine nx_n ?_
  refine swp_seq ?_
  refine srk tbok ⟨27, [(0, vl eSite aA), (1, vi (w64 (aLeft - (aA.length : Int)))), (5, vi 0)], []⟩ ?_
  refine swp_seqE (r := r) h (fun j1 => ⟨27, [(1, vi j1)], []⟩) (fun v2 h => ?_) (fun j1 h => ?_)
  refine swp_blk (a := v2) ?_
  refine swp_lpL (r := v2) (s := (0, (w64 (aLeft - (aA.length : Int))))) _ (fun s3 => ⟨27, [(0, vl eSite aA), (1, vi s3.2), (5, vi s3.1)], []⟩) _ (Le.sub0) h (fun s3 v4 h => ?_)
  refine swp_seq ?_
  refine srk tbok ⟨27, [(0, vl eSite aA), (1, vi s3.2), (5, vi s3.1), (15, vb (decide (s3.1 < (aA.length : Int))))], []⟩ ?_
  refine swp_cd h (fun h => ?_) fun h => ?_
  refine swp_skip ?_
  refine nx_n ?_
  refine swp_seq ?_
  refine swp_seqL (r := v4) h (fun j5 => ⟨27, [(0, vl eSite aA), (1, vi j5), (5, vi s3.1)], []⟩) (fun v6 h => ?_) (fun j5 h => ?_)
  refine swp_blk (a := v6) ?_
  refine sr ?_
  refine SRun.ck tbok 2 ⟨27, [(0, vl eSite aA), (1, vi s3.2), (5, vi s3.1), (18, vl eSite aA), (19, vi s3.1)], []⟩ ?_
  obtain ⟨x7, hx7, h⟩ := bind_some h
  refine SRun.ls (x_index (L := aA) (f := eSite) (ti := ti23) (tj := ti78) (e := 78) (k := .i64) tbok rfl hx7) ?_
  refine SRun.ck tbok 2 ⟨27, [(0, vl eSite aA), (5, vi s3.1), (21, .agg (tc eSite x7)), (22, vi s3.2)], []⟩ ?_
  obtain ⟨x8, hx8, h⟩ := bind_some h
  refine SRun.ls (xc ents49 (laws_szSite_run x7 s3.2 _ hx8)) ?_
  refine ckn tbok 1 ⟨27, [(0, vl eSite aA), (1, vi x8), (5, vi s3.1)], []⟩ ?_
  refine srk tbok ⟨27, [(0, vl eSite aA), (1, vi x8), (5, vi s3.1), (25, vb (decide (x8 < 0)))], []⟩ ?_
  refine swp_cd h (fun h => ?_) fun h => ?_
  refine srk tbok ⟨27, [(4, vi (-1))], []⟩ ?_
  refine swp_ret ?_
  obtain rfl := inj h
  exact q_br (q_rr (q_rr (q_br (q_rr (q_fr (f1 fv))))))
  refine swp_skip ?_
  obtain rfl := inj h
  exact q_bn (q_l (Le.sub0))
  refine swp_reg ?_
  refine SRun.ck tbok 3 ⟨27, [(0, vl eSite aA), (1, vi j5), (5, vi (w64 (s3.1 + 1)))], []⟩ ?_
  refine SRun.nil ?_
  obtain rfl := inj h
  exact q_l (Le.sub0)
  refine swp_exit ?_
  obtain rfl := inj h
  exact nx_e (q_re (q_bh (q_l (Le.sub0))))
  refine srk tbok ⟨27, [(4, vi j1)], []⟩ ?_
  refine swp_ret ?_
  obtain rfl := inj h
  exact q_fr (f1 fv)
theorem ents8 : Ents Tryz.prog 8 := ents_of Tryz.func8 (by kernel_rfl) rfl
noncomputable def laws_szDescription (aA : Description) (aLeft : Int) : Option (Int) :=
  (bif (decide ((w64 (aLeft - (aA.Unit.size : Int))) < 0)) then some (-1) else (bif (decide ((w64 ((w64 (aLeft - (aA.Unit.size : Int))) - (aA.A.size : Int))) < 0)) then some (-1) else (bif (decide ((w64 ((w64 ((w64 (aLeft - (aA.Unit.size : Int))) - (aA.A.size : Int))) - (aA.B.size : Int))) < 0)) then some (-1) else some (w64 ((w64 ((w64 (aLeft - (aA.Unit.size : Int))) - (aA.A.size : Int))) - (aA.B.size : Int))))))
theorem laws_szDescription_run (aA : Description) (aLeft : Int) (r : Int) (h : laws_szDescription aA aLeft = some r) : SCall Tryz.prog 50 [.v (.agg (tc eDescription aA)), .v (vi aLeft)] ⟨[.v (vi r)], [], false⟩ := by
  refine scall_in Tryz.func50 rfl [(.tmp 4)] rfl (fun r => ⟨[.v (vi r)], [], false⟩) (r := r) ?_
  unfold laws_szDescription at h
  refine srk tbok ⟨27, [(1, vi aLeft), (2, .ref 2 0)], [(2, .box (tc eDescription aA))]⟩ ?_
  refine srk tbok ⟨27, [(1, vi (w64 (aLeft - (aA.Unit.size : Int)))), (2, .ref 2 0)], [(2, .box (tc eDescription aA))]⟩ ?_
  refine swp_seq ?_
  refine srk tbok ⟨27, [(1, vi (w64 (aLeft - (aA.Unit.size : Int)))), (2, .ref 2 0), (11, vb (decide ((w64 (aLeft - (aA.Unit.size : Int))) < 0)))], [(2, .box (tc eDescription aA))]⟩ ?_
  refine swp_cd h (fun h => ?_) fun h => ?_
  refine srk tbok ⟨27, [(4, vi (-1))], []⟩ ?_
  refine swp_ret ?_
  obtain rfl := inj h
  exact nx_r (q_fr (f1 fv))
  refine swp_skip ?_
  refine nx_n ?_
  refine srk tbok ⟨27, [(1, vi (w64 ((w64 (aLeft - (aA.Unit.size : Int))) - (aA.A.size : Int)))), (2, .ref 2 0)], [(2, .box (tc eDescription aA))]⟩ ?_
  refine swp_seq ?_
  refine srk tbok ⟨27, [(1, vi (w64 ((w64 (aLeft - (aA.Unit.size : Int))) - (aA.A.size : Int)))), (2, .ref 2 0), (18, vb (decide ((w64 ((w64 (aLeft - (aA.Unit.size : Int))) - (aA.A.size : Int))) < 0)))], [(2, .box (tc eDescription aA))]⟩ ?_
  refine swp_cd h (fun h => ?_) fun h => ?_
  refine srk tbok ⟨27, [(4, vi (-1))], []⟩ ?_
  refine swp_ret ?_
  obtain rfl := inj h
  exact nx_r (q_fr (f1 fv))
  refine swp_skip ?_
  refine nx_n ?_
  refine srk tbok ⟨27, [(1, vi (w64 ((w64 ((w64 (aLeft - (aA.Unit.size : Int))) - (aA.A.size : Int))) - (aA.B.size : Int))))], []⟩ ?_
  refine swp_seq ?_
  refine srk tbok ⟨27, [(1, vi (w64 ((w64 ((w64 (aLeft - (aA.Unit.size : Int))) - (aA.A.size : Int))) - (aA.B.size : Int)))), (25, vb (decide ((w64 ((w64 ((w64 (aLeft - (aA.Unit.size : Int))) - (aA.A.size : Int))) - (aA.B.size : Int))) < 0)))], []⟩ ?_
  refine swp_cd h (fun h => ?_) fun h => ?_
  refine srk tbok ⟨27, [(4, vi (-1))], []⟩ ?_
  refine swp_ret ?_
  obtain rfl := inj h
  exact nx_r (q_fr (f1 fv))
  refine swp_skip ?_
  refine nx_n ?_
  refine srk tbok ⟨27, [(4, vi (w64 ((w64 ((w64 (aLeft - (aA.Unit.size : Int))) - (aA.A.size : Int))) - (aA.B.size : Int))))], []⟩ ?_
  refine swp_ret ?_
  obtain rfl := inj h
  exact q_fr (f1 fv)
theorem ents50 : Ents Tryz.prog 50 := ents_of Tryz.func50 (by kernel_rfl) rfl
noncomputable def laws_szDescriptionS (aA : (List Description)) (aLeft : Int) : Option (Int) :=
  (bif (decide ((w64 (aLeft - (aA.length : Int))) < 0)) then some (-1) else (((forN (aA.length : Int) (fun (i3 : Int) (s3 : Int) => ((at' aA i3).bind fun x7 => ((laws_szDescription x7 s3).bind fun x8 => (bif (decide (x8 < 0)) then some (.inr (.inr (-1))) else some (.inl x8))))) (fun (s3 : Int) => .inl s3) 0 (w64 (aLeft - (aA.length : Int))))).bind (Sum.elim (fun (j1 : Int) => some j1) some)))
theorem laws_szDescriptionS_run (aA : (List Description)) (aLeft : Int) (r : Int) (h : laws_szDescriptionS aA aLeft = some r) : SCall Tryz.prog 9 [.v (vl eDescription aA), .v (vi aLeft)] ⟨[.v (vi r)], [], false⟩ := by
  refine scall_in Tryz.func9 rfl [(.tmp 4)] rfl (fun r => ⟨[.v (vi r)], [], false⟩) (r := r) ?_
  unfold laws_szDescriptionS at h
  refine srk tbok ⟨27, [(0, vl eDescription aA), (1, vi aLeft)], []⟩ ?_
  refine srk tbok ⟨27, [(0, vl eDescription aA), (1, vi (w64 (aLeft - (aA.length : Int))))], []⟩ ?_
  refine swp_seq ?_
  refine srk tbok ⟨27, [(0, vl eDescription aA), (1, vi (w64 (aLeft - (aA.length : Int)))), (11, vb (decide ((w64 (aLeft - (aA.length : Int))) < 0)))], []⟩ ?_
  refine swp_cd h (fun h => ?_) fun h => ?_
  refine srk tbok ⟨27, [(4, vi (-1))], []⟩ ?_
  refine swp_ret ?_
  obtain rfl := inj h
  exact nx_r (q_fr (f1 fv))
  refine swp_skip ?_
  refine nx_n ?_
  refine swp_seq ?_
  refine srk tbok ⟨27, [(0, vl eDescription aA), (1, vi (w64 (aLeft - (aA.length : Int)))), (5, vi 0)], []⟩ ?_
  refine swp_seqE (r := r) h (fun j1 => ⟨27, [(1, vi j1)], []⟩) (fun v2 h => ?_) (fun j1 h => ?_)
  refine swp_blk (a := v2) ?_
  refine swp_lpL (r := v2) (s := (0, (w64 (aLeft - (aA.length : Int))))) _ (fun s3 => ⟨27, [(0, vl eDescription aA), (1, vi s3.2), (5, vi s3.1)], []⟩) _ (Le.sub0) h (fun s3 v4 h => ?_)
  refine swp_seq ?_
  refine srk tbok ⟨27, [(0, vl eDescription aA), (1, vi s3.2), (5, vi s3.1), (15, vb (decide (s3.1 < (aA.length : Int))))], []⟩ ?_
  refine swp_cd h (fun h => ?_) fun h => ?_
  refine swp_skip ?_
  refine nx_n ?_
  refine swp_seq ?_
  refine swp_seqL (r := v4) h (fun j5 => ⟨27, [(0, vl eDescription aA), (1, vi j5), (5, vi s3.1)], []⟩) (fun v6 h => ?_) (fun j5 h => ?_)
  refine swp_blk (a := v6) ?_
  refine sr ?_
  refine SRun.ck tbok 2 ⟨27, [(0, vl eDescription aA), (1, vi s3.2), (5, vi s3.1), (18, vl eDescription aA), (19, vi s3.1)], []⟩ ?_
  obtain ⟨x7, hx7, h⟩ := bind_some h
  refine SRun.ls (x_index (L := aA) (f := eDescription) (ti := ti24) (tj := ti81) (e := 81) (k := .i64) tbok rfl hx7) ?_
  refine SRun.ck tbok 2 ⟨27, [(0, vl eDescription aA), (5, vi s3.1), (21, .agg (tc eDescription x7)), (22, vi s3.2)], []⟩ ?_
  obtain ⟨x8, hx8, h⟩ := bind_some h
  refine SRun.ls (xc ents50 (laws_szDescription_run x7 s3.2 _ hx8)) ?_
  refine ckn tbok 1 ⟨27, [(0, vl eDescription aA), (1, vi x8), (5, vi s3.1)], []⟩ ?_
  refine srk tbok ⟨27, [(0, vl eDescription aA), (1, vi x8), (5, vi s3.1), (25, vb (decide (x8 < 0)))], []⟩ ?_
  refine swp_cd h (fun h => ?_) fun h => ?_
  refine srk tbok ⟨27, [(4, vi (-1))], []⟩ ?_
  refine swp_ret ?_
  obtain rfl := inj h
  exact q_br (q_rr (q_rr (q_br (q_rr (q_fr (f1 fv))))))
  refine swp_skip ?_
  obtain rfl := inj h
  exact q_bn (q_l (Le.sub0))
  refine swp_reg ?_
  refine SRun.ck tbok 3 ⟨27, [(0, vl eDescription aA), (1, vi j5), (5, vi (w64 (s3.1 + 1)))], []⟩ ?_
  refine SRun.nil ?_
  obtain rfl := inj h
  exact q_l (Le.sub0)
  refine swp_exit ?_
  obtain rfl := inj h
  exact nx_e (q_re (q_bh (q_l (Le.sub0))))
  refine srk tbok ⟨27, [(4, vi j1)], []⟩ ?_
  refine swp_ret ?_
  obtain rfl := inj h
  exact q_fr (f1 fv)
theorem ents9 : Ents Tryz.prog 9 := ents_of Tryz.func9 (by kernel_rfl) rfl
noncomputable def laws_toPoint (aA : Point) : Option (Point) :=
  some aA
theorem laws_toPoint_run (aA : Point) (r : Point) (h : laws_toPoint aA = some r) : SCall Tryz.prog 99 [.v (.agg (tc ePoint aA))] ⟨[.v (.agg (tc ePoint r))], [], false⟩ := by
  refine scall_in Tryz.func99 rfl [(.cell 2 85)] rfl (fun r => ⟨[.v (.agg (tc ePoint r))], [], false⟩) (r := r) ?_
  unfold laws_toPoint at h
  refine srk tbok ⟨11, [(1, .ref 1 0), (2, .ref 2 0)], [(1, .box (tc ePoint aA)), (2, .box [vi 0, vi 0])]⟩ ?_
  refine srk tbok ⟨11, [(1, .ref 1 0), (2, .ref 2 0), (3, .ref 3 0)], [(1, .box (tc ePoint aA)), (2, .box [vi 0, vi 0]), (3, .box [vi 0, vi 0])]⟩ ?_
  refine srk tbok ⟨11, [(1, .ref 1 0), (2, .ref 2 0), (3, .ref 3 0)], [(1, .box (tc ePoint aA)), (2, .box [vi 0, vi 0]), (3, .box [vi aA.X, vi 0])]⟩ ?_
  refine srk tbok ⟨11, [(2, .ref 2 0), (3, .ref 3 0)], [(2, .box [vi 0, vi 0]), (3, .box (tc ePoint aA))]⟩ ?_
  refine srk tbok ⟨11, [(2, .ref 2 0)], [(2, .box (tc ePoint aA))]⟩ ?_
  refine swp_ret ?_
  obtain rfl := inj h
  exact q_fr (f1 (fc tbok))
theorem ents99 : Ents Tryz.prog 99 := ents_of Tryz.func99 (by kernel_rfl) rfl
noncomputable def laws_toCandidate (aA : Candidate) : Option (Candidate) :=
  ((laws_toPoint aA.At).bind fun x1 => some (Candidate.mk aA.Code aA.Text x1))
theorem laws_toCandidate_run (aA : Candidate) (r : Candidate) (h : laws_toCandidate aA = some r) : SCall Tryz.prog 55 [.v (.agg (tc eCandidate aA))] ⟨[.v (.agg (tc eCandidate r))], [], false⟩ := by
  refine scall_in Tryz.func55 rfl [(.cell 2 87)] rfl (fun r => ⟨[.v (.agg (tc eCandidate r))], [], false⟩) (r := r) ?_
  unfold laws_toCandidate at h
  refine srk tbok ⟨15, [(1, .ref 1 0), (2, .ref 2 0)], [(1, .box (tc eCandidate aA)), (2, .box [vs (ByteArray.mk #[]), vs (ByteArray.mk #[]), vi 0, vi 0])]⟩ ?_
  refine srk tbok ⟨15, [(1, .ref 1 0), (2, .ref 2 0), (3, .ref 3 0)], [(1, .box (tc eCandidate aA)), (2, .box [vs (ByteArray.mk #[]), vs (ByteArray.mk #[]), vi 0, vi 0]), (3, .box [vs (ByteArray.mk #[]), vs (ByteArray.mk #[]), vi 0, vi 0])]⟩ ?_
  refine srk tbok ⟨15, [(1, .ref 1 0), (2, .ref 2 0), (3, .ref 3 0)], [(1, .box (tc eCandidate aA)), (2, .box [vs (ByteArray.mk #[]), vs (ByteArray.mk #[]), vi 0, vi 0]), (3, .box [vs aA.Code, vs (ByteArray.mk #[]), vi 0, vi 0])]⟩ ?_
  refine srk tbok ⟨15, [(1, .ref 1 0), (2, .ref 2 0), (3, .ref 3 0)], [(1, .box (tc eCandidate aA)), (2, .box [vs (ByteArray.mk #[]), vs (ByteArray.mk #[]), vi 0, vi 0]), (3, .box [vs aA.Code, vs aA.Text, vi 0, vi 0])]⟩ ?_
  refine sr ?_
  refine SRun.ck tbok 2 ⟨15, [(2, .ref 2 0), (3, .ref 3 0), (11, .agg (tc ePoint aA.At))], [(2, .box [vs (ByteArray.mk #[]), vs (ByteArray.mk #[]), vi 0, vi 0]), (3, .box [vs aA.Code, vs aA.Text, vi 0, vi 0])]⟩ ?_
  obtain ⟨x1, hx1, h⟩ := bind_some h
  refine SRun.ls (xc ents99 (laws_toPoint_run aA.At _ hx1)) ?_
  refine ckn tbok 2 ⟨15, [(2, .ref 2 0), (3, .ref 3 0)], [(2, .box [vs (ByteArray.mk #[]), vs (ByteArray.mk #[]), vi 0, vi 0]), (3, .box [vs aA.Code, vs aA.Text, vi x1.X, vi x1.Y])]⟩ ?_
  refine srk tbok ⟨15, [(2, .ref 2 0)], [(2, .box [vs aA.Code, vs aA.Text, vi x1.X, vi x1.Y])]⟩ ?_
  refine swp_ret ?_
  obtain rfl := inj h
  exact q_fr (f1 (fc tbok))
theorem ents55 : Ents Tryz.prog 55 := ents_of Tryz.func55 (by kernel_rfl) rfl
noncomputable def laws_toCandidateS (aA : (List Candidate)) : Option ((List Candidate)) :=
  ((make' (Candidate.mk (ByteArray.mk #[]) (ByteArray.mk #[]) (Point.mk 0 0)) (aA.length : Int)).bind fun x1 => (((forS (aA.length : Int) (fun (i4 : Int) (s4 : (List Candidate)) => ((at' aA i4).bind fun x8 => ((laws_toCandidate x8).bind fun x9 => ((at' s4 i4).bind fun _ => some (List.set s4 (Int.toNat i4) x9))))) (fun (s4 : (List Candidate)) => s4) 0 x1)).bind fun (j2 : (List Candidate)) => some j2))
theorem laws_toCandidateS_run (aA : (List Candidate)) (r : (List Candidate)) (h : laws_toCandidateS aA = some r) : SCall Tryz.prog 11 [.v (vl eCandidate aA)] ⟨[.own 87 4 r.length (r.map eCandidate)], [], false⟩ := by
  refine scall_in Tryz.func11 rfl [(.tmp 2)] rfl (fun r => ⟨[.own 87 4 r.length (r.map eCandidate)], [], false⟩) (r := r) ?_
  unfold laws_toCandidateS at h
  refine srk tbok ⟨23, [(0, vl eCandidate aA)], []⟩ ?_
  refine sr ?_
  refine SRun.ck tbok 2 ⟨23, [(0, vl eCandidate aA), (6, vi (aA.length : Int))], []⟩ ?_
  obtain ⟨x1, hx1, h⟩ := bind_some h
  refine SRun.ls (x_make (z := (Candidate.mk (ByteArray.mk #[]) (ByteArray.mk #[]) (Point.mk 0 0))) (f := eCandidate) (ti := ti31) (tj := ti87) (e := 87) (m := 4) (k := .i64) (k' := .i64) hx1 tbok rfl rfl (zs := [.string (ByteArray.mk #[]), .string (ByteArray.mk #[]), .int .i64 0, .int .i64 0])) ?_
  refine ckn tbok 1 ⟨23, [(0, vl eCandidate aA), (3, .own 7)], [(7, oa 87 4 eCandidate x1)]⟩ ?_
  refine swp_seq ?_
  refine srk tbok ⟨23, [(0, vl eCandidate aA), (3, .own 7), (4, vi 0)], [(7, oa 87 4 eCandidate x1)]⟩ ?_
  refine swp_seqJ h (fun j2 => ⟨23, [(3, .own 3)], [(3, oa 87 4 eCandidate j2)]⟩) (fun v3 h => ?_) (fun j2 h => ?_)
  refine swp_blk (a := v3) ?_
  refine swp_lpL (r := v3) (s := (0, x1)) _ (fun s4 => ⟨23, [(0, vl eCandidate aA), (3, .own 3), (4, vi s4.1)], [(3, oa 87 4 eCandidate s4.2)]⟩) _ ((Le.sub' ([(0, vl eCandidate aA), (3, .own 7), (4, vi 0)] : List (Nat × SV)) ([(7, oa 87 4 eCandidate x1)] : List (Nat × SO)) (by kernel_rfl) (by kernel_rfl)).trans ((Le.ren' (d := 7) (e := 3) (by kernel_rfl) (by kernel_rfl) (by kernel_rfl)).trans (Le.sub0))) h (fun s4 v5 h => ?_)
  refine swp_seq ?_
  refine srk tbok ⟨23, [(0, vl eCandidate aA), (3, .own 3), (4, vi s4.1), (11, vb (decide (s4.1 < (aA.length : Int))))], [(3, oa 87 4 eCandidate s4.2)]⟩ ?_
  refine swp_cd h (fun h => ?_) fun h => ?_
  refine swp_skip ?_
  refine nx_n ?_
  refine swp_seq ?_
  refine swp_seqJ h (fun j6 => ⟨23, [(0, vl eCandidate aA), (3, .own 3), (4, vi s4.1)], [(3, oa 87 4 eCandidate j6)]⟩) (fun v7 h => ?_) (fun j6 h => ?_)
  refine swp_blk (a := v7) ?_
  refine swp_reg ?_
  refine SRun.ck tbok 4 ⟨23, [(0, vl eCandidate aA), (3, .own 3), (4, vi s4.1), (14, .own 3), (15, vi s4.1), (16, vl eCandidate aA), (17, vi s4.1)], [(3, oa 87 4 eCandidate s4.2)]⟩ ?_
  obtain ⟨x8, hx8, h⟩ := bind_some h
  refine SRun.ls (x_index (L := aA) (f := eCandidate) (ti := ti22) (tj := ti75) (e := 75) (k := .i64) tbok rfl hx8) ?_
  refine SRun.ck tbok 1 ⟨23, [(0, vl eCandidate aA), (3, .own 3), (4, vi s4.1), (14, .own 3), (15, vi s4.1), (19, .agg (tc eCandidate x8))], [(3, oa 87 4 eCandidate s4.2)]⟩ ?_
  obtain ⟨x9, hx9, h⟩ := bind_some h
  refine SRun.ls (xc ents55 (laws_toCandidate_run x8 _ hx9)) ?_
  obtain ⟨x10, hx10, h⟩ := bind_some h
  refine SRun.ls (x_index_own (d := 3) (L := s4.2) (f := eCandidate) (ti := ti31) (tj := ti87) (e := 87) (e' := 87) (m := 4) (k := .i64) tbok rfl hx10) ?_
  refine SRun.estep (x_store_own (d := 3) (m := 4) (j := 0) (L := s4.2) (f := eCandidate) (x := x9) (z := x10) (ti := ti87) (e := 87) (ts := [.str x9.Code, .str x9.Text, .int .i64 x9.At.X, .int .i64 x9.At.Y]) (vs := [vs x9.Code, vs x9.Text, vi x9.At.X, vi x9.At.Y]) (v := .agg (tc eCandidate x9)) tbok rfl rfl hx10) ?_
  refine SRun.nil ?_
  obtain rfl := inj h
  exact q_bn (q_j (Le.sub0))
  refine swp_reg ?_
  refine SRun.ck tbok 3 ⟨23, [(0, vl eCandidate aA), (3, .own 3), (4, vi (w64 (s4.1 + 1)))], [(3, oa 87 4 eCandidate j6)]⟩ ?_
  refine SRun.nil ?_
  obtain rfl := inj h
  exact q_l (Le.sub0)
  refine swp_exit ?_
  obtain rfl := inj h
  exact nx_e (q_re (q_bh (q_j (Le.sub0))))
  refine srk tbok ⟨23, [(2, .own 3)], [(3, oa 87 4 eCandidate j2)]⟩ ?_
  refine swp_ret ?_
  obtain rfl := inj h
  exact q_fr (f1 (fo eCandidate_flat))
theorem ents11 : Ents Tryz.prog 11 := ents_of Tryz.func11 (by kernel_rfl) rfl
noncomputable def laws_toSite (aA : Site) : Option (Site) :=
  ((laws_toPoint aA.At).bind fun x1 => some (Site.mk aA.Code x1))
theorem laws_toSite_run (aA : Site) (r : Site) (h : laws_toSite aA = some r) : SCall Tryz.prog 56 [.v (.agg (tc eSite aA))] ⟨[.v (.agg (tc eSite r))], [], false⟩ := by
  refine scall_in Tryz.func56 rfl [(.cell 2 92)] rfl (fun r => ⟨[.v (.agg (tc eSite r))], [], false⟩) (r := r) ?_
  unfold laws_toSite at h
  refine srk tbok ⟨12, [(1, .ref 1 0), (2, .ref 2 0)], [(1, .box (tc eSite aA)), (2, .box [vs (ByteArray.mk #[]), vi 0, vi 0])]⟩ ?_
  refine srk tbok ⟨12, [(1, .ref 1 0), (2, .ref 2 0), (3, .ref 3 0)], [(1, .box (tc eSite aA)), (2, .box [vs (ByteArray.mk #[]), vi 0, vi 0]), (3, .box [vs (ByteArray.mk #[]), vi 0, vi 0])]⟩ ?_
  refine srk tbok ⟨12, [(1, .ref 1 0), (2, .ref 2 0), (3, .ref 3 0)], [(1, .box (tc eSite aA)), (2, .box [vs (ByteArray.mk #[]), vi 0, vi 0]), (3, .box [vs aA.Code, vi 0, vi 0])]⟩ ?_
  refine sr ?_
  refine SRun.ck tbok 2 ⟨12, [(2, .ref 2 0), (3, .ref 3 0), (8, .agg (tc ePoint aA.At))], [(2, .box [vs (ByteArray.mk #[]), vi 0, vi 0]), (3, .box [vs aA.Code, vi 0, vi 0])]⟩ ?_
  obtain ⟨x1, hx1, h⟩ := bind_some h
  refine SRun.ls (xc ents99 (laws_toPoint_run aA.At _ hx1)) ?_
  refine ckn tbok 2 ⟨12, [(2, .ref 2 0), (3, .ref 3 0)], [(2, .box [vs (ByteArray.mk #[]), vi 0, vi 0]), (3, .box [vs aA.Code, vi x1.X, vi x1.Y])]⟩ ?_
  refine srk tbok ⟨12, [(2, .ref 2 0)], [(2, .box [vs aA.Code, vi x1.X, vi x1.Y])]⟩ ?_
  refine swp_ret ?_
  obtain rfl := inj h
  exact q_fr (f1 (fc tbok))
theorem ents56 : Ents Tryz.prog 56 := ents_of Tryz.func56 (by kernel_rfl) rfl
noncomputable def laws_toSiteS (aA : (List Site)) : Option ((List Site)) :=
  ((make' (Site.mk (ByteArray.mk #[]) (Point.mk 0 0)) (aA.length : Int)).bind fun x1 => (((forS (aA.length : Int) (fun (i4 : Int) (s4 : (List Site)) => ((at' aA i4).bind fun x8 => ((laws_toSite x8).bind fun x9 => ((at' s4 i4).bind fun _ => some (List.set s4 (Int.toNat i4) x9))))) (fun (s4 : (List Site)) => s4) 0 x1)).bind fun (j2 : (List Site)) => some j2))
theorem laws_toSiteS_run (aA : (List Site)) (r : (List Site)) (h : laws_toSiteS aA = some r) : SCall Tryz.prog 12 [.v (vl eSite aA)] ⟨[.own 92 3 r.length (r.map eSite)], [], false⟩ := by
  refine scall_in Tryz.func12 rfl [(.tmp 2)] rfl (fun r => ⟨[.own 92 3 r.length (r.map eSite)], [], false⟩) (r := r) ?_
  unfold laws_toSiteS at h
  refine srk tbok ⟨23, [(0, vl eSite aA)], []⟩ ?_
  refine sr ?_
  refine SRun.ck tbok 2 ⟨23, [(0, vl eSite aA), (6, vi (aA.length : Int))], []⟩ ?_
  obtain ⟨x1, hx1, h⟩ := bind_some h
  refine SRun.ls (x_make (z := (Site.mk (ByteArray.mk #[]) (Point.mk 0 0))) (f := eSite) (ti := ti33) (tj := ti92) (e := 92) (m := 3) (k := .i64) (k' := .i64) hx1 tbok rfl rfl (zs := [.string (ByteArray.mk #[]), .int .i64 0, .int .i64 0])) ?_
  refine ckn tbok 1 ⟨23, [(0, vl eSite aA), (3, .own 7)], [(7, oa 92 3 eSite x1)]⟩ ?_
  refine swp_seq ?_
  refine srk tbok ⟨23, [(0, vl eSite aA), (3, .own 7), (4, vi 0)], [(7, oa 92 3 eSite x1)]⟩ ?_
  refine swp_seqJ h (fun j2 => ⟨23, [(3, .own 3)], [(3, oa 92 3 eSite j2)]⟩) (fun v3 h => ?_) (fun j2 h => ?_)
  refine swp_blk (a := v3) ?_
  refine swp_lpL (r := v3) (s := (0, x1)) _ (fun s4 => ⟨23, [(0, vl eSite aA), (3, .own 3), (4, vi s4.1)], [(3, oa 92 3 eSite s4.2)]⟩) _ ((Le.sub' ([(0, vl eSite aA), (3, .own 7), (4, vi 0)] : List (Nat × SV)) ([(7, oa 92 3 eSite x1)] : List (Nat × SO)) (by kernel_rfl) (by kernel_rfl)).trans ((Le.ren' (d := 7) (e := 3) (by kernel_rfl) (by kernel_rfl) (by kernel_rfl)).trans (Le.sub0))) h (fun s4 v5 h => ?_)
  refine swp_seq ?_
  refine srk tbok ⟨23, [(0, vl eSite aA), (3, .own 3), (4, vi s4.1), (11, vb (decide (s4.1 < (aA.length : Int))))], [(3, oa 92 3 eSite s4.2)]⟩ ?_
  refine swp_cd h (fun h => ?_) fun h => ?_
  refine swp_skip ?_
  refine nx_n ?_
  refine swp_seq ?_
  refine swp_seqJ h (fun j6 => ⟨23, [(0, vl eSite aA), (3, .own 3), (4, vi s4.1)], [(3, oa 92 3 eSite j6)]⟩) (fun v7 h => ?_) (fun j6 h => ?_)
  refine swp_blk (a := v7) ?_
  refine swp_reg ?_
  refine SRun.ck tbok 4 ⟨23, [(0, vl eSite aA), (3, .own 3), (4, vi s4.1), (14, .own 3), (15, vi s4.1), (16, vl eSite aA), (17, vi s4.1)], [(3, oa 92 3 eSite s4.2)]⟩ ?_
  obtain ⟨x8, hx8, h⟩ := bind_some h
  refine SRun.ls (x_index (L := aA) (f := eSite) (ti := ti23) (tj := ti78) (e := 78) (k := .i64) tbok rfl hx8) ?_
  refine SRun.ck tbok 1 ⟨23, [(0, vl eSite aA), (3, .own 3), (4, vi s4.1), (14, .own 3), (15, vi s4.1), (19, .agg (tc eSite x8))], [(3, oa 92 3 eSite s4.2)]⟩ ?_
  obtain ⟨x9, hx9, h⟩ := bind_some h
  refine SRun.ls (xc ents56 (laws_toSite_run x8 _ hx9)) ?_
  obtain ⟨x10, hx10, h⟩ := bind_some h
  refine SRun.ls (x_index_own (d := 3) (L := s4.2) (f := eSite) (ti := ti33) (tj := ti92) (e := 92) (e' := 92) (m := 3) (k := .i64) tbok rfl hx10) ?_
  refine SRun.estep (x_store_own (d := 3) (m := 3) (j := 0) (L := s4.2) (f := eSite) (x := x9) (z := x10) (ti := ti92) (e := 92) (ts := [.str x9.Code, .int .i64 x9.At.X, .int .i64 x9.At.Y]) (vs := [vs x9.Code, vi x9.At.X, vi x9.At.Y]) (v := .agg (tc eSite x9)) tbok rfl rfl hx10) ?_
  refine SRun.nil ?_
  obtain rfl := inj h
  exact q_bn (q_j (Le.sub0))
  refine swp_reg ?_
  refine SRun.ck tbok 3 ⟨23, [(0, vl eSite aA), (3, .own 3), (4, vi (w64 (s4.1 + 1)))], [(3, oa 92 3 eSite j6)]⟩ ?_
  refine SRun.nil ?_
  obtain rfl := inj h
  exact q_l (Le.sub0)
  refine swp_exit ?_
  obtain rfl := inj h
  exact nx_e (q_re (q_bh (q_j (Le.sub0))))
  refine srk tbok ⟨23, [(2, .own 3)], [(3, oa 92 3 eSite j2)]⟩ ?_
  refine swp_ret ?_
  obtain rfl := inj h
  exact q_fr (f1 (fo eSite_flat))
theorem ents12 : Ents Tryz.prog 12 := ents_of Tryz.func12 (by kernel_rfl) rfl
noncomputable def laws_toDescription (aA : Description) : Option (Description) :=
  some aA
theorem laws_toDescription_run (aA : Description) (r : Description) (h : laws_toDescription aA = some r) : SCall Tryz.prog 57 [.v (.agg (tc eDescription aA))] ⟨[.v (.agg (tc eDescription r))], [], false⟩ := by
  refine scall_in Tryz.func57 rfl [(.cell 2 84)] rfl (fun r => ⟨[.v (.agg (tc eDescription r))], [], false⟩) (r := r) ?_
  unfold laws_toDescription at h
  refine srk tbok ⟨23, [(1, .ref 1 0), (2, .ref 2 0)], [(1, .box (tc eDescription aA)), (2, .box [vi 0, vi 0, vs (ByteArray.mk #[]), vi 0, vs (ByteArray.mk #[]), vs (ByteArray.mk #[])])]⟩ ?_
  refine srk tbok ⟨23, [(1, .ref 1 0), (2, .ref 2 0), (3, .ref 3 0)], [(1, .box (tc eDescription aA)), (2, .box [vi 0, vi 0, vs (ByteArray.mk #[]), vi 0, vs (ByteArray.mk #[]), vs (ByteArray.mk #[])]), (3, .box [vi 0, vi 0, vs (ByteArray.mk #[]), vi 0, vs (ByteArray.mk #[]), vs (ByteArray.mk #[])])]⟩ ?_
  refine srk tbok ⟨23, [(1, .ref 1 0), (2, .ref 2 0), (3, .ref 3 0)], [(1, .box (tc eDescription aA)), (2, .box [vi 0, vi 0, vs (ByteArray.mk #[]), vi 0, vs (ByteArray.mk #[]), vs (ByteArray.mk #[])]), (3, .box [vi aA.Kind, vi 0, vs (ByteArray.mk #[]), vi 0, vs (ByteArray.mk #[]), vs (ByteArray.mk #[])])]⟩ ?_
  refine srk tbok ⟨23, [(1, .ref 1 0), (2, .ref 2 0), (3, .ref 3 0)], [(1, .box (tc eDescription aA)), (2, .box [vi 0, vi 0, vs (ByteArray.mk #[]), vi 0, vs (ByteArray.mk #[]), vs (ByteArray.mk #[])]), (3, .box [vi aA.Kind, vi aA.Count, vs (ByteArray.mk #[]), vi 0, vs (ByteArray.mk #[]), vs (ByteArray.mk #[])])]⟩ ?_
  refine srk tbok ⟨23, [(1, .ref 1 0), (2, .ref 2 0), (3, .ref 3 0)], [(1, .box (tc eDescription aA)), (2, .box [vi 0, vi 0, vs (ByteArray.mk #[]), vi 0, vs (ByteArray.mk #[]), vs (ByteArray.mk #[])]), (3, .box [vi aA.Kind, vi aA.Count, vs aA.Unit, vi 0, vs (ByteArray.mk #[]), vs (ByteArray.mk #[])])]⟩ ?_
  refine srk tbok ⟨23, [(1, .ref 1 0), (2, .ref 2 0), (3, .ref 3 0)], [(1, .box (tc eDescription aA)), (2, .box [vi 0, vi 0, vs (ByteArray.mk #[]), vi 0, vs (ByteArray.mk #[]), vs (ByteArray.mk #[])]), (3, .box [vi aA.Kind, vi aA.Count, vs aA.Unit, vi aA.Direction, vs (ByteArray.mk #[]), vs (ByteArray.mk #[])])]⟩ ?_
  refine srk tbok ⟨23, [(1, .ref 1 0), (2, .ref 2 0), (3, .ref 3 0)], [(1, .box (tc eDescription aA)), (2, .box [vi 0, vi 0, vs (ByteArray.mk #[]), vi 0, vs (ByteArray.mk #[]), vs (ByteArray.mk #[])]), (3, .box [vi aA.Kind, vi aA.Count, vs aA.Unit, vi aA.Direction, vs aA.A, vs (ByteArray.mk #[])])]⟩ ?_
  refine srk tbok ⟨23, [(2, .ref 2 0), (3, .ref 3 0)], [(2, .box [vi 0, vi 0, vs (ByteArray.mk #[]), vi 0, vs (ByteArray.mk #[]), vs (ByteArray.mk #[])]), (3, .box (tc eDescription aA))]⟩ ?_
  refine srk tbok ⟨23, [(2, .ref 2 0)], [(2, .box (tc eDescription aA))]⟩ ?_
  refine swp_ret ?_
  obtain rfl := inj h
  exact q_fr (f1 (fc tbok))
theorem ents57 : Ents Tryz.prog 57 := ents_of Tryz.func57 (by kernel_rfl) rfl
noncomputable def laws_toDescriptionS (aA : (List Description)) : Option ((List Description)) :=
  ((make' (Description.mk 0 0 (ByteArray.mk #[]) 0 (ByteArray.mk #[]) (ByteArray.mk #[])) (aA.length : Int)).bind fun x1 => (((forS (aA.length : Int) (fun (i4 : Int) (s4 : (List Description)) => ((at' aA i4).bind fun x8 => ((laws_toDescription x8).bind fun x9 => ((at' s4 i4).bind fun _ => some (List.set s4 (Int.toNat i4) x9))))) (fun (s4 : (List Description)) => s4) 0 x1)).bind fun (j2 : (List Description)) => some j2))
theorem laws_toDescriptionS_run (aA : (List Description)) (r : (List Description)) (h : laws_toDescriptionS aA = some r) : SCall Tryz.prog 13 [.v (vl eDescription aA)] ⟨[.own 84 6 r.length (r.map eDescription)], [], false⟩ := by
  refine scall_in Tryz.func13 rfl [(.tmp 2)] rfl (fun r => ⟨[.own 84 6 r.length (r.map eDescription)], [], false⟩) (r := r) ?_
  unfold laws_toDescriptionS at h
  refine srk tbok ⟨23, [(0, vl eDescription aA)], []⟩ ?_
  refine sr ?_
  refine SRun.ck tbok 2 ⟨23, [(0, vl eDescription aA), (6, vi (aA.length : Int))], []⟩ ?_
  obtain ⟨x1, hx1, h⟩ := bind_some h
  refine SRun.ls (x_make (z := (Description.mk 0 0 (ByteArray.mk #[]) 0 (ByteArray.mk #[]) (ByteArray.mk #[]))) (f := eDescription) (ti := ti35) (tj := ti84) (e := 84) (m := 6) (k := .i64) (k' := .i64) hx1 tbok rfl rfl (zs := [.int .i64 0, .int .i64 0, .string (ByteArray.mk #[]), .int .i64 0, .string (ByteArray.mk #[]), .string (ByteArray.mk #[])])) ?_
  refine ckn tbok 1 ⟨23, [(0, vl eDescription aA), (3, .own 7)], [(7, oa 84 6 eDescription x1)]⟩ ?_
  refine swp_seq ?_
  refine srk tbok ⟨23, [(0, vl eDescription aA), (3, .own 7), (4, vi 0)], [(7, oa 84 6 eDescription x1)]⟩ ?_
  refine swp_seqJ h (fun j2 => ⟨23, [(3, .own 3)], [(3, oa 84 6 eDescription j2)]⟩) (fun v3 h => ?_) (fun j2 h => ?_)
  refine swp_blk (a := v3) ?_
  refine swp_lpL (r := v3) (s := (0, x1)) _ (fun s4 => ⟨23, [(0, vl eDescription aA), (3, .own 3), (4, vi s4.1)], [(3, oa 84 6 eDescription s4.2)]⟩) _ ((Le.sub' ([(0, vl eDescription aA), (3, .own 7), (4, vi 0)] : List (Nat × SV)) ([(7, oa 84 6 eDescription x1)] : List (Nat × SO)) (by kernel_rfl) (by kernel_rfl)).trans ((Le.ren' (d := 7) (e := 3) (by kernel_rfl) (by kernel_rfl) (by kernel_rfl)).trans (Le.sub0))) h (fun s4 v5 h => ?_)
  refine swp_seq ?_
  refine srk tbok ⟨23, [(0, vl eDescription aA), (3, .own 3), (4, vi s4.1), (11, vb (decide (s4.1 < (aA.length : Int))))], [(3, oa 84 6 eDescription s4.2)]⟩ ?_
  refine swp_cd h (fun h => ?_) fun h => ?_
  refine swp_skip ?_
  refine nx_n ?_
  refine swp_seq ?_
  refine swp_seqJ h (fun j6 => ⟨23, [(0, vl eDescription aA), (3, .own 3), (4, vi s4.1)], [(3, oa 84 6 eDescription j6)]⟩) (fun v7 h => ?_) (fun j6 h => ?_)
  refine swp_blk (a := v7) ?_
  refine swp_reg ?_
  refine SRun.ck tbok 4 ⟨23, [(0, vl eDescription aA), (3, .own 3), (4, vi s4.1), (14, .own 3), (15, vi s4.1), (16, vl eDescription aA), (17, vi s4.1)], [(3, oa 84 6 eDescription s4.2)]⟩ ?_
  obtain ⟨x8, hx8, h⟩ := bind_some h
  refine SRun.ls (x_index (L := aA) (f := eDescription) (ti := ti24) (tj := ti81) (e := 81) (k := .i64) tbok rfl hx8) ?_
  refine SRun.ck tbok 1 ⟨23, [(0, vl eDescription aA), (3, .own 3), (4, vi s4.1), (14, .own 3), (15, vi s4.1), (19, .agg (tc eDescription x8))], [(3, oa 84 6 eDescription s4.2)]⟩ ?_
  obtain ⟨x9, hx9, h⟩ := bind_some h
  refine SRun.ls (xc ents57 (laws_toDescription_run x8 _ hx9)) ?_
  obtain ⟨x10, hx10, h⟩ := bind_some h
  refine SRun.ls (x_index_own (d := 3) (L := s4.2) (f := eDescription) (ti := ti35) (tj := ti84) (e := 84) (e' := 84) (m := 6) (k := .i64) tbok rfl hx10) ?_
  refine SRun.estep (x_store_own (d := 3) (m := 6) (j := 0) (L := s4.2) (f := eDescription) (x := x9) (z := x10) (ti := ti84) (e := 84) (ts := [.int .i64 x9.Kind, .int .i64 x9.Count, .str x9.Unit, .int .i64 x9.Direction, .str x9.A, .str x9.B]) (vs := [vi x9.Kind, vi x9.Count, vs x9.Unit, vi x9.Direction, vs x9.A, vs x9.B]) (v := .agg (tc eDescription x9)) tbok rfl rfl hx10) ?_
  refine SRun.nil ?_
  obtain rfl := inj h
  exact q_bn (q_j (Le.sub0))
  refine swp_reg ?_
  refine SRun.ck tbok 3 ⟨23, [(0, vl eDescription aA), (3, .own 3), (4, vi (w64 (s4.1 + 1)))], [(3, oa 84 6 eDescription j6)]⟩ ?_
  refine SRun.nil ?_
  obtain rfl := inj h
  exact q_l (Le.sub0)
  refine swp_exit ?_
  obtain rfl := inj h
  exact nx_e (q_re (q_bh (q_j (Le.sub0))))
  refine srk tbok ⟨23, [(2, .own 3)], [(3, oa 84 6 eDescription j2)]⟩ ?_
  refine swp_ret ?_
  obtain rfl := inj h
  exact q_fr (f1 (fo eDescription_flat))
theorem ents13 : Ents Tryz.prog 13 := ents_of Tryz.func13 (by kernel_rfl) rfl
noncomputable def spec_l01In (aN : Int) (aLow : Int) (aHigh : Int) : Option (Bool) :=
  some ((decide (aN ≥ aLow)) && (decide (aN ≤ aHigh)))
theorem spec_l01In_run (aN : Int) (aLow : Int) (aHigh : Int) (r : Bool) (h : spec_l01In aN aLow aHigh = some r) : SCall Tryz.prog 136 [.v (vi aN), .v (vi aLow), .v (vi aHigh)] ⟨[.v (vb r)], [], false⟩ := by
  refine scall_in Tryz.func136 rfl [(.tmp 6)] rfl (fun r => ⟨[.v (vb r)], [], false⟩) (r := r) ?_
  unfold spec_l01In at h
  refine srk tbok ⟨15, [(0, vi aN), (1, vi aLow), (2, vi aHigh)], []⟩ ?_
  refine swp_seq ?_
  refine swp_regP ⟨15, [(6, vb ((decide (aN ≥ aLow)) && (decide (aN ≤ aHigh))))], []⟩ ?_ ?_
  refine SRun.ck tbok 4 ⟨15, [(0, vi aN), (2, vi aHigh), (10, vb (decide (aN ≥ aLow)))], []⟩ ?_
  generalize (decide (aN ≥ aLow)) = bb
  cases bb
  refine SRun.ck tbok 5 ⟨15, [(6, vb false)], []⟩ ?_
  exact SRun.nil (Le.sub0)
  refine SRun.ck tbok 5 ⟨15, [(6, vb (decide (aN ≤ aHigh)))], []⟩ ?_
  exact SRun.nil (Le.sub0)
  refine swp_ret ?_
  obtain rfl := inj h
  exact q_fr (f1 fv)
theorem ents136 : Ents Tryz.prog 136 := ents_of Tryz.func136 (by kernel_rfl) rfl
noncomputable def spec_IsWord (aS : ByteArray) : Option (Bool) :=
  (((forN (aS.size : Int) (fun (i3 : Int) (_ : Unit) => ((((byte' aS i3).bind fun x7 => (bif (decide (x7 < 97)) then some true else ((byte' aS i3).bind fun x8 => some (decide (x8 > 122)))))).bind fun (j9 : Bool) => (bif j9 then some (.inr (.inr false)) else some (.inl ())))) (fun (_ : Unit) => .inl ()) 0 ())).bind (Sum.elim (fun (_ : Unit) => ((spec_l01In (aS.size : Int) 1 16).bind fun x11 => some x11)) some))
theorem spec_IsWord_run (aS : ByteArray) (r : Bool) (h : spec_IsWord aS = some r) : SCall Tryz.prog 89 [.v (vs aS)] ⟨[.v (vb r)], [], false⟩ := by
  refine scall_in Tryz.func89 rfl [(.tmp 2)] rfl (fun r => ⟨[.v (vb r)], [], false⟩) (r := r) ?_
  unfold spec_IsWord at h
  refine srk tbok ⟨23, [(0, vs aS)], []⟩ ?_
  refine swp_seq ?_
  refine srk tbok ⟨23, [(0, vs aS), (3, vi 0)], []⟩ ?_
  refine swp_seqE (r := r) h (fun j1 => ⟨23, [(0, vs aS)], []⟩) (fun v2 h => ?_) (fun j1 h => ?_)
  refine swp_blk (a := v2) ?_
  refine swp_lpL (r := v2) (s := (0, ())) _ (fun s3 => ⟨23, [(0, vs aS), (3, vi s3.1)], []⟩) _ (Le.sub0) h (fun s3 v4 h => ?_)
  refine swp_seq ?_
  refine srk tbok ⟨23, [(0, vs aS), (3, vi s3.1), (7, vb (decide (s3.1 < (aS.size : Int))))], []⟩ ?_
  refine swp_cd h (fun h => ?_) fun h => ?_
  refine swp_skip ?_
  refine nx_n ?_
  refine swp_seq ?_
  refine swp_seqL (r := v4) h (fun j5 => ⟨23, [(0, vs aS), (3, vi s3.1)], []⟩) (fun v6 h => ?_) (fun j5 h => ?_)
  refine swp_blk (a := v6) ?_
  refine swp_seq ?_
  refine swp_regJ h (fun j9 => ⟨23, [(0, vs aS), (3, vi s3.1), (19, vb j9)], []⟩) (fun v10 h => ?_) (fun j9 h => ?_)
  refine SRun.ck tbok 2 ⟨23, [(0, vs aS), (3, vi s3.1), (10, vs aS), (11, vi s3.1)], []⟩ ?_
  obtain ⟨x7, hx7, h⟩ := bind_some h
  refine SRun.ls (x_byte (ti := ti9) (k := .i64) hx7 tbok rfl) ?_
  refine SRun.ck tbok 2 ⟨23, [(0, vs aS), (3, vi s3.1), (14, vb (decide (x7 < 97)))], []⟩ ?_
  refine SRun.cu [(14, fun b => b)] h (fun h => ?_) fun h => ?_
  refine SRun.ck tbok 5 ⟨23, [(0, vs aS), (3, vi s3.1), (19, vb true)], []⟩ ?_
  refine SRun.nil ?_
  obtain rfl := inj h
  exact Le.sub0
  refine SRun.ck tbok 2 ⟨23, [(0, vs aS), (3, vi s3.1), (14, vb false), (15, vs aS), (16, vi s3.1)], []⟩ ?_
  obtain ⟨x8, hx8, h⟩ := bind_some h
  refine SRun.ls (x_byte (ti := ti9) (k := .i64) hx8 tbok rfl) ?_
  refine SRun.ck tbok 2 ⟨23, [(0, vs aS), (3, vi s3.1), (19, vb (decide (x8 > 122)))], []⟩ ?_
  refine SRun.nil ?_
  obtain rfl := inj h
  exact Le.sub0
  refine swp_cd h (fun h => ?_) fun h => ?_
  refine srk tbok ⟨23, [(2, vb false)], []⟩ ?_
  refine swp_ret ?_
  obtain rfl := inj h
  exact q_br (q_rr (q_rr (q_br (q_rr (q_fr (f1 fv))))))
  refine swp_skip ?_
  obtain rfl := inj h
  exact q_bn (q_l (Le.sub0))
  refine swp_reg ?_
  refine SRun.ck tbok 3 ⟨23, [(0, vs aS), (3, vi (w64 (s3.1 + 1)))], []⟩ ?_
  refine SRun.nil ?_
  obtain rfl := inj h
  exact q_l (Le.sub0)
  refine swp_exit ?_
  obtain rfl := inj h
  exact nx_e (q_re (q_bh (q_l (Le.sub0))))
  refine sr ?_
  refine SRun.ck tbok 2 ⟨23, [(21, vi (aS.size : Int))], []⟩ ?_
  obtain ⟨x11, hx11, h⟩ := bind_some h
  refine SRun.ls (xc ents136 (spec_l01In_run (aS.size : Int) 1 16 _ hx11)) ?_
  refine ckn tbok 1 ⟨23, [(2, vb x11)], []⟩ ?_
  refine swp_ret ?_
  obtain rfl := inj h
  exact q_fr (f1 fv)
theorem ents89 : Ents Tryz.prog 89 := ents_of Tryz.func89 (by kernel_rfl) rfl
noncomputable def spec_l01Split (aS : ByteArray) (aBy : Int) : Option ((List ByteArray)) :=
  (((forH (fun (i3 : Int) (_ : Int × (List ByteArray)) => (decide (i3 ≤ (aS.size : Int)))) (fun (i3 : Int) (s3 : Int × (List ByteArray)) => (((bif (i3 == (aS.size : Int)) then some true else ((byte' aS i3).bind fun x7 => some (x7 == aBy)))).bind fun (j8 : Bool) => (bif j8 then ((sub' aS s3.1 i3).bind fun x10 => ((app' s3.2 ([x10] : List ByteArray)).bind fun x11 => some ((w64 (i3 + 1)), x11))) else some (s3.1, s3.2)))) (fun (s3 : Int × (List ByteArray)) => s3.2) 0 (0, ([] : List ByteArray)))).bind fun (j1 : (List ByteArray)) => some j1)
theorem spec_l01Split_run (aS : ByteArray) (aBy : Int) (r : (List ByteArray)) (h : spec_l01Split aS aBy = some r) : SCall Tryz.prog 156 [.v (vs aS), .v (.tr (.int .u8 aBy))] ⟨[.own 9 1 r.length (r.map eS)], [], false⟩ := by
  refine scall_in Tryz.func156 rfl [(.tmp 4)] rfl (fun r => ⟨[.own 9 1 r.length (r.map eS)], [], false⟩) (r := r) ?_
  unfold spec_l01Split at h
  refine srk tbok ⟨36, [(0, vs aS), (1, .tr (.int .u8 aBy))], []⟩ ?_
  refine srk tbok ⟨36, [(0, vs aS), (1, .tr (.int .u8 aBy)), (5, .own 8)], [(8, oa 9 1 eS ([] : List ByteArray))]⟩ ?_
  refine srk tbok ⟨36, [(0, vs aS), (1, .tr (.int .u8 aBy)), (5, .own 8), (6, vi 0)], [(8, oa 9 1 eS ([] : List ByteArray))]⟩ ?_
  refine swp_seq ?_
  refine srk tbok ⟨36, [(0, vs aS), (1, .tr (.int .u8 aBy)), (5, .own 8), (6, vi 0), (7, vi 0)], [(8, oa 9 1 eS ([] : List ByteArray))]⟩ ?_
  refine swp_seqJ h (fun j1 => ⟨36, [(5, .own 5)], [(5, oa 9 1 eS j1)]⟩) (fun v2 h => ?_) (fun j1 h => ?_)
  refine swp_blk (a := v2) ?_
  refine swp_lpL (r := v2) (s := (0, 0, ([] : List ByteArray))) _ (fun s3 => ⟨36, [(0, vs aS), (1, .tr (.int .u8 aBy)), (5, .own 5), (6, vi s3.2.1), (7, vi s3.1)], [(5, oa 9 1 eS s3.2.2)]⟩) _ ((Le.sub' ([(0, vs aS), (1, .tr (.int .u8 aBy)), (5, .own 8), (6, vi 0), (7, vi 0)] : List (Nat × SV)) ([(8, oa 9 1 eS ([] : List ByteArray))] : List (Nat × SO)) (by kernel_rfl) (by kernel_rfl)).trans ((Le.ren' (d := 8) (e := 5) (by kernel_rfl) (by kernel_rfl) (by kernel_rfl)).trans (Le.sub0))) h (fun s3 v4 h => ?_)
  refine swp_seq ?_
  refine srk tbok ⟨36, [(0, vs aS), (1, .tr (.int .u8 aBy)), (5, .own 5), (6, vi s3.2.1), (7, vi s3.1), (12, vb (decide (s3.1 ≤ (aS.size : Int))))], [(5, oa 9 1 eS s3.2.2)]⟩ ?_
  refine swp_cd h (fun h => ?_) fun h => ?_
  refine swp_skip ?_
  refine nx_n ?_
  refine swp_seq ?_
  refine swp_seqJ h (fun j5 => ⟨36, [(0, vs aS), (1, .tr (.int .u8 aBy)), (5, .own 5), (6, vi j5.1), (7, vi s3.1)], [(5, oa 9 1 eS j5.2)]⟩) (fun v6 h => ?_) (fun j5 h => ?_)
  refine swp_blk (a := v6) ?_
  refine swp_seq ?_
  refine swp_regJ h (fun j8 => ⟨36, [(0, vs aS), (1, .tr (.int .u8 aBy)), (5, .own 5), (6, vi s3.2.1), (7, vi s3.1), (25, vb j8)], [(5, oa 9 1 eS s3.2.2)]⟩) (fun v9 h => ?_) (fun j8 h => ?_)
  refine SRun.ck tbok 5 ⟨36, [(0, vs aS), (1, .tr (.int .u8 aBy)), (5, .own 5), (6, vi s3.2.1), (7, vi s3.1), (19, vb (s3.1 == (aS.size : Int)))], [(5, oa 9 1 eS s3.2.2)]⟩ ?_
  refine SRun.cu [(19, fun b => b)] h (fun h => ?_) fun h => ?_
  refine SRun.ck tbok 6 ⟨36, [(0, vs aS), (1, .tr (.int .u8 aBy)), (5, .own 5), (6, vi s3.2.1), (7, vi s3.1), (25, vb true)], [(5, oa 9 1 eS s3.2.2)]⟩ ?_
  refine SRun.nil ?_
  obtain rfl := inj h
  exact Le.sub0
  refine SRun.ck tbok 2 ⟨36, [(0, vs aS), (1, .tr (.int .u8 aBy)), (5, .own 5), (6, vi s3.2.1), (7, vi s3.1), (19, vb false), (20, vs aS), (21, vi s3.1)], [(5, oa 9 1 eS s3.2.2)]⟩ ?_
  obtain ⟨x7, hx7, h⟩ := bind_some h
  refine SRun.ls (x_byte (ti := ti9) (k := .i64) hx7 tbok rfl) ?_
  refine SRun.ck tbok 3 ⟨36, [(0, vs aS), (1, .tr (.int .u8 aBy)), (5, .own 5), (6, vi s3.2.1), (7, vi s3.1), (25, vb (x7 == aBy))], [(5, oa 9 1 eS s3.2.2)]⟩ ?_
  refine SRun.nil ?_
  obtain rfl := inj h
  exact Le.sub0
  refine swp_cd h (fun h => ?_) fun h => ?_
  refine sr ?_
  refine SRun.ck tbok 4 ⟨36, [(0, vs aS), (1, .tr (.int .u8 aBy)), (7, vi s3.1), (26, .own 5), (27, vs aS), (28, vi s3.2.1), (29, vi s3.1)], [(5, oa 9 1 eS s3.2.2)]⟩ ?_
  obtain ⟨x10, hx10, h⟩ := bind_some h
  refine SRun.ls (x_sub (ti := ti9) hx10 tbok rfl) ?_
  refine SRun.ck tbok 1 ⟨36, [(0, vs aS), (1, .tr (.int .u8 aBy)), (7, vi s3.1), (26, .own 5), (31, .own 31)], [(5, oa 9 1 eS s3.2.2), (31, oa 9 1 eS ([x10] : List ByteArray))]⟩ ?_
  obtain ⟨x11, hx11, h⟩ := bind_some h
  refine SRun.estep (x_append (f := eS) (t := 28) (ti := ti28) (tj := ti9) (zs := [.string (ByteArray.mk #[])]) (e := 9) (m := 1) (d := 5) (xv := .own 31) hx11 tbok rfl rfl rfl rfl (x_src_o (e := 9))) ?_
  refine ckn tbok 1 ⟨36, [(0, vs aS), (1, .tr (.int .u8 aBy)), (5, .own 32), (7, vi s3.1)], [(32, oa 9 1 eS x11)]⟩ ?_
  refine swp_reg ?_
  refine SRun.ck tbok 3 ⟨36, [(0, vs aS), (1, .tr (.int .u8 aBy)), (5, .own 32), (6, vi (w64 (s3.1 + 1))), (7, vi s3.1)], [(32, oa 9 1 eS x11)]⟩ ?_
  refine SRun.nil ?_
  obtain rfl := inj h
  exact q_bn (q_j ((Le.sub' ([(0, vs aS), (1, .tr (.int .u8 aBy)), (5, .own 32), (6, vi (w64 (s3.1 + 1))), (7, vi s3.1)] : List (Nat × SV)) ([(32, oa 9 1 eS x11)] : List (Nat × SO)) (by kernel_rfl) (by kernel_rfl)).trans ((Le.ren' (d := 32) (e := 5) (by kernel_rfl) (by kernel_rfl) (by kernel_rfl)).trans (Le.sub0))))
  refine swp_skip ?_
  obtain rfl := inj h
  exact q_bn (q_j (Le.sub0))
  refine swp_reg ?_
  refine SRun.ck tbok 3 ⟨36, [(0, vs aS), (1, .tr (.int .u8 aBy)), (5, .own 5), (6, vi j5.1), (7, vi (w64 (s3.1 + 1)))], [(5, oa 9 1 eS j5.2)]⟩ ?_
  refine SRun.nil ?_
  obtain rfl := inj h
  exact q_l (Le.sub0)
  refine swp_exit ?_
  obtain rfl := inj h
  exact nx_e (q_re (q_bh (q_j (Le.sub0))))
  refine srk tbok ⟨36, [(4, .own 5)], [(5, oa 9 1 eS j1)]⟩ ?_
  refine swp_ret ?_
  obtain rfl := inj h
  exact q_fr (f1 (fo eS_flat))
theorem ents156 : Ents Tryz.prog 156 := ents_of Tryz.func156 (by kernel_rfl) rfl
noncomputable def spec_l01Phrase (aS : ByteArray) : Option ((List ByteArray) × Bool) :=
  ((spec_l01Split aS 32).bind fun x1 => (((forN (x1.length : Int) (fun (i4 : Int) (_ : Unit) => ((at' x1 i4).bind fun x8 => ((spec_IsWord x8).bind fun x9 => (bif (!x9) then some (.inr (.inr (([] : List ByteArray), false))) else some (.inl ()))))) (fun (_ : Unit) => .inl ()) 0 ())).bind (Sum.elim (fun (_ : Unit) => some (x1, (decide ((x1.length : Int) ≤ 8)))) some)))
theorem spec_l01Phrase_run (aS : ByteArray) (r : (List ByteArray) × Bool) (h : spec_l01Phrase aS = some r) : SCall Tryz.prog 121 [.v (vs aS)] ⟨[.own 9 1 r.1.length (r.1.map eS), .v (vb r.2)], [], false⟩ := by
  refine scall_in Tryz.func121 rfl [(.tmp 2), (.tmp 3)] rfl (fun r => ⟨[.own 9 1 r.1.length (r.1.map eS), .v (vb r.2)], [], false⟩) (r := r) ?_
  unfold spec_l01Phrase at h
  refine srk tbok ⟨24, [(0, vs aS)], []⟩ ?_
  refine sr ?_
  refine SRun.ck tbok 1 ⟨24, [(6, vs aS)], []⟩ ?_
  obtain ⟨x1, hx1, h⟩ := bind_some h
  refine SRun.ls (xc ents156 (spec_l01Split_run aS 32 _ hx1)) ?_
  refine ckn tbok 1 ⟨24, [(4, .own 7)], [(7, oa 9 1 eS x1)]⟩ ?_
  refine swp_seq ?_
  refine srk tbok ⟨24, [(4, .own 7), (5, vi 0)], [(7, oa 9 1 eS x1)]⟩ ?_
  refine swp_seqE (r := r) h (fun j2 => ⟨24, [(4, .own 4)], [(4, oa 9 1 eS x1)]⟩) (fun v3 h => ?_) (fun j2 h => ?_)
  refine swp_blk (a := v3) ?_
  refine swp_lpL (r := v3) (s := (0, ())) _ (fun s4 => ⟨24, [(4, .own 4), (5, vi s4.1)], [(4, oa 9 1 eS x1)]⟩) _ ((Le.sub' ([(4, .own 7), (5, vi 0)] : List (Nat × SV)) ([(7, oa 9 1 eS x1)] : List (Nat × SO)) (by kernel_rfl) (by kernel_rfl)).trans ((Le.ren' (d := 7) (e := 4) (by kernel_rfl) (by kernel_rfl) (by kernel_rfl)).trans (Le.sub0))) h (fun s4 v5 h => ?_)
  refine swp_seq ?_
  refine srk tbok ⟨24, [(4, .own 4), (5, vi s4.1), (11, vb (decide (s4.1 < (x1.length : Int))))], [(4, oa 9 1 eS x1)]⟩ ?_
  refine swp_cd h (fun h => ?_) fun h => ?_
  refine swp_skip ?_
  refine nx_n ?_
  refine swp_seq ?_
  refine swp_seqL (r := v5) h (fun j6 => ⟨24, [(4, .own 4), (5, vi s4.1)], [(4, oa 9 1 eS x1)]⟩) (fun v7 h => ?_) (fun j6 h => ?_)
  refine swp_blk (a := v7) ?_
  refine sr ?_
  refine SRun.ck tbok 2 ⟨24, [(4, .own 4), (5, vi s4.1), (14, .own 4), (15, vi s4.1)], [(4, oa 9 1 eS x1)]⟩ ?_
  obtain ⟨x8, hx8, h⟩ := bind_some h
  refine SRun.ls (x_index_own (d := 4) (L := x1) (f := eS) (ti := ti28) (tj := ti9) (e := 9) (e' := 9) (m := 1) (k := .i64) tbok rfl hx8) ?_
  refine SRun.ls (x_load_own (d := 4) (m := 1) (j := 0) (L := x1) (f := eS) (ti := ti9) (e := 9) (v := vs x8) tbok rfl hx8) ?_
  obtain ⟨x9, hx9, h⟩ := bind_some h
  refine SRun.ls (xc ents89 (spec_IsWord_run x8 _ hx9)) ?_
  refine ckn tbok 1 ⟨24, [(4, .own 4), (5, vi s4.1), (19, vb (!x9))], [(4, oa 9 1 eS x1)]⟩ ?_
  refine swp_cd h (fun h => ?_) fun h => ?_
  refine srk tbok ⟨24, [(2, .own 2), (3, vb false)], [(2, oa 9 1 eS ([] : List ByteArray))]⟩ ?_
  refine swp_ret ?_
  obtain rfl := inj h
  exact q_br (q_rr (q_rr (q_br (q_rr (q_fr (f2 (fo eS_flat) fv))))))
  refine swp_skip ?_
  obtain rfl := inj h
  exact q_bn (q_l (Le.sub0))
  refine swp_reg ?_
  refine SRun.ck tbok 3 ⟨24, [(4, .own 4), (5, vi (w64 (s4.1 + 1)))], [(4, oa 9 1 eS x1)]⟩ ?_
  refine SRun.nil ?_
  obtain rfl := inj h
  exact q_l (Le.sub0)
  refine swp_exit ?_
  obtain rfl := inj h
  exact nx_e (q_re (q_bh (q_l (Le.sub0))))
  refine srk tbok ⟨24, [(2, .own 4), (3, vb (decide ((x1.length : Int) ≤ 8)))], [(4, oa 9 1 eS x1)]⟩ ?_
  refine swp_ret ?_
  obtain rfl := inj h
  exact q_fr (f2 (fo eS_flat) fv)
theorem ents121 : Ents Tryz.prog 121 := ents_of Tryz.func121 (by kernel_rfl) rfl
noncomputable def spec_IsPhrase (aS : ByteArray) : Option (Bool) :=
  ((spec_l01Phrase aS).bind fun x1 => some x1.2)
theorem spec_IsPhrase_run (aS : ByteArray) (r : Bool) (h : spec_IsPhrase aS = some r) : SCall Tryz.prog 76 [.v (vs aS)] ⟨[.v (vb r)], [], false⟩ := by
  refine scall_in Tryz.func76 rfl [(.tmp 2)] rfl (fun r => ⟨[.v (vb r)], [], false⟩) (r := r) ?_
  unfold spec_IsPhrase at h
  refine srk tbok ⟨11, [(0, vs aS)], []⟩ ?_
  refine sr ?_
  refine SRun.ck tbok 1 ⟨11, [(6, vs aS)], []⟩ ?_
  obtain ⟨x1, hx1, h⟩ := bind_some h
  refine SRun.ls (xc ents121 (spec_l01Phrase_run aS _ hx1)) ?_
  refine ckn tbok 5 ⟨11, [(4, vb x1.2)], []⟩ ?_
  refine srk tbok ⟨11, [(2, vb x1.2)], []⟩ ?_
  refine swp_ret ?_
  obtain rfl := inj h
  exact q_fr (f1 fv)
theorem ents76 : Ents Tryz.prog 76 := ents_of Tryz.func76 (by kernel_rfl) rfl
noncomputable def spec_IsPoint (aP : Point) : Option (Bool) :=
  ((((spec_l01In aP.X (-1000) 1000).bind fun x1 => (bif x1 then ((spec_l01In aP.Y (-1000) 1000).bind fun x2 => some x2) else some false))).bind fun (j3 : Bool) => some j3)
theorem spec_IsPoint_run (aP : Point) (r : Bool) (h : spec_IsPoint aP = some r) : SCall Tryz.prog 90 [.v (.agg (tc ePoint aP))] ⟨[.v (vb r)], [], false⟩ := by
  refine scall_in Tryz.func90 rfl [(.tmp 2)] rfl (fun r => ⟨[.v (vb r)], [], false⟩) (r := r) ?_
  unfold spec_IsPoint at h
  refine srk tbok ⟨11, [(1, .ref 1 0)], [(1, .box (tc ePoint aP))]⟩ ?_
  refine swp_seq ?_
  refine swp_regJ h (fun j3 => ⟨11, [(2, vb j3)], []⟩) (fun v4 h => ?_) (fun j3 h => ?_)
  refine SRun.ck tbok 2 ⟨11, [(1, .ref 1 0), (4, vi aP.X)], [(1, .box (tc ePoint aP))]⟩ ?_
  obtain ⟨x1, hx1, h⟩ := bind_some h
  refine SRun.ls (xc ents136 (spec_l01In_run aP.X (-1000) 1000 _ hx1)) ?_
  refine SRun.ck tbok 1 ⟨11, [(1, .ref 1 0), (6, vb x1)], [(1, .box (tc ePoint aP))]⟩ ?_
  refine SRun.cu [(6, fun b => b)] h (fun h => ?_) fun h => ?_
  refine SRun.ck tbok 2 ⟨11, [(6, vb true), (8, vi aP.Y)], []⟩ ?_
  obtain ⟨x2, hx2, h⟩ := bind_some h
  refine SRun.ls (xc ents136 (spec_l01In_run aP.Y (-1000) 1000 _ hx2)) ?_
  refine SRun.ck tbok 2 ⟨11, [(2, vb x2)], []⟩ ?_
  refine SRun.nil ?_
  obtain rfl := inj h
  exact Le.sub0
  refine SRun.ck tbok 5 ⟨11, [(2, vb false)], []⟩ ?_
  refine SRun.nil ?_
  obtain rfl := inj h
  exact Le.sub0
  refine swp_ret ?_
  obtain rfl := inj h
  exact q_fr (f1 fv)
theorem ents90 : Ents Tryz.prog 90 := ents_of Tryz.func90 (by kernel_rfl) rfl
noncomputable def spec_l30Find (aList : (List Candidate)) (aCode : ByteArray) : Option (Int) :=
  (((forN (aList.length : Int) (fun (i3 : Int) (_ : Unit) => ((at' aList i3).bind fun x7 => (bif (x7.Code.toList == aCode.toList) then some (.inr (.inr i3)) else some (.inl ())))) (fun (_ : Unit) => .inl ()) 0 ())).bind (Sum.elim (fun (_ : Unit) => some (-1)) some))
theorem spec_l30Find_run (aList : (List Candidate)) (aCode : ByteArray) (r : Int) (h : spec_l30Find aList aCode = some r) : SCall Tryz.prog 53 [.v (vl eCandidate aList), .v (vs aCode)] ⟨[.v (vi r)], [], false⟩ := by
  refine scall_in Tryz.func53 rfl [(.tmp 4)] rfl (fun r => ⟨[.v (vi r)], [], false⟩) (r := r) ?_
  unfold spec_l30Find at h
  refine srk tbok ⟨20, [(0, vl eCandidate aList), (1, vs aCode)], []⟩ ?_
  refine swp_seq ?_
  refine srk tbok ⟨20, [(0, vl eCandidate aList), (1, vs aCode), (5, vi 0)], []⟩ ?_
  refine swp_seqE (r := r) h (fun j1 => ⟨20, [], []⟩) (fun v2 h => ?_) (fun j1 h => ?_)
  refine swp_blk (a := v2) ?_
  refine swp_lpL (r := v2) (s := (0, ())) _ (fun s3 => ⟨20, [(0, vl eCandidate aList), (1, vs aCode), (5, vi s3.1)], []⟩) _ (Le.sub0) h (fun s3 v4 h => ?_)
  refine swp_seq ?_
  refine srk tbok ⟨20, [(0, vl eCandidate aList), (1, vs aCode), (5, vi s3.1), (9, vb (decide (s3.1 < (aList.length : Int))))], []⟩ ?_
  refine swp_cd h (fun h => ?_) fun h => ?_
  refine swp_skip ?_
  refine nx_n ?_
  refine swp_seq ?_
  refine swp_seqL (r := v4) h (fun j5 => ⟨20, [(0, vl eCandidate aList), (1, vs aCode), (5, vi s3.1)], []⟩) (fun v6 h => ?_) (fun j5 h => ?_)
  refine swp_blk (a := v6) ?_
  refine sr ?_
  refine SRun.ck tbok 2 ⟨20, [(0, vl eCandidate aList), (1, vs aCode), (5, vi s3.1), (12, vl eCandidate aList), (13, vi s3.1)], []⟩ ?_
  obtain ⟨x7, hx7, h⟩ := bind_some h
  refine SRun.ls (x_index (L := aList) (f := eCandidate) (ti := ti31) (tj := ti87) (e := 87) (k := .i64) tbok rfl hx7) ?_
  refine ckn tbok 4 ⟨20, [(0, vl eCandidate aList), (1, vs aCode), (5, vi s3.1), (18, vb (x7.Code.toList == aCode.toList))], []⟩ ?_
  refine swp_cd h (fun h => ?_) fun h => ?_
  refine srk tbok ⟨20, [(4, vi s3.1)], []⟩ ?_
  refine swp_ret ?_
  obtain rfl := inj h
  exact q_br (q_rr (q_rr (q_br (q_rr (q_fr (f1 fv))))))
  refine swp_skip ?_
  obtain rfl := inj h
  exact q_bn (q_l (Le.sub0))
  refine swp_reg ?_
  refine SRun.ck tbok 3 ⟨20, [(0, vl eCandidate aList), (1, vs aCode), (5, vi (w64 (s3.1 + 1)))], []⟩ ?_
  refine SRun.nil ?_
  obtain rfl := inj h
  exact q_l (Le.sub0)
  refine swp_exit ?_
  obtain rfl := inj h
  exact nx_e (q_re (q_bh (q_l (Le.sub0))))
  refine srk tbok ⟨20, [(4, vi (-1))], []⟩ ?_
  refine swp_ret ?_
  obtain rfl := inj h
  exact q_fr (f1 fv)
theorem ents53 : Ents Tryz.prog 53 := ents_of Tryz.func53 (by kernel_rfl) rfl
noncomputable def spec_AreCandidates (aList : (List Candidate)) : Option (Bool) :=
  (((forN (aList.length : Int) (fun (i3 : Int) (_ : Unit) => ((at' aList i3).bind fun x7 => ((((spec_IsWord x7.Code).bind fun x8 => (bif (!x8) then some true else ((spec_IsPhrase x7.Text).bind fun x9 => (bif (!x9) then some true else ((spec_IsPoint x7.At).bind fun x10 => (bif (!x10) then some true else ((spec_l30Find aList x7.Code).bind fun x11 => some (x11 != i3))))))))).bind fun (j12 : Bool) => (bif j12 then some (.inr (.inr false)) else some (.inl ()))))) (fun (_ : Unit) => .inl ()) 0 ())).bind (Sum.elim (fun (_ : Unit) => some (decide ((aList.length : Int) ≤ 10))) some))
theorem spec_AreCandidates_run (aList : (List Candidate)) (r : Bool) (h : spec_AreCandidates aList = some r) : SCall Tryz.prog 46 [.v (vl eCandidate aList)] ⟨[.v (vb r)], [], false⟩ := by
  refine scall_in Tryz.func46 rfl [(.tmp 2)] rfl (fun r => ⟨[.v (vb r)], [], false⟩) (r := r) ?_
  unfold spec_AreCandidates at h
  refine srk tbok ⟨42, [(0, vl eCandidate aList)], []⟩ ?_
  refine swp_seq ?_
  refine srk tbok ⟨42, [(0, vl eCandidate aList), (3, vi 0)], []⟩ ?_
  refine swp_seqE (r := r) h (fun j1 => ⟨42, [(0, vl eCandidate aList)], []⟩) (fun v2 h => ?_) (fun j1 h => ?_)
  refine swp_blk (a := v2) ?_
  refine swp_lpL (r := v2) (s := (0, ())) _ (fun s3 => ⟨42, [(0, vl eCandidate aList), (3, vi s3.1)], []⟩) _ (Le.sub0) h (fun s3 v4 h => ?_)
  refine swp_seq ?_
  refine srk tbok ⟨42, [(0, vl eCandidate aList), (3, vi s3.1), (8, vb (decide (s3.1 < (aList.length : Int))))], []⟩ ?_
  refine swp_cd h (fun h => ?_) fun h => ?_
  refine swp_skip ?_
  refine nx_n ?_
  refine swp_seq ?_
  refine swp_seqL (r := v4) h (fun j5 => ⟨42, [(0, vl eCandidate aList), (3, vi s3.1)], []⟩) (fun v6 h => ?_) (fun j5 h => ?_)
  refine swp_blk (a := v6) ?_
  refine sr ?_
  refine SRun.ck tbok 2 ⟨42, [(0, vl eCandidate aList), (3, vi s3.1), (11, vl eCandidate aList), (12, vi s3.1)], []⟩ ?_
  obtain ⟨x7, hx7, h⟩ := bind_some h
  refine SRun.ls (x_index (L := aList) (f := eCandidate) (ti := ti31) (tj := ti87) (e := 87) (k := .i64) tbok rfl hx7) ?_
  refine ckn tbok 3 ⟨42, [(0, vl eCandidate aList), (3, vi s3.1), (4, .ref 4 0)], [(4, .box (tc eCandidate x7))]⟩ ?_
  refine swp_seq ?_
  refine swp_regJ h (fun j12 => ⟨42, [(0, vl eCandidate aList), (3, vi s3.1), (38, vb j12)], []⟩) (fun v13 h => ?_) (fun j12 h => ?_)
  refine SRun.ck tbok 2 ⟨42, [(0, vl eCandidate aList), (3, vi s3.1), (4, .ref 4 0), (16, vs x7.Code)], [(4, .box (tc eCandidate x7))]⟩ ?_
  obtain ⟨x8, hx8, h⟩ := bind_some h
  refine SRun.ls (xc ents89 (spec_IsWord_run x7.Code _ hx8)) ?_
  refine SRun.ck tbok 2 ⟨42, [(0, vl eCandidate aList), (3, vi s3.1), (4, .ref 4 0), (19, vb (!x8))], [(4, .box (tc eCandidate x7))]⟩ ?_
  refine SRun.cu [(19, fun b => b)] h (fun h => ?_) fun h => ?_
  refine SRun.ck tbok 19 ⟨42, [(0, vl eCandidate aList), (3, vi s3.1), (38, vb true)], []⟩ ?_
  refine SRun.nil ?_
  obtain rfl := inj h
  exact Le.sub0
  refine SRun.ck tbok 2 ⟨42, [(0, vl eCandidate aList), (3, vi s3.1), (4, .ref 4 0), (19, vb false), (21, vs x7.Text)], [(4, .box (tc eCandidate x7))]⟩ ?_
  obtain ⟨x9, hx9, h⟩ := bind_some h
  refine SRun.ls (xc ents76 (spec_IsPhrase_run x7.Text _ hx9)) ?_
  refine SRun.ck tbok 3 ⟨42, [(0, vl eCandidate aList), (3, vi s3.1), (4, .ref 4 0), (25, vb (!x9))], [(4, .box (tc eCandidate x7))]⟩ ?_
  refine SRun.cu [(25, fun b => b)] h (fun h => ?_) fun h => ?_
  refine SRun.ck tbok 13 ⟨42, [(0, vl eCandidate aList), (3, vi s3.1), (38, vb true)], []⟩ ?_
  refine SRun.nil ?_
  obtain rfl := inj h
  exact Le.sub0
  refine SRun.ck tbok 2 ⟨42, [(0, vl eCandidate aList), (3, vi s3.1), (4, .ref 4 0), (25, vb false), (27, .agg (tc ePoint x7.At))], [(4, .box (tc eCandidate x7))]⟩ ?_
  obtain ⟨x10, hx10, h⟩ := bind_some h
  refine SRun.ls (xc ents90 (spec_IsPoint_run x7.At _ hx10)) ?_
  refine SRun.ck tbok 3 ⟨42, [(0, vl eCandidate aList), (3, vi s3.1), (4, .ref 4 0), (31, vb (!x10))], [(4, .box (tc eCandidate x7))]⟩ ?_
  refine SRun.cu [(31, fun b => b)] h (fun h => ?_) fun h => ?_
  refine SRun.ck tbok 7 ⟨42, [(0, vl eCandidate aList), (3, vi s3.1), (38, vb true)], []⟩ ?_
  refine SRun.nil ?_
  obtain rfl := inj h
  exact Le.sub0
  refine SRun.ck tbok 3 ⟨42, [(0, vl eCandidate aList), (3, vi s3.1), (31, vb false), (32, vl eCandidate aList), (34, vs x7.Code)], []⟩ ?_
  obtain ⟨x11, hx11, h⟩ := bind_some h
  refine SRun.ls (xc ents53 (spec_l30Find_run aList x7.Code _ hx11)) ?_
  refine SRun.ck tbok 3 ⟨42, [(0, vl eCandidate aList), (3, vi s3.1), (38, vb (x11 != s3.1))], []⟩ ?_
  refine SRun.nil ?_
  obtain rfl := inj h
  exact Le.sub0
  refine swp_cd h (fun h => ?_) fun h => ?_
  refine srk tbok ⟨42, [(2, vb false)], []⟩ ?_
  refine swp_ret ?_
  obtain rfl := inj h
  exact q_br (q_rr (q_rr (q_br (q_rr (q_fr (f1 fv))))))
  refine swp_skip ?_
  obtain rfl := inj h
  exact q_bn (q_l (Le.sub0))
  refine swp_reg ?_
  refine SRun.ck tbok 3 ⟨42, [(0, vl eCandidate aList), (3, vi (w64 (s3.1 + 1)))], []⟩ ?_
  refine SRun.nil ?_
  obtain rfl := inj h
  exact q_l (Le.sub0)
  refine swp_exit ?_
  obtain rfl := inj h
  exact nx_e (q_re (q_bh (q_l (Le.sub0))))
  refine srk tbok ⟨42, [(2, vb (decide ((aList.length : Int) ≤ 10)))], []⟩ ?_
  refine swp_ret ?_
  obtain rfl := inj h
  exact q_fr (f1 fv)
theorem ents46 : Ents Tryz.prog 46 := ents_of Tryz.func46 (by kernel_rfl) rfl
noncomputable def spec_l26Word (aDirection : Int) : Option (ByteArray) :=
  ((at' ([(ByteArray.mk #[110, 111, 114, 116, 104]), (ByteArray.mk #[110, 111, 114, 116, 104, 101, 97, 115, 116]), (ByteArray.mk #[101, 97, 115, 116]), (ByteArray.mk #[115, 111, 117, 116, 104, 101, 97, 115, 116]), (ByteArray.mk #[115, 111, 117, 116, 104]), (ByteArray.mk #[115, 111, 117, 116, 104, 119, 101, 115, 116]), (ByteArray.mk #[119, 101, 115, 116]), (ByteArray.mk #[110, 111, 114, 116, 104, 119, 101, 115, 116])] : List ByteArray) aDirection).bind fun x1 => some x1)
theorem spec_l26Word_run (aDirection : Int) (r : ByteArray) (h : spec_l26Word aDirection = some r) : SCall Tryz.prog 98 [.v (vi aDirection)] ⟨[.v (vs r)], [], false⟩ := by
  refine scall_in Tryz.func98 rfl [(.tmp 2)] rfl (fun r => ⟨[.v (vs r)], [], false⟩) (r := r) ?_
  unfold spec_l26Word at h
  refine srk tbok ⟨7, [(0, vi aDirection)], []⟩ ?_
  refine sr ?_
  refine SRun.ck tbok 2 ⟨7, [(3, .own 3), (4, vi aDirection)], [(3, oa 9 1 eS ([(ByteArray.mk #[110, 111, 114, 116, 104]), (ByteArray.mk #[110, 111, 114, 116, 104, 101, 97, 115, 116]), (ByteArray.mk #[101, 97, 115, 116]), (ByteArray.mk #[115, 111, 117, 116, 104, 101, 97, 115, 116]), (ByteArray.mk #[115, 111, 117, 116, 104]), (ByteArray.mk #[115, 111, 117, 116, 104, 119, 101, 115, 116]), (ByteArray.mk #[119, 101, 115, 116]), (ByteArray.mk #[110, 111, 114, 116, 104, 119, 101, 115, 116])] : List ByteArray))]⟩ ?_
  obtain ⟨x1, hx1, h⟩ := bind_some h
  refine SRun.ls (x_index_own (d := 3) (L := ([(ByteArray.mk #[110, 111, 114, 116, 104]), (ByteArray.mk #[110, 111, 114, 116, 104, 101, 97, 115, 116]), (ByteArray.mk #[101, 97, 115, 116]), (ByteArray.mk #[115, 111, 117, 116, 104, 101, 97, 115, 116]), (ByteArray.mk #[115, 111, 117, 116, 104]), (ByteArray.mk #[115, 111, 117, 116, 104, 119, 101, 115, 116]), (ByteArray.mk #[119, 101, 115, 116]), (ByteArray.mk #[110, 111, 114, 116, 104, 119, 101, 115, 116])] : List ByteArray)) (f := eS) (ti := ti28) (tj := ti9) (e := 9) (e' := 9) (m := 1) (k := .i64) tbok rfl hx1) ?_
  refine SRun.ls (x_load_own (d := 3) (m := 1) (j := 0) (L := ([(ByteArray.mk #[110, 111, 114, 116, 104]), (ByteArray.mk #[110, 111, 114, 116, 104, 101, 97, 115, 116]), (ByteArray.mk #[101, 97, 115, 116]), (ByteArray.mk #[115, 111, 117, 116, 104, 101, 97, 115, 116]), (ByteArray.mk #[115, 111, 117, 116, 104]), (ByteArray.mk #[115, 111, 117, 116, 104, 119, 101, 115, 116]), (ByteArray.mk #[119, 101, 115, 116]), (ByteArray.mk #[110, 111, 114, 116, 104, 119, 101, 115, 116])] : List ByteArray)) (f := eS) (ti := ti9) (e := 9) (v := vs x1) tbok rfl hx1) ?_
  refine ckn tbok 1 ⟨7, [(2, vs x1)], []⟩ ?_
  refine swp_ret ?_
  obtain rfl := inj h
  exact q_fr (f1 fv)
theorem ents98 : Ents Tryz.prog 98 := ents_of Tryz.func98 (by kernel_rfl) rfl
noncomputable def spec_l28Direction (aS : ByteArray) : Option (Int) :=
  (((forN 8 (fun (i3 : Int) (_ : Unit) => ((spec_l26Word i3).bind fun x7 => (bif (x7.toList == aS.toList) then some (.inr (.inr i3)) else some (.inl ())))) (fun (_ : Unit) => .inl ()) 0 ())).bind (Sum.elim (fun (_ : Unit) => some (-1)) some))
theorem spec_l28Direction_run (aS : ByteArray) (r : Int) (h : spec_l28Direction aS = some r) : SCall Tryz.prog 208 [.v (vs aS)] ⟨[.v (vi r)], [], false⟩ := by
  refine scall_in Tryz.func208 rfl [(.tmp 2)] rfl (fun r => ⟨[.v (vi r)], [], false⟩) (r := r) ?_
  unfold spec_l28Direction at h
  refine srk tbok ⟨13, [(0, vs aS)], []⟩ ?_
  refine swp_seq ?_
  refine srk tbok ⟨13, [(0, vs aS), (3, vi 0)], []⟩ ?_
  refine swp_seqE (r := r) h (fun j1 => ⟨13, [], []⟩) (fun v2 h => ?_) (fun j1 h => ?_)
  refine swp_blk (a := v2) ?_
  refine swp_lpL (r := v2) (s := (0, ())) _ (fun s3 => ⟨13, [(0, vs aS), (3, vi s3.1)], []⟩) _ (Le.sub0) h (fun s3 v4 h => ?_)
  refine swp_seq ?_
  refine srk tbok ⟨13, [(0, vs aS), (3, vi s3.1), (5, vb (decide (s3.1 < 8)))], []⟩ ?_
  refine swp_cd h (fun h => ?_) fun h => ?_
  refine swp_skip ?_
  refine nx_n ?_
  refine swp_seq ?_
  refine swp_seqL (r := v4) h (fun j5 => ⟨13, [(0, vs aS), (3, vi s3.1)], []⟩) (fun v6 h => ?_) (fun j5 h => ?_)
  refine swp_blk (a := v6) ?_
  refine sr ?_
  refine SRun.ck tbok 1 ⟨13, [(0, vs aS), (3, vi s3.1), (8, vi s3.1)], []⟩ ?_
  obtain ⟨x7, hx7, h⟩ := bind_some h
  refine SRun.ls (xc ents98 (spec_l26Word_run s3.1 _ hx7)) ?_
  refine ckn tbok 2 ⟨13, [(0, vs aS), (3, vi s3.1), (11, vb (x7.toList == aS.toList))], []⟩ ?_
  refine swp_cd h (fun h => ?_) fun h => ?_
  refine srk tbok ⟨13, [(2, vi s3.1)], []⟩ ?_
  refine swp_ret ?_
  obtain rfl := inj h
  exact q_br (q_rr (q_rr (q_br (q_rr (q_fr (f1 fv))))))
  refine swp_skip ?_
  obtain rfl := inj h
  exact q_bn (q_l (Le.sub0))
  refine swp_reg ?_
  refine SRun.ck tbok 3 ⟨13, [(0, vs aS), (3, vi (w64 (s3.1 + 1)))], []⟩ ?_
  refine SRun.nil ?_
  obtain rfl := inj h
  exact q_l (Le.sub0)
  refine swp_exit ?_
  obtain rfl := inj h
  exact nx_e (q_re (q_bh (q_l (Le.sub0))))
  refine srk tbok ⟨13, [(2, vi (-1))], []⟩ ?_
  refine swp_ret ?_
  obtain rfl := inj h
  exact q_fr (f1 fv)
theorem ents208 : Ents Tryz.prog 208 := ents_of Tryz.func208 (by kernel_rfl) rfl
noncomputable def spec_l28Code (aS : ByteArray) : Option (Bool) :=
  (((((bif (aS.toList == (ByteArray.mk #[97, 116]).toList) then some (aS.toList == (ByteArray.mk #[97, 116]).toList) else (bif (aS.toList == (ByteArray.mk #[110, 101, 97, 114]).toList) then some (aS.toList == (ByteArray.mk #[110, 101, 97, 114]).toList) else (bif (aS.toList == (ByteArray.mk #[111, 102]).toList) then some (aS.toList == (ByteArray.mk #[111, 102]).toList) else (bif (aS.toList == (ByteArray.mk #[98, 101, 116, 119, 101, 101, 110]).toList) then some (aS.toList == (ByteArray.mk #[98, 101, 116, 119, 101, 101, 110]).toList) else (bif (aS.toList == (ByteArray.mk #[97, 110, 100]).toList) then some (aS.toList == (ByteArray.mk #[97, 110, 100]).toList) else (bif (aS.toList == (ByteArray.mk #[109, 105, 108, 101]).toList) then some (aS.toList == (ByteArray.mk #[109, 105, 108, 101]).toList) else (bif (aS.toList == (ByteArray.mk #[109, 105, 108, 101, 115]).toList) then some (aS.toList == (ByteArray.mk #[109, 105, 108, 101, 115]).toList) else (bif (aS.toList == (ByteArray.mk #[108, 101, 97, 103, 117, 101]).toList) then some (aS.toList == (ByteArray.mk #[108, 101, 97, 103, 117, 101]).toList) else some (aS.toList == (ByteArray.mk #[108, 101, 97, 103, 117, 101, 115]).toList)))))))))).bind fun (j3 : Bool) => (bif j3 then some (.inr false) else some (.inl ())))).bind (Sum.elim (fun (_ : Unit) => ((((spec_IsWord aS).bind fun x5 => (bif x5 then ((spec_l28Direction aS).bind fun x6 => some (decide (x6 < 0))) else some false))).bind fun (j7 : Bool) => some j7)) some))
theorem spec_l28Code_run (aS : ByteArray) (r : Bool) (h : spec_l28Code aS = some r) : SCall Tryz.prog 168 [.v (vs aS)] ⟨[.v (vb r)], [], false⟩ := by
  refine scall_in Tryz.func168 rfl [(.tmp 2)] rfl (fun r => ⟨[.v (vb r)], [], false⟩) (r := r) ?_
  unfold spec_l28Code at h
  refine srk tbok ⟨21, [(0, vs aS)], []⟩ ?_
  refine swp_seq ?_
  refine srk tbok ⟨21, [(0, vs aS), (3, vs aS)], []⟩ ?_
  refine swp_seqE (r := r) h (fun j1 => ⟨21, [(0, vs aS)], []⟩) (fun v2 h => ?_) (fun j1 h => ?_)
  refine swp_blk (a := v2) ?_
  refine swp_seq ?_
  refine srk tbok ⟨21, [(0, vs aS), (3, vs aS), (4, vb (aS.toList == (ByteArray.mk #[97, 116]).toList))], []⟩ ?_
  refine swp_seqJ h (fun j3 => ⟨21, [(0, vs aS), (4, vb j3)], []⟩) (fun v4 h => ?_) (fun j3 h => ?_)
  refine swp_cd h (fun h => ?_) fun h => ?_
  refine swp_skip ?_
  obtain rfl := inj h
  exact q_j (Le.sub0)
  refine srk tbok ⟨21, [(0, vs aS), (3, vs aS), (4, vb (aS.toList == (ByteArray.mk #[110, 101, 97, 114]).toList))], []⟩ ?_
  refine swp_cd h (fun h => ?_) fun h => ?_
  refine swp_skip ?_
  obtain rfl := inj h
  exact q_j (Le.sub0)
  refine srk tbok ⟨21, [(0, vs aS), (3, vs aS), (4, vb (aS.toList == (ByteArray.mk #[111, 102]).toList))], []⟩ ?_
  refine swp_cd h (fun h => ?_) fun h => ?_
  refine swp_skip ?_
  obtain rfl := inj h
  exact q_j (Le.sub0)
  refine srk tbok ⟨21, [(0, vs aS), (3, vs aS), (4, vb (aS.toList == (ByteArray.mk #[98, 101, 116, 119, 101, 101, 110]).toList))], []⟩ ?_
  refine swp_cd h (fun h => ?_) fun h => ?_
  refine swp_skip ?_
  obtain rfl := inj h
  exact q_j (Le.sub0)
  refine srk tbok ⟨21, [(0, vs aS), (3, vs aS), (4, vb (aS.toList == (ByteArray.mk #[97, 110, 100]).toList))], []⟩ ?_
  refine swp_cd h (fun h => ?_) fun h => ?_
  refine swp_skip ?_
  obtain rfl := inj h
  exact q_j (Le.sub0)
  refine srk tbok ⟨21, [(0, vs aS), (3, vs aS), (4, vb (aS.toList == (ByteArray.mk #[109, 105, 108, 101]).toList))], []⟩ ?_
  refine swp_cd h (fun h => ?_) fun h => ?_
  refine swp_skip ?_
  obtain rfl := inj h
  exact q_j (Le.sub0)
  refine srk tbok ⟨21, [(0, vs aS), (3, vs aS), (4, vb (aS.toList == (ByteArray.mk #[109, 105, 108, 101, 115]).toList))], []⟩ ?_
  refine swp_cd h (fun h => ?_) fun h => ?_
  refine swp_skip ?_
  obtain rfl := inj h
  exact q_j (Le.sub0)
  refine srk tbok ⟨21, [(0, vs aS), (3, vs aS), (4, vb (aS.toList == (ByteArray.mk #[108, 101, 97, 103, 117, 101]).toList))], []⟩ ?_
  refine swp_cd h (fun h => ?_) fun h => ?_
  refine swp_skip ?_
  obtain rfl := inj h
  exact q_j (Le.sub0)
  refine swp_reg ?_
  refine SRun.ck tbok 2 ⟨21, [(0, vs aS), (4, vb (aS.toList == (ByteArray.mk #[108, 101, 97, 103, 117, 101, 115]).toList))], []⟩ ?_
  refine SRun.nil ?_
  obtain rfl := inj h
  exact q_j (Le.sub0)
  refine swp_cd h (fun h => ?_) fun h => ?_
  refine srk tbok ⟨21, [(2, vb false)], []⟩ ?_
  refine swp_ret ?_
  obtain rfl := inj h
  exact q_br (q_rr (q_fr (f1 fv)))
  refine swp_skip ?_
  obtain rfl := inj h
  exact q_bn (q_l (Le.sub0))
  refine swp_seq ?_
  refine swp_regJ h (fun j7 => ⟨21, [(2, vb j7)], []⟩) (fun v8 h => ?_) (fun j7 h => ?_)
  refine SRun.ck tbok 1 ⟨21, [(0, vs aS), (14, vs aS)], []⟩ ?_
  obtain ⟨x5, hx5, h⟩ := bind_some h
  refine SRun.ls (xc ents89 (spec_IsWord_run aS _ hx5)) ?_
  refine SRun.ck tbok 1 ⟨21, [(0, vs aS), (16, vb x5)], []⟩ ?_
  refine SRun.cu [(16, fun b => b)] h (fun h => ?_) fun h => ?_
  refine SRun.ck tbok 1 ⟨21, [(16, vb true), (17, vs aS)], []⟩ ?_
  obtain ⟨x6, hx6, h⟩ := bind_some h
  refine SRun.ls (xc ents208 (spec_l28Direction_run aS _ hx6)) ?_
  refine SRun.ck tbok 3 ⟨21, [(2, vb (decide (x6 < 0)))], []⟩ ?_
  refine SRun.nil ?_
  obtain rfl := inj h
  exact Le.sub0
  refine SRun.ck tbok 5 ⟨21, [(2, vb false)], []⟩ ?_
  refine SRun.nil ?_
  obtain rfl := inj h
  exact Le.sub0
  refine swp_ret ?_
  obtain rfl := inj h
  exact q_fr (f1 fv)
theorem ents168 : Ents Tryz.prog 168 := ents_of Tryz.func168 (by kernel_rfl) rfl
noncomputable def spec_AreSites (aList : (List Site)) : Option (Bool) :=
  (((forN (aList.length : Int) (fun (i3 : Int) (_ : Unit) => ((((at' aList i3).bind fun x7 => ((spec_l28Code x7.Code).bind fun x8 => (bif (!x8) then some true else ((at' aList i3).bind fun x9 => ((spec_IsPoint x9.At).bind fun x10 => (bif (!x10) then some true else (bif (decide (i3 > 0)) then ((at' aList (w64 (i3 - 1))).bind fun x11 => ((at' aList i3).bind fun x12 => some (!(Op.bytesLess x11.Code.toList x12.Code.toList)))) else some false)))))))).bind fun (j13 : Bool) => (bif j13 then some (.inr (.inr false)) else some (.inl ())))) (fun (_ : Unit) => .inl ()) 0 ())).bind (Sum.elim (fun (_ : Unit) => some (decide ((aList.length : Int) ≤ 10))) some))
theorem spec_AreSites_run (aList : (List Site)) (r : Bool) (h : spec_AreSites aList = some r) : SCall Tryz.prog 149 [.v (vl eSite aList)] ⟨[.v (vb r)], [], false⟩ := by
  refine scall_in Tryz.func149 rfl [(.tmp 2)] rfl (fun r => ⟨[.v (vb r)], [], false⟩) (r := r) ?_
  unfold spec_AreSites at h
  refine srk tbok ⟨47, [(0, vl eSite aList)], []⟩ ?_
  refine swp_seq ?_
  refine srk tbok ⟨47, [(0, vl eSite aList), (3, vi 0)], []⟩ ?_
  refine swp_seqE (r := r) h (fun j1 => ⟨47, [(0, vl eSite aList)], []⟩) (fun v2 h => ?_) (fun j1 h => ?_)
  refine swp_blk (a := v2) ?_
  refine swp_lpL (r := v2) (s := (0, ())) _ (fun s3 => ⟨47, [(0, vl eSite aList), (3, vi s3.1)], []⟩) _ (Le.sub0) h (fun s3 v4 h => ?_)
  refine swp_seq ?_
  refine srk tbok ⟨47, [(0, vl eSite aList), (3, vi s3.1), (7, vb (decide (s3.1 < (aList.length : Int))))], []⟩ ?_
  refine swp_cd h (fun h => ?_) fun h => ?_
  refine swp_skip ?_
  refine nx_n ?_
  refine swp_seq ?_
  refine swp_seqL (r := v4) h (fun j5 => ⟨47, [(0, vl eSite aList), (3, vi s3.1)], []⟩) (fun v6 h => ?_) (fun j5 h => ?_)
  refine swp_blk (a := v6) ?_
  refine swp_seq ?_
  refine swp_drJ mixed h (fun j13 => ⟨47, [(0, vl eSite aList), (3, vi s3.1), (43, vb j13)], []⟩) (fun v14 h => ?_) (fun j13 h => ?_)
  refine DGo.ck tbok false 2 ⟨47, [(0, vl eSite aList), (3, vi s3.1), (10, vl eSite aList), (11, vi s3.1)], []⟩ ?_
  obtain ⟨x7, hx7, h⟩ := bind_some h
  refine DGo.step (x_index (L := aList) (f := eSite) (ti := ti33) (tj := ti92) (e := 92) (k := .i64) tbok rfl hx7) ?_
  refine DGo.ck tbok false 2 ⟨47, [(0, vl eSite aList), (3, vi s3.1), (14, vs x7.Code)], []⟩ ?_
  obtain ⟨x8, hx8, h⟩ := bind_some h
  refine DGo.step (xc ents168 (spec_l28Code_run x7.Code _ hx8)) ?_
  refine DGo.ck tbok false 2 ⟨47, [(0, vl eSite aList), (3, vi s3.1), (17, vb (!x8))], []⟩ ?_
  refine DGo.cu [(17, fun b => b)] h (fun h => ?_) fun h => ?_
  refine DGo.ck tbok false 26 ⟨47, [(0, vl eSite aList), (3, vi s3.1), (43, vb true)], []⟩ ?_
  refine DGo.nil (by kernel_rfl) ?_
  obtain rfl := inj h
  exact Le.sub0
  refine DGo.ck tbok false 2 ⟨47, [(0, vl eSite aList), (3, vi s3.1), (17, vb false), (18, vl eSite aList), (19, vi s3.1)], []⟩ ?_
  obtain ⟨x9, hx9, h⟩ := bind_some h
  refine DGo.step (x_index (L := aList) (f := eSite) (ti := ti33) (tj := ti92) (e := 92) (k := .i64) tbok rfl hx9) ?_
  refine DGo.ck tbok false 2 ⟨47, [(0, vl eSite aList), (3, vi s3.1), (17, vb false), (22, .agg (tc ePoint x9.At))], []⟩ ?_
  obtain ⟨x10, hx10, h⟩ := bind_some h
  refine DGo.step (xc ents90 (spec_IsPoint_run x9.At _ hx10)) ?_
  refine DGo.ck tbok false 3 ⟨47, [(0, vl eSite aList), (3, vi s3.1), (26, vb (!x10))], []⟩ ?_
  refine DGo.cu [(26, fun b => b)] h (fun h => ?_) fun h => ?_
  refine DGo.ck tbok false 17 ⟨47, [(0, vl eSite aList), (3, vi s3.1), (43, vb true)], []⟩ ?_
  refine DGo.nil (by kernel_rfl) ?_
  obtain rfl := inj h
  exact Le.sub0
  refine DGo.ck tbok false 3 ⟨47, [(0, vl eSite aList), (3, vi s3.1), (26, vb false), (29, vb (decide (s3.1 > 0)))], []⟩ ?_
  refine DGo.cu [(29, fun b => b)] h (fun h => ?_) fun h => ?_
  refine DGo.ck tbok false 3 ⟨47, [(0, vl eSite aList), (3, vi s3.1), (26, vb false), (29, vb true), (30, vl eSite aList), (32, vi (w64 (s3.1 - 1)))], []⟩ ?_
  obtain ⟨x11, hx11, h⟩ := bind_some h
  refine DGo.step (x_index (L := aList) (f := eSite) (ti := ti33) (tj := ti92) (e := 92) (k := .i64) tbok rfl hx11) ?_
  refine DGo.ck tbok false 4 ⟨47, [(0, vl eSite aList), (3, vi s3.1), (26, vb false), (29, vb true), (35, vs x11.Code), (36, vl eSite aList), (37, vi s3.1)], []⟩ ?_
  obtain ⟨x12, hx12, h⟩ := bind_some h
  refine DGo.step (x_index (L := aList) (f := eSite) (ti := ti33) (tj := ti92) (e := 92) (k := .i64) tbok rfl hx12) ?_
  refine DGo.ck tbok false 5 ⟨47, [(0, vl eSite aList), (3, vi s3.1), (43, vb (!(Op.bytesLess x11.Code.toList x12.Code.toList)))], []⟩ ?_
  refine DGo.nil (by kernel_rfl) ?_
  obtain rfl := inj h
  exact Le.sub0
  refine DGo.ck tbok false 14 ⟨47, [(0, vl eSite aList), (3, vi s3.1), (43, vb false)], []⟩ ?_
  refine DGo.nil (by kernel_rfl) ?_
  obtain rfl := inj h
  exact Le.sub0
  refine swp_cd h (fun h => ?_) fun h => ?_
  refine srk tbok ⟨47, [(2, vb false)], []⟩ ?_
  refine swp_ret ?_
  obtain rfl := inj h
  exact q_br (q_rr (q_rr (q_br (q_rr (q_fr (f1 fv))))))
  refine swp_skip ?_
  obtain rfl := inj h
  exact q_bn (q_l (Le.sub0))
  refine swp_reg ?_
  refine SRun.ck tbok 3 ⟨47, [(0, vl eSite aList), (3, vi (w64 (s3.1 + 1)))], []⟩ ?_
  refine SRun.nil ?_
  obtain rfl := inj h
  exact q_l (Le.sub0)
  refine swp_exit ?_
  obtain rfl := inj h
  exact nx_e (q_re (q_bh (q_l (Le.sub0))))
  refine srk tbok ⟨47, [(2, vb (decide ((aList.length : Int) ≤ 10)))], []⟩ ?_
  refine swp_ret ?_
  obtain rfl := inj h
  exact q_fr (f1 fv)
theorem ents149 : Ents Tryz.prog 149 := ents_of Tryz.func149 (by kernel_rfl) rfl
noncomputable def spec_l28Unit (aUnit : ByteArray) (aCount : Int) : Option (Int) :=
  (((bif (aCount != 1) then (((bif ((aUnit.size : Int) == 0) then some true else ((byte' aUnit (w64 ((aUnit.size : Int) - 1))).bind fun x3 => some (x3 != 115)))).bind fun (j4 : Bool) => (bif j4 then some (.inr 0) else ((sub' aUnit 0 (w64 ((aUnit.size : Int) - 1))).bind fun x6 => some (.inl x6)))) else some (.inl aUnit))).bind (Sum.elim (fun (j1 : ByteArray) => (((bif (j1.toList == (ByteArray.mk #[109, 105, 108, 101]).toList) then some (.inr 4) else (bif (j1.toList == (ByteArray.mk #[108, 101, 97, 103, 117, 101]).toList) then some (.inr 12) else some (.inl ())))).bind (Sum.elim (fun (_ : Unit) => some 0) some))) some))
theorem spec_l28Unit_run (aUnit : ByteArray) (aCount : Int) (r : Int) (h : spec_l28Unit aUnit aCount = some r) : SCall Tryz.prog 93 [.v (vs aUnit), .v (vi aCount)] ⟨[.v (vi r)], [], false⟩ := by
  refine scall_in Tryz.func93 rfl [(.tmp 4)] rfl (fun r => ⟨[.v (vi r)], [], false⟩) (r := r) ?_
  unfold spec_l28Unit at h
  refine srk tbok ⟨28, [(0, vs aUnit), (1, vi aCount)], []⟩ ?_
  refine swp_seq ?_
  refine srk tbok ⟨28, [(0, vs aUnit), (6, vb (aCount != 1))], []⟩ ?_
  refine swp_seqE (r := r) h (fun j1 => ⟨28, [(0, vs j1)], []⟩) (fun v2 h => ?_) (fun j1 h => ?_)
  refine swp_cd h (fun h => ?_) fun h => ?_
  refine swp_seq ?_
  refine swp_seq ?_
  refine swp_regJ h (fun j4 => ⟨28, [(0, vs aUnit), (17, vb j4)], []⟩) (fun v5 h => ?_) (fun j4 h => ?_)
  refine SRun.ck tbok 4 ⟨28, [(0, vs aUnit), (10, vb ((aUnit.size : Int) == 0))], []⟩ ?_
  refine SRun.cu [(10, fun b => b)] h (fun h => ?_) fun h => ?_
  refine SRun.ck tbok 7 ⟨28, [(0, vs aUnit), (17, vb true)], []⟩ ?_
  refine SRun.nil ?_
  obtain rfl := inj h
  exact Le.sub0
  refine SRun.ck tbok 4 ⟨28, [(0, vs aUnit), (10, vb false), (11, vs aUnit), (14, vi (w64 ((aUnit.size : Int) - 1)))], []⟩ ?_
  obtain ⟨x3, hx3, h⟩ := bind_some h
  refine SRun.ls (x_byte (ti := ti9) (k := .i64) hx3 tbok rfl) ?_
  refine SRun.ck tbok 2 ⟨28, [(0, vs aUnit), (17, vb (x3 != 115))], []⟩ ?_
  refine SRun.nil ?_
  obtain rfl := inj h
  exact Le.sub0
  refine swp_cd h (fun h => ?_) fun h => ?_
  refine srk tbok ⟨28, [(4, vi 0)], []⟩ ?_
  refine swp_ret ?_
  obtain rfl := inj h
  exact nx_r (q_rr (q_fr (f1 fv)))
  refine swp_skip ?_
  refine nx_n ?_
  refine swp_reg ?_
  refine SRun.ck tbok 4 ⟨28, [(18, vs aUnit), (21, vi (w64 ((aUnit.size : Int) - 1)))], []⟩ ?_
  obtain ⟨x6, hx6, h⟩ := bind_some h
  refine SRun.ls (x_sub (ti := ti9) hx6 tbok rfl) ?_
  refine SRun.ck tbok 1 ⟨28, [(0, vs x6)], []⟩ ?_
  refine SRun.nil ?_
  obtain rfl := inj h
  exact q_l (Le.sub0)
  refine swp_skip ?_
  obtain rfl := inj h
  exact q_l (Le.sub0)
  refine swp_seq ?_
  refine srk tbok ⟨28, [(23, vs j1)], []⟩ ?_
  refine swp_seqE (r := r) h (fun j7 => ⟨28, [], []⟩) (fun v8 h => ?_) (fun j7 h => ?_)
  refine swp_blk (a := v8) ?_
  refine srk tbok ⟨28, [(23, vs j1), (24, vb (j1.toList == (ByteArray.mk #[109, 105, 108, 101]).toList))], []⟩ ?_
  refine swp_cd h (fun h => ?_) fun h => ?_
  refine srk tbok ⟨28, [(4, vi 4)], []⟩ ?_
  refine swp_ret ?_
  obtain rfl := inj h
  exact q_br (q_rr (q_fr (f1 fv)))
  refine srk tbok ⟨28, [(26, vb (j1.toList == (ByteArray.mk #[108, 101, 97, 103, 117, 101]).toList))], []⟩ ?_
  refine swp_cd h (fun h => ?_) fun h => ?_
  refine srk tbok ⟨28, [(4, vi 12)], []⟩ ?_
  refine swp_ret ?_
  obtain rfl := inj h
  exact q_br (q_rr (q_fr (f1 fv)))
  refine swp_skip ?_
  obtain rfl := inj h
  exact q_bn (q_l (Le.sub0))
  refine srk tbok ⟨28, [(4, vi 0)], []⟩ ?_
  refine swp_ret ?_
  obtain rfl := inj h
  exact q_fr (f1 fv)
theorem ents93 : Ents Tryz.prog 93 := ents_of Tryz.func93 (by kernel_rfl) rfl
noncomputable def spec_IsDescription (aD : Description) : Option (Bool) :=
  ((spec_l28Code aD.A).bind fun x1 => (bif (!x1) then some false else (bif (aD.Kind == 2) then ((((spec_l01In aD.Count 1 99).bind fun x2 => (bif x2 then ((spec_l28Unit aD.Unit aD.Count).bind fun x3 => (bif (decide (x3 > 0)) then ((spec_l01In aD.Direction 0 7).bind fun x4 => (bif x4 then some (aD.B.toList == (ByteArray.mk #[]).toList) else some false)) else some false)) else some false))).bind fun (j5 : Bool) => some j5) else (bif ((aD.Count != 0) || ((!(aD.Unit.toList == (ByteArray.mk #[]).toList)) || (aD.Direction != 0))) then some false else (((((bif (aD.Kind == 0) then some (aD.Kind == 0) else some (aD.Kind == 1))).bind fun (j9 : Bool) => (bif j9 then some (.inr (aD.B.toList == (ByteArray.mk #[]).toList)) else (bif (aD.Kind == 3) then ((((spec_l28Code aD.B).bind fun x11 => (bif x11 then some (!(aD.A.toList == aD.B.toList)) else some false))).bind fun (j12 : Bool) => some (.inr j12)) else some (.inl ()))))).bind (Sum.elim (fun (_ : Unit) => some false) some))))))
theorem spec_IsDescription_run (aD : Description) (r : Bool) (h : spec_IsDescription aD = some r) : SCall Tryz.prog 150 [.v (.agg (tc eDescription aD))] ⟨[.v (vb r)], [], false⟩ := by
  refine scall_in Tryz.func150 rfl [(.tmp 2)] rfl (fun r => ⟨[.v (vb r)], [], false⟩) (r := r) ?_
  unfold spec_IsDescription at h
  refine srk tbok ⟨64, [(1, .ref 1 0)], [(1, .box (tc eDescription aD))]⟩ ?_
  refine swp_seq ?_
  refine sr ?_
  refine SRun.ck tbok 2 ⟨64, [(1, .ref 1 0), (4, vs aD.A)], [(1, .box (tc eDescription aD))]⟩ ?_
  obtain ⟨x1, hx1, h⟩ := bind_some h
  refine SRun.ls (xc ents168 (spec_l28Code_run aD.A _ hx1)) ?_
  refine ckn tbok 1 ⟨64, [(1, .ref 1 0), (6, vb (!x1))], [(1, .box (tc eDescription aD))]⟩ ?_
  refine swp_cd h (fun h => ?_) fun h => ?_
  refine srk tbok ⟨64, [(2, vb false)], []⟩ ?_
  refine swp_ret ?_
  obtain rfl := inj h
  exact nx_r (q_fr (f1 fv))
  refine swp_skip ?_
  refine nx_n ?_
  refine swp_seq ?_
  refine srk tbok ⟨64, [(1, .ref 1 0), (9, vb (aD.Kind == 2))], [(1, .box (tc eDescription aD))]⟩ ?_
  refine swp_cd h (fun h => ?_) fun h => ?_
  refine swp_seq ?_
  refine swp_regJ h (fun j5 => ⟨64, [(2, vb j5)], []⟩) (fun v6 h => ?_) (fun j5 h => ?_)
  refine SRun.ck tbok 2 ⟨64, [(1, .ref 1 0), (11, vi aD.Count)], [(1, .box (tc eDescription aD))]⟩ ?_
  obtain ⟨x2, hx2, h⟩ := bind_some h
  refine SRun.ls (xc ents136 (spec_l01In_run aD.Count 1 99 _ hx2)) ?_
  refine SRun.ck tbok 1 ⟨64, [(1, .ref 1 0), (13, vb x2)], [(1, .box (tc eDescription aD))]⟩ ?_
  refine SRun.cu [(13, fun b => b)] h (fun h => ?_) fun h => ?_
  refine SRun.ck tbok 4 ⟨64, [(1, .ref 1 0), (13, vb true), (15, vs aD.Unit), (17, vi aD.Count)], [(1, .box (tc eDescription aD))]⟩ ?_
  obtain ⟨x3, hx3, h⟩ := bind_some h
  refine SRun.ls (xc ents93 (spec_l28Unit_run aD.Unit aD.Count _ hx3)) ?_
  refine SRun.ck tbok 3 ⟨64, [(1, .ref 1 0), (21, vb (decide (x3 > 0)))], [(1, .box (tc eDescription aD))]⟩ ?_
  refine SRun.cu [(21, fun b => b)] h (fun h => ?_) fun h => ?_
  refine SRun.ck tbok 2 ⟨64, [(1, .ref 1 0), (21, vb true), (23, vi aD.Direction)], [(1, .box (tc eDescription aD))]⟩ ?_
  obtain ⟨x4, hx4, h⟩ := bind_some h
  refine SRun.ls (xc ents136 (spec_l01In_run aD.Direction 0 7 _ hx4)) ?_
  refine SRun.ck tbok 2 ⟨64, [(1, .ref 1 0), (26, vb x4)], [(1, .box (tc eDescription aD))]⟩ ?_
  refine SRun.cu [(26, fun b => b)] h (fun h => ?_) fun h => ?_
  refine SRun.ck tbok 5 ⟨64, [(2, vb (aD.B.toList == (ByteArray.mk #[]).toList))], []⟩ ?_
  refine SRun.nil ?_
  obtain rfl := inj h
  exact Le.sub0
  refine SRun.ck tbok 5 ⟨64, [(2, vb false)], []⟩ ?_
  refine SRun.nil ?_
  obtain rfl := inj h
  exact Le.sub0
  refine SRun.ck tbok 10 ⟨64, [(2, vb false)], []⟩ ?_
  refine SRun.nil ?_
  obtain rfl := inj h
  exact Le.sub0
  refine SRun.ck tbok 18 ⟨64, [(2, vb false)], []⟩ ?_
  refine SRun.nil ?_
  obtain rfl := inj h
  exact Le.sub0
  refine swp_ret ?_
  obtain rfl := inj h
  exact nx_r (q_fr (f1 fv))
  refine swp_skip ?_
  refine nx_n ?_
  refine swp_seq ?_
  refine swp_seq ?_
  refine swp_regP ⟨64, [(1, .ref 1 0), (43, vb ((aD.Count != 0) || ((!(aD.Unit.toList == (ByteArray.mk #[]).toList)) || (aD.Direction != 0))))], [(1, .box (tc eDescription aD))]⟩ ?_ ?_
  refine SRun.ck tbok 4 ⟨64, [(1, .ref 1 0), (34, vb (aD.Count != 0))], [(1, .box (tc eDescription aD))]⟩ ?_
  generalize (aD.Count != 0) = bb
  cases bb
  refine SRun.ck tbok 5 ⟨64, [(1, .ref 1 0), (39, vb (!(aD.Unit.toList == (ByteArray.mk #[]).toList)))], [(1, .box (tc eDescription aD))]⟩ ?_
  generalize (!(aD.Unit.toList == (ByteArray.mk #[]).toList)) = bb
  cases bb
  refine SRun.ck tbok 4 ⟨64, [(1, .ref 1 0), (43, vb (aD.Direction != 0))], [(1, .box (tc eDescription aD))]⟩ ?_
  exact SRun.nil (Le.sub0)
  refine SRun.ck tbok 4 ⟨64, [(1, .ref 1 0), (43, vb true)], [(1, .box (tc eDescription aD))]⟩ ?_
  exact SRun.nil (Le.sub0)
  refine SRun.ck tbok 9 ⟨64, [(1, .ref 1 0), (43, vb true)], [(1, .box (tc eDescription aD))]⟩ ?_
  exact SRun.nil (Le.sub0)
  refine swp_cd h (fun h => ?_) fun h => ?_
  refine srk tbok ⟨64, [(2, vb false)], []⟩ ?_
  refine swp_ret ?_
  obtain rfl := inj h
  exact nx_r (q_fr (f1 fv))
  refine swp_skip ?_
  refine nx_n ?_
  refine swp_seq ?_
  refine srk tbok ⟨64, [(1, .ref 1 0), (45, vi aD.Kind)], [(1, .box (tc eDescription aD))]⟩ ?_
  refine swp_seqE (r := r) h (fun j7 => ⟨64, [], []⟩) (fun v8 h => ?_) (fun j7 h => ?_)
  refine swp_blk (a := v8) ?_
  refine swp_seq ?_
  refine srk tbok ⟨64, [(1, .ref 1 0), (45, vi aD.Kind), (46, vb (aD.Kind == 0))], [(1, .box (tc eDescription aD))]⟩ ?_
  refine swp_seqJ h (fun j9 => ⟨64, [(1, .ref 1 0), (45, vi aD.Kind), (46, vb j9)], [(1, .box (tc eDescription aD))]⟩) (fun v10 h => ?_) (fun j9 h => ?_)
  refine swp_cd h (fun h => ?_) fun h => ?_
  refine swp_skip ?_
  obtain rfl := inj h
  exact q_j (Le.sub0)
  refine swp_reg ?_
  refine SRun.ck tbok 2 ⟨64, [(1, .ref 1 0), (45, vi aD.Kind), (46, vb (aD.Kind == 1))], [(1, .box (tc eDescription aD))]⟩ ?_
  refine SRun.nil ?_
  obtain rfl := inj h
  exact q_j (Le.sub0)
  refine swp_cd h (fun h => ?_) fun h => ?_
  refine srk tbok ⟨64, [(2, vb (aD.B.toList == (ByteArray.mk #[]).toList))], []⟩ ?_
  refine swp_ret ?_
  obtain rfl := inj h
  exact q_br (q_rr (q_fr (f1 fv)))
  refine srk tbok ⟨64, [(1, .ref 1 0), (52, vb (aD.Kind == 3))], [(1, .box (tc eDescription aD))]⟩ ?_
  refine swp_cd h (fun h => ?_) fun h => ?_
  refine swp_seq ?_
  refine swp_regJ h (fun j12 => ⟨64, [(2, vb j12)], []⟩) (fun v13 h => ?_) (fun j12 h => ?_)
  refine SRun.ck tbok 2 ⟨64, [(1, .ref 1 0), (55, vs aD.B)], [(1, .box (tc eDescription aD))]⟩ ?_
  obtain ⟨x11, hx11, h⟩ := bind_some h
  refine SRun.ls (xc ents168 (spec_l28Code_run aD.B _ hx11)) ?_
  refine SRun.ck tbok 1 ⟨64, [(1, .ref 1 0), (57, vb x11)], [(1, .box (tc eDescription aD))]⟩ ?_
  refine SRun.cu [(57, fun b => b)] h (fun h => ?_) fun h => ?_
  refine SRun.ck tbok 7 ⟨64, [(2, vb (!(aD.A.toList == aD.B.toList)))], []⟩ ?_
  refine SRun.nil ?_
  obtain rfl := inj h
  exact Le.sub0
  refine SRun.ck tbok 7 ⟨64, [(2, vb false)], []⟩ ?_
  refine SRun.nil ?_
  obtain rfl := inj h
  exact Le.sub0
  refine swp_ret ?_
  obtain rfl := inj h
  exact q_br (q_rr (q_fr (f1 fv)))
  refine swp_skip ?_
  obtain rfl := inj h
  exact q_bn (q_l (Le.sub0))
  refine srk tbok ⟨64, [(2, vb false)], []⟩ ?_
  refine swp_ret ?_
  obtain rfl := inj h
  exact q_fr (f1 fv)
theorem ents150 : Ents Tryz.prog 150 := ents_of Tryz.func150 (by kernel_rfl) rfl
noncomputable def spec_l29Find (aList : (List Site)) (aCode : ByteArray) : Option (Int) :=
  (((forN (aList.length : Int) (fun (i3 : Int) (_ : Unit) => ((at' aList i3).bind fun x7 => (bif (x7.Code.toList == aCode.toList) then some (.inr (.inr i3)) else some (.inl ())))) (fun (_ : Unit) => .inl ()) 0 ())).bind (Sum.elim (fun (_ : Unit) => some (-1)) some))
theorem spec_l29Find_run (aList : (List Site)) (aCode : ByteArray) (r : Int) (h : spec_l29Find aList aCode = some r) : SCall Tryz.prog 91 [.v (vl eSite aList), .v (vs aCode)] ⟨[.v (vi r)], [], false⟩ := by
  refine scall_in Tryz.func91 rfl [(.tmp 4)] rfl (fun r => ⟨[.v (vi r)], [], false⟩) (r := r) ?_
  unfold spec_l29Find at h
  refine srk tbok ⟨20, [(0, vl eSite aList), (1, vs aCode)], []⟩ ?_
  refine swp_seq ?_
  refine srk tbok ⟨20, [(0, vl eSite aList), (1, vs aCode), (5, vi 0)], []⟩ ?_
  refine swp_seqE (r := r) h (fun j1 => ⟨20, [], []⟩) (fun v2 h => ?_) (fun j1 h => ?_)
  refine swp_blk (a := v2) ?_
  refine swp_lpL (r := v2) (s := (0, ())) _ (fun s3 => ⟨20, [(0, vl eSite aList), (1, vs aCode), (5, vi s3.1)], []⟩) _ (Le.sub0) h (fun s3 v4 h => ?_)
  refine swp_seq ?_
  refine srk tbok ⟨20, [(0, vl eSite aList), (1, vs aCode), (5, vi s3.1), (9, vb (decide (s3.1 < (aList.length : Int))))], []⟩ ?_
  refine swp_cd h (fun h => ?_) fun h => ?_
  refine swp_skip ?_
  refine nx_n ?_
  refine swp_seq ?_
  refine swp_seqL (r := v4) h (fun j5 => ⟨20, [(0, vl eSite aList), (1, vs aCode), (5, vi s3.1)], []⟩) (fun v6 h => ?_) (fun j5 h => ?_)
  refine swp_blk (a := v6) ?_
  refine sr ?_
  refine SRun.ck tbok 2 ⟨20, [(0, vl eSite aList), (1, vs aCode), (5, vi s3.1), (12, vl eSite aList), (13, vi s3.1)], []⟩ ?_
  obtain ⟨x7, hx7, h⟩ := bind_some h
  refine SRun.ls (x_index (L := aList) (f := eSite) (ti := ti33) (tj := ti92) (e := 92) (k := .i64) tbok rfl hx7) ?_
  refine ckn tbok 4 ⟨20, [(0, vl eSite aList), (1, vs aCode), (5, vi s3.1), (18, vb (x7.Code.toList == aCode.toList))], []⟩ ?_
  refine swp_cd h (fun h => ?_) fun h => ?_
  refine srk tbok ⟨20, [(4, vi s3.1)], []⟩ ?_
  refine swp_ret ?_
  obtain rfl := inj h
  exact q_br (q_rr (q_rr (q_br (q_rr (q_fr (f1 fv))))))
  refine swp_skip ?_
  obtain rfl := inj h
  exact q_bn (q_l (Le.sub0))
  refine swp_reg ?_
  refine SRun.ck tbok 3 ⟨20, [(0, vl eSite aList), (1, vs aCode), (5, vi (w64 (s3.1 + 1)))], []⟩ ?_
  refine SRun.nil ?_
  obtain rfl := inj h
  exact q_l (Le.sub0)
  refine swp_exit ?_
  obtain rfl := inj h
  exact nx_e (q_re (q_bh (q_l (Le.sub0))))
  refine srk tbok ⟨20, [(4, vi (-1))], []⟩ ?_
  refine swp_ret ?_
  obtain rfl := inj h
  exact q_fr (f1 fv)
theorem ents91 : Ents Tryz.prog 91 := ents_of Tryz.func91 (by kernel_rfl) rfl
noncomputable def spec_l29Code (aList : (List Site)) (aDescriptions : (List Description)) : Option (Int) :=
  ((spec_AreSites aList).bind fun x1 => (bif (!x1) then some 1 else (((forN (aDescriptions.length : Int) (fun (i4 : Int) (_ : Unit) => ((at' aDescriptions i4).bind fun x8 => ((spec_IsDescription x8).bind fun x9 => (bif (!x9) then some (.inr (.inr 1)) else some (.inl ()))))) (fun (_ : Unit) => .inl ()) 0 ())).bind (Sum.elim (fun (_ : Unit) => (((forN (aDescriptions.length : Int) (fun (i12 : Int) (_ : Unit) => ((at' aDescriptions i12).bind fun x16 => ((((spec_l29Find aList x16.A).bind fun x17 => (bif (decide (x17 < 0)) then some true else (bif (!(x16.B.toList == (ByteArray.mk #[]).toList)) then ((spec_l29Find aList x16.B).bind fun x18 => some (decide (x18 < 0))) else some false)))).bind fun (j19 : Bool) => (bif j19 then some (.inr (.inr 4)) else some (.inl ()))))) (fun (_ : Unit) => .inl ()) 0 ())).bind (Sum.elim (fun (_ : Unit) => (bif (decide ((aDescriptions.length : Int) > 8)) then some 3 else some 0)) some))) some))))
theorem spec_l29Code_run (aList : (List Site)) (aDescriptions : (List Description)) (r : Int) (h : spec_l29Code aList aDescriptions = some r) : SCall Tryz.prog 113 [.v (vl eSite aList), .v (vl eDescription aDescriptions)] ⟨[.v (vi r)], [], false⟩ := by
  refine scall_in Tryz.func113 rfl [(.tmp 4)] rfl (fun r => ⟨[.v (vi r)], [], false⟩) (r := r) ?_
  unfold spec_l29Code at h
  refine srk tbok ⟨53, [(0, vl eSite aList), (1, vl eDescription aDescriptions)], []⟩ ?_
  refine swp_seq ?_
  refine sr ?_
  refine SRun.ck tbok 1 ⟨53, [(0, vl eSite aList), (1, vl eDescription aDescriptions), (8, vl eSite aList)], []⟩ ?_
  obtain ⟨x1, hx1, h⟩ := bind_some h
  refine SRun.ls (xc ents149 (spec_AreSites_run aList _ hx1)) ?_
  refine ckn tbok 1 ⟨53, [(0, vl eSite aList), (1, vl eDescription aDescriptions), (10, vb (!x1))], []⟩ ?_
  refine swp_cd h (fun h => ?_) fun h => ?_
  refine srk tbok ⟨53, [(4, vi 1)], []⟩ ?_
  refine swp_ret ?_
  obtain rfl := inj h
  exact nx_r (q_fr (f1 fv))
  refine swp_skip ?_
  refine nx_n ?_
  refine swp_seq ?_
  refine srk tbok ⟨53, [(0, vl eSite aList), (1, vl eDescription aDescriptions), (5, vi 0)], []⟩ ?_
  refine swp_seqE (r := r) h (fun j2 => ⟨53, [(0, vl eSite aList), (1, vl eDescription aDescriptions)], []⟩) (fun v3 h => ?_) (fun j2 h => ?_)
  refine swp_blk (a := v3) ?_
  refine swp_lpL (r := v3) (s := (0, ())) _ (fun s4 => ⟨53, [(0, vl eSite aList), (1, vl eDescription aDescriptions), (5, vi s4.1)], []⟩) _ (Le.sub0) h (fun s4 v5 h => ?_)
  refine swp_seq ?_
  refine srk tbok ⟨53, [(0, vl eSite aList), (1, vl eDescription aDescriptions), (5, vi s4.1), (14, vb (decide (s4.1 < (aDescriptions.length : Int))))], []⟩ ?_
  refine swp_cd h (fun h => ?_) fun h => ?_
  refine swp_skip ?_
  refine nx_n ?_
  refine swp_seq ?_
  refine swp_seqL (r := v5) h (fun j6 => ⟨53, [(0, vl eSite aList), (1, vl eDescription aDescriptions), (5, vi s4.1)], []⟩) (fun v7 h => ?_) (fun j6 h => ?_)
  refine swp_blk (a := v7) ?_
  refine sr ?_
  refine SRun.ck tbok 2 ⟨53, [(0, vl eSite aList), (1, vl eDescription aDescriptions), (5, vi s4.1), (17, vl eDescription aDescriptions), (18, vi s4.1)], []⟩ ?_
  obtain ⟨x8, hx8, h⟩ := bind_some h
  refine SRun.ls (x_index (L := aDescriptions) (f := eDescription) (ti := ti35) (tj := ti84) (e := 84) (k := .i64) tbok rfl hx8) ?_
  refine SRun.ck tbok 1 ⟨53, [(0, vl eSite aList), (1, vl eDescription aDescriptions), (5, vi s4.1), (20, .agg (tc eDescription x8))], []⟩ ?_
  obtain ⟨x9, hx9, h⟩ := bind_some h
  refine SRun.ls (xc ents150 (spec_IsDescription_run x8 _ hx9)) ?_
  refine ckn tbok 1 ⟨53, [(0, vl eSite aList), (1, vl eDescription aDescriptions), (5, vi s4.1), (22, vb (!x9))], []⟩ ?_
  refine swp_cd h (fun h => ?_) fun h => ?_
  refine srk tbok ⟨53, [(4, vi 1)], []⟩ ?_
  refine swp_ret ?_
  obtain rfl := inj h
  exact q_br (q_rr (q_rr (q_br (q_rr (q_fr (f1 fv))))))
  refine swp_skip ?_
  obtain rfl := inj h
  exact q_bn (q_l (Le.sub0))
  refine swp_reg ?_
  refine SRun.ck tbok 3 ⟨53, [(0, vl eSite aList), (1, vl eDescription aDescriptions), (5, vi (w64 (s4.1 + 1)))], []⟩ ?_
  refine SRun.nil ?_
  obtain rfl := inj h
  exact q_l (Le.sub0)
  refine swp_exit ?_
  obtain rfl := inj h
  exact nx_e (q_re (q_bh (q_l (Le.sub0))))
  refine swp_seq ?_
  refine srk tbok ⟨53, [(0, vl eSite aList), (1, vl eDescription aDescriptions), (6, vi 0)], []⟩ ?_
  refine swp_seqE (r := r) h (fun j10 => ⟨53, [(1, vl eDescription aDescriptions)], []⟩) (fun v11 h => ?_) (fun j10 h => ?_)
  refine swp_blk (a := v11) ?_
  refine swp_lpL (r := v11) (s := (0, ())) _ (fun s12 => ⟨53, [(0, vl eSite aList), (1, vl eDescription aDescriptions), (6, vi s12.1)], []⟩) _ (Le.sub0) h (fun s12 v13 h => ?_)
  refine swp_seq ?_
  refine srk tbok ⟨53, [(0, vl eSite aList), (1, vl eDescription aDescriptions), (6, vi s12.1), (26, vb (decide (s12.1 < (aDescriptions.length : Int))))], []⟩ ?_
  refine swp_cd h (fun h => ?_) fun h => ?_
  refine swp_skip ?_
  refine nx_n ?_
  refine swp_seq ?_
  refine swp_seqL (r := v13) h (fun j14 => ⟨53, [(0, vl eSite aList), (1, vl eDescription aDescriptions), (6, vi s12.1)], []⟩) (fun v15 h => ?_) (fun j14 h => ?_)
  refine swp_blk (a := v15) ?_
  refine sr ?_
  refine SRun.ck tbok 2 ⟨53, [(0, vl eSite aList), (1, vl eDescription aDescriptions), (6, vi s12.1), (29, vl eDescription aDescriptions), (30, vi s12.1)], []⟩ ?_
  obtain ⟨x16, hx16, h⟩ := bind_some h
  refine SRun.ls (x_index (L := aDescriptions) (f := eDescription) (ti := ti35) (tj := ti84) (e := 84) (k := .i64) tbok rfl hx16) ?_
  refine ckn tbok 3 ⟨53, [(0, vl eSite aList), (1, vl eDescription aDescriptions), (6, vi s12.1), (7, .ref 7 0)], [(7, .box (tc eDescription x16))]⟩ ?_
  refine swp_seq ?_
  refine swp_regJ h (fun j19 => ⟨53, [(0, vl eSite aList), (1, vl eDescription aDescriptions), (6, vi s12.1), (49, vb j19)], []⟩) (fun v20 h => ?_) (fun j19 h => ?_)
  refine SRun.ck tbok 3 ⟨53, [(0, vl eSite aList), (1, vl eDescription aDescriptions), (6, vi s12.1), (7, .ref 7 0), (33, vl eSite aList), (35, vs x16.A)], [(7, .box (tc eDescription x16))]⟩ ?_
  obtain ⟨x17, hx17, h⟩ := bind_some h
  refine SRun.ls (xc ents91 (spec_l29Find_run aList x16.A _ hx17)) ?_
  refine SRun.ck tbok 2 ⟨53, [(0, vl eSite aList), (1, vl eDescription aDescriptions), (6, vi s12.1), (7, .ref 7 0), (38, vb (decide (x17 < 0)))], [(7, .box (tc eDescription x16))]⟩ ?_
  refine SRun.cu [(38, fun b => b)] h (fun h => ?_) fun h => ?_
  refine SRun.ck tbok 11 ⟨53, [(0, vl eSite aList), (1, vl eDescription aDescriptions), (6, vi s12.1), (49, vb true)], []⟩ ?_
  refine SRun.nil ?_
  obtain rfl := inj h
  exact Le.sub0
  refine SRun.ck tbok 4 ⟨53, [(0, vl eSite aList), (1, vl eDescription aDescriptions), (6, vi s12.1), (7, .ref 7 0), (38, vb false), (42, vb (!(x16.B.toList == (ByteArray.mk #[]).toList)))], [(7, .box (tc eDescription x16))]⟩ ?_
  refine SRun.cu [(42, fun b => b)] h (fun h => ?_) fun h => ?_
  refine SRun.ck tbok 3 ⟨53, [(0, vl eSite aList), (1, vl eDescription aDescriptions), (6, vi s12.1), (38, vb false), (42, vb true), (43, vl eSite aList), (45, vs x16.B)], []⟩ ?_
  obtain ⟨x18, hx18, h⟩ := bind_some h
  refine SRun.ls (xc ents91 (spec_l29Find_run aList x16.B _ hx18)) ?_
  refine SRun.ck tbok 3 ⟨53, [(0, vl eSite aList), (1, vl eDescription aDescriptions), (6, vi s12.1), (49, vb (decide (x18 < 0)))], []⟩ ?_
  refine SRun.nil ?_
  obtain rfl := inj h
  exact Le.sub0
  refine SRun.ck tbok 7 ⟨53, [(0, vl eSite aList), (1, vl eDescription aDescriptions), (6, vi s12.1), (49, vb false)], []⟩ ?_
  refine SRun.nil ?_
  obtain rfl := inj h
  exact Le.sub0
  refine swp_cd h (fun h => ?_) fun h => ?_
  refine srk tbok ⟨53, [(4, vi 4)], []⟩ ?_
  refine swp_ret ?_
  obtain rfl := inj h
  exact q_br (q_rr (q_rr (q_br (q_rr (q_fr (f1 fv))))))
  refine swp_skip ?_
  obtain rfl := inj h
  exact q_bn (q_l (Le.sub0))
  refine swp_reg ?_
  refine SRun.ck tbok 3 ⟨53, [(0, vl eSite aList), (1, vl eDescription aDescriptions), (6, vi (w64 (s12.1 + 1)))], []⟩ ?_
  refine SRun.nil ?_
  obtain rfl := inj h
  exact q_l (Le.sub0)
  refine swp_exit ?_
  obtain rfl := inj h
  exact nx_e (q_re (q_bh (q_l (Le.sub0))))
  refine swp_seq ?_
  refine srk tbok ⟨53, [(52, vb (decide ((aDescriptions.length : Int) > 8)))], []⟩ ?_
  refine swp_cd h (fun h => ?_) fun h => ?_
  refine srk tbok ⟨53, [(4, vi 3)], []⟩ ?_
  refine swp_ret ?_
  obtain rfl := inj h
  exact nx_r (q_fr (f1 fv))
  refine swp_skip ?_
  refine nx_n ?_
  refine srk tbok ⟨53, [(4, vi 0)], []⟩ ?_
  refine swp_ret ?_
  obtain rfl := inj h
  exact q_fr (f1 fv)
theorem ents113 : Ents Tryz.prog 113 := ents_of Tryz.func113 (by kernel_rfl) rfl
noncomputable def spec_l30Code (aList : (List Candidate)) (aText : ByteArray) (aSites : (List Site)) (aDescriptions : (List Description)) : Option (Int) :=
  ((((spec_AreCandidates aList).bind fun x1 => (bif (!x1) then some true else ((spec_IsPhrase aText).bind fun x2 => some (!x2))))).bind fun (j3 : Bool) => (bif j3 then some 1 else ((spec_l29Code aSites aDescriptions).bind fun x5 => some x5)))
theorem spec_l30Code_run (aList : (List Candidate)) (aText : ByteArray) (aSites : (List Site)) (aDescriptions : (List Description)) (r : Int) (h : spec_l30Code aList aText aSites aDescriptions = some r) : SCall Tryz.prog 66 [.v (vl eCandidate aList), .v (vs aText), .v (vl eSite aSites), .v (vl eDescription aDescriptions)] ⟨[.v (vi r)], [], false⟩ := by
  refine scall_in Tryz.func66 rfl [(.tmp 8)] rfl (fun r => ⟨[.v (vi r)], [], false⟩) (r := r) ?_
  unfold spec_l30Code at h
  refine srk tbok ⟨20, [(0, vl eCandidate aList), (1, vs aText), (2, vl eSite aSites), (3, vl eDescription aDescriptions)], []⟩ ?_
  refine swp_seq ?_
  refine swp_seq ?_
  refine swp_regJ h (fun j3 => ⟨20, [(2, vl eSite aSites), (3, vl eDescription aDescriptions), (16, vb j3)], []⟩) (fun v4 h => ?_) (fun j3 h => ?_)
  refine SRun.ck tbok 1 ⟨20, [(1, vs aText), (2, vl eSite aSites), (3, vl eDescription aDescriptions), (9, vl eCandidate aList)], []⟩ ?_
  obtain ⟨x1, hx1, h⟩ := bind_some h
  refine SRun.ls (xc ents46 (spec_AreCandidates_run aList _ hx1)) ?_
  refine SRun.ck tbok 2 ⟨20, [(1, vs aText), (2, vl eSite aSites), (3, vl eDescription aDescriptions), (12, vb (!x1))], []⟩ ?_
  refine SRun.cu [(12, fun b => b)] h (fun h => ?_) fun h => ?_
  refine SRun.ck tbok 4 ⟨20, [(2, vl eSite aSites), (3, vl eDescription aDescriptions), (16, vb true)], []⟩ ?_
  refine SRun.nil ?_
  obtain rfl := inj h
  exact Le.sub0
  refine SRun.ck tbok 1 ⟨20, [(2, vl eSite aSites), (3, vl eDescription aDescriptions), (12, vb false), (13, vs aText)], []⟩ ?_
  obtain ⟨x2, hx2, h⟩ := bind_some h
  refine SRun.ls (xc ents76 (spec_IsPhrase_run aText _ hx2)) ?_
  refine SRun.ck tbok 2 ⟨20, [(2, vl eSite aSites), (3, vl eDescription aDescriptions), (16, vb (!x2))], []⟩ ?_
  refine SRun.nil ?_
  obtain rfl := inj h
  exact Le.sub0
  refine swp_cd h (fun h => ?_) fun h => ?_
  refine srk tbok ⟨20, [(8, vi 1)], []⟩ ?_
  refine swp_ret ?_
  obtain rfl := inj h
  exact nx_r (q_fr (f1 fv))
  refine swp_skip ?_
  refine nx_n ?_
  refine sr ?_
  refine SRun.ck tbok 2 ⟨20, [(17, vl eSite aSites), (18, vl eDescription aDescriptions)], []⟩ ?_
  obtain ⟨x5, hx5, h⟩ := bind_some h
  refine SRun.ls (xc ents113 (spec_l29Code_run aSites aDescriptions _ hx5)) ?_
  refine ckn tbok 1 ⟨20, [(8, vi x5)], []⟩ ?_
  refine swp_ret ?_
  obtain rfl := inj h
  exact q_fr (f1 fv)
theorem ents66 : Ents Tryz.prog 66 := ents_of Tryz.func66 (by kernel_rfl) rfl
noncomputable def spec_l15Squared (aA : Point) (aB : Point) : Option (Int) :=
  some (w64 ((w64 ((w64 (aA.X - aB.X)) * (w64 (aA.X - aB.X)))) + (w64 ((w64 (aA.Y - aB.Y)) * (w64 (aA.Y - aB.Y))))))
theorem spec_l15Squared_run (aA : Point) (aB : Point) (r : Int) (h : spec_l15Squared aA aB = some r) : SCall Tryz.prog 92 [.v (.agg (tc ePoint aA)), .v (.agg (tc ePoint aB))] ⟨[.v (vi r)], [], false⟩ := by
  refine scall_in Tryz.func92 rfl [(.tmp 4)] rfl (fun r => ⟨[.v (vi r)], [], false⟩) (r := r) ?_
  unfold spec_l15Squared at h
  refine srk tbok ⟨28, [(2, .ref 2 0), (3, .ref 3 0)], [(2, .box (tc ePoint aA)), (3, .box (tc ePoint aB))]⟩ ?_
  refine srk tbok ⟨28, [(4, vi (w64 ((w64 ((w64 (aA.X - aB.X)) * (w64 (aA.X - aB.X)))) + (w64 ((w64 (aA.Y - aB.Y)) * (w64 (aA.Y - aB.Y)))))))], []⟩ ?_
  refine swp_ret ?_
  obtain rfl := inj h
  exact q_fr (f1 fv)
theorem ents92 : Ents Tryz.prog 92 := ents_of Tryz.func92 (by kernel_rfl) rfl
noncomputable def spec_l01Abs (aN : Int) : Option (Int) :=
  some (maxI aN (w64 (0 - aN)))
theorem spec_l01Abs_run (aN : Int) (r : Int) (h : spec_l01Abs aN = some r) : SCall Tryz.prog 137 [.v (vi aN)] ⟨[.v (vi r)], [], false⟩ := by
  refine scall_in Tryz.func137 rfl [(.tmp 2)] rfl (fun r => ⟨[.v (vi r)], [], false⟩) (r := r) ?_
  unfold spec_l01Abs at h
  refine srk tbok ⟨7, [(0, vi aN)], []⟩ ?_
  refine srk tbok ⟨7, [(2, vi (maxI aN (w64 (0 - aN))))], []⟩ ?_
  refine swp_ret ?_
  obtain rfl := inj h
  exact q_fr (f1 fv)
theorem ents137 : Ents Tryz.prog 137 := ents_of Tryz.func137 (by kernel_rfl) rfl
noncomputable def spec_l15Direction (aA : Point) (aB : Point) : Option (Int) :=
  ((((((spec_l01Abs (w64 (aB.X - aA.X))).bind fun x3 => ((spec_l01Abs (w64 (aB.Y - aA.Y))).bind fun x4 => (bif (decide ((w64 (2 * x3)) < x4)) then some (decide ((w64 (aB.Y - aA.Y)) > 0)) else some false)))).bind fun (j5 : Bool) => (bif j5 then some (.inr 0) else ((spec_l01Abs (w64 (aB.X - aA.X))).bind fun x7 => ((spec_l01Abs (w64 (aB.Y - aA.Y))).bind fun x8 => (bif (decide ((w64 (2 * x7)) < x8)) then some (.inr 4) else ((((spec_l01Abs (w64 (aB.Y - aA.Y))).bind fun x9 => ((spec_l01Abs (w64 (aB.X - aA.X))).bind fun x10 => (bif (decide ((w64 (2 * x9)) < x10)) then some (decide ((w64 (aB.X - aA.X)) > 0)) else some false)))).bind fun (j11 : Bool) => (bif j11 then some (.inr 2) else ((spec_l01Abs (w64 (aB.Y - aA.Y))).bind fun x13 => ((spec_l01Abs (w64 (aB.X - aA.X))).bind fun x14 => (bif (decide ((w64 (2 * x13)) < x14)) then some (.inr 6) else (bif ((decide ((w64 (aB.X - aA.X)) > 0)) && (decide ((w64 (aB.Y - aA.Y)) > 0))) then some (.inr 1) else (bif (decide ((w64 (aB.X - aA.X)) > 0)) then some (.inr 3) else (bif (decide ((w64 (aB.Y - aA.Y)) < 0)) then some (.inr 5) else some (.inl ()))))))))))))))).bind (Sum.elim (fun (_ : Unit) => some 7) some))
theorem spec_l15Direction_run (aA : Point) (aB : Point) (r : Int) (h : spec_l15Direction aA aB = some r) : SCall Tryz.prog 95 [.v (.agg (tc ePoint aA)), .v (.agg (tc ePoint aB))] ⟨[.v (vi r)], [], false⟩ := by
  refine scall_in Tryz.func95 rfl [(.tmp 4)] rfl (fun r => ⟨[.v (vi r)], [], false⟩) (r := r) ?_
  unfold spec_l15Direction at h
  refine srk tbok ⟨66, [(2, .ref 2 0), (3, .ref 3 0)], [(2, .box (tc ePoint aA)), (3, .box (tc ePoint aB))]⟩ ?_
  refine swp_seq ?_
  refine swp_dr mixed ?_
  refine DGo.ck tbok false 12 ⟨66, [(5, vi (w64 (aB.X - aA.X))), (6, vi (w64 (aB.Y - aA.Y)))], []⟩ ?_
  refine DGo.nx ?_
  refine swp_seq ?_
  refine swp_seqE (r := r) h (fun j1 => ⟨66, [], []⟩) (fun v2 h => ?_) (fun j1 h => ?_)
  refine swp_blk (a := v2) ?_
  refine swp_seq ?_
  refine swp_regJ h (fun j5 => ⟨66, [(5, vi (w64 (aB.X - aA.X))), (6, vi (w64 (aB.Y - aA.Y))), (17, vb j5)], []⟩) (fun v6 h => ?_) (fun j5 h => ?_)
  refine SRun.ck tbok 1 ⟨66, [(5, vi (w64 (aB.X - aA.X))), (6, vi (w64 (aB.Y - aA.Y))), (18, vi (w64 (aB.X - aA.X)))], []⟩ ?_
  obtain ⟨x3, hx3, h⟩ := bind_some h
  refine SRun.ls (xc ents137 (spec_l01Abs_run (w64 (aB.X - aA.X)) _ hx3)) ?_
  refine SRun.ck tbok 2 ⟨66, [(5, vi (w64 (aB.X - aA.X))), (6, vi (w64 (aB.Y - aA.Y))), (20, vi (w64 (2 * x3))), (21, vi (w64 (aB.Y - aA.Y)))], []⟩ ?_
  obtain ⟨x4, hx4, h⟩ := bind_some h
  refine SRun.ls (xc ents137 (spec_l01Abs_run (w64 (aB.Y - aA.Y)) _ hx4)) ?_
  refine SRun.ck tbok 2 ⟨66, [(5, vi (w64 (aB.X - aA.X))), (6, vi (w64 (aB.Y - aA.Y))), (24, vb (decide ((w64 (2 * x3)) < x4)))], []⟩ ?_
  refine SRun.cu [(24, fun b => b)] h (fun h => ?_) fun h => ?_
  refine SRun.ck tbok 4 ⟨66, [(5, vi (w64 (aB.X - aA.X))), (6, vi (w64 (aB.Y - aA.Y))), (17, vb (decide ((w64 (aB.Y - aA.Y)) > 0)))], []⟩ ?_
  refine SRun.nil ?_
  obtain rfl := inj h
  exact Le.sub0
  refine SRun.ck tbok 4 ⟨66, [(5, vi (w64 (aB.X - aA.X))), (6, vi (w64 (aB.Y - aA.Y))), (17, vb false)], []⟩ ?_
  refine SRun.nil ?_
  obtain rfl := inj h
  exact Le.sub0
  refine swp_cd h (fun h => ?_) fun h => ?_
  refine srk tbok ⟨66, [(4, vi 0)], []⟩ ?_
  refine swp_ret ?_
  obtain rfl := inj h
  exact q_br (q_rr (q_fr (f1 fv)))
  refine sr ?_
  refine SRun.ck tbok 1 ⟨66, [(5, vi (w64 (aB.X - aA.X))), (6, vi (w64 (aB.Y - aA.Y))), (29, vi (w64 (aB.X - aA.X)))], []⟩ ?_
  obtain ⟨x7, hx7, h⟩ := bind_some h
  refine SRun.ls (xc ents137 (spec_l01Abs_run (w64 (aB.X - aA.X)) _ hx7)) ?_
  refine SRun.ck tbok 2 ⟨66, [(5, vi (w64 (aB.X - aA.X))), (6, vi (w64 (aB.Y - aA.Y))), (31, vi (w64 (2 * x7))), (32, vi (w64 (aB.Y - aA.Y)))], []⟩ ?_
  obtain ⟨x8, hx8, h⟩ := bind_some h
  refine SRun.ls (xc ents137 (spec_l01Abs_run (w64 (aB.Y - aA.Y)) _ hx8)) ?_
  refine ckn tbok 2 ⟨66, [(5, vi (w64 (aB.X - aA.X))), (6, vi (w64 (aB.Y - aA.Y))), (28, vb (decide ((w64 (2 * x7)) < x8)))], []⟩ ?_
  refine swp_cd h (fun h => ?_) fun h => ?_
  refine srk tbok ⟨66, [(4, vi 4)], []⟩ ?_
  refine swp_ret ?_
  obtain rfl := inj h
  exact q_br (q_rr (q_fr (f1 fv)))
  refine swp_seq ?_
  refine swp_regJ h (fun j11 => ⟨66, [(5, vi (w64 (aB.X - aA.X))), (6, vi (w64 (aB.Y - aA.Y))), (35, vb j11)], []⟩) (fun v12 h => ?_) (fun j11 h => ?_)
  refine SRun.ck tbok 1 ⟨66, [(5, vi (w64 (aB.X - aA.X))), (6, vi (w64 (aB.Y - aA.Y))), (36, vi (w64 (aB.Y - aA.Y)))], []⟩ ?_
  obtain ⟨x9, hx9, h⟩ := bind_some h
  refine SRun.ls (xc ents137 (spec_l01Abs_run (w64 (aB.Y - aA.Y)) _ hx9)) ?_
  refine SRun.ck tbok 2 ⟨66, [(5, vi (w64 (aB.X - aA.X))), (6, vi (w64 (aB.Y - aA.Y))), (38, vi (w64 (2 * x9))), (39, vi (w64 (aB.X - aA.X)))], []⟩ ?_
  obtain ⟨x10, hx10, h⟩ := bind_some h
  refine SRun.ls (xc ents137 (spec_l01Abs_run (w64 (aB.X - aA.X)) _ hx10)) ?_
  refine SRun.ck tbok 2 ⟨66, [(5, vi (w64 (aB.X - aA.X))), (6, vi (w64 (aB.Y - aA.Y))), (42, vb (decide ((w64 (2 * x9)) < x10)))], []⟩ ?_
  refine SRun.cu [(42, fun b => b)] h (fun h => ?_) fun h => ?_
  refine SRun.ck tbok 4 ⟨66, [(5, vi (w64 (aB.X - aA.X))), (6, vi (w64 (aB.Y - aA.Y))), (35, vb (decide ((w64 (aB.X - aA.X)) > 0)))], []⟩ ?_
  refine SRun.nil ?_
  obtain rfl := inj h
  exact Le.sub0
  refine SRun.ck tbok 4 ⟨66, [(5, vi (w64 (aB.X - aA.X))), (6, vi (w64 (aB.Y - aA.Y))), (35, vb false)], []⟩ ?_
  refine SRun.nil ?_
  obtain rfl := inj h
  exact Le.sub0
  refine swp_cd h (fun h => ?_) fun h => ?_
  refine srk tbok ⟨66, [(4, vi 2)], []⟩ ?_
  refine swp_ret ?_
  obtain rfl := inj h
  exact q_br (q_rr (q_fr (f1 fv)))
  refine sr ?_
  refine SRun.ck tbok 1 ⟨66, [(5, vi (w64 (aB.X - aA.X))), (6, vi (w64 (aB.Y - aA.Y))), (47, vi (w64 (aB.Y - aA.Y)))], []⟩ ?_
  obtain ⟨x13, hx13, h⟩ := bind_some h
  refine SRun.ls (xc ents137 (spec_l01Abs_run (w64 (aB.Y - aA.Y)) _ hx13)) ?_
  refine SRun.ck tbok 2 ⟨66, [(5, vi (w64 (aB.X - aA.X))), (6, vi (w64 (aB.Y - aA.Y))), (49, vi (w64 (2 * x13))), (50, vi (w64 (aB.X - aA.X)))], []⟩ ?_
  obtain ⟨x14, hx14, h⟩ := bind_some h
  refine SRun.ls (xc ents137 (spec_l01Abs_run (w64 (aB.X - aA.X)) _ hx14)) ?_
  refine ckn tbok 2 ⟨66, [(5, vi (w64 (aB.X - aA.X))), (6, vi (w64 (aB.Y - aA.Y))), (46, vb (decide ((w64 (2 * x13)) < x14)))], []⟩ ?_
  refine swp_cd h (fun h => ?_) fun h => ?_
  refine srk tbok ⟨66, [(4, vi 6)], []⟩ ?_
  refine swp_ret ?_
  obtain rfl := inj h
  exact q_br (q_rr (q_fr (f1 fv)))
  refine swp_seq ?_
  refine swp_regP ⟨66, [(5, vi (w64 (aB.X - aA.X))), (6, vi (w64 (aB.Y - aA.Y))), (53, vb ((decide ((w64 (aB.X - aA.X)) > 0)) && (decide ((w64 (aB.Y - aA.Y)) > 0))))], []⟩ ?_ ?_
  refine SRun.ck tbok 3 ⟨66, [(5, vi (w64 (aB.X - aA.X))), (6, vi (w64 (aB.Y - aA.Y))), (56, vb (decide ((w64 (aB.X - aA.X)) > 0)))], []⟩ ?_
  generalize (decide ((w64 (aB.X - aA.X)) > 0)) = bb
  cases bb
  refine SRun.ck tbok 4 ⟨66, [(5, vi (w64 (aB.X - aA.X))), (6, vi (w64 (aB.Y - aA.Y))), (53, vb false)], []⟩ ?_
  exact SRun.nil (Le.sub0)
  refine SRun.ck tbok 4 ⟨66, [(5, vi (w64 (aB.X - aA.X))), (6, vi (w64 (aB.Y - aA.Y))), (53, vb (decide ((w64 (aB.Y - aA.Y)) > 0)))], []⟩ ?_
  exact SRun.nil (Le.sub0)
  refine swp_cd h (fun h => ?_) fun h => ?_
  refine srk tbok ⟨66, [(4, vi 1)], []⟩ ?_
  refine swp_ret ?_
  obtain rfl := inj h
  exact q_br (q_rr (q_fr (f1 fv)))
  refine srk tbok ⟨66, [(6, vi (w64 (aB.Y - aA.Y))), (60, vb (decide ((w64 (aB.X - aA.X)) > 0)))], []⟩ ?_
  refine swp_cd h (fun h => ?_) fun h => ?_
  refine srk tbok ⟨66, [(4, vi 3)], []⟩ ?_
  refine swp_ret ?_
  obtain rfl := inj h
  exact q_br (q_rr (q_fr (f1 fv)))
  refine srk tbok ⟨66, [(63, vb (decide ((w64 (aB.Y - aA.Y)) < 0)))], []⟩ ?_
  refine swp_cd h (fun h => ?_) fun h => ?_
  refine srk tbok ⟨66, [(4, vi 5)], []⟩ ?_
  refine swp_ret ?_
  obtain rfl := inj h
  exact q_br (q_rr (q_fr (f1 fv)))
  refine swp_skip ?_
  obtain rfl := inj h
  exact q_bn (q_l (Le.sub0))
  refine srk tbok ⟨66, [(4, vi 7)], []⟩ ?_
  refine swp_ret ?_
  obtain rfl := inj h
  exact q_fr (f1 fv)
theorem ents95 : Ents Tryz.prog 95 := ents_of Tryz.func95 (by kernel_rfl) rfl
noncomputable def spec_l01Mod (aA : Int) (aM : Int) : Option (Int) :=
  ((nz' aM).bind fun _ => ((nz' aM).bind fun _ => some (Int.tmod (w64 ((Int.tmod aA aM) + aM)) aM)))
theorem spec_l01Mod_run (aA : Int) (aM : Int) (r : Int) (h : spec_l01Mod aA aM = some r) : SCall Tryz.prog 94 [.v (vi aA), .v (vi aM)] ⟨[.v (vi r)], [], false⟩ := by
  refine scall_in Tryz.func94 rfl [(.tmp 4)] rfl (fun r => ⟨[.v (vi r)], [], false⟩) (r := r) ?_
  unfold spec_l01Mod at h
  refine srk tbok ⟨12, [(0, vi aA), (1, vi aM)], []⟩ ?_
  refine sr ?_
  refine SRun.ck tbok 2 ⟨12, [(1, vi aM), (5, vi aA), (6, vi aM)], []⟩ ?_
  obtain ⟨x1, hx1, h⟩ := bind_some h
  refine SRun.ls (x_lstep_quo (k := .i64) (i := aA) hx1 true rfl) ?_
  refine SRun.ck tbok 3 ⟨12, [(9, vi (w64 ((Int.tmod aA aM) + aM))), (10, vi aM)], []⟩ ?_
  obtain ⟨x2, hx2, h⟩ := bind_some h
  refine SRun.ls (x_lstep_quo (k := .i64) (i := (w64 ((Int.tmod aA aM) + aM))) hx2 true rfl) ?_
  refine ckn tbok 1 ⟨12, [(4, vi (Int.tmod (w64 ((Int.tmod aA aM) + aM)) aM))], []⟩ ?_
  refine swp_ret ?_
  obtain rfl := inj h
  exact q_fr (f1 fv)
theorem ents94 : Ents Tryz.prog 94 := ents_of Tryz.func94 (by kernel_rfl) rfl
noncomputable def spec_l15Turn (aA : Point) (aB : Point) (aC : Point) : Option (Int) :=
  some (w64 ((w64 ((w64 (aB.X - aA.X)) * (w64 (aC.Y - aA.Y)))) - (w64 ((w64 (aB.Y - aA.Y)) * (w64 (aC.X - aA.X))))))
theorem spec_l15Turn_run (aA : Point) (aB : Point) (aC : Point) (r : Int) (h : spec_l15Turn aA aB aC = some r) : SCall Tryz.prog 138 [.v (.agg (tc ePoint aA)), .v (.agg (tc ePoint aB)), .v (.agg (tc ePoint aC))] ⟨[.v (vi r)], [], false⟩ := by
  refine scall_in Tryz.func138 rfl [(.tmp 6)] rfl (fun r => ⟨[.v (vi r)], [], false⟩) (r := r) ?_
  unfold spec_l15Turn at h
  refine srk tbok ⟨30, [(3, .ref 3 0), (4, .ref 4 0), (5, .ref 5 0)], [(3, .box (tc ePoint aA)), (4, .box (tc ePoint aB)), (5, .box (tc ePoint aC))]⟩ ?_
  refine srk tbok ⟨30, [(6, vi (w64 ((w64 ((w64 (aB.X - aA.X)) * (w64 (aC.Y - aA.Y)))) - (w64 ((w64 (aB.Y - aA.Y)) * (w64 (aC.X - aA.X)))))))], []⟩ ?_
  refine swp_ret ?_
  obtain rfl := inj h
  exact q_fr (f1 fv)
theorem ents138 : Ents Tryz.prog 138 := ents_of Tryz.func138 (by kernel_rfl) rfl
noncomputable def spec_l29Between (aA : Point) (aB : Point) (aP : Point) : Option (Bool) :=
  (bif ((aA.X == aB.X) && (aA.Y == aB.Y)) then some ((aP.X == aA.X) && (aP.Y == aA.Y)) else ((spec_l15Squared aA aB).bind fun x1 => ((spec_l15Turn aA aB aP).bind fun x2 => ((((spec_l01In (w64 ((w64 ((w64 (aP.X - aA.X)) * (w64 (aB.X - aA.X)))) + (w64 ((w64 (aP.Y - aA.Y)) * (w64 (aB.Y - aA.Y)))))) 0 x1).bind fun x3 => (bif x3 then some (decide ((w64 ((w64 (16 * x2)) * x2)) ≤ (w64 (x1 * x1)))) else some false))).bind fun (j4 : Bool) => some j4))))
theorem spec_l29Between_run (aA : Point) (aB : Point) (aP : Point) (r : Bool) (h : spec_l29Between aA aB aP = some r) : SCall Tryz.prog 96 [.v (.agg (tc ePoint aA)), .v (.agg (tc ePoint aB)), .v (.agg (tc ePoint aP))] ⟨[.v (vb r)], [], false⟩ := by
  refine scall_in Tryz.func96 rfl [(.tmp 6)] rfl (fun r => ⟨[.v (vb r)], [], false⟩) (r := r) ?_
  unfold spec_l29Between at h
  refine srk tbok ⟨59, [(3, .ref 3 0), (4, .ref 4 0), (5, .ref 5 0)], [(3, .box (tc ePoint aA)), (4, .box (tc ePoint aB)), (5, .box (tc ePoint aP))]⟩ ?_
  refine swp_seq ?_
  refine sr ?_
  refine SRun.ck tbok 2 ⟨59, [(3, .ref 3 0), (4, .ref 4 0), (5, .ref 5 0), (10, .agg (tc ePoint aA)), (11, .agg (tc ePoint aB))], [(3, .box (tc ePoint aA)), (4, .box (tc ePoint aB)), (5, .box (tc ePoint aP))]⟩ ?_
  refine SRun.ls (x_lstep_eq tbok false (xs := [vi aA.X, vi aA.Y]) (ys := [vi aB.X, vi aB.Y]) (b := ((aA.X == aB.X) && (aA.Y == aB.Y))) rfl) ?_
  refine SRun.nx ?_
  refine swp_cd h (fun h => ?_) fun h => ?_
  refine sr ?_
  refine SRun.ck tbok 2 ⟨59, [(13, .agg (tc ePoint aP)), (14, .agg (tc ePoint aA))], []⟩ ?_
  refine SRun.ls (x_lstep_eq tbok false (xs := [vi aP.X, vi aP.Y]) (ys := [vi aA.X, vi aA.Y]) (b := ((aP.X == aA.X) && (aP.Y == aA.Y))) rfl) ?_
  refine ckn tbok 1 ⟨59, [(6, vb ((aP.X == aA.X) && (aP.Y == aA.Y)))], []⟩ ?_
  refine swp_ret ?_
  obtain rfl := inj h
  exact nx_r (q_fr (f1 fv))
  refine swp_skip ?_
  refine nx_n ?_
  refine sr ?_
  refine SRun.ck tbok 2 ⟨59, [(3, .ref 3 0), (4, .ref 4 0), (5, .ref 5 0), (16, .agg (tc ePoint aA)), (17, .agg (tc ePoint aB))], [(3, .box (tc ePoint aA)), (4, .box (tc ePoint aB)), (5, .box (tc ePoint aP))]⟩ ?_
  obtain ⟨x1, hx1, h⟩ := bind_some h
  refine SRun.ls (xc ents92 (spec_l15Squared_run aA aB _ hx1)) ?_
  refine ckn tbok 1 ⟨59, [(3, .ref 3 0), (4, .ref 4 0), (5, .ref 5 0), (7, vi x1)], [(3, .box (tc ePoint aA)), (4, .box (tc ePoint aB)), (5, .box (tc ePoint aP))]⟩ ?_
  refine srk tbok ⟨59, [(3, .ref 3 0), (4, .ref 4 0), (5, .ref 5 0), (7, vi x1), (8, vi (w64 ((w64 ((w64 (aP.X - aA.X)) * (w64 (aB.X - aA.X)))) + (w64 ((w64 (aP.Y - aA.Y)) * (w64 (aB.Y - aA.Y)))))))], [(3, .box (tc ePoint aA)), (4, .box (tc ePoint aB)), (5, .box (tc ePoint aP))]⟩ ?_
  refine sr ?_
  refine SRun.ck tbok 3 ⟨59, [(7, vi x1), (8, vi (w64 ((w64 ((w64 (aP.X - aA.X)) * (w64 (aB.X - aA.X)))) + (w64 ((w64 (aP.Y - aA.Y)) * (w64 (aB.Y - aA.Y))))))), (42, .agg (tc ePoint aA)), (43, .agg (tc ePoint aB)), (44, .agg (tc ePoint aP))], []⟩ ?_
  obtain ⟨x2, hx2, h⟩ := bind_some h
  refine SRun.ls (xc ents138 (spec_l15Turn_run aA aB aP _ hx2)) ?_
  refine ckn tbok 1 ⟨59, [(7, vi x1), (8, vi (w64 ((w64 ((w64 (aP.X - aA.X)) * (w64 (aB.X - aA.X)))) + (w64 ((w64 (aP.Y - aA.Y)) * (w64 (aB.Y - aA.Y))))))), (9, vi x2)], []⟩ ?_
  refine swp_seq ?_
  refine swp_regJ h (fun j4 => ⟨59, [(6, vb j4)], []⟩) (fun v5 h => ?_) (fun j4 h => ?_)
  refine SRun.ck tbok 2 ⟨59, [(7, vi x1), (9, vi x2), (46, vi (w64 ((w64 ((w64 (aP.X - aA.X)) * (w64 (aB.X - aA.X)))) + (w64 ((w64 (aP.Y - aA.Y)) * (w64 (aB.Y - aA.Y))))))), (47, vi x1)], []⟩ ?_
  obtain ⟨x3, hx3, h⟩ := bind_some h
  refine SRun.ls (xc ents136 (spec_l01In_run (w64 ((w64 ((w64 (aP.X - aA.X)) * (w64 (aB.X - aA.X)))) + (w64 ((w64 (aP.Y - aA.Y)) * (w64 (aB.Y - aA.Y)))))) 0 x1 _ hx3)) ?_
  refine SRun.ck tbok 1 ⟨59, [(7, vi x1), (9, vi x2), (49, vb x3)], []⟩ ?_
  refine SRun.cu [(49, fun b => b)] h (fun h => ?_) fun h => ?_
  refine SRun.ck tbok 10 ⟨59, [(6, vb (decide ((w64 ((w64 (16 * x2)) * x2)) ≤ (w64 (x1 * x1)))))], []⟩ ?_
  refine SRun.nil ?_
  obtain rfl := inj h
  exact Le.sub0
  refine SRun.ck tbok 10 ⟨59, [(6, vb false)], []⟩ ?_
  refine SRun.nil ?_
  obtain rfl := inj h
  exact Le.sub0
  refine swp_ret ?_
  obtain rfl := inj h
  exact q_fr (f1 fv)
theorem ents96 : Ents Tryz.prog 96 := ents_of Tryz.func96 (by kernel_rfl) rfl
noncomputable def spec_l29Satisfies (aList : (List Site)) (aD : Description) (aP : Point) : Option (Bool) :=
  ((spec_l29Find aList aD.A).bind fun x1 => ((at' aList x1).bind fun x2 => ((spec_l15Squared x2.At aP).bind fun x3 => (((bif (aD.Kind == 0) then some (.inr ((aP.X == x2.At.X) && (aP.Y == x2.At.Y))) else (bif (aD.Kind == 1) then some (.inr (decide (x3 ≤ 64))) else (bif (aD.Kind == 2) then ((spec_l28Unit aD.Unit aD.Count).bind fun x6 => (bif ((decide ((w64 (16 * x3)) < (w64 ((w64 (9 * (w64 (aD.Count * x6)))) * (w64 (aD.Count * x6)))))) || ((decide ((w64 (16 * x3)) > (w64 ((w64 (25 * (w64 (aD.Count * x6)))) * (w64 (aD.Count * x6)))))) || ((aP.X == x2.At.X) && (aP.Y == x2.At.Y)))) then some (.inr false) else ((spec_l15Direction x2.At aP).bind fun x7 => ((spec_l01Mod (w64 (x7 - aD.Direction)) 8).bind fun x8 => some (.inr ((x8 == 0) || ((x8 == 1) || (x8 == 7)))))))) else some (.inl ()))))).bind (Sum.elim (fun (_ : Unit) => ((spec_l29Find aList aD.B).bind fun x9 => ((at' aList x9).bind fun x10 => ((spec_l29Between x2.At x10.At aP).bind fun x11 => some x11)))) some)))))
theorem spec_l29Satisfies_run (aList : (List Site)) (aD : Description) (aP : Point) (r : Bool) (h : spec_l29Satisfies aList aD aP = some r) : SCall Tryz.prog 52 [.v (vl eSite aList), .v (.agg (tc eDescription aD)), .v (.agg (tc ePoint aP))] ⟨[.v (vb r)], [], false⟩ := by
  refine scall_in Tryz.func52 rfl [(.tmp 6)] rfl (fun r => ⟨[.v (vb r)], [], false⟩) (r := r) ?_
  unfold spec_l29Satisfies at h
  refine srk tbok ⟨92, [(0, vl eSite aList), (4, .ref 4 0), (5, .ref 5 0)], [(4, .box (tc eDescription aD)), (5, .box (tc ePoint aP))]⟩ ?_
  refine sr ?_
  refine SRun.ck tbok 4 ⟨92, [(0, vl eSite aList), (4, .ref 4 0), (5, .ref 5 0), (11, vl eSite aList), (12, vl eSite aList), (14, vs aD.A)], [(4, .box (tc eDescription aD)), (5, .box (tc ePoint aP))]⟩ ?_
  obtain ⟨x1, hx1, h⟩ := bind_some h
  refine SRun.ls (xc ents91 (spec_l29Find_run aList aD.A _ hx1)) ?_
  obtain ⟨x2, hx2, h⟩ := bind_some h
  refine SRun.ls (x_index (L := aList) (f := eSite) (ti := ti33) (tj := ti92) (e := 92) (k := .i64) tbok rfl hx2) ?_
  refine ckn tbok 4 ⟨92, [(0, vl eSite aList), (4, .ref 4 0), (5, .ref 5 0), (7, .ref 7 0)], [(4, .box (tc eDescription aD)), (5, .box (tc ePoint aP)), (7, .box (tc ePoint x2.At))]⟩ ?_
  refine sr ?_
  refine SRun.ck tbok 2 ⟨92, [(0, vl eSite aList), (4, .ref 4 0), (5, .ref 5 0), (7, .ref 7 0), (19, .agg (tc ePoint x2.At)), (20, .agg (tc ePoint aP))], [(4, .box (tc eDescription aD)), (5, .box (tc ePoint aP)), (7, .box (tc ePoint x2.At))]⟩ ?_
  obtain ⟨x3, hx3, h⟩ := bind_some h
  refine SRun.ls (xc ents92 (spec_l15Squared_run x2.At aP _ hx3)) ?_
  refine ckn tbok 1 ⟨92, [(0, vl eSite aList), (4, .ref 4 0), (5, .ref 5 0), (7, .ref 7 0), (8, vi x3)], [(4, .box (tc eDescription aD)), (5, .box (tc ePoint aP)), (7, .box (tc ePoint x2.At))]⟩ ?_
  refine swp_seq ?_
  refine srk tbok ⟨92, [(0, vl eSite aList), (4, .ref 4 0), (5, .ref 5 0), (7, .ref 7 0), (8, vi x3), (23, vi aD.Kind)], [(4, .box (tc eDescription aD)), (5, .box (tc ePoint aP)), (7, .box (tc ePoint x2.At))]⟩ ?_
  refine swp_seqE (r := r) h (fun j4 => ⟨92, [(0, vl eSite aList), (4, .ref 4 0), (5, .ref 5 0), (7, .ref 7 0)], [(4, .box (tc eDescription aD)), (5, .box (tc ePoint aP)), (7, .box (tc ePoint x2.At))]⟩) (fun v5 h => ?_) (fun j4 h => ?_)
  refine swp_blk (a := v5) ?_
  refine srk tbok ⟨92, [(0, vl eSite aList), (4, .ref 4 0), (5, .ref 5 0), (7, .ref 7 0), (8, vi x3), (23, vi aD.Kind), (24, vb (aD.Kind == 0))], [(4, .box (tc eDescription aD)), (5, .box (tc ePoint aP)), (7, .box (tc ePoint x2.At))]⟩ ?_
  refine swp_cd h (fun h => ?_) fun h => ?_
  refine sr ?_
  refine SRun.ck tbok 2 ⟨92, [(26, .agg (tc ePoint aP)), (27, .agg (tc ePoint x2.At))], []⟩ ?_
  refine SRun.ls (x_lstep_eq tbok false (xs := [vi aP.X, vi aP.Y]) (ys := [vi x2.At.X, vi x2.At.Y]) (b := ((aP.X == x2.At.X) && (aP.Y == x2.At.Y))) rfl) ?_
  refine ckn tbok 1 ⟨92, [(6, vb ((aP.X == x2.At.X) && (aP.Y == x2.At.Y)))], []⟩ ?_
  refine swp_ret ?_
  obtain rfl := inj h
  exact q_br (q_rr (q_fr (f1 fv)))
  refine srk tbok ⟨92, [(0, vl eSite aList), (4, .ref 4 0), (5, .ref 5 0), (7, .ref 7 0), (8, vi x3), (23, vi aD.Kind), (29, vb (aD.Kind == 1))], [(4, .box (tc eDescription aD)), (5, .box (tc ePoint aP)), (7, .box (tc ePoint x2.At))]⟩ ?_
  refine swp_cd h (fun h => ?_) fun h => ?_
  refine srk tbok ⟨92, [(6, vb (decide (x3 ≤ 64)))], []⟩ ?_
  refine swp_ret ?_
  obtain rfl := inj h
  exact q_br (q_rr (q_fr (f1 fv)))
  refine srk tbok ⟨92, [(0, vl eSite aList), (4, .ref 4 0), (5, .ref 5 0), (7, .ref 7 0), (8, vi x3), (33, vb (aD.Kind == 2))], [(4, .box (tc eDescription aD)), (5, .box (tc ePoint aP)), (7, .box (tc ePoint x2.At))]⟩ ?_
  refine swp_cd h (fun h => ?_) fun h => ?_
  refine swp_seq ?_
  refine swp_dr mixed ?_
  refine DGo.ck tbok false 6 ⟨92, [(4, .ref 4 0), (5, .ref 5 0), (7, .ref 7 0), (8, vi x3), (36, vi aD.Count), (38, vs aD.Unit), (40, vi aD.Count)], [(4, .box (tc eDescription aD)), (5, .box (tc ePoint aP)), (7, .box (tc ePoint x2.At))]⟩ ?_
  obtain ⟨x6, hx6, h⟩ := bind_some h
  refine DGo.step (xc ents93 (spec_l28Unit_run aD.Unit aD.Count _ hx6)) ?_
  refine DGo.ck tbok false 2 ⟨92, [(4, .ref 4 0), (5, .ref 5 0), (7, .ref 7 0), (8, vi x3), (9, vi (w64 (aD.Count * x6)))], [(4, .box (tc eDescription aD)), (5, .box (tc ePoint aP)), (7, .box (tc ePoint x2.At))]⟩ ?_
  refine DGo.nx ?_
  refine swp_seq ?_
  refine swp_seq ?_
  refine swp_regP ⟨92, [(4, .ref 4 0), (5, .ref 5 0), (7, .ref 7 0), (63, vb ((decide ((w64 (16 * x3)) < (w64 ((w64 (9 * (w64 (aD.Count * x6)))) * (w64 (aD.Count * x6)))))) || ((decide ((w64 (16 * x3)) > (w64 ((w64 (25 * (w64 (aD.Count * x6)))) * (w64 (aD.Count * x6)))))) || ((aP.X == x2.At.X) && (aP.Y == x2.At.Y)))))], [(4, .box (tc eDescription aD)), (5, .box (tc ePoint aP)), (7, .box (tc ePoint x2.At))]⟩ ?_ ?_
  refine SRun.ck tbok 8 ⟨92, [(4, .ref 4 0), (5, .ref 5 0), (7, .ref 7 0), (8, vi x3), (9, vi (w64 (aD.Count * x6))), (50, vb (decide ((w64 (16 * x3)) < (w64 ((w64 (9 * (w64 (aD.Count * x6)))) * (w64 (aD.Count * x6)))))))], [(4, .box (tc eDescription aD)), (5, .box (tc ePoint aP)), (7, .box (tc ePoint x2.At))]⟩ ?_
  generalize (decide ((w64 (16 * x3)) < (w64 ((w64 (9 * (w64 (aD.Count * x6)))) * (w64 (aD.Count * x6)))))) = bb
  cases bb
  refine SRun.ck tbok 9 ⟨92, [(4, .ref 4 0), (5, .ref 5 0), (7, .ref 7 0), (59, vb (decide ((w64 (16 * x3)) > (w64 ((w64 (25 * (w64 (aD.Count * x6)))) * (w64 (aD.Count * x6)))))))], [(4, .box (tc eDescription aD)), (5, .box (tc ePoint aP)), (7, .box (tc ePoint x2.At))]⟩ ?_
  generalize (decide ((w64 (16 * x3)) > (w64 ((w64 (25 * (w64 (aD.Count * x6)))) * (w64 (aD.Count * x6)))))) = bb
  cases bb
  refine SRun.ck tbok 2 ⟨92, [(4, .ref 4 0), (5, .ref 5 0), (7, .ref 7 0), (59, vb false), (60, .agg (tc ePoint aP)), (61, .agg (tc ePoint x2.At))], [(4, .box (tc eDescription aD)), (5, .box (tc ePoint aP)), (7, .box (tc ePoint x2.At))]⟩ ?_
  refine SRun.ls (x_lstep_eq tbok false (xs := [vi aP.X, vi aP.Y]) (ys := [vi x2.At.X, vi x2.At.Y]) (b := ((aP.X == x2.At.X) && (aP.Y == x2.At.Y))) rfl) ?_
  refine SRun.ck tbok 1 ⟨92, [(4, .ref 4 0), (5, .ref 5 0), (7, .ref 7 0), (63, vb ((aP.X == x2.At.X) && (aP.Y == x2.At.Y)))], [(4, .box (tc eDescription aD)), (5, .box (tc ePoint aP)), (7, .box (tc ePoint x2.At))]⟩ ?_
  exact SRun.nil (Le.sub0)
  refine SRun.ck tbok 4 ⟨92, [(4, .ref 4 0), (5, .ref 5 0), (7, .ref 7 0), (63, vb true)], [(4, .box (tc eDescription aD)), (5, .box (tc ePoint aP)), (7, .box (tc ePoint x2.At))]⟩ ?_
  exact SRun.nil (Le.sub0)
  refine SRun.ck tbok 13 ⟨92, [(4, .ref 4 0), (5, .ref 5 0), (7, .ref 7 0), (63, vb true)], [(4, .box (tc eDescription aD)), (5, .box (tc ePoint aP)), (7, .box (tc ePoint x2.At))]⟩ ?_
  exact SRun.nil (Le.sub0)
  refine swp_cd h (fun h => ?_) fun h => ?_
  refine srk tbok ⟨92, [(6, vb false)], []⟩ ?_
  refine swp_ret ?_
  obtain rfl := inj h
  exact nx_r (q_br (q_rr (q_fr (f1 fv))))
  refine swp_skip ?_
  refine nx_n ?_
  refine swp_seq ?_
  refine swp_dr mixed ?_
  refine DGo.ck tbok false 2 ⟨92, [(4, .ref 4 0), (64, .agg (tc ePoint x2.At)), (65, .agg (tc ePoint aP))], [(4, .box (tc eDescription aD))]⟩ ?_
  obtain ⟨x7, hx7, h⟩ := bind_some h
  refine DGo.step (xc ents95 (spec_l15Direction_run x2.At aP _ hx7)) ?_
  refine DGo.ck tbok false 3 ⟨92, [(69, vi (w64 (x7 - aD.Direction)))], []⟩ ?_
  obtain ⟨x8, hx8, h⟩ := bind_some h
  refine DGo.step (xc ents94 (spec_l01Mod_run (w64 (x7 - aD.Direction)) 8 _ hx8)) ?_
  refine DGo.ck tbok false 1 ⟨92, [(10, vi x8)], []⟩ ?_
  refine DGo.nx ?_
  refine swp_seq ?_
  refine swp_regP ⟨92, [(6, vb ((x8 == 0) || ((x8 == 1) || (x8 == 7))))], []⟩ ?_ ?_
  refine SRun.ck tbok 3 ⟨92, [(10, vi x8), (73, vb (x8 == 0))], []⟩ ?_
  generalize (x8 == 0) = bb
  cases bb
  refine SRun.ck tbok 4 ⟨92, [(10, vi x8), (77, vb (x8 == 1))], []⟩ ?_
  generalize (x8 == 1) = bb
  cases bb
  refine SRun.ck tbok 4 ⟨92, [(6, vb (x8 == 7))], []⟩ ?_
  exact SRun.nil (Le.sub0)
  refine SRun.ck tbok 4 ⟨92, [(6, vb true)], []⟩ ?_
  exact SRun.nil (Le.sub0)
  refine SRun.ck tbok 8 ⟨92, [(6, vb true)], []⟩ ?_
  exact SRun.nil (Le.sub0)
  refine swp_ret ?_
  obtain rfl := inj h
  exact q_br (q_rr (q_fr (f1 fv)))
  refine swp_skip ?_
  obtain rfl := inj h
  exact q_bn (q_l (Le.sub0))
  refine swp_seq ?_
  refine swp_dr mixed ?_
  refine DGo.ck tbok false 5 ⟨92, [(5, .ref 5 0), (81, .agg (tc ePoint x2.At)), (82, vl eSite aList), (83, vl eSite aList), (85, vs aD.B)], [(5, .box (tc ePoint aP))]⟩ ?_
  obtain ⟨x9, hx9, h⟩ := bind_some h
  refine DGo.step (xc ents91 (spec_l29Find_run aList aD.B _ hx9)) ?_
  obtain ⟨x10, hx10, h⟩ := bind_some h
  refine DGo.step (x_index (L := aList) (f := eSite) (ti := ti33) (tj := ti92) (e := 92) (k := .i64) tbok rfl hx10) ?_
  refine DGo.ck tbok false 3 ⟨92, [(81, .agg (tc ePoint x2.At)), (89, .agg (tc ePoint x10.At)), (90, .agg (tc ePoint aP))], []⟩ ?_
  obtain ⟨x11, hx11, h⟩ := bind_some h
  refine DGo.step (xc ents96 (spec_l29Between_run x2.At x10.At aP _ hx11)) ?_
  refine DGo.ck tbok false 1 ⟨92, [(6, vb x11)], []⟩ ?_
  refine DGo.nx ?_
  refine swp_ret ?_
  obtain rfl := inj h
  exact q_fr (f1 fv)
theorem ents52 : Ents Tryz.prog 52 := ents_of Tryz.func52 (by kernel_rfl) rfl
noncomputable def impl_within (aX : Int) (aLow : Int) (aHigh : Int) : Option (Bool) :=
  some ((decide (aX ≥ aLow)) && (decide (aX ≤ aHigh)))
theorem impl_within_run (aX : Int) (aLow : Int) (aHigh : Int) (r : Bool) (h : impl_within aX aLow aHigh = some r) : SCall Tryz.prog 135 [.v (vi aX), .v (vi aLow), .v (vi aHigh)] ⟨[.v (vb r)], [], false⟩ := by
  refine scall_in Tryz.func135 rfl [(.tmp 6)] rfl (fun r => ⟨[.v (vb r)], [], false⟩) (r := r) ?_
  unfold impl_within at h
  refine srk tbok ⟨15, [(0, vi aX), (1, vi aLow), (2, vi aHigh)], []⟩ ?_
  refine swp_seq ?_
  refine swp_regP ⟨15, [(6, vb ((decide (aX ≥ aLow)) && (decide (aX ≤ aHigh))))], []⟩ ?_ ?_
  refine SRun.ck tbok 4 ⟨15, [(0, vi aX), (2, vi aHigh), (10, vb (decide (aX ≥ aLow)))], []⟩ ?_
  generalize (decide (aX ≥ aLow)) = bb
  cases bb
  refine SRun.ck tbok 5 ⟨15, [(6, vb false)], []⟩ ?_
  exact SRun.nil (Le.sub0)
  refine SRun.ck tbok 5 ⟨15, [(6, vb (decide (aX ≤ aHigh)))], []⟩ ?_
  exact SRun.nil (Le.sub0)
  refine swp_ret ?_
  obtain rfl := inj h
  exact q_fr (f1 fv)
theorem ents135 : Ents Tryz.prog 135 := ents_of Tryz.func135 (by kernel_rfl) rfl
theorem strings_Trim_run (s c r : ByteArray) (h : strings_Trim s c = some r) : SCall Tryz.prog 163 [.v (.tr (.str s)), .v (.tr (.str c))] ⟨[.v (.tr (.str r))], [], false⟩ := trim_run Tryz.lays160 (by kernel_rfl) 163 rfl s c r h
theorem ents163 : Ents Tryz.prog 163 := ents_of Tryz.func163 (by kernel_rfl) rfl
noncomputable def impl_isSmall (aS : ByteArray) (aLeast : Int) (aMost : Int) : Option (Bool) :=
  ((((impl_within (aS.size : Int) aLeast aMost).bind fun x1 => (bif x1 then ((strings_Trim aS (ByteArray.mk #[97, 98, 99, 100, 101, 102, 103, 104, 105, 106, 107, 108, 109, 110, 111, 112, 113, 114, 115, 116, 117, 118, 119, 120, 121, 122])).bind fun x2 => some (x2.toList == (ByteArray.mk #[]).toList)) else some false))).bind fun (j3 : Bool) => some j3)
theorem impl_isSmall_run (aS : ByteArray) (aLeast : Int) (aMost : Int) (r : Bool) (h : impl_isSmall aS aLeast aMost = some r) : SCall Tryz.prog 133 [.v (vs aS), .v (vi aLeast), .v (vi aMost)] ⟨[.v (vb r)], [], false⟩ := by
  refine scall_in Tryz.func133 rfl [(.tmp 6)] rfl (fun r => ⟨[.v (vb r)], [], false⟩) (r := r) ?_
  unfold impl_isSmall at h
  refine srk tbok ⟨17, [(0, vs aS), (1, vi aLeast), (2, vi aMost)], []⟩ ?_
  refine swp_seq ?_
  refine swp_regJ h (fun j3 => ⟨17, [(6, vb j3)], []⟩) (fun v4 h => ?_) (fun j3 h => ?_)
  refine SRun.ck tbok 4 ⟨17, [(0, vs aS), (8, vi (aS.size : Int)), (9, vi aLeast), (10, vi aMost)], []⟩ ?_
  obtain ⟨x1, hx1, h⟩ := bind_some h
  refine SRun.ls (xc ents135 (impl_within_run (aS.size : Int) aLeast aMost _ hx1)) ?_
  refine SRun.ck tbok 1 ⟨17, [(0, vs aS), (12, vb x1)], []⟩ ?_
  refine SRun.cu [(12, fun b => b)] h (fun h => ?_) fun h => ?_
  refine SRun.ck tbok 1 ⟨17, [(12, vb true), (13, vs aS)], []⟩ ?_
  obtain ⟨x2, hx2, h⟩ := bind_some h
  refine SRun.ls (xc ents163 (strings_Trim_run aS (ByteArray.mk #[97, 98, 99, 100, 101, 102, 103, 104, 105, 106, 107, 108, 109, 110, 111, 112, 113, 114, 115, 116, 117, 118, 119, 120, 121, 122]) _ hx2)) ?_
  refine SRun.ck tbok 3 ⟨17, [(6, vb (x2.toList == (ByteArray.mk #[]).toList))], []⟩ ?_
  refine SRun.nil ?_
  obtain rfl := inj h
  exact Le.sub0
  refine SRun.ck tbok 5 ⟨17, [(6, vb false)], []⟩ ?_
  refine SRun.nil ?_
  obtain rfl := inj h
  exact Le.sub0
  refine swp_ret ?_
  obtain rfl := inj h
  exact q_fr (f1 fv)
theorem ents133 : Ents Tryz.prog 133 := ents_of Tryz.func133 (by kernel_rfl) rfl
noncomputable def impl_IsWord (aS : ByteArray) : Option (Bool) :=
  ((impl_isSmall aS 1 16).bind fun x1 => some x1)
theorem impl_IsWord_run (aS : ByteArray) (r : Bool) (h : impl_IsWord aS = some r) : SCall Tryz.prog 86 [.v (vs aS)] ⟨[.v (vb r)], [], false⟩ := by
  refine scall_in Tryz.func86 rfl [(.tmp 2)] rfl (fun r => ⟨[.v (vb r)], [], false⟩) (r := r) ?_
  unfold impl_IsWord at h
  refine srk tbok ⟨5, [(0, vs aS)], []⟩ ?_
  refine sr ?_
  refine SRun.ck tbok 1 ⟨5, [(3, vs aS)], []⟩ ?_
  obtain ⟨x1, hx1, h⟩ := bind_some h
  refine SRun.ls (xc ents133 (impl_isSmall_run aS 1 16 _ hx1)) ?_
  refine ckn tbok 1 ⟨5, [(2, vb x1)], []⟩ ?_
  refine swp_ret ?_
  obtain rfl := inj h
  exact q_fr (f1 fv)
theorem ents86 : Ents Tryz.prog 86 := ents_of Tryz.func86 (by kernel_rfl) rfl
theorem strings_Split_run (s c : ByteArray) (r : List ByteArray) (h : strings_Split s c = some r) : SCall Tryz.prog 155 [.v (.tr (.str s)), .v (.tr (.str c))] ⟨[.own 9 1 r.length (r.map eS)], [], false⟩ := split_run Tryz.lays146 (by kernel_rfl) 155 9 rfl rfl s c r h
theorem ents155 : Ents Tryz.prog 155 := ents_of Tryz.func155 (by kernel_rfl) rfl
noncomputable def impl_wordsOf (aS : ByteArray) : Option ((List ByteArray)) :=
  ((strings_Split aS (ByteArray.mk #[32])).bind fun x1 => some x1)
theorem impl_wordsOf_run (aS : ByteArray) (r : (List ByteArray)) (h : impl_wordsOf aS = some r) : SCall Tryz.prog 119 [.v (vs aS)] ⟨[.own 9 1 r.length (r.map eS)], [], false⟩ := by
  refine scall_in Tryz.func119 rfl [(.tmp 2)] rfl (fun r => ⟨[.own 9 1 r.length (r.map eS)], [], false⟩) (r := r) ?_
  unfold impl_wordsOf at h
  refine srk tbok ⟨5, [(0, vs aS)], []⟩ ?_
  refine sr ?_
  refine SRun.ck tbok 1 ⟨5, [(3, vs aS)], []⟩ ?_
  obtain ⟨x1, hx1, h⟩ := bind_some h
  refine SRun.ls (xc ents155 (strings_Split_run aS (ByteArray.mk #[32]) _ hx1)) ?_
  refine ckn tbok 1 ⟨5, [(2, .own 4)], [(4, oa 9 1 eS x1)]⟩ ?_
  refine swp_ret ?_
  obtain rfl := inj h
  exact q_fr (f1 (fo eS_flat))
theorem ents119 : Ents Tryz.prog 119 := ents_of Tryz.func119 (by kernel_rfl) rfl
noncomputable def impl_areWords (aList : (List ByteArray)) : Option (Bool) :=
  (((forN (aList.length : Int) (fun (i3 : Int) (_ : Unit) => ((at' aList i3).bind fun x7 => ((impl_IsWord x7).bind fun x8 => (bif (!x8) then some (.inr (.inr false)) else some (.inl ()))))) (fun (_ : Unit) => .inl ()) 0 ())).bind (Sum.elim (fun (_ : Unit) => some true) some))
theorem impl_areWords_run (aList : (List ByteArray)) (r : Bool) (h : impl_areWords aList = some r) : SCall Tryz.prog 134 [.v (vl eS aList)] ⟨[.v (vb r)], [], false⟩ := by
  refine scall_in Tryz.func134 rfl [(.tmp 2)] rfl (fun r => ⟨[.v (vb r)], [], false⟩) (r := r) ?_
  unfold impl_areWords at h
  refine srk tbok ⟨15, [(0, vl eS aList)], []⟩ ?_
  refine swp_seq ?_
  refine srk tbok ⟨15, [(5, vl eS aList), (6, vi (aList.length : Int)), (7, vi 0)], []⟩ ?_
  refine swp_seqE (r := r) h (fun j1 => ⟨15, [], []⟩) (fun v2 h => ?_) (fun j1 h => ?_)
  refine swp_blk (a := v2) ?_
  refine swp_lpL (r := v2) (s := (0, ())) _ (fun s3 => ⟨15, [(5, vl eS aList), (6, vi (aList.length : Int)), (7, vi s3.1)], []⟩) _ (Le.sub0) h (fun s3 v4 h => ?_)
  refine srk tbok ⟨15, [(5, vl eS aList), (6, vi (aList.length : Int)), (7, vi s3.1), (8, vb (decide (s3.1 < (aList.length : Int))))], []⟩ ?_
  refine swp_seq ?_
  refine swp_cd h (fun h => ?_) fun h => ?_
  refine swp_skip ?_
  refine nx_n ?_
  refine swp_seq ?_
  refine swp_seqL (r := v4) h (fun j5 => ⟨15, [(5, vl eS aList), (6, vi (aList.length : Int)), (7, vi s3.1)], []⟩) (fun v6 h => ?_) (fun j5 h => ?_)
  refine swp_blk (a := v6) ?_
  refine sr ?_
  obtain ⟨x7, hx7, h⟩ := bind_some h
  refine SRun.ls (x_index (L := aList) (f := eS) (ti := ti28) (tj := ti9) (e := 9) (k := .i64) tbok rfl hx7) ?_
  refine ckn tbok 2 ⟨15, [(4, vs x7), (5, vl eS aList), (6, vi (aList.length : Int)), (7, vi s3.1)], []⟩ ?_
  refine sr ?_
  refine SRun.ck tbok 1 ⟨15, [(5, vl eS aList), (6, vi (aList.length : Int)), (7, vi s3.1), (11, vs x7)], []⟩ ?_
  obtain ⟨x8, hx8, h⟩ := bind_some h
  refine SRun.ls (xc ents86 (impl_IsWord_run x7 _ hx8)) ?_
  refine ckn tbok 1 ⟨15, [(5, vl eS aList), (6, vi (aList.length : Int)), (7, vi s3.1), (13, vb (!x8))], []⟩ ?_
  refine swp_cd h (fun h => ?_) fun h => ?_
  refine srk tbok ⟨15, [(2, vb false)], []⟩ ?_
  refine swp_ret ?_
  obtain rfl := inj h
  exact q_br (q_rr (q_rr (q_br (q_rr (q_fr (f1 fv))))))
  refine swp_skip ?_
  obtain rfl := inj h
  exact q_bn (q_l (Le.sub0))
  refine swp_reg ?_
  refine SRun.ck tbok 2 ⟨15, [(5, vl eS aList), (6, vi (aList.length : Int)), (7, vi (w64 (s3.1 + 1)))], []⟩ ?_
  refine SRun.nil ?_
  obtain rfl := inj h
  exact q_l (Le.sub0)
  refine swp_exit ?_
  obtain rfl := inj h
  exact nx_e (q_re (q_bh (q_l (Le.sub0))))
  refine srk tbok ⟨15, [(2, vb true)], []⟩ ?_
  refine swp_ret ?_
  obtain rfl := inj h
  exact q_fr (f1 fv)
theorem ents134 : Ents Tryz.prog 134 := ents_of Tryz.func134 (by kernel_rfl) rfl
noncomputable def impl_IsPhrase (aS : ByteArray) : Option (Bool) :=
  ((impl_wordsOf aS).bind fun x1 => (((bif (decide ((x1.length : Int) ≤ 8)) then ((impl_areWords x1).bind fun x2 => some x2) else some false)).bind fun (j3 : Bool) => some j3))
theorem impl_IsPhrase_run (aS : ByteArray) (r : Bool) (h : impl_IsPhrase aS = some r) : SCall Tryz.prog 87 [.v (vs aS)] ⟨[.v (vb r)], [], false⟩ := by
  refine scall_in Tryz.func87 rfl [(.tmp 2)] rfl (fun r => ⟨[.v (vb r)], [], false⟩) (r := r) ?_
  unfold impl_IsPhrase at h
  refine srk tbok ⟨13, [(0, vs aS)], []⟩ ?_
  refine sr ?_
  refine SRun.ck tbok 1 ⟨13, [(4, vs aS)], []⟩ ?_
  obtain ⟨x1, hx1, h⟩ := bind_some h
  refine SRun.ls (xc ents119 (impl_wordsOf_run aS _ hx1)) ?_
  refine ckn tbok 1 ⟨13, [(3, .own 5)], [(5, oa 9 1 eS x1)]⟩ ?_
  refine swp_seq ?_
  refine swp_regJ h (fun j3 => ⟨13, [(2, vb j3)], []⟩) (fun v4 h => ?_) (fun j3 h => ?_)
  refine SRun.ck tbok 4 ⟨13, [(3, .own 5), (9, vb (decide ((x1.length : Int) ≤ 8)))], [(5, oa 9 1 eS x1)]⟩ ?_
  refine SRun.cu [(9, fun b => b)] h (fun h => ?_) fun h => ?_
  refine SRun.ck tbok 1 ⟨13, [(9, vb true), (10, .own 5)], [(5, oa 9 1 eS x1)]⟩ ?_
  obtain ⟨x2, hx2, h⟩ := bind_some h
  refine SRun.ls (xc ents134 (impl_areWords_run x1 _ hx2)) ?_
  refine SRun.ck tbok 2 ⟨13, [(2, vb x2)], []⟩ ?_
  refine SRun.nil ?_
  obtain rfl := inj h
  exact Le.sub0
  refine SRun.ck tbok 4 ⟨13, [(2, vb false)], []⟩ ?_
  refine SRun.nil ?_
  obtain rfl := inj h
  exact Le.sub0
  refine swp_ret ?_
  obtain rfl := inj h
  exact q_fr (f1 fv)
theorem ents87 : Ents Tryz.prog 87 := ents_of Tryz.func87 (by kernel_rfl) rfl
noncomputable def impl_IsPoint (aP : Point) : Option (Bool) :=
  ((((impl_within aP.X (-1000) 1000).bind fun x1 => (bif x1 then ((impl_within aP.Y (-1000) 1000).bind fun x2 => some x2) else some false))).bind fun (j3 : Bool) => some j3)
theorem impl_IsPoint_run (aP : Point) (r : Bool) (h : impl_IsPoint aP = some r) : SCall Tryz.prog 88 [.v (.agg (tc ePoint aP))] ⟨[.v (vb r)], [], false⟩ := by
  refine scall_in Tryz.func88 rfl [(.tmp 2)] rfl (fun r => ⟨[.v (vb r)], [], false⟩) (r := r) ?_
  unfold impl_IsPoint at h
  refine srk tbok ⟨11, [(1, .ref 1 0)], [(1, .box (tc ePoint aP))]⟩ ?_
  refine swp_seq ?_
  refine swp_regJ h (fun j3 => ⟨11, [(2, vb j3)], []⟩) (fun v4 h => ?_) (fun j3 h => ?_)
  refine SRun.ck tbok 2 ⟨11, [(1, .ref 1 0), (4, vi aP.X)], [(1, .box (tc ePoint aP))]⟩ ?_
  obtain ⟨x1, hx1, h⟩ := bind_some h
  refine SRun.ls (xc ents135 (impl_within_run aP.X (-1000) 1000 _ hx1)) ?_
  refine SRun.ck tbok 1 ⟨11, [(1, .ref 1 0), (6, vb x1)], [(1, .box (tc ePoint aP))]⟩ ?_
  refine SRun.cu [(6, fun b => b)] h (fun h => ?_) fun h => ?_
  refine SRun.ck tbok 2 ⟨11, [(6, vb true), (8, vi aP.Y)], []⟩ ?_
  obtain ⟨x2, hx2, h⟩ := bind_some h
  refine SRun.ls (xc ents135 (impl_within_run aP.Y (-1000) 1000 _ hx2)) ?_
  refine SRun.ck tbok 2 ⟨11, [(2, vb x2)], []⟩ ?_
  refine SRun.nil ?_
  obtain rfl := inj h
  exact Le.sub0
  refine SRun.ck tbok 5 ⟨11, [(2, vb false)], []⟩ ?_
  refine SRun.nil ?_
  obtain rfl := inj h
  exact Le.sub0
  refine swp_ret ?_
  obtain rfl := inj h
  exact q_fr (f1 fv)
theorem ents88 : Ents Tryz.prog 88 := ents_of Tryz.func88 (by kernel_rfl) rfl
noncomputable def impl_findCandidate_1 (aC : Candidate) (c0 : ByteArray) : Option (Bool) :=
  some (aC.Code.toList == c0.toList)
theorem impl_findCandidate_1_run (aC : Candidate) (c0 : ByteArray) (r : Bool) (h : impl_findCandidate_1 aC c0 = some r) : SCall Tryz.prog 107 [.v (.agg (tc eCandidate aC)), .v (.ptr [vs c0] 0)] ⟨[.v (vb r)], [], false⟩ := by
  refine scall_in Tryz.func107 rfl [(.tmp 3)] rfl (fun r => ⟨[.v (vb r)], [], false⟩) (r := r) ?_
  unfold impl_findCandidate_1 at h
  refine srk tbok ⟨8, [(1, .ptr [vs c0] 0), (2, .ref 2 0)], [(2, .box (tc eCandidate aC))]⟩ ?_
  refine srk tbok ⟨8, [(3, vb (aC.Code.toList == c0.toList))], []⟩ ?_
  refine swp_ret ?_
  obtain rfl := inj h
  exact q_fr (f1 fv)
theorem ents107 : Ents Tryz.prog 107 := ents_of Tryz.func107 (by kernel_rfl) rfl
noncomputable def slices_IndexFunc_Candidate_impl_findCandidate_1 (aS : (List Candidate)) (aF0 : ByteArray) : Option (Int) :=
  (((forN (aS.length : Int) (fun (i3 : Int) (_ : Unit) => ((at' aS i3).bind fun x7 => ((impl_findCandidate_1 x7 aF0).bind fun x8 => (bif x8 then some (.inr (.inr i3)) else some (.inl ()))))) (fun (_ : Unit) => .inl ()) 0 ())).bind (Sum.elim (fun (_ : Unit) => some (-1)) some))
theorem slices_IndexFunc_Candidate_impl_findCandidate_1_run (aS : (List Candidate)) (aF0 : ByteArray) (r : Int) (h : slices_IndexFunc_Candidate_impl_findCandidate_1 aS aF0 = some r) : SCall Tryz.prog 106 [.v (vl eCandidate aS), .v (.clo 107 [.ptr [vs aF0] 0])] ⟨[.v (vi r)], [], false⟩ := by
  refine scall_in Tryz.func106 rfl [(.tmp 4)] rfl (fun r => ⟨[.v (vi r)], [], false⟩) (r := r) ?_
  unfold slices_IndexFunc_Candidate_impl_findCandidate_1 at h
  refine srk tbok ⟨19, [(0, vl eCandidate aS), (1, .clo 107 [.ptr [vs aF0] 0])], []⟩ ?_
  refine swp_seq ?_
  refine srk tbok ⟨19, [(0, vl eCandidate aS), (1, .clo 107 [.ptr [vs aF0] 0]), (7, vi (aS.length : Int)), (8, vi 0)], []⟩ ?_
  refine swp_seqE (r := r) h (fun j1 => ⟨19, [], []⟩) (fun v2 h => ?_) (fun j1 h => ?_)
  refine swp_blk (a := v2) ?_
  refine swp_lpL (r := v2) (s := (0, ())) _ (fun s3 => ⟨19, [(0, vl eCandidate aS), (1, .clo 107 [.ptr [vs aF0] 0]), (7, vi (aS.length : Int)), (8, vi s3.1)], []⟩) _ (Le.sub0) h (fun s3 v4 h => ?_)
  refine srk tbok ⟨19, [(0, vl eCandidate aS), (1, .clo 107 [.ptr [vs aF0] 0]), (7, vi (aS.length : Int)), (8, vi s3.1), (9, vb (decide (s3.1 < (aS.length : Int))))], []⟩ ?_
  refine swp_seq ?_
  refine swp_cd h (fun h => ?_) fun h => ?_
  refine swp_skip ?_
  refine nx_n ?_
  refine swp_seq ?_
  refine swp_seqL (r := v4) h (fun j5 => ⟨19, [(0, vl eCandidate aS), (1, .clo 107 [.ptr [vs aF0] 0]), (7, vi (aS.length : Int)), (8, vi s3.1)], []⟩) (fun v6 h => ?_) (fun j5 h => ?_)
  refine swp_blk (a := v6) ?_
  refine srk tbok ⟨19, [(0, vl eCandidate aS), (1, .clo 107 [.ptr [vs aF0] 0]), (5, vi s3.1), (7, vi (aS.length : Int)), (8, vi s3.1)], []⟩ ?_
  refine sr ?_
  refine SRun.ck tbok 3 ⟨19, [(0, vl eCandidate aS), (1, .clo 107 [.ptr [vs aF0] 0]), (5, vi s3.1), (7, vi (aS.length : Int)), (8, vi s3.1), (11, .clo 107 [.ptr [vs aF0] 0]), (12, vl eCandidate aS), (13, vi s3.1)], []⟩ ?_
  obtain ⟨x7, hx7, h⟩ := bind_some h
  refine SRun.ls (x_index (L := aS) (f := eCandidate) (ti := ti31) (tj := ti87) (e := 87) (k := .i64) tbok rfl hx7) ?_
  refine SRun.ck tbok 1 ⟨19, [(0, vl eCandidate aS), (1, .clo 107 [.ptr [vs aF0] 0]), (5, vi s3.1), (7, vi (aS.length : Int)), (8, vi s3.1), (11, .clo 107 [.ptr [vs aF0] 0]), (15, .agg (tc eCandidate x7))], []⟩ ?_
  obtain ⟨x8, hx8, h⟩ := bind_some h
  refine SRun.ls (xc ents107 (impl_findCandidate_1_run x7 aF0 _ hx8)) ?_
  refine SRun.nx ?_
  refine swp_cd h (fun h => ?_) fun h => ?_
  refine srk tbok ⟨19, [(4, vi s3.1)], []⟩ ?_
  refine swp_ret ?_
  obtain rfl := inj h
  exact q_br (q_rr (q_rr (q_br (q_rr (q_fr (f1 fv))))))
  refine swp_skip ?_
  obtain rfl := inj h
  exact q_bn (q_l (Le.sub0))
  refine swp_reg ?_
  refine SRun.ck tbok 2 ⟨19, [(0, vl eCandidate aS), (1, .clo 107 [.ptr [vs aF0] 0]), (7, vi (aS.length : Int)), (8, vi (w64 (s3.1 + 1)))], []⟩ ?_
  refine SRun.nil ?_
  obtain rfl := inj h
  exact q_l (Le.sub0)
  refine swp_exit ?_
  obtain rfl := inj h
  exact nx_e (q_re (q_bh (q_l (Le.sub0))))
  refine srk tbok ⟨19, [(4, vi (-1))], []⟩ ?_
  refine swp_ret ?_
  obtain rfl := inj h
  exact q_fr (f1 fv)
theorem ents106 : Ents Tryz.prog 106 := ents_of Tryz.func106 (by kernel_rfl) rfl
noncomputable def impl_findCandidate (aList : (List Candidate)) (aCode : ByteArray) : Option (Int) :=
  ((slices_IndexFunc_Candidate_impl_findCandidate_1 aList aCode).bind fun x1 => some x1)
theorem impl_findCandidate_run (aList : (List Candidate)) (aCode : ByteArray) (r : Int) (h : impl_findCandidate aList aCode = some r) : SCall Tryz.prog 59 [.v (vl eCandidate aList), .v (vs aCode)] ⟨[.v (vi r)], [], false⟩ := by
  refine scall_in Tryz.func59 rfl [(.tmp 4)] rfl (fun r => ⟨[.v (vi r)], [], false⟩) (r := r) ?_
  unfold impl_findCandidate at h
  refine srk tbok ⟨8, [(0, vl eCandidate aList), (3, .ref 3 0)], [(3, .box [vs aCode])]⟩ ?_
  refine sr ?_
  refine SRun.ck tbok 2 ⟨8, [(5, vl eCandidate aList), (6, .clo 107 [.ref 3 0])], [(3, .box [vs aCode])]⟩ ?_
  obtain ⟨x1, hx1, h⟩ := bind_some h
  refine SRun.ls (xc ents106 (slices_IndexFunc_Candidate_impl_findCandidate_1_run aList aCode _ hx1)) ?_
  refine ckn tbok 1 ⟨8, [(4, vi x1)], []⟩ ?_
  refine swp_ret ?_
  obtain rfl := inj h
  exact q_fr (f1 fv)
theorem ents59 : Ents Tryz.prog 59 := ents_of Tryz.func59 (by kernel_rfl) rfl
noncomputable def impl_AreCandidates (aList : (List Candidate)) : Option (Bool) :=
  (((forN (aList.length : Int) (fun (i3 : Int) (_ : Unit) => ((at' aList i3).bind fun x7 => ((((impl_IsWord x7.Code).bind fun x8 => (bif (!x8) then some true else ((impl_IsPhrase x7.Text).bind fun x9 => (bif (!x9) then some true else ((impl_IsPoint x7.At).bind fun x10 => (bif (!x10) then some true else ((part' aList 0 i3).bind fun x11 => ((impl_findCandidate x11 x7.Code).bind fun x12 => some (decide (x12 ≥ 0))))))))))).bind fun (j13 : Bool) => (bif j13 then some (.inr (.inr false)) else some (.inl ()))))) (fun (_ : Unit) => .inl ()) 0 ())).bind (Sum.elim (fun (_ : Unit) => some (decide ((aList.length : Int) ≤ 10))) some))
theorem impl_AreCandidates_run (aList : (List Candidate)) (r : Bool) (h : impl_AreCandidates aList = some r) : SCall Tryz.prog 45 [.v (vl eCandidate aList)] ⟨[.v (vb r)], [], false⟩ := by
  refine scall_in Tryz.func45 rfl [(.tmp 2)] rfl (fun r => ⟨[.v (vb r)], [], false⟩) (r := r) ?_
  unfold impl_AreCandidates at h
  refine srk tbok ⟨41, [(0, vl eCandidate aList)], []⟩ ?_
  refine swp_seq ?_
  refine srk tbok ⟨41, [(0, vl eCandidate aList), (5, vl eCandidate aList), (6, vi (aList.length : Int)), (7, vi 0)], []⟩ ?_
  refine swp_seqE (r := r) h (fun j1 => ⟨41, [(0, vl eCandidate aList)], []⟩) (fun v2 h => ?_) (fun j1 h => ?_)
  refine swp_blk (a := v2) ?_
  refine swp_lpL (r := v2) (s := (0, ())) _ (fun s3 => ⟨41, [(0, vl eCandidate aList), (5, vl eCandidate aList), (6, vi (aList.length : Int)), (7, vi s3.1)], []⟩) _ (Le.sub0) h (fun s3 v4 h => ?_)
  refine srk tbok ⟨41, [(0, vl eCandidate aList), (5, vl eCandidate aList), (6, vi (aList.length : Int)), (7, vi s3.1), (8, vb (decide (s3.1 < (aList.length : Int))))], []⟩ ?_
  refine swp_seq ?_
  refine swp_cd h (fun h => ?_) fun h => ?_
  refine swp_skip ?_
  refine nx_n ?_
  refine swp_seq ?_
  refine swp_seqL (r := v4) h (fun j5 => ⟨41, [(0, vl eCandidate aList), (5, vl eCandidate aList), (6, vi (aList.length : Int)), (7, vi s3.1)], []⟩) (fun v6 h => ?_) (fun j5 h => ?_)
  refine swp_blk (a := v6) ?_
  refine sr ?_
  refine SRun.ck tbok 1 ⟨41, [(0, vl eCandidate aList), (5, vl eCandidate aList), (6, vi (aList.length : Int)), (7, vi s3.1), (9, vi s3.1)], []⟩ ?_
  obtain ⟨x7, hx7, h⟩ := bind_some h
  refine SRun.ls (x_index (L := aList) (f := eCandidate) (ti := ti31) (tj := ti87) (e := 87) (k := .i64) tbok rfl hx7) ?_
  refine ckn tbok 4 ⟨41, [(0, vl eCandidate aList), (3, vi s3.1), (4, .ref 4 0), (5, vl eCandidate aList), (6, vi (aList.length : Int)), (7, vi s3.1)], [(4, .box (tc eCandidate x7))]⟩ ?_
  refine swp_seq ?_
  refine swp_drJ mixed h (fun j13 => ⟨41, [(0, vl eCandidate aList), (5, vl eCandidate aList), (6, vi (aList.length : Int)), (7, vi s3.1), (36, vb j13)], []⟩) (fun v14 h => ?_) (fun j13 h => ?_)
  refine DGo.ck tbok false 2 ⟨41, [(0, vl eCandidate aList), (3, vi s3.1), (4, .ref 4 0), (5, vl eCandidate aList), (6, vi (aList.length : Int)), (7, vi s3.1), (13, vs x7.Code)], [(4, .box (tc eCandidate x7))]⟩ ?_
  obtain ⟨x8, hx8, h⟩ := bind_some h
  refine DGo.step (xc ents86 (impl_IsWord_run x7.Code _ hx8)) ?_
  refine DGo.ck tbok false 2 ⟨41, [(0, vl eCandidate aList), (3, vi s3.1), (4, .ref 4 0), (5, vl eCandidate aList), (6, vi (aList.length : Int)), (7, vi s3.1), (16, vb (!x8))], [(4, .box (tc eCandidate x7))]⟩ ?_
  refine DGo.cu [(16, fun b => b)] h (fun h => ?_) fun h => ?_
  refine DGo.ck tbok false 20 ⟨41, [(0, vl eCandidate aList), (5, vl eCandidate aList), (6, vi (aList.length : Int)), (7, vi s3.1), (36, vb true)], []⟩ ?_
  refine DGo.nil (by kernel_rfl) ?_
  obtain rfl := inj h
  exact Le.sub0
  refine DGo.ck tbok false 2 ⟨41, [(0, vl eCandidate aList), (3, vi s3.1), (4, .ref 4 0), (5, vl eCandidate aList), (6, vi (aList.length : Int)), (7, vi s3.1), (16, vb false), (18, vs x7.Text)], [(4, .box (tc eCandidate x7))]⟩ ?_
  obtain ⟨x9, hx9, h⟩ := bind_some h
  refine DGo.step (xc ents87 (impl_IsPhrase_run x7.Text _ hx9)) ?_
  refine DGo.ck tbok false 3 ⟨41, [(0, vl eCandidate aList), (3, vi s3.1), (4, .ref 4 0), (5, vl eCandidate aList), (6, vi (aList.length : Int)), (7, vi s3.1), (22, vb (!x9))], [(4, .box (tc eCandidate x7))]⟩ ?_
  refine DGo.cu [(22, fun b => b)] h (fun h => ?_) fun h => ?_
  refine DGo.ck tbok false 14 ⟨41, [(0, vl eCandidate aList), (5, vl eCandidate aList), (6, vi (aList.length : Int)), (7, vi s3.1), (36, vb true)], []⟩ ?_
  refine DGo.nil (by kernel_rfl) ?_
  obtain rfl := inj h
  exact Le.sub0
  refine DGo.ck tbok false 2 ⟨41, [(0, vl eCandidate aList), (3, vi s3.1), (4, .ref 4 0), (5, vl eCandidate aList), (6, vi (aList.length : Int)), (7, vi s3.1), (22, vb false), (24, .agg (tc ePoint x7.At))], [(4, .box (tc eCandidate x7))]⟩ ?_
  obtain ⟨x10, hx10, h⟩ := bind_some h
  refine DGo.step (xc ents88 (impl_IsPoint_run x7.At _ hx10)) ?_
  refine DGo.ck tbok false 3 ⟨41, [(0, vl eCandidate aList), (3, vi s3.1), (4, .ref 4 0), (5, vl eCandidate aList), (6, vi (aList.length : Int)), (7, vi s3.1), (28, vb (!x10))], [(4, .box (tc eCandidate x7))]⟩ ?_
  refine DGo.cu [(28, fun b => b)] h (fun h => ?_) fun h => ?_
  refine DGo.ck tbok false 8 ⟨41, [(0, vl eCandidate aList), (5, vl eCandidate aList), (6, vi (aList.length : Int)), (7, vi s3.1), (36, vb true)], []⟩ ?_
  refine DGo.nil (by kernel_rfl) ?_
  obtain rfl := inj h
  exact Le.sub0
  refine DGo.ck tbok false 2 ⟨41, [(0, vl eCandidate aList), (4, .ref 4 0), (5, vl eCandidate aList), (6, vi (aList.length : Int)), (7, vi s3.1), (28, vb false), (29, vl eCandidate aList), (30, vi s3.1)], [(4, .box (tc eCandidate x7))]⟩ ?_
  obtain ⟨x11, hx11, h⟩ := bind_some h
  refine DGo.step (x_slice (m := 4) (f := eCandidate) (ti := ti31) (tj := ti87) (e := 87) hx11 (fun _ => rfl) tbok rfl) ?_
  refine DGo.ck tbok false 2 ⟨41, [(0, vl eCandidate aList), (5, vl eCandidate aList), (6, vi (aList.length : Int)), (7, vi s3.1), (28, vb false), (31, vl eCandidate x11), (33, vs x7.Code)], []⟩ ?_
  obtain ⟨x12, hx12, h⟩ := bind_some h
  refine DGo.step (xc ents59 (impl_findCandidate_run x11 x7.Code _ hx12)) ?_
  refine DGo.ck tbok false 2 ⟨41, [(0, vl eCandidate aList), (5, vl eCandidate aList), (6, vi (aList.length : Int)), (7, vi s3.1), (36, vb (decide (x12 ≥ 0)))], []⟩ ?_
  refine DGo.nil (by kernel_rfl) ?_
  obtain rfl := inj h
  exact Le.sub0
  refine swp_cd h (fun h => ?_) fun h => ?_
  refine srk tbok ⟨41, [(2, vb false)], []⟩ ?_
  refine swp_ret ?_
  obtain rfl := inj h
  exact q_br (q_rr (q_rr (q_br (q_rr (q_fr (f1 fv))))))
  refine swp_skip ?_
  obtain rfl := inj h
  exact q_bn (q_l (Le.sub0))
  refine swp_reg ?_
  refine SRun.ck tbok 2 ⟨41, [(0, vl eCandidate aList), (5, vl eCandidate aList), (6, vi (aList.length : Int)), (7, vi (w64 (s3.1 + 1)))], []⟩ ?_
  refine SRun.nil ?_
  obtain rfl := inj h
  exact q_l (Le.sub0)
  refine swp_exit ?_
  obtain rfl := inj h
  exact nx_e (q_re (q_bh (q_l (Le.sub0))))
  refine srk tbok ⟨41, [(2, vb (decide ((aList.length : Int) ≤ 10)))], []⟩ ?_
  refine swp_ret ?_
  obtain rfl := inj h
  exact q_fr (f1 fv)
theorem ents45 : Ents Tryz.prog 45 := ents_of Tryz.func45 (by kernel_rfl) rfl
noncomputable def slices_Index_string (aS : (List ByteArray)) (aV : ByteArray) : Option (Int) :=
  (((forN (aS.length : Int) (fun (i3 : Int) (_ : Unit) => ((at' aS i3).bind fun x7 => (bif (aV.toList == x7.toList) then some (.inr (.inr i3)) else some (.inl ())))) (fun (_ : Unit) => .inl ()) 0 ())).bind (Sum.elim (fun (_ : Unit) => some (-1)) some))
theorem slices_Index_string_run (aS : (List ByteArray)) (aV : ByteArray) (r : Int) (h : slices_Index_string aS aV = some r) : SCall Tryz.prog 228 [.v (vl eS aS), .v (vs aV)] ⟨[.v (vi r)], [], false⟩ := by
  refine scall_in Tryz.func228 rfl [(.tmp 4)] rfl (fun r => ⟨[.v (vi r)], [], false⟩) (r := r) ?_
  unfold slices_Index_string at h
  refine srk tbok ⟨19, [(0, vl eS aS), (1, vs aV)], []⟩ ?_
  refine swp_seq ?_
  refine srk tbok ⟨19, [(0, vl eS aS), (1, vs aV), (7, vi (aS.length : Int)), (8, vi 0)], []⟩ ?_
  refine swp_seqE (r := r) h (fun j1 => ⟨19, [], []⟩) (fun v2 h => ?_) (fun j1 h => ?_)
  refine swp_blk (a := v2) ?_
  refine swp_lpL (r := v2) (s := (0, ())) _ (fun s3 => ⟨19, [(0, vl eS aS), (1, vs aV), (7, vi (aS.length : Int)), (8, vi s3.1)], []⟩) _ (Le.sub0) h (fun s3 v4 h => ?_)
  refine srk tbok ⟨19, [(0, vl eS aS), (1, vs aV), (7, vi (aS.length : Int)), (8, vi s3.1), (9, vb (decide (s3.1 < (aS.length : Int))))], []⟩ ?_
  refine swp_seq ?_
  refine swp_cd h (fun h => ?_) fun h => ?_
  refine swp_skip ?_
  refine nx_n ?_
  refine swp_seq ?_
  refine swp_seqL (r := v4) h (fun j5 => ⟨19, [(0, vl eS aS), (1, vs aV), (7, vi (aS.length : Int)), (8, vi s3.1)], []⟩) (fun v6 h => ?_) (fun j5 h => ?_)
  refine swp_blk (a := v6) ?_
  refine srk tbok ⟨19, [(0, vl eS aS), (1, vs aV), (5, vi s3.1), (7, vi (aS.length : Int)), (8, vi s3.1)], []⟩ ?_
  refine sr ?_
  refine SRun.ck tbok 3 ⟨19, [(0, vl eS aS), (1, vs aV), (5, vi s3.1), (7, vi (aS.length : Int)), (8, vi s3.1), (11, vs aV), (12, vl eS aS), (13, vi s3.1)], []⟩ ?_
  obtain ⟨x7, hx7, h⟩ := bind_some h
  refine SRun.ls (x_index (L := aS) (f := eS) (ti := ti28) (tj := ti9) (e := 9) (k := .i64) tbok rfl hx7) ?_
  refine ckn tbok 2 ⟨19, [(0, vl eS aS), (1, vs aV), (5, vi s3.1), (7, vi (aS.length : Int)), (8, vi s3.1), (16, vb (aV.toList == x7.toList))], []⟩ ?_
  refine swp_cd h (fun h => ?_) fun h => ?_
  refine srk tbok ⟨19, [(4, vi s3.1)], []⟩ ?_
  refine swp_ret ?_
  obtain rfl := inj h
  exact q_br (q_rr (q_rr (q_br (q_rr (q_fr (f1 fv))))))
  refine swp_skip ?_
  obtain rfl := inj h
  exact q_bn (q_l (Le.sub0))
  refine swp_reg ?_
  refine SRun.ck tbok 2 ⟨19, [(0, vl eS aS), (1, vs aV), (7, vi (aS.length : Int)), (8, vi (w64 (s3.1 + 1)))], []⟩ ?_
  refine SRun.nil ?_
  obtain rfl := inj h
  exact q_l (Le.sub0)
  refine swp_exit ?_
  obtain rfl := inj h
  exact nx_e (q_re (q_bh (q_l (Le.sub0))))
  refine srk tbok ⟨19, [(4, vi (-1))], []⟩ ?_
  refine swp_ret ?_
  obtain rfl := inj h
  exact q_fr (f1 fv)
theorem ents228 : Ents Tryz.prog 228 := ents_of Tryz.func228 (by kernel_rfl) rfl
noncomputable def slices_Contains_string (aS : (List ByteArray)) (aV : ByteArray) : Option (Bool) :=
  ((slices_Index_string aS aV).bind fun x1 => some (decide (x1 ≥ 0)))
theorem slices_Contains_string_run (aS : (List ByteArray)) (aV : ByteArray) (r : Bool) (h : slices_Contains_string aS aV = some r) : SCall Tryz.prog 202 [.v (vl eS aS), .v (vs aV)] ⟨[.v (vb r)], [], false⟩ := by
  refine scall_in Tryz.func202 rfl [(.tmp 4)] rfl (fun r => ⟨[.v (vb r)], [], false⟩) (r := r) ?_
  unfold slices_Contains_string at h
  refine srk tbok ⟨9, [(0, vl eS aS), (1, vs aV)], []⟩ ?_
  refine sr ?_
  refine SRun.ck tbok 2 ⟨9, [(5, vl eS aS), (6, vs aV)], []⟩ ?_
  obtain ⟨x1, hx1, h⟩ := bind_some h
  refine SRun.ls (xc ents228 (slices_Index_string_run aS aV _ hx1)) ?_
  refine ckn tbok 2 ⟨9, [(4, vb (decide (x1 ≥ 0)))], []⟩ ?_
  refine swp_ret ?_
  obtain rfl := inj h
  exact q_fr (f1 fv)
theorem ents202 : Ents Tryz.prog 202 := ents_of Tryz.func202 (by kernel_rfl) rfl
noncomputable def impl_isOwnWord (aS : ByteArray) : Option (Bool) :=
  ((((slices_Contains_string ([(ByteArray.mk #[97, 116]), (ByteArray.mk #[110, 101, 97, 114]), (ByteArray.mk #[111, 102]), (ByteArray.mk #[98, 101, 116, 119, 101, 101, 110]), (ByteArray.mk #[97, 110, 100]), (ByteArray.mk #[109, 105, 108, 101]), (ByteArray.mk #[109, 105, 108, 101, 115]), (ByteArray.mk #[108, 101, 97, 103, 117, 101]), (ByteArray.mk #[108, 101, 97, 103, 117, 101, 115])] : List ByteArray) aS).bind fun x1 => (bif x1 then some true else ((slices_Contains_string glob0 aS).bind fun x2 => some x2)))).bind fun (j3 : Bool) => some j3)
theorem impl_isOwnWord_run (aS : ByteArray) (r : Bool) (h : impl_isOwnWord aS = some r) : SCall Tryz.prog 164 [.v (vs aS)] ⟨[.v (vb r)], [], false⟩ := by
  refine scall_in Tryz.func164 rfl [(.tmp 2)] rfl (fun r => ⟨[.v (vb r)], [], false⟩) (r := r) ?_
  unfold impl_isOwnWord at h
  refine srk tbok ⟨11, [(0, vs aS)], []⟩ ?_
  refine swp_seq ?_
  refine swp_regJ h (fun j3 => ⟨11, [(2, vb j3)], []⟩) (fun v4 h => ?_) (fun j3 h => ?_)
  refine SRun.ck tbok 2 ⟨11, [(0, vs aS), (3, .own 3), (4, vs aS)], [(3, oa 9 1 eS ([(ByteArray.mk #[97, 116]), (ByteArray.mk #[110, 101, 97, 114]), (ByteArray.mk #[111, 102]), (ByteArray.mk #[98, 101, 116, 119, 101, 101, 110]), (ByteArray.mk #[97, 110, 100]), (ByteArray.mk #[109, 105, 108, 101]), (ByteArray.mk #[109, 105, 108, 101, 115]), (ByteArray.mk #[108, 101, 97, 103, 117, 101]), (ByteArray.mk #[108, 101, 97, 103, 117, 101, 115])] : List ByteArray))]⟩ ?_
  obtain ⟨x1, hx1, h⟩ := bind_some h
  refine SRun.ls (xc ents202 (slices_Contains_string_run ([(ByteArray.mk #[97, 116]), (ByteArray.mk #[110, 101, 97, 114]), (ByteArray.mk #[111, 102]), (ByteArray.mk #[98, 101, 116, 119, 101, 101, 110]), (ByteArray.mk #[97, 110, 100]), (ByteArray.mk #[109, 105, 108, 101]), (ByteArray.mk #[109, 105, 108, 101, 115]), (ByteArray.mk #[108, 101, 97, 103, 117, 101]), (ByteArray.mk #[108, 101, 97, 103, 117, 101, 115])] : List ByteArray) aS _ hx1)) ?_
  refine SRun.ck tbok 1 ⟨11, [(0, vs aS), (6, vb x1)], []⟩ ?_
  refine SRun.cu [(6, fun b => b)] h (fun h => ?_) fun h => ?_
  refine SRun.ck tbok 5 ⟨11, [(2, vb true)], []⟩ ?_
  refine SRun.nil ?_
  obtain rfl := inj h
  exact Le.sub0
  refine SRun.ls (lstep_slice_glob (L := glob0) (n := 8) (e := 9) (ti := ti138) (tj := ti9) tbok rfl (by kernel_rfl) (by kernel_rfl) List.mem_cons_self (by kernel_rfl) rfl (by kernel_rfl) rfl (by kernel_rfl) (by kernel_rfl)) ?_
  refine SRun.ck tbok 1 ⟨11, [(6, vb false), (7, vl eS glob0), (8, vs aS)], []⟩ ?_
  obtain ⟨x2, hx2, h⟩ := bind_some h
  refine SRun.ls (xc ents202 (slices_Contains_string_run glob0 aS _ hx2)) ?_
  refine SRun.ck tbok 2 ⟨11, [(2, vb x2)], []⟩ ?_
  refine SRun.nil ?_
  obtain rfl := inj h
  exact Le.sub0
  refine swp_ret ?_
  obtain rfl := inj h
  exact q_fr (f1 fv)
theorem ents164 : Ents Tryz.prog 164 := ents_of Tryz.func164 (by kernel_rfl) rfl
noncomputable def impl_isCode (aS : ByteArray) : Option (Bool) :=
  ((((impl_IsWord aS).bind fun x1 => (bif x1 then ((impl_isOwnWord aS).bind fun x2 => some (!x2)) else some false))).bind fun (j3 : Bool) => some j3)
theorem impl_isCode_run (aS : ByteArray) (r : Bool) (h : impl_isCode aS = some r) : SCall Tryz.prog 139 [.v (vs aS)] ⟨[.v (vb r)], [], false⟩ := by
  refine scall_in Tryz.func139 rfl [(.tmp 2)] rfl (fun r => ⟨[.v (vb r)], [], false⟩) (r := r) ?_
  unfold impl_isCode at h
  refine srk tbok ⟨10, [(0, vs aS)], []⟩ ?_
  refine swp_seq ?_
  refine swp_regJ h (fun j3 => ⟨10, [(2, vb j3)], []⟩) (fun v4 h => ?_) (fun j3 h => ?_)
  refine SRun.ck tbok 1 ⟨10, [(0, vs aS), (3, vs aS)], []⟩ ?_
  obtain ⟨x1, hx1, h⟩ := bind_some h
  refine SRun.ls (xc ents86 (impl_IsWord_run aS _ hx1)) ?_
  refine SRun.ck tbok 1 ⟨10, [(0, vs aS), (5, vb x1)], []⟩ ?_
  refine SRun.cu [(5, fun b => b)] h (fun h => ?_) fun h => ?_
  refine SRun.ck tbok 1 ⟨10, [(5, vb true), (6, vs aS)], []⟩ ?_
  obtain ⟨x2, hx2, h⟩ := bind_some h
  refine SRun.ls (xc ents164 (impl_isOwnWord_run aS _ hx2)) ?_
  refine SRun.ck tbok 3 ⟨10, [(2, vb (!x2))], []⟩ ?_
  refine SRun.nil ?_
  obtain rfl := inj h
  exact Le.sub0
  refine SRun.ck tbok 5 ⟨10, [(2, vb false)], []⟩ ?_
  refine SRun.nil ?_
  obtain rfl := inj h
  exact Le.sub0
  refine swp_ret ?_
  obtain rfl := inj h
  exact q_fr (f1 fv)
theorem ents139 : Ents Tryz.prog 139 := ents_of Tryz.func139 (by kernel_rfl) rfl
noncomputable def impl_AreSites (aList : (List Site)) : Option (Bool) :=
  (((forN (aList.length : Int) (fun (i3 : Int) (_ : Unit) => ((at' aList i3).bind fun x7 => ((((impl_isCode x7.Code).bind fun x8 => (bif (!x8) then some true else ((impl_IsPoint x7.At).bind fun x9 => (bif (!x9) then some true else (bif (decide (i3 > 0)) then ((at' aList (w64 (i3 - 1))).bind fun x10 => some (!(Op.bytesLess x10.Code.toList x7.Code.toList))) else some false)))))).bind fun (j11 : Bool) => (bif j11 then some (.inr (.inr false)) else some (.inl ()))))) (fun (_ : Unit) => .inl ()) 0 ())).bind (Sum.elim (fun (_ : Unit) => some (decide ((aList.length : Int) ≤ 10))) some))
theorem impl_AreSites_run (aList : (List Site)) (r : Bool) (h : impl_AreSites aList = some r) : SCall Tryz.prog 100 [.v (vl eSite aList)] ⟨[.v (vb r)], [], false⟩ := by
  refine scall_in Tryz.func100 rfl [(.tmp 2)] rfl (fun r => ⟨[.v (vb r)], [], false⟩) (r := r) ?_
  unfold impl_AreSites at h
  refine srk tbok ⟨41, [(0, vl eSite aList)], []⟩ ?_
  refine swp_seq ?_
  refine srk tbok ⟨41, [(0, vl eSite aList), (5, vl eSite aList), (6, vi (aList.length : Int)), (7, vi 0)], []⟩ ?_
  refine swp_seqE (r := r) h (fun j1 => ⟨41, [(0, vl eSite aList)], []⟩) (fun v2 h => ?_) (fun j1 h => ?_)
  refine swp_blk (a := v2) ?_
  refine swp_lpL (r := v2) (s := (0, ())) _ (fun s3 => ⟨41, [(0, vl eSite aList), (5, vl eSite aList), (6, vi (aList.length : Int)), (7, vi s3.1)], []⟩) _ (Le.sub0) h (fun s3 v4 h => ?_)
  refine srk tbok ⟨41, [(0, vl eSite aList), (5, vl eSite aList), (6, vi (aList.length : Int)), (7, vi s3.1), (8, vb (decide (s3.1 < (aList.length : Int))))], []⟩ ?_
  refine swp_seq ?_
  refine swp_cd h (fun h => ?_) fun h => ?_
  refine swp_skip ?_
  refine nx_n ?_
  refine swp_seq ?_
  refine swp_seqL (r := v4) h (fun j5 => ⟨41, [(0, vl eSite aList), (5, vl eSite aList), (6, vi (aList.length : Int)), (7, vi s3.1)], []⟩) (fun v6 h => ?_) (fun j5 h => ?_)
  refine swp_blk (a := v6) ?_
  refine sr ?_
  refine SRun.ck tbok 1 ⟨41, [(0, vl eSite aList), (5, vl eSite aList), (6, vi (aList.length : Int)), (7, vi s3.1), (9, vi s3.1)], []⟩ ?_
  obtain ⟨x7, hx7, h⟩ := bind_some h
  refine SRun.ls (x_index (L := aList) (f := eSite) (ti := ti33) (tj := ti92) (e := 92) (k := .i64) tbok rfl hx7) ?_
  refine ckn tbok 4 ⟨41, [(0, vl eSite aList), (3, vi s3.1), (4, .ref 4 0), (5, vl eSite aList), (6, vi (aList.length : Int)), (7, vi s3.1)], [(4, .box (tc eSite x7))]⟩ ?_
  refine swp_seq ?_
  refine swp_drJ mixed h (fun j11 => ⟨41, [(0, vl eSite aList), (5, vl eSite aList), (6, vi (aList.length : Int)), (7, vi s3.1), (36, vb j11)], []⟩) (fun v12 h => ?_) (fun j11 h => ?_)
  refine DGo.ck tbok false 2 ⟨41, [(0, vl eSite aList), (3, vi s3.1), (4, .ref 4 0), (5, vl eSite aList), (6, vi (aList.length : Int)), (7, vi s3.1), (13, vs x7.Code)], [(4, .box (tc eSite x7))]⟩ ?_
  obtain ⟨x8, hx8, h⟩ := bind_some h
  refine DGo.step (xc ents139 (impl_isCode_run x7.Code _ hx8)) ?_
  refine DGo.ck tbok false 2 ⟨41, [(0, vl eSite aList), (3, vi s3.1), (4, .ref 4 0), (5, vl eSite aList), (6, vi (aList.length : Int)), (7, vi s3.1), (16, vb (!x8))], [(4, .box (tc eSite x7))]⟩ ?_
  refine DGo.cu [(16, fun b => b)] h (fun h => ?_) fun h => ?_
  refine DGo.ck tbok false 20 ⟨41, [(0, vl eSite aList), (5, vl eSite aList), (6, vi (aList.length : Int)), (7, vi s3.1), (36, vb true)], []⟩ ?_
  refine DGo.nil (by kernel_rfl) ?_
  obtain rfl := inj h
  exact Le.sub0
  refine DGo.ck tbok false 2 ⟨41, [(0, vl eSite aList), (3, vi s3.1), (4, .ref 4 0), (5, vl eSite aList), (6, vi (aList.length : Int)), (7, vi s3.1), (16, vb false), (18, .agg (tc ePoint x7.At))], [(4, .box (tc eSite x7))]⟩ ?_
  obtain ⟨x9, hx9, h⟩ := bind_some h
  refine DGo.step (xc ents88 (impl_IsPoint_run x7.At _ hx9)) ?_
  refine DGo.ck tbok false 3 ⟨41, [(0, vl eSite aList), (3, vi s3.1), (4, .ref 4 0), (5, vl eSite aList), (6, vi (aList.length : Int)), (7, vi s3.1), (22, vb (!x9))], [(4, .box (tc eSite x7))]⟩ ?_
  refine DGo.cu [(22, fun b => b)] h (fun h => ?_) fun h => ?_
  refine DGo.ck tbok false 14 ⟨41, [(0, vl eSite aList), (5, vl eSite aList), (6, vi (aList.length : Int)), (7, vi s3.1), (36, vb true)], []⟩ ?_
  refine DGo.nil (by kernel_rfl) ?_
  obtain rfl := inj h
  exact Le.sub0
  refine DGo.ck tbok false 3 ⟨41, [(0, vl eSite aList), (3, vi s3.1), (4, .ref 4 0), (5, vl eSite aList), (6, vi (aList.length : Int)), (7, vi s3.1), (22, vb false), (25, vb (decide (s3.1 > 0)))], [(4, .box (tc eSite x7))]⟩ ?_
  refine DGo.cu [(25, fun b => b)] h (fun h => ?_) fun h => ?_
  refine DGo.ck tbok false 3 ⟨41, [(0, vl eSite aList), (4, .ref 4 0), (5, vl eSite aList), (6, vi (aList.length : Int)), (7, vi s3.1), (22, vb false), (25, vb true), (26, vl eSite aList), (28, vi (w64 (s3.1 - 1)))], [(4, .box (tc eSite x7))]⟩ ?_
  obtain ⟨x10, hx10, h⟩ := bind_some h
  refine DGo.step (x_index (L := aList) (f := eSite) (ti := ti33) (tj := ti92) (e := 92) (k := .i64) tbok rfl hx10) ?_
  refine DGo.ck tbok false 7 ⟨41, [(0, vl eSite aList), (5, vl eSite aList), (6, vi (aList.length : Int)), (7, vi s3.1), (36, vb (!(Op.bytesLess x10.Code.toList x7.Code.toList)))], []⟩ ?_
  refine DGo.nil (by kernel_rfl) ?_
  obtain rfl := inj h
  exact Le.sub0
  refine DGo.ck tbok false 11 ⟨41, [(0, vl eSite aList), (5, vl eSite aList), (6, vi (aList.length : Int)), (7, vi s3.1), (36, vb false)], []⟩ ?_
  refine DGo.nil (by kernel_rfl) ?_
  obtain rfl := inj h
  exact Le.sub0
  refine swp_cd h (fun h => ?_) fun h => ?_
  refine srk tbok ⟨41, [(2, vb false)], []⟩ ?_
  refine swp_ret ?_
  obtain rfl := inj h
  exact q_br (q_rr (q_rr (q_br (q_rr (q_fr (f1 fv))))))
  refine swp_skip ?_
  obtain rfl := inj h
  exact q_bn (q_l (Le.sub0))
  refine swp_reg ?_
  refine SRun.ck tbok 2 ⟨41, [(0, vl eSite aList), (5, vl eSite aList), (6, vi (aList.length : Int)), (7, vi (w64 (s3.1 + 1)))], []⟩ ?_
  refine SRun.nil ?_
  obtain rfl := inj h
  exact q_l (Le.sub0)
  refine swp_exit ?_
  obtain rfl := inj h
  exact nx_e (q_re (q_bh (q_l (Le.sub0))))
  refine srk tbok ⟨41, [(2, vb (decide ((aList.length : Int) ≤ 10)))], []⟩ ?_
  refine swp_ret ?_
  obtain rfl := inj h
  exact q_fr (f1 fv)
theorem ents100 : Ents Tryz.prog 100 := ents_of Tryz.func100 (by kernel_rfl) rfl
noncomputable def impl_isUnit (aUnit : ByteArray) (aCount : Int) : Option (Bool) :=
  (bif (aCount == 1) then some ((aUnit.toList == (ByteArray.mk #[109, 105, 108, 101]).toList) || (aUnit.toList == (ByteArray.mk #[108, 101, 97, 103, 117, 101]).toList)) else some ((aUnit.toList == (ByteArray.mk #[109, 105, 108, 101, 115]).toList) || (aUnit.toList == (ByteArray.mk #[108, 101, 97, 103, 117, 101, 115]).toList)))
theorem impl_isUnit_run (aUnit : ByteArray) (aCount : Int) (r : Bool) (h : impl_isUnit aUnit aCount = some r) : SCall Tryz.prog 141 [.v (vs aUnit), .v (vi aCount)] ⟨[.v (vb r)], [], false⟩ := by
  refine scall_in Tryz.func141 rfl [(.tmp 4)] rfl (fun r => ⟨[.v (vb r)], [], false⟩) (r := r) ?_
  unfold impl_isUnit at h
  refine srk tbok ⟨19, [(0, vs aUnit), (1, vi aCount)], []⟩ ?_
  refine swp_seq ?_
  refine srk tbok ⟨19, [(0, vs aUnit), (6, vb (aCount == 1))], []⟩ ?_
  refine swp_cd h (fun h => ?_) fun h => ?_
  refine swp_seq ?_
  refine swp_regP ⟨19, [(4, vb ((aUnit.toList == (ByteArray.mk #[109, 105, 108, 101]).toList) || (aUnit.toList == (ByteArray.mk #[108, 101, 97, 103, 117, 101]).toList)))], []⟩ ?_ ?_
  refine SRun.ck tbok 3 ⟨19, [(0, vs aUnit), (9, vb (aUnit.toList == (ByteArray.mk #[109, 105, 108, 101]).toList))], []⟩ ?_
  generalize (aUnit.toList == (ByteArray.mk #[109, 105, 108, 101]).toList) = bb
  cases bb
  refine SRun.ck tbok 4 ⟨19, [(4, vb (aUnit.toList == (ByteArray.mk #[108, 101, 97, 103, 117, 101]).toList))], []⟩ ?_
  exact SRun.nil (Le.sub0)
  refine SRun.ck tbok 4 ⟨19, [(4, vb true)], []⟩ ?_
  exact SRun.nil (Le.sub0)
  refine swp_ret ?_
  obtain rfl := inj h
  exact nx_r (q_fr (f1 fv))
  refine swp_skip ?_
  refine nx_n ?_
  refine swp_seq ?_
  refine swp_regP ⟨19, [(4, vb ((aUnit.toList == (ByteArray.mk #[109, 105, 108, 101, 115]).toList) || (aUnit.toList == (ByteArray.mk #[108, 101, 97, 103, 117, 101, 115]).toList)))], []⟩ ?_ ?_
  refine SRun.ck tbok 3 ⟨19, [(0, vs aUnit), (15, vb (aUnit.toList == (ByteArray.mk #[109, 105, 108, 101, 115]).toList))], []⟩ ?_
  generalize (aUnit.toList == (ByteArray.mk #[109, 105, 108, 101, 115]).toList) = bb
  cases bb
  refine SRun.ck tbok 4 ⟨19, [(4, vb (aUnit.toList == (ByteArray.mk #[108, 101, 97, 103, 117, 101, 115]).toList))], []⟩ ?_
  exact SRun.nil (Le.sub0)
  refine SRun.ck tbok 4 ⟨19, [(4, vb true)], []⟩ ?_
  exact SRun.nil (Le.sub0)
  refine swp_ret ?_
  obtain rfl := inj h
  exact q_fr (f1 fv)
theorem ents141 : Ents Tryz.prog 141 := ents_of Tryz.func141 (by kernel_rfl) rfl
noncomputable def impl_IsDescription (aD : Description) : Option (Bool) :=
  ((impl_isCode aD.A).bind fun x1 => (bif (!x1) then some false else (((((bif (aD.Kind == 0) then some (aD.Kind == 0) else some (aD.Kind == 1))).bind fun (j4 : Bool) => (bif j4 then some (.inr ((aD.Kind == aD.Kind) && ((aD.Count == 0) && ((aD.Unit.toList == (ByteArray.mk #[]).toList) && ((aD.Direction == 0) && ((aD.A.toList == aD.A.toList) && (aD.B.toList == (ByteArray.mk #[]).toList))))))) else (bif (aD.Kind == 2) then ((((impl_within aD.Count 1 99).bind fun x6 => (bif x6 then ((impl_isUnit aD.Unit aD.Count).bind fun x7 => (bif x7 then ((impl_within aD.Direction 0 7).bind fun x8 => (bif x8 then some (aD.B.toList == (ByteArray.mk #[]).toList) else some false)) else some false)) else some false))).bind fun (j9 : Bool) => some (.inr j9)) else (bif (aD.Kind == 3) then (((bif ((aD.Kind == aD.Kind) && ((aD.Count == 0) && ((aD.Unit.toList == (ByteArray.mk #[]).toList) && ((aD.Direction == 0) && ((aD.A.toList == aD.A.toList) && (aD.B.toList == aD.B.toList)))))) then ((impl_isCode aD.B).bind fun x11 => (bif x11 then some (!(aD.A.toList == aD.B.toList)) else some false)) else some false)).bind fun (j12 : Bool) => some (.inr j12)) else some (.inl ())))))).bind (Sum.elim (fun (_ : Unit) => some false) some))))
theorem impl_IsDescription_run (aD : Description) (r : Bool) (h : impl_IsDescription aD = some r) : SCall Tryz.prog 103 [.v (.agg (tc eDescription aD))] ⟨[.v (vb r)], [], false⟩ := by
  refine scall_in Tryz.func103 rfl [(.tmp 2)] rfl (fun r => ⟨[.v (vb r)], [], false⟩) (r := r) ?_
  unfold impl_IsDescription at h
  refine srk tbok ⟨64, [(1, .ref 1 0)], [(1, .box (tc eDescription aD))]⟩ ?_
  refine swp_seq ?_
  refine sr ?_
  refine SRun.ck tbok 2 ⟨64, [(1, .ref 1 0), (4, vs aD.A)], [(1, .box (tc eDescription aD))]⟩ ?_
  obtain ⟨x1, hx1, h⟩ := bind_some h
  refine SRun.ls (xc ents139 (impl_isCode_run aD.A _ hx1)) ?_
  refine ckn tbok 1 ⟨64, [(1, .ref 1 0), (6, vb (!x1))], [(1, .box (tc eDescription aD))]⟩ ?_
  refine swp_cd h (fun h => ?_) fun h => ?_
  refine srk tbok ⟨64, [(2, vb false)], []⟩ ?_
  refine swp_ret ?_
  obtain rfl := inj h
  exact nx_r (q_fr (f1 fv))
  refine swp_skip ?_
  refine nx_n ?_
  refine swp_seq ?_
  refine srk tbok ⟨64, [(1, .ref 1 0), (8, vi aD.Kind)], [(1, .box (tc eDescription aD))]⟩ ?_
  refine swp_seqE (r := r) h (fun j2 => ⟨64, [], []⟩) (fun v3 h => ?_) (fun j2 h => ?_)
  refine swp_blk (a := v3) ?_
  refine swp_seq ?_
  refine srk tbok ⟨64, [(1, .ref 1 0), (8, vi aD.Kind), (9, vb (aD.Kind == 0))], [(1, .box (tc eDescription aD))]⟩ ?_
  refine swp_seqJ h (fun j4 => ⟨64, [(1, .ref 1 0), (8, vi aD.Kind), (9, vb j4)], [(1, .box (tc eDescription aD))]⟩) (fun v5 h => ?_) (fun j4 h => ?_)
  refine swp_cd h (fun h => ?_) fun h => ?_
  refine swp_skip ?_
  obtain rfl := inj h
  exact q_j (Le.sub0)
  refine swp_reg ?_
  refine SRun.ck tbok 2 ⟨64, [(1, .ref 1 0), (8, vi aD.Kind), (9, vb (aD.Kind == 1))], [(1, .box (tc eDescription aD))]⟩ ?_
  refine SRun.nil ?_
  obtain rfl := inj h
  exact q_j (Le.sub0)
  refine swp_cd h (fun h => ?_) fun h => ?_
  refine sr ?_
  refine SRun.ck tbok 5 ⟨64, [(12, .agg (tc eDescription aD)), (14, vi aD.Kind), (16, vs aD.A)], []⟩ ?_
  refine SRun.ls (x_lstep_build (v := .agg [vi aD.Kind, vi 0, vs (ByteArray.mk #[]), vi 0, vs aD.A, vs (ByteArray.mk #[])]) tbok rfl) ?_
  refine SRun.ls (x_lstep_eq tbok false (xs := [vi aD.Kind, vi aD.Count, vs aD.Unit, vi aD.Direction, vs aD.A, vs aD.B]) (ys := [vi aD.Kind, vi 0, vs (ByteArray.mk #[]), vi 0, vs aD.A, vs (ByteArray.mk #[])]) (b := ((aD.Kind == aD.Kind) && ((aD.Count == 0) && ((aD.Unit.toList == (ByteArray.mk #[]).toList) && ((aD.Direction == 0) && ((aD.A.toList == aD.A.toList) && (aD.B.toList == (ByteArray.mk #[]).toList))))))) rfl) ?_
  refine ckn tbok 1 ⟨64, [(2, vb ((aD.Kind == aD.Kind) && ((aD.Count == 0) && ((aD.Unit.toList == (ByteArray.mk #[]).toList) && ((aD.Direction == 0) && ((aD.A.toList == aD.A.toList) && (aD.B.toList == (ByteArray.mk #[]).toList)))))))], []⟩ ?_
  refine swp_ret ?_
  obtain rfl := inj h
  exact q_br (q_rr (q_fr (f1 fv)))
  refine srk tbok ⟨64, [(1, .ref 1 0), (8, vi aD.Kind), (19, vb (aD.Kind == 2))], [(1, .box (tc eDescription aD))]⟩ ?_
  refine swp_cd h (fun h => ?_) fun h => ?_
  refine swp_seq ?_
  refine swp_regJ h (fun j9 => ⟨64, [(2, vb j9)], []⟩) (fun v10 h => ?_) (fun j9 h => ?_)
  refine SRun.ck tbok 2 ⟨64, [(1, .ref 1 0), (22, vi aD.Count)], [(1, .box (tc eDescription aD))]⟩ ?_
  obtain ⟨x6, hx6, h⟩ := bind_some h
  refine SRun.ls (xc ents135 (impl_within_run aD.Count 1 99 _ hx6)) ?_
  refine SRun.ck tbok 1 ⟨64, [(1, .ref 1 0), (24, vb x6)], [(1, .box (tc eDescription aD))]⟩ ?_
  refine SRun.cu [(24, fun b => b)] h (fun h => ?_) fun h => ?_
  refine SRun.ck tbok 4 ⟨64, [(1, .ref 1 0), (24, vb true), (26, vs aD.Unit), (28, vi aD.Count)], [(1, .box (tc eDescription aD))]⟩ ?_
  obtain ⟨x7, hx7, h⟩ := bind_some h
  refine SRun.ls (xc ents141 (impl_isUnit_run aD.Unit aD.Count _ hx7)) ?_
  refine SRun.ck tbok 2 ⟨64, [(1, .ref 1 0), (31, vb x7)], [(1, .box (tc eDescription aD))]⟩ ?_
  refine SRun.cu [(31, fun b => b)] h (fun h => ?_) fun h => ?_
  refine SRun.ck tbok 2 ⟨64, [(1, .ref 1 0), (31, vb true), (33, vi aD.Direction)], [(1, .box (tc eDescription aD))]⟩ ?_
  obtain ⟨x8, hx8, h⟩ := bind_some h
  refine SRun.ls (xc ents135 (impl_within_run aD.Direction 0 7 _ hx8)) ?_
  refine SRun.ck tbok 2 ⟨64, [(1, .ref 1 0), (36, vb x8)], [(1, .box (tc eDescription aD))]⟩ ?_
  refine SRun.cu [(36, fun b => b)] h (fun h => ?_) fun h => ?_
  refine SRun.ck tbok 5 ⟨64, [(2, vb (aD.B.toList == (ByteArray.mk #[]).toList))], []⟩ ?_
  refine SRun.nil ?_
  obtain rfl := inj h
  exact Le.sub0
  refine SRun.ck tbok 5 ⟨64, [(2, vb false)], []⟩ ?_
  refine SRun.nil ?_
  obtain rfl := inj h
  exact Le.sub0
  refine SRun.ck tbok 10 ⟨64, [(2, vb false)], []⟩ ?_
  refine SRun.nil ?_
  obtain rfl := inj h
  exact Le.sub0
  refine SRun.ck tbok 17 ⟨64, [(2, vb false)], []⟩ ?_
  refine SRun.nil ?_
  obtain rfl := inj h
  exact Le.sub0
  refine swp_ret ?_
  obtain rfl := inj h
  exact q_br (q_rr (q_fr (f1 fv)))
  refine srk tbok ⟨64, [(1, .ref 1 0), (41, vb (aD.Kind == 3))], [(1, .box (tc eDescription aD))]⟩ ?_
  refine swp_cd h (fun h => ?_) fun h => ?_
  refine swp_seq ?_
  refine swp_regJ h (fun j12 => ⟨64, [(2, vb j12)], []⟩) (fun v13 h => ?_) (fun j12 h => ?_)
  refine SRun.ck tbok 7 ⟨64, [(1, .ref 1 0), (43, .agg (tc eDescription aD)), (45, vi aD.Kind), (47, vs aD.A), (49, vs aD.B)], [(1, .box (tc eDescription aD))]⟩ ?_
  refine SRun.ls (x_lstep_build (v := .agg [vi aD.Kind, vi 0, vs (ByteArray.mk #[]), vi 0, vs aD.A, vs aD.B]) tbok rfl) ?_
  refine SRun.ls (x_lstep_eq tbok false (xs := [vi aD.Kind, vi aD.Count, vs aD.Unit, vi aD.Direction, vs aD.A, vs aD.B]) (ys := [vi aD.Kind, vi 0, vs (ByteArray.mk #[]), vi 0, vs aD.A, vs aD.B]) (b := ((aD.Kind == aD.Kind) && ((aD.Count == 0) && ((aD.Unit.toList == (ByteArray.mk #[]).toList) && ((aD.Direction == 0) && ((aD.A.toList == aD.A.toList) && (aD.B.toList == aD.B.toList))))))) rfl) ?_
  refine SRun.ck tbok 1 ⟨64, [(1, .ref 1 0), (52, vb ((aD.Kind == aD.Kind) && ((aD.Count == 0) && ((aD.Unit.toList == (ByteArray.mk #[]).toList) && ((aD.Direction == 0) && ((aD.A.toList == aD.A.toList) && (aD.B.toList == aD.B.toList)))))))], [(1, .box (tc eDescription aD))]⟩ ?_
  refine SRun.cu [(52, fun b => b)] h (fun h => ?_) fun h => ?_
  refine SRun.ck tbok 2 ⟨64, [(1, .ref 1 0), (52, vb true), (54, vs aD.B)], [(1, .box (tc eDescription aD))]⟩ ?_
  obtain ⟨x11, hx11, h⟩ := bind_some h
  refine SRun.ls (xc ents139 (impl_isCode_run aD.B _ hx11)) ?_
  refine SRun.ck tbok 2 ⟨64, [(1, .ref 1 0), (57, vb x11)], [(1, .box (tc eDescription aD))]⟩ ?_
  refine SRun.cu [(57, fun b => b)] h (fun h => ?_) fun h => ?_
  refine SRun.ck tbok 7 ⟨64, [(2, vb (!(aD.A.toList == aD.B.toList)))], []⟩ ?_
  refine SRun.nil ?_
  obtain rfl := inj h
  exact Le.sub0
  refine SRun.ck tbok 7 ⟨64, [(2, vb false)], []⟩ ?_
  refine SRun.nil ?_
  obtain rfl := inj h
  exact Le.sub0
  refine SRun.ck tbok 12 ⟨64, [(2, vb false)], []⟩ ?_
  refine SRun.nil ?_
  obtain rfl := inj h
  exact Le.sub0
  refine swp_ret ?_
  obtain rfl := inj h
  exact q_br (q_rr (q_fr (f1 fv)))
  refine swp_skip ?_
  obtain rfl := inj h
  exact q_bn (q_l (Le.sub0))
  refine srk tbok ⟨64, [(2, vb false)], []⟩ ?_
  refine swp_ret ?_
  obtain rfl := inj h
  exact q_fr (f1 fv)
theorem ents103 : Ents Tryz.prog 103 := ents_of Tryz.func103 (by kernel_rfl) rfl
noncomputable def impl_siteCode_1 (aD : Description) : Option (Bool) :=
  ((impl_IsDescription aD).bind fun x1 => some (!x1))
theorem impl_siteCode_1_run (aD : Description) (r : Bool) (h : impl_siteCode_1 aD = some r) : SCall Tryz.prog 102 [.v (.agg (tc eDescription aD))] ⟨[.v (vb r)], [], false⟩ := by
  refine scall_in Tryz.func102 rfl [(.tmp 2)] rfl (fun r => ⟨[.v (vb r)], [], false⟩) (r := r) ?_
  unfold impl_siteCode_1 at h
  refine srk tbok ⟨6, [(1, .ref 1 0)], [(1, .box (tc eDescription aD))]⟩ ?_
  refine sr ?_
  refine SRun.ck tbok 1 ⟨6, [(3, .agg (tc eDescription aD))], []⟩ ?_
  obtain ⟨x1, hx1, h⟩ := bind_some h
  refine SRun.ls (xc ents103 (impl_IsDescription_run aD _ hx1)) ?_
  refine ckn tbok 2 ⟨6, [(2, vb (!x1))], []⟩ ?_
  refine swp_ret ?_
  obtain rfl := inj h
  exact q_fr (f1 fv)
theorem ents102 : Ents Tryz.prog 102 := ents_of Tryz.func102 (by kernel_rfl) rfl
noncomputable def slices_IndexFunc_Description_impl_siteCode_1 (aS : (List Description)) : Option (Int) :=
  (((forN (aS.length : Int) (fun (i3 : Int) (_ : Unit) => ((at' aS i3).bind fun x7 => ((impl_siteCode_1 x7).bind fun x8 => (bif x8 then some (.inr (.inr i3)) else some (.inl ()))))) (fun (_ : Unit) => .inl ()) 0 ())).bind (Sum.elim (fun (_ : Unit) => some (-1)) some))
theorem slices_IndexFunc_Description_impl_siteCode_1_run (aS : (List Description)) (r : Int) (h : slices_IndexFunc_Description_impl_siteCode_1 aS = some r) : SCall Tryz.prog 140 [.v (vl eDescription aS), .v (.clo 102 [])] ⟨[.v (vi r)], [], false⟩ := by
  refine scall_in Tryz.func140 rfl [(.tmp 4)] rfl (fun r => ⟨[.v (vi r)], [], false⟩) (r := r) ?_
  unfold slices_IndexFunc_Description_impl_siteCode_1 at h
  refine srk tbok ⟨19, [(0, vl eDescription aS), (1, .clo 102 [])], []⟩ ?_
  refine swp_seq ?_
  refine srk tbok ⟨19, [(0, vl eDescription aS), (1, .clo 102 []), (7, vi (aS.length : Int)), (8, vi 0)], []⟩ ?_
  refine swp_seqE (r := r) h (fun j1 => ⟨19, [], []⟩) (fun v2 h => ?_) (fun j1 h => ?_)
  refine swp_blk (a := v2) ?_
  refine swp_lpL (r := v2) (s := (0, ())) _ (fun s3 => ⟨19, [(0, vl eDescription aS), (1, .clo 102 []), (7, vi (aS.length : Int)), (8, vi s3.1)], []⟩) _ (Le.sub0) h (fun s3 v4 h => ?_)
  refine srk tbok ⟨19, [(0, vl eDescription aS), (1, .clo 102 []), (7, vi (aS.length : Int)), (8, vi s3.1), (9, vb (decide (s3.1 < (aS.length : Int))))], []⟩ ?_
  refine swp_seq ?_
  refine swp_cd h (fun h => ?_) fun h => ?_
  refine swp_skip ?_
  refine nx_n ?_
  refine swp_seq ?_
  refine swp_seqL (r := v4) h (fun j5 => ⟨19, [(0, vl eDescription aS), (1, .clo 102 []), (7, vi (aS.length : Int)), (8, vi s3.1)], []⟩) (fun v6 h => ?_) (fun j5 h => ?_)
  refine swp_blk (a := v6) ?_
  refine srk tbok ⟨19, [(0, vl eDescription aS), (1, .clo 102 []), (5, vi s3.1), (7, vi (aS.length : Int)), (8, vi s3.1)], []⟩ ?_
  refine sr ?_
  refine SRun.ck tbok 3 ⟨19, [(0, vl eDescription aS), (1, .clo 102 []), (5, vi s3.1), (7, vi (aS.length : Int)), (8, vi s3.1), (11, .clo 102 []), (12, vl eDescription aS), (13, vi s3.1)], []⟩ ?_
  obtain ⟨x7, hx7, h⟩ := bind_some h
  refine SRun.ls (x_index (L := aS) (f := eDescription) (ti := ti35) (tj := ti84) (e := 84) (k := .i64) tbok rfl hx7) ?_
  refine SRun.ck tbok 1 ⟨19, [(0, vl eDescription aS), (1, .clo 102 []), (5, vi s3.1), (7, vi (aS.length : Int)), (8, vi s3.1), (11, .clo 102 []), (15, .agg (tc eDescription x7))], []⟩ ?_
  obtain ⟨x8, hx8, h⟩ := bind_some h
  refine SRun.ls (xc ents102 (impl_siteCode_1_run x7 _ hx8)) ?_
  refine SRun.nx ?_
  refine swp_cd h (fun h => ?_) fun h => ?_
  refine srk tbok ⟨19, [(4, vi s3.1)], []⟩ ?_
  refine swp_ret ?_
  obtain rfl := inj h
  exact q_br (q_rr (q_rr (q_br (q_rr (q_fr (f1 fv))))))
  refine swp_skip ?_
  obtain rfl := inj h
  exact q_bn (q_l (Le.sub0))
  refine swp_reg ?_
  refine SRun.ck tbok 2 ⟨19, [(0, vl eDescription aS), (1, .clo 102 []), (7, vi (aS.length : Int)), (8, vi (w64 (s3.1 + 1)))], []⟩ ?_
  refine SRun.nil ?_
  obtain rfl := inj h
  exact q_l (Le.sub0)
  refine swp_exit ?_
  obtain rfl := inj h
  exact nx_e (q_re (q_bh (q_l (Le.sub0))))
  refine srk tbok ⟨19, [(4, vi (-1))], []⟩ ?_
  refine swp_ret ?_
  obtain rfl := inj h
  exact q_fr (f1 fv)
theorem ents140 : Ents Tryz.prog 140 := ents_of Tryz.func140 (by kernel_rfl) rfl
noncomputable def slices_ContainsFunc_Description_impl_siteCode_1 (aS : (List Description)) : Option (Bool) :=
  ((slices_IndexFunc_Description_impl_siteCode_1 aS).bind fun x1 => some (decide (x1 ≥ 0)))
theorem slices_ContainsFunc_Description_impl_siteCode_1_run (aS : (List Description)) (r : Bool) (h : slices_ContainsFunc_Description_impl_siteCode_1 aS = some r) : SCall Tryz.prog 101 [.v (vl eDescription aS), .v (.clo 102 [])] ⟨[.v (vb r)], [], false⟩ := by
  refine scall_in Tryz.func101 rfl [(.tmp 4)] rfl (fun r => ⟨[.v (vb r)], [], false⟩) (r := r) ?_
  unfold slices_ContainsFunc_Description_impl_siteCode_1 at h
  refine srk tbok ⟨9, [(0, vl eDescription aS), (1, .clo 102 [])], []⟩ ?_
  refine sr ?_
  refine SRun.ck tbok 2 ⟨9, [(5, vl eDescription aS), (6, .clo 102 [])], []⟩ ?_
  obtain ⟨x1, hx1, h⟩ := bind_some h
  refine SRun.ls (xc ents140 (slices_IndexFunc_Description_impl_siteCode_1_run aS _ hx1)) ?_
  refine ckn tbok 2 ⟨9, [(4, vb (decide (x1 ≥ 0)))], []⟩ ?_
  refine swp_ret ?_
  obtain rfl := inj h
  exact q_fr (f1 fv)
theorem ents101 : Ents Tryz.prog 101 := ents_of Tryz.func101 (by kernel_rfl) rfl
noncomputable def impl_Description_places (aD : Description) : Option ((List ByteArray)) :=
  (bif (aD.Kind == 3) then some ([aD.A, aD.B] : List ByteArray) else some ([aD.A] : List ByteArray))
theorem impl_Description_places_run (aD : Description) (r : (List ByteArray)) (h : impl_Description_places aD = some r) : SCall Tryz.prog 104 [.v (.agg (tc eDescription aD))] ⟨[.own 9 1 r.length (r.map eS)], [], false⟩ := by
  refine scall_in Tryz.func104 rfl [(.tmp 2)] rfl (fun r => ⟨[.own 9 1 r.length (r.map eS)], [], false⟩) (r := r) ?_
  unfold impl_Description_places at h
  refine srk tbok ⟨14, [(1, .ref 1 0)], [(1, .box (tc eDescription aD))]⟩ ?_
  refine swp_seq ?_
  refine srk tbok ⟨14, [(1, .ref 1 0), (5, vb (aD.Kind == 3))], [(1, .box (tc eDescription aD))]⟩ ?_
  refine swp_cd h (fun h => ?_) fun h => ?_
  refine srk tbok ⟨14, [(2, .own 10)], [(10, oa 9 1 eS ([aD.A, aD.B] : List ByteArray))]⟩ ?_
  refine swp_ret ?_
  obtain rfl := inj h
  exact nx_r (q_fr (f1 (fo eS_flat)))
  refine swp_skip ?_
  refine nx_n ?_
  refine srk tbok ⟨14, [(2, .own 13)], [(13, oa 9 1 eS ([aD.A] : List ByteArray))]⟩ ?_
  refine swp_ret ?_
  obtain rfl := inj h
  exact q_fr (f1 (fo eS_flat))
theorem ents104 : Ents Tryz.prog 104 := ents_of Tryz.func104 (by kernel_rfl) rfl
theorem strings_Compare_run (s c : ByteArray) (r : Int) (h : strings_Compare s c = some r) : SCall Tryz.prog 129 [.v (.tr (.str s)), .v (.tr (.str c))] ⟨[.v (.tr (.int .i64 r))], [], false⟩ := compare_run Tryz.lays106 129 rfl s c r h
theorem ents129 : Ents Tryz.prog 129 := ents_of Tryz.func129 (by kernel_rfl) rfl
noncomputable def impl_findSite_1 (aS : Site) (aCode : ByteArray) : Option (Int) :=
  ((strings_Compare aS.Code aCode).bind fun x1 => some x1)
theorem impl_findSite_1_run (aS : Site) (aCode : ByteArray) (r : Int) (h : impl_findSite_1 aS aCode = some r) : SCall Tryz.prog 143 [.v (.agg (tc eSite aS)), .v (vs aCode)] ⟨[.v (vi r)], [], false⟩ := by
  refine scall_in Tryz.func143 rfl [(.tmp 4)] rfl (fun r => ⟨[.v (vi r)], [], false⟩) (r := r) ?_
  unfold impl_findSite_1 at h
  refine srk tbok ⟨9, [(1, vs aCode), (2, .ref 2 0)], [(2, .box (tc eSite aS))]⟩ ?_
  refine sr ?_
  refine SRun.ck tbok 3 ⟨9, [(6, vs aS.Code), (7, vs aCode)], []⟩ ?_
  obtain ⟨x1, hx1, h⟩ := bind_some h
  refine SRun.ls (xc ents129 (strings_Compare_run aS.Code aCode _ hx1)) ?_
  refine ckn tbok 1 ⟨9, [(4, vi x1)], []⟩ ?_
  refine swp_ret ?_
  obtain rfl := inj h
  exact q_fr (f1 fv)
theorem ents143 : Ents Tryz.prog 143 := ents_of Tryz.func143 (by kernel_rfl) rfl
noncomputable def slices_BinarySearchFunc_string_impl_findSite_1 (aX : (List Site)) (aTarget : ByteArray) : Option (Int × Bool) :=
  (((loop (fun (s3 : Int × Int) => (bif (decide (s3.1 < s3.2)) then ((at' aX (w64 (Int.fdiv (IntKind.wrap .u64 (w64 (s3.1 + s3.2))) (2 ^ 1)))).bind fun x5 => ((impl_findSite_1 x5 aTarget).bind fun x6 => (bif (decide (x6 < 0)) then some (.inl ((w64 ((w64 (Int.fdiv (IntKind.wrap .u64 (w64 (s3.1 + s3.2))) (2 ^ 1))) + 1)), s3.2)) else some (.inl (s3.1, (w64 (Int.fdiv (IntKind.wrap .u64 (w64 (s3.1 + s3.2))) (2 ^ 1)))))))) else some (.inr s3.1))) (0, (aX.length : Int)))).bind fun (j1 : Int) => (((bif (decide (j1 < (aX.length : Int))) then ((at' aX j1).bind fun x7 => ((impl_findSite_1 x7 aTarget).bind fun x8 => some (x8 == 0))) else some false)).bind fun (j9 : Bool) => some (j1, j9)))
theorem slices_BinarySearchFunc_string_impl_findSite_1_run (aX : (List Site)) (aTarget : ByteArray) (r : Int × Bool) (h : slices_BinarySearchFunc_string_impl_findSite_1 aX aTarget = some r) : SCall Tryz.prog 142 [.v (vl eSite aX), .v (vs aTarget), .v (.clo 143 [])] ⟨[.v (vi r.1), .v (vb r.2)], [], false⟩ := by
  refine scall_in Tryz.func142 rfl [(.tmp 6), (.tmp 7)] rfl (fun r => ⟨[.v (vi r.1), .v (vb r.2)], [], false⟩) (r := r) ?_
  unfold slices_BinarySearchFunc_string_impl_findSite_1 at h
  refine srk tbok ⟨49, [(0, vl eSite aX), (1, vs aTarget), (2, .clo 143 [])], []⟩ ?_
  refine srk tbok ⟨49, [(0, vl eSite aX), (1, vs aTarget), (2, .clo 143 []), (8, vi (aX.length : Int))], []⟩ ?_
  refine srk tbok ⟨49, [(0, vl eSite aX), (1, vs aTarget), (2, .clo 143 []), (8, vi (aX.length : Int)), (9, vi 0), (10, vi (aX.length : Int))], []⟩ ?_
  refine swp_seq ?_
  refine swp_seqJ h (fun j1 => ⟨49, [(0, vl eSite aX), (1, vs aTarget), (2, .clo 143 []), (8, vi (aX.length : Int)), (9, vi j1)], []⟩) (fun v2 h => ?_) (fun j1 h => ?_)
  refine swp_blk (a := v2) ?_
  refine swp_lpL (r := v2) (s := (0, (aX.length : Int))) _ (fun s3 => ⟨49, [(0, vl eSite aX), (1, vs aTarget), (2, .clo 143 []), (8, vi (aX.length : Int)), (9, vi s3.1), (10, vi s3.2)], []⟩) _ (Le.sub0) h (fun s3 v4 h => ?_)
  refine swp_seq ?_
  refine srk tbok ⟨49, [(0, vl eSite aX), (1, vs aTarget), (2, .clo 143 []), (8, vi (aX.length : Int)), (9, vi s3.1), (10, vi s3.2), (17, vb (decide (s3.1 < s3.2)))], []⟩ ?_
  refine swp_cd h (fun h => ?_) fun h => ?_
  refine swp_skip ?_
  refine nx_n ?_
  refine swp_blk (a := v4) ?_
  refine srk tbok ⟨49, [(0, vl eSite aX), (1, vs aTarget), (2, .clo 143 []), (8, vi (aX.length : Int)), (9, vi s3.1), (10, vi s3.2), (11, vi (w64 (Int.fdiv (IntKind.wrap .u64 (w64 (s3.1 + s3.2))) (2 ^ 1))))], []⟩ ?_
  refine sr ?_
  refine SRun.ck tbok 3 ⟨49, [(0, vl eSite aX), (1, vs aTarget), (2, .clo 143 []), (8, vi (aX.length : Int)), (9, vi s3.1), (10, vi s3.2), (11, vi (w64 (Int.fdiv (IntKind.wrap .u64 (w64 (s3.1 + s3.2))) (2 ^ 1)))), (24, .clo 143 []), (25, vl eSite aX), (26, vi (w64 (Int.fdiv (IntKind.wrap .u64 (w64 (s3.1 + s3.2))) (2 ^ 1))))], []⟩ ?_
  obtain ⟨x5, hx5, h⟩ := bind_some h
  refine SRun.ls (x_index (L := aX) (f := eSite) (ti := ti33) (tj := ti92) (e := 92) (k := .i64) tbok rfl hx5) ?_
  refine SRun.ck tbok 2 ⟨49, [(0, vl eSite aX), (1, vs aTarget), (2, .clo 143 []), (8, vi (aX.length : Int)), (9, vi s3.1), (10, vi s3.2), (11, vi (w64 (Int.fdiv (IntKind.wrap .u64 (w64 (s3.1 + s3.2))) (2 ^ 1)))), (24, .clo 143 []), (28, .agg (tc eSite x5)), (29, vs aTarget)], []⟩ ?_
  obtain ⟨x6, hx6, h⟩ := bind_some h
  refine SRun.ls (xc ents143 (impl_findSite_1_run x5 aTarget _ hx6)) ?_
  refine ckn tbok 1 ⟨49, [(0, vl eSite aX), (1, vs aTarget), (2, .clo 143 []), (8, vi (aX.length : Int)), (9, vi s3.1), (10, vi s3.2), (11, vi (w64 (Int.fdiv (IntKind.wrap .u64 (w64 (s3.1 + s3.2))) (2 ^ 1)))), (31, vb (decide (x6 < 0)))], []⟩ ?_
  refine swp_cd h (fun h => ?_) fun h => ?_
  refine swp_reg ?_
  refine SRun.ck tbok 3 ⟨49, [(0, vl eSite aX), (1, vs aTarget), (2, .clo 143 []), (8, vi (aX.length : Int)), (9, vi (w64 ((w64 (Int.fdiv (IntKind.wrap .u64 (w64 (s3.1 + s3.2))) (2 ^ 1))) + 1))), (10, vi s3.2)], []⟩ ?_
  refine SRun.nil ?_
  obtain rfl := inj h
  exact q_bn (q_l (Le.sub0))
  refine swp_reg ?_
  refine SRun.ck tbok 2 ⟨49, [(0, vl eSite aX), (1, vs aTarget), (2, .clo 143 []), (8, vi (aX.length : Int)), (9, vi s3.1), (10, vi (w64 (Int.fdiv (IntKind.wrap .u64 (w64 (s3.1 + s3.2))) (2 ^ 1))))], []⟩ ?_
  refine SRun.nil ?_
  obtain rfl := inj h
  exact q_bn (q_l (Le.sub0))
  refine swp_exit ?_
  obtain rfl := inj h
  exact nx_e (q_re (q_bh (q_j (Le.sub0))))
  refine swp_seq ?_
  refine swp_regJ h (fun j9 => ⟨49, [(6, vi j1), (7, vb j9)], []⟩) (fun v10 h => ?_) (fun j9 h => ?_)
  refine SRun.ck tbok 5 ⟨49, [(0, vl eSite aX), (1, vs aTarget), (2, .clo 143 []), (9, vi j1), (35, vi j1), (39, vb (decide (j1 < (aX.length : Int))))], []⟩ ?_
  refine SRun.cu [(39, fun b => b)] h (fun h => ?_) fun h => ?_
  refine SRun.ck tbok 3 ⟨49, [(1, vs aTarget), (35, vi j1), (39, vb true), (40, .clo 143 []), (41, vl eSite aX), (42, vi j1)], []⟩ ?_
  obtain ⟨x7, hx7, h⟩ := bind_some h
  refine SRun.ls (x_index (L := aX) (f := eSite) (ti := ti33) (tj := ti92) (e := 92) (k := .i64) tbok rfl hx7) ?_
  refine SRun.ck tbok 2 ⟨49, [(35, vi j1), (39, vb true), (40, .clo 143 []), (44, .agg (tc eSite x7)), (45, vs aTarget)], []⟩ ?_
  obtain ⟨x8, hx8, h⟩ := bind_some h
  refine SRun.ls (xc ents143 (impl_findSite_1_run x7 aTarget _ hx8)) ?_
  refine SRun.ck tbok 4 ⟨49, [(6, vi j1), (7, vb (x8 == 0))], []⟩ ?_
  refine SRun.nil ?_
  obtain rfl := inj h
  exact Le.sub0
  refine SRun.ck tbok 11 ⟨49, [(6, vi j1), (7, vb false)], []⟩ ?_
  refine SRun.nil ?_
  obtain rfl := inj h
  exact Le.sub0
  refine swp_ret ?_
  obtain rfl := inj h
  exact q_fr (f2 fv fv)
theorem ents142 : Ents Tryz.prog 142 := ents_of Tryz.func142 (by kernel_rfl) rfl
noncomputable def impl_findSite (aList : (List Site)) (aCode : ByteArray) : Option (Point × Bool) :=
  ((slices_BinarySearchFunc_string_impl_findSite_1 aList aCode).bind fun x1 => (bif (!x1.2) then some ((Point.mk 0 0), false) else ((at' aList x1.1).bind fun x2 => some (x2.At, true))))
theorem impl_findSite_run (aList : (List Site)) (aCode : ByteArray) (r : Point × Bool) (h : impl_findSite aList aCode = some r) : SCall Tryz.prog 105 [.v (vl eSite aList), .v (vs aCode)] ⟨[.v (.agg (tc ePoint r.1)), .v (vb r.2)], [], false⟩ := by
  refine scall_in Tryz.func105 rfl [(.cell 4 85), (.tmp 5)] rfl (fun r => ⟨[.v (.agg (tc ePoint r.1)), .v (vb r.2)], [], false⟩) (r := r) ?_
  unfold impl_findSite at h
  refine srk tbok ⟨22, [(0, vl eSite aList), (1, vs aCode), (4, .ref 4 0)], [(4, .box [vi 0, vi 0])]⟩ ?_
  refine sr ?_
  refine SRun.ck tbok 2 ⟨22, [(0, vl eSite aList), (4, .ref 4 0), (9, vl eSite aList), (10, vs aCode)], [(4, .box [vi 0, vi 0])]⟩ ?_
  obtain ⟨x1, hx1, h⟩ := bind_some h
  refine SRun.ls (xc ents142 (slices_BinarySearchFunc_string_impl_findSite_1_run aList aCode _ hx1)) ?_
  refine ckn tbok 5 ⟨22, [(0, vl eSite aList), (4, .ref 4 0), (6, vi x1.1), (7, vb x1.2)], [(4, .box [vi 0, vi 0])]⟩ ?_
  refine swp_seq ?_
  refine srk tbok ⟨22, [(0, vl eSite aList), (4, .ref 4 0), (6, vi x1.1), (15, vb (!x1.2))], [(4, .box [vi 0, vi 0])]⟩ ?_
  refine swp_cd h (fun h => ?_) fun h => ?_
  refine sr ?_
  refine SRun.ls (x_lstep_build (v := .agg [vi 0, vi 0]) tbok rfl) ?_
  refine ckn tbok 2 ⟨22, [(4, .ref 4 0), (5, vb false)], [(4, .box [vi 0, vi 0])]⟩ ?_
  refine swp_ret ?_
  obtain rfl := inj h
  exact nx_r (q_fr (f2 (fc tbok) fv))
  refine swp_skip ?_
  refine nx_n ?_
  refine sr ?_
  refine SRun.ck tbok 2 ⟨22, [(4, .ref 4 0), (17, vl eSite aList), (18, vi x1.1)], [(4, .box [vi 0, vi 0])]⟩ ?_
  obtain ⟨x2, hx2, h⟩ := bind_some h
  refine SRun.ls (x_index (L := aList) (f := eSite) (ti := ti33) (tj := ti92) (e := 92) (k := .i64) tbok rfl hx2) ?_
  refine ckn tbok 4 ⟨22, [(4, .ref 4 0), (5, vb true)], [(4, .box (tc ePoint x2.At))]⟩ ?_
  refine swp_ret ?_
  obtain rfl := inj h
  exact q_fr (f2 (fc tbok) fv)
theorem ents105 : Ents Tryz.prog 105 := ents_of Tryz.func105 (by kernel_rfl) rfl
noncomputable def impl_siteCode (aList : (List Site)) (aDescriptions : (List Description)) (aOk : Bool) : Option (Int) :=
  ((((impl_AreSites aList).bind fun x1 => (bif (!x1) then some true else (bif (!aOk) then some true else ((slices_ContainsFunc_Description_impl_siteCode_1 aDescriptions).bind fun x2 => some x2))))).bind fun (j3 : Bool) => (bif j3 then some 1 else (((forN (aDescriptions.length : Int) (fun (i7 : Int) (_ : Unit) => ((at' aDescriptions i7).bind fun x11 => ((impl_Description_places x11).bind fun x12 => (forN (x12.length : Int) (fun (i13 : Int) (_ : Unit) => ((at' x12 i13).bind fun x17 => ((impl_findSite aList x17).bind fun x18 => (bif (!x18.2) then some (.inr (.inr (.inr 4))) else some (.inl ()))))) (fun (_ : Unit) => .inl ()) 0 ())))) (fun (_ : Unit) => .inl ()) 0 ())).bind (Sum.elim (fun (_ : Unit) => (bif (decide ((aDescriptions.length : Int) > 8)) then some 3 else some 0)) some))))
theorem impl_siteCode_run (aList : (List Site)) (aDescriptions : (List Description)) (aOk : Bool) (r : Int) (h : impl_siteCode aList aDescriptions aOk = some r) : SCall Tryz.prog 58 [.v (vl eSite aList), .v (vl eDescription aDescriptions), .v (vb aOk)] ⟨[.v (vi r)], [], false⟩ := by
  refine scall_in Tryz.func58 rfl [(.tmp 6)] rfl (fun r => ⟨[.v (vi r)], [], false⟩) (r := r) ?_
  unfold impl_siteCode at h
  refine srk tbok ⟨50, [(0, vl eSite aList), (1, vl eDescription aDescriptions), (2, vb aOk)], []⟩ ?_
  refine swp_seq ?_
  refine swp_seq ?_
  refine swp_regJ h (fun j3 => ⟨50, [(0, vl eSite aList), (1, vl eDescription aDescriptions), (23, vb j3)], []⟩) (fun v4 h => ?_) (fun j3 h => ?_)
  refine SRun.ck tbok 1 ⟨50, [(0, vl eSite aList), (1, vl eDescription aDescriptions), (2, vb aOk), (13, vl eSite aList)], []⟩ ?_
  obtain ⟨x1, hx1, h⟩ := bind_some h
  refine SRun.ls (xc ents100 (impl_AreSites_run aList _ hx1)) ?_
  refine SRun.ck tbok 2 ⟨50, [(0, vl eSite aList), (1, vl eDescription aDescriptions), (2, vb aOk), (16, vb (!x1))], []⟩ ?_
  refine SRun.cu [(16, fun b => b)] h (fun h => ?_) fun h => ?_
  refine SRun.ck tbok 7 ⟨50, [(0, vl eSite aList), (1, vl eDescription aDescriptions), (23, vb true)], []⟩ ?_
  refine SRun.nil ?_
  obtain rfl := inj h
  exact Le.sub0
  refine SRun.ck tbok 4 ⟨50, [(0, vl eSite aList), (1, vl eDescription aDescriptions), (20, vb (!aOk))], []⟩ ?_
  refine SRun.cu [(20, fun b => b)] h (fun h => ?_) fun h => ?_
  refine SRun.ck tbok 3 ⟨50, [(0, vl eSite aList), (1, vl eDescription aDescriptions), (23, vb true)], []⟩ ?_
  refine SRun.nil ?_
  obtain rfl := inj h
  exact Le.sub0
  refine SRun.ck tbok 1 ⟨50, [(0, vl eSite aList), (1, vl eDescription aDescriptions), (20, vb false), (21, vl eDescription aDescriptions)], []⟩ ?_
  obtain ⟨x2, hx2, h⟩ := bind_some h
  refine SRun.ls (xc ents101 (slices_ContainsFunc_Description_impl_siteCode_1_run aDescriptions _ hx2)) ?_
  refine SRun.ck tbok 1 ⟨50, [(0, vl eSite aList), (1, vl eDescription aDescriptions), (23, vb x2)], []⟩ ?_
  refine SRun.nil ?_
  obtain rfl := inj h
  exact Le.sub0
  refine swp_cd h (fun h => ?_) fun h => ?_
  refine srk tbok ⟨50, [(6, vi 1)], []⟩ ?_
  refine swp_ret ?_
  obtain rfl := inj h
  exact nx_r (q_fr (f1 fv))
  refine swp_skip ?_
  refine nx_n ?_
  refine swp_seq ?_
  refine srk tbok ⟨50, [(0, vl eSite aList), (1, vl eDescription aDescriptions), (24, vl eDescription aDescriptions), (25, vi (aDescriptions.length : Int)), (26, vi 0)], []⟩ ?_
  refine swp_seqE (r := r) h (fun j5 => ⟨50, [(1, vl eDescription aDescriptions)], []⟩) (fun v6 h => ?_) (fun j5 h => ?_)
  refine swp_blk (a := v6) ?_
  refine swp_lpL (r := v6) (s := (0, ())) _ (fun s7 => ⟨50, [(0, vl eSite aList), (1, vl eDescription aDescriptions), (24, vl eDescription aDescriptions), (25, vi (aDescriptions.length : Int)), (26, vi s7.1)], []⟩) _ (Le.sub0) h (fun s7 v8 h => ?_)
  refine srk tbok ⟨50, [(0, vl eSite aList), (1, vl eDescription aDescriptions), (24, vl eDescription aDescriptions), (25, vi (aDescriptions.length : Int)), (26, vi s7.1), (27, vb (decide (s7.1 < (aDescriptions.length : Int))))], []⟩ ?_
  refine swp_seq ?_
  refine swp_cd h (fun h => ?_) fun h => ?_
  refine swp_skip ?_
  refine nx_n ?_
  refine swp_seq ?_
  refine swp_seqL (r := v8) h (fun j9 => ⟨50, [(0, vl eSite aList), (1, vl eDescription aDescriptions), (24, vl eDescription aDescriptions), (25, vi (aDescriptions.length : Int)), (26, vi s7.1)], []⟩) (fun v10 h => ?_) (fun j9 h => ?_)
  refine swp_blk (a := v10) ?_
  refine sr ?_
  obtain ⟨x11, hx11, h⟩ := bind_some h
  refine SRun.ls (x_index (L := aDescriptions) (f := eDescription) (ti := ti35) (tj := ti84) (e := 84) (k := .i64) tbok rfl hx11) ?_
  refine ckn tbok 3 ⟨50, [(0, vl eSite aList), (1, vl eDescription aDescriptions), (8, .ref 8 0), (24, vl eDescription aDescriptions), (25, vi (aDescriptions.length : Int)), (26, vi s7.1)], [(8, .box (tc eDescription x11))]⟩ ?_
  refine sr ?_
  refine SRun.ck tbok 1 ⟨50, [(0, vl eSite aList), (1, vl eDescription aDescriptions), (24, vl eDescription aDescriptions), (25, vi (aDescriptions.length : Int)), (26, vi s7.1), (30, .agg (tc eDescription x11))], []⟩ ?_
  obtain ⟨x12, hx12, h⟩ := bind_some h
  refine SRun.ls (xc ents104 (impl_Description_places_run x11 _ hx12)) ?_
  refine ckn tbok 2 ⟨50, [(0, vl eSite aList), (1, vl eDescription aDescriptions), (24, vl eDescription aDescriptions), (25, vi (aDescriptions.length : Int)), (26, vi s7.1), (31, .own 31), (32, vi (x12.length : Int)), (33, vi 0)], [(31, oa 9 1 eS x12)]⟩ ?_
  refine swp_blk (a := v10) ?_
  refine swp_lpL (r := v10) (s := (0, ())) _ (fun s13 => ⟨50, [(0, vl eSite aList), (1, vl eDescription aDescriptions), (24, vl eDescription aDescriptions), (25, vi (aDescriptions.length : Int)), (26, vi s7.1), (31, .own 31), (32, vi (x12.length : Int)), (33, vi s13.1)], [(31, oa 9 1 eS x12)]⟩) _ (Le.sub0) h (fun s13 v14 h => ?_)
  refine srk tbok ⟨50, [(0, vl eSite aList), (1, vl eDescription aDescriptions), (24, vl eDescription aDescriptions), (25, vi (aDescriptions.length : Int)), (26, vi s7.1), (31, .own 31), (32, vi (x12.length : Int)), (33, vi s13.1), (34, vb (decide (s13.1 < (x12.length : Int))))], [(31, oa 9 1 eS x12)]⟩ ?_
  refine swp_seq ?_
  refine swp_cd h (fun h => ?_) fun h => ?_
  refine swp_skip ?_
  refine nx_n ?_
  refine swp_seq ?_
  refine swp_seqL (r := v14) h (fun j15 => ⟨50, [(0, vl eSite aList), (1, vl eDescription aDescriptions), (24, vl eDescription aDescriptions), (25, vi (aDescriptions.length : Int)), (26, vi s7.1), (31, .own 31), (32, vi (x12.length : Int)), (33, vi s13.1)], [(31, oa 9 1 eS x12)]⟩) (fun v16 h => ?_) (fun j15 h => ?_)
  refine swp_blk (a := v16) ?_
  refine sr ?_
  obtain ⟨x17, hx17, h⟩ := bind_some h
  refine SRun.ls (x_index_own (d := 31) (L := x12) (f := eS) (ti := ti28) (tj := ti9) (e := 9) (e' := 9) (m := 1) (k := .i64) tbok rfl hx17) ?_
  refine SRun.ls (x_load_own (d := 31) (m := 1) (j := 0) (L := x12) (f := eS) (ti := ti9) (e := 9) (v := vs x17) tbok rfl hx17) ?_
  refine ckn tbok 1 ⟨50, [(0, vl eSite aList), (1, vl eDescription aDescriptions), (10, vs x17), (24, vl eDescription aDescriptions), (25, vi (aDescriptions.length : Int)), (26, vi s7.1), (31, .own 31), (32, vi (x12.length : Int)), (33, vi s13.1)], [(31, oa 9 1 eS x12)]⟩ ?_
  refine sr ?_
  refine SRun.ck tbok 2 ⟨50, [(0, vl eSite aList), (1, vl eDescription aDescriptions), (24, vl eDescription aDescriptions), (25, vi (aDescriptions.length : Int)), (26, vi s7.1), (31, .own 31), (32, vi (x12.length : Int)), (33, vi s13.1), (38, vl eSite aList), (39, vs x17)], [(31, oa 9 1 eS x12)]⟩ ?_
  obtain ⟨x18, hx18, h⟩ := bind_some h
  refine SRun.ls (xc ents105 (impl_findSite_run aList x17 _ hx18)) ?_
  refine ckn tbok 6 ⟨50, [(0, vl eSite aList), (1, vl eDescription aDescriptions), (12, vb x18.2), (24, vl eDescription aDescriptions), (25, vi (aDescriptions.length : Int)), (26, vi s7.1), (31, .own 31), (32, vi (x12.length : Int)), (33, vi s13.1)], [(31, oa 9 1 eS x12)]⟩ ?_
  refine srk tbok ⟨50, [(0, vl eSite aList), (1, vl eDescription aDescriptions), (24, vl eDescription aDescriptions), (25, vi (aDescriptions.length : Int)), (26, vi s7.1), (31, .own 31), (32, vi (x12.length : Int)), (33, vi s13.1), (44, vb (!x18.2))], [(31, oa 9 1 eS x12)]⟩ ?_
  refine swp_cd h (fun h => ?_) fun h => ?_
  refine srk tbok ⟨50, [(6, vi 4)], []⟩ ?_
  refine swp_ret ?_
  obtain rfl := inj h
  exact q_br (q_rr (q_rr (q_br (q_br (q_rr (q_rr (q_br (q_rr (q_fr (f1 fv))))))))))
  refine swp_skip ?_
  obtain rfl := inj h
  exact q_bn (q_l (Le.sub0))
  refine swp_reg ?_
  refine SRun.ck tbok 2 ⟨50, [(0, vl eSite aList), (1, vl eDescription aDescriptions), (24, vl eDescription aDescriptions), (25, vi (aDescriptions.length : Int)), (26, vi s7.1), (31, .own 31), (32, vi (x12.length : Int)), (33, vi (w64 (s13.1 + 1)))], [(31, oa 9 1 eS x12)]⟩ ?_
  refine SRun.nil ?_
  obtain rfl := inj h
  exact q_l (Le.sub0)
  refine swp_exit ?_
  obtain rfl := inj h
  exact nx_e (q_re (q_bh (q_bn (q_l (Le.sub0)))))
  refine swp_reg ?_
  refine SRun.ck tbok 2 ⟨50, [(0, vl eSite aList), (1, vl eDescription aDescriptions), (24, vl eDescription aDescriptions), (25, vi (aDescriptions.length : Int)), (26, vi (w64 (s7.1 + 1)))], []⟩ ?_
  refine SRun.nil ?_
  obtain rfl := inj h
  exact q_l (Le.sub0)
  refine swp_exit ?_
  obtain rfl := inj h
  exact nx_e (q_re (q_bh (q_l (Le.sub0))))
  refine swp_seq ?_
  refine srk tbok ⟨50, [(49, vb (decide ((aDescriptions.length : Int) > 8)))], []⟩ ?_
  refine swp_cd h (fun h => ?_) fun h => ?_
  refine srk tbok ⟨50, [(6, vi 3)], []⟩ ?_
  refine swp_ret ?_
  obtain rfl := inj h
  exact nx_r (q_fr (f1 fv))
  refine swp_skip ?_
  refine nx_n ?_
  refine srk tbok ⟨50, [(6, vi 0)], []⟩ ?_
  refine swp_ret ?_
  obtain rfl := inj h
  exact q_fr (f1 fv)
theorem ents58 : Ents Tryz.prog 58 := ents_of Tryz.func58 (by kernel_rfl) rfl
noncomputable def impl_squared (aA : Point) (aB : Point) : Option (Int) :=
  some (w64 ((w64 ((w64 (aA.X - aB.X)) * (w64 (aA.X - aB.X)))) + (w64 ((w64 (aA.Y - aB.Y)) * (w64 (aA.Y - aB.Y))))))
theorem impl_squared_run (aA : Point) (aB : Point) (r : Int) (h : impl_squared aA aB = some r) : SCall Tryz.prog 108 [.v (.agg (tc ePoint aA)), .v (.agg (tc ePoint aB))] ⟨[.v (vi r)], [], false⟩ := by
  refine scall_in Tryz.func108 rfl [(.tmp 4)] rfl (fun r => ⟨[.v (vi r)], [], false⟩) (r := r) ?_
  unfold impl_squared at h
  refine srk tbok ⟨28, [(2, .ref 2 0), (3, .ref 3 0)], [(2, .box (tc ePoint aA)), (3, .box (tc ePoint aB))]⟩ ?_
  refine srk tbok ⟨28, [(4, vi (w64 ((w64 ((w64 (aA.X - aB.X)) * (w64 (aA.X - aB.X)))) + (w64 ((w64 (aA.Y - aB.Y)) * (w64 (aA.Y - aB.Y)))))))], []⟩ ?_
  refine swp_ret ?_
  obtain rfl := inj h
  exact q_fr (f1 fv)
theorem ents108 : Ents Tryz.prog 108 := ents_of Tryz.func108 (by kernel_rfl) rfl
noncomputable def internal_stringslite_HasPrefix (aS : ByteArray) (aPrefix : ByteArray) : Option (Bool) :=
  (((bif (decide ((aS.size : Int) ≥ (aPrefix.size : Int))) then ((sub' aS 0 (aPrefix.size : Int)).bind fun x1 => some (x1.toList == aPrefix.toList)) else some false)).bind fun (j2 : Bool) => some j2)
theorem internal_stringslite_HasPrefix_run (aS : ByteArray) (aPrefix : ByteArray) (r : Bool) (h : internal_stringslite_HasPrefix aS aPrefix = some r) : SCall Tryz.prog 203 [.v (vs aS), .v (vs aPrefix)] ⟨[.v (vb r)], [], false⟩ := by
  refine scall_in Tryz.func203 rfl [(.tmp 4)] rfl (fun r => ⟨[.v (vb r)], [], false⟩) (r := r) ?_
  unfold internal_stringslite_HasPrefix at h
  refine srk tbok ⟨18, [(0, vs aS), (1, vs aPrefix)], []⟩ ?_
  refine swp_seq ?_
  refine swp_regJ h (fun j2 => ⟨18, [(4, vb j2)], []⟩) (fun v3 h => ?_) (fun j2 h => ?_)
  refine SRun.ck tbok 6 ⟨18, [(0, vs aS), (1, vs aPrefix), (10, vb (decide ((aS.size : Int) ≥ (aPrefix.size : Int))))], []⟩ ?_
  refine SRun.cu [(10, fun b => b)] h (fun h => ?_) fun h => ?_
  refine SRun.ck tbok 3 ⟨18, [(1, vs aPrefix), (10, vb true), (11, vs aS), (13, vi (aPrefix.size : Int))], []⟩ ?_
  obtain ⟨x1, hx1, h⟩ := bind_some h
  refine SRun.ls (x_sub (ti := ti9) hx1 tbok rfl) ?_
  refine SRun.ck tbok 4 ⟨18, [(4, vb (x1.toList == aPrefix.toList))], []⟩ ?_
  refine SRun.nil ?_
  obtain rfl := inj h
  exact Le.sub0
  refine SRun.ck tbok 8 ⟨18, [(4, vb false)], []⟩ ?_
  refine SRun.nil ?_
  obtain rfl := inj h
  exact Le.sub0
  refine swp_ret ?_
  obtain rfl := inj h
  exact q_fr (f1 fv)
theorem ents203 : Ents Tryz.prog 203 := ents_of Tryz.func203 (by kernel_rfl) rfl
noncomputable def strings_HasPrefix (aS : ByteArray) (aPrefix : ByteArray) : Option (Bool) :=
  ((internal_stringslite_HasPrefix aS aPrefix).bind fun x1 => some x1)
theorem strings_HasPrefix_run (aS : ByteArray) (aPrefix : ByteArray) (r : Bool) (h : strings_HasPrefix aS aPrefix = some r) : SCall Tryz.prog 165 [.v (vs aS), .v (vs aPrefix)] ⟨[.v (vb r)], [], false⟩ := by
  refine scall_in Tryz.func165 rfl [(.tmp 4)] rfl (fun r => ⟨[.v (vb r)], [], false⟩) (r := r) ?_
  unfold strings_HasPrefix at h
  refine srk tbok ⟨8, [(0, vs aS), (1, vs aPrefix)], []⟩ ?_
  refine sr ?_
  refine SRun.ck tbok 2 ⟨8, [(5, vs aS), (6, vs aPrefix)], []⟩ ?_
  obtain ⟨x1, hx1, h⟩ := bind_some h
  refine SRun.ls (xc ents203 (internal_stringslite_HasPrefix_run aS aPrefix _ hx1)) ?_
  refine ckn tbok 1 ⟨8, [(4, vb x1)], []⟩ ?_
  refine swp_ret ?_
  obtain rfl := inj h
  exact q_fr (f1 fv)
theorem ents165 : Ents Tryz.prog 165 := ents_of Tryz.func165 (by kernel_rfl) rfl
noncomputable def impl_Description_steps (aD : Description) : Option (Int) :=
  ((strings_HasPrefix aD.Unit (ByteArray.mk #[109, 105, 108, 101])).bind fun x1 => (bif x1 then some (w64 (4 * aD.Count)) else some (w64 (12 * aD.Count))))
theorem impl_Description_steps_run (aD : Description) (r : Int) (h : impl_Description_steps aD = some r) : SCall Tryz.prog 144 [.v (.agg (tc eDescription aD))] ⟨[.v (vi r)], [], false⟩ := by
  refine scall_in Tryz.func144 rfl [(.tmp 2)] rfl (fun r => ⟨[.v (vi r)], [], false⟩) (r := r) ?_
  unfold impl_Description_steps at h
  refine srk tbok ⟨12, [(1, .ref 1 0)], [(1, .box (tc eDescription aD))]⟩ ?_
  refine swp_seq ?_
  refine sr ?_
  refine SRun.ck tbok 2 ⟨12, [(1, .ref 1 0), (4, vs aD.Unit)], [(1, .box (tc eDescription aD))]⟩ ?_
  obtain ⟨x1, hx1, h⟩ := bind_some h
  refine SRun.ls (xc ents165 (strings_HasPrefix_run aD.Unit (ByteArray.mk #[109, 105, 108, 101]) _ hx1)) ?_
  refine SRun.nx ?_
  refine swp_cd h (fun h => ?_) fun h => ?_
  refine srk tbok ⟨12, [(2, vi (w64 (4 * aD.Count)))], []⟩ ?_
  refine swp_ret ?_
  obtain rfl := inj h
  exact nx_r (q_fr (f1 fv))
  refine swp_skip ?_
  refine nx_n ?_
  refine srk tbok ⟨12, [(2, vi (w64 (12 * aD.Count)))], []⟩ ?_
  refine swp_ret ?_
  obtain rfl := inj h
  exact q_fr (f1 fv)
theorem ents144 : Ents Tryz.prog 144 := ents_of Tryz.func144 (by kernel_rfl) rfl
noncomputable def impl_abs (aX : Int) : Option (Int) :=
  some (maxI aX (w64 (0 - aX)))
theorem impl_abs_run (aX : Int) (r : Int) (h : impl_abs aX = some r) : SCall Tryz.prog 146 [.v (vi aX)] ⟨[.v (vi r)], [], false⟩ := by
  refine scall_in Tryz.func146 rfl [(.tmp 2)] rfl (fun r => ⟨[.v (vi r)], [], false⟩) (r := r) ?_
  unfold impl_abs at h
  refine srk tbok ⟨7, [(0, vi aX)], []⟩ ?_
  refine srk tbok ⟨7, [(2, vi (maxI aX (w64 (0 - aX))))], []⟩ ?_
  refine swp_ret ?_
  obtain rfl := inj h
  exact q_fr (f1 fv)
theorem ents146 : Ents Tryz.prog 146 := ents_of Tryz.func146 (by kernel_rfl) rfl
noncomputable def impl_sign (aX : Int) : Option (Int) :=
  some (maxI (-1) (minI 1 aX))
theorem impl_sign_run (aX : Int) (r : Int) (h : impl_sign aX = some r) : SCall Tryz.prog 166 [.v (vi aX)] ⟨[.v (vi r)], [], false⟩ := by
  refine scall_in Tryz.func166 rfl [(.tmp 2)] rfl (fun r => ⟨[.v (vi r)], [], false⟩) (r := r) ?_
  unfold impl_sign at h
  refine srk tbok ⟨6, [(0, vi aX)], []⟩ ?_
  refine srk tbok ⟨6, [(2, vi (maxI (-1) (minI 1 aX)))], []⟩ ?_
  refine swp_ret ?_
  obtain rfl := inj h
  exact q_fr (f1 fv)
theorem ents166 : Ents Tryz.prog 166 := ents_of Tryz.func166 (by kernel_rfl) rfl
noncomputable def impl_direction (aA : Point) (aB : Point) : Option (Int) :=
  ((((impl_abs (w64 (aB.X - aA.X))).bind fun x3 => ((impl_abs (w64 (aB.Y - aA.Y))).bind fun x4 => (bif (decide ((w64 (2 * x3)) < x4)) then some (0, (w64 (aB.Y - aA.Y))) else ((impl_abs (w64 (aB.Y - aA.Y))).bind fun x5 => ((impl_abs (w64 (aB.X - aA.X))).bind fun x6 => (bif (decide ((w64 (2 * x5)) < x6)) then some ((w64 (aB.X - aA.X)), 0) else some ((w64 (aB.X - aA.X)), (w64 (aB.Y - aA.Y)))))))))).bind fun (j1 : Int × Int) => ((impl_sign j1.2).bind fun x7 => ((impl_sign j1.1).bind fun x8 => ((arr' 3 (w64 (x7 + 1))).bind fun _ => ((arr' 3 (w64 (x8 + 1))).bind fun _ => ((arrN 9 ((0 + (Int.toNat (w64 (x7 + 1))) * 3) + (Int.toNat (w64 (x8 + 1))) * 1)).bind fun _ => some (pickI [5, 4, 3, 6, 0, 2, 7, 0, 1] ((0 + (Int.toNat (w64 (x7 + 1))) * 3) + (Int.toNat (w64 (x8 + 1))) * 1))))))))
theorem impl_direction_run (aA : Point) (aB : Point) (r : Int) (h : impl_direction aA aB = some r) : SCall Tryz.prog 145 [.v (.agg (tc ePoint aA)), .v (.agg (tc ePoint aB))] ⟨[.v (vi r)], [], false⟩ := by
  refine scall_in Tryz.func145 rfl [(.tmp 4)] rfl (fun r => ⟨[.v (vi r)], [], false⟩) (r := r) ?_
  unfold impl_direction at h
  refine srk tbok ⟨45, [(2, .ref 2 0), (3, .ref 3 0)], [(2, .box (tc ePoint aA)), (3, .box (tc ePoint aB))]⟩ ?_
  refine swp_seq ?_
  refine swp_dr mixed ?_
  refine DGo.ck tbok false 12 ⟨45, [(5, vi (w64 (aB.X - aA.X))), (6, vi (w64 (aB.Y - aA.Y)))], []⟩ ?_
  refine DGo.nx ?_
  refine swp_seq ?_
  refine swp_seqJ h (fun j1 => ⟨45, [(5, vi j1.1), (6, vi j1.2)], []⟩) (fun v2 h => ?_) (fun j1 h => ?_)
  refine swp_blk (a := v2) ?_
  refine sr ?_
  refine SRun.ck tbok 1 ⟨45, [(5, vi (w64 (aB.X - aA.X))), (6, vi (w64 (aB.Y - aA.Y))), (19, vi (w64 (aB.X - aA.X)))], []⟩ ?_
  obtain ⟨x3, hx3, h⟩ := bind_some h
  refine SRun.ls (xc ents146 (impl_abs_run (w64 (aB.X - aA.X)) _ hx3)) ?_
  refine SRun.ck tbok 2 ⟨45, [(5, vi (w64 (aB.X - aA.X))), (6, vi (w64 (aB.Y - aA.Y))), (21, vi (w64 (2 * x3))), (22, vi (w64 (aB.Y - aA.Y)))], []⟩ ?_
  obtain ⟨x4, hx4, h⟩ := bind_some h
  refine SRun.ls (xc ents146 (impl_abs_run (w64 (aB.Y - aA.Y)) _ hx4)) ?_
  refine ckn tbok 2 ⟨45, [(5, vi (w64 (aB.X - aA.X))), (6, vi (w64 (aB.Y - aA.Y))), (18, vb (decide ((w64 (2 * x3)) < x4)))], []⟩ ?_
  refine swp_cd h (fun h => ?_) fun h => ?_
  refine swp_reg ?_
  refine SRun.ck tbok 1 ⟨45, [(5, vi 0), (6, vi (w64 (aB.Y - aA.Y)))], []⟩ ?_
  refine SRun.nil ?_
  obtain rfl := inj h
  exact q_bn (q_j (Le.sub0))
  refine sr ?_
  refine SRun.ck tbok 1 ⟨45, [(5, vi (w64 (aB.X - aA.X))), (6, vi (w64 (aB.Y - aA.Y))), (26, vi (w64 (aB.Y - aA.Y)))], []⟩ ?_
  obtain ⟨x5, hx5, h⟩ := bind_some h
  refine SRun.ls (xc ents146 (impl_abs_run (w64 (aB.Y - aA.Y)) _ hx5)) ?_
  refine SRun.ck tbok 2 ⟨45, [(5, vi (w64 (aB.X - aA.X))), (6, vi (w64 (aB.Y - aA.Y))), (28, vi (w64 (2 * x5))), (29, vi (w64 (aB.X - aA.X)))], []⟩ ?_
  obtain ⟨x6, hx6, h⟩ := bind_some h
  refine SRun.ls (xc ents146 (impl_abs_run (w64 (aB.X - aA.X)) _ hx6)) ?_
  refine ckn tbok 2 ⟨45, [(5, vi (w64 (aB.X - aA.X))), (6, vi (w64 (aB.Y - aA.Y))), (25, vb (decide ((w64 (2 * x5)) < x6)))], []⟩ ?_
  refine swp_cd h (fun h => ?_) fun h => ?_
  refine swp_reg ?_
  refine SRun.ck tbok 1 ⟨45, [(5, vi (w64 (aB.X - aA.X))), (6, vi 0)], []⟩ ?_
  refine SRun.nil ?_
  obtain rfl := inj h
  exact q_bn (q_j (Le.sub0))
  refine swp_skip ?_
  obtain rfl := inj h
  exact q_bn (q_j (Le.sub0))
  refine sr ?_
  refine SRun.ls (x_lstep_build (v := .agg [vi 5, vi 4, vi 3]) tbok rfl) ?_
  refine SRun.ls (x_lstep_build (v := .agg [vi 6, vi 0, vi 2]) tbok rfl) ?_
  refine SRun.ls (x_lstep_build (v := .agg [vi 7, vi 0, vi 1]) tbok rfl) ?_
  refine SRun.ls (x_lstep_build (v := .agg [vi 5, vi 4, vi 3, vi 6, vi 0, vi 2, vi 7, vi 0, vi 1]) tbok rfl) ?_
  refine ckn tbok 2 ⟨45, [(5, vi j1.1), (6, vi j1.2), (7, .ref 7 0)], [(7, .box [vi 5, vi 4, vi 3, vi 6, vi 0, vi 2, vi 7, vi 0, vi 1])]⟩ ?_
  refine swp_seq ?_
  refine swp_dr mixed ?_
  refine DGo.ck tbok false 1 ⟨45, [(5, vi j1.1), (7, .ref 7 0), (36, vi j1.2)], [(7, .box [vi 5, vi 4, vi 3, vi 6, vi 0, vi 2, vi 7, vi 0, vi 1])]⟩ ?_
  obtain ⟨x7, hx7, h⟩ := bind_some h
  refine DGo.step (xc ents166 (impl_sign_run j1.2 _ hx7)) ?_
  refine DGo.ck tbok false 2 ⟨45, [(7, .ref 7 0), (38, vi (w64 (x7 + 1))), (39, vi j1.1)], [(7, .box [vi 5, vi 4, vi 3, vi 6, vi 0, vi 2, vi 7, vi 0, vi 1])]⟩ ?_
  obtain ⟨x8, hx8, h⟩ := bind_some h
  refine DGo.step (xc ents166 (impl_sign_run j1.1 _ hx8)) ?_
  refine DGo.ck tbok false 1 ⟨45, [(7, .ref 7 0), (38, vi (w64 (x7 + 1))), (41, vi (w64 (x8 + 1)))], [(7, .box [vi 5, vi 4, vi 3, vi 6, vi 0, vi 2, vi 7, vi 0, vi 1])]⟩ ?_
  obtain ⟨x9, hx9, h⟩ := bind_some h
  refine DGo.step (lstep_indexA (d := 7) (q := 0) (n := 3) (e := 187) (m := 3) (k := .i64) (ti := ti188) (tj := ti187) tbok rfl hx9) ?_
  obtain ⟨x10, hx10, h⟩ := bind_some h
  refine DGo.step (lstep_indexA (d := 7) (q := (0 + (Int.toNat (w64 (x7 + 1))) * 3)) (n := 3) (e := 2) (m := 1) (k := .i64) (ti := ti187) (tj := ti2) tbok rfl hx10) ?_
  obtain ⟨x11, hx11, h⟩ := bind_some h
  refine DGo.step (lstep_load_sym (d := 7) (q := ((0 + (Int.toNat (w64 (x7 + 1))) * 3) + (Int.toNat (w64 (x8 + 1))) * 1)) (k := .i64) (ti := ti2) tbok rfl [5, 4, 3, 6, 0, 2, 7, 0, 1] hx11 (fun _ _ => rfl)) ?_
  refine DGo.ck tbok false 1 ⟨45, [(4, vi (pickI [5, 4, 3, 6, 0, 2, 7, 0, 1] ((0 + (Int.toNat (w64 (x7 + 1))) * 3) + (Int.toNat (w64 (x8 + 1))) * 1)))], []⟩ ?_
  refine DGo.nx ?_
  refine swp_ret ?_
  obtain rfl := inj h
  exact q_fr (f1 fv)
theorem ents145 : Ents Tryz.prog 145 := ents_of Tryz.func145 (by kernel_rfl) rfl
noncomputable def impl_Description_isFrom (aD : Description) (aA : Point) (aP : Point) : Option (Bool) :=
  ((impl_Description_steps aD).bind fun x1 => ((impl_squared aA aP).bind fun x2 => (((bif ((aP.X == aA.X) && (aP.Y == aA.Y)) then some true else ((impl_within (w64 (16 * x2)) (w64 ((w64 (9 * x1)) * x1)) (w64 ((w64 (25 * x1)) * x1))).bind fun x3 => some (!x3)))).bind fun (j4 : Bool) => (bif j4 then some false else ((impl_direction aA aP).bind fun x6 => some (((Int.tmod (w64 ((w64 (x6 - aD.Direction)) + 8)) 8) == 0) || (((Int.tmod (w64 ((w64 (x6 - aD.Direction)) + 8)) 8) == 1) || ((Int.tmod (w64 ((w64 (x6 - aD.Direction)) + 8)) 8) == 7))))))))
theorem impl_Description_isFrom_run (aD : Description) (aA : Point) (aP : Point) (r : Bool) (h : impl_Description_isFrom aD aA aP = some r) : SCall Tryz.prog 109 [.v (.agg (tc eDescription aD)), .v (.agg (tc ePoint aA)), .v (.agg (tc ePoint aP))] ⟨[.v (vb r)], [], false⟩ := by
  refine scall_in Tryz.func109 rfl [(.tmp 6)] rfl (fun r => ⟨[.v (vb r)], [], false⟩) (r := r) ?_
  unfold impl_Description_isFrom at h
  refine srk tbok ⟨50, [(3, .ref 3 0), (4, .ref 4 0), (5, .ref 5 0)], [(3, .box (tc eDescription aD)), (4, .box (tc ePoint aA)), (5, .box (tc ePoint aP))]⟩ ?_
  refine swp_seq ?_
  refine swp_dr mixed ?_
  refine DGo.ck tbok false 1 ⟨50, [(3, .ref 3 0), (4, .ref 4 0), (5, .ref 5 0), (10, .agg (tc eDescription aD))], [(3, .box (tc eDescription aD)), (4, .box (tc ePoint aA)), (5, .box (tc ePoint aP))]⟩ ?_
  obtain ⟨x1, hx1, h⟩ := bind_some h
  refine DGo.step (xc ents144 (impl_Description_steps_run aD _ hx1)) ?_
  refine DGo.ck tbok false 2 ⟨50, [(3, .ref 3 0), (4, .ref 4 0), (5, .ref 5 0), (11, vi x1), (12, .agg (tc ePoint aA)), (13, .agg (tc ePoint aP))], [(3, .box (tc eDescription aD)), (4, .box (tc ePoint aA)), (5, .box (tc ePoint aP))]⟩ ?_
  obtain ⟨x2, hx2, h⟩ := bind_some h
  refine DGo.step (xc ents108 (impl_squared_run aA aP _ hx2)) ?_
  refine DGo.ck tbok false 2 ⟨50, [(3, .ref 3 0), (4, .ref 4 0), (5, .ref 5 0), (7, vi x1), (8, vi x2)], [(3, .box (tc eDescription aD)), (4, .box (tc ePoint aA)), (5, .box (tc ePoint aP))]⟩ ?_
  refine DGo.nx ?_
  refine swp_seq ?_
  refine swp_seq ?_
  refine swp_regJ h (fun j4 => ⟨50, [(3, .ref 3 0), (4, .ref 4 0), (5, .ref 5 0), (31, vb j4)], [(3, .box (tc eDescription aD)), (4, .box (tc ePoint aA)), (5, .box (tc ePoint aP))]⟩) (fun v5 h => ?_) (fun j4 h => ?_)
  refine SRun.ck tbok 2 ⟨50, [(3, .ref 3 0), (4, .ref 4 0), (5, .ref 5 0), (7, vi x1), (8, vi x2), (15, .agg (tc ePoint aP)), (16, .agg (tc ePoint aA))], [(3, .box (tc eDescription aD)), (4, .box (tc ePoint aA)), (5, .box (tc ePoint aP))]⟩ ?_
  refine SRun.ls (x_lstep_eq tbok false (xs := [vi aP.X, vi aP.Y]) (ys := [vi aA.X, vi aA.Y]) (b := ((aP.X == aA.X) && (aP.Y == aA.Y))) rfl) ?_
  refine SRun.ck tbok 1 ⟨50, [(3, .ref 3 0), (4, .ref 4 0), (5, .ref 5 0), (7, vi x1), (8, vi x2), (18, vb ((aP.X == aA.X) && (aP.Y == aA.Y)))], [(3, .box (tc eDescription aD)), (4, .box (tc ePoint aA)), (5, .box (tc ePoint aP))]⟩ ?_
  refine SRun.cu [(18, fun b => b)] h (fun h => ?_) fun h => ?_
  refine SRun.ck tbok 13 ⟨50, [(3, .ref 3 0), (4, .ref 4 0), (5, .ref 5 0), (31, vb true)], [(3, .box (tc eDescription aD)), (4, .box (tc ePoint aA)), (5, .box (tc ePoint aP))]⟩ ?_
  refine SRun.nil ?_
  obtain rfl := inj h
  exact Le.sub0
  refine SRun.ck tbok 10 ⟨50, [(3, .ref 3 0), (4, .ref 4 0), (5, .ref 5 0), (18, vb false), (20, vi (w64 (16 * x2))), (24, vi (w64 ((w64 (9 * x1)) * x1))), (28, vi (w64 ((w64 (25 * x1)) * x1)))], [(3, .box (tc eDescription aD)), (4, .box (tc ePoint aA)), (5, .box (tc ePoint aP))]⟩ ?_
  obtain ⟨x3, hx3, h⟩ := bind_some h
  refine SRun.ls (xc ents135 (impl_within_run (w64 (16 * x2)) (w64 ((w64 (9 * x1)) * x1)) (w64 ((w64 (25 * x1)) * x1)) _ hx3)) ?_
  refine SRun.ck tbok 2 ⟨50, [(3, .ref 3 0), (4, .ref 4 0), (5, .ref 5 0), (31, vb (!x3))], [(3, .box (tc eDescription aD)), (4, .box (tc ePoint aA)), (5, .box (tc ePoint aP))]⟩ ?_
  refine SRun.nil ?_
  obtain rfl := inj h
  exact Le.sub0
  refine swp_cd h (fun h => ?_) fun h => ?_
  refine srk tbok ⟨50, [(6, vb false)], []⟩ ?_
  refine swp_ret ?_
  obtain rfl := inj h
  exact nx_r (q_fr (f1 fv))
  refine swp_skip ?_
  refine nx_n ?_
  refine swp_seq ?_
  refine swp_dr mixed ?_
  refine DGo.ck tbok false 2 ⟨50, [(3, .ref 3 0), (32, .agg (tc ePoint aA)), (33, .agg (tc ePoint aP))], [(3, .box (tc eDescription aD))]⟩ ?_
  obtain ⟨x6, hx6, h⟩ := bind_some h
  refine DGo.step (xc ents145 (impl_direction_run aA aP _ hx6)) ?_
  refine DGo.ck tbok false 6 ⟨50, [(9, vi (Int.tmod (w64 ((w64 (x6 - aD.Direction)) + 8)) 8))], []⟩ ?_
  refine DGo.nx ?_
  refine swp_seq ?_
  refine swp_regP ⟨50, [(6, vb (((Int.tmod (w64 ((w64 (x6 - aD.Direction)) + 8)) 8) == 0) || (((Int.tmod (w64 ((w64 (x6 - aD.Direction)) + 8)) 8) == 1) || ((Int.tmod (w64 ((w64 (x6 - aD.Direction)) + 8)) 8) == 7))))], []⟩ ?_ ?_
  refine SRun.ck tbok 3 ⟨50, [(9, vi (Int.tmod (w64 ((w64 (x6 - aD.Direction)) + 8)) 8)), (42, vb ((Int.tmod (w64 ((w64 (x6 - aD.Direction)) + 8)) 8) == 0))], []⟩ ?_
  generalize ((Int.tmod (w64 ((w64 (x6 - aD.Direction)) + 8)) 8) == 0) = bb
  cases bb
  refine SRun.ck tbok 4 ⟨50, [(9, vi (Int.tmod (w64 ((w64 (x6 - aD.Direction)) + 8)) 8)), (46, vb ((Int.tmod (w64 ((w64 (x6 - aD.Direction)) + 8)) 8) == 1))], []⟩ ?_
  generalize ((Int.tmod (w64 ((w64 (x6 - aD.Direction)) + 8)) 8) == 1) = bb
  cases bb
  refine SRun.ck tbok 4 ⟨50, [(6, vb ((Int.tmod (w64 ((w64 (x6 - aD.Direction)) + 8)) 8) == 7))], []⟩ ?_
  exact SRun.nil (Le.sub0)
  refine SRun.ck tbok 4 ⟨50, [(6, vb true)], []⟩ ?_
  exact SRun.nil (Le.sub0)
  refine SRun.ck tbok 8 ⟨50, [(6, vb true)], []⟩ ?_
  exact SRun.nil (Le.sub0)
  refine swp_ret ?_
  obtain rfl := inj h
  exact q_fr (f1 fv)
theorem ents109 : Ents Tryz.prog 109 := ents_of Tryz.func109 (by kernel_rfl) rfl
noncomputable def impl_turn (aA : Point) (aB : Point) (aC : Point) : Option (Int) :=
  some (w64 ((w64 ((w64 (aB.X - aA.X)) * (w64 (aC.Y - aA.Y)))) - (w64 ((w64 (aB.Y - aA.Y)) * (w64 (aC.X - aA.X))))))
theorem impl_turn_run (aA : Point) (aB : Point) (aC : Point) (r : Int) (h : impl_turn aA aB aC = some r) : SCall Tryz.prog 147 [.v (.agg (tc ePoint aA)), .v (.agg (tc ePoint aB)), .v (.agg (tc ePoint aC))] ⟨[.v (vi r)], [], false⟩ := by
  refine scall_in Tryz.func147 rfl [(.tmp 6)] rfl (fun r => ⟨[.v (vi r)], [], false⟩) (r := r) ?_
  unfold impl_turn at h
  refine srk tbok ⟨30, [(3, .ref 3 0), (4, .ref 4 0), (5, .ref 5 0)], [(3, .box (tc ePoint aA)), (4, .box (tc ePoint aB)), (5, .box (tc ePoint aC))]⟩ ?_
  refine srk tbok ⟨30, [(6, vi (w64 ((w64 ((w64 (aB.X - aA.X)) * (w64 (aC.Y - aA.Y)))) - (w64 ((w64 (aB.Y - aA.Y)) * (w64 (aC.X - aA.X)))))))], []⟩ ?_
  refine swp_ret ?_
  obtain rfl := inj h
  exact q_fr (f1 fv)
theorem ents147 : Ents Tryz.prog 147 := ents_of Tryz.func147 (by kernel_rfl) rfl
end Go.Proofs.YtodgenjlhiiieaaGreatDoor.Sh
