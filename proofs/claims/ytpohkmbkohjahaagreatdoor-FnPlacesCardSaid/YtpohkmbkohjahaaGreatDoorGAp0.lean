/- Typed functions and the calls that do what they say. -/
import Derived.Test.YtpohkmbkohjahaaGreatDoorSE
import Derived.Test.YtpohkmbkohjahaaGreatDoorKA
import Derived.Test.YtpohkmbkohjahaaGreatDoorKC
import Derived.Test.YtpohkmbkohjahaaGreatDoorKJ
import Derived.Test.YtpohkmbkohjahaaGreatDoorKM
import Derived.Test.YtpohkmbkohjahaaGreatDoorKS
import Derived.Test.YtpohkmbkohjahaaGreatDoorH1
namespace Go.Proofs.YtpohkmbkohjahaaGreatDoor.Sh
open Go.RowKit
set_option maxRecDepth 100000
set_option maxHeartbeats 4000000
structure Span where
  From : Int
  To : Int
def eSpan (x : Span) : List Tr := [.int .i64 x.From, .int .i64 x.To]
structure Name where
  Text : ByteArray
  Language : ByteArray
  Status : Int
  Years : Span
def eName (x : Name) : List Tr := [.str x.Text, .str x.Language, .int .i64 x.Status, .int .i64 x.Years.From, .int .i64 x.Years.To]
theorem eName_flat (x : Name) : ∀ t ∈ eName x, t.flat = true := by simp [eName, Tr.flat]
structure Place where
  Code : ByteArray
  Class : Int
  Years : Span
  Names : (List Name)
def ePlace (x : Place) : List Tr := [.str x.Code, .int .i64 x.Class, .int .i64 x.Years.From, .int .i64 x.Years.To, .sl x.Names.length (x.Names.map eName)]
def ti2 : TI := ⟨1, 8, .int .i64, [.int .i64 0]⟩
def ti3 : TI := ⟨1, 8, .int .i64, [.int .i64 0]⟩
def ti4 : TI := ⟨1, 1, .bool, [.bool false]⟩
def ti5 : TI := ⟨1, 1, .int .u8, [.int .u8 0]⟩
def ti9 : TI := ⟨1, 16, .str, [.str (ByteArray.mk #[])]⟩
def ti22 : TI := ⟨1, 24, .slice 35, [.sl ([] : List Place).length (([] : List Place).map ePlace)]⟩
def ti24 : TI := ⟨1, 24, .slice 41, [.sl ([] : List Place).length (([] : List Place).map ePlace)]⟩
def ti32 : TI := ⟨2, 16, .struct [(0, 2), (1, 2)], [.int .i64 0, .int .i64 0]⟩
def ti33 : TI := ⟨1, 24, .slice 112, [.sl ([] : List Name).length (([] : List Name).map eName)]⟩
def ti35 : TI := ⟨5, 64, .struct [(0, 9), (1, 2), (2, 32), (4, 33)], [.str (ByteArray.mk #[]), .int .i64 0, .int .i64 0, .int .i64 0, .sl ([] : List Name).length (([] : List Name).map eName)]⟩
def ti38 : TI := ⟨2, 16, .struct [(0, 2), (1, 2)], [.int .i64 0, .int .i64 0]⟩
def ti39 : TI := ⟨1, 24, .slice 95, [.sl ([] : List Name).length (([] : List Name).map eName)]⟩
def ti41 : TI := ⟨5, 64, .struct [(0, 9), (1, 2), (2, 38), (4, 39)], [.str (ByteArray.mk #[]), .int .i64 0, .int .i64 0, .int .i64 0, .sl ([] : List Name).length (([] : List Name).map eName)]⟩
def ti46 : TI := ⟨1, 24, .slice 5, [.sl ([] : List Int).length (([] : List Int).map (eI .u8))]⟩
def ti53 : TI := ⟨1, 24, .slice 9, [.sl ([] : List ByteArray).length (([] : List ByteArray).map eS)]⟩
def ti95 : TI := ⟨5, 56, .struct [(0, 9), (1, 9), (2, 2), (3, 38)], [.str (ByteArray.mk #[]), .str (ByteArray.mk #[]), .int .i64 0, .int .i64 0, .int .i64 0]⟩
def ti112 : TI := ⟨5, 56, .struct [(0, 9), (1, 9), (2, 2), (3, 32)], [.str (ByteArray.mk #[]), .str (ByteArray.mk #[]), .int .i64 0, .int .i64 0, .int .i64 0]⟩
def ti131 : TI := ⟨1, 8, .int .u64, [.int .u64 0]⟩
def tbl : Tb := [(2, ti2), (3, ti3), (4, ti4), (5, ti5), (9, ti9), (22, ti22), (24, ti24), (32, ti32), (33, ti33), (35, ti35), (38, ti38), (39, ti39), (41, ti41), (46, ti46), (53, ti53), (95, ti95), (112, ti112), (131, ti131)]
theorem tbok : TbOk Tryz.prog tbl := TbOk.cons ⟨by kernel_rfl, show Tryz.prog.underlying 2 = some (.int .i64) from by kernel_rfl⟩ (TbOk.cons ⟨by kernel_rfl, show Tryz.prog.underlying 3 = some (.int .i64) from by kernel_rfl⟩ (TbOk.cons ⟨by kernel_rfl, show Tryz.prog.underlying 4 = some (.bool) from by kernel_rfl⟩ (TbOk.cons ⟨by kernel_rfl, show Tryz.prog.underlying 5 = some (.int .u8) from by kernel_rfl⟩ (TbOk.cons ⟨by kernel_rfl, show Tryz.prog.underlying 9 = some (.string) from by kernel_rfl⟩ (TbOk.cons ⟨by kernel_rfl, show Tryz.prog.underlying 22 = some (.slice 35) from by kernel_rfl⟩ (TbOk.cons ⟨by kernel_rfl, show Tryz.prog.underlying 24 = some (.slice 41) from by kernel_rfl⟩ (TbOk.cons ⟨by kernel_rfl, show structOf Tryz.prog 32 = some [(0, 2), (1, 2)] from by kernel_rfl⟩ (TbOk.cons ⟨by kernel_rfl, show Tryz.prog.underlying 33 = some (.slice 112) from by kernel_rfl⟩ (TbOk.cons ⟨by kernel_rfl, show structOf Tryz.prog 35 = some [(0, 9), (1, 2), (2, 32), (4, 33)] from by kernel_rfl⟩ (TbOk.cons ⟨by kernel_rfl, show structOf Tryz.prog 38 = some [(0, 2), (1, 2)] from by kernel_rfl⟩ (TbOk.cons ⟨by kernel_rfl, show Tryz.prog.underlying 39 = some (.slice 95) from by kernel_rfl⟩ (TbOk.cons ⟨by kernel_rfl, show structOf Tryz.prog 41 = some [(0, 9), (1, 2), (2, 38), (4, 39)] from by kernel_rfl⟩ (TbOk.cons ⟨by kernel_rfl, show Tryz.prog.underlying 46 = some (.slice 5) from by kernel_rfl⟩ (TbOk.cons ⟨by kernel_rfl, show Tryz.prog.underlying 53 = some (.slice 9) from by kernel_rfl⟩ (TbOk.cons ⟨by kernel_rfl, show structOf Tryz.prog 95 = some [(0, 9), (1, 9), (2, 2), (3, 38)] from by kernel_rfl⟩ (TbOk.cons ⟨by kernel_rfl, show structOf Tryz.prog 112 = some [(0, 9), (1, 9), (2, 2), (3, 32)] from by kernel_rfl⟩ (TbOk.cons ⟨by kernel_rfl, show Tryz.prog.underlying 131 = some (.int .u64) from by kernel_rfl⟩ (TbOk.nil _))))))))))))))))))
theorem mixed : Tryz.prog.follows .mixedOrders = true := by kernel_rfl
noncomputable def spec_l01In (aN : Int) (aLow : Int) (aHigh : Int) : Option (Bool) :=
  some ((decide (aN ≥ aLow)) && (decide (aN ≤ aHigh)))
theorem spec_l01In_run (aN : Int) (aLow : Int) (aHigh : Int) (r : Bool) (h : spec_l01In aN aLow aHigh = some r) : SCall Tryz.prog 81 [.v (vi aN), .v (vi aLow), .v (vi aHigh)] ⟨[.v (vb r)], [], false⟩ := by
  refine scall_in Tryz.func81 rfl [(.tmp 6)] rfl (fun r => ⟨[.v (vb r)], [], false⟩) (r := r) ?_
  unfold spec_l01In at h
  refine srk tbok ⟨15, [(0, vi aN), (1, vi aLow), (2, vi aHigh)], []⟩ ?_
  refine swp_seq ?_
  refine swp_regP ⟨15, [(6, vb ((decide (aN ≥ aLow)) && (decide (aN ≤ aHigh))))], []⟩ ?_ ?_
  refine SRun.ck tbok 4 ⟨15, [(0, vi aN), (2, vi aHigh), (10, vb (decide (aN ≥ aLow)))], []⟩ ?_
  generalize (decide (aN ≥ aLow)) = bb
  cases bb
  refine SRun.ck tbok 5 ⟨15, [(6, vb false)], []⟩ ?_
  exact SRun.nil (Le.sub0)
  refine SRun.ck tbok 5 ⟨15, [(6, vb (decide (aN ≤ aHigh)))], []⟩ ?_
  exact SRun.nil (Le.sub0)
  refine swp_ret ?_
  obtain rfl := inj h
  exact q_fr (f1 fv)
theorem ents81 : Ents Tryz.prog 81 := ents_of Tryz.func81 (by kernel_rfl) rfl
noncomputable def spec_IsWord (aS : ByteArray) : Option (Bool) :=
  (((forN (aS.size : Int) (fun (i3 : Int) (_ : Unit) => ((((byte' aS i3).bind fun x7 => (bif (decide (x7 < 97)) then some true else ((byte' aS i3).bind fun x8 => some (decide (x8 > 122)))))).bind fun (j9 : Bool) => (bif j9 then some (.inr (.inr false)) else some (.inl ())))) (fun (_ : Unit) => .inl ()) 0 ())).bind (Sum.elim (fun (_ : Unit) => ((spec_l01In (aS.size : Int) 1 16).bind fun x11 => some x11)) some))
theorem spec_IsWord_run (aS : ByteArray) (r : Bool) (h : spec_IsWord aS = some r) : SCall Tryz.prog 80 [.v (vs aS)] ⟨[.v (vb r)], [], false⟩ := by
  refine scall_in Tryz.func80 rfl [(.tmp 2)] rfl (fun r => ⟨[.v (vb r)], [], false⟩) (r := r) ?_
  unfold spec_IsWord at h
  refine srk tbok ⟨23, [(0, vs aS)], []⟩ ?_
  refine swp_seq ?_
  refine srk tbok ⟨23, [(0, vs aS), (3, vi 0)], []⟩ ?_
  refine swp_seqE (r := r) h (fun j1 => ⟨23, [(0, vs aS)], []⟩) (fun v2 h => ?_) (fun j1 h => ?_)
  refine swp_blk (a := v2) ?_
  refine swp_lpL (r := v2) (s := (0, ())) _ (fun s3 => ⟨23, [(0, vs aS), (3, vi s3.1)], []⟩) _ (Le.sub0) h (fun s3 v4 h => ?_)
  refine swp_seq ?_
  refine srk tbok ⟨23, [(0, vs aS), (3, vi s3.1), (7, vb (decide (s3.1 < (aS.size : Int))))], []⟩ ?_
  refine swp_cd h (fun h => ?_) fun h => ?_
  refine swp_skip ?_
  refine nx_n ?_
  refine swp_seq ?_
  refine swp_seqL (r := v4) h (fun j5 => ⟨23, [(0, vs aS), (3, vi s3.1)], []⟩) (fun v6 h => ?_) (fun j5 h => ?_)
  refine swp_blk (a := v6) ?_
  refine swp_seq ?_
  refine swp_regJ h (fun j9 => ⟨23, [(0, vs aS), (3, vi s3.1), (19, vb j9)], []⟩) (fun v10 h => ?_) (fun j9 h => ?_)
  refine SRun.ck tbok 2 ⟨23, [(0, vs aS), (3, vi s3.1), (10, vs aS), (11, vi s3.1)], []⟩ ?_
  obtain ⟨x7, hx7, h⟩ := bind_some h
  refine SRun.ls (x_byte (ti := ti9) (k := .i64) hx7 tbok rfl) ?_
  refine SRun.ck tbok 2 ⟨23, [(0, vs aS), (3, vi s3.1), (14, vb (decide (x7 < 97)))], []⟩ ?_
  refine SRun.cu [(14, fun b => b)] h (fun h => ?_) fun h => ?_
  refine SRun.ck tbok 5 ⟨23, [(0, vs aS), (3, vi s3.1), (19, vb true)], []⟩ ?_
  refine SRun.nil ?_
  obtain rfl := inj h
  exact Le.sub0
  refine SRun.ck tbok 2 ⟨23, [(0, vs aS), (3, vi s3.1), (14, vb false), (15, vs aS), (16, vi s3.1)], []⟩ ?_
  obtain ⟨x8, hx8, h⟩ := bind_some h
  refine SRun.ls (x_byte (ti := ti9) (k := .i64) hx8 tbok rfl) ?_
  refine SRun.ck tbok 2 ⟨23, [(0, vs aS), (3, vi s3.1), (19, vb (decide (x8 > 122)))], []⟩ ?_
  refine SRun.nil ?_
  obtain rfl := inj h
  exact Le.sub0
  refine swp_cd h (fun h => ?_) fun h => ?_
  refine srk tbok ⟨23, [(2, vb false)], []⟩ ?_
  refine swp_ret ?_
  obtain rfl := inj h
  exact q_br (q_rr (q_rr (q_br (q_rr (q_fr (f1 fv))))))
  refine swp_skip ?_
  obtain rfl := inj h
  exact q_bn (q_l (Le.sub0))
  refine swp_reg ?_
  refine SRun.ck tbok 3 ⟨23, [(0, vs aS), (3, vi (w64 (s3.1 + 1)))], []⟩ ?_
  refine SRun.nil ?_
  obtain rfl := inj h
  exact q_l (Le.sub0)
  refine swp_exit ?_
  obtain rfl := inj h
  exact nx_e (q_re (q_bh (q_l (Le.sub0))))
  refine sr ?_
  refine SRun.ck tbok 2 ⟨23, [(21, vi (aS.size : Int))], []⟩ ?_
  obtain ⟨x11, hx11, h⟩ := bind_some h
  refine SRun.ls (xc ents81 (spec_l01In_run (aS.size : Int) 1 16 _ hx11)) ?_
  refine ckn tbok 1 ⟨23, [(2, vb x11)], []⟩ ?_
  refine swp_ret ?_
  obtain rfl := inj h
  exact q_fr (f1 fv)
theorem ents80 : Ents Tryz.prog 80 := ents_of Tryz.func80 (by kernel_rfl) rfl
noncomputable def spec_l02Year (aN : Int) : Option (Bool) :=
  ((spec_l01In aN (-3000) 3000).bind fun x1 => some x1)
theorem spec_l02Year_run (aN : Int) (r : Bool) (h : spec_l02Year aN = some r) : SCall Tryz.prog 86 [.v (vi aN)] ⟨[.v (vb r)], [], false⟩ := by
  refine scall_in Tryz.func86 rfl [(.tmp 2)] rfl (fun r => ⟨[.v (vb r)], [], false⟩) (r := r) ?_
  unfold spec_l02Year at h
  refine srk tbok ⟨5, [(0, vi aN)], []⟩ ?_
  refine sr ?_
  refine SRun.ck tbok 1 ⟨5, [(3, vi aN)], []⟩ ?_
  obtain ⟨x1, hx1, h⟩ := bind_some h
  refine SRun.ls (xc ents81 (spec_l01In_run aN (-3000) 3000 _ hx1)) ?_
  refine ckn tbok 1 ⟨5, [(2, vb x1)], []⟩ ?_
  refine swp_ret ?_
  obtain rfl := inj h
  exact q_fr (f1 fv)
theorem ents86 : Ents Tryz.prog 86 := ents_of Tryz.func86 (by kernel_rfl) rfl
noncomputable def spec_IsSpan (aS : Span) : Option (Bool) :=
  ((((spec_l02Year aS.From).bind fun x1 => (bif x1 then ((spec_l02Year aS.To).bind fun x2 => (bif x2 then some (decide (aS.From ≤ aS.To)) else some false)) else some false))).bind fun (j3 : Bool) => some j3)
theorem spec_IsSpan_run (aS : Span) (r : Bool) (h : spec_IsSpan aS = some r) : SCall Tryz.prog 82 [.v (.agg (tc eSpan aS))] ⟨[.v (vb r)], [], false⟩ := by
  refine scall_in Tryz.func82 rfl [(.tmp 2)] rfl (fun r => ⟨[.v (vb r)], [], false⟩) (r := r) ?_
  unfold spec_IsSpan at h
  refine srk tbok ⟨18, [(1, .ref 1 0)], [(1, .box (tc eSpan aS))]⟩ ?_
  refine swp_seq ?_
  refine swp_regJ h (fun j3 => ⟨18, [(2, vb j3)], []⟩) (fun v4 h => ?_) (fun j3 h => ?_)
  refine SRun.ck tbok 2 ⟨18, [(1, .ref 1 0), (4, vi aS.From)], [(1, .box (tc eSpan aS))]⟩ ?_
  obtain ⟨x1, hx1, h⟩ := bind_some h
  refine SRun.ls (xc ents86 (spec_l02Year_run aS.From _ hx1)) ?_
  refine SRun.ck tbok 1 ⟨18, [(1, .ref 1 0), (6, vb x1)], [(1, .box (tc eSpan aS))]⟩ ?_
  refine SRun.cu [(6, fun b => b)] h (fun h => ?_) fun h => ?_
  refine SRun.ck tbok 2 ⟨18, [(1, .ref 1 0), (6, vb true), (8, vi aS.To)], [(1, .box (tc eSpan aS))]⟩ ?_
  obtain ⟨x2, hx2, h⟩ := bind_some h
  refine SRun.ls (xc ents86 (spec_l02Year_run aS.To _ hx2)) ?_
  refine SRun.ck tbok 2 ⟨18, [(1, .ref 1 0), (11, vb x2)], [(1, .box (tc eSpan aS))]⟩ ?_
  refine SRun.cu [(11, fun b => b)] h (fun h => ?_) fun h => ?_
  refine SRun.ck tbok 7 ⟨18, [(2, vb (decide (aS.From ≤ aS.To)))], []⟩ ?_
  refine SRun.nil ?_
  obtain rfl := inj h
  exact Le.sub0
  refine SRun.ck tbok 7 ⟨18, [(2, vb false)], []⟩ ?_
  refine SRun.nil ?_
  obtain rfl := inj h
  exact Le.sub0
  refine SRun.ck tbok 12 ⟨18, [(2, vb false)], []⟩ ?_
  refine SRun.nil ?_
  obtain rfl := inj h
  exact Le.sub0
  refine swp_ret ?_
  obtain rfl := inj h
  exact q_fr (f1 fv)
theorem ents82 : Ents Tryz.prog 82 := ents_of Tryz.func82 (by kernel_rfl) rfl
noncomputable def spec_l01Split (aS : ByteArray) (aBy : Int) : Option ((List ByteArray)) :=
  (((forH (fun (i3 : Int) (_ : Int × (List ByteArray)) => (decide (i3 ≤ (aS.size : Int)))) (fun (i3 : Int) (s3 : Int × (List ByteArray)) => (((bif (i3 == (aS.size : Int)) then some true else ((byte' aS i3).bind fun x7 => some (x7 == aBy)))).bind fun (j8 : Bool) => (bif j8 then ((sub' aS s3.1 i3).bind fun x10 => ((app' s3.2 ([x10] : List ByteArray)).bind fun x11 => some ((w64 (i3 + 1)), x11))) else some (s3.1, s3.2)))) (fun (s3 : Int × (List ByteArray)) => s3.2) 0 (0, ([] : List ByteArray)))).bind fun (j1 : (List ByteArray)) => some j1)
theorem spec_l01Split_run (aS : ByteArray) (aBy : Int) (r : (List ByteArray)) (h : spec_l01Split aS aBy = some r) : SCall Tryz.prog 166 [.v (vs aS), .v (.tr (.int .u8 aBy))] ⟨[.own 9 1 r.length (r.map eS)], [], false⟩ := by
  refine scall_in Tryz.func166 rfl [(.tmp 4)] rfl (fun r => ⟨[.own 9 1 r.length (r.map eS)], [], false⟩) (r := r) ?_
  unfold spec_l01Split at h
  refine srk tbok ⟨36, [(0, vs aS), (1, .tr (.int .u8 aBy))], []⟩ ?_
  refine srk tbok ⟨36, [(0, vs aS), (1, .tr (.int .u8 aBy)), (5, .own 8)], [(8, oa 9 1 eS ([] : List ByteArray))]⟩ ?_
  refine srk tbok ⟨36, [(0, vs aS), (1, .tr (.int .u8 aBy)), (5, .own 8), (6, vi 0)], [(8, oa 9 1 eS ([] : List ByteArray))]⟩ ?_
  refine swp_seq ?_
  refine srk tbok ⟨36, [(0, vs aS), (1, .tr (.int .u8 aBy)), (5, .own 8), (6, vi 0), (7, vi 0)], [(8, oa 9 1 eS ([] : List ByteArray))]⟩ ?_
  refine swp_seqJ h (fun j1 => ⟨36, [(5, .own 5)], [(5, oa 9 1 eS j1)]⟩) (fun v2 h => ?_) (fun j1 h => ?_)
  refine swp_blk (a := v2) ?_
  refine swp_lpL (r := v2) (s := (0, 0, ([] : List ByteArray))) _ (fun s3 => ⟨36, [(0, vs aS), (1, .tr (.int .u8 aBy)), (5, .own 5), (6, vi s3.2.1), (7, vi s3.1)], [(5, oa 9 1 eS s3.2.2)]⟩) _ (Le.rr [8] [(8, 5)]) h (fun s3 v4 h => ?_)
  refine swp_seq ?_
  refine srk tbok ⟨36, [(0, vs aS), (1, .tr (.int .u8 aBy)), (5, .own 5), (6, vi s3.2.1), (7, vi s3.1), (12, vb (decide (s3.1 ≤ (aS.size : Int))))], [(5, oa 9 1 eS s3.2.2)]⟩ ?_
  refine swp_cd h (fun h => ?_) fun h => ?_
  refine swp_skip ?_
  refine nx_n ?_
  refine swp_seq ?_
  refine swp_seqJ h (fun j5 => ⟨36, [(0, vs aS), (1, .tr (.int .u8 aBy)), (5, .own 5), (6, vi j5.1), (7, vi s3.1)], [(5, oa 9 1 eS j5.2)]⟩) (fun v6 h => ?_) (fun j5 h => ?_)
  refine swp_blk (a := v6) ?_
  refine swp_seq ?_
  refine swp_regJ h (fun j8 => ⟨36, [(0, vs aS), (1, .tr (.int .u8 aBy)), (5, .own 5), (6, vi s3.2.1), (7, vi s3.1), (25, vb j8)], [(5, oa 9 1 eS s3.2.2)]⟩) (fun v9 h => ?_) (fun j8 h => ?_)
  refine SRun.ck tbok 5 ⟨36, [(0, vs aS), (1, .tr (.int .u8 aBy)), (5, .own 5), (6, vi s3.2.1), (7, vi s3.1), (19, vb (s3.1 == (aS.size : Int)))], [(5, oa 9 1 eS s3.2.2)]⟩ ?_
  refine SRun.cu [(19, fun b => b)] h (fun h => ?_) fun h => ?_
  refine SRun.ck tbok 6 ⟨36, [(0, vs aS), (1, .tr (.int .u8 aBy)), (5, .own 5), (6, vi s3.2.1), (7, vi s3.1), (25, vb true)], [(5, oa 9 1 eS s3.2.2)]⟩ ?_
  refine SRun.nil ?_
  obtain rfl := inj h
  exact Le.sub0
  refine SRun.ck tbok 2 ⟨36, [(0, vs aS), (1, .tr (.int .u8 aBy)), (5, .own 5), (6, vi s3.2.1), (7, vi s3.1), (19, vb false), (20, vs aS), (21, vi s3.1)], [(5, oa 9 1 eS s3.2.2)]⟩ ?_
  obtain ⟨x7, hx7, h⟩ := bind_some h
  refine SRun.ls (x_byte (ti := ti9) (k := .i64) hx7 tbok rfl) ?_
  refine SRun.ck tbok 3 ⟨36, [(0, vs aS), (1, .tr (.int .u8 aBy)), (5, .own 5), (6, vi s3.2.1), (7, vi s3.1), (25, vb (x7 == aBy))], [(5, oa 9 1 eS s3.2.2)]⟩ ?_
  refine SRun.nil ?_
  obtain rfl := inj h
  exact Le.sub0
  refine swp_cd h (fun h => ?_) fun h => ?_
  refine sr ?_
  refine SRun.ck tbok 4 ⟨36, [(0, vs aS), (1, .tr (.int .u8 aBy)), (7, vi s3.1), (26, .own 5), (27, vs aS), (28, vi s3.2.1), (29, vi s3.1)], [(5, oa 9 1 eS s3.2.2)]⟩ ?_
  obtain ⟨x10, hx10, h⟩ := bind_some h
  refine SRun.ls (x_sub (ti := ti9) hx10 tbok rfl) ?_
  refine SRun.ck tbok 1 ⟨36, [(0, vs aS), (1, .tr (.int .u8 aBy)), (7, vi s3.1), (26, .own 5), (31, .own 31)], [(5, oa 9 1 eS s3.2.2), (31, oa 9 1 eS ([x10] : List ByteArray))]⟩ ?_
  obtain ⟨x11, hx11, h⟩ := bind_some h
  refine SRun.estep (x_append (f := eS) (t := 53) (ti := ti53) (tj := ti9) (zs := [.string (ByteArray.mk #[])]) (e := 9) (m := 1) (d := 5) (xv := .own 31) hx11 tbok rfl rfl rfl rfl (x_src_o (e := 9))) ?_
  refine ckn tbok 1 ⟨36, [(0, vs aS), (1, .tr (.int .u8 aBy)), (5, .own 32), (7, vi s3.1)], [(32, oa 9 1 eS x11)]⟩ ?_
  refine swp_reg ?_
  refine SRun.ck tbok 3 ⟨36, [(0, vs aS), (1, .tr (.int .u8 aBy)), (5, .own 32), (6, vi (w64 (s3.1 + 1))), (7, vi s3.1)], [(32, oa 9 1 eS x11)]⟩ ?_
  refine SRun.nil ?_
  obtain rfl := inj h
  exact q_bn (q_j (Le.rr [32] [(32, 5)]))
  refine swp_skip ?_
  obtain rfl := inj h
  exact q_bn (q_j (Le.sub0))
  refine swp_reg ?_
  refine SRun.ck tbok 3 ⟨36, [(0, vs aS), (1, .tr (.int .u8 aBy)), (5, .own 5), (6, vi j5.1), (7, vi (w64 (s3.1 + 1)))], [(5, oa 9 1 eS j5.2)]⟩ ?_
  refine SRun.nil ?_
  obtain rfl := inj h
  exact q_l (Le.sub0)
  refine swp_exit ?_
  obtain rfl := inj h
  exact nx_e (q_re (q_bh (q_j (Le.sub0))))
  refine srk tbok ⟨36, [(4, .own 5)], [(5, oa 9 1 eS j1)]⟩ ?_
  refine swp_ret ?_
  obtain rfl := inj h
  exact q_fr (f1 (fo eS_flat))
theorem ents166 : Ents Tryz.prog 166 := ents_of Tryz.func166 (by kernel_rfl) rfl
noncomputable def spec_l01Phrase (aS : ByteArray) : Option ((List ByteArray) × Bool) :=
  ((spec_l01Split aS 32).bind fun x1 => (((forN (x1.length : Int) (fun (i4 : Int) (_ : Unit) => ((at' x1 i4).bind fun x8 => ((spec_IsWord x8).bind fun x9 => (bif (!x9) then some (.inr (.inr (([] : List ByteArray), false))) else some (.inl ()))))) (fun (_ : Unit) => .inl ()) 0 ())).bind (Sum.elim (fun (_ : Unit) => some (x1, (decide ((x1.length : Int) ≤ 8)))) some)))
theorem spec_l01Phrase_run (aS : ByteArray) (r : (List ByteArray) × Bool) (h : spec_l01Phrase aS = some r) : SCall Tryz.prog 151 [.v (vs aS)] ⟨[.own 9 1 r.1.length (r.1.map eS), .v (vb r.2)], [], false⟩ := by
  refine scall_in Tryz.func151 rfl [(.tmp 2), (.tmp 3)] rfl (fun r => ⟨[.own 9 1 r.1.length (r.1.map eS), .v (vb r.2)], [], false⟩) (r := r) ?_
  unfold spec_l01Phrase at h
  refine srk tbok ⟨24, [(0, vs aS)], []⟩ ?_
  refine sr ?_
  refine SRun.ck tbok 1 ⟨24, [(6, vs aS)], []⟩ ?_
  obtain ⟨x1, hx1, h⟩ := bind_some h
  refine SRun.ls (xc ents166 (spec_l01Split_run aS 32 _ hx1)) ?_
  refine ckn tbok 1 ⟨24, [(4, .own 7)], [(7, oa 9 1 eS x1)]⟩ ?_
  refine swp_seq ?_
  refine srk tbok ⟨24, [(4, .own 7), (5, vi 0)], [(7, oa 9 1 eS x1)]⟩ ?_
  refine swp_seqE (r := r) h (fun j2 => ⟨24, [(4, .own 4)], [(4, oa 9 1 eS x1)]⟩) (fun v3 h => ?_) (fun j2 h => ?_)
  refine swp_blk (a := v3) ?_
  refine swp_lpL (r := v3) (s := (0, ())) _ (fun s4 => ⟨24, [(4, .own 4), (5, vi s4.1)], [(4, oa 9 1 eS x1)]⟩) _ (Le.rr [7] [(7, 4)]) h (fun s4 v5 h => ?_)
  refine swp_seq ?_
  refine srk tbok ⟨24, [(4, .own 4), (5, vi s4.1), (11, vb (decide (s4.1 < (x1.length : Int))))], [(4, oa 9 1 eS x1)]⟩ ?_
  refine swp_cd h (fun h => ?_) fun h => ?_
  refine swp_skip ?_
  refine nx_n ?_
  refine swp_seq ?_
  refine swp_seqL (r := v5) h (fun j6 => ⟨24, [(4, .own 4), (5, vi s4.1)], [(4, oa 9 1 eS x1)]⟩) (fun v7 h => ?_) (fun j6 h => ?_)
  refine swp_blk (a := v7) ?_
  refine sr ?_
  refine SRun.ck tbok 2 ⟨24, [(4, .own 4), (5, vi s4.1), (14, .own 4), (15, vi s4.1)], [(4, oa 9 1 eS x1)]⟩ ?_
  obtain ⟨x8, hx8, h⟩ := bind_some h
  refine SRun.ls (x_index_own (d := 4) (L := x1) (f := eS) (ti := ti53) (tj := ti9) (e := 9) (e' := 9) (m := 1) (k := .i64) tbok rfl hx8) ?_
  refine SRun.ls (x_load_own (d := 4) (m := 1) (j := 0) (L := x1) (f := eS) (ti := ti9) (e := 9) (v := vs x8) tbok rfl hx8) ?_
  obtain ⟨x9, hx9, h⟩ := bind_some h
  refine SRun.ls (xc ents80 (spec_IsWord_run x8 _ hx9)) ?_
  refine ckn tbok 1 ⟨24, [(4, .own 4), (5, vi s4.1), (19, vb (!x9))], [(4, oa 9 1 eS x1)]⟩ ?_
  refine swp_cd h (fun h => ?_) fun h => ?_
  refine srk tbok ⟨24, [(2, .own 2), (3, vb false)], [(2, oa 9 1 eS ([] : List ByteArray))]⟩ ?_
  refine swp_ret ?_
  obtain rfl := inj h
  exact q_br (q_rr (q_rr (q_br (q_rr (q_fr (f2 (fo eS_flat) fv))))))
  refine swp_skip ?_
  obtain rfl := inj h
  exact q_bn (q_l (Le.sub0))
  refine swp_reg ?_
  refine SRun.ck tbok 3 ⟨24, [(4, .own 4), (5, vi (w64 (s4.1 + 1)))], [(4, oa 9 1 eS x1)]⟩ ?_
  refine SRun.nil ?_
  obtain rfl := inj h
  exact q_l (Le.sub0)
  refine swp_exit ?_
  obtain rfl := inj h
  exact nx_e (q_re (q_bh (q_l (Le.sub0))))
  refine srk tbok ⟨24, [(2, .own 4), (3, vb (decide ((x1.length : Int) ≤ 8)))], [(4, oa 9 1 eS x1)]⟩ ?_
  refine swp_ret ?_
  obtain rfl := inj h
  exact q_fr (f2 (fo eS_flat) fv)
theorem ents151 : Ents Tryz.prog 151 := ents_of Tryz.func151 (by kernel_rfl) rfl
noncomputable def spec_IsPhrase (aS : ByteArray) : Option (Bool) :=
  ((spec_l01Phrase aS).bind fun x1 => some x1.2)
theorem spec_IsPhrase_run (aS : ByteArray) (r : Bool) (h : spec_IsPhrase aS = some r) : SCall Tryz.prog 126 [.v (vs aS)] ⟨[.v (vb r)], [], false⟩ := by
  refine scall_in Tryz.func126 rfl [(.tmp 2)] rfl (fun r => ⟨[.v (vb r)], [], false⟩) (r := r) ?_
  unfold spec_IsPhrase at h
  refine srk tbok ⟨11, [(0, vs aS)], []⟩ ?_
  refine sr ?_
  refine SRun.ck tbok 1 ⟨11, [(6, vs aS)], []⟩ ?_
  obtain ⟨x1, hx1, h⟩ := bind_some h
  refine SRun.ls (xc ents151 (spec_l01Phrase_run aS _ hx1)) ?_
  refine ckn tbok 5 ⟨11, [(4, vb x1.2)], []⟩ ?_
  refine srk tbok ⟨11, [(2, vb x1.2)], []⟩ ?_
  refine swp_ret ?_
  obtain rfl := inj h
  exact q_fr (f1 fv)
theorem ents126 : Ents Tryz.prog 126 := ents_of Tryz.func126 (by kernel_rfl) rfl
noncomputable def spec_l03Lower (aS : ByteArray) (aLow : Int) (aHigh : Int) : Option (Bool) :=
  (((forN (aS.size : Int) (fun (i3 : Int) (_ : Unit) => ((((byte' aS i3).bind fun x7 => (bif (decide (x7 < 97)) then some true else ((byte' aS i3).bind fun x8 => some (decide (x8 > 122)))))).bind fun (j9 : Bool) => (bif j9 then some (.inr (.inr false)) else some (.inl ())))) (fun (_ : Unit) => .inl ()) 0 ())).bind (Sum.elim (fun (_ : Unit) => ((spec_l01In (aS.size : Int) aLow aHigh).bind fun x11 => some x11)) some))
theorem spec_l03Lower_run (aS : ByteArray) (aLow : Int) (aHigh : Int) (r : Bool) (h : spec_l03Lower aS aLow aHigh = some r) : SCall Tryz.prog 152 [.v (vs aS), .v (vi aLow), .v (vi aHigh)] ⟨[.v (vb r)], [], false⟩ := by
  refine scall_in Tryz.func152 rfl [(.tmp 6)] rfl (fun r => ⟨[.v (vb r)], [], false⟩) (r := r) ?_
  unfold spec_l03Lower at h
  refine srk tbok ⟨29, [(0, vs aS), (1, vi aLow), (2, vi aHigh)], []⟩ ?_
  refine swp_seq ?_
  refine srk tbok ⟨29, [(0, vs aS), (1, vi aLow), (2, vi aHigh), (7, vi 0)], []⟩ ?_
  refine swp_seqE (r := r) h (fun j1 => ⟨29, [(0, vs aS), (1, vi aLow), (2, vi aHigh)], []⟩) (fun v2 h => ?_) (fun j1 h => ?_)
  refine swp_blk (a := v2) ?_
  refine swp_lpL (r := v2) (s := (0, ())) _ (fun s3 => ⟨29, [(0, vs aS), (1, vi aLow), (2, vi aHigh), (7, vi s3.1)], []⟩) _ (Le.sub0) h (fun s3 v4 h => ?_)
  refine swp_seq ?_
  refine srk tbok ⟨29, [(0, vs aS), (1, vi aLow), (2, vi aHigh), (7, vi s3.1), (11, vb (decide (s3.1 < (aS.size : Int))))], []⟩ ?_
  refine swp_cd h (fun h => ?_) fun h => ?_
  refine swp_skip ?_
  refine nx_n ?_
  refine swp_seq ?_
  refine swp_seqL (r := v4) h (fun j5 => ⟨29, [(0, vs aS), (1, vi aLow), (2, vi aHigh), (7, vi s3.1)], []⟩) (fun v6 h => ?_) (fun j5 h => ?_)
  refine swp_blk (a := v6) ?_
  refine swp_seq ?_
  refine swp_regJ h (fun j9 => ⟨29, [(0, vs aS), (1, vi aLow), (2, vi aHigh), (7, vi s3.1), (23, vb j9)], []⟩) (fun v10 h => ?_) (fun j9 h => ?_)
  refine SRun.ck tbok 2 ⟨29, [(0, vs aS), (1, vi aLow), (2, vi aHigh), (7, vi s3.1), (14, vs aS), (15, vi s3.1)], []⟩ ?_
  obtain ⟨x7, hx7, h⟩ := bind_some h
  refine SRun.ls (x_byte (ti := ti9) (k := .i64) hx7 tbok rfl) ?_
  refine SRun.ck tbok 2 ⟨29, [(0, vs aS), (1, vi aLow), (2, vi aHigh), (7, vi s3.1), (18, vb (decide (x7 < 97)))], []⟩ ?_
  refine SRun.cu [(18, fun b => b)] h (fun h => ?_) fun h => ?_
  refine SRun.ck tbok 5 ⟨29, [(0, vs aS), (1, vi aLow), (2, vi aHigh), (7, vi s3.1), (23, vb true)], []⟩ ?_
  refine SRun.nil ?_
  obtain rfl := inj h
  exact Le.sub0
  refine SRun.ck tbok 2 ⟨29, [(0, vs aS), (1, vi aLow), (2, vi aHigh), (7, vi s3.1), (18, vb false), (19, vs aS), (20, vi s3.1)], []⟩ ?_
  obtain ⟨x8, hx8, h⟩ := bind_some h
  refine SRun.ls (x_byte (ti := ti9) (k := .i64) hx8 tbok rfl) ?_
  refine SRun.ck tbok 2 ⟨29, [(0, vs aS), (1, vi aLow), (2, vi aHigh), (7, vi s3.1), (23, vb (decide (x8 > 122)))], []⟩ ?_
  refine SRun.nil ?_
  obtain rfl := inj h
  exact Le.sub0
  refine swp_cd h (fun h => ?_) fun h => ?_
  refine srk tbok ⟨29, [(6, vb false)], []⟩ ?_
  refine swp_ret ?_
  obtain rfl := inj h
  exact q_br (q_rr (q_rr (q_br (q_rr (q_fr (f1 fv))))))
  refine swp_skip ?_
  obtain rfl := inj h
  exact q_bn (q_l (Le.sub0))
  refine swp_reg ?_
  refine SRun.ck tbok 3 ⟨29, [(0, vs aS), (1, vi aLow), (2, vi aHigh), (7, vi (w64 (s3.1 + 1)))], []⟩ ?_
  refine SRun.nil ?_
  obtain rfl := inj h
  exact q_l (Le.sub0)
  refine swp_exit ?_
  obtain rfl := inj h
  exact nx_e (q_re (q_bh (q_l (Le.sub0))))
  refine sr ?_
  refine SRun.ck tbok 4 ⟨29, [(25, vi (aS.size : Int)), (26, vi aLow), (27, vi aHigh)], []⟩ ?_
  obtain ⟨x11, hx11, h⟩ := bind_some h
  refine SRun.ls (xc ents81 (spec_l01In_run (aS.size : Int) aLow aHigh _ hx11)) ?_
  refine ckn tbok 1 ⟨29, [(6, vb x11)], []⟩ ?_
  refine swp_ret ?_
  obtain rfl := inj h
  exact q_fr (f1 fv)
theorem ents152 : Ents Tryz.prog 152 := ents_of Tryz.func152 (by kernel_rfl) rfl
noncomputable def spec_l09Language (aS : ByteArray) : Option (Bool) :=
  ((spec_l03Lower aS 2 3).bind fun x1 => some x1)
theorem spec_l09Language_run (aS : ByteArray) (r : Bool) (h : spec_l09Language aS = some r) : SCall Tryz.prog 127 [.v (vs aS)] ⟨[.v (vb r)], [], false⟩ := by
  refine scall_in Tryz.func127 rfl [(.tmp 2)] rfl (fun r => ⟨[.v (vb r)], [], false⟩) (r := r) ?_
  unfold spec_l09Language at h
  refine srk tbok ⟨5, [(0, vs aS)], []⟩ ?_
  refine sr ?_
  refine SRun.ck tbok 1 ⟨5, [(3, vs aS)], []⟩ ?_
  obtain ⟨x1, hx1, h⟩ := bind_some h
  refine SRun.ls (xc ents152 (spec_l03Lower_run aS 2 3 _ hx1)) ?_
  refine ckn tbok 1 ⟨5, [(2, vb x1)], []⟩ ?_
  refine swp_ret ?_
  obtain rfl := inj h
  exact q_fr (f1 fv)
theorem ents127 : Ents Tryz.prog 127 := ents_of Tryz.func127 (by kernel_rfl) rfl
noncomputable def spec_IsName (aN : Name) : Option (Bool) :=
  ((((spec_IsPhrase aN.Text).bind fun x1 => (bif x1 then ((spec_l09Language aN.Language).bind fun x2 => (bif x2 then ((spec_l01In aN.Status 0 2).bind fun x3 => (bif x3 then ((spec_IsSpan aN.Years).bind fun x4 => some x4) else some false)) else some false)) else some false))).bind fun (j5 : Bool) => some j5)
theorem spec_IsName_run (aN : Name) (r : Bool) (h : spec_IsName aN = some r) : SCall Tryz.prog 113 [.v (.agg (tc eName aN))] ⟨[.v (vb r)], [], false⟩ := by
  refine scall_in Tryz.func113 rfl [(.tmp 2)] rfl (fun r => ⟨[.v (vb r)], [], false⟩) (r := r) ?_
  unfold spec_IsName at h
  refine srk tbok ⟨21, [(1, .ref 1 0)], [(1, .box (tc eName aN))]⟩ ?_
  refine swp_seq ?_
  refine swp_regJ h (fun j5 => ⟨21, [(2, vb j5)], []⟩) (fun v6 h => ?_) (fun j5 h => ?_)
  refine SRun.ck tbok 2 ⟨21, [(1, .ref 1 0), (4, vs aN.Text)], [(1, .box (tc eName aN))]⟩ ?_
  obtain ⟨x1, hx1, h⟩ := bind_some h
  refine SRun.ls (xc ents126 (spec_IsPhrase_run aN.Text _ hx1)) ?_
  refine SRun.ck tbok 1 ⟨21, [(1, .ref 1 0), (6, vb x1)], [(1, .box (tc eName aN))]⟩ ?_
  refine SRun.cu [(6, fun b => b)] h (fun h => ?_) fun h => ?_
  refine SRun.ck tbok 2 ⟨21, [(1, .ref 1 0), (6, vb true), (8, vs aN.Language)], [(1, .box (tc eName aN))]⟩ ?_
  obtain ⟨x2, hx2, h⟩ := bind_some h
  refine SRun.ls (xc ents127 (spec_l09Language_run aN.Language _ hx2)) ?_
  refine SRun.ck tbok 2 ⟨21, [(1, .ref 1 0), (11, vb x2)], [(1, .box (tc eName aN))]⟩ ?_
  refine SRun.cu [(11, fun b => b)] h (fun h => ?_) fun h => ?_
  refine SRun.ck tbok 2 ⟨21, [(1, .ref 1 0), (11, vb true), (13, vi aN.Status)], [(1, .box (tc eName aN))]⟩ ?_
  obtain ⟨x3, hx3, h⟩ := bind_some h
  refine SRun.ls (xc ents81 (spec_l01In_run aN.Status 0 2 _ hx3)) ?_
  refine SRun.ck tbok 2 ⟨21, [(1, .ref 1 0), (16, vb x3)], [(1, .box (tc eName aN))]⟩ ?_
  refine SRun.cu [(16, fun b => b)] h (fun h => ?_) fun h => ?_
  refine SRun.ck tbok 2 ⟨21, [(16, vb true), (18, .agg (tc eSpan aN.Years))], []⟩ ?_
  obtain ⟨x4, hx4, h⟩ := bind_some h
  refine SRun.ls (xc ents82 (spec_IsSpan_run aN.Years _ hx4)) ?_
  refine SRun.ck tbok 2 ⟨21, [(2, vb x4)], []⟩ ?_
  refine SRun.nil ?_
  obtain rfl := inj h
  exact Le.sub0
  refine SRun.ck tbok 5 ⟨21, [(2, vb false)], []⟩ ?_
  refine SRun.nil ?_
  obtain rfl := inj h
  exact Le.sub0
  refine SRun.ck tbok 10 ⟨21, [(2, vb false)], []⟩ ?_
  refine SRun.nil ?_
  obtain rfl := inj h
  exact Le.sub0
  refine SRun.ck tbok 15 ⟨21, [(2, vb false)], []⟩ ?_
  refine SRun.nil ?_
  obtain rfl := inj h
  exact Le.sub0
  refine swp_ret ?_
  obtain rfl := inj h
  exact q_fr (f1 fv)
theorem ents113 : Ents Tryz.prog 113 := ents_of Tryz.func113 (by kernel_rfl) rfl
noncomputable def spec_l02Meet (aA : Span) (aB : Span) : Option (Bool) :=
  some ((decide (aA.From ≤ aB.To)) && (decide (aB.From ≤ aA.To)))
theorem spec_l02Meet_run (aA : Span) (aB : Span) (r : Bool) (h : spec_l02Meet aA aB = some r) : SCall Tryz.prog 114 [.v (.agg (tc eSpan aA)), .v (.agg (tc eSpan aB))] ⟨[.v (vb r)], [], false⟩ := by
  refine scall_in Tryz.func114 rfl [(.tmp 4)] rfl (fun r => ⟨[.v (vb r)], [], false⟩) (r := r) ?_
  unfold spec_l02Meet at h
  refine srk tbok ⟨17, [(2, .ref 2 0), (3, .ref 3 0)], [(2, .box (tc eSpan aA)), (3, .box (tc eSpan aB))]⟩ ?_
  refine swp_seq ?_
  refine swp_regP ⟨17, [(4, vb ((decide (aA.From ≤ aB.To)) && (decide (aB.From ≤ aA.To))))], []⟩ ?_ ?_
  refine SRun.ck tbok 6 ⟨17, [(2, .ref 2 0), (3, .ref 3 0), (10, vb (decide (aA.From ≤ aB.To)))], [(2, .box (tc eSpan aA)), (3, .box (tc eSpan aB))]⟩ ?_
  generalize (decide (aA.From ≤ aB.To)) = bb
  cases bb
  refine SRun.ck tbok 7 ⟨17, [(4, vb false)], []⟩ ?_
  exact SRun.nil (Le.sub0)
  refine SRun.ck tbok 7 ⟨17, [(4, vb (decide (aB.From ≤ aA.To)))], []⟩ ?_
  exact SRun.nil (Le.sub0)
  refine swp_ret ?_
  obtain rfl := inj h
  exact q_fr (f1 fv)
theorem ents114 : Ents Tryz.prog 114 := ents_of Tryz.func114 (by kernel_rfl) rfl
noncomputable def spec_AreNames (aList : (List Name)) : Option (Bool) :=
  (((forN (aList.length : Int) (fun (i3 : Int) (_ : Unit) => ((at' aList i3).bind fun x7 => ((spec_IsName x7).bind fun x8 => (bif (!x8) then some (.inr (.inr false)) else (forN i3 (fun (i9 : Int) (_ : Unit) => ((at' aList i9).bind fun x13 => (((bif (x7.Status == 0) then (bif (x13.Status == 0) then (bif (x7.Language.toList == x13.Language.toList) then ((spec_l02Meet x7.Years x13.Years).bind fun x14 => some x14) else some false) else some false) else some false)).bind fun (j15 : Bool) => (bif j15 then some (.inr (.inr (.inr false))) else some (.inl ()))))) (fun (_ : Unit) => .inl ()) 0 ()))))) (fun (_ : Unit) => .inl ()) 0 ())).bind (Sum.elim (fun (_ : Unit) => some (decide ((aList.length : Int) ≤ 12))) some))
theorem spec_AreNames_run (aList : (List Name)) (r : Bool) (h : spec_AreNames aList = some r) : SCall Tryz.prog 83 [.v (vl eName aList)] ⟨[.v (vb r)], [], false⟩ := by
  refine scall_in Tryz.func83 rfl [(.tmp 2)] rfl (fun r => ⟨[.v (vb r)], [], false⟩) (r := r) ?_
  unfold spec_AreNames at h
  refine srk tbok ⟨54, [(0, vl eName aList)], []⟩ ?_
  refine swp_seq ?_
  refine srk tbok ⟨54, [(0, vl eName aList), (3, vi 0)], []⟩ ?_
  refine swp_seqE (r := r) h (fun j1 => ⟨54, [(0, vl eName aList)], []⟩) (fun v2 h => ?_) (fun j1 h => ?_)
  refine swp_blk (a := v2) ?_
  refine swp_lpL (r := v2) (s := (0, ())) _ (fun s3 => ⟨54, [(0, vl eName aList), (3, vi s3.1)], []⟩) _ (Le.sub0) h (fun s3 v4 h => ?_)
  refine swp_seq ?_
  refine srk tbok ⟨54, [(0, vl eName aList), (3, vi s3.1), (10, vb (decide (s3.1 < (aList.length : Int))))], []⟩ ?_
  refine swp_cd h (fun h => ?_) fun h => ?_
  refine swp_skip ?_
  refine nx_n ?_
  refine swp_seq ?_
  refine swp_seqL (r := v4) h (fun j5 => ⟨54, [(0, vl eName aList), (3, vi s3.1)], []⟩) (fun v6 h => ?_) (fun j5 h => ?_)
  refine swp_blk (a := v6) ?_
  refine sr ?_
  refine SRun.ck tbok 2 ⟨54, [(0, vl eName aList), (3, vi s3.1), (13, vl eName aList), (14, vi s3.1)], []⟩ ?_
  obtain ⟨x7, hx7, h⟩ := bind_some h
  refine SRun.ls (x_index (L := aList) (f := eName) (ti := ti39) (tj := ti95) (e := 95) (k := .i64) tbok rfl hx7) ?_
  refine ckn tbok 3 ⟨54, [(0, vl eName aList), (3, vi s3.1), (4, .ref 4 0)], [(4, .box (tc eName x7))]⟩ ?_
  refine swp_seq ?_
  refine sr ?_
  refine SRun.ck tbok 1 ⟨54, [(0, vl eName aList), (3, vi s3.1), (4, .ref 4 0), (17, .agg (tc eName x7))], [(4, .box (tc eName x7))]⟩ ?_
  obtain ⟨x8, hx8, h⟩ := bind_some h
  refine SRun.ls (xc ents113 (spec_IsName_run x7 _ hx8)) ?_
  refine ckn tbok 1 ⟨54, [(0, vl eName aList), (3, vi s3.1), (4, .ref 4 0), (19, vb (!x8))], [(4, .box (tc eName x7))]⟩ ?_
  refine swp_cd h (fun h => ?_) fun h => ?_
  refine srk tbok ⟨54, [(2, vb false)], []⟩ ?_
  refine swp_ret ?_
  obtain rfl := inj h
  exact nx_r (q_br (q_rr (q_rr (q_br (q_rr (q_fr (f1 fv)))))))
  refine swp_skip ?_
  refine nx_n ?_
  refine srk tbok ⟨54, [(0, vl eName aList), (3, vi s3.1), (4, .ref 4 0), (5, vi 0)], [(4, .box (tc eName x7))]⟩ ?_
  refine swp_blk (a := v6) ?_
  refine swp_lpL (r := v6) (s := (0, ())) _ (fun s9 => ⟨54, [(0, vl eName aList), (3, vi s3.1), (4, .ref 4 0), (5, vi s9.1)], [(4, .box (tc eName x7))]⟩) _ (Le.sub0) h (fun s9 v10 h => ?_)
  refine swp_seq ?_
  refine srk tbok ⟨54, [(0, vl eName aList), (3, vi s3.1), (4, .ref 4 0), (5, vi s9.1), (22, vb (decide (s9.1 < s3.1)))], [(4, .box (tc eName x7))]⟩ ?_
  refine swp_cd h (fun h => ?_) fun h => ?_
  refine swp_skip ?_
  refine nx_n ?_
  refine swp_seq ?_
  refine swp_seqL (r := v10) h (fun j11 => ⟨54, [(0, vl eName aList), (3, vi s3.1), (4, .ref 4 0), (5, vi s9.1)], [(4, .box (tc eName x7))]⟩) (fun v12 h => ?_) (fun j11 h => ?_)
  refine swp_blk (a := v12) ?_
  refine sr ?_
  refine SRun.ck tbok 2 ⟨54, [(0, vl eName aList), (3, vi s3.1), (4, .ref 4 0), (5, vi s9.1), (25, vl eName aList), (26, vi s9.1)], [(4, .box (tc eName x7))]⟩ ?_
  obtain ⟨x13, hx13, h⟩ := bind_some h
  refine SRun.ls (x_index (L := aList) (f := eName) (ti := ti39) (tj := ti95) (e := 95) (k := .i64) tbok rfl hx13) ?_
  refine ckn tbok 3 ⟨54, [(0, vl eName aList), (3, vi s3.1), (4, .ref 4 0), (5, vi s9.1), (6, .ref 6 0)], [(4, .box (tc eName x7)), (6, .box (tc eName x13))]⟩ ?_
  refine swp_seq ?_
  refine swp_regJ h (fun j15 => ⟨54, [(0, vl eName aList), (3, vi s3.1), (4, .ref 4 0), (5, vi s9.1), (50, vb j15)], [(4, .box (tc eName x7))]⟩) (fun v16 h => ?_) (fun j15 h => ?_)
  refine SRun.ck tbok 4 ⟨54, [(0, vl eName aList), (3, vi s3.1), (4, .ref 4 0), (5, vi s9.1), (6, .ref 6 0), (32, vb (x7.Status == 0))], [(4, .box (tc eName x7)), (6, .box (tc eName x13))]⟩ ?_
  refine SRun.cu [(32, fun b => b)] h (fun h => ?_) fun h => ?_
  refine SRun.ck tbok 5 ⟨54, [(0, vl eName aList), (3, vi s3.1), (4, .ref 4 0), (5, vi s9.1), (6, .ref 6 0), (37, vb (x13.Status == 0))], [(4, .box (tc eName x7)), (6, .box (tc eName x13))]⟩ ?_
  refine SRun.cu [(37, fun b => b)] h (fun h => ?_) fun h => ?_
  refine SRun.ck tbok 7 ⟨54, [(0, vl eName aList), (3, vi s3.1), (4, .ref 4 0), (5, vi s9.1), (6, .ref 6 0), (44, vb (x7.Language.toList == x13.Language.toList))], [(4, .box (tc eName x7)), (6, .box (tc eName x13))]⟩ ?_
  refine SRun.cu [(44, fun b => b)] h (fun h => ?_) fun h => ?_
  refine SRun.ck tbok 4 ⟨54, [(0, vl eName aList), (3, vi s3.1), (4, .ref 4 0), (5, vi s9.1), (44, vb true), (46, .agg (tc eSpan x7.Years)), (48, .agg (tc eSpan x13.Years))], [(4, .box (tc eName x7))]⟩ ?_
  obtain ⟨x14, hx14, h⟩ := bind_some h
  refine SRun.ls (xc ents114 (spec_l02Meet_run x7.Years x13.Years _ hx14)) ?_
  refine SRun.ck tbok 1 ⟨54, [(0, vl eName aList), (3, vi s3.1), (4, .ref 4 0), (5, vi s9.1), (50, vb x14)], [(4, .box (tc eName x7))]⟩ ?_
  refine SRun.nil ?_
  obtain rfl := inj h
  exact Le.sub0
  refine SRun.ck tbok 6 ⟨54, [(0, vl eName aList), (3, vi s3.1), (4, .ref 4 0), (5, vi s9.1), (50, vb false)], [(4, .box (tc eName x7))]⟩ ?_
  refine SRun.nil ?_
  obtain rfl := inj h
  exact Le.sub0
  refine SRun.ck tbok 13 ⟨54, [(0, vl eName aList), (3, vi s3.1), (4, .ref 4 0), (5, vi s9.1), (50, vb false)], [(4, .box (tc eName x7))]⟩ ?_
  refine SRun.nil ?_
  obtain rfl := inj h
  exact Le.sub0
  refine SRun.ck tbok 18 ⟨54, [(0, vl eName aList), (3, vi s3.1), (4, .ref 4 0), (5, vi s9.1), (50, vb false)], [(4, .box (tc eName x7))]⟩ ?_
  refine SRun.nil ?_
  obtain rfl := inj h
  exact Le.sub0
  refine swp_cd h (fun h => ?_) fun h => ?_
  refine srk tbok ⟨54, [(2, vb false)], []⟩ ?_
  refine swp_ret ?_
  obtain rfl := inj h
  exact q_br (q_rr (q_rr (q_br (q_br (q_rr (q_rr (q_br (q_rr (q_fr (f1 fv))))))))))
  refine swp_skip ?_
  obtain rfl := inj h
  exact q_bn (q_l (Le.sub0))
  refine swp_reg ?_
  refine SRun.ck tbok 3 ⟨54, [(0, vl eName aList), (3, vi s3.1), (4, .ref 4 0), (5, vi (w64 (s9.1 + 1)))], [(4, .box (tc eName x7))]⟩ ?_
  refine SRun.nil ?_
  obtain rfl := inj h
  exact q_l (Le.sub0)
  refine swp_exit ?_
  obtain rfl := inj h
  exact nx_e (q_re (q_bh (q_bn (q_l (Le.sub0)))))
  refine swp_reg ?_
  refine SRun.ck tbok 3 ⟨54, [(0, vl eName aList), (3, vi (w64 (s3.1 + 1)))], []⟩ ?_
  refine SRun.nil ?_
  obtain rfl := inj h
  exact q_l (Le.sub0)
  refine swp_exit ?_
  obtain rfl := inj h
  exact nx_e (q_re (q_bh (q_l (Le.sub0))))
  refine srk tbok ⟨54, [(2, vb (decide ((aList.length : Int) ≤ 12)))], []⟩ ?_
  refine swp_ret ?_
  obtain rfl := inj h
  exact q_fr (f1 fv)
theorem ents83 : Ents Tryz.prog 83 := ents_of Tryz.func83 (by kernel_rfl) rfl
noncomputable def spec_IsPlace (aP : Place) : Option (Bool) :=
  ((((spec_IsWord aP.Code).bind fun x1 => (bif (!x1) then some true else ((spec_l01In aP.Class 0 19).bind fun x2 => (bif (!x2) then some true else ((spec_IsSpan aP.Years).bind fun x3 => (bif (!x3) then some true else ((spec_AreNames aP.Names).bind fun x4 => some (!x4))))))))).bind fun (j5 : Bool) => (bif j5 then some false else (((forN (aP.Names.length : Int) (fun (i9 : Int) (_ : Unit) => ((((at' aP.Names i9).bind fun x13 => (bif (decide (x13.Years.From < aP.Years.From)) then some true else ((at' aP.Names i9).bind fun x14 => some (decide (x14.Years.To > aP.Years.To)))))).bind fun (j15 : Bool) => (bif j15 then some (.inr (.inr false)) else some (.inl ())))) (fun (_ : Unit) => .inl ()) 0 ())).bind (Sum.elim (fun (_ : Unit) => some true) some))))
theorem spec_IsPlace_run (aP : Place) (r : Bool) (h : spec_IsPlace aP = some r) : SCall Tryz.prog 32 [.v (.agg (tc ePlace aP))] ⟨[.v (vb r)], [], false⟩ := by
  refine scall_in Tryz.func32 rfl [(.tmp 2)] rfl (fun r => ⟨[.v (vb r)], [], false⟩) (r := r) ?_
  unfold spec_IsPlace at h
  refine srk tbok ⟨57, [(1, .ref 1 0)], [(1, .box (tc ePlace aP))]⟩ ?_
  refine swp_seq ?_
  refine swp_seq ?_
  refine swp_regJ h (fun j5 => ⟨57, [(1, .ref 1 0), (25, vb j5)], [(1, .box (tc ePlace aP))]⟩) (fun v6 h => ?_) (fun j5 h => ?_)
  refine SRun.ck tbok 2 ⟨57, [(1, .ref 1 0), (5, vs aP.Code)], [(1, .box (tc ePlace aP))]⟩ ?_
  obtain ⟨x1, hx1, h⟩ := bind_some h
  refine SRun.ls (xc ents80 (spec_IsWord_run aP.Code _ hx1)) ?_
  refine SRun.ck tbok 2 ⟨57, [(1, .ref 1 0), (8, vb (!x1))], [(1, .box (tc ePlace aP))]⟩ ?_
  refine SRun.cu [(8, fun b => b)] h (fun h => ?_) fun h => ?_
  refine SRun.ck tbok 17 ⟨57, [(1, .ref 1 0), (25, vb true)], [(1, .box (tc ePlace aP))]⟩ ?_
  refine SRun.nil ?_
  obtain rfl := inj h
  exact Le.sub0
  refine SRun.ck tbok 2 ⟨57, [(1, .ref 1 0), (8, vb false), (10, vi aP.Class)], [(1, .box (tc ePlace aP))]⟩ ?_
  obtain ⟨x2, hx2, h⟩ := bind_some h
  refine SRun.ls (xc ents81 (spec_l01In_run aP.Class 0 19 _ hx2)) ?_
  refine SRun.ck tbok 3 ⟨57, [(1, .ref 1 0), (14, vb (!x2))], [(1, .box (tc ePlace aP))]⟩ ?_
  refine SRun.cu [(14, fun b => b)] h (fun h => ?_) fun h => ?_
  refine SRun.ck tbok 11 ⟨57, [(1, .ref 1 0), (25, vb true)], [(1, .box (tc ePlace aP))]⟩ ?_
  refine SRun.nil ?_
  obtain rfl := inj h
  exact Le.sub0
  refine SRun.ck tbok 2 ⟨57, [(1, .ref 1 0), (14, vb false), (16, .agg (tc eSpan aP.Years))], [(1, .box (tc ePlace aP))]⟩ ?_
  obtain ⟨x3, hx3, h⟩ := bind_some h
  refine SRun.ls (xc ents82 (spec_IsSpan_run aP.Years _ hx3)) ?_
  refine SRun.ck tbok 3 ⟨57, [(1, .ref 1 0), (20, vb (!x3))], [(1, .box (tc ePlace aP))]⟩ ?_
  refine SRun.cu [(20, fun b => b)] h (fun h => ?_) fun h => ?_
  refine SRun.ck tbok 5 ⟨57, [(1, .ref 1 0), (25, vb true)], [(1, .box (tc ePlace aP))]⟩ ?_
  refine SRun.nil ?_
  obtain rfl := inj h
  exact Le.sub0
  refine SRun.ck tbok 2 ⟨57, [(1, .ref 1 0), (20, vb false), (22, vl eName aP.Names)], [(1, .box (tc ePlace aP))]⟩ ?_
  obtain ⟨x4, hx4, h⟩ := bind_some h
  refine SRun.ls (xc ents83 (spec_AreNames_run aP.Names _ hx4)) ?_
  refine SRun.ck tbok 2 ⟨57, [(1, .ref 1 0), (25, vb (!x4))], [(1, .box (tc ePlace aP))]⟩ ?_
  refine SRun.nil ?_
  obtain rfl := inj h
  exact Le.sub0
  refine swp_cd h (fun h => ?_) fun h => ?_
  refine srk tbok ⟨57, [(2, vb false)], []⟩ ?_
  refine swp_ret ?_
  obtain rfl := inj h
  exact nx_r (q_fr (f1 fv))
  refine swp_skip ?_
  refine nx_n ?_
  refine swp_seq ?_
  refine srk tbok ⟨57, [(1, .ref 1 0), (3, vi 0)], [(1, .box (tc ePlace aP))]⟩ ?_
  refine swp_seqE (r := r) h (fun j7 => ⟨57, [], []⟩) (fun v8 h => ?_) (fun j7 h => ?_)
  refine swp_blk (a := v8) ?_
  refine swp_lpL (r := v8) (s := (0, ())) _ (fun s9 => ⟨57, [(1, .ref 1 0), (3, vi s9.1)], [(1, .box (tc ePlace aP))]⟩) _ (Le.sub0) h (fun s9 v10 h => ?_)
  refine swp_seq ?_
  refine srk tbok ⟨57, [(1, .ref 1 0), (3, vi s9.1), (30, vb (decide (s9.1 < (aP.Names.length : Int))))], [(1, .box (tc ePlace aP))]⟩ ?_
  refine swp_cd h (fun h => ?_) fun h => ?_
  refine swp_skip ?_
  refine nx_n ?_
  refine swp_seq ?_
  refine swp_seqL (r := v10) h (fun j11 => ⟨57, [(1, .ref 1 0), (3, vi s9.1)], [(1, .box (tc ePlace aP))]⟩) (fun v12 h => ?_) (fun j11 h => ?_)
  refine swp_blk (a := v12) ?_
  refine swp_seq ?_
  refine swp_drJ mixed h (fun j15 => ⟨57, [(1, .ref 1 0), (3, vi s9.1), (56, vb j15)], [(1, .box (tc ePlace aP))]⟩) (fun v16 h => ?_) (fun j15 h => ?_)
  refine DGo.ck tbok false 3 ⟨57, [(1, .ref 1 0), (3, vi s9.1), (34, vl eName aP.Names), (35, vi s9.1)], [(1, .box (tc ePlace aP))]⟩ ?_
  obtain ⟨x13, hx13, h⟩ := bind_some h
  refine DGo.step (x_index (L := aP.Names) (f := eName) (ti := ti39) (tj := ti95) (e := 95) (k := .i64) tbok rfl hx13) ?_
  refine DGo.ck tbok false 8 ⟨57, [(1, .ref 1 0), (3, vi s9.1), (44, vb (decide (x13.Years.From < aP.Years.From)))], [(1, .box (tc ePlace aP))]⟩ ?_
  refine DGo.cu [(44, fun b => b)] h (fun h => ?_) fun h => ?_
  refine DGo.ck tbok false 12 ⟨57, [(1, .ref 1 0), (3, vi s9.1), (56, vb true)], [(1, .box (tc ePlace aP))]⟩ ?_
  refine DGo.nil (by kernel_rfl) ?_
  obtain rfl := inj h
  exact Le.sub0
  refine DGo.ck tbok false 3 ⟨57, [(1, .ref 1 0), (3, vi s9.1), (44, vb false), (46, vl eName aP.Names), (47, vi s9.1)], [(1, .box (tc ePlace aP))]⟩ ?_
  obtain ⟨x14, hx14, h⟩ := bind_some h
  refine DGo.step (x_index (L := aP.Names) (f := eName) (ti := ti39) (tj := ti95) (e := 95) (k := .i64) tbok rfl hx14) ?_
  refine DGo.ck tbok false 8 ⟨57, [(1, .ref 1 0), (3, vi s9.1), (56, vb (decide (x14.Years.To > aP.Years.To)))], [(1, .box (tc ePlace aP))]⟩ ?_
  refine DGo.nil (by kernel_rfl) ?_
  obtain rfl := inj h
  exact Le.sub0
  refine swp_cd h (fun h => ?_) fun h => ?_
  refine srk tbok ⟨57, [(2, vb false)], []⟩ ?_
  refine swp_ret ?_
  obtain rfl := inj h
  exact q_br (q_rr (q_rr (q_br (q_rr (q_fr (f1 fv))))))
  refine swp_skip ?_
  obtain rfl := inj h
  exact q_bn (q_l (Le.sub0))
  refine swp_reg ?_
  refine SRun.ck tbok 3 ⟨57, [(1, .ref 1 0), (3, vi (w64 (s9.1 + 1)))], [(1, .box (tc ePlace aP))]⟩ ?_
  refine SRun.nil ?_
  obtain rfl := inj h
  exact q_l (Le.sub0)
  refine swp_exit ?_
  obtain rfl := inj h
  exact nx_e (q_re (q_bh (q_l (Le.sub0))))
  refine srk tbok ⟨57, [(2, vb true)], []⟩ ?_
  refine swp_ret ?_
  obtain rfl := inj h
  exact q_fr (f1 fv)
theorem ents32 : Ents Tryz.prog 32 := ents_of Tryz.func32 (by kernel_rfl) rfl
noncomputable def spec_IsRegister (aList : (List Place)) : Option (Bool) :=
  (((forN (aList.length : Int) (fun (i3 : Int) (_ : Unit) => ((((at' aList i3).bind fun x7 => ((spec_IsPlace x7).bind fun x8 => (bif (!x8) then some true else (bif (decide (i3 > 0)) then ((at' aList (w64 (i3 - 1))).bind fun x9 => ((at' aList i3).bind fun x10 => some (!(Op.bytesLess x9.Code.toList x10.Code.toList)))) else some false))))).bind fun (j11 : Bool) => (bif j11 then some (.inr (.inr false)) else some (.inl ())))) (fun (_ : Unit) => .inl ()) 0 ())).bind (Sum.elim (fun (_ : Unit) => some (decide ((aList.length : Int) ≤ 10))) some))
theorem spec_IsRegister_run (aList : (List Place)) (r : Bool) (h : spec_IsRegister aList = some r) : SCall Tryz.prog 30 [.v (vl ePlace aList)] ⟨[.v (vb r)], [], false⟩ := by
  refine scall_in Tryz.func30 rfl [(.tmp 2)] rfl (fun r => ⟨[.v (vb r)], [], false⟩) (r := r) ?_
  unfold spec_IsRegister at h
  refine srk tbok ⟨37, [(0, vl ePlace aList)], []⟩ ?_
  refine swp_seq ?_
  refine srk tbok ⟨37, [(0, vl ePlace aList), (3, vi 0)], []⟩ ?_
  refine swp_seqE (r := r) h (fun j1 => ⟨37, [(0, vl ePlace aList)], []⟩) (fun v2 h => ?_) (fun j1 h => ?_)
  refine swp_blk (a := v2) ?_
  refine swp_lpL (r := v2) (s := (0, ())) _ (fun s3 => ⟨37, [(0, vl ePlace aList), (3, vi s3.1)], []⟩) _ (Le.sub0) h (fun s3 v4 h => ?_)
  refine swp_seq ?_
  refine srk tbok ⟨37, [(0, vl ePlace aList), (3, vi s3.1), (7, vb (decide (s3.1 < (aList.length : Int))))], []⟩ ?_
  refine swp_cd h (fun h => ?_) fun h => ?_
  refine swp_skip ?_
  refine nx_n ?_
  refine swp_seq ?_
  refine swp_seqL (r := v4) h (fun j5 => ⟨37, [(0, vl ePlace aList), (3, vi s3.1)], []⟩) (fun v6 h => ?_) (fun j5 h => ?_)
  refine swp_blk (a := v6) ?_
  refine swp_seq ?_
  refine swp_drJ mixed h (fun j11 => ⟨37, [(0, vl ePlace aList), (3, vi s3.1), (33, vb j11)], []⟩) (fun v12 h => ?_) (fun j11 h => ?_)
  refine DGo.ck tbok false 2 ⟨37, [(0, vl ePlace aList), (3, vi s3.1), (10, vl ePlace aList), (11, vi s3.1)], []⟩ ?_
  obtain ⟨x7, hx7, h⟩ := bind_some h
  refine DGo.step (x_index (L := aList) (f := ePlace) (ti := ti24) (tj := ti41) (e := 41) (k := .i64) tbok rfl hx7) ?_
  refine DGo.ck tbok false 1 ⟨37, [(0, vl ePlace aList), (3, vi s3.1), (13, .agg (tc ePlace x7))], []⟩ ?_
  obtain ⟨x8, hx8, h⟩ := bind_some h
  refine DGo.step (xc ents32 (spec_IsPlace_run x7 _ hx8)) ?_
  refine DGo.ck tbok false 2 ⟨37, [(0, vl ePlace aList), (3, vi s3.1), (16, vb (!x8))], []⟩ ?_
  refine DGo.cu [(16, fun b => b)] h (fun h => ?_) fun h => ?_
  refine DGo.ck tbok false 17 ⟨37, [(0, vl ePlace aList), (3, vi s3.1), (33, vb true)], []⟩ ?_
  refine DGo.nil (by kernel_rfl) ?_
  obtain rfl := inj h
  exact Le.sub0
  refine DGo.ck tbok false 3 ⟨37, [(0, vl ePlace aList), (3, vi s3.1), (16, vb false), (19, vb (decide (s3.1 > 0)))], []⟩ ?_
  refine DGo.cu [(19, fun b => b)] h (fun h => ?_) fun h => ?_
  refine DGo.ck tbok false 3 ⟨37, [(0, vl ePlace aList), (3, vi s3.1), (16, vb false), (19, vb true), (20, vl ePlace aList), (22, vi (w64 (s3.1 - 1)))], []⟩ ?_
  obtain ⟨x9, hx9, h⟩ := bind_some h
  refine DGo.step (x_index (L := aList) (f := ePlace) (ti := ti24) (tj := ti41) (e := 41) (k := .i64) tbok rfl hx9) ?_
  refine DGo.ck tbok false 4 ⟨37, [(0, vl ePlace aList), (3, vi s3.1), (16, vb false), (19, vb true), (25, vs x9.Code), (26, vl ePlace aList), (27, vi s3.1)], []⟩ ?_
  obtain ⟨x10, hx10, h⟩ := bind_some h
  refine DGo.step (x_index (L := aList) (f := ePlace) (ti := ti24) (tj := ti41) (e := 41) (k := .i64) tbok rfl hx10) ?_
  refine DGo.ck tbok false 5 ⟨37, [(0, vl ePlace aList), (3, vi s3.1), (33, vb (!(Op.bytesLess x9.Code.toList x10.Code.toList)))], []⟩ ?_
  refine DGo.nil (by kernel_rfl) ?_
  obtain rfl := inj h
  exact Le.sub0
  refine DGo.ck tbok false 14 ⟨37, [(0, vl ePlace aList), (3, vi s3.1), (33, vb false)], []⟩ ?_
  refine DGo.nil (by kernel_rfl) ?_
  obtain rfl := inj h
  exact Le.sub0
  refine swp_cd h (fun h => ?_) fun h => ?_
  refine srk tbok ⟨37, [(2, vb false)], []⟩ ?_
  refine swp_ret ?_
  obtain rfl := inj h
  exact q_br (q_rr (q_rr (q_br (q_rr (q_fr (f1 fv))))))
  refine swp_skip ?_
  obtain rfl := inj h
  exact q_bn (q_l (Le.sub0))
  refine swp_reg ?_
  refine SRun.ck tbok 3 ⟨37, [(0, vl ePlace aList), (3, vi (w64 (s3.1 + 1)))], []⟩ ?_
  refine SRun.nil ?_
  obtain rfl := inj h
  exact q_l (Le.sub0)
  refine swp_exit ?_
  obtain rfl := inj h
  exact nx_e (q_re (q_bh (q_l (Le.sub0))))
  refine srk tbok ⟨37, [(2, vb (decide ((aList.length : Int) ≤ 10)))], []⟩ ?_
  refine swp_ret ?_
  obtain rfl := inj h
  exact q_fr (f1 fv)
theorem ents30 : Ents Tryz.prog 30 := ents_of Tryz.func30 (by kernel_rfl) rfl
noncomputable def spec_l11Own (aList : (List Place)) : Option ((List Place)) :=
  (((forS (aList.length : Int) (fun (i3 : Int) (s3 : (List Place)) => ((at' aList i3).bind fun x7 => ((app' ([] : List Name) x7.Names).bind fun x8 => ((app' s3 ([(Place.mk x7.Code x7.Class x7.Years x8)] : List Place)).bind fun x9 => some x9)))) (fun (s3 : (List Place)) => s3) 0 ([] : List Place))).bind fun (j1 : (List Place)) => some j1)
theorem spec_l11Own_run (aList : (List Place)) (r : (List Place)) (h : spec_l11Own aList = some r) : SCall Tryz.prog 40 [.v (vl ePlace aList)] ⟨[.deep 41 5 r.length [.flat, .flat, .flat, .flat, (.sl 95 5 [.flat, .flat, .flat, .flat, .flat])] (r.map ePlace)], [], false⟩ := by
  refine scall_in Tryz.func40 rfl [(.tmp 2)] rfl (fun r => ⟨[.deep 41 5 r.length [.flat, .flat, .flat, .flat, (.sl 95 5 [.flat, .flat, .flat, .flat, .flat])] (r.map ePlace)], [], false⟩) (r := r) ?_
  unfold spec_l11Own at h
  refine sr ?_
  refine SRun.ck tbok 1 ⟨27, [(2, .own 2), (0, vl ePlace aList)], [(2, oa 41 5 ePlace ([] : List Place))]⟩ ?_
  refine SRun.le (Le.deep0 (d := 2) (e := 41) (m := 5) (ss := [.flat, .flat, .flat, .flat, (.sl 95 5 [.flat, .flat, .flat, .flat, .flat])]) (by kernel_rfl) (by kernel_rfl)) ?_
  refine SRun.nx ?_
  refine sr ?_
  refine SRun.ck tbok 1 ⟨27, [(6, .own 6), (2, .own 2), (0, vl ePlace aList)], [(6, oa 41 5 ePlace ([] : List Place)), (2, .deep 41 5 ([] : List Place).length [.flat, .flat, .flat, .flat, (.sl 95 5 [.flat, .flat, .flat, .flat, .flat])] (([] : List Place).map ePlace))]⟩ ?_
  refine SRun.le (Le.deep0 (d := 6) (e := 41) (m := 5) (ss := [.flat, .flat, .flat, .flat, (.sl 95 5 [.flat, .flat, .flat, .flat, .flat])]) (by kernel_rfl) (by kernel_rfl)) ?_
  refine ckn tbok 1 ⟨27, [(0, vl ePlace aList), (3, .own 6)], [(6, .deep 41 5 ([] : List Place).length [.flat, .flat, .flat, .flat, (.sl 95 5 [.flat, .flat, .flat, .flat, .flat])] (([] : List Place).map ePlace))]⟩ ?_
  refine swp_seq ?_
  refine srk tbok ⟨27, [(0, vl ePlace aList), (3, .own 6), (4, vi 0)], [(6, .deep 41 5 ([] : List Place).length [.flat, .flat, .flat, .flat, (.sl 95 5 [.flat, .flat, .flat, .flat, .flat])] (([] : List Place).map ePlace))]⟩ ?_
  refine swp_seqJ h (fun j1 => ⟨27, [(3, .own 3)], [(3, .deep 41 5 j1.length [.flat, .flat, .flat, .flat, (.sl 95 5 [.flat, .flat, .flat, .flat, .flat])] (j1.map ePlace))]⟩) (fun v2 h => ?_) (fun j1 h => ?_)
  refine swp_blk (a := v2) ?_
  refine swp_lpL (r := v2) (s := (0, ([] : List Place))) _ (fun s3 => ⟨27, [(0, vl ePlace aList), (3, .own 3), (4, vi s3.1)], [(3, .deep 41 5 s3.2.length [.flat, .flat, .flat, .flat, (.sl 95 5 [.flat, .flat, .flat, .flat, .flat])] (s3.2.map ePlace))]⟩) _ (Le.rr [6] [(6, 3)]) h (fun s3 v4 h => ?_)
  refine swp_seq ?_
  refine srk tbok ⟨27, [(0, vl ePlace aList), (3, .own 3), (4, vi s3.1), (10, vb (decide (s3.1 < (aList.length : Int))))], [(3, .deep 41 5 s3.2.length [.flat, .flat, .flat, .flat, (.sl 95 5 [.flat, .flat, .flat, .flat, .flat])] (s3.2.map ePlace))]⟩ ?_
  refine swp_cd h (fun h => ?_) fun h => ?_
  refine swp_skip ?_
  refine nx_n ?_
  refine swp_seq ?_
  refine swp_seqJ h (fun j5 => ⟨27, [(0, vl ePlace aList), (3, .own 3), (4, vi s3.1)], [(3, .deep 41 5 j5.length [.flat, .flat, .flat, .flat, (.sl 95 5 [.flat, .flat, .flat, .flat, .flat])] (j5.map ePlace))]⟩) (fun v6 h => ?_) (fun j5 h => ?_)
  refine swp_blk (a := v6) ?_
  refine sr ?_
  refine SRun.ck tbok 2 ⟨27, [(0, vl ePlace aList), (3, .own 3), (4, vi s3.1), (13, vl ePlace aList), (14, vi s3.1)], [(3, .deep 41 5 s3.2.length [.flat, .flat, .flat, .flat, (.sl 95 5 [.flat, .flat, .flat, .flat, .flat])] (s3.2.map ePlace))]⟩ ?_
  obtain ⟨x7, hx7, h⟩ := bind_some h
  refine SRun.ls (x_index (L := aList) (f := ePlace) (ti := ti24) (tj := ti41) (e := 41) (k := .i64) tbok rfl hx7) ?_
  refine ckn tbok 3 ⟨27, [(0, vl ePlace aList), (3, .own 3), (4, vi s3.1), (5, .ref 5 0)], [(3, .deep 41 5 s3.2.length [.flat, .flat, .flat, .flat, (.sl 95 5 [.flat, .flat, .flat, .flat, .flat])] (s3.2.map ePlace)), (5, .box (tc ePlace x7))]⟩ ?_
  refine sr ?_
  refine SRun.ck tbok 3 ⟨27, [(0, vl ePlace aList), (3, .own 3), (4, vi s3.1), (5, .ref 5 0), (17, .own 17), (19, vl eName x7.Names)], [(3, .deep 41 5 s3.2.length [.flat, .flat, .flat, .flat, (.sl 95 5 [.flat, .flat, .flat, .flat, .flat])] (s3.2.map ePlace)), (5, .box (tc ePlace x7)), (17, oa 95 5 eName ([] : List Name))]⟩ ?_
  obtain ⟨x8, hx8, h⟩ := bind_some h
  refine SRun.estep (x_append (f := eName) (t := 39) (ti := ti39) (tj := ti95) (zs := [.string (ByteArray.mk #[]), .string (ByteArray.mk #[]), .int .i64 0, .int .i64 0, .int .i64 0]) (e := 95) (m := 5) (d := 17) (xv := vl eName x7.Names) hx8 tbok rfl rfl rfl rfl (src_e (fun _ => rfl))) ?_
  refine ckn tbok 2 ⟨27, [(0, vl ePlace aList), (3, .own 3), (4, vi s3.1), (5, .ref 5 0)], [(3, .deep 41 5 s3.2.length [.flat, .flat, .flat, .flat, (.sl 95 5 [.flat, .flat, .flat, .flat, .flat])] (s3.2.map ePlace)), (5, .box [vs x7.Code, vi x7.Class, vi x7.Years.From, vi x7.Years.To, .own 20]), (20, oa 95 5 eName x8)]⟩ ?_
  refine swp_reg ?_
  refine SRun.ck tbok 2 ⟨27, [(0, vl ePlace aList), (4, vi s3.1), (22, .own 3), (23, .agg [vs x7.Code, vi x7.Class, vi x7.Years.From, vi x7.Years.To, .own 20])], [(3, .deep 41 5 s3.2.length [.flat, .flat, .flat, .flat, (.sl 95 5 [.flat, .flat, .flat, .flat, .flat])] (s3.2.map ePlace)), (20, oa 95 5 eName x8)]⟩ ?_
  refine SRun.estep (x_build_deep (ti := ti24) (tj := ti41) (e := 41) (m := 5) (zs := [.string (ByteArray.mk #[]), .int .i64 0, .int .i64 0, .int .i64 0, .slice none 0 0]) (v := .agg [vs x7.Code, vi x7.Class, vi x7.Years.From, vi x7.Years.To, .own 20]) (cs := [vs x7.Code, vi x7.Class, vi x7.Years.From, vi x7.Years.To, .own 20]) (ss := [.flat, .flat, .flat, .flat, (.sl 95 5 [.flat, .flat, .flat, .flat, .flat])]) (ts := [.str x7.Code, .int .i64 x7.Class, .int .i64 x7.Years.From, .int .i64 x7.Years.To, .sl x8.length (x8.map eName)]) (ds := [20]) tbok rfl rfl rfl (.cons _ _ _ [] _ _ _ _ (.flat (.str x7.Code) rfl) (.cons _ _ _ [] _ _ _ _ (.flat (.int .i64 x7.Class) rfl) (.cons _ _ _ [] _ _ _ _ (.flat (.int .i64 x7.Years.From) rfl) (.cons _ _ _ [] _ _ _ _ (.flat (.int .i64 x7.Years.To) rfl) (.cons _ _ _ [20] _ _ _ _ (cD_arr (d := 20) (e := 95) (m := 5) (n := x8.length) (es := x8.map eName) (ss := [.flat, .flat, .flat, .flat, .flat]) (flat_map eName_flat _)) .nil (by decide)) (by decide)) (by decide)) (by decide)) (by decide))) ?_
  obtain ⟨x9, hx9, h⟩ := bind_some h
  refine SRun.estep (x_append_deep (f := ePlace) (L := s3.2) (M := ([(Place.mk x7.Code x7.Class x7.Years x8)] : List Place)) (t := 24) (ti := ti24) (tj := ti41) (zs := [.string (ByteArray.mk #[]), .int .i64 0, .int .i64 0, .int .i64 0, .slice none 0 0]) (e := 41) (m := 5) (d := 3) (dx := 24) (ss := [.flat, .flat, .flat, .flat, (.sl 95 5 [.flat, .flat, .flat, .flat, .flat])]) hx9 tbok rfl rfl rfl rfl) ?_
  refine SRun.ck tbok 1 ⟨27, [(0, vl ePlace aList), (3, .own 25), (4, vi s3.1)], [(25, .deep 41 5 x9.length [.flat, .flat, .flat, .flat, (.sl 95 5 [.flat, .flat, .flat, .flat, .flat])] (x9.map ePlace))]⟩ ?_
  refine SRun.nil ?_
  obtain rfl := inj h
  exact q_bn (q_j (Le.rr [25] [(25, 3)]))
  refine swp_reg ?_
  refine SRun.ck tbok 3 ⟨27, [(0, vl ePlace aList), (3, .own 3), (4, vi (w64 (s3.1 + 1)))], [(3, .deep 41 5 j5.length [.flat, .flat, .flat, .flat, (.sl 95 5 [.flat, .flat, .flat, .flat, .flat])] (j5.map ePlace))]⟩ ?_
  refine SRun.nil ?_
  obtain rfl := inj h
  exact q_l (Le.sub0)
  refine swp_exit ?_
  obtain rfl := inj h
  exact nx_e (q_re (q_bh (q_j (Le.sub0))))
  refine srk tbok ⟨27, [(2, .own 3)], [(3, .deep 41 5 j1.length [.flat, .flat, .flat, .flat, (.sl 95 5 [.flat, .flat, .flat, .flat, .flat])] (j1.map ePlace))]⟩ ?_
  refine swp_ret ?_
  obtain rfl := inj h
  exact q_fr (f1 (finD (d := 3) (holds_t (by kernel_rfl)) (by kernel_rfl) (by kernel_rfl)))
theorem ents40 : Ents Tryz.prog 40 := ents_of Tryz.func40 (by kernel_rfl) rfl
noncomputable def spec_AddPlace (aList : (List Place)) (aP : Place) : Option ((List Place) × Int) :=
  ((((spec_IsRegister aList).bind fun x1 => (bif (!x1) then some true else ((spec_IsPlace aP).bind fun x2 => some (!x2))))).bind fun (j3 : Bool) => (bif j3 then some (([] : List Place), 1) else (((loop (fun (s7 : Int) => (((bif (decide (s7 < (aList.length : Int))) then ((at' aList s7).bind fun x9 => some (Op.bytesLess x9.Code.toList aP.Code.toList)) else some false)).bind fun (j10 : Bool) => (bif j10 then some (.inl (w64 (s7 + 1))) else some (.inr s7)))) 0)).bind fun (j5 : Int) => ((part' aList 0 j5).bind fun x12 => ((app' ([] : List Place) x12).bind fun x13 => ((app' x13 ([aP] : List Place)).bind fun x14 => ((part' aList j5 (aList.length : Int)).bind fun x15 => ((app' x14 x15).bind fun x16 => ((spec_IsRegister x16).bind fun x17 => (bif (!x17) then some (([] : List Place), 5) else ((spec_l11Own x16).bind fun x18 => some (x18, 0))))))))))))
theorem spec_AddPlace_run (aList : (List Place)) (aP : Place) (r : (List Place) × Int) (h : spec_AddPlace aList aP = some r) : SCall Tryz.prog 14 [.v (vl ePlace aList), .v (.agg (tc ePlace aP))] ⟨[.deep 41 5 r.1.length [.flat, .flat, .flat, .flat, (.sl 95 5 [.flat, .flat, .flat, .flat, .flat])] (r.1.map ePlace), .v (vi r.2)], [], false⟩ := by
  refine scall_in Tryz.func14 rfl [(.tmp 4), (.tmp 5)] rfl (fun r => ⟨[.deep 41 5 r.1.length [.flat, .flat, .flat, .flat, (.sl 95 5 [.flat, .flat, .flat, .flat, .flat])] (r.1.map ePlace), .v (vi r.2)], [], false⟩) (r := r) ?_
  unfold spec_AddPlace at h
  refine srk tbok ⟨49, [(0, vl ePlace aList), (3, .ref 3 0)], [(3, .box (tc ePlace aP))]⟩ ?_
  refine swp_seq ?_
  refine swp_seq ?_
  refine swp_regJ h (fun j3 => ⟨49, [(0, vl ePlace aList), (3, .ref 3 0), (15, vb j3)], [(3, .box (tc ePlace aP))]⟩) (fun v4 h => ?_) (fun j3 h => ?_)
  refine SRun.ck tbok 1 ⟨49, [(0, vl ePlace aList), (3, .ref 3 0), (8, vl ePlace aList)], [(3, .box (tc ePlace aP))]⟩ ?_
  obtain ⟨x1, hx1, h⟩ := bind_some h
  refine SRun.ls (xc ents30 (spec_IsRegister_run aList _ hx1)) ?_
  refine SRun.ck tbok 2 ⟨49, [(0, vl ePlace aList), (3, .ref 3 0), (11, vb (!x1))], [(3, .box (tc ePlace aP))]⟩ ?_
  refine SRun.cu [(11, fun b => b)] h (fun h => ?_) fun h => ?_
  refine SRun.ck tbok 4 ⟨49, [(0, vl ePlace aList), (3, .ref 3 0), (15, vb true)], [(3, .box (tc ePlace aP))]⟩ ?_
  refine SRun.nil ?_
  obtain rfl := inj h
  exact Le.sub0
  refine SRun.ck tbok 1 ⟨49, [(0, vl ePlace aList), (3, .ref 3 0), (11, vb false), (12, .agg (tc ePlace aP))], [(3, .box (tc ePlace aP))]⟩ ?_
  obtain ⟨x2, hx2, h⟩ := bind_some h
  refine SRun.ls (xc ents32 (spec_IsPlace_run aP _ hx2)) ?_
  refine SRun.ck tbok 2 ⟨49, [(0, vl ePlace aList), (3, .ref 3 0), (15, vb (!x2))], [(3, .box (tc ePlace aP))]⟩ ?_
  refine SRun.nil ?_
  obtain rfl := inj h
  exact Le.sub0
  refine swp_cd h (fun h => ?_) fun h => ?_
  refine srk tbok ⟨49, [(4, .own 4), (5, vi 1)], [(4, oa 41 5 ePlace ([] : List Place))]⟩ ?_
  refine swp_le (Le.deep0 (d := 4) (e := 41) (m := 5) (ss := [.flat, .flat, .flat, .flat, (.sl 95 5 [.flat, .flat, .flat, .flat, .flat])]) (by kernel_rfl) (by kernel_rfl)) ?_
  refine swp_ret ?_
  obtain rfl := inj h
  exact nx_r (q_fr (f2 (finD (d := 4) (holds_t (by kernel_rfl)) (by kernel_rfl) (by kernel_rfl)) fv))
  refine swp_skip ?_
  refine nx_n ?_
  refine srk tbok ⟨49, [(0, vl ePlace aList), (3, .ref 3 0), (6, vi 0)], [(3, .box (tc ePlace aP))]⟩ ?_
  refine swp_seq ?_
  refine swp_seqJ h (fun j5 => ⟨49, [(0, vl ePlace aList), (3, .ref 3 0), (6, vi j5)], [(3, .box (tc ePlace aP))]⟩) (fun v6 h => ?_) (fun j5 h => ?_)
  refine swp_blk (a := v6) ?_
  refine swp_lpL (r := v6) (s := 0) _ (fun s7 => ⟨49, [(0, vl ePlace aList), (3, .ref 3 0), (6, vi s7)], [(3, .box (tc ePlace aP))]⟩) _ (Le.sub0) h (fun s7 v8 h => ?_)
  refine swp_seq ?_
  refine swp_seq ?_
  refine swp_drJ mixed h (fun j10 => ⟨49, [(0, vl ePlace aList), (3, .ref 3 0), (6, vi s7), (29, vb j10)], [(3, .box (tc ePlace aP))]⟩) (fun v11 h => ?_) (fun j10 h => ?_)
  refine DGo.ck tbok false 5 ⟨49, [(0, vl ePlace aList), (3, .ref 3 0), (6, vi s7), (20, vb (decide (s7 < (aList.length : Int))))], [(3, .box (tc ePlace aP))]⟩ ?_
  refine DGo.cu [(20, fun b => b)] h (fun h => ?_) fun h => ?_
  refine DGo.ck tbok false 2 ⟨49, [(0, vl ePlace aList), (3, .ref 3 0), (6, vi s7), (20, vb true), (21, vl ePlace aList), (22, vi s7)], [(3, .box (tc ePlace aP))]⟩ ?_
  obtain ⟨x9, hx9, h⟩ := bind_some h
  refine DGo.step (x_index (L := aList) (f := ePlace) (ti := ti24) (tj := ti41) (e := 41) (k := .i64) tbok rfl hx9) ?_
  refine DGo.ck tbok false 6 ⟨49, [(0, vl ePlace aList), (3, .ref 3 0), (6, vi s7), (29, vb (Op.bytesLess x9.Code.toList aP.Code.toList))], [(3, .box (tc ePlace aP))]⟩ ?_
  refine DGo.nil (by kernel_rfl) ?_
  obtain rfl := inj h
  exact Le.sub0
  refine DGo.ck tbok false 9 ⟨49, [(0, vl ePlace aList), (3, .ref 3 0), (6, vi s7), (29, vb false)], [(3, .box (tc ePlace aP))]⟩ ?_
  refine DGo.nil (by kernel_rfl) ?_
  obtain rfl := inj h
  exact Le.sub0
  refine swp_cd h (fun h => ?_) fun h => ?_
  refine swp_skip ?_
  refine nx_n ?_
  refine swp_blk (a := v8) ?_
  refine swp_reg ?_
  refine SRun.ck tbok 3 ⟨49, [(0, vl ePlace aList), (3, .ref 3 0), (6, vi (w64 (s7 + 1)))], [(3, .box (tc ePlace aP))]⟩ ?_
  refine SRun.nil ?_
  obtain rfl := inj h
  exact q_bn (q_l (Le.sub0))
  refine swp_exit ?_
  obtain rfl := inj h
  exact nx_e (q_re (q_bh (q_j (Le.sub0))))
  refine swp_seq ?_
  obtain ⟨x12, hx12, h⟩ := bind_some h
  obtain ⟨x13, hx13, h⟩ := bind_some h
  obtain ⟨x14, hx14, h⟩ := bind_some h
  obtain ⟨x15, hx15, h⟩ := bind_some h
  obtain ⟨x16, hx16, h⟩ := bind_some h
  refine swp_dr mixed ?_
  refine DGo.enum (σE := ⟨49, [(7, .own 43)], [(43, oa 41 5 ePlace x16)]⟩) (n := 13) (L0 := #[false, false, false, false, false, false, false, false, false, false, false, false, false]) (by kernel_rfl) (by kernel_rfl) (fun K hk => ?_) ?_
  refine DE.share (fuel := 0) (L := #[true, true, true, true, true, true, true, true, true, true, true, true, true]) (σ := ⟨49, [(7, .own 43)], [(43, oa 41 5 ePlace x16)]⟩) ?_ (fun d37 => ?_)
  exact DE.done (by kernel_rfl) hk
  refine DE.share (fuel := 1) (L := #[true, true, true, true, true, true, true, true, true, true, true, true, false]) (σ := ⟨49, [(43, .own 43)], [(43, oa 41 5 ePlace x16)]⟩) ?_ (fun d36 => ?_)
  exact DE.take (i := 12) (L' := #[true, true, true, true, true, true, true, true, true, true, true, true, true]) rfl (.inr rfl) rfl (by kernel_rfl) (by kernel_rfl) (by kernel_rfl) (EStep.le (EStep.ofN2 tbok (σ' := ⟨49, [(7, .own 43), (43, .own 43)], [(43, oa 41 5 ePlace x16)]⟩) (by kernel_rfl)) Le.sub0) (by kernel_rfl) d37
  refine DE.share (fuel := 2) (L := #[true, true, true, true, true, true, true, true, true, true, true, false, false]) (σ := ⟨49, [(39, .own 39), (42, vl ePlace x15)], [(39, oa 41 5 ePlace x14)]⟩) ?_ (fun d35 => ?_)
  exact DE.all [11] (by kernel_rfl) (by simp) (List.forall_mem_cons.2 ⟨DEs.mk (i := 11) (L' := #[true, true, true, true, true, true, true, true, true, true, true, true, false]) rfl (EStep.le (x_append (f := ePlace) (t := 24) (ti := ti24) (tj := ti41) (zs := [.string (ByteArray.mk #[]), .int .i64 0, .int .i64 0, .int .i64 0, .slice none 0 0]) (e := 41) (m := 5) (d := 39) (xv := vl ePlace x15) hx16 tbok rfl rfl rfl rfl (src_e (fun _ => rfl))) Le.sub0) (by kernel_rfl) d36, (fun _ h => absurd h List.not_mem_nil)⟩)
  refine DE.share (fuel := 3) (L := #[true, true, true, true, true, true, true, false, true, true, true, false, false]) (σ := ⟨49, [(36, .own 36), (38, .own 38), (42, vl ePlace x15)], [(36, oa 41 5 ePlace x13), (38, oa 41 5 ePlace ([aP] : List Place))]⟩) ?_ (fun d34 => ?_)
  exact DE.all [7] (by kernel_rfl) (by simp) (List.forall_mem_cons.2 ⟨DEs.mk (i := 7) (L' := #[true, true, true, true, true, true, true, true, true, true, true, false, false]) rfl (EStep.le (x_append (f := ePlace) (t := 24) (ti := ti24) (tj := ti41) (zs := [.string (ByteArray.mk #[]), .int .i64 0, .int .i64 0, .int .i64 0, .slice none 0 0]) (e := 41) (m := 5) (d := 36) (xv := .own 38) hx14 tbok rfl rfl rfl rfl (x_src_o (e := 41))) Le.sub0) (by kernel_rfl) d35, (fun _ h => absurd h List.not_mem_nil)⟩)
  refine DE.share (fuel := 3) (L := #[true, true, true, true, true, true, true, true, true, true, false, false, false]) (σ := ⟨49, [(39, .own 39), (40, vl ePlace aList), (41, vi j5)], [(39, oa 41 5 ePlace x14)]⟩) ?_ (fun d33 => ?_)
  exact DE.all [10] (by kernel_rfl) (by simp) (List.forall_mem_cons.2 ⟨DEs.mk (i := 10) (L' := #[true, true, true, true, true, true, true, true, true, true, true, false, false]) rfl (EStep.le (EStep.ofL (x_slice (m := 5) (f := ePlace) (ti := ti24) (tj := ti41) (e := 41) hx15 (fun _ => rfl) tbok rfl) (by kernel_rfl)) Le.sub0) (by kernel_rfl) d35, (fun _ h => absurd h List.not_mem_nil)⟩)
  refine DE.share (fuel := 4) (L := #[true, true, true, true, false, true, true, false, true, true, true, false, false]) (σ := ⟨49, [(32, .own 32), (35, vl ePlace x12), (38, .own 38), (42, vl ePlace x15)], [(32, oa 41 5 ePlace ([] : List Place)), (38, oa 41 5 ePlace ([aP] : List Place))]⟩) ?_ (fun d32 => ?_)
  exact DE.all [4] (by kernel_rfl) (by simp) (List.forall_mem_cons.2 ⟨DEs.mk (i := 4) (L' := #[true, true, true, true, true, true, true, false, true, true, true, false, false]) rfl (EStep.le (x_append (f := ePlace) (t := 24) (ti := ti24) (tj := ti41) (zs := [.string (ByteArray.mk #[]), .int .i64 0, .int .i64 0, .int .i64 0, .slice none 0 0]) (e := 41) (m := 5) (d := 32) (xv := vl ePlace x12) hx13 tbok rfl rfl rfl rfl (src_e (fun _ => rfl))) Le.sub0) (by kernel_rfl) d34, (fun _ h => absurd h List.not_mem_nil)⟩)
  refine DE.share (fuel := 4) (L := #[true, true, true, true, true, true, false, false, true, true, true, false, false]) (σ := ⟨49, [(36, .own 36), (37, .agg (tc ePlace aP)), (42, vl ePlace x15)], [(36, oa 41 5 ePlace x13)]⟩) ?_ (fun d31 => ?_)
  exact DE.all [6] (by kernel_rfl) (by simp) (List.forall_mem_cons.2 ⟨DEs.mk (i := 6) (L' := #[true, true, true, true, true, true, true, false, true, true, true, false, false]) rfl (EStep.le (EStep.ofN2 tbok (σ' := ⟨49, [(38, .own 38), (36, .own 36), (37, .agg (tc ePlace aP)), (42, vl ePlace x15)], [(38, oa 41 5 ePlace ([aP] : List Place)), (36, oa 41 5 ePlace x13)]⟩) (by kernel_rfl)) Le.sub0) (by kernel_rfl) d34, (fun _ h => absurd h List.not_mem_nil)⟩)
  refine DE.share (fuel := 4) (L := #[true, true, true, true, true, true, true, false, true, true, false, false, false]) (σ := ⟨49, [(36, .own 36), (38, .own 38), (40, vl ePlace aList), (41, vi j5)], [(36, oa 41 5 ePlace x13), (38, oa 41 5 ePlace ([aP] : List Place))]⟩) ?_ (fun d30 => ?_)
  exact DE.all [7, 10] (by kernel_rfl) (by simp) (List.forall_mem_cons.2 ⟨DEs.mk (i := 7) (L' := #[true, true, true, true, true, true, true, true, true, true, false, false, false]) rfl (EStep.le (x_append (f := ePlace) (t := 24) (ti := ti24) (tj := ti41) (zs := [.string (ByteArray.mk #[]), .int .i64 0, .int .i64 0, .int .i64 0, .slice none 0 0]) (e := 41) (m := 5) (d := 36) (xv := .own 38) hx14 tbok rfl rfl rfl rfl (x_src_o (e := 41))) Le.sub0) (by kernel_rfl) d33, (List.forall_mem_cons.2 ⟨DEs.mk (i := 10) (L' := #[true, true, true, true, true, true, true, false, true, true, true, false, false]) rfl (EStep.le (EStep.ofL (x_slice (m := 5) (f := ePlace) (ti := ti24) (tj := ti41) (e := 41) hx15 (fun _ => rfl) tbok rfl) (by kernel_rfl)) Le.sub0) (by kernel_rfl) d34, (fun _ h => absurd h List.not_mem_nil)⟩)⟩)
  refine DE.share (fuel := 5) (L := #[false, true, true, true, false, true, true, false, true, true, true, false, false]) (σ := ⟨49, [(35, vl ePlace x12), (38, .own 38), (42, vl ePlace x15)], [(38, oa 41 5 ePlace ([aP] : List Place))]⟩) ?_ (fun d29 => ?_)
  exact DE.all [0] (by kernel_rfl) (by simp) (List.forall_mem_cons.2 ⟨DEs.mk (i := 0) (L' := #[true, true, true, true, false, true, true, false, true, true, true, false, false]) rfl (EStep.ofN2 tbok (σ' := ⟨49, [(32, .own 32), (35, vl ePlace x12), (38, .own 38), (42, vl ePlace x15)], [(32, oa 41 5 ePlace ([] : List Place)), (38, oa 41 5 ePlace ([aP] : List Place))]⟩) (by kernel_rfl)) (by kernel_rfl) d32, (fun _ h => absurd h List.not_mem_nil)⟩)
  refine DE.share (fuel := 5) (L := #[true, true, true, false, false, true, true, false, true, true, true, false, false]) (σ := ⟨49, [(32, .own 32), (33, vl ePlace aList), (34, vi j5), (38, .own 38), (42, vl ePlace x15)], [(32, oa 41 5 ePlace ([] : List Place)), (38, oa 41 5 ePlace ([aP] : List Place))]⟩) ?_ (fun d28 => ?_)
  exact DE.all [3] (by kernel_rfl) (by simp) (List.forall_mem_cons.2 ⟨DEs.mk (i := 3) (L' := #[true, true, true, true, false, true, true, false, true, true, true, false, false]) rfl (EStep.le (EStep.ofL (x_slice (m := 5) (f := ePlace) (ti := ti24) (tj := ti41) (e := 41) hx12 (fun _ => rfl) tbok rfl) (by kernel_rfl)) Le.sub0) (by kernel_rfl) d32, (fun _ h => absurd h List.not_mem_nil)⟩)
  refine DE.share (fuel := 5) (L := #[true, true, true, true, false, true, false, false, true, true, true, false, false]) (σ := ⟨49, [(32, .own 32), (35, vl ePlace x12), (37, .agg (tc ePlace aP)), (42, vl ePlace x15)], [(32, oa 41 5 ePlace ([] : List Place))]⟩) ?_ (fun d27 => ?_)
  exact DE.all [4, 6] (by kernel_rfl) (by simp) (List.forall_mem_cons.2 ⟨DEs.mk (i := 4) (L' := #[true, true, true, true, true, true, false, false, true, true, true, false, false]) rfl (EStep.le (x_append (f := ePlace) (t := 24) (ti := ti24) (tj := ti41) (zs := [.string (ByteArray.mk #[]), .int .i64 0, .int .i64 0, .int .i64 0, .slice none 0 0]) (e := 41) (m := 5) (d := 32) (xv := vl ePlace x12) hx13 tbok rfl rfl rfl rfl (src_e (fun _ => rfl))) Le.sub0) (by kernel_rfl) d31, (List.forall_mem_cons.2 ⟨DEs.mk (i := 6) (L' := #[true, true, true, true, false, true, true, false, true, true, true, false, false]) rfl (EStep.le (EStep.ofN2 tbok (σ' := ⟨49, [(38, .own 38), (32, .own 32), (35, vl ePlace x12), (37, .agg (tc ePlace aP)), (42, vl ePlace x15)], [(38, oa 41 5 ePlace ([aP] : List Place)), (32, oa 41 5 ePlace ([] : List Place))]⟩) (by kernel_rfl)) Le.sub0) (by kernel_rfl) d32, (fun _ h => absurd h List.not_mem_nil)⟩)⟩)
  refine DE.share (fuel := 5) (L := #[true, true, true, true, false, true, true, false, true, true, false, false, false]) (σ := ⟨49, [(32, .own 32), (35, vl ePlace x12), (38, .own 38), (40, vl ePlace aList), (41, vi j5)], [(32, oa 41 5 ePlace ([] : List Place)), (38, oa 41 5 ePlace ([aP] : List Place))]⟩) ?_ (fun d26 => ?_)
  exact DE.all [4, 10] (by kernel_rfl) (by simp) (List.forall_mem_cons.2 ⟨DEs.mk (i := 4) (L' := #[true, true, true, true, true, true, true, false, true, true, false, false, false]) rfl (EStep.le (x_append (f := ePlace) (t := 24) (ti := ti24) (tj := ti41) (zs := [.string (ByteArray.mk #[]), .int .i64 0, .int .i64 0, .int .i64 0, .slice none 0 0]) (e := 41) (m := 5) (d := 32) (xv := vl ePlace x12) hx13 tbok rfl rfl rfl rfl (src_e (fun _ => rfl))) Le.sub0) (by kernel_rfl) d30, (List.forall_mem_cons.2 ⟨DEs.mk (i := 10) (L' := #[true, true, true, true, false, true, true, false, true, true, true, false, false]) rfl (EStep.le (EStep.ofL (x_slice (m := 5) (f := ePlace) (ti := ti24) (tj := ti41) (e := 41) hx15 (fun _ => rfl) tbok rfl) (by kernel_rfl)) Le.sub0) (by kernel_rfl) d32, (fun _ h => absurd h List.not_mem_nil)⟩)⟩)
  refine DE.share (fuel := 5) (L := #[true, true, true, true, true, false, false, false, true, true, true, false, false]) (σ := ⟨49, [(3, .ref 3 0), (36, .own 36), (42, vl ePlace x15)], [(3, .box (tc ePlace aP)), (36, oa 41 5 ePlace x13)]⟩) ?_ (fun d25 => ?_)
  exact DE.all [5] (by kernel_rfl) (by simp) (List.forall_mem_cons.2 ⟨DEs.mk (i := 5) (L' := #[true, true, true, true, true, true, false, false, true, true, true, false, false]) rfl (EStep.le (EStep.ofN2 tbok (σ' := ⟨49, [(37, .agg (tc ePlace aP)), (3, .ref 3 0), (36, .own 36), (42, vl ePlace x15)], [(3, .box (tc ePlace aP)), (36, oa 41 5 ePlace x13)]⟩) (by kernel_rfl)) Le.sub0) (by kernel_rfl) d31, (fun _ h => absurd h List.not_mem_nil)⟩)
  refine DE.share (fuel := 5) (L := #[true, true, true, true, true, true, false, false, true, true, false, false, false]) (σ := ⟨49, [(36, .own 36), (37, .agg (tc ePlace aP)), (40, vl ePlace aList), (41, vi j5)], [(36, oa 41 5 ePlace x13)]⟩) ?_ (fun d24 => ?_)
  exact DE.all [6, 10] (by kernel_rfl) (by simp) (List.forall_mem_cons.2 ⟨DEs.mk (i := 6) (L' := #[true, true, true, true, true, true, true, false, true, true, false, false, false]) rfl (EStep.le (EStep.ofN2 tbok (σ' := ⟨49, [(38, .own 38), (36, .own 36), (37, .agg (tc ePlace aP)), (40, vl ePlace aList), (41, vi j5)], [(38, oa 41 5 ePlace ([aP] : List Place)), (36, oa 41 5 ePlace x13)]⟩) (by kernel_rfl)) Le.sub0) (by kernel_rfl) d30, (List.forall_mem_cons.2 ⟨DEs.mk (i := 10) (L' := #[true, true, true, true, true, true, false, false, true, true, true, false, false]) rfl (EStep.le (EStep.ofL (x_slice (m := 5) (f := ePlace) (ti := ti24) (tj := ti41) (e := 41) hx15 (fun _ => rfl) tbok rfl) (by kernel_rfl)) Le.sub0) (by kernel_rfl) d31, (fun _ h => absurd h List.not_mem_nil)⟩)⟩)
  refine DE.share (fuel := 6) (L := #[false, true, true, false, false, true, true, false, true, true, true, false, false]) (σ := ⟨49, [(33, vl ePlace aList), (34, vi j5), (38, .own 38), (42, vl ePlace x15)], [(38, oa 41 5 ePlace ([aP] : List Place))]⟩) ?_ (fun d23 => ?_)
  exact DE.all [0, 3] (by kernel_rfl) (by simp) (List.forall_mem_cons.2 ⟨DEs.mk (i := 0) (L' := #[true, true, true, false, false, true, true, false, true, true, true, false, false]) rfl (EStep.ofN2 tbok (σ' := ⟨49, [(32, .own 32), (33, vl ePlace aList), (34, vi j5), (38, .own 38), (42, vl ePlace x15)], [(32, oa 41 5 ePlace ([] : List Place)), (38, oa 41 5 ePlace ([aP] : List Place))]⟩) (by kernel_rfl)) (by kernel_rfl) d28, (List.forall_mem_cons.2 ⟨DEs.mk (i := 3) (L' := #[false, true, true, true, false, true, true, false, true, true, true, false, false]) rfl (EStep.le (EStep.ofL (x_slice (m := 5) (f := ePlace) (ti := ti24) (tj := ti41) (e := 41) hx12 (fun _ => rfl) tbok rfl) (by kernel_rfl)) Le.sub0) (by kernel_rfl) d29, (fun _ h => absurd h List.not_mem_nil)⟩)⟩)
  refine DE.share (fuel := 6) (L := #[false, true, true, true, false, true, false, false, true, true, true, false, false]) (σ := ⟨49, [(35, vl ePlace x12), (37, .agg (tc ePlace aP)), (42, vl ePlace x15)], []⟩) ?_ (fun d22 => ?_)
  exact DE.all [0, 6] (by kernel_rfl) (by simp) (List.forall_mem_cons.2 ⟨DEs.mk (i := 0) (L' := #[true, true, true, true, false, true, false, false, true, true, true, false, false]) rfl (EStep.ofN2 tbok (σ' := ⟨49, [(32, .own 32), (35, vl ePlace x12), (37, .agg (tc ePlace aP)), (42, vl ePlace x15)], [(32, oa 41 5 ePlace ([] : List Place))]⟩) (by kernel_rfl)) (by kernel_rfl) d27, (List.forall_mem_cons.2 ⟨DEs.mk (i := 6) (L' := #[false, true, true, true, false, true, true, false, true, true, true, false, false]) rfl (EStep.le (EStep.ofN2 tbok (σ' := ⟨49, [(38, .own 38), (35, vl ePlace x12), (37, .agg (tc ePlace aP)), (42, vl ePlace x15)], [(38, oa 41 5 ePlace ([aP] : List Place))]⟩) (by kernel_rfl)) Le.sub0) (by kernel_rfl) d29, (fun _ h => absurd h List.not_mem_nil)⟩)⟩)
  refine DE.share (fuel := 6) (L := #[false, true, true, true, false, true, true, false, true, true, false, false, false]) (σ := ⟨49, [(35, vl ePlace x12), (38, .own 38), (40, vl ePlace aList), (41, vi j5)], [(38, oa 41 5 ePlace ([aP] : List Place))]⟩) ?_ (fun d21 => ?_)
  exact DE.all [0, 10] (by kernel_rfl) (by simp) (List.forall_mem_cons.2 ⟨DEs.mk (i := 0) (L' := #[true, true, true, true, false, true, true, false, true, true, false, false, false]) rfl (EStep.ofN2 tbok (σ' := ⟨49, [(32, .own 32), (35, vl ePlace x12), (38, .own 38), (40, vl ePlace aList), (41, vi j5)], [(32, oa 41 5 ePlace ([] : List Place)), (38, oa 41 5 ePlace ([aP] : List Place))]⟩) (by kernel_rfl)) (by kernel_rfl) d26, (List.forall_mem_cons.2 ⟨DEs.mk (i := 10) (L' := #[false, true, true, true, false, true, true, false, true, true, true, false, false]) rfl (EStep.le (EStep.ofL (x_slice (m := 5) (f := ePlace) (ti := ti24) (tj := ti41) (e := 41) hx15 (fun _ => rfl) tbok rfl) (by kernel_rfl)) Le.sub0) (by kernel_rfl) d29, (fun _ h => absurd h List.not_mem_nil)⟩)⟩)
  refine DE.share (fuel := 6) (L := #[true, true, true, false, false, true, false, false, true, true, true, false, false]) (σ := ⟨49, [(32, .own 32), (33, vl ePlace aList), (34, vi j5), (37, .agg (tc ePlace aP)), (42, vl ePlace x15)], [(32, oa 41 5 ePlace ([] : List Place))]⟩) ?_ (fun d20 => ?_)
  exact DE.all [3, 6] (by kernel_rfl) (by simp) (List.forall_mem_cons.2 ⟨DEs.mk (i := 3) (L' := #[true, true, true, true, false, true, false, false, true, true, true, false, false]) rfl (EStep.le (EStep.ofL (x_slice (m := 5) (f := ePlace) (ti := ti24) (tj := ti41) (e := 41) hx12 (fun _ => rfl) tbok rfl) (by kernel_rfl)) Le.sub0) (by kernel_rfl) d27, (List.forall_mem_cons.2 ⟨DEs.mk (i := 6) (L' := #[true, true, true, false, false, true, true, false, true, true, true, false, false]) rfl (EStep.le (EStep.ofN2 tbok (σ' := ⟨49, [(38, .own 38), (32, .own 32), (33, vl ePlace aList), (34, vi j5), (37, .agg (tc ePlace aP)), (42, vl ePlace x15)], [(38, oa 41 5 ePlace ([aP] : List Place)), (32, oa 41 5 ePlace ([] : List Place))]⟩) (by kernel_rfl)) Le.sub0) (by kernel_rfl) d28, (fun _ h => absurd h List.not_mem_nil)⟩)⟩)
  refine DE.share (fuel := 6) (L := #[true, true, true, false, false, true, true, false, true, true, false, false, false]) (σ := ⟨49, [(32, .own 32), (33, vl ePlace aList), (34, vi j5), (38, .own 38), (40, vl ePlace aList), (41, vi j5)], [(32, oa 41 5 ePlace ([] : List Place)), (38, oa 41 5 ePlace ([aP] : List Place))]⟩) ?_ (fun d19 => ?_)
  exact DE.all [3, 10] (by kernel_rfl) (by simp) (List.forall_mem_cons.2 ⟨DEs.mk (i := 3) (L' := #[true, true, true, true, false, true, true, false, true, true, false, false, false]) rfl (EStep.le (EStep.ofL (x_slice (m := 5) (f := ePlace) (ti := ti24) (tj := ti41) (e := 41) hx12 (fun _ => rfl) tbok rfl) (by kernel_rfl)) Le.sub0) (by kernel_rfl) d26, (List.forall_mem_cons.2 ⟨DEs.mk (i := 10) (L' := #[true, true, true, false, false, true, true, false, true, true, true, false, false]) rfl (EStep.le (EStep.ofL (x_slice (m := 5) (f := ePlace) (ti := ti24) (tj := ti41) (e := 41) hx15 (fun _ => rfl) tbok rfl) (by kernel_rfl)) Le.sub0) (by kernel_rfl) d28, (fun _ h => absurd h List.not_mem_nil)⟩)⟩)
  refine DE.share (fuel := 6) (L := #[true, true, true, true, false, false, false, false, true, true, true, false, false]) (σ := ⟨49, [(3, .ref 3 0), (32, .own 32), (35, vl ePlace x12), (42, vl ePlace x15)], [(3, .box (tc ePlace aP)), (32, oa 41 5 ePlace ([] : List Place))]⟩) ?_ (fun d18 => ?_)
  exact DE.all [4, 5] (by kernel_rfl) (by simp) (List.forall_mem_cons.2 ⟨DEs.mk (i := 4) (L' := #[true, true, true, true, true, false, false, false, true, true, true, false, false]) rfl (EStep.le (x_append (f := ePlace) (t := 24) (ti := ti24) (tj := ti41) (zs := [.string (ByteArray.mk #[]), .int .i64 0, .int .i64 0, .int .i64 0, .slice none 0 0]) (e := 41) (m := 5) (d := 32) (xv := vl ePlace x12) hx13 tbok rfl rfl rfl rfl (src_e (fun _ => rfl))) Le.sub0) (by kernel_rfl) d25, (List.forall_mem_cons.2 ⟨DEs.mk (i := 5) (L' := #[true, true, true, true, false, true, false, false, true, true, true, false, false]) rfl (EStep.le (EStep.ofN2 tbok (σ' := ⟨49, [(37, .agg (tc ePlace aP)), (3, .ref 3 0), (32, .own 32), (35, vl ePlace x12), (42, vl ePlace x15)], [(3, .box (tc ePlace aP)), (32, oa 41 5 ePlace ([] : List Place))]⟩) (by kernel_rfl)) Le.sub0) (by kernel_rfl) d27, (fun _ h => absurd h List.not_mem_nil)⟩)⟩)
  refine DE.share (fuel := 6) (L := #[true, true, true, true, false, true, false, false, true, true, false, false, false]) (σ := ⟨49, [(32, .own 32), (35, vl ePlace x12), (37, .agg (tc ePlace aP)), (40, vl ePlace aList), (41, vi j5)], [(32, oa 41 5 ePlace ([] : List Place))]⟩) ?_ (fun d17 => ?_)
  exact DE.all [4, 6, 10] (by kernel_rfl) (by simp) (List.forall_mem_cons.2 ⟨DEs.mk (i := 4) (L' := #[true, true, true, true, true, true, false, false, true, true, false, false, false]) rfl (EStep.le (x_append (f := ePlace) (t := 24) (ti := ti24) (tj := ti41) (zs := [.string (ByteArray.mk #[]), .int .i64 0, .int .i64 0, .int .i64 0, .slice none 0 0]) (e := 41) (m := 5) (d := 32) (xv := vl ePlace x12) hx13 tbok rfl rfl rfl rfl (src_e (fun _ => rfl))) Le.sub0) (by kernel_rfl) d24, (List.forall_mem_cons.2 ⟨DEs.mk (i := 6) (L' := #[true, true, true, true, false, true, true, false, true, true, false, false, false]) rfl (EStep.le (EStep.ofN2 tbok (σ' := ⟨49, [(38, .own 38), (32, .own 32), (35, vl ePlace x12), (37, .agg (tc ePlace aP)), (40, vl ePlace aList), (41, vi j5)], [(38, oa 41 5 ePlace ([aP] : List Place)), (32, oa 41 5 ePlace ([] : List Place))]⟩) (by kernel_rfl)) Le.sub0) (by kernel_rfl) d26, (List.forall_mem_cons.2 ⟨DEs.mk (i := 10) (L' := #[true, true, true, true, false, true, false, false, true, true, true, false, false]) rfl (EStep.le (EStep.ofL (x_slice (m := 5) (f := ePlace) (ti := ti24) (tj := ti41) (e := 41) hx15 (fun _ => rfl) tbok rfl) (by kernel_rfl)) Le.sub0) (by kernel_rfl) d27, (fun _ h => absurd h List.not_mem_nil)⟩)⟩)⟩)
  refine DE.share (fuel := 6) (L := #[true, true, true, true, true, false, false, false, true, true, false, false, false]) (σ := ⟨49, [(3, .ref 3 0), (36, .own 36), (40, vl ePlace aList), (41, vi j5)], [(3, .box (tc ePlace aP)), (36, oa 41 5 ePlace x13)]⟩) ?_ (fun d16 => ?_)
  exact DE.all [5, 10] (by kernel_rfl) (by simp) (List.forall_mem_cons.2 ⟨DEs.mk (i := 5) (L' := #[true, true, true, true, true, true, false, false, true, true, false, false, false]) rfl (EStep.le (EStep.ofN2 tbok (σ' := ⟨49, [(37, .agg (tc ePlace aP)), (3, .ref 3 0), (36, .own 36), (40, vl ePlace aList), (41, vi j5)], [(3, .box (tc ePlace aP)), (36, oa 41 5 ePlace x13)]⟩) (by kernel_rfl)) Le.sub0) (by kernel_rfl) d24, (List.forall_mem_cons.2 ⟨DEs.mk (i := 10) (L' := #[true, true, true, true, true, false, false, false, true, true, true, false, false]) rfl (EStep.le (EStep.ofL (x_slice (m := 5) (f := ePlace) (ti := ti24) (tj := ti41) (e := 41) hx15 (fun _ => rfl) tbok rfl) (by kernel_rfl)) Le.sub0) (by kernel_rfl) d25, (fun _ h => absurd h List.not_mem_nil)⟩)⟩)
  refine DE.share (fuel := 7) (L := #[false, true, true, false, false, true, false, false, true, true, true, false, false]) (σ := ⟨49, [(33, vl ePlace aList), (34, vi j5), (37, .agg (tc ePlace aP)), (42, vl ePlace x15)], []⟩) ?_ (fun d15 => ?_)
  exact DE.all [0, 3, 6] (by kernel_rfl) (by simp) (List.forall_mem_cons.2 ⟨DEs.mk (i := 0) (L' := #[true, true, true, false, false, true, false, false, true, true, true, false, false]) rfl (EStep.ofN2 tbok (σ' := ⟨49, [(32, .own 32), (33, vl ePlace aList), (34, vi j5), (37, .agg (tc ePlace aP)), (42, vl ePlace x15)], [(32, oa 41 5 ePlace ([] : List Place))]⟩) (by kernel_rfl)) (by kernel_rfl) d20, (List.forall_mem_cons.2 ⟨DEs.mk (i := 3) (L' := #[false, true, true, true, false, true, false, false, true, true, true, false, false]) rfl (EStep.le (EStep.ofL (x_slice (m := 5) (f := ePlace) (ti := ti24) (tj := ti41) (e := 41) hx12 (fun _ => rfl) tbok rfl) (by kernel_rfl)) Le.sub0) (by kernel_rfl) d22, (List.forall_mem_cons.2 ⟨DEs.mk (i := 6) (L' := #[false, true, true, false, false, true, true, false, true, true, true, false, false]) rfl (EStep.le (EStep.ofN2 tbok (σ' := ⟨49, [(38, .own 38), (33, vl ePlace aList), (34, vi j5), (37, .agg (tc ePlace aP)), (42, vl ePlace x15)], [(38, oa 41 5 ePlace ([aP] : List Place))]⟩) (by kernel_rfl)) Le.sub0) (by kernel_rfl) d23, (fun _ h => absurd h List.not_mem_nil)⟩)⟩)⟩)
  refine DE.share (fuel := 7) (L := #[false, true, true, false, false, true, true, false, true, true, false, false, false]) (σ := ⟨49, [(33, vl ePlace aList), (34, vi j5), (38, .own 38), (40, vl ePlace aList), (41, vi j5)], [(38, oa 41 5 ePlace ([aP] : List Place))]⟩) ?_ (fun d14 => ?_)
  exact DE.all [0, 3, 10] (by kernel_rfl) (by simp) (List.forall_mem_cons.2 ⟨DEs.mk (i := 0) (L' := #[true, true, true, false, false, true, true, false, true, true, false, false, false]) rfl (EStep.ofN2 tbok (σ' := ⟨49, [(32, .own 32), (33, vl ePlace aList), (34, vi j5), (38, .own 38), (40, vl ePlace aList), (41, vi j5)], [(32, oa 41 5 ePlace ([] : List Place)), (38, oa 41 5 ePlace ([aP] : List Place))]⟩) (by kernel_rfl)) (by kernel_rfl) d19, (List.forall_mem_cons.2 ⟨DEs.mk (i := 3) (L' := #[false, true, true, true, false, true, true, false, true, true, false, false, false]) rfl (EStep.le (EStep.ofL (x_slice (m := 5) (f := ePlace) (ti := ti24) (tj := ti41) (e := 41) hx12 (fun _ => rfl) tbok rfl) (by kernel_rfl)) Le.sub0) (by kernel_rfl) d21, (List.forall_mem_cons.2 ⟨DEs.mk (i := 10) (L' := #[false, true, true, false, false, true, true, false, true, true, true, false, false]) rfl (EStep.le (EStep.ofL (x_slice (m := 5) (f := ePlace) (ti := ti24) (tj := ti41) (e := 41) hx15 (fun _ => rfl) tbok rfl) (by kernel_rfl)) Le.sub0) (by kernel_rfl) d23, (fun _ h => absurd h List.not_mem_nil)⟩)⟩)⟩)
  refine DE.share (fuel := 7) (L := #[false, true, true, true, false, false, false, false, true, true, true, false, false]) (σ := ⟨49, [(3, .ref 3 0), (35, vl ePlace x12), (42, vl ePlace x15)], [(3, .box (tc ePlace aP))]⟩) ?_ (fun d13 => ?_)
  exact DE.all [0, 5] (by kernel_rfl) (by simp) (List.forall_mem_cons.2 ⟨DEs.mk (i := 0) (L' := #[true, true, true, true, false, false, false, false, true, true, true, false, false]) rfl (EStep.le (EStep.ofN2 tbok (σ' := ⟨49, [(32, .own 32), (3, .ref 3 0), (35, vl ePlace x12), (42, vl ePlace x15)], [(32, oa 41 5 ePlace ([] : List Place)), (3, .box (tc ePlace aP))]⟩) (by kernel_rfl)) Le.sub0) (by kernel_rfl) d18, (List.forall_mem_cons.2 ⟨DEs.mk (i := 5) (L' := #[false, true, true, true, false, true, false, false, true, true, true, false, false]) rfl (EStep.le (EStep.ofN2 tbok (σ' := ⟨49, [(37, .agg (tc ePlace aP)), (3, .ref 3 0), (35, vl ePlace x12), (42, vl ePlace x15)], [(3, .box (tc ePlace aP))]⟩) (by kernel_rfl)) Le.sub0) (by kernel_rfl) d22, (fun _ h => absurd h List.not_mem_nil)⟩)⟩)
  refine DE.share (fuel := 7) (L := #[false, true, true, true, false, true, false, false, true, true, false, false, false]) (σ := ⟨49, [(35, vl ePlace x12), (37, .agg (tc ePlace aP)), (40, vl ePlace aList), (41, vi j5)], []⟩) ?_ (fun d12 => ?_)
  exact DE.all [0, 6, 10] (by kernel_rfl) (by simp) (List.forall_mem_cons.2 ⟨DEs.mk (i := 0) (L' := #[true, true, true, true, false, true, false, false, true, true, false, false, false]) rfl (EStep.ofN2 tbok (σ' := ⟨49, [(32, .own 32), (35, vl ePlace x12), (37, .agg (tc ePlace aP)), (40, vl ePlace aList), (41, vi j5)], [(32, oa 41 5 ePlace ([] : List Place))]⟩) (by kernel_rfl)) (by kernel_rfl) d17, (List.forall_mem_cons.2 ⟨DEs.mk (i := 6) (L' := #[false, true, true, true, false, true, true, false, true, true, false, false, false]) rfl (EStep.le (EStep.ofN2 tbok (σ' := ⟨49, [(38, .own 38), (35, vl ePlace x12), (37, .agg (tc ePlace aP)), (40, vl ePlace aList), (41, vi j5)], [(38, oa 41 5 ePlace ([aP] : List Place))]⟩) (by kernel_rfl)) Le.sub0) (by kernel_rfl) d21, (List.forall_mem_cons.2 ⟨DEs.mk (i := 10) (L' := #[false, true, true, true, false, true, false, false, true, true, true, false, false]) rfl (EStep.le (EStep.ofL (x_slice (m := 5) (f := ePlace) (ti := ti24) (tj := ti41) (e := 41) hx15 (fun _ => rfl) tbok rfl) (by kernel_rfl)) Le.sub0) (by kernel_rfl) d22, (fun _ h => absurd h List.not_mem_nil)⟩)⟩)⟩)
  refine DE.share (fuel := 7) (L := #[true, true, true, false, false, false, false, false, true, true, true, false, false]) (σ := ⟨49, [(3, .ref 3 0), (32, .own 32), (33, vl ePlace aList), (34, vi j5), (42, vl ePlace x15)], [(3, .box (tc ePlace aP)), (32, oa 41 5 ePlace ([] : List Place))]⟩) ?_ (fun d11 => ?_)
  exact DE.all [3, 5] (by kernel_rfl) (by simp) (List.forall_mem_cons.2 ⟨DEs.mk (i := 3) (L' := #[true, true, true, true, false, false, false, false, true, true, true, false, false]) rfl (EStep.le (EStep.ofL (x_slice (m := 5) (f := ePlace) (ti := ti24) (tj := ti41) (e := 41) hx12 (fun _ => rfl) tbok rfl) (by kernel_rfl)) Le.sub0) (by kernel_rfl) d18, (List.forall_mem_cons.2 ⟨DEs.mk (i := 5) (L' := #[true, true, true, false, false, true, false, false, true, true, true, false, false]) rfl (EStep.le (EStep.ofN2 tbok (σ' := ⟨49, [(37, .agg (tc ePlace aP)), (3, .ref 3 0), (32, .own 32), (33, vl ePlace aList), (34, vi j5), (42, vl ePlace x15)], [(3, .box (tc ePlace aP)), (32, oa 41 5 ePlace ([] : List Place))]⟩) (by kernel_rfl)) Le.sub0) (by kernel_rfl) d20, (fun _ h => absurd h List.not_mem_nil)⟩)⟩)
  refine DE.share (fuel := 7) (L := #[true, true, true, false, false, true, false, false, true, true, false, false, false]) (σ := ⟨49, [(32, .own 32), (33, vl ePlace aList), (34, vi j5), (37, .agg (tc ePlace aP)), (40, vl ePlace aList), (41, vi j5)], [(32, oa 41 5 ePlace ([] : List Place))]⟩) ?_ (fun d10 => ?_)
  exact DE.all [3, 6, 10] (by kernel_rfl) (by simp) (List.forall_mem_cons.2 ⟨DEs.mk (i := 3) (L' := #[true, true, true, true, false, true, false, false, true, true, false, false, false]) rfl (EStep.le (EStep.ofL (x_slice (m := 5) (f := ePlace) (ti := ti24) (tj := ti41) (e := 41) hx12 (fun _ => rfl) tbok rfl) (by kernel_rfl)) Le.sub0) (by kernel_rfl) d17, (List.forall_mem_cons.2 ⟨DEs.mk (i := 6) (L' := #[true, true, true, false, false, true, true, false, true, true, false, false, false]) rfl (EStep.le (EStep.ofN2 tbok (σ' := ⟨49, [(38, .own 38), (32, .own 32), (33, vl ePlace aList), (34, vi j5), (37, .agg (tc ePlace aP)), (40, vl ePlace aList), (41, vi j5)], [(38, oa 41 5 ePlace ([aP] : List Place)), (32, oa 41 5 ePlace ([] : List Place))]⟩) (by kernel_rfl)) Le.sub0) (by kernel_rfl) d19, (List.forall_mem_cons.2 ⟨DEs.mk (i := 10) (L' := #[true, true, true, false, false, true, false, false, true, true, true, false, false]) rfl (EStep.le (EStep.ofL (x_slice (m := 5) (f := ePlace) (ti := ti24) (tj := ti41) (e := 41) hx15 (fun _ => rfl) tbok rfl) (by kernel_rfl)) Le.sub0) (by kernel_rfl) d20, (fun _ h => absurd h List.not_mem_nil)⟩)⟩)⟩)
  refine DE.share (fuel := 7) (L := #[true, true, true, true, false, false, false, false, true, true, false, false, false]) (σ := ⟨49, [(3, .ref 3 0), (32, .own 32), (35, vl ePlace x12), (40, vl ePlace aList), (41, vi j5)], [(3, .box (tc ePlace aP)), (32, oa 41 5 ePlace ([] : List Place))]⟩) ?_ (fun d9 => ?_)
  exact DE.all [4, 5, 10] (by kernel_rfl) (by simp) (List.forall_mem_cons.2 ⟨DEs.mk (i := 4) (L' := #[true, true, true, true, true, false, false, false, true, true, false, false, false]) rfl (EStep.le (x_append (f := ePlace) (t := 24) (ti := ti24) (tj := ti41) (zs := [.string (ByteArray.mk #[]), .int .i64 0, .int .i64 0, .int .i64 0, .slice none 0 0]) (e := 41) (m := 5) (d := 32) (xv := vl ePlace x12) hx13 tbok rfl rfl rfl rfl (src_e (fun _ => rfl))) Le.sub0) (by kernel_rfl) d16, (List.forall_mem_cons.2 ⟨DEs.mk (i := 5) (L' := #[true, true, true, true, false, true, false, false, true, true, false, false, false]) rfl (EStep.le (EStep.ofN2 tbok (σ' := ⟨49, [(37, .agg (tc ePlace aP)), (3, .ref 3 0), (32, .own 32), (35, vl ePlace x12), (40, vl ePlace aList), (41, vi j5)], [(3, .box (tc ePlace aP)), (32, oa 41 5 ePlace ([] : List Place))]⟩) (by kernel_rfl)) Le.sub0) (by kernel_rfl) d17, (List.forall_mem_cons.2 ⟨DEs.mk (i := 10) (L' := #[true, true, true, true, false, false, false, false, true, true, true, false, false]) rfl (EStep.le (EStep.ofL (x_slice (m := 5) (f := ePlace) (ti := ti24) (tj := ti41) (e := 41) hx15 (fun _ => rfl) tbok rfl) (by kernel_rfl)) Le.sub0) (by kernel_rfl) d18, (fun _ h => absurd h List.not_mem_nil)⟩)⟩)⟩)
  refine DE.share (fuel := 8) (L := #[false, true, true, false, false, false, false, false, true, true, true, false, false]) (σ := ⟨49, [(3, .ref 3 0), (33, vl ePlace aList), (34, vi j5), (42, vl ePlace x15)], [(3, .box (tc ePlace aP))]⟩) ?_ (fun d8 => ?_)
  exact DE.all [0, 3, 5] (by kernel_rfl) (by simp) (List.forall_mem_cons.2 ⟨DEs.mk (i := 0) (L' := #[true, true, true, false, false, false, false, false, true, true, true, false, false]) rfl (EStep.le (EStep.ofN2 tbok (σ' := ⟨49, [(32, .own 32), (3, .ref 3 0), (33, vl ePlace aList), (34, vi j5), (42, vl ePlace x15)], [(32, oa 41 5 ePlace ([] : List Place)), (3, .box (tc ePlace aP))]⟩) (by kernel_rfl)) Le.sub0) (by kernel_rfl) d11, (List.forall_mem_cons.2 ⟨DEs.mk (i := 3) (L' := #[false, true, true, true, false, false, false, false, true, true, true, false, false]) rfl (EStep.le (EStep.ofL (x_slice (m := 5) (f := ePlace) (ti := ti24) (tj := ti41) (e := 41) hx12 (fun _ => rfl) tbok rfl) (by kernel_rfl)) Le.sub0) (by kernel_rfl) d13, (List.forall_mem_cons.2 ⟨DEs.mk (i := 5) (L' := #[false, true, true, false, false, true, false, false, true, true, true, false, false]) rfl (EStep.le (EStep.ofN2 tbok (σ' := ⟨49, [(37, .agg (tc ePlace aP)), (3, .ref 3 0), (33, vl ePlace aList), (34, vi j5), (42, vl ePlace x15)], [(3, .box (tc ePlace aP))]⟩) (by kernel_rfl)) Le.sub0) (by kernel_rfl) d15, (fun _ h => absurd h List.not_mem_nil)⟩)⟩)⟩)
  refine DE.share (fuel := 8) (L := #[false, true, true, false, false, true, false, false, true, true, false, false, false]) (σ := ⟨49, [(33, vl ePlace aList), (34, vi j5), (37, .agg (tc ePlace aP)), (40, vl ePlace aList), (41, vi j5)], []⟩) ?_ (fun d7 => ?_)
  exact DE.all [0, 3, 6, 10] (by kernel_rfl) (by simp) (List.forall_mem_cons.2 ⟨DEs.mk (i := 0) (L' := #[true, true, true, false, false, true, false, false, true, true, false, false, false]) rfl (EStep.ofN2 tbok (σ' := ⟨49, [(32, .own 32), (33, vl ePlace aList), (34, vi j5), (37, .agg (tc ePlace aP)), (40, vl ePlace aList), (41, vi j5)], [(32, oa 41 5 ePlace ([] : List Place))]⟩) (by kernel_rfl)) (by kernel_rfl) d10, (List.forall_mem_cons.2 ⟨DEs.mk (i := 3) (L' := #[false, true, true, true, false, true, false, false, true, true, false, false, false]) rfl (EStep.le (EStep.ofL (x_slice (m := 5) (f := ePlace) (ti := ti24) (tj := ti41) (e := 41) hx12 (fun _ => rfl) tbok rfl) (by kernel_rfl)) Le.sub0) (by kernel_rfl) d12, (List.forall_mem_cons.2 ⟨DEs.mk (i := 6) (L' := #[false, true, true, false, false, true, true, false, true, true, false, false, false]) rfl (EStep.le (EStep.ofN2 tbok (σ' := ⟨49, [(38, .own 38), (33, vl ePlace aList), (34, vi j5), (37, .agg (tc ePlace aP)), (40, vl ePlace aList), (41, vi j5)], [(38, oa 41 5 ePlace ([aP] : List Place))]⟩) (by kernel_rfl)) Le.sub0) (by kernel_rfl) d14, (List.forall_mem_cons.2 ⟨DEs.mk (i := 10) (L' := #[false, true, true, false, false, true, false, false, true, true, true, false, false]) rfl (EStep.le (EStep.ofL (x_slice (m := 5) (f := ePlace) (ti := ti24) (tj := ti41) (e := 41) hx15 (fun _ => rfl) tbok rfl) (by kernel_rfl)) Le.sub0) (by kernel_rfl) d15, (fun _ h => absurd h List.not_mem_nil)⟩)⟩)⟩)⟩)
  refine DE.share (fuel := 8) (L := #[false, true, true, true, false, false, false, false, true, true, false, false, false]) (σ := ⟨49, [(3, .ref 3 0), (35, vl ePlace x12), (40, vl ePlace aList), (41, vi j5)], [(3, .box (tc ePlace aP))]⟩) ?_ (fun d6 => ?_)
  exact DE.all [0, 5, 10] (by kernel_rfl) (by simp) (List.forall_mem_cons.2 ⟨DEs.mk (i := 0) (L' := #[true, true, true, true, false, false, false, false, true, true, false, false, false]) rfl (EStep.le (EStep.ofN2 tbok (σ' := ⟨49, [(32, .own 32), (3, .ref 3 0), (35, vl ePlace x12), (40, vl ePlace aList), (41, vi j5)], [(32, oa 41 5 ePlace ([] : List Place)), (3, .box (tc ePlace aP))]⟩) (by kernel_rfl)) Le.sub0) (by kernel_rfl) d9, (List.forall_mem_cons.2 ⟨DEs.mk (i := 5) (L' := #[false, true, true, true, false, true, false, false, true, true, false, false, false]) rfl (EStep.le (EStep.ofN2 tbok (σ' := ⟨49, [(37, .agg (tc ePlace aP)), (3, .ref 3 0), (35, vl ePlace x12), (40, vl ePlace aList), (41, vi j5)], [(3, .box (tc ePlace aP))]⟩) (by kernel_rfl)) Le.sub0) (by kernel_rfl) d12, (List.forall_mem_cons.2 ⟨DEs.mk (i := 10) (L' := #[false, true, true, true, false, false, false, false, true, true, true, false, false]) rfl (EStep.le (EStep.ofL (x_slice (m := 5) (f := ePlace) (ti := ti24) (tj := ti41) (e := 41) hx15 (fun _ => rfl) tbok rfl) (by kernel_rfl)) Le.sub0) (by kernel_rfl) d13, (fun _ h => absurd h List.not_mem_nil)⟩)⟩)⟩)
  refine DE.share (fuel := 8) (L := #[true, true, true, false, false, false, false, false, true, true, false, false, false]) (σ := ⟨49, [(3, .ref 3 0), (32, .own 32), (33, vl ePlace aList), (34, vi j5), (40, vl ePlace aList), (41, vi j5)], [(3, .box (tc ePlace aP)), (32, oa 41 5 ePlace ([] : List Place))]⟩) ?_ (fun d5 => ?_)
  exact DE.all [3, 5, 10] (by kernel_rfl) (by simp) (List.forall_mem_cons.2 ⟨DEs.mk (i := 3) (L' := #[true, true, true, true, false, false, false, false, true, true, false, false, false]) rfl (EStep.le (EStep.ofL (x_slice (m := 5) (f := ePlace) (ti := ti24) (tj := ti41) (e := 41) hx12 (fun _ => rfl) tbok rfl) (by kernel_rfl)) Le.sub0) (by kernel_rfl) d9, (List.forall_mem_cons.2 ⟨DEs.mk (i := 5) (L' := #[true, true, true, false, false, true, false, false, true, true, false, false, false]) rfl (EStep.le (EStep.ofN2 tbok (σ' := ⟨49, [(37, .agg (tc ePlace aP)), (3, .ref 3 0), (32, .own 32), (33, vl ePlace aList), (34, vi j5), (40, vl ePlace aList), (41, vi j5)], [(3, .box (tc ePlace aP)), (32, oa 41 5 ePlace ([] : List Place))]⟩) (by kernel_rfl)) Le.sub0) (by kernel_rfl) d10, (List.forall_mem_cons.2 ⟨DEs.mk (i := 10) (L' := #[true, true, true, false, false, false, false, false, true, true, true, false, false]) rfl (EStep.le (EStep.ofL (x_slice (m := 5) (f := ePlace) (ti := ti24) (tj := ti41) (e := 41) hx15 (fun _ => rfl) tbok rfl) (by kernel_rfl)) Le.sub0) (by kernel_rfl) d11, (fun _ h => absurd h List.not_mem_nil)⟩)⟩)⟩)
  refine DE.share (fuel := 9) (L := #[false, true, true, false, false, false, false, false, true, true, false, false, false]) (σ := ⟨49, [(3, .ref 3 0), (33, vl ePlace aList), (34, vi j5), (40, vl ePlace aList), (41, vi j5)], [(3, .box (tc ePlace aP))]⟩) ?_ (fun d4 => ?_)
  exact DE.all [0, 3, 5, 10] (by kernel_rfl) (by simp) (List.forall_mem_cons.2 ⟨DEs.mk (i := 0) (L' := #[true, true, true, false, false, false, false, false, true, true, false, false, false]) rfl (EStep.le (EStep.ofN2 tbok (σ' := ⟨49, [(32, .own 32), (3, .ref 3 0), (33, vl ePlace aList), (34, vi j5), (40, vl ePlace aList), (41, vi j5)], [(32, oa 41 5 ePlace ([] : List Place)), (3, .box (tc ePlace aP))]⟩) (by kernel_rfl)) Le.sub0) (by kernel_rfl) d5, (List.forall_mem_cons.2 ⟨DEs.mk (i := 3) (L' := #[false, true, true, true, false, false, false, false, true, true, false, false, false]) rfl (EStep.le (EStep.ofL (x_slice (m := 5) (f := ePlace) (ti := ti24) (tj := ti41) (e := 41) hx12 (fun _ => rfl) tbok rfl) (by kernel_rfl)) Le.sub0) (by kernel_rfl) d6, (List.forall_mem_cons.2 ⟨DEs.mk (i := 5) (L' := #[false, true, true, false, false, true, false, false, true, true, false, false, false]) rfl (EStep.le (EStep.ofN2 tbok (σ' := ⟨49, [(37, .agg (tc ePlace aP)), (3, .ref 3 0), (33, vl ePlace aList), (34, vi j5), (40, vl ePlace aList), (41, vi j5)], [(3, .box (tc ePlace aP))]⟩) (by kernel_rfl)) Le.sub0) (by kernel_rfl) d7, (List.forall_mem_cons.2 ⟨DEs.mk (i := 10) (L' := #[false, true, true, false, false, false, false, false, true, true, true, false, false]) rfl (EStep.le (EStep.ofL (x_slice (m := 5) (f := ePlace) (ti := ti24) (tj := ti41) (e := 41) hx15 (fun _ => rfl) tbok rfl) (by kernel_rfl)) Le.sub0) (by kernel_rfl) d8, (fun _ h => absurd h List.not_mem_nil)⟩)⟩)⟩)⟩)
  refine DE.share (fuel := 10) (L := #[false, true, true, false, false, false, false, false, true, false, false, false, false]) (σ := ⟨49, [(3, .ref 3 0), (6, vi j5), (33, vl ePlace aList), (34, vi j5), (40, vl ePlace aList)], [(3, .box (tc ePlace aP))]⟩) ?_ (fun d3 => ?_)
  exact DE.take (i := 9) (L' := #[false, true, true, false, false, false, false, false, true, true, false, false, false]) rfl (.inl rfl) rfl (by kernel_rfl) (by kernel_rfl) (by kernel_rfl) (EStep.le (EStep.ofN2 tbok (σ' := ⟨49, [(41, vi j5), (3, .ref 3 0), (6, vi j5), (33, vl ePlace aList), (34, vi j5), (40, vl ePlace aList)], [(3, .box (tc ePlace aP))]⟩) (by kernel_rfl)) Le.sub0) (by kernel_rfl) d4
  refine DE.share (fuel := 11) (L := #[false, true, true, false, false, false, false, false, false, false, false, false, false]) (σ := ⟨49, [(0, vl ePlace aList), (3, .ref 3 0), (6, vi j5), (33, vl ePlace aList), (34, vi j5)], [(3, .box (tc ePlace aP))]⟩) ?_ (fun d2 => ?_)
  exact DE.take (i := 8) (L' := #[false, true, true, false, false, false, false, false, true, false, false, false, false]) rfl (.inl rfl) rfl (by kernel_rfl) (by kernel_rfl) (by kernel_rfl) (EStep.le (EStep.ofN2 tbok (σ' := ⟨49, [(40, vl ePlace aList), (0, vl ePlace aList), (3, .ref 3 0), (6, vi j5), (33, vl ePlace aList), (34, vi j5)], [(3, .box (tc ePlace aP))]⟩) (by kernel_rfl)) Le.sub0) (by kernel_rfl) d3
  refine DE.share (fuel := 12) (L := #[false, true, false, false, false, false, false, false, false, false, false, false, false]) (σ := ⟨49, [(0, vl ePlace aList), (3, .ref 3 0), (6, vi j5), (33, vl ePlace aList)], [(3, .box (tc ePlace aP))]⟩) ?_ (fun d1 => ?_)
  exact DE.take (i := 2) (L' := #[false, true, true, false, false, false, false, false, false, false, false, false, false]) rfl (.inl rfl) rfl (by kernel_rfl) (by kernel_rfl) (by kernel_rfl) (EStep.le (EStep.ofN2 tbok (σ' := ⟨49, [(34, vi j5), (0, vl ePlace aList), (3, .ref 3 0), (6, vi j5), (33, vl ePlace aList)], [(3, .box (tc ePlace aP))]⟩) (by kernel_rfl)) Le.sub0) (by kernel_rfl) d2
  exact DE.take (i := 1) (L' := #[false, true, false, false, false, false, false, false, false, false, false, false, false]) rfl (.inl rfl) rfl (by kernel_rfl) (by kernel_rfl) (by kernel_rfl) (EStep.le (EStep.ofN2 tbok (σ' := ⟨49, [(33, vl ePlace aList), (0, vl ePlace aList), (3, .ref 3 0), (6, vi j5)], [(3, .box (tc ePlace aP))]⟩) (by kernel_rfl)) Le.sub0) (by kernel_rfl) d1
  refine nx_n ?_
  refine swp_seq ?_
  refine sr ?_
  refine SRun.ck tbok 1 ⟨49, [(7, .own 43), (44, .own 43)], [(43, oa 41 5 ePlace x16)]⟩ ?_
  obtain ⟨x17, hx17, h⟩ := bind_some h
  refine SRun.ls (xc ents30 (spec_IsRegister_run x16 _ hx17)) ?_
  refine ckn tbok 1 ⟨49, [(7, .own 43), (46, vb (!x17))], [(43, oa 41 5 ePlace x16)]⟩ ?_
  refine swp_cd h (fun h => ?_) fun h => ?_
  refine srk tbok ⟨49, [(4, .own 4), (5, vi 5)], [(4, oa 41 5 ePlace ([] : List Place))]⟩ ?_
  refine swp_le (Le.deep0 (d := 4) (e := 41) (m := 5) (ss := [.flat, .flat, .flat, .flat, (.sl 95 5 [.flat, .flat, .flat, .flat, .flat])]) (by kernel_rfl) (by kernel_rfl)) ?_
  refine swp_ret ?_
  obtain rfl := inj h
  exact nx_r (q_fr (f2 (finD (d := 4) (holds_t (by kernel_rfl)) (by kernel_rfl) (by kernel_rfl)) fv))
  refine swp_skip ?_
  refine nx_n ?_
  refine sr ?_
  refine SRun.ck tbok 1 ⟨49, [(47, .own 43)], [(43, oa 41 5 ePlace x16)]⟩ ?_
  obtain ⟨x18, hx18, h⟩ := bind_some h
  refine SRun.ls (xc ents40 (spec_l11Own_run x16 _ hx18)) ?_
  refine ckn tbok 2 ⟨49, [(4, .own 48), (5, vi 0)], [(48, .deep 41 5 x18.length [.flat, .flat, .flat, .flat, (.sl 95 5 [.flat, .flat, .flat, .flat, .flat])] (x18.map ePlace))]⟩ ?_
  refine swp_ret ?_
  obtain rfl := inj h
  exact q_fr (f2 (finD (d := 48) (holds_t (by kernel_rfl)) (by kernel_rfl) (by kernel_rfl)) fv)
theorem ents14 : Ents Tryz.prog 14 := ents_of Tryz.func14 (by kernel_rfl) rfl
noncomputable def impl_within (aX : Int) (aLow : Int) (aHigh : Int) : Option (Bool) :=
  some ((decide (aX ≥ aLow)) && (decide (aX ≤ aHigh)))
theorem impl_within_run (aX : Int) (aLow : Int) (aHigh : Int) (r : Bool) (h : impl_within aX aLow aHigh = some r) : SCall Tryz.prog 74 [.v (vi aX), .v (vi aLow), .v (vi aHigh)] ⟨[.v (vb r)], [], false⟩ := by
  refine scall_in Tryz.func74 rfl [(.tmp 6)] rfl (fun r => ⟨[.v (vb r)], [], false⟩) (r := r) ?_
  unfold impl_within at h
  refine srk tbok ⟨15, [(0, vi aX), (1, vi aLow), (2, vi aHigh)], []⟩ ?_
  refine swp_seq ?_
  refine swp_regP ⟨15, [(6, vb ((decide (aX ≥ aLow)) && (decide (aX ≤ aHigh))))], []⟩ ?_ ?_
  refine SRun.ck tbok 4 ⟨15, [(0, vi aX), (2, vi aHigh), (10, vb (decide (aX ≥ aLow)))], []⟩ ?_
  generalize (decide (aX ≥ aLow)) = bb
  cases bb
  refine SRun.ck tbok 5 ⟨15, [(6, vb false)], []⟩ ?_
  exact SRun.nil (Le.sub0)
  refine SRun.ck tbok 5 ⟨15, [(6, vb (decide (aX ≤ aHigh)))], []⟩ ?_
  exact SRun.nil (Le.sub0)
  refine swp_ret ?_
  obtain rfl := inj h
  exact q_fr (f1 fv)
theorem ents74 : Ents Tryz.prog 74 := ents_of Tryz.func74 (by kernel_rfl) rfl
theorem strings_Trim_run (s c r : ByteArray) (h : strings_Trim s c = some r) : SCall Tryz.prog 117 [.v (.tr (.str s)), .v (.tr (.str c))] ⟨[.v (.tr (.str r))], [], false⟩ := trim_run Tryz.lays160 (by kernel_rfl) 117 rfl s c r h
theorem ents117 : Ents Tryz.prog 117 := ents_of Tryz.func117 (by kernel_rfl) rfl
noncomputable def impl_isSmall (aS : ByteArray) (aLeast : Int) (aMost : Int) : Option (Bool) :=
  ((((impl_within (aS.size : Int) aLeast aMost).bind fun x1 => (bif x1 then ((strings_Trim aS (ByteArray.mk #[97, 98, 99, 100, 101, 102, 103, 104, 105, 106, 107, 108, 109, 110, 111, 112, 113, 114, 115, 116, 117, 118, 119, 120, 121, 122])).bind fun x2 => some (x2.toList == (ByteArray.mk #[]).toList)) else some false))).bind fun (j3 : Bool) => some j3)
theorem impl_isSmall_run (aS : ByteArray) (aLeast : Int) (aMost : Int) (r : Bool) (h : impl_isSmall aS aLeast aMost = some r) : SCall Tryz.prog 88 [.v (vs aS), .v (vi aLeast), .v (vi aMost)] ⟨[.v (vb r)], [], false⟩ := by
  refine scall_in Tryz.func88 rfl [(.tmp 6)] rfl (fun r => ⟨[.v (vb r)], [], false⟩) (r := r) ?_
  unfold impl_isSmall at h
  refine srk tbok ⟨17, [(0, vs aS), (1, vi aLeast), (2, vi aMost)], []⟩ ?_
  refine swp_seq ?_
  refine swp_regJ h (fun j3 => ⟨17, [(6, vb j3)], []⟩) (fun v4 h => ?_) (fun j3 h => ?_)
  refine SRun.ck tbok 4 ⟨17, [(0, vs aS), (8, vi (aS.size : Int)), (9, vi aLeast), (10, vi aMost)], []⟩ ?_
  obtain ⟨x1, hx1, h⟩ := bind_some h
  refine SRun.ls (xc ents74 (impl_within_run (aS.size : Int) aLeast aMost _ hx1)) ?_
  refine SRun.ck tbok 1 ⟨17, [(0, vs aS), (12, vb x1)], []⟩ ?_
  refine SRun.cu [(12, fun b => b)] h (fun h => ?_) fun h => ?_
  refine SRun.ck tbok 1 ⟨17, [(12, vb true), (13, vs aS)], []⟩ ?_
  obtain ⟨x2, hx2, h⟩ := bind_some h
  refine SRun.ls (xc ents117 (strings_Trim_run aS (ByteArray.mk #[97, 98, 99, 100, 101, 102, 103, 104, 105, 106, 107, 108, 109, 110, 111, 112, 113, 114, 115, 116, 117, 118, 119, 120, 121, 122]) _ hx2)) ?_
  refine SRun.ck tbok 3 ⟨17, [(6, vb (x2.toList == (ByteArray.mk #[]).toList))], []⟩ ?_
  refine SRun.nil ?_
  obtain rfl := inj h
  exact Le.sub0
  refine SRun.ck tbok 5 ⟨17, [(6, vb false)], []⟩ ?_
  refine SRun.nil ?_
  obtain rfl := inj h
  exact Le.sub0
  refine swp_ret ?_
  obtain rfl := inj h
  exact q_fr (f1 fv)
theorem ents88 : Ents Tryz.prog 88 := ents_of Tryz.func88 (by kernel_rfl) rfl
noncomputable def impl_IsWord (aS : ByteArray) : Option (Bool) :=
  ((impl_isSmall aS 1 16).bind fun x1 => some x1)
theorem impl_IsWord_run (aS : ByteArray) (r : Bool) (h : impl_IsWord aS = some r) : SCall Tryz.prog 42 [.v (vs aS)] ⟨[.v (vb r)], [], false⟩ := by
  refine scall_in Tryz.func42 rfl [(.tmp 2)] rfl (fun r => ⟨[.v (vb r)], [], false⟩) (r := r) ?_
  unfold impl_IsWord at h
  refine srk tbok ⟨5, [(0, vs aS)], []⟩ ?_
  refine sr ?_
  refine SRun.ck tbok 1 ⟨5, [(3, vs aS)], []⟩ ?_
  obtain ⟨x1, hx1, h⟩ := bind_some h
  refine SRun.ls (xc ents88 (impl_isSmall_run aS 1 16 _ hx1)) ?_
  refine ckn tbok 1 ⟨5, [(2, vb x1)], []⟩ ?_
  refine swp_ret ?_
  obtain rfl := inj h
  exact q_fr (f1 fv)
theorem ents42 : Ents Tryz.prog 42 := ents_of Tryz.func42 (by kernel_rfl) rfl
noncomputable def impl_isYear (aYear : Int) : Option (Bool) :=
  ((impl_within aYear (-3000) 3000).bind fun x1 => some x1)
theorem impl_isYear_run (aYear : Int) (r : Bool) (h : impl_isYear aYear = some r) : SCall Tryz.prog 87 [.v (vi aYear)] ⟨[.v (vb r)], [], false⟩ := by
  refine scall_in Tryz.func87 rfl [(.tmp 2)] rfl (fun r => ⟨[.v (vb r)], [], false⟩) (r := r) ?_
  unfold impl_isYear at h
  refine srk tbok ⟨5, [(0, vi aYear)], []⟩ ?_
  refine sr ?_
  refine SRun.ck tbok 1 ⟨5, [(3, vi aYear)], []⟩ ?_
  obtain ⟨x1, hx1, h⟩ := bind_some h
  refine SRun.ls (xc ents74 (impl_within_run aYear (-3000) 3000 _ hx1)) ?_
  refine ckn tbok 1 ⟨5, [(2, vb x1)], []⟩ ?_
  refine swp_ret ?_
  obtain rfl := inj h
  exact q_fr (f1 fv)
theorem ents87 : Ents Tryz.prog 87 := ents_of Tryz.func87 (by kernel_rfl) rfl
noncomputable def impl_IsSpan (aS : Span) : Option (Bool) :=
  ((((impl_isYear aS.From).bind fun x1 => (bif x1 then ((impl_isYear aS.To).bind fun x2 => (bif x2 then some (decide (aS.From ≤ aS.To)) else some false)) else some false))).bind fun (j3 : Bool) => some j3)
theorem impl_IsSpan_run (aS : Span) (r : Bool) (h : impl_IsSpan aS = some r) : SCall Tryz.prog 75 [.v (.agg (tc eSpan aS))] ⟨[.v (vb r)], [], false⟩ := by
  refine scall_in Tryz.func75 rfl [(.tmp 2)] rfl (fun r => ⟨[.v (vb r)], [], false⟩) (r := r) ?_
  unfold impl_IsSpan at h
  refine srk tbok ⟨18, [(1, .ref 1 0)], [(1, .box (tc eSpan aS))]⟩ ?_
  refine swp_seq ?_
  refine swp_regJ h (fun j3 => ⟨18, [(2, vb j3)], []⟩) (fun v4 h => ?_) (fun j3 h => ?_)
  refine SRun.ck tbok 2 ⟨18, [(1, .ref 1 0), (4, vi aS.From)], [(1, .box (tc eSpan aS))]⟩ ?_
  obtain ⟨x1, hx1, h⟩ := bind_some h
  refine SRun.ls (xc ents87 (impl_isYear_run aS.From _ hx1)) ?_
  refine SRun.ck tbok 1 ⟨18, [(1, .ref 1 0), (6, vb x1)], [(1, .box (tc eSpan aS))]⟩ ?_
  refine SRun.cu [(6, fun b => b)] h (fun h => ?_) fun h => ?_
  refine SRun.ck tbok 2 ⟨18, [(1, .ref 1 0), (6, vb true), (8, vi aS.To)], [(1, .box (tc eSpan aS))]⟩ ?_
  obtain ⟨x2, hx2, h⟩ := bind_some h
  refine SRun.ls (xc ents87 (impl_isYear_run aS.To _ hx2)) ?_
  refine SRun.ck tbok 2 ⟨18, [(1, .ref 1 0), (11, vb x2)], [(1, .box (tc eSpan aS))]⟩ ?_
  refine SRun.cu [(11, fun b => b)] h (fun h => ?_) fun h => ?_
  refine SRun.ck tbok 7 ⟨18, [(2, vb (decide (aS.From ≤ aS.To)))], []⟩ ?_
  refine SRun.nil ?_
  obtain rfl := inj h
  exact Le.sub0
  refine SRun.ck tbok 7 ⟨18, [(2, vb false)], []⟩ ?_
  refine SRun.nil ?_
  obtain rfl := inj h
  exact Le.sub0
  refine SRun.ck tbok 12 ⟨18, [(2, vb false)], []⟩ ?_
  refine SRun.nil ?_
  obtain rfl := inj h
  exact Le.sub0
  refine swp_ret ?_
  obtain rfl := inj h
  exact q_fr (f1 fv)
theorem ents75 : Ents Tryz.prog 75 := ents_of Tryz.func75 (by kernel_rfl) rfl
theorem strings_Split_run (s c : ByteArray) (r : List ByteArray) (h : strings_Split s c = some r) : SCall Tryz.prog 128 [.v (.tr (.str s)), .v (.tr (.str c))] ⟨[.own 9 1 r.length (r.map eS)], [], false⟩ := split_run Tryz.lays146 (by kernel_rfl) 128 9 rfl rfl s c r h
theorem ents128 : Ents Tryz.prog 128 := ents_of Tryz.func128 (by kernel_rfl) rfl
noncomputable def impl_wordsOf (aS : ByteArray) : Option ((List ByteArray)) :=
  ((strings_Split aS (ByteArray.mk #[32])).bind fun x1 => some x1)
theorem impl_wordsOf_run (aS : ByteArray) (r : (List ByteArray)) (h : impl_wordsOf aS = some r) : SCall Tryz.prog 115 [.v (vs aS)] ⟨[.own 9 1 r.length (r.map eS)], [], false⟩ := by
  refine scall_in Tryz.func115 rfl [(.tmp 2)] rfl (fun r => ⟨[.own 9 1 r.length (r.map eS)], [], false⟩) (r := r) ?_
  unfold impl_wordsOf at h
  refine srk tbok ⟨5, [(0, vs aS)], []⟩ ?_
  refine sr ?_
  refine SRun.ck tbok 1 ⟨5, [(3, vs aS)], []⟩ ?_
  obtain ⟨x1, hx1, h⟩ := bind_some h
  refine SRun.ls (xc ents128 (strings_Split_run aS (ByteArray.mk #[32]) _ hx1)) ?_
  refine ckn tbok 1 ⟨5, [(2, .own 4)], [(4, oa 9 1 eS x1)]⟩ ?_
  refine swp_ret ?_
  obtain rfl := inj h
  exact q_fr (f1 (fo eS_flat))
theorem ents115 : Ents Tryz.prog 115 := ents_of Tryz.func115 (by kernel_rfl) rfl
noncomputable def impl_areWords (aList : (List ByteArray)) : Option (Bool) :=
  (((forN (aList.length : Int) (fun (i3 : Int) (_ : Unit) => ((at' aList i3).bind fun x7 => ((impl_IsWord x7).bind fun x8 => (bif (!x8) then some (.inr (.inr false)) else some (.inl ()))))) (fun (_ : Unit) => .inl ()) 0 ())).bind (Sum.elim (fun (_ : Unit) => some true) some))
theorem impl_areWords_run (aList : (List ByteArray)) (r : Bool) (h : impl_areWords aList = some r) : SCall Tryz.prog 116 [.v (vl eS aList)] ⟨[.v (vb r)], [], false⟩ := by
  refine scall_in Tryz.func116 rfl [(.tmp 2)] rfl (fun r => ⟨[.v (vb r)], [], false⟩) (r := r) ?_
  unfold impl_areWords at h
  refine srk tbok ⟨15, [(0, vl eS aList)], []⟩ ?_
  refine swp_seq ?_
  refine srk tbok ⟨15, [(5, vl eS aList), (6, vi (aList.length : Int)), (7, vi 0)], []⟩ ?_
  refine swp_seqE (r := r) h (fun j1 => ⟨15, [], []⟩) (fun v2 h => ?_) (fun j1 h => ?_)
  refine swp_blk (a := v2) ?_
  refine swp_lpL (r := v2) (s := (0, ())) _ (fun s3 => ⟨15, [(5, vl eS aList), (6, vi (aList.length : Int)), (7, vi s3.1)], []⟩) _ (Le.sub0) h (fun s3 v4 h => ?_)
  refine srk tbok ⟨15, [(5, vl eS aList), (6, vi (aList.length : Int)), (7, vi s3.1), (8, vb (decide (s3.1 < (aList.length : Int))))], []⟩ ?_
  refine swp_seq ?_
  refine swp_cd h (fun h => ?_) fun h => ?_
  refine swp_skip ?_
  refine nx_n ?_
  refine swp_seq ?_
  refine swp_seqL (r := v4) h (fun j5 => ⟨15, [(5, vl eS aList), (6, vi (aList.length : Int)), (7, vi s3.1)], []⟩) (fun v6 h => ?_) (fun j5 h => ?_)
  refine swp_blk (a := v6) ?_
  refine sr ?_
  obtain ⟨x7, hx7, h⟩ := bind_some h
  refine SRun.ls (x_index (L := aList) (f := eS) (ti := ti53) (tj := ti9) (e := 9) (k := .i64) tbok rfl hx7) ?_
  refine ckn tbok 2 ⟨15, [(4, vs x7), (5, vl eS aList), (6, vi (aList.length : Int)), (7, vi s3.1)], []⟩ ?_
  refine sr ?_
  refine SRun.ck tbok 1 ⟨15, [(5, vl eS aList), (6, vi (aList.length : Int)), (7, vi s3.1), (11, vs x7)], []⟩ ?_
  obtain ⟨x8, hx8, h⟩ := bind_some h
  refine SRun.ls (xc ents42 (impl_IsWord_run x7 _ hx8)) ?_
  refine ckn tbok 1 ⟨15, [(5, vl eS aList), (6, vi (aList.length : Int)), (7, vi s3.1), (13, vb (!x8))], []⟩ ?_
  refine swp_cd h (fun h => ?_) fun h => ?_
  refine srk tbok ⟨15, [(2, vb false)], []⟩ ?_
  refine swp_ret ?_
  obtain rfl := inj h
  exact q_br (q_rr (q_rr (q_br (q_rr (q_fr (f1 fv))))))
  refine swp_skip ?_
  obtain rfl := inj h
  exact q_bn (q_l (Le.sub0))
  refine swp_reg ?_
  refine SRun.ck tbok 2 ⟨15, [(5, vl eS aList), (6, vi (aList.length : Int)), (7, vi (w64 (s3.1 + 1)))], []⟩ ?_
  refine SRun.nil ?_
  obtain rfl := inj h
  exact q_l (Le.sub0)
  refine swp_exit ?_
  obtain rfl := inj h
  exact nx_e (q_re (q_bh (q_l (Le.sub0))))
  refine srk tbok ⟨15, [(2, vb true)], []⟩ ?_
  refine swp_ret ?_
  obtain rfl := inj h
  exact q_fr (f1 fv)
theorem ents116 : Ents Tryz.prog 116 := ents_of Tryz.func116 (by kernel_rfl) rfl
noncomputable def impl_IsPhrase (aS : ByteArray) : Option (Bool) :=
  ((impl_wordsOf aS).bind fun x1 => (((bif (decide ((x1.length : Int) ≤ 8)) then ((impl_areWords x1).bind fun x2 => some x2) else some false)).bind fun (j3 : Bool) => some j3))
theorem impl_IsPhrase_run (aS : ByteArray) (r : Bool) (h : impl_IsPhrase aS = some r) : SCall Tryz.prog 84 [.v (vs aS)] ⟨[.v (vb r)], [], false⟩ := by
  refine scall_in Tryz.func84 rfl [(.tmp 2)] rfl (fun r => ⟨[.v (vb r)], [], false⟩) (r := r) ?_
  unfold impl_IsPhrase at h
  refine srk tbok ⟨13, [(0, vs aS)], []⟩ ?_
  refine sr ?_
  refine SRun.ck tbok 1 ⟨13, [(4, vs aS)], []⟩ ?_
  obtain ⟨x1, hx1, h⟩ := bind_some h
  refine SRun.ls (xc ents115 (impl_wordsOf_run aS _ hx1)) ?_
  refine ckn tbok 1 ⟨13, [(3, .own 5)], [(5, oa 9 1 eS x1)]⟩ ?_
  refine swp_seq ?_
  refine swp_regJ h (fun j3 => ⟨13, [(2, vb j3)], []⟩) (fun v4 h => ?_) (fun j3 h => ?_)
  refine SRun.ck tbok 4 ⟨13, [(3, .own 5), (9, vb (decide ((x1.length : Int) ≤ 8)))], [(5, oa 9 1 eS x1)]⟩ ?_
  refine SRun.cu [(9, fun b => b)] h (fun h => ?_) fun h => ?_
  refine SRun.ck tbok 1 ⟨13, [(9, vb true), (10, .own 5)], [(5, oa 9 1 eS x1)]⟩ ?_
  obtain ⟨x2, hx2, h⟩ := bind_some h
  refine SRun.ls (xc ents116 (impl_areWords_run x1 _ hx2)) ?_
  refine SRun.ck tbok 2 ⟨13, [(2, vb x2)], []⟩ ?_
  refine SRun.nil ?_
  obtain rfl := inj h
  exact Le.sub0
  refine SRun.ck tbok 4 ⟨13, [(2, vb false)], []⟩ ?_
  refine SRun.nil ?_
  obtain rfl := inj h
  exact Le.sub0
  refine swp_ret ?_
  obtain rfl := inj h
  exact q_fr (f1 fv)
theorem ents84 : Ents Tryz.prog 84 := ents_of Tryz.func84 (by kernel_rfl) rfl
noncomputable def impl_isLanguage (aS : ByteArray) : Option (Bool) :=
  ((impl_isSmall aS 2 3).bind fun x1 => some x1)
theorem impl_isLanguage_run (aS : ByteArray) (r : Bool) (h : impl_isLanguage aS = some r) : SCall Tryz.prog 125 [.v (vs aS)] ⟨[.v (vb r)], [], false⟩ := by
  refine scall_in Tryz.func125 rfl [(.tmp 2)] rfl (fun r => ⟨[.v (vb r)], [], false⟩) (r := r) ?_
  unfold impl_isLanguage at h
  refine srk tbok ⟨5, [(0, vs aS)], []⟩ ?_
  refine sr ?_
  refine SRun.ck tbok 1 ⟨5, [(3, vs aS)], []⟩ ?_
  obtain ⟨x1, hx1, h⟩ := bind_some h
  refine SRun.ls (xc ents88 (impl_isSmall_run aS 2 3 _ hx1)) ?_
  refine ckn tbok 1 ⟨5, [(2, vb x1)], []⟩ ?_
  refine swp_ret ?_
  obtain rfl := inj h
  exact q_fr (f1 fv)
theorem ents125 : Ents Tryz.prog 125 := ents_of Tryz.func125 (by kernel_rfl) rfl
noncomputable def impl_IsName (aN : Name) : Option (Bool) :=
  ((((impl_IsPhrase aN.Text).bind fun x1 => (bif x1 then ((impl_isLanguage aN.Language).bind fun x2 => (bif x2 then ((impl_within aN.Status 0 2).bind fun x3 => (bif x3 then ((impl_IsSpan aN.Years).bind fun x4 => some x4) else some false)) else some false)) else some false))).bind fun (j5 : Bool) => some j5)
theorem impl_IsName_run (aN : Name) (r : Bool) (h : impl_IsName aN = some r) : SCall Tryz.prog 108 [.v (.agg (tc eName aN))] ⟨[.v (vb r)], [], false⟩ := by
  refine scall_in Tryz.func108 rfl [(.tmp 2)] rfl (fun r => ⟨[.v (vb r)], [], false⟩) (r := r) ?_
  unfold impl_IsName at h
  refine srk tbok ⟨21, [(1, .ref 1 0)], [(1, .box (tc eName aN))]⟩ ?_
  refine swp_seq ?_
  refine swp_regJ h (fun j5 => ⟨21, [(2, vb j5)], []⟩) (fun v6 h => ?_) (fun j5 h => ?_)
  refine SRun.ck tbok 2 ⟨21, [(1, .ref 1 0), (4, vs aN.Text)], [(1, .box (tc eName aN))]⟩ ?_
  obtain ⟨x1, hx1, h⟩ := bind_some h
  refine SRun.ls (xc ents84 (impl_IsPhrase_run aN.Text _ hx1)) ?_
  refine SRun.ck tbok 1 ⟨21, [(1, .ref 1 0), (6, vb x1)], [(1, .box (tc eName aN))]⟩ ?_
  refine SRun.cu [(6, fun b => b)] h (fun h => ?_) fun h => ?_
  refine SRun.ck tbok 2 ⟨21, [(1, .ref 1 0), (6, vb true), (8, vs aN.Language)], [(1, .box (tc eName aN))]⟩ ?_
  obtain ⟨x2, hx2, h⟩ := bind_some h
  refine SRun.ls (xc ents125 (impl_isLanguage_run aN.Language _ hx2)) ?_
  refine SRun.ck tbok 2 ⟨21, [(1, .ref 1 0), (11, vb x2)], [(1, .box (tc eName aN))]⟩ ?_
  refine SRun.cu [(11, fun b => b)] h (fun h => ?_) fun h => ?_
  refine SRun.ck tbok 2 ⟨21, [(1, .ref 1 0), (11, vb true), (13, vi aN.Status)], [(1, .box (tc eName aN))]⟩ ?_
  obtain ⟨x3, hx3, h⟩ := bind_some h
  refine SRun.ls (xc ents74 (impl_within_run aN.Status 0 2 _ hx3)) ?_
  refine SRun.ck tbok 2 ⟨21, [(1, .ref 1 0), (16, vb x3)], [(1, .box (tc eName aN))]⟩ ?_
  refine SRun.cu [(16, fun b => b)] h (fun h => ?_) fun h => ?_
  refine SRun.ck tbok 2 ⟨21, [(16, vb true), (18, .agg (tc eSpan aN.Years))], []⟩ ?_
  obtain ⟨x4, hx4, h⟩ := bind_some h
  refine SRun.ls (xc ents75 (impl_IsSpan_run aN.Years _ hx4)) ?_
  refine SRun.ck tbok 2 ⟨21, [(2, vb x4)], []⟩ ?_
  refine SRun.nil ?_
  obtain rfl := inj h
  exact Le.sub0
  refine SRun.ck tbok 5 ⟨21, [(2, vb false)], []⟩ ?_
  refine SRun.nil ?_
  obtain rfl := inj h
  exact Le.sub0
  refine SRun.ck tbok 10 ⟨21, [(2, vb false)], []⟩ ?_
  refine SRun.nil ?_
  obtain rfl := inj h
  exact Le.sub0
  refine SRun.ck tbok 15 ⟨21, [(2, vb false)], []⟩ ?_
  refine SRun.nil ?_
  obtain rfl := inj h
  exact Le.sub0
  refine swp_ret ?_
  obtain rfl := inj h
  exact q_fr (f1 fv)
theorem ents108 : Ents Tryz.prog 108 := ents_of Tryz.func108 (by kernel_rfl) rfl
noncomputable def impl_Name_isOfficial (aN : Name) (aLanguage : ByteArray) : Option (Bool) :=
  some ((aN.Status == 0) && (aN.Language.toList == aLanguage.toList))
theorem impl_Name_isOfficial_run (aN : Name) (aLanguage : ByteArray) (r : Bool) (h : impl_Name_isOfficial aN aLanguage = some r) : SCall Tryz.prog 110 [.v (.agg (tc eName aN)), .v (vs aLanguage)] ⟨[.v (vb r)], [], false⟩ := by
  refine scall_in Tryz.func110 rfl [(.tmp 4)] rfl (fun r => ⟨[.v (vb r)], [], false⟩) (r := r) ?_
  unfold impl_Name_isOfficial at h
  refine srk tbok ⟨14, [(1, vs aLanguage), (2, .ref 2 0)], [(2, .box (tc eName aN))]⟩ ?_
  refine swp_seq ?_
  refine swp_regP ⟨14, [(4, vb ((aN.Status == 0) && (aN.Language.toList == aLanguage.toList)))], []⟩ ?_ ?_
  refine SRun.ck tbok 4 ⟨14, [(1, vs aLanguage), (2, .ref 2 0), (8, vb (aN.Status == 0))], [(2, .box (tc eName aN))]⟩ ?_
  generalize (aN.Status == 0) = bb
  cases bb
  refine SRun.ck tbok 6 ⟨14, [(4, vb false)], []⟩ ?_
  exact SRun.nil (Le.sub0)
  refine SRun.ck tbok 6 ⟨14, [(4, vb (aN.Language.toList == aLanguage.toList))], []⟩ ?_
  exact SRun.nil (Le.sub0)
  refine swp_ret ?_
  obtain rfl := inj h
  exact q_fr (f1 fv)
theorem ents110 : Ents Tryz.prog 110 := ents_of Tryz.func110 (by kernel_rfl) rfl
noncomputable def impl_Span_meets (aS : Span) (aT : Span) : Option (Bool) :=
  some ((decide (aS.From ≤ aT.To)) && (decide (aT.From ≤ aS.To)))
theorem impl_Span_meets_run (aS : Span) (aT : Span) (r : Bool) (h : impl_Span_meets aS aT = some r) : SCall Tryz.prog 111 [.v (.agg (tc eSpan aS)), .v (.agg (tc eSpan aT))] ⟨[.v (vb r)], [], false⟩ := by
  refine scall_in Tryz.func111 rfl [(.tmp 4)] rfl (fun r => ⟨[.v (vb r)], [], false⟩) (r := r) ?_
  unfold impl_Span_meets at h
  refine srk tbok ⟨17, [(2, .ref 2 0), (3, .ref 3 0)], [(2, .box (tc eSpan aS)), (3, .box (tc eSpan aT))]⟩ ?_
  refine swp_seq ?_
  refine swp_regP ⟨17, [(4, vb ((decide (aS.From ≤ aT.To)) && (decide (aT.From ≤ aS.To))))], []⟩ ?_ ?_
  refine SRun.ck tbok 6 ⟨17, [(2, .ref 2 0), (3, .ref 3 0), (10, vb (decide (aS.From ≤ aT.To)))], [(2, .box (tc eSpan aS)), (3, .box (tc eSpan aT))]⟩ ?_
  generalize (decide (aS.From ≤ aT.To)) = bb
  cases bb
  refine SRun.ck tbok 7 ⟨17, [(4, vb false)], []⟩ ?_
  exact SRun.nil (Le.sub0)
  refine SRun.ck tbok 7 ⟨17, [(4, vb (decide (aT.From ≤ aS.To)))], []⟩ ?_
  exact SRun.nil (Le.sub0)
  refine swp_ret ?_
  obtain rfl := inj h
  exact q_fr (f1 fv)
theorem ents111 : Ents Tryz.prog 111 := ents_of Tryz.func111 (by kernel_rfl) rfl
noncomputable def impl_AreNames_1 (aM : Name) (c0 : Name) : Option (Bool) :=
  ((((impl_Name_isOfficial aM c0.Language).bind fun x1 => (bif x1 then ((impl_Span_meets aM.Years c0.Years).bind fun x2 => some x2) else some false))).bind fun (j3 : Bool) => some j3)
theorem impl_AreNames_1_run (aM : Name) (c0 : Name) (r : Bool) (h : impl_AreNames_1 aM c0 = some r) : SCall Tryz.prog 109 [.v (.agg (tc eName aM)), .v (.ptr [vs c0.Text, vs c0.Language, vi c0.Status, vi c0.Years.From, vi c0.Years.To] 0)] ⟨[.v (vb r)], [], false⟩ := by
  refine scall_in Tryz.func109 rfl [(.tmp 3)] rfl (fun r => ⟨[.v (vb r)], [], false⟩) (r := r) ?_
  unfold impl_AreNames_1 at h
  refine srk tbok ⟨15, [(1, .ptr [vs c0.Text, vs c0.Language, vi c0.Status, vi c0.Years.From, vi c0.Years.To] 0), (2, .ref 2 0)], [(2, .box (tc eName aM))]⟩ ?_
  refine swp_seq ?_
  refine swp_regJ h (fun j3 => ⟨15, [(3, vb j3)], []⟩) (fun v4 h => ?_) (fun j3 h => ?_)
  refine SRun.ck tbok 3 ⟨15, [(1, .ptr [vs c0.Text, vs c0.Language, vi c0.Status, vi c0.Years.From, vi c0.Years.To] 0), (2, .ref 2 0), (4, .agg (tc eName aM)), (6, vs c0.Language)], [(2, .box (tc eName aM))]⟩ ?_
  obtain ⟨x1, hx1, h⟩ := bind_some h
  refine SRun.ls (xc ents110 (impl_Name_isOfficial_run aM c0.Language _ hx1)) ?_
  refine SRun.ck tbok 1 ⟨15, [(1, .ptr [vs c0.Text, vs c0.Language, vi c0.Status, vi c0.Years.From, vi c0.Years.To] 0), (2, .ref 2 0), (8, vb x1)], [(2, .box (tc eName aM))]⟩ ?_
  refine SRun.cu [(8, fun b => b)] h (fun h => ?_) fun h => ?_
  refine SRun.ck tbok 4 ⟨15, [(8, vb true), (10, .agg (tc eSpan aM.Years)), (12, .agg (tc eSpan c0.Years))], []⟩ ?_
  obtain ⟨x2, hx2, h⟩ := bind_some h
  refine SRun.ls (xc ents111 (impl_Span_meets_run aM.Years c0.Years _ hx2)) ?_
  refine SRun.ck tbok 2 ⟨15, [(3, vb x2)], []⟩ ?_
  refine SRun.nil ?_
  obtain rfl := inj h
  exact Le.sub0
  refine SRun.ck tbok 7 ⟨15, [(3, vb false)], []⟩ ?_
  refine SRun.nil ?_
  obtain rfl := inj h
  exact Le.sub0
  refine swp_ret ?_
  obtain rfl := inj h
  exact q_fr (f1 fv)
theorem ents109 : Ents Tryz.prog 109 := ents_of Tryz.func109 (by kernel_rfl) rfl
noncomputable def slices_IndexFunc_Name_impl_AreNames_1 (aS : (List Name)) (aF0 : Name) : Option (Int) :=
  (((forN (aS.length : Int) (fun (i3 : Int) (_ : Unit) => ((at' aS i3).bind fun x7 => ((impl_AreNames_1 x7 aF0).bind fun x8 => (bif x8 then some (.inr (.inr i3)) else some (.inl ()))))) (fun (_ : Unit) => .inl ()) 0 ())).bind (Sum.elim (fun (_ : Unit) => some (-1)) some))
theorem slices_IndexFunc_Name_impl_AreNames_1_run (aS : (List Name)) (aF0 : Name) (r : Int) (h : slices_IndexFunc_Name_impl_AreNames_1 aS aF0 = some r) : SCall Tryz.prog 112 [.v (vl eName aS), .v (.clo 109 [.ptr [vs aF0.Text, vs aF0.Language, vi aF0.Status, vi aF0.Years.From, vi aF0.Years.To] 0])] ⟨[.v (vi r)], [], false⟩ := by
  refine scall_in Tryz.func112 rfl [(.tmp 4)] rfl (fun r => ⟨[.v (vi r)], [], false⟩) (r := r) ?_
  unfold slices_IndexFunc_Name_impl_AreNames_1 at h
  refine srk tbok ⟨19, [(0, vl eName aS), (1, .clo 109 [.ptr [vs aF0.Text, vs aF0.Language, vi aF0.Status, vi aF0.Years.From, vi aF0.Years.To] 0])], []⟩ ?_
  refine swp_seq ?_
  refine srk tbok ⟨19, [(0, vl eName aS), (1, .clo 109 [.ptr [vs aF0.Text, vs aF0.Language, vi aF0.Status, vi aF0.Years.From, vi aF0.Years.To] 0]), (7, vi (aS.length : Int)), (8, vi 0)], []⟩ ?_
  refine swp_seqE (r := r) h (fun j1 => ⟨19, [], []⟩) (fun v2 h => ?_) (fun j1 h => ?_)
  refine swp_blk (a := v2) ?_
  refine swp_lpL (r := v2) (s := (0, ())) _ (fun s3 => ⟨19, [(0, vl eName aS), (1, .clo 109 [.ptr [vs aF0.Text, vs aF0.Language, vi aF0.Status, vi aF0.Years.From, vi aF0.Years.To] 0]), (7, vi (aS.length : Int)), (8, vi s3.1)], []⟩) _ (Le.sub0) h (fun s3 v4 h => ?_)
  refine srk tbok ⟨19, [(0, vl eName aS), (1, .clo 109 [.ptr [vs aF0.Text, vs aF0.Language, vi aF0.Status, vi aF0.Years.From, vi aF0.Years.To] 0]), (7, vi (aS.length : Int)), (8, vi s3.1), (9, vb (decide (s3.1 < (aS.length : Int))))], []⟩ ?_
  refine swp_seq ?_
  refine swp_cd h (fun h => ?_) fun h => ?_
  refine swp_skip ?_
  refine nx_n ?_
  refine swp_seq ?_
  refine swp_seqL (r := v4) h (fun j5 => ⟨19, [(0, vl eName aS), (1, .clo 109 [.ptr [vs aF0.Text, vs aF0.Language, vi aF0.Status, vi aF0.Years.From, vi aF0.Years.To] 0]), (7, vi (aS.length : Int)), (8, vi s3.1)], []⟩) (fun v6 h => ?_) (fun j5 h => ?_)
  refine swp_blk (a := v6) ?_
  refine srk tbok ⟨19, [(0, vl eName aS), (1, .clo 109 [.ptr [vs aF0.Text, vs aF0.Language, vi aF0.Status, vi aF0.Years.From, vi aF0.Years.To] 0]), (5, vi s3.1), (7, vi (aS.length : Int)), (8, vi s3.1)], []⟩ ?_
  refine sr ?_
  refine SRun.ck tbok 3 ⟨19, [(0, vl eName aS), (1, .clo 109 [.ptr [vs aF0.Text, vs aF0.Language, vi aF0.Status, vi aF0.Years.From, vi aF0.Years.To] 0]), (5, vi s3.1), (7, vi (aS.length : Int)), (8, vi s3.1), (11, .clo 109 [.ptr [vs aF0.Text, vs aF0.Language, vi aF0.Status, vi aF0.Years.From, vi aF0.Years.To] 0]), (12, vl eName aS), (13, vi s3.1)], []⟩ ?_
  obtain ⟨x7, hx7, h⟩ := bind_some h
  refine SRun.ls (x_index (L := aS) (f := eName) (ti := ti39) (tj := ti95) (e := 95) (k := .i64) tbok rfl hx7) ?_
  refine SRun.ck tbok 1 ⟨19, [(0, vl eName aS), (1, .clo 109 [.ptr [vs aF0.Text, vs aF0.Language, vi aF0.Status, vi aF0.Years.From, vi aF0.Years.To] 0]), (5, vi s3.1), (7, vi (aS.length : Int)), (8, vi s3.1), (11, .clo 109 [.ptr [vs aF0.Text, vs aF0.Language, vi aF0.Status, vi aF0.Years.From, vi aF0.Years.To] 0]), (15, .agg (tc eName x7))], []⟩ ?_
  obtain ⟨x8, hx8, h⟩ := bind_some h
  refine SRun.ls (xc ents109 (impl_AreNames_1_run x7 aF0 _ hx8)) ?_
  refine SRun.nx ?_
  refine swp_cd h (fun h => ?_) fun h => ?_
  refine srk tbok ⟨19, [(4, vi s3.1)], []⟩ ?_
  refine swp_ret ?_
  obtain rfl := inj h
  exact q_br (q_rr (q_rr (q_br (q_rr (q_fr (f1 fv))))))
  refine swp_skip ?_
  obtain rfl := inj h
  exact q_bn (q_l (Le.sub0))
  refine swp_reg ?_
  refine SRun.ck tbok 2 ⟨19, [(0, vl eName aS), (1, .clo 109 [.ptr [vs aF0.Text, vs aF0.Language, vi aF0.Status, vi aF0.Years.From, vi aF0.Years.To] 0]), (7, vi (aS.length : Int)), (8, vi (w64 (s3.1 + 1)))], []⟩ ?_
  refine SRun.nil ?_
  obtain rfl := inj h
  exact q_l (Le.sub0)
  refine swp_exit ?_
  obtain rfl := inj h
  exact nx_e (q_re (q_bh (q_l (Le.sub0))))
  refine srk tbok ⟨19, [(4, vi (-1))], []⟩ ?_
  refine swp_ret ?_
  obtain rfl := inj h
  exact q_fr (f1 fv)
theorem ents112 : Ents Tryz.prog 112 := ents_of Tryz.func112 (by kernel_rfl) rfl
noncomputable def slices_ContainsFunc_Name_impl_AreNames_1 (aS : (List Name)) (aF0 : Name) : Option (Bool) :=
  ((slices_IndexFunc_Name_impl_AreNames_1 aS aF0).bind fun x1 => some (decide (x1 ≥ 0)))
theorem slices_ContainsFunc_Name_impl_AreNames_1_run (aS : (List Name)) (aF0 : Name) (r : Bool) (h : slices_ContainsFunc_Name_impl_AreNames_1 aS aF0 = some r) : SCall Tryz.prog 77 [.v (vl eName aS), .v (.clo 109 [.ptr [vs aF0.Text, vs aF0.Language, vi aF0.Status, vi aF0.Years.From, vi aF0.Years.To] 0])] ⟨[.v (vb r)], [], false⟩ := by
  refine scall_in Tryz.func77 rfl [(.tmp 4)] rfl (fun r => ⟨[.v (vb r)], [], false⟩) (r := r) ?_
  unfold slices_ContainsFunc_Name_impl_AreNames_1 at h
  refine srk tbok ⟨9, [(0, vl eName aS), (1, .clo 109 [.ptr [vs aF0.Text, vs aF0.Language, vi aF0.Status, vi aF0.Years.From, vi aF0.Years.To] 0])], []⟩ ?_
  refine sr ?_
  refine SRun.ck tbok 2 ⟨9, [(5, vl eName aS), (6, .clo 109 [.ptr [vs aF0.Text, vs aF0.Language, vi aF0.Status, vi aF0.Years.From, vi aF0.Years.To] 0])], []⟩ ?_
  obtain ⟨x1, hx1, h⟩ := bind_some h
  refine SRun.ls (xc ents112 (slices_IndexFunc_Name_impl_AreNames_1_run aS aF0 _ hx1)) ?_
  refine ckn tbok 2 ⟨9, [(4, vb (decide (x1 ≥ 0)))], []⟩ ?_
  refine swp_ret ?_
  obtain rfl := inj h
  exact q_fr (f1 fv)
theorem ents77 : Ents Tryz.prog 77 := ents_of Tryz.func77 (by kernel_rfl) rfl
noncomputable def impl_AreNames (aList : (List Name)) : Option (Bool) :=
  (((forN (aList.length : Int) (fun (i3 : Int) (_ : Unit) => ((at' aList i3).bind fun x7 => ((impl_IsName x7).bind fun x8 => (bif (!x8) then some (.inr (.inr false)) else ((part' aList 0 i3).bind fun x9 => ((slices_ContainsFunc_Name_impl_AreNames_1 x9 x7).bind fun x10 => (bif ((x7.Status == 0) && x10) then some (.inr (.inr false)) else some (.inl ())))))))) (fun (_ : Unit) => .inl ()) 0 ())).bind (Sum.elim (fun (_ : Unit) => some (decide ((aList.length : Int) ≤ 12))) some))
theorem impl_AreNames_run (aList : (List Name)) (r : Bool) (h : impl_AreNames aList = some r) : SCall Tryz.prog 76 [.v (vl eName aList)] ⟨[.v (vb r)], [], false⟩ := by
  refine scall_in Tryz.func76 rfl [(.tmp 2)] rfl (fun r => ⟨[.v (vb r)], [], false⟩) (r := r) ?_
  unfold impl_AreNames at h
  refine srk tbok ⟨31, [(0, vl eName aList)], []⟩ ?_
  refine swp_seq ?_
  refine srk tbok ⟨31, [(0, vl eName aList), (6, vl eName aList), (7, vi (aList.length : Int)), (8, vi 0)], []⟩ ?_
  refine swp_seqE (r := r) h (fun j1 => ⟨31, [(0, vl eName aList)], []⟩) (fun v2 h => ?_) (fun j1 h => ?_)
  refine swp_blk (a := v2) ?_
  refine swp_lpL (r := v2) (s := (0, ())) _ (fun s3 => ⟨31, [(0, vl eName aList), (6, vl eName aList), (7, vi (aList.length : Int)), (8, vi s3.1)], []⟩) _ (Le.sub0) h (fun s3 v4 h => ?_)
  refine srk tbok ⟨31, [(0, vl eName aList), (6, vl eName aList), (7, vi (aList.length : Int)), (8, vi s3.1), (9, vb (decide (s3.1 < (aList.length : Int))))], []⟩ ?_
  refine swp_seq ?_
  refine swp_cd h (fun h => ?_) fun h => ?_
  refine swp_skip ?_
  refine nx_n ?_
  refine swp_seq ?_
  refine swp_seqL (r := v4) h (fun j5 => ⟨31, [(0, vl eName aList), (6, vl eName aList), (7, vi (aList.length : Int)), (8, vi s3.1)], []⟩) (fun v6 h => ?_) (fun j5 h => ?_)
  refine swp_blk (a := v6) ?_
  refine sr ?_
  refine SRun.ck tbok 1 ⟨31, [(0, vl eName aList), (6, vl eName aList), (7, vi (aList.length : Int)), (8, vi s3.1), (10, vi s3.1)], []⟩ ?_
  obtain ⟨x7, hx7, h⟩ := bind_some h
  refine SRun.ls (x_index (L := aList) (f := eName) (ti := ti39) (tj := ti95) (e := 95) (k := .i64) tbok rfl hx7) ?_
  refine ckn tbok 4 ⟨31, [(0, vl eName aList), (3, vi s3.1), (4, .ref 4 0), (6, vl eName aList), (7, vi (aList.length : Int)), (8, vi s3.1)], [(4, .box (tc eName x7))]⟩ ?_
  refine swp_seq ?_
  refine sr ?_
  refine SRun.ck tbok 1 ⟨31, [(0, vl eName aList), (3, vi s3.1), (4, .ref 4 0), (6, vl eName aList), (7, vi (aList.length : Int)), (8, vi s3.1), (13, .agg (tc eName x7))], [(4, .box (tc eName x7))]⟩ ?_
  obtain ⟨x8, hx8, h⟩ := bind_some h
  refine SRun.ls (xc ents108 (impl_IsName_run x7 _ hx8)) ?_
  refine ckn tbok 1 ⟨31, [(0, vl eName aList), (3, vi s3.1), (4, .ref 4 0), (6, vl eName aList), (7, vi (aList.length : Int)), (8, vi s3.1), (15, vb (!x8))], [(4, .box (tc eName x7))]⟩ ?_
  refine swp_cd h (fun h => ?_) fun h => ?_
  refine srk tbok ⟨31, [(2, vb false)], []⟩ ?_
  refine swp_ret ?_
  obtain rfl := inj h
  exact nx_r (q_br (q_rr (q_rr (q_br (q_rr (q_fr (f1 fv)))))))
  refine swp_skip ?_
  refine nx_n ?_
  refine sr ?_
  refine SRun.ck tbok 2 ⟨31, [(0, vl eName aList), (4, .ref 4 0), (6, vl eName aList), (7, vi (aList.length : Int)), (8, vi s3.1), (16, vl eName aList), (17, vi s3.1)], [(4, .box (tc eName x7))]⟩ ?_
  obtain ⟨x9, hx9, h⟩ := bind_some h
  refine SRun.ls (x_slice (m := 5) (f := eName) (ti := ti39) (tj := ti95) (e := 95) hx9 (fun _ => rfl) tbok rfl) ?_
  refine SRun.ck tbok 1 ⟨31, [(0, vl eName aList), (4, .ref 4 0), (6, vl eName aList), (7, vi (aList.length : Int)), (8, vi s3.1), (18, vl eName x9), (19, .clo 109 [.ref 4 0])], [(4, .box (tc eName x7))]⟩ ?_
  obtain ⟨x10, hx10, h⟩ := bind_some h
  refine SRun.ls (xc ents77 (slices_ContainsFunc_Name_impl_AreNames_1_run x9 x7 _ hx10)) ?_
  refine ckn tbok 1 ⟨31, [(0, vl eName aList), (4, .ref 4 0), (5, vb x10), (6, vl eName aList), (7, vi (aList.length : Int)), (8, vi s3.1)], [(4, .box (tc eName x7))]⟩ ?_
  refine swp_seq ?_
  refine swp_regP ⟨31, [(0, vl eName aList), (6, vl eName aList), (7, vi (aList.length : Int)), (8, vi s3.1), (26, vb ((x7.Status == 0) && x10))], []⟩ ?_ ?_
  refine SRun.ck tbok 4 ⟨31, [(0, vl eName aList), (5, vb x10), (6, vl eName aList), (7, vi (aList.length : Int)), (8, vi s3.1), (24, vb (x7.Status == 0))], []⟩ ?_
  generalize (x7.Status == 0) = bb
  cases bb
  refine SRun.ck tbok 2 ⟨31, [(0, vl eName aList), (6, vl eName aList), (7, vi (aList.length : Int)), (8, vi s3.1), (26, vb false)], []⟩ ?_
  exact SRun.nil (Le.sub0)
  refine SRun.ck tbok 2 ⟨31, [(0, vl eName aList), (6, vl eName aList), (7, vi (aList.length : Int)), (8, vi s3.1), (26, vb x10)], []⟩ ?_
  exact SRun.nil (Le.sub0)
  refine swp_cd h (fun h => ?_) fun h => ?_
  refine srk tbok ⟨31, [(2, vb false)], []⟩ ?_
  refine swp_ret ?_
  obtain rfl := inj h
  exact q_br (q_rr (q_rr (q_br (q_rr (q_fr (f1 fv))))))
  refine swp_skip ?_
  obtain rfl := inj h
  exact q_bn (q_l (Le.sub0))
  refine swp_reg ?_
  refine SRun.ck tbok 2 ⟨31, [(0, vl eName aList), (6, vl eName aList), (7, vi (aList.length : Int)), (8, vi (w64 (s3.1 + 1)))], []⟩ ?_
  refine SRun.nil ?_
  obtain rfl := inj h
  exact q_l (Le.sub0)
  refine swp_exit ?_
  obtain rfl := inj h
  exact nx_e (q_re (q_bh (q_l (Le.sub0))))
  refine srk tbok ⟨31, [(2, vb (decide ((aList.length : Int) ≤ 12)))], []⟩ ?_
  refine swp_ret ?_
  obtain rfl := inj h
  exact q_fr (f1 fv)
theorem ents76 : Ents Tryz.prog 76 := ents_of Tryz.func76 (by kernel_rfl) rfl
noncomputable def impl_Span_lies (aS : Span) (aT : Span) : Option (Bool) :=
  some ((decide (aT.From ≤ aS.From)) && (decide (aS.To ≤ aT.To)))
theorem impl_Span_lies_run (aS : Span) (aT : Span) (r : Bool) (h : impl_Span_lies aS aT = some r) : SCall Tryz.prog 79 [.v (.agg (tc eSpan aS)), .v (.agg (tc eSpan aT))] ⟨[.v (vb r)], [], false⟩ := by
  refine scall_in Tryz.func79 rfl [(.tmp 4)] rfl (fun r => ⟨[.v (vb r)], [], false⟩) (r := r) ?_
  unfold impl_Span_lies at h
  refine srk tbok ⟨17, [(2, .ref 2 0), (3, .ref 3 0)], [(2, .box (tc eSpan aS)), (3, .box (tc eSpan aT))]⟩ ?_
  refine swp_seq ?_
  refine swp_regP ⟨17, [(4, vb ((decide (aT.From ≤ aS.From)) && (decide (aS.To ≤ aT.To))))], []⟩ ?_ ?_
  refine SRun.ck tbok 6 ⟨17, [(2, .ref 2 0), (3, .ref 3 0), (10, vb (decide (aT.From ≤ aS.From)))], [(2, .box (tc eSpan aS)), (3, .box (tc eSpan aT))]⟩ ?_
  generalize (decide (aT.From ≤ aS.From)) = bb
  cases bb
  refine SRun.ck tbok 7 ⟨17, [(4, vb false)], []⟩ ?_
  exact SRun.nil (Le.sub0)
  refine SRun.ck tbok 7 ⟨17, [(4, vb (decide (aS.To ≤ aT.To)))], []⟩ ?_
  exact SRun.nil (Le.sub0)
  refine swp_ret ?_
  obtain rfl := inj h
  exact q_fr (f1 fv)
theorem ents79 : Ents Tryz.prog 79 := ents_of Tryz.func79 (by kernel_rfl) rfl
noncomputable def impl_IsPlace_1 (aN : Name) (c0 : Place) : Option (Bool) :=
  ((impl_Span_lies aN.Years c0.Years).bind fun x1 => some (!x1))
theorem impl_IsPlace_1_run (aN : Name) (c0 : Place) (r : Bool) (h : impl_IsPlace_1 aN c0 = some r) : SCall Tryz.prog 78 [.v (.agg (tc eName aN)), .v (.ptr [vs c0.Code, vi c0.Class, vi c0.Years.From, vi c0.Years.To, vl eName c0.Names] 0)] ⟨[.v (vb r)], [], false⟩ := by
  refine scall_in Tryz.func78 rfl [(.tmp 3)] rfl (fun r => ⟨[.v (vb r)], [], false⟩) (r := r) ?_
  unfold impl_IsPlace_1 at h
  refine srk tbok ⟨10, [(1, .ptr [vs c0.Code, vi c0.Class, vi c0.Years.From, vi c0.Years.To, vl eName c0.Names] 0), (2, .ref 2 0)], [(2, .box (tc eName aN))]⟩ ?_
  refine sr ?_
  refine SRun.ck tbok 4 ⟨10, [(5, .agg (tc eSpan aN.Years)), (7, .agg (tc eSpan c0.Years))], []⟩ ?_
  obtain ⟨x1, hx1, h⟩ := bind_some h
  refine SRun.ls (xc ents79 (impl_Span_lies_run aN.Years c0.Years _ hx1)) ?_
  refine ckn tbok 2 ⟨10, [(3, vb (!x1))], []⟩ ?_
  refine swp_ret ?_
  obtain rfl := inj h
  exact q_fr (f1 fv)
theorem ents78 : Ents Tryz.prog 78 := ents_of Tryz.func78 (by kernel_rfl) rfl
noncomputable def slices_IndexFunc_Name_impl_IsPlace_1 (aS : (List Name)) (aF0 : Place) : Option (Int) :=
  (((forN (aS.length : Int) (fun (i3 : Int) (_ : Unit) => ((at' aS i3).bind fun x7 => ((impl_IsPlace_1 x7 aF0).bind fun x8 => (bif x8 then some (.inr (.inr i3)) else some (.inl ()))))) (fun (_ : Unit) => .inl ()) 0 ())).bind (Sum.elim (fun (_ : Unit) => some (-1)) some))
theorem slices_IndexFunc_Name_impl_IsPlace_1_run (aS : (List Name)) (aF0 : Place) (r : Int) (h : slices_IndexFunc_Name_impl_IsPlace_1 aS aF0 = some r) : SCall Tryz.prog 112 [.v (vl eName aS), .v (.clo 78 [.ptr [vs aF0.Code, vi aF0.Class, vi aF0.Years.From, vi aF0.Years.To, vl eName aF0.Names] 0])] ⟨[.v (vi r)], [], false⟩ := by
  refine scall_in Tryz.func112 rfl [(.tmp 4)] rfl (fun r => ⟨[.v (vi r)], [], false⟩) (r := r) ?_
  unfold slices_IndexFunc_Name_impl_IsPlace_1 at h
  refine srk tbok ⟨19, [(0, vl eName aS), (1, .clo 78 [.ptr [vs aF0.Code, vi aF0.Class, vi aF0.Years.From, vi aF0.Years.To, vl eName aF0.Names] 0])], []⟩ ?_
  refine swp_seq ?_
  refine srk tbok ⟨19, [(0, vl eName aS), (1, .clo 78 [.ptr [vs aF0.Code, vi aF0.Class, vi aF0.Years.From, vi aF0.Years.To, vl eName aF0.Names] 0]), (7, vi (aS.length : Int)), (8, vi 0)], []⟩ ?_
  refine swp_seqE (r := r) h (fun j1 => ⟨19, [], []⟩) (fun v2 h => ?_) (fun j1 h => ?_)
  refine swp_blk (a := v2) ?_
  refine swp_lpL (r := v2) (s := (0, ())) _ (fun s3 => ⟨19, [(0, vl eName aS), (1, .clo 78 [.ptr [vs aF0.Code, vi aF0.Class, vi aF0.Years.From, vi aF0.Years.To, vl eName aF0.Names] 0]), (7, vi (aS.length : Int)), (8, vi s3.1)], []⟩) _ (Le.sub0) h (fun s3 v4 h => ?_)
  refine srk tbok ⟨19, [(0, vl eName aS), (1, .clo 78 [.ptr [vs aF0.Code, vi aF0.Class, vi aF0.Years.From, vi aF0.Years.To, vl eName aF0.Names] 0]), (7, vi (aS.length : Int)), (8, vi s3.1), (9, vb (decide (s3.1 < (aS.length : Int))))], []⟩ ?_
  refine swp_seq ?_
  refine swp_cd h (fun h => ?_) fun h => ?_
  refine swp_skip ?_
  refine nx_n ?_
  refine swp_seq ?_
  refine swp_seqL (r := v4) h (fun j5 => ⟨19, [(0, vl eName aS), (1, .clo 78 [.ptr [vs aF0.Code, vi aF0.Class, vi aF0.Years.From, vi aF0.Years.To, vl eName aF0.Names] 0]), (7, vi (aS.length : Int)), (8, vi s3.1)], []⟩) (fun v6 h => ?_) (fun j5 h => ?_)
  refine swp_blk (a := v6) ?_
  refine srk tbok ⟨19, [(0, vl eName aS), (1, .clo 78 [.ptr [vs aF0.Code, vi aF0.Class, vi aF0.Years.From, vi aF0.Years.To, vl eName aF0.Names] 0]), (5, vi s3.1), (7, vi (aS.length : Int)), (8, vi s3.1)], []⟩ ?_
  refine sr ?_
  refine SRun.ck tbok 3 ⟨19, [(0, vl eName aS), (1, .clo 78 [.ptr [vs aF0.Code, vi aF0.Class, vi aF0.Years.From, vi aF0.Years.To, vl eName aF0.Names] 0]), (5, vi s3.1), (7, vi (aS.length : Int)), (8, vi s3.1), (11, .clo 78 [.ptr [vs aF0.Code, vi aF0.Class, vi aF0.Years.From, vi aF0.Years.To, vl eName aF0.Names] 0]), (12, vl eName aS), (13, vi s3.1)], []⟩ ?_
  obtain ⟨x7, hx7, h⟩ := bind_some h
  refine SRun.ls (x_index (L := aS) (f := eName) (ti := ti39) (tj := ti95) (e := 95) (k := .i64) tbok rfl hx7) ?_
  refine SRun.ck tbok 1 ⟨19, [(0, vl eName aS), (1, .clo 78 [.ptr [vs aF0.Code, vi aF0.Class, vi aF0.Years.From, vi aF0.Years.To, vl eName aF0.Names] 0]), (5, vi s3.1), (7, vi (aS.length : Int)), (8, vi s3.1), (11, .clo 78 [.ptr [vs aF0.Code, vi aF0.Class, vi aF0.Years.From, vi aF0.Years.To, vl eName aF0.Names] 0]), (15, .agg (tc eName x7))], []⟩ ?_
  obtain ⟨x8, hx8, h⟩ := bind_some h
  refine SRun.ls (xc ents78 (impl_IsPlace_1_run x7 aF0 _ hx8)) ?_
  refine SRun.nx ?_
  refine swp_cd h (fun h => ?_) fun h => ?_
  refine srk tbok ⟨19, [(4, vi s3.1)], []⟩ ?_
  refine swp_ret ?_
  obtain rfl := inj h
  exact q_br (q_rr (q_rr (q_br (q_rr (q_fr (f1 fv))))))
  refine swp_skip ?_
  obtain rfl := inj h
  exact q_bn (q_l (Le.sub0))
  refine swp_reg ?_
  refine SRun.ck tbok 2 ⟨19, [(0, vl eName aS), (1, .clo 78 [.ptr [vs aF0.Code, vi aF0.Class, vi aF0.Years.From, vi aF0.Years.To, vl eName aF0.Names] 0]), (7, vi (aS.length : Int)), (8, vi (w64 (s3.1 + 1)))], []⟩ ?_
  refine SRun.nil ?_
  obtain rfl := inj h
  exact q_l (Le.sub0)
  refine swp_exit ?_
  obtain rfl := inj h
  exact nx_e (q_re (q_bh (q_l (Le.sub0))))
  refine srk tbok ⟨19, [(4, vi (-1))], []⟩ ?_
  refine swp_ret ?_
  obtain rfl := inj h
  exact q_fr (f1 fv)
noncomputable def slices_ContainsFunc_Name_impl_IsPlace_1 (aS : (List Name)) (aF0 : Place) : Option (Bool) :=
  ((slices_IndexFunc_Name_impl_IsPlace_1 aS aF0).bind fun x1 => some (decide (x1 ≥ 0)))
theorem slices_ContainsFunc_Name_impl_IsPlace_1_run (aS : (List Name)) (aF0 : Place) (r : Bool) (h : slices_ContainsFunc_Name_impl_IsPlace_1 aS aF0 = some r) : SCall Tryz.prog 77 [.v (vl eName aS), .v (.clo 78 [.ptr [vs aF0.Code, vi aF0.Class, vi aF0.Years.From, vi aF0.Years.To, vl eName aF0.Names] 0])] ⟨[.v (vb r)], [], false⟩ := by
  refine scall_in Tryz.func77 rfl [(.tmp 4)] rfl (fun r => ⟨[.v (vb r)], [], false⟩) (r := r) ?_
  unfold slices_ContainsFunc_Name_impl_IsPlace_1 at h
  refine srk tbok ⟨9, [(0, vl eName aS), (1, .clo 78 [.ptr [vs aF0.Code, vi aF0.Class, vi aF0.Years.From, vi aF0.Years.To, vl eName aF0.Names] 0])], []⟩ ?_
  refine sr ?_
  refine SRun.ck tbok 2 ⟨9, [(5, vl eName aS), (6, .clo 78 [.ptr [vs aF0.Code, vi aF0.Class, vi aF0.Years.From, vi aF0.Years.To, vl eName aF0.Names] 0])], []⟩ ?_
  obtain ⟨x1, hx1, h⟩ := bind_some h
  refine SRun.ls (xc ents112 (slices_IndexFunc_Name_impl_IsPlace_1_run aS aF0 _ hx1)) ?_
  refine ckn tbok 2 ⟨9, [(4, vb (decide (x1 ≥ 0)))], []⟩ ?_
  refine swp_ret ?_
  obtain rfl := inj h
  exact q_fr (f1 fv)
noncomputable def impl_IsPlace (aP : Place) : Option (Bool) :=
  ((((impl_IsWord aP.Code).bind fun x1 => (bif x1 then ((impl_within aP.Class 0 19).bind fun x2 => (bif x2 then ((impl_IsSpan aP.Years).bind fun x3 => (bif x3 then ((impl_AreNames aP.Names).bind fun x4 => (bif x4 then ((slices_ContainsFunc_Name_impl_IsPlace_1 aP.Names aP).bind fun x5 => some (!x5)) else some false)) else some false)) else some false)) else some false))).bind fun (j6 : Bool) => some j6)
theorem impl_IsPlace_run (aP : Place) (r : Bool) (h : impl_IsPlace aP = some r) : SCall Tryz.prog 31 [.v (.agg (tc ePlace aP))] ⟨[.v (vb r)], [], false⟩ := by
  refine scall_in Tryz.func31 rfl [(.tmp 2)] rfl (fun r => ⟨[.v (vb r)], [], false⟩) (r := r) ?_
  unfold impl_IsPlace at h
  refine srk tbok ⟨28, [(1, .ref 1 0)], [(1, .box (tc ePlace aP))]⟩ ?_
  refine swp_seq ?_
  refine swp_regJ h (fun j6 => ⟨28, [(2, vb j6)], []⟩) (fun v7 h => ?_) (fun j6 h => ?_)
  refine SRun.ck tbok 2 ⟨28, [(1, .ref 1 0), (4, vs aP.Code)], [(1, .box (tc ePlace aP))]⟩ ?_
  obtain ⟨x1, hx1, h⟩ := bind_some h
  refine SRun.ls (xc ents42 (impl_IsWord_run aP.Code _ hx1)) ?_
  refine SRun.ck tbok 1 ⟨28, [(1, .ref 1 0), (6, vb x1)], [(1, .box (tc ePlace aP))]⟩ ?_
  refine SRun.cu [(6, fun b => b)] h (fun h => ?_) fun h => ?_
  refine SRun.ck tbok 2 ⟨28, [(1, .ref 1 0), (6, vb true), (8, vi aP.Class)], [(1, .box (tc ePlace aP))]⟩ ?_
  obtain ⟨x2, hx2, h⟩ := bind_some h
  refine SRun.ls (xc ents74 (impl_within_run aP.Class 0 19 _ hx2)) ?_
  refine SRun.ck tbok 2 ⟨28, [(1, .ref 1 0), (11, vb x2)], [(1, .box (tc ePlace aP))]⟩ ?_
  refine SRun.cu [(11, fun b => b)] h (fun h => ?_) fun h => ?_
  refine SRun.ck tbok 2 ⟨28, [(1, .ref 1 0), (11, vb true), (13, .agg (tc eSpan aP.Years))], [(1, .box (tc ePlace aP))]⟩ ?_
  obtain ⟨x3, hx3, h⟩ := bind_some h
  refine SRun.ls (xc ents75 (impl_IsSpan_run aP.Years _ hx3)) ?_
  refine SRun.ck tbok 2 ⟨28, [(1, .ref 1 0), (16, vb x3)], [(1, .box (tc ePlace aP))]⟩ ?_
  refine SRun.cu [(16, fun b => b)] h (fun h => ?_) fun h => ?_
  refine SRun.ck tbok 2 ⟨28, [(1, .ref 1 0), (16, vb true), (18, vl eName aP.Names)], [(1, .box (tc ePlace aP))]⟩ ?_
  obtain ⟨x4, hx4, h⟩ := bind_some h
  refine SRun.ls (xc ents76 (impl_AreNames_run aP.Names _ hx4)) ?_
  refine SRun.ck tbok 2 ⟨28, [(1, .ref 1 0), (21, vb x4)], [(1, .box (tc ePlace aP))]⟩ ?_
  refine SRun.cu [(21, fun b => b)] h (fun h => ?_) fun h => ?_
  refine SRun.ck tbok 3 ⟨28, [(21, vb true), (23, vl eName aP.Names), (24, .clo 78 [.ref 1 0])], [(1, .box (tc ePlace aP))]⟩ ?_
  obtain ⟨x5, hx5, h⟩ := bind_some h
  refine SRun.ls (xc ents77 (slices_ContainsFunc_Name_impl_IsPlace_1_run aP.Names aP _ hx5)) ?_
  refine SRun.ck tbok 3 ⟨28, [(2, vb (!x5))], []⟩ ?_
  refine SRun.nil ?_
  obtain rfl := inj h
  exact Le.sub0
  refine SRun.ck tbok 7 ⟨28, [(2, vb false)], []⟩ ?_
  refine SRun.nil ?_
  obtain rfl := inj h
  exact Le.sub0
  refine SRun.ck tbok 12 ⟨28, [(2, vb false)], []⟩ ?_
  refine SRun.nil ?_
  obtain rfl := inj h
  exact Le.sub0
  refine SRun.ck tbok 17 ⟨28, [(2, vb false)], []⟩ ?_
  refine SRun.nil ?_
  obtain rfl := inj h
  exact Le.sub0
  refine SRun.ck tbok 22 ⟨28, [(2, vb false)], []⟩ ?_
  refine SRun.nil ?_
  obtain rfl := inj h
  exact Le.sub0
  refine swp_ret ?_
  obtain rfl := inj h
  exact q_fr (f1 fv)
theorem ents31 : Ents Tryz.prog 31 := ents_of Tryz.func31 (by kernel_rfl) rfl
noncomputable def impl_IsRegister (aList : (List Place)) : Option (Bool) :=
  (((forN (aList.length : Int) (fun (i3 : Int) (_ : Unit) => ((at' aList i3).bind fun x7 => ((((impl_IsPlace x7).bind fun x8 => (bif (!x8) then some true else (bif (decide (i3 > 0)) then ((at' aList (w64 (i3 - 1))).bind fun x9 => some (!(Op.bytesLess x9.Code.toList x7.Code.toList))) else some false)))).bind fun (j10 : Bool) => (bif j10 then some (.inr (.inr false)) else some (.inl ()))))) (fun (_ : Unit) => .inl ()) 0 ())).bind (Sum.elim (fun (_ : Unit) => some (decide ((aList.length : Int) ≤ 10))) some))
theorem impl_IsRegister_run (aList : (List Place)) (r : Bool) (h : impl_IsRegister aList = some r) : SCall Tryz.prog 29 [.v (vl ePlace aList)] ⟨[.v (vb r)], [], false⟩ := by
  refine scall_in Tryz.func29 rfl [(.tmp 2)] rfl (fun r => ⟨[.v (vb r)], [], false⟩) (r := r) ?_
  unfold impl_IsRegister at h
  refine srk tbok ⟨34, [(0, vl ePlace aList)], []⟩ ?_
  refine swp_seq ?_
  refine srk tbok ⟨34, [(0, vl ePlace aList), (5, vl ePlace aList), (6, vi (aList.length : Int)), (7, vi 0)], []⟩ ?_
  refine swp_seqE (r := r) h (fun j1 => ⟨34, [(0, vl ePlace aList)], []⟩) (fun v2 h => ?_) (fun j1 h => ?_)
  refine swp_blk (a := v2) ?_
  refine swp_lpL (r := v2) (s := (0, ())) _ (fun s3 => ⟨34, [(0, vl ePlace aList), (5, vl ePlace aList), (6, vi (aList.length : Int)), (7, vi s3.1)], []⟩) _ (Le.sub0) h (fun s3 v4 h => ?_)
  refine srk tbok ⟨34, [(0, vl ePlace aList), (5, vl ePlace aList), (6, vi (aList.length : Int)), (7, vi s3.1), (8, vb (decide (s3.1 < (aList.length : Int))))], []⟩ ?_
  refine swp_seq ?_
  refine swp_cd h (fun h => ?_) fun h => ?_
  refine swp_skip ?_
  refine nx_n ?_
  refine swp_seq ?_
  refine swp_seqL (r := v4) h (fun j5 => ⟨34, [(0, vl ePlace aList), (5, vl ePlace aList), (6, vi (aList.length : Int)), (7, vi s3.1)], []⟩) (fun v6 h => ?_) (fun j5 h => ?_)
  refine swp_blk (a := v6) ?_
  refine sr ?_
  refine SRun.ck tbok 1 ⟨34, [(0, vl ePlace aList), (5, vl ePlace aList), (6, vi (aList.length : Int)), (7, vi s3.1), (9, vi s3.1)], []⟩ ?_
  obtain ⟨x7, hx7, h⟩ := bind_some h
  refine SRun.ls (x_index (L := aList) (f := ePlace) (ti := ti24) (tj := ti41) (e := 41) (k := .i64) tbok rfl hx7) ?_
  refine ckn tbok 4 ⟨34, [(0, vl ePlace aList), (3, vi s3.1), (4, .ref 4 0), (5, vl ePlace aList), (6, vi (aList.length : Int)), (7, vi s3.1)], [(4, .box (tc ePlace x7))]⟩ ?_
  refine swp_seq ?_
  refine swp_drJ mixed h (fun j10 => ⟨34, [(0, vl ePlace aList), (5, vl ePlace aList), (6, vi (aList.length : Int)), (7, vi s3.1), (29, vb j10)], []⟩) (fun v11 h => ?_) (fun j10 h => ?_)
  refine DGo.ck tbok false 1 ⟨34, [(0, vl ePlace aList), (3, vi s3.1), (4, .ref 4 0), (5, vl ePlace aList), (6, vi (aList.length : Int)), (7, vi s3.1), (12, .agg (tc ePlace x7))], [(4, .box (tc ePlace x7))]⟩ ?_
  obtain ⟨x8, hx8, h⟩ := bind_some h
  refine DGo.step (xc ents31 (impl_IsPlace_run x7 _ hx8)) ?_
  refine DGo.ck tbok false 2 ⟨34, [(0, vl ePlace aList), (3, vi s3.1), (4, .ref 4 0), (5, vl ePlace aList), (6, vi (aList.length : Int)), (7, vi s3.1), (15, vb (!x8))], [(4, .box (tc ePlace x7))]⟩ ?_
  refine DGo.cu [(15, fun b => b)] h (fun h => ?_) fun h => ?_
  refine DGo.ck tbok false 14 ⟨34, [(0, vl ePlace aList), (5, vl ePlace aList), (6, vi (aList.length : Int)), (7, vi s3.1), (29, vb true)], []⟩ ?_
  refine DGo.nil (by kernel_rfl) ?_
  obtain rfl := inj h
  exact Le.sub0
  refine DGo.ck tbok false 3 ⟨34, [(0, vl ePlace aList), (3, vi s3.1), (4, .ref 4 0), (5, vl ePlace aList), (6, vi (aList.length : Int)), (7, vi s3.1), (15, vb false), (18, vb (decide (s3.1 > 0)))], [(4, .box (tc ePlace x7))]⟩ ?_
  refine DGo.cu [(18, fun b => b)] h (fun h => ?_) fun h => ?_
  refine DGo.ck tbok false 3 ⟨34, [(0, vl ePlace aList), (4, .ref 4 0), (5, vl ePlace aList), (6, vi (aList.length : Int)), (7, vi s3.1), (15, vb false), (18, vb true), (19, vl ePlace aList), (21, vi (w64 (s3.1 - 1)))], [(4, .box (tc ePlace x7))]⟩ ?_
  obtain ⟨x9, hx9, h⟩ := bind_some h
  refine DGo.step (x_index (L := aList) (f := ePlace) (ti := ti24) (tj := ti41) (e := 41) (k := .i64) tbok rfl hx9) ?_
  refine DGo.ck tbok false 7 ⟨34, [(0, vl ePlace aList), (5, vl ePlace aList), (6, vi (aList.length : Int)), (7, vi s3.1), (29, vb (!(Op.bytesLess x9.Code.toList x7.Code.toList)))], []⟩ ?_
  refine DGo.nil (by kernel_rfl) ?_
  obtain rfl := inj h
  exact Le.sub0
  refine DGo.ck tbok false 11 ⟨34, [(0, vl ePlace aList), (5, vl ePlace aList), (6, vi (aList.length : Int)), (7, vi s3.1), (29, vb false)], []⟩ ?_
  refine DGo.nil (by kernel_rfl) ?_
  obtain rfl := inj h
  exact Le.sub0
  refine swp_cd h (fun h => ?_) fun h => ?_
  refine srk tbok ⟨34, [(2, vb false)], []⟩ ?_
  refine swp_ret ?_
  obtain rfl := inj h
  exact q_br (q_rr (q_rr (q_br (q_rr (q_fr (f1 fv))))))
  refine swp_skip ?_
  obtain rfl := inj h
  exact q_bn (q_l (Le.sub0))
  refine swp_reg ?_
  refine SRun.ck tbok 2 ⟨34, [(0, vl ePlace aList), (5, vl ePlace aList), (6, vi (aList.length : Int)), (7, vi (w64 (s3.1 + 1)))], []⟩ ?_
  refine SRun.nil ?_
  obtain rfl := inj h
  exact q_l (Le.sub0)
  refine swp_exit ?_
  obtain rfl := inj h
  exact nx_e (q_re (q_bh (q_l (Le.sub0))))
  refine srk tbok ⟨34, [(2, vb (decide ((aList.length : Int) ≤ 10)))], []⟩ ?_
  refine swp_ret ?_
  obtain rfl := inj h
  exact q_fr (f1 fv)
theorem ents29 : Ents Tryz.prog 29 := ents_of Tryz.func29 (by kernel_rfl) rfl
theorem strings_Compare_run (s c : ByteArray) (r : Int) (h : strings_Compare s c = some r) : SCall Tryz.prog 91 [.v (.tr (.str s)), .v (.tr (.str c))] ⟨[.v (.tr (.int .i64 r))], [], false⟩ := compare_run Tryz.lays106 91 rfl s c r h
theorem ents91 : Ents Tryz.prog 91 := ents_of Tryz.func91 (by kernel_rfl) rfl
noncomputable def impl_findPlace_1 (aP : Place) (aCode : ByteArray) : Option (Int) :=
  ((strings_Compare aP.Code aCode).bind fun x1 => some x1)
theorem impl_findPlace_1_run (aP : Place) (aCode : ByteArray) (r : Int) (h : impl_findPlace_1 aP aCode = some r) : SCall Tryz.prog 90 [.v (.agg (tc ePlace aP)), .v (vs aCode)] ⟨[.v (vi r)], [], false⟩ := by
  refine scall_in Tryz.func90 rfl [(.tmp 4)] rfl (fun r => ⟨[.v (vi r)], [], false⟩) (r := r) ?_
  unfold impl_findPlace_1 at h
  refine srk tbok ⟨9, [(1, vs aCode), (2, .ref 2 0)], [(2, .box (tc ePlace aP))]⟩ ?_
  refine sr ?_
  refine SRun.ck tbok 3 ⟨9, [(6, vs aP.Code), (7, vs aCode)], []⟩ ?_
  obtain ⟨x1, hx1, h⟩ := bind_some h
  refine SRun.ls (xc ents91 (strings_Compare_run aP.Code aCode _ hx1)) ?_
  refine ckn tbok 1 ⟨9, [(4, vi x1)], []⟩ ?_
  refine swp_ret ?_
  obtain rfl := inj h
  exact q_fr (f1 fv)
theorem ents90 : Ents Tryz.prog 90 := ents_of Tryz.func90 (by kernel_rfl) rfl
noncomputable def slices_BinarySearchFunc_string_impl_findPlace_1 (aX : (List Place)) (aTarget : ByteArray) : Option (Int × Bool) :=
  (((loop (fun (s3 : Int × Int) => (bif (decide (s3.1 < s3.2)) then ((at' aX (w64 (Int.fdiv (IntKind.wrap .u64 (w64 (s3.1 + s3.2))) (2 ^ 1)))).bind fun x5 => ((impl_findPlace_1 x5 aTarget).bind fun x6 => (bif (decide (x6 < 0)) then some (.inl ((w64 ((w64 (Int.fdiv (IntKind.wrap .u64 (w64 (s3.1 + s3.2))) (2 ^ 1))) + 1)), s3.2)) else some (.inl (s3.1, (w64 (Int.fdiv (IntKind.wrap .u64 (w64 (s3.1 + s3.2))) (2 ^ 1)))))))) else some (.inr s3.1))) (0, (aX.length : Int)))).bind fun (j1 : Int) => (((bif (decide (j1 < (aX.length : Int))) then ((at' aX j1).bind fun x7 => ((impl_findPlace_1 x7 aTarget).bind fun x8 => some (x8 == 0))) else some false)).bind fun (j9 : Bool) => some (j1, j9)))
theorem slices_BinarySearchFunc_string_impl_findPlace_1_run (aX : (List Place)) (aTarget : ByteArray) (r : Int × Bool) (h : slices_BinarySearchFunc_string_impl_findPlace_1 aX aTarget = some r) : SCall Tryz.prog 89 [.v (vl ePlace aX), .v (vs aTarget), .v (.clo 90 [])] ⟨[.v (vi r.1), .v (vb r.2)], [], false⟩ := by
  refine scall_in Tryz.func89 rfl [(.tmp 6), (.tmp 7)] rfl (fun r => ⟨[.v (vi r.1), .v (vb r.2)], [], false⟩) (r := r) ?_
  unfold slices_BinarySearchFunc_string_impl_findPlace_1 at h
  refine srk tbok ⟨49, [(0, vl ePlace aX), (1, vs aTarget), (2, .clo 90 [])], []⟩ ?_
  refine srk tbok ⟨49, [(0, vl ePlace aX), (1, vs aTarget), (2, .clo 90 []), (8, vi (aX.length : Int))], []⟩ ?_
  refine srk tbok ⟨49, [(0, vl ePlace aX), (1, vs aTarget), (2, .clo 90 []), (8, vi (aX.length : Int)), (9, vi 0), (10, vi (aX.length : Int))], []⟩ ?_
  refine swp_seq ?_
  refine swp_seqJ h (fun j1 => ⟨49, [(0, vl ePlace aX), (1, vs aTarget), (2, .clo 90 []), (8, vi (aX.length : Int)), (9, vi j1)], []⟩) (fun v2 h => ?_) (fun j1 h => ?_)
  refine swp_blk (a := v2) ?_
  refine swp_lpL (r := v2) (s := (0, (aX.length : Int))) _ (fun s3 => ⟨49, [(0, vl ePlace aX), (1, vs aTarget), (2, .clo 90 []), (8, vi (aX.length : Int)), (9, vi s3.1), (10, vi s3.2)], []⟩) _ (Le.sub0) h (fun s3 v4 h => ?_)
  refine swp_seq ?_
  refine srk tbok ⟨49, [(0, vl ePlace aX), (1, vs aTarget), (2, .clo 90 []), (8, vi (aX.length : Int)), (9, vi s3.1), (10, vi s3.2), (17, vb (decide (s3.1 < s3.2)))], []⟩ ?_
  refine swp_cd h (fun h => ?_) fun h => ?_
  refine swp_skip ?_
  refine nx_n ?_
  refine swp_blk (a := v4) ?_
  refine srk tbok ⟨49, [(0, vl ePlace aX), (1, vs aTarget), (2, .clo 90 []), (8, vi (aX.length : Int)), (9, vi s3.1), (10, vi s3.2), (11, vi (w64 (Int.fdiv (IntKind.wrap .u64 (w64 (s3.1 + s3.2))) (2 ^ 1))))], []⟩ ?_
  refine sr ?_
  refine SRun.ck tbok 3 ⟨49, [(0, vl ePlace aX), (1, vs aTarget), (2, .clo 90 []), (8, vi (aX.length : Int)), (9, vi s3.1), (10, vi s3.2), (11, vi (w64 (Int.fdiv (IntKind.wrap .u64 (w64 (s3.1 + s3.2))) (2 ^ 1)))), (24, .clo 90 []), (25, vl ePlace aX), (26, vi (w64 (Int.fdiv (IntKind.wrap .u64 (w64 (s3.1 + s3.2))) (2 ^ 1))))], []⟩ ?_
  obtain ⟨x5, hx5, h⟩ := bind_some h
  refine SRun.ls (x_index (L := aX) (f := ePlace) (ti := ti24) (tj := ti41) (e := 41) (k := .i64) tbok rfl hx5) ?_
  refine SRun.ck tbok 2 ⟨49, [(0, vl ePlace aX), (1, vs aTarget), (2, .clo 90 []), (8, vi (aX.length : Int)), (9, vi s3.1), (10, vi s3.2), (11, vi (w64 (Int.fdiv (IntKind.wrap .u64 (w64 (s3.1 + s3.2))) (2 ^ 1)))), (24, .clo 90 []), (28, .agg (tc ePlace x5)), (29, vs aTarget)], []⟩ ?_
  obtain ⟨x6, hx6, h⟩ := bind_some h
  refine SRun.ls (xc ents90 (impl_findPlace_1_run x5 aTarget _ hx6)) ?_
  refine ckn tbok 1 ⟨49, [(0, vl ePlace aX), (1, vs aTarget), (2, .clo 90 []), (8, vi (aX.length : Int)), (9, vi s3.1), (10, vi s3.2), (11, vi (w64 (Int.fdiv (IntKind.wrap .u64 (w64 (s3.1 + s3.2))) (2 ^ 1)))), (31, vb (decide (x6 < 0)))], []⟩ ?_
  refine swp_cd h (fun h => ?_) fun h => ?_
  refine swp_reg ?_
  refine SRun.ck tbok 3 ⟨49, [(0, vl ePlace aX), (1, vs aTarget), (2, .clo 90 []), (8, vi (aX.length : Int)), (9, vi (w64 ((w64 (Int.fdiv (IntKind.wrap .u64 (w64 (s3.1 + s3.2))) (2 ^ 1))) + 1))), (10, vi s3.2)], []⟩ ?_
  refine SRun.nil ?_
  obtain rfl := inj h
  exact q_bn (q_l (Le.sub0))
  refine swp_reg ?_
  refine SRun.ck tbok 2 ⟨49, [(0, vl ePlace aX), (1, vs aTarget), (2, .clo 90 []), (8, vi (aX.length : Int)), (9, vi s3.1), (10, vi (w64 (Int.fdiv (IntKind.wrap .u64 (w64 (s3.1 + s3.2))) (2 ^ 1))))], []⟩ ?_
  refine SRun.nil ?_
  obtain rfl := inj h
  exact q_bn (q_l (Le.sub0))
  refine swp_exit ?_
  obtain rfl := inj h
  exact nx_e (q_re (q_bh (q_j (Le.sub0))))
  refine swp_seq ?_
  refine swp_regJ h (fun j9 => ⟨49, [(6, vi j1), (7, vb j9)], []⟩) (fun v10 h => ?_) (fun j9 h => ?_)
  refine SRun.ck tbok 5 ⟨49, [(0, vl ePlace aX), (1, vs aTarget), (2, .clo 90 []), (9, vi j1), (35, vi j1), (39, vb (decide (j1 < (aX.length : Int))))], []⟩ ?_
  refine SRun.cu [(39, fun b => b)] h (fun h => ?_) fun h => ?_
  refine SRun.ck tbok 3 ⟨49, [(1, vs aTarget), (35, vi j1), (39, vb true), (40, .clo 90 []), (41, vl ePlace aX), (42, vi j1)], []⟩ ?_
  obtain ⟨x7, hx7, h⟩ := bind_some h
  refine SRun.ls (x_index (L := aX) (f := ePlace) (ti := ti24) (tj := ti41) (e := 41) (k := .i64) tbok rfl hx7) ?_
  refine SRun.ck tbok 2 ⟨49, [(35, vi j1), (39, vb true), (40, .clo 90 []), (44, .agg (tc ePlace x7)), (45, vs aTarget)], []⟩ ?_
  obtain ⟨x8, hx8, h⟩ := bind_some h
  refine SRun.ls (xc ents90 (impl_findPlace_1_run x7 aTarget _ hx8)) ?_
  refine SRun.ck tbok 4 ⟨49, [(6, vi j1), (7, vb (x8 == 0))], []⟩ ?_
  refine SRun.nil ?_
  obtain rfl := inj h
  exact Le.sub0
  refine SRun.ck tbok 11 ⟨49, [(6, vi j1), (7, vb false)], []⟩ ?_
  refine SRun.nil ?_
  obtain rfl := inj h
  exact Le.sub0
  refine swp_ret ?_
  obtain rfl := inj h
  exact q_fr (f2 fv fv)
theorem ents89 : Ents Tryz.prog 89 := ents_of Tryz.func89 (by kernel_rfl) rfl
noncomputable def impl_findPlace (aList : (List Place)) (aCode : ByteArray) : Option (Int × Bool) :=
  ((slices_BinarySearchFunc_string_impl_findPlace_1 aList aCode).bind fun x1 => some (x1.1, x1.2))
theorem impl_findPlace_run (aList : (List Place)) (aCode : ByteArray) (r : Int × Bool) (h : impl_findPlace aList aCode = some r) : SCall Tryz.prog 43 [.v (vl ePlace aList), .v (vs aCode)] ⟨[.v (vi r.1), .v (vb r.2)], [], false⟩ := by
  refine scall_in Tryz.func43 rfl [(.tmp 4), (.tmp 5)] rfl (fun r => ⟨[.v (vi r.1), .v (vb r.2)], [], false⟩) (r := r) ?_
  unfold impl_findPlace at h
  refine srk tbok ⟨11, [(0, vl ePlace aList), (1, vs aCode)], []⟩ ?_
  refine sr ?_
  refine SRun.ck tbok 2 ⟨11, [(6, vl ePlace aList), (7, vs aCode)], []⟩ ?_
  obtain ⟨x1, hx1, h⟩ := bind_some h
  refine SRun.ls (xc ents89 (slices_BinarySearchFunc_string_impl_findPlace_1_run aList aCode _ hx1)) ?_
  refine ckn tbok 4 ⟨11, [(4, vi x1.1), (5, vb x1.2)], []⟩ ?_
  refine swp_ret ?_
  obtain rfl := inj h
  exact q_fr (f2 fv fv)
theorem ents43 : Ents Tryz.prog 43 := ents_of Tryz.func43 (by kernel_rfl) rfl
def slices_Clone_Name (L : List Name) : Option (List Name) := if L.length ≤ 68719476736 then some L else none
set_option maxRecDepth 100000 in
theorem slices_Clone_Name_run (L r : List Name) (h : slices_Clone_Name L = some r) : SCall Tryz.prog 96 [.v (.tr (.sl L.length (L.map eName)))] ⟨[.own 95 5 r.length (r.map eName)], [], true⟩ := by
  unfold slices_Clone_Name at h
  split at h
  · rename_i hh
    injection h with h
    subst h
    refine clone_scall eName Tryz.cloneName 96 95 rfl rfl _ _ 5 56 rfl rfl (by kernel_rfl) (by kernel_rfl) (by kernel_rfl) (by decide) (fun _ => rfl) (fun _ => rfl) L (by omega)
  · cases h
theorem ents96 : Ents Tryz.prog 96 := ents_of Tryz.func96 (by kernel_rfl) rfl
noncomputable def impl_Place_clone (aP : Place) : Option (Place) :=
  ((slices_Clone_Name aP.Names).bind fun x1 => some (Place.mk aP.Code aP.Class aP.Years x1))
theorem impl_Place_clone_run (aP : Place) (r : Place) (h : impl_Place_clone aP = some r) : SCall Tryz.prog 54 [.v (.agg (tc ePlace aP))] ⟨[.part [vs r.Code, vi r.Class, vi r.Years.From, vi r.Years.To] [] (oa 95 5 eName r.Names)], [], false⟩ := by
  refine scall_in Tryz.func54 rfl [(.cell 2 41)] rfl (fun r => ⟨[.part [vs r.Code, vi r.Class, vi r.Years.From, vi r.Years.To] [] (oa 95 5 eName r.Names)], [], false⟩) (r := r) ?_
  unfold impl_Place_clone at h
  refine srk tbok ⟨8, [(1, .ref 1 0), (2, .ref 2 0)], [(1, .box (tc ePlace aP)), (2, .box [vs (ByteArray.mk #[]), vi 0, vi 0, vi 0, vl eName ([] : List Name)])]⟩ ?_
  refine sr ?_
  refine SRun.ck tbok 2 ⟨8, [(1, .ref 1 0), (2, .ref 2 0), (4, vl eName aP.Names)], [(1, .box (tc ePlace aP)), (2, .box [vs (ByteArray.mk #[]), vi 0, vi 0, vi 0, vl eName ([] : List Name)])]⟩ ?_
  obtain ⟨x1, hx1, h⟩ := bind_some h
  refine SRun.ls (xc ents96 (slices_Clone_Name_run aP.Names _ hx1)) ?_
  refine ckn tbok 2 ⟨8, [(1, .ref 1 0), (2, .ref 2 0)], [(1, .box [vs aP.Code, vi aP.Class, vi aP.Years.From, vi aP.Years.To, .own 5]), (2, .box [vs (ByteArray.mk #[]), vi 0, vi 0, vi 0, vl eName ([] : List Name)]), (5, oa 95 5 eName x1)]⟩ ?_
  refine srk tbok ⟨8, [(2, .ref 2 0)], [(2, .box [vs aP.Code, vi aP.Class, vi aP.Years.From, vi aP.Years.To, .own 5]), (5, oa 95 5 eName x1)]⟩ ?_
  refine swp_ret ?_
  obtain rfl := inj h
  exact q_fr (f1 (finP (d := 5) [vs aP.Code, vi aP.Class, vi aP.Years.From, vi aP.Years.To] [] (holds_c tbok (d := 2) (cs := [vs aP.Code, vi aP.Class, vi aP.Years.From, vi aP.Years.To, .own 5]) (ti := ti41) (by kernel_rfl) (by kernel_rfl) (by kernel_rfl) (by kernel_rfl)) (by kernel_rfl) (flat_map eName_flat _) rfl rfl SV.flatL_of SV.flatL_of (by kernel_rfl)))
theorem ents54 : Ents Tryz.prog 54 := ents_of Tryz.func54 (by kernel_rfl) rfl
noncomputable def impl_cloneRegister (aList : (List Place)) : Option ((List Place)) :=
  (((forS (aList.length : Int) (fun (i3 : Int) (s3 : (List Place)) => ((at' aList i3).bind fun x7 => ((impl_Place_clone x7).bind fun x8 => ((app' s3 ([x8] : List Place)).bind fun x9 => some x9)))) (fun (s3 : (List Place)) => s3) 0 ([] : List Place))).bind fun (j1 : (List Place)) => some j1)
theorem impl_cloneRegister_run (aList : (List Place)) (r : (List Place)) (h : impl_cloneRegister aList = some r) : SCall Tryz.prog 45 [.v (vl ePlace aList)] ⟨[.deep 41 5 r.length [.flat, .flat, .flat, .flat, (.sl 95 5 [.flat, .flat, .flat, .flat, .flat])] (r.map ePlace)], [], false⟩ := by
  refine scall_in Tryz.func45 rfl [(.tmp 2)] rfl (fun r => ⟨[.deep 41 5 r.length [.flat, .flat, .flat, .flat, (.sl 95 5 [.flat, .flat, .flat, .flat, .flat])] (r.map ePlace)], [], false⟩) (r := r) ?_
  unfold impl_cloneRegister at h
  refine sr ?_
  refine SRun.ck tbok 1 ⟨19, [(2, .own 2), (0, vl ePlace aList)], [(2, oa 41 5 ePlace ([] : List Place))]⟩ ?_
  refine SRun.le (Le.deep0 (d := 2) (e := 41) (m := 5) (ss := [.flat, .flat, .flat, .flat, (.sl 95 5 [.flat, .flat, .flat, .flat, .flat])]) (by kernel_rfl) (by kernel_rfl)) ?_
  refine SRun.nx ?_
  refine sr ?_
  refine SRun.ck tbok 1 ⟨19, [(3, .own 3), (2, .own 2), (0, vl ePlace aList)], [(3, oa 41 5 ePlace ([] : List Place)), (2, .deep 41 5 ([] : List Place).length [.flat, .flat, .flat, .flat, (.sl 95 5 [.flat, .flat, .flat, .flat, .flat])] (([] : List Place).map ePlace))]⟩ ?_
  refine SRun.le (Le.deep0 (d := 3) (e := 41) (m := 5) (ss := [.flat, .flat, .flat, .flat, (.sl 95 5 [.flat, .flat, .flat, .flat, .flat])]) (by kernel_rfl) (by kernel_rfl)) ?_
  refine SRun.nx ?_
  refine swp_seq ?_
  refine srk tbok ⟨19, [(3, .own 3), (6, vl ePlace aList), (7, vi (aList.length : Int)), (8, vi 0)], [(3, .deep 41 5 ([] : List Place).length [.flat, .flat, .flat, .flat, (.sl 95 5 [.flat, .flat, .flat, .flat, .flat])] (([] : List Place).map ePlace))]⟩ ?_
  refine swp_seqJ h (fun j1 => ⟨19, [(3, .own 3)], [(3, .deep 41 5 j1.length [.flat, .flat, .flat, .flat, (.sl 95 5 [.flat, .flat, .flat, .flat, .flat])] (j1.map ePlace))]⟩) (fun v2 h => ?_) (fun j1 h => ?_)
  refine swp_blk (a := v2) ?_
  refine swp_lpL (r := v2) (s := (0, ([] : List Place))) _ (fun s3 => ⟨19, [(3, .own 3), (6, vl ePlace aList), (7, vi (aList.length : Int)), (8, vi s3.1)], [(3, .deep 41 5 s3.2.length [.flat, .flat, .flat, .flat, (.sl 95 5 [.flat, .flat, .flat, .flat, .flat])] (s3.2.map ePlace))]⟩) _ (Le.sub0) h (fun s3 v4 h => ?_)
  refine srk tbok ⟨19, [(3, .own 3), (6, vl ePlace aList), (7, vi (aList.length : Int)), (8, vi s3.1), (9, vb (decide (s3.1 < (aList.length : Int))))], [(3, .deep 41 5 s3.2.length [.flat, .flat, .flat, .flat, (.sl 95 5 [.flat, .flat, .flat, .flat, .flat])] (s3.2.map ePlace))]⟩ ?_
  refine swp_seq ?_
  refine swp_cd h (fun h => ?_) fun h => ?_
  refine swp_skip ?_
  refine nx_n ?_
  refine swp_seq ?_
  refine swp_seqJ h (fun j5 => ⟨19, [(3, .own 3), (6, vl ePlace aList), (7, vi (aList.length : Int)), (8, vi s3.1)], [(3, .deep 41 5 j5.length [.flat, .flat, .flat, .flat, (.sl 95 5 [.flat, .flat, .flat, .flat, .flat])] (j5.map ePlace))]⟩) (fun v6 h => ?_) (fun j5 h => ?_)
  refine swp_blk (a := v6) ?_
  refine sr ?_
  obtain ⟨x7, hx7, h⟩ := bind_some h
  refine SRun.ls (x_index (L := aList) (f := ePlace) (ti := ti24) (tj := ti41) (e := 41) (k := .i64) tbok rfl hx7) ?_
  refine ckn tbok 3 ⟨19, [(3, .own 3), (5, .ref 5 0), (6, vl ePlace aList), (7, vi (aList.length : Int)), (8, vi s3.1)], [(3, .deep 41 5 s3.2.length [.flat, .flat, .flat, .flat, (.sl 95 5 [.flat, .flat, .flat, .flat, .flat])] (s3.2.map ePlace)), (5, .box (tc ePlace x7))]⟩ ?_
  refine swp_reg ?_
  refine SRun.ck tbok 2 ⟨19, [(6, vl ePlace aList), (7, vi (aList.length : Int)), (8, vi s3.1), (12, .own 3), (13, .agg (tc ePlace x7))], [(3, .deep 41 5 s3.2.length [.flat, .flat, .flat, .flat, (.sl 95 5 [.flat, .flat, .flat, .flat, .flat])] (s3.2.map ePlace))]⟩ ?_
  obtain ⟨x8, hx8, h⟩ := bind_some h
  refine SRun.ls (xc ents54 (impl_Place_clone_run x7 _ hx8)) ?_
  refine SRun.estep (x_build_deep (ti := ti24) (tj := ti41) (e := 41) (m := 5) (zs := [.string (ByteArray.mk #[]), .int .i64 0, .int .i64 0, .int .i64 0, .slice none 0 0]) (v := .agg [vs x8.Code, vi x8.Class, vi x8.Years.From, vi x8.Years.To, .own 14]) (cs := [vs x8.Code, vi x8.Class, vi x8.Years.From, vi x8.Years.To, .own 14]) (ss := [.flat, .flat, .flat, .flat, (.sl 95 5 [.flat, .flat, .flat, .flat, .flat])]) (ts := [.str x8.Code, .int .i64 x8.Class, .int .i64 x8.Years.From, .int .i64 x8.Years.To, .sl x8.Names.length (x8.Names.map eName)]) (ds := [14]) tbok rfl rfl rfl (.cons _ _ _ [] _ _ _ _ (.flat (.str x8.Code) rfl) (.cons _ _ _ [] _ _ _ _ (.flat (.int .i64 x8.Class) rfl) (.cons _ _ _ [] _ _ _ _ (.flat (.int .i64 x8.Years.From) rfl) (.cons _ _ _ [] _ _ _ _ (.flat (.int .i64 x8.Years.To) rfl) (.cons _ _ _ [14] _ _ _ _ (cD_arr (d := 14) (e := 95) (m := 5) (n := x8.Names.length) (es := x8.Names.map eName) (ss := [.flat, .flat, .flat, .flat, .flat]) (flat_map eName_flat _)) .nil (by decide)) (by decide)) (by decide)) (by decide)) (by decide))) ?_
  obtain ⟨x9, hx9, h⟩ := bind_some h
  refine SRun.estep (x_append_deep (f := ePlace) (L := s3.2) (M := ([x8] : List Place)) (t := 24) (ti := ti24) (tj := ti41) (zs := [.string (ByteArray.mk #[]), .int .i64 0, .int .i64 0, .int .i64 0, .slice none 0 0]) (e := 41) (m := 5) (d := 3) (dx := 15) (ss := [.flat, .flat, .flat, .flat, (.sl 95 5 [.flat, .flat, .flat, .flat, .flat])]) hx9 tbok rfl rfl rfl rfl) ?_
  refine SRun.ck tbok 1 ⟨19, [(3, .own 16), (6, vl ePlace aList), (7, vi (aList.length : Int)), (8, vi s3.1)], [(16, .deep 41 5 x9.length [.flat, .flat, .flat, .flat, (.sl 95 5 [.flat, .flat, .flat, .flat, .flat])] (x9.map ePlace))]⟩ ?_
  refine SRun.nil ?_
  obtain rfl := inj h
  exact q_bn (q_j (Le.rr [16] [(16, 3)]))
  refine swp_reg ?_
  refine SRun.ck tbok 2 ⟨19, [(3, .own 3), (6, vl ePlace aList), (7, vi (aList.length : Int)), (8, vi (w64 (s3.1 + 1)))], [(3, .deep 41 5 j5.length [.flat, .flat, .flat, .flat, (.sl 95 5 [.flat, .flat, .flat, .flat, .flat])] (j5.map ePlace))]⟩ ?_
  refine SRun.nil ?_
  obtain rfl := inj h
  exact q_l (Le.sub0)
  refine swp_exit ?_
  obtain rfl := inj h
  exact nx_e (q_re (q_bh (q_j (Le.sub0))))
  refine srk tbok ⟨19, [(2, .own 3)], [(3, .deep 41 5 j1.length [.flat, .flat, .flat, .flat, (.sl 95 5 [.flat, .flat, .flat, .flat, .flat])] (j1.map ePlace))]⟩ ?_
  refine swp_ret ?_
  obtain rfl := inj h
  exact q_fr (f1 (finD (d := 3) (holds_t (by kernel_rfl)) (by kernel_rfl) (by kernel_rfl)))
theorem ents45 : Ents Tryz.prog 45 := ents_of Tryz.func45 (by kernel_rfl) rfl

theorem ents53 : Ents Tryz.prog 53 := ents_of Tryz.func53 (by kernel_rfl) rfl
noncomputable def impl_AddPlace (aList : (List Place)) (aP : Place) : Option ((List Place) × Int) :=
  ((((impl_IsRegister aList).bind fun x1 => (bif (!x1) then some true else ((impl_IsPlace aP).bind fun x2 => some (!x2))))).bind fun (j3 : Bool) => (bif j3 then some (([] : List Place), 1) else ((impl_findPlace aList aP.Code).bind fun x5 => (bif (x5.2 || ((aList.length : Int) == 10)) then some (([] : List Place), 5) else ((impl_cloneRegister aList).bind fun x6 => ((impl_Place_clone aP).bind fun x7 => ((slices_Insert_Place x6 x5.1 ([x7] : List Place)).bind fun x8 => some (x8, 0))))))))
theorem impl_AddPlace_run (aList : (List Place)) (aP : Place) (r : (List Place) × Int) (h : impl_AddPlace aList aP = some r) : SCall Tryz.prog 16 [.v (vl ePlace aList), .v (.agg (tc ePlace aP))] ⟨[.deep 41 5 r.1.length [.flat, .flat, .flat, .flat, (.sl 95 5 [.flat, .flat, .flat, .flat, .flat])] (r.1.map ePlace), .v (vi r.2)], [], false⟩ := by
  refine scall_in Tryz.func16 rfl [(.tmp 4), (.tmp 5)] rfl (fun r => ⟨[.deep 41 5 r.1.length [.flat, .flat, .flat, .flat, (.sl 95 5 [.flat, .flat, .flat, .flat, .flat])] (r.1.map ePlace), .v (vi r.2)], [], false⟩) (r := r) ?_
  unfold impl_AddPlace at h
  refine sr ?_
  refine SRun.ck tbok 2 ⟨36, [(4, .own 4), (3, .ref 3 0), (0, vl ePlace aList), (1, .agg (tc ePlace aP))], [(4, oa 41 5 ePlace ([] : List Place)), (3, .box (tc ePlace aP))]⟩ ?_
  refine SRun.le (Le.deep0 (d := 4) (e := 41) (m := 5) (ss := [.flat, .flat, .flat, .flat, (.sl 95 5 [.flat, .flat, .flat, .flat, .flat])]) (by kernel_rfl) (by kernel_rfl)) ?_
  refine ckn tbok 1 ⟨36, [(0, vl ePlace aList), (3, .ref 3 0)], [(3, .box (tc ePlace aP))]⟩ ?_
  refine swp_seq ?_
  refine swp_seq ?_
  refine swp_regJ h (fun j3 => ⟨36, [(0, vl ePlace aList), (3, .ref 3 0), (15, vb j3)], [(3, .box (tc ePlace aP))]⟩) (fun v4 h => ?_) (fun j3 h => ?_)
  refine SRun.ck tbok 1 ⟨36, [(0, vl ePlace aList), (3, .ref 3 0), (8, vl ePlace aList)], [(3, .box (tc ePlace aP))]⟩ ?_
  obtain ⟨x1, hx1, h⟩ := bind_some h
  refine SRun.ls (xc ents29 (impl_IsRegister_run aList _ hx1)) ?_
  refine SRun.ck tbok 2 ⟨36, [(0, vl ePlace aList), (3, .ref 3 0), (11, vb (!x1))], [(3, .box (tc ePlace aP))]⟩ ?_
  refine SRun.cu [(11, fun b => b)] h (fun h => ?_) fun h => ?_
  refine SRun.ck tbok 4 ⟨36, [(0, vl ePlace aList), (3, .ref 3 0), (15, vb true)], [(3, .box (tc ePlace aP))]⟩ ?_
  refine SRun.nil ?_
  obtain rfl := inj h
  exact Le.sub0
  refine SRun.ck tbok 1 ⟨36, [(0, vl ePlace aList), (3, .ref 3 0), (11, vb false), (12, .agg (tc ePlace aP))], [(3, .box (tc ePlace aP))]⟩ ?_
  obtain ⟨x2, hx2, h⟩ := bind_some h
  refine SRun.ls (xc ents31 (impl_IsPlace_run aP _ hx2)) ?_
  refine SRun.ck tbok 2 ⟨36, [(0, vl ePlace aList), (3, .ref 3 0), (15, vb (!x2))], [(3, .box (tc ePlace aP))]⟩ ?_
  refine SRun.nil ?_
  obtain rfl := inj h
  exact Le.sub0
  refine swp_cd h (fun h => ?_) fun h => ?_
  refine sr ?_
  refine SRun.ck tbok 1 ⟨36, [(4, .own 4), (0, vl ePlace aList), (3, .ref 3 0), (15, vb j3)], [(4, oa 41 5 ePlace ([] : List Place)), (3, .box (tc ePlace aP))]⟩ ?_
  refine SRun.le (Le.deep0 (d := 4) (e := 41) (m := 5) (ss := [.flat, .flat, .flat, .flat, (.sl 95 5 [.flat, .flat, .flat, .flat, .flat])]) (by kernel_rfl) (by kernel_rfl)) ?_
  refine ckn tbok 1 ⟨36, [(4, .own 4), (5, vi 1)], [(4, .deep 41 5 ([] : List Place).length [.flat, .flat, .flat, .flat, (.sl 95 5 [.flat, .flat, .flat, .flat, .flat])] (([] : List Place).map ePlace))]⟩ ?_
  refine swp_ret ?_
  obtain rfl := inj h
  exact nx_r (q_fr (f2 (finD (d := 4) (holds_t (by kernel_rfl)) (by kernel_rfl) (by kernel_rfl)) fv))
  refine swp_skip ?_
  refine nx_n ?_
  refine sr ?_
  refine SRun.ck tbok 3 ⟨36, [(0, vl ePlace aList), (3, .ref 3 0), (17, vl ePlace aList), (19, vs aP.Code)], [(3, .box (tc ePlace aP))]⟩ ?_
  obtain ⟨x5, hx5, h⟩ := bind_some h
  refine SRun.ls (xc ents43 (impl_findPlace_run aList aP.Code _ hx5)) ?_
  refine ckn tbok 5 ⟨36, [(0, vl ePlace aList), (3, .ref 3 0), (6, vi x5.1), (7, vb x5.2)], [(3, .box (tc ePlace aP))]⟩ ?_
  refine swp_seq ?_
  refine swp_seq ?_
  refine swp_regP ⟨36, [(0, vl ePlace aList), (3, .ref 3 0), (6, vi x5.1), (28, vb (x5.2 || ((aList.length : Int) == 10)))], [(3, .box (tc ePlace aP))]⟩ ?_ ?_
  refine SRun.ck tbok 2 ⟨36, [(0, vl ePlace aList), (3, .ref 3 0), (6, vi x5.1), (24, vb x5.2)], [(3, .box (tc ePlace aP))]⟩ ?_
  generalize x5.2 = bb
  cases bb
  refine SRun.ck tbok 4 ⟨36, [(0, vl ePlace aList), (3, .ref 3 0), (6, vi x5.1), (28, vb ((aList.length : Int) == 10))], [(3, .box (tc ePlace aP))]⟩ ?_
  exact SRun.nil (Le.sub0)
  refine SRun.ck tbok 4 ⟨36, [(0, vl ePlace aList), (3, .ref 3 0), (6, vi x5.1), (28, vb true)], [(3, .box (tc ePlace aP))]⟩ ?_
  exact SRun.nil (Le.sub0)
  refine swp_cd h (fun h => ?_) fun h => ?_
  refine sr ?_
  refine SRun.ck tbok 1 ⟨36, [(4, .own 4), (0, vl ePlace aList), (3, .ref 3 0), (6, vi x5.1), (28, vb (x5.2 || ((aList.length : Int) == 10)))], [(4, oa 41 5 ePlace ([] : List Place)), (3, .box (tc ePlace aP))]⟩ ?_
  refine SRun.le (Le.deep0 (d := 4) (e := 41) (m := 5) (ss := [.flat, .flat, .flat, .flat, (.sl 95 5 [.flat, .flat, .flat, .flat, .flat])]) (by kernel_rfl) (by kernel_rfl)) ?_
  refine ckn tbok 1 ⟨36, [(4, .own 4), (5, vi 5)], [(4, .deep 41 5 ([] : List Place).length [.flat, .flat, .flat, .flat, (.sl 95 5 [.flat, .flat, .flat, .flat, .flat])] (([] : List Place).map ePlace))]⟩ ?_
  refine swp_ret ?_
  obtain rfl := inj h
  exact nx_r (q_fr (f2 (finD (d := 4) (holds_t (by kernel_rfl)) (by kernel_rfl) (by kernel_rfl)) fv))
  refine swp_skip ?_
  refine nx_n ?_
  refine swp_seq ?_
  obtain ⟨x6, hx6, h⟩ := bind_some h
  obtain ⟨x7, hx7, h⟩ := bind_some h
  obtain ⟨x8, hx8, h⟩ := bind_some h
  refine swp_dr mixed ?_
  refine DGo.enum (σE := ⟨36, [(4, .own 35), (5, vi 0)], [(35, .deep 41 5 x8.length [.flat, .flat, .flat, .flat, (.sl 95 5 [.flat, .flat, .flat, .flat, .flat])] (x8.map ePlace))]⟩) (n := 9) (L0 := #[false, false, false, false, false, false, false, false, false]) (by kernel_rfl) (by kernel_rfl) (fun K hk => ?_) ?_
  refine DE.share (fuel := 0) (L := #[true, true, true, true, true, true, true, true, true]) (σ := ⟨36, [(4, .own 35), (5, vi 0)], [(35, .deep 41 5 x8.length [.flat, .flat, .flat, .flat, (.sl 95 5 [.flat, .flat, .flat, .flat, .flat])] (x8.map ePlace))]⟩) ?_ (fun d10 => ?_)
  exact DE.done (by kernel_rfl) hk
  refine DE.share (fuel := 1) (L := #[true, true, true, true, true, true, true, true, false]) (σ := ⟨36, [(4, .own 35)], [(35, .deep 41 5 x8.length [.flat, .flat, .flat, .flat, (.sl 95 5 [.flat, .flat, .flat, .flat, .flat])] (x8.map ePlace))]⟩) ?_ (fun d9 => ?_)
  exact DE.take (i := 8) (L' := #[true, true, true, true, true, true, true, true, true]) rfl (.inr rfl) rfl (by kernel_rfl) (by kernel_rfl) (by kernel_rfl) (EStep.le (EStep.ofN2 tbok (σ' := ⟨36, [(5, vi 0), (4, .own 35)], [(35, .deep 41 5 x8.length [.flat, .flat, .flat, .flat, (.sl 95 5 [.flat, .flat, .flat, .flat, .flat])] (x8.map ePlace))]⟩) (by kernel_rfl)) Le.sub0) (by kernel_rfl) d10
  refine DE.share (fuel := 2) (L := #[true, true, true, true, true, true, true, false, false]) (σ := ⟨36, [(35, .own 35)], [(35, .deep 41 5 x8.length [.flat, .flat, .flat, .flat, (.sl 95 5 [.flat, .flat, .flat, .flat, .flat])] (x8.map ePlace))]⟩) ?_ (fun d8 => ?_)
  exact DE.take (i := 7) (L' := #[true, true, true, true, true, true, true, true, false]) rfl (.inr rfl) rfl (by kernel_rfl) (by kernel_rfl) (by kernel_rfl) (EStep.le (EStep.ofN2 tbok (σ' := ⟨36, [(4, .own 35), (35, .own 35)], [(35, .deep 41 5 x8.length [.flat, .flat, .flat, .flat, (.sl 95 5 [.flat, .flat, .flat, .flat, .flat])] (x8.map ePlace))]⟩) (by kernel_rfl)) Le.sub0) (by kernel_rfl) d9
  refine DE.share (fuel := 3) (L := #[true, true, true, true, true, true, false, false, false]) (σ := ⟨36, [(30, .own 30), (31, vi x5.1), (34, .own 34)], [(30, .deep 41 5 x6.length [.flat, .flat, .flat, .flat, (.sl 95 5 [.flat, .flat, .flat, .flat, .flat])] (x6.map ePlace)), (34, .deep 41 5 ([x7] : List Place).length [.flat, .flat, .flat, .flat, (.sl 95 5 [.flat, .flat, .flat, .flat, .flat])] (([x7] : List Place).map ePlace))]⟩) ?_ (fun d7 => ?_)
  exact DE.all [6] (by kernel_rfl) (by simp) (List.forall_mem_cons.2 ⟨DEs.mk (i := 6) (L' := #[true, true, true, true, true, true, true, false, false]) rfl (EStep.le (x_ins (f := ePlace) (L := x6) (M := ([x7] : List Place)) (i := x5.1) (d := 30) (dx := 34) (ss := [.flat, .flat, .flat, .flat, (.sl 95 5 [.flat, .flat, .flat, .flat, .flat])]) hx8 ents53 insert_place rfl rfl rfl) Le.sub0) (by kernel_rfl) d8, (fun _ h => absurd h List.not_mem_nil)⟩)
  refine DE.share (fuel := 4) (L := #[true, true, true, true, true, false, false, false, false]) (σ := ⟨36, [(30, .own 30), (31, vi x5.1), (33, .agg [vs x7.Code, vi x7.Class, vi x7.Years.From, vi x7.Years.To, .own 33])], [(30, .deep 41 5 x6.length [.flat, .flat, .flat, .flat, (.sl 95 5 [.flat, .flat, .flat, .flat, .flat])] (x6.map ePlace)), (33, oa 95 5 eName x7.Names)]⟩) ?_ (fun d6 => ?_)
  exact DE.all [5] (by kernel_rfl) (by simp) (List.forall_mem_cons.2 ⟨DEs.mk (i := 5) (L' := #[true, true, true, true, true, true, false, false, false]) rfl (EStep.le (x_build_deep (ti := ti24) (tj := ti41) (e := 41) (m := 5) (zs := [.string (ByteArray.mk #[]), .int .i64 0, .int .i64 0, .int .i64 0, .slice none 0 0]) (v := .agg [vs x7.Code, vi x7.Class, vi x7.Years.From, vi x7.Years.To, .own 33]) (cs := [vs x7.Code, vi x7.Class, vi x7.Years.From, vi x7.Years.To, .own 33]) (ss := [.flat, .flat, .flat, .flat, (.sl 95 5 [.flat, .flat, .flat, .flat, .flat])]) (ts := [.str x7.Code, .int .i64 x7.Class, .int .i64 x7.Years.From, .int .i64 x7.Years.To, .sl x7.Names.length (x7.Names.map eName)]) (ds := [33]) tbok rfl rfl rfl (.cons _ _ _ [] _ _ _ _ (.flat (.str x7.Code) rfl) (.cons _ _ _ [] _ _ _ _ (.flat (.int .i64 x7.Class) rfl) (.cons _ _ _ [] _ _ _ _ (.flat (.int .i64 x7.Years.From) rfl) (.cons _ _ _ [] _ _ _ _ (.flat (.int .i64 x7.Years.To) rfl) (.cons _ _ _ [33] _ _ _ _ (cD_arr (d := 33) (e := 95) (m := 5) (n := x7.Names.length) (es := x7.Names.map eName) (ss := [.flat, .flat, .flat, .flat, .flat]) (flat_map eName_flat _)) .nil (by decide)) (by decide)) (by decide)) (by decide)) (by decide))) Le.sub0) (by kernel_rfl) d7, (fun _ h => absurd h List.not_mem_nil)⟩)
  refine DE.share (fuel := 5) (L := #[true, true, true, true, false, false, false, false, false]) (σ := ⟨36, [(30, .own 30), (31, vi x5.1), (32, .agg (tc ePlace aP))], [(30, .deep 41 5 x6.length [.flat, .flat, .flat, .flat, (.sl 95 5 [.flat, .flat, .flat, .flat, .flat])] (x6.map ePlace))]⟩) ?_ (fun d5 => ?_)
  exact DE.all [4] (by kernel_rfl) (by simp) (List.forall_mem_cons.2 ⟨DEs.mk (i := 4) (L' := #[true, true, true, true, true, false, false, false, false]) rfl (EStep.le (EStep.ofL (xc ents54 (impl_Place_clone_run aP _ hx7)) (by kernel_rfl)) Le.sub0) (by kernel_rfl) d6, (fun _ h => absurd h List.not_mem_nil)⟩)
  refine DE.share (fuel := 6) (L := #[true, false, true, true, false, false, false, false, false]) (σ := ⟨36, [(29, vl ePlace aList), (31, vi x5.1), (32, .agg (tc ePlace aP))], []⟩) ?_ (fun d4 => ?_)
  exact DE.all [1] (by kernel_rfl) (by simp) (List.forall_mem_cons.2 ⟨DEs.mk (i := 1) (L' := #[true, true, true, true, false, false, false, false, false]) rfl (EStep.le (EStep.ofL (xc ents45 (impl_cloneRegister_run aList _ hx6)) (by kernel_rfl)) Le.sub0) (by kernel_rfl) d5, (fun _ h => absurd h List.not_mem_nil)⟩)
  refine DE.share (fuel := 6) (L := #[true, true, true, false, false, false, false, false, false]) (σ := ⟨36, [(3, .ref 3 0), (30, .own 30), (31, vi x5.1)], [(3, .box (tc ePlace aP)), (30, .deep 41 5 x6.length [.flat, .flat, .flat, .flat, (.sl 95 5 [.flat, .flat, .flat, .flat, .flat])] (x6.map ePlace))]⟩) ?_ (fun d3 => ?_)
  exact DE.all [3] (by kernel_rfl) (by simp) (List.forall_mem_cons.2 ⟨DEs.mk (i := 3) (L' := #[true, true, true, true, false, false, false, false, false]) rfl (EStep.le (EStep.ofN2 tbok (σ' := ⟨36, [(32, .agg (tc ePlace aP)), (3, .ref 3 0), (30, .own 30), (31, vi x5.1)], [(3, .box (tc ePlace aP)), (30, .deep 41 5 x6.length [.flat, .flat, .flat, .flat, (.sl 95 5 [.flat, .flat, .flat, .flat, .flat])] (x6.map ePlace))]⟩) (by kernel_rfl)) Le.sub0) (by kernel_rfl) d5, (fun _ h => absurd h List.not_mem_nil)⟩)
  refine DE.share (fuel := 7) (L := #[true, false, true, false, false, false, false, false, false]) (σ := ⟨36, [(3, .ref 3 0), (29, vl ePlace aList), (31, vi x5.1)], [(3, .box (tc ePlace aP))]⟩) ?_ (fun d2 => ?_)
  exact DE.all [1, 3] (by kernel_rfl) (by simp) (List.forall_mem_cons.2 ⟨DEs.mk (i := 1) (L' := #[true, true, true, false, false, false, false, false, false]) rfl (EStep.le (EStep.ofL (xc ents45 (impl_cloneRegister_run aList _ hx6)) (by kernel_rfl)) Le.sub0) (by kernel_rfl) d3, (List.forall_mem_cons.2 ⟨DEs.mk (i := 3) (L' := #[true, false, true, true, false, false, false, false, false]) rfl (EStep.le (EStep.ofN2 tbok (σ' := ⟨36, [(32, .agg (tc ePlace aP)), (3, .ref 3 0), (29, vl ePlace aList), (31, vi x5.1)], [(3, .box (tc ePlace aP))]⟩) (by kernel_rfl)) Le.sub0) (by kernel_rfl) d4, (fun _ h => absurd h List.not_mem_nil)⟩)⟩)
  refine DE.share (fuel := 8) (L := #[true, false, false, false, false, false, false, false, false]) (σ := ⟨36, [(3, .ref 3 0), (6, vi x5.1), (29, vl ePlace aList)], [(3, .box (tc ePlace aP))]⟩) ?_ (fun d1 => ?_)
  exact DE.take (i := 2) (L' := #[true, false, true, false, false, false, false, false, false]) rfl (.inl rfl) rfl (by kernel_rfl) (by kernel_rfl) (by kernel_rfl) (EStep.le (EStep.ofN2 tbok (σ' := ⟨36, [(31, vi x5.1), (3, .ref 3 0), (6, vi x5.1), (29, vl ePlace aList)], [(3, .box (tc ePlace aP))]⟩) (by kernel_rfl)) Le.sub0) (by kernel_rfl) d2
  exact DE.take (i := 0) (L' := #[true, false, false, false, false, false, false, false, false]) rfl (.inl rfl) rfl (by kernel_rfl) (by kernel_rfl) (by kernel_rfl) (EStep.le (EStep.ofN2 tbok (σ' := ⟨36, [(29, vl ePlace aList), (0, vl ePlace aList), (3, .ref 3 0), (6, vi x5.1), (28, vb (x5.2 || ((aList.length : Int) == 10)))], [(3, .box (tc ePlace aP))]⟩) (by kernel_rfl)) Le.sub0) (by kernel_rfl) d1
  refine nx_n ?_
  refine swp_ret ?_
  obtain rfl := inj h
  exact q_fr (f2 (finD (d := 35) (holds_t (by kernel_rfl)) (by kernel_rfl) (by kernel_rfl)) fv)
theorem ents16 : Ents Tryz.prog 16 := ents_of Tryz.func16 (by kernel_rfl) rfl
end Go.Proofs.YtpohkmbkohjahaaGreatDoor.Sh
