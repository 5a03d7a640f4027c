/- Typed functions and the calls that do what they say. -/
import Derived.Test.YtppehghiiahabaaGreatDoorSB
import Derived.Test.YtppehghiiahabaaGreatDoorFB
import Derived.Test.YtppehghiiahabaaGreatDoorKA
import Derived.Test.YtppehghiiahabaaGreatDoorKQ
import Derived.Test.YtppehghiiahabaaGreatDoorKS
import Derived.Test.YtppehghiiahabaaGreatDoorH1
namespace Go.Proofs.YtppehghiiahabaaGreatDoor.Sh
open Go.RowKit
set_option maxRecDepth 100000
set_option maxHeartbeats 4000000
structure Span where
  From : Int
  To : Int
def eSpan (x : Span) : List Tr := [.int .i64 x.From, .int .i64 x.To]
structure Claim where
  Source : ByteArray
  Kind : Int
  Place : ByteArray
  Value : ByteArray
  Years : Span
  Weight : Int
def eClaim (x : Claim) : List Tr := [.str x.Source, .int .i64 x.Kind, .str x.Place, .str x.Value, .int .i64 x.Years.From, .int .i64 x.Years.To, .int .i64 x.Weight]
theorem eClaim_flat (x : Claim) : ∀ t ∈ eClaim x, t.flat = true := by simp [eClaim, Tr.flat]
def ti2 : TI := ⟨1, 8, .int .i64, [.int .i64 0]⟩
def ti3 : TI := ⟨1, 8, .int .i64, [.int .i64 0]⟩
def ti4 : TI := ⟨1, 1, .bool, [.bool false]⟩
def ti5 : TI := ⟨1, 1, .int .u8, [.int .u8 0]⟩
def ti9 : TI := ⟨1, 16, .str, [.str (ByteArray.mk #[])]⟩
def ti24 : TI := ⟨1, 24, .slice 42, [.sl ([] : List Claim).length (([] : List Claim).map eClaim)]⟩
def ti26 : TI := ⟨1, 24, .slice 2, [.sl ([] : List Int).length (([] : List Int).map (eI .i64))]⟩
def ti35 : TI := ⟨1, 24, .slice 26, [.sl ([] : List (List Int)).length (([] : List (List Int)).map (eL (eI .i64)))]⟩
def ti40 : TI := ⟨2, 16, .struct [(0, 2), (1, 2)], [.int .i64 0, .int .i64 0]⟩
def ti42 : TI := ⟨7, 80, .struct [(0, 9), (1, 2), (2, 9), (3, 9), (4, 40), (6, 2)], [.str (ByteArray.mk #[]), .int .i64 0, .str (ByteArray.mk #[]), .str (ByteArray.mk #[]), .int .i64 0, .int .i64 0, .int .i64 0]⟩
def ti45 : TI := ⟨1, 24, .slice 76, [.sl ([] : List Claim).length (([] : List Claim).map eClaim)]⟩
def ti52 : TI := ⟨1, 24, .slice 9, [.sl ([] : List ByteArray).length (([] : List ByteArray).map eS)]⟩
def ti74 : TI := ⟨2, 16, .struct [(0, 2), (1, 2)], [.int .i64 0, .int .i64 0]⟩
def ti76 : TI := ⟨7, 80, .struct [(0, 9), (1, 2), (2, 9), (3, 9), (4, 74), (6, 2)], [.str (ByteArray.mk #[]), .int .i64 0, .str (ByteArray.mk #[]), .str (ByteArray.mk #[]), .int .i64 0, .int .i64 0, .int .i64 0]⟩
def ti101 : TI := ⟨1, 24, .slice 4, [.sl ([] : List Bool).length (([] : List Bool).map eB)]⟩
def ti126 : TI := ⟨1, 24, .slice 3, [.sl ([] : List Int).length (([] : List Int).map (eI .i64))]⟩
def tbl : Tb := [(2, ti2), (3, ti3), (4, ti4), (5, ti5), (9, ti9), (24, ti24), (26, ti26), (35, ti35), (40, ti40), (42, ti42), (45, ti45), (52, ti52), (74, ti74), (76, ti76), (101, ti101), (126, ti126)]
theorem tbok : TbOk Tryz.prog tbl := TbOk.cons ⟨by kernel_rfl, show Tryz.prog.underlying 2 = some (.int .i64) from by kernel_rfl⟩ (TbOk.cons ⟨by kernel_rfl, show Tryz.prog.underlying 3 = some (.int .i64) from by kernel_rfl⟩ (TbOk.cons ⟨by kernel_rfl, show Tryz.prog.underlying 4 = some (.bool) from by kernel_rfl⟩ (TbOk.cons ⟨by kernel_rfl, show Tryz.prog.underlying 5 = some (.int .u8) from by kernel_rfl⟩ (TbOk.cons ⟨by kernel_rfl, show Tryz.prog.underlying 9 = some (.string) from by kernel_rfl⟩ (TbOk.cons ⟨by kernel_rfl, show Tryz.prog.underlying 24 = some (.slice 42) from by kernel_rfl⟩ (TbOk.cons ⟨by kernel_rfl, show Tryz.prog.underlying 26 = some (.slice 2) from by kernel_rfl⟩ (TbOk.cons ⟨by kernel_rfl, show Tryz.prog.underlying 35 = some (.slice 26) from by kernel_rfl⟩ (TbOk.cons ⟨by kernel_rfl, show structOf Tryz.prog 40 = some [(0, 2), (1, 2)] from by kernel_rfl⟩ (TbOk.cons ⟨by kernel_rfl, show structOf Tryz.prog 42 = some [(0, 9), (1, 2), (2, 9), (3, 9), (4, 40), (6, 2)] from by kernel_rfl⟩ (TbOk.cons ⟨by kernel_rfl, show Tryz.prog.underlying 45 = some (.slice 76) from by kernel_rfl⟩ (TbOk.cons ⟨by kernel_rfl, show Tryz.prog.underlying 52 = some (.slice 9) from by kernel_rfl⟩ (TbOk.cons ⟨by kernel_rfl, show structOf Tryz.prog 74 = some [(0, 2), (1, 2)] from by kernel_rfl⟩ (TbOk.cons ⟨by kernel_rfl, show structOf Tryz.prog 76 = some [(0, 9), (1, 2), (2, 9), (3, 9), (4, 74), (6, 2)] from by kernel_rfl⟩ (TbOk.cons ⟨by kernel_rfl, show Tryz.prog.underlying 101 = some (.slice 4) from by kernel_rfl⟩ (TbOk.cons ⟨by kernel_rfl, show Tryz.prog.underlying 126 = some (.slice 3) from by kernel_rfl⟩ (TbOk.nil _))))))))))))))))
theorem mixed : Tryz.prog.follows .mixedOrders = true := by kernel_rfl
noncomputable def spec_l01In (aN : Int) (aLow : Int) (aHigh : Int) : Option (Bool) :=
  some ((decide (aN ≥ aLow)) && (decide (aN ≤ aHigh)))
theorem spec_l01In_run (aN : Int) (aLow : Int) (aHigh : Int) (r : Bool) (h : spec_l01In aN aLow aHigh = some r) : SCall Tryz.prog 110 [.v (vi aN), .v (vi aLow), .v (vi aHigh)] ⟨[.v (vb r)], [], false⟩ := by
  refine scall_in Tryz.func110 rfl [(.tmp 6)] rfl (fun r => ⟨[.v (vb r)], [], false⟩) (r := r) ?_
  unfold spec_l01In at h
  refine srk tbok ⟨15, [(0, vi aN), (1, vi aLow), (2, vi aHigh)], []⟩ ?_
  refine swp_seq ?_
  refine swp_regP ⟨15, [(6, vb ((decide (aN ≥ aLow)) && (decide (aN ≤ aHigh))))], []⟩ ?_ ?_
  refine SRun.ck tbok 4 ⟨15, [(0, vi aN), (2, vi aHigh), (10, vb (decide (aN ≥ aLow)))], []⟩ ?_
  generalize (decide (aN ≥ aLow)) = bb
  cases bb
  refine SRun.ck tbok 5 ⟨15, [(6, vb false)], []⟩ ?_
  exact SRun.nil (Le.sub0)
  refine SRun.ck tbok 5 ⟨15, [(6, vb (decide (aN ≤ aHigh)))], []⟩ ?_
  exact SRun.nil (Le.sub0)
  refine swp_ret ?_
  obtain rfl := inj h
  exact q_fr (f1 fv)
theorem ents110 : Ents Tryz.prog 110 := ents_of Tryz.func110 (by kernel_rfl) rfl
noncomputable def spec_IsWord (aS : ByteArray) : Option (Bool) :=
  (((forN (aS.size : Int) (fun (i3 : Int) (_ : Unit) => ((((byte' aS i3).bind fun x7 => (bif (decide (x7 < 97)) then some true else ((byte' aS i3).bind fun x8 => some (decide (x8 > 122)))))).bind fun (j9 : Bool) => (bif j9 then some (.inr (.inr false)) else some (.inl ())))) (fun (_ : Unit) => .inl ()) 0 ())).bind (Sum.elim (fun (_ : Unit) => ((spec_l01In (aS.size : Int) 1 16).bind fun x11 => some x11)) some))
theorem spec_IsWord_run (aS : ByteArray) (r : Bool) (h : spec_IsWord aS = some r) : SCall Tryz.prog 93 [.v (vs aS)] ⟨[.v (vb r)], [], false⟩ := by
  refine scall_in Tryz.func93 rfl [(.tmp 2)] rfl (fun r => ⟨[.v (vb r)], [], false⟩) (r := r) ?_
  unfold spec_IsWord at h
  refine srk tbok ⟨23, [(0, vs aS)], []⟩ ?_
  refine swp_seq ?_
  refine srk tbok ⟨23, [(0, vs aS), (3, vi 0)], []⟩ ?_
  refine swp_seqE (r := r) h (fun j1 => ⟨23, [(0, vs aS)], []⟩) (fun v2 h => ?_) (fun j1 h => ?_)
  refine swp_blk (a := v2) ?_
  refine swp_lpL (r := v2) (s := (0, ())) _ (fun s3 => ⟨23, [(0, vs aS), (3, vi s3.1)], []⟩) _ (Le.sub0) h (fun s3 v4 h => ?_)
  refine swp_seq ?_
  refine srk tbok ⟨23, [(0, vs aS), (3, vi s3.1), (7, vb (decide (s3.1 < (aS.size : Int))))], []⟩ ?_
  refine swp_cd h (fun h => ?_) fun h => ?_
  refine swp_skip ?_
  refine nx_n ?_
  refine swp_seq ?_
  refine swp_seqL (r := v4) h (fun j5 => ⟨23, [(0, vs aS), (3, vi s3.1)], []⟩) (fun v6 h => ?_) (fun j5 h => ?_)
  refine swp_blk (a := v6) ?_
  refine swp_seq ?_
  refine swp_regJ h (fun j9 => ⟨23, [(0, vs aS), (3, vi s3.1), (19, vb j9)], []⟩) (fun v10 h => ?_) (fun j9 h => ?_)
  refine SRun.ck tbok 2 ⟨23, [(0, vs aS), (3, vi s3.1), (10, vs aS), (11, vi s3.1)], []⟩ ?_
  obtain ⟨x7, hx7, h⟩ := bind_some h
  refine SRun.ls (x_byte (ti := ti9) (k := .i64) hx7 tbok rfl) ?_
  refine SRun.ck tbok 2 ⟨23, [(0, vs aS), (3, vi s3.1), (14, vb (decide (x7 < 97)))], []⟩ ?_
  refine SRun.cu [(14, fun b => b)] h (fun h => ?_) fun h => ?_
  refine SRun.ck tbok 5 ⟨23, [(0, vs aS), (3, vi s3.1), (19, vb true)], []⟩ ?_
  refine SRun.nil ?_
  obtain rfl := inj h
  exact Le.sub0
  refine SRun.ck tbok 2 ⟨23, [(0, vs aS), (3, vi s3.1), (14, vb false), (15, vs aS), (16, vi s3.1)], []⟩ ?_
  obtain ⟨x8, hx8, h⟩ := bind_some h
  refine SRun.ls (x_byte (ti := ti9) (k := .i64) hx8 tbok rfl) ?_
  refine SRun.ck tbok 2 ⟨23, [(0, vs aS), (3, vi s3.1), (19, vb (decide (x8 > 122)))], []⟩ ?_
  refine SRun.nil ?_
  obtain rfl := inj h
  exact Le.sub0
  refine swp_cd h (fun h => ?_) fun h => ?_
  refine srk tbok ⟨23, [(2, vb false)], []⟩ ?_
  refine swp_ret ?_
  obtain rfl := inj h
  exact q_br (q_rr (q_rr (q_br (q_rr (q_fr (f1 fv))))))
  refine swp_skip ?_
  obtain rfl := inj h
  exact q_bn (q_l (Le.sub0))
  refine swp_reg ?_
  refine SRun.ck tbok 3 ⟨23, [(0, vs aS), (3, vi (w64 (s3.1 + 1)))], []⟩ ?_
  refine SRun.nil ?_
  obtain rfl := inj h
  exact q_l (Le.sub0)
  refine swp_exit ?_
  obtain rfl := inj h
  exact nx_e (q_re (q_bh (q_l (Le.sub0))))
  refine sr ?_
  refine SRun.ck tbok 2 ⟨23, [(21, vi (aS.size : Int))], []⟩ ?_
  obtain ⟨x11, hx11, h⟩ := bind_some h
  refine SRun.ls (xc ents110 (spec_l01In_run (aS.size : Int) 1 16 _ hx11)) ?_
  refine ckn tbok 1 ⟨23, [(2, vb x11)], []⟩ ?_
  refine swp_ret ?_
  obtain rfl := inj h
  exact q_fr (f1 fv)
theorem ents93 : Ents Tryz.prog 93 := ents_of Tryz.func93 (by kernel_rfl) rfl
noncomputable def spec_l02Year (aN : Int) : Option (Bool) :=
  ((spec_l01In aN (-3000) 3000).bind fun x1 => some x1)
theorem spec_l02Year_run (aN : Int) (r : Bool) (h : spec_l02Year aN = some r) : SCall Tryz.prog 94 [.v (vi aN)] ⟨[.v (vb r)], [], false⟩ := by
  refine scall_in Tryz.func94 rfl [(.tmp 2)] rfl (fun r => ⟨[.v (vb r)], [], false⟩) (r := r) ?_
  unfold spec_l02Year at h
  refine srk tbok ⟨5, [(0, vi aN)], []⟩ ?_
  refine sr ?_
  refine SRun.ck tbok 1 ⟨5, [(3, vi aN)], []⟩ ?_
  obtain ⟨x1, hx1, h⟩ := bind_some h
  refine SRun.ls (xc ents110 (spec_l01In_run aN (-3000) 3000 _ hx1)) ?_
  refine ckn tbok 1 ⟨5, [(2, vb x1)], []⟩ ?_
  refine swp_ret ?_
  obtain rfl := inj h
  exact q_fr (f1 fv)
theorem ents94 : Ents Tryz.prog 94 := ents_of Tryz.func94 (by kernel_rfl) rfl
noncomputable def spec_IsSpan (aS : Span) : Option (Bool) :=
  ((((spec_l02Year aS.From).bind fun x1 => (bif x1 then ((spec_l02Year aS.To).bind fun x2 => (bif x2 then some (decide (aS.From ≤ aS.To)) else some false)) else some false))).bind fun (j3 : Bool) => some j3)
theorem spec_IsSpan_run (aS : Span) (r : Bool) (h : spec_IsSpan aS = some r) : SCall Tryz.prog 113 [.v (.agg (tc eSpan aS))] ⟨[.v (vb r)], [], false⟩ := by
  refine scall_in Tryz.func113 rfl [(.tmp 2)] rfl (fun r => ⟨[.v (vb r)], [], false⟩) (r := r) ?_
  unfold spec_IsSpan at h
  refine srk tbok ⟨18, [(1, .ref 1 0)], [(1, .box (tc eSpan aS))]⟩ ?_
  refine swp_seq ?_
  refine swp_regJ h (fun j3 => ⟨18, [(2, vb j3)], []⟩) (fun v4 h => ?_) (fun j3 h => ?_)
  refine SRun.ck tbok 2 ⟨18, [(1, .ref 1 0), (4, vi aS.From)], [(1, .box (tc eSpan aS))]⟩ ?_
  obtain ⟨x1, hx1, h⟩ := bind_some h
  refine SRun.ls (xc ents94 (spec_l02Year_run aS.From _ hx1)) ?_
  refine SRun.ck tbok 1 ⟨18, [(1, .ref 1 0), (6, vb x1)], [(1, .box (tc eSpan aS))]⟩ ?_
  refine SRun.cu [(6, fun b => b)] h (fun h => ?_) fun h => ?_
  refine SRun.ck tbok 2 ⟨18, [(1, .ref 1 0), (6, vb true), (8, vi aS.To)], [(1, .box (tc eSpan aS))]⟩ ?_
  obtain ⟨x2, hx2, h⟩ := bind_some h
  refine SRun.ls (xc ents94 (spec_l02Year_run aS.To _ hx2)) ?_
  refine SRun.ck tbok 2 ⟨18, [(1, .ref 1 0), (11, vb x2)], [(1, .box (tc eSpan aS))]⟩ ?_
  refine SRun.cu [(11, fun b => b)] h (fun h => ?_) fun h => ?_
  refine SRun.ck tbok 7 ⟨18, [(2, vb (decide (aS.From ≤ aS.To)))], []⟩ ?_
  refine SRun.nil ?_
  obtain rfl := inj h
  exact Le.sub0
  refine SRun.ck tbok 7 ⟨18, [(2, vb false)], []⟩ ?_
  refine SRun.nil ?_
  obtain rfl := inj h
  exact Le.sub0
  refine SRun.ck tbok 12 ⟨18, [(2, vb false)], []⟩ ?_
  refine SRun.nil ?_
  obtain rfl := inj h
  exact Le.sub0
  refine swp_ret ?_
  obtain rfl := inj h
  exact q_fr (f1 fv)
theorem ents113 : Ents Tryz.prog 113 := ents_of Tryz.func113 (by kernel_rfl) rfl
noncomputable def spec_l01Split (aS : ByteArray) (aBy : Int) : Option ((List ByteArray)) :=
  (((forH (fun (i3 : Int) (_ : Int × (List ByteArray)) => (decide (i3 ≤ (aS.size : Int)))) (fun (i3 : Int) (s3 : Int × (List ByteArray)) => (((bif (i3 == (aS.size : Int)) then some true else ((byte' aS i3).bind fun x7 => some (x7 == aBy)))).bind fun (j8 : Bool) => (bif j8 then ((sub' aS s3.1 i3).bind fun x10 => ((app' s3.2 ([x10] : List ByteArray)).bind fun x11 => some ((w64 (i3 + 1)), x11))) else some (s3.1, s3.2)))) (fun (s3 : Int × (List ByteArray)) => s3.2) 0 (0, ([] : List ByteArray)))).bind fun (j1 : (List ByteArray)) => some j1)
theorem spec_l01Split_run (aS : ByteArray) (aBy : Int) (r : (List ByteArray)) (h : spec_l01Split aS aBy = some r) : SCall Tryz.prog 178 [.v (vs aS), .v (.tr (.int .u8 aBy))] ⟨[.own 9 1 r.length (r.map eS)], [], false⟩ := by
  refine scall_in Tryz.func178 rfl [(.tmp 4)] rfl (fun r => ⟨[.own 9 1 r.length (r.map eS)], [], false⟩) (r := r) ?_
  unfold spec_l01Split at h
  refine srk tbok ⟨36, [(0, vs aS), (1, .tr (.int .u8 aBy))], []⟩ ?_
  refine srk tbok ⟨36, [(0, vs aS), (1, .tr (.int .u8 aBy)), (5, .own 8)], [(8, oa 9 1 eS ([] : List ByteArray))]⟩ ?_
  refine srk tbok ⟨36, [(0, vs aS), (1, .tr (.int .u8 aBy)), (5, .own 8), (6, vi 0)], [(8, oa 9 1 eS ([] : List ByteArray))]⟩ ?_
  refine swp_seq ?_
  refine srk tbok ⟨36, [(0, vs aS), (1, .tr (.int .u8 aBy)), (5, .own 8), (6, vi 0), (7, vi 0)], [(8, oa 9 1 eS ([] : List ByteArray))]⟩ ?_
  refine swp_seqJ h (fun j1 => ⟨36, [(5, .own 5)], [(5, oa 9 1 eS j1)]⟩) (fun v2 h => ?_) (fun j1 h => ?_)
  refine swp_blk (a := v2) ?_
  refine swp_lpL (r := v2) (s := (0, 0, ([] : List ByteArray))) _ (fun s3 => ⟨36, [(0, vs aS), (1, .tr (.int .u8 aBy)), (5, .own 5), (6, vi s3.2.1), (7, vi s3.1)], [(5, oa 9 1 eS s3.2.2)]⟩) _ (Le.rr [8] [(8, 5)]) h (fun s3 v4 h => ?_)
  refine swp_seq ?_
  refine srk tbok ⟨36, [(0, vs aS), (1, .tr (.int .u8 aBy)), (5, .own 5), (6, vi s3.2.1), (7, vi s3.1), (12, vb (decide (s3.1 ≤ (aS.size : Int))))], [(5, oa 9 1 eS s3.2.2)]⟩ ?_
  refine swp_cd h (fun h => ?_) fun h => ?_
  refine swp_skip ?_
  refine nx_n ?_
  refine swp_seq ?_
  refine swp_seqJ h (fun j5 => ⟨36, [(0, vs aS), (1, .tr (.int .u8 aBy)), (5, .own 5), (6, vi j5.1), (7, vi s3.1)], [(5, oa 9 1 eS j5.2)]⟩) (fun v6 h => ?_) (fun j5 h => ?_)
  refine swp_blk (a := v6) ?_
  refine swp_seq ?_
  refine swp_regJ h (fun j8 => ⟨36, [(0, vs aS), (1, .tr (.int .u8 aBy)), (5, .own 5), (6, vi s3.2.1), (7, vi s3.1), (25, vb j8)], [(5, oa 9 1 eS s3.2.2)]⟩) (fun v9 h => ?_) (fun j8 h => ?_)
  refine SRun.ck tbok 5 ⟨36, [(0, vs aS), (1, .tr (.int .u8 aBy)), (5, .own 5), (6, vi s3.2.1), (7, vi s3.1), (19, vb (s3.1 == (aS.size : Int)))], [(5, oa 9 1 eS s3.2.2)]⟩ ?_
  refine SRun.cu [(19, fun b => b)] h (fun h => ?_) fun h => ?_
  refine SRun.ck tbok 6 ⟨36, [(0, vs aS), (1, .tr (.int .u8 aBy)), (5, .own 5), (6, vi s3.2.1), (7, vi s3.1), (25, vb true)], [(5, oa 9 1 eS s3.2.2)]⟩ ?_
  refine SRun.nil ?_
  obtain rfl := inj h
  exact Le.sub0
  refine SRun.ck tbok 2 ⟨36, [(0, vs aS), (1, .tr (.int .u8 aBy)), (5, .own 5), (6, vi s3.2.1), (7, vi s3.1), (19, vb false), (20, vs aS), (21, vi s3.1)], [(5, oa 9 1 eS s3.2.2)]⟩ ?_
  obtain ⟨x7, hx7, h⟩ := bind_some h
  refine SRun.ls (x_byte (ti := ti9) (k := .i64) hx7 tbok rfl) ?_
  refine SRun.ck tbok 3 ⟨36, [(0, vs aS), (1, .tr (.int .u8 aBy)), (5, .own 5), (6, vi s3.2.1), (7, vi s3.1), (25, vb (x7 == aBy))], [(5, oa 9 1 eS s3.2.2)]⟩ ?_
  refine SRun.nil ?_
  obtain rfl := inj h
  exact Le.sub0
  refine swp_cd h (fun h => ?_) fun h => ?_
  refine sr ?_
  refine SRun.ck tbok 4 ⟨36, [(0, vs aS), (1, .tr (.int .u8 aBy)), (7, vi s3.1), (26, .own 5), (27, vs aS), (28, vi s3.2.1), (29, vi s3.1)], [(5, oa 9 1 eS s3.2.2)]⟩ ?_
  obtain ⟨x10, hx10, h⟩ := bind_some h
  refine SRun.ls (x_sub (ti := ti9) hx10 tbok rfl) ?_
  refine SRun.ck tbok 1 ⟨36, [(0, vs aS), (1, .tr (.int .u8 aBy)), (7, vi s3.1), (26, .own 5), (31, .own 31)], [(5, oa 9 1 eS s3.2.2), (31, oa 9 1 eS ([x10] : List ByteArray))]⟩ ?_
  obtain ⟨x11, hx11, h⟩ := bind_some h
  refine SRun.estep (x_append (f := eS) (t := 52) (ti := ti52) (tj := ti9) (zs := [.string (ByteArray.mk #[])]) (e := 9) (m := 1) (d := 5) (xv := .own 31) hx11 tbok rfl rfl rfl rfl (x_src_o (e := 9))) ?_
  refine ckn tbok 1 ⟨36, [(0, vs aS), (1, .tr (.int .u8 aBy)), (5, .own 32), (7, vi s3.1)], [(32, oa 9 1 eS x11)]⟩ ?_
  refine swp_reg ?_
  refine SRun.ck tbok 3 ⟨36, [(0, vs aS), (1, .tr (.int .u8 aBy)), (5, .own 32), (6, vi (w64 (s3.1 + 1))), (7, vi s3.1)], [(32, oa 9 1 eS x11)]⟩ ?_
  refine SRun.nil ?_
  obtain rfl := inj h
  exact q_bn (q_j (Le.rr [32] [(32, 5)]))
  refine swp_skip ?_
  obtain rfl := inj h
  exact q_bn (q_j (Le.sub0))
  refine swp_reg ?_
  refine SRun.ck tbok 3 ⟨36, [(0, vs aS), (1, .tr (.int .u8 aBy)), (5, .own 5), (6, vi j5.1), (7, vi (w64 (s3.1 + 1)))], [(5, oa 9 1 eS j5.2)]⟩ ?_
  refine SRun.nil ?_
  obtain rfl := inj h
  exact q_l (Le.sub0)
  refine swp_exit ?_
  obtain rfl := inj h
  exact nx_e (q_re (q_bh (q_j (Le.sub0))))
  refine srk tbok ⟨36, [(4, .own 5)], [(5, oa 9 1 eS j1)]⟩ ?_
  refine swp_ret ?_
  obtain rfl := inj h
  exact q_fr (f1 (fo eS_flat))
theorem ents178 : Ents Tryz.prog 178 := ents_of Tryz.func178 (by kernel_rfl) rfl
noncomputable def spec_l01Phrase (aS : ByteArray) : Option ((List ByteArray) × Bool) :=
  ((spec_l01Split aS 32).bind fun x1 => (((forN (x1.length : Int) (fun (i4 : Int) (_ : Unit) => ((at' x1 i4).bind fun x8 => ((spec_IsWord x8).bind fun x9 => (bif (!x9) then some (.inr (.inr (([] : List ByteArray), false))) else some (.inl ()))))) (fun (_ : Unit) => .inl ()) 0 ())).bind (Sum.elim (fun (_ : Unit) => some (x1, (decide ((x1.length : Int) ≤ 8)))) some)))
theorem spec_l01Phrase_run (aS : ByteArray) (r : (List ByteArray) × Bool) (h : spec_l01Phrase aS = some r) : SCall Tryz.prog 146 [.v (vs aS)] ⟨[.own 9 1 r.1.length (r.1.map eS), .v (vb r.2)], [], false⟩ := by
  refine scall_in Tryz.func146 rfl [(.tmp 2), (.tmp 3)] rfl (fun r => ⟨[.own 9 1 r.1.length (r.1.map eS), .v (vb r.2)], [], false⟩) (r := r) ?_
  unfold spec_l01Phrase at h
  refine srk tbok ⟨24, [(0, vs aS)], []⟩ ?_
  refine sr ?_
  refine SRun.ck tbok 1 ⟨24, [(6, vs aS)], []⟩ ?_
  obtain ⟨x1, hx1, h⟩ := bind_some h
  refine SRun.ls (xc ents178 (spec_l01Split_run aS 32 _ hx1)) ?_
  refine ckn tbok 1 ⟨24, [(4, .own 7)], [(7, oa 9 1 eS x1)]⟩ ?_
  refine swp_seq ?_
  refine srk tbok ⟨24, [(4, .own 7), (5, vi 0)], [(7, oa 9 1 eS x1)]⟩ ?_
  refine swp_seqE (r := r) h (fun j2 => ⟨24, [(4, .own 4)], [(4, oa 9 1 eS x1)]⟩) (fun v3 h => ?_) (fun j2 h => ?_)
  refine swp_blk (a := v3) ?_
  refine swp_lpL (r := v3) (s := (0, ())) _ (fun s4 => ⟨24, [(4, .own 4), (5, vi s4.1)], [(4, oa 9 1 eS x1)]⟩) _ (Le.rr [7] [(7, 4)]) h (fun s4 v5 h => ?_)
  refine swp_seq ?_
  refine srk tbok ⟨24, [(4, .own 4), (5, vi s4.1), (11, vb (decide (s4.1 < (x1.length : Int))))], [(4, oa 9 1 eS x1)]⟩ ?_
  refine swp_cd h (fun h => ?_) fun h => ?_
  refine swp_skip ?_
  refine nx_n ?_
  refine swp_seq ?_
  refine swp_seqL (r := v5) h (fun j6 => ⟨24, [(4, .own 4), (5, vi s4.1)], [(4, oa 9 1 eS x1)]⟩) (fun v7 h => ?_) (fun j6 h => ?_)
  refine swp_blk (a := v7) ?_
  refine sr ?_
  refine SRun.ck tbok 2 ⟨24, [(4, .own 4), (5, vi s4.1), (14, .own 4), (15, vi s4.1)], [(4, oa 9 1 eS x1)]⟩ ?_
  obtain ⟨x8, hx8, h⟩ := bind_some h
  refine SRun.ls (x_index_own (d := 4) (L := x1) (f := eS) (ti := ti52) (tj := ti9) (e := 9) (e' := 9) (m := 1) (k := .i64) tbok rfl hx8) ?_
  refine SRun.ls (x_load_own (d := 4) (m := 1) (j := 0) (L := x1) (f := eS) (ti := ti9) (e := 9) (v := vs x8) tbok rfl hx8) ?_
  obtain ⟨x9, hx9, h⟩ := bind_some h
  refine SRun.ls (xc ents93 (spec_IsWord_run x8 _ hx9)) ?_
  refine ckn tbok 1 ⟨24, [(4, .own 4), (5, vi s4.1), (19, vb (!x9))], [(4, oa 9 1 eS x1)]⟩ ?_
  refine swp_cd h (fun h => ?_) fun h => ?_
  refine srk tbok ⟨24, [(2, .own 2), (3, vb false)], [(2, oa 9 1 eS ([] : List ByteArray))]⟩ ?_
  refine swp_ret ?_
  obtain rfl := inj h
  exact q_br (q_rr (q_rr (q_br (q_rr (q_fr (f2 (fo eS_flat) fv))))))
  refine swp_skip ?_
  obtain rfl := inj h
  exact q_bn (q_l (Le.sub0))
  refine swp_reg ?_
  refine SRun.ck tbok 3 ⟨24, [(4, .own 4), (5, vi (w64 (s4.1 + 1)))], [(4, oa 9 1 eS x1)]⟩ ?_
  refine SRun.nil ?_
  obtain rfl := inj h
  exact q_l (Le.sub0)
  refine swp_exit ?_
  obtain rfl := inj h
  exact nx_e (q_re (q_bh (q_l (Le.sub0))))
  refine srk tbok ⟨24, [(2, .own 4), (3, vb (decide ((x1.length : Int) ≤ 8)))], [(4, oa 9 1 eS x1)]⟩ ?_
  refine swp_ret ?_
  obtain rfl := inj h
  exact q_fr (f2 (fo eS_flat) fv)
theorem ents146 : Ents Tryz.prog 146 := ents_of Tryz.func146 (by kernel_rfl) rfl
noncomputable def spec_IsPhrase (aS : ByteArray) : Option (Bool) :=
  ((spec_l01Phrase aS).bind fun x1 => some x1.2)
theorem spec_IsPhrase_run (aS : ByteArray) (r : Bool) (h : spec_IsPhrase aS = some r) : SCall Tryz.prog 114 [.v (vs aS)] ⟨[.v (vb r)], [], false⟩ := by
  refine scall_in Tryz.func114 rfl [(.tmp 2)] rfl (fun r => ⟨[.v (vb r)], [], false⟩) (r := r) ?_
  unfold spec_IsPhrase at h
  refine srk tbok ⟨11, [(0, vs aS)], []⟩ ?_
  refine sr ?_
  refine SRun.ck tbok 1 ⟨11, [(6, vs aS)], []⟩ ?_
  obtain ⟨x1, hx1, h⟩ := bind_some h
  refine SRun.ls (xc ents146 (spec_l01Phrase_run aS _ hx1)) ?_
  refine ckn tbok 5 ⟨11, [(4, vb x1.2)], []⟩ ?_
  refine srk tbok ⟨11, [(2, vb x1.2)], []⟩ ?_
  refine swp_ret ?_
  obtain rfl := inj h
  exact q_fr (f1 fv)
theorem ents114 : Ents Tryz.prog 114 := ents_of Tryz.func114 (by kernel_rfl) rfl
noncomputable def spec_IsClaim (aC : Claim) : Option (Bool) :=
  ((((spec_IsWord aC.Source).bind fun x1 => (bif (!x1) then some true else ((spec_IsWord aC.Place).bind fun x2 => (bif (!x2) then some true else ((spec_IsSpan aC.Years).bind fun x3 => (bif (!x3) then some true else ((spec_l01In aC.Weight 1 100).bind fun x4 => some (!x4))))))))).bind fun (j5 : Bool) => (bif j5 then some false else (((bif (aC.Kind == 0) then ((spec_IsPhrase aC.Value).bind fun x9 => some (.inr x9)) else (bif (aC.Kind == 1) then ((((spec_IsWord aC.Value).bind fun x10 => (bif x10 then some (!(aC.Value.toList == aC.Place.toList)) else some false))).bind fun (j11 : Bool) => some (.inr j11)) else (((bif (aC.Kind == 2) then some (aC.Kind == 2) else some (aC.Kind == 3))).bind fun (j13 : Bool) => (bif j13 then some (.inr (aC.Value.toList == (ByteArray.mk #[]).toList)) else some (.inl ())))))).bind (Sum.elim (fun (_ : Unit) => some false) some))))
theorem spec_IsClaim_run (aC : Claim) (r : Bool) (h : spec_IsClaim aC = some r) : SCall Tryz.prog 63 [.v (.agg (tc eClaim aC))] ⟨[.v (vb r)], [], false⟩ := by
  refine scall_in Tryz.func63 rfl [(.tmp 2)] rfl (fun r => ⟨[.v (vb r)], [], false⟩) (r := r) ?_
  unfold spec_IsClaim at h
  refine srk tbok ⟨50, [(1, .ref 1 0)], [(1, .box (tc eClaim aC))]⟩ ?_
  refine swp_seq ?_
  refine swp_seq ?_
  refine swp_regJ h (fun j5 => ⟨50, [(1, .ref 1 0), (24, vb j5)], [(1, .box (tc eClaim aC))]⟩) (fun v6 h => ?_) (fun j5 h => ?_)
  refine SRun.ck tbok 2 ⟨50, [(1, .ref 1 0), (4, vs aC.Source)], [(1, .box (tc eClaim aC))]⟩ ?_
  obtain ⟨x1, hx1, h⟩ := bind_some h
  refine SRun.ls (xc ents93 (spec_IsWord_run aC.Source _ hx1)) ?_
  refine SRun.ck tbok 2 ⟨50, [(1, .ref 1 0), (7, vb (!x1))], [(1, .box (tc eClaim aC))]⟩ ?_
  refine SRun.cu [(7, fun b => b)] h (fun h => ?_) fun h => ?_
  refine SRun.ck tbok 17 ⟨50, [(1, .ref 1 0), (24, vb true)], [(1, .box (tc eClaim aC))]⟩ ?_
  refine SRun.nil ?_
  obtain rfl := inj h
  exact Le.sub0
  refine SRun.ck tbok 2 ⟨50, [(1, .ref 1 0), (7, vb false), (9, vs aC.Place)], [(1, .box (tc eClaim aC))]⟩ ?_
  obtain ⟨x2, hx2, h⟩ := bind_some h
  refine SRun.ls (xc ents93 (spec_IsWord_run aC.Place _ hx2)) ?_
  refine SRun.ck tbok 3 ⟨50, [(1, .ref 1 0), (13, vb (!x2))], [(1, .box (tc eClaim aC))]⟩ ?_
  refine SRun.cu [(13, fun b => b)] h (fun h => ?_) fun h => ?_
  refine SRun.ck tbok 11 ⟨50, [(1, .ref 1 0), (24, vb true)], [(1, .box (tc eClaim aC))]⟩ ?_
  refine SRun.nil ?_
  obtain rfl := inj h
  exact Le.sub0
  refine SRun.ck tbok 2 ⟨50, [(1, .ref 1 0), (13, vb false), (15, .agg (tc eSpan aC.Years))], [(1, .box (tc eClaim aC))]⟩ ?_
  obtain ⟨x3, hx3, h⟩ := bind_some h
  refine SRun.ls (xc ents113 (spec_IsSpan_run aC.Years _ hx3)) ?_
  refine SRun.ck tbok 3 ⟨50, [(1, .ref 1 0), (19, vb (!x3))], [(1, .box (tc eClaim aC))]⟩ ?_
  refine SRun.cu [(19, fun b => b)] h (fun h => ?_) fun h => ?_
  refine SRun.ck tbok 5 ⟨50, [(1, .ref 1 0), (24, vb true)], [(1, .box (tc eClaim aC))]⟩ ?_
  refine SRun.nil ?_
  obtain rfl := inj h
  exact Le.sub0
  refine SRun.ck tbok 2 ⟨50, [(1, .ref 1 0), (19, vb false), (21, vi aC.Weight)], [(1, .box (tc eClaim aC))]⟩ ?_
  obtain ⟨x4, hx4, h⟩ := bind_some h
  refine SRun.ls (xc ents110 (spec_l01In_run aC.Weight 1 100 _ hx4)) ?_
  refine SRun.ck tbok 2 ⟨50, [(1, .ref 1 0), (24, vb (!x4))], [(1, .box (tc eClaim aC))]⟩ ?_
  refine SRun.nil ?_
  obtain rfl := inj h
  exact Le.sub0
  refine swp_cd h (fun h => ?_) fun h => ?_
  refine srk tbok ⟨50, [(2, vb false)], []⟩ ?_
  refine swp_ret ?_
  obtain rfl := inj h
  exact nx_r (q_fr (f1 fv))
  refine swp_skip ?_
  refine nx_n ?_
  refine swp_seq ?_
  refine srk tbok ⟨50, [(1, .ref 1 0), (26, vi aC.Kind)], [(1, .box (tc eClaim aC))]⟩ ?_
  refine swp_seqE (r := r) h (fun j7 => ⟨50, [], []⟩) (fun v8 h => ?_) (fun j7 h => ?_)
  refine swp_blk (a := v8) ?_
  refine srk tbok ⟨50, [(1, .ref 1 0), (26, vi aC.Kind), (27, vb (aC.Kind == 0))], [(1, .box (tc eClaim aC))]⟩ ?_
  refine swp_cd h (fun h => ?_) fun h => ?_
  refine sr ?_
  refine SRun.ck tbok 2 ⟨50, [(30, vs aC.Value)], []⟩ ?_
  obtain ⟨x9, hx9, h⟩ := bind_some h
  refine SRun.ls (xc ents114 (spec_IsPhrase_run aC.Value _ hx9)) ?_
  refine ckn tbok 1 ⟨50, [(2, vb x9)], []⟩ ?_
  refine swp_ret ?_
  obtain rfl := inj h
  exact q_br (q_rr (q_fr (f1 fv)))
  refine srk tbok ⟨50, [(1, .ref 1 0), (26, vi aC.Kind), (32, vb (aC.Kind == 1))], [(1, .box (tc eClaim aC))]⟩ ?_
  refine swp_cd h (fun h => ?_) fun h => ?_
  refine swp_seq ?_
  refine swp_regJ h (fun j11 => ⟨50, [(2, vb j11)], []⟩) (fun v12 h => ?_) (fun j11 h => ?_)
  refine SRun.ck tbok 2 ⟨50, [(1, .ref 1 0), (35, vs aC.Value)], [(1, .box (tc eClaim aC))]⟩ ?_
  obtain ⟨x10, hx10, h⟩ := bind_some h
  refine SRun.ls (xc ents93 (spec_IsWord_run aC.Value _ hx10)) ?_
  refine SRun.ck tbok 1 ⟨50, [(1, .ref 1 0), (37, vb x10)], [(1, .box (tc eClaim aC))]⟩ ?_
  refine SRun.cu [(37, fun b => b)] h (fun h => ?_) fun h => ?_
  refine SRun.ck tbok 7 ⟨50, [(2, vb (!(aC.Value.toList == aC.Place.toList)))], []⟩ ?_
  refine SRun.nil ?_
  obtain rfl := inj h
  exact Le.sub0
  refine SRun.ck tbok 7 ⟨50, [(2, vb false)], []⟩ ?_
  refine SRun.nil ?_
  obtain rfl := inj h
  exact Le.sub0
  refine swp_ret ?_
  obtain rfl := inj h
  exact q_br (q_rr (q_fr (f1 fv)))
  refine swp_seq ?_
  refine srk tbok ⟨50, [(1, .ref 1 0), (26, vi aC.Kind), (44, vb (aC.Kind == 2))], [(1, .box (tc eClaim aC))]⟩ ?_
  refine swp_seqJ h (fun j13 => ⟨50, [(1, .ref 1 0), (44, vb j13)], [(1, .box (tc eClaim aC))]⟩) (fun v14 h => ?_) (fun j13 h => ?_)
  refine swp_cd h (fun h => ?_) fun h => ?_
  refine swp_skip ?_
  obtain rfl := inj h
  exact q_j (Le.sub0)
  refine swp_reg ?_
  refine SRun.ck tbok 2 ⟨50, [(1, .ref 1 0), (44, vb (aC.Kind == 3))], [(1, .box (tc eClaim aC))]⟩ ?_
  refine SRun.nil ?_
  obtain rfl := inj h
  exact q_j (Le.sub0)
  refine swp_cd h (fun h => ?_) fun h => ?_
  refine srk tbok ⟨50, [(2, vb (aC.Value.toList == (ByteArray.mk #[]).toList))], []⟩ ?_
  refine swp_ret ?_
  obtain rfl := inj h
  exact q_br (q_rr (q_fr (f1 fv)))
  refine swp_skip ?_
  obtain rfl := inj h
  exact q_bn (q_l (Le.sub0))
  refine srk tbok ⟨50, [(2, vb false)], []⟩ ?_
  refine swp_ret ?_
  obtain rfl := inj h
  exact q_fr (f1 fv)
theorem ents63 : Ents Tryz.prog 63 := ents_of Tryz.func63 (by kernel_rfl) rfl
noncomputable def spec_AreClaims (aList : (List Claim)) : Option (Bool) :=
  (((forN (aList.length : Int) (fun (i3 : Int) (_ : Unit) => ((at' aList i3).bind fun x7 => ((spec_IsClaim x7).bind fun x8 => (bif (!x8) then some (.inr (.inr false)) else some (.inl ()))))) (fun (_ : Unit) => .inl ()) 0 ())).bind (Sum.elim (fun (_ : Unit) => some (decide ((aList.length : Int) ≤ 12))) some))
theorem spec_AreClaims_run (aList : (List Claim)) (r : Bool) (h : spec_AreClaims aList = some r) : SCall Tryz.prog 37 [.v (vl eClaim aList)] ⟨[.v (vb r)], [], false⟩ := by
  refine scall_in Tryz.func37 rfl [(.tmp 2)] rfl (fun r => ⟨[.v (vb r)], [], false⟩) (r := r) ?_
  unfold spec_AreClaims at h
  refine srk tbok ⟨19, [(0, vl eClaim aList)], []⟩ ?_
  refine swp_seq ?_
  refine srk tbok ⟨19, [(0, vl eClaim aList), (3, vi 0)], []⟩ ?_
  refine swp_seqE (r := r) h (fun j1 => ⟨19, [(0, vl eClaim aList)], []⟩) (fun v2 h => ?_) (fun j1 h => ?_)
  refine swp_blk (a := v2) ?_
  refine swp_lpL (r := v2) (s := (0, ())) _ (fun s3 => ⟨19, [(0, vl eClaim aList), (3, vi s3.1)], []⟩) _ (Le.sub0) h (fun s3 v4 h => ?_)
  refine swp_seq ?_
  refine srk tbok ⟨19, [(0, vl eClaim aList), (3, vi s3.1), (7, vb (decide (s3.1 < (aList.length : Int))))], []⟩ ?_
  refine swp_cd h (fun h => ?_) fun h => ?_
  refine swp_skip ?_
  refine nx_n ?_
  refine swp_seq ?_
  refine swp_seqL (r := v4) h (fun j5 => ⟨19, [(0, vl eClaim aList), (3, vi s3.1)], []⟩) (fun v6 h => ?_) (fun j5 h => ?_)
  refine swp_blk (a := v6) ?_
  refine sr ?_
  refine SRun.ck tbok 2 ⟨19, [(0, vl eClaim aList), (3, vi s3.1), (10, vl eClaim aList), (11, vi s3.1)], []⟩ ?_
  obtain ⟨x7, hx7, h⟩ := bind_some h
  refine SRun.ls (x_index (L := aList) (f := eClaim) (ti := ti24) (tj := ti42) (e := 42) (k := .i64) tbok rfl hx7) ?_
  refine SRun.ck tbok 1 ⟨19, [(0, vl eClaim aList), (3, vi s3.1), (13, .agg (tc eClaim x7))], []⟩ ?_
  obtain ⟨x8, hx8, h⟩ := bind_some h
  refine SRun.ls (xc ents63 (spec_IsClaim_run x7 _ hx8)) ?_
  refine ckn tbok 1 ⟨19, [(0, vl eClaim aList), (3, vi s3.1), (15, vb (!x8))], []⟩ ?_
  refine swp_cd h (fun h => ?_) fun h => ?_
  refine srk tbok ⟨19, [(2, vb false)], []⟩ ?_
  refine swp_ret ?_
  obtain rfl := inj h
  exact q_br (q_rr (q_rr (q_br (q_rr (q_fr (f1 fv))))))
  refine swp_skip ?_
  obtain rfl := inj h
  exact q_bn (q_l (Le.sub0))
  refine swp_reg ?_
  refine SRun.ck tbok 3 ⟨19, [(0, vl eClaim aList), (3, vi (w64 (s3.1 + 1)))], []⟩ ?_
  refine SRun.nil ?_
  obtain rfl := inj h
  exact q_l (Le.sub0)
  refine swp_exit ?_
  obtain rfl := inj h
  exact nx_e (q_re (q_bh (q_l (Le.sub0))))
  refine srk tbok ⟨19, [(2, vb (decide ((aList.length : Int) ≤ 12)))], []⟩ ?_
  refine swp_ret ?_
  obtain rfl := inj h
  exact q_fr (f1 fv)
theorem ents37 : Ents Tryz.prog 37 := ents_of Tryz.func37 (by kernel_rfl) rfl
noncomputable def spec_l21Code (aList : (List Claim)) (aPlace : ByteArray) (aYear : Int) : Option (Int) :=
  ((((spec_AreClaims aList).bind fun x1 => (bif (!x1) then some true else ((spec_IsWord aPlace).bind fun x2 => some (!x2))))).bind fun (j3 : Bool) => (bif j3 then some 1 else ((spec_l02Year aYear).bind fun x5 => (bif (!x5) then some 2 else some 0))))
theorem spec_l21Code_run (aList : (List Claim)) (aPlace : ByteArray) (aYear : Int) (r : Int) (h : spec_l21Code aList aPlace aYear = some r) : SCall Tryz.prog 47 [.v (vl eClaim aList), .v (vs aPlace), .v (vi aYear)] ⟨[.v (vi r)], [], false⟩ := by
  refine scall_in Tryz.func47 rfl [(.tmp 6)] rfl (fun r => ⟨[.v (vi r)], [], false⟩) (r := r) ?_
  unfold spec_l21Code at h
  refine srk tbok ⟨18, [(0, vl eClaim aList), (1, vs aPlace), (2, vi aYear)], []⟩ ?_
  refine swp_seq ?_
  refine swp_seq ?_
  refine swp_regJ h (fun j3 => ⟨18, [(2, vi aYear), (14, vb j3)], []⟩) (fun v4 h => ?_) (fun j3 h => ?_)
  refine SRun.ck tbok 1 ⟨18, [(1, vs aPlace), (2, vi aYear), (7, vl eClaim aList)], []⟩ ?_
  obtain ⟨x1, hx1, h⟩ := bind_some h
  refine SRun.ls (xc ents37 (spec_AreClaims_run aList _ hx1)) ?_
  refine SRun.ck tbok 2 ⟨18, [(1, vs aPlace), (2, vi aYear), (10, vb (!x1))], []⟩ ?_
  refine SRun.cu [(10, fun b => b)] h (fun h => ?_) fun h => ?_
  refine SRun.ck tbok 4 ⟨18, [(2, vi aYear), (14, vb true)], []⟩ ?_
  refine SRun.nil ?_
  obtain rfl := inj h
  exact Le.sub0
  refine SRun.ck tbok 1 ⟨18, [(2, vi aYear), (10, vb false), (11, vs aPlace)], []⟩ ?_
  obtain ⟨x2, hx2, h⟩ := bind_some h
  refine SRun.ls (xc ents93 (spec_IsWord_run aPlace _ hx2)) ?_
  refine SRun.ck tbok 2 ⟨18, [(2, vi aYear), (14, vb (!x2))], []⟩ ?_
  refine SRun.nil ?_
  obtain rfl := inj h
  exact Le.sub0
  refine swp_cd h (fun h => ?_) fun h => ?_
  refine srk tbok ⟨18, [(6, vi 1)], []⟩ ?_
  refine swp_ret ?_
  obtain rfl := inj h
  exact nx_r (q_fr (f1 fv))
  refine swp_skip ?_
  refine nx_n ?_
  refine swp_seq ?_
  refine sr ?_
  refine SRun.ck tbok 1 ⟨18, [(15, vi aYear)], []⟩ ?_
  obtain ⟨x5, hx5, h⟩ := bind_some h
  refine SRun.ls (xc ents94 (spec_l02Year_run aYear _ hx5)) ?_
  refine ckn tbok 1 ⟨18, [(17, vb (!x5))], []⟩ ?_
  refine swp_cd h (fun h => ?_) fun h => ?_
  refine srk tbok ⟨18, [(6, vi 2)], []⟩ ?_
  refine swp_ret ?_
  obtain rfl := inj h
  exact nx_r (q_fr (f1 fv))
  refine swp_skip ?_
  refine nx_n ?_
  refine srk tbok ⟨18, [(6, vi 0)], []⟩ ?_
  refine swp_ret ?_
  obtain rfl := inj h
  exact q_fr (f1 fv)
theorem ents47 : Ents Tryz.prog 47 := ents_of Tryz.func47 (by kernel_rfl) rfl
noncomputable def spec_l01Has (aList : (List Int)) (aX : Int) : Option (Bool) :=
  (((forN (aList.length : Int) (fun (i3 : Int) (_ : Unit) => ((at' aList i3).bind fun x7 => (bif (x7 == aX) then some (.inr (.inr true)) else some (.inl ())))) (fun (_ : Unit) => .inl ()) 0 ())).bind (Sum.elim (fun (_ : Unit) => some false) some))
theorem spec_l01Has_run (aList : (List Int)) (aX : Int) (r : Bool) (h : spec_l01Has aList aX = some r) : SCall Tryz.prog 139 [.v (vl (eI .i64) aList), .v (vi aX)] ⟨[.v (vb r)], [], false⟩ := by
  refine scall_in Tryz.func139 rfl [(.tmp 4)] rfl (fun r => ⟨[.v (vb r)], [], false⟩) (r := r) ?_
  unfold spec_l01Has at h
  refine srk tbok ⟨18, [(0, vl (eI .i64) aList), (1, vi aX)], []⟩ ?_
  refine swp_seq ?_
  refine srk tbok ⟨18, [(0, vl (eI .i64) aList), (1, vi aX), (5, vi 0)], []⟩ ?_
  refine swp_seqE (r := r) h (fun j1 => ⟨18, [], []⟩) (fun v2 h => ?_) (fun j1 h => ?_)
  refine swp_blk (a := v2) ?_
  refine swp_lpL (r := v2) (s := (0, ())) _ (fun s3 => ⟨18, [(0, vl (eI .i64) aList), (1, vi aX), (5, vi s3.1)], []⟩) _ (Le.sub0) h (fun s3 v4 h => ?_)
  refine swp_seq ?_
  refine srk tbok ⟨18, [(0, vl (eI .i64) aList), (1, vi aX), (5, vi s3.1), (9, vb (decide (s3.1 < (aList.length : Int))))], []⟩ ?_
  refine swp_cd h (fun h => ?_) fun h => ?_
  refine swp_skip ?_
  refine nx_n ?_
  refine swp_seq ?_
  refine swp_seqL (r := v4) h (fun j5 => ⟨18, [(0, vl (eI .i64) aList), (1, vi aX), (5, vi s3.1)], []⟩) (fun v6 h => ?_) (fun j5 h => ?_)
  refine swp_blk (a := v6) ?_
  refine sr ?_
  refine SRun.ck tbok 2 ⟨18, [(0, vl (eI .i64) aList), (1, vi aX), (5, vi s3.1), (12, vl (eI .i64) aList), (13, vi s3.1)], []⟩ ?_
  obtain ⟨x7, hx7, h⟩ := bind_some h
  refine SRun.ls (x_index (L := aList) (f := (eI .i64)) (ti := ti26) (tj := ti2) (e := 2) (k := .i64) tbok rfl hx7) ?_
  refine ckn tbok 3 ⟨18, [(0, vl (eI .i64) aList), (1, vi aX), (5, vi s3.1), (17, vb (x7 == aX))], []⟩ ?_
  refine swp_cd h (fun h => ?_) fun h => ?_
  refine srk tbok ⟨18, [(4, vb true)], []⟩ ?_
  refine swp_ret ?_
  obtain rfl := inj h
  exact q_br (q_rr (q_rr (q_br (q_rr (q_fr (f1 fv))))))
  refine swp_skip ?_
  obtain rfl := inj h
  exact q_bn (q_l (Le.sub0))
  refine swp_reg ?_
  refine SRun.ck tbok 3 ⟨18, [(0, vl (eI .i64) aList), (1, vi aX), (5, vi (w64 (s3.1 + 1)))], []⟩ ?_
  refine SRun.nil ?_
  obtain rfl := inj h
  exact q_l (Le.sub0)
  refine swp_exit ?_
  obtain rfl := inj h
  exact nx_e (q_re (q_bh (q_l (Le.sub0))))
  refine srk tbok ⟨18, [(4, vb false)], []⟩ ?_
  refine swp_ret ?_
  obtain rfl := inj h
  exact q_fr (f1 fv)
theorem ents139 : Ents Tryz.prog 139 := ents_of Tryz.func139 (by kernel_rfl) rfl
noncomputable def spec_l22Rest (aList : (List Claim)) (aRemoved : (List Int)) : Option ((List Int)) :=
  (((forS (aList.length : Int) (fun (i3 : Int) (s3 : (List Int)) => ((spec_l01Has aRemoved i3).bind fun x7 => (bif (!x7) then ((app' s3 ([i3] : List Int)).bind fun x8 => some x8) else some s3))) (fun (s3 : (List Int)) => s3) 0 ([] : List Int))).bind fun (j1 : (List Int)) => some j1)
theorem spec_l22Rest_run (aList : (List Claim)) (aRemoved : (List Int)) (r : (List Int)) (h : spec_l22Rest aList aRemoved = some r) : SCall Tryz.prog 97 [.v (vl eClaim aList), .v (vl (eI .i64) aRemoved)] ⟨[.own 2 1 r.length (r.map (eI .i64))], [], false⟩ := by
  refine scall_in Tryz.func97 rfl [(.tmp 4)] rfl (fun r => ⟨[.own 2 1 r.length (r.map (eI .i64))], [], false⟩) (r := r) ?_
  unfold spec_l22Rest at h
  refine srk tbok ⟨23, [(0, vl eClaim aList), (1, vl (eI .i64) aRemoved)], []⟩ ?_
  refine srk tbok ⟨23, [(0, vl eClaim aList), (1, vl (eI .i64) aRemoved), (5, .own 7)], [(7, oa 2 1 (eI .i64) ([] : List Int))]⟩ ?_
  refine swp_seq ?_
  refine srk tbok ⟨23, [(0, vl eClaim aList), (1, vl (eI .i64) aRemoved), (5, .own 7), (6, vi 0)], [(7, oa 2 1 (eI .i64) ([] : List Int))]⟩ ?_
  refine swp_seqJ h (fun j1 => ⟨23, [(5, .own 5)], [(5, oa 2 1 (eI .i64) j1)]⟩) (fun v2 h => ?_) (fun j1 h => ?_)
  refine swp_blk (a := v2) ?_
  refine swp_lpL (r := v2) (s := (0, ([] : List Int))) _ (fun s3 => ⟨23, [(0, vl eClaim aList), (1, vl (eI .i64) aRemoved), (5, .own 5), (6, vi s3.1)], [(5, oa 2 1 (eI .i64) s3.2)]⟩) _ (Le.rr [7] [(7, 5)]) h (fun s3 v4 h => ?_)
  refine swp_seq ?_
  refine srk tbok ⟨23, [(0, vl eClaim aList), (1, vl (eI .i64) aRemoved), (5, .own 5), (6, vi s3.1), (11, vb (decide (s3.1 < (aList.length : Int))))], [(5, oa 2 1 (eI .i64) s3.2)]⟩ ?_
  refine swp_cd h (fun h => ?_) fun h => ?_
  refine swp_skip ?_
  refine nx_n ?_
  refine swp_seq ?_
  refine swp_seqJ h (fun j5 => ⟨23, [(0, vl eClaim aList), (1, vl (eI .i64) aRemoved), (5, .own 5), (6, vi s3.1)], [(5, oa 2 1 (eI .i64) j5)]⟩) (fun v6 h => ?_) (fun j5 h => ?_)
  refine swp_blk (a := v6) ?_
  refine sr ?_
  refine SRun.ck tbok 2 ⟨23, [(0, vl eClaim aList), (1, vl (eI .i64) aRemoved), (5, .own 5), (6, vi s3.1), (14, vl (eI .i64) aRemoved), (15, vi s3.1)], [(5, oa 2 1 (eI .i64) s3.2)]⟩ ?_
  obtain ⟨x7, hx7, h⟩ := bind_some h
  refine SRun.ls (xc ents139 (spec_l01Has_run aRemoved s3.1 _ hx7)) ?_
  refine ckn tbok 1 ⟨23, [(0, vl eClaim aList), (1, vl (eI .i64) aRemoved), (5, .own 5), (6, vi s3.1), (17, vb (!x7))], [(5, oa 2 1 (eI .i64) s3.2)]⟩ ?_
  refine swp_cd h (fun h => ?_) fun h => ?_
  refine swp_reg ?_
  refine SRun.ck tbok 3 ⟨23, [(0, vl eClaim aList), (1, vl (eI .i64) aRemoved), (6, vi s3.1), (18, .own 5), (20, .own 20)], [(5, oa 2 1 (eI .i64) s3.2), (20, oa 2 1 (eI .i64) ([s3.1] : List Int))]⟩ ?_
  obtain ⟨x8, hx8, h⟩ := bind_some h
  refine SRun.estep (x_append (f := (eI .i64)) (t := 26) (ti := ti26) (tj := ti2) (zs := [.int .i64 0]) (e := 2) (m := 1) (d := 5) (xv := .own 20) hx8 tbok rfl rfl rfl rfl (x_src_o (e := 2))) ?_
  refine SRun.ck tbok 1 ⟨23, [(0, vl eClaim aList), (1, vl (eI .i64) aRemoved), (5, .own 21), (6, vi s3.1)], [(21, oa 2 1 (eI .i64) x8)]⟩ ?_
  refine SRun.nil ?_
  obtain rfl := inj h
  exact q_bn (q_j (Le.rr [21] [(21, 5)]))
  refine swp_skip ?_
  obtain rfl := inj h
  exact q_bn (q_j (Le.sub0))
  refine swp_reg ?_
  refine SRun.ck tbok 3 ⟨23, [(0, vl eClaim aList), (1, vl (eI .i64) aRemoved), (5, .own 5), (6, vi (w64 (s3.1 + 1)))], [(5, oa 2 1 (eI .i64) j5)]⟩ ?_
  refine SRun.nil ?_
  obtain rfl := inj h
  exact q_l (Le.sub0)
  refine swp_exit ?_
  obtain rfl := inj h
  exact nx_e (q_re (q_bh (q_j (Le.sub0))))
  refine srk tbok ⟨23, [(4, .own 5)], [(5, oa 2 1 (eI .i64) j1)]⟩ ?_
  refine swp_ret ?_
  obtain rfl := inj h
  exact q_fr (f1 (fo (eI_flat .i64)))
theorem ents97 : Ents Tryz.prog 97 := ents_of Tryz.func97 (by kernel_rfl) rfl
noncomputable def spec_l21Chosen (aList : (List Claim)) (aIndices : (List Int)) : Option ((List Claim)) :=
  (((forS (aIndices.length : Int) (fun (i3 : Int) (s3 : (List Claim)) => ((at' aIndices i3).bind fun x7 => ((at' aList x7).bind fun x8 => ((app' s3 ([x8] : List Claim)).bind fun x9 => some x9)))) (fun (s3 : (List Claim)) => s3) 0 ([] : List Claim))).bind fun (j1 : (List Claim)) => some j1)
theorem spec_l21Chosen_run (aList : (List Claim)) (aIndices : (List Int)) (r : (List Claim)) (h : spec_l21Chosen aList aIndices = some r) : SCall Tryz.prog 88 [.v (vl eClaim aList), .v (vl (eI .i64) aIndices)] ⟨[.own 42 7 r.length (r.map eClaim)], [], false⟩ := by
  refine scall_in Tryz.func88 rfl [(.tmp 4)] rfl (fun r => ⟨[.own 42 7 r.length (r.map eClaim)], [], false⟩) (r := r) ?_
  unfold spec_l21Chosen at h
  refine srk tbok ⟨25, [(0, vl eClaim aList), (1, vl (eI .i64) aIndices)], []⟩ ?_
  refine srk tbok ⟨25, [(0, vl eClaim aList), (1, vl (eI .i64) aIndices), (5, .own 7)], [(7, oa 42 7 eClaim ([] : List Claim))]⟩ ?_
  refine swp_seq ?_
  refine srk tbok ⟨25, [(0, vl eClaim aList), (1, vl (eI .i64) aIndices), (5, .own 7), (6, vi 0)], [(7, oa 42 7 eClaim ([] : List Claim))]⟩ ?_
  refine swp_seqJ h (fun j1 => ⟨25, [(5, .own 5)], [(5, oa 42 7 eClaim j1)]⟩) (fun v2 h => ?_) (fun j1 h => ?_)
  refine swp_blk (a := v2) ?_
  refine swp_lpL (r := v2) (s := (0, ([] : List Claim))) _ (fun s3 => ⟨25, [(0, vl eClaim aList), (1, vl (eI .i64) aIndices), (5, .own 5), (6, vi s3.1)], [(5, oa 42 7 eClaim s3.2)]⟩) _ (Le.rr [7] [(7, 5)]) h (fun s3 v4 h => ?_)
  refine swp_seq ?_
  refine srk tbok ⟨25, [(0, vl eClaim aList), (1, vl (eI .i64) aIndices), (5, .own 5), (6, vi s3.1), (11, vb (decide (s3.1 < (aIndices.length : Int))))], [(5, oa 42 7 eClaim s3.2)]⟩ ?_
  refine swp_cd h (fun h => ?_) fun h => ?_
  refine swp_skip ?_
  refine nx_n ?_
  refine swp_seq ?_
  refine swp_seqJ h (fun j5 => ⟨25, [(0, vl eClaim aList), (1, vl (eI .i64) aIndices), (5, .own 5), (6, vi s3.1)], [(5, oa 42 7 eClaim j5)]⟩) (fun v6 h => ?_) (fun j5 h => ?_)
  refine swp_blk (a := v6) ?_
  refine swp_reg ?_
  refine SRun.ck tbok 4 ⟨25, [(0, vl eClaim aList), (1, vl (eI .i64) aIndices), (6, vi s3.1), (14, .own 5), (15, vl eClaim aList), (16, vl (eI .i64) aIndices), (17, vi s3.1)], [(5, oa 42 7 eClaim s3.2)]⟩ ?_
  obtain ⟨x7, hx7, h⟩ := bind_some h
  refine SRun.ls (x_index (L := aIndices) (f := (eI .i64)) (ti := ti26) (tj := ti2) (e := 2) (k := .i64) tbok rfl hx7) ?_
  refine SRun.ck tbok 1 ⟨25, [(0, vl eClaim aList), (1, vl (eI .i64) aIndices), (6, vi s3.1), (14, .own 5), (15, vl eClaim aList), (19, vi x7)], [(5, oa 42 7 eClaim s3.2)]⟩ ?_
  obtain ⟨x8, hx8, h⟩ := bind_some h
  refine SRun.ls (x_index (L := aList) (f := eClaim) (ti := ti24) (tj := ti42) (e := 42) (k := .i64) tbok rfl hx8) ?_
  refine SRun.ck tbok 2 ⟨25, [(0, vl eClaim aList), (1, vl (eI .i64) aIndices), (6, vi s3.1), (14, .own 5), (22, .own 22)], [(5, oa 42 7 eClaim s3.2), (22, oa 42 7 eClaim ([x8] : List Claim))]⟩ ?_
  obtain ⟨x9, hx9, h⟩ := bind_some h
  refine SRun.estep (x_append (f := eClaim) (t := 24) (ti := ti24) (tj := ti42) (zs := [.string (ByteArray.mk #[]), .int .i64 0, .string (ByteArray.mk #[]), .string (ByteArray.mk #[]), .int .i64 0, .int .i64 0, .int .i64 0]) (e := 42) (m := 7) (d := 5) (xv := .own 22) hx9 tbok rfl rfl rfl rfl (x_src_o (e := 42))) ?_
  refine SRun.ck tbok 1 ⟨25, [(0, vl eClaim aList), (1, vl (eI .i64) aIndices), (5, .own 23), (6, vi s3.1)], [(23, oa 42 7 eClaim x9)]⟩ ?_
  refine SRun.nil ?_
  obtain rfl := inj h
  exact q_bn (q_j (Le.rr [23] [(23, 5)]))
  refine swp_reg ?_
  refine SRun.ck tbok 3 ⟨25, [(0, vl eClaim aList), (1, vl (eI .i64) aIndices), (5, .own 5), (6, vi (w64 (s3.1 + 1)))], [(5, oa 42 7 eClaim j5)]⟩ ?_
  refine SRun.nil ?_
  obtain rfl := inj h
  exact q_l (Le.sub0)
  refine swp_exit ?_
  obtain rfl := inj h
  exact nx_e (q_re (q_bh (q_j (Le.sub0))))
  refine srk tbok ⟨25, [(4, .own 5)], [(5, oa 42 7 eClaim j1)]⟩ ?_
  refine swp_ret ?_
  obtain rfl := inj h
  exact q_fr (f1 (fo eClaim_flat))
theorem ents88 : Ents Tryz.prog 88 := ents_of Tryz.func88 (by kernel_rfl) rfl
noncomputable def spec_l02Meet (aA : Span) (aB : Span) : Option (Bool) :=
  some ((decide (aA.From ≤ aB.To)) && (decide (aB.From ≤ aA.To)))
theorem spec_l02Meet_run (aA : Span) (aB : Span) (r : Bool) (h : spec_l02Meet aA aB = some r) : SCall Tryz.prog 163 [.v (.agg (tc eSpan aA)), .v (.agg (tc eSpan aB))] ⟨[.v (vb r)], [], false⟩ := by
  refine scall_in Tryz.func163 rfl [(.tmp 4)] rfl (fun r => ⟨[.v (vb r)], [], false⟩) (r := r) ?_
  unfold spec_l02Meet at h
  refine srk tbok ⟨17, [(2, .ref 2 0), (3, .ref 3 0)], [(2, .box (tc eSpan aA)), (3, .box (tc eSpan aB))]⟩ ?_
  refine swp_seq ?_
  refine swp_regP ⟨17, [(4, vb ((decide (aA.From ≤ aB.To)) && (decide (aB.From ≤ aA.To))))], []⟩ ?_ ?_
  refine SRun.ck tbok 6 ⟨17, [(2, .ref 2 0), (3, .ref 3 0), (10, vb (decide (aA.From ≤ aB.To)))], [(2, .box (tc eSpan aA)), (3, .box (tc eSpan aB))]⟩ ?_
  generalize (decide (aA.From ≤ aB.To)) = bb
  cases bb
  refine SRun.ck tbok 7 ⟨17, [(4, vb false)], []⟩ ?_
  exact SRun.nil (Le.sub0)
  refine SRun.ck tbok 7 ⟨17, [(4, vb (decide (aB.From ≤ aA.To)))], []⟩ ?_
  exact SRun.nil (Le.sub0)
  refine swp_ret ?_
  obtain rfl := inj h
  exact q_fr (f1 fv)
theorem ents163 : Ents Tryz.prog 163 := ents_of Tryz.func163 (by kernel_rfl) rfl
noncomputable def spec_l20Contradict (aA : Claim) (aB : Claim) : Option (Bool) :=
  ((spec_l02Meet aA.Years aB.Years).bind fun x1 => (bif (!x1) then some false else (bif (cond (aA.Kind == 1) (cond (aB.Kind == 3) ((aA.Value.toList == aB.Place.toList) || ((aB.Kind == 1) && ((aA.Kind == 3) && (aB.Value.toList == aA.Place.toList)))) ((aB.Kind == 1) && ((aA.Kind == 3) && (aB.Value.toList == aA.Place.toList)))) ((aB.Kind == 1) && ((aA.Kind == 3) && (aB.Value.toList == aA.Place.toList)))) then some true else (bif (!(aA.Place.toList == aB.Place.toList)) then some false else (bif (aA.Kind == aB.Kind) then some (cond (aA.Kind == 0) (!(aA.Value.toList == aB.Value.toList)) ((aA.Kind == 1) && (!(aA.Value.toList == aB.Value.toList)))) else some ((aA.Kind == 3) || (aB.Kind == 3)))))))
theorem spec_l20Contradict_run (aA : Claim) (aB : Claim) (r : Bool) (h : spec_l20Contradict aA aB = some r) : SCall Tryz.prog 134 [.v (.agg (tc eClaim aA)), .v (.agg (tc eClaim aB))] ⟨[.v (vb r)], [], false⟩ := by
  refine scall_in Tryz.func134 rfl [(.tmp 4)] rfl (fun r => ⟨[.v (vb r)], [], false⟩) (r := r) ?_
  unfold spec_l20Contradict at h
  refine srk tbok ⟨76, [(2, .ref 2 0), (3, .ref 3 0)], [(2, .box (tc eClaim aA)), (3, .box (tc eClaim aB))]⟩ ?_
  refine swp_seq ?_
  refine sr ?_
  refine SRun.ck tbok 4 ⟨76, [(2, .ref 2 0), (3, .ref 3 0), (6, .agg (tc eSpan aA.Years)), (8, .agg (tc eSpan aB.Years))], [(2, .box (tc eClaim aA)), (3, .box (tc eClaim aB))]⟩ ?_
  obtain ⟨x1, hx1, h⟩ := bind_some h
  refine SRun.ls (xc ents163 (spec_l02Meet_run aA.Years aB.Years _ hx1)) ?_
  refine ckn tbok 1 ⟨76, [(2, .ref 2 0), (3, .ref 3 0), (10, vb (!x1))], [(2, .box (tc eClaim aA)), (3, .box (tc eClaim aB))]⟩ ?_
  refine swp_cd h (fun h => ?_) fun h => ?_
  refine srk tbok ⟨76, [(4, vb false)], []⟩ ?_
  refine swp_ret ?_
  obtain rfl := inj h
  exact nx_r (q_fr (f1 fv))
  refine swp_skip ?_
  refine nx_n ?_
  refine swp_seq ?_
  refine swp_seq ?_
  refine swp_regP ⟨76, [(2, .ref 2 0), (3, .ref 3 0), (42, vb (cond (aA.Kind == 1) (cond (aB.Kind == 3) ((aA.Value.toList == aB.Place.toList) || ((aB.Kind == 1) && ((aA.Kind == 3) && (aB.Value.toList == aA.Place.toList)))) ((aB.Kind == 1) && ((aA.Kind == 3) && (aB.Value.toList == aA.Place.toList)))) ((aB.Kind == 1) && ((aA.Kind == 3) && (aB.Value.toList == aA.Place.toList)))))], [(2, .box (tc eClaim aA)), (3, .box (tc eClaim aB))]⟩ ?_ ?_
  refine SRun.ck tbok 4 ⟨76, [(2, .ref 2 0), (3, .ref 3 0), (14, vb (aA.Kind == 1))], [(2, .box (tc eClaim aA)), (3, .box (tc eClaim aB))]⟩ ?_
  generalize (aA.Kind == 1) = bb
  cases bb
  refine SRun.ck tbok 16 ⟨76, [(2, .ref 2 0), (3, .ref 3 0), (26, vb false), (30, vb (aB.Kind == 1))], [(2, .box (tc eClaim aA)), (3, .box (tc eClaim aB))]⟩ ?_
  generalize (aB.Kind == 1) = bb
  cases bb
  refine SRun.ck tbok 12 ⟨76, [(2, .ref 2 0), (3, .ref 3 0), (42, vb false)], [(2, .box (tc eClaim aA)), (3, .box (tc eClaim aB))]⟩ ?_
  exact SRun.nil (Le.sub0)
  refine SRun.ck tbok 5 ⟨76, [(2, .ref 2 0), (3, .ref 3 0), (26, vb false), (35, vb (aA.Kind == 3))], [(2, .box (tc eClaim aA)), (3, .box (tc eClaim aB))]⟩ ?_
  generalize (aA.Kind == 3) = bb
  cases bb
  refine SRun.ck tbok 7 ⟨76, [(2, .ref 2 0), (3, .ref 3 0), (42, vb false)], [(2, .box (tc eClaim aA)), (3, .box (tc eClaim aB))]⟩ ?_
  exact SRun.nil (Le.sub0)
  refine SRun.ck tbok 7 ⟨76, [(2, .ref 2 0), (3, .ref 3 0), (42, vb (aB.Value.toList == aA.Place.toList))], [(2, .box (tc eClaim aA)), (3, .box (tc eClaim aB))]⟩ ?_
  exact SRun.nil (Le.sub0)
  refine SRun.ck tbok 5 ⟨76, [(2, .ref 2 0), (3, .ref 3 0), (19, vb (aB.Kind == 3))], [(2, .box (tc eClaim aA)), (3, .box (tc eClaim aB))]⟩ ?_
  generalize (aB.Kind == 3) = bb
  cases bb
  refine SRun.ck tbok 11 ⟨76, [(2, .ref 2 0), (3, .ref 3 0), (26, vb false), (30, vb (aB.Kind == 1))], [(2, .box (tc eClaim aA)), (3, .box (tc eClaim aB))]⟩ ?_
  generalize (aB.Kind == 1) = bb
  cases bb
  refine SRun.ck tbok 12 ⟨76, [(2, .ref 2 0), (3, .ref 3 0), (42, vb false)], [(2, .box (tc eClaim aA)), (3, .box (tc eClaim aB))]⟩ ?_
  exact SRun.nil (Le.sub0)
  refine SRun.ck tbok 5 ⟨76, [(2, .ref 2 0), (3, .ref 3 0), (26, vb false), (35, vb (aA.Kind == 3))], [(2, .box (tc eClaim aA)), (3, .box (tc eClaim aB))]⟩ ?_
  generalize (aA.Kind == 3) = bb
  cases bb
  refine SRun.ck tbok 7 ⟨76, [(2, .ref 2 0), (3, .ref 3 0), (42, vb false)], [(2, .box (tc eClaim aA)), (3, .box (tc eClaim aB))]⟩ ?_
  exact SRun.nil (Le.sub0)
  refine SRun.ck tbok 7 ⟨76, [(2, .ref 2 0), (3, .ref 3 0), (42, vb (aB.Value.toList == aA.Place.toList))], [(2, .box (tc eClaim aA)), (3, .box (tc eClaim aB))]⟩ ?_
  exact SRun.nil (Le.sub0)
  refine SRun.ck tbok 7 ⟨76, [(2, .ref 2 0), (3, .ref 3 0), (26, vb (aA.Value.toList == aB.Place.toList))], [(2, .box (tc eClaim aA)), (3, .box (tc eClaim aB))]⟩ ?_
  generalize (aA.Value.toList == aB.Place.toList) = bb
  cases bb
  refine SRun.ck tbok 4 ⟨76, [(2, .ref 2 0), (3, .ref 3 0), (26, vb false), (30, vb (aB.Kind == 1))], [(2, .box (tc eClaim aA)), (3, .box (tc eClaim aB))]⟩ ?_
  generalize (aB.Kind == 1) = bb
  cases bb
  refine SRun.ck tbok 12 ⟨76, [(2, .ref 2 0), (3, .ref 3 0), (42, vb false)], [(2, .box (tc eClaim aA)), (3, .box (tc eClaim aB))]⟩ ?_
  exact SRun.nil (Le.sub0)
  refine SRun.ck tbok 5 ⟨76, [(2, .ref 2 0), (3, .ref 3 0), (26, vb false), (35, vb (aA.Kind == 3))], [(2, .box (tc eClaim aA)), (3, .box (tc eClaim aB))]⟩ ?_
  generalize (aA.Kind == 3) = bb
  cases bb
  refine SRun.ck tbok 7 ⟨76, [(2, .ref 2 0), (3, .ref 3 0), (42, vb false)], [(2, .box (tc eClaim aA)), (3, .box (tc eClaim aB))]⟩ ?_
  exact SRun.nil (Le.sub0)
  refine SRun.ck tbok 7 ⟨76, [(2, .ref 2 0), (3, .ref 3 0), (42, vb (aB.Value.toList == aA.Place.toList))], [(2, .box (tc eClaim aA)), (3, .box (tc eClaim aB))]⟩ ?_
  exact SRun.nil (Le.sub0)
  refine SRun.ck tbok 16 ⟨76, [(2, .ref 2 0), (3, .ref 3 0), (42, vb true)], [(2, .box (tc eClaim aA)), (3, .box (tc eClaim aB))]⟩ ?_
  exact SRun.nil (Le.sub0)
  refine swp_cd h (fun h => ?_) fun h => ?_
  refine srk tbok ⟨76, [(4, vb true)], []⟩ ?_
  refine swp_ret ?_
  obtain rfl := inj h
  exact nx_r (q_fr (f1 fv))
  refine swp_skip ?_
  refine nx_n ?_
  refine swp_seq ?_
  refine srk tbok ⟨76, [(2, .ref 2 0), (3, .ref 3 0), (47, vb (!(aA.Place.toList == aB.Place.toList)))], [(2, .box (tc eClaim aA)), (3, .box (tc eClaim aB))]⟩ ?_
  refine swp_cd h (fun h => ?_) fun h => ?_
  refine srk tbok ⟨76, [(4, vb false)], []⟩ ?_
  refine swp_ret ?_
  obtain rfl := inj h
  exact nx_r (q_fr (f1 fv))
  refine swp_skip ?_
  refine nx_n ?_
  refine swp_seq ?_
  refine srk tbok ⟨76, [(2, .ref 2 0), (3, .ref 3 0), (52, vb (aA.Kind == aB.Kind))], [(2, .box (tc eClaim aA)), (3, .box (tc eClaim aB))]⟩ ?_
  refine swp_cd h (fun h => ?_) fun h => ?_
  refine swp_seq ?_
  refine swp_regP ⟨76, [(4, vb (cond (aA.Kind == 0) (!(aA.Value.toList == aB.Value.toList)) ((aA.Kind == 1) && (!(aA.Value.toList == aB.Value.toList)))))], []⟩ ?_ ?_
  refine SRun.ck tbok 4 ⟨76, [(2, .ref 2 0), (3, .ref 3 0), (56, vb (aA.Kind == 0))], [(2, .box (tc eClaim aA)), (3, .box (tc eClaim aB))]⟩ ?_
  generalize (aA.Kind == 0) = bb
  cases bb
  refine SRun.ck tbok 5 ⟨76, [(2, .ref 2 0), (3, .ref 3 0), (61, vb (aA.Kind == 1))], [(2, .box (tc eClaim aA)), (3, .box (tc eClaim aB))]⟩ ?_
  generalize (aA.Kind == 1) = bb
  cases bb
  refine SRun.ck tbok 7 ⟨76, [(4, vb false)], []⟩ ?_
  exact SRun.nil (Le.sub0)
  refine SRun.ck tbok 7 ⟨76, [(4, vb (!(aA.Value.toList == aB.Value.toList)))], []⟩ ?_
  exact SRun.nil (Le.sub0)
  refine SRun.ck tbok 12 ⟨76, [(4, vb (!(aA.Value.toList == aB.Value.toList)))], []⟩ ?_
  exact SRun.nil (Le.sub0)
  refine swp_ret ?_
  obtain rfl := inj h
  exact nx_r (q_fr (f1 fv))
  refine swp_skip ?_
  refine nx_n ?_
  refine swp_seq ?_
  refine swp_regP ⟨76, [(4, vb ((aA.Kind == 3) || (aB.Kind == 3)))], []⟩ ?_ ?_
  refine SRun.ck tbok 4 ⟨76, [(3, .ref 3 0), (71, vb (aA.Kind == 3))], [(3, .box (tc eClaim aB))]⟩ ?_
  generalize (aA.Kind == 3) = bb
  cases bb
  refine SRun.ck tbok 5 ⟨76, [(4, vb (aB.Kind == 3))], []⟩ ?_
  exact SRun.nil (Le.sub0)
  refine SRun.ck tbok 5 ⟨76, [(4, vb true)], []⟩ ?_
  exact SRun.nil (Le.sub0)
  refine swp_ret ?_
  obtain rfl := inj h
  exact q_fr (f1 fv)
theorem ents134 : Ents Tryz.prog 134 := ents_of Tryz.func134 (by kernel_rfl) rfl
noncomputable def spec_l03Find (aList : (List ByteArray)) (aS : ByteArray) : Option (Int) :=
  (((forN (aList.length : Int) (fun (i3 : Int) (_ : Unit) => ((at' aList i3).bind fun x7 => (bif (x7.toList == aS.toList) then some (.inr (.inr i3)) else some (.inl ())))) (fun (_ : Unit) => .inl ()) 0 ())).bind (Sum.elim (fun (_ : Unit) => some (-1)) some))
theorem spec_l03Find_run (aList : (List ByteArray)) (aS : ByteArray) (r : Int) (h : spec_l03Find aList aS = some r) : SCall Tryz.prog 164 [.v (vl eS aList), .v (vs aS)] ⟨[.v (vi r)], [], false⟩ := by
  refine scall_in Tryz.func164 rfl [(.tmp 4)] rfl (fun r => ⟨[.v (vi r)], [], false⟩) (r := r) ?_
  unfold spec_l03Find at h
  refine srk tbok ⟨19, [(0, vl eS aList), (1, vs aS)], []⟩ ?_
  refine swp_seq ?_
  refine srk tbok ⟨19, [(0, vl eS aList), (1, vs aS), (5, vi 0)], []⟩ ?_
  refine swp_seqE (r := r) h (fun j1 => ⟨19, [], []⟩) (fun v2 h => ?_) (fun j1 h => ?_)
  refine swp_blk (a := v2) ?_
  refine swp_lpL (r := v2) (s := (0, ())) _ (fun s3 => ⟨19, [(0, vl eS aList), (1, vs aS), (5, vi s3.1)], []⟩) _ (Le.sub0) h (fun s3 v4 h => ?_)
  refine swp_seq ?_
  refine srk tbok ⟨19, [(0, vl eS aList), (1, vs aS), (5, vi s3.1), (9, vb (decide (s3.1 < (aList.length : Int))))], []⟩ ?_
  refine swp_cd h (fun h => ?_) fun h => ?_
  refine swp_skip ?_
  refine nx_n ?_
  refine swp_seq ?_
  refine swp_seqL (r := v4) h (fun j5 => ⟨19, [(0, vl eS aList), (1, vs aS), (5, vi s3.1)], []⟩) (fun v6 h => ?_) (fun j5 h => ?_)
  refine swp_blk (a := v6) ?_
  refine sr ?_
  refine SRun.ck tbok 2 ⟨19, [(0, vl eS aList), (1, vs aS), (5, vi s3.1), (12, vl eS aList), (13, vi s3.1)], []⟩ ?_
  obtain ⟨x7, hx7, h⟩ := bind_some h
  refine SRun.ls (x_index (L := aList) (f := eS) (ti := ti52) (tj := ti9) (e := 9) (k := .i64) tbok rfl hx7) ?_
  refine ckn tbok 3 ⟨19, [(0, vl eS aList), (1, vs aS), (5, vi s3.1), (17, vb (x7.toList == aS.toList))], []⟩ ?_
  refine swp_cd h (fun h => ?_) fun h => ?_
  refine srk tbok ⟨19, [(4, vi s3.1)], []⟩ ?_
  refine swp_ret ?_
  obtain rfl := inj h
  exact q_br (q_rr (q_rr (q_br (q_rr (q_fr (f1 fv))))))
  refine swp_skip ?_
  obtain rfl := inj h
  exact q_bn (q_l (Le.sub0))
  refine swp_reg ?_
  refine SRun.ck tbok 3 ⟨19, [(0, vl eS aList), (1, vs aS), (5, vi (w64 (s3.1 + 1)))], []⟩ ?_
  refine SRun.nil ?_
  obtain rfl := inj h
  exact q_l (Le.sub0)
  refine swp_exit ?_
  obtain rfl := inj h
  exact nx_e (q_re (q_bh (q_l (Le.sub0))))
  refine srk tbok ⟨19, [(4, vi (-1))], []⟩ ?_
  refine swp_ret ?_
  obtain rfl := inj h
  exact q_fr (f1 fv)
theorem ents164 : Ents Tryz.prog 164 := ents_of Tryz.func164 (by kernel_rfl) rfl
noncomputable def spec_l21Parent (aList : (List Claim)) (aPlace : ByteArray) (aYear : Int) : Option (ByteArray) :=
  (((forN (aList.length : Int) (fun (i3 : Int) (_ : Unit) => ((at' aList i3).bind fun x7 => (((bif (x7.Kind == 1) then (bif (x7.Place.toList == aPlace.toList) then ((spec_l01In aYear x7.Years.From x7.Years.To).bind fun x8 => some x8) else some false) else some false)).bind fun (j9 : Bool) => (bif j9 then some (.inr (.inr x7.Value)) else some (.inl ()))))) (fun (_ : Unit) => .inl ()) 0 ())).bind (Sum.elim (fun (_ : Unit) => some (ByteArray.mk #[])) some))
theorem spec_l21Parent_run (aList : (List Claim)) (aPlace : ByteArray) (aYear : Int) (r : ByteArray) (h : spec_l21Parent aList aPlace aYear = some r) : SCall Tryz.prog 96 [.v (vl eClaim aList), .v (vs aPlace), .v (vi aYear)] ⟨[.v (vs r)], [], false⟩ := by
  refine scall_in Tryz.func96 rfl [(.tmp 6)] rfl (fun r => ⟨[.v (vs r)], [], false⟩) (r := r) ?_
  unfold spec_l21Parent at h
  refine srk tbok ⟨40, [(0, vl eClaim aList), (1, vs aPlace), (2, vi aYear)], []⟩ ?_
  refine swp_seq ?_
  refine srk tbok ⟨40, [(0, vl eClaim aList), (1, vs aPlace), (2, vi aYear), (7, vi 0)], []⟩ ?_
  refine swp_seqE (r := r) h (fun j1 => ⟨40, [], []⟩) (fun v2 h => ?_) (fun j1 h => ?_)
  refine swp_blk (a := v2) ?_
  refine swp_lpL (r := v2) (s := (0, ())) _ (fun s3 => ⟨40, [(0, vl eClaim aList), (1, vs aPlace), (2, vi aYear), (7, vi s3.1)], []⟩) _ (Le.sub0) h (fun s3 v4 h => ?_)
  refine swp_seq ?_
  refine srk tbok ⟨40, [(0, vl eClaim aList), (1, vs aPlace), (2, vi aYear), (7, vi s3.1), (12, vb (decide (s3.1 < (aList.length : Int))))], []⟩ ?_
  refine swp_cd h (fun h => ?_) fun h => ?_
  refine swp_skip ?_
  refine nx_n ?_
  refine swp_seq ?_
  refine swp_seqL (r := v4) h (fun j5 => ⟨40, [(0, vl eClaim aList), (1, vs aPlace), (2, vi aYear), (7, vi s3.1)], []⟩) (fun v6 h => ?_) (fun j5 h => ?_)
  refine swp_blk (a := v6) ?_
  refine sr ?_
  refine SRun.ck tbok 2 ⟨40, [(0, vl eClaim aList), (1, vs aPlace), (2, vi aYear), (7, vi s3.1), (15, vl eClaim aList), (16, vi s3.1)], []⟩ ?_
  obtain ⟨x7, hx7, h⟩ := bind_some h
  refine SRun.ls (x_index (L := aList) (f := eClaim) (ti := ti24) (tj := ti42) (e := 42) (k := .i64) tbok rfl hx7) ?_
  refine ckn tbok 3 ⟨40, [(0, vl eClaim aList), (1, vs aPlace), (2, vi aYear), (7, vi s3.1), (8, .ref 8 0)], [(8, .box (tc eClaim x7))]⟩ ?_
  refine swp_seq ?_
  refine swp_regJ h (fun j9 => ⟨40, [(0, vl eClaim aList), (1, vs aPlace), (2, vi aYear), (7, vi s3.1), (8, .ref 8 0), (37, vb j9)], [(8, .box (tc eClaim x7))]⟩) (fun v10 h => ?_) (fun j9 h => ?_)
  refine SRun.ck tbok 4 ⟨40, [(0, vl eClaim aList), (1, vs aPlace), (2, vi aYear), (7, vi s3.1), (8, .ref 8 0), (22, vb (x7.Kind == 1))], [(8, .box (tc eClaim x7))]⟩ ?_
  refine SRun.cu [(22, fun b => b)] h (fun h => ?_) fun h => ?_
  refine SRun.ck tbok 6 ⟨40, [(0, vl eClaim aList), (1, vs aPlace), (2, vi aYear), (7, vi s3.1), (8, .ref 8 0), (28, vb (x7.Place.toList == aPlace.toList))], [(8, .box (tc eClaim x7))]⟩ ?_
  refine SRun.cu [(28, fun b => b)] h (fun h => ?_) fun h => ?_
  refine SRun.ck tbok 7 ⟨40, [(0, vl eClaim aList), (1, vs aPlace), (2, vi aYear), (7, vi s3.1), (8, .ref 8 0), (28, vb true), (29, vi aYear), (32, vi x7.Years.From), (35, vi x7.Years.To)], [(8, .box (tc eClaim x7))]⟩ ?_
  obtain ⟨x8, hx8, h⟩ := bind_some h
  refine SRun.ls (xc ents110 (spec_l01In_run aYear x7.Years.From x7.Years.To _ hx8)) ?_
  refine SRun.ck tbok 1 ⟨40, [(0, vl eClaim aList), (1, vs aPlace), (2, vi aYear), (7, vi s3.1), (8, .ref 8 0), (37, vb x8)], [(8, .box (tc eClaim x7))]⟩ ?_
  refine SRun.nil ?_
  obtain rfl := inj h
  exact Le.sub0
  refine SRun.ck tbok 9 ⟨40, [(0, vl eClaim aList), (1, vs aPlace), (2, vi aYear), (7, vi s3.1), (8, .ref 8 0), (37, vb false)], [(8, .box (tc eClaim x7))]⟩ ?_
  refine SRun.nil ?_
  obtain rfl := inj h
  exact Le.sub0
  refine SRun.ck tbok 15 ⟨40, [(0, vl eClaim aList), (1, vs aPlace), (2, vi aYear), (7, vi s3.1), (8, .ref 8 0), (37, vb false)], [(8, .box (tc eClaim x7))]⟩ ?_
  refine SRun.nil ?_
  obtain rfl := inj h
  exact Le.sub0
  refine swp_cd h (fun h => ?_) fun h => ?_
  refine srk tbok ⟨40, [(6, vs x7.Value)], []⟩ ?_
  refine swp_ret ?_
  obtain rfl := inj h
  exact q_br (q_rr (q_rr (q_br (q_rr (q_fr (f1 fv))))))
  refine swp_skip ?_
  obtain rfl := inj h
  exact q_bn (q_l (Le.sub0))
  refine swp_reg ?_
  refine SRun.ck tbok 3 ⟨40, [(0, vl eClaim aList), (1, vs aPlace), (2, vi aYear), (7, vi (w64 (s3.1 + 1)))], []⟩ ?_
  refine SRun.nil ?_
  obtain rfl := inj h
  exact q_l (Le.sub0)
  refine swp_exit ?_
  obtain rfl := inj h
  exact nx_e (q_re (q_bh (q_l (Le.sub0))))
  refine srk tbok ⟨40, [(6, vs (ByteArray.mk #[]))], []⟩ ?_
  refine swp_ret ?_
  obtain rfl := inj h
  exact q_fr (f1 fv)
theorem ents96 : Ents Tryz.prog 96 := ents_of Tryz.func96 (by kernel_rfl) rfl
noncomputable def spec_l21Circle (aList : (List Claim)) (aPlace : ByteArray) (aYear : Int) : Option ((List ByteArray) × Bool) :=
  (((loop (fun (s3 : ByteArray × (List ByteArray)) => ((spec_l03Find s3.2 s3.1).bind fun x5 => (bif (decide (x5 < 0)) then ((app' s3.2 ([s3.1] : List ByteArray)).bind fun x6 => ((spec_l21Parent aList s3.1 aYear).bind fun x7 => (bif (x7.toList == (ByteArray.mk #[]).toList) then some (.inr (.inr (([] : List ByteArray), false))) else some (.inl (x7, x6))))) else some (.inr (.inl (s3.1, s3.2)))))) (aPlace, ([] : List ByteArray)))).bind (Sum.elim (fun (j1 : ByteArray × (List ByteArray)) => some (j1.2, (j1.1.toList == aPlace.toList))) some))
theorem spec_l21Circle_run (aList : (List Claim)) (aPlace : ByteArray) (aYear : Int) (r : (List ByteArray) × Bool) (h : spec_l21Circle aList aPlace aYear = some r) : SCall Tryz.prog 135 [.v (vl eClaim aList), .v (vs aPlace), .v (vi aYear)] ⟨[.own 9 1 r.1.length (r.1.map eS), .v (vb r.2)], [], false⟩ := by
  refine scall_in Tryz.func135 rfl [(.tmp 6), (.tmp 7)] rfl (fun r => ⟨[.own 9 1 r.1.length (r.1.map eS), .v (vb r.2)], [], false⟩) (r := r) ?_
  unfold spec_l21Circle at h
  refine srk tbok ⟨30, [(0, vl eClaim aList), (1, vs aPlace), (2, vi aYear)], []⟩ ?_
  refine srk tbok ⟨30, [(0, vl eClaim aList), (1, vs aPlace), (2, vi aYear), (8, .own 10)], [(10, oa 9 1 eS ([] : List ByteArray))]⟩ ?_
  refine srk tbok ⟨30, [(0, vl eClaim aList), (1, vs aPlace), (2, vi aYear), (8, .own 10), (9, vs aPlace)], [(10, oa 9 1 eS ([] : List ByteArray))]⟩ ?_
  refine swp_seq ?_
  refine swp_seqE (r := r) h (fun j1 => ⟨30, [(1, vs aPlace), (8, .own 8), (9, vs j1.1)], [(8, oa 9 1 eS j1.2)]⟩) (fun v2 h => ?_) (fun j1 h => ?_)
  refine swp_blk (a := v2) ?_
  refine swp_lpL (r := v2) (s := (aPlace, ([] : List ByteArray))) _ (fun s3 => ⟨30, [(0, vl eClaim aList), (1, vs aPlace), (2, vi aYear), (8, .own 8), (9, vs s3.1)], [(8, oa 9 1 eS s3.2)]⟩) _ (Le.rr [10] [(10, 8)]) h (fun s3 v4 h => ?_)
  refine swp_seq ?_
  refine sr ?_
  refine SRun.ck tbok 2 ⟨30, [(0, vl eClaim aList), (1, vs aPlace), (2, vi aYear), (8, .own 8), (9, vs s3.1), (12, .own 8), (13, vs s3.1)], [(8, oa 9 1 eS s3.2)]⟩ ?_
  obtain ⟨x5, hx5, h⟩ := bind_some h
  refine SRun.ls (xc ents164 (spec_l03Find_run s3.2 s3.1 _ hx5)) ?_
  refine ckn tbok 1 ⟨30, [(0, vl eClaim aList), (1, vs aPlace), (2, vi aYear), (8, .own 8), (9, vs s3.1), (15, vb (decide (x5 < 0)))], [(8, oa 9 1 eS s3.2)]⟩ ?_
  refine swp_cd h (fun h => ?_) fun h => ?_
  refine swp_skip ?_
  refine nx_n ?_
  refine swp_blk (a := v4) ?_
  refine sr ?_
  refine SRun.ck tbok 3 ⟨30, [(0, vl eClaim aList), (1, vs aPlace), (2, vi aYear), (9, vs s3.1), (16, .own 8), (18, .own 18)], [(8, oa 9 1 eS s3.2), (18, oa 9 1 eS ([s3.1] : List ByteArray))]⟩ ?_
  obtain ⟨x6, hx6, h⟩ := bind_some h
  refine SRun.estep (x_append (f := eS) (t := 52) (ti := ti52) (tj := ti9) (zs := [.string (ByteArray.mk #[])]) (e := 9) (m := 1) (d := 8) (xv := .own 18) hx6 tbok rfl rfl rfl rfl (x_src_o (e := 9))) ?_
  refine ckn tbok 1 ⟨30, [(0, vl eClaim aList), (1, vs aPlace), (2, vi aYear), (8, .own 19), (9, vs s3.1)], [(19, oa 9 1 eS x6)]⟩ ?_
  refine sr ?_
  refine SRun.ck tbok 3 ⟨30, [(0, vl eClaim aList), (1, vs aPlace), (2, vi aYear), (8, .own 19), (20, vl eClaim aList), (21, vs s3.1), (22, vi aYear)], [(19, oa 9 1 eS x6)]⟩ ?_
  obtain ⟨x7, hx7, h⟩ := bind_some h
  refine SRun.ls (xc ents96 (spec_l21Parent_run aList s3.1 aYear _ hx7)) ?_
  refine ckn tbok 1 ⟨30, [(0, vl eClaim aList), (1, vs aPlace), (2, vi aYear), (8, .own 19), (9, vs x7)], [(19, oa 9 1 eS x6)]⟩ ?_
  refine srk tbok ⟨30, [(0, vl eClaim aList), (1, vs aPlace), (2, vi aYear), (8, .own 19), (9, vs x7), (25, vb (x7.toList == (ByteArray.mk #[]).toList))], [(19, oa 9 1 eS x6)]⟩ ?_
  refine swp_cd h (fun h => ?_) fun h => ?_
  refine srk tbok ⟨30, [(6, .own 6), (7, vb false)], [(6, oa 9 1 eS ([] : List ByteArray))]⟩ ?_
  refine swp_ret ?_
  obtain rfl := inj h
  exact q_br (q_rr (q_br (q_rr (q_fr (f2 (fo eS_flat) fv)))))
  refine swp_skip ?_
  obtain rfl := inj h
  exact q_bn (q_l (Le.rr [19] [(19, 8)]))
  refine swp_exit ?_
  obtain rfl := inj h
  exact nx_e (q_re (q_bh (q_l (Le.sub0))))
  refine srk tbok ⟨30, [(6, .own 8), (7, vb (j1.1.toList == aPlace.toList))], [(8, oa 9 1 eS j1.2)]⟩ ?_
  refine swp_ret ?_
  obtain rfl := inj h
  exact q_fr (f2 (fo eS_flat) fv)
theorem ents135 : Ents Tryz.prog 135 := ents_of Tryz.func135 (by kernel_rfl) rfl
noncomputable def spec_l21Consistent (aList : (List Claim)) : Option (Bool) :=
  (((forN (aList.length : Int) (fun (i3 : Int) (_ : Unit) => (forN i3 (fun (i7 : Int) (_ : Unit) => ((at' aList i3).bind fun x11 => ((at' aList i7).bind fun x12 => ((spec_l20Contradict x11 x12).bind fun x13 => (bif x13 then some (.inr (.inr (.inr false))) else some (.inl ())))))) (fun (_ : Unit) => .inl ()) 0 ())) (fun (_ : Unit) => .inl ()) 0 ())).bind (Sum.elim (fun (_ : Unit) => (((forN (aList.length : Int) (fun (i16 : Int) (_ : Unit) => (loop (fun (s20 : Int) => (((bif (decide (s20 < (aList.length : Int))) then ((at' aList i16).bind fun x22 => some (x22.Kind == 1)) else some false)).bind fun (j23 : Bool) => (bif j23 then ((((at' aList s20).bind fun x27 => ((at' aList i16).bind fun x28 => ((spec_l21Circle aList x27.Place x28.Years.From).bind fun x29 => (bif x29.2 then some (.inr (.inr (.inr false))) else some (.inl ())))))).bind (Sum.elim (fun (_ : Unit) => some (.inl (w64 (s20 + 1)))) (fun a => some (.inr a)))) else some (.inr (.inl ()))))) 0)) (fun (_ : Unit) => .inl ()) 0 ())).bind (Sum.elim (fun (_ : Unit) => some true) some))) some))
theorem spec_l21Consistent_run (aList : (List Claim)) (r : Bool) (h : spec_l21Consistent aList = some r) : SCall Tryz.prog 87 [.v (vl eClaim aList)] ⟨[.v (vb r)], [], false⟩ := by
  refine scall_in Tryz.func87 rfl [(.tmp 2)] rfl (fun r => ⟨[.v (vb r)], [], false⟩) (r := r) ?_
  unfold spec_l21Consistent at h
  refine srk tbok ⟨66, [(0, vl eClaim aList)], []⟩ ?_
  refine swp_seq ?_
  refine srk tbok ⟨66, [(0, vl eClaim aList), (3, vi 0)], []⟩ ?_
  refine swp_seqE (r := r) h (fun j1 => ⟨66, [(0, vl eClaim aList)], []⟩) (fun v2 h => ?_) (fun j1 h => ?_)
  refine swp_blk (a := v2) ?_
  refine swp_lpL (r := v2) (s := (0, ())) _ (fun s3 => ⟨66, [(0, vl eClaim aList), (3, vi s3.1)], []⟩) _ (Le.sub0) h (fun s3 v4 h => ?_)
  refine swp_seq ?_
  refine srk tbok ⟨66, [(0, vl eClaim aList), (3, vi s3.1), (12, vb (decide (s3.1 < (aList.length : Int))))], []⟩ ?_
  refine swp_cd h (fun h => ?_) fun h => ?_
  refine swp_skip ?_
  refine nx_n ?_
  refine swp_seq ?_
  refine swp_seqL (r := v4) h (fun j5 => ⟨66, [(0, vl eClaim aList), (3, vi s3.1)], []⟩) (fun v6 h => ?_) (fun j5 h => ?_)
  refine swp_blk (a := v6) ?_
  refine srk tbok ⟨66, [(0, vl eClaim aList), (3, vi s3.1), (4, vi 0)], []⟩ ?_
  refine swp_blk (a := v6) ?_
  refine swp_lpL (r := v6) (s := (0, ())) _ (fun s7 => ⟨66, [(0, vl eClaim aList), (3, vi s3.1), (4, vi s7.1)], []⟩) _ (Le.sub0) h (fun s7 v8 h => ?_)
  refine swp_seq ?_
  refine srk tbok ⟨66, [(0, vl eClaim aList), (3, vi s3.1), (4, vi s7.1), (17, vb (decide (s7.1 < s3.1)))], []⟩ ?_
  refine swp_cd h (fun h => ?_) fun h => ?_
  refine swp_skip ?_
  refine nx_n ?_
  refine swp_seq ?_
  refine swp_seqL (r := v8) h (fun j9 => ⟨66, [(0, vl eClaim aList), (3, vi s3.1), (4, vi s7.1)], []⟩) (fun v10 h => ?_) (fun j9 h => ?_)
  refine swp_blk (a := v10) ?_
  refine swp_seq ?_
  refine swp_dr mixed ?_
  refine DGo.ck tbok false 2 ⟨66, [(0, vl eClaim aList), (3, vi s3.1), (4, vi s7.1), (20, vl eClaim aList), (21, vi s3.1)], []⟩ ?_
  obtain ⟨x11, hx11, h⟩ := bind_some h
  refine DGo.step (x_index (L := aList) (f := eClaim) (ti := ti24) (tj := ti42) (e := 42) (k := .i64) tbok rfl hx11) ?_
  refine DGo.ck tbok false 3 ⟨66, [(0, vl eClaim aList), (3, vi s3.1), (4, vi s7.1), (23, .agg (tc eClaim x11)), (24, vl eClaim aList), (25, vi s7.1)], []⟩ ?_
  obtain ⟨x12, hx12, h⟩ := bind_some h
  refine DGo.step (x_index (L := aList) (f := eClaim) (ti := ti24) (tj := ti42) (e := 42) (k := .i64) tbok rfl hx12) ?_
  refine DGo.ck tbok false 1 ⟨66, [(0, vl eClaim aList), (3, vi s3.1), (4, vi s7.1), (23, .agg (tc eClaim x11)), (27, .agg (tc eClaim x12))], []⟩ ?_
  obtain ⟨x13, hx13, h⟩ := bind_some h
  refine DGo.step (xc ents134 (spec_l20Contradict_run x11 x12 _ hx13)) ?_
  refine DGo.nx ?_
  refine swp_cd h (fun h => ?_) fun h => ?_
  refine srk tbok ⟨66, [(2, vb false)], []⟩ ?_
  refine swp_ret ?_
  obtain rfl := inj h
  exact q_br (q_rr (q_rr (q_br (q_br (q_rr (q_rr (q_br (q_rr (q_fr (f1 fv))))))))))
  refine swp_skip ?_
  obtain rfl := inj h
  exact q_bn (q_l (Le.sub0))
  refine swp_reg ?_
  refine SRun.ck tbok 3 ⟨66, [(0, vl eClaim aList), (3, vi s3.1), (4, vi (w64 (s7.1 + 1)))], []⟩ ?_
  refine SRun.nil ?_
  obtain rfl := inj h
  exact q_l (Le.sub0)
  refine swp_exit ?_
  obtain rfl := inj h
  exact nx_e (q_re (q_bh (q_bn (q_l (Le.sub0)))))
  refine swp_reg ?_
  refine SRun.ck tbok 3 ⟨66, [(0, vl eClaim aList), (3, vi (w64 (s3.1 + 1)))], []⟩ ?_
  refine SRun.nil ?_
  obtain rfl := inj h
  exact q_l (Le.sub0)
  refine swp_exit ?_
  obtain rfl := inj h
  exact nx_e (q_re (q_bh (q_l (Le.sub0))))
  refine swp_seq ?_
  refine srk tbok ⟨66, [(0, vl eClaim aList), (5, vi 0)], []⟩ ?_
  refine swp_seqE (r := r) h (fun j14 => ⟨66, [], []⟩) (fun v15 h => ?_) (fun j14 h => ?_)
  refine swp_blk (a := v15) ?_
  refine swp_lpL (r := v15) (s := (0, ())) _ (fun s16 => ⟨66, [(0, vl eClaim aList), (5, vi s16.1)], []⟩) _ (Le.sub0) h (fun s16 v17 h => ?_)
  refine swp_seq ?_
  refine srk tbok ⟨66, [(0, vl eClaim aList), (5, vi s16.1), (32, vb (decide (s16.1 < (aList.length : Int))))], []⟩ ?_
  refine swp_cd h (fun h => ?_) fun h => ?_
  refine swp_skip ?_
  refine nx_n ?_
  refine swp_seq ?_
  refine swp_seqL (r := v17) h (fun j18 => ⟨66, [(0, vl eClaim aList), (5, vi s16.1)], []⟩) (fun v19 h => ?_) (fun j18 h => ?_)
  refine swp_blk (a := v19) ?_
  refine srk tbok ⟨66, [(0, vl eClaim aList), (5, vi s16.1), (6, vi 0)], []⟩ ?_
  refine swp_blk (a := v19) ?_
  refine swp_lpL (r := v19) (s := 0) _ (fun s20 => ⟨66, [(0, vl eClaim aList), (5, vi s16.1), (6, vi s20)], []⟩) _ (Le.sub0) h (fun s20 v21 h => ?_)
  refine swp_seq ?_
  refine swp_seq ?_
  refine swp_regJ h (fun j23 => ⟨66, [(0, vl eClaim aList), (5, vi s16.1), (6, vi s20), (46, vb j23)], []⟩) (fun v24 h => ?_) (fun j23 h => ?_)
  refine SRun.ck tbok 5 ⟨66, [(0, vl eClaim aList), (5, vi s16.1), (6, vi s20), (39, vb (decide (s20 < (aList.length : Int))))], []⟩ ?_
  refine SRun.cu [(39, fun b => b)] h (fun h => ?_) fun h => ?_
  refine SRun.ck tbok 2 ⟨66, [(0, vl eClaim aList), (5, vi s16.1), (6, vi s20), (39, vb true), (40, vl eClaim aList), (41, vi s16.1)], []⟩ ?_
  obtain ⟨x22, hx22, h⟩ := bind_some h
  refine SRun.ls (x_index (L := aList) (f := eClaim) (ti := ti24) (tj := ti42) (e := 42) (k := .i64) tbok rfl hx22) ?_
  refine SRun.ck tbok 4 ⟨66, [(0, vl eClaim aList), (5, vi s16.1), (6, vi s20), (46, vb (x22.Kind == 1))], []⟩ ?_
  refine SRun.nil ?_
  obtain rfl := inj h
  exact Le.sub0
  refine SRun.ck tbok 7 ⟨66, [(0, vl eClaim aList), (5, vi s16.1), (6, vi s20), (46, vb false)], []⟩ ?_
  refine SRun.nil ?_
  obtain rfl := inj h
  exact Le.sub0
  refine swp_cd h (fun h => ?_) fun h => ?_
  refine swp_skip ?_
  refine nx_n ?_
  refine swp_seq ?_
  refine swp_seqL (r := v21) h (fun j25 => ⟨66, [(0, vl eClaim aList), (5, vi s16.1), (6, vi s20)], []⟩) (fun v26 h => ?_) (fun j25 h => ?_)
  refine swp_blk (a := v26) ?_
  refine swp_seq ?_
  refine swp_dr mixed ?_
  refine DGo.ck tbok false 3 ⟨66, [(0, vl eClaim aList), (5, vi s16.1), (6, vi s20), (50, vl eClaim aList), (51, vl eClaim aList), (52, vi s20)], []⟩ ?_
  obtain ⟨x27, hx27, h⟩ := bind_some h
  refine DGo.step (x_index (L := aList) (f := eClaim) (ti := ti24) (tj := ti42) (e := 42) (k := .i64) tbok rfl hx27) ?_
  refine DGo.ck tbok false 4 ⟨66, [(0, vl eClaim aList), (5, vi s16.1), (6, vi s20), (50, vl eClaim aList), (55, vs x27.Place), (56, vl eClaim aList), (57, vi s16.1)], []⟩ ?_
  obtain ⟨x28, hx28, h⟩ := bind_some h
  refine DGo.step (x_index (L := aList) (f := eClaim) (ti := ti24) (tj := ti42) (e := 42) (k := .i64) tbok rfl hx28) ?_
  refine DGo.ck tbok false 3 ⟨66, [(0, vl eClaim aList), (5, vi s16.1), (6, vi s20), (50, vl eClaim aList), (55, vs x27.Place), (61, vi x28.Years.From)], []⟩ ?_
  obtain ⟨x29, hx29, h⟩ := bind_some h
  refine DGo.step (xc ents135 (spec_l21Circle_run aList x27.Place x28.Years.From _ hx29)) ?_
  refine DGo.ck tbok false 5 ⟨66, [(0, vl eClaim aList), (5, vi s16.1), (6, vi s20), (8, vb x29.2)], []⟩ ?_
  refine DGo.nx ?_
  refine srk tbok ⟨66, [(0, vl eClaim aList), (5, vi s16.1), (6, vi s20), (65, vb x29.2)], []⟩ ?_
  refine swp_cd h (fun h => ?_) fun h => ?_
  refine srk tbok ⟨66, [(2, vb false)], []⟩ ?_
  refine swp_ret ?_
  obtain rfl := inj h
  exact q_br (q_rr (q_rr (q_br (q_br (q_rr (q_rr (q_br (q_rr (q_fr (f1 fv))))))))))
  refine swp_skip ?_
  obtain rfl := inj h
  exact q_bn (q_l (Le.sub0))
  refine swp_reg ?_
  refine SRun.ck tbok 3 ⟨66, [(0, vl eClaim aList), (5, vi s16.1), (6, vi (w64 (s20 + 1)))], []⟩ ?_
  refine SRun.nil ?_
  obtain rfl := inj h
  exact q_l (Le.sub0)
  refine swp_exit ?_
  obtain rfl := inj h
  exact nx_e (q_re (q_bh (q_bn (q_l (Le.sub0)))))
  refine swp_reg ?_
  refine SRun.ck tbok 3 ⟨66, [(0, vl eClaim aList), (5, vi (w64 (s16.1 + 1)))], []⟩ ?_
  refine SRun.nil ?_
  obtain rfl := inj h
  exact q_l (Le.sub0)
  refine swp_exit ?_
  obtain rfl := inj h
  exact nx_e (q_re (q_bh (q_l (Le.sub0))))
  refine srk tbok ⟨66, [(2, vb true)], []⟩ ?_
  refine swp_ret ?_
  obtain rfl := inj h
  exact q_fr (f1 fv)
theorem ents87 : Ents Tryz.prog 87 := ents_of Tryz.func87 (by kernel_rfl) rfl
noncomputable def spec_l22Repair (aList : (List Claim)) (aRemoved : (List Int)) : Option (Bool) :=
  ((spec_l22Rest aList aRemoved).bind fun x1 => ((spec_l21Chosen aList x1).bind fun x2 => ((spec_l21Consistent x2).bind fun x3 => some x3)))
theorem spec_l22Repair_run (aList : (List Claim)) (aRemoved : (List Int)) (r : Bool) (h : spec_l22Repair aList aRemoved = some r) : SCall Tryz.prog 126 [.v (vl eClaim aList), .v (vl (eI .i64) aRemoved)] ⟨[.v (vb r)], [], false⟩ := by
  refine scall_in Tryz.func126 rfl [(.tmp 4)] rfl (fun r => ⟨[.v (vb r)], [], false⟩) (r := r) ?_
  unfold spec_l22Repair at h
  refine srk tbok ⟨11, [(0, vl eClaim aList), (1, vl (eI .i64) aRemoved)], []⟩ ?_
  refine sr ?_
  refine SRun.ck tbok 3 ⟨11, [(5, vl eClaim aList), (6, vl eClaim aList), (7, vl (eI .i64) aRemoved)], []⟩ ?_
  obtain ⟨x1, hx1, h⟩ := bind_some h
  refine SRun.ls (xc ents97 (spec_l22Rest_run aList aRemoved _ hx1)) ?_
  obtain ⟨x2, hx2, h⟩ := bind_some h
  refine SRun.ls (xc ents88 (spec_l21Chosen_run aList x1 _ hx2)) ?_
  obtain ⟨x3, hx3, h⟩ := bind_some h
  refine SRun.ls (xc ents87 (spec_l21Consistent_run x2 _ hx3)) ?_
  refine ckn tbok 1 ⟨11, [(4, vb x3)], []⟩ ?_
  refine swp_ret ?_
  obtain rfl := inj h
  exact q_fr (f1 fv)
theorem ents126 : Ents Tryz.prog 126 := ents_of Tryz.func126 (by kernel_rfl) rfl
noncomputable def spec_l22Without (aRemoved : (List Int)) (aAt : Int) : Option ((List Int)) :=
  ((part' aRemoved 0 aAt).bind fun x1 => ((app' ([] : List Int) x1).bind fun x2 => ((part' aRemoved (w64 (aAt + 1)) (aRemoved.length : Int)).bind fun x3 => ((app' x2 x3).bind fun x4 => some x4))))
theorem spec_l22Without_run (aRemoved : (List Int)) (aAt : Int) (r : (List Int)) (h : spec_l22Without aRemoved aAt = some r) : SCall Tryz.prog 136 [.v (vl (eI .i64) aRemoved), .v (vi aAt)] ⟨[.own 2 1 r.length (r.map (eI .i64))], [], false⟩ := by
  refine scall_in Tryz.func136 rfl [(.tmp 4)] rfl (fun r => ⟨[.own 2 1 r.length (r.map (eI .i64))], [], false⟩) (r := r) ?_
  unfold spec_l22Without at h
  refine srk tbok ⟨15, [(0, vl (eI .i64) aRemoved), (1, vi aAt)], []⟩ ?_
  refine swp_seq ?_
  obtain ⟨x1, hx1, h⟩ := bind_some h
  obtain ⟨x2, hx2, h⟩ := bind_some h
  obtain ⟨x3, hx3, h⟩ := bind_some h
  obtain ⟨x4, hx4, h⟩ := bind_some h
  refine swp_dr mixed ?_
  refine DGo.enum (σE := ⟨15, [(4, .own 14)], [(14, oa 2 1 (eI .i64) x4)]⟩) (n := 11) (L0 := #[false, false, false, false, false, false, false, false, false, false, false]) (by kernel_rfl) (by kernel_rfl) (fun K hk => ?_) ?_
  refine DE.share (fuel := 0) (L := #[true, true, true, true, true, true, true, true, true, true, true]) (σ := ⟨15, [(4, .own 14)], [(14, oa 2 1 (eI .i64) x4)]⟩) ?_ (fun d20 => ?_)
  exact DE.done (by kernel_rfl) hk
  refine DE.share (fuel := 1) (L := #[true, true, true, true, true, true, true, true, true, true, false]) (σ := ⟨15, [(14, .own 14)], [(14, oa 2 1 (eI .i64) x4)]⟩) ?_ (fun d19 => ?_)
  exact DE.take (i := 10) (L' := #[true, true, true, true, true, true, true, true, true, true, true]) rfl (.inr rfl) rfl (by kernel_rfl) (by kernel_rfl) (by kernel_rfl) (EStep.le (EStep.ofN2 tbok (σ' := ⟨15, [(4, .own 14), (14, .own 14)], [(14, oa 2 1 (eI .i64) x4)]⟩) (by kernel_rfl)) Le.sub0) (by kernel_rfl) d20
  refine DE.share (fuel := 2) (L := #[true, true, true, true, true, true, true, true, true, false, false]) (σ := ⟨15, [(9, .own 9), (13, vl (eI .i64) x3)], [(9, oa 2 1 (eI .i64) x2)]⟩) ?_ (fun d18 => ?_)
  exact DE.all [9] (by kernel_rfl) (by simp) (List.forall_mem_cons.2 ⟨DEs.mk (i := 9) (L' := #[true, true, true, true, true, true, true, true, true, true, false]) rfl (EStep.le (x_append (f := (eI .i64)) (t := 26) (ti := ti26) (tj := ti2) (zs := [.int .i64 0]) (e := 2) (m := 1) (d := 9) (xv := vl (eI .i64) x3) hx4 tbok rfl rfl rfl rfl (src_e (fun _ => rfl))) Le.sub0) (by kernel_rfl) d19, (fun _ h => absurd h List.not_mem_nil)⟩)
  refine DE.share (fuel := 3) (L := #[true, true, true, true, false, true, true, true, true, false, false]) (σ := ⟨15, [(5, .own 5), (8, vl (eI .i64) x1), (13, vl (eI .i64) x3)], [(5, oa 2 1 (eI .i64) ([] : List Int))]⟩) ?_ (fun d17 => ?_)
  exact DE.all [4] (by kernel_rfl) (by simp) (List.forall_mem_cons.2 ⟨DEs.mk (i := 4) (L' := #[true, true, true, true, true, true, true, true, true, false, false]) rfl (EStep.le (x_append (f := (eI .i64)) (t := 26) (ti := ti26) (tj := ti2) (zs := [.int .i64 0]) (e := 2) (m := 1) (d := 5) (xv := vl (eI .i64) x1) hx2 tbok rfl rfl rfl rfl (src_e (fun _ => rfl))) Le.sub0) (by kernel_rfl) d18, (fun _ h => absurd h List.not_mem_nil)⟩)
  refine DE.share (fuel := 3) (L := #[true, true, true, true, true, true, true, true, false, false, false]) (σ := ⟨15, [(9, .own 9), (10, vl (eI .i64) aRemoved), (12, vi (w64 (aAt + 1)))], [(9, oa 2 1 (eI .i64) x2)]⟩) ?_ (fun d16 => ?_)
  exact DE.all [8] (by kernel_rfl) (by simp) (List.forall_mem_cons.2 ⟨DEs.mk (i := 8) (L' := #[true, true, true, true, true, true, true, true, true, false, false]) rfl (EStep.le (EStep.ofL (x_slice (m := 1) (f := (eI .i64)) (ti := ti26) (tj := ti2) (e := 2) hx3 (fun _ => rfl) tbok rfl) (by kernel_rfl)) Le.sub0) (by kernel_rfl) d18, (fun _ h => absurd h List.not_mem_nil)⟩)
  refine DE.share (fuel := 4) (L := #[false, true, true, true, false, true, true, true, true, false, false]) (σ := ⟨15, [(8, vl (eI .i64) x1), (13, vl (eI .i64) x3)], []⟩) ?_ (fun d15 => ?_)
  exact DE.all [0] (by kernel_rfl) (by simp) (List.forall_mem_cons.2 ⟨DEs.mk (i := 0) (L' := #[true, true, true, true, false, true, true, true, true, false, false]) rfl (EStep.ofN2 tbok (σ' := ⟨15, [(5, .own 5), (8, vl (eI .i64) x1), (13, vl (eI .i64) x3)], [(5, oa 2 1 (eI .i64) ([] : List Int))]⟩) (by kernel_rfl)) (by kernel_rfl) d17, (fun _ h => absurd h List.not_mem_nil)⟩)
  refine DE.share (fuel := 4) (L := #[true, true, true, false, false, true, true, true, true, false, false]) (σ := ⟨15, [(5, .own 5), (6, vl (eI .i64) aRemoved), (7, vi aAt), (13, vl (eI .i64) x3)], [(5, oa 2 1 (eI .i64) ([] : List Int))]⟩) ?_ (fun d14 => ?_)
  exact DE.all [3] (by kernel_rfl) (by simp) (List.forall_mem_cons.2 ⟨DEs.mk (i := 3) (L' := #[true, true, true, true, false, true, true, true, true, false, false]) rfl (EStep.le (EStep.ofL (x_slice (m := 1) (f := (eI .i64)) (ti := ti26) (tj := ti2) (e := 2) hx1 (fun _ => rfl) tbok rfl) (by kernel_rfl)) Le.sub0) (by kernel_rfl) d17, (fun _ h => absurd h List.not_mem_nil)⟩)
  refine DE.share (fuel := 4) (L := #[true, true, true, true, false, true, true, true, false, false, false]) (σ := ⟨15, [(5, .own 5), (8, vl (eI .i64) x1), (10, vl (eI .i64) aRemoved), (12, vi (w64 (aAt + 1)))], [(5, oa 2 1 (eI .i64) ([] : List Int))]⟩) ?_ (fun d13 => ?_)
  exact DE.all [4, 8] (by kernel_rfl) (by simp) (List.forall_mem_cons.2 ⟨DEs.mk (i := 4) (L' := #[true, true, true, true, true, true, true, true, false, false, false]) rfl (EStep.le (x_append (f := (eI .i64)) (t := 26) (ti := ti26) (tj := ti2) (zs := [.int .i64 0]) (e := 2) (m := 1) (d := 5) (xv := vl (eI .i64) x1) hx2 tbok rfl rfl rfl rfl (src_e (fun _ => rfl))) Le.sub0) (by kernel_rfl) d16, (List.forall_mem_cons.2 ⟨DEs.mk (i := 8) (L' := #[true, true, true, true, false, true, true, true, true, false, false]) rfl (EStep.le (EStep.ofL (x_slice (m := 1) (f := (eI .i64)) (ti := ti26) (tj := ti2) (e := 2) hx3 (fun _ => rfl) tbok rfl) (by kernel_rfl)) Le.sub0) (by kernel_rfl) d17, (fun _ h => absurd h List.not_mem_nil)⟩)⟩)
  refine DE.share (fuel := 4) (L := #[true, true, true, true, true, true, true, false, false, false, false]) (σ := ⟨15, [(9, .own 9), (10, vl (eI .i64) aRemoved), (11, vi aAt)], [(9, oa 2 1 (eI .i64) x2)]⟩) ?_ (fun d12 => ?_)
  exact DE.all [7] (by kernel_rfl) (by simp) (List.forall_mem_cons.2 ⟨DEs.mk (i := 7) (L' := #[true, true, true, true, true, true, true, true, false, false, false]) rfl (EStep.le (EStep.ofN2 tbok (σ' := ⟨15, [(12, vi (w64 (aAt + 1))), (9, .own 9), (10, vl (eI .i64) aRemoved), (11, vi aAt)], [(9, oa 2 1 (eI .i64) x2)]⟩) (by kernel_rfl)) Le.sub0) (by kernel_rfl) d16, (fun _ h => absurd h List.not_mem_nil)⟩)
  refine DE.share (fuel := 5) (L := #[false, true, true, false, false, true, true, true, true, false, false]) (σ := ⟨15, [(6, vl (eI .i64) aRemoved), (7, vi aAt), (13, vl (eI .i64) x3)], []⟩) ?_ (fun d11 => ?_)
  exact DE.all [0, 3] (by kernel_rfl) (by simp) (List.forall_mem_cons.2 ⟨DEs.mk (i := 0) (L' := #[true, true, true, false, false, true, true, true, true, false, false]) rfl (EStep.ofN2 tbok (σ' := ⟨15, [(5, .own 5), (6, vl (eI .i64) aRemoved), (7, vi aAt), (13, vl (eI .i64) x3)], [(5, oa 2 1 (eI .i64) ([] : List Int))]⟩) (by kernel_rfl)) (by kernel_rfl) d14, (List.forall_mem_cons.2 ⟨DEs.mk (i := 3) (L' := #[false, true, true, true, false, true, true, true, true, false, false]) rfl (EStep.le (EStep.ofL (x_slice (m := 1) (f := (eI .i64)) (ti := ti26) (tj := ti2) (e := 2) hx1 (fun _ => rfl) tbok rfl) (by kernel_rfl)) Le.sub0) (by kernel_rfl) d15, (fun _ h => absurd h List.not_mem_nil)⟩)⟩)
  refine DE.share (fuel := 5) (L := #[false, true, true, true, false, true, true, true, false, false, false]) (σ := ⟨15, [(8, vl (eI .i64) x1), (10, vl (eI .i64) aRemoved), (12, vi (w64 (aAt + 1)))], []⟩) ?_ (fun d10 => ?_)
  exact DE.all [0, 8] (by kernel_rfl) (by simp) (List.forall_mem_cons.2 ⟨DEs.mk (i := 0) (L' := #[true, true, true, true, false, true, true, true, false, false, false]) rfl (EStep.ofN2 tbok (σ' := ⟨15, [(5, .own 5), (8, vl (eI .i64) x1), (10, vl (eI .i64) aRemoved), (12, vi (w64 (aAt + 1)))], [(5, oa 2 1 (eI .i64) ([] : List Int))]⟩) (by kernel_rfl)) (by kernel_rfl) d13, (List.forall_mem_cons.2 ⟨DEs.mk (i := 8) (L' := #[false, true, true, true, false, true, true, true, true, false, false]) rfl (EStep.le (EStep.ofL (x_slice (m := 1) (f := (eI .i64)) (ti := ti26) (tj := ti2) (e := 2) hx3 (fun _ => rfl) tbok rfl) (by kernel_rfl)) Le.sub0) (by kernel_rfl) d15, (fun _ h => absurd h List.not_mem_nil)⟩)⟩)
  refine DE.share (fuel := 5) (L := #[true, true, true, false, false, true, true, true, false, false, false]) (σ := ⟨15, [(5, .own 5), (6, vl (eI .i64) aRemoved), (7, vi aAt), (10, vl (eI .i64) aRemoved), (12, vi (w64 (aAt + 1)))], [(5, oa 2 1 (eI .i64) ([] : List Int))]⟩) ?_ (fun d9 => ?_)
  exact DE.all [3, 8] (by kernel_rfl) (by simp) (List.forall_mem_cons.2 ⟨DEs.mk (i := 3) (L' := #[true, true, true, true, false, true, true, true, false, false, false]) rfl (EStep.le (EStep.ofL (x_slice (m := 1) (f := (eI .i64)) (ti := ti26) (tj := ti2) (e := 2) hx1 (fun _ => rfl) tbok rfl) (by kernel_rfl)) Le.sub0) (by kernel_rfl) d13, (List.forall_mem_cons.2 ⟨DEs.mk (i := 8) (L' := #[true, true, true, false, false, true, true, true, true, false, false]) rfl (EStep.le (EStep.ofL (x_slice (m := 1) (f := (eI .i64)) (ti := ti26) (tj := ti2) (e := 2) hx3 (fun _ => rfl) tbok rfl) (by kernel_rfl)) Le.sub0) (by kernel_rfl) d14, (fun _ h => absurd h List.not_mem_nil)⟩)⟩)
  refine DE.share (fuel := 5) (L := #[true, true, true, true, false, true, true, false, false, false, false]) (σ := ⟨15, [(5, .own 5), (8, vl (eI .i64) x1), (10, vl (eI .i64) aRemoved), (11, vi aAt)], [(5, oa 2 1 (eI .i64) ([] : List Int))]⟩) ?_ (fun d8 => ?_)
  exact DE.all [4, 7] (by kernel_rfl) (by simp) (List.forall_mem_cons.2 ⟨DEs.mk (i := 4) (L' := #[true, true, true, true, true, true, true, false, false, false, false]) rfl (EStep.le (x_append (f := (eI .i64)) (t := 26) (ti := ti26) (tj := ti2) (zs := [.int .i64 0]) (e := 2) (m := 1) (d := 5) (xv := vl (eI .i64) x1) hx2 tbok rfl rfl rfl rfl (src_e (fun _ => rfl))) Le.sub0) (by kernel_rfl) d12, (List.forall_mem_cons.2 ⟨DEs.mk (i := 7) (L' := #[true, true, true, true, false, true, true, true, false, false, false]) rfl (EStep.le (EStep.ofN2 tbok (σ' := ⟨15, [(12, vi (w64 (aAt + 1))), (5, .own 5), (8, vl (eI .i64) x1), (10, vl (eI .i64) aRemoved), (11, vi aAt)], [(5, oa 2 1 (eI .i64) ([] : List Int))]⟩) (by kernel_rfl)) Le.sub0) (by kernel_rfl) d13, (fun _ h => absurd h List.not_mem_nil)⟩)⟩)
  refine DE.share (fuel := 6) (L := #[false, true, true, false, false, true, true, true, false, false, false]) (σ := ⟨15, [(6, vl (eI .i64) aRemoved), (7, vi aAt), (10, vl (eI .i64) aRemoved), (12, vi (w64 (aAt + 1)))], []⟩) ?_ (fun d7 => ?_)
  exact DE.all [0, 3, 8] (by kernel_rfl) (by simp) (List.forall_mem_cons.2 ⟨DEs.mk (i := 0) (L' := #[true, true, true, false, false, true, true, true, false, false, false]) rfl (EStep.ofN2 tbok (σ' := ⟨15, [(5, .own 5), (6, vl (eI .i64) aRemoved), (7, vi aAt), (10, vl (eI .i64) aRemoved), (12, vi (w64 (aAt + 1)))], [(5, oa 2 1 (eI .i64) ([] : List Int))]⟩) (by kernel_rfl)) (by kernel_rfl) d9, (List.forall_mem_cons.2 ⟨DEs.mk (i := 3) (L' := #[false, true, true, true, false, true, true, true, false, false, false]) rfl (EStep.le (EStep.ofL (x_slice (m := 1) (f := (eI .i64)) (ti := ti26) (tj := ti2) (e := 2) hx1 (fun _ => rfl) tbok rfl) (by kernel_rfl)) Le.sub0) (by kernel_rfl) d10, (List.forall_mem_cons.2 ⟨DEs.mk (i := 8) (L' := #[false, true, true, false, false, true, true, true, true, false, false]) rfl (EStep.le (EStep.ofL (x_slice (m := 1) (f := (eI .i64)) (ti := ti26) (tj := ti2) (e := 2) hx3 (fun _ => rfl) tbok rfl) (by kernel_rfl)) Le.sub0) (by kernel_rfl) d11, (fun _ h => absurd h List.not_mem_nil)⟩)⟩)⟩)
  refine DE.share (fuel := 6) (L := #[false, true, true, true, false, true, true, false, false, false, false]) (σ := ⟨15, [(8, vl (eI .i64) x1), (10, vl (eI .i64) aRemoved), (11, vi aAt)], []⟩) ?_ (fun d6 => ?_)
  exact DE.all [0, 7] (by kernel_rfl) (by simp) (List.forall_mem_cons.2 ⟨DEs.mk (i := 0) (L' := #[true, true, true, true, false, true, true, false, false, false, false]) rfl (EStep.ofN2 tbok (σ' := ⟨15, [(5, .own 5), (8, vl (eI .i64) x1), (10, vl (eI .i64) aRemoved), (11, vi aAt)], [(5, oa 2 1 (eI .i64) ([] : List Int))]⟩) (by kernel_rfl)) (by kernel_rfl) d8, (List.forall_mem_cons.2 ⟨DEs.mk (i := 7) (L' := #[false, true, true, true, false, true, true, true, false, false, false]) rfl (EStep.le (EStep.ofN2 tbok (σ' := ⟨15, [(12, vi (w64 (aAt + 1))), (8, vl (eI .i64) x1), (10, vl (eI .i64) aRemoved), (11, vi aAt)], []⟩) (by kernel_rfl)) Le.sub0) (by kernel_rfl) d10, (fun _ h => absurd h List.not_mem_nil)⟩)⟩)
  refine DE.share (fuel := 6) (L := #[true, true, true, false, false, true, true, false, false, false, false]) (σ := ⟨15, [(5, .own 5), (6, vl (eI .i64) aRemoved), (7, vi aAt), (10, vl (eI .i64) aRemoved), (11, vi aAt)], [(5, oa 2 1 (eI .i64) ([] : List Int))]⟩) ?_ (fun d5 => ?_)
  exact DE.all [3, 7] (by kernel_rfl) (by simp) (List.forall_mem_cons.2 ⟨DEs.mk (i := 3) (L' := #[true, true, true, true, false, true, true, false, false, false, false]) rfl (EStep.le (EStep.ofL (x_slice (m := 1) (f := (eI .i64)) (ti := ti26) (tj := ti2) (e := 2) hx1 (fun _ => rfl) tbok rfl) (by kernel_rfl)) Le.sub0) (by kernel_rfl) d8, (List.forall_mem_cons.2 ⟨DEs.mk (i := 7) (L' := #[true, true, true, false, false, true, true, true, false, false, false]) rfl (EStep.le (EStep.ofN2 tbok (σ' := ⟨15, [(12, vi (w64 (aAt + 1))), (5, .own 5), (6, vl (eI .i64) aRemoved), (7, vi aAt), (10, vl (eI .i64) aRemoved), (11, vi aAt)], [(5, oa 2 1 (eI .i64) ([] : List Int))]⟩) (by kernel_rfl)) Le.sub0) (by kernel_rfl) d9, (fun _ h => absurd h List.not_mem_nil)⟩)⟩)
  refine DE.share (fuel := 7) (L := #[false, true, true, false, false, true, true, false, false, false, false]) (σ := ⟨15, [(6, vl (eI .i64) aRemoved), (7, vi aAt), (10, vl (eI .i64) aRemoved), (11, vi aAt)], []⟩) ?_ (fun d4 => ?_)
  exact DE.all [0, 3, 7] (by kernel_rfl) (by simp) (List.forall_mem_cons.2 ⟨DEs.mk (i := 0) (L' := #[true, true, true, false, false, true, true, false, false, false, false]) rfl (EStep.ofN2 tbok (σ' := ⟨15, [(5, .own 5), (6, vl (eI .i64) aRemoved), (7, vi aAt), (10, vl (eI .i64) aRemoved), (11, vi aAt)], [(5, oa 2 1 (eI .i64) ([] : List Int))]⟩) (by kernel_rfl)) (by kernel_rfl) d5, (List.forall_mem_cons.2 ⟨DEs.mk (i := 3) (L' := #[false, true, true, true, false, true, true, false, false, false, false]) rfl (EStep.le (EStep.ofL (x_slice (m := 1) (f := (eI .i64)) (ti := ti26) (tj := ti2) (e := 2) hx1 (fun _ => rfl) tbok rfl) (by kernel_rfl)) Le.sub0) (by kernel_rfl) d6, (List.forall_mem_cons.2 ⟨DEs.mk (i := 7) (L' := #[false, true, true, false, false, true, true, true, false, false, false]) rfl (EStep.le (EStep.ofN2 tbok (σ' := ⟨15, [(12, vi (w64 (aAt + 1))), (6, vl (eI .i64) aRemoved), (7, vi aAt), (10, vl (eI .i64) aRemoved), (11, vi aAt)], []⟩) (by kernel_rfl)) Le.sub0) (by kernel_rfl) d7, (fun _ h => absurd h List.not_mem_nil)⟩)⟩)⟩)
  refine DE.share (fuel := 8) (L := #[false, true, true, false, false, true, false, false, false, false, false]) (σ := ⟨15, [(1, vi aAt), (6, vl (eI .i64) aRemoved), (7, vi aAt), (10, vl (eI .i64) aRemoved)], []⟩) ?_ (fun d3 => ?_)
  exact DE.take (i := 6) (L' := #[false, true, true, false, false, true, true, false, false, false, false]) rfl (.inl rfl) rfl (by kernel_rfl) (by kernel_rfl) (by kernel_rfl) (EStep.le (EStep.ofN2 tbok (σ' := ⟨15, [(11, vi aAt), (1, vi aAt), (6, vl (eI .i64) aRemoved), (7, vi aAt), (10, vl (eI .i64) aRemoved)], []⟩) (by kernel_rfl)) Le.sub0) (by kernel_rfl) d4
  refine DE.share (fuel := 9) (L := #[false, true, true, false, false, false, false, false, false, false, false]) (σ := ⟨15, [(0, vl (eI .i64) aRemoved), (1, vi aAt), (6, vl (eI .i64) aRemoved), (7, vi aAt)], []⟩) ?_ (fun d2 => ?_)
  exact DE.take (i := 5) (L' := #[false, true, true, false, false, true, false, false, false, false, false]) rfl (.inl rfl) rfl (by kernel_rfl) (by kernel_rfl) (by kernel_rfl) (EStep.le (EStep.ofN2 tbok (σ' := ⟨15, [(10, vl (eI .i64) aRemoved), (0, vl (eI .i64) aRemoved), (1, vi aAt), (6, vl (eI .i64) aRemoved), (7, vi aAt)], []⟩) (by kernel_rfl)) Le.sub0) (by kernel_rfl) d3
  refine DE.share (fuel := 10) (L := #[false, true, false, false, false, false, false, false, false, false, false]) (σ := ⟨15, [(0, vl (eI .i64) aRemoved), (1, vi aAt), (6, vl (eI .i64) aRemoved)], []⟩) ?_ (fun d1 => ?_)
  exact DE.take (i := 2) (L' := #[false, true, true, false, false, false, false, false, false, false, false]) rfl (.inl rfl) rfl (by kernel_rfl) (by kernel_rfl) (by kernel_rfl) (EStep.le (EStep.ofN2 tbok (σ' := ⟨15, [(7, vi aAt), (0, vl (eI .i64) aRemoved), (1, vi aAt), (6, vl (eI .i64) aRemoved)], []⟩) (by kernel_rfl)) Le.sub0) (by kernel_rfl) d2
  exact DE.take (i := 1) (L' := #[false, true, false, false, false, false, false, false, false, false, false]) rfl (.inl rfl) rfl (by kernel_rfl) (by kernel_rfl) (by kernel_rfl) (EStep.le (EStep.ofN2 tbok (σ' := ⟨15, [(6, vl (eI .i64) aRemoved), (0, vl (eI .i64) aRemoved), (1, vi aAt)], []⟩) (by kernel_rfl)) Le.sub0) (by kernel_rfl) d1
  refine nx_n ?_
  refine swp_ret ?_
  obtain rfl := inj h
  exact q_fr (f1 (fo (eI_flat .i64)))
theorem ents136 : Ents Tryz.prog 136 := ents_of Tryz.func136 (by kernel_rfl) rfl
noncomputable def spec_l22Minimal (aList : (List Claim)) (aRemoved : (List Int)) : Option (Bool) :=
  ((spec_l22Repair aList aRemoved).bind fun x1 => (bif (!x1) then some false else (((forN (aRemoved.length : Int) (fun (i4 : Int) (_ : Unit) => ((spec_l22Without aRemoved i4).bind fun x8 => ((spec_l22Repair aList x8).bind fun x9 => (bif x9 then some (.inr (.inr false)) else some (.inl ()))))) (fun (_ : Unit) => .inl ()) 0 ())).bind (Sum.elim (fun (_ : Unit) => some true) some))))
theorem spec_l22Minimal_run (aList : (List Claim)) (aRemoved : (List Int)) (r : Bool) (h : spec_l22Minimal aList aRemoved = some r) : SCall Tryz.prog 127 [.v (vl eClaim aList), .v (vl (eI .i64) aRemoved)] ⟨[.v (vb r)], [], false⟩ := by
  refine scall_in Tryz.func127 rfl [(.tmp 4)] rfl (fun r => ⟨[.v (vb r)], [], false⟩) (r := r) ?_
  unfold spec_l22Minimal at h
  refine srk tbok ⟨21, [(0, vl eClaim aList), (1, vl (eI .i64) aRemoved)], []⟩ ?_
  refine swp_seq ?_
  refine sr ?_
  refine SRun.ck tbok 2 ⟨21, [(0, vl eClaim aList), (1, vl (eI .i64) aRemoved), (6, vl eClaim aList), (7, vl (eI .i64) aRemoved)], []⟩ ?_
  obtain ⟨x1, hx1, h⟩ := bind_some h
  refine SRun.ls (xc ents126 (spec_l22Repair_run aList aRemoved _ hx1)) ?_
  refine ckn tbok 1 ⟨21, [(0, vl eClaim aList), (1, vl (eI .i64) aRemoved), (9, vb (!x1))], []⟩ ?_
  refine swp_cd h (fun h => ?_) fun h => ?_
  refine srk tbok ⟨21, [(4, vb false)], []⟩ ?_
  refine swp_ret ?_
  obtain rfl := inj h
  exact nx_r (q_fr (f1 fv))
  refine swp_skip ?_
  refine nx_n ?_
  refine swp_seq ?_
  refine srk tbok ⟨21, [(0, vl eClaim aList), (1, vl (eI .i64) aRemoved), (5, vi 0)], []⟩ ?_
  refine swp_seqE (r := r) h (fun j2 => ⟨21, [], []⟩) (fun v3 h => ?_) (fun j2 h => ?_)
  refine swp_blk (a := v3) ?_
  refine swp_lpL (r := v3) (s := (0, ())) _ (fun s4 => ⟨21, [(0, vl eClaim aList), (1, vl (eI .i64) aRemoved), (5, vi s4.1)], []⟩) _ (Le.sub0) h (fun s4 v5 h => ?_)
  refine swp_seq ?_
  refine srk tbok ⟨21, [(0, vl eClaim aList), (1, vl (eI .i64) aRemoved), (5, vi s4.1), (13, vb (decide (s4.1 < (aRemoved.length : Int))))], []⟩ ?_
  refine swp_cd h (fun h => ?_) fun h => ?_
  refine swp_skip ?_
  refine nx_n ?_
  refine swp_seq ?_
  refine swp_seqL (r := v5) h (fun j6 => ⟨21, [(0, vl eClaim aList), (1, vl (eI .i64) aRemoved), (5, vi s4.1)], []⟩) (fun v7 h => ?_) (fun j6 h => ?_)
  refine swp_blk (a := v7) ?_
  refine sr ?_
  refine SRun.ck tbok 3 ⟨21, [(0, vl eClaim aList), (1, vl (eI .i64) aRemoved), (5, vi s4.1), (16, vl eClaim aList), (17, vl (eI .i64) aRemoved), (18, vi s4.1)], []⟩ ?_
  obtain ⟨x8, hx8, h⟩ := bind_some h
  refine SRun.ls (xc ents136 (spec_l22Without_run aRemoved s4.1 _ hx8)) ?_
  obtain ⟨x9, hx9, h⟩ := bind_some h
  refine SRun.ls (xc ents126 (spec_l22Repair_run aList x8 _ hx9)) ?_
  refine SRun.nx ?_
  refine swp_cd h (fun h => ?_) fun h => ?_
  refine srk tbok ⟨21, [(4, vb false)], []⟩ ?_
  refine swp_ret ?_
  obtain rfl := inj h
  exact q_br (q_rr (q_rr (q_br (q_rr (q_fr (f1 fv))))))
  refine swp_skip ?_
  obtain rfl := inj h
  exact q_bn (q_l (Le.sub0))
  refine swp_reg ?_
  refine SRun.ck tbok 3 ⟨21, [(0, vl eClaim aList), (1, vl (eI .i64) aRemoved), (5, vi (w64 (s4.1 + 1)))], []⟩ ?_
  refine SRun.nil ?_
  obtain rfl := inj h
  exact q_l (Le.sub0)
  refine swp_exit ?_
  obtain rfl := inj h
  exact nx_e (q_re (q_bh (q_l (Le.sub0))))
  refine srk tbok ⟨21, [(4, vb true)], []⟩ ?_
  refine swp_ret ?_
  obtain rfl := inj h
  exact q_fr (f1 fv)
theorem ents127 : Ents Tryz.prog 127 := ents_of Tryz.func127 (by kernel_rfl) rfl
noncomputable def spec_l01Own (aList : (List Int)) : Option ((List Int)) :=
  ((app' ([] : List Int) aList).bind fun x1 => some x1)
theorem spec_l01Own_run (aList : (List Int)) (r : (List Int)) (h : spec_l01Own aList = some r) : SCall Tryz.prog 90 [.v (vl (eI .i64) aList)] ⟨[.own 2 1 r.length (r.map (eI .i64))], [], false⟩ := by
  refine scall_in Tryz.func90 rfl [(.tmp 2)] rfl (fun r => ⟨[.own 2 1 r.length (r.map (eI .i64))], [], false⟩) (r := r) ?_
  unfold spec_l01Own at h
  refine srk tbok ⟨6, [(0, vl (eI .i64) aList)], []⟩ ?_
  refine sr ?_
  refine SRun.ck tbok 2 ⟨6, [(3, .own 3), (4, vl (eI .i64) aList)], [(3, oa 2 1 (eI .i64) ([] : List Int))]⟩ ?_
  obtain ⟨x1, hx1, h⟩ := bind_some h
  refine SRun.estep (x_append (f := (eI .i64)) (t := 26) (ti := ti26) (tj := ti2) (zs := [.int .i64 0]) (e := 2) (m := 1) (d := 3) (xv := vl (eI .i64) aList) hx1 tbok rfl rfl rfl rfl (src_e (fun _ => rfl))) ?_
  refine ckn tbok 1 ⟨6, [(2, .own 5)], [(5, oa 2 1 (eI .i64) x1)]⟩ ?_
  refine swp_ret ?_
  obtain rfl := inj h
  exact q_fr (f1 (fo (eI_flat .i64)))
theorem ents90 : Ents Tryz.prog 90 := ents_of Tryz.func90 (by kernel_rfl) rfl
noncomputable def spec_l22All_f : Nat → (List Claim) → (List Int) → Option ((List (List Int)))
  | 0, _, _ => none
  | fuel + 1, aList, aRemoved =>
  ((spec_l22Repair aList aRemoved).bind fun x1 => (bif x1 then ((spec_l22Minimal aList aRemoved).bind fun x2 => (bif x2 then some ([aRemoved] : List (List Int)) else some ([] : List (List Int)))) else (((bif (decide ((aRemoved.length : Int) > 0)) then ((at' aRemoved (w64 ((aRemoved.length : Int) - 1))).bind fun x5 => some (w64 (x5 + 1))) else some 0)).bind fun (j3 : Int) => (((forS (aList.length : Int) (fun (i8 : Int) (s8 : (List (List Int))) => ((spec_l01Own aRemoved).bind fun x12 => ((app' x12 ([i8] : List Int)).bind fun x13 => ((spec_l22All_f fuel aList x13).bind fun x14 => ((app' s8 x14).bind fun x15 => some x15))))) (fun (s8 : (List (List Int))) => s8) j3 ([] : List (List Int)))).bind fun (j6 : (List (List Int))) => some j6))))
noncomputable def spec_l22All (aList : (List Claim)) (aRemoved : (List Int)) : Option ((List (List Int))) := spec_l22All_f 1000 aList aRemoved
theorem ents75 : Ents Tryz.prog 75 := ents_of Tryz.func75 (by kernel_rfl) rfl
theorem spec_l22All_f_run : ∀ (fuel : Nat) (aList : (List Claim)) (aRemoved : (List Int)) (r : (List (List Int))), spec_l22All_f fuel aList aRemoved = some r → SCall Tryz.prog 75 [.v (vl eClaim aList), .v (vl (eI .i64) aRemoved)] ⟨[.own 26 1 r.length (r.map (eL (eI .i64)))], [], true⟩ := by
  intro fuel
  induction fuel with
  | zero => intro aList aRemoved r h; cases h
  | succ fuel ih =>
  intro aList aRemoved r h
  refine scall_in Tryz.func75 rfl [(.tmp 4)] rfl (fun r => ⟨[.own 26 1 r.length (r.map (eL (eI .i64)))], [], true⟩) (r := r) ?_
  unfold spec_l22All_f at h
  refine srk tbok ⟨45, [(0, vl eClaim aList), (1, vl (eI .i64) aRemoved)], []⟩ ?_
  refine swp_seq ?_
  refine sr ?_
  refine SRun.ck tbok 2 ⟨45, [(0, vl eClaim aList), (1, vl (eI .i64) aRemoved), (8, vl eClaim aList), (9, vl (eI .i64) aRemoved)], []⟩ ?_
  obtain ⟨x1, hx1, h⟩ := bind_some h
  refine SRun.ls (xc ents126 (spec_l22Repair_run aList aRemoved _ hx1)) ?_
  refine SRun.nx ?_
  refine swp_cd h (fun h => ?_) fun h => ?_
  refine swp_seq ?_
  refine sr ?_
  refine SRun.ck tbok 2 ⟨45, [(1, vl (eI .i64) aRemoved), (11, vl eClaim aList), (12, vl (eI .i64) aRemoved)], []⟩ ?_
  obtain ⟨x2, hx2, h⟩ := bind_some h
  refine SRun.ls (xc ents127 (spec_l22Minimal_run aList aRemoved _ hx2)) ?_
  refine SRun.nx ?_
  refine swp_cd h (fun h => ?_) fun h => ?_
  refine srk tbok ⟨45, [(4, .own 15)], [(15, oa 26 1 (eL (eI .i64)) ([aRemoved] : List (List Int)))]⟩ ?_
  refine swp_ret ?_
  obtain rfl := inj h
  exact nx_r (nx_r (q_fr (f1 (finOT (d := 15) (holds_t (by kernel_rfl)) (by kernel_rfl) (by kernel_rfl)))))
  refine swp_skip ?_
  refine nx_n ?_
  refine srk tbok ⟨45, [(4, .own 16)], [(16, oa 26 1 (eL (eI .i64)) ([] : List (List Int)))]⟩ ?_
  refine swp_ret ?_
  obtain rfl := inj h
  exact nx_r (q_fr (f1 (finOT (d := 16) (holds_t (by kernel_rfl)) (by kernel_rfl) (by kernel_rfl))))
  refine swp_skip ?_
  refine nx_n ?_
  refine srk tbok ⟨45, [(0, vl eClaim aList), (1, vl (eI .i64) aRemoved), (5, .own 17)], [(17, oa 26 1 (eL (eI .i64)) ([] : List (List Int)))]⟩ ?_
  refine srk tbok ⟨45, [(0, vl eClaim aList), (1, vl (eI .i64) aRemoved), (5, .own 17), (6, vi 0)], [(17, oa 26 1 (eL (eI .i64)) ([] : List (List Int)))]⟩ ?_
  refine swp_seq ?_
  refine srk tbok ⟨45, [(0, vl eClaim aList), (1, vl (eI .i64) aRemoved), (5, .own 17), (6, vi 0), (20, vb (decide ((aRemoved.length : Int) > 0)))], [(17, oa 26 1 (eL (eI .i64)) ([] : List (List Int)))]⟩ ?_
  refine swp_seqJ h (fun j3 => ⟨45, [(0, vl eClaim aList), (1, vl (eI .i64) aRemoved), (5, .own 5), (6, vi j3)], [(5, oa 26 1 (eL (eI .i64)) ([] : List (List Int)))]⟩) (fun v4 h => ?_) (fun j3 h => ?_)
  refine swp_cd h (fun h => ?_) fun h => ?_
  refine swp_reg ?_
  refine SRun.ck tbok 4 ⟨45, [(0, vl eClaim aList), (1, vl (eI .i64) aRemoved), (5, .own 17), (21, vl (eI .i64) aRemoved), (24, vi (w64 ((aRemoved.length : Int) - 1)))], [(17, oa 26 1 (eL (eI .i64)) ([] : List (List Int)))]⟩ ?_
  obtain ⟨x5, hx5, h⟩ := bind_some h
  refine SRun.ls (x_index (L := aRemoved) (f := (eI .i64)) (ti := ti26) (tj := ti2) (e := 2) (k := .i64) tbok rfl hx5) ?_
  refine SRun.ck tbok 3 ⟨45, [(0, vl eClaim aList), (1, vl (eI .i64) aRemoved), (5, .own 17), (6, vi (w64 (x5 + 1)))], [(17, oa 26 1 (eL (eI .i64)) ([] : List (List Int)))]⟩ ?_
  refine SRun.nil ?_
  obtain rfl := inj h
  exact q_j (Le.rr [17] [(17, 5)])
  refine swp_skip ?_
  obtain rfl := inj h
  exact q_j (Le.rr [17] [(17, 5)])
  refine swp_seq ?_
  refine srk tbok ⟨45, [(0, vl eClaim aList), (1, vl (eI .i64) aRemoved), (5, .own 5), (7, vi j3)], [(5, oa 26 1 (eL (eI .i64)) ([] : List (List Int)))]⟩ ?_
  refine swp_seqJ h (fun j6 => ⟨45, [(5, .own 5)], [(5, oa 26 1 (eL (eI .i64)) j6)]⟩) (fun v7 h => ?_) (fun j6 h => ?_)
  refine swp_blk (a := v7) ?_
  refine swp_lpL (r := v7) (s := (j3, ([] : List (List Int)))) _ (fun s8 => ⟨45, [(0, vl eClaim aList), (1, vl (eI .i64) aRemoved), (5, .own 5), (7, vi s8.1)], [(5, oa 26 1 (eL (eI .i64)) s8.2)]⟩) _ (Le.sub0) h (fun s8 v9 h => ?_)
  refine swp_seq ?_
  refine srk tbok ⟨45, [(0, vl eClaim aList), (1, vl (eI .i64) aRemoved), (5, .own 5), (7, vi s8.1), (32, vb (decide (s8.1 < (aList.length : Int))))], [(5, oa 26 1 (eL (eI .i64)) s8.2)]⟩ ?_
  refine swp_cd h (fun h => ?_) fun h => ?_
  refine swp_skip ?_
  refine nx_n ?_
  refine swp_seq ?_
  refine swp_seqJ h (fun j10 => ⟨45, [(0, vl eClaim aList), (1, vl (eI .i64) aRemoved), (5, .own 5), (7, vi s8.1)], [(5, oa 26 1 (eL (eI .i64)) j10)]⟩) (fun v11 h => ?_) (fun j10 h => ?_)
  refine swp_blk (a := v11) ?_
  refine swp_reg ?_
  refine SRun.ck tbok 3 ⟨45, [(0, vl eClaim aList), (1, vl (eI .i64) aRemoved), (7, vi s8.1), (35, .own 5), (36, vl eClaim aList), (37, vl (eI .i64) aRemoved)], [(5, oa 26 1 (eL (eI .i64)) s8.2)]⟩ ?_
  obtain ⟨x12, hx12, h⟩ := bind_some h
  refine SRun.ls (xc ents90 (spec_l01Own_run aRemoved _ hx12)) ?_
  refine SRun.ck tbok 2 ⟨45, [(0, vl eClaim aList), (1, vl (eI .i64) aRemoved), (7, vi s8.1), (35, .own 5), (36, vl eClaim aList), (38, .own 38), (40, .own 40)], [(5, oa 26 1 (eL (eI .i64)) s8.2), (38, oa 2 1 (eI .i64) x12), (40, oa 2 1 (eI .i64) ([s8.1] : List Int))]⟩ ?_
  obtain ⟨x13, hx13, h⟩ := bind_some h
  refine SRun.estep (x_append (f := (eI .i64)) (t := 26) (ti := ti26) (tj := ti2) (zs := [.int .i64 0]) (e := 2) (m := 1) (d := 38) (xv := .own 40) hx13 tbok rfl rfl rfl rfl (x_src_o (e := 2))) ?_
  refine SRun.le (Le.frz' (d := 41) (e := 2) (m := 1) (n := x13.length) (es := x13.map (eI .i64)) (by kernel_rfl) (by kernel_rfl)) ?_
  obtain ⟨x14, hx14, h⟩ := bind_some h
  refine SRun.ls (xc ents75 (ih aList x13 _ hx14)) ?_
  obtain ⟨x15, hx15, h⟩ := bind_some h
  refine SRun.estep (x_append (f := (eL (eI .i64))) (t := 35) (ti := ti35) (tj := ti26) (zs := [.slice none 0 0]) (e := 26) (m := 1) (d := 5) (xv := .own 42) hx15 tbok rfl rfl rfl rfl (x_src_o (e := 26))) ?_
  refine SRun.ck tbok 1 ⟨45, [(0, vl eClaim aList), (1, vl (eI .i64) aRemoved), (5, .own 43), (7, vi s8.1)], [(43, oa 26 1 (eL (eI .i64)) x15)]⟩ ?_
  refine SRun.nil ?_
  obtain rfl := inj h
  exact q_bn (q_j (Le.rr [43] [(43, 5)]))
  refine swp_reg ?_
  refine SRun.ck tbok 3 ⟨45, [(0, vl eClaim aList), (1, vl (eI .i64) aRemoved), (5, .own 5), (7, vi (w64 (s8.1 + 1)))], [(5, oa 26 1 (eL (eI .i64)) j10)]⟩ ?_
  refine SRun.nil ?_
  obtain rfl := inj h
  exact q_l (Le.sub0)
  refine swp_exit ?_
  obtain rfl := inj h
  exact nx_e (q_re (q_bh (q_j (Le.sub0))))
  refine srk tbok ⟨45, [(4, .own 5)], [(5, oa 26 1 (eL (eI .i64)) j6)]⟩ ?_
  refine swp_ret ?_
  obtain rfl := inj h
  exact q_fr (f1 (finOT (d := 5) (holds_t (by kernel_rfl)) (by kernel_rfl) (by kernel_rfl)))
theorem spec_l22All_run (aList : (List Claim)) (aRemoved : (List Int)) (r : (List (List Int))) (h : spec_l22All aList aRemoved = some r) : SCall Tryz.prog 75 [.v (vl eClaim aList), .v (vl (eI .i64) aRemoved)] ⟨[.own 26 1 r.length (r.map (eL (eI .i64)))], [], true⟩ := spec_l22All_f_run 1000 aList aRemoved r h
noncomputable def spec_l20Weight (aList : (List Claim)) (aIndices : (List Int)) : Option (Int) :=
  (((forS (aIndices.length : Int) (fun (i3 : Int) (s3 : Int) => ((at' aIndices i3).bind fun x7 => ((at' aList x7).bind fun x8 => some (w64 (s3 + x8.Weight))))) (fun (s3 : Int) => s3) 0 0)).bind fun (j1 : Int) => some j1)
theorem spec_l20Weight_run (aList : (List Claim)) (aIndices : (List Int)) (r : Int) (h : spec_l20Weight aList aIndices = some r) : SCall Tryz.prog 76 [.v (vl eClaim aList), .v (vl (eI .i64) aIndices)] ⟨[.v (vi r)], [], false⟩ := by
  refine scall_in Tryz.func76 rfl [(.tmp 4)] rfl (fun r => ⟨[.v (vi r)], [], false⟩) (r := r) ?_
  unfold spec_l20Weight at h
  refine srk tbok ⟨24, [(0, vl eClaim aList), (1, vl (eI .i64) aIndices)], []⟩ ?_
  refine srk tbok ⟨24, [(0, vl eClaim aList), (1, vl (eI .i64) aIndices), (5, vi 0)], []⟩ ?_
  refine swp_seq ?_
  refine srk tbok ⟨24, [(0, vl eClaim aList), (1, vl (eI .i64) aIndices), (5, vi 0), (6, vi 0)], []⟩ ?_
  refine swp_seqJ h (fun j1 => ⟨24, [(5, vi j1)], []⟩) (fun v2 h => ?_) (fun j1 h => ?_)
  refine swp_blk (a := v2) ?_
  refine swp_lpL (r := v2) (s := (0, 0)) _ (fun s3 => ⟨24, [(0, vl eClaim aList), (1, vl (eI .i64) aIndices), (5, vi s3.2), (6, vi s3.1)], []⟩) _ (Le.sub0) h (fun s3 v4 h => ?_)
  refine swp_seq ?_
  refine srk tbok ⟨24, [(0, vl eClaim aList), (1, vl (eI .i64) aIndices), (5, vi s3.2), (6, vi s3.1), (10, vb (decide (s3.1 < (aIndices.length : Int))))], []⟩ ?_
  refine swp_cd h (fun h => ?_) fun h => ?_
  refine swp_skip ?_
  refine nx_n ?_
  refine swp_seq ?_
  refine swp_seqJ h (fun j5 => ⟨24, [(0, vl eClaim aList), (1, vl (eI .i64) aIndices), (5, vi j5), (6, vi s3.1)], []⟩) (fun v6 h => ?_) (fun j5 h => ?_)
  refine swp_blk (a := v6) ?_
  refine swp_reg ?_
  refine SRun.ck tbok 4 ⟨24, [(0, vl eClaim aList), (1, vl (eI .i64) aIndices), (6, vi s3.1), (13, vi s3.2), (14, vl eClaim aList), (15, vl (eI .i64) aIndices), (16, vi s3.1)], []⟩ ?_
  obtain ⟨x7, hx7, h⟩ := bind_some h
  refine SRun.ls (x_index (L := aIndices) (f := (eI .i64)) (ti := ti26) (tj := ti2) (e := 2) (k := .i64) tbok rfl hx7) ?_
  refine SRun.ck tbok 1 ⟨24, [(0, vl eClaim aList), (1, vl (eI .i64) aIndices), (6, vi s3.1), (13, vi s3.2), (14, vl eClaim aList), (18, vi x7)], []⟩ ?_
  obtain ⟨x8, hx8, h⟩ := bind_some h
  refine SRun.ls (x_index (L := aList) (f := eClaim) (ti := ti24) (tj := ti42) (e := 42) (k := .i64) tbok rfl hx8) ?_
  refine SRun.ck tbok 4 ⟨24, [(0, vl eClaim aList), (1, vl (eI .i64) aIndices), (5, vi (w64 (s3.2 + x8.Weight))), (6, vi s3.1)], []⟩ ?_
  refine SRun.nil ?_
  obtain rfl := inj h
  exact q_bn (q_j (Le.sub0))
  refine swp_reg ?_
  refine SRun.ck tbok 3 ⟨24, [(0, vl eClaim aList), (1, vl (eI .i64) aIndices), (5, vi j5), (6, vi (w64 (s3.1 + 1)))], []⟩ ?_
  refine SRun.nil ?_
  obtain rfl := inj h
  exact q_l (Le.sub0)
  refine swp_exit ?_
  obtain rfl := inj h
  exact nx_e (q_re (q_bh (q_j (Le.sub0))))
  refine srk tbok ⟨24, [(4, vi j1)], []⟩ ?_
  refine swp_ret ?_
  obtain rfl := inj h
  exact q_fr (f1 fv)
theorem ents76 : Ents Tryz.prog 76 := ents_of Tryz.func76 (by kernel_rfl) rfl
noncomputable def spec_l22Best (aList : (List Claim)) : Option ((List Int) × Int) :=
  ((spec_l22All aList ([] : List Int)).bind fun x1 => ((at' x1 0).bind fun x2 => (((forS (x1.length : Int) (fun (i5 : Int) (s5 : (List Int)) => ((at' x1 i5).bind fun x9 => ((spec_l20Weight aList x9).bind fun x10 => ((spec_l20Weight aList s5).bind fun x11 => (((bif (decide (x10 < x11)) then some true else (bif (x10 == x11) then ((at' x1 i5).bind fun x12 => some (decide ((x12.length : Int) < (s5.length : Int)))) else some false))).bind fun (j13 : Bool) => (bif j13 then ((at' x1 i5).bind fun x15 => some x15) else some s5)))))) (fun (s5 : (List Int)) => s5) 0 x2)).bind fun (j3 : (List Int)) => ((spec_l20Weight aList j3).bind fun x16 => some (j3, x16)))))
theorem spec_l22Best_run (aList : (List Claim)) (r : (List Int) × Int) (h : spec_l22Best aList = some r) : SCall Tryz.prog 38 [.v (vl eClaim aList)] ⟨[.v (vl (eI .i64) r.1), .v (vi r.2)], [], true⟩ := by
  refine scall_in Tryz.func38 rfl [(.tmp 2), (.tmp 3)] rfl (fun r => ⟨[.v (vl (eI .i64) r.1), .v (vi r.2)], [], true⟩) (r := r) ?_
  unfold spec_l22Best at h
  refine srk tbok ⟨56, [(0, vl eClaim aList)], []⟩ ?_
  refine sr ?_
  refine SRun.ck tbok 2 ⟨56, [(0, vl eClaim aList), (9, vl eClaim aList), (10, .own 10)], [(10, oa 2 1 (eI .i64) ([] : List Int))]⟩ ?_
  refine SRun.le (Le.frz' (d := 10) (e := 2) (m := 1) (n := ([] : List Int).length) (es := ([] : List Int).map (eI .i64)) (by kernel_rfl) (by kernel_rfl)) ?_
  obtain ⟨x1, hx1, h⟩ := bind_some h
  refine SRun.ls (xc ents75 (spec_l22All_run aList ([] : List Int) _ hx1)) ?_
  refine ckn tbok 1 ⟨56, [(0, vl eClaim aList), (4, .own 11)], [(11, oa 26 1 (eL (eI .i64)) x1)]⟩ ?_
  refine sr ?_
  refine SRun.ck tbok 1 ⟨56, [(0, vl eClaim aList), (4, .own 11), (12, .own 11)], [(11, oa 26 1 (eL (eI .i64)) x1)]⟩ ?_
  obtain ⟨x2, hx2, h⟩ := bind_some h
  refine SRun.ls (x_index_own (d := 11) (L := x1) (f := (eL (eI .i64))) (ti := ti35) (tj := ti26) (e := 26) (e' := 26) (m := 1) (k := .i64) tbok rfl hx2) ?_
  refine SRun.ls (x_load_own (d := 11) (m := 1) (j := 0) (L := x1) (f := (eL (eI .i64))) (ti := ti26) (e := 26) (v := vl (eI .i64) x2) tbok rfl hx2) ?_
  refine ckn tbok 1 ⟨56, [(0, vl eClaim aList), (4, .own 11), (5, vl (eI .i64) x2)], [(11, oa 26 1 (eL (eI .i64)) x1)]⟩ ?_
  refine swp_seq ?_
  refine srk tbok ⟨56, [(0, vl eClaim aList), (4, .own 11), (5, vl (eI .i64) x2), (6, vi 0)], [(11, oa 26 1 (eL (eI .i64)) x1)]⟩ ?_
  refine swp_seqJ h (fun j3 => ⟨56, [(0, vl eClaim aList), (5, vl (eI .i64) j3)], []⟩) (fun v4 h => ?_) (fun j3 h => ?_)
  refine swp_blk (a := v4) ?_
  refine swp_lpL (r := v4) (s := (0, x2)) _ (fun s5 => ⟨56, [(0, vl eClaim aList), (4, .own 4), (5, vl (eI .i64) s5.2), (6, vi s5.1)], [(4, oa 26 1 (eL (eI .i64)) x1)]⟩) _ (Le.rr [11] [(11, 4)]) h (fun s5 v6 h => ?_)
  refine swp_seq ?_
  refine srk tbok ⟨56, [(0, vl eClaim aList), (4, .own 4), (5, vl (eI .i64) s5.2), (6, vi s5.1), (18, vb (decide (s5.1 < (x1.length : Int))))], [(4, oa 26 1 (eL (eI .i64)) x1)]⟩ ?_
  refine swp_cd h (fun h => ?_) fun h => ?_
  refine swp_skip ?_
  refine nx_n ?_
  refine swp_seq ?_
  refine swp_seqJ h (fun j7 => ⟨56, [(0, vl eClaim aList), (4, .own 4), (5, vl (eI .i64) j7), (6, vi s5.1)], [(4, oa 26 1 (eL (eI .i64)) x1)]⟩) (fun v8 h => ?_) (fun j7 h => ?_)
  refine swp_blk (a := v8) ?_
  refine sr ?_
  refine SRun.ck tbok 3 ⟨56, [(0, vl eClaim aList), (4, .own 4), (5, vl (eI .i64) s5.2), (6, vi s5.1), (21, vl eClaim aList), (22, .own 4), (23, vi s5.1)], [(4, oa 26 1 (eL (eI .i64)) x1)]⟩ ?_
  obtain ⟨x9, hx9, h⟩ := bind_some h
  refine SRun.ls (x_index_own (d := 4) (L := x1) (f := (eL (eI .i64))) (ti := ti35) (tj := ti26) (e := 26) (e' := 26) (m := 1) (k := .i64) tbok rfl hx9) ?_
  refine SRun.ls (x_load_own (d := 4) (m := 1) (j := 0) (L := x1) (f := (eL (eI .i64))) (ti := ti26) (e := 26) (v := vl (eI .i64) x9) tbok rfl hx9) ?_
  obtain ⟨x10, hx10, h⟩ := bind_some h
  refine SRun.ls (xc ents76 (spec_l20Weight_run aList x9 _ hx10)) ?_
  refine SRun.ck tbok 2 ⟨56, [(0, vl eClaim aList), (4, .own 4), (5, vl (eI .i64) s5.2), (6, vi s5.1), (26, vi x10), (27, vl eClaim aList), (28, vl (eI .i64) s5.2)], [(4, oa 26 1 (eL (eI .i64)) x1)]⟩ ?_
  obtain ⟨x11, hx11, h⟩ := bind_some h
  refine SRun.ls (xc ents76 (spec_l20Weight_run aList s5.2 _ hx11)) ?_
  refine ckn tbok 2 ⟨56, [(0, vl eClaim aList), (4, .own 4), (5, vl (eI .i64) s5.2), (6, vi s5.1), (7, vi x10), (8, vi x11)], [(4, oa 26 1 (eL (eI .i64)) x1)]⟩ ?_
  refine swp_seq ?_
  refine swp_regJ h (fun j13 => ⟨56, [(0, vl eClaim aList), (4, .own 4), (5, vl (eI .i64) s5.2), (6, vi s5.1), (47, vb j13)], [(4, oa 26 1 (eL (eI .i64)) x1)]⟩) (fun v14 h => ?_) (fun j13 h => ?_)
  refine SRun.ck tbok 4 ⟨56, [(0, vl eClaim aList), (4, .own 4), (5, vl (eI .i64) s5.2), (6, vi s5.1), (7, vi x10), (8, vi x11), (33, vb (decide (x10 < x11)))], [(4, oa 26 1 (eL (eI .i64)) x1)]⟩ ?_
  refine SRun.cu [(33, fun b => b)] h (fun h => ?_) fun h => ?_
  refine SRun.ck tbok 14 ⟨56, [(0, vl eClaim aList), (4, .own 4), (5, vl (eI .i64) s5.2), (6, vi s5.1), (47, vb true)], [(4, oa 26 1 (eL (eI .i64)) x1)]⟩ ?_
  refine SRun.nil ?_
  obtain rfl := inj h
  exact Le.sub0
  refine SRun.ck tbok 4 ⟨56, [(0, vl eClaim aList), (4, .own 4), (5, vl (eI .i64) s5.2), (6, vi s5.1), (33, vb false), (37, vb (x10 == x11))], [(4, oa 26 1 (eL (eI .i64)) x1)]⟩ ?_
  refine SRun.cu [(37, fun b => b)] h (fun h => ?_) fun h => ?_
  refine SRun.ck tbok 2 ⟨56, [(0, vl eClaim aList), (4, .own 4), (5, vl (eI .i64) s5.2), (6, vi s5.1), (33, vb false), (37, vb true), (38, .own 4), (39, vi s5.1)], [(4, oa 26 1 (eL (eI .i64)) x1)]⟩ ?_
  obtain ⟨x12, hx12, h⟩ := bind_some h
  refine SRun.ls (x_index_own (d := 4) (L := x1) (f := (eL (eI .i64))) (ti := ti35) (tj := ti26) (e := 26) (e' := 26) (m := 1) (k := .i64) tbok rfl hx12) ?_
  refine SRun.ls (x_load_own (d := 4) (m := 1) (j := 0) (L := x1) (f := (eL (eI .i64))) (ti := ti26) (e := 26) (v := vl (eI .i64) x12) tbok rfl hx12) ?_
  refine SRun.ck tbok 6 ⟨56, [(0, vl eClaim aList), (4, .own 4), (5, vl (eI .i64) s5.2), (6, vi s5.1), (47, vb (decide ((x12.length : Int) < (s5.2.length : Int))))], [(4, oa 26 1 (eL (eI .i64)) x1)]⟩ ?_
  refine SRun.nil ?_
  obtain rfl := inj h
  exact Le.sub0
  refine SRun.ck tbok 10 ⟨56, [(0, vl eClaim aList), (4, .own 4), (5, vl (eI .i64) s5.2), (6, vi s5.1), (47, vb false)], [(4, oa 26 1 (eL (eI .i64)) x1)]⟩ ?_
  refine SRun.nil ?_
  obtain rfl := inj h
  exact Le.sub0
  refine swp_cd h (fun h => ?_) fun h => ?_
  refine swp_reg ?_
  refine SRun.ck tbok 2 ⟨56, [(0, vl eClaim aList), (4, .own 4), (6, vi s5.1), (48, .own 4), (49, vi s5.1)], [(4, oa 26 1 (eL (eI .i64)) x1)]⟩ ?_
  obtain ⟨x15, hx15, h⟩ := bind_some h
  refine SRun.ls (x_index_own (d := 4) (L := x1) (f := (eL (eI .i64))) (ti := ti35) (tj := ti26) (e := 26) (e' := 26) (m := 1) (k := .i64) tbok rfl hx15) ?_
  refine SRun.ls (x_load_own (d := 4) (m := 1) (j := 0) (L := x1) (f := (eL (eI .i64))) (ti := ti26) (e := 26) (v := vl (eI .i64) x15) tbok rfl hx15) ?_
  refine SRun.ck tbok 1 ⟨56, [(0, vl eClaim aList), (4, .own 4), (5, vl (eI .i64) x15), (6, vi s5.1)], [(4, oa 26 1 (eL (eI .i64)) x1)]⟩ ?_
  refine SRun.nil ?_
  obtain rfl := inj h
  exact q_bn (q_j (Le.sub0))
  refine swp_skip ?_
  obtain rfl := inj h
  exact q_bn (q_j (Le.sub0))
  refine swp_reg ?_
  refine SRun.ck tbok 3 ⟨56, [(0, vl eClaim aList), (4, .own 4), (5, vl (eI .i64) j7), (6, vi (w64 (s5.1 + 1)))], [(4, oa 26 1 (eL (eI .i64)) x1)]⟩ ?_
  refine SRun.nil ?_
  obtain rfl := inj h
  exact q_l (Le.sub0)
  refine swp_exit ?_
  obtain rfl := inj h
  exact nx_e (q_re (q_bh (q_j (Le.sub0))))
  refine sr ?_
  refine SRun.ck tbok 3 ⟨56, [(52, vl (eI .i64) j3), (53, vl eClaim aList), (54, vl (eI .i64) j3)], []⟩ ?_
  obtain ⟨x16, hx16, h⟩ := bind_some h
  refine SRun.ls (xc ents76 (spec_l20Weight_run aList j3 _ hx16)) ?_
  refine ckn tbok 2 ⟨56, [(2, vl (eI .i64) j3), (3, vi x16)], []⟩ ?_
  refine swp_ret ?_
  obtain rfl := inj h
  exact q_fr (f2 ft ft)
theorem ents38 : Ents Tryz.prog 38 := ents_of Tryz.func38 (by kernel_rfl) rfl
noncomputable def spec_l24Kept (aList : (List Claim)) : Option ((List Claim)) :=
  ((spec_l22Best aList).bind fun x1 => ((spec_l22Rest aList x1.1).bind fun x2 => ((spec_l21Chosen aList x2).bind fun x3 => some x3)))
theorem spec_l24Kept_run (aList : (List Claim)) (r : (List Claim)) (h : spec_l24Kept aList = some r) : SCall Tryz.prog 49 [.v (vl eClaim aList)] ⟨[.own 42 7 r.length (r.map eClaim)], [], false⟩ := by
  refine scall_in Tryz.func49 rfl [(.tmp 2)] rfl (fun r => ⟨[.own 42 7 r.length (r.map eClaim)], [], false⟩) (r := r) ?_
  unfold spec_l24Kept at h
  refine srk tbok ⟨15, [(0, vl eClaim aList)], []⟩ ?_
  refine sr ?_
  refine SRun.ck tbok 1 ⟨15, [(0, vl eClaim aList), (6, vl eClaim aList)], []⟩ ?_
  obtain ⟨x1, hx1, h⟩ := bind_some h
  refine SRun.ls (xc ents38 (spec_l22Best_run aList _ hx1)) ?_
  refine ckn tbok 5 ⟨15, [(0, vl eClaim aList), (3, vl (eI .i64) x1.1)], []⟩ ?_
  refine sr ?_
  refine SRun.ck tbok 3 ⟨15, [(10, vl eClaim aList), (11, vl eClaim aList), (12, vl (eI .i64) x1.1)], []⟩ ?_
  obtain ⟨x2, hx2, h⟩ := bind_some h
  refine SRun.ls (xc ents97 (spec_l22Rest_run aList x1.1 _ hx2)) ?_
  obtain ⟨x3, hx3, h⟩ := bind_some h
  refine SRun.ls (xc ents88 (spec_l21Chosen_run aList x2 _ hx3)) ?_
  refine ckn tbok 1 ⟨15, [(2, .own 14)], [(14, oa 42 7 eClaim x3)]⟩ ?_
  refine swp_ret ?_
  obtain rfl := inj h
  exact q_fr (f1 (fo eClaim_flat))
theorem ents49 : Ents Tryz.prog 49 := ents_of Tryz.func49 (by kernel_rfl) rfl
noncomputable def spec_l21Sound (aList : (List Claim)) (aPlace : ByteArray) (aYear : Int) : Option (Int) :=
  ((spec_l21Code aList aPlace aYear).bind fun x1 => (((bif (x1 == 0) then ((spec_l21Consistent aList).bind fun x2 => some (!x2)) else some false)).bind fun (j3 : Bool) => (bif j3 then some 5 else some x1)))
theorem spec_l21Sound_run (aList : (List Claim)) (aPlace : ByteArray) (aYear : Int) (r : Int) (h : spec_l21Sound aList aPlace aYear = some r) : SCall Tryz.prog 95 [.v (vl eClaim aList), .v (vs aPlace), .v (vi aYear)] ⟨[.v (vi r)], [], false⟩ := by
  refine scall_in Tryz.func95 rfl [(.tmp 6)] rfl (fun r => ⟨[.v (vi r)], [], false⟩) (r := r) ?_
  unfold spec_l21Sound at h
  refine srk tbok ⟨20, [(0, vl eClaim aList), (1, vs aPlace), (2, vi aYear)], []⟩ ?_
  refine sr ?_
  refine SRun.ck tbok 3 ⟨20, [(0, vl eClaim aList), (8, vl eClaim aList), (9, vs aPlace), (10, vi aYear)], []⟩ ?_
  obtain ⟨x1, hx1, h⟩ := bind_some h
  refine SRun.ls (xc ents47 (spec_l21Code_run aList aPlace aYear _ hx1)) ?_
  refine ckn tbok 1 ⟨20, [(0, vl eClaim aList), (7, vi x1)], []⟩ ?_
  refine swp_seq ?_
  refine swp_seq ?_
  refine swp_regJ h (fun j3 => ⟨20, [(7, vi x1), (18, vb j3)], []⟩) (fun v4 h => ?_) (fun j3 h => ?_)
  refine SRun.ck tbok 3 ⟨20, [(0, vl eClaim aList), (7, vi x1), (14, vb (x1 == 0))], []⟩ ?_
  refine SRun.cu [(14, fun b => b)] h (fun h => ?_) fun h => ?_
  refine SRun.ck tbok 1 ⟨20, [(7, vi x1), (14, vb true), (15, vl eClaim aList)], []⟩ ?_
  obtain ⟨x2, hx2, h⟩ := bind_some h
  refine SRun.ls (xc ents87 (spec_l21Consistent_run aList _ hx2)) ?_
  refine SRun.ck tbok 2 ⟨20, [(7, vi x1), (18, vb (!x2))], []⟩ ?_
  refine SRun.nil ?_
  obtain rfl := inj h
  exact Le.sub0
  refine SRun.ck tbok 4 ⟨20, [(7, vi x1), (18, vb false)], []⟩ ?_
  refine SRun.nil ?_
  obtain rfl := inj h
  exact Le.sub0
  refine swp_cd h (fun h => ?_) fun h => ?_
  refine srk tbok ⟨20, [(6, vi 5)], []⟩ ?_
  refine swp_ret ?_
  obtain rfl := inj h
  exact nx_r (q_fr (f1 fv))
  refine swp_skip ?_
  refine nx_n ?_
  refine srk tbok ⟨20, [(6, vi x1)], []⟩ ?_
  refine swp_ret ?_
  obtain rfl := inj h
  exact q_fr (f1 fv)
theorem ents95 : Ents Tryz.prog 95 := ents_of Tryz.func95 (by kernel_rfl) rfl
noncomputable def spec_l21Name (aList : (List Claim)) (aPlace : ByteArray) (aYear : Int) : Option (ByteArray) :=
  (((forN (aList.length : Int) (fun (i3 : Int) (_ : Unit) => ((at' aList i3).bind fun x7 => (((bif (x7.Kind == 0) then (bif (x7.Place.toList == aPlace.toList) then ((spec_l01In aYear x7.Years.From x7.Years.To).bind fun x8 => some x8) else some false) else some false)).bind fun (j9 : Bool) => (bif j9 then some (.inr (.inr x7.Value)) else some (.inl ()))))) (fun (_ : Unit) => .inl ()) 0 ())).bind (Sum.elim (fun (_ : Unit) => some (ByteArray.mk #[])) some))
theorem spec_l21Name_run (aList : (List Claim)) (aPlace : ByteArray) (aYear : Int) (r : ByteArray) (h : spec_l21Name aList aPlace aYear = some r) : SCall Tryz.prog 100 [.v (vl eClaim aList), .v (vs aPlace), .v (vi aYear)] ⟨[.v (vs r)], [], false⟩ := by
  refine scall_in Tryz.func100 rfl [(.tmp 6)] rfl (fun r => ⟨[.v (vs r)], [], false⟩) (r := r) ?_
  unfold spec_l21Name at h
  refine srk tbok ⟨40, [(0, vl eClaim aList), (1, vs aPlace), (2, vi aYear)], []⟩ ?_
  refine swp_seq ?_
  refine srk tbok ⟨40, [(0, vl eClaim aList), (1, vs aPlace), (2, vi aYear), (7, vi 0)], []⟩ ?_
  refine swp_seqE (r := r) h (fun j1 => ⟨40, [], []⟩) (fun v2 h => ?_) (fun j1 h => ?_)
  refine swp_blk (a := v2) ?_
  refine swp_lpL (r := v2) (s := (0, ())) _ (fun s3 => ⟨40, [(0, vl eClaim aList), (1, vs aPlace), (2, vi aYear), (7, vi s3.1)], []⟩) _ (Le.sub0) h (fun s3 v4 h => ?_)
  refine swp_seq ?_
  refine srk tbok ⟨40, [(0, vl eClaim aList), (1, vs aPlace), (2, vi aYear), (7, vi s3.1), (12, vb (decide (s3.1 < (aList.length : Int))))], []⟩ ?_
  refine swp_cd h (fun h => ?_) fun h => ?_
  refine swp_skip ?_
  refine nx_n ?_
  refine swp_seq ?_
  refine swp_seqL (r := v4) h (fun j5 => ⟨40, [(0, vl eClaim aList), (1, vs aPlace), (2, vi aYear), (7, vi s3.1)], []⟩) (fun v6 h => ?_) (fun j5 h => ?_)
  refine swp_blk (a := v6) ?_
  refine sr ?_
  refine SRun.ck tbok 2 ⟨40, [(0, vl eClaim aList), (1, vs aPlace), (2, vi aYear), (7, vi s3.1), (15, vl eClaim aList), (16, vi s3.1)], []⟩ ?_
  obtain ⟨x7, hx7, h⟩ := bind_some h
  refine SRun.ls (x_index (L := aList) (f := eClaim) (ti := ti24) (tj := ti42) (e := 42) (k := .i64) tbok rfl hx7) ?_
  refine ckn tbok 3 ⟨40, [(0, vl eClaim aList), (1, vs aPlace), (2, vi aYear), (7, vi s3.1), (8, .ref 8 0)], [(8, .box (tc eClaim x7))]⟩ ?_
  refine swp_seq ?_
  refine swp_regJ h (fun j9 => ⟨40, [(0, vl eClaim aList), (1, vs aPlace), (2, vi aYear), (7, vi s3.1), (8, .ref 8 0), (37, vb j9)], [(8, .box (tc eClaim x7))]⟩) (fun v10 h => ?_) (fun j9 h => ?_)
  refine SRun.ck tbok 4 ⟨40, [(0, vl eClaim aList), (1, vs aPlace), (2, vi aYear), (7, vi s3.1), (8, .ref 8 0), (22, vb (x7.Kind == 0))], [(8, .box (tc eClaim x7))]⟩ ?_
  refine SRun.cu [(22, fun b => b)] h (fun h => ?_) fun h => ?_
  refine SRun.ck tbok 6 ⟨40, [(0, vl eClaim aList), (1, vs aPlace), (2, vi aYear), (7, vi s3.1), (8, .ref 8 0), (28, vb (x7.Place.toList == aPlace.toList))], [(8, .box (tc eClaim x7))]⟩ ?_
  refine SRun.cu [(28, fun b => b)] h (fun h => ?_) fun h => ?_
  refine SRun.ck tbok 7 ⟨40, [(0, vl eClaim aList), (1, vs aPlace), (2, vi aYear), (7, vi s3.1), (8, .ref 8 0), (28, vb true), (29, vi aYear), (32, vi x7.Years.From), (35, vi x7.Years.To)], [(8, .box (tc eClaim x7))]⟩ ?_
  obtain ⟨x8, hx8, h⟩ := bind_some h
  refine SRun.ls (xc ents110 (spec_l01In_run aYear x7.Years.From x7.Years.To _ hx8)) ?_
  refine SRun.ck tbok 1 ⟨40, [(0, vl eClaim aList), (1, vs aPlace), (2, vi aYear), (7, vi s3.1), (8, .ref 8 0), (37, vb x8)], [(8, .box (tc eClaim x7))]⟩ ?_
  refine SRun.nil ?_
  obtain rfl := inj h
  exact Le.sub0
  refine SRun.ck tbok 9 ⟨40, [(0, vl eClaim aList), (1, vs aPlace), (2, vi aYear), (7, vi s3.1), (8, .ref 8 0), (37, vb false)], [(8, .box (tc eClaim x7))]⟩ ?_
  refine SRun.nil ?_
  obtain rfl := inj h
  exact Le.sub0
  refine SRun.ck tbok 15 ⟨40, [(0, vl eClaim aList), (1, vs aPlace), (2, vi aYear), (7, vi s3.1), (8, .ref 8 0), (37, vb false)], [(8, .box (tc eClaim x7))]⟩ ?_
  refine SRun.nil ?_
  obtain rfl := inj h
  exact Le.sub0
  refine swp_cd h (fun h => ?_) fun h => ?_
  refine srk tbok ⟨40, [(6, vs x7.Value)], []⟩ ?_
  refine swp_ret ?_
  obtain rfl := inj h
  exact q_br (q_rr (q_rr (q_br (q_rr (q_fr (f1 fv))))))
  refine swp_skip ?_
  obtain rfl := inj h
  exact q_bn (q_l (Le.sub0))
  refine swp_reg ?_
  refine SRun.ck tbok 3 ⟨40, [(0, vl eClaim aList), (1, vs aPlace), (2, vi aYear), (7, vi (w64 (s3.1 + 1)))], []⟩ ?_
  refine SRun.nil ?_
  obtain rfl := inj h
  exact q_l (Le.sub0)
  refine swp_exit ?_
  obtain rfl := inj h
  exact nx_e (q_re (q_bh (q_l (Le.sub0))))
  refine srk tbok ⟨40, [(6, vs (ByteArray.mk #[]))], []⟩ ?_
  refine swp_ret ?_
  obtain rfl := inj h
  exact q_fr (f1 fv)
theorem ents100 : Ents Tryz.prog 100 := ents_of Tryz.func100 (by kernel_rfl) rfl
noncomputable def spec_NameBy (aList : (List Claim)) (aPlace : ByteArray) (aYear : Int) : Option (ByteArray × Int) :=
  ((spec_l21Sound aList aPlace aYear).bind fun x1 => (bif (x1 != 0) then some ((ByteArray.mk #[]), x1) else ((spec_l21Name aList aPlace aYear).bind fun x2 => (bif (x2.toList == (ByteArray.mk #[]).toList) then some ((ByteArray.mk #[]), 4) else some (x2, 0)))))
theorem spec_NameBy_run (aList : (List Claim)) (aPlace : ByteArray) (aYear : Int) (r : ByteArray × Int) (h : spec_NameBy aList aPlace aYear = some r) : SCall Tryz.prog 52 [.v (vl eClaim aList), .v (vs aPlace), .v (vi aYear)] ⟨[.v (vs r.1), .v (vi r.2)], [], false⟩ := by
  refine scall_in Tryz.func52 rfl [(.tmp 6), (.tmp 7)] rfl (fun r => ⟨[.v (vs r.1), .v (vi r.2)], [], false⟩) (r := r) ?_
  unfold spec_NameBy at h
  refine srk tbok ⟨24, [(0, vl eClaim aList), (1, vs aPlace), (2, vi aYear)], []⟩ ?_
  refine sr ?_
  refine SRun.ck tbok 3 ⟨24, [(0, vl eClaim aList), (1, vs aPlace), (2, vi aYear), (10, vl eClaim aList), (11, vs aPlace), (12, vi aYear)], []⟩ ?_
  obtain ⟨x1, hx1, h⟩ := bind_some h
  refine SRun.ls (xc ents95 (spec_l21Sound_run aList aPlace aYear _ hx1)) ?_
  refine ckn tbok 1 ⟨24, [(0, vl eClaim aList), (1, vs aPlace), (2, vi aYear), (8, vi x1)], []⟩ ?_
  refine swp_seq ?_
  refine srk tbok ⟨24, [(0, vl eClaim aList), (1, vs aPlace), (2, vi aYear), (8, vi x1), (15, vb (x1 != 0))], []⟩ ?_
  refine swp_cd h (fun h => ?_) fun h => ?_
  refine srk tbok ⟨24, [(6, vs (ByteArray.mk #[])), (7, vi x1)], []⟩ ?_
  refine swp_ret ?_
  obtain rfl := inj h
  exact nx_r (q_fr (f2 fv fv))
  refine swp_skip ?_
  refine nx_n ?_
  refine sr ?_
  refine SRun.ck tbok 3 ⟨24, [(17, vl eClaim aList), (18, vs aPlace), (19, vi aYear)], []⟩ ?_
  obtain ⟨x2, hx2, h⟩ := bind_some h
  refine SRun.ls (xc ents100 (spec_l21Name_run aList aPlace aYear _ hx2)) ?_
  refine ckn tbok 1 ⟨24, [(9, vs x2)], []⟩ ?_
  refine swp_seq ?_
  refine srk tbok ⟨24, [(9, vs x2), (22, vb (x2.toList == (ByteArray.mk #[]).toList))], []⟩ ?_
  refine swp_cd h (fun h => ?_) fun h => ?_
  refine srk tbok ⟨24, [(6, vs (ByteArray.mk #[])), (7, vi 4)], []⟩ ?_
  refine swp_ret ?_
  obtain rfl := inj h
  exact nx_r (q_fr (f2 fv fv))
  refine swp_skip ?_
  refine nx_n ?_
  refine srk tbok ⟨24, [(6, vs x2), (7, vi 0)], []⟩ ?_
  refine swp_ret ?_
  obtain rfl := inj h
  exact q_fr (f2 fv fv)
theorem ents52 : Ents Tryz.prog 52 := ents_of Tryz.func52 (by kernel_rfl) rfl
noncomputable def spec_BestName (aList : (List Claim)) (aPlace : ByteArray) (aYear : Int) : Option (ByteArray × Int) :=
  ((spec_l21Code aList aPlace aYear).bind fun x1 => (bif (x1 != 0) then some ((ByteArray.mk #[]), x1) else ((spec_l24Kept aList).bind fun x2 => ((spec_NameBy x2 aPlace aYear).bind fun x3 => some (x3.1, x3.2)))))
theorem spec_BestName_run (aList : (List Claim)) (aPlace : ByteArray) (aYear : Int) (r : ByteArray × Int) (h : spec_BestName aList aPlace aYear = some r) : SCall Tryz.prog 25 [.v (vl eClaim aList), .v (vs aPlace), .v (vi aYear)] ⟨[.v (vs r.1), .v (vi r.2)], [], false⟩ := by
  refine scall_in Tryz.func25 rfl [(.tmp 6), (.tmp 7)] rfl (fun r => ⟨[.v (vs r.1), .v (vi r.2)], [], false⟩) (r := r) ?_
  unfold spec_BestName at h
  refine srk tbok ⟨23, [(0, vl eClaim aList), (1, vs aPlace), (2, vi aYear)], []⟩ ?_
  refine sr ?_
  refine SRun.ck tbok 3 ⟨23, [(0, vl eClaim aList), (1, vs aPlace), (2, vi aYear), (9, vl eClaim aList), (10, vs aPlace), (11, vi aYear)], []⟩ ?_
  obtain ⟨x1, hx1, h⟩ := bind_some h
  refine SRun.ls (xc ents47 (spec_l21Code_run aList aPlace aYear _ hx1)) ?_
  refine ckn tbok 1 ⟨23, [(0, vl eClaim aList), (1, vs aPlace), (2, vi aYear), (8, vi x1)], []⟩ ?_
  refine swp_seq ?_
  refine srk tbok ⟨23, [(0, vl eClaim aList), (1, vs aPlace), (2, vi aYear), (8, vi x1), (14, vb (x1 != 0))], []⟩ ?_
  refine swp_cd h (fun h => ?_) fun h => ?_
  refine srk tbok ⟨23, [(6, vs (ByteArray.mk #[])), (7, vi x1)], []⟩ ?_
  refine swp_ret ?_
  obtain rfl := inj h
  exact nx_r (q_fr (f2 fv fv))
  refine swp_skip ?_
  refine nx_n ?_
  refine sr ?_
  refine SRun.ck tbok 1 ⟨23, [(1, vs aPlace), (2, vi aYear), (16, vl eClaim aList)], []⟩ ?_
  obtain ⟨x2, hx2, h⟩ := bind_some h
  refine SRun.ls (xc ents49 (spec_l24Kept_run aList _ hx2)) ?_
  refine SRun.ck tbok 2 ⟨23, [(17, .own 17), (18, vs aPlace), (19, vi aYear)], [(17, oa 42 7 eClaim x2)]⟩ ?_
  obtain ⟨x3, hx3, h⟩ := bind_some h
  refine SRun.ls (xc ents52 (spec_NameBy_run x2 aPlace aYear _ hx3)) ?_
  refine ckn tbok 4 ⟨23, [(6, vs x3.1), (7, vi x3.2)], []⟩ ?_
  refine swp_ret ?_
  obtain rfl := inj h
  exact q_fr (f2 fv fv)
theorem ents25 : Ents Tryz.prog 25 := ents_of Tryz.func25 (by kernel_rfl) rfl
noncomputable def impl_within (aX : Int) (aLow : Int) (aHigh : Int) : Option (Bool) :=
  some ((decide (aX ≥ aLow)) && (decide (aX ≤ aHigh)))
theorem impl_within_run (aX : Int) (aLow : Int) (aHigh : Int) (r : Bool) (h : impl_within aX aLow aHigh = some r) : SCall Tryz.prog 121 [.v (vi aX), .v (vi aLow), .v (vi aHigh)] ⟨[.v (vb r)], [], false⟩ := by
  refine scall_in Tryz.func121 rfl [(.tmp 6)] rfl (fun r => ⟨[.v (vb r)], [], false⟩) (r := r) ?_
  unfold impl_within at h
  refine srk tbok ⟨15, [(0, vi aX), (1, vi aLow), (2, vi aHigh)], []⟩ ?_
  refine swp_seq ?_
  refine swp_regP ⟨15, [(6, vb ((decide (aX ≥ aLow)) && (decide (aX ≤ aHigh))))], []⟩ ?_ ?_
  refine SRun.ck tbok 4 ⟨15, [(0, vi aX), (2, vi aHigh), (10, vb (decide (aX ≥ aLow)))], []⟩ ?_
  generalize (decide (aX ≥ aLow)) = bb
  cases bb
  refine SRun.ck tbok 5 ⟨15, [(6, vb false)], []⟩ ?_
  exact SRun.nil (Le.sub0)
  refine SRun.ck tbok 5 ⟨15, [(6, vb (decide (aX ≤ aHigh)))], []⟩ ?_
  exact SRun.nil (Le.sub0)
  refine swp_ret ?_
  obtain rfl := inj h
  exact q_fr (f1 fv)
theorem ents121 : Ents Tryz.prog 121 := ents_of Tryz.func121 (by kernel_rfl) rfl
theorem strings_Trim_run (s c r : ByteArray) (h : strings_Trim s c = some r) : SCall Tryz.prog 166 [.v (.tr (.str s)), .v (.tr (.str c))] ⟨[.v (.tr (.str r))], [], false⟩ := trim_run Tryz.lays160 (by kernel_rfl) 166 rfl s c r h
theorem ents166 : Ents Tryz.prog 166 := ents_of Tryz.func166 (by kernel_rfl) rfl
noncomputable def impl_isSmall (aS : ByteArray) (aLeast : Int) (aMost : Int) : Option (Bool) :=
  ((((impl_within (aS.size : Int) aLeast aMost).bind fun x1 => (bif x1 then ((strings_Trim aS (ByteArray.mk #[97, 98, 99, 100, 101, 102, 103, 104, 105, 106, 107, 108, 109, 110, 111, 112, 113, 114, 115, 116, 117, 118, 119, 120, 121, 122])).bind fun x2 => some (x2.toList == (ByteArray.mk #[]).toList)) else some false))).bind fun (j3 : Bool) => some j3)
theorem impl_isSmall_run (aS : ByteArray) (aLeast : Int) (aMost : Int) (r : Bool) (h : impl_isSmall aS aLeast aMost = some r) : SCall Tryz.prog 141 [.v (vs aS), .v (vi aLeast), .v (vi aMost)] ⟨[.v (vb r)], [], false⟩ := by
  refine scall_in Tryz.func141 rfl [(.tmp 6)] rfl (fun r => ⟨[.v (vb r)], [], false⟩) (r := r) ?_
  unfold impl_isSmall at h
  refine srk tbok ⟨17, [(0, vs aS), (1, vi aLeast), (2, vi aMost)], []⟩ ?_
  refine swp_seq ?_
  refine swp_regJ h (fun j3 => ⟨17, [(6, vb j3)], []⟩) (fun v4 h => ?_) (fun j3 h => ?_)
  refine SRun.ck tbok 4 ⟨17, [(0, vs aS), (8, vi (aS.size : Int)), (9, vi aLeast), (10, vi aMost)], []⟩ ?_
  obtain ⟨x1, hx1, h⟩ := bind_some h
  refine SRun.ls (xc ents121 (impl_within_run (aS.size : Int) aLeast aMost _ hx1)) ?_
  refine SRun.ck tbok 1 ⟨17, [(0, vs aS), (12, vb x1)], []⟩ ?_
  refine SRun.cu [(12, fun b => b)] h (fun h => ?_) fun h => ?_
  refine SRun.ck tbok 1 ⟨17, [(12, vb true), (13, vs aS)], []⟩ ?_
  obtain ⟨x2, hx2, h⟩ := bind_some h
  refine SRun.ls (xc ents166 (strings_Trim_run aS (ByteArray.mk #[97, 98, 99, 100, 101, 102, 103, 104, 105, 106, 107, 108, 109, 110, 111, 112, 113, 114, 115, 116, 117, 118, 119, 120, 121, 122]) _ hx2)) ?_
  refine SRun.ck tbok 3 ⟨17, [(6, vb (x2.toList == (ByteArray.mk #[]).toList))], []⟩ ?_
  refine SRun.nil ?_
  obtain rfl := inj h
  exact Le.sub0
  refine SRun.ck tbok 5 ⟨17, [(6, vb false)], []⟩ ?_
  refine SRun.nil ?_
  obtain rfl := inj h
  exact Le.sub0
  refine swp_ret ?_
  obtain rfl := inj h
  exact q_fr (f1 fv)
theorem ents141 : Ents Tryz.prog 141 := ents_of Tryz.func141 (by kernel_rfl) rfl
noncomputable def impl_IsWord (aS : ByteArray) : Option (Bool) :=
  ((impl_isSmall aS 1 16).bind fun x1 => some x1)
theorem impl_IsWord_run (aS : ByteArray) (r : Bool) (h : impl_IsWord aS = some r) : SCall Tryz.prog 102 [.v (vs aS)] ⟨[.v (vb r)], [], false⟩ := by
  refine scall_in Tryz.func102 rfl [(.tmp 2)] rfl (fun r => ⟨[.v (vb r)], [], false⟩) (r := r) ?_
  unfold impl_IsWord at h
  refine srk tbok ⟨5, [(0, vs aS)], []⟩ ?_
  refine sr ?_
  refine SRun.ck tbok 1 ⟨5, [(3, vs aS)], []⟩ ?_
  obtain ⟨x1, hx1, h⟩ := bind_some h
  refine SRun.ls (xc ents141 (impl_isSmall_run aS 1 16 _ hx1)) ?_
  refine ckn tbok 1 ⟨5, [(2, vb x1)], []⟩ ?_
  refine swp_ret ?_
  obtain rfl := inj h
  exact q_fr (f1 fv)
theorem ents102 : Ents Tryz.prog 102 := ents_of Tryz.func102 (by kernel_rfl) rfl
noncomputable def impl_areWords (aList : (List ByteArray)) : Option (Bool) :=
  (((forN (aList.length : Int) (fun (i3 : Int) (_ : Unit) => ((at' aList i3).bind fun x7 => ((impl_IsWord x7).bind fun x8 => (bif (!x8) then some (.inr (.inr false)) else some (.inl ()))))) (fun (_ : Unit) => .inl ()) 0 ())).bind (Sum.elim (fun (_ : Unit) => some true) some))
theorem impl_areWords_run (aList : (List ByteArray)) (r : Bool) (h : impl_areWords aList = some r) : SCall Tryz.prog 118 [.v (vl eS aList)] ⟨[.v (vb r)], [], false⟩ := by
  refine scall_in Tryz.func118 rfl [(.tmp 2)] rfl (fun r => ⟨[.v (vb r)], [], false⟩) (r := r) ?_
  unfold impl_areWords at h
  refine srk tbok ⟨15, [(0, vl eS aList)], []⟩ ?_
  refine swp_seq ?_
  refine srk tbok ⟨15, [(5, vl eS aList), (6, vi (aList.length : Int)), (7, vi 0)], []⟩ ?_
  refine swp_seqE (r := r) h (fun j1 => ⟨15, [], []⟩) (fun v2 h => ?_) (fun j1 h => ?_)
  refine swp_blk (a := v2) ?_
  refine swp_lpL (r := v2) (s := (0, ())) _ (fun s3 => ⟨15, [(5, vl eS aList), (6, vi (aList.length : Int)), (7, vi s3.1)], []⟩) _ (Le.sub0) h (fun s3 v4 h => ?_)
  refine srk tbok ⟨15, [(5, vl eS aList), (6, vi (aList.length : Int)), (7, vi s3.1), (8, vb (decide (s3.1 < (aList.length : Int))))], []⟩ ?_
  refine swp_seq ?_
  refine swp_cd h (fun h => ?_) fun h => ?_
  refine swp_skip ?_
  refine nx_n ?_
  refine swp_seq ?_
  refine swp_seqL (r := v4) h (fun j5 => ⟨15, [(5, vl eS aList), (6, vi (aList.length : Int)), (7, vi s3.1)], []⟩) (fun v6 h => ?_) (fun j5 h => ?_)
  refine swp_blk (a := v6) ?_
  refine sr ?_
  obtain ⟨x7, hx7, h⟩ := bind_some h
  refine SRun.ls (x_index (L := aList) (f := eS) (ti := ti52) (tj := ti9) (e := 9) (k := .i64) tbok rfl hx7) ?_
  refine ckn tbok 2 ⟨15, [(4, vs x7), (5, vl eS aList), (6, vi (aList.length : Int)), (7, vi s3.1)], []⟩ ?_
  refine sr ?_
  refine SRun.ck tbok 1 ⟨15, [(5, vl eS aList), (6, vi (aList.length : Int)), (7, vi s3.1), (11, vs x7)], []⟩ ?_
  obtain ⟨x8, hx8, h⟩ := bind_some h
  refine SRun.ls (xc ents102 (impl_IsWord_run x7 _ hx8)) ?_
  refine ckn tbok 1 ⟨15, [(5, vl eS aList), (6, vi (aList.length : Int)), (7, vi s3.1), (13, vb (!x8))], []⟩ ?_
  refine swp_cd h (fun h => ?_) fun h => ?_
  refine srk tbok ⟨15, [(2, vb false)], []⟩ ?_
  refine swp_ret ?_
  obtain rfl := inj h
  exact q_br (q_rr (q_rr (q_br (q_rr (q_fr (f1 fv))))))
  refine swp_skip ?_
  obtain rfl := inj h
  exact q_bn (q_l (Le.sub0))
  refine swp_reg ?_
  refine SRun.ck tbok 2 ⟨15, [(5, vl eS aList), (6, vi (aList.length : Int)), (7, vi (w64 (s3.1 + 1)))], []⟩ ?_
  refine SRun.nil ?_
  obtain rfl := inj h
  exact q_l (Le.sub0)
  refine swp_exit ?_
  obtain rfl := inj h
  exact nx_e (q_re (q_bh (q_l (Le.sub0))))
  refine srk tbok ⟨15, [(2, vb true)], []⟩ ?_
  refine swp_ret ?_
  obtain rfl := inj h
  exact q_fr (f1 fv)
theorem ents118 : Ents Tryz.prog 118 := ents_of Tryz.func118 (by kernel_rfl) rfl
theorem strings_Split_run (s c : ByteArray) (r : List ByteArray) (h : strings_Split s c = some r) : SCall Tryz.prog 199 [.v (.tr (.str s)), .v (.tr (.str c))] ⟨[.own 9 1 r.length (r.map eS)], [], false⟩ := split_run Tryz.lays146 (by kernel_rfl) 199 9 rfl rfl s c r h
theorem ents199 : Ents Tryz.prog 199 := ents_of Tryz.func199 (by kernel_rfl) rfl
noncomputable def impl_wordsOf (aS : ByteArray) : Option ((List ByteArray)) :=
  ((strings_Split aS (ByteArray.mk #[32])).bind fun x1 => some x1)
theorem impl_wordsOf_run (aS : ByteArray) (r : (List ByteArray)) (h : impl_wordsOf aS = some r) : SCall Tryz.prog 180 [.v (vs aS)] ⟨[.own 9 1 r.length (r.map eS)], [], false⟩ := by
  refine scall_in Tryz.func180 rfl [(.tmp 2)] rfl (fun r => ⟨[.own 9 1 r.length (r.map eS)], [], false⟩) (r := r) ?_
  unfold impl_wordsOf at h
  refine srk tbok ⟨5, [(0, vs aS)], []⟩ ?_
  refine sr ?_
  refine SRun.ck tbok 1 ⟨5, [(3, vs aS)], []⟩ ?_
  obtain ⟨x1, hx1, h⟩ := bind_some h
  refine SRun.ls (xc ents199 (strings_Split_run aS (ByteArray.mk #[32]) _ hx1)) ?_
  refine ckn tbok 1 ⟨5, [(2, .own 4)], [(4, oa 9 1 eS x1)]⟩ ?_
  refine swp_ret ?_
  obtain rfl := inj h
  exact q_fr (f1 (fo eS_flat))
theorem ents180 : Ents Tryz.prog 180 := ents_of Tryz.func180 (by kernel_rfl) rfl
noncomputable def impl_IsPhrase (aS : ByteArray) : Option (Bool) :=
  ((impl_wordsOf aS).bind fun x1 => (((bif (decide ((x1.length : Int) ≤ 8)) then ((impl_areWords x1).bind fun x2 => some x2) else some false)).bind fun (j3 : Bool) => some j3))
theorem impl_IsPhrase_run (aS : ByteArray) (r : Bool) (h : impl_IsPhrase aS = some r) : SCall Tryz.prog 148 [.v (vs aS)] ⟨[.v (vb r)], [], false⟩ := by
  refine scall_in Tryz.func148 rfl [(.tmp 2)] rfl (fun r => ⟨[.v (vb r)], [], false⟩) (r := r) ?_
  unfold impl_IsPhrase at h
  refine srk tbok ⟨13, [(0, vs aS)], []⟩ ?_
  refine sr ?_
  refine SRun.ck tbok 1 ⟨13, [(4, vs aS)], []⟩ ?_
  obtain ⟨x1, hx1, h⟩ := bind_some h
  refine SRun.ls (xc ents180 (impl_wordsOf_run aS _ hx1)) ?_
  refine ckn tbok 1 ⟨13, [(3, .own 5)], [(5, oa 9 1 eS x1)]⟩ ?_
  refine swp_seq ?_
  refine swp_regJ h (fun j3 => ⟨13, [(2, vb j3)], []⟩) (fun v4 h => ?_) (fun j3 h => ?_)
  refine SRun.ck tbok 4 ⟨13, [(3, .own 5), (9, vb (decide ((x1.length : Int) ≤ 8)))], [(5, oa 9 1 eS x1)]⟩ ?_
  refine SRun.cu [(9, fun b => b)] h (fun h => ?_) fun h => ?_
  refine SRun.ck tbok 1 ⟨13, [(9, vb true), (10, .own 5)], [(5, oa 9 1 eS x1)]⟩ ?_
  obtain ⟨x2, hx2, h⟩ := bind_some h
  refine SRun.ls (xc ents118 (impl_areWords_run x1 _ hx2)) ?_
  refine SRun.ck tbok 2 ⟨13, [(2, vb x2)], []⟩ ?_
  refine SRun.nil ?_
  obtain rfl := inj h
  exact Le.sub0
  refine SRun.ck tbok 4 ⟨13, [(2, vb false)], []⟩ ?_
  refine SRun.nil ?_
  obtain rfl := inj h
  exact Le.sub0
  refine swp_ret ?_
  obtain rfl := inj h
  exact q_fr (f1 fv)
theorem ents148 : Ents Tryz.prog 148 := ents_of Tryz.func148 (by kernel_rfl) rfl
noncomputable def impl_isClaimValue (aC : Claim) : Option (Bool) :=
  (((bif (aC.Kind == 0) then ((impl_IsPhrase aC.Value).bind fun x3 => some (.inr x3)) else (bif (aC.Kind == 1) then ((((impl_IsWord aC.Value).bind fun x4 => (bif x4 then some (!(aC.Value.toList == aC.Place.toList)) else some false))).bind fun (j5 : Bool) => some (.inr j5)) else (((bif (aC.Kind == 2) then some (aC.Kind == 2) else some (aC.Kind == 3))).bind fun (j7 : Bool) => (bif j7 then some (.inr (aC.Value.toList == (ByteArray.mk #[]).toList)) else some (.inl ())))))).bind (Sum.elim (fun (_ : Unit) => some false) some))
theorem impl_isClaimValue_run (aC : Claim) (r : Bool) (h : impl_isClaimValue aC = some r) : SCall Tryz.prog 119 [.v (.agg (tc eClaim aC))] ⟨[.v (vb r)], [], false⟩ := by
  refine scall_in Tryz.func119 rfl [(.tmp 2)] rfl (fun r => ⟨[.v (vb r)], [], false⟩) (r := r) ?_
  unfold impl_isClaimValue at h
  refine srk tbok ⟨28, [(1, .ref 1 0)], [(1, .box (tc eClaim aC))]⟩ ?_
  refine swp_seq ?_
  refine srk tbok ⟨28, [(1, .ref 1 0), (4, vi aC.Kind)], [(1, .box (tc eClaim aC))]⟩ ?_
  refine swp_seqE (r := r) h (fun j1 => ⟨28, [], []⟩) (fun v2 h => ?_) (fun j1 h => ?_)
  refine swp_blk (a := v2) ?_
  refine srk tbok ⟨28, [(1, .ref 1 0), (4, vi aC.Kind), (5, vb (aC.Kind == 0))], [(1, .box (tc eClaim aC))]⟩ ?_
  refine swp_cd h (fun h => ?_) fun h => ?_
  refine sr ?_
  refine SRun.ck tbok 2 ⟨28, [(8, vs aC.Value)], []⟩ ?_
  obtain ⟨x3, hx3, h⟩ := bind_some h
  refine SRun.ls (xc ents148 (impl_IsPhrase_run aC.Value _ hx3)) ?_
  refine ckn tbok 1 ⟨28, [(2, vb x3)], []⟩ ?_
  refine swp_ret ?_
  obtain rfl := inj h
  exact q_br (q_rr (q_fr (f1 fv)))
  refine srk tbok ⟨28, [(1, .ref 1 0), (4, vi aC.Kind), (10, vb (aC.Kind == 1))], [(1, .box (tc eClaim aC))]⟩ ?_
  refine swp_cd h (fun h => ?_) fun h => ?_
  refine swp_seq ?_
  refine swp_regJ h (fun j5 => ⟨28, [(2, vb j5)], []⟩) (fun v6 h => ?_) (fun j5 h => ?_)
  refine SRun.ck tbok 2 ⟨28, [(1, .ref 1 0), (13, vs aC.Value)], [(1, .box (tc eClaim aC))]⟩ ?_
  obtain ⟨x4, hx4, h⟩ := bind_some h
  refine SRun.ls (xc ents102 (impl_IsWord_run aC.Value _ hx4)) ?_
  refine SRun.ck tbok 1 ⟨28, [(1, .ref 1 0), (15, vb x4)], [(1, .box (tc eClaim aC))]⟩ ?_
  refine SRun.cu [(15, fun b => b)] h (fun h => ?_) fun h => ?_
  refine SRun.ck tbok 7 ⟨28, [(2, vb (!(aC.Value.toList == aC.Place.toList)))], []⟩ ?_
  refine SRun.nil ?_
  obtain rfl := inj h
  exact Le.sub0
  refine SRun.ck tbok 7 ⟨28, [(2, vb false)], []⟩ ?_
  refine SRun.nil ?_
  obtain rfl := inj h
  exact Le.sub0
  refine swp_ret ?_
  obtain rfl := inj h
  exact q_br (q_rr (q_fr (f1 fv)))
  refine swp_seq ?_
  refine srk tbok ⟨28, [(1, .ref 1 0), (4, vi aC.Kind), (22, vb (aC.Kind == 2))], [(1, .box (tc eClaim aC))]⟩ ?_
  refine swp_seqJ h (fun j7 => ⟨28, [(1, .ref 1 0), (22, vb j7)], [(1, .box (tc eClaim aC))]⟩) (fun v8 h => ?_) (fun j7 h => ?_)
  refine swp_cd h (fun h => ?_) fun h => ?_
  refine swp_skip ?_
  obtain rfl := inj h
  exact q_j (Le.sub0)
  refine swp_reg ?_
  refine SRun.ck tbok 2 ⟨28, [(1, .ref 1 0), (22, vb (aC.Kind == 3))], [(1, .box (tc eClaim aC))]⟩ ?_
  refine SRun.nil ?_
  obtain rfl := inj h
  exact q_j (Le.sub0)
  refine swp_cd h (fun h => ?_) fun h => ?_
  refine srk tbok ⟨28, [(2, vb (aC.Value.toList == (ByteArray.mk #[]).toList))], []⟩ ?_
  refine swp_ret ?_
  obtain rfl := inj h
  exact q_br (q_rr (q_fr (f1 fv)))
  refine swp_skip ?_
  obtain rfl := inj h
  exact q_bn (q_l (Le.sub0))
  refine srk tbok ⟨28, [(2, vb false)], []⟩ ?_
  refine swp_ret ?_
  obtain rfl := inj h
  exact q_fr (f1 fv)
theorem ents119 : Ents Tryz.prog 119 := ents_of Tryz.func119 (by kernel_rfl) rfl
noncomputable def impl_isYear (aYear : Int) : Option (Bool) :=
  ((impl_within aYear (-3000) 3000).bind fun x1 => some x1)
theorem impl_isYear_run (aYear : Int) (r : Bool) (h : impl_isYear aYear = some r) : SCall Tryz.prog 103 [.v (vi aYear)] ⟨[.v (vb r)], [], false⟩ := by
  refine scall_in Tryz.func103 rfl [(.tmp 2)] rfl (fun r => ⟨[.v (vb r)], [], false⟩) (r := r) ?_
  unfold impl_isYear at h
  refine srk tbok ⟨5, [(0, vi aYear)], []⟩ ?_
  refine sr ?_
  refine SRun.ck tbok 1 ⟨5, [(3, vi aYear)], []⟩ ?_
  obtain ⟨x1, hx1, h⟩ := bind_some h
  refine SRun.ls (xc ents121 (impl_within_run aYear (-3000) 3000 _ hx1)) ?_
  refine ckn tbok 1 ⟨5, [(2, vb x1)], []⟩ ?_
  refine swp_ret ?_
  obtain rfl := inj h
  exact q_fr (f1 fv)
theorem ents103 : Ents Tryz.prog 103 := ents_of Tryz.func103 (by kernel_rfl) rfl
noncomputable def impl_IsSpan (aS : Span) : Option (Bool) :=
  ((((impl_isYear aS.From).bind fun x1 => (bif x1 then ((impl_isYear aS.To).bind fun x2 => (bif x2 then some (decide (aS.From ≤ aS.To)) else some false)) else some false))).bind fun (j3 : Bool) => some j3)
theorem impl_IsSpan_run (aS : Span) (r : Bool) (h : impl_IsSpan aS = some r) : SCall Tryz.prog 120 [.v (.agg (tc eSpan aS))] ⟨[.v (vb r)], [], false⟩ := by
  refine scall_in Tryz.func120 rfl [(.tmp 2)] rfl (fun r => ⟨[.v (vb r)], [], false⟩) (r := r) ?_
  unfold impl_IsSpan at h
  refine srk tbok ⟨18, [(1, .ref 1 0)], [(1, .box (tc eSpan aS))]⟩ ?_
  refine swp_seq ?_
  refine swp_regJ h (fun j3 => ⟨18, [(2, vb j3)], []⟩) (fun v4 h => ?_) (fun j3 h => ?_)
  refine SRun.ck tbok 2 ⟨18, [(1, .ref 1 0), (4, vi aS.From)], [(1, .box (tc eSpan aS))]⟩ ?_
  obtain ⟨x1, hx1, h⟩ := bind_some h
  refine SRun.ls (xc ents103 (impl_isYear_run aS.From _ hx1)) ?_
  refine SRun.ck tbok 1 ⟨18, [(1, .ref 1 0), (6, vb x1)], [(1, .box (tc eSpan aS))]⟩ ?_
  refine SRun.cu [(6, fun b => b)] h (fun h => ?_) fun h => ?_
  refine SRun.ck tbok 2 ⟨18, [(1, .ref 1 0), (6, vb true), (8, vi aS.To)], [(1, .box (tc eSpan aS))]⟩ ?_
  obtain ⟨x2, hx2, h⟩ := bind_some h
  refine SRun.ls (xc ents103 (impl_isYear_run aS.To _ hx2)) ?_
  refine SRun.ck tbok 2 ⟨18, [(1, .ref 1 0), (11, vb x2)], [(1, .box (tc eSpan aS))]⟩ ?_
  refine SRun.cu [(11, fun b => b)] h (fun h => ?_) fun h => ?_
  refine SRun.ck tbok 7 ⟨18, [(2, vb (decide (aS.From ≤ aS.To)))], []⟩ ?_
  refine SRun.nil ?_
  obtain rfl := inj h
  exact Le.sub0
  refine SRun.ck tbok 7 ⟨18, [(2, vb false)], []⟩ ?_
  refine SRun.nil ?_
  obtain rfl := inj h
  exact Le.sub0
  refine SRun.ck tbok 12 ⟨18, [(2, vb false)], []⟩ ?_
  refine SRun.nil ?_
  obtain rfl := inj h
  exact Le.sub0
  refine swp_ret ?_
  obtain rfl := inj h
  exact q_fr (f1 fv)
theorem ents120 : Ents Tryz.prog 120 := ents_of Tryz.func120 (by kernel_rfl) rfl
noncomputable def impl_IsClaim (aC : Claim) : Option (Bool) :=
  ((((impl_areWords ([aC.Source, aC.Place] : List ByteArray)).bind fun x1 => (bif x1 then ((impl_isClaimValue aC).bind fun x2 => (bif x2 then ((impl_IsSpan aC.Years).bind fun x3 => (bif x3 then ((impl_within aC.Weight 1 100).bind fun x4 => some x4) else some false)) else some false)) else some false))).bind fun (j5 : Bool) => some j5)
theorem impl_IsClaim_run (aC : Claim) (r : Bool) (h : impl_IsClaim aC = some r) : SCall Tryz.prog 67 [.v (.agg (tc eClaim aC))] ⟨[.v (vb r)], [], false⟩ := by
  refine scall_in Tryz.func67 rfl [(.tmp 2)] rfl (fun r => ⟨[.v (vb r)], [], false⟩) (r := r) ?_
  unfold impl_IsClaim at h
  refine srk tbok ⟨23, [(1, .ref 1 0)], [(1, .box (tc eClaim aC))]⟩ ?_
  refine swp_seq ?_
  refine swp_regJ h (fun j5 => ⟨23, [(2, vb j5)], []⟩) (fun v6 h => ?_) (fun j5 h => ?_)
  refine SRun.ck tbok 5 ⟨23, [(1, .ref 1 0), (7, .own 7)], [(1, .box (tc eClaim aC)), (7, oa 9 1 eS ([aC.Source, aC.Place] : List ByteArray))]⟩ ?_
  obtain ⟨x1, hx1, h⟩ := bind_some h
  refine SRun.ls (xc ents118 (impl_areWords_run ([aC.Source, aC.Place] : List ByteArray) _ hx1)) ?_
  refine SRun.ck tbok 1 ⟨23, [(1, .ref 1 0), (9, vb x1)], [(1, .box (tc eClaim aC))]⟩ ?_
  refine SRun.cu [(9, fun b => b)] h (fun h => ?_) fun h => ?_
  refine SRun.ck tbok 1 ⟨23, [(1, .ref 1 0), (9, vb true), (10, .agg (tc eClaim aC))], [(1, .box (tc eClaim aC))]⟩ ?_
  obtain ⟨x2, hx2, h⟩ := bind_some h
  refine SRun.ls (xc ents119 (impl_isClaimValue_run aC _ hx2)) ?_
  refine SRun.ck tbok 2 ⟨23, [(1, .ref 1 0), (13, vb x2)], [(1, .box (tc eClaim aC))]⟩ ?_
  refine SRun.cu [(13, fun b => b)] h (fun h => ?_) fun h => ?_
  refine SRun.ck tbok 2 ⟨23, [(1, .ref 1 0), (13, vb true), (15, .agg (tc eSpan aC.Years))], [(1, .box (tc eClaim aC))]⟩ ?_
  obtain ⟨x3, hx3, h⟩ := bind_some h
  refine SRun.ls (xc ents120 (impl_IsSpan_run aC.Years _ hx3)) ?_
  refine SRun.ck tbok 2 ⟨23, [(1, .ref 1 0), (18, vb x3)], [(1, .box (tc eClaim aC))]⟩ ?_
  refine SRun.cu [(18, fun b => b)] h (fun h => ?_) fun h => ?_
  refine SRun.ck tbok 2 ⟨23, [(18, vb true), (20, vi aC.Weight)], []⟩ ?_
  obtain ⟨x4, hx4, h⟩ := bind_some h
  refine SRun.ls (xc ents121 (impl_within_run aC.Weight 1 100 _ hx4)) ?_
  refine SRun.ck tbok 2 ⟨23, [(2, vb x4)], []⟩ ?_
  refine SRun.nil ?_
  obtain rfl := inj h
  exact Le.sub0
  refine SRun.ck tbok 5 ⟨23, [(2, vb false)], []⟩ ?_
  refine SRun.nil ?_
  obtain rfl := inj h
  exact Le.sub0
  refine SRun.ck tbok 10 ⟨23, [(2, vb false)], []⟩ ?_
  refine SRun.nil ?_
  obtain rfl := inj h
  exact Le.sub0
  refine SRun.ck tbok 14 ⟨23, [(2, vb false)], []⟩ ?_
  refine SRun.nil ?_
  obtain rfl := inj h
  exact Le.sub0
  refine swp_ret ?_
  obtain rfl := inj h
  exact q_fr (f1 fv)
theorem ents67 : Ents Tryz.prog 67 := ents_of Tryz.func67 (by kernel_rfl) rfl
noncomputable def impl_AreClaims_1 (aC : Claim) : Option (Bool) :=
  ((impl_IsClaim aC).bind fun x1 => some (!x1))
theorem impl_AreClaims_1_run (aC : Claim) (r : Bool) (h : impl_AreClaims_1 aC = some r) : SCall Tryz.prog 66 [.v (.agg (tc eClaim aC))] ⟨[.v (vb r)], [], false⟩ := by
  refine scall_in Tryz.func66 rfl [(.tmp 2)] rfl (fun r => ⟨[.v (vb r)], [], false⟩) (r := r) ?_
  unfold impl_AreClaims_1 at h
  refine srk tbok ⟨6, [(1, .ref 1 0)], [(1, .box (tc eClaim aC))]⟩ ?_
  refine sr ?_
  refine SRun.ck tbok 1 ⟨6, [(3, .agg (tc eClaim aC))], []⟩ ?_
  obtain ⟨x1, hx1, h⟩ := bind_some h
  refine SRun.ls (xc ents67 (impl_IsClaim_run aC _ hx1)) ?_
  refine ckn tbok 2 ⟨6, [(2, vb (!x1))], []⟩ ?_
  refine swp_ret ?_
  obtain rfl := inj h
  exact q_fr (f1 fv)
theorem ents66 : Ents Tryz.prog 66 := ents_of Tryz.func66 (by kernel_rfl) rfl
noncomputable def slices_IndexFunc_Claim_impl_AreClaims_1 (aS : (List Claim)) : Option (Int) :=
  (((forN (aS.length : Int) (fun (i3 : Int) (_ : Unit) => ((at' aS i3).bind fun x7 => ((impl_AreClaims_1 x7).bind fun x8 => (bif x8 then some (.inr (.inr i3)) else some (.inl ()))))) (fun (_ : Unit) => .inl ()) 0 ())).bind (Sum.elim (fun (_ : Unit) => some (-1)) some))
theorem slices_IndexFunc_Claim_impl_AreClaims_1_run (aS : (List Claim)) (r : Int) (h : slices_IndexFunc_Claim_impl_AreClaims_1 aS = some r) : SCall Tryz.prog 117 [.v (vl eClaim aS), .v (.clo 66 [])] ⟨[.v (vi r)], [], false⟩ := by
  refine scall_in Tryz.func117 rfl [(.tmp 4)] rfl (fun r => ⟨[.v (vi r)], [], false⟩) (r := r) ?_
  unfold slices_IndexFunc_Claim_impl_AreClaims_1 at h
  refine srk tbok ⟨19, [(0, vl eClaim aS), (1, .clo 66 [])], []⟩ ?_
  refine swp_seq ?_
  refine srk tbok ⟨19, [(0, vl eClaim aS), (1, .clo 66 []), (7, vi (aS.length : Int)), (8, vi 0)], []⟩ ?_
  refine swp_seqE (r := r) h (fun j1 => ⟨19, [], []⟩) (fun v2 h => ?_) (fun j1 h => ?_)
  refine swp_blk (a := v2) ?_
  refine swp_lpL (r := v2) (s := (0, ())) _ (fun s3 => ⟨19, [(0, vl eClaim aS), (1, .clo 66 []), (7, vi (aS.length : Int)), (8, vi s3.1)], []⟩) _ (Le.sub0) h (fun s3 v4 h => ?_)
  refine srk tbok ⟨19, [(0, vl eClaim aS), (1, .clo 66 []), (7, vi (aS.length : Int)), (8, vi s3.1), (9, vb (decide (s3.1 < (aS.length : Int))))], []⟩ ?_
  refine swp_seq ?_
  refine swp_cd h (fun h => ?_) fun h => ?_
  refine swp_skip ?_
  refine nx_n ?_
  refine swp_seq ?_
  refine swp_seqL (r := v4) h (fun j5 => ⟨19, [(0, vl eClaim aS), (1, .clo 66 []), (7, vi (aS.length : Int)), (8, vi s3.1)], []⟩) (fun v6 h => ?_) (fun j5 h => ?_)
  refine swp_blk (a := v6) ?_
  refine srk tbok ⟨19, [(0, vl eClaim aS), (1, .clo 66 []), (5, vi s3.1), (7, vi (aS.length : Int)), (8, vi s3.1)], []⟩ ?_
  refine sr ?_
  refine SRun.ck tbok 3 ⟨19, [(0, vl eClaim aS), (1, .clo 66 []), (5, vi s3.1), (7, vi (aS.length : Int)), (8, vi s3.1), (11, .clo 66 []), (12, vl eClaim aS), (13, vi s3.1)], []⟩ ?_
  obtain ⟨x7, hx7, h⟩ := bind_some h
  refine SRun.ls (x_index (L := aS) (f := eClaim) (ti := ti24) (tj := ti42) (e := 42) (k := .i64) tbok rfl hx7) ?_
  refine SRun.ck tbok 1 ⟨19, [(0, vl eClaim aS), (1, .clo 66 []), (5, vi s3.1), (7, vi (aS.length : Int)), (8, vi s3.1), (11, .clo 66 []), (15, .agg (tc eClaim x7))], []⟩ ?_
  obtain ⟨x8, hx8, h⟩ := bind_some h
  refine SRun.ls (xc ents66 (impl_AreClaims_1_run x7 _ hx8)) ?_
  refine SRun.nx ?_
  refine swp_cd h (fun h => ?_) fun h => ?_
  refine srk tbok ⟨19, [(4, vi s3.1)], []⟩ ?_
  refine swp_ret ?_
  obtain rfl := inj h
  exact q_br (q_rr (q_rr (q_br (q_rr (q_fr (f1 fv))))))
  refine swp_skip ?_
  obtain rfl := inj h
  exact q_bn (q_l (Le.sub0))
  refine swp_reg ?_
  refine SRun.ck tbok 2 ⟨19, [(0, vl eClaim aS), (1, .clo 66 []), (7, vi (aS.length : Int)), (8, vi (w64 (s3.1 + 1)))], []⟩ ?_
  refine SRun.nil ?_
  obtain rfl := inj h
  exact q_l (Le.sub0)
  refine swp_exit ?_
  obtain rfl := inj h
  exact nx_e (q_re (q_bh (q_l (Le.sub0))))
  refine srk tbok ⟨19, [(4, vi (-1))], []⟩ ?_
  refine swp_ret ?_
  obtain rfl := inj h
  exact q_fr (f1 fv)
theorem ents117 : Ents Tryz.prog 117 := ents_of Tryz.func117 (by kernel_rfl) rfl
noncomputable def slices_ContainsFunc_Claim_impl_AreClaims_1 (aS : (List Claim)) : Option (Bool) :=
  ((slices_IndexFunc_Claim_impl_AreClaims_1 aS).bind fun x1 => some (decide (x1 ≥ 0)))
theorem slices_ContainsFunc_Claim_impl_AreClaims_1_run (aS : (List Claim)) (r : Bool) (h : slices_ContainsFunc_Claim_impl_AreClaims_1 aS = some r) : SCall Tryz.prog 65 [.v (vl eClaim aS), .v (.clo 66 [])] ⟨[.v (vb r)], [], false⟩ := by
  refine scall_in Tryz.func65 rfl [(.tmp 4)] rfl (fun r => ⟨[.v (vb r)], [], false⟩) (r := r) ?_
  unfold slices_ContainsFunc_Claim_impl_AreClaims_1 at h
  refine srk tbok ⟨9, [(0, vl eClaim aS), (1, .clo 66 [])], []⟩ ?_
  refine sr ?_
  refine SRun.ck tbok 2 ⟨9, [(5, vl eClaim aS), (6, .clo 66 [])], []⟩ ?_
  obtain ⟨x1, hx1, h⟩ := bind_some h
  refine SRun.ls (xc ents117 (slices_IndexFunc_Claim_impl_AreClaims_1_run aS _ hx1)) ?_
  refine ckn tbok 2 ⟨9, [(4, vb (decide (x1 ≥ 0)))], []⟩ ?_
  refine swp_ret ?_
  obtain rfl := inj h
  exact q_fr (f1 fv)
theorem ents65 : Ents Tryz.prog 65 := ents_of Tryz.func65 (by kernel_rfl) rfl
noncomputable def impl_AreClaims (aList : (List Claim)) : Option (Bool) :=
  (((bif (decide ((aList.length : Int) ≤ 12)) then ((slices_ContainsFunc_Claim_impl_AreClaims_1 aList).bind fun x1 => some (!x1)) else some false)).bind fun (j2 : Bool) => some j2)
theorem impl_AreClaims_run (aList : (List Claim)) (r : Bool) (h : impl_AreClaims aList = some r) : SCall Tryz.prog 34 [.v (vl eClaim aList)] ⟨[.v (vb r)], [], false⟩ := by
  refine scall_in Tryz.func34 rfl [(.tmp 2)] rfl (fun r => ⟨[.v (vb r)], [], false⟩) (r := r) ?_
  unfold impl_AreClaims at h
  refine srk tbok ⟨11, [(0, vl eClaim aList)], []⟩ ?_
  refine swp_seq ?_
  refine swp_regJ h (fun j2 => ⟨11, [(2, vb j2)], []⟩) (fun v3 h => ?_) (fun j2 h => ?_)
  refine SRun.ck tbok 4 ⟨11, [(0, vl eClaim aList), (6, vb (decide ((aList.length : Int) ≤ 12)))], []⟩ ?_
  refine SRun.cu [(6, fun b => b)] h (fun h => ?_) fun h => ?_
  refine SRun.ck tbok 1 ⟨11, [(6, vb true), (7, vl eClaim aList)], []⟩ ?_
  obtain ⟨x1, hx1, h⟩ := bind_some h
  refine SRun.ls (xc ents65 (slices_ContainsFunc_Claim_impl_AreClaims_1_run aList _ hx1)) ?_
  refine SRun.ck tbok 3 ⟨11, [(2, vb (!x1))], []⟩ ?_
  refine SRun.nil ?_
  obtain rfl := inj h
  exact Le.sub0
  refine SRun.ck tbok 5 ⟨11, [(2, vb false)], []⟩ ?_
  refine SRun.nil ?_
  obtain rfl := inj h
  exact Le.sub0
  refine swp_ret ?_
  obtain rfl := inj h
  exact q_fr (f1 fv)
theorem ents34 : Ents Tryz.prog 34 := ents_of Tryz.func34 (by kernel_rfl) rfl
noncomputable def impl_aboutCode (aList : (List Claim)) (aPlace : ByteArray) (aYear : Int) : Option (Int) :=
  ((((((impl_AreClaims aList).bind fun x3 => (bif (!x3) then some true else ((impl_IsWord aPlace).bind fun x4 => some (!x4))))).bind fun (j5 : Bool) => (bif j5 then some (.inr 1) else ((impl_isYear aYear).bind fun x7 => (bif (!x7) then some (.inr 2) else some (.inl ())))))).bind (Sum.elim (fun (_ : Unit) => some 0) some))
theorem impl_aboutCode_run (aList : (List Claim)) (aPlace : ByteArray) (aYear : Int) (r : Int) (h : impl_aboutCode aList aPlace aYear = some r) : SCall Tryz.prog 54 [.v (vl eClaim aList), .v (vs aPlace), .v (vi aYear)] ⟨[.v (vi r)], [], false⟩ := by
  refine scall_in Tryz.func54 rfl [(.tmp 6)] rfl (fun r => ⟨[.v (vi r)], [], false⟩) (r := r) ?_
  unfold impl_aboutCode at h
  refine srk tbok ⟨20, [(0, vl eClaim aList), (1, vs aPlace), (2, vi aYear)], []⟩ ?_
  refine swp_seq ?_
  refine swp_seqE (r := r) h (fun j1 => ⟨20, [], []⟩) (fun v2 h => ?_) (fun j1 h => ?_)
  refine swp_blk (a := v2) ?_
  refine swp_seq ?_
  refine swp_regJ h (fun j5 => ⟨20, [(2, vi aYear), (7, vb j5)], []⟩) (fun v6 h => ?_) (fun j5 h => ?_)
  refine SRun.ck tbok 1 ⟨20, [(1, vs aPlace), (2, vi aYear), (8, vl eClaim aList)], []⟩ ?_
  obtain ⟨x3, hx3, h⟩ := bind_some h
  refine SRun.ls (xc ents34 (impl_AreClaims_run aList _ hx3)) ?_
  refine SRun.ck tbok 2 ⟨20, [(1, vs aPlace), (2, vi aYear), (11, vb (!x3))], []⟩ ?_
  refine SRun.cu [(11, fun b => b)] h (fun h => ?_) fun h => ?_
  refine SRun.ck tbok 5 ⟨20, [(2, vi aYear), (7, vb true)], []⟩ ?_
  refine SRun.nil ?_
  obtain rfl := inj h
  exact Le.sub0
  refine SRun.ck tbok 1 ⟨20, [(2, vi aYear), (11, vb false), (12, vs aPlace)], []⟩ ?_
  obtain ⟨x4, hx4, h⟩ := bind_some h
  refine SRun.ls (xc ents102 (impl_IsWord_run aPlace _ hx4)) ?_
  refine SRun.ck tbok 3 ⟨20, [(2, vi aYear), (7, vb (!x4))], []⟩ ?_
  refine SRun.nil ?_
  obtain rfl := inj h
  exact Le.sub0
  refine swp_cd h (fun h => ?_) fun h => ?_
  refine srk tbok ⟨20, [(6, vi 1)], []⟩ ?_
  refine swp_ret ?_
  obtain rfl := inj h
  exact q_br (q_rr (q_fr (f1 fv)))
  refine sr ?_
  refine SRun.ck tbok 1 ⟨20, [(17, vi aYear)], []⟩ ?_
  obtain ⟨x7, hx7, h⟩ := bind_some h
  refine SRun.ls (xc ents103 (impl_isYear_run aYear _ hx7)) ?_
  refine ckn tbok 2 ⟨20, [(16, vb (!x7))], []⟩ ?_
  refine swp_cd h (fun h => ?_) fun h => ?_
  refine srk tbok ⟨20, [(6, vi 2)], []⟩ ?_
  refine swp_ret ?_
  obtain rfl := inj h
  exact q_br (q_rr (q_fr (f1 fv)))
  refine swp_skip ?_
  obtain rfl := inj h
  exact q_bn (q_l (Le.sub0))
  refine srk tbok ⟨20, [(6, vi 0)], []⟩ ?_
  refine swp_ret ?_
  obtain rfl := inj h
  exact q_fr (f1 fv)
theorem ents54 : Ents Tryz.prog 54 := ents_of Tryz.func54 (by kernel_rfl) rfl
noncomputable def impl_subset (aBits : Int) : Option ((List Int)) :=
  (((loop (fun (s3 : Int × (List Int)) => ((sh' s3.1).bind fun _ => (bif (decide ((Int.fdiv aBits (2 ^ min (Int.toNat s3.1) 64)) > 0)) then ((((sh' s3.1).bind fun _ => (bif ((w64 ((BitVec.ofInt 64 (Int.fdiv aBits (2 ^ min (Int.toNat s3.1) 64)) &&& BitVec.ofInt 64 1).toNat : Int)) == 1) then ((app' s3.2 ([s3.1] : List Int)).bind fun x9 => some x9) else some s3.2))).bind fun (j6 : (List Int)) => some (.inl ((w64 (s3.1 + 1)), j6))) else some (.inr s3.2)))) (0, ([] : List Int)))).bind fun (j1 : (List Int)) => some j1)
theorem impl_subset_run (aBits : Int) (r : (List Int)) (h : impl_subset aBits = some r) : SCall Tryz.prog 82 [.v (vi aBits)] ⟨[.own 2 1 r.length (r.map (eI .i64))], [], false⟩ := by
  refine scall_in Tryz.func82 rfl [(.tmp 2)] rfl (fun r => ⟨[.own 2 1 r.length (r.map (eI .i64))], [], false⟩) (r := r) ?_
  unfold impl_subset at h
  refine srk tbok ⟨21, [(0, vi aBits)], []⟩ ?_
  refine srk tbok ⟨21, [(0, vi aBits), (3, .own 3)], [(3, oa 2 1 (eI .i64) ([] : List Int))]⟩ ?_
  refine swp_seq ?_
  refine srk tbok ⟨21, [(0, vi aBits), (3, .own 3), (4, vi 0)], [(3, oa 2 1 (eI .i64) ([] : List Int))]⟩ ?_
  refine swp_seqJ h (fun j1 => ⟨21, [(3, .own 3)], [(3, oa 2 1 (eI .i64) j1)]⟩) (fun v2 h => ?_) (fun j1 h => ?_)
  refine swp_blk (a := v2) ?_
  refine swp_lpL (r := v2) (s := (0, ([] : List Int))) _ (fun s3 => ⟨21, [(0, vi aBits), (3, .own 3), (4, vi s3.1)], [(3, oa 2 1 (eI .i64) s3.2)]⟩) _ (Le.sub0) h (fun s3 v4 h => ?_)
  refine swp_seq ?_
  refine sr ?_
  refine SRun.ck tbok 2 ⟨21, [(0, vi aBits), (3, .own 3), (4, vi s3.1), (5, vi aBits), (6, vi s3.1)], [(3, oa 2 1 (eI .i64) s3.2)]⟩ ?_
  obtain ⟨x5, hx5, h⟩ := bind_some h
  refine SRun.ls (lstep_shv (k := .i64) (k' := .i64) (i := aBits) (j := s3.1) hx5 false rfl) ?_
  refine ckn tbok 1 ⟨21, [(0, vi aBits), (3, .own 3), (4, vi s3.1), (8, vb (decide ((Int.fdiv aBits (2 ^ min (Int.toNat s3.1) 64)) > 0)))], [(3, oa 2 1 (eI .i64) s3.2)]⟩ ?_
  refine swp_cd h (fun h => ?_) fun h => ?_
  refine swp_skip ?_
  refine nx_n ?_
  refine swp_seq ?_
  refine swp_seqJ h (fun j6 => ⟨21, [(0, vi aBits), (3, .own 3), (4, vi s3.1)], [(3, oa 2 1 (eI .i64) j6)]⟩) (fun v7 h => ?_) (fun j6 h => ?_)
  refine swp_blk (a := v7) ?_
  refine sr ?_
  refine SRun.ck tbok 2 ⟨21, [(0, vi aBits), (3, .own 3), (4, vi s3.1), (11, vi aBits), (12, vi s3.1)], [(3, oa 2 1 (eI .i64) s3.2)]⟩ ?_
  obtain ⟨x8, hx8, h⟩ := bind_some h
  refine SRun.ls (lstep_shv (k := .i64) (k' := .i64) (i := aBits) (j := s3.1) hx8 false rfl) ?_
  refine ckn tbok 2 ⟨21, [(0, vi aBits), (3, .own 3), (4, vi s3.1), (15, vb ((w64 ((BitVec.ofInt 64 (Int.fdiv aBits (2 ^ min (Int.toNat s3.1) 64)) &&& BitVec.ofInt 64 1).toNat : Int)) == 1))], [(3, oa 2 1 (eI .i64) s3.2)]⟩ ?_
  refine swp_cd h (fun h => ?_) fun h => ?_
  refine swp_reg ?_
  refine SRun.ck tbok 3 ⟨21, [(0, vi aBits), (4, vi s3.1), (16, .own 3), (18, .own 18)], [(3, oa 2 1 (eI .i64) s3.2), (18, oa 2 1 (eI .i64) ([s3.1] : List Int))]⟩ ?_
  obtain ⟨x9, hx9, h⟩ := bind_some h
  refine SRun.estep (x_append (f := (eI .i64)) (t := 26) (ti := ti26) (tj := ti2) (zs := [.int .i64 0]) (e := 2) (m := 1) (d := 3) (xv := .own 18) hx9 tbok rfl rfl rfl rfl (x_src_o (e := 2))) ?_
  refine SRun.ck tbok 1 ⟨21, [(0, vi aBits), (3, .own 19), (4, vi s3.1)], [(19, oa 2 1 (eI .i64) x9)]⟩ ?_
  refine SRun.nil ?_
  obtain rfl := inj h
  exact q_bn (q_j (Le.rr [19] [(19, 3)]))
  refine swp_skip ?_
  obtain rfl := inj h
  exact q_bn (q_j (Le.sub0))
  refine swp_reg ?_
  refine SRun.ck tbok 3 ⟨21, [(0, vi aBits), (3, .own 3), (4, vi (w64 (s3.1 + 1)))], [(3, oa 2 1 (eI .i64) j6)]⟩ ?_
  refine SRun.nil ?_
  obtain rfl := inj h
  exact q_l (Le.sub0)
  refine swp_exit ?_
  obtain rfl := inj h
  exact nx_e (q_re (q_bh (q_j (Le.sub0))))
  refine srk tbok ⟨21, [(2, .own 3)], [(3, oa 2 1 (eI .i64) j1)]⟩ ?_
  refine swp_ret ?_
  obtain rfl := inj h
  exact q_fr (f1 (fo (eI_flat .i64)))
theorem ents82 : Ents Tryz.prog 82 := ents_of Tryz.func82 (by kernel_rfl) rfl
noncomputable def impl_minimalRepairs_1 (aI : Int) (c0 : (List Bool)) (c1 : Int) : Option (Bool) :=
  ((sh' aI).bind fun _ => ((at' c0 (w64 ((BitVec.ofInt 64 c1 &&& ~~~BitVec.ofInt 64 (w64 (1 * 2 ^ min (Int.toNat aI) 64))).toNat : Int))).bind fun x2 => some x2))
theorem impl_minimalRepairs_1_run (aI : Int) (c0 : (List Bool)) (c1 : Int) (r : Bool) (h : impl_minimalRepairs_1 aI c0 c1 = some r) : SCall Tryz.prog 122 [.v (vi aI), .v (.ptr [vl eB c0] 0), .v (.ptr [vi c1] 0)] ⟨[.v (vb r)], [], false⟩ := by
  refine scall_in Tryz.func122 rfl [(.tmp 4)] rfl (fun r => ⟨[.v (vb r)], [], false⟩) (r := r) ?_
  unfold impl_minimalRepairs_1 at h
  refine srk tbok ⟨12, [(0, vi aI), (1, .ptr [vl eB c0] 0), (2, .ptr [vi c1] 0)], []⟩ ?_
  refine swp_seq ?_
  refine swp_dr mixed ?_
  refine DGo.ck tbok false 3 ⟨12, [(5, vl eB c0), (6, vi c1), (7, vi aI)], []⟩ ?_
  obtain ⟨x1, hx1, h⟩ := bind_some h
  refine DGo.step (lstep_shv (k := .i64) (k' := .i64) (i := 1) (j := aI) hx1 true rfl) ?_
  refine DGo.ck tbok false 1 ⟨12, [(5, vl eB c0), (9, vi (w64 ((BitVec.ofInt 64 c1 &&& ~~~BitVec.ofInt 64 (w64 (1 * 2 ^ min (Int.toNat aI) 64))).toNat : Int)))], []⟩ ?_
  obtain ⟨x2, hx2, h⟩ := bind_some h
  refine DGo.step (x_index (L := c0) (f := eB) (ti := ti101) (tj := ti4) (e := 4) (k := .i64) tbok rfl hx2) ?_
  refine DGo.ck tbok false 2 ⟨12, [(4, vb x2)], []⟩ ?_
  refine DGo.nx ?_
  refine swp_ret ?_
  obtain rfl := inj h
  exact q_fr (f1 fv)
theorem ents122 : Ents Tryz.prog 122 := ents_of Tryz.func122 (by kernel_rfl) rfl
noncomputable def slices_IndexFunc_int64_impl_minimalRepairs_1 (aS : (List Int)) (aF0 : (List Bool)) (aF1 : Int) : Option (Int) :=
  (((forN (aS.length : Int) (fun (i3 : Int) (_ : Unit) => ((at' aS i3).bind fun x7 => ((impl_minimalRepairs_1 x7 aF0 aF1).bind fun x8 => (bif x8 then some (.inr (.inr i3)) else some (.inl ()))))) (fun (_ : Unit) => .inl ()) 0 ())).bind (Sum.elim (fun (_ : Unit) => some (-1)) some))
theorem slices_IndexFunc_int64_impl_minimalRepairs_1_run (aS : (List Int)) (aF0 : (List Bool)) (aF1 : Int) (r : Int) (h : slices_IndexFunc_int64_impl_minimalRepairs_1 aS aF0 aF1 = some r) : SCall Tryz.prog 131 [.v (vl (eI .i64) aS), .v (.clo 122 [.ptr [vl eB aF0] 0, .ptr [vi aF1] 0])] ⟨[.v (vi r)], [], false⟩ := by
  refine scall_in Tryz.func131 rfl [(.tmp 4)] rfl (fun r => ⟨[.v (vi r)], [], false⟩) (r := r) ?_
  unfold slices_IndexFunc_int64_impl_minimalRepairs_1 at h
  refine srk tbok ⟨19, [(0, vl (eI .i64) aS), (1, .clo 122 [.ptr [vl eB aF0] 0, .ptr [vi aF1] 0])], []⟩ ?_
  refine swp_seq ?_
  refine srk tbok ⟨19, [(0, vl (eI .i64) aS), (1, .clo 122 [.ptr [vl eB aF0] 0, .ptr [vi aF1] 0]), (7, vi (aS.length : Int)), (8, vi 0)], []⟩ ?_
  refine swp_seqE (r := r) h (fun j1 => ⟨19, [], []⟩) (fun v2 h => ?_) (fun j1 h => ?_)
  refine swp_blk (a := v2) ?_
  refine swp_lpL (r := v2) (s := (0, ())) _ (fun s3 => ⟨19, [(0, vl (eI .i64) aS), (1, .clo 122 [.ptr [vl eB aF0] 0, .ptr [vi aF1] 0]), (7, vi (aS.length : Int)), (8, vi s3.1)], []⟩) _ (Le.sub0) h (fun s3 v4 h => ?_)
  refine srk tbok ⟨19, [(0, vl (eI .i64) aS), (1, .clo 122 [.ptr [vl eB aF0] 0, .ptr [vi aF1] 0]), (7, vi (aS.length : Int)), (8, vi s3.1), (9, vb (decide (s3.1 < (aS.length : Int))))], []⟩ ?_
  refine swp_seq ?_
  refine swp_cd h (fun h => ?_) fun h => ?_
  refine swp_skip ?_
  refine nx_n ?_
  refine swp_seq ?_
  refine swp_seqL (r := v4) h (fun j5 => ⟨19, [(0, vl (eI .i64) aS), (1, .clo 122 [.ptr [vl eB aF0] 0, .ptr [vi aF1] 0]), (7, vi (aS.length : Int)), (8, vi s3.1)], []⟩) (fun v6 h => ?_) (fun j5 h => ?_)
  refine swp_blk (a := v6) ?_
  refine srk tbok ⟨19, [(0, vl (eI .i64) aS), (1, .clo 122 [.ptr [vl eB aF0] 0, .ptr [vi aF1] 0]), (5, vi s3.1), (7, vi (aS.length : Int)), (8, vi s3.1)], []⟩ ?_
  refine sr ?_
  refine SRun.ck tbok 3 ⟨19, [(0, vl (eI .i64) aS), (1, .clo 122 [.ptr [vl eB aF0] 0, .ptr [vi aF1] 0]), (5, vi s3.1), (7, vi (aS.length : Int)), (8, vi s3.1), (11, .clo 122 [.ptr [vl eB aF0] 0, .ptr [vi aF1] 0]), (12, vl (eI .i64) aS), (13, vi s3.1)], []⟩ ?_
  obtain ⟨x7, hx7, h⟩ := bind_some h
  refine SRun.ls (x_index (L := aS) (f := (eI .i64)) (ti := ti26) (tj := ti2) (e := 2) (k := .i64) tbok rfl hx7) ?_
  refine SRun.ck tbok 1 ⟨19, [(0, vl (eI .i64) aS), (1, .clo 122 [.ptr [vl eB aF0] 0, .ptr [vi aF1] 0]), (5, vi s3.1), (7, vi (aS.length : Int)), (8, vi s3.1), (11, .clo 122 [.ptr [vl eB aF0] 0, .ptr [vi aF1] 0]), (15, vi x7)], []⟩ ?_
  obtain ⟨x8, hx8, h⟩ := bind_some h
  refine SRun.ls (xc ents122 (impl_minimalRepairs_1_run x7 aF0 aF1 _ hx8)) ?_
  refine SRun.nx ?_
  refine swp_cd h (fun h => ?_) fun h => ?_
  refine srk tbok ⟨19, [(4, vi s3.1)], []⟩ ?_
  refine swp_ret ?_
  obtain rfl := inj h
  exact q_br (q_rr (q_rr (q_br (q_rr (q_fr (f1 fv))))))
  refine swp_skip ?_
  obtain rfl := inj h
  exact q_bn (q_l (Le.sub0))
  refine swp_reg ?_
  refine SRun.ck tbok 2 ⟨19, [(0, vl (eI .i64) aS), (1, .clo 122 [.ptr [vl eB aF0] 0, .ptr [vi aF1] 0]), (7, vi (aS.length : Int)), (8, vi (w64 (s3.1 + 1)))], []⟩ ?_
  refine SRun.nil ?_
  obtain rfl := inj h
  exact q_l (Le.sub0)
  refine swp_exit ?_
  obtain rfl := inj h
  exact nx_e (q_re (q_bh (q_l (Le.sub0))))
  refine srk tbok ⟨19, [(4, vi (-1))], []⟩ ?_
  refine swp_ret ?_
  obtain rfl := inj h
  exact q_fr (f1 fv)
theorem ents131 : Ents Tryz.prog 131 := ents_of Tryz.func131 (by kernel_rfl) rfl
noncomputable def slices_ContainsFunc_int64_impl_minimalRepairs_1 (aS : (List Int)) (aF0 : (List Bool)) (aF1 : Int) : Option (Bool) :=
  ((slices_IndexFunc_int64_impl_minimalRepairs_1 aS aF0 aF1).bind fun x1 => some (decide (x1 ≥ 0)))
theorem slices_ContainsFunc_int64_impl_minimalRepairs_1_run (aS : (List Int)) (aF0 : (List Bool)) (aF1 : Int) (r : Bool) (h : slices_ContainsFunc_int64_impl_minimalRepairs_1 aS aF0 aF1 = some r) : SCall Tryz.prog 83 [.v (vl (eI .i64) aS), .v (.clo 122 [.ptr [vl eB aF0] 0, .ptr [vi aF1] 0])] ⟨[.v (vb r)], [], false⟩ := by
  refine scall_in Tryz.func83 rfl [(.tmp 4)] rfl (fun r => ⟨[.v (vb r)], [], false⟩) (r := r) ?_
  unfold slices_ContainsFunc_int64_impl_minimalRepairs_1 at h
  refine srk tbok ⟨9, [(0, vl (eI .i64) aS), (1, .clo 122 [.ptr [vl eB aF0] 0, .ptr [vi aF1] 0])], []⟩ ?_
  refine sr ?_
  refine SRun.ck tbok 2 ⟨9, [(5, vl (eI .i64) aS), (6, .clo 122 [.ptr [vl eB aF0] 0, .ptr [vi aF1] 0])], []⟩ ?_
  obtain ⟨x1, hx1, h⟩ := bind_some h
  refine SRun.ls (xc ents131 (slices_IndexFunc_int64_impl_minimalRepairs_1_run aS aF0 aF1 _ hx1)) ?_
  refine ckn tbok 2 ⟨9, [(4, vb (decide (x1 ≥ 0)))], []⟩ ?_
  refine swp_ret ?_
  obtain rfl := inj h
  exact q_fr (f1 fv)
theorem ents83 : Ents Tryz.prog 83 := ents_of Tryz.func83 (by kernel_rfl) rfl
noncomputable def slices_Index_int64 (aS : (List Int)) (aV : Int) : Option (Int) :=
  (((forN (aS.length : Int) (fun (i3 : Int) (_ : Unit) => ((at' aS i3).bind fun x7 => (bif (aV == x7) then some (.inr (.inr i3)) else some (.inl ())))) (fun (_ : Unit) => .inl ()) 0 ())).bind (Sum.elim (fun (_ : Unit) => some (-1)) some))
theorem slices_Index_int64_run (aS : (List Int)) (aV : Int) (r : Int) (h : slices_Index_int64 aS aV = some r) : SCall Tryz.prog 128 [.v (vl (eI .i64) aS), .v (vi aV)] ⟨[.v (vi r)], [], false⟩ := by
  refine scall_in Tryz.func128 rfl [(.tmp 4)] rfl (fun r => ⟨[.v (vi r)], [], false⟩) (r := r) ?_
  unfold slices_Index_int64 at h
  refine srk tbok ⟨19, [(0, vl (eI .i64) aS), (1, vi aV)], []⟩ ?_
  refine swp_seq ?_
  refine srk tbok ⟨19, [(0, vl (eI .i64) aS), (1, vi aV), (7, vi (aS.length : Int)), (8, vi 0)], []⟩ ?_
  refine swp_seqE (r := r) h (fun j1 => ⟨19, [], []⟩) (fun v2 h => ?_) (fun j1 h => ?_)
  refine swp_blk (a := v2) ?_
  refine swp_lpL (r := v2) (s := (0, ())) _ (fun s3 => ⟨19, [(0, vl (eI .i64) aS), (1, vi aV), (7, vi (aS.length : Int)), (8, vi s3.1)], []⟩) _ (Le.sub0) h (fun s3 v4 h => ?_)
  refine srk tbok ⟨19, [(0, vl (eI .i64) aS), (1, vi aV), (7, vi (aS.length : Int)), (8, vi s3.1), (9, vb (decide (s3.1 < (aS.length : Int))))], []⟩ ?_
  refine swp_seq ?_
  refine swp_cd h (fun h => ?_) fun h => ?_
  refine swp_skip ?_
  refine nx_n ?_
  refine swp_seq ?_
  refine swp_seqL (r := v4) h (fun j5 => ⟨19, [(0, vl (eI .i64) aS), (1, vi aV), (7, vi (aS.length : Int)), (8, vi s3.1)], []⟩) (fun v6 h => ?_) (fun j5 h => ?_)
  refine swp_blk (a := v6) ?_
  refine srk tbok ⟨19, [(0, vl (eI .i64) aS), (1, vi aV), (5, vi s3.1), (7, vi (aS.length : Int)), (8, vi s3.1)], []⟩ ?_
  refine sr ?_
  refine SRun.ck tbok 3 ⟨19, [(0, vl (eI .i64) aS), (1, vi aV), (5, vi s3.1), (7, vi (aS.length : Int)), (8, vi s3.1), (11, vi aV), (12, vl (eI .i64) aS), (13, vi s3.1)], []⟩ ?_
  obtain ⟨x7, hx7, h⟩ := bind_some h
  refine SRun.ls (x_index (L := aS) (f := (eI .i64)) (ti := ti26) (tj := ti2) (e := 2) (k := .i64) tbok rfl hx7) ?_
  refine ckn tbok 2 ⟨19, [(0, vl (eI .i64) aS), (1, vi aV), (5, vi s3.1), (7, vi (aS.length : Int)), (8, vi s3.1), (16, vb (aV == x7))], []⟩ ?_
  refine swp_cd h (fun h => ?_) fun h => ?_
  refine srk tbok ⟨19, [(4, vi s3.1)], []⟩ ?_
  refine swp_ret ?_
  obtain rfl := inj h
  exact q_br (q_rr (q_rr (q_br (q_rr (q_fr (f1 fv))))))
  refine swp_skip ?_
  obtain rfl := inj h
  exact q_bn (q_l (Le.sub0))
  refine swp_reg ?_
  refine SRun.ck tbok 2 ⟨19, [(0, vl (eI .i64) aS), (1, vi aV), (7, vi (aS.length : Int)), (8, vi (w64 (s3.1 + 1)))], []⟩ ?_
  refine SRun.nil ?_
  obtain rfl := inj h
  exact q_l (Le.sub0)
  refine swp_exit ?_
  obtain rfl := inj h
  exact nx_e (q_re (q_bh (q_l (Le.sub0))))
  refine srk tbok ⟨19, [(4, vi (-1))], []⟩ ?_
  refine swp_ret ?_
  obtain rfl := inj h
  exact q_fr (f1 fv)
theorem ents128 : Ents Tryz.prog 128 := ents_of Tryz.func128 (by kernel_rfl) rfl
noncomputable def slices_Contains_int64 (aS : (List Int)) (aV : Int) : Option (Bool) :=
  ((slices_Index_int64 aS aV).bind fun x1 => some (decide (x1 ≥ 0)))
theorem slices_Contains_int64_run (aS : (List Int)) (aV : Int) (r : Bool) (h : slices_Contains_int64 aS aV = some r) : SCall Tryz.prog 79 [.v (vl (eI .i64) aS), .v (vi aV)] ⟨[.v (vb r)], [], false⟩ := by
  refine scall_in Tryz.func79 rfl [(.tmp 4)] rfl (fun r => ⟨[.v (vb r)], [], false⟩) (r := r) ?_
  unfold slices_Contains_int64 at h
  refine srk tbok ⟨9, [(0, vl (eI .i64) aS), (1, vi aV)], []⟩ ?_
  refine sr ?_
  refine SRun.ck tbok 2 ⟨9, [(5, vl (eI .i64) aS), (6, vi aV)], []⟩ ?_
  obtain ⟨x1, hx1, h⟩ := bind_some h
  refine SRun.ls (xc ents128 (slices_Index_int64_run aS aV _ hx1)) ?_
  refine ckn tbok 2 ⟨9, [(4, vb (decide (x1 ≥ 0)))], []⟩ ?_
  refine swp_ret ?_
  obtain rfl := inj h
  exact q_fr (f1 fv)
theorem ents79 : Ents Tryz.prog 79 := ents_of Tryz.func79 (by kernel_rfl) rfl
noncomputable def impl_kept (aList : (List Claim)) (aRemoved : (List Int)) : Option ((List Claim)) :=
  (((forS (aList.length : Int) (fun (i3 : Int) (s3 : (List Claim)) => ((at' aList i3).bind fun x7 => ((slices_Contains_int64 aRemoved i3).bind fun x8 => (bif (!x8) then ((app' s3 ([x7] : List Claim)).bind fun x9 => some x9) else some s3)))) (fun (s3 : (List Claim)) => s3) 0 ([] : List Claim))).bind fun (j1 : (List Claim)) => some j1)
theorem impl_kept_run (aList : (List Claim)) (aRemoved : (List Int)) (r : (List Claim)) (h : impl_kept aList aRemoved = some r) : SCall Tryz.prog 40 [.v (vl eClaim aList), .v (vl (eI .i64) aRemoved)] ⟨[.own 42 7 r.length (r.map eClaim)], [], false⟩ := by
  refine scall_in Tryz.func40 rfl [(.tmp 4)] rfl (fun r => ⟨[.own 42 7 r.length (r.map eClaim)], [], false⟩) (r := r) ?_
  unfold impl_kept at h
  refine srk tbok ⟨25, [(0, vl eClaim aList), (1, vl (eI .i64) aRemoved)], []⟩ ?_
  refine srk tbok ⟨25, [(0, vl eClaim aList), (1, vl (eI .i64) aRemoved), (5, .own 5)], [(5, oa 42 7 eClaim ([] : List Claim))]⟩ ?_
  refine swp_seq ?_
  refine srk tbok ⟨25, [(1, vl (eI .i64) aRemoved), (5, .own 5), (8, vl eClaim aList), (9, vi (aList.length : Int)), (10, vi 0)], [(5, oa 42 7 eClaim ([] : List Claim))]⟩ ?_
  refine swp_seqJ h (fun j1 => ⟨25, [(5, .own 5)], [(5, oa 42 7 eClaim j1)]⟩) (fun v2 h => ?_) (fun j1 h => ?_)
  refine swp_blk (a := v2) ?_
  refine swp_lpL (r := v2) (s := (0, ([] : List Claim))) _ (fun s3 => ⟨25, [(1, vl (eI .i64) aRemoved), (5, .own 5), (8, vl eClaim aList), (9, vi (aList.length : Int)), (10, vi s3.1)], [(5, oa 42 7 eClaim s3.2)]⟩) _ (Le.sub0) h (fun s3 v4 h => ?_)
  refine srk tbok ⟨25, [(1, vl (eI .i64) aRemoved), (5, .own 5), (8, vl eClaim aList), (9, vi (aList.length : Int)), (10, vi s3.1), (11, vb (decide (s3.1 < (aList.length : Int))))], [(5, oa 42 7 eClaim s3.2)]⟩ ?_
  refine swp_seq ?_
  refine swp_cd h (fun h => ?_) fun h => ?_
  refine swp_skip ?_
  refine nx_n ?_
  refine swp_seq ?_
  refine swp_seqJ h (fun j5 => ⟨25, [(1, vl (eI .i64) aRemoved), (5, .own 5), (8, vl eClaim aList), (9, vi (aList.length : Int)), (10, vi s3.1)], [(5, oa 42 7 eClaim j5)]⟩) (fun v6 h => ?_) (fun j5 h => ?_)
  refine swp_blk (a := v6) ?_
  refine sr ?_
  refine SRun.ck tbok 1 ⟨25, [(1, vl (eI .i64) aRemoved), (5, .own 5), (8, vl eClaim aList), (9, vi (aList.length : Int)), (10, vi s3.1), (12, vi s3.1)], [(5, oa 42 7 eClaim s3.2)]⟩ ?_
  obtain ⟨x7, hx7, h⟩ := bind_some h
  refine SRun.ls (x_index (L := aList) (f := eClaim) (ti := ti24) (tj := ti42) (e := 42) (k := .i64) tbok rfl hx7) ?_
  refine ckn tbok 4 ⟨25, [(1, vl (eI .i64) aRemoved), (5, .own 5), (6, vi s3.1), (7, .ref 7 0), (8, vl eClaim aList), (9, vi (aList.length : Int)), (10, vi s3.1)], [(5, oa 42 7 eClaim s3.2), (7, .box (tc eClaim x7))]⟩ ?_
  refine sr ?_
  refine SRun.ck tbok 2 ⟨25, [(1, vl (eI .i64) aRemoved), (5, .own 5), (7, .ref 7 0), (8, vl eClaim aList), (9, vi (aList.length : Int)), (10, vi s3.1), (15, vl (eI .i64) aRemoved), (16, vi s3.1)], [(5, oa 42 7 eClaim s3.2), (7, .box (tc eClaim x7))]⟩ ?_
  obtain ⟨x8, hx8, h⟩ := bind_some h
  refine SRun.ls (xc ents79 (slices_Contains_int64_run aRemoved s3.1 _ hx8)) ?_
  refine ckn tbok 1 ⟨25, [(1, vl (eI .i64) aRemoved), (5, .own 5), (7, .ref 7 0), (8, vl eClaim aList), (9, vi (aList.length : Int)), (10, vi s3.1), (18, vb (!x8))], [(5, oa 42 7 eClaim s3.2), (7, .box (tc eClaim x7))]⟩ ?_
  refine swp_cd h (fun h => ?_) fun h => ?_
  refine swp_reg ?_
  refine SRun.ck tbok 3 ⟨25, [(1, vl (eI .i64) aRemoved), (8, vl eClaim aList), (9, vi (aList.length : Int)), (10, vi s3.1), (19, .own 5), (21, .own 21)], [(5, oa 42 7 eClaim s3.2), (21, oa 42 7 eClaim ([x7] : List Claim))]⟩ ?_
  obtain ⟨x9, hx9, h⟩ := bind_some h
  refine SRun.estep (x_append (f := eClaim) (t := 24) (ti := ti24) (tj := ti42) (zs := [.string (ByteArray.mk #[]), .int .i64 0, .string (ByteArray.mk #[]), .string (ByteArray.mk #[]), .int .i64 0, .int .i64 0, .int .i64 0]) (e := 42) (m := 7) (d := 5) (xv := .own 21) hx9 tbok rfl rfl rfl rfl (x_src_o (e := 42))) ?_
  refine SRun.ck tbok 1 ⟨25, [(1, vl (eI .i64) aRemoved), (5, .own 22), (8, vl eClaim aList), (9, vi (aList.length : Int)), (10, vi s3.1)], [(22, oa 42 7 eClaim x9)]⟩ ?_
  refine SRun.nil ?_
  obtain rfl := inj h
  exact q_bn (q_j (Le.rr [22] [(22, 5)]))
  refine swp_skip ?_
  obtain rfl := inj h
  exact q_bn (q_j (Le.sub0))
  refine swp_reg ?_
  refine SRun.ck tbok 2 ⟨25, [(1, vl (eI .i64) aRemoved), (5, .own 5), (8, vl eClaim aList), (9, vi (aList.length : Int)), (10, vi (w64 (s3.1 + 1)))], [(5, oa 42 7 eClaim j5)]⟩ ?_
  refine SRun.nil ?_
  obtain rfl := inj h
  exact q_l (Le.sub0)
  refine swp_exit ?_
  obtain rfl := inj h
  exact nx_e (q_re (q_bh (q_j (Le.sub0))))
  refine srk tbok ⟨25, [(4, .own 5)], [(5, oa 42 7 eClaim j1)]⟩ ?_
  refine swp_ret ?_
  obtain rfl := inj h
  exact q_fr (f1 (fo eClaim_flat))
theorem ents40 : Ents Tryz.prog 40 := ents_of Tryz.func40 (by kernel_rfl) rfl
noncomputable def impl_Span_meets (aS : Span) (aT : Span) : Option (Bool) :=
  some ((decide (aS.From ≤ aT.To)) && (decide (aT.From ≤ aS.To)))
theorem impl_Span_meets_run (aS : Span) (aT : Span) (r : Bool) (h : impl_Span_meets aS aT = some r) : SCall Tryz.prog 149 [.v (.agg (tc eSpan aS)), .v (.agg (tc eSpan aT))] ⟨[.v (vb r)], [], false⟩ := by
  refine scall_in Tryz.func149 rfl [(.tmp 4)] rfl (fun r => ⟨[.v (vb r)], [], false⟩) (r := r) ?_
  unfold impl_Span_meets at h
  refine srk tbok ⟨17, [(2, .ref 2 0), (3, .ref 3 0)], [(2, .box (tc eSpan aS)), (3, .box (tc eSpan aT))]⟩ ?_
  refine swp_seq ?_
  refine swp_regP ⟨17, [(4, vb ((decide (aS.From ≤ aT.To)) && (decide (aT.From ≤ aS.To))))], []⟩ ?_ ?_
  refine SRun.ck tbok 6 ⟨17, [(2, .ref 2 0), (3, .ref 3 0), (10, vb (decide (aS.From ≤ aT.To)))], [(2, .box (tc eSpan aS)), (3, .box (tc eSpan aT))]⟩ ?_
  generalize (decide (aS.From ≤ aT.To)) = bb
  cases bb
  refine SRun.ck tbok 7 ⟨17, [(4, vb false)], []⟩ ?_
  exact SRun.nil (Le.sub0)
  refine SRun.ck tbok 7 ⟨17, [(4, vb (decide (aT.From ≤ aS.To)))], []⟩ ?_
  exact SRun.nil (Le.sub0)
  refine swp_ret ?_
  obtain rfl := inj h
  exact q_fr (f1 fv)
theorem ents149 : Ents Tryz.prog 149 := ents_of Tryz.func149 (by kernel_rfl) rfl
noncomputable def impl_Claim_isWithout (aC : Claim) (aD : Claim) : Option (Bool) :=
  some ((aC.Kind == 1) && ((aD.Kind == 3) && (aD.Place.toList == aC.Value.toList)))
theorem impl_Claim_isWithout_run (aC : Claim) (aD : Claim) (r : Bool) (h : impl_Claim_isWithout aC aD = some r) : SCall Tryz.prog 150 [.v (.agg (tc eClaim aC)), .v (.agg (tc eClaim aD))] ⟨[.v (vb r)], [], false⟩ := by
  refine scall_in Tryz.func150 rfl [(.tmp 4)] rfl (fun r => ⟨[.v (vb r)], [], false⟩) (r := r) ?_
  unfold impl_Claim_isWithout at h
  refine srk tbok ⟨20, [(2, .ref 2 0), (3, .ref 3 0)], [(2, .box (tc eClaim aC)), (3, .box (tc eClaim aD))]⟩ ?_
  refine swp_seq ?_
  refine swp_regP ⟨20, [(4, vb ((aC.Kind == 1) && ((aD.Kind == 3) && (aD.Place.toList == aC.Value.toList))))], []⟩ ?_ ?_
  refine SRun.ck tbok 4 ⟨20, [(2, .ref 2 0), (3, .ref 3 0), (8, vb (aC.Kind == 1))], [(2, .box (tc eClaim aC)), (3, .box (tc eClaim aD))]⟩ ?_
  generalize (aC.Kind == 1) = bb
  cases bb
  refine SRun.ck tbok 12 ⟨20, [(4, vb false)], []⟩ ?_
  exact SRun.nil (Le.sub0)
  refine SRun.ck tbok 5 ⟨20, [(2, .ref 2 0), (3, .ref 3 0), (13, vb (aD.Kind == 3))], [(2, .box (tc eClaim aC)), (3, .box (tc eClaim aD))]⟩ ?_
  generalize (aD.Kind == 3) = bb
  cases bb
  refine SRun.ck tbok 7 ⟨20, [(4, vb false)], []⟩ ?_
  exact SRun.nil (Le.sub0)
  refine SRun.ck tbok 7 ⟨20, [(4, vb (aD.Place.toList == aC.Value.toList))], []⟩ ?_
  exact SRun.nil (Le.sub0)
  refine swp_ret ?_
  obtain rfl := inj h
  exact q_fr (f1 fv)
theorem ents150 : Ents Tryz.prog 150 := ents_of Tryz.func150 (by kernel_rfl) rfl
noncomputable def impl_Claim_contradicts (aC : Claim) (aD : Claim) : Option (Bool) :=
  ((impl_Span_meets aC.Years aD.Years).bind fun x1 => (bif (!x1) then some false else ((((impl_Claim_isWithout aC aD).bind fun x2 => (bif x2 then some true else ((impl_Claim_isWithout aD aC).bind fun x3 => some x3)))).bind fun (j4 : Bool) => (bif j4 then some true else (bif (!(aC.Place.toList == aD.Place.toList)) then some false else (bif (!((aC.Kind == 3) == (aD.Kind == 3))) then some true else some ((aC.Kind == aD.Kind) && (cond (aC.Kind == 0) (!(aC.Value.toList == aD.Value.toList)) ((aC.Kind == 1) && (!(aC.Value.toList == aD.Value.toList)))))))))))
theorem impl_Claim_contradicts_run (aC : Claim) (aD : Claim) (r : Bool) (h : impl_Claim_contradicts aC aD = some r) : SCall Tryz.prog 129 [.v (.agg (tc eClaim aC)), .v (.agg (tc eClaim aD))] ⟨[.v (vb r)], [], false⟩ := by
  refine scall_in Tryz.func129 rfl [(.tmp 4)] rfl (fun r => ⟨[.v (vb r)], [], false⟩) (r := r) ?_
  unfold impl_Claim_contradicts at h
  refine srk tbok ⟨53, [(2, .ref 2 0), (3, .ref 3 0)], [(2, .box (tc eClaim aC)), (3, .box (tc eClaim aD))]⟩ ?_
  refine swp_seq ?_
  refine sr ?_
  refine SRun.ck tbok 4 ⟨53, [(2, .ref 2 0), (3, .ref 3 0), (6, .agg (tc eSpan aC.Years)), (8, .agg (tc eSpan aD.Years))], [(2, .box (tc eClaim aC)), (3, .box (tc eClaim aD))]⟩ ?_
  obtain ⟨x1, hx1, h⟩ := bind_some h
  refine SRun.ls (xc ents149 (impl_Span_meets_run aC.Years aD.Years _ hx1)) ?_
  refine ckn tbok 1 ⟨53, [(2, .ref 2 0), (3, .ref 3 0), (10, vb (!x1))], [(2, .box (tc eClaim aC)), (3, .box (tc eClaim aD))]⟩ ?_
  refine swp_cd h (fun h => ?_) fun h => ?_
  refine srk tbok ⟨53, [(4, vb false)], []⟩ ?_
  refine swp_ret ?_
  obtain rfl := inj h
  exact nx_r (q_fr (f1 fv))
  refine swp_skip ?_
  refine nx_n ?_
  refine swp_seq ?_
  refine swp_seq ?_
  refine swp_regJ h (fun j4 => ⟨53, [(2, .ref 2 0), (3, .ref 3 0), (18, vb j4)], [(2, .box (tc eClaim aC)), (3, .box (tc eClaim aD))]⟩) (fun v5 h => ?_) (fun j4 h => ?_)
  refine SRun.ck tbok 2 ⟨53, [(2, .ref 2 0), (3, .ref 3 0), (11, .agg (tc eClaim aC)), (12, .agg (tc eClaim aD))], [(2, .box (tc eClaim aC)), (3, .box (tc eClaim aD))]⟩ ?_
  obtain ⟨x2, hx2, h⟩ := bind_some h
  refine SRun.ls (xc ents150 (impl_Claim_isWithout_run aC aD _ hx2)) ?_
  refine SRun.ck tbok 1 ⟨53, [(2, .ref 2 0), (3, .ref 3 0), (14, vb x2)], [(2, .box (tc eClaim aC)), (3, .box (tc eClaim aD))]⟩ ?_
  refine SRun.cu [(14, fun b => b)] h (fun h => ?_) fun h => ?_
  refine SRun.ck tbok 4 ⟨53, [(2, .ref 2 0), (3, .ref 3 0), (18, vb true)], [(2, .box (tc eClaim aC)), (3, .box (tc eClaim aD))]⟩ ?_
  refine SRun.nil ?_
  obtain rfl := inj h
  exact Le.sub0
  refine SRun.ck tbok 2 ⟨53, [(2, .ref 2 0), (3, .ref 3 0), (14, vb false), (15, .agg (tc eClaim aD)), (16, .agg (tc eClaim aC))], [(2, .box (tc eClaim aC)), (3, .box (tc eClaim aD))]⟩ ?_
  obtain ⟨x3, hx3, h⟩ := bind_some h
  refine SRun.ls (xc ents150 (impl_Claim_isWithout_run aD aC _ hx3)) ?_
  refine SRun.ck tbok 1 ⟨53, [(2, .ref 2 0), (3, .ref 3 0), (18, vb x3)], [(2, .box (tc eClaim aC)), (3, .box (tc eClaim aD))]⟩ ?_
  refine SRun.nil ?_
  obtain rfl := inj h
  exact Le.sub0
  refine swp_cd h (fun h => ?_) fun h => ?_
  refine srk tbok ⟨53, [(4, vb true)], []⟩ ?_
  refine swp_ret ?_
  obtain rfl := inj h
  exact nx_r (q_fr (f1 fv))
  refine swp_skip ?_
  refine nx_n ?_
  refine swp_seq ?_
  refine srk tbok ⟨53, [(2, .ref 2 0), (3, .ref 3 0), (23, vb (!(aC.Place.toList == aD.Place.toList)))], [(2, .box (tc eClaim aC)), (3, .box (tc eClaim aD))]⟩ ?_
  refine swp_cd h (fun h => ?_) fun h => ?_
  refine srk tbok ⟨53, [(4, vb false)], []⟩ ?_
  refine swp_ret ?_
  obtain rfl := inj h
  exact nx_r (q_fr (f1 fv))
  refine swp_skip ?_
  refine nx_n ?_
  refine swp_seq ?_
  refine sr ?_
  refine SRun.ck tbok 6 ⟨53, [(2, .ref 2 0), (3, .ref 3 0), (26, vb (aC.Kind == 3)), (29, vb (aD.Kind == 3))], [(2, .box (tc eClaim aC)), (3, .box (tc eClaim aD))]⟩ ?_
  refine SRun.ls (x_lstep_eqb tbok (ti := ti4) (i := (aC.Kind == 3)) (j := (aD.Kind == 3)) true rfl) ?_
  refine SRun.nx ?_
  refine swp_cd h (fun h => ?_) fun h => ?_
  refine srk tbok ⟨53, [(4, vb true)], []⟩ ?_
  refine swp_ret ?_
  obtain rfl := inj h
  exact nx_r (q_fr (f1 fv))
  refine swp_skip ?_
  refine nx_n ?_
  refine swp_seq ?_
  refine swp_regP ⟨53, [(4, vb ((aC.Kind == aD.Kind) && (cond (aC.Kind == 0) (!(aC.Value.toList == aD.Value.toList)) ((aC.Kind == 1) && (!(aC.Value.toList == aD.Value.toList))))))], []⟩ ?_ ?_
  refine SRun.ck tbok 6 ⟨53, [(2, .ref 2 0), (3, .ref 3 0), (36, vb (aC.Kind == aD.Kind))], [(2, .box (tc eClaim aC)), (3, .box (tc eClaim aD))]⟩ ?_
  generalize (aC.Kind == aD.Kind) = bb
  cases bb
  refine SRun.ck tbok 17 ⟨53, [(4, vb false)], []⟩ ?_
  exact SRun.nil (Le.sub0)
  refine SRun.ck tbok 4 ⟨53, [(2, .ref 2 0), (3, .ref 3 0), (36, vb true), (40, vb (aC.Kind == 0))], [(2, .box (tc eClaim aC)), (3, .box (tc eClaim aD))]⟩ ?_
  generalize (aC.Kind == 0) = bb
  cases bb
  refine SRun.ck tbok 6 ⟨53, [(2, .ref 2 0), (3, .ref 3 0), (46, vb (aC.Kind == 1))], [(2, .box (tc eClaim aC)), (3, .box (tc eClaim aD))]⟩ ?_
  generalize (aC.Kind == 1) = bb
  cases bb
  refine SRun.ck tbok 7 ⟨53, [(4, vb false)], []⟩ ?_
  exact SRun.nil (Le.sub0)
  refine SRun.ck tbok 7 ⟨53, [(4, vb (!(aC.Value.toList == aD.Value.toList)))], []⟩ ?_
  exact SRun.nil (Le.sub0)
  refine SRun.ck tbok 13 ⟨53, [(4, vb (!(aC.Value.toList == aD.Value.toList)))], []⟩ ?_
  exact SRun.nil (Le.sub0)
  refine swp_ret ?_
  obtain rfl := inj h
  exact q_fr (f1 fv)
theorem ents129 : Ents Tryz.prog 129 := ents_of Tryz.func129 (by kernel_rfl) rfl
noncomputable def slices_IndexFunc_Claim_impl_Claim_contradicts (aS : (List Claim)) (aF0 : Claim) : Option (Int) :=
  (((forN (aS.length : Int) (fun (i3 : Int) (_ : Unit) => ((at' aS i3).bind fun x7 => ((impl_Claim_contradicts aF0 x7).bind fun x8 => (bif x8 then some (.inr (.inr i3)) else some (.inl ()))))) (fun (_ : Unit) => .inl ()) 0 ())).bind (Sum.elim (fun (_ : Unit) => some (-1)) some))
theorem slices_IndexFunc_Claim_impl_Claim_contradicts_run (aS : (List Claim)) (aF0 : Claim) (r : Int) (h : slices_IndexFunc_Claim_impl_Claim_contradicts aS aF0 = some r) : SCall Tryz.prog 117 [.v (vl eClaim aS), .v (.mth 129 [.agg (tc eClaim aF0)])] ⟨[.v (vi r)], [], false⟩ := by
  refine scall_in Tryz.func117 rfl [(.tmp 4)] rfl (fun r => ⟨[.v (vi r)], [], false⟩) (r := r) ?_
  unfold slices_IndexFunc_Claim_impl_Claim_contradicts at h
  refine srk tbok ⟨19, [(0, vl eClaim aS), (1, .mth 129 [.agg (tc eClaim aF0)])], []⟩ ?_
  refine swp_seq ?_
  refine srk tbok ⟨19, [(0, vl eClaim aS), (1, .mth 129 [.agg (tc eClaim aF0)]), (7, vi (aS.length : Int)), (8, vi 0)], []⟩ ?_
  refine swp_seqE (r := r) h (fun j1 => ⟨19, [], []⟩) (fun v2 h => ?_) (fun j1 h => ?_)
  refine swp_blk (a := v2) ?_
  refine swp_lpL (r := v2) (s := (0, ())) _ (fun s3 => ⟨19, [(0, vl eClaim aS), (1, .mth 129 [.agg (tc eClaim aF0)]), (7, vi (aS.length : Int)), (8, vi s3.1)], []⟩) _ (Le.sub0) h (fun s3 v4 h => ?_)
  refine srk tbok ⟨19, [(0, vl eClaim aS), (1, .mth 129 [.agg (tc eClaim aF0)]), (7, vi (aS.length : Int)), (8, vi s3.1), (9, vb (decide (s3.1 < (aS.length : Int))))], []⟩ ?_
  refine swp_seq ?_
  refine swp_cd h (fun h => ?_) fun h => ?_
  refine swp_skip ?_
  refine nx_n ?_
  refine swp_seq ?_
  refine swp_seqL (r := v4) h (fun j5 => ⟨19, [(0, vl eClaim aS), (1, .mth 129 [.agg (tc eClaim aF0)]), (7, vi (aS.length : Int)), (8, vi s3.1)], []⟩) (fun v6 h => ?_) (fun j5 h => ?_)
  refine swp_blk (a := v6) ?_
  refine srk tbok ⟨19, [(0, vl eClaim aS), (1, .mth 129 [.agg (tc eClaim aF0)]), (5, vi s3.1), (7, vi (aS.length : Int)), (8, vi s3.1)], []⟩ ?_
  refine sr ?_
  refine SRun.ck tbok 3 ⟨19, [(0, vl eClaim aS), (1, .mth 129 [.agg (tc eClaim aF0)]), (5, vi s3.1), (7, vi (aS.length : Int)), (8, vi s3.1), (11, .mth 129 [.agg (tc eClaim aF0)]), (12, vl eClaim aS), (13, vi s3.1)], []⟩ ?_
  obtain ⟨x7, hx7, h⟩ := bind_some h
  refine SRun.ls (x_index (L := aS) (f := eClaim) (ti := ti24) (tj := ti42) (e := 42) (k := .i64) tbok rfl hx7) ?_
  refine SRun.ck tbok 1 ⟨19, [(0, vl eClaim aS), (1, .mth 129 [.agg (tc eClaim aF0)]), (5, vi s3.1), (7, vi (aS.length : Int)), (8, vi s3.1), (11, .mth 129 [.agg (tc eClaim aF0)]), (15, .agg (tc eClaim x7))], []⟩ ?_
  obtain ⟨x8, hx8, h⟩ := bind_some h
  refine SRun.ls (xc ents129 (impl_Claim_contradicts_run aF0 x7 _ hx8)) ?_
  refine SRun.nx ?_
  refine swp_cd h (fun h => ?_) fun h => ?_
  refine srk tbok ⟨19, [(4, vi s3.1)], []⟩ ?_
  refine swp_ret ?_
  obtain rfl := inj h
  exact q_br (q_rr (q_rr (q_br (q_rr (q_fr (f1 fv))))))
  refine swp_skip ?_
  obtain rfl := inj h
  exact q_bn (q_l (Le.sub0))
  refine swp_reg ?_
  refine SRun.ck tbok 2 ⟨19, [(0, vl eClaim aS), (1, .mth 129 [.agg (tc eClaim aF0)]), (7, vi (aS.length : Int)), (8, vi (w64 (s3.1 + 1)))], []⟩ ?_
  refine SRun.nil ?_
  obtain rfl := inj h
  exact q_l (Le.sub0)
  refine swp_exit ?_
  obtain rfl := inj h
  exact nx_e (q_re (q_bh (q_l (Le.sub0))))
  refine srk tbok ⟨19, [(4, vi (-1))], []⟩ ?_
  refine swp_ret ?_
  obtain rfl := inj h
  exact q_fr (f1 fv)
noncomputable def slices_ContainsFunc_Claim_impl_Claim_contradicts (aS : (List Claim)) (aF0 : Claim) : Option (Bool) :=
  ((slices_IndexFunc_Claim_impl_Claim_contradicts aS aF0).bind fun x1 => some (decide (x1 ≥ 0)))
theorem slices_ContainsFunc_Claim_impl_Claim_contradicts_run (aS : (List Claim)) (aF0 : Claim) (r : Bool) (h : slices_ContainsFunc_Claim_impl_Claim_contradicts aS aF0 = some r) : SCall Tryz.prog 65 [.v (vl eClaim aS), .v (.mth 129 [.agg (tc eClaim aF0)])] ⟨[.v (vb r)], [], false⟩ := by
  refine scall_in Tryz.func65 rfl [(.tmp 4)] rfl (fun r => ⟨[.v (vb r)], [], false⟩) (r := r) ?_
  unfold slices_ContainsFunc_Claim_impl_Claim_contradicts at h
  refine srk tbok ⟨9, [(0, vl eClaim aS), (1, .mth 129 [.agg (tc eClaim aF0)])], []⟩ ?_
  refine sr ?_
  refine SRun.ck tbok 2 ⟨9, [(5, vl eClaim aS), (6, .mth 129 [.agg (tc eClaim aF0)])], []⟩ ?_
  obtain ⟨x1, hx1, h⟩ := bind_some h
  refine SRun.ls (xc ents117 (slices_IndexFunc_Claim_impl_Claim_contradicts_run aS aF0 _ hx1)) ?_
  refine ckn tbok 2 ⟨9, [(4, vb (decide (x1 ≥ 0)))], []⟩ ?_
  refine swp_ret ?_
  obtain rfl := inj h
  exact q_fr (f1 fv)
noncomputable def impl_hasPair (aList : (List Claim)) : Option (Bool) :=
  (((forN (aList.length : Int) (fun (i3 : Int) (_ : Unit) => ((at' aList i3).bind fun x7 => ((part' aList 0 i3).bind fun x8 => ((slices_ContainsFunc_Claim_impl_Claim_contradicts x8 x7).bind fun x9 => (bif x9 then some (.inr (.inr true)) else some (.inl ())))))) (fun (_ : Unit) => .inl ()) 0 ())).bind (Sum.elim (fun (_ : Unit) => some false) some))
theorem impl_hasPair_run (aList : (List Claim)) (r : Bool) (h : impl_hasPair aList = some r) : SCall Tryz.prog 80 [.v (vl eClaim aList)] ⟨[.v (vb r)], [], false⟩ := by
  refine scall_in Tryz.func80 rfl [(.tmp 2)] rfl (fun r => ⟨[.v (vb r)], [], false⟩) (r := r) ?_
  unfold impl_hasPair at h
  refine srk tbok ⟨19, [(0, vl eClaim aList)], []⟩ ?_
  refine swp_seq ?_
  refine srk tbok ⟨19, [(0, vl eClaim aList), (5, vl eClaim aList), (6, vi (aList.length : Int)), (7, vi 0)], []⟩ ?_
  refine swp_seqE (r := r) h (fun j1 => ⟨19, [], []⟩) (fun v2 h => ?_) (fun j1 h => ?_)
  refine swp_blk (a := v2) ?_
  refine swp_lpL (r := v2) (s := (0, ())) _ (fun s3 => ⟨19, [(0, vl eClaim aList), (5, vl eClaim aList), (6, vi (aList.length : Int)), (7, vi s3.1)], []⟩) _ (Le.sub0) h (fun s3 v4 h => ?_)
  refine srk tbok ⟨19, [(0, vl eClaim aList), (5, vl eClaim aList), (6, vi (aList.length : Int)), (7, vi s3.1), (8, vb (decide (s3.1 < (aList.length : Int))))], []⟩ ?_
  refine swp_seq ?_
  refine swp_cd h (fun h => ?_) fun h => ?_
  refine swp_skip ?_
  refine nx_n ?_
  refine swp_seq ?_
  refine swp_seqL (r := v4) h (fun j5 => ⟨19, [(0, vl eClaim aList), (5, vl eClaim aList), (6, vi (aList.length : Int)), (7, vi s3.1)], []⟩) (fun v6 h => ?_) (fun j5 h => ?_)
  refine swp_blk (a := v6) ?_
  refine sr ?_
  refine SRun.ck tbok 1 ⟨19, [(0, vl eClaim aList), (5, vl eClaim aList), (6, vi (aList.length : Int)), (7, vi s3.1), (9, vi s3.1)], []⟩ ?_
  obtain ⟨x7, hx7, h⟩ := bind_some h
  refine SRun.ls (x_index (L := aList) (f := eClaim) (ti := ti24) (tj := ti42) (e := 42) (k := .i64) tbok rfl hx7) ?_
  refine ckn tbok 4 ⟨19, [(0, vl eClaim aList), (3, vi s3.1), (4, .ref 4 0), (5, vl eClaim aList), (6, vi (aList.length : Int)), (7, vi s3.1)], [(4, .box (tc eClaim x7))]⟩ ?_
  refine swp_seq ?_
  refine swp_dr mixed ?_
  refine DGo.ck tbok false 2 ⟨19, [(0, vl eClaim aList), (4, .ref 4 0), (5, vl eClaim aList), (6, vi (aList.length : Int)), (7, vi s3.1), (12, vl eClaim aList), (13, vi s3.1)], [(4, .box (tc eClaim x7))]⟩ ?_
  obtain ⟨x8, hx8, h⟩ := bind_some h
  refine DGo.step (x_slice (m := 7) (f := eClaim) (ti := ti24) (tj := ti42) (e := 42) hx8 (fun _ => rfl) tbok rfl) ?_
  refine DGo.ck tbok false 2 ⟨19, [(0, vl eClaim aList), (5, vl eClaim aList), (6, vi (aList.length : Int)), (7, vi s3.1), (14, vl eClaim x8), (16, .mth 129 [.agg (tc eClaim x7)])], []⟩ ?_
  obtain ⟨x9, hx9, h⟩ := bind_some h
  refine DGo.step (xc ents65 (slices_ContainsFunc_Claim_impl_Claim_contradicts_run x8 x7 _ hx9)) ?_
  refine DGo.nx ?_
  refine swp_cd h (fun h => ?_) fun h => ?_
  refine srk tbok ⟨19, [(2, vb true)], []⟩ ?_
  refine swp_ret ?_
  obtain rfl := inj h
  exact q_br (q_rr (q_rr (q_br (q_rr (q_fr (f1 fv))))))
  refine swp_skip ?_
  obtain rfl := inj h
  exact q_bn (q_l (Le.sub0))
  refine swp_reg ?_
  refine SRun.ck tbok 2 ⟨19, [(0, vl eClaim aList), (5, vl eClaim aList), (6, vi (aList.length : Int)), (7, vi (w64 (s3.1 + 1)))], []⟩ ?_
  refine SRun.nil ?_
  obtain rfl := inj h
  exact q_l (Le.sub0)
  refine swp_exit ?_
  obtain rfl := inj h
  exact nx_e (q_re (q_bh (q_l (Le.sub0))))
  refine srk tbok ⟨19, [(2, vb false)], []⟩ ?_
  refine swp_ret ?_
  obtain rfl := inj h
  exact q_fr (f1 fv)
theorem ents80 : Ents Tryz.prog 80 := ents_of Tryz.func80 (by kernel_rfl) rfl
noncomputable def impl_Span_has (aS : Span) (aYear : Int) : Option (Bool) :=
  ((impl_within aYear aS.From aS.To).bind fun x1 => some x1)
theorem impl_Span_has_run (aS : Span) (aYear : Int) (r : Bool) (h : impl_Span_has aS aYear = some r) : SCall Tryz.prog 104 [.v (.agg (tc eSpan aS)), .v (vi aYear)] ⟨[.v (vb r)], [], false⟩ := by
  refine scall_in Tryz.func104 rfl [(.tmp 4)] rfl (fun r => ⟨[.v (vb r)], [], false⟩) (r := r) ?_
  unfold impl_Span_has at h
  refine srk tbok ⟨11, [(1, vi aYear), (2, .ref 2 0)], [(2, .box (tc eSpan aS))]⟩ ?_
  refine sr ?_
  refine SRun.ck tbok 5 ⟨11, [(5, vi aYear), (7, vi aS.From), (9, vi aS.To)], []⟩ ?_
  obtain ⟨x1, hx1, h⟩ := bind_some h
  refine SRun.ls (xc ents121 (impl_within_run aYear aS.From aS.To _ hx1)) ?_
  refine ckn tbok 1 ⟨11, [(4, vb x1)], []⟩ ?_
  refine swp_ret ?_
  obtain rfl := inj h
  exact q_fr (f1 fv)
theorem ents104 : Ents Tryz.prog 104 := ents_of Tryz.func104 (by kernel_rfl) rfl
noncomputable def impl_parentClaim_1 (aC : Claim) (c0 : ByteArray) (c1 : Int) : Option (Bool) :=
  (((bif (aC.Kind == 1) then (bif (aC.Place.toList == c0.toList) then ((impl_Span_has aC.Years c1).bind fun x1 => some x1) else some false) else some false)).bind fun (j2 : Bool) => some j2)
theorem impl_parentClaim_1_run (aC : Claim) (c0 : ByteArray) (c1 : Int) (r : Bool) (h : impl_parentClaim_1 aC c0 c1 = some r) : SCall Tryz.prog 181 [.v (.agg (tc eClaim aC)), .v (.ptr [vs c0] 0), .v (.ptr [vi c1] 0)] ⟨[.v (vb r)], [], false⟩ := by
  refine scall_in Tryz.func181 rfl [(.tmp 4)] rfl (fun r => ⟨[.v (vb r)], [], false⟩) (r := r) ?_
  unfold impl_parentClaim_1 at h
  refine srk tbok ⟨20, [(1, .ptr [vs c0] 0), (2, .ptr [vi c1] 0), (3, .ref 3 0)], [(3, .box (tc eClaim aC))]⟩ ?_
  refine swp_seq ?_
  refine swp_regJ h (fun j2 => ⟨20, [(4, vb j2)], []⟩) (fun v3 h => ?_) (fun j2 h => ?_)
  refine SRun.ck tbok 4 ⟨20, [(1, .ptr [vs c0] 0), (2, .ptr [vi c1] 0), (3, .ref 3 0), (8, vb (aC.Kind == 1))], [(3, .box (tc eClaim aC))]⟩ ?_
  refine SRun.cu [(8, fun b => b)] h (fun h => ?_) fun h => ?_
  refine SRun.ck tbok 6 ⟨20, [(2, .ptr [vi c1] 0), (3, .ref 3 0), (14, vb (aC.Place.toList == c0.toList))], [(3, .box (tc eClaim aC))]⟩ ?_
  refine SRun.cu [(14, fun b => b)] h (fun h => ?_) fun h => ?_
  refine SRun.ck tbok 3 ⟨20, [(14, vb true), (16, .agg (tc eSpan aC.Years)), (17, vi c1)], []⟩ ?_
  obtain ⟨x1, hx1, h⟩ := bind_some h
  refine SRun.ls (xc ents104 (impl_Span_has_run aC.Years c1 _ hx1)) ?_
  refine SRun.ck tbok 2 ⟨20, [(4, vb x1)], []⟩ ?_
  refine SRun.nil ?_
  obtain rfl := inj h
  exact Le.sub0
  refine SRun.ck tbok 6 ⟨20, [(4, vb false)], []⟩ ?_
  refine SRun.nil ?_
  obtain rfl := inj h
  exact Le.sub0
  refine SRun.ck tbok 12 ⟨20, [(4, vb false)], []⟩ ?_
  refine SRun.nil ?_
  obtain rfl := inj h
  exact Le.sub0
  refine swp_ret ?_
  obtain rfl := inj h
  exact q_fr (f1 fv)
theorem ents181 : Ents Tryz.prog 181 := ents_of Tryz.func181 (by kernel_rfl) rfl
noncomputable def slices_IndexFunc_Claim_impl_parentClaim_1 (aS : (List Claim)) (aF0 : ByteArray) (aF1 : Int) : Option (Int) :=
  (((forN (aS.length : Int) (fun (i3 : Int) (_ : Unit) => ((at' aS i3).bind fun x7 => ((impl_parentClaim_1 x7 aF0 aF1).bind fun x8 => (bif x8 then some (.inr (.inr i3)) else some (.inl ()))))) (fun (_ : Unit) => .inl ()) 0 ())).bind (Sum.elim (fun (_ : Unit) => some (-1)) some))
theorem slices_IndexFunc_Claim_impl_parentClaim_1_run (aS : (List Claim)) (aF0 : ByteArray) (aF1 : Int) (r : Int) (h : slices_IndexFunc_Claim_impl_parentClaim_1 aS aF0 aF1 = some r) : SCall Tryz.prog 117 [.v (vl eClaim aS), .v (.clo 181 [.ptr [vs aF0] 0, .ptr [vi aF1] 0])] ⟨[.v (vi r)], [], false⟩ := by
  refine scall_in Tryz.func117 rfl [(.tmp 4)] rfl (fun r => ⟨[.v (vi r)], [], false⟩) (r := r) ?_
  unfold slices_IndexFunc_Claim_impl_parentClaim_1 at h
  refine srk tbok ⟨19, [(0, vl eClaim aS), (1, .clo 181 [.ptr [vs aF0] 0, .ptr [vi aF1] 0])], []⟩ ?_
  refine swp_seq ?_
  refine srk tbok ⟨19, [(0, vl eClaim aS), (1, .clo 181 [.ptr [vs aF0] 0, .ptr [vi aF1] 0]), (7, vi (aS.length : Int)), (8, vi 0)], []⟩ ?_
  refine swp_seqE (r := r) h (fun j1 => ⟨19, [], []⟩) (fun v2 h => ?_) (fun j1 h => ?_)
  refine swp_blk (a := v2) ?_
  refine swp_lpL (r := v2) (s := (0, ())) _ (fun s3 => ⟨19, [(0, vl eClaim aS), (1, .clo 181 [.ptr [vs aF0] 0, .ptr [vi aF1] 0]), (7, vi (aS.length : Int)), (8, vi s3.1)], []⟩) _ (Le.sub0) h (fun s3 v4 h => ?_)
  refine srk tbok ⟨19, [(0, vl eClaim aS), (1, .clo 181 [.ptr [vs aF0] 0, .ptr [vi aF1] 0]), (7, vi (aS.length : Int)), (8, vi s3.1), (9, vb (decide (s3.1 < (aS.length : Int))))], []⟩ ?_
  refine swp_seq ?_
  refine swp_cd h (fun h => ?_) fun h => ?_
  refine swp_skip ?_
  refine nx_n ?_
  refine swp_seq ?_
  refine swp_seqL (r := v4) h (fun j5 => ⟨19, [(0, vl eClaim aS), (1, .clo 181 [.ptr [vs aF0] 0, .ptr [vi aF1] 0]), (7, vi (aS.length : Int)), (8, vi s3.1)], []⟩) (fun v6 h => ?_) (fun j5 h => ?_)
  refine swp_blk (a := v6) ?_
  refine srk tbok ⟨19, [(0, vl eClaim aS), (1, .clo 181 [.ptr [vs aF0] 0, .ptr [vi aF1] 0]), (5, vi s3.1), (7, vi (aS.length : Int)), (8, vi s3.1)], []⟩ ?_
  refine sr ?_
  refine SRun.ck tbok 3 ⟨19, [(0, vl eClaim aS), (1, .clo 181 [.ptr [vs aF0] 0, .ptr [vi aF1] 0]), (5, vi s3.1), (7, vi (aS.length : Int)), (8, vi s3.1), (11, .clo 181 [.ptr [vs aF0] 0, .ptr [vi aF1] 0]), (12, vl eClaim aS), (13, vi s3.1)], []⟩ ?_
  obtain ⟨x7, hx7, h⟩ := bind_some h
  refine SRun.ls (x_index (L := aS) (f := eClaim) (ti := ti24) (tj := ti42) (e := 42) (k := .i64) tbok rfl hx7) ?_
  refine SRun.ck tbok 1 ⟨19, [(0, vl eClaim aS), (1, .clo 181 [.ptr [vs aF0] 0, .ptr [vi aF1] 0]), (5, vi s3.1), (7, vi (aS.length : Int)), (8, vi s3.1), (11, .clo 181 [.ptr [vs aF0] 0, .ptr [vi aF1] 0]), (15, .agg (tc eClaim x7))], []⟩ ?_
  obtain ⟨x8, hx8, h⟩ := bind_some h
  refine SRun.ls (xc ents181 (impl_parentClaim_1_run x7 aF0 aF1 _ hx8)) ?_
  refine SRun.nx ?_
  refine swp_cd h (fun h => ?_) fun h => ?_
  refine srk tbok ⟨19, [(4, vi s3.1)], []⟩ ?_
  refine swp_ret ?_
  obtain rfl := inj h
  exact q_br (q_rr (q_rr (q_br (q_rr (q_fr (f1 fv))))))
  refine swp_skip ?_
  obtain rfl := inj h
  exact q_bn (q_l (Le.sub0))
  refine swp_reg ?_
  refine SRun.ck tbok 2 ⟨19, [(0, vl eClaim aS), (1, .clo 181 [.ptr [vs aF0] 0, .ptr [vi aF1] 0]), (7, vi (aS.length : Int)), (8, vi (w64 (s3.1 + 1)))], []⟩ ?_
  refine SRun.nil ?_
  obtain rfl := inj h
  exact q_l (Le.sub0)
  refine swp_exit ?_
  obtain rfl := inj h
  exact nx_e (q_re (q_bh (q_l (Le.sub0))))
  refine srk tbok ⟨19, [(4, vi (-1))], []⟩ ?_
  refine swp_ret ?_
  obtain rfl := inj h
  exact q_fr (f1 fv)
noncomputable def impl_parentClaim (aList : (List Claim)) (aPlace : ByteArray) (aYear : Int) : Option (ByteArray × Bool) :=
  ((slices_IndexFunc_Claim_impl_parentClaim_1 aList aPlace aYear).bind fun x1 => (bif (decide (x1 < 0)) then some ((ByteArray.mk #[]), false) else ((at' aList x1).bind fun x2 => some (x2.Value, true))))
theorem impl_parentClaim_run (aList : (List Claim)) (aPlace : ByteArray) (aYear : Int) (r : ByteArray × Bool) (h : impl_parentClaim aList aPlace aYear = some r) : SCall Tryz.prog 151 [.v (vl eClaim aList), .v (vs aPlace), .v (vi aYear)] ⟨[.v (vs r.1), .v (vb r.2)], [], false⟩ := by
  refine scall_in Tryz.func151 rfl [(.tmp 6), (.tmp 7)] rfl (fun r => ⟨[.v (vs r.1), .v (vb r.2)], [], false⟩) (r := r) ?_
  unfold impl_parentClaim at h
  refine srk tbok ⟨19, [(0, vl eClaim aList), (4, .ref 4 0), (5, .ref 5 0)], [(4, .box [vs aPlace]), (5, .box [vi aYear])]⟩ ?_
  refine sr ?_
  refine SRun.ck tbok 2 ⟨19, [(0, vl eClaim aList), (9, vl eClaim aList), (10, .clo 181 [.ref 4 0, .ref 5 0])], [(4, .box [vs aPlace]), (5, .box [vi aYear])]⟩ ?_
  obtain ⟨x1, hx1, h⟩ := bind_some h
  refine SRun.ls (xc ents117 (slices_IndexFunc_Claim_impl_parentClaim_1_run aList aPlace aYear _ hx1)) ?_
  refine ckn tbok 1 ⟨19, [(0, vl eClaim aList), (8, vi x1)], []⟩ ?_
  refine swp_seq ?_
  refine srk tbok ⟨19, [(0, vl eClaim aList), (8, vi x1), (13, vb (decide (x1 < 0)))], []⟩ ?_
  refine swp_cd h (fun h => ?_) fun h => ?_
  refine srk tbok ⟨19, [(6, vs (ByteArray.mk #[])), (7, vb false)], []⟩ ?_
  refine swp_ret ?_
  obtain rfl := inj h
  exact nx_r (q_fr (f2 fv fv))
  refine swp_skip ?_
  refine nx_n ?_
  refine sr ?_
  refine SRun.ck tbok 2 ⟨19, [(14, vl eClaim aList), (15, vi x1)], []⟩ ?_
  obtain ⟨x2, hx2, h⟩ := bind_some h
  refine SRun.ls (x_index (L := aList) (f := eClaim) (ti := ti24) (tj := ti42) (e := 42) (k := .i64) tbok rfl hx2) ?_
  refine ckn tbok 4 ⟨19, [(6, vs x2.Value), (7, vb true)], []⟩ ?_
  refine swp_ret ?_
  obtain rfl := inj h
  exact q_fr (f2 fv fv)
theorem ents151 : Ents Tryz.prog 151 := ents_of Tryz.func151 (by kernel_rfl) rfl
noncomputable def slices_Index_string (aS : (List ByteArray)) (aV : ByteArray) : Option (Int) :=
  (((forN (aS.length : Int) (fun (i3 : Int) (_ : Unit) => ((at' aS i3).bind fun x7 => (bif (aV.toList == x7.toList) then some (.inr (.inr i3)) else some (.inl ())))) (fun (_ : Unit) => .inl ()) 0 ())).bind (Sum.elim (fun (_ : Unit) => some (-1)) some))
theorem slices_Index_string_run (aS : (List ByteArray)) (aV : ByteArray) (r : Int) (h : slices_Index_string aS aV = some r) : SCall Tryz.prog 182 [.v (vl eS aS), .v (vs aV)] ⟨[.v (vi r)], [], false⟩ := by
  refine scall_in Tryz.func182 rfl [(.tmp 4)] rfl (fun r => ⟨[.v (vi r)], [], false⟩) (r := r) ?_
  unfold slices_Index_string at h
  refine srk tbok ⟨19, [(0, vl eS aS), (1, vs aV)], []⟩ ?_
  refine swp_seq ?_
  refine srk tbok ⟨19, [(0, vl eS aS), (1, vs aV), (7, vi (aS.length : Int)), (8, vi 0)], []⟩ ?_
  refine swp_seqE (r := r) h (fun j1 => ⟨19, [], []⟩) (fun v2 h => ?_) (fun j1 h => ?_)
  refine swp_blk (a := v2) ?_
  refine swp_lpL (r := v2) (s := (0, ())) _ (fun s3 => ⟨19, [(0, vl eS aS), (1, vs aV), (7, vi (aS.length : Int)), (8, vi s3.1)], []⟩) _ (Le.sub0) h (fun s3 v4 h => ?_)
  refine srk tbok ⟨19, [(0, vl eS aS), (1, vs aV), (7, vi (aS.length : Int)), (8, vi s3.1), (9, vb (decide (s3.1 < (aS.length : Int))))], []⟩ ?_
  refine swp_seq ?_
  refine swp_cd h (fun h => ?_) fun h => ?_
  refine swp_skip ?_
  refine nx_n ?_
  refine swp_seq ?_
  refine swp_seqL (r := v4) h (fun j5 => ⟨19, [(0, vl eS aS), (1, vs aV), (7, vi (aS.length : Int)), (8, vi s3.1)], []⟩) (fun v6 h => ?_) (fun j5 h => ?_)
  refine swp_blk (a := v6) ?_
  refine srk tbok ⟨19, [(0, vl eS aS), (1, vs aV), (5, vi s3.1), (7, vi (aS.length : Int)), (8, vi s3.1)], []⟩ ?_
  refine sr ?_
  refine SRun.ck tbok 3 ⟨19, [(0, vl eS aS), (1, vs aV), (5, vi s3.1), (7, vi (aS.length : Int)), (8, vi s3.1), (11, vs aV), (12, vl eS aS), (13, vi s3.1)], []⟩ ?_
  obtain ⟨x7, hx7, h⟩ := bind_some h
  refine SRun.ls (x_index (L := aS) (f := eS) (ti := ti52) (tj := ti9) (e := 9) (k := .i64) tbok rfl hx7) ?_
  refine ckn tbok 2 ⟨19, [(0, vl eS aS), (1, vs aV), (5, vi s3.1), (7, vi (aS.length : Int)), (8, vi s3.1), (16, vb (aV.toList == x7.toList))], []⟩ ?_
  refine swp_cd h (fun h => ?_) fun h => ?_
  refine srk tbok ⟨19, [(4, vi s3.1)], []⟩ ?_
  refine swp_ret ?_
  obtain rfl := inj h
  exact q_br (q_rr (q_rr (q_br (q_rr (q_fr (f1 fv))))))
  refine swp_skip ?_
  obtain rfl := inj h
  exact q_bn (q_l (Le.sub0))
  refine swp_reg ?_
  refine SRun.ck tbok 2 ⟨19, [(0, vl eS aS), (1, vs aV), (7, vi (aS.length : Int)), (8, vi (w64 (s3.1 + 1)))], []⟩ ?_
  refine SRun.nil ?_
  obtain rfl := inj h
  exact q_l (Le.sub0)
  refine swp_exit ?_
  obtain rfl := inj h
  exact nx_e (q_re (q_bh (q_l (Le.sub0))))
  refine srk tbok ⟨19, [(4, vi (-1))], []⟩ ?_
  refine swp_ret ?_
  obtain rfl := inj h
  exact q_fr (f1 fv)
theorem ents182 : Ents Tryz.prog 182 := ents_of Tryz.func182 (by kernel_rfl) rfl
noncomputable def slices_Contains_string (aS : (List ByteArray)) (aV : ByteArray) : Option (Bool) :=
  ((slices_Index_string aS aV).bind fun x1 => some (decide (x1 ≥ 0)))
theorem slices_Contains_string_run (aS : (List ByteArray)) (aV : ByteArray) (r : Bool) (h : slices_Contains_string aS aV = some r) : SCall Tryz.prog 152 [.v (vl eS aS), .v (vs aV)] ⟨[.v (vb r)], [], false⟩ := by
  refine scall_in Tryz.func152 rfl [(.tmp 4)] rfl (fun r => ⟨[.v (vb r)], [], false⟩) (r := r) ?_
  unfold slices_Contains_string at h
  refine srk tbok ⟨9, [(0, vl eS aS), (1, vs aV)], []⟩ ?_
  refine sr ?_
  refine SRun.ck tbok 2 ⟨9, [(5, vl eS aS), (6, vs aV)], []⟩ ?_
  obtain ⟨x1, hx1, h⟩ := bind_some h
  refine SRun.ls (xc ents182 (slices_Index_string_run aS aV _ hx1)) ?_
  refine ckn tbok 2 ⟨9, [(4, vb (decide (x1 ≥ 0)))], []⟩ ?_
  refine swp_ret ?_
  obtain rfl := inj h
  exact q_fr (f1 fv)
theorem ents152 : Ents Tryz.prog 152 := ents_of Tryz.func152 (by kernel_rfl) rfl
noncomputable def impl_circleIn (aList : (List Claim)) (aPlace : ByteArray) (aYear : Int) : Option ((List ByteArray) × Bool) :=
  (loop (fun (s1 : (List ByteArray)) => ((at' s1 (w64 ((s1.length : Int) - 1))).bind fun x3 => ((impl_parentClaim aList x3 aYear).bind fun x4 => (((bif (x4.2 && (x4.1.toList == aPlace.toList)) then some (.inr (.inr (s1, true))) else (((bif (!x4.2) then some true else ((slices_Contains_string s1 x4.1).bind fun x7 => some x7))).bind fun (j8 : Bool) => (bif j8 then some (.inr (.inr (([] : List ByteArray), false))) else some (.inl ()))))).bind (Sum.elim (fun (_ : Unit) => ((app' s1 ([x4.1] : List ByteArray)).bind fun x10 => some (.inl x10))) some))))) ([aPlace] : List ByteArray))
theorem impl_circleIn_run (aList : (List Claim)) (aPlace : ByteArray) (aYear : Int) (r : (List ByteArray) × Bool) (h : impl_circleIn aList aPlace aYear = some r) : SCall Tryz.prog 130 [.v (vl eClaim aList), .v (vs aPlace), .v (vi aYear)] ⟨[.own 9 1 r.1.length (r.1.map eS), .v (vb r.2)], [], false⟩ := by
  refine scall_in Tryz.func130 rfl [(.tmp 6), (.tmp 7)] rfl (fun r => ⟨[.own 9 1 r.1.length (r.1.map eS), .v (vb r.2)], [], false⟩) (r := r) ?_
  unfold impl_circleIn at h
  refine srk tbok ⟨45, [(0, vl eClaim aList), (1, vs aPlace), (2, vi aYear)], []⟩ ?_
  refine srk tbok ⟨45, [(0, vl eClaim aList), (1, vs aPlace), (2, vi aYear), (8, .own 12)], [(12, oa 9 1 eS ([aPlace] : List ByteArray))]⟩ ?_
  refine swp_blk (a := r) ?_
  refine swp_lpL (r := r) (s := ([aPlace] : List ByteArray)) _ (fun s1 => ⟨45, [(0, vl eClaim aList), (1, vs aPlace), (2, vi aYear), (8, .own 8)], [(8, oa 9 1 eS s1)]⟩) _ (Le.rr [12] [(12, 8)]) h (fun s1 v2 h => ?_)
  refine swp_blk (a := v2) ?_
  refine sr ?_
  refine SRun.ck tbok 5 ⟨45, [(0, vl eClaim aList), (1, vs aPlace), (2, vi aYear), (8, .own 8), (14, vl eClaim aList), (15, .own 8), (18, vi (w64 ((s1.length : Int) - 1)))], [(8, oa 9 1 eS s1)]⟩ ?_
  obtain ⟨x3, hx3, h⟩ := bind_some h
  refine SRun.ls (x_index_own (d := 8) (L := s1) (f := eS) (ti := ti52) (tj := ti9) (e := 9) (e' := 9) (m := 1) (k := .i64) tbok rfl hx3) ?_
  refine SRun.ls (x_load_own (d := 8) (m := 1) (j := 0) (L := s1) (f := eS) (ti := ti9) (e := 9) (v := vs x3) tbok rfl hx3) ?_
  refine SRun.ck tbok 1 ⟨45, [(0, vl eClaim aList), (1, vs aPlace), (2, vi aYear), (8, .own 8), (14, vl eClaim aList), (20, vs x3), (21, vi aYear)], [(8, oa 9 1 eS s1)]⟩ ?_
  obtain ⟨x4, hx4, h⟩ := bind_some h
  refine SRun.ls (xc ents151 (impl_parentClaim_run aList x3 aYear _ hx4)) ?_
  refine ckn tbok 5 ⟨45, [(0, vl eClaim aList), (1, vs aPlace), (2, vi aYear), (8, .own 8), (9, vs x4.1), (10, vb x4.2)], [(8, oa 9 1 eS s1)]⟩ ?_
  refine swp_seq ?_
  refine swp_seqE (r := v2) h (fun j5 => ⟨45, [(0, vl eClaim aList), (1, vs aPlace), (2, vi aYear), (8, .own 8), (9, vs x4.1)], [(8, oa 9 1 eS s1)]⟩) (fun v6 h => ?_) (fun j5 h => ?_)
  refine swp_blk (a := v6) ?_
  refine swp_seq ?_
  refine swp_regP ⟨45, [(0, vl eClaim aList), (1, vs aPlace), (2, vi aYear), (8, .own 8), (9, vs x4.1), (10, vb x4.2), (25, vb (x4.2 && (x4.1.toList == aPlace.toList)))], [(8, oa 9 1 eS s1)]⟩ ?_ ?_
  refine SRun.ck tbok 2 ⟨45, [(0, vl eClaim aList), (1, vs aPlace), (2, vi aYear), (8, .own 8), (9, vs x4.1), (10, vb x4.2), (27, vb x4.2)], [(8, oa 9 1 eS s1)]⟩ ?_
  generalize x4.2 = bb
  cases bb
  refine SRun.ck tbok 5 ⟨45, [(0, vl eClaim aList), (1, vs aPlace), (2, vi aYear), (8, .own 8), (9, vs x4.1), (10, vb false), (25, vb false)], [(8, oa 9 1 eS s1)]⟩ ?_
  exact SRun.nil (Le.sub0)
  refine SRun.ck tbok 5 ⟨45, [(0, vl eClaim aList), (1, vs aPlace), (2, vi aYear), (8, .own 8), (9, vs x4.1), (10, vb true), (25, vb (x4.1.toList == aPlace.toList))], [(8, oa 9 1 eS s1)]⟩ ?_
  exact SRun.nil (Le.sub0)
  refine swp_cd h (fun h => ?_) fun h => ?_
  refine srk tbok ⟨45, [(6, .own 8), (7, vb true)], [(8, oa 9 1 eS s1)]⟩ ?_
  refine swp_ret ?_
  obtain rfl := inj h
  exact q_br (q_rr (q_br (q_rr (q_br (q_fr (f2 (fo eS_flat) fv))))))
  refine swp_seq ?_
  refine swp_regJ h (fun j8 => ⟨45, [(0, vl eClaim aList), (1, vs aPlace), (2, vi aYear), (8, .own 8), (9, vs x4.1), (33, vb j8)], [(8, oa 9 1 eS s1)]⟩) (fun v9 h => ?_) (fun j8 h => ?_)
  refine SRun.ck tbok 3 ⟨45, [(0, vl eClaim aList), (1, vs aPlace), (2, vi aYear), (8, .own 8), (9, vs x4.1), (36, vb (!x4.2))], [(8, oa 9 1 eS s1)]⟩ ?_
  refine SRun.cu [(36, fun b => b)] h (fun h => ?_) fun h => ?_
  refine SRun.ck tbok 5 ⟨45, [(0, vl eClaim aList), (1, vs aPlace), (2, vi aYear), (8, .own 8), (9, vs x4.1), (33, vb true)], [(8, oa 9 1 eS s1)]⟩ ?_
  refine SRun.nil ?_
  obtain rfl := inj h
  exact Le.sub0
  refine SRun.ck tbok 2 ⟨45, [(0, vl eClaim aList), (1, vs aPlace), (2, vi aYear), (8, .own 8), (9, vs x4.1), (36, vb false), (37, .own 8), (38, vs x4.1)], [(8, oa 9 1 eS s1)]⟩ ?_
  obtain ⟨x7, hx7, h⟩ := bind_some h
  refine SRun.ls (xc ents152 (slices_Contains_string_run s1 x4.1 _ hx7)) ?_
  refine SRun.ck tbok 2 ⟨45, [(0, vl eClaim aList), (1, vs aPlace), (2, vi aYear), (8, .own 8), (9, vs x4.1), (33, vb x7)], [(8, oa 9 1 eS s1)]⟩ ?_
  refine SRun.nil ?_
  obtain rfl := inj h
  exact Le.sub0
  refine swp_cd h (fun h => ?_) fun h => ?_
  refine srk tbok ⟨45, [(6, .own 6), (7, vb false)], [(6, oa 9 1 eS ([] : List ByteArray))]⟩ ?_
  refine swp_ret ?_
  obtain rfl := inj h
  exact q_br (q_rr (q_br (q_rr (q_br (q_fr (f2 (fo eS_flat) fv))))))
  refine swp_skip ?_
  obtain rfl := inj h
  exact q_bn (q_l (Le.sub0))
  refine swp_reg ?_
  refine SRun.ck tbok 3 ⟨45, [(0, vl eClaim aList), (1, vs aPlace), (2, vi aYear), (41, .own 8), (43, .own 43)], [(8, oa 9 1 eS s1), (43, oa 9 1 eS ([x4.1] : List ByteArray))]⟩ ?_
  obtain ⟨x10, hx10, h⟩ := bind_some h
  refine SRun.estep (x_append (f := eS) (t := 52) (ti := ti52) (tj := ti9) (zs := [.string (ByteArray.mk #[])]) (e := 9) (m := 1) (d := 8) (xv := .own 43) hx10 tbok rfl rfl rfl rfl (x_src_o (e := 9))) ?_
  refine SRun.ck tbok 1 ⟨45, [(0, vl eClaim aList), (1, vs aPlace), (2, vi aYear), (8, .own 44)], [(44, oa 9 1 eS x10)]⟩ ?_
  refine SRun.nil ?_
  obtain rfl := inj h
  exact q_bn (q_l (Le.rr [44] [(44, 8)]))
theorem ents130 : Ents Tryz.prog 130 := ents_of Tryz.func130 (by kernel_rfl) rfl
noncomputable def impl_hasCircle (aList : (List Claim)) : Option (Bool) :=
  (((forN (aList.length : Int) (fun (i3 : Int) (_ : Unit) => ((at' aList i3).bind fun x7 => (forN (aList.length : Int) (fun (i8 : Int) (_ : Unit) => ((at' aList i8).bind fun x12 => (((bif (x7.Kind != 1) then some true else (bif (x12.Kind != 1) then some true else ((impl_Span_has x12.Years x7.Years.From).bind fun x13 => some (!x13))))).bind fun (j14 : Bool) => (bif j14 then some (.inl ()) else ((impl_circleIn aList x12.Place x7.Years.From).bind fun x16 => (bif x16.2 then some (.inr (.inr (.inr true))) else some (.inl ()))))))) (fun (_ : Unit) => .inl ()) 0 ()))) (fun (_ : Unit) => .inl ()) 0 ())).bind (Sum.elim (fun (_ : Unit) => some false) some))
theorem impl_hasCircle_run (aList : (List Claim)) (r : Bool) (h : impl_hasCircle aList = some r) : SCall Tryz.prog 81 [.v (vl eClaim aList)] ⟨[.v (vb r)], [], false⟩ := by
  refine scall_in Tryz.func81 rfl [(.tmp 2)] rfl (fun r => ⟨[.v (vb r)], [], false⟩) (r := r) ?_
  unfold impl_hasCircle at h
  refine srk tbok ⟨51, [(0, vl eClaim aList)], []⟩ ?_
  refine swp_seq ?_
  refine srk tbok ⟨51, [(0, vl eClaim aList), (9, vl eClaim aList), (10, vi (aList.length : Int)), (11, vi 0)], []⟩ ?_
  refine swp_seqE (r := r) h (fun j1 => ⟨51, [], []⟩) (fun v2 h => ?_) (fun j1 h => ?_)
  refine swp_blk (a := v2) ?_
  refine swp_lpL (r := v2) (s := (0, ())) _ (fun s3 => ⟨51, [(0, vl eClaim aList), (9, vl eClaim aList), (10, vi (aList.length : Int)), (11, vi s3.1)], []⟩) _ (Le.sub0) h (fun s3 v4 h => ?_)
  refine srk tbok ⟨51, [(0, vl eClaim aList), (9, vl eClaim aList), (10, vi (aList.length : Int)), (11, vi s3.1), (12, vb (decide (s3.1 < (aList.length : Int))))], []⟩ ?_
  refine swp_seq ?_
  refine swp_cd h (fun h => ?_) fun h => ?_
  refine swp_skip ?_
  refine nx_n ?_
  refine swp_seq ?_
  refine swp_seqL (r := v4) h (fun j5 => ⟨51, [(0, vl eClaim aList), (9, vl eClaim aList), (10, vi (aList.length : Int)), (11, vi s3.1)], []⟩) (fun v6 h => ?_) (fun j5 h => ?_)
  refine swp_blk (a := v6) ?_
  refine sr ?_
  obtain ⟨x7, hx7, h⟩ := bind_some h
  refine SRun.ls (x_index (L := aList) (f := eClaim) (ti := ti24) (tj := ti42) (e := 42) (k := .i64) tbok rfl hx7) ?_
  refine ckn tbok 3 ⟨51, [(0, vl eClaim aList), (4, .ref 4 0), (9, vl eClaim aList), (10, vi (aList.length : Int)), (11, vi s3.1)], [(4, .box (tc eClaim x7))]⟩ ?_
  refine srk tbok ⟨51, [(0, vl eClaim aList), (4, .ref 4 0), (9, vl eClaim aList), (10, vi (aList.length : Int)), (11, vi s3.1), (15, vl eClaim aList), (16, vi (aList.length : Int)), (17, vi 0)], [(4, .box (tc eClaim x7))]⟩ ?_
  refine swp_blk (a := v6) ?_
  refine swp_lpL (r := v6) (s := (0, ())) _ (fun s8 => ⟨51, [(0, vl eClaim aList), (4, .ref 4 0), (9, vl eClaim aList), (10, vi (aList.length : Int)), (11, vi s3.1), (15, vl eClaim aList), (16, vi (aList.length : Int)), (17, vi s8.1)], [(4, .box (tc eClaim x7))]⟩) _ (Le.sub0) h (fun s8 v9 h => ?_)
  refine srk tbok ⟨51, [(0, vl eClaim aList), (4, .ref 4 0), (9, vl eClaim aList), (10, vi (aList.length : Int)), (11, vi s3.1), (15, vl eClaim aList), (16, vi (aList.length : Int)), (17, vi s8.1), (18, vb (decide (s8.1 < (aList.length : Int))))], [(4, .box (tc eClaim x7))]⟩ ?_
  refine swp_seq ?_
  refine swp_cd h (fun h => ?_) fun h => ?_
  refine swp_skip ?_
  refine nx_n ?_
  refine swp_seq ?_
  refine swp_seqL (r := v9) h (fun j10 => ⟨51, [(0, vl eClaim aList), (4, .ref 4 0), (9, vl eClaim aList), (10, vi (aList.length : Int)), (11, vi s3.1), (15, vl eClaim aList), (16, vi (aList.length : Int)), (17, vi s8.1)], [(4, .box (tc eClaim x7))]⟩) (fun v11 h => ?_) (fun j10 h => ?_)
  refine swp_blk (a := v11) ?_
  refine sr ?_
  obtain ⟨x12, hx12, h⟩ := bind_some h
  refine SRun.ls (x_index (L := aList) (f := eClaim) (ti := ti24) (tj := ti42) (e := 42) (k := .i64) tbok rfl hx12) ?_
  refine ckn tbok 3 ⟨51, [(0, vl eClaim aList), (4, .ref 4 0), (6, .ref 6 0), (9, vl eClaim aList), (10, vi (aList.length : Int)), (11, vi s3.1), (15, vl eClaim aList), (16, vi (aList.length : Int)), (17, vi s8.1)], [(4, .box (tc eClaim x7)), (6, .box (tc eClaim x12))]⟩ ?_
  refine swp_seq ?_
  refine swp_seq ?_
  refine swp_regJ h (fun j14 => ⟨51, [(0, vl eClaim aList), (4, .ref 4 0), (6, .ref 6 0), (9, vl eClaim aList), (10, vi (aList.length : Int)), (11, vi s3.1), (15, vl eClaim aList), (16, vi (aList.length : Int)), (17, vi s8.1), (37, vb j14)], [(4, .box (tc eClaim x7)), (6, .box (tc eClaim x12))]⟩) (fun v15 h => ?_) (fun j14 h => ?_)
  refine SRun.ck tbok 4 ⟨51, [(0, vl eClaim aList), (4, .ref 4 0), (6, .ref 6 0), (9, vl eClaim aList), (10, vi (aList.length : Int)), (11, vi s3.1), (15, vl eClaim aList), (16, vi (aList.length : Int)), (17, vi s8.1), (24, vb (x7.Kind != 1))], [(4, .box (tc eClaim x7)), (6, .box (tc eClaim x12))]⟩ ?_
  refine SRun.cu [(24, fun b => b)] h (fun h => ?_) fun h => ?_
  refine SRun.ck tbok 13 ⟨51, [(0, vl eClaim aList), (4, .ref 4 0), (6, .ref 6 0), (9, vl eClaim aList), (10, vi (aList.length : Int)), (11, vi s3.1), (15, vl eClaim aList), (16, vi (aList.length : Int)), (17, vi s8.1), (37, vb true)], [(4, .box (tc eClaim x7)), (6, .box (tc eClaim x12))]⟩ ?_
  refine SRun.nil ?_
  obtain rfl := inj h
  exact Le.sub0
  refine SRun.ck tbok 5 ⟨51, [(0, vl eClaim aList), (4, .ref 4 0), (6, .ref 6 0), (9, vl eClaim aList), (10, vi (aList.length : Int)), (11, vi s3.1), (15, vl eClaim aList), (16, vi (aList.length : Int)), (17, vi s8.1), (29, vb (x12.Kind != 1))], [(4, .box (tc eClaim x7)), (6, .box (tc eClaim x12))]⟩ ?_
  refine SRun.cu [(29, fun b => b)] h (fun h => ?_) fun h => ?_
  refine SRun.ck tbok 8 ⟨51, [(0, vl eClaim aList), (4, .ref 4 0), (6, .ref 6 0), (9, vl eClaim aList), (10, vi (aList.length : Int)), (11, vi s3.1), (15, vl eClaim aList), (16, vi (aList.length : Int)), (17, vi s8.1), (37, vb true)], [(4, .box (tc eClaim x7)), (6, .box (tc eClaim x12))]⟩ ?_
  refine SRun.nil ?_
  obtain rfl := inj h
  exact Le.sub0
  refine SRun.ck tbok 5 ⟨51, [(0, vl eClaim aList), (4, .ref 4 0), (6, .ref 6 0), (9, vl eClaim aList), (10, vi (aList.length : Int)), (11, vi s3.1), (15, vl eClaim aList), (16, vi (aList.length : Int)), (17, vi s8.1), (29, vb false), (31, .agg (tc eSpan x12.Years)), (34, vi x7.Years.From)], [(4, .box (tc eClaim x7)), (6, .box (tc eClaim x12))]⟩ ?_
  obtain ⟨x13, hx13, h⟩ := bind_some h
  refine SRun.ls (xc ents104 (impl_Span_has_run x12.Years x7.Years.From _ hx13)) ?_
  refine SRun.ck tbok 2 ⟨51, [(0, vl eClaim aList), (4, .ref 4 0), (6, .ref 6 0), (9, vl eClaim aList), (10, vi (aList.length : Int)), (11, vi s3.1), (15, vl eClaim aList), (16, vi (aList.length : Int)), (17, vi s8.1), (37, vb (!x13))], [(4, .box (tc eClaim x7)), (6, .box (tc eClaim x12))]⟩ ?_
  refine SRun.nil ?_
  obtain rfl := inj h
  exact Le.sub0
  refine swp_cd h (fun h => ?_) fun h => ?_
  refine swp_exit ?_
  obtain rfl := inj h
  exact nx_e (q_bh (q_l (Le.sub0)))
  refine swp_skip ?_
  refine nx_n ?_
  refine sr ?_
  refine SRun.ck tbok 6 ⟨51, [(0, vl eClaim aList), (4, .ref 4 0), (9, vl eClaim aList), (10, vi (aList.length : Int)), (11, vi s3.1), (15, vl eClaim aList), (16, vi (aList.length : Int)), (17, vi s8.1), (39, vl eClaim aList), (41, vs x12.Place), (44, vi x7.Years.From)], [(4, .box (tc eClaim x7))]⟩ ?_
  obtain ⟨x16, hx16, h⟩ := bind_some h
  refine SRun.ls (xc ents130 (impl_circleIn_run aList x12.Place x7.Years.From _ hx16)) ?_
  refine ckn tbok 5 ⟨51, [(0, vl eClaim aList), (4, .ref 4 0), (8, vb x16.2), (9, vl eClaim aList), (10, vi (aList.length : Int)), (11, vi s3.1), (15, vl eClaim aList), (16, vi (aList.length : Int)), (17, vi s8.1)], [(4, .box (tc eClaim x7))]⟩ ?_
  refine srk tbok ⟨51, [(0, vl eClaim aList), (4, .ref 4 0), (9, vl eClaim aList), (10, vi (aList.length : Int)), (11, vi s3.1), (15, vl eClaim aList), (16, vi (aList.length : Int)), (17, vi s8.1), (48, vb x16.2)], [(4, .box (tc eClaim x7))]⟩ ?_
  refine swp_cd h (fun h => ?_) fun h => ?_
  refine srk tbok ⟨51, [(2, vb true)], []⟩ ?_
  refine swp_ret ?_
  obtain rfl := inj h
  exact q_br (q_rr (q_rr (q_br (q_br (q_rr (q_rr (q_br (q_rr (q_fr (f1 fv))))))))))
  refine swp_skip ?_
  obtain rfl := inj h
  exact q_bn (q_l (Le.sub0))
  refine swp_reg ?_
  refine SRun.ck tbok 2 ⟨51, [(0, vl eClaim aList), (4, .ref 4 0), (9, vl eClaim aList), (10, vi (aList.length : Int)), (11, vi s3.1), (15, vl eClaim aList), (16, vi (aList.length : Int)), (17, vi (w64 (s8.1 + 1)))], [(4, .box (tc eClaim x7))]⟩ ?_
  refine SRun.nil ?_
  obtain rfl := inj h
  exact q_l (Le.sub0)
  refine swp_exit ?_
  obtain rfl := inj h
  exact nx_e (q_re (q_bh (q_bn (q_l (Le.sub0)))))
  refine swp_reg ?_
  refine SRun.ck tbok 2 ⟨51, [(0, vl eClaim aList), (9, vl eClaim aList), (10, vi (aList.length : Int)), (11, vi (w64 (s3.1 + 1)))], []⟩ ?_
  refine SRun.nil ?_
  obtain rfl := inj h
  exact q_l (Le.sub0)
  refine swp_exit ?_
  obtain rfl := inj h
  exact nx_e (q_re (q_bh (q_l (Le.sub0))))
  refine srk tbok ⟨51, [(2, vb false)], []⟩ ?_
  refine swp_ret ?_
  obtain rfl := inj h
  exact q_fr (f1 fv)
theorem ents81 : Ents Tryz.prog 81 := ents_of Tryz.func81 (by kernel_rfl) rfl
noncomputable def impl_areConsistent (aList : (List Claim)) : Option (Bool) :=
  ((((impl_hasPair aList).bind fun x1 => (bif (!x1) then ((impl_hasCircle aList).bind fun x2 => some (!x2)) else some false))).bind fun (j3 : Bool) => some j3)
theorem impl_areConsistent_run (aList : (List Claim)) (r : Bool) (h : impl_areConsistent aList = some r) : SCall Tryz.prog 41 [.v (vl eClaim aList)] ⟨[.v (vb r)], [], false⟩ := by
  refine scall_in Tryz.func41 rfl [(.tmp 2)] rfl (fun r => ⟨[.v (vb r)], [], false⟩) (r := r) ?_
  unfold impl_areConsistent at h
  refine srk tbok ⟨11, [(0, vl eClaim aList)], []⟩ ?_
  refine swp_seq ?_
  refine swp_regJ h (fun j3 => ⟨11, [(2, vb j3)], []⟩) (fun v4 h => ?_) (fun j3 h => ?_)
  refine SRun.ck tbok 1 ⟨11, [(0, vl eClaim aList), (3, vl eClaim aList)], []⟩ ?_
  obtain ⟨x1, hx1, h⟩ := bind_some h
  refine SRun.ls (xc ents80 (impl_hasPair_run aList _ hx1)) ?_
  refine SRun.ck tbok 2 ⟨11, [(0, vl eClaim aList), (6, vb (!x1))], []⟩ ?_
  refine SRun.cu [(6, fun b => b)] h (fun h => ?_) fun h => ?_
  refine SRun.ck tbok 1 ⟨11, [(6, vb true), (7, vl eClaim aList)], []⟩ ?_
  obtain ⟨x2, hx2, h⟩ := bind_some h
  refine SRun.ls (xc ents81 (impl_hasCircle_run aList _ hx2)) ?_
  refine SRun.ck tbok 3 ⟨11, [(2, vb (!x2))], []⟩ ?_
  refine SRun.nil ?_
  obtain rfl := inj h
  exact Le.sub0
  refine SRun.ck tbok 5 ⟨11, [(2, vb false)], []⟩ ?_
  refine SRun.nil ?_
  obtain rfl := inj h
  exact Le.sub0
  refine swp_ret ?_
  obtain rfl := inj h
  exact q_fr (f1 fv)
theorem ents41 : Ents Tryz.prog 41 := ents_of Tryz.func41 (by kernel_rfl) rfl
noncomputable def impl_isRepair (aList : (List Claim)) (aRemoved : (List Int)) : Option (Bool) :=
  ((impl_kept aList aRemoved).bind fun x1 => ((impl_areConsistent x1).bind fun x2 => some x2))
theorem impl_isRepair_run (aList : (List Claim)) (aRemoved : (List Int)) (r : Bool) (h : impl_isRepair aList aRemoved = some r) : SCall Tryz.prog 123 [.v (vl eClaim aList), .v (vl (eI .i64) aRemoved)] ⟨[.v (vb r)], [], false⟩ := by
  refine scall_in Tryz.func123 rfl [(.tmp 4)] rfl (fun r => ⟨[.v (vb r)], [], false⟩) (r := r) ?_
  unfold impl_isRepair at h
  refine srk tbok ⟨9, [(0, vl eClaim aList), (1, vl (eI .i64) aRemoved)], []⟩ ?_
  refine sr ?_
  refine SRun.ck tbok 2 ⟨9, [(5, vl eClaim aList), (6, vl (eI .i64) aRemoved)], []⟩ ?_
  obtain ⟨x1, hx1, h⟩ := bind_some h
  refine SRun.ls (xc ents40 (impl_kept_run aList aRemoved _ hx1)) ?_
  obtain ⟨x2, hx2, h⟩ := bind_some h
  refine SRun.ls (xc ents41 (impl_areConsistent_run x1 _ hx2)) ?_
  refine ckn tbok 1 ⟨9, [(4, vb x2)], []⟩ ?_
  refine swp_ret ?_
  obtain rfl := inj h
  exact q_fr (f1 fv)
theorem ents123 : Ents Tryz.prog 123 := ents_of Tryz.func123 (by kernel_rfl) rfl
theorem slices_SortFunc_int64_slices_Compare_int64_run (L r : List (List Int)) (h : slices_SortFunc_int64_slices_Compare_int64 L = some r) : SCall Tryz.prog 86 [.o (oa 26 1 (eL (eI .i64)) L), .v (.clo 74 [])] ⟨[], [(0, oa 26 1 (eL (eI .i64)) r)], false⟩ := sortfunc_run Tryz.sortf86 rfl 26 (ents_of Tryz.func74 (by kernel_rfl) rfl) L r h
theorem ents86 : Ents Tryz.prog 86 := ents_of Tryz.func86 (by kernel_rfl) rfl
noncomputable def impl_minimalRepairs (aList : (List Claim)) : Option ((List (List Int))) :=
  ((sh' (aList.length : Int)).bind fun _ => ((make' false (w64 (1 * 2 ^ min (Int.toNat (aList.length : Int)) 64))).bind fun x2 => ((sh' (aList.length : Int)).bind fun _ => (((forS (w64 (1 * 2 ^ min (Int.toNat (aList.length : Int)) 64)) (fun (i6 : Int) (s6 : (List (List Int)) × (List Bool)) => ((impl_subset i6).bind fun x10 => ((slices_ContainsFunc_int64_impl_minimalRepairs_1 x10 s6.2 i6).bind fun x11 => (((bif x11 then ((at' s6.2 i6).bind fun _ => some (true, (List.set s6.2 (Int.toNat i6) true))) else ((impl_isRepair aList x10).bind fun x13 => ((at' s6.2 i6).bind fun _ => some (false, (List.set s6.2 (Int.toNat i6) x13)))))).bind fun (j15 : Bool × (List Bool)) => ((((at' j15.2 i6).bind fun x17 => (bif x17 then some (!j15.1) else some false))).bind fun (j18 : Bool) => (bif j18 then ((app' s6.1 ([x10] : List (List Int))).bind fun x20 => some (x20, j15.2)) else some (s6.1, j15.2))))))) (fun (s6 : (List (List Int)) × (List Bool)) => s6.1) 0 (([] : List (List Int)), x2))).bind fun (j4 : (List (List Int))) => ((slices_SortFunc_int64_slices_Compare_int64 j4).bind fun x21 => some x21)))))
theorem impl_minimalRepairs_run (aList : (List Claim)) (r : (List (List Int))) (h : impl_minimalRepairs aList = some r) : SCall Tryz.prog 69 [.v (vl eClaim aList)] ⟨[.own 26 1 r.length (r.map (eL (eI .i64)))], [], true⟩ := by
  refine scall_in Tryz.func69 rfl [(.tmp 2)] rfl (fun r => ⟨[.own 26 1 r.length (r.map (eL (eI .i64)))], [], true⟩) (r := r) ?_
  unfold impl_minimalRepairs at h
  refine srk tbok ⟨48, [(0, vl eClaim aList)], []⟩ ?_
  refine sr ?_
  refine SRun.ck tbok 2 ⟨48, [(0, vl eClaim aList), (9, vi (aList.length : Int))], []⟩ ?_
  obtain ⟨x1, hx1, h⟩ := bind_some h
  refine SRun.ls (lstep_shv (k := .i64) (k' := .i64) (i := 1) (j := (aList.length : Int)) hx1 true rfl) ?_
  obtain ⟨x2, hx2, h⟩ := bind_some h
  refine SRun.ls (x_make (z := false) (f := eB) (ti := ti101) (tj := ti4) (e := 4) (m := 1) (k := .i64) (k' := .i64) hx2 tbok rfl rfl (zs := [.bool false])) ?_
  refine ckn tbok 2 ⟨48, [(0, vl eClaim aList), (3, .ref 3 0)], [(3, .box [.own 11]), (11, oa 4 1 eB x2)]⟩ ?_
  refine srk tbok ⟨48, [(0, vl eClaim aList), (3, .ref 3 0), (4, .own 4)], [(3, .box [.own 11]), (4, oa 26 1 (eL (eI .i64)) ([] : List (List Int))), (11, oa 4 1 eB x2)]⟩ ?_
  refine swp_seq ?_
  refine sr ?_
  refine SRun.ck tbok 2 ⟨48, [(0, vl eClaim aList), (3, .ref 3 0), (4, .own 4), (13, vi (aList.length : Int))], [(3, .box [.own 11]), (4, oa 26 1 (eL (eI .i64)) ([] : List (List Int))), (11, oa 4 1 eB x2)]⟩ ?_
  obtain ⟨x3, hx3, h⟩ := bind_some h
  refine SRun.ls (lstep_shv (k := .i64) (k' := .i64) (i := 1) (j := (aList.length : Int)) hx3 true rfl) ?_
  refine ckn tbok 1 ⟨48, [(0, vl eClaim aList), (3, .ref 3 0), (4, .own 4), (14, vi (w64 (1 * 2 ^ min (Int.toNat (aList.length : Int)) 64))), (15, vi 0)], [(3, .box [.own 11]), (4, oa 26 1 (eL (eI .i64)) ([] : List (List Int))), (11, oa 4 1 eB x2)]⟩ ?_
  refine swp_seqJ h (fun j4 => ⟨48, [(4, .own 4)], [(4, oa 26 1 (eL (eI .i64)) j4)]⟩) (fun v5 h => ?_) (fun j4 h => ?_)
  refine swp_blk (a := v5) ?_
  refine swp_lpL (r := v5) (s := (0, ([] : List (List Int)), x2)) _ (fun s6 => ⟨48, [(0, vl eClaim aList), (3, .ref 3 0), (4, .own 4), (14, vi (w64 (1 * 2 ^ min (Int.toNat (aList.length : Int)) 64))), (15, vi s6.1)], [(3, .box [.own 11]), (4, oa 26 1 (eL (eI .i64)) s6.2.1), (11, oa 4 1 eB s6.2.2)]⟩) _ (Le.sub0) h (fun s6 v7 h => ?_)
  refine srk tbok ⟨48, [(0, vl eClaim aList), (3, .ref 3 0), (4, .own 4), (14, vi (w64 (1 * 2 ^ min (Int.toNat (aList.length : Int)) 64))), (15, vi s6.1), (16, vb (decide (s6.1 < (w64 (1 * 2 ^ min (Int.toNat (aList.length : Int)) 64)))))], [(3, .box [.own 11]), (4, oa 26 1 (eL (eI .i64)) s6.2.1), (11, oa 4 1 eB s6.2.2)]⟩ ?_
  refine swp_seq ?_
  refine swp_cd h (fun h => ?_) fun h => ?_
  refine swp_skip ?_
  refine nx_n ?_
  refine swp_seq ?_
  refine swp_seqJ h (fun j8 => ⟨48, [(0, vl eClaim aList), (3, .ref 3 0), (4, .own 4), (14, vi (w64 (1 * 2 ^ min (Int.toNat (aList.length : Int)) 64))), (15, vi s6.1)], [(3, .box [.own 11]), (4, oa 26 1 (eL (eI .i64)) j8.1), (11, oa 4 1 eB j8.2)]⟩) (fun v9 h => ?_) (fun j8 h => ?_)
  refine swp_blk (a := v9) ?_
  refine srk tbok ⟨48, [(0, vl eClaim aList), (3, .ref 3 0), (4, .own 4), (5, .ref 5 0), (14, vi (w64 (1 * 2 ^ min (Int.toNat (aList.length : Int)) 64))), (15, vi s6.1)], [(3, .box [.own 11]), (4, oa 26 1 (eL (eI .i64)) s6.2.1), (5, .box [vi s6.1]), (11, oa 4 1 eB s6.2.2)]⟩ ?_
  refine sr ?_
  refine SRun.ck tbok 1 ⟨48, [(0, vl eClaim aList), (3, .ref 3 0), (4, .own 4), (5, .ref 5 0), (14, vi (w64 (1 * 2 ^ min (Int.toNat (aList.length : Int)) 64))), (15, vi s6.1), (18, vi s6.1)], [(3, .box [.own 11]), (4, oa 26 1 (eL (eI .i64)) s6.2.1), (5, .box [vi s6.1]), (11, oa 4 1 eB s6.2.2)]⟩ ?_
  obtain ⟨x10, hx10, h⟩ := bind_some h
  refine SRun.ls (xc ents82 (impl_subset_run s6.1 _ hx10)) ?_
  refine ckn tbok 1 ⟨48, [(0, vl eClaim aList), (3, .ref 3 0), (4, .own 4), (5, .ref 5 0), (6, .own 19), (14, vi (w64 (1 * 2 ^ min (Int.toNat (aList.length : Int)) 64))), (15, vi s6.1)], [(3, .box [.own 11]), (4, oa 26 1 (eL (eI .i64)) s6.2.1), (5, .box [vi s6.1]), (11, oa 4 1 eB s6.2.2), (19, oa 2 1 (eI .i64) x10)]⟩ ?_
  refine sr ?_
  refine SRun.ck tbok 2 ⟨48, [(0, vl eClaim aList), (3, .ref 3 0), (4, .own 4), (5, .ref 5 0), (6, .own 19), (14, vi (w64 (1 * 2 ^ min (Int.toNat (aList.length : Int)) 64))), (15, vi s6.1), (20, .own 19), (21, .clo 122 [.ref 3 0, .ref 5 0])], [(3, .box [.own 11]), (4, oa 26 1 (eL (eI .i64)) s6.2.1), (5, .box [vi s6.1]), (11, oa 4 1 eB s6.2.2), (19, oa 2 1 (eI .i64) x10)]⟩ ?_
  obtain ⟨x11, hx11, h⟩ := bind_some h
  refine SRun.ls (xc ents83 (slices_ContainsFunc_int64_impl_minimalRepairs_1_run x10 s6.2.2 s6.1 _ hx11)) ?_
  refine ckn tbok 1 ⟨48, [(0, vl eClaim aList), (3, .ref 3 0), (4, .own 4), (5, .ref 5 0), (6, .own 19), (7, vb x11), (14, vi (w64 (1 * 2 ^ min (Int.toNat (aList.length : Int)) 64))), (15, vi s6.1)], [(3, .box [.own 11]), (4, oa 26 1 (eL (eI .i64)) s6.2.1), (5, .box [vi s6.1]), (11, oa 4 1 eB s6.2.2), (19, oa 2 1 (eI .i64) x10)]⟩ ?_
  refine swp_seq ?_
  refine swp_drJ mixed h (fun j15 => ⟨48, [(0, vl eClaim aList), (3, .ref 3 0), (4, .own 4), (5, .ref 5 0), (6, .own 6), (7, vb j15.1), (14, vi (w64 (1 * 2 ^ min (Int.toNat (aList.length : Int)) 64))), (15, vi s6.1)], [(3, .box [.own 11]), (4, oa 26 1 (eL (eI .i64)) s6.2.1), (5, .box [vi s6.1]), (11, oa 4 1 eB j15.2), (6, oa 2 1 (eI .i64) x10)]⟩) (fun v16 h => ?_) (fun j15 h => ?_)
  refine DGo.ck tbok false 4 ⟨48, [(0, vl eClaim aList), (3, .ref 3 0), (4, .own 4), (5, .ref 5 0), (6, .own 19), (7, vb x11), (14, vi (w64 (1 * 2 ^ min (Int.toNat (aList.length : Int)) 64))), (15, vi s6.1), (23, .own 11), (24, vi s6.1), (26, vb x11)], [(3, .box [.own 11]), (4, oa 26 1 (eL (eI .i64)) s6.2.1), (5, .box [vi s6.1]), (11, oa 4 1 eB s6.2.2), (19, oa 2 1 (eI .i64) x10)]⟩ ?_
  refine DGo.cu [(7, fun b => b), (26, fun b => b)] h (fun h => ?_) fun h => ?_
  refine DGo.ck tbok false 4 ⟨48, [(0, vl eClaim aList), (3, .ref 3 0), (4, .own 4), (5, .ref 5 0), (6, .own 19), (7, vb true), (14, vi (w64 (1 * 2 ^ min (Int.toNat (aList.length : Int)) 64))), (15, vi s6.1), (23, .own 11), (24, vi s6.1), (30, vb true)], [(3, .box [.own 11]), (4, oa 26 1 (eL (eI .i64)) s6.2.1), (5, .box [vi s6.1]), (11, oa 4 1 eB s6.2.2), (19, oa 2 1 (eI .i64) x10)]⟩ ?_
  obtain ⟨x12, hx12, h⟩ := bind_some h
  refine DGo.step (x_index_own (d := 11) (L := s6.2.2) (f := eB) (ti := ti101) (tj := ti4) (e := 4) (e' := 4) (m := 1) (k := .i64) tbok rfl hx12) ?_
  refine DGo.seq (by kernel_rfl) (by kernel_rfl) ?_
  refine SRun.estep (x_store_own (d := 11) (m := 1) (j := 0) (L := s6.2.2) (f := eB) (x := true) (z := x12) (ti := ti4) (e := 4) (ts := [.bool true]) (vs := [vb true]) (v := vb true) tbok rfl rfl hx12) ?_
  refine SRun.nil ?_
  obtain rfl := inj h
  exact Le.rr [3, 4, 5, 11, 19] [(19, 6)]
  refine DGo.ck tbok false 2 ⟨48, [(0, vl eClaim aList), (3, .ref 3 0), (4, .own 4), (5, .ref 5 0), (6, .own 19), (7, vb false), (14, vi (w64 (1 * 2 ^ min (Int.toNat (aList.length : Int)) 64))), (15, vi s6.1), (23, .own 11), (24, vi s6.1), (26, vb false), (27, vl eClaim aList), (28, .own 19)], [(3, .box [.own 11]), (4, oa 26 1 (eL (eI .i64)) s6.2.1), (5, .box [vi s6.1]), (11, oa 4 1 eB s6.2.2), (19, oa 2 1 (eI .i64) x10)]⟩ ?_
  obtain ⟨x13, hx13, h⟩ := bind_some h
  refine DGo.step (xc ents123 (impl_isRepair_run aList x10 _ hx13)) ?_
  refine DGo.ck tbok false 1 ⟨48, [(0, vl eClaim aList), (3, .ref 3 0), (4, .own 4), (5, .ref 5 0), (6, .own 19), (7, vb false), (14, vi (w64 (1 * 2 ^ min (Int.toNat (aList.length : Int)) 64))), (15, vi s6.1), (23, .own 11), (24, vi s6.1), (30, vb x13)], [(3, .box [.own 11]), (4, oa 26 1 (eL (eI .i64)) s6.2.1), (5, .box [vi s6.1]), (11, oa 4 1 eB s6.2.2), (19, oa 2 1 (eI .i64) x10)]⟩ ?_
  obtain ⟨x14, hx14, h⟩ := bind_some h
  refine DGo.step (x_index_own (d := 11) (L := s6.2.2) (f := eB) (ti := ti101) (tj := ti4) (e := 4) (e' := 4) (m := 1) (k := .i64) tbok rfl hx14) ?_
  refine DGo.seq (by kernel_rfl) (by kernel_rfl) ?_
  refine SRun.estep (x_store_own (d := 11) (m := 1) (j := 0) (L := s6.2.2) (f := eB) (x := x13) (z := x14) (ti := ti4) (e := 4) (ts := [.bool x13]) (vs := [vb x13]) (v := vb x13) tbok rfl rfl hx14) ?_
  refine SRun.nil ?_
  obtain rfl := inj h
  exact Le.rr [3, 4, 5, 11, 19] [(19, 6)]
  refine swp_seq ?_
  refine swp_regJ h (fun j18 => ⟨48, [(0, vl eClaim aList), (3, .ref 3 0), (4, .own 4), (6, .own 6), (14, vi (w64 (1 * 2 ^ min (Int.toNat (aList.length : Int)) 64))), (15, vi s6.1), (39, vb j18)], [(3, .box [.own 11]), (4, oa 26 1 (eL (eI .i64)) s6.2.1), (6, oa 2 1 (eI .i64) x10), (11, oa 4 1 eB j15.2)]⟩) (fun v19 h => ?_) (fun j18 h => ?_)
  refine SRun.ck tbok 2 ⟨48, [(0, vl eClaim aList), (3, .ref 3 0), (4, .own 4), (6, .own 6), (7, vb j15.1), (14, vi (w64 (1 * 2 ^ min (Int.toNat (aList.length : Int)) 64))), (15, vi s6.1), (32, .own 11), (33, vi s6.1)], [(3, .box [.own 11]), (4, oa 26 1 (eL (eI .i64)) s6.2.1), (6, oa 2 1 (eI .i64) x10), (11, oa 4 1 eB j15.2)]⟩ ?_
  obtain ⟨x17, hx17, h⟩ := bind_some h
  refine SRun.ls (x_index_own (d := 11) (L := j15.2) (f := eB) (ti := ti101) (tj := ti4) (e := 4) (e' := 4) (m := 1) (k := .i64) tbok rfl hx17) ?_
  refine SRun.ls (x_load_own (d := 11) (m := 1) (j := 0) (L := j15.2) (f := eB) (ti := ti4) (e := 4) (v := vb x17) tbok rfl hx17) ?_
  refine SRun.ck tbok 1 ⟨48, [(0, vl eClaim aList), (3, .ref 3 0), (4, .own 4), (6, .own 6), (7, vb j15.1), (14, vi (w64 (1 * 2 ^ min (Int.toNat (aList.length : Int)) 64))), (15, vi s6.1), (36, vb x17)], [(3, .box [.own 11]), (4, oa 26 1 (eL (eI .i64)) s6.2.1), (6, oa 2 1 (eI .i64) x10), (11, oa 4 1 eB j15.2)]⟩ ?_
  refine SRun.cu [(36, fun b => b)] h (fun h => ?_) fun h => ?_
  refine SRun.ck tbok 3 ⟨48, [(0, vl eClaim aList), (3, .ref 3 0), (4, .own 4), (6, .own 6), (14, vi (w64 (1 * 2 ^ min (Int.toNat (aList.length : Int)) 64))), (15, vi s6.1), (39, vb (!j15.1))], [(3, .box [.own 11]), (4, oa 26 1 (eL (eI .i64)) s6.2.1), (6, oa 2 1 (eI .i64) x10), (11, oa 4 1 eB j15.2)]⟩ ?_
  refine SRun.nil ?_
  obtain rfl := inj h
  exact Le.sub0
  refine SRun.ck tbok 3 ⟨48, [(0, vl eClaim aList), (3, .ref 3 0), (4, .own 4), (6, .own 6), (14, vi (w64 (1 * 2 ^ min (Int.toNat (aList.length : Int)) 64))), (15, vi s6.1), (39, vb false)], [(3, .box [.own 11]), (4, oa 26 1 (eL (eI .i64)) s6.2.1), (6, oa 2 1 (eI .i64) x10), (11, oa 4 1 eB j15.2)]⟩ ?_
  refine SRun.nil ?_
  obtain rfl := inj h
  exact Le.sub0
  refine swp_cd h (fun h => ?_) fun h => ?_
  refine swp_reg ?_
  refine SRun.ck tbok 2 ⟨48, [(0, vl eClaim aList), (3, .ref 3 0), (14, vi (w64 (1 * 2 ^ min (Int.toNat (aList.length : Int)) 64))), (15, vi s6.1), (40, .own 4), (41, .own 6)], [(3, .box [.own 11]), (4, oa 26 1 (eL (eI .i64)) s6.2.1), (6, oa 2 1 (eI .i64) x10), (11, oa 4 1 eB j15.2)]⟩ ?_
  refine SRun.le (Le.frz' (d := 6) (e := 2) (m := 1) (n := x10.length) (es := x10.map (eI .i64)) (by kernel_rfl) (by kernel_rfl)) ?_
  refine SRun.ck tbok 1 ⟨48, [(0, vl eClaim aList), (3, .ref 3 0), (14, vi (w64 (1 * 2 ^ min (Int.toNat (aList.length : Int)) 64))), (15, vi s6.1), (40, .own 4), (42, .own 42)], [(3, .box [.own 11]), (4, oa 26 1 (eL (eI .i64)) s6.2.1), (11, oa 4 1 eB j15.2), (42, oa 26 1 (eL (eI .i64)) ([x10] : List (List Int)))]⟩ ?_
  obtain ⟨x20, hx20, h⟩ := bind_some h
  refine SRun.estep (x_append (f := (eL (eI .i64))) (t := 35) (ti := ti35) (tj := ti26) (zs := [.slice none 0 0]) (e := 26) (m := 1) (d := 4) (xv := .own 42) hx20 tbok rfl rfl rfl rfl (x_src_o (e := 26))) ?_
  refine SRun.ck tbok 1 ⟨48, [(0, vl eClaim aList), (3, .ref 3 0), (4, .own 43), (14, vi (w64 (1 * 2 ^ min (Int.toNat (aList.length : Int)) 64))), (15, vi s6.1)], [(3, .box [.own 11]), (11, oa 4 1 eB j15.2), (43, oa 26 1 (eL (eI .i64)) x20)]⟩ ?_
  refine SRun.nil ?_
  obtain rfl := inj h
  exact q_bn (q_j (Le.rr [3, 11, 43] [(43, 4)]))
  refine swp_skip ?_
  obtain rfl := inj h
  exact q_bn (q_j (Le.sub0))
  refine swp_reg ?_
  refine SRun.ck tbok 2 ⟨48, [(0, vl eClaim aList), (3, .ref 3 0), (4, .own 4), (14, vi (w64 (1 * 2 ^ min (Int.toNat (aList.length : Int)) 64))), (15, vi (w64 (s6.1 + 1)))], [(3, .box [.own 11]), (4, oa 26 1 (eL (eI .i64)) j8.1), (11, oa 4 1 eB j8.2)]⟩ ?_
  refine SRun.nil ?_
  obtain rfl := inj h
  exact q_l (Le.sub0)
  refine swp_exit ?_
  obtain rfl := inj h
  exact nx_e (q_re (q_bh (q_j (Le.sub0))))
  refine sr ?_
  refine SRun.ck tbok 1 ⟨48, [(4, .own 4), (45, .own 4)], [(4, oa 26 1 (eL (eI .i64)) j4)]⟩ ?_
  obtain ⟨x21, hx21, h⟩ := bind_some h
  refine SRun.estep (xe ents86 (slices_SortFunc_int64_slices_Compare_int64_run j4 _ hx21)) ?_
  refine SRun.nx ?_
  refine srk tbok ⟨48, [(2, .own 4)], [(4, oa 26 1 (eL (eI .i64)) x21)]⟩ ?_
  refine swp_ret ?_
  obtain rfl := inj h
  exact q_fr (f1 (finOT (d := 4) (holds_t (by kernel_rfl)) (by kernel_rfl) (by kernel_rfl)))
theorem ents69 : Ents Tryz.prog 69 := ents_of Tryz.func69 (by kernel_rfl) rfl
end Go.Proofs.YtppehghiiahabaaGreatDoor.Sh
