/- Typed functions and the calls that do what they say. -/
import Derived.Test.YtbaainlnmackeaaGreatDoorSE
import Derived.Test.YtbaainlnmackeaaGreatDoorKA
import Derived.Test.YtbaainlnmackeaaGreatDoorKO
import Derived.Test.YtbaainlnmackeaaGreatDoorKS
import Derived.Test.YtbaainlnmackeaaGreatDoorH1
namespace Go.Proofs.YtbaainlnmackeaaGreatDoor.Sh
open Go.RowKit
set_option maxRecDepth 100000
set_option maxHeartbeats 4000000
structure Op where
  Office : Int
  Number : Int
  Key : ByteArray
  Text : ByteArray
  Seen : (List Int)
def eOp (x : Op) : List Tr := [.int .i64 x.Office, .int .i64 x.Number, .str x.Key, .str x.Text, .sl x.Seen.length (x.Seen.map (eI .i64))]
def ti2 : TI := ⟨1, 8, .int .i64, [.int .i64 0]⟩
def ti3 : TI := ⟨1, 8, .int .i64, [.int .i64 0]⟩
def ti4 : TI := ⟨1, 1, .bool, [.bool false]⟩
def ti5 : TI := ⟨1, 1, .int .u8, [.int .u8 0]⟩
def ti9 : TI := ⟨1, 16, .str, [.str (ByteArray.mk #[])]⟩
def ti22 : TI := ⟨1, 24, .slice 51, [.sl ([] : List Op).length (([] : List Op).map eOp)]⟩
def ti24 : TI := ⟨1, 24, .slice 9, [.sl ([] : List ByteArray).length (([] : List ByteArray).map eS)]⟩
def ti27 : TI := ⟨1, 24, .slice 53, [.sl ([] : List Op).length (([] : List Op).map eOp)]⟩
def ti34 : TI := ⟨1, 24, .slice 5, [.sl ([] : List Int).length (([] : List Int).map (eI .u8))]⟩
def ti40 : TI := ⟨1, 24, .slice 2, [.sl ([] : List Int).length (([] : List Int).map (eI .i64))]⟩
def ti51 : TI := ⟨5, 72, .struct [(0, 2), (1, 2), (2, 9), (3, 9), (4, 40)], [.int .i64 0, .int .i64 0, .str (ByteArray.mk #[]), .str (ByteArray.mk #[]), .sl ([] : List Int).length (([] : List Int).map (eI .i64))]⟩
def ti53 : TI := ⟨5, 72, .struct [(0, 2), (1, 2), (2, 9), (3, 9), (4, 40)], [.int .i64 0, .int .i64 0, .str (ByteArray.mk #[]), .str (ByteArray.mk #[]), .sl ([] : List Int).length (([] : List Int).map (eI .i64))]⟩
def tbl : Tb := [(2, ti2), (3, ti3), (4, ti4), (5, ti5), (9, ti9), (22, ti22), (24, ti24), (27, ti27), (34, ti34), (40, ti40), (51, ti51), (53, ti53)]
theorem tbok : TbOk Tryz.prog tbl := TbOk.cons ⟨by kernel_rfl, show Tryz.prog.underlying 2 = some (.int .i64) from by kernel_rfl⟩ (TbOk.cons ⟨by kernel_rfl, show Tryz.prog.underlying 3 = some (.int .i64) from by kernel_rfl⟩ (TbOk.cons ⟨by kernel_rfl, show Tryz.prog.underlying 4 = some (.bool) from by kernel_rfl⟩ (TbOk.cons ⟨by kernel_rfl, show Tryz.prog.underlying 5 = some (.int .u8) from by kernel_rfl⟩ (TbOk.cons ⟨by kernel_rfl, show Tryz.prog.underlying 9 = some (.string) from by kernel_rfl⟩ (TbOk.cons ⟨by kernel_rfl, show Tryz.prog.underlying 22 = some (.slice 51) from by kernel_rfl⟩ (TbOk.cons ⟨by kernel_rfl, show Tryz.prog.underlying 24 = some (.slice 9) from by kernel_rfl⟩ (TbOk.cons ⟨by kernel_rfl, show Tryz.prog.underlying 27 = some (.slice 53) from by kernel_rfl⟩ (TbOk.cons ⟨by kernel_rfl, show Tryz.prog.underlying 34 = some (.slice 5) from by kernel_rfl⟩ (TbOk.cons ⟨by kernel_rfl, show Tryz.prog.underlying 40 = some (.slice 2) from by kernel_rfl⟩ (TbOk.cons ⟨by kernel_rfl, show structOf Tryz.prog 51 = some [(0, 2), (1, 2), (2, 9), (3, 9), (4, 40)] from by kernel_rfl⟩ (TbOk.cons ⟨by kernel_rfl, show structOf Tryz.prog 53 = some [(0, 2), (1, 2), (2, 9), (3, 9), (4, 40)] from by kernel_rfl⟩ (TbOk.nil _))))))))))))
theorem mixed : Tryz.prog.follows .mixedOrders = true := by kernel_rfl
noncomputable def spec_l01In (aN : Int) (aLow : Int) (aHigh : Int) : Option (Bool) :=
  some ((decide (aN ≥ aLow)) && (decide (aN ≤ aHigh)))
theorem spec_l01In_run (aN : Int) (aLow : Int) (aHigh : Int) (r : Bool) (h : spec_l01In aN aLow aHigh = some r) : SCall Tryz.prog 54 [.v (vi aN), .v (vi aLow), .v (vi aHigh)] ⟨[.v (vb r)], [], false⟩ := by
  refine scall_in Tryz.func54 rfl [(.tmp 6)] rfl (fun r => ⟨[.v (vb r)], [], false⟩) (r := r) ?_
  unfold spec_l01In at h
  refine srk tbok ⟨15, [(0, vi aN), (1, vi aLow), (2, vi aHigh)], []⟩ ?_
  refine swp_seq ?_
  refine swp_regP ⟨15, [(6, vb ((decide (aN ≥ aLow)) && (decide (aN ≤ aHigh))))], []⟩ ?_ ?_
  refine SRun.ck tbok 4 ⟨15, [(0, vi aN), (2, vi aHigh), (10, vb (decide (aN ≥ aLow)))], []⟩ ?_
  generalize (decide (aN ≥ aLow)) = bb
  cases bb
  refine SRun.ck tbok 5 ⟨15, [(6, vb false)], []⟩ ?_
  exact SRun.nil (Le.sub0)
  refine SRun.ck tbok 5 ⟨15, [(6, vb (decide (aN ≤ aHigh)))], []⟩ ?_
  exact SRun.nil (Le.sub0)
  refine swp_ret ?_
  obtain rfl := inj h
  exact q_fr (f1 fv)
theorem ents54 : Ents Tryz.prog 54 := ents_of Tryz.func54 (by kernel_rfl) rfl
noncomputable def spec_IsWord (aS : ByteArray) : Option (Bool) :=
  (((forN (aS.size : Int) (fun (i3 : Int) (_ : Unit) => ((((byte' aS i3).bind fun x7 => (bif (decide (x7 < 97)) then some true else ((byte' aS i3).bind fun x8 => some (decide (x8 > 122)))))).bind fun (j9 : Bool) => (bif j9 then some (.inr (.inr false)) else some (.inl ())))) (fun (_ : Unit) => .inl ()) 0 ())).bind (Sum.elim (fun (_ : Unit) => ((spec_l01In (aS.size : Int) 1 16).bind fun x11 => some x11)) some))
theorem spec_IsWord_run (aS : ByteArray) (r : Bool) (h : spec_IsWord aS = some r) : SCall Tryz.prog 55 [.v (vs aS)] ⟨[.v (vb r)], [], false⟩ := by
  refine scall_in Tryz.func55 rfl [(.tmp 2)] rfl (fun r => ⟨[.v (vb r)], [], false⟩) (r := r) ?_
  unfold spec_IsWord at h
  refine srk tbok ⟨23, [(0, vs aS)], []⟩ ?_
  refine swp_seq ?_
  refine srk tbok ⟨23, [(0, vs aS), (3, vi 0)], []⟩ ?_
  refine swp_seqE (r := r) h (fun j1 => ⟨23, [(0, vs aS)], []⟩) (fun v2 h => ?_) (fun j1 h => ?_)
  refine swp_blk (a := v2) ?_
  refine swp_lpL (r := v2) (s := (0, ())) _ (fun s3 => ⟨23, [(0, vs aS), (3, vi s3.1)], []⟩) _ (Le.sub0) h (fun s3 v4 h => ?_)
  refine swp_seq ?_
  refine srk tbok ⟨23, [(0, vs aS), (3, vi s3.1), (7, vb (decide (s3.1 < (aS.size : Int))))], []⟩ ?_
  refine swp_cd h (fun h => ?_) fun h => ?_
  refine swp_skip ?_
  refine nx_n ?_
  refine swp_seq ?_
  refine swp_seqL (r := v4) h (fun j5 => ⟨23, [(0, vs aS), (3, vi s3.1)], []⟩) (fun v6 h => ?_) (fun j5 h => ?_)
  refine swp_blk (a := v6) ?_
  refine swp_seq ?_
  refine swp_regJ h (fun j9 => ⟨23, [(0, vs aS), (3, vi s3.1), (19, vb j9)], []⟩) (fun v10 h => ?_) (fun j9 h => ?_)
  refine SRun.ck tbok 2 ⟨23, [(0, vs aS), (3, vi s3.1), (10, vs aS), (11, vi s3.1)], []⟩ ?_
  obtain ⟨x7, hx7, h⟩ := bind_some h
  refine SRun.ls (x_byte (ti := ti9) (k := .i64) hx7 tbok rfl) ?_
  refine SRun.ck tbok 2 ⟨23, [(0, vs aS), (3, vi s3.1), (14, vb (decide (x7 < 97)))], []⟩ ?_
  refine SRun.cu [(14, fun b => b)] h (fun h => ?_) fun h => ?_
  refine SRun.ck tbok 5 ⟨23, [(0, vs aS), (3, vi s3.1), (19, vb true)], []⟩ ?_
  refine SRun.nil ?_
  obtain rfl := inj h
  exact Le.sub0
  refine SRun.ck tbok 2 ⟨23, [(0, vs aS), (3, vi s3.1), (14, vb false), (15, vs aS), (16, vi s3.1)], []⟩ ?_
  obtain ⟨x8, hx8, h⟩ := bind_some h
  refine SRun.ls (x_byte (ti := ti9) (k := .i64) hx8 tbok rfl) ?_
  refine SRun.ck tbok 2 ⟨23, [(0, vs aS), (3, vi s3.1), (19, vb (decide (x8 > 122)))], []⟩ ?_
  refine SRun.nil ?_
  obtain rfl := inj h
  exact Le.sub0
  refine swp_cd h (fun h => ?_) fun h => ?_
  refine srk tbok ⟨23, [(2, vb false)], []⟩ ?_
  refine swp_ret ?_
  obtain rfl := inj h
  exact q_br (q_rr (q_rr (q_br (q_rr (q_fr (f1 fv))))))
  refine swp_skip ?_
  obtain rfl := inj h
  exact q_bn (q_l (Le.sub0))
  refine swp_reg ?_
  refine SRun.ck tbok 3 ⟨23, [(0, vs aS), (3, vi (w64 (s3.1 + 1)))], []⟩ ?_
  refine SRun.nil ?_
  obtain rfl := inj h
  exact q_l (Le.sub0)
  refine swp_exit ?_
  obtain rfl := inj h
  exact nx_e (q_re (q_bh (q_l (Le.sub0))))
  refine sr ?_
  refine SRun.ck tbok 2 ⟨23, [(21, vi (aS.size : Int))], []⟩ ?_
  obtain ⟨x11, hx11, h⟩ := bind_some h
  refine SRun.ls (xc ents54 (spec_l01In_run (aS.size : Int) 1 16 _ hx11)) ?_
  refine ckn tbok 1 ⟨23, [(2, vb x11)], []⟩ ?_
  refine swp_ret ?_
  obtain rfl := inj h
  exact q_fr (f1 fv)
theorem ents55 : Ents Tryz.prog 55 := ents_of Tryz.func55 (by kernel_rfl) rfl
noncomputable def spec_l01Split (aS : ByteArray) (aBy : Int) : Option ((List ByteArray)) :=
  (((forH (fun (i3 : Int) (_ : Int × (List ByteArray)) => (decide (i3 ≤ (aS.size : Int)))) (fun (i3 : Int) (s3 : Int × (List ByteArray)) => (((bif (i3 == (aS.size : Int)) then some true else ((byte' aS i3).bind fun x7 => some (x7 == aBy)))).bind fun (j8 : Bool) => (bif j8 then ((sub' aS s3.1 i3).bind fun x10 => ((app' s3.2 ([x10] : List ByteArray)).bind fun x11 => some ((w64 (i3 + 1)), x11))) else some (s3.1, s3.2)))) (fun (s3 : Int × (List ByteArray)) => s3.2) 0 (0, ([] : List ByteArray)))).bind fun (j1 : (List ByteArray)) => some j1)
theorem spec_l01Split_run (aS : ByteArray) (aBy : Int) (r : (List ByteArray)) (h : spec_l01Split aS aBy = some r) : SCall Tryz.prog 89 [.v (vs aS), .v (.tr (.int .u8 aBy))] ⟨[.own 9 1 r.length (r.map eS)], [], false⟩ := by
  refine scall_in Tryz.func89 rfl [(.tmp 4)] rfl (fun r => ⟨[.own 9 1 r.length (r.map eS)], [], false⟩) (r := r) ?_
  unfold spec_l01Split at h
  refine srk tbok ⟨36, [(0, vs aS), (1, .tr (.int .u8 aBy))], []⟩ ?_
  refine srk tbok ⟨36, [(0, vs aS), (1, .tr (.int .u8 aBy)), (5, .own 8)], [(8, oa 9 1 eS ([] : List ByteArray))]⟩ ?_
  refine srk tbok ⟨36, [(0, vs aS), (1, .tr (.int .u8 aBy)), (5, .own 8), (6, vi 0)], [(8, oa 9 1 eS ([] : List ByteArray))]⟩ ?_
  refine swp_seq ?_
  refine srk tbok ⟨36, [(0, vs aS), (1, .tr (.int .u8 aBy)), (5, .own 8), (6, vi 0), (7, vi 0)], [(8, oa 9 1 eS ([] : List ByteArray))]⟩ ?_
  refine swp_seqJ h (fun j1 => ⟨36, [(5, .own 5)], [(5, oa 9 1 eS j1)]⟩) (fun v2 h => ?_) (fun j1 h => ?_)
  refine swp_blk (a := v2) ?_
  refine swp_lpL (r := v2) (s := (0, 0, ([] : List ByteArray))) _ (fun s3 => ⟨36, [(0, vs aS), (1, .tr (.int .u8 aBy)), (5, .own 5), (6, vi s3.2.1), (7, vi s3.1)], [(5, oa 9 1 eS s3.2.2)]⟩) _ (Le.rr [8] [(8, 5)]) h (fun s3 v4 h => ?_)
  refine swp_seq ?_
  refine srk tbok ⟨36, [(0, vs aS), (1, .tr (.int .u8 aBy)), (5, .own 5), (6, vi s3.2.1), (7, vi s3.1), (12, vb (decide (s3.1 ≤ (aS.size : Int))))], [(5, oa 9 1 eS s3.2.2)]⟩ ?_
  refine swp_cd h (fun h => ?_) fun h => ?_
  refine swp_skip ?_
  refine nx_n ?_
  refine swp_seq ?_
  refine swp_seqJ h (fun j5 => ⟨36, [(0, vs aS), (1, .tr (.int .u8 aBy)), (5, .own 5), (6, vi j5.1), (7, vi s3.1)], [(5, oa 9 1 eS j5.2)]⟩) (fun v6 h => ?_) (fun j5 h => ?_)
  refine swp_blk (a := v6) ?_
  refine swp_seq ?_
  refine swp_regJ h (fun j8 => ⟨36, [(0, vs aS), (1, .tr (.int .u8 aBy)), (5, .own 5), (6, vi s3.2.1), (7, vi s3.1), (25, vb j8)], [(5, oa 9 1 eS s3.2.2)]⟩) (fun v9 h => ?_) (fun j8 h => ?_)
  refine SRun.ck tbok 5 ⟨36, [(0, vs aS), (1, .tr (.int .u8 aBy)), (5, .own 5), (6, vi s3.2.1), (7, vi s3.1), (19, vb (s3.1 == (aS.size : Int)))], [(5, oa 9 1 eS s3.2.2)]⟩ ?_
  refine SRun.cu [(19, fun b => b)] h (fun h => ?_) fun h => ?_
  refine SRun.ck tbok 6 ⟨36, [(0, vs aS), (1, .tr (.int .u8 aBy)), (5, .own 5), (6, vi s3.2.1), (7, vi s3.1), (25, vb true)], [(5, oa 9 1 eS s3.2.2)]⟩ ?_
  refine SRun.nil ?_
  obtain rfl := inj h
  exact Le.sub0
  refine SRun.ck tbok 2 ⟨36, [(0, vs aS), (1, .tr (.int .u8 aBy)), (5, .own 5), (6, vi s3.2.1), (7, vi s3.1), (19, vb false), (20, vs aS), (21, vi s3.1)], [(5, oa 9 1 eS s3.2.2)]⟩ ?_
  obtain ⟨x7, hx7, h⟩ := bind_some h
  refine SRun.ls (x_byte (ti := ti9) (k := .i64) hx7 tbok rfl) ?_
  refine SRun.ck tbok 3 ⟨36, [(0, vs aS), (1, .tr (.int .u8 aBy)), (5, .own 5), (6, vi s3.2.1), (7, vi s3.1), (25, vb (x7 == aBy))], [(5, oa 9 1 eS s3.2.2)]⟩ ?_
  refine SRun.nil ?_
  obtain rfl := inj h
  exact Le.sub0
  refine swp_cd h (fun h => ?_) fun h => ?_
  refine sr ?_
  refine SRun.ck tbok 4 ⟨36, [(0, vs aS), (1, .tr (.int .u8 aBy)), (7, vi s3.1), (26, .own 5), (27, vs aS), (28, vi s3.2.1), (29, vi s3.1)], [(5, oa 9 1 eS s3.2.2)]⟩ ?_
  obtain ⟨x10, hx10, h⟩ := bind_some h
  refine SRun.ls (x_sub (ti := ti9) hx10 tbok rfl) ?_
  refine SRun.ck tbok 1 ⟨36, [(0, vs aS), (1, .tr (.int .u8 aBy)), (7, vi s3.1), (26, .own 5), (31, .own 31)], [(5, oa 9 1 eS s3.2.2), (31, oa 9 1 eS ([x10] : List ByteArray))]⟩ ?_
  obtain ⟨x11, hx11, h⟩ := bind_some h
  refine SRun.estep (x_append (f := eS) (t := 24) (ti := ti24) (tj := ti9) (zs := [.string (ByteArray.mk #[])]) (e := 9) (m := 1) (d := 5) (xv := .own 31) hx11 tbok rfl rfl rfl rfl (x_src_o (e := 9))) ?_
  refine ckn tbok 1 ⟨36, [(0, vs aS), (1, .tr (.int .u8 aBy)), (5, .own 32), (7, vi s3.1)], [(32, oa 9 1 eS x11)]⟩ ?_
  refine swp_reg ?_
  refine SRun.ck tbok 3 ⟨36, [(0, vs aS), (1, .tr (.int .u8 aBy)), (5, .own 32), (6, vi (w64 (s3.1 + 1))), (7, vi s3.1)], [(32, oa 9 1 eS x11)]⟩ ?_
  refine SRun.nil ?_
  obtain rfl := inj h
  exact q_bn (q_j (Le.rr [32] [(32, 5)]))
  refine swp_skip ?_
  obtain rfl := inj h
  exact q_bn (q_j (Le.sub0))
  refine swp_reg ?_
  refine SRun.ck tbok 3 ⟨36, [(0, vs aS), (1, .tr (.int .u8 aBy)), (5, .own 5), (6, vi j5.1), (7, vi (w64 (s3.1 + 1)))], [(5, oa 9 1 eS j5.2)]⟩ ?_
  refine SRun.nil ?_
  obtain rfl := inj h
  exact q_l (Le.sub0)
  refine swp_exit ?_
  obtain rfl := inj h
  exact nx_e (q_re (q_bh (q_j (Le.sub0))))
  refine srk tbok ⟨36, [(4, .own 5)], [(5, oa 9 1 eS j1)]⟩ ?_
  refine swp_ret ?_
  obtain rfl := inj h
  exact q_fr (f1 (fo eS_flat))
theorem ents89 : Ents Tryz.prog 89 := ents_of Tryz.func89 (by kernel_rfl) rfl
noncomputable def spec_l01Phrase (aS : ByteArray) : Option ((List ByteArray) × Bool) :=
  ((spec_l01Split aS 32).bind fun x1 => (((forN (x1.length : Int) (fun (i4 : Int) (_ : Unit) => ((at' x1 i4).bind fun x8 => ((spec_IsWord x8).bind fun x9 => (bif (!x9) then some (.inr (.inr (([] : List ByteArray), false))) else some (.inl ()))))) (fun (_ : Unit) => .inl ()) 0 ())).bind (Sum.elim (fun (_ : Unit) => some (x1, (decide ((x1.length : Int) ≤ 8)))) some)))
theorem spec_l01Phrase_run (aS : ByteArray) (r : (List ByteArray) × Bool) (h : spec_l01Phrase aS = some r) : SCall Tryz.prog 78 [.v (vs aS)] ⟨[.own 9 1 r.1.length (r.1.map eS), .v (vb r.2)], [], false⟩ := by
  refine scall_in Tryz.func78 rfl [(.tmp 2), (.tmp 3)] rfl (fun r => ⟨[.own 9 1 r.1.length (r.1.map eS), .v (vb r.2)], [], false⟩) (r := r) ?_
  unfold spec_l01Phrase at h
  refine srk tbok ⟨24, [(0, vs aS)], []⟩ ?_
  refine sr ?_
  refine SRun.ck tbok 1 ⟨24, [(6, vs aS)], []⟩ ?_
  obtain ⟨x1, hx1, h⟩ := bind_some h
  refine SRun.ls (xc ents89 (spec_l01Split_run aS 32 _ hx1)) ?_
  refine ckn tbok 1 ⟨24, [(4, .own 7)], [(7, oa 9 1 eS x1)]⟩ ?_
  refine swp_seq ?_
  refine srk tbok ⟨24, [(4, .own 7), (5, vi 0)], [(7, oa 9 1 eS x1)]⟩ ?_
  refine swp_seqE (r := r) h (fun j2 => ⟨24, [(4, .own 4)], [(4, oa 9 1 eS x1)]⟩) (fun v3 h => ?_) (fun j2 h => ?_)
  refine swp_blk (a := v3) ?_
  refine swp_lpL (r := v3) (s := (0, ())) _ (fun s4 => ⟨24, [(4, .own 4), (5, vi s4.1)], [(4, oa 9 1 eS x1)]⟩) _ (Le.rr [7] [(7, 4)]) h (fun s4 v5 h => ?_)
  refine swp_seq ?_
  refine srk tbok ⟨24, [(4, .own 4), (5, vi s4.1), (11, vb (decide (s4.1 < (x1.length : Int))))], [(4, oa 9 1 eS x1)]⟩ ?_
  refine swp_cd h (fun h => ?_) fun h => ?_
  refine swp_skip ?_
  refine nx_n ?_
  refine swp_seq ?_
  refine swp_seqL (r := v5) h (fun j6 => ⟨24, [(4, .own 4), (5, vi s4.1)], [(4, oa 9 1 eS x1)]⟩) (fun v7 h => ?_) (fun j6 h => ?_)
  refine swp_blk (a := v7) ?_
  refine sr ?_
  refine SRun.ck tbok 2 ⟨24, [(4, .own 4), (5, vi s4.1), (14, .own 4), (15, vi s4.1)], [(4, oa 9 1 eS x1)]⟩ ?_
  obtain ⟨x8, hx8, h⟩ := bind_some h
  refine SRun.ls (x_index_own (d := 4) (L := x1) (f := eS) (ti := ti24) (tj := ti9) (e := 9) (e' := 9) (m := 1) (k := .i64) tbok rfl hx8) ?_
  refine SRun.ls (x_load_own (d := 4) (m := 1) (j := 0) (L := x1) (f := eS) (ti := ti9) (e := 9) (v := vs x8) tbok rfl hx8) ?_
  obtain ⟨x9, hx9, h⟩ := bind_some h
  refine SRun.ls (xc ents55 (spec_IsWord_run x8 _ hx9)) ?_
  refine ckn tbok 1 ⟨24, [(4, .own 4), (5, vi s4.1), (19, vb (!x9))], [(4, oa 9 1 eS x1)]⟩ ?_
  refine swp_cd h (fun h => ?_) fun h => ?_
  refine srk tbok ⟨24, [(2, .own 2), (3, vb false)], [(2, oa 9 1 eS ([] : List ByteArray))]⟩ ?_
  refine swp_ret ?_
  obtain rfl := inj h
  exact q_br (q_rr (q_rr (q_br (q_rr (q_fr (f2 (fo eS_flat) fv))))))
  refine swp_skip ?_
  obtain rfl := inj h
  exact q_bn (q_l (Le.sub0))
  refine swp_reg ?_
  refine SRun.ck tbok 3 ⟨24, [(4, .own 4), (5, vi (w64 (s4.1 + 1)))], [(4, oa 9 1 eS x1)]⟩ ?_
  refine SRun.nil ?_
  obtain rfl := inj h
  exact q_l (Le.sub0)
  refine swp_exit ?_
  obtain rfl := inj h
  exact nx_e (q_re (q_bh (q_l (Le.sub0))))
  refine srk tbok ⟨24, [(2, .own 4), (3, vb (decide ((x1.length : Int) ≤ 8)))], [(4, oa 9 1 eS x1)]⟩ ?_
  refine swp_ret ?_
  obtain rfl := inj h
  exact q_fr (f2 (fo eS_flat) fv)
theorem ents78 : Ents Tryz.prog 78 := ents_of Tryz.func78 (by kernel_rfl) rfl
noncomputable def spec_IsPhrase (aS : ByteArray) : Option (Bool) :=
  ((spec_l01Phrase aS).bind fun x1 => some x1.2)
theorem spec_IsPhrase_run (aS : ByteArray) (r : Bool) (h : spec_IsPhrase aS = some r) : SCall Tryz.prog 56 [.v (vs aS)] ⟨[.v (vb r)], [], false⟩ := by
  refine scall_in Tryz.func56 rfl [(.tmp 2)] rfl (fun r => ⟨[.v (vb r)], [], false⟩) (r := r) ?_
  unfold spec_IsPhrase at h
  refine srk tbok ⟨11, [(0, vs aS)], []⟩ ?_
  refine sr ?_
  refine SRun.ck tbok 1 ⟨11, [(6, vs aS)], []⟩ ?_
  obtain ⟨x1, hx1, h⟩ := bind_some h
  refine SRun.ls (xc ents78 (spec_l01Phrase_run aS _ hx1)) ?_
  refine ckn tbok 5 ⟨11, [(4, vb x1.2)], []⟩ ?_
  refine srk tbok ⟨11, [(2, vb x1.2)], []⟩ ?_
  refine swp_ret ?_
  obtain rfl := inj h
  exact q_fr (f1 fv)
theorem ents56 : Ents Tryz.prog 56 := ents_of Tryz.func56 (by kernel_rfl) rfl
noncomputable def spec_l32Vector (aVector : (List Int)) : Option (Bool) :=
  (((forN (aVector.length : Int) (fun (i3 : Int) (_ : Unit) => ((at' aVector i3).bind fun x7 => (bif (decide (x7 < 0)) then some (.inr (.inr false)) else some (.inl ())))) (fun (_ : Unit) => .inl ()) 0 ())).bind (Sum.elim (fun (_ : Unit) => some ((aVector.length : Int) == 4)) some))
theorem spec_l32Vector_run (aVector : (List Int)) (r : Bool) (h : spec_l32Vector aVector = some r) : SCall Tryz.prog 49 [.v (vl (eI .i64) aVector)] ⟨[.v (vb r)], [], false⟩ := by
  refine scall_in Tryz.func49 rfl [(.tmp 2)] rfl (fun r => ⟨[.v (vb r)], [], false⟩) (r := r) ?_
  unfold spec_l32Vector at h
  refine srk tbok ⟨18, [(0, vl (eI .i64) aVector)], []⟩ ?_
  refine swp_seq ?_
  refine srk tbok ⟨18, [(0, vl (eI .i64) aVector), (3, vi 0)], []⟩ ?_
  refine swp_seqE (r := r) h (fun j1 => ⟨18, [(0, vl (eI .i64) aVector)], []⟩) (fun v2 h => ?_) (fun j1 h => ?_)
  refine swp_blk (a := v2) ?_
  refine swp_lpL (r := v2) (s := (0, ())) _ (fun s3 => ⟨18, [(0, vl (eI .i64) aVector), (3, vi s3.1)], []⟩) _ (Le.sub0) h (fun s3 v4 h => ?_)
  refine swp_seq ?_
  refine srk tbok ⟨18, [(0, vl (eI .i64) aVector), (3, vi s3.1), (7, vb (decide (s3.1 < (aVector.length : Int))))], []⟩ ?_
  refine swp_cd h (fun h => ?_) fun h => ?_
  refine swp_skip ?_
  refine nx_n ?_
  refine swp_seq ?_
  refine swp_seqL (r := v4) h (fun j5 => ⟨18, [(0, vl (eI .i64) aVector), (3, vi s3.1)], []⟩) (fun v6 h => ?_) (fun j5 h => ?_)
  refine swp_blk (a := v6) ?_
  refine sr ?_
  refine SRun.ck tbok 2 ⟨18, [(0, vl (eI .i64) aVector), (3, vi s3.1), (10, vl (eI .i64) aVector), (11, vi s3.1)], []⟩ ?_
  obtain ⟨x7, hx7, h⟩ := bind_some h
  refine SRun.ls (x_index (L := aVector) (f := (eI .i64)) (ti := ti40) (tj := ti2) (e := 2) (k := .i64) tbok rfl hx7) ?_
  refine ckn tbok 2 ⟨18, [(0, vl (eI .i64) aVector), (3, vi s3.1), (14, vb (decide (x7 < 0)))], []⟩ ?_
  refine swp_cd h (fun h => ?_) fun h => ?_
  refine srk tbok ⟨18, [(2, vb false)], []⟩ ?_
  refine swp_ret ?_
  obtain rfl := inj h
  exact q_br (q_rr (q_rr (q_br (q_rr (q_fr (f1 fv))))))
  refine swp_skip ?_
  obtain rfl := inj h
  exact q_bn (q_l (Le.sub0))
  refine swp_reg ?_
  refine SRun.ck tbok 3 ⟨18, [(0, vl (eI .i64) aVector), (3, vi (w64 (s3.1 + 1)))], []⟩ ?_
  refine SRun.nil ?_
  obtain rfl := inj h
  exact q_l (Le.sub0)
  refine swp_exit ?_
  obtain rfl := inj h
  exact nx_e (q_re (q_bh (q_l (Le.sub0))))
  refine srk tbok ⟨18, [(2, vb ((aVector.length : Int) == 4))], []⟩ ?_
  refine swp_ret ?_
  obtain rfl := inj h
  exact q_fr (f1 fv)
theorem ents49 : Ents Tryz.prog 49 := ents_of Tryz.func49 (by kernel_rfl) rfl
noncomputable def spec_IsLog (aLog : (List Op)) : Option (Bool) :=
  ((make' 0 4).bind fun x1 => (((forN (aLog.length : Int) (fun (i4 : Int) (s4 : (List Int)) => ((at' aLog i4).bind fun x8 => ((((spec_l01In x8.Office 0 3).bind fun x9 => (bif (!x9) then some true else ((spec_IsWord x8.Key).bind fun x10 => (bif (!x10) then some true else ((spec_IsPhrase x8.Text).bind fun x11 => (bif (!x11) then some true else ((spec_l32Vector x8.Seen).bind fun x12 => (bif (!x12) then some true else ((at' x8.Seen x8.Office).bind fun x13 => (bif (x13 != (w64 (x8.Number - 1))) then some true else ((at' s4 x8.Office).bind fun x14 => some (x8.Number != (w64 (x14 + 1))))))))))))))).bind fun (j15 : Bool) => (bif j15 then some (.inr (.inr false)) else (((forN (s4.length : Int) (fun (i19 : Int) (_ : Unit) => ((at' x8.Seen i19).bind fun x23 => ((at' s4 i19).bind fun x24 => (bif (decide (x23 > x24)) then some (.inr (.inr (.inr (.inr false)))) else some (.inl ()))))) (fun (_ : Unit) => .inl ()) 0 ())).bind (Sum.elim (fun (_ : Unit) => ((at' s4 x8.Office).bind fun _ => some (.inl (List.set s4 (Int.toNat x8.Office) x8.Number)))) some)))))) (fun (_ : (List Int)) => .inl ()) 0 x1)).bind (Sum.elim (fun (_ : Unit) => some (decide ((aLog.length : Int) ≤ 16))) some)))
theorem spec_IsLog_run (aLog : (List Op)) (r : Bool) (h : spec_IsLog aLog = some r) : SCall Tryz.prog 29 [.v (vl eOp aLog)] ⟨[.v (vb r)], [], false⟩ := by
  refine scall_in Tryz.func29 rfl [(.tmp 2)] rfl (fun r => ⟨[.v (vb r)], [], false⟩) (r := r) ?_
  unfold spec_IsLog at h
  refine srk tbok ⟨88, [(0, vl eOp aLog)], []⟩ ?_
  refine sr ?_
  obtain ⟨x1, hx1, h⟩ := bind_some h
  refine SRun.ls (x_make (z := 0) (f := (eI .i64)) (ti := ti40) (tj := ti2) (e := 2) (m := 1) (k := .i64) (k' := .i64) hx1 tbok rfl rfl (zs := [.int .i64 0])) ?_
  refine ckn tbok 1 ⟨88, [(0, vl eOp aLog), (3, .own 7)], [(7, oa 2 1 (eI .i64) x1)]⟩ ?_
  refine swp_seq ?_
  refine srk tbok ⟨88, [(0, vl eOp aLog), (3, .own 7), (4, vi 0)], [(7, oa 2 1 (eI .i64) x1)]⟩ ?_
  refine swp_seqE (r := r) h (fun j2 => ⟨88, [(0, vl eOp aLog)], []⟩) (fun v3 h => ?_) (fun j2 h => ?_)
  refine swp_blk (a := v3) ?_
  refine swp_lpL (r := v3) (s := (0, x1)) _ (fun s4 => ⟨88, [(0, vl eOp aLog), (3, .own 3), (4, vi s4.1)], [(3, oa 2 1 (eI .i64) s4.2)]⟩) _ (Le.rr [7] [(7, 3)]) h (fun s4 v5 h => ?_)
  refine swp_seq ?_
  refine srk tbok ⟨88, [(0, vl eOp aLog), (3, .own 3), (4, vi s4.1), (11, vb (decide (s4.1 < (aLog.length : Int))))], [(3, oa 2 1 (eI .i64) s4.2)]⟩ ?_
  refine swp_cd h (fun h => ?_) fun h => ?_
  refine swp_skip ?_
  refine nx_n ?_
  refine swp_seq ?_
  refine swp_seqL (r := v5) h (fun j6 => ⟨88, [(0, vl eOp aLog), (3, .own 3), (4, vi s4.1)], [(3, oa 2 1 (eI .i64) j6)]⟩) (fun v7 h => ?_) (fun j6 h => ?_)
  refine swp_blk (a := v7) ?_
  refine sr ?_
  refine SRun.ck tbok 2 ⟨88, [(0, vl eOp aLog), (3, .own 3), (4, vi s4.1), (14, vl eOp aLog), (15, vi s4.1)], [(3, oa 2 1 (eI .i64) s4.2)]⟩ ?_
  obtain ⟨x8, hx8, h⟩ := bind_some h
  refine SRun.ls (x_index (L := aLog) (f := eOp) (ti := ti27) (tj := ti53) (e := 53) (k := .i64) tbok rfl hx8) ?_
  refine ckn tbok 3 ⟨88, [(0, vl eOp aLog), (3, .own 3), (4, vi s4.1), (5, .ref 5 0)], [(3, oa 2 1 (eI .i64) s4.2), (5, .box (tc eOp x8))]⟩ ?_
  refine swp_seq ?_
  refine swp_seq ?_
  refine swp_drJ mixed h (fun j15 => ⟨88, [(0, vl eOp aLog), (3, .own 3), (4, vi s4.1), (5, .ref 5 0), (62, vb j15)], [(3, oa 2 1 (eI .i64) s4.2), (5, .box (tc eOp x8))]⟩) (fun v16 h => ?_) (fun j15 h => ?_)
  refine DGo.ck tbok false 2 ⟨88, [(0, vl eOp aLog), (3, .own 3), (4, vi s4.1), (5, .ref 5 0), (19, vi x8.Office)], [(3, oa 2 1 (eI .i64) s4.2), (5, .box (tc eOp x8))]⟩ ?_
  obtain ⟨x9, hx9, h⟩ := bind_some h
  refine DGo.step (xc ents54 (spec_l01In_run x8.Office 0 3 _ hx9)) ?_
  refine DGo.ck tbok false 2 ⟨88, [(0, vl eOp aLog), (3, .own 3), (4, vi s4.1), (5, .ref 5 0), (22, vb (!x9))], [(3, oa 2 1 (eI .i64) s4.2), (5, .box (tc eOp x8))]⟩ ?_
  refine DGo.cu [(22, fun b => b)] h (fun h => ?_) fun h => ?_
  refine DGo.ck tbok false 40 ⟨88, [(0, vl eOp aLog), (3, .own 3), (4, vi s4.1), (5, .ref 5 0), (62, vb true)], [(3, oa 2 1 (eI .i64) s4.2), (5, .box (tc eOp x8))]⟩ ?_
  refine DGo.nil (by kernel_rfl) ?_
  obtain rfl := inj h
  exact Le.sub0
  refine DGo.ck tbok false 2 ⟨88, [(0, vl eOp aLog), (3, .own 3), (4, vi s4.1), (5, .ref 5 0), (22, vb false), (24, vs x8.Key)], [(3, oa 2 1 (eI .i64) s4.2), (5, .box (tc eOp x8))]⟩ ?_
  obtain ⟨x10, hx10, h⟩ := bind_some h
  refine DGo.step (xc ents55 (spec_IsWord_run x8.Key _ hx10)) ?_
  refine DGo.ck tbok false 3 ⟨88, [(0, vl eOp aLog), (3, .own 3), (4, vi s4.1), (5, .ref 5 0), (28, vb (!x10))], [(3, oa 2 1 (eI .i64) s4.2), (5, .box (tc eOp x8))]⟩ ?_
  refine DGo.cu [(28, fun b => b)] h (fun h => ?_) fun h => ?_
  refine DGo.ck tbok false 34 ⟨88, [(0, vl eOp aLog), (3, .own 3), (4, vi s4.1), (5, .ref 5 0), (62, vb true)], [(3, oa 2 1 (eI .i64) s4.2), (5, .box (tc eOp x8))]⟩ ?_
  refine DGo.nil (by kernel_rfl) ?_
  obtain rfl := inj h
  exact Le.sub0
  refine DGo.ck tbok false 2 ⟨88, [(0, vl eOp aLog), (3, .own 3), (4, vi s4.1), (5, .ref 5 0), (28, vb false), (30, vs x8.Text)], [(3, oa 2 1 (eI .i64) s4.2), (5, .box (tc eOp x8))]⟩ ?_
  obtain ⟨x11, hx11, h⟩ := bind_some h
  refine DGo.step (xc ents56 (spec_IsPhrase_run x8.Text _ hx11)) ?_
  refine DGo.ck tbok false 3 ⟨88, [(0, vl eOp aLog), (3, .own 3), (4, vi s4.1), (5, .ref 5 0), (34, vb (!x11))], [(3, oa 2 1 (eI .i64) s4.2), (5, .box (tc eOp x8))]⟩ ?_
  refine DGo.cu [(34, fun b => b)] h (fun h => ?_) fun h => ?_
  refine DGo.ck tbok false 28 ⟨88, [(0, vl eOp aLog), (3, .own 3), (4, vi s4.1), (5, .ref 5 0), (62, vb true)], [(3, oa 2 1 (eI .i64) s4.2), (5, .box (tc eOp x8))]⟩ ?_
  refine DGo.nil (by kernel_rfl) ?_
  obtain rfl := inj h
  exact Le.sub0
  refine DGo.ck tbok false 2 ⟨88, [(0, vl eOp aLog), (3, .own 3), (4, vi s4.1), (5, .ref 5 0), (34, vb false), (36, vl (eI .i64) x8.Seen)], [(3, oa 2 1 (eI .i64) s4.2), (5, .box (tc eOp x8))]⟩ ?_
  obtain ⟨x12, hx12, h⟩ := bind_some h
  refine DGo.step (xc ents49 (spec_l32Vector_run x8.Seen _ hx12)) ?_
  refine DGo.ck tbok false 3 ⟨88, [(0, vl eOp aLog), (3, .own 3), (4, vi s4.1), (5, .ref 5 0), (40, vb (!x12))], [(3, oa 2 1 (eI .i64) s4.2), (5, .box (tc eOp x8))]⟩ ?_
  refine DGo.cu [(40, fun b => b)] h (fun h => ?_) fun h => ?_
  refine DGo.ck tbok false 22 ⟨88, [(0, vl eOp aLog), (3, .own 3), (4, vi s4.1), (5, .ref 5 0), (62, vb true)], [(3, oa 2 1 (eI .i64) s4.2), (5, .box (tc eOp x8))]⟩ ?_
  refine DGo.nil (by kernel_rfl) ?_
  obtain rfl := inj h
  exact Le.sub0
  refine DGo.ck tbok false 4 ⟨88, [(0, vl eOp aLog), (3, .own 3), (4, vi s4.1), (5, .ref 5 0), (40, vb false), (42, vl (eI .i64) x8.Seen), (44, vi x8.Office)], [(3, oa 2 1 (eI .i64) s4.2), (5, .box (tc eOp x8))]⟩ ?_
  obtain ⟨x13, hx13, h⟩ := bind_some h
  refine DGo.step (x_index (L := x8.Seen) (f := (eI .i64)) (ti := ti40) (tj := ti2) (e := 2) (k := .i64) tbok rfl hx13) ?_
  refine DGo.ck tbok false 7 ⟨88, [(0, vl eOp aLog), (3, .own 3), (4, vi s4.1), (5, .ref 5 0), (52, vb (x13 != (w64 (x8.Number - 1))))], [(3, oa 2 1 (eI .i64) s4.2), (5, .box (tc eOp x8))]⟩ ?_
  refine DGo.cu [(52, fun b => b)] h (fun h => ?_) fun h => ?_
  refine DGo.ck tbok false 10 ⟨88, [(0, vl eOp aLog), (3, .own 3), (4, vi s4.1), (5, .ref 5 0), (62, vb true)], [(3, oa 2 1 (eI .i64) s4.2), (5, .box (tc eOp x8))]⟩ ?_
  refine DGo.nil (by kernel_rfl) ?_
  obtain rfl := inj h
  exact Le.sub0
  refine DGo.ck tbok false 5 ⟨88, [(0, vl eOp aLog), (3, .own 3), (4, vi s4.1), (5, .ref 5 0), (52, vb false), (54, vi x8.Number), (55, .own 3), (57, vi x8.Office)], [(3, oa 2 1 (eI .i64) s4.2), (5, .box (tc eOp x8))]⟩ ?_
  obtain ⟨x14, hx14, h⟩ := bind_some h
  refine DGo.step (x_index_own (d := 3) (L := s4.2) (f := (eI .i64)) (ti := ti40) (tj := ti2) (e := 2) (e' := 2) (m := 1) (k := .i64) tbok rfl hx14) ?_
  refine DGo.step (x_load_own (d := 3) (m := 1) (j := 0) (L := s4.2) (f := (eI .i64)) (ti := ti2) (e := 2) (v := vi x14) tbok rfl hx14) ?_
  refine DGo.ck tbok false 3 ⟨88, [(0, vl eOp aLog), (3, .own 3), (4, vi s4.1), (5, .ref 5 0), (62, vb (x8.Number != (w64 (x14 + 1))))], [(3, oa 2 1 (eI .i64) s4.2), (5, .box (tc eOp x8))]⟩ ?_
  refine DGo.nil (by kernel_rfl) ?_
  obtain rfl := inj h
  exact Le.sub0
  refine swp_cd h (fun h => ?_) fun h => ?_
  refine srk tbok ⟨88, [(2, vb false)], []⟩ ?_
  refine swp_ret ?_
  obtain rfl := inj h
  exact nx_r (q_br (q_rr (q_rr (q_br (q_rr (q_fr (f1 fv)))))))
  refine swp_skip ?_
  refine nx_n ?_
  refine swp_seq ?_
  refine srk tbok ⟨88, [(0, vl eOp aLog), (3, .own 3), (4, vi s4.1), (5, .ref 5 0), (6, vi 0)], [(3, oa 2 1 (eI .i64) s4.2), (5, .box (tc eOp x8))]⟩ ?_
  refine swp_seqE (r := v7) h (fun j17 => ⟨88, [(0, vl eOp aLog), (3, .own 3), (4, vi s4.1), (5, .ref 5 0)], [(3, oa 2 1 (eI .i64) s4.2), (5, .box (tc eOp x8))]⟩) (fun v18 h => ?_) (fun j17 h => ?_)
  refine swp_blk (a := v18) ?_
  refine swp_lpL (r := v18) (s := (0, ())) _ (fun s19 => ⟨88, [(0, vl eOp aLog), (3, .own 3), (4, vi s4.1), (5, .ref 5 0), (6, vi s19.1)], [(3, oa 2 1 (eI .i64) s4.2), (5, .box (tc eOp x8))]⟩) _ (Le.sub0) h (fun s19 v20 h => ?_)
  refine swp_seq ?_
  refine srk tbok ⟨88, [(0, vl eOp aLog), (3, .own 3), (4, vi s4.1), (5, .ref 5 0), (6, vi s19.1), (66, vb (decide (s19.1 < (s4.2.length : Int))))], [(3, oa 2 1 (eI .i64) s4.2), (5, .box (tc eOp x8))]⟩ ?_
  refine swp_cd h (fun h => ?_) fun h => ?_
  refine swp_skip ?_
  refine nx_n ?_
  refine swp_seq ?_
  refine swp_seqL (r := v20) h (fun j21 => ⟨88, [(0, vl eOp aLog), (3, .own 3), (4, vi s4.1), (5, .ref 5 0), (6, vi s19.1)], [(3, oa 2 1 (eI .i64) s4.2), (5, .box (tc eOp x8))]⟩) (fun v22 h => ?_) (fun j21 h => ?_)
  refine swp_blk (a := v22) ?_
  refine swp_seq ?_
  refine swp_dr mixed ?_
  refine DGo.ck tbok false 3 ⟨88, [(0, vl eOp aLog), (3, .own 3), (4, vi s4.1), (5, .ref 5 0), (6, vi s19.1), (70, vl (eI .i64) x8.Seen), (71, vi s19.1)], [(3, oa 2 1 (eI .i64) s4.2), (5, .box (tc eOp x8))]⟩ ?_
  obtain ⟨x23, hx23, h⟩ := bind_some h
  refine DGo.step (x_index (L := x8.Seen) (f := (eI .i64)) (ti := ti40) (tj := ti2) (e := 2) (k := .i64) tbok rfl hx23) ?_
  refine DGo.ck tbok false 3 ⟨88, [(0, vl eOp aLog), (3, .own 3), (4, vi s4.1), (5, .ref 5 0), (6, vi s19.1), (73, vi x23), (74, .own 3), (75, vi s19.1)], [(3, oa 2 1 (eI .i64) s4.2), (5, .box (tc eOp x8))]⟩ ?_
  obtain ⟨x24, hx24, h⟩ := bind_some h
  refine DGo.step (x_index_own (d := 3) (L := s4.2) (f := (eI .i64)) (ti := ti40) (tj := ti2) (e := 2) (e' := 2) (m := 1) (k := .i64) tbok rfl hx24) ?_
  refine DGo.step (x_load_own (d := 3) (m := 1) (j := 0) (L := s4.2) (f := (eI .i64)) (ti := ti2) (e := 2) (v := vi x24) tbok rfl hx24) ?_
  refine DGo.ck tbok false 1 ⟨88, [(0, vl eOp aLog), (3, .own 3), (4, vi s4.1), (5, .ref 5 0), (6, vi s19.1), (78, vb (decide (x23 > x24)))], [(3, oa 2 1 (eI .i64) s4.2), (5, .box (tc eOp x8))]⟩ ?_
  refine DGo.nx ?_
  refine swp_cd h (fun h => ?_) fun h => ?_
  refine srk tbok ⟨88, [(2, vb false)], []⟩ ?_
  refine swp_ret ?_
  obtain rfl := inj h
  exact q_br (q_rr (q_rr (q_br (q_rr (q_br (q_rr (q_rr (q_br (q_rr (q_fr (f1 fv)))))))))))
  refine swp_skip ?_
  obtain rfl := inj h
  exact q_bn (q_l (Le.sub0))
  refine swp_reg ?_
  refine SRun.ck tbok 3 ⟨88, [(0, vl eOp aLog), (3, .own 3), (4, vi s4.1), (5, .ref 5 0), (6, vi (w64 (s19.1 + 1)))], [(3, oa 2 1 (eI .i64) s4.2), (5, .box (tc eOp x8))]⟩ ?_
  refine SRun.nil ?_
  obtain rfl := inj h
  exact q_l (Le.sub0)
  refine swp_exit ?_
  obtain rfl := inj h
  exact nx_e (q_re (q_bh (q_l (Le.sub0))))
  refine swp_reg ?_
  refine SRun.ck tbok 5 ⟨88, [(0, vl eOp aLog), (3, .own 3), (4, vi s4.1), (79, .own 3), (81, vi x8.Office), (83, vi x8.Number)], [(3, oa 2 1 (eI .i64) s4.2)]⟩ ?_
  obtain ⟨x25, hx25, h⟩ := bind_some h
  refine SRun.ls (x_index_own (d := 3) (L := s4.2) (f := (eI .i64)) (ti := ti40) (tj := ti2) (e := 2) (e' := 2) (m := 1) (k := .i64) tbok rfl hx25) ?_
  refine SRun.estep (x_store_own (d := 3) (m := 1) (j := 0) (L := s4.2) (f := (eI .i64)) (x := x8.Number) (z := x25) (ti := ti2) (e := 2) (ts := [.int .i64 x8.Number]) (vs := [vi x8.Number]) (v := vi x8.Number) tbok rfl rfl hx25) ?_
  refine SRun.nil ?_
  obtain rfl := inj h
  exact q_bn (q_l (Le.sub0))
  refine swp_reg ?_
  refine SRun.ck tbok 3 ⟨88, [(0, vl eOp aLog), (3, .own 3), (4, vi (w64 (s4.1 + 1)))], [(3, oa 2 1 (eI .i64) j6)]⟩ ?_
  refine SRun.nil ?_
  obtain rfl := inj h
  exact q_l (Le.sub0)
  refine swp_exit ?_
  obtain rfl := inj h
  exact nx_e (q_re (q_bh (q_l (Le.sub0))))
  refine srk tbok ⟨88, [(2, vb (decide ((aLog.length : Int) ≤ 16)))], []⟩ ?_
  refine swp_ret ?_
  obtain rfl := inj h
  exact q_fr (f1 fv)
theorem ents29 : Ents Tryz.prog 29 := ents_of Tryz.func29 (by kernel_rfl) rfl
noncomputable def spec_l08Insert (aList : (List ByteArray)) (aS : ByteArray) : Option ((List ByteArray)) :=
  (((loop (fun (s3 : Int) => (((bif (decide (s3 < (aList.length : Int))) then ((at' aList s3).bind fun x5 => some (Op.bytesLess x5.toList aS.toList)) else some false)).bind fun (j6 : Bool) => (bif j6 then some (.inl (w64 (s3 + 1))) else some (.inr s3)))) 0)).bind fun (j1 : Int) => (((bif (decide (j1 < (aList.length : Int))) then ((at' aList j1).bind fun x8 => some (x8.toList == aS.toList)) else some false)).bind fun (j9 : Bool) => (bif j9 then some aList else ((part' aList 0 j1).bind fun x11 => ((app' ([] : List ByteArray) x11).bind fun x12 => ((app' x12 ([aS] : List ByteArray)).bind fun x13 => ((part' aList j1 (aList.length : Int)).bind fun x14 => ((app' x13 x14).bind fun x15 => some x15))))))))
theorem spec_l08Insert_run (aList : (List ByteArray)) (aS : ByteArray) (r : (List ByteArray)) (h : spec_l08Insert aList aS = some r) : SCall Tryz.prog 30 [.v (vl eS aList), .v (vs aS)] ⟨[.v (vl eS r)], [], true⟩ := by
  refine scall_in Tryz.func30 rfl [(.tmp 4)] rfl (fun r => ⟨[.v (vl eS r)], [], true⟩) (r := r) ?_
  unfold spec_l08Insert at h
  refine srk tbok ⟨45, [(0, vl eS aList), (1, vs aS)], []⟩ ?_
  refine srk tbok ⟨45, [(0, vl eS aList), (1, vs aS), (5, vi 0)], []⟩ ?_
  refine swp_seq ?_
  refine swp_seqJ h (fun j1 => ⟨45, [(0, vl eS aList), (1, vs aS), (5, vi j1)], []⟩) (fun v2 h => ?_) (fun j1 h => ?_)
  refine swp_blk (a := v2) ?_
  refine swp_lpL (r := v2) (s := 0) _ (fun s3 => ⟨45, [(0, vl eS aList), (1, vs aS), (5, vi s3)], []⟩) _ (Le.sub0) h (fun s3 v4 h => ?_)
  refine swp_seq ?_
  refine swp_seq ?_
  refine swp_regJ h (fun j6 => ⟨45, [(0, vl eS aList), (1, vs aS), (5, vi s3), (17, vb j6)], []⟩) (fun v7 h => ?_) (fun j6 h => ?_)
  refine SRun.ck tbok 5 ⟨45, [(0, vl eS aList), (1, vs aS), (5, vi s3), (10, vb (decide (s3 < (aList.length : Int))))], []⟩ ?_
  refine SRun.cu [(10, fun b => b)] h (fun h => ?_) fun h => ?_
  refine SRun.ck tbok 2 ⟨45, [(0, vl eS aList), (1, vs aS), (5, vi s3), (10, vb true), (11, vl eS aList), (12, vi s3)], []⟩ ?_
  obtain ⟨x5, hx5, h⟩ := bind_some h
  refine SRun.ls (x_index (L := aList) (f := eS) (ti := ti24) (tj := ti9) (e := 9) (k := .i64) tbok rfl hx5) ?_
  refine SRun.ck tbok 4 ⟨45, [(0, vl eS aList), (1, vs aS), (5, vi s3), (17, vb (Op.bytesLess x5.toList aS.toList))], []⟩ ?_
  refine SRun.nil ?_
  obtain rfl := inj h
  exact Le.sub0
  refine SRun.ck tbok 7 ⟨45, [(0, vl eS aList), (1, vs aS), (5, vi s3), (17, vb false)], []⟩ ?_
  refine SRun.nil ?_
  obtain rfl := inj h
  exact Le.sub0
  refine swp_cd h (fun h => ?_) fun h => ?_
  refine swp_skip ?_
  refine nx_n ?_
  refine swp_blk (a := v4) ?_
  refine swp_reg ?_
  refine SRun.ck tbok 3 ⟨45, [(0, vl eS aList), (1, vs aS), (5, vi (w64 (s3 + 1)))], []⟩ ?_
  refine SRun.nil ?_
  obtain rfl := inj h
  exact q_bn (q_l (Le.sub0))
  refine swp_exit ?_
  obtain rfl := inj h
  exact nx_e (q_re (q_bh (q_j (Le.sub0))))
  refine swp_seq ?_
  refine swp_seq ?_
  refine swp_regJ h (fun j9 => ⟨45, [(0, vl eS aList), (1, vs aS), (5, vi j1), (31, vb j9)], []⟩) (fun v10 h => ?_) (fun j9 h => ?_)
  refine SRun.ck tbok 5 ⟨45, [(0, vl eS aList), (1, vs aS), (5, vi j1), (24, vb (decide (j1 < (aList.length : Int))))], []⟩ ?_
  refine SRun.cu [(24, fun b => b)] h (fun h => ?_) fun h => ?_
  refine SRun.ck tbok 2 ⟨45, [(0, vl eS aList), (1, vs aS), (5, vi j1), (24, vb true), (25, vl eS aList), (26, vi j1)], []⟩ ?_
  obtain ⟨x8, hx8, h⟩ := bind_some h
  refine SRun.ls (x_index (L := aList) (f := eS) (ti := ti24) (tj := ti9) (e := 9) (k := .i64) tbok rfl hx8) ?_
  refine SRun.ck tbok 4 ⟨45, [(0, vl eS aList), (1, vs aS), (5, vi j1), (31, vb (x8.toList == aS.toList))], []⟩ ?_
  refine SRun.nil ?_
  obtain rfl := inj h
  exact Le.sub0
  refine SRun.ck tbok 7 ⟨45, [(0, vl eS aList), (1, vs aS), (5, vi j1), (31, vb false)], []⟩ ?_
  refine SRun.nil ?_
  obtain rfl := inj h
  exact Le.sub0
  refine swp_cd h (fun h => ?_) fun h => ?_
  refine srk tbok ⟨45, [(4, vl eS aList)], []⟩ ?_
  refine swp_ret ?_
  obtain rfl := inj h
  exact nx_r (q_fr (f1 ft))
  refine swp_skip ?_
  refine nx_n ?_
  refine swp_seq ?_
  obtain ⟨x11, hx11, h⟩ := bind_some h
  obtain ⟨x12, hx12, h⟩ := bind_some h
  obtain ⟨x13, hx13, h⟩ := bind_some h
  obtain ⟨x14, hx14, h⟩ := bind_some h
  obtain ⟨x15, hx15, h⟩ := bind_some h
  refine swp_dr mixed ?_
  refine DGo.enum (σE := ⟨45, [(4, .own 44)], [(44, oa 9 1 eS x15)]⟩) (n := 13) (L0 := #[false, false, false, false, false, false, false, false, false, false, false, false, false]) (by kernel_rfl) (by kernel_rfl) (fun K hk => ?_) ?_
  refine DE.share (fuel := 0) (L := #[true, true, true, true, true, true, true, true, true, true, true, true, true]) (σ := ⟨45, [(4, .own 44)], [(44, oa 9 1 eS x15)]⟩) ?_ (fun d28 => ?_)
  exact DE.done (by kernel_rfl) hk
  refine DE.share (fuel := 1) (L := #[true, true, true, true, true, true, true, true, true, true, true, true, false]) (σ := ⟨45, [(44, .own 44)], [(44, oa 9 1 eS x15)]⟩) ?_ (fun d27 => ?_)
  exact DE.take (i := 12) (L' := #[true, true, true, true, true, true, true, true, true, true, true, true, true]) rfl (.inr rfl) rfl (by kernel_rfl) (by kernel_rfl) (by kernel_rfl) (EStep.le (EStep.ofN2 tbok (σ' := ⟨45, [(4, .own 44), (44, .own 44)], [(44, oa 9 1 eS x15)]⟩) (by kernel_rfl)) Le.sub0) (by kernel_rfl) d28
  refine DE.share (fuel := 2) (L := #[true, true, true, true, true, true, true, true, true, true, true, false, false]) (σ := ⟨45, [(40, .own 40), (43, vl eS x14)], [(40, oa 9 1 eS x13)]⟩) ?_ (fun d26 => ?_)
  exact DE.all [11] (by kernel_rfl) (by simp) (List.forall_mem_cons.2 ⟨DEs.mk (i := 11) (L' := #[true, true, true, true, true, true, true, true, true, true, true, true, false]) rfl (EStep.le (x_append (f := eS) (t := 24) (ti := ti24) (tj := ti9) (zs := [.string (ByteArray.mk #[])]) (e := 9) (m := 1) (d := 40) (xv := vl eS x14) hx15 tbok rfl rfl rfl rfl (src_e (fun _ => rfl))) Le.sub0) (by kernel_rfl) d27, (fun _ h => absurd h List.not_mem_nil)⟩)
  refine DE.share (fuel := 3) (L := #[true, true, true, true, true, true, true, false, true, true, true, false, false]) (σ := ⟨45, [(37, .own 37), (39, .own 39), (43, vl eS x14)], [(37, oa 9 1 eS x12), (39, oa 9 1 eS ([aS] : List ByteArray))]⟩) ?_ (fun d25 => ?_)
  exact DE.all [7] (by kernel_rfl) (by simp) (List.forall_mem_cons.2 ⟨DEs.mk (i := 7) (L' := #[true, true, true, true, true, true, true, true, true, true, true, false, false]) rfl (EStep.le (x_append (f := eS) (t := 24) (ti := ti24) (tj := ti9) (zs := [.string (ByteArray.mk #[])]) (e := 9) (m := 1) (d := 37) (xv := .own 39) hx13 tbok rfl rfl rfl rfl (x_src_o (e := 9))) Le.sub0) (by kernel_rfl) d26, (fun _ h => absurd h List.not_mem_nil)⟩)
  refine DE.share (fuel := 3) (L := #[true, true, true, true, true, true, true, true, true, true, false, false, false]) (σ := ⟨45, [(40, .own 40), (41, vl eS aList), (42, vi j1)], [(40, oa 9 1 eS x13)]⟩) ?_ (fun d24 => ?_)
  exact DE.all [10] (by kernel_rfl) (by simp) (List.forall_mem_cons.2 ⟨DEs.mk (i := 10) (L' := #[true, true, true, true, true, true, true, true, true, true, true, false, false]) rfl (EStep.le (EStep.ofL (x_slice (m := 1) (f := eS) (ti := ti24) (tj := ti9) (e := 9) hx14 (fun _ => rfl) tbok rfl) (by kernel_rfl)) Le.sub0) (by kernel_rfl) d26, (fun _ h => absurd h List.not_mem_nil)⟩)
  refine DE.share (fuel := 4) (L := #[true, true, true, true, false, true, true, false, true, true, true, false, false]) (σ := ⟨45, [(33, .own 33), (36, vl eS x11), (39, .own 39), (43, vl eS x14)], [(33, oa 9 1 eS ([] : List ByteArray)), (39, oa 9 1 eS ([aS] : List ByteArray))]⟩) ?_ (fun d23 => ?_)
  exact DE.all [4] (by kernel_rfl) (by simp) (List.forall_mem_cons.2 ⟨DEs.mk (i := 4) (L' := #[true, true, true, true, true, true, true, false, true, true, true, false, false]) rfl (EStep.le (x_append (f := eS) (t := 24) (ti := ti24) (tj := ti9) (zs := [.string (ByteArray.mk #[])]) (e := 9) (m := 1) (d := 33) (xv := vl eS x11) hx12 tbok rfl rfl rfl rfl (src_e (fun _ => rfl))) Le.sub0) (by kernel_rfl) d25, (fun _ h => absurd h List.not_mem_nil)⟩)
  refine DE.share (fuel := 4) (L := #[true, true, true, true, true, true, false, false, true, true, true, false, false]) (σ := ⟨45, [(37, .own 37), (38, vs aS), (43, vl eS x14)], [(37, oa 9 1 eS x12)]⟩) ?_ (fun d22 => ?_)
  exact DE.all [6] (by kernel_rfl) (by simp) (List.forall_mem_cons.2 ⟨DEs.mk (i := 6) (L' := #[true, true, true, true, true, true, true, false, true, true, true, false, false]) rfl (EStep.le (EStep.ofN2 tbok (σ' := ⟨45, [(39, .own 39), (37, .own 37), (38, vs aS), (43, vl eS x14)], [(39, oa 9 1 eS ([aS] : List ByteArray)), (37, oa 9 1 eS x12)]⟩) (by kernel_rfl)) Le.sub0) (by kernel_rfl) d25, (fun _ h => absurd h List.not_mem_nil)⟩)
  refine DE.share (fuel := 4) (L := #[true, true, true, true, true, true, true, false, true, true, false, false, false]) (σ := ⟨45, [(37, .own 37), (39, .own 39), (41, vl eS aList), (42, vi j1)], [(37, oa 9 1 eS x12), (39, oa 9 1 eS ([aS] : List ByteArray))]⟩) ?_ (fun d21 => ?_)
  exact DE.all [7, 10] (by kernel_rfl) (by simp) (List.forall_mem_cons.2 ⟨DEs.mk (i := 7) (L' := #[true, true, true, true, true, true, true, true, true, true, false, false, false]) rfl (EStep.le (x_append (f := eS) (t := 24) (ti := ti24) (tj := ti9) (zs := [.string (ByteArray.mk #[])]) (e := 9) (m := 1) (d := 37) (xv := .own 39) hx13 tbok rfl rfl rfl rfl (x_src_o (e := 9))) Le.sub0) (by kernel_rfl) d24, (List.forall_mem_cons.2 ⟨DEs.mk (i := 10) (L' := #[true, true, true, true, true, true, true, false, true, true, true, false, false]) rfl (EStep.le (EStep.ofL (x_slice (m := 1) (f := eS) (ti := ti24) (tj := ti9) (e := 9) hx14 (fun _ => rfl) tbok rfl) (by kernel_rfl)) Le.sub0) (by kernel_rfl) d25, (fun _ h => absurd h List.not_mem_nil)⟩)⟩)
  refine DE.share (fuel := 5) (L := #[false, true, true, true, false, true, true, false, true, true, true, false, false]) (σ := ⟨45, [(36, vl eS x11), (39, .own 39), (43, vl eS x14)], [(39, oa 9 1 eS ([aS] : List ByteArray))]⟩) ?_ (fun d20 => ?_)
  exact DE.all [0] (by kernel_rfl) (by simp) (List.forall_mem_cons.2 ⟨DEs.mk (i := 0) (L' := #[true, true, true, true, false, true, true, false, true, true, true, false, false]) rfl (EStep.ofN2 tbok (σ' := ⟨45, [(33, .own 33), (36, vl eS x11), (39, .own 39), (43, vl eS x14)], [(33, oa 9 1 eS ([] : List ByteArray)), (39, oa 9 1 eS ([aS] : List ByteArray))]⟩) (by kernel_rfl)) (by kernel_rfl) d23, (fun _ h => absurd h List.not_mem_nil)⟩)
  refine DE.share (fuel := 5) (L := #[true, true, true, false, false, true, true, false, true, true, true, false, false]) (σ := ⟨45, [(33, .own 33), (34, vl eS aList), (35, vi j1), (39, .own 39), (43, vl eS x14)], [(33, oa 9 1 eS ([] : List ByteArray)), (39, oa 9 1 eS ([aS] : List ByteArray))]⟩) ?_ (fun d19 => ?_)
  exact DE.all [3] (by kernel_rfl) (by simp) (List.forall_mem_cons.2 ⟨DEs.mk (i := 3) (L' := #[true, true, true, true, false, true, true, false, true, true, true, false, false]) rfl (EStep.le (EStep.ofL (x_slice (m := 1) (f := eS) (ti := ti24) (tj := ti9) (e := 9) hx11 (fun _ => rfl) tbok rfl) (by kernel_rfl)) Le.sub0) (by kernel_rfl) d23, (fun _ h => absurd h List.not_mem_nil)⟩)
  refine DE.share (fuel := 5) (L := #[true, true, true, true, false, true, false, false, true, true, true, false, false]) (σ := ⟨45, [(33, .own 33), (36, vl eS x11), (38, vs aS), (43, vl eS x14)], [(33, oa 9 1 eS ([] : List ByteArray))]⟩) ?_ (fun d18 => ?_)
  exact DE.all [4, 6] (by kernel_rfl) (by simp) (List.forall_mem_cons.2 ⟨DEs.mk (i := 4) (L' := #[true, true, true, true, true, true, false, false, true, true, true, false, false]) rfl (EStep.le (x_append (f := eS) (t := 24) (ti := ti24) (tj := ti9) (zs := [.string (ByteArray.mk #[])]) (e := 9) (m := 1) (d := 33) (xv := vl eS x11) hx12 tbok rfl rfl rfl rfl (src_e (fun _ => rfl))) Le.sub0) (by kernel_rfl) d22, (List.forall_mem_cons.2 ⟨DEs.mk (i := 6) (L' := #[true, true, true, true, false, true, true, false, true, true, true, false, false]) rfl (EStep.le (EStep.ofN2 tbok (σ' := ⟨45, [(39, .own 39), (33, .own 33), (36, vl eS x11), (38, vs aS), (43, vl eS x14)], [(39, oa 9 1 eS ([aS] : List ByteArray)), (33, oa 9 1 eS ([] : List ByteArray))]⟩) (by kernel_rfl)) Le.sub0) (by kernel_rfl) d23, (fun _ h => absurd h List.not_mem_nil)⟩)⟩)
  refine DE.share (fuel := 5) (L := #[true, true, true, true, false, true, true, false, true, true, false, false, false]) (σ := ⟨45, [(33, .own 33), (36, vl eS x11), (39, .own 39), (41, vl eS aList), (42, vi j1)], [(33, oa 9 1 eS ([] : List ByteArray)), (39, oa 9 1 eS ([aS] : List ByteArray))]⟩) ?_ (fun d17 => ?_)
  exact DE.all [4, 10] (by kernel_rfl) (by simp) (List.forall_mem_cons.2 ⟨DEs.mk (i := 4) (L' := #[true, true, true, true, true, true, true, false, true, true, false, false, false]) rfl (EStep.le (x_append (f := eS) (t := 24) (ti := ti24) (tj := ti9) (zs := [.string (ByteArray.mk #[])]) (e := 9) (m := 1) (d := 33) (xv := vl eS x11) hx12 tbok rfl rfl rfl rfl (src_e (fun _ => rfl))) Le.sub0) (by kernel_rfl) d21, (List.forall_mem_cons.2 ⟨DEs.mk (i := 10) (L' := #[true, true, true, true, false, true, true, false, true, true, true, false, false]) rfl (EStep.le (EStep.ofL (x_slice (m := 1) (f := eS) (ti := ti24) (tj := ti9) (e := 9) hx14 (fun _ => rfl) tbok rfl) (by kernel_rfl)) Le.sub0) (by kernel_rfl) d23, (fun _ h => absurd h List.not_mem_nil)⟩)⟩)
  refine DE.share (fuel := 5) (L := #[true, true, true, true, true, true, false, false, true, true, false, false, false]) (σ := ⟨45, [(37, .own 37), (38, vs aS), (41, vl eS aList), (42, vi j1)], [(37, oa 9 1 eS x12)]⟩) ?_ (fun d16 => ?_)
  exact DE.all [6, 10] (by kernel_rfl) (by simp) (List.forall_mem_cons.2 ⟨DEs.mk (i := 6) (L' := #[true, true, true, true, true, true, true, false, true, true, false, false, false]) rfl (EStep.le (EStep.ofN2 tbok (σ' := ⟨45, [(39, .own 39), (37, .own 37), (38, vs aS), (41, vl eS aList), (42, vi j1)], [(39, oa 9 1 eS ([aS] : List ByteArray)), (37, oa 9 1 eS x12)]⟩) (by kernel_rfl)) Le.sub0) (by kernel_rfl) d21, (List.forall_mem_cons.2 ⟨DEs.mk (i := 10) (L' := #[true, true, true, true, true, true, false, false, true, true, true, false, false]) rfl (EStep.le (EStep.ofL (x_slice (m := 1) (f := eS) (ti := ti24) (tj := ti9) (e := 9) hx14 (fun _ => rfl) tbok rfl) (by kernel_rfl)) Le.sub0) (by kernel_rfl) d22, (fun _ h => absurd h List.not_mem_nil)⟩)⟩)
  refine DE.share (fuel := 6) (L := #[false, true, true, false, false, true, true, false, true, true, true, false, false]) (σ := ⟨45, [(34, vl eS aList), (35, vi j1), (39, .own 39), (43, vl eS x14)], [(39, oa 9 1 eS ([aS] : List ByteArray))]⟩) ?_ (fun d15 => ?_)
  exact DE.all [0, 3] (by kernel_rfl) (by simp) (List.forall_mem_cons.2 ⟨DEs.mk (i := 0) (L' := #[true, true, true, false, false, true, true, false, true, true, true, false, false]) rfl (EStep.ofN2 tbok (σ' := ⟨45, [(33, .own 33), (34, vl eS aList), (35, vi j1), (39, .own 39), (43, vl eS x14)], [(33, oa 9 1 eS ([] : List ByteArray)), (39, oa 9 1 eS ([aS] : List ByteArray))]⟩) (by kernel_rfl)) (by kernel_rfl) d19, (List.forall_mem_cons.2 ⟨DEs.mk (i := 3) (L' := #[false, true, true, true, false, true, true, false, true, true, true, false, false]) rfl (EStep.le (EStep.ofL (x_slice (m := 1) (f := eS) (ti := ti24) (tj := ti9) (e := 9) hx11 (fun _ => rfl) tbok rfl) (by kernel_rfl)) Le.sub0) (by kernel_rfl) d20, (fun _ h => absurd h List.not_mem_nil)⟩)⟩)
  refine DE.share (fuel := 6) (L := #[false, true, true, true, false, true, false, false, true, true, true, false, false]) (σ := ⟨45, [(36, vl eS x11), (38, vs aS), (43, vl eS x14)], []⟩) ?_ (fun d14 => ?_)
  exact DE.all [0, 6] (by kernel_rfl) (by simp) (List.forall_mem_cons.2 ⟨DEs.mk (i := 0) (L' := #[true, true, true, true, false, true, false, false, true, true, true, false, false]) rfl (EStep.ofN2 tbok (σ' := ⟨45, [(33, .own 33), (36, vl eS x11), (38, vs aS), (43, vl eS x14)], [(33, oa 9 1 eS ([] : List ByteArray))]⟩) (by kernel_rfl)) (by kernel_rfl) d18, (List.forall_mem_cons.2 ⟨DEs.mk (i := 6) (L' := #[false, true, true, true, false, true, true, false, true, true, true, false, false]) rfl (EStep.le (EStep.ofN2 tbok (σ' := ⟨45, [(39, .own 39), (36, vl eS x11), (38, vs aS), (43, vl eS x14)], [(39, oa 9 1 eS ([aS] : List ByteArray))]⟩) (by kernel_rfl)) Le.sub0) (by kernel_rfl) d20, (fun _ h => absurd h List.not_mem_nil)⟩)⟩)
  refine DE.share (fuel := 6) (L := #[false, true, true, true, false, true, true, false, true, true, false, false, false]) (σ := ⟨45, [(36, vl eS x11), (39, .own 39), (41, vl eS aList), (42, vi j1)], [(39, oa 9 1 eS ([aS] : List ByteArray))]⟩) ?_ (fun d13 => ?_)
  exact DE.all [0, 10] (by kernel_rfl) (by simp) (List.forall_mem_cons.2 ⟨DEs.mk (i := 0) (L' := #[true, true, true, true, false, true, true, false, true, true, false, false, false]) rfl (EStep.ofN2 tbok (σ' := ⟨45, [(33, .own 33), (36, vl eS x11), (39, .own 39), (41, vl eS aList), (42, vi j1)], [(33, oa 9 1 eS ([] : List ByteArray)), (39, oa 9 1 eS ([aS] : List ByteArray))]⟩) (by kernel_rfl)) (by kernel_rfl) d17, (List.forall_mem_cons.2 ⟨DEs.mk (i := 10) (L' := #[false, true, true, true, false, true, true, false, true, true, true, false, false]) rfl (EStep.le (EStep.ofL (x_slice (m := 1) (f := eS) (ti := ti24) (tj := ti9) (e := 9) hx14 (fun _ => rfl) tbok rfl) (by kernel_rfl)) Le.sub0) (by kernel_rfl) d20, (fun _ h => absurd h List.not_mem_nil)⟩)⟩)
  refine DE.share (fuel := 6) (L := #[true, true, true, false, false, true, false, false, true, true, true, false, false]) (σ := ⟨45, [(33, .own 33), (34, vl eS aList), (35, vi j1), (38, vs aS), (43, vl eS x14)], [(33, oa 9 1 eS ([] : List ByteArray))]⟩) ?_ (fun d12 => ?_)
  exact DE.all [3, 6] (by kernel_rfl) (by simp) (List.forall_mem_cons.2 ⟨DEs.mk (i := 3) (L' := #[true, true, true, true, false, true, false, false, true, true, true, false, false]) rfl (EStep.le (EStep.ofL (x_slice (m := 1) (f := eS) (ti := ti24) (tj := ti9) (e := 9) hx11 (fun _ => rfl) tbok rfl) (by kernel_rfl)) Le.sub0) (by kernel_rfl) d18, (List.forall_mem_cons.2 ⟨DEs.mk (i := 6) (L' := #[true, true, true, false, false, true, true, false, true, true, true, false, false]) rfl (EStep.le (EStep.ofN2 tbok (σ' := ⟨45, [(39, .own 39), (33, .own 33), (34, vl eS aList), (35, vi j1), (38, vs aS), (43, vl eS x14)], [(39, oa 9 1 eS ([aS] : List ByteArray)), (33, oa 9 1 eS ([] : List ByteArray))]⟩) (by kernel_rfl)) Le.sub0) (by kernel_rfl) d19, (fun _ h => absurd h List.not_mem_nil)⟩)⟩)
  refine DE.share (fuel := 6) (L := #[true, true, true, false, false, true, true, false, true, true, false, false, false]) (σ := ⟨45, [(33, .own 33), (34, vl eS aList), (35, vi j1), (39, .own 39), (41, vl eS aList), (42, vi j1)], [(33, oa 9 1 eS ([] : List ByteArray)), (39, oa 9 1 eS ([aS] : List ByteArray))]⟩) ?_ (fun d11 => ?_)
  exact DE.all [3, 10] (by kernel_rfl) (by simp) (List.forall_mem_cons.2 ⟨DEs.mk (i := 3) (L' := #[true, true, true, true, false, true, true, false, true, true, false, false, false]) rfl (EStep.le (EStep.ofL (x_slice (m := 1) (f := eS) (ti := ti24) (tj := ti9) (e := 9) hx11 (fun _ => rfl) tbok rfl) (by kernel_rfl)) Le.sub0) (by kernel_rfl) d17, (List.forall_mem_cons.2 ⟨DEs.mk (i := 10) (L' := #[true, true, true, false, false, true, true, false, true, true, true, false, false]) rfl (EStep.le (EStep.ofL (x_slice (m := 1) (f := eS) (ti := ti24) (tj := ti9) (e := 9) hx14 (fun _ => rfl) tbok rfl) (by kernel_rfl)) Le.sub0) (by kernel_rfl) d19, (fun _ h => absurd h List.not_mem_nil)⟩)⟩)
  refine DE.share (fuel := 6) (L := #[true, true, true, true, false, true, false, false, true, true, false, false, false]) (σ := ⟨45, [(33, .own 33), (36, vl eS x11), (38, vs aS), (41, vl eS aList), (42, vi j1)], [(33, oa 9 1 eS ([] : List ByteArray))]⟩) ?_ (fun d10 => ?_)
  exact DE.all [4, 6, 10] (by kernel_rfl) (by simp) (List.forall_mem_cons.2 ⟨DEs.mk (i := 4) (L' := #[true, true, true, true, true, true, false, false, true, true, false, false, false]) rfl (EStep.le (x_append (f := eS) (t := 24) (ti := ti24) (tj := ti9) (zs := [.string (ByteArray.mk #[])]) (e := 9) (m := 1) (d := 33) (xv := vl eS x11) hx12 tbok rfl rfl rfl rfl (src_e (fun _ => rfl))) Le.sub0) (by kernel_rfl) d16, (List.forall_mem_cons.2 ⟨DEs.mk (i := 6) (L' := #[true, true, true, true, false, true, true, false, true, true, false, false, false]) rfl (EStep.le (EStep.ofN2 tbok (σ' := ⟨45, [(39, .own 39), (33, .own 33), (36, vl eS x11), (38, vs aS), (41, vl eS aList), (42, vi j1)], [(39, oa 9 1 eS ([aS] : List ByteArray)), (33, oa 9 1 eS ([] : List ByteArray))]⟩) (by kernel_rfl)) Le.sub0) (by kernel_rfl) d17, (List.forall_mem_cons.2 ⟨DEs.mk (i := 10) (L' := #[true, true, true, true, false, true, false, false, true, true, true, false, false]) rfl (EStep.le (EStep.ofL (x_slice (m := 1) (f := eS) (ti := ti24) (tj := ti9) (e := 9) hx14 (fun _ => rfl) tbok rfl) (by kernel_rfl)) Le.sub0) (by kernel_rfl) d18, (fun _ h => absurd h List.not_mem_nil)⟩)⟩)⟩)
  refine DE.share (fuel := 7) (L := #[false, true, true, false, false, true, false, false, true, true, true, false, false]) (σ := ⟨45, [(34, vl eS aList), (35, vi j1), (38, vs aS), (43, vl eS x14)], []⟩) ?_ (fun d9 => ?_)
  exact DE.all [0, 3, 6] (by kernel_rfl) (by simp) (List.forall_mem_cons.2 ⟨DEs.mk (i := 0) (L' := #[true, true, true, false, false, true, false, false, true, true, true, false, false]) rfl (EStep.ofN2 tbok (σ' := ⟨45, [(33, .own 33), (34, vl eS aList), (35, vi j1), (38, vs aS), (43, vl eS x14)], [(33, oa 9 1 eS ([] : List ByteArray))]⟩) (by kernel_rfl)) (by kernel_rfl) d12, (List.forall_mem_cons.2 ⟨DEs.mk (i := 3) (L' := #[false, true, true, true, false, true, false, false, true, true, true, false, false]) rfl (EStep.le (EStep.ofL (x_slice (m := 1) (f := eS) (ti := ti24) (tj := ti9) (e := 9) hx11 (fun _ => rfl) tbok rfl) (by kernel_rfl)) Le.sub0) (by kernel_rfl) d14, (List.forall_mem_cons.2 ⟨DEs.mk (i := 6) (L' := #[false, true, true, false, false, true, true, false, true, true, true, false, false]) rfl (EStep.le (EStep.ofN2 tbok (σ' := ⟨45, [(39, .own 39), (34, vl eS aList), (35, vi j1), (38, vs aS), (43, vl eS x14)], [(39, oa 9 1 eS ([aS] : List ByteArray))]⟩) (by kernel_rfl)) Le.sub0) (by kernel_rfl) d15, (fun _ h => absurd h List.not_mem_nil)⟩)⟩)⟩)
  refine DE.share (fuel := 7) (L := #[false, true, true, false, false, true, true, false, true, true, false, false, false]) (σ := ⟨45, [(34, vl eS aList), (35, vi j1), (39, .own 39), (41, vl eS aList), (42, vi j1)], [(39, oa 9 1 eS ([aS] : List ByteArray))]⟩) ?_ (fun d8 => ?_)
  exact DE.all [0, 3, 10] (by kernel_rfl) (by simp) (List.forall_mem_cons.2 ⟨DEs.mk (i := 0) (L' := #[true, true, true, false, false, true, true, false, true, true, false, false, false]) rfl (EStep.ofN2 tbok (σ' := ⟨45, [(33, .own 33), (34, vl eS aList), (35, vi j1), (39, .own 39), (41, vl eS aList), (42, vi j1)], [(33, oa 9 1 eS ([] : List ByteArray)), (39, oa 9 1 eS ([aS] : List ByteArray))]⟩) (by kernel_rfl)) (by kernel_rfl) d11, (List.forall_mem_cons.2 ⟨DEs.mk (i := 3) (L' := #[false, true, true, true, false, true, true, false, true, true, false, false, false]) rfl (EStep.le (EStep.ofL (x_slice (m := 1) (f := eS) (ti := ti24) (tj := ti9) (e := 9) hx11 (fun _ => rfl) tbok rfl) (by kernel_rfl)) Le.sub0) (by kernel_rfl) d13, (List.forall_mem_cons.2 ⟨DEs.mk (i := 10) (L' := #[false, true, true, false, false, true, true, false, true, true, true, false, false]) rfl (EStep.le (EStep.ofL (x_slice (m := 1) (f := eS) (ti := ti24) (tj := ti9) (e := 9) hx14 (fun _ => rfl) tbok rfl) (by kernel_rfl)) Le.sub0) (by kernel_rfl) d15, (fun _ h => absurd h List.not_mem_nil)⟩)⟩)⟩)
  refine DE.share (fuel := 7) (L := #[false, true, true, true, false, true, false, false, true, true, false, false, false]) (σ := ⟨45, [(36, vl eS x11), (38, vs aS), (41, vl eS aList), (42, vi j1)], []⟩) ?_ (fun d7 => ?_)
  exact DE.all [0, 6, 10] (by kernel_rfl) (by simp) (List.forall_mem_cons.2 ⟨DEs.mk (i := 0) (L' := #[true, true, true, true, false, true, false, false, true, true, false, false, false]) rfl (EStep.ofN2 tbok (σ' := ⟨45, [(33, .own 33), (36, vl eS x11), (38, vs aS), (41, vl eS aList), (42, vi j1)], [(33, oa 9 1 eS ([] : List ByteArray))]⟩) (by kernel_rfl)) (by kernel_rfl) d10, (List.forall_mem_cons.2 ⟨DEs.mk (i := 6) (L' := #[false, true, true, true, false, true, true, false, true, true, false, false, false]) rfl (EStep.le (EStep.ofN2 tbok (σ' := ⟨45, [(39, .own 39), (36, vl eS x11), (38, vs aS), (41, vl eS aList), (42, vi j1)], [(39, oa 9 1 eS ([aS] : List ByteArray))]⟩) (by kernel_rfl)) Le.sub0) (by kernel_rfl) d13, (List.forall_mem_cons.2 ⟨DEs.mk (i := 10) (L' := #[false, true, true, true, false, true, false, false, true, true, true, false, false]) rfl (EStep.le (EStep.ofL (x_slice (m := 1) (f := eS) (ti := ti24) (tj := ti9) (e := 9) hx14 (fun _ => rfl) tbok rfl) (by kernel_rfl)) Le.sub0) (by kernel_rfl) d14, (fun _ h => absurd h List.not_mem_nil)⟩)⟩)⟩)
  refine DE.share (fuel := 7) (L := #[true, true, true, false, false, true, false, false, true, true, false, false, false]) (σ := ⟨45, [(33, .own 33), (34, vl eS aList), (35, vi j1), (38, vs aS), (41, vl eS aList), (42, vi j1)], [(33, oa 9 1 eS ([] : List ByteArray))]⟩) ?_ (fun d6 => ?_)
  exact DE.all [3, 6, 10] (by kernel_rfl) (by simp) (List.forall_mem_cons.2 ⟨DEs.mk (i := 3) (L' := #[true, true, true, true, false, true, false, false, true, true, false, false, false]) rfl (EStep.le (EStep.ofL (x_slice (m := 1) (f := eS) (ti := ti24) (tj := ti9) (e := 9) hx11 (fun _ => rfl) tbok rfl) (by kernel_rfl)) Le.sub0) (by kernel_rfl) d10, (List.forall_mem_cons.2 ⟨DEs.mk (i := 6) (L' := #[true, true, true, false, false, true, true, false, true, true, false, false, false]) rfl (EStep.le (EStep.ofN2 tbok (σ' := ⟨45, [(39, .own 39), (33, .own 33), (34, vl eS aList), (35, vi j1), (38, vs aS), (41, vl eS aList), (42, vi j1)], [(39, oa 9 1 eS ([aS] : List ByteArray)), (33, oa 9 1 eS ([] : List ByteArray))]⟩) (by kernel_rfl)) Le.sub0) (by kernel_rfl) d11, (List.forall_mem_cons.2 ⟨DEs.mk (i := 10) (L' := #[true, true, true, false, false, true, false, false, true, true, true, false, false]) rfl (EStep.le (EStep.ofL (x_slice (m := 1) (f := eS) (ti := ti24) (tj := ti9) (e := 9) hx14 (fun _ => rfl) tbok rfl) (by kernel_rfl)) Le.sub0) (by kernel_rfl) d12, (fun _ h => absurd h List.not_mem_nil)⟩)⟩)⟩)
  refine DE.share (fuel := 8) (L := #[false, true, true, false, false, true, false, false, true, true, false, false, false]) (σ := ⟨45, [(34, vl eS aList), (35, vi j1), (38, vs aS), (41, vl eS aList), (42, vi j1)], []⟩) ?_ (fun d5 => ?_)
  exact DE.all [0, 3, 6, 10] (by kernel_rfl) (by simp) (List.forall_mem_cons.2 ⟨DEs.mk (i := 0) (L' := #[true, true, true, false, false, true, false, false, true, true, false, false, false]) rfl (EStep.ofN2 tbok (σ' := ⟨45, [(33, .own 33), (34, vl eS aList), (35, vi j1), (38, vs aS), (41, vl eS aList), (42, vi j1)], [(33, oa 9 1 eS ([] : List ByteArray))]⟩) (by kernel_rfl)) (by kernel_rfl) d6, (List.forall_mem_cons.2 ⟨DEs.mk (i := 3) (L' := #[false, true, true, true, false, true, false, false, true, true, false, false, false]) rfl (EStep.le (EStep.ofL (x_slice (m := 1) (f := eS) (ti := ti24) (tj := ti9) (e := 9) hx11 (fun _ => rfl) tbok rfl) (by kernel_rfl)) Le.sub0) (by kernel_rfl) d7, (List.forall_mem_cons.2 ⟨DEs.mk (i := 6) (L' := #[false, true, true, false, false, true, true, false, true, true, false, false, false]) rfl (EStep.le (EStep.ofN2 tbok (σ' := ⟨45, [(39, .own 39), (34, vl eS aList), (35, vi j1), (38, vs aS), (41, vl eS aList), (42, vi j1)], [(39, oa 9 1 eS ([aS] : List ByteArray))]⟩) (by kernel_rfl)) Le.sub0) (by kernel_rfl) d8, (List.forall_mem_cons.2 ⟨DEs.mk (i := 10) (L' := #[false, true, true, false, false, true, false, false, true, true, true, false, false]) rfl (EStep.le (EStep.ofL (x_slice (m := 1) (f := eS) (ti := ti24) (tj := ti9) (e := 9) hx14 (fun _ => rfl) tbok rfl) (by kernel_rfl)) Le.sub0) (by kernel_rfl) d9, (fun _ h => absurd h List.not_mem_nil)⟩)⟩)⟩)⟩)
  refine DE.share (fuel := 9) (L := #[false, true, true, false, false, true, false, false, true, false, false, false, false]) (σ := ⟨45, [(5, vi j1), (34, vl eS aList), (35, vi j1), (38, vs aS), (41, vl eS aList)], []⟩) ?_ (fun d4 => ?_)
  exact DE.take (i := 9) (L' := #[false, true, true, false, false, true, false, false, true, true, false, false, false]) rfl (.inl rfl) rfl (by kernel_rfl) (by kernel_rfl) (by kernel_rfl) (EStep.le (EStep.ofN2 tbok (σ' := ⟨45, [(42, vi j1), (5, vi j1), (34, vl eS aList), (35, vi j1), (38, vs aS), (41, vl eS aList)], []⟩) (by kernel_rfl)) Le.sub0) (by kernel_rfl) d5
  refine DE.share (fuel := 10) (L := #[false, true, true, false, false, true, false, false, false, false, false, false, false]) (σ := ⟨45, [(0, vl eS aList), (5, vi j1), (34, vl eS aList), (35, vi j1), (38, vs aS)], []⟩) ?_ (fun d3 => ?_)
  exact DE.take (i := 8) (L' := #[false, true, true, false, false, true, false, false, true, false, false, false, false]) rfl (.inl rfl) rfl (by kernel_rfl) (by kernel_rfl) (by kernel_rfl) (EStep.le (EStep.ofN2 tbok (σ' := ⟨45, [(41, vl eS aList), (0, vl eS aList), (5, vi j1), (34, vl eS aList), (35, vi j1), (38, vs aS)], []⟩) (by kernel_rfl)) Le.sub0) (by kernel_rfl) d4
  refine DE.share (fuel := 11) (L := #[false, true, true, false, false, false, false, false, false, false, false, false, false]) (σ := ⟨45, [(0, vl eS aList), (1, vs aS), (5, vi j1), (34, vl eS aList), (35, vi j1)], []⟩) ?_ (fun d2 => ?_)
  exact DE.take (i := 5) (L' := #[false, true, true, false, false, true, false, false, false, false, false, false, false]) rfl (.inl rfl) rfl (by kernel_rfl) (by kernel_rfl) (by kernel_rfl) (EStep.le (EStep.ofN2 tbok (σ' := ⟨45, [(38, vs aS), (0, vl eS aList), (1, vs aS), (5, vi j1), (34, vl eS aList), (35, vi j1)], []⟩) (by kernel_rfl)) Le.sub0) (by kernel_rfl) d3
  refine DE.share (fuel := 12) (L := #[false, true, false, false, false, false, false, false, false, false, false, false, false]) (σ := ⟨45, [(0, vl eS aList), (1, vs aS), (5, vi j1), (34, vl eS aList)], []⟩) ?_ (fun d1 => ?_)
  exact DE.take (i := 2) (L' := #[false, true, true, false, false, false, false, false, false, false, false, false, false]) rfl (.inl rfl) rfl (by kernel_rfl) (by kernel_rfl) (by kernel_rfl) (EStep.le (EStep.ofN2 tbok (σ' := ⟨45, [(35, vi j1), (0, vl eS aList), (1, vs aS), (5, vi j1), (34, vl eS aList)], []⟩) (by kernel_rfl)) Le.sub0) (by kernel_rfl) d2
  exact DE.take (i := 1) (L' := #[false, true, false, false, false, false, false, false, false, false, false, false, false]) rfl (.inl rfl) rfl (by kernel_rfl) (by kernel_rfl) (by kernel_rfl) (EStep.le (EStep.ofN2 tbok (σ' := ⟨45, [(34, vl eS aList), (0, vl eS aList), (1, vs aS), (5, vi j1), (31, vb j9)], []⟩) (by kernel_rfl)) Le.sub0) (by kernel_rfl) d1
  refine nx_n ?_
  refine swp_le (Le.frz' (d := 44) (e := 9) (m := 1) (n := x15.length) (es := x15.map eS) (by kernel_rfl) (by kernel_rfl)) ?_
  refine swp_ret ?_
  obtain rfl := inj h
  exact q_fr (f1 ft)
theorem ents30 : Ents Tryz.prog 30 := ents_of Tryz.func30 (by kernel_rfl) rfl
noncomputable def spec_l32Knows (aA : Op) (aB : Op) : Option (Bool) :=
  ((at' aA.Seen aB.Office).bind fun x1 => some (decide (aB.Number ≤ x1)))
theorem spec_l32Knows_run (aA : Op) (aB : Op) (r : Bool) (h : spec_l32Knows aA aB = some r) : SCall Tryz.prog 79 [.v (.agg (tc eOp aA)), .v (.agg (tc eOp aB))] ⟨[.v (vb r)], [], false⟩ := by
  refine scall_in Tryz.func79 rfl [(.tmp 4)] rfl (fun r => ⟨[.v (vb r)], [], false⟩) (r := r) ?_
  unfold spec_l32Knows at h
  refine srk tbok ⟨14, [(2, .ref 2 0), (3, .ref 3 0)], [(2, .box (tc eOp aA)), (3, .box (tc eOp aB))]⟩ ?_
  refine swp_seq ?_
  refine swp_dr mixed ?_
  refine DGo.ck tbok false 6 ⟨14, [(6, vi aB.Number), (8, vl (eI .i64) aA.Seen), (10, vi aB.Office)], []⟩ ?_
  obtain ⟨x1, hx1, h⟩ := bind_some h
  refine DGo.step (x_index (L := aA.Seen) (f := (eI .i64)) (ti := ti40) (tj := ti2) (e := 2) (k := .i64) tbok rfl hx1) ?_
  refine DGo.ck tbok false 3 ⟨14, [(4, vb (decide (aB.Number ≤ x1)))], []⟩ ?_
  refine DGo.nx ?_
  refine swp_ret ?_
  obtain rfl := inj h
  exact q_fr (f1 fv)
theorem ents79 : Ents Tryz.prog 79 := ents_of Tryz.func79 (by kernel_rfl) rfl
noncomputable def spec_l32Rivals (aLog : (List Op)) (aKey : ByteArray) : Option ((List Int)) :=
  (((forS (aLog.length : Int) (fun (i3 : Int) (s3 : (List Int)) => ((at' aLog i3).bind fun x7 => (((forS (aLog.length : Int) (fun (i10 : Int) (s10 : Bool) => (bif s10 then (bif (i10 == i3) then some true else ((at' aLog i10).bind fun x14 => (bif (!(x14.Key.toList == aKey.toList)) then some true else ((at' aLog i10).bind fun x15 => ((at' aLog i3).bind fun x16 => ((spec_l32Knows x15 x16).bind fun x17 => some (!x17))))))) else some false)) (fun (s10 : Bool) => s10) 0 (x7.Key.toList == aKey.toList))).bind fun (j8 : Bool) => (bif j8 then ((app' s3 ([i3] : List Int)).bind fun x18 => some x18) else some s3)))) (fun (s3 : (List Int)) => s3) 0 ([] : List Int))).bind fun (j1 : (List Int)) => some j1)
theorem spec_l32Rivals_run (aLog : (List Op)) (aKey : ByteArray) (r : (List Int)) (h : spec_l32Rivals aLog aKey = some r) : SCall Tryz.prog 57 [.v (vl eOp aLog), .v (vs aKey)] ⟨[.own 2 1 r.length (r.map (eI .i64))], [], false⟩ := by
  refine scall_in Tryz.func57 rfl [(.tmp 4)] rfl (fun r => ⟨[.own 2 1 r.length (r.map (eI .i64))], [], false⟩) (r := r) ?_
  unfold spec_l32Rivals at h
  refine srk tbok ⟨62, [(0, vl eOp aLog), (1, vs aKey)], []⟩ ?_
  refine srk tbok ⟨62, [(0, vl eOp aLog), (1, vs aKey), (5, .own 9)], [(9, oa 2 1 (eI .i64) ([] : List Int))]⟩ ?_
  refine swp_seq ?_
  refine srk tbok ⟨62, [(0, vl eOp aLog), (1, vs aKey), (5, .own 9), (6, vi 0)], [(9, oa 2 1 (eI .i64) ([] : List Int))]⟩ ?_
  refine swp_seqJ h (fun j1 => ⟨62, [(5, .own 5)], [(5, oa 2 1 (eI .i64) j1)]⟩) (fun v2 h => ?_) (fun j1 h => ?_)
  refine swp_blk (a := v2) ?_
  refine swp_lpL (r := v2) (s := (0, ([] : List Int))) _ (fun s3 => ⟨62, [(0, vl eOp aLog), (1, vs aKey), (5, .own 5), (6, vi s3.1)], [(5, oa 2 1 (eI .i64) s3.2)]⟩) _ (Le.rr [9] [(9, 5)]) h (fun s3 v4 h => ?_)
  refine swp_seq ?_
  refine srk tbok ⟨62, [(0, vl eOp aLog), (1, vs aKey), (5, .own 5), (6, vi s3.1), (13, vb (decide (s3.1 < (aLog.length : Int))))], [(5, oa 2 1 (eI .i64) s3.2)]⟩ ?_
  refine swp_cd h (fun h => ?_) fun h => ?_
  refine swp_skip ?_
  refine nx_n ?_
  refine swp_seq ?_
  refine swp_seqJ h (fun j5 => ⟨62, [(0, vl eOp aLog), (1, vs aKey), (5, .own 5), (6, vi s3.1)], [(5, oa 2 1 (eI .i64) j5)]⟩) (fun v6 h => ?_) (fun j5 h => ?_)
  refine swp_blk (a := v6) ?_
  refine sr ?_
  refine SRun.ck tbok 2 ⟨62, [(0, vl eOp aLog), (1, vs aKey), (5, .own 5), (6, vi s3.1), (16, vl eOp aLog), (17, vi s3.1)], [(5, oa 2 1 (eI .i64) s3.2)]⟩ ?_
  obtain ⟨x7, hx7, h⟩ := bind_some h
  refine SRun.ls (x_index (L := aLog) (f := eOp) (ti := ti27) (tj := ti53) (e := 53) (k := .i64) tbok rfl hx7) ?_
  refine ckn tbok 5 ⟨62, [(0, vl eOp aLog), (1, vs aKey), (5, .own 5), (6, vi s3.1), (7, vb (x7.Key.toList == aKey.toList))], [(5, oa 2 1 (eI .i64) s3.2)]⟩ ?_
  refine swp_seq ?_
  refine srk tbok ⟨62, [(0, vl eOp aLog), (1, vs aKey), (5, .own 5), (6, vi s3.1), (7, vb (x7.Key.toList == aKey.toList)), (8, vi 0)], [(5, oa 2 1 (eI .i64) s3.2)]⟩ ?_
  refine swp_seqJ h (fun j8 => ⟨62, [(0, vl eOp aLog), (1, vs aKey), (5, .own 5), (6, vi s3.1), (7, vb j8)], [(5, oa 2 1 (eI .i64) s3.2)]⟩) (fun v9 h => ?_) (fun j8 h => ?_)
  refine swp_blk (a := v9) ?_
  refine swp_lpL (r := v9) (s := (0, (x7.Key.toList == aKey.toList))) _ (fun s10 => ⟨62, [(0, vl eOp aLog), (1, vs aKey), (5, .own 5), (6, vi s3.1), (7, vb s10.2), (8, vi s10.1)], [(5, oa 2 1 (eI .i64) s3.2)]⟩) _ (Le.sub0) h (fun s10 v11 h => ?_)
  refine swp_seq ?_
  refine srk tbok ⟨62, [(0, vl eOp aLog), (1, vs aKey), (5, .own 5), (6, vi s3.1), (7, vb s10.2), (8, vi s10.1), (26, vb (decide (s10.1 < (aLog.length : Int))))], [(5, oa 2 1 (eI .i64) s3.2)]⟩ ?_
  refine swp_cd h (fun h => ?_) fun h => ?_
  refine swp_skip ?_
  refine nx_n ?_
  refine swp_seq ?_
  refine swp_seqJ h (fun j12 => ⟨62, [(0, vl eOp aLog), (1, vs aKey), (5, .own 5), (6, vi s3.1), (7, vb j12), (8, vi s10.1)], [(5, oa 2 1 (eI .i64) s3.2)]⟩) (fun v13 h => ?_) (fun j12 h => ?_)
  refine swp_blk (a := v13) ?_
  refine swp_dr mixed ?_
  refine DGo.ck tbok false 2 ⟨62, [(0, vl eOp aLog), (1, vs aKey), (5, .own 5), (6, vi s3.1), (8, vi s10.1), (30, vb s10.2)], [(5, oa 2 1 (eI .i64) s3.2)]⟩ ?_
  refine DGo.cu [(30, fun b => b)] h (fun h => ?_) fun h => ?_
  refine DGo.ck tbok false 4 ⟨62, [(0, vl eOp aLog), (1, vs aKey), (5, .own 5), (6, vi s3.1), (8, vi s10.1), (30, vb true), (34, vb (s10.1 == s3.1))], [(5, oa 2 1 (eI .i64) s3.2)]⟩ ?_
  refine DGo.cu [(34, fun b => b)] h (fun h => ?_) fun h => ?_
  refine DGo.ck tbok false 22 ⟨62, [(0, vl eOp aLog), (1, vs aKey), (5, .own 5), (6, vi s3.1), (7, vb true), (8, vi s10.1)], [(5, oa 2 1 (eI .i64) s3.2)]⟩ ?_
  refine DGo.nil (by kernel_rfl) ?_
  obtain rfl := inj h
  exact q_bn (q_j (Le.sub0))
  refine DGo.ck tbok false 2 ⟨62, [(0, vl eOp aLog), (1, vs aKey), (5, .own 5), (6, vi s3.1), (8, vi s10.1), (30, vb true), (34, vb false), (35, vl eOp aLog), (36, vi s10.1)], [(5, oa 2 1 (eI .i64) s3.2)]⟩ ?_
  obtain ⟨x14, hx14, h⟩ := bind_some h
  refine DGo.step (x_index (L := aLog) (f := eOp) (ti := ti27) (tj := ti53) (e := 53) (k := .i64) tbok rfl hx14) ?_
  refine DGo.ck tbok false 6 ⟨62, [(0, vl eOp aLog), (1, vs aKey), (5, .own 5), (6, vi s3.1), (8, vi s10.1), (30, vb true), (43, vb (!(x14.Key.toList == aKey.toList)))], [(5, oa 2 1 (eI .i64) s3.2)]⟩ ?_
  refine DGo.cu [(43, fun b => b)] h (fun h => ?_) fun h => ?_
  refine DGo.ck tbok false 13 ⟨62, [(0, vl eOp aLog), (1, vs aKey), (5, .own 5), (6, vi s3.1), (7, vb true), (8, vi s10.1)], [(5, oa 2 1 (eI .i64) s3.2)]⟩ ?_
  refine DGo.nil (by kernel_rfl) ?_
  obtain rfl := inj h
  exact q_bn (q_j (Le.sub0))
  refine DGo.ck tbok false 2 ⟨62, [(0, vl eOp aLog), (1, vs aKey), (5, .own 5), (6, vi s3.1), (8, vi s10.1), (30, vb true), (43, vb false), (44, vl eOp aLog), (45, vi s10.1)], [(5, oa 2 1 (eI .i64) s3.2)]⟩ ?_
  obtain ⟨x15, hx15, h⟩ := bind_some h
  refine DGo.step (x_index (L := aLog) (f := eOp) (ti := ti27) (tj := ti53) (e := 53) (k := .i64) tbok rfl hx15) ?_
  refine DGo.ck tbok false 3 ⟨62, [(0, vl eOp aLog), (1, vs aKey), (5, .own 5), (6, vi s3.1), (8, vi s10.1), (30, vb true), (43, vb false), (47, .agg (tc eOp x15)), (48, vl eOp aLog), (49, vi s3.1)], [(5, oa 2 1 (eI .i64) s3.2)]⟩ ?_
  obtain ⟨x16, hx16, h⟩ := bind_some h
  refine DGo.step (x_index (L := aLog) (f := eOp) (ti := ti27) (tj := ti53) (e := 53) (k := .i64) tbok rfl hx16) ?_
  refine DGo.ck tbok false 1 ⟨62, [(0, vl eOp aLog), (1, vs aKey), (5, .own 5), (6, vi s3.1), (8, vi s10.1), (30, vb true), (43, vb false), (47, .agg (tc eOp x15)), (51, .agg (tc eOp x16))], [(5, oa 2 1 (eI .i64) s3.2)]⟩ ?_
  obtain ⟨x17, hx17, h⟩ := bind_some h
  refine DGo.step (xc ents79 (spec_l32Knows_run x15 x16 _ hx17)) ?_
  refine DGo.ck tbok false 4 ⟨62, [(0, vl eOp aLog), (1, vs aKey), (5, .own 5), (6, vi s3.1), (7, vb (!x17)), (8, vi s10.1)], [(5, oa 2 1 (eI .i64) s3.2)]⟩ ?_
  refine DGo.nil (by kernel_rfl) ?_
  obtain rfl := inj h
  exact q_bn (q_j (Le.sub0))
  refine DGo.ck tbok false 26 ⟨62, [(0, vl eOp aLog), (1, vs aKey), (5, .own 5), (6, vi s3.1), (7, vb false), (8, vi s10.1)], [(5, oa 2 1 (eI .i64) s3.2)]⟩ ?_
  refine DGo.nil (by kernel_rfl) ?_
  obtain rfl := inj h
  exact q_bn (q_j (Le.sub0))
  refine swp_reg ?_
  refine SRun.ck tbok 3 ⟨62, [(0, vl eOp aLog), (1, vs aKey), (5, .own 5), (6, vi s3.1), (7, vb j12), (8, vi (w64 (s10.1 + 1)))], [(5, oa 2 1 (eI .i64) s3.2)]⟩ ?_
  refine SRun.nil ?_
  obtain rfl := inj h
  exact q_l (Le.sub0)
  refine swp_exit ?_
  obtain rfl := inj h
  exact nx_e (q_re (q_bh (q_j (Le.sub0))))
  refine srk tbok ⟨62, [(0, vl eOp aLog), (1, vs aKey), (5, .own 5), (6, vi s3.1), (56, vb j8)], [(5, oa 2 1 (eI .i64) s3.2)]⟩ ?_
  refine swp_cd h (fun h => ?_) fun h => ?_
  refine swp_reg ?_
  refine SRun.ck tbok 3 ⟨62, [(0, vl eOp aLog), (1, vs aKey), (6, vi s3.1), (57, .own 5), (59, .own 59)], [(5, oa 2 1 (eI .i64) s3.2), (59, oa 2 1 (eI .i64) ([s3.1] : List Int))]⟩ ?_
  obtain ⟨x18, hx18, h⟩ := bind_some h
  refine SRun.estep (x_append (f := (eI .i64)) (t := 40) (ti := ti40) (tj := ti2) (zs := [.int .i64 0]) (e := 2) (m := 1) (d := 5) (xv := .own 59) hx18 tbok rfl rfl rfl rfl (x_src_o (e := 2))) ?_
  refine SRun.ck tbok 1 ⟨62, [(0, vl eOp aLog), (1, vs aKey), (5, .own 60), (6, vi s3.1)], [(60, oa 2 1 (eI .i64) x18)]⟩ ?_
  refine SRun.nil ?_
  obtain rfl := inj h
  exact q_bn (q_j (Le.rr [60] [(60, 5)]))
  refine swp_skip ?_
  obtain rfl := inj h
  exact q_bn (q_j (Le.sub0))
  refine swp_reg ?_
  refine SRun.ck tbok 3 ⟨62, [(0, vl eOp aLog), (1, vs aKey), (5, .own 5), (6, vi (w64 (s3.1 + 1)))], [(5, oa 2 1 (eI .i64) j5)]⟩ ?_
  refine SRun.nil ?_
  obtain rfl := inj h
  exact q_l (Le.sub0)
  refine swp_exit ?_
  obtain rfl := inj h
  exact nx_e (q_re (q_bh (q_j (Le.sub0))))
  refine srk tbok ⟨62, [(4, .own 5)], [(5, oa 2 1 (eI .i64) j1)]⟩ ?_
  refine swp_ret ?_
  obtain rfl := inj h
  exact q_fr (f1 (fo (eI_flat .i64)))
theorem ents57 : Ents Tryz.prog 57 := ents_of Tryz.func57 (by kernel_rfl) rfl
noncomputable def spec_l32Text (aLog : (List Op)) (aKey : ByteArray) : Option (ByteArray) :=
  ((spec_l32Rivals aLog aKey).bind fun x1 => (((forS (x1.length : Int) (fun (i4 : Int) (s4 : ByteArray × Int) => ((at' x1 i4).bind fun x8 => ((at' aLog x8).bind fun x9 => (bif (decide (x9.Office > s4.2)) then some (x9.Text, x9.Office) else some (s4.1, s4.2))))) (fun (s4 : ByteArray × Int) => s4.1) 0 ((ByteArray.mk #[]), (-1)))).bind fun (j2 : ByteArray) => some j2))
theorem spec_l32Text_run (aLog : (List Op)) (aKey : ByteArray) (r : ByteArray) (h : spec_l32Text aLog aKey = some r) : SCall Tryz.prog 31 [.v (vl eOp aLog), .v (vs aKey)] ⟨[.v (vs r)], [], false⟩ := by
  refine scall_in Tryz.func31 rfl [(.tmp 4)] rfl (fun r => ⟨[.v (vs r)], [], false⟩) (r := r) ?_
  unfold spec_l32Text at h
  refine srk tbok ⟨35, [(0, vl eOp aLog), (1, vs aKey)], []⟩ ?_
  refine sr ?_
  refine SRun.ck tbok 2 ⟨35, [(0, vl eOp aLog), (10, vl eOp aLog), (11, vs aKey)], []⟩ ?_
  obtain ⟨x1, hx1, h⟩ := bind_some h
  refine SRun.ls (xc ents57 (spec_l32Rivals_run aLog aKey _ hx1)) ?_
  refine ckn tbok 1 ⟨35, [(0, vl eOp aLog), (5, .own 12)], [(12, oa 2 1 (eI .i64) x1)]⟩ ?_
  refine srk tbok ⟨35, [(0, vl eOp aLog), (5, .own 12), (6, vs (ByteArray.mk #[])), (7, vi (-1))], [(12, oa 2 1 (eI .i64) x1)]⟩ ?_
  refine swp_seq ?_
  refine srk tbok ⟨35, [(0, vl eOp aLog), (5, .own 12), (6, vs (ByteArray.mk #[])), (7, vi (-1)), (8, vi 0)], [(12, oa 2 1 (eI .i64) x1)]⟩ ?_
  refine swp_seqJ h (fun j2 => ⟨35, [(6, vs j2)], []⟩) (fun v3 h => ?_) (fun j2 h => ?_)
  refine swp_blk (a := v3) ?_
  refine swp_lpL (r := v3) (s := (0, (ByteArray.mk #[]), (-1))) _ (fun s4 => ⟨35, [(0, vl eOp aLog), (5, .own 5), (6, vs s4.2.1), (7, vi s4.2.2), (8, vi s4.1)], [(5, oa 2 1 (eI .i64) x1)]⟩) _ (Le.rr [12] [(12, 5)]) h (fun s4 v5 h => ?_)
  refine swp_seq ?_
  refine srk tbok ⟨35, [(0, vl eOp aLog), (5, .own 5), (6, vs s4.2.1), (7, vi s4.2.2), (8, vi s4.1), (16, vb (decide (s4.1 < (x1.length : Int))))], [(5, oa 2 1 (eI .i64) x1)]⟩ ?_
  refine swp_cd h (fun h => ?_) fun h => ?_
  refine swp_skip ?_
  refine nx_n ?_
  refine swp_seq ?_
  refine swp_seqJ h (fun j6 => ⟨35, [(0, vl eOp aLog), (5, .own 5), (6, vs j6.1), (7, vi j6.2), (8, vi s4.1)], [(5, oa 2 1 (eI .i64) x1)]⟩) (fun v7 h => ?_) (fun j6 h => ?_)
  refine swp_blk (a := v7) ?_
  refine sr ?_
  refine SRun.ck tbok 3 ⟨35, [(0, vl eOp aLog), (5, .own 5), (6, vs s4.2.1), (7, vi s4.2.2), (8, vi s4.1), (19, vl eOp aLog), (20, .own 5), (21, vi s4.1)], [(5, oa 2 1 (eI .i64) x1)]⟩ ?_
  obtain ⟨x8, hx8, h⟩ := bind_some h
  refine SRun.ls (x_index_own (d := 5) (L := x1) (f := (eI .i64)) (ti := ti40) (tj := ti2) (e := 2) (e' := 2) (m := 1) (k := .i64) tbok rfl hx8) ?_
  refine SRun.ls (x_load_own (d := 5) (m := 1) (j := 0) (L := x1) (f := (eI .i64)) (ti := ti2) (e := 2) (v := vi x8) tbok rfl hx8) ?_
  obtain ⟨x9, hx9, h⟩ := bind_some h
  refine SRun.ls (x_index (L := aLog) (f := eOp) (ti := ti27) (tj := ti53) (e := 53) (k := .i64) tbok rfl hx9) ?_
  refine ckn tbok 3 ⟨35, [(0, vl eOp aLog), (5, .own 5), (6, vs s4.2.1), (7, vi s4.2.2), (8, vi s4.1), (9, .ref 9 0)], [(5, oa 2 1 (eI .i64) x1), (9, .box (tc eOp x9))]⟩ ?_
  refine srk tbok ⟨35, [(0, vl eOp aLog), (5, .own 5), (6, vs s4.2.1), (7, vi s4.2.2), (8, vi s4.1), (9, .ref 9 0), (29, vb (decide (x9.Office > s4.2.2)))], [(5, oa 2 1 (eI .i64) x1), (9, .box (tc eOp x9))]⟩ ?_
  refine swp_cd h (fun h => ?_) fun h => ?_
  refine srk tbok ⟨35, [(0, vl eOp aLog), (5, .own 5), (6, vs x9.Text), (8, vi s4.1), (9, .ref 9 0)], [(5, oa 2 1 (eI .i64) x1), (9, .box (tc eOp x9))]⟩ ?_
  refine swp_reg ?_
  refine SRun.ck tbok 3 ⟨35, [(0, vl eOp aLog), (5, .own 5), (6, vs x9.Text), (7, vi x9.Office), (8, vi s4.1)], [(5, oa 2 1 (eI .i64) x1)]⟩ ?_
  refine SRun.nil ?_
  obtain rfl := inj h
  exact q_bn (q_j (Le.sub0))
  refine swp_skip ?_
  obtain rfl := inj h
  exact q_bn (q_j (Le.sub0))
  refine swp_reg ?_
  refine SRun.ck tbok 3 ⟨35, [(0, vl eOp aLog), (5, .own 5), (6, vs j6.1), (7, vi j6.2), (8, vi (w64 (s4.1 + 1)))], [(5, oa 2 1 (eI .i64) x1)]⟩ ?_
  refine SRun.nil ?_
  obtain rfl := inj h
  exact q_l (Le.sub0)
  refine swp_exit ?_
  obtain rfl := inj h
  exact nx_e (q_re (q_bh (q_j (Le.sub0))))
  refine srk tbok ⟨35, [(4, vs j2)], []⟩ ?_
  refine swp_ret ?_
  obtain rfl := inj h
  exact q_fr (f1 fv)
theorem ents31 : Ents Tryz.prog 31 := ents_of Tryz.func31 (by kernel_rfl) rfl
noncomputable def spec_StateOfLog (aLog : (List Op)) : Option ((List ByteArray) × Int) :=
  ((spec_IsLog aLog).bind fun x1 => (bif (!x1) then some (([] : List ByteArray), 1) else (((forS (aLog.length : Int) (fun (i4 : Int) (s4 : (List ByteArray)) => ((at' aLog i4).bind fun x8 => ((spec_l08Insert s4 x8.Key).bind fun x9 => some x9))) (fun (s4 : (List ByteArray)) => s4) 0 ([] : List ByteArray))).bind fun (j2 : (List ByteArray)) => (((forS (j2.length : Int) (fun (i12 : Int) (s12 : (List ByteArray)) => ((at' j2 i12).bind fun x16 => ((cat' x16 (ByteArray.mk #[61])).bind fun x17 => ((at' j2 i12).bind fun x18 => ((spec_l32Text aLog x18).bind fun x19 => ((cat' x17 x19).bind fun x20 => ((app' s12 ([x20] : List ByteArray)).bind fun x22 => some x22))))))) (fun (s12 : (List ByteArray)) => s12) 0 ([] : List ByteArray))).bind fun (j10 : (List ByteArray)) => some (j10, 0)))))
theorem spec_StateOfLog_run (aLog : (List Op)) (r : (List ByteArray) × Int) (h : spec_StateOfLog aLog = some r) : SCall Tryz.prog 6 [.v (vl eOp aLog)] ⟨[.own 9 1 r.1.length (r.1.map eS), .v (vi r.2)], [], false⟩ := by
  refine scall_in Tryz.func6 rfl [(.tmp 2), (.tmp 3)] rfl (fun r => ⟨[.own 9 1 r.1.length (r.1.map eS), .v (vi r.2)], [], false⟩) (r := r) ?_
  unfold spec_StateOfLog at h
  refine srk tbok ⟨48, [(0, vl eOp aLog)], []⟩ ?_
  refine swp_seq ?_
  refine sr ?_
  refine SRun.ck tbok 1 ⟨48, [(0, vl eOp aLog), (8, vl eOp aLog)], []⟩ ?_
  obtain ⟨x1, hx1, h⟩ := bind_some h
  refine SRun.ls (xc ents29 (spec_IsLog_run aLog _ hx1)) ?_
  refine ckn tbok 1 ⟨48, [(0, vl eOp aLog), (10, vb (!x1))], []⟩ ?_
  refine swp_cd h (fun h => ?_) fun h => ?_
  refine srk tbok ⟨48, [(2, .own 2), (3, vi 1)], [(2, oa 9 1 eS ([] : List ByteArray))]⟩ ?_
  refine swp_ret ?_
  obtain rfl := inj h
  exact nx_r (q_fr (f2 (fo eS_flat) fv))
  refine swp_skip ?_
  refine nx_n ?_
  refine srk tbok ⟨48, [(0, vl eOp aLog), (4, .own 11)], [(11, oa 9 1 eS ([] : List ByteArray))]⟩ ?_
  refine swp_seq ?_
  refine srk tbok ⟨48, [(0, vl eOp aLog), (4, .own 11), (5, vi 0)], [(11, oa 9 1 eS ([] : List ByteArray))]⟩ ?_
  refine swp_seqJ h (fun j2 => ⟨48, [(0, vl eOp aLog), (4, vl eS j2)], []⟩) (fun v3 h => ?_) (fun j2 h => ?_)
  refine swp_blk (a := v3) ?_
  refine swp_le (Le.frz' (d := 11) (e := 9) (m := 1) (n := ([] : List ByteArray).length) (es := ([] : List ByteArray).map eS) (by kernel_rfl) (by kernel_rfl)) ?_
  refine swp_lpL (r := v3) (s := (0, ([] : List ByteArray))) _ (fun s4 => ⟨48, [(0, vl eOp aLog), (4, vl eS s4.2), (5, vi s4.1)], []⟩) _ (Le.sub0) h (fun s4 v5 h => ?_)
  refine swp_seq ?_
  refine srk tbok ⟨48, [(0, vl eOp aLog), (4, vl eS s4.2), (5, vi s4.1), (15, vb (decide (s4.1 < (aLog.length : Int))))], []⟩ ?_
  refine swp_cd h (fun h => ?_) fun h => ?_
  refine swp_skip ?_
  refine nx_n ?_
  refine swp_seq ?_
  refine swp_seqJ h (fun j6 => ⟨48, [(0, vl eOp aLog), (4, vl eS j6), (5, vi s4.1)], []⟩) (fun v7 h => ?_) (fun j6 h => ?_)
  refine swp_blk (a := v7) ?_
  refine swp_reg ?_
  refine SRun.ck tbok 3 ⟨48, [(0, vl eOp aLog), (5, vi s4.1), (18, vl eS s4.2), (19, vl eOp aLog), (20, vi s4.1)], []⟩ ?_
  obtain ⟨x8, hx8, h⟩ := bind_some h
  refine SRun.ls (x_index (L := aLog) (f := eOp) (ti := ti27) (tj := ti53) (e := 53) (k := .i64) tbok rfl hx8) ?_
  refine SRun.ck tbok 2 ⟨48, [(0, vl eOp aLog), (5, vi s4.1), (18, vl eS s4.2), (23, vs x8.Key)], []⟩ ?_
  obtain ⟨x9, hx9, h⟩ := bind_some h
  refine SRun.ls (xc ents30 (spec_l08Insert_run s4.2 x8.Key _ hx9)) ?_
  refine SRun.ck tbok 1 ⟨48, [(0, vl eOp aLog), (4, vl eS x9), (5, vi s4.1)], []⟩ ?_
  refine SRun.nil ?_
  obtain rfl := inj h
  exact q_bn (q_j (Le.sub0))
  refine swp_reg ?_
  refine SRun.ck tbok 3 ⟨48, [(0, vl eOp aLog), (4, vl eS j6), (5, vi (w64 (s4.1 + 1)))], []⟩ ?_
  refine SRun.nil ?_
  obtain rfl := inj h
  exact q_l (Le.sub0)
  refine swp_exit ?_
  obtain rfl := inj h
  exact nx_e (q_re (q_bh (q_j (Le.sub0))))
  refine srk tbok ⟨48, [(0, vl eOp aLog), (4, vl eS j2), (6, .own 25)], [(25, oa 9 1 eS ([] : List ByteArray))]⟩ ?_
  refine swp_seq ?_
  refine srk tbok ⟨48, [(0, vl eOp aLog), (4, vl eS j2), (6, .own 25), (7, vi 0)], [(25, oa 9 1 eS ([] : List ByteArray))]⟩ ?_
  refine swp_seqJ h (fun j10 => ⟨48, [(6, .own 6)], [(6, oa 9 1 eS j10)]⟩) (fun v11 h => ?_) (fun j10 h => ?_)
  refine swp_blk (a := v11) ?_
  refine swp_lpL (r := v11) (s := (0, ([] : List ByteArray))) _ (fun s12 => ⟨48, [(0, vl eOp aLog), (4, vl eS j2), (6, .own 6), (7, vi s12.1)], [(6, oa 9 1 eS s12.2)]⟩) _ (Le.rr [25] [(25, 6)]) h (fun s12 v13 h => ?_)
  refine swp_seq ?_
  refine srk tbok ⟨48, [(0, vl eOp aLog), (4, vl eS j2), (6, .own 6), (7, vi s12.1), (29, vb (decide (s12.1 < (j2.length : Int))))], [(6, oa 9 1 eS s12.2)]⟩ ?_
  refine swp_cd h (fun h => ?_) fun h => ?_
  refine swp_skip ?_
  refine nx_n ?_
  refine swp_seq ?_
  refine swp_seqJ h (fun j14 => ⟨48, [(0, vl eOp aLog), (4, vl eS j2), (6, .own 6), (7, vi s12.1)], [(6, oa 9 1 eS j14)]⟩) (fun v15 h => ?_) (fun j14 h => ?_)
  refine swp_blk (a := v15) ?_
  refine swp_dr mixed ?_
  refine DGo.ck tbok false 3 ⟨48, [(0, vl eOp aLog), (4, vl eS j2), (7, vi s12.1), (32, .own 6), (33, vl eS j2), (34, vi s12.1)], [(6, oa 9 1 eS s12.2)]⟩ ?_
  obtain ⟨x16, hx16, h⟩ := bind_some h
  refine DGo.step (x_index (L := j2) (f := eS) (ti := ti24) (tj := ti9) (e := 9) (k := .i64) tbok rfl hx16) ?_
  refine DGo.ck tbok false 1 ⟨48, [(0, vl eOp aLog), (4, vl eS j2), (7, vi s12.1), (32, .own 6), (36, vs x16)], [(6, oa 9 1 eS s12.2)]⟩ ?_
  obtain ⟨x17, hx17, h⟩ := bind_some h
  refine DGo.step (x_cat hx17 rfl) ?_
  refine DGo.ck tbok false 3 ⟨48, [(0, vl eOp aLog), (4, vl eS j2), (7, vi s12.1), (32, .own 6), (37, vs x17), (38, vl eOp aLog), (39, vl eS j2), (40, vi s12.1)], [(6, oa 9 1 eS s12.2)]⟩ ?_
  obtain ⟨x18, hx18, h⟩ := bind_some h
  refine DGo.step (x_index (L := j2) (f := eS) (ti := ti24) (tj := ti9) (e := 9) (k := .i64) tbok rfl hx18) ?_
  refine DGo.ck tbok false 1 ⟨48, [(0, vl eOp aLog), (4, vl eS j2), (7, vi s12.1), (32, .own 6), (37, vs x17), (38, vl eOp aLog), (42, vs x18)], [(6, oa 9 1 eS s12.2)]⟩ ?_
  obtain ⟨x19, hx19, h⟩ := bind_some h
  refine DGo.step (xc ents31 (spec_l32Text_run aLog x18 _ hx19)) ?_
  obtain ⟨x20, hx20, h⟩ := bind_some h
  refine DGo.step (x_cat hx20 rfl) ?_
  refine DGo.ck tbok false 1 ⟨48, [(0, vl eOp aLog), (4, vl eS j2), (7, vi s12.1), (32, .own 6), (45, .own 45)], [(6, oa 9 1 eS s12.2), (45, oa 9 1 eS ([x20] : List ByteArray))]⟩ ?_
  refine DGo.seq (by kernel_rfl) (by kernel_rfl) ?_
  obtain ⟨x22, hx22, h⟩ := bind_some h
  refine SRun.estep (x_append (f := eS) (t := 24) (ti := ti24) (tj := ti9) (zs := [.string (ByteArray.mk #[])]) (e := 9) (m := 1) (d := 6) (xv := .own 45) hx22 tbok rfl rfl rfl rfl (x_src_o (e := 9))) ?_
  refine SRun.ck tbok 1 ⟨48, [(0, vl eOp aLog), (4, vl eS j2), (6, .own 46), (7, vi s12.1)], [(46, oa 9 1 eS x22)]⟩ ?_
  refine SRun.nil ?_
  obtain rfl := inj h
  exact q_bn (q_j (Le.rr [46] [(46, 6)]))
  refine swp_reg ?_
  refine SRun.ck tbok 3 ⟨48, [(0, vl eOp aLog), (4, vl eS j2), (6, .own 6), (7, vi (w64 (s12.1 + 1)))], [(6, oa 9 1 eS j14)]⟩ ?_
  refine SRun.nil ?_
  obtain rfl := inj h
  exact q_l (Le.sub0)
  refine swp_exit ?_
  obtain rfl := inj h
  exact nx_e (q_re (q_bh (q_j (Le.sub0))))
  refine srk tbok ⟨48, [(2, .own 6), (3, vi 0)], [(6, oa 9 1 eS j10)]⟩ ?_
  refine swp_ret ?_
  obtain rfl := inj h
  exact q_fr (f2 (fo eS_flat) fv)
theorem ents6 : Ents Tryz.prog 6 := ents_of Tryz.func6 (by kernel_rfl) rfl
noncomputable def impl_within (aX : Int) (aLow : Int) (aHigh : Int) : Option (Bool) :=
  some ((decide (aX ≥ aLow)) && (decide (aX ≤ aHigh)))
theorem impl_within_run (aX : Int) (aLow : Int) (aHigh : Int) (r : Bool) (h : impl_within aX aLow aHigh = some r) : SCall Tryz.prog 75 [.v (vi aX), .v (vi aLow), .v (vi aHigh)] ⟨[.v (vb r)], [], false⟩ := by
  refine scall_in Tryz.func75 rfl [(.tmp 6)] rfl (fun r => ⟨[.v (vb r)], [], false⟩) (r := r) ?_
  unfold impl_within at h
  refine srk tbok ⟨15, [(0, vi aX), (1, vi aLow), (2, vi aHigh)], []⟩ ?_
  refine swp_seq ?_
  refine swp_regP ⟨15, [(6, vb ((decide (aX ≥ aLow)) && (decide (aX ≤ aHigh))))], []⟩ ?_ ?_
  refine SRun.ck tbok 4 ⟨15, [(0, vi aX), (2, vi aHigh), (10, vb (decide (aX ≥ aLow)))], []⟩ ?_
  generalize (decide (aX ≥ aLow)) = bb
  cases bb
  refine SRun.ck tbok 5 ⟨15, [(6, vb false)], []⟩ ?_
  exact SRun.nil (Le.sub0)
  refine SRun.ck tbok 5 ⟨15, [(6, vb (decide (aX ≤ aHigh)))], []⟩ ?_
  exact SRun.nil (Le.sub0)
  refine swp_ret ?_
  obtain rfl := inj h
  exact q_fr (f1 fv)
theorem ents75 : Ents Tryz.prog 75 := ents_of Tryz.func75 (by kernel_rfl) rfl
theorem strings_Trim_run (s c r : ByteArray) (h : strings_Trim s c = some r) : SCall Tryz.prog 95 [.v (.tr (.str s)), .v (.tr (.str c))] ⟨[.v (.tr (.str r))], [], false⟩ := trim_run Tryz.lays160 (by kernel_rfl) 95 rfl s c r h
theorem ents95 : Ents Tryz.prog 95 := ents_of Tryz.func95 (by kernel_rfl) rfl
noncomputable def impl_isSmall (aS : ByteArray) (aLeast : Int) (aMost : Int) : Option (Bool) :=
  ((((impl_within (aS.size : Int) aLeast aMost).bind fun x1 => (bif x1 then ((strings_Trim aS (ByteArray.mk #[97, 98, 99, 100, 101, 102, 103, 104, 105, 106, 107, 108, 109, 110, 111, 112, 113, 114, 115, 116, 117, 118, 119, 120, 121, 122])).bind fun x2 => some (x2.toList == (ByteArray.mk #[]).toList)) else some false))).bind fun (j3 : Bool) => some j3)
theorem impl_isSmall_run (aS : ByteArray) (aLeast : Int) (aMost : Int) (r : Bool) (h : impl_isSmall aS aLeast aMost = some r) : SCall Tryz.prog 86 [.v (vs aS), .v (vi aLeast), .v (vi aMost)] ⟨[.v (vb r)], [], false⟩ := by
  refine scall_in Tryz.func86 rfl [(.tmp 6)] rfl (fun r => ⟨[.v (vb r)], [], false⟩) (r := r) ?_
  unfold impl_isSmall at h
  refine srk tbok ⟨17, [(0, vs aS), (1, vi aLeast), (2, vi aMost)], []⟩ ?_
  refine swp_seq ?_
  refine swp_regJ h (fun j3 => ⟨17, [(6, vb j3)], []⟩) (fun v4 h => ?_) (fun j3 h => ?_)
  refine SRun.ck tbok 4 ⟨17, [(0, vs aS), (8, vi (aS.size : Int)), (9, vi aLeast), (10, vi aMost)], []⟩ ?_
  obtain ⟨x1, hx1, h⟩ := bind_some h
  refine SRun.ls (xc ents75 (impl_within_run (aS.size : Int) aLeast aMost _ hx1)) ?_
  refine SRun.ck tbok 1 ⟨17, [(0, vs aS), (12, vb x1)], []⟩ ?_
  refine SRun.cu [(12, fun b => b)] h (fun h => ?_) fun h => ?_
  refine SRun.ck tbok 1 ⟨17, [(12, vb true), (13, vs aS)], []⟩ ?_
  obtain ⟨x2, hx2, h⟩ := bind_some h
  refine SRun.ls (xc ents95 (strings_Trim_run aS (ByteArray.mk #[97, 98, 99, 100, 101, 102, 103, 104, 105, 106, 107, 108, 109, 110, 111, 112, 113, 114, 115, 116, 117, 118, 119, 120, 121, 122]) _ hx2)) ?_
  refine SRun.ck tbok 3 ⟨17, [(6, vb (x2.toList == (ByteArray.mk #[]).toList))], []⟩ ?_
  refine SRun.nil ?_
  obtain rfl := inj h
  exact Le.sub0
  refine SRun.ck tbok 5 ⟨17, [(6, vb false)], []⟩ ?_
  refine SRun.nil ?_
  obtain rfl := inj h
  exact Le.sub0
  refine swp_ret ?_
  obtain rfl := inj h
  exact q_fr (f1 fv)
theorem ents86 : Ents Tryz.prog 86 := ents_of Tryz.func86 (by kernel_rfl) rfl
noncomputable def impl_IsWord (aS : ByteArray) : Option (Bool) :=
  ((impl_isSmall aS 1 16).bind fun x1 => some x1)
theorem impl_IsWord_run (aS : ByteArray) (r : Bool) (h : impl_IsWord aS = some r) : SCall Tryz.prog 76 [.v (vs aS)] ⟨[.v (vb r)], [], false⟩ := by
  refine scall_in Tryz.func76 rfl [(.tmp 2)] rfl (fun r => ⟨[.v (vb r)], [], false⟩) (r := r) ?_
  unfold impl_IsWord at h
  refine srk tbok ⟨5, [(0, vs aS)], []⟩ ?_
  refine sr ?_
  refine SRun.ck tbok 1 ⟨5, [(3, vs aS)], []⟩ ?_
  obtain ⟨x1, hx1, h⟩ := bind_some h
  refine SRun.ls (xc ents86 (impl_isSmall_run aS 1 16 _ hx1)) ?_
  refine ckn tbok 1 ⟨5, [(2, vb x1)], []⟩ ?_
  refine swp_ret ?_
  obtain rfl := inj h
  exact q_fr (f1 fv)
theorem ents76 : Ents Tryz.prog 76 := ents_of Tryz.func76 (by kernel_rfl) rfl
theorem strings_Split_run (s c : ByteArray) (r : List ByteArray) (h : strings_Split s c = some r) : SCall Tryz.prog 96 [.v (.tr (.str s)), .v (.tr (.str c))] ⟨[.own 9 1 r.length (r.map eS)], [], false⟩ := split_run Tryz.lays146 (by kernel_rfl) 96 9 rfl rfl s c r h
theorem ents96 : Ents Tryz.prog 96 := ents_of Tryz.func96 (by kernel_rfl) rfl
noncomputable def impl_wordsOf (aS : ByteArray) : Option ((List ByteArray)) :=
  ((strings_Split aS (ByteArray.mk #[32])).bind fun x1 => some x1)
theorem impl_wordsOf_run (aS : ByteArray) (r : (List ByteArray)) (h : impl_wordsOf aS = some r) : SCall Tryz.prog 87 [.v (vs aS)] ⟨[.own 9 1 r.length (r.map eS)], [], false⟩ := by
  refine scall_in Tryz.func87 rfl [(.tmp 2)] rfl (fun r => ⟨[.own 9 1 r.length (r.map eS)], [], false⟩) (r := r) ?_
  unfold impl_wordsOf at h
  refine srk tbok ⟨5, [(0, vs aS)], []⟩ ?_
  refine sr ?_
  refine SRun.ck tbok 1 ⟨5, [(3, vs aS)], []⟩ ?_
  obtain ⟨x1, hx1, h⟩ := bind_some h
  refine SRun.ls (xc ents96 (strings_Split_run aS (ByteArray.mk #[32]) _ hx1)) ?_
  refine ckn tbok 1 ⟨5, [(2, .own 4)], [(4, oa 9 1 eS x1)]⟩ ?_
  refine swp_ret ?_
  obtain rfl := inj h
  exact q_fr (f1 (fo eS_flat))
theorem ents87 : Ents Tryz.prog 87 := ents_of Tryz.func87 (by kernel_rfl) rfl
noncomputable def impl_areWords (aList : (List ByteArray)) : Option (Bool) :=
  (((forN (aList.length : Int) (fun (i3 : Int) (_ : Unit) => ((at' aList i3).bind fun x7 => ((impl_IsWord x7).bind fun x8 => (bif (!x8) then some (.inr (.inr false)) else some (.inl ()))))) (fun (_ : Unit) => .inl ()) 0 ())).bind (Sum.elim (fun (_ : Unit) => some true) some))
theorem impl_areWords_run (aList : (List ByteArray)) (r : Bool) (h : impl_areWords aList = some r) : SCall Tryz.prog 88 [.v (vl eS aList)] ⟨[.v (vb r)], [], false⟩ := by
  refine scall_in Tryz.func88 rfl [(.tmp 2)] rfl (fun r => ⟨[.v (vb r)], [], false⟩) (r := r) ?_
  unfold impl_areWords at h
  refine srk tbok ⟨15, [(0, vl eS aList)], []⟩ ?_
  refine swp_seq ?_
  refine srk tbok ⟨15, [(5, vl eS aList), (6, vi (aList.length : Int)), (7, vi 0)], []⟩ ?_
  refine swp_seqE (r := r) h (fun j1 => ⟨15, [], []⟩) (fun v2 h => ?_) (fun j1 h => ?_)
  refine swp_blk (a := v2) ?_
  refine swp_lpL (r := v2) (s := (0, ())) _ (fun s3 => ⟨15, [(5, vl eS aList), (6, vi (aList.length : Int)), (7, vi s3.1)], []⟩) _ (Le.sub0) h (fun s3 v4 h => ?_)
  refine srk tbok ⟨15, [(5, vl eS aList), (6, vi (aList.length : Int)), (7, vi s3.1), (8, vb (decide (s3.1 < (aList.length : Int))))], []⟩ ?_
  refine swp_seq ?_
  refine swp_cd h (fun h => ?_) fun h => ?_
  refine swp_skip ?_
  refine nx_n ?_
  refine swp_seq ?_
  refine swp_seqL (r := v4) h (fun j5 => ⟨15, [(5, vl eS aList), (6, vi (aList.length : Int)), (7, vi s3.1)], []⟩) (fun v6 h => ?_) (fun j5 h => ?_)
  refine swp_blk (a := v6) ?_
  refine sr ?_
  obtain ⟨x7, hx7, h⟩ := bind_some h
  refine SRun.ls (x_index (L := aList) (f := eS) (ti := ti24) (tj := ti9) (e := 9) (k := .i64) tbok rfl hx7) ?_
  refine ckn tbok 2 ⟨15, [(4, vs x7), (5, vl eS aList), (6, vi (aList.length : Int)), (7, vi s3.1)], []⟩ ?_
  refine sr ?_
  refine SRun.ck tbok 1 ⟨15, [(5, vl eS aList), (6, vi (aList.length : Int)), (7, vi s3.1), (11, vs x7)], []⟩ ?_
  obtain ⟨x8, hx8, h⟩ := bind_some h
  refine SRun.ls (xc ents76 (impl_IsWord_run x7 _ hx8)) ?_
  refine ckn tbok 1 ⟨15, [(5, vl eS aList), (6, vi (aList.length : Int)), (7, vi s3.1), (13, vb (!x8))], []⟩ ?_
  refine swp_cd h (fun h => ?_) fun h => ?_
  refine srk tbok ⟨15, [(2, vb false)], []⟩ ?_
  refine swp_ret ?_
  obtain rfl := inj h
  exact q_br (q_rr (q_rr (q_br (q_rr (q_fr (f1 fv))))))
  refine swp_skip ?_
  obtain rfl := inj h
  exact q_bn (q_l (Le.sub0))
  refine swp_reg ?_
  refine SRun.ck tbok 2 ⟨15, [(5, vl eS aList), (6, vi (aList.length : Int)), (7, vi (w64 (s3.1 + 1)))], []⟩ ?_
  refine SRun.nil ?_
  obtain rfl := inj h
  exact q_l (Le.sub0)
  refine swp_exit ?_
  obtain rfl := inj h
  exact nx_e (q_re (q_bh (q_l (Le.sub0))))
  refine srk tbok ⟨15, [(2, vb true)], []⟩ ?_
  refine swp_ret ?_
  obtain rfl := inj h
  exact q_fr (f1 fv)
theorem ents88 : Ents Tryz.prog 88 := ents_of Tryz.func88 (by kernel_rfl) rfl
noncomputable def impl_IsPhrase (aS : ByteArray) : Option (Bool) :=
  ((impl_wordsOf aS).bind fun x1 => (((bif (decide ((x1.length : Int) ≤ 8)) then ((impl_areWords x1).bind fun x2 => some x2) else some false)).bind fun (j3 : Bool) => some j3))
theorem impl_IsPhrase_run (aS : ByteArray) (r : Bool) (h : impl_IsPhrase aS = some r) : SCall Tryz.prog 77 [.v (vs aS)] ⟨[.v (vb r)], [], false⟩ := by
  refine scall_in Tryz.func77 rfl [(.tmp 2)] rfl (fun r => ⟨[.v (vb r)], [], false⟩) (r := r) ?_
  unfold impl_IsPhrase at h
  refine srk tbok ⟨13, [(0, vs aS)], []⟩ ?_
  refine sr ?_
  refine SRun.ck tbok 1 ⟨13, [(4, vs aS)], []⟩ ?_
  obtain ⟨x1, hx1, h⟩ := bind_some h
  refine SRun.ls (xc ents87 (impl_wordsOf_run aS _ hx1)) ?_
  refine ckn tbok 1 ⟨13, [(3, .own 5)], [(5, oa 9 1 eS x1)]⟩ ?_
  refine swp_seq ?_
  refine swp_regJ h (fun j3 => ⟨13, [(2, vb j3)], []⟩) (fun v4 h => ?_) (fun j3 h => ?_)
  refine SRun.ck tbok 4 ⟨13, [(3, .own 5), (9, vb (decide ((x1.length : Int) ≤ 8)))], [(5, oa 9 1 eS x1)]⟩ ?_
  refine SRun.cu [(9, fun b => b)] h (fun h => ?_) fun h => ?_
  refine SRun.ck tbok 1 ⟨13, [(9, vb true), (10, .own 5)], [(5, oa 9 1 eS x1)]⟩ ?_
  obtain ⟨x2, hx2, h⟩ := bind_some h
  refine SRun.ls (xc ents88 (impl_areWords_run x1 _ hx2)) ?_
  refine SRun.ck tbok 2 ⟨13, [(2, vb x2)], []⟩ ?_
  refine SRun.nil ?_
  obtain rfl := inj h
  exact Le.sub0
  refine SRun.ck tbok 4 ⟨13, [(2, vb false)], []⟩ ?_
  refine SRun.nil ?_
  obtain rfl := inj h
  exact Le.sub0
  refine swp_ret ?_
  obtain rfl := inj h
  exact q_fr (f1 fv)
theorem ents77 : Ents Tryz.prog 77 := ents_of Tryz.func77 (by kernel_rfl) rfl
noncomputable def impl_isVector_1 (aN : Int) : Option (Bool) :=
  some (decide (aN < 0))
theorem impl_isVector_1_run (aN : Int) (r : Bool) (h : impl_isVector_1 aN = some r) : SCall Tryz.prog 74 [.v (vi aN)] ⟨[.v (vb r)], [], false⟩ := by
  refine scall_in Tryz.func74 rfl [(.tmp 2)] rfl (fun r => ⟨[.v (vb r)], [], false⟩) (r := r) ?_
  unfold impl_isVector_1 at h
  refine srk tbok ⟨5, [(0, vi aN)], []⟩ ?_
  refine srk tbok ⟨5, [(2, vb (decide (aN < 0)))], []⟩ ?_
  refine swp_ret ?_
  obtain rfl := inj h
  exact q_fr (f1 fv)
theorem ents74 : Ents Tryz.prog 74 := ents_of Tryz.func74 (by kernel_rfl) rfl
noncomputable def slices_IndexFunc_int64_impl_isVector_1 (aS : (List Int)) : Option (Int) :=
  (((forN (aS.length : Int) (fun (i3 : Int) (_ : Unit) => ((at' aS i3).bind fun x7 => ((impl_isVector_1 x7).bind fun x8 => (bif x8 then some (.inr (.inr i3)) else some (.inl ()))))) (fun (_ : Unit) => .inl ()) 0 ())).bind (Sum.elim (fun (_ : Unit) => some (-1)) some))
theorem slices_IndexFunc_int64_impl_isVector_1_run (aS : (List Int)) (r : Int) (h : slices_IndexFunc_int64_impl_isVector_1 aS = some r) : SCall Tryz.prog 85 [.v (vl (eI .i64) aS), .v (.clo 74 [])] ⟨[.v (vi r)], [], false⟩ := by
  refine scall_in Tryz.func85 rfl [(.tmp 4)] rfl (fun r => ⟨[.v (vi r)], [], false⟩) (r := r) ?_
  unfold slices_IndexFunc_int64_impl_isVector_1 at h
  refine srk tbok ⟨19, [(0, vl (eI .i64) aS), (1, .clo 74 [])], []⟩ ?_
  refine swp_seq ?_
  refine srk tbok ⟨19, [(0, vl (eI .i64) aS), (1, .clo 74 []), (7, vi (aS.length : Int)), (8, vi 0)], []⟩ ?_
  refine swp_seqE (r := r) h (fun j1 => ⟨19, [], []⟩) (fun v2 h => ?_) (fun j1 h => ?_)
  refine swp_blk (a := v2) ?_
  refine swp_lpL (r := v2) (s := (0, ())) _ (fun s3 => ⟨19, [(0, vl (eI .i64) aS), (1, .clo 74 []), (7, vi (aS.length : Int)), (8, vi s3.1)], []⟩) _ (Le.sub0) h (fun s3 v4 h => ?_)
  refine srk tbok ⟨19, [(0, vl (eI .i64) aS), (1, .clo 74 []), (7, vi (aS.length : Int)), (8, vi s3.1), (9, vb (decide (s3.1 < (aS.length : Int))))], []⟩ ?_
  refine swp_seq ?_
  refine swp_cd h (fun h => ?_) fun h => ?_
  refine swp_skip ?_
  refine nx_n ?_
  refine swp_seq ?_
  refine swp_seqL (r := v4) h (fun j5 => ⟨19, [(0, vl (eI .i64) aS), (1, .clo 74 []), (7, vi (aS.length : Int)), (8, vi s3.1)], []⟩) (fun v6 h => ?_) (fun j5 h => ?_)
  refine swp_blk (a := v6) ?_
  refine srk tbok ⟨19, [(0, vl (eI .i64) aS), (1, .clo 74 []), (5, vi s3.1), (7, vi (aS.length : Int)), (8, vi s3.1)], []⟩ ?_
  refine sr ?_
  refine SRun.ck tbok 3 ⟨19, [(0, vl (eI .i64) aS), (1, .clo 74 []), (5, vi s3.1), (7, vi (aS.length : Int)), (8, vi s3.1), (11, .clo 74 []), (12, vl (eI .i64) aS), (13, vi s3.1)], []⟩ ?_
  obtain ⟨x7, hx7, h⟩ := bind_some h
  refine SRun.ls (x_index (L := aS) (f := (eI .i64)) (ti := ti40) (tj := ti2) (e := 2) (k := .i64) tbok rfl hx7) ?_
  refine SRun.ck tbok 1 ⟨19, [(0, vl (eI .i64) aS), (1, .clo 74 []), (5, vi s3.1), (7, vi (aS.length : Int)), (8, vi s3.1), (11, .clo 74 []), (15, vi x7)], []⟩ ?_
  obtain ⟨x8, hx8, h⟩ := bind_some h
  refine SRun.ls (xc ents74 (impl_isVector_1_run x7 _ hx8)) ?_
  refine SRun.nx ?_
  refine swp_cd h (fun h => ?_) fun h => ?_
  refine srk tbok ⟨19, [(4, vi s3.1)], []⟩ ?_
  refine swp_ret ?_
  obtain rfl := inj h
  exact q_br (q_rr (q_rr (q_br (q_rr (q_fr (f1 fv))))))
  refine swp_skip ?_
  obtain rfl := inj h
  exact q_bn (q_l (Le.sub0))
  refine swp_reg ?_
  refine SRun.ck tbok 2 ⟨19, [(0, vl (eI .i64) aS), (1, .clo 74 []), (7, vi (aS.length : Int)), (8, vi (w64 (s3.1 + 1)))], []⟩ ?_
  refine SRun.nil ?_
  obtain rfl := inj h
  exact q_l (Le.sub0)
  refine swp_exit ?_
  obtain rfl := inj h
  exact nx_e (q_re (q_bh (q_l (Le.sub0))))
  refine srk tbok ⟨19, [(4, vi (-1))], []⟩ ?_
  refine swp_ret ?_
  obtain rfl := inj h
  exact q_fr (f1 fv)
theorem ents85 : Ents Tryz.prog 85 := ents_of Tryz.func85 (by kernel_rfl) rfl
noncomputable def slices_ContainsFunc_int64_impl_isVector_1 (aS : (List Int)) : Option (Bool) :=
  ((slices_IndexFunc_int64_impl_isVector_1 aS).bind fun x1 => some (decide (x1 ≥ 0)))
theorem slices_ContainsFunc_int64_impl_isVector_1_run (aS : (List Int)) (r : Bool) (h : slices_ContainsFunc_int64_impl_isVector_1 aS = some r) : SCall Tryz.prog 73 [.v (vl (eI .i64) aS), .v (.clo 74 [])] ⟨[.v (vb r)], [], false⟩ := by
  refine scall_in Tryz.func73 rfl [(.tmp 4)] rfl (fun r => ⟨[.v (vb r)], [], false⟩) (r := r) ?_
  unfold slices_ContainsFunc_int64_impl_isVector_1 at h
  refine srk tbok ⟨9, [(0, vl (eI .i64) aS), (1, .clo 74 [])], []⟩ ?_
  refine sr ?_
  refine SRun.ck tbok 2 ⟨9, [(5, vl (eI .i64) aS), (6, .clo 74 [])], []⟩ ?_
  obtain ⟨x1, hx1, h⟩ := bind_some h
  refine SRun.ls (xc ents85 (slices_IndexFunc_int64_impl_isVector_1_run aS _ hx1)) ?_
  refine ckn tbok 2 ⟨9, [(4, vb (decide (x1 ≥ 0)))], []⟩ ?_
  refine swp_ret ?_
  obtain rfl := inj h
  exact q_fr (f1 fv)
theorem ents73 : Ents Tryz.prog 73 := ents_of Tryz.func73 (by kernel_rfl) rfl
noncomputable def impl_isVector (aList : (List Int)) : Option (Bool) :=
  (((bif ((aList.length : Int) == 4) then ((slices_ContainsFunc_int64_impl_isVector_1 aList).bind fun x1 => some (!x1)) else some false)).bind fun (j2 : Bool) => some j2)
theorem impl_isVector_run (aList : (List Int)) (r : Bool) (h : impl_isVector aList = some r) : SCall Tryz.prog 48 [.v (vl (eI .i64) aList)] ⟨[.v (vb r)], [], false⟩ := by
  refine scall_in Tryz.func48 rfl [(.tmp 2)] rfl (fun r => ⟨[.v (vb r)], [], false⟩) (r := r) ?_
  unfold impl_isVector at h
  refine srk tbok ⟨11, [(0, vl (eI .i64) aList)], []⟩ ?_
  refine swp_seq ?_
  refine swp_regJ h (fun j2 => ⟨11, [(2, vb j2)], []⟩) (fun v3 h => ?_) (fun j2 h => ?_)
  refine SRun.ck tbok 4 ⟨11, [(0, vl (eI .i64) aList), (6, vb ((aList.length : Int) == 4))], []⟩ ?_
  refine SRun.cu [(6, fun b => b)] h (fun h => ?_) fun h => ?_
  refine SRun.ck tbok 1 ⟨11, [(6, vb true), (7, vl (eI .i64) aList)], []⟩ ?_
  obtain ⟨x1, hx1, h⟩ := bind_some h
  refine SRun.ls (xc ents73 (slices_ContainsFunc_int64_impl_isVector_1_run aList _ hx1)) ?_
  refine SRun.ck tbok 3 ⟨11, [(2, vb (!x1))], []⟩ ?_
  refine SRun.nil ?_
  obtain rfl := inj h
  exact Le.sub0
  refine SRun.ck tbok 5 ⟨11, [(2, vb false)], []⟩ ?_
  refine SRun.nil ?_
  obtain rfl := inj h
  exact Le.sub0
  refine swp_ret ?_
  obtain rfl := inj h
  exact q_fr (f1 fv)
theorem ents48 : Ents Tryz.prog 48 := ents_of Tryz.func48 (by kernel_rfl) rfl
noncomputable def impl_isOp (aX : Op) : Option (Bool) :=
  ((((impl_within aX.Office 0 3).bind fun x1 => (bif x1 then (bif (decide (aX.Number ≥ 1)) then ((impl_IsWord aX.Key).bind fun x2 => (bif x2 then ((impl_IsPhrase aX.Text).bind fun x3 => (bif x3 then ((impl_isVector aX.Seen).bind fun x4 => (bif x4 then ((at' aX.Seen aX.Office).bind fun x5 => some (x5 == (w64 (aX.Number - 1)))) else some false)) else some false)) else some false)) else some false) else some false))).bind fun (j6 : Bool) => some j6)
theorem impl_isOp_run (aX : Op) (r : Bool) (h : impl_isOp aX = some r) : SCall Tryz.prog 52 [.v (.agg (tc eOp aX))] ⟨[.v (vb r)], [], false⟩ := by
  refine scall_in Tryz.func52 rfl [(.tmp 2)] rfl (fun r => ⟨[.v (vb r)], [], false⟩) (r := r) ?_
  unfold impl_isOp at h
  refine srk tbok ⟨38, [(1, .ref 1 0)], [(1, .box (tc eOp aX))]⟩ ?_
  refine swp_seq ?_
  refine swp_drJ mixed h (fun j6 => ⟨38, [(2, vb j6)], []⟩) (fun v7 h => ?_) (fun j6 h => ?_)
  refine DGo.ck tbok false 2 ⟨38, [(1, .ref 1 0), (4, vi aX.Office)], [(1, .box (tc eOp aX))]⟩ ?_
  obtain ⟨x1, hx1, h⟩ := bind_some h
  refine DGo.step (xc ents75 (impl_within_run aX.Office 0 3 _ hx1)) ?_
  refine DGo.ck tbok false 1 ⟨38, [(1, .ref 1 0), (6, vb x1)], [(1, .box (tc eOp aX))]⟩ ?_
  refine DGo.cu [(6, fun b => b)] h (fun h => ?_) fun h => ?_
  refine DGo.ck tbok false 5 ⟨38, [(1, .ref 1 0), (11, vb (decide (aX.Number ≥ 1)))], [(1, .box (tc eOp aX))]⟩ ?_
  refine DGo.cu [(11, fun b => b)] h (fun h => ?_) fun h => ?_
  refine DGo.ck tbok false 2 ⟨38, [(1, .ref 1 0), (11, vb true), (13, vs aX.Key)], [(1, .box (tc eOp aX))]⟩ ?_
  obtain ⟨x2, hx2, h⟩ := bind_some h
  refine DGo.step (xc ents76 (impl_IsWord_run aX.Key _ hx2)) ?_
  refine DGo.ck tbok false 2 ⟨38, [(1, .ref 1 0), (16, vb x2)], [(1, .box (tc eOp aX))]⟩ ?_
  refine DGo.cu [(16, fun b => b)] h (fun h => ?_) fun h => ?_
  refine DGo.ck tbok false 2 ⟨38, [(1, .ref 1 0), (16, vb true), (18, vs aX.Text)], [(1, .box (tc eOp aX))]⟩ ?_
  obtain ⟨x3, hx3, h⟩ := bind_some h
  refine DGo.step (xc ents77 (impl_IsPhrase_run aX.Text _ hx3)) ?_
  refine DGo.ck tbok false 2 ⟨38, [(1, .ref 1 0), (21, vb x3)], [(1, .box (tc eOp aX))]⟩ ?_
  refine DGo.cu [(21, fun b => b)] h (fun h => ?_) fun h => ?_
  refine DGo.ck tbok false 2 ⟨38, [(1, .ref 1 0), (21, vb true), (23, vl (eI .i64) aX.Seen)], [(1, .box (tc eOp aX))]⟩ ?_
  obtain ⟨x4, hx4, h⟩ := bind_some h
  refine DGo.step (xc ents48 (impl_isVector_run aX.Seen _ hx4)) ?_
  refine DGo.ck tbok false 2 ⟨38, [(1, .ref 1 0), (26, vb x4)], [(1, .box (tc eOp aX))]⟩ ?_
  refine DGo.cu [(26, fun b => b)] h (fun h => ?_) fun h => ?_
  refine DGo.ck tbok false 4 ⟨38, [(1, .ref 1 0), (26, vb true), (28, vl (eI .i64) aX.Seen), (30, vi aX.Office)], [(1, .box (tc eOp aX))]⟩ ?_
  obtain ⟨x5, hx5, h⟩ := bind_some h
  refine DGo.step (x_index (L := aX.Seen) (f := (eI .i64)) (ti := ti40) (tj := ti2) (e := 2) (k := .i64) tbok rfl hx5) ?_
  refine DGo.ck tbok false 7 ⟨38, [(2, vb (x5 == (w64 (aX.Number - 1))))], []⟩ ?_
  refine DGo.nil (by kernel_rfl) ?_
  obtain rfl := inj h
  exact Le.sub0
  refine DGo.ck tbok false 12 ⟨38, [(2, vb false)], []⟩ ?_
  refine DGo.nil (by kernel_rfl) ?_
  obtain rfl := inj h
  exact Le.sub0
  refine DGo.ck tbok false 17 ⟨38, [(2, vb false)], []⟩ ?_
  refine DGo.nil (by kernel_rfl) ?_
  obtain rfl := inj h
  exact Le.sub0
  refine DGo.ck tbok false 22 ⟨38, [(2, vb false)], []⟩ ?_
  refine DGo.nil (by kernel_rfl) ?_
  obtain rfl := inj h
  exact Le.sub0
  refine DGo.ck tbok false 27 ⟨38, [(2, vb false)], []⟩ ?_
  refine DGo.nil (by kernel_rfl) ?_
  obtain rfl := inj h
  exact Le.sub0
  refine DGo.ck tbok false 32 ⟨38, [(2, vb false)], []⟩ ?_
  refine DGo.nil (by kernel_rfl) ?_
  obtain rfl := inj h
  exact Le.sub0
  refine swp_ret ?_
  obtain rfl := inj h
  exact q_fr (f1 fv)
theorem ents52 : Ents Tryz.prog 52 := ents_of Tryz.func52 (by kernel_rfl) rfl
noncomputable def impl_vectorOf (aLog : (List Op)) : Option ((List Int)) :=
  ((make' 0 4).bind fun x1 => (((forS (aLog.length : Int) (fun (i4 : Int) (s4 : (List Int)) => ((at' aLog i4).bind fun x8 => ((at' s4 x8.Office).bind fun x9 => ((at' s4 x8.Office).bind fun _ => some (List.set s4 (Int.toNat x8.Office) (w64 (x9 + 1))))))) (fun (s4 : (List Int)) => s4) 0 x1)).bind fun (j2 : (List Int)) => some j2))
theorem impl_vectorOf_run (aLog : (List Op)) (r : (List Int)) (h : impl_vectorOf aLog = some r) : SCall Tryz.prog 50 [.v (vl eOp aLog)] ⟨[.own 2 1 r.length (r.map (eI .i64))], [], false⟩ := by
  refine scall_in Tryz.func50 rfl [(.tmp 2)] rfl (fun r => ⟨[.own 2 1 r.length (r.map (eI .i64))], [], false⟩) (r := r) ?_
  unfold impl_vectorOf at h
  refine srk tbok ⟨22, [(0, vl eOp aLog)], []⟩ ?_
  refine sr ?_
  obtain ⟨x1, hx1, h⟩ := bind_some h
  refine SRun.ls (x_make (z := 0) (f := (eI .i64)) (ti := ti40) (tj := ti2) (e := 2) (m := 1) (k := .i64) (k' := .i64) hx1 tbok rfl rfl (zs := [.int .i64 0])) ?_
  refine ckn tbok 1 ⟨22, [(0, vl eOp aLog), (3, .own 6)], [(6, oa 2 1 (eI .i64) x1)]⟩ ?_
  refine swp_seq ?_
  refine srk tbok ⟨22, [(3, .own 6), (7, vl eOp aLog), (8, vi (aLog.length : Int)), (9, vi 0)], [(6, oa 2 1 (eI .i64) x1)]⟩ ?_
  refine swp_seqJ h (fun j2 => ⟨22, [(3, .own 3)], [(3, oa 2 1 (eI .i64) j2)]⟩) (fun v3 h => ?_) (fun j2 h => ?_)
  refine swp_blk (a := v3) ?_
  refine swp_lpL (r := v3) (s := (0, x1)) _ (fun s4 => ⟨22, [(3, .own 3), (7, vl eOp aLog), (8, vi (aLog.length : Int)), (9, vi s4.1)], [(3, oa 2 1 (eI .i64) s4.2)]⟩) _ (Le.rr [6] [(6, 3)]) h (fun s4 v5 h => ?_)
  refine srk tbok ⟨22, [(3, .own 3), (7, vl eOp aLog), (8, vi (aLog.length : Int)), (9, vi s4.1), (10, vb (decide (s4.1 < (aLog.length : Int))))], [(3, oa 2 1 (eI .i64) s4.2)]⟩ ?_
  refine swp_seq ?_
  refine swp_cd h (fun h => ?_) fun h => ?_
  refine swp_skip ?_
  refine nx_n ?_
  refine swp_seq ?_
  refine swp_seqJ h (fun j6 => ⟨22, [(3, .own 3), (7, vl eOp aLog), (8, vi (aLog.length : Int)), (9, vi s4.1)], [(3, oa 2 1 (eI .i64) j6)]⟩) (fun v7 h => ?_) (fun j6 h => ?_)
  refine swp_blk (a := v7) ?_
  refine sr ?_
  obtain ⟨x8, hx8, h⟩ := bind_some h
  refine SRun.ls (x_index (L := aLog) (f := eOp) (ti := ti27) (tj := ti53) (e := 53) (k := .i64) tbok rfl hx8) ?_
  refine ckn tbok 3 ⟨22, [(3, .own 3), (5, .ref 5 0), (7, vl eOp aLog), (8, vi (aLog.length : Int)), (9, vi s4.1)], [(3, oa 2 1 (eI .i64) s4.2), (5, .box (tc eOp x8))]⟩ ?_
  refine swp_reg ?_
  refine SRun.ck tbok 3 ⟨22, [(3, .own 3), (7, vl eOp aLog), (8, vi (aLog.length : Int)), (9, vi s4.1), (13, .own 3), (15, vi x8.Office)], [(3, oa 2 1 (eI .i64) s4.2)]⟩ ?_
  obtain ⟨x9, hx9, h⟩ := bind_some h
  refine SRun.ls (x_index_own (d := 3) (L := s4.2) (f := (eI .i64)) (ti := ti40) (tj := ti2) (e := 2) (e' := 2) (m := 1) (k := .i64) tbok rfl hx9) ?_
  refine SRun.ls (x_load_own (d := 3) (m := 1) (j := 0) (L := s4.2) (f := (eI .i64)) (ti := ti2) (e := 2) (v := vi x9) tbok rfl hx9) ?_
  refine SRun.ck tbok 1 ⟨22, [(3, .own 3), (7, vl eOp aLog), (8, vi (aLog.length : Int)), (9, vi s4.1), (13, .own 3), (15, vi x8.Office), (18, vi (w64 (x9 + 1)))], [(3, oa 2 1 (eI .i64) s4.2)]⟩ ?_
  obtain ⟨x10, hx10, h⟩ := bind_some h
  refine SRun.ls (x_index_own (d := 3) (L := s4.2) (f := (eI .i64)) (ti := ti40) (tj := ti2) (e := 2) (e' := 2) (m := 1) (k := .i64) tbok rfl hx10) ?_
  refine SRun.estep (x_store_own (d := 3) (m := 1) (j := 0) (L := s4.2) (f := (eI .i64)) (x := (w64 (x9 + 1))) (z := x10) (ti := ti2) (e := 2) (ts := [.int .i64 (w64 (x9 + 1))]) (vs := [vi (w64 (x9 + 1))]) (v := vi (w64 (x9 + 1))) tbok rfl rfl hx10) ?_
  refine SRun.nil ?_
  obtain rfl := inj h
  exact q_bn (q_j (Le.sub0))
  refine swp_reg ?_
  refine SRun.ck tbok 2 ⟨22, [(3, .own 3), (7, vl eOp aLog), (8, vi (aLog.length : Int)), (9, vi (w64 (s4.1 + 1)))], [(3, oa 2 1 (eI .i64) j6)]⟩ ?_
  refine SRun.nil ?_
  obtain rfl := inj h
  exact q_l (Le.sub0)
  refine swp_exit ?_
  obtain rfl := inj h
  exact nx_e (q_re (q_bh (q_j (Le.sub0))))
  refine srk tbok ⟨22, [(2, .own 3)], [(3, oa 2 1 (eI .i64) j2)]⟩ ?_
  refine swp_ret ?_
  obtain rfl := inj h
  exact q_fr (f1 (fo (eI_flat .i64)))
theorem ents50 : Ents Tryz.prog 50 := ents_of Tryz.func50 (by kernel_rfl) rfl
noncomputable def impl_IsLog (aLog : (List Op)) : Option (Bool) :=
  (((forN (aLog.length : Int) (fun (i3 : Int) (_ : Unit) => ((at' aLog i3).bind fun x7 => ((impl_isOp x7).bind fun x8 => (bif (!x8) then some (.inr (.inr false)) else ((part' aLog 0 i3).bind fun x9 => ((impl_vectorOf x9).bind fun x10 => (((forN (x7.Seen.length : Int) (fun (i13 : Int) (_ : Unit) => ((at' x7.Seen i13).bind fun x17 => ((at' x10 i13).bind fun x18 => (bif (decide (x17 > x18)) then some (.inr (.inr (.inr (.inr false)))) else some (.inl ()))))) (fun (_ : Unit) => .inl ()) 0 ())).bind (Sum.elim (fun (_ : Unit) => ((at' x10 x7.Office).bind fun x19 => (bif (x7.Number != (w64 (x19 + 1))) then some (.inr (.inr false)) else some (.inl ())))) some)))))))) (fun (_ : Unit) => .inl ()) 0 ())).bind (Sum.elim (fun (_ : Unit) => some (decide ((aLog.length : Int) ≤ 16))) some))
theorem impl_IsLog_run (aLog : (List Op)) (r : Bool) (h : impl_IsLog aLog = some r) : SCall Tryz.prog 27 [.v (vl eOp aLog)] ⟨[.v (vb r)], [], false⟩ := by
  refine scall_in Tryz.func27 rfl [(.tmp 2)] rfl (fun r => ⟨[.v (vb r)], [], false⟩) (r := r) ?_
  unfold impl_IsLog at h
  refine srk tbok ⟨50, [(0, vl eOp aLog)], []⟩ ?_
  refine swp_seq ?_
  refine srk tbok ⟨50, [(0, vl eOp aLog), (8, vl eOp aLog), (9, vi (aLog.length : Int)), (10, vi 0)], []⟩ ?_
  refine swp_seqE (r := r) h (fun j1 => ⟨50, [(0, vl eOp aLog)], []⟩) (fun v2 h => ?_) (fun j1 h => ?_)
  refine swp_blk (a := v2) ?_
  refine swp_lpL (r := v2) (s := (0, ())) _ (fun s3 => ⟨50, [(0, vl eOp aLog), (8, vl eOp aLog), (9, vi (aLog.length : Int)), (10, vi s3.1)], []⟩) _ (Le.sub0) h (fun s3 v4 h => ?_)
  refine srk tbok ⟨50, [(0, vl eOp aLog), (8, vl eOp aLog), (9, vi (aLog.length : Int)), (10, vi s3.1), (11, vb (decide (s3.1 < (aLog.length : Int))))], []⟩ ?_
  refine swp_seq ?_
  refine swp_cd h (fun h => ?_) fun h => ?_
  refine swp_skip ?_
  refine nx_n ?_
  refine swp_seq ?_
  refine swp_seqL (r := v4) h (fun j5 => ⟨50, [(0, vl eOp aLog), (8, vl eOp aLog), (9, vi (aLog.length : Int)), (10, vi s3.1)], []⟩) (fun v6 h => ?_) (fun j5 h => ?_)
  refine swp_blk (a := v6) ?_
  refine sr ?_
  refine SRun.ck tbok 1 ⟨50, [(0, vl eOp aLog), (8, vl eOp aLog), (9, vi (aLog.length : Int)), (10, vi s3.1), (12, vi s3.1)], []⟩ ?_
  obtain ⟨x7, hx7, h⟩ := bind_some h
  refine SRun.ls (x_index (L := aLog) (f := eOp) (ti := ti27) (tj := ti53) (e := 53) (k := .i64) tbok rfl hx7) ?_
  refine ckn tbok 4 ⟨50, [(0, vl eOp aLog), (3, vi s3.1), (4, .ref 4 0), (8, vl eOp aLog), (9, vi (aLog.length : Int)), (10, vi s3.1)], [(4, .box (tc eOp x7))]⟩ ?_
  refine swp_seq ?_
  refine sr ?_
  refine SRun.ck tbok 1 ⟨50, [(0, vl eOp aLog), (3, vi s3.1), (4, .ref 4 0), (8, vl eOp aLog), (9, vi (aLog.length : Int)), (10, vi s3.1), (15, .agg (tc eOp x7))], [(4, .box (tc eOp x7))]⟩ ?_
  obtain ⟨x8, hx8, h⟩ := bind_some h
  refine SRun.ls (xc ents52 (impl_isOp_run x7 _ hx8)) ?_
  refine ckn tbok 1 ⟨50, [(0, vl eOp aLog), (3, vi s3.1), (4, .ref 4 0), (8, vl eOp aLog), (9, vi (aLog.length : Int)), (10, vi s3.1), (17, vb (!x8))], [(4, .box (tc eOp x7))]⟩ ?_
  refine swp_cd h (fun h => ?_) fun h => ?_
  refine srk tbok ⟨50, [(2, vb false)], []⟩ ?_
  refine swp_ret ?_
  obtain rfl := inj h
  exact nx_r (q_br (q_rr (q_rr (q_br (q_rr (q_fr (f1 fv)))))))
  refine swp_skip ?_
  refine nx_n ?_
  refine sr ?_
  refine SRun.ck tbok 2 ⟨50, [(0, vl eOp aLog), (4, .ref 4 0), (8, vl eOp aLog), (9, vi (aLog.length : Int)), (10, vi s3.1), (18, vl eOp aLog), (19, vi s3.1)], [(4, .box (tc eOp x7))]⟩ ?_
  obtain ⟨x9, hx9, h⟩ := bind_some h
  refine SRun.ls (x_slice (m := 5) (f := eOp) (ti := ti27) (tj := ti53) (e := 53) hx9 (fun _ => rfl) tbok rfl) ?_
  obtain ⟨x10, hx10, h⟩ := bind_some h
  refine SRun.ls (xc ents50 (impl_vectorOf_run x9 _ hx10)) ?_
  refine ckn tbok 1 ⟨50, [(0, vl eOp aLog), (4, .ref 4 0), (5, .own 21), (8, vl eOp aLog), (9, vi (aLog.length : Int)), (10, vi s3.1)], [(4, .box (tc eOp x7)), (21, oa 2 1 (eI .i64) x10)]⟩ ?_
  refine swp_seq ?_
  refine srk tbok ⟨50, [(0, vl eOp aLog), (4, .ref 4 0), (5, .own 21), (8, vl eOp aLog), (9, vi (aLog.length : Int)), (10, vi s3.1), (23, vl (eI .i64) x7.Seen), (24, vi (x7.Seen.length : Int)), (25, vi 0)], [(4, .box (tc eOp x7)), (21, oa 2 1 (eI .i64) x10)]⟩ ?_
  refine swp_seqE (r := v6) h (fun j11 => ⟨50, [(0, vl eOp aLog), (4, .ref 4 0), (5, .own 5), (8, vl eOp aLog), (9, vi (aLog.length : Int)), (10, vi s3.1)], [(4, .box (tc eOp x7)), (5, oa 2 1 (eI .i64) x10)]⟩) (fun v12 h => ?_) (fun j11 h => ?_)
  refine swp_blk (a := v12) ?_
  refine swp_lpL (r := v12) (s := (0, ())) _ (fun s13 => ⟨50, [(0, vl eOp aLog), (4, .ref 4 0), (5, .own 5), (8, vl eOp aLog), (9, vi (aLog.length : Int)), (10, vi s3.1), (23, vl (eI .i64) x7.Seen), (24, vi (x7.Seen.length : Int)), (25, vi s13.1)], [(4, .box (tc eOp x7)), (5, oa 2 1 (eI .i64) x10)]⟩) _ (Le.rr [4, 21] [(21, 5)]) h (fun s13 v14 h => ?_)
  refine srk tbok ⟨50, [(0, vl eOp aLog), (4, .ref 4 0), (5, .own 5), (8, vl eOp aLog), (9, vi (aLog.length : Int)), (10, vi s3.1), (23, vl (eI .i64) x7.Seen), (24, vi (x7.Seen.length : Int)), (25, vi s13.1), (26, vb (decide (s13.1 < (x7.Seen.length : Int))))], [(4, .box (tc eOp x7)), (5, oa 2 1 (eI .i64) x10)]⟩ ?_
  refine swp_seq ?_
  refine swp_cd h (fun h => ?_) fun h => ?_
  refine swp_skip ?_
  refine nx_n ?_
  refine swp_seq ?_
  refine swp_seqL (r := v14) h (fun j15 => ⟨50, [(0, vl eOp aLog), (4, .ref 4 0), (5, .own 5), (8, vl eOp aLog), (9, vi (aLog.length : Int)), (10, vi s3.1), (23, vl (eI .i64) x7.Seen), (24, vi (x7.Seen.length : Int)), (25, vi s13.1)], [(4, .box (tc eOp x7)), (5, oa 2 1 (eI .i64) x10)]⟩) (fun v16 h => ?_) (fun j15 h => ?_)
  refine swp_blk (a := v16) ?_
  refine sr ?_
  refine SRun.ck tbok 1 ⟨50, [(0, vl eOp aLog), (4, .ref 4 0), (5, .own 5), (8, vl eOp aLog), (9, vi (aLog.length : Int)), (10, vi s3.1), (23, vl (eI .i64) x7.Seen), (24, vi (x7.Seen.length : Int)), (25, vi s13.1), (27, vi s13.1)], [(4, .box (tc eOp x7)), (5, oa 2 1 (eI .i64) x10)]⟩ ?_
  obtain ⟨x17, hx17, h⟩ := bind_some h
  refine SRun.ls (x_index (L := x7.Seen) (f := (eI .i64)) (ti := ti40) (tj := ti2) (e := 2) (k := .i64) tbok rfl hx17) ?_
  refine ckn tbok 3 ⟨50, [(0, vl eOp aLog), (4, .ref 4 0), (5, .own 5), (6, vi s13.1), (7, vi x17), (8, vl eOp aLog), (9, vi (aLog.length : Int)), (10, vi s3.1), (23, vl (eI .i64) x7.Seen), (24, vi (x7.Seen.length : Int)), (25, vi s13.1)], [(4, .box (tc eOp x7)), (5, oa 2 1 (eI .i64) x10)]⟩ ?_
  refine sr ?_
  refine SRun.ck tbok 3 ⟨50, [(0, vl eOp aLog), (4, .ref 4 0), (5, .own 5), (8, vl eOp aLog), (9, vi (aLog.length : Int)), (10, vi s3.1), (23, vl (eI .i64) x7.Seen), (24, vi (x7.Seen.length : Int)), (25, vi s13.1), (30, vi x17), (31, .own 5), (32, vi s13.1)], [(4, .box (tc eOp x7)), (5, oa 2 1 (eI .i64) x10)]⟩ ?_
  obtain ⟨x18, hx18, h⟩ := bind_some h
  refine SRun.ls (x_index_own (d := 5) (L := x10) (f := (eI .i64)) (ti := ti40) (tj := ti2) (e := 2) (e' := 2) (m := 1) (k := .i64) tbok rfl hx18) ?_
  refine SRun.ls (x_load_own (d := 5) (m := 1) (j := 0) (L := x10) (f := (eI .i64)) (ti := ti2) (e := 2) (v := vi x18) tbok rfl hx18) ?_
  refine ckn tbok 1 ⟨50, [(0, vl eOp aLog), (4, .ref 4 0), (5, .own 5), (8, vl eOp aLog), (9, vi (aLog.length : Int)), (10, vi s3.1), (23, vl (eI .i64) x7.Seen), (24, vi (x7.Seen.length : Int)), (25, vi s13.1), (35, vb (decide (x17 > x18)))], [(4, .box (tc eOp x7)), (5, oa 2 1 (eI .i64) x10)]⟩ ?_
  refine swp_cd h (fun h => ?_) fun h => ?_
  refine srk tbok ⟨50, [(2, vb false)], []⟩ ?_
  refine swp_ret ?_
  obtain rfl := inj h
  exact q_br (q_rr (q_rr (q_br (q_rr (q_br (q_rr (q_rr (q_br (q_rr (q_fr (f1 fv)))))))))))
  refine swp_skip ?_
  obtain rfl := inj h
  exact q_bn (q_l (Le.sub0))
  refine swp_reg ?_
  refine SRun.ck tbok 2 ⟨50, [(0, vl eOp aLog), (4, .ref 4 0), (5, .own 5), (8, vl eOp aLog), (9, vi (aLog.length : Int)), (10, vi s3.1), (23, vl (eI .i64) x7.Seen), (24, vi (x7.Seen.length : Int)), (25, vi (w64 (s13.1 + 1)))], [(4, .box (tc eOp x7)), (5, oa 2 1 (eI .i64) x10)]⟩ ?_
  refine SRun.nil ?_
  obtain rfl := inj h
  exact q_l (Le.sub0)
  refine swp_exit ?_
  obtain rfl := inj h
  exact nx_e (q_re (q_bh (q_l (Le.sub0))))
  refine swp_seq ?_
  refine swp_dr mixed ?_
  refine DGo.ck tbok false 5 ⟨50, [(0, vl eOp aLog), (8, vl eOp aLog), (9, vi (aLog.length : Int)), (10, vi s3.1), (38, vi x7.Number), (39, .own 5), (41, vi x7.Office)], [(5, oa 2 1 (eI .i64) x10)]⟩ ?_
  obtain ⟨x19, hx19, h⟩ := bind_some h
  refine DGo.step (x_index_own (d := 5) (L := x10) (f := (eI .i64)) (ti := ti40) (tj := ti2) (e := 2) (e' := 2) (m := 1) (k := .i64) tbok rfl hx19) ?_
  refine DGo.step (x_load_own (d := 5) (m := 1) (j := 0) (L := x10) (f := (eI .i64)) (ti := ti2) (e := 2) (v := vi x19) tbok rfl hx19) ?_
  refine DGo.ck tbok false 2 ⟨50, [(0, vl eOp aLog), (8, vl eOp aLog), (9, vi (aLog.length : Int)), (10, vi s3.1), (45, vb (x7.Number != (w64 (x19 + 1))))], []⟩ ?_
  refine DGo.nx ?_
  refine swp_cd h (fun h => ?_) fun h => ?_
  refine srk tbok ⟨50, [(2, vb false)], []⟩ ?_
  refine swp_ret ?_
  obtain rfl := inj h
  exact q_br (q_rr (q_rr (q_br (q_rr (q_fr (f1 fv))))))
  refine swp_skip ?_
  obtain rfl := inj h
  exact q_bn (q_l (Le.sub0))
  refine swp_reg ?_
  refine SRun.ck tbok 2 ⟨50, [(0, vl eOp aLog), (8, vl eOp aLog), (9, vi (aLog.length : Int)), (10, vi (w64 (s3.1 + 1)))], []⟩ ?_
  refine SRun.nil ?_
  obtain rfl := inj h
  exact q_l (Le.sub0)
  refine swp_exit ?_
  obtain rfl := inj h
  exact nx_e (q_re (q_bh (q_l (Le.sub0))))
  refine srk tbok ⟨50, [(2, vb (decide ((aLog.length : Int) ≤ 16)))], []⟩ ?_
  refine swp_ret ?_
  obtain rfl := inj h
  exact q_fr (f1 fv)
theorem ents27 : Ents Tryz.prog 27 := ents_of Tryz.func27 (by kernel_rfl) rfl
theorem impl_sorted_run (L r : List ByteArray) (h : impl_sorted L = some r) : CutCall Tryz.prog 59 9 1 (L.map eS) (r.map eS) := sorted_cut Tryz.lays190 rfl Tryz.lays194 rfl 9 L r h
theorem ents59 : Ents Tryz.prog 59 := ents_of Tryz.func59 (by kernel_rfl) rfl
noncomputable def impl_Op_knows (aX : Op) (aY : Op) : Option (Bool) :=
  ((at' aX.Seen aY.Office).bind fun x1 => some (decide (aY.Number ≤ x1)))
theorem impl_Op_knows_run (aX : Op) (aY : Op) (r : Bool) (h : impl_Op_knows aX aY = some r) : SCall Tryz.prog 94 [.v (.agg (tc eOp aX)), .v (.agg (tc eOp aY))] ⟨[.v (vb r)], [], false⟩ := by
  refine scall_in Tryz.func94 rfl [(.tmp 4)] rfl (fun r => ⟨[.v (vb r)], [], false⟩) (r := r) ?_
  unfold impl_Op_knows at h
  refine srk tbok ⟨14, [(2, .ref 2 0), (3, .ref 3 0)], [(2, .box (tc eOp aX)), (3, .box (tc eOp aY))]⟩ ?_
  refine swp_seq ?_
  refine swp_dr mixed ?_
  refine DGo.ck tbok false 6 ⟨14, [(6, vi aY.Number), (8, vl (eI .i64) aX.Seen), (10, vi aY.Office)], []⟩ ?_
  obtain ⟨x1, hx1, h⟩ := bind_some h
  refine DGo.step (x_index (L := aX.Seen) (f := (eI .i64)) (ti := ti40) (tj := ti2) (e := 2) (k := .i64) tbok rfl hx1) ?_
  refine DGo.ck tbok false 3 ⟨14, [(4, vb (decide (aY.Number ≤ x1)))], []⟩ ?_
  refine DGo.nx ?_
  refine swp_ret ?_
  obtain rfl := inj h
  exact q_fr (f1 fv)
theorem ents94 : Ents Tryz.prog 94 := ents_of Tryz.func94 (by kernel_rfl) rfl
noncomputable def impl_rivalsOf_1 (aY : Op) (c0 : ByteArray) (c1 : Op) : Option (Bool) :=
  (((bif (aY.Key.toList == c0.toList) then ((impl_Op_knows aY c1).bind fun x1 => some x1) else some false)).bind fun (j2 : Bool) => some j2)
theorem impl_rivalsOf_1_run (aY : Op) (c0 : ByteArray) (c1 : Op) (r : Bool) (h : impl_rivalsOf_1 aY c0 c1 = some r) : SCall Tryz.prog 93 [.v (.agg (tc eOp aY)), .v (.ptr [vs c0] 0), .v (.ptr [vi c1.Office, vi c1.Number, vs c1.Key, vs c1.Text, vl (eI .i64) c1.Seen] 0)] ⟨[.v (vb r)], [], false⟩ := by
  refine scall_in Tryz.func93 rfl [(.tmp 4)] rfl (fun r => ⟨[.v (vb r)], [], false⟩) (r := r) ?_
  unfold impl_rivalsOf_1 at h
  refine srk tbok ⟨14, [(1, .ptr [vs c0] 0), (2, .ptr [vi c1.Office, vi c1.Number, vs c1.Key, vs c1.Text, vl (eI .i64) c1.Seen] 0), (3, .ref 3 0)], [(3, .box (tc eOp aY))]⟩ ?_
  refine swp_seq ?_
  refine swp_regJ h (fun j2 => ⟨14, [(4, vb j2)], []⟩) (fun v3 h => ?_) (fun j2 h => ?_)
  refine SRun.ck tbok 5 ⟨14, [(2, .ptr [vi c1.Office, vi c1.Number, vs c1.Key, vs c1.Text, vl (eI .i64) c1.Seen] 0), (3, .ref 3 0), (9, vb (aY.Key.toList == c0.toList))], [(3, .box (tc eOp aY))]⟩ ?_
  refine SRun.cu [(9, fun b => b)] h (fun h => ?_) fun h => ?_
  refine SRun.ck tbok 2 ⟨14, [(9, vb true), (10, .agg (tc eOp aY)), (11, .agg (tc eOp c1))], []⟩ ?_
  obtain ⟨x1, hx1, h⟩ := bind_some h
  refine SRun.ls (xc ents94 (impl_Op_knows_run aY c1 _ hx1)) ?_
  refine SRun.ck tbok 2 ⟨14, [(4, vb x1)], []⟩ ?_
  refine SRun.nil ?_
  obtain rfl := inj h
  exact Le.sub0
  refine SRun.ck tbok 5 ⟨14, [(4, vb false)], []⟩ ?_
  refine SRun.nil ?_
  obtain rfl := inj h
  exact Le.sub0
  refine swp_ret ?_
  obtain rfl := inj h
  exact q_fr (f1 fv)
theorem ents93 : Ents Tryz.prog 93 := ents_of Tryz.func93 (by kernel_rfl) rfl
noncomputable def slices_IndexFunc_Op_impl_rivalsOf_1 (aS : (List Op)) (aF0 : ByteArray) (aF1 : Op) : Option (Int) :=
  (((forN (aS.length : Int) (fun (i3 : Int) (_ : Unit) => ((at' aS i3).bind fun x7 => ((impl_rivalsOf_1 x7 aF0 aF1).bind fun x8 => (bif x8 then some (.inr (.inr i3)) else some (.inl ()))))) (fun (_ : Unit) => .inl ()) 0 ())).bind (Sum.elim (fun (_ : Unit) => some (-1)) some))
theorem slices_IndexFunc_Op_impl_rivalsOf_1_run (aS : (List Op)) (aF0 : ByteArray) (aF1 : Op) (r : Int) (h : slices_IndexFunc_Op_impl_rivalsOf_1 aS aF0 aF1 = some r) : SCall Tryz.prog 67 [.v (vl eOp aS), .v (.clo 93 [.ptr [vs aF0] 0, .ptr [vi aF1.Office, vi aF1.Number, vs aF1.Key, vs aF1.Text, vl (eI .i64) aF1.Seen] 0])] ⟨[.v (vi r)], [], false⟩ := by
  refine scall_in Tryz.func67 rfl [(.tmp 4)] rfl (fun r => ⟨[.v (vi r)], [], false⟩) (r := r) ?_
  unfold slices_IndexFunc_Op_impl_rivalsOf_1 at h
  refine srk tbok ⟨19, [(0, vl eOp aS), (1, .clo 93 [.ptr [vs aF0] 0, .ptr [vi aF1.Office, vi aF1.Number, vs aF1.Key, vs aF1.Text, vl (eI .i64) aF1.Seen] 0])], []⟩ ?_
  refine swp_seq ?_
  refine srk tbok ⟨19, [(0, vl eOp aS), (1, .clo 93 [.ptr [vs aF0] 0, .ptr [vi aF1.Office, vi aF1.Number, vs aF1.Key, vs aF1.Text, vl (eI .i64) aF1.Seen] 0]), (7, vi (aS.length : Int)), (8, vi 0)], []⟩ ?_
  refine swp_seqE (r := r) h (fun j1 => ⟨19, [], []⟩) (fun v2 h => ?_) (fun j1 h => ?_)
  refine swp_blk (a := v2) ?_
  refine swp_lpL (r := v2) (s := (0, ())) _ (fun s3 => ⟨19, [(0, vl eOp aS), (1, .clo 93 [.ptr [vs aF0] 0, .ptr [vi aF1.Office, vi aF1.Number, vs aF1.Key, vs aF1.Text, vl (eI .i64) aF1.Seen] 0]), (7, vi (aS.length : Int)), (8, vi s3.1)], []⟩) _ (Le.sub0) h (fun s3 v4 h => ?_)
  refine srk tbok ⟨19, [(0, vl eOp aS), (1, .clo 93 [.ptr [vs aF0] 0, .ptr [vi aF1.Office, vi aF1.Number, vs aF1.Key, vs aF1.Text, vl (eI .i64) aF1.Seen] 0]), (7, vi (aS.length : Int)), (8, vi s3.1), (9, vb (decide (s3.1 < (aS.length : Int))))], []⟩ ?_
  refine swp_seq ?_
  refine swp_cd h (fun h => ?_) fun h => ?_
  refine swp_skip ?_
  refine nx_n ?_
  refine swp_seq ?_
  refine swp_seqL (r := v4) h (fun j5 => ⟨19, [(0, vl eOp aS), (1, .clo 93 [.ptr [vs aF0] 0, .ptr [vi aF1.Office, vi aF1.Number, vs aF1.Key, vs aF1.Text, vl (eI .i64) aF1.Seen] 0]), (7, vi (aS.length : Int)), (8, vi s3.1)], []⟩) (fun v6 h => ?_) (fun j5 h => ?_)
  refine swp_blk (a := v6) ?_
  refine srk tbok ⟨19, [(0, vl eOp aS), (1, .clo 93 [.ptr [vs aF0] 0, .ptr [vi aF1.Office, vi aF1.Number, vs aF1.Key, vs aF1.Text, vl (eI .i64) aF1.Seen] 0]), (5, vi s3.1), (7, vi (aS.length : Int)), (8, vi s3.1)], []⟩ ?_
  refine sr ?_
  refine SRun.ck tbok 3 ⟨19, [(0, vl eOp aS), (1, .clo 93 [.ptr [vs aF0] 0, .ptr [vi aF1.Office, vi aF1.Number, vs aF1.Key, vs aF1.Text, vl (eI .i64) aF1.Seen] 0]), (5, vi s3.1), (7, vi (aS.length : Int)), (8, vi s3.1), (11, .clo 93 [.ptr [vs aF0] 0, .ptr [vi aF1.Office, vi aF1.Number, vs aF1.Key, vs aF1.Text, vl (eI .i64) aF1.Seen] 0]), (12, vl eOp aS), (13, vi s3.1)], []⟩ ?_
  obtain ⟨x7, hx7, h⟩ := bind_some h
  refine SRun.ls (x_index (L := aS) (f := eOp) (ti := ti27) (tj := ti53) (e := 53) (k := .i64) tbok rfl hx7) ?_
  refine SRun.ck tbok 1 ⟨19, [(0, vl eOp aS), (1, .clo 93 [.ptr [vs aF0] 0, .ptr [vi aF1.Office, vi aF1.Number, vs aF1.Key, vs aF1.Text, vl (eI .i64) aF1.Seen] 0]), (5, vi s3.1), (7, vi (aS.length : Int)), (8, vi s3.1), (11, .clo 93 [.ptr [vs aF0] 0, .ptr [vi aF1.Office, vi aF1.Number, vs aF1.Key, vs aF1.Text, vl (eI .i64) aF1.Seen] 0]), (15, .agg (tc eOp x7))], []⟩ ?_
  obtain ⟨x8, hx8, h⟩ := bind_some h
  refine SRun.ls (xc ents93 (impl_rivalsOf_1_run x7 aF0 aF1 _ hx8)) ?_
  refine SRun.nx ?_
  refine swp_cd h (fun h => ?_) fun h => ?_
  refine srk tbok ⟨19, [(4, vi s3.1)], []⟩ ?_
  refine swp_ret ?_
  obtain rfl := inj h
  exact q_br (q_rr (q_rr (q_br (q_rr (q_fr (f1 fv))))))
  refine swp_skip ?_
  obtain rfl := inj h
  exact q_bn (q_l (Le.sub0))
  refine swp_reg ?_
  refine SRun.ck tbok 2 ⟨19, [(0, vl eOp aS), (1, .clo 93 [.ptr [vs aF0] 0, .ptr [vi aF1.Office, vi aF1.Number, vs aF1.Key, vs aF1.Text, vl (eI .i64) aF1.Seen] 0]), (7, vi (aS.length : Int)), (8, vi (w64 (s3.1 + 1)))], []⟩ ?_
  refine SRun.nil ?_
  obtain rfl := inj h
  exact q_l (Le.sub0)
  refine swp_exit ?_
  obtain rfl := inj h
  exact nx_e (q_re (q_bh (q_l (Le.sub0))))
  refine srk tbok ⟨19, [(4, vi (-1))], []⟩ ?_
  refine swp_ret ?_
  obtain rfl := inj h
  exact q_fr (f1 fv)
theorem ents67 : Ents Tryz.prog 67 := ents_of Tryz.func67 (by kernel_rfl) rfl
noncomputable def slices_ContainsFunc_Op_impl_rivalsOf_1 (aS : (List Op)) (aF0 : ByteArray) (aF1 : Op) : Option (Bool) :=
  ((slices_IndexFunc_Op_impl_rivalsOf_1 aS aF0 aF1).bind fun x1 => some (decide (x1 ≥ 0)))
theorem slices_ContainsFunc_Op_impl_rivalsOf_1_run (aS : (List Op)) (aF0 : ByteArray) (aF1 : Op) (r : Bool) (h : slices_ContainsFunc_Op_impl_rivalsOf_1 aS aF0 aF1 = some r) : SCall Tryz.prog 92 [.v (vl eOp aS), .v (.clo 93 [.ptr [vs aF0] 0, .ptr [vi aF1.Office, vi aF1.Number, vs aF1.Key, vs aF1.Text, vl (eI .i64) aF1.Seen] 0])] ⟨[.v (vb r)], [], false⟩ := by
  refine scall_in Tryz.func92 rfl [(.tmp 4)] rfl (fun r => ⟨[.v (vb r)], [], false⟩) (r := r) ?_
  unfold slices_ContainsFunc_Op_impl_rivalsOf_1 at h
  refine srk tbok ⟨9, [(0, vl eOp aS), (1, .clo 93 [.ptr [vs aF0] 0, .ptr [vi aF1.Office, vi aF1.Number, vs aF1.Key, vs aF1.Text, vl (eI .i64) aF1.Seen] 0])], []⟩ ?_
  refine sr ?_
  refine SRun.ck tbok 2 ⟨9, [(5, vl eOp aS), (6, .clo 93 [.ptr [vs aF0] 0, .ptr [vi aF1.Office, vi aF1.Number, vs aF1.Key, vs aF1.Text, vl (eI .i64) aF1.Seen] 0])], []⟩ ?_
  obtain ⟨x1, hx1, h⟩ := bind_some h
  refine SRun.ls (xc ents67 (slices_IndexFunc_Op_impl_rivalsOf_1_run aS aF0 aF1 _ hx1)) ?_
  refine ckn tbok 2 ⟨9, [(4, vb (decide (x1 ≥ 0)))], []⟩ ?_
  refine swp_ret ?_
  obtain rfl := inj h
  exact q_fr (f1 fv)
theorem ents92 : Ents Tryz.prog 92 := ents_of Tryz.func92 (by kernel_rfl) rfl
noncomputable def impl_rivalsOf (aLog : (List Op)) (aKey : ByteArray) : Option ((List Int)) :=
  (((forS (aLog.length : Int) (fun (i3 : Int) (s3 : (List Int)) => ((at' aLog i3).bind fun x7 => ((slices_ContainsFunc_Op_impl_rivalsOf_1 aLog aKey x7).bind fun x8 => (bif ((x7.Key.toList == aKey.toList) && (!x8)) then ((app' s3 ([i3] : List Int)).bind fun x9 => some x9) else some s3)))) (fun (s3 : (List Int)) => s3) 0 ([] : List Int))).bind fun (j1 : (List Int)) => some j1)
theorem impl_rivalsOf_run (aLog : (List Op)) (aKey : ByteArray) (r : (List Int)) (h : impl_rivalsOf aLog aKey = some r) : SCall Tryz.prog 82 [.v (vl eOp aLog), .v (vs aKey)] ⟨[.own 2 1 r.length (r.map (eI .i64))], [], false⟩ := by
  refine scall_in Tryz.func82 rfl [(.tmp 4)] rfl (fun r => ⟨[.own 2 1 r.length (r.map (eI .i64))], [], false⟩) (r := r) ?_
  unfold impl_rivalsOf at h
  refine srk tbok ⟨33, [(0, vl eOp aLog), (3, .ref 3 0)], [(3, .box [vs aKey])]⟩ ?_
  refine srk tbok ⟨33, [(0, vl eOp aLog), (3, .ref 3 0), (5, .own 5)], [(3, .box [vs aKey]), (5, oa 2 1 (eI .i64) ([] : List Int))]⟩ ?_
  refine swp_seq ?_
  refine srk tbok ⟨33, [(0, vl eOp aLog), (3, .ref 3 0), (5, .own 5), (9, vl eOp aLog), (10, vi (aLog.length : Int)), (11, vi 0)], [(3, .box [vs aKey]), (5, oa 2 1 (eI .i64) ([] : List Int))]⟩ ?_
  refine swp_seqJ h (fun j1 => ⟨33, [(5, .own 5)], [(5, oa 2 1 (eI .i64) j1)]⟩) (fun v2 h => ?_) (fun j1 h => ?_)
  refine swp_blk (a := v2) ?_
  refine swp_lpL (r := v2) (s := (0, ([] : List Int))) _ (fun s3 => ⟨33, [(0, vl eOp aLog), (3, .ref 3 0), (5, .own 5), (9, vl eOp aLog), (10, vi (aLog.length : Int)), (11, vi s3.1)], [(3, .box [vs aKey]), (5, oa 2 1 (eI .i64) s3.2)]⟩) _ (Le.sub0) h (fun s3 v4 h => ?_)
  refine srk tbok ⟨33, [(0, vl eOp aLog), (3, .ref 3 0), (5, .own 5), (9, vl eOp aLog), (10, vi (aLog.length : Int)), (11, vi s3.1), (12, vb (decide (s3.1 < (aLog.length : Int))))], [(3, .box [vs aKey]), (5, oa 2 1 (eI .i64) s3.2)]⟩ ?_
  refine swp_seq ?_
  refine swp_cd h (fun h => ?_) fun h => ?_
  refine swp_skip ?_
  refine nx_n ?_
  refine swp_seq ?_
  refine swp_seqJ h (fun j5 => ⟨33, [(0, vl eOp aLog), (3, .ref 3 0), (5, .own 5), (9, vl eOp aLog), (10, vi (aLog.length : Int)), (11, vi s3.1)], [(3, .box [vs aKey]), (5, oa 2 1 (eI .i64) j5)]⟩) (fun v6 h => ?_) (fun j5 h => ?_)
  refine swp_blk (a := v6) ?_
  refine sr ?_
  refine SRun.ck tbok 1 ⟨33, [(0, vl eOp aLog), (3, .ref 3 0), (5, .own 5), (9, vl eOp aLog), (10, vi (aLog.length : Int)), (11, vi s3.1), (13, vi s3.1)], [(3, .box [vs aKey]), (5, oa 2 1 (eI .i64) s3.2)]⟩ ?_
  obtain ⟨x7, hx7, h⟩ := bind_some h
  refine SRun.ls (x_index (L := aLog) (f := eOp) (ti := ti27) (tj := ti53) (e := 53) (k := .i64) tbok rfl hx7) ?_
  refine ckn tbok 4 ⟨33, [(0, vl eOp aLog), (3, .ref 3 0), (5, .own 5), (6, vi s3.1), (7, .ref 7 0), (9, vl eOp aLog), (10, vi (aLog.length : Int)), (11, vi s3.1)], [(3, .box [vs aKey]), (5, oa 2 1 (eI .i64) s3.2), (7, .box (tc eOp x7))]⟩ ?_
  refine sr ?_
  refine SRun.ck tbok 2 ⟨33, [(0, vl eOp aLog), (3, .ref 3 0), (5, .own 5), (6, vi s3.1), (7, .ref 7 0), (9, vl eOp aLog), (10, vi (aLog.length : Int)), (11, vi s3.1), (16, vl eOp aLog), (17, .clo 93 [.ref 3 0, .ref 7 0])], [(3, .box [vs aKey]), (5, oa 2 1 (eI .i64) s3.2), (7, .box (tc eOp x7))]⟩ ?_
  obtain ⟨x8, hx8, h⟩ := bind_some h
  refine SRun.ls (xc ents92 (slices_ContainsFunc_Op_impl_rivalsOf_1_run aLog aKey x7 _ hx8)) ?_
  refine ckn tbok 1 ⟨33, [(0, vl eOp aLog), (3, .ref 3 0), (5, .own 5), (6, vi s3.1), (7, .ref 7 0), (8, vb x8), (9, vl eOp aLog), (10, vi (aLog.length : Int)), (11, vi s3.1)], [(3, .box [vs aKey]), (5, oa 2 1 (eI .i64) s3.2), (7, .box (tc eOp x7))]⟩ ?_
  refine swp_seq ?_
  refine swp_regP ⟨33, [(0, vl eOp aLog), (3, .ref 3 0), (5, .own 5), (6, vi s3.1), (9, vl eOp aLog), (10, vi (aLog.length : Int)), (11, vi s3.1), (26, vb ((x7.Key.toList == aKey.toList) && (!x8)))], [(3, .box [vs aKey]), (5, oa 2 1 (eI .i64) s3.2)]⟩ ?_ ?_
  refine SRun.ck tbok 5 ⟨33, [(0, vl eOp aLog), (3, .ref 3 0), (5, .own 5), (6, vi s3.1), (8, vb x8), (9, vl eOp aLog), (10, vi (aLog.length : Int)), (11, vi s3.1), (23, vb (x7.Key.toList == aKey.toList))], [(3, .box [vs aKey]), (5, oa 2 1 (eI .i64) s3.2)]⟩ ?_
  generalize (x7.Key.toList == aKey.toList) = bb
  cases bb
  refine SRun.ck tbok 3 ⟨33, [(0, vl eOp aLog), (3, .ref 3 0), (5, .own 5), (6, vi s3.1), (9, vl eOp aLog), (10, vi (aLog.length : Int)), (11, vi s3.1), (26, vb false)], [(3, .box [vs aKey]), (5, oa 2 1 (eI .i64) s3.2)]⟩ ?_
  exact SRun.nil (Le.sub0)
  refine SRun.ck tbok 3 ⟨33, [(0, vl eOp aLog), (3, .ref 3 0), (5, .own 5), (6, vi s3.1), (9, vl eOp aLog), (10, vi (aLog.length : Int)), (11, vi s3.1), (26, vb (!x8))], [(3, .box [vs aKey]), (5, oa 2 1 (eI .i64) s3.2)]⟩ ?_
  exact SRun.nil (Le.sub0)
  refine swp_cd h (fun h => ?_) fun h => ?_
  refine swp_reg ?_
  refine SRun.ck tbok 3 ⟨33, [(0, vl eOp aLog), (3, .ref 3 0), (9, vl eOp aLog), (10, vi (aLog.length : Int)), (11, vi s3.1), (27, .own 5), (29, .own 29)], [(3, .box [vs aKey]), (5, oa 2 1 (eI .i64) s3.2), (29, oa 2 1 (eI .i64) ([s3.1] : List Int))]⟩ ?_
  obtain ⟨x9, hx9, h⟩ := bind_some h
  refine SRun.estep (x_append (f := (eI .i64)) (t := 40) (ti := ti40) (tj := ti2) (zs := [.int .i64 0]) (e := 2) (m := 1) (d := 5) (xv := .own 29) hx9 tbok rfl rfl rfl rfl (x_src_o (e := 2))) ?_
  refine SRun.ck tbok 1 ⟨33, [(0, vl eOp aLog), (3, .ref 3 0), (5, .own 30), (9, vl eOp aLog), (10, vi (aLog.length : Int)), (11, vi s3.1)], [(3, .box [vs aKey]), (30, oa 2 1 (eI .i64) x9)]⟩ ?_
  refine SRun.nil ?_
  obtain rfl := inj h
  exact q_bn (q_j (Le.rr [3, 30] [(30, 5)]))
  refine swp_skip ?_
  obtain rfl := inj h
  exact q_bn (q_j (Le.sub0))
  refine swp_reg ?_
  refine SRun.ck tbok 2 ⟨33, [(0, vl eOp aLog), (3, .ref 3 0), (5, .own 5), (9, vl eOp aLog), (10, vi (aLog.length : Int)), (11, vi (w64 (s3.1 + 1)))], [(3, .box [vs aKey]), (5, oa 2 1 (eI .i64) j5)]⟩ ?_
  refine SRun.nil ?_
  obtain rfl := inj h
  exact q_l (Le.sub0)
  refine swp_exit ?_
  obtain rfl := inj h
  exact nx_e (q_re (q_bh (q_j (Le.sub0))))
  refine srk tbok ⟨33, [(4, .own 5)], [(5, oa 2 1 (eI .i64) j1)]⟩ ?_
  refine swp_ret ?_
  obtain rfl := inj h
  exact q_fr (f1 (fo (eI_flat .i64)))
theorem ents82 : Ents Tryz.prog 82 := ents_of Tryz.func82 (by kernel_rfl) rfl
noncomputable def impl_textOf (aLog : (List Op)) (aKey : ByteArray) : Option (ByteArray × Bool) :=
  ((impl_rivalsOf aLog aKey).bind fun x1 => (((forS (x1.length : Int) (fun (i4 : Int) (s4 : Int) => ((at' x1 i4).bind fun x8 => (((bif (decide (s4 < 0)) then some true else ((at' aLog x8).bind fun x9 => ((at' aLog s4).bind fun x10 => some (decide (x9.Office > x10.Office)))))).bind fun (j11 : Bool) => (bif j11 then some x8 else some s4)))) (fun (s4 : Int) => s4) 0 (-1))).bind fun (j2 : Int) => (bif (decide (j2 < 0)) then some ((ByteArray.mk #[]), false) else ((at' aLog j2).bind fun x13 => some (x13.Text, true)))))
theorem impl_textOf_run (aLog : (List Op)) (aKey : ByteArray) (r : ByteArray × Bool) (h : impl_textOf aLog aKey = some r) : SCall Tryz.prog 60 [.v (vl eOp aLog), .v (vs aKey)] ⟨[.v (vs r.1), .v (vb r.2)], [], false⟩ := by
  refine scall_in Tryz.func60 rfl [(.tmp 4), (.tmp 5)] rfl (fun r => ⟨[.v (vs r.1), .v (vb r.2)], [], false⟩) (r := r) ?_
  unfold impl_textOf at h
  refine srk tbok ⟨41, [(0, vl eOp aLog), (1, vs aKey)], []⟩ ?_
  refine srk tbok ⟨41, [(0, vl eOp aLog), (1, vs aKey), (6, vi (-1))], []⟩ ?_
  refine swp_seq ?_
  refine sr ?_
  refine SRun.ck tbok 2 ⟨41, [(0, vl eOp aLog), (6, vi (-1)), (9, vl eOp aLog), (10, vs aKey)], []⟩ ?_
  obtain ⟨x1, hx1, h⟩ := bind_some h
  refine SRun.ls (xc ents82 (impl_rivalsOf_run aLog aKey _ hx1)) ?_
  refine ckn tbok 2 ⟨41, [(0, vl eOp aLog), (6, vi (-1)), (11, .own 11), (12, vi (x1.length : Int)), (13, vi 0)], [(11, oa 2 1 (eI .i64) x1)]⟩ ?_
  refine swp_seqJ h (fun j2 => ⟨41, [(0, vl eOp aLog), (6, vi j2)], []⟩) (fun v3 h => ?_) (fun j2 h => ?_)
  refine swp_blk (a := v3) ?_
  refine swp_lpL (r := v3) (s := (0, (-1))) _ (fun s4 => ⟨41, [(0, vl eOp aLog), (6, vi s4.2), (11, .own 11), (12, vi (x1.length : Int)), (13, vi s4.1)], [(11, oa 2 1 (eI .i64) x1)]⟩) _ (Le.sub0) h (fun s4 v5 h => ?_)
  refine srk tbok ⟨41, [(0, vl eOp aLog), (6, vi s4.2), (11, .own 11), (12, vi (x1.length : Int)), (13, vi s4.1), (14, vb (decide (s4.1 < (x1.length : Int))))], [(11, oa 2 1 (eI .i64) x1)]⟩ ?_
  refine swp_seq ?_
  refine swp_cd h (fun h => ?_) fun h => ?_
  refine swp_skip ?_
  refine nx_n ?_
  refine swp_seq ?_
  refine swp_seqJ h (fun j6 => ⟨41, [(0, vl eOp aLog), (6, vi j6), (11, .own 11), (12, vi (x1.length : Int)), (13, vi s4.1)], [(11, oa 2 1 (eI .i64) x1)]⟩) (fun v7 h => ?_) (fun j6 h => ?_)
  refine swp_blk (a := v7) ?_
  refine sr ?_
  obtain ⟨x8, hx8, h⟩ := bind_some h
  refine SRun.ls (x_index_own (d := 11) (L := x1) (f := (eI .i64)) (ti := ti40) (tj := ti2) (e := 2) (e' := 2) (m := 1) (k := .i64) tbok rfl hx8) ?_
  refine SRun.ls (x_load_own (d := 11) (m := 1) (j := 0) (L := x1) (f := (eI .i64)) (ti := ti2) (e := 2) (v := vi x8) tbok rfl hx8) ?_
  refine ckn tbok 1 ⟨41, [(0, vl eOp aLog), (6, vi s4.2), (8, vi x8), (11, .own 11), (12, vi (x1.length : Int)), (13, vi s4.1)], [(11, oa 2 1 (eI .i64) x1)]⟩ ?_
  refine swp_seq ?_
  refine swp_drJ mixed h (fun j11 => ⟨41, [(0, vl eOp aLog), (6, vi s4.2), (8, vi x8), (11, .own 11), (12, vi (x1.length : Int)), (13, vi s4.1), (31, vb j11)], [(11, oa 2 1 (eI .i64) x1)]⟩) (fun v12 h => ?_) (fun j11 h => ?_)
  refine DGo.ck tbok false 3 ⟨41, [(0, vl eOp aLog), (6, vi s4.2), (8, vi x8), (11, .own 11), (12, vi (x1.length : Int)), (13, vi s4.1), (19, vb (decide (s4.2 < 0)))], [(11, oa 2 1 (eI .i64) x1)]⟩ ?_
  refine DGo.cu [(19, fun b => b)] h (fun h => ?_) fun h => ?_
  refine DGo.ck tbok false 12 ⟨41, [(0, vl eOp aLog), (6, vi s4.2), (8, vi x8), (11, .own 11), (12, vi (x1.length : Int)), (13, vi s4.1), (31, vb true)], [(11, oa 2 1 (eI .i64) x1)]⟩ ?_
  refine DGo.nil (by kernel_rfl) ?_
  obtain rfl := inj h
  exact Le.sub0
  refine DGo.ck tbok false 2 ⟨41, [(0, vl eOp aLog), (6, vi s4.2), (8, vi x8), (11, .own 11), (12, vi (x1.length : Int)), (13, vi s4.1), (19, vb false), (20, vl eOp aLog), (21, vi x8)], [(11, oa 2 1 (eI .i64) x1)]⟩ ?_
  obtain ⟨x9, hx9, h⟩ := bind_some h
  refine DGo.step (x_index (L := aLog) (f := eOp) (ti := ti27) (tj := ti53) (e := 53) (k := .i64) tbok rfl hx9) ?_
  refine DGo.ck tbok false 4 ⟨41, [(0, vl eOp aLog), (6, vi s4.2), (8, vi x8), (11, .own 11), (12, vi (x1.length : Int)), (13, vi s4.1), (19, vb false), (24, vi x9.Office), (25, vl eOp aLog), (26, vi s4.2)], [(11, oa 2 1 (eI .i64) x1)]⟩ ?_
  obtain ⟨x10, hx10, h⟩ := bind_some h
  refine DGo.step (x_index (L := aLog) (f := eOp) (ti := ti27) (tj := ti53) (e := 53) (k := .i64) tbok rfl hx10) ?_
  refine DGo.ck tbok false 4 ⟨41, [(0, vl eOp aLog), (6, vi s4.2), (8, vi x8), (11, .own 11), (12, vi (x1.length : Int)), (13, vi s4.1), (31, vb (decide (x9.Office > x10.Office)))], [(11, oa 2 1 (eI .i64) x1)]⟩ ?_
  refine DGo.nil (by kernel_rfl) ?_
  obtain rfl := inj h
  exact Le.sub0
  refine swp_cd h (fun h => ?_) fun h => ?_
  refine swp_reg ?_
  refine SRun.ck tbok 2 ⟨41, [(0, vl eOp aLog), (6, vi x8), (11, .own 11), (12, vi (x1.length : Int)), (13, vi s4.1)], [(11, oa 2 1 (eI .i64) x1)]⟩ ?_
  refine SRun.nil ?_
  obtain rfl := inj h
  exact q_bn (q_j (Le.sub0))
  refine swp_skip ?_
  obtain rfl := inj h
  exact q_bn (q_j (Le.sub0))
  refine swp_reg ?_
  refine SRun.ck tbok 2 ⟨41, [(0, vl eOp aLog), (6, vi j6), (11, .own 11), (12, vi (x1.length : Int)), (13, vi (w64 (s4.1 + 1)))], [(11, oa 2 1 (eI .i64) x1)]⟩ ?_
  refine SRun.nil ?_
  obtain rfl := inj h
  exact q_l (Le.sub0)
  refine swp_exit ?_
  obtain rfl := inj h
  exact nx_e (q_re (q_bh (q_j (Le.sub0))))
  refine swp_seq ?_
  refine srk tbok ⟨41, [(0, vl eOp aLog), (6, vi j2), (35, vb (decide (j2 < 0)))], []⟩ ?_
  refine swp_cd h (fun h => ?_) fun h => ?_
  refine srk tbok ⟨41, [(4, vs (ByteArray.mk #[])), (5, vb false)], []⟩ ?_
  refine swp_ret ?_
  obtain rfl := inj h
  exact nx_r (q_fr (f2 fv fv))
  refine swp_skip ?_
  refine nx_n ?_
  refine sr ?_
  refine SRun.ck tbok 2 ⟨41, [(36, vl eOp aLog), (37, vi j2)], []⟩ ?_
  obtain ⟨x13, hx13, h⟩ := bind_some h
  refine SRun.ls (x_index (L := aLog) (f := eOp) (ti := ti27) (tj := ti53) (e := 53) (k := .i64) tbok rfl hx13) ?_
  refine ckn tbok 4 ⟨41, [(4, vs x13.Text), (5, vb true)], []⟩ ?_
  refine swp_ret ?_
  obtain rfl := inj h
  exact q_fr (f2 fv fv)
theorem ents60 : Ents Tryz.prog 60 := ents_of Tryz.func60 (by kernel_rfl) rfl
noncomputable def impl_stateOf (aLog : (List Op)) : Option ((List ByteArray)) :=
  (((forS (aLog.length : Int) (fun (i3 : Int) (s3 : (List ByteArray)) => ((at' aLog i3).bind fun x7 => ((app' s3 ([x7.Key] : List ByteArray)).bind fun x8 => some x8))) (fun (s3 : (List ByteArray)) => s3) 0 ([] : List ByteArray))).bind fun (j1 : (List ByteArray)) => ((impl_sorted j1).bind fun x9 => (((forS (x9.length : Int) (fun (i12 : Int) (s12 : (List ByteArray)) => ((at' x9 i12).bind fun x16 => ((impl_textOf aLog x16).bind fun x17 => ((cat' x16 (ByteArray.mk #[61])).bind fun x18 => ((cat' x18 x17.1).bind fun x19 => ((app' s12 ([x19] : List ByteArray)).bind fun x20 => some x20)))))) (fun (s12 : (List ByteArray)) => s12) 0 ([] : List ByteArray))).bind fun (j10 : (List ByteArray)) => some j10)))
theorem impl_stateOf_run (aLog : (List Op)) (r : (List ByteArray)) (h : impl_stateOf aLog = some r) : SCall Tryz.prog 33 [.v (vl eOp aLog)] ⟨[.own 9 1 r.length (r.map eS)], [], false⟩ := by
  refine scall_in Tryz.func33 rfl [(.tmp 2)] rfl (fun r => ⟨[.own 9 1 r.length (r.map eS)], [], false⟩) (r := r) ?_
  unfold impl_stateOf at h
  refine srk tbok ⟨45, [(0, vl eOp aLog)], []⟩ ?_
  refine srk tbok ⟨45, [(0, vl eOp aLog), (3, .own 3)], [(3, oa 9 1 eS ([] : List ByteArray))]⟩ ?_
  refine swp_seq ?_
  refine srk tbok ⟨45, [(0, vl eOp aLog), (3, .own 3), (11, vl eOp aLog), (12, vi (aLog.length : Int)), (13, vi 0)], [(3, oa 9 1 eS ([] : List ByteArray))]⟩ ?_
  refine swp_seqJ h (fun j1 => ⟨45, [(0, vl eOp aLog), (3, .own 3)], [(3, oa 9 1 eS j1)]⟩) (fun v2 h => ?_) (fun j1 h => ?_)
  refine swp_blk (a := v2) ?_
  refine swp_lpL (r := v2) (s := (0, ([] : List ByteArray))) _ (fun s3 => ⟨45, [(0, vl eOp aLog), (3, .own 3), (11, vl eOp aLog), (12, vi (aLog.length : Int)), (13, vi s3.1)], [(3, oa 9 1 eS s3.2)]⟩) _ (Le.sub0) h (fun s3 v4 h => ?_)
  refine srk tbok ⟨45, [(0, vl eOp aLog), (3, .own 3), (11, vl eOp aLog), (12, vi (aLog.length : Int)), (13, vi s3.1), (14, vb (decide (s3.1 < (aLog.length : Int))))], [(3, oa 9 1 eS s3.2)]⟩ ?_
  refine swp_seq ?_
  refine swp_cd h (fun h => ?_) fun h => ?_
  refine swp_skip ?_
  refine nx_n ?_
  refine swp_seq ?_
  refine swp_seqJ h (fun j5 => ⟨45, [(0, vl eOp aLog), (3, .own 3), (11, vl eOp aLog), (12, vi (aLog.length : Int)), (13, vi s3.1)], [(3, oa 9 1 eS j5)]⟩) (fun v6 h => ?_) (fun j5 h => ?_)
  refine swp_blk (a := v6) ?_
  refine sr ?_
  obtain ⟨x7, hx7, h⟩ := bind_some h
  refine SRun.ls (x_index (L := aLog) (f := eOp) (ti := ti27) (tj := ti53) (e := 53) (k := .i64) tbok rfl hx7) ?_
  refine ckn tbok 3 ⟨45, [(0, vl eOp aLog), (3, .own 3), (5, .ref 5 0), (11, vl eOp aLog), (12, vi (aLog.length : Int)), (13, vi s3.1)], [(3, oa 9 1 eS s3.2), (5, .box (tc eOp x7))]⟩ ?_
  refine swp_reg ?_
  refine SRun.ck tbok 4 ⟨45, [(0, vl eOp aLog), (11, vl eOp aLog), (12, vi (aLog.length : Int)), (13, vi s3.1), (17, .own 3), (20, .own 20)], [(3, oa 9 1 eS s3.2), (20, oa 9 1 eS ([x7.Key] : List ByteArray))]⟩ ?_
  obtain ⟨x8, hx8, h⟩ := bind_some h
  refine SRun.estep (x_append (f := eS) (t := 24) (ti := ti24) (tj := ti9) (zs := [.string (ByteArray.mk #[])]) (e := 9) (m := 1) (d := 3) (xv := .own 20) hx8 tbok rfl rfl rfl rfl (x_src_o (e := 9))) ?_
  refine SRun.ck tbok 1 ⟨45, [(0, vl eOp aLog), (3, .own 21), (11, vl eOp aLog), (12, vi (aLog.length : Int)), (13, vi s3.1)], [(21, oa 9 1 eS x8)]⟩ ?_
  refine SRun.nil ?_
  obtain rfl := inj h
  exact q_bn (q_j (Le.rr [21] [(21, 3)]))
  refine swp_reg ?_
  refine SRun.ck tbok 2 ⟨45, [(0, vl eOp aLog), (3, .own 3), (11, vl eOp aLog), (12, vi (aLog.length : Int)), (13, vi (w64 (s3.1 + 1)))], [(3, oa 9 1 eS j5)]⟩ ?_
  refine SRun.nil ?_
  obtain rfl := inj h
  exact q_l (Le.sub0)
  refine swp_exit ?_
  obtain rfl := inj h
  exact nx_e (q_re (q_bh (q_j (Le.sub0))))
  refine srk tbok ⟨45, [(0, vl eOp aLog), (3, .own 3), (6, .own 6)], [(3, oa 9 1 eS j1), (6, oa 9 1 eS ([] : List ByteArray))]⟩ ?_
  refine swp_seq ?_
  refine sr ?_
  refine SRun.ck tbok 1 ⟨45, [(0, vl eOp aLog), (6, .own 6), (23, .own 3)], [(3, oa 9 1 eS j1), (6, oa 9 1 eS ([] : List ByteArray))]⟩ ?_
  obtain ⟨x9, hx9, h⟩ := bind_some h
  refine SRun.estep (ecut (d := 3) (d0 := 24) (n := j1.length) (n' := x9.length) (es := j1.map eS) ents59 (impl_sorted_run j1 _ hx9) (flat_map eS_flat _) (flat_map eS_flat _) rfl rfl rfl (List.length_map _) (List.length_map _)) ?_
  refine ckn tbok 2 ⟨45, [(0, vl eOp aLog), (6, .own 6), (24, .own 24), (25, vi (x9.length : Int)), (26, vi 0)], [(6, oa 9 1 eS ([] : List ByteArray)), (24, oa 9 1 eS x9)]⟩ ?_
  refine swp_seqJ h (fun j10 => ⟨45, [(6, .own 6)], [(6, oa 9 1 eS j10)]⟩) (fun v11 h => ?_) (fun j10 h => ?_)
  refine swp_blk (a := v11) ?_
  refine swp_lpL (r := v11) (s := (0, ([] : List ByteArray))) _ (fun s12 => ⟨45, [(0, vl eOp aLog), (6, .own 6), (24, .own 24), (25, vi (x9.length : Int)), (26, vi s12.1)], [(6, oa 9 1 eS s12.2), (24, oa 9 1 eS x9)]⟩) _ (Le.sub0) h (fun s12 v13 h => ?_)
  refine srk tbok ⟨45, [(0, vl eOp aLog), (6, .own 6), (24, .own 24), (25, vi (x9.length : Int)), (26, vi s12.1), (27, vb (decide (s12.1 < (x9.length : Int))))], [(6, oa 9 1 eS s12.2), (24, oa 9 1 eS x9)]⟩ ?_
  refine swp_seq ?_
  refine swp_cd h (fun h => ?_) fun h => ?_
  refine swp_skip ?_
  refine nx_n ?_
  refine swp_seq ?_
  refine swp_seqJ h (fun j14 => ⟨45, [(0, vl eOp aLog), (6, .own 6), (24, .own 24), (25, vi (x9.length : Int)), (26, vi s12.1)], [(6, oa 9 1 eS j14), (24, oa 9 1 eS x9)]⟩) (fun v15 h => ?_) (fun j14 h => ?_)
  refine swp_blk (a := v15) ?_
  refine sr ?_
  obtain ⟨x16, hx16, h⟩ := bind_some h
  refine SRun.ls (x_index_own (d := 24) (L := x9) (f := eS) (ti := ti24) (tj := ti9) (e := 9) (e' := 9) (m := 1) (k := .i64) tbok rfl hx16) ?_
  refine SRun.ls (x_load_own (d := 24) (m := 1) (j := 0) (L := x9) (f := eS) (ti := ti9) (e := 9) (v := vs x16) tbok rfl hx16) ?_
  refine ckn tbok 1 ⟨45, [(0, vl eOp aLog), (6, .own 6), (8, vs x16), (24, .own 24), (25, vi (x9.length : Int)), (26, vi s12.1)], [(6, oa 9 1 eS s12.2), (24, oa 9 1 eS x9)]⟩ ?_
  refine sr ?_
  refine SRun.ck tbok 2 ⟨45, [(0, vl eOp aLog), (6, .own 6), (8, vs x16), (24, .own 24), (25, vi (x9.length : Int)), (26, vi s12.1), (31, vl eOp aLog), (32, vs x16)], [(6, oa 9 1 eS s12.2), (24, oa 9 1 eS x9)]⟩ ?_
  obtain ⟨x17, hx17, h⟩ := bind_some h
  refine SRun.ls (xc ents60 (impl_textOf_run aLog x16 _ hx17)) ?_
  refine ckn tbok 5 ⟨45, [(0, vl eOp aLog), (6, .own 6), (8, vs x16), (9, vs x17.1), (24, .own 24), (25, vi (x9.length : Int)), (26, vi s12.1)], [(6, oa 9 1 eS s12.2), (24, oa 9 1 eS x9)]⟩ ?_
  refine swp_reg ?_
  refine SRun.ck tbok 2 ⟨45, [(0, vl eOp aLog), (9, vs x17.1), (24, .own 24), (25, vi (x9.length : Int)), (26, vi s12.1), (36, .own 6), (37, vs x16)], [(6, oa 9 1 eS s12.2), (24, oa 9 1 eS x9)]⟩ ?_
  obtain ⟨x18, hx18, h⟩ := bind_some h
  refine SRun.ls (x_cat hx18 rfl) ?_
  refine SRun.ck tbok 1 ⟨45, [(0, vl eOp aLog), (24, .own 24), (25, vi (x9.length : Int)), (26, vi s12.1), (36, .own 6), (38, vs x18), (39, vs x17.1)], [(6, oa 9 1 eS s12.2), (24, oa 9 1 eS x9)]⟩ ?_
  obtain ⟨x19, hx19, h⟩ := bind_some h
  refine SRun.ls (x_cat hx19 rfl) ?_
  refine SRun.ck tbok 1 ⟨45, [(0, vl eOp aLog), (24, .own 24), (25, vi (x9.length : Int)), (26, vi s12.1), (36, .own 6), (41, .own 41)], [(6, oa 9 1 eS s12.2), (24, oa 9 1 eS x9), (41, oa 9 1 eS ([x19] : List ByteArray))]⟩ ?_
  obtain ⟨x20, hx20, h⟩ := bind_some h
  refine SRun.estep (x_append (f := eS) (t := 24) (ti := ti24) (tj := ti9) (zs := [.string (ByteArray.mk #[])]) (e := 9) (m := 1) (d := 6) (xv := .own 41) hx20 tbok rfl rfl rfl rfl (x_src_o (e := 9))) ?_
  refine SRun.ck tbok 1 ⟨45, [(0, vl eOp aLog), (6, .own 42), (24, .own 24), (25, vi (x9.length : Int)), (26, vi s12.1)], [(24, oa 9 1 eS x9), (42, oa 9 1 eS x20)]⟩ ?_
  refine SRun.nil ?_
  obtain rfl := inj h
  exact q_bn (q_j (Le.rr [24, 42] [(42, 6)]))
  refine swp_reg ?_
  refine SRun.ck tbok 2 ⟨45, [(0, vl eOp aLog), (6, .own 6), (24, .own 24), (25, vi (x9.length : Int)), (26, vi (w64 (s12.1 + 1)))], [(6, oa 9 1 eS j14), (24, oa 9 1 eS x9)]⟩ ?_
  refine SRun.nil ?_
  obtain rfl := inj h
  exact q_l (Le.sub0)
  refine swp_exit ?_
  obtain rfl := inj h
  exact nx_e (q_re (q_bh (q_j (Le.sub0))))
  refine srk tbok ⟨45, [(2, .own 6)], [(6, oa 9 1 eS j10)]⟩ ?_
  refine swp_ret ?_
  obtain rfl := inj h
  exact q_fr (f1 (fo eS_flat))
theorem ents33 : Ents Tryz.prog 33 := ents_of Tryz.func33 (by kernel_rfl) rfl
noncomputable def impl_StateOfLog (aLog : (List Op)) : Option ((List ByteArray) × Int) :=
  ((impl_IsLog aLog).bind fun x1 => (bif (!x1) then some (([] : List ByteArray), 1) else ((impl_stateOf aLog).bind fun x2 => some (x2, 0))))
theorem impl_StateOfLog_run (aLog : (List Op)) (r : (List ByteArray) × Int) (h : impl_StateOfLog aLog = some r) : SCall Tryz.prog 8 [.v (vl eOp aLog)] ⟨[.own 9 1 r.1.length (r.1.map eS), .v (vi r.2)], [], false⟩ := by
  refine scall_in Tryz.func8 rfl [(.tmp 2), (.tmp 3)] rfl (fun r => ⟨[.own 9 1 r.1.length (r.1.map eS), .v (vi r.2)], [], false⟩) (r := r) ?_
  unfold impl_StateOfLog at h
  refine srk tbok ⟨9, [(0, vl eOp aLog)], []⟩ ?_
  refine swp_seq ?_
  refine sr ?_
  refine SRun.ck tbok 1 ⟨9, [(0, vl eOp aLog), (4, vl eOp aLog)], []⟩ ?_
  obtain ⟨x1, hx1, h⟩ := bind_some h
  refine SRun.ls (xc ents27 (impl_IsLog_run aLog _ hx1)) ?_
  refine ckn tbok 1 ⟨9, [(0, vl eOp aLog), (6, vb (!x1))], []⟩ ?_
  refine swp_cd h (fun h => ?_) fun h => ?_
  refine srk tbok ⟨9, [(2, .own 2), (3, vi 1)], [(2, oa 9 1 eS ([] : List ByteArray))]⟩ ?_
  refine swp_ret ?_
  obtain rfl := inj h
  exact nx_r (q_fr (f2 (fo eS_flat) fv))
  refine swp_skip ?_
  refine nx_n ?_
  refine sr ?_
  refine SRun.ck tbok 1 ⟨9, [(7, vl eOp aLog)], []⟩ ?_
  obtain ⟨x2, hx2, h⟩ := bind_some h
  refine SRun.ls (xc ents33 (impl_stateOf_run aLog _ hx2)) ?_
  refine ckn tbok 2 ⟨9, [(2, .own 8), (3, vi 0)], [(8, oa 9 1 eS x2)]⟩ ?_
  refine swp_ret ?_
  obtain rfl := inj h
  exact q_fr (f2 (fo eS_flat) fv)
theorem ents8 : Ents Tryz.prog 8 := ents_of Tryz.func8 (by kernel_rfl) rfl
end Go.Proofs.YtbaainlnmackeaaGreatDoor.Sh
