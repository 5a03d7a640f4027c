/- Typed functions and the calls that do what they say. -/
import Derived.Test.YtlbfeieehmpldaaDoorSB
import Derived.Test.YtlbfeieehmpldaaDoorKN
import Derived.Test.YtlbfeieehmpldaaDoorKS
import Derived.Test.YtlbfeieehmpldaaDoorH1
namespace Go.Proofs.YtlbfeieehmpldaaDoor.Sh
open Go.RowKit
set_option maxRecDepth 100000
set_option maxHeartbeats 4000000

def ti2 : TI := ⟨1, 8, .int .i64, [.int .i64 0]⟩
def ti4 : TI := ⟨1, 1, .bool, [.bool false]⟩
def ti5 : TI := ⟨1, 1, .int .u8, [.int .u8 0]⟩
def ti9 : TI := ⟨1, 16, .str, [.str (ByteArray.mk #[])]⟩
def ti23 : TI := ⟨1, 24, .slice 9, [.sl ([] : List ByteArray).length (([] : List ByteArray).map eS)]⟩
def ti36 : TI := ⟨1, 24, .slice 5, [.sl ([] : List Int).length (([] : List Int).map (eI .u8))]⟩
def tbl : Tb := [(2, ti2), (4, ti4), (5, ti5), (9, ti9), (23, ti23), (36, ti36)]
theorem tbok : TbOk Tryd.prog tbl := TbOk.cons ⟨by kernel_rfl, show Tryd.prog.underlying 2 = some (.int .i64) from by kernel_rfl⟩ (TbOk.cons ⟨by kernel_rfl, show Tryd.prog.underlying 4 = some (.bool) from by kernel_rfl⟩ (TbOk.cons ⟨by kernel_rfl, show Tryd.prog.underlying 5 = some (.int .u8) from by kernel_rfl⟩ (TbOk.cons ⟨by kernel_rfl, show Tryd.prog.underlying 9 = some (.string) from by kernel_rfl⟩ (TbOk.cons ⟨by kernel_rfl, show Tryd.prog.underlying 23 = some (.slice 9) from by kernel_rfl⟩ (TbOk.cons ⟨by kernel_rfl, show Tryd.prog.underlying 36 = some (.slice 5) from by kernel_rfl⟩ (TbOk.nil _))))))
theorem mixed : Tryd.prog.follows .mixedOrders = true := by kernel_rfl
noncomputable def spec_l01Split (aS : ByteArray) (aBy : Int) : Option ((List ByteArray)) :=
  (((forH (fun (i3 : Int) (_ : Int × (List ByteArray)) => (decide (i3 ≤ (aS.size : Int)))) (fun (i3 : Int) (s3 : Int × (List ByteArray)) => (((bif (i3 == (aS.size : Int)) then some true else ((byte' aS i3).bind fun x7 => some (x7 == aBy)))).bind fun (j8 : Bool) => (bif j8 then ((sub' aS s3.1 i3).bind fun x10 => ((app' s3.2 ([x10] : List ByteArray)).bind fun x11 => some ((w64 (i3 + 1)), x11))) else some (s3.1, s3.2)))) (fun (s3 : Int × (List ByteArray)) => s3.2) 0 (0, ([] : List ByteArray)))).bind fun (j1 : (List ByteArray)) => some j1)
theorem spec_l01Split_run (aS : ByteArray) (aBy : Int) (r : (List ByteArray)) (h : spec_l01Split aS aBy = some r) : SCall Tryd.prog 9 [.v (vs aS), .v (.tr (.int .u8 aBy))] ⟨[.own 9 1 r.length (r.map eS)], [], false⟩ := by
  refine scall_in Tryd.func9 rfl [(.tmp 4)] rfl (fun r => ⟨[.own 9 1 r.length (r.map eS)], [], false⟩) (r := r) ?_
  unfold spec_l01Split at h
  refine srk tbok ⟨36, [(0, vs aS), (1, .tr (.int .u8 aBy))], []⟩ ?_
  refine srk tbok ⟨36, [(0, vs aS), (1, .tr (.int .u8 aBy)), (5, .own 8)], [(8, oa 9 1 eS ([] : List ByteArray))]⟩ ?_
  refine srk tbok ⟨36, [(0, vs aS), (1, .tr (.int .u8 aBy)), (5, .own 8), (6, vi 0)], [(8, oa 9 1 eS ([] : List ByteArray))]⟩ ?_
  refine swp_seq ?_
  refine srk tbok ⟨36, [(0, vs aS), (1, .tr (.int .u8 aBy)), (5, .own 8), (6, vi 0), (7, vi 0)], [(8, oa 9 1 eS ([] : List ByteArray))]⟩ ?_
  refine swp_seqJ h (fun j1 => ⟨36, [(5, .own 5)], [(5, oa 9 1 eS j1)]⟩) (fun v2 h => ?_) (fun j1 h => ?_)
  refine swp_blk (a := v2) ?_
  refine swp_lpL (r := v2) (s := (0, 0, ([] : List ByteArray))) _ (fun s3 => ⟨36, [(0, vs aS), (1, .tr (.int .u8 aBy)), (5, .own 5), (6, vi s3.2.1), (7, vi s3.1)], [(5, oa 9 1 eS s3.2.2)]⟩) _ (Le.rr [8] [(8, 5)]) h (fun s3 v4 h => ?_)
  refine swp_seq ?_
  refine srk tbok ⟨36, [(0, vs aS), (1, .tr (.int .u8 aBy)), (5, .own 5), (6, vi s3.2.1), (7, vi s3.1), (12, vb (decide (s3.1 ≤ (aS.size : Int))))], [(5, oa 9 1 eS s3.2.2)]⟩ ?_
  refine swp_cd h (fun h => ?_) fun h => ?_
  refine swp_skip ?_
  refine nx_n ?_
  refine swp_seq ?_
  refine swp_seqJ h (fun j5 => ⟨36, [(0, vs aS), (1, .tr (.int .u8 aBy)), (5, .own 5), (6, vi j5.1), (7, vi s3.1)], [(5, oa 9 1 eS j5.2)]⟩) (fun v6 h => ?_) (fun j5 h => ?_)
  refine swp_blk (a := v6) ?_
  refine swp_seq ?_
  refine swp_regJ h (fun j8 => ⟨36, [(0, vs aS), (1, .tr (.int .u8 aBy)), (5, .own 5), (6, vi s3.2.1), (7, vi s3.1), (25, vb j8)], [(5, oa 9 1 eS s3.2.2)]⟩) (fun v9 h => ?_) (fun j8 h => ?_)
  refine SRun.ck tbok 5 ⟨36, [(0, vs aS), (1, .tr (.int .u8 aBy)), (5, .own 5), (6, vi s3.2.1), (7, vi s3.1), (19, vb (s3.1 == (aS.size : Int)))], [(5, oa 9 1 eS s3.2.2)]⟩ ?_
  refine SRun.cu [(19, fun b => b)] h (fun h => ?_) fun h => ?_
  refine SRun.ck tbok 6 ⟨36, [(0, vs aS), (1, .tr (.int .u8 aBy)), (5, .own 5), (6, vi s3.2.1), (7, vi s3.1), (25, vb true)], [(5, oa 9 1 eS s3.2.2)]⟩ ?_
  refine SRun.nil ?_
  obtain rfl := inj h
  exact Le.sub0
  refine SRun.ck tbok 2 ⟨36, [(0, vs aS), (1, .tr (.int .u8 aBy)), (5, .own 5), (6, vi s3.2.1), (7, vi s3.1), (19, vb false), (20, vs aS), (21, vi s3.1)], [(5, oa 9 1 eS s3.2.2)]⟩ ?_
  obtain ⟨x7, hx7, h⟩ := bind_some h
  refine SRun.ls (x_byte (ti := ti9) (k := .i64) hx7 tbok rfl) ?_
  refine SRun.ck tbok 3 ⟨36, [(0, vs aS), (1, .tr (.int .u8 aBy)), (5, .own 5), (6, vi s3.2.1), (7, vi s3.1), (25, vb (x7 == aBy))], [(5, oa 9 1 eS s3.2.2)]⟩ ?_
  refine SRun.nil ?_
  obtain rfl := inj h
  exact Le.sub0
  refine swp_cd h (fun h => ?_) fun h => ?_
  refine sr ?_
  refine SRun.ck tbok 4 ⟨36, [(0, vs aS), (1, .tr (.int .u8 aBy)), (7, vi s3.1), (26, .own 5), (27, vs aS), (28, vi s3.2.1), (29, vi s3.1)], [(5, oa 9 1 eS s3.2.2)]⟩ ?_
  obtain ⟨x10, hx10, h⟩ := bind_some h
  refine SRun.ls (x_sub (ti := ti9) hx10 tbok rfl) ?_
  refine SRun.ck tbok 1 ⟨36, [(0, vs aS), (1, .tr (.int .u8 aBy)), (7, vi s3.1), (26, .own 5), (31, .own 31)], [(5, oa 9 1 eS s3.2.2), (31, oa 9 1 eS ([x10] : List ByteArray))]⟩ ?_
  obtain ⟨x11, hx11, h⟩ := bind_some h
  refine SRun.estep (x_append (f := eS) (t := 23) (ti := ti23) (tj := ti9) (zs := [.string (ByteArray.mk #[])]) (e := 9) (m := 1) (d := 5) (xv := .own 31) hx11 tbok rfl rfl rfl rfl (x_src_o (e := 9))) ?_
  refine ckn tbok 1 ⟨36, [(0, vs aS), (1, .tr (.int .u8 aBy)), (5, .own 32), (7, vi s3.1)], [(32, oa 9 1 eS x11)]⟩ ?_
  refine swp_reg ?_
  refine SRun.ck tbok 3 ⟨36, [(0, vs aS), (1, .tr (.int .u8 aBy)), (5, .own 32), (6, vi (w64 (s3.1 + 1))), (7, vi s3.1)], [(32, oa 9 1 eS x11)]⟩ ?_
  refine SRun.nil ?_
  obtain rfl := inj h
  exact q_bn (q_j (Le.rr [32] [(32, 5)]))
  refine swp_skip ?_
  obtain rfl := inj h
  exact q_bn (q_j (Le.sub0))
  refine swp_reg ?_
  refine SRun.ck tbok 3 ⟨36, [(0, vs aS), (1, .tr (.int .u8 aBy)), (5, .own 5), (6, vi j5.1), (7, vi (w64 (s3.1 + 1)))], [(5, oa 9 1 eS j5.2)]⟩ ?_
  refine SRun.nil ?_
  obtain rfl := inj h
  exact q_l (Le.sub0)
  refine swp_exit ?_
  obtain rfl := inj h
  exact nx_e (q_re (q_bh (q_j (Le.sub0))))
  refine srk tbok ⟨36, [(4, .own 5)], [(5, oa 9 1 eS j1)]⟩ ?_
  refine swp_ret ?_
  obtain rfl := inj h
  exact q_fr (f1 (fo eS_flat))
theorem ents9 : Ents Tryd.prog 9 := ents_of Tryd.func9 (by kernel_rfl) rfl
noncomputable def spec_l34Kind (aWords : (List ByteArray)) : Option (ByteArray) :=
  ((at' aWords 0).bind fun x1 => (((((bif (x1.toList == (ByteArray.mk #[99, 111, 114, 101, 115]).toList) then some (x1.toList == (ByteArray.mk #[99, 111, 114, 101, 115]).toList) else (bif (x1.toList == (ByteArray.mk #[114, 101, 112, 97, 105, 114]).toList) then some (x1.toList == (ByteArray.mk #[114, 101, 112, 97, 105, 114]).toList) else some (x1.toList == (ByteArray.mk #[115, 111, 117, 114, 99, 101, 115]).toList)))).bind fun (j4 : Bool) => (bif j4 then some (.inl (ByteArray.mk #[])) else (bif (x1.toList == (ByteArray.mk #[99, 108, 97, 105, 109]).toList) then some (.inl (ByteArray.mk #[84])) else (bif (x1.toList == (ByteArray.mk #[100, 114, 111, 112]).toList) then some (.inl (ByteArray.mk #[73])) else (((bif (x1.toList == (ByteArray.mk #[110, 97, 109, 101]).toList) then some (x1.toList == (ByteArray.mk #[110, 97, 109, 101]).toList) else some (x1.toList == (ByteArray.mk #[112, 97, 114, 101, 110, 116]).toList))).bind fun (j6 : Bool) => (bif j6 then some (.inl (ByteArray.mk #[84, 74])) else (((bif (x1.toList == (ByteArray.mk #[115, 105, 116, 101]).toList) then some (x1.toList == (ByteArray.mk #[115, 105, 116, 101]).toList) else (bif (x1.toList == (ByteArray.mk #[119, 97, 121]).toList) then some (x1.toList == (ByteArray.mk #[119, 97, 121]).toList) else (bif (x1.toList == (ByteArray.mk #[102, 97, 114]).toList) then some (x1.toList == (ByteArray.mk #[102, 97, 114]).toList) else some (x1.toList == (ByteArray.mk #[97, 112, 97, 114, 116]).toList))))).bind fun (j8 : Bool) => (bif j8 then some (.inl (ByteArray.mk #[84, 84])) else (bif (x1.toList == (ByteArray.mk #[116, 101, 115, 116]).toList) then (bif (((w64 ((aWords.length : Int) - 2)) == 2) || (((w64 ((aWords.length : Int) - 2)) == 4) || ((w64 ((aWords.length : Int) - 2)) == 5))) then ((sub' (ByteArray.mk #[84, 84, 84, 84, 84, 84]) 0 (w64 ((w64 ((aWords.length : Int) - 2)) + 1))).bind fun x10 => some (.inr x10)) else some (.inl (ByteArray.mk #[45]))) else some (.inl (ByteArray.mk #[45])))))))))))).bind (Sum.elim (fun (j2 : ByteArray) => (bif ((aWords.length : Int) != (w64 ((j2.size : Int) + 1))) then some (ByteArray.mk #[45]) else some j2)) some)))
theorem spec_l34Kind_run (aWords : (List ByteArray)) (r : ByteArray) (h : spec_l34Kind aWords = some r) : SCall Tryd.prog 10 [.v (vl eS aWords)] ⟨[.v (vs r)], [], false⟩ := by
  refine scall_in Tryd.func10 rfl [(.tmp 2)] rfl (fun r => ⟨[.v (vs r)], [], false⟩) (r := r) ?_
  unfold spec_l34Kind at h
  refine srk tbok ⟨49, [(0, vl eS aWords)], []⟩ ?_
  refine srk tbok ⟨49, [(0, vl eS aWords), (3, vs (ByteArray.mk #[45]))], []⟩ ?_
  refine swp_seq ?_
  refine sr ?_
  refine SRun.ck tbok 1 ⟨49, [(0, vl eS aWords), (3, vs (ByteArray.mk #[45])), (5, vl eS aWords)], []⟩ ?_
  obtain ⟨x1, hx1, h⟩ := bind_some h
  refine SRun.ls (x_index (L := aWords) (f := eS) (ti := ti23) (tj := ti9) (e := 9) (k := .i64) tbok rfl hx1) ?_
  refine ckn tbok 1 ⟨49, [(0, vl eS aWords), (3, vs (ByteArray.mk #[45])), (7, vs x1)], []⟩ ?_
  refine swp_seqE (r := r) h (fun j2 => ⟨49, [(0, vl eS aWords), (3, vs j2)], []⟩) (fun v3 h => ?_) (fun j2 h => ?_)
  refine swp_blk (a := v3) ?_
  refine swp_seq ?_
  refine srk tbok ⟨49, [(0, vl eS aWords), (3, vs (ByteArray.mk #[45])), (7, vs x1), (8, vb (x1.toList == (ByteArray.mk #[99, 111, 114, 101, 115]).toList))], []⟩ ?_
  refine swp_seqJ h (fun j4 => ⟨49, [(0, vl eS aWords), (3, vs (ByteArray.mk #[45])), (7, vs x1), (8, vb j4)], []⟩) (fun v5 h => ?_) (fun j4 h => ?_)
  refine swp_cd h (fun h => ?_) fun h => ?_
  refine swp_skip ?_
  obtain rfl := inj h
  exact q_j (Le.sub0)
  refine srk tbok ⟨49, [(0, vl eS aWords), (3, vs (ByteArray.mk #[45])), (7, vs x1), (8, vb (x1.toList == (ByteArray.mk #[114, 101, 112, 97, 105, 114]).toList))], []⟩ ?_
  refine swp_cd h (fun h => ?_) fun h => ?_
  refine swp_skip ?_
  obtain rfl := inj h
  exact q_j (Le.sub0)
  refine swp_reg ?_
  refine SRun.ck tbok 2 ⟨49, [(0, vl eS aWords), (3, vs (ByteArray.mk #[45])), (7, vs x1), (8, vb (x1.toList == (ByteArray.mk #[115, 111, 117, 114, 99, 101, 115]).toList))], []⟩ ?_
  refine SRun.nil ?_
  obtain rfl := inj h
  exact q_j (Le.sub0)
  refine swp_cd h (fun h => ?_) fun h => ?_
  refine swp_reg ?_
  refine SRun.ck tbok 1 ⟨49, [(0, vl eS aWords), (3, vs (ByteArray.mk #[]))], []⟩ ?_
  refine SRun.nil ?_
  obtain rfl := inj h
  exact q_bn (q_l (Le.sub0))
  refine srk tbok ⟨49, [(0, vl eS aWords), (3, vs (ByteArray.mk #[45])), (7, vs x1), (12, vb (x1.toList == (ByteArray.mk #[99, 108, 97, 105, 109]).toList))], []⟩ ?_
  refine swp_cd h (fun h => ?_) fun h => ?_
  refine swp_reg ?_
  refine SRun.ck tbok 1 ⟨49, [(0, vl eS aWords), (3, vs (ByteArray.mk #[84]))], []⟩ ?_
  refine SRun.nil ?_
  obtain rfl := inj h
  exact q_bn (q_l (Le.sub0))
  refine srk tbok ⟨49, [(0, vl eS aWords), (3, vs (ByteArray.mk #[45])), (7, vs x1), (14, vb (x1.toList == (ByteArray.mk #[100, 114, 111, 112]).toList))], []⟩ ?_
  refine swp_cd h (fun h => ?_) fun h => ?_
  refine swp_reg ?_
  refine SRun.ck tbok 1 ⟨49, [(0, vl eS aWords), (3, vs (ByteArray.mk #[73]))], []⟩ ?_
  refine SRun.nil ?_
  obtain rfl := inj h
  exact q_bn (q_l (Le.sub0))
  refine swp_seq ?_
  refine srk tbok ⟨49, [(0, vl eS aWords), (3, vs (ByteArray.mk #[45])), (7, vs x1), (16, vb (x1.toList == (ByteArray.mk #[110, 97, 109, 101]).toList))], []⟩ ?_
  refine swp_seqJ h (fun j6 => ⟨49, [(0, vl eS aWords), (3, vs (ByteArray.mk #[45])), (7, vs x1), (16, vb j6)], []⟩) (fun v7 h => ?_) (fun j6 h => ?_)
  refine swp_cd h (fun h => ?_) fun h => ?_
  refine swp_skip ?_
  obtain rfl := inj h
  exact q_j (Le.sub0)
  refine swp_reg ?_
  refine SRun.ck tbok 2 ⟨49, [(0, vl eS aWords), (3, vs (ByteArray.mk #[45])), (7, vs x1), (16, vb (x1.toList == (ByteArray.mk #[112, 97, 114, 101, 110, 116]).toList))], []⟩ ?_
  refine SRun.nil ?_
  obtain rfl := inj h
  exact q_j (Le.sub0)
  refine swp_cd h (fun h => ?_) fun h => ?_
  refine swp_reg ?_
  refine SRun.ck tbok 1 ⟨49, [(0, vl eS aWords), (3, vs (ByteArray.mk #[84, 74]))], []⟩ ?_
  refine SRun.nil ?_
  obtain rfl := inj h
  exact q_bn (q_l (Le.sub0))
  refine swp_seq ?_
  refine srk tbok ⟨49, [(0, vl eS aWords), (3, vs (ByteArray.mk #[45])), (7, vs x1), (19, vb (x1.toList == (ByteArray.mk #[115, 105, 116, 101]).toList))], []⟩ ?_
  refine swp_seqJ h (fun j8 => ⟨49, [(0, vl eS aWords), (3, vs (ByteArray.mk #[45])), (7, vs x1), (19, vb j8)], []⟩) (fun v9 h => ?_) (fun j8 h => ?_)
  refine swp_cd h (fun h => ?_) fun h => ?_
  refine swp_skip ?_
  obtain rfl := inj h
  exact q_j (Le.sub0)
  refine srk tbok ⟨49, [(0, vl eS aWords), (3, vs (ByteArray.mk #[45])), (7, vs x1), (19, vb (x1.toList == (ByteArray.mk #[119, 97, 121]).toList))], []⟩ ?_
  refine swp_cd h (fun h => ?_) fun h => ?_
  refine swp_skip ?_
  obtain rfl := inj h
  exact q_j (Le.sub0)
  refine srk tbok ⟨49, [(0, vl eS aWords), (3, vs (ByteArray.mk #[45])), (7, vs x1), (19, vb (x1.toList == (ByteArray.mk #[102, 97, 114]).toList))], []⟩ ?_
  refine swp_cd h (fun h => ?_) fun h => ?_
  refine swp_skip ?_
  obtain rfl := inj h
  exact q_j (Le.sub0)
  refine swp_reg ?_
  refine SRun.ck tbok 2 ⟨49, [(0, vl eS aWords), (3, vs (ByteArray.mk #[45])), (7, vs x1), (19, vb (x1.toList == (ByteArray.mk #[97, 112, 97, 114, 116]).toList))], []⟩ ?_
  refine SRun.nil ?_
  obtain rfl := inj h
  exact q_j (Le.sub0)
  refine swp_cd h (fun h => ?_) fun h => ?_
  refine swp_reg ?_
  refine SRun.ck tbok 1 ⟨49, [(0, vl eS aWords), (3, vs (ByteArray.mk #[84, 84]))], []⟩ ?_
  refine SRun.nil ?_
  obtain rfl := inj h
  exact q_bn (q_l (Le.sub0))
  refine srk tbok ⟨49, [(0, vl eS aWords), (3, vs (ByteArray.mk #[45])), (24, vb (x1.toList == (ByteArray.mk #[116, 101, 115, 116]).toList))], []⟩ ?_
  refine swp_cd h (fun h => ?_) fun h => ?_
  refine srk tbok ⟨49, [(0, vl eS aWords), (3, vs (ByteArray.mk #[45])), (4, vi (w64 ((aWords.length : Int) - 2)))], []⟩ ?_
  refine swp_seq ?_
  refine swp_regP ⟨49, [(0, vl eS aWords), (3, vs (ByteArray.mk #[45])), (4, vi (w64 ((aWords.length : Int) - 2))), (38, vb (((w64 ((aWords.length : Int) - 2)) == 2) || (((w64 ((aWords.length : Int) - 2)) == 4) || ((w64 ((aWords.length : Int) - 2)) == 5))))], []⟩ ?_ ?_
  refine SRun.ck tbok 3 ⟨49, [(0, vl eS aWords), (3, vs (ByteArray.mk #[45])), (4, vi (w64 ((aWords.length : Int) - 2))), (31, vb ((w64 ((aWords.length : Int) - 2)) == 2))], []⟩ ?_
  generalize ((w64 ((aWords.length : Int) - 2)) == 2) = bb
  cases bb
  refine SRun.ck tbok 4 ⟨49, [(0, vl eS aWords), (3, vs (ByteArray.mk #[45])), (4, vi (w64 ((aWords.length : Int) - 2))), (35, vb ((w64 ((aWords.length : Int) - 2)) == 4))], []⟩ ?_
  generalize ((w64 ((aWords.length : Int) - 2)) == 4) = bb
  cases bb
  refine SRun.ck tbok 3 ⟨49, [(0, vl eS aWords), (3, vs (ByteArray.mk #[45])), (4, vi (w64 ((aWords.length : Int) - 2))), (38, vb ((w64 ((aWords.length : Int) - 2)) == 5))], []⟩ ?_
  exact SRun.nil (Le.sub0)
  refine SRun.ck tbok 3 ⟨49, [(0, vl eS aWords), (3, vs (ByteArray.mk #[45])), (4, vi (w64 ((aWords.length : Int) - 2))), (38, vb true)], []⟩ ?_
  exact SRun.nil (Le.sub0)
  refine SRun.ck tbok 7 ⟨49, [(0, vl eS aWords), (3, vs (ByteArray.mk #[45])), (4, vi (w64 ((aWords.length : Int) - 2))), (38, vb true)], []⟩ ?_
  exact SRun.nil (Le.sub0)
  refine swp_cd h (fun h => ?_) fun h => ?_
  refine sr ?_
  refine SRun.ck tbok 2 ⟨49, [(40, vi (w64 ((w64 ((aWords.length : Int) - 2)) + 1)))], []⟩ ?_
  obtain ⟨x10, hx10, h⟩ := bind_some h
  refine SRun.ls (x_sub (ti := ti9) hx10 tbok rfl) ?_
  refine ckn tbok 1 ⟨49, [(2, vs x10)], []⟩ ?_
  refine swp_ret ?_
  obtain rfl := inj h
  exact q_br (q_rr (q_fr (f1 fv)))
  refine swp_skip ?_
  obtain rfl := inj h
  exact q_bn (q_l (Le.sub0))
  refine swp_skip ?_
  obtain rfl := inj h
  exact q_bn (q_l (Le.sub0))
  refine swp_seq ?_
  refine srk tbok ⟨49, [(3, vs j2), (47, vb ((aWords.length : Int) != (w64 ((j2.size : Int) + 1))))], []⟩ ?_
  refine swp_cd h (fun h => ?_) fun h => ?_
  refine srk tbok ⟨49, [(2, vs (ByteArray.mk #[45]))], []⟩ ?_
  refine swp_ret ?_
  obtain rfl := inj h
  exact nx_r (q_fr (f1 fv))
  refine swp_skip ?_
  refine nx_n ?_
  refine srk tbok ⟨49, [(2, vs j2)], []⟩ ?_
  refine swp_ret ?_
  obtain rfl := inj h
  exact q_fr (f1 fv)
theorem ents10 : Ents Tryd.prog 10 := ents_of Tryd.func10 (by kernel_rfl) rfl
noncomputable def spec_l01Dec_f : Nat → Int → Option (ByteArray)
  | 0, _ => none
  | fuel + 1, aN =>
  (bif (decide (aN < 10)) then some (strOfNums ([(IntKind.wrap .u8 (w64 (48 + aN)))] : List Int)) else ((spec_l01Dec_f fuel (w64 (Int.tdiv aN 10))).bind fun x1 => ((cat' x1 (strOfNums ([(IntKind.wrap .u8 (w64 (48 + (Int.tmod aN 10))))] : List Int))).bind fun x2 => some x2)))
noncomputable def spec_l01Dec (aN : Int) : Option (ByteArray) := spec_l01Dec_f 1000 aN
theorem ents16 : Ents Tryd.prog 16 := ents_of Tryd.func16 (by kernel_rfl) rfl
theorem spec_l01Dec_f_run : ∀ (fuel : Nat) (aN : Int) (r : ByteArray), spec_l01Dec_f fuel aN = some r → SCall Tryd.prog 16 [.v (vi aN)] ⟨[.v (vs r)], [], false⟩ := by
  intro fuel
  induction fuel with
  | zero => intro aN r h; cases h
  | succ fuel ih =>
  intro aN r h
  refine scall_in Tryd.func16 rfl [(.tmp 2)] rfl (fun r => ⟨[.v (vs r)], [], false⟩) (r := r) ?_
  unfold spec_l01Dec_f at h
  refine srk tbok ⟨20, [(0, vi aN)], []⟩ ?_
  refine swp_seq ?_
  refine srk tbok ⟨20, [(0, vi aN), (4, vb (decide (aN < 10)))], []⟩ ?_
  refine swp_cd h (fun h => ?_) fun h => ?_
  refine sr ?_
  refine SRun.ck tbok 4 ⟨20, [(8, .own 8)], [(8, oa 5 1 (eI .u8) ([(IntKind.wrap .u8 (w64 (48 + aN)))] : List Int))]⟩ ?_
  refine SRun.ls (x_bytes_own (L := ([(IntKind.wrap .u8 (w64 (48 + aN)))] : List Int)) (d := 8) (e' := 5) tbok rfl (e := 5) (ti := ti36) (tj := ti5) (tk := ti9)) ?_
  refine ckn tbok 1 ⟨20, [(2, vs (strOfNums ([(IntKind.wrap .u8 (w64 (48 + aN)))] : List Int)))], []⟩ ?_
  refine swp_ret ?_
  obtain rfl := inj h
  exact nx_r (q_fr (f1 fv))
  refine swp_skip ?_
  refine nx_n ?_
  refine swp_seq ?_
  refine swp_dr mixed ?_
  refine DGo.ck tbok false 2 ⟨20, [(0, vi aN), (11, vi (w64 (Int.tdiv aN 10)))], []⟩ ?_
  obtain ⟨x1, hx1, h⟩ := bind_some h
  refine DGo.step (xc ents16 (ih (w64 (Int.tdiv aN 10)) _ hx1)) ?_
  refine DGo.ck tbok false 5 ⟨20, [(12, vs x1), (17, .own 17)], [(17, oa 5 1 (eI .u8) ([(IntKind.wrap .u8 (w64 (48 + (Int.tmod aN 10))))] : List Int))]⟩ ?_
  refine DGo.stepW false [17] (x_bytes_own (L := ([(IntKind.wrap .u8 (w64 (48 + (Int.tmod aN 10))))] : List Int)) (d := 17) (e' := 5) tbok rfl (e := 5) (ti := ti36) (tj := ti5) (tk := ti9)) ?_
  obtain ⟨x2, hx2, h⟩ := bind_some h
  refine DGo.step (x_cat hx2 rfl) ?_
  refine DGo.ck tbok false 1 ⟨20, [(2, vs x2)], []⟩ ?_
  refine DGo.nx ?_
  refine swp_ret ?_
  obtain rfl := inj h
  exact q_fr (f1 fv)
theorem spec_l01Dec_run (aN : Int) (r : ByteArray) (h : spec_l01Dec aN = some r) : SCall Tryd.prog 16 [.v (vi aN)] ⟨[.v (vs r)], [], false⟩ := spec_l01Dec_f_run 1000 aN r h
noncomputable def spec_l01Value (aS : ByteArray) : Option (Int × Bool) :=
  (bif ((decide ((aS.size : Int) < 1)) || (decide ((aS.size : Int) > 13))) then some (0, false) else (((forN (aS.size : Int) (fun (i3 : Int) (s3 : Int) => ((((byte' aS i3).bind fun x7 => (bif (decide (x7 < 48)) then some true else ((byte' aS i3).bind fun x8 => some (decide (x8 > 57)))))).bind fun (j9 : Bool) => (bif j9 then some (.inr (.inr (0, false))) else ((byte' aS i3).bind fun x11 => some (.inl (w64 ((w64 (10 * s3)) + (w64 (IntKind.wrap .u8 (x11 - 48)))))))))) (fun (s3 : Int) => .inl s3) 0 0)).bind (Sum.elim (fun (j1 : Int) => ((spec_l01Dec j1).bind fun x12 => some (j1, (x12.toList == aS.toList)))) some)))
theorem spec_l01Value_run (aS : ByteArray) (r : Int × Bool) (h : spec_l01Value aS = some r) : SCall Tryd.prog 11 [.v (vs aS)] ⟨[.v (vi r.1), .v (vb r.2)], [], false⟩ := by
  refine scall_in Tryd.func11 rfl [(.tmp 2), (.tmp 3)] rfl (fun r => ⟨[.v (vi r.1), .v (vb r.2)], [], false⟩) (r := r) ?_
  unfold spec_l01Value at h
  refine srk tbok ⟨43, [(0, vs aS)], []⟩ ?_
  refine swp_seq ?_
  refine swp_seq ?_
  refine swp_regP ⟨43, [(0, vs aS), (13, vb ((decide ((aS.size : Int) < 1)) || (decide ((aS.size : Int) > 13))))], []⟩ ?_ ?_
  refine SRun.ck tbok 4 ⟨43, [(0, vs aS), (9, vb (decide ((aS.size : Int) < 1)))], []⟩ ?_
  generalize (decide ((aS.size : Int) < 1)) = bb
  cases bb
  refine SRun.ck tbok 4 ⟨43, [(0, vs aS), (13, vb (decide ((aS.size : Int) > 13)))], []⟩ ?_
  exact SRun.nil (Le.sub0)
  refine SRun.ck tbok 4 ⟨43, [(0, vs aS), (13, vb true)], []⟩ ?_
  exact SRun.nil (Le.sub0)
  refine swp_cd h (fun h => ?_) fun h => ?_
  refine srk tbok ⟨43, [(2, vi 0), (3, vb false)], []⟩ ?_
  refine swp_ret ?_
  obtain rfl := inj h
  exact nx_r (q_fr (f2 fv fv))
  refine swp_skip ?_
  refine nx_n ?_
  refine srk tbok ⟨43, [(0, vs aS), (4, vi 0)], []⟩ ?_
  refine swp_seq ?_
  refine srk tbok ⟨43, [(0, vs aS), (4, vi 0), (5, vi 0)], []⟩ ?_
  refine swp_seqE (r := r) h (fun j1 => ⟨43, [(0, vs aS), (4, vi j1)], []⟩) (fun v2 h => ?_) (fun j1 h => ?_)
  refine swp_blk (a := v2) ?_
  refine swp_lpL (r := v2) (s := (0, 0)) _ (fun s3 => ⟨43, [(0, vs aS), (4, vi s3.2), (5, vi s3.1)], []⟩) _ (Le.sub0) h (fun s3 v4 h => ?_)
  refine swp_seq ?_
  refine srk tbok ⟨43, [(0, vs aS), (4, vi s3.2), (5, vi s3.1), (17, vb (decide (s3.1 < (aS.size : Int))))], []⟩ ?_
  refine swp_cd h (fun h => ?_) fun h => ?_
  refine swp_skip ?_
  refine nx_n ?_
  refine swp_seq ?_
  refine swp_seqL (r := v4) h (fun j5 => ⟨43, [(0, vs aS), (4, vi j5), (5, vi s3.1)], []⟩) (fun v6 h => ?_) (fun j5 h => ?_)
  refine swp_blk (a := v6) ?_
  refine swp_seq ?_
  refine swp_seq ?_
  refine swp_regJ h (fun j9 => ⟨43, [(0, vs aS), (4, vi s3.2), (5, vi s3.1), (29, vb j9)], []⟩) (fun v10 h => ?_) (fun j9 h => ?_)
  refine SRun.ck tbok 2 ⟨43, [(0, vs aS), (4, vi s3.2), (5, vi s3.1), (20, vs aS), (21, vi s3.1)], []⟩ ?_
  obtain ⟨x7, hx7, h⟩ := bind_some h
  refine SRun.ls (x_byte (ti := ti9) (k := .i64) hx7 tbok rfl) ?_
  refine SRun.ck tbok 2 ⟨43, [(0, vs aS), (4, vi s3.2), (5, vi s3.1), (24, vb (decide (x7 < 48)))], []⟩ ?_
  refine SRun.cu [(24, fun b => b)] h (fun h => ?_) fun h => ?_
  refine SRun.ck tbok 5 ⟨43, [(0, vs aS), (4, vi s3.2), (5, vi s3.1), (29, vb true)], []⟩ ?_
  refine SRun.nil ?_
  obtain rfl := inj h
  exact Le.sub0
  refine SRun.ck tbok 2 ⟨43, [(0, vs aS), (4, vi s3.2), (5, vi s3.1), (24, vb false), (25, vs aS), (26, vi s3.1)], []⟩ ?_
  obtain ⟨x8, hx8, h⟩ := bind_some h
  refine SRun.ls (x_byte (ti := ti9) (k := .i64) hx8 tbok rfl) ?_
  refine SRun.ck tbok 2 ⟨43, [(0, vs aS), (4, vi s3.2), (5, vi s3.1), (29, vb (decide (x8 > 57)))], []⟩ ?_
  refine SRun.nil ?_
  obtain rfl := inj h
  exact Le.sub0
  refine swp_cd h (fun h => ?_) fun h => ?_
  refine srk tbok ⟨43, [(2, vi 0), (3, vb false)], []⟩ ?_
  refine swp_ret ?_
  obtain rfl := inj h
  exact nx_r (q_br (q_rr (q_rr (q_br (q_rr (q_fr (f2 fv fv)))))))
  refine swp_skip ?_
  refine nx_n ?_
  refine swp_reg ?_
  refine SRun.ck tbok 4 ⟨43, [(0, vs aS), (5, vi s3.1), (31, vi (w64 (10 * s3.2))), (32, vs aS), (33, vi s3.1)], []⟩ ?_
  obtain ⟨x11, hx11, h⟩ := bind_some h
  refine SRun.ls (x_byte (ti := ti9) (k := .i64) hx11 tbok rfl) ?_
  refine SRun.ck tbok 4 ⟨43, [(0, vs aS), (4, vi (w64 ((w64 (10 * s3.2)) + (w64 (IntKind.wrap .u8 (x11 - 48)))))), (5, vi s3.1)], []⟩ ?_
  refine SRun.nil ?_
  obtain rfl := inj h
  exact q_bn (q_l (Le.sub0))
  refine swp_reg ?_
  refine SRun.ck tbok 3 ⟨43, [(0, vs aS), (4, vi j5), (5, vi (w64 (s3.1 + 1)))], []⟩ ?_
  refine SRun.nil ?_
  obtain rfl := inj h
  exact q_l (Le.sub0)
  refine swp_exit ?_
  obtain rfl := inj h
  exact nx_e (q_re (q_bh (q_l (Le.sub0))))
  refine sr ?_
  refine SRun.ck tbok 2 ⟨43, [(0, vs aS), (38, vi j1), (39, vi j1)], []⟩ ?_
  obtain ⟨x12, hx12, h⟩ := bind_some h
  refine SRun.ls (xc ents16 (spec_l01Dec_run j1 _ hx12)) ?_
  refine ckn tbok 4 ⟨43, [(2, vi j1), (3, vb (x12.toList == aS.toList))], []⟩ ?_
  refine swp_ret ?_
  obtain rfl := inj h
  exact q_fr (f2 fv fv)
theorem ents11 : Ents Tryd.prog 11 := ents_of Tryd.func11 (by kernel_rfl) rfl
noncomputable def spec_l01Signed (aS : ByteArray) : Option (Int × Bool) :=
  (((bif (decide ((aS.size : Int) > 0)) then ((byte' aS 0).bind fun x1 => some (x1 == 45)) else some false)).bind fun (j2 : Bool) => (bif j2 then ((sub' aS 1 (aS.size : Int)).bind fun x4 => ((spec_l01Value x4).bind fun x5 => some ((w64 (0 - x5.1)), (x5.2 && (decide (x5.1 > 0)))))) else ((spec_l01Value aS).bind fun x6 => some (x6.1, x6.2))))
theorem spec_l01Signed_run (aS : ByteArray) (r : Int × Bool) (h : spec_l01Signed aS = some r) : SCall Tryd.prog 12 [.v (vs aS)] ⟨[.v (vi r.1), .v (vb r.2)], [], false⟩ := by
  refine scall_in Tryd.func12 rfl [(.tmp 2), (.tmp 3)] rfl (fun r => ⟨[.v (vi r.1), .v (vb r.2)], [], false⟩) (r := r) ?_
  unfold spec_l01Signed at h
  refine srk tbok ⟨31, [(0, vs aS)], []⟩ ?_
  refine swp_seq ?_
  refine swp_seq ?_
  refine swp_regJ h (fun j2 => ⟨31, [(0, vs aS), (13, vb j2)], []⟩) (fun v3 h => ?_) (fun j2 h => ?_)
  refine SRun.ck tbok 4 ⟨31, [(0, vs aS), (9, vb (decide ((aS.size : Int) > 0)))], []⟩ ?_
  refine SRun.cu [(9, fun b => b)] h (fun h => ?_) fun h => ?_
  refine SRun.ck tbok 1 ⟨31, [(0, vs aS), (9, vb true), (10, vs aS)], []⟩ ?_
  obtain ⟨x1, hx1, h⟩ := bind_some h
  refine SRun.ls (x_byte (ti := ti9) (k := .i64) hx1 tbok rfl) ?_
  refine SRun.ck tbok 2 ⟨31, [(0, vs aS), (13, vb (x1 == 45))], []⟩ ?_
  refine SRun.nil ?_
  obtain rfl := inj h
  exact Le.sub0
  refine SRun.ck tbok 4 ⟨31, [(0, vs aS), (13, vb false)], []⟩ ?_
  refine SRun.nil ?_
  obtain rfl := inj h
  exact Le.sub0
  refine swp_cd h (fun h => ?_) fun h => ?_
  refine sr ?_
  refine SRun.ck tbok 1 ⟨31, [(15, vs aS)], []⟩ ?_
  obtain ⟨x4, hx4, h⟩ := bind_some h
  refine SRun.ls (x_sub (ti := ti9) hx4 tbok rfl) ?_
  obtain ⟨x5, hx5, h⟩ := bind_some h
  refine SRun.ls (xc ents11 (spec_l01Value_run x4 _ hx5)) ?_
  refine ckn tbok 5 ⟨31, [(4, vi x5.1), (5, vb x5.2)], []⟩ ?_
  refine swp_seq ?_
  refine swp_regP ⟨31, [(2, vi (w64 (0 - x5.1))), (3, vb (x5.2 && (decide (x5.1 > 0))))], []⟩ ?_ ?_
  refine SRun.ck tbok 4 ⟨31, [(4, vi x5.1), (21, vi (w64 (0 - x5.1))), (23, vb x5.2)], []⟩ ?_
  generalize x5.2 = bb
  cases bb
  refine SRun.ck tbok 5 ⟨31, [(2, vi (w64 (0 - x5.1))), (3, vb false)], []⟩ ?_
  exact SRun.nil (Le.sub0)
  refine SRun.ck tbok 5 ⟨31, [(2, vi (w64 (0 - x5.1))), (3, vb (decide (x5.1 > 0)))], []⟩ ?_
  exact SRun.nil (Le.sub0)
  refine swp_ret ?_
  obtain rfl := inj h
  exact nx_r (q_fr (f2 fv fv))
  refine swp_skip ?_
  refine nx_n ?_
  refine sr ?_
  refine SRun.ck tbok 1 ⟨31, [(27, vs aS)], []⟩ ?_
  obtain ⟨x6, hx6, h⟩ := bind_some h
  refine SRun.ls (xc ents11 (spec_l01Value_run aS _ hx6)) ?_
  refine ckn tbok 4 ⟨31, [(2, vi x6.1), (3, vb x6.2)], []⟩ ?_
  refine swp_ret ?_
  obtain rfl := inj h
  exact q_fr (f2 fv fv)
theorem ents12 : Ents Tryd.prog 12 := ents_of Tryd.func12 (by kernel_rfl) rfl
noncomputable def spec_l34Parse (aLine : ByteArray) : Option ((List ByteArray) × Int × Bool) :=
  ((spec_l01Split aLine 32).bind fun x1 => ((spec_l34Kind x1).bind fun x2 => (bif (x2.toList == (ByteArray.mk #[45]).toList) then some (([] : List ByteArray), 0, false) else (((forS (x2.size : Int) (fun (i5 : Int) (s5 : Int × Bool) => ((byte' x2 i5).bind fun x9 => (bif (x9 == 73) then ((at' x1 (w64 (i5 + 1))).bind fun x10 => ((spec_l01Value x10).bind fun x11 => some (x11.1, x11.2))) else (bif (x9 == 74) then ((at' x1 (w64 (i5 + 1))).bind fun x12 => ((spec_l01Signed x12).bind fun x13 => some (x13.1, x13.2))) else some (s5.1, s5.2))))) (fun (s5 : Int × Bool) => (s5.1, s5.2)) 0 (0, true))).bind fun (j3 : Int × Bool) => some (x1, j3.1, j3.2)))))
theorem spec_l34Parse_run (aLine : ByteArray) (r : (List ByteArray) × Int × Bool) (h : spec_l34Parse aLine = some r) : SCall Tryd.prog 6 [.v (vs aLine)] ⟨[.own 9 1 r.1.length (r.1.map eS), .v (vi r.2.1), .v (vb r.2.2)], [], false⟩ := by
  refine scall_in Tryd.func6 rfl [(.tmp 2), (.tmp 3), (.tmp 4)] rfl (fun r => ⟨[.own 9 1 r.1.length (r.1.map eS), .v (vi r.2.1), .v (vb r.2.2)], [], false⟩) (r := r) ?_
  unfold spec_l34Parse at h
  refine srk tbok ⟨50, [(0, vs aLine)], []⟩ ?_
  refine sr ?_
  refine SRun.ck tbok 1 ⟨50, [(10, vs aLine)], []⟩ ?_
  obtain ⟨x1, hx1, h⟩ := bind_some h
  refine SRun.ls (xc ents9 (spec_l01Split_run aLine 32 _ hx1)) ?_
  refine ckn tbok 1 ⟨50, [(5, .own 11)], [(11, oa 9 1 eS x1)]⟩ ?_
  refine sr ?_
  refine SRun.ck tbok 1 ⟨50, [(5, .own 11), (12, .own 11)], [(11, oa 9 1 eS x1)]⟩ ?_
  obtain ⟨x2, hx2, h⟩ := bind_some h
  refine SRun.ls (xc ents10 (spec_l34Kind_run x1 _ hx2)) ?_
  refine ckn tbok 1 ⟨50, [(5, .own 11), (6, vs x2)], [(11, oa 9 1 eS x1)]⟩ ?_
  refine swp_seq ?_
  refine srk tbok ⟨50, [(5, .own 11), (6, vs x2), (15, vb (x2.toList == (ByteArray.mk #[45]).toList))], [(11, oa 9 1 eS x1)]⟩ ?_
  refine swp_cd h (fun h => ?_) fun h => ?_
  refine srk tbok ⟨50, [(2, .own 2), (3, vi 0), (4, vb false)], [(2, oa 9 1 eS ([] : List ByteArray))]⟩ ?_
  refine swp_ret ?_
  obtain rfl := inj h
  exact nx_r (q_fr (fin3 (by kernel_rfl) (fo eS_flat) fv fv))
  refine swp_skip ?_
  refine nx_n ?_
  refine srk tbok ⟨50, [(5, .own 11), (6, vs x2), (7, vi 0), (8, vb true)], [(11, oa 9 1 eS x1)]⟩ ?_
  refine swp_seq ?_
  refine srk tbok ⟨50, [(5, .own 11), (6, vs x2), (7, vi 0), (8, vb true), (9, vi 0)], [(11, oa 9 1 eS x1)]⟩ ?_
  refine swp_seqJ h (fun j3 => ⟨50, [(5, .own 5), (7, vi j3.1), (8, vb j3.2)], [(5, oa 9 1 eS x1)]⟩) (fun v4 h => ?_) (fun j3 h => ?_)
  refine swp_blk (a := v4) ?_
  refine swp_lpL (r := v4) (s := (0, 0, true)) _ (fun s5 => ⟨50, [(5, .own 5), (6, vs x2), (7, vi s5.2.1), (8, vb s5.2.2), (9, vi s5.1)], [(5, oa 9 1 eS x1)]⟩) _ (Le.rr [11] [(11, 5)]) h (fun s5 v6 h => ?_)
  refine swp_seq ?_
  refine srk tbok ⟨50, [(5, .own 5), (6, vs x2), (7, vi s5.2.1), (8, vb s5.2.2), (9, vi s5.1), (19, vb (decide (s5.1 < (x2.size : Int))))], [(5, oa 9 1 eS x1)]⟩ ?_
  refine swp_cd h (fun h => ?_) fun h => ?_
  refine swp_skip ?_
  refine nx_n ?_
  refine swp_seq ?_
  refine swp_seqJ h (fun j7 => ⟨50, [(5, .own 5), (6, vs x2), (7, vi j7.1), (8, vb j7.2), (9, vi s5.1)], [(5, oa 9 1 eS x1)]⟩) (fun v8 h => ?_) (fun j7 h => ?_)
  refine swp_blk (a := v8) ?_
  refine sr ?_
  refine SRun.ck tbok 2 ⟨50, [(5, .own 5), (6, vs x2), (7, vi s5.2.1), (8, vb s5.2.2), (9, vi s5.1), (22, vs x2), (23, vi s5.1)], [(5, oa 9 1 eS x1)]⟩ ?_
  obtain ⟨x9, hx9, h⟩ := bind_some h
  refine SRun.ls (x_byte (ti := ti9) (k := .i64) hx9 tbok rfl) ?_
  refine SRun.nx ?_
  refine swp_blk (a := v8) ?_
  refine srk tbok ⟨50, [(5, .own 5), (6, vs x2), (7, vi s5.2.1), (8, vb s5.2.2), (9, vi s5.1), (24, .tr (.int .u8 x9)), (25, vb (x9 == 73))], [(5, oa 9 1 eS x1)]⟩ ?_
  refine swp_cd h (fun h => ?_) fun h => ?_
  refine swp_reg ?_
  refine SRun.ck tbok 3 ⟨50, [(5, .own 5), (6, vs x2), (9, vi s5.1), (28, .own 5), (30, vi (w64 (s5.1 + 1)))], [(5, oa 9 1 eS x1)]⟩ ?_
  obtain ⟨x10, hx10, h⟩ := bind_some h
  refine SRun.ls (x_index_own (d := 5) (L := x1) (f := eS) (ti := ti23) (tj := ti9) (e := 9) (e' := 9) (m := 1) (k := .i64) tbok rfl hx10) ?_
  refine SRun.ls (x_load_own (d := 5) (m := 1) (j := 0) (L := x1) (f := eS) (ti := ti9) (e := 9) (v := vs x10) tbok rfl hx10) ?_
  obtain ⟨x11, hx11, h⟩ := bind_some h
  refine SRun.ls (xc ents11 (spec_l01Value_run x10 _ hx11)) ?_
  refine SRun.ck tbok 5 ⟨50, [(5, .own 5), (6, vs x2), (7, vi x11.1), (8, vb x11.2), (9, vi s5.1)], [(5, oa 9 1 eS x1)]⟩ ?_
  refine SRun.nil ?_
  obtain rfl := inj h
  exact q_bn (q_bn (q_j (Le.sub0)))
  refine srk tbok ⟨50, [(5, .own 5), (6, vs x2), (7, vi s5.2.1), (8, vb s5.2.2), (9, vi s5.1), (36, vb (x9 == 74))], [(5, oa 9 1 eS x1)]⟩ ?_
  refine swp_cd h (fun h => ?_) fun h => ?_
  refine swp_reg ?_
  refine SRun.ck tbok 3 ⟨50, [(5, .own 5), (6, vs x2), (9, vi s5.1), (39, .own 5), (41, vi (w64 (s5.1 + 1)))], [(5, oa 9 1 eS x1)]⟩ ?_
  obtain ⟨x12, hx12, h⟩ := bind_some h
  refine SRun.ls (x_index_own (d := 5) (L := x1) (f := eS) (ti := ti23) (tj := ti9) (e := 9) (e' := 9) (m := 1) (k := .i64) tbok rfl hx12) ?_
  refine SRun.ls (x_load_own (d := 5) (m := 1) (j := 0) (L := x1) (f := eS) (ti := ti9) (e := 9) (v := vs x12) tbok rfl hx12) ?_
  obtain ⟨x13, hx13, h⟩ := bind_some h
  refine SRun.ls (xc ents12 (spec_l01Signed_run x12 _ hx13)) ?_
  refine SRun.ck tbok 5 ⟨50, [(5, .own 5), (6, vs x2), (7, vi x13.1), (8, vb x13.2), (9, vi s5.1)], [(5, oa 9 1 eS x1)]⟩ ?_
  refine SRun.nil ?_
  obtain rfl := inj h
  exact q_bn (q_bn (q_j (Le.sub0)))
  refine swp_skip ?_
  obtain rfl := inj h
  exact q_bn (q_bn (q_j (Le.sub0)))
  refine swp_reg ?_
  refine SRun.ck tbok 3 ⟨50, [(5, .own 5), (6, vs x2), (7, vi j7.1), (8, vb j7.2), (9, vi (w64 (s5.1 + 1)))], [(5, oa 9 1 eS x1)]⟩ ?_
  refine SRun.nil ?_
  obtain rfl := inj h
  exact q_l (Le.sub0)
  refine swp_exit ?_
  obtain rfl := inj h
  exact nx_e (q_re (q_bh (q_j (Le.sub0))))
  refine srk tbok ⟨50, [(2, .own 5), (3, vi j3.1), (4, vb j3.2)], [(5, oa 9 1 eS x1)]⟩ ?_
  refine swp_ret ?_
  obtain rfl := inj h
  exact q_fr (fin3 (by kernel_rfl) (fo eS_flat) fv fv)
theorem ents6 : Ents Tryd.prog 6 := ents_of Tryd.func6 (by kernel_rfl) rfl
noncomputable def spec_IsConsoleLine (aLine : ByteArray) : Option (Bool) :=
  ((spec_l34Parse aLine).bind fun x1 => some x1.2.2)
theorem spec_IsConsoleLine_run (aLine : ByteArray) (r : Bool) (h : spec_IsConsoleLine aLine = some r) : SCall Tryd.prog 4 [.v (vs aLine)] ⟨[.v (vb r)], [], false⟩ := by
  refine scall_in Tryd.func4 rfl [(.tmp 2)] rfl (fun r => ⟨[.v (vb r)], [], false⟩) (r := r) ?_
  unfold spec_IsConsoleLine at h
  refine srk tbok ⟨13, [(0, vs aLine)], []⟩ ?_
  refine sr ?_
  refine SRun.ck tbok 1 ⟨13, [(7, vs aLine)], []⟩ ?_
  obtain ⟨x1, hx1, h⟩ := bind_some h
  refine SRun.ls (xc ents6 (spec_l34Parse_run aLine _ hx1)) ?_
  refine ckn tbok 7 ⟨13, [(5, vb x1.2.2)], []⟩ ?_
  refine srk tbok ⟨13, [(2, vb x1.2.2)], []⟩ ?_
  refine swp_ret ?_
  obtain rfl := inj h
  exact q_fr (f1 fv)
theorem ents4 : Ents Tryd.prog 4 := ents_of Tryd.func4 (by kernel_rfl) rfl
theorem strings_Split_run (s c : ByteArray) (r : List ByteArray) (h : strings_Split s c = some r) : SCall Tryd.prog 8 [.v (.tr (.str s)), .v (.tr (.str c))] ⟨[.own 9 1 r.length (r.map eS)], [], false⟩ := split_run Tryd.lays146 (by kernel_rfl) 8 9 rfl rfl s c r h
theorem ents8 : Ents Tryd.prog 8 := ents_of Tryd.func8 (by kernel_rfl) rfl
theorem impl_readNumber_run (s : ByteArray) (r : Int × Bool) (h : impl_readNumber s = some r) : SCall Tryd.prog 21 [.v (.tr (.str s))] ⟨[.v (.tr (.int .i64 r.1)), .v (.tr (.bool r.2))], [], false⟩ := readNumber_run s r h
theorem ents21 : Ents Tryd.prog 21 := ents_of Tryd.func21 (by kernel_rfl) rfl
noncomputable def internal_stringslite_HasPrefix (aS : ByteArray) (aPrefix : ByteArray) : Option (Bool) :=
  (((bif (decide ((aS.size : Int) ≥ (aPrefix.size : Int))) then ((sub' aS 0 (aPrefix.size : Int)).bind fun x1 => some (x1.toList == aPrefix.toList)) else some false)).bind fun (j2 : Bool) => some j2)
theorem internal_stringslite_HasPrefix_run (aS : ByteArray) (aPrefix : ByteArray) (r : Bool) (h : internal_stringslite_HasPrefix aS aPrefix = some r) : SCall Tryd.prog 38 [.v (vs aS), .v (vs aPrefix)] ⟨[.v (vb r)], [], false⟩ := by
  refine scall_in Tryd.func38 rfl [(.tmp 4)] rfl (fun r => ⟨[.v (vb r)], [], false⟩) (r := r) ?_
  unfold internal_stringslite_HasPrefix at h
  refine srk tbok ⟨18, [(0, vs aS), (1, vs aPrefix)], []⟩ ?_
  refine swp_seq ?_
  refine swp_regJ h (fun j2 => ⟨18, [(4, vb j2)], []⟩) (fun v3 h => ?_) (fun j2 h => ?_)
  refine SRun.ck tbok 6 ⟨18, [(0, vs aS), (1, vs aPrefix), (10, vb (decide ((aS.size : Int) ≥ (aPrefix.size : Int))))], []⟩ ?_
  refine SRun.cu [(10, fun b => b)] h (fun h => ?_) fun h => ?_
  refine SRun.ck tbok 3 ⟨18, [(1, vs aPrefix), (10, vb true), (11, vs aS), (13, vi (aPrefix.size : Int))], []⟩ ?_
  obtain ⟨x1, hx1, h⟩ := bind_some h
  refine SRun.ls (x_sub (ti := ti9) hx1 tbok rfl) ?_
  refine SRun.ck tbok 4 ⟨18, [(4, vb (x1.toList == aPrefix.toList))], []⟩ ?_
  refine SRun.nil ?_
  obtain rfl := inj h
  exact Le.sub0
  refine SRun.ck tbok 8 ⟨18, [(4, vb false)], []⟩ ?_
  refine SRun.nil ?_
  obtain rfl := inj h
  exact Le.sub0
  refine swp_ret ?_
  obtain rfl := inj h
  exact q_fr (f1 fv)
theorem ents38 : Ents Tryd.prog 38 := ents_of Tryd.func38 (by kernel_rfl) rfl
noncomputable def internal_stringslite_TrimPrefix (aS : ByteArray) (aPrefix : ByteArray) : Option (ByteArray) :=
  ((internal_stringslite_HasPrefix aS aPrefix).bind fun x1 => (bif x1 then ((sub' aS (aPrefix.size : Int) (aS.size : Int)).bind fun x2 => some x2) else some aS))
theorem internal_stringslite_TrimPrefix_run (aS : ByteArray) (aPrefix : ByteArray) (r : ByteArray) (h : internal_stringslite_TrimPrefix aS aPrefix = some r) : SCall Tryd.prog 29 [.v (vs aS), .v (vs aPrefix)] ⟨[.v (vs r)], [], false⟩ := by
  refine scall_in Tryd.func29 rfl [(.tmp 4)] rfl (fun r => ⟨[.v (vs r)], [], false⟩) (r := r) ?_
  unfold internal_stringslite_TrimPrefix at h
  refine srk tbok ⟨13, [(0, vs aS), (1, vs aPrefix)], []⟩ ?_
  refine swp_seq ?_
  refine sr ?_
  refine SRun.ck tbok 2 ⟨13, [(0, vs aS), (1, vs aPrefix), (5, vs aS), (6, vs aPrefix)], []⟩ ?_
  obtain ⟨x1, hx1, h⟩ := bind_some h
  refine SRun.ls (xc ents38 (internal_stringslite_HasPrefix_run aS aPrefix _ hx1)) ?_
  refine SRun.nx ?_
  refine swp_cd h (fun h => ?_) fun h => ?_
  refine sr ?_
  refine SRun.ck tbok 3 ⟨13, [(8, vs aS), (10, vi (aPrefix.size : Int))], []⟩ ?_
  obtain ⟨x2, hx2, h⟩ := bind_some h
  refine SRun.ls (x_sub (ti := ti9) hx2 tbok rfl) ?_
  refine ckn tbok 1 ⟨13, [(4, vs x2)], []⟩ ?_
  refine swp_ret ?_
  obtain rfl := inj h
  exact nx_r (q_fr (f1 fv))
  refine swp_skip ?_
  refine nx_n ?_
  refine srk tbok ⟨13, [(4, vs aS)], []⟩ ?_
  refine swp_ret ?_
  obtain rfl := inj h
  exact q_fr (f1 fv)
theorem ents29 : Ents Tryd.prog 29 := ents_of Tryd.func29 (by kernel_rfl) rfl
noncomputable def strings_TrimPrefix (aS : ByteArray) (aPrefix : ByteArray) : Option (ByteArray) :=
  ((internal_stringslite_TrimPrefix aS aPrefix).bind fun x1 => some x1)
theorem strings_TrimPrefix_run (aS : ByteArray) (aPrefix : ByteArray) (r : ByteArray) (h : strings_TrimPrefix aS aPrefix = some r) : SCall Tryd.prog 22 [.v (vs aS), .v (vs aPrefix)] ⟨[.v (vs r)], [], false⟩ := by
  refine scall_in Tryd.func22 rfl [(.tmp 4)] rfl (fun r => ⟨[.v (vs r)], [], false⟩) (r := r) ?_
  unfold strings_TrimPrefix at h
  refine srk tbok ⟨8, [(0, vs aS), (1, vs aPrefix)], []⟩ ?_
  refine sr ?_
  refine SRun.ck tbok 2 ⟨8, [(5, vs aS), (6, vs aPrefix)], []⟩ ?_
  obtain ⟨x1, hx1, h⟩ := bind_some h
  refine SRun.ls (xc ents29 (internal_stringslite_TrimPrefix_run aS aPrefix _ hx1)) ?_
  refine ckn tbok 1 ⟨8, [(4, vs x1)], []⟩ ?_
  refine swp_ret ?_
  obtain rfl := inj h
  exact q_fr (f1 fv)
theorem ents22 : Ents Tryd.prog 22 := ents_of Tryd.func22 (by kernel_rfl) rfl
noncomputable def impl_consoleNumber (aWord : ByteArray) : Option (Int × Bool) :=
  ((impl_readNumber aWord).bind fun x1 => (((bif x1.2 then ((strings_TrimPrefix aWord (ByteArray.mk #[45])).bind fun x2 => some (decide ((x2.size : Int) ≤ 13))) else some false)).bind fun (j3 : Bool) => some (x1.1, j3)))
theorem impl_consoleNumber_run (aWord : ByteArray) (r : Int × Bool) (h : impl_consoleNumber aWord = some r) : SCall Tryd.prog 17 [.v (vs aWord)] ⟨[.v (vi r.1), .v (vb r.2)], [], false⟩ := by
  refine scall_in Tryd.func17 rfl [(.tmp 2), (.tmp 3)] rfl (fun r => ⟨[.v (vi r.1), .v (vb r.2)], [], false⟩) (r := r) ?_
  unfold impl_consoleNumber at h
  refine srk tbok ⟨19, [(0, vs aWord)], []⟩ ?_
  refine sr ?_
  refine SRun.ck tbok 1 ⟨19, [(0, vs aWord), (7, vs aWord)], []⟩ ?_
  obtain ⟨x1, hx1, h⟩ := bind_some h
  refine SRun.ls (xc ents21 (impl_readNumber_run aWord _ hx1)) ?_
  refine ckn tbok 5 ⟨19, [(0, vs aWord), (4, vi x1.1), (5, vb x1.2)], []⟩ ?_
  refine swp_seq ?_
  refine swp_regJ h (fun j3 => ⟨19, [(2, vi x1.1), (3, vb j3)], []⟩) (fun v4 h => ?_) (fun j3 h => ?_)
  refine SRun.ck tbok 3 ⟨19, [(0, vs aWord), (11, vi x1.1), (13, vb x1.2)], []⟩ ?_
  refine SRun.cu [(13, fun b => b)] h (fun h => ?_) fun h => ?_
  refine SRun.ck tbok 1 ⟨19, [(11, vi x1.1), (13, vb true), (14, vs aWord)], []⟩ ?_
  obtain ⟨x2, hx2, h⟩ := bind_some h
  refine SRun.ls (xc ents22 (strings_TrimPrefix_run aWord (ByteArray.mk #[45]) _ hx2)) ?_
  refine SRun.ck tbok 5 ⟨19, [(2, vi x1.1), (3, vb (decide ((x2.size : Int) ≤ 13)))], []⟩ ?_
  refine SRun.nil ?_
  obtain rfl := inj h
  exact Le.sub0
  refine SRun.ck tbok 7 ⟨19, [(2, vi x1.1), (3, vb false)], []⟩ ?_
  refine SRun.nil ?_
  obtain rfl := inj h
  exact Le.sub0
  refine swp_ret ?_
  obtain rfl := inj h
  exact q_fr (f2 fv fv)
theorem ents17 : Ents Tryd.prog 17 := ents_of Tryd.func17 (by kernel_rfl) rfl
noncomputable def impl_isIndex (aWord : ByteArray) : Option (Bool) :=
  ((impl_consoleNumber aWord).bind fun x1 => some (x1.2 && (decide (x1.1 ≥ 0))))
theorem impl_isIndex_run (aWord : ByteArray) (r : Bool) (h : impl_isIndex aWord = some r) : SCall Tryd.prog 13 [.v (vs aWord)] ⟨[.v (vb r)], [], false⟩ := by
  refine scall_in Tryd.func13 rfl [(.tmp 2)] rfl (fun r => ⟨[.v (vb r)], [], false⟩) (r := r) ?_
  unfold impl_isIndex at h
  refine srk tbok ⟨15, [(0, vs aWord)], []⟩ ?_
  refine sr ?_
  refine SRun.ck tbok 1 ⟨15, [(6, vs aWord)], []⟩ ?_
  obtain ⟨x1, hx1, h⟩ := bind_some h
  refine SRun.ls (xc ents17 (impl_consoleNumber_run aWord _ hx1)) ?_
  refine ckn tbok 5 ⟨15, [(3, vi x1.1), (4, vb x1.2)], []⟩ ?_
  refine swp_seq ?_
  refine swp_regP ⟨15, [(2, vb (x1.2 && (decide (x1.1 ≥ 0))))], []⟩ ?_ ?_
  refine SRun.ck tbok 2 ⟨15, [(3, vi x1.1), (11, vb x1.2)], []⟩ ?_
  generalize x1.2 = bb
  cases bb
  refine SRun.ck tbok 4 ⟨15, [(2, vb false)], []⟩ ?_
  exact SRun.nil (Le.sub0)
  refine SRun.ck tbok 4 ⟨15, [(2, vb (decide (x1.1 ≥ 0)))], []⟩ ?_
  exact SRun.nil (Le.sub0)
  refine swp_ret ?_
  obtain rfl := inj h
  exact q_fr (f1 fv)
theorem ents13 : Ents Tryd.prog 13 := ents_of Tryd.func13 (by kernel_rfl) rfl
noncomputable def impl_isInteger (aWord : ByteArray) : Option (Bool) :=
  ((impl_consoleNumber aWord).bind fun x1 => some x1.2)
theorem impl_isInteger_run (aWord : ByteArray) (r : Bool) (h : impl_isInteger aWord = some r) : SCall Tryd.prog 14 [.v (vs aWord)] ⟨[.v (vb r)], [], false⟩ := by
  refine scall_in Tryd.func14 rfl [(.tmp 2)] rfl (fun r => ⟨[.v (vb r)], [], false⟩) (r := r) ?_
  unfold impl_isInteger at h
  refine srk tbok ⟨11, [(0, vs aWord)], []⟩ ?_
  refine sr ?_
  refine SRun.ck tbok 1 ⟨11, [(6, vs aWord)], []⟩ ?_
  obtain ⟨x1, hx1, h⟩ := bind_some h
  refine SRun.ls (xc ents17 (impl_consoleNumber_run aWord _ hx1)) ?_
  refine ckn tbok 5 ⟨11, [(4, vb x1.2)], []⟩ ?_
  refine srk tbok ⟨11, [(2, vb x1.2)], []⟩ ?_
  refine swp_ret ?_
  obtain rfl := inj h
  exact q_fr (f1 fv)
theorem ents14 : Ents Tryd.prog 14 := ents_of Tryd.func14 (by kernel_rfl) rfl
noncomputable def impl_isCommand (aWords : (List ByteArray)) : Option (Bool) :=
  ((at' aWords 0).bind fun x1 => (((((bif (x1.toList == (ByteArray.mk #[99, 111, 114, 101, 115]).toList) then some (x1.toList == (ByteArray.mk #[99, 111, 114, 101, 115]).toList) else (bif (x1.toList == (ByteArray.mk #[114, 101, 112, 97, 105, 114]).toList) then some (x1.toList == (ByteArray.mk #[114, 101, 112, 97, 105, 114]).toList) else some (x1.toList == (ByteArray.mk #[115, 111, 117, 114, 99, 101, 115]).toList)))).bind fun (j4 : Bool) => (bif j4 then some (.inr ((aWords.length : Int) == 1)) else (bif (x1.toList == (ByteArray.mk #[99, 108, 97, 105, 109]).toList) then some (.inr ((aWords.length : Int) == 2)) else (((bif (x1.toList == (ByteArray.mk #[115, 105, 116, 101]).toList) then some (x1.toList == (ByteArray.mk #[115, 105, 116, 101]).toList) else (bif (x1.toList == (ByteArray.mk #[119, 97, 121]).toList) then some (x1.toList == (ByteArray.mk #[119, 97, 121]).toList) else (bif (x1.toList == (ByteArray.mk #[102, 97, 114]).toList) then some (x1.toList == (ByteArray.mk #[102, 97, 114]).toList) else some (x1.toList == (ByteArray.mk #[97, 112, 97, 114, 116]).toList))))).bind fun (j6 : Bool) => (bif j6 then some (.inr ((aWords.length : Int) == 3)) else (bif (x1.toList == (ByteArray.mk #[100, 114, 111, 112]).toList) then (((bif ((aWords.length : Int) == 2) then ((at' aWords 1).bind fun x8 => ((impl_isIndex x8).bind fun x9 => some x9)) else some false)).bind fun (j10 : Bool) => some (.inr j10)) else (((bif (x1.toList == (ByteArray.mk #[110, 97, 109, 101]).toList) then some (x1.toList == (ByteArray.mk #[110, 97, 109, 101]).toList) else some (x1.toList == (ByteArray.mk #[112, 97, 114, 101, 110, 116]).toList))).bind fun (j12 : Bool) => (bif j12 then (((bif ((aWords.length : Int) == 3) then ((at' aWords 2).bind fun x14 => ((impl_isInteger x14).bind fun x15 => some x15)) else some false)).bind fun (j16 : Bool) => some (.inr j16)) else (bif (x1.toList == (ByteArray.mk #[116, 101, 115, 116]).toList) then some (.inr (((aWords.length : Int) == 4) || (((aWords.length : Int) == 6) || ((aWords.length : Int) == 7)))) else some (.inl ()))))))))))).bind (Sum.elim (fun (_ : Unit) => some false) some)))
theorem impl_isCommand_run (aWords : (List ByteArray)) (r : Bool) (h : impl_isCommand aWords = some r) : SCall Tryd.prog 7 [.v (vl eS aWords)] ⟨[.v (vb r)], [], false⟩ := by
  refine scall_in Tryd.func7 rfl [(.tmp 2)] rfl (fun r => ⟨[.v (vb r)], [], false⟩) (r := r) ?_
  unfold impl_isCommand at h
  refine srk tbok ⟨59, [(0, vl eS aWords)], []⟩ ?_
  refine srk tbok ⟨59, [(0, vl eS aWords), (3, vi (aWords.length : Int))], []⟩ ?_
  refine swp_seq ?_
  refine sr ?_
  refine SRun.ck tbok 1 ⟨59, [(0, vl eS aWords), (3, vi (aWords.length : Int)), (6, vl eS aWords)], []⟩ ?_
  obtain ⟨x1, hx1, h⟩ := bind_some h
  refine SRun.ls (x_index (L := aWords) (f := eS) (ti := ti23) (tj := ti9) (e := 9) (k := .i64) tbok rfl hx1) ?_
  refine ckn tbok 1 ⟨59, [(0, vl eS aWords), (3, vi (aWords.length : Int)), (8, vs x1)], []⟩ ?_
  refine swp_seqE (r := r) h (fun j2 => ⟨59, [], []⟩) (fun v3 h => ?_) (fun j2 h => ?_)
  refine swp_blk (a := v3) ?_
  refine swp_seq ?_
  refine srk tbok ⟨59, [(0, vl eS aWords), (3, vi (aWords.length : Int)), (8, vs x1), (9, vb (x1.toList == (ByteArray.mk #[99, 111, 114, 101, 115]).toList))], []⟩ ?_
  refine swp_seqJ h (fun j4 => ⟨59, [(0, vl eS aWords), (3, vi (aWords.length : Int)), (8, vs x1), (9, vb j4)], []⟩) (fun v5 h => ?_) (fun j4 h => ?_)
  refine swp_cd h (fun h => ?_) fun h => ?_
  refine swp_skip ?_
  obtain rfl := inj h
  exact q_j (Le.sub0)
  refine srk tbok ⟨59, [(0, vl eS aWords), (3, vi (aWords.length : Int)), (8, vs x1), (9, vb (x1.toList == (ByteArray.mk #[114, 101, 112, 97, 105, 114]).toList))], []⟩ ?_
  refine swp_cd h (fun h => ?_) fun h => ?_
  refine swp_skip ?_
  obtain rfl := inj h
  exact q_j (Le.sub0)
  refine swp_reg ?_
  refine SRun.ck tbok 2 ⟨59, [(0, vl eS aWords), (3, vi (aWords.length : Int)), (8, vs x1), (9, vb (x1.toList == (ByteArray.mk #[115, 111, 117, 114, 99, 101, 115]).toList))], []⟩ ?_
  refine SRun.nil ?_
  obtain rfl := inj h
  exact q_j (Le.sub0)
  refine swp_cd h (fun h => ?_) fun h => ?_
  refine srk tbok ⟨59, [(2, vb ((aWords.length : Int) == 1))], []⟩ ?_
  refine swp_ret ?_
  obtain rfl := inj h
  exact q_br (q_rr (q_fr (f1 fv)))
  refine srk tbok ⟨59, [(0, vl eS aWords), (3, vi (aWords.length : Int)), (8, vs x1), (15, vb (x1.toList == (ByteArray.mk #[99, 108, 97, 105, 109]).toList))], []⟩ ?_
  refine swp_cd h (fun h => ?_) fun h => ?_
  refine srk tbok ⟨59, [(2, vb ((aWords.length : Int) == 2))], []⟩ ?_
  refine swp_ret ?_
  obtain rfl := inj h
  exact q_br (q_rr (q_fr (f1 fv)))
  refine swp_seq ?_
  refine srk tbok ⟨59, [(0, vl eS aWords), (3, vi (aWords.length : Int)), (8, vs x1), (19, vb (x1.toList == (ByteArray.mk #[115, 105, 116, 101]).toList))], []⟩ ?_
  refine swp_seqJ h (fun j6 => ⟨59, [(0, vl eS aWords), (3, vi (aWords.length : Int)), (8, vs x1), (19, vb j6)], []⟩) (fun v7 h => ?_) (fun j6 h => ?_)
  refine swp_cd h (fun h => ?_) fun h => ?_
  refine swp_skip ?_
  obtain rfl := inj h
  exact q_j (Le.sub0)
  refine srk tbok ⟨59, [(0, vl eS aWords), (3, vi (aWords.length : Int)), (8, vs x1), (19, vb (x1.toList == (ByteArray.mk #[119, 97, 121]).toList))], []⟩ ?_
  refine swp_cd h (fun h => ?_) fun h => ?_
  refine swp_skip ?_
  obtain rfl := inj h
  exact q_j (Le.sub0)
  refine srk tbok ⟨59, [(0, vl eS aWords), (3, vi (aWords.length : Int)), (8, vs x1), (19, vb (x1.toList == (ByteArray.mk #[102, 97, 114]).toList))], []⟩ ?_
  refine swp_cd h (fun h => ?_) fun h => ?_
  refine swp_skip ?_
  obtain rfl := inj h
  exact q_j (Le.sub0)
  refine swp_reg ?_
  refine SRun.ck tbok 2 ⟨59, [(0, vl eS aWords), (3, vi (aWords.length : Int)), (8, vs x1), (19, vb (x1.toList == (ByteArray.mk #[97, 112, 97, 114, 116]).toList))], []⟩ ?_
  refine SRun.nil ?_
  obtain rfl := inj h
  exact q_j (Le.sub0)
  refine swp_cd h (fun h => ?_) fun h => ?_
  refine srk tbok ⟨59, [(2, vb ((aWords.length : Int) == 3))], []⟩ ?_
  refine swp_ret ?_
  obtain rfl := inj h
  exact q_br (q_rr (q_fr (f1 fv)))
  refine srk tbok ⟨59, [(0, vl eS aWords), (3, vi (aWords.length : Int)), (8, vs x1), (26, vb (x1.toList == (ByteArray.mk #[100, 114, 111, 112]).toList))], []⟩ ?_
  refine swp_cd h (fun h => ?_) fun h => ?_
  refine swp_seq ?_
  refine swp_regJ h (fun j10 => ⟨59, [(2, vb j10)], []⟩) (fun v11 h => ?_) (fun j10 h => ?_)
  refine SRun.ck tbok 3 ⟨59, [(0, vl eS aWords), (30, vb ((aWords.length : Int) == 2))], []⟩ ?_
  refine SRun.cu [(30, fun b => b)] h (fun h => ?_) fun h => ?_
  refine SRun.ck tbok 1 ⟨59, [(30, vb true), (31, vl eS aWords)], []⟩ ?_
  obtain ⟨x8, hx8, h⟩ := bind_some h
  refine SRun.ls (x_index (L := aWords) (f := eS) (ti := ti23) (tj := ti9) (e := 9) (k := .i64) tbok rfl hx8) ?_
  refine SRun.ck tbok 1 ⟨59, [(30, vb true), (33, vs x8)], []⟩ ?_
  obtain ⟨x9, hx9, h⟩ := bind_some h
  refine SRun.ls (xc ents13 (impl_isIndex_run x8 _ hx9)) ?_
  refine SRun.ck tbok 2 ⟨59, [(2, vb x9)], []⟩ ?_
  refine SRun.nil ?_
  obtain rfl := inj h
  exact Le.sub0
  refine SRun.ck tbok 6 ⟨59, [(2, vb false)], []⟩ ?_
  refine SRun.nil ?_
  obtain rfl := inj h
  exact Le.sub0
  refine swp_ret ?_
  obtain rfl := inj h
  exact q_br (q_rr (q_fr (f1 fv)))
  refine swp_seq ?_
  refine srk tbok ⟨59, [(0, vl eS aWords), (3, vi (aWords.length : Int)), (8, vs x1), (36, vb (x1.toList == (ByteArray.mk #[110, 97, 109, 101]).toList))], []⟩ ?_
  refine swp_seqJ h (fun j12 => ⟨59, [(0, vl eS aWords), (3, vi (aWords.length : Int)), (8, vs x1), (36, vb j12)], []⟩) (fun v13 h => ?_) (fun j12 h => ?_)
  refine swp_cd h (fun h => ?_) fun h => ?_
  refine swp_skip ?_
  obtain rfl := inj h
  exact q_j (Le.sub0)
  refine swp_reg ?_
  refine SRun.ck tbok 2 ⟨59, [(0, vl eS aWords), (3, vi (aWords.length : Int)), (8, vs x1), (36, vb (x1.toList == (ByteArray.mk #[112, 97, 114, 101, 110, 116]).toList))], []⟩ ?_
  refine SRun.nil ?_
  obtain rfl := inj h
  exact q_j (Le.sub0)
  refine swp_cd h (fun h => ?_) fun h => ?_
  refine swp_seq ?_
  refine swp_regJ h (fun j16 => ⟨59, [(2, vb j16)], []⟩) (fun v17 h => ?_) (fun j16 h => ?_)
  refine SRun.ck tbok 3 ⟨59, [(0, vl eS aWords), (41, vb ((aWords.length : Int) == 3))], []⟩ ?_
  refine SRun.cu [(41, fun b => b)] h (fun h => ?_) fun h => ?_
  refine SRun.ck tbok 1 ⟨59, [(41, vb true), (42, vl eS aWords)], []⟩ ?_
  obtain ⟨x14, hx14, h⟩ := bind_some h
  refine SRun.ls (x_index (L := aWords) (f := eS) (ti := ti23) (tj := ti9) (e := 9) (k := .i64) tbok rfl hx14) ?_
  refine SRun.ck tbok 1 ⟨59, [(41, vb true), (44, vs x14)], []⟩ ?_
  obtain ⟨x15, hx15, h⟩ := bind_some h
  refine SRun.ls (xc ents14 (impl_isInteger_run x14 _ hx15)) ?_
  refine SRun.ck tbok 2 ⟨59, [(2, vb x15)], []⟩ ?_
  refine SRun.nil ?_
  obtain rfl := inj h
  exact Le.sub0
  refine SRun.ck tbok 6 ⟨59, [(2, vb false)], []⟩ ?_
  refine SRun.nil ?_
  obtain rfl := inj h
  exact Le.sub0
  refine swp_ret ?_
  obtain rfl := inj h
  exact q_br (q_rr (q_fr (f1 fv)))
  refine srk tbok ⟨59, [(3, vi (aWords.length : Int)), (47, vb (x1.toList == (ByteArray.mk #[116, 101, 115, 116]).toList))], []⟩ ?_
  refine swp_cd h (fun h => ?_) fun h => ?_
  refine swp_seq ?_
  refine swp_regP ⟨59, [(2, vb (((aWords.length : Int) == 4) || (((aWords.length : Int) == 6) || ((aWords.length : Int) == 7))))], []⟩ ?_ ?_
  refine SRun.ck tbok 3 ⟨59, [(3, vi (aWords.length : Int)), (51, vb ((aWords.length : Int) == 4))], []⟩ ?_
  generalize ((aWords.length : Int) == 4) = bb
  cases bb
  refine SRun.ck tbok 4 ⟨59, [(3, vi (aWords.length : Int)), (55, vb ((aWords.length : Int) == 6))], []⟩ ?_
  generalize ((aWords.length : Int) == 6) = bb
  cases bb
  refine SRun.ck tbok 4 ⟨59, [(2, vb ((aWords.length : Int) == 7))], []⟩ ?_
  exact SRun.nil (Le.sub0)
  refine SRun.ck tbok 4 ⟨59, [(2, vb true)], []⟩ ?_
  exact SRun.nil (Le.sub0)
  refine SRun.ck tbok 8 ⟨59, [(2, vb true)], []⟩ ?_
  exact SRun.nil (Le.sub0)
  refine swp_ret ?_
  obtain rfl := inj h
  exact q_br (q_rr (q_fr (f1 fv)))
  refine swp_skip ?_
  obtain rfl := inj h
  exact q_bn (q_l (Le.sub0))
  refine srk tbok ⟨59, [(2, vb false)], []⟩ ?_
  refine swp_ret ?_
  obtain rfl := inj h
  exact q_fr (f1 fv)
theorem ents7 : Ents Tryd.prog 7 := ents_of Tryd.func7 (by kernel_rfl) rfl
noncomputable def impl_IsConsoleLine (aLine : ByteArray) : Option (Bool) :=
  ((strings_Split aLine (ByteArray.mk #[32])).bind fun x1 => ((impl_isCommand x1).bind fun x2 => some x2))
theorem impl_IsConsoleLine_run (aLine : ByteArray) (r : Bool) (h : impl_IsConsoleLine aLine = some r) : SCall Tryd.prog 5 [.v (vs aLine)] ⟨[.v (vb r)], [], false⟩ := by
  refine scall_in Tryd.func5 rfl [(.tmp 2)] rfl (fun r => ⟨[.v (vb r)], [], false⟩) (r := r) ?_
  unfold impl_IsConsoleLine at h
  refine srk tbok ⟨6, [(0, vs aLine)], []⟩ ?_
  refine sr ?_
  refine SRun.ck tbok 1 ⟨6, [(3, vs aLine)], []⟩ ?_
  obtain ⟨x1, hx1, h⟩ := bind_some h
  refine SRun.ls (xc ents8 (strings_Split_run aLine (ByteArray.mk #[32]) _ hx1)) ?_
  obtain ⟨x2, hx2, h⟩ := bind_some h
  refine SRun.ls (xc ents7 (impl_isCommand_run x1 _ hx2)) ?_
  refine ckn tbok 1 ⟨6, [(2, vb x2)], []⟩ ?_
  refine swp_ret ?_
  obtain rfl := inj h
  exact q_fr (f1 fv)
theorem ents5 : Ents Tryd.prog 5 := ents_of Tryd.func5 (by kernel_rfl) rfl
noncomputable def laws_FnExactIsConsoleLine (aALine : ByteArray) : Option (Bool) :=
  (bif (decide ((aALine.size : Int) > 1048576)) then some true else ((spec_IsConsoleLine aALine).bind fun x1 => ((impl_IsConsoleLine aALine).bind fun x2 => (bif (!(x2 == x1)) then some false else some true))))
theorem laws_FnExactIsConsoleLine_run (aALine : ByteArray) (r : Bool) (h : laws_FnExactIsConsoleLine aALine = some r) : SCall Tryd.prog 3 [.v (vs aALine)] ⟨[.v (vb r)], [], false⟩ := by
  refine scall_in Tryd.func3 rfl [(.tmp 2)] rfl (fun r => ⟨[.v (vb r)], [], false⟩) (r := r) ?_
  unfold laws_FnExactIsConsoleLine at h
  refine srk tbok ⟨15, [(0, vs aALine)], []⟩ ?_
  refine swp_seq ?_
  refine srk tbok ⟨15, [(0, vs aALine), (7, vb (decide ((aALine.size : Int) > 1048576)))], []⟩ ?_
  refine swp_cd h (fun h => ?_) fun h => ?_
  refine srk tbok ⟨15, [(2, vb true)], []⟩ ?_
  refine swp_ret ?_
  obtain rfl := inj h
  exact nx_r (q_fr (f1 fv))
  refine swp_skip ?_
  refine nx_n ?_
  refine sr ?_
  refine SRun.ck tbok 1 ⟨15, [(0, vs aALine), (8, vs aALine)], []⟩ ?_
  obtain ⟨x1, hx1, h⟩ := bind_some h
  refine SRun.ls (xc ents4 (spec_IsConsoleLine_run aALine _ hx1)) ?_
  refine ckn tbok 1 ⟨15, [(0, vs aALine), (3, vb x1)], []⟩ ?_
  refine sr ?_
  refine SRun.ck tbok 1 ⟨15, [(3, vb x1), (10, vs aALine)], []⟩ ?_
  obtain ⟨x2, hx2, h⟩ := bind_some h
  refine SRun.ls (xc ents5 (impl_IsConsoleLine_run aALine _ hx2)) ?_
  refine ckn tbok 1 ⟨15, [(3, vb x1), (4, vb x2)], []⟩ ?_
  refine swp_seq ?_
  refine sr ?_
  refine SRun.ck tbok 2 ⟨15, [(12, vb x2), (13, vb x1)], []⟩ ?_
  refine SRun.ls (x_lstep_eqb tbok (ti := ti4) (i := x2) (j := x1) true rfl) ?_
  refine SRun.nx ?_
  refine swp_cd h (fun h => ?_) fun h => ?_
  refine srk tbok ⟨15, [(2, vb false)], []⟩ ?_
  refine swp_ret ?_
  obtain rfl := inj h
  exact nx_r (q_fr (f1 fv))
  refine swp_skip ?_
  refine nx_n ?_
  refine srk tbok ⟨15, [(2, vb true)], []⟩ ?_
  refine swp_ret ?_
  obtain rfl := inj h
  exact q_fr (f1 fv)
end Go.Proofs.YtlbfeieehmpldaaDoor.Sh
