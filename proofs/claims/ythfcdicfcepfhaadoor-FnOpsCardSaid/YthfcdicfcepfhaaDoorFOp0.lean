/- Typed functions and the calls that do what they say. -/
import Derived.Test.YthfcdicfcepfhaaDoorSE
import Derived.Test.YthfcdicfcepfhaaDoorKA
import Derived.Test.YthfcdicfcepfhaaDoorKS
import Derived.Test.YthfcdicfcepfhaaDoorH1
namespace Go.Proofs.YthfcdicfcepfhaaDoor.Sh
open Go.RowKit
structure Op where
  Office : Int
  Number : Int
  Key : ByteArray
  Text : ByteArray
  Seen : (List Int)
def eOp (x : Op) : List Tr := [.int .i64 x.Office, .int .i64 x.Number, .str x.Key, .str x.Text, .sl x.Seen.length (x.Seen.map (eI .i64))]
structure l01Source where
  code : (List Int)
  at' : Int
  seed : Int
def el01Source (x : l01Source) : List Tr := [.sl x.code.length (x.code.map (eI .u8)), .int .i64 x.at', .int .i64 x.seed]
def ti2 : TI := ⟨1, 8, .int .i64, [.int .i64 0]⟩
def ti3 : TI := ⟨1, 8, .int .i64, [.int .i64 0]⟩
def ti4 : TI := ⟨1, 1, .bool, [.bool false]⟩
def ti5 : TI := ⟨1, 1, .int .u8, [.int .u8 0]⟩
def ti9 : TI := ⟨1, 16, .str, [.str (ByteArray.mk #[])]⟩
def ti25 : TI := ⟨1, 24, .slice 61, [.sl ([] : List Op).length (([] : List Op).map eOp)]⟩
def ti32 : TI := ⟨1, 24, .slice 2, [.sl ([] : List Int).length (([] : List Int).map (eI .i64))]⟩
def ti50 : TI := ⟨1, 24, .slice 5, [.sl ([] : List Int).length (([] : List Int).map (eI .u8))]⟩
def ti61 : TI := ⟨5, 72, .struct [(0, 2), (1, 2), (2, 9), (3, 9), (4, 32)], [.int .i64 0, .int .i64 0, .str (ByteArray.mk #[]), .str (ByteArray.mk #[]), .sl ([] : List Int).length (([] : List Int).map (eI .i64))]⟩
def ti86 : TI := ⟨1, 24, .slice 9, [.sl ([] : List ByteArray).length (([] : List ByteArray).map eS)]⟩
def ti94 : TI := ⟨3, 40, .struct [(0, 50), (1, 3), (2, 2)], [.sl ([] : List Int).length (([] : List Int).map (eI .u8)), .int .i64 0, .int .i64 0]⟩
def tbl : Tb := [(2, ti2), (3, ti3), (4, ti4), (5, ti5), (9, ti9), (25, ti25), (32, ti32), (50, ti50), (61, ti61), (86, ti86), (94, ti94)]
theorem tbok : TbOk Tryd.prog tbl := TbOk.cons ⟨by kernel_rfl, show Tryd.prog.underlying 2 = some (.int .i64) from by kernel_rfl⟩ (TbOk.cons ⟨by kernel_rfl, show Tryd.prog.underlying 3 = some (.int .i64) from by kernel_rfl⟩ (TbOk.cons ⟨by kernel_rfl, show Tryd.prog.underlying 4 = some (.bool) from by kernel_rfl⟩ (TbOk.cons ⟨by kernel_rfl, show Tryd.prog.underlying 5 = some (.int .u8) from by kernel_rfl⟩ (TbOk.cons ⟨by kernel_rfl, show Tryd.prog.underlying 9 = some (.string) from by kernel_rfl⟩ (TbOk.cons ⟨by kernel_rfl, show Tryd.prog.underlying 25 = some (.slice 61) from by kernel_rfl⟩ (TbOk.cons ⟨by kernel_rfl, show Tryd.prog.underlying 32 = some (.slice 2) from by kernel_rfl⟩ (TbOk.cons ⟨by kernel_rfl, show Tryd.prog.underlying 50 = some (.slice 5) from by kernel_rfl⟩ (TbOk.cons ⟨by kernel_rfl, show structOf Tryd.prog 61 = some [(0, 2), (1, 2), (2, 9), (3, 9), (4, 32)] from by kernel_rfl⟩ (TbOk.cons ⟨by kernel_rfl, show Tryd.prog.underlying 86 = some (.slice 9) from by kernel_rfl⟩ (TbOk.cons ⟨by kernel_rfl, show structOf Tryd.prog 94 = some [(0, 50), (1, 3), (2, 2)] from by kernel_rfl⟩ (TbOk.nil _)))))))))))
theorem mixed : Tryd.prog.follows .mixedOrders = true := by kernel_rfl
noncomputable def laws_big (aCode : (List Int)) : Option (Bool) :=
  some (decide ((aCode.length : Int) > 4096))
set_option maxRecDepth 100000 in
set_option maxHeartbeats 4000000 in
theorem laws_big_run (aCode : (List Int)) (r : Bool) (h : laws_big aCode = some r) : SCall Tryd.prog 37 [.v (vl (eI .u8) aCode)] ⟨[.v (vb r)], [], false⟩ := by
  refine scall_in Tryd.func37 rfl [(.tmp 2)] rfl (fun r => ⟨[.v (vb r)], [], false⟩) (r := r) ?_
  unfold laws_big at h
  refine swp_seq ?_
  refine swp_reg ?_
  refine SRun.ck tbok 1 ⟨6, [(0, vl (eI .u8) aCode)], []⟩ ?_
  refine SRun.nil ?_
  refine nx_n ?_
  refine swp_seq ?_
  refine swp_reg ?_
  refine SRun.ck tbok 4 ⟨6, [(2, vb (decide ((aCode.length : Int) > 4096)))], []⟩ ?_
  refine SRun.nil ?_
  refine nx_n ?_
  refine swp_ret ?_
  replace h := Option.some.inj h
  subst h
  exact q_fr (fin1 (by kernel_rfl) (finV rfl SV.flat_of (holds_t (by kernel_rfl))))
theorem ents37 : Ents Tryd.prog 37 := ents_of Tryd.func37 (by kernel_rfl) rfl
noncomputable def spec_l01From (aCode : (List Int)) : Option (l01Source) :=
  (((forH (fun (i3 : Int) (_ : l01Source) => ((decide (i3 < (aCode.length : Int))) && (decide (i3 < 64)))) (fun (i3 : Int) (s3 : l01Source) => ((at' aCode i3).bind fun x7 => some (l01Source.mk s3.code s3.at' (Int.tmod (w64 ((w64 (s3.seed * 73)) + (w64 x7))) 2147483647)))) (fun (s3 : l01Source) => s3) 0 (l01Source.mk aCode 0 51031))).bind fun (j1 : l01Source) => some j1)
set_option maxRecDepth 100000 in
set_option maxHeartbeats 4000000 in
theorem spec_l01From_run (aCode : (List Int)) (r : l01Source) (h : spec_l01From aCode = some r) : SCall Tryd.prog 71 [.v (vl (eI .u8) aCode)] ⟨[.box [vl (eI .u8) r.code, vi r.at', vi r.seed]], [], true⟩ := by
  refine scall_in Tryd.func71 rfl [(.tmp 2)] rfl (fun r => ⟨[.box [vl (eI .u8) r.code, vi r.at', vi r.seed]], [], true⟩) (r := r) ?_
  unfold spec_l01From at h
  refine swp_seq ?_
  refine swp_reg ?_
  refine SRun.ls (x_lstep_skip rfl) ?_
  refine SRun.nil ?_
  refine nx_n ?_
  refine swp_seq ?_
  refine swp_reg ?_
  refine SRun.ck tbok 1 ⟨34, [(0, vl (eI .u8) aCode), (5, vl (eI .u8) aCode)], []⟩ ?_
  refine SRun.ls (x_lstep_build (v := .agg [vl (eI .u8) aCode, vi 0, vi 51031]) tbok rfl) ?_
  refine SRun.ck tbok 2 ⟨34, [(0, vl (eI .u8) aCode), (3, .ref 7 0)], [(7, .box [vl (eI .u8) aCode, vi 0, vi 51031])]⟩ ?_
  refine SRun.nil ?_
  refine nx_n ?_
  refine swp_seq ?_
  refine swp_seq ?_
  refine swp_reg ?_
  refine SRun.ck tbok 1 ⟨34, [(0, vl (eI .u8) aCode), (3, .ref 7 0), (4, vi 0)], [(7, .box [vl (eI .u8) aCode, vi 0, vi 51031])]⟩ ?_
  refine SRun.nil ?_
  refine nx_n ?_
  refine swp_seqJ h (fun j1 => ⟨34, [(3, .ref 7 0)], [(7, .box [vl (eI .u8) j1.code, vi j1.at', vi j1.seed])]⟩) (fun v2 h => ?_) (fun j1 h => ?_)
  refine swp_blk (a := v2) ?_
  refine swp_lpL (r := v2) (s := (0, (l01Source.mk aCode 0 51031))) _ (fun s3 => ⟨34, [(0, vl (eI .u8) aCode), (3, .ref 7 0), (4, vi s3.1)], [(7, .box [vl (eI .u8) s3.2.code, vi s3.2.at', vi s3.2.seed])]⟩) _ (Le.sub0) h (fun s3 v4 h => ?_)
  refine swp_seq ?_
  refine swp_seq ?_
  refine swp_regP ⟨34, [(0, vl (eI .u8) aCode), (3, .ref 7 0), (4, vi s3.1), (15, vb ((decide (s3.1 < (aCode.length : Int))) && (decide (s3.1 < 64))))], [(7, .box [vl (eI .u8) s3.2.code, vi s3.2.at', vi s3.2.seed])]⟩ ?_ ?_
  refine SRun.ck tbok 5 ⟨34, [(0, vl (eI .u8) aCode), (3, .ref 7 0), (4, vi s3.1), (12, vb (decide (s3.1 < (aCode.length : Int))))], [(7, .box [vl (eI .u8) s3.2.code, vi s3.2.at', vi s3.2.seed])]⟩ ?_
  generalize (decide (s3.1 < (aCode.length : Int))) = bb
  cases bb
  refine SRun.ck tbok 3 ⟨34, [(0, vl (eI .u8) aCode), (3, .ref 7 0), (4, vi s3.1), (15, vb false)], [(7, .box [vl (eI .u8) s3.2.code, vi s3.2.at', vi s3.2.seed])]⟩ ?_
  exact SRun.nil (Le.sub0)
  refine SRun.ck tbok 3 ⟨34, [(0, vl (eI .u8) aCode), (3, .ref 7 0), (4, vi s3.1), (15, vb (decide (s3.1 < 64)))], [(7, .box [vl (eI .u8) s3.2.code, vi s3.2.at', vi s3.2.seed])]⟩ ?_
  exact SRun.nil (Le.sub0)
  refine swp_cond (b := ((decide (s3.1 < (aCode.length : Int))) && (decide (s3.1 < 64)))) (by kernel_rfl) (fun hb => ?_) (fun hb => ?_)
  replace h := cond_t hb h
  refine swp_skip ?_
  refine nx_n ?_
  refine swp_seq ?_
  refine swp_seqJ h (fun j5 => ⟨34, [(0, vl (eI .u8) aCode), (3, .ref 7 0), (4, vi s3.1)], [(7, .box [vl (eI .u8) j5.code, vi j5.at', vi j5.seed])]⟩) (fun v6 h => ?_) (fun j5 h => ?_)
  refine swp_blk (a := v6) ?_
  refine swp_dr mixed ?_
  refine DGo.chunk' tbok 8 (σ' := ⟨34, [(25, vi s3.1), (24, vl (eI .u8) aCode), (23, vi (w64 (s3.2.seed * 73))), (22, vi s3.2.seed), (21, .ref 7 2), (20, .ref 7 0), (19, .ref 7 0), (18, .ref 7 0), (0, vl (eI .u8) aCode), (3, .ref 7 0), (4, vi s3.1), (15, vb ((decide (s3.1 < (aCode.length : Int))) && (decide (s3.1 < 64))))], [(7, .box [vl (eI .u8) s3.2.code, vi s3.2.at', vi s3.2.seed])]⟩) (by kernel_rfl) ?_
  obtain ⟨x7, hx7, h⟩ := bind_some h
  refine DGo.step (x_index (L := aCode) (f := (eI .u8)) (ti := ti50) (tj := ti5) (e := 5) (k := .i64) tbok rfl hx7) ?_
  refine DGo.chunk' tbok 6 (σ' := ⟨34, [(32, .ref 7 2), (31, .ref 7 0), (30, vi (Int.tmod (w64 ((w64 (s3.2.seed * 73)) + (w64 x7))) 2147483647)), (29, vi (w64 ((w64 (s3.2.seed * 73)) + (w64 x7)))), (28, vi (w64 x7)), (27, .tr (.int .u8 x7)), (26, .ptr (((eI .u8) x7).map .tr) 0), (25, vi s3.1), (24, vl (eI .u8) aCode), (23, vi (w64 (s3.2.seed * 73))), (22, vi s3.2.seed), (21, .ref 7 2), (20, .ref 7 0), (19, .ref 7 0), (18, .ref 7 0), (0, vl (eI .u8) aCode), (3, .ref 7 0), (4, vi s3.1), (15, vb ((decide (s3.1 < (aCode.length : Int))) && (decide (s3.1 < 64))))], [(7, .box [vl (eI .u8) s3.2.code, vi s3.2.at', vi s3.2.seed])]⟩) (by kernel_rfl) ?_
  refine DGo.seq (by kernel_rfl) (by kernel_rfl) ?_
  refine SRun.estep (x_estep_store (d := 7) (k := 2) (ti := ti2) (cs := [vl (eI .u8) s3.2.code, vi s3.2.at', vi s3.2.seed]) (vs := [vi (Int.tmod (w64 ((w64 (s3.2.seed * 73)) + (w64 x7))) 2147483647)]) (v := vi (Int.tmod (w64 ((w64 (s3.2.seed * 73)) + (w64 x7))) 2147483647)) tbok rfl rfl) ?_
  refine SRun.nil ?_
  replace h := Option.some.inj h
  subst h
  exact q_bn (q_j (Le.sub0))
  refine swp_reg ?_
  refine SRun.ck tbok 3 ⟨34, [(0, vl (eI .u8) aCode), (3, .ref 7 0), (4, vi (w64 (s3.1 + 1)))], [(7, .box [vl (eI .u8) j5.code, vi j5.at', vi j5.seed])]⟩ ?_
  refine SRun.nil ?_
  replace h := Option.some.inj h
  subst h
  exact q_l (Le.sub0)
  replace h := cond_f hb h
  refine swp_exit ?_
  replace h := Option.some.inj h
  subst h
  exact nx_e (q_re (q_bh (q_j (Le.sub0))))
  refine swp_seq ?_
  refine swp_reg ?_
  refine SRun.ck tbok 2 ⟨34, [(2, .ref 7 0)], [(7, .box [vl (eI .u8) j1.code, vi j1.at', vi j1.seed])]⟩ ?_
  refine SRun.nil ?_
  refine nx_n ?_
  refine swp_ret ?_
  replace h := Option.some.inj h
  subst h
  exact q_fr (fin1 (by kernel_rfl) (finBT (d := 7) (holds_t (by kernel_rfl)) (by kernel_rfl) rfl (by kernel_rfl)))
theorem ents71 : Ents Tryd.prog 71 := ents_of Tryd.func71 (by kernel_rfl) rfl
noncomputable def spec_l01Next (aS : l01Source) (aN : Int) : Option (Int × l01Source) :=
  (bif (decide (aN ≤ 1)) then some (0, aS) else (((bif (decide (aS.at' < (aS.code.length : Int))) then ((at' aS.code aS.at').bind fun x3 => (bif ((decide (aN ≤ 256)) && ((Int.tmod (w64 (aS.at' + 1)) 2) == 0)) then ((at' aS.code (w64 ((w64 (aS.at' + 1)) - 1))).bind fun x4 => some ((w64 x4), (l01Source.mk aS.code (w64 (aS.at' + 1)) (Int.tmod (w64 ((w64 (aS.seed * 48271)) + 29)) 2147483647)))) else some ((w64 ((w64 (Int.tdiv (Int.tmod (w64 ((w64 (aS.seed * 48271)) + 29)) 2147483647) 31)) + (w64 x3))), (l01Source.mk aS.code (w64 (aS.at' + 1)) (Int.tmod (w64 ((w64 (aS.seed * 48271)) + 29)) 2147483647))))) else some ((w64 (Int.tdiv (Int.tmod (w64 ((w64 (aS.seed * 48271)) + 29)) 2147483647) 31)), (l01Source.mk aS.code aS.at' (Int.tmod (w64 ((w64 (aS.seed * 48271)) + 29)) 2147483647))))).bind fun (j1 : Int × l01Source) => ((nz' aN).bind fun _ => some ((Int.tmod j1.1 aN), j1.2))))
set_option maxRecDepth 100000 in
set_option maxHeartbeats 4000000 in
theorem spec_l01Next_run (aS : l01Source) (aN : Int) (r : Int × l01Source) (h : spec_l01Next aS aN = some r) : SCall Tryd.prog 77 [.o (.box [vl (eI .u8) aS.code, vi aS.at', vi aS.seed]), .v (vi aN)] ⟨[.v (vi r.1)], [(0, .box [vl (eI .u8) r.2.code, vi r.2.at', vi r.2.seed])], false⟩ := by
  refine scall_in Tryd.func77 rfl [(.tmp 4)] rfl (fun r => ⟨[.v (vi r.1)], [(0, .box [vl (eI .u8) r.2.code, vi r.2.at', vi r.2.seed])], false⟩) (r := r) ?_
  unfold spec_l01Next at h
  refine swp_seq ?_
  refine swp_reg ?_
  refine SRun.ck tbok 1 ⟨78, [(0, .ref 1000000 0), (1, vi aN)], [(1000000, .box [vl (eI .u8) aS.code, vi aS.at', vi aS.seed])]⟩ ?_
  refine SRun.nil ?_
  refine nx_n ?_
  refine swp_seq ?_
  refine swp_seq ?_
  refine swp_reg ?_
  refine SRun.ck tbok 2 ⟨78, [(0, .ref 1000000 0), (1, vi aN), (7, vb (decide (aN ≤ 1)))], [(1000000, .box [vl (eI .u8) aS.code, vi aS.at', vi aS.seed])]⟩ ?_
  refine SRun.nil ?_
  refine nx_n ?_
  refine swp_cond (b := (decide (aN ≤ 1))) (by kernel_rfl) (fun hb => ?_) (fun hb => ?_)
  replace h := cond_t hb h
  refine swp_seq ?_
  refine swp_reg ?_
  refine SRun.ck tbok 1 ⟨78, [(4, vi 0)], [(1000000, .box [vl (eI .u8) aS.code, vi aS.at', vi aS.seed])]⟩ ?_
  refine SRun.nil ?_
  refine nx_n ?_
  refine swp_ret ?_
  replace h := Option.some.inj h
  subst h
  exact nx_r (q_fr (fin_io (fin1 (by kernel_rfl) (finV rfl SV.flat_of (holds_t (by kernel_rfl)))) (y := .box [vl (eI .u8) aS.code, vi aS.at', vi aS.seed]) (by kernel_rfl) rfl (by kernel_rfl) (by kernel_rfl)))
  replace h := cond_f hb h
  refine swp_skip ?_
  refine nx_n ?_
  refine swp_seq ?_
  refine swp_reg ?_
  refine SRun.ck tbok 10 ⟨78, [(0, .ref 1000000 0), (1, vi aN), (15, vi (Int.tmod (w64 ((w64 (aS.seed * 48271)) + 29)) 2147483647)), (17, .ref 1000000 2)], [(1000000, .box [vl (eI .u8) aS.code, vi aS.at', vi aS.seed])]⟩ ?_
  refine SRun.estep (x_estep_store (d := 1000000) (k := 2) (ti := ti2) (cs := [vl (eI .u8) aS.code, vi aS.at', vi aS.seed]) (vs := [vi (Int.tmod (w64 ((w64 (aS.seed * 48271)) + 29)) 2147483647)]) (v := vi (Int.tmod (w64 ((w64 (aS.seed * 48271)) + 29)) 2147483647)) tbok rfl rfl) ?_
  refine SRun.nil ?_
  refine nx_n ?_
  refine swp_seq ?_
  refine swp_reg ?_
  refine SRun.ck tbok 6 ⟨78, [(0, .ref 1000000 0), (1, vi aN), (5, vi (w64 (Int.tdiv (Int.tmod (w64 ((w64 (aS.seed * 48271)) + 29)) 2147483647) 31)))], [(1000000, .box [vl (eI .u8) aS.code, vi aS.at', vi (Int.tmod (w64 ((w64 (aS.seed * 48271)) + 29)) 2147483647)])]⟩ ?_
  refine SRun.nil ?_
  refine nx_n ?_
  refine swp_seq ?_
  refine swp_seq ?_
  refine swp_dr mixed ?_
  refine DGo.chunk' tbok 10 (σ' := ⟨78, [(32, vb (decide (aS.at' < (aS.code.length : Int)))), (31, vi (aS.code.length : Int)), (30, vl (eI .u8) aS.code), (29, .ref 1000000 0), (28, .ref 1000000 0), (27, .ref 1000000 0), (26, vi aS.at'), (25, .ref 1000000 1), (24, .ref 1000000 0), (23, .ref 1000000 0), (0, .ref 1000000 0), (1, vi aN), (5, vi (w64 (Int.tdiv (Int.tmod (w64 ((w64 (aS.seed * 48271)) + 29)) 2147483647) 31)))], [(1000000, .box [vl (eI .u8) aS.code, vi aS.at', vi (Int.tmod (w64 ((w64 (aS.seed * 48271)) + 29)) 2147483647)])]⟩) (by kernel_rfl) ?_
  refine DGo.nil (by kernel_rfl) ?_
  refine nx_n ?_
  refine swp_seqJ h (fun j1 => ⟨78, [(1, vi aN), (5, vi j1.1)], [(1000000, .box [vl (eI .u8) j1.2.code, vi j1.2.at', vi j1.2.seed])]⟩) (fun v2 h => ?_) (fun j1 h => ?_)
  refine swp_cond (b := (decide (aS.at' < (aS.code.length : Int)))) (by kernel_rfl) (fun hb => ?_) (fun hb => ?_)
  replace h := cond_t hb h
  refine swp_seq ?_
  refine swp_dr mixed ?_
  refine DGo.chunk' tbok 9 (σ' := ⟨78, [(41, vi aS.at'), (40, .ref 1000000 1), (39, .ref 1000000 0), (38, .ref 1000000 0), (37, vl (eI .u8) aS.code), (36, .ref 1000000 0), (35, .ref 1000000 0), (34, .ref 1000000 0), (33, vi (w64 (Int.tdiv (Int.tmod (w64 ((w64 (aS.seed * 48271)) + 29)) 2147483647) 31))), (32, vb (decide (aS.at' < (aS.code.length : Int)))), (31, vi (aS.code.length : Int)), (30, vl (eI .u8) aS.code), (29, .ref 1000000 0), (28, .ref 1000000 0), (27, .ref 1000000 0), (26, vi aS.at'), (25, .ref 1000000 1), (24, .ref 1000000 0), (23, .ref 1000000 0), (0, .ref 1000000 0), (1, vi aN), (5, vi (w64 (Int.tdiv (Int.tmod (w64 ((w64 (aS.seed * 48271)) + 29)) 2147483647) 31)))], [(1000000, .box [vl (eI .u8) aS.code, vi aS.at', vi (Int.tmod (w64 ((w64 (aS.seed * 48271)) + 29)) 2147483647)])]⟩) (by kernel_rfl) ?_
  obtain ⟨x3, hx3, h⟩ := bind_some h
  refine DGo.step (x_index (L := aS.code) (f := (eI .u8)) (ti := ti50) (tj := ti5) (e := 5) (k := .i64) tbok rfl hx3) ?_
  refine DGo.chunk' tbok 4 (σ' := ⟨78, [(5, vi (w64 ((w64 (Int.tdiv (Int.tmod (w64 ((w64 (aS.seed * 48271)) + 29)) 2147483647) 31)) + (w64 x3)))), (45, vi (w64 ((w64 (Int.tdiv (Int.tmod (w64 ((w64 (aS.seed * 48271)) + 29)) 2147483647) 31)) + (w64 x3)))), (44, vi (w64 x3)), (43, .tr (.int .u8 x3)), (42, .ptr (((eI .u8) x3).map .tr) 0), (41, vi aS.at'), (40, .ref 1000000 1), (39, .ref 1000000 0), (38, .ref 1000000 0), (37, vl (eI .u8) aS.code), (36, .ref 1000000 0), (35, .ref 1000000 0), (34, .ref 1000000 0), (33, vi (w64 (Int.tdiv (Int.tmod (w64 ((w64 (aS.seed * 48271)) + 29)) 2147483647) 31))), (32, vb (decide (aS.at' < (aS.code.length : Int)))), (31, vi (aS.code.length : Int)), (30, vl (eI .u8) aS.code), (29, .ref 1000000 0), (28, .ref 1000000 0), (27, .ref 1000000 0), (26, vi aS.at'), (25, .ref 1000000 1), (24, .ref 1000000 0), (23, .ref 1000000 0), (0, .ref 1000000 0), (1, vi aN)], [(1000000, .box [vl (eI .u8) aS.code, vi aS.at', vi (Int.tmod (w64 ((w64 (aS.seed * 48271)) + 29)) 2147483647)])]⟩) (by kernel_rfl) ?_
  refine DGo.nil (by kernel_rfl) ?_
  refine nx_n ?_
  refine swp_seq ?_
  refine swp_reg ?_
  refine SRun.ck tbok 7 ⟨78, [(0, .ref 1000000 0), (1, vi aN), (5, vi (w64 ((w64 (Int.tdiv (Int.tmod (w64 ((w64 (aS.seed * 48271)) + 29)) 2147483647) 31)) + (w64 x3)))), (50, vi (w64 (aS.at' + 1))), (52, .ref 1000000 1)], [(1000000, .box [vl (eI .u8) aS.code, vi aS.at', vi (Int.tmod (w64 ((w64 (aS.seed * 48271)) + 29)) 2147483647)])]⟩ ?_
  refine SRun.estep (x_estep_store (d := 1000000) (k := 1) (ti := ti3) (cs := [vl (eI .u8) aS.code, vi aS.at', vi (Int.tmod (w64 ((w64 (aS.seed * 48271)) + 29)) 2147483647)]) (vs := [vi (w64 (aS.at' + 1))]) (v := vi (w64 (aS.at' + 1))) tbok rfl rfl) ?_
  refine SRun.nil ?_
  refine nx_n ?_
  refine swp_seq ?_
  refine swp_regP ⟨78, [(0, .ref 1000000 0), (1, vi aN), (5, vi (w64 ((w64 (Int.tdiv (Int.tmod (w64 ((w64 (aS.seed * 48271)) + 29)) 2147483647) 31)) + (w64 x3)))), (62, vb ((decide (aN ≤ 256)) && ((Int.tmod (w64 (aS.at' + 1)) 2) == 0)))], [(1000000, .box [vl (eI .u8) aS.code, vi (w64 (aS.at' + 1)), vi (Int.tmod (w64 ((w64 (aS.seed * 48271)) + 29)) 2147483647)])]⟩ ?_ ?_
  refine SRun.ck tbok 3 ⟨78, [(0, .ref 1000000 0), (1, vi aN), (5, vi (w64 ((w64 (Int.tdiv (Int.tmod (w64 ((w64 (aS.seed * 48271)) + 29)) 2147483647) 31)) + (w64 x3)))), (55, vb (decide (aN ≤ 256)))], [(1000000, .box [vl (eI .u8) aS.code, vi (w64 (aS.at' + 1)), vi (Int.tmod (w64 ((w64 (aS.seed * 48271)) + 29)) 2147483647)])]⟩ ?_
  generalize (decide (aN ≤ 256)) = bb
  cases bb
  refine SRun.ck tbok 7 ⟨78, [(0, .ref 1000000 0), (1, vi aN), (5, vi (w64 ((w64 (Int.tdiv (Int.tmod (w64 ((w64 (aS.seed * 48271)) + 29)) 2147483647) 31)) + (w64 x3)))), (62, vb false)], [(1000000, .box [vl (eI .u8) aS.code, vi (w64 (aS.at' + 1)), vi (Int.tmod (w64 ((w64 (aS.seed * 48271)) + 29)) 2147483647)])]⟩ ?_
  exact SRun.nil (Le.sub0)
  refine SRun.ck tbok 7 ⟨78, [(0, .ref 1000000 0), (1, vi aN), (5, vi (w64 ((w64 (Int.tdiv (Int.tmod (w64 ((w64 (aS.seed * 48271)) + 29)) 2147483647) 31)) + (w64 x3)))), (62, vb ((Int.tmod (w64 (aS.at' + 1)) 2) == 0))], [(1000000, .box [vl (eI .u8) aS.code, vi (w64 (aS.at' + 1)), vi (Int.tmod (w64 ((w64 (aS.seed * 48271)) + 29)) 2147483647)])]⟩ ?_
  exact SRun.nil (Le.sub0)
  refine swp_cond (b := ((decide (aN ≤ 256)) && ((Int.tmod (w64 (aS.at' + 1)) 2) == 0))) (by kernel_rfl) (fun hb => ?_) (fun hb => ?_)
  replace h := cond_t hb h
  refine swp_dr mixed ?_
  refine DGo.chunk' tbok 9 (σ' := ⟨78, [(71, vi (w64 ((w64 (aS.at' + 1)) - 1))), (70, vi (w64 (aS.at' + 1))), (69, .ref 1000000 1), (68, .ref 1000000 0), (67, .ref 1000000 0), (66, vl (eI .u8) aS.code), (65, .ref 1000000 0), (64, .ref 1000000 0), (63, .ref 1000000 0), (0, .ref 1000000 0), (1, vi aN), (5, vi (w64 ((w64 (Int.tdiv (Int.tmod (w64 ((w64 (aS.seed * 48271)) + 29)) 2147483647) 31)) + (w64 x3)))), (62, vb ((decide (aN ≤ 256)) && ((Int.tmod (w64 (aS.at' + 1)) 2) == 0)))], [(1000000, .box [vl (eI .u8) aS.code, vi (w64 (aS.at' + 1)), vi (Int.tmod (w64 ((w64 (aS.seed * 48271)) + 29)) 2147483647)])]⟩) (by kernel_rfl) ?_
  obtain ⟨x4, hx4, h⟩ := bind_some h
  refine DGo.step (x_index (L := aS.code) (f := (eI .u8)) (ti := ti50) (tj := ti5) (e := 5) (k := .i64) tbok rfl hx4) ?_
  refine DGo.chunk' tbok 3 (σ' := ⟨78, [(5, vi (w64 x4)), (74, vi (w64 x4)), (73, .tr (.int .u8 x4)), (72, .ptr (((eI .u8) x4).map .tr) 0), (71, vi (w64 ((w64 (aS.at' + 1)) - 1))), (70, vi (w64 (aS.at' + 1))), (69, .ref 1000000 1), (68, .ref 1000000 0), (67, .ref 1000000 0), (66, vl (eI .u8) aS.code), (65, .ref 1000000 0), (64, .ref 1000000 0), (63, .ref 1000000 0), (0, .ref 1000000 0), (1, vi aN), (62, vb ((decide (aN ≤ 256)) && ((Int.tmod (w64 (aS.at' + 1)) 2) == 0)))], [(1000000, .box [vl (eI .u8) aS.code, vi (w64 (aS.at' + 1)), vi (Int.tmod (w64 ((w64 (aS.seed * 48271)) + 29)) 2147483647)])]⟩) (by kernel_rfl) ?_
  refine DGo.nil (by kernel_rfl) ?_
  replace h := Option.some.inj h
  subst h
  exact q_j (Le.sub0)
  replace h := cond_f hb h
  refine swp_skip ?_
  replace h := Option.some.inj h
  subst h
  exact q_j (Le.sub0)
  replace h := cond_f hb h
  refine swp_skip ?_
  replace h := Option.some.inj h
  subst h
  exact q_j (Le.sub0)
  refine swp_seq ?_
  refine swp_reg ?_
  refine SRun.ck tbok 2 ⟨78, [(75, vi j1.1), (76, vi aN)], [(1000000, .box [vl (eI .u8) j1.2.code, vi j1.2.at', vi j1.2.seed])]⟩ ?_
  obtain ⟨x5, hx5, h⟩ := bind_some h
  refine SRun.ls (x_lstep_quo (k := .i64) (i := j1.1) hx5 true rfl) ?_
  refine SRun.ck tbok 1 ⟨78, [(4, vi (Int.tmod j1.1 aN))], [(1000000, .box [vl (eI .u8) j1.2.code, vi j1.2.at', vi j1.2.seed])]⟩ ?_
  refine SRun.nil ?_
  refine nx_n ?_
  refine swp_ret ?_
  replace h := Option.some.inj h
  subst h
  exact q_fr (fin_io (fin1 (by kernel_rfl) (finV rfl SV.flat_of (holds_t (by kernel_rfl)))) (y := .box [vl (eI .u8) j1.2.code, vi j1.2.at', vi j1.2.seed]) (by kernel_rfl) rfl (by kernel_rfl) (by kernel_rfl))
theorem ents77 : Ents Tryd.prog 77 := ents_of Tryd.func77 (by kernel_rfl) rfl
noncomputable def spec_l01Good (aS : l01Source) : Option (ByteArray × l01Source) :=
  ((spec_l01Next aS 3).bind fun x1 => (((loop (fun (s4 : ByteArray × Int × l01Source) => (bif (decide (s4.2.1 > 0)) then ((((spec_l01Next s4.2.2 (([(ByteArray.mk #[97, 115, 104]), (ByteArray.mk #[102, 111, 114, 100]), (ByteArray.mk #[116, 111, 110]), (ByteArray.mk #[98, 121]), (ByteArray.mk #[107, 105, 114, 107]), (ByteArray.mk #[104, 97, 114]), (ByteArray.mk #[119, 105, 99, 107]), (ByteArray.mk #[101, 108, 121]), (ByteArray.mk #[111, 115]), (ByteArray.mk #[108, 111]), (ByteArray.mk #[98, 114, 105, 103]), (ByteArray.mk #[109, 97]), (ByteArray.mk #[114, 105]), (ByteArray.mk #[110, 97]), (ByteArray.mk #[115, 116]), (ByteArray.mk #[97, 101])] : List ByteArray).length : Int)).bind fun x8 => ((at' ([(ByteArray.mk #[97, 115, 104]), (ByteArray.mk #[102, 111, 114, 100]), (ByteArray.mk #[116, 111, 110]), (ByteArray.mk #[98, 121]), (ByteArray.mk #[107, 105, 114, 107]), (ByteArray.mk #[104, 97, 114]), (ByteArray.mk #[119, 105, 99, 107]), (ByteArray.mk #[101, 108, 121]), (ByteArray.mk #[111, 115]), (ByteArray.mk #[108, 111]), (ByteArray.mk #[98, 114, 105, 103]), (ByteArray.mk #[109, 97]), (ByteArray.mk #[114, 105]), (ByteArray.mk #[110, 97]), (ByteArray.mk #[115, 116]), (ByteArray.mk #[97, 101])] : List ByteArray) x8.1).bind fun x9 => ((cat' s4.1 x9).bind fun x10 => some (x10, x8.2))))).bind fun (j6 : ByteArray × l01Source) => some (.inl (j6.1, (w64 (s4.2.1 - 1)), j6.2))) else some (.inr (s4.1, s4.2.2)))) ((ByteArray.mk #[]), (w64 (1 + x1.1)), x1.2))).bind fun (j2 : ByteArray × l01Source) => some (j2.1, j2.2)))
set_option maxRecDepth 100000 in
set_option maxHeartbeats 4000000 in
theorem spec_l01Good_run (aS : l01Source) (r : ByteArray × l01Source) (h : spec_l01Good aS = some r) : SCall Tryd.prog 94 [.o (.box [vl (eI .u8) aS.code, vi aS.at', vi aS.seed])] ⟨[.v (vs r.1)], [(0, .box [vl (eI .u8) r.2.code, vi r.2.at', vi r.2.seed])], false⟩ := by
  refine scall_in Tryd.func94 rfl [(.tmp 2)] rfl (fun r => ⟨[.v (vs r.1)], [(0, .box [vl (eI .u8) r.2.code, vi r.2.at', vi r.2.seed])], false⟩) (r := r) ?_
  unfold spec_l01Good at h
  refine swp_seq ?_
  refine swp_reg ?_
  refine SRun.ck tbok 1 ⟨24, [(0, .ref 1000000 0)], [(1000000, .box [vl (eI .u8) aS.code, vi aS.at', vi aS.seed])]⟩ ?_
  refine SRun.nil ?_
  refine nx_n ?_
  refine swp_seq ?_
  refine swp_reg ?_
  refine SRun.ck tbok 2 ⟨24, [(0, .ref 1000000 0), (3, .own 6)], [(6, .arr 9 1 ([(ByteArray.mk #[97, 115, 104]), (ByteArray.mk #[102, 111, 114, 100]), (ByteArray.mk #[116, 111, 110]), (ByteArray.mk #[98, 121]), (ByteArray.mk #[107, 105, 114, 107]), (ByteArray.mk #[104, 97, 114]), (ByteArray.mk #[119, 105, 99, 107]), (ByteArray.mk #[101, 108, 121]), (ByteArray.mk #[111, 115]), (ByteArray.mk #[108, 111]), (ByteArray.mk #[98, 114, 105, 103]), (ByteArray.mk #[109, 97]), (ByteArray.mk #[114, 105]), (ByteArray.mk #[110, 97]), (ByteArray.mk #[115, 116]), (ByteArray.mk #[97, 101])] : List ByteArray).length (([(ByteArray.mk #[97, 115, 104]), (ByteArray.mk #[102, 111, 114, 100]), (ByteArray.mk #[116, 111, 110]), (ByteArray.mk #[98, 121]), (ByteArray.mk #[107, 105, 114, 107]), (ByteArray.mk #[104, 97, 114]), (ByteArray.mk #[119, 105, 99, 107]), (ByteArray.mk #[101, 108, 121]), (ByteArray.mk #[111, 115]), (ByteArray.mk #[108, 111]), (ByteArray.mk #[98, 114, 105, 103]), (ByteArray.mk #[109, 97]), (ByteArray.mk #[114, 105]), (ByteArray.mk #[110, 97]), (ByteArray.mk #[115, 116]), (ByteArray.mk #[97, 101])] : List ByteArray).map eS)), (1000000, .box [vl (eI .u8) aS.code, vi aS.at', vi aS.seed])]⟩ ?_
  refine SRun.nil ?_
  refine nx_n ?_
  refine swp_seq ?_
  refine swp_reg ?_
  refine SRun.ck tbok 1 ⟨24, [(0, .ref 1000000 0), (3, .own 6), (4, vs (ByteArray.mk #[]))], [(6, .arr 9 1 ([(ByteArray.mk #[97, 115, 104]), (ByteArray.mk #[102, 111, 114, 100]), (ByteArray.mk #[116, 111, 110]), (ByteArray.mk #[98, 121]), (ByteArray.mk #[107, 105, 114, 107]), (ByteArray.mk #[104, 97, 114]), (ByteArray.mk #[119, 105, 99, 107]), (ByteArray.mk #[101, 108, 121]), (ByteArray.mk #[111, 115]), (ByteArray.mk #[108, 111]), (ByteArray.mk #[98, 114, 105, 103]), (ByteArray.mk #[109, 97]), (ByteArray.mk #[114, 105]), (ByteArray.mk #[110, 97]), (ByteArray.mk #[115, 116]), (ByteArray.mk #[97, 101])] : List ByteArray).length (([(ByteArray.mk #[97, 115, 104]), (ByteArray.mk #[102, 111, 114, 100]), (ByteArray.mk #[116, 111, 110]), (ByteArray.mk #[98, 121]), (ByteArray.mk #[107, 105, 114, 107]), (ByteArray.mk #[104, 97, 114]), (ByteArray.mk #[119, 105, 99, 107]), (ByteArray.mk #[101, 108, 121]), (ByteArray.mk #[111, 115]), (ByteArray.mk #[108, 111]), (ByteArray.mk #[98, 114, 105, 103]), (ByteArray.mk #[109, 97]), (ByteArray.mk #[114, 105]), (ByteArray.mk #[110, 97]), (ByteArray.mk #[115, 116]), (ByteArray.mk #[97, 101])] : List ByteArray).map eS)), (1000000, .box [vl (eI .u8) aS.code, vi aS.at', vi aS.seed])]⟩ ?_
  refine SRun.nil ?_
  refine nx_n ?_
  refine swp_seq ?_
  refine swp_seq ?_
  refine swp_reg ?_
  refine SRun.ck tbok 1 ⟨24, [(0, .ref 1000000 0), (3, .own 6), (4, vs (ByteArray.mk #[])), (7, .ref 1000000 0)], [(6, .arr 9 1 ([(ByteArray.mk #[97, 115, 104]), (ByteArray.mk #[102, 111, 114, 100]), (ByteArray.mk #[116, 111, 110]), (ByteArray.mk #[98, 121]), (ByteArray.mk #[107, 105, 114, 107]), (ByteArray.mk #[104, 97, 114]), (ByteArray.mk #[119, 105, 99, 107]), (ByteArray.mk #[101, 108, 121]), (ByteArray.mk #[111, 115]), (ByteArray.mk #[108, 111]), (ByteArray.mk #[98, 114, 105, 103]), (ByteArray.mk #[109, 97]), (ByteArray.mk #[114, 105]), (ByteArray.mk #[110, 97]), (ByteArray.mk #[115, 116]), (ByteArray.mk #[97, 101])] : List ByteArray).length (([(ByteArray.mk #[97, 115, 104]), (ByteArray.mk #[102, 111, 114, 100]), (ByteArray.mk #[116, 111, 110]), (ByteArray.mk #[98, 121]), (ByteArray.mk #[107, 105, 114, 107]), (ByteArray.mk #[104, 97, 114]), (ByteArray.mk #[119, 105, 99, 107]), (ByteArray.mk #[101, 108, 121]), (ByteArray.mk #[111, 115]), (ByteArray.mk #[108, 111]), (ByteArray.mk #[98, 114, 105, 103]), (ByteArray.mk #[109, 97]), (ByteArray.mk #[114, 105]), (ByteArray.mk #[110, 97]), (ByteArray.mk #[115, 116]), (ByteArray.mk #[97, 101])] : List ByteArray).map eS)), (1000000, .box [vl (eI .u8) aS.code, vi aS.at', vi aS.seed])]⟩ ?_
  obtain ⟨x1, hx1, h⟩ := bind_some h
  refine SRun.estep (x_estep_call (f := 77) (caps := []) (xs := [.ref 1000000 0, vi 3]) (pre := []) (post := [vi 3]) (qs := [vi 3]) (z := .ref 1000000 0) (d := 1000000) (pl := 0) (y := .box [vl (eI .u8) aS.code, vi aS.at', vi aS.seed]) (y' := .box [vl (eI .u8) x1.2.code, vi x1.2.at', vi x1.2.seed]) (res := ⟨[.v (vi x1.1)], [(0, .box [vl (eI .u8) x1.2.code, vi x1.2.at', vi x1.2.seed])], false⟩) (x := vi x1.1) (yo := none) rfl rfl rfl rfl rfl ents77 (spec_l01Next_run aS 3 _ hx1) rfl rfl false (fun _ => rfl) (by intro hc; cases hc)) ?_
  refine SRun.ck tbok 2 ⟨24, [(0, .ref 1000000 0), (3, .own 6), (4, vs (ByteArray.mk #[])), (5, vi (w64 (1 + x1.1)))], [(6, .arr 9 1 ([(ByteArray.mk #[97, 115, 104]), (ByteArray.mk #[102, 111, 114, 100]), (ByteArray.mk #[116, 111, 110]), (ByteArray.mk #[98, 121]), (ByteArray.mk #[107, 105, 114, 107]), (ByteArray.mk #[104, 97, 114]), (ByteArray.mk #[119, 105, 99, 107]), (ByteArray.mk #[101, 108, 121]), (ByteArray.mk #[111, 115]), (ByteArray.mk #[108, 111]), (ByteArray.mk #[98, 114, 105, 103]), (ByteArray.mk #[109, 97]), (ByteArray.mk #[114, 105]), (ByteArray.mk #[110, 97]), (ByteArray.mk #[115, 116]), (ByteArray.mk #[97, 101])] : List ByteArray).length (([(ByteArray.mk #[97, 115, 104]), (ByteArray.mk #[102, 111, 114, 100]), (ByteArray.mk #[116, 111, 110]), (ByteArray.mk #[98, 121]), (ByteArray.mk #[107, 105, 114, 107]), (ByteArray.mk #[104, 97, 114]), (ByteArray.mk #[119, 105, 99, 107]), (ByteArray.mk #[101, 108, 121]), (ByteArray.mk #[111, 115]), (ByteArray.mk #[108, 111]), (ByteArray.mk #[98, 114, 105, 103]), (ByteArray.mk #[109, 97]), (ByteArray.mk #[114, 105]), (ByteArray.mk #[110, 97]), (ByteArray.mk #[115, 116]), (ByteArray.mk #[97, 101])] : List ByteArray).map eS)), (1000000, .box [vl (eI .u8) x1.2.code, vi x1.2.at', vi x1.2.seed])]⟩ ?_
  refine SRun.nil ?_
  refine nx_n ?_
  refine swp_seqJ h (fun j2 => ⟨24, [(4, vs j2.1)], [(1000000, .box [vl (eI .u8) j2.2.code, vi j2.2.at', vi j2.2.seed])]⟩) (fun v3 h => ?_) (fun j2 h => ?_)
  refine swp_blk (a := v3) ?_
  refine swp_lpL (r := v3) (s := ((ByteArray.mk #[]), (w64 (1 + x1.1)), x1.2)) _ (fun s4 => ⟨24, [(0, .ref 1000000 0), (3, .own 3), (4, vs s4.1), (5, vi s4.2.1)], [(3, .arr 9 1 ([(ByteArray.mk #[97, 115, 104]), (ByteArray.mk #[102, 111, 114, 100]), (ByteArray.mk #[116, 111, 110]), (ByteArray.mk #[98, 121]), (ByteArray.mk #[107, 105, 114, 107]), (ByteArray.mk #[104, 97, 114]), (ByteArray.mk #[119, 105, 99, 107]), (ByteArray.mk #[101, 108, 121]), (ByteArray.mk #[111, 115]), (ByteArray.mk #[108, 111]), (ByteArray.mk #[98, 114, 105, 103]), (ByteArray.mk #[109, 97]), (ByteArray.mk #[114, 105]), (ByteArray.mk #[110, 97]), (ByteArray.mk #[115, 116]), (ByteArray.mk #[97, 101])] : List ByteArray).length (([(ByteArray.mk #[97, 115, 104]), (ByteArray.mk #[102, 111, 114, 100]), (ByteArray.mk #[116, 111, 110]), (ByteArray.mk #[98, 121]), (ByteArray.mk #[107, 105, 114, 107]), (ByteArray.mk #[104, 97, 114]), (ByteArray.mk #[119, 105, 99, 107]), (ByteArray.mk #[101, 108, 121]), (ByteArray.mk #[111, 115]), (ByteArray.mk #[108, 111]), (ByteArray.mk #[98, 114, 105, 103]), (ByteArray.mk #[109, 97]), (ByteArray.mk #[114, 105]), (ByteArray.mk #[110, 97]), (ByteArray.mk #[115, 116]), (ByteArray.mk #[97, 101])] : List ByteArray).map eS)), (1000000, .box [vl (eI .u8) s4.2.2.code, vi s4.2.2.at', vi s4.2.2.seed])]⟩) _ ((Le.sub' ([(0, .ref 1000000 0), (3, .own 6), (4, vs (ByteArray.mk #[])), (5, vi (w64 (1 + x1.1)))] : List (Nat × SV)) ([(6, .arr 9 1 ([(ByteArray.mk #[97, 115, 104]), (ByteArray.mk #[102, 111, 114, 100]), (ByteArray.mk #[116, 111, 110]), (ByteArray.mk #[98, 121]), (ByteArray.mk #[107, 105, 114, 107]), (ByteArray.mk #[104, 97, 114]), (ByteArray.mk #[119, 105, 99, 107]), (ByteArray.mk #[101, 108, 121]), (ByteArray.mk #[111, 115]), (ByteArray.mk #[108, 111]), (ByteArray.mk #[98, 114, 105, 103]), (ByteArray.mk #[109, 97]), (ByteArray.mk #[114, 105]), (ByteArray.mk #[110, 97]), (ByteArray.mk #[115, 116]), (ByteArray.mk #[97, 101])] : List ByteArray).length (([(ByteArray.mk #[97, 115, 104]), (ByteArray.mk #[102, 111, 114, 100]), (ByteArray.mk #[116, 111, 110]), (ByteArray.mk #[98, 121]), (ByteArray.mk #[107, 105, 114, 107]), (ByteArray.mk #[104, 97, 114]), (ByteArray.mk #[119, 105, 99, 107]), (ByteArray.mk #[101, 108, 121]), (ByteArray.mk #[111, 115]), (ByteArray.mk #[108, 111]), (ByteArray.mk #[98, 114, 105, 103]), (ByteArray.mk #[109, 97]), (ByteArray.mk #[114, 105]), (ByteArray.mk #[110, 97]), (ByteArray.mk #[115, 116]), (ByteArray.mk #[97, 101])] : List ByteArray).map eS)), (1000000, .box [vl (eI .u8) x1.2.code, vi x1.2.at', vi x1.2.seed])] : List (Nat × SO)) (by kernel_rfl) (by kernel_rfl)).trans ((Le.ren' (d := 6) (e := 3) (by kernel_rfl) (by kernel_rfl) (by kernel_rfl)).trans (Le.sub0))) h (fun s4 v5 h => ?_)
  refine swp_seq ?_
  refine swp_seq ?_
  refine swp_reg ?_
  refine SRun.ck tbok 2 ⟨24, [(0, .ref 1000000 0), (3, .own 3), (4, vs s4.1), (5, vi s4.2.1), (11, vb (decide (s4.2.1 > 0)))], [(3, .arr 9 1 ([(ByteArray.mk #[97, 115, 104]), (ByteArray.mk #[102, 111, 114, 100]), (ByteArray.mk #[116, 111, 110]), (ByteArray.mk #[98, 121]), (ByteArray.mk #[107, 105, 114, 107]), (ByteArray.mk #[104, 97, 114]), (ByteArray.mk #[119, 105, 99, 107]), (ByteArray.mk #[101, 108, 121]), (ByteArray.mk #[111, 115]), (ByteArray.mk #[108, 111]), (ByteArray.mk #[98, 114, 105, 103]), (ByteArray.mk #[109, 97]), (ByteArray.mk #[114, 105]), (ByteArray.mk #[110, 97]), (ByteArray.mk #[115, 116]), (ByteArray.mk #[97, 101])] : List ByteArray).length (([(ByteArray.mk #[97, 115, 104]), (ByteArray.mk #[102, 111, 114, 100]), (ByteArray.mk #[116, 111, 110]), (ByteArray.mk #[98, 121]), (ByteArray.mk #[107, 105, 114, 107]), (ByteArray.mk #[104, 97, 114]), (ByteArray.mk #[119, 105, 99, 107]), (ByteArray.mk #[101, 108, 121]), (ByteArray.mk #[111, 115]), (ByteArray.mk #[108, 111]), (ByteArray.mk #[98, 114, 105, 103]), (ByteArray.mk #[109, 97]), (ByteArray.mk #[114, 105]), (ByteArray.mk #[110, 97]), (ByteArray.mk #[115, 116]), (ByteArray.mk #[97, 101])] : List ByteArray).map eS)), (1000000, .box [vl (eI .u8) s4.2.2.code, vi s4.2.2.at', vi s4.2.2.seed])]⟩ ?_
  refine SRun.nil ?_
  refine nx_n ?_
  refine swp_cond (b := (decide (s4.2.1 > 0))) (by kernel_rfl) (fun hb => ?_) (fun hb => ?_)
  replace h := cond_t hb h
  refine swp_skip ?_
  refine nx_n ?_
  refine swp_seq ?_
  refine swp_seqJ h (fun j6 => ⟨24, [(0, .ref 1000000 0), (3, .own 3), (4, vs j6.1), (5, vi s4.2.1)], [(3, .arr 9 1 ([(ByteArray.mk #[97, 115, 104]), (ByteArray.mk #[102, 111, 114, 100]), (ByteArray.mk #[116, 111, 110]), (ByteArray.mk #[98, 121]), (ByteArray.mk #[107, 105, 114, 107]), (ByteArray.mk #[104, 97, 114]), (ByteArray.mk #[119, 105, 99, 107]), (ByteArray.mk #[101, 108, 121]), (ByteArray.mk #[111, 115]), (ByteArray.mk #[108, 111]), (ByteArray.mk #[98, 114, 105, 103]), (ByteArray.mk #[109, 97]), (ByteArray.mk #[114, 105]), (ByteArray.mk #[110, 97]), (ByteArray.mk #[115, 116]), (ByteArray.mk #[97, 101])] : List ByteArray).length (([(ByteArray.mk #[97, 115, 104]), (ByteArray.mk #[102, 111, 114, 100]), (ByteArray.mk #[116, 111, 110]), (ByteArray.mk #[98, 121]), (ByteArray.mk #[107, 105, 114, 107]), (ByteArray.mk #[104, 97, 114]), (ByteArray.mk #[119, 105, 99, 107]), (ByteArray.mk #[101, 108, 121]), (ByteArray.mk #[111, 115]), (ByteArray.mk #[108, 111]), (ByteArray.mk #[98, 114, 105, 103]), (ByteArray.mk #[109, 97]), (ByteArray.mk #[114, 105]), (ByteArray.mk #[110, 97]), (ByteArray.mk #[115, 116]), (ByteArray.mk #[97, 101])] : List ByteArray).map eS)), (1000000, .box [vl (eI .u8) j6.2.code, vi j6.2.at', vi j6.2.seed])]⟩) (fun v7 h => ?_) (fun j6 h => ?_)
  refine swp_blk (a := v7) ?_
  refine swp_reg ?_
  refine SRun.ck tbok 5 ⟨24, [(0, .ref 1000000 0), (3, .own 3), (5, vi s4.2.1), (14, vs s4.1), (15, .own 3), (16, .ref 1000000 0), (18, vi (([(ByteArray.mk #[97, 115, 104]), (ByteArray.mk #[102, 111, 114, 100]), (ByteArray.mk #[116, 111, 110]), (ByteArray.mk #[98, 121]), (ByteArray.mk #[107, 105, 114, 107]), (ByteArray.mk #[104, 97, 114]), (ByteArray.mk #[119, 105, 99, 107]), (ByteArray.mk #[101, 108, 121]), (ByteArray.mk #[111, 115]), (ByteArray.mk #[108, 111]), (ByteArray.mk #[98, 114, 105, 103]), (ByteArray.mk #[109, 97]), (ByteArray.mk #[114, 105]), (ByteArray.mk #[110, 97]), (ByteArray.mk #[115, 116]), (ByteArray.mk #[97, 101])] : List ByteArray).length : Int))], [(3, .arr 9 1 ([(ByteArray.mk #[97, 115, 104]), (ByteArray.mk #[102, 111, 114, 100]), (ByteArray.mk #[116, 111, 110]), (ByteArray.mk #[98, 121]), (ByteArray.mk #[107, 105, 114, 107]), (ByteArray.mk #[104, 97, 114]), (ByteArray.mk #[119, 105, 99, 107]), (ByteArray.mk #[101, 108, 121]), (ByteArray.mk #[111, 115]), (ByteArray.mk #[108, 111]), (ByteArray.mk #[98, 114, 105, 103]), (ByteArray.mk #[109, 97]), (ByteArray.mk #[114, 105]), (ByteArray.mk #[110, 97]), (ByteArray.mk #[115, 116]), (ByteArray.mk #[97, 101])] : List ByteArray).length (([(ByteArray.mk #[97, 115, 104]), (ByteArray.mk #[102, 111, 114, 100]), (ByteArray.mk #[116, 111, 110]), (ByteArray.mk #[98, 121]), (ByteArray.mk #[107, 105, 114, 107]), (ByteArray.mk #[104, 97, 114]), (ByteArray.mk #[119, 105, 99, 107]), (ByteArray.mk #[101, 108, 121]), (ByteArray.mk #[111, 115]), (ByteArray.mk #[108, 111]), (ByteArray.mk #[98, 114, 105, 103]), (ByteArray.mk #[109, 97]), (ByteArray.mk #[114, 105]), (ByteArray.mk #[110, 97]), (ByteArray.mk #[115, 116]), (ByteArray.mk #[97, 101])] : List ByteArray).map eS)), (1000000, .box [vl (eI .u8) s4.2.2.code, vi s4.2.2.at', vi s4.2.2.seed])]⟩ ?_
  obtain ⟨x8, hx8, h⟩ := bind_some h
  refine SRun.estep (x_estep_call (f := 77) (caps := []) (xs := [.ref 1000000 0, vi (([(ByteArray.mk #[97, 115, 104]), (ByteArray.mk #[102, 111, 114, 100]), (ByteArray.mk #[116, 111, 110]), (ByteArray.mk #[98, 121]), (ByteArray.mk #[107, 105, 114, 107]), (ByteArray.mk #[104, 97, 114]), (ByteArray.mk #[119, 105, 99, 107]), (ByteArray.mk #[101, 108, 121]), (ByteArray.mk #[111, 115]), (ByteArray.mk #[108, 111]), (ByteArray.mk #[98, 114, 105, 103]), (ByteArray.mk #[109, 97]), (ByteArray.mk #[114, 105]), (ByteArray.mk #[110, 97]), (ByteArray.mk #[115, 116]), (ByteArray.mk #[97, 101])] : List ByteArray).length : Int)]) (pre := []) (post := [vi (([(ByteArray.mk #[97, 115, 104]), (ByteArray.mk #[102, 111, 114, 100]), (ByteArray.mk #[116, 111, 110]), (ByteArray.mk #[98, 121]), (ByteArray.mk #[107, 105, 114, 107]), (ByteArray.mk #[104, 97, 114]), (ByteArray.mk #[119, 105, 99, 107]), (ByteArray.mk #[101, 108, 121]), (ByteArray.mk #[111, 115]), (ByteArray.mk #[108, 111]), (ByteArray.mk #[98, 114, 105, 103]), (ByteArray.mk #[109, 97]), (ByteArray.mk #[114, 105]), (ByteArray.mk #[110, 97]), (ByteArray.mk #[115, 116]), (ByteArray.mk #[97, 101])] : List ByteArray).length : Int)]) (qs := [vi (([(ByteArray.mk #[97, 115, 104]), (ByteArray.mk #[102, 111, 114, 100]), (ByteArray.mk #[116, 111, 110]), (ByteArray.mk #[98, 121]), (ByteArray.mk #[107, 105, 114, 107]), (ByteArray.mk #[104, 97, 114]), (ByteArray.mk #[119, 105, 99, 107]), (ByteArray.mk #[101, 108, 121]), (ByteArray.mk #[111, 115]), (ByteArray.mk #[108, 111]), (ByteArray.mk #[98, 114, 105, 103]), (ByteArray.mk #[109, 97]), (ByteArray.mk #[114, 105]), (ByteArray.mk #[110, 97]), (ByteArray.mk #[115, 116]), (ByteArray.mk #[97, 101])] : List ByteArray).length : Int)]) (z := .ref 1000000 0) (d := 1000000) (pl := 0) (y := .box [vl (eI .u8) s4.2.2.code, vi s4.2.2.at', vi s4.2.2.seed]) (y' := .box [vl (eI .u8) x8.2.code, vi x8.2.at', vi x8.2.seed]) (res := ⟨[.v (vi x8.1)], [(0, .box [vl (eI .u8) x8.2.code, vi x8.2.at', vi x8.2.seed])], false⟩) (x := vi x8.1) (yo := none) rfl rfl rfl rfl rfl ents77 (spec_l01Next_run s4.2.2 (([(ByteArray.mk #[97, 115, 104]), (ByteArray.mk #[102, 111, 114, 100]), (ByteArray.mk #[116, 111, 110]), (ByteArray.mk #[98, 121]), (ByteArray.mk #[107, 105, 114, 107]), (ByteArray.mk #[104, 97, 114]), (ByteArray.mk #[119, 105, 99, 107]), (ByteArray.mk #[101, 108, 121]), (ByteArray.mk #[111, 115]), (ByteArray.mk #[108, 111]), (ByteArray.mk #[98, 114, 105, 103]), (ByteArray.mk #[109, 97]), (ByteArray.mk #[114, 105]), (ByteArray.mk #[110, 97]), (ByteArray.mk #[115, 116]), (ByteArray.mk #[97, 101])] : List ByteArray).length : Int) _ hx8) rfl rfl false (fun _ => rfl) (by intro hc; cases hc)) ?_
  obtain ⟨x9, hx9, h⟩ := bind_some h
  refine SRun.ls (x_index_own (d := 3) (L := ([(ByteArray.mk #[97, 115, 104]), (ByteArray.mk #[102, 111, 114, 100]), (ByteArray.mk #[116, 111, 110]), (ByteArray.mk #[98, 121]), (ByteArray.mk #[107, 105, 114, 107]), (ByteArray.mk #[104, 97, 114]), (ByteArray.mk #[119, 105, 99, 107]), (ByteArray.mk #[101, 108, 121]), (ByteArray.mk #[111, 115]), (ByteArray.mk #[108, 111]), (ByteArray.mk #[98, 114, 105, 103]), (ByteArray.mk #[109, 97]), (ByteArray.mk #[114, 105]), (ByteArray.mk #[110, 97]), (ByteArray.mk #[115, 116]), (ByteArray.mk #[97, 101])] : List ByteArray)) (f := eS) (ti := ti86) (tj := ti9) (e := 9) (e' := 9) (m := 1) (k := .i64) tbok rfl hx9) ?_
  refine SRun.ls (x_load_own (d := 3) (m := 1) (j := 0) (L := ([(ByteArray.mk #[97, 115, 104]), (ByteArray.mk #[102, 111, 114, 100]), (ByteArray.mk #[116, 111, 110]), (ByteArray.mk #[98, 121]), (ByteArray.mk #[107, 105, 114, 107]), (ByteArray.mk #[104, 97, 114]), (ByteArray.mk #[119, 105, 99, 107]), (ByteArray.mk #[101, 108, 121]), (ByteArray.mk #[111, 115]), (ByteArray.mk #[108, 111]), (ByteArray.mk #[98, 114, 105, 103]), (ByteArray.mk #[109, 97]), (ByteArray.mk #[114, 105]), (ByteArray.mk #[110, 97]), (ByteArray.mk #[115, 116]), (ByteArray.mk #[97, 101])] : List ByteArray)) (f := eS) (ti := ti9) (e := 9) (v := vs x9) tbok rfl hx9) ?_
  obtain ⟨x10, hx10, h⟩ := bind_some h
  refine SRun.ls (x_cat hx10 rfl) ?_
  refine SRun.ck tbok 1 ⟨24, [(0, .ref 1000000 0), (3, .own 3), (4, vs x10), (5, vi s4.2.1)], [(3, .arr 9 1 ([(ByteArray.mk #[97, 115, 104]), (ByteArray.mk #[102, 111, 114, 100]), (ByteArray.mk #[116, 111, 110]), (ByteArray.mk #[98, 121]), (ByteArray.mk #[107, 105, 114, 107]), (ByteArray.mk #[104, 97, 114]), (ByteArray.mk #[119, 105, 99, 107]), (ByteArray.mk #[101, 108, 121]), (ByteArray.mk #[111, 115]), (ByteArray.mk #[108, 111]), (ByteArray.mk #[98, 114, 105, 103]), (ByteArray.mk #[109, 97]), (ByteArray.mk #[114, 105]), (ByteArray.mk #[110, 97]), (ByteArray.mk #[115, 116]), (ByteArray.mk #[97, 101])] : List ByteArray).length (([(ByteArray.mk #[97, 115, 104]), (ByteArray.mk #[102, 111, 114, 100]), (ByteArray.mk #[116, 111, 110]), (ByteArray.mk #[98, 121]), (ByteArray.mk #[107, 105, 114, 107]), (ByteArray.mk #[104, 97, 114]), (ByteArray.mk #[119, 105, 99, 107]), (ByteArray.mk #[101, 108, 121]), (ByteArray.mk #[111, 115]), (ByteArray.mk #[108, 111]), (ByteArray.mk #[98, 114, 105, 103]), (ByteArray.mk #[109, 97]), (ByteArray.mk #[114, 105]), (ByteArray.mk #[110, 97]), (ByteArray.mk #[115, 116]), (ByteArray.mk #[97, 101])] : List ByteArray).map eS)), (1000000, .box [vl (eI .u8) x8.2.code, vi x8.2.at', vi x8.2.seed])]⟩ ?_
  refine SRun.nil ?_
  replace h := Option.some.inj h
  subst h
  exact q_bn (q_j (Le.sub0))
  refine swp_reg ?_
  refine SRun.ck tbok 3 ⟨24, [(0, .ref 1000000 0), (3, .own 3), (4, vs j6.1), (5, vi (w64 (s4.2.1 - 1)))], [(3, .arr 9 1 ([(ByteArray.mk #[97, 115, 104]), (ByteArray.mk #[102, 111, 114, 100]), (ByteArray.mk #[116, 111, 110]), (ByteArray.mk #[98, 121]), (ByteArray.mk #[107, 105, 114, 107]), (ByteArray.mk #[104, 97, 114]), (ByteArray.mk #[119, 105, 99, 107]), (ByteArray.mk #[101, 108, 121]), (ByteArray.mk #[111, 115]), (ByteArray.mk #[108, 111]), (ByteArray.mk #[98, 114, 105, 103]), (ByteArray.mk #[109, 97]), (ByteArray.mk #[114, 105]), (ByteArray.mk #[110, 97]), (ByteArray.mk #[115, 116]), (ByteArray.mk #[97, 101])] : List ByteArray).length (([(ByteArray.mk #[97, 115, 104]), (ByteArray.mk #[102, 111, 114, 100]), (ByteArray.mk #[116, 111, 110]), (ByteArray.mk #[98, 121]), (ByteArray.mk #[107, 105, 114, 107]), (ByteArray.mk #[104, 97, 114]), (ByteArray.mk #[119, 105, 99, 107]), (ByteArray.mk #[101, 108, 121]), (ByteArray.mk #[111, 115]), (ByteArray.mk #[108, 111]), (ByteArray.mk #[98, 114, 105, 103]), (ByteArray.mk #[109, 97]), (ByteArray.mk #[114, 105]), (ByteArray.mk #[110, 97]), (ByteArray.mk #[115, 116]), (ByteArray.mk #[97, 101])] : List ByteArray).map eS)), (1000000, .box [vl (eI .u8) j6.2.code, vi j6.2.at', vi j6.2.seed])]⟩ ?_
  refine SRun.nil ?_
  replace h := Option.some.inj h
  subst h
  exact q_l (Le.sub0)
  replace h := cond_f hb h
  refine swp_exit ?_
  replace h := Option.some.inj h
  subst h
  exact nx_e (q_re (q_bh (q_j (Le.sub0))))
  refine swp_seq ?_
  refine swp_reg ?_
  refine SRun.ck tbok 2 ⟨24, [(2, vs j2.1)], [(1000000, .box [vl (eI .u8) j2.2.code, vi j2.2.at', vi j2.2.seed])]⟩ ?_
  refine SRun.nil ?_
  refine nx_n ?_
  refine swp_ret ?_
  replace h := Option.some.inj h
  subst h
  exact q_fr (fin_io (fin1 (by kernel_rfl) (finV rfl SV.flat_of (holds_t (by kernel_rfl)))) (y := .box [vl (eI .u8) j2.2.code, vi j2.2.at', vi j2.2.seed]) (by kernel_rfl) rfl (by kernel_rfl) (by kernel_rfl))
theorem ents94 : Ents Tryd.prog 94 := ents_of Tryd.func94 (by kernel_rfl) rfl
noncomputable def spec_l01Words (aWords : (List ByteArray)) : Option (ByteArray) :=
  (((forS (aWords.length : Int) (fun (i3 : Int) (s3 : ByteArray) => (((bif (decide (i3 > 0)) then ((cat' s3 (ByteArray.mk #[32])).bind fun x9 => some x9) else some s3)).bind fun (j7 : ByteArray) => ((at' aWords i3).bind fun x10 => ((cat' j7 x10).bind fun x11 => some x11)))) (fun (s3 : ByteArray) => s3) 0 (ByteArray.mk #[]))).bind fun (j1 : ByteArray) => some j1)
set_option maxRecDepth 100000 in
set_option maxHeartbeats 4000000 in
theorem spec_l01Words_run (aWords : (List ByteArray)) (r : ByteArray) (h : spec_l01Words aWords = some r) : SCall Tryd.prog 102 [.v (vl eS aWords)] ⟨[.v (vs r)], [], false⟩ := by
  refine scall_in Tryd.func102 rfl [(.tmp 2)] rfl (fun r => ⟨[.v (vs r)], [], false⟩) (r := r) ?_
  unfold spec_l01Words at h
  refine swp_seq ?_
  refine swp_reg ?_
  refine SRun.ck tbok 1 ⟨22, [(0, vl eS aWords)], []⟩ ?_
  refine SRun.nil ?_
  refine nx_n ?_
  refine swp_seq ?_
  refine swp_reg ?_
  refine SRun.ck tbok 1 ⟨22, [(0, vl eS aWords), (3, vs (ByteArray.mk #[]))], []⟩ ?_
  refine SRun.nil ?_
  refine nx_n ?_
  refine swp_seq ?_
  refine swp_seq ?_
  refine swp_reg ?_
  refine SRun.ck tbok 1 ⟨22, [(0, vl eS aWords), (3, vs (ByteArray.mk #[])), (4, vi 0)], []⟩ ?_
  refine SRun.nil ?_
  refine nx_n ?_
  refine swp_seqJ h (fun j1 => ⟨22, [(3, vs j1)], []⟩) (fun v2 h => ?_) (fun j1 h => ?_)
  refine swp_blk (a := v2) ?_
  refine swp_lpL (r := v2) (s := (0, (ByteArray.mk #[]))) _ (fun s3 => ⟨22, [(0, vl eS aWords), (3, vs s3.2), (4, vi s3.1)], []⟩) _ (Le.sub0) h (fun s3 v4 h => ?_)
  refine swp_seq ?_
  refine swp_seq ?_
  refine swp_reg ?_
  refine SRun.ck tbok 4 ⟨22, [(0, vl eS aWords), (3, vs s3.2), (4, vi s3.1), (8, vb (decide (s3.1 < (aWords.length : Int))))], []⟩ ?_
  refine SRun.nil ?_
  refine nx_n ?_
  refine swp_cond (b := (decide (s3.1 < (aWords.length : Int)))) (by kernel_rfl) (fun hb => ?_) (fun hb => ?_)
  replace h := cond_t hb h
  refine swp_skip ?_
  refine nx_n ?_
  refine swp_seq ?_
  refine swp_seqJ h (fun j5 => ⟨22, [(0, vl eS aWords), (3, vs j5), (4, vi s3.1)], []⟩) (fun v6 h => ?_) (fun j5 h => ?_)
  refine swp_blk (a := v6) ?_
  refine swp_seq ?_
  refine swp_seq ?_
  refine swp_reg ?_
  refine SRun.ck tbok 2 ⟨22, [(0, vl eS aWords), (3, vs s3.2), (4, vi s3.1), (12, vb (decide (s3.1 > 0)))], []⟩ ?_
  refine SRun.nil ?_
  refine nx_n ?_
  refine swp_seqJ h (fun j7 => ⟨22, [(0, vl eS aWords), (3, vs j7), (4, vi s3.1)], []⟩) (fun v8 h => ?_) (fun j7 h => ?_)
  refine swp_cond (b := (decide (s3.1 > 0))) (by kernel_rfl) (fun hb => ?_) (fun hb => ?_)
  replace h := cond_t hb h
  refine swp_reg ?_
  refine SRun.ck tbok 1 ⟨22, [(0, vl eS aWords), (4, vi s3.1), (13, vs s3.2)], []⟩ ?_
  obtain ⟨x9, hx9, h⟩ := bind_some h
  refine SRun.ls (x_cat hx9 rfl) ?_
  refine SRun.ck tbok 1 ⟨22, [(0, vl eS aWords), (3, vs x9), (4, vi s3.1)], []⟩ ?_
  refine SRun.nil ?_
  replace h := Option.some.inj h
  subst h
  exact q_j (Le.sub0)
  replace h := cond_f hb h
  refine swp_skip ?_
  replace h := Option.some.inj h
  subst h
  exact q_j (Le.sub0)
  refine swp_reg ?_
  refine SRun.ck tbok 3 ⟨22, [(0, vl eS aWords), (4, vi s3.1), (15, vs j7), (16, vl eS aWords), (17, vi s3.1)], []⟩ ?_
  obtain ⟨x10, hx10, h⟩ := bind_some h
  refine SRun.ls (x_index (L := aWords) (f := eS) (ti := ti86) (tj := ti9) (e := 9) (k := .i64) tbok rfl hx10) ?_
  refine SRun.ck tbok 1 ⟨22, [(0, vl eS aWords), (4, vi s3.1), (15, vs j7), (19, vs x10)], []⟩ ?_
  obtain ⟨x11, hx11, h⟩ := bind_some h
  refine SRun.ls (x_cat hx11 rfl) ?_
  refine SRun.ck tbok 1 ⟨22, [(0, vl eS aWords), (3, vs x11), (4, vi s3.1)], []⟩ ?_
  refine SRun.nil ?_
  replace h := Option.some.inj h
  subst h
  exact q_bn (q_j (Le.sub0))
  refine swp_reg ?_
  refine SRun.ck tbok 3 ⟨22, [(0, vl eS aWords), (3, vs j5), (4, vi (w64 (s3.1 + 1)))], []⟩ ?_
  refine SRun.nil ?_
  replace h := Option.some.inj h
  subst h
  exact q_l (Le.sub0)
  replace h := cond_f hb h
  refine swp_exit ?_
  replace h := Option.some.inj h
  subst h
  exact nx_e (q_re (q_bh (q_j (Le.sub0))))
  refine swp_seq ?_
  refine swp_reg ?_
  refine SRun.ck tbok 2 ⟨22, [(2, vs j1)], []⟩ ?_
  refine SRun.nil ?_
  refine nx_n ?_
  refine swp_ret ?_
  replace h := Option.some.inj h
  subst h
  exact q_fr (fin1 (by kernel_rfl) (finV rfl SV.flat_of (holds_t (by kernel_rfl))))
theorem ents102 : Ents Tryd.prog 102 := ents_of Tryd.func102 (by kernel_rfl) rfl
noncomputable def spec_l01GoodPhrase (aS : l01Source) : Option (ByteArray × l01Source) :=
  ((spec_l01Next aS 3).bind fun x1 => (((loop (fun (s4 : Int × (List ByteArray) × l01Source) => (bif (decide (s4.1 > 0)) then ((((spec_l01Good s4.2.2).bind fun x8 => ((app' s4.2.1 ([x8.1] : List ByteArray)).bind fun x9 => some (x9, x8.2)))).bind fun (j6 : (List ByteArray) × l01Source) => some (.inl ((w64 (s4.1 - 1)), j6.1, j6.2))) else some (.inr (s4.2.1, s4.2.2)))) ((w64 (1 + x1.1)), ([] : List ByteArray), x1.2))).bind fun (j2 : (List ByteArray) × l01Source) => ((spec_l01Words j2.1).bind fun x10 => some (x10, j2.2))))
set_option maxRecDepth 100000 in
set_option maxHeartbeats 4000000 in
theorem spec_l01GoodPhrase_run (aS : l01Source) (r : ByteArray × l01Source) (h : spec_l01GoodPhrase aS = some r) : SCall Tryd.prog 95 [.o (.box [vl (eI .u8) aS.code, vi aS.at', vi aS.seed])] ⟨[.v (vs r.1)], [(0, .box [vl (eI .u8) r.2.code, vi r.2.at', vi r.2.seed])], false⟩ := by
  refine scall_in Tryd.func95 rfl [(.tmp 2)] rfl (fun r => ⟨[.v (vs r.1)], [(0, .box [vl (eI .u8) r.2.code, vi r.2.at', vi r.2.seed])], false⟩) (r := r) ?_
  unfold spec_l01GoodPhrase at h
  refine swp_seq ?_
  refine swp_reg ?_
  refine SRun.ck tbok 1 ⟨20, [(0, .ref 1000000 0)], [(1000000, .box [vl (eI .u8) aS.code, vi aS.at', vi aS.seed])]⟩ ?_
  refine SRun.nil ?_
  refine nx_n ?_
  refine swp_seq ?_
  refine swp_reg ?_
  refine SRun.ck tbok 2 ⟨20, [(0, .ref 1000000 0), (3, .own 5)], [(5, .arr 9 1 ([] : List ByteArray).length (([] : List ByteArray).map eS)), (1000000, .box [vl (eI .u8) aS.code, vi aS.at', vi aS.seed])]⟩ ?_
  refine SRun.nil ?_
  refine nx_n ?_
  refine swp_seq ?_
  refine swp_seq ?_
  refine swp_reg ?_
  refine SRun.ck tbok 1 ⟨20, [(0, .ref 1000000 0), (3, .own 5), (6, .ref 1000000 0)], [(5, .arr 9 1 ([] : List ByteArray).length (([] : List ByteArray).map eS)), (1000000, .box [vl (eI .u8) aS.code, vi aS.at', vi aS.seed])]⟩ ?_
  obtain ⟨x1, hx1, h⟩ := bind_some h
  refine SRun.estep (x_estep_call (f := 77) (caps := []) (xs := [.ref 1000000 0, vi 3]) (pre := []) (post := [vi 3]) (qs := [vi 3]) (z := .ref 1000000 0) (d := 1000000) (pl := 0) (y := .box [vl (eI .u8) aS.code, vi aS.at', vi aS.seed]) (y' := .box [vl (eI .u8) x1.2.code, vi x1.2.at', vi x1.2.seed]) (res := ⟨[.v (vi x1.1)], [(0, .box [vl (eI .u8) x1.2.code, vi x1.2.at', vi x1.2.seed])], false⟩) (x := vi x1.1) (yo := none) rfl rfl rfl rfl rfl ents77 (spec_l01Next_run aS 3 _ hx1) rfl rfl false (fun _ => rfl) (by intro hc; cases hc)) ?_
  refine SRun.ck tbok 2 ⟨20, [(0, .ref 1000000 0), (3, .own 5), (4, vi (w64 (1 + x1.1)))], [(5, .arr 9 1 ([] : List ByteArray).length (([] : List ByteArray).map eS)), (1000000, .box [vl (eI .u8) x1.2.code, vi x1.2.at', vi x1.2.seed])]⟩ ?_
  refine SRun.nil ?_
  refine nx_n ?_
  refine swp_seqJ h (fun j2 => ⟨20, [(3, .own 3)], [(3, .arr 9 1 j2.1.length (j2.1.map eS)), (1000000, .box [vl (eI .u8) j2.2.code, vi j2.2.at', vi j2.2.seed])]⟩) (fun v3 h => ?_) (fun j2 h => ?_)
  refine swp_blk (a := v3) ?_
  refine swp_lpL (r := v3) (s := ((w64 (1 + x1.1)), ([] : List ByteArray), x1.2)) _ (fun s4 => ⟨20, [(0, .ref 1000000 0), (3, .own 3), (4, vi s4.1)], [(3, .arr 9 1 s4.2.1.length (s4.2.1.map eS)), (1000000, .box [vl (eI .u8) s4.2.2.code, vi s4.2.2.at', vi s4.2.2.seed])]⟩) _ ((Le.sub' ([(0, .ref 1000000 0), (3, .own 5), (4, vi (w64 (1 + x1.1)))] : List (Nat × SV)) ([(5, .arr 9 1 ([] : List ByteArray).length (([] : List ByteArray).map eS)), (1000000, .box [vl (eI .u8) x1.2.code, vi x1.2.at', vi x1.2.seed])] : List (Nat × SO)) (by kernel_rfl) (by kernel_rfl)).trans ((Le.ren' (d := 5) (e := 3) (by kernel_rfl) (by kernel_rfl) (by kernel_rfl)).trans (Le.sub0))) h (fun s4 v5 h => ?_)
  refine swp_seq ?_
  refine swp_seq ?_
  refine swp_reg ?_
  refine SRun.ck tbok 2 ⟨20, [(0, .ref 1000000 0), (3, .own 3), (4, vi s4.1), (10, vb (decide (s4.1 > 0)))], [(3, .arr 9 1 s4.2.1.length (s4.2.1.map eS)), (1000000, .box [vl (eI .u8) s4.2.2.code, vi s4.2.2.at', vi s4.2.2.seed])]⟩ ?_
  refine SRun.nil ?_
  refine nx_n ?_
  refine swp_cond (b := (decide (s4.1 > 0))) (by kernel_rfl) (fun hb => ?_) (fun hb => ?_)
  replace h := cond_t hb h
  refine swp_skip ?_
  refine nx_n ?_
  refine swp_seq ?_
  refine swp_seqJ h (fun j6 => ⟨20, [(0, .ref 1000000 0), (3, .own 3), (4, vi s4.1)], [(3, .arr 9 1 j6.1.length (j6.1.map eS)), (1000000, .box [vl (eI .u8) j6.2.code, vi j6.2.at', vi j6.2.seed])]⟩) (fun v7 h => ?_) (fun j6 h => ?_)
  refine swp_blk (a := v7) ?_
  refine swp_reg ?_
  refine SRun.ck tbok 2 ⟨20, [(0, .ref 1000000 0), (4, vi s4.1), (13, .own 3), (14, .ref 1000000 0)], [(3, .arr 9 1 s4.2.1.length (s4.2.1.map eS)), (1000000, .box [vl (eI .u8) s4.2.2.code, vi s4.2.2.at', vi s4.2.2.seed])]⟩ ?_
  obtain ⟨x8, hx8, h⟩ := bind_some h
  refine SRun.estep (x_estep_call (f := 94) (caps := []) (xs := [.ref 1000000 0]) (pre := []) (post := []) (qs := []) (z := .ref 1000000 0) (d := 1000000) (pl := 0) (y := .box [vl (eI .u8) s4.2.2.code, vi s4.2.2.at', vi s4.2.2.seed]) (y' := .box [vl (eI .u8) x8.2.code, vi x8.2.at', vi x8.2.seed]) (res := ⟨[.v (vs x8.1)], [(0, .box [vl (eI .u8) x8.2.code, vi x8.2.at', vi x8.2.seed])], false⟩) (x := vs x8.1) (yo := none) rfl rfl rfl rfl rfl ents94 (spec_l01Good_run s4.2.2 _ hx8) rfl rfl false (fun _ => rfl) (by intro hc; cases hc)) ?_
  refine SRun.ck tbok 1 ⟨20, [(0, .ref 1000000 0), (4, vi s4.1), (13, .own 3), (16, .own 16)], [(3, .arr 9 1 s4.2.1.length (s4.2.1.map eS)), (16, .arr 9 1 ([x8.1] : List ByteArray).length (([x8.1] : List ByteArray).map eS)), (1000000, .box [vl (eI .u8) x8.2.code, vi x8.2.at', vi x8.2.seed])]⟩ ?_
  obtain ⟨x9, hx9, h⟩ := bind_some h
  refine SRun.estep (x_append (f := eS) (t := 86) (ti := ti86) (tj := ti9) (zs := [.string (ByteArray.mk #[])]) (e := 9) (m := 1) (d := 3) (xv := .own 16) hx9 tbok rfl rfl rfl rfl (x_src_o (e := 9))) ?_
  refine SRun.ck tbok 1 ⟨20, [(0, .ref 1000000 0), (3, .own 17), (4, vi s4.1)], [(17, .arr 9 1 x9.length (x9.map eS)), (1000000, .box [vl (eI .u8) x8.2.code, vi x8.2.at', vi x8.2.seed])]⟩ ?_
  refine SRun.nil ?_
  replace h := Option.some.inj h
  subst h
  exact q_bn (q_j ((Le.sub' ([(0, .ref 1000000 0), (3, .own 17), (4, vi s4.1)] : List (Nat × SV)) ([(17, .arr 9 1 x9.length (x9.map eS)), (1000000, .box [vl (eI .u8) x8.2.code, vi x8.2.at', vi x8.2.seed])] : List (Nat × SO)) (by kernel_rfl) (by kernel_rfl)).trans ((Le.ren' (d := 17) (e := 3) (by kernel_rfl) (by kernel_rfl) (by kernel_rfl)).trans (Le.sub0))))
  refine swp_reg ?_
  refine SRun.ck tbok 3 ⟨20, [(0, .ref 1000000 0), (3, .own 3), (4, vi (w64 (s4.1 - 1)))], [(3, .arr 9 1 j6.1.length (j6.1.map eS)), (1000000, .box [vl (eI .u8) j6.2.code, vi j6.2.at', vi j6.2.seed])]⟩ ?_
  refine SRun.nil ?_
  replace h := Option.some.inj h
  subst h
  exact q_l (Le.sub0)
  replace h := cond_f hb h
  refine swp_exit ?_
  replace h := Option.some.inj h
  subst h
  exact nx_e (q_re (q_bh (q_j (Le.sub0))))
  refine swp_seq ?_
  refine swp_reg ?_
  refine SRun.ck tbok 1 ⟨20, [(18, .own 3)], [(3, .arr 9 1 j2.1.length (j2.1.map eS)), (1000000, .box [vl (eI .u8) j2.2.code, vi j2.2.at', vi j2.2.seed])]⟩ ?_
  obtain ⟨x10, hx10, h⟩ := bind_some h
  refine SRun.ls (x_lstep_call (f := 102) (caps := []) (xs := [.own 3]) (ys := [vl eS j2.1]) (res := ⟨[.v (vs x10)], [], false⟩) (x := vs x10) (y := none) rfl ents102 (spec_l01Words_run j2.1 _ hx10) rfl (by intro hc; cases hc)) ?_
  refine SRun.ck tbok 1 ⟨20, [(2, vs x10)], [(1000000, .box [vl (eI .u8) j2.2.code, vi j2.2.at', vi j2.2.seed])]⟩ ?_
  refine SRun.nil ?_
  refine nx_n ?_
  refine swp_ret ?_
  replace h := Option.some.inj h
  subst h
  exact q_fr (fin_io (fin1 (by kernel_rfl) (finV rfl SV.flat_of (holds_t (by kernel_rfl)))) (y := .box [vl (eI .u8) j2.2.code, vi j2.2.at', vi j2.2.seed]) (by kernel_rfl) rfl (by kernel_rfl) (by kernel_rfl))
theorem ents95 : Ents Tryd.prog 95 := ents_of Tryd.func95 (by kernel_rfl) rfl
noncomputable def spec_l01In (aN : Int) (aLow : Int) (aHigh : Int) : Option (Bool) :=
  some ((decide (aN ≥ aLow)) && (decide (aN ≤ aHigh)))
set_option maxRecDepth 100000 in
set_option maxHeartbeats 4000000 in
theorem spec_l01In_run (aN : Int) (aLow : Int) (aHigh : Int) (r : Bool) (h : spec_l01In aN aLow aHigh = some r) : SCall Tryd.prog 44 [.v (vi aN), .v (vi aLow), .v (vi aHigh)] ⟨[.v (vb r)], [], false⟩ := by
  refine scall_in Tryd.func44 rfl [(.tmp 6)] rfl (fun r => ⟨[.v (vb r)], [], false⟩) (r := r) ?_
  unfold spec_l01In at h
  refine swp_seq ?_
  refine swp_reg ?_
  refine SRun.ck tbok 1 ⟨15, [(0, vi aN), (1, vi aLow), (2, vi aHigh)], []⟩ ?_
  refine SRun.nil ?_
  refine nx_n ?_
  refine swp_seq ?_
  refine swp_regP ⟨15, [(6, vb ((decide (aN ≥ aLow)) && (decide (aN ≤ aHigh))))], []⟩ ?_ ?_
  refine SRun.ck tbok 4 ⟨15, [(0, vi aN), (2, vi aHigh), (10, vb (decide (aN ≥ aLow)))], []⟩ ?_
  generalize (decide (aN ≥ aLow)) = bb
  cases bb
  refine SRun.ck tbok 5 ⟨15, [(6, vb false)], []⟩ ?_
  exact SRun.nil (Le.sub0)
  refine SRun.ck tbok 5 ⟨15, [(6, vb (decide (aN ≤ aHigh)))], []⟩ ?_
  exact SRun.nil (Le.sub0)
  refine swp_ret ?_
  replace h := Option.some.inj h
  subst h
  exact q_fr (fin1 (by kernel_rfl) (finV rfl SV.flat_of (holds_t (by kernel_rfl))))
theorem ents44 : Ents Tryd.prog 44 := ents_of Tryd.func44 (by kernel_rfl) rfl
noncomputable def spec_IsWord (aS : ByteArray) : Option (Bool) :=
  (((forN (aS.size : Int) (fun (i3 : Int) (_ : Unit) => ((((byte' aS i3).bind fun x7 => (bif (decide (x7 < 97)) then some true else ((byte' aS i3).bind fun x8 => some (decide (x8 > 122)))))).bind fun (j9 : Bool) => (bif j9 then some (.inr (.inr false)) else some (.inl ())))) (fun (_ : Unit) => .inl ()) 0 ())).bind (Sum.elim (fun (_ : Unit) => ((spec_l01In (aS.size : Int) 1 16).bind fun x11 => some x11)) some))
set_option maxRecDepth 100000 in
set_option maxHeartbeats 4000000 in
theorem spec_IsWord_run (aS : ByteArray) (r : Bool) (h : spec_IsWord aS = some r) : SCall Tryd.prog 45 [.v (vs aS)] ⟨[.v (vb r)], [], false⟩ := by
  refine scall_in Tryd.func45 rfl [(.tmp 2)] rfl (fun r => ⟨[.v (vb r)], [], false⟩) (r := r) ?_
  unfold spec_IsWord at h
  refine swp_seq ?_
  refine swp_reg ?_
  refine SRun.ck tbok 1 ⟨23, [(0, vs aS)], []⟩ ?_
  refine SRun.nil ?_
  refine nx_n ?_
  refine swp_seq ?_
  refine swp_seq ?_
  refine swp_reg ?_
  refine SRun.ck tbok 1 ⟨23, [(0, vs aS), (3, vi 0)], []⟩ ?_
  refine SRun.nil ?_
  refine nx_n ?_
  refine swp_seqE (r := r) h (fun j1 => ⟨23, [(0, vs aS)], []⟩) (fun v2 h => ?_) (fun j1 h => ?_)
  refine swp_blk (a := v2) ?_
  refine swp_lpL (r := v2) (s := (0, ())) _ (fun s3 => ⟨23, [(0, vs aS), (3, vi s3.1)], []⟩) _ (Le.sub0) h (fun s3 v4 h => ?_)
  refine swp_seq ?_
  refine swp_seq ?_
  refine swp_reg ?_
  refine SRun.ck tbok 4 ⟨23, [(0, vs aS), (3, vi s3.1), (7, vb (decide (s3.1 < (aS.size : Int))))], []⟩ ?_
  refine SRun.nil ?_
  refine nx_n ?_
  refine swp_cond (b := (decide (s3.1 < (aS.size : Int)))) (by kernel_rfl) (fun hb => ?_) (fun hb => ?_)
  replace h := cond_t hb h
  refine swp_skip ?_
  refine nx_n ?_
  refine swp_seq ?_
  refine swp_seqL (r := v4) h (fun j5 => ⟨23, [(0, vs aS), (3, vi s3.1)], []⟩) (fun v6 h => ?_) (fun j5 h => ?_)
  refine swp_blk (a := v6) ?_
  refine swp_seq ?_
  refine swp_regJ h (fun j9 => ⟨23, [(0, vs aS), (3, vi s3.1), (19, vb j9)], []⟩) (fun v10 h => ?_) (fun j9 h => ?_)
  refine SRun.ck tbok 2 ⟨23, [(0, vs aS), (3, vi s3.1), (10, vs aS), (11, vi s3.1)], []⟩ ?_
  obtain ⟨x7, hx7, h⟩ := bind_some h
  refine SRun.ls (x_byte (ti := ti9) (k := .i64) hx7 tbok rfl) ?_
  refine SRun.ck tbok 2 ⟨23, [(0, vs aS), (3, vi s3.1), (14, vb (decide (x7 < 97)))], []⟩ ?_
  refine SRun.cut [(14, fun b => b)] (b := (decide (x7 < 97))) (by kernel_rfl) (fun hb => ?_) (fun hb => ?_)
  replace h := cond_t hb h
  refine SRun.ck tbok 5 ⟨23, [(0, vs aS), (3, vi s3.1), (19, vb true)], []⟩ ?_
  refine SRun.nil ?_
  replace h := Option.some.inj h
  subst h
  exact Le.sub0
  replace h := cond_f hb h
  refine SRun.ck tbok 2 ⟨23, [(0, vs aS), (3, vi s3.1), (14, vb false), (15, vs aS), (16, vi s3.1)], []⟩ ?_
  obtain ⟨x8, hx8, h⟩ := bind_some h
  refine SRun.ls (x_byte (ti := ti9) (k := .i64) hx8 tbok rfl) ?_
  refine SRun.ck tbok 2 ⟨23, [(0, vs aS), (3, vi s3.1), (19, vb (decide (x8 > 122)))], []⟩ ?_
  refine SRun.nil ?_
  replace h := Option.some.inj h
  subst h
  exact Le.sub0
  refine swp_cond (b := j9) (by kernel_rfl) (fun hb => ?_) (fun hb => ?_)
  replace h := cond_t hb h
  refine swp_seq ?_
  refine swp_reg ?_
  refine SRun.ck tbok 1 ⟨23, [(2, vb false)], []⟩ ?_
  refine SRun.nil ?_
  refine nx_n ?_
  refine swp_ret ?_
  replace h := Option.some.inj h
  subst h
  exact q_br (q_rr (q_rr (q_br (q_rr (q_fr (fin1 (by kernel_rfl) (finV rfl SV.flat_of (holds_t (by kernel_rfl)))))))))
  replace h := cond_f hb h
  refine swp_skip ?_
  replace h := Option.some.inj h
  subst h
  exact q_bn (q_l (Le.sub0))
  refine swp_reg ?_
  refine SRun.ck tbok 3 ⟨23, [(0, vs aS), (3, vi (w64 (s3.1 + 1)))], []⟩ ?_
  refine SRun.nil ?_
  replace h := Option.some.inj h
  subst h
  exact q_l (Le.sub0)
  replace h := cond_f hb h
  refine swp_exit ?_
  replace h := Option.some.inj h
  subst h
  exact nx_e (q_re (q_bh (q_l (Le.sub0))))
  refine swp_seq ?_
  refine swp_reg ?_
  refine SRun.ck tbok 2 ⟨23, [(21, vi (aS.size : Int))], []⟩ ?_
  obtain ⟨x11, hx11, h⟩ := bind_some h
  refine SRun.ls (x_lstep_call (f := 44) (caps := []) (xs := [vi (aS.size : Int), vi 1, vi 16]) (ys := [vi (aS.size : Int), vi 1, vi 16]) (res := ⟨[.v (vb x11)], [], false⟩) (x := vb x11) (y := none) rfl ents44 (spec_l01In_run (aS.size : Int) 1 16 _ hx11) rfl (by intro hc; cases hc)) ?_
  refine SRun.ck tbok 1 ⟨23, [(2, vb x11)], []⟩ ?_
  refine SRun.nil ?_
  refine nx_n ?_
  refine swp_ret ?_
  replace h := Option.some.inj h
  subst h
  exact q_fr (fin1 (by kernel_rfl) (finV rfl SV.flat_of (holds_t (by kernel_rfl))))
theorem ents45 : Ents Tryd.prog 45 := ents_of Tryd.func45 (by kernel_rfl) rfl
noncomputable def spec_l01Split (aS : ByteArray) (aBy : Int) : Option ((List ByteArray)) :=
  (((forH (fun (i3 : Int) (_ : Int × (List ByteArray)) => (decide (i3 ≤ (aS.size : Int)))) (fun (i3 : Int) (s3 : Int × (List ByteArray)) => (((bif (i3 == (aS.size : Int)) then some true else ((byte' aS i3).bind fun x7 => some (x7 == aBy)))).bind fun (j8 : Bool) => (bif j8 then ((sub' aS s3.1 i3).bind fun x10 => ((app' s3.2 ([x10] : List ByteArray)).bind fun x11 => some ((w64 (i3 + 1)), x11))) else some (s3.1, s3.2)))) (fun (s3 : Int × (List ByteArray)) => s3.2) 0 (0, ([] : List ByteArray)))).bind fun (j1 : (List ByteArray)) => some j1)
set_option maxRecDepth 100000 in
set_option maxHeartbeats 4000000 in
theorem spec_l01Split_run (aS : ByteArray) (aBy : Int) (r : (List ByteArray)) (h : spec_l01Split aS aBy = some r) : SCall Tryd.prog 97 [.v (vs aS), .v (.tr (.int .u8 aBy))] ⟨[.own 9 1 r.length (r.map eS)], [], false⟩ := by
  refine scall_in Tryd.func97 rfl [(.tmp 4)] rfl (fun r => ⟨[.own 9 1 r.length (r.map eS)], [], false⟩) (r := r) ?_
  unfold spec_l01Split at h
  refine swp_seq ?_
  refine swp_reg ?_
  refine SRun.ck tbok 1 ⟨36, [(0, vs aS), (1, .tr (.int .u8 aBy))], []⟩ ?_
  refine SRun.nil ?_
  refine nx_n ?_
  refine swp_seq ?_
  refine swp_reg ?_
  refine SRun.ck tbok 2 ⟨36, [(0, vs aS), (1, .tr (.int .u8 aBy)), (5, .own 8)], [(8, .arr 9 1 ([] : List ByteArray).length (([] : List ByteArray).map eS))]⟩ ?_
  refine SRun.nil ?_
  refine nx_n ?_
  refine swp_seq ?_
  refine swp_reg ?_
  refine SRun.ck tbok 1 ⟨36, [(0, vs aS), (1, .tr (.int .u8 aBy)), (5, .own 8), (6, vi 0)], [(8, .arr 9 1 ([] : List ByteArray).length (([] : List ByteArray).map eS))]⟩ ?_
  refine SRun.nil ?_
  refine nx_n ?_
  refine swp_seq ?_
  refine swp_seq ?_
  refine swp_reg ?_
  refine SRun.ck tbok 1 ⟨36, [(0, vs aS), (1, .tr (.int .u8 aBy)), (5, .own 8), (6, vi 0), (7, vi 0)], [(8, .arr 9 1 ([] : List ByteArray).length (([] : List ByteArray).map eS))]⟩ ?_
  refine SRun.nil ?_
  refine nx_n ?_
  refine swp_seqJ h (fun j1 => ⟨36, [(5, .own 5)], [(5, .arr 9 1 j1.length (j1.map eS))]⟩) (fun v2 h => ?_) (fun j1 h => ?_)
  refine swp_blk (a := v2) ?_
  refine swp_lpL (r := v2) (s := (0, 0, ([] : List ByteArray))) _ (fun s3 => ⟨36, [(0, vs aS), (1, .tr (.int .u8 aBy)), (5, .own 5), (6, vi s3.2.1), (7, vi s3.1)], [(5, .arr 9 1 s3.2.2.length (s3.2.2.map eS))]⟩) _ ((Le.sub' ([(0, vs aS), (1, .tr (.int .u8 aBy)), (5, .own 8), (6, vi 0), (7, vi 0)] : List (Nat × SV)) ([(8, .arr 9 1 ([] : List ByteArray).length (([] : List ByteArray).map eS))] : List (Nat × SO)) (by kernel_rfl) (by kernel_rfl)).trans ((Le.ren' (d := 8) (e := 5) (by kernel_rfl) (by kernel_rfl) (by kernel_rfl)).trans (Le.sub0))) h (fun s3 v4 h => ?_)
  refine swp_seq ?_
  refine swp_seq ?_
  refine swp_reg ?_
  refine SRun.ck tbok 4 ⟨36, [(0, vs aS), (1, .tr (.int .u8 aBy)), (5, .own 5), (6, vi s3.2.1), (7, vi s3.1), (12, vb (decide (s3.1 ≤ (aS.size : Int))))], [(5, .arr 9 1 s3.2.2.length (s3.2.2.map eS))]⟩ ?_
  refine SRun.nil ?_
  refine nx_n ?_
  refine swp_cond (b := (decide (s3.1 ≤ (aS.size : Int)))) (by kernel_rfl) (fun hb => ?_) (fun hb => ?_)
  replace h := cond_t hb h
  refine swp_skip ?_
  refine nx_n ?_
  refine swp_seq ?_
  refine swp_seqJ h (fun j5 => ⟨36, [(0, vs aS), (1, .tr (.int .u8 aBy)), (5, .own 5), (6, vi j5.1), (7, vi s3.1)], [(5, .arr 9 1 j5.2.length (j5.2.map eS))]⟩) (fun v6 h => ?_) (fun j5 h => ?_)
  refine swp_blk (a := v6) ?_
  refine swp_seq ?_
  refine swp_regJ h (fun j8 => ⟨36, [(0, vs aS), (1, .tr (.int .u8 aBy)), (5, .own 5), (6, vi s3.2.1), (7, vi s3.1), (25, vb j8)], [(5, .arr 9 1 s3.2.2.length (s3.2.2.map eS))]⟩) (fun v9 h => ?_) (fun j8 h => ?_)
  refine SRun.ck tbok 5 ⟨36, [(0, vs aS), (1, .tr (.int .u8 aBy)), (5, .own 5), (6, vi s3.2.1), (7, vi s3.1), (19, vb (s3.1 == (aS.size : Int)))], [(5, .arr 9 1 s3.2.2.length (s3.2.2.map eS))]⟩ ?_
  refine SRun.cut [(19, fun b => b)] (b := (s3.1 == (aS.size : Int))) (by kernel_rfl) (fun hb => ?_) (fun hb => ?_)
  replace h := cond_t hb h
  refine SRun.ck tbok 6 ⟨36, [(0, vs aS), (1, .tr (.int .u8 aBy)), (5, .own 5), (6, vi s3.2.1), (7, vi s3.1), (25, vb true)], [(5, .arr 9 1 s3.2.2.length (s3.2.2.map eS))]⟩ ?_
  refine SRun.nil ?_
  replace h := Option.some.inj h
  subst h
  exact Le.sub0
  replace h := cond_f hb h
  refine SRun.ck tbok 2 ⟨36, [(0, vs aS), (1, .tr (.int .u8 aBy)), (5, .own 5), (6, vi s3.2.1), (7, vi s3.1), (19, vb false), (20, vs aS), (21, vi s3.1)], [(5, .arr 9 1 s3.2.2.length (s3.2.2.map eS))]⟩ ?_
  obtain ⟨x7, hx7, h⟩ := bind_some h
  refine SRun.ls (x_byte (ti := ti9) (k := .i64) hx7 tbok rfl) ?_
  refine SRun.ck tbok 3 ⟨36, [(0, vs aS), (1, .tr (.int .u8 aBy)), (5, .own 5), (6, vi s3.2.1), (7, vi s3.1), (25, vb (x7 == aBy))], [(5, .arr 9 1 s3.2.2.length (s3.2.2.map eS))]⟩ ?_
  refine SRun.nil ?_
  replace h := Option.some.inj h
  subst h
  exact Le.sub0
  refine swp_cond (b := j8) (by kernel_rfl) (fun hb => ?_) (fun hb => ?_)
  replace h := cond_t hb h
  refine swp_seq ?_
  refine swp_reg ?_
  refine SRun.ck tbok 4 ⟨36, [(0, vs aS), (1, .tr (.int .u8 aBy)), (7, vi s3.1), (26, .own 5), (27, vs aS), (28, vi s3.2.1), (29, vi s3.1)], [(5, .arr 9 1 s3.2.2.length (s3.2.2.map eS))]⟩ ?_
  obtain ⟨x10, hx10, h⟩ := bind_some h
  refine SRun.ls (x_sub (ti := ti9) hx10 tbok rfl) ?_
  refine SRun.ck tbok 1 ⟨36, [(0, vs aS), (1, .tr (.int .u8 aBy)), (7, vi s3.1), (26, .own 5), (31, .own 31)], [(5, .arr 9 1 s3.2.2.length (s3.2.2.map eS)), (31, .arr 9 1 ([x10] : List ByteArray).length (([x10] : List ByteArray).map eS))]⟩ ?_
  obtain ⟨x11, hx11, h⟩ := bind_some h
  refine SRun.estep (x_append (f := eS) (t := 86) (ti := ti86) (tj := ti9) (zs := [.string (ByteArray.mk #[])]) (e := 9) (m := 1) (d := 5) (xv := .own 31) hx11 tbok rfl rfl rfl rfl (x_src_o (e := 9))) ?_
  refine SRun.ck tbok 1 ⟨36, [(0, vs aS), (1, .tr (.int .u8 aBy)), (5, .own 32), (7, vi s3.1)], [(32, .arr 9 1 x11.length (x11.map eS))]⟩ ?_
  refine SRun.nil ?_
  refine nx_n ?_
  refine swp_reg ?_
  refine SRun.ck tbok 3 ⟨36, [(0, vs aS), (1, .tr (.int .u8 aBy)), (5, .own 32), (6, vi (w64 (s3.1 + 1))), (7, vi s3.1)], [(32, .arr 9 1 x11.length (x11.map eS))]⟩ ?_
  refine SRun.nil ?_
  replace h := Option.some.inj h
  subst h
  exact q_bn (q_j ((Le.sub' ([(0, vs aS), (1, .tr (.int .u8 aBy)), (5, .own 32), (6, vi (w64 (s3.1 + 1))), (7, vi s3.1)] : List (Nat × SV)) ([(32, .arr 9 1 x11.length (x11.map eS))] : List (Nat × SO)) (by kernel_rfl) (by kernel_rfl)).trans ((Le.ren' (d := 32) (e := 5) (by kernel_rfl) (by kernel_rfl) (by kernel_rfl)).trans (Le.sub0))))
  replace h := cond_f hb h
  refine swp_skip ?_
  replace h := Option.some.inj h
  subst h
  exact q_bn (q_j (Le.sub0))
  refine swp_reg ?_
  refine SRun.ck tbok 3 ⟨36, [(0, vs aS), (1, .tr (.int .u8 aBy)), (5, .own 5), (6, vi j5.1), (7, vi (w64 (s3.1 + 1)))], [(5, .arr 9 1 j5.2.length (j5.2.map eS))]⟩ ?_
  refine SRun.nil ?_
  replace h := Option.some.inj h
  subst h
  exact q_l (Le.sub0)
  replace h := cond_f hb h
  refine swp_exit ?_
  replace h := Option.some.inj h
  subst h
  exact nx_e (q_re (q_bh (q_j (Le.sub0))))
  refine swp_seq ?_
  refine swp_reg ?_
  refine SRun.ck tbok 2 ⟨36, [(4, .own 5)], [(5, .arr 9 1 j1.length (j1.map eS))]⟩ ?_
  refine SRun.nil ?_
  refine nx_n ?_
  refine swp_ret ?_
  replace h := Option.some.inj h
  subst h
  exact q_fr (fin1 (by kernel_rfl) (finO (d := 5) (holds_t (by kernel_rfl)) (by kernel_rfl) (flat_map eS_flat _) (by kernel_rfl)))
theorem ents97 : Ents Tryd.prog 97 := ents_of Tryd.func97 (by kernel_rfl) rfl
noncomputable def spec_l01Phrase (aS : ByteArray) : Option ((List ByteArray) × Bool) :=
  ((spec_l01Split aS 32).bind fun x1 => (((forN (x1.length : Int) (fun (i4 : Int) (_ : Unit) => ((at' x1 i4).bind fun x8 => ((spec_IsWord x8).bind fun x9 => (bif (!x9) then some (.inr (.inr (([] : List ByteArray), false))) else some (.inl ()))))) (fun (_ : Unit) => .inl ()) 0 ())).bind (Sum.elim (fun (_ : Unit) => some (x1, (decide ((x1.length : Int) ≤ 8)))) some)))
set_option maxRecDepth 100000 in
set_option maxHeartbeats 4000000 in
theorem spec_l01Phrase_run (aS : ByteArray) (r : (List ByteArray) × Bool) (h : spec_l01Phrase aS = some r) : SCall Tryd.prog 79 [.v (vs aS)] ⟨[.own 9 1 r.1.length (r.1.map eS), .v (vb r.2)], [], false⟩ := by
  refine scall_in Tryd.func79 rfl [(.tmp 2), (.tmp 3)] rfl (fun r => ⟨[.own 9 1 r.1.length (r.1.map eS), .v (vb r.2)], [], false⟩) (r := r) ?_
  unfold spec_l01Phrase at h
  refine swp_seq ?_
  refine swp_reg ?_
  refine SRun.ck tbok 2 ⟨24, [(0, vs aS)], []⟩ ?_
  refine SRun.nil ?_
  refine nx_n ?_
  refine swp_seq ?_
  refine swp_reg ?_
  refine SRun.ck tbok 1 ⟨24, [(6, vs aS)], []⟩ ?_
  obtain ⟨x1, hx1, h⟩ := bind_some h
  refine SRun.ls (x_lstep_call (f := 97) (caps := []) (xs := [vs aS, .tr (.int .u8 32)]) (ys := [vs aS, .tr (.int .u8 32)]) (res := ⟨[.own 9 1 x1.length (x1.map eS)], [], false⟩) (x := .own 7) (y := some (.arr 9 1 x1.length (x1.map eS))) rfl ents97 (spec_l01Split_run aS 32 _ hx1) rfl (by intro hc; cases hc)) ?_
  refine SRun.ck tbok 1 ⟨24, [(4, .own 7)], [(7, .arr 9 1 x1.length (x1.map eS))]⟩ ?_
  refine SRun.nil ?_
  refine nx_n ?_
  refine swp_seq ?_
  refine swp_seq ?_
  refine swp_reg ?_
  refine SRun.ck tbok 1 ⟨24, [(4, .own 7), (5, vi 0)], [(7, .arr 9 1 x1.length (x1.map eS))]⟩ ?_
  refine SRun.nil ?_
  refine nx_n ?_
  refine swp_seqE (r := r) h (fun j2 => ⟨24, [(4, .own 4)], [(4, .arr 9 1 x1.length (x1.map eS))]⟩) (fun v3 h => ?_) (fun j2 h => ?_)
  refine swp_blk (a := v3) ?_
  refine swp_lpL (r := v3) (s := (0, ())) _ (fun s4 => ⟨24, [(4, .own 4), (5, vi s4.1)], [(4, .arr 9 1 x1.length (x1.map eS))]⟩) _ ((Le.sub' ([(4, .own 7), (5, vi 0)] : List (Nat × SV)) ([(7, .arr 9 1 x1.length (x1.map eS))] : List (Nat × SO)) (by kernel_rfl) (by kernel_rfl)).trans ((Le.ren' (d := 7) (e := 4) (by kernel_rfl) (by kernel_rfl) (by kernel_rfl)).trans (Le.sub0))) h (fun s4 v5 h => ?_)
  refine swp_seq ?_
  refine swp_seq ?_
  refine swp_reg ?_
  refine SRun.ck tbok 4 ⟨24, [(4, .own 4), (5, vi s4.1), (11, vb (decide (s4.1 < (x1.length : Int))))], [(4, .arr 9 1 x1.length (x1.map eS))]⟩ ?_
  refine SRun.nil ?_
  refine nx_n ?_
  refine swp_cond (b := (decide (s4.1 < (x1.length : Int)))) (by kernel_rfl) (fun hb => ?_) (fun hb => ?_)
  replace h := cond_t hb h
  refine swp_skip ?_
  refine nx_n ?_
  refine swp_seq ?_
  refine swp_seqL (r := v5) h (fun j6 => ⟨24, [(4, .own 4), (5, vi s4.1)], [(4, .arr 9 1 x1.length (x1.map eS))]⟩) (fun v7 h => ?_) (fun j6 h => ?_)
  refine swp_blk (a := v7) ?_
  refine swp_seq ?_
  refine swp_reg ?_
  refine SRun.ck tbok 2 ⟨24, [(4, .own 4), (5, vi s4.1), (14, .own 4), (15, vi s4.1)], [(4, .arr 9 1 x1.length (x1.map eS))]⟩ ?_
  obtain ⟨x8, hx8, h⟩ := bind_some h
  refine SRun.ls (x_index_own (d := 4) (L := x1) (f := eS) (ti := ti86) (tj := ti9) (e := 9) (e' := 9) (m := 1) (k := .i64) tbok rfl hx8) ?_
  refine SRun.ls (x_load_own (d := 4) (m := 1) (j := 0) (L := x1) (f := eS) (ti := ti9) (e := 9) (v := vs x8) tbok rfl hx8) ?_
  obtain ⟨x9, hx9, h⟩ := bind_some h
  refine SRun.ls (x_lstep_call (f := 45) (caps := []) (xs := [vs x8]) (ys := [vs x8]) (res := ⟨[.v (vb x9)], [], false⟩) (x := vb x9) (y := none) rfl ents45 (spec_IsWord_run x8 _ hx9) rfl (by intro hc; cases hc)) ?_
  refine SRun.ck tbok 1 ⟨24, [(4, .own 4), (5, vi s4.1), (19, vb (!x9))], [(4, .arr 9 1 x1.length (x1.map eS))]⟩ ?_
  refine SRun.nil ?_
  refine nx_n ?_
  refine swp_cond (b := (!x9)) (by kernel_rfl) (fun hb => ?_) (fun hb => ?_)
  replace h := cond_t hb h
  refine swp_seq ?_
  refine swp_reg ?_
  refine SRun.ck tbok 2 ⟨24, [(2, .own 2), (3, vb false)], [(2, .arr 9 1 ([] : List ByteArray).length (([] : List ByteArray).map eS))]⟩ ?_
  refine SRun.nil ?_
  refine nx_n ?_
  refine swp_ret ?_
  replace h := Option.some.inj h
  subst h
  exact q_br (q_rr (q_rr (q_br (q_rr (q_fr (fin2 (by kernel_rfl) (finO (d := 2) (holds_t (by kernel_rfl)) (by kernel_rfl) (flat_map eS_flat _) (by kernel_rfl)) (finV rfl SV.flat_of (holds_t (by kernel_rfl)))))))))
  replace h := cond_f hb h
  refine swp_skip ?_
  replace h := Option.some.inj h
  subst h
  exact q_bn (q_l (Le.sub0))
  refine swp_reg ?_
  refine SRun.ck tbok 3 ⟨24, [(4, .own 4), (5, vi (w64 (s4.1 + 1)))], [(4, .arr 9 1 x1.length (x1.map eS))]⟩ ?_
  refine SRun.nil ?_
  replace h := Option.some.inj h
  subst h
  exact q_l (Le.sub0)
  replace h := cond_f hb h
  refine swp_exit ?_
  replace h := Option.some.inj h
  subst h
  exact nx_e (q_re (q_bh (q_l (Le.sub0))))
  refine swp_seq ?_
  refine swp_reg ?_
  refine SRun.ck tbok 6 ⟨24, [(2, .own 4), (3, vb (decide ((x1.length : Int) ≤ 8)))], [(4, .arr 9 1 x1.length (x1.map eS))]⟩ ?_
  refine SRun.nil ?_
  refine nx_n ?_
  refine swp_ret ?_
  replace h := Option.some.inj h
  subst h
  exact q_fr (fin2 (by kernel_rfl) (finO (d := 4) (holds_t (by kernel_rfl)) (by kernel_rfl) (flat_map eS_flat _) (by kernel_rfl)) (finV rfl SV.flat_of (holds_t (by kernel_rfl))))
theorem ents79 : Ents Tryd.prog 79 := ents_of Tryd.func79 (by kernel_rfl) rfl
noncomputable def spec_IsPhrase (aS : ByteArray) : Option (Bool) :=
  ((spec_l01Phrase aS).bind fun x1 => some x1.2)
set_option maxRecDepth 100000 in
set_option maxHeartbeats 4000000 in
theorem spec_IsPhrase_run (aS : ByteArray) (r : Bool) (h : spec_IsPhrase aS = some r) : SCall Tryd.prog 46 [.v (vs aS)] ⟨[.v (vb r)], [], false⟩ := by
  refine scall_in Tryd.func46 rfl [(.tmp 2)] rfl (fun r => ⟨[.v (vb r)], [], false⟩) (r := r) ?_
  unfold spec_IsPhrase at h
  refine swp_seq ?_
  refine swp_reg ?_
  refine SRun.ck tbok 1 ⟨11, [(0, vs aS)], []⟩ ?_
  refine SRun.nil ?_
  refine nx_n ?_
  refine swp_seq ?_
  refine swp_reg ?_
  refine SRun.ck tbok 1 ⟨11, [(6, vs aS)], []⟩ ?_
  obtain ⟨x1, hx1, h⟩ := bind_some h
  refine SRun.ls (x_lstep_call (f := 79) (caps := []) (xs := [vs aS]) (ys := [vs aS]) (res := ⟨[.own 9 1 x1.1.length (x1.1.map eS), .v (vb x1.2)], [], false⟩) (x := .tup [.own 7, vb x1.2]) (y := some (.arr 9 1 x1.1.length (x1.1.map eS))) rfl ents79 (spec_l01Phrase_run aS _ hx1) rfl (by intro hc; cases hc)) ?_
  refine SRun.ck tbok 5 ⟨11, [(4, vb x1.2)], []⟩ ?_
  refine SRun.nil ?_
  refine nx_n ?_
  refine swp_seq ?_
  refine swp_reg ?_
  refine SRun.ck tbok 2 ⟨11, [(2, vb x1.2)], []⟩ ?_
  refine SRun.nil ?_
  refine nx_n ?_
  refine swp_ret ?_
  replace h := Option.some.inj h
  subst h
  exact q_fr (fin1 (by kernel_rfl) (finV rfl SV.flat_of (holds_t (by kernel_rfl))))
theorem ents46 : Ents Tryd.prog 46 := ents_of Tryd.func46 (by kernel_rfl) rfl
noncomputable def spec_l32Vector (aVector : (List Int)) : Option (Bool) :=
  (((forN (aVector.length : Int) (fun (i3 : Int) (_ : Unit) => ((at' aVector i3).bind fun x7 => (bif (decide (x7 < 0)) then some (.inr (.inr false)) else some (.inl ())))) (fun (_ : Unit) => .inl ()) 0 ())).bind (Sum.elim (fun (_ : Unit) => some ((aVector.length : Int) == 4)) some))
set_option maxRecDepth 100000 in
set_option maxHeartbeats 4000000 in
theorem spec_l32Vector_run (aVector : (List Int)) (r : Bool) (h : spec_l32Vector aVector = some r) : SCall Tryd.prog 47 [.v (vl (eI .i64) aVector)] ⟨[.v (vb r)], [], false⟩ := by
  refine scall_in Tryd.func47 rfl [(.tmp 2)] rfl (fun r => ⟨[.v (vb r)], [], false⟩) (r := r) ?_
  unfold spec_l32Vector at h
  refine swp_seq ?_
  refine swp_reg ?_
  refine SRun.ck tbok 1 ⟨18, [(0, vl (eI .i64) aVector)], []⟩ ?_
  refine SRun.nil ?_
  refine nx_n ?_
  refine swp_seq ?_
  refine swp_seq ?_
  refine swp_reg ?_
  refine SRun.ck tbok 1 ⟨18, [(0, vl (eI .i64) aVector), (3, vi 0)], []⟩ ?_
  refine SRun.nil ?_
  refine nx_n ?_
  refine swp_seqE (r := r) h (fun j1 => ⟨18, [(0, vl (eI .i64) aVector)], []⟩) (fun v2 h => ?_) (fun j1 h => ?_)
  refine swp_blk (a := v2) ?_
  refine swp_lpL (r := v2) (s := (0, ())) _ (fun s3 => ⟨18, [(0, vl (eI .i64) aVector), (3, vi s3.1)], []⟩) _ (Le.sub0) h (fun s3 v4 h => ?_)
  refine swp_seq ?_
  refine swp_seq ?_
  refine swp_reg ?_
  refine SRun.ck tbok 4 ⟨18, [(0, vl (eI .i64) aVector), (3, vi s3.1), (7, vb (decide (s3.1 < (aVector.length : Int))))], []⟩ ?_
  refine SRun.nil ?_
  refine nx_n ?_
  refine swp_cond (b := (decide (s3.1 < (aVector.length : Int)))) (by kernel_rfl) (fun hb => ?_) (fun hb => ?_)
  replace h := cond_t hb h
  refine swp_skip ?_
  refine nx_n ?_
  refine swp_seq ?_
  refine swp_seqL (r := v4) h (fun j5 => ⟨18, [(0, vl (eI .i64) aVector), (3, vi s3.1)], []⟩) (fun v6 h => ?_) (fun j5 h => ?_)
  refine swp_blk (a := v6) ?_
  refine swp_seq ?_
  refine swp_reg ?_
  refine SRun.ck tbok 2 ⟨18, [(0, vl (eI .i64) aVector), (3, vi s3.1), (10, vl (eI .i64) aVector), (11, vi s3.1)], []⟩ ?_
  obtain ⟨x7, hx7, h⟩ := bind_some h
  refine SRun.ls (x_index (L := aVector) (f := (eI .i64)) (ti := ti32) (tj := ti2) (e := 2) (k := .i64) tbok rfl hx7) ?_
  refine SRun.ck tbok 2 ⟨18, [(0, vl (eI .i64) aVector), (3, vi s3.1), (14, vb (decide (x7 < 0)))], []⟩ ?_
  refine SRun.nil ?_
  refine nx_n ?_
  refine swp_cond (b := (decide (x7 < 0))) (by kernel_rfl) (fun hb => ?_) (fun hb => ?_)
  replace h := cond_t hb h
  refine swp_seq ?_
  refine swp_reg ?_
  refine SRun.ck tbok 1 ⟨18, [(2, vb false)], []⟩ ?_
  refine SRun.nil ?_
  refine nx_n ?_
  refine swp_ret ?_
  replace h := Option.some.inj h
  subst h
  exact q_br (q_rr (q_rr (q_br (q_rr (q_fr (fin1 (by kernel_rfl) (finV rfl SV.flat_of (holds_t (by kernel_rfl)))))))))
  replace h := cond_f hb h
  refine swp_skip ?_
  replace h := Option.some.inj h
  subst h
  exact q_bn (q_l (Le.sub0))
  refine swp_reg ?_
  refine SRun.ck tbok 3 ⟨18, [(0, vl (eI .i64) aVector), (3, vi (w64 (s3.1 + 1)))], []⟩ ?_
  refine SRun.nil ?_
  replace h := Option.some.inj h
  subst h
  exact q_l (Le.sub0)
  replace h := cond_f hb h
  refine swp_exit ?_
  replace h := Option.some.inj h
  subst h
  exact nx_e (q_re (q_bh (q_l (Le.sub0))))
  refine swp_seq ?_
  refine swp_reg ?_
  refine SRun.ck tbok 4 ⟨18, [(2, vb ((aVector.length : Int) == 4))], []⟩ ?_
  refine SRun.nil ?_
  refine nx_n ?_
  refine swp_ret ?_
  replace h := Option.some.inj h
  subst h
  exact q_fr (fin1 (by kernel_rfl) (finV rfl SV.flat_of (holds_t (by kernel_rfl))))
theorem ents47 : Ents Tryd.prog 47 := ents_of Tryd.func47 (by kernel_rfl) rfl
noncomputable def spec_IsLog (aLog : (List Op)) : Option (Bool) :=
  ((make' 0 4).bind fun x1 => (((forN (aLog.length : Int) (fun (i4 : Int) (s4 : (List Int)) => ((at' aLog i4).bind fun x8 => ((((spec_l01In x8.Office 0 3).bind fun x9 => (bif (!x9) then some true else ((spec_IsWord x8.Key).bind fun x10 => (bif (!x10) then some true else ((spec_IsPhrase x8.Text).bind fun x11 => (bif (!x11) then some true else ((spec_l32Vector x8.Seen).bind fun x12 => (bif (!x12) then some true else ((at' x8.Seen x8.Office).bind fun x13 => (bif (x13 != (w64 (x8.Number - 1))) then some true else ((at' s4 x8.Office).bind fun x14 => some (x8.Number != (w64 (x14 + 1))))))))))))))).bind fun (j15 : Bool) => (bif j15 then some (.inr (.inr false)) else (((forN (s4.length : Int) (fun (i19 : Int) (_ : Unit) => ((at' x8.Seen i19).bind fun x23 => ((at' s4 i19).bind fun x24 => (bif (decide (x23 > x24)) then some (.inr (.inr (.inr (.inr false)))) else some (.inl ()))))) (fun (_ : Unit) => .inl ()) 0 ())).bind (Sum.elim (fun (_ : Unit) => ((at' s4 x8.Office).bind fun _ => some (.inl (List.set s4 (Int.toNat x8.Office) x8.Number)))) some)))))) (fun (_ : (List Int)) => .inl ()) 0 x1)).bind (Sum.elim (fun (_ : Unit) => some (decide ((aLog.length : Int) ≤ 16))) some)))
set_option maxRecDepth 100000 in
set_option maxHeartbeats 4000000 in
theorem spec_IsLog_run (aLog : (List Op)) (r : Bool) (h : spec_IsLog aLog = some r) : SCall Tryd.prog 13 [.v (vl eOp aLog)] ⟨[.v (vb r)], [], false⟩ := by
  refine scall_in Tryd.func13 rfl [(.tmp 2)] rfl (fun r => ⟨[.v (vb r)], [], false⟩) (r := r) ?_
  unfold spec_IsLog at h
  refine swp_seq ?_
  refine swp_reg ?_
  refine SRun.ck tbok 1 ⟨88, [(0, vl eOp aLog)], []⟩ ?_
  refine SRun.nil ?_
  refine nx_n ?_
  refine swp_seq ?_
  refine swp_reg ?_
  obtain ⟨x1, hx1, h⟩ := bind_some h
  refine SRun.ls (x_make (z := 0) (f := (eI .i64)) (ti := ti32) (tj := ti2) (e := 2) (m := 1) (k := .i64) (k' := .i64) hx1 tbok rfl rfl (zs := [.int .i64 0])) ?_
  refine SRun.ck tbok 1 ⟨88, [(0, vl eOp aLog), (3, .own 7)], [(7, .arr 2 1 x1.length (x1.map (eI .i64)))]⟩ ?_
  refine SRun.nil ?_
  refine nx_n ?_
  refine swp_seq ?_
  refine swp_seq ?_
  refine swp_reg ?_
  refine SRun.ck tbok 1 ⟨88, [(0, vl eOp aLog), (3, .own 7), (4, vi 0)], [(7, .arr 2 1 x1.length (x1.map (eI .i64)))]⟩ ?_
  refine SRun.nil ?_
  refine nx_n ?_
  refine swp_seqE (r := r) h (fun j2 => ⟨88, [(0, vl eOp aLog)], []⟩) (fun v3 h => ?_) (fun j2 h => ?_)
  refine swp_blk (a := v3) ?_
  refine swp_lpL (r := v3) (s := (0, x1)) _ (fun s4 => ⟨88, [(0, vl eOp aLog), (3, .own 3), (4, vi s4.1)], [(3, .arr 2 1 s4.2.length (s4.2.map (eI .i64)))]⟩) _ ((Le.sub' ([(0, vl eOp aLog), (3, .own 7), (4, vi 0)] : List (Nat × SV)) ([(7, .arr 2 1 x1.length (x1.map (eI .i64)))] : List (Nat × SO)) (by kernel_rfl) (by kernel_rfl)).trans ((Le.ren' (d := 7) (e := 3) (by kernel_rfl) (by kernel_rfl) (by kernel_rfl)).trans (Le.sub0))) h (fun s4 v5 h => ?_)
  refine swp_seq ?_
  refine swp_seq ?_
  refine swp_reg ?_
  refine SRun.ck tbok 4 ⟨88, [(0, vl eOp aLog), (3, .own 3), (4, vi s4.1), (11, vb (decide (s4.1 < (aLog.length : Int))))], [(3, .arr 2 1 s4.2.length (s4.2.map (eI .i64)))]⟩ ?_
  refine SRun.nil ?_
  refine nx_n ?_
  refine swp_cond (b := (decide (s4.1 < (aLog.length : Int)))) (by kernel_rfl) (fun hb => ?_) (fun hb => ?_)
  replace h := cond_t hb h
  refine swp_skip ?_
  refine nx_n ?_
  refine swp_seq ?_
  refine swp_seqL (r := v5) h (fun j6 => ⟨88, [(0, vl eOp aLog), (3, .own 3), (4, vi s4.1)], [(3, .arr 2 1 j6.length (j6.map (eI .i64)))]⟩) (fun v7 h => ?_) (fun j6 h => ?_)
  refine swp_blk (a := v7) ?_
  refine swp_seq ?_
  refine swp_reg ?_
  refine SRun.ck tbok 2 ⟨88, [(0, vl eOp aLog), (3, .own 3), (4, vi s4.1), (14, vl eOp aLog), (15, vi s4.1)], [(3, .arr 2 1 s4.2.length (s4.2.map (eI .i64)))]⟩ ?_
  obtain ⟨x8, hx8, h⟩ := bind_some h
  refine SRun.ls (x_index (L := aLog) (f := eOp) (ti := ti25) (tj := ti61) (e := 61) (k := .i64) tbok rfl hx8) ?_
  refine SRun.ck tbok 2 ⟨88, [(0, vl eOp aLog), (3, .own 3), (4, vi s4.1), (5, .ref 5 0), (17, .agg [vi x8.Office, vi x8.Number, vs x8.Key, vs x8.Text, vl (eI .i64) x8.Seen])], [(3, .arr 2 1 s4.2.length (s4.2.map (eI .i64))), (5, .box [vi 0, vi 0, vs (ByteArray.mk #[]), vs (ByteArray.mk #[]), vl (eI .i64) ([] : List Int)])]⟩ ?_
  refine SRun.estep (x_estep_store (d := 5) (k := 0) (ti := ti61) (cs := [vi 0, vi 0, vs (ByteArray.mk #[]), vs (ByteArray.mk #[]), vl (eI .i64) ([] : List Int)]) (vs := [vi x8.Office, vi x8.Number, vs x8.Key, vs x8.Text, vl (eI .i64) x8.Seen]) (v := .agg [vi x8.Office, vi x8.Number, vs x8.Key, vs x8.Text, vl (eI .i64) x8.Seen]) tbok rfl rfl) ?_
  refine SRun.nil ?_
  refine nx_n ?_
  refine swp_seq ?_
  refine swp_seq ?_
  refine swp_drJ mixed h (fun j15 => ⟨88, [(0, vl eOp aLog), (3, .own 3), (4, vi s4.1), (5, .ref 5 0), (62, vb j15)], [(3, .arr 2 1 s4.2.length (s4.2.map (eI .i64))), (5, .box [vi x8.Office, vi x8.Number, vs x8.Key, vs x8.Text, vl (eI .i64) x8.Seen])]⟩) (fun v16 h => ?_) (fun j15 h => ?_)
  refine DGo.chunk' tbok 2 (σ' := ⟨88, [(19, vi x8.Office), (18, .ref 5 0), (0, vl eOp aLog), (3, .own 3), (4, vi s4.1), (5, .ref 5 0), (17, .agg [vi x8.Office, vi x8.Number, vs x8.Key, vs x8.Text, vl (eI .i64) x8.Seen])], [(5, .box [vi x8.Office, vi x8.Number, vs x8.Key, vs x8.Text, vl (eI .i64) x8.Seen]), (3, .arr 2 1 s4.2.length (s4.2.map (eI .i64)))]⟩) (by kernel_rfl) ?_
  obtain ⟨x9, hx9, h⟩ := bind_some h
  refine DGo.step (x_lstep_call (f := 44) (caps := []) (xs := [vi x8.Office, vi 0, vi 3]) (ys := [vi x8.Office, vi 0, vi 3]) (res := ⟨[.v (vb x9)], [], false⟩) (x := vb x9) (y := none) rfl ents44 (spec_l01In_run x8.Office 0 3 _ hx9) rfl (by intro hc; cases hc)) ?_
  refine DGo.chunk' tbok 2 (σ' := ⟨88, [(22, vb (!x9)), (21, vb (!x9)), (20, vb x9), (19, vi x8.Office), (18, .ref 5 0), (0, vl eOp aLog), (3, .own 3), (4, vi s4.1), (5, .ref 5 0), (17, .agg [vi x8.Office, vi x8.Number, vs x8.Key, vs x8.Text, vl (eI .i64) x8.Seen])], [(5, .box [vi x8.Office, vi x8.Number, vs x8.Key, vs x8.Text, vl (eI .i64) x8.Seen]), (3, .arr 2 1 s4.2.length (s4.2.map (eI .i64)))]⟩) (by kernel_rfl) ?_
  refine DGo.cut [(22, fun b => b), (21, fun b => b)] (b := (!x9)) (by kernel_rfl) (fun hb => ?_) (fun hb => ?_)
  replace h := cond_t hb h
  refine DGo.chunk' tbok 40 (σ' := ⟨88, [(62, vb true), (61, .tup []), (60, .tup []), (59, .tup []), (58, .tup []), (57, .tup []), (56, .tup []), (55, .tup []), (54, .tup []), (53, .tup []), (52, vb true), (51, vb true), (50, .tup []), (49, .tup []), (48, .tup []), (47, .tup []), (46, .tup []), (45, .tup []), (44, .tup []), (43, .tup []), (42, .tup []), (41, .tup []), (40, vb true), (39, vb true), (38, .tup []), (37, .tup []), (36, .tup []), (35, .tup []), (34, vb true), (33, vb true), (32, .tup []), (31, .tup []), (30, .tup []), (29, .tup []), (28, vb true), (27, vb true), (26, .tup []), (25, .tup []), (24, .tup []), (23, .tup []), (22, vb true), (21, vb true), (20, vb x9), (19, vi x8.Office), (18, .ref 5 0), (0, vl eOp aLog), (3, .own 3), (4, vi s4.1), (5, .ref 5 0), (17, .agg [vi x8.Office, vi x8.Number, vs x8.Key, vs x8.Text, vl (eI .i64) x8.Seen])], [(5, .box [vi x8.Office, vi x8.Number, vs x8.Key, vs x8.Text, vl (eI .i64) x8.Seen]), (3, .arr 2 1 s4.2.length (s4.2.map (eI .i64)))]⟩) (by kernel_rfl) ?_
  refine DGo.nil (by kernel_rfl) ?_
  replace h := Option.some.inj h
  subst h
  exact Le.sub0
  replace h := cond_f hb h
  refine DGo.chunk' tbok 2 (σ' := ⟨88, [(24, vs x8.Key), (23, .ref 5 2), (22, vb false), (21, vb false), (20, vb x9), (19, vi x8.Office), (18, .ref 5 0), (0, vl eOp aLog), (3, .own 3), (4, vi s4.1), (5, .ref 5 0), (17, .agg [vi x8.Office, vi x8.Number, vs x8.Key, vs x8.Text, vl (eI .i64) x8.Seen])], [(5, .box [vi x8.Office, vi x8.Number, vs x8.Key, vs x8.Text, vl (eI .i64) x8.Seen]), (3, .arr 2 1 s4.2.length (s4.2.map (eI .i64)))]⟩) (by kernel_rfl) ?_
  obtain ⟨x10, hx10, h⟩ := bind_some h
  refine DGo.step (x_lstep_call (f := 45) (caps := []) (xs := [vs x8.Key]) (ys := [vs x8.Key]) (res := ⟨[.v (vb x10)], [], false⟩) (x := vb x10) (y := none) rfl ents45 (spec_IsWord_run x8.Key _ hx10) rfl (by intro hc; cases hc)) ?_
  refine DGo.chunk' tbok 3 (σ' := ⟨88, [(28, vb (!x10)), (27, vb (!x10)), (26, vb (!x10)), (25, vb x10), (24, vs x8.Key), (23, .ref 5 2), (22, vb false), (21, vb false), (20, vb x9), (19, vi x8.Office), (18, .ref 5 0), (0, vl eOp aLog), (3, .own 3), (4, vi s4.1), (5, .ref 5 0), (17, .agg [vi x8.Office, vi x8.Number, vs x8.Key, vs x8.Text, vl (eI .i64) x8.Seen])], [(5, .box [vi x8.Office, vi x8.Number, vs x8.Key, vs x8.Text, vl (eI .i64) x8.Seen]), (3, .arr 2 1 s4.2.length (s4.2.map (eI .i64)))]⟩) (by kernel_rfl) ?_
  refine DGo.cut [(28, fun b => b), (27, fun b => b), (26, fun b => b)] (b := (!x10)) (by kernel_rfl) (fun hb => ?_) (fun hb => ?_)
  replace h := cond_t hb h
  refine DGo.chunk' tbok 34 (σ' := ⟨88, [(62, vb true), (61, .tup []), (60, .tup []), (59, .tup []), (58, .tup []), (57, .tup []), (56, .tup []), (55, .tup []), (54, .tup []), (53, .tup []), (52, vb true), (51, vb true), (50, .tup []), (49, .tup []), (48, .tup []), (47, .tup []), (46, .tup []), (45, .tup []), (44, .tup []), (43, .tup []), (42, .tup []), (41, .tup []), (40, vb true), (39, vb true), (38, .tup []), (37, .tup []), (36, .tup []), (35, .tup []), (34, vb true), (33, vb true), (32, .tup []), (31, .tup []), (30, .tup []), (29, .tup []), (28, vb true), (27, vb true), (26, vb true), (25, vb x10), (24, vs x8.Key), (23, .ref 5 2), (22, vb false), (21, vb false), (20, vb x9), (19, vi x8.Office), (18, .ref 5 0), (0, vl eOp aLog), (3, .own 3), (4, vi s4.1), (5, .ref 5 0), (17, .agg [vi x8.Office, vi x8.Number, vs x8.Key, vs x8.Text, vl (eI .i64) x8.Seen])], [(5, .box [vi x8.Office, vi x8.Number, vs x8.Key, vs x8.Text, vl (eI .i64) x8.Seen]), (3, .arr 2 1 s4.2.length (s4.2.map (eI .i64)))]⟩) (by kernel_rfl) ?_
  refine DGo.nil (by kernel_rfl) ?_
  replace h := Option.some.inj h
  subst h
  exact Le.sub0
  replace h := cond_f hb h
  refine DGo.chunk' tbok 2 (σ' := ⟨88, [(30, vs x8.Text), (29, .ref 5 3), (28, vb false), (27, vb false), (26, vb false), (25, vb x10), (24, vs x8.Key), (23, .ref 5 2), (22, vb false), (21, vb false), (20, vb x9), (19, vi x8.Office), (18, .ref 5 0), (0, vl eOp aLog), (3, .own 3), (4, vi s4.1), (5, .ref 5 0), (17, .agg [vi x8.Office, vi x8.Number, vs x8.Key, vs x8.Text, vl (eI .i64) x8.Seen])], [(5, .box [vi x8.Office, vi x8.Number, vs x8.Key, vs x8.Text, vl (eI .i64) x8.Seen]), (3, .arr 2 1 s4.2.length (s4.2.map (eI .i64)))]⟩) (by kernel_rfl) ?_
  obtain ⟨x11, hx11, h⟩ := bind_some h
  refine DGo.step (x_lstep_call (f := 46) (caps := []) (xs := [vs x8.Text]) (ys := [vs x8.Text]) (res := ⟨[.v (vb x11)], [], false⟩) (x := vb x11) (y := none) rfl ents46 (spec_IsPhrase_run x8.Text _ hx11) rfl (by intro hc; cases hc)) ?_
  refine DGo.chunk' tbok 3 (σ' := ⟨88, [(34, vb (!x11)), (33, vb (!x11)), (32, vb (!x11)), (31, vb x11), (30, vs x8.Text), (29, .ref 5 3), (28, vb false), (27, vb false), (26, vb false), (25, vb x10), (24, vs x8.Key), (23, .ref 5 2), (22, vb false), (21, vb false), (20, vb x9), (19, vi x8.Office), (18, .ref 5 0), (0, vl eOp aLog), (3, .own 3), (4, vi s4.1), (5, .ref 5 0), (17, .agg [vi x8.Office, vi x8.Number, vs x8.Key, vs x8.Text, vl (eI .i64) x8.Seen])], [(5, .box [vi x8.Office, vi x8.Number, vs x8.Key, vs x8.Text, vl (eI .i64) x8.Seen]), (3, .arr 2 1 s4.2.length (s4.2.map (eI .i64)))]⟩) (by kernel_rfl) ?_
  refine DGo.cut [(34, fun b => b), (33, fun b => b), (32, fun b => b)] (b := (!x11)) (by kernel_rfl) (fun hb => ?_) (fun hb => ?_)
  replace h := cond_t hb h
  refine DGo.chunk' tbok 28 (σ' := ⟨88, [(62, vb true), (61, .tup []), (60, .tup []), (59, .tup []), (58, .tup []), (57, .tup []), (56, .tup []), (55, .tup []), (54, .tup []), (53, .tup []), (52, vb true), (51, vb true), (50, .tup []), (49, .tup []), (48, .tup []), (47, .tup []), (46, .tup []), (45, .tup []), (44, .tup []), (43, .tup []), (42, .tup []), (41, .tup []), (40, vb true), (39, vb true), (38, .tup []), (37, .tup []), (36, .tup []), (35, .tup []), (34, vb true), (33, vb true), (32, vb true), (31, vb x11), (30, vs x8.Text), (29, .ref 5 3), (28, vb false), (27, vb false), (26, vb false), (25, vb x10), (24, vs x8.Key), (23, .ref 5 2), (22, vb false), (21, vb false), (20, vb x9), (19, vi x8.Office), (18, .ref 5 0), (0, vl eOp aLog), (3, .own 3), (4, vi s4.1), (5, .ref 5 0), (17, .agg [vi x8.Office, vi x8.Number, vs x8.Key, vs x8.Text, vl (eI .i64) x8.Seen])], [(5, .box [vi x8.Office, vi x8.Number, vs x8.Key, vs x8.Text, vl (eI .i64) x8.Seen]), (3, .arr 2 1 s4.2.length (s4.2.map (eI .i64)))]⟩) (by kernel_rfl) ?_
  refine DGo.nil (by kernel_rfl) ?_
  replace h := Option.some.inj h
  subst h
  exact Le.sub0
  replace h := cond_f hb h
  refine DGo.chunk' tbok 2 (σ' := ⟨88, [(36, vl (eI .i64) x8.Seen), (35, .ref 5 4), (34, vb false), (33, vb false), (32, vb false), (31, vb x11), (30, vs x8.Text), (29, .ref 5 3), (28, vb false), (27, vb false), (26, vb false), (25, vb x10), (24, vs x8.Key), (23, .ref 5 2), (22, vb false), (21, vb false), (20, vb x9), (19, vi x8.Office), (18, .ref 5 0), (0, vl eOp aLog), (3, .own 3), (4, vi s4.1), (5, .ref 5 0), (17, .agg [vi x8.Office, vi x8.Number, vs x8.Key, vs x8.Text, vl (eI .i64) x8.Seen])], [(5, .box [vi x8.Office, vi x8.Number, vs x8.Key, vs x8.Text, vl (eI .i64) x8.Seen]), (3, .arr 2 1 s4.2.length (s4.2.map (eI .i64)))]⟩) (by kernel_rfl) ?_
  obtain ⟨x12, hx12, h⟩ := bind_some h
  refine DGo.step (x_lstep_call (f := 47) (caps := []) (xs := [vl (eI .i64) x8.Seen]) (ys := [vl (eI .i64) x8.Seen]) (res := ⟨[.v (vb x12)], [], false⟩) (x := vb x12) (y := none) rfl ents47 (spec_l32Vector_run x8.Seen _ hx12) rfl (by intro hc; cases hc)) ?_
  refine DGo.chunk' tbok 3 (σ' := ⟨88, [(40, vb (!x12)), (39, vb (!x12)), (38, vb (!x12)), (37, vb x12), (36, vl (eI .i64) x8.Seen), (35, .ref 5 4), (34, vb false), (33, vb false), (32, vb false), (31, vb x11), (30, vs x8.Text), (29, .ref 5 3), (28, vb false), (27, vb false), (26, vb false), (25, vb x10), (24, vs x8.Key), (23, .ref 5 2), (22, vb false), (21, vb false), (20, vb x9), (19, vi x8.Office), (18, .ref 5 0), (0, vl eOp aLog), (3, .own 3), (4, vi s4.1), (5, .ref 5 0), (17, .agg [vi x8.Office, vi x8.Number, vs x8.Key, vs x8.Text, vl (eI .i64) x8.Seen])], [(5, .box [vi x8.Office, vi x8.Number, vs x8.Key, vs x8.Text, vl (eI .i64) x8.Seen]), (3, .arr 2 1 s4.2.length (s4.2.map (eI .i64)))]⟩) (by kernel_rfl) ?_
  refine DGo.cut [(40, fun b => b), (39, fun b => b), (38, fun b => b)] (b := (!x12)) (by kernel_rfl) (fun hb => ?_) (fun hb => ?_)
  replace h := cond_t hb h
  refine DGo.chunk' tbok 22 (σ' := ⟨88, [(62, vb true), (61, .tup []), (60, .tup []), (59, .tup []), (58, .tup []), (57, .tup []), (56, .tup []), (55, .tup []), (54, .tup []), (53, .tup []), (52, vb true), (51, vb true), (50, .tup []), (49, .tup []), (48, .tup []), (47, .tup []), (46, .tup []), (45, .tup []), (44, .tup []), (43, .tup []), (42, .tup []), (41, .tup []), (40, vb true), (39, vb true), (38, vb true), (37, vb x12), (36, vl (eI .i64) x8.Seen), (35, .ref 5 4), (34, vb false), (33, vb false), (32, vb false), (31, vb x11), (30, vs x8.Text), (29, .ref 5 3), (28, vb false), (27, vb false), (26, vb false), (25, vb x10), (24, vs x8.Key), (23, .ref 5 2), (22, vb false), (21, vb false), (20, vb x9), (19, vi x8.Office), (18, .ref 5 0), (0, vl eOp aLog), (3, .own 3), (4, vi s4.1), (5, .ref 5 0), (17, .agg [vi x8.Office, vi x8.Number, vs x8.Key, vs x8.Text, vl (eI .i64) x8.Seen])], [(5, .box [vi x8.Office, vi x8.Number, vs x8.Key, vs x8.Text, vl (eI .i64) x8.Seen]), (3, .arr 2 1 s4.2.length (s4.2.map (eI .i64)))]⟩) (by kernel_rfl) ?_
  refine DGo.nil (by kernel_rfl) ?_
  replace h := Option.some.inj h
  subst h
  exact Le.sub0
  replace h := cond_f hb h
  refine DGo.chunk' tbok 4 (σ' := ⟨88, [(44, vi x8.Office), (43, .ref 5 0), (42, vl (eI .i64) x8.Seen), (41, .ref 5 4), (40, vb false), (39, vb false), (38, vb false), (37, vb x12), (36, vl (eI .i64) x8.Seen), (35, .ref 5 4), (34, vb false), (33, vb false), (32, vb false), (31, vb x11), (30, vs x8.Text), (29, .ref 5 3), (28, vb false), (27, vb false), (26, vb false), (25, vb x10), (24, vs x8.Key), (23, .ref 5 2), (22, vb false), (21, vb false), (20, vb x9), (19, vi x8.Office), (18, .ref 5 0), (0, vl eOp aLog), (3, .own 3), (4, vi s4.1), (5, .ref 5 0), (17, .agg [vi x8.Office, vi x8.Number, vs x8.Key, vs x8.Text, vl (eI .i64) x8.Seen])], [(5, .box [vi x8.Office, vi x8.Number, vs x8.Key, vs x8.Text, vl (eI .i64) x8.Seen]), (3, .arr 2 1 s4.2.length (s4.2.map (eI .i64)))]⟩) (by kernel_rfl) ?_
  obtain ⟨x13, hx13, h⟩ := bind_some h
  refine DGo.step (x_index (L := x8.Seen) (f := (eI .i64)) (ti := ti32) (tj := ti2) (e := 2) (k := .i64) tbok rfl hx13) ?_
  refine DGo.chunk' tbok 7 (σ' := ⟨88, [(52, vb (x13 != (w64 (x8.Number - 1)))), (51, vb (x13 != (w64 (x8.Number - 1)))), (50, vb (x13 != (w64 (x8.Number - 1)))), (49, vi (w64 (x8.Number - 1))), (48, vi x8.Number), (47, .ref 5 1), (46, vi x13), (45, .ptr (((eI .i64) x13).map .tr) 0), (44, vi x8.Office), (43, .ref 5 0), (42, vl (eI .i64) x8.Seen), (41, .ref 5 4), (40, vb false), (39, vb false), (38, vb false), (37, vb x12), (36, vl (eI .i64) x8.Seen), (35, .ref 5 4), (34, vb false), (33, vb false), (32, vb false), (31, vb x11), (30, vs x8.Text), (29, .ref 5 3), (28, vb false), (27, vb false), (26, vb false), (25, vb x10), (24, vs x8.Key), (23, .ref 5 2), (22, vb false), (21, vb false), (20, vb x9), (19, vi x8.Office), (18, .ref 5 0), (0, vl eOp aLog), (3, .own 3), (4, vi s4.1), (5, .ref 5 0), (17, .agg [vi x8.Office, vi x8.Number, vs x8.Key, vs x8.Text, vl (eI .i64) x8.Seen])], [(5, .box [vi x8.Office, vi x8.Number, vs x8.Key, vs x8.Text, vl (eI .i64) x8.Seen]), (3, .arr 2 1 s4.2.length (s4.2.map (eI .i64)))]⟩) (by kernel_rfl) ?_
  refine DGo.cut [(52, fun b => b), (51, fun b => b), (50, fun b => b)] (b := (x13 != (w64 (x8.Number - 1)))) (by kernel_rfl) (fun hb => ?_) (fun hb => ?_)
  replace h := cond_t hb h
  refine DGo.chunk' tbok 10 (σ' := ⟨88, [(62, vb true), (61, .tup []), (60, .tup []), (59, .tup []), (58, .tup []), (57, .tup []), (56, .tup []), (55, .tup []), (54, .tup []), (53, .tup []), (52, vb true), (51, vb true), (50, vb true), (49, vi (w64 (x8.Number - 1))), (48, vi x8.Number), (47, .ref 5 1), (46, vi x13), (45, .ptr (((eI .i64) x13).map .tr) 0), (44, vi x8.Office), (43, .ref 5 0), (42, vl (eI .i64) x8.Seen), (41, .ref 5 4), (40, vb false), (39, vb false), (38, vb false), (37, vb x12), (36, vl (eI .i64) x8.Seen), (35, .ref 5 4), (34, vb false), (33, vb false), (32, vb false), (31, vb x11), (30, vs x8.Text), (29, .ref 5 3), (28, vb false), (27, vb false), (26, vb false), (25, vb x10), (24, vs x8.Key), (23, .ref 5 2), (22, vb false), (21, vb false), (20, vb x9), (19, vi x8.Office), (18, .ref 5 0), (0, vl eOp aLog), (3, .own 3), (4, vi s4.1), (5, .ref 5 0), (17, .agg [vi x8.Office, vi x8.Number, vs x8.Key, vs x8.Text, vl (eI .i64) x8.Seen])], [(5, .box [vi x8.Office, vi x8.Number, vs x8.Key, vs x8.Text, vl (eI .i64) x8.Seen]), (3, .arr 2 1 s4.2.length (s4.2.map (eI .i64)))]⟩) (by kernel_rfl) ?_
  refine DGo.nil (by kernel_rfl) ?_
  replace h := Option.some.inj h
  subst h
  exact Le.sub0
  replace h := cond_f hb h
  refine DGo.chunk' tbok 5 (σ' := ⟨88, [(57, vi x8.Office), (56, .ref 5 0), (55, .own 3), (54, vi x8.Number), (53, .ref 5 1), (52, vb false), (51, vb false), (50, vb false), (49, vi (w64 (x8.Number - 1))), (48, vi x8.Number), (47, .ref 5 1), (46, vi x13), (45, .ptr (((eI .i64) x13).map .tr) 0), (44, vi x8.Office), (43, .ref 5 0), (42, vl (eI .i64) x8.Seen), (41, .ref 5 4), (40, vb false), (39, vb false), (38, vb false), (37, vb x12), (36, vl (eI .i64) x8.Seen), (35, .ref 5 4), (34, vb false), (33, vb false), (32, vb false), (31, vb x11), (30, vs x8.Text), (29, .ref 5 3), (28, vb false), (27, vb false), (26, vb false), (25, vb x10), (24, vs x8.Key), (23, .ref 5 2), (22, vb false), (21, vb false), (20, vb x9), (19, vi x8.Office), (18, .ref 5 0), (0, vl eOp aLog), (3, .own 3), (4, vi s4.1), (5, .ref 5 0), (17, .agg [vi x8.Office, vi x8.Number, vs x8.Key, vs x8.Text, vl (eI .i64) x8.Seen])], [(5, .box [vi x8.Office, vi x8.Number, vs x8.Key, vs x8.Text, vl (eI .i64) x8.Seen]), (3, .arr 2 1 s4.2.length (s4.2.map (eI .i64)))]⟩) (by kernel_rfl) ?_
  obtain ⟨x14, hx14, h⟩ := bind_some h
  refine DGo.step (x_index_own (d := 3) (L := s4.2) (f := (eI .i64)) (ti := ti32) (tj := ti2) (e := 2) (e' := 2) (m := 1) (k := .i64) tbok rfl hx14) ?_
  refine DGo.step (x_load_own (d := 3) (m := 1) (j := 0) (L := s4.2) (f := (eI .i64)) (ti := ti2) (e := 2) (v := vi x14) tbok rfl hx14) ?_
  refine DGo.chunk' tbok 3 (σ' := ⟨88, [(62, vb (x8.Number != (w64 (x14 + 1)))), (61, vb (x8.Number != (w64 (x14 + 1)))), (60, vi (w64 (x14 + 1))), (59, vi x14), (58, .eref 3 1 (Int.toNat x8.Office) 0), (57, vi x8.Office), (56, .ref 5 0), (55, .own 3), (54, vi x8.Number), (53, .ref 5 1), (52, vb false), (51, vb false), (50, vb false), (49, vi (w64 (x8.Number - 1))), (48, vi x8.Number), (47, .ref 5 1), (46, vi x13), (45, .ptr (((eI .i64) x13).map .tr) 0), (44, vi x8.Office), (43, .ref 5 0), (42, vl (eI .i64) x8.Seen), (41, .ref 5 4), (40, vb false), (39, vb false), (38, vb false), (37, vb x12), (36, vl (eI .i64) x8.Seen), (35, .ref 5 4), (34, vb false), (33, vb false), (32, vb false), (31, vb x11), (30, vs x8.Text), (29, .ref 5 3), (28, vb false), (27, vb false), (26, vb false), (25, vb x10), (24, vs x8.Key), (23, .ref 5 2), (22, vb false), (21, vb false), (20, vb x9), (19, vi x8.Office), (18, .ref 5 0), (0, vl eOp aLog), (3, .own 3), (4, vi s4.1), (5, .ref 5 0), (17, .agg [vi x8.Office, vi x8.Number, vs x8.Key, vs x8.Text, vl (eI .i64) x8.Seen])], [(5, .box [vi x8.Office, vi x8.Number, vs x8.Key, vs x8.Text, vl (eI .i64) x8.Seen]), (3, .arr 2 1 s4.2.length (s4.2.map (eI .i64)))]⟩) (by kernel_rfl) ?_
  refine DGo.nil (by kernel_rfl) ?_
  replace h := Option.some.inj h
  subst h
  exact Le.sub0
  refine swp_cond (b := j15) (by kernel_rfl) (fun hb => ?_) (fun hb => ?_)
  replace h := cond_t hb h
  refine swp_seq ?_
  refine swp_reg ?_
  refine SRun.ck tbok 1 ⟨88, [(2, vb false)], []⟩ ?_
  refine SRun.nil ?_
  refine nx_n ?_
  refine swp_ret ?_
  replace h := Option.some.inj h
  subst h
  exact nx_r (q_br (q_rr (q_rr (q_br (q_rr (q_fr (fin1 (by kernel_rfl) (finV rfl SV.flat_of (holds_t (by kernel_rfl))))))))))
  replace h := cond_f hb h
  refine swp_skip ?_
  refine nx_n ?_
  refine swp_seq ?_
  refine swp_seq ?_
  refine swp_reg ?_
  refine SRun.ck tbok 1 ⟨88, [(0, vl eOp aLog), (3, .own 3), (4, vi s4.1), (5, .ref 5 0), (6, vi 0)], [(3, .arr 2 1 s4.2.length (s4.2.map (eI .i64))), (5, .box [vi x8.Office, vi x8.Number, vs x8.Key, vs x8.Text, vl (eI .i64) x8.Seen])]⟩ ?_
  refine SRun.nil ?_
  refine nx_n ?_
  refine swp_seqE (r := v7) h (fun j17 => ⟨88, [(0, vl eOp aLog), (3, .own 3), (4, vi s4.1), (5, .ref 5 0)], [(3, .arr 2 1 s4.2.length (s4.2.map (eI .i64))), (5, .box [vi x8.Office, vi x8.Number, vs x8.Key, vs x8.Text, vl (eI .i64) x8.Seen])]⟩) (fun v18 h => ?_) (fun j17 h => ?_)
  refine swp_blk (a := v18) ?_
  refine swp_lpL (r := v18) (s := (0, ())) _ (fun s19 => ⟨88, [(0, vl eOp aLog), (3, .own 3), (4, vi s4.1), (5, .ref 5 0), (6, vi s19.1)], [(3, .arr 2 1 s4.2.length (s4.2.map (eI .i64))), (5, .box [vi x8.Office, vi x8.Number, vs x8.Key, vs x8.Text, vl (eI .i64) x8.Seen])]⟩) _ (Le.sub0) h (fun s19 v20 h => ?_)
  refine swp_seq ?_
  refine swp_seq ?_
  refine swp_reg ?_
  refine SRun.ck tbok 4 ⟨88, [(0, vl eOp aLog), (3, .own 3), (4, vi s4.1), (5, .ref 5 0), (6, vi s19.1), (66, vb (decide (s19.1 < (s4.2.length : Int))))], [(3, .arr 2 1 s4.2.length (s4.2.map (eI .i64))), (5, .box [vi x8.Office, vi x8.Number, vs x8.Key, vs x8.Text, vl (eI .i64) x8.Seen])]⟩ ?_
  refine SRun.nil ?_
  refine nx_n ?_
  refine swp_cond (b := (decide (s19.1 < (s4.2.length : Int)))) (by kernel_rfl) (fun hb => ?_) (fun hb => ?_)
  replace h := cond_t hb h
  refine swp_skip ?_
  refine nx_n ?_
  refine swp_seq ?_
  refine swp_seqL (r := v20) h (fun j21 => ⟨88, [(0, vl eOp aLog), (3, .own 3), (4, vi s4.1), (5, .ref 5 0), (6, vi s19.1)], [(3, .arr 2 1 s4.2.length (s4.2.map (eI .i64))), (5, .box [vi x8.Office, vi x8.Number, vs x8.Key, vs x8.Text, vl (eI .i64) x8.Seen])]⟩) (fun v22 h => ?_) (fun j21 h => ?_)
  refine swp_blk (a := v22) ?_
  refine swp_seq ?_
  refine swp_dr mixed ?_
  refine DGo.chunk' tbok 3 (σ' := ⟨88, [(71, vi s19.1), (70, vl (eI .i64) x8.Seen), (69, .ref 5 4), (0, vl eOp aLog), (3, .own 3), (4, vi s4.1), (5, .ref 5 0), (6, vi s19.1), (66, vb (decide (s19.1 < (s4.2.length : Int))))], [(3, .arr 2 1 s4.2.length (s4.2.map (eI .i64))), (5, .box [vi x8.Office, vi x8.Number, vs x8.Key, vs x8.Text, vl (eI .i64) x8.Seen])]⟩) (by kernel_rfl) ?_
  obtain ⟨x23, hx23, h⟩ := bind_some h
  refine DGo.step (x_index (L := x8.Seen) (f := (eI .i64)) (ti := ti32) (tj := ti2) (e := 2) (k := .i64) tbok rfl hx23) ?_
  refine DGo.chunk' tbok 3 (σ' := ⟨88, [(75, vi s19.1), (74, .own 3), (73, vi x23), (72, .ptr (((eI .i64) x23).map .tr) 0), (71, vi s19.1), (70, vl (eI .i64) x8.Seen), (69, .ref 5 4), (0, vl eOp aLog), (3, .own 3), (4, vi s4.1), (5, .ref 5 0), (6, vi s19.1), (66, vb (decide (s19.1 < (s4.2.length : Int))))], [(3, .arr 2 1 s4.2.length (s4.2.map (eI .i64))), (5, .box [vi x8.Office, vi x8.Number, vs x8.Key, vs x8.Text, vl (eI .i64) x8.Seen])]⟩) (by kernel_rfl) ?_
  obtain ⟨x24, hx24, h⟩ := bind_some h
  refine DGo.step (x_index_own (d := 3) (L := s4.2) (f := (eI .i64)) (ti := ti32) (tj := ti2) (e := 2) (e' := 2) (m := 1) (k := .i64) tbok rfl hx24) ?_
  refine DGo.step (x_load_own (d := 3) (m := 1) (j := 0) (L := s4.2) (f := (eI .i64)) (ti := ti2) (e := 2) (v := vi x24) tbok rfl hx24) ?_
  refine DGo.chunk' tbok 1 (σ' := ⟨88, [(78, vb (decide (x23 > x24))), (77, vi x24), (76, .eref 3 1 (Int.toNat s19.1) 0), (75, vi s19.1), (74, .own 3), (73, vi x23), (72, .ptr (((eI .i64) x23).map .tr) 0), (71, vi s19.1), (70, vl (eI .i64) x8.Seen), (69, .ref 5 4), (0, vl eOp aLog), (3, .own 3), (4, vi s4.1), (5, .ref 5 0), (6, vi s19.1), (66, vb (decide (s19.1 < (s4.2.length : Int))))], [(3, .arr 2 1 s4.2.length (s4.2.map (eI .i64))), (5, .box [vi x8.Office, vi x8.Number, vs x8.Key, vs x8.Text, vl (eI .i64) x8.Seen])]⟩) (by kernel_rfl) ?_
  refine DGo.nil (by kernel_rfl) ?_
  refine nx_n ?_
  refine swp_cond (b := (decide (x23 > x24))) (by kernel_rfl) (fun hb => ?_) (fun hb => ?_)
  replace h := cond_t hb h
  refine swp_seq ?_
  refine swp_reg ?_
  refine SRun.ck tbok 1 ⟨88, [(2, vb false)], []⟩ ?_
  refine SRun.nil ?_
  refine nx_n ?_
  refine swp_ret ?_
  replace h := Option.some.inj h
  subst h
  exact q_br (q_rr (q_rr (q_br (q_rr (q_br (q_rr (q_rr (q_br (q_rr (q_fr (fin1 (by kernel_rfl) (finV rfl SV.flat_of (holds_t (by kernel_rfl))))))))))))))
  replace h := cond_f hb h
  refine swp_skip ?_
  replace h := Option.some.inj h
  subst h
  exact q_bn (q_l (Le.sub0))
  refine swp_reg ?_
  refine SRun.ck tbok 3 ⟨88, [(0, vl eOp aLog), (3, .own 3), (4, vi s4.1), (5, .ref 5 0), (6, vi (w64 (s19.1 + 1)))], [(3, .arr 2 1 s4.2.length (s4.2.map (eI .i64))), (5, .box [vi x8.Office, vi x8.Number, vs x8.Key, vs x8.Text, vl (eI .i64) x8.Seen])]⟩ ?_
  refine SRun.nil ?_
  replace h := Option.some.inj h
  subst h
  exact q_l (Le.sub0)
  replace h := cond_f hb h
  refine swp_exit ?_
  replace h := Option.some.inj h
  subst h
  exact nx_e (q_re (q_bh (q_l (Le.sub0))))
  refine swp_reg ?_
  refine SRun.ck tbok 5 ⟨88, [(0, vl eOp aLog), (3, .own 3), (4, vi s4.1), (79, .own 3), (81, vi x8.Office), (83, vi x8.Number)], [(3, .arr 2 1 s4.2.length (s4.2.map (eI .i64)))]⟩ ?_
  obtain ⟨x25, hx25, h⟩ := bind_some h
  refine SRun.ls (x_index_own (d := 3) (L := s4.2) (f := (eI .i64)) (ti := ti32) (tj := ti2) (e := 2) (e' := 2) (m := 1) (k := .i64) tbok rfl hx25) ?_
  refine SRun.estep (x_store_own (d := 3) (m := 1) (j := 0) (L := s4.2) (f := (eI .i64)) (x := x8.Number) (z := x25) (ti := ti2) (e := 2) (ts := [.int .i64 x8.Number]) (vs := [vi x8.Number]) (v := vi x8.Number) tbok rfl rfl hx25) ?_
  refine SRun.nil ?_
  replace h := Option.some.inj h
  subst h
  exact q_bn (q_l (Le.sub0))
  refine swp_reg ?_
  refine SRun.ck tbok 3 ⟨88, [(0, vl eOp aLog), (3, .own 3), (4, vi (w64 (s4.1 + 1)))], [(3, .arr 2 1 j6.length (j6.map (eI .i64)))]⟩ ?_
  refine SRun.nil ?_
  replace h := Option.some.inj h
  subst h
  exact q_l (Le.sub0)
  replace h := cond_f hb h
  refine swp_exit ?_
  replace h := Option.some.inj h
  subst h
  exact nx_e (q_re (q_bh (q_l (Le.sub0))))
  refine swp_seq ?_
  refine swp_reg ?_
  refine SRun.ck tbok 4 ⟨88, [(2, vb (decide ((aLog.length : Int) ≤ 16)))], []⟩ ?_
  refine SRun.nil ?_
  refine nx_n ?_
  refine swp_ret ?_
  replace h := Option.some.inj h
  subst h
  exact q_fr (fin1 (by kernel_rfl) (finV rfl SV.flat_of (holds_t (by kernel_rfl))))
theorem ents13 : Ents Tryd.prog 13 := ents_of Tryd.func13 (by kernel_rfl) rfl
noncomputable def spec_l32Count (aLog : (List Op)) : Option ((List Int)) :=
  ((make' 0 4).bind fun x1 => (((forS (aLog.length : Int) (fun (i4 : Int) (s4 : (List Int)) => ((at' aLog i4).bind fun x8 => ((at' s4 x8.Office).bind fun x9 => ((at' s4 x8.Office).bind fun _ => some (List.set s4 (Int.toNat x8.Office) (w64 (x9 + 1))))))) (fun (s4 : (List Int)) => s4) 0 x1)).bind fun (j2 : (List Int)) => some j2))
set_option maxRecDepth 100000 in
set_option maxHeartbeats 4000000 in
theorem spec_l32Count_run (aLog : (List Op)) (r : (List Int)) (h : spec_l32Count aLog = some r) : SCall Tryd.prog 56 [.v (vl eOp aLog)] ⟨[.own 2 1 r.length (r.map (eI .i64))], [], false⟩ := by
  refine scall_in Tryd.func56 rfl [(.tmp 2)] rfl (fun r => ⟨[.own 2 1 r.length (r.map (eI .i64))], [], false⟩) (r := r) ?_
  unfold spec_l32Count at h
  refine swp_seq ?_
  refine swp_reg ?_
  refine SRun.ck tbok 1 ⟨23, [(0, vl eOp aLog)], []⟩ ?_
  refine SRun.nil ?_
  refine nx_n ?_
  refine swp_seq ?_
  refine swp_reg ?_
  obtain ⟨x1, hx1, h⟩ := bind_some h
  refine SRun.ls (x_make (z := 0) (f := (eI .i64)) (ti := ti32) (tj := ti2) (e := 2) (m := 1) (k := .i64) (k' := .i64) hx1 tbok rfl rfl (zs := [.int .i64 0])) ?_
  refine SRun.ck tbok 1 ⟨23, [(0, vl eOp aLog), (3, .own 5)], [(5, .arr 2 1 x1.length (x1.map (eI .i64)))]⟩ ?_
  refine SRun.nil ?_
  refine nx_n ?_
  refine swp_seq ?_
  refine swp_seq ?_
  refine swp_reg ?_
  refine SRun.ck tbok 1 ⟨23, [(0, vl eOp aLog), (3, .own 5), (4, vi 0)], [(5, .arr 2 1 x1.length (x1.map (eI .i64)))]⟩ ?_
  refine SRun.nil ?_
  refine nx_n ?_
  refine swp_seqJ h (fun j2 => ⟨23, [(3, .own 3)], [(3, .arr 2 1 j2.length (j2.map (eI .i64)))]⟩) (fun v3 h => ?_) (fun j2 h => ?_)
  refine swp_blk (a := v3) ?_
  refine swp_lpL (r := v3) (s := (0, x1)) _ (fun s4 => ⟨23, [(0, vl eOp aLog), (3, .own 3), (4, vi s4.1)], [(3, .arr 2 1 s4.2.length (s4.2.map (eI .i64)))]⟩) _ ((Le.sub' ([(0, vl eOp aLog), (3, .own 5), (4, vi 0)] : List (Nat × SV)) ([(5, .arr 2 1 x1.length (x1.map (eI .i64)))] : List (Nat × SO)) (by kernel_rfl) (by kernel_rfl)).trans ((Le.ren' (d := 5) (e := 3) (by kernel_rfl) (by kernel_rfl) (by kernel_rfl)).trans (Le.sub0))) h (fun s4 v5 h => ?_)
  refine swp_seq ?_
  refine swp_seq ?_
  refine swp_reg ?_
  refine SRun.ck tbok 4 ⟨23, [(0, vl eOp aLog), (3, .own 3), (4, vi s4.1), (9, vb (decide (s4.1 < (aLog.length : Int))))], [(3, .arr 2 1 s4.2.length (s4.2.map (eI .i64)))]⟩ ?_
  refine SRun.nil ?_
  refine nx_n ?_
  refine swp_cond (b := (decide (s4.1 < (aLog.length : Int)))) (by kernel_rfl) (fun hb => ?_) (fun hb => ?_)
  replace h := cond_t hb h
  refine swp_skip ?_
  refine nx_n ?_
  refine swp_seq ?_
  refine swp_seqJ h (fun j6 => ⟨23, [(0, vl eOp aLog), (3, .own 3), (4, vi s4.1)], [(3, .arr 2 1 j6.length (j6.map (eI .i64)))]⟩) (fun v7 h => ?_) (fun j6 h => ?_)
  refine swp_blk (a := v7) ?_
  refine swp_reg ?_
  refine SRun.ck tbok 3 ⟨23, [(0, vl eOp aLog), (3, .own 3), (4, vi s4.1), (12, .own 3), (13, vl eOp aLog), (14, vi s4.1)], [(3, .arr 2 1 s4.2.length (s4.2.map (eI .i64)))]⟩ ?_
  obtain ⟨x8, hx8, h⟩ := bind_some h
  refine SRun.ls (x_index (L := aLog) (f := eOp) (ti := ti25) (tj := ti61) (e := 61) (k := .i64) tbok rfl hx8) ?_
  refine SRun.ck tbok 2 ⟨23, [(0, vl eOp aLog), (3, .own 3), (4, vi s4.1), (12, .own 3), (17, vi x8.Office)], [(3, .arr 2 1 s4.2.length (s4.2.map (eI .i64)))]⟩ ?_
  obtain ⟨x9, hx9, h⟩ := bind_some h
  refine SRun.ls (x_index_own (d := 3) (L := s4.2) (f := (eI .i64)) (ti := ti32) (tj := ti2) (e := 2) (e' := 2) (m := 1) (k := .i64) tbok rfl hx9) ?_
  refine SRun.ls (x_load_own (d := 3) (m := 1) (j := 0) (L := s4.2) (f := (eI .i64)) (ti := ti2) (e := 2) (v := vi x9) tbok rfl hx9) ?_
  refine SRun.ck tbok 1 ⟨23, [(0, vl eOp aLog), (3, .own 3), (4, vi s4.1), (12, .own 3), (17, vi x8.Office), (20, vi (w64 (x9 + 1)))], [(3, .arr 2 1 s4.2.length (s4.2.map (eI .i64)))]⟩ ?_
  obtain ⟨x10, hx10, h⟩ := bind_some h
  refine SRun.ls (x_index_own (d := 3) (L := s4.2) (f := (eI .i64)) (ti := ti32) (tj := ti2) (e := 2) (e' := 2) (m := 1) (k := .i64) tbok rfl hx10) ?_
  refine SRun.estep (x_store_own (d := 3) (m := 1) (j := 0) (L := s4.2) (f := (eI .i64)) (x := (w64 (x9 + 1))) (z := x10) (ti := ti2) (e := 2) (ts := [.int .i64 (w64 (x9 + 1))]) (vs := [vi (w64 (x9 + 1))]) (v := vi (w64 (x9 + 1))) tbok rfl rfl hx10) ?_
  refine SRun.nil ?_
  replace h := Option.some.inj h
  subst h
  exact q_bn (q_j (Le.sub0))
  refine swp_reg ?_
  refine SRun.ck tbok 3 ⟨23, [(0, vl eOp aLog), (3, .own 3), (4, vi (w64 (s4.1 + 1)))], [(3, .arr 2 1 j6.length (j6.map (eI .i64)))]⟩ ?_
  refine SRun.nil ?_
  replace h := Option.some.inj h
  subst h
  exact q_l (Le.sub0)
  replace h := cond_f hb h
  refine swp_exit ?_
  replace h := Option.some.inj h
  subst h
  exact nx_e (q_re (q_bh (q_j (Le.sub0))))
  refine swp_seq ?_
  refine swp_reg ?_
  refine SRun.ck tbok 2 ⟨23, [(2, .own 3)], [(3, .arr 2 1 j2.length (j2.map (eI .i64)))]⟩ ?_
  refine SRun.nil ?_
  refine nx_n ?_
  refine swp_ret ?_
  replace h := Option.some.inj h
  subst h
  exact q_fr (fin1 (by kernel_rfl) (finO (d := 3) (holds_t (by kernel_rfl)) (by kernel_rfl) (flat_map (eI_flat .i64) _) (by kernel_rfl)))
theorem ents56 : Ents Tryd.prog 56 := ents_of Tryd.func56 (by kernel_rfl) rfl
noncomputable def spec_l01Own (aList : (List Int)) : Option ((List Int)) :=
  ((app' ([] : List Int) aList).bind fun x1 => some x1)
set_option maxRecDepth 100000 in
set_option maxHeartbeats 4000000 in
theorem spec_l01Own_run (aList : (List Int)) (r : (List Int)) (h : spec_l01Own aList = some r) : SCall Tryd.prog 86 [.v (vl (eI .i64) aList)] ⟨[.own 2 1 r.length (r.map (eI .i64))], [], false⟩ := by
  refine scall_in Tryd.func86 rfl [(.tmp 2)] rfl (fun r => ⟨[.own 2 1 r.length (r.map (eI .i64))], [], false⟩) (r := r) ?_
  unfold spec_l01Own at h
  refine swp_seq ?_
  refine swp_reg ?_
  refine SRun.ck tbok 1 ⟨6, [(0, vl (eI .i64) aList)], []⟩ ?_
  refine SRun.nil ?_
  refine nx_n ?_
  refine swp_seq ?_
  refine swp_reg ?_
  refine SRun.ck tbok 2 ⟨6, [(3, .own 3), (4, vl (eI .i64) aList)], [(3, .arr 2 1 ([] : List Int).length (([] : List Int).map (eI .i64)))]⟩ ?_
  obtain ⟨x1, hx1, h⟩ := bind_some h
  refine SRun.estep (x_append (f := (eI .i64)) (t := 32) (ti := ti32) (tj := ti2) (zs := [.int .i64 0]) (e := 2) (m := 1) (d := 3) (xv := vl (eI .i64) aList) hx1 tbok rfl rfl rfl rfl (src_e (fun _ => rfl))) ?_
  refine SRun.ck tbok 1 ⟨6, [(2, .own 5)], [(5, .arr 2 1 x1.length (x1.map (eI .i64)))]⟩ ?_
  refine SRun.nil ?_
  refine nx_n ?_
  refine swp_ret ?_
  replace h := Option.some.inj h
  subst h
  exact q_fr (fin1 (by kernel_rfl) (finO (d := 5) (holds_t (by kernel_rfl)) (by kernel_rfl) (flat_map (eI_flat .i64) _) (by kernel_rfl)))
theorem ents86 : Ents Tryd.prog 86 := ents_of Tryd.func86 (by kernel_rfl) rfl
noncomputable def spec_l32Own (aLog : (List Op)) : Option ((List Op)) :=
  (((forS (aLog.length : Int) (fun (i3 : Int) (s3 : (List Op)) => ((at' aLog i3).bind fun x7 => ((spec_l01Own x7.Seen).bind fun x8 => ((app' s3 ([(Op.mk x7.Office x7.Number x7.Key x7.Text x8)] : List Op)).bind fun x9 => some x9)))) (fun (s3 : (List Op)) => s3) 0 ([] : List Op))).bind fun (j1 : (List Op)) => some j1)
set_option maxRecDepth 100000 in
set_option maxHeartbeats 4000000 in
theorem spec_l32Own_run (aLog : (List Op)) (r : (List Op)) (h : spec_l32Own aLog = some r) : SCall Tryd.prog 63 [.v (vl eOp aLog)] ⟨[.deep 61 5 r.length [.flat, .flat, .flat, .flat, (.sl 2 1 [.flat])] (r.map eOp)], [], false⟩ := by
  refine scall_in Tryd.func63 rfl [(.tmp 2)] rfl (fun r => ⟨[.deep 61 5 r.length [.flat, .flat, .flat, .flat, (.sl 2 1 [.flat])] (r.map eOp)], [], false⟩) (r := r) ?_
  unfold spec_l32Own at h
  refine swp_seq ?_
  refine swp_reg ?_
  refine SRun.chunk tbok 1 (σ' := ⟨26, [(2, .own 2), (0, vl eOp aLog)], [(2, .arr 61 5 ([] : List Op).length (([] : List Op).map eOp))]⟩) (by kernel_rfl) ?_
  refine SRun.le (Le.deep0 (d := 2) (e := 61) (m := 5) (ss := [.flat, .flat, .flat, .flat, (.sl 2 1 [.flat])]) (by kernel_rfl) (by kernel_rfl)) ?_
  refine SRun.nil ?_
  refine nx_n ?_
  refine swp_seq ?_
  refine swp_reg ?_
  refine SRun.chunk tbok 1 (σ' := ⟨26, [(6, .own 6), (2, .own 2), (0, vl eOp aLog)], [(6, .arr 61 5 ([] : List Op).length (([] : List Op).map eOp)), (2, .deep 61 5 ([] : List Op).length [.flat, .flat, .flat, .flat, (.sl 2 1 [.flat])] (([] : List Op).map eOp))]⟩) (by kernel_rfl) ?_
  refine SRun.le (Le.deep0 (d := 6) (e := 61) (m := 5) (ss := [.flat, .flat, .flat, .flat, (.sl 2 1 [.flat])]) (by kernel_rfl) (by kernel_rfl)) ?_
  refine SRun.ck tbok 1 ⟨26, [(0, vl eOp aLog), (3, .own 6)], [(6, .deep 61 5 ([] : List Op).length [.flat, .flat, .flat, .flat, (.sl 2 1 [.flat])] (([] : List Op).map eOp))]⟩ ?_
  refine SRun.nil ?_
  refine nx_n ?_
  refine swp_seq ?_
  refine swp_seq ?_
  refine swp_reg ?_
  refine SRun.ck tbok 1 ⟨26, [(0, vl eOp aLog), (3, .own 6), (4, vi 0)], [(6, .deep 61 5 ([] : List Op).length [.flat, .flat, .flat, .flat, (.sl 2 1 [.flat])] (([] : List Op).map eOp))]⟩ ?_
  refine SRun.nil ?_
  refine nx_n ?_
  refine swp_seqJ h (fun j1 => ⟨26, [(3, .own 3)], [(3, .deep 61 5 j1.length [.flat, .flat, .flat, .flat, (.sl 2 1 [.flat])] (j1.map eOp))]⟩) (fun v2 h => ?_) (fun j1 h => ?_)
  refine swp_blk (a := v2) ?_
  refine swp_lpL (r := v2) (s := (0, ([] : List Op))) _ (fun s3 => ⟨26, [(0, vl eOp aLog), (3, .own 3), (4, vi s3.1)], [(3, .deep 61 5 s3.2.length [.flat, .flat, .flat, .flat, (.sl 2 1 [.flat])] (s3.2.map eOp))]⟩) _ ((Le.sub' ([(0, vl eOp aLog), (3, .own 6), (4, vi 0)] : List (Nat × SV)) ([(6, .deep 61 5 ([] : List Op).length [.flat, .flat, .flat, .flat, (.sl 2 1 [.flat])] (([] : List Op).map eOp))] : List (Nat × SO)) (by kernel_rfl) (by kernel_rfl)).trans ((Le.ren' (d := 6) (e := 3) (by kernel_rfl) (by kernel_rfl) (by kernel_rfl)).trans (Le.sub0))) h (fun s3 v4 h => ?_)
  refine swp_seq ?_
  refine swp_seq ?_
  refine swp_reg ?_
  refine SRun.ck tbok 4 ⟨26, [(0, vl eOp aLog), (3, .own 3), (4, vi s3.1), (10, vb (decide (s3.1 < (aLog.length : Int))))], [(3, .deep 61 5 s3.2.length [.flat, .flat, .flat, .flat, (.sl 2 1 [.flat])] (s3.2.map eOp))]⟩ ?_
  refine SRun.nil ?_
  refine nx_n ?_
  refine swp_cond (b := (decide (s3.1 < (aLog.length : Int)))) (by kernel_rfl) (fun hb => ?_) (fun hb => ?_)
  replace h := cond_t hb h
  refine swp_skip ?_
  refine nx_n ?_
  refine swp_seq ?_
  refine swp_seqJ h (fun j5 => ⟨26, [(0, vl eOp aLog), (3, .own 3), (4, vi s3.1)], [(3, .deep 61 5 j5.length [.flat, .flat, .flat, .flat, (.sl 2 1 [.flat])] (j5.map eOp))]⟩) (fun v6 h => ?_) (fun j5 h => ?_)
  refine swp_blk (a := v6) ?_
  refine swp_seq ?_
  refine swp_reg ?_
  refine SRun.ck tbok 2 ⟨26, [(0, vl eOp aLog), (3, .own 3), (4, vi s3.1), (13, vl eOp aLog), (14, vi s3.1)], [(3, .deep 61 5 s3.2.length [.flat, .flat, .flat, .flat, (.sl 2 1 [.flat])] (s3.2.map eOp))]⟩ ?_
  obtain ⟨x7, hx7, h⟩ := bind_some h
  refine SRun.ls (x_index (L := aLog) (f := eOp) (ti := ti25) (tj := ti61) (e := 61) (k := .i64) tbok rfl hx7) ?_
  refine SRun.ck tbok 2 ⟨26, [(0, vl eOp aLog), (3, .own 3), (4, vi s3.1), (5, .ref 5 0), (16, .agg [vi x7.Office, vi x7.Number, vs x7.Key, vs x7.Text, vl (eI .i64) x7.Seen])], [(3, .deep 61 5 s3.2.length [.flat, .flat, .flat, .flat, (.sl 2 1 [.flat])] (s3.2.map eOp)), (5, .box [vi 0, vi 0, vs (ByteArray.mk #[]), vs (ByteArray.mk #[]), vl (eI .i64) ([] : List Int)])]⟩ ?_
  refine SRun.estep (x_estep_store (d := 5) (k := 0) (ti := ti61) (cs := [vi 0, vi 0, vs (ByteArray.mk #[]), vs (ByteArray.mk #[]), vl (eI .i64) ([] : List Int)]) (vs := [vi x7.Office, vi x7.Number, vs x7.Key, vs x7.Text, vl (eI .i64) x7.Seen]) (v := .agg [vi x7.Office, vi x7.Number, vs x7.Key, vs x7.Text, vl (eI .i64) x7.Seen]) tbok rfl rfl) ?_
  refine SRun.nil ?_
  refine nx_n ?_
  refine swp_seq ?_
  refine swp_reg ?_
  refine SRun.ck tbok 2 ⟨26, [(0, vl eOp aLog), (3, .own 3), (4, vi s3.1), (5, .ref 5 0), (18, vl (eI .i64) x7.Seen)], [(3, .deep 61 5 s3.2.length [.flat, .flat, .flat, .flat, (.sl 2 1 [.flat])] (s3.2.map eOp)), (5, .box [vi x7.Office, vi x7.Number, vs x7.Key, vs x7.Text, vl (eI .i64) x7.Seen])]⟩ ?_
  obtain ⟨x8, hx8, h⟩ := bind_some h
  refine SRun.ls (x_lstep_call (f := 86) (caps := []) (xs := [vl (eI .i64) x7.Seen]) (ys := [vl (eI .i64) x7.Seen]) (res := ⟨[.own 2 1 x8.length (x8.map (eI .i64))], [], false⟩) (x := .own 19) (y := some (.arr 2 1 x8.length (x8.map (eI .i64)))) rfl ents86 (spec_l01Own_run x7.Seen _ hx8) rfl (by intro hc; cases hc)) ?_
  refine SRun.ck tbok 1 ⟨26, [(0, vl eOp aLog), (3, .own 3), (4, vi s3.1), (5, .ref 5 0), (19, .own 19), (20, .ref 5 4)], [(3, .deep 61 5 s3.2.length [.flat, .flat, .flat, .flat, (.sl 2 1 [.flat])] (s3.2.map eOp)), (5, .box [vi x7.Office, vi x7.Number, vs x7.Key, vs x7.Text, vl (eI .i64) x7.Seen]), (19, .arr 2 1 x8.length (x8.map (eI .i64)))]⟩ ?_
  refine SRun.estep (x_estep_store (d := 5) (k := 4) (ti := ti32) (cs := [vi x7.Office, vi x7.Number, vs x7.Key, vs x7.Text, vl (eI .i64) x7.Seen]) (vs := [.own 19]) (v := .own 19) tbok rfl rfl) ?_
  refine SRun.nil ?_
  refine nx_n ?_
  refine swp_reg ?_
  refine SRun.ck tbok 2 ⟨26, [(0, vl eOp aLog), (4, vi s3.1), (21, .own 3), (22, .agg [vi x7.Office, vi x7.Number, vs x7.Key, vs x7.Text, .own 19])], [(3, .deep 61 5 s3.2.length [.flat, .flat, .flat, .flat, (.sl 2 1 [.flat])] (s3.2.map eOp)), (19, .arr 2 1 x8.length (x8.map (eI .i64)))]⟩ ?_
  refine SRun.estep (x_build_deep (ti := ti25) (tj := ti61) (e := 61) (m := 5) (zs := [.int .i64 0, .int .i64 0, .string (ByteArray.mk #[]), .string (ByteArray.mk #[]), .slice none 0 0]) (v := .agg [vi x7.Office, vi x7.Number, vs x7.Key, vs x7.Text, .own 19]) (cs := [vi x7.Office, vi x7.Number, vs x7.Key, vs x7.Text, .own 19]) (ss := [.flat, .flat, .flat, .flat, (.sl 2 1 [.flat])]) (ts := [.int .i64 x7.Office, .int .i64 x7.Number, .str x7.Key, .str x7.Text, .sl x8.length (x8.map (eI .i64))]) (ds := [19]) tbok rfl rfl rfl (.cons _ _ _ [] _ _ _ _ (.flat (.int .i64 x7.Office) rfl) (.cons _ _ _ [] _ _ _ _ (.flat (.int .i64 x7.Number) rfl) (.cons _ _ _ [] _ _ _ _ (.flat (.str x7.Key) rfl) (.cons _ _ _ [] _ _ _ _ (.flat (.str x7.Text) rfl) (.cons _ _ _ [19] _ _ _ _ (cD_arr (d := 19) (e := 2) (m := 1) (n := x8.length) (es := x8.map (eI .i64)) (ss := [.flat]) (flat_map (eI_flat .i64) _)) .nil (by decide)) (by decide)) (by decide)) (by decide)) (by decide))) ?_
  obtain ⟨x9, hx9, h⟩ := bind_some h
  refine SRun.estep (x_append_deep (f := eOp) (L := s3.2) (M := ([(Op.mk x7.Office x7.Number x7.Key x7.Text x8)] : List Op)) (t := 25) (ti := ti25) (tj := ti61) (zs := [.int .i64 0, .int .i64 0, .string (ByteArray.mk #[]), .string (ByteArray.mk #[]), .slice none 0 0]) (e := 61) (m := 5) (d := 3) (dx := 23) (ss := [.flat, .flat, .flat, .flat, (.sl 2 1 [.flat])]) hx9 tbok rfl rfl rfl rfl) ?_
  refine SRun.ck tbok 1 ⟨26, [(0, vl eOp aLog), (3, .own 24), (4, vi s3.1)], [(24, .deep 61 5 x9.length [.flat, .flat, .flat, .flat, (.sl 2 1 [.flat])] (x9.map eOp))]⟩ ?_
  refine SRun.nil ?_
  replace h := Option.some.inj h
  subst h
  exact q_bn (q_j ((Le.sub' ([(0, vl eOp aLog), (3, .own 24), (4, vi s3.1)] : List (Nat × SV)) ([(24, .deep 61 5 x9.length [.flat, .flat, .flat, .flat, (.sl 2 1 [.flat])] (x9.map eOp))] : List (Nat × SO)) (by kernel_rfl) (by kernel_rfl)).trans ((Le.ren' (d := 24) (e := 3) (by kernel_rfl) (by kernel_rfl) (by kernel_rfl)).trans (Le.sub0))))
  refine swp_reg ?_
  refine SRun.ck tbok 3 ⟨26, [(0, vl eOp aLog), (3, .own 3), (4, vi (w64 (s3.1 + 1)))], [(3, .deep 61 5 j5.length [.flat, .flat, .flat, .flat, (.sl 2 1 [.flat])] (j5.map eOp))]⟩ ?_
  refine SRun.nil ?_
  replace h := Option.some.inj h
  subst h
  exact q_l (Le.sub0)
  replace h := cond_f hb h
  refine swp_exit ?_
  replace h := Option.some.inj h
  subst h
  exact nx_e (q_re (q_bh (q_j (Le.sub0))))
  refine swp_seq ?_
  refine swp_reg ?_
  refine SRun.ck tbok 2 ⟨26, [(2, .own 3)], [(3, .deep 61 5 j1.length [.flat, .flat, .flat, .flat, (.sl 2 1 [.flat])] (j1.map eOp))]⟩ ?_
  refine SRun.nil ?_
  refine nx_n ?_
  refine swp_ret ?_
  replace h := Option.some.inj h
  subst h
  exact q_fr (fin1 (by kernel_rfl) (finD (d := 3) (holds_t (by kernel_rfl)) (by kernel_rfl) (by kernel_rfl)))
theorem ents63 : Ents Tryd.prog 63 := ents_of Tryd.func63 (by kernel_rfl) rfl
noncomputable def spec_MakeOp (aLog : (List Op)) (aOffice : Int) (aKey : ByteArray) (aText : ByteArray) : Option ((List Op) × Int) :=
  ((((spec_IsLog aLog).bind fun x1 => (bif (!x1) then some true else ((spec_l01In aOffice 0 3).bind fun x2 => (bif (!x2) then some true else ((spec_IsWord aKey).bind fun x3 => (bif (!x3) then some true else ((spec_IsPhrase aText).bind fun x4 => some (!x4))))))))).bind fun (j5 : Bool) => (bif j5 then some (([] : List Op), 1) else (bif ((aLog.length : Int) == 16) then some (([] : List Op), 3) else ((spec_l32Count aLog).bind fun x7 => ((at' x7 aOffice).bind fun x8 => ((app' ([] : List Op) aLog).bind fun x9 => ((app' x9 ([(Op.mk aOffice (w64 (x8 + 1)) aKey aText x7)] : List Op)).bind fun x10 => ((spec_l32Own x10).bind fun x11 => some (x11, 0)))))))))
set_option maxRecDepth 100000 in
set_option maxHeartbeats 4000000 in
theorem spec_MakeOp_run (aLog : (List Op)) (aOffice : Int) (aKey : ByteArray) (aText : ByteArray) (r : (List Op) × Int) (h : spec_MakeOp aLog aOffice aKey aText = some r) : SCall Tryd.prog 32 [.v (vl eOp aLog), .v (vi aOffice), .v (vs aKey), .v (vs aText)] ⟨[.deep 61 5 r.1.length [.flat, .flat, .flat, .flat, (.sl 2 1 [.flat])] (r.1.map eOp), .v (vi r.2)], [], false⟩ := by
  refine scall_in Tryd.func32 rfl [(.tmp 8), (.tmp 9)] rfl (fun r => ⟨[.deep 61 5 r.1.length [.flat, .flat, .flat, .flat, (.sl 2 1 [.flat])] (r.1.map eOp), .v (vi r.2)], [], false⟩) (r := r) ?_
  unfold spec_MakeOp at h
  refine swp_seq ?_
  refine swp_reg ?_
  refine SRun.ck tbok 2 ⟨52, [(0, vl eOp aLog), (1, vi aOffice), (2, vs aKey), (3, vs aText)], []⟩ ?_
  refine SRun.nil ?_
  refine nx_n ?_
  refine swp_seq ?_
  refine swp_seq ?_
  refine swp_regJ h (fun j5 => ⟨52, [(0, vl eOp aLog), (1, vi aOffice), (2, vs aKey), (3, vs aText), (29, vb j5)], []⟩) (fun v6 h => ?_) (fun j5 h => ?_)
  refine SRun.ck tbok 1 ⟨52, [(0, vl eOp aLog), (1, vi aOffice), (2, vs aKey), (3, vs aText), (12, vl eOp aLog)], []⟩ ?_
  obtain ⟨x1, hx1, h⟩ := bind_some h
  refine SRun.ls (x_lstep_call (f := 13) (caps := []) (xs := [vl eOp aLog]) (ys := [vl eOp aLog]) (res := ⟨[.v (vb x1)], [], false⟩) (x := vb x1) (y := none) rfl ents13 (spec_IsLog_run aLog _ hx1) rfl (by intro hc; cases hc)) ?_
  refine SRun.ck tbok 2 ⟨52, [(0, vl eOp aLog), (1, vi aOffice), (2, vs aKey), (3, vs aText), (15, vb (!x1))], []⟩ ?_
  refine SRun.cut [(15, fun b => b)] (b := (!x1)) (by kernel_rfl) (fun hb => ?_) (fun hb => ?_)
  replace h := cond_t hb h
  refine SRun.ck tbok 14 ⟨52, [(0, vl eOp aLog), (1, vi aOffice), (2, vs aKey), (3, vs aText), (29, vb true)], []⟩ ?_
  refine SRun.nil ?_
  replace h := Option.some.inj h
  subst h
  exact Le.sub0
  replace h := cond_f hb h
  refine SRun.ck tbok 1 ⟨52, [(0, vl eOp aLog), (1, vi aOffice), (2, vs aKey), (3, vs aText), (15, vb false), (16, vi aOffice)], []⟩ ?_
  obtain ⟨x2, hx2, h⟩ := bind_some h
  refine SRun.ls (x_lstep_call (f := 44) (caps := []) (xs := [vi aOffice, vi 0, vi 3]) (ys := [vi aOffice, vi 0, vi 3]) (res := ⟨[.v (vb x2)], [], false⟩) (x := vb x2) (y := none) rfl ents44 (spec_l01In_run aOffice 0 3 _ hx2) rfl (by intro hc; cases hc)) ?_
  refine SRun.ck tbok 3 ⟨52, [(0, vl eOp aLog), (1, vi aOffice), (2, vs aKey), (3, vs aText), (20, vb (!x2))], []⟩ ?_
  refine SRun.cut [(20, fun b => b)] (b := (!x2)) (by kernel_rfl) (fun hb => ?_) (fun hb => ?_)
  replace h := cond_t hb h
  refine SRun.ck tbok 9 ⟨52, [(0, vl eOp aLog), (1, vi aOffice), (2, vs aKey), (3, vs aText), (29, vb true)], []⟩ ?_
  refine SRun.nil ?_
  replace h := Option.some.inj h
  subst h
  exact Le.sub0
  replace h := cond_f hb h
  refine SRun.ck tbok 1 ⟨52, [(0, vl eOp aLog), (1, vi aOffice), (2, vs aKey), (3, vs aText), (20, vb false), (21, vs aKey)], []⟩ ?_
  obtain ⟨x3, hx3, h⟩ := bind_some h
  refine SRun.ls (x_lstep_call (f := 45) (caps := []) (xs := [vs aKey]) (ys := [vs aKey]) (res := ⟨[.v (vb x3)], [], false⟩) (x := vb x3) (y := none) rfl ents45 (spec_IsWord_run aKey _ hx3) rfl (by intro hc; cases hc)) ?_
  refine SRun.ck tbok 3 ⟨52, [(0, vl eOp aLog), (1, vi aOffice), (2, vs aKey), (3, vs aText), (25, vb (!x3))], []⟩ ?_
  refine SRun.cut [(25, fun b => b)] (b := (!x3)) (by kernel_rfl) (fun hb => ?_) (fun hb => ?_)
  replace h := cond_t hb h
  refine SRun.ck tbok 4 ⟨52, [(0, vl eOp aLog), (1, vi aOffice), (2, vs aKey), (3, vs aText), (29, vb true)], []⟩ ?_
  refine SRun.nil ?_
  replace h := Option.some.inj h
  subst h
  exact Le.sub0
  replace h := cond_f hb h
  refine SRun.ck tbok 1 ⟨52, [(0, vl eOp aLog), (1, vi aOffice), (2, vs aKey), (3, vs aText), (25, vb false), (26, vs aText)], []⟩ ?_
  obtain ⟨x4, hx4, h⟩ := bind_some h
  refine SRun.ls (x_lstep_call (f := 46) (caps := []) (xs := [vs aText]) (ys := [vs aText]) (res := ⟨[.v (vb x4)], [], false⟩) (x := vb x4) (y := none) rfl ents46 (spec_IsPhrase_run aText _ hx4) rfl (by intro hc; cases hc)) ?_
  refine SRun.ck tbok 2 ⟨52, [(0, vl eOp aLog), (1, vi aOffice), (2, vs aKey), (3, vs aText), (29, vb (!x4))], []⟩ ?_
  refine SRun.nil ?_
  replace h := Option.some.inj h
  subst h
  exact Le.sub0
  refine swp_cond (b := j5) (by kernel_rfl) (fun hb => ?_) (fun hb => ?_)
  replace h := cond_t hb h
  refine swp_seq ?_
  refine swp_reg ?_
  refine SRun.ck tbok 2 ⟨52, [(8, .own 8), (9, vi 1)], [(8, .arr 61 5 ([] : List Op).length (([] : List Op).map eOp))]⟩ ?_
  refine SRun.nil ?_
  refine nx_n ?_
  refine swp_le (Le.deep0 (d := 8) (e := 61) (m := 5) (ss := [.flat, .flat, .flat, .flat, (.sl 2 1 [.flat])]) (by kernel_rfl) (by kernel_rfl)) ?_
  refine swp_ret ?_
  replace h := Option.some.inj h
  subst h
  exact nx_r (q_fr (fin2 (by kernel_rfl) (finD (d := 8) (holds_t (by kernel_rfl)) (by kernel_rfl) (by kernel_rfl)) (finV rfl SV.flat_of (holds_t (by kernel_rfl)))))
  replace h := cond_f hb h
  refine swp_skip ?_
  refine nx_n ?_
  refine swp_seq ?_
  refine swp_seq ?_
  refine swp_reg ?_
  refine SRun.ck tbok 3 ⟨52, [(0, vl eOp aLog), (1, vi aOffice), (2, vs aKey), (3, vs aText), (32, vb ((aLog.length : Int) == 16))], []⟩ ?_
  refine SRun.nil ?_
  refine nx_n ?_
  refine swp_cond (b := ((aLog.length : Int) == 16)) (by kernel_rfl) (fun hb => ?_) (fun hb => ?_)
  replace h := cond_t hb h
  refine swp_seq ?_
  refine swp_reg ?_
  refine SRun.ck tbok 2 ⟨52, [(8, .own 8), (9, vi 3)], [(8, .arr 61 5 ([] : List Op).length (([] : List Op).map eOp))]⟩ ?_
  refine SRun.nil ?_
  refine nx_n ?_
  refine swp_le (Le.deep0 (d := 8) (e := 61) (m := 5) (ss := [.flat, .flat, .flat, .flat, (.sl 2 1 [.flat])]) (by kernel_rfl) (by kernel_rfl)) ?_
  refine swp_ret ?_
  replace h := Option.some.inj h
  subst h
  exact nx_r (q_fr (fin2 (by kernel_rfl) (finD (d := 8) (holds_t (by kernel_rfl)) (by kernel_rfl) (by kernel_rfl)) (finV rfl SV.flat_of (holds_t (by kernel_rfl)))))
  replace h := cond_f hb h
  refine swp_skip ?_
  refine nx_n ?_
  refine swp_seq ?_
  refine swp_reg ?_
  refine SRun.ck tbok 1 ⟨52, [(0, vl eOp aLog), (1, vi aOffice), (2, vs aKey), (3, vs aText), (33, vl eOp aLog)], []⟩ ?_
  obtain ⟨x7, hx7, h⟩ := bind_some h
  refine SRun.ls (x_lstep_call (f := 56) (caps := []) (xs := [vl eOp aLog]) (ys := [vl eOp aLog]) (res := ⟨[.own 2 1 x7.length (x7.map (eI .i64))], [], false⟩) (x := .own 34) (y := some (.arr 2 1 x7.length (x7.map (eI .i64)))) rfl ents56 (spec_l32Count_run aLog _ hx7) rfl (by intro hc; cases hc)) ?_
  refine SRun.ck tbok 1 ⟨52, [(0, vl eOp aLog), (1, vi aOffice), (2, vs aKey), (3, vs aText), (10, .own 34)], [(34, .arr 2 1 x7.length (x7.map (eI .i64)))]⟩ ?_
  refine SRun.nil ?_
  refine nx_n ?_
  refine swp_seq ?_
  refine swp_reg ?_
  refine SRun.ck tbok 3 ⟨52, [(0, vl eOp aLog), (2, vs aKey), (3, vs aText), (10, .own 34), (35, vi aOffice), (36, .own 34), (37, vi aOffice)], [(34, .arr 2 1 x7.length (x7.map (eI .i64)))]⟩ ?_
  obtain ⟨x8, hx8, h⟩ := bind_some h
  refine SRun.ls (x_index_own (d := 34) (L := x7) (f := (eI .i64)) (ti := ti32) (tj := ti2) (e := 2) (e' := 2) (m := 1) (k := .i64) tbok rfl hx8) ?_
  refine SRun.ls (x_load_own (d := 34) (m := 1) (j := 0) (L := x7) (f := (eI .i64)) (ti := ti2) (e := 2) (v := vi x8) tbok rfl hx8) ?_
  refine SRun.ck tbok 4 ⟨52, [(0, vl eOp aLog), (35, vi aOffice), (40, vi (w64 (x8 + 1))), (41, vs aKey), (42, vs aText), (43, .own 34)], [(34, .arr 2 1 x7.length (x7.map (eI .i64)))]⟩ ?_
  refine SRun.ls (x_lstep_build (v := .agg [vi aOffice, vi (w64 (x8 + 1)), vs aKey, vs aText, .own 34]) tbok rfl) ?_
  refine SRun.ck tbok 1 ⟨52, [(0, vl eOp aLog), (11, .ref 11 0), (44, .agg [vi aOffice, vi (w64 (x8 + 1)), vs aKey, vs aText, .own 34])], [(11, .box [vi 0, vi 0, vs (ByteArray.mk #[]), vs (ByteArray.mk #[]), vl (eI .i64) ([] : List Int)]), (34, .arr 2 1 x7.length (x7.map (eI .i64)))]⟩ ?_
  refine SRun.estep (x_estep_store (d := 11) (k := 0) (ti := ti61) (cs := [vi 0, vi 0, vs (ByteArray.mk #[]), vs (ByteArray.mk #[]), vl (eI .i64) ([] : List Int)]) (vs := [vi aOffice, vi (w64 (x8 + 1)), vs aKey, vs aText, .own 34]) (v := .agg [vi aOffice, vi (w64 (x8 + 1)), vs aKey, vs aText, .own 34]) tbok rfl rfl) ?_
  refine SRun.nil ?_
  refine nx_n ?_
  refine swp_seq ?_
  refine swp_le (Le.frz' (d := 34) (e := 2) (m := 1) (n := x7.length) (es := x7.map (eI .i64)) (by kernel_rfl) (by kernel_rfl)) ?_
  obtain ⟨x9, hx9, h⟩ := bind_some h
  obtain ⟨x10, hx10, h⟩ := bind_some h
  obtain ⟨x11, hx11, h⟩ := bind_some h
  refine swp_dr mixed ?_
  refine DGo.enum (σE := ⟨52, [(8, .own 51), (9, vi 0)], [(51, .deep 61 5 x11.length [.flat, .flat, .flat, .flat, (.sl 2 1 [.flat])] (x11.map eOp))]⟩) (n := 9) (L0 := #[false, false, false, false, false, false, false, false, false]) (by kernel_rfl) (by kernel_rfl) (fun K hk => ?_) ?_
  refine DE.share (fuel := 0) (L := #[true, true, true, true, true, true, true, true, true]) (σ := ⟨52, [(8, .own 51), (9, vi 0)], [(51, .deep 61 5 x11.length [.flat, .flat, .flat, .flat, (.sl 2 1 [.flat])] (x11.map eOp))]⟩) ?_ (fun d13 => ?_)
  exact DE.done (by kernel_rfl) hk
  refine DE.share (fuel := 1) (L := #[true, true, true, true, true, true, true, true, false]) (σ := ⟨52, [(8, .own 51)], [(51, .deep 61 5 x11.length [.flat, .flat, .flat, .flat, (.sl 2 1 [.flat])] (x11.map eOp))]⟩) ?_ (fun d12 => ?_)
  exact DE.take (i := 8) (L' := #[true, true, true, true, true, true, true, true, true]) rfl (.inr rfl) rfl (by kernel_rfl) (by kernel_rfl) (by kernel_rfl) (EStep.le (EStep.ofN2 tbok (σ' := ⟨52, [(9, vi 0), (8, .own 51)], [(51, .deep 61 5 x11.length [.flat, .flat, .flat, .flat, (.sl 2 1 [.flat])] (x11.map eOp))]⟩) (by kernel_rfl)) Le.sub0) (by kernel_rfl) d13
  refine DE.share (fuel := 2) (L := #[true, true, true, true, true, true, true, false, false]) (σ := ⟨52, [(51, .own 51)], [(51, .deep 61 5 x11.length [.flat, .flat, .flat, .flat, (.sl 2 1 [.flat])] (x11.map eOp))]⟩) ?_ (fun d11 => ?_)
  exact DE.take (i := 7) (L' := #[true, true, true, true, true, true, true, true, false]) rfl (.inr rfl) rfl (by kernel_rfl) (by kernel_rfl) (by kernel_rfl) (EStep.le (EStep.ofN2 tbok (σ' := ⟨52, [(8, .own 51), (51, .own 51)], [(51, .deep 61 5 x11.length [.flat, .flat, .flat, .flat, (.sl 2 1 [.flat])] (x11.map eOp))]⟩) (by kernel_rfl)) Le.sub0) (by kernel_rfl) d12
  refine DE.share (fuel := 3) (L := #[true, true, true, true, true, true, false, false, false]) (σ := ⟨52, [(50, .own 50)], [(50, .arr 61 5 x10.length (x10.map eOp))]⟩) ?_ (fun d10 => ?_)
  exact DE.all [6] (by kernel_rfl) (by simp) (List.forall_mem_cons.2 ⟨DEs.mk (i := 6) (L' := #[true, true, true, true, true, true, true, false, false]) rfl (EStep.le (EStep.ofL (x_lstep_call (f := 63) (caps := []) (xs := [.own 50]) (ys := [vl eOp x10]) (res := ⟨[.deep 61 5 x11.length [.flat, .flat, .flat, .flat, (.sl 2 1 [.flat])] (x11.map eOp)], [], false⟩) (x := .own 51) (y := some (.deep 61 5 x11.length [.flat, .flat, .flat, .flat, (.sl 2 1 [.flat])] (x11.map eOp))) rfl ents63 (spec_l32Own_run x10 _ hx11) rfl (by intro hc; cases hc)) (by kernel_rfl)) Le.sub0) (by kernel_rfl) d11, (fun _ h => absurd h List.not_mem_nil)⟩)
  refine DE.share (fuel := 4) (L := #[true, true, true, true, true, false, false, false, false]) (σ := ⟨52, [(47, .own 47), (49, .own 49)], [(47, .arr 61 5 x9.length (x9.map eOp)), (49, .arr 61 5 ([(Op.mk aOffice (w64 (x8 + 1)) aKey aText x7)] : List Op).length (([(Op.mk aOffice (w64 (x8 + 1)) aKey aText x7)] : List Op).map eOp))]⟩) ?_ (fun d9 => ?_)
  exact DE.all [5] (by kernel_rfl) (by simp) (List.forall_mem_cons.2 ⟨DEs.mk (i := 5) (L' := #[true, true, true, true, true, true, false, false, false]) rfl (EStep.le (x_append (f := eOp) (t := 25) (ti := ti25) (tj := ti61) (zs := [.int .i64 0, .int .i64 0, .string (ByteArray.mk #[]), .string (ByteArray.mk #[]), .slice none 0 0]) (e := 61) (m := 5) (d := 47) (xv := .own 49) hx10 tbok rfl rfl rfl rfl (x_src_o (e := 61))) Le.sub0) (by kernel_rfl) d10, (fun _ h => absurd h List.not_mem_nil)⟩)
  refine DE.share (fuel := 5) (L := #[true, true, false, true, true, false, false, false, false]) (σ := ⟨52, [(45, .own 45), (46, vl eOp aLog), (49, .own 49)], [(45, .arr 61 5 ([] : List Op).length (([] : List Op).map eOp)), (49, .arr 61 5 ([(Op.mk aOffice (w64 (x8 + 1)) aKey aText x7)] : List Op).length (([(Op.mk aOffice (w64 (x8 + 1)) aKey aText x7)] : List Op).map eOp))]⟩) ?_ (fun d8 => ?_)
  exact DE.all [2] (by kernel_rfl) (by simp) (List.forall_mem_cons.2 ⟨DEs.mk (i := 2) (L' := #[true, true, true, true, true, false, false, false, false]) rfl (EStep.le (x_append (f := eOp) (t := 25) (ti := ti25) (tj := ti61) (zs := [.int .i64 0, .int .i64 0, .string (ByteArray.mk #[]), .string (ByteArray.mk #[]), .slice none 0 0]) (e := 61) (m := 5) (d := 45) (xv := vl eOp aLog) hx9 tbok rfl rfl rfl rfl (src_e (fun _ => rfl))) Le.sub0) (by kernel_rfl) d9, (fun _ h => absurd h List.not_mem_nil)⟩)
  refine DE.share (fuel := 5) (L := #[true, true, true, true, false, false, false, false, false]) (σ := ⟨52, [(47, .own 47), (48, .agg [vi aOffice, vi (w64 (x8 + 1)), vs aKey, vs aText, vl (eI .i64) x7])], [(47, .arr 61 5 x9.length (x9.map eOp))]⟩) ?_ (fun d7 => ?_)
  exact DE.all [4] (by kernel_rfl) (by simp) (List.forall_mem_cons.2 ⟨DEs.mk (i := 4) (L' := #[true, true, true, true, true, false, false, false, false]) rfl (EStep.le (EStep.ofN2 tbok (σ' := ⟨52, [(49, .own 49), (47, .own 47), (48, .agg [vi aOffice, vi (w64 (x8 + 1)), vs aKey, vs aText, vl (eI .i64) x7])], [(49, .arr 61 5 ([(Op.mk aOffice (w64 (x8 + 1)) aKey aText x7)] : List Op).length (([(Op.mk aOffice (w64 (x8 + 1)) aKey aText x7)] : List Op).map eOp)), (47, .arr 61 5 x9.length (x9.map eOp))]⟩) (by kernel_rfl)) Le.sub0) (by kernel_rfl) d9, (fun _ h => absurd h List.not_mem_nil)⟩)
  refine DE.share (fuel := 6) (L := #[false, true, false, true, true, false, false, false, false]) (σ := ⟨52, [(46, vl eOp aLog), (49, .own 49)], [(49, .arr 61 5 ([(Op.mk aOffice (w64 (x8 + 1)) aKey aText x7)] : List Op).length (([(Op.mk aOffice (w64 (x8 + 1)) aKey aText x7)] : List Op).map eOp))]⟩) ?_ (fun d6 => ?_)
  exact DE.all [0] (by kernel_rfl) (by simp) (List.forall_mem_cons.2 ⟨DEs.mk (i := 0) (L' := #[true, true, false, true, true, false, false, false, false]) rfl (EStep.ofN2 tbok (σ' := ⟨52, [(45, .own 45), (46, vl eOp aLog), (49, .own 49)], [(45, .arr 61 5 ([] : List Op).length (([] : List Op).map eOp)), (49, .arr 61 5 ([(Op.mk aOffice (w64 (x8 + 1)) aKey aText x7)] : List Op).length (([(Op.mk aOffice (w64 (x8 + 1)) aKey aText x7)] : List Op).map eOp))]⟩) (by kernel_rfl)) (by kernel_rfl) d8, (fun _ h => absurd h List.not_mem_nil)⟩)
  refine DE.share (fuel := 6) (L := #[true, true, false, true, false, false, false, false, false]) (σ := ⟨52, [(45, .own 45), (46, vl eOp aLog), (48, .agg [vi aOffice, vi (w64 (x8 + 1)), vs aKey, vs aText, vl (eI .i64) x7])], [(45, .arr 61 5 ([] : List Op).length (([] : List Op).map eOp))]⟩) ?_ (fun d5 => ?_)
  exact DE.all [2, 4] (by kernel_rfl) (by simp) (List.forall_mem_cons.2 ⟨DEs.mk (i := 2) (L' := #[true, true, true, true, false, false, false, false, false]) rfl (EStep.le (x_append (f := eOp) (t := 25) (ti := ti25) (tj := ti61) (zs := [.int .i64 0, .int .i64 0, .string (ByteArray.mk #[]), .string (ByteArray.mk #[]), .slice none 0 0]) (e := 61) (m := 5) (d := 45) (xv := vl eOp aLog) hx9 tbok rfl rfl rfl rfl (src_e (fun _ => rfl))) Le.sub0) (by kernel_rfl) d7, (List.forall_mem_cons.2 ⟨DEs.mk (i := 4) (L' := #[true, true, false, true, true, false, false, false, false]) rfl (EStep.le (EStep.ofN2 tbok (σ' := ⟨52, [(49, .own 49), (45, .own 45), (46, vl eOp aLog), (48, .agg [vi aOffice, vi (w64 (x8 + 1)), vs aKey, vs aText, vl (eI .i64) x7])], [(49, .arr 61 5 ([(Op.mk aOffice (w64 (x8 + 1)) aKey aText x7)] : List Op).length (([(Op.mk aOffice (w64 (x8 + 1)) aKey aText x7)] : List Op).map eOp)), (45, .arr 61 5 ([] : List Op).length (([] : List Op).map eOp))]⟩) (by kernel_rfl)) Le.sub0) (by kernel_rfl) d8, (fun _ h => absurd h List.not_mem_nil)⟩)⟩)
  refine DE.share (fuel := 6) (L := #[true, true, true, false, false, false, false, false, false]) (σ := ⟨52, [(11, .ref 11 0), (47, .own 47)], [(11, .box [vi aOffice, vi (w64 (x8 + 1)), vs aKey, vs aText, vl (eI .i64) x7]), (47, .arr 61 5 x9.length (x9.map eOp))]⟩) ?_ (fun d4 => ?_)
  exact DE.all [3] (by kernel_rfl) (by simp) (List.forall_mem_cons.2 ⟨DEs.mk (i := 3) (L' := #[true, true, true, true, false, false, false, false, false]) rfl (EStep.le (EStep.ofN2 tbok (σ' := ⟨52, [(48, .agg [vi aOffice, vi (w64 (x8 + 1)), vs aKey, vs aText, vl (eI .i64) x7]), (11, .ref 11 0), (47, .own 47)], [(11, .box [vi aOffice, vi (w64 (x8 + 1)), vs aKey, vs aText, vl (eI .i64) x7]), (47, .arr 61 5 x9.length (x9.map eOp))]⟩) (by kernel_rfl)) Le.sub0) (by kernel_rfl) d7, (fun _ h => absurd h List.not_mem_nil)⟩)
  refine DE.share (fuel := 7) (L := #[false, true, false, true, false, false, false, false, false]) (σ := ⟨52, [(46, vl eOp aLog), (48, .agg [vi aOffice, vi (w64 (x8 + 1)), vs aKey, vs aText, vl (eI .i64) x7])], []⟩) ?_ (fun d3 => ?_)
  exact DE.all [0, 4] (by kernel_rfl) (by simp) (List.forall_mem_cons.2 ⟨DEs.mk (i := 0) (L' := #[true, true, false, true, false, false, false, false, false]) rfl (EStep.ofN2 tbok (σ' := ⟨52, [(45, .own 45), (46, vl eOp aLog), (48, .agg [vi aOffice, vi (w64 (x8 + 1)), vs aKey, vs aText, vl (eI .i64) x7])], [(45, .arr 61 5 ([] : List Op).length (([] : List Op).map eOp))]⟩) (by kernel_rfl)) (by kernel_rfl) d5, (List.forall_mem_cons.2 ⟨DEs.mk (i := 4) (L' := #[false, true, false, true, true, false, false, false, false]) rfl (EStep.le (EStep.ofN2 tbok (σ' := ⟨52, [(49, .own 49), (46, vl eOp aLog), (48, .agg [vi aOffice, vi (w64 (x8 + 1)), vs aKey, vs aText, vl (eI .i64) x7])], [(49, .arr 61 5 ([(Op.mk aOffice (w64 (x8 + 1)) aKey aText x7)] : List Op).length (([(Op.mk aOffice (w64 (x8 + 1)) aKey aText x7)] : List Op).map eOp))]⟩) (by kernel_rfl)) Le.sub0) (by kernel_rfl) d6, (fun _ h => absurd h List.not_mem_nil)⟩)⟩)
  refine DE.share (fuel := 7) (L := #[true, true, false, false, false, false, false, false, false]) (σ := ⟨52, [(11, .ref 11 0), (45, .own 45), (46, vl eOp aLog)], [(11, .box [vi aOffice, vi (w64 (x8 + 1)), vs aKey, vs aText, vl (eI .i64) x7]), (45, .arr 61 5 ([] : List Op).length (([] : List Op).map eOp))]⟩) ?_ (fun d2 => ?_)
  exact DE.all [2, 3] (by kernel_rfl) (by simp) (List.forall_mem_cons.2 ⟨DEs.mk (i := 2) (L' := #[true, true, true, false, false, false, false, false, false]) rfl (EStep.le (x_append (f := eOp) (t := 25) (ti := ti25) (tj := ti61) (zs := [.int .i64 0, .int .i64 0, .string (ByteArray.mk #[]), .string (ByteArray.mk #[]), .slice none 0 0]) (e := 61) (m := 5) (d := 45) (xv := vl eOp aLog) hx9 tbok rfl rfl rfl rfl (src_e (fun _ => rfl))) Le.sub0) (by kernel_rfl) d4, (List.forall_mem_cons.2 ⟨DEs.mk (i := 3) (L' := #[true, true, false, true, false, false, false, false, false]) rfl (EStep.le (EStep.ofN2 tbok (σ' := ⟨52, [(48, .agg [vi aOffice, vi (w64 (x8 + 1)), vs aKey, vs aText, vl (eI .i64) x7]), (11, .ref 11 0), (45, .own 45), (46, vl eOp aLog)], [(11, .box [vi aOffice, vi (w64 (x8 + 1)), vs aKey, vs aText, vl (eI .i64) x7]), (45, .arr 61 5 ([] : List Op).length (([] : List Op).map eOp))]⟩) (by kernel_rfl)) Le.sub0) (by kernel_rfl) d5, (fun _ h => absurd h List.not_mem_nil)⟩)⟩)
  refine DE.share (fuel := 8) (L := #[false, true, false, false, false, false, false, false, false]) (σ := ⟨52, [(11, .ref 11 0), (46, vl eOp aLog)], [(11, .box [vi aOffice, vi (w64 (x8 + 1)), vs aKey, vs aText, vl (eI .i64) x7])]⟩) ?_ (fun d1 => ?_)
  exact DE.all [0, 3] (by kernel_rfl) (by simp) (List.forall_mem_cons.2 ⟨DEs.mk (i := 0) (L' := #[true, true, false, false, false, false, false, false, false]) rfl (EStep.le (EStep.ofN2 tbok (σ' := ⟨52, [(45, .own 45), (11, .ref 11 0), (46, vl eOp aLog)], [(45, .arr 61 5 ([] : List Op).length (([] : List Op).map eOp)), (11, .box [vi aOffice, vi (w64 (x8 + 1)), vs aKey, vs aText, vl (eI .i64) x7])]⟩) (by kernel_rfl)) Le.sub0) (by kernel_rfl) d2, (List.forall_mem_cons.2 ⟨DEs.mk (i := 3) (L' := #[false, true, false, true, false, false, false, false, false]) rfl (EStep.le (EStep.ofN2 tbok (σ' := ⟨52, [(48, .agg [vi aOffice, vi (w64 (x8 + 1)), vs aKey, vs aText, vl (eI .i64) x7]), (11, .ref 11 0), (46, vl eOp aLog)], [(11, .box [vi aOffice, vi (w64 (x8 + 1)), vs aKey, vs aText, vl (eI .i64) x7])]⟩) (by kernel_rfl)) Le.sub0) (by kernel_rfl) d3, (fun _ h => absurd h List.not_mem_nil)⟩)⟩)
  exact DE.take (i := 1) (L' := #[false, true, false, false, false, false, false, false, false]) rfl (.inl rfl) rfl (by kernel_rfl) (by kernel_rfl) (by kernel_rfl) (EStep.le (EStep.ofN2 tbok (σ' := ⟨52, [(46, vl eOp aLog), (0, vl eOp aLog), (11, .ref 11 0), (44, .agg [vi aOffice, vi (w64 (x8 + 1)), vs aKey, vs aText, vl (eI .i64) x7])], [(11, .box [vi aOffice, vi (w64 (x8 + 1)), vs aKey, vs aText, vl (eI .i64) x7])]⟩) (by kernel_rfl)) Le.sub0) (by kernel_rfl) d1
  refine nx_n ?_
  refine swp_ret ?_
  replace h := Option.some.inj h
  subst h
  exact q_fr (fin2 (by kernel_rfl) (finD (d := 51) (holds_t (by kernel_rfl)) (by kernel_rfl) (by kernel_rfl)) (finV rfl SV.flat_of (holds_t (by kernel_rfl))))
theorem ents32 : Ents Tryd.prog 32 := ents_of Tryd.func32 (by kernel_rfl) rfl
noncomputable def spec_l32Grow (aS : l01Source) (aLog : (List Op)) (aN : Int) : Option ((List Op) × l01Source) :=
  (((loop (fun (s3 : (List Op) × Int × l01Source) => (bif (decide (s3.2.1 > 0)) then ((((spec_l01Next s3.2.2 4).bind fun x7 => ((spec_l01Next x7.2 2).bind fun x8 => ((at' ([(ByteArray.mk #[97, 115, 104]), (ByteArray.mk #[98, 114, 105, 103])] : List ByteArray) x8.1).bind fun x9 => ((spec_l01GoodPhrase x8.2).bind fun x10 => ((spec_MakeOp s3.1 x7.1 x9 x10.1).bind fun x11 => (bif (x11.2 == 0) then some (x11.1, x10.2) else some (s3.1, x10.2)))))))).bind fun (j5 : (List Op) × l01Source) => some (.inl (j5.1, (w64 (s3.2.1 - 1)), j5.2))) else some (.inr (s3.1, s3.2.2)))) (aLog, aN, aS))).bind fun (j1 : (List Op) × l01Source) => some (j1.1, j1.2))
set_option maxRecDepth 100000 in
set_option maxHeartbeats 4000000 in
theorem spec_l32Grow_run (aS : l01Source) (aLog : (List Op)) (aN : Int) (r : (List Op) × l01Source) (h : spec_l32Grow aS aLog aN = some r) : SCall Tryd.prog 93 [.o (.box [vl (eI .u8) aS.code, vi aS.at', vi aS.seed]), .v (vl eOp aLog), .v (vi aN)] ⟨[.v (vl eOp r.1)], [(0, .box [vl (eI .u8) r.2.code, vi r.2.at', vi r.2.seed])], true⟩ := by
  refine scall_in Tryd.func93 rfl [(.tmp 6)] rfl (fun r => ⟨[.v (vl eOp r.1)], [(0, .box [vl (eI .u8) r.2.code, vi r.2.at', vi r.2.seed])], true⟩) (r := r) ?_
  unfold spec_l32Grow at h
  refine swp_seq ?_
  refine swp_reg ?_
  refine SRun.ck tbok 1 ⟨31, [(0, .ref 1000000 0), (1, vl eOp aLog), (2, vi aN)], [(1000000, .box [vl (eI .u8) aS.code, vi aS.at', vi aS.seed])]⟩ ?_
  refine SRun.nil ?_
  refine nx_n ?_
  refine swp_seq ?_
  refine swp_seqJ h (fun j1 => ⟨31, [(1, vl eOp j1.1)], [(1000000, .box [vl (eI .u8) j1.2.code, vi j1.2.at', vi j1.2.seed])]⟩) (fun v2 h => ?_) (fun j1 h => ?_)
  refine swp_blk (a := v2) ?_
  refine swp_lpL (r := v2) (s := (aLog, aN, aS)) _ (fun s3 => ⟨31, [(0, .ref 1000000 0), (1, vl eOp s3.1), (2, vi s3.2.1)], [(1000000, .box [vl (eI .u8) s3.2.2.code, vi s3.2.2.at', vi s3.2.2.seed])]⟩) _ (Le.sub0) h (fun s3 v4 h => ?_)
  refine swp_seq ?_
  refine swp_seq ?_
  refine swp_reg ?_
  refine SRun.ck tbok 2 ⟨31, [(0, .ref 1000000 0), (1, vl eOp s3.1), (2, vi s3.2.1), (10, vb (decide (s3.2.1 > 0)))], [(1000000, .box [vl (eI .u8) s3.2.2.code, vi s3.2.2.at', vi s3.2.2.seed])]⟩ ?_
  refine SRun.nil ?_
  refine nx_n ?_
  refine swp_cond (b := (decide (s3.2.1 > 0))) (by kernel_rfl) (fun hb => ?_) (fun hb => ?_)
  replace h := cond_t hb h
  refine swp_skip ?_
  refine nx_n ?_
  refine swp_seq ?_
  refine swp_seqJ h (fun j5 => ⟨31, [(0, .ref 1000000 0), (1, vl eOp j5.1), (2, vi s3.2.1)], [(1000000, .box [vl (eI .u8) j5.2.code, vi j5.2.at', vi j5.2.seed])]⟩) (fun v6 h => ?_) (fun j5 h => ?_)
  refine swp_blk (a := v6) ?_
  refine swp_seq ?_
  obtain ⟨x7, hx7, h⟩ := bind_some h
  obtain ⟨x8, hx8, h⟩ := bind_some h
  obtain ⟨x9, hx9, h⟩ := bind_some h
  obtain ⟨x10, hx10, h⟩ := bind_some h
  obtain ⟨x11, hx11, h⟩ := bind_some h
  refine swp_dr mixed ?_
  refine DGo.enum (σE := ⟨31, [(0, .ref 1000000 0), (1, vl eOp s3.1), (2, vi s3.2.1), (7, .own 24), (8, vi x11.2)], [(24, .deep 61 5 x11.1.length [.flat, .flat, .flat, .flat, (.sl 2 1 [.flat])] (x11.1.map eOp)), (1000000, .box [vl (eI .u8) x10.2.code, vi x10.2.at', vi x10.2.seed])]⟩) (n := 16) (L0 := #[false, false, false, false, false, false, false, false, false, false, false, false, false, false, false, false]) (by kernel_rfl) (by kernel_rfl) (fun K hk => ?_) ?_
  refine DE.share (fuel := 0) (L := #[true, true, true, true, true, true, true, true, true, true, true, true, true, true, true, true]) (σ := ⟨31, [(0, .ref 1000000 0), (1, vl eOp s3.1), (2, vi s3.2.1), (7, .own 24), (8, vi x11.2)], [(24, .deep 61 5 x11.1.length [.flat, .flat, .flat, .flat, (.sl 2 1 [.flat])] (x11.1.map eOp)), (1000000, .box [vl (eI .u8) x10.2.code, vi x10.2.at', vi x10.2.seed])]⟩) ?_ (fun d23 => ?_)
  exact DE.done (by kernel_rfl) hk
  refine DE.share (fuel := 1) (L := #[true, true, true, true, true, true, true, true, true, true, true, true, true, true, true, false]) (σ := ⟨31, [(0, .ref 1000000 0), (1, vl eOp s3.1), (2, vi s3.2.1), (7, .own 24), (26, vi x11.2)], [(24, .deep 61 5 x11.1.length [.flat, .flat, .flat, .flat, (.sl 2 1 [.flat])] (x11.1.map eOp)), (1000000, .box [vl (eI .u8) x10.2.code, vi x10.2.at', vi x10.2.seed])]⟩) ?_ (fun d22 => ?_)
  exact DE.take (i := 15) (L' := #[true, true, true, true, true, true, true, true, true, true, true, true, true, true, true, true]) rfl (.inr rfl) rfl (by kernel_rfl) (by kernel_rfl) (by kernel_rfl) (EStep.le (EStep.ofN2 tbok (σ' := ⟨31, [(8, vi x11.2), (0, .ref 1000000 0), (1, vl eOp s3.1), (2, vi s3.2.1), (7, .own 24), (26, vi x11.2)], [(24, .deep 61 5 x11.1.length [.flat, .flat, .flat, .flat, (.sl 2 1 [.flat])] (x11.1.map eOp)), (1000000, .box [vl (eI .u8) x10.2.code, vi x10.2.at', vi x10.2.seed])]⟩) (by kernel_rfl)) Le.sub0) (by kernel_rfl) d23
  refine DE.share (fuel := 2) (L := #[true, true, true, true, true, true, true, true, true, true, true, true, true, true, false, false]) (σ := ⟨31, [(0, .ref 1000000 0), (1, vl eOp s3.1), (2, vi s3.2.1), (25, .own 24), (26, vi x11.2)], [(24, .deep 61 5 x11.1.length [.flat, .flat, .flat, .flat, (.sl 2 1 [.flat])] (x11.1.map eOp)), (1000000, .box [vl (eI .u8) x10.2.code, vi x10.2.at', vi x10.2.seed])]⟩) ?_ (fun d21 => ?_)
  exact DE.take (i := 14) (L' := #[true, true, true, true, true, true, true, true, true, true, true, true, true, true, true, false]) rfl (.inr rfl) rfl (by kernel_rfl) (by kernel_rfl) (by kernel_rfl) (EStep.le (EStep.ofN2 tbok (σ' := ⟨31, [(7, .own 24), (0, .ref 1000000 0), (1, vl eOp s3.1), (2, vi s3.2.1), (25, .own 24), (26, vi x11.2)], [(24, .deep 61 5 x11.1.length [.flat, .flat, .flat, .flat, (.sl 2 1 [.flat])] (x11.1.map eOp)), (1000000, .box [vl (eI .u8) x10.2.code, vi x10.2.at', vi x10.2.seed])]⟩) (by kernel_rfl)) Le.sub0) (by kernel_rfl) d22
  refine DE.share (fuel := 2) (L := #[true, true, true, true, true, true, true, true, true, true, true, true, true, false, true, false]) (σ := ⟨31, [(0, .ref 1000000 0), (1, vl eOp s3.1), (2, vi s3.2.1), (7, .own 24), (13, .tup [.own 24, vi x11.2])], [(24, .deep 61 5 x11.1.length [.flat, .flat, .flat, .flat, (.sl 2 1 [.flat])] (x11.1.map eOp)), (1000000, .box [vl (eI .u8) x10.2.code, vi x10.2.at', vi x10.2.seed])]⟩) ?_ (fun d20 => ?_)
  exact DE.all [13] (by kernel_rfl) (by simp) (List.forall_mem_cons.2 ⟨DEs.mk (i := 13) (L' := #[true, true, true, true, true, true, true, true, true, true, true, true, true, true, true, false]) rfl (EStep.le (EStep.ofN2 tbok (σ' := ⟨31, [(26, vi x11.2), (0, .ref 1000000 0), (1, vl eOp s3.1), (2, vi s3.2.1), (7, .own 24), (13, .tup [.own 24, vi x11.2])], [(24, .deep 61 5 x11.1.length [.flat, .flat, .flat, .flat, (.sl 2 1 [.flat])] (x11.1.map eOp)), (1000000, .box [vl (eI .u8) x10.2.code, vi x10.2.at', vi x10.2.seed])]⟩) (by kernel_rfl)) Le.sub0) (by kernel_rfl) d22, (fun _ h => absurd h List.not_mem_nil)⟩)
  refine DE.share (fuel := 3) (L := #[true, true, true, true, true, true, true, true, true, true, true, true, false, true, false, false]) (σ := ⟨31, [(0, .ref 1000000 0), (1, vl eOp s3.1), (2, vi s3.2.1), (13, .tup [.own 24, vi x11.2]), (26, vi x11.2)], [(24, .deep 61 5 x11.1.length [.flat, .flat, .flat, .flat, (.sl 2 1 [.flat])] (x11.1.map eOp)), (1000000, .box [vl (eI .u8) x10.2.code, vi x10.2.at', vi x10.2.seed])]⟩) ?_ (fun d19 => ?_)
  exact DE.all [12] (by kernel_rfl) (by simp) (List.forall_mem_cons.2 ⟨DEs.mk (i := 12) (L' := #[true, true, true, true, true, true, true, true, true, true, true, true, true, true, false, false]) rfl (EStep.le (EStep.ofN2 tbok (σ' := ⟨31, [(25, .own 24), (0, .ref 1000000 0), (1, vl eOp s3.1), (2, vi s3.2.1), (13, .tup [.own 24, vi x11.2]), (26, vi x11.2)], [(24, .deep 61 5 x11.1.length [.flat, .flat, .flat, .flat, (.sl 2 1 [.flat])] (x11.1.map eOp)), (1000000, .box [vl (eI .u8) x10.2.code, vi x10.2.at', vi x10.2.seed])]⟩) (by kernel_rfl)) Le.sub0) (by kernel_rfl) d21, (fun _ h => absurd h List.not_mem_nil)⟩)
  refine DE.share (fuel := 3) (L := #[true, true, true, true, true, true, true, true, true, true, true, true, true, false, false, false]) (σ := ⟨31, [(0, .ref 1000000 0), (1, vl eOp s3.1), (2, vi s3.2.1), (13, .tup [.own 24, vi x11.2]), (25, .own 24)], [(24, .deep 61 5 x11.1.length [.flat, .flat, .flat, .flat, (.sl 2 1 [.flat])] (x11.1.map eOp)), (1000000, .box [vl (eI .u8) x10.2.code, vi x10.2.at', vi x10.2.seed])]⟩) ?_ (fun d18 => ?_)
  exact DE.take (i := 14) (L' := #[true, true, true, true, true, true, true, true, true, true, true, true, true, false, true, false]) rfl (.inr rfl) rfl (by kernel_rfl) (by kernel_rfl) (by kernel_rfl) (EStep.le (EStep.ofN2 tbok (σ' := ⟨31, [(7, .own 24), (0, .ref 1000000 0), (1, vl eOp s3.1), (2, vi s3.2.1), (13, .tup [.own 24, vi x11.2]), (25, .own 24)], [(24, .deep 61 5 x11.1.length [.flat, .flat, .flat, .flat, (.sl 2 1 [.flat])] (x11.1.map eOp)), (1000000, .box [vl (eI .u8) x10.2.code, vi x10.2.at', vi x10.2.seed])]⟩) (by kernel_rfl)) Le.sub0) (by kernel_rfl) d20
  refine DE.share (fuel := 4) (L := #[true, true, true, true, true, true, true, true, true, true, true, true, false, false, false, false]) (σ := ⟨31, [(0, .ref 1000000 0), (1, vl eOp s3.1), (2, vi s3.2.1), (13, .tup [.own 24, vi x11.2])], [(24, .deep 61 5 x11.1.length [.flat, .flat, .flat, .flat, (.sl 2 1 [.flat])] (x11.1.map eOp)), (1000000, .box [vl (eI .u8) x10.2.code, vi x10.2.at', vi x10.2.seed])]⟩) ?_ (fun d17 => ?_)
  exact DE.all [12, 13] (by kernel_rfl) (by simp) (List.forall_mem_cons.2 ⟨DEs.mk (i := 12) (L' := #[true, true, true, true, true, true, true, true, true, true, true, true, true, false, false, false]) rfl (EStep.le (EStep.ofN2 tbok (σ' := ⟨31, [(25, .own 24), (0, .ref 1000000 0), (1, vl eOp s3.1), (2, vi s3.2.1), (13, .tup [.own 24, vi x11.2])], [(24, .deep 61 5 x11.1.length [.flat, .flat, .flat, .flat, (.sl 2 1 [.flat])] (x11.1.map eOp)), (1000000, .box [vl (eI .u8) x10.2.code, vi x10.2.at', vi x10.2.seed])]⟩) (by kernel_rfl)) Le.sub0) (by kernel_rfl) d18, (List.forall_mem_cons.2 ⟨DEs.mk (i := 13) (L' := #[true, true, true, true, true, true, true, true, true, true, true, true, false, true, false, false]) rfl (EStep.le (EStep.ofN2 tbok (σ' := ⟨31, [(26, vi x11.2), (0, .ref 1000000 0), (1, vl eOp s3.1), (2, vi s3.2.1), (13, .tup [.own 24, vi x11.2])], [(24, .deep 61 5 x11.1.length [.flat, .flat, .flat, .flat, (.sl 2 1 [.flat])] (x11.1.map eOp)), (1000000, .box [vl (eI .u8) x10.2.code, vi x10.2.at', vi x10.2.seed])]⟩) (by kernel_rfl)) Le.sub0) (by kernel_rfl) d19, (fun _ h => absurd h List.not_mem_nil)⟩)⟩)
  refine DE.share (fuel := 5) (L := #[true, true, true, true, true, true, true, true, true, true, true, false, false, false, false, false]) (σ := ⟨31, [(0, .ref 1000000 0), (1, vl eOp s3.1), (2, vi s3.2.1), (24, .tup [.own 24, vi x11.2])], [(24, .deep 61 5 x11.1.length [.flat, .flat, .flat, .flat, (.sl 2 1 [.flat])] (x11.1.map eOp)), (1000000, .box [vl (eI .u8) x10.2.code, vi x10.2.at', vi x10.2.seed])]⟩) ?_ (fun d16 => ?_)
  exact DE.take (i := 11) (L' := #[true, true, true, true, true, true, true, true, true, true, true, true, false, false, false, false]) rfl (.inl rfl) rfl (by kernel_rfl) (by kernel_rfl) (by kernel_rfl) (EStep.le (EStep.ofN2 tbok (σ' := ⟨31, [(13, .tup [.own 24, vi x11.2]), (0, .ref 1000000 0), (1, vl eOp s3.1), (2, vi s3.2.1), (24, .tup [.own 24, vi x11.2])], [(24, .deep 61 5 x11.1.length [.flat, .flat, .flat, .flat, (.sl 2 1 [.flat])] (x11.1.map eOp)), (1000000, .box [vl (eI .u8) x10.2.code, vi x10.2.at', vi x10.2.seed])]⟩) (by kernel_rfl)) Le.sub0) (by kernel_rfl) d17
  refine DE.share (fuel := 6) (L := #[true, true, true, true, true, true, true, true, true, true, false, false, false, false, false, false]) (σ := ⟨31, [(0, .ref 1000000 0), (1, vl eOp s3.1), (2, vi s3.2.1), (14, vl eOp s3.1), (16, vi x7.1), (21, vs x9), (23, vs x10.1)], [(1000000, .box [vl (eI .u8) x10.2.code, vi x10.2.at', vi x10.2.seed])]⟩) ?_ (fun d15 => ?_)
  exact DE.all [10] (by kernel_rfl) (by simp) (List.forall_mem_cons.2 ⟨DEs.mk (i := 10) (L' := #[true, true, true, true, true, true, true, true, true, true, true, false, false, false, false, false]) rfl (EStep.le (EStep.ofL (x_lstep_call (f := 32) (caps := []) (xs := [vl eOp s3.1, vi x7.1, vs x9, vs x10.1]) (ys := [vl eOp s3.1, vi x7.1, vs x9, vs x10.1]) (res := ⟨[.deep 61 5 x11.1.length [.flat, .flat, .flat, .flat, (.sl 2 1 [.flat])] (x11.1.map eOp), .v (vi x11.2)], [], false⟩) (x := .tup [.own 24, vi x11.2]) (y := some (.deep 61 5 x11.1.length [.flat, .flat, .flat, .flat, (.sl 2 1 [.flat])] (x11.1.map eOp))) rfl ents32 (spec_MakeOp_run s3.1 x7.1 x9 x10.1 _ hx11) rfl (by intro hc; cases hc)) (by kernel_rfl)) Le.sub0) (by kernel_rfl) d16, (fun _ h => absurd h List.not_mem_nil)⟩)
  refine DE.share (fuel := 7) (L := #[true, true, true, true, true, true, true, false, true, true, false, false, false, false, false, false]) (σ := ⟨31, [(0, .ref 1000000 0), (1, vl eOp s3.1), (2, vi s3.2.1), (14, vl eOp s3.1), (16, vi x7.1), (20, .eref 17 1 (Int.toNat x8.1) 0), (23, vs x10.1)], [(17, .arr 9 1 ([(ByteArray.mk #[97, 115, 104]), (ByteArray.mk #[98, 114, 105, 103])] : List ByteArray).length (([(ByteArray.mk #[97, 115, 104]), (ByteArray.mk #[98, 114, 105, 103])] : List ByteArray).map eS)), (1000000, .box [vl (eI .u8) x10.2.code, vi x10.2.at', vi x10.2.seed])]⟩) ?_ (fun d14 => ?_)
  exact DE.all [7] (by kernel_rfl) (by simp) (List.forall_mem_cons.2 ⟨DEs.mk (i := 7) (L' := #[true, true, true, true, true, true, true, true, true, true, false, false, false, false, false, false]) rfl (EStep.le (EStep.ofL (x_load_own (d := 17) (m := 1) (j := 0) (L := ([(ByteArray.mk #[97, 115, 104]), (ByteArray.mk #[98, 114, 105, 103])] : List ByteArray)) (f := eS) (ti := ti9) (e := 9) (v := vs x9) tbok rfl hx9) (by kernel_rfl)) Le.sub0) (by kernel_rfl) d15, (fun _ h => absurd h List.not_mem_nil)⟩)
  refine DE.share (fuel := 7) (L := #[true, true, true, true, true, true, true, true, true, false, false, false, false, false, false, false]) (σ := ⟨31, [(0, .ref 1000000 0), (1, vl eOp s3.1), (2, vi s3.2.1), (14, vl eOp s3.1), (16, vi x7.1), (21, vs x9), (22, .ref 1000000 0)], [(1000000, .box [vl (eI .u8) x8.2.code, vi x8.2.at', vi x8.2.seed])]⟩) ?_ (fun d13 => ?_)
  exact DE.all [9] (by kernel_rfl) (by simp) (List.forall_mem_cons.2 ⟨DEs.mk (i := 9) (L' := #[true, true, true, true, true, true, true, true, true, true, false, false, false, false, false, false]) rfl (EStep.le (x_estep_call (f := 95) (caps := []) (xs := [.ref 1000000 0]) (pre := []) (post := []) (qs := []) (z := .ref 1000000 0) (d := 1000000) (pl := 0) (y := .box [vl (eI .u8) x8.2.code, vi x8.2.at', vi x8.2.seed]) (y' := .box [vl (eI .u8) x10.2.code, vi x10.2.at', vi x10.2.seed]) (res := ⟨[.v (vs x10.1)], [(0, .box [vl (eI .u8) x10.2.code, vi x10.2.at', vi x10.2.seed])], false⟩) (x := vs x10.1) (yo := none) rfl rfl rfl rfl rfl ents95 (spec_l01GoodPhrase_run x8.2 _ hx10) rfl rfl false (fun _ => rfl) (by intro hc; cases hc)) Le.sub0) (by kernel_rfl) d15, (fun _ h => absurd h List.not_mem_nil)⟩)
  refine DE.share (fuel := 8) (L := #[true, true, true, true, true, true, false, false, true, true, false, false, false, false, false, false]) (σ := ⟨31, [(0, .ref 1000000 0), (1, vl eOp s3.1), (2, vi s3.2.1), (14, vl eOp s3.1), (16, vi x7.1), (17, .own 17), (19, vi x8.1), (23, vs x10.1)], [(17, .arr 9 1 ([(ByteArray.mk #[97, 115, 104]), (ByteArray.mk #[98, 114, 105, 103])] : List ByteArray).length (([(ByteArray.mk #[97, 115, 104]), (ByteArray.mk #[98, 114, 105, 103])] : List ByteArray).map eS)), (1000000, .box [vl (eI .u8) x10.2.code, vi x10.2.at', vi x10.2.seed])]⟩) ?_ (fun d12 => ?_)
  exact DE.all [6] (by kernel_rfl) (by simp) (List.forall_mem_cons.2 ⟨DEs.mk (i := 6) (L' := #[true, true, true, true, true, true, true, false, true, true, false, false, false, false, false, false]) rfl (EStep.le (EStep.ofL (x_index_own (d := 17) (L := ([(ByteArray.mk #[97, 115, 104]), (ByteArray.mk #[98, 114, 105, 103])] : List ByteArray)) (f := eS) (ti := ti86) (tj := ti9) (e := 9) (e' := 9) (m := 1) (k := .i64) tbok rfl hx9) (by kernel_rfl)) Le.sub0) (by kernel_rfl) d14, (fun _ h => absurd h List.not_mem_nil)⟩)
  refine DE.share (fuel := 8) (L := #[true, true, true, true, true, true, true, false, true, false, false, false, false, false, false, false]) (σ := ⟨31, [(0, .ref 1000000 0), (1, vl eOp s3.1), (2, vi s3.2.1), (14, vl eOp s3.1), (16, vi x7.1), (20, .eref 17 1 (Int.toNat x8.1) 0), (22, .ref 1000000 0)], [(17, .arr 9 1 ([(ByteArray.mk #[97, 115, 104]), (ByteArray.mk #[98, 114, 105, 103])] : List ByteArray).length (([(ByteArray.mk #[97, 115, 104]), (ByteArray.mk #[98, 114, 105, 103])] : List ByteArray).map eS)), (1000000, .box [vl (eI .u8) x8.2.code, vi x8.2.at', vi x8.2.seed])]⟩) ?_ (fun d11 => ?_)
  exact DE.all [7, 9] (by kernel_rfl) (by simp) (List.forall_mem_cons.2 ⟨DEs.mk (i := 7) (L' := #[true, true, true, true, true, true, true, true, true, false, false, false, false, false, false, false]) rfl (EStep.le (EStep.ofL (x_load_own (d := 17) (m := 1) (j := 0) (L := ([(ByteArray.mk #[97, 115, 104]), (ByteArray.mk #[98, 114, 105, 103])] : List ByteArray)) (f := eS) (ti := ti9) (e := 9) (v := vs x9) tbok rfl hx9) (by kernel_rfl)) Le.sub0) (by kernel_rfl) d13, (List.forall_mem_cons.2 ⟨DEs.mk (i := 9) (L' := #[true, true, true, true, true, true, true, false, true, true, false, false, false, false, false, false]) rfl (EStep.le (x_estep_call (f := 95) (caps := []) (xs := [.ref 1000000 0]) (pre := []) (post := []) (qs := []) (z := .ref 1000000 0) (d := 1000000) (pl := 0) (y := .box [vl (eI .u8) x8.2.code, vi x8.2.at', vi x8.2.seed]) (y' := .box [vl (eI .u8) x10.2.code, vi x10.2.at', vi x10.2.seed]) (res := ⟨[.v (vs x10.1)], [(0, .box [vl (eI .u8) x10.2.code, vi x10.2.at', vi x10.2.seed])], false⟩) (x := vs x10.1) (yo := none) rfl rfl rfl rfl rfl ents95 (spec_l01GoodPhrase_run x8.2 _ hx10) rfl rfl false (fun _ => rfl) (by intro hc; cases hc)) Le.sub0) (by kernel_rfl) d14, (fun _ h => absurd h List.not_mem_nil)⟩)⟩)
  refine DE.share (fuel := 9) (L := #[true, true, true, false, true, true, false, false, true, true, false, false, false, false, false, false]) (σ := ⟨31, [(0, .ref 1000000 0), (1, vl eOp s3.1), (2, vi s3.2.1), (14, vl eOp s3.1), (16, vi x7.1), (19, vi x8.1), (23, vs x10.1)], [(1000000, .box [vl (eI .u8) x10.2.code, vi x10.2.at', vi x10.2.seed])]⟩) ?_ (fun d10 => ?_)
  exact DE.all [3] (by kernel_rfl) (by simp) (List.forall_mem_cons.2 ⟨DEs.mk (i := 3) (L' := #[true, true, true, true, true, true, false, false, true, true, false, false, false, false, false, false]) rfl (EStep.le (EStep.ofN2 tbok (σ' := ⟨31, [(17, .own 17), (0, .ref 1000000 0), (1, vl eOp s3.1), (2, vi s3.2.1), (14, vl eOp s3.1), (16, vi x7.1), (19, vi x8.1), (23, vs x10.1)], [(17, .arr 9 1 ([(ByteArray.mk #[97, 115, 104]), (ByteArray.mk #[98, 114, 105, 103])] : List ByteArray).length (([(ByteArray.mk #[97, 115, 104]), (ByteArray.mk #[98, 114, 105, 103])] : List ByteArray).map eS)), (1000000, .box [vl (eI .u8) x10.2.code, vi x10.2.at', vi x10.2.seed])]⟩) (by kernel_rfl)) Le.sub0) (by kernel_rfl) d12, (fun _ h => absurd h List.not_mem_nil)⟩)
  refine DE.share (fuel := 9) (L := #[true, true, true, true, true, true, false, false, true, false, false, false, false, false, false, false]) (σ := ⟨31, [(0, .ref 1000000 0), (1, vl eOp s3.1), (2, vi s3.2.1), (14, vl eOp s3.1), (16, vi x7.1), (17, .own 17), (19, vi x8.1), (22, .ref 1000000 0)], [(17, .arr 9 1 ([(ByteArray.mk #[97, 115, 104]), (ByteArray.mk #[98, 114, 105, 103])] : List ByteArray).length (([(ByteArray.mk #[97, 115, 104]), (ByteArray.mk #[98, 114, 105, 103])] : List ByteArray).map eS)), (1000000, .box [vl (eI .u8) x8.2.code, vi x8.2.at', vi x8.2.seed])]⟩) ?_ (fun d9 => ?_)
  exact DE.all [6, 9] (by kernel_rfl) (by simp) (List.forall_mem_cons.2 ⟨DEs.mk (i := 6) (L' := #[true, true, true, true, true, true, true, false, true, false, false, false, false, false, false, false]) rfl (EStep.le (EStep.ofL (x_index_own (d := 17) (L := ([(ByteArray.mk #[97, 115, 104]), (ByteArray.mk #[98, 114, 105, 103])] : List ByteArray)) (f := eS) (ti := ti86) (tj := ti9) (e := 9) (e' := 9) (m := 1) (k := .i64) tbok rfl hx9) (by kernel_rfl)) Le.sub0) (by kernel_rfl) d11, (List.forall_mem_cons.2 ⟨DEs.mk (i := 9) (L' := #[true, true, true, true, true, true, false, false, true, true, false, false, false, false, false, false]) rfl (EStep.le (x_estep_call (f := 95) (caps := []) (xs := [.ref 1000000 0]) (pre := []) (post := []) (qs := []) (z := .ref 1000000 0) (d := 1000000) (pl := 0) (y := .box [vl (eI .u8) x8.2.code, vi x8.2.at', vi x8.2.seed]) (y' := .box [vl (eI .u8) x10.2.code, vi x10.2.at', vi x10.2.seed]) (res := ⟨[.v (vs x10.1)], [(0, .box [vl (eI .u8) x10.2.code, vi x10.2.at', vi x10.2.seed])], false⟩) (x := vs x10.1) (yo := none) rfl rfl rfl rfl rfl ents95 (spec_l01GoodPhrase_run x8.2 _ hx10) rfl rfl false (fun _ => rfl) (by intro hc; cases hc)) Le.sub0) (by kernel_rfl) d12, (fun _ h => absurd h List.not_mem_nil)⟩)⟩)
  refine DE.share (fuel := 10) (L := #[true, true, true, false, true, true, false, false, true, false, false, false, false, false, false, false]) (σ := ⟨31, [(0, .ref 1000000 0), (1, vl eOp s3.1), (2, vi s3.2.1), (14, vl eOp s3.1), (16, vi x7.1), (19, vi x8.1), (22, .ref 1000000 0)], [(1000000, .box [vl (eI .u8) x8.2.code, vi x8.2.at', vi x8.2.seed])]⟩) ?_ (fun d8 => ?_)
  exact DE.all [3, 9] (by kernel_rfl) (by simp) (List.forall_mem_cons.2 ⟨DEs.mk (i := 3) (L' := #[true, true, true, true, true, true, false, false, true, false, false, false, false, false, false, false]) rfl (EStep.le (EStep.ofN2 tbok (σ' := ⟨31, [(17, .own 17), (0, .ref 1000000 0), (1, vl eOp s3.1), (2, vi s3.2.1), (14, vl eOp s3.1), (16, vi x7.1), (19, vi x8.1), (22, .ref 1000000 0)], [(17, .arr 9 1 ([(ByteArray.mk #[97, 115, 104]), (ByteArray.mk #[98, 114, 105, 103])] : List ByteArray).length (([(ByteArray.mk #[97, 115, 104]), (ByteArray.mk #[98, 114, 105, 103])] : List ByteArray).map eS)), (1000000, .box [vl (eI .u8) x8.2.code, vi x8.2.at', vi x8.2.seed])]⟩) (by kernel_rfl)) Le.sub0) (by kernel_rfl) d9, (List.forall_mem_cons.2 ⟨DEs.mk (i := 9) (L' := #[true, true, true, false, true, true, false, false, true, true, false, false, false, false, false, false]) rfl (EStep.le (x_estep_call (f := 95) (caps := []) (xs := [.ref 1000000 0]) (pre := []) (post := []) (qs := []) (z := .ref 1000000 0) (d := 1000000) (pl := 0) (y := .box [vl (eI .u8) x8.2.code, vi x8.2.at', vi x8.2.seed]) (y' := .box [vl (eI .u8) x10.2.code, vi x10.2.at', vi x10.2.seed]) (res := ⟨[.v (vs x10.1)], [(0, .box [vl (eI .u8) x10.2.code, vi x10.2.at', vi x10.2.seed])], false⟩) (x := vs x10.1) (yo := none) rfl rfl rfl rfl rfl ents95 (spec_l01GoodPhrase_run x8.2 _ hx10) rfl rfl false (fun _ => rfl) (by intro hc; cases hc)) Le.sub0) (by kernel_rfl) d10, (fun _ h => absurd h List.not_mem_nil)⟩)⟩)
  refine DE.share (fuel := 10) (L := #[true, true, true, true, true, false, false, false, true, false, false, false, false, false, false, false]) (σ := ⟨31, [(0, .ref 1000000 0), (1, vl eOp s3.1), (2, vi s3.2.1), (14, vl eOp s3.1), (16, vi x7.1), (17, .own 17), (18, .ref 1000000 0), (22, .ref 1000000 0)], [(17, .arr 9 1 ([(ByteArray.mk #[97, 115, 104]), (ByteArray.mk #[98, 114, 105, 103])] : List ByteArray).length (([(ByteArray.mk #[97, 115, 104]), (ByteArray.mk #[98, 114, 105, 103])] : List ByteArray).map eS)), (1000000, .box [vl (eI .u8) x7.2.code, vi x7.2.at', vi x7.2.seed])]⟩) ?_ (fun d7 => ?_)
  exact DE.all [5] (by kernel_rfl) (by simp) (List.forall_mem_cons.2 ⟨DEs.mk (i := 5) (L' := #[true, true, true, true, true, true, false, false, true, false, false, false, false, false, false, false]) rfl (EStep.le (x_estep_call (f := 77) (caps := []) (xs := [.ref 1000000 0, vi 2]) (pre := []) (post := [vi 2]) (qs := [vi 2]) (z := .ref 1000000 0) (d := 1000000) (pl := 0) (y := .box [vl (eI .u8) x7.2.code, vi x7.2.at', vi x7.2.seed]) (y' := .box [vl (eI .u8) x8.2.code, vi x8.2.at', vi x8.2.seed]) (res := ⟨[.v (vi x8.1)], [(0, .box [vl (eI .u8) x8.2.code, vi x8.2.at', vi x8.2.seed])], false⟩) (x := vi x8.1) (yo := none) rfl rfl rfl rfl rfl ents77 (spec_l01Next_run x7.2 2 _ hx8) rfl rfl false (fun _ => rfl) (by intro hc; cases hc)) Le.sub0) (by kernel_rfl) d9, (fun _ h => absurd h List.not_mem_nil)⟩)
  refine DE.share (fuel := 11) (L := #[true, true, false, true, true, false, false, false, true, false, false, false, false, false, false, false]) (σ := ⟨31, [(0, .ref 1000000 0), (1, vl eOp s3.1), (2, vi s3.2.1), (14, vl eOp s3.1), (15, .ref 1000000 0), (17, .own 17), (18, .ref 1000000 0), (22, .ref 1000000 0)], [(17, .arr 9 1 ([(ByteArray.mk #[97, 115, 104]), (ByteArray.mk #[98, 114, 105, 103])] : List ByteArray).length (([(ByteArray.mk #[97, 115, 104]), (ByteArray.mk #[98, 114, 105, 103])] : List ByteArray).map eS)), (1000000, .box [vl (eI .u8) s3.2.2.code, vi s3.2.2.at', vi s3.2.2.seed])]⟩) ?_ (fun d6 => ?_)
  exact DE.all [2] (by kernel_rfl) (by simp) (List.forall_mem_cons.2 ⟨DEs.mk (i := 2) (L' := #[true, true, true, true, true, false, false, false, true, false, false, false, false, false, false, false]) rfl (EStep.le (x_estep_call (f := 77) (caps := []) (xs := [.ref 1000000 0, vi 4]) (pre := []) (post := [vi 4]) (qs := [vi 4]) (z := .ref 1000000 0) (d := 1000000) (pl := 0) (y := .box [vl (eI .u8) s3.2.2.code, vi s3.2.2.at', vi s3.2.2.seed]) (y' := .box [vl (eI .u8) x7.2.code, vi x7.2.at', vi x7.2.seed]) (res := ⟨[.v (vi x7.1)], [(0, .box [vl (eI .u8) x7.2.code, vi x7.2.at', vi x7.2.seed])], false⟩) (x := vi x7.1) (yo := none) rfl rfl rfl rfl rfl ents77 (spec_l01Next_run s3.2.2 4 _ hx7) rfl rfl false (fun _ => rfl) (by intro hc; cases hc)) Le.sub0) (by kernel_rfl) d7, (fun _ h => absurd h List.not_mem_nil)⟩)
  refine DE.share (fuel := 11) (L := #[true, true, true, false, true, false, false, false, true, false, false, false, false, false, false, false]) (σ := ⟨31, [(0, .ref 1000000 0), (1, vl eOp s3.1), (2, vi s3.2.1), (14, vl eOp s3.1), (16, vi x7.1), (18, .ref 1000000 0), (22, .ref 1000000 0)], [(1000000, .box [vl (eI .u8) x7.2.code, vi x7.2.at', vi x7.2.seed])]⟩) ?_ (fun d5 => ?_)
  exact DE.all [3, 5] (by kernel_rfl) (by simp) (List.forall_mem_cons.2 ⟨DEs.mk (i := 3) (L' := #[true, true, true, true, true, false, false, false, true, false, false, false, false, false, false, false]) rfl (EStep.le (EStep.ofN2 tbok (σ' := ⟨31, [(17, .own 17), (0, .ref 1000000 0), (1, vl eOp s3.1), (2, vi s3.2.1), (14, vl eOp s3.1), (16, vi x7.1), (18, .ref 1000000 0), (22, .ref 1000000 0)], [(17, .arr 9 1 ([(ByteArray.mk #[97, 115, 104]), (ByteArray.mk #[98, 114, 105, 103])] : List ByteArray).length (([(ByteArray.mk #[97, 115, 104]), (ByteArray.mk #[98, 114, 105, 103])] : List ByteArray).map eS)), (1000000, .box [vl (eI .u8) x7.2.code, vi x7.2.at', vi x7.2.seed])]⟩) (by kernel_rfl)) Le.sub0) (by kernel_rfl) d7, (List.forall_mem_cons.2 ⟨DEs.mk (i := 5) (L' := #[true, true, true, false, true, true, false, false, true, false, false, false, false, false, false, false]) rfl (EStep.le (x_estep_call (f := 77) (caps := []) (xs := [.ref 1000000 0, vi 2]) (pre := []) (post := [vi 2]) (qs := [vi 2]) (z := .ref 1000000 0) (d := 1000000) (pl := 0) (y := .box [vl (eI .u8) x7.2.code, vi x7.2.at', vi x7.2.seed]) (y' := .box [vl (eI .u8) x8.2.code, vi x8.2.at', vi x8.2.seed]) (res := ⟨[.v (vi x8.1)], [(0, .box [vl (eI .u8) x8.2.code, vi x8.2.at', vi x8.2.seed])], false⟩) (x := vi x8.1) (yo := none) rfl rfl rfl rfl rfl ents77 (spec_l01Next_run x7.2 2 _ hx8) rfl rfl false (fun _ => rfl) (by intro hc; cases hc)) Le.sub0) (by kernel_rfl) d8, (fun _ h => absurd h List.not_mem_nil)⟩)⟩)
  refine DE.share (fuel := 12) (L := #[true, true, false, false, true, false, false, false, true, false, false, false, false, false, false, false]) (σ := ⟨31, [(0, .ref 1000000 0), (1, vl eOp s3.1), (2, vi s3.2.1), (14, vl eOp s3.1), (15, .ref 1000000 0), (18, .ref 1000000 0), (22, .ref 1000000 0)], [(1000000, .box [vl (eI .u8) s3.2.2.code, vi s3.2.2.at', vi s3.2.2.seed])]⟩) ?_ (fun d4 => ?_)
  exact DE.all [2, 3] (by kernel_rfl) (by simp) (List.forall_mem_cons.2 ⟨DEs.mk (i := 2) (L' := #[true, true, true, false, true, false, false, false, true, false, false, false, false, false, false, false]) rfl (EStep.le (x_estep_call (f := 77) (caps := []) (xs := [.ref 1000000 0, vi 4]) (pre := []) (post := [vi 4]) (qs := [vi 4]) (z := .ref 1000000 0) (d := 1000000) (pl := 0) (y := .box [vl (eI .u8) s3.2.2.code, vi s3.2.2.at', vi s3.2.2.seed]) (y' := .box [vl (eI .u8) x7.2.code, vi x7.2.at', vi x7.2.seed]) (res := ⟨[.v (vi x7.1)], [(0, .box [vl (eI .u8) x7.2.code, vi x7.2.at', vi x7.2.seed])], false⟩) (x := vi x7.1) (yo := none) rfl rfl rfl rfl rfl ents77 (spec_l01Next_run s3.2.2 4 _ hx7) rfl rfl false (fun _ => rfl) (by intro hc; cases hc)) Le.sub0) (by kernel_rfl) d5, (List.forall_mem_cons.2 ⟨DEs.mk (i := 3) (L' := #[true, true, false, true, true, false, false, false, true, false, false, false, false, false, false, false]) rfl (EStep.le (EStep.ofN2 tbok (σ' := ⟨31, [(17, .own 17), (0, .ref 1000000 0), (1, vl eOp s3.1), (2, vi s3.2.1), (14, vl eOp s3.1), (15, .ref 1000000 0), (18, .ref 1000000 0), (22, .ref 1000000 0)], [(17, .arr 9 1 ([(ByteArray.mk #[97, 115, 104]), (ByteArray.mk #[98, 114, 105, 103])] : List ByteArray).length (([(ByteArray.mk #[97, 115, 104]), (ByteArray.mk #[98, 114, 105, 103])] : List ByteArray).map eS)), (1000000, .box [vl (eI .u8) s3.2.2.code, vi s3.2.2.at', vi s3.2.2.seed])]⟩) (by kernel_rfl)) Le.sub0) (by kernel_rfl) d6, (fun _ h => absurd h List.not_mem_nil)⟩)⟩)
  refine DE.share (fuel := 13) (L := #[true, true, false, false, true, false, false, false, false, false, false, false, false, false, false, false]) (σ := ⟨31, [(0, .ref 1000000 0), (1, vl eOp s3.1), (2, vi s3.2.1), (14, vl eOp s3.1), (15, .ref 1000000 0), (18, .ref 1000000 0)], [(1000000, .box [vl (eI .u8) s3.2.2.code, vi s3.2.2.at', vi s3.2.2.seed])]⟩) ?_ (fun d3 => ?_)
  exact DE.take (i := 8) (L' := #[true, true, false, false, true, false, false, false, true, false, false, false, false, false, false, false]) rfl (.inl rfl) rfl (by kernel_rfl) (by kernel_rfl) (by kernel_rfl) (EStep.le (EStep.ofN2 tbok (σ' := ⟨31, [(22, .ref 1000000 0), (0, .ref 1000000 0), (1, vl eOp s3.1), (2, vi s3.2.1), (14, vl eOp s3.1), (15, .ref 1000000 0), (18, .ref 1000000 0)], [(1000000, .box [vl (eI .u8) s3.2.2.code, vi s3.2.2.at', vi s3.2.2.seed])]⟩) (by kernel_rfl)) Le.sub0) (by kernel_rfl) d4
  refine DE.share (fuel := 14) (L := #[true, true, false, false, false, false, false, false, false, false, false, false, false, false, false, false]) (σ := ⟨31, [(0, .ref 1000000 0), (1, vl eOp s3.1), (2, vi s3.2.1), (14, vl eOp s3.1), (15, .ref 1000000 0)], [(1000000, .box [vl (eI .u8) s3.2.2.code, vi s3.2.2.at', vi s3.2.2.seed])]⟩) ?_ (fun d2 => ?_)
  exact DE.take (i := 4) (L' := #[true, true, false, false, true, false, false, false, false, false, false, false, false, false, false, false]) rfl (.inl rfl) rfl (by kernel_rfl) (by kernel_rfl) (by kernel_rfl) (EStep.le (EStep.ofN2 tbok (σ' := ⟨31, [(18, .ref 1000000 0), (0, .ref 1000000 0), (1, vl eOp s3.1), (2, vi s3.2.1), (14, vl eOp s3.1), (15, .ref 1000000 0)], [(1000000, .box [vl (eI .u8) s3.2.2.code, vi s3.2.2.at', vi s3.2.2.seed])]⟩) (by kernel_rfl)) Le.sub0) (by kernel_rfl) d3
  refine DE.share (fuel := 15) (L := #[true, false, false, false, false, false, false, false, false, false, false, false, false, false, false, false]) (σ := ⟨31, [(0, .ref 1000000 0), (1, vl eOp s3.1), (2, vi s3.2.1), (14, vl eOp s3.1)], [(1000000, .box [vl (eI .u8) s3.2.2.code, vi s3.2.2.at', vi s3.2.2.seed])]⟩) ?_ (fun d1 => ?_)
  exact DE.take (i := 1) (L' := #[true, true, false, false, false, false, false, false, false, false, false, false, false, false, false, false]) rfl (.inl rfl) rfl (by kernel_rfl) (by kernel_rfl) (by kernel_rfl) (EStep.le (EStep.ofN2 tbok (σ' := ⟨31, [(15, .ref 1000000 0), (0, .ref 1000000 0), (1, vl eOp s3.1), (2, vi s3.2.1), (14, vl eOp s3.1)], [(1000000, .box [vl (eI .u8) s3.2.2.code, vi s3.2.2.at', vi s3.2.2.seed])]⟩) (by kernel_rfl)) Le.sub0) (by kernel_rfl) d2
  exact DE.take (i := 0) (L' := #[true, false, false, false, false, false, false, false, false, false, false, false, false, false, false, false]) rfl (.inl rfl) rfl (by kernel_rfl) (by kernel_rfl) (by kernel_rfl) (EStep.le (EStep.ofN2 tbok (σ' := ⟨31, [(14, vl eOp s3.1), (0, .ref 1000000 0), (1, vl eOp s3.1), (2, vi s3.2.1), (10, vb (decide (s3.2.1 > 0)))], [(1000000, .box [vl (eI .u8) s3.2.2.code, vi s3.2.2.at', vi s3.2.2.seed])]⟩) (by kernel_rfl)) Le.sub0) (by kernel_rfl) d1
  refine nx_n ?_
  refine swp_seq ?_
  refine swp_reg ?_
  refine SRun.ck tbok 2 ⟨31, [(0, .ref 1000000 0), (1, vl eOp s3.1), (2, vi s3.2.1), (7, .own 24), (28, vb (x11.2 == 0))], [(24, .deep 61 5 x11.1.length [.flat, .flat, .flat, .flat, (.sl 2 1 [.flat])] (x11.1.map eOp)), (1000000, .box [vl (eI .u8) x10.2.code, vi x10.2.at', vi x10.2.seed])]⟩ ?_
  refine SRun.nil ?_
  refine nx_n ?_
  refine swp_cond (b := (x11.2 == 0)) (by kernel_rfl) (fun hb => ?_) (fun hb => ?_)
  replace h := cond_t hb h
  refine swp_reg ?_
  refine SRun.ck tbok 2 ⟨31, [(0, .ref 1000000 0), (1, .own 24), (2, vi s3.2.1)], [(24, .deep 61 5 x11.1.length [.flat, .flat, .flat, .flat, (.sl 2 1 [.flat])] (x11.1.map eOp)), (1000000, .box [vl (eI .u8) x10.2.code, vi x10.2.at', vi x10.2.seed])]⟩ ?_
  refine SRun.nil ?_
  replace h := Option.some.inj h
  subst h
  exact q_bn (q_j ((Le.frzD' (d := 24) (e := 61) (m := 5) (n := x11.1.length) (ss := [.flat, .flat, .flat, .flat, (.sl 2 1 [.flat])]) (es := x11.1.map eOp) (by kernel_rfl) (by kernel_rfl)).trans (Le.sub0)))
  replace h := cond_f hb h
  refine swp_skip ?_
  replace h := Option.some.inj h
  subst h
  exact q_bn (q_j (Le.sub0))
  refine swp_reg ?_
  refine SRun.ck tbok 3 ⟨31, [(0, .ref 1000000 0), (1, vl eOp j5.1), (2, vi (w64 (s3.2.1 - 1)))], [(1000000, .box [vl (eI .u8) j5.2.code, vi j5.2.at', vi j5.2.seed])]⟩ ?_
  refine SRun.nil ?_
  replace h := Option.some.inj h
  subst h
  exact q_l (Le.sub0)
  replace h := cond_f hb h
  refine swp_exit ?_
  replace h := Option.some.inj h
  subst h
  exact nx_e (q_re (q_bh (q_j (Le.sub0))))
  refine swp_seq ?_
  refine swp_reg ?_
  refine SRun.ck tbok 2 ⟨31, [(6, vl eOp j1.1)], [(1000000, .box [vl (eI .u8) j1.2.code, vi j1.2.at', vi j1.2.seed])]⟩ ?_
  refine SRun.nil ?_
  refine nx_n ?_
  refine swp_ret ?_
  replace h := Option.some.inj h
  subst h
  exact q_fr (fin_io (fin1 (by kernel_rfl) (finT rfl (holds_t (by kernel_rfl)))) (y := .box [vl (eI .u8) j1.2.code, vi j1.2.at', vi j1.2.seed]) (by kernel_rfl) rfl (by kernel_rfl) (by kernel_rfl))
theorem ents93 : Ents Tryd.prog 93 := ents_of Tryd.func93 (by kernel_rfl) rfl
end Go.Proofs.YthfcdicfcepfhaaDoor.Sh
